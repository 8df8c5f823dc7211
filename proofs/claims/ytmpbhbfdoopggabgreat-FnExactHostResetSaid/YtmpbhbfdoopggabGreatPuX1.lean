import Derived.Test.YtmpbhbfdoopggabGreatDnData
import Derived.Test.YtmpbhbfdoopggabGreatPure
section
/- Plain laws of the partial operations and of loops. -/
namespace Go.Pu
open Go.Dn
theorem wrap64 {n:Int}(h1: -9223372036854775808≤n)(h2:n≤9223372036854775807):IntKind.wrap .i64 n=n:=by
 simp only [IntKind.wrap,IntKind.bits,IntKind.signed]
 simp
 omega
@[simp] theorem ab {α R:Type}(a:α)(k:α→Option R):aa (some a) k=k a:=rfl
@[simp] theorem Rv {α R:Type}(k:α→Option R):aa none k=none:=rfl
theorem Ru {α R:Type}(c:Bool)(x y:Option α)(k:α→Option R):aa (cond c x y) k=cond c (aa x k) (aa y k):=by cases c<;>rfl
@[simp] theorem sB {α R:Type}(c:Bool)(x y:α)(k:α→Option R):aa (cond c (some x) (some y)) k=k (cond c x y):=by cases c<;>rfl
theorem aB {α:Type}(c:Bool)(x y:α):cond c (some x) (some y)=some (cond c x y):=by cases c<;>rfl
theorem au {R:Type}{n:Nat}{k:Option R}(h:n≤1073741824):room n k=k:=by simp [room,h]
theorem ya {α:Type}(xs:List α)(i:Nat):idx xs (i:Int)=xs[i]?:=rfl
theorem ay {α:Type}{xs:List α}{i:Nat}(h:i<xs.length):idx xs (i:Int)=some xs[i]:=by rw [ya];exact List.getElem?_eq_getElem h
theorem aaQ {α:Type}{xs:List α}{i:Int}(h:i<0):idx xs i=none:=by
 cases i with
 |ofNat n=>simp at h;omega
 |negSucc n=>rfl
def O0 {σ R:Type}(step:Nat→σ→(σ→Option R)→Option R)(fin:σ→Option R)(N:Nat):Nat→Nat→σ→Option R
 |0,_,s=>fin s
 |n+1,i,s=>step i s (fun s'=>O0 step fin N n (i+1) s')
theorem yb {X σ R:Type}{T:(X→Option R)→X→Option R}(N:Nat)(e:σ→Nat→X)(step:Nat→σ→(σ→Option R)→Option R)(fin:σ→Option R)
 (hs:∀i s nx,i<N→T nx (e s i)=step i s (fun s'=>nx (e s' (i+1)))) (hf:∀s nx,T nx (e s N)=fin s):
 ∀n i s,i≤N→N-i<n→aq T n (e s i)=O0 step fin N (N-i) i s:=by
 intro n
 induction n with
 |zero=>intro i s _ h;omega
 |succ n ih=>
  intro i s hi hn
  rw [aq]
  rcases Nat.lt_or_ge i N with hlt|hge
  ·rw [hs i s _ hlt,show N-i=(N-(i+1))+1 by omega,O0]
   congr 1
   funext s'
   exact ih (i+1) s' (by omega) (by omega)
  ·have:i=N:=by omega
   subst this
   rw [hf,Nat.sub_self,O0]
def kW {α σ R:Type}(step:α→σ→(σ→Option R)→Option R)(fin:σ→Option R):List α→σ→Option R
 |[],s=>fin s
 |x::xs,s=>step x s (kW step fin xs)
theorem mE {α X σ R:Type}{T:(X→Option R)→X→Option R}(xs:List α)(e:σ→Nat→X)(step:α→σ→(σ→Option R)→Option R)(fin:σ→Option R)
 (hs:∀i (h:i<xs.length) s nx,T nx (e s i)=step xs[i] s (fun s'=>nx (e s' (i+1)))) (hf:∀s nx,T nx (e s xs.length)=fin s):
 ∀n i s,i≤xs.length→xs.length-i<n→aq T n (e s i)=kW step fin (xs.drop i) s:=by
 intro n
 induction n with
 |zero=>intro i s _ h;omega
 |succ n ih=>
  intro i s hi hn
  rw [aq]
  rcases Nat.lt_or_ge i xs.length with hlt|hge
  ·rw [hs i hlt s _,List.drop_eq_getElem_cons hlt,kW]
   congr 1
   funext s'
   exact ih (i+1) s' (by omega) (by omega)
  ·have:i=xs.length:=by omega
   subst this
   rw [hf,List.drop_length,kW]
def eW:(t:CT)→t.D→Nat
 | .int _,_=>0
 | .bool,_=>0
 | .str,s=>s.length
 | .sl e,xs=>xs.length+(xs.map (eW e)).sum
 | .pair a b,x=>eW a x.1+eW b x.2
def aC (n:Nat):(t:CT)→t.D→Prop
 | .int _,_=>True
 | .bool,_=>True
 | .str,s=>s.length≤n
 | .sl e,xs=>xs.length≤n∧∀x∈xs,aC n e x
 | .pair a b,x=>aC n a x.1∧aC n b x.2
theorem zV {α:Type}(f:α→Nat):∀(xs:List α)(x:α),x∈xs→f x≤(xs.map f).sum
 |y::ys,x,h=>by
  rcases List.mem_cons.1 h with rfl|h
  ·simp
  ·have:=zV f ys x h;simp;omega
theorem wm {n:Nat}:∀{t:CT}{x:t.D},eW t x≤n→aC n t x
 | .int _,_,_=>trivial
 | .bool,_,_=>trivial
 | .str,_,h=>h
 | .sl e,xs,h=>by
   simp only [eW] at h
   exact ⟨by omega,fun x hx=>wm (by have:=zV (eW e) xs x hx;omega)⟩
 | .pair a b,x,h=>by
   simp only [eW] at h
   exact ⟨wm (by omega),wm (by omega)⟩
theorem aC.mono {n m:Nat}(h:n≤m):∀{t:CT}{x:t.D},aC n t x→aC m t x
 | .int _,_,_=>trivial
 | .bool,_,_=>trivial
 | .str,_,k=>Nat.le_trans k h
 | .sl _,_,k=>⟨Nat.le_trans k.1 h,fun x hx=>aC.mono h (k.2 x hx)⟩
 | .pair _ _,_,k=>⟨aC.mono h k.1,aC.mono h k.2⟩
def kL:(t:CT)→t.D→Prop
 | .int k,n=>k.min≤n∧n≤k.max
 | .bool,_=>True
 | .str,s=>s.length≤9223372036854775807
 | .sl e,xs=>xs.length≤9223372036854775807∧∀x∈xs,kL e x
 | .pair a b,x=>kL a x.1∧kL b x.2
def dS (l n:Int):Int:=if n≤l then l-n else-1
def yk {α β R:Type}(f:α→Option β)(k0:List β→Int→Option R)(v0:List α)(nx:List β×Int→Option R)(x:List β×Int):Option R:=
 cond (decide (x.2<(List.length v0:Int))) (
  aa (idx v0 x.2) fun x1=>
  aa (f x1) fun r2=>
  aa (idx x.1 x.2) fun _=>
  aa (idx x.1 x.2) fun _=>
  nx (List.set x.1 (Int.toNat x.2) r2,IntKind.wrap .i64 (x.2+1))) (
  k0 x.1 x.2)
noncomputable def Ei {α β:Type}(f:α→Option β)(z:β)(a0:List α):Option (List β):=
 if 0≤((List.length a0:Int))∧((List.length a0:Int))≤((List.length a0:Int)) then (
 room (Int.toNat ((List.length a0:Int))) (
 aq (yk f (fun y5 _=>some y5) a0) fuel (List.replicate (Int.toNat ((List.length a0:Int))) z,0))) else none
theorem gy {α:Type}{f:α→Option α}{z:α}{a:List α}(hn:a.length≤1073741824)(hf:∀x∈a,f x=some x):Ei f z a=some a:=by
 unfold Ei
 have hfu:=bz
 rw [if_pos (by omega),au (by simp;omega)]
 have key:=yb (T:=yk f (fun y5 _=>some y5) a) a.length (fun (_:Unit) i=>(a.take i++List.replicate (a.length-i) z,(i:Int))) (fun _ s k=>k s) (fun _=>some a)
  (fun i s nx hi=>by
   have h1:(a.take i).length=i:=by simp;omega
   have hl:i<(a.take i++List.replicate (a.length-i) z).length:=by simp;omega
   simp only [yk]
   rw [decide_eq_true (by omega)]
   simp only [cond_true,ay hi,ab,hf _ (List.getElem_mem hi),ay hl]
   congr 1
   refine Prod.ext ?_ (wrap64 (by omega) (by omega))
   simp only [Int.toNat_natCast]
   rw [List.set_append_right _ _ (by omega),h1,Nat.sub_self,List.take_succ_eq_append_getElem hi,show a.length-i=(a.length-(i+1))+1 by omega,List.replicate_succ,List.set_cons_zero,List.append_assoc,List.singleton_append])
  (fun s nx=>by
   simp only [yk]
   rw [decide_eq_false (by omega)]
   simp)
  fuel 0 () (by omega) (by omega)
 simp only [List.take_zero,List.nil_append,Nat.sub_zero,Int.toNat_natCast] at key⊢
 have e:((0:Nat):Int)=0:=rfl
 rw [e] at key
 rw [key]
 have:∀n i,O0 (R:=List α) (fun _ (s:Unit) k=>k s) (fun _=>some a) a.length n i ()=some a:=by
  intro n
  induction n with
  |zero=>intro i;rfl
  |succ n ih=>intro i;rw [O0];exact ih _
 exact this _ _
def yj {α R:Type}(f:α→Int→Option Int)(k0:Int→Int→Option R)(k1:Int→Int→Int→Option R)(v0:List α)(nx:Int×Int→Option R)(x:Int×Int):Option R:=
 cond (decide (x.2<((List.length v0:Int)))) (
  aa (idx v0 x.2) fun x1=>
  aa (f x1 x.1) fun r2=>
  cond (decide (r2<0)) (
   k1 r2 (-1) x.2) (
   nx (r2,IntKind.wrap .i64 (x.2+1)))) (
  k0 x.1 x.2)
noncomputable def yi {α:Type}(f:α→Int→Option Int)(a0:List α)(a1:Int):Option Int:=
 cond (decide ((IntKind.wrap .i64 (a1-((List.length a0:Int))))<0)) (
  some (-1)) (
  aq (yj f (fun y3 _=>some y3) (fun _ y6 _=>some y6) a0) fuel (IntKind.wrap .i64 (a1-((List.length a0:Int))),0))
theorem Az {α:Type}{f:α→Int→Option Int}{s:α→Nat}{a:List α}{l:Int}(h0:0≤l)(h1:l≤1048576)(hm:a.length≤9223372036854775807)
 (hf:∀x∈a,∀l:Int,0≤l→l≤1048576→∃r,f x l=some r∧((s x:Int)≤l→r=l-s x)∧(¬(s x:Int)≤l→r<0)):yi f a l=some (dS l ((a.length+(a.map s).sum:Nat):Int)):=by
 unfold yi
 have hfu:=bz
 rw [wrap64 (by omega) (by omega)]
 rcases Int.lt_or_le (l-a.length) 0 with hneg|hpos
 ·rw [decide_eq_true hneg]
  simp only [cond_true,dS]
  rw [if_neg (by omega)]
 ·rw [decide_eq_false (by omega)]
  simp only [cond_false]
  have key:=mE (T:=yj f (fun y3 _=>some y3) (fun _ y6 _=>some y6) a) a (fun (q:Int) i=>(q,(i:Int)))
   (fun x q k=>aa (f x q) fun r=>cond (decide (r<0)) (some (-1)) (k r)) (fun q=>some q)
   (fun i hi q nx=>by
    simp only [yj]
    rw [decide_eq_true (by omega)]
    simp only [cond_true,ay hi,ab]
    rw [wrap64 (by omega) (by omega)]
    rfl)
   (fun q nx=>by
    simp only [yj]
    rw [decide_eq_false (by omega)]
    rfl)
   fuel 0 (l-a.length) (by omega) (by omega)
  have e:((0:Nat):Int)=0:=rfl
  rw [e,List.drop_zero] at key
  rw [key]
  have main:∀(b:List α)(q:Int),0≤q→q≤1048576→(∀x∈b,x∈a)→kW (fun x q k=>aa (f x q) fun r=>cond (decide (r<0)) (some (-1)) (k r)) (fun q=>some q) b q=some (dS q ((b.map s).sum:Nat)):=by
   intro b
   induction b with
   |nil=>intro q hq _ _;simp [kW,dS,hq]
   |cons x b ih=>
    intro q hq hq2 hb
    obtain ⟨r,hr,hr1,hr2⟩:=hf x (hb x (by simp)) q hq hq2
    rw [kW,hr,ab]
    by_cases hle:(s x:Int)≤q
    ·have:=hr1 hle
     subst this
     rw [decide_eq_false (by omega)]
     simp only [cond_false]
     rw [ih _ (by omega) (by omega) (fun y hy=>hb y (by simp [hy]))]
     simp only [dS,List.map_cons,List.sum_cons]
     congr 1
     split<;>split<;>omega
    ·rw [decide_eq_true (hr2 hle)]
     simp only [cond_true,dS,List.map_cons,List.sum_cons]
     rw [if_neg (by omega)]
  rw [main a _ (by omega) (by omega) (fun x h=>h)]
  simp only [dS]
  congr 1
  split<;>split<;>omega
def xZ {α R:Type}(f:α→α→Option Bool)(k0:Int→Option R)(k1:Bool→Int→Option R)(v0 v1:List α)(nx:Int→Option R)(x:Int):Option R:=
 cond (decide (x<((List.length v0:Int)))) (
  aa (idx v0 x) fun x1=>
  aa (idx v1 x) fun x2=>
  aa (f x1 x2) fun r3=>
  cond (!r3) (
   k1 false x) (
   nx (IntKind.wrap .i64 (x+1)))) (
  k0 x)
noncomputable def Dh {α:Type}(f:α→α→Option Bool)(a0 a1:List α):Option Bool:=
 cond (((List.length a0:Int)) !=((List.length a1:Int))) (
  some false) (
  aq (xZ f (fun _=>some true) (fun y5 _=>some y5) a0 a1) fuel 0)
theorem dy {α:Type}{f:α→α→Option Bool}{a:List α}(hm:a.length≤1000000000000)(hf:∀x∈a,f x x=some true):Dh f a a=some true:=by
 unfold Dh
 have hfu:=bz
 simp only [bne_self_eq_false,cond_false]
 have key:=mE (T:=xZ f (fun _=>some true) (fun y5 _=>some y5) a a) a (fun (_:Unit) i=>(i:Int)) (fun x s k=>aa (f x x) fun r=>cond (!r) (some false) (k s)) (fun _=>some true)
  (fun i hi s nx=>by
   simp only [xZ]
   rw [decide_eq_true (by omega)]
   simp only [cond_true,ay hi,ab]
   rw [wrap64 (by omega) (by omega)]
   rfl)
  (fun s nx=>by
   simp only [xZ]
   rw [decide_eq_false (by omega)]
   rfl)
  fuel 0 () (by omega) (by omega)
 have e:((0:Nat):Int)=0:=rfl
 rw [e,List.drop_zero] at key
 rw [key]
 have main:∀(b:List α),(∀x∈b,x∈a)→kW (fun x s k=>aa (f x x) fun r=>cond (!r) (some false) (k s)) (fun _=>some true) b ()=some true:=by
  intro b
  induction b with
  |nil=>intro _;rfl
  |cons x b ih=>intro hb;rw [kW,hf x (hb x (by simp))];simp only [ab,Bool.not_true,cond_false];exact ih (fun y hy=>hb y (by simp [hy]))
 exact main a (fun x h=>h)
theorem u7 {α:Type}{z:α}{a:List α}(hn:a.length≤1073741824):Ei some z a=some a:=gy hn (fun _ _=>rfl)
theorem rk {α:Type}[BEq α][LawfulBEq α]{a:List α}(hm:a.length≤1000000000000):Dh (fun x y:α=>some (x==y)) a a=some true:=dy hm (fun x _=>by simp)
theorem pT {α:Type}{f:α→Nat}:∀{xs:List α},(∀x∈xs,f x=0)→(xs.map f).sum=0
 |[],_=>rfl
 |x::xs,h=>by
  have:=pT (xs:=xs) (f:=f) (fun y hy=>h y (by simp [hy]))
  simp [h x (by simp),this]
def aW (f:Int→Option Int)(n:Nat):Prop:=∀l:Int,0≤l→l≤1048576→f l=some (dS l n)
theorem aW.nil:aW (fun l=>some l) 0:=fun l h0 _=>by simp [dS,h0]
theorem aW.len {n m:Nat}(hn:n≤9223372036854775807){k:Int→Option Int}(h:aW k m):
 aW (fun l=>cond (decide (IntKind.wrap .i64 (l-(n:Int))<0)) (some (-1)) (k (IntKind.wrap .i64 (l-(n:Int))))) (n+m):=by
 intro l h0 h1
 simp only
 rw [wrap64 (by omega) (by omega)]
 by_cases hl:l-(n:Int)<0
 ·rw [decide_eq_true hl];simp only [cond_true,dS];rw [if_neg (by omega)]
 ·rw [decide_eq_false hl]
  simp only [cond_false]
  rw [h _ (by omega) (by omega)]
  simp only [dS]
  congr 1
  split<;>split<;>omega
theorem aW.sub {f k:Int→Option Int}{n m:Nat}(hf:aW f n)(h:aW k m):aW (fun l=>aa (f l) fun r=>cond (decide (r<0)) (some (-1)) (k r)) (n+m):=by
 intro l h0 h1
 simp only
 rw [hf l h0 h1,ab]
 by_cases hl:(n:Int)≤l
 ·have e:dS l n=l-n:=by simp [dS,hl]
  rw [e,decide_eq_false (by omega)]
  simp only [cond_false]
  rw [h _ (by omega) (by omega)]
  simp only [dS]
  congr 1
  split<;>split<;>omega
 ·have e:dS l n= -1:=by simp [dS,hl]
  rw [e]
  simp only [dS]
  rw [if_neg (by omega)]
  rfl
theorem aW.cast {f:Int→Option Int}{n m:Nat}(h:aW f n)(e:n=m):aW f m:=e▸h
theorem aW.list {α:Type}{f:α→Int→Option Int}{s:α→Nat}{a:List α}(hm:a.length≤9223372036854775807)(hf:∀x∈a,aW (f x) (s x)):aW (yi f a) (a.length+(a.map s).sum):=
 fun _ h0 h1=>Az h0 h1 hm (fun x hx l h0 h1=>⟨_,hf x hx l h0 h1,fun h=>by simp [dS,h],fun h=>by simp [dS,h]⟩)
theorem aW.flat {n:Nat}(hn:n≤9223372036854775807):aW (fun l=>cond (decide (IntKind.wrap .i64 (l-(n:Int))<0)) (some (-1)) (some (IntKind.wrap .i64 (l-(n:Int))))) n:=
 (aW.len (n:=n) hn aW.nil).cast (by omega)
theorem aW.strs {a:List (List UInt8)}(hm:kL (.sl .str) a):aW (yi (fun x l=>some (IntKind.wrap .i64 (l-(x.length:Int)))) a) (eW (.sl .str) a):=
 fun _ h0 h1=>Az (s:=eW .str) h0 h1 hm.1 (fun x hx l h0 h1=>⟨l-x.length,by
  have:x.length≤9223372036854775807:=hm.2 x hx
  rw [wrap64 (by omega) (by omega)],fun _=>rfl,fun h=>by simp only [eW] at h;omega⟩)
theorem aW.use {f:Int→Option Int}{n:Nat}(hf:aW f n){l:Int}(h0:0≤l)(h1:l≤1048576){k:Int→Option Bool}(hk:(n:Int)≤l→k (l-n)=some true):
 (aa (f l) fun r=>cond (decide (r<0)) (some true) (k r))=some true:=by
 rw [hf l h0 h1,ab]
 by_cases hl:(n:Int)≤l
 ·have e:dS l n=l-n:=by simp [dS,hl]
  rw [e,decide_eq_false (by omega)]
  exact hk hl
 ·have e:dS l n= -1:=by simp [dS,hl]
  rw [e];rfl
theorem LV {α R:Type}{T:(Int→Option R)→Int→Option R}{fin hit:Option R}(p:α→Bool)(a:List α)(h:a.length≤1000000000000)
 (hs:∀i (hi:i<a.length) nx,T nx (i:Int)=cond (p a[i]) hit (nx ((i+1:Nat):Int))) (hf:∀nx,T nx (a.length:Int)=fin):
 aq T fuel 0=cond (a.any p) hit fin:=by
 have hfu:=bz
 have key:∀n i,i≤a.length→a.length-i<n→aq T n (i:Int)=cond ((a.drop i).any p) hit fin:=by
  intro n
  induction n with
  |zero=>intro i _ h;omega
  |succ n ih=>
   intro i hi hn
   rw [aq]
   rcases Nat.lt_or_ge i a.length with hlt|hge
   ·rw [hs i hlt,List.drop_eq_getElem_cons hlt,List.any_cons]
    cases hq:p a[i] with
    |true=>rfl
    |false=>exact ih (i+1) (by omega) (by omega)
   ·have:i=a.length:=by omega
    subst this
    rw [hf,List.drop_length];rfl
 exact key fuel 0 (by omega) (by omega)
theorem iQ {R:Type}{T:(Int→Option R)→Int→Option R}{fin hit:Option R}(p:Nat→Bool)(N:Nat)(h:N≤1000000000000)
 (hs:∀i nx,i<N→T nx (i:Int)=cond (!(p i)) hit (nx ((i+1:Nat):Int))) (hf:∀nx,T nx (N:Int)=fin):
 aq T fuel 0=cond ((List.range N).all p) fin hit:=by
 have hfu:=bz
 have key:∀n i,i≤N→N-i<n→aq T n (i:Int)=cond ((List.range' i (N-i)).all p) fin hit:=by
  intro n
  induction n with
  |zero=>intro i _ h;omega
  |succ n ih=>
   intro i hi hn
   rw [aq]
   rcases Nat.lt_or_ge i N with hlt|hge
   ·rw [hs i _ hlt,show N-i=(N-(i+1))+1 by omega,List.range'_succ,List.all_cons]
    cases hq:p i with
    |false=>rfl
    |true=>exact ih (i+1) (by omega) (by omega)
   ·have:i=N:=by omega
    subst this
    rw [hf,Nat.sub_self];rfl
 have:=key fuel 0 (by omega) (by omega)
 rw [Nat.sub_zero,←List.range_eq_range'] at this
 exact this
theorem kT {α R:Type}{T:(Int→Option R)→Int→Option R}{fin hit:Option R}(p:α→Bool)(a:List α)(h:a.length≤1000000000000)
 (hs:∀i (hi:i<a.length) nx,T nx (i:Int)=cond (!(p a[i])) hit (nx ((i+1:Nat):Int))) (hf:∀nx,T nx (a.length:Int)=fin):
 aq T fuel 0=cond (a.all p) fin hit:=by
 have:=LV (T:=T) (fin:=fin) (hit:=hit) (fun x=> !(p x)) a h hs hf
 rw [this]
 have e:a.any (fun x=> !(p x))= !(a.all p):=by
  rw [Bool.eq_iff_iff];simp
 rw [e]
 cases a.all p<;>rfl
theorem fold_iter {α X σ R:Type}{T:(X→Option R)→X→Option R}(xs:List α)(e:σ→Nat→X)(g:σ→α→σ)(fin:σ→Option R)(h:xs.length≤1000000000000)
 (hs:∀i (hi:i<xs.length) s nx,T nx (e s i)=nx (e (g s xs[i]) (i+1))) (hf:∀s nx,T nx (e s xs.length)=fin s) (s:σ):
 aq T fuel (e s 0)=fin (xs.foldl g s):=by
 have hfu:=bz
 have key:=mE (T:=T) xs e (fun x s k=>k (g s x)) fin hs hf fuel 0 s (by omega) (by omega)
 rw [key,List.drop_zero]
 clear key hs hf h
 induction xs generalizing s with
 |nil=>rfl
 |cons x xs ih=>rw [kW,List.foldl_cons];exact ih _
theorem Bz {X R:Type}{T:(X→Option R)→X→Option R}{fin hit:Option R}(e:Nat→X)(p:Nat→Bool)(N:Nat)(h:N≤1000000000000)
 (hs:∀i nx,i<N→(∀j,j<i→p j=true)→T nx (e i)=cond (!(p i)) hit (nx (e (i+1)))) (hf:(∀j,j<N→p j=true)→∀nx,T nx (e N)=fin):
 aq T fuel (e 0)=cond ((List.range N).all p) fin hit:=by
 have hfu:=bz
 have key:∀n i,i≤N→N-i<n→(∀j,j<i→p j=true)→aq T n (e i)=cond ((List.range' i (N-i)).all p) fin hit:=by
  intro n
  induction n with
  |zero=>intro i _ h;omega
  |succ n ih=>
   intro i hi hn hp
   rw [aq]
   rcases Nat.lt_or_ge i N with hlt|hge
   ·rw [hs i _ hlt hp,show N-i=(N-(i+1))+1 by omega,List.range'_succ,List.all_cons]
    cases hq:p i with
    |false=>rfl
    |true=>
     refine ih (i+1) (by omega) (by omega) fun j hj=> ?_
     by_cases hji:j=i
     ·rw [hji];exact hq
     ·exact hp j (by omega)
   ·have:i=N:=by omega
    subst this
    rw [hf hp,Nat.sub_self];rfl
 have:=key fuel 0 (by omega) (by omega) (fun j hj=>absurd hj (by omega))
 rw [Nat.sub_zero,←List.range_eq_range'] at this
 exact this
theorem tR {α R:Type}{T:(Int→Option R)→Int→Option R}{fin:Option R}{hit:Int→Option R}(p:α→Bool)(a:List α)(h:a.length≤1000000000000)
 (hs:∀i (hi:i<a.length) nx,T nx (i:Int)=cond (p a[i]) (hit (i:Int)) (nx ((i+1:Nat):Int))) (hf:∀nx,T nx (a.length:Int)=fin):
 aq T fuel 0=(match a.findIdx? p with|some i=>hit (i:Int)|none=>fin):=by
 have hfu:=bz
 have key:∀n i,i≤a.length→a.length-i<n→aq T n (i:Int)=(match (a.drop i).findIdx? p with|some j=>hit ((i+j:Nat):Int)|none=>fin):=by
  intro n
  induction n with
  |zero=>intro i _ h;omega
  |succ n ih=>
   intro i hi hn
   rw [aq]
   rcases Nat.lt_or_ge i a.length with hlt|hge
   ·rw [hs i hlt,List.drop_eq_getElem_cons hlt,List.findIdx?_cons]
    cases hq:p a[i] with
    |true=>rfl
    |false=>
     have:=ih (i+1) (by omega) (by omega)
     simp only [cond_false]
     refine this.trans ?_
     cases (a.drop (i+1)).findIdx? p with
     |none=>rfl
     |some j=>simp only [Option.map_some,Bool.false_eq_true,if_false];congr 2;omega
   ·have:i=a.length:=by omega
    subst this
    rw [hf,List.drop_length];rfl
 have:=key fuel 0 (by omega) (by omega)
 refine this.trans ?_
 rw [List.drop_zero]
 cases a.findIdx? p with
 |none=>rfl
 |some j=>simp only [Nat.zero_add]
theorem cF (a b:Bool):(bif a then b else false)=(a&&b):=by cases a<;>rfl
theorem cT (a b:Bool):(bif a then true else b)=(a||b):=by cases a<;>rfl
theorem cN (a b:Bool):(bif a then false else b)=(!a&&b):=by cases a<;>rfl
def Ai {α σ R:Type}(g:α→σ→Except (Option R) σ)(fin:σ→Option R):List α→σ→Option R
 |[],s=>fin s
 |x::xs,s=>match g x s with| .error r=>r| .ok s'=>Ai g fin xs s'
theorem aaG {α X σ R:Type}{T:(X→Option R)→X→Option R}(xs:List α)(e:σ→Nat→X)(Inv:Nat→σ→Prop)(g:α→σ→Except (Option R) σ)(fin:σ→Option R)(h:xs.length≤1000000000000)
 (hs:∀i (hi:i<xs.length) s nx,Inv i s→T nx (e s i)=match g xs[i] s with| .error r=>r| .ok s'=>nx (e s' (i+1)))
 (hn:∀i (hi:i<xs.length) s s',Inv i s→g xs[i] s= .ok s'→Inv (i+1) s') (hf:∀s nx,Inv xs.length s→T nx (e s xs.length)=fin s) (s:σ) (h0:Inv 0 s):
 aq T fuel (e s 0)=Ai g fin xs s:=by
 have key:∀n i s,i≤xs.length→xs.length-i<n→Inv i s→aq T n (e s i)=Ai g fin (xs.drop i) s:=by
  intro n
  induction n with
  |zero=>intro i s _ h;omega
  |succ n ih=>
   intro i s hi hn' hI
   rw [aq]
   rcases Nat.lt_or_ge i xs.length with hlt|hge
   ·rw [hs i hlt s _ hI,List.drop_eq_getElem_cons hlt,Ai]
    cases hg:g xs[i] s with
    |error r=>rfl
    |ok s'=>exact ih (i+1) s' (by omega) (by omega) (hn i hlt s s' hI hg)
   ·have:i=xs.length:=by omega
    subst this
    rw [hf s _ hI,List.drop_length,Ai]
 have hfu:=bz
 have:=key fuel 0 s (by omega) (by omega) h0
 rwa [List.drop_zero] at this
theorem P0 {α σ R:Type}(f:σ→α→σ)(fin:σ→Option R):∀(xs:List α)(s:σ),Ai (fun x s=> .ok (f s x)) fin xs s=fin (xs.foldl f s)
 |[],_=>rfl
 |x::xs,s=>by rw [Ai];exact P0 f fin xs (f s x)
theorem ck {X R:Type}{T:(X→Option R)→X→Option R}{fin:Option R}(e:Nat→X)(N:Nat)(h:N≤1000000000000)
 (hs:∀i nx,i<N→T nx (e i)=nx (e (i+1))) (hf:∀nx,T nx (e N)=fin):aq T fuel (e 0)=fin:=by
 rw [Bz (hit:=fin) (fin:=fin) e (fun _=>true) N h (fun i nx hi _=>by rw [hs i nx hi];rfl) (fun _ nx=>hf nx)]
 cases (List.range N).all (fun _=>true)<;>rfl
theorem bW {α R:Type}{l:List α}{k:Option R}(h:l.length≤1000000000):room (List.length ([]:List α)+l.length) k=k:=au (by simp only [List.length_nil];omega)
end Go.Pu
end
section
namespace Go.Pu
open Go.Dn
set_option linter.unusedVariables false
set_option linter.unusedSimpArgs false
theorem AA (a:List Bytes)(hm:kL (.sl .str) a):aW (lY a) (eW (.sl .str) a):=
 aW.strs hm
theorem LA (a:List Bytes)(hm:kL (.sl .str) a):aW (ni a) (eW (.sl .str) a):=
 aW.cast (f:=ni a) (aW.sub (AA a hm) aW.nil) (by simp only [eW];try omega)
theorem Gw (a:List ae)(hm:kL (.sl ar) a):aW (nZ a) (eW (.sl ar) a):=
 (aW.flat (n:=a.length) hm.1).cast (by simp only [eW];rw [pT (fun x _=>by simp only [eW])];rfl)
theorem uj (a:List Int)(hm:kL (.sl (.int .i64)) a):aW (fT a) (eW (.sl (.int .i64)) a):=
 (aW.flat (n:=a.length) hm.1).cast (by simp only [eW];rw [pT (fun x _=>by simp only [eW])];rfl)
theorem JZ (a:aD)(hm:kL aU a):aW (k5 a) (eW aU a):=
 aW.cast (f:=k5 a) (aW.sub (uj a.2.2.2 hm.2.2.2) aW.nil) (by simp only [eW];try omega)
theorem P9 (a:cq)(hm:kL bG a):aW (nL a) (eW bG a):=
 aW.cast (f:=nL a) (aW.sub (uj a.2.2 hm.2.2) aW.nil) (by simp only [eW];try omega)
theorem NM (a:List cq)(hm:kL (.sl bG) a):aW (rK a) (eW (.sl bG) a):=
 aW.list (f:=nL) (s:=eW bG) hm.1 (fun x hx=>P9 x (hm.2 x hx))
theorem IC (a:bu)(hm:kL aY a):aW (lZ a) (eW aY a):=
 aW.cast (f:=lZ a) (aW.sub (JZ a.2.1 hm.2.1) (aW.sub (NM a.2.2.1 hm.2.2.1) aW.nil)) (by simp only [eW];try omega)
theorem IA (a:a7)(hm:kL dn a):aW (lX a) (eW dn a):=
 aW.cast (f:=lX a) (aW.len (n:=a.2.2.2.2.2.2.2.length) hm.2.2.2.2.2.2.2 aW.nil) (by simp only [eW];try omega)
theorem LB (a:aQ)(hm:kL ed a):aW (nj a) (eW ed a):=
 aW.cast (f:=nj a) (aW.sub (IA a.2.2.2.2.2.2.2.2 hm.2.2.2.2.2.2.2.2) aW.nil) (by simp only [eW];try omega)
theorem NO (a:sA)(hm:kL nS a):aW (ov a) (eW nS a):=
 aW.cast (f:=ov a) (aW.sub (LB a.1 hm.1) aW.nil) (by simp only [eW];try omega)
theorem Iz (a:ax)(hm:kL aA a):aW (iG a) (eW aA a):=
 aW.cast (f:=iG a) (aW.sub (NO a.2.2.2.1 hm.2.2.2.1) aW.nil) (by simp only [eW];try omega)
theorem Gx (a:List ax)(hm:kL (.sl aA) a):aW (n0 a) (eW (.sl aA) a):=
 aW.list (f:=iG) (s:=eW aA) hm.1 (fun x hx=>Iz x (hm.2 x hx))
theorem NK (a:List aD)(hm:kL (.sl aU) a):aW (rH a) (eW (.sl aU) a):=
 aW.list (f:=k5) (s:=eW aU) hm.1 (fun x hx=>JZ x (hm.2 x hx))
theorem ID (a:List Vector)(hm:kL (.sl aJ) a):aW (pD a) (eW (.sl aJ) a):=
 (aW.flat (n:=a.length) hm.1).cast (by simp only [eW];rw [pT (fun x _=>by simp only [eW])];rfl)
theorem NJ (a:List Bool)(hm:kL (.sl .bool) a):aW (rG a) (eW (.sl .bool) a):=
 (aW.flat (n:=a.length) hm.1).cast (by simp only [eW];rw [pT (fun x _=>by simp only [eW])];rfl)
theorem Lz (a:Filter)(hm:kL bV a):aW (nh a) (eW bV a):=
 aW.cast (f:=nh a) (aW.sub (uj a.2.2 hm.2.2) aW.nil) (by simp only [eW];try omega)
theorem NL (a:List cg)(hm:kL (.sl bR) a):aW (rJ a) (eW (.sl bR) a):=
 (aW.flat (n:=a.length) hm.1).cast (by simp only [eW];rw [pT (fun x _=>by simp only [eW])];rfl)
theorem NN (a:List Slot)(hm:kL (.sl a9) a):aW (rL a) (eW (.sl a9) a):=
 (aW.flat (n:=a.length) hm.1).cast (by simp only [eW];rw [pT (fun x _=>by simp only [eW])];rfl)
theorem Ee (a:List Slot)(hm:kL (.sl a9) a):aW (jk a) (eW (.sl a9) a):=
 aW.cast (f:=jk a) (aW.sub (NN a hm) aW.nil) (by simp only [eW];try omega)
theorem LC (a:di)(hm:kL cL a):aW (nk a) (eW cL a):=
 aW.cast (f:=nk a) (aW.len (n:=a.1.length) hm.1 (aW.sub (uj a.2 hm.2) aW.nil)) (by simp only [eW];try omega)
theorem Gy (a:bw)(hm:kL bm a):aW (kx a) (eW bm a):=
 aW.cast (f:=kx a) (aW.sub (NL a.1 hm.1) (aW.sub (Ee a.2.1 hm.2.1) (aW.sub (LC a.2.2 hm.2.2) aW.nil))) (by simp only [eW];try omega)
theorem LD (a:Stream)(hm:kL az a):aW (jR a) (eW az a):=
 aW.cast (f:=jR a) (aW.len (n:=a.2.2.1.length) hm.2.2.1 aW.nil) (by simp only [eW];try omega)
theorem IB (a:List Stream)(hm:kL (.sl az) a):aW (pC a) (eW (.sl az) a):=
 aW.list (f:=jR) (s:=eW az) hm.1 (fun x hx=>LD x (hm.2 x hx))
theorem P8 (a:Host)(hm:kL a8 a):aW (qf a) (eW a8 a):=
 aW.cast (f:=qf a) (aW.sub (LA a.1 hm.1) (aW.sub (Gw a.2.1 hm.2.1) (aW.sub (IC a.2.2.1 hm.2.2.1) (aW.sub (Gx a.2.2.2.1 hm.2.2.2.1) (aW.sub (NK a.2.2.2.2.1 hm.2.2.2.2.1) (aW.sub (ID a.2.2.2.2.2.1 hm.2.2.2.2.2.1) (aW.sub (NJ a.2.2.2.2.2.2.1 hm.2.2.2.2.2.2.1) (aW.sub (Lz a.2.2.2.2.2.2.2.1 hm.2.2.2.2.2.2.2.1) (aW.sub (Gy a.2.2.2.2.2.2.2.2.1 hm.2.2.2.2.2.2.2.2.1) (aW.sub (IB a.2.2.2.2.2.2.2.2.2.1 hm.2.2.2.2.2.2.2.2.2.1) (aW.sub (AA a.2.2.2.2.2.2.2.2.2.2.2.1 hm.2.2.2.2.2.2.2.2.2.2.2.1) (aW.sub (uj a.2.2.2.2.2.2.2.2.2.2.2.2.1 hm.2.2.2.2.2.2.2.2.2.2.2.2.1) (aW.sub (uj a.2.2.2.2.2.2.2.2.2.2.2.2.2.1 hm.2.2.2.2.2.2.2.2.2.2.2.2.2.1) aW.nil))))))))))))) (by simp only [eW];try omega)
theorem sr (a:List Bytes)(h:aC 1048576 (.sl .str) a):l3 a=some a:=
 u7 (z:=([]:Bytes)) (Nat.le_trans h.1 (by omega))
theorem Cu (a:List Bytes)(h:aC 1048576 (.sl .str) a):jT a=some a:=by
 first|(simp only [jT,sr _ h,ab];done)|(simp only [jT,sr _ h,ab];rfl)
theorem IE (a:ae)(h:aC 1048576 ar a):l0 a=some a:=rfl
theorem xF (a:List ae)(h:aC 1048576 (.sl ar) a):n6 a=some a:=
 gy (f:=l0) (z:=(0,0,0,false)) (Nat.le_trans h.1 (by omega)) (fun x hx=>IE x (h.2 x hx))
theorem ym (a:Ring)(h:aC 1048576 jx a):qj a=some a:=rfl
theorem kK (a:List Int)(h:aC 1048576 (.sl (.int .i64)) a):fV a=some a:=
 u7 (z:=0) (Nat.le_trans h.1 (by omega))
theorem Ej (a:aD)(h:aC 1048576 aU a):iH a=some a:=by
 first|(simp only [iH,kK _ h.2.2.2,ab];done)|(simp only [iH,kK _ h.2.2.2,ab];rfl)
theorem Qg (a:cq)(h:aC 1048576 bG a):k6 a=some a:=by
 first|(simp only [k6,kK _ h.2.2,ab];done)|(simp only [k6,kK _ h.2.2,ab];rfl)
theorem GC (a:List cq)(h:aC 1048576 (.sl bG) a):rP a=some a:=
 gy (f:=k6) (z:=(0,0,([]:List Int))) (Nat.le_trans h.1 (by omega)) (fun x hx=>Qg x (h.2 x hx))
theorem AH (a:bu)(h:aC 1048576 aY a):iI a=some a:=by
 first|(simp only [iI,ym _ h.1,Ej _ h.2.1,GC _ h.2.2.1,ab];done)|(simp only [iI,ym _ h.1,Ej _ h.2.1,GC _ h.2.2.1,ab];rfl)
theorem gz (a:aX)(h:aC 1048576 aP a):dz a=some a:=rfl
theorem AF (a:a7)(h:aC 1048576 dn a):pG a=some a:=rfl
theorem Cv (a:aQ)(h:aC 1048576 ed a):jU a=some a:=by
 first|(simp only [jU,AF _ h.2.2.2.2.2.2.2.2,ab];done)|(simp only [jU,AF _ h.2.2.2.2.2.2.2.2,ab];rfl)
theorem GF (a:sA)(h:aC 1048576 nS a):l4 a=some a:=by
 first|(simp only [l4,Cv _ h.1,ab];done)|(simp only [l4,Cv _ h.1,ab];rfl)
theorem IG (a:ax)(h:aC 1048576 aA a):fE a=some a:=by
 first|(simp only [fE,ym _ h.1,gz _ h.2.1,gz _ h.2.2.1,GF _ h.2.2.2.1,ab];done)|(simp only [fE,ym _ h.1,gz _ h.2.1,gz _ h.2.2.1,GF _ h.2.2.2.1,ab];rfl)
theorem xG (a:List ax)(h:aC 1048576 (.sl aA) a):n8 a=some a:=
 gy (f:=fE) (z:=((0,0,0,0),(0,0,0),(0,0,0),((0,0,0,0,0,0,0,0,0,0,0,0,0,0,0,([]:Bytes)),0,0),false,0)) (Nat.le_trans h.1 (by omega)) (fun x hx=>IG x (h.2 x hx))
theorem GA (a:List aD)(h:aC 1048576 (.sl aU) a):rN a=some a:=
 gy (f:=iH) (z:=(0,0,0,([]:List Int))) (Nat.le_trans h.1 (by omega)) (fun x hx=>Ej x (h.2 x hx))
theorem LG (a:Vector)(h:aC 1048576 aJ a):nm a=some a:=rfl
theorem AI (a:List Vector)(h:aC 1048576 (.sl aJ) a):pJ a=some a:=
 gy (f:=nm) (z:=(0,0,0,0,false,false)) (Nat.le_trans h.1 (by omega)) (fun x hx=>LG x (h.2 x hx))
theorem Gz (a:List Bool)(h:aC 1048576 (.sl .bool) a):rM a=some a:=
 u7 (z:=false) (Nat.le_trans h.1 (by omega))
theorem Ct (a:Filter)(h:aC 1048576 bV a):jS a=some a:=by
 first|(simp only [jS,kK _ h.2.2,ab];done)|(simp only [jS,kK _ h.2.2,ab];rfl)
theorem Qf (a:cg)(h:aC 1048576 bR a):qk a=some a:=rfl
theorem GB (a:List cg)(h:aC 1048576 (.sl bR) a):rO a=some a:=
 gy (f:=qk) (z:=(0,0,0,0,0,0,0,0,0)) (Nat.le_trans h.1 (by omega)) (fun x hx=>Qf x (h.2 x hx))
theorem yl (a:cO)(h:aC 1048576 ft a):qi a=some a:=rfl
theorem Qh (a:Slot)(h:aC 1048576 a9 a):k7 a=some a:=by
 first|(simp only [k7,yl _ h.2.1,ab];done)|(simp only [k7,yl _ h.2.1,ab];rfl)
theorem GD (a:List Slot)(h:aC 1048576 (.sl a9) a):rQ a=some a:=
 gy (f:=k7) (z:=(0,(0,0,0,0,0),0)) (Nat.le_trans h.1 (by omega)) (fun x hx=>Qh x (h.2 x hx))
theorem wq (a:List Slot)(h:aC 1048576 (.sl a9) a):fD a=some a:=by
 first|(simp only [fD,GD _ h,ab];done)|(simp only [fD,GD _ h,ab];rfl)
theorem Cw (a:di)(h:aC 1048576 cL a):jV a=some a:=by
 first|(simp only [jV,kK _ h.2,ab];done)|(simp only [jV,kK _ h.2,ab];rfl)
theorem xH (a:bw)(h:aC 1048576 bm a):gG a=some a:=by
 first|(simp only [gG,GB _ h.1,wq _ h.2.1,Cw _ h.2.2,ab];done)|(simp only [gG,GB _ h.1,wq _ h.2.1,Cw _ h.2.2,ab];rfl)
theorem LF (a:Stream)(h:aC 1048576 az a):gT a=some a:=by
 first|(simp only [gT,yl _ h.1,ab];done)|(simp only [gT,yl _ h.1,ab];rfl)
theorem AG (a:List Stream)(h:aC 1048576 (.sl az) a):pH a=some a:=
 gy (f:=gT) (z:=((0,0,0,0,0),0,([]:Bytes),false)) (Nat.le_trans h.1 (by omega)) (fun x hx=>LF x (h.2 x hx))
theorem xE (a:cO)(h:aC 1048576 ft a):n4 a=some a:=rfl
theorem Qe (a:Host)(h:aC 1048576 a8 a):fU a=some a:=by
 first|(simp only [fU,Cu _ h.1,xF _ h.2.1,AH _ h.2.2.1,xG _ h.2.2.2.1,GA _ h.2.2.2.2.1,AI _ h.2.2.2.2.2.1,Gz _ h.2.2.2.2.2.2.1,Ct _ h.2.2.2.2.2.2.2.1,xH _ h.2.2.2.2.2.2.2.2.1,AG _ h.2.2.2.2.2.2.2.2.2.1,sr _ h.2.2.2.2.2.2.2.2.2.2.2.1,kK _ h.2.2.2.2.2.2.2.2.2.2.2.2.1,kK _ h.2.2.2.2.2.2.2.2.2.2.2.2.2.1,xE _ h.2.2.2.2.2.2.2.2.2.2.2.2.2.2,ab];done)|(simp only [fU,Cu _ h.1,xF _ h.2.1,AH _ h.2.2.1,xG _ h.2.2.2.1,GA _ h.2.2.2.2.1,AI _ h.2.2.2.2.2.1,Gz _ h.2.2.2.2.2.2.1,Ct _ h.2.2.2.2.2.2.2.1,xH _ h.2.2.2.2.2.2.2.2.1,AG _ h.2.2.2.2.2.2.2.2.2.1,sr _ h.2.2.2.2.2.2.2.2.2.2.2.1,kK _ h.2.2.2.2.2.2.2.2.2.2.2.2.1,kK _ h.2.2.2.2.2.2.2.2.2.2.2.2.2.1,xE _ h.2.2.2.2.2.2.2.2.2.2.2.2.2.2,ab];rfl)
theorem zu (a:List Bytes)(h:aC 1000000000000 (.sl .str) a):lJ a a=some true:=
 rk h.1
theorem Kk (a:List Bytes)(h:aC 1000000000000 (.sl .str) a):na a a=some true:=by
 simp [na,zu _ h]
theorem He (a:ae)(h:aC 1000000000000 ar a):iz a a=some true:=by
 simp [iz]
theorem E3 (a:List ae)(h:aC 1000000000000 (.sl ar) a):nX a a=some true:=
 dy (f:=iz) h.1 (fun x hx=>He x (h.2 x hx))
theorem Jt (a:Ring)(h:aC 1000000000000 jx a):nH a a=some true:=by
 simp [nH]
theorem tO (a:List Int)(h:aC 1000000000000 (.sl (.int .i64)) a):fS a a=some true:=
 rk h.1
theorem Js (a:aD)(h:aC 1000000000000 aU a):kZ a a=some true:=by
 simp [kZ,tO _ h.2.2.2]
theorem Po (a:cq)(h:aC 1000000000000 bG a):nJ a a=some true:=by
 simp [nJ,tO _ h.2.2]
theorem Me (a:List cq)(h:aC 1000000000000 (.sl bG) a):rE a a=some true:=
 dy (f:=nJ) h.1 (fun x hx=>Po x (h.2 x hx))
theorem Hi (a:bu)(h:aC 1000000000000 aY a):lK a a=some true:=by
 simp [lK,Jt _ h.1,Js _ h.2.1,Me _ h.2.2.1]
theorem oV (a:aX)(h:aC 1000000000000 aP a):cE a a=some true:=by
 simp [cE]
theorem Hg (a:a7)(h:aC 1000000000000 dn a):lI a a=some true:=by
 simp [lI]
theorem Kl (a:aQ)(h:aC 1000000000000 ed a):nb a a=some true:=by
 simp [nb,Hg _ h.2.2.2.2.2.2.2.2]
theorem Mg (a:sA)(h:aC 1000000000000 nS a):ou a a=some true:=by
 simp [ou,Kl _ h.1]
theorem Hf (a:ax)(h:aC 1000000000000 aA a):iA a a=some true:=by
 simp [iA,Jt _ h.1,oV _ h.2.1,oV _ h.2.2.1,Mg _ h.2.2.2.1]
theorem E4 (a:List ax)(h:aC 1000000000000 (.sl aA) a):nY a a=some true:=
 dy (f:=iA) h.1 (fun x hx=>Hf x (h.2 x hx))
theorem Mc (a:List aD)(h:aC 1000000000000 (.sl aU) a):rC a a=some true:=
 dy (f:=kZ) h.1 (fun x hx=>Js x (h.2 x hx))
theorem Ko (a:Vector)(h:aC 1000000000000 aJ a):jP a a=some true:=by
 simp [jP]
theorem Hj (a:List Vector)(h:aC 1000000000000 (.sl aJ) a):pk a a=some true:=
 dy (f:=jP) h.1 (fun x hx=>Ko x (h.2 x hx))
theorem Mb (a:List Bool)(h:aC 1000000000000 (.sl .bool) a):rA a a=some true:=
 rk h.1
theorem Kj (a:Filter)(h:aC 1000000000000 bV a):m9 a a=some true:=by
 simp [m9,tO _ h.2.2]
theorem Pn (a:cg)(h:aC 1000000000000 bR a):nI a a=some true:=by
 simp [nI]
theorem Md (a:List cg)(h:aC 1000000000000 (.sl bR) a):rD a a=some true:=
 dy (f:=nI) h.1 (fun x hx=>Pn x (h.2 x hx))
theorem Jq (a:cO)(h:aC 1000000000000 ft a):nG a a=some true:=by
 simp [nG]
theorem Pp (a:Slot)(h:aC 1000000000000 a9 a):nK a a=some true:=by
 simp [nK,Jq _ h.2.1]
theorem Mf (a:List Slot)(h:aC 1000000000000 (.sl a9) a):rF a a=some true:=
 dy (f:=nK) h.1 (fun x hx=>Pp x (h.2 x hx))
theorem Di (a:List Slot)(h:aC 1000000000000 (.sl a9) a):je a a=some true:=by
 simp [je,Mf _ h]
theorem Km (a:di)(h:aC 1000000000000 cL a):nd a a=some true:=by
 simp [nd,tO _ h.2]
theorem E5 (a:bw)(h:aC 1000000000000 bm a):kn a a=some true:=by
 simp [kn,Md _ h.1,Di _ h.2.1,Km _ h.2.2]
theorem Kn (a:Stream)(h:aC 1000000000000 az a):jO a a=some true:=by
 simp [jO,Jq _ h.1]
theorem Hh (a:List Stream)(h:aC 1000000000000 (.sl az) a):pj a a=some true:=
 dy (f:=jO) h.1 (fun x hx=>Kn x (h.2 x hx))
theorem E2 (a:cO)(h:aC 1000000000000 ft a):km a a=some true:=by
 simp [km]
theorem Jr (a:Host)(h:aC 1000000000000 a8 a):iy a a=some true:=by
 simp [iy,Kk _ h.1,E3 _ h.2.1,Hi _ h.2.2.1,E4 _ h.2.2.2.1,Mc _ h.2.2.2.2.1,Hj _ h.2.2.2.2.2.1,Mb _ h.2.2.2.2.2.2.1,Kj _ h.2.2.2.2.2.2.2.1,E5 _ h.2.2.2.2.2.2.2.2.1,Hh _ h.2.2.2.2.2.2.2.2.2.1,zu _ h.2.2.2.2.2.2.2.2.2.2.2.1,tO _ h.2.2.2.2.2.2.2.2.2.2.2.2.1,tO _ h.2.2.2.2.2.2.2.2.2.2.2.2.2.1,E2 _ h.2.2.2.2.2.2.2.2.2.2.2.2.2.2]
end Go.Pu
end
section
namespace Go.Pu
open Go.Dn
set_option linter.unusedSimpArgs false
noncomputable section
def bn (a lo hi:Int):Bool:=decide (lo≤a)&&decide (a≤hi)
theorem bL {a lo hi:Int}:bn a lo hi=true↔lo≤a∧a≤hi:=by simp [bn]
theorem bc (a b c:Int):al a b c=some (bn a b c):=by
 simp only [al,aB,ab,bn]
 cases h:decide (a≥b)<;>rfl
theorem bO (a b c:Int):ah a b c=some (bn a b c):=bc a b c
theorem br {α:Type}{l:List α}{i:Nat}(h:i<l.length)(d:α):l.getD i d=l[i]:=by rw [List.getD_eq_getElem?_getD,List.getElem?_eq_getElem h];rfl
theorem VT {p:Prop}[Decidable p](h:p):decide p=true:=decide_eq_true h
theorem UA {p:Prop}[Decidable p](h:¬p):decide p=false:=decide_eq_false h
def AM (l:List Int)(i:Nat):Bool:=bn (l.getD i 0) 0 4095&& !(decide (0<i)&&decide (l.getD i 0≤l.getD (i-1) 0))
def p6 (f:Filter):Bool:=(List.range f.2.2.length).all (AM f.2.2)&&(bn f.1 0 281474976710654&&decide ((f.2.2.length:Int)≤8))
theorem Iq (f:Filter)(h:f.2.2.length≤1000000000):nq f=some (p6 f):=by
 unfold nq
 rw [iQ (hit:=some false) (fin:=some (bn f.1 0 281474976710654&&decide ((f.2.2.length:Int)≤8))) (AM f.2.2) f.2.2.length (by omega) (fun i nx hi=> ?hs) (fun nx=> ?hf)]
 case hs=>
  simp only [jl]
  rw [decide_eq_true (by omega),ay hi,wrap64 (n:=(i:Int)+1) (by omega) (by omega)]
  simp only [cond_true,ab,bc,AM,br hi]
  by_cases h0:0<i
  ·have e:IntKind.wrap .i64 ((i:Int)-1)=((i-1:Nat):Int):=by rw [wrap64 (by omega) (by omega)];omega
   have hp:i-1<f.2.2.length:=by omega
   rw [e,ay hp,decide_eq_true (show (i:Int)>0 by omega),decide_eq_true h0,br hp]
   simp only [cond_true,ab,Bool.true_and]
   cases bn f.2.2[i] 0 4095<;>cases decide (f.2.2[i]≤f.2.2[i-1])<;>rfl
  ·rw [decide_eq_false (show¬(i:Int)>0 by omega),decide_eq_false h0]
   simp only [cond_false,Bool.false_and]
   cases bn f.2.2[i] 0 4095<;>rfl
 case hf=>
  simp only [jl]
  rw [decide_eq_false (by omega)]
  simp only [cond_false,bc,ab,sB,aB]
  cases bn f.1 0 281474976710654<;>rfl
 unfold p6
 cases (List.range f.2.2.length).all (AM f.2.2)<;>rfl
theorem Hw (f:Filter)(h:f.2.2.length≤1000000000):mV f=some (p6 f):=by
 unfold mV
 rw [iQ (hit:=some false) (fin:=some (bn f.1 0 281474976710654&&decide ((f.2.2.length:Int)≤8))) (AM f.2.2) f.2.2.length (by omega) (fun i nx hi=> ?hs) (fun nx=> ?hf)]
 case hs=>
  simp only [iT]
  rw [decide_eq_true (by omega),ay hi,wrap64 (n:=(i:Int)+1) (by omega) (by omega)]
  simp only [cond_true,ab,bO,AM,br hi]
  by_cases h0:0<i
  ·have e:IntKind.wrap .i64 ((i:Int)-1)=((i-1:Nat):Int):=by rw [wrap64 (by omega) (by omega)];omega
   have hp:i-1<f.2.2.length:=by omega
   rw [e,ay hp,decide_eq_true (show (i:Int)>0 by omega),decide_eq_true h0,br hp]
   simp only [cond_true,ab,Bool.true_and,ge_iff_le]
   cases bn f.2.2[i] 0 4095<;>cases decide (f.2.2[i]≤f.2.2[i-1])<;>rfl
  ·rw [decide_eq_false (show¬(i:Int)>0 by omega),decide_eq_false h0]
   simp only [cond_false,Bool.false_and]
   cases bn f.2.2[i] 0 4095<;>rfl
 case hf=>
  simp only [iT]
  rw [decide_eq_false (by omega)]
  simp only [cond_false,bO,ab,sB,aB]
  cases bn f.1 0 281474976710654<;>rfl
 unfold p6
 cases (List.range f.2.2.length).all (AM f.2.2)<;>rfl
def tt (r:cg):Bool:=(fY r).getD false
theorem Gp (r:cg):fY r=some (tt r):=by
 have:∃b,fY r=some b:=by
  simp only [fY,bc,ab,aB]
  exact ⟨_,rfl⟩
 obtain ⟨b,hb⟩:=this
 simp [tt,hb]
theorem Xj (r:cg):ta r=some (tt r):=Gp r
theorem F9 {r:cg}(h:tt r=true):r.2.2.2.2.2.2.2.1=0∨r.2.2.2.2.2.2.2.2=0:=by
 by_cases h0:r.2.2.2.2.2.2.2.1=0
 ·exact .inl h0
 ·by_cases h1:r.2.2.2.2.2.2.2.2=0
  ·exact .inr h1
  ·exfalso
   have e0:(r.2.2.2.2.2.2.2.1==0)=false:=by simp [h0]
   have e1:(r.2.2.2.2.2.2.2.2==0)=false:=by simp [h1]
   revert h
   unfold tt
   simp only [fY,bc,ab,aB,e0,e1,cond_false,Option.getD_some]
   have z:∀c:Bool,(bif c then false else false)=false:=by intro c;cases c<;>rfl
   simp only [z]
   intro h
   cases h
def si (l:List cg):Bool:=l.all tt&&decide ((l.length:Int)≤12)
theorem Co (l:List cg)(h:l.length≤1000000000):oD l=some (si l):=by
 unfold oD
 rw [kT (hit:=some false) (fin:=some (decide ((l.length:Int)≤12))) tt l (by omega) (fun i hi nx=> ?hs) (fun nx=> ?hf)]
 case hs=>
  simp only [kD]
  rw [decide_eq_true (by omega),ay hi,wrap64 (by omega) (by omega)]
  simp only [cond_true,ab,Gp];rfl
 case hf=>
  simp only [kD]
  rw [decide_eq_false (by omega)];rfl
 unfold si
 cases l.all tt<;>rfl
theorem KC (l:List cg)(h:l.length≤1000000000):rq l=some (si l):=by
 rw [←Co l h];rfl
theorem aaU (x:Int):((BitVec.ofInt 64 x&&&BitVec.ofInt 64 7).toNat:Int)=x%8:=by
 have h7:(BitVec.ofInt 64 7).toNat=2^3-1:=by decide
 rw [BitVec.toNat_and,h7,Nat.and_two_pow_sub_one_eq_mod]
 simp only [BitVec.toNat_ofInt]
 omega
theorem VO (x:Int):((BitVec.ofInt (IntKind.bits .i64) x&&&BitVec.ofInt (IntKind.bits .i64) 7).toNat:Int)=x%8:=aaU x
theorem PJ (x:Int):cZ x 8=some (x%8):=by
 unfold cZ
 rw [if_neg (by omega),Int.tmod_eq_emod]
 split
 ·rw [decide_eq_false (by omega)];simp
 ·rw [decide_eq_true (by simp;omega),wrap64 (by simp;omega) (by simp;omega)];simp
def uu (f:cO):Int:=(f.1%8+f.2.1%8+f.2.2.1%8+f.2.2.2.1%8+f.2.2.2.2%8)%8
theorem Fj (f:cO):0≤uu f∧uu f<8:=by unfold uu;omega
theorem OS {n:Int}(h:0≤n):Int.tmod n 8=n%8:=Int.tmod_eq_emod_of_nonneg h
theorem Nx (f:cO):nr f=some (uu f):=by
 unfold nr
 generalize hL:[f.1,f.2.1,f.2.2.1,f.2.2.2.1,f.2.2.2.2]=L
 have hlen:L.length=5:=by rw [←hL];rfl
 have hfu:=bz
 have key:=mE (R:=Int) (T:=fN (fun (y2:Int) (y3:Int)=>if 8=0 then none else (some (Int.tmod y2 8))) L) L (fun (s:Int) i=>(s,(i:Int)))
  (fun x s k=>k (IntKind.wrap .i64 (s+IntKind.wrap .i64 (x%8)))) (fun s=>some (Int.tmod s 8))
  (fun i hi s nx=>by
   simp only [fN]
   rw [decide_eq_true (by omega),ay hi,wrap64 (n:=(i:Int)+1) (by omega) (by omega)]
   simp only [cond_true,ab]
   rw [VO L[i]];rfl)
  (fun s nx=>by
   simp only [fN]
   rw [decide_eq_false (by omega)];rfl)
  fuel 0 0 (by omega) (by omega)
 refine key.trans ?_
 rw [←hL]
 simp only [List.drop_zero,kW]
 rw [wrap64 (n:=f.1%8) (by omega) (by omega),wrap64 (n:=f.2.1%8) (by omega) (by omega),wrap64 (n:=f.2.2.1%8) (by omega) (by omega),wrap64 (n:=f.2.2.2.1%8) (by omega) (by omega),wrap64 (n:=f.2.2.2.2%8) (by omega) (by omega)]
 rw [wrap64 (n:=0+f.1%8) (by omega) (by omega),wrap64 (n:=0+f.1%8+_) (by omega) (by omega),wrap64 (n:=0+f.1%8+_+_) (by omega) (by omega),wrap64 (n:=0+f.1%8+_+_+_) (by omega) (by omega),wrap64 (n:=0+f.1%8+_+_+_+_) (by omega) (by omega)]
 rw [OS (by omega),uu,Int.zero_add]
theorem MC (f:cO):mW f=some (uu f):=by
 unfold mW
 generalize hL:[f.1,f.2.1,f.2.2.1,f.2.2.2.1,f.2.2.2.2]=L
 have hlen:L.length=5:=by rw [←hL];rfl
 have hfu:=bz
 have key:=mE (R:=Int) (T:=fy (fun (y2:Int) (y3:Int)=>if 8=0 then none else (some (Int.tmod y2 8))) L (L.length:Int)) L (fun (s:Int) i=>(s,(i:Int)))
  (fun x s k=>k (IntKind.wrap .i64 (s+(x%8)))) (fun s=>some (Int.tmod s 8))
  (fun i hi s nx=>by
   simp only [fy]
   rw [decide_eq_true (by omega),ay hi,wrap64 (n:=(i:Int)+1) (by omega) (by omega)]
   simp only [cond_true,ab,PJ]
   rfl)
  (fun s nx=>by
   simp only [fy]
   rw [decide_eq_false (by omega)];rfl)
  fuel 0 0 (by omega) (by omega)
 refine key.trans ?_
 rw [←hL]
 simp only [List.drop_zero,kW]
 rw [wrap64 (n:=0+f.1%8) (by omega) (by omega),wrap64 (n:=0+f.1%8+_) (by omega) (by omega),wrap64 (n:=0+f.1%8+_+_) (by omega) (by omega),wrap64 (n:=0+f.1%8+_+_+_) (by omega) (by omega),wrap64 (n:=0+f.1%8+_+_+_+_) (by omega) (by omega)]
 rw [OS (by omega),uu,Int.zero_add]
def bU (t:List Slot)(i:Nat):Slot:=t.getD i (0,(0,0,0,0,0),0)
theorem oR {t:List Slot}{i:Nat}(h:i<t.length):bU t i=t[i]:=br h _
def eg (f:cO)(k:Nat):Nat:=((uu f).toNat+k)%8
theorem wz (f:cO)(k:Nat):eg f k<8:=Nat.mod_lt _ (by omega)
theorem GI (f:cO)(k:Nat)(h:k<8):Int.tmod (IntKind.wrap .i64 (uu f+(k:Int))) 8=(eg f k:Int):=by
 have:=Fj f
 rw [wrap64 (by omega) (by omega),OS (by omega),eg];omega
def gO (s:Slot)(f:cO):Bool:=(s.1==1)&&decide (s.2.1=f)
theorem vw (p q:cO):((p.1==q.1)&&((p.2.1==q.2.1)&&((p.2.2.1==q.2.2.1)&&((p.2.2.2.1==q.2.2.2.1)&&((p.2.2.2.2==q.2.2.2.2)&&true)))))=decide (p=q):=by
 obtain ⟨a,b,c,d,e⟩:=p
 obtain ⟨a',b',c',d',e'⟩:=q
 rw [Bool.eq_iff_iff];simp
def walk (t:List Slot)(f:cO):Nat→Nat→Int
 |0,_=> -1
 |n+1,k=>if (bU t (eg f k)).1=0 then-1 else if gO (bU t (eg f k)) f then (eg f k:Int) else walk t f n (k+1)
theorem Nv (t:List Slot)(f:cO)(ht:t.length=8):oG t f=some (walk t f 8 0):=by
 unfold oG
 have hfu:=bz
 have key:=yb (R:=Int) (T:=gM (fun (y6:Int)=>some (-1)) (fun (y7:Int) (y8:Int)=>some y7) 0 t f) 8 (fun (_:Unit) i=>(i:Int))
  (fun i s k=>if (bU t (eg f i)).1=0 then some (-1) else if gO (bU t (eg f i)) f then some (eg f i:Int) else k s) (fun _=>some (-1))
  (fun i s nx hi=>by
   have hw:eg f i<t.length:=by have:=wz f i;omega
   simp only [gM,Nx]
   rw [decide_eq_true (by omega),wrap64 (n:=(i:Int)+1) (by omega) (by omega)]
   simp only [cond_true,ab,GI f i hi,ay hw,oR hw,vw,gO,aB,ab]
   rw [if_neg (by omega)]
   by_cases h0:t[eg f i].1=0
   ·simp [h0]
   ·have e0:(t[eg f i].1==0)=false:=by simp [h0]
    rw [e0,if_neg h0]
    cases (t[eg f i].1==1)<;>cases decide (t[eg f i].2.1=f)<;>rfl)
  (fun s nx=>by simp only [gM];rfl)
  fuel 0 () (by omega) (by omega)
 refine key.trans ?_
 have main:∀n i,O0 (R:=Int) (fun i (s:Unit) k=>if (bU t (eg f i)).1=0 then some (-1) else if gO (bU t (eg f i)) f then some (eg f i:Int) else k s) (fun _=>some (-1)) 8 n i ()=some (walk t f n i):=by
  intro n
  induction n with
  |zero=>intro i;rfl
  |succ n ih=>
   intro i
   rw [O0,walk]
   split
   ·rfl
   ·split
    ·rfl
    ·exact ih (i+1)
 exact main 8 0
def nV (f:cO):List Slot→Int→Int
 |[],_=> -1
 |s::r,i=>if gO s f then i else nV f r (i+1)
theorem MJ (t:List Slot)(f:cO)(h:t.length≤1000000000):qb t f=some (nV f t 0):=by
 unfold qb
 have hfu:=bz
 have key:∀n i,i≤t.length→t.length-i<n→aq (lG (fun (y3:Int)=>some (-1)) (fun (y4:Int) (y5:Int)=>some y4) 0 t ((List.length t:Int)) f) n (i:Int)=some (nV f (t.drop i) i):=by
  intro n
  induction n with
  |zero=>intro i _ h;omega
  |succ n ih=>
   intro i hi hn
   rw [aq]
   simp only [lG]
   rcases Nat.lt_or_ge i t.length with hlt|hge
   ·rw [decide_eq_true (by omega),ay hlt,List.drop_eq_getElem_cons hlt,nV,wrap64 (by omega) (by omega)]
    simp only [cond_true,ab,vw,aB]
    have e:(bif t[i].1==1 then decide (t[i].2.1=f) else false)=gO t[i] f:=by unfold gO;cases (t[i].1==1)<;>rfl
    rw [e]
    cases gO t[i] f with
    |true=>rfl
    |false=>exact ih (i+1) (by omega) (by omega)
   ·have:i=t.length:=by omega
    subst this
    rw [decide_eq_false (by omega),List.drop_length];rfl
 exact key fuel 0 (by omega) (by omega)
theorem Pz (f:cO):ry f=some ((List.range 8).map fun k=>(eg f k:Int)):=by
 unfold ry
 have hfu:=bz
 have key:=yb (R:=List Int) (T:=jN (fun (y2:List Int) (y3:Int)=>some y2) f) 8 (fun (_:Unit) i=>((List.range i).map (fun k=>(eg f k:Int)),(i:Int)))
  (fun _ s k=>k s) (fun _=>some ((List.range 8).map fun k=>(eg f k:Int)))
  (fun i s nx hi=>by
   simp only [jN,MC]
   rw [decide_eq_true (by omega),wrap64 (n:=(i:Int)+1) (by omega) (by omega)]
   simp only [cond_true,ab,GI f i hi]
   rw [if_neg (by omega),au (by simp;omega),List.range_succ,List.map_append]
   rfl)
  (fun s nx=>by simp only [jN];rfl)
  fuel 0 () (by omega) (by omega)
 exact key
def clear (t:List Slot)(f:cO)(i:Nat):Nat→Nat→Bool
 |0,_=>true
 |n+1,k=>if eg f k=i then true else if (bU t (eg f k)).1=0 then false else clear t f i n (k+1)
theorem Kw {R:Type}(k0:Int→Option R)(k1:Bool→Int→Option R)(hit fin:Option R)(h0:∀x,k0 x=fin)(h1:∀x,k1 false x=hit)(v2:Bool)(i:Nat)(v12:List Slot)(v13 v14:Int)(t:List Slot)(f:cO)(ht:t.length=8):
 aq (dH k0 k1 v2 (i:Int) v12 v13 v14 ((List.range 8).map fun k=>(eg f k:Int)) (((List.range 8).map fun k=>(eg f k:Int)).length:Int) t) fuel 0=cond (clear t f i 8 0) fin hit:=by
 have hfu:=bz
 have hl:((List.range 8).map fun k=>(eg f k:Int)).length=8:=by simp
 have key:=yb (R:=R) (T:=dH k0 k1 v2 (i:Int) v12 v13 v14 ((List.range 8).map fun k=>(eg f k:Int)) (((List.range 8).map fun k=>(eg f k:Int)).length:Int) t) 8 (fun (_:Unit) i=>(i:Int))
  (fun k s c=>if eg f k=i then fin else if (bU t (eg f k)).1=0 then hit else c s) (fun _=>fin)
  (fun k s nx hk=>by
   have hw:eg f k<t.length:=by have:=wz f k;omega
   simp only [dH]
   rw [decide_eq_true (by omega),ay (show k<((List.range 8).map fun k=>(eg f k:Int)).length by omega),wrap64 (n:=(k:Int)+1) (by omega) (by omega)]
   simp only [cond_true,ab,List.getElem_map,List.getElem_range,ay hw,oR hw,h0,h1]
   by_cases e1:eg f k=i
   ·subst e1;simp
   ·have:((eg f k:Int)==(i:Int))=false:=by simp;omega
    rw [this,if_neg e1]
    by_cases e2:t[eg f k].1=0
    ·simp [e2]
    ·have:(t[eg f k].1==0)=false:=by simp [e2]
     rw [this,if_neg e2];rfl)
  (fun s nx=>by
   simp only [dH]
   rw [decide_eq_false (by omega)];exact h0 _)
  fuel 0 () (by omega) (by omega)
 refine key.trans ?_
 have main:∀n k,O0 (R:=R) (fun k (s:Unit) c=>if eg f k=i then fin else if (bU t (eg f k)).1=0 then hit else c s) (fun _=>fin) 8 n k ()=cond (clear t f i n k) fin hit:=by
  intro n
  induction n with
  |zero=>intro k;rfl
  |succ n ih=>
   intro k
   rw [O0,clear]
   split
   ·rfl
   ·split
    ·rfl
    ·exact ih (k+1)
 exact main 8 0
def Fc:cO:=(0,0,0,0,0)
theorem Fe (p:cO):((p.1==0)&&((p.2.1==0)&&((p.2.2.1==0)&&((p.2.2.2.1==0)&&((p.2.2.2.2==0)&&true)))))=decide (p=Fc):=vw p Fc
def Gf (s:Slot):Bool:=bn s.1 0 2&&bn s.2.2 0 3&&((s.1==1)||(s.2.2==0)&&decide (s.2.1=Fc))
def gV (t:List Slot)(i:Nat):Bool:=Gf (bU t i)&&(!((bU t i).1==1)||(walk t (bU t i).2.1 8 0==(i:Int)))
def kX (t:List Slot)(i:Nat):Bool:=Gf (bU t i)&&(!((bU t i).1==1)||(nV (bU t i).2.1 t 0==(i:Int))&&clear t (bU t i).2.1 i 8 0)
def mQ (t:List Slot):Bool:=(t.length==8)&&(List.range 8).all (gV t)
theorem Lv (t:List Slot):oE t=some (mQ t):=by
 unfold oE mQ
 by_cases ht:t.length=8
 ·have e:((t.length:Int) !=8)=false:=by rw [ht];rfl
  have e2:(t.length==8)=true:=by rw [ht];rfl
  rw [e,e2]
  simp only [cond_false,Bool.true_and]
  rw [iQ (hit:=some false) (fin:=some true) (gV t) 8 (by omega) (fun i nx hi=> ?hs) (fun nx=> ?hf)]
  case hs=>
   have hl:i<t.length:=by omega
   simp only [kF]
   rw [decide_eq_true (by omega),ay hl,wrap64 (by omega) (by omega)]
   simp only [cond_true,ab,bc,aB,Fe,Nv t _ ht,gV,oR hl,Gf,bne]
   cases bn t[i].1 0 2<;>cases bn t[i].2.2 0 3<;>cases (t[i].1==1)<;>cases (t[i].2.2==0)<;>cases decide (t[i].2.1=Fc)<;>first|rfl|(cases (walk t t[i].2.1 8 0==(i:Int))<;>rfl)
  case hf=>
   simp only [kF]
   rw [decide_eq_false (by omega)];rfl
  cases (List.range 8).all (gV t)<;>rfl
 ·have e:((t.length:Int) !=8)=true:=by simp;omega
  have e2:(t.length==8)=false:=by simp [ht]
  rw [e,e2];rfl
theorem HA (t:List Slot):lB t=some ((t.length==8)&&(List.range 8).all (kX t)):=by
 unfold lB
 by_cases ht:t.length=8
 ·have e:((t.length:Int) !=8)=false:=by rw [ht];rfl
  have e2:(t.length==8)=true:=by rw [ht];rfl
  rw [e,e2]
  simp only [cond_false,Bool.true_and]
  rw [iQ (hit:=some false) (fin:=some true) (kX t) 8 (by omega) (fun i nx hi=> ?hs) (fun nx=> ?hf)]
  case hs=>
   have hl:i<t.length:=by omega
   simp only [kj]
   rw [decide_eq_true (by omega),ay hl,wrap64 (by omega) (by omega)]
   simp only [cond_true,ab,bO,aB,Fe,MJ t _ (show t.length≤1000000000 by omega),Pz,kX,oR hl,Gf,bne]
   rw [Kw (fun _=>nx ((i:Int)+1)) (fun (y:Bool) (_:Int)=>some y) (some false) (nx ((i:Int)+1)) (fun _=>rfl) (fun _=>rfl) _ _ _ _ _ _ _ ht]
   cases bn t[i].1 0 2<;>cases bn t[i].2.2 0 3<;>cases (t[i].1==1)<;>cases (t[i].2.2==0)<;>cases decide (t[i].2.1=Fc)<;>first|rfl|(cases (nV t[i].2.1 t 0==(i:Int))<;>first|rfl|(cases clear t t[i].2.1 i 8 0<;>rfl))
  case hf=>
   simp only [kj]
   rw [decide_eq_false (by omega)];rfl
  cases (List.range 8).all (kX t)<;>rfl
 ·have e:((t.length:Int) !=8)=true:=by simp;omega
  have e2:(t.length==8)=false:=by simp [ht]
  rw [e,e2];rfl
theorem CA (t:List Slot)(f:cO)(i:Nat):∀n k,walk t f n k=(i:Int)→gO (bU t i) f=true∧clear t f i n k=true∧∃j,j<n∧eg f (k+j)=i
 |0,k,h=>by unfold walk at h;omega
 |n+1,k,h=>by
  unfold walk at h
  unfold clear
  by_cases h0:(bU t (eg f k)).1=0
  ·rw [if_pos h0] at h;omega
  ·rw [if_neg h0] at h
   by_cases h1:gO (bU t (eg f k)) f=true
   ·rw [if_pos h1] at h
    have:eg f k=i:=by omega
    subst this
    exact ⟨h1,by simp,0,by omega,rfl⟩
   ·rw [if_neg h1] at h
    obtain ⟨a,b,j,hj,e⟩:=CA t f i n (k+1) h
    refine ⟨a, ?_,j+1,by omega,by rw [←e];congr 1;omega⟩
    rw [if_neg h0,b];split<;>rfl
theorem J4 (t:List Slot)(f:cO)(i:Nat)(hu:gO (bU t i) f=true)(huniq:∀j,j<8→gO (bU t j) f=true→j=i):∀n k,clear t f i n k=true→(∃j,j<n∧eg f (k+j)=i)→walk t f n k=(i:Int)
 |0,k,_,h=>by obtain ⟨j,hj,_⟩:=h;omega
 |n+1,k,hc,⟨j,hj,e⟩=>by
  unfold walk
  unfold clear at hc
  by_cases h1:eg f k=i
  ·rw [h1,if_neg,if_pos hu]
   intro h0
   unfold gO at hu
   rw [h0] at hu
   simp at hu
  ·rw [if_neg h1] at hc
   by_cases h0:(bU t (eg f k)).1=0
   ·rw [if_pos h0] at hc;cases hc
   ·rw [if_neg h0] at hc
    rw [if_neg h0,if_neg (fun hu'=>h1 (huniq _ (wz f k) hu'))]
    refine J4 t f i hu huniq n (k+1) hc ?_
    cases j with
    |zero=>exact absurd e h1
    |succ j=>exact ⟨j,by omega,by rw [←e];congr 1;omega⟩
theorem Qk (f:cO)(i:Nat)(hi:i<8):∃j,j<8∧eg f (0+j)=i:=by
 have:=Fj f
 refine ⟨(i+8-(uu f).toNat)%8,by omega, ?_⟩
 unfold eg;omega
theorem sX (f:cO):∀(t:List Slot)(m:Nat),(∃j,j<t.length∧gO (bU t j) f=true)→∃j,j<t.length∧gO (bU t j) f=true∧nV f t m=((m+j:Nat):Int)
 |[],_,h=>by obtain ⟨j,hj,_⟩:=h;simp at hj
 |s::r,m,⟨j,hj,e⟩=>by
  unfold nV
  by_cases hs:gO s f=true
  ·rw [if_pos hs];exact ⟨0,by simp,by simpa [bU] using hs,by simp⟩
  ·rw [if_neg hs]
   cases j with
   |zero=>exact absurd (by simpa [bU] using e) hs
   |succ j=>
    obtain ⟨j',h1,h2,h3⟩:=sX f r (m+1) ⟨j,by simpa using hj,by simpa [bU] using e⟩
    refine ⟨j'+1,by simpa using h1,by simpa [bU] using h2, ?_⟩
    have:((m:Int)+1)=((m+1:Nat):Int):=by omega
    rw [this,h3];congr 1;omega
theorem Il (t:List Slot)(ht:t.length=8):(List.range 8).all (kX t)=(List.range 8).all (gV t):=by
 rw [Bool.eq_iff_iff,List.all_eq_true,List.all_eq_true]
 simp only [List.mem_range]
 constructor
 ·intro h i hi
  have hI:=h i hi
  unfold kX at hI
  unfold gV
  simp only [Bool.and_eq_true,Bool.or_eq_true,Bool.not_eq_true',beq_iff_eq] at hI⊢
  refine ⟨hI.1, ?_⟩
  rcases hI.2 with h1|⟨h1,h2⟩
  ·exact .inl h1
  ·by_cases hu:((bU t i).1==1)=true
   ·right
    have hu':gO (bU t i) (bU t i).2.1=true:=by unfold gO;rw [hu];simp
    refine J4 t _ i hu' (fun j hj huj=> ?_) 8 0 h2 (Qk _ i hi)
    have hJ:=h j hj
    unfold kX at hJ
    unfold gO at huj
    simp only [Bool.and_eq_true,decide_eq_true_eq] at huj
    simp only [Bool.and_eq_true,Bool.or_eq_true,Bool.not_eq_true',beq_iff_eq] at hJ
    rcases hJ.2 with h3|⟨h3,_⟩
    ·rw [huj.1] at h3;cases h3
    ·rw [huj.2] at h3;omega
   ·exact .inl (by simpa using hu)
 ·intro h i hi
  have hI:=h i hi
  unfold gV at hI
  unfold kX
  simp only [Bool.and_eq_true,Bool.or_eq_true,Bool.not_eq_true',beq_iff_eq] at hI⊢
  refine ⟨hI.1, ?_⟩
  rcases hI.2 with h1|h1
  ·exact .inl h1
  ·right
   obtain ⟨hu,hc,_⟩:=CA t _ i 8 0 h1
   refine ⟨?_,hc⟩
   obtain ⟨j,hj,huj,e⟩:=sX (bU t i).2.1 t 0 ⟨i,by omega,hu⟩
   have hJ:=h j (by omega)
   unfold gV at hJ
   unfold gO at huj
   simp only [Bool.and_eq_true,decide_eq_true_eq] at huj
   simp only [Bool.and_eq_true,Bool.or_eq_true,Bool.not_eq_true',beq_iff_eq] at hJ
   rcases hJ.2 with h3|h3
   ·rw [huj.1] at h3;cases h3
   ·rw [huj.2,h1] at h3
    have e':nV (bU t i).2.1 t 0=((0+j:Nat):Int):=e
    rw [e'];omega
theorem KG (t:List Slot):lB t=some (mQ t):=by
 rw [HA,mQ]
 by_cases ht:t.length=8
 ·rw [Il t ht]
 ·have e2:(t.length==8)=false:=by simp [ht]
  rw [e2];rfl
theorem Qa (n:Int):pa n=mw n:=rfl
def JR (n:Int):Bool:=(n==1)||(n==2)||(n==4)||(n==8)||(n==16)
theorem HK (n:Int):mw n=some (JR n):=by
 simp only [mw,aB,ab,JR]
 cases (n==1)<;>cases (n==2)<;>cases (n==4)<;>cases (n==8)<;>rfl
def qx (s:di)(q:Int):Bool:=bn q 1 4&&((s.1.length:Int)==16)&&JR s.2.length&&s.2.all fun x=>bn x 0 (q-1)
theorem Aq (s:di)(q:Int)(h:s.2.length≤1000000000):nu s q=some (qx s q):=by
 unfold nu qx
 simp only [bc,HK,ab,aB,bne]
 by_cases hq:bn q 1 4=true
 ·rw [kT (hit:=some false) (fin:=some true) (fun x=>bn x 0 (q-1)) s.2 (by omega) (fun i hi nx=> ?hs) (fun nx=> ?hf)]
  case hs=>
   rw [bL] at hq
   simp only [jq]
   rw [decide_eq_true (by omega),ay hi,wrap64 (n:=(i:Int)+1) (by omega) (by omega),wrap64 (n:=q-1) (by omega) (by omega)]
   simp only [cond_true,ab,bc];rfl
  case hf=>
   simp only [jq]
   rw [decide_eq_false (by omega)];rfl
  rw [hq]
  cases ((s.1.length:Int)==16)<;>cases JR s.2.length<;>cases s.2.all (fun x=>bn x 0 (q-1))<;>rfl
 ·have hq':bn q 1 4=false:=by simpa using hq
  rw [hq'];rfl
theorem Hz (s:di)(q:Int)(h:s.2.length≤1000000000):qB s q=some (qx s q):=by
 rw [←Aq s q h];rfl
def ew (s:bw)(q:Int):Bool:=si s.1&&mQ s.2.1&&qx s.2.2 q&&s.1.all (fun r=> !(decide (r.2.2.2.2.2.2.2.2≥q)))&&s.2.1.all (fun x=> !(decide (x.2.2≥q)))
theorem D9 (s:bw)(q:Int)(h1:s.1.length≤1000000000)(h2:s.2.1.length≤1000000000)(h3:s.2.2.2.length≤1000000000):kE s q=some (ew s q):=by
 unfold kE ew
 simp only [Co _ h1,Lv,Aq _ _ h3,ab,aB]
 rw [kT (hit:=some false) (fin:=cond (s.2.1.all (fun x=> !(decide (x.2.2≥q)))) (some true) (some false)) (fun r:cg=> !(decide (r.2.2.2.2.2.2.2.2≥q))) s.1 (by omega) (fun i hi nx=> ?hs) (fun nx=> ?hf)]
 case hs=>
  simp only [gw]
  rw [decide_eq_true (by omega),ay hi,wrap64 (by omega) (by omega)]
  simp only [cond_true,ab,Bool.not_not];rfl
 case hf=>
  simp only [gw]
  rw [decide_eq_false (by omega)]
  simp only [cond_false]
  rw [kT (hit:=some false) (fin:=some true) (fun x:Slot=> !(decide (x.2.2≥q))) s.2.1 (by omega) (fun i hi nx=> ?hs) (fun nx=> ?hf)]
  case hs=>
   simp only [gx]
   rw [decide_eq_true (by omega),ay hi,wrap64 (by omega) (by omega)]
   simp only [cond_true,ab,Bool.not_not];rfl
  case hf=>
   simp only [gx]
   rw [decide_eq_false (by omega)];rfl
 cases si s.1<;>cases mQ s.2.1<;>cases qx s.2.2 q<;>cases s.1.all (fun r=> !(decide (r.2.2.2.2.2.2.2.2≥q)))<;>cases s.2.1.all (fun x=> !(decide (x.2.2≥q)))<;>rfl
theorem Dx (s:bw)(q:Int)(h1:s.1.length≤1000000000)(h2:s.2.1.length≤1000000000)(h3:s.2.2.2.length≤1000000000):ki s q=some (ew s q):=by
 unfold ki ew
 simp only [KC _ h1,KG,Hz _ _ h3,ab,aB]
 rw [kT (hit:=some false) (fin:=cond (s.2.1.all (fun x=> !((x.1==1)&&decide (x.2.2≥q)))) (some true) (some false)) (fun r:cg=> !((r.2.2.2.2.2.2.2.1==0)&&decide (r.2.2.2.2.2.2.2.2≥q))) s.1 (by omega) (fun i hi nx=> ?hs) (fun nx=> ?hf)]
 case hs=>
  simp only [gk]
  rw [decide_eq_true (by omega),ay hi,wrap64 (by omega) (by omega)]
  simp only [cond_true,ab,Bool.not_not,aB]
  cases (s.1[i].2.2.2.2.2.2.2.1==0)<;>rfl
 case hf=>
  simp only [gk]
  rw [decide_eq_false (by omega)]
  simp only [cond_false]
  rw [kT (hit:=some false) (fin:=some true) (fun x:Slot=> !((x.1==1)&&decide (x.2.2≥q))) s.2.1 (by omega) (fun i hi nx=> ?hs) (fun nx=> ?hf)]
  case hs=>
   simp only [eZ]
   rw [decide_eq_true (by omega),ay hi,wrap64 (by omega) (by omega)]
   simp only [cond_true,ab,Bool.not_not,aB]
   cases (s.2.1[i].1==1)<;>rfl
  case hf=>
   simp only [eZ]
   rw [decide_eq_false (by omega)];rfl
 cases hr:si s.1 with
 |false=>rfl
 |true=>
  cases ht:mQ s.2.1 with
  |false=>rfl
  |true=>
   cases hs:qx s.2.2 q with
   |false=>rfl
   |true=>
    have hq:1≤q:=by
     unfold qx at hs
     simp only [Bool.and_eq_true,bL] at hs
     exact hs.1.1.1.1
    have e1:s.1.all (fun r=> !((r.2.2.2.2.2.2.2.1==0)&&decide (r.2.2.2.2.2.2.2.2≥q)))=s.1.all (fun r=> !(decide (r.2.2.2.2.2.2.2.2≥q))):=by
     unfold si at hr
     simp only [Bool.and_eq_true,List.all_eq_true] at hr
     rw [Bool.eq_iff_iff,List.all_eq_true,List.all_eq_true]
     refine forall_congr' fun r=>forall_congr' fun hm=> ?_
     rcases F9 (hr.1 r hm) with h0|h0
     ·rw [h0];simp
     ·rw [h0]
      simp only [decide_eq_false (show¬(0:Int)≥q by omega),Bool.and_false]
    have e2:s.2.1.all (fun x=> !((x.1==1)&&decide (x.2.2≥q)))=s.2.1.all (fun x=> !(decide (x.2.2≥q))):=by
     unfold mQ at ht
     simp only [Bool.and_eq_true,List.all_eq_true,List.mem_range,beq_iff_eq] at ht
     rw [Bool.eq_iff_iff,List.all_eq_true,List.all_eq_true]
     refine forall_congr' fun x=>forall_congr' fun hm=> ?_
     obtain ⟨i,hi,rfl⟩:=List.mem_iff_getElem.1 hm
     have hsl:=ht.2 i (by omega)
     unfold gV Gf at hsl
     rw [oR hi] at hsl
     simp only [Bool.and_eq_true,Bool.or_eq_true,beq_iff_eq] at hsl
     rcases hsl.1.2 with h0|⟨h0,_⟩
     ·rw [h0];simp
     ·rw [h0]
      simp only [decide_eq_false (show¬(0:Int)≥q by omega),Bool.and_false]
    rw [e1,e2]
    cases s.1.all (fun r=> !(decide (r.2.2.2.2.2.2.2.2≥q)))<;>cases s.2.1.all (fun x=> !(decide (x.2.2≥q)))<;>rfl
end
end Go.Pu
end
section
namespace Go.Pu
open Go.Dn
set_option linter.unusedSimpArgs false
set_option linter.unusedVariables false
noncomputable section
def cn (m:List Bytes):Bool:=m.all (fun x=>(x.length:Int)==128)&&decide ((m.length:Int)≤64)
theorem sk (m:List Bytes)(h:m.length≤1000000000):gX m=some (cn m):=by
 unfold gX cn
 rw [kT (hit:=some false) (fin:=some (decide ((m.length:Int)≤64))) (fun x:Bytes=>(x.length:Int)==128) m (by omega) (fun i hi nx=> ?hs) (fun nx=> ?hf)]
 case hs=>
  simp only [jm]
  rw [decide_eq_true (by omega),ay hi,wrap64 (by omega) (by omega)];rfl
 case hf=>
  simp only [jm]
  rw [decide_eq_false (by omega)];rfl
 cases m.all (fun x=>(x.length:Int)==128)<;>rfl
theorem uU (m:List Bytes)(h:m.length≤1000000000):jJ m=some (cn m):=sk m h
def xO:ae:=(0,0,0,false)
def uY (m:ae):Bool:=bn m.1 0 7&&(bn m.2.1 0 1023&&bn m.2.2.1 0 63)
def iJ (d p:Int)(m:ae):Bool:=(m.1==d)&&(m.2.1==p)
def zT (l:List ae)(i:Nat):Bool:=uY (l.getD i xO)&&(List.range i).all (fun j=> !(iJ (l.getD i xO).1 (l.getD i xO).2.1 (l.getD j xO)))
def bC (l:List ae):Bool:=decide ((l.length:Int)≤96)&&(List.range l.length).all (zT l)
theorem we (l:List ae)(h:l.length≤1000000000):gJ l=some (bC l):=by
 unfold gJ bC
 rw [iQ (hit:=some false) (fin:=some true) (zT l) l.length (by omega) (fun i nx hi=> ?hs) (fun nx=> ?hf)]
 case hs=>
  simp only [gv]
  rw [decide_eq_true (by omega),ay hi,wrap64 (by omega) (by omega)]
  simp only [cond_true,ab,bc,aB]
  rw [iQ (hit:=some false) (fin:=nx ((i:Int)+1)) (fun j=> !(iJ l[i].1 l[i].2.1 (l.getD j xO))) i (by omega) (fun j nx hj=> ?hs2) (fun nx=> ?hf2)]
  case hs2=>
   have hjl:j<l.length:=by omega
   simp only [ff]
   rw [decide_eq_true (by omega),ay hjl,wrap64 (by omega) (by omega)]
   simp only [cond_true,ab,aB,br hjl,iJ,cF,Bool.not_not];rfl
  case hf2=>
   simp only [ff]
   rw [decide_eq_false (by omega)];rfl
  simp only [zT,uY,br hi,cT]
  cases bn l[i].1 0 7<;>cases bn l[i].2.1 0 1023<;>cases bn l[i].2.2.1 0 63<;>cases (List.range i).all (fun j=> !(iJ l[i].1 l[i].2.1 (l.getD j xO)))<;>rfl
 case hf=>
  simp only [gv]
  rw [decide_eq_false (by omega)];rfl
 have e:decide ((l.length:Int)>96)= !decide ((l.length:Int)≤96):=by rw [Bool.eq_iff_iff];simp
 rw [e]
 cases decide ((l.length:Int)≤96)<;>cases (List.range l.length).all (zT l)<;>rfl
def FX (l:List ae)(d p:Int):Int:=match l.findIdx? (iJ d p) with|some i=>(i:Int)|none=> -1
theorem Fs (l:List ae)(d p:Int)(h:l.length≤1000000000):fA l d p=some (FX l d p):=by
 unfold fA FX
 rw [tR (hit:=fun i=>some i) (fin:=some (-1)) (iJ d p) l (by omega) (fun i hi nx=> ?hs) (fun nx=> ?hf)]
 case hs=>
  simp only [fc]
  rw [decide_eq_true (by omega),ay hi,wrap64 (by omega) (by omega)]
  simp only [cond_true,ab,aB,cF,iJ];rfl
 case hf=>
  simp only [fc]
  rw [decide_eq_false (by omega)];rfl
 cases l.findIdx? (iJ d p)<;>rfl
theorem H7 (l:List ae)(i:Nat)(hi:i<l.length):(FX l l[i].1 l[i].2.1==(i:Int))=(List.range i).all (fun j=> !(iJ l[i].1 l[i].2.1 (l.getD j xO))):=by
 have hself:iJ l[i].1 l[i].2.1 l[i]=true:=by simp [iJ]
 unfold FX
 cases hq:l.findIdx? (iJ l[i].1 l[i].2.1) with
 |none=>
  rw [List.findIdx?_eq_none_iff] at hq
  rw [hq l[i] (List.getElem_mem hi)] at hself;cases hself
 |some k=>
  rw [List.findIdx?_eq_some_iff_getElem] at hq
  obtain ⟨hk,hpk,hlt⟩:=hq
  rw [Bool.eq_iff_iff,List.all_eq_true]
  simp only [List.mem_range,beq_iff_eq,Bool.not_eq_true']
  constructor
  ·intro e j hj
   have hjl:j<l.length:=by omega
   rw [br hjl]
   have:=hlt j (by omega)
   simpa using this
  ·intro hall
   rcases Nat.lt_trichotomy k i with hki|hki|hki
   ·have:=hall k hki
    rw [br hk,hpk] at this;cases this
   ·omega
   ·have:=hlt i hki
    rw [hself] at this;simp at this
theorem vD (l:List ae)(h:l.length≤1000000000):gE l=some (bC l):=by
 unfold gE bC
 rw [iQ (hit:=some false) (fin:=some (decide ((l.length:Int)≤96))) (zT l) l.length (by omega) (fun i nx hi=> ?hs) (fun nx=> ?hf)]
 case hs=>
  simp only [gj]
  rw [decide_eq_true (by omega),ay hi,wrap64 (by omega) (by omega)]
  simp only [cond_true,ab,bO,aB,Fs _ _ _ h,bne,H7 l i hi,zT,uY,br hi]
  cases bn l[i].1 0 7<;>cases bn l[i].2.1 0 1023<;>cases bn l[i].2.2.1 0 63<;>cases (List.range i).all (fun j=> !(iJ l[i].1 l[i].2.1 (l.getD j xO)))<;>rfl
 case hf=>
  simp only [gj]
  rw [decide_eq_false (by omega)];rfl
 cases decide ((l.length:Int)≤96)<;>cases (List.range l.length).all (zT l)<;>rfl
def zC (n:Int)(l:List Int)(i:Nat):Bool:=bn (l.getD i 0) 0 (n-1)&& !((l.take i).contains (l.getD i 0))
def cd (p:aD):Bool:=bn p.1 0 130944&&(bn p.2.1 1 512&&(bn p.2.2.1 0 16&&(List.range p.2.2.2.length).all (zC p.2.2.1 p.2.2.2)))
def sR (n:Int)(l:List Int):List Bool:=(List.range n.toNat).map fun k:Nat=>l.contains (k:Int)
theorem Ci (n:Int)(l:List Int):(sR n l).length=n.toNat:=by simp [sR]
theorem ue (n:Int)(l:List Int)(k:Nat)(h:k<(sR n l).length):(sR n l)[k]=l.contains (k:Int):=by simp [sR]
theorem Lp (n:Int)(l:List Int)(k:Nat)(h:k<n.toNat):(sR n l).set k true=sR n (l++[(k:Int)]):=by
 apply List.ext_getElem
 ·simp [sR]
 ·intro j h1 h2
  rw [List.getElem_set]
  split
  ·rename_i e;subst e;rw [ue];simp
  ·rename_i e
   rw [ue,ue]
   simp only [List.contains_append]
   have:([(k:Int)].contains (j:Int))=false:=by simp;omega
   rw [this];simp
theorem F0 {T:(List Bool×Int→Option Bool)→List Bool×Int→Option Bool}(n:Int)(l:List Int)(hl:l.length≤1000000000)
 (hs:∀i (hi:i<l.length)(s:List Bool) nx,T nx (s,(i:Int))=aa (cond (!(bn l[i] 0 (n-1))) (some true) (aa (idx s l[i]) fun x=>some x)) fun q=>
  cond q (some false) (aa (idx s l[i]) fun _=>aa (idx s l[i]) fun _=>nx (s.set l[i].toNat true,((i+1:Nat):Int)))) (hf:∀s nx,T nx (s,(l.length:Int))=some true):
 aq T fuel (List.replicate n.toNat false,0)=some ((List.range l.length).all (zC n l)):=by
 have e0:(List.replicate n.toNat false,(0:Int))=(sR n (l.take 0),((0:Nat):Int)):=by
  congr 1
  simp only [sR,List.take_zero,List.contains_nil,List.map_const',List.length_range]
 rw [e0,Bz (hit:=some false) (fin:=some true) (fun i=>(sR n (l.take i),(i:Int))) (zC n l) l.length (by omega) (fun i nx hi hp=> ?hs) (fun _ nx=>hf _ nx)]
 case hs=>
  rw [hs i hi]
  unfold zC
  rw [br hi]
  by_cases hin:bn l[i] 0 (n-1)=true
  ·have hb:=hin
   rw [bL] at hb
   obtain ⟨k,hk⟩:∃k:Nat,l[i]=(k:Int):=⟨l[i].toNat,by omega⟩
   have hkn:k<(sR n (l.take i)).length:=by rw [Ci];omega
   rw [hin,hk,ay hkn,ue]
   simp only [Bool.not_true,cond_false,ab,Bool.true_and,Bool.not_not,Int.toNat_natCast]
   rw [Lp _ _ _ (by rw [Ci] at hkn;exact hkn),←hk,←List.take_succ_eq_append_getElem hi]
  ·have hin':bn l[i] 0 (n-1)=false:=by simpa using hin
   rw [hin'];rfl
 cases (List.range l.length).all (zC n l)<;>rfl
theorem md (p:aD)(h:p.2.2.2.length≤1000000000):c9 p=some (cd p):=by
 unfold c9 cd
 simp only [bc,ab,aB]
 by_cases hn:bn p.2.2.1 0 16=true
 ·have hb:=hn
  rw [bL] at hb
  rw [if_pos (by omega),au (by omega),F0 p.2.2.1 p.2.2.2 h (fun i hi s nx=> ?hs) (fun s nx=> ?hf)]
  case hs=>
   simp only [mn]
   rw [decide_eq_true (by omega),ay hi,wrap64 (n:=(i:Int)+1) (by omega) (by omega),wrap64 (n:=p.2.2.1-1) (by omega) (by omega)]
   simp only [cond_true,ab,bc];rfl
  case hf=>
   simp only [mn]
   rw [decide_eq_false (by omega)];rfl
  rw [hn]
  cases bn p.1 0 130944<;>cases bn p.2.1 1 512<;>rfl
 ·have hn':bn p.2.2.1 0 16=false:=by simpa using hn
  rw [hn']
  cases bn p.1 0 130944<;>cases bn p.2.1 1 512<;>rfl
theorem nC (p:aD)(h:p.2.2.2.length≤1000000000):cY p=some (cd p):=by
 unfold cY cd
 simp only [bO,ab,aB]
 by_cases hn:bn p.2.2.1 0 16=true
 ·have hb:=hn
  rw [bL] at hb
  rw [if_pos (by omega),au (by omega),F0 p.2.2.1 p.2.2.2 h (fun i hi s nx=> ?hs) (fun s nx=> ?hf)]
  case hs=>
   simp only [ly]
   rw [decide_eq_true (by omega),ay hi,wrap64 (n:=(i:Int)+1) (by omega) (by omega),wrap64 (n:=p.2.2.1-1) (by omega) (by omega)]
   simp only [cond_true,ab,bO];rfl
  case hf=>
   simp only [ly]
   rw [decide_eq_false (by omega)];rfl
  rw [hn]
  cases bn p.1 0 130944<;>cases bn p.2.1 1 512<;>rfl
 ·have hn':bn p.2.2.1 0 16=false:=by simpa using hn
  rw [hn']
  cases bn p.1 0 130944<;>cases bn p.2.1 1 512<;>rfl
def dK (n:Int):Bool:=(n==2)||((n==4)||((n==8)||(n==16)))
theorem rz (n:Int):jv n=some (dK n):=by
 simp only [jv,aB,ab,dK,cT]
theorem tr (n:Int):jL n=some (dK n):=rz n
theorem eR {n:Int}:dK n=true↔n=2∨n=4∨n=8∨n=16:=by simp [dK]
theorem re (x:Int)(k:Nat)(hk:k≤64):IntKind.wrap .i64 x%(2^k:Int)=x%(2^k:Int):=by
 obtain ⟨c,hc⟩:∃c:Int,(18446744073709551616:Int)=2^k*c:=⟨2^(64-k),by rw [←Int.pow_add,show k+(64-k)=64 by omega];rfl⟩
 have:IntKind.wrap .i64 x=x∨∃q:Int,IntKind.wrap .i64 x=x+18446744073709551616*q:=by
  right
  simp only [IntKind.wrap,IntKind.bits,IntKind.signed]
  simp
  have h1:x=x%18446744073709551616+18446744073709551616*(x/18446744073709551616):=by omega
  split
  ·exact ⟨-(x/18446744073709551616)-1,by omega⟩
  ·exact ⟨-(x/18446744073709551616),by omega⟩
 rcases this with h|⟨q,h⟩
 ·rw [h]
 ·rw [h,hc,Int.mul_assoc,Int.add_mul_emod_self_left]
theorem sT (x:Int)(k:Nat)(hk:k<63):((BitVec.ofInt (IntKind.bits .i64) x&&&BitVec.ofInt (IntKind.bits .i64) (2^k-1)).toNat:Int)=x%2^k:=by
 have h2:(2:Int)^k≤2^62:=by
  have:(2:Nat)^k≤2^62:=Nat.pow_le_pow_right (by omega) (by omega)
  exact_mod_cast this
 have h0:(1:Int)≤2^k:=by
  have:1≤(2:Nat)^k:=Nat.one_le_two_pow
  exact_mod_cast this
 have hm:(BitVec.ofInt (IntKind.bits .i64) (2^k-1)).toNat=2^k-1:=by
  show (BitVec.ofInt 64 (2^k-1)).toNat=2^k-1
  rw [BitVec.toNat_ofInt,Int.emod_eq_of_lt (by omega) (by omega)]
  have:((2:Int)^k-1)=((2^k-1:Nat):Int):=by
   have:1≤(2:Nat)^k:=Nat.one_le_two_pow
   push_cast [this];rfl
  rw [this];rfl
 rw [BitVec.toNat_and,hm,Nat.and_two_pow_sub_one_eq_mod]
 show (((BitVec.ofInt 64 x).toNat%2^k:Nat):Int)=x%2^k
 rw [BitVec.toNat_ofInt]
 have hx:0≤x%18446744073709551616:=by omega
 have e:(((x%18446744073709551616).toNat%2^k:Nat):Int)=(x%18446744073709551616)%2^k:=by
  push_cast
  rw [Int.toNat_of_nonneg hx]
 refine e.trans ?_
 exact Int.emod_emod_of_dvd x ⟨2^(64-k),by rw [←Int.pow_add,show k+(64-k)=64 by omega];rfl⟩
theorem B5 (x n:Int)(h0:0<n)(h1:n≤4611686018427387904):cZ x n=some (x%n):=by
 unfold cZ
 have:=Int.emod_nonneg x (show n≠0 by omega)
 have:=Int.emod_lt_of_pos x h0
 have hn:(n.natAbs:Int)=n:=by omega
 rw [if_neg (by omega),Int.tmod_eq_emod]
 split
 ·rw [decide_eq_false (by omega)];simp
 ·rw [decide_eq_true (by omega),wrap64 (by omega) (by omega)];simp only [cond_true,hn];congr 1;omega
def nQ (r:(Int×Int×Int×Int)):Int:=if dK r.2.1 then (r.2.2.2-r.2.2.1)%(2*r.2.1) else 0
theorem Gq (r:(Int×Int×Int×Int)):ka r=some (nQ r):=by
 unfold ka nQ
 rw [rz,ab]
 cases hs:dK r.2.1 with
 |false=>rfl
 |true=>
  simp only [Bool.not_true,cond_false,if_true]
  congr 1
  rcases eR.1 hs with h|h|h|h<;>rw [h]
  ·have e:IntKind.wrap .i64 (IntKind.wrap .i64 (2*2)-1)=2^2-1:=by decide
   rw [e,sT _ 2 (by omega),re _ 2 (by omega),wrap64 (by omega) (by omega)];rfl
  ·have e:IntKind.wrap .i64 (IntKind.wrap .i64 (2*4)-1)=2^3-1:=by decide
   rw [e,sT _ 3 (by omega),re _ 3 (by omega),wrap64 (by omega) (by omega)];rfl
  ·have e:IntKind.wrap .i64 (IntKind.wrap .i64 (2*8)-1)=2^4-1:=by decide
   rw [e,sT _ 4 (by omega),re _ 4 (by omega),wrap64 (by omega) (by omega)];rfl
  ·have e:IntKind.wrap .i64 (IntKind.wrap .i64 (2*16)-1)=2^5-1:=by decide
   rw [e,sT _ 5 (by omega),re _ 5 (by omega),wrap64 (by omega) (by omega)];rfl
theorem Fx (r:(Int×Int×Int×Int)):jK r=some (nQ r):=by
 unfold jK nQ
 rw [tr,ab]
 cases hs:dK r.2.1 with
 |false=>rfl
 |true=>
  simp only [Bool.not_true,cond_false,if_true]
  have hb:=eR.1 hs
  rw [wrap64 (n:=2*r.2.1) (by omega) (by omega)]
  have a1:=Int.emod_nonneg r.2.2.2 (show 2*r.2.1≠0 by omega)
  have a2:=Int.emod_lt_of_pos r.2.2.2 (show 0<2*r.2.1 by omega)
  have a3:=Int.emod_nonneg r.2.2.1 (show 2*r.2.1≠0 by omega)
  have a4:=Int.emod_lt_of_pos r.2.2.1 (show 0<2*r.2.1 by omega)
  simp only [B5 _ (2*r.2.1) (show 0<2*r.2.1 by omega) (by omega),ab]
  rw [wrap64 (by omega) (by omega),←Int.sub_emod]
def dV (r:(Int×Int×Int×Int)):Bool:=bn r.1 0 130944&&(dK r.2.1&&(bn r.2.2.1 0 (2*r.2.1-1)&&(bn r.2.2.2 0 (2*r.2.1-1)&&decide (nQ r≤r.2.1))))
theorem w6 {n:Int}(h:dK n=true):IntKind.wrap .i64 (IntKind.wrap .i64 (2*n)-1)=2*n-1:=by
 have:=eR.1 h
 rw [wrap64 (n:=2*n) (by omega) (by omega),wrap64 (by omega) (by omega)]
theorem tA (r:(Int×Int×Int×Int)):fX r=some (dV r):=by
 unfold fX dV
 simp only [bc,rz,Gq,ab,aB,cF]
 cases hs:dK r.2.1 with
 |false=>rfl
 |true=>rw [w6 hs]
theorem s7 (r:(Int×Int×Int×Int)):fR r=some (dV r):=by
 unfold fR dV
 simp only [bO,tr,Fx,ab,aB,cF]
 cases hs:dK r.2.1 with
 |false=>rfl
 |true=>rw [w6 hs]
theorem pc (p:aD)(h:p.2.2.2.length≤1000000000):dC p=some p:=by
 unfold dC
 rw [au (by simp;omega)];rfl
theorem ik (l:List Int)(h:l.length≤1000000000):cu l=some l:=by
 unfold cu
 rw [au (by simp;omega)];rfl
theorem nB (p:aD)(h:p.2.2.2.length≤1000000000):cQ p=some p:=by
 unfold cQ
 rw [ik _ h];rfl
def DQ (p:aD)(l:List Int):aD:=(p.1,p.2.1,p.2.2.1,p.2.2.2++l)
def sZ (p:aD)(l:List Int):Bool:=cd p&&cd (DQ p l)
def AY (p:aD)(l:List Int):aD×Bool:=bif sZ p l then (DQ p l,true) else (p,false)
theorem Gj (p:aD)(l:List Int)(h:p.2.2.2.length+l.length≤1000000000):cB p l=some (AY p l):=by
 unfold cB
 rw [pc p (by omega),ab,au (by omega),md p (by omega)]
 rw [md (p.1,p.2.1,p.2.2.1,p.2.2.2++l) (by simp;omega)]
 simp only [ab,aB,AY,sZ]
 show _=some (bif cd p&&cd (p.1,p.2.1,p.2.2.1,p.2.2.2++l) then _ else _)
 cases cd p<;>cases cd (p.1,p.2.1,p.2.2.1,p.2.2.2++l)<;>rfl
theorem Fq (p:aD)(l:List Int)(h:p.2.2.2.length+l.length≤1000000000):ch p l=some (AY p l):=by
 unfold ch
 rw [nB p (by omega),ab,au (by omega),nC p (by omega)]
 rw [nC (p.1,p.2.1,p.2.2.1,p.2.2.2++l) (by simp;omega)]
 simp only [ab,aB,AY,sZ]
 show _=some (bif cd p&&cd (p.1,p.2.1,p.2.2.1,p.2.2.2++l) then _ else _)
 cases cd p<;>cases cd (p.1,p.2.1,p.2.2.1,p.2.2.2++l)<;>rfl
theorem Mo (p:aD)(l:List Int):(AY p l).2=sZ p l:=by unfold AY;cases sZ p l<;>rfl
def gr (n:Int)(s:cq):Bool:=bn s.2.1 1 n&&bn s.1 0 65535
def bT (l:List cq):List Int:=l.flatMap (·.2.2)
def eD (l:List cq):Int:=(l.map (·.2.1)).sum
def Ur (t:bu):Bool:=dV t.1&&(cd t.2.1&&(bn t.2.2.2 0 65535&&(t.2.2.1.all (gr t.1.2.1)&&(sZ t.2.1 (bT t.2.2.1)&&decide (eD t.2.2.1≤t.1.2.1)))))
theorem vh (n:Int):∀l:List cq,l.all (gr n)=true→0≤eD l
 |[],_=>by simp [eD]
 |x::l,h=>by
  simp only [List.all_cons,Bool.and_eq_true] at h
  have:=vh n l h.2
  have hx:=h.1
  unfold gr at hx
  simp only [Bool.and_eq_true,bL] at hx
  simp only [eD,List.map_cons,List.sum_cons] at this⊢
  omega
theorem Cp (p:aD)(n:Int)(hn:0≤n∧n≤16)(fin:Int×List Int→Option Bool)(hfin:∀s:Int×List Int,p.2.2.2.length+s.2.length≤1000000000→fin s=some (sZ p s.2&&decide (s.1≤n))):
 ∀(l:List cq)(sum:Int)(acc:List Int),0≤sum→sum+16*l.length≤100000000000→p.2.2.2.length+(acc.length+(bT l).length)≤1000000000→
 kW (fun x (s:Int×List Int) k=>cond (!(gr n x)) (some false) (room (s.2.length+x.2.2.length) (k (IntKind.wrap .i64 (s.1+x.2.1),s.2++x.2.2)))) fin l (sum,acc)
  =some (l.all (gr n)&&(sZ p (acc++bT l)&&decide (sum+eD l≤n)))
 |[],sum,acc,h0,h1,h2=>by
  rw [kW,hfin _ (by simp [bT] at h2;exact h2)]
  simp [bT,eD]
 |x::l,sum,acc,h0,h1,h2=>by
  have hb:bT (x::l)=x.2.2++bT l:=by simp [bT]
  rw [hb,List.length_append] at h2
  rw [kW,List.all_cons]
  cases hx:gr n x with
  |false=>rfl
  |true=>
   have hx':=hx
   unfold gr at hx'
   simp only [Bool.and_eq_true,bL] at hx'
   simp only [List.length_cons,Int.natCast_add,Int.natCast_one] at h1
   simp only [Bool.not_true,cond_false,Bool.true_and]
   rw [au (by omega),wrap64 (by omega) (by omega),Cp p n hn fin hfin l _ _ (by omega) (by omega) (by rw [List.length_append];omega)]
   rw [hb,List.append_assoc]
   have e:sum+x.2.1+eD l=sum+eD (x::l):=by simp only [eD,List.map_cons,List.sum_cons];omega
   rw [e]
theorem BR (p:aD)(n:Int)(hn:n≤16)(fin:Int×List Int→Option Bool)(hfin:∀s:Int×List Int,p.2.2.2.length+s.2.length≤1000000000→fin s=some (sZ p s.2)):
 ∀(l:List cq)(left:Int)(acc:List Int),0≤left→left≤n→p.2.2.2.length+(acc.length+(bT l).length)≤1000000000→
 kW (fun x (s:Int×List Int) k=>cond (decide (x.2.1<1)||(decide (x.2.1>s.1)|| !(bn x.1 0 65535))) (some false) (room (s.2.length+x.2.2.length) (k (IntKind.wrap .i64 (s.1-x.2.1),s.2++x.2.2)))) fin l (left,acc)
  =some (l.all (gr n)&&(sZ p (acc++bT l)&&decide (eD l≤left)))
 |[],left,acc,h0,h1,h2=>by
  rw [kW,hfin _ (by simp [bT] at h2;exact h2)]
  simp [bT,eD,h0]
 |x::l,left,acc,h0,h1,h2=>by
  have hb:bT (x::l)=x.2.2++bT l:=by simp [bT]
  have hc:eD (x::l)=x.2.1+eD l:=by simp only [eD,List.map_cons,List.sum_cons]
  rw [hb,List.length_append] at h2
  rw [kW,List.all_cons,hb,hc]
  by_cases c1:x.2.1<1
  ·have e:gr n x=false:=by unfold gr bn;rw [decide_eq_false (show¬1≤x.2.1 by omega)];rfl
   rw [e,decide_eq_true c1];rfl
  ·rw [decide_eq_false c1]
   by_cases c2:x.2.1>left
   ·rw [decide_eq_true c2]
    simp only [Bool.or_true,Bool.false_or,Bool.true_or,cond_true]
    cases ha:l.all (gr n) with
    |false=>simp
    |true=>
     have:=vh n l ha
     rw [decide_eq_false (show¬x.2.1+eD l≤left by omega)];simp
   ·rw [decide_eq_false c2]
    have e:gr n x=bn x.1 0 65535:=by
     have:bn x.2.1 1 n=true:=bL.2 ⟨by omega,by omega⟩
     unfold gr;rw [this];rfl
    rw [e]
    cases bn x.1 0 65535 with
    |false=>rfl
    |true=>
     simp only [Bool.false_or,Bool.not_true,cond_false,Bool.true_and]
     rw [au (by omega),wrap64 (by omega) (by omega),BR p n hn fin hfin l _ _ (by omega) (by omega) (by rw [List.length_append];omega),List.append_assoc]
     have e:decide (eD l≤left-x.2.1)=decide (x.2.1+eD l≤left):=by rw [Bool.eq_iff_iff];simp;omega
     rw [e]
theorem Uo (t:bu)(h1:t.2.2.1.length≤1000000000)(h2:t.2.1.2.2.2.length+(bT t.2.2.1).length≤1000000000):uh t=some (Ur t):=by
 unfold uh Ur
 simp only [tA,md _ (show t.2.1.2.2.2.length≤1000000000 by omega),bc,ab,aB]
 cases hr:dV t.1 with
 |false=>rfl
 |true=>
  have hn:0≤t.1.2.1∧t.1.2.1≤16:=by
   unfold dV at hr
   simp only [Bool.and_eq_true] at hr
   have:=eR.1 hr.2.1
   omega
  have hfu:=bz
  have key:=mE (R:=Bool) (T:=mr (fun (y9:Int) (y10:List Int) (_:Int)=>aa (cB t.2.1 y10) fun r12=>some (bif r12.2 then decide (y9≤t.1.2.1) else false))
   (fun (y14:Bool) (_:Int) (_:List Int) (_:Int)=>some y14) false t) t.2.2.1 (fun (s:Int×List Int) i=>(s.1,s.2,(i:Int)))
   (fun x (s:Int×List Int) k=>cond (!(gr t.1.2.1 x)) (some false) (room (s.2.length+x.2.2.length) (k (IntKind.wrap .i64 (s.1+x.2.1),s.2++x.2.2))))
   (fun s=>aa (cB t.2.1 s.2) fun r12=>some (r12.2&&decide (s.1≤t.1.2.1)))
   (fun i hi s nx=>by
    simp only [mr]
    rw [decide_eq_true (by omega),ay hi,wrap64 (n:=(i:Int)+1) (by omega) (by omega)]
    simp only [cond_true,ab,bc,aB,gr]
    cases bn t.2.2.1[i].2.1 1 t.1.2.1<;>cases bn t.2.2.1[i].1 0 65535<;>rfl)
   (fun s nx=>by
    simp only [mr]
    rw [decide_eq_false (by omega)]
    simp only [cond_false,aB,ab,cF])
   fuel 0 (0,([]:List Int)) (by omega) (by omega)
  rw [List.drop_zero,Cp t.2.1 t.1.2.1 hn _ (fun s hs=>by rw [Gj _ _ hs,ab,Mo]) _ _ _ (by omega) (by omega) (by simpa using h2)] at key
  cases cd t.2.1 with
  |false=>rfl
  |true=>
   cases bn t.2.2.2 0 65535 with
   |false=>rfl
   |true=>
    refine key.trans ?_
    simp
theorem RU (t:bu)(h1:t.2.2.1.length≤1000000000)(h2:t.2.1.2.2.2.length+(bT t.2.2.1).length≤1000000000):tX t=some (Ur t):=by
 unfold tX Ur
 simp only [s7,nC _ (show t.2.1.2.2.2.length≤1000000000 by omega),bO,ab,aB]
 cases hr:dV t.1 with
 |false=>rfl
 |true=>
  have hn:0≤t.1.2.1∧t.1.2.1≤16:=by
   unfold dV at hr
   simp only [Bool.and_eq_true] at hr
   have:=eR.1 hr.2.1
   omega
  have hfu:=bz
  have key:=mE (R:=Bool) (T:=lC (fun (_:Int) (y9:List Int) (_:Int)=>aa (ch t.2.1 y9) fun r11=>some r11.2)
   (fun (y12:Bool) (_:Int) (_:List Int) (_:Int)=>some y12) false t.2.2.1 ((List.length t.2.2.1:Int)) t) t.2.2.1 (fun (s:Int×List Int) i=>(s.1,s.2,(i:Int)))
   (fun x (s:Int×List Int) k=>cond (decide (x.2.1<1)||(decide (x.2.1>s.1)|| !(bn x.1 0 65535))) (some false) (room (s.2.length+x.2.2.length) (k (IntKind.wrap .i64 (s.1-x.2.1),s.2++x.2.2))))
   (fun s=>aa (ch t.2.1 s.2) fun r12=>some r12.2)
   (fun i hi s nx=>by
    simp only [lC]
    rw [decide_eq_true (by omega),ay hi,wrap64 (n:=(i:Int)+1) (by omega) (by omega)]
    simp only [cond_true,ab,bO,aB,cT]
    rfl)
   (fun s nx=>by
    simp only [lC]
    rw [decide_eq_false (by omega)];rfl)
   fuel 0 (t.1.2.1,([]:List Int)) (by omega) (by omega)
  rw [List.drop_zero,BR t.2.1 t.1.2.1 (by omega) _ (fun s hs=>by rw [Fq _ _ hs,ab,Mo]) _ _ _ (by omega) (by omega) (by simpa using h2)] at key
  cases cd t.2.1 with
  |false=>rfl
  |true=>
   cases bn t.2.2.2 0 65535 with
   |false=>rfl
   |true=>
    refine key.trans ?_
    simp
end
end Go.Pu
end
section
namespace Go.Pu
open Go.Dn
noncomputable section
def u4 (s:a7):Bool:=bn s.2.1 0 65535&&(bn s.2.2.1 0 65535&&(!decide ((List.length s.2.2.2.2.2.2.2:Int)>320)&&
 (bif s.1==17 then (s.2.2.2.1==0)&&((s.2.2.2.2.1==0)&&((s.2.2.2.2.2.1==0)&&(s.2.2.2.2.2.2.1==0)))
  else (s.1==6)&&(bn s.2.2.2.1 0 4294967295&&(bn s.2.2.2.2.1 0 4294967295&&(bn s.2.2.2.2.2.1 0 31&&bn s.2.2.2.2.2.2.1 0 65535))))))
theorem JS (s:a7):iO s=some (u4 s):=by
 simp only [iO,bc,ab,aB,cF,cT,cN,Bool.not_or,Bool.not_not,Bool.and_assoc,u4]
theorem Jz (s:a7):ir s=some (u4 s):=by
 simp only [ir,bO,ab,aB,cF,cT,cN,Bool.not_or,Bool.not_not,Bool.and_assoc,u4]
 by_cases h:s.1=17
 ·rw [h];rfl
 ·rw [show (s.1==17)=false from by simpa using h]
  cases s.1==6<;>rfl
def zy (f:Int):Bool:=(f==16)||(f==17)||(f==24)||(f==25)
theorem Hn (f:Int)(h:bn f 0 31=true):(IntKind.wrap .i64 (BitVec.toNat (BitVec.ofInt (IntKind.bits .i64) f&&&~~~ BitVec.ofInt (IntKind.bits .i64) 9))==16)=zy f:=by
 have key:∀k:Fin 32,(IntKind.wrap .i64 (BitVec.toNat (BitVec.ofInt (IntKind.bits .i64) (k.val:Int)&&&~~~ BitVec.ofInt (IntKind.bits .i64) 9))==16)=zy (k.val:Int):=by decide
 rw [bL] at h
 have:=key ⟨f.toNat,by omega⟩
 rwa [show ((f.toNat:Nat):Int)=f by omega] at this
theorem Hm (f:Int)(h:bn f 0 31=true):lH f=some (zy f):=by
 have key:∀k:Fin 32,((IntKind.wrap .i64 (BitVec.toNat (BitVec.ofInt (IntKind.bits .i64) (k.val:Int)&&&BitVec.ofInt (IntKind.bits .i64) 16)) !=0)&&(IntKind.wrap .i64 (BitVec.toNat (BitVec.ofInt (IntKind.bits .i64) (k.val:Int)&&&~~~ BitVec.ofInt (IntKind.bits .i64) 25))==0))=zy (k.val:Int):=by decide
 rw [bL] at h
 have:=key ⟨f.toNat,by omega⟩
 rw [show ((f.toNat:Nat):Int)=f by omega] at this
 simp only [lH,aB,ab,cF]
 rw [this]
theorem Cj {s:a7}(h:u4 s=true)(h6:(s.1==6)=true):bn s.2.2.2.2.2.1 0 31=true:=by
 have:s.1=6:=by simpa using h6
 unfold u4 at h
 rw [this] at h
 simp only [Bool.and_eq_true] at h
 have h:=h.2.2.2
 simp at h
 exact h.2.2.1
def vA (p:aQ):Bool:=bn p.1 0 281474976710655&&(bn p.2.1 0 281474976710655&&(bn p.2.2.1 (-1) 4095&&(bn p.2.2.2.1 0 255&&(bn p.2.2.2.2.2.1 0 255&&(bn p.2.2.2.2.1 0 65535&&(bn p.2.2.2.2.2.2.1 0 4294967295&&(bn p.2.2.2.2.2.2.2.1 0 4294967295&&u4 p.2.2.2.2.2.2.2.2)))))))
def fP (p:aQ):Bool:=vA p&&(decide ((List.length p.2.2.2.2.2.2.2.2.2.2.2.2.2.2.2:Int)≤128)||(p.2.2.2.2.2.2.2.2.1==6)&&zy p.2.2.2.2.2.2.2.2.2.2.2.2.2.1)
theorem zE {p:aQ}(h:vA p=true):u4 p.2.2.2.2.2.2.2.2=true:=by
 unfold vA at h
 simp only [Bool.and_eq_true] at h
 exact h.2.2.2.2.2.2.2.2
theorem w9 (p:aQ):jt p=some (fP p):=by
 unfold jt fP
 simp only [bc,JS,ab,aB,cF,cT,cN,Bool.not_or,Bool.not_not]
 rw [show (bn p.1 0 281474976710655&&(bn p.2.1 0 281474976710655&&(bn p.2.2.1 (-1) 4095&&(bn p.2.2.2.1 0 255&&(bn p.2.2.2.2.2.1 0 255&&(bn p.2.2.2.2.1 0 65535&&(bn p.2.2.2.2.2.2.1 0 4294967295&&(bn p.2.2.2.2.2.2.2.1 0 4294967295&&u4 p.2.2.2.2.2.2.2.2))))))))=vA p from rfl]
 cases hh:vA p with
 |false=>rfl
 |true=>
  cases h6:p.2.2.2.2.2.2.2.2.1==6 with
  |false=>simp
  |true=>
   rw [Hn _ (Cj (zE hh) h6)]
   simp [Bool.or_comm]
theorem wJ (p:aQ):iY p=some (fP p):=by
 unfold iY fP
 simp only [bO,Jz,ab]
 have e:∀X:Option Bool,(cond (bn p.1 0 281474976710655) (cond (bn p.2.1 0 281474976710655) (cond (bn p.2.2.1 (-1) 4095) (cond (bn p.2.2.2.1 0 255) (cond (bn p.2.2.2.2.2.1 0 255) (cond (bn p.2.2.2.2.1 0 65535) (cond (bn p.2.2.2.2.2.2.1 0 4294967295) (cond (bn p.2.2.2.2.2.2.2.1 0 4294967295) (cond (u4 p.2.2.2.2.2.2.2.2) X (some false)) (some false)) (some false)) (some false)) (some false)) (some false)) (some false)) (some false)) (some false))=cond (vA p) X (some false):=by
  intro X
  unfold vA
  cases bn p.1 0 281474976710655 with|false=>rfl|true=> ?_
  cases bn p.2.1 0 281474976710655 with|false=>rfl|true=> ?_
  cases bn p.2.2.1 (-1) 4095 with|false=>rfl|true=> ?_
  cases bn p.2.2.2.1 0 255 with|false=>rfl|true=> ?_
  cases bn p.2.2.2.2.2.1 0 255 with|false=>rfl|true=> ?_
  cases bn p.2.2.2.2.1 0 65535 with|false=>rfl|true=> ?_
  cases bn p.2.2.2.2.2.2.1 0 4294967295 with|false=>rfl|true=> ?_
  cases bn p.2.2.2.2.2.2.2.1 0 4294967295<;>rfl
 rw [e]
 cases hh:vA p with
 |false=>rfl
 |true=>
  cases h6:p.2.2.2.2.2.2.2.2.1==6 with
  |false=>simp [aB]
  |true=>
   rw [Hm _ (Cj (zE hh) h6)]
   simp only [cond_true,ab,aB,cT,Bool.true_and]
def ma (q:(Int×Int×Int)):Bool:=bn q.1 0 130944&&(dK q.2.1&&bn q.2.2 0 (IntKind.wrap .i64 ((IntKind.wrap .i64 (2*q.2.1))-1)))
theorem Cn (q:(Int×Int×Int)):jn q=some (ma q):=by
 simp only [jn,bc,rz,ab,aB,cF,ma]
theorem BQ (q:(Int×Int×Int)):iU q=some (ma q):=by
 simp only [iU,bO,tr,ab,aB,cF,ma]
def aaK:sA:=((0,0,0,0,0,0,0,0,0,0,0,0,0,0,0,([]:Bytes)),0,0)
def Gv (p:sA):Bool:=(p.1.1==0)&&((p.1.2.1==0)&&((p.1.2.2.1==0)&&((p.1.2.2.2.1==0)&&((p.1.2.2.2.2.1==0)&&((p.1.2.2.2.2.2.1==0)&&((p.1.2.2.2.2.2.2.1==0)&&((p.1.2.2.2.2.2.2.2.1==0)&&((p.1.2.2.2.2.2.2.2.2.1==0)&&((p.1.2.2.2.2.2.2.2.2.2.1==0)&&((p.1.2.2.2.2.2.2.2.2.2.2.1==0)&&((p.1.2.2.2.2.2.2.2.2.2.2.2.1==0)&&((p.1.2.2.2.2.2.2.2.2.2.2.2.2.1==0)&&((p.1.2.2.2.2.2.2.2.2.2.2.2.2.2.1==0)&&((p.1.2.2.2.2.2.2.2.2.2.2.2.2.2.2.1==0)&&((p.1.2.2.2.2.2.2.2.2.2.2.2.2.2.2.2==([]:Bytes))&&((p.2.1==0)&&((p.2.2==0)&&true)))))))))))))))))
def LO (r:ax):Bool:=(dV r.1&&(ma r.2.1&&(ma r.2.2.1&&((r.2.1.1==r.2.2.1.1)&&((r.2.1.2.1==r.2.2.1.2.1)&&bn r.2.2.2.2.2 0 1000000000000)))))&&
 (bif r.2.2.2.2.1 then fP r.2.2.2.1.1&&(bn r.2.2.2.1.2.1 0 320&&bn r.2.2.2.1.2.2 1 320) else Gv r.2.2.2.1)
theorem af3 (p:sA):Gv p=true↔p=aaK:=by
 obtain ⟨⟨a,b,c,d,e,f,g,h,i,j,k,l,m,n,o,q⟩,r,s⟩:=p
 simp only [Gv,aaK,Bool.and_true,Bool.and_eq_true,beq_iff_eq,Prod.mk.injEq,and_assoc]
theorem NF (r:ax):qZ r=some (LO r):=by
 unfold qZ LO Gv
 simp only [tA,Cn,bc,w9,ab,aB,cF,cT,cN,Bool.not_or,Bool.not_not,bne]
 cases r.2.2.2.2.1<;>rfl
theorem MI (r:ax):qO r=some (LO r):=by
 unfold qO LO Gv
 simp only [s7,BQ,bO,wJ,ab,aB,cF,cT,cN,Bool.not_or,Bool.not_not,bne]
 cases r.2.2.2.2.1<;>rfl
def sv (v:Vector):Bool:=(gY v).getD false
theorem Ar (v:Vector):gY v=some (sv v):=by
 have:∃b,gY v=some b:=by
  simp only [gY,qw,bc,ab,aB]
  exact ⟨_,rfl⟩
 obtain ⟨b,hb⟩:=this
 rw [sv,hb];rfl
theorem HB (v:Vector):qC v=some (sv v):=Ar v
theorem wZ {α:Type}(l:List α)(p:α→Bool):(List.range l.length).all (fun i=>l[i]?.all p)=l.all p:=by
 rw [Bool.eq_iff_iff,List.all_eq_true,List.all_eq_true]
 constructor
 ·intro h x hx
  obtain ⟨i,hi,rfl⟩:=List.getElem_of_mem hx
  have:=h i (List.mem_range.2 hi)
  rwa [List.getElem?_eq_getElem hi] at this
 ·intro h i hi
  rw [List.getElem?_eq_getElem (List.mem_range.1 hi)]
  exact h _ (List.getElem_mem _)
theorem IL {α:Type}(l:List α)(p q:α→Bool):l.all (fun x=>p x&&q x)=(l.all p&&l.all q):=by
 induction l with
 |nil=>rfl
 |cons x l ih=>simp only [List.all_cons,ih];cases p x<;>cases q x<;>cases l.all p<;>rfl
def dp (h:Host):List Int:=[h.2.2.2.2.2.2.2.2.2.2.2.2.2.2.1,h.2.2.2.2.2.2.2.2.2.2.2.2.2.2.2.1,h.2.2.2.2.2.2.2.2.2.2.2.2.2.2.2.2.1,h.2.2.2.2.2.2.2.2.2.2.2.2.2.2.2.2.2.1,h.2.2.2.2.2.2.2.2.2.2.2.2.2.2.2.2.2.2]
def th (h:Host):Bool:=bn (h.2.2.2.1.length:Int) 1 2&&(((h.2.2.2.2.1.length:Int)==(h.2.2.2.1.length:Int))&&(((h.2.2.2.2.2.1.length:Int)==(h.2.2.2.1.length:Int))&&((h.2.2.2.2.2.2.1.length:Int)==(h.2.2.2.1.length:Int))))
def JP (h:Host):Bool:=h.2.2.2.1.all LO&&(h.2.2.2.2.1.all cd&&h.2.2.2.2.2.1.all sv)
def s6 (h:Host):Bool:=cn h.1&&(bC h.2.1&&(Ur h.2.2.1&&(p6 h.2.2.2.2.2.2.2.1&&(th h&&(ew h.2.2.2.2.2.2.2.2.1 (h.2.2.2.1.length:Int)&&(JP h&&(dp h).all (fun x=>bn x 0 1000000000000)))))))
structure uI (h:Host):Prop where
 a1:h.1.length≤1000000000
 a2:h.2.1.length≤1000000000
 t1:h.2.2.1.2.2.1.length≤1000000000
 t2:h.2.2.1.2.1.2.2.2.length+(bT h.2.2.1.2.2.1).length≤1000000000
 f1:h.2.2.2.2.2.2.2.1.2.2.length≤1000000000
 s1:h.2.2.2.2.2.2.2.2.1.1.length≤1000000000
 s2:h.2.2.2.2.2.2.2.2.1.2.1.length≤1000000000
 s3:h.2.2.2.2.2.2.2.2.1.2.2.2.length≤1000000000
 p1:∀p∈h.2.2.2.2.1,p.2.2.2.length≤1000000000
theorem qo {h:Host}(l:th h=true):h.2.2.2.1.length≤2∧h.2.2.2.2.1.length=h.2.2.2.1.length∧h.2.2.2.2.2.1.length=h.2.2.2.1.length∧h.2.2.2.2.2.2.1.length=h.2.2.2.1.length:=by
 unfold th at l
 simp only [Bool.and_eq_true,bL,beq_iff_eq] at l
 omega
theorem Cg {R:Type}{T:(Int→Option R)→Int→Option R}{fin hit:Option R}{h:Host}(l:th h=true)
 (hs:∀i (hi:i<h.2.2.2.1.length) nx,T nx (i:Int)=cond (!(LO h.2.2.2.1[i]&&(cd (h.2.2.2.2.1[i]'((qo l).2.1▸hi))&&sv (h.2.2.2.2.2.1[i]'((qo l).2.2.1▸hi))))) hit (nx ((i+1:Nat):Int)))
 (hf:∀nx,T nx (h.2.2.2.1.length:Int)=fin):aq T fuel 0=cond (JP h) fin hit:=by
 have hl:=qo l
 rw [iQ (fin:=fin) (hit:=hit) (fun i=>h.2.2.2.1[i]?.all LO&&(h.2.2.2.2.1[i]?.all cd&&h.2.2.2.2.2.1[i]?.all sv)) h.2.2.2.1.length (by omega) ?hs hf]
 case hs=>
  intro i nx hi
  rw [hs i hi,List.getElem?_eq_getElem hi,List.getElem?_eq_getElem (hl.2.1▸hi),List.getElem?_eq_getElem (hl.2.2.1▸hi)]
  rfl
 rw [IL,IL,wZ]
 have e1:=wZ h.2.2.2.2.1 cd
 have e2:=wZ h.2.2.2.2.2.1 sv
 rw [hl.2.1] at e1
 rw [hl.2.2.1] at e2
 rw [e1,e2];rfl
theorem xe {R:Type}{T:(Int→Option R)→Int→Option R}{fin hit:Option R}(h:Host)
 (hs:∀i (hi:i<(dp h).length) nx,T nx (i:Int)=cond (!(bn (dp h)[i] 0 1000000000000)) hit (nx ((i+1:Nat):Int)))
 (hf:∀nx,T nx ((dp h).length:Int)=fin):aq T fuel 0=cond ((dp h).all (fun x=>bn x 0 1000000000000)) fin hit:=
 kT (fun x=>bn x 0 1000000000000) (dp h) (by simp [dp]) hs hf
theorem Ny (h:Host)(z:uI h):qv h=some (s6 h):=by
 unfold qv s6
 simp only [sk _ z.a1,we _ z.a2,Uo _ z.t1 z.t2,Iq _ z.f1,D9 _ _ z.s1 z.s2 z.s3,bc,ab,aB]
 cases cn h.1 with|false=>rfl|true=> ?_
 cases bC h.2.1 with|false=>rfl|true=> ?_
 cases Ur h.2.2.1 with|false=>rfl|true=> ?_
 cases p6 h.2.2.2.2.2.2.2.1 with|false=>rfl|true=> ?_
 simp only [Bool.not_true,cond_false,cT,bne]
 rw [show (!bn (h.2.2.2.1.length:Int) 1 2||(!((h.2.2.2.2.1.length:Int)==(h.2.2.2.1.length:Int))||(!((h.2.2.2.2.2.1.length:Int)==(h.2.2.2.1.length:Int))||(!((h.2.2.2.2.2.2.1.length:Int)==(h.2.2.2.1.length:Int))|| !ew h.2.2.2.2.2.2.2.2.1 (h.2.2.2.1.length:Int)))))= !(th h&&ew h.2.2.2.2.2.2.2.2.1 (h.2.2.2.1.length:Int)) by unfold th;simp only [Bool.not_and,Bool.or_assoc]]
 cases hl:th h with|false=>rfl|true=> ?_
 cases ew h.2.2.2.2.2.2.2.2.1 (h.2.2.2.1.length:Int) with|false=>rfl|true=> ?_
 have hL:=qo hl
 simp only [Bool.and_true,Bool.not_true,cond_false,Bool.true_and]
 rw [Cg (h:=h) (hit:=some false) (fin:=some ((dp h).all (fun x=>bn x 0 1000000000000))) hl ?hs ?hf]
 case hs=>
  intro i hi nx
  simp only [mh]
  rw [decide_eq_true (by omega),ay hi,ay (hL.2.1▸hi),ay (hL.2.2.1▸hi),wrap64 (n:=(i:Int)+1) (by omega) (by omega)]
  simp only [cond_true,ab,NF,Ar,md _ (z.p1 _ (List.getElem_mem _)),aB,cT,Bool.not_and]
  rfl
 case hf=>
  intro nx
  simp only [mh]
  rw [decide_eq_false (by omega)]
  simp only [cond_false]
  refine (xe (fin:=some true) (hit:=some false) h ?_ ?_).trans ?_
  ·intro i hi nx
   simp only [kC]
   have hi':i<5:=hi
   change (bif decide ((i:Int)<5) then aa (idx (dp h) (i:Int)) _ else _)=_
   rw [decide_eq_true (by omega),ay hi,wrap64 (n:=(i:Int)+1) (by omega) (by omega),ab,bc]
   rfl
  ·intro nx
   simp only [kC]
   rw [decide_eq_false (by simp [dp])];rfl
  ·cases (dp h).all (fun x=>bn x 0 1000000000000)<;>rfl
 cases JP h<;>rfl
theorem MD (h:Host)(z:uI h):p9 h=some (s6 h):=by
 unfold p9 s6
 simp only [uU _ z.a1,vD _ z.a2,RU _ z.t1 z.t2,Hw _ z.f1,Dx _ _ z.s1 z.s2 z.s3,bO,ab,aB]
 cases cn h.1 with|false=>rfl|true=> ?_
 cases bC h.2.1 with|false=>rfl|true=> ?_
 cases Ur h.2.2.1 with|false=>rfl|true=> ?_
 cases p6 h.2.2.2.2.2.2.2.1 with|false=>rfl|true=> ?_
 simp only [Bool.not_true,cond_false,cT,bne]
 rw [show (!bn (h.2.2.2.1.length:Int) 1 2||(!((h.2.2.2.2.1.length:Int)==(h.2.2.2.1.length:Int))||(!((h.2.2.2.2.2.1.length:Int)==(h.2.2.2.1.length:Int))|| !((h.2.2.2.2.2.2.1.length:Int)==(h.2.2.2.1.length:Int)))))= !(th h) by unfold th;simp only [Bool.not_and]]
 cases hl:th h with|false=>rfl|true=> ?_
 have hL:=qo hl
 simp only [Bool.not_true,cond_false,Bool.true_and]
 rw [Cg (h:=h) (hit:=some false) (fin:=some ((dp h).all (fun x=>bn x 0 1000000000000)&&ew h.2.2.2.2.2.2.2.2.1 (h.2.2.2.1.length:Int))) hl ?hs ?hf]
 case hs=>
  intro i hi nx
  simp only [lu]
  rw [decide_eq_true (by omega),ay hi,ay (hL.2.1▸hi),ay (hL.2.2.1▸hi),wrap64 (n:=(i:Int)+1) (by omega) (by omega)]
  simp only [cond_true,ab,MI,HB,nC _ (z.p1 _ (List.getElem_mem _)),aB,cT,Bool.not_and]
  rfl
 case hf=>
  intro nx
  simp only [lu]
  rw [decide_eq_false (by omega)]
  simp only [cond_false]
  refine (xe (fin:=some (ew h.2.2.2.2.2.2.2.2.1 (h.2.2.2.1.length:Int))) (hit:=some false) h ?_ ?_).trans ?_
  ·intro i hi nx
   simp only [kg]
   have hi':i<5:=hi
   change (bif decide ((i:Int)<5) then aa (idx (dp h) (i:Int)) _ else _)=_
   rw [decide_eq_true (by omega),ay hi,wrap64 (n:=(i:Int)+1) (by omega) (by omega),ab,bO]
   rfl
  ·intro nx
   simp only [kg]
   rw [decide_eq_false (by simp [dp])];rfl
  ·cases (dp h).all (fun x=>bn x 0 1000000000000)<;>rfl
 cases JP h<;>cases ew h.2.2.2.2.2.2.2.2.1 (h.2.2.2.1.length:Int)<;>cases (dp h).all (fun x=>bn x 0 1000000000000)<;>rfl
end
end Go.Pu
end
section
namespace Go.Pu
open Go.Dn
set_option linter.unusedSimpArgs false
set_option linter.unusedVariables false
noncomputable section
theorem eO {n:Nat}(h:n<9223372036854775808):IntKind.wrap .i64 (n:Int)=(n:Int):=wrap64 (by omega) (by omega)
theorem aaS {n:Nat}(h:n<4294967296):IntKind.wrap .u32 (n:Int)=(n:Int):=by
 simp only [IntKind.wrap,IntKind.bits,IntKind.signed]
 simp
 omega
theorem lg (b:UInt8):b.toNat<256:=b.toNat_lt
def bA (v:Int):Bytes:=(aV v).getD []
theorem kQ (v:Int):aV v=some (bA v):=by
 unfold bA
 have:∃x,aV v=some x:=by
  simp only [aV,bc,ab]
  cases bn v 0 65535<;>exact ⟨_,rfl⟩
 obtain ⟨x,hx⟩:=this
 rw [hx];rfl
theorem o3 (v:Int):bj v=some (bA v):=kQ v
theorem IH (v:Int):(bA v).length=bif bn v 0 65535 then 2 else 0:=by
 have h:=kQ v
 simp only [aV,bc,ab] at h
 cases hb:bn v 0 65535<;>rw [hb] at h<;>(rw [←Option.some.inj h];rfl)
theorem aF (v:Int):(bA v).length≤2:=by rw [IH];cases bn v 0 65535<;>simp
def dD (v:Int):Bytes:=(cf v).getD []
theorem mN (v:Int):cf v=some (dD v):=by
 unfold dD
 have:∃x,cf v=some x:=by
  simp only [cf,bc,ab]
  cases bn v 0 4294967295<;>exact ⟨_,rfl⟩
 obtain ⟨x,hx⟩:=this
 rw [hx];rfl
theorem uV (v:Int):dF v=some (dD v):=mN v
theorem II (v:Int):(dD v).length=bif bn v 0 4294967295 then 4 else 0:=by
 have h:=mN v
 simp only [cf,bc,ab] at h
 cases hb:bn v 0 4294967295<;>rw [hb] at h<;>(rw [←Option.some.inj h];rfl)
theorem bF (v:Int):(dD v).length≤4:=by rw [II];cases bn v 0 4294967295<;>simp
def aR (s:Bytes)(i:Nat):Nat:=(s.getD i 0).toNat
theorem bB (s:Bytes)(i:Nat):aR s i<256:=lg _
theorem gD {s:Bytes}{i:Nat}(h:i<s.length):∃x,idx s (i:Int)=some x∧x.toNat=aR s i:=⟨s[i],ay h,by rw [aR,br h]⟩
def bM (s:Bytes)(a n:Int):Bool:=decide (0≤a∧a+n≤(s.length:Int))
theorem tB (s:Bytes)(a n:Int)(h:s.length≤1000000000)(hn:0≤n):fO s a n=some (bM s a n):=by
 unfold fO bM
 by_cases h0:0≤a
 ·by_cases h1:a≤(s.length:Int)
  ·rw [decide_eq_true (show a≥0 from h0),decide_eq_true h1,wrap64 (by omega) (by omega)]
   simp only [cond_true,ab]
   congr 1
   rw [decide_eq_decide];omega
  ·rw [decide_eq_true (show a≥0 from h0),decide_eq_false h1,decide_eq_false (show¬(0≤a∧a+n≤(s.length:Int)) by omega)];rfl
 ·rw [decide_eq_false (show¬a≥0 from h0),decide_eq_false (show¬(0≤a∧a+n≤(s.length:Int)) by omega)];rfl
def bh (s:Bytes)(a:Int):Int:=bif bM s a 2 then ((aR s a.toNat*256+aR s (a.toNat+1):Nat):Int) else-1
def du (s:Bytes)(a:Int):Int:=bif bM s a 4 then (((aR s a.toNat*256+aR s (a.toNat+1))*65536+(aR s (a.toNat+2)*256+aR s (a.toNat+3)):Nat):Int) else-1
theorem oS (s:Bytes)(a:Int)(h:s.length≤1000000000):bQ s a=some (bh s a):=by
 unfold bQ bh
 rw [tB s a 2 h (by omega),ab]
 cases hw:bM s a 2 with
 |false=>rfl
 |true=>
  simp only [bM,decide_eq_true_eq] at hw
  obtain ⟨n,rfl⟩:=Int.eq_ofNat_of_zero_le hw.1
  obtain ⟨x,hx,ex⟩:=gD (s:=s) (i:=n) (by omega)
  obtain ⟨y,hy,ey⟩:=gD (s:=s) (i:=n+1) (by omega)
  have hxl:=bB s n
  have hyl:=bB s (n+1)
  rw [wrap64 (n:=(n:Int)+1) (by omega) (by omega),hx,show (n:Int)+1=((n+1:Nat):Int) by omega,hy]
  simp only [Bool.not_true,cond_false,ab,Int.toNat_natCast,cond_true]
  rw [if_neg (by omega),ex,ey,eO (by omega),eO (by omega)]
  have e8:min (Int.toNat 8) (IntKind.bits .i64)=8:=rfl
  rw [e8,wrap64 (n:=((aR s n:Nat):Int)*2^8) (by omega) (by omega),wrap64 (by omega) (by omega)]
  congr 1
  all_goals omega
theorem uf (s:Bytes)(a:Int)(h:s.length≤1000000000):dk s a=some (du s a):=by
 unfold dk du
 rw [tB s a 4 h (by omega),ab]
 cases hw:bM s a 4 with
 |false=>rfl
 |true=>
  simp only [bM,decide_eq_true_eq] at hw
  obtain ⟨n,rfl⟩:=Int.eq_ofNat_of_zero_le hw.1
  have w1:bM s (n:Int) 2=true:=by simp only [bM,decide_eq_true_eq];omega
  have w2:bM s ((n:Int)+2) 2=true:=by simp only [bM,decide_eq_true_eq];omega
  have b0:=bB s n
  have b1:=bB s (n+1)
  have b2:=bB s (n+2)
  have b3:=bB s (n+3)
  rw [wrap64 (n:=(n:Int)+2) (by omega) (by omega),oS s _ h,oS s _ h]
  simp only [Bool.not_true,cond_false,ab,cond_true,bh,w1,w2,Int.toNat_natCast]
  rw [if_neg (by omega),show ((n:Int)+2).toNat=n+2 by omega,show n+2+1=n+3 by omega]
  have e8:min (Int.toNat 16) (IntKind.bits .i64)=16:=rfl
  rw [e8,wrap64 (n:=((aR s n*256+aR s (n+1):Nat):Int)*2^16) (by omega) (by omega),wrap64 (by omega) (by omega)]
  congr 1
  all_goals omega
theorem af0 (a b:Nat)(ha:a<9223372036854775808)(hb:b<9223372036854775808):BitVec.toNat (BitVec.ofInt (IntKind.bits .i64) (a:Int)|||BitVec.ofInt (IntKind.bits .i64) (b:Int))=a|||b:=by
 show (BitVec.ofInt 64 (a:Int)|||BitVec.ofInt 64 (b:Int)).toNat=_
 rw [BitVec.ofInt_natCast,BitVec.ofInt_natCast,BitVec.toNat_or,BitVec.toNat_ofNat,BitVec.toNat_ofNat,Nat.mod_eq_of_lt (by omega),Nat.mod_eq_of_lt (by omega)]
theorem VN (a b:Nat)(ha:a<9223372036854775808)(hb:b<9223372036854775808):BitVec.toNat (BitVec.ofInt (IntKind.bits .i64) (a:Int)&&&BitVec.ofInt (IntKind.bits .i64) (b:Int))=a&&&b:=by
 show (BitVec.ofInt 64 (a:Int)&&&BitVec.ofInt 64 (b:Int)).toNat=_
 rw [BitVec.ofInt_natCast,BitVec.ofInt_natCast,BitVec.toNat_and,BitVec.toNat_ofNat,BitVec.toNat_ofNat,Nat.mod_eq_of_lt (by omega),Nat.mod_eq_of_lt (by omega)]
theorem aga (a b:Nat)(ha:a<9223372036854775808)(hb:b<9223372036854775808):BitVec.toNat (BitVec.ofInt (IntKind.bits .i64) (a:Int)^^^BitVec.ofInt (IntKind.bits .i64) (b:Int))=a^^^b:=by
 show (BitVec.ofInt 64 (a:Int)^^^BitVec.ofInt 64 (b:Int)).toNat=_
 rw [BitVec.ofInt_natCast,BitVec.ofInt_natCast,BitVec.toNat_xor,BitVec.toNat_ofNat,BitVec.toNat_ofNat,Nat.mod_eq_of_lt (by omega),Nat.mod_eq_of_lt (by omega)]
theorem af4 (a b:Nat)(ha:a<4294967296)(hb:b<4294967296):BitVec.toNat (BitVec.ofInt (IntKind.bits .u32) (a:Int)&&&BitVec.ofInt (IntKind.bits .u32) (b:Int))=a&&&b:=by
 show (BitVec.ofInt 32 (a:Int)&&&BitVec.ofInt 32 (b:Int)).toNat=_
 rw [BitVec.ofInt_natCast,BitVec.ofInt_natCast,BitVec.toNat_and,BitVec.toNat_ofNat,BitVec.toNat_ofNat,Nat.mod_eq_of_lt (by omega),Nat.mod_eq_of_lt (by omega)]
theorem af9 (a b:Nat)(ha:a<4294967296)(hb:b<4294967296):BitVec.toNat (BitVec.ofInt (IntKind.bits .u32) (a:Int)^^^BitVec.ofInt (IntKind.bits .u32) (b:Int))=a^^^b:=by
 show (BitVec.ofInt 32 (a:Int)^^^BitVec.ofInt 32 (b:Int)).toNat=_
 rw [BitVec.ofInt_natCast,BitVec.ofInt_natCast,BitVec.toNat_xor,BitVec.toNat_ofNat,BitVec.toNat_ofNat,Nat.mod_eq_of_lt (by omega),Nat.mod_eq_of_lt (by omega)]
theorem wV (x k y:Nat)(hy:y<2^k)(h:2^k*x+y<9223372036854775808):IntKind.wrap .i64 (BitVec.toNat (BitVec.ofInt (IntKind.bits .i64) ((2^k*x:Nat):Int)|||BitVec.ofInt (IntKind.bits .i64) (y:Int)):Int)=((2^k*x+y:Nat):Int):=by
 rw [af0 _ _ (by omega) (by omega),←Nat.two_pow_add_eq_or_of_lt hy]
 exact eO h
theorem xD (s:Bytes)(a n:Int):(cond (decide (a<0)) (some true) (some (decide (a>(s.length:Int)-n))))=some (!bM s a n):=by
 cases hw:bM s a n with
 |true=>
  simp only [bM,decide_eq_true_eq] at hw
  rw [decide_eq_false (show¬a<0 by omega),decide_eq_false (show¬a>(s.length:Int)-n by omega)]
  rfl
 |false=>
  simp only [bM,decide_eq_false_iff_not] at hw
  by_cases h0:a<0
  ·rw [decide_eq_true h0];rfl
  ·rw [decide_eq_false h0,decide_eq_true (show a>(s.length:Int)-n by omega)];rfl
theorem tV (s:Bytes)(a:Int)(h:s.length≤1000000000):cc s a=some (bh s a):=by
 unfold cc bh
 rw [wrap64 (n:=(s.length:Int)-2) (by omega) (by omega)]
 rw [xD,ab]
 cases hw:bM s a 2 with
 |false=>rfl
 |true=>
  simp only [bM,decide_eq_true_eq] at hw
  obtain ⟨n,rfl⟩:=Int.eq_ofNat_of_zero_le hw.1
  obtain ⟨x,hx,ex⟩:=gD (s:=s) (i:=n) (by omega)
  obtain ⟨y,hy,ey⟩:=gD (s:=s) (i:=n+1) (by omega)
  have hxl:=bB s n
  have hyl:=bB s (n+1)
  rw [wrap64 (n:=(n:Int)+1) (by omega) (by omega),hx,show (n:Int)+1=((n+1:Nat):Int) by omega,hy]
  simp only [Bool.not_true,cond_false,cond_true,ab,Int.toNat_natCast]
  rw [if_neg (by omega),ex,ey,eO (n:=aR s n) (by omega),eO (n:=aR s (n+1)) (by omega)]
  have e8:min (Int.toNat 8) (IntKind.bits .i64)=8:=rfl
  rw [e8,show ((aR s n:Nat):Int)*2^8=((2^8*aR s n:Nat):Int) by omega,eO (n:=2^8*aR s n) (by omega),wV (aR s n) 8 (aR s (n+1)) (by omega) (by omega)]
  congr 1
  all_goals omega
theorem tW (s:Bytes)(a:Int)(h:s.length≤1000000000):dP s a=some (du s a):=by
 unfold dP du
 rw [wrap64 (n:=(s.length:Int)-4) (by omega) (by omega)]
 rw [xD,ab]
 cases hw:bM s a 4 with
 |false=>rfl
 |true=>
  simp only [bM,decide_eq_true_eq] at hw
  obtain ⟨n,rfl⟩:=Int.eq_ofNat_of_zero_le hw.1
  obtain ⟨x0,h0,e0⟩:=gD (s:=s) (i:=n) (by omega)
  obtain ⟨x1,h1,e1⟩:=gD (s:=s) (i:=n+1) (by omega)
  obtain ⟨x2,h2,e2⟩:=gD (s:=s) (i:=n+2) (by omega)
  obtain ⟨x3,h3,e3⟩:=gD (s:=s) (i:=n+3) (by omega)
  have b0:=bB s n
  have b1:=bB s (n+1)
  have b2:=bB s (n+2)
  have b3:=bB s (n+3)
  rw [wrap64 (n:=(n:Int)+1) (by omega) (by omega),wrap64 (n:=(n:Int)+2) (by omega) (by omega),wrap64 (n:=(n:Int)+3) (by omega) (by omega),h0,show (n:Int)+1=((n+1:Nat):Int) by omega,h1,
   show (n:Int)+2=((n+2:Nat):Int) by omega,h2,show (n:Int)+3=((n+3:Nat):Int) by omega,h3]
  simp only [Bool.not_true,cond_false,cond_true,ab,Int.toNat_natCast]
  rw [if_neg (by omega),if_neg (by omega),if_neg (by omega),e0,e1,e2,e3]
  generalize aR s n=p0 at*
  generalize aR s (n+1)=p1 at*
  generalize aR s (n+2)=p2 at*
  generalize aR s (n+3)=p3 at*
  have f24:min (Int.toNat 24) (IntKind.bits .i64)=24:=rfl
  have f16:min (Int.toNat 16) (IntKind.bits .i64)=16:=rfl
  have f8:min (Int.toNat 8) (IntKind.bits .i64)=8:=rfl
  rw [eO (n:=p0) (by omega),eO (n:=p1) (by omega),eO (n:=p2) (by omega),eO (n:=p3) (by omega),f24,f16,f8,
   show ((p0:Nat):Int)*2^24=((2^24*p0:Nat):Int) by omega,show ((p1:Nat):Int)*2^16=((2^16*p1:Nat):Int) by omega,show ((p2:Nat):Int)*2^8=((2^8*p2:Nat):Int) by omega,
   eO (n:=2^24*p0) (by omega),eO (n:=2^16*p1) (by omega),eO (n:=2^8*p2) (by omega),wV p0 24 (2^16*p1) (by omega) (by omega),
   show 2^24*p0+2^16*p1=2^16*(2^8*p0+p1) by omega,wV _ 16 (2^8*p2) (by omega) (by omega),
   show 2^16*(2^8*p0+p1)+2^8*p2=2^8*(2^8*(2^8*p0+p1)+p2) by omega,wV _ 8 p3 (by omega) (by omega)]
  congr 1
  all_goals omega
def G7 (c:Nat):Nat:=if c%2=1 then (c/2)^^^3988292384 else c/2
def Pb:Nat→Nat→Nat
 |0,c=>c
 |n+1,c=>G7 (Pb n c)
def VS (c:Nat)(s:Bytes):Nat:=s.foldl (fun c b=>Pb 8 (c^^^b.toNat)) c
def IW (s:Bytes):Int:=4294967295-(VS 4294967295 s:Int)
theorem IJ {a b:Nat}(ha:a<4294967296)(hb:b<4294967296):a^^^b<4294967296:=Nat.xor_lt_two_pow (n:=32) ha hb
theorem Ke {c:Nat}(h:c<4294967296):G7 c<4294967296:=by
 unfold G7
 split
 ·exact IJ (by omega) (by omega)
 ·omega
theorem IX {c:Nat}(h:c<4294967296):∀n,Pb n c<4294967296
 |0=>h
 |n+1=>Ke (IX h n)
theorem IY:∀(s:Bytes){c:Nat},c<4294967296→VS c s<4294967296
 |[],_,h=>h
 |b::s,c,h=>IY s (c:=Pb 8 (c^^^b.toNat)) (IX (IJ h (by have:=lg b;omega)) 8)
theorem VR (s:Bytes):0≤IW s∧IW s≤4294967295:=by
 have:=IY s (c:=4294967295) (by omega)
 unfold IW;omega
theorem not_xor (c:Nat)(h:c<4294967296):BitVec.toNat (BitVec.ofInt (IntKind.bits .u32) (IntKind.max .u32)^^^BitVec.ofInt (IntKind.bits .u32) (c:Int))=4294967295-c:=by
 show (BitVec.ofInt 32 4294967295^^^BitVec.ofInt 32 (c:Int)).toNat=_
 rw [show BitVec.ofInt 32 4294967295=BitVec.allOnes 32 by decide,BitVec.ofInt_natCast,BitVec.allOnes_xor,BitVec.toNat_not,BitVec.toNat_ofNat,Nat.mod_eq_of_lt (show c<2^32 by omega)]
end
end Go.Pu
end
section
namespace Go.Pu
open Go.Dn
set_option linter.unusedSimpArgs false
set_option linter.unusedVariables false
noncomputable section
theorem yy (s:Bytes):bytesOf (aL s)=s:=by
 unfold bytesOf aL
 rw [List.map_map]
 conv=>rhs;rw [←List.map_id s]
 refine List.map_congr_left fun b _=> ?_
 simp
theorem ML (s t:Bytes):aL (s++t)=aL s++aL t:=List.map_append
theorem vK (s:Bytes):(aL s).length=s.length:=List.length_map ..
theorem yh {α:Type}(l:List α)(i j:Nat)(h:i≤j)(h2:j≤l.length):sub l (i:Int) (j:Int)=some ((l.drop i).take (j-i)):=by
 unfold sub
 rw [if_pos (by omega)]
 simp [List.take_drop,Nat.add_sub_cancel' h]
theorem Cs (a k:Nat):Int.tdiv (a:Int) (k:Int)=((a/k:Nat):Int):=(Int.ofNat_tdiv a k).symm
theorem AE (a k:Nat):Int.tmod (a:Int) (k:Int)=((a%k:Nat):Int):=(Int.ofNat_tmod a k).symm
theorem mem_iff {m:List Bytes}:cn m=true↔(∀x∈m,x.length=128)∧m.length≤64:=by
 simp only [cn,Bool.and_eq_true,List.all_eq_true,beq_iff_eq,decide_eq_true_eq]
 constructor
 ·rintro ⟨h1,h2⟩;exact ⟨fun x hx=>by have:=h1 x hx;omega,by omega⟩
 ·rintro ⟨h1,h2⟩;exact ⟨fun x hx=>by have:=h1 x hx;omega,by omega⟩
theorem Fa:∀{m:List Bytes},(∀x∈m,x.length=128)→m.flatten.length=128*m.length
 |[],_=>rfl
 |x::m,h=>by
  have:=Fa (m:=m) (fun y hy=>h y (by simp [hy]))
  have:=h x (by simp)
  simp only [List.flatten_cons,List.length_append,List.length_cons];omega
theorem BK:∀{m:List Bytes}(_:∀x∈m,x.length=128)(p:Nat)(hp:p<m.length)(o c:Nat),o+c≤128→(m.flatten.drop (128*p+o)).take c=(m[p].drop o).take c
 |x::m,h,0,hp,o,c,ho=>by
  have:=h x (by simp)
  simp only [List.flatten_cons,List.getElem_cons_zero]
  rw [List.drop_append_of_le_length (by omega),List.take_append_of_le_length (by simp;omega)]
  simp
 |x::m,h,p+1,hp,o,c,ho=>by
  have hx:=h x (by simp)
  simp only [List.flatten_cons,List.getElem_cons_succ]
  rw [show 128*(p+1)+o=x.length+(128*p+o) by omega,List.drop_length_add_append]
  exact BK (m:=m) (fun y hy=>h y (by simp [hy])) p (by simpa using hp) o c ho
def oa (m:List Bytes)(a n:Nat):Bytes:=(m.flatten.drop a).take n
theorem qX {m:List Bytes}{a n:Nat}(h:cn m=true)(hn:a+n≤128*m.length):(oa m a n).length=n:=by
 have:=Fa (mem_iff.1 h).1
 simp only [oa,List.length_take,List.length_drop];omega
theorem Np (m:List Bytes)(a n:Nat):(oa m a n).length≤n:=by simp [oa];omega
theorem Cf (m:List Bytes)(a k c:Nat):oa m a (k+c)=oa m a k++oa m (a+k) c:=by
 unfold oa;rw [List.take_add,List.drop_drop]
theorem Ag {m:List Bytes}(h:cn m=true){p:Nat}(hp:p<m.length){o c:Nat}(ho:o+c≤128){a:Nat}(ha:a=128*p+o):(m[p].drop o).take c=oa m a c:=by
 subst ha;exact (BK (mem_iff.1 h).1 p hp o c ho).symm
def bS (m:List Bytes)(a n:Int):Bool:=cn m&&decide (0≤n∧0≤a∧a+n≤128*(m.length:Int))
theorem s8 (m:List Bytes)(a n:Int)(h:m.length≤1000000000):kY m a n=some (bS m a n):=by
 unfold kY bS
 rw [uU m h,ab,wrap64 (n:=(m.length:Int)*128) (by omega) (by omega)]
 cases hm:cn m with
 |false=>rfl
 |true=>
  simp only [cond_true,Bool.true_and]
  by_cases h1:n≥0
  ·by_cases h2:n≤(m.length:Int)*128
   ·rw [wrap64 (n:=(m.length:Int)*128-n) (by omega) (by omega)]
    by_cases h3:a≥0
    ·simp only [decide_eq_true h1,decide_eq_true h2,decide_eq_true h3,cond_true,ab]
     exact congrArg some (decide_eq_decide.2 (by omega))
    ·simp only [decide_eq_true h1,decide_eq_true h2,decide_eq_false h3,cond_true,cond_false,ab]
     exact congrArg some (decide_eq_false (by omega)).symm
   ·simp only [decide_eq_true h1,decide_eq_false h2,cond_true,cond_false,ab]
    exact congrArg some (decide_eq_false (by omega)).symm
  ·simp only [decide_eq_false h1,cond_false,ab]
   exact congrArg some (decide_eq_false (by omega)).symm
theorem tC (m:List Bytes)(a n:Int)(h:m.length≤1000000000):dZ m a n=some (bS m a n):=by
 unfold dZ bS
 rw [sk m h,ab,wrap64 (n:=128*(m.length:Int)) (by omega) (by omega)]
 cases hm:cn m with
 |false=>rfl
 |true=>
  simp only [cond_true,Bool.true_and]
  by_cases h1:n≥0
  ·by_cases h3:a≥0
   ·by_cases h2:a≤128*(m.length:Int)
    ·rw [wrap64 (n:=128*(m.length:Int)-a) (by omega) (by omega)]
     simp only [decide_eq_true h1,decide_eq_true h2,decide_eq_true h3,cond_true,ab]
     exact congrArg some (decide_eq_decide.2 (by omega))
    ·simp only [decide_eq_true h1,decide_eq_false h2,decide_eq_true h3,cond_true,cond_false,ab]
     exact congrArg some (decide_eq_false (by omega)).symm
   ·simp only [decide_eq_true h1,decide_eq_false h3,cond_true,cond_false,ab]
    exact congrArg some (decide_eq_false (by omega)).symm
  ·simp only [decide_eq_false h1,cond_false,ab]
   exact congrArg some (decide_eq_false (by omega)).symm
theorem vF {R:Type}{m:List Bytes}(hm:cn m=true)(K:Int→List Int→Option R):∀(n r k a f:Nat),r≤n→n<f→a+k+r≤128*m.length→
 aq (dR K ((k+r:Nat):Int) m) f (((a+k:Nat):Int),aL (oa m a k))=K ((a+k+r:Nat):Int) (aL (oa m a (k+r)))
 |n,r,k,a,0,_,hf,_=>by omega
 |n,0,k,a,f+1,hr,hf,hb=>by
  rw [aq]
  simp only [dR,vK,qX hm (show a+k≤128*m.length by omega),Nat.add_zero]
  rw [decide_eq_false (by omega),cond_false]
 |0,r+1,k,a,f+1,hr,hf,hb=>by omega
 |n+1,r+1,k,a,f+1,hr,hf,hb=>by
  have h64:=(mem_iff.1 hm).2
  have hl:=qX hm (show a+k≤128*m.length by omega)
  obtain ⟨p,hp⟩:∃p,(a+k)/128=p:=⟨_,rfl⟩
  obtain ⟨o,ho⟩:∃o,(a+k)%128=o:=⟨_,rfl⟩
  have hpo:a+k=128*p+o:=by omega
  have ho2:o<128:=by omega
  have hpl:p<m.length:=by omega
  obtain ⟨c,hc⟩:∃c,min (r+1) (128-o)=c:=⟨_,rfl⟩
  have hpg:=(mem_iff.1 hm).1 _ (List.getElem_mem hpl)
  have e1:Int.tdiv ((a+k:Nat):Int) 128=(p:Int):=by rw [←hp];exact Cs (a+k) 128
  have e2:Int.tmod ((a+k:Nat):Int) 128=(o:Int):=by rw [←ho];exact AE (a+k) 128
  have key:=vF hm K n (r+1-c) (k+c) a f (by omega) (by omega) (by omega)
  rw [aq]
  simp only [dR,vK,hl,e1,e2]
  rw [decide_eq_true (by omega),cond_true,if_neg (by omega),wrap64 (n:=(p:Int)) (by omega) (by omega),ay hpl,ab,if_neg (by omega)]
  rw [wrap64 (n:=(o:Int)+((k+(r+1):Nat):Int)) (by omega) (by omega),wrap64 (n:=(o:Int)+((k+(r+1):Nat):Int)-(k:Int)) (by omega) (by omega)]
  rw [show (if (o:Int)+((k+(r+1):Nat):Int)-(k:Int)<128 then (o:Int)+((k+(r+1):Nat):Int)-(k:Int) else 128)=((o+c:Nat):Int) by split<;>omega]
  rw [yh _ _ _ (by omega) (by omega),ab,show o+c-o=c by omega,Ag hm hpl (show o+c≤128 by omega) hpo]
  have hl2:=qX hm (show a+k+c≤128*m.length by omega)
  rw [hl2,au (by omega),wrap64 (by omega) (by omega),←ML,←Cf]
  rw [show ((a+k:Nat):Int)+(c:Int)=((a+(k+c):Nat):Int) by omega]
  rw [show k+c+(r+1-c)=k+(r+1) by omega,show a+(k+c)+(r+1-c)=a+k+(r+1) by omega] at key
  exact key
theorem MH (m:List Bytes)(a n:Int)(h:m.length≤1000000000):gF m a n=some (bif bS m a n then (oa m a.toNat n.toNat,true) else ([],false)):=by
 have hfu:=bz
 unfold gF
 rw [s8 m a n h,ab]
 cases hw:bS m a n with
 |false=>rfl
 |true=>
  simp only [bS,Bool.and_eq_true,decide_eq_true_eq] at hw
  obtain ⟨hm,h1,h2,h3⟩:=hw
  have h64:=(mem_iff.1 hm).2
  simp only [Bool.not_true,cond_false,cond_true]
  rw [if_pos (by omega),au (by omega)]
  obtain ⟨a,rfl⟩:=Int.eq_ofNat_of_zero_le h2
  obtain ⟨n,rfl⟩:=Int.eq_ofNat_of_zero_le h1
  have:=vF hm (fun (y4:Int) (y5:List Int)=>some (bytesOf y5,true)) n n 0 a fuel (by omega) (by omega) (by omega)
  rw [Nat.zero_add,Nat.add_zero] at this
  refine Eq.trans this ?_
  simp only [yy,Int.toNat_natCast]
theorem wh {R:Type}{m:List Bytes}(hm:cn m=true)(K:Int→Int→Bytes→Option R):∀(n r k a f:Nat),r≤n→n<f→a+k+r≤128*m.length→
 aq (dY K m) f (((a+k:Nat):Int),(r:Int),oa m a k)=K ((a+k+r:Nat):Int) 0 (oa m a (k+r))
 |n,r,k,a,0,_,hf,_=>by omega
 |n,0,k,a,f+1,hr,hf,hb=>by
  rw [aq]
  simp only [dY]
  rw [decide_eq_false (by omega),cond_false];rfl
 |0,r+1,k,a,f+1,hr,hf,hb=>by omega
 |n+1,r+1,k,a,f+1,hr,hf,hb=>by
  have h64:=(mem_iff.1 hm).2
  have hl:=qX hm (show a+k≤128*m.length by omega)
  obtain ⟨p,hp⟩:∃p,(a+k)/128=p:=⟨_,rfl⟩
  obtain ⟨o,ho⟩:∃o,(a+k)%128=o:=⟨_,rfl⟩
  have hpo:a+k=128*p+o:=by omega
  have ho2:o<128:=by omega
  have hpl:p<m.length:=by omega
  obtain ⟨c,hc⟩:∃c,min (r+1) (128-o)=c:=⟨_,rfl⟩
  have hpg:=(mem_iff.1 hm).1 _ (List.getElem_mem hpl)
  have e1:Int.tdiv ((a+k:Nat):Int) 128=(p:Int):=by rw [←hp];exact Cs (a+k) 128
  have e2:Int.tmod ((a+k:Nat):Int) 128=(o:Int):=by rw [←ho];exact AE (a+k) 128
  have key:=wh hm K n (r+1-c) (k+c) a f (by omega) (by omega) (by omega)
  rw [aq]
  simp only [dY,e1,e2]
  rw [decide_eq_true (by omega),cond_true,if_neg (by omega),if_neg (by omega),wrap64 (n:=(p:Int)) (by omega) (by omega),ay hpl,ab]
  rw [wrap64 (n:=128-(o:Int)) (by omega) (by omega)]
  rw [show (if 128-(o:Int)<((r+1:Nat):Int) then 128-(o:Int) else ((r+1:Nat):Int))=(c:Int) by split<;>omega]
  rw [wrap64 (n:=(o:Int)+(c:Int)) (by omega) (by omega),show (o:Int)+(c:Int)=((o+c:Nat):Int) by omega]
  rw [yh _ _ _ (by omega) (by omega),ab,show o+c-o=c by omega,Ag hm hpl (show o+c≤128 by omega) hpo]
  have hl2:=qX hm (show a+k+c≤128*m.length by omega)
  rw [hl2,hl,au (by omega),wrap64 (n:=((a+k:Nat):Int)+(c:Int)) (by omega) (by omega),wrap64 (n:=((r+1:Nat):Int)-(c:Int)) (by omega) (by omega),←Cf]
  rw [show ((a+k:Nat):Int)+(c:Int)=((a+(k+c):Nat):Int) by omega,show ((r+1:Nat):Int)-(c:Int)=((r+1-c:Nat):Int) by omega]
  rw [show k+c+(r+1-c)=k+(r+1) by omega,show a+(k+c)+(r+1-c)=a+k+(r+1) by omega] at key
  exact key
theorem ND (m:List Bytes)(a n:Int)(h:m.length≤1000000000):gL m a n=some (bif bS m a n then (oa m a.toNat n.toNat,true) else ([],false)):=by
 have hfu:=bz
 unfold gL
 rw [tC m a n h,ab]
 cases hw:bS m a n with
 |false=>rfl
 |true=>
  simp only [bS,Bool.and_eq_true,decide_eq_true_eq] at hw
  obtain ⟨hm,h1,h2,h3⟩:=hw
  have h64:=(mem_iff.1 hm).2
  simp only [Bool.not_true,cond_false,cond_true]
  obtain ⟨a,rfl⟩:=Int.eq_ofNat_of_zero_le h2
  obtain ⟨n,rfl⟩:=Int.eq_ofNat_of_zero_le h1
  have:=wh hm (fun (y4:Int) (y5:Int) (y6:Bytes)=>some (y6,true)) n n 0 a fuel (by omega) (by omega) (by omega)
  rw [Nat.zero_add,Nat.add_zero] at this
  exact this
end
end Go.Pu
end
section
namespace Go.Pu
open Go.Dn
set_option linter.unusedSimpArgs false
set_option linter.unusedVariables false
noncomputable section
def uo (d p:Int)(w:Bool)(x:ae):Bool:=iJ d p x&&(x.2.2.2|| !w)
def h9 (l:List ae)(d p:Int)(w:Bool):Int:=match l.findIdx? (uo d p w) with|some i=>(l.getD i xO).2.2.1|none=> -1
theorem NB (l:List ae)(d p:Int)(w:Bool)(h:l.length≤1000000000):oI l d p w=some (h9 l d p w):=by
 unfold oI h9
 refine Eq.trans (tR (p:=uo d p w) (hit:=fun i=>aa (idx l i) fun x=>some x.2.2.1) (fin:=some (-1)) l (by omega) (fun i hi nx=> ?_) (fun nx=> ?_)) ?_
 ·simp only [kH]
  rw [decide_eq_true (by omega),ay hi,wrap64 (by omega) (by omega)]
  simp only [cond_true,ab,uo,iJ]
  cases l[i].1==d<;>cases l[i].2.1==p<;>cases l[i].2.2.2<;>cases w<;>rfl
 ·simp only [kH]
  rw [decide_eq_false (by omega)];rfl
 ·cases hf:l.findIdx? (uo d p w) with
  |none=>rfl
  |some i=>
   obtain ⟨hi,_⟩:=List.findIdx?_eq_some_iff_getElem.1 hf
   simp only [ay hi,ab,br hi]
theorem ti {l:List ae}(h:bC l=true){i:Nat}(hi:i<l.length):uY l[i]=true∧∀j (hj:j<i),iJ l[i].1 l[i].2.1 (l[j]'(by omega))=false:=by
 simp only [bC,Bool.and_eq_true,List.all_eq_true,List.mem_range] at h
 have:=h.2 i hi
 simp only [zT,Bool.and_eq_true,List.all_eq_true,List.mem_range,br hi,Bool.not_eq_true'] at this
 exact ⟨this.1,fun j hj=>by have:=this.2 j hj;rwa [br (by omega)] at this⟩
theorem wN {d p:Int}{m:ae}:iJ d p m=true↔m.1=d∧m.2.1=p:=by simp [iJ]
theorem MU {l:List ae}(h:bC l=true){d p:Int}{i j:Nat}(hi:i<l.length)(hj:j<l.length)(h1:iJ d p l[i]=true)(h2:iJ d p l[j]=true):i=j:=by
 have a:=wN.1 h1;have b:=wN.1 h2
 rcases Nat.lt_trichotomy i j with h3|h3|h3
 ·have:=(ti h hj).2 i h3;rw [b.1,b.2,h1] at this;cases this
 ·exact h3
 ·have:=(ti h hi).2 j h3;rw [a.1,a.2,h2] at this;cases this
theorem z8 {l:List ae}(h:bC l=true)(d p:Int)(w:Bool)(h1:0≤h9 l d p w):h9 l d p w≤63∧0≤p∧p≤1023:=by
 unfold h9 at h1⊢
 cases hf:l.findIdx? (uo d p w) with
 |none=>rw [hf] at h1;simp at h1
 |some i=>
  obtain ⟨hi,h2,_⟩:=List.findIdx?_eq_some_iff_getElem.1 hf
  have h3:=(ti h hi).1
  simp only [uo,Bool.and_eq_true,wN] at h2
  simp only [uY,Bool.and_eq_true,bL] at h3
  simp only [br hi]
  omega
theorem aaD {l:List ae}(h:bC l=true)(d p:Int)(w:Bool):h9 l d p w= -1∨0≤h9 l d p w:=by
 unfold h9
 cases hf:l.findIdx? (uo d p w) with
 |none=>exact .inl rfl
 |some i=>
  obtain ⟨hi,h2,_⟩:=List.findIdx?_eq_some_iff_getElem.1 hf
  have h3:=(ti h hi).1
  simp only [uY,Bool.and_eq_true,bL] at h3
  simp only [br hi]
  omega
theorem KA (l:List ae)(d:Int)(a:Nat)(w:Bool)(h:l.length≤1000000000)(hm:bC l=true)(ha:a≤9223372036854775807):
 ru l d (a:Int) w=some (if 0≤h9 l d ((a/128:Nat):Int) w then h9 l d ((a/128:Nat):Int) w*128+((a%128:Nat):Int) else-1):=by
 have e1:Int.tdiv (a:Int) 128=((a/128:Nat):Int):=Cs a 128
 have e2:Int.tmod (a:Int) 128=((a%128:Nat):Int):=AE a 128
 unfold ru
 rw [decide_eq_false (by omega),cond_false,if_neg (by omega),e1,e2,wrap64 (by omega) (by omega),Fs l _ _ h,ab]
 generalize ((a/128:Nat):Int)=p
 have hin:=z8 hm d p w
 unfold FX
 cases hf:l.findIdx? (iJ d p) with
 |none=>
  have hn:h9 l d p w= -1:=by
   unfold h9
   rw [List.findIdx?_eq_none_iff] at hf
   rw [List.findIdx?_eq_none_iff.2 (fun x hx=>by rw [uo,hf x hx];rfl)]
  rw [hn];rfl
 |some i=>
  obtain ⟨hi,h2,h3⟩:=List.findIdx?_eq_some_iff_getElem.1 hf
  simp only
  rw [decide_eq_false (by omega),ay hi]
  simp only [cond_false,ab]
  cases hq:l[i].2.2.2|| !w with
  |true=>
   have hF:h9 l d p w=l[i].2.2.1:=by
    unfold h9
    rw [List.findIdx?_eq_some_iff_getElem.2 ⟨hi,by rw [uo,h2,hq];rfl,fun j hj=>by have:=h3 j hj;rw [uo,Bool.eq_false_iff.2 this];simp⟩]
    exact congrArg (fun x:ae=>x.2.2.1) (br hi xO)
   have h4:=(ti hm hi).1
   simp only [uY,Bool.and_eq_true,bL] at h4
   rw [hF,if_pos (show 0≤l[i].2.2.1 by omega),show (aa (cond w (some (!l[i].2.2.2)) (some false)) fun q3=>cond q3 (some (-1:Int)) _)=_ from by
    have:(cond w (some (!l[i].2.2.2)) (some false))=some false:=by
     cases w<;>cases hz:l[i].2.2.2<;>rw [hz] at hq<;>first|rfl|cases hq
    rw [this,ab,cond_false]]
   rw [if_neg (show¬(128:Nat)=0 by omega),wrap64 (n:=l[i].2.2.1*128) (by omega) (by omega),wrap64 (by omega) (by omega)]
  |false=>
   have hF:h9 l d p w= -1:=by
    unfold h9
    rw [List.findIdx?_eq_none_iff.2 (fun x hx=>by
     obtain ⟨j,hj,rfl⟩:=List.getElem_of_mem hx
     cases hx2:iJ d p l[j] with
     |false=>rw [uo,hx2];rfl
     |true=>have:=MU hm hi hj h2 hx2;subst this;rw [uo,hq];simp)]
   rw [hF,if_neg (show¬(0:Int)≤ -1 by omega)]
   cases w with
   |false=>simp at hq
   |true=>
    simp only [Bool.not_true,Bool.or_false] at hq
    simp only [cond_true,hq,ab,Bool.not_false]
def ei (l:List ae)(m:List Bytes)(d:Int)(w:Bool):Nat→Nat→Nat→Option (List (Int×Int))
 |0,_,_=>some []
 |n+1,a,r=>if r=0 then some [] else
  if 0≤h9 l d ((a/128:Nat):Int) w∧h9 l d ((a/128:Nat):Int) w<(m.length:Int) then
   (ei l m d w n (a+min (128-a%128) r) (r-min (128-a%128) r)).map (fun q=>(h9 l d ((a/128:Nat):Int) w*128+((a%128:Nat):Int),((min (128-a%128) r:Nat):Int))::q)
  else none
theorem Em {m:List Bytes}(hm:cn m=true){f:Int}(h0:0≤f){o c:Nat}(hc:0<c)(ho:o+c≤128):bS m (f*128+(o:Int)) (c:Int)=decide (f<(m.length:Int)):=by
 rw [bS,hm,Bool.true_and]
 exact decide_eq_decide.2 (by omega)
theorem GJ {m:List Bytes}(hm:cn m=true){f:Int}(h0:0≤f):bS m (f*128) 128=decide (f<(m.length:Int)):=by
 rw [bS,hm,Bool.true_and]
 exact decide_eq_decide.2 (by omega)
theorem vG {l:List ae}{m:List Bytes}(hl:bC l=true)(hL:l.length≤1000000000)(hm:cn m=true)(d:Int)(w:Bool):∀(n a r f:Nat)(acc:List (Int×Int)),r≤n→n<f→acc.length+n≤1000000→a≤9223372036854775807→
 aq (iw (fun (y9:Int) (y10:Int) (y11:List (Int×Int))=>some (y11,true)) (fun (y12:Int) (y13:Int) (y14:List (Int×Int)) (y15:Bool) (y16:List (Int×Int))=>some (y14,y15)) l d w ([]:List (Int×Int)) false m) f ((a:Int),(r:Int),acc)
  =match ei l m d w n a r with|some q=>some (acc++q,true)|none=>some ([],false)
 |n,a,r,0,acc,_,hf,_,_=>by omega
 |0,a,r,f+1,acc,hr,hf,hA,ha=>by
  rw [aq]
  simp only [iw]
  rw [decide_eq_false (by omega)]
  simp [ei]
 |n+1,a,r,f+1,acc,hr,hf,hA,ha=>by
  have h64:=(mem_iff.1 hm).2
  rw [aq]
  simp only [iw,ei]
  by_cases h0:r=0
  ·rw [decide_eq_false (by omega),if_pos h0];simp
  ·have e2:Int.tmod (a:Int) 128=((a%128:Nat):Int):=AE a 128
   have hin:=z8 hl d ((a/128:Nat):Int) w
   rw [decide_eq_true (by omega),if_neg h0,KA l d a w hL hl ha,ab,if_neg (by omega),e2,wrap64 (n:=128-((a%128:Nat):Int)) (by omega) (by omega)]
   obtain ⟨c,hc⟩:∃c,min (128-a%128) r=c:=⟨_,rfl⟩
   rw [hc,show (if 128-((a%128:Nat):Int)<(r:Int) then 128-((a%128:Nat):Int) else (r:Int))=(c:Int) by split<;>omega]
   generalize hP:h9 l d ((a/128:Nat):Int) w=P at hin⊢
   by_cases hP0:0≤P
   ·have hin:=hin hP0
    simp only [if_pos hP0,cond_true]
    rw [decide_eq_false (show¬P*128+((a%128:Nat):Int)<0 by omega),s8 m _ _ (by omega),Em hm hP0 (by omega) (by omega)]
    simp only [cond_false,ab]
    by_cases hP1:P<(m.length:Int)
    ·rw [decide_eq_true hP1,if_pos ⟨hP0,hP1⟩]
     simp only [Bool.not_true,cond_false]
     rw [au (by simp;omega),wrap64 (n:=(a:Int)+(c:Int)) (by omega) (by omega),wrap64 (n:=(r:Int)-(c:Int)) (by omega) (by omega),decide_eq_false (show¬(a:Int)+(c:Int)<0 by omega)]
     simp only [cond_false,ab]
     have key:=vG hl hL hm d w n (a+c) (r-c) f (acc++[(P*128+((a%128:Nat):Int),(c:Int))]) (by omega) (by omega) (by simp;omega) (by omega)
     rw [show ((a+c:Nat):Int)=(a:Int)+(c:Int) by omega,show ((r-c:Nat):Int)=(r:Int)-(c:Int) by omega] at key
     rw [key]
     cases ei l m d w n (a+c) (r-c) with
     |none=>rfl
     |some q=>simp
    ·rw [decide_eq_false hP1,if_neg (by omega)];rfl
   ·simp only [if_neg hP0,cond_true]
    rw [if_neg (by omega),decide_eq_true (by omega)];rfl
theorem wi {l:List ae}{m:List Bytes}(hl:bC l=true)(hL:l.length≤1000000000)(hm:cn m=true)(d:Int)(w:Bool):∀(n a r f:Nat)(acc:List (Int×Int)),r≤n→n<f→acc.length+n≤1000000→a≤9223372036854775807→
 aq (dL (fun (y10:Int) (y11:Int) (y12:List Int) (y13:List Int)=>some (y12,y13,true)) (fun (y14:Int) (y15:Int) (y16:List Int) (y17:List Int) (y18:Bool) (y19:List Int) (y20:List Int)=>some (y16,y17,y18)) l d w ([]:List Int) ([]:List Int) false m) f ((a:Int),(r:Int),acc.map (·.1),acc.map (·.2))
  =match ei l m d w n a r with|some q=>some ((acc++q).map (·.1),(acc++q).map (·.2),true)|none=>some ([],[],false)
 |n,a,r,0,acc,_,hf,_,_=>by omega
 |0,a,r,f+1,acc,hr,hf,hA,ha=>by
  rw [aq]
  simp only [dL]
  rw [decide_eq_false (by omega)]
  simp [ei]
 |n+1,a,r,f+1,acc,hr,hf,hA,ha=>by
  have h64:=(mem_iff.1 hm).2
  rw [aq]
  simp only [dL,ei]
  by_cases h0:r=0
  ·rw [decide_eq_false (by omega),if_pos h0];simp
  ·have e1:Int.tdiv (a:Int) 128=((a/128:Nat):Int):=Cs a 128
   have e2:Int.tmod (a:Int) 128=((a%128:Nat):Int):=AE a 128
   have hin:=z8 hl d ((a/128:Nat):Int) w
   rw [decide_eq_true (show (r:Int)>0 by omega),decide_eq_true (show (a:Int)≥0 by omega),if_neg h0]
   simp only [cond_true]
   rw [if_neg (by omega),e1,e2,wrap64 (n:=((a/128:Nat):Int)) (by omega) (by omega),NB l _ _ w hL,ab,if_neg (by omega),wrap64 (n:=128-((a%128:Nat):Int)) (by omega) (by omega)]
   obtain ⟨c,hc⟩:∃c,min (128-a%128) r=c:=⟨_,rfl⟩
   rw [hc,show (if 128-((a%128:Nat):Int)<(r:Int) then 128-((a%128:Nat):Int) else (r:Int))=(c:Int) by split<;>omega]
   generalize hP:h9 l d ((a/128:Nat):Int) w=P at hin⊢
   by_cases hP0:0≤P
   ·have hin:=hin hP0
    rw [decide_eq_false (show¬P<0 by omega),wrap64 (n:=P*128) (by omega) (by omega),tC m _ _ (by omega),GJ hm hP0]
    simp only [cond_false,ab]
    by_cases hP1:P<(m.length:Int)
    ·rw [decide_eq_true hP1,if_pos ⟨hP0,hP1⟩]
     simp only [Bool.not_true,cond_false]
     rw [au (by simp;omega),au (by simp;omega),wrap64 (n:=P*128+((a%128:Nat):Int)) (by omega) (by omega),wrap64 (n:=(a:Int)+(c:Int)) (by omega) (by omega),wrap64 (n:=(r:Int)-(c:Int)) (by omega) (by omega)]
     have key:=wi hl hL hm d w n (a+c) (r-c) f (acc++[(P*128+((a%128:Nat):Int),(c:Int))]) (by omega) (by omega) (by simp;omega) (by omega)
     rw [show ((a+c:Nat):Int)=(a:Int)+(c:Int) by omega,show ((r-c:Nat):Int)=(r:Int)-(c:Int) by omega,List.map_append,List.map_append] at key
     refine Eq.trans key ?_
     cases ei l m d w n (a+c) (r-c) with
     |none=>rfl
     |some q=>simp
    ·rw [decide_eq_false hP1,if_neg (by omega)];rfl
   ·rw [if_neg (by omega),decide_eq_true (by omega)];rfl
def eh (l:List ae)(m:List Bytes)(d a n:Int)(w:Bool):List (Int×Int)×Bool:=
 bif bC l&&(cn m&&bn n 0 4096) then
  (bif n==0 then ([],true) else bif decide (a<0) then ([],false) else match ei l m d w n.toNat a.toNat n.toNat with|some q=>(q,true)|none=>([],false))
 else ([],false)
theorem Fw (l:List ae)(m:List Bytes)(d a n:Int)(w:Bool)(hl:l.length≤1000000000)(hm:m.length≤1000000000)(ha:a≤9223372036854775807):nE l m d a n w=some (eh l m d a n w):=by
 have hfu:=bz
 unfold nE eh
 simp only [vD l hl,uU m hm,bO,ab]
 cases hB:bC l with|false=>rfl|true=> ?_
 cases hM:cn m with|false=>rfl|true=> ?_
 cases hN:bn n 0 4096 with|false=>rfl|true=> ?_
 have hn:=bL.1 hN
 simp only [Bool.not_true,cond_false,ab,Bool.and_self,cond_true]
 cases h0:n==0 with|true=>rfl|false=> ?_
 by_cases hA:a<0
 ·rw [decide_eq_true hA];rfl
 ·rw [decide_eq_false hA]
  simp only [cond_false]
  obtain ⟨a,rfl⟩:=Int.eq_ofNat_of_zero_le (show 0≤a by omega)
  obtain ⟨n,rfl⟩:=Int.eq_ofNat_of_zero_le hn.1
  rw [vG hB hl hM d w n a n fuel [] (by omega) (by omega) (by simp;omega) (by omega)]
  simp only [Int.toNat_natCast]
  cases ei l m d w n a n<;>rfl
theorem Cm (l:List ae)(m:List Bytes)(d a n:Int)(w:Bool)(hl:l.length≤1000000000)(hm:m.length≤1000000000)(ha:a≤9223372036854775807):kb l m d a n w=some ((eh l m d a n w).1.map (·.1),(eh l m d a n w).1.map (·.2),(eh l m d a n w).2):=by
 have hfu:=bz
 unfold kb eh
 simp only [we l hl,sk m hm,bc,ab]
 cases hB:bC l with|false=>rfl|true=> ?_
 cases hM:cn m with|false=>rfl|true=> ?_
 cases hN:bn n 0 4096 with|false=>rfl|true=> ?_
 have hn:=bL.1 hN
 simp only [Bool.not_true,cond_false,ab,Bool.and_self,cond_true]
 obtain ⟨n,rfl⟩:=Int.eq_ofNat_of_zero_le hn.1
 cases h0:((n:Int)==0) with
 |true=>
  have:n=0:=by simpa using h0
  subst this
  obtain ⟨f,hf⟩:∃f,fuel=f+1:=⟨fuel-1,by omega⟩
  rw [hf,aq]
  rfl
 |false=>
  have hn0:n≠0:=by simpa using h0
  by_cases hA:a<0
  ·obtain ⟨f,hf⟩:∃f,fuel=f+1:=⟨fuel-1,by omega⟩
   rw [decide_eq_true hA,hf,aq]
   simp only [dL]
   rw [decide_eq_true (by omega),decide_eq_false (by omega)]
   rfl
  ·rw [decide_eq_false hA]
   simp only [cond_false]
   obtain ⟨a,rfl⟩:=Int.eq_ofNat_of_zero_le (show 0≤a by omega)
   refine Eq.trans (wi hB hl hM d w n a n fuel [] (by omega) (by omega) (by simp;omega) (by omega)) ?_
   simp only [Int.toNat_natCast]
   cases ei l m d w n a n<;>rfl
end
end Go.Pu
end
section
namespace Go.Pu
open Go.Dn
set_option linter.unusedSimpArgs false
set_option linter.unusedVariables false
noncomputable section
def J7 (a b:Int):Int:=(eJ a b).getD 0
theorem yf (a b:Int):eJ a b=some (J7 a b):=by
 unfold J7
 have:∃x,eJ a b=some x:=by
  simp only [eJ,bc,ab]
  cases bn a 0 65535<;>cases bn b 0 65535<;>cases decide (IntKind.wrap .i64 (a+b)>65535)<;>exact ⟨_,rfl⟩
 obtain ⟨x,hx⟩:=this
 rw [hx];rfl
theorem Fl (a b:Int):og a b=some (J7 a b):=yf a b
theorem O5 {a b:Int}(h:0≤a∧a≤65535)(k:0≤b∧b≤65535):0≤J7 a b∧J7 a b≤65535:=by
 have e:=yf a b
 simp only [eJ,bc,ab,bL.2 h,bL.2 k,Bool.not_true,cond_false] at e
 rw [wrap64 (n:=a+b) (by omega) (by omega)] at e
 by_cases hc:a+b>65535
 ·rw [decide_eq_true hc,cond_true,wrap64 (by omega) (by omega)] at e
  rw [←Option.some.inj e];omega
 ·rw [decide_eq_false hc,cond_false] at e
  rw [←Option.some.inj e];omega
def sw (s:Bytes):Nat→Int
 |0=>0
 |j+1=>J7 (sw s j) ((aR s (2*j)*256+aR s (2*j+1):Nat):Int)
theorem NI (s:Bytes):∀j,0≤sw s j∧sw s j≤65535
 |0=>by simp [sw]
 |j+1=>by
  have b0:=bB s (2*j)
  have b1:=bB s (2*j+1)
  exact O5 (NI s j) (by omega)
theorem yx {s:Bytes}{i:Nat}(h:s.length≤i):aR s i=0:=by
 unfold aR
 rw [List.getD_eq_getElem?_getD,List.getElem?_eq_none h];rfl
theorem P4 (s:Bytes)(h:s.length≤1000000000):nv s=some (sw s ((s.length+1)/2)):=by
 unfold nv
 refine ck (fun j=>(sw s j,((2*j:Nat):Int))) ((s.length+1)/2) (by omega) (fun j nx hj=> ?_) (fun nx=> ?_)
 ·have b0:=bB s (2*j)
  have b1:=bB s (2*j+1)
  obtain ⟨x,hx,ex⟩:=gD (s:=s) (i:=2*j) (by omega)
  simp only [js]
  rw [decide_eq_true (by omega),cond_true,hx,ab,if_neg (by omega),wrap64 (n:=((2*j:Nat):Int)+1) (by omega) (by omega),wrap64 (n:=((2*j:Nat):Int)+2) (by omega) (by omega),ex,eO (by omega)]
  have e8:min (Int.toNat 8) (IntKind.bits .i64)=8:=rfl
  have en:((2*j:Nat):Int)+2=((2*(j+1):Nat):Int):=by omega
  rw [e8,wrap64 (n:=((aR s (2*j):Nat):Int)*2^8) (by omega) (by omega)]
  by_cases hc:2*j+1<s.length
  ·obtain ⟨y,hy,ey⟩:=gD (s:=s) (i:=2*j+1) hc
   rw [decide_eq_true (by omega),cond_true,show ((2*j:Nat):Int)+1=((2*j+1:Nat):Int) by omega,hy,ab,ey,eO (n:=aR s (2*j+1)) (by omega),wrap64 (by omega) (by omega),yf,ab,en,show ((aR s (2*j):Nat):Int)*2^8+((aR s (2*j+1):Nat):Int)=((aR s (2*j)*256+aR s (2*j+1):Nat):Int) by omega];rfl
  ·have hz:=yx (s:=s) (i:=2*j+1) (by omega)
   rw [decide_eq_false (by omega),cond_false,yf,ab,en,show ((aR s (2*j):Nat):Int)*2^8=((aR s (2*j)*256+aR s (2*j+1):Nat):Int) by rw [hz];omega];rfl
 ·simp only [js]
  rw [decide_eq_false (by omega)];rfl
theorem Py (s:Bytes)(h:s.length≤1000000000):m5 s=some (sw s ((s.length+1)/2)):=by
 unfold m5
 refine ck (fun j=>(sw s j,((2*j:Nat):Int))) ((s.length+1)/2) (by omega) (fun j nx hj=> ?_) (fun nx=> ?_)
 ·have b0:=bB s (2*j)
  have b1:=bB s (2*j+1)
  obtain ⟨x,hx,ex⟩:=gD (s:=s) (i:=2*j) (by omega)
  simp only [iX]
  rw [decide_eq_true (by omega),cond_true,hx,ab,if_neg (by omega),wrap64 (n:=((2*j:Nat):Int)+1) (by omega) (by omega),wrap64 (n:=((2*j:Nat):Int)+2) (by omega) (by omega),ex,eO (by omega)]
  have e8:min (Int.toNat 8) (IntKind.bits .i64)=8:=rfl
  have en:((2*j:Nat):Int)+2=((2*(j+1):Nat):Int):=by omega
  rw [e8,show ((aR s (2*j):Nat):Int)*2^8=((2^8*aR s (2*j):Nat):Int) by omega,eO (n:=2^8*aR s (2*j)) (by omega)]
  by_cases hc:2*j+1<s.length
  ·obtain ⟨y,hy,ey⟩:=gD (s:=s) (i:=2*j+1) hc
   rw [decide_eq_true (by omega),cond_true,show ((2*j:Nat):Int)+1=((2*j+1:Nat):Int) by omega,hy,ab,ey,eO (n:=aR s (2*j+1)) (by omega),wV (aR s (2*j)) 8 (aR s (2*j+1)) (by omega) (by omega),Fl,ab,en,show 2^8*aR s (2*j)+aR s (2*j+1)=aR s (2*j)*256+aR s (2*j+1) by omega];rfl
  ·have hz:=yx (s:=s) (i:=2*j+1) (by omega)
   rw [decide_eq_false (by omega),cond_false,Fl,ab,en,show ((2^8*aR s (2*j):Nat):Int)=((aR s (2*j)*256+aR s (2*j+1):Nat):Int) by rw [hz];omega];rfl
 ·simp only [iX]
  rw [decide_eq_false (by omega)];rfl
def G3 (s:Bytes):Int:=65535-sw s ((s.length+1)/2)
theorem D5 (s:Bytes)(h:s.length≤1000000000):gW s=some (G3 s):=by
 have:=NI s ((s.length+1)/2)
 simp only [gW,P4 s h,ab]
 rw [wrap64 (by omega) (by omega)];rfl
theorem Jy (s:Bytes)(h:s.length≤1000000000):jI s=some (G3 s):=by
 have:=NI s ((s.length+1)/2)
 simp only [jI,Py s h,ab]
 rw [wrap64 (by omega) (by omega)];rfl
def vT (s:Bytes)(a:Int)(p:Bytes):Bytes:=bif bM s a (p.length:Int) then (s.take a.toNat++p)++s.drop (a.toNat+p.length) else s
theorem F2 (s:Bytes)(a:Int)(p:Bytes):(vT s a p).length=s.length:=by
 unfold vT
 cases hw:bM s a (p.length:Int) with
 |false=>rfl
 |true=>
  simp only [bM,decide_eq_true_eq] at hw
  simp only [cond_true,List.length_append,List.length_take,List.length_drop]
  omega
theorem F6 (s:Bytes)(a:Int)(p:Bytes)(h:s.length≤1000000000)(hw:bM s a (p.length:Int)=true):
 (aa (sub s 0 a) fun x2=>room (List.length x2+List.length p) (aa (sub s (IntKind.wrap .i64 (a+((List.length p:Int)))) ((List.length s:Int))) fun x3=>room (List.length (x2++p)+List.length x3) (some ((x2++p)++x3))))=some (vT s a p):=by
 have hw':=hw
 simp only [bM,decide_eq_true_eq] at hw'
 obtain ⟨n,rfl⟩:=Int.eq_ofNat_of_zero_le hw'.1
 have e1:sub s 0 (n:Int)=some (s.take n):=by unfold sub;rw [if_pos (by omega)];rfl
 have e2:sub s (((n+p.length:Nat):Int)) (s.length:Int)=some (s.drop (n+p.length)):=by
  unfold sub;rw [if_pos (by omega),Int.toNat_natCast,Int.toNat_natCast,List.take_length]
 rw [e1,wrap64 (by omega) (by omega),show (n:Int)+(p.length:Int)=((n+p.length:Nat):Int) by omega,e2,ab,au (by simp only [List.length_take];omega),ab,au (by simp only [List.length_append,List.length_take,List.length_drop];omega)]
 unfold vT
 rw [hw];rfl
theorem yg (s:Bytes)(a:Int)(p:Bytes)(h:s.length≤1000000000):cU s a p=some (vT s a p):=by
 unfold cU
 rw [tB s a _ h (by omega),ab]
 cases hw:bM s a (p.length:Int) with
 |false=>simp only [Bool.not_false,cond_true,vT,hw,cond_false]
 |true=>exact F6 s a p h hw
theorem Dw (s:Bytes)(a:Int)(p:Bytes)(h:s.length≤1000000000)(hp:p.length≤1000000000):gR s a p=some (vT s a p):=by
 unfold gR
 rw [wrap64 (n:=(s.length:Int)-(p.length:Int)) (by omega) (by omega)]
 cases hw:bM s a (p.length:Int) with
 |true=>
  have hw':=hw
  simp only [bM,decide_eq_true_eq] at hw'
  rw [decide_eq_false (show¬a<0 by omega),decide_eq_false (show¬a>(s.length:Int)-(p.length:Int) by omega)]
  exact F6 s a p h hw
 |false=>
  have hp:vT s a p=s:=by unfold vT;rw [hw];rfl
  rw [hp]
  simp only [bM,decide_eq_false_iff_not] at hw
  by_cases h0:a<0
  ·rw [decide_eq_true h0];rfl
  ·rw [decide_eq_false h0,decide_eq_true (show a>(s.length:Int)-(p.length:Int) by omega)];rfl
def Uz (x y:Int):Bytes:=bytesOf [x,y]
theorem CH (x y:Int):(Uz x y).length=2:=rfl
def rZ (a b k n:Int):Bool:=bn a 0 4294967295&&(bn b 0 4294967295&&(bn k 0 255&&bn n 0 65535))
def pM (a b k n:Int):Bytes:=((dD a++dD b)++Uz 0 (IntKind.wrap .u8 k))++bA n
theorem Cd (a b k n:Int):(pM a b k n).length≤12:=by
 have:=bF a
 have:=bF b
 have:=aF n
 simp only [pM,List.length_append,CH];omega
theorem u5 (a b k n:Int):eM a b k n=some (bif rZ a b k n then (pM a b k n,true) else ([],false)):=by
 have:=bF a
 have:=bF b
 have:=aF n
 unfold eM rZ
 simp only [bc,ab,mN,kQ]
 cases bn a 0 4294967295 with|false=>rfl|true=> ?_
 cases bn b 0 4294967295 with|false=>rfl|true=> ?_
 cases bn k 0 255 with|false=>rfl|true=> ?_
 cases bn n 0 65535 with|false=>rfl|true=> ?_
 simp only [Bool.not_true,cond_false,Bool.and_self,cond_true,ab]
 have e:(bytesOf [0,IntKind.wrap .u8 k]).length=2:=rfl
 rw [au (by omega),au (by simp only [List.length_append,e];omega),au (by simp only [List.length_append,e];omega)];rfl
theorem Hy (a b k n:Int):lz a b k n=some (bif rZ a b k n then (pM a b k n,true) else ([],false)):=u5 a b k n
def bare (g:a7):Bytes:=bif g.1==6 then
    (((((bA g.2.1++bA g.2.2.1)++dD g.2.2.2.1)++dD g.2.2.2.2.1)++Uz 80 (IntKind.wrap .u8 g.2.2.2.2.2.1))++bA g.2.2.2.2.2.2.1)++dD 0++g.2.2.2.2.2.2.2
 else (((bA g.2.1++bA g.2.2.1)++bA (8+(g.2.2.2.2.2.2.2.length:Int)))++bA 0)++g.2.2.2.2.2.2.2
theorem CF (g:a7):(bare g).length≤20+g.2.2.2.2.2.2.2.length:=by
 have:=aF g.2.1
 have:=aF g.2.2.1
 have:=bF g.2.2.2.1
 have:=bF g.2.2.2.2.1
 have:=aF g.2.2.2.2.2.2.1
 have:=bF 0
 have:=aF 0
 have:=aF (8+(g.2.2.2.2.2.2.2.length:Int))
 unfold bare
 cases g.1==6<;>simp only [cond_true,cond_false,List.length_append,CH]<;>omega
theorem LI:bA 0++bA 0=dD 0:=by rfl
theorem Mz (g:a7)(h:g.2.2.2.2.2.2.2.length≤1000000):ja g=some (bare g):=by
 have:=aF g.2.1
 have:=aF g.2.2.1
 have:=bF g.2.2.2.1
 have:=bF g.2.2.2.2.1
 have:=aF g.2.2.2.2.2.2.1
 have:=aF 0
 have:=aF (8+(g.2.2.2.2.2.2.2.length:Int))
 have e:∀x,(bytesOf [80,IntKind.wrap .u8 x]).length=2:=fun _=>rfl
 unfold ja bare
 rw [wrap64 (n:=8+(g.2.2.2.2.2.2.2.length:Int)) (by omega) (by omega)]
 simp only [o3,uV,ab]
 rw [au (by omega)]
 cases g.1==6 with
 |true=>
  simp only [cond_true]
  rw [au (by simp only [List.length_append,e];omega),au (by simp only [List.length_append,e];omega),au (by simp only [List.length_append,e];omega),au (by simp only [List.length_append,e];omega),au (by simp only [List.length_append,e];omega),au (by simp only [List.length_append,e];omega),au (by simp only [List.length_append,e];omega)]
  rw [←LI]
  simp only [Uz,List.append_assoc]
 |false=>
  simp only [cond_false]
  rw [au (by simp only [List.length_append];omega),au (by simp only [List.length_append];omega),au (by simp only [List.length_append];omega)]
def JX (a b:Int)(g:a7):Int:=bif (G3 (pM a b g.1 ((bare g).length:Int)++bare g)==0)&&(g.1==17) then 65535 else G3 (pM a b g.1 ((bare g).length:Int)++bare g)
def JQ (a b:Int)(g:a7):Bytes:=vT (bare g) (bif g.1==6 then 16 else 6) (bA (JX a b g))
def Ak (a b:Int)(g:a7):Bool:=u4 g&&rZ a b g.1 ((bare g).length:Int)
def sj (a b:Int)(g:a7):Bytes×Bool:=bif Ak a b g then (JQ a b g,true) else ([],false)
theorem vW {g:a7}(h:u4 g=true):g.2.2.2.2.2.2.2.length≤320:=by
 simp only [u4,Bool.and_eq_true,Bool.not_eq_true',decide_eq_false_iff_not] at h
 omega
theorem xA (a b:Int)(g:a7):eK a b g=some (sj a b g):=by
 unfold eK sj Ak
 rw [JS,ab]
 cases hg:u4 g with|false=>rfl|true=> ?_
 have hb:=vW hg
 have hl:=CF g
 have hp:=Cd a b g.1 ((bare g).length:Int)
 have:=aF g.2.1
 have:=aF g.2.2.1
 have:=bF g.2.2.2.1
 have:=bF g.2.2.2.2.1
 have:=aF g.2.2.2.2.2.2.1
 have:=bF 0
 have:=aF 0
 have:=aF (8+(g.2.2.2.2.2.2.2.length:Int))
 have e:∀x,(bytesOf [80,IntKind.wrap .u8 x]).length=2:=fun _=>rfl
 rw [wrap64 (n:=8+(g.2.2.2.2.2.2.2.length:Int)) (by omega) (by omega)]
 simp only [kQ,mN,ab,Bool.not_true,cond_false,Bool.true_and]
 rw [au (by omega)]
 cases h6:g.1==6 with
 |true=>
  have hbare:bare g=(((((bA g.2.1++bA g.2.2.1)++dD g.2.2.2.1)++dD g.2.2.2.2.1)++bytesOf [80,IntKind.wrap .u8 g.2.2.2.2.2.1])++bA g.2.2.2.2.2.2.1)++dD 0++g.2.2.2.2.2.2.2:=by unfold bare;rw [h6];rfl
  simp only [cond_true]
  rw [au (by simp only [List.length_append,e];omega),au (by simp only [List.length_append,e];omega),au (by simp only [List.length_append,e];omega),au (by simp only [List.length_append,e];omega),au (by simp only [List.length_append,e];omega),au (by simp only [List.length_append,e];omega),←hbare,u5,ab]
  cases rZ a b g.1 ((bare g).length:Int) with|false=>rfl|true=> ?_
  simp only [cond_true,Bool.not_true,cond_false]
  rw [au (by omega),D5 _ (by simp only [List.length_append];omega)]
  simp only [ab,aB,yg _ _ _ (show (bare g).length≤1000000000 by omega),JQ,JX,h6,cond_true,cF]
  cases (G3 (pM a b g.1 ((bare g).length:Int)++bare g)==0)&&(g.1==17)<;>rfl
 |false=>
  have hbare:bare g=(((bA g.2.1++bA g.2.2.1)++bA (8+(g.2.2.2.2.2.2.2.length:Int)))++bA 0)++g.2.2.2.2.2.2.2:=by unfold bare;rw [h6];rfl
  simp only [cond_false]
  rw [au (by simp only [List.length_append];omega),au (by simp only [List.length_append];omega),au (by simp only [List.length_append];omega),←hbare,u5,ab]
  cases rZ a b g.1 ((bare g).length:Int) with|false=>rfl|true=> ?_
  simp only [cond_true,Bool.not_true,cond_false]
  rw [au (by omega),D5 _ (by simp only [List.length_append];omega)]
  simp only [ab,aB,yg _ _ _ (show (bare g).length≤1000000000 by omega),JQ,JX,h6,cond_false,cF]
  cases (G3 (pM a b g.1 ((bare g).length:Int)++bare g)==0)&&(g.1==17)<;>rfl
theorem xl (a b:Int)(g:a7):eF a b g=some (sj a b g):=by
 unfold eF sj Ak
 rw [Jz,ab]
 cases hg:u4 g with|false=>rfl|true=> ?_
 have hb:=vW hg
 have hl:=CF g
 have hp:=Cd a b g.1 ((bare g).length:Int)
 have hsp:jM g.1=some (bif g.1==6 then 16 else 6):=by unfold jM;rw [aB]
 have w1:=aF 65535
 have w2:=aF (G3 (pM a b g.1 ((bare g).length:Int)++bare g))
 simp only [Mz g (by omega),Hy,ab,Bool.not_true,cond_false,Bool.true_and]
 cases rZ a b g.1 ((bare g).length:Int) with|false=>rfl|true=> ?_
 simp only [cond_true,Bool.not_true,cond_false]
 rw [au (by omega),Jy _ (by simp only [List.length_append];omega)]
 simp only [ab,aB,hsp,o3,Dw _ _ _ (show (bare g).length≤1000000000 by omega) (show (bA 65535).length≤1000000000 by omega),Dw _ _ _ (show (bare g).length≤1000000000 by omega) (show (bA (G3 (pM a b g.1 ((bare g).length:Int)++bare g))).length≤1000000000 by omega),JQ,JX,cF]
 rw [Bool.and_comm]
 cases (G3 (pM a b g.1 ((bare g).length:Int)++bare g)==0)&&(g.1==17)<;>rfl
theorem P2 (a b:Int)(g:a7):(sj a b g).1.length≤340:=by
 unfold sj
 cases h:Ak a b g with
 |false=>exact Nat.zero_le _
 |true=>
  simp only [Ak,Bool.and_eq_true] at h
  have:=vW h.1
  have:=CF g
  show (vT _ _ _).length≤340
  rw [F2];omega
end
end Go.Pu
end
section
namespace Go.Pu
open Go.Dn
set_option linter.unusedSimpArgs false
set_option linter.unusedVariables false
noncomputable section
theorem gQ (a:List Bytes)(h:a.length≤1073741824):cx a=some a:=by
 simp only [cx,dJ]
 rw [au (by simpa using h)];rfl
theorem mF (a:List Bytes)(h:a.length≤1073741824):cV a=some a:=by
 simp only [cV]
 rw [au (by simpa using h)];rfl
theorem Ho {α σ R:Type}(f:σ→α→σ)(fin:σ→Option R):∀(xs:List α)(s:σ),kW (fun x s k=>k (f s x)) fin xs s=fin (xs.foldl f s)
 |[],_=>rfl
 |x::xs,s=>by rw [kW,List.foldl_cons];exact Ho f fin xs (f s x)
end
end Go.Pu
end
section
namespace Go.Pu
open Go.Dn
set_option linter.unusedSimpArgs false
set_option linter.unusedVariables false
noncomputable section
def uy (x:Bytes)(o:Nat)(t:Bytes):Bytes:=x.take o++(t++x.drop (o+t.length))
theorem Lc {x:Bytes}{o:Nat}{t:Bytes}(h:o+t.length≤x.length):(uy x o t).length=x.length:=by
 simp only [uy,List.length_append,List.length_take,List.length_drop];omega
theorem Lg (x:Bytes)(o:Nat)(t:Bytes):bytesOf (qV (aL x) o (aL t))=uy x o t:=by
 have e:qV (aL x) o (aL t)=aL (uy x o t):=by
  simp only [qV,uy,aL,List.map_append,List.map_take,List.map_drop,List.length_map]
 rw [e,yy]
theorem Nm {x:Bytes}{o:Nat}{t:Bytes}(h:o+t.length≤x.length):vT x (o:Int) t=uy x o t:=by
 unfold vT bM
 rw [decide_eq_true ⟨by omega,by omega⟩]
 simp only [cond_true,Int.toNat_natCast,uy,List.append_assoc]
def pV:Nat→List Bytes→Nat→Bytes→List Bytes
 |0,m,_,_=>m
 |n+1,m,a,s=>if s.length=0 then m else
  pV n (m.set (a/128) (uy (m.getD (a/128) []) (a%128) (s.take (128-a%128)))) (a+min (128-a%128) s.length) (s.drop (128-a%128))
def rV (m:List Bytes):Prop:=(∀x∈m,x.length=128)∧m.length≤64
theorem ub {m:List Bytes}:cn m=true↔rV m:=mem_iff
theorem wX {m:List Bytes}{p:Nat}{x:Bytes}(h:rV m)(hx:x.length=128):rV (m.set p x):=by
 refine ⟨fun y hy=> ?_,by rw [List.length_set];exact h.2⟩
 rcases List.mem_or_eq_of_mem_set hy with g|g
 ·exact h.1 y g
 ·rw [g];exact hx
theorem vd {m:List Bytes}(h:rV m){a:Nat}{s:Bytes}(hs:s.length≠0)(ha:a+s.length≤128*m.length):
 ∃(hp:a/128<m.length),(m[a/128]'hp).length=128∧(uy (m[a/128]'hp) (a%128) (s.take (128-a%128))).length=128:=by
 have hp:a/128<m.length:=by omega
 have hl:=h.1 _ (List.getElem_mem hp)
 refine ⟨hp,hl, ?_⟩
 rw [Lc (by rw [List.length_take,hl];omega),hl]
theorem sy:∀(n:Nat){m:List Bytes}{a:Nat}{s:Bytes},rV m→a+s.length≤128*m.length→rV (pV n m a s)∧(pV n m a s).length=m.length
 |0,m,a,s,h,_=>⟨h,rfl⟩
 |n+1,m,a,s,h,ha=>by
  rw [pV]
  split
  ·exact ⟨h,rfl⟩
  ·rename_i hs
   obtain ⟨hp,hl,ho⟩:=vd h hs ha
   rw [br hp]
   have:=sy n (m:=m.set (a/128) (uy m[a/128] (a%128) (s.take (128-a%128)))) (a:=a+min (128-a%128) s.length) (s:=s.drop (128-a%128)) (wX h ho) (by rw [List.length_set,List.length_drop];omega)
   rw [List.length_set] at this
   exact this
theorem uv {R:Type}(K:Int→Bytes→List Bytes→Option R)(K':List Bytes→Option R)(hK:∀a m,K a [] m=K' m):∀(n:Nat)(m:List Bytes)(a:Nat)(s:Bytes)(f:Nat),s.length≤n→n<f→rV m→a+s.length≤128*m.length→
 aq (fb K ([]:List Bytes)) f ((a:Int),s,m)=K' (pV n m a s)
 |n,m,a,s,0,_,hf,_,_=>by omega
 |n,m,a,s,f+1,hs,hf,hm,ha=>by
  rw [aq]
  simp only [fb]
  by_cases h0:s.length=0
  ·have:s=[]:=List.eq_nil_of_length_eq_zero h0
   subst this
   rw [decide_eq_false (by simp),cond_false,hK]
   cases n<;>simp [pV]
  ·cases n with
   |zero=>omega
   |succ n=>
    obtain ⟨hp,hl,ho⟩:=vd hm h0 ha
    have h64:=hm.2
    have e1:Int.tdiv (a:Int) 128=((a/128:Nat):Int):=Cs a 128
    have e2:Int.tmod (a:Int) 128=((a%128:Nat):Int):=AE a 128
    rw [decide_eq_true (by omega),cond_true,if_neg (by omega),e1,e2,wrap64 (n:=((a/128:Nat):Int)) (by omega) (by omega),ay hp,ab,au (by omega),if_neg (by omega)]
    have hsub:sub (aL m[a/128]) ((a%128:Nat):Int) ((aL m[a/128]).length:Int)=some ((aL m[a/128]).drop (a%128)):=by
     rw [yh _ _ _ (by rw [vK];omega) (Nat.le_refl _),List.take_of_length_le (by rw [List.length_drop];exact Nat.le_refl _)]
    rw [hsub,ab,if_neg (by omega),ab,ab]
    have hd:((aL m[a/128]).drop (a%128)).length=128-a%128:=by rw [List.length_drop,vK,hl]
    rw [hd]
    have hdr:s.drop (min (128-a%128) s.length)=s.drop (128-a%128):=by
     by_cases h3:128-a%128≤s.length
     ·rw [Nat.min_eq_left h3]
     ·rw [Nat.min_eq_right (by omega),List.drop_of_length_le (Nat.le_refl _),List.drop_of_length_le (by omega)]
    have hsub2:sub s (((min (128-a%128) s.length:Nat)):Int) ((s.length:Int))=some (s.drop (128-a%128)):=by
     rw [←hdr];unfold sub;rw [if_pos (by omega)];simp
    rw [hsub2,ab,wrap64 (n:=(a:Int)+((min (128-a%128) s.length:Nat):Int)) (by omega) (by omega),Int.toNat_natCast,Int.toNat_natCast,Lg]
    rw [pV,if_neg h0,br hp,show (a:Int)+((min (128-a%128) s.length:Nat):Int)=((a+min (128-a%128) s.length:Nat):Int) by omega]
    exact uv K K' hK n _ _ _ f (by rw [List.length_drop];omega) (by omega) (wX hm ho) (by rw [List.length_set,List.length_drop];omega)
theorem uC {R:Type}(K:Int→Bytes→List Bytes→Option R)(K':List Bytes→Option R)(hK:∀a m,K a [] m=K' m):∀(n:Nat)(m:List Bytes)(a:Nat)(s:Bytes)(f:Nat),s.length≤n→n<f→rV m→a+s.length≤128*m.length→
 aq (fj K ([]:List Bytes)) f ((a:Int),s,m)=K' (pV n m a s)
 |n,m,a,s,0,_,hf,_,_=>by omega
 |n,m,a,s,f+1,hs,hf,hm,ha=>by
  rw [aq]
  simp only [fj]
  by_cases h0:s.length=0
  ·have:s=[]:=List.eq_nil_of_length_eq_zero h0
   subst this
   rw [decide_eq_false (by simp),cond_false,hK]
   cases n<;>simp [pV]
  ·cases n with
   |zero=>omega
   |succ n=>
    obtain ⟨hp,hl,ho⟩:=vd hm h0 ha
    have h64:=hm.2
    have e1:Int.tdiv (a:Int) 128=((a/128:Nat):Int):=Cs a 128
    have e2:Int.tmod (a:Int) 128=((a%128:Nat):Int):=AE a 128
    rw [decide_eq_true (by omega),cond_true,if_neg (by omega),if_neg (by omega),if_neg (by omega),e1,e2,wrap64 (n:=((a/128:Nat):Int)) (by omega) (by omega),wrap64 (n:=128-((a%128:Nat):Int)) (by omega) (by omega),ay hp,ab]
    obtain ⟨c,hc⟩:∃c,min (128-a%128) s.length=c:=⟨_,rfl⟩
    rw [show (if 128-((a%128:Nat):Int)<(s.length:Int) then 128-((a%128:Nat):Int) else (s.length:Int))=(c:Int) by split<;>omega]
    have ht:s.take c=s.take (128-a%128):=by
     by_cases h3:128-a%128≤s.length
     ·rw [←hc,Nat.min_eq_left h3]
     ·rw [←hc,Nat.min_eq_right (by omega),List.take_of_length_le (Nat.le_refl _),List.take_of_length_le (by omega)]
    have hdr:s.drop c=s.drop (128-a%128):=by
     by_cases h3:128-a%128≤s.length
     ·rw [←hc,Nat.min_eq_left h3]
     ·rw [←hc,Nat.min_eq_right (by omega),List.drop_of_length_le (Nat.le_refl _),List.drop_of_length_le (by omega)]
    have hs1:sub s 0 (c:Int)=some (s.take (128-a%128)):=by
     rw [←ht];unfold sub;rw [if_pos (by omega)];simp
    have hs2:sub s (c:Int) (s.length:Int)=some (s.drop (128-a%128)):=by
     rw [←hdr];unfold sub;rw [if_pos (by omega)];simp
    rw [hs1,ab,yg _ _ _ (by omega),ab,ab,ab,hs2,ab,Nm (by rw [List.length_take,hl];omega),wrap64 (n:=(a:Int)+(c:Int)) (by omega) (by omega),Int.toNat_natCast]
    rw [pV,if_neg h0,br hp,hc,show (a:Int)+(c:Int)=((a+c:Nat):Int) by omega]
    exact uC K K' hK n _ _ _ f (by rw [List.length_drop];omega) (by omega) (wX hm ho) (by rw [List.length_set,List.length_drop];omega)
def mz (m:List Bytes)(a:Int)(s:Bytes):List Bytes×Bool:=bif bS m a (s.length:Int) then (pV s.length m a.toNat s,true) else (m,false)
theorem HC (m:List Bytes)(a:Int)(s:Bytes)(h:m.length≤1000000000)(hs:s.length≤1000000000):iZ m a s=some (mz m a s):=by
 have hfu:=bz
 unfold iZ mz
 rw [gQ m (by omega),ab,s8 m _ _ h,ab]
 cases hw:bS m a (s.length:Int) with|false=>rfl|true=> ?_
 simp only [bS,Bool.and_eq_true,decide_eq_true_eq] at hw
 obtain ⟨a,rfl⟩:=Int.eq_ofNat_of_zero_le hw.2.2.1
 simp only [Bool.not_true,cond_false,cond_true,Int.toNat_natCast]
 exact uv _ (fun m=>some (m,true)) (fun _ _=>rfl) s.length m a s fuel (Nat.le_refl _) (by omega) (ub.1 hw.1) (by omega)
theorem Is (m:List Bytes)(a:Int)(s:Bytes)(h:m.length≤1000000000)(hs:s.length≤1000000000):ju m a s=some (mz m a s):=by
 have hfu:=bz
 unfold ju mz
 rw [mF m (by omega),ab,tC m _ _ h,ab]
 cases hw:bS m a (s.length:Int) with|false=>rfl|true=> ?_
 simp only [bS,Bool.and_eq_true,decide_eq_true_eq] at hw
 obtain ⟨a,rfl⟩:=Int.eq_ofNat_of_zero_le hw.2.2.1
 simp only [Bool.not_true,cond_false,cond_true,Int.toNat_natCast]
 exact uC _ (fun m=>some (m,true)) (fun _ _=>rfl) s.length m a s fuel (Nat.le_refl _) (by omega) (ub.1 hw.1) (by omega)
end
end Go.Pu
end
section
namespace Go.Pu
open Go.Dn
set_option linter.unusedSimpArgs false
set_option linter.unusedVariables false
noncomputable section
theorem tI (m:List Bytes)(a:Int)(s:Bytes):(mz m a s).1.length=m.length:=by
 unfold mz
 cases hw:bS m a (s.length:Int) with|false=>rfl|true=> ?_
 simp only [bS,Bool.and_eq_true,decide_eq_true_eq] at hw
 exact (sy s.length (ub.1 hw.1) (by omega)).2
def DS:List (Int×Int)→List Bytes→Bytes→List Bytes
 |[],m,_=>m
 |p::q,m,s=>DS q (mz m p.1 (s.take p.2.toNat)).1 (s.drop p.2.toNat)
theorem F3:∀(q:List (Int×Int))(m:List Bytes)(s:Bytes),(DS q m s).length=m.length
 |[],m,s=>rfl
 |p::q,m,s=>by rw [DS,F3 q,tI]
def xV (q:List (Int×Int)):Int:=(q.map (·.2)).sum
theorem JY:∀(q:List (Int×Int)),(∀p∈q,0≤p.2)→0≤xV q
 |[],_=>Int.le_refl _
 |p::q,h=>by
  have:=JY q (fun x hx=>h x (by simp [hx]))
  have:=h p (by simp)
  simp only [xV,List.map_cons,List.sum_cons] at*;omega
theorem F7 {p:Int×Int}{q:List (Int×Int)}(hc:∀x∈p::q,0≤x.2){s:Bytes}(hs:(s.length:Int)=xV (p::q)):0≤p.2∧p.2≤(s.length:Int)∧((s.drop p.2.toNat).length:Int)=xV q:=by
 have h1:=hc p (by simp)
 have h2:=JY q (fun x hx=>hc x (by simp [hx]))
 have h3:xV (p::q)=p.2+xV q:=by simp [xV]
 rw [h3] at hs
 refine ⟨h1,by omega, ?_⟩
 rw [List.length_drop];omega
theorem Cr {s:Bytes}{c:Int}(h0:0≤c)(h1:c≤(s.length:Int)):sub s 0 c=some (s.take c.toNat):=by
 unfold sub;rw [if_pos (by omega)];simp
theorem Gu {s:Bytes}{c:Int}(h0:0≤c)(h1:c≤(s.length:Int)):sub s c (s.length:Int)=some (s.drop c.toNat):=by
 unfold sub;rw [if_pos (by omega)];simp
theorem xk (K:Bytes→Int→List Bytes→Option (List Bytes×Bool))(hK:∀s i m,K s i m=some (m,true)):∀(rest pre:List (Int×Int))(m:List Bytes)(s:Bytes)(f:Nat),rest.length<f→pre.length+rest.length≤1000000→(∀x∈rest,0≤x.2)→(s.length:Int)=xV rest→m.length≤1000000000→s.length≤1000000→
 aq (nD K (pre++rest) ((pre++rest).length:Int) ([]:List Bytes)) f (s,(pre.length:Int),m)=some (DS rest m s,true)
 |rest,pre,m,s,0,hf,_,_,_,_,_=>by omega
 |[],pre,m,s,f+1,_,_,_,_,_,_=>by
  rw [aq]
  simp only [nD]
  rw [decide_eq_false (by simp),cond_false,hK];rfl
 |p::q,pre,m,s,f+1,hf,hn,hc,hs,hm,hl=>by
  obtain ⟨h1,h2,h3⟩:=F7 hc hs
  simp only [List.length_cons] at hf hn
  have hi:pre.length<(pre++p::q).length:=by simp
  have hp:(pre++p::q)[pre.length]=p:=by simp
  rw [aq]
  simp only [nD]
  rw [decide_eq_true (by simp;omega),ay hi,hp,wrap64 (by omega) (by omega)]
  simp only [cond_true,ab,Cr h1 h2,Gu h1 h2,HC m _ _ hm (show (s.take p.2.toNat).length≤1000000000 by rw [List.length_take];omega)]
  have key:=xk K hK q (pre++[p]) (mz m p.1 (s.take p.2.toNat)).1 (s.drop p.2.toNat) f (by omega) (by simp;omega) (fun x hx=>hc x (by simp [hx])) h3 (by rw [tI];exact hm) (by rw [List.length_drop];omega)
  have el:((pre++[p]).length:Int)=(pre.length:Int)+1:=by simp
  rw [List.append_assoc,List.singleton_append,el] at key
  rw [DS]
  exact key
theorem xz (K:Bytes→Int→List Bytes→Option (List Bytes×Bool))(hK:∀s i m,K s i m=some (m,true)):∀(rest pre:List (Int×Int))(m:List Bytes)(s:Bytes)(f:Nat),rest.length<f→pre.length+rest.length≤1000000→(∀x∈rest,0≤x.2)→(s.length:Int)=xV rest→m.length≤1000000000→s.length≤1000000→
 aq (fL K ((pre++rest).map (·.1)) ((pre++rest).map (·.2)) ([]:List Bytes)) f (s,(pre.length:Int),m)=some (DS rest m s,true)
 |rest,pre,m,s,0,hf,_,_,_,_,_=>by omega
 |[],pre,m,s,f+1,_,_,_,_,_,_=>by
  rw [aq]
  simp only [fL]
  rw [decide_eq_false (by simp),cond_false,hK];rfl
 |p::q,pre,m,s,f+1,hf,hn,hc,hs,hm,hl=>by
  obtain ⟨h1,h2,h3⟩:=F7 hc hs
  simp only [List.length_cons] at hf hn
  have hi:pre.length<(pre++p::q).length:=by simp
  have hp:(pre++p::q)[pre.length]=p:=by simp
  have i1:idx ((pre++p::q).map (·.1)) (pre.length:Int)=some p.1:=by rw [ay (by simp),List.getElem_map,hp]
  have i2:idx ((pre++p::q).map (·.2)) (pre.length:Int)=some p.2:=by rw [ay (by simp),List.getElem_map,hp]
  rw [aq]
  simp only [fL]
  rw [decide_eq_true (by simp;omega),i1,i2,wrap64 (by omega) (by omega)]
  simp only [cond_true,ab,Cr h1 h2,Gu h1 h2,Is m _ _ hm (show (s.take p.2.toNat).length≤1000000000 by rw [List.length_take];omega)]
  have key:=xz K hK q (pre++[p]) (mz m p.1 (s.take p.2.toNat)).1 (s.drop p.2.toNat) f (by omega) (by simp;omega) (fun x hx=>hc x (by simp [hx])) h3 (by rw [tI];exact hm) (by rw [List.length_drop];omega)
  have el:((pre++[p]).length:Int)=(pre.length:Int)+1:=by simp
  rw [List.append_assoc,List.singleton_append,el] at key
  rw [DS]
  exact key
theorem Ac (l:List ae)(m:List Bytes)(d:Int)(w:Bool):∀(n a r:Nat)(q:List (Int×Int)),r≤n→ei l m d w n a r=some q→xV q=(r:Int)∧(∀p∈q,0≤p.2)∧q.length≤n
 |0,a,r,q,hr,h=>by
  simp only [ei,Option.some.injEq] at h;subst h
  exact ⟨by show (0:Int)=_;omega,by simp,by simp⟩
 |n+1,a,r,q,hr,h=>by
  simp only [ei] at h
  split at h
  ·simp only [Option.some.injEq] at h;subst h
   exact ⟨by show (0:Int)=_;omega,by simp,by simp⟩
  ·split at h
   ·simp only [Option.map_eq_some_iff] at h
    obtain ⟨q',h1,rfl⟩:=h
    obtain ⟨i1,i2,i3⟩:=Ac l m d w n _ _ q' (by omega) h1
    refine ⟨?_, ?_,by simp only [List.length_cons];omega⟩
    ·simp only [xV,List.map_cons,List.sum_cons] at i1⊢
     rw [i1];omega
    ·intro p hp
     rcases List.mem_cons.1 hp with rfl|hp
     ·show (0:Int)≤((min (128-a%128) r:Nat):Int);omega
     ·exact i2 p hp
   ·cases h
theorem Ch (l:List ae)(m:List Bytes)(d a n:Int)(w:Bool)(h:(eh l m d a n w).2=true):xV (eh l m d a n w).1=n∧(∀p∈(eh l m d a n w).1,0≤p.2)∧(eh l m d a n w).1.length≤4096∧n≤4096:=by
 unfold eh at h⊢
 cases hB:bC l&&(cn m&&bn n 0 4096) with|false=>rw [hB] at h;simp at h|true=> ?_
 rw [hB] at h
 simp only [Bool.and_eq_true,bL] at hB
 simp only [cond_true] at h⊢
 cases h0:n==0 with
 |true=>
  have:n=0:=by simpa using h0
  subst this
  exact ⟨rfl,by simp,by simp,by omega⟩
 |false=>
  rw [h0] at h
  simp only [cond_false] at h⊢
  cases ha:decide (a<0) with
  |true=>rw [ha] at h;simp at h
  |false=>
   rw [ha] at h
   simp only [cond_false] at h⊢
   cases hq:ei l m d w n.toNat a.toNat n.toNat with
   |none=>rw [hq] at h;cases h
   |some q=>
    obtain ⟨i1,i2,i3⟩:=Ac l m d w _ _ _ q (Nat.le_refl _) hq
    exact ⟨by simp only;rw [i1];omega,i2,by simp only;omega,by omega⟩
def mA (l:List ae)(m:List Bytes)(d a:Int)(s:Bytes)(w:Bool):List Bytes×Bool:=
 bif (eh l m d a (s.length:Int) w).2 then (DS (eh l m d a (s.length:Int) w).1 m s,true) else (m,false)
theorem vU (l:List ae)(m:List Bytes)(d a:Int)(s:Bytes)(w:Bool):(mA l m d a s w).1.length=m.length:=by
 unfold mA
 cases (eh l m d a (s.length:Int) w).2 with
 |false=>rfl
 |true=>exact F3 _ _ _
theorem Fu (l:List ae)(m:List Bytes)(d a:Int)(s:Bytes)(w:Bool)(hl:l.length≤1000000000)(hm:m.length≤1000000000)(ha:a≤9223372036854775807):tc l m d a s w=some (mA l m d a s w):=by
 have hfu:=bz
 unfold tc mA
 rw [gQ m (by omega),ab,Fw l m d a _ w hl hm ha,ab]
 have hS:=Ch l m d a (s.length:Int) w
 generalize eh l m d a (s.length:Int) w=r at hS⊢
 cases hr:r.2 with|false=>rfl|true=> ?_
 obtain ⟨h1,h2,h3,h4⟩:=hS hr
 simp only [Bool.not_true,cond_false,cond_true]
 exact xk _ (fun _ _ _=>rfl) r.1 [] m s fuel (by omega) (by simp;omega) h2 h1.symm hm (by omega)
theorem wb (l:List ae)(m:List Bytes)(d a:Int)(s:Bytes)(hl:l.length≤1000000000)(hm:m.length≤1000000000)(ha:a≤9223372036854775807):jX l m d a s=some (mA l m d a s true):=by
 have hfu:=bz
 unfold jX mA
 rw [Cm l m d a _ true hl hm ha,ab,mF m (by omega),ab]
 have hS:=Ch l m d a (s.length:Int) true
 generalize eh l m d a (s.length:Int) true=r at hS⊢
 cases hr:r.2 with|false=>rfl|true=> ?_
 obtain ⟨h1,h2,h3,h4⟩:=hS hr
 simp only [Bool.not_true,cond_false,cond_true]
 exact xz _ (fun _ _ _=>rfl) r.1 [] m s fuel (by omega) (by simp;omega) h2 h1.symm hm (by omega)
theorem Ds (l:List ae)(m:List Bytes)(d a:Int)(s:Bytes)(hl:l.length≤1000000000)(hm:m.length≤1000000000)(ha:a≤9223372036854775807):mU l m d a s=some (mA l m d a s true):=by
 rw [mU,Fu l m d a s true hl hm ha];rfl
end
end Go.Pu
end
section
namespace Go.Pu
open Go.Dn
set_option linter.unusedSimpArgs false
set_option linter.unusedVariables false
noncomputable section
def OX (x:ae):ae:=(x.1,x.2.1,x.2.2.1,true)
theorem getD_map {l:List ae}{i:Nat}(hi:i<l.length):(l.map OX).getD i xO=OX (l.getD i xO):=by
 rw [br (by simpa using hi),br hi,List.getElem_map]
theorem DA (l:List ae):bC (l.map OX)=bC l:=by
 unfold bC
 rw [List.length_map]
 congr 1
 rw [Bool.eq_iff_iff,List.all_eq_true,List.all_eq_true]
 have key:∀i,i<l.length→zT (l.map OX) i=zT l i:=by
  intro i hi
  unfold zT
  rw [getD_map hi]
  congr 1
  rw [Bool.eq_iff_iff,List.all_eq_true,List.all_eq_true]
  constructor
  ·intro h j hj
   have hjl:j<l.length:=by have:=List.mem_range.1 hj;omega
   have:=h j hj
   rw [getD_map hjl] at this
   exact this
  ·intro h j hj
   have hjl:j<l.length:=by have:=List.mem_range.1 hj;omega
   rw [getD_map hjl]
   exact h j hj
 constructor
 ·intro h i hi;rw [←key i (List.mem_range.1 hi)];exact h i hi
 ·intro h i hi;rw [key i (List.mem_range.1 hi)];exact h i hi
theorem Nj (l:List ae)(d p:Int):h9 (l.map OX) d p true=h9 l d p false:=by
 unfold h9
 rw [List.findIdx?_map]
 have e:(uo d p true∘OX)=uo d p false:=by
  funext x
  simp only [Function.comp,uo,iJ,OX,Bool.not_false,Bool.or_true,Bool.true_or]
 rw [e]
 cases hf:l.findIdx? (uo d p false) with
 |none=>rfl
 |some i=>
  obtain ⟨hi,_⟩:=List.findIdx?_eq_some_iff_getElem.1 hf
  simp only [getD_map hi];rfl
theorem Cc (l:List ae)(m:List Bytes)(d:Int):∀n a r,ei (l.map OX) m d true n a r=ei l m d false n a r
 |0,a,r=>rfl
 |n+1,a,r=>by
  simp only [ei,Nj,Cc l m d n]
theorem PW (l:List ae)(m:List Bytes)(d a:Int)(s:Bytes):mA (l.map OX) m d a s true=mA l m d a s false:=by
 have e:eh (l.map OX) m d a (s.length:Int) true=eh l m d a (s.length:Int) false:=by
  simp only [eh,DA,Cc]
 simp only [mA,e]
theorem Bq (l:List ae)(m:List Bytes)(d a:Int)(s:Bytes)(hl:l.length≤1000000000)(hm:m.length≤1000000000)(ha:a≤9223372036854775807):mj l m d a s=some (mA l m d a s false):=by
 unfold mj
 refine ck (fun i=>((l.take i).map OX,(i:Int))) l.length (by omega) (fun i nx hi=> ?_) (fun nx=> ?_)
 ·simp only [ib]
  rw [decide_eq_true (by omega),ay hi,wrap64 (by omega) (by omega)]
  simp only [cond_true,ab]
  rw [au (by simp;omega),List.take_succ_eq_append_getElem hi,List.map_append];rfl
 ·simp only [ib]
  rw [decide_eq_false (by omega),cond_false,List.take_length,wb _ m d a s (by rw [List.length_map];exact hl) hm ha,PW];rfl
theorem Bc (l:List ae)(m:List Bytes)(d a:Int)(s:Bytes)(hl:l.length≤1000000000)(hm:m.length≤1000000000)(ha:a≤9223372036854775807):fz l m d a s=some (mA l m d a s false):=by
 rw [fz,Fu l m d a s false hl hm ha];rfl
def zj (d:Int×Int×Int×Int×Int×Int):Bool:=bn d.1 0 3&&(bn d.2.1 0 3&&(bn d.2.2.1 0 65535&&(bn d.2.2.2.2.1 0 65535&&(bn d.2.2.2.2.2 0 65535&&bn d.2.2.2.1 0 4294967295))))
theorem MA (d:Int×Int×Int×Int×Int×Int):p8 d=some (zj d):=by
 simp only [p8,bO,ab,zj]
 cases bn d.1 0 3<;>cases bn d.2.1 0 3<;>cases bn d.2.2.1 0 65535<;>cases bn d.2.2.2.2.1 0 65535<;>cases bn d.2.2.2.2.2 0 65535<;>rfl
theorem Nu (d:Int×Int×Int×Int×Int×Int):qu d=some (zj d):=by
 simp only [qu,bc,ab,zj]
 cases bn d.1 0 3<;>cases bn d.2.1 0 3<;>cases bn d.2.2.1 0 65535<;>cases bn d.2.2.2.2.1 0 65535<;>cases bn d.2.2.2.2.2 0 65535<;>rfl
def Hc (d:Int×Int×Int×Int×Int×Int):Bytes:=
 bif zj d then ((((bytesOf [IntKind.wrap .u8 d.1,IntKind.wrap .u8 d.2.1]++bA d.2.2.1)++dD d.2.2.2.1)++bA d.2.2.2.2.1)++bA d.2.2.2.2.2)++dD 0 else []
theorem P3 (d:Int×Int×Int×Int×Int×Int):kB d=some (Hc d):=by
 have h1:=aF d.2.2.1;have h2:=bF d.2.2.2.1;have h3:=aF d.2.2.2.2.1;have h4:=aF d.2.2.2.2.2;have h5:=bF 0
 have h0:(bytesOf [IntKind.wrap .u8 d.1,IntKind.wrap .u8 d.2.1]).length=2:=rfl
 unfold kB Hc
 rw [Nu,ab]
 cases zj d with|false=>rfl|true=> ?_
 simp only [Bool.not_true,cond_false,cond_true,kQ,mN,ab]
 rw [au (by omega),au (by simp only [List.length_append];omega),au (by simp only [List.length_append];omega),au (by simp only [List.length_append];omega),au (by simp only [List.length_append];omega)]
theorem Pw (d:Int×Int×Int×Int×Int×Int):kf d=some (Hc d):=by
 have h1:=aF d.2.2.1;have h2:=bF d.2.2.2.1;have h3:=aF d.2.2.2.2.1;have h4:=aF d.2.2.2.2.2;have h5:=bF 0
 have h0:(bytesOf [IntKind.wrap .u8 d.1,IntKind.wrap .u8 d.2.1]).length=2:=rfl
 unfold kf Hc
 rw [MA,ab]
 cases zj d with|false=>rfl|true=> ?_
 simp only [Bool.not_true,cond_false,cond_true,o3,uV,ab]
 rw [au (by omega),au (by simp only [List.length_append];omega),au (by simp only [List.length_append];omega),au (by simp only [List.length_append];omega),au (by simp only [List.length_append];omega)]
def mB (r:Int×Int×Int×Int):Int:=bif dV r then IntKind.wrap .i64 (r.2.1-nQ r) else 0
def pQ (r:Int×Int×Int×Int)(c:Int):Int:=bif !dV r||decide (c<0) then-1 else r.1+Int.tmod c r.2.1*16
theorem ud {r:Int×Int×Int×Int}(h:dV r=true):0≤r.1∧r.1≤130944∧(r.2.1=2∨r.2.1=4∨r.2.1=8∨r.2.1=16)∧0≤r.2.2.1∧r.2.2.1≤2*r.2.1-1∧0≤r.2.2.2∧r.2.2.2≤2*r.2.1-1:=by
 simp only [dV,Bool.and_eq_true,bL] at h
 exact ⟨h.1.1,h.1.2,eR.1 h.2.1,h.2.2.1.1,h.2.2.1.2,h.2.2.2.1.1,h.2.2.2.1.2⟩
theorem vY (r:Int×Int×Int×Int)(c:Int): -1≤pQ r c∧pQ r c≤200000:=by
 unfold pQ
 cases hc: !dV r||decide (c<0) with
 |true=>exact ⟨Int.le_refl _,by simp⟩
 |false=>
  simp only [Bool.or_eq_false_iff,Bool.not_eq_false',decide_eq_false_iff_not] at hc
  have h:=ud hc.1
  have h2:0≤Int.tmod c r.2.1∧Int.tmod c r.2.1<r.2.1:=by
   rw [Int.tmod_eq_emod_of_nonneg (by omega)]
   exact ⟨Int.emod_nonneg _ (by omega),Int.emod_lt_of_pos _ (by omega)⟩
  simp only [cond_false];omega
def bl (l:List ae)(m:List Bytes)(d:Int)(r:Int×Int×Int×Int)(s:Bytes):List Bytes×(Int×Int×Int×Int)×Bool:=
 bif (mB r==0)||((s.length:Int) !=16) then (m,r,false) else
 bif !(mA l m d (pQ r r.2.2.2) s true).2 then (m,r,false) else
 ((mA l m d (pQ r r.2.2.2) s true).1,(r.1,r.2.1,r.2.2.1,Int.tmod (r.2.2.2+1) (2*r.2.1)),true)
theorem Ce {l:List ae}{m:List Bytes}{d a:Int}{s:Bytes}{w:Bool}(h:(mA l m d a s w).2=false):(mA l m d a s w).1=m:=by
 unfold mA at h⊢
 cases hr:(eh l m d a (s.length:Int) w).2 with
 |false=>rfl
 |true=>rw [hr] at h;cases h
theorem w8 (r:Int×Int×Int×Int):jZ r=some (mB r):=by
 unfold jZ mB
 rw [tA,ab]
 cases dV r with|false=>rfl|true=> ?_
 simp only [Bool.not_true,cond_false,cond_true,Gq,ab]
theorem Lu (r:Int×Int×Int×Int)(c:Int):jo r c=some (pQ r c):=by
 have hin:=vY r c
 unfold jo
 rw [tA,ab]
 unfold pQ at hin⊢
 cases hb:dV r with|false=>rfl|true=> ?_
 have h:=ud hb
 by_cases hc:c<0
 ·rw [decide_eq_true hc];rfl
 ·rw [hb,decide_eq_false hc] at hin
  rw [decide_eq_false hc]
  have h2:0≤Int.tmod c r.2.1∧Int.tmod c r.2.1<r.2.1:=by
   rw [Int.tmod_eq_emod_of_nonneg (by omega)]
   exact ⟨Int.emod_nonneg _ (by omega),Int.emod_lt_of_pos _ (by omega)⟩
  simp only [Bool.not_true,cond_false,ab,Bool.or_self] at hin⊢
  rw [if_neg (by omega),wrap64 (n:=16*Int.tmod c r.2.1) (by omega) (by omega),wrap64 (by omega) (by omega)]
  congr 1;omega
theorem Gn (l:List ae)(m:List Bytes)(d:Int)(r:Int×Int×Int×Int)(s:Bytes)(hl:l.length≤1000000000)(hm:m.length≤1000000000):oC l m d r s=some (bl l m d r s):=by
 have hA:=vY r r.2.2.2
 unfold oC bl
 simp only [w8,ab,Lu,wb l m d _ s hl hm (show pQ r r.2.2.2≤9223372036854775807 by omega),mF m (show m.length≤1073741824 by omega)]
 cases hf:mB r==0 with|true=>rfl|false=> ?_
 cases (s.length:Int) !=16 with|true=>rfl|false=> ?_
 have hb:dV r=true:=by
  cases hb:dV r with
  |true=>rfl
  |false=>unfold mB at hf;rw [hb] at hf;cases hf
 have h:=ud hb
 simp only [cond_false,ab,Bool.or_self]
 cases hp:(mA l m d (pQ r r.2.2.2) s true).2 with
 |false=>simp only [Bool.not_false,cond_true,Ce hp]
 |true=>
  simp only [Bool.not_true,cond_false]
  rw [wrap64 (n:=2*r.2.1) (by omega) (by omega),if_neg (by omega),wrap64 (n:=r.2.2.2+1) (by omega) (by omega)]
theorem Ky (r:Int×Int×Int×Int):mZ r=some (mB r):=by
 unfold mZ mB
 rw [s7,ab]
 cases dV r with|false=>rfl|true=> ?_
 simp only [Bool.not_true,cond_false,cond_true,Fx,ab]
theorem KE (r:Int×Int×Int×Int)(c:Int):iV r c=some (pQ r c):=by
 have hin:=vY r c
 unfold iV
 rw [s7,ab]
 unfold pQ at hin⊢
 cases hb:dV r with|false=>rfl|true=> ?_
 have h:=ud hb
 by_cases hc:c<0
 ·rw [decide_eq_true hc];rfl
 ·rw [hb,decide_eq_false hc] at hin
  rw [decide_eq_false hc]
  have h2:0≤Int.tmod c r.2.1∧Int.tmod c r.2.1<r.2.1:=by
   rw [Int.tmod_eq_emod_of_nonneg (by omega)]
   exact ⟨Int.emod_nonneg _ (by omega),Int.emod_lt_of_pos _ (by omega)⟩
  simp only [Bool.not_true,cond_false,ab,Bool.or_self] at hin⊢
  rw [if_neg (by omega),wrap64 (n:=Int.tmod c r.2.1*16) (by omega) (by omega),wrap64 (by omega) (by omega)]
theorem Fv (l:List ae)(m:List Bytes)(d:Int)(r:Int×Int×Int×Int)(s:Bytes)(hl:l.length≤1000000000)(hm:m.length≤1000000000):oo l m d r s=some (bl l m d r s):=by
 have hA:=vY r r.2.2.2
 unfold oo bl
 simp only [Ky,ab,KE,Ds l m d _ s hl hm (show pQ r r.2.2.2≤9223372036854775807 by omega),gQ m (show m.length≤1073741824 by omega)]
 cases hf:mB r==0 with|true=>rfl|false=> ?_
 cases (s.length:Int) !=16 with|true=>rfl|false=> ?_
 have hb:dV r=true:=by
  cases hb:dV r with
  |true=>rfl
  |false=>unfold mB at hf;rw [hb] at hf;cases hf
 have h:=ud hb
 simp only [cond_false,ab,Bool.or_self]
 cases hp:(mA l m d (pQ r r.2.2.2) s true).2 with
 |false=>simp only [Bool.not_false,cond_true,Ce hp]
 |true=>
  simp only [Bool.not_true,cond_false]
  rw [wrap64 (n:=2*r.2.1) (by omega) (by omega),if_neg (by omega),wrap64 (n:=r.2.2.2+1) (by omega) (by omega)]
end
end Go.Pu
end
section
namespace Go.Pu
open Go.Dn
set_option linter.unusedSimpArgs false
set_option linter.unusedVariables false
noncomputable section
theorem uc {p:aD}(h:cd p=true):0≤p.1∧p.1≤130944∧1≤p.2.1∧p.2.1≤512∧0≤p.2.2.1∧p.2.2.1≤16:=by
 simp only [cd,Bool.and_eq_true,bL] at h
 exact ⟨h.1.1,h.1.2,h.2.1.1,h.2.1.2,h.2.2.1.1,h.2.2.1.2⟩
def oU (p:aD)(i:Int):Int:=bif !cd p|| !bn i 0 (p.2.2.1-1) then-1 else p.1+i*p.2.1
def af5 (p:aD)(i:Int):Option Int:=some (IntKind.wrap .i64 (p.1+IntKind.wrap .i64 (i*p.2.1)))
theorem IT {p:aD}{i:Int}(hp:cd p=true)(hi:bn i 0 (p.2.2.1-1)=true):IntKind.wrap .i64 (p.1+IntKind.wrap .i64 (i*p.2.1))=p.1+i*p.2.1:=by
 have h:=uc hp
 have h2:=bL.1 hi
 have h3:0≤i*p.2.1:=Int.mul_nonneg h2.1 (by omega)
 have h4:i*p.2.1≤16*512:=Int.mul_le_mul (by omega) (by omega) (by omega) (by omega)
 rw [wrap64 (n:=i*p.2.1) (by omega) (by omega),wrap64 (by omega) (by omega)]
theorem Gg (p:aD)(i:Int)(h:p.2.2.2.length≤1000000000):dW p i=some (oU p i):=by
 unfold dW oU
 rw [md p h,ab]
 cases hp:cd p with|false=>rfl|true=> ?_
 have hin:=uc hp
 rw [wrap64 (n:=p.2.2.1-1) (by omega) (by omega),bc]
 cases hi:bn i 0 (p.2.2.1-1) with|false=>rfl|true=> ?_
 simp only [Bool.not_true,cond_false,ab,Bool.or_self,IT hp hi]
theorem Fo (p:aD)(i:Int)(h:p.2.2.2.length≤1000000000):dN p i=some (oU p i):=by
 unfold dN oU
 rw [nC p h,ab]
 cases hp:cd p with|false=>rfl|true=> ?_
 have hin:=uc hp
 rw [wrap64 (n:=p.2.2.1-1) (by omega) (by omega),bO]
 cases hi:bn i 0 (p.2.2.1-1) with|false=>rfl|true=> ?_
 simp only [Bool.not_true,cond_false,ab,Bool.or_self,IT hp hi]
def upto (n:Nat):List Int:=(List.range n).map Int.ofNat
theorem Cx (n:Nat):upto (n+1)=upto n++[(n:Int)]:=by simp [upto,List.range_succ]
theorem OV {n i:Nat}(h:i<n):(upto n).getD i 0=(i:Int):=by
 rw [br (by simpa [upto] using h)];simp [upto]
theorem Ia (a b:Int)(n:Nat)(hn:n≤16):cd (a,b,(n:Int),upto n)=cd (a,b,(n:Int),[]):=by
 unfold cd
 congr 3
 have h1:(List.range (upto n).length).all (zC (n:Int) (upto n))=true:=by
  rw [List.all_eq_true]
  intro i hi
  have hi:i<n:=by simpa [upto] using hi
  simp only [zC,OV hi,Bool.and_eq_true,bL,Bool.not_eq_true']
  refine ⟨by omega, ?_⟩
  rw [Bool.eq_false_iff,ne_eq,List.contains_iff_mem]
  intro hm
  simp only [upto,←List.map_take,List.mem_map] at hm
  obtain ⟨j,hj,he⟩:=hm
  rw [List.take_range] at hj
  have:=List.mem_range.1 hj
  have:(j:Int)=(i:Int):=he
  omega
 rw [h1];rfl
def dU (a b n:Int):aD×Bool:=bif cd (a,b,n,[]) then ((a,b,n,upto n.toNat),true) else ((0,0,0,[]),false)
theorem xj (a b n:Int):lv a b n=some (dU a b n):=by
 unfold lv dU
 rw [nC _ (by simp),ab]
 cases hp:cd (a,b,n,[]) with|false=>rfl|true=> ?_
 have hin:=uc hp
 obtain ⟨n,rfl⟩:=Int.eq_ofNat_of_zero_le (show 0≤n from hin.2.2.2.2.1)
 have h16:n≤16:=by have:=hin.2.2.2.2.2;simp only at this;omega
 simp only [Bool.not_true,cond_false,cond_true,Int.toNat_natCast]
 refine ck (fun i=>((i:Int),a,b,(n:Int),upto i)) n (by omega) (fun i nx hi=> ?_) (fun nx=> ?_)
 ·simp only [kh]
  rw [decide_eq_true (by omega),au (by simp [upto];omega),wrap64 (by omega) (by omega),Cx];rfl
 ·simp only [kh]
  rw [decide_eq_false (by omega)];rfl
theorem xy (a b n:Int):ml a b n=some (dU a b n):=by
 have hfu:=bz
 unfold ml dU
 by_cases hn:0≤n∧n≤16
 ·obtain ⟨n,rfl⟩:=Int.eq_ofNat_of_zero_le hn.1
  have h16:n≤16:=by omega
  refine ck (fun i=>((i:Int),a,b,(n:Int),upto i)) n (by omega) (fun i nx hi=> ?_) (fun nx=> ?_)
  ·simp only [gK]
   rw [decide_eq_true (show (i:Int)<n by omega),decide_eq_true (show (n:Int)≤16 by omega)]
   simp only [cond_true,ab]
   rw [au (by simp [upto];omega),wrap64 (by omega) (by omega),Cx];rfl
  ·simp only [gK]
   rw [decide_eq_false (show¬(n:Int)<n by omega)]
   simp only [cond_false,ab,md (a,b,(n:Int),upto n) (show (upto n).length≤1000000000 by simp [upto];omega),Ia a b n h16,Int.toNat_natCast]
   cases cd (a,b,(n:Int),[])<;>rfl
 ·have hb:cd (a,b,n,[])=false:=by
   cases hp:cd (a,b,n,[]) with
   |false=>rfl
   |true=>have:=uc hp;exact absurd ⟨this.2.2.2.2.1,this.2.2.2.2.2⟩ hn
  obtain ⟨f,hf⟩:∃f,fuel=f+1:=⟨fuel-1,by omega⟩
  rw [hf,aq]
  simp only [gK]
  have hc:(cond (decide ((0:Int)<n)) (some (decide (n≤16))) (some false))=some false:=by
   by_cases h0:(0:Int)<n
   ·rw [decide_eq_true h0,decide_eq_false (by omega)];rfl
   ·rw [decide_eq_false h0];rfl
  rw [hc]
  simp only [ab,cond_false,md (a,b,n,[]) (show ([]:List Int).length≤1000000000 by simp),hb];rfl
def descOf (p:aD)(b:Int):Bytes:=Hc (3,0,p.2.1,oU p b,0,b)
def gC (l:List ae)(d:Int)(p:aD):List Int→List Bytes→(Int×Int×Int×Int)→Nat×List Bytes×(Int×Int×Int×Int)
 |[],m,r=>(0,m,r)
 |b::q,m,r=>bif (bl l m d r (descOf p b)).2.2 then
   ((gC l d p q (bl l m d r (descOf p b)).1 (bl l m d r (descOf p b)).2.1).1+1,(gC l d p q (bl l m d r (descOf p b)).1 (bl l m d r (descOf p b)).2.1).2)
  else (0,m,r)
theorem se (l:List ae)(m:List Bytes)(d:Int)(r:Int×Int×Int×Int)(s:Bytes):(bl l m d r s).1.length=m.length:=by
 unfold bl
 cases (mB r==0)||((s.length:Int) !=16) with|true=>rfl|false=> ?_
 cases (mA l m d (pQ r r.2.2.2) s true).2 with
 |false=>rfl
 |true=>exact vU ..
theorem wG (l:List ae)(d:Int)(p:aD):∀(q:List Int)(m:List Bytes)(r:Int×Int×Int×Int),(gC l d p q m r).2.1.length=m.length∧(gC l d p q m r).1≤q.length
 |[],m,r=>⟨rfl,Nat.le_refl _⟩
 |b::q,m,r=>by
  rw [gC]
  cases (bl l m d r (descOf p b)).2.2 with
  |false=>exact ⟨rfl,Nat.zero_le _⟩
  |true=>
   have:=wG l d p q (bl l m d r (descOf p b)).1 (bl l m d r (descOf p b)).2.1
   simp only [cond_true,List.length_cons]
   exact ⟨by rw [this.1,se],by omega⟩
end
end Go.Pu
end
section
namespace Go.Pu
open Go.Dn
set_option linter.unusedSimpArgs false
set_option linter.unusedVariables false
noncomputable section
theorem Mn (r:Int×Int×Int×Int):0≤mB r:=by
 unfold mB
 cases hb:dV r with
 |false=>exact Int.le_refl _
 |true=>
  have h:=ud hb
  simp only [dV,Bool.and_eq_true,decide_eq_true_eq] at hb
  have hu:=hb.2.2.2.2
  have h0:0≤nQ r:=by
   unfold nQ
   split
   ·exact Int.emod_nonneg _ (by omega)
   ·exact Int.le_refl _
  simp only [cond_true]
  rw [wrap64 (by omega) (by omega)];omega
theorem DU {l:List ae}{m:List Bytes}{d:Int}{r:Int×Int×Int×Int}{s:Bytes}(h:¬mB r>0):bl l m d r s=(m,r,false):=by
 have h0:=Mn r
 have:mB r=0:=by omega
 unfold bl
 rw [this];rfl
theorem vC {R:Type}(K:Int→Int→(Int×Int×Int×Int)→List Bytes→Option R)(K':Nat→(Int×Int×Int×Int)→List Bytes→Option R)(hK:∀(c:Nat) i r m,K (c:Int) i r m=K' c r m)(l:List ae)(d:Int)(p p2 p3:aD)(hp:p.2.2.2.length≤1000000000)(hl:l.length≤1000000000):∀(rest pre:List Int)(m:List Bytes)(r:Int×Int×Int×Int)(f:Nat),rest.length<f→pre.length+rest.length≤1000000000→m.length≤1000000000→
 aq (fw K l d (pre++rest) ((pre++rest).length:Int) p ([]:List Bytes) (0,0,0,0) p2 p3) f ((pre.length:Int),(pre.length:Int),r,m)=K' (pre.length+(gC l d p rest m r).1) (gC l d p rest m r).2.2 (gC l d p rest m r).2.1
 |rest,pre,m,r,0,hf,_,_=>by omega
 |[],pre,m,r,f+1,_,_,_=>by
  rw [aq]
  simp only [fw]
  rw [decide_eq_false (by simp),cond_false,hK];rfl
 |b::q,pre,m,r,f+1,hf,hn,hm=>by
  simp only [List.length_cons] at hf hn
  have hi:pre.length<(pre++b::q).length:=by simp
  have hb:(pre++b::q)[pre.length]=b:=by simp
  rw [aq]
  simp only [fw]
  rw [decide_eq_true (by simp;omega),ay hi,hb]
  simp only [cond_true,ab,Fo p b hp,Pw,Fv l m d r _ hl hm]
  rw [show Hc (3,0,p.2.1,oU p b,0,b)=descOf p b from rfl,gC]
  cases hq:(bl l m d r (descOf p b)).2.2 with
  |false=>simp only [Bool.not_false,cond_true,cond_false,hK,Nat.add_zero]
  |true=>
   simp only [Bool.not_true,cond_false,cond_true]
   rw [wrap64 (n:=(pre.length:Int)+1) (by omega) (by omega)]
   have key:=vC K K' hK l d p p2 p3 hp hl q (pre++[b]) (bl l m d r (descOf p b)).1 (bl l m d r (descOf p b)).2.1 f (by omega) (by simp;omega) (by rw [se];exact hm)
   have el:((pre++[b]).length:Int)=(pre.length:Int)+1:=by simp
   have el2:(pre++[b]).length=pre.length+1:=by simp
   rw [List.append_assoc,List.singleton_append,el,el2] at key
   rw [show pre.length+((gC l d p q (bl l m d r (descOf p b)).1 (bl l m d r (descOf p b)).2.1).1+1)=pre.length+1+(gC l d p q (bl l m d r (descOf p b)).1 (bl l m d r (descOf p b)).2.1).1 by omega]
   exact key
theorem wc {R:Type}(K:Int→(Int×Int×Int×Int)→List Bytes→aD→Option R)(l:List ae)(d:Int)(p p2:aD)(hp:p.2.2.2.length≤1000000000)(hl:l.length≤1000000000)(A B C:Int):∀(rest:List Int)(c:Nat)(m:List Bytes)(r:Int×Int×Int×Int)(f:Nat),rest.length<f→c+rest.length≤1000000000→m.length≤1000000000→
 aq (fM K l d p ([]:List Bytes) (0,0,0,0) p2) f ((c:Int),r,m,A,B,C,rest)=K ((c+(gC l d p rest m r).1:Nat):Int) (gC l d p rest m r).2.2 (gC l d p rest m r).2.1 (A,B,C,rest.drop (gC l d p rest m r).1)
 |rest,c,m,r,0,hf,_,_=>by omega
 |[],c,m,r,f+1,_,_,_=>by
  rw [aq]
  simp only [fM,w8,ab]
  have hc:(cond (decide (mB r>0)) (some (decide ((([]:List Int).length:Int)>0))) (some false))=some false:=by cases decide (mB r>0)<;>rfl
  rw [hc];rfl
 |b::q,c,m,r,f+1,hf,hn,hm=>by
  simp only [List.length_cons] at hf hn
  rw [aq]
  simp only [fM,w8,ab]
  by_cases hr:mB r>0
  ·rw [decide_eq_true hr,decide_eq_true (show (((b::q).length:Nat):Int)>0 by simp)]
   have hi:idx (b::q) 0=some b:=rfl
   have hs:sub (b::q) 1 ((b::q).length:Int)=some q:=by
    unfold sub;rw [if_pos (by simp;omega)];simp
   simp only [cond_true,ab,hi,Gg p b hp,P3,Gn l m d r _ hl hm]
   rw [show Hc (3,0,p.2.1,oU p b,0,b)=descOf p b from rfl,gC]
   cases hq:(bl l m d r (descOf p b)).2.2 with
   |false=>rfl
   |true=>
    simp only [Bool.not_true,cond_false,cond_true,hs,ab]
    rw [bW (by omega),wrap64 (n:=(c:Int)+1) (by omega) (by omega),List.nil_append]
    have key:=wc K l d p p2 hp hl A B C q (c+1) (bl l m d r (descOf p b)).1 (bl l m d r (descOf p b)).2.1 f (by omega) (by omega) (by rw [se];exact hm)
    rw [show ((c+1:Nat):Int)=(c:Int)+1 by omega] at key
    refine Eq.trans key ?_
    rw [show c+1+(gC l d p q (bl l m d r (descOf p b)).1 (bl l m d r (descOf p b)).2.1).1=c+((gC l d p q (bl l m d r (descOf p b)).1 (bl l m d r (descOf p b)).2.1).1+1) by omega]
    rfl
  ·rw [decide_eq_false hr,gC,DU hr]
   rfl
def oY (l:List ae)(m:List Bytes)(d:Int)(r:Int×Int×Int×Int)(p:aD):List Bytes×(Int×Int×Int×Int)×aD×Int:=
 bif !dV r|| !cd p then (m,r,p,0) else
 ((gC l d p p.2.2.2 m r).2.1,(gC l d p p.2.2.2 m r).2.2,(p.1,p.2.1,p.2.2.1,p.2.2.2.drop (gC l d p p.2.2.2 m r).1),((gC l d p p.2.2.2 m r).1:Int))
theorem Fp (l:List ae)(m:List Bytes)(d:Int)(r:Int×Int×Int×Int)(p:aD)(hl:l.length≤1000000000)(hm:m.length≤1000000000)(hp:p.2.2.2.length≤1000000000):cD l m d r p=some (oY l m d r p):=by
 have hfu:=bz
 unfold cD oY
 simp only [gQ m (show m.length≤1073741824 by omega),nB p hp,s7,nC p hp,ab]
 cases dV r with|false=>rfl|true=> ?_
 cases cd p with|false=>rfl|true=> ?_
 simp only [Bool.not_true,cond_false,ab,Bool.or_self]
 have hlen:=(wG l d p p.2.2.2 m r).2
 refine (vC _ (fun c r m=>aa (sub p.2.2.2 (c:Int) (p.2.2.2.length:Int)) fun x14=>aa (cu x14) fun r15=>some (m,r,(p.1,p.2.1,p.2.2.1,r15),(c:Int))) (fun _ _ _ _=>rfl) l d p _ p hp hl p.2.2.2 [] m r fuel (by omega) (by simp;omega) hm).trans ?_
 rw [List.length_nil,Nat.zero_add,yh _ _ _ hlen (Nat.le_refl _),ab,List.take_of_length_le (by rw [List.length_drop];exact Nat.le_refl _),ik _ (by rw [List.length_drop];omega)];rfl
theorem Gi (l:List ae)(m:List Bytes)(d:Int)(r:Int×Int×Int×Int)(p:aD)(hl:l.length≤1000000000)(hm:m.length≤1000000000)(hp:p.2.2.2.length≤1000000000):jY l m d r p=some (oY l m d r p):=by
 have hfu:=bz
 unfold jY oY
 simp only [mF m (show m.length≤1073741824 by omega),pc p hp,tA,md p hp,ab]
 cases dV r with|false=>rfl|true=> ?_
 cases cd p with|false=>rfl|true=> ?_
 simp only [Bool.not_true,cond_false,ab,Bool.or_self]
 refine (wc _ l d p _ hp hl p.1 p.2.1 p.2.2.1 p.2.2.2 0 m r fuel (by omega) (by omega) hm).trans ?_
 rw [Nat.zero_add]
end
end Go.Pu
end
section
namespace Go.Pu
open Go.Dn
set_option linter.unusedSimpArgs false
set_option linter.unusedVariables false
noncomputable section
theorem Ab (l:List ae)(m:List Bytes)(d:Int)(w:Bool):∀(n a r:Nat)(q:List (Int×Int)),ei l m d w n a r=some q→q.length≤n
 |0,a,r,q,h=>by simp only [ei,Option.some.injEq] at h;subst h;simp
 |n+1,a,r,q,h=>by
  simp only [ei] at h
  split at h
  ·simp only [Option.some.injEq] at h;subst h;simp
  ·split at h
   ·simp only [Option.map_eq_some_iff] at h
    obtain ⟨q',h1,rfl⟩:=h
    have:=Ab l m d w n _ _ q' h1
    simp only [List.length_cons];omega
   ·cases h
theorem w5 (l:List ae)(m:List Bytes)(d a n:Int)(w:Bool):(eh l m d a n w).1.length≤4096:=by
 unfold eh
 cases hB:bC l&&(cn m&&bn n 0 4096) with|false=>simp|true=> ?_
 simp only [Bool.and_eq_true,bL] at hB
 simp only [cond_true]
 cases n==0 with|true=>simp|false=> ?_
 cases decide (a<0) with|true=>simp|false=> ?_
 simp only [cond_false]
 split
 ·rename_i q hq
  have:=Ab _ _ _ _ _ _ _ _ hq
  show q.length≤4096
  omega
 ·simp
def gU (m:List Bytes)(p:Int×Int):Bytes:=bif bS m p.1 p.2 then oa m p.1.toNat p.2.toNat else []
theorem qG (m:List Bytes)(p:Int×Int):(gU m p).length≤8192:=by
 unfold gU
 cases h:bS m p.1 p.2 with
 |false=>simp
 |true=>
  simp only [bS,Bool.and_eq_true,decide_eq_true_eq] at h
  have:=Np m p.1.toNat p.2.toNat
  have:=(mem_iff.1 h.1).2
  simp only [cond_true]
  omega
theorem mc (m:List Bytes):∀q:List (Int×Int),(q.flatMap (gU m)).length≤8192*q.length
 |[]=>by simp
 |p::q=>by
  have:=mc m q
  have:=qG m p
  simp only [List.flatMap_cons,List.length_append,List.length_cons];omega
def oc (l:List ae)(m:List Bytes)(d a n:Int):Bytes×Bool:=
 bif (eh l m d a n false).2 then ((eh l m d a n false).1.flatMap (gU m),true) else ([],false)
theorem vt {α β:Type}(g:α→List β)(l:List α)(i:Nat)(hi:i<l.length):(l.take (i+1)).flatMap g=(l.take i).flatMap g++g l[i]:=by
 rw [List.take_succ_eq_append_getElem hi,List.flatMap_append];simp
theorem xi (l:List ae)(m:List Bytes)(d a n:Int)(hl:l.length≤1000000000)(hm:m.length≤1000000000)(ha:a≤9223372036854775807):lr l m d a n=some (oc l m d a n):=by
 unfold lr oc
 rw [Fw l m d a n false hl hm ha,ab]
 have hL:=w5 l m d a n false
 generalize eh l m d a n false=r at hL⊢
 cases hr:r.2 with|false=>rfl|true=> ?_
 simp only [Bool.not_true,cond_false,cond_true]
 refine (ck (fun i=>((r.1.take i).flatMap (gU m),(i:Int))) r.1.length (by omega) (fun i nx hi=> ?_) (fun nx=> ?_))
 ·simp only [kc]
  rw [decide_eq_true (by omega),ay hi,wrap64 (by omega) (by omega)]
  have e:gF m r.1[i].1 r.1[i].2=some (gU m r.1[i],bS m r.1[i].1 r.1[i].2):=by
   rw [MH m _ _ hm,gU];cases bS m r.1[i].1 r.1[i].2<;>rfl
  have h1:=mc m (r.1.take i)
  have h2:=qG m r.1[i]
  simp only [cond_true,ab,e]
  rw [au (by rw [List.length_take] at h1;omega),←vt];rfl
 ·simp only [kc]
  rw [decide_eq_false (by omega),List.take_length];rfl
theorem xx (l:List ae)(m:List Bytes)(d a n:Int)(hl:l.length≤1000000000)(hm:m.length≤1000000000)(ha:a≤9223372036854775807):mf l m d a n=some (oc l m d a n):=by
 unfold mf oc
 rw [Cm l m d a n false hl hm ha,ab]
 have hL:=w5 l m d a n false
 generalize eh l m d a n false=r at hL⊢
 cases hr:r.2 with|false=>rfl|true=> ?_
 simp only [Bool.not_true,cond_false,cond_true]
 refine (ck (fun i=>((r.1.take i).flatMap (gU m),(i:Int))) r.1.length (by omega) (fun i nx hi=> ?_) (fun nx=> ?_))
 ·simp only [kA]
  have i1:idx (r.1.map (·.1)) (i:Int)=some r.1[i].1:=by rw [ay (by simpa using hi),List.getElem_map]
  have i2:idx (r.1.map (·.2)) (i:Int)=some r.1[i].2:=by rw [ay (by simpa using hi),List.getElem_map]
  rw [decide_eq_true (by rw [List.length_map];omega),i1,i2,wrap64 (by omega) (by omega)]
  have e:gL m r.1[i].1 r.1[i].2=some (gU m r.1[i],bS m r.1[i].1 r.1[i].2):=by
   rw [ND m _ _ hm,gU];cases bS m r.1[i].1 r.1[i].2<;>rfl
  have h1:=mc m (r.1.take i)
  have h2:=qG m r.1[i]
  simp only [cond_true,ab,e]
  rw [au (by rw [List.length_take] at h1;omega),←vt];rfl
 ·simp only [kA]
  rw [decide_eq_false (by rw [List.length_map];omega),List.take_length];rfl
theorem vl (l:List ae)(m:List Bytes)(d a n:Int):(oc l m d a n).1.length≤100000000:=by
 have hL:=w5 l m d a n false
 have h1:=mc m (eh l m d a n false).1
 unfold oc
 cases (eh l m d a n false).2 with
 |false=>simp
 |true=>simp only [cond_true];omega
def lh (s:Bytes):(Int×Int×Int×Int×Int)×Int×Bool:=
 bif ((s.length:Int) !=16)||decide (du s 12>1) then ((0,0,0,0,0),0,false) else ((bh s 0,bh s 2,bh s 4,bh s 6,du s 8),du s 12,true)
theorem Hv (s:Bytes)(h:s.length≤1000000000):ee s=some (lh s):=by
 unfold ee lh
 cases (s.length:Int) !=16 with|true=>rfl|false=> ?_
 simp only [tV s _ h,tW s _ h,ab,cond_false,Bool.false_or]
 cases decide (du s 12>1)<;>rfl
theorem Io (s:Bytes)(h:s.length≤1000000000):ef s=some (lh s):=by
 unfold ef lh
 cases (s.length:Int) !=16 with|true=>rfl|false=> ?_
 simp only [oS s _ h,uf s _ h,ab,cond_false,Bool.false_or]
 cases decide (du s 12>1)<;>rfl
def u1 (q:Int×Int×Int):Int:=bif decide (q.2.2<q.2.1) then 1 else 0
theorem Kz (q:Int×Int×Int):oq q=some (u1 q):=by unfold oq u1;cases decide (q.2.2<q.2.1)<;>rfl
theorem tp {q:Int×Int×Int}(h:ma q=true):0≤q.1∧q.1≤130944∧(q.2.1=2∨q.2.1=4∨q.2.1=8∨q.2.1=16)∧0≤q.2.2∧q.2.2≤2*q.2.1-1:=by
 simp only [ma,Bool.and_eq_true,bL] at h
 obtain ⟨h1,h2,h3⟩:=h
 rw [w6 h2] at h3
 exact ⟨h1.1,h1.2,eR.1 h2,h3⟩
theorem Ls (q:Int×Int×Int)(h:ma q=true):nw q=some (u1 q):=by
 obtain ⟨_,_,h3,h4,h5⟩:=tp h
 have e:Int.tdiv q.2.2 q.2.1=if q.2.2<q.2.1 then 0 else 1:=by
  rw [Int.tdiv_eq_ediv_of_nonneg h4]
  split
  ·exact Int.ediv_eq_zero_of_lt h4 (by assumption)
  ·rcases h3 with g|g|g|g<;>(rw [g];omega)
 unfold nw u1
 rw [if_neg (by omega),e]
 by_cases hq:q.2.2<q.2.1
 ·rw [if_pos hq,decide_eq_true hq];rfl
 ·rw [if_neg hq,decide_eq_false hq];rfl
def lb (q:Int×Int×Int):Int:=q.1+Int.tmod q.2.2 q.2.1*16
theorem Qd {a b:Int}(h:0≤a)(hb:0<b):0≤Int.tmod a b∧Int.tmod a b<b:=by
 rw [Int.tmod_eq_emod_of_nonneg h]
 exact ⟨Int.emod_nonneg _ (by omega),Int.emod_lt_of_pos _ hb⟩
theorem D4 {q:Int×Int×Int}(h:ma q=true):0≤Int.tmod q.2.2 q.2.1∧Int.tmod q.2.2 q.2.1<16:=by
 obtain ⟨_,_,h3,h4,h5⟩:=tp h
 have:=Qd h4 (show 0<q.2.1 by omega)
 omega
theorem KF (q:Int×Int×Int)(h:ma q=true):jd q=some (lb q):=by
 obtain ⟨h1,h2,h3,h4,h5⟩:=tp h
 have:=D4 h
 unfold jd lb
 rw [if_neg (by omega),wrap64 (n:=Int.tmod q.2.2 q.2.1*16) (by omega) (by omega),wrap64 (by omega) (by omega)]
def Z0 (q:Int×Int×Int):Int×Int×Int:=(q.1,q.2.1,Int.tmod (q.2.2+1) (2*q.2.1))
def DK (l:List ae)(m:List Bytes)(d:Int)(q:Int×Int×Int):Bool:=
 ma q&&((oc l m d (lb q) 16).2&&((lh (oc l m d (lb q) 16).1).2.2&&((lh (oc l m d (lb q) 16).1).2.1==u1 q)))
def jy (l:List ae)(m:List Bytes)(d:Int)(q:Int×Int×Int):(Int×Int×Int×Int×Int)×(Int×Int×Int)×Bool:=
 bif DK l m d q then ((lh (oc l m d (lb q) 16).1).1,Z0 q,true) else ((0,0,0,0,0),q,false)
theorem MF (l:List ae)(m:List Bytes)(d:Int)(q:Int×Int×Int)(hl:l.length≤1000000000)(hm:m.length≤1000000000):eY l m d q=some (jy l m d q):=by
 unfold eY jy DK
 rw [BQ q,ab]
 cases hq:ma q with|false=>rfl|true=> ?_
 obtain ⟨h1,h2,h3,h4,h5⟩:=tp hq
 have hs:=D4 hq
 have hd:=vl l m d (lb q) 16
 simp only [Bool.not_true,cond_false,KF q hq,ab,xi l m d (lb q) 16 hl hm (by unfold lb;omega),Bool.true_and]
 cases (oc l m d (lb q) 16).2 with|false=>rfl|true=> ?_
 simp only [Bool.not_true,cond_false,Hv _ (Nat.le_trans hd (by omega)),ab,Bool.true_and]
 cases (lh (oc l m d (lb q) 16).1).2.2 with|false=>rfl|true=> ?_
 simp only [Bool.not_true,cond_false,Kz,ab,Bool.true_and,bne]
 cases (lh (oc l m d (lb q) 16).1).2.1==u1 q with|false=>rfl|true=> ?_
 simp only [Bool.not_true,cond_false,cond_true]
 rw [wrap64 (n:=2*q.2.1) (by omega) (by omega),if_neg (by omega),wrap64 (n:=q.2.2+1) (by omega) (by omega)];rfl
theorem NA (l:List ae)(m:List Bytes)(d:Int)(q:Int×Int×Int)(hl:l.length≤1000000000)(hm:m.length≤1000000000):fg l m d q=some (jy l m d q):=by
 unfold fg jy DK
 rw [Cn q,ab]
 cases hq:ma q with|false=>rfl|true=> ?_
 obtain ⟨h1,h2,h3,h4,h5⟩:=tp hq
 have hs:=D4 hq
 have hd:=vl l m d (lb q) 16
 have es:IntKind.wrap .i64 (q.1+IntKind.wrap .i64 (16*Int.tmod q.2.2 q.2.1))=lb q:=by
  rw [wrap64 (n:=16*Int.tmod q.2.2 q.2.1) (by omega) (by omega),wrap64 (by omega) (by omega),lb];omega
 simp only [Bool.not_true,cond_false]
 rw [if_neg (by omega),es]
 simp only [xx l m d (lb q) 16 hl hm (by unfold lb;omega),ab,Bool.true_and,Io _ (Nat.le_trans hd (by omega)),Ls q hq,bne]
 cases (oc l m d (lb q) 16).2 with|false=>rfl|true=> ?_
 cases (lh (oc l m d (lb q) 16).1).2.2 with|false=>rfl|true=> ?_
 cases (lh (oc l m d (lb q) 16).1).2.1==u1 q with|false=>rfl|true=> ?_
 simp only [Bool.not_true,cond_false,cond_true,ab,Bool.true_and]
 rw [wrap64 (n:=2*q.2.1) (by omega) (by omega),if_neg (by omega),wrap64 (n:=q.2.2+1) (by omega) (by omega)];rfl
def Ps (l:List ae)(m:List Bytes)(d:Int)(r:ax):Bool:=LO r&&(jy l m d r.2.2.1).2.2
def af1 (h:Host):Bool:=s6 h&&(!(decide ((h.2.2.1.2.2.1.length:Int)>0))&&h.2.2.2.1.all (fun r=> !(r.2.2.2.2.1||Ps h.2.1 h.1 0 r)))
end
end Go.Pu
end
section
namespace Go.Pu
open Go.Dn
set_option linter.unusedSimpArgs false
set_option linter.unusedVariables false
noncomputable section
def Rx (s:Bytes)(i:Nat):Nat:=aR s (i/8)/2^(7-i%8)%2
theorem O6 (s:Bytes)(i:Nat):Rx s i<2:=Nat.mod_lt _ (by omega)
theorem VP (b k:Nat)(hb:b<256)(hk:k≤7):IntKind.wrap .i64 (BitVec.toNat (BitVec.ofInt (IntKind.bits .i64) (IntKind.wrap .i64 (Int.fdiv (b:Int) ((2^k:Nat):Int)))&&&BitVec.ofInt (IntKind.bits .i64) 1))=((b/2^k%2:Nat):Int):=by
 have e:Int.fdiv (b:Int) ((2^k:Nat):Int)=((b/2^k:Nat):Int):=(Int.ofNat_fdiv b (2^k)).symm
 have h1:b/2^k≤b:=Nat.div_le_self _ _
 rw [e,eO (n:=b/2^k) (by omega)]
 have:=VN (b/2^k) 1 (by omega) (by omega)
 rw [show ((1:Nat):Int)=1 from rfl] at this
 rw [this,Nat.and_one_is_mod]
 exact eO (by omega)
def Us (s:Bytes)(a:Nat):Nat→Nat
 |0=>0
 |j+1=>2*Us s a j+Rx s (a+j)
theorem OW (s:Bytes)(a:Nat):∀j,Us s a j<2^j
 |0=>by simp [Us]
 |j+1=>by have:=OW s a j;have:=O6 s (a+j);rw [Us,Nat.pow_succ];omega
theorem Ut (s:Bytes)(a j:Nat)(hj:j≤32):Us s a j<4294967296:=Nat.lt_of_lt_of_le (OW s a j) (Nat.pow_le_pow_right (n:=2) (by omega) hj)
def agc (s:Bytes)(a:Int):Int:=bif ((s.length:Int) !=16)|| !bn a 0 96 then-1 else ((Us s a.toNat 32:Nat):Int)
def BM (s v:Bytes):Nat→Nat
 |0=>0
 |i+1=>if Rx v i=1 then BM s v i^^^Us s i 32 else BM s v i
theorem Mr (s v:Bytes):∀i,BM s v i<4294967296
 |0=>by simp [BM]
 |i+1=>by
  have:=Mr s v i
  rw [BM]
  split
  ·exact IJ this (Ut s i 32 (by omega))
  ·exact this
def xh (s v:Bytes):Int:=bif ((s.length:Int) !=16)||decide ((v.length:Int)>12) then-1 else ((BM s v (8*v.length):Nat):Int)
theorem Xi (s v:Bytes): -1≤xh s v:=by
 unfold xh
 cases ((s.length:Int) !=16)||decide ((v.length:Int)>12) with
 |true=>exact Int.le_refl _
 |false=>simp only [cond_false];omega
def s5 (f:Int×Int×Int×Int×Int):Bytes:=((dD f.2.1++dD f.2.2.1)++bA f.2.2.2.1)++bA f.2.2.2.2
theorem UD (f:Int×Int×Int×Int×Int):(s5 f).length≤12:=by
 have:=bF f.2.1;have:=bF f.2.2.1;have:=aF f.2.2.2.1;have:=aF f.2.2.2.2
 simp only [s5,List.length_append];omega
def zq (s:di)(f:Int×Int×Int×Int×Int):Int:=bif ((s.2.length:Int)==0)||decide (xh s.1 (s5 f)<0) then-1 else Int.tmod (xh s.1 (s5 f)) (s.2.length:Int)
theorem UC (s:di)(f:Int×Int×Int×Int×Int)(h:¬zq s f<0):∃n:Nat,zq s f=(n:Int)∧n<s.2.length:=by
 unfold zq at h⊢
 cases hc:((s.2.length:Int)==0)||decide (xh s.1 (s5 f)<0) with
 |true=>rw [hc] at h;simp at h
 |false=>
  rw [hc] at h
  simp only [Bool.or_eq_false_iff,beq_eq_false_iff_ne,decide_eq_false_iff_not] at hc
  simp only [cond_false] at h⊢
  have h1:0≤xh s.1 (s5 f):=by omega
  rw [Int.tmod_eq_emod_of_nonneg h1] at h⊢
  have:=Int.emod_lt_of_pos (xh s.1 (s5 f)) (show (0:Int)<s.2.length by omega)
  obtain ⟨n,hn⟩:=Int.eq_ofNat_of_zero_le (show 0≤xh s.1 (s5 f)%(s.2.length:Int) by omega)
  exact ⟨n,hn,by omega⟩
def P5 (s:di)(q:Int)(f:Int×Int×Int×Int×Int):Int:=bif !qx s q||decide (zq s f<0) then-1 else s.2.getD (zq s f).toNat 0
theorem Cz (t:List Slot)(f:Int×Int×Int×Int×Int)(h:∀j,j<8→gO (bU t j) f=false):∀n k,walk t f n k= -1
 |0,_=>rfl
 |n+1,k=>by
  unfold walk
  rw [h _ (wz f k),Cz t f h n (k+1)]
  split<;>rfl
theorem xf (f:Int×Int×Int×Int×Int):∀(t:List Slot)(m:Int),(∀s∈t,gO s f=false)→nV f t m= -1
 |[],_,_=>rfl
 |s::r,m,h=>by
  unfold nV
  rw [h s (by simp)]
  exact xf f r (m+1) (fun x hx=>h x (by simp [hx]))
theorem RS (t:List Slot)(f:Int×Int×Int×Int×Int)(h:mQ t=true):nV f t 0=walk t f 8 0:=by
 simp only [mQ,Bool.and_eq_true,beq_iff_eq,List.all_eq_true,List.mem_range] at h
 obtain ⟨h8,hs⟩:=h
 by_cases hex:∃j,j<t.length∧gO (bU t j) f=true
 ·obtain ⟨j,hj,hu,e⟩:=sX f t 0 hex
  have:=hs j (by omega)
  simp only [gV,Bool.and_eq_true,Bool.or_eq_true,Bool.not_eq_true',beq_iff_eq] at this
  simp only [gO,Bool.and_eq_true,beq_iff_eq,decide_eq_true_eq] at hu
  rcases this.2 with g|g
  ·rw [hu.1] at g;simp at g
  ·rw [hu.2] at g
   rw [show ((0:Int))=((0:Nat):Int) from rfl,e,g];omega
 ·have hn:∀j,j<t.length→gO (bU t j) f=false:=fun j hj=>Bool.eq_false_iff.2 fun hu=>hex ⟨j,hj,hu⟩
  rw [Cz t f (fun j hj=>hn j (by omega)),xf]
  intro s hs'
  obtain ⟨j,hj,rfl⟩:=List.getElem_of_mem hs'
  have:=hn j hj
  rwa [oR hj] at this
def findF (t:List Slot)(f:Int×Int×Int×Int×Int):Int:=bif mQ t then walk t f 8 0 else-1
theorem J3 (t:List Slot)(f:Int×Int×Int×Int×Int):∀n k,walk t f n k= -1∨∃m:Nat,walk t f n k=(m:Int)∧m<8
 |0,_=> .inl rfl
 |n+1,k=>by
  unfold walk
  split
  ·exact .inl rfl
  ·split
   ·exact .inr ⟨_,rfl,wz f k⟩
   ·exact J3 t f n (k+1)
theorem W7 (t:List Slot)(f:Int×Int×Int×Int×Int)(h:findF t f≥0):∃m:Nat,findF t f=(m:Int)∧m<t.length:=by
 unfold findF at h⊢
 cases ht:mQ t with
 |false=>rw [ht] at h;simp at h
 |true=>
  rw [ht] at h
  simp only [cond_true] at h⊢
  have h8:t.length=8:=by simp only [mQ,Bool.and_eq_true,beq_iff_eq] at ht;exact ht.1
  rcases J3 t f 8 0 with g|⟨m,g,hm⟩
  ·omega
  ·exact ⟨m,g,by omega⟩
end
end Go.Pu
end
section
namespace Go.Pu
open Go.Dn
set_option linter.unusedSimpArgs false
set_option linter.unusedVariables false
noncomputable section
def hasB (l:List Int)(v:Int):Bool:=l.any (·==v)
theorem Mq {l:List Int}{v:Int}:hasB l v=true↔v∈l:=by
 simp only [hasB,List.any_eq_true,beq_iff_eq]
 constructor
 ·rintro ⟨x,hx,rfl⟩;exact hx
 ·intro h;exact ⟨v,h,rfl⟩
def ins (v:Int):List Int→List Int
 |[]=>[v]
 |x::l=>bif decide (v<x) then v::x::l else x::ins v l
theorem JA (v:Int):∀l,(ins v l).length=l.length+1
 |[]=>rfl
 |x::l=>by
  rw [ins]
  cases decide (v<x) with
  |true=>rfl
  |false=>simp only [cond_false,List.length_cons,JA v l]
theorem JJ (v x:Int):∀l,x∈ins v l↔x=v∨x∈l
 |[]=>by simp [ins]
 |y::l=>by
  rw [ins]
  cases decide (v<y) with
  |true=>simp
  |false=>simp only [cond_false,List.mem_cons,JJ v x l];constructor<;>(rintro (h|h|h)<;>simp [h])
theorem RV (v:Int):∀l:List Int,v∉l→l.take (l.findIdx (fun x=> !decide (x<v)))++[v]++l.drop (l.findIdx (fun x=> !decide (x<v)))=ins v l
 |[],_=>rfl
 |x::l,h=>by
  rw [ins,List.findIdx_cons]
  have hx:v≠x:=fun e=>h (by simp [e])
  have hl:v∉l:=fun e=>h (by simp [e])
  by_cases c:x<v
  ·rw [decide_eq_true c,decide_eq_false (show¬v<x by omega)]
   have:=RV v l hl
   simpa using this
  ·rw [decide_eq_false c,decide_eq_true (show v<x by omega)];rfl
def AO (l:List Int)(v:Int):List Int:=bif hasB l v then l else ins v l
theorem LU (l:List Int)(v:Int):(AO l v).length≤l.length+1:=by
 unfold AO
 cases hasB l v with
 |true=>simp
 |false=>simp only [cond_false,JA];omega
theorem MW {l:List Int}{v x:Int}(h:x∈l):x∈AO l v:=by
 unfold AO
 cases hasB l v with
 |true=>exact h
 |false=>exact (JJ v x l).2 (.inr h)
theorem Ux {l:List Int}{v:Int}(h:v∈l):AO l v=l:=by
 unfold AO;rw [Mq.2 h];rfl
theorem LH:∀(vs l:List Int),(vs.foldl AO l).length≤l.length+vs.length
 |[],l=>by simp
 |v::vs,l=>by
  have:=LH vs (AO l v)
  have:=LU l v
  simp only [List.foldl_cons,List.length_cons];omega
theorem KQ:∀(vs:List Int){l:List Int}{x:Int},x∈l→x∈vs.foldl AO l
 |[],_,_,h=>h
 |v::vs,l,x,h=>KQ vs (l:=AO l v) (MW h)
theorem W9 {α R:Type}(p:α→Bool)(k:Int→Option R)(l:List α):(match l.findIdx? p with|some i=>k (i:Int)|none=>k (l.length:Int))=k (l.findIdx p:Int):=by
 cases h:l.findIdx? p with
 |none=>rw [List.findIdx?_eq_none_iff_findIdx_eq] at h;rw [h]
 |some i=>rw [List.findIdx?_eq_some_iff_findIdx_eq] at h;rw [h.2]
theorem aaJ {α:Type}(l:List α)(j:Nat)(h:j≤l.length):sub l 0 (j:Int)=some (l.take j):=by
 unfold sub;rw [if_pos (by omega)];simp
theorem aaI {α:Type}(l:List α)(j:Nat)(h:j≤l.length):sub l (j:Int) (l.length:Int)=some (l.drop j):=by
 unfold sub;rw [if_pos (by omega)];simp
theorem Ui (i:Nat)(q:Nat→Bool):(List.range (i-1)).all (fun j=> !(q (j+1)))=(List.range i).all (fun j=> !((j !=0)&&q j)):=by
 rw [Bool.eq_iff_iff,List.all_eq_true,List.all_eq_true]
 simp only [List.mem_range]
 constructor
 ·intro h j hj
  cases j with
  |zero=>rfl
  |succ j=>
   have:=h j (by omega)
   simpa using this
 ·intro h j hj
  have:=h (j+1) (by omega)
  simpa using this
def zx (p:Nat→Bool):List Nat→Int
 |[]=> -1
 |j::r=>bif p j then (j:Int) else zx p r
theorem Ml (p:Nat→Bool):∀n s i,s≤i→i<s+n→p i=true→(zx p (List.range' s n)==(i:Int))=(List.range' s (i-s)).all (fun j=> !(p j))
 |0,s,i,h1,h2,_=>by omega
 |n+1,s,i,h1,h2,hp=>by
  rw [List.range'_succ,zx]
  rcases Nat.lt_or_ge s i with hlt|hge
  ·obtain ⟨k,hk⟩:∃k,i-s=k+1:=⟨i-s-1,by omega⟩
   rw [hk,List.range'_succ,List.all_cons]
   cases hps:p s with
   |true=>
    simp only [cond_true,Bool.not_true,Bool.false_and]
    have:¬(s:Int)=(i:Int):=by omega
    simpa using this
   |false=>
    simp only [cond_false,Bool.not_false,Bool.true_and]
    rw [Ml p n (s+1) i (by omega) (by omega) hp,show i-(s+1)=k by omega]
  ·have:s=i:=by omega
   subst this
   rw [hp,Nat.sub_self]
   simp
theorem Ij {R:Type}(p:Nat→Bool)(hit:Nat→Option R)(fin:Option R)(k:Int→Option R)(h1:∀j:Nat,hit j=k (j:Int))(h2:fin=k (-1)):∀l:List Nat,Ai (fun (j:Nat) (s:Unit)=>bif p j then .error (hit j) else .ok ()) (fun _=>fin) l ()=k (zx p l)
 |[]=>h2
 |j::l=>by
  rw [Ai,zx]
  cases p j with
  |true=>exact h1 j
  |false=>exact Ij p hit fin k h1 h2 l
theorem Nt {α σ R:Type}(p:α→Bool)(f:σ→α→σ)(r:Option R)(fin:σ→Option R):∀(l:List α)(s:σ),Ai (fun x s=>bif p x then .ok (f s x) else .error r) fin l s=bif l.all p then fin (l.foldl f s) else r
 |[],s=>rfl
 |x::l,s=>by
  rw [Ai,List.all_cons,List.foldl_cons]
  cases p x with
  |false=>rfl
  |true=>simp only [cond_true,Bool.true_and];exact Nt p f r fin l (f s x)
end
end Go.Pu
end
section
namespace Go.Pu
open Go.Dn
set_option linter.unusedSimpArgs false
set_option linter.unusedVariables false
noncomputable section
def VM (f:Filter)(p:aQ):Bool:=p6 f&&(((p.1==f.1)||((p.1==281474976710655)||f.2.1))&&((p.2.2.1== -1)||hasB f.2.2 p.2.2.1))
def preB (a b n:Int):Bool:=Int.fdiv a (2^(min (Int.toNat (IntKind.wrap .i64 (32-n))) (IntKind.bits .i64)))==Int.fdiv b (2^(min (Int.toNat (IntKind.wrap .i64 (32-n))) (IntKind.bits .i64)))
theorem UL {r:cg}(h:tt r=true):0≤r.2.2.2.1∧r.2.2.2.1≤32:=by
 rw [←bL]
 unfold tt at h
 simp only [fY,bc,ab,aB] at h
 cases hp:bn r.2.2.2.1 0 32 with
 |true=>rfl
 |false=>
  rw [hp] at h
  revert h
  cases bn r.1 0 1000<;>cases r.2.1 !=0<;>cases r.2.1 !=6<;>cases r.2.1 !=17<;>cases bn r.2.2.1 0 4294967295<;>simp
def VQ (r:cg)(p:aQ):Bool:=preB r.2.2.1 p.2.2.2.2.2.2.1 r.2.2.2.1&&(bn p.2.2.2.2.2.2.2.2.2.2.1 r.2.2.2.2.1 r.2.2.2.2.2.1&&((r.2.2.2.2.2.2.1== -2)||(r.2.2.2.2.2.2.1==p.2.2.1)))
def DC (r:cg)(p:aQ):Bool:=tt r&&(fP p&&(((r.2.1==0)||(r.2.1==p.2.2.2.2.2.2.2.2.1))&&VQ r p))
def xv:cg:=(0,0,0,0,0,0,0,0,0)
def pX (l:List cg)(p:aQ):Nat→Int
 |0=> -1
 |i+1=>bif DC (l.getD i xv) p&&(decide (pX l p i<0)||decide ((l.getD i xv).1<(l.getD (pX l p i).toNat xv).1)) then (i:Int) else pX l p i
theorem yq (l:List cg)(p:aQ):∀i,pX l p i= -1∨∃n:Nat,pX l p i=(n:Int)∧n<i
 |0=> .inl rfl
 |i+1=>by
  rw [pX]
  cases DC (l.getD i xv) p&&(decide (pX l p i<0)||decide ((l.getD i xv).1<(l.getD (pX l p i).toNat xv).1)) with
  |true=>exact .inr ⟨i,rfl,by omega⟩
  |false=>
   rcases yq l p i with h|⟨n,h,hn⟩
   ·exact .inl h
   ·exact .inr ⟨n,h,by omega⟩
theorem Uy {R:Type}(l:List cg)(p:aQ)(i:Nat)(hi:i<l.length)(nx:Int×Int→Option R):
 (aa (cond (DC l[i] p) (cond (decide (pX l p i<0)) (some true) (aa (idx l (pX l p i)) fun x4=>some (decide (l[i].1<x4.1)))) (some false)) fun q5=>cond q5 (nx ((i:Int),((i+1:Nat):Int))) (nx (pX l p i,((i+1:Nat):Int))))=nx (pX l p (i+1),((i+1:Nat):Int)):=by
 rw [pX,br hi]
 cases DC l[i] p with|false=>rfl|true=> ?_
 rcases yq l p i with h|⟨n,h,hn⟩
 ·rw [h];rfl
 ·have hl:n<l.length:=by omega
  rw [h,decide_eq_false (show¬(n:Int)<0 by omega),ay hl]
  simp only [cond_true,cond_false,ab,Int.toNat_natCast,br hl,Bool.true_and,Bool.false_or]
  cases decide (l[i].1<l[n].1)<;>rfl
def BJ (l:List cg)(p:aQ):Int:=bif si l then pX l p l.length else-1
theorem W8 (l:List cg)(p:aQ)(h:BJ l p≥0):∃n:Nat,BJ l p=(n:Int)∧n<l.length:=by
 unfold BJ at h⊢
 cases hr:si l with
 |false=>rw [hr] at h;simp at h
 |true=>
  rw [hr] at h
  simp only [cond_true] at h⊢
  rcases yq l p l.length with g|g
  ·omega
  ·exact g
def ln (p:aQ):Int×Int×Int×Int×Int:=(p.2.2.2.2.2.2.2.2.1,p.2.2.2.2.2.2.1,p.2.2.2.2.2.2.2.1,p.2.2.2.2.2.2.2.2.2.1,p.2.2.2.2.2.2.2.2.2.2.1)
theorem MB (p:aQ):s9 p=some (ln p):=rfl
theorem Nw (p:aQ):tD p=some (ln p):=rfl
def aaH:Slot:=(0,(0,0,0,0,0),0)
def af2 (s:bw)(q:Int)(p:aQ):Int:=
 bif !ew s q|| !fP p then-1 else
 bif decide (BJ s.1 p≥0) then (bif (s.1.getD (BJ s.1 p).toNat xv).2.2.2.2.2.2.2.1==1 then-1 else (s.1.getD (BJ s.1 p).toNat xv).2.2.2.2.2.2.2.2) else
 bif decide (findF s.2.1 (ln p)≥0) then (s.2.1.getD (findF s.2.1 (ln p)).toNat aaH).2.2 else P5 s.2.2 q (ln p)
end
end Go.Pu
end
section
namespace Go.Pu
open Go.Dn
set_option linter.unusedSimpArgs false
set_option linter.unusedVariables false
noncomputable section
def HG (d:Ip):Bool:=bn d.1 0 255&&(bn d.2.2.1 0 255&&(bn d.2.2.2.1 0 255&&(bn d.2.1 0 65535&&(bn d.2.2.2.2.1 0 4294967295&&(bn d.2.2.2.2.2.1 0 4294967295&&decide ((d.2.2.2.2.2.2.length:Int)≤380))))))
theorem Gk (d:Ip):ug d=some (HG d):=by
 simp only [ug,bc,ab,aB,cF,HG]
theorem ME (d:Ip):wK d=some (HG d):=Gk d
def zO (d:Ip):Bytes:=((((((Uz 69 (IntKind.wrap .u8 d.1)++bA (20+(d.2.2.2.2.2.2.length:Int)))++bA d.2.1)++bA 16384)++Uz (IntKind.wrap .u8 d.2.2.1) (IntKind.wrap .u8 d.2.2.2.1))++bA 0)++dD d.2.2.2.2.1)++dD d.2.2.2.2.2.1
theorem zP (d:Ip):(zO d).length≤20:=by
 have:=aF (20+(d.2.2.2.2.2.2.length:Int))
 have:=aF d.2.1
 have:=aF 16384
 have:=aF 0
 have:=bF d.2.2.2.2.1
 have:=bF d.2.2.2.2.2.1
 simp only [zO,List.length_append,CH];omega
def zN (d:Ip):Bytes:=vT (zO d) 10 (bA (G3 (zO d)))
theorem Ir (d:Ip):ns d=some (bif HG d then (zN d,true) else ([],false)):=by
 unfold ns
 rw [Gk,ab]
 cases hd:HG d with|false=>rfl|true=> ?_
 have hn:(d.2.2.2.2.2.2.length:Int)≤380:=by simp only [HG,Bool.and_eq_true,decide_eq_true_eq] at hd;omega
 have:=aF (20+(d.2.2.2.2.2.2.length:Int))
 have:=aF d.2.1
 have:=aF 16384
 have:=aF 0
 have:=bF d.2.2.2.2.1
 have:=bF d.2.2.2.2.2.1
 have hl:=zP d
 have e:∀x y,(bytesOf [x,y]).length=2:=fun _ _=>rfl
 rw [wrap64 (n:=20+(d.2.2.2.2.2.2.length:Int)) (by omega) (by omega)]
 simp only [kQ,mN,ab,Bool.not_true,cond_false,cond_true]
 rw [au (by simp only [List.length_append,e];omega),au (by simp only [List.length_append,e];omega),au (by simp only [List.length_append,e];omega),au (by simp only [List.length_append,e];omega),au (by simp only [List.length_append,e];omega),au (by simp only [List.length_append,e];omega),au (by simp only [List.length_append,e];omega)]
 have hp:((((((bytesOf [69,IntKind.wrap .u8 d.1]++bA (20+(d.2.2.2.2.2.2.length:Int)))++bA d.2.1)++bA 16384)++bytesOf [IntKind.wrap .u8 d.2.2.1,IntKind.wrap .u8 d.2.2.2.1])++bA 0)++dD d.2.2.2.2.1)++dD d.2.2.2.2.2.1=zO d:=rfl
 rw [hp,D5 _ (by omega),ab,yg _ _ _ (by omega)];rfl
theorem Hx (d:Ip):mX d=some (bif HG d then (zN d,true) else ([],false)):=by
 unfold mX
 rw [ME,ab]
 cases hd:HG d with|false=>rfl|true=> ?_
 have hn:(d.2.2.2.2.2.2.length:Int)≤380:=by simp only [HG,Bool.and_eq_true,decide_eq_true_eq] at hd;omega
 have:=aF (20+(d.2.2.2.2.2.2.length:Int))
 have:=aF d.2.1
 have:=aF 16384
 have:=aF 0
 have:=bF d.2.2.2.2.1
 have:=bF d.2.2.2.2.2.1
 have hl:=zP d
 have hw:=aF (G3 (zO d))
 have e:∀x y,(bytesOf [x,y]).length=2:=fun _ _=>rfl
 rw [wrap64 (n:=20+(d.2.2.2.2.2.2.length:Int)) (by omega) (by omega)]
 simp only [o3,uV,ab,Bool.not_true,cond_false,cond_true]
 rw [au (by simp only [List.length_append,e];omega),au (by simp only [List.length_append,e];omega),au (by simp only [List.length_append,e];omega),au (by simp only [List.length_append,e];omega),au (by simp only [List.length_append,e];omega),au (by simp only [List.length_append,e];omega),au (by simp only [List.length_append,e];omega)]
 have hp:((((((bytesOf [69,IntKind.wrap .u8 d.1]++bA (20+(d.2.2.2.2.2.2.length:Int)))++bA d.2.1)++bA 16384)++bytesOf [IntKind.wrap .u8 d.2.2.1,IntKind.wrap .u8 d.2.2.2.1])++bA 0)++dD d.2.2.2.2.1)++dD d.2.2.2.2.2.1=zO d:=rfl
 rw [hp,Jy _ (by omega),ab,Dw _ _ _ (by omega) (by omega)];rfl
def JC (d:Ip):Bytes×Bool:=bif HG d then (zN d++d.2.2.2.2.2.2,true) else ([],false)
theorem wM (d:Ip):(zN d).length≤20:=by unfold zN;rw [F2];exact zP d
theorem Un (d:Ip):oA d=some (JC d):=by
 unfold oA JC
 rw [Ir,ab]
 cases hd:HG d with|false=>rfl|true=> ?_
 have hn:(d.2.2.2.2.2.2.length:Int)≤380:=by simp only [HG,Bool.and_eq_true,decide_eq_true_eq] at hd;omega
 have:=wM d
 simp only [cond_true,Bool.not_true,cond_false]
 rw [au (by omega)]
theorem RT (d:Ip):oh d=some (JC d):=by
 unfold oh JC
 rw [Hx,ab]
 cases hd:HG d with|false=>rfl|true=> ?_
 have hn:(d.2.2.2.2.2.2.length:Int)≤380:=by simp only [HG,Bool.and_eq_true,decide_eq_true_eq] at hd;omega
 have:=wM d
 simp only [cond_true,Bool.not_true,cond_false]
 rw [au (by omega)]
def qy (n:Nat):Bytes:=bytesOf (List.replicate n (0:Int))
theorem LL (n:Nat):(qy n).length=n:=by simp [qy,bytesOf]
theorem Nz (n:Nat)(h:n≤1000000000):mu (n:Int) 0=some (qy n):=by
 unfold mu
 rw [if_pos (by omega),au (by rw [Int.toNat_natCast];omega),Int.toNat_natCast]
 refine ck (fun i=>(List.replicate n (0:Int),(i:Int))) n (by omega) (fun i nx hi=> ?_) (fun nx=> ?_)
 ·simp only [kG]
  rw [decide_eq_true (by omega),ay (by simpa using hi),wrap64 (by omega) (by omega)]
  simp only [cond_true,ab,Int.toNat_natCast,List.set_replicate_self];rfl
 ·simp only [kG]
  rw [decide_eq_false (by omega)];rfl
theorem Px (n:Nat)(h:n≤1000000000):iu 0 (n:Int)=some (qy n):=by
 unfold iu
 rw [if_pos (by omega),au (by rw [Int.toNat_natCast];omega),Int.toNat_natCast]
 refine ck (fun i=>(List.replicate n (0:Int),(i:Int))) n (by omega) (fun i nx hi=> ?_) (fun nx=> ?_)
 ·simp only [lF]
  rw [decide_eq_true (by simp;omega),ay (by simpa using hi),wrap64 (by omega) (by omega)]
  simp only [cond_true,ab,Int.toNat_natCast,List.set_replicate_self];rfl
 ·simp only [lF]
  rw [decide_eq_false (by simp)];rfl
def pad (s:Bytes):Bytes:=if s.length<46 then s++qy (46-s.length) else s
theorem aaR (s:Bytes):(pad s).length=max 46 s.length:=by
 unfold pad
 split
 ·simp only [List.length_append,LL];omega
 ·omega
def wF (e:GN):Bool:=bn e.1 0 281474976710655&&(bn e.2.1 0 281474976710655&&(bn e.2.2.1 (-1) 4095&&(bn e.2.2.2.1 1536 65535&&((e.2.2.2.1 !=33024)&&bn (e.2.2.2.2.length:Int) 46 400))))
theorem Cl (e:GN):pR e=some (wF e):=by
 simp only [pR,bc,ab,aB,cF,wF]
theorem Kx (e:GN):rp e=some (wF e):=Cl e
def P1 (p:aQ):Bytes×Bool:=sj p.2.2.2.2.2.2.1 p.2.2.2.2.2.2.2.1 p.2.2.2.2.2.2.2.2
def ipP (p:aQ):Bytes×Bool:=JC (p.2.2.2.1,p.2.2.2.2.1,p.2.2.2.2.2.1,p.2.2.2.2.2.2.2.2.1,p.2.2.2.2.2.2.1,p.2.2.2.2.2.2.2.1,(P1 p).1)
theorem adD (p:aQ):(ipP p).1.length≤360:=by
 have h1:=P2 p.2.2.2.2.2.2.1 p.2.2.2.2.2.2.2.1 p.2.2.2.2.2.2.2.2
 unfold ipP JC
 cases HG (p.2.2.2.1,p.2.2.2.2.1,p.2.2.2.2.2.1,p.2.2.2.2.2.2.2.2.1,p.2.2.2.2.2.2.1,p.2.2.2.2.2.2.2.1,(P1 p).1) with
 |false=>exact Nat.zero_le _
 |true=>
  have h2:=wM (p.2.2.2.1,p.2.2.2.2.1,p.2.2.2.2.2.1,p.2.2.2.2.2.2.2.2.1,p.2.2.2.2.2.2.1,p.2.2.2.2.2.2.2.1,(P1 p).1)
  have h3:(P1 p).1.length≤340:=h1
  simp only [cond_true,List.length_append]
  omega
def fcs (c:Int):Bytes:=bytesOf [IntKind.wrap .u8 c,IntKind.wrap .u8 (Int.fdiv c (2^(min (Int.toNat 8) (IntKind.bits .i64)))),IntKind.wrap .u8 (Int.fdiv c (2^(min (Int.toNat 16) (IntKind.bits .i64)))),IntKind.wrap .u8 (Int.fdiv c (2^(min (Int.toNat 24) (IntKind.bits .i64))))]
def J5 (s:Bytes):Bytes:=s++fcs (IW s)
theorem aaP (c:Int):(fcs c).length=4:=rfl
def PV (p:aQ):Bool:=fP p&&decide ((p.2.2.2.2.2.2.2.2.2.2.2.2.2.2.2.length:Int)≤128)
def Ug (p:aQ)(z:Int)(k:Nat):aQ:=
 (p.1,p.2.1,p.2.2.1,p.2.2.2.1,Int.tmod (IntKind.wrap .i64 (p.2.2.2.2.1+(k:Int))) 65536,p.2.2.2.2.2.1,p.2.2.2.2.2.2.1,p.2.2.2.2.2.2.2.1,p.2.2.2.2.2.2.2.2.1,p.2.2.2.2.2.2.2.2.2.1,p.2.2.2.2.2.2.2.2.2.2.1,
   Int.tmod (IntKind.wrap .i64 (p.2.2.2.2.2.2.2.2.2.2.2.1+((k:Int)*z))) 4294967296,p.2.2.2.2.2.2.2.2.2.2.2.2.1,
   (bif decide (((k:Int)+1)*z<(p.2.2.2.2.2.2.2.2.2.2.2.2.2.2.2.length:Int)) then IntKind.wrap .i64 (BitVec.toNat (BitVec.ofInt (IntKind.bits .i64) p.2.2.2.2.2.2.2.2.2.2.2.2.2.1&&&~~~ BitVec.ofInt (IntKind.bits .i64) 9)) else p.2.2.2.2.2.2.2.2.2.2.2.2.2.1),
   p.2.2.2.2.2.2.2.2.2.2.2.2.2.2.1,(p.2.2.2.2.2.2.2.2.2.2.2.2.2.2.2.take (min ((k+1)*z.toNat) p.2.2.2.2.2.2.2.2.2.2.2.2.2.2.2.length)).drop (k*z.toNat))
def yd (n z:Nat):Nat:=(n+z-1)/z
def NH (p:aQ)(z:Int):List aQ:=bif fP p&&bn z 1 128 then
    (bif (p.2.2.2.2.2.2.2.2.1 !=6)||decide ((p.2.2.2.2.2.2.2.2.2.2.2.2.2.2.2.length:Int)≤z) then [p] else (List.range (yd p.2.2.2.2.2.2.2.2.2.2.2.2.2.2.2.length z.toNat)).map (Ug p z)) else []
theorem Ll {n z k:Nat}(hz:0<z):k<yd n z↔k*z<n:=by
 unfold yd
 rw [Nat.lt_div_iff_mul_lt hz]
 omega
theorem Ay {p:aQ}(h:fP p=true):p.2.2.2.2.2.2.2.2.2.2.2.2.2.2.2.length≤320:=by
 have hh:vA p=true:=by simp only [fP,Bool.and_eq_true] at h;exact h.1
 exact vW (zE hh)
theorem UM {b:Bytes}{k z:Nat}(hk:k*z<b.length)(hb:b.length≤320):sub b ((k*z:Nat):Int) ((min ((k+1)*z) b.length:Nat):Int)=some ((b.take (min ((k+1)*z) b.length)).drop (k*z)):=by
 have:k*z≤(k+1)*z:=Nat.mul_le_mul_right _ (by omega)
 unfold sub
 rw [if_pos (by omega),Int.toNat_natCast,Int.toNat_natCast]
theorem Up (p:aQ)(z:Int):(NH p z).length≤320:=by
 unfold NH
 cases hs:fP p&&bn z 1 128 with|false=>exact Nat.zero_le _|true=> ?_
 simp only [Bool.and_eq_true,bL] at hs
 have hb:=Ay hs.1
 cases (p.2.2.2.2.2.2.2.2.1 !=6)||decide ((p.2.2.2.2.2.2.2.2.2.2.2.2.2.2.2.length:Int)≤z) with
 |true=>simp only [cond_true,List.length_singleton];omega
 |false=>
  simp only [cond_true,cond_false,List.length_map,List.length_range]
  rcases Nat.lt_or_ge 320 (yd p.2.2.2.2.2.2.2.2.2.2.2.2.2.2.2.length z.toNat) with h|h
  ·have:=(Ll (by omega)).1 h
   have:320*1≤320*z.toNat:=Nat.mul_le_mul_left _ (by omega)
   omega
  ·exact h
end
end Go.Pu
end
