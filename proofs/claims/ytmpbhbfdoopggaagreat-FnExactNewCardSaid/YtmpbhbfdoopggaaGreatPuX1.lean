import Derived.Test.YtmpbhbfdoopggaaGreatDnData
import Derived.Test.YtmpbhbfdoopggaaGreatPure
section
/- Plain laws of the partial operations and of loops. -/
namespace Go.Pu
open Go.Dn
theorem wrap64 {n:Int}(h1: -9223372036854775808≤n)(h2:n≤9223372036854775807):IntKind.wrap .i64 n=n:=by
 simp only [IntKind.wrap,IntKind.bits,IntKind.signed]
 simp
 omega
@[simp] theorem ab {α R:Type}(a:α)(k:α→Option R):aa (some a) k=k a:=rfl
@[simp] theorem Of {α R:Type}(k:α→Option R):aa none k=none:=rfl
theorem Oe {α R:Type}(c:Bool)(x y:Option α)(k:α→Option R):aa (cond c x y) k=cond c (aa x k) (aa y k):=by cases c<;>rfl
@[simp] theorem qG {α R:Type}(c:Bool)(x y:α)(k:α→Option R):aa (cond c (some x) (some y)) k=k (cond c x y):=by cases c<;>rfl
theorem aN {α:Type}(c:Bool)(x y:α):cond c (some x) (some y)=some (cond c x y):=by cases c<;>rfl
theorem aA {R:Type}{n:Nat}{k:Option R}(h:n≤1073741824):room n k=k:=by simp [room,h]
theorem vM {α:Type}(xs:List α)(i:Nat):idx xs (i:Int)=xs[i]?:=rfl
theorem aC {α:Type}{xs:List α}{i:Nat}(h:i<xs.length):idx xs (i:Int)=some xs[i]:=by rw [vM];exact List.getElem?_eq_getElem h
theorem XU {α:Type}{xs:List α}{i:Int}(h:i<0):idx xs i=none:=by
 cases i with
 |ofNat n=>simp at h;omega
 |negSucc n=>rfl
def Mb {σ R:Type}(step:Nat→σ→(σ→Option R)→Option R)(fin:σ→Option R)(N:Nat):Nat→Nat→σ→Option R
 |0,_,s=>fin s
 |n+1,i,s=>step i s (fun s'=>Mb step fin N n (i+1) s')
theorem sf {X σ R:Type}{T:(X→Option R)→X→Option R}(N:Nat)(e:σ→Nat→X)(step:Nat→σ→(σ→Option R)→Option R)(fin:σ→Option R)
 (hs:∀i s nx,i<N→T nx (e s i)=step i s (fun s'=>nx (e s' (i+1)))) (hf:∀s nx,T nx (e s N)=fin s):
 ∀n i s,i≤N→N-i<n→aj T n (e s i)=Mb step fin N (N-i) i s:=by
 intro n
 induction n with
 |zero=>intro i s _ h;omega
 |succ n ih=>
  intro i s hi hn
  rw [aj]
  rcases Nat.lt_or_ge i N with hlt|hge
  ·rw [hs i s _ hlt,show N-i=(N-(i+1))+1 by omega,Mb]
   congr 1
   funext s'
   exact ih (i+1) s' (by omega) (by omega)
  ·have:i=N:=by omega
   subst this
   rw [hf,Nat.sub_self,Mb]
def gF {α σ R:Type}(step:α→σ→(σ→Option R)→Option R)(fin:σ→Option R):List α→σ→Option R
 |[],s=>fin s
 |x::xs,s=>step x s (gF step fin xs)
theorem nu {α X σ R:Type}{T:(X→Option R)→X→Option R}(xs:List α)(e:σ→Nat→X)(step:α→σ→(σ→Option R)→Option R)(fin:σ→Option R)
 (hs:∀i (h:i<xs.length) s nx,T nx (e s i)=step xs[i] s (fun s'=>nx (e s' (i+1)))) (hf:∀s nx,T nx (e s xs.length)=fin s):
 ∀n i s,i≤xs.length→xs.length-i<n→aj T n (e s i)=gF step fin (xs.drop i) s:=by
 intro n
 induction n with
 |zero=>intro i s _ h;omega
 |succ n ih=>
  intro i s hi hn
  rw [aj]
  rcases Nat.lt_or_ge i xs.length with hlt|hge
  ·rw [hs i hlt s _,List.drop_eq_getElem_cons hlt,gF]
   congr 1
   funext s'
   exact ih (i+1) s' (by omega) (by omega)
  ·have:i=xs.length:=by omega
   subst this
   rw [hf,List.drop_length,gF]
def mi:(t:CT)→t.D→Nat
 | .int _,_=>0
 | .bool,_=>0
 | .str,s=>s.length
 | .sl e,xs=>xs.length+(xs.map (mi e)).sum
 | .pair a b,x=>mi a x.1+mi b x.2
def aH (n:Nat):(t:CT)→t.D→Prop
 | .int _,_=>True
 | .bool,_=>True
 | .str,s=>s.length≤n
 | .sl e,xs=>xs.length≤n∧∀x∈xs,aH n e x
 | .pair a b,x=>aH n a x.1∧aH n b x.2
theorem xw {α:Type}(f:α→Nat):∀(xs:List α)(x:α),x∈xs→f x≤(xs.map f).sum
 |y::ys,x,h=>by
  rcases List.mem_cons.1 h with rfl|h
  ·simp
  ·have:=xw f ys x h;simp;omega
theorem qy {n:Nat}:∀{t:CT}{x:t.D},mi t x≤n→aH n t x
 | .int _,_,_=>trivial
 | .bool,_,_=>trivial
 | .str,_,h=>h
 | .sl e,xs,h=>by
   simp only [mi] at h
   exact ⟨by omega,fun x hx=>qy (by have:=xw (mi e) xs x hx;omega)⟩
 | .pair a b,x,h=>by
   simp only [mi] at h
   exact ⟨qy (by omega),qy (by omega)⟩
theorem aH.mono {n m:Nat}(h:n≤m):∀{t:CT}{x:t.D},aH n t x→aH m t x
 | .int _,_,_=>trivial
 | .bool,_,_=>trivial
 | .str,_,k=>Nat.le_trans k h
 | .sl _,_,k=>⟨Nat.le_trans k.1 h,fun x hx=>aH.mono h (k.2 x hx)⟩
 | .pair _ _,_,k=>⟨aH.mono h k.1,aH.mono h k.2⟩
def og:(t:CT)→t.D→Prop
 | .int k,n=>k.min≤n∧n≤k.max
 | .bool,_=>True
 | .str,s=>s.length≤9223372036854775807
 | .sl e,xs=>xs.length≤9223372036854775807∧∀x∈xs,og e x
 | .pair a b,x=>og a x.1∧og b x.2
def dr (l n:Int):Int:=if n≤l then l-n else-1
def vS {α β R:Type}(f:α→Option β)(k0:List β→Int→Option R)(v0:List α)(nx:List β×Int→Option R)(x:List β×Int):Option R:=
 cond (decide (x.2<(List.length v0:Int))) (
  aa (idx v0 x.2) fun x1=>
  aa (f x1) fun r2=>
  aa (idx x.1 x.2) fun _=>
  aa (idx x.1 x.2) fun _=>
  nx (List.set x.1 (Int.toNat x.2) r2,IntKind.wrap .i64 (x.2+1))) (
  k0 x.1 x.2)
noncomputable def BX {α β:Type}(f:α→Option β)(z:β)(a0:List α):Option (List β):=
 if 0≤((List.length a0:Int))∧((List.length a0:Int))≤((List.length a0:Int)) then (
 room (Int.toNat ((List.length a0:Int))) (
 aj (vS f (fun y5 _=>some y5) a0) fuel (List.replicate (Int.toNat ((List.length a0:Int))) z,0))) else none
theorem qB {α:Type}{f:α→Option α}{z:α}{a:List α}(hn:a.length≤1073741824)(hf:∀x∈a,f x=some x):BX f z a=some a:=by
 unfold BX
 have hfu:=bj
 rw [if_pos (by omega),aA (by simp;omega)]
 have key:=sf (T:=vS f (fun y5 _=>some y5) a) a.length (fun (_:Unit) i=>(a.take i++List.replicate (a.length-i) z,(i:Int))) (fun _ s k=>k s) (fun _=>some a)
  (fun i s nx hi=>by
   have h1:(a.take i).length=i:=by simp;omega
   have hl:i<(a.take i++List.replicate (a.length-i) z).length:=by simp;omega
   simp only [vS]
   rw [decide_eq_true (by omega)]
   simp only [cond_true,aC hi,ab,hf _ (List.getElem_mem hi),aC hl]
   congr 1
   refine Prod.ext ?_ (wrap64 (by omega) (by omega))
   simp only [Int.toNat_natCast]
   rw [List.set_append_right _ _ (by omega),h1,Nat.sub_self,List.take_succ_eq_append_getElem hi,show a.length-i=(a.length-(i+1))+1 by omega,List.replicate_succ,List.set_cons_zero,List.append_assoc,List.singleton_append])
  (fun s nx=>by
   simp only [vS]
   rw [decide_eq_false (by omega)]
   simp)
  fuel 0 () (by omega) (by omega)
 simp only [List.take_zero,List.nil_append,Nat.sub_zero,Int.toNat_natCast] at key⊢
 have e:((0:Nat):Int)=0:=rfl
 rw [e] at key
 rw [key]
 have:∀n i,Mb (R:=List α) (fun _ (s:Unit) k=>k s) (fun _=>some a) a.length n i ()=some a:=by
  intro n
  induction n with
  |zero=>intro i;rfl
  |succ n ih=>intro i;rw [Mb];exact ih _
 exact this _ _
def vR {α R:Type}(f:α→Int→Option Int)(k0:Int→Int→Option R)(k1:Int→Int→Int→Option R)(v0:List α)(nx:Int×Int→Option R)(x:Int×Int):Option R:=
 cond (decide (x.2<((List.length v0:Int)))) (
  aa (idx v0 x.2) fun x1=>
  aa (f x1 x.1) fun r2=>
  cond (decide (r2<0)) (
   k1 r2 (-1) x.2) (
   nx (r2,IntKind.wrap .i64 (x.2+1)))) (
  k0 x.1 x.2)
noncomputable def vQ {α:Type}(f:α→Int→Option Int)(a0:List α)(a1:Int):Option Int:=
 cond (decide ((IntKind.wrap .i64 (a1-((List.length a0:Int))))<0)) (
  some (-1)) (
  aj (vR f (fun y3 _=>some y3) (fun _ y6 _=>some y6) a0) fuel (IntKind.wrap .i64 (a1-((List.length a0:Int))),0))
theorem ye {α:Type}{f:α→Int→Option Int}{s:α→Nat}{a:List α}{l:Int}(h0:0≤l)(h1:l≤1048576)(hm:a.length≤9223372036854775807)
 (hf:∀x∈a,∀l:Int,0≤l→l≤1048576→∃r,f x l=some r∧((s x:Int)≤l→r=l-s x)∧(¬(s x:Int)≤l→r<0)):vQ f a l=some (dr l ((a.length+(a.map s).sum:Nat):Int)):=by
 unfold vQ
 have hfu:=bj
 rw [wrap64 (by omega) (by omega)]
 rcases Int.lt_or_le (l-a.length) 0 with hneg|hpos
 ·rw [decide_eq_true hneg]
  simp only [cond_true,dr]
  rw [if_neg (by omega)]
 ·rw [decide_eq_false (by omega)]
  simp only [cond_false]
  have key:=nu (T:=vR f (fun y3 _=>some y3) (fun _ y6 _=>some y6) a) a (fun (q:Int) i=>(q,(i:Int)))
   (fun x q k=>aa (f x q) fun r=>cond (decide (r<0)) (some (-1)) (k r)) (fun q=>some q)
   (fun i hi q nx=>by
    simp only [vR]
    rw [decide_eq_true (by omega)]
    simp only [cond_true,aC hi,ab]
    rw [wrap64 (by omega) (by omega)]
    rfl)
   (fun q nx=>by
    simp only [vR]
    rw [decide_eq_false (by omega)]
    rfl)
   fuel 0 (l-a.length) (by omega) (by omega)
  have e:((0:Nat):Int)=0:=rfl
  rw [e,List.drop_zero] at key
  rw [key]
  have main:∀(b:List α)(q:Int),0≤q→q≤1048576→(∀x∈b,x∈a)→gF (fun x q k=>aa (f x q) fun r=>cond (decide (r<0)) (some (-1)) (k r)) (fun q=>some q) b q=some (dr q ((b.map s).sum:Nat)):=by
   intro b
   induction b with
   |nil=>intro q hq _ _;simp [gF,dr,hq]
   |cons x b ih=>
    intro q hq hq2 hb
    obtain ⟨r,hr,hr1,hr2⟩:=hf x (hb x (by simp)) q hq hq2
    rw [gF,hr,ab]
    by_cases hle:(s x:Int)≤q
    ·have:=hr1 hle
     subst this
     rw [decide_eq_false (by omega)]
     simp only [cond_false]
     rw [ih _ (by omega) (by omega) (fun y hy=>hb y (by simp [hy]))]
     simp only [dr,List.map_cons,List.sum_cons]
     congr 1
     split<;>split<;>omega
    ·rw [decide_eq_true (hr2 hle)]
     simp only [cond_true,dr,List.map_cons,List.sum_cons]
     rw [if_neg (by omega)]
  rw [main a _ (by omega) (by omega) (fun x h=>h)]
  simp only [dr]
  congr 1
  split<;>split<;>omega
def vL {α R:Type}(f:α→α→Option Bool)(k0:Int→Option R)(k1:Bool→Int→Option R)(v0 v1:List α)(nx:Int→Option R)(x:Int):Option R:=
 cond (decide (x<((List.length v0:Int)))) (
  aa (idx v0 x) fun x1=>
  aa (idx v1 x) fun x2=>
  aa (f x1 x2) fun r3=>
  cond (!r3) (
   k1 false x) (
   nx (IntKind.wrap .i64 (x+1)))) (
  k0 x)
noncomputable def AP {α:Type}(f:α→α→Option Bool)(a0 a1:List α):Option Bool:=
 cond (((List.length a0:Int)) !=((List.length a1:Int))) (
  some false) (
  aj (vL f (fun _=>some true) (fun y5 _=>some y5) a0 a1) fuel 0)
theorem bR {α:Type}{f:α→α→Option Bool}{a:List α}(hm:a.length≤1000000000000)(hf:∀x∈a,f x x=some true):AP f a a=some true:=by
 unfold AP
 have hfu:=bj
 simp only [bne_self_eq_false,cond_false]
 have key:=nu (T:=vL f (fun _=>some true) (fun y5 _=>some y5) a a) a (fun (_:Unit) i=>(i:Int)) (fun x s k=>aa (f x x) fun r=>cond (!r) (some false) (k s)) (fun _=>some true)
  (fun i hi s nx=>by
   simp only [vL]
   rw [decide_eq_true (by omega)]
   simp only [cond_true,aC hi,ab]
   rw [wrap64 (by omega) (by omega)]
   rfl)
  (fun s nx=>by
   simp only [vL]
   rw [decide_eq_false (by omega)]
   rfl)
  fuel 0 () (by omega) (by omega)
 have e:((0:Nat):Int)=0:=rfl
 rw [e,List.drop_zero] at key
 rw [key]
 have main:∀(b:List α),(∀x∈b,x∈a)→gF (fun x s k=>aa (f x x) fun r=>cond (!r) (some false) (k s)) (fun _=>some true) b ()=some true:=by
  intro b
  induction b with
  |nil=>intro _;rfl
  |cons x b ih=>intro hb;rw [gF,hf x (hb x (by simp))];simp only [ab,Bool.not_true,cond_false];exact ih (fun y hy=>hb y (by simp [hy]))
 exact main a (fun x h=>h)
theorem yh {α:Type}{z:α}{a:List α}(hn:a.length≤1073741824):BX some z a=some a:=qB hn (fun _ _=>rfl)
theorem pU {α:Type}[BEq α][LawfulBEq α]{a:List α}(hm:a.length≤1000000000000):AP (fun x y:α=>some (x==y)) a a=some true:=bR hm (fun x _=>by simp)
theorem ue {α:Type}{f:α→Nat}:∀{xs:List α},(∀x∈xs,f x=0)→(xs.map f).sum=0
 |[],_=>rfl
 |x::xs,h=>by
  have:=ue (xs:=xs) (f:=f) (fun y hy=>h y (by simp [hy]))
  simp [h x (by simp),this]
def b5 (f:Int→Option Int)(n:Nat):Prop:=∀l:Int,0≤l→l≤1048576→f l=some (dr l n)
theorem b5.nil:b5 (fun l=>some l) 0:=fun l h0 _=>by simp [dr,h0]
theorem b5.len {n m:Nat}(hn:n≤9223372036854775807){k:Int→Option Int}(h:b5 k m):
 b5 (fun l=>cond (decide (IntKind.wrap .i64 (l-(n:Int))<0)) (some (-1)) (k (IntKind.wrap .i64 (l-(n:Int))))) (n+m):=by
 intro l h0 h1
 simp only
 rw [wrap64 (by omega) (by omega)]
 by_cases hl:l-(n:Int)<0
 ·rw [decide_eq_true hl];simp only [cond_true,dr];rw [if_neg (by omega)]
 ·rw [decide_eq_false hl]
  simp only [cond_false]
  rw [h _ (by omega) (by omega)]
  simp only [dr]
  congr 1
  split<;>split<;>omega
theorem b5.sub {f k:Int→Option Int}{n m:Nat}(hf:b5 f n)(h:b5 k m):b5 (fun l=>aa (f l) fun r=>cond (decide (r<0)) (some (-1)) (k r)) (n+m):=by
 intro l h0 h1
 simp only
 rw [hf l h0 h1,ab]
 by_cases hl:(n:Int)≤l
 ·have e:dr l n=l-n:=by simp [dr,hl]
  rw [e,decide_eq_false (by omega)]
  simp only [cond_false]
  rw [h _ (by omega) (by omega)]
  simp only [dr]
  congr 1
  split<;>split<;>omega
 ·have e:dr l n= -1:=by simp [dr,hl]
  rw [e]
  simp only [dr]
  rw [if_neg (by omega)]
  rfl
theorem b5.cast {f:Int→Option Int}{n m:Nat}(h:b5 f n)(e:n=m):b5 f m:=e▸h
theorem b5.list {α:Type}{f:α→Int→Option Int}{s:α→Nat}{a:List α}(hm:a.length≤9223372036854775807)(hf:∀x∈a,b5 (f x) (s x)):b5 (vQ f a) (a.length+(a.map s).sum):=
 fun _ h0 h1=>ye h0 h1 hm (fun x hx l h0 h1=>⟨_,hf x hx l h0 h1,fun h=>by simp [dr,h],fun h=>by simp [dr,h]⟩)
theorem b5.flat {n:Nat}(hn:n≤9223372036854775807):b5 (fun l=>cond (decide (IntKind.wrap .i64 (l-(n:Int))<0)) (some (-1)) (some (IntKind.wrap .i64 (l-(n:Int))))) n:=
 (b5.len (n:=n) hn b5.nil).cast (by omega)
theorem b5.strs {a:List (List UInt8)}(hm:og (.sl .str) a):b5 (vQ (fun x l=>some (IntKind.wrap .i64 (l-(x.length:Int)))) a) (mi (.sl .str) a):=
 fun _ h0 h1=>ye (s:=mi .str) h0 h1 hm.1 (fun x hx l h0 h1=>⟨l-x.length,by
  have:x.length≤9223372036854775807:=hm.2 x hx
  rw [wrap64 (by omega) (by omega)],fun _=>rfl,fun h=>by simp only [mi] at h;omega⟩)
theorem b5.use {f:Int→Option Int}{n:Nat}(hf:b5 f n){l:Int}(h0:0≤l)(h1:l≤1048576){k:Int→Option Bool}(hk:(n:Int)≤l→k (l-n)=some true):
 (aa (f l) fun r=>cond (decide (r<0)) (some true) (k r))=some true:=by
 rw [hf l h0 h1,ab]
 by_cases hl:(n:Int)≤l
 ·have e:dr l n=l-n:=by simp [dr,hl]
  rw [e,decide_eq_false (by omega)]
  exact hk hl
 ·have e:dr l n= -1:=by simp [dr,hl]
  rw [e];rfl
theorem B7 {α R:Type}{T:(Int→Option R)→Int→Option R}{fin hit:Option R}(p:α→Bool)(a:List α)(h:a.length≤1000000000000)
 (hs:∀i (hi:i<a.length) nx,T nx (i:Int)=cond (p a[i]) hit (nx ((i+1:Nat):Int))) (hf:∀nx,T nx (a.length:Int)=fin):
 aj T fuel 0=cond (a.any p) hit fin:=by
 have hfu:=bj
 have key:∀n i,i≤a.length→a.length-i<n→aj T n (i:Int)=cond ((a.drop i).any p) hit fin:=by
  intro n
  induction n with
  |zero=>intro i _ h;omega
  |succ n ih=>
   intro i hi hn
   rw [aj]
   rcases Nat.lt_or_ge i a.length with hlt|hge
   ·rw [hs i hlt,List.drop_eq_getElem_cons hlt,List.any_cons]
    cases hq:p a[i] with
    |true=>rfl
    |false=>exact ih (i+1) (by omega) (by omega)
   ·have:i=a.length:=by omega
    subst this
    rw [hf,List.drop_length];rfl
 exact key fuel 0 (by omega) (by omega)
theorem eB {R:Type}{T:(Int→Option R)→Int→Option R}{fin hit:Option R}(p:Nat→Bool)(N:Nat)(h:N≤1000000000000)
 (hs:∀i nx,i<N→T nx (i:Int)=cond (!(p i)) hit (nx ((i+1:Nat):Int))) (hf:∀nx,T nx (N:Int)=fin):
 aj T fuel 0=cond ((List.range N).all p) fin hit:=by
 have hfu:=bj
 have key:∀n i,i≤N→N-i<n→aj T n (i:Int)=cond ((List.range' i (N-i)).all p) fin hit:=by
  intro n
  induction n with
  |zero=>intro i _ h;omega
  |succ n ih=>
   intro i hi hn
   rw [aj]
   rcases Nat.lt_or_ge i N with hlt|hge
   ·rw [hs i _ hlt,show N-i=(N-(i+1))+1 by omega,List.range'_succ,List.all_cons]
    cases hq:p i with
    |false=>rfl
    |true=>exact ih (i+1) (by omega) (by omega)
   ·have:i=N:=by omega
    subst this
    rw [hf,Nat.sub_self];rfl
 have:=key fuel 0 (by omega) (by omega)
 rw [Nat.sub_zero,←List.range_eq_range'] at this
 exact this
theorem jP {α R:Type}{T:(Int→Option R)→Int→Option R}{fin hit:Option R}(p:α→Bool)(a:List α)(h:a.length≤1000000000000)
 (hs:∀i (hi:i<a.length) nx,T nx (i:Int)=cond (!(p a[i])) hit (nx ((i+1:Nat):Int))) (hf:∀nx,T nx (a.length:Int)=fin):
 aj T fuel 0=cond (a.all p) fin hit:=by
 have:=B7 (T:=T) (fin:=fin) (hit:=hit) (fun x=> !(p x)) a h hs hf
 rw [this]
 have e:a.any (fun x=> !(p x))= !(a.all p):=by
  rw [Bool.eq_iff_iff];simp
 rw [e]
 cases a.all p<;>rfl
theorem fold_iter {α X σ R:Type}{T:(X→Option R)→X→Option R}(xs:List α)(e:σ→Nat→X)(g:σ→α→σ)(fin:σ→Option R)(h:xs.length≤1000000000000)
 (hs:∀i (hi:i<xs.length) s nx,T nx (e s i)=nx (e (g s xs[i]) (i+1))) (hf:∀s nx,T nx (e s xs.length)=fin s) (s:σ):
 aj T fuel (e s 0)=fin (xs.foldl g s):=by
 have hfu:=bj
 have key:=nu (T:=T) xs e (fun x s k=>k (g s x)) fin hs hf fuel 0 s (by omega) (by omega)
 rw [key,List.drop_zero]
 clear key hs hf h
 induction xs generalizing s with
 |nil=>rfl
 |cons x xs ih=>rw [gF,List.foldl_cons];exact ih _
theorem uv {X R:Type}{T:(X→Option R)→X→Option R}{fin hit:Option R}(e:Nat→X)(p:Nat→Bool)(N:Nat)(h:N≤1000000000000)
 (hs:∀i nx,i<N→(∀j,j<i→p j=true)→T nx (e i)=cond (!(p i)) hit (nx (e (i+1)))) (hf:(∀j,j<N→p j=true)→∀nx,T nx (e N)=fin):
 aj T fuel (e 0)=cond ((List.range N).all p) fin hit:=by
 have hfu:=bj
 have key:∀n i,i≤N→N-i<n→(∀j,j<i→p j=true)→aj T n (e i)=cond ((List.range' i (N-i)).all p) fin hit:=by
  intro n
  induction n with
  |zero=>intro i _ h;omega
  |succ n ih=>
   intro i hi hn hp
   rw [aj]
   rcases Nat.lt_or_ge i N with hlt|hge
   ·rw [hs i _ hlt hp,show N-i=(N-(i+1))+1 by omega,List.range'_succ,List.all_cons]
    cases hq:p i with
    |false=>rfl
    |true=>
     refine ih (i+1) (by omega) (by omega) fun j hj=> ?_
     by_cases hji:j=i
     ·rw [hji];exact hq
     ·exact hp j (by omega)
   ·have:i=N:=by omega
    subst this
    rw [hf hp,Nat.sub_self];rfl
 have:=key fuel 0 (by omega) (by omega) (fun j hj=>absurd hj (by omega))
 rw [Nat.sub_zero,←List.range_eq_range'] at this
 exact this
theorem uB {α R:Type}{T:(Int→Option R)→Int→Option R}{fin:Option R}{hit:Int→Option R}(p:α→Bool)(a:List α)(h:a.length≤1000000000000)
 (hs:∀i (hi:i<a.length) nx,T nx (i:Int)=cond (p a[i]) (hit (i:Int)) (nx ((i+1:Nat):Int))) (hf:∀nx,T nx (a.length:Int)=fin):
 aj T fuel 0=(match a.findIdx? p with|some i=>hit (i:Int)|none=>fin):=by
 have hfu:=bj
 have key:∀n i,i≤a.length→a.length-i<n→aj T n (i:Int)=(match (a.drop i).findIdx? p with|some j=>hit ((i+j:Nat):Int)|none=>fin):=by
  intro n
  induction n with
  |zero=>intro i _ h;omega
  |succ n ih=>
   intro i hi hn
   rw [aj]
   rcases Nat.lt_or_ge i a.length with hlt|hge
   ·rw [hs i hlt,List.drop_eq_getElem_cons hlt,List.findIdx?_cons]
    cases hq:p a[i] with
    |true=>rfl
    |false=>
     have:=ih (i+1) (by omega) (by omega)
     simp only [cond_false]
     refine this.trans ?_
     cases (a.drop (i+1)).findIdx? p with
     |none=>rfl
     |some j=>simp only [Option.map_some,Bool.false_eq_true,if_false];congr 2;omega
   ·have:i=a.length:=by omega
    subst this
    rw [hf,List.drop_length];rfl
 have:=key fuel 0 (by omega) (by omega)
 refine this.trans ?_
 rw [List.drop_zero]
 cases a.findIdx? p with
 |none=>rfl
 |some j=>simp only [Nat.zero_add]
theorem cF (a b:Bool):(bif a then b else false)=(a&&b):=by cases a<;>rfl
theorem cT (a b:Bool):(bif a then true else b)=(a||b):=by cases a<;>rfl
theorem cN (a b:Bool):(bif a then false else b)=(!a&&b):=by cases a<;>rfl
def tT {α σ R:Type}(g:α→σ→Except (Option R) σ)(fin:σ→Option R):List α→σ→Option R
 |[],s=>fin s
 |x::xs,s=>match g x s with| .error r=>r| .ok s'=>tT g fin xs s'
theorem k7 {α X σ R:Type}{T:(X→Option R)→X→Option R}(xs:List α)(e:σ→Nat→X)(Inv:Nat→σ→Prop)(g:α→σ→Except (Option R) σ)(fin:σ→Option R)(h:xs.length≤1000000000000)
 (hs:∀i (hi:i<xs.length) s nx,Inv i s→T nx (e s i)=match g xs[i] s with| .error r=>r| .ok s'=>nx (e s' (i+1)))
 (hn:∀i (hi:i<xs.length) s s',Inv i s→g xs[i] s= .ok s'→Inv (i+1) s') (hf:∀s nx,Inv xs.length s→T nx (e s xs.length)=fin s) (s:σ) (h0:Inv 0 s):
 aj T fuel (e s 0)=tT g fin xs s:=by
 have key:∀n i s,i≤xs.length→xs.length-i<n→Inv i s→aj T n (e s i)=tT g fin (xs.drop i) s:=by
  intro n
  induction n with
  |zero=>intro i s _ h;omega
  |succ n ih=>
   intro i s hi hn' hI
   rw [aj]
   rcases Nat.lt_or_ge i xs.length with hlt|hge
   ·rw [hs i hlt s _ hI,List.drop_eq_getElem_cons hlt,tT]
    cases hg:g xs[i] s with
    |error r=>rfl
    |ok s'=>exact ih (i+1) s' (by omega) (by omega) (hn i hlt s s' hI hg)
   ·have:i=xs.length:=by omega
    subst this
    rw [hf s _ hI,List.drop_length,tT]
 have hfu:=bj
 have:=key fuel 0 s (by omega) (by omega) h0
 rwa [List.drop_zero] at this
theorem tU {α σ R:Type}(f:σ→α→σ)(fin:σ→Option R):∀(xs:List α)(s:σ),tT (fun x s=> .ok (f s x)) fin xs s=fin (xs.foldl f s)
 |[],_=>rfl
 |x::xs,s=>by rw [tT];exact tU f fin xs (f s x)
theorem fX {X R:Type}{T:(X→Option R)→X→Option R}{fin:Option R}(e:Nat→X)(N:Nat)(h:N≤1000000000000)
 (hs:∀i nx,i<N→T nx (e i)=nx (e (i+1))) (hf:∀nx,T nx (e N)=fin):aj T fuel (e 0)=fin:=by
 rw [uv (hit:=fin) (fin:=fin) e (fun _=>true) N h (fun i nx hi _=>by rw [hs i nx hi];rfl) (fun _ nx=>hf nx)]
 cases (List.range N).all (fun _=>true)<;>rfl
theorem k6 {α R:Type}{l:List α}{k:Option R}(h:l.length≤1000000000):room (List.length ([]:List α)+l.length) k=k:=aA (by simp only [List.length_nil];omega)
end Go.Pu
end
section
namespace Go.Pu
open Go.Dn
set_option linter.unusedVariables false
set_option linter.unusedSimpArgs false
theorem G6 (a:List Int)(hm:og (.sl (.int .i64)) a):b5 (oF a) (mi (.sl (.int .i64)) a):=
 (b5.flat (n:=a.length) hm.1).cast (by simp only [mi];rw [ue (fun x _=>by simp only [mi])];rfl)
theorem IE (a:Filter)(hm:og cn a):b5 (lX a) (mi cn a):=
 b5.cast (f:=lX a) (b5.sub (G6 a.2.2 hm.2.2) b5.nil) (by simp only [mi];try omega)
theorem F3 (a:ar)(hm:og aw a):b5 (gX a) (mi aw a):=
 b5.cast (f:=gX a) (b5.sub (IE a.1 hm.1) b5.nil) (by simp only [mi];try omega)
theorem D9 (a:List ar)(hm:og (.sl aw) a):b5 (mM a) (mi (.sl aw) a):=
 b5.list (f:=gX) (s:=mi aw) hm.1 (fun x hx=>F3 x (hm.2 x hx))
theorem KJ (a:List bM)(hm:og (.sl bt) a):b5 (qj a) (mi (.sl bt) a):=
 (b5.flat (n:=a.length) hm.1).cast (by simp only [mi];rw [ue (fun x _=>by simp only [mi])];rfl)
theorem KK (a:List Slot)(hm:og (.sl aQ) a):b5 (qk a) (mi (.sl aQ) a):=
 (b5.flat (n:=a.length) hm.1).cast (by simp only [mi];rw [ue (fun x _=>by simp only [mi])];rfl)
theorem BT (a:List Slot)(hm:og (.sl aQ) a):b5 (iq a) (mi (.sl aQ) a):=
 b5.cast (f:=iq a) (b5.sub (KK a hm) b5.nil) (by simp only [mi];try omega)
theorem IG (a:c9)(hm:og cK a):b5 (lY a) (mi cK a):=
 b5.cast (f:=lY a) (b5.len (n:=a.1.length) hm.1 (b5.sub (G6 a.2 hm.2) b5.nil)) (by simp only [mi];try omega)
theorem Ea (a:aD)(hm:og aK a):b5 (jv a) (mi aK a):=
 b5.cast (f:=jv a) (b5.sub (KJ a.1 hm.1) (b5.sub (BT a.2.1 hm.2.1) (b5.sub (IG a.2.2 hm.2.2) b5.nil))) (by simp only [mi];try omega)
theorem F4 (a:List Bytes)(hm:og (.sl .str) a):b5 (nU a) (mi (.sl .str) a):=
 b5.strs hm
theorem KI (a:List Bytes)(hm:og (.sl .str) a):b5 (mY a) (mi (.sl .str) a):=
 b5.cast (f:=mY a) (b5.sub (F4 a hm) b5.nil) (by simp only [mi];try omega)
theorem vT (a:List Int)(h:aH 1048576 (.sl (.int .i64)) a):oH a=some a:=
 yh (z:=0) (Nat.le_trans h.1 (by omega))
theorem zP (a:Filter)(h:aH 1048576 cn a):iW a=some a:=by
 first|(simp only [iW,vT _ h.2.2,ab];done)|(simp only [iW,vT _ h.2.2,ab];rfl)
theorem F5 (a:ar)(h:aH 1048576 aw a):eL a=some a:=by
 first|(simp only [eL,zP _ h.1,ab];done)|(simp only [eL,zP _ h.1,ab];rfl)
theorem Ed (a:List ar)(h:aH 1048576 (.sl aw) a):dD a=some a:=
 qB (f:=eL) (z:=((0,false,([]:List Int)),0,0,0)) (Nat.le_trans h.1 (by omega)) (fun x hx=>F5 x (h.2 x hx))
theorem M8 (a:bM)(h:aH 1048576 bt a):oI a=some a:=rfl
theorem Ee (a:List bM)(h:aH 1048576 (.sl bt) a):ql a=some a:=
 qB (f:=oI) (z:=(0,0,0,0,0,0,0,0,0)) (Nat.le_trans h.1 (by omega)) (fun x hx=>M8 x (h.2 x hx))
theorem Ha (a:ee)(h:aH 1048576 jN a):rn a=some a:=rfl
theorem M9 (a:Slot)(h:aH 1048576 aQ a):jX a=some a:=by
 first|(simp only [jX,Ha _ h.2.1,ab];done)|(simp only [jX,Ha _ h.2.1,ab];rfl)
theorem Ef (a:List Slot)(h:aH 1048576 (.sl aQ) a):qm a=some a:=
 qB (f:=jX) (z:=(0,(0,0,0,0,0),0)) (Nat.le_trans h.1 (by omega)) (fun x hx=>M9 x (h.2 x hx))
theorem ug (a:List Slot)(h:aH 1048576 (.sl aQ) a):eK a=some a:=by
 first|(simp only [eK,Ef _ h,ab];done)|(simp only [eK,Ef _ h,ab];rfl)
theorem zQ (a:c9)(h:aH 1048576 cK a):iX a=some a:=by
 first|(simp only [iX,vT _ h.2,ab];done)|(simp only [iX,vT _ h.2,ab];rfl)
theorem Eg (a:aD)(h:aH 1048576 aK a):ck a=some a:=by
 first|(simp only [ck,Ee _ h.1,ug _ h.2.1,zQ _ h.2.2,ab];done)|(simp only [ck,Ee _ h.1,ug _ h.2.1,zQ _ h.2.2,ab];rfl)
theorem RE (a:ez)(h:aH 1048576 cm a):fR a=some a:=rfl
theorem yi (a:List Bytes)(h:aH 1048576 (.sl .str) a):nW a=some a:=
 yh (z:=([]:Bytes)) (Nat.le_trans h.1 (by omega))
theorem LY (a:List Bytes)(h:aH 1048576 (.sl .str) a):dS a=some a:=by
 first|(simp only [dS,yi _ h,ab];done)|(simp only [dS,yi _ h,ab];rfl)
theorem pV (a:List Int)(h:aH 1000000000000 (.sl (.int .i64)) a):dP a a=some true:=
 pU h.1
theorem zb (a:Filter)(h:aH 1000000000000 cn a):iT a a=some true:=by
 simp [iT,pV _ h.2.2]
theorem EM (a:ar)(h:aH 1000000000000 aw a):gK a a=some true:=by
 simp [gK,zb _ h.1]
theorem u5 (a:List ar)(h:aH 1000000000000 (.sl aw) a):jt a a=some true:=
 bR (f:=gK) h.1 (fun x hx=>EM x (h.2 x hx))
theorem pW (a:List Bytes)(h:aH 1000000000000 (.sl .str) a):eG a a=some true:=
 pU h.1
theorem CH (a:List Bytes)(h:aH 1000000000000 (.sl .str) a):kz a a=some true:=by
 simp [kz,pW _ h]
theorem Ms (a:bM)(h:aH 1000000000000 bt a):my a a=some true:=by
 simp [my]
theorem Jg (a:List bM)(h:aH 1000000000000 (.sl bt) a):qg a a=some true:=
 bR (f:=my) h.1 (fun x hx=>Ms x (h.2 x hx))
theorem GC (a:ee)(h:aH 1000000000000 jN a):mu a a=some true:=by
 simp [mu]
theorem Mu (a:Slot)(h:aH 1000000000000 aQ a):mA a a=some true:=by
 simp [mA,GC _ h.2.1]
theorem Ji (a:List Slot)(h:aH 1000000000000 (.sl aQ) a):qi a a=some true:=
 bR (f:=mA) h.1 (fun x hx=>Mu x (h.2 x hx))
theorem AU (a:List Slot)(h:aH 1000000000000 (.sl aQ) a):ie a a=some true:=by
 simp [ie,Ji _ h]
theorem Hs (a:c9)(h:aH 1000000000000 cK a):lV a a=some true:=by
 simp [lV,pV _ h.2]
theorem u6 (a:aD)(h:aH 1000000000000 aK a):fG a a=some true:=by
 simp [fG,Jg _ h.1,AU _ h.2.1,Hs _ h.2.2]
theorem Hq (a:List Bytes)(h:aH 1000000000000 (.sl .str) a):lT a a=some true:=by
 simp [lT,pW _ h]
theorem EN (a:ai)(h:aH 1000000000000 aB a):gL a a=some true:=by
 simp [gL]
theorem CI (a:List ai)(h:aH 1000000000000 (.sl aB) a):mK a a=some true:=
 bR (f:=gL) h.1 (fun x hx=>EN x (h.2 x hx))
theorem GF (a:cw)(h:aH 1000000000000 cu a):mx a a=some true:=by
 simp [mx]
theorem GD (a:aY)(h:aH 1000000000000 cc a):jW a a=some true:=by
 simp [jW,pV _ h.2.2.2]
theorem Mt (a:fZ)(h:aH 1000000000000 df a):mz a a=some true:=by
 simp [mz,pV _ h.2.2]
theorem Jh (a:List fZ)(h:aH 1000000000000 (.sl df) a):qh a a=some true:=
 bR (f:=mz) h.1 (fun x hx=>Mt x (h.2 x hx))
theorem ES (a:mP)(h:aH 1000000000000 iK a):kB a a=some true:=by
 simp [kB,GF _ h.1,GD _ h.2.1,Jh _ h.2.2.1]
theorem nA (a:ez)(h:aH 1000000000000 cm a):cd a a=some true:=by
 simp [cd]
theorem EP (a:jh)(h:aH 1000000000000 qW a):kA a a=some true:=by
 simp [kA]
theorem Hr (a:bH)(h:aH 1000000000000 rQ a):lU a a=some true:=by
 simp [lU,EP _ h.2.2.2.2.2.2.2.2]
theorem Jj (a:vV)(h:aH 1000000000000 uu a):mX a a=some true:=by
 simp [mX,Hr _ h.1]
theorem EO (a:bg)(h:aH 1000000000000 ba a):gM a a=some true:=by
 simp [gM,GF _ h.1,nA _ h.2.1,nA _ h.2.2.1,Jj _ h.2.2.2.1]
theorem CJ (a:List bg)(h:aH 1000000000000 (.sl ba) a):mL a a=some true:=
 bR (f:=gM) h.1 (fun x hx=>EO x (h.2 x hx))
theorem Jf (a:List aY)(h:aH 1000000000000 (.sl cc) a):qf a a=some true:=
 bR (f:=jW) h.1 (fun x hx=>GD x (h.2 x hx))
theorem Hu (a:Vector)(h:aH 1000000000000 bh a):iV a a=some true:=by
 simp [iV]
theorem ET (a:List Vector)(h:aH 1000000000000 (.sl bh) a):nQ a a=some true:=
 bR (f:=iV) h.1 (fun x hx=>Hu x (h.2 x hx))
theorem Jc (a:List Bool)(h:aH 1000000000000 (.sl .bool) a):qd a a=some true:=
 pU h.1
theorem Ht (a:Stream)(h:aH 1000000000000 bd a):iU a a=some true:=by
 simp [iU,GC _ h.1]
theorem ER (a:List Stream)(h:aH 1000000000000 (.sl bd) a):nP a a=some true:=
 bR (f:=iU) h.1 (fun x hx=>Ht x (h.2 x hx))
theorem CG (a:ee)(h:aH 1000000000000 jN a):js a a=some true:=by
 simp [js]
theorem Mr (a:Host)(h:aH 1000000000000 bB a):mw a a=some true:=by
 simp [mw,Hq _ h.1,CI _ h.2.1,ES _ h.2.2.1,CJ _ h.2.2.2.1,Jf _ h.2.2.2.2.1,ET _ h.2.2.2.2.2.1,Jc _ h.2.2.2.2.2.2.1,zb _ h.2.2.2.2.2.2.2.1,u6 _ h.2.2.2.2.2.2.2.2.1,ER _ h.2.2.2.2.2.2.2.2.2.1,pW _ h.2.2.2.2.2.2.2.2.2.2.2.1,pV _ h.2.2.2.2.2.2.2.2.2.2.2.2.1,pV _ h.2.2.2.2.2.2.2.2.2.2.2.2.2.1,CG _ h.2.2.2.2.2.2.2.2.2.2.2.2.2.2]
theorem Je (a:List Host)(h:aH 1000000000000 (.sl bB) a):qe a a=some true:=
 bR (f:=mw) h.1 (fun x hx=>Mr x (h.2 x hx))
theorem Hp (a:ez)(h:aH 1000000000000 cm a):lS a a=some true:=by
 simp [lS]
theorem sY (a:au)(h:aH 1000000000000 ao a):cf a a=some true:=by
 simp [cf,Hp _ h.2.2.1]
theorem sy (a:List au)(h:aH 1000000000000 (.sl ao) a):eH a a=some true:=
 bR (f:=cf) h.1 (fun x hx=>sY x (h.2 x hx))
theorem Jd (a:cw)(h:aH 1000000000000 cu a):mW a a=some true:=by
 simp [mW]
theorem Mq (a:gC)(h:aH 1000000000000 mN a):jV a a=some true:=by
 simp [jV,Je _ h.1,sy _ h.2.1,u5 _ h.2.2.1,CH _ h.2.2.2.1,Jd _ h.2.2.2.2.1,pV _ h.2.2.2.2.2.1,pW _ h.2.2.2.2.2.2]
end Go.Pu
end
section
namespace Go.Pu
open Go.Dn
set_option linter.unusedSimpArgs false
noncomputable section
def bp (a lo hi:Int):Bool:=decide (lo≤a)&&decide (a≤hi)
theorem bf {a lo hi:Int}:bp a lo hi=true↔lo≤a∧a≤hi:=by simp [bp]
theorem bc (a b c:Int):ay a b c=some (bp a b c):=by
 simp only [ay,aN,ab,bp]
 cases h:decide (a≥b)<;>rfl
theorem bI (a b c:Int):al a b c=some (bp a b c):=bc a b c
theorem bl {α:Type}{l:List α}{i:Nat}(h:i<l.length)(d:α):l.getD i d=l[i]:=by rw [List.getD_eq_getElem?_getD,List.getElem?_eq_getElem h];rfl
theorem SS {p:Prop}[Decidable p](h:p):decide p=true:=decide_eq_true h
theorem Rj {p:Prop}[Decidable p](h:¬p):decide p=false:=decide_eq_false h
def ym (l:List Int)(i:Nat):Bool:=bp (l.getD i 0) 0 4095&& !(decide (0<i)&&decide (l.getD i 0≤l.getD (i-1) 0))
def ei (f:Filter):Bool:=(List.range f.2.2.length).all (ym f.2.2)&&(bp f.1 0 281474976710654&&decide ((f.2.2.length:Int)≤8))
theorem ti (f:Filter)(h:f.2.2.length≤1000000000):fU f=some (ei f):=by
 unfold fU
 rw [eB (hit:=some false) (fin:=some (bp f.1 0 281474976710654&&decide ((f.2.2.length:Int)≤8))) (ym f.2.2) f.2.2.length (by omega) (fun i nx hi=> ?hs) (fun nx=> ?hf)]
 case hs=>
  simp only [iu]
  rw [decide_eq_true (by omega),aC hi,wrap64 (n:=(i:Int)+1) (by omega) (by omega)]
  simp only [cond_true,ab,bc,ym,bl hi]
  by_cases h0:0<i
  ·have e:IntKind.wrap .i64 ((i:Int)-1)=((i-1:Nat):Int):=by rw [wrap64 (by omega) (by omega)];omega
   have hp:i-1<f.2.2.length:=by omega
   rw [e,aC hp,decide_eq_true (show (i:Int)>0 by omega),decide_eq_true h0,bl hp]
   simp only [cond_true,ab,Bool.true_and]
   cases bp f.2.2[i] 0 4095<;>cases decide (f.2.2[i]≤f.2.2[i-1])<;>rfl
  ·rw [decide_eq_false (show¬(i:Int)>0 by omega),decide_eq_false h0]
   simp only [cond_false,Bool.false_and]
   cases bp f.2.2[i] 0 4095<;>rfl
 case hf=>
  simp only [iu]
  rw [decide_eq_false (by omega)]
  simp only [cond_false,bc,ab,qG,aN]
  cases bp f.1 0 281474976710654<;>rfl
 unfold ei
 cases (List.range f.2.2.length).all (ym f.2.2)<;>rfl
theorem s7 (f:Filter)(h:f.2.2.length≤1000000000):fP f=some (ei f):=by
 unfold fP
 rw [eB (hit:=some false) (fin:=some (bp f.1 0 281474976710654&&decide ((f.2.2.length:Int)≤8))) (ym f.2.2) f.2.2.length (by omega) (fun i nx hi=> ?hs) (fun nx=> ?hf)]
 case hs=>
  simp only [hZ]
  rw [decide_eq_true (by omega),aC hi,wrap64 (n:=(i:Int)+1) (by omega) (by omega)]
  simp only [cond_true,ab,bI,ym,bl hi]
  by_cases h0:0<i
  ·have e:IntKind.wrap .i64 ((i:Int)-1)=((i-1:Nat):Int):=by rw [wrap64 (by omega) (by omega)];omega
   have hp:i-1<f.2.2.length:=by omega
   rw [e,aC hp,decide_eq_true (show (i:Int)>0 by omega),decide_eq_true h0,bl hp]
   simp only [cond_true,ab,Bool.true_and,ge_iff_le]
   cases bp f.2.2[i] 0 4095<;>cases decide (f.2.2[i]≤f.2.2[i-1])<;>rfl
  ·rw [decide_eq_false (show¬(i:Int)>0 by omega),decide_eq_false h0]
   simp only [cond_false,Bool.false_and]
   cases bp f.2.2[i] 0 4095<;>rfl
 case hf=>
  simp only [hZ]
  rw [decide_eq_false (by omega)]
  simp only [cond_false,bI,ab,qG,aN]
  cases bp f.1 0 281474976710654<;>rfl
 unfold ei
 cases (List.range f.2.2.length).all (ym f.2.2)<;>rfl
def rF (r:bM):Bool:=(fb r).getD false
theorem D2 (r:bM):fb r=some (rF r):=by
 have:∃b,fb r=some b:=by
  simp only [fb,bc,ab,aN]
  exact ⟨_,rfl⟩
 obtain ⟨b,hb⟩:=this
 simp [rF,hb]
theorem UD (r:bM):rk r=some (rF r):=D2 r
theorem DQ {r:bM}(h:rF r=true):r.2.2.2.2.2.2.2.1=0∨r.2.2.2.2.2.2.2.2=0:=by
 by_cases h0:r.2.2.2.2.2.2.2.1=0
 ·exact .inl h0
 ·by_cases h1:r.2.2.2.2.2.2.2.2=0
  ·exact .inr h1
  ·exfalso
   have e0:(r.2.2.2.2.2.2.2.1==0)=false:=by simp [h0]
   have e1:(r.2.2.2.2.2.2.2.2==0)=false:=by simp [h1]
   revert h
   unfold rF
   simp only [fb,bc,ab,aN,e0,e1,cond_false,Option.getD_some]
   have z:∀c:Bool,(bif c then false else false)=false:=by intro c;cases c<;>rfl
   simp only [z]
   intro h
   cases h
def qu (l:List bM):Bool:=l.all rF&&decide ((l.length:Int)≤12)
theorem zK (l:List bM)(h:l.length≤1000000000):nb l=some (qu l):=by
 unfold nb
 rw [jP (hit:=some false) (fin:=some (decide ((l.length:Int)≤12))) rF l (by omega) (fun i hi nx=> ?hs) (fun nx=> ?hf)]
 case hs=>
  simp only [jC]
  rw [decide_eq_true (by omega),aC hi,wrap64 (by omega) (by omega)]
  simp only [cond_true,ab,D2];rfl
 case hf=>
  simp only [jC]
  rw [decide_eq_false (by omega)];rfl
 unfold qu
 cases l.all rF<;>rfl
theorem HJ (l:List bM)(h:l.length≤1000000000):p8 l=some (qu l):=by
 rw [←zK l h];rfl
theorem Ym (x:Int):((BitVec.ofInt 64 x&&&BitVec.ofInt 64 7).toNat:Int)=x%8:=by
 have h7:(BitVec.ofInt 64 7).toNat=2^3-1:=by decide
 rw [BitVec.toNat_and,h7,Nat.and_two_pow_sub_one_eq_mod]
 simp only [BitVec.toNat_ofInt]
 omega
theorem SN (x:Int):((BitVec.ofInt (IntKind.bits .i64) x&&&BitVec.ofInt (IntKind.bits .i64) 7).toNat:Int)=x%8:=Ym x
theorem MK (x:Int):dN x 8=some (x%8):=by
 unfold dN
 rw [if_neg (by omega),Int.tmod_eq_emod]
 split
 ·rw [decide_eq_false (by omega)];simp
 ·rw [decide_eq_true (by simp;omega),wrap64 (by simp;omega) (by simp;omega)];simp
def sD (f:ee):Int:=(f.1%8+f.2.1%8+f.2.2.1%8+f.2.2.2.1%8+f.2.2.2.2%8)%8
theorem C1 (f:ee):0≤sD f∧sD f<8:=by unfold sD;omega
theorem LX {n:Int}(h:0≤n):Int.tmod n 8=n%8:=Int.tmod_eq_emod_of_nonneg h
theorem Ky (f:ee):mc f=some (sD f):=by
 unfold mc
 generalize hL:[f.1,f.2.1,f.2.2.1,f.2.2.2.1,f.2.2.2.2]=L
 have hlen:L.length=5:=by rw [←hL];rfl
 have hfu:=bj
 have key:=nu (R:=Int) (T:=eU (fun (y2:Int) (y3:Int)=>if 8=0 then none else (some (Int.tmod y2 8))) L) L (fun (s:Int) i=>(s,(i:Int)))
  (fun x s k=>k (IntKind.wrap .i64 (s+IntKind.wrap .i64 (x%8)))) (fun s=>some (Int.tmod s 8))
  (fun i hi s nx=>by
   simp only [eU]
   rw [decide_eq_true (by omega),aC hi,wrap64 (n:=(i:Int)+1) (by omega) (by omega)]
   simp only [cond_true,ab]
   rw [SN L[i]];rfl)
  (fun s nx=>by
   simp only [eU]
   rw [decide_eq_false (by omega)];rfl)
  fuel 0 0 (by omega) (by omega)
 refine key.trans ?_
 rw [←hL]
 simp only [List.drop_zero,gF]
 rw [wrap64 (n:=f.1%8) (by omega) (by omega),wrap64 (n:=f.2.1%8) (by omega) (by omega),wrap64 (n:=f.2.2.1%8) (by omega) (by omega),wrap64 (n:=f.2.2.2.1%8) (by omega) (by omega),wrap64 (n:=f.2.2.2.2%8) (by omega) (by omega)]
 rw [wrap64 (n:=0+f.1%8) (by omega) (by omega),wrap64 (n:=0+f.1%8+_) (by omega) (by omega),wrap64 (n:=0+f.1%8+_+_) (by omega) (by omega),wrap64 (n:=0+f.1%8+_+_+_) (by omega) (by omega),wrap64 (n:=0+f.1%8+_+_+_+_) (by omega) (by omega)]
 rw [LX (by omega),sD,Int.zero_add]
theorem JG (f:ee):lM f=some (sD f):=by
 unfold lM
 generalize hL:[f.1,f.2.1,f.2.2.1,f.2.2.2.1,f.2.2.2.2]=L
 have hlen:L.length=5:=by rw [←hL];rfl
 have hfu:=bj
 have key:=nu (R:=Int) (T:=eD (fun (y2:Int) (y3:Int)=>if 8=0 then none else (some (Int.tmod y2 8))) L (L.length:Int)) L (fun (s:Int) i=>(s,(i:Int)))
  (fun x s k=>k (IntKind.wrap .i64 (s+(x%8)))) (fun s=>some (Int.tmod s 8))
  (fun i hi s nx=>by
   simp only [eD]
   rw [decide_eq_true (by omega),aC hi,wrap64 (n:=(i:Int)+1) (by omega) (by omega)]
   simp only [cond_true,ab,MK]
   rfl)
  (fun s nx=>by
   simp only [eD]
   rw [decide_eq_false (by omega)];rfl)
  fuel 0 0 (by omega) (by omega)
 refine key.trans ?_
 rw [←hL]
 simp only [List.drop_zero,gF]
 rw [wrap64 (n:=0+f.1%8) (by omega) (by omega),wrap64 (n:=0+f.1%8+_) (by omega) (by omega),wrap64 (n:=0+f.1%8+_+_) (by omega) (by omega),wrap64 (n:=0+f.1%8+_+_+_) (by omega) (by omega),wrap64 (n:=0+f.1%8+_+_+_+_) (by omega) (by omega)]
 rw [LX (by omega),sD,Int.zero_add]
def bC (t:List Slot)(i:Nat):Slot:=t.getD i (0,(0,0,0,0,0),0)
theorem nw {t:List Slot}{i:Nat}(h:i<t.length):bC t i=t[i]:=bl h _
def dw (f:ee)(k:Nat):Nat:=((sD f).toNat+k)%8
theorem um (f:ee)(k:Nat):dw f k<8:=Nat.mod_lt _ (by omega)
theorem Ej (f:ee)(k:Nat)(h:k<8):Int.tmod (IntKind.wrap .i64 (sD f+(k:Int))) 8=(dw f k:Int):=by
 have:=C1 f
 rw [wrap64 (by omega) (by omega),LX (by omega),dw];omega
def fL (s:Slot)(f:ee):Bool:=(s.1==1)&&decide (s.2.1=f)
theorem Ba (p q:ee):((p.1==q.1)&&((p.2.1==q.2.1)&&((p.2.2.1==q.2.2.1)&&((p.2.2.2.1==q.2.2.2.1)&&((p.2.2.2.2==q.2.2.2.2)&&true)))))=decide (p=q):=by
 obtain ⟨a,b,c,d,e⟩:=p
 obtain ⟨a',b',c',d',e'⟩:=q
 rw [Bool.eq_iff_iff];simp
def walk (t:List Slot)(f:ee):Nat→Nat→Int
 |0,_=> -1
 |n+1,k=>if (bC t (dw f k)).1=0 then-1 else if fL (bC t (dw f k)) f then (dw f k:Int) else walk t f n (k+1)
theorem Kx (t:List Slot)(f:ee)(ht:t.length=8):ng t f=some (walk t f 8 0):=by
 unfold ng
 have hfu:=bj
 have key:=sf (R:=Int) (T:=fJ (fun (y6:Int)=>some (-1)) (fun (y7:Int) (y8:Int)=>some y7) 0 t f) 8 (fun (_:Unit) i=>(i:Int))
  (fun i s k=>if (bC t (dw f i)).1=0 then some (-1) else if fL (bC t (dw f i)) f then some (dw f i:Int) else k s) (fun _=>some (-1))
  (fun i s nx hi=>by
   have hw:dw f i<t.length:=by have:=um f i;omega
   simp only [fJ,Ky]
   rw [decide_eq_true (by omega),wrap64 (n:=(i:Int)+1) (by omega) (by omega)]
   simp only [cond_true,ab,Ej f i hi,aC hw,nw hw,Ba,fL,aN,ab]
   rw [if_neg (by omega)]
   by_cases h0:t[dw f i].1=0
   ·simp [h0]
   ·have e0:(t[dw f i].1==0)=false:=by simp [h0]
    rw [e0,if_neg h0]
    cases (t[dw f i].1==1)<;>cases decide (t[dw f i].2.1=f)<;>rfl)
  (fun s nx=>by simp only [fJ];rfl)
  fuel 0 () (by omega) (by omega)
 refine key.trans ?_
 have main:∀n i,Mb (R:=Int) (fun i (s:Unit) k=>if (bC t (dw f i)).1=0 then some (-1) else if fL (bC t (dw f i)) f then some (dw f i:Int) else k s) (fun _=>some (-1)) 8 n i ()=some (walk t f n i):=by
  intro n
  induction n with
  |zero=>intro i;rfl
  |succ n ih=>
   intro i
   rw [Mb,walk]
   split
   ·rfl
   ·split
    ·rfl
    ·exact ih (i+1)
 exact main 8 0
def mJ (f:ee):List Slot→Int→Int
 |[],_=> -1
 |s::r,i=>if fL s f then i else mJ f r (i+1)
theorem JL (t:List Slot)(f:ee)(h:t.length≤1000000000):oB t f=some (mJ f t 0):=by
 unfold oB
 have hfu:=bj
 have key:∀n i,i≤t.length→t.length-i<n→aj (ky (fun (y3:Int)=>some (-1)) (fun (y4:Int) (y5:Int)=>some y4) 0 t ((List.length t:Int)) f) n (i:Int)=some (mJ f (t.drop i) i):=by
  intro n
  induction n with
  |zero=>intro i _ h;omega
  |succ n ih=>
   intro i hi hn
   rw [aj]
   simp only [ky]
   rcases Nat.lt_or_ge i t.length with hlt|hge
   ·rw [decide_eq_true (by omega),aC hlt,List.drop_eq_getElem_cons hlt,mJ,wrap64 (by omega) (by omega)]
    simp only [cond_true,ab,Ba,aN]
    have e:(bif t[i].1==1 then decide (t[i].2.1=f) else false)=fL t[i] f:=by unfold fL;cases (t[i].1==1)<;>rfl
    rw [e]
    cases fL t[i] f with
    |true=>rfl
    |false=>exact ih (i+1) (by omega) (by omega)
   ·have:i=t.length:=by omega
    subst this
    rw [decide_eq_false (by omega),List.drop_length];rfl
 exact key fuel 0 (by omega) (by omega)
theorem ME (f:ee):qb f=some ((List.range 8).map fun k=>(dw f k:Int)):=by
 unfold qb
 have hfu:=bj
 have key:=sf (R:=List Int) (T:=iS (fun (y2:List Int) (y3:Int)=>some y2) f) 8 (fun (_:Unit) i=>((List.range i).map (fun k=>(dw f k:Int)),(i:Int)))
  (fun _ s k=>k s) (fun _=>some ((List.range 8).map fun k=>(dw f k:Int)))
  (fun i s nx hi=>by
   simp only [iS,JG]
   rw [decide_eq_true (by omega),wrap64 (n:=(i:Int)+1) (by omega) (by omega)]
   simp only [cond_true,ab,Ej f i hi]
   rw [if_neg (by omega),aA (by simp;omega),List.range_succ,List.map_append]
   rfl)
  (fun s nx=>by simp only [iS];rfl)
  fuel 0 () (by omega) (by omega)
 exact key
def clear (t:List Slot)(f:ee)(i:Nat):Nat→Nat→Bool
 |0,_=>true
 |n+1,k=>if dw f k=i then true else if (bC t (dw f k)).1=0 then false else clear t f i n (k+1)
theorem HB {R:Type}(k0:Int→Option R)(k1:Bool→Int→Option R)(hit fin:Option R)(h0:∀x,k0 x=fin)(h1:∀x,k1 false x=hit)(v2:Bool)(i:Nat)(v12:List Slot)(v13 v14:Int)(t:List Slot)(f:ee)(ht:t.length=8):
 aj (dj k0 k1 v2 (i:Int) v12 v13 v14 ((List.range 8).map fun k=>(dw f k:Int)) (((List.range 8).map fun k=>(dw f k:Int)).length:Int) t) fuel 0=cond (clear t f i 8 0) fin hit:=by
 have hfu:=bj
 have hl:((List.range 8).map fun k=>(dw f k:Int)).length=8:=by simp
 have key:=sf (R:=R) (T:=dj k0 k1 v2 (i:Int) v12 v13 v14 ((List.range 8).map fun k=>(dw f k:Int)) (((List.range 8).map fun k=>(dw f k:Int)).length:Int) t) 8 (fun (_:Unit) i=>(i:Int))
  (fun k s c=>if dw f k=i then fin else if (bC t (dw f k)).1=0 then hit else c s) (fun _=>fin)
  (fun k s nx hk=>by
   have hw:dw f k<t.length:=by have:=um f k;omega
   simp only [dj]
   rw [decide_eq_true (by omega),aC (show k<((List.range 8).map fun k=>(dw f k:Int)).length by omega),wrap64 (n:=(k:Int)+1) (by omega) (by omega)]
   simp only [cond_true,ab,List.getElem_map,List.getElem_range,aC hw,nw hw,h0,h1]
   by_cases e1:dw f k=i
   ·subst e1;simp
   ·have:((dw f k:Int)==(i:Int))=false:=by simp;omega
    rw [this,if_neg e1]
    by_cases e2:t[dw f k].1=0
    ·simp [e2]
    ·have:(t[dw f k].1==0)=false:=by simp [e2]
     rw [this,if_neg e2];rfl)
  (fun s nx=>by
   simp only [dj]
   rw [decide_eq_false (by omega)];exact h0 _)
  fuel 0 () (by omega) (by omega)
 refine key.trans ?_
 have main:∀n k,Mb (R:=R) (fun k (s:Unit) c=>if dw f k=i then fin else if (bC t (dw f k)).1=0 then hit else c s) (fun _=>fin) 8 n k ()=cond (clear t f i n k) fin hit:=by
  intro n
  induction n with
  |zero=>intro k;rfl
  |succ n ih=>
   intro k
   rw [Mb,clear]
   split
   ·rfl
   ·split
    ·rfl
    ·exact ih (k+1)
 exact main 8 0
def CR:ee:=(0,0,0,0,0)
theorem CS (p:ee):((p.1==0)&&((p.2.1==0)&&((p.2.2.1==0)&&((p.2.2.2.1==0)&&((p.2.2.2.2==0)&&true)))))=decide (p=CR):=Ba p CR
def DW (s:Slot):Bool:=bp s.1 0 2&&bp s.2.2 0 3&&((s.1==1)||(s.2.2==0)&&decide (s.2.1=CR))
def fS (t:List Slot)(i:Nat):Bool:=DW (bC t i)&&(!((bC t i).1==1)||(walk t (bC t i).2.1 8 0==(i:Int)))
def jR (t:List Slot)(i:Nat):Bool:=DW (bC t i)&&(!((bC t i).1==1)||(mJ (bC t i).2.1 t 0==(i:Int))&&clear t (bC t i).2.1 i 8 0)
def lF (t:List Slot):Bool:=(t.length==8)&&(List.range 8).all (fS t)
theorem IA (t:List Slot):nd t=some (lF t):=by
 unfold nd lF
 by_cases ht:t.length=8
 ·have e:((t.length:Int) !=8)=false:=by rw [ht];rfl
  have e2:(t.length==8)=true:=by rw [ht];rfl
  rw [e,e2]
  simp only [cond_false,Bool.true_and]
  rw [eB (hit:=some false) (fin:=some true) (fS t) 8 (by omega) (fun i nx hi=> ?hs) (fun nx=> ?hf)]
  case hs=>
   have hl:i<t.length:=by omega
   simp only [jE]
   rw [decide_eq_true (by omega),aC hl,wrap64 (by omega) (by omega)]
   simp only [cond_true,ab,bc,aN,CS,Kx t _ ht,fS,nw hl,DW,bne]
   cases bp t[i].1 0 2<;>cases bp t[i].2.2 0 3<;>cases (t[i].1==1)<;>cases (t[i].2.2==0)<;>cases decide (t[i].2.1=CR)<;>first|rfl|(cases (walk t t[i].2.1 8 0==(i:Int))<;>rfl)
  case hf=>
   simp only [jE]
   rw [decide_eq_false (by omega)];rfl
  cases (List.range 8).all (fS t)<;>rfl
 ·have e:((t.length:Int) !=8)=true:=by simp;omega
  have e2:(t.length==8)=false:=by simp [ht]
  rw [e,e2];rfl
theorem E7 (t:List Slot):kt t=some ((t.length==8)&&(List.range 8).all (jR t)):=by
 unfold kt
 by_cases ht:t.length=8
 ·have e:((t.length:Int) !=8)=false:=by rw [ht];rfl
  have e2:(t.length==8)=true:=by rw [ht];rfl
  rw [e,e2]
  simp only [cond_false,Bool.true_and]
  rw [eB (hit:=some false) (fin:=some true) (jR t) 8 (by omega) (fun i nx hi=> ?hs) (fun nx=> ?hf)]
  case hs=>
   have hl:i<t.length:=by omega
   simp only [jq]
   rw [decide_eq_true (by omega),aC hl,wrap64 (by omega) (by omega)]
   simp only [cond_true,ab,bI,aN,CS,JL t _ (show t.length≤1000000000 by omega),ME,jR,nw hl,DW,bne]
   rw [HB (fun _=>nx ((i:Int)+1)) (fun (y:Bool) (_:Int)=>some y) (some false) (nx ((i:Int)+1)) (fun _=>rfl) (fun _=>rfl) _ _ _ _ _ _ _ ht]
   cases bp t[i].1 0 2<;>cases bp t[i].2.2 0 3<;>cases (t[i].1==1)<;>cases (t[i].2.2==0)<;>cases decide (t[i].2.1=CR)<;>first|rfl|(cases (mJ t[i].2.1 t 0==(i:Int))<;>first|rfl|(cases clear t t[i].2.1 i 8 0<;>rfl))
  case hf=>
   simp only [jq]
   rw [decide_eq_false (by omega)];rfl
  cases (List.range 8).all (jR t)<;>rfl
 ·have e:((t.length:Int) !=8)=true:=by simp;omega
  have e2:(t.length==8)=false:=by simp [ht]
  rw [e,e2];rfl
theorem zU (t:List Slot)(f:ee)(i:Nat):∀n k,walk t f n k=(i:Int)→fL (bC t i) f=true∧clear t f i n k=true∧∃j,j<n∧dw f (k+j)=i
 |0,k,h=>by unfold walk at h;omega
 |n+1,k,h=>by
  unfold walk at h
  unfold clear
  by_cases h0:(bC t (dw f k)).1=0
  ·rw [if_pos h0] at h;omega
  ·rw [if_neg h0] at h
   by_cases h1:fL (bC t (dw f k)) f=true
   ·rw [if_pos h1] at h
    have:dw f k=i:=by omega
    subst this
    exact ⟨h1,by simp,0,by omega,rfl⟩
   ·rw [if_neg h1] at h
    obtain ⟨a,b,j,hj,e⟩:=zU t f i n (k+1) h
    refine ⟨a, ?_,j+1,by omega,by rw [←e];congr 1;omega⟩
    rw [if_neg h0,b];split<;>rfl
theorem Hc (t:List Slot)(f:ee)(i:Nat)(hu:fL (bC t i) f=true)(huniq:∀j,j<8→fL (bC t j) f=true→j=i):∀n k,clear t f i n k=true→(∃j,j<n∧dw f (k+j)=i)→walk t f n k=(i:Int)
 |0,k,_,h=>by obtain ⟨j,hj,_⟩:=h;omega
 |n+1,k,hc,⟨j,hj,e⟩=>by
  unfold walk
  unfold clear at hc
  by_cases h1:dw f k=i
  ·rw [h1,if_neg,if_pos hu]
   intro h0
   unfold fL at hu
   rw [h0] at hu
   simp at hu
  ·rw [if_neg h1] at hc
   by_cases h0:(bC t (dw f k)).1=0
   ·rw [if_pos h0] at hc;cases hc
   ·rw [if_neg h0] at hc
    rw [if_neg h0,if_neg (fun hu'=>h1 (huniq _ (um f k) hu'))]
    refine Hc t f i hu huniq n (k+1) hc ?_
    cases j with
    |zero=>exact absurd e h1
    |succ j=>exact ⟨j,by omega,by rw [←e];congr 1;omega⟩
theorem Nc (f:ee)(i:Nat)(hi:i<8):∃j,j<8∧dw f (0+j)=i:=by
 have:=C1 f
 refine ⟨(i+8-(sD f).toNat)%8,by omega, ?_⟩
 unfold dw;omega
theorem rb (f:ee):∀(t:List Slot)(m:Nat),(∃j,j<t.length∧fL (bC t j) f=true)→∃j,j<t.length∧fL (bC t j) f=true∧mJ f t m=((m+j:Nat):Int)
 |[],_,h=>by obtain ⟨j,hj,_⟩:=h;simp at hj
 |s::r,m,⟨j,hj,e⟩=>by
  unfold mJ
  by_cases hs:fL s f=true
  ·rw [if_pos hs];exact ⟨0,by simp,by simpa [bC] using hs,by simp⟩
  ·rw [if_neg hs]
   cases j with
   |zero=>exact absurd (by simpa [bC] using e) hs
   |succ j=>
    obtain ⟨j',h1,h2,h3⟩:=rb f r (m+1) ⟨j,by simpa using hj,by simpa [bC] using e⟩
    refine ⟨j'+1,by simpa using h1,by simpa [bC] using h2, ?_⟩
    have:((m:Int)+1)=((m+1:Nat):Int):=by omega
    rw [this,h3];congr 1;omega
theorem FR (t:List Slot)(ht:t.length=8):(List.range 8).all (jR t)=(List.range 8).all (fS t):=by
 rw [Bool.eq_iff_iff,List.all_eq_true,List.all_eq_true]
 simp only [List.mem_range]
 constructor
 ·intro h i hi
  have hI:=h i hi
  unfold jR at hI
  unfold fS
  simp only [Bool.and_eq_true,Bool.or_eq_true,Bool.not_eq_true',beq_iff_eq] at hI⊢
  refine ⟨hI.1, ?_⟩
  rcases hI.2 with h1|⟨h1,h2⟩
  ·exact .inl h1
  ·by_cases hu:((bC t i).1==1)=true
   ·right
    have hu':fL (bC t i) (bC t i).2.1=true:=by unfold fL;rw [hu];simp
    refine Hc t _ i hu' (fun j hj huj=> ?_) 8 0 h2 (Nc _ i hi)
    have hJ:=h j hj
    unfold jR at hJ
    unfold fL at huj
    simp only [Bool.and_eq_true,decide_eq_true_eq] at huj
    simp only [Bool.and_eq_true,Bool.or_eq_true,Bool.not_eq_true',beq_iff_eq] at hJ
    rcases hJ.2 with h3|⟨h3,_⟩
    ·rw [huj.1] at h3;cases h3
    ·rw [huj.2] at h3;omega
   ·exact .inl (by simpa using hu)
 ·intro h i hi
  have hI:=h i hi
  unfold fS at hI
  unfold jR
  simp only [Bool.and_eq_true,Bool.or_eq_true,Bool.not_eq_true',beq_iff_eq] at hI⊢
  refine ⟨hI.1, ?_⟩
  rcases hI.2 with h1|h1
  ·exact .inl h1
  ·right
   obtain ⟨hu,hc,_⟩:=zU t _ i 8 0 h1
   refine ⟨?_,hc⟩
   obtain ⟨j,hj,huj,e⟩:=rb (bC t i).2.1 t 0 ⟨i,by omega,hu⟩
   have hJ:=h j (by omega)
   unfold fS at hJ
   unfold fL at huj
   simp only [Bool.and_eq_true,decide_eq_true_eq] at huj
   simp only [Bool.and_eq_true,Bool.or_eq_true,Bool.not_eq_true',beq_iff_eq] at hJ
   rcases hJ.2 with h3|h3
   ·rw [huj.1] at h3;cases h3
   ·rw [huj.2,h1] at h3
    have e':mJ (bC t i).2.1 t 0=((0+j:Nat):Int):=e
    rw [e'];omega
theorem HN (t:List Slot):kt t=some (lF t):=by
 rw [E7,lF]
 by_cases ht:t.length=8
 ·rw [FR t ht]
 ·have e2:(t.length==8)=false:=by simp [ht]
  rw [e2];rfl
theorem M5 (n:Int):nJ n=lh n:=rfl
def GZ (n:Int):Bool:=(n==1)||(n==2)||(n==4)||(n==8)||(n==16)
theorem Fi (n:Int):lh n=some (GZ n):=by
 simp only [lh,aN,ab,GZ]
 cases (n==1)<;>cases (n==2)<;>cases (n==4)<;>cases (n==8)<;>rfl
def oQ (s:c9)(q:Int):Bool:=bp q 1 4&&((s.1.length:Int)==16)&&GZ s.2.length&&s.2.all fun x=>bp x 0 (q-1)
theorem xV (s:c9)(q:Int)(h:s.2.length≤1000000000):me s q=some (oQ s q):=by
 unfold me oQ
 simp only [bc,Fi,ab,aN,bne]
 by_cases hq:bp q 1 4=true
 ·rw [jP (hit:=some false) (fin:=some true) (fun x=>bp x 0 (q-1)) s.2 (by omega) (fun i hi nx=> ?hs) (fun nx=> ?hf)]
  case hs=>
   rw [bf] at hq
   simp only [iy]
   rw [decide_eq_true (by omega),aC hi,wrap64 (n:=(i:Int)+1) (by omega) (by omega),wrap64 (n:=q-1) (by omega) (by omega)]
   simp only [cond_true,ab,bc];rfl
  case hf=>
   simp only [iy]
   rw [decide_eq_false (by omega)];rfl
  rw [hq]
  cases ((s.1.length:Int)==16)<;>cases GZ s.2.length<;>cases s.2.all (fun x=>bp x 0 (q-1))<;>rfl
 ·have hq':bp q 1 4=false:=by simpa using hq
  rw [hq'];rfl
theorem E6 (s:c9)(q:Int)(h:s.2.length≤1000000000):oU s q=some (oQ s q):=by
 rw [←xV s q h];rfl
def fW (s:aD)(q:Int):Bool:=qu s.1&&lF s.2.1&&oQ s.2.2 q&&s.1.all (fun r=> !(decide (r.2.2.2.2.2.2.2.2≥q)))&&s.2.1.all (fun x=> !(decide (x.2.2≥q)))
theorem BP (s:aD)(q:Int)(h1:s.1.length≤1000000000)(h2:s.2.1.length≤1000000000)(h3:s.2.2.2.length≤1000000000):jD s q=some (fW s q):=by
 unfold jD fW
 simp only [zK _ h1,IA,xV _ _ h3,ab,aN]
 rw [jP (hit:=some false) (fin:=cond (s.2.1.all (fun x=> !(decide (x.2.2≥q)))) (some true) (some false)) (fun r:bM=> !(decide (r.2.2.2.2.2.2.2.2≥q))) s.1 (by omega) (fun i hi nx=> ?hs) (fun nx=> ?hf)]
 case hs=>
  simp only [fA]
  rw [decide_eq_true (by omega),aC hi,wrap64 (by omega) (by omega)]
  simp only [cond_true,ab,Bool.not_not];rfl
 case hf=>
  simp only [fA]
  rw [decide_eq_false (by omega)]
  simp only [cond_false]
  rw [jP (hit:=some false) (fin:=some true) (fun x:Slot=> !(decide (x.2.2≥q))) s.2.1 (by omega) (fun i hi nx=> ?hs) (fun nx=> ?hf)]
  case hs=>
   simp only [fB]
   rw [decide_eq_true (by omega),aC hi,wrap64 (by omega) (by omega)]
   simp only [cond_true,ab,Bool.not_not];rfl
  case hf=>
   simp only [fB]
   rw [decide_eq_false (by omega)];rfl
 cases qu s.1<;>cases lF s.2.1<;>cases oQ s.2.2 q<;>cases s.1.all (fun r=> !(decide (r.2.2.2.2.2.2.2.2≥q)))<;>cases s.2.1.all (fun x=> !(decide (x.2.2≥q)))<;>rfl
theorem Be (s:aD)(q:Int)(h1:s.1.length≤1000000000)(h2:s.2.1.length≤1000000000)(h3:s.2.2.2.length≤1000000000):jo s q=some (fW s q):=by
 unfold jo fW
 simp only [HJ _ h1,HN,E6 _ _ h3,ab,aN]
 rw [jP (hit:=some false) (fin:=cond (s.2.1.all (fun x=> !((x.1==1)&&decide (x.2.2≥q)))) (some true) (some false)) (fun r:bM=> !((r.2.2.2.2.2.2.2.1==0)&&decide (r.2.2.2.2.2.2.2.2≥q))) s.1 (by omega) (fun i hi nx=> ?hs) (fun nx=> ?hf)]
 case hs=>
  simp only [ft]
  rw [decide_eq_true (by omega),aC hi,wrap64 (by omega) (by omega)]
  simp only [cond_true,ab,Bool.not_not,aN]
  cases (s.1[i].2.2.2.2.2.2.2.1==0)<;>rfl
 case hf=>
  simp only [ft]
  rw [decide_eq_false (by omega)]
  simp only [cond_false]
  rw [jP (hit:=some false) (fin:=some true) (fun x:Slot=> !((x.1==1)&&decide (x.2.2≥q))) s.2.1 (by omega) (fun i hi nx=> ?hs) (fun nx=> ?hf)]
  case hs=>
   simp only [ej]
   rw [decide_eq_true (by omega),aC hi,wrap64 (by omega) (by omega)]
   simp only [cond_true,ab,Bool.not_not,aN]
   cases (s.2.1[i].1==1)<;>rfl
  case hf=>
   simp only [ej]
   rw [decide_eq_false (by omega)];rfl
 cases hr:qu s.1 with
 |false=>rfl
 |true=>
  cases ht:lF s.2.1 with
  |false=>rfl
  |true=>
   cases hs:oQ s.2.2 q with
   |false=>rfl
   |true=>
    have hq:1≤q:=by
     unfold oQ at hs
     simp only [Bool.and_eq_true,bf] at hs
     exact hs.1.1.1.1
    have e1:s.1.all (fun r=> !((r.2.2.2.2.2.2.2.1==0)&&decide (r.2.2.2.2.2.2.2.2≥q)))=s.1.all (fun r=> !(decide (r.2.2.2.2.2.2.2.2≥q))):=by
     unfold qu at hr
     simp only [Bool.and_eq_true,List.all_eq_true] at hr
     rw [Bool.eq_iff_iff,List.all_eq_true,List.all_eq_true]
     refine forall_congr' fun r=>forall_congr' fun hm=> ?_
     rcases DQ (hr.1 r hm) with h0|h0
     ·rw [h0];simp
     ·rw [h0]
      simp only [decide_eq_false (show¬(0:Int)≥q by omega),Bool.and_false]
    have e2:s.2.1.all (fun x=> !((x.1==1)&&decide (x.2.2≥q)))=s.2.1.all (fun x=> !(decide (x.2.2≥q))):=by
     unfold lF at ht
     simp only [Bool.and_eq_true,List.all_eq_true,List.mem_range,beq_iff_eq] at ht
     rw [Bool.eq_iff_iff,List.all_eq_true,List.all_eq_true]
     refine forall_congr' fun x=>forall_congr' fun hm=> ?_
     obtain ⟨i,hi,rfl⟩:=List.mem_iff_getElem.1 hm
     have hsl:=ht.2 i (by omega)
     unfold fS DW at hsl
     rw [nw hi] at hsl
     simp only [Bool.and_eq_true,Bool.or_eq_true,beq_iff_eq] at hsl
     rcases hsl.1.2 with h0|⟨h0,_⟩
     ·rw [h0];simp
     ·rw [h0]
      simp only [decide_eq_false (show¬(0:Int)≥q by omega),Bool.and_false]
    rw [e1,e2]
    cases s.1.all (fun r=> !(decide (r.2.2.2.2.2.2.2.2≥q)))<;>cases s.2.1.all (fun x=> !(decide (x.2.2≥q)))<;>rfl
end
end Go.Pu
end
section
namespace Go.Pu
open Go.Dn
set_option linter.unusedSimpArgs false
set_option linter.unusedVariables false
noncomputable section
def cz (m:List Bytes):Bool:=m.all (fun x=>(x.length:Int)==128)&&decide ((m.length:Int)≤64)
theorem tj (m:List Bytes)(h:m.length≤1000000000):jd m=some (cz m):=by
 unfold jd cz
 rw [jP (hit:=some false) (fin:=some (decide ((m.length:Int)≤64))) (fun x:Bytes=>(x.length:Int)==128) m (by omega) (fun i hi nx=> ?hs) (fun nx=> ?hf)]
 case hs=>
  simp only [iv]
  rw [decide_eq_true (by omega),aC hi,wrap64 (by omega) (by omega)];rfl
 case hf=>
  simp only [iv]
  rw [decide_eq_false (by omega)];rfl
 cases m.all (fun x=>(x.length:Int)==128)<;>rfl
theorem xj (m:List Bytes)(h:m.length≤1000000000):lN m=some (cz m):=tj m h
def vB:ai:=(0,0,0,false)
def td (m:ai):Bool:=bp m.1 0 7&&(bp m.2.1 0 1023&&bp m.2.2.1 0 63)
def gY (d p:Int)(m:ai):Bool:=(m.1==d)&&(m.2.1==p)
def xu (l:List ai)(i:Nat):Bool:=td (l.getD i vB)&&(List.range i).all (fun j=> !(gY (l.getD i vB).1 (l.getD i vB).2.1 (l.getD j vB)))
def bA (l:List ai):Bool:=decide ((l.length:Int)≤96)&&(List.range l.length).all (xu l)
theorem BO (l:List ai)(h:l.length≤1000000000):jx l=some (bA l):=by
 unfold jx bA
 rw [eB (hit:=some false) (fin:=some true) (xu l) l.length (by omega) (fun i nx hi=> ?hs) (fun nx=> ?hf)]
 case hs=>
  simp only [fz]
  rw [decide_eq_true (by omega),aC hi,wrap64 (by omega) (by omega)]
  simp only [cond_true,ab,bc,aN]
  rw [eB (hit:=some false) (fin:=nx ((i:Int)+1)) (fun j=> !(gY l[i].1 l[i].2.1 (l.getD j vB))) i (by omega) (fun j nx hj=> ?hs2) (fun nx=> ?hf2)]
  case hs2=>
   have hjl:j<l.length:=by omega
   simp only [ev]
   rw [decide_eq_true (by omega),aC hjl,wrap64 (by omega) (by omega)]
   simp only [cond_true,ab,aN,bl hjl,gY,cF,Bool.not_not];rfl
  case hf2=>
   simp only [ev]
   rw [decide_eq_false (by omega)];rfl
  simp only [xu,td,bl hi,cT]
  cases bp l[i].1 0 7<;>cases bp l[i].2.1 0 1023<;>cases bp l[i].2.2.1 0 63<;>cases (List.range i).all (fun j=> !(gY l[i].1 l[i].2.1 (l.getD j vB)))<;>rfl
 case hf=>
  simp only [fz]
  rw [decide_eq_false (by omega)];rfl
 have e:decide ((l.length:Int)>96)= !decide ((l.length:Int)≤96):=by rw [Bool.eq_iff_iff];simp
 rw [e]
 cases decide ((l.length:Int)≤96)<;>cases (List.range l.length).all (xu l)<;>rfl
def DE (l:List ai)(d p:Int):Int:=match l.findIdx? (gY d p) with|some i=>(i:Int)|none=> -1
theorem C6 (l:List ai)(d p:Int)(h:l.length≤1000000000):eE l d p=some (DE l d p):=by
 unfold eE DE
 rw [uB (hit:=fun i=>some i) (fin:=some (-1)) (gY d p) l (by omega) (fun i hi nx=> ?hs) (fun nx=> ?hf)]
 case hs=>
  simp only [eo]
  rw [decide_eq_true (by omega),aC hi,wrap64 (by omega) (by omega)]
  simp only [cond_true,ab,aN,cF,gY];rfl
 case hf=>
  simp only [eo]
  rw [decide_eq_false (by omega)];rfl
 cases l.findIdx? (gY d p)<;>rfl
theorem FF (l:List ai)(i:Nat)(hi:i<l.length):(DE l l[i].1 l[i].2.1==(i:Int))=(List.range i).all (fun j=> !(gY l[i].1 l[i].2.1 (l.getD j vB))):=by
 have hself:gY l[i].1 l[i].2.1 l[i]=true:=by simp [gY]
 unfold DE
 cases hq:l.findIdx? (gY l[i].1 l[i].2.1) with
 |none=>
  rw [List.findIdx?_eq_none_iff] at hq
  rw [hq l[i] (List.getElem_mem hi)] at hself;cases hself
 |some k=>
  rw [List.findIdx?_eq_some_iff_getElem] at hq
  obtain ⟨hk,hpk,hlt⟩:=hq
  rw [Bool.eq_iff_iff,List.all_eq_true]
  simp only [List.mem_range,beq_iff_eq,Bool.not_eq_true']
  constructor
  ·intro e j hj
   have hjl:j<l.length:=by omega
   rw [bl hjl]
   have:=hlt j (by omega)
   simpa using this
  ·intro hall
   rcases Nat.lt_trichotomy k i with hki|hki|hki
   ·have:=hall k hki
    rw [bl hk,hpk] at this;cases this
   ·omega
   ·have:=hlt i hki
    rw [hself] at this;simp at this
theorem Bd (l:List ai)(h:l.length≤1000000000):jj l=some (bA l):=by
 unfold jj bA
 rw [eB (hit:=some false) (fin:=some (decide ((l.length:Int)≤96))) (xu l) l.length (by omega) (fun i nx hi=> ?hs) (fun nx=> ?hf)]
 case hs=>
  simp only [fj]
  rw [decide_eq_true (by omega),aC hi,wrap64 (by omega) (by omega)]
  simp only [cond_true,ab,bI,aN,C6 _ _ _ h,bne,FF l i hi,xu,td,bl hi]
  cases bp l[i].1 0 7<;>cases bp l[i].2.1 0 1023<;>cases bp l[i].2.2.1 0 63<;>cases (List.range i).all (fun j=> !(gY l[i].1 l[i].2.1 (l.getD j vB)))<;>rfl
 case hf=>
  simp only [fj]
  rw [decide_eq_false (by omega)];rfl
 cases decide ((l.length:Int)≤96)<;>cases (List.range l.length).all (xu l)<;>rfl
def xf (n:Int)(l:List Int)(i:Nat):Bool:=bp (l.getD i 0) 0 (n-1)&& !((l.take i).contains (l.getD i 0))
def c8 (p:aY):Bool:=bp p.1 0 130944&&(bp p.2.1 1 512&&(bp p.2.2.1 0 16&&(List.range p.2.2.2.length).all (xf p.2.2.1 p.2.2.2)))
def qU (n:Int)(l:List Int):List Bool:=(List.range n.toNat).map fun k:Nat=>l.contains (k:Int)
theorem zG (n:Int)(l:List Int):(qU n l).length=n.toNat:=by simp [qU]
theorem sr (n:Int)(l:List Int)(k:Nat)(h:k<(qU n l).length):(qU n l)[k]=l.contains (k:Int):=by simp [qU]
theorem Is (n:Int)(l:List Int)(k:Nat)(h:k<n.toNat):(qU n l).set k true=qU n (l++[(k:Int)]):=by
 apply List.ext_getElem
 ·simp [qU]
 ·intro j h1 h2
  rw [List.getElem_set]
  split
  ·rename_i e;subst e;rw [sr];simp
  ·rename_i e
   rw [sr,sr]
   simp only [List.contains_append]
   have:([(k:Int)].contains (j:Int))=false:=by simp;omega
   rw [this];simp
theorem DF {T:(List Bool×Int→Option Bool)→List Bool×Int→Option Bool}(n:Int)(l:List Int)(hl:l.length≤1000000000)
 (hs:∀i (hi:i<l.length)(s:List Bool) nx,T nx (s,(i:Int))=aa (cond (!(bp l[i] 0 (n-1))) (some true) (aa (idx s l[i]) fun x=>some x)) fun q=>
  cond q (some false) (aa (idx s l[i]) fun _=>aa (idx s l[i]) fun _=>nx (s.set l[i].toNat true,((i+1:Nat):Int)))) (hf:∀s nx,T nx (s,(l.length:Int))=some true):
 aj T fuel (List.replicate n.toNat false,0)=some ((List.range l.length).all (xf n l)):=by
 have e0:(List.replicate n.toNat false,(0:Int))=(qU n (l.take 0),((0:Nat):Int)):=by
  congr 1
  simp only [qU,List.take_zero,List.contains_nil,List.map_const',List.length_range]
 rw [e0,uv (hit:=some false) (fin:=some true) (fun i=>(qU n (l.take i),(i:Int))) (xf n l) l.length (by omega) (fun i nx hi hp=> ?hs) (fun _ nx=>hf _ nx)]
 case hs=>
  rw [hs i hi]
  unfold xf
  rw [bl hi]
  by_cases hin:bp l[i] 0 (n-1)=true
  ·have hb:=hin
   rw [bf] at hb
   obtain ⟨k,hk⟩:∃k:Nat,l[i]=(k:Int):=⟨l[i].toNat,by omega⟩
   have hkn:k<(qU n (l.take i)).length:=by rw [zG];omega
   rw [hin,hk,aC hkn,sr]
   simp only [Bool.not_true,cond_false,ab,Bool.true_and,Bool.not_not,Int.toNat_natCast]
   rw [Is _ _ _ (by rw [zG] at hkn;exact hkn),←hk,←List.take_succ_eq_append_getElem hi]
  ·have hin':bp l[i] 0 (n-1)=false:=by simpa using hin
   rw [hin'];rfl
 cases (List.range l.length).all (xf n l)<;>rfl
theorem ua (p:aY)(h:p.2.2.2.length≤1000000000):kc p=some (c8 p):=by
 unfold kc c8
 simp only [bc,ab,aN]
 by_cases hn:bp p.2.2.1 0 16=true
 ·have hb:=hn
  rw [bf] at hb
  rw [if_pos (by omega),aA (by omega),DF p.2.2.1 p.2.2.2 h (fun i hi s nx=> ?hs) (fun s nx=> ?hf)]
  case hs=>
   simp only [lf]
   rw [decide_eq_true (by omega),aC hi,wrap64 (n:=(i:Int)+1) (by omega) (by omega),wrap64 (n:=p.2.2.1-1) (by omega) (by omega)]
   simp only [cond_true,ab,bc];rfl
  case hf=>
   simp only [lf]
   rw [decide_eq_false (by omega)];rfl
  rw [hn]
  cases bp p.1 0 130944<;>cases bp p.2.1 1 512<;>rfl
 ·have hn':bp p.2.2.1 0 16=false:=by simpa using hn
  rw [hn']
  cases bp p.1 0 130944<;>cases bp p.2.1 1 512<;>rfl
theorem xk (p:aY)(h:p.2.2.2.length≤1000000000):jS p=some (c8 p):=by
 unfold jS c8
 simp only [bI,ab,aN]
 by_cases hn:bp p.2.2.1 0 16=true
 ·have hb:=hn
  rw [bf] at hb
  rw [if_pos (by omega),aA (by omega),DF p.2.2.1 p.2.2.2 h (fun i hi s nx=> ?hs) (fun s nx=> ?hf)]
  case hs=>
   simp only [kq]
   rw [decide_eq_true (by omega),aC hi,wrap64 (n:=(i:Int)+1) (by omega) (by omega),wrap64 (n:=p.2.2.1-1) (by omega) (by omega)]
   simp only [cond_true,ab,bI];rfl
  case hf=>
   simp only [kq]
   rw [decide_eq_false (by omega)];rfl
  rw [hn]
  cases bp p.1 0 130944<;>cases bp p.2.1 1 512<;>rfl
 ·have hn':bp p.2.2.1 0 16=false:=by simpa using hn
  rw [hn']
  cases bp p.1 0 130944<;>cases bp p.2.1 1 512<;>rfl
def dm (n:Int):Bool:=(n==2)||((n==4)||((n==8)||(n==16)))
theorem tc (n:Int):lj n=some (dm n):=by
 simp only [lj,aN,ab,dm,cT]
theorem vk (n:Int):lR n=some (dm n):=tc n
theorem ja {n:Int}:dm n=true↔n=2∨n=4∨n=8∨n=16:=by simp [dm]
theorem pN (x:Int)(k:Nat)(hk:k≤64):IntKind.wrap .i64 x%(2^k:Int)=x%(2^k:Int):=by
 obtain ⟨c,hc⟩:∃c:Int,(18446744073709551616:Int)=2^k*c:=⟨2^(64-k),by rw [←Int.pow_add,show k+(64-k)=64 by omega];rfl⟩
 have:IntKind.wrap .i64 x=x∨∃q:Int,IntKind.wrap .i64 x=x+18446744073709551616*q:=by
  right
  simp only [IntKind.wrap,IntKind.bits,IntKind.signed]
  simp
  have h1:x=x%18446744073709551616+18446744073709551616*(x/18446744073709551616):=by omega
  split
  ·exact ⟨-(x/18446744073709551616)-1,by omega⟩
  ·exact ⟨-(x/18446744073709551616),by omega⟩
 rcases this with h|⟨q,h⟩
 ·rw [h]
 ·rw [h,hc,Int.mul_assoc,Int.add_mul_emod_self_left]
theorem qX (x:Int)(k:Nat)(hk:k<63):((BitVec.ofInt (IntKind.bits .i64) x&&&BitVec.ofInt (IntKind.bits .i64) (2^k-1)).toNat:Int)=x%2^k:=by
 have h2:(2:Int)^k≤2^62:=by
  have:(2:Nat)^k≤2^62:=Nat.pow_le_pow_right (by omega) (by omega)
  exact_mod_cast this
 have h0:(1:Int)≤2^k:=by
  have:1≤(2:Nat)^k:=Nat.one_le_two_pow
  exact_mod_cast this
 have hm:(BitVec.ofInt (IntKind.bits .i64) (2^k-1)).toNat=2^k-1:=by
  show (BitVec.ofInt 64 (2^k-1)).toNat=2^k-1
  rw [BitVec.toNat_ofInt,Int.emod_eq_of_lt (by omega) (by omega)]
  have:((2:Int)^k-1)=((2^k-1:Nat):Int):=by
   have:1≤(2:Nat)^k:=Nat.one_le_two_pow
   push_cast [this];rfl
  rw [this];rfl
 rw [BitVec.toNat_and,hm,Nat.and_two_pow_sub_one_eq_mod]
 show (((BitVec.ofInt 64 x).toNat%2^k:Nat):Int)=x%2^k
 rw [BitVec.toNat_ofInt]
 have hx:0≤x%18446744073709551616:=by omega
 have e:(((x%18446744073709551616).toNat%2^k:Nat):Int)=(x%18446744073709551616)%2^k:=by
  push_cast
  rw [Int.toNat_of_nonneg hx]
 refine e.trans ?_
 exact Int.emod_emod_of_dvd x ⟨2^(64-k),by rw [←Int.pow_add,show k+(64-k)=64 by omega];rfl⟩
theorem H0 (x n:Int)(h0:0<n)(h1:n≤4611686018427387904):dN x n=some (x%n):=by
 unfold dN
 have:=Int.emod_nonneg x (show n≠0 by omega)
 have:=Int.emod_lt_of_pos x h0
 have hn:(n.natAbs:Int)=n:=by omega
 rw [if_neg (by omega),Int.tmod_eq_emod]
 split
 ·rw [decide_eq_false (by omega)];simp
 ·rw [decide_eq_true (by omega),wrap64 (by omega) (by omega)];simp only [cond_true,hn];congr 1;omega
def mD (r:(Int×Int×Int×Int)):Int:=if dm r.2.1 then (r.2.2.2-r.2.2.1)%(2*r.2.1) else 0
theorem D3 (r:(Int×Int×Int×Int)):jf r=some (mD r):=by
 unfold jf mD
 rw [tc,ab]
 cases hs:dm r.2.1 with
 |false=>rfl
 |true=>
  simp only [Bool.not_true,cond_false,if_true]
  congr 1
  rcases ja.1 hs with h|h|h|h<;>rw [h]
  ·have e:IntKind.wrap .i64 (IntKind.wrap .i64 (2*2)-1)=2^2-1:=by decide
   rw [e,qX _ 2 (by omega),pN _ 2 (by omega),wrap64 (by omega) (by omega)];rfl
  ·have e:IntKind.wrap .i64 (IntKind.wrap .i64 (2*4)-1)=2^3-1:=by decide
   rw [e,qX _ 3 (by omega),pN _ 3 (by omega),wrap64 (by omega) (by omega)];rfl
  ·have e:IntKind.wrap .i64 (IntKind.wrap .i64 (2*8)-1)=2^4-1:=by decide
   rw [e,qX _ 4 (by omega),pN _ 4 (by omega),wrap64 (by omega) (by omega)];rfl
  ·have e:IntKind.wrap .i64 (IntKind.wrap .i64 (2*16)-1)=2^5-1:=by decide
   rw [e,qX _ 5 (by omega),pN _ 5 (by omega),wrap64 (by omega) (by omega)];rfl
theorem C9 (r:(Int×Int×Int×Int)):iR r=some (mD r):=by
 unfold iR mD
 rw [vk,ab]
 cases hs:dm r.2.1 with
 |false=>rfl
 |true=>
  simp only [Bool.not_true,cond_false,if_true]
  have hb:=ja.1 hs
  rw [wrap64 (n:=2*r.2.1) (by omega) (by omega)]
  have a1:=Int.emod_nonneg r.2.2.2 (show 2*r.2.1≠0 by omega)
  have a2:=Int.emod_lt_of_pos r.2.2.2 (show 0<2*r.2.1 by omega)
  have a3:=Int.emod_nonneg r.2.2.1 (show 2*r.2.1≠0 by omega)
  have a4:=Int.emod_lt_of_pos r.2.2.1 (show 0<2*r.2.1 by omega)
  simp only [H0 _ (2*r.2.1) (show 0<2*r.2.1 by omega) (by omega),ab]
  rw [wrap64 (by omega) (by omega),←Int.sub_emod]
def eR (r:(Int×Int×Int×Int)):Bool:=bp r.1 0 130944&&(dm r.2.1&&(bp r.2.2.1 0 (2*r.2.1-1)&&(bp r.2.2.2 0 (2*r.2.1-1)&&decide (mD r≤r.2.1))))
theorem uW {n:Int}(h:dm n=true):IntKind.wrap .i64 (IntKind.wrap .i64 (2*n)-1)=2*n-1:=by
 have:=ja.1 h
 rw [wrap64 (n:=2*n) (by omega) (by omega),wrap64 (by omega) (by omega)]
theorem xU (r:(Int×Int×Int×Int)):kf r=some (eR r):=by
 unfold kf eR
 simp only [bc,tc,D3,ab,aN,cF]
 cases hs:dm r.2.1 with
 |false=>rfl
 |true=>rw [uW hs]
theorem xl (r:(Int×Int×Int×Int)):jT r=some (eR r):=by
 unfold jT eR
 simp only [bI,vk,C9,ab,aN,cF]
 cases hs:dm r.2.1 with
 |false=>rfl
 |true=>rw [uW hs]
theorem Fj (p:aY)(h:p.2.2.2.length≤1000000000):nj p=some p:=by
 unfold nj
 rw [aA (by simp;omega)];rfl
theorem ov (l:List Int)(h:l.length≤1000000000):dg l=some l:=by
 unfold dg
 rw [aA (by simp;omega)];rfl
theorem Ce (p:aY)(h:p.2.2.2.length≤1000000000):lP p=some p:=by
 unfold lP
 rw [ov _ h];rfl
def BA (p:aY)(l:List Int):aY:=(p.1,p.2.1,p.2.2.1,p.2.2.2++l)
def tH (p:aY)(l:List Int):Bool:=c8 p&&c8 (BA p l)
def Mw (p:aY)(l:List Int):aY×Bool:=bif tH p l then (BA p l,true) else (p,false)
theorem aal (p:aY)(l:List Int):(Mw p l).2=tH p l:=by unfold Mw;cases tH p l<;>rfl
def ir (n:Int)(s:fZ):Bool:=bp s.2.1 1 n&&bp s.1 0 65535
def bK (l:List fZ):List Int:=l.flatMap (·.2.2)
def dK (l:List fZ):Int:=(l.map (·.2.1)).sum
def txB (t:mP):Bool:=eR t.1&&(c8 t.2.1&&(bp t.2.2.2 0 65535&&(t.2.2.1.all (ir t.1.2.1)&&(tH t.2.1 (bK t.2.2.1)&&decide (dK t.2.2.1≤t.1.2.1)))))
theorem tw (n:Int):∀l:List fZ,l.all (ir n)=true→0≤dK l
 |[],_=>by simp [dK]
 |x::l,h=>by
  simp only [List.all_cons,Bool.and_eq_true] at h
  have:=tw n l h.2
  have hx:=h.1
  unfold ir at hx
  simp only [Bool.and_eq_true,bf] at hx
  simp only [dK,List.map_cons,List.sum_cons] at this⊢
  omega
theorem Iy (p:aY)(n:Int)(hn:0≤n∧n≤16)(fin:Int×List Int→Option Bool)(hfin:∀s:Int×List Int,p.2.2.2.length+s.2.length≤1000000000→fin s=some (tH p s.2&&decide (s.1≤n))):
 ∀(l:List fZ)(sum:Int)(acc:List Int),0≤sum→sum+16*l.length≤100000000000→p.2.2.2.length+(acc.length+(bK l).length)≤1000000000→
 gF (fun x (s:Int×List Int) k=>cond (!(ir n x)) (some false) (room (s.2.length+x.2.2.length) (k (IntKind.wrap .i64 (s.1+x.2.1),s.2++x.2.2)))) fin l (sum,acc)
  =some (l.all (ir n)&&(tH p (acc++bK l)&&decide (sum+dK l≤n)))
 |[],sum,acc,h0,h1,h2=>by
  rw [gF,hfin _ (by simp [bK] at h2;exact h2)]
  simp [bK,dK]
 |x::l,sum,acc,h0,h1,h2=>by
  have hb:bK (x::l)=x.2.2++bK l:=by simp [bK]
  rw [hb,List.length_append] at h2
  rw [gF,List.all_cons]
  cases hx:ir n x with
  |false=>rfl
  |true=>
   have hx':=hx
   unfold ir at hx'
   simp only [Bool.and_eq_true,bf] at hx'
   simp only [List.length_cons,Int.natCast_add,Int.natCast_one] at h1
   simp only [Bool.not_true,cond_false,Bool.true_and]
   rw [aA (by omega),wrap64 (by omega) (by omega),Iy p n hn fin hfin l _ _ (by omega) (by omega) (by rw [List.length_append];omega)]
   rw [hb,List.append_assoc]
   have e:sum+x.2.1+dK l=sum+dK (x::l):=by simp only [dK,List.map_cons,List.sum_cons];omega
   rw [e]
theorem HL (p:aY)(n:Int)(hn:n≤16)(fin:Int×List Int→Option Bool)(hfin:∀s:Int×List Int,p.2.2.2.length+s.2.length≤1000000000→fin s=some (tH p s.2)):
 ∀(l:List fZ)(left:Int)(acc:List Int),0≤left→left≤n→p.2.2.2.length+(acc.length+(bK l).length)≤1000000000→
 gF (fun x (s:Int×List Int) k=>cond (decide (x.2.1<1)||(decide (x.2.1>s.1)|| !(bp x.1 0 65535))) (some false) (room (s.2.length+x.2.2.length) (k (IntKind.wrap .i64 (s.1-x.2.1),s.2++x.2.2)))) fin l (left,acc)
  =some (l.all (ir n)&&(tH p (acc++bK l)&&decide (dK l≤left)))
 |[],left,acc,h0,h1,h2=>by
  rw [gF,hfin _ (by simp [bK] at h2;exact h2)]
  simp [bK,dK,h0]
 |x::l,left,acc,h0,h1,h2=>by
  have hb:bK (x::l)=x.2.2++bK l:=by simp [bK]
  have hc:dK (x::l)=x.2.1+dK l:=by simp only [dK,List.map_cons,List.sum_cons]
  rw [hb,List.length_append] at h2
  rw [gF,List.all_cons,hb,hc]
  by_cases c1:x.2.1<1
  ·have e:ir n x=false:=by unfold ir bp;rw [decide_eq_false (show¬1≤x.2.1 by omega)];rfl
   rw [e,decide_eq_true c1];rfl
  ·rw [decide_eq_false c1]
   by_cases c2:x.2.1>left
   ·rw [decide_eq_true c2]
    simp only [Bool.or_true,Bool.false_or,Bool.true_or,cond_true]
    cases ha:l.all (ir n) with
    |false=>simp
    |true=>
     have:=tw n l ha
     rw [decide_eq_false (show¬x.2.1+dK l≤left by omega)];simp
   ·rw [decide_eq_false c2]
    have e:ir n x=bp x.1 0 65535:=by
     have:bp x.2.1 1 n=true:=bf.2 ⟨by omega,by omega⟩
     unfold ir;rw [this];rfl
    rw [e]
    cases bp x.1 0 65535 with
    |false=>rfl
    |true=>
     simp only [Bool.false_or,Bool.not_true,cond_false,Bool.true_and]
     rw [aA (by omega),wrap64 (by omega) (by omega),HL p n hn fin hfin l _ _ (by omega) (by omega) (by rw [List.length_append];omega),List.append_assoc]
     have e:decide (dK l≤left-x.2.1)=decide (x.2.1+dK l≤left):=by rw [Bool.eq_iff_iff];simp;omega
     rw [e]
end
end Go.Pu
end
section
namespace Go.Pu
open Go.Dn
noncomputable section
def FP (s:jh):Bool:=bp s.2.1 0 65535&&(bp s.2.2.1 0 65535&&(!decide ((List.length s.2.2.2.2.2.2.2:Int)>320)&&
 (bif s.1==17 then (s.2.2.2.1==0)&&((s.2.2.2.2.1==0)&&((s.2.2.2.2.2.1==0)&&(s.2.2.2.2.2.2.1==0)))
  else (s.1==6)&&(bp s.2.2.2.1 0 4294967295&&(bp s.2.2.2.2.1 0 4294967295&&(bp s.2.2.2.2.2.1 0 31&&bp s.2.2.2.2.2.2.1 0 65535))))))
def EW (f:Int):Bool:=(f==16)||(f==17)||(f==24)||(f==25)
theorem Oy (f:Int)(h:bp f 0 31=true):(IntKind.wrap .i64 (BitVec.toNat (BitVec.ofInt (IntKind.bits .i64) f&&&~~~ BitVec.ofInt (IntKind.bits .i64) 9))==16)=EW f:=by
 have key:∀k:Fin 32,(IntKind.wrap .i64 (BitVec.toNat (BitVec.ofInt (IntKind.bits .i64) (k.val:Int)&&&~~~ BitVec.ofInt (IntKind.bits .i64) 9))==16)=EW (k.val:Int):=by decide
 rw [bf] at h
 have:=key ⟨f.toNat,by omega⟩
 rwa [show ((f.toNat:Nat):Int)=f by omega] at this
theorem RA {s:jh}(h:FP s=true)(h6:(s.1==6)=true):bp s.2.2.2.2.2.1 0 31=true:=by
 have:s.1=6:=by simpa using h6
 unfold FP at h
 rw [this] at h
 simp only [Bool.and_eq_true] at h
 have h:=h.2.2.2
 simp at h
 exact h.2.2.1
def GJ (p:bH):Bool:=bp p.1 0 281474976710655&&(bp p.2.1 0 281474976710655&&(bp p.2.2.1 (-1) 4095&&(bp p.2.2.2.1 0 255&&(bp p.2.2.2.2.2.1 0 255&&(bp p.2.2.2.2.1 0 65535&&(bp p.2.2.2.2.2.2.1 0 4294967295&&(bp p.2.2.2.2.2.2.2.1 0 4294967295&&FP p.2.2.2.2.2.2.2.2)))))))
def od (p:bH):Bool:=GJ p&&(decide ((List.length p.2.2.2.2.2.2.2.2.2.2.2.2.2.2.2:Int)≤128)||(p.2.2.2.2.2.2.2.2.1==6)&&EW p.2.2.2.2.2.2.2.2.2.2.2.2.2.1)
theorem Jy {p:bH}(h:GJ p=true):FP p.2.2.2.2.2.2.2.2=true:=by
 unfold GJ at h
 simp only [Bool.and_eq_true] at h
 exact h.2.2.2.2.2.2.2.2
def uS (q:(Int×Int×Int)):Bool:=bp q.1 0 130944&&(dm q.2.1&&bp q.2.2 0 (IntKind.wrap .i64 ((IntKind.wrap .i64 (2*q.2.1))-1)))
def XD:vV:=((0,0,0,0,0,0,0,0,0,0,0,0,0,0,0,([]:Bytes)),0,0)
def KH (p:vV):Bool:=(p.1.1==0)&&((p.1.2.1==0)&&((p.1.2.2.1==0)&&((p.1.2.2.2.1==0)&&((p.1.2.2.2.2.1==0)&&((p.1.2.2.2.2.2.1==0)&&((p.1.2.2.2.2.2.2.1==0)&&((p.1.2.2.2.2.2.2.2.1==0)&&((p.1.2.2.2.2.2.2.2.2.1==0)&&((p.1.2.2.2.2.2.2.2.2.2.1==0)&&((p.1.2.2.2.2.2.2.2.2.2.2.1==0)&&((p.1.2.2.2.2.2.2.2.2.2.2.2.1==0)&&((p.1.2.2.2.2.2.2.2.2.2.2.2.2.1==0)&&((p.1.2.2.2.2.2.2.2.2.2.2.2.2.2.1==0)&&((p.1.2.2.2.2.2.2.2.2.2.2.2.2.2.2.1==0)&&((p.1.2.2.2.2.2.2.2.2.2.2.2.2.2.2.2==([]:Bytes))&&((p.2.1==0)&&((p.2.2==0)&&true)))))))))))))))))
def X1 (r:bg):Bool:=(eR r.1&&(uS r.2.1&&(uS r.2.2.1&&((r.2.1.1==r.2.2.1.1)&&((r.2.1.2.1==r.2.2.1.2.1)&&bp r.2.2.2.2.2 0 1000000000000)))))&&
 (bif r.2.2.2.2.1 then od r.2.2.2.1.1&&(bp r.2.2.2.1.2.1 0 320&&bp r.2.2.2.1.2.2 1 320) else KH r.2.2.2.1)
theorem aco (p:vV):KH p=true↔p=XD:=by
 obtain ⟨⟨a,b,c,d,e,f,g,h,i,j,k,l,m,n,o,q⟩,r,s⟩:=p
 simp only [KH,XD,Bool.and_true,Bool.and_eq_true,beq_iff_eq,Prod.mk.injEq,and_assoc]
def ml (v:Vector):Bool:=(fV v).getD false
theorem xW (v:Vector):fV v=some (ml v):=by
 have:∃b,fV v=some b:=by
  simp only [fV,oP,bc,ab,aN]
  exact ⟨_,rfl⟩
 obtain ⟨b,hb⟩:=this
 rw [ml,hb];rfl
theorem E8 (v:Vector):oV v=some (ml v):=xW v
theorem uT {α:Type}(l:List α)(p:α→Bool):(List.range l.length).all (fun i=>l[i]?.all p)=l.all p:=by
 rw [Bool.eq_iff_iff,List.all_eq_true,List.all_eq_true]
 constructor
 ·intro h x hx
  obtain ⟨i,hi,rfl⟩:=List.getElem_of_mem hx
  have:=h i (List.mem_range.2 hi)
  rwa [List.getElem?_eq_getElem hi] at this
 ·intro h i hi
  rw [List.getElem?_eq_getElem (List.mem_range.1 hi)]
  exact h _ (List.getElem_mem _)
theorem F9 {α:Type}(l:List α)(p q:α→Bool):l.all (fun x=>p x&&q x)=(l.all p&&l.all q):=by
 induction l with
 |nil=>rfl
 |cons x l ih=>simp only [List.all_cons,ih];cases p x<;>cases q x<;>cases l.all p<;>rfl
def nz (h:Host):List Int:=[h.2.2.2.2.2.2.2.2.2.2.2.2.2.2.1,h.2.2.2.2.2.2.2.2.2.2.2.2.2.2.2.1,h.2.2.2.2.2.2.2.2.2.2.2.2.2.2.2.2.1,h.2.2.2.2.2.2.2.2.2.2.2.2.2.2.2.2.2.1,h.2.2.2.2.2.2.2.2.2.2.2.2.2.2.2.2.2.2]
def GR (h:Host):Bool:=bp (h.2.2.2.1.length:Int) 1 2&&(((h.2.2.2.2.1.length:Int)==(h.2.2.2.1.length:Int))&&(((h.2.2.2.2.2.1.length:Int)==(h.2.2.2.1.length:Int))&&((h.2.2.2.2.2.2.1.length:Int)==(h.2.2.2.1.length:Int))))
def Np (h:Host):Bool:=h.2.2.2.1.all X1&&(h.2.2.2.2.1.all c8&&h.2.2.2.2.2.1.all ml)
def Jz (h:Host):Bool:=cz h.1&&(bA h.2.1&&(txB h.2.2.1&&(ei h.2.2.2.2.2.2.2.1&&(GR h&&(fW h.2.2.2.2.2.2.2.2.1 (h.2.2.2.1.length:Int)&&(Np h&&(nz h).all (fun x=>bp x 0 1000000000000)))))))
structure Em (h:Host):Prop where
 a1:h.1.length≤1000000000
 a2:h.2.1.length≤1000000000
 t1:h.2.2.1.2.2.1.length≤1000000000
 t2:h.2.2.1.2.1.2.2.2.length+(bK h.2.2.1.2.2.1).length≤1000000000
 f1:h.2.2.2.2.2.2.2.1.2.2.length≤1000000000
 s1:h.2.2.2.2.2.2.2.2.1.1.length≤1000000000
 s2:h.2.2.2.2.2.2.2.2.1.2.1.length≤1000000000
 s3:h.2.2.2.2.2.2.2.2.1.2.2.2.length≤1000000000
 p1:∀p∈h.2.2.2.2.1,p.2.2.2.length≤1000000000
theorem Bi {h:Host}(l:GR h=true):h.2.2.2.1.length≤2∧h.2.2.2.2.1.length=h.2.2.2.1.length∧h.2.2.2.2.2.1.length=h.2.2.2.1.length∧h.2.2.2.2.2.2.1.length=h.2.2.2.1.length:=by
 unfold GR at l
 simp only [Bool.and_eq_true,bf,beq_iff_eq] at l
 omega
theorem Ry {R:Type}{T:(Int→Option R)→Int→Option R}{fin hit:Option R}{h:Host}(l:GR h=true)
 (hs:∀i (hi:i<h.2.2.2.1.length) nx,T nx (i:Int)=cond (!(X1 h.2.2.2.1[i]&&(c8 (h.2.2.2.2.1[i]'((Bi l).2.1▸hi))&&ml (h.2.2.2.2.2.1[i]'((Bi l).2.2.1▸hi))))) hit (nx ((i+1:Nat):Int)))
 (hf:∀nx,T nx (h.2.2.2.1.length:Int)=fin):aj T fuel 0=cond (Np h) fin hit:=by
 have hl:=Bi l
 rw [eB (fin:=fin) (hit:=hit) (fun i=>h.2.2.2.1[i]?.all X1&&(h.2.2.2.2.1[i]?.all c8&&h.2.2.2.2.2.1[i]?.all ml)) h.2.2.2.1.length (by omega) ?hs hf]
 case hs=>
  intro i nx hi
  rw [hs i hi,List.getElem?_eq_getElem hi,List.getElem?_eq_getElem (hl.2.1▸hi),List.getElem?_eq_getElem (hl.2.2.1▸hi)]
  rfl
 rw [F9,F9,uT]
 have e1:=uT h.2.2.2.2.1 c8
 have e2:=uT h.2.2.2.2.2.1 ml
 rw [hl.2.1] at e1
 rw [hl.2.2.1] at e2
 rw [e1,e2];rfl
theorem Nl {R:Type}{T:(Int→Option R)→Int→Option R}{fin hit:Option R}(h:Host)
 (hs:∀i (hi:i<(nz h).length) nx,T nx (i:Int)=cond (!(bp (nz h)[i] 0 1000000000000)) hit (nx ((i+1:Nat):Int)))
 (hf:∀nx,T nx ((nz h).length:Int)=fin):aj T fuel 0=cond ((nz h).all (fun x=>bp x 0 1000000000000)) fin hit:=
 jP (fun x=>bp x 0 1000000000000) (nz h) (by simp [nz]) hs hf
end
end Go.Pu
end
section
namespace Go.Pu
open Go.Dn
set_option linter.unusedSimpArgs false
set_option linter.unusedVariables false
noncomputable section
theorem lu {n:Nat}(h:n<9223372036854775808):IntKind.wrap .i64 (n:Int)=(n:Int):=wrap64 (by omega) (by omega)
theorem uo {n:Nat}(h:n<4294967296):IntKind.wrap .u32 (n:Int)=(n:Int):=by
 simp only [IntKind.wrap,IntKind.bits,IntKind.signed]
 simp
 omega
theorem pS (b:UInt8):b.toNat<256:=b.toNat_lt
def dZ (v:Int):Bytes:=(dU v).getD []
theorem tk (v:Int):dU v=some (dZ v):=by
 unfold dZ
 have:∃x,dU v=some x:=by
  simp only [dU,bc,ab]
  cases bp v 0 65535<;>exact ⟨_,rfl⟩
 obtain ⟨x,hx⟩:=this
 rw [hx];rfl
theorem E9 (v:Int):mm v=some (dZ v):=tk v
theorem F6 (v:Int):(dZ v).length=bif bp v 0 65535 then 2 else 0:=by
 have h:=tk v
 simp only [dU,bc,ab] at h
 cases hb:bp v 0 65535<;>rw [hb] at h<;>(rw [←Option.some.inj h];rfl)
theorem cv (v:Int):(dZ v).length≤2:=by rw [F6];cases bp v 0 65535<;>simp
def dc (v:Int):Bytes:=(cG v).getD []
theorem n9 (v:Int):cG v=some (dc v):=by
 unfold dc
 have:∃x,cG v=some x:=by
  simp only [cG,bc,ab]
  cases bp v 0 4294967295<;>exact ⟨_,rfl⟩
 obtain ⟨x,hx⟩:=this
 rw [hx];rfl
theorem s8 (v:Int):gI v=some (dc v):=n9 v
theorem F7 (v:Int):(dc v).length=bif bp v 0 4294967295 then 4 else 0:=by
 have h:=n9 v
 simp only [cG,bc,ab] at h
 cases hb:bp v 0 4294967295<;>rw [hb] at h<;>(rw [←Option.some.inj h];rfl)
theorem bX (v:Int):(dc v).length≤4:=by rw [F7];cases bp v 0 4294967295<;>simp
def dx (s:Bytes)(i:Nat):Nat:=(s.getD i 0).toNat
theorem bD (s:Bytes)(i:Nat):dx s i<256:=pS _
theorem pn {s:Bytes}{i:Nat}(h:i<s.length):∃x,idx s (i:Int)=some x∧x.toNat=dx s i:=⟨s[i],aC h,by rw [dx,bl h]⟩
def bG (s:Bytes)(a n:Int):Bool:=decide (0≤a∧a+n≤(s.length:Int))
theorem rJ (s:Bytes)(a n:Int)(h:s.length≤1000000000)(hn:0≤n):eV s a n=some (bG s a n):=by
 unfold eV bG
 by_cases h0:0≤a
 ·by_cases h1:a≤(s.length:Int)
  ·rw [decide_eq_true (show a≥0 from h0),decide_eq_true h1,wrap64 (by omega) (by omega)]
   simp only [cond_true,ab]
   congr 1
   rw [decide_eq_decide];omega
  ·rw [decide_eq_true (show a≥0 from h0),decide_eq_false h1,decide_eq_false (show¬(0≤a∧a+n≤(s.length:Int)) by omega)];rfl
 ·rw [decide_eq_false (show¬a≥0 from h0),decide_eq_false (show¬(0≤a∧a+n≤(s.length:Int)) by omega)];rfl
def mO (s:Bytes)(a:Int):Int:=bif bG s a 2 then ((dx s a.toNat*256+dx s (a.toNat+1):Nat):Int) else-1
def cX (s:Bytes)(a:Int):Int:=bif bG s a 4 then (((dx s a.toNat*256+dx s (a.toNat+1))*65536+(dx s (a.toNat+2)*256+dx s (a.toNat+3)):Nat):Int) else-1
theorem zJ (s:Bytes)(a:Int)(h:s.length≤1000000000):oa s a=some (mO s a):=by
 unfold oa mO
 rw [rJ s a 2 h (by omega),ab]
 cases hw:bG s a 2 with
 |false=>rfl
 |true=>
  simp only [bG,decide_eq_true_eq] at hw
  obtain ⟨n,rfl⟩:=Int.eq_ofNat_of_zero_le hw.1
  obtain ⟨x,hx,ex⟩:=pn (s:=s) (i:=n) (by omega)
  obtain ⟨y,hy,ey⟩:=pn (s:=s) (i:=n+1) (by omega)
  have hxl:=bD s n
  have hyl:=bD s (n+1)
  rw [wrap64 (n:=(n:Int)+1) (by omega) (by omega),hx,show (n:Int)+1=((n+1:Nat):Int) by omega,hy]
  simp only [Bool.not_true,cond_false,ab,Int.toNat_natCast,cond_true]
  rw [if_neg (by omega),ex,ey,lu (by omega),lu (by omega)]
  have e8:min (Int.toNat 8) (IntKind.bits .i64)=8:=rfl
  rw [e8,wrap64 (n:=((dx s n:Nat):Int)*2^8) (by omega) (by omega),wrap64 (by omega) (by omega)]
  congr 1
  all_goals omega
theorem Iv (s:Bytes)(a:Int)(h:s.length≤1000000000):lC s a=some (cX s a):=by
 unfold lC cX
 rw [rJ s a 4 h (by omega),ab]
 cases hw:bG s a 4 with
 |false=>rfl
 |true=>
  simp only [bG,decide_eq_true_eq] at hw
  obtain ⟨n,rfl⟩:=Int.eq_ofNat_of_zero_le hw.1
  have w1:bG s (n:Int) 2=true:=by simp only [bG,decide_eq_true_eq];omega
  have w2:bG s ((n:Int)+2) 2=true:=by simp only [bG,decide_eq_true_eq];omega
  have b0:=bD s n
  have b1:=bD s (n+1)
  have b2:=bD s (n+2)
  have b3:=bD s (n+3)
  rw [wrap64 (n:=(n:Int)+2) (by omega) (by omega),zJ s _ h,zJ s _ h]
  simp only [Bool.not_true,cond_false,ab,cond_true,mO,w1,w2,Int.toNat_natCast]
  rw [if_neg (by omega),show ((n:Int)+2).toNat=n+2 by omega,show n+2+1=n+3 by omega]
  have e8:min (Int.toNat 16) (IntKind.bits .i64)=16:=rfl
  rw [e8,wrap64 (n:=((dx s n*256+dx s (n+1):Nat):Int)*2^16) (by omega) (by omega),wrap64 (by omega) (by omega)]
  congr 1
  all_goals omega
theorem acj (a b:Nat)(ha:a<9223372036854775808)(hb:b<9223372036854775808):BitVec.toNat (BitVec.ofInt (IntKind.bits .i64) (a:Int)|||BitVec.ofInt (IntKind.bits .i64) (b:Int))=a|||b:=by
 show (BitVec.ofInt 64 (a:Int)|||BitVec.ofInt 64 (b:Int)).toNat=_
 rw [BitVec.ofInt_natCast,BitVec.ofInt_natCast,BitVec.toNat_or,BitVec.toNat_ofNat,BitVec.toNat_ofNat,Nat.mod_eq_of_lt (by omega),Nat.mod_eq_of_lt (by omega)]
theorem Ni (a b:Nat)(ha:a<9223372036854775808)(hb:b<9223372036854775808):BitVec.toNat (BitVec.ofInt (IntKind.bits .i64) (a:Int)&&&BitVec.ofInt (IntKind.bits .i64) (b:Int))=a&&&b:=by
 show (BitVec.ofInt 64 (a:Int)&&&BitVec.ofInt 64 (b:Int)).toNat=_
 rw [BitVec.ofInt_natCast,BitVec.ofInt_natCast,BitVec.toNat_and,BitVec.toNat_ofNat,BitVec.toNat_ofNat,Nat.mod_eq_of_lt (by omega),Nat.mod_eq_of_lt (by omega)]
theorem N8 (a b:Nat)(ha:a<9223372036854775808)(hb:b<9223372036854775808):BitVec.toNat (BitVec.ofInt (IntKind.bits .i64) (a:Int)^^^BitVec.ofInt (IntKind.bits .i64) (b:Int))=a^^^b:=by
 show (BitVec.ofInt 64 (a:Int)^^^BitVec.ofInt 64 (b:Int)).toNat=_
 rw [BitVec.ofInt_natCast,BitVec.ofInt_natCast,BitVec.toNat_xor,BitVec.toNat_ofNat,BitVec.toNat_ofNat,Nat.mod_eq_of_lt (by omega),Nat.mod_eq_of_lt (by omega)]
theorem SM (a b:Nat)(ha:a<4294967296)(hb:b<4294967296):BitVec.toNat (BitVec.ofInt (IntKind.bits .u32) (a:Int)&&&BitVec.ofInt (IntKind.bits .u32) (b:Int))=a&&&b:=by
 show (BitVec.ofInt 32 (a:Int)&&&BitVec.ofInt 32 (b:Int)).toNat=_
 rw [BitVec.ofInt_natCast,BitVec.ofInt_natCast,BitVec.toNat_and,BitVec.toNat_ofNat,BitVec.toNat_ofNat,Nat.mod_eq_of_lt (by omega),Nat.mod_eq_of_lt (by omega)]
theorem N7 (a b:Nat)(ha:a<4294967296)(hb:b<4294967296):BitVec.toNat (BitVec.ofInt (IntKind.bits .u32) (a:Int)^^^BitVec.ofInt (IntKind.bits .u32) (b:Int))=a^^^b:=by
 show (BitVec.ofInt 32 (a:Int)^^^BitVec.ofInt 32 (b:Int)).toNat=_
 rw [BitVec.ofInt_natCast,BitVec.ofInt_natCast,BitVec.toNat_xor,BitVec.toNat_ofNat,BitVec.toNat_ofNat,Nat.mod_eq_of_lt (by omega),Nat.mod_eq_of_lt (by omega)]
theorem Bw (x k y:Nat)(hy:y<2^k)(h:2^k*x+y<9223372036854775808):IntKind.wrap .i64 (BitVec.toNat (BitVec.ofInt (IntKind.bits .i64) ((2^k*x:Nat):Int)|||BitVec.ofInt (IntKind.bits .i64) (y:Int)):Int)=((2^k*x+y:Nat):Int):=by
 rw [acj _ _ (by omega) (by omega),←Nat.two_pow_add_eq_or_of_lt hy]
 exact lu h
theorem Eb (s:Bytes)(a n:Int):(cond (decide (a<0)) (some true) (some (decide (a>(s.length:Int)-n))))=some (!bG s a n):=by
 cases hw:bG s a n with
 |true=>
  simp only [bG,decide_eq_true_eq] at hw
  rw [decide_eq_false (show¬a<0 by omega),decide_eq_false (show¬a>(s.length:Int)-n by omega)]
  rfl
 |false=>
  simp only [bG,decide_eq_false_iff_not] at hw
  by_cases h0:a<0
  ·rw [decide_eq_true h0];rfl
  ·rw [decide_eq_false h0,decide_eq_true (show a>(s.length:Int)-n by omega)];rfl
theorem HF (s:Bytes)(a:Int)(h:s.length≤1000000000):nG s a=some (cX s a):=by
 unfold nG cX
 rw [wrap64 (n:=(s.length:Int)-4) (by omega) (by omega)]
 rw [Eb,ab]
 cases hw:bG s a 4 with
 |false=>rfl
 |true=>
  simp only [bG,decide_eq_true_eq] at hw
  obtain ⟨n,rfl⟩:=Int.eq_ofNat_of_zero_le hw.1
  obtain ⟨x0,h0,e0⟩:=pn (s:=s) (i:=n) (by omega)
  obtain ⟨x1,h1,e1⟩:=pn (s:=s) (i:=n+1) (by omega)
  obtain ⟨x2,h2,e2⟩:=pn (s:=s) (i:=n+2) (by omega)
  obtain ⟨x3,h3,e3⟩:=pn (s:=s) (i:=n+3) (by omega)
  have b0:=bD s n
  have b1:=bD s (n+1)
  have b2:=bD s (n+2)
  have b3:=bD s (n+3)
  rw [wrap64 (n:=(n:Int)+1) (by omega) (by omega),wrap64 (n:=(n:Int)+2) (by omega) (by omega),wrap64 (n:=(n:Int)+3) (by omega) (by omega),h0,show (n:Int)+1=((n+1:Nat):Int) by omega,h1,
   show (n:Int)+2=((n+2:Nat):Int) by omega,h2,show (n:Int)+3=((n+3:Nat):Int) by omega,h3]
  simp only [Bool.not_true,cond_false,cond_true,ab,Int.toNat_natCast]
  rw [if_neg (by omega),if_neg (by omega),if_neg (by omega),e0,e1,e2,e3]
  generalize dx s n=p0 at*
  generalize dx s (n+1)=p1 at*
  generalize dx s (n+2)=p2 at*
  generalize dx s (n+3)=p3 at*
  have f24:min (Int.toNat 24) (IntKind.bits .i64)=24:=rfl
  have f16:min (Int.toNat 16) (IntKind.bits .i64)=16:=rfl
  have f8:min (Int.toNat 8) (IntKind.bits .i64)=8:=rfl
  rw [lu (n:=p0) (by omega),lu (n:=p1) (by omega),lu (n:=p2) (by omega),lu (n:=p3) (by omega),f24,f16,f8,
   show ((p0:Nat):Int)*2^24=((2^24*p0:Nat):Int) by omega,show ((p1:Nat):Int)*2^16=((2^16*p1:Nat):Int) by omega,show ((p2:Nat):Int)*2^8=((2^8*p2:Nat):Int) by omega,
   lu (n:=2^24*p0) (by omega),lu (n:=2^16*p1) (by omega),lu (n:=2^8*p2) (by omega),Bw p0 24 (2^16*p1) (by omega) (by omega),
   show 2^24*p0+2^16*p1=2^16*(2^8*p0+p1) by omega,Bw _ 16 (2^8*p2) (by omega) (by omega),
   show 2^16*(2^8*p0+p1)+2^8*p2=2^8*(2^8*(2^8*p0+p1)+p2) by omega,Bw _ 8 p3 (by omega) (by omega)]
  congr 1
  all_goals omega
def sV (c:Nat):Nat:=if c%2=1 then (c/2)^^^3988292384 else c/2
def jI:Nat→Nat→Nat
 |0,c=>c
 |n+1,c=>sV (jI n c)
def SR (c:Nat)(s:Bytes):Nat:=s.foldl (fun c b=>jI 8 (c^^^b.toNat)) c
def tx (s:Bytes):Int:=4294967295-(SR 4294967295 s:Int)
theorem qF {a b:Nat}(ha:a<4294967296)(hb:b<4294967296):a^^^b<4294967296:=Nat.xor_lt_two_pow (n:=32) ha hb
theorem Hm {c:Nat}(h:c<4294967296):sV c<4294967296:=by
 unfold sV
 split
 ·exact qF (by omega) (by omega)
 ·omega
theorem rV {c:Nat}(h:c<4294967296):∀n,jI n c<4294967296
 |0=>h
 |n+1=>Hm (rV h n)
theorem Gi:∀(s:Bytes){c:Nat},c<4294967296→SR c s<4294967296
 |[],_,h=>h
 |b::s,c,h=>Gi s (c:=jI 8 (c^^^b.toNat)) (rV (qF h (by have:=pS b;omega)) 8)
theorem SQ (s:Bytes):0≤tx s∧tx s≤4294967295:=by
 have:=Gi s (c:=4294967295) (by omega)
 unfold tx;omega
theorem Ks {R:Type}(k0:Int→Int→Option R)(k:Int→Option R)(hk:∀x y,k0 x y=k x)(v0:Bytes)(v4:Int)(c:Nat)(h:c<4294967296):aj (fT k0 v0 v4) fuel ((c:Int),0)=k (jI 8 c:Int):=by
 have hfu:=bj
 have key:=sf (T:=fT k0 v0 v4) 8 (fun (_:Unit) i=>((jI i c:Int),(i:Int))) (fun _ s nx=>nx s) (fun _=>k (jI 8 c:Int))
  (fun i s nx hi=>by
   have hc:=rV h i
   simp only [fT]
   have a1:=Ni (jI i c) 1 (by omega) (by omega)
   have x1:=N8 (jI i c/2) 3988292384 (by omega) (by omega)
   simp only [Int.natCast_one] at a1
   rw [decide_eq_true (by omega),cond_true,a1,Nat.and_one_is_mod,
    show min (Int.toNat 1) (IntKind.bits .i64)=1 from rfl,show Int.fdiv ((jI i c:Nat):Int) (2^1)=((jI i c/2:Nat):Int) from by rw [Int.fdiv_eq_ediv_of_nonneg _ (by omega)];rfl,
    show (3988292384:Int)=((3988292384:Nat):Int) from rfl,x1,
    lu (n:=jI i c%2) (by omega),lu (n:=(jI i c/2)^^^3988292384) (by have:=qF (a:=jI i c/2) (b:=3988292384) (by omega) (by omega);omega),if_neg (by omega),if_neg (by omega),wrap64 (n:=(i:Int)+1) (by omega) (by omega)]
   show _=nx ((sV (jI i c):Int),((i+1:Nat):Int))
   unfold sV
   by_cases hp:jI i c%2=1
   ·rw [hp,if_pos rfl];rfl
   ·have h0:jI i c%2=0:=by omega
    rw [h0,if_neg (by omega)];rfl)
  (fun s nx=>by
   simp only [fT]
   rw [decide_eq_false (by omega),cond_false,hk])
  fuel 0 () (by omega) (by omega)
 refine key.trans ?_
 rfl
theorem JB {R:Type}(k0:Int→Int→Option R)(k:Int→Option R)(hk:∀x y,k0 x y=k x)(v0:Bytes)(v4:Int)(c:Nat)(h:c<4294967296):aj (fN k0 v0 v4) fuel ((c:Int),0)=k (jI 8 c:Int):=by
 have hfu:=bj
 have key:=sf (T:=fN k0 v0 v4) 8 (fun (_:Unit) i=>((jI i c:Int),(i:Int))) (fun _ s nx=>nx s) (fun _=>k (jI 8 c:Int))
  (fun i s nx hi=>by
   have hc:=rV h i
   simp only [fN]
   have a1:=SM (jI i c) 1 (by omega) (by omega)
   have x1:=N7 (jI i c/2) 3988292384 (by omega) (by omega)
   simp only [Int.natCast_one] at a1
   rw [decide_eq_true (by omega),cond_true,a1,Nat.and_one_is_mod,
    show min (Int.toNat 1) (IntKind.bits .u32)=1 from rfl,show Int.fdiv ((jI i c:Nat):Int) (2^1)=((jI i c/2:Nat):Int) from by rw [Int.fdiv_eq_ediv_of_nonneg _ (by omega)];rfl,
    show (3988292384:Int)=((3988292384:Nat):Int) from rfl,x1,
    uo (n:=jI i c%2) (by omega),uo (n:=(jI i c/2)^^^3988292384) (qF (by omega) (by omega)),if_neg (by omega),wrap64 (n:=(i:Int)+1) (by omega) (by omega)]
   show _=nx ((sV (jI i c):Int),((i+1:Nat):Int))
   unfold sV
   by_cases hp:jI i c%2=1
   ·rw [hp,if_pos rfl];rfl
   ·have h0:jI i c%2=0:=by omega
    rw [h0,if_neg (by omega)];rfl)
  (fun s nx=>by
   simp only [fN]
   rw [decide_eq_false (by omega),cond_false,hk])
  fuel 0 () (by omega) (by omega)
 refine key.trans ?_
 rfl
theorem MY (s:Bytes)(h:s.length≤1000000000):qv s=some (tx s):=by
 unfold qv
 have:=k7 (T:=jb (fun (y4:Int) (_:Int)=>some (IntKind.wrap .i64 (4294967295-y4))) s) s (fun (c:Nat) i=>((c:Int),(i:Int))) (fun _ c=>c<4294967296) (fun b c=> .ok (jI 8 (c^^^b.toNat))) (fun c=>some (4294967295-(c:Int))) (by omega)
  (fun i hi c nx hI=> ?hs) (fun i hi c c' hI hg=> ?hn) (fun c nx hI=> ?hf) 4294967295 (by omega)
 case hs=>
  have hb:=pS s[i]
  simp only [jb]
  rw [decide_eq_true (by omega),aC hi,cond_true,ab,lu (n:=s[i].toNat) (by omega),N8 c s[i].toNat (by omega) (by omega)]
  have hx:=qF hI (show s[i].toNat<4294967296 by omega)
  rw [lu (by omega),Ks _ (fun y=>nx (y,(i:Int)+1)) (fun x y=>by rw [wrap64 (by omega) (by omega)]) _ _ _ hx];rfl
 case hn=>
  cases hg
  exact rV (qF hI (by have:=pS s[i];omega)) 8
 case hf=>
  simp only [jb]
  rw [decide_eq_false (by omega),cond_false,wrap64 (by omega) (by omega)]
 rw [tU] at this
 exact this
theorem not_xor (c:Nat)(h:c<4294967296):BitVec.toNat (BitVec.ofInt (IntKind.bits .u32) (IntKind.max .u32)^^^BitVec.ofInt (IntKind.bits .u32) (c:Int))=4294967295-c:=by
 show (BitVec.ofInt 32 4294967295^^^BitVec.ofInt 32 (c:Int)).toNat=_
 rw [show BitVec.ofInt 32 4294967295=BitVec.allOnes 32 by decide,BitVec.ofInt_natCast,BitVec.allOnes_xor,BitVec.toNat_not,BitVec.toNat_ofNat,Nat.mod_eq_of_lt (show c<2^32 by omega)]
theorem MB (s:Bytes)(h:s.length≤1000000000):p6 s=some (tx s):=by
 unfold p6
 have:=k7 (T:=iQ (fun (y4:Int) (_:Int)=>some (IntKind.wrap .i64 (IntKind.wrap .u32 (BitVec.toNat (BitVec.ofInt (IntKind.bits .u32) (IntKind.max .u32)^^^BitVec.ofInt (IntKind.bits .u32) y4))))) s) s (fun (c:Nat) i=>((c:Int),(i:Int))) (fun _ c=>c<4294967296) (fun b c=> .ok (jI 8 (c^^^b.toNat))) (fun c=>some (4294967295-(c:Int))) (by omega)
  (fun i hi c nx hI=> ?hs) (fun i hi c c' hI hg=> ?hn) (fun c nx hI=> ?hf) 4294967295 (by omega)
 case hs=>
  have hb:=pS s[i]
  simp only [iQ]
  rw [decide_eq_true (by omega),aC hi,cond_true,ab,uo (n:=s[i].toNat) (by omega),N7 c s[i].toNat (by omega) (by omega)]
  have hx:=qF hI (show s[i].toNat<4294967296 by omega)
  rw [uo hx,JB _ (fun y=>nx (y,(i:Int)+1)) (fun x y=>by rw [wrap64 (by omega) (by omega)]) _ _ _ hx];rfl
 case hn=>
  cases hg
  exact rV (qF hI (by have:=pS s[i];omega)) 8
 case hf=>
  simp only [iQ]
  rw [decide_eq_false (by omega),cond_false,not_xor c hI,uo (by omega),lu (by omega)]
  congr 1
  all_goals omega
 rw [tU] at this
 exact this
end
end Go.Pu
end
section
namespace Go.Pu
open Go.Dn
set_option linter.unusedSimpArgs false
set_option linter.unusedVariables false
noncomputable section
theorem EB (s:Bytes):bytesOf (aM s)=s:=by
 unfold bytesOf aM
 rw [List.map_map]
 conv=>rhs;rw [←List.map_id s]
 refine List.map_congr_left fun b _=> ?_
 simp
theorem UE (s t:Bytes):aM (s++t)=aM s++aM t:=List.map_append
theorem Db (s:Bytes):(aM s).length=s.length:=List.length_map ..
theorem G4 {α:Type}(l:List α)(i j:Nat)(h:i≤j)(h2:j≤l.length):sub l (i:Int) (j:Int)=some ((l.drop i).take (j-i)):=by
 unfold sub
 rw [if_pos (by omega)]
 simp [List.take_drop,Nat.add_sub_cancel' h]
theorem G9 (a k:Nat):Int.tdiv (a:Int) (k:Int)=((a/k:Nat):Int):=(Int.ofNat_tdiv a k).symm
theorem Ec (a k:Nat):Int.tmod (a:Int) (k:Int)=((a%k:Nat):Int):=(Int.ofNat_tmod a k).symm
theorem mem_iff {m:List Bytes}:cz m=true↔(∀x∈m,x.length=128)∧m.length≤64:=by
 simp only [cz,Bool.and_eq_true,List.all_eq_true,beq_iff_eq,decide_eq_true_eq]
 constructor
 ·rintro ⟨h1,h2⟩;exact ⟨fun x hx=>by have:=h1 x hx;omega,by omega⟩
 ·rintro ⟨h1,h2⟩;exact ⟨fun x hx=>by have:=h1 x hx;omega,by omega⟩
theorem CP:∀{m:List Bytes},(∀x∈m,x.length=128)→m.flatten.length=128*m.length
 |[],_=>rfl
 |x::m,h=>by
  have:=CP (m:=m) (fun y hy=>h y (by simp [hy]))
  have:=h x (by simp)
  simp only [List.flatten_cons,List.length_append,List.length_cons];omega
theorem zi:∀{m:List Bytes}(_:∀x∈m,x.length=128)(p:Nat)(hp:p<m.length)(o c:Nat),o+c≤128→(m.flatten.drop (128*p+o)).take c=(m[p].drop o).take c
 |x::m,h,0,hp,o,c,ho=>by
  have:=h x (by simp)
  simp only [List.flatten_cons,List.getElem_cons_zero]
  rw [List.drop_append_of_le_length (by omega),List.take_append_of_le_length (by simp;omega)]
  simp
 |x::m,h,p+1,hp,o,c,ho=>by
  have hx:=h x (by simp)
  simp only [List.flatten_cons,List.getElem_cons_succ]
  rw [show 128*(p+1)+o=x.length+(128*p+o) by omega,List.drop_length_add_append]
  exact zi (m:=m) (fun y hy=>h y (by simp [hy])) p (by simpa using hp) o c ho
def sI (m:List Bytes)(a n:Nat):Bytes:=(m.flatten.drop a).take n
theorem Rx {m:List Bytes}{a n:Nat}(h:cz m=true)(hn:a+n≤128*m.length):(sI m a n).length=n:=by
 have:=CP (mem_iff.1 h).1
 simp only [sI,List.length_take,List.length_drop];omega
theorem Km (m:List Bytes)(a n:Nat):(sI m a n).length≤n:=by simp [sI];omega
theorem Rv (m:List Bytes)(a k c:Nat):sI m a (k+c)=sI m a k++sI m (a+k) c:=by
 unfold sI;rw [List.take_add,List.drop_drop]
theorem Q9 {m:List Bytes}(h:cz m=true){p:Nat}(hp:p<m.length){o c:Nat}(ho:o+c≤128){a:Nat}(ha:a=128*p+o):(m[p].drop o).take c=sI m a c:=by
 subst ha;exact (zi (mem_iff.1 h).1 p hp o c ho).symm
def cq (m:List Bytes)(a n:Int):Bool:=cz m&&decide (0≤n∧0≤a∧a+n≤128*(m.length:Int))
theorem vf (m:List Bytes)(a n:Int)(h:m.length≤1000000000):mr m a n=some (cq m a n):=by
 unfold mr cq
 rw [xj m h,ab,wrap64 (n:=(m.length:Int)*128) (by omega) (by omega)]
 cases hm:cz m with
 |false=>rfl
 |true=>
  simp only [cond_true,Bool.true_and]
  by_cases h1:n≥0
  ·by_cases h2:n≤(m.length:Int)*128
   ·rw [wrap64 (n:=(m.length:Int)*128-n) (by omega) (by omega)]
    by_cases h3:a≥0
    ·simp only [decide_eq_true h1,decide_eq_true h2,decide_eq_true h3,cond_true,ab]
     exact congrArg some (decide_eq_decide.2 (by omega))
    ·simp only [decide_eq_true h1,decide_eq_true h2,decide_eq_false h3,cond_true,cond_false,ab]
     exact congrArg some (decide_eq_false (by omega)).symm
   ·simp only [decide_eq_true h1,decide_eq_false h2,cond_true,cond_false,ab]
    exact congrArg some (decide_eq_false (by omega)).symm
  ·simp only [decide_eq_false h1,cond_false,ab]
   exact congrArg some (decide_eq_false (by omega)).symm
theorem vp (m:List Bytes)(a n:Int)(h:m.length≤1000000000):eW m a n=some (cq m a n):=by
 unfold eW cq
 rw [tj m h,ab,wrap64 (n:=128*(m.length:Int)) (by omega) (by omega)]
 cases hm:cz m with
 |false=>rfl
 |true=>
  simp only [cond_true,Bool.true_and]
  by_cases h1:n≥0
  ·by_cases h3:a≥0
   ·by_cases h2:a≤128*(m.length:Int)
    ·rw [wrap64 (n:=128*(m.length:Int)-a) (by omega) (by omega)]
     simp only [decide_eq_true h1,decide_eq_true h2,decide_eq_true h3,cond_true,ab]
     exact congrArg some (decide_eq_decide.2 (by omega))
    ·simp only [decide_eq_true h1,decide_eq_false h2,decide_eq_true h3,cond_true,cond_false,ab]
     exact congrArg some (decide_eq_false (by omega)).symm
   ·simp only [decide_eq_true h1,decide_eq_false h3,cond_true,cond_false,ab]
    exact congrArg some (decide_eq_false (by omega)).symm
  ·simp only [decide_eq_false h1,cond_false,ab]
   exact congrArg some (decide_eq_false (by omega)).symm
end
end Go.Pu
end
section
namespace Go.Pu
open Go.Dn
set_option linter.unusedSimpArgs false
set_option linter.unusedVariables false
noncomputable section
def sA (d p:Int)(w:Bool)(x:ai):Bool:=gY d p x&&(x.2.2.2|| !w)
def gy (l:List ai)(d p:Int)(w:Bool):Int:=match l.findIdx? (sA d p w) with|some i=>(l.getD i vB).2.2.1|none=> -1
theorem KC (l:List ai)(d p:Int)(w:Bool)(h:l.length≤1000000000):ni l d p w=some (gy l d p w):=by
 unfold ni gy
 refine Eq.trans (uB (p:=sA d p w) (hit:=fun i=>aa (idx l i) fun x=>some x.2.2.1) (fin:=some (-1)) l (by omega) (fun i hi nx=> ?_) (fun nx=> ?_)) ?_
 ·simp only [jG]
  rw [decide_eq_true (by omega),aC hi,wrap64 (by omega) (by omega)]
  simp only [cond_true,ab,sA,gY]
  cases l[i].1==d<;>cases l[i].2.1==p<;>cases l[i].2.2.2<;>cases w<;>rfl
 ·simp only [jG]
  rw [decide_eq_false (by omega)];rfl
 ·cases hf:l.findIdx? (sA d p w) with
  |none=>rfl
  |some i=>
   obtain ⟨hi,_⟩:=List.findIdx?_eq_some_iff_getElem.1 hf
   simp only [aC hi,ab,bl hi]
theorem rq {l:List ai}(h:bA l=true){i:Nat}(hi:i<l.length):td l[i]=true∧∀j (hj:j<i),gY l[i].1 l[i].2.1 (l[j]'(by omega))=false:=by
 simp only [bA,Bool.and_eq_true,List.all_eq_true,List.mem_range] at h
 have:=h.2 i hi
 simp only [xu,Bool.and_eq_true,List.all_eq_true,List.mem_range,bl hi,Bool.not_eq_true'] at this
 exact ⟨this.1,fun j hj=>by have:=this.2 j hj;rwa [bl (by omega)] at this⟩
theorem uG {d p:Int}{m:ai}:gY d p m=true↔m.1=d∧m.2.1=p:=by simp [gY]
theorem JW {l:List ai}(h:bA l=true){d p:Int}{i j:Nat}(hi:i<l.length)(hj:j<l.length)(h1:gY d p l[i]=true)(h2:gY d p l[j]=true):i=j:=by
 have a:=uG.1 h1;have b:=uG.1 h2
 rcases Nat.lt_trichotomy i j with h3|h3|h3
 ·have:=(rq h hj).2 i h3;rw [b.1,b.2,h1] at this;cases this
 ·exact h3
 ·have:=(rq h hi).2 j h3;rw [a.1,a.2,h2] at this;cases this
theorem xE {l:List ai}(h:bA l=true)(d p:Int)(w:Bool)(h1:0≤gy l d p w):gy l d p w≤63∧0≤p∧p≤1023:=by
 unfold gy at h1⊢
 cases hf:l.findIdx? (sA d p w) with
 |none=>rw [hf] at h1;simp at h1
 |some i=>
  obtain ⟨hi,h2,_⟩:=List.findIdx?_eq_some_iff_getElem.1 hf
  have h3:=(rq h hi).1
  simp only [sA,Bool.and_eq_true,uG] at h2
  simp only [td,Bool.and_eq_true,bf] at h3
  simp only [bl hi]
  omega
theorem Xw {l:List ai}(h:bA l=true)(d p:Int)(w:Bool):gy l d p w= -1∨0≤gy l d p w:=by
 unfold gy
 cases hf:l.findIdx? (sA d p w) with
 |none=>exact .inl rfl
 |some i=>
  obtain ⟨hi,h2,_⟩:=List.findIdx?_eq_some_iff_getElem.1 hf
  have h3:=(rq h hi).1
  simp only [td,Bool.and_eq_true,bf] at h3
  simp only [bl hi]
  omega
theorem HH (l:List ai)(d:Int)(a:Nat)(w:Bool)(h:l.length≤1000000000)(hm:bA l=true)(ha:a≤9223372036854775807):
 qa l d (a:Int) w=some (if 0≤gy l d ((a/128:Nat):Int) w then gy l d ((a/128:Nat):Int) w*128+((a%128:Nat):Int) else-1):=by
 have e1:Int.tdiv (a:Int) 128=((a/128:Nat):Int):=G9 a 128
 have e2:Int.tmod (a:Int) 128=((a%128:Nat):Int):=Ec a 128
 unfold qa
 rw [decide_eq_false (by omega),cond_false,if_neg (by omega),e1,e2,wrap64 (by omega) (by omega),C6 l _ _ h,ab]
 generalize ((a/128:Nat):Int)=p
 have hin:=xE hm d p w
 unfold DE
 cases hf:l.findIdx? (gY d p) with
 |none=>
  have hn:gy l d p w= -1:=by
   unfold gy
   rw [List.findIdx?_eq_none_iff] at hf
   rw [List.findIdx?_eq_none_iff.2 (fun x hx=>by rw [sA,hf x hx];rfl)]
  rw [hn];rfl
 |some i=>
  obtain ⟨hi,h2,h3⟩:=List.findIdx?_eq_some_iff_getElem.1 hf
  simp only
  rw [decide_eq_false (by omega),aC hi]
  simp only [cond_false,ab]
  cases hq:l[i].2.2.2|| !w with
  |true=>
   have hF:gy l d p w=l[i].2.2.1:=by
    unfold gy
    rw [List.findIdx?_eq_some_iff_getElem.2 ⟨hi,by rw [sA,h2,hq];rfl,fun j hj=>by have:=h3 j hj;rw [sA,Bool.eq_false_iff.2 this];simp⟩]
    exact congrArg (fun x:ai=>x.2.2.1) (bl hi vB)
   have h4:=(rq hm hi).1
   simp only [td,Bool.and_eq_true,bf] at h4
   rw [hF,if_pos (show 0≤l[i].2.2.1 by omega),show (aa (cond w (some (!l[i].2.2.2)) (some false)) fun q3=>cond q3 (some (-1:Int)) _)=_ from by
    have:(cond w (some (!l[i].2.2.2)) (some false))=some false:=by
     cases w<;>cases hz:l[i].2.2.2<;>rw [hz] at hq<;>first|rfl|cases hq
    rw [this,ab,cond_false]]
   rw [if_neg (show¬(128:Nat)=0 by omega),wrap64 (n:=l[i].2.2.1*128) (by omega) (by omega),wrap64 (by omega) (by omega)]
  |false=>
   have hF:gy l d p w= -1:=by
    unfold gy
    rw [List.findIdx?_eq_none_iff.2 (fun x hx=>by
     obtain ⟨j,hj,rfl⟩:=List.getElem_of_mem hx
     cases hx2:gY d p l[j] with
     |false=>rw [sA,hx2];rfl
     |true=>have:=JW hm hi hj h2 hx2;subst this;rw [sA,hq];simp)]
   rw [hF,if_neg (show¬(0:Int)≤ -1 by omega)]
   cases w with
   |false=>simp at hq
   |true=>
    simp only [Bool.not_true,Bool.or_false] at hq
    simp only [cond_true,hq,ab,Bool.not_false]
def dA (l:List ai)(m:List Bytes)(d:Int)(w:Bool):Nat→Nat→Nat→Option (List (Int×Int))
 |0,_,_=>some []
 |n+1,a,r=>if r=0 then some [] else
  if 0≤gy l d ((a/128:Nat):Int) w∧gy l d ((a/128:Nat):Int) w<(m.length:Int) then
   (dA l m d w n (a+min (128-a%128) r) (r-min (128-a%128) r)).map (fun q=>(gy l d ((a/128:Nat):Int) w*128+((a%128:Nat):Int),((min (128-a%128) r:Nat):Int))::q)
  else none
theorem B0 {m:List Bytes}(hm:cz m=true){f:Int}(h0:0≤f){o c:Nat}(hc:0<c)(ho:o+c≤128):cq m (f*128+(o:Int)) (c:Int)=decide (f<(m.length:Int)):=by
 rw [cq,hm,Bool.true_and]
 exact decide_eq_decide.2 (by omega)
theorem Ek {m:List Bytes}(hm:cz m=true){f:Int}(h0:0≤f):cq m (f*128) 128=decide (f<(m.length:Int)):=by
 rw [cq,hm,Bool.true_and]
 exact decide_eq_decide.2 (by omega)
theorem tJ {l:List ai}{m:List Bytes}(hl:bA l=true)(hL:l.length≤1000000000)(hm:cz m=true)(d:Int)(w:Bool):∀(n a r f:Nat)(acc:List (Int×Int)),r≤n→n<f→acc.length+n≤1000000→a≤9223372036854775807→
 aj (gJ (fun (y9:Int) (y10:Int) (y11:List (Int×Int))=>some (y11,true)) (fun (y12:Int) (y13:Int) (y14:List (Int×Int)) (y15:Bool) (y16:List (Int×Int))=>some (y14,y15)) l d w ([]:List (Int×Int)) false m) f ((a:Int),(r:Int),acc)
  =match dA l m d w n a r with|some q=>some (acc++q,true)|none=>some ([],false)
 |n,a,r,0,acc,_,hf,_,_=>by omega
 |0,a,r,f+1,acc,hr,hf,hA,ha=>by
  rw [aj]
  simp only [gJ]
  rw [decide_eq_false (by omega)]
  simp [dA]
 |n+1,a,r,f+1,acc,hr,hf,hA,ha=>by
  have h64:=(mem_iff.1 hm).2
  rw [aj]
  simp only [gJ,dA]
  by_cases h0:r=0
  ·rw [decide_eq_false (by omega),if_pos h0];simp
  ·have e2:Int.tmod (a:Int) 128=((a%128:Nat):Int):=Ec a 128
   have hin:=xE hl d ((a/128:Nat):Int) w
   rw [decide_eq_true (by omega),if_neg h0,HH l d a w hL hl ha,ab,if_neg (by omega),e2,wrap64 (n:=128-((a%128:Nat):Int)) (by omega) (by omega)]
   obtain ⟨c,hc⟩:∃c,min (128-a%128) r=c:=⟨_,rfl⟩
   rw [hc,show (if 128-((a%128:Nat):Int)<(r:Int) then 128-((a%128:Nat):Int) else (r:Int))=(c:Int) by split<;>omega]
   generalize hP:gy l d ((a/128:Nat):Int) w=P at hin⊢
   by_cases hP0:0≤P
   ·have hin:=hin hP0
    simp only [if_pos hP0,cond_true]
    rw [decide_eq_false (show¬P*128+((a%128:Nat):Int)<0 by omega),vf m _ _ (by omega),B0 hm hP0 (by omega) (by omega)]
    simp only [cond_false,ab]
    by_cases hP1:P<(m.length:Int)
    ·rw [decide_eq_true hP1,if_pos ⟨hP0,hP1⟩]
     simp only [Bool.not_true,cond_false]
     rw [aA (by simp;omega),wrap64 (n:=(a:Int)+(c:Int)) (by omega) (by omega),wrap64 (n:=(r:Int)-(c:Int)) (by omega) (by omega),decide_eq_false (show¬(a:Int)+(c:Int)<0 by omega)]
     simp only [cond_false,ab]
     have key:=tJ hl hL hm d w n (a+c) (r-c) f (acc++[(P*128+((a%128:Nat):Int),(c:Int))]) (by omega) (by omega) (by simp;omega) (by omega)
     rw [show ((a+c:Nat):Int)=(a:Int)+(c:Int) by omega,show ((r-c:Nat):Int)=(r:Int)-(c:Int) by omega] at key
     rw [key]
     cases dA l m d w n (a+c) (r-c) with
     |none=>rfl
     |some q=>simp
    ·rw [decide_eq_false hP1,if_neg (by omega)];rfl
   ·simp only [if_neg hP0,cond_true]
    rw [if_neg (by omega),decide_eq_true (by omega)];rfl
theorem ub {l:List ai}{m:List Bytes}(hl:bA l=true)(hL:l.length≤1000000000)(hm:cz m=true)(d:Int)(w:Bool):∀(n a r f:Nat)(acc:List (Int×Int)),r≤n→n<f→acc.length+n≤1000000→a≤9223372036854775807→
 aj (dn (fun (y10:Int) (y11:Int) (y12:List Int) (y13:List Int)=>some (y12,y13,true)) (fun (y14:Int) (y15:Int) (y16:List Int) (y17:List Int) (y18:Bool) (y19:List Int) (y20:List Int)=>some (y16,y17,y18)) l d w ([]:List Int) ([]:List Int) false m) f ((a:Int),(r:Int),acc.map (·.1),acc.map (·.2))
  =match dA l m d w n a r with|some q=>some ((acc++q).map (·.1),(acc++q).map (·.2),true)|none=>some ([],[],false)
 |n,a,r,0,acc,_,hf,_,_=>by omega
 |0,a,r,f+1,acc,hr,hf,hA,ha=>by
  rw [aj]
  simp only [dn]
  rw [decide_eq_false (by omega)]
  simp [dA]
 |n+1,a,r,f+1,acc,hr,hf,hA,ha=>by
  have h64:=(mem_iff.1 hm).2
  rw [aj]
  simp only [dn,dA]
  by_cases h0:r=0
  ·rw [decide_eq_false (by omega),if_pos h0];simp
  ·have e1:Int.tdiv (a:Int) 128=((a/128:Nat):Int):=G9 a 128
   have e2:Int.tmod (a:Int) 128=((a%128:Nat):Int):=Ec a 128
   have hin:=xE hl d ((a/128:Nat):Int) w
   rw [decide_eq_true (show (r:Int)>0 by omega),decide_eq_true (show (a:Int)≥0 by omega),if_neg h0]
   simp only [cond_true]
   rw [if_neg (by omega),e1,e2,wrap64 (n:=((a/128:Nat):Int)) (by omega) (by omega),KC l _ _ w hL,ab,if_neg (by omega),wrap64 (n:=128-((a%128:Nat):Int)) (by omega) (by omega)]
   obtain ⟨c,hc⟩:∃c,min (128-a%128) r=c:=⟨_,rfl⟩
   rw [hc,show (if 128-((a%128:Nat):Int)<(r:Int) then 128-((a%128:Nat):Int) else (r:Int))=(c:Int) by split<;>omega]
   generalize hP:gy l d ((a/128:Nat):Int) w=P at hin⊢
   by_cases hP0:0≤P
   ·have hin:=hin hP0
    rw [decide_eq_false (show¬P<0 by omega),wrap64 (n:=P*128) (by omega) (by omega),vp m _ _ (by omega),Ek hm hP0]
    simp only [cond_false,ab]
    by_cases hP1:P<(m.length:Int)
    ·rw [decide_eq_true hP1,if_pos ⟨hP0,hP1⟩]
     simp only [Bool.not_true,cond_false]
     rw [aA (by simp;omega),aA (by simp;omega),wrap64 (n:=P*128+((a%128:Nat):Int)) (by omega) (by omega),wrap64 (n:=(a:Int)+(c:Int)) (by omega) (by omega),wrap64 (n:=(r:Int)-(c:Int)) (by omega) (by omega)]
     have key:=ub hl hL hm d w n (a+c) (r-c) f (acc++[(P*128+((a%128:Nat):Int),(c:Int))]) (by omega) (by omega) (by simp;omega) (by omega)
     rw [show ((a+c:Nat):Int)=(a:Int)+(c:Int) by omega,show ((r-c:Nat):Int)=(r:Int)-(c:Int) by omega,List.map_append,List.map_append] at key
     refine Eq.trans key ?_
     cases dA l m d w n (a+c) (r-c) with
     |none=>rfl
     |some q=>simp
    ·rw [decide_eq_false hP1,if_neg (by omega)];rfl
   ·rw [if_neg (by omega),decide_eq_true (by omega)];rfl
def ed (l:List ai)(m:List Bytes)(d a n:Int)(w:Bool):List (Int×Int)×Bool:=
 bif bA l&&(cz m&&bp n 0 4096) then
  (bif n==0 then ([],true) else bif decide (a<0) then ([],false) else match dA l m d w n.toNat a.toNat n.toNat with|some q=>(q,true)|none=>([],false))
 else ([],false)
theorem JK (l:List ai)(m:List Bytes)(d a n:Int)(w:Bool)(hl:l.length≤1000000000)(hm:m.length≤1000000000)(ha:a≤9223372036854775807):oz l m d a n w=some (ed l m d a n w):=by
 have hfu:=bj
 unfold oz ed
 simp only [Bd l hl,xj m hm,bI,ab]
 cases hB:bA l with|false=>rfl|true=> ?_
 cases hM:cz m with|false=>rfl|true=> ?_
 cases hN:bp n 0 4096 with|false=>rfl|true=> ?_
 have hn:=bf.1 hN
 simp only [Bool.not_true,cond_false,ab,Bool.and_self,cond_true]
 cases h0:n==0 with|true=>rfl|false=> ?_
 by_cases hA:a<0
 ·rw [decide_eq_true hA];rfl
 ·rw [decide_eq_false hA]
  simp only [cond_false]
  obtain ⟨a,rfl⟩:=Int.eq_ofNat_of_zero_le (show 0≤a by omega)
  obtain ⟨n,rfl⟩:=Int.eq_ofNat_of_zero_le hn.1
  rw [tJ hB hl hM d w n a n fuel [] (by omega) (by omega) (by simp;omega) (by omega)]
  simp only [Int.toNat_natCast]
  cases dA l m d w n a n<;>rfl
theorem Iw (l:List ai)(m:List Bytes)(d a n:Int)(w:Bool)(hl:l.length≤1000000000)(hm:m.length≤1000000000)(ha:a≤9223372036854775807):mf l m d a n w=some ((ed l m d a n w).1.map (·.1),(ed l m d a n w).1.map (·.2),(ed l m d a n w).2):=by
 have hfu:=bj
 unfold mf ed
 simp only [BO l hl,tj m hm,bc,ab]
 cases hB:bA l with|false=>rfl|true=> ?_
 cases hM:cz m with|false=>rfl|true=> ?_
 cases hN:bp n 0 4096 with|false=>rfl|true=> ?_
 have hn:=bf.1 hN
 simp only [Bool.not_true,cond_false,ab,Bool.and_self,cond_true]
 obtain ⟨n,rfl⟩:=Int.eq_ofNat_of_zero_le hn.1
 cases h0:((n:Int)==0) with
 |true=>
  have:n=0:=by simpa using h0
  subst this
  obtain ⟨f,hf⟩:∃f,fuel=f+1:=⟨fuel-1,by omega⟩
  rw [hf,aj]
  rfl
 |false=>
  have hn0:n≠0:=by simpa using h0
  by_cases hA:a<0
  ·obtain ⟨f,hf⟩:∃f,fuel=f+1:=⟨fuel-1,by omega⟩
   rw [decide_eq_true hA,hf,aj]
   simp only [dn]
   rw [decide_eq_true (by omega),decide_eq_false (by omega)]
   rfl
  ·rw [decide_eq_false hA]
   simp only [cond_false]
   obtain ⟨a,rfl⟩:=Int.eq_ofNat_of_zero_le (show 0≤a by omega)
   refine Eq.trans (ub hB hl hM d w n a n fuel [] (by omega) (by omega) (by simp;omega) (by omega)) ?_
   simp only [Int.toNat_natCast]
   cases dA l m d w n a n<;>rfl
end
end Go.Pu
end
section
namespace Go.Pu
open Go.Dn
set_option linter.unusedSimpArgs false
set_option linter.unusedVariables false
noncomputable section
theorem Ok {s:Bytes}{i:Nat}(h:s.length≤i):dx s i=0:=by
 unfold dx
 rw [List.getD_eq_getElem?_getD,List.getElem?_eq_none h];rfl
def DH (s:Bytes)(a:Int)(p:Bytes):Bytes:=bif bG s a (p.length:Int) then (s.take a.toNat++p)++s.drop (a.toNat+p.length) else s
theorem Xx (s:Bytes)(a:Int)(p:Bytes):(DH s a p).length=s.length:=by
 unfold DH
 cases hw:bG s a (p.length:Int) with
 |false=>rfl
 |true=>
  simp only [bG,decide_eq_true_eq] at hw
  simp only [cond_true,List.length_append,List.length_take,List.length_drop]
  omega
theorem Ki (s:Bytes)(a:Int)(p:Bytes)(h:s.length≤1000000000)(hw:bG s a (p.length:Int)=true):
 (aa (sub s 0 a) fun x2=>room (List.length x2+List.length p) (aa (sub s (IntKind.wrap .i64 (a+((List.length p:Int)))) ((List.length s:Int))) fun x3=>room (List.length (x2++p)+List.length x3) (some ((x2++p)++x3))))=some (DH s a p):=by
 have hw':=hw
 simp only [bG,decide_eq_true_eq] at hw'
 obtain ⟨n,rfl⟩:=Int.eq_ofNat_of_zero_le hw'.1
 have e1:sub s 0 (n:Int)=some (s.take n):=by unfold sub;rw [if_pos (by omega)];rfl
 have e2:sub s (((n+p.length:Nat):Int)) (s.length:Int)=some (s.drop (n+p.length)):=by
  unfold sub;rw [if_pos (by omega),Int.toNat_natCast,Int.toNat_natCast,List.take_length]
 rw [e1,wrap64 (by omega) (by omega),show (n:Int)+(p.length:Int)=((n+p.length:Nat):Int) by omega,e2,ab,aA (by simp only [List.length_take];omega),ab,aA (by simp only [List.length_append,List.length_take,List.length_drop];omega)]
 unfold DH
 rw [hw];rfl
theorem M0 (s:Bytes)(a:Int)(p:Bytes)(h:s.length≤1000000000):md s a p=some (DH s a p):=by
 unfold md
 rw [rJ s a _ h (by omega),ab]
 cases hw:bG s a (p.length:Int) with
 |false=>simp only [Bool.not_false,cond_true,DH,hw,cond_false]
 |true=>exact Ki s a p h hw
def Yn (x y:Int):Bytes:=bytesOf [x,y]
theorem Gd (x y:Int):(Yn x y).length=2:=rfl
def MS (a b k n:Int):Bool:=bp a 0 4294967295&&(bp b 0 4294967295&&(bp k 0 255&&bp n 0 65535))
def Kg (a b k n:Int):Bytes:=((dc a++dc b)++Yn 0 (IntKind.wrap .u8 k))++dZ n
theorem Rt (a b k n:Int):(Kg a b k n).length≤12:=by
 have:=bX a
 have:=bX b
 have:=cv n
 simp only [Kg,List.length_append,Gd];omega
def bare (g:jh):Bytes:=bif g.1==6 then
    (((((dZ g.2.1++dZ g.2.2.1)++dc g.2.2.2.1)++dc g.2.2.2.2.1)++Yn 80 (IntKind.wrap .u8 g.2.2.2.2.2.1))++dZ g.2.2.2.2.2.2.1)++dc 0++g.2.2.2.2.2.2.2
 else (((dZ g.2.1++dZ g.2.2.1)++dZ (8+(g.2.2.2.2.2.2.2.length:Int)))++dZ 0)++g.2.2.2.2.2.2.2
theorem XO (g:jh):(bare g).length≤20+g.2.2.2.2.2.2.2.length:=by
 have:=cv g.2.1
 have:=cv g.2.2.1
 have:=bX g.2.2.2.1
 have:=bX g.2.2.2.2.1
 have:=cv g.2.2.2.2.2.2.1
 have:=bX 0
 have:=cv 0
 have:=cv (8+(g.2.2.2.2.2.2.2.length:Int))
 unfold bare
 cases g.1==6<;>simp only [cond_true,cond_false,List.length_append,Gd]<;>omega
theorem RF:dZ 0++dZ 0=dc 0:=by rfl
def acm (a b:Int)(g:jh):Bool:=FP g&&MS a b g.1 ((bare g).length:Int)
theorem Kr {g:jh}(h:FP g=true):g.2.2.2.2.2.2.2.length≤320:=by
 simp only [FP,Bool.and_eq_true,Bool.not_eq_true',decide_eq_false_iff_not] at h
 omega
end
end Go.Pu
end
section
namespace Go.Pu
open Go.Dn
set_option linter.unusedSimpArgs false
set_option linter.unusedVariables false
noncomputable section
theorem lJ (a:List Bytes)(h:a.length≤1073741824):cQ a=some a:=by
 simp only [cQ,dk]
 rw [aA (by simpa using h)];rfl
theorem qc (a:List Bytes)(h:a.length≤1073741824):dV a=some a:=by
 simp only [dV]
 rw [aA (by simpa using h)];rfl
theorem EX {α σ R:Type}(f:σ→α→σ)(fin:σ→Option R):∀(xs:List α)(s:σ),gF (fun x s k=>k (f s x)) fin xs s=fin (xs.foldl f s)
 |[],_=>rfl
 |x::xs,s=>by rw [gF,List.foldl_cons];exact EX f fin xs (f s x)
end
end Go.Pu
end
section
namespace Go.Pu
open Go.Dn
set_option linter.unusedSimpArgs false
set_option linter.unusedVariables false
noncomputable section
def pD (x:Bytes)(o:Nat)(t:Bytes):Bytes:=x.take o++(t++x.drop (o+t.length))
theorem zB {x:Bytes}{o:Nat}{t:Bytes}(h:o+t.length≤x.length):(pD x o t).length=x.length:=by
 simp only [pD,List.length_append,List.length_take,List.length_drop];omega
theorem Ii (x:Bytes)(o:Nat)(t:Bytes):bytesOf (pE (aM x) o (aM t))=pD x o t:=by
 have e:pE (aM x) o (aM t)=aM (pD x o t):=by
  simp only [pE,pD,aM,List.map_append,List.map_take,List.map_drop,List.length_map]
 rw [e,EB]
theorem Kh {x:Bytes}{o:Nat}{t:Bytes}(h:o+t.length≤x.length):DH x (o:Int) t=pD x o t:=by
 unfold DH bG
 rw [decide_eq_true ⟨by omega,by omega⟩]
 simp only [cond_true,Int.toNat_natCast,pD,List.append_assoc]
def lH:Nat→List Bytes→Nat→Bytes→List Bytes
 |0,m,_,_=>m
 |n+1,m,a,s=>if s.length=0 then m else
  lH n (m.set (a/128) (pD (m.getD (a/128) []) (a%128) (s.take (128-a%128)))) (a+min (128-a%128) s.length) (s.drop (128-a%128))
def oZ (m:List Bytes):Prop:=(∀x∈m,x.length=128)∧m.length≤64
theorem pF {m:List Bytes}:cz m=true↔oZ m:=mem_iff
theorem uQ {m:List Bytes}{p:Nat}{x:Bytes}(h:oZ m)(hx:x.length=128):oZ (m.set p x):=by
 refine ⟨fun y hy=> ?_,by rw [List.length_set];exact h.2⟩
 rcases List.mem_or_eq_of_mem_set hy with g|g
 ·exact h.1 y g
 ·rw [g];exact hx
theorem qE {m:List Bytes}(h:oZ m){a:Nat}{s:Bytes}(hs:s.length≠0)(ha:a+s.length≤128*m.length):
 ∃(hp:a/128<m.length),(m[a/128]'hp).length=128∧(pD (m[a/128]'hp) (a%128) (s.take (128-a%128))).length=128:=by
 have hp:a/128<m.length:=by omega
 have hl:=h.1 _ (List.getElem_mem hp)
 refine ⟨hp,hl, ?_⟩
 rw [zB (by rw [List.length_take,hl];omega),hl]
theorem qD:∀(n:Nat){m:List Bytes}{a:Nat}{s:Bytes},oZ m→a+s.length≤128*m.length→oZ (lH n m a s)∧(lH n m a s).length=m.length
 |0,m,a,s,h,_=>⟨h,rfl⟩
 |n+1,m,a,s,h,ha=>by
  rw [lH]
  split
  ·exact ⟨h,rfl⟩
  ·rename_i hs
   obtain ⟨hp,hl,ho⟩:=qE h hs ha
   rw [bl hp]
   have:=qD n (m:=m.set (a/128) (pD m[a/128] (a%128) (s.take (128-a%128)))) (a:=a+min (128-a%128) s.length) (s:=s.drop (128-a%128)) (uQ h ho) (by rw [List.length_set,List.length_drop];omega)
   rw [List.length_set] at this
   exact this
theorem sE {R:Type}(K:Int→Bytes→List Bytes→Option R)(K':List Bytes→Option R)(hK:∀a m,K a [] m=K' m):∀(n:Nat)(m:List Bytes)(a:Nat)(s:Bytes)(f:Nat),s.length≤n→n<f→oZ m→a+s.length≤128*m.length→
 aj (ek K ([]:List Bytes)) f ((a:Int),s,m)=K' (lH n m a s)
 |n,m,a,s,0,_,hf,_,_=>by omega
 |n,m,a,s,f+1,hs,hf,hm,ha=>by
  rw [aj]
  simp only [ek]
  by_cases h0:s.length=0
  ·have:s=[]:=List.eq_nil_of_length_eq_zero h0
   subst this
   rw [decide_eq_false (by simp),cond_false,hK]
   cases n<;>simp [lH]
  ·cases n with
   |zero=>omega
   |succ n=>
    obtain ⟨hp,hl,ho⟩:=qE hm h0 ha
    have h64:=hm.2
    have e1:Int.tdiv (a:Int) 128=((a/128:Nat):Int):=G9 a 128
    have e2:Int.tmod (a:Int) 128=((a%128:Nat):Int):=Ec a 128
    rw [decide_eq_true (by omega),cond_true,if_neg (by omega),e1,e2,wrap64 (n:=((a/128:Nat):Int)) (by omega) (by omega),aC hp,ab,aA (by omega),if_neg (by omega)]
    have hsub:sub (aM m[a/128]) ((a%128:Nat):Int) ((aM m[a/128]).length:Int)=some ((aM m[a/128]).drop (a%128)):=by
     rw [G4 _ _ _ (by rw [Db];omega) (Nat.le_refl _),List.take_of_length_le (by rw [List.length_drop];exact Nat.le_refl _)]
    rw [hsub,ab,if_neg (by omega),ab,ab]
    have hd:((aM m[a/128]).drop (a%128)).length=128-a%128:=by rw [List.length_drop,Db,hl]
    rw [hd]
    have hdr:s.drop (min (128-a%128) s.length)=s.drop (128-a%128):=by
     by_cases h3:128-a%128≤s.length
     ·rw [Nat.min_eq_left h3]
     ·rw [Nat.min_eq_right (by omega),List.drop_of_length_le (Nat.le_refl _),List.drop_of_length_le (by omega)]
    have hsub2:sub s (((min (128-a%128) s.length:Nat)):Int) ((s.length:Int))=some (s.drop (128-a%128)):=by
     rw [←hdr];unfold sub;rw [if_pos (by omega)];simp
    rw [hsub2,ab,wrap64 (n:=(a:Int)+((min (128-a%128) s.length:Nat):Int)) (by omega) (by omega),Int.toNat_natCast,Int.toNat_natCast,Ii]
    rw [lH,if_neg h0,bl hp,show (a:Int)+((min (128-a%128) s.length:Nat):Int)=((a+min (128-a%128) s.length:Nat):Int) by omega]
    exact sE K K' hK n _ _ _ f (by rw [List.length_drop];omega) (by omega) (uQ hm ho) (by rw [List.length_set,List.length_drop];omega)
theorem sK {R:Type}(K:Int→Bytes→List Bytes→Option R)(K':List Bytes→Option R)(hK:∀a m,K a [] m=K' m):∀(n:Nat)(m:List Bytes)(a:Nat)(s:Bytes)(f:Nat),s.length≤n→n<f→oZ m→a+s.length≤128*m.length→
 aj (ew K ([]:List Bytes)) f ((a:Int),s,m)=K' (lH n m a s)
 |n,m,a,s,0,_,hf,_,_=>by omega
 |n,m,a,s,f+1,hs,hf,hm,ha=>by
  rw [aj]
  simp only [ew]
  by_cases h0:s.length=0
  ·have:s=[]:=List.eq_nil_of_length_eq_zero h0
   subst this
   rw [decide_eq_false (by simp),cond_false,hK]
   cases n<;>simp [lH]
  ·cases n with
   |zero=>omega
   |succ n=>
    obtain ⟨hp,hl,ho⟩:=qE hm h0 ha
    have h64:=hm.2
    have e1:Int.tdiv (a:Int) 128=((a/128:Nat):Int):=G9 a 128
    have e2:Int.tmod (a:Int) 128=((a%128:Nat):Int):=Ec a 128
    rw [decide_eq_true (by omega),cond_true,if_neg (by omega),if_neg (by omega),if_neg (by omega),e1,e2,wrap64 (n:=((a/128:Nat):Int)) (by omega) (by omega),wrap64 (n:=128-((a%128:Nat):Int)) (by omega) (by omega),aC hp,ab]
    obtain ⟨c,hc⟩:∃c,min (128-a%128) s.length=c:=⟨_,rfl⟩
    rw [show (if 128-((a%128:Nat):Int)<(s.length:Int) then 128-((a%128:Nat):Int) else (s.length:Int))=(c:Int) by split<;>omega]
    have ht:s.take c=s.take (128-a%128):=by
     by_cases h3:128-a%128≤s.length
     ·rw [←hc,Nat.min_eq_left h3]
     ·rw [←hc,Nat.min_eq_right (by omega),List.take_of_length_le (Nat.le_refl _),List.take_of_length_le (by omega)]
    have hdr:s.drop c=s.drop (128-a%128):=by
     by_cases h3:128-a%128≤s.length
     ·rw [←hc,Nat.min_eq_left h3]
     ·rw [←hc,Nat.min_eq_right (by omega),List.drop_of_length_le (Nat.le_refl _),List.drop_of_length_le (by omega)]
    have hs1:sub s 0 (c:Int)=some (s.take (128-a%128)):=by
     rw [←ht];unfold sub;rw [if_pos (by omega)];simp
    have hs2:sub s (c:Int) (s.length:Int)=some (s.drop (128-a%128)):=by
     rw [←hdr];unfold sub;rw [if_pos (by omega)];simp
    rw [hs1,ab,M0 _ _ _ (by omega),ab,ab,ab,hs2,ab,Kh (by rw [List.length_take,hl];omega),wrap64 (n:=(a:Int)+(c:Int)) (by omega) (by omega),Int.toNat_natCast]
    rw [lH,if_neg h0,bl hp,hc,show (a:Int)+(c:Int)=((a+c:Nat):Int) by omega]
    exact sK K K' hK n _ _ _ f (by rw [List.length_drop];omega) (by omega) (uQ hm ho) (by rw [List.length_set,List.length_drop];omega)
def iC (m:List Bytes)(a:Int)(s:Bytes):List Bytes×Bool:=bif cq m a (s.length:Int) then (lH s.length m a.toNat s,true) else (m,false)
theorem Fa (m:List Bytes)(a:Int)(s:Bytes)(h:m.length≤1000000000)(hs:s.length≤1000000000):ib m a s=some (iC m a s):=by
 have hfu:=bj
 unfold ib iC
 rw [lJ m (by omega),ab,vf m _ _ h,ab]
 cases hw:cq m a (s.length:Int) with|false=>rfl|true=> ?_
 simp only [cq,Bool.and_eq_true,decide_eq_true_eq] at hw
 obtain ⟨a,rfl⟩:=Int.eq_ofNat_of_zero_le hw.2.2.1
 simp only [Bool.not_true,cond_false,cond_true,Int.toNat_natCast]
 exact sE _ (fun m=>some (m,true)) (fun _ _=>rfl) s.length m a s fuel (Nat.le_refl _) (by omega) (pF.1 hw.1) (by omega)
theorem FW (m:List Bytes)(a:Int)(s:Bytes)(h:m.length≤1000000000)(hs:s.length≤1000000000):iz m a s=some (iC m a s):=by
 have hfu:=bj
 unfold iz iC
 rw [qc m (by omega),ab,vp m _ _ h,ab]
 cases hw:cq m a (s.length:Int) with|false=>rfl|true=> ?_
 simp only [cq,Bool.and_eq_true,decide_eq_true_eq] at hw
 obtain ⟨a,rfl⟩:=Int.eq_ofNat_of_zero_le hw.2.2.1
 simp only [Bool.not_true,cond_false,cond_true,Int.toNat_natCast]
 exact sK _ (fun m=>some (m,true)) (fun _ _=>rfl) s.length m a s fuel (Nat.le_refl _) (by omega) (pF.1 hw.1) (by omega)
end
end Go.Pu
end
section
namespace Go.Pu
open Go.Dn
set_option linter.unusedSimpArgs false
set_option linter.unusedVariables false
noncomputable section
theorem rO (m:List Bytes)(a:Int)(s:Bytes):(iC m a s).1.length=m.length:=by
 unfold iC
 cases hw:cq m a (s.length:Int) with|false=>rfl|true=> ?_
 simp only [cq,Bool.and_eq_true,decide_eq_true_eq] at hw
 exact (qD s.length (pF.1 hw.1) (by omega)).2
def xL:List (Int×Int)→List Bytes→Bytes→List Bytes
 |[],m,_=>m
 |p::q,m,s=>xL q (iC m p.1 (s.take p.2.toNat)).1 (s.drop p.2.toNat)
theorem DJ:∀(q:List (Int×Int))(m:List Bytes)(s:Bytes),(xL q m s).length=m.length
 |[],m,s=>rfl
 |p::q,m,s=>by rw [xL,DJ q,rO]
def vJ (q:List (Int×Int)):Int:=(q.map (·.2)).sum
theorem G5:∀(q:List (Int×Int)),(∀p∈q,0≤p.2)→0≤vJ q
 |[],_=>Int.le_refl _
 |p::q,h=>by
  have:=G5 q (fun x hx=>h x (by simp [hx]))
  have:=h p (by simp)
  simp only [vJ,List.map_cons,List.sum_cons] at*;omega
theorem DP {p:Int×Int}{q:List (Int×Int)}(hc:∀x∈p::q,0≤x.2){s:Bytes}(hs:(s.length:Int)=vJ (p::q)):0≤p.2∧p.2≤(s.length:Int)∧((s.drop p.2.toNat).length:Int)=vJ q:=by
 have h1:=hc p (by simp)
 have h2:=G5 q (fun x hx=>hc x (by simp [hx]))
 have h3:vJ (p::q)=p.2+vJ q:=by simp [vJ]
 rw [h3] at hs
 refine ⟨h1,by omega, ?_⟩
 rw [List.length_drop];omega
theorem zO {s:Bytes}{c:Int}(h0:0≤c)(h1:c≤(s.length:Int)):sub s 0 c=some (s.take c.toNat):=by
 unfold sub;rw [if_pos (by omega)];simp
theorem D8 {s:Bytes}{c:Int}(h0:0≤c)(h1:c≤(s.length:Int)):sub s c (s.length:Int)=some (s.drop c.toNat):=by
 unfold sub;rw [if_pos (by omega)];simp
theorem ve (K:Bytes→Int→List Bytes→Option (List Bytes×Bool))(hK:∀s i m,K s i m=some (m,true)):∀(rest pre:List (Int×Int))(m:List Bytes)(s:Bytes)(f:Nat),rest.length<f→pre.length+rest.length≤1000000→(∀x∈rest,0≤x.2)→(s.length:Int)=vJ rest→m.length≤1000000000→s.length≤1000000→
 aj (mn K (pre++rest) ((pre++rest).length:Int) ([]:List Bytes)) f (s,(pre.length:Int),m)=some (xL rest m s,true)
 |rest,pre,m,s,0,hf,_,_,_,_,_=>by omega
 |[],pre,m,s,f+1,_,_,_,_,_,_=>by
  rw [aj]
  simp only [mn]
  rw [decide_eq_false (by simp),cond_false,hK];rfl
 |p::q,pre,m,s,f+1,hf,hn,hc,hs,hm,hl=>by
  obtain ⟨h1,h2,h3⟩:=DP hc hs
  simp only [List.length_cons] at hf hn
  have hi:pre.length<(pre++p::q).length:=by simp
  have hp:(pre++p::q)[pre.length]=p:=by simp
  rw [aj]
  simp only [mn]
  rw [decide_eq_true (by simp;omega),aC hi,hp,wrap64 (by omega) (by omega)]
  simp only [cond_true,ab,zO h1 h2,D8 h1 h2,Fa m _ _ hm (show (s.take p.2.toNat).length≤1000000000 by rw [List.length_take];omega)]
  have key:=ve K hK q (pre++[p]) (iC m p.1 (s.take p.2.toNat)).1 (s.drop p.2.toNat) f (by omega) (by simp;omega) (fun x hx=>hc x (by simp [hx])) h3 (by rw [rO];exact hm) (by rw [List.length_drop];omega)
  have el:((pre++[p]).length:Int)=(pre.length:Int)+1:=by simp
  rw [List.append_assoc,List.singleton_append,el] at key
  rw [xL]
  exact key
theorem vo (K:Bytes→Int→List Bytes→Option (List Bytes×Bool))(hK:∀s i m,K s i m=some (m,true)):∀(rest pre:List (Int×Int))(m:List Bytes)(s:Bytes)(f:Nat),rest.length<f→pre.length+rest.length≤1000000→(∀x∈rest,0≤x.2)→(s.length:Int)=vJ rest→m.length≤1000000000→s.length≤1000000→
 aj (eS K ((pre++rest).map (·.1)) ((pre++rest).map (·.2)) ([]:List Bytes)) f (s,(pre.length:Int),m)=some (xL rest m s,true)
 |rest,pre,m,s,0,hf,_,_,_,_,_=>by omega
 |[],pre,m,s,f+1,_,_,_,_,_,_=>by
  rw [aj]
  simp only [eS]
  rw [decide_eq_false (by simp),cond_false,hK];rfl
 |p::q,pre,m,s,f+1,hf,hn,hc,hs,hm,hl=>by
  obtain ⟨h1,h2,h3⟩:=DP hc hs
  simp only [List.length_cons] at hf hn
  have hi:pre.length<(pre++p::q).length:=by simp
  have hp:(pre++p::q)[pre.length]=p:=by simp
  have i1:idx ((pre++p::q).map (·.1)) (pre.length:Int)=some p.1:=by rw [aC (by simp),List.getElem_map,hp]
  have i2:idx ((pre++p::q).map (·.2)) (pre.length:Int)=some p.2:=by rw [aC (by simp),List.getElem_map,hp]
  rw [aj]
  simp only [eS]
  rw [decide_eq_true (by simp;omega),i1,i2,wrap64 (by omega) (by omega)]
  simp only [cond_true,ab,zO h1 h2,D8 h1 h2,FW m _ _ hm (show (s.take p.2.toNat).length≤1000000000 by rw [List.length_take];omega)]
  have key:=vo K hK q (pre++[p]) (iC m p.1 (s.take p.2.toNat)).1 (s.drop p.2.toNat) f (by omega) (by simp;omega) (fun x hx=>hc x (by simp [hx])) h3 (by rw [rO];exact hm) (by rw [List.length_drop];omega)
  have el:((pre++[p]).length:Int)=(pre.length:Int)+1:=by simp
  rw [List.append_assoc,List.singleton_append,el] at key
  rw [xL]
  exact key
theorem xI (l:List ai)(m:List Bytes)(d:Int)(w:Bool):∀(n a r:Nat)(q:List (Int×Int)),r≤n→dA l m d w n a r=some q→vJ q=(r:Int)∧(∀p∈q,0≤p.2)∧q.length≤n
 |0,a,r,q,hr,h=>by
  simp only [dA,Option.some.injEq] at h;subst h
  exact ⟨by show (0:Int)=_;omega,by simp,by simp⟩
 |n+1,a,r,q,hr,h=>by
  simp only [dA] at h
  split at h
  ·simp only [Option.some.injEq] at h;subst h
   exact ⟨by show (0:Int)=_;omega,by simp,by simp⟩
  ·split at h
   ·simp only [Option.map_eq_some_iff] at h
    obtain ⟨q',h1,rfl⟩:=h
    obtain ⟨i1,i2,i3⟩:=xI l m d w n _ _ q' (by omega) h1
    refine ⟨?_, ?_,by simp only [List.length_cons];omega⟩
    ·simp only [vJ,List.map_cons,List.sum_cons] at i1⊢
     rw [i1];omega
    ·intro p hp
     rcases List.mem_cons.1 hp with rfl|hp
     ·show (0:Int)≤((min (128-a%128) r:Nat):Int);omega
     ·exact i2 p hp
   ·cases h
theorem zF (l:List ai)(m:List Bytes)(d a n:Int)(w:Bool)(h:(ed l m d a n w).2=true):vJ (ed l m d a n w).1=n∧(∀p∈(ed l m d a n w).1,0≤p.2)∧(ed l m d a n w).1.length≤4096∧n≤4096:=by
 unfold ed at h⊢
 cases hB:bA l&&(cz m&&bp n 0 4096) with|false=>rw [hB] at h;simp at h|true=> ?_
 rw [hB] at h
 simp only [Bool.and_eq_true,bf] at hB
 simp only [cond_true] at h⊢
 cases h0:n==0 with
 |true=>
  have:n=0:=by simpa using h0
  subst this
  exact ⟨rfl,by simp,by simp,by omega⟩
 |false=>
  rw [h0] at h
  simp only [cond_false] at h⊢
  cases ha:decide (a<0) with
  |true=>rw [ha] at h;simp at h
  |false=>
   rw [ha] at h
   simp only [cond_false] at h⊢
   cases hq:dA l m d w n.toNat a.toNat n.toNat with
   |none=>rw [hq] at h;cases h
   |some q=>
    obtain ⟨i1,i2,i3⟩:=xI l m d w _ _ _ q (Nat.le_refl _) hq
    exact ⟨by simp only;rw [i1];omega,i2,by simp only;omega,by omega⟩
def lA (l:List ai)(m:List Bytes)(d a:Int)(s:Bytes)(w:Bool):List Bytes×Bool:=
 bif (ed l m d a (s.length:Int) w).2 then (xL (ed l m d a (s.length:Int) w).1 m s,true) else (m,false)
theorem DL (l:List ai)(m:List Bytes)(d a:Int)(s:Bytes)(w:Bool):(lA l m d a s w).1.length=m.length:=by
 unfold lA
 cases (ed l m d a (s.length:Int) w).2 with
 |false=>rfl
 |true=>exact DJ _ _ _
theorem JJ (l:List ai)(m:List Bytes)(d a:Int)(s:Bytes)(w:Bool)(hl:l.length≤1000000000)(hm:m.length≤1000000000)(ha:a≤9223372036854775807):tK l m d a s w=some (lA l m d a s w):=by
 have hfu:=bj
 unfold tK lA
 rw [lJ m (by omega),ab,JK l m d a _ w hl hm ha,ab]
 have hS:=zF l m d a (s.length:Int) w
 generalize ed l m d a (s.length:Int) w=r at hS⊢
 cases hr:r.2 with|false=>rfl|true=> ?_
 obtain ⟨h1,h2,h3,h4⟩:=hS hr
 simp only [Bool.not_true,cond_false,cond_true]
 exact ve _ (fun _ _ _=>rfl) r.1 [] m s fuel (by omega) (by simp;omega) h2 h1.symm hm (by omega)
theorem tY (l:List ai)(m:List Bytes)(d a:Int)(s:Bytes)(hl:l.length≤1000000000)(hm:m.length≤1000000000)(ha:a≤9223372036854775807):jc l m d a s=some (lA l m d a s true):=by
 have hfu:=bj
 unfold jc lA
 rw [Iw l m d a _ true hl hm ha,ab,qc m (by omega),ab]
 have hS:=zF l m d a (s.length:Int) true
 generalize ed l m d a (s.length:Int) true=r at hS⊢
 cases hr:r.2 with|false=>rfl|true=> ?_
 obtain ⟨h1,h2,h3,h4⟩:=hS hr
 simp only [Bool.not_true,cond_false,cond_true]
 exact vo _ (fun _ _ _=>rfl) r.1 [] m s fuel (by omega) (by simp;omega) h2 h1.symm hm (by omega)
theorem Bb (l:List ai)(m:List Bytes)(d a:Int)(s:Bytes)(hl:l.length≤1000000000)(hm:m.length≤1000000000)(ha:a≤9223372036854775807):lL l m d a s=some (lA l m d a s true):=by
 rw [lL,JJ l m d a s true hl hm ha];rfl
end
end Go.Pu
end
section
namespace Go.Pu
open Go.Dn
set_option linter.unusedSimpArgs false
set_option linter.unusedVariables false
noncomputable section
def L6 (x:ai):ai:=(x.1,x.2.1,x.2.2.1,true)
theorem getD_map {l:List ai}{i:Nat}(hi:i<l.length):(l.map L6).getD i vB=L6 (l.getD i vB):=by
 rw [bl (by simpa using hi),bl hi,List.getElem_map]
theorem Bj (l:List ai):bA (l.map L6)=bA l:=by
 unfold bA
 rw [List.length_map]
 congr 1
 rw [Bool.eq_iff_iff,List.all_eq_true,List.all_eq_true]
 have key:∀i,i<l.length→xu (l.map L6) i=xu l i:=by
  intro i hi
  unfold xu
  rw [getD_map hi]
  congr 1
  rw [Bool.eq_iff_iff,List.all_eq_true,List.all_eq_true]
  constructor
  ·intro h j hj
   have hjl:j<l.length:=by have:=List.mem_range.1 hj;omega
   have:=h j hj
   rw [getD_map hjl] at this
   exact this
  ·intro h j hj
   have hjl:j<l.length:=by have:=List.mem_range.1 hj;omega
   rw [getD_map hjl]
   exact h j hj
 constructor
 ·intro h i hi;rw [←key i (List.mem_range.1 hi)];exact h i hi
 ·intro h i hi;rw [key i (List.mem_range.1 hi)];exact h i hi
theorem Kd (l:List ai)(d p:Int):gy (l.map L6) d p true=gy l d p false:=by
 unfold gy
 rw [List.findIdx?_map]
 have e:(sA d p true∘L6)=sA d p false:=by
  funext x
  simp only [Function.comp,sA,gY,L6,Bool.not_false,Bool.or_true,Bool.true_or]
 rw [e]
 cases hf:l.findIdx? (sA d p false) with
 |none=>rfl
 |some i=>
  obtain ⟨hi,_⟩:=List.findIdx?_eq_some_iff_getElem.1 hf
  simp only [getD_map hi];rfl
theorem zD (l:List ai)(m:List Bytes)(d:Int):∀n a r,dA (l.map L6) m d true n a r=dA l m d false n a r
 |0,a,r=>rfl
 |n+1,a,r=>by
  simp only [dA,Kd,zD l m d n]
theorem MT (l:List ai)(m:List Bytes)(d a:Int)(s:Bytes):lA (l.map L6) m d a s true=lA l m d a s false:=by
 have e:ed (l.map L6) m d a (s.length:Int) true=ed l m d a (s.length:Int) false:=by
  simp only [ed,Bj,zD]
 simp only [lA,e]
theorem yL (l:List ai)(m:List Bytes)(d a:Int)(s:Bytes)(hl:l.length≤1000000000)(hm:m.length≤1000000000)(ha:a≤9223372036854775807):k8 l m d a s=some (lA l m d a s false):=by
 unfold k8
 refine fX (fun i=>((l.take i).map L6,(i:Int))) l.length (by omega) (fun i nx hi=> ?_) (fun nx=> ?_)
 ·simp only [gz]
  rw [decide_eq_true (by omega),aC hi,wrap64 (by omega) (by omega)]
  simp only [cond_true,ab]
  rw [aA (by simp;omega),List.take_succ_eq_append_getElem hi,List.map_append];rfl
 ·simp only [gz]
  rw [decide_eq_false (by omega),cond_false,List.take_length,tY _ m d a s (by rw [List.length_map];exact hl) hm ha,MT];rfl
def w3 (d:Int×Int×Int×Int×Int×Int):Bool:=bp d.1 0 3&&(bp d.2.1 0 3&&(bp d.2.2.1 0 65535&&(bp d.2.2.2.2.1 0 65535&&(bp d.2.2.2.2.2 0 65535&&bp d.2.2.2.1 0 4294967295))))
theorem JE (d:Int×Int×Int×Int×Int×Int):oy d=some (w3 d):=by
 simp only [oy,bI,ab,w3]
 cases bp d.1 0 3<;>cases bp d.2.1 0 3<;>cases bp d.2.2.1 0 65535<;>cases bp d.2.2.2.2.1 0 65535<;>cases bp d.2.2.2.2.2 0 65535<;>rfl
theorem Kv (d:Int×Int×Int×Int×Int×Int):oO d=some (w3 d):=by
 simp only [oO,bc,ab,w3]
 cases bp d.1 0 3<;>cases bp d.2.1 0 3<;>cases bp d.2.2.1 0 65535<;>cases bp d.2.2.2.2.1 0 65535<;>cases bp d.2.2.2.2.2 0 65535<;>rfl
def EK (d:Int×Int×Int×Int×Int×Int):Bytes:=
 bif w3 d then ((((bytesOf [IntKind.wrap .u8 d.1,IntKind.wrap .u8 d.2.1]++dZ d.2.2.1)++dc d.2.2.2.1)++dZ d.2.2.2.2.1)++dZ d.2.2.2.2.2)++dc 0 else []
theorem MZ (d:Int×Int×Int×Int×Int×Int):jw d=some (EK d):=by
 have h1:=cv d.2.2.1;have h2:=bX d.2.2.2.1;have h3:=cv d.2.2.2.2.1;have h4:=cv d.2.2.2.2.2;have h5:=bX 0
 have h0:(bytesOf [IntKind.wrap .u8 d.1,IntKind.wrap .u8 d.2.1]).length=2:=rfl
 unfold jw EK
 rw [Kv,ab]
 cases w3 d with|false=>rfl|true=> ?_
 simp only [Bool.not_true,cond_false,cond_true,tk,n9,ab]
 rw [aA (by omega),aA (by simp only [List.length_append];omega),aA (by simp only [List.length_append];omega),aA (by simp only [List.length_append];omega),aA (by simp only [List.length_append];omega)]
theorem MC (d:Int×Int×Int×Int×Int×Int):ji d=some (EK d):=by
 have h1:=cv d.2.2.1;have h2:=bX d.2.2.2.1;have h3:=cv d.2.2.2.2.1;have h4:=cv d.2.2.2.2.2;have h5:=bX 0
 have h0:(bytesOf [IntKind.wrap .u8 d.1,IntKind.wrap .u8 d.2.1]).length=2:=rfl
 unfold ji EK
 rw [JE,ab]
 cases w3 d with|false=>rfl|true=> ?_
 simp only [Bool.not_true,cond_false,cond_true,E9,s8,ab]
 rw [aA (by omega),aA (by simp only [List.length_append];omega),aA (by simp only [List.length_append];omega),aA (by simp only [List.length_append];omega),aA (by simp only [List.length_append];omega)]
def lr (r:Int×Int×Int×Int):Int:=bif eR r then IntKind.wrap .i64 (r.2.1-mD r) else 0
def n6 (r:Int×Int×Int×Int)(c:Int):Int:=bif !eR r||decide (c<0) then-1 else r.1+Int.tmod c r.2.1*16
theorem sq {r:Int×Int×Int×Int}(h:eR r=true):0≤r.1∧r.1≤130944∧(r.2.1=2∨r.2.1=4∨r.2.1=8∨r.2.1=16)∧0≤r.2.2.1∧r.2.2.1≤2*r.2.1-1∧0≤r.2.2.2∧r.2.2.2≤2*r.2.1-1:=by
 simp only [eR,Bool.and_eq_true,bf] at h
 exact ⟨h.1.1,h.1.2,ja.1 h.2.1,h.2.2.1.1,h.2.2.1.2,h.2.2.2.1.1,h.2.2.2.1.2⟩
theorem tW (r:Int×Int×Int×Int)(c:Int): -1≤n6 r c∧n6 r c≤200000:=by
 unfold n6
 cases hc: !eR r||decide (c<0) with
 |true=>exact ⟨Int.le_refl _,by simp⟩
 |false=>
  simp only [Bool.or_eq_false_iff,Bool.not_eq_false',decide_eq_false_iff_not] at hc
  have h:=sq hc.1
  have h2:0≤Int.tmod c r.2.1∧Int.tmod c r.2.1<r.2.1:=by
   rw [Int.tmod_eq_emod_of_nonneg (by omega)]
   exact ⟨Int.emod_nonneg _ (by omega),Int.emod_lt_of_pos _ (by omega)⟩
  simp only [cond_false];omega
def a6 (l:List ai)(m:List Bytes)(d:Int)(r:Int×Int×Int×Int)(s:Bytes):List Bytes×(Int×Int×Int×Int)×Bool:=
 bif (lr r==0)||((s.length:Int) !=16) then (m,r,false) else
 bif !(lA l m d (n6 r r.2.2.2) s true).2 then (m,r,false) else
 ((lA l m d (n6 r r.2.2.2) s true).1,(r.1,r.2.1,r.2.2.1,Int.tmod (r.2.2.2+1) (2*r.2.1)),true)
theorem zE {l:List ai}{m:List Bytes}{d a:Int}{s:Bytes}{w:Bool}(h:(lA l m d a s w).2=false):(lA l m d a s w).1=m:=by
 unfold lA at h⊢
 cases hr:(ed l m d a (s.length:Int) w).2 with
 |false=>rfl
 |true=>rw [hr] at h;cases h
theorem uY (r:Int×Int×Int×Int):je r=some (lr r):=by
 unfold je lr
 rw [xU,ab]
 cases eR r with|false=>rfl|true=> ?_
 simp only [Bool.not_true,cond_false,cond_true,D3,ab]
theorem Iz (r:Int×Int×Int×Int)(c:Int):ix r c=some (n6 r c):=by
 have hin:=tW r c
 unfold ix
 rw [xU,ab]
 unfold n6 at hin⊢
 cases hb:eR r with|false=>rfl|true=> ?_
 have h:=sq hb
 by_cases hc:c<0
 ·rw [decide_eq_true hc];rfl
 ·rw [hb,decide_eq_false hc] at hin
  rw [decide_eq_false hc]
  have h2:0≤Int.tmod c r.2.1∧Int.tmod c r.2.1<r.2.1:=by
   rw [Int.tmod_eq_emod_of_nonneg (by omega)]
   exact ⟨Int.emod_nonneg _ (by omega),Int.emod_lt_of_pos _ (by omega)⟩
  simp only [Bool.not_true,cond_false,ab,Bool.or_self] at hin⊢
  rw [if_neg (by omega),wrap64 (n:=16*Int.tmod c r.2.1) (by omega) (by omega),wrap64 (by omega) (by omega)]
  congr 1;omega
theorem D1 (l:List ai)(m:List Bytes)(d:Int)(r:Int×Int×Int×Int)(s:Bytes)(hl:l.length≤1000000000)(hm:m.length≤1000000000):na l m d r s=some (a6 l m d r s):=by
 have hA:=tW r r.2.2.2
 unfold na a6
 simp only [uY,ab,Iz,tY l m d _ s hl hm (show n6 r r.2.2.2≤9223372036854775807 by omega),qc m (show m.length≤1073741824 by omega)]
 cases hf:lr r==0 with|true=>rfl|false=> ?_
 cases (s.length:Int) !=16 with|true=>rfl|false=> ?_
 have hb:eR r=true:=by
  cases hb:eR r with
  |true=>rfl
  |false=>unfold lr at hf;rw [hb] at hf;cases hf
 have h:=sq hb
 simp only [cond_false,ab,Bool.or_self]
 cases hp:(lA l m d (n6 r r.2.2.2) s true).2 with
 |false=>simp only [Bool.not_false,cond_true,zE hp]
 |true=>
  simp only [Bool.not_true,cond_false]
  rw [wrap64 (n:=2*r.2.1) (by omega) (by omega),if_neg (by omega),wrap64 (n:=r.2.2.2+1) (by omega) (by omega)]
theorem HE (r:Int×Int×Int×Int):lO r=some (lr r):=by
 unfold lO lr
 rw [xl,ab]
 cases eR r with|false=>rfl|true=> ?_
 simp only [Bool.not_true,cond_false,cond_true,C9,ab]
theorem HM (r:Int×Int×Int×Int)(c:Int):ia r c=some (n6 r c):=by
 have hin:=tW r c
 unfold ia
 rw [xl,ab]
 unfold n6 at hin⊢
 cases hb:eR r with|false=>rfl|true=> ?_
 have h:=sq hb
 by_cases hc:c<0
 ·rw [decide_eq_true hc];rfl
 ·rw [hb,decide_eq_false hc] at hin
  rw [decide_eq_false hc]
  have h2:0≤Int.tmod c r.2.1∧Int.tmod c r.2.1<r.2.1:=by
   rw [Int.tmod_eq_emod_of_nonneg (by omega)]
   exact ⟨Int.emod_nonneg _ (by omega),Int.emod_lt_of_pos _ (by omega)⟩
  simp only [Bool.not_true,cond_false,ab,Bool.or_self] at hin⊢
  rw [if_neg (by omega),wrap64 (n:=Int.tmod c r.2.1*16) (by omega) (by omega),wrap64 (by omega) (by omega)]
theorem C8 (l:List ai)(m:List Bytes)(d:Int)(r:Int×Int×Int×Int)(s:Bytes)(hl:l.length≤1000000000)(hm:m.length≤1000000000):mU l m d r s=some (a6 l m d r s):=by
 have hA:=tW r r.2.2.2
 unfold mU a6
 simp only [HE,ab,HM,Bb l m d _ s hl hm (show n6 r r.2.2.2≤9223372036854775807 by omega),lJ m (show m.length≤1073741824 by omega)]
 cases hf:lr r==0 with|true=>rfl|false=> ?_
 cases (s.length:Int) !=16 with|true=>rfl|false=> ?_
 have hb:eR r=true:=by
  cases hb:eR r with
  |true=>rfl
  |false=>unfold lr at hf;rw [hb] at hf;cases hf
 have h:=sq hb
 simp only [cond_false,ab,Bool.or_self]
 cases hp:(lA l m d (n6 r r.2.2.2) s true).2 with
 |false=>simp only [Bool.not_false,cond_true,zE hp]
 |true=>
  simp only [Bool.not_true,cond_false]
  rw [wrap64 (n:=2*r.2.1) (by omega) (by omega),if_neg (by omega),wrap64 (n:=r.2.2.2+1) (by omega) (by omega)]
end
end Go.Pu
end
section
namespace Go.Pu
open Go.Dn
set_option linter.unusedSimpArgs false
set_option linter.unusedVariables false
noncomputable section
theorem sn {p:aY}(h:c8 p=true):0≤p.1∧p.1≤130944∧1≤p.2.1∧p.2.1≤512∧0≤p.2.2.1∧p.2.2.1≤16:=by
 simp only [c8,Bool.and_eq_true,bf] at h
 exact ⟨h.1.1,h.1.2,h.2.1.1,h.2.1.2,h.2.2.1.1,h.2.2.1.2⟩
def wc (p:aY)(i:Int):Int:=bif !c8 p|| !bp i 0 (p.2.2.1-1) then-1 else p.1+i*p.2.1
def acp (p:aY)(i:Int):Option Int:=some (IntKind.wrap .i64 (p.1+IntKind.wrap .i64 (i*p.2.1)))
theorem Ge {p:aY}{i:Int}(hp:c8 p=true)(hi:bp i 0 (p.2.2.1-1)=true):IntKind.wrap .i64 (p.1+IntKind.wrap .i64 (i*p.2.1))=p.1+i*p.2.1:=by
 have h:=sn hp
 have h2:=bf.1 hi
 have h3:0≤i*p.2.1:=Int.mul_nonneg h2.1 (by omega)
 have h4:i*p.2.1≤16*512:=Int.mul_le_mul (by omega) (by omega) (by omega) (by omega)
 rw [wrap64 (n:=i*p.2.1) (by omega) (by omega),wrap64 (by omega) (by omega)]
theorem Ku (p:aY)(i:Int)(h:p.2.2.2.length≤1000000000):fy p i=some (wc p i):=by
 unfold fy wc
 rw [ua p h,ab]
 cases hp:c8 p with|false=>rfl|true=> ?_
 have hin:=sn hp
 rw [wrap64 (n:=p.2.2.1-1) (by omega) (by omega),bc]
 cases hi:bp i 0 (p.2.2.1-1) with|false=>rfl|true=> ?_
 simp only [Bool.not_true,cond_false,ab,Bool.or_self,Ge hp hi]
theorem JD (p:aY)(i:Int)(h:p.2.2.2.length≤1000000000):fi p i=some (wc p i):=by
 unfold fi wc
 rw [xk p h,ab]
 cases hp:c8 p with|false=>rfl|true=> ?_
 have hin:=sn hp
 rw [wrap64 (n:=p.2.2.1-1) (by omega) (by omega),bI]
 cases hi:bp i 0 (p.2.2.1-1) with|false=>rfl|true=> ?_
 simp only [Bool.not_true,cond_false,ab,Bool.or_self,Ge hp hi]
def upto (n:Nat):List Int:=(List.range n).map Int.ofNat
theorem zR (n:Nat):upto (n+1)=upto n++[(n:Int)]:=by simp [upto,List.range_succ]
theorem L2 {n i:Nat}(h:i<n):(upto n).getD i 0=(i:Int):=by
 rw [bl (by simpa [upto] using h)];simp [upto]
theorem FI (a b:Int)(n:Nat)(hn:n≤16):c8 (a,b,(n:Int),upto n)=c8 (a,b,(n:Int),[]):=by
 unfold c8
 congr 3
 have h1:(List.range (upto n).length).all (xf (n:Int) (upto n))=true:=by
  rw [List.all_eq_true]
  intro i hi
  have hi:i<n:=by simpa [upto] using hi
  simp only [xf,L2 hi,Bool.and_eq_true,bf,Bool.not_eq_true']
  refine ⟨by omega, ?_⟩
  rw [Bool.eq_false_iff,ne_eq,List.contains_iff_mem]
  intro hm
  simp only [upto,←List.map_take,List.mem_map] at hm
  obtain ⟨j,hj,he⟩:=hm
  rw [List.take_range] at hj
  have:=List.mem_range.1 hj
  have:(j:Int)=(i:Int):=he
  omega
 rw [h1];rfl
def cD (a b n:Int):aY×Bool:=bif c8 (a,b,n,[]) then ((a,b,n,upto n.toNat),true) else ((0,0,0,[]),false)
theorem vd (a b n:Int):kn a b n=some (cD a b n):=by
 unfold kn cD
 rw [xk _ (by simp),ab]
 cases hp:c8 (a,b,n,[]) with|false=>rfl|true=> ?_
 have hin:=sn hp
 obtain ⟨n,rfl⟩:=Int.eq_ofNat_of_zero_le (show 0≤n from hin.2.2.2.2.1)
 have h16:n≤16:=by have:=hin.2.2.2.2.2;simp only at this;omega
 simp only [Bool.not_true,cond_false,cond_true,Int.toNat_natCast]
 refine fX (fun i=>((i:Int),a,b,(n:Int),upto i)) n (by omega) (fun i nx hi=> ?_) (fun nx=> ?_)
 ·simp only [jm]
  rw [decide_eq_true (by omega),aA (by simp [upto];omega),wrap64 (by omega) (by omega),zR];rfl
 ·simp only [jm]
  rw [decide_eq_false (by omega)];rfl
theorem vn (a b n:Int):lb a b n=some (cD a b n):=by
 have hfu:=bj
 unfold lb cD
 by_cases hn:0≤n∧n≤16
 ·obtain ⟨n,rfl⟩:=Int.eq_ofNat_of_zero_le hn.1
  have h16:n≤16:=by omega
  refine fX (fun i=>((i:Int),a,b,(n:Int),upto i)) n (by omega) (fun i nx hi=> ?_) (fun nx=> ?_)
  ·simp only [fH]
   rw [decide_eq_true (show (i:Int)<n by omega),decide_eq_true (show (n:Int)≤16 by omega)]
   simp only [cond_true,ab]
   rw [aA (by simp [upto];omega),wrap64 (by omega) (by omega),zR];rfl
  ·simp only [fH]
   rw [decide_eq_false (show¬(n:Int)<n by omega)]
   simp only [cond_false,ab,ua (a,b,(n:Int),upto n) (show (upto n).length≤1000000000 by simp [upto];omega),FI a b n h16,Int.toNat_natCast]
   cases c8 (a,b,(n:Int),[])<;>rfl
 ·have hb:c8 (a,b,n,[])=false:=by
   cases hp:c8 (a,b,n,[]) with
   |false=>rfl
   |true=>have:=sn hp;exact absurd ⟨this.2.2.2.2.1,this.2.2.2.2.2⟩ hn
  obtain ⟨f,hf⟩:∃f,fuel=f+1:=⟨fuel-1,by omega⟩
  rw [hf,aj]
  simp only [fH]
  have hc:(cond (decide ((0:Int)<n)) (some (decide (n≤16))) (some false))=some false:=by
   by_cases h0:(0:Int)<n
   ·rw [decide_eq_true h0,decide_eq_false (by omega)];rfl
   ·rw [decide_eq_false h0];rfl
  rw [hc]
  simp only [ab,cond_false,ua (a,b,n,[]) (show ([]:List Int).length≤1000000000 by simp),hb];rfl
def descOf (p:aY)(b:Int):Bytes:=EK (3,0,p.2.1,wc p b,0,b)
def fD (l:List ai)(d:Int)(p:aY):List Int→List Bytes→(Int×Int×Int×Int)→Nat×List Bytes×(Int×Int×Int×Int)
 |[],m,r=>(0,m,r)
 |b::q,m,r=>bif (a6 l m d r (descOf p b)).2.2 then
   ((fD l d p q (a6 l m d r (descOf p b)).1 (a6 l m d r (descOf p b)).2.1).1+1,(fD l d p q (a6 l m d r (descOf p b)).1 (a6 l m d r (descOf p b)).2.1).2)
  else (0,m,r)
theorem qs (l:List ai)(m:List Bytes)(d:Int)(r:Int×Int×Int×Int)(s:Bytes):(a6 l m d r s).1.length=m.length:=by
 unfold a6
 cases (lr r==0)||((s.length:Int) !=16) with|true=>rfl|false=> ?_
 cases (lA l m d (n6 r r.2.2.2) s true).2 with
 |false=>rfl
 |true=>exact DL ..
theorem uA (l:List ai)(d:Int)(p:aY):∀(q:List Int)(m:List Bytes)(r:Int×Int×Int×Int),(fD l d p q m r).2.1.length=m.length∧(fD l d p q m r).1≤q.length
 |[],m,r=>⟨rfl,Nat.le_refl _⟩
 |b::q,m,r=>by
  rw [fD]
  cases (a6 l m d r (descOf p b)).2.2 with
  |false=>exact ⟨rfl,Nat.zero_le _⟩
  |true=>
   have:=uA l d p q (a6 l m d r (descOf p b)).1 (a6 l m d r (descOf p b)).2.1
   simp only [cond_true,List.length_cons]
   exact ⟨by rw [this.1,qs],by omega⟩
end
end Go.Pu
end
section
namespace Go.Pu
open Go.Dn
set_option linter.unusedSimpArgs false
set_option linter.unusedVariables false
noncomputable section
theorem Jp (r:Int×Int×Int×Int):0≤lr r:=by
 unfold lr
 cases hb:eR r with
 |false=>exact Int.le_refl _
 |true=>
  have h:=sq hb
  simp only [eR,Bool.and_eq_true,decide_eq_true_eq] at hb
  have hu:=hb.2.2.2.2
  have h0:0≤mD r:=by
   unfold mD
   split
   ·exact Int.emod_nonneg _ (by omega)
   ·exact Int.le_refl _
  simp only [cond_true]
  rw [wrap64 (by omega) (by omega)];omega
theorem BF {l:List ai}{m:List Bytes}{d:Int}{r:Int×Int×Int×Int}{s:Bytes}(h:¬lr r>0):a6 l m d r s=(m,r,false):=by
 have h0:=Jp r
 have:lr r=0:=by omega
 unfold a6
 rw [this];rfl
theorem tI {R:Type}(K:Int→Int→(Int×Int×Int×Int)→List Bytes→Option R)(K':Nat→(Int×Int×Int×Int)→List Bytes→Option R)(hK:∀(c:Nat) i r m,K (c:Int) i r m=K' c r m)(l:List ai)(d:Int)(p p2 p3:aY)(hp:p.2.2.2.length≤1000000000)(hl:l.length≤1000000000):∀(rest pre:List Int)(m:List Bytes)(r:Int×Int×Int×Int)(f:Nat),rest.length<f→pre.length+rest.length≤1000000000→m.length≤1000000000→
 aj (eC K l d (pre++rest) ((pre++rest).length:Int) p ([]:List Bytes) (0,0,0,0) p2 p3) f ((pre.length:Int),(pre.length:Int),r,m)=K' (pre.length+(fD l d p rest m r).1) (fD l d p rest m r).2.2 (fD l d p rest m r).2.1
 |rest,pre,m,r,0,hf,_,_=>by omega
 |[],pre,m,r,f+1,_,_,_=>by
  rw [aj]
  simp only [eC]
  rw [decide_eq_false (by simp),cond_false,hK];rfl
 |b::q,pre,m,r,f+1,hf,hn,hm=>by
  simp only [List.length_cons] at hf hn
  have hi:pre.length<(pre++b::q).length:=by simp
  have hb:(pre++b::q)[pre.length]=b:=by simp
  rw [aj]
  simp only [eC]
  rw [decide_eq_true (by simp;omega),aC hi,hb]
  simp only [cond_true,ab,JD p b hp,MC,C8 l m d r _ hl hm]
  rw [show EK (3,0,p.2.1,wc p b,0,b)=descOf p b from rfl,fD]
  cases hq:(a6 l m d r (descOf p b)).2.2 with
  |false=>simp only [Bool.not_false,cond_true,cond_false,hK,Nat.add_zero]
  |true=>
   simp only [Bool.not_true,cond_false,cond_true]
   rw [wrap64 (n:=(pre.length:Int)+1) (by omega) (by omega)]
   have key:=tI K K' hK l d p p2 p3 hp hl q (pre++[b]) (a6 l m d r (descOf p b)).1 (a6 l m d r (descOf p b)).2.1 f (by omega) (by simp;omega) (by rw [qs];exact hm)
   have el:((pre++[b]).length:Int)=(pre.length:Int)+1:=by simp
   have el2:(pre++[b]).length=pre.length+1:=by simp
   rw [List.append_assoc,List.singleton_append,el,el2] at key
   rw [show pre.length+((fD l d p q (a6 l m d r (descOf p b)).1 (a6 l m d r (descOf p b)).2.1).1+1)=pre.length+1+(fD l d p q (a6 l m d r (descOf p b)).1 (a6 l m d r (descOf p b)).2.1).1 by omega]
   exact key
theorem tZ {R:Type}(K:Int→(Int×Int×Int×Int)→List Bytes→aY→Option R)(l:List ai)(d:Int)(p p2:aY)(hp:p.2.2.2.length≤1000000000)(hl:l.length≤1000000000)(A B C:Int):∀(rest:List Int)(c:Nat)(m:List Bytes)(r:Int×Int×Int×Int)(f:Nat),rest.length<f→c+rest.length≤1000000000→m.length≤1000000000→
 aj (eT K l d p ([]:List Bytes) (0,0,0,0) p2) f ((c:Int),r,m,A,B,C,rest)=K ((c+(fD l d p rest m r).1:Nat):Int) (fD l d p rest m r).2.2 (fD l d p rest m r).2.1 (A,B,C,rest.drop (fD l d p rest m r).1)
 |rest,c,m,r,0,hf,_,_=>by omega
 |[],c,m,r,f+1,_,_,_=>by
  rw [aj]
  simp only [eT,uY,ab]
  have hc:(cond (decide (lr r>0)) (some (decide ((([]:List Int).length:Int)>0))) (some false))=some false:=by cases decide (lr r>0)<;>rfl
  rw [hc];rfl
 |b::q,c,m,r,f+1,hf,hn,hm=>by
  simp only [List.length_cons] at hf hn
  rw [aj]
  simp only [eT,uY,ab]
  by_cases hr:lr r>0
  ·rw [decide_eq_true hr,decide_eq_true (show (((b::q).length:Nat):Int)>0 by simp)]
   have hi:idx (b::q) 0=some b:=rfl
   have hs:sub (b::q) 1 ((b::q).length:Int)=some q:=by
    unfold sub;rw [if_pos (by simp;omega)];simp
   simp only [cond_true,ab,hi,Ku p b hp,MZ,D1 l m d r _ hl hm]
   rw [show EK (3,0,p.2.1,wc p b,0,b)=descOf p b from rfl,fD]
   cases hq:(a6 l m d r (descOf p b)).2.2 with
   |false=>rfl
   |true=>
    simp only [Bool.not_true,cond_false,cond_true,hs,ab]
    rw [k6 (by omega),wrap64 (n:=(c:Int)+1) (by omega) (by omega),List.nil_append]
    have key:=tZ K l d p p2 hp hl A B C q (c+1) (a6 l m d r (descOf p b)).1 (a6 l m d r (descOf p b)).2.1 f (by omega) (by omega) (by rw [qs];exact hm)
    rw [show ((c+1:Nat):Int)=(c:Int)+1 by omega] at key
    refine Eq.trans key ?_
    rw [show c+1+(fD l d p q (a6 l m d r (descOf p b)).1 (a6 l m d r (descOf p b)).2.1).1=c+((fD l d p q (a6 l m d r (descOf p b)).1 (a6 l m d r (descOf p b)).2.1).1+1) by omega]
    rfl
  ·rw [decide_eq_false hr,fD,BF hr]
   rfl
def qJ (l:List ai)(m:List Bytes)(d:Int)(r:Int×Int×Int×Int)(p:aY):List Bytes×(Int×Int×Int×Int)×aY×Int:=
 bif !eR r|| !c8 p then (m,r,p,0) else
 ((fD l d p p.2.2.2 m r).2.1,(fD l d p p.2.2.2 m r).2.2,(p.1,p.2.1,p.2.2.1,p.2.2.2.drop (fD l d p p.2.2.2 m r).1),((fD l d p p.2.2.2 m r).1:Int))
theorem JF (l:List ai)(m:List Bytes)(d:Int)(r:Int×Int×Int×Int)(p:aY)(hl:l.length≤1000000000)(hm:m.length≤1000000000)(hp:p.2.2.2.length≤1000000000):fO l m d r p=some (qJ l m d r p):=by
 have hfu:=bj
 unfold fO qJ
 simp only [lJ m (show m.length≤1073741824 by omega),Ce p hp,xl,xk p hp,ab]
 cases eR r with|false=>rfl|true=> ?_
 cases c8 p with|false=>rfl|true=> ?_
 simp only [Bool.not_true,cond_false,ab,Bool.or_self]
 have hlen:=(uA l d p p.2.2.2 m r).2
 refine (tI _ (fun c r m=>aa (sub p.2.2.2 (c:Int) (p.2.2.2.length:Int)) fun x14=>aa (dg x14) fun r15=>some (m,r,(p.1,p.2.1,p.2.2.1,r15),(c:Int))) (fun _ _ _ _=>rfl) l d p _ p hp hl p.2.2.2 [] m r fuel (by omega) (by simp;omega) hm).trans ?_
 rw [List.length_nil,Nat.zero_add,G4 _ _ _ hlen (Nat.le_refl _),ab,List.take_of_length_le (by rw [List.length_drop];exact Nat.le_refl _),ov _ (by rw [List.length_drop];omega)];rfl
theorem Kw (l:List ai)(m:List Bytes)(d:Int)(r:Int×Int×Int×Int)(p:aY)(hl:l.length≤1000000000)(hm:m.length≤1000000000)(hp:p.2.2.2.length≤1000000000):ma l m d r p=some (qJ l m d r p):=by
 have hfu:=bj
 unfold ma qJ
 simp only [qc m (show m.length≤1073741824 by omega),Fj p hp,xU,ua p hp,ab]
 cases eR r with|false=>rfl|true=> ?_
 cases c8 p with|false=>rfl|true=> ?_
 simp only [Bool.not_true,cond_false,ab,Bool.or_self]
 refine (tZ _ l d p _ hp hl p.1 p.2.1 p.2.2.1 p.2.2.2 0 m r fuel (by omega) (by omega) hm).trans ?_
 rw [Nat.zero_add]
end
end Go.Pu
end
section
namespace Go.Pu
open Go.Dn
set_option linter.unusedSimpArgs false
set_option linter.unusedVariables false
noncomputable section
theorem xH (l:List ai)(m:List Bytes)(d:Int)(w:Bool):∀(n a r:Nat)(q:List (Int×Int)),dA l m d w n a r=some q→q.length≤n
 |0,a,r,q,h=>by simp only [dA,Option.some.injEq] at h;subst h;simp
 |n+1,a,r,q,h=>by
  simp only [dA] at h
  split at h
  ·simp only [Option.some.injEq] at h;subst h;simp
  ·split at h
   ·simp only [Option.map_eq_some_iff] at h
    obtain ⟨q',h1,rfl⟩:=h
    have:=xH l m d w n _ _ q' h1
    simp only [List.length_cons];omega
   ·cases h
theorem Ir (l:List ai)(m:List Bytes)(d a n:Int)(w:Bool):(ed l m d a n w).1.length≤4096:=by
 unfold ed
 cases hB:bA l&&(cz m&&bp n 0 4096) with|false=>simp|true=> ?_
 simp only [Bool.and_eq_true,bf] at hB
 simp only [cond_true]
 cases n==0 with|true=>simp|false=> ?_
 cases decide (a<0) with|true=>simp|false=> ?_
 simp only [cond_false]
 split
 ·rename_i q hq
  have:=xH _ _ _ _ _ _ _ _ hq
  show q.length≤4096
  omega
 ·simp
def so (m:List Bytes)(p:Int×Int):Bytes:=bif cq m p.1 p.2 then sI m p.1.toNat p.2.toNat else []
theorem yH (m:List Bytes)(p:Int×Int):(so m p).length≤8192:=by
 unfold so
 cases h:cq m p.1 p.2 with
 |false=>simp
 |true=>
  simp only [cq,Bool.and_eq_true,decide_eq_true_eq] at h
  have:=Km m p.1.toNat p.2.toNat
  have:=(mem_iff.1 h.1).2
  simp only [cond_true]
  omega
theorem rE (m:List Bytes):∀q:List (Int×Int),(q.flatMap (so m)).length≤8192*q.length
 |[]=>by simp
 |p::q=>by
  have:=rE m q
  have:=yH m p
  simp only [List.flatMap_cons,List.length_append,List.length_cons];omega
def Hn (l:List ai)(m:List Bytes)(d a n:Int):Bytes×Bool:=
 bif (ed l m d a n false).2 then ((ed l m d a n false).1.flatMap (so m),true) else ([],false)
theorem Mv {α β:Type}(g:α→List β)(l:List α)(i:Nat)(hi:i<l.length):(l.take (i+1)).flatMap g=(l.take i).flatMap g++g l[i]:=by
 rw [List.take_succ_eq_append_getElem hi,List.flatMap_append];simp
theorem SU (l:List ai)(m:List Bytes)(d a n:Int):(Hn l m d a n).1.length≤100000000:=by
 have hL:=Ir l m d a n false
 have h1:=rE m (ed l m d a n false).1
 unfold Hn
 cases (ed l m d a n false).2 with
 |false=>simp
 |true=>simp only [cond_true];omega
def AM (s:Bytes):(Int×Int×Int×Int×Int)×Int×Bool:=
 bif ((s.length:Int) !=16)||decide (cX s 12>1) then ((0,0,0,0,0),0,false) else ((mO s 0,mO s 2,mO s 4,mO s 6,cX s 8),cX s 12,true)
def Q5 (q:Int×Int×Int):Int:=bif decide (q.2.2<q.2.1) then 1 else 0
theorem Kj {q:Int×Int×Int}(h:uS q=true):0≤q.1∧q.1≤130944∧(q.2.1=2∨q.2.1=4∨q.2.1=8∨q.2.1=16)∧0≤q.2.2∧q.2.2≤2*q.2.1-1:=by
 simp only [uS,Bool.and_eq_true,bf] at h
 obtain ⟨h1,h2,h3⟩:=h
 rw [uW h2] at h3
 exact ⟨h1.1,h1.2,ja.1 h2,h3⟩
def G0 (q:Int×Int×Int):Int:=q.1+Int.tmod q.2.2 q.2.1*16
theorem M7 {a b:Int}(h:0≤a)(hb:0<b):0≤Int.tmod a b∧Int.tmod a b<b:=by
 rw [Int.tmod_eq_emod_of_nonneg h]
 exact ⟨Int.emod_nonneg _ (by omega),Int.emod_lt_of_pos _ hb⟩
theorem X2 {q:Int×Int×Int}(h:uS q=true):0≤Int.tmod q.2.2 q.2.1∧Int.tmod q.2.2 q.2.1<16:=by
 obtain ⟨_,_,h3,h4,h5⟩:=Kj h
 have:=M7 h4 (show 0<q.2.1 by omega)
 omega
def W1 (q:Int×Int×Int):Int×Int×Int:=(q.1,q.2.1,Int.tmod (q.2.2+1) (2*q.2.1))
def MN (l:List ai)(m:List Bytes)(d:Int)(q:Int×Int×Int):Bool:=
 uS q&&((Hn l m d (G0 q) 16).2&&((AM (Hn l m d (G0 q) 16).1).2.2&&((AM (Hn l m d (G0 q) 16).1).2.1==Q5 q)))
def W2 (l:List ai)(m:List Bytes)(d:Int)(q:Int×Int×Int):(Int×Int×Int×Int×Int)×(Int×Int×Int)×Bool:=
 bif MN l m d q then ((AM (Hn l m d (G0 q) 16).1).1,W1 q,true) else ((0,0,0,0,0),q,false)
def Mx (l:List ai)(m:List Bytes)(d:Int)(r:bg):Bool:=X1 r&&(W2 l m d r.2.2.1).2.2
def ack (h:Host):Bool:=Jz h&&(!(decide ((h.2.2.1.2.2.1.length:Int)>0))&&h.2.2.2.1.all (fun r=> !(r.2.2.2.2.1||Mx h.2.1 h.1 0 r)))
end
end Go.Pu
end
section
namespace Go.Pu
open Go.Dn
set_option linter.unusedSimpArgs false
set_option linter.unusedVariables false
noncomputable section
def Og (s:Bytes)(i:Nat):Nat:=dx s (i/8)/2^(7-i%8)%2
theorem Me (s:Bytes)(i:Nat):Og s i<2:=Nat.mod_lt _ (by omega)
theorem SO (b k:Nat)(hb:b<256)(hk:k≤7):IntKind.wrap .i64 (BitVec.toNat (BitVec.ofInt (IntKind.bits .i64) (IntKind.wrap .i64 (Int.fdiv (b:Int) ((2^k:Nat):Int)))&&&BitVec.ofInt (IntKind.bits .i64) 1))=((b/2^k%2:Nat):Int):=by
 have e:Int.fdiv (b:Int) ((2^k:Nat):Int)=((b/2^k:Nat):Int):=(Int.ofNat_fdiv b (2^k)).symm
 have h1:b/2^k≤b:=Nat.div_le_self _ _
 rw [e,lu (n:=b/2^k) (by omega)]
 have:=Ni (b/2^k) 1 (by omega) (by omega)
 rw [show ((1:Nat):Int)=1 from rfl] at this
 rw [this,Nat.and_one_is_mod]
 exact lu (by omega)
def Re (s:Bytes)(a:Nat):Nat→Nat
 |0=>0
 |j+1=>2*Re s a j+Og s (a+j)
theorem L5 (s:Bytes)(a:Nat):∀j,Re s a j<2^j
 |0=>by simp [Re]
 |j+1=>by have:=L5 s a j;have:=Me s (a+j);rw [Re,Nat.pow_succ];omega
theorem Rf (s:Bytes)(a j:Nat)(hj:j≤32):Re s a j<4294967296:=Nat.lt_of_lt_of_le (L5 s a j) (Nat.pow_le_pow_right (n:=2) (by omega) hj)
def acB (s:Bytes)(a:Int):Int:=bif ((s.length:Int) !=16)|| !bp a 0 96 then-1 else ((Re s a.toNat 32:Nat):Int)
def zk (s v:Bytes):Nat→Nat
 |0=>0
 |i+1=>if Og v i=1 then zk s v i^^^Re s i 32 else zk s v i
theorem Jq (s v:Bytes):∀i,zk s v i<4294967296
 |0=>by simp [zk]
 |i+1=>by
  have:=Jq s v i
  rw [zk]
  split
  ·exact qF this (Rf s i 32 (by omega))
  ·exact this
def vc (s v:Bytes):Int:=bif ((s.length:Int) !=16)||decide ((v.length:Int)>12) then-1 else ((zk s v (8*v.length):Nat):Int)
theorem UB (s v:Bytes): -1≤vc s v:=by
 unfold vc
 cases ((s.length:Int) !=16)||decide ((v.length:Int)>12) with
 |true=>exact Int.le_refl _
 |false=>simp only [cond_false];omega
def ri (f:Int×Int×Int×Int×Int):Bytes:=((dc f.2.1++dc f.2.2.1)++dZ f.2.2.2.1)++dZ f.2.2.2.2
theorem Rl (f:Int×Int×Int×Int×Int):(ri f).length≤12:=by
 have:=bX f.2.1;have:=bX f.2.2.1;have:=cv f.2.2.2.1;have:=cv f.2.2.2.2
 simp only [ri,List.length_append];omega
def w6 (s:c9)(f:Int×Int×Int×Int×Int):Int:=bif ((s.2.length:Int)==0)||decide (vc s.1 (ri f)<0) then-1 else Int.tmod (vc s.1 (ri f)) (s.2.length:Int)
theorem Rk (s:c9)(f:Int×Int×Int×Int×Int)(h:¬w6 s f<0):∃n:Nat,w6 s f=(n:Int)∧n<s.2.length:=by
 unfold w6 at h⊢
 cases hc:((s.2.length:Int)==0)||decide (vc s.1 (ri f)<0) with
 |true=>rw [hc] at h;simp at h
 |false=>
  rw [hc] at h
  simp only [Bool.or_eq_false_iff,beq_eq_false_iff_ne,decide_eq_false_iff_not] at hc
  simp only [cond_false] at h⊢
  have h1:0≤vc s.1 (ri f):=by omega
  rw [Int.tmod_eq_emod_of_nonneg h1] at h⊢
  have:=Int.emod_lt_of_pos (vc s.1 (ri f)) (show (0:Int)<s.2.length by omega)
  obtain ⟨n,hn⟩:=Int.eq_ofNat_of_zero_le (show 0≤vc s.1 (ri f)%(s.2.length:Int) by omega)
  exact ⟨n,hn,by omega⟩
def M1 (s:c9)(q:Int)(f:Int×Int×Int×Int×Int):Int:=bif !oQ s q||decide (w6 s f<0) then-1 else s.2.getD (w6 s f).toNat 0
theorem zT (t:List Slot)(f:Int×Int×Int×Int×Int)(h:∀j,j<8→fL (bC t j) f=false):∀n k,walk t f n k= -1
 |0,_=>rfl
 |n+1,k=>by
  unfold walk
  rw [h _ (um f k),zT t f h n (k+1)]
  split<;>rfl
theorem u7 (f:Int×Int×Int×Int×Int):∀(t:List Slot)(m:Int),(∀s∈t,fL s f=false)→mJ f t m= -1
 |[],_,_=>rfl
 |s::r,m,h=>by
  unfold mJ
  rw [h s (by simp)]
  exact u7 f r (m+1) (fun x hx=>h x (by simp [hx]))
theorem Ox (t:List Slot)(f:Int×Int×Int×Int×Int)(h:lF t=true):mJ f t 0=walk t f 8 0:=by
 simp only [lF,Bool.and_eq_true,beq_iff_eq,List.all_eq_true,List.mem_range] at h
 obtain ⟨h8,hs⟩:=h
 by_cases hex:∃j,j<t.length∧fL (bC t j) f=true
 ·obtain ⟨j,hj,hu,e⟩:=rb f t 0 hex
  have:=hs j (by omega)
  simp only [fS,Bool.and_eq_true,Bool.or_eq_true,Bool.not_eq_true',beq_iff_eq] at this
  simp only [fL,Bool.and_eq_true,beq_iff_eq,decide_eq_true_eq] at hu
  rcases this.2 with g|g
  ·rw [hu.1] at g;simp at g
  ·rw [hu.2] at g
   rw [show ((0:Int))=((0:Nat):Int) from rfl,e,g];omega
 ·have hn:∀j,j<t.length→fL (bC t j) f=false:=fun j hj=>Bool.eq_false_iff.2 fun hu=>hex ⟨j,hj,hu⟩
  rw [zT t f (fun j hj=>hn j (by omega)),u7]
  intro s hs'
  obtain ⟨j,hj,rfl⟩:=List.getElem_of_mem hs'
  have:=hn j hj
  rwa [nw hj] at this
def findF (t:List Slot)(f:Int×Int×Int×Int×Int):Int:=bif lF t then walk t f 8 0 else-1
theorem Hb (t:List Slot)(f:Int×Int×Int×Int×Int):∀n k,walk t f n k= -1∨∃m:Nat,walk t f n k=(m:Int)∧m<8
 |0,_=> .inl rfl
 |n+1,k=>by
  unfold walk
  split
  ·exact .inl rfl
  ·split
   ·exact .inr ⟨_,rfl,um f k⟩
   ·exact Hb t f n (k+1)
theorem Ug (t:List Slot)(f:Int×Int×Int×Int×Int)(h:findF t f≥0):∃m:Nat,findF t f=(m:Int)∧m<t.length:=by
 unfold findF at h⊢
 cases ht:lF t with
 |false=>rw [ht] at h;simp at h
 |true=>
  rw [ht] at h
  simp only [cond_true] at h⊢
  have h8:t.length=8:=by simp only [lF,Bool.and_eq_true,beq_iff_eq] at ht;exact ht.1
  rcases Hb t f 8 0 with g|⟨m,g,hm⟩
  ·omega
  ·exact ⟨m,g,by omega⟩
end
end Go.Pu
end
section
namespace Go.Pu
open Go.Dn
set_option linter.unusedSimpArgs false
set_option linter.unusedVariables false
noncomputable section
def hasB (l:List Int)(v:Int):Bool:=l.any (·==v)
theorem CX {l:List Int}{v:Int}:hasB l v=true↔v∈l:=by
 simp only [hasB,List.any_eq_true,beq_iff_eq]
 constructor
 ·rintro ⟨x,hx,rfl⟩;exact hx
 ·intro h;exact ⟨v,h,rfl⟩
theorem BN (l:List Int)(v:Int)(h:l.length≤1000000000):mF l v=some (hasB l v):=by
 unfold mF hasB
 rw [B7 (hit:=some true) (fin:=some false) (fun x:Int=>x==v) l (by omega) (fun i hi nx=> ?hs) (fun nx=> ?hf)]
 case hs=>
  simp only [ln]
  rw [decide_eq_true (by omega),aC hi,wrap64 (by omega) (by omega)];rfl
 case hf=>
  simp only [ln]
  rw [decide_eq_false (by omega)];rfl
 cases l.any (fun x=>x==v)<;>rfl
theorem Bc (l:List Int)(v:Int)(h:l.length≤1000000000):jU l v=some (hasB l v):=BN l v h
def ins (v:Int):List Int→List Int
 |[]=>[v]
 |x::l=>bif decide (v<x) then v::x::l else x::ins v l
theorem GN (v:Int):∀l,(ins v l).length=l.length+1
 |[]=>rfl
 |x::l=>by
  rw [ins]
  cases decide (v<x) with
  |true=>rfl
  |false=>simp only [cond_false,List.length_cons,GN v l]
theorem GU (v x:Int):∀l,x∈ins v l↔x=v∨x∈l
 |[]=>by simp [ins]
 |y::l=>by
  rw [ins]
  cases decide (v<y) with
  |true=>simp
  |false=>simp only [cond_false,List.mem_cons,GU v x l];constructor<;>(rintro (h|h|h)<;>simp [h])
theorem JN (v:Int):∀l:List Int,v∉l→l.take (l.findIdx (fun x=> !decide (x<v)))++[v]++l.drop (l.findIdx (fun x=> !decide (x<v)))=ins v l
 |[],_=>rfl
 |x::l,h=>by
  rw [ins,List.findIdx_cons]
  have hx:v≠x:=fun e=>h (by simp [e])
  have hl:v∉l:=fun e=>h (by simp [e])
  by_cases c:x<v
  ·rw [decide_eq_true c,decide_eq_false (show¬v<x by omega)]
   have:=JN v l hl
   simpa using this
  ·rw [decide_eq_false c,decide_eq_true (show v<x by omega)];rfl
def mH (l:List Int)(v:Int):List Int:=bif hasB l v then l else ins v l
theorem tr (l:List Int)(v:Int):(mH l v).length≤l.length+1:=by
 unfold mH
 cases hasB l v with
 |true=>simp
 |false=>simp only [cond_false,GN];omega
theorem JZ {l:List Int}{v x:Int}(h:x∈l):x∈mH l v:=by
 unfold mH
 cases hasB l v with
 |true=>exact h
 |false=>exact (GU v x l).2 (.inr h)
theorem Hf {l:List Int}{v:Int}(h:v∈l):mH l v=l:=by
 unfold mH;rw [CX.2 h];rfl
theorem pM:∀(vs l:List Int),(vs.foldl mH l).length≤l.length+vs.length
 |[],l=>by simp
 |v::vs,l=>by
  have:=pM vs (mH l v)
  have:=tr l v
  simp only [List.foldl_cons,List.length_cons];omega
theorem uI:∀(vs:List Int){l:List Int}{x:Int},x∈l→x∈vs.foldl mH l
 |[],_,_,h=>h
 |v::vs,l,x,h=>uI vs (l:=mH l v) (JZ h)
theorem Jn {α R:Type}(p:α→Bool)(k:Int→Option R)(l:List α):(match l.findIdx? p with|some i=>k (i:Int)|none=>k (l.length:Int))=k (l.findIdx p:Int):=by
 cases h:l.findIdx? p with
 |none=>rw [List.findIdx?_eq_none_iff_findIdx_eq] at h;rw [h]
 |some i=>rw [List.findIdx?_eq_some_iff_findIdx_eq] at h;rw [h.2]
theorem KG {α:Type}(l:List α)(j:Nat)(h:j≤l.length):sub l 0 (j:Int)=some (l.take j):=by
 unfold sub;rw [if_pos (by omega)];simp
theorem KF {α:Type}(l:List α)(j:Nat)(h:j≤l.length):sub l (j:Int) (l.length:Int)=some (l.drop j):=by
 unfold sub;rw [if_pos (by omega)];simp
theorem zL (a vs:List Int)(h:a.length+vs.length≤1000000000):jg a vs=some (vs.foldl mH a):=by
 unfold jg
 rw [aA (by simp only [List.length_nil];omega)]
 rw [List.nil_append]
 have:=k7 (T:=eX (fun (y10:List Int) (_:Int)=>some y10) vs) vs (fun (s:List Int) i=>(s,(i:Int))) (fun i s=>s.length≤a.length+i) (fun v s=> .ok (mH s v)) (fun s=>some s) (by omega)
  (fun i hi s nx hI=> ?hs) (fun i hi s s' hI hg=> ?hn) (fun s nx hI=> ?hf) a (by simp)
 case hs=>
  simp only [eX]
  rw [decide_eq_true (by omega),aC hi,wrap64 (n:=(i:Int)+1) (by omega) (by omega)]
  simp only [cond_true,ab,BN s vs[i] (by omega)]
  unfold mH
  cases hh:hasB s vs[i] with
  |true=>rfl
  |false=>
   have hm:vs[i]∉s:=fun e=>by rw [CX.2 e] at hh;cases hh
   simp only [cond_false]
   rw [uB (hit:=fun y6=>aa (sub s 0 y6) fun x7=>room (List.length ([]:List Int)+List.length x7) (room (List.length (([]:List Int)++x7)+List.length ([vs[i]])) (aa (sub s y6 (s.length:Int)) fun x9=>room (List.length ((([]:List Int)++x7)++([vs[i]]))+List.length x9) (nx (((([]:List Int)++x7)++([vs[i]]))++x9,(i:Int)+1)))))
    (fin:=aa (sub s 0 (s.length:Int)) fun x7=>room (List.length ([]:List Int)+List.length x7) (room (List.length (([]:List Int)++x7)+List.length ([vs[i]])) (aa (sub s (s.length:Int) (s.length:Int)) fun x9=>room (List.length ((([]:List Int)++x7)++([vs[i]]))+List.length x9) (nx (((([]:List Int)++x7)++([vs[i]]))++x9,(i:Int)+1)))))
    (fun x=> !decide (x<vs[i])) s (by omega) (fun j hj nx'=> ?hs2) (fun nx'=> ?hf2)]
   case hs2=>
    simp only [iA]
    rw [decide_eq_true (by omega),aC hj,aC hi,wrap64 (n:=(j:Int)+1) (by omega) (by omega)]
    simp only [cond_true,ab]
    cases decide (s[j]<vs[i])<;>rfl
   case hf2=>
    simp only [iA]
    rw [decide_eq_false (by omega)];rfl
   refine Eq.trans (Jn (fun x=> !decide (x<vs[i])) (fun y6=>aa (sub s 0 y6) fun x7=>room (List.length ([]:List Int)+List.length x7) (room (List.length (([]:List Int)++x7)+List.length ([vs[i]])) (aa (sub s y6 (s.length:Int)) fun x9=>room (List.length ((([]:List Int)++x7)++([vs[i]]))+List.length x9) (nx (((([]:List Int)++x7)++([vs[i]]))++x9,(i:Int)+1))))) s) ?_
   have hle:s.findIdx (fun x=> !decide (x<vs[i]))≤s.length:=List.findIdx_le_length
   have e:=JN vs[i] s hm
   generalize s.findIdx (fun x=> !decide (x<vs[i]))=j at*
   rw [KG s j hle,KF s j hle]
   simp only [ab,List.nil_append]
   rw [aA (by simp;omega),aA (by simp;omega),aA (by simp;omega),e];rfl
 case hn=>
  cases hg
  have:=tr s vs[i]
  omega
 case hf=>
  simp only [eX]
  rw [decide_eq_false (by omega)];rfl
 rw [tU] at this
 exact this
theorem GL (l:List Int)(v:Int)(h:l.length≤1000000000):dC l v=some (ins v l):=by
 unfold dC
 have hgo:∀(l:List Int)(acc:List Int)(d:Bool),acc.length+l.length+(bif d then 0 else 1)≤1073741824→
  gF (fun (x:Int) (s:List Int×Bool) (k:List Int×Bool→Option (List Int))=>cond (cond (!s.2) (decide (v<x)) false) (room (List.length s.1+List.length ([v])) (room (List.length (s.1++([v]))+List.length ([x])) (k ((s.1++([v]))++([x]),true)))) (room (List.length s.1+List.length ([x])) (k (s.1++([x]),s.2))))
   (fun s=>cond (!s.2) (room (List.length s.1+List.length ([v])) (some (s.1++([v])))) (some s.1)) l (acc,d)=some (acc++bif d then l else ins v l):=by
  intro l
  induction l with
  |nil=>
   intro acc d hl
   rw [gF]
   simp only [List.length_nil] at hl
   cases d with
   |true=>simp
   |false=>
    simp only [Bool.not_false,cond_true,cond_false] at hl⊢
    rw [aA (by simp;omega)];rfl
  |cons x l ih=>
   intro acc d hl
   simp only [List.length_cons] at hl
   rw [gF]
   cases d with
   |true=>
    simp only [Bool.not_true,cond_false,cond_true] at hl⊢
    rw [aA (by simp;omega),ih _ _ (by simp;omega)]
    simp
   |false=>
    simp only [Bool.not_false,cond_true,cond_false] at hl⊢
    rw [ins]
    cases decide (v<x) with
    |true=>
     simp only [cond_true]
     rw [aA (by simp;omega),aA (by simp;omega)]
     rw [ih _ _ (by simp;omega)];simp
    |false=>
     simp only [cond_false]
     rw [aA (by simp;omega),ih _ _ (by simp;omega)]
     simp
 have hfu:=bj
 have key:=nu (T:=dq (fun (y3:List Int) (y4:Bool) (_:Int)=>cond (!y4) (room (List.length y3+List.length ([v])) (some (y3++([v])))) (some y3)) v l (l.length:Int)) l (fun (s:List Int×Bool) i=>(s.1,s.2,(i:Int)))
  (fun (x:Int) (s:List Int×Bool) (k:List Int×Bool→Option (List Int))=>cond (cond (!s.2) (decide (v<x)) false) (room (List.length s.1+List.length ([v])) (room (List.length (s.1++([v]))+List.length ([x])) (k ((s.1++([v]))++([x]),true)))) (room (List.length s.1+List.length ([x])) (k (s.1++([x]),s.2))))
  (fun s=>cond (!s.2) (room (List.length s.1+List.length ([v])) (some (s.1++([v])))) (some s.1))
  (fun i hi s nx=>by
   simp only [dq]
   rw [decide_eq_true (by omega),aC hi,wrap64 (n:=(i:Int)+1) (by omega) (by omega)]
   simp only [cond_true,ab,aN];rfl)
  (fun s nx=>by
   simp only [dq]
   rw [decide_eq_false (by omega)];rfl)
  fuel 0 (([]:List Int),false) (by omega) (by omega)
 rw [List.drop_zero,hgo l [] false (by simp;omega)] at key
 exact key
def rC:Port:=(0,[],0,false)
def BB (p:Port):Bool:=ei (p.1,false,p.2.1)&&hasB p.2.1 p.2.2.1
def xJ (l:List Port)(i:Nat):Bool:=BB (l.getD i rC)&&(List.range i).all (fun j=> !((j !=0)&&((l.getD j rC).1==(l.getD i rC).1)))
def lz (l:List Port):Bool:=bp (l.length:Int) 1 8&&(List.range l.length).all (xJ l)
theorem FN (i:Nat)(q:Nat→Bool):(List.range (i-1)).all (fun j=> !(q (j+1)))=(List.range i).all (fun j=> !((j !=0)&&q j)):=by
 rw [Bool.eq_iff_iff,List.all_eq_true,List.all_eq_true]
 simp only [List.mem_range]
 constructor
 ·intro h j hj
  cases j with
  |zero=>rfl
  |succ j=>
   have:=h j (by omega)
   simpa using this
 ·intro h j hj
  have:=h (j+1) (by omega)
  simpa using this
theorem Ix (l:List Port)(h:l.length≤1000000000)(hv:∀p∈l,p.2.1.length≤1000000000):lg l=some (lz l):=by
 unfold lg lz
 rw [eB (hit:=some false) (fin:=some true) (xJ l) l.length (by omega) (fun i nx hi=> ?hs) (fun nx=> ?hf)]
 case hs=>
  have hvi:=hv _ (List.getElem_mem hi)
  simp only [jA]
  rw [decide_eq_true (by omega),aC hi,wrap64 (by omega) (by omega)]
  simp only [cond_true,ab,ti (l[i].1,false,l[i].2.1) hvi,BN _ _ hvi]
  have e1:(1:Int)=(((0:Nat)+1:Nat):Int):=rfl
  rw [e1,uv (hit:=some false) (fin:=nx ((i:Int)+1)) (fun j=>((j+1:Nat):Int)) (fun j=> !((l.getD (j+1) rC).1==l[i].1)) (i-1) (by omega) (fun j nx' hj hp=> ?hs2) (fun hp nx'=> ?hf2)]
  case hs2=>
   have hjl:j+1<l.length:=by omega
   simp only [jB]
   rw [decide_eq_true (by omega),aC hjl,aC hi,wrap64 (by omega) (by omega)]
   simp only [cond_true,ab,bl hjl,Bool.not_not];rfl
  case hf2=>
   simp only [jB]
   rw [decide_eq_false (by omega)];rfl
  rw [FN i (fun j=>(l.getD j rC).1==l[i].1)]
  simp only [xJ,BB,bl hi]
  cases ei (l[i].1,false,l[i].2.1)<;>cases hasB l[i].2.1 l[i].2.2.1<;>cases (List.range i).all (fun j=> !((j !=0)&&((l.getD j rC).1==l[i].1)))<;>rfl
 case hf=>
  simp only [jA]
  rw [decide_eq_false (by omega)];rfl
 simp only [bc,ab]
 cases bp (l.length:Int) 1 8<;>cases (List.range l.length).all (xJ l)<;>rfl
def uC (p:Nat→Bool):List Nat→Int
 |[]=> -1
 |j::r=>bif p j then (j:Int) else uC p r
theorem CN (p:Nat→Bool):∀n s i,s≤i→i<s+n→p i=true→(uC p (List.range' s n)==(i:Int))=(List.range' s (i-s)).all (fun j=> !(p j))
 |0,s,i,h1,h2,_=>by omega
 |n+1,s,i,h1,h2,hp=>by
  rw [List.range'_succ,uC]
  rcases Nat.lt_or_ge s i with hlt|hge
  ·obtain ⟨k,hk⟩:∃k,i-s=k+1:=⟨i-s-1,by omega⟩
   rw [hk,List.range'_succ,List.all_cons]
   cases hps:p s with
   |true=>
    simp only [cond_true,Bool.not_true,Bool.false_and]
    have:¬(s:Int)=(i:Int):=by omega
    simpa using this
   |false=>
    simp only [cond_false,Bool.not_false,Bool.true_and]
    rw [CN p n (s+1) i (by omega) (by omega) hp,show i-(s+1)=k by omega]
  ·have:s=i:=by omega
   subst this
   rw [hp,Nat.sub_self]
   simp
theorem xP {R:Type}(p:Nat→Bool)(hit:Nat→Option R)(fin:Option R)(k:Int→Option R)(h1:∀j:Nat,hit j=k (j:Int))(h2:fin=k (-1)):∀l:List Nat,tT (fun (j:Nat) (s:Unit)=>bif p j then .error (hit j) else .ok ()) (fun _=>fin) l ()=k (uC p l)
 |[]=>h2
 |j::l=>by
  rw [tT,uC]
  cases p j with
  |true=>exact h1 j
  |false=>exact xP p hit fin k h1 h2 l
theorem JM (l:List Port)(a:Int)(h:l.length≤1000000000):lQ l a=some (uC (fun j=>(j !=0)&&((l.getD j rC).1==a)) (List.range' 0 l.length)):=by
 unfold lQ
 have:=k7 (T:=eF (fun (_:Int)=>some (-1)) (fun (y4:Int) (_:Int)=>some y4) a 0 l (l.length:Int)) (List.range' 0 l.length) (fun (_:Unit) i=>(i:Int)) (fun _ _=>True)
  (fun (j:Nat) (s:Unit)=>bif (j !=0)&&((l.getD j rC).1==a) then .error (some (j:Int)) else .ok ()) (fun _=>some (-1)) (by simp;omega)
  (fun i hi s nx _=> ?hs) (fun _ _ _ _ _ _=>trivial) (fun s nx _=> ?hf) () trivial
 case hs=>
  have hil:i<l.length:=by simpa using hi
  have e:(List.range' 0 l.length)[i]=i:=by simp
  rw [e]
  simp only [eF]
  rw [decide_eq_true (by omega),aC hil,wrap64 (by omega) (by omega)]
  simp only [cond_true,ab,bl hil,aN,cF]
  have e2:((i:Int) !=0)=(i !=0):=by rw [Bool.eq_iff_iff];simp
  rw [e2]
  cases (i !=0)&&(l[i].1==a)<;>rfl
 case hf=>
  simp only [eF]
  rw [decide_eq_false (by simp)];rfl
 rw [xP (fun j=>(j !=0)&&((l.getD j rC).1==a)) _ _ (fun x=>some x) (fun _=>rfl) rfl] at this
 exact this
theorem HI (l:List Port)(h:l.length≤1000000000)(hv:∀p∈l,p.2.1.length≤1000000000):ks l=some (lz l):=by
 unfold ks lz
 rw [eB (hit:=some false) (fin:=some true) (xJ l) l.length (by omega) (fun i nx hi=> ?hs) (fun nx=> ?hf)]
 case hs=>
  have hvi:=hv _ (List.getElem_mem hi)
  simp only [jn]
  rw [decide_eq_true (by omega),aC hi,wrap64 (by omega) (by omega)]
  simp only [cond_true,ab,oW,s7 (l[i].1,false,l[i].2.1) hvi,Bc _ _ hvi,JM l _ h,aN,bne]
  have e2:((i:Int)==0)=(i==0):=by rw [Bool.eq_iff_iff];simp
  rw [e2]
  simp only [xJ,BB,bl hi]
  cases h0:i==0 with
  |true=>
   have:i=0:=by simpa using h0
   subst this
   cases ei (l[0].1,false,l[0].2.1)<;>cases hasB l[0].2.1 l[0].2.2.1<;>rfl
  |false=>
   have hne:(i !=0)=true:=by simp only [bne,h0,Bool.not_false]
   have fa:=CN (fun j=>(j !=0)&&((l.getD j rC).1==l[i].1)) l.length 0 i (by omega) (by omega) (by simp only [hne,bl hi,Bool.true_and,beq_self_eq_true])
   rw [Nat.sub_zero,←List.range_eq_range' (n:=i)] at fa
   simp only [bne] at fa⊢
   rw [fa]
   cases ei (l[i].1,false,l[i].2.1)<;>cases hasB l[i].2.1 l[i].2.2.1<;>cases (List.range i).all (fun j=> !((!(j==0))&&((l.getD j rC).1==l[i].1)))<;>rfl
 case hf=>
  simp only [jn]
  rw [decide_eq_false (by omega)];rfl
 simp only [bI,ab]
 cases bp (l.length:Int) 1 8<;>cases (List.range l.length).all (xJ l)<;>rfl
def jY (m:ar):Bool:=ei m.1&&(bp m.2.1 0 1000000000000&&bp m.2.2.2 0 1000000000000)
theorem Kz (m:ar)(h:m.1.2.2.length≤1000000000):k9 m=some (jY m):=by
 simp only [k9,ti _ h,bc,ab,aN,cF,jY]
theorem JH (m:ar)(h:m.1.2.2.length≤1000000000):kk m=some (jY m):=by
 simp only [kk,s7 _ h,bI,ab,aN,cF,jY]
theorem pt {m:ar}(h:jY m=true):m.1.2.2.length≤8:=by
 unfold jY ei at h
 simp only [Bool.and_eq_true,decide_eq_true_eq] at h
 omega
def BC (m:ar):Port:=(m.1.1,m.1.2.2.foldl mH [0],0,true)
def sM (s:List Int×List Port)(m:ar):List Int×List Port:=(m.1.2.2.foldl mH s.1,s.2++[BC m])
def oL (ms:List ar):List Port:=(0,(ms.foldl sM ([0],[])).1,0,false)::(ms.foldl sM ([0],[])).2
def ga (ms:List ar):List Port×Bool:=bif bp (ms.length:Int) 1 3&&(ms.all jY&&lz (oL ms)) then (oL ms,true) else ([],false)
theorem xO {α σ R:Type}(p:α→Bool)(f:σ→α→σ)(r:Option R)(fin:σ→Option R):∀(l:List α)(s:σ),tT (fun x s=>bif p x then .ok (f s x) else .error r) fin l s=bif l.all p then fin (l.foldl f s) else r
 |[],s=>rfl
 |x::l,s=>by
  rw [tT,List.all_cons,List.foldl_cons]
  cases p x with
  |false=>rfl
  |true=>simp only [cond_true,Bool.true_and];exact xO p f r fin l (f s x)
def B2 (i:Nat)(s:List Int×List Port):Prop:=s.1.length≤1+9*i∧s.2.length=i∧∀p∈s.2,p.2.1.length≤9
theorem B2.port {i:Nat}{s:List Int×List Port}(h:B2 i s){m:ar}(hm:jY m=true)(U:List Int)(hU:U.length≤s.1.length+9):B2 (i+1) (U,s.2++[BC m]):=by
 have hl:=pt hm
 have:=pM m.1.2.2 [0]
 refine ⟨?_, ?_, ?_⟩
 ·have:=h.1;simp only;omega
 ·have:=h.2.1;simp;omega
 ·intro p hp
  rcases List.mem_append.1 hp with hp|hp
  ·exact h.2.2 p hp
  ·simp only [List.mem_singleton] at hp;subst hp
   simp only [BC,List.length_singleton] at this⊢;omega
theorem rA {i:Nat}{s:List Int×List Port}(h:B2 i s)(hi:i≤3):((0,s.1,0,false)::s.2:List Port).length≤1000000000∧∀p∈((0,s.1,0,false)::s.2:List Port),p.2.1.length≤1000000000:=by
 have h1:=h.1
 have h2:=h.2.1
 refine ⟨by simp only [List.length_cons];omega,fun p hp=> ?_⟩
 rcases List.mem_cons.1 hp with rfl|hp
 ·simp only;omega
 ·have:=h.2.2 p hp;omega
theorem D0 (ms:List ar)(h:∀m∈ms,m.1.2.2.length≤1000000000):m9 ms=some (ga ms):=by
 unfold m9 ga
 simp only [bc,ab]
 cases hn:bp (ms.length:Int) 1 3 with
 |false=>rfl
 |true=>
  have hn':=bf.1 hn
  simp only [Bool.not_true,cond_false,Bool.true_and]
  have:=k7 (T:=fI (fun (y12:List Port) (_:Int)=>aa (lg y12) fun r14=>cond (!r14) (some (([]:List Port),false)) (some (y12,true))) (fun (y15:List Port) (y16:Bool) (_:List Port) (_:Int)=>some (y15,y16)) ms ([]:List Port) false)
   ms (fun (s:List Int×List Port) i=>((0,s.1,0,false)::s.2,(i:Int))) B2 (fun m s=>bif jY m then .ok (sM s m) else .error (some (([]:List Port),false)))
   (fun s=>some (bif lz ((0,s.1,0,false)::s.2) then ((0,s.1,0,false)::s.2,true) else ([],false))) (by omega) (fun i hi s nx hI=> ?hs) (fun i hi s s' hI hg=> ?hn) (fun s nx hI=> ?hf) ([0],[]) ⟨by simp,rfl,by simp⟩
  case hs=>
   simp only [fI]
   have hm:=h _ (List.getElem_mem hi)
   rw [decide_eq_true (by omega),aC hi,wrap64 (n:=(i:Int)+1) (by omega) (by omega)]
   simp only [cond_true,ab,Kz _ hm]
   cases hmb:jY ms[i] with
   |false=>rfl
   |true=>
    have hl:=pt hmb
    have hU:=hI.1
    have hP:=hI.2.1
    have e0:idx ((0,s.1,0,false)::s.2:List Port) 0=some (0,s.1,0,false):=rfl
    simp only [Bool.not_true,cond_false,cond_true,e0,ab]
    rw [zL s.1 _ (by omega),zL [0] _ (by simp;omega)]
    simp only [ab]
    rw [aA (by simp;omega)]
    rfl
  case hn=>
   cases hmb:jY ms[i] with
   |false=>rw [hmb] at hg;cases hg
   |true=>
    rw [hmb] at hg
    cases hg
    have:=pM ms[i].1.2.2 s.1
    have:=pt hmb
    exact hI.port hmb _ (by omega)
  case hf=>
   simp only [fI]
   rw [decide_eq_false (by omega)]
   have hb:=rA hI (by omega)
   simp only [cond_false,Ix _ hb.1 hb.2,ab]
   cases lz ((0,s.1,0,false)::s.2)<;>rfl
  rw [xO] at this
  refine Eq.trans this ?_
  unfold oL
  cases ms.all jY<;>rfl
def zN (s:List Int×List Port)(m:ar):List Int×List Port:=(([0]++m.1.2.2).foldl mH s.1,s.2++[BC m])
theorem KE {s:List Int×List Port}{m:ar}(h:(0:Int)∈s.1):zN s m=sM s m:=by
 unfold zN sM
 rw [List.foldl_append]
 simp only [List.foldl_cons,List.foldl_nil,Hf h]
theorem xZ:∀(ms:List ar)(s:List Int×List Port),(0:Int)∈s.1→ms.foldl zN s=ms.foldl sM s
 |[],_,_=>rfl
 |m::ms,s,h=>by
  rw [List.foldl_cons,List.foldl_cons,KE h]
  exact xZ ms _ (uI _ h)
theorem D6 (ms:List ar)(h:ms≠[]):ms.foldl zN ([],[])=ms.foldl sM ([0],[]):=by
 cases ms with
 |nil=>exact absurd rfl h
 |cons m ms=>
  rw [List.foldl_cons,List.foldl_cons]
  have e:zN ([],[]) m=sM ([0],[]) m:=rfl
  rw [e]
  exact xZ ms _ (uI _ (by simp))
theorem HG {R:Type}(k0:List Int→List Int→Int→Option R)(k:List Int→List Int→Option R)(hk:∀a b i,k0 a b i=k a b)(v2:List Port)(v3:Bool)(v4:List Port)(v18:List ar)(v19 v20:Int)(b7:ar)(vs all:List Int)(h:all.length+vs.length≤1000000000):
 aj (di k0 v2 v3 v4 v18 v19 v20 vs (vs.length:Int) b7) fuel (all,([]:List Int),0)=k (vs.foldl mH all) (vs.foldl mH []):=by
 have:=k7 (T:=di k0 v2 v3 v4 v18 v19 v20 vs (vs.length:Int) b7) vs (fun (s:List Int×List Int) i=>(s.1,s.2,(i:Int))) (fun i s=>s.1.length≤all.length+i∧s.2.length≤i) (fun v s=> .ok (mH s.1 v,mH s.2 v)) (fun s=>k s.1 s.2) (by omega)
  (fun i hi s nx hI=> ?hs) (fun i hi s s' hI hg=> ?hn) (fun s nx hI=> ?hf) (all,[]) ⟨by simp,by simp⟩
 case hs=>
  simp only [di]
  rw [decide_eq_true (by omega),aC hi,wrap64 (n:=(i:Int)+1) (by omega) (by omega)]
  simp only [cond_true,ab,Bc s.2 vs[i] (by omega),Bc s.1 vs[i] (by omega),GL s.2 vs[i] (by omega),GL s.1 vs[i] (by omega),mH]
  cases hasB s.2 vs[i]<;>cases hasB s.1 vs[i]<;>rfl
 case hn=>
  cases hg
  have:=tr s.1 vs[i]
  have:=tr s.2 vs[i]
  have h1:=hI.1
  have h2:=hI.2
  exact ⟨by simp only;omega,by simp only;omega⟩
 case hf=>
  simp only [di]
  rw [decide_eq_false (by omega)]
  simp only [cond_false,hk]
 rw [tU] at this
 refine Eq.trans this ?_
 have e:∀(l:List Int)(s:List Int×List Int),l.foldl (fun s v=>(mH s.1 v,mH s.2 v)) s=(l.foldl mH s.1,l.foldl mH s.2):=by
  intro l
  induction l with
  |nil=>intro s;rfl
  |cons x l ih=>intro s;rw [List.foldl_cons,ih];rfl
 rw [e]
theorem C7 (ms:List ar)(h:∀m∈ms,m.1.2.2.length≤1000000000):mT ms=some (ga ms):=by
 unfold mT ga
 simp only [bI,ab]
 cases hn:bp (ms.length:Int) 1 3 with
 |false=>rfl
 |true=>
  have hn':=bf.1 hn
  simp only [Bool.not_true,cond_false,Bool.true_and]
  have:=k7 (T:=fE (fun (y14:List Port) (y15:List Int) (_:Int)=>aa (idx y14 0) fun x17=>aa (idx y14 0) fun x18=>aa (ks (List.set y14 (Int.toNat 0) (x18.1,y15,x18.2.2))) fun r19=>cond (!r19) (some (([]:List Port),false)) (some (List.set y14 (Int.toNat 0) (x18.1,y15,x18.2.2),true)))
   (fun (y20:List Port) (y21:Bool) (_:List Port) (_:List Int) (_:Int)=>some (y20,y21)) ([]:List Port) false ms (ms.length:Int))
   ms (fun (s:List Int×List Port) i=>((0,[],0,false)::s.2,s.1,(i:Int))) B2 (fun m s=>bif jY m then .ok (zN s m) else .error (some (([]:List Port),false)))
   (fun s=>some (bif lz ((0,s.1,0,false)::s.2) then ((0,s.1,0,false)::s.2,true) else ([],false))) (by omega) (fun i hi s nx hI=> ?hs) (fun i hi s s' hI hg=> ?hn) (fun s nx hI=> ?hf) ([],[]) ⟨by simp,rfl,by simp⟩
  case hs=>
   simp only [fE]
   have hm:=h _ (List.getElem_mem hi)
   rw [decide_eq_true (by omega),aC hi,wrap64 (n:=(i:Int)+1) (by omega) (by omega)]
   simp only [cond_true,ab,JH _ hm]
   cases hmb:jY ms[i] with
   |false=>rfl
   |true=>
    have hl:=pt hmb
    have hU:=hI.1
    have hP:=hI.2.1
    simp only [Bool.not_true,cond_false,cond_true]
    rw [aA (by simp;omega)]
    refine (HG _ (fun a b=>room (List.length ((0,[],0,false)::s.2:List Port)+List.length ([(ms[i].1.1,b,0,true)]:List Port)) (nx (((0,[],0,false)::s.2)++([(ms[i].1.1,b,0,true)]),a,(i:Int)+1))) (fun _ _ _=>rfl) _ _ _ _ _ _ _ ([0]++ms[i].1.2.2) s.1 (by simp only [List.length_append,List.length_singleton];omega)).trans ?_
    rw [aA (by simp;omega)]
    rfl
  case hn=>
   cases hmb:jY ms[i] with
   |false=>rw [hmb] at hg;cases hg
   |true=>
    rw [hmb] at hg
    cases hg
    have hu:=pM ([0]++ms[i].1.2.2) s.1
    have hl:=pt hmb
    simp only [List.length_append,List.length_singleton] at hu
    exact hI.port hmb _ (by omega)
  case hf=>
   simp only [fE]
   rw [decide_eq_false (by omega)]
   have hb:=rA hI (by omega)
   have e0:idx ((0,[],0,false)::s.2:List Port) 0=some (0,[],0,false):=rfl
   have e1:List.set ((0,[],0,false)::s.2:List Port) (Int.toNat 0) (0,s.1,0,false)=(0,s.1,0,false)::s.2:=rfl
   simp only [cond_false,e0,ab,e1,HI _ hb.1 hb.2]
   cases lz ((0,s.1,0,false)::s.2)<;>rfl
  rw [xO,D6 ms (by rintro rfl;simp at hn')] at this
  refine Eq.trans this ?_
  unfold oL
  cases ms.all jY<;>rfl
end
end Go.Pu
end
section
namespace Go.Pu
open Go.Dn
set_option linter.unusedSimpArgs false
set_option linter.unusedVariables false
noncomputable section
def SJ (f:Filter)(p:bH):Bool:=ei f&&(((p.1==f.1)||((p.1==281474976710655)||f.2.1))&&((p.2.2.1== -1)||hasB f.2.2 p.2.2.1))
def preB (a b n:Int):Bool:=Int.fdiv a (2^(min (Int.toNat (IntKind.wrap .i64 (32-n))) (IntKind.bits .i64)))==Int.fdiv b (2^(min (Int.toNat (IntKind.wrap .i64 (32-n))) (IntKind.bits .i64)))
theorem Rz {r:bM}(h:rF r=true):0≤r.2.2.2.1∧r.2.2.2.1≤32:=by
 rw [←bf]
 unfold rF at h
 simp only [fb,bc,ab,aN] at h
 cases hp:bp r.2.2.2.1 0 32 with
 |true=>rfl
 |false=>
  rw [hp] at h
  revert h
  cases bp r.1 0 1000<;>cases r.2.1 !=0<;>cases r.2.1 !=6<;>cases r.2.1 !=17<;>cases bp r.2.2.1 0 4294967295<;>simp
def SP (r:bM)(p:bH):Bool:=preB r.2.2.1 p.2.2.2.2.2.2.1 r.2.2.2.1&&(bp p.2.2.2.2.2.2.2.2.2.2.1 r.2.2.2.2.1 r.2.2.2.2.2.1&&((r.2.2.2.2.2.2.1== -2)||(r.2.2.2.2.2.2.1==p.2.2.1)))
def Bk (r:bM)(p:bH):Bool:=rF r&&(od p&&(((r.2.1==0)||(r.2.1==p.2.2.2.2.2.2.2.2.1))&&SP r p))
def vl:bM:=(0,0,0,0,0,0,0,0,0)
def om (l:List bM)(p:bH):Nat→Int
 |0=> -1
 |i+1=>bif Bk (l.getD i vl) p&&(decide (om l p i<0)||decide ((l.getD i vl).1<(l.getD (om l p i).toNat vl).1)) then (i:Int) else om l p i
theorem vY (l:List bM)(p:bH):∀i,om l p i= -1∨∃n:Nat,om l p i=(n:Int)∧n<i
 |0=> .inl rfl
 |i+1=>by
  rw [om]
  cases Bk (l.getD i vl) p&&(decide (om l p i<0)||decide ((l.getD i vl).1<(l.getD (om l p i).toNat vl).1)) with
  |true=>exact .inr ⟨i,rfl,by omega⟩
  |false=>
   rcases vY l p i with h|⟨n,h,hn⟩
   ·exact .inl h
   ·exact .inr ⟨n,h,by omega⟩
theorem Ri {R:Type}(l:List bM)(p:bH)(i:Nat)(hi:i<l.length)(nx:Int×Int→Option R):
 (aa (cond (Bk l[i] p) (cond (decide (om l p i<0)) (some true) (aa (idx l (om l p i)) fun x4=>some (decide (l[i].1<x4.1)))) (some false)) fun q5=>cond q5 (nx ((i:Int),((i+1:Nat):Int))) (nx (om l p i,((i+1:Nat):Int))))=nx (om l p (i+1),((i+1:Nat):Int)):=by
 rw [om,bl hi]
 cases Bk l[i] p with|false=>rfl|true=> ?_
 rcases vY l p i with h|⟨n,h,hn⟩
 ·rw [h];rfl
 ·have hl:n<l.length:=by omega
  rw [h,decide_eq_false (show¬(n:Int)<0 by omega),aC hl]
  simp only [cond_true,cond_false,ab,Int.toNat_natCast,bl hl,Bool.true_and,Bool.false_or]
  cases decide (l[i].1<l[n].1)<;>rfl
def zg (l:List bM)(p:bH):Int:=bif qu l then om l p l.length else-1
theorem Uh (l:List bM)(p:bH)(h:zg l p≥0):∃n:Nat,zg l p=(n:Int)∧n<l.length:=by
 unfold zg at h⊢
 cases hr:qu l with
 |false=>rw [hr] at h;simp at h
 |true=>
  rw [hr] at h
  simp only [cond_true] at h⊢
  rcases vY l p l.length with g|g
  ·omega
  ·exact g
def uE (p:bH):Int×Int×Int×Int×Int:=(p.2.2.2.2.2.2.2.2.1,p.2.2.2.2.2.2.1,p.2.2.2.2.2.2.2.1,p.2.2.2.2.2.2.2.2.2.1,p.2.2.2.2.2.2.2.2.2.2.1)
def XC:Slot:=(0,(0,0,0,0,0),0)
def acn (s:aD)(q:Int)(p:bH):Int:=
 bif !fW s q|| !od p then-1 else
 bif decide (zg s.1 p≥0) then (bif (s.1.getD (zg s.1 p).toNat vl).2.2.2.2.2.2.2.1==1 then-1 else (s.1.getD (zg s.1 p).toNat vl).2.2.2.2.2.2.2.2) else
 bif decide (findF s.2.1 (uE p)≥0) then (s.2.1.getD (findF s.2.1 (uE p)).toNat XC).2.2 else M1 s.2.2 q (uE p)
end
end Go.Pu
end
section
namespace Go.Pu
open Go.Dn
set_option linter.unusedSimpArgs false
set_option linter.unusedVariables false
noncomputable section
def mG (n:Nat):Bytes:=bytesOf (List.replicate n (0:Int))
theorem zV (n:Nat):(mG n).length=n:=by simp [mG,bytesOf]
theorem DX (n:Nat)(h:n≤1000000000):fC (n:Int) 0=some (mG n):=by
 unfold fC
 rw [if_pos (by omega),aA (by rw [Int.toNat_natCast];omega),Int.toNat_natCast]
 refine fX (fun i=>(List.replicate n (0:Int),(i:Int))) n (by omega) (fun i nx hi=> ?_) (fun nx=> ?_)
 ·simp only [jF]
  rw [decide_eq_true (by omega),aC (by simpa using hi),wrap64 (by omega) (by omega)]
  simp only [cond_true,ab,Int.toNat_natCast,List.set_replicate_self];rfl
 ·simp only [jF]
  rw [decide_eq_false (by omega)];rfl
theorem MD (n:Nat)(h:n≤1000000000):mq 0 (n:Int)=some (mG n):=by
 unfold mq
 rw [if_pos (by omega),aA (by rw [Int.toNat_natCast];omega),Int.toNat_natCast]
 refine fX (fun i=>(List.replicate n (0:Int),(i:Int))) n (by omega) (fun i nx hi=> ?_) (fun nx=> ?_)
 ·simp only [kx]
  rw [decide_eq_true (by simp;omega),aC (by simpa using hi),wrap64 (by omega) (by omega)]
  simp only [cond_true,ab,Int.toNat_natCast,List.set_replicate_self];rfl
 ·simp only [kx]
  rw [decide_eq_false (by simp)];rfl
def pad (s:Bytes):Bytes:=if s.length<46 then s++mG (46-s.length) else s
theorem X0 (s:Bytes):(pad s).length=max 46 s.length:=by
 unfold pad
 split
 ·simp only [List.length_append,zV];omega
 ·omega
def fcs (c:Int):Bytes:=bytesOf [IntKind.wrap .u8 c,IntKind.wrap .u8 (Int.fdiv c (2^(min (Int.toNat 8) (IntKind.bits .i64)))),IntKind.wrap .u8 (Int.fdiv c (2^(min (Int.toNat 16) (IntKind.bits .i64)))),IntKind.wrap .u8 (Int.fdiv c (2^(min (Int.toNat 24) (IntKind.bits .i64))))]
def Hd (s:Bytes):Bytes:=s++fcs (tx s)
theorem XS (c:Int):(fcs c).length=4:=rfl
def XZ (p:bH):Bool:=od p&&decide ((p.2.2.2.2.2.2.2.2.2.2.2.2.2.2.2.length:Int)≤128)
def Q6 (p:bH)(z:Int)(k:Nat):bH:=
 (p.1,p.2.1,p.2.2.1,p.2.2.2.1,Int.tmod (IntKind.wrap .i64 (p.2.2.2.2.1+(k:Int))) 65536,p.2.2.2.2.2.1,p.2.2.2.2.2.2.1,p.2.2.2.2.2.2.2.1,p.2.2.2.2.2.2.2.2.1,p.2.2.2.2.2.2.2.2.2.1,p.2.2.2.2.2.2.2.2.2.2.1,
   Int.tmod (IntKind.wrap .i64 (p.2.2.2.2.2.2.2.2.2.2.2.1+((k:Int)*z))) 4294967296,p.2.2.2.2.2.2.2.2.2.2.2.2.1,
   (bif decide (((k:Int)+1)*z<(p.2.2.2.2.2.2.2.2.2.2.2.2.2.2.2.length:Int)) then IntKind.wrap .i64 (BitVec.toNat (BitVec.ofInt (IntKind.bits .i64) p.2.2.2.2.2.2.2.2.2.2.2.2.2.1&&&~~~ BitVec.ofInt (IntKind.bits .i64) 9)) else p.2.2.2.2.2.2.2.2.2.2.2.2.2.1),
   p.2.2.2.2.2.2.2.2.2.2.2.2.2.2.1,(p.2.2.2.2.2.2.2.2.2.2.2.2.2.2.2.take (min ((k+1)*z.toNat) p.2.2.2.2.2.2.2.2.2.2.2.2.2.2.2.length)).drop (k*z.toNat))
def vO (n z:Nat):Nat:=(n+z-1)/z
def KD (p:bH)(z:Int):List bH:=bif od p&&bp z 1 128 then
    (bif (p.2.2.2.2.2.2.2.2.1 !=6)||decide ((p.2.2.2.2.2.2.2.2.2.2.2.2.2.2.2.length:Int)≤z) then [p] else (List.range (vO p.2.2.2.2.2.2.2.2.2.2.2.2.2.2.2.length z.toNat)).map (Q6 p z)) else []
theorem Io {n z k:Nat}(hz:0<z):k<vO n z↔k*z<n:=by
 unfold vO
 rw [Nat.lt_div_iff_mul_lt hz]
 omega
theorem yd {p:bH}(h:od p=true):p.2.2.2.2.2.2.2.2.2.2.2.2.2.2.2.length≤320:=by
 have hh:GJ p=true:=by simp only [od,Bool.and_eq_true] at h;exact h.1
 exact Kr (Jy hh)
theorem RD {b:Bytes}{k z:Nat}(hk:k*z<b.length)(hb:b.length≤320):sub b ((k*z:Nat):Int) ((min ((k+1)*z) b.length:Nat):Int)=some ((b.take (min ((k+1)*z) b.length)).drop (k*z)):=by
 have:k*z≤(k+1)*z:=Nat.mul_le_mul_right _ (by omega)
 unfold sub
 rw [if_pos (by omega),Int.toNat_natCast,Int.toNat_natCast]
theorem Rc (p:bH)(z:Int):(KD p z).length≤320:=by
 unfold KD
 cases hs:od p&&bp z 1 128 with|false=>exact Nat.zero_le _|true=> ?_
 simp only [Bool.and_eq_true,bf] at hs
 have hb:=yd hs.1
 cases (p.2.2.2.2.2.2.2.2.1 !=6)||decide ((p.2.2.2.2.2.2.2.2.2.2.2.2.2.2.2.length:Int)≤z) with
 |true=>simp only [cond_true,List.length_singleton];omega
 |false=>
  simp only [cond_true,cond_false,List.length_map,List.length_range]
  rcases Nat.lt_or_ge 320 (vO p.2.2.2.2.2.2.2.2.2.2.2.2.2.2.2.length z.toNat) with h|h
  ·have:=(Io (by omega)).1 h
   have:320*1≤320*z.toNat:=Nat.mul_le_mul_left _ (by omega)
   omega
  ·exact h
end
end Go.Pu
end
section
namespace Go.Pu
open Go.Dn
set_option linter.unusedSimpArgs false
set_option linter.unusedVariables false
noncomputable section
theorem Uy {s:Bytes}{a:Int}(h0:0≤a)(h:a+2≤(s.length:Int)):0≤mO s a∧mO s a≤65535:=by
 have h1:=bD s a.toNat;have h2:=bD s (a.toNat+1)
 unfold mO bG
 rw [decide_eq_true ⟨h0,h⟩]
 simp only [cond_true];omega
theorem Uz {s:Bytes}{a:Int}(h0:0≤a)(h:a+4≤(s.length:Int)):0≤cX s a∧cX s a≤4294967295:=by
 have h1:=bD s a.toNat;have h2:=bD s (a.toNat+1);have h3:=bD s (a.toNat+2);have h4:=bD s (a.toNat+3)
 unfold cX bG
 rw [decide_eq_true ⟨h0,h⟩]
 simp only [cond_true];omega
theorem aat {x y:Int}(hx:0≤x∧x≤65535)(hy:0≤y∧y≤4294967295):IntKind.wrap .i64 (BitVec.toNat (BitVec.ofInt (IntKind.bits .i64) (IntKind.wrap .i64 (x*2^(min (Int.toNat 32) (IntKind.bits .i64))))|||BitVec.ofInt (IntKind.bits .i64) y))=x*4294967296+y:=by
 have e:(2:Int)^(min (Int.toNat 32) (IntKind.bits .i64))=4294967296:=rfl
 obtain ⟨x,rfl⟩:=Int.eq_ofNat_of_zero_le hx.1
 obtain ⟨y,rfl⟩:=Int.eq_ofNat_of_zero_le hy.1
 rw [e,wrap64 (n:=(x:Int)*4294967296) (by omega) (by omega),show (x:Int)*4294967296=((2^32*x:Nat):Int) by omega,Bw x 32 y (by omega) (by omega)]
 omega
theorem XX {x y:Int}(hx:0≤x∧x≤65535)(hy:0≤y∧y≤4294967295):IntKind.wrap .i64 (IntKind.wrap .i64 (x*2^(min (Int.toNat 32) (IntKind.bits .i64)))+y)=x*4294967296+y:=by
 have e:(2:Int)^(min (Int.toNat 32) (IntKind.bits .i64))=4294967296:=rfl
 rw [e,wrap64 (n:=x*4294967296) (by omega) (by omega),wrap64 (by omega) (by omega)]
theorem X5 {α:Type}{l:List α}{n:Int}(h0:0≤n)(h1:n≤(l.length:Int)):sub l 0 n=some (l.take n.toNat):=by
 unfold sub;rw [if_pos (by omega)];simp
theorem X3 {α:Type}{l:List α}(k:Nat)(h:k≤l.length){a:Int}(ha:a=(k:Int)):sub l a (l.length:Int)=some (l.drop k):=by
 unfold sub;rw [if_pos (by omega)];subst ha;simp
theorem X4 {α:Type}{l:List α}(k:Nat){a n:Int}(ha:a=(k:Int))(h0:a≤n)(h1:n≤(l.length:Int)):sub l a n=some ((l.take n.toNat).drop k):=by
 unfold sub;rw [if_pos (by omega)];subst ha;simp
def I1 (s:Bytes):Bytes×Bool:=bif decide ((s.length:Int)<4) then ([],false) else bif Hd (s.take ((s.length:Int)-4).toNat)==s then (s.take ((s.length:Int)-4).toNat,true) else ([],false)
def acs (s:Bytes)(a:Int):Int:=mO s a*4294967296+cX s (a+2)
theorem aam {s:Bytes}{i:Nat}(h:i<s.length){a:Int}(ha:a=(i:Int)){R:Type}(k:Int→Option R):(aa (idx s a) fun x=>k (IntKind.wrap .i64 (x.toNat:Int)))=k (dx s i:Int):=by
 have:=pS s[i]
 rw [ha,aC h,ab,lu (by omega),dx,bl h]
def acx:jh:=(0,0,0,0,0,0,0,([]:Bytes))
def acy (k:Int)(s:Bytes):jh:=(k,mO s 0,mO s 2,cX s 4,cX s 8,(dx s 13:Int),mO s 14,s.drop 20)
def acz (k:Int)(s:Bytes):jh:=(k,mO s 0,mO s 2,0,0,0,0,s.drop 8)
def pk0:bH:=(0,0,0,0,0,0,0,0,0,0,0,0,0,0,0,([]:Bytes))
theorem On (s:Bytes):(I1 s).1.length≤s.length:=by
 unfold I1
 cases decide ((s.length:Int)<4) with|true=>simp|false=> ?_
 cases Hd (s.take ((s.length:Int)-4).toNat)==s with
 |false=>simp
 |true=>simp;omega
end
end Go.Pu
end
section
namespace Go.Pu
open Go.Dn
set_option linter.unusedSimpArgs false
noncomputable section
def AQ {α:Type}(a b:α):Bool:= @decide (a=b) (Classical.propDecidable _)
theorem rX {α:Type}{a b:α}:AQ a b=true↔a=b:=by unfold AQ;exact @decide_eq_true_iff _ (Classical.propDecidable _)
theorem AR {α:Type}{a b:α}{x:Bool}(h:x=true↔a=b):x=AQ a b:=by rw [Bool.eq_iff_iff,rX];exact h
theorem acw {α:Type}[BEq α][LawfulBEq α](a b:α):(a==b)=AQ a b:=AR beq_iff_eq
theorem Ja {α β:Type}(a b:α)(c d:β):AQ (a,c) (b,d)=(AQ a b&&AQ c d):=by
 rw [Bool.eq_iff_iff];simp only [Bool.and_eq_true,rX,Prod.mk.injEq]
theorem Uf {α β:Type}(a b:α×β):AQ a b=(AQ a.1 b.1&&AQ a.2 b.2):=Ja a.1 b.1 a.2 b.2
theorem Jb {α:Type}{a b:α}(h:a=b):AQ a b=true:=rX.2 h
theorem Ho {α:Type}{a b:α}(h:¬a=b):AQ a b=false:=by rw [Bool.eq_false_iff,ne_eq,rX];exact h
theorem Jk {α R:Type}{T:(Int→Option R)→Int→Option R}{fin hit:Option R}(p:α→α→Bool)(hp:∀x y,p x y=true↔x=y)(a b:List α)(hl:a.length=b.length)(h:a.length≤1000000000)
 (hs:∀i (hi:i<a.length) nx,T nx (i:Int)=cond (!(p a[i] (b[i]'(hl▸hi)))) hit (nx ((i+1:Nat):Int))) (hf:∀nx,T nx (a.length:Int)=fin):
 aj T fuel 0=cond (AQ a b) fin hit:=by
 have hq:∀i,i<a.length→i<b.length:=fun i hi=>hl▸hi
 rw [eB (fin:=fin) (hit:=hit) (fun i=>AQ a[i]? b[i]?) a.length (by omega) ?hs hf]
 case hs=>
  intro i nx hi
  rw [hs i hi,List.getElem?_eq_getElem hi,List.getElem?_eq_getElem (hq i hi)]
  have:p a[i] (b[i]'(hq i hi))=AQ (some a[i]) (some (b[i]'(hq i hi))):=AR (by rw [hp,Option.some.injEq])
  rw [this]
 congr 1
 apply AR
 rw [List.all_eq_true]
 constructor
 ·intro k
  apply List.ext_getElem?
  intro i
  by_cases hi:i<a.length
  ·exact rX.1 (k i (List.mem_range.2 hi))
  ·rw [List.getElem?_eq_none (by omega),List.getElem?_eq_none (by omega)]
 ·rintro rfl i _;exact Jb rfl
theorem XR {α:Type}{T:(Int→Option Bool)→Int→Option Bool}(p:α→α→Bool)(hp:∀x y,p x y=true↔x=y)(a b:List α)(h:a.length≤1000000000)
 (hs:a.length=b.length→∀i (hi:i<a.length)(hi':i<b.length) nx,T nx (i:Int)=cond (!(p a[i] b[i])) (some false) (nx ((i+1:Nat):Int))) (hf:∀nx,T nx (a.length:Int)=some true):
 cond ((a.length:Int) !=(b.length:Int)) (some false) (aj T fuel 0)=some (AQ a b):=by
 by_cases hl:a.length=b.length
 ·rw [Jk p hp a b hl h (fun i hi nx=>hs hl i hi (hl▸hi) nx) hf]
  rw [show ((a.length:Int) !=(b.length:Int))=false by simp [hl]]
  cases AQ a b<;>rfl
 ·rw [Ho (fun e=>hl (by rw [e]))]
  rw [show ((a.length:Int) !=(b.length:Int))=true by simp;omega]
  rfl
end
end Go.Pu
end
section
namespace Go.Pu
open Go.Dn
set_option linter.unusedSimpArgs false
set_option linter.unusedVariables false
noncomputable section
theorem vy (l:List Bytes)(h:l.length≤1000000000):dk l=some l:=by
 simp only [dk,k6 h,List.nil_append]
theorem rj (f:Filter)(h:f.2.2.length≤1000000000):fF f=some f:=by
 simp only [fF,ov _ h,ab]
theorem rH (f:Filter)(h:f.2.2.length≤1000000000):ll f=some f:=by
 simp only [ll,k6 h,List.nil_append]
theorem yw (t:List Slot)(h:t.length≤1000000000):kv t=some t:=by
 simp only [kv,k6 h,List.nil_append]
theorem xi (s:c9)(h:s.2.length≤1000000000):jr s=some s:=by
 simp only [jr,ov _ h,ab]
theorem yv (s:aD)(h1:s.1.length≤1000000000)(h2:s.2.1.length≤1000000000)(h3:s.2.2.2.length≤1000000000):gp s=some s:=by
 simp only [gp,k6 h1,yw _ h2,xi _ h3,ab,List.nil_append]
theorem yK (t:List Slot)(h:t.length≤1000000000):nf t=some t:=by
 simp only [nf,k6 h,List.nil_append]
theorem yJ (s:aD)(h1:s.1.length≤1000000000)(h2:s.2.1.length≤1000000000)(h3:s.2.2.2.length≤1000000000):nh s=some s:=by
 simp only [nh,k6 h1,yK _ h2,k6 h3,ab,List.nil_append]
theorem RB (l:List fZ)(i:Nat)(hi:i<l.length):l.take i++[(l[i].1,l[i].2.1,l[i].2.2)]=l.take (i+1):=(List.take_succ_eq_append_getElem hi).symm
structure Yi (t:mP):Prop where
 p:t.2.1.2.2.2.length≤1000000000
 w:t.2.2.1.length≤1000000000
 x:∀x∈t.2.2.1,x.2.2.length≤1000000000
theorem acr {h:Host}(z:aH 1000000000 bB h):Yi h.2.2.1:=⟨z.2.2.1.2.1.2.2.2.1,z.2.2.1.2.2.1.1,fun x hx=>(z.2.2.1.2.2.1.2 x hx).2.2.1⟩
theorem Gf:∀l:List fZ,(bK l).length≤mi (.sl df) l
 |[]=>by simp [bK]
 |x::l=>by
  have:=Gf l
  simp only [bK,mi,List.flatMap_cons,List.length_append,List.map_cons,List.sum_cons,List.length_cons] at this⊢
  omega
theorem HA {h:Host}(z:aH 1000000000 bB h)(k:mi iK h.2.2.1≤500000000):Em h:=by
 have hb:=Gf h.2.2.1.2.2.1
 have hp:h.2.2.1.2.1.2.2.2.length≤mi iK h.2.2.1:=by simp only [mi];omega
 have hw:mi (.sl df) h.2.2.1.2.2.1≤mi iK h.2.2.1:=by simp only [mi];omega
 exact ⟨z.1.1,z.2.1.1,z.2.2.1.2.2.1.1,by omega,z.2.2.2.2.2.2.2.1.2.2.1,z.2.2.2.2.2.2.2.2.1.1.1,z.2.2.2.2.2.2.2.2.1.2.1.1,z.2.2.2.2.2.2.2.2.1.2.2.2.1,fun p hp=>(z.2.2.2.2.1.2 p hp).2.2.2.1⟩
theorem UC {h:Host}(k:mi bB h≤1048576):Em h:=by
 refine HA ((qy (n:=1048576) (by omega)).mono (by omega)) ?_
 have:mi iK h.2.2.1≤mi bB h:=by simp only [mi];omega
 omega
end
end Go.Pu
end
section
namespace Go.Pu
open Go.Dn
end Go.Pu
end
section
namespace Go.Pu
open Go.Dn
set_option linter.unusedSimpArgs false
set_option linter.unusedVariables false
noncomputable section
def atF (f:Int×Int×Int×Int×Int)(s:Stream):Bool:=decide (s.1=f)
def acA (l:List Stream)(f:Int×Int×Int×Int×Int):Int:=match l.findIdx? (atF f) with|some i=>(i:Int)|none=> -1
def F1:Stream:=((0,0,0,0,0),0,([]:Bytes),false)
def body (p:bH):Bytes:=p.2.2.2.2.2.2.2.2.2.2.2.2.2.2.2
def XI (p:bH):Bytes:=dZ ((body p).length:Int)++body p
def Ez (p:bH)(b:Int):Bool:=IntKind.wrap .i64 (BitVec.toNat (BitVec.ofInt (IntKind.bits .i64) p.2.2.2.2.2.2.2.2.2.2.2.2.2.1&&&BitVec.ofInt (IntKind.bits .i64) b)) !=0
def sS (s:Stream)(p:bH):Int:=(s.2.1-p.2.2.2.2.2.2.2.2.2.2.2.1)%4294967296
def acu (p:bH)(r:Int):Bytes:=((body p).take (body p).length).drop r.toNat
def XH (s:Stream)(p:bH):Stream:=(s.1,(s.2.1+((body p).length:Int)-sS s p)%4294967296,s.2.2.1++(body p).drop (sS s p).toNat,Ez p 1)
def CE (l:List Stream)(p:bH):List Stream:=
 bif !od p then l else
 match l.findIdx? (atF (uE p)) with
 |none=>
  bif p.2.2.2.2.2.2.2.2.1==17 then l++[(uE p,0,XI p,false)] else
  bif Ez p 2 then l++[(uE p,Int.tmod (IntKind.wrap .i64 (p.2.2.2.2.2.2.2.2.2.2.2.1+1)) 4294967296,([]:Bytes),false)] else l
 |some i=>
  bif p.2.2.2.2.2.2.2.2.1==17 then l.set i ((l.getD i F1).1,(l.getD i F1).2.1,(l.getD i F1).2.2.1++XI p,(l.getD i F1).2.2.2) else
  bif Ez p 2 then l else
  bif (l.getD i F1).2.2.2||Ez p 4 then l else
  bif decide (sS (l.getD i F1) p≤((body p).length:Int)) then l.set i (XH (l.getD i F1) p) else l
theorem SK (s:Stream)(p:bH):0≤sS s p∧sS s p<4294967296:=by unfold sS;omega
theorem aau (x:Int):IntKind.wrap .i64 (BitVec.toNat (BitVec.ofInt (IntKind.bits .i64) x&&&BitVec.ofInt (IntKind.bits .i64) 4294967295))=x%4294967296:=by
 have:=qX x 32 (by omega)
 rw [show ((2:Int)^32-1)=4294967295 from rfl,show ((2:Int)^32)=4294967296 from rfl] at this
 rw [this,wrap64 (by omega) (by omega)]
theorem acv (x:Int):IntKind.wrap .i64 x%4294967296=x%4294967296:=by
 have:=pN x 32 (by omega)
 rwa [show ((2:Int)^32)=4294967296 from rfl] at this
theorem MX {α:Type}(l:List α)(x y:α):(l++[x]).set l.length y=l++[y]:=by
 rw [List.set_append_right _ _ (Nat.le_refl _),Nat.sub_self,List.set_cons_zero]
theorem XV {α:Type}{l:List α}{i:Nat}(h:i<l.length)(x:α):idx (l.set i x) (i:Int)=some x:=by
 rw [vM,List.getElem?_set_self h]
theorem Mz {α:Type}(l:List α)(x:α):idx (l++[x]) (l.length:Int)=some x:=by
 rw [vM,List.getElem?_append_right (Nat.le_refl _),Nat.sub_self];rfl
theorem IV {p:bH}(h:od p=true):(body p).length≤320:=yd h
theorem Ml {l:List Stream}{p:bH}{n:Nat}(h:aH n (.sl bd) l):aH (n+322) (.sl bd) (CE l p):=by
 have h':aH (n+322) (.sl bd) l:=h.mono (by omega)
 unfold CE
 cases hs:od p with|false=>exact h'|true=> ?_
 have hb:=IV hs
 have hw:=cv ((body p).length:Int)
 have hu:(XI p).length≤322:=by simp only [XI,List.length_append];omega
 simp only [Bool.not_true,cond_false]
 have app:∀x:Stream,x.2.2.1.length≤n+322→aH (n+322) (.sl bd) (l++[x]):=by
  intro x hx
  refine ⟨?_,fun y hy=> ?_⟩
  ·have:l.length≤n:=h.1
   simp only [List.length_append,List.length_singleton];omega
  ·rcases List.mem_append.1 hy with g|g
   ·exact h'.2 y g
   ·rw [List.mem_singleton.1 g];exact ⟨⟨trivial,trivial,trivial,trivial,trivial⟩,trivial,hx,trivial⟩
 have put:∀(i:Nat)(x:Stream),x.2.2.1.length≤n+322→aH (n+322) (.sl bd) (l.set i x):=by
  intro i x hx
  refine ⟨?_,fun y hy=> ?_⟩
  ·show (l.set i x).length≤_
   rw [List.length_set];exact h'.1
  ·rcases List.mem_or_eq_of_mem_set hy with g|rfl
   ·exact h'.2 y g
   ·exact ⟨⟨trivial,trivial,trivial,trivial,trivial⟩,trivial,hx,trivial⟩
 split
 ·cases p.2.2.2.2.2.2.2.2.1==17 with
  |true=>exact app _ (show (XI p).length≤_ by omega)
  |false=>
   cases Ez p 2 with
   |true=>exact app _ (Nat.zero_le _)
   |false=>exact h'
 ·rename_i i hf
  obtain ⟨hi,_⟩:=List.findIdx?_eq_some_iff_getElem.1 hf
  have hd:(l[i].2.2.1).length≤n:=(h.2 _ (List.getElem_mem hi)).2.2.1
  simp only [bl hi]
  cases p.2.2.2.2.2.2.2.2.1==17 with
  |true=>exact put _ _ (by simp only [List.length_append];omega)
  |false=>
   cases Ez p 2 with|true=>exact h'|false=> ?_
   cases l[i].2.2.2||Ez p 4 with|true=>exact h'|false=> ?_
   cases decide (sS l[i] p≤((body p).length:Int)) with
   |false=>exact h'
   |true=>exact put _ _ (by simp only [XH,List.length_append,List.length_drop];omega)
end
end Go.Pu
end
section
namespace Go.Pu
open Go.Dn
set_option linter.unusedSimpArgs false
set_option linter.unusedVariables false
noncomputable section
theorem XP (p:aY)(i:Int):wc p i= -1∨(0≤wc p i∧wc p i≤200000):=by
 unfold wc
 cases hp:c8 p with|false=>exact .inl rfl|true=> ?_
 cases hi:bp i 0 (p.2.2.1-1) with|false=>exact .inl rfl|true=> ?_
 have h:=sn hp
 have h2:=bf.1 hi
 have h3:0≤i*p.2.1:=Int.mul_nonneg h2.1 (by omega)
 have h4:i*p.2.1≤16*512:=Int.mul_le_mul (by omega) (by omega) (by omega) (by omega)
 simp only [Bool.not_true,Bool.or_self,cond_false]
 exact .inr (by omega)
structure Yh (n:Nat) (s:List Stream×bg×aY):Prop where
 st:aH n (.sl bd) s.1
 pl:s.2.2.2.2.2.length≤n
theorem UA (p:aY)(l:List Int):(Mw p l).1.2.2.2.length≤p.2.2.2.length+l.length:=by
 unfold Mw
 cases tH p l with
 |false=>show p.2.2.2.length≤_;omega
 |true=>simp [BA]
end
end Go.Pu
end
section
namespace Go.Pu
open Go.Dn
set_option linter.unusedSimpArgs false
set_option linter.unusedVariables false
noncomputable section
def cx (i:Nat):Int:=1280+(i:Int)*1792
theorem Gb {i:Nat}(h:i≤8):IntKind.wrap .i64 (1280+IntKind.wrap .i64 ((i:Int)*1792))=cx i:=by
 rw [wrap64 (n:=(i:Int)*1792) (by omega) (by omega),wrap64 (by omega) (by omega)];rfl
theorem JA (i:Nat)(h:i≤8):oA (i:Int)=some (cx i):=by rw [oA,Gb h]
theorem kY (a b n:Int)(h:n≤1000):(cD a b n).1.2.2.2.length≤1000:=by
 unfold cD
 cases c8 (a,b,n,[]) with
 |false=>simp
 |true=>simp [upto];omega
def vm (i:Nat):bg:=((cx i,4,0,0),(cx i+64,4,0),(cx i+64,4,0),((0,0,0,0,0,0,0,0,0,0,0,0,0,0,0,([]:Bytes)),0,0),false,0)
theorem HK (i:Nat)(h:i≤8):nI (i:Int)=some (vm i,(cD (cx i+128) 384 4).1):=by
 have hb:cx i=1280+(i:Int)*1792:=rfl
 simp only [nI,JA i h,ab]
 rw [wrap64 (n:=cx i+128) (by omega) (by omega),wrap64 (n:=cx i+64) (by omega) (by omega),vd];rfl
def Eh:mP:=((0,16,0,0),(cD 256 128 8).1,([]:List fZ),0)
theorem HO:p9=some Eh:=by rw [p9,vd];rfl
theorem IB:mh=some Eh:=by rw [mh,vn];rfl
def xD (l:List ai)(m:List Bytes)(i:Nat):List Bytes×(Int×Int×Int×Int)×aY×Int:=
 qJ l (lA l m 0 (cx i) (mG 128) false).1 0 (cx i,4,0,0) (cD (cx i+128) 384 4).1
def DC (h:Host)(i:Nat):Host:=
 ((xD h.2.1 h.1 i).1,h.2.1,h.2.2.1,h.2.2.2.1.set i ((xD h.2.1 h.1 i).2.1,(cx i+64,4,0),(cx i+64,4,0),((0,0,0,0,0,0,0,0,0,0,0,0,0,0,0,([]:Bytes)),0,0),false,(match h.2.2.2.1[i]? with|some x=>x.2.2.2.2.2|none=>0)),h.2.2.2.2.1.set i (xD h.2.1 h.1 i).2.2.1,h.2.2.2.2.2)
theorem KB (h:Host)(i:Nat)(hi:i≤8)(h1:i<h.2.2.2.1.length)(h2:i<h.2.2.2.2.1.length)(hl:h.2.1.length≤1000000000)(hm:h.1.length≤1000000000):nm h (i:Int)=some ((),DC h i):=by
 have hb:cx i=1280+(i:Int)*1792:=rfl
 have hz:fC 128 0=some (mG 128):=DX 128 (by omega)
 have hf:=Kw h.2.1 (lA h.2.1 h.1 0 (cx i) (mG 128) false).1 0 (cx i,4,0,0) (cD (cx i+128) 384 4).1 hl (by rw [DL];exact hm) (Nat.le_trans (kY (cx i+128) 384 4 (by omega)) (by omega))
 unfold nm
 simp only [Gb hi]
 rw [wrap64 (n:=cx i+128) (by omega) (by omega),wrap64 (n:=cx i+64) (by omega) (by omega),vn,hz]
 simp only [aC h1,aC h2,ab,yL h.2.1 h.1 0 (cx i) (mG 128) hl hm (by omega),hf,Int.toNat_natCast,DC,xD,List.getElem?_eq_getElem h1]
end
end Go.Pu
end
section
namespace Go.Pu
open Go.Dn
set_option linter.unusedSimpArgs false
set_option linter.unusedVariables false
noncomputable section
theorem Dd {n:Nat}{t:CT}{l:List t.D}{i:Nat}{x:t.D}(z:aH n (.sl t) l)(hx:aH n t x):aH n (.sl t) (l.set i x):=by
 refine ⟨?_,fun y hy=> ?_⟩
 ·show (l.set i x).length≤n
  rw [List.length_set];exact z.1
 ·rcases List.mem_or_eq_of_mem_set hy with h|h
  ·exact z.2 y h
  ·rw [h];exact hx
theorem V1 {n k:Nat}{t:CT}{l q:List t.D}(z:aH n (.sl t) l)(hq:aH n (.sl t) q)(hk:q.length≤k):aH (n+k) (.sl t) (l++q):=by
 refine ⟨?_,fun y hy=> ?_⟩
 ·show (l++q).length≤n+k
  have:=z.1
  rw [List.length_append];omega
 ·rcases List.mem_append.1 hy with h|h
  ·exact (z.2 y h).mono (by omega)
  ·exact (hq.2 y h).mono (by omega)
theorem Ik {n:Nat}(hn:128≤n){m:List Bytes}(h:oZ m):aH n (.sl .str) m:=
 ⟨Nat.le_trans h.2 (by omega),fun x hx=>Nat.le_trans (Nat.le_of_eq (h.1 x hx)) hn⟩
theorem El {n:Nat}(hn:128≤n){m:List Bytes}(z:aH n (.sl .str) m)(a:Int)(s:Bytes):aH n (.sl .str) (iC m a s).1:=by
 unfold iC
 cases hw:cq m a (s.length:Int) with|false=>exact z|true=> ?_
 simp only [cq,Bool.and_eq_true,decide_eq_true_eq] at hw
 exact Ik hn (qD s.length (pF.1 hw.1) (by omega)).1
theorem DK {n:Nat}(hn:128≤n):∀(q:List (Int×Int)){m:List Bytes}(s:Bytes),aH n (.sl .str) m→aH n (.sl .str) (xL q m s)
 |[],m,s,z=>z
 |p::q,m,s,z=>DK hn q _ (El hn z _ _)
theorem DM {n:Nat}(hn:128≤n){m:List Bytes}(z:aH n (.sl .str) m)(l:List ai)(d a:Int)(s:Bytes)(w:Bool):aH n (.sl .str) (lA l m d a s w).1:=by
 unfold lA
 cases (ed l m d a (s.length:Int) w).2 with
 |false=>exact z
 |true=>exact DK hn _ _ z
theorem BE {n:Nat}(hn:128≤n){m:List Bytes}(z:aH n (.sl .str) m)(l:List ai)(d:Int)(r:Int×Int×Int×Int)(s:Bytes):aH n (.sl .str) (a6 l m d r s).1:=by
 unfold a6
 cases (lr r==0)||((s.length:Int) !=16) with|true=>exact z|false=> ?_
 cases (lA l m d (n6 r r.2.2.2) s true).2 with
 |false=>exact z
 |true=>exact DM hn z ..
theorem zc {n:Nat}(hn:128≤n)(l:List ai)(d:Int)(p:aY):∀(q:List Int){m:List Bytes}(r:Int×Int×Int×Int),aH n (.sl .str) m→aH n (.sl .str) (fD l d p q m r).2.1
 |[],m,r,z=>z
 |b::q,m,r,z=>by
  rw [fD]
  cases (a6 l m d r (descOf p b)).2.2 with
  |false=>exact z
  |true=>exact zc hn l d p q _ (BE hn z ..)
theorem zd {n:Nat}(hn:128≤n){m:List Bytes}(z:aH n (.sl .str) m)(l:List ai)(d:Int)(r:Int×Int×Int×Int)(p:aY):aH n (.sl .str) (qJ l m d r p).1:=by
 unfold qJ
 cases !eR r|| !c8 p with
 |true=>exact z
 |false=>exact zc hn _ _ _ _ _ z
theorem XT (l:List ai)(m:List Bytes)(d:Int)(r:Int×Int×Int×Int)(p:aY):(qJ l m d r p).1.length=m.length:=by
 unfold qJ
 cases !eR r|| !c8 p with
 |true=>rfl
 |false=>exact (uA ..).1
theorem xa (l:List ai)(m:List Bytes)(d:Int)(r:Int×Int×Int×Int)(p:aY):(qJ l m d r p).2.2.1.2.2.2.length≤p.2.2.2.length:=by
 unfold qJ
 cases !eR r|| !c8 p with
 |true=>exact Nat.le_refl _
 |false=>show (p.2.2.2.drop _).length≤_;rw [List.length_drop];omega
theorem Rq {n:Nat}(hn:1000≤n){h:Host}(i:Nat)(z:aH n bB h):aH n bB (DC h i):=by
 unfold DC xD
 have h4:=kY (cx i+128) 384 4 (by omega)
 have hf:=xa h.2.1 (lA h.2.1 h.1 0 (cx i) (mG 128) false).1 0 (cx i,4,0,0) (cD (cx i+128) 384 4).1
 refine ⟨zd (by omega) (DM (by omega) z.1 ..) ..,z.2.1,z.2.2.1,Dd z.2.2.2.1 ?_,Dd z.2.2.2.2.1 ?_,z.2.2.2.2.2⟩
 ·refine ⟨⟨trivial,trivial,trivial,trivial⟩,⟨trivial,trivial,trivial⟩,⟨trivial,trivial,trivial⟩,⟨⟨trivial,trivial,trivial,trivial,trivial,trivial,trivial,trivial,trivial,trivial,trivial,trivial,trivial,trivial,trivial, ?_⟩,trivial,trivial⟩,trivial,trivial⟩
  exact Nat.zero_le _
 ·exact ⟨trivial,trivial,trivial,by show List.length _≤_;omega,fun _ _=>trivial⟩
end
end Go.Pu
end
section
namespace Go.Pu
open Go.Dn
set_option linter.unusedSimpArgs false
set_option linter.unusedVariables false
noncomputable section
def Ul:au:=(0,0,(0,0,0),false,0,0)
def ot (b:Int×Int×Int):Bool:=bp b.1 0 10000&&(bp b.2.1 0 100000&&bp b.2.2 0 b.2.1)
def Uj (n:Int)(f:au):Bool:=bp f.1 0 7&&(bp f.2.1 1 (IntKind.wrap .i64 (n-1))&&(ot f.2.2.1&&(bp f.2.2.2.2.1 0 1000000000000&&bp f.2.2.2.2.2 0 1000000000000)))
def Zv (f g:au):Bool:=(g.1==f.1)||(g.2.1==f.2.1)
def fnB (l:List au)(n:Int)(i:Nat):Bool:=Uj n (l.getD i Ul)&&(List.range i).all (fun j=> !(Zv (l.getD i Ul) (l.getD j Ul)))
def EZ (l:List au)(ps:List Port):Bool:=lz ps&&(List.range l.length).all (fnB l (ps.length:Int))
theorem xT (b:Int×Int×Int):l9 b=some (ot b):=by
 simp only [l9,bc,ab,aN,cF,ot]
theorem E3 (b:Int×Int×Int):oT b=some (ot b):=xT b
def Q7 (l:List au)(i:Nat):Bool:=((l.getD i Ul).1==(i:Int))&&((l.getD i Ul).2.1==(i:Int)+1)
theorem xe:∀(ms:List ar)(i:Nat)(s:List Int×List Port),B2 i s→ms.all jY=true→B2 (i+ms.length) (ms.foldl sM s)
 |[],i,s,h,_=>h
 |m::ms,i,s,h,hm=>by
  rw [List.all_cons,Bool.and_eq_true] at hm
  have hu:=pM m.1.2.2 s.1
  have hl:=pt hm.1
  have:=xe ms (i+1) (sM s m) (h.port hm.1 _ (by omega)) hm.2
  rw [List.foldl_cons,List.length_cons,show i+(ms.length+1)=i+1+ms.length by omega]
  exact this
theorem rD {ms:List ar}(h:(ga ms).2=true):ms.length≤3:=by
 unfold ga at h
 cases hq:bp (ms.length:Int) 1 3&&(ms.all jY&&lz (oL ms)) with
 |false=>rw [hq] at h;cases h
 |true=>
  simp only [Bool.and_eq_true] at hq
  have:=bf.1 hq.1
  omega
theorem Rs (ms:List ar):(ga ms).1.length≤1000000000∧∀p∈(ga ms).1,p.2.1.length≤1000000000:=by
 unfold ga
 cases hc:bp (ms.length:Int) 1 3&&(ms.all jY&&lz (oL ms)) with
 |false=>exact ⟨by simp,by simp⟩
 |true=>
  simp only [Bool.and_eq_true,bf] at hc
  have:=xe ms 0 ([0],[]) ⟨by simp,rfl,by simp⟩ hc.2.1
  rw [Nat.zero_add] at this
  exact rA this (by omega)
theorem Rr (ms:List ar):(ga ms).1.length≤4∧∀p∈(ga ms).1,p.2.1.length≤28:=by
 unfold ga
 cases hc:bp (ms.length:Int) 1 3&&(ms.all jY&&lz (oL ms)) with
 |false=>exact ⟨by simp,by simp⟩
 |true=>
  simp only [Bool.and_eq_true,bf] at hc
  have h:=xe ms 0 ([0],[]) ⟨by simp,rfl,by simp⟩ hc.2.1
  rw [Nat.zero_add] at h
  have h1:=h.1
  have h2:=h.2.1
  simp only [cond_true,oL]
  refine ⟨by simp only [List.length_cons];omega,fun p hp=> ?_⟩
  rcases List.mem_cons.1 hp with rfl|hp
  ·simp only;omega
  ·have:=h.2.2 p hp;omega
end
end Go.Pu
end
