import Derived.Test.YtgilglpncgncjaaGreatDnData
import Derived.Test.YtgilglpncgncjaaGreatPure
section
/- Plain laws of the partial operations and of loops. -/
namespace Go.Pu
open Go.Dn
theorem wrap64 {n:Int}(h1: -9223372036854775808≤n)(h2:n≤9223372036854775807):IntKind.wrap .i64 n=n:=by
 simp only [IntKind.wrap,IntKind.bits,IntKind.signed]
 simp
 omega
@[simp] theorem ab {α R:Type}(a:α)(k:α→Option R):aa (some a) k=k a:=rfl
@[simp] theorem YU {α R:Type}(k:α→Option R):aa none k=none:=rfl
@[simp] theorem wq {α R:Type}(c:Bool)(x y:α)(k:α→Option R):aa (cond c (some x) (some y)) k=k (cond c x y):=by cases c<;>rfl
theorem az {α:Type}(c:Bool)(x y:α):cond c (some x) (some y)=some (cond c x y):=by cases c<;>rfl
theorem aq {R:Type}{n:Nat}{k:Option R}(h:n≤1073741824):room n k=k:=by simp [room,h]
theorem Py {α:Type}(xs:List α)(i:Nat):idx xs (i:Int)=xs[i]?:=rfl
theorem ay {α:Type}{xs:List α}{i:Nat}(h:i<xs.length):idx xs (i:Int)=some xs[i]:=by rw [Py];exact List.getElem?_eq_getElem h
def Wr {σ R:Type}(step:Nat→σ→(σ→Option R)→Option R)(fin:σ→Option R)(N:Nat):Nat→Nat→σ→Option R
 |0,_,s=>fin s
 |n+1,i,s=>step i s (fun s'=>Wr step fin N n (i+1) s')
theorem xP {X σ R:Type}{T:(X→Option R)→X→Option R}(N:Nat)(e:σ→Nat→X)(step:Nat→σ→(σ→Option R)→Option R)(fin:σ→Option R)
 (hs:∀i s nx,i<N→T nx (e s i)=step i s (fun s'=>nx (e s' (i+1)))) (hf:∀s nx,T nx (e s N)=fin s):
 ∀n i s,i≤N→N-i<n→ar T n (e s i)=Wr step fin N (N-i) i s:=by
 intro n
 induction n with
 |zero=>intro i s _ h;omega
 |succ n ih=>
  intro i s hi hn
  rw [ar]
  rcases Nat.lt_or_ge i N with hlt|hge
  ·rw [hs i s _ hlt,show N-i=(N-(i+1))+1 by omega,Wr]
   congr 1
   funext s'
   exact ih (i+1) s' (by omega) (by omega)
  ·have:i=N:=by omega
   subst this
   rw [hf,Nat.sub_self,Wr]
def nn {α σ R:Type}(step:α→σ→(σ→Option R)→Option R)(fin:σ→Option R):List α→σ→Option R
 |[],s=>fin s
 |x::xs,s=>step x s (nn step fin xs)
theorem pE {α X σ R:Type}{T:(X→Option R)→X→Option R}(xs:List α)(e:σ→Nat→X)(step:α→σ→(σ→Option R)→Option R)(fin:σ→Option R)
 (hs:∀i (h:i<xs.length) s nx,T nx (e s i)=step xs[i] s (fun s'=>nx (e s' (i+1)))) (hf:∀s nx,T nx (e s xs.length)=fin s):
 ∀n i s,i≤xs.length→xs.length-i<n→ar T n (e s i)=nn step fin (xs.drop i) s:=by
 intro n
 induction n with
 |zero=>intro i s _ h;omega
 |succ n ih=>
  intro i s hi hn
  rw [ar]
  rcases Nat.lt_or_ge i xs.length with hlt|hge
  ·rw [hs i hlt s _,List.drop_eq_getElem_cons hlt,nn]
   congr 1
   funext s'
   exact ih (i+1) s' (by omega) (by omega)
  ·have:i=xs.length:=by omega
   subst this
   rw [hf,List.drop_length,nn]
def dV:(t:CT)→t.D→Nat
 | .int _,_=>0
 | .bool,_=>0
 | .str,s=>s.length
 | .sl e,xs=>xs.length+(xs.map (dV e)).sum
 | .pair a b,x=>dV a x.1+dV b x.2
def aK (n:Nat):(t:CT)→t.D→Prop
 | .int _,_=>True
 | .bool,_=>True
 | .str,s=>s.length≤n
 | .sl e,xs=>xs.length≤n∧∀x∈xs,aK n e x
 | .pair a b,x=>aK n a x.1∧aK n b x.2
theorem zb {α:Type}(f:α→Nat):∀(xs:List α)(x:α),x∈xs→f x≤(xs.map f).sum
 |y::ys,x,h=>by
  rcases List.mem_cons.1 h with rfl|h
  ·simp
  ·have:=zb f ys x h;simp;omega
theorem ye {n:Nat}:∀{t:CT}{x:t.D},dV t x≤n→aK n t x
 | .int _,_,_=>trivial
 | .bool,_,_=>trivial
 | .str,_,h=>h
 | .sl e,xs,h=>by
   simp only [dV] at h
   exact ⟨by omega,fun x hx=>ye (by have:=zb (dV e) xs x hx;omega)⟩
 | .pair a b,x,h=>by
   simp only [dV] at h
   exact ⟨ye (by omega),ye (by omega)⟩
theorem aK.mono {n m:Nat}(h:n≤m):∀{t:CT}{x:t.D},aK n t x→aK m t x
 | .int _,_,_=>trivial
 | .bool,_,_=>trivial
 | .str,_,k=>Nat.le_trans k h
 | .sl _,_,k=>⟨Nat.le_trans k.1 h,fun x hx=>aK.mono h (k.2 x hx)⟩
 | .pair _ _,_,k=>⟨aK.mono h k.1,aK.mono h k.2⟩
def iz:(t:CT)→t.D→Prop
 | .int k,n=>k.min≤n∧n≤k.max
 | .bool,_=>True
 | .str,s=>s.length≤9223372036854775807
 | .sl e,xs=>xs.length≤9223372036854775807∧∀x∈xs,iz e x
 | .pair a b,x=>iz a x.1∧iz b x.2
def eM (l n:Int):Int:=if n≤l then l-n else-1
def CQ {α β R:Type}(f:α→Option β)(k0:List β→Int→Option R)(v0:List α)(nx:List β×Int→Option R)(x:List β×Int):Option R:=
 cond (decide (x.2<(List.length v0:Int))) (
  aa (idx v0 x.2) fun x1=>
  aa (f x1) fun r2=>
  aa (idx x.1 x.2) fun _=>
  aa (idx x.1 x.2) fun _=>
  nx (List.set x.1 (Int.toNat x.2) r2,IntKind.wrap .i64 (x.2+1))) (
  k0 x.1 x.2)
noncomputable def JT {α β:Type}(f:α→Option β)(z:β)(a0:List α):Option (List β):=
 if 0≤((List.length a0:Int))∧((List.length a0:Int))≤((List.length a0:Int)) then (
 room (Int.toNat ((List.length a0:Int))) (
 ar (CQ f (fun y5 _=>some y5) a0) fuel (List.replicate (Int.toNat ((List.length a0:Int))) z,0))) else none
theorem dW {α:Type}{f:α→Option α}{z:α}{a:List α}(hn:a.length≤1073741824)(hf:∀x∈a,f x=some x):JT f z a=some a:=by
 unfold JT
 have hfu:=bQ
 rw [if_pos (by omega),aq (by simp;omega)]
 have key:=xP (T:=CQ f (fun y5 _=>some y5) a) a.length (fun (_:Unit) i=>(a.take i++List.replicate (a.length-i) z,(i:Int))) (fun _ s k=>k s) (fun _=>some a)
  (fun i s nx hi=>by
   have h1:(a.take i).length=i:=by simp;omega
   have hl:i<(a.take i++List.replicate (a.length-i) z).length:=by simp;omega
   simp only [CQ]
   rw [decide_eq_true (by omega)]
   simp only [cond_true,ay hi,ab,hf _ (List.getElem_mem hi),ay hl]
   congr 1
   refine Prod.ext ?_ (wrap64 (by omega) (by omega))
   simp only [Int.toNat_natCast]
   rw [List.set_append_right _ _ (by omega),h1,Nat.sub_self,List.take_succ_eq_append_getElem hi,show a.length-i=(a.length-(i+1))+1 by omega,List.replicate_succ,List.set_cons_zero,List.append_assoc,List.singleton_append])
  (fun s nx=>by
   simp only [CQ]
   rw [decide_eq_false (by omega)]
   simp)
  fuel 0 () (by omega) (by omega)
 simp only [List.take_zero,List.nil_append,Nat.sub_zero,Int.toNat_natCast] at key⊢
 have e:((0:Nat):Int)=0:=rfl
 rw [e] at key
 rw [key]
 have:∀n i,Wr (R:=List α) (fun _ (s:Unit) k=>k s) (fun _=>some a) a.length n i ()=some a:=by
  intro n
  induction n with
  |zero=>intro i;rfl
  |succ n ih=>intro i;rw [Wr];exact ih _
 exact this _ _
def CP {α R:Type}(f:α→Int→Option Int)(k0:Int→Int→Option R)(k1:Int→Int→Int→Option R)(v0:List α)(nx:Int×Int→Option R)(x:Int×Int):Option R:=
 cond (decide (x.2<((List.length v0:Int)))) (
  aa (idx v0 x.2) fun x1=>
  aa (f x1 x.1) fun r2=>
  cond (decide (r2<0)) (
   k1 r2 (-1) x.2) (
   nx (r2,IntKind.wrap .i64 (x.2+1)))) (
  k0 x.1 x.2)
noncomputable def CO {α:Type}(f:α→Int→Option Int)(a0:List α)(a1:Int):Option Int:=
 cond (decide ((IntKind.wrap .i64 (a1-((List.length a0:Int))))<0)) (
  some (-1)) (
  ar (CP f (fun y3 _=>some y3) (fun _ y6 _=>some y6) a0) fuel (IntKind.wrap .i64 (a1-((List.length a0:Int))),0))
theorem Fq {α:Type}{f:α→Int→Option Int}{s:α→Nat}{a:List α}{l:Int}(h0:0≤l)(h1:l≤1048576)(hm:a.length≤9223372036854775807)
 (hf:∀x∈a,∀l:Int,0≤l→l≤1048576→∃r,f x l=some r∧((s x:Int)≤l→r=l-s x)∧(¬(s x:Int)≤l→r<0)):CO f a l=some (eM l ((a.length+(a.map s).sum:Nat):Int)):=by
 unfold CO
 have hfu:=bQ
 rw [wrap64 (by omega) (by omega)]
 rcases Int.lt_or_le (l-a.length) 0 with hneg|hpos
 ·rw [decide_eq_true hneg]
  simp only [cond_true,eM]
  rw [if_neg (by omega)]
 ·rw [decide_eq_false (by omega)]
  simp only [cond_false]
  have key:=pE (T:=CP f (fun y3 _=>some y3) (fun _ y6 _=>some y6) a) a (fun (q:Int) i=>(q,(i:Int)))
   (fun x q k=>aa (f x q) fun r=>cond (decide (r<0)) (some (-1)) (k r)) (fun q=>some q)
   (fun i hi q nx=>by
    simp only [CP]
    rw [decide_eq_true (by omega)]
    simp only [cond_true,ay hi,ab]
    rw [wrap64 (by omega) (by omega)]
    rfl)
   (fun q nx=>by
    simp only [CP]
    rw [decide_eq_false (by omega)]
    rfl)
   fuel 0 (l-a.length) (by omega) (by omega)
  have e:((0:Nat):Int)=0:=rfl
  rw [e,List.drop_zero] at key
  rw [key]
  have main:∀(b:List α)(q:Int),0≤q→q≤1048576→(∀x∈b,x∈a)→nn (fun x q k=>aa (f x q) fun r=>cond (decide (r<0)) (some (-1)) (k r)) (fun q=>some q) b q=some (eM q ((b.map s).sum:Nat)):=by
   intro b
   induction b with
   |nil=>intro q hq _ _;simp [nn,eM,hq]
   |cons x b ih=>
    intro q hq hq2 hb
    obtain ⟨r,hr,hr1,hr2⟩:=hf x (hb x (by simp)) q hq hq2
    rw [nn,hr,ab]
    by_cases hle:(s x:Int)≤q
    ·have:=hr1 hle
     subst this
     rw [decide_eq_false (by omega)]
     simp only [cond_false]
     rw [ih _ (by omega) (by omega) (fun y hy=>hb y (by simp [hy]))]
     simp only [eM,List.map_cons,List.sum_cons]
     congr 1
     split<;>split<;>omega
    ·rw [decide_eq_true (hr2 hle)]
     simp only [cond_true,eM,List.map_cons,List.sum_cons]
     rw [if_neg (by omega)]
  rw [main a _ (by omega) (by omega) (fun x h=>h)]
  simp only [eM]
  congr 1
  split<;>split<;>omega
def CE {α R:Type}(f:α→α→Option Bool)(k0:Int→Option R)(k1:Bool→Int→Option R)(v0 v1:List α)(nx:Int→Option R)(x:Int):Option R:=
 cond (decide (x<((List.length v0:Int)))) (
  aa (idx v0 x) fun x1=>
  aa (idx v1 x) fun x2=>
  aa (f x1 x2) fun r3=>
  cond (!r3) (
   k1 false x) (
   nx (IntKind.wrap .i64 (x+1)))) (
  k0 x)
noncomputable def IW {α:Type}(f:α→α→Option Bool)(a0 a1:List α):Option Bool:=
 cond (((List.length a0:Int)) !=((List.length a1:Int))) (
  some false) (
  ar (CE f (fun _=>some true) (fun y5 _=>some y5) a0 a1) fuel 0)
theorem cM {α:Type}{f:α→α→Option Bool}{a:List α}(hm:a.length≤1000000000000)(hf:∀x∈a,f x x=some true):IW f a a=some true:=by
 unfold IW
 have hfu:=bQ
 simp only [bne_self_eq_false,cond_false]
 have key:=pE (T:=CE f (fun _=>some true) (fun y5 _=>some y5) a a) a (fun (_:Unit) i=>(i:Int)) (fun x s k=>aa (f x x) fun r=>cond (!r) (some false) (k s)) (fun _=>some true)
  (fun i hi s nx=>by
   simp only [CE]
   rw [decide_eq_true (by omega)]
   simp only [cond_true,ay hi,ab]
   rw [wrap64 (by omega) (by omega)]
   rfl)
  (fun s nx=>by
   simp only [CE]
   rw [decide_eq_false (by omega)]
   rfl)
  fuel 0 () (by omega) (by omega)
 have e:((0:Nat):Int)=0:=rfl
 rw [e,List.drop_zero] at key
 rw [key]
 have main:∀(b:List α),(∀x∈b,x∈a)→nn (fun x s k=>aa (f x x) fun r=>cond (!r) (some false) (k s)) (fun _=>some true) b ()=some true:=by
  intro b
  induction b with
  |nil=>intro _;rfl
  |cons x b ih=>intro hb;rw [nn,hf x (hb x (by simp))];simp only [ab,Bool.not_true,cond_false];exact ih (fun y hy=>hb y (by simp [hy]))
 exact main a (fun x h=>h)
theorem zn {α:Type}{z:α}{a:List α}(hn:a.length≤1073741824):JT some z a=some a:=dW hn (fun _ _=>rfl)
theorem vk {α:Type}[BEq α][LawfulBEq α]{a:List α}(hm:a.length≤1000000000000):IW (fun x y:α=>some (x==y)) a a=some true:=cM hm (fun x _=>by simp)
theorem qY {α:Type}{f:α→Nat}:∀{xs:List α},(∀x∈xs,f x=0)→(xs.map f).sum=0
 |[],_=>rfl
 |x::xs,h=>by
  have:=qY (xs:=xs) (f:=f) (fun y hy=>h y (by simp [hy]))
  simp [h x (by simp),this]
def aW (f:Int→Option Int)(n:Nat):Prop:=∀l:Int,0≤l→l≤1048576→f l=some (eM l n)
theorem aW.nil:aW (fun l=>some l) 0:=fun l h0 _=>by simp [eM,h0]
theorem aW.len {n m:Nat}(hn:n≤9223372036854775807){k:Int→Option Int}(h:aW k m):
 aW (fun l=>cond (decide (IntKind.wrap .i64 (l-(n:Int))<0)) (some (-1)) (k (IntKind.wrap .i64 (l-(n:Int))))) (n+m):=by
 intro l h0 h1
 simp only
 rw [wrap64 (by omega) (by omega)]
 by_cases hl:l-(n:Int)<0
 ·rw [decide_eq_true hl];simp only [cond_true,eM];rw [if_neg (by omega)]
 ·rw [decide_eq_false hl]
  simp only [cond_false]
  rw [h _ (by omega) (by omega)]
  simp only [eM]
  congr 1
  split<;>split<;>omega
theorem aW.sub {f k:Int→Option Int}{n m:Nat}(hf:aW f n)(h:aW k m):aW (fun l=>aa (f l) fun r=>cond (decide (r<0)) (some (-1)) (k r)) (n+m):=by
 intro l h0 h1
 simp only
 rw [hf l h0 h1,ab]
 by_cases hl:(n:Int)≤l
 ·have e:eM l n=l-n:=by simp [eM,hl]
  rw [e,decide_eq_false (by omega)]
  simp only [cond_false]
  rw [h _ (by omega) (by omega)]
  simp only [eM]
  congr 1
  split<;>split<;>omega
 ·have e:eM l n= -1:=by simp [eM,hl]
  rw [e]
  simp only [eM]
  rw [if_neg (by omega)]
  rfl
theorem aW.cast {f:Int→Option Int}{n m:Nat}(h:aW f n)(e:n=m):aW f m:=e▸h
theorem aW.list {α:Type}{f:α→Int→Option Int}{s:α→Nat}{a:List α}(hm:a.length≤9223372036854775807)(hf:∀x∈a,aW (f x) (s x)):aW (CO f a) (a.length+(a.map s).sum):=
 fun _ h0 h1=>Fq h0 h1 hm (fun x hx l h0 h1=>⟨_,hf x hx l h0 h1,fun h=>by simp [eM,h],fun h=>by simp [eM,h]⟩)
theorem aW.flat {n:Nat}(hn:n≤9223372036854775807):aW (fun l=>cond (decide (IntKind.wrap .i64 (l-(n:Int))<0)) (some (-1)) (some (IntKind.wrap .i64 (l-(n:Int))))) n:=
 (aW.len (n:=n) hn aW.nil).cast (by omega)
theorem aW.strs {a:List (List UInt8)}(hm:iz (.sl .str) a):aW (CO (fun x l=>some (IntKind.wrap .i64 (l-(x.length:Int)))) a) (dV (.sl .str) a):=
 fun _ h0 h1=>Fq (s:=dV .str) h0 h1 hm.1 (fun x hx l h0 h1=>⟨l-x.length,by
  have:x.length≤9223372036854775807:=hm.2 x hx
  rw [wrap64 (by omega) (by omega)],fun _=>rfl,fun h=>by simp only [dV] at h;omega⟩)
theorem aW.use {f:Int→Option Int}{n:Nat}(hf:aW f n){l:Int}(h0:0≤l)(h1:l≤1048576){k:Int→Option Bool}(hk:(n:Int)≤l→k (l-n)=some true):
 (aa (f l) fun r=>cond (decide (r<0)) (some true) (k r))=some true:=by
 rw [hf l h0 h1,ab]
 by_cases hl:(n:Int)≤l
 ·have e:eM l n=l-n:=by simp [eM,hl]
  rw [e,decide_eq_false (by omega)]
  exact hk hl
 ·have e:eM l n= -1:=by simp [eM,hl]
  rw [e];rfl
theorem J5 {α R:Type}{T:(Int→Option R)→Int→Option R}{fin hit:Option R}(p:α→Bool)(a:List α)(h:a.length≤1000000000000)
 (hs:∀i (hi:i<a.length) nx,T nx (i:Int)=cond (p a[i]) hit (nx ((i+1:Nat):Int))) (hf:∀nx,T nx (a.length:Int)=fin):
 ar T fuel 0=cond (a.any p) hit fin:=by
 have hfu:=bQ
 have key:∀n i,i≤a.length→a.length-i<n→ar T n (i:Int)=cond ((a.drop i).any p) hit fin:=by
  intro n
  induction n with
  |zero=>intro i _ h;omega
  |succ n ih=>
   intro i hi hn
   rw [ar]
   rcases Nat.lt_or_ge i a.length with hlt|hge
   ·rw [hs i hlt,List.drop_eq_getElem_cons hlt,List.any_cons]
    cases hq:p a[i] with
    |true=>rfl
    |false=>exact ih (i+1) (by omega) (by omega)
   ·have:i=a.length:=by omega
    subst this
    rw [hf,List.drop_length];rfl
 exact key fuel 0 (by omega) (by omega)
theorem cI {R:Type}{T:(Int→Option R)→Int→Option R}{fin hit:Option R}(p:Nat→Bool)(N:Nat)(h:N≤1000000000000)
 (hs:∀i nx,i<N→T nx (i:Int)=cond (!(p i)) hit (nx ((i+1:Nat):Int))) (hf:∀nx,T nx (N:Int)=fin):
 ar T fuel 0=cond ((List.range N).all p) fin hit:=by
 have hfu:=bQ
 have key:∀n i,i≤N→N-i<n→ar T n (i:Int)=cond ((List.range' i (N-i)).all p) fin hit:=by
  intro n
  induction n with
  |zero=>intro i _ h;omega
  |succ n ih=>
   intro i hi hn
   rw [ar]
   rcases Nat.lt_or_ge i N with hlt|hge
   ·rw [hs i _ hlt,show N-i=(N-(i+1))+1 by omega,List.range'_succ,List.all_cons]
    cases hq:p i with
    |false=>rfl
    |true=>exact ih (i+1) (by omega) (by omega)
   ·have:i=N:=by omega
    subst this
    rw [hf,Nat.sub_self];rfl
 have:=key fuel 0 (by omega) (by omega)
 rw [Nat.sub_zero,←List.range_eq_range'] at this
 exact this
theorem nk {α R:Type}{T:(Int→Option R)→Int→Option R}{fin hit:Option R}(p:α→Bool)(a:List α)(h:a.length≤1000000000000)
 (hs:∀i (hi:i<a.length) nx,T nx (i:Int)=cond (!(p a[i])) hit (nx ((i+1:Nat):Int))) (hf:∀nx,T nx (a.length:Int)=fin):
 ar T fuel 0=cond (a.all p) fin hit:=by
 have:=J5 (T:=T) (fin:=fin) (hit:=hit) (fun x=> !(p x)) a h hs hf
 rw [this]
 have e:a.any (fun x=> !(p x))= !(a.all p):=by
  rw [Bool.eq_iff_iff];simp
 rw [e]
 cases a.all p<;>rfl
theorem Ba {X R:Type}{T:(X→Option R)→X→Option R}{fin hit:Option R}(e:Nat→X)(p:Nat→Bool)(N:Nat)(h:N≤1000000000000)
 (hs:∀i nx,i<N→(∀j,j<i→p j=true)→T nx (e i)=cond (!(p i)) hit (nx (e (i+1)))) (hf:(∀j,j<N→p j=true)→∀nx,T nx (e N)=fin):
 ar T fuel (e 0)=cond ((List.range N).all p) fin hit:=by
 have hfu:=bQ
 have key:∀n i,i≤N→N-i<n→(∀j,j<i→p j=true)→ar T n (e i)=cond ((List.range' i (N-i)).all p) fin hit:=by
  intro n
  induction n with
  |zero=>intro i _ h;omega
  |succ n ih=>
   intro i hi hn hp
   rw [ar]
   rcases Nat.lt_or_ge i N with hlt|hge
   ·rw [hs i _ hlt hp,show N-i=(N-(i+1))+1 by omega,List.range'_succ,List.all_cons]
    cases hq:p i with
    |false=>rfl
    |true=>
     refine ih (i+1) (by omega) (by omega) fun j hj=> ?_
     by_cases hji:j=i
     ·rw [hji];exact hq
     ·exact hp j (by omega)
   ·have:i=N:=by omega
    subst this
    rw [hf hp,Nat.sub_self];rfl
 have:=key fuel 0 (by omega) (by omega) (fun j hj=>absurd hj (by omega))
 rw [Nat.sub_zero,←List.range_eq_range'] at this
 exact this
theorem Bi {α R:Type}{T:(Int→Option R)→Int→Option R}{fin:Option R}{hit:Int→Option R}(p:α→Bool)(a:List α)(h:a.length≤1000000000000)
 (hs:∀i (hi:i<a.length) nx,T nx (i:Int)=cond (p a[i]) (hit (i:Int)) (nx ((i+1:Nat):Int))) (hf:∀nx,T nx (a.length:Int)=fin):
 ar T fuel 0=(match a.findIdx? p with|some i=>hit (i:Int)|none=>fin):=by
 have hfu:=bQ
 have key:∀n i,i≤a.length→a.length-i<n→ar T n (i:Int)=(match (a.drop i).findIdx? p with|some j=>hit ((i+j:Nat):Int)|none=>fin):=by
  intro n
  induction n with
  |zero=>intro i _ h;omega
  |succ n ih=>
   intro i hi hn
   rw [ar]
   rcases Nat.lt_or_ge i a.length with hlt|hge
   ·rw [hs i hlt,List.drop_eq_getElem_cons hlt,List.findIdx?_cons]
    cases hq:p a[i] with
    |true=>rfl
    |false=>
     have:=ih (i+1) (by omega) (by omega)
     simp only [cond_false]
     refine this.trans ?_
     cases (a.drop (i+1)).findIdx? p with
     |none=>rfl
     |some j=>simp only [Option.map_some,Bool.false_eq_true,if_false];congr 2;omega
   ·have:i=a.length:=by omega
    subst this
    rw [hf,List.drop_length];rfl
 have:=key fuel 0 (by omega) (by omega)
 refine this.trans ?_
 rw [List.drop_zero]
 cases a.findIdx? p with
 |none=>rfl
 |some j=>simp only [Nat.zero_add]
theorem cF (a b:Bool):(bif a then b else false)=(a&&b):=by cases a<;>rfl
theorem cT (a b:Bool):(bif a then true else b)=(a||b):=by cases a<;>rfl
theorem cN (a b:Bool):(bif a then false else b)=(!a&&b):=by cases a<;>rfl
def E5 {α σ R:Type}(g:α→σ→Except (Option R) σ)(fin:σ→Option R):List α→σ→Option R
 |[],s=>fin s
 |x::xs,s=>match g x s with| .error r=>r| .ok s'=>E5 g fin xs s'
theorem tC {α X σ R:Type}{T:(X→Option R)→X→Option R}(xs:List α)(e:σ→Nat→X)(Inv:Nat→σ→Prop)(g:α→σ→Except (Option R) σ)(fin:σ→Option R)(h:xs.length≤1000000000000)
 (hs:∀i (hi:i<xs.length) s nx,Inv i s→T nx (e s i)=match g xs[i] s with| .error r=>r| .ok s'=>nx (e s' (i+1)))
 (hn:∀i (hi:i<xs.length) s s',Inv i s→g xs[i] s= .ok s'→Inv (i+1) s') (hf:∀s nx,Inv xs.length s→T nx (e s xs.length)=fin s) (s:σ) (h0:Inv 0 s):
 ar T fuel (e s 0)=E5 g fin xs s:=by
 have key:∀n i s,i≤xs.length→xs.length-i<n→Inv i s→ar T n (e s i)=E5 g fin (xs.drop i) s:=by
  intro n
  induction n with
  |zero=>intro i s _ h;omega
  |succ n ih=>
   intro i s hi hn' hI
   rw [ar]
   rcases Nat.lt_or_ge i xs.length with hlt|hge
   ·rw [hs i hlt s _ hI,List.drop_eq_getElem_cons hlt,E5]
    cases hg:g xs[i] s with
    |error r=>rfl
    |ok s'=>exact ih (i+1) s' (by omega) (by omega) (hn i hlt s s' hI hg)
   ·have:i=xs.length:=by omega
    subst this
    rw [hf s _ hI,List.drop_length,E5]
 have hfu:=bQ
 have:=key fuel 0 s (by omega) (by omega) h0
 rwa [List.drop_zero] at this
theorem Av {α σ R:Type}(f:σ→α→σ)(fin:σ→Option R):∀(xs:List α)(s:σ),E5 (fun x s=> .ok (f s x)) fin xs s=fin (xs.foldl f s)
 |[],_=>rfl
 |x::xs,s=>by rw [E5];exact Av f fin xs (f s x)
theorem bB {X R:Type}{T:(X→Option R)→X→Option R}{fin:Option R}(e:Nat→X)(N:Nat)(h:N≤1000000000000)
 (hs:∀i nx,i<N→T nx (e i)=nx (e (i+1))) (hf:∀nx,T nx (e N)=fin):ar T fuel (e 0)=fin:=by
 rw [Ba (hit:=fin) (fin:=fin) e (fun _=>true) N h (fun i nx hi _=>by rw [hs i nx hi];rfl) (fun _ nx=>hf nx)]
 cases (List.range N).all (fun _=>true)<;>rfl
theorem bV {α R:Type}{l:List α}{k:Option R}(h:l.length≤1000000000):room (List.length ([]:List α)+l.length) k=k:=aq (by simp only [List.length_nil];omega)
end Go.Pu
end
section
namespace Go.Pu
open Go.Dn
set_option linter.unusedVariables false
set_option linter.unusedSimpArgs false
theorem wh (a:List Int)(hm:iz (.sl (.int .i64)) a):aW (fI a) (dV (.sl (.int .i64)) a):=
 (aW.flat (n:=a.length) hm.1).cast (by simp only [dV];rw [qY (fun x _=>by simp only [dV])];rfl)
theorem wi (a:List Bytes)(hm:iz (.sl .str) a):aW (gL a) (dV (.sl .str) a):=
 aW.strs hm
theorem R0 (a:List Bytes)(hm:iz (.sl .str) a):aW (qg a) (dV (.sl .str) a):=
 aW.cast (f:=qg a) (aW.sub (wi a hm) aW.nil) (by simp only [dV];try omega)
theorem MD (a:List aw)(hm:iz (.sl aB) a):aW (rn a) (dV (.sl aB) a):=
 (aW.flat (n:=a.length) hm.1).cast (by simp only [dV];rw [qY (fun x _=>by simp only [dV])];rfl)
theorem Qi (a:cx)(hm:iz bN a):aW (ns a) (dV bN a):=
 aW.cast (f:=ns a) (aW.sub (wh a.2.2.2 hm.2.2.2) aW.nil) (by simp only [dV];try omega)
theorem XC (a:dp)(hm:iz bJ a):aW (qR a) (dV bJ a):=
 aW.cast (f:=qR a) (aW.sub (wh a.2.2 hm.2.2) aW.nil) (by simp only [dV];try omega)
theorem Ur (a:List dp)(hm:iz (.sl bJ) a):aW (vK a) (dV (.sl bJ) a):=
 aW.list (f:=qR) (s:=dV bJ) hm.1 (fun x hx=>XC x (hm.2 x hx))
theorem OM (a:cu)(hm:iz dw a):aW (oL a) (dV dw a):=
 aW.cast (f:=oL a) (aW.sub (Qi a.2.1 hm.2.1) (aW.sub (Ur a.2.2.1 hm.2.2.1) aW.nil)) (by simp only [dV];try omega)
theorem OK (a:bj)(hm:iz dZ a):aW (oK a) (dV dZ a):=
 aW.cast (f:=oK a) (aW.len (n:=a.2.2.2.2.2.2.2.length) hm.2.2.2.2.2.2.2 aW.nil) (by simp only [dV];try omega)
theorem R1 (a:ax)(hm:iz a8 a):aW (qh a) (dV a8 a):=
 aW.cast (f:=qh a) (aW.sub (OK a.2.2.2.2.2.2.2.2 hm.2.2.2.2.2.2.2.2) aW.nil) (by simp only [dV];try omega)
theorem Ut (a:dY)(hm:iz lM a):aW (sa a) (dV lM a):=
 aW.cast (f:=sa a) (aW.sub (R1 a.1 hm.1) aW.nil) (by simp only [dV];try omega)
theorem OJ (a:aD)(hm:iz aG a):aW (km a) (dV aG a):=
 aW.cast (f:=km a) (aW.sub (Ut a.2.2.2.1 hm.2.2.2.1) aW.nil) (by simp only [dV];try omega)
theorem ME (a:List aD)(hm:iz (.sl aG) a):aW (rp a) (dV (.sl aG) a):=
 aW.list (f:=km) (s:=dV aG) hm.1 (fun x hx=>OJ x (hm.2 x hx))
theorem Up (a:List cx)(hm:iz (.sl bN) a):aW (vI a) (dV (.sl bN) a):=
 aW.list (f:=ns) (s:=dV bN) hm.1 (fun x hx=>Qi x (hm.2 x hx))
theorem ON (a:List Vector)(hm:iz (.sl aZ) a):aW (tf a) (dV (.sl aZ) a):=
 (aW.flat (n:=a.length) hm.1).cast (by simp only [dV];rw [qY (fun x _=>by simp only [dV])];rfl)
theorem Um (a:List Bool)(hm:iz (.sl .bool) a):aW (vG a) (dV (.sl .bool) a):=
 (aW.flat (n:=a.length) hm.1).cast (by simp only [dV];rw [qY (fun x _=>by simp only [dV])];rfl)
theorem Hu (a:Filter)(hm:iz dc a):aW (mf a) (dV dc a):=
 aW.cast (f:=mf a) (aW.sub (wh a.2.2 hm.2.2) aW.nil) (by simp only [dV];try omega)
theorem Uq (a:List cf)(hm:iz (.sl bH) a):aW (vJ a) (dV (.sl bH) a):=
 (aW.flat (n:=a.length) hm.1).cast (by simp only [dV];rw [qY (fun x _=>by simp only [dV])];rfl)
theorem Us (a:List Slot)(hm:iz (.sl bn) a):aW (vL a) (dV (.sl bn) a):=
 (aW.flat (n:=a.length) hm.1).cast (by simp only [dV];rw [qY (fun x _=>by simp only [dV])];rfl)
theorem JP (a:List Slot)(hm:iz (.sl bn) a):aW (lh a) (dV (.sl bn) a):=
 aW.cast (f:=lh a) (aW.sub (Us a hm) aW.nil) (by simp only [dV];try omega)
theorem R2 (a:dq)(hm:iz eR a):aW (qi a) (dV eR a):=
 aW.cast (f:=qi a) (aW.len (n:=a.1.length) hm.1 (aW.sub (wh a.2 hm.2) aW.nil)) (by simp only [dV];try omega)
theorem MF (a:bG)(hm:iz cH a):aW (mO a) (dV cH a):=
 aW.cast (f:=mO a) (aW.sub (Uq a.1 hm.1) (aW.sub (JP a.2.1 hm.2.1) (aW.sub (R2 a.2.2 hm.2.2) aW.nil))) (by simp only [dV];try omega)
theorem R3 (a:Stream)(hm:iz a9 a):aW (mh a) (dV a9 a):=
 aW.cast (f:=mh a) (aW.len (n:=a.2.2.1.length) hm.2.2.1 aW.nil) (by simp only [dV];try omega)
theorem OL (a:List Stream)(hm:iz (.sl a9) a):aW (td a) (dV (.sl a9) a):=
 aW.list (f:=mh) (s:=dV a9) hm.1 (fun x hx=>R3 x (hm.2 x hx))
theorem XB (a:Host)(hm:iz ba a):aW (qQ a) (dV ba a):=
 aW.cast (f:=qQ a) (aW.sub (R0 a.1 hm.1) (aW.sub (MD a.2.1 hm.2.1) (aW.sub (OM a.2.2.1 hm.2.2.1) (aW.sub (ME a.2.2.2.1 hm.2.2.2.1) (aW.sub (Up a.2.2.2.2.1 hm.2.2.2.2.1) (aW.sub (ON a.2.2.2.2.2.1 hm.2.2.2.2.2.1) (aW.sub (Um a.2.2.2.2.2.2.1 hm.2.2.2.2.2.2.1) (aW.sub (Hu a.2.2.2.2.2.2.2.1 hm.2.2.2.2.2.2.2.1) (aW.sub (MF a.2.2.2.2.2.2.2.2.1 hm.2.2.2.2.2.2.2.2.1) (aW.sub (OL a.2.2.2.2.2.2.2.2.2.1 hm.2.2.2.2.2.2.2.2.2.1) (aW.sub (wi a.2.2.2.2.2.2.2.2.2.2.2.1 hm.2.2.2.2.2.2.2.2.2.2.2.1) (aW.sub (wh a.2.2.2.2.2.2.2.2.2.2.2.2.1 hm.2.2.2.2.2.2.2.2.2.2.2.2.1) (aW.sub (wh a.2.2.2.2.2.2.2.2.2.2.2.2.2.1 hm.2.2.2.2.2.2.2.2.2.2.2.2.2.1) aW.nil))))))))))))) (by simp only [dV];try omega)
theorem Uo (a:List Host)(hm:iz (.sl ba) a):aW (vH a) (dV (.sl ba) a):=
 aW.list (f:=qQ) (s:=dV ba) hm.1 (fun x hx=>XB x (hm.2 x hx))
theorem yo (a:List ao)(hm:iz (.sl ak) a):aW (gM a) (dV (.sl ak) a):=
 (aW.flat (n:=a.length) hm.1).cast (by simp only [dV];rw [qY (fun x _=>by simp only [dV])];rfl)
theorem OI (a:aC)(hm:iz aE a):aW (kl a) (dV aE a):=
 aW.cast (f:=kl a) (aW.sub (Hu a.1 hm.1) aW.nil) (by simp only [dV];try omega)
theorem MC (a:List aC)(hm:iz (.sl aE) a):aW (rm a) (dV (.sl aE) a):=
 aW.list (f:=kl) (s:=dV aE) hm.1 (fun x hx=>OI x (hm.2 x hx))
theorem Un (a:List Bytes)(hm:iz (.sl .str) a):aW (rZ a) (dV (.sl .str) a):=
 aW.cast (f:=rZ a) (aW.sub (wi a hm) aW.nil) (by simp only [dV];try omega)
theorem XA (a:br)(hm:iz bU a):aW (tX a) (dV bU a):=
 aW.cast (f:=tX a) (aW.sub (Uo a.1 hm.1) (aW.sub (yo a.2.1 hm.2.1) (aW.sub (MC a.2.2.1 hm.2.2.1) (aW.sub (Un a.2.2.2.1 hm.2.2.2.1) (aW.sub (wh a.2.2.2.2.2.1 hm.2.2.2.2.2.1) (aW.sub (wi a.2.2.2.2.2.2 hm.2.2.2.2.2.2) aW.nil)))))) (by simp only [dV];try omega)
theorem jH (a:List Int)(h:aK 1048576 (.sl (.int .i64)) a):fJ a=some a:=
 zn (z:=0) (Nat.le_trans h.1 (by omega))
theorem kG (a:List Bytes)(h:aK 1048576 (.sl .str) a):gQ a=some a:=
 zn (z:=([]:Bytes)) (Nat.le_trans h.1 (by omega))
theorem Hx (a:List Bytes)(h:aK 1048576 (.sl .str) a):mi a=some a:=by
 first|(simp only [mi,kG _ h,ab];done)|(simp only [mi,kG _ h,ab];rfl)
theorem OP (a:aw)(h:aK 1048576 aB a):oN a=some a:=rfl
theorem Ch (a:List aw)(h:aK 1048576 (.sl aB) a):ru a=some a:=
 dW (f:=oN) (z:=(0,0,0,false)) (Nat.le_trans h.1 (by omega)) (fun x hx=>OP x (h.2 x hx))
theorem CS (a:gi)(h:aK 1048576 cS a):ub a=some a:=rfl
theorem JU (a:cx)(h:aK 1048576 bN a):kn a=some a:=by
 first|(simp only [kn,jH _ h.2.2.2,ab];done)|(simp only [kn,jH _ h.2.2.2,ab];rfl)
theorem XH (a:dp)(h:aK 1048576 bJ a):nu a=some a:=by
 first|(simp only [nu,jH _ h.2.2,ab];done)|(simp only [nu,jH _ h.2.2,ab];rfl)
theorem MN (a:List dp)(h:aK 1048576 (.sl bJ) a):vR a=some a:=
 dW (f:=nu) (z:=(0,0,([]:List Int))) (Nat.le_trans h.1 (by omega)) (fun x hx=>XH x (h.2 x hx))
theorem Fx (a:cu)(h:aK 1048576 dw a):ko a=some a:=by
 first|(simp only [ko,CS _ h.1,JU _ h.2.1,MN _ h.2.2.1,ab];done)|(simp only [ko,CS _ h.1,JU _ h.2.1,MN _ h.2.2.1,ab];rfl)
theorem iy (a:db)(h:aK 1048576 cr a):eh a=some a:=rfl
theorem Fv (a:bj)(h:aK 1048576 dZ a):tk a=some a:=rfl
theorem Hy (a:ax)(h:aK 1048576 a8 a):mj a=some a:=by
 first|(simp only [mj,Fv _ h.2.2.2.2.2.2.2.2,ab];done)|(simp only [mj,Fv _ h.2.2.2.2.2.2.2.2,ab];rfl)
theorem MP (a:dY)(h:aK 1048576 lM a):oO a=some a:=by
 first|(simp only [oO,Hy _ h.1,ab];done)|(simp only [oO,Hy _ h.1,ab];rfl)
theorem OQ (a:aD)(h:aK 1048576 aG a):gP a=some a:=by
 first|(simp only [gP,CS _ h.1,iy _ h.2.1,iy _ h.2.2.1,MP _ h.2.2.2.1,ab];done)|(simp only [gP,CS _ h.1,iy _ h.2.1,iy _ h.2.2.1,MP _ h.2.2.2.1,ab];rfl)
theorem Ci (a:List aD)(h:aK 1048576 (.sl aG) a):ry a=some a:=
 dW (f:=gP) (z:=((0,0,0,0),(0,0,0),(0,0,0),((0,0,0,0,0,0,0,0,0,0,0,0,0,0,0,([]:Bytes)),0,0),false,0)) (Nat.le_trans h.1 (by omega)) (fun x hx=>OQ x (h.2 x hx))
theorem ML (a:List cx)(h:aK 1048576 (.sl bN) a):vP a=some a:=
 dW (f:=kn) (z:=(0,0,0,([]:List Int))) (Nat.le_trans h.1 (by omega)) (fun x hx=>JU x (h.2 x hx))
theorem R5 (a:Vector)(h:aK 1048576 aZ a):qj a=some a:=rfl
theorem Fy (a:List Vector)(h:aK 1048576 (.sl aZ) a):tp a=some a:=
 dW (f:=qj) (z:=(0,0,0,0,false,false)) (Nat.le_trans h.1 (by omega)) (fun x hx=>R5 x (h.2 x hx))
theorem MH (a:List Bool)(h:aK 1048576 (.sl .bool) a):vM a=some a:=
 zn (z:=false) (Nat.le_trans h.1 (by omega))
theorem yg (a:Filter)(h:aK 1048576 dc a):ja a=some a:=by
 first|(simp only [ja,jH _ h.2.2,ab];done)|(simp only [ja,jH _ h.2.2,ab];rfl)
theorem XG (a:cf)(h:aK 1048576 bH a):uc a=some a:=rfl
theorem MM (a:List cf)(h:aK 1048576 (.sl bH) a):vQ a=some a:=
 dW (f:=uc) (z:=(0,0,0,0,0,0,0,0,0)) (Nat.le_trans h.1 (by omega)) (fun x hx=>XG x (h.2 x hx))
theorem CR (a:cL)(h:aK 1048576 cW a):ua a=some a:=rfl
theorem XI (a:Slot)(h:aK 1048576 bn a):nv a=some a:=by
 first|(simp only [nv,CR _ h.2.1,ab];done)|(simp only [nv,CR _ h.2.1,ab];rfl)
theorem MO (a:List Slot)(h:aK 1048576 (.sl bn) a):vS a=some a:=
 dW (f:=nv) (z:=(0,(0,0,0,0,0),0)) (Nat.le_trans h.1 (by omega)) (fun x hx=>XI x (h.2 x hx))
theorem AO (a:List Slot)(h:aK 1048576 (.sl bn) a):gN a=some a:=by
 first|(simp only [gN,MO _ h,ab];done)|(simp only [gN,MO _ h,ab];rfl)
theorem Hz (a:dq)(h:aK 1048576 eR a):ml a=some a:=by
 first|(simp only [ml,jH _ h.2,ab];done)|(simp only [ml,jH _ h.2,ab];rfl)
theorem Cj (a:bG)(h:aK 1048576 cH a):iK a=some a:=by
 first|(simp only [iK,MM _ h.1,AO _ h.2.1,Hz _ h.2.2,ab];done)|(simp only [iK,MM _ h.1,AO _ h.2.1,Hz _ h.2.2,ab];rfl)
theorem R4 (a:Stream)(h:aK 1048576 a9 a):jb a=some a:=by
 first|(simp only [jb,CR _ h.1,ab];done)|(simp only [jb,CR _ h.1,ab];rfl)
theorem Fw (a:List Stream)(h:aK 1048576 (.sl a9) a):tn a=some a:=
 dW (f:=jb) (z:=((0,0,0,0,0),0,([]:Bytes),false)) (Nat.le_trans h.1 (by omega)) (fun x hx=>R4 x (h.2 x hx))
theorem Cf (a:cL)(h:aK 1048576 cW a):rq a=some a:=rfl
theorem XF (a:Host)(h:aK 1048576 ba a):nt a=some a:=by
 first|(simp only [nt,Hx _ h.1,Ch _ h.2.1,Fx _ h.2.2.1,Ci _ h.2.2.2.1,ML _ h.2.2.2.2.1,Fy _ h.2.2.2.2.2.1,MH _ h.2.2.2.2.2.2.1,yg _ h.2.2.2.2.2.2.2.1,Cj _ h.2.2.2.2.2.2.2.2.1,Fw _ h.2.2.2.2.2.2.2.2.2.1,kG _ h.2.2.2.2.2.2.2.2.2.2.2.1,jH _ h.2.2.2.2.2.2.2.2.2.2.2.2.1,jH _ h.2.2.2.2.2.2.2.2.2.2.2.2.2.1,Cf _ h.2.2.2.2.2.2.2.2.2.2.2.2.2.2,ab];done)|(simp only [nt,Hx _ h.1,Ch _ h.2.1,Fx _ h.2.2.1,Ci _ h.2.2.2.1,ML _ h.2.2.2.2.1,Fy _ h.2.2.2.2.2.1,MH _ h.2.2.2.2.2.2.1,yg _ h.2.2.2.2.2.2.2.1,Cj _ h.2.2.2.2.2.2.2.2.1,Fw _ h.2.2.2.2.2.2.2.2.2.1,kG _ h.2.2.2.2.2.2.2.2.2.2.2.1,jH _ h.2.2.2.2.2.2.2.2.2.2.2.2.1,jH _ h.2.2.2.2.2.2.2.2.2.2.2.2.2.1,Cf _ h.2.2.2.2.2.2.2.2.2.2.2.2.2.2,ab];rfl)
theorem MK (a:List Host)(h:aK 1048576 (.sl ba) a):vO a=some a:=
 dW (f:=nt) (z:=(([]:List Bytes),([]:List aw),((0,0,0,0),(0,0,0,([]:List Int)),([]:List dp),0),([]:List aD),([]:List cx),([]:List Vector),([]:List Bool),(0,false,([]:List Int)),(([]:List cf),([]:List Slot),([]:Bytes),([]:List Int)),([]:List Stream),false,([]:List Bytes),([]:List Int),([]:List Int),0,0,0,0,0)) (Nat.le_trans h.1 (by omega)) (fun x hx=>XF x (h.2 x hx))
theorem Hw (a:db)(h:aK 1048576 cr a):uA a=some a:=rfl
theorem zo (a:ao)(h:aK 1048576 ak a):cy a=some a:=by
 first|(simp only [cy,Hw _ h.2.2.1,ab];done)|(simp only [cy,Hw _ h.2.2.1,ab];rfl)
theorem rG (a:List ao)(h:aK 1048576 (.sl ak) a):gR a=some a:=
 dW (f:=cy) (z:=(0,0,(0,0,0),false,0,0)) (Nat.le_trans h.1 (by omega)) (fun x hx=>zo x (h.2 x hx))
theorem OO (a:aC)(h:aK 1048576 aE a):gO a=some a:=by
 first|(simp only [gO,yg _ h.1,ab];done)|(simp only [gO,yg _ h.1,ab];rfl)
theorem Cg (a:List aC)(h:aK 1048576 (.sl aE) a):rr a=some a:=
 dW (f:=gO) (z:=((0,false,([]:List Int)),0,0,0)) (Nat.le_trans h.1 (by omega)) (fun x hx=>OO x (h.2 x hx))
theorem MJ (a:List Bytes)(h:aK 1048576 (.sl .str) a):oM a=some a:=by
 first|(simp only [oM,kG _ h,ab];done)|(simp only [oM,kG _ h,ab];rfl)
theorem MI (a:gi)(h:aK 1048576 cS a):vN a=some a:=rfl
theorem XE (a:br)(h:aK 1048576 bU a):g9 a=some a:=by
 first|(simp only [g9,MK _ h.1,rG _ h.2.1,Cg _ h.2.2.1,MJ _ h.2.2.2.1,MI _ h.2.2.2.2.1,jH _ h.2.2.2.2.2.1,kG _ h.2.2.2.2.2.2,ab];done)|(simp only [g9,MK _ h.1,rG _ h.2.1,Cg _ h.2.2.1,MJ _ h.2.2.2.1,MI _ h.2.2.2.2.1,jH _ h.2.2.2.2.2.1,kG _ h.2.2.2.2.2.2,ab];rfl)
theorem vl (a:List Int)(h:aK 1000000000000 (.sl (.int .i64)) a):fF a a=some true:=
 vk h.1
theorem vm (a:List Bytes)(h:aK 1000000000000 (.sl .str) a):gH a a=some true:=
 vk h.1
theorem QG (a:List Bytes)(h:aK 1000000000000 (.sl .str) a):qd a a=some true:=by
 simp [qd,vm _ h]
theorem No (a:aw)(h:aK 1000000000000 aB a):jZ a a=some true:=by
 simp [jZ]
theorem KK (a:List aw)(h:aK 1000000000000 (.sl aB) a):rk a a=some true:=
 cM (f:=jZ) h.1 (fun x hx=>No x (h.2 x hx))
theorem Ps (a:gi)(h:aK 1000000000000 cS a):qM a a=some true:=by
 simp [qM]
theorem Pr (a:cx)(h:aK 1000000000000 bN a):nr a a=some true:=by
 simp [nr,vl _ h.2.2.2]
theorem WJ (a:dp)(h:aK 1000000000000 bJ a):qO a a=some true:=by
 simp [qO,vl _ h.2.2]
theorem SE (a:List dp)(h:aK 1000000000000 (.sl bJ) a):vE a a=some true:=
 cM (f:=qO) h.1 (fun x hx=>WJ x (h.2 x hx))
theorem Ns (a:cu)(h:aK 1000000000000 dw a):oc a a=some true:=by
 simp [oc,Ps _ h.1,Pr _ h.2.1,SE _ h.2.2.1]
theorem sN (a:db)(h:aK 1000000000000 cr a):df a a=some true:=by
 simp [df]
theorem Nq (a:bj)(h:aK 1000000000000 dZ a):oa a a=some true:=by
 simp [oa]
theorem QH (a:ax)(h:aK 1000000000000 a8 a):qe a a=some true:=by
 simp [qe,Nq _ h.2.2.2.2.2.2.2.2]
theorem SG (a:dY)(h:aK 1000000000000 lM a):rY a a=some true:=by
 simp [rY,QH _ h.1]
theorem Np (a:aD)(h:aK 1000000000000 aG a):ka a a=some true:=by
 simp [ka,Ps _ h.1,sN _ h.2.1,sN _ h.2.2.1,SG _ h.2.2.2.1]
theorem KL (a:List aD)(h:aK 1000000000000 (.sl aG) a):rl a a=some true:=
 cM (f:=ka) h.1 (fun x hx=>Np x (h.2 x hx))
theorem SB (a:List cx)(h:aK 1000000000000 (.sl bN) a):vC a a=some true:=
 cM (f:=nr) h.1 (fun x hx=>Pr x (h.2 x hx))
theorem QK (a:Vector)(h:aK 1000000000000 aZ a):md a a=some true:=by
 simp [md]
theorem Nt (a:List Vector)(h:aK 1000000000000 (.sl aZ) a):s7 a a=some true:=
 cM (f:=md) h.1 (fun x hx=>QK x (h.2 x hx))
theorem Sx (a:List Bool)(h:aK 1000000000000 (.sl .bool) a):vA a a=some true:=
 vk h.1
theorem Gv (a:Filter)(h:aK 1000000000000 dc a):ma a a=some true:=by
 simp [ma,vl _ h.2.2]
theorem WI (a:cf)(h:aK 1000000000000 bH a):qN a a=some true:=by
 simp [qN]
theorem SC (a:List cf)(h:aK 1000000000000 (.sl bH) a):vD a a=some true:=
 cM (f:=qN) h.1 (fun x hx=>WI x (h.2 x hx))
theorem Pq (a:cL)(h:aK 1000000000000 cW a):qK a a=some true:=by
 simp [qK]
theorem WK (a:Slot)(h:aK 1000000000000 bn a):qP a a=some true:=by
 simp [qP,Pq _ h.2.1]
theorem SF (a:List Slot)(h:aK 1000000000000 (.sl bn) a):vF a a=some true:=
 cM (f:=qP) h.1 (fun x hx=>WK x (h.2 x hx))
theorem IY (a:List Slot)(h:aK 1000000000000 (.sl bn) a):k9 a a=some true:=by
 simp [k9,SF _ h]
theorem QI (a:dq)(h:aK 1000000000000 eR a):qf a a=some true:=by
 simp [qf,vl _ h.2]
theorem KM (a:bG)(h:aK 1000000000000 cH a):mN a a=some true:=by
 simp [mN,SC _ h.1,IY _ h.2.1,QI _ h.2.2]
theorem QJ (a:Stream)(h:aK 1000000000000 a9 a):mc a a=some true:=by
 simp [mc,Pq _ h.1]
theorem Nr (a:List Stream)(h:aK 1000000000000 (.sl a9) a):s6 a a=some true:=
 cM (f:=mc) h.1 (fun x hx=>QJ x (h.2 x hx))
theorem KI (a:cL)(h:aK 1000000000000 cW a):mM a a=some true:=by
 simp [mM]
theorem WH (a:Host)(h:aK 1000000000000 ba a):qL a a=some true:=by
 simp [qL,QG _ h.1,KK _ h.2.1,Ns _ h.2.2.1,KL _ h.2.2.2.1,SB _ h.2.2.2.2.1,Nt _ h.2.2.2.2.2.1,Sx _ h.2.2.2.2.2.2.1,Gv _ h.2.2.2.2.2.2.2.1,KM _ h.2.2.2.2.2.2.2.2.1,Nr _ h.2.2.2.2.2.2.2.2.2.1,vm _ h.2.2.2.2.2.2.2.2.2.2.2.1,vl _ h.2.2.2.2.2.2.2.2.2.2.2.2.1,vl _ h.2.2.2.2.2.2.2.2.2.2.2.2.2.1,KI _ h.2.2.2.2.2.2.2.2.2.2.2.2.2.2]
theorem SA (a:List Host)(h:aK 1000000000000 (.sl ba) a):vB a a=some true:=
 cM (f:=qL) h.1 (fun x hx=>WH x (h.2 x hx))
theorem QF (a:db)(h:aK 1000000000000 cr a):qc a a=some true:=by
 simp [qc]
theorem yQ (a:ao)(h:aK 1000000000000 ak a):dg a a=some true:=by
 simp [dg,QF _ h.2.2.1]
theorem yj (a:List ao)(h:aK 1000000000000 (.sl ak) a):gI a a=some true:=
 cM (f:=dg) h.1 (fun x hx=>yQ x (h.2 x hx))
theorem Nn (a:aC)(h:aK 1000000000000 aE a):jY a a=some true:=by
 simp [jY,Gv _ h.1]
theorem KJ (a:List aC)(h:aK 1000000000000 (.sl aE) a):rj a a=some true:=
 cM (f:=jY) h.1 (fun x hx=>Nn x (h.2 x hx))
theorem Sz (a:List Bytes)(h:aK 1000000000000 (.sl .str) a):rX a a=some true:=by
 simp [rX,vm _ h]
theorem Sy (a:gi)(h:aK 1000000000000 cS a):rV a a=some true:=by
 simp [rV]
theorem Pp (a:br)(h:aK 1000000000000 bU a):jX a a=some true:=by
 simp [jX,SA _ h.1,yj _ h.2.1,KJ _ h.2.2.1,Sz _ h.2.2.2.1,Sy _ h.2.2.2.2.1,vl _ h.2.2.2.2.2.1,vm _ h.2.2.2.2.2.2]
end Go.Pu
end
section
namespace Go.Pu
open Go.Dn
set_option linter.unusedSimpArgs false
noncomputable section
def bc (a lo hi:Int):Bool:=decide (lo≤a)&&decide (a≤hi)
theorem aR {a lo hi:Int}:bc a lo hi=true↔lo≤a∧a≤hi:=by simp [bc]
theorem aU (a b c:Int):aj a b c=some (bc a b c):=by
 simp only [aj,az,ab,bc]
 cases h:decide (a≥b)<;>rfl
theorem bg (a b c:Int):af a b c=some (bc a b c):=aU a b c
theorem aM {α:Type}{l:List α}{i:Nat}(h:i<l.length)(d:α):l.getD i d=l[i]:=by rw [List.getD_eq_getElem?_getD,List.getElem?_eq_getElem h];rfl
def FC (l:List Int)(i:Nat):Bool:=bc (l.getD i 0) 0 4095&& !(decide (0<i)&&decide (l.getD i 0≤l.getD (i-1) 0))
def fB (f:Filter):Bool:=(List.range f.2.2.length).all (FC f.2.2)&&(bc f.1 0 281474976710654&&decide ((f.2.2.length:Int)≤8))
theorem vZ (f:Filter)(h:f.2.2.length≤1000000000):fZ f=some (fB f):=by
 unfold fZ
 rw [cI (hit:=some false) (fin:=some (bc f.1 0 281474976710654&&decide ((f.2.2.length:Int)≤8))) (FC f.2.2) f.2.2.length (by omega) (fun i nx hi=> ?hs) (fun nx=> ?hf)]
 case hs=>
  simp only [lp]
  rw [decide_eq_true (by omega),ay hi,wrap64 (n:=(i:Int)+1) (by omega) (by omega)]
  simp only [cond_true,ab,aU,FC,aM hi]
  by_cases h0:0<i
  ·have e:IntKind.wrap .i64 ((i:Int)-1)=((i-1:Nat):Int):=by rw [wrap64 (by omega) (by omega)];omega
   have hp:i-1<f.2.2.length:=by omega
   rw [e,ay hp,decide_eq_true (show (i:Int)>0 by omega),decide_eq_true h0,aM hp]
   simp only [cond_true,ab,Bool.true_and]
   cases bc f.2.2[i] 0 4095<;>cases decide (f.2.2[i]≤f.2.2[i-1])<;>rfl
  ·rw [decide_eq_false (show¬(i:Int)>0 by omega),decide_eq_false h0]
   simp only [cond_false,Bool.false_and]
   cases bc f.2.2[i] 0 4095<;>rfl
 case hf=>
  simp only [lp]
  rw [decide_eq_false (by omega)]
  simp only [cond_false,aU,ab,wq,az]
  cases bc f.1 0 281474976710654<;>rfl
 unfold fB
 cases (List.range f.2.2.length).all (FC f.2.2)<;>rfl
theorem vq (f:Filter)(h:f.2.2.length≤1000000000):fT f=some (fB f):=by
 unfold fT
 rw [cI (hit:=some false) (fin:=some (bc f.1 0 281474976710654&&decide ((f.2.2.length:Int)≤8))) (FC f.2.2) f.2.2.length (by omega) (fun i nx hi=> ?hs) (fun nx=> ?hf)]
 case hs=>
  simp only [kK]
  rw [decide_eq_true (by omega),ay hi,wrap64 (n:=(i:Int)+1) (by omega) (by omega)]
  simp only [cond_true,ab,bg,FC,aM hi]
  by_cases h0:0<i
  ·have e:IntKind.wrap .i64 ((i:Int)-1)=((i-1:Nat):Int):=by rw [wrap64 (by omega) (by omega)];omega
   have hp:i-1<f.2.2.length:=by omega
   rw [e,ay hp,decide_eq_true (show (i:Int)>0 by omega),decide_eq_true h0,aM hp]
   simp only [cond_true,ab,Bool.true_and,ge_iff_le]
   cases bc f.2.2[i] 0 4095<;>cases decide (f.2.2[i]≤f.2.2[i-1])<;>rfl
  ·rw [decide_eq_false (show¬(i:Int)>0 by omega),decide_eq_false h0]
   simp only [cond_false,Bool.false_and]
   cases bc f.2.2[i] 0 4095<;>rfl
 case hf=>
  simp only [kK]
  rw [decide_eq_false (by omega)]
  simp only [cond_false,bg,ab,wq,az]
  cases bc f.1 0 281474976710654<;>rfl
 unfold fB
 cases (List.range f.2.2.length).all (FC f.2.2)<;>rfl
def tB (r:cf):Bool:=(eA r).getD false
theorem Fg (r:cf):eA r=some (tB r):=by
 have:∃b,eA r=some b:=by
  simp only [eA,aU,ab,az]
  exact ⟨_,rfl⟩
 obtain ⟨b,hb⟩:=this
 simp [tB,hb]
theorem Tj (r:cf):tR r=some (tB r):=Fg r
theorem Md {r:cf}(h:tB r=true):r.2.2.2.2.2.2.2.1=0∨r.2.2.2.2.2.2.2.2=0:=by
 by_cases h0:r.2.2.2.2.2.2.2.1=0
 ·exact .inl h0
 ·by_cases h1:r.2.2.2.2.2.2.2.2=0
  ·exact .inr h1
  ·exfalso
   have e0:(r.2.2.2.2.2.2.2.1==0)=false:=by simp [h0]
   have e1:(r.2.2.2.2.2.2.2.2==0)=false:=by simp [h1]
   revert h
   unfold tB
   simp only [eA,aU,ab,az,e0,e1,cond_false,Option.getD_some]
   have z:∀c:Bool,(bif c then false else false)=false:=by intro c;cases c<;>rfl
   simp only [z]
   intro h
   cases h
def rz (l:List cf):Bool:=l.all tB&&decide ((l.length:Int)≤12)
theorem xY (l:List cf)(h:l.length≤1000000000):ph l=some (rz l):=by
 unfold ph
 rw [nk (hit:=some false) (fin:=some (decide ((l.length:Int)≤12))) tB l (by omega) (fun i hi nx=> ?hs) (fun nx=> ?hf)]
 case hs=>
  simp only [mV]
  rw [decide_eq_true (by omega),ay hi,wrap64 (by omega) (by omega)]
  simp only [cond_true,ab,Fg];rfl
 case hf=>
  simp only [mV]
  rw [decide_eq_false (by omega)];rfl
 unfold rz
 cases l.all tB<;>rfl
theorem GM (l:List cf)(h:l.length≤1000000000):rQ l=some (rz l):=by
 rw [←xY l h];rfl
theorem alq (x:Int):((BitVec.ofInt 64 x&&&BitVec.ofInt 64 7).toNat:Int)=x%8:=by
 have h7:(BitVec.ofInt 64 7).toNat=2^3-1:=by decide
 rw [BitVec.toNat_and,h7,Nat.and_two_pow_sub_one_eq_mod]
 simp only [BitVec.toNat_ofInt]
 omega
theorem afi (x:Int):((BitVec.ofInt (IntKind.bits .i64) x&&&BitVec.ofInt (IntKind.bits .i64) 7).toNat:Int)=x%8:=alq x
theorem W9 (x:Int):ew x 8=some (x%8):=by
 unfold ew
 rw [if_neg (by omega),Int.tmod_eq_emod]
 split
 ·rw [decide_eq_false (by omega)];simp
 ·rw [decide_eq_true (by simp;omega),wrap64 (by simp;omega) (by simp;omega)];simp
def yu (f:cL):Int:=(f.1%8+f.2.1%8+f.2.2.1%8+f.2.2.2.1%8+f.2.2.2.2%8)%8
theorem K9 (f:cL):0≤yu f∧yu f<8:=by unfold yu;omega
theorem Wk {n:Int}(h:0≤n):Int.tmod n 8=n%8:=Int.tmod_eq_emod_of_nonneg h
theorem T8 (f:cL):qt f=some (yu f):=by
 unfold qt
 generalize hL:[f.1,f.2.1,f.2.2.1,f.2.2.2.1,f.2.2.2.2]=L
 have hlen:L.length=5:=by rw [←hL];rfl
 have hfu:=bQ
 have key:=pE (R:=Int) (T:=g4 (fun (y2:Int) (y3:Int)=>if 8=0 then none else (some (Int.tmod y2 8))) L) L (fun (s:Int) i=>(s,(i:Int)))
  (fun x s k=>k (IntKind.wrap .i64 (s+IntKind.wrap .i64 (x%8)))) (fun s=>some (Int.tmod s 8))
  (fun i hi s nx=>by
   simp only [g4]
   rw [decide_eq_true (by omega),ay hi,wrap64 (n:=(i:Int)+1) (by omega) (by omega)]
   simp only [cond_true,ab]
   rw [afi L[i]];rfl)
  (fun s nx=>by
   simp only [g4]
   rw [decide_eq_false (by omega)];rfl)
  fuel 0 0 (by omega) (by omega)
 refine key.trans ?_
 rw [←hL]
 simp only [List.drop_zero,nn]
 rw [wrap64 (n:=f.1%8) (by omega) (by omega),wrap64 (n:=f.2.1%8) (by omega) (by omega),wrap64 (n:=f.2.2.1%8) (by omega) (by omega),wrap64 (n:=f.2.2.2.1%8) (by omega) (by omega),wrap64 (n:=f.2.2.2.2%8) (by omega) (by omega)]
 rw [wrap64 (n:=0+f.1%8) (by omega) (by omega),wrap64 (n:=0+f.1%8+_) (by omega) (by omega),wrap64 (n:=0+f.1%8+_+_) (by omega) (by omega),wrap64 (n:=0+f.1%8+_+_+_) (by omega) (by omega),wrap64 (n:=0+f.1%8+_+_+_+_) (by omega) (by omega)]
 rw [Wk (by omega),yu,Int.zero_add]
theorem S8 (f:cL):pY f=some (yu f):=by
 unfold pY
 generalize hL:[f.1,f.2.1,f.2.2.1,f.2.2.2.1,f.2.2.2.2]=L
 have hlen:L.length=5:=by rw [←hL];rfl
 have hfu:=bQ
 have key:=pE (R:=Int) (T:=gC (fun (y2:Int) (y3:Int)=>if 8=0 then none else (some (Int.tmod y2 8))) L (L.length:Int)) L (fun (s:Int) i=>(s,(i:Int)))
  (fun x s k=>k (IntKind.wrap .i64 (s+(x%8)))) (fun s=>some (Int.tmod s 8))
  (fun i hi s nx=>by
   simp only [gC]
   rw [decide_eq_true (by omega),ay hi,wrap64 (n:=(i:Int)+1) (by omega) (by omega)]
   simp only [cond_true,ab,W9]
   rfl)
  (fun s nx=>by
   simp only [gC]
   rw [decide_eq_false (by omega)];rfl)
  fuel 0 0 (by omega) (by omega)
 refine key.trans ?_
 rw [←hL]
 simp only [List.drop_zero,nn]
 rw [wrap64 (n:=0+f.1%8) (by omega) (by omega),wrap64 (n:=0+f.1%8+_) (by omega) (by omega),wrap64 (n:=0+f.1%8+_+_) (by omega) (by omega),wrap64 (n:=0+f.1%8+_+_+_) (by omega) (by omega),wrap64 (n:=0+f.1%8+_+_+_+_) (by omega) (by omega)]
 rw [Wk (by omega),yu,Int.zero_add]
def ck (t:List Slot)(i:Nat):Slot:=t.getD i (0,(0,0,0,0,0),0)
theorem pJ {t:List Slot}{i:Nat}(h:i<t.length):ck t i=t[i]:=aM h _
def eV (f:cL)(k:Nat):Nat:=((yu f).toNat+k)%8
theorem AW (f:cL)(k:Nat):eV f k<8:=Nat.mod_lt _ (by omega)
theorem MR (f:cL)(k:Nat)(h:k<8):Int.tmod (IntKind.wrap .i64 (yu f+(k:Int))) 8=(eV f k:Int):=by
 have:=K9 f
 rw [wrap64 (by omega) (by omega),Wk (by omega),eV];omega
def iU (s:Slot)(f:cL):Bool:=(s.1==1)&&decide (s.2.1=f)
theorem I3 (p q:cL):((p.1==q.1)&&((p.2.1==q.2.1)&&((p.2.2.1==q.2.2.1)&&((p.2.2.2.1==q.2.2.2.1)&&((p.2.2.2.2==q.2.2.2.2)&&true)))))=decide (p=q):=by
 obtain ⟨a,b,c,d,e⟩:=p
 obtain ⟨a',b',c',d',e'⟩:=q
 rw [Bool.eq_iff_iff];simp
def walk (t:List Slot)(f:cL):Nat→Nat→Int
 |0,_=> -1
 |n+1,k=>if (ck t (eV f k)).1=0 then-1 else if iU (ck t (eV f k)) f then (eV f k:Int) else walk t f n (k+1)
theorem Mm (t:List Slot)(f:cL)(ht:t.length=8):po t f=some (walk t f 8 0):=by
 unfold po
 have hfu:=bQ
 have key:=xP (R:=Int) (T:=iS (fun (y6:Int)=>some (-1)) (fun (y7:Int) (y8:Int)=>some y7) 0 t f) 8 (fun (_:Unit) i=>(i:Int))
  (fun i s k=>if (ck t (eV f i)).1=0 then some (-1) else if iU (ck t (eV f i)) f then some (eV f i:Int) else k s) (fun _=>some (-1))
  (fun i s nx hi=>by
   have hw:eV f i<t.length:=by have:=AW f i;omega
   simp only [iS,T8]
   rw [decide_eq_true (by omega),wrap64 (n:=(i:Int)+1) (by omega) (by omega)]
   simp only [cond_true,ab,MR f i hi,ay hw,pJ hw,I3,iU,az,ab]
   rw [if_neg (by omega)]
   by_cases h0:t[eV f i].1=0
   ·simp [h0]
   ·have e0:(t[eV f i].1==0)=false:=by simp [h0]
    rw [e0,if_neg h0]
    cases (t[eV f i].1==1)<;>cases decide (t[eV f i].2.1=f)<;>rfl)
  (fun s nx=>by simp only [iS];rfl)
  fuel 0 () (by omega) (by omega)
 refine key.trans ?_
 have main:∀n i,Wr (R:=Int) (fun i (s:Unit) k=>if (ck t (eV f i)).1=0 then some (-1) else if iU (ck t (eV f i)) f then some (eV f i:Int) else k s) (fun _=>some (-1)) 8 n i ()=some (walk t f n i):=by
  intro n
  induction n with
  |zero=>intro i;rfl
  |succ n ih=>
   intro i
   rw [Wr,walk]
   split
   ·rfl
   ·split
    ·rfl
    ·exact ih (i+1)
 exact main 8 0
def rh (f:cL):List Slot→Int→Int
 |[],_=> -1
 |s::r,i=>if iU s f then i else rh f r (i+1)
theorem Lm (t:List Slot)(f:cL)(h:t.length≤1000000000):qJ t f=some (rh f t 0):=by
 unfold qJ
 have hfu:=bQ
 have key:∀n i,i≤t.length→t.length-i<n→ar (n8 (fun (y3:Int)=>some (-1)) (fun (y4:Int) (y5:Int)=>some y4) 0 t ((List.length t:Int)) f) n (i:Int)=some (rh f (t.drop i) i):=by
  intro n
  induction n with
  |zero=>intro i _ h;omega
  |succ n ih=>
   intro i hi hn
   rw [ar]
   simp only [n8]
   rcases Nat.lt_or_ge i t.length with hlt|hge
   ·rw [decide_eq_true (by omega),ay hlt,List.drop_eq_getElem_cons hlt,rh,wrap64 (by omega) (by omega)]
    simp only [cond_true,ab,I3,az]
    have e:(bif t[i].1==1 then decide (t[i].2.1=f) else false)=iU t[i] f:=by unfold iU;cases (t[i].1==1)<;>rfl
    rw [e]
    cases iU t[i] f with
    |true=>rfl
    |false=>exact ih (i+1) (by omega) (by omega)
   ·have:i=t.length:=by omega
    subst this
    rw [decide_eq_false (by omega),List.drop_length];rfl
 exact key fuel 0 (by omega) (by omega)
theorem W0 (f:cL):vy f=some ((List.range 8).map fun k=>(eV f k:Int)):=by
 unfold vy
 have hfu:=bQ
 have key:=xP (R:=List Int) (T:=l9 (fun (y2:List Int) (y3:Int)=>some y2) f) 8 (fun (_:Unit) i=>((List.range i).map (fun k=>(eV f k:Int)),(i:Int)))
  (fun _ s k=>k s) (fun _=>some ((List.range 8).map fun k=>(eV f k:Int)))
  (fun i s nx hi=>by
   simp only [l9,S8]
   rw [decide_eq_true (by omega),wrap64 (n:=(i:Int)+1) (by omega) (by omega)]
   simp only [cond_true,ab,MR f i hi]
   rw [if_neg (by omega),aq (by simp;omega),List.range_succ,List.map_append]
   rfl)
  (fun s nx=>by simp only [l9];rfl)
  fuel 0 () (by omega) (by omega)
 exact key
def clear (t:List Slot)(f:cL)(i:Nat):Nat→Nat→Bool
 |0,_=>true
 |n+1,k=>if eV f k=i then true else if (ck t (eV f k)).1=0 then false else clear t f i n (k+1)
theorem QR {R:Type}(k0:Int→Option R)(k1:Bool→Int→Option R)(hit fin:Option R)(h0:∀x,k0 x=fin)(h1:∀x,k1 false x=hit)(v2:Bool)(i:Nat)(v12:List Slot)(v13 v14:Int)(t:List Slot)(f:cL)(ht:t.length=8):
 ar (eE k0 k1 v2 (i:Int) v12 v13 v14 ((List.range 8).map fun k=>(eV f k:Int)) (((List.range 8).map fun k=>(eV f k:Int)).length:Int) t) fuel 0=cond (clear t f i 8 0) fin hit:=by
 have hfu:=bQ
 have hl:((List.range 8).map fun k=>(eV f k:Int)).length=8:=by simp
 have key:=xP (R:=R) (T:=eE k0 k1 v2 (i:Int) v12 v13 v14 ((List.range 8).map fun k=>(eV f k:Int)) (((List.range 8).map fun k=>(eV f k:Int)).length:Int) t) 8 (fun (_:Unit) i=>(i:Int))
  (fun k s c=>if eV f k=i then fin else if (ck t (eV f k)).1=0 then hit else c s) (fun _=>fin)
  (fun k s nx hk=>by
   have hw:eV f k<t.length:=by have:=AW f k;omega
   simp only [eE]
   rw [decide_eq_true (by omega),ay (show k<((List.range 8).map fun k=>(eV f k:Int)).length by omega),wrap64 (n:=(k:Int)+1) (by omega) (by omega)]
   simp only [cond_true,ab,List.getElem_map,List.getElem_range,ay hw,pJ hw,h0,h1]
   by_cases e1:eV f k=i
   ·subst e1;simp
   ·have:((eV f k:Int)==(i:Int))=false:=by simp;omega
    rw [this,if_neg e1]
    by_cases e2:t[eV f k].1=0
    ·simp [e2]
    ·have:(t[eV f k].1==0)=false:=by simp [e2]
     rw [this,if_neg e2];rfl)
  (fun s nx=>by
   simp only [eE]
   rw [decide_eq_false (by omega)];exact h0 _)
  fuel 0 () (by omega) (by omega)
 refine key.trans ?_
 have main:∀n k,Wr (R:=R) (fun k (s:Unit) c=>if eV f k=i then fin else if (ck t (eV f k)).1=0 then hit else c s) (fun _=>fin) 8 n k ()=cond (clear t f i n k) fin hit:=by
  intro n
  induction n with
  |zero=>intro k;rfl
  |succ n ih=>
   intro k
   rw [Wr,clear]
   split
   ·rfl
   ·split
    ·rfl
    ·exact ih (k+1)
 exact main 8 0
def KV:cL:=(0,0,0,0,0)
theorem KW (p:cL):((p.1==0)&&((p.2.1==0)&&((p.2.2.1==0)&&((p.2.2.2.1==0)&&((p.2.2.2.2==0)&&true)))))=decide (p=KV):=I3 p KV
def He (s:Slot):Bool:=bc s.1 0 2&&bc s.2.2 0 3&&((s.1==1)||(s.2.2==0)&&decide (s.2.1=KV))
def gX (t:List Slot)(i:Nat):Bool:=He (ck t i)&&(!((ck t i).1==1)||(walk t (ck t i).2.1 8 0==(i:Int)))
def np (t:List Slot)(i:Nat):Bool:=He (ck t i)&&(!((ck t i).1==1)||(rh (ck t i).2.1 t 0==(i:Int))&&clear t (ck t i).2.1 i 8 0)
def kF (t:List Slot):Bool:=(t.length==8)&&(List.range 8).all (gX t)
theorem Ho (t:List Slot):pj t=some (kF t):=by
 unfold pj kF
 by_cases ht:t.length=8
 ·have e:((t.length:Int) !=8)=false:=by rw [ht];rfl
  have e2:(t.length==8)=true:=by rw [ht];rfl
  rw [e,e2]
  simp only [cond_false,Bool.true_and]
  rw [cI (hit:=some false) (fin:=some true) (gX t) 8 (by omega) (fun i nx hi=> ?hs) (fun nx=> ?hf)]
  case hs=>
   have hl:i<t.length:=by omega
   simp only [mW]
   rw [decide_eq_true (by omega),ay hl,wrap64 (by omega) (by omega)]
   simp only [cond_true,ab,aU,az,KW,Mm t _ ht,gX,pJ hl,He,bne]
   cases bc t[i].1 0 2<;>cases bc t[i].2.2 0 3<;>cases (t[i].1==1)<;>cases (t[i].2.2==0)<;>cases decide (t[i].2.1=KV)<;>first|rfl|(cases (walk t t[i].2.1 8 0==(i:Int))<;>rfl)
  case hf=>
   simp only [mW]
   rw [decide_eq_false (by omega)];rfl
  cases (List.range 8).all (gX t)<;>rfl
 ·have e:((t.length:Int) !=8)=true:=by simp;omega
  have e2:(t.length==8)=false:=by simp [ht]
  rw [e,e2];rfl
theorem NO (t:List Slot):kV t=some ((t.length==8)&&(List.range 8).all (np t)):=by
 unfold kV
 by_cases ht:t.length=8
 ·have e:((t.length:Int) !=8)=false:=by rw [ht];rfl
  have e2:(t.length==8)=true:=by rw [ht];rfl
  rw [e,e2]
  simp only [cond_false,Bool.true_and]
  rw [cI (hit:=some false) (fin:=some true) (np t) 8 (by omega) (fun i nx hi=> ?hs) (fun nx=> ?hf)]
  case hs=>
   have hl:i<t.length:=by omega
   simp only [mJ]
   rw [decide_eq_true (by omega),ay hl,wrap64 (by omega) (by omega)]
   simp only [cond_true,ab,bg,az,KW,Lm t _ (show t.length≤1000000000 by omega),W0,np,pJ hl,He,bne]
   rw [QR (fun _=>nx ((i:Int)+1)) (fun (y:Bool) (_:Int)=>some y) (some false) (nx ((i:Int)+1)) (fun _=>rfl) (fun _=>rfl) _ _ _ _ _ _ _ ht]
   cases bc t[i].1 0 2<;>cases bc t[i].2.2 0 3<;>cases (t[i].1==1)<;>cases (t[i].2.2==0)<;>cases decide (t[i].2.1=KV)<;>first|rfl|(cases (rh t[i].2.1 t 0==(i:Int))<;>first|rfl|(cases clear t t[i].2.1 i 8 0<;>rfl))
  case hf=>
   simp only [mJ]
   rw [decide_eq_false (by omega)];rfl
  cases (List.range 8).all (np t)<;>rfl
 ·have e:((t.length:Int) !=8)=true:=by simp;omega
  have e2:(t.length==8)=false:=by simp [ht]
  rw [e,e2];rfl
theorem HC (t:List Slot)(f:cL)(i:Nat):∀n k,walk t f n k=(i:Int)→iU (ck t i) f=true∧clear t f i n k=true∧∃j,j<n∧eV f (k+j)=i
 |0,k,h=>by unfold walk at h;omega
 |n+1,k,h=>by
  unfold walk at h
  unfold clear
  by_cases h0:(ck t (eV f k)).1=0
  ·rw [if_pos h0] at h;omega
  ·rw [if_neg h0] at h
   by_cases h1:iU (ck t (eV f k)) f=true
   ·rw [if_pos h1] at h
    have:eV f k=i:=by omega
    subst this
    exact ⟨h1,by simp,0,by omega,rfl⟩
   ·rw [if_neg h1] at h
    obtain ⟨a,b,j,hj,e⟩:=HC t f i n (k+1) h
    refine ⟨a, ?_,j+1,by omega,by rw [←e];congr 1;omega⟩
    rw [if_neg h0,b];split<;>rfl
theorem Qo (t:List Slot)(f:cL)(i:Nat)(hu:iU (ck t i) f=true)(huniq:∀j,j<8→iU (ck t j) f=true→j=i):∀n k,clear t f i n k=true→(∃j,j<n∧eV f (k+j)=i)→walk t f n k=(i:Int)
 |0,k,_,h=>by obtain ⟨j,hj,_⟩:=h;omega
 |n+1,k,hc,⟨j,hj,e⟩=>by
  unfold walk
  unfold clear at hc
  by_cases h1:eV f k=i
  ·rw [h1,if_neg,if_pos hu]
   intro h0
   unfold iU at hu
   rw [h0] at hu
   simp at hu
  ·rw [if_neg h1] at hc
   by_cases h0:(ck t (eV f k)).1=0
   ·rw [if_pos h0] at hc;cases hc
   ·rw [if_neg h0] at hc
    rw [if_neg h0,if_neg (fun hu'=>h1 (huniq _ (AW f k) hu'))]
    refine Qo t f i hu huniq n (k+1) hc ?_
    cases j with
    |zero=>exact absurd e h1
    |succ j=>exact ⟨j,by omega,by rw [←e];congr 1;omega⟩
theorem XN (f:cL)(i:Nat)(hi:i<8):∃j,j<8∧eV f (0+j)=i:=by
 have:=K9 f
 refine ⟨(i+8-(yu f).toNat)%8,by omega, ?_⟩
 unfold eV;omega
theorem wZ (f:cL):∀(t:List Slot)(m:Nat),(∃j,j<t.length∧iU (ck t j) f=true)→∃j,j<t.length∧iU (ck t j) f=true∧rh f t m=((m+j:Nat):Int)
 |[],_,h=>by obtain ⟨j,hj,_⟩:=h;simp at hj
 |s::r,m,⟨j,hj,e⟩=>by
  unfold rh
  by_cases hs:iU s f=true
  ·rw [if_pos hs];exact ⟨0,by simp,by simpa [ck] using hs,by simp⟩
  ·rw [if_neg hs]
   cases j with
   |zero=>exact absurd (by simpa [ck] using e) hs
   |succ j=>
    obtain ⟨j',h1,h2,h3⟩:=wZ f r (m+1) ⟨j,by simpa using hj,by simpa [ck] using e⟩
    refine ⟨j'+1,by simpa using h1,by simpa [ck] using h2, ?_⟩
    have:((m:Int)+1)=((m+1:Nat):Int):=by omega
    rw [this,h3];congr 1;omega
theorem Oo (t:List Slot)(ht:t.length=8):(List.range 8).all (np t)=(List.range 8).all (gX t):=by
 rw [Bool.eq_iff_iff,List.all_eq_true,List.all_eq_true]
 simp only [List.mem_range]
 constructor
 ·intro h i hi
  have hI:=h i hi
  unfold np at hI
  unfold gX
  simp only [Bool.and_eq_true,Bool.or_eq_true,Bool.not_eq_true',beq_iff_eq] at hI⊢
  refine ⟨hI.1, ?_⟩
  rcases hI.2 with h1|⟨h1,h2⟩
  ·exact .inl h1
  ·by_cases hu:((ck t i).1==1)=true
   ·right
    have hu':iU (ck t i) (ck t i).2.1=true:=by unfold iU;rw [hu];simp
    refine Qo t _ i hu' (fun j hj huj=> ?_) 8 0 h2 (XN _ i hi)
    have hJ:=h j hj
    unfold np at hJ
    unfold iU at huj
    simp only [Bool.and_eq_true,decide_eq_true_eq] at huj
    simp only [Bool.and_eq_true,Bool.or_eq_true,Bool.not_eq_true',beq_iff_eq] at hJ
    rcases hJ.2 with h3|⟨h3,_⟩
    ·rw [huj.1] at h3;cases h3
    ·rw [huj.2] at h3;omega
   ·exact .inl (by simpa using hu)
 ·intro h i hi
  have hI:=h i hi
  unfold gX at hI
  unfold np
  simp only [Bool.and_eq_true,Bool.or_eq_true,Bool.not_eq_true',beq_iff_eq] at hI⊢
  refine ⟨hI.1, ?_⟩
  rcases hI.2 with h1|h1
  ·exact .inl h1
  ·right
   obtain ⟨hu,hc,_⟩:=HC t _ i 8 0 h1
   refine ⟨?_,hc⟩
   obtain ⟨j,hj,huj,e⟩:=wZ (ck t i).2.1 t 0 ⟨i,by omega,hu⟩
   have hJ:=h j (by omega)
   unfold gX at hJ
   unfold iU at huj
   simp only [Bool.and_eq_true,decide_eq_true_eq] at huj
   simp only [Bool.and_eq_true,Bool.or_eq_true,Bool.not_eq_true',beq_iff_eq] at hJ
   rcases hJ.2 with h3|h3
   ·rw [huj.1] at h3;cases h3
   ·rw [huj.2,h1] at h3
    have e':rh (ck t i).2.1 t 0=((0+j:Nat):Int):=e
    rw [e'];omega
theorem GO (t:List Slot):kV t=some (kF t):=by
 rw [NO,kF]
 by_cases ht:t.length=8
 ·rw [Oo t ht]
 ·have e2:(t.length==8)=false:=by simp [ht]
  rw [e2];rfl
def P6 (n:Int):Bool:=(n==1)||(n==2)||(n==4)||(n==8)||(n==16)
theorem NX (n:Int):sq n=some (P6 n):=by
 simp only [sq,az,ab,P6]
 cases (n==1)<;>cases (n==2)<;>cases (n==4)<;>cases (n==8)<;>rfl
def m8 (s:dq)(q:Int):Bool:=bc q 1 4&&((s.1.length:Int)==16)&&P6 s.2.length&&s.2.all fun x=>bc x 0 (q-1)
theorem zk (s:dq)(q:Int)(h:s.2.length≤1000000000):mA s q=some (m8 s q):=by
 unfold mA m8
 simp only [aU,NX,ab,az,bne]
 by_cases hq:bc q 1 4=true
 ·rw [nk (hit:=some false) (fin:=some true) (fun x=>bc x 0 (q-1)) s.2 (by omega) (fun i hi nx=> ?hs) (fun nx=> ?hf)]
  case hs=>
   rw [aR] at hq
   simp only [lA]
   rw [decide_eq_true (by omega),ay hi,wrap64 (n:=(i:Int)+1) (by omega) (by omega),wrap64 (n:=q-1) (by omega) (by omega)]
   simp only [cond_true,ab,aU];rfl
  case hf=>
   simp only [lA]
   rw [decide_eq_false (by omega)];rfl
  rw [hq]
  cases ((s.1.length:Int)==16)<;>cases P6 s.2.length<;>cases s.2.all (fun x=>bc x 0 (q-1))<;>rfl
 ·have hq':bc q 1 4=false:=by simpa using hq
  rw [hq'];rfl
theorem EC (s:dq)(q:Int)(h:s.2.length≤1000000000):p7 s q=some (m8 s q):=by
 rw [←zk s q h];rfl
def dm (s:bG)(q:Int):Bool:=rz s.1&&kF s.2.1&&m8 s.2.2 q&&s.1.all (fun r=> !(decide (r.2.2.2.2.2.2.2.2≥q)))&&s.2.1.all (fun x=> !(decide (x.2.2≥q)))
theorem AI (s:bG)(q:Int)(h1:s.1.length≤1000000000)(h2:s.2.1.length≤1000000000)(h3:s.2.2.2.length≤1000000000):iR s q=some (dm s q):=by
 unfold iR dm
 simp only [xY _ h1,Ho,zk _ _ h3,ab,az]
 rw [nk (hit:=some false) (fin:=cond (s.2.1.all (fun x=> !(decide (x.2.2≥q)))) (some true) (some false)) (fun r:cf=> !(decide (r.2.2.2.2.2.2.2.2≥q))) s.1 (by omega) (fun i hi nx=> ?hs) (fun nx=> ?hf)]
 case hs=>
  simp only [iv]
  rw [decide_eq_true (by omega),ay hi,wrap64 (by omega) (by omega)]
  simp only [cond_true,ab,Bool.not_not];rfl
 case hf=>
  simp only [iv]
  rw [decide_eq_false (by omega)]
  simp only [cond_false]
  rw [nk (hit:=some false) (fin:=some true) (fun x:Slot=> !(decide (x.2.2≥q))) s.2.1 (by omega) (fun i hi nx=> ?hs) (fun nx=> ?hf)]
  case hs=>
   simp only [iw]
   rw [decide_eq_true (by omega),ay hi,wrap64 (by omega) (by omega)]
   simp only [cond_true,ab,Bool.not_not];rfl
  case hf=>
   simp only [iw]
   rw [decide_eq_false (by omega)];rfl
 cases rz s.1<;>cases kF s.2.1<;>cases m8 s.2.2 q<;>cases s.1.all (fun r=> !(decide (r.2.2.2.2.2.2.2.2≥q)))<;>cases s.2.1.all (fun x=> !(decide (x.2.2≥q)))<;>rfl
theorem Aa (s:bG)(q:Int)(h1:s.1.length≤1000000000)(h2:s.2.1.length≤1000000000)(h3:s.2.2.2.length≤1000000000):iH s q=some (dm s q):=by
 unfold iH dm
 simp only [GM _ h1,GO,EC _ _ h3,ab,az]
 rw [nk (hit:=some false) (fin:=cond (s.2.1.all (fun x=> !((x.1==1)&&decide (x.2.2≥q)))) (some true) (some false)) (fun r:cf=> !((r.2.2.2.2.2.2.2.1==0)&&decide (r.2.2.2.2.2.2.2.2≥q))) s.1 (by omega) (fun i hi nx=> ?hs) (fun nx=> ?hf)]
 case hs=>
  simp only [ie]
  rw [decide_eq_true (by omega),ay hi,wrap64 (by omega) (by omega)]
  simp only [cond_true,ab,Bool.not_not,az]
  cases (s.1[i].2.2.2.2.2.2.2.1==0)<;>rfl
 case hf=>
  simp only [ie]
  rw [decide_eq_false (by omega)]
  simp only [cond_false]
  rw [nk (hit:=some false) (fin:=some true) (fun x:Slot=> !((x.1==1)&&decide (x.2.2≥q))) s.2.1 (by omega) (fun i hi nx=> ?hs) (fun nx=> ?hf)]
  case hs=>
   simp only [gq]
   rw [decide_eq_true (by omega),ay hi,wrap64 (by omega) (by omega)]
   simp only [cond_true,ab,Bool.not_not,az]
   cases (s.2.1[i].1==1)<;>rfl
  case hf=>
   simp only [gq]
   rw [decide_eq_false (by omega)];rfl
 cases hr:rz s.1 with
 |false=>rfl
 |true=>
  cases ht:kF s.2.1 with
  |false=>rfl
  |true=>
   cases hs:m8 s.2.2 q with
   |false=>rfl
   |true=>
    have hq:1≤q:=by
     unfold m8 at hs
     simp only [Bool.and_eq_true,aR] at hs
     exact hs.1.1.1.1
    have e1:s.1.all (fun r=> !((r.2.2.2.2.2.2.2.1==0)&&decide (r.2.2.2.2.2.2.2.2≥q)))=s.1.all (fun r=> !(decide (r.2.2.2.2.2.2.2.2≥q))):=by
     unfold rz at hr
     simp only [Bool.and_eq_true,List.all_eq_true] at hr
     rw [Bool.eq_iff_iff,List.all_eq_true,List.all_eq_true]
     refine forall_congr' fun r=>forall_congr' fun hm=> ?_
     rcases Md (hr.1 r hm) with h0|h0
     ·rw [h0];simp
     ·rw [h0]
      simp only [decide_eq_false (show¬(0:Int)≥q by omega),Bool.and_false]
    have e2:s.2.1.all (fun x=> !((x.1==1)&&decide (x.2.2≥q)))=s.2.1.all (fun x=> !(decide (x.2.2≥q))):=by
     unfold kF at ht
     simp only [Bool.and_eq_true,List.all_eq_true,List.mem_range,beq_iff_eq] at ht
     rw [Bool.eq_iff_iff,List.all_eq_true,List.all_eq_true]
     refine forall_congr' fun x=>forall_congr' fun hm=> ?_
     obtain ⟨i,hi,rfl⟩:=List.mem_iff_getElem.1 hm
     have hsl:=ht.2 i (by omega)
     unfold gX He at hsl
     rw [pJ hi] at hsl
     simp only [Bool.and_eq_true,Bool.or_eq_true,beq_iff_eq] at hsl
     rcases hsl.1.2 with h0|⟨h0,_⟩
     ·rw [h0];simp
     ·rw [h0]
      simp only [decide_eq_false (show¬(0:Int)≥q by omega),Bool.and_false]
    rw [e1,e2]
    cases s.1.all (fun r=> !(decide (r.2.2.2.2.2.2.2.2≥q)))<;>cases s.2.1.all (fun x=> !(decide (x.2.2≥q)))<;>rfl
end
end Go.Pu
end
section
namespace Go.Pu
open Go.Dn
set_option linter.unusedSimpArgs false
set_option linter.unusedVariables false
noncomputable section
def cP (m:List Bytes):Bool:=m.all (fun x=>(x.length:Int)==128)&&decide ((m.length:Int)≤64)
theorem wb (m:List Bytes)(h:m.length≤1000000000):jf m=some (cP m):=by
 unfold jf cP
 rw [nk (hit:=some false) (fin:=some (decide ((m.length:Int)≤64))) (fun x:Bytes=>(x.length:Int)==128) m (by omega) (fun i hi nx=> ?hs) (fun nx=> ?hf)]
 case hs=>
  simp only [lv]
  rw [decide_eq_true (by omega),ay hi,wrap64 (by omega) (by omega)];rfl
 case hf=>
  simp only [lv]
  rw [decide_eq_false (by omega)];rfl
 cases m.all (fun x=>(x.length:Int)==128)<;>rfl
theorem yW (m:List Bytes)(h:m.length≤1000000000):lY m=some (cP m):=wb m h
def FX:aw:=(0,0,0,false)
def Bs (m:aw):Bool:=bc m.1 0 7&&(bc m.2.1 0 1023&&bc m.2.2.1 0 63)
def lJ (d p:Int)(m:aw):Bool:=(m.1==d)&&(m.2.1==p)
def Lz (l:List aw)(i:Nat):Bool:=Bs (l.getD i FX)&&(List.range i).all (fun j=> !(lJ (l.getD i FX).1 (l.getD i FX).2.1 (l.getD j FX)))
def cz (l:List aw):Bool:=decide ((l.length:Int)≤96)&&(List.range l.length).all (Lz l)
theorem AE (l:List aw)(h:l.length≤1000000000):iO l=some (cz l):=by
 unfold iO cz
 rw [cI (hit:=some false) (fin:=some true) (Lz l) l.length (by omega) (fun i nx hi=> ?hs) (fun nx=> ?hf)]
 case hs=>
  simp only [iq]
  rw [decide_eq_true (by omega),ay hi,wrap64 (by omega) (by omega)]
  simp only [cond_true,ab,aU,az]
  rw [cI (hit:=some false) (fin:=nx ((i:Int)+1)) (fun j=> !(lJ l[i].1 l[i].2.1 (l.getD j FX))) i (by omega) (fun j nx hj=> ?hs2) (fun nx=> ?hf2)]
  case hs2=>
   have hjl:j<l.length:=by omega
   simp only [gy]
   rw [decide_eq_true (by omega),ay hjl,wrap64 (by omega) (by omega)]
   simp only [cond_true,ab,az,aM hjl,lJ,cF,Bool.not_not];rfl
  case hf2=>
   simp only [gy]
   rw [decide_eq_false (by omega)];rfl
  simp only [Lz,Bs,aM hi,cT]
  cases bc l[i].1 0 7<;>cases bc l[i].2.1 0 1023<;>cases bc l[i].2.2.1 0 63<;>cases (List.range i).all (fun j=> !(lJ l[i].1 l[i].2.1 (l.getD j FX)))<;>rfl
 case hf=>
  simp only [iq]
  rw [decide_eq_false (by omega)];rfl
 have e:decide ((l.length:Int)>96)= !decide ((l.length:Int)≤96):=by rw [Bool.eq_iff_iff];simp
 rw [e]
 cases decide ((l.length:Int)≤96)<;>cases (List.range l.length).all (Lz l)<;>rfl
def LY (l:List aw)(d p:Int):Int:=match l.findIdx? (lJ d p) with|some i=>(i:Int)|none=> -1
theorem Lj (l:List aw)(d p:Int)(h:l.length≤1000000000):gE l d p=some (LY l d p):=by
 unfold gE LY
 rw [Bi (hit:=fun i=>some i) (fin:=some (-1)) (lJ d p) l (by omega) (fun i hi nx=> ?hs) (fun nx=> ?hf)]
 case hs=>
  simp only [gu]
  rw [decide_eq_true (by omega),ay hi,wrap64 (by omega) (by omega)]
  simp only [cond_true,ab,az,cF,lJ];rfl
 case hf=>
  simp only [gu]
  rw [decide_eq_false (by omega)];rfl
 cases l.findIdx? (lJ d p)<;>rfl
theorem Oh (l:List aw)(i:Nat)(hi:i<l.length):(LY l l[i].1 l[i].2.1==(i:Int))=(List.range i).all (fun j=> !(lJ l[i].1 l[i].2.1 (l.getD j FX))):=by
 have hself:lJ l[i].1 l[i].2.1 l[i]=true:=by simp [lJ]
 unfold LY
 cases hq:l.findIdx? (lJ l[i].1 l[i].2.1) with
 |none=>
  rw [List.findIdx?_eq_none_iff] at hq
  rw [hq l[i] (List.getElem_mem hi)] at hself;cases hself
 |some k=>
  rw [List.findIdx?_eq_some_iff_getElem] at hq
  obtain ⟨hk,hpk,hlt⟩:=hq
  rw [Bool.eq_iff_iff,List.all_eq_true]
  simp only [List.mem_range,beq_iff_eq,Bool.not_eq_true']
  constructor
  ·intro e j hj
   have hjl:j<l.length:=by omega
   rw [aM hjl]
   have:=hlt j (by omega)
   simpa using this
  ·intro hall
   rcases Nat.lt_trichotomy k i with hki|hki|hki
   ·have:=hall k hki
    rw [aM hk,hpk] at this;cases this
   ·omega
   ·have:=hlt i hki
    rw [hself] at this;simp at this
theorem zW (l:List aw)(h:l.length≤1000000000):iD l=some (cz l):=by
 unfold iD cz
 rw [cI (hit:=some false) (fin:=some (decide ((l.length:Int)≤96))) (Lz l) l.length (by omega) (fun i nx hi=> ?hs) (fun nx=> ?hf)]
 case hs=>
  simp only [ia]
  rw [decide_eq_true (by omega),ay hi,wrap64 (by omega) (by omega)]
  simp only [cond_true,ab,bg,az,Lj _ _ _ h,bne,Oh l i hi,Lz,Bs,aM hi]
  cases bc l[i].1 0 7<;>cases bc l[i].2.1 0 1023<;>cases bc l[i].2.2.1 0 63<;>cases (List.range i).all (fun j=> !(lJ l[i].1 l[i].2.1 (l.getD j FX)))<;>rfl
 case hf=>
  simp only [ia]
  rw [decide_eq_false (by omega)];rfl
 cases decide ((l.length:Int)≤96)<;>cases (List.range l.length).all (Lz l)<;>rfl
def KZ (n:Int)(l:List Int)(i:Nat):Bool:=bc (l.getD i 0) 0 (n-1)&& !((l.take i).contains (l.getD i 0))
def mn (p:cx):Bool:=bc p.1 0 130944&&(bc p.2.1 1 512&&(bc p.2.2.1 0 16&&(List.range p.2.2.2.length).all (KZ p.2.2.1 p.2.2.2)))
def wP (n:Int)(l:List Int):List Bool:=(List.range n.toNat).map fun k:Nat=>l.contains (k:Int)
theorem Hb (n:Int)(l:List Int):(wP n l).length=n.toNat:=by simp [wP]
theorem xV (n:Int)(l:List Int)(k:Nat)(h:k<(wP n l).length):(wP n l)[k]=l.contains (k:Int):=by simp [wP]
theorem RH (n:Int)(l:List Int)(k:Nat)(h:k<n.toNat):(wP n l).set k true=wP n (l++[(k:Int)]):=by
 apply List.ext_getElem
 ·simp [wP]
 ·intro j h1 h2
  rw [List.getElem_set]
  split
  ·rename_i e;subst e;rw [xV];simp
  ·rename_i e
   rw [xV,xV]
   simp only [List.contains_append]
   have:([(k:Int)].contains (j:Int))=false:=by simp;omega
   rw [this];simp
theorem L1 {T:(List Bool×Int→Option Bool)→List Bool×Int→Option Bool}(n:Int)(l:List Int)(hl:l.length≤1000000000)
 (hs:∀i (hi:i<l.length)(s:List Bool) nx,T nx (s,(i:Int))=aa (cond (!(bc l[i] 0 (n-1))) (some true) (aa (idx s l[i]) fun x=>some x)) fun q=>
  cond q (some false) (aa (idx s l[i]) fun _=>aa (idx s l[i]) fun _=>nx (s.set l[i].toNat true,((i+1:Nat):Int)))) (hf:∀s nx,T nx (s,(l.length:Int))=some true):
 ar T fuel (List.replicate n.toNat false,0)=some ((List.range l.length).all (KZ n l)):=by
 have e0:(List.replicate n.toNat false,(0:Int))=(wP n (l.take 0),((0:Nat):Int)):=by
  congr 1
  simp only [wP,List.take_zero,List.contains_nil,List.map_const',List.length_range]
 rw [e0,Ba (hit:=some false) (fin:=some true) (fun i=>(wP n (l.take i),(i:Int))) (KZ n l) l.length (by omega) (fun i nx hi hp=> ?hs) (fun _ nx=>hf _ nx)]
 case hs=>
  rw [hs i hi]
  unfold KZ
  rw [aM hi]
  by_cases hin:bc l[i] 0 (n-1)=true
  ·have hb:=hin
   rw [aR] at hb
   obtain ⟨k,hk⟩:∃k:Nat,l[i]=(k:Int):=⟨l[i].toNat,by omega⟩
   have hkn:k<(wP n (l.take i)).length:=by rw [Hb];omega
   rw [hin,hk,ay hkn,xV]
   simp only [Bool.not_true,cond_false,ab,Bool.true_and,Bool.not_not,Int.toNat_natCast]
   rw [RH _ _ _ (by rw [Hb] at hkn;exact hkn),←hk,←List.take_succ_eq_append_getElem hi]
  ·have hin':bc l[i] 0 (n-1)=false:=by simpa using hin
   rw [hin'];rfl
 cases (List.range l.length).all (KZ n l)<;>rfl
theorem AF (p:cx)(h:p.2.2.2.length≤1000000000):kA p=some (mn p):=by
 unfold kA mn
 simp only [aU,ab,az]
 by_cases hn:bc p.2.2.1 0 16=true
 ·have hb:=hn
  rw [aR] at hb
  rw [if_pos (by omega),aq (by omega),L1 p.2.2.1 p.2.2.2 h (fun i hi s nx=> ?hs) (fun s nx=> ?hf)]
  case hs=>
   simp only [pc]
   rw [decide_eq_true (by omega),ay hi,wrap64 (n:=(i:Int)+1) (by omega) (by omega),wrap64 (n:=p.2.2.1-1) (by omega) (by omega)]
   simp only [cond_true,ab,aU];rfl
  case hf=>
   simp only [pc]
   rw [decide_eq_false (by omega)];rfl
  rw [hn]
  cases bc p.1 0 130944<;>cases bc p.2.1 1 512<;>rfl
 ·have hn':bc p.2.2.1 0 16=false:=by simpa using hn
  rw [hn']
  cases bc p.1 0 130944<;>cases bc p.2.1 1 512<;>rfl
theorem zX (p:cx)(h:p.2.2.2.length≤1000000000):jR p=some (mn p):=by
 unfold jR mn
 simp only [bg,ab,az]
 by_cases hn:bc p.2.2.1 0 16=true
 ·have hb:=hn
  rw [aR] at hb
  rw [if_pos (by omega),aq (by omega),L1 p.2.2.1 p.2.2.2 h (fun i hi s nx=> ?hs) (fun s nx=> ?hf)]
  case hs=>
   simp only [nU]
   rw [decide_eq_true (by omega),ay hi,wrap64 (n:=(i:Int)+1) (by omega) (by omega),wrap64 (n:=p.2.2.1-1) (by omega) (by omega)]
   simp only [cond_true,ab,bg];rfl
  case hf=>
   simp only [nU]
   rw [decide_eq_false (by omega)];rfl
  rw [hn]
  cases bc p.1 0 130944<;>cases bc p.2.1 1 512<;>rfl
 ·have hn':bc p.2.2.1 0 16=false:=by simpa using hn
  rw [hn']
  cases bc p.1 0 130944<;>cases bc p.2.1 1 512<;>rfl
def eF (n:Int):Bool:=(n==2)||((n==4)||((n==8)||(n==16)))
theorem vz (n:Int):lF n=some (eF n):=by
 simp only [lF,az,ab,eF,cT]
theorem xl (n:Int):l7 n=some (eF n):=vz n
theorem fW {n:Int}:eF n=true↔n=2∨n=4∨n=8∨n=16:=by simp [eF]
theorem yh (x:Int)(k:Nat)(hk:k≤64):IntKind.wrap .i64 x%(2^k:Int)=x%(2^k:Int):=by
 obtain ⟨c,hc⟩:∃c:Int,(18446744073709551616:Int)=2^k*c:=⟨2^(64-k),by rw [←Int.pow_add,show k+(64-k)=64 by omega];rfl⟩
 have:IntKind.wrap .i64 x=x∨∃q:Int,IntKind.wrap .i64 x=x+18446744073709551616*q:=by
  right
  simp only [IntKind.wrap,IntKind.bits,IntKind.signed]
  simp
  have h1:x=x%18446744073709551616+18446744073709551616*(x/18446744073709551616):=by omega
  split
  ·exact ⟨-(x/18446744073709551616)-1,by omega⟩
  ·exact ⟨-(x/18446744073709551616),by omega⟩
 rcases this with h|⟨q,h⟩
 ·rw [h]
 ·rw [h,hc,Int.mul_assoc,Int.add_mul_emod_self_left]
theorem wS (x:Int)(k:Nat)(hk:k<63):((BitVec.ofInt (IntKind.bits .i64) x&&&BitVec.ofInt (IntKind.bits .i64) (2^k-1)).toNat:Int)=x%2^k:=by
 have h2:(2:Int)^k≤2^62:=by
  have:(2:Nat)^k≤2^62:=Nat.pow_le_pow_right (by omega) (by omega)
  exact_mod_cast this
 have h0:(1:Int)≤2^k:=by
  have:1≤(2:Nat)^k:=Nat.one_le_two_pow
  exact_mod_cast this
 have hm:(BitVec.ofInt (IntKind.bits .i64) (2^k-1)).toNat=2^k-1:=by
  show (BitVec.ofInt 64 (2^k-1)).toNat=2^k-1
  rw [BitVec.toNat_ofInt,Int.emod_eq_of_lt (by omega) (by omega)]
  have:((2:Int)^k-1)=((2^k-1:Nat):Int):=by
   have:1≤(2:Nat)^k:=Nat.one_le_two_pow
   push_cast [this];rfl
  rw [this];rfl
 rw [BitVec.toNat_and,hm,Nat.and_two_pow_sub_one_eq_mod]
 show (((BitVec.ofInt 64 x).toNat%2^k:Nat):Int)=x%2^k
 rw [BitVec.toNat_ofInt]
 have hx:0≤x%18446744073709551616:=by omega
 have e:(((x%18446744073709551616).toNat%2^k:Nat):Int)=(x%18446744073709551616)%2^k:=by
  push_cast
  rw [Int.toNat_of_nonneg hx]
 refine e.trans ?_
 exact Int.emod_emod_of_dvd x ⟨2^(64-k),by rw [←Int.pow_add,show k+(64-k)=64 by omega];rfl⟩
theorem GY (x n:Int)(h0:0<n)(h1:n≤4611686018427387904):ew x n=some (x%n):=by
 unfold ew
 have:=Int.emod_nonneg x (show n≠0 by omega)
 have:=Int.emod_lt_of_pos x h0
 have hn:(n.natAbs:Int)=n:=by omega
 rw [if_neg (by omega),Int.tmod_eq_emod]
 split
 ·rw [decide_eq_false (by omega)];simp
 ·rw [decide_eq_true (by omega),wrap64 (by omega) (by omega)];simp only [cond_true,hn];congr 1;omega
def oV (r:(Int×Int×Int×Int)):Int:=if eF r.2.1 then (r.2.2.2-r.2.2.1)%(2*r.2.1) else 0
theorem Fh (r:(Int×Int×Int×Int)):my r=some (oV r):=by
 unfold my oV
 rw [vz,ab]
 cases hs:eF r.2.1 with
 |false=>rfl
 |true=>
  simp only [Bool.not_true,cond_false,if_true]
  congr 1
  rcases fW.1 hs with h|h|h|h<;>rw [h]
  ·have e:IntKind.wrap .i64 (IntKind.wrap .i64 (2*2)-1)=2^2-1:=by decide
   rw [e,wS _ 2 (by omega),yh _ 2 (by omega),wrap64 (by omega) (by omega)];rfl
  ·have e:IntKind.wrap .i64 (IntKind.wrap .i64 (2*4)-1)=2^3-1:=by decide
   rw [e,wS _ 3 (by omega),yh _ 3 (by omega),wrap64 (by omega) (by omega)];rfl
  ·have e:IntKind.wrap .i64 (IntKind.wrap .i64 (2*8)-1)=2^4-1:=by decide
   rw [e,wS _ 4 (by omega),yh _ 4 (by omega),wrap64 (by omega) (by omega)];rfl
  ·have e:IntKind.wrap .i64 (IntKind.wrap .i64 (2*16)-1)=2^5-1:=by decide
   rw [e,wS _ 5 (by omega),yh _ 5 (by omega),wrap64 (by omega) (by omega)];rfl
theorem Lp (r:(Int×Int×Int×Int)):lZ r=some (oV r):=by
 unfold lZ oV
 rw [xl,ab]
 cases hs:eF r.2.1 with
 |false=>rfl
 |true=>
  simp only [Bool.not_true,cond_false,if_true]
  have hb:=fW.1 hs
  rw [wrap64 (n:=2*r.2.1) (by omega) (by omega)]
  have a1:=Int.emod_nonneg r.2.2.2 (show 2*r.2.1≠0 by omega)
  have a2:=Int.emod_lt_of_pos r.2.2.2 (show 0<2*r.2.1 by omega)
  have a3:=Int.emod_nonneg r.2.2.1 (show 2*r.2.1≠0 by omega)
  have a4:=Int.emod_lt_of_pos r.2.2.1 (show 0<2*r.2.1 by omega)
  simp only [GY _ (2*r.2.1) (show 0<2*r.2.1 by omega) (by omega),ab]
  rw [wrap64 (by omega) (by omega),←Int.sub_emod]
def nB (r:(Int×Int×Int×Int)):Bool:=bc r.1 0 130944&&(eF r.2.1&&(bc r.2.2.1 0 (2*r.2.1-1)&&(bc r.2.2.2 0 (2*r.2.1-1)&&decide (oV r≤r.2.1))))
theorem xW {n:Int}(h:eF n=true):IntKind.wrap .i64 (IntKind.wrap .i64 (2*n)-1)=2*n-1:=by
 have:=fW.1 h
 rw [wrap64 (n:=2*n) (by omega) (by omega),wrap64 (by omega) (by omega)]
theorem xo (r:(Int×Int×Int×Int)):kC r=some (nB r):=by
 unfold kC nB
 simp only [aU,vz,Fh,ab,az,cF]
 cases hs:eF r.2.1 with
 |false=>rfl
 |true=>rw [xW hs]
theorem zZ (r:(Int×Int×Int×Int)):jT r=some (nB r):=by
 unfold jT nB
 simp only [bg,xl,Lp,ab,az,cF]
 cases hs:eF r.2.1 with
 |false=>rfl
 |true=>rw [xW hs]
theorem yZ (p:cx)(h:p.2.2.2.length≤1000000000):ix p=some p:=by
 unfold ix
 rw [aq (by simp;omega)];rfl
theorem jL (l:List Int)(h:l.length≤1000000000):da l=some l:=by
 unfold da
 rw [aq (by simp;omega)];rfl
theorem wU (p:cx)(h:p.2.2.2.length≤1000000000):fU p=some p:=by
 unfold fU
 rw [jL _ h];rfl
def PY (p:cx)(l:List Int):cx:=(p.1,p.2.1,p.2.2.1,p.2.2.2++l)
def yr (p:cx)(l:List Int):Bool:=mn p&&mn (PY p l)
def QN (p:cx)(l:List Int):cx×Bool:=bif yr p l then (PY p l,true) else (p,false)
theorem T6 (p:cx)(l:List Int)(h:p.2.2.2.length+l.length≤1000000000):eG p l=some (QN p l):=by
 unfold eG
 rw [yZ p (by omega),ab,aq (by omega),AF p (by omega)]
 rw [AF (p.1,p.2.1,p.2.2.1,p.2.2.2++l) (by simp;omega)]
 simp only [ab,az,QN,yr]
 show _=some (bif mn p&&mn (p.1,p.2.1,p.2.2.1,p.2.2.2++l) then _ else _)
 cases mn p<;>cases mn (p.1,p.2.1,p.2.2.1,p.2.2.2++l)<;>rfl
theorem S6 (p:cx)(l:List Int)(h:p.2.2.2.length+l.length≤1000000000):eC p l=some (QN p l):=by
 unfold eC
 rw [wU p (by omega),ab,aq (by omega),zX p (by omega)]
 rw [zX (p.1,p.2.1,p.2.2.1,p.2.2.2++l) (by simp;omega)]
 simp only [ab,az,QN,yr]
 show _=some (bif mn p&&mn (p.1,p.2.1,p.2.2.1,p.2.2.2++l) then _ else _)
 cases mn p<;>cases mn (p.1,p.2.1,p.2.2.1,p.2.2.2++l)<;>rfl
theorem SR (p:cx)(l:List Int):(QN p l).2=yr p l:=by unfold QN;cases yr p l<;>rfl
def il (n:Int)(s:dp):Bool:=bc s.2.1 1 n&&bc s.1 0 65535
def bW (l:List dp):List Int:=l.flatMap (·.2.2)
def fz (l:List dp):Int:=(l.map (·.2.1)).sum
def txB (t:cu):Bool:=nB t.1&&(mn t.2.1&&(bc t.2.2.2 0 65535&&(t.2.2.1.all (il t.1.2.1)&&(yr t.2.1 (bW t.2.2.1)&&decide (fz t.2.2.1≤t.1.2.1)))))
theorem zB (n:Int):∀l:List dp,l.all (il n)=true→0≤fz l
 |[],_=>by simp [fz]
 |x::l,h=>by
  simp only [List.all_cons,Bool.and_eq_true] at h
  have:=zB n l h.2
  have hx:=h.1
  unfold il at hx
  simp only [Bool.and_eq_true,aR] at hx
  simp only [fz,List.map_cons,List.sum_cons] at this⊢
  omega
theorem Hm (p:cx)(n:Int)(hn:0≤n∧n≤16)(fin:Int×List Int→Option Bool)(hfin:∀s:Int×List Int,p.2.2.2.length+s.2.length≤1000000000→fin s=some (yr p s.2&&decide (s.1≤n))):
 ∀(l:List dp)(sum:Int)(acc:List Int),0≤sum→sum+16*l.length≤100000000000→p.2.2.2.length+(acc.length+(bW l).length)≤1000000000→
 nn (fun x (s:Int×List Int) k=>cond (!(il n x)) (some false) (room (s.2.length+x.2.2.length) (k (IntKind.wrap .i64 (s.1+x.2.1),s.2++x.2.2)))) fin l (sum,acc)
  =some (l.all (il n)&&(yr p (acc++bW l)&&decide (sum+fz l≤n)))
 |[],sum,acc,h0,h1,h2=>by
  rw [nn,hfin _ (by simp [bW] at h2;exact h2)]
  simp [bW,fz]
 |x::l,sum,acc,h0,h1,h2=>by
  have hb:bW (x::l)=x.2.2++bW l:=by simp [bW]
  rw [hb,List.length_append] at h2
  rw [nn,List.all_cons]
  cases hx:il n x with
  |false=>rfl
  |true=>
   have hx':=hx
   unfold il at hx'
   simp only [Bool.and_eq_true,aR] at hx'
   simp only [List.length_cons,Int.natCast_add,Int.natCast_one] at h1
   simp only [Bool.not_true,cond_false,Bool.true_and]
   rw [aq (by omega),wrap64 (by omega) (by omega),Hm p n hn fin hfin l _ _ (by omega) (by omega) (by rw [List.length_append];omega)]
   rw [hb,List.append_assoc]
   have e:sum+x.2.1+fz l=sum+fz (x::l):=by simp only [fz,List.map_cons,List.sum_cons];omega
   rw [e]
theorem GN (p:cx)(n:Int)(hn:n≤16)(fin:Int×List Int→Option Bool)(hfin:∀s:Int×List Int,p.2.2.2.length+s.2.length≤1000000000→fin s=some (yr p s.2)):
 ∀(l:List dp)(left:Int)(acc:List Int),0≤left→left≤n→p.2.2.2.length+(acc.length+(bW l).length)≤1000000000→
 nn (fun x (s:Int×List Int) k=>cond (decide (x.2.1<1)||(decide (x.2.1>s.1)|| !(bc x.1 0 65535))) (some false) (room (s.2.length+x.2.2.length) (k (IntKind.wrap .i64 (s.1-x.2.1),s.2++x.2.2)))) fin l (left,acc)
  =some (l.all (il n)&&(yr p (acc++bW l)&&decide (fz l≤left)))
 |[],left,acc,h0,h1,h2=>by
  rw [nn,hfin _ (by simp [bW] at h2;exact h2)]
  simp [bW,fz,h0]
 |x::l,left,acc,h0,h1,h2=>by
  have hb:bW (x::l)=x.2.2++bW l:=by simp [bW]
  have hc:fz (x::l)=x.2.1+fz l:=by simp only [fz,List.map_cons,List.sum_cons]
  rw [hb,List.length_append] at h2
  rw [nn,List.all_cons,hb,hc]
  by_cases c1:x.2.1<1
  ·have e:il n x=false:=by unfold il bc;rw [decide_eq_false (show¬1≤x.2.1 by omega)];rfl
   rw [e,decide_eq_true c1];rfl
  ·rw [decide_eq_false c1]
   by_cases c2:x.2.1>left
   ·rw [decide_eq_true c2]
    simp only [Bool.or_true,Bool.false_or,Bool.true_or,cond_true]
    cases ha:l.all (il n) with
    |false=>simp
    |true=>
     have:=zB n l ha
     rw [decide_eq_false (show¬x.2.1+fz l≤left by omega)];simp
   ·rw [decide_eq_false c2]
    have e:il n x=bc x.1 0 65535:=by
     have:bc x.2.1 1 n=true:=aR.2 ⟨by omega,by omega⟩
     unfold il;rw [this];rfl
    rw [e]
    cases bc x.1 0 65535 with
    |false=>rfl
    |true=>
     simp only [Bool.false_or,Bool.not_true,cond_false,Bool.true_and]
     rw [aq (by omega),wrap64 (by omega) (by omega),GN p n hn fin hfin l _ _ (by omega) (by omega) (by rw [List.length_append];omega),List.append_assoc]
     have e:decide (fz l≤left-x.2.1)=decide (x.2.1+fz l≤left):=by rw [Bool.eq_iff_iff];simp;omega
     rw [e]
theorem adG (t:cu)(h1:t.2.2.1.length≤1000000000)(h2:t.2.1.2.2.2.length+(bW t.2.2.1).length≤1000000000):ya t=some (txB t):=by
 unfold ya txB
 simp only [xo,AF _ (show t.2.1.2.2.2.length≤1000000000 by omega),aU,ab,az]
 cases hr:nB t.1 with
 |false=>rfl
 |true=>
  have hn:0≤t.1.2.1∧t.1.2.1≤16:=by
   unfold nB at hr
   simp only [Bool.and_eq_true] at hr
   have:=fW.1 hr.2.1
   omega
  have hfu:=bQ
  have key:=pE (R:=Bool) (T:=pk (fun (y9:Int) (y10:List Int) (_:Int)=>aa (eG t.2.1 y10) fun r12=>some (bif r12.2 then decide (y9≤t.1.2.1) else false))
   (fun (y14:Bool) (_:Int) (_:List Int) (_:Int)=>some y14) false t) t.2.2.1 (fun (s:Int×List Int) i=>(s.1,s.2,(i:Int)))
   (fun x (s:Int×List Int) k=>cond (!(il t.1.2.1 x)) (some false) (room (s.2.length+x.2.2.length) (k (IntKind.wrap .i64 (s.1+x.2.1),s.2++x.2.2))))
   (fun s=>aa (eG t.2.1 s.2) fun r12=>some (r12.2&&decide (s.1≤t.1.2.1)))
   (fun i hi s nx=>by
    simp only [pk]
    rw [decide_eq_true (by omega),ay hi,wrap64 (n:=(i:Int)+1) (by omega) (by omega)]
    simp only [cond_true,ab,aU,az,il]
    cases bc t.2.2.1[i].2.1 1 t.1.2.1<;>cases bc t.2.2.1[i].1 0 65535<;>rfl)
   (fun s nx=>by
    simp only [pk]
    rw [decide_eq_false (by omega)]
    simp only [cond_false,az,ab,cF])
   fuel 0 (0,([]:List Int)) (by omega) (by omega)
  rw [List.drop_zero,Hm t.2.1 t.1.2.1 hn _ (fun s hs=>by rw [T6 _ _ hs,ab,SR]) _ _ _ (by omega) (by omega) (by simpa using h2)] at key
  cases mn t.2.1 with
  |false=>rfl
  |true=>
   cases bc t.2.2.2 0 65535 with
   |false=>rfl
   |true=>
    refine key.trans ?_
    simp
theorem Zu (t:cu)(h1:t.2.2.1.length≤1000000000)(h2:t.2.1.2.2.2.length+(bW t.2.2.1).length≤1000000000):xO t=some (txB t):=by
 unfold xO txB
 simp only [zZ,zX _ (show t.2.1.2.2.2.length≤1000000000 by omega),bg,ab,az]
 cases hr:nB t.1 with
 |false=>rfl
 |true=>
  have hn:0≤t.1.2.1∧t.1.2.1≤16:=by
   unfold nB at hr
   simp only [Bool.and_eq_true] at hr
   have:=fW.1 hr.2.1
   omega
  have hfu:=bQ
  have key:=pE (R:=Bool) (T:=nY (fun (_:Int) (y9:List Int) (_:Int)=>aa (eC t.2.1 y9) fun r11=>some r11.2)
   (fun (y12:Bool) (_:Int) (_:List Int) (_:Int)=>some y12) false t.2.2.1 ((List.length t.2.2.1:Int)) t) t.2.2.1 (fun (s:Int×List Int) i=>(s.1,s.2,(i:Int)))
   (fun x (s:Int×List Int) k=>cond (decide (x.2.1<1)||(decide (x.2.1>s.1)|| !(bc x.1 0 65535))) (some false) (room (s.2.length+x.2.2.length) (k (IntKind.wrap .i64 (s.1-x.2.1),s.2++x.2.2))))
   (fun s=>aa (eC t.2.1 s.2) fun r12=>some r12.2)
   (fun i hi s nx=>by
    simp only [nY]
    rw [decide_eq_true (by omega),ay hi,wrap64 (n:=(i:Int)+1) (by omega) (by omega)]
    simp only [cond_true,ab,bg,az,cT]
    rfl)
   (fun s nx=>by
    simp only [nY]
    rw [decide_eq_false (by omega)];rfl)
   fuel 0 (t.1.2.1,([]:List Int)) (by omega) (by omega)
  rw [List.drop_zero,GN t.2.1 t.1.2.1 (by omega) _ (fun s hs=>by rw [S6 _ _ hs,ab,SR]) _ _ _ (by omega) (by omega) (by simpa using h2)] at key
  cases mn t.2.1 with
  |false=>rfl
  |true=>
   cases bc t.2.2.2 0 65535 with
   |false=>rfl
   |true=>
    refine key.trans ?_
    simp
end
end Go.Pu
end
section
namespace Go.Pu
open Go.Dn
noncomputable section
def zi (s:bj):Bool:=bc s.2.1 0 65535&&(bc s.2.2.1 0 65535&&(!decide ((List.length s.2.2.2.2.2.2.2:Int)>320)&&
 (bif s.1==17 then (s.2.2.2.1==0)&&((s.2.2.2.2.1==0)&&((s.2.2.2.2.2.1==0)&&(s.2.2.2.2.2.2.1==0)))
  else (s.1==6)&&(bc s.2.2.2.1 0 4294967295&&(bc s.2.2.2.2.1 0 4294967295&&(bc s.2.2.2.2.2.1 0 31&&bc s.2.2.2.2.2.2.1 0 65535))))))
theorem Qb (s:bj):kD s=some (zi s):=by
 simp only [kD,aU,ab,az,cF,cT,cN,Bool.not_or,Bool.not_not,Bool.and_assoc,zi]
theorem PH (s:bj):jU s=some (zi s):=by
 simp only [jU,bg,ab,az,cF,cT,cN,Bool.not_or,Bool.not_not,Bool.and_assoc,zi]
 by_cases h:s.1=17
 ·rw [h];rfl
 ·rw [show (s.1==17)=false from by simpa using h]
  cases s.1==6<;>rfl
def w3 (f:Int):Bool:=(f==16)||(f==17)||(f==24)||(f==25)
theorem El (f:Int)(h:bc f 0 31=true):(IntKind.wrap .i64 (BitVec.toNat (BitVec.ofInt (IntKind.bits .i64) f&&&~~~ BitVec.ofInt (IntKind.bits .i64) 9))==16)=w3 f:=by
 have key:∀k:Fin 32,(IntKind.wrap .i64 (BitVec.toNat (BitVec.ofInt (IntKind.bits .i64) (k.val:Int)&&&~~~ BitVec.ofInt (IntKind.bits .i64) 9))==16)=w3 (k.val:Int):=by decide
 rw [aR] at h
 have:=key ⟨f.toNat,by omega⟩
 rwa [show ((f.toNat:Nat):Int)=f by omega] at this
theorem Ek (f:Int)(h:bc f 0 31=true):jW f=some (w3 f):=by
 have key:∀k:Fin 32,((IntKind.wrap .i64 (BitVec.toNat (BitVec.ofInt (IntKind.bits .i64) (k.val:Int)&&&BitVec.ofInt (IntKind.bits .i64) 16)) !=0)&&(IntKind.wrap .i64 (BitVec.toNat (BitVec.ofInt (IntKind.bits .i64) (k.val:Int)&&&~~~ BitVec.ofInt (IntKind.bits .i64) 25))==0))=w3 (k.val:Int):=by decide
 rw [aR] at h
 have:=key ⟨f.toNat,by omega⟩
 rw [show ((f.toNat:Nat):Int)=f by omega] at this
 simp only [jW,az,ab,cF]
 rw [this]
theorem BJ {s:bj}(h:zi s=true)(h6:(s.1==6)=true):bc s.2.2.2.2.2.1 0 31=true:=by
 have:s.1=6:=by simpa using h6
 unfold zi at h
 rw [this] at h
 simp only [Bool.and_eq_true] at h
 have h:=h.2.2.2
 simp at h
 exact h.2.2.1
def wv (p:ax):Bool:=bc p.1 0 281474976710655&&(bc p.2.1 0 281474976710655&&(bc p.2.2.1 (-1) 4095&&(bc p.2.2.2.1 0 255&&(bc p.2.2.2.2.2.1 0 255&&(bc p.2.2.2.2.1 0 65535&&(bc p.2.2.2.2.2.2.1 0 4294967295&&(bc p.2.2.2.2.2.2.2.1 0 4294967295&&zi p.2.2.2.2.2.2.2.2)))))))
def cd (p:ax):Bool:=wv p&&(decide ((List.length p.2.2.2.2.2.2.2.2.2.2.2.2.2.2.2:Int)≤128)||(p.2.2.2.2.2.2.2.2.1==6)&&w3 p.2.2.2.2.2.2.2.2.2.2.2.2.2.1)
theorem zP {p:ax}(h:wv p=true):zi p.2.2.2.2.2.2.2.2=true:=by
 unfold wv at h
 simp only [Bool.and_eq_true] at h
 exact h.2.2.2.2.2.2.2.2
theorem ll (p:ax):cR p=some (cd p):=by
 unfold cR cd
 simp only [aU,Qb,ab,az,cF,cT,cN,Bool.not_or,Bool.not_not]
 rw [show (bc p.1 0 281474976710655&&(bc p.2.1 0 281474976710655&&(bc p.2.2.1 (-1) 4095&&(bc p.2.2.2.1 0 255&&(bc p.2.2.2.2.2.1 0 255&&(bc p.2.2.2.2.1 0 65535&&(bc p.2.2.2.2.2.2.1 0 4294967295&&(bc p.2.2.2.2.2.2.2.1 0 4294967295&&zi p.2.2.2.2.2.2.2.2))))))))=wv p from rfl]
 cases hh:wv p with
 |false=>rfl
 |true=>
  cases h6:p.2.2.2.2.2.2.2.2.1==6 with
  |false=>simp
  |true=>
   rw [El _ (BJ (zP hh) h6)]
   simp [Bool.or_comm]
theorem kJ (p:ax):cO p=some (cd p):=by
 unfold cO cd
 simp only [bg,PH,ab]
 have e:∀X:Option Bool,(cond (bc p.1 0 281474976710655) (cond (bc p.2.1 0 281474976710655) (cond (bc p.2.2.1 (-1) 4095) (cond (bc p.2.2.2.1 0 255) (cond (bc p.2.2.2.2.2.1 0 255) (cond (bc p.2.2.2.2.1 0 65535) (cond (bc p.2.2.2.2.2.2.1 0 4294967295) (cond (bc p.2.2.2.2.2.2.2.1 0 4294967295) (cond (zi p.2.2.2.2.2.2.2.2) X (some false)) (some false)) (some false)) (some false)) (some false)) (some false)) (some false)) (some false)) (some false))=cond (wv p) X (some false):=by
  intro X
  unfold wv
  cases bc p.1 0 281474976710655 with|false=>rfl|true=> ?_
  cases bc p.2.1 0 281474976710655 with|false=>rfl|true=> ?_
  cases bc p.2.2.1 (-1) 4095 with|false=>rfl|true=> ?_
  cases bc p.2.2.2.1 0 255 with|false=>rfl|true=> ?_
  cases bc p.2.2.2.2.2.1 0 255 with|false=>rfl|true=> ?_
  cases bc p.2.2.2.2.1 0 65535 with|false=>rfl|true=> ?_
  cases bc p.2.2.2.2.2.2.1 0 4294967295 with|false=>rfl|true=> ?_
  cases bc p.2.2.2.2.2.2.2.1 0 4294967295<;>rfl
 rw [e]
 cases hh:wv p with
 |false=>rfl
 |true=>
  cases h6:p.2.2.2.2.2.2.2.2.1==6 with
  |false=>simp [az]
  |true=>
   rw [Ek _ (BJ (zP hh) h6)]
   simp only [cond_true,ab,az,cT,Bool.true_and]
def cK (q:(Int×Int×Int)):Bool:=bc q.1 0 130944&&(eF q.2.1&&bc q.2.2 0 (IntKind.wrap .i64 ((IntKind.wrap .i64 (2*q.2.1))-1)))
theorem Hk (q:(Int×Int×Int)):lx q=some (cK q):=by
 simp only [lx,aU,vz,ab,az,cF,cK]
theorem GK (q:(Int×Int×Int)):kP q=some (cK q):=by
 simp only [kP,bg,xl,ab,az,cF,cK]
def adH:dY:=((0,0,0,0,0,0,0,0,0,0,0,0,0,0,0,([]:Bytes)),0,0)
def Uk (p:dY):Bool:=(p.1.1==0)&&((p.1.2.1==0)&&((p.1.2.2.1==0)&&((p.1.2.2.2.1==0)&&((p.1.2.2.2.2.1==0)&&((p.1.2.2.2.2.2.1==0)&&((p.1.2.2.2.2.2.2.1==0)&&((p.1.2.2.2.2.2.2.2.1==0)&&((p.1.2.2.2.2.2.2.2.2.1==0)&&((p.1.2.2.2.2.2.2.2.2.2.1==0)&&((p.1.2.2.2.2.2.2.2.2.2.2.1==0)&&((p.1.2.2.2.2.2.2.2.2.2.2.2.1==0)&&((p.1.2.2.2.2.2.2.2.2.2.2.2.2.1==0)&&((p.1.2.2.2.2.2.2.2.2.2.2.2.2.2.1==0)&&((p.1.2.2.2.2.2.2.2.2.2.2.2.2.2.2.1==0)&&((p.1.2.2.2.2.2.2.2.2.2.2.2.2.2.2.2==([]:Bytes))&&((p.2.1==0)&&((p.2.2==0)&&true)))))))))))))))))
def F5 (r:aD):Bool:=(nB r.1&&(cK r.2.1&&(cK r.2.2.1&&((r.2.1.1==r.2.2.1.1)&&((r.2.1.2.1==r.2.2.1.2.1)&&bc r.2.2.2.2.2 0 1000000000000)))))&&
 (bif r.2.2.2.2.1 then cd r.2.2.2.1.1&&(bc r.2.2.2.1.2.1 0 320&&bc r.2.2.2.1.2.2 1 320) else Uk r.2.2.2.1)
theorem Oy (r:aD):sJ r=some (F5 r):=by
 unfold sJ F5 Uk
 simp only [xo,Hk,aU,ll,ab,az,cF,cT,cN,Bool.not_or,Bool.not_not,bne]
 cases r.2.2.2.2.1<;>rfl
theorem NM (r:aD):sG r=some (F5 r):=by
 unfold sG F5 Uk
 simp only [zZ,GK,bg,kJ,ab,az,cF,cT,cN,Bool.not_or,Bool.not_not,bne]
 cases r.2.2.2.2.1<;>rfl
def qB (v:Vector):Bool:=(gb v).getD false
theorem zl (v:Vector):gb v=some (qB v):=by
 have:∃b,gb v=some b:=by
  simp only [gb,nC,aU,ab,az]
  exact ⟨_,rfl⟩
 obtain ⟨b,hb⟩:=this
 rw [qB,hb];rfl
theorem ED (v:Vector):p9 v=some (qB v):=zl v
theorem BF {α:Type}(l:List α)(p:α→Bool):(List.range l.length).all (fun i=>l[i]?.all p)=l.all p:=by
 rw [Bool.eq_iff_iff,List.all_eq_true,List.all_eq_true]
 constructor
 ·intro h x hx
  obtain ⟨i,hi,rfl⟩:=List.getElem_of_mem hx
  have:=h i (List.mem_range.2 hi)
  rwa [List.getElem?_eq_getElem hi] at this
 ·intro h i hi
  rw [List.getElem?_eq_getElem (List.mem_range.1 hi)]
  exact h _ (List.getElem_mem _)
theorem OW {α:Type}(l:List α)(p q:α→Bool):l.all (fun x=>p x&&q x)=(l.all p&&l.all q):=by
 induction l with
 |nil=>rfl
 |cons x l ih=>simp only [List.all_cons,ih];cases p x<;>cases q x<;>cases l.all p<;>rfl
def ec (h:Host):List Int:=[h.2.2.2.2.2.2.2.2.2.2.2.2.2.2.1,h.2.2.2.2.2.2.2.2.2.2.2.2.2.2.2.1,h.2.2.2.2.2.2.2.2.2.2.2.2.2.2.2.2.1,h.2.2.2.2.2.2.2.2.2.2.2.2.2.2.2.2.2.1,h.2.2.2.2.2.2.2.2.2.2.2.2.2.2.2.2.2.2]
def wN (h:Host):Bool:=bc (h.2.2.2.1.length:Int) 1 2&&(((h.2.2.2.2.1.length:Int)==(h.2.2.2.1.length:Int))&&(((h.2.2.2.2.2.1.length:Int)==(h.2.2.2.1.length:Int))&&((h.2.2.2.2.2.2.1.length:Int)==(h.2.2.2.1.length:Int))))
def Mc (h:Host):Bool:=h.2.2.2.1.all F5&&(h.2.2.2.2.1.all mn&&h.2.2.2.2.2.1.all qB)
def rE (h:Host):Bool:=cP h.1&&(cz h.2.1&&(txB h.2.2.1&&(fB h.2.2.2.2.2.2.2.1&&(wN h&&(dm h.2.2.2.2.2.2.2.2.1 (h.2.2.2.1.length:Int)&&(Mc h&&(ec h).all (fun x=>bc x 0 1000000000000)))))))
structure HF (h:Host):Prop where
 a1:h.1.length≤1000000000
 a2:h.2.1.length≤1000000000
 t1:h.2.2.1.2.2.1.length≤1000000000
 t2:h.2.2.1.2.1.2.2.2.length+(bW h.2.2.1.2.2.1).length≤1000000000
 f1:h.2.2.2.2.2.2.2.1.2.2.length≤1000000000
 s1:h.2.2.2.2.2.2.2.2.1.1.length≤1000000000
 s2:h.2.2.2.2.2.2.2.2.1.2.1.length≤1000000000
 s3:h.2.2.2.2.2.2.2.2.1.2.2.2.length≤1000000000
 p1:∀p∈h.2.2.2.2.1,p.2.2.2.length≤1000000000
theorem vT {h:Host}(l:wN h=true):h.2.2.2.1.length≤2∧h.2.2.2.2.1.length=h.2.2.2.1.length∧h.2.2.2.2.2.1.length=h.2.2.2.1.length∧h.2.2.2.2.2.2.1.length=h.2.2.2.1.length:=by
 unfold wN at l
 simp only [Bool.and_eq_true,aR,beq_iff_eq] at l
 omega
theorem G7 {R:Type}{T:(Int→Option R)→Int→Option R}{fin hit:Option R}{h:Host}(l:wN h=true)
 (hs:∀i (hi:i<h.2.2.2.1.length) nx,T nx (i:Int)=cond (!(F5 h.2.2.2.1[i]&&(mn (h.2.2.2.2.1[i]'((vT l).2.1▸hi))&&qB (h.2.2.2.2.2.1[i]'((vT l).2.2.1▸hi))))) hit (nx ((i+1:Nat):Int)))
 (hf:∀nx,T nx (h.2.2.2.1.length:Int)=fin):ar T fuel 0=cond (Mc h) fin hit:=by
 have hl:=vT l
 rw [cI (fin:=fin) (hit:=hit) (fun i=>h.2.2.2.1[i]?.all F5&&(h.2.2.2.2.1[i]?.all mn&&h.2.2.2.2.2.1[i]?.all qB)) h.2.2.2.1.length (by omega) ?hs hf]
 case hs=>
  intro i nx hi
  rw [hs i hi,List.getElem?_eq_getElem hi,List.getElem?_eq_getElem (hl.2.1▸hi),List.getElem?_eq_getElem (hl.2.2.1▸hi)]
  rfl
 rw [OW,OW,BF]
 have e1:=BF h.2.2.2.2.1 mn
 have e2:=BF h.2.2.2.2.2.1 qB
 rw [hl.2.1] at e1
 rw [hl.2.2.1] at e2
 rw [e1,e2];rfl
theorem BS {R:Type}{T:(Int→Option R)→Int→Option R}{fin hit:Option R}(h:Host)
 (hs:∀i (hi:i<(ec h).length) nx,T nx (i:Int)=cond (!(bc (ec h)[i] 0 1000000000000)) hit (nx ((i+1:Nat):Int)))
 (hf:∀nx,T nx ((ec h).length:Int)=fin):ar T fuel 0=cond ((ec h).all (fun x=>bc x 0 1000000000000)) fin hit:=
 nk (fun x=>bc x 0 1000000000000) (ec h) (by simp [ec]) hs hf
theorem Mo (h:Host)(z:HF h):qW h=some (rE h):=by
 unfold qW rE
 simp only [wb _ z.a1,AE _ z.a2,adG _ z.t1 z.t2,vZ _ z.f1,AI _ _ z.s1 z.s2 z.s3,aU,ab,az]
 cases cP h.1 with|false=>rfl|true=> ?_
 cases cz h.2.1 with|false=>rfl|true=> ?_
 cases txB h.2.2.1 with|false=>rfl|true=> ?_
 cases fB h.2.2.2.2.2.2.2.1 with|false=>rfl|true=> ?_
 simp only [Bool.not_true,cond_false,cT,bne]
 rw [show (!bc (h.2.2.2.1.length:Int) 1 2||(!((h.2.2.2.2.1.length:Int)==(h.2.2.2.1.length:Int))||(!((h.2.2.2.2.2.1.length:Int)==(h.2.2.2.1.length:Int))||(!((h.2.2.2.2.2.2.1.length:Int)==(h.2.2.2.1.length:Int))|| !dm h.2.2.2.2.2.2.2.2.1 (h.2.2.2.1.length:Int)))))= !(wN h&&dm h.2.2.2.2.2.2.2.2.1 (h.2.2.2.1.length:Int)) by unfold wN;simp only [Bool.not_and,Bool.or_assoc]]
 cases hl:wN h with|false=>rfl|true=> ?_
 cases dm h.2.2.2.2.2.2.2.2.1 (h.2.2.2.1.length:Int) with|false=>rfl|true=> ?_
 have hL:=vT hl
 simp only [Bool.and_true,Bool.not_true,cond_false,Bool.true_and]
 rw [G7 (h:=h) (hit:=some false) (fin:=some ((ec h).all (fun x=>bc x 0 1000000000000))) hl ?hs ?hf]
 case hs=>
  intro i hi nx
  simp only [o4]
  rw [decide_eq_true (by omega),ay hi,ay (hL.2.1▸hi),ay (hL.2.2.1▸hi),wrap64 (n:=(i:Int)+1) (by omega) (by omega)]
  simp only [cond_true,ab,Oy,zl,AF _ (z.p1 _ (List.getElem_mem _)),az,cT,Bool.not_and]
  rfl
 case hf=>
  intro nx
  simp only [o4]
  rw [decide_eq_false (by omega)]
  simp only [cond_false]
  refine (BS (fin:=some true) (hit:=some false) h ?_ ?_).trans ?_
  ·intro i hi nx
   simp only [mS]
   have hi':i<5:=hi
   change (bif decide ((i:Int)<5) then aa (idx (ec h) (i:Int)) _ else _)=_
   rw [decide_eq_true (by omega),ay hi,wrap64 (n:=(i:Int)+1) (by omega) (by omega),ab,aU]
   rfl
  ·intro nx
   simp only [mS]
   rw [decide_eq_false (by simp [ec])];rfl
  ·cases (ec h).all (fun x=>bc x 0 1000000000000)<;>rfl
 cases Mc h<;>rfl
theorem Li (h:Host)(z:HF h):qF h=some (rE h):=by
 unfold qF rE
 simp only [yW _ z.a1,zW _ z.a2,Zu _ z.t1 z.t2,vq _ z.f1,Aa _ _ z.s1 z.s2 z.s3,bg,ab,az]
 cases cP h.1 with|false=>rfl|true=> ?_
 cases cz h.2.1 with|false=>rfl|true=> ?_
 cases txB h.2.2.1 with|false=>rfl|true=> ?_
 cases fB h.2.2.2.2.2.2.2.1 with|false=>rfl|true=> ?_
 simp only [Bool.not_true,cond_false,cT,bne]
 rw [show (!bc (h.2.2.2.1.length:Int) 1 2||(!((h.2.2.2.2.1.length:Int)==(h.2.2.2.1.length:Int))||(!((h.2.2.2.2.2.1.length:Int)==(h.2.2.2.1.length:Int))|| !((h.2.2.2.2.2.2.1.length:Int)==(h.2.2.2.1.length:Int)))))= !(wN h) by unfold wN;simp only [Bool.not_and]]
 cases hl:wN h with|false=>rfl|true=> ?_
 have hL:=vT hl
 simp only [Bool.not_true,cond_false,Bool.true_and]
 rw [G7 (h:=h) (hit:=some false) (fin:=some ((ec h).all (fun x=>bc x 0 1000000000000)&&dm h.2.2.2.2.2.2.2.2.1 (h.2.2.2.1.length:Int))) hl ?hs ?hf]
 case hs=>
  intro i hi nx
  simp only [nQ]
  rw [decide_eq_true (by omega),ay hi,ay (hL.2.1▸hi),ay (hL.2.2.1▸hi),wrap64 (n:=(i:Int)+1) (by omega) (by omega)]
  simp only [cond_true,ab,NM,ED,zX _ (z.p1 _ (List.getElem_mem _)),az,cT,Bool.not_and]
  rfl
 case hf=>
  intro nx
  simp only [nQ]
  rw [decide_eq_false (by omega)]
  simp only [cond_false]
  refine (BS (fin:=some (dm h.2.2.2.2.2.2.2.2.1 (h.2.2.2.1.length:Int))) (hit:=some false) h ?_ ?_).trans ?_
  ·intro i hi nx
   simp only [mH]
   have hi':i<5:=hi
   change (bif decide ((i:Int)<5) then aa (idx (ec h) (i:Int)) _ else _)=_
   rw [decide_eq_true (by omega),ay hi,wrap64 (n:=(i:Int)+1) (by omega) (by omega),ab,bg]
   rfl
  ·intro nx
   simp only [mH]
   rw [decide_eq_false (by simp [ec])];rfl
  ·cases (ec h).all (fun x=>bc x 0 1000000000000)<;>rfl
 cases Mc h<;>cases dm h.2.2.2.2.2.2.2.2.1 (h.2.2.2.1.length:Int)<;>cases (ec h).all (fun x=>bc x 0 1000000000000)<;>rfl
end
end Go.Pu
end
section
namespace Go.Pu
open Go.Dn
set_option linter.unusedSimpArgs false
set_option linter.unusedVariables false
noncomputable section
theorem dk {n:Nat}(h:n<9223372036854775808):IntKind.wrap .i64 (n:Int)=(n:Int):=wrap64 (by omega) (by omega)
theorem AX {n:Nat}(h:n<4294967296):IntKind.wrap .u32 (n:Int)=(n:Int):=by
 simp only [IntKind.wrap,IntKind.bits,IntKind.signed]
 simp
 omega
theorem ft (b:UInt8):b.toNat<256:=b.toNat_lt
def bz (v:Int):Bytes:=(aL v).getD []
theorem im (v:Int):aL v=some (bz v):=by
 unfold bz
 have:∃x,aL v=some x:=by
  simp only [aL,aU,ab]
  cases bc v 0 65535<;>exact ⟨_,rfl⟩
 obtain ⟨x,hx⟩:=this
 rw [hx];rfl
theorem nb (v:Int):aS v=some (bz v):=im v
theorem OT (v:Int):(bz v).length=bif bc v 0 65535 then 2 else 0:=by
 have h:=im v
 simp only [aL,aU,ab] at h
 cases hb:bc v 0 65535<;>rw [hb] at h<;>(rw [←Option.some.inj h];rfl)
theorem aF (v:Int):(bz v).length≤2:=by rw [OT];cases bc v 0 65535<;>simp
def cw (v:Int):Bytes:=(bq v).getD []
theorem fY (v:Int):bq v=some (cw v):=by
 unfold cw
 have:∃x,bq v=some x:=by
  simp only [bq,aU,ab]
  cases bc v 0 4294967295<;>exact ⟨_,rfl⟩
 obtain ⟨x,hx⟩:=this
 rw [hx];rfl
theorem nd (v:Int):bP v=some (cw v):=fY v
theorem OU (v:Int):(cw v).length=bif bc v 0 4294967295 then 4 else 0:=by
 have h:=fY v
 simp only [bq,aU,ab] at h
 cases hb:bc v 0 4294967295<;>rw [hb] at h<;>(rw [←Option.some.inj h];rfl)
theorem bd (v:Int):(cw v).length≤4:=by rw [OU];cases bc v 0 4294967295<;>simp
def aQ (s:Bytes)(i:Nat):Nat:=(s.getD i 0).toNat
theorem bA (s:Bytes)(i:Nat):aQ s i<256:=ft _
theorem iA {s:Bytes}{i:Nat}(h:i<s.length):∃x,idx s (i:Int)=some x∧x.toNat=aQ s i:=⟨s[i],ay h,by rw [aQ,aM h]⟩
def bM (s:Bytes)(a n:Int):Bool:=decide (0≤a∧a+n≤(s.length:Int))
theorem xq (s:Bytes)(a n:Int)(h:s.length≤1000000000)(hn:0≤n):g5 s a n=some (bM s a n):=by
 unfold g5 bM
 by_cases h0:0≤a
 ·by_cases h1:a≤(s.length:Int)
  ·rw [decide_eq_true (show a≥0 from h0),decide_eq_true h1,wrap64 (by omega) (by omega)]
   simp only [cond_true,ab]
   congr 1
   rw [decide_eq_decide];omega
  ·rw [decide_eq_true (show a≥0 from h0),decide_eq_false h1,decide_eq_false (show¬(0≤a∧a+n≤(s.length:Int)) by omega)];rfl
 ·rw [decide_eq_false (show¬a≥0 from h0),decide_eq_false (show¬(0≤a∧a+n≤(s.length:Int)) by omega)];rfl
def bf (s:Bytes)(a:Int):Int:=bif bM s a 2 then ((aQ s a.toNat*256+aQ s (a.toNat+1):Nat):Int) else-1
def ch (s:Bytes)(a:Int):Int:=bif bM s a 4 then (((aQ s a.toNat*256+aQ s (a.toNat+1))*65536+(aQ s (a.toNat+2)*256+aQ s (a.toNat+3)):Nat):Int) else-1
theorem pK (s:Bytes)(a:Int)(h:s.length≤1000000000):cl s a=some (bf s a):=by
 unfold cl bf
 rw [xq s a 2 h (by omega),ab]
 cases hw:bM s a 2 with
 |false=>rfl
 |true=>
  simp only [bM,decide_eq_true_eq] at hw
  obtain ⟨n,rfl⟩:=Int.eq_ofNat_of_zero_le hw.1
  obtain ⟨x,hx,ex⟩:=iA (s:=s) (i:=n) (by omega)
  obtain ⟨y,hy,ey⟩:=iA (s:=s) (i:=n+1) (by omega)
  have hxl:=bA s n
  have hyl:=bA s (n+1)
  rw [wrap64 (n:=(n:Int)+1) (by omega) (by omega),hx,show (n:Int)+1=((n+1:Nat):Int) by omega,hy]
  simp only [Bool.not_true,cond_false,ab,Int.toNat_natCast,cond_true]
  rw [if_neg (by omega),ex,ey,dk (by omega),dk (by omega)]
  have e8:min (Int.toNat 8) (IntKind.bits .i64)=8:=rfl
  rw [e8,wrap64 (n:=((aQ s n:Nat):Int)*2^8) (by omega) (by omega),wrap64 (by omega) (by omega)]
  congr 1
  all_goals omega
theorem sI (s:Bytes)(a:Int)(h:s.length≤1000000000):dx s a=some (ch s a):=by
 unfold dx ch
 rw [xq s a 4 h (by omega),ab]
 cases hw:bM s a 4 with
 |false=>rfl
 |true=>
  simp only [bM,decide_eq_true_eq] at hw
  obtain ⟨n,rfl⟩:=Int.eq_ofNat_of_zero_le hw.1
  have w1:bM s (n:Int) 2=true:=by simp only [bM,decide_eq_true_eq];omega
  have w2:bM s ((n:Int)+2) 2=true:=by simp only [bM,decide_eq_true_eq];omega
  have b0:=bA s n
  have b1:=bA s (n+1)
  have b2:=bA s (n+2)
  have b3:=bA s (n+3)
  rw [wrap64 (n:=(n:Int)+2) (by omega) (by omega),pK s _ h,pK s _ h]
  simp only [Bool.not_true,cond_false,ab,cond_true,bf,w1,w2,Int.toNat_natCast]
  rw [if_neg (by omega),show ((n:Int)+2).toNat=n+2 by omega,show n+2+1=n+3 by omega]
  have e8:min (Int.toNat 16) (IntKind.bits .i64)=16:=rfl
  rw [e8,wrap64 (n:=((aQ s n*256+aQ s (n+1):Nat):Int)*2^16) (by omega) (by omega),wrap64 (by omega) (by omega)]
  congr 1
  all_goals omega
theorem atG (a b:Nat)(ha:a<9223372036854775808)(hb:b<9223372036854775808):BitVec.toNat (BitVec.ofInt (IntKind.bits .i64) (a:Int)|||BitVec.ofInt (IntKind.bits .i64) (b:Int))=a|||b:=by
 show (BitVec.ofInt 64 (a:Int)|||BitVec.ofInt 64 (b:Int)).toNat=_
 rw [BitVec.ofInt_natCast,BitVec.ofInt_natCast,BitVec.toNat_or,BitVec.toNat_ofNat,BitVec.toNat_ofNat,Nat.mod_eq_of_lt (by omega),Nat.mod_eq_of_lt (by omega)]
theorem XS (a b:Nat)(ha:a<9223372036854775808)(hb:b<9223372036854775808):BitVec.toNat (BitVec.ofInt (IntKind.bits .i64) (a:Int)&&&BitVec.ofInt (IntKind.bits .i64) (b:Int))=a&&&b:=by
 show (BitVec.ofInt 64 (a:Int)&&&BitVec.ofInt 64 (b:Int)).toNat=_
 rw [BitVec.ofInt_natCast,BitVec.ofInt_natCast,BitVec.toNat_and,BitVec.toNat_ofNat,BitVec.toNat_ofNat,Nat.mod_eq_of_lt (by omega),Nat.mod_eq_of_lt (by omega)]
theorem Qp (a b:Nat)(ha:a<9223372036854775808)(hb:b<9223372036854775808):BitVec.toNat (BitVec.ofInt (IntKind.bits .i64) (a:Int)^^^BitVec.ofInt (IntKind.bits .i64) (b:Int))=a^^^b:=by
 show (BitVec.ofInt 64 (a:Int)^^^BitVec.ofInt 64 (b:Int)).toNat=_
 rw [BitVec.ofInt_natCast,BitVec.ofInt_natCast,BitVec.toNat_xor,BitVec.toNat_ofNat,BitVec.toNat_ofNat,Nat.mod_eq_of_lt (by omega),Nat.mod_eq_of_lt (by omega)]
theorem afh (a b:Nat)(ha:a<4294967296)(hb:b<4294967296):BitVec.toNat (BitVec.ofInt (IntKind.bits .u32) (a:Int)&&&BitVec.ofInt (IntKind.bits .u32) (b:Int))=a&&&b:=by
 show (BitVec.ofInt 32 (a:Int)&&&BitVec.ofInt 32 (b:Int)).toNat=_
 rw [BitVec.ofInt_natCast,BitVec.ofInt_natCast,BitVec.toNat_and,BitVec.toNat_ofNat,BitVec.toNat_ofNat,Nat.mod_eq_of_lt (by omega),Nat.mod_eq_of_lt (by omega)]
theorem YI (a b:Nat)(ha:a<4294967296)(hb:b<4294967296):BitVec.toNat (BitVec.ofInt (IntKind.bits .u32) (a:Int)^^^BitVec.ofInt (IntKind.bits .u32) (b:Int))=a^^^b:=by
 show (BitVec.ofInt 32 (a:Int)^^^BitVec.ofInt 32 (b:Int)).toNat=_
 rw [BitVec.ofInt_natCast,BitVec.ofInt_natCast,BitVec.toNat_xor,BitVec.toNat_ofNat,BitVec.toNat_ofNat,Nat.mod_eq_of_lt (by omega),Nat.mod_eq_of_lt (by omega)]
theorem zd (x k y:Nat)(hy:y<2^k)(h:2^k*x+y<9223372036854775808):IntKind.wrap .i64 (BitVec.toNat (BitVec.ofInt (IntKind.bits .i64) ((2^k*x:Nat):Int)|||BitVec.ofInt (IntKind.bits .i64) (y:Int)):Int)=((2^k*x+y:Nat):Int):=by
 rw [atG _ _ (by omega) (by omega),←Nat.two_pow_add_eq_or_of_lt hy]
 exact dk h
theorem Ce (s:Bytes)(a n:Int):(cond (decide (a<0)) (some true) (some (decide (a>(s.length:Int)-n))))=some (!bM s a n):=by
 cases hw:bM s a n with
 |true=>
  simp only [bM,decide_eq_true_eq] at hw
  rw [decide_eq_false (show¬a<0 by omega),decide_eq_false (show¬a>(s.length:Int)-n by omega)]
  rfl
 |false=>
  simp only [bM,decide_eq_false_iff_not] at hw
  by_cases h0:a<0
  ·rw [decide_eq_true h0];rfl
  ·rw [decide_eq_false h0,decide_eq_true (show a>(s.length:Int)-n by omega)];rfl
theorem xL (s:Bytes)(a:Int)(h:s.length≤1000000000):cE s a=some (bf s a):=by
 unfold cE bf
 rw [wrap64 (n:=(s.length:Int)-2) (by omega) (by omega)]
 rw [Ce,ab]
 cases hw:bM s a 2 with
 |false=>rfl
 |true=>
  simp only [bM,decide_eq_true_eq] at hw
  obtain ⟨n,rfl⟩:=Int.eq_ofNat_of_zero_le hw.1
  obtain ⟨x,hx,ex⟩:=iA (s:=s) (i:=n) (by omega)
  obtain ⟨y,hy,ey⟩:=iA (s:=s) (i:=n+1) (by omega)
  have hxl:=bA s n
  have hyl:=bA s (n+1)
  rw [wrap64 (n:=(n:Int)+1) (by omega) (by omega),hx,show (n:Int)+1=((n+1:Nat):Int) by omega,hy]
  simp only [Bool.not_true,cond_false,cond_true,ab,Int.toNat_natCast]
  rw [if_neg (by omega),ex,ey,dk (n:=aQ s n) (by omega),dk (n:=aQ s (n+1)) (by omega)]
  have e8:min (Int.toNat 8) (IntKind.bits .i64)=8:=rfl
  rw [e8,show ((aQ s n:Nat):Int)*2^8=((2^8*aQ s n:Nat):Int) by omega,dk (n:=2^8*aQ s n) (by omega),zd (aQ s n) 8 (aQ s (n+1)) (by omega) (by omega)]
  congr 1
  all_goals omega
theorem uP (s:Bytes)(a:Int)(h:s.length≤1000000000):dQ s a=some (ch s a):=by
 unfold dQ ch
 rw [wrap64 (n:=(s.length:Int)-4) (by omega) (by omega)]
 rw [Ce,ab]
 cases hw:bM s a 4 with
 |false=>rfl
 |true=>
  simp only [bM,decide_eq_true_eq] at hw
  obtain ⟨n,rfl⟩:=Int.eq_ofNat_of_zero_le hw.1
  obtain ⟨x0,h0,e0⟩:=iA (s:=s) (i:=n) (by omega)
  obtain ⟨x1,h1,e1⟩:=iA (s:=s) (i:=n+1) (by omega)
  obtain ⟨x2,h2,e2⟩:=iA (s:=s) (i:=n+2) (by omega)
  obtain ⟨x3,h3,e3⟩:=iA (s:=s) (i:=n+3) (by omega)
  have b0:=bA s n
  have b1:=bA s (n+1)
  have b2:=bA s (n+2)
  have b3:=bA s (n+3)
  rw [wrap64 (n:=(n:Int)+1) (by omega) (by omega),wrap64 (n:=(n:Int)+2) (by omega) (by omega),wrap64 (n:=(n:Int)+3) (by omega) (by omega),h0,show (n:Int)+1=((n+1:Nat):Int) by omega,h1,
   show (n:Int)+2=((n+2:Nat):Int) by omega,h2,show (n:Int)+3=((n+3:Nat):Int) by omega,h3]
  simp only [Bool.not_true,cond_false,cond_true,ab,Int.toNat_natCast]
  rw [if_neg (by omega),if_neg (by omega),if_neg (by omega),e0,e1,e2,e3]
  generalize aQ s n=p0 at*
  generalize aQ s (n+1)=p1 at*
  generalize aQ s (n+2)=p2 at*
  generalize aQ s (n+3)=p3 at*
  have f24:min (Int.toNat 24) (IntKind.bits .i64)=24:=rfl
  have f16:min (Int.toNat 16) (IntKind.bits .i64)=16:=rfl
  have f8:min (Int.toNat 8) (IntKind.bits .i64)=8:=rfl
  rw [dk (n:=p0) (by omega),dk (n:=p1) (by omega),dk (n:=p2) (by omega),dk (n:=p3) (by omega),f24,f16,f8,
   show ((p0:Nat):Int)*2^24=((2^24*p0:Nat):Int) by omega,show ((p1:Nat):Int)*2^16=((2^16*p1:Nat):Int) by omega,show ((p2:Nat):Int)*2^8=((2^8*p2:Nat):Int) by omega,
   dk (n:=2^24*p0) (by omega),dk (n:=2^16*p1) (by omega),dk (n:=2^8*p2) (by omega),zd p0 24 (2^16*p1) (by omega) (by omega),
   show 2^24*p0+2^16*p1=2^16*(2^8*p0+p1) by omega,zd _ 16 (2^8*p2) (by omega) (by omega),
   show 2^16*(2^8*p0+p1)+2^8*p2=2^8*(2^8*(2^8*p0+p1)+p2) by omega,zd _ 8 p3 (by omega) (by omega)]
  congr 1
  all_goals omega
def yN (c:Nat):Nat:=if c%2=1 then (c/2)^^^3988292384 else c/2
def nD:Nat→Nat→Nat
 |0,c=>c
 |n+1,c=>yN (nD n c)
def als (c:Nat)(s:Bytes):Nat:=s.foldl (fun c b=>nD 8 (c^^^b.toNat)) c
def Gr (s:Bytes):Int:=4294967295-(als 4294967295 s:Int)
theorem uJ {a b:Nat}(ha:a<4294967296)(hb:b<4294967296):a^^^b<4294967296:=Nat.xor_lt_two_pow (n:=32) ha hb
theorem QB {c:Nat}(h:c<4294967296):yN c<4294967296:=by
 unfold yN
 split
 ·exact uJ (by omega) (by omega)
 ·omega
theorem zC {c:Nat}(h:c<4294967296):∀n,nD n c<4294967296
 |0=>h
 |n+1=>QB (zC h n)
theorem T0 {R:Type}(k0:Int→Int→Option R)(k:Int→Option R)(hk:∀x y,k0 x y=k x)(v0:Bytes)(v4:Int)(c:Nat)(h:c<4294967296):ar (je k0 v0 v4) fuel ((c:Int),0)=k (nD 8 c:Int):=by
 have hfu:=bQ
 have key:=xP (T:=je k0 v0 v4) 8 (fun (_:Unit) i=>((nD i c:Int),(i:Int))) (fun _ s nx=>nx s) (fun _=>k (nD 8 c:Int))
  (fun i s nx hi=>by
   have hc:=zC h i
   simp only [je]
   have a1:=XS (nD i c) 1 (by omega) (by omega)
   have x1:=Qp (nD i c/2) 3988292384 (by omega) (by omega)
   simp only [Int.natCast_one] at a1
   rw [decide_eq_true (by omega),cond_true,a1,Nat.and_one_is_mod,
    show min (Int.toNat 1) (IntKind.bits .i64)=1 from rfl,show Int.fdiv ((nD i c:Nat):Int) (2^1)=((nD i c/2:Nat):Int) from by rw [Int.fdiv_eq_ediv_of_nonneg _ (by omega)];rfl,
    show (3988292384:Int)=((3988292384:Nat):Int) from rfl,x1,
    dk (n:=nD i c%2) (by omega),dk (n:=(nD i c/2)^^^3988292384) (by have:=uJ (a:=nD i c/2) (b:=3988292384) (by omega) (by omega);omega),if_neg (by omega),if_neg (by omega),wrap64 (n:=(i:Int)+1) (by omega) (by omega)]
   show _=nx ((yN (nD i c):Int),((i+1:Nat):Int))
   unfold yN
   by_cases hp:nD i c%2=1
   ·rw [hp,if_pos rfl];rfl
   ·have h0:nD i c%2=0:=by omega
    rw [h0,if_neg (by omega)];rfl)
  (fun s nx=>by
   simp only [je]
   rw [decide_eq_false (by omega),cond_false,hk])
  fuel 0 () (by omega) (by omega)
 refine key.trans ?_
 rfl
theorem S2 {R:Type}(k0:Int→Int→Option R)(k:Int→Option R)(hk:∀x y,k0 x y=k x)(v0:Bytes)(v4:Int)(c:Nat)(h:c<4294967296):ar (iX k0 v0 v4) fuel ((c:Int),0)=k (nD 8 c:Int):=by
 have hfu:=bQ
 have key:=xP (T:=iX k0 v0 v4) 8 (fun (_:Unit) i=>((nD i c:Int),(i:Int))) (fun _ s nx=>nx s) (fun _=>k (nD 8 c:Int))
  (fun i s nx hi=>by
   have hc:=zC h i
   simp only [iX]
   have a1:=afh (nD i c) 1 (by omega) (by omega)
   have x1:=YI (nD i c/2) 3988292384 (by omega) (by omega)
   simp only [Int.natCast_one] at a1
   rw [decide_eq_true (by omega),cond_true,a1,Nat.and_one_is_mod,
    show min (Int.toNat 1) (IntKind.bits .u32)=1 from rfl,show Int.fdiv ((nD i c:Nat):Int) (2^1)=((nD i c/2:Nat):Int) from by rw [Int.fdiv_eq_ediv_of_nonneg _ (by omega)];rfl,
    show (3988292384:Int)=((3988292384:Nat):Int) from rfl,x1,
    AX (n:=nD i c%2) (by omega),AX (n:=(nD i c/2)^^^3988292384) (uJ (by omega) (by omega)),if_neg (by omega),wrap64 (n:=(i:Int)+1) (by omega) (by omega)]
   show _=nx ((yN (nD i c):Int),((i+1:Nat):Int))
   unfold yN
   by_cases hp:nD i c%2=1
   ·rw [hp,if_pos rfl];rfl
   ·have h0:nD i c%2=0:=by omega
    rw [h0,if_neg (by omega)];rfl)
  (fun s nx=>by
   simp only [iX]
   rw [decide_eq_false (by omega),cond_false,hk])
  fuel 0 () (by omega) (by omega)
 refine key.trans ?_
 rfl
theorem P8 (s:Bytes)(h:s.length≤1000000000):tG s=some (Gr s):=by
 unfold tG
 have:=tC (T:=mr (fun (y4:Int) (_:Int)=>some (IntKind.wrap .i64 (4294967295-y4))) s) s (fun (c:Nat) i=>((c:Int),(i:Int))) (fun _ c=>c<4294967296) (fun b c=> .ok (nD 8 (c^^^b.toNat))) (fun c=>some (4294967295-(c:Int))) (by omega)
  (fun i hi c nx hI=> ?hs) (fun i hi c c' hI hg=> ?hn) (fun c nx hI=> ?hf) 4294967295 (by omega)
 case hs=>
  have hb:=ft s[i]
  simp only [mr]
  rw [decide_eq_true (by omega),ay hi,cond_true,ab,dk (n:=s[i].toNat) (by omega),Qp c s[i].toNat (by omega) (by omega)]
  have hx:=uJ hI (show s[i].toNat<4294967296 by omega)
  rw [dk (by omega),T0 _ (fun y=>nx (y,(i:Int)+1)) (fun x y=>by rw [wrap64 (by omega) (by omega)]) _ _ _ hx];rfl
 case hn=>
  cases hg
  exact zC (uJ hI (by have:=ft s[i];omega)) 8
 case hf=>
  simp only [mr]
  rw [decide_eq_false (by omega),cond_false,wrap64 (by omega) (by omega)]
 rw [Av] at this
 exact this
theorem not_xor (c:Nat)(h:c<4294967296):BitVec.toNat (BitVec.ofInt (IntKind.bits .u32) (IntKind.max .u32)^^^BitVec.ofInt (IntKind.bits .u32) (c:Int))=4294967295-c:=by
 show (BitVec.ofInt 32 4294967295^^^BitVec.ofInt 32 (c:Int)).toNat=_
 rw [show BitVec.ofInt 32 4294967295=BitVec.allOnes 32 by decide,BitVec.ofInt_natCast,BitVec.allOnes_xor,BitVec.toNat_not,BitVec.toNat_ofNat,Nat.mod_eq_of_lt (show c<2^32 by omega)]
theorem PE (s:Bytes)(h:s.length≤1000000000):sU s=some (Gr s):=by
 unfold sU
 have:=tC (T:=lV (fun (y4:Int) (_:Int)=>some (IntKind.wrap .i64 (IntKind.wrap .u32 (BitVec.toNat (BitVec.ofInt (IntKind.bits .u32) (IntKind.max .u32)^^^BitVec.ofInt (IntKind.bits .u32) y4))))) s) s (fun (c:Nat) i=>((c:Int),(i:Int))) (fun _ c=>c<4294967296) (fun b c=> .ok (nD 8 (c^^^b.toNat))) (fun c=>some (4294967295-(c:Int))) (by omega)
  (fun i hi c nx hI=> ?hs) (fun i hi c c' hI hg=> ?hn) (fun c nx hI=> ?hf) 4294967295 (by omega)
 case hs=>
  have hb:=ft s[i]
  simp only [lV]
  rw [decide_eq_true (by omega),ay hi,cond_true,ab,AX (n:=s[i].toNat) (by omega),YI c s[i].toNat (by omega) (by omega)]
  have hx:=uJ hI (show s[i].toNat<4294967296 by omega)
  rw [AX hx,S2 _ (fun y=>nx (y,(i:Int)+1)) (fun x y=>by rw [wrap64 (by omega) (by omega)]) _ _ _ hx];rfl
 case hn=>
  cases hg
  exact zC (uJ hI (by have:=ft s[i];omega)) 8
 case hf=>
  simp only [lV]
  rw [decide_eq_false (by omega),cond_false,not_xor c hI,AX (by omega),dk (by omega)]
  congr 1
  all_goals omega
 rw [Av] at this
 exact this
end
end Go.Pu
end
section
namespace Go.Pu
open Go.Dn
set_option linter.unusedSimpArgs false
set_option linter.unusedVariables false
noncomputable section
theorem C4 (s:Bytes):bytesOf (a7 s)=s:=by
 unfold bytesOf a7
 rw [List.map_map]
 conv=>rhs;rw [←List.map_id s]
 refine List.map_congr_left fun b _=> ?_
 simp
theorem Tm (s t:Bytes):a7 (s++t)=a7 s++a7 t:=List.map_append
theorem Af (s:Bytes):(a7 s).length=s.length:=List.length_map ..
theorem JN {α:Type}(l:List α)(i j:Nat)(h:i≤j)(h2:j≤l.length):sub l (i:Int) (j:Int)=some ((l.drop i).take (j-i)):=by
 unfold sub
 rw [if_pos (by omega)]
 simp [List.take_drop,Nat.add_sub_cancel' h]
theorem Hv (a k:Nat):Int.tdiv (a:Int) (k:Int)=((a/k:Nat):Int):=(Int.ofNat_tdiv a k).symm
theorem Fu (a k:Nat):Int.tmod (a:Int) (k:Int)=((a%k:Nat):Int):=(Int.ofNat_tmod a k).symm
theorem mem_iff {m:List Bytes}:cP m=true↔(∀x∈m,x.length=128)∧m.length≤64:=by
 simp only [cP,Bool.and_eq_true,List.all_eq_true,beq_iff_eq,decide_eq_true_eq]
 constructor
 ·rintro ⟨h1,h2⟩;exact ⟨fun x hx=>by have:=h1 x hx;omega,by omega⟩
 ·rintro ⟨h1,h2⟩;exact ⟨fun x hx=>by have:=h1 x hx;omega,by omega⟩
theorem KT:∀{m:List Bytes},(∀x∈m,x.length=128)→m.flatten.length=128*m.length
 |[],_=>rfl
 |x::m,h=>by
  have:=KT (m:=m) (fun y hy=>h y (by simp [hy]))
  have:=h x (by simp)
  simp only [List.flatten_cons,List.length_append,List.length_cons];omega
theorem Gz:∀{m:List Bytes}(_:∀x∈m,x.length=128)(p:Nat)(hp:p<m.length)(o c:Nat),o+c≤128→(m.flatten.drop (128*p+o)).take c=(m[p].drop o).take c
 |x::m,h,0,hp,o,c,ho=>by
  have:=h x (by simp)
  simp only [List.flatten_cons,List.getElem_cons_zero]
  rw [List.drop_append_of_le_length (by omega),List.take_append_of_le_length (by simp;omega)]
  simp
 |x::m,h,p+1,hp,o,c,ho=>by
  have hx:=h x (by simp)
  simp only [List.flatten_cons,List.getElem_cons_succ]
  rw [show 128*(p+1)+o=x.length+(128*p+o) by omega,List.drop_length_add_append]
  exact Gz (m:=m) (fun y hy=>h y (by simp [hy])) p (by simpa using hp) o c ho
def rF (m:List Bytes)(a n:Nat):Bytes:=(m.flatten.drop a).take n
theorem u0 {m:List Bytes}{a n:Nat}(h:cP m=true)(hn:a+n≤128*m.length):(rF m a n).length=n:=by
 have:=KT (mem_iff.1 h).1
 simp only [rF,List.length_take,List.length_drop];omega
theorem TW (m:List Bytes)(a n:Nat):(rF m a n).length≤n:=by simp [rF];omega
theorem G6 (m:List Bytes)(a k c:Nat):rF m a (k+c)=rF m a k++rF m (a+k) c:=by
 unfold rF;rw [List.take_add,List.drop_drop]
theorem E3 {m:List Bytes}(h:cP m=true){p:Nat}(hp:p<m.length){o c:Nat}(ho:o+c≤128){a:Nat}(ha:a=128*p+o):(m[p].drop o).take c=rF m a c:=by
 subst ha;exact (Gz (mem_iff.1 h).1 p hp o c ho).symm
def cg (m:List Bytes)(a n:Int):Bool:=cP m&&decide (0≤n∧0≤a∧a+n≤128*(m.length:Int))
theorem w9 (m:List Bytes)(a n:Int)(h:m.length≤1000000000):nq m a n=some (cg m a n):=by
 unfold nq cg
 rw [yW m h,ab,wrap64 (n:=(m.length:Int)*128) (by omega) (by omega)]
 cases hm:cP m with
 |false=>rfl
 |true=>
  simp only [cond_true,Bool.true_and]
  by_cases h1:n≥0
  ·by_cases h2:n≤(m.length:Int)*128
   ·rw [wrap64 (n:=(m.length:Int)*128-n) (by omega) (by omega)]
    by_cases h3:a≥0
    ·simp only [decide_eq_true h1,decide_eq_true h2,decide_eq_true h3,cond_true,ab]
     exact congrArg some (decide_eq_decide.2 (by omega))
    ·simp only [decide_eq_true h1,decide_eq_true h2,decide_eq_false h3,cond_true,cond_false,ab]
     exact congrArg some (decide_eq_false (by omega)).symm
   ·simp only [decide_eq_true h1,decide_eq_false h2,cond_true,cond_false,ab]
    exact congrArg some (decide_eq_false (by omega)).symm
  ·simp only [decide_eq_false h1,cond_false,ab]
   exact congrArg some (decide_eq_false (by omega)).symm
theorem xr (m:List Bytes)(a n:Int)(h:m.length≤1000000000):eP m a n=some (cg m a n):=by
 unfold eP cg
 rw [wb m h,ab,wrap64 (n:=128*(m.length:Int)) (by omega) (by omega)]
 cases hm:cP m with
 |false=>rfl
 |true=>
  simp only [cond_true,Bool.true_and]
  by_cases h1:n≥0
  ·by_cases h3:a≥0
   ·by_cases h2:a≤128*(m.length:Int)
    ·rw [wrap64 (n:=128*(m.length:Int)-a) (by omega) (by omega)]
     simp only [decide_eq_true h1,decide_eq_true h2,decide_eq_true h3,cond_true,ab]
     exact congrArg some (decide_eq_decide.2 (by omega))
    ·simp only [decide_eq_true h1,decide_eq_false h2,decide_eq_true h3,cond_true,cond_false,ab]
     exact congrArg some (decide_eq_false (by omega)).symm
   ·simp only [decide_eq_true h1,decide_eq_false h3,cond_true,cond_false,ab]
    exact congrArg some (decide_eq_false (by omega)).symm
  ·simp only [decide_eq_false h1,cond_false,ab]
   exact congrArg some (decide_eq_false (by omega)).symm
theorem zY {R:Type}{m:List Bytes}(hm:cP m=true)(K:Int→List Int→Option R):∀(n r k a f:Nat),r≤n→n<f→a+k+r≤128*m.length→
 ar (eK K ((k+r:Nat):Int) m) f (((a+k:Nat):Int),a7 (rF m a k))=K ((a+k+r:Nat):Int) (a7 (rF m a (k+r)))
 |n,r,k,a,0,_,hf,_=>by omega
 |n,0,k,a,f+1,hr,hf,hb=>by
  rw [ar]
  simp only [eK,Af,u0 hm (show a+k≤128*m.length by omega),Nat.add_zero]
  rw [decide_eq_false (by omega),cond_false]
 |0,r+1,k,a,f+1,hr,hf,hb=>by omega
 |n+1,r+1,k,a,f+1,hr,hf,hb=>by
  have h64:=(mem_iff.1 hm).2
  have hl:=u0 hm (show a+k≤128*m.length by omega)
  obtain ⟨p,hp⟩:∃p,(a+k)/128=p:=⟨_,rfl⟩
  obtain ⟨o,ho⟩:∃o,(a+k)%128=o:=⟨_,rfl⟩
  have hpo:a+k=128*p+o:=by omega
  have ho2:o<128:=by omega
  have hpl:p<m.length:=by omega
  obtain ⟨c,hc⟩:∃c,min (r+1) (128-o)=c:=⟨_,rfl⟩
  have hpg:=(mem_iff.1 hm).1 _ (List.getElem_mem hpl)
  have e1:Int.tdiv ((a+k:Nat):Int) 128=(p:Int):=by rw [←hp];exact Hv (a+k) 128
  have e2:Int.tmod ((a+k:Nat):Int) 128=(o:Int):=by rw [←ho];exact Fu (a+k) 128
  have key:=zY hm K n (r+1-c) (k+c) a f (by omega) (by omega) (by omega)
  rw [ar]
  simp only [eK,Af,hl,e1,e2]
  rw [decide_eq_true (by omega),cond_true,if_neg (by omega),wrap64 (n:=(p:Int)) (by omega) (by omega),ay hpl,ab,if_neg (by omega)]
  rw [wrap64 (n:=(o:Int)+((k+(r+1):Nat):Int)) (by omega) (by omega),wrap64 (n:=(o:Int)+((k+(r+1):Nat):Int)-(k:Int)) (by omega) (by omega)]
  rw [show (if (o:Int)+((k+(r+1):Nat):Int)-(k:Int)<128 then (o:Int)+((k+(r+1):Nat):Int)-(k:Int) else 128)=((o+c:Nat):Int) by split<;>omega]
  rw [JN _ _ _ (by omega) (by omega),ab,show o+c-o=c by omega,E3 hm hpl (show o+c≤128 by omega) hpo]
  have hl2:=u0 hm (show a+k+c≤128*m.length by omega)
  rw [hl2,aq (by omega),wrap64 (by omega) (by omega),←Tm,←G6]
  rw [show ((a+k:Nat):Int)+(c:Int)=((a+(k+c):Nat):Int) by omega]
  rw [show k+c+(r+1-c)=k+(r+1) by omega,show a+(k+c)+(r+1-c)=a+k+(r+1) by omega] at key
  exact key
theorem Ti (m:List Bytes)(a n:Int)(h:m.length≤1000000000):iG m a n=some (bif cg m a n then (rF m a.toNat n.toNat,true) else ([],false)):=by
 have hfu:=bQ
 unfold iG
 rw [w9 m a n h,ab]
 cases hw:cg m a n with
 |false=>rfl
 |true=>
  simp only [cg,Bool.and_eq_true,decide_eq_true_eq] at hw
  obtain ⟨hm,h1,h2,h3⟩:=hw
  have h64:=(mem_iff.1 hm).2
  simp only [Bool.not_true,cond_false,cond_true]
  rw [if_pos (by omega),aq (by omega)]
  obtain ⟨a,rfl⟩:=Int.eq_ofNat_of_zero_le h2
  obtain ⟨n,rfl⟩:=Int.eq_ofNat_of_zero_le h1
  have:=zY hm (fun (y4:Int) (y5:List Int)=>some (bytesOf y5,true)) n n 0 a fuel (by omega) (by omega) (by omega)
  rw [Nat.zero_add,Nat.add_zero] at this
  refine Eq.trans this ?_
  simp only [C4,Int.toNat_natCast]
theorem AG {R:Type}{m:List Bytes}(hm:cP m=true)(K:Int→Int→Bytes→Option R):∀(n r k a f:Nat),r≤n→n<f→a+k+r≤128*m.length→
 ar (eO K m) f (((a+k:Nat):Int),(r:Int),rF m a k)=K ((a+k+r:Nat):Int) 0 (rF m a (k+r))
 |n,r,k,a,0,_,hf,_=>by omega
 |n,0,k,a,f+1,hr,hf,hb=>by
  rw [ar]
  simp only [eO]
  rw [decide_eq_false (by omega),cond_false];rfl
 |0,r+1,k,a,f+1,hr,hf,hb=>by omega
 |n+1,r+1,k,a,f+1,hr,hf,hb=>by
  have h64:=(mem_iff.1 hm).2
  have hl:=u0 hm (show a+k≤128*m.length by omega)
  obtain ⟨p,hp⟩:∃p,(a+k)/128=p:=⟨_,rfl⟩
  obtain ⟨o,ho⟩:∃o,(a+k)%128=o:=⟨_,rfl⟩
  have hpo:a+k=128*p+o:=by omega
  have ho2:o<128:=by omega
  have hpl:p<m.length:=by omega
  obtain ⟨c,hc⟩:∃c,min (r+1) (128-o)=c:=⟨_,rfl⟩
  have hpg:=(mem_iff.1 hm).1 _ (List.getElem_mem hpl)
  have e1:Int.tdiv ((a+k:Nat):Int) 128=(p:Int):=by rw [←hp];exact Hv (a+k) 128
  have e2:Int.tmod ((a+k:Nat):Int) 128=(o:Int):=by rw [←ho];exact Fu (a+k) 128
  have key:=AG hm K n (r+1-c) (k+c) a f (by omega) (by omega) (by omega)
  rw [ar]
  simp only [eO,e1,e2]
  rw [decide_eq_true (by omega),cond_true,if_neg (by omega),if_neg (by omega),wrap64 (n:=(p:Int)) (by omega) (by omega),ay hpl,ab]
  rw [wrap64 (n:=128-(o:Int)) (by omega) (by omega)]
  rw [show (if 128-(o:Int)<((r+1:Nat):Int) then 128-(o:Int) else ((r+1:Nat):Int))=(c:Int) by split<;>omega]
  rw [wrap64 (n:=(o:Int)+(c:Int)) (by omega) (by omega),show (o:Int)+(c:Int)=((o+c:Nat):Int) by omega]
  rw [JN _ _ _ (by omega) (by omega),ab,show o+c-o=c by omega,E3 hm hpl (show o+c≤128 by omega) hpo]
  have hl2:=u0 hm (show a+k+c≤128*m.length by omega)
  rw [hl2,hl,aq (by omega),wrap64 (n:=((a+k:Nat):Int)+(c:Int)) (by omega) (by omega),wrap64 (n:=((r+1:Nat):Int)-(c:Int)) (by omega) (by omega),←G6]
  rw [show ((a+k:Nat):Int)+(c:Int)=((a+(k+c):Nat):Int) by omega,show ((r+1:Nat):Int)-(c:Int)=((r+1-c:Nat):Int) by omega]
  rw [show k+c+(r+1-c)=k+(r+1) by omega,show a+(k+c)+(r+1-c)=a+k+(r+1) by omega] at key
  exact key
theorem Ug (m:List Bytes)(a n:Int)(h:m.length≤1000000000):iQ m a n=some (bif cg m a n then (rF m a.toNat n.toNat,true) else ([],false)):=by
 have hfu:=bQ
 unfold iQ
 rw [xr m a n h,ab]
 cases hw:cg m a n with
 |false=>rfl
 |true=>
  simp only [cg,Bool.and_eq_true,decide_eq_true_eq] at hw
  obtain ⟨hm,h1,h2,h3⟩:=hw
  have h64:=(mem_iff.1 hm).2
  simp only [Bool.not_true,cond_false,cond_true]
  obtain ⟨a,rfl⟩:=Int.eq_ofNat_of_zero_le h2
  obtain ⟨n,rfl⟩:=Int.eq_ofNat_of_zero_le h1
  have:=AG hm (fun (y4:Int) (y5:Int) (y6:Bytes)=>some (y6,true)) n n 0 a fuel (by omega) (by omega) (by omega)
  rw [Nat.zero_add,Nat.add_zero] at this
  exact this
end
end Go.Pu
end
section
namespace Go.Pu
open Go.Dn
set_option linter.unusedSimpArgs false
set_option linter.unusedVariables false
noncomputable section
def EP (d p:Int)(w:Bool)(x:aw):Bool:=lJ d p x&&(x.2.2.2|| !w)
def pB (l:List aw)(d p:Int)(w:Bool):Int:=match l.findIdx? (EP d p w) with|some i=>(l.getD i FX).2.2.1|none=> -1
theorem Ud (l:List aw)(d p:Int)(w:Bool)(h:l.length≤1000000000):sv l d p w=some (pB l d p w):=by
 unfold sv pB
 refine Eq.trans (Bi (p:=EP d p w) (hit:=fun i=>aa (idx l i) fun x=>some x.2.2.1) (fin:=some (-1)) l (by omega) (fun i hi nx=> ?_) (fun nx=> ?_)) ?_
 ·simp only [mY]
  rw [decide_eq_true (by omega),ay hi,wrap64 (by omega) (by omega)]
  simp only [cond_true,ab,EP,lJ]
  cases l[i].1==d<;>cases l[i].2.1==p<;>cases l[i].2.2.2<;>cases w<;>rfl
 ·simp only [mY]
  rw [decide_eq_false (by omega)];rfl
 ·cases hf:l.findIdx? (EP d p w) with
  |none=>rfl
  |some i=>
   obtain ⟨hi,_⟩:=List.findIdx?_eq_some_iff_getElem.1 hf
   simp only [ay hi,ab,aM hi]
theorem Aj {l:List aw}(h:cz l=true){i:Nat}(hi:i<l.length):Bs l[i]=true∧∀j (hj:j<i),lJ l[i].1 l[i].2.1 (l[j]'(by omega))=false:=by
 simp only [cz,Bool.and_eq_true,List.all_eq_true,List.mem_range] at h
 have:=h.2 i hi
 simp only [Lz,Bool.and_eq_true,List.all_eq_true,List.mem_range,aM hi,Bool.not_eq_true'] at this
 exact ⟨this.1,fun j hj=>by have:=this.2 j hj;rwa [aM (by omega)] at this⟩
theorem Br {d p:Int}{m:aw}:lJ d p m=true↔m.1=d∧m.2.1=p:=by simp [lJ]
theorem Tv {l:List aw}(h:cz l=true){d p:Int}{i j:Nat}(hi:i<l.length)(hj:j<l.length)(h1:lJ d p l[i]=true)(h2:lJ d p l[j]=true):i=j:=by
 have a:=Br.1 h1;have b:=Br.1 h2
 rcases Nat.lt_trichotomy i j with h3|h3|h3
 ·have:=(Aj h hj).2 i h3;rw [b.1,b.2,h1] at this;cases this
 ·exact h3
 ·have:=(Aj h hi).2 j h3;rw [a.1,a.2,h2] at this;cases this
theorem EW {l:List aw}(h:cz l=true)(d p:Int)(w:Bool)(h1:0≤pB l d p w):pB l d p w≤63∧0≤p∧p≤1023:=by
 unfold pB at h1⊢
 cases hf:l.findIdx? (EP d p w) with
 |none=>rw [hf] at h1;simp at h1
 |some i=>
  obtain ⟨hi,h2,_⟩:=List.findIdx?_eq_some_iff_getElem.1 hf
  have h3:=(Aj h hi).1
  simp only [EP,Bool.and_eq_true,Br] at h2
  simp only [Bs,Bool.and_eq_true,aR] at h3
  simp only [aM hi]
  omega
theorem Q1 (l:List aw)(d:Int)(a:Nat)(w:Bool)(h:l.length≤1000000000)(hm:cz l=true)(ha:a≤9223372036854775807):
 vx l d (a:Int) w=some (if 0≤pB l d ((a/128:Nat):Int) w then pB l d ((a/128:Nat):Int) w*128+((a%128:Nat):Int) else-1):=by
 have e1:Int.tdiv (a:Int) 128=((a/128:Nat):Int):=Hv a 128
 have e2:Int.tmod (a:Int) 128=((a%128:Nat):Int):=Fu a 128
 unfold vx
 rw [decide_eq_false (by omega),cond_false,if_neg (by omega),e1,e2,wrap64 (by omega) (by omega),Lj l _ _ h,ab]
 generalize ((a/128:Nat):Int)=p
 have hin:=EW hm d p w
 unfold LY
 cases hf:l.findIdx? (lJ d p) with
 |none=>
  have hn:pB l d p w= -1:=by
   unfold pB
   rw [List.findIdx?_eq_none_iff] at hf
   rw [List.findIdx?_eq_none_iff.2 (fun x hx=>by rw [EP,hf x hx];rfl)]
  rw [hn];rfl
 |some i=>
  obtain ⟨hi,h2,h3⟩:=List.findIdx?_eq_some_iff_getElem.1 hf
  simp only
  rw [decide_eq_false (by omega),ay hi]
  simp only [cond_false,ab]
  cases hq:l[i].2.2.2|| !w with
  |true=>
   have hF:pB l d p w=l[i].2.2.1:=by
    unfold pB
    rw [List.findIdx?_eq_some_iff_getElem.2 ⟨hi,by rw [EP,h2,hq];rfl,fun j hj=>by have:=h3 j hj;rw [EP,Bool.eq_false_iff.2 this];simp⟩]
    exact congrArg (fun x:aw=>x.2.2.1) (aM hi FX)
   have h4:=(Aj hm hi).1
   simp only [Bs,Bool.and_eq_true,aR] at h4
   rw [hF,if_pos (show 0≤l[i].2.2.1 by omega),show (aa (cond w (some (!l[i].2.2.2)) (some false)) fun q3=>cond q3 (some (-1:Int)) _)=_ from by
    have:(cond w (some (!l[i].2.2.2)) (some false))=some false:=by
     cases w<;>cases hz:l[i].2.2.2<;>rw [hz] at hq<;>first|rfl|cases hq
    rw [this,ab,cond_false]]
   rw [if_neg (show¬(128:Nat)=0 by omega),wrap64 (n:=l[i].2.2.1*128) (by omega) (by omega),wrap64 (by omega) (by omega)]
  |false=>
   have hF:pB l d p w= -1:=by
    unfold pB
    rw [List.findIdx?_eq_none_iff.2 (fun x hx=>by
     obtain ⟨j,hj,rfl⟩:=List.getElem_of_mem hx
     cases hx2:lJ d p l[j] with
     |false=>rw [EP,hx2];rfl
     |true=>have:=Tv hm hi hj h2 hx2;subst this;rw [EP,hq];simp)]
   rw [hF,if_neg (show¬(0:Int)≤ -1 by omega)]
   cases w with
   |false=>simp at hq
   |true=>
    simp only [Bool.not_true,Bool.or_false] at hq
    simp only [cond_true,hq,ab,Bool.not_false]
def ik (l:List aw)(m:List Bytes)(d:Int)(w:Bool):Nat→Nat→Nat→Option (List (Int×Int))
 |0,_,_=>some []
 |n+1,a,r=>if r=0 then some [] else
  if 0≤pB l d ((a/128:Nat):Int) w∧pB l d ((a/128:Nat):Int) w<(m.length:Int) then
   (ik l m d w n (a+min (128-a%128) r) (r-min (128-a%128) r)).map (fun q=>(pB l d ((a/128:Nat):Int) w*128+((a%128:Nat):Int),((min (128-a%128) r:Nat):Int))::q)
  else none
theorem JX {m:List Bytes}(hm:cP m=true){f:Int}(h0:0≤f){o c:Nat}(hc:0<c)(ho:o+c≤128):cg m (f*128+(o:Int)) (c:Int)=decide (f<(m.length:Int)):=by
 rw [cg,hm,Bool.true_and]
 exact decide_eq_decide.2 (by omega)
theorem MU {m:List Bytes}(hm:cP m=true){f:Int}(h0:0≤f):cg m (f*128) 128=decide (f<(m.length:Int)):=by
 rw [cg,hm,Bool.true_and]
 exact decide_eq_decide.2 (by omega)
theorem z0 {l:List aw}{m:List Bytes}(hl:cz l=true)(hL:l.length≤1000000000)(hm:cP m=true)(d:Int)(w:Bool):∀(n a r f:Nat)(acc:List (Int×Int)),r≤n→n<f→acc.length+n≤1000000→a≤9223372036854775807→
 ar (jV (fun (y9:Int) (y10:Int) (y11:List (Int×Int))=>some (y11,true)) (fun (y12:Int) (y13:Int) (y14:List (Int×Int)) (y15:Bool) (y16:List (Int×Int))=>some (y14,y15)) l d w ([]:List (Int×Int)) false m) f ((a:Int),(r:Int),acc)
  =match ik l m d w n a r with|some q=>some (acc++q,true)|none=>some ([],false)
 |n,a,r,0,acc,_,hf,_,_=>by omega
 |0,a,r,f+1,acc,hr,hf,hA,ha=>by
  rw [ar]
  simp only [jV]
  rw [decide_eq_false (by omega)]
  simp [ik]
 |n+1,a,r,f+1,acc,hr,hf,hA,ha=>by
  have h64:=(mem_iff.1 hm).2
  rw [ar]
  simp only [jV,ik]
  by_cases h0:r=0
  ·rw [decide_eq_false (by omega),if_pos h0];simp
  ·have e2:Int.tmod (a:Int) 128=((a%128:Nat):Int):=Fu a 128
   have hin:=EW hl d ((a/128:Nat):Int) w
   rw [decide_eq_true (by omega),if_neg h0,Q1 l d a w hL hl ha,ab,if_neg (by omega),e2,wrap64 (n:=128-((a%128:Nat):Int)) (by omega) (by omega)]
   obtain ⟨c,hc⟩:∃c,min (128-a%128) r=c:=⟨_,rfl⟩
   rw [hc,show (if 128-((a%128:Nat):Int)<(r:Int) then 128-((a%128:Nat):Int) else (r:Int))=(c:Int) by split<;>omega]
   generalize hP:pB l d ((a/128:Nat):Int) w=P at hin⊢
   by_cases hP0:0≤P
   ·have hin:=hin hP0
    simp only [if_pos hP0,cond_true]
    rw [decide_eq_false (show¬P*128+((a%128:Nat):Int)<0 by omega),w9 m _ _ (by omega),JX hm hP0 (by omega) (by omega)]
    simp only [cond_false,ab]
    by_cases hP1:P<(m.length:Int)
    ·rw [decide_eq_true hP1,if_pos ⟨hP0,hP1⟩]
     simp only [Bool.not_true,cond_false]
     rw [aq (by simp;omega),wrap64 (n:=(a:Int)+(c:Int)) (by omega) (by omega),wrap64 (n:=(r:Int)-(c:Int)) (by omega) (by omega),decide_eq_false (show¬(a:Int)+(c:Int)<0 by omega)]
     simp only [cond_false,ab]
     have key:=z0 hl hL hm d w n (a+c) (r-c) f (acc++[(P*128+((a%128:Nat):Int),(c:Int))]) (by omega) (by omega) (by simp;omega) (by omega)
     rw [show ((a+c:Nat):Int)=(a:Int)+(c:Int) by omega,show ((r-c:Nat):Int)=(r:Int)-(c:Int) by omega] at key
     rw [key]
     cases ik l m d w n (a+c) (r-c) with
     |none=>rfl
     |some q=>simp
    ·rw [decide_eq_false hP1,if_neg (by omega)];rfl
   ·simp only [if_neg hP0,cond_true]
    rw [if_neg (by omega),decide_eq_true (by omega)];rfl
theorem AH {l:List aw}{m:List Bytes}(hl:cz l=true)(hL:l.length≤1000000000)(hm:cP m=true)(d:Int)(w:Bool):∀(n a r f:Nat)(acc:List (Int×Int)),r≤n→n<f→acc.length+n≤1000000→a≤9223372036854775807→
 ar (eH (fun (y10:Int) (y11:Int) (y12:List Int) (y13:List Int)=>some (y12,y13,true)) (fun (y14:Int) (y15:Int) (y16:List Int) (y17:List Int) (y18:Bool) (y19:List Int) (y20:List Int)=>some (y16,y17,y18)) l d w ([]:List Int) ([]:List Int) false m) f ((a:Int),(r:Int),acc.map (·.1),acc.map (·.2))
  =match ik l m d w n a r with|some q=>some ((acc++q).map (·.1),(acc++q).map (·.2),true)|none=>some ([],[],false)
 |n,a,r,0,acc,_,hf,_,_=>by omega
 |0,a,r,f+1,acc,hr,hf,hA,ha=>by
  rw [ar]
  simp only [eH]
  rw [decide_eq_false (by omega)]
  simp [ik]
 |n+1,a,r,f+1,acc,hr,hf,hA,ha=>by
  have h64:=(mem_iff.1 hm).2
  rw [ar]
  simp only [eH,ik]
  by_cases h0:r=0
  ·rw [decide_eq_false (by omega),if_pos h0];simp
  ·have e1:Int.tdiv (a:Int) 128=((a/128:Nat):Int):=Hv a 128
   have e2:Int.tmod (a:Int) 128=((a%128:Nat):Int):=Fu a 128
   have hin:=EW hl d ((a/128:Nat):Int) w
   rw [decide_eq_true (show (r:Int)>0 by omega),decide_eq_true (show (a:Int)≥0 by omega),if_neg h0]
   simp only [cond_true]
   rw [if_neg (by omega),e1,e2,wrap64 (n:=((a/128:Nat):Int)) (by omega) (by omega),Ud l _ _ w hL,ab,if_neg (by omega),wrap64 (n:=128-((a%128:Nat):Int)) (by omega) (by omega)]
   obtain ⟨c,hc⟩:∃c,min (128-a%128) r=c:=⟨_,rfl⟩
   rw [hc,show (if 128-((a%128:Nat):Int)<(r:Int) then 128-((a%128:Nat):Int) else (r:Int))=(c:Int) by split<;>omega]
   generalize hP:pB l d ((a/128:Nat):Int) w=P at hin⊢
   by_cases hP0:0≤P
   ·have hin:=hin hP0
    rw [decide_eq_false (show¬P<0 by omega),wrap64 (n:=P*128) (by omega) (by omega),xr m _ _ (by omega),MU hm hP0]
    simp only [cond_false,ab]
    by_cases hP1:P<(m.length:Int)
    ·rw [decide_eq_true hP1,if_pos ⟨hP0,hP1⟩]
     simp only [Bool.not_true,cond_false]
     rw [aq (by simp;omega),aq (by simp;omega),wrap64 (n:=P*128+((a%128:Nat):Int)) (by omega) (by omega),wrap64 (n:=(a:Int)+(c:Int)) (by omega) (by omega),wrap64 (n:=(r:Int)-(c:Int)) (by omega) (by omega)]
     have key:=AH hl hL hm d w n (a+c) (r-c) f (acc++[(P*128+((a%128:Nat):Int),(c:Int))]) (by omega) (by omega) (by simp;omega) (by omega)
     rw [show ((a+c:Nat):Int)=(a:Int)+(c:Int) by omega,show ((r-c:Nat):Int)=(r:Int)-(c:Int) by omega,List.map_append,List.map_append] at key
     refine Eq.trans key ?_
     cases ik l m d w n (a+c) (r-c) with
     |none=>rfl
     |some q=>simp
    ·rw [decide_eq_false hP1,if_neg (by omega)];rfl
   ·rw [if_neg (by omega),decide_eq_true (by omega)];rfl
def hG (l:List aw)(m:List Bytes)(d a n:Int)(w:Bool):List (Int×Int)×Bool:=
 bif cz l&&(cP m&&bc n 0 4096) then
  (bif n==0 then ([],true) else bif decide (a<0) then ([],false) else match ik l m d w n.toNat a.toNat n.toNat with|some q=>(q,true)|none=>([],false))
 else ([],false)
theorem Ll (l:List aw)(m:List Bytes)(d a n:Int)(w:Bool)(hl:l.length≤1000000000)(hm:m.length≤1000000000)(ha:a≤9223372036854775807):qI l m d a n w=some (hG l m d a n w):=by
 have hfu:=bQ
 unfold qI hG
 simp only [zW l hl,yW m hm,bg,ab]
 cases hB:cz l with|false=>rfl|true=> ?_
 cases hM:cP m with|false=>rfl|true=> ?_
 cases hN:bc n 0 4096 with|false=>rfl|true=> ?_
 have hn:=aR.1 hN
 simp only [Bool.not_true,cond_false,ab,Bool.and_self,cond_true]
 cases h0:n==0 with|true=>rfl|false=> ?_
 by_cases hA:a<0
 ·rw [decide_eq_true hA];rfl
 ·rw [decide_eq_false hA]
  simp only [cond_false]
  obtain ⟨a,rfl⟩:=Int.eq_ofNat_of_zero_le (show 0≤a by omega)
  obtain ⟨n,rfl⟩:=Int.eq_ofNat_of_zero_le hn.1
  rw [z0 hB hl hM d w n a n fuel [] (by omega) (by omega) (by simp;omega) (by omega)]
  simp only [Int.toNat_natCast]
  cases ik l m d w n a n<;>rfl
theorem Hj (l:List aw)(m:List Bytes)(d a n:Int)(w:Bool)(hl:l.length≤1000000000)(hm:m.length≤1000000000)(ha:a≤9223372036854775807):mB l m d a n w=some ((hG l m d a n w).1.map (·.1),(hG l m d a n w).1.map (·.2),(hG l m d a n w).2):=by
 have hfu:=bQ
 unfold mB hG
 simp only [AE l hl,wb m hm,aU,ab]
 cases hB:cz l with|false=>rfl|true=> ?_
 cases hM:cP m with|false=>rfl|true=> ?_
 cases hN:bc n 0 4096 with|false=>rfl|true=> ?_
 have hn:=aR.1 hN
 simp only [Bool.not_true,cond_false,ab,Bool.and_self,cond_true]
 obtain ⟨n,rfl⟩:=Int.eq_ofNat_of_zero_le hn.1
 cases h0:((n:Int)==0) with
 |true=>
  have:n=0:=by simpa using h0
  subst this
  obtain ⟨f,hf⟩:∃f,fuel=f+1:=⟨fuel-1,by omega⟩
  rw [hf,ar]
  rfl
 |false=>
  have hn0:n≠0:=by simpa using h0
  by_cases hA:a<0
  ·obtain ⟨f,hf⟩:∃f,fuel=f+1:=⟨fuel-1,by omega⟩
   rw [decide_eq_true hA,hf,ar]
   simp only [eH]
   rw [decide_eq_true (by omega),decide_eq_false (by omega)]
   rfl
  ·rw [decide_eq_false hA]
   simp only [cond_false]
   obtain ⟨a,rfl⟩:=Int.eq_ofNat_of_zero_le (show 0≤a by omega)
   refine Eq.trans (AH hB hl hM d w n a n fuel [] (by omega) (by omega) (by simp;omega) (by omega)) ?_
   simp only [Int.toNat_natCast]
   cases ik l m d w n a n<;>rfl
end
end Go.Pu
end
section
namespace Go.Pu
open Go.Dn
set_option linter.unusedSimpArgs false
set_option linter.unusedVariables false
noncomputable section
def Qt (a b:Int):Int:=(fK a b).getD 0
theorem CL (a b:Int):fK a b=some (Qt a b):=by
 unfold Qt
 have:∃x,fK a b=some x:=by
  simp only [fK,aU,ab]
  cases bc a 0 65535<;>cases bc b 0 65535<;>cases decide (IntKind.wrap .i64 (a+b)>65535)<;>exact ⟨_,rfl⟩
 obtain ⟨x,hx⟩:=this
 rw [hx];rfl
theorem Lc (a b:Int):rL a b=some (Qt a b):=CL a b
theorem Ws {a b:Int}(h:0≤a∧a≤65535)(k:0≤b∧b≤65535):0≤Qt a b∧Qt a b≤65535:=by
 have e:=CL a b
 simp only [fK,aU,ab,aR.2 h,aR.2 k,Bool.not_true,cond_false] at e
 rw [wrap64 (n:=a+b) (by omega) (by omega)] at e
 by_cases hc:a+b>65535
 ·rw [decide_eq_true hc,cond_true,wrap64 (by omega) (by omega)] at e
  rw [←Option.some.inj e];omega
 ·rw [decide_eq_false hc,cond_false] at e
  rw [←Option.some.inj e];omega
def sw (s:Bytes):Nat→Int
 |0=>0
 |j+1=>Qt (sw s j) ((aQ s (2*j)*256+aQ s (2*j+1):Nat):Int)
theorem Ul (s:Bytes):∀j,0≤sw s j∧sw s j≤65535
 |0=>by simp [sw]
 |j+1=>by
  have b0:=bA s (2*j)
  have b1:=bA s (2*j+1)
  exact Ws (Ul s j) (by omega)
theorem C3 {s:Bytes}{i:Nat}(h:s.length≤i):aQ s i=0:=by
 unfold aQ
 rw [List.getD_eq_getElem?_getD,List.getElem?_eq_none h];rfl
theorem Xu (s:Bytes)(h:s.length≤1000000000):qw s=some (sw s ((s.length+1)/2)):=by
 unfold qw
 refine bB (fun j=>(sw s j,((2*j:Nat):Int))) ((s.length+1)/2) (by omega) (fun j nx hj=> ?_) (fun nx=> ?_)
 ·have b0:=bA s (2*j)
  have b1:=bA s (2*j+1)
  obtain ⟨x,hx,ex⟩:=iA (s:=s) (i:=2*j) (by omega)
  simp only [lD]
  rw [decide_eq_true (by omega),cond_true,hx,ab,if_neg (by omega),wrap64 (n:=((2*j:Nat):Int)+1) (by omega) (by omega),wrap64 (n:=((2*j:Nat):Int)+2) (by omega) (by omega),ex,dk (by omega)]
  have e8:min (Int.toNat 8) (IntKind.bits .i64)=8:=rfl
  have en:((2*j:Nat):Int)+2=((2*(j+1):Nat):Int):=by omega
  rw [e8,wrap64 (n:=((aQ s (2*j):Nat):Int)*2^8) (by omega) (by omega)]
  by_cases hc:2*j+1<s.length
  ·obtain ⟨y,hy,ey⟩:=iA (s:=s) (i:=2*j+1) hc
   rw [decide_eq_true (by omega),cond_true,show ((2*j:Nat):Int)+1=((2*j+1:Nat):Int) by omega,hy,ab,ey,dk (n:=aQ s (2*j+1)) (by omega),wrap64 (by omega) (by omega),CL,ab,en,show ((aQ s (2*j):Nat):Int)*2^8+((aQ s (2*j+1):Nat):Int)=((aQ s (2*j)*256+aQ s (2*j+1):Nat):Int) by omega];rfl
  ·have hz:=C3 (s:=s) (i:=2*j+1) (by omega)
   rw [decide_eq_false (by omega),cond_false,CL,ab,en,show ((aQ s (2*j):Nat):Int)*2^8=((aQ s (2*j)*256+aQ s (2*j+1):Nat):Int) by rw [hz];omega];rfl
 ·simp only [lD]
  rw [decide_eq_false (by omega)];rfl
theorem WZ (s:Bytes)(h:s.length≤1000000000):p8 s=some (sw s ((s.length+1)/2)):=by
 unfold p8
 refine bB (fun j=>(sw s j,((2*j:Nat):Int))) ((s.length+1)/2) (by omega) (fun j nx hj=> ?_) (fun nx=> ?_)
 ·have b0:=bA s (2*j)
  have b1:=bA s (2*j+1)
  obtain ⟨x,hx,ex⟩:=iA (s:=s) (i:=2*j) (by omega)
  simp only [kU]
  rw [decide_eq_true (by omega),cond_true,hx,ab,if_neg (by omega),wrap64 (n:=((2*j:Nat):Int)+1) (by omega) (by omega),wrap64 (n:=((2*j:Nat):Int)+2) (by omega) (by omega),ex,dk (by omega)]
  have e8:min (Int.toNat 8) (IntKind.bits .i64)=8:=rfl
  have en:((2*j:Nat):Int)+2=((2*(j+1):Nat):Int):=by omega
  rw [e8,show ((aQ s (2*j):Nat):Int)*2^8=((2^8*aQ s (2*j):Nat):Int) by omega,dk (n:=2^8*aQ s (2*j)) (by omega)]
  by_cases hc:2*j+1<s.length
  ·obtain ⟨y,hy,ey⟩:=iA (s:=s) (i:=2*j+1) hc
   rw [decide_eq_true (by omega),cond_true,show ((2*j:Nat):Int)+1=((2*j+1:Nat):Int) by omega,hy,ab,ey,dk (n:=aQ s (2*j+1)) (by omega),zd (aQ s (2*j)) 8 (aQ s (2*j+1)) (by omega) (by omega),Lc,ab,en,show 2^8*aQ s (2*j)+aQ s (2*j+1)=aQ s (2*j)*256+aQ s (2*j+1) by omega];rfl
  ·have hz:=C3 (s:=s) (i:=2*j+1) (by omega)
   rw [decide_eq_false (by omega),cond_false,Lc,ab,en,show ((2^8*aQ s (2*j):Nat):Int)=((aQ s (2*j)*256+aQ s (2*j+1):Nat):Int) by rw [hz];omega];rfl
 ·simp only [kU]
  rw [decide_eq_false (by omega)];rfl
def Nh (s:Bytes):Int:=65535-sw s ((s.length+1)/2)
theorem JD (s:Bytes)(h:s.length≤1000000000):jd s=some (Nh s):=by
 have:=Ul s ((s.length+1)/2)
 simp only [jd,Xu s h,ab]
 rw [wrap64 (by omega) (by omega)];rfl
theorem PC (s:Bytes)(h:s.length≤1000000000):lU s=some (Nh s):=by
 have:=Ul s ((s.length+1)/2)
 simp only [lU,WZ s h,ab]
 rw [wrap64 (by omega) (by omega)];rfl
def As (s:Bytes)(a:Int)(p:Bytes):Bytes:=bif bM s a (p.length:Int) then (s.take a.toNat++p)++s.drop (a.toNat+p.length) else s
theorem L4 (s:Bytes)(a:Int)(p:Bytes):(As s a p).length=s.length:=by
 unfold As
 cases hw:bM s a (p.length:Int) with
 |false=>rfl
 |true=>
  simp only [bM,decide_eq_true_eq] at hw
  simp only [cond_true,List.length_append,List.length_take,List.length_drop]
  omega
theorem L9 (s:Bytes)(a:Int)(p:Bytes)(h:s.length≤1000000000)(hw:bM s a (p.length:Int)=true):
 (aa (sub s 0 a) fun x2=>room (List.length x2+List.length p) (aa (sub s (IntKind.wrap .i64 (a+((List.length p:Int)))) ((List.length s:Int))) fun x3=>room (List.length (x2++p)+List.length x3) (some ((x2++p)++x3))))=some (As s a p):=by
 have hw':=hw
 simp only [bM,decide_eq_true_eq] at hw'
 obtain ⟨n,rfl⟩:=Int.eq_ofNat_of_zero_le hw'.1
 have e1:sub s 0 (n:Int)=some (s.take n):=by unfold sub;rw [if_pos (by omega)];rfl
 have e2:sub s (((n+p.length:Nat):Int)) (s.length:Int)=some (s.drop (n+p.length)):=by
  unfold sub;rw [if_pos (by omega),Int.toNat_natCast,Int.toNat_natCast,List.take_length]
 rw [e1,wrap64 (by omega) (by omega),show (n:Int)+(p.length:Int)=((n+p.length:Nat):Int) by omega,e2,ab,aq (by simp only [List.length_take];omega),ab,aq (by simp only [List.length_append,List.length_take,List.length_drop];omega)]
 unfold As
 rw [hw];rfl
theorem CM (s:Bytes)(a:Int)(p:Bytes)(h:s.length≤1000000000):dB s a p=some (As s a p):=by
 unfold dB
 rw [xq s a _ h (by omega),ab]
 cases hw:bM s a (p.length:Int) with
 |false=>simp only [Bool.not_false,cond_true,As,hw,cond_false]
 |true=>exact L9 s a p h hw
theorem I8 (s:Bytes)(a:Int)(p:Bytes)(h:s.length≤1000000000)(hp:p.length≤1000000000):iY s a p=some (As s a p):=by
 unfold iY
 rw [wrap64 (n:=(s.length:Int)-(p.length:Int)) (by omega) (by omega)]
 cases hw:bM s a (p.length:Int) with
 |true=>
  have hw':=hw
  simp only [bM,decide_eq_true_eq] at hw'
  rw [decide_eq_false (show¬a<0 by omega),decide_eq_false (show¬a>(s.length:Int)-(p.length:Int) by omega)]
  exact L9 s a p h hw
 |false=>
  have hp:As s a p=s:=by unfold As;rw [hw];rfl
  rw [hp]
  simp only [bM,decide_eq_false_iff_not] at hw
  by_cases h0:a<0
  ·rw [decide_eq_true h0];rfl
  ·rw [decide_eq_false h0,decide_eq_true (show a>(s.length:Int)-(p.length:Int) by omega)];rfl
def bs2 (x y:Int):Bytes:=bytesOf [x,y]
theorem HM (x y:Int):(bs2 x y).length=2:=rfl
def vV (a b k n:Int):Bool:=bc a 0 4294967295&&(bc b 0 4294967295&&(bc k 0 255&&bc n 0 65535))
def tw (a b k n:Int):Bytes:=((cw a++cw b)++bs2 0 (IntKind.wrap .u8 k))++bz n
theorem G5 (a b k n:Int):(tw a b k n).length≤12:=by
 have:=bd a
 have:=bd b
 have:=aF n
 simp only [tw,List.length_append,HM];omega
theorem zj (a b k n:Int):fO a b k n=some (bif vV a b k n then (tw a b k n,true) else ([],false)):=by
 have:=bd a
 have:=bd b
 have:=aF n
 unfold fO vV
 simp only [aU,ab,fY,im]
 cases bc a 0 4294967295 with|false=>rfl|true=> ?_
 cases bc b 0 4294967295 with|false=>rfl|true=> ?_
 cases bc k 0 255 with|false=>rfl|true=> ?_
 cases bc n 0 65535 with|false=>rfl|true=> ?_
 simp only [Bool.not_true,cond_false,Bool.and_self,cond_true,ab]
 have e:(bytesOf [0,IntKind.wrap .u8 k]).length=2:=rfl
 rw [aq (by omega),aq (by simp only [List.length_append,e];omega),aq (by simp only [List.length_append,e];omega)];rfl
theorem NL (a b k n:Int):nW a b k n=some (bif vV a b k n then (tw a b k n,true) else ([],false)):=zj a b k n
def bare (g:bj):Bytes:=bif g.1==6 then
    (((((bz g.2.1++bz g.2.2.1)++cw g.2.2.2.1)++cw g.2.2.2.2.1)++bs2 80 (IntKind.wrap .u8 g.2.2.2.2.2.1))++bz g.2.2.2.2.2.2.1)++cw 0++g.2.2.2.2.2.2.2
 else (((bz g.2.1++bz g.2.2.1)++bz (8+(g.2.2.2.2.2.2.2.length:Int)))++bz 0)++g.2.2.2.2.2.2.2
theorem HK (g:bj):(bare g).length≤20+g.2.2.2.2.2.2.2.length:=by
 have:=aF g.2.1
 have:=aF g.2.2.1
 have:=bd g.2.2.2.1
 have:=bd g.2.2.2.2.1
 have:=aF g.2.2.2.2.2.2.1
 have:=bd 0
 have:=aF 0
 have:=aF (8+(g.2.2.2.2.2.2.2.length:Int))
 unfold bare
 cases g.1==6<;>simp only [cond_true,cond_false,List.length_append,HM]<;>omega
theorem R7:bz 0++bz 0=cw 0:=by rfl
theorem S1 (g:bj)(h:g.2.2.2.2.2.2.2.length≤1000000):kX g=some (bare g):=by
 have:=aF g.2.1
 have:=aF g.2.2.1
 have:=bd g.2.2.2.1
 have:=bd g.2.2.2.2.1
 have:=aF g.2.2.2.2.2.2.1
 have:=aF 0
 have:=aF (8+(g.2.2.2.2.2.2.2.length:Int))
 have e:∀x,(bytesOf [80,IntKind.wrap .u8 x]).length=2:=fun _=>rfl
 unfold kX bare
 rw [wrap64 (n:=8+(g.2.2.2.2.2.2.2.length:Int)) (by omega) (by omega)]
 simp only [nb,nd,ab]
 rw [aq (by omega)]
 cases g.1==6 with
 |true=>
  simp only [cond_true]
  rw [aq (by simp only [List.length_append,e];omega),aq (by simp only [List.length_append,e];omega),aq (by simp only [List.length_append,e];omega),aq (by simp only [List.length_append,e];omega),aq (by simp only [List.length_append,e];omega),aq (by simp only [List.length_append,e];omega),aq (by simp only [List.length_append,e];omega)]
  rw [←R7]
  simp only [bs2,List.append_assoc]
 |false=>
  simp only [cond_false]
  rw [aq (by simp only [List.length_append];omega),aq (by simp only [List.length_append];omega),aq (by simp only [List.length_append];omega)]
def Qg (a b:Int)(g:bj):Int:=bif (Nh (tw a b g.1 ((bare g).length:Int)++bare g)==0)&&(g.1==17) then 65535 else Nh (tw a b g.1 ((bare g).length:Int)++bare g)
def P5 (a b:Int)(g:bj):Bytes:=As (bare g) (bif g.1==6 then 16 else 6) (bz (Qg a b g))
def E9 (a b:Int)(g:bj):Bool:=zi g&&vV a b g.1 ((bare g).length:Int)
def uG (a b:Int)(g:bj):Bytes×Bool:=bif E9 a b g then (P5 a b g,true) else ([],false)
theorem Ax {g:bj}(h:zi g=true):g.2.2.2.2.2.2.2.length≤320:=by
 simp only [zi,Bool.and_eq_true,Bool.not_eq_true',decide_eq_false_iff_not] at h
 omega
theorem xp (a b:Int)(g:bj):dM a b g=some (uG a b g):=by
 unfold dM uG E9
 rw [Qb,ab]
 cases hg:zi g with|false=>rfl|true=> ?_
 have hb:=Ax hg
 have hl:=HK g
 have hp:=G5 a b g.1 ((bare g).length:Int)
 have:=aF g.2.1
 have:=aF g.2.2.1
 have:=bd g.2.2.2.1
 have:=bd g.2.2.2.2.1
 have:=aF g.2.2.2.2.2.2.1
 have:=bd 0
 have:=aF 0
 have:=aF (8+(g.2.2.2.2.2.2.2.length:Int))
 have e:∀x,(bytesOf [80,IntKind.wrap .u8 x]).length=2:=fun _=>rfl
 rw [wrap64 (n:=8+(g.2.2.2.2.2.2.2.length:Int)) (by omega) (by omega)]
 simp only [im,fY,ab,Bool.not_true,cond_false,Bool.true_and]
 rw [aq (by omega)]
 cases h6:g.1==6 with
 |true=>
  have hbare:bare g=(((((bz g.2.1++bz g.2.2.1)++cw g.2.2.2.1)++cw g.2.2.2.2.1)++bytesOf [80,IntKind.wrap .u8 g.2.2.2.2.2.1])++bz g.2.2.2.2.2.2.1)++cw 0++g.2.2.2.2.2.2.2:=by unfold bare;rw [h6];rfl
  simp only [cond_true]
  rw [aq (by simp only [List.length_append,e];omega),aq (by simp only [List.length_append,e];omega),aq (by simp only [List.length_append,e];omega),aq (by simp only [List.length_append,e];omega),aq (by simp only [List.length_append,e];omega),aq (by simp only [List.length_append,e];omega),←hbare,zj,ab]
  cases vV a b g.1 ((bare g).length:Int) with|false=>rfl|true=> ?_
  simp only [cond_true,Bool.not_true,cond_false]
  rw [aq (by omega),JD _ (by simp only [List.length_append];omega)]
  simp only [ab,az,CM _ _ _ (show (bare g).length≤1000000000 by omega),P5,Qg,h6,cond_true,cF]
  cases (Nh (tw a b g.1 ((bare g).length:Int)++bare g)==0)&&(g.1==17)<;>rfl
 |false=>
  have hbare:bare g=(((bz g.2.1++bz g.2.2.1)++bz (8+(g.2.2.2.2.2.2.2.length:Int)))++bz 0)++g.2.2.2.2.2.2.2:=by unfold bare;rw [h6];rfl
  simp only [cond_false]
  rw [aq (by simp only [List.length_append];omega),aq (by simp only [List.length_append];omega),aq (by simp only [List.length_append];omega),←hbare,zj,ab]
  cases vV a b g.1 ((bare g).length:Int) with|false=>rfl|true=> ?_
  simp only [cond_true,Bool.not_true,cond_false]
  rw [aq (by omega),JD _ (by simp only [List.length_append];omega)]
  simp only [ab,az,CM _ _ _ (show (bare g).length≤1000000000 by omega),P5,Qg,h6,cond_false,cF]
  cases (Nh (tw a b g.1 ((bare g).length:Int)++bare g)==0)&&(g.1==17)<;>rfl
theorem w8 (a b:Int)(g:bj):dK a b g=some (uG a b g):=by
 unfold dK uG E9
 rw [PH,ab]
 cases hg:zi g with|false=>rfl|true=> ?_
 have hb:=Ax hg
 have hl:=HK g
 have hp:=G5 a b g.1 ((bare g).length:Int)
 have hsp:l8 g.1=some (bif g.1==6 then 16 else 6):=by unfold l8;rw [az]
 have w1:=aF 65535
 have w2:=aF (Nh (tw a b g.1 ((bare g).length:Int)++bare g))
 simp only [S1 g (by omega),NL,ab,Bool.not_true,cond_false,Bool.true_and]
 cases vV a b g.1 ((bare g).length:Int) with|false=>rfl|true=> ?_
 simp only [cond_true,Bool.not_true,cond_false]
 rw [aq (by omega),PC _ (by simp only [List.length_append];omega)]
 simp only [ab,az,hsp,nb,I8 _ _ _ (show (bare g).length≤1000000000 by omega) (show (bz 65535).length≤1000000000 by omega),I8 _ _ _ (show (bare g).length≤1000000000 by omega) (show (bz (Nh (tw a b g.1 ((bare g).length:Int)++bare g))).length≤1000000000 by omega),P5,Qg,cF]
 rw [Bool.and_comm]
 cases (Nh (tw a b g.1 ((bare g).length:Int)++bare g)==0)&&(g.1==17)<;>rfl
theorem Xp (a b:Int)(g:bj):(uG a b g).1.length≤340:=by
 unfold uG
 cases h:E9 a b g with
 |false=>exact Nat.zero_le _
 |true=>
  simp only [E9,Bool.and_eq_true] at h
  have:=Ax h.1
  have:=HK g
  show (As _ _ _).length≤340
  rw [L4];omega
end
end Go.Pu
end
section
namespace Go.Pu
open Go.Dn
set_option linter.unusedSimpArgs false
set_option linter.unusedVariables false
noncomputable section
theorem iW (a:List Bytes)(h:a.length≤1073741824):bF a=some a:=by
 simp only [bF,cY]
 rw [aq (by simpa using h)];rfl
theorem nf (a:List Bytes)(h:a.length≤1073741824):cm a=some a:=by
 simp only [cm]
 rw [aq (by simpa using h)];rfl
end
end Go.Pu
end
section
namespace Go.Pu
open Go.Dn
set_option linter.unusedSimpArgs false
set_option linter.unusedVariables false
noncomputable section
def yz (x:Bytes)(o:Nat)(t:Bytes):Bytes:=x.take o++(t++x.drop (o+t.length))
theorem Rt {x:Bytes}{o:Nat}{t:Bytes}(h:o+t.length≤x.length):(yz x o t).length=x.length:=by
 simp only [yz,List.length_append,List.length_take,List.length_drop];omega
theorem Rx (x:Bytes)(o:Nat)(t:Bytes):bytesOf (uX (a7 x) o (a7 t))=yz x o t:=by
 have e:uX (a7 x) o (a7 t)=a7 (yz x o t):=by
  simp only [uX,yz,a7,List.map_append,List.map_take,List.map_drop,List.length_map]
 rw [e,C4]
theorem TT {x:Bytes}{o:Nat}{t:Bytes}(h:o+t.length≤x.length):As x (o:Int) t=yz x o t:=by
 unfold As bM
 rw [decide_eq_true ⟨by omega,by omega⟩]
 simp only [cond_true,Int.toNat_natCast,yz,List.append_assoc]
def tJ:Nat→List Bytes→Nat→Bytes→List Bytes
 |0,m,_,_=>m
 |n+1,m,a,s=>if s.length=0 then m else
  tJ n (m.set (a/128) (yz (m.getD (a/128) []) (a%128) (s.take (128-a%128)))) (a+min (128-a%128) s.length) (s.drop (128-a%128))
def vU (m:List Bytes):Prop:=(∀x∈m,x.length=128)∧m.length≤64
theorem xT {m:List Bytes}:cP m=true↔vU m:=mem_iff
theorem BD {m:List Bytes}{p:Nat}{x:Bytes}(h:vU m)(hx:x.length=128):vU (m.set p x):=by
 refine ⟨fun y hy=> ?_,by rw [List.length_set];exact h.2⟩
 rcases List.mem_or_eq_of_mem_set hy with g|g
 ·exact h.1 y g
 ·rw [g];exact hx
theorem zu {m:List Bytes}(h:vU m){a:Nat}{s:Bytes}(hs:s.length≠0)(ha:a+s.length≤128*m.length):
 ∃(hp:a/128<m.length),(m[a/128]'hp).length=128∧(yz (m[a/128]'hp) (a%128) (s.take (128-a%128))).length=128:=by
 have hp:a/128<m.length:=by omega
 have hl:=h.1 _ (List.getElem_mem hp)
 refine ⟨hp,hl, ?_⟩
 rw [Rt (by rw [List.length_take,hl];omega),hl]
theorem wo:∀(n:Nat){m:List Bytes}{a:Nat}{s:Bytes},vU m→a+s.length≤128*m.length→vU (tJ n m a s)∧(tJ n m a s).length=m.length
 |0,m,a,s,h,_=>⟨h,rfl⟩
 |n+1,m,a,s,h,ha=>by
  rw [tJ]
  split
  ·exact ⟨h,rfl⟩
  ·rename_i hs
   obtain ⟨hp,hl,ho⟩:=zu h hs ha
   rw [aM hp]
   have:=wo n (m:=m.set (a/128) (yz m[a/128] (a%128) (s.take (128-a%128)))) (a:=a+min (128-a%128) s.length) (s:=s.drop (128-a%128)) (BD h ho) (by rw [List.length_set,List.length_drop];omega)
   rw [List.length_set] at this
   exact this
theorem yv {R:Type}(K:Int→Bytes→List Bytes→Option R)(K':List Bytes→Option R)(hK:∀a m,K a [] m=K' m):∀(n:Nat)(m:List Bytes)(a:Nat)(s:Bytes)(f:Nat),s.length≤n→n<f→vU m→a+s.length≤128*m.length→
 ar (gr K ([]:List Bytes)) f ((a:Int),s,m)=K' (tJ n m a s)
 |n,m,a,s,0,_,hf,_,_=>by omega
 |n,m,a,s,f+1,hs,hf,hm,ha=>by
  rw [ar]
  simp only [gr]
  by_cases h0:s.length=0
  ·have:s=[]:=List.eq_nil_of_length_eq_zero h0
   subst this
   rw [decide_eq_false (by simp),cond_false,hK]
   cases n<;>simp [tJ]
  ·cases n with
   |zero=>omega
   |succ n=>
    obtain ⟨hp,hl,ho⟩:=zu hm h0 ha
    have h64:=hm.2
    have e1:Int.tdiv (a:Int) 128=((a/128:Nat):Int):=Hv a 128
    have e2:Int.tmod (a:Int) 128=((a%128:Nat):Int):=Fu a 128
    rw [decide_eq_true (by omega),cond_true,if_neg (by omega),e1,e2,wrap64 (n:=((a/128:Nat):Int)) (by omega) (by omega),ay hp,ab,aq (by omega),if_neg (by omega)]
    have hsub:sub (a7 m[a/128]) ((a%128:Nat):Int) ((a7 m[a/128]).length:Int)=some ((a7 m[a/128]).drop (a%128)):=by
     rw [JN _ _ _ (by rw [Af];omega) (Nat.le_refl _),List.take_of_length_le (by rw [List.length_drop];exact Nat.le_refl _)]
    rw [hsub,ab,if_neg (by omega),ab,ab]
    have hd:((a7 m[a/128]).drop (a%128)).length=128-a%128:=by rw [List.length_drop,Af,hl]
    rw [hd]
    have hdr:s.drop (min (128-a%128) s.length)=s.drop (128-a%128):=by
     by_cases h3:128-a%128≤s.length
     ·rw [Nat.min_eq_left h3]
     ·rw [Nat.min_eq_right (by omega),List.drop_of_length_le (Nat.le_refl _),List.drop_of_length_le (by omega)]
    have hsub2:sub s (((min (128-a%128) s.length:Nat)):Int) ((s.length:Int))=some (s.drop (128-a%128)):=by
     rw [←hdr];unfold sub;rw [if_pos (by omega)];simp
    rw [hsub2,ab,wrap64 (n:=(a:Int)+((min (128-a%128) s.length:Nat):Int)) (by omega) (by omega),Int.toNat_natCast,Int.toNat_natCast,Rx]
    rw [tJ,if_neg h0,aM hp,show (a:Int)+((min (128-a%128) s.length:Nat):Int)=((a+min (128-a%128) s.length:Nat):Int) by omega]
    exact yv K K' hK n _ _ _ f (by rw [List.length_drop];omega) (by omega) (BD hm ho) (by rw [List.length_set,List.length_drop];omega)
theorem yC {R:Type}(K:Int→Bytes→List Bytes→Option R)(K':List Bytes→Option R)(hK:∀a m,K a [] m=K' m):∀(n:Nat)(m:List Bytes)(a:Nat)(s:Bytes)(f:Nat),s.length≤n→n<f→vU m→a+s.length≤128*m.length→
 ar (gz K ([]:List Bytes)) f ((a:Int),s,m)=K' (tJ n m a s)
 |n,m,a,s,0,_,hf,_,_=>by omega
 |n,m,a,s,f+1,hs,hf,hm,ha=>by
  rw [ar]
  simp only [gz]
  by_cases h0:s.length=0
  ·have:s=[]:=List.eq_nil_of_length_eq_zero h0
   subst this
   rw [decide_eq_false (by simp),cond_false,hK]
   cases n<;>simp [tJ]
  ·cases n with
   |zero=>omega
   |succ n=>
    obtain ⟨hp,hl,ho⟩:=zu hm h0 ha
    have h64:=hm.2
    have e1:Int.tdiv (a:Int) 128=((a/128:Nat):Int):=Hv a 128
    have e2:Int.tmod (a:Int) 128=((a%128:Nat):Int):=Fu a 128
    rw [decide_eq_true (by omega),cond_true,if_neg (by omega),if_neg (by omega),if_neg (by omega),e1,e2,wrap64 (n:=((a/128:Nat):Int)) (by omega) (by omega),wrap64 (n:=128-((a%128:Nat):Int)) (by omega) (by omega),ay hp,ab]
    obtain ⟨c,hc⟩:∃c,min (128-a%128) s.length=c:=⟨_,rfl⟩
    rw [show (if 128-((a%128:Nat):Int)<(s.length:Int) then 128-((a%128:Nat):Int) else (s.length:Int))=(c:Int) by split<;>omega]
    have ht:s.take c=s.take (128-a%128):=by
     by_cases h3:128-a%128≤s.length
     ·rw [←hc,Nat.min_eq_left h3]
     ·rw [←hc,Nat.min_eq_right (by omega),List.take_of_length_le (Nat.le_refl _),List.take_of_length_le (by omega)]
    have hdr:s.drop c=s.drop (128-a%128):=by
     by_cases h3:128-a%128≤s.length
     ·rw [←hc,Nat.min_eq_left h3]
     ·rw [←hc,Nat.min_eq_right (by omega),List.drop_of_length_le (Nat.le_refl _),List.drop_of_length_le (by omega)]
    have hs1:sub s 0 (c:Int)=some (s.take (128-a%128)):=by
     rw [←ht];unfold sub;rw [if_pos (by omega)];simp
    have hs2:sub s (c:Int) (s.length:Int)=some (s.drop (128-a%128)):=by
     rw [←hdr];unfold sub;rw [if_pos (by omega)];simp
    rw [hs1,ab,CM _ _ _ (by omega),ab,ab,ab,hs2,ab,TT (by rw [List.length_take,hl];omega),wrap64 (n:=(a:Int)+(c:Int)) (by omega) (by omega),Int.toNat_natCast]
    rw [tJ,if_neg h0,aM hp,hc,show (a:Int)+(c:Int)=((a+c:Nat):Int) by omega]
    exact yC K K' hK n _ _ _ f (by rw [List.length_drop];omega) (by omega) (BD hm ho) (by rw [List.length_set,List.length_drop];omega)
def py (m:List Bytes)(a:Int)(s:Bytes):List Bytes×Bool:=bif cg m a (s.length:Int) then (tJ s.length m a.toNat s,true) else (m,false)
theorem NP (m:List Bytes)(a:Int)(s:Bytes)(h:m.length≤1000000000)(hs:s.length≤1000000000):kW m a s=some (py m a s):=by
 have hfu:=bQ
 unfold kW py
 rw [iW m (by omega),ab,w9 m _ _ h,ab]
 cases hw:cg m a (s.length:Int) with|false=>rfl|true=> ?_
 simp only [cg,Bool.and_eq_true,decide_eq_true_eq] at hw
 obtain ⟨a,rfl⟩:=Int.eq_ofNat_of_zero_le hw.2.2.1
 simp only [Bool.not_true,cond_false,cond_true,Int.toNat_natCast]
 exact yv _ (fun m=>some (m,true)) (fun _ _=>rfl) s.length m a s fuel (Nat.le_refl _) (by omega) (xT.1 hw.1) (by omega)
theorem OA (m:List Bytes)(a:Int)(s:Bytes)(h:m.length≤1000000000)(hs:s.length≤1000000000):lE m a s=some (py m a s):=by
 have hfu:=bQ
 unfold lE py
 rw [nf m (by omega),ab,xr m _ _ h,ab]
 cases hw:cg m a (s.length:Int) with|false=>rfl|true=> ?_
 simp only [cg,Bool.and_eq_true,decide_eq_true_eq] at hw
 obtain ⟨a,rfl⟩:=Int.eq_ofNat_of_zero_le hw.2.2.1
 simp only [Bool.not_true,cond_false,cond_true,Int.toNat_natCast]
 exact yC _ (fun m=>some (m,true)) (fun _ _=>rfl) s.length m a s fuel (Nat.le_refl _) (by omega) (xT.1 hw.1) (by omega)
end
end Go.Pu
end
section
namespace Go.Pu
open Go.Dn
set_option linter.unusedSimpArgs false
set_option linter.unusedVariables false
noncomputable section
theorem xA (m:List Bytes)(a:Int)(s:Bytes):(py m a s).1.length=m.length:=by
 unfold py
 cases hw:cg m a (s.length:Int) with|false=>rfl|true=> ?_
 simp only [cg,Bool.and_eq_true,decide_eq_true_eq] at hw
 exact (wo s.length (xT.1 hw.1) (by omega)).2
def Jq:List (Int×Int)→List Bytes→Bytes→List Bytes
 |[],m,_=>m
 |p::q,m,s=>Jq q (py m p.1 (s.take p.2.toNat)).1 (s.drop p.2.toNat)
theorem L5:∀(q:List (Int×Int))(m:List Bytes)(s:Bytes),(Jq q m s).length=m.length
 |[],m,s=>rfl
 |p::q,m,s=>by rw [Jq,L5 q,xA]
def CB (q:List (Int×Int)):Int:=(q.map (·.2)).sum
theorem Qh:∀(q:List (Int×Int)),(∀p∈q,0≤p.2)→0≤CB q
 |[],_=>Int.le_refl _
 |p::q,h=>by
  have:=Qh q (fun x hx=>h x (by simp [hx]))
  have:=h p (by simp)
  simp only [CB,List.map_cons,List.sum_cons] at*;omega
theorem Ma {p:Int×Int}{q:List (Int×Int)}(hc:∀x∈p::q,0≤x.2){s:Bytes}(hs:(s.length:Int)=CB (p::q)):0≤p.2∧p.2≤(s.length:Int)∧((s.drop p.2.toNat).length:Int)=CB q:=by
 have h1:=hc p (by simp)
 have h2:=Qh q (fun x hx=>hc x (by simp [hx]))
 have h3:CB (p::q)=p.2+CB q:=by simp [CB]
 rw [h3] at hs
 refine ⟨h1,by omega, ?_⟩
 rw [List.length_drop];omega
theorem Ht {s:Bytes}{c:Int}(h0:0≤c)(h1:c≤(s.length:Int)):sub s 0 c=some (s.take c.toNat):=by
 unfold sub;rw [if_pos (by omega)];simp
theorem Mz {s:Bytes}{c:Int}(h0:0≤c)(h1:c≤(s.length:Int)):sub s c (s.length:Int)=some (s.drop c.toNat):=by
 unfold sub;rw [if_pos (by omega)];simp
theorem BZ (K:Bytes→Int→List Bytes→Option (List Bytes×Bool))(hK:∀s i m,K s i m=some (m,true)):∀(rest pre:List (Int×Int))(m:List Bytes)(s:Bytes)(f:Nat),rest.length<f→pre.length+rest.length≤1000000→(∀x∈rest,0≤x.2)→(s.length:Int)=CB rest→m.length≤1000000000→s.length≤1000000→
 ar (qH K (pre++rest) ((pre++rest).length:Int) ([]:List Bytes)) f (s,(pre.length:Int),m)=some (Jq rest m s,true)
 |rest,pre,m,s,0,hf,_,_,_,_,_=>by omega
 |[],pre,m,s,f+1,_,_,_,_,_,_=>by
  rw [ar]
  simp only [qH]
  rw [decide_eq_false (by simp),cond_false,hK];rfl
 |p::q,pre,m,s,f+1,hf,hn,hc,hs,hm,hl=>by
  obtain ⟨h1,h2,h3⟩:=Ma hc hs
  simp only [List.length_cons] at hf hn
  have hi:pre.length<(pre++p::q).length:=by simp
  have hp:(pre++p::q)[pre.length]=p:=by simp
  rw [ar]
  simp only [qH]
  rw [decide_eq_true (by simp;omega),ay hi,hp,wrap64 (by omega) (by omega)]
  simp only [cond_true,ab,Ht h1 h2,Mz h1 h2,NP m _ _ hm (show (s.take p.2.toNat).length≤1000000000 by rw [List.length_take];omega)]
  have key:=BZ K hK q (pre++[p]) (py m p.1 (s.take p.2.toNat)).1 (s.drop p.2.toNat) f (by omega) (by simp;omega) (fun x hx=>hc x (by simp [hx])) h3 (by rw [xA];exact hm) (by rw [List.length_drop];omega)
  have el:((pre++[p]).length:Int)=(pre.length:Int)+1:=by simp
  rw [List.append_assoc,List.singleton_append,el] at key
  rw [Jq]
  exact key
theorem Ca (K:Bytes→Int→List Bytes→Option (List Bytes×Bool))(hK:∀s i m,K s i m=some (m,true)):∀(rest pre:List (Int×Int))(m:List Bytes)(s:Bytes)(f:Nat),rest.length<f→pre.length+rest.length≤1000000→(∀x∈rest,0≤x.2)→(s.length:Int)=CB rest→m.length≤1000000000→s.length≤1000000→
 ar (gY K ((pre++rest).map (·.1)) ((pre++rest).map (·.2)) ([]:List Bytes)) f (s,(pre.length:Int),m)=some (Jq rest m s,true)
 |rest,pre,m,s,0,hf,_,_,_,_,_=>by omega
 |[],pre,m,s,f+1,_,_,_,_,_,_=>by
  rw [ar]
  simp only [gY]
  rw [decide_eq_false (by simp),cond_false,hK];rfl
 |p::q,pre,m,s,f+1,hf,hn,hc,hs,hm,hl=>by
  obtain ⟨h1,h2,h3⟩:=Ma hc hs
  simp only [List.length_cons] at hf hn
  have hi:pre.length<(pre++p::q).length:=by simp
  have hp:(pre++p::q)[pre.length]=p:=by simp
  have i1:idx ((pre++p::q).map (·.1)) (pre.length:Int)=some p.1:=by rw [ay (by simp),List.getElem_map,hp]
  have i2:idx ((pre++p::q).map (·.2)) (pre.length:Int)=some p.2:=by rw [ay (by simp),List.getElem_map,hp]
  rw [ar]
  simp only [gY]
  rw [decide_eq_true (by simp;omega),i1,i2,wrap64 (by omega) (by omega)]
  simp only [cond_true,ab,Ht h1 h2,Mz h1 h2,OA m _ _ hm (show (s.take p.2.toNat).length≤1000000000 by rw [List.length_take];omega)]
  have key:=Ca K hK q (pre++[p]) (py m p.1 (s.take p.2.toNat)).1 (s.drop p.2.toNat) f (by omega) (by simp;omega) (fun x hx=>hc x (by simp [hx])) h3 (by rw [xA];exact hm) (by rw [List.length_drop];omega)
  have el:((pre++[p]).length:Int)=(pre.length:Int)+1:=by simp
  rw [List.append_assoc,List.singleton_append,el] at key
  rw [Jq]
  exact key
theorem E0 (l:List aw)(m:List Bytes)(d:Int)(w:Bool):∀(n a r:Nat)(q:List (Int×Int)),r≤n→ik l m d w n a r=some q→CB q=(r:Int)∧(∀p∈q,0≤p.2)∧q.length≤n
 |0,a,r,q,hr,h=>by
  simp only [ik,Option.some.injEq] at h;subst h
  exact ⟨by show (0:Int)=_;omega,by simp,by simp⟩
 |n+1,a,r,q,hr,h=>by
  simp only [ik] at h
  split at h
  ·simp only [Option.some.injEq] at h;subst h
   exact ⟨by show (0:Int)=_;omega,by simp,by simp⟩
  ·split at h
   ·simp only [Option.map_eq_some_iff] at h
    obtain ⟨q',h1,rfl⟩:=h
    obtain ⟨i1,i2,i3⟩:=E0 l m d w n _ _ q' (by omega) h1
    refine ⟨?_, ?_,by simp only [List.length_cons];omega⟩
    ·simp only [CB,List.map_cons,List.sum_cons] at i1⊢
     rw [i1];omega
    ·intro p hp
     rcases List.mem_cons.1 hp with rfl|hp
     ·show (0:Int)≤((min (128-a%128) r:Nat):Int);omega
     ·exact i2 p hp
   ·cases h
theorem Ha (l:List aw)(m:List Bytes)(d a n:Int)(w:Bool)(h:(hG l m d a n w).2=true):CB (hG l m d a n w).1=n∧(∀p∈(hG l m d a n w).1,0≤p.2)∧(hG l m d a n w).1.length≤4096∧n≤4096:=by
 unfold hG at h⊢
 cases hB:cz l&&(cP m&&bc n 0 4096) with|false=>rw [hB] at h;simp at h|true=> ?_
 rw [hB] at h
 simp only [Bool.and_eq_true,aR] at hB
 simp only [cond_true] at h⊢
 cases h0:n==0 with
 |true=>
  have:n=0:=by simpa using h0
  subst this
  exact ⟨rfl,by simp,by simp,by omega⟩
 |false=>
  rw [h0] at h
  simp only [cond_false] at h⊢
  cases ha:decide (a<0) with
  |true=>rw [ha] at h;simp at h
  |false=>
   rw [ha] at h
   simp only [cond_false] at h⊢
   cases hq:ik l m d w n.toNat a.toNat n.toNat with
   |none=>rw [hq] at h;cases h
   |some q=>
    obtain ⟨i1,i2,i3⟩:=E0 l m d w _ _ _ q (Nat.le_refl _) hq
    exact ⟨by simp only;rw [i1];omega,i2,by simp only;omega,by omega⟩
def nE (l:List aw)(m:List Bytes)(d a:Int)(s:Bytes)(w:Bool):List Bytes×Bool:=
 bif (hG l m d a (s.length:Int) w).2 then (Jq (hG l m d a (s.length:Int) w).1 m s,true) else (m,false)
theorem uZ (l:List aw)(m:List Bytes)(d a:Int)(s:Bytes)(w:Bool):(nE l m d a s w).1.length=m.length:=by
 unfold nE
 cases (hG l m d a (s.length:Int) w).2 with
 |false=>rfl
 |true=>exact L5 _ _ _
theorem Th (l:List aw)(m:List Bytes)(d a:Int)(s:Bytes)(w:Bool)(hl:l.length≤1000000000)(hm:m.length≤1000000000)(ha:a≤9223372036854775807):Ab l m d a s w=some (nE l m d a s w):=by
 have hfu:=bQ
 unfold Ab nE
 rw [iW m (by omega),ab,Ll l m d a _ w hl hm ha,ab]
 have hS:=Ha l m d a (s.length:Int) w
 generalize hG l m d a (s.length:Int) w=r at hS⊢
 cases hr:r.2 with|false=>rfl|true=> ?_
 obtain ⟨h1,h2,h3,h4⟩:=hS hr
 simp only [Bool.not_true,cond_false,cond_true]
 exact BZ _ (fun _ _ _=>rfl) r.1 [] m s fuel (by omega) (by simp;omega) h2 h1.symm hm (by omega)
theorem AB (l:List aw)(m:List Bytes)(d a:Int)(s:Bytes)(hl:l.length≤1000000000)(hm:m.length≤1000000000)(ha:a≤9223372036854775807):mu l m d a s=some (nE l m d a s true):=by
 have hfu:=bQ
 unfold mu nE
 rw [Hj l m d a _ true hl hm ha,ab,nf m (by omega),ab]
 have hS:=Ha l m d a (s.length:Int) true
 generalize hG l m d a (s.length:Int) true=r at hS⊢
 cases hr:r.2 with|false=>rfl|true=> ?_
 obtain ⟨h1,h2,h3,h4⟩:=hS hr
 simp only [Bool.not_true,cond_false,cond_true]
 exact Ca _ (fun _ _ _=>rfl) r.1 [] m s fuel (by omega) (by simp;omega) h2 h1.symm hm (by omega)
theorem zT (l:List aw)(m:List Bytes)(d a:Int)(s:Bytes)(hl:l.length≤1000000000)(hm:m.length≤1000000000)(ha:a≤9223372036854775807):lW l m d a s=some (nE l m d a s true):=by
 rw [lW,Th l m d a s true hl hm ha];rfl
end
end Go.Pu
end
section
namespace Go.Pu
open Go.Dn
set_option linter.unusedSimpArgs false
set_option linter.unusedVariables false
noncomputable section
def wX (d:Int×Int×Int×Int×Int×Int):Bool:=bc d.1 0 3&&(bc d.2.1 0 3&&(bc d.2.2.1 0 65535&&(bc d.2.2.2.2.1 0 65535&&(bc d.2.2.2.2.2 0 65535&&bc d.2.2.2.1 0 4294967295))))
theorem S5 (d:Int×Int×Int×Int×Int×Int):tQ d=some (wX d):=by
 simp only [tQ,bg,ab,wX]
 cases bc d.1 0 3<;>cases bc d.2.1 0 3<;>cases bc d.2.2.1 0 65535<;>cases bc d.2.2.2.2.1 0 65535<;>cases bc d.2.2.2.2.2 0 65535<;>rfl
theorem T4 (d:Int×Int×Int×Int×Int×Int):uo d=some (wX d):=by
 simp only [uo,aU,ab,wX]
 cases bc d.1 0 3<;>cases bc d.2.1 0 3<;>cases bc d.2.2.1 0 65535<;>cases bc d.2.2.2.2.1 0 65535<;>cases bc d.2.2.2.2.2 0 65535<;>rfl
def IV (d:Int×Int×Int×Int×Int×Int):Bytes:=
 bif wX d then ((((bytesOf [IntKind.wrap .u8 d.1,IntKind.wrap .u8 d.2.1]++bz d.2.2.1)++cw d.2.2.2.1)++bz d.2.2.2.2.1)++bz d.2.2.2.2.2)++cw 0 else []
theorem P9 (d:Int×Int×Int×Int×Int×Int):mR d=some (IV d):=by
 have h1:=aF d.2.2.1;have h2:=bd d.2.2.2.1;have h3:=aF d.2.2.2.2.1;have h4:=aF d.2.2.2.2.2;have h5:=bd 0
 have h0:(bytesOf [IntKind.wrap .u8 d.1,IntKind.wrap .u8 d.2.1]).length=2:=rfl
 unfold mR IV
 rw [T4,ab]
 cases wX d with|false=>rfl|true=> ?_
 simp only [Bool.not_true,cond_false,cond_true,im,fY,ab]
 rw [aq (by omega),aq (by simp only [List.length_append];omega),aq (by simp only [List.length_append];omega),aq (by simp only [List.length_append];omega),aq (by simp only [List.length_append];omega)]
theorem WT (d:Int×Int×Int×Int×Int×Int):mG d=some (IV d):=by
 have h1:=aF d.2.2.1;have h2:=bd d.2.2.2.1;have h3:=aF d.2.2.2.2.1;have h4:=aF d.2.2.2.2.2;have h5:=bd 0
 have h0:(bytesOf [IntKind.wrap .u8 d.1,IntKind.wrap .u8 d.2.1]).length=2:=rfl
 unfold mG IV
 rw [S5,ab]
 cases wX d with|false=>rfl|true=> ?_
 simp only [Bool.not_true,cond_false,cond_true,nb,nd,ab]
 rw [aq (by omega),aq (by simp only [List.length_append];omega),aq (by simp only [List.length_append];omega),aq (by simp only [List.length_append];omega),aq (by simp only [List.length_append];omega)]
def tE (r:Int×Int×Int×Int)(c:Int):Int:=bif !nB r||decide (c<0) then-1 else r.1+Int.tmod c r.2.1*16
theorem CJ {r:Int×Int×Int×Int}(h:nB r=true):0≤r.1∧r.1≤130944∧(r.2.1=2∨r.2.1=4∨r.2.1=8∨r.2.1=16)∧0≤r.2.2.1∧r.2.2.1≤2*r.2.1-1∧0≤r.2.2.2∧r.2.2.2≤2*r.2.1-1:=by
 simp only [nB,Bool.and_eq_true,aR] at h
 exact ⟨h.1.1,h.1.2,fW.1 h.2.1,h.2.2.1.1,h.2.2.1.2,h.2.2.2.1.1,h.2.2.2.1.2⟩
theorem Ay (r:Int×Int×Int×Int)(c:Int): -1≤tE r c∧tE r c≤200000:=by
 unfold tE
 cases hc: !nB r||decide (c<0) with
 |true=>exact ⟨Int.le_refl _,by simp⟩
 |false=>
  simp only [Bool.or_eq_false_iff,Bool.not_eq_false',decide_eq_false_iff_not] at hc
  have h:=CJ hc.1
  have h2:0≤Int.tmod c r.2.1∧Int.tmod c r.2.1<r.2.1:=by
   rw [Int.tmod_eq_emod_of_nonneg (by omega)]
   exact ⟨Int.emod_nonneg _ (by omega),Int.emod_lt_of_pos _ (by omega)⟩
  simp only [cond_false];omega
theorem RE {l:List aw}{m:List Bytes}{d a:Int}{s:Bytes}{w:Bool}(h:(nE l m d a s w).2=false):(nE l m d a s w).1=m:=by
 unfold nE at h⊢
 cases hr:(hG l m d a (s.length:Int) w).2 with
 |false=>rfl
 |true=>rw [hr] at h;cases h
theorem Hn (r:Int×Int×Int×Int)(c:Int):lz r c=some (tE r c):=by
 have hin:=Ay r c
 unfold lz
 rw [xo,ab]
 unfold tE at hin⊢
 cases hb:nB r with|false=>rfl|true=> ?_
 have h:=CJ hb
 by_cases hc:c<0
 ·rw [decide_eq_true hc];rfl
 ·rw [hb,decide_eq_false hc] at hin
  rw [decide_eq_false hc]
  have h2:0≤Int.tmod c r.2.1∧Int.tmod c r.2.1<r.2.1:=by
   rw [Int.tmod_eq_emod_of_nonneg (by omega)]
   exact ⟨Int.emod_nonneg _ (by omega),Int.emod_lt_of_pos _ (by omega)⟩
  simp only [Bool.not_true,cond_false,ab,Bool.or_self] at hin⊢
  rw [if_neg (by omega),wrap64 (n:=16*Int.tmod c r.2.1) (by omega) (by omega),wrap64 (by omega) (by omega)]
  congr 1;omega
theorem Q3 (r:Int×Int×Int×Int)(c:Int):kR r c=some (tE r c):=by
 have hin:=Ay r c
 unfold kR
 rw [zZ,ab]
 unfold tE at hin⊢
 cases hb:nB r with|false=>rfl|true=> ?_
 have h:=CJ hb
 by_cases hc:c<0
 ·rw [decide_eq_true hc];rfl
 ·rw [hb,decide_eq_false hc] at hin
  rw [decide_eq_false hc]
  have h2:0≤Int.tmod c r.2.1∧Int.tmod c r.2.1<r.2.1:=by
   rw [Int.tmod_eq_emod_of_nonneg (by omega)]
   exact ⟨Int.emod_nonneg _ (by omega),Int.emod_lt_of_pos _ (by omega)⟩
  simp only [Bool.not_true,cond_false,ab,Bool.or_self] at hin⊢
  rw [if_neg (by omega),wrap64 (n:=Int.tmod c r.2.1*16) (by omega) (by omega),wrap64 (by omega) (by omega)]
end
end Go.Pu
end
section
namespace Go.Pu
open Go.Dn
set_option linter.unusedSimpArgs false
set_option linter.unusedVariables false
noncomputable section
end
end Go.Pu
end
section
namespace Go.Pu
open Go.Dn
set_option linter.unusedSimpArgs false
set_option linter.unusedVariables false
noncomputable section
end
end Go.Pu
end
section
namespace Go.Pu
open Go.Dn
set_option linter.unusedSimpArgs false
set_option linter.unusedVariables false
noncomputable section
theorem EZ (l:List aw)(m:List Bytes)(d:Int)(w:Bool):∀(n a r:Nat)(q:List (Int×Int)),ik l m d w n a r=some q→q.length≤n
 |0,a,r,q,h=>by simp only [ik,Option.some.injEq] at h;subst h;simp
 |n+1,a,r,q,h=>by
  simp only [ik] at h
  split at h
  ·simp only [Option.some.injEq] at h;subst h;simp
  ·split at h
   ·simp only [Option.map_eq_some_iff] at h
    obtain ⟨q',h1,rfl⟩:=h
    have:=EZ l m d w n _ _ q' h1
    simp only [List.length_cons];omega
   ·cases h
theorem BI (l:List aw)(m:List Bytes)(d a n:Int)(w:Bool):(hG l m d a n w).1.length≤4096:=by
 unfold hG
 cases hB:cz l&&(cP m&&bc n 0 4096) with|false=>simp|true=> ?_
 simp only [Bool.and_eq_true,aR] at hB
 simp only [cond_true]
 cases n==0 with|true=>simp|false=> ?_
 cases decide (a<0) with|true=>simp|false=> ?_
 simp only [cond_false]
 split
 ·rename_i q hq
  have:=EZ _ _ _ _ _ _ _ _ hq
  show q.length≤4096
  omega
 ·simp
def jc (m:List Bytes)(p:Int×Int):Bytes:=bif cg m p.1 p.2 then rF m p.1.toNat p.2.toNat else []
theorem uF (m:List Bytes)(p:Int×Int):(jc m p).length≤8192:=by
 unfold jc
 cases h:cg m p.1 p.2 with
 |false=>simp
 |true=>
  simp only [cg,Bool.and_eq_true,decide_eq_true_eq] at h
  have:=TW m p.1.toNat p.2.toNat
  have:=(mem_iff.1 h.1).2
  simp only [cond_true]
  omega
theorem oT (m:List Bytes):∀q:List (Int×Int),(q.flatMap (jc m)).length≤8192*q.length
 |[]=>by simp
 |p::q=>by
  have:=oT m q
  have:=uF m p
  simp only [List.flatMap_cons,List.length_append,List.length_cons];omega
def Ea (l:List aw)(m:List Bytes)(d a n:Int):Bytes×Bool:=
 bif (hG l m d a n false).2 then ((hG l m d a n false).1.flatMap (jc m),true) else ([],false)
theorem zK {α β:Type}(g:α→List β)(l:List α)(i:Nat)(hi:i<l.length):(l.take (i+1)).flatMap g=(l.take i).flatMap g++g l[i]:=by
 rw [List.take_succ_eq_append_getElem hi,List.flatMap_append];simp
theorem Lf (l:List aw)(m:List Bytes)(d a n:Int)(hl:l.length≤1000000000)(hm:m.length≤1000000000)(ha:a≤9223372036854775807):rM l m d a n=some (Ea l m d a n):=by
 unfold rM Ea
 rw [Ll l m d a n false hl hm ha,ab]
 have hL:=BI l m d a n false
 generalize hG l m d a n false=r at hL⊢
 cases hr:r.2 with|false=>rfl|true=> ?_
 simp only [Bool.not_true,cond_false,cond_true]
 refine (bB (fun i=>((r.1.take i).flatMap (jc m),(i:Int))) r.1.length (by omega) (fun i nx hi=> ?_) (fun nx=> ?_))
 ·simp only [mF]
  rw [decide_eq_true (by omega),ay hi,wrap64 (by omega) (by omega)]
  have e:iG m r.1[i].1 r.1[i].2=some (jc m r.1[i],cg m r.1[i].1 r.1[i].2):=by
   rw [Ti m _ _ hm,jc];cases cg m r.1[i].1 r.1[i].2<;>rfl
  have h1:=oT m (r.1.take i)
  have h2:=uF m r.1[i]
  simp only [cond_true,ab,e]
  rw [aq (by rw [List.length_take] at h1;omega),←zK];rfl
 ·simp only [mF]
  rw [decide_eq_false (by omega),List.take_length];rfl
theorem B8 (l:List aw)(m:List Bytes)(d a n:Int)(hl:l.length≤1000000000)(hm:m.length≤1000000000)(ha:a≤9223372036854775807):si l m d a n=some (Ea l m d a n):=by
 unfold si Ea
 rw [Hj l m d a n false hl hm ha,ab]
 have hL:=BI l m d a n false
 generalize hG l m d a n false=r at hL⊢
 cases hr:r.2 with|false=>rfl|true=> ?_
 simp only [Bool.not_true,cond_false,cond_true]
 refine (bB (fun i=>((r.1.take i).flatMap (jc m),(i:Int))) r.1.length (by omega) (fun i nx hi=> ?_) (fun nx=> ?_))
 ·simp only [mQ]
  have i1:idx (r.1.map (·.1)) (i:Int)=some r.1[i].1:=by rw [ay (by simpa using hi),List.getElem_map]
  have i2:idx (r.1.map (·.2)) (i:Int)=some r.1[i].2:=by rw [ay (by simpa using hi),List.getElem_map]
  rw [decide_eq_true (by rw [List.length_map];omega),i1,i2,wrap64 (by omega) (by omega)]
  have e:iQ m r.1[i].1 r.1[i].2=some (jc m r.1[i],cg m r.1[i].1 r.1[i].2):=by
   rw [Ug m _ _ hm,jc];cases cg m r.1[i].1 r.1[i].2<;>rfl
  have h1:=oT m (r.1.take i)
  have h2:=uF m r.1[i]
  simp only [cond_true,ab,e]
  rw [aq (by rw [List.length_take] at h1;omega),←zK];rfl
 ·simp only [mQ]
  rw [decide_eq_false (by rw [List.length_map];omega),List.take_length];rfl
theorem Ss (l:List aw)(m:List Bytes)(d a n:Int):(Ea l m d a n).1.length≤100000000:=by
 have hL:=BI l m d a n false
 have h1:=oT m (hG l m d a n false).1
 unfold Ea
 cases (hG l m d a n false).2 with
 |false=>simp
 |true=>simp only [cond_true];omega
def tu (q:Int×Int×Int):Int:=bif decide (q.2.2<q.2.1) then 1 else 0
theorem Q0 (q:Int×Int×Int):rT q=some (tu q):=by unfold rT tu;cases decide (q.2.2<q.2.1)<;>rfl
theorem mq {q:Int×Int×Int}(h:cK q=true):0≤q.1∧q.1≤130944∧(q.2.1=2∨q.2.1=4∨q.2.1=8∨q.2.1=16)∧0≤q.2.2∧q.2.2≤2*q.2.1-1:=by
 simp only [cK,Bool.and_eq_true,aR] at h
 obtain ⟨h1,h2,h3⟩:=h
 rw [xW h2] at h3
 exact ⟨h1.1,h1.2,fW.1 h2,h3⟩
theorem RS (q:Int×Int×Int)(h:cK q=true):qx q=some (tu q):=by
 obtain ⟨_,_,h3,h4,h5⟩:=mq h
 have e:Int.tdiv q.2.2 q.2.1=if q.2.2<q.2.1 then 0 else 1:=by
  rw [Int.tdiv_eq_ediv_of_nonneg h4]
  split
  ·exact Int.ediv_eq_zero_of_lt h4 (by assumption)
  ·rcases h3 with g|g|g|g<;>(rw [g];omega)
 unfold qx tu
 rw [if_neg (by omega),e]
 by_cases hq:q.2.2<q.2.1
 ·rw [if_pos hq,decide_eq_true hq];rfl
 ·rw [if_neg hq,decide_eq_false hq];rfl
def tF (q:Int×Int×Int):Int:=q.1+Int.tmod q.2.2 q.2.1*16
theorem Qm {a b:Int}(h:0≤a)(hb:0<b):0≤Int.tmod a b∧Int.tmod a b<b:=by
 rw [Int.tmod_eq_emod_of_nonneg h]
 exact ⟨Int.emod_nonneg _ (by omega),Int.emod_lt_of_pos _ hb⟩
theorem JB {q:Int×Int×Int}(h:cK q=true):0≤Int.tmod q.2.2 q.2.1∧Int.tmod q.2.2 q.2.1<16:=by
 obtain ⟨_,_,h3,h4,h5⟩:=mq h
 have:=Qm h4 (show 0<q.2.1 by omega)
 omega
theorem Q4 (q:Int×Int×Int)(h:cK q=true):k8 q=some (tF q):=by
 obtain ⟨h1,h2,h3,h4,h5⟩:=mq h
 have:=JB h
 unfold k8 tF
 rw [if_neg (by omega),wrap64 (n:=Int.tmod q.2.2 q.2.1*16) (by omega) (by omega),wrap64 (by omega) (by omega)]
end
end Go.Pu
end
section
namespace Go.Pu
open Go.Dn
set_option linter.unusedSimpArgs false
set_option linter.unusedVariables false
noncomputable section
def C0 (s:Bytes)(i:Nat):Nat:=aQ s (i/8)/2^(7-i%8)%2
theorem zx (s:Bytes)(i:Nat):C0 s i<2:=Nat.mod_lt _ (by omega)
theorem J9 (b k:Nat)(hb:b<256)(hk:k≤7):IntKind.wrap .i64 (BitVec.toNat (BitVec.ofInt (IntKind.bits .i64) (IntKind.wrap .i64 (Int.fdiv (b:Int) ((2^k:Nat):Int)))&&&BitVec.ofInt (IntKind.bits .i64) 1))=((b/2^k%2:Nat):Int):=by
 have e:Int.fdiv (b:Int) ((2^k:Nat):Int)=((b/2^k:Nat):Int):=(Int.ofNat_fdiv b (2^k)).symm
 have h1:b/2^k≤b:=Nat.div_le_self _ _
 rw [e,dk (n:=b/2^k) (by omega)]
 have:=XS (b/2^k) 1 (by omega) (by omega)
 rw [show ((1:Nat):Int)=1 from rfl] at this
 rw [this,Nat.and_one_is_mod]
 exact dk (by omega)
theorem PA (s:Bytes)(i:Nat)(hi:i/8<s.length)(h:s.length≤1000000000):qG s (i:Int)=some ((C0 s i:Nat):Int):=by
 have e1:Int.tdiv (i:Int) 8=((i/8:Nat):Int):=(Int.ofNat_tdiv i 8).symm
 have e2:Int.tmod (i:Int) 8=((i%8:Nat):Int):=(Int.ofNat_tmod i 8).symm
 unfold qG
 rw [if_neg (by omega),e1,wrap64 (n:=((i/8:Nat):Int)) (by omega) (by omega),ay hi,ab,if_neg (by omega),e2,wrap64 (n:=7-((i%8:Nat):Int)) (by omega) (by omega),if_neg (by omega)]
 have e3:(2:Int)^(min (Int.toNat (7-((i%8:Nat):Int))) (IntKind.bits .u8))=((2^(7-i%8):Nat):Int):=by
  rw [show min (Int.toNat (7-((i%8:Nat):Int))) (IntKind.bits .u8)=7-i%8 from by show min _ 8=_;omega]
  push_cast;rfl
 rw [e3,J9 _ _ (ft _) (by omega),C0,aQ,aM hi]
theorem P7 (s:Bytes)(i:Nat)(hi:i/8<s.length)(h:s.length≤1000000000):qX s (i:Int)=some ((C0 s i:Nat):Int):=by
 have e1:Int.tdiv (i:Int) 8=((i/8:Nat):Int):=(Int.ofNat_tdiv i 8).symm
 have e2:Int.tmod (i:Int) 8=((i%8:Nat):Int):=(Int.ofNat_tmod i 8).symm
 have hb:=ft s[i/8]
 unfold qX
 rw [if_neg (by omega),e1,wrap64 (n:=((i/8:Nat):Int)) (by omega) (by omega),ay hi,ab,if_neg (by omega),e2,wrap64 (n:=7-((i%8:Nat):Int)) (by omega) (by omega),if_neg (by omega),dk (n:=s[i/8].toNat) (by omega)]
 have e3:(2:Int)^(min (Int.toNat (7-((i%8:Nat):Int))) (IntKind.bits .i64))=((2^(7-i%8):Nat):Int):=by
  rw [show min (Int.toNat (7-((i%8:Nat):Int))) (IntKind.bits .i64)=7-i%8 from by show min _ 64=_;omega]
  push_cast;rfl
 have e4:Int.fdiv ((s[i/8].toNat:Nat):Int) ((2^(7-i%8):Nat):Int)=((s[i/8].toNat/2^(7-i%8):Nat):Int):=(Int.ofNat_fdiv _ _).symm
 have h1:s[i/8].toNat/2^(7-i%8)≤s[i/8].toNat:=Nat.div_le_self _ _
 have key:=J9 s[i/8].toNat (7-i%8) hb (by omega)
 rw [e4,dk (n:=s[i/8].toNat/2^(7-i%8)) (by omega)] at key
 rw [e3,e4,key,C0,aQ,aM hi]
def OR (s:Bytes)(a:Nat):Nat→Nat
 |0=>0
 |j+1=>2*OR s a j+C0 s (a+j)
theorem Wo (s:Bytes)(a:Nat):∀j,OR s a j<2^j
 |0=>by simp [OR]
 |j+1=>by have:=Wo s a j;have:=zx s (a+j);rw [OR,Nat.pow_succ];omega
theorem FD (s:Bytes)(a j:Nat)(hj:j≤32):OR s a j<4294967296:=Nat.lt_of_lt_of_le (Wo s a j) (Nat.pow_le_pow_right (n:=2) (by omega) hj)
def MS (s:Bytes)(a:Int):Int:=bif ((s.length:Int) !=16)|| !bc a 0 96 then-1 else ((OR s a.toNat 32:Nat):Int)
theorem W1 (s:Bytes)(a:Int):nR s a=some (MS s a):=by
 unfold nR MS
 rw [bg]
 cases hs:(s.length:Int) !=16 with|true=>rfl|false=> ?_
 cases ha:bc a 0 96 with|false=>rfl|true=> ?_
 have h1:=aR.1 ha
 have h2:s.length=16:=by simp at hs;omega
 obtain ⟨a,rfl⟩:=Int.eq_ofNat_of_zero_le h1.1
 simp only [cond_false,ab,Bool.not_true,Bool.or_self,Int.toNat_natCast]
 refine bB (fun i=>(((OR s a i:Nat):Int),((a+i:Nat):Int))) 32 (by omega) (fun i nx hi=> ?_) (fun nx=> ?_)
 ·have hw:=FD s a i (by omega)
  have hb:=zx s (a+i)
  simp only [jq]
  rw [wrap64 (n:=(a:Int)+32) (by omega) (by omega),decide_eq_true (by omega),cond_true,if_neg (by omega),PA s (a+i) (by omega) (by omega),ab,wrap64 (n:=((a+i:Nat):Int)+1) (by omega) (by omega)]
  have e1:IntKind.wrap .i64 (((OR s a i:Nat):Int)*2^(min (Int.toNat 1) (IntKind.bits .i64)))=((2^1*OR s a i:Nat):Int):=by
   have:(2:Int)^(min (Int.toNat 1) (IntKind.bits .i64))=2:=rfl
   rw [this,wrap64 (by omega) (by omega)];omega
  rw [e1,zd _ _ _ (by omega) (by omega)]
  rw [show (((a+i:Nat):Int)+1)=((a+(i+1):Nat):Int) by omega];rfl
 ·simp only [jq]
  rw [wrap64 (n:=(a:Int)+32) (by omega) (by omega),decide_eq_false (by omega)];rfl
theorem Xv (s:Bytes)(a:Int):o7 s a=some (MS s a):=by
 unfold o7 MS
 rw [aU]
 cases hs:(s.length:Int) !=16 with|true=>rfl|false=> ?_
 cases ha:bc a 0 96 with|false=>rfl|true=> ?_
 have h1:=aR.1 ha
 have h2:s.length=16:=by simp at hs;omega
 obtain ⟨a,rfl⟩:=Int.eq_ofNat_of_zero_le h1.1
 simp only [cond_false,ab,Bool.not_true,Bool.or_self,Int.toNat_natCast]
 refine bB (fun i=>(((OR s a i:Nat):Int),(i:Int))) 32 (by omega) (fun i nx hi=> ?_) (fun nx=> ?_)
 ·have hw:=FD s a i (by omega)
  have hb:=zx s (a+i)
  simp only [jD]
  rw [decide_eq_true (by omega),cond_true,wrap64 (n:=(a:Int)+(i:Int)) (by omega) (by omega),show (a:Int)+(i:Int)=((a+i:Nat):Int) by omega,P7 s (a+i) (by omega) (by omega),ab,wrap64 (n:=(i:Int)+1) (by omega) (by omega)]
  rw [wrap64 (n:=2*((OR s a i:Nat):Int)) (by omega) (by omega),wrap64 (by omega) (by omega),OR]
  congr 1
 ·simp only [jD]
  rw [decide_eq_false (by omega)];rfl
def yt (s v:Bytes):Nat→Nat
 |0=>0
 |i+1=>if C0 v i=1 then yt s v i^^^OR s i 32 else yt s v i
theorem Es (s v:Bytes):∀i,yt s v i<4294967296
 |0=>by simp [yt]
 |i+1=>by
  have:=Es s v i
  rw [yt]
  split
  ·exact uJ this (FD s i 32 (by omega))
  ·exact this
def nK (s v:Bytes):Int:=bif ((s.length:Int) !=16)||decide ((v.length:Int)>12) then-1 else ((yt s v (8*v.length):Nat):Int)
theorem S7 (s v:Bytes):nO s v=some (nK s v):=by
 unfold nO nK
 cases hs:(s.length:Int) !=16 with|true=>rfl|false=> ?_
 cases hv:decide ((v.length:Int)>12) with|true=>rfl|false=> ?_
 have h2:s.length=16:=by simp at hs;omega
 have h3:v.length≤12:=by simp at hv;omega
 simp only [cond_false,ab,Bool.or_self]
 refine bB (fun i=>(((yt s v i:Nat):Int),(i:Int))) (8*v.length) (by omega) (fun i nx hi=> ?_) (fun nx=> ?_)
 ·have hw:=FD s i 32 (by omega)
  have hh:=Es s v i
  have hb:=zx v i
  have eW:MS s (i:Int)=((OR s i 32:Nat):Int):=by
   unfold MS;rw [hs,aR.2 (show (0:Int)≤(i:Int)∧(i:Int)≤96 by omega)];rfl
  simp only [jo]
  rw [wrap64 (n:=8*(v.length:Int)) (by omega) (by omega),decide_eq_true (by omega),cond_true,PA v i (by omega) (by omega),ab,W1,ab,eW,Qp _ _ (by omega) (by omega),wrap64 (n:=(i:Int)+1) (by omega) (by omega),dk (Nat.lt_trans (uJ hh hw) (by omega)),yt]
  by_cases h1:C0 v i=1
  ·rw [h1,if_pos rfl];rfl
  ·rw [if_neg h1,show (((C0 v i:Nat):Int)==1)=false from by simp;omega];rfl
 ·simp only [jo]
  rw [wrap64 (n:=8*(v.length:Int)) (by omega) (by omega),decide_eq_false (by omega)];rfl
theorem T7 (s v:Bytes):oZ s v=some (nK s v):=by
 unfold oZ nK
 cases hs:(s.length:Int) !=16 with|true=>rfl|false=> ?_
 cases hv:decide ((v.length:Int)>12) with|true=>rfl|false=> ?_
 have h2:s.length=16:=by simp at hs;omega
 have h3:v.length≤12:=by simp at hv;omega
 simp only [cond_false,ab,Bool.or_self]
 refine bB (fun i=>(((yt s v i:Nat):Int),(i:Int))) (8*v.length) (by omega) (fun i nx hi=> ?_) (fun nx=> ?_)
 ·have hw:=FD s i 32 (by omega)
  have hh:=Es s v i
  have hb:=zx v i
  have eW:MS s (i:Int)=((OR s i 32:Nat):Int):=by
   unfold MS;rw [hs,aR.2 (show (0:Int)≤(i:Int)∧(i:Int)≤96 by omega)];rfl
  simp only [jC]
  rw [wrap64 (n:=8*(v.length:Int)) (by omega) (by omega),decide_eq_true (by omega),cond_true,P7 v i (by omega) (by omega),ab,Xv,ab,eW,Qp _ _ (by omega) (by omega),wrap64 (n:=(i:Int)+1) (by omega) (by omega),dk (Nat.lt_trans (uJ hh hw) (by omega)),yt]
  by_cases h1:C0 v i=1
  ·rw [h1,if_pos rfl];rfl
  ·rw [if_neg h1,show (((C0 v i:Nat):Int)==1)=false from by simp;omega];rfl
 ·simp only [jC]
  rw [wrap64 (n:=8*(v.length:Int)) (by omega) (by omega),decide_eq_false (by omega)];rfl
def jO (f:Int×Int×Int×Int×Int):Bytes:=((cw f.2.1++cw f.2.2.1)++bz f.2.2.2.1)++bz f.2.2.2.2
theorem NI (f:Int×Int×Int×Int×Int):nP f=some (jO f):=by
 have:=bd f.2.1;have:=bd f.2.2.1;have:=aF f.2.2.2.1;have:=aF f.2.2.2.2
 simp only [nP,nd,nb,ab]
 rw [aq (by omega),aq (by simp only [List.length_append];omega),aq (by simp only [List.length_append];omega)];rfl
theorem Ow (f:Int×Int×Int×Int×Int):o3 f=some (jO f):=by
 have:=bd f.2.1;have:=bd f.2.2.1;have:=aF f.2.2.2.1;have:=aF f.2.2.2.2
 simp only [o3,fY,im,ab]
 rw [aq (by omega),aq (by simp only [List.length_append];omega),aq (by simp only [List.length_append];omega)];rfl
theorem zV (s:Bytes)(f:Int×Int×Int×Int×Int):lX s f=some (nK s (jO f)):=by
 simp only [lX,NI,S7,ab]
theorem AD (s:Bytes)(f:Int×Int×Int×Int×Int):mw s f=some (nK s (jO f)):=by
 simp only [mw,Ow,T7,ab]
def rf (s:dq)(f:Int×Int×Int×Int×Int):Int:=bif ((s.2.length:Int)==0)||decide (nK s.1 (jO f)<0) then-1 else Int.tmod (nK s.1 (jO f)) (s.2.length:Int)
theorem QT (s:dq)(f:Int×Int×Int×Int×Int):rN s f=some (rf s f):=by
 unfold rN rf
 rw [zV,ab]
 cases h0:(s.2.length:Int)==0 with|true=>rfl|false=> ?_
 cases decide (nK s.1 (jO f)<0) with|true=>rfl|false=> ?_
 simp only [cond_false,ab,Bool.or_self]
 rw [if_neg (by simpa using h0)]
theorem RN (s:dq)(f:Int×Int×Int×Int×Int):sj s f=some (rf s f):=by
 unfold sj rf
 rw [AD,ab]
 cases h0:(s.2.length:Int)==0 with|true=>rfl|false=> ?_
 cases decide (nK s.1 (jO f)<0) with|true=>rfl|false=> ?_
 simp only [cond_false,ab,Bool.or_self]
 rw [if_neg (by simpa using h0)]
theorem Bg (s:dq)(f:Int×Int×Int×Int×Int)(h:¬rf s f<0):∃n:Nat,rf s f=(n:Int)∧n<s.2.length:=by
 unfold rf at h⊢
 cases hc:((s.2.length:Int)==0)||decide (nK s.1 (jO f)<0) with
 |true=>rw [hc] at h;simp at h
 |false=>
  rw [hc] at h
  simp only [Bool.or_eq_false_iff,beq_eq_false_iff_ne,decide_eq_false_iff_not] at hc
  simp only [cond_false] at h⊢
  have h1:0≤nK s.1 (jO f):=by omega
  rw [Int.tmod_eq_emod_of_nonneg h1] at h⊢
  have:=Int.emod_lt_of_pos (nK s.1 (jO f)) (show (0:Int)<s.2.length by omega)
  obtain ⟨n,hn⟩:=Int.eq_ofNat_of_zero_le (show 0≤nK s.1 (jO f)%(s.2.length:Int) by omega)
  exact ⟨n,hn,by omega⟩
def yb (s:dq)(q:Int)(f:Int×Int×Int×Int×Int):Int:=bif !m8 s q||decide (rf s f<0) then-1 else s.2.getD (rf s f).toNat 0
theorem Ln (s:dq)(q:Int)(f:Int×Int×Int×Int×Int)(h:s.2.length≤1000000000):kS s q f=some (yb s q f):=by
 unfold kS yb
 rw [QT,ab,EC s q h,ab]
 cases m8 s q with|false=>rfl|true=> ?_
 have hin:=Bg s f
 cases hd:decide (rf s f<0) with|true=>rfl|false=> ?_
 obtain ⟨n,hn,hl⟩:=hin (of_decide_eq_false hd)
 simp only [Bool.not_true,cond_false,ab,Bool.or_self,hn,ay hl,Int.toNat_natCast,aM hl]
theorem Ms (s:dq)(q:Int)(f:Int×Int×Int×Int×Int)(h:s.2.length≤1000000000):lB s q f=some (yb s q f):=by
 unfold lB yb
 rw [RN,ab,zk s q h,ab]
 cases m8 s q with|false=>rfl|true=> ?_
 have hin:=Bg s f
 cases hd:decide (rf s f<0) with|true=>rfl|false=> ?_
 obtain ⟨n,hn,hl⟩:=hin (of_decide_eq_false hd)
 simp only [Bool.not_true,cond_false,ab,Bool.or_self,hn,ay hl,Int.toNat_natCast,aM hl]
theorem HB (t:List Slot)(f:Int×Int×Int×Int×Int)(h:∀j,j<8→iU (ck t j) f=false):∀n k,walk t f n k= -1
 |0,_=>rfl
 |n+1,k=>by
  unfold walk
  rw [h _ (AW f k),HB t f h n (k+1)]
  split<;>rfl
theorem BU (f:Int×Int×Int×Int×Int):∀(t:List Slot)(m:Int),(∀s∈t,iU s f=false)→rh f t m= -1
 |[],_,_=>rfl
 |s::r,m,h=>by
  unfold rh
  rw [h s (by simp)]
  exact BU f r (m+1) (fun x hx=>h x (by simp [hx]))
theorem Nx (t:List Slot)(f:Int×Int×Int×Int×Int)(h:kF t=true):rh f t 0=walk t f 8 0:=by
 simp only [kF,Bool.and_eq_true,beq_iff_eq,List.all_eq_true,List.mem_range] at h
 obtain ⟨h8,hs⟩:=h
 by_cases hex:∃j,j<t.length∧iU (ck t j) f=true
 ·obtain ⟨j,hj,hu,e⟩:=wZ f t 0 hex
  have:=hs j (by omega)
  simp only [gX,Bool.and_eq_true,Bool.or_eq_true,Bool.not_eq_true',beq_iff_eq] at this
  simp only [iU,Bool.and_eq_true,beq_iff_eq,decide_eq_true_eq] at hu
  rcases this.2 with g|g
  ·rw [hu.1] at g;simp at g
  ·rw [hu.2] at g
   rw [show ((0:Int))=((0:Nat):Int) from rfl,e,g];omega
 ·have hn:∀j,j<t.length→iU (ck t j) f=false:=fun j hj=>Bool.eq_false_iff.2 fun hu=>hex ⟨j,hj,hu⟩
  rw [HB t f (fun j hj=>hn j (by omega)),BU]
  intro s hs'
  obtain ⟨j,hj,rfl⟩:=List.getElem_of_mem hs'
  have:=hn j hj
  rwa [pJ hj] at this
def findF (t:List Slot)(f:Int×Int×Int×Int×Int):Int:=bif kF t then walk t f 8 0 else-1
theorem I5 (t:List Slot)(f:Int×Int×Int×Int×Int)(h:t.length≤1000000000):pW t f=some (findF t f):=by
 unfold pW findF
 rw [GO,ab]
 cases ht:kF t with|false=>rfl|true=> ?_
 simp only [Bool.not_true,cond_false,cond_true,Lm t f h,ab,Nx t f ht]
theorem JG (t:List Slot)(f:Int×Int×Int×Int×Int):qq t f=some (findF t f):=by
 unfold qq findF
 rw [Ho,ab]
 cases ht:kF t with|false=>rfl|true=> ?_
 have h8:t.length=8:=by simp only [kF,Bool.and_eq_true,beq_iff_eq] at ht;exact ht.1
 simp only [Bool.not_true,cond_false,cond_true,Mm t f h8,ab]
theorem Qn (t:List Slot)(f:Int×Int×Int×Int×Int):∀n k,walk t f n k= -1∨∃m:Nat,walk t f n k=(m:Int)∧m<8
 |0,_=> .inl rfl
 |n+1,k=>by
  unfold walk
  split
  ·exact .inl rfl
  ·split
   ·exact .inr ⟨_,rfl,AW f k⟩
   ·exact Qn t f n (k+1)
theorem Ei (t:List Slot)(f:Int×Int×Int×Int×Int)(h:findF t f≥0):∃m:Nat,findF t f=(m:Int)∧m<t.length:=by
 unfold findF at h⊢
 cases ht:kF t with
 |false=>rw [ht] at h;simp at h
 |true=>
  rw [ht] at h
  simp only [cond_true] at h⊢
  have h8:t.length=8:=by simp only [kF,Bool.and_eq_true,beq_iff_eq] at ht;exact ht.1
  rcases Qn t f 8 0 with g|⟨m,g,hm⟩
  ·omega
  ·exact ⟨m,g,by omega⟩
end
end Go.Pu
end
section
namespace Go.Pu
open Go.Dn
set_option linter.unusedSimpArgs false
set_option linter.unusedVariables false
noncomputable section
def hasB (l:List Int)(v:Int):Bool:=l.any (·==v)
theorem K5 {l:List Int}{v:Int}:hasB l v=true↔v∈l:=by
 simp only [hasB,List.any_eq_true,beq_iff_eq]
 constructor
 ·rintro ⟨x,hx,rfl⟩;exact hx
 ·intro h;exact ⟨v,h,rfl⟩
theorem wa (l:List Int)(v:Int)(h:l.length≤1000000000):dn l v=some (hasB l v):=by
 unfold dn hasB
 rw [J5 (hit:=some true) (fin:=some false) (fun x:Int=>x==v) l (by omega) (fun i hi nx=> ?hs) (fun nx=> ?hf)]
 case hs=>
  simp only [pr]
  rw [decide_eq_true (by omega),ay hi,wrap64 (by omega) (by omega)];rfl
 case hf=>
  simp only [pr]
  rw [decide_eq_false (by omega)];rfl
 cases l.any (fun x=>x==v)<;>rfl
theorem vt (l:List Int)(v:Int)(h:l.length≤1000000000):cZ l v=some (hasB l v):=wa l v h
def ins (v:Int):List Int→List Int
 |[]=>[v]
 |x::l=>bif decide (v<x) then v::x::l else x::ins v l
theorem PJ (v:Int):∀l,(ins v l).length=l.length+1
 |[]=>rfl
 |x::l=>by
  rw [ins]
  cases decide (v<x) with
  |true=>rfl
  |false=>simp only [cond_false,List.length_cons,PJ v l]
theorem PT (v x:Int):∀l,x∈ins v l↔x=v∨x∈l
 |[]=>by simp [ins]
 |y::l=>by
  rw [ins]
  cases decide (v<y) with
  |true=>simp
  |false=>simp only [cond_false,List.mem_cons,PT v x l];constructor<;>(rintro (h|h|h)<;>simp [h])
theorem Tl (v:Int):∀l:List Int,v∉l→l.take (l.findIdx (fun x=> !decide (x<v)))++[v]++l.drop (l.findIdx (fun x=> !decide (x<v)))=ins v l
 |[],_=>rfl
 |x::l,h=>by
  rw [ins,List.findIdx_cons]
  have hx:v≠x:=fun e=>h (by simp [e])
  have hl:v∉l:=fun e=>h (by simp [e])
  by_cases c:x<v
  ·rw [decide_eq_true c,decide_eq_false (show¬v<x by omega)]
   have:=Tl v l hl
   simpa using this
  ·rw [decide_eq_false c,decide_eq_true (show v<x by omega)];rfl
def ra (l:List Int)(v:Int):List Int:=bif hasB l v then l else ins v l
theorem zw (l:List Int)(v:Int):(ra l v).length≤l.length+1:=by
 unfold ra
 cases hasB l v with
 |true=>simp
 |false=>simp only [cond_false,PJ];omega
theorem Tx {l:List Int}{v x:Int}(h:x∈l):x∈ra l v:=by
 unfold ra
 cases hasB l v with
 |true=>exact h
 |false=>exact (PT v x l).2 (.inr h)
theorem Qu {l:List Int}{v:Int}(h:v∈l):ra l v=l:=by
 unfold ra;rw [K5.2 h];rfl
theorem vc:∀(vs l:List Int),(vs.foldl ra l).length≤l.length+vs.length
 |[],l=>by simp
 |v::vs,l=>by
  have:=vc vs (ra l v)
  have:=zw l v
  simp only [List.foldl_cons,List.length_cons];omega
theorem Bu:∀(vs:List Int){l:List Int}{x:Int},x∈l→x∈vs.foldl ra l
 |[],_,_,h=>h
 |v::vs,l,x,h=>Bu vs (l:=ra l v) (Tx h)
theorem SN {α R:Type}(p:α→Bool)(k:Int→Option R)(l:List α):(match l.findIdx? p with|some i=>k (i:Int)|none=>k (l.length:Int))=k (l.findIdx p:Int):=by
 cases h:l.findIdx? p with
 |none=>rw [List.findIdx?_eq_none_iff_findIdx_eq] at h;rw [h]
 |some i=>rw [List.findIdx?_eq_some_iff_findIdx_eq] at h;rw [h.2]
theorem MA {α:Type}(l:List α)(j:Nat)(h:j≤l.length):sub l 0 (j:Int)=some (l.take j):=by
 unfold sub;rw [if_pos (by omega)];simp
theorem Uj {α:Type}(l:List α)(j:Nat)(h:j≤l.length):sub l (j:Int) (l.length:Int)=some (l.drop j):=by
 unfold sub;rw [if_pos (by omega)];simp
theorem Hp (a vs:List Int)(h:a.length+vs.length≤1000000000):mC a vs=some (vs.foldl ra a):=by
 unfold mC
 rw [aq (by simp only [List.length_nil];omega)]
 rw [List.nil_append]
 have:=tC (T:=g7 (fun (y10:List Int) (_:Int)=>some y10) vs) vs (fun (s:List Int) i=>(s,(i:Int))) (fun i s=>s.length≤a.length+i) (fun v s=> .ok (ra s v)) (fun s=>some s) (by omega)
  (fun i hi s nx hI=> ?hs) (fun i hi s s' hI hg=> ?hn) (fun s nx hI=> ?hf) a (by simp)
 case hs=>
  simp only [g7]
  rw [decide_eq_true (by omega),ay hi,wrap64 (n:=(i:Int)+1) (by omega) (by omega)]
  simp only [cond_true,ab,wa s vs[i] (by omega)]
  unfold ra
  cases hh:hasB s vs[i] with
  |true=>rfl
  |false=>
   have hm:vs[i]∉s:=fun e=>by rw [K5.2 e] at hh;cases hh
   simp only [cond_false]
   rw [Bi (hit:=fun y6=>aa (sub s 0 y6) fun x7=>room (List.length ([]:List Int)+List.length x7) (room (List.length (([]:List Int)++x7)+List.length ([vs[i]])) (aa (sub s y6 (s.length:Int)) fun x9=>room (List.length ((([]:List Int)++x7)++([vs[i]]))+List.length x9) (nx (((([]:List Int)++x7)++([vs[i]]))++x9,(i:Int)+1)))))
    (fin:=aa (sub s 0 (s.length:Int)) fun x7=>room (List.length ([]:List Int)+List.length x7) (room (List.length (([]:List Int)++x7)+List.length ([vs[i]])) (aa (sub s (s.length:Int) (s.length:Int)) fun x9=>room (List.length ((([]:List Int)++x7)++([vs[i]]))+List.length x9) (nx (((([]:List Int)++x7)++([vs[i]]))++x9,(i:Int)+1)))))
    (fun x=> !decide (x<vs[i])) s (by omega) (fun j hj nx'=> ?hs2) (fun nx'=> ?hf2)]
   case hs2=>
    simp only [lG]
    rw [decide_eq_true (by omega),ay hj,ay hi,wrap64 (n:=(j:Int)+1) (by omega) (by omega)]
    simp only [cond_true,ab]
    cases decide (s[j]<vs[i])<;>rfl
   case hf2=>
    simp only [lG]
    rw [decide_eq_false (by omega)];rfl
   refine Eq.trans (SN (fun x=> !decide (x<vs[i])) (fun y6=>aa (sub s 0 y6) fun x7=>room (List.length ([]:List Int)+List.length x7) (room (List.length (([]:List Int)++x7)+List.length ([vs[i]])) (aa (sub s y6 (s.length:Int)) fun x9=>room (List.length ((([]:List Int)++x7)++([vs[i]]))+List.length x9) (nx (((([]:List Int)++x7)++([vs[i]]))++x9,(i:Int)+1))))) s) ?_
   have hle:s.findIdx (fun x=> !decide (x<vs[i]))≤s.length:=List.findIdx_le_length
   have e:=Tl vs[i] s hm
   generalize s.findIdx (fun x=> !decide (x<vs[i]))=j at*
   rw [MA s j hle,Uj s j hle]
   simp only [ab,List.nil_append]
   rw [aq (by simp;omega),aq (by simp;omega),aq (by simp;omega),e];rfl
 case hn=>
  cases hg
  have:=zw s vs[i]
  omega
 case hf=>
  simp only [g7]
  rw [decide_eq_false (by omega)];rfl
 rw [Av] at this
 exact this
theorem Pz (l:List Int)(v:Int)(h:l.length≤1000000000):fe l v=some (ins v l):=by
 unfold fe
 have hgo:∀(l:List Int)(acc:List Int)(d:Bool),acc.length+l.length+(bif d then 0 else 1)≤1073741824→
  nn (fun (x:Int) (s:List Int×Bool) (k:List Int×Bool→Option (List Int))=>cond (cond (!s.2) (decide (v<x)) false) (room (List.length s.1+List.length ([v])) (room (List.length (s.1++([v]))+List.length ([x])) (k ((s.1++([v]))++([x]),true)))) (room (List.length s.1+List.length ([x])) (k (s.1++([x]),s.2))))
   (fun s=>cond (!s.2) (room (List.length s.1+List.length ([v])) (some (s.1++([v])))) (some s.1)) l (acc,d)=some (acc++bif d then l else ins v l):=by
  intro l
  induction l with
  |nil=>
   intro acc d hl
   rw [nn]
   simp only [List.length_nil] at hl
   cases d with
   |true=>simp
   |false=>
    simp only [Bool.not_false,cond_true,cond_false] at hl⊢
    rw [aq (by simp;omega)];rfl
  |cons x l ih=>
   intro acc d hl
   simp only [List.length_cons] at hl
   rw [nn]
   cases d with
   |true=>
    simp only [Bool.not_true,cond_false,cond_true] at hl⊢
    rw [aq (by simp;omega),ih _ _ (by simp;omega)]
    simp
   |false=>
    simp only [Bool.not_false,cond_true,cond_false] at hl⊢
    rw [ins]
    cases decide (v<x) with
    |true=>
     simp only [cond_true]
     rw [aq (by simp;omega),aq (by simp;omega)]
     rw [ih _ _ (by simp;omega)];simp
    |false=>
     simp only [cond_false]
     rw [aq (by simp;omega),ih _ _ (by simp;omega)]
     simp
 have hfu:=bQ
 have key:=pE (T:=eL (fun (y3:List Int) (y4:Bool) (_:Int)=>cond (!y4) (room (List.length y3+List.length ([v])) (some (y3++([v])))) (some y3)) v l (l.length:Int)) l (fun (s:List Int×Bool) i=>(s.1,s.2,(i:Int)))
  (fun (x:Int) (s:List Int×Bool) (k:List Int×Bool→Option (List Int))=>cond (cond (!s.2) (decide (v<x)) false) (room (List.length s.1+List.length ([v])) (room (List.length (s.1++([v]))+List.length ([x])) (k ((s.1++([v]))++([x]),true)))) (room (List.length s.1+List.length ([x])) (k (s.1++([x]),s.2))))
  (fun s=>cond (!s.2) (room (List.length s.1+List.length ([v])) (some (s.1++([v])))) (some s.1))
  (fun i hi s nx=>by
   simp only [eL]
   rw [decide_eq_true (by omega),ay hi,wrap64 (n:=(i:Int)+1) (by omega) (by omega)]
   simp only [cond_true,ab,az];rfl)
  (fun s nx=>by
   simp only [eL]
   rw [decide_eq_false (by omega)];rfl)
  fuel 0 (([]:List Int),false) (by omega) (by omega)
 rw [List.drop_zero,hgo l [] false (by simp;omega)] at key
 exact key
def eX:Port:=(0,[],0,false)
def CH (p:Port):Bool:=fB (p.1,false,p.2.1)&&hasB p.2.1 p.2.2.1
def Ar (l:List Port)(i:Nat):Bool:=CH (l.getD i eX)&&(List.range i).all (fun j=> !((j !=0)&&((l.getD j eX).1==(l.getD i eX).1)))
def cV (l:List Port):Bool:=bc (l.length:Int) 1 8&&(List.range l.length).all (Ar l)
theorem Ol (i:Nat)(q:Nat→Bool):(List.range (i-1)).all (fun j=> !(q (j+1)))=(List.range i).all (fun j=> !((j !=0)&&q j)):=by
 rw [Bool.eq_iff_iff,List.all_eq_true,List.all_eq_true]
 simp only [List.mem_range]
 constructor
 ·intro h j hj
  cases j with
  |zero=>rfl
  |succ j=>
   have:=h j (by omega)
   simpa using this
 ·intro h j hj
  have:=h (j+1) (by omega)
  simpa using this
theorem xX (l:List Port)(h:l.length≤1000000000)(hv:∀p∈l,p.2.1.length≤1000000000):fN l=some (cV l):=by
 unfold fN cV
 rw [cI (hit:=some false) (fin:=some true) (Ar l) l.length (by omega) (fun i nx hi=> ?hs) (fun nx=> ?hf)]
 case hs=>
  have hvi:=hv _ (List.getElem_mem hi)
  simp only [mT]
  rw [decide_eq_true (by omega),ay hi,wrap64 (by omega) (by omega)]
  simp only [cond_true,ab,vZ (l[i].1,false,l[i].2.1) hvi,wa _ _ hvi]
  have e1:(1:Int)=(((0:Nat)+1:Nat):Int):=rfl
  rw [e1,Ba (hit:=some false) (fin:=nx ((i:Int)+1)) (fun j=>((j+1:Nat):Int)) (fun j=> !((l.getD (j+1) eX).1==l[i].1)) (i-1) (by omega) (fun j nx' hj hp=> ?hs2) (fun hp nx'=> ?hf2)]
  case hs2=>
   have hjl:j+1<l.length:=by omega
   simp only [mU]
   rw [decide_eq_true (by omega),ay hjl,ay hi,wrap64 (by omega) (by omega)]
   simp only [cond_true,ab,aM hjl,Bool.not_not];rfl
  case hf2=>
   simp only [mU]
   rw [decide_eq_false (by omega)];rfl
  rw [Ol i (fun j=>(l.getD j eX).1==l[i].1)]
  simp only [Ar,CH,aM hi]
  cases fB (l[i].1,false,l[i].2.1)<;>cases hasB l[i].2.1 l[i].2.2.1<;>cases (List.range i).all (fun j=> !((j !=0)&&((l.getD j eX).1==l[i].1)))<;>rfl
 case hf=>
  simp only [mT]
  rw [decide_eq_false (by omega)];rfl
 simp only [aU,ab]
 cases bc (l.length:Int) 1 8<;>cases (List.range l.length).all (Ar l)<;>rfl
def vn (p:Nat→Bool):List Nat→Int
 |[]=> -1
 |j::r=>bif p j then (j:Int) else vn p r
theorem KR (p:Nat→Bool):∀n s i,s≤i→i<s+n→p i=true→(vn p (List.range' s n)==(i:Int))=(List.range' s (i-s)).all (fun j=> !(p j))
 |0,s,i,h1,h2,_=>by omega
 |n+1,s,i,h1,h2,hp=>by
  rw [List.range'_succ,vn]
  rcases Nat.lt_or_ge s i with hlt|hge
  ·obtain ⟨k,hk⟩:∃k,i-s=k+1:=⟨i-s-1,by omega⟩
   rw [hk,List.range'_succ,List.all_cons]
   cases hps:p s with
   |true=>
    simp only [cond_true,Bool.not_true,Bool.false_and]
    have:¬(s:Int)=(i:Int):=by omega
    simpa using this
   |false=>
    simp only [cond_false,Bool.not_false,Bool.true_and]
    rw [KR p n (s+1) i (by omega) (by omega) hp,show i-(s+1)=k by omega]
  ·have:s=i:=by omega
   subst this
   rw [hp,Nat.sub_self]
   simp
theorem E7 {R:Type}(p:Nat→Bool)(hit:Nat→Option R)(fin:Option R)(k:Int→Option R)(h1:∀j:Nat,hit j=k (j:Int))(h2:fin=k (-1)):∀l:List Nat,E5 (fun (j:Nat) (s:Unit)=>bif p j then .error (hit j) else .ok ()) (fun _=>fin) l ()=k (vn p l)
 |[]=>h2
 |j::l=>by
  rw [E5,vn]
  cases p j with
  |true=>exact h1 j
  |false=>exact E7 p hit fin k h1 h2 l
theorem Lq (l:List Port)(a:Int)(h:l.length≤1000000000):l6 l a=some (vn (fun j=>(j !=0)&&((l.getD j eX).1==a)) (List.range' 0 l.length)):=by
 unfold l6
 have:=tC (T:=gF (fun (_:Int)=>some (-1)) (fun (y4:Int) (_:Int)=>some y4) a 0 l (l.length:Int)) (List.range' 0 l.length) (fun (_:Unit) i=>(i:Int)) (fun _ _=>True)
  (fun (j:Nat) (s:Unit)=>bif (j !=0)&&((l.getD j eX).1==a) then .error (some (j:Int)) else .ok ()) (fun _=>some (-1)) (by simp;omega)
  (fun i hi s nx _=> ?hs) (fun _ _ _ _ _ _=>trivial) (fun s nx _=> ?hf) () trivial
 case hs=>
  have hil:i<l.length:=by simpa using hi
  have e:(List.range' 0 l.length)[i]=i:=by simp
  rw [e]
  simp only [gF]
  rw [decide_eq_true (by omega),ay hil,wrap64 (by omega) (by omega)]
  simp only [cond_true,ab,aM hil,az,cF]
  have e2:((i:Int) !=0)=(i !=0):=by rw [Bool.eq_iff_iff];simp
  rw [e2]
  cases (i !=0)&&(l[i].1==a)<;>rfl
 case hf=>
  simp only [gF]
  rw [decide_eq_false (by simp)];rfl
 rw [E7 (fun j=>(j !=0)&&((l.getD j eX).1==a)) _ _ (fun x=>some x) (fun _=>rfl) rfl] at this
 exact this
theorem xM (l:List Port)(h:l.length≤1000000000)(hv:∀p∈l,p.2.1.length≤1000000000):fE l=some (cV l):=by
 unfold fE cV
 rw [cI (hit:=some false) (fin:=some true) (Ar l) l.length (by omega) (fun i nx hi=> ?hs) (fun nx=> ?hf)]
 case hs=>
  have hvi:=hv _ (List.getElem_mem hi)
  simp only [mI]
  rw [decide_eq_true (by omega),ay hi,wrap64 (by omega) (by omega)]
  simp only [cond_true,ab,uy,vq (l[i].1,false,l[i].2.1) hvi,vt _ _ hvi,Lq l _ h,az,bne]
  have e2:((i:Int)==0)=(i==0):=by rw [Bool.eq_iff_iff];simp
  rw [e2]
  simp only [Ar,CH,aM hi]
  cases h0:i==0 with
  |true=>
   have:i=0:=by simpa using h0
   subst this
   cases fB (l[0].1,false,l[0].2.1)<;>cases hasB l[0].2.1 l[0].2.2.1<;>rfl
  |false=>
   have hne:(i !=0)=true:=by simp only [bne,h0,Bool.not_false]
   have fa:=KR (fun j=>(j !=0)&&((l.getD j eX).1==l[i].1)) l.length 0 i (by omega) (by omega) (by simp only [hne,aM hi,Bool.true_and,beq_self_eq_true])
   rw [Nat.sub_zero,←List.range_eq_range' (n:=i)] at fa
   simp only [bne] at fa⊢
   rw [fa]
   cases fB (l[i].1,false,l[i].2.1)<;>cases hasB l[i].2.1 l[i].2.2.1<;>cases (List.range i).all (fun j=> !((!(j==0))&&((l.getD j eX).1==l[i].1)))<;>rfl
 case hf=>
  simp only [mI]
  rw [decide_eq_false (by omega)];rfl
 simp only [bg,ab]
 cases bc (l.length:Int) 1 8<;>cases (List.range l.length).all (Ar l)<;>rfl
def nw (m:aC):Bool:=fB m.1&&(bc m.2.1 0 1000000000000&&bc m.2.2.2 0 1000000000000)
theorem Ub (m:aC)(h:m.1.2.2.length≤1000000000):pa m=some (nw m):=by
 simp only [pa,vZ _ h,aU,ab,az,cF,nw]
theorem Td (m:aC)(h:m.1.2.2.length≤1000000000):nS m=some (nw m):=by
 simp only [nS,vq _ h,bg,ab,az,cF,nw]
theorem uU {m:aC}(h:nw m=true):m.1.2.2.length≤8:=by
 unfold nw fB at h
 simp only [Bool.and_eq_true,decide_eq_true_eq] at h
 omega
def Jo (m:aC):Port:=(m.1.1,m.1.2.2.foldl ra [0],0,true)
def yE (s:List Int×List Port)(m:aC):List Int×List Port:=(m.1.2.2.foldl ra s.1,s.2++[Jo m])
def uh (ms:List aC):List Port:=(0,(ms.foldl yE ([0],[])).1,0,false)::(ms.foldl yE ([0],[])).2
def di (ms:List aC):List Port×Bool:=bif bc (ms.length:Int) 1 3&&(ms.all nw&&cV (uh ms)) then (uh ms,true) else ([],false)
theorem E6 {α σ R:Type}(p:α→Bool)(f:σ→α→σ)(r:Option R)(fin:σ→Option R):∀(l:List α)(s:σ),E5 (fun x s=>bif p x then .ok (f s x) else .error r) fin l s=bif l.all p then fin (l.foldl f s) else r
 |[],s=>rfl
 |x::l,s=>by
  rw [E5,List.all_cons,List.foldl_cons]
  cases p x with
  |false=>rfl
  |true=>simp only [cond_true,Bool.true_and];exact E6 p f r fin l (f s x)
def J1 (i:Nat)(s:List Int×List Port):Prop:=s.1.length≤1+9*i∧s.2.length=i∧∀p∈s.2,p.2.1.length≤9
theorem J1.port {i:Nat}{s:List Int×List Port}(h:J1 i s){m:aC}(hm:nw m=true)(U:List Int)(hU:U.length≤s.1.length+9):J1 (i+1) (U,s.2++[Jo m]):=by
 have hl:=uU hm
 have:=vc m.1.2.2 [0]
 refine ⟨?_, ?_, ?_⟩
 ·have:=h.1;simp only;omega
 ·have:=h.2.1;simp;omega
 ·intro p hp
  rcases List.mem_append.1 hp with hp|hp
  ·exact h.2.2 p hp
  ·simp only [List.mem_singleton] at hp;subst hp
   simp only [Jo,List.length_singleton] at this⊢;omega
theorem xk {i:Nat}{s:List Int×List Port}(h:J1 i s)(hi:i≤3):((0,s.1,0,false)::s.2:List Port).length≤1000000000∧∀p∈((0,s.1,0,false)::s.2:List Port),p.2.1.length≤1000000000:=by
 have h1:=h.1
 have h2:=h.2.1
 refine ⟨by simp only [List.length_cons];omega,fun p hp=> ?_⟩
 rcases List.mem_cons.1 hp with rfl|hp
 ·simp only;omega
 ·have:=h.2.2 p hp;omega
theorem B9 (ms:List aC)(h:∀m∈ms,m.1.2.2.length≤1000000000):pe ms=some (di ms):=by
 unfold pe di
 simp only [aU,ab]
 cases hn:bc (ms.length:Int) 1 3 with
 |false=>rfl
 |true=>
  have hn':=aR.1 hn
  simp only [Bool.not_true,cond_false,Bool.true_and]
  have:=tC (T:=iP (fun (y12:List Port) (_:Int)=>aa (fN y12) fun r14=>cond (!r14) (some (([]:List Port),false)) (some (y12,true))) (fun (y15:List Port) (y16:Bool) (_:List Port) (_:Int)=>some (y15,y16)) ms ([]:List Port) false)
   ms (fun (s:List Int×List Port) i=>((0,s.1,0,false)::s.2,(i:Int))) J1 (fun m s=>bif nw m then .ok (yE s m) else .error (some (([]:List Port),false)))
   (fun s=>some (bif cV ((0,s.1,0,false)::s.2) then ((0,s.1,0,false)::s.2,true) else ([],false))) (by omega) (fun i hi s nx hI=> ?hs) (fun i hi s s' hI hg=> ?hn) (fun s nx hI=> ?hf) ([0],[]) ⟨by simp,rfl,by simp⟩
  case hs=>
   simp only [iP]
   have hm:=h _ (List.getElem_mem hi)
   rw [decide_eq_true (by omega),ay hi,wrap64 (n:=(i:Int)+1) (by omega) (by omega)]
   simp only [cond_true,ab,Ub _ hm]
   cases hmb:nw ms[i] with
   |false=>rfl
   |true=>
    have hl:=uU hmb
    have hU:=hI.1
    have hP:=hI.2.1
    have e0:idx ((0,s.1,0,false)::s.2:List Port) 0=some (0,s.1,0,false):=rfl
    simp only [Bool.not_true,cond_false,cond_true,e0,ab]
    rw [Hp s.1 _ (by omega),Hp [0] _ (by simp;omega)]
    simp only [ab]
    rw [aq (by simp;omega)]
    rfl
  case hn=>
   cases hmb:nw ms[i] with
   |false=>rw [hmb] at hg;cases hg
   |true=>
    rw [hmb] at hg
    cases hg
    have:=vc ms[i].1.2.2 s.1
    have:=uU hmb
    exact hI.port hmb _ (by omega)
  case hf=>
   simp only [iP]
   rw [decide_eq_false (by omega)]
   have hb:=xk hI (by omega)
   simp only [cond_false,xX _ hb.1 hb.2,ab]
   cases cV ((0,s.1,0,false)::s.2)<;>rfl
  rw [E6] at this
  refine Eq.trans this ?_
  unfold uh
  cases ms.all nw<;>rfl
def Hs (s:List Int×List Port)(m:aC):List Int×List Port:=(([0]++m.1.2.2).foldl ra s.1,s.2++[Jo m])
theorem Ui {s:List Int×List Port}{m:aC}(h:(0:Int)∈s.1):Hs s m=yE s m:=by
 unfold Hs yE
 rw [List.foldl_append]
 simp only [List.foldl_cons,List.foldl_nil,Qu h]
theorem Fk:∀(ms:List aC)(s:List Int×List Port),(0:Int)∈s.1→ms.foldl Hs s=ms.foldl yE s
 |[],_,_=>rfl
 |m::ms,s,h=>by
  rw [List.foldl_cons,List.foldl_cons,Ui h]
  exact Fk ms _ (Bu _ h)
theorem Mx (ms:List aC)(h:ms≠[]):ms.foldl Hs ([],[])=ms.foldl yE ([0],[]):=by
 cases ms with
 |nil=>exact absurd rfl h
 |cons m ms=>
  rw [List.foldl_cons,List.foldl_cons]
  have e:Hs ([],[]) m=yE ([0],[]) m:=rfl
  rw [e]
  exact Fk ms _ (Bu _ (by simp))
theorem QX {R:Type}(k0:List Int→List Int→Int→Option R)(k:List Int→List Int→Option R)(hk:∀a b i,k0 a b i=k a b)(v2:List Port)(v3:Bool)(v4:List Port)(v18:List aC)(v19 v20:Int)(b7:aC)(vs all:List Int)(h:all.length+vs.length≤1000000000):
 ar (eD k0 v2 v3 v4 v18 v19 v20 vs (vs.length:Int) b7) fuel (all,([]:List Int),0)=k (vs.foldl ra all) (vs.foldl ra []):=by
 have:=tC (T:=eD k0 v2 v3 v4 v18 v19 v20 vs (vs.length:Int) b7) vs (fun (s:List Int×List Int) i=>(s.1,s.2,(i:Int))) (fun i s=>s.1.length≤all.length+i∧s.2.length≤i) (fun v s=> .ok (ra s.1 v,ra s.2 v)) (fun s=>k s.1 s.2) (by omega)
  (fun i hi s nx hI=> ?hs) (fun i hi s s' hI hg=> ?hn) (fun s nx hI=> ?hf) (all,[]) ⟨by simp,by simp⟩
 case hs=>
  simp only [eD]
  rw [decide_eq_true (by omega),ay hi,wrap64 (n:=(i:Int)+1) (by omega) (by omega)]
  simp only [cond_true,ab,vt s.2 vs[i] (by omega),vt s.1 vs[i] (by omega),Pz s.2 vs[i] (by omega),Pz s.1 vs[i] (by omega),ra]
  cases hasB s.2 vs[i]<;>cases hasB s.1 vs[i]<;>rfl
 case hn=>
  cases hg
  have:=zw s.1 vs[i]
  have:=zw s.2 vs[i]
  have h1:=hI.1
  have h2:=hI.2
  exact ⟨by simp only;omega,by simp only;omega⟩
 case hf=>
  simp only [eD]
  rw [decide_eq_false (by omega)]
  simp only [cond_false,hk]
 rw [Av] at this
 refine Eq.trans this ?_
 have e:∀(l:List Int)(s:List Int×List Int),l.foldl (fun s v=>(ra s.1 v,ra s.2 v)) s=(l.foldl ra s.1,l.foldl ra s.2):=by
  intro l
  induction l with
  |nil=>intro s;rfl
  |cons x l ih=>intro s;rw [List.foldl_cons,ih];rfl
 rw [e]
theorem BX (ms:List aC)(h:∀m∈ms,m.1.2.2.length≤1000000000):nV ms=some (di ms):=by
 unfold nV di
 simp only [bg,ab]
 cases hn:bc (ms.length:Int) 1 3 with
 |false=>rfl
 |true=>
  have hn':=aR.1 hn
  simp only [Bool.not_true,cond_false,Bool.true_and]
  have:=tC (T:=iE (fun (y14:List Port) (y15:List Int) (_:Int)=>aa (idx y14 0) fun x17=>aa (idx y14 0) fun x18=>aa (fE (List.set y14 (Int.toNat 0) (x18.1,y15,x18.2.2))) fun r19=>cond (!r19) (some (([]:List Port),false)) (some (List.set y14 (Int.toNat 0) (x18.1,y15,x18.2.2),true)))
   (fun (y20:List Port) (y21:Bool) (_:List Port) (_:List Int) (_:Int)=>some (y20,y21)) ([]:List Port) false ms (ms.length:Int))
   ms (fun (s:List Int×List Port) i=>((0,[],0,false)::s.2,s.1,(i:Int))) J1 (fun m s=>bif nw m then .ok (Hs s m) else .error (some (([]:List Port),false)))
   (fun s=>some (bif cV ((0,s.1,0,false)::s.2) then ((0,s.1,0,false)::s.2,true) else ([],false))) (by omega) (fun i hi s nx hI=> ?hs) (fun i hi s s' hI hg=> ?hn) (fun s nx hI=> ?hf) ([],[]) ⟨by simp,rfl,by simp⟩
  case hs=>
   simp only [iE]
   have hm:=h _ (List.getElem_mem hi)
   rw [decide_eq_true (by omega),ay hi,wrap64 (n:=(i:Int)+1) (by omega) (by omega)]
   simp only [cond_true,ab,Td _ hm]
   cases hmb:nw ms[i] with
   |false=>rfl
   |true=>
    have hl:=uU hmb
    have hU:=hI.1
    have hP:=hI.2.1
    simp only [Bool.not_true,cond_false,cond_true]
    rw [aq (by simp;omega)]
    refine (QX _ (fun a b=>room (List.length ((0,[],0,false)::s.2:List Port)+List.length ([(ms[i].1.1,b,0,true)]:List Port)) (nx (((0,[],0,false)::s.2)++([(ms[i].1.1,b,0,true)]),a,(i:Int)+1))) (fun _ _ _=>rfl) _ _ _ _ _ _ _ ([0]++ms[i].1.2.2) s.1 (by simp only [List.length_append,List.length_singleton];omega)).trans ?_
    rw [aq (by simp;omega)]
    rfl
  case hn=>
   cases hmb:nw ms[i] with
   |false=>rw [hmb] at hg;cases hg
   |true=>
    rw [hmb] at hg
    cases hg
    have hu:=vc ([0]++ms[i].1.2.2) s.1
    have hl:=uU hmb
    simp only [List.length_append,List.length_singleton] at hu
    exact hI.port hmb _ (by omega)
  case hf=>
   simp only [iE]
   rw [decide_eq_false (by omega)]
   have hb:=xk hI (by omega)
   have e0:idx ((0,[],0,false)::s.2:List Port) 0=some (0,[],0,false):=rfl
   have e1:List.set ((0,[],0,false)::s.2:List Port) (Int.toNat 0) (0,s.1,0,false)=(0,s.1,0,false)::s.2:=rfl
   simp only [cond_false,e0,ab,e1,xM _ hb.1 hb.2]
   cases cV ((0,s.1,0,false)::s.2)<;>rfl
  rw [E6,Mx ms (by rintro rfl;simp at hn')] at this
  refine Eq.trans this ?_
  unfold uh
  cases ms.all nw<;>rfl
end
end Go.Pu
end
