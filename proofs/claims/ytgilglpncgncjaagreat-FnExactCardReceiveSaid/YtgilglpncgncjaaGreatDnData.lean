import GoSem.Core.Sem
import GoSem.Dispatch
import Derived.KernelRfl
/- Data, and the few partial operations on it. -/
namespace Go.Dn
inductive CT where
 |int (k:IntKind)|bool|str|sl (e:CT)|pair (a b:CT)
 deriving DecidableEq
@[reducible] def CT.D:CT→Type
  | .int _=>Int
  | .bool=>Bool
  | .str=>List UInt8
  | .sl e=>List e.D
  | .pair a b=>a.D×b.D
def CT.size:CT→Nat
 | .pair a b=>a.size+b.size
 |_=>1
def CT.flat:CT→Bool
 | .pair a b=>a.flat&&b.flat
 | .sl _=>false
 |_=>true
def CT.zero:(t:CT)→t.D
 | .int _=>(0:Int)
 | .bool=>false
 | .str=>[]
 | .sl _=>[]
 | .pair a b=>(a.zero,b.zero)
def idx {α:Type}(xs:List α)(i:Int):Option α:=
 match i with
 | .ofNat n=>xs[n]?
 | .negSucc _=>none
def sub {α:Type}(xs:List α)(lo hi:Int):Option (List α):=
 if 0≤lo∧lo≤hi∧hi≤(xs.length:Int) then some ((xs.take hi.toNat).drop lo.toNat) else none
def room {R:Type}(n:Nat)(k:Option R):Option R:=if n≤1073741824 then k else none
def aa {α R:Type}(o:Option α)(k:α→Option R):Option R:=
 match o with
 |some a=>k a
 |none=>none
def bytesOf (xs:List Int):List UInt8:=xs.map fun n=>UInt8.ofNat n.toNat
def a7 (s:List UInt8):List Int:=s.map fun b=>(b.toNat:Int)
def uX (ys:List Int)(lo:Nat)(zs:List Int):List Int:=ys.take lo++(zs++ys.drop (lo+zs.length))
def ar {σ R:Type}(T:(σ→Option R)→σ→Option R):Nat→σ→Option R
 |0,_=>none
 |n+1,x=>T (ar T n) x
theorem Px:∃n:Nat,1099511627776≤n:=⟨_,Nat.le_refl _⟩
noncomputable def fuel:Nat:=Classical.choose Px
theorem bQ:1099511627776≤fuel:=Classical.choose_spec Px
inductive M3 (F:CT→Type):CT→Type
 |int (k:IntKind):M3 F (.int k)
 |bool:M3 F .bool
 |str:M3 F .str
 |sl {e:CT} (m:F e):M3 F (.sl e)
 |pair {a b:CT}:M3 F a→M3 F b→M3 F (.pair a b)
abbrev FM (e:CT):Type:=List e.D→Int→Option (Int×List e.D)
abbrev FH (e:CT):Type:=List e.D→Int→Option Int
def u4 {α R:Type}(f:Int→Option (List UInt8))(i:Int):{t:CT}→M3 FM t→(α→t.D)→(α→t.D→α)→List α→List α→Int→(List α→Int→Option R)→Option R
 |_,.int _,_,s,L0,L,k,K=>aa (idx L0 i) fun _=>aa (idx L i) fun y=>K (L.set i.toNat (s y k)) (IntKind.wrap .i64 (k+1))
 |_,.bool,_,s,L0,L,k,K=>aa (idx L0 i) fun _=>aa (idx L i) fun y=>K (L.set i.toNat (s y (Int.tmod k 3==0))) (IntKind.wrap .i64 (k+1))
 |_,.str,_,s,L0,L,k,K=>aa (f k) fun t=>aa (idx L0 i) fun _=>aa (idx L i) fun y=>K (L.set i.toNat (s y t)) (IntKind.wrap .i64 (k+1))
 |_,.sl m,g,s,L0,L,k,K=>aa (idx L0 i) fun _=>aa (idx L i) fun y=>aa (m (g y) k) fun q=>K (L.set i.toNat (s y q.2)) q.1
 |_,.pair a b,g,s,L0,L,k,K=>u4 f i a (fun y=>(g y).1) (fun y v=>s y (v,(g y).2)) L0 L k fun L k=>u4 f i b (fun y=>(g y).2) (fun y v=>s y ((g y).1,v)) L L k K
def u3 {α R:Type}(f:Int→Option (List UInt8))(i:Int)(v:List α)(bad:Int→Option R):{t:CT}→M3 FH t→(α→t.D)→(Int→Option R)→Int→Option R
 |_,.int _,g,K,k=>aa (idx v i) fun x=>cond ((g x:Int) !=k) (bad k) (K (IntKind.wrap .i64 (k+1)))
 |_,.bool,g,K,k=>aa (idx v i) fun x=>cond (!((g x:Bool)==(Int.tmod k 3==0))) (bad k) (K (IntKind.wrap .i64 (k+1)))
 |_,.str,g,K,k=>aa (idx v i) fun x=>aa (f k) fun t=>cond (!((g x:List UInt8)==t)) (bad k) (K (IntKind.wrap .i64 (k+1)))
 |_,.sl m,g,K,k=>aa (idx v i) fun x=>aa (m (g x) k) fun q=>cond (decide (q<0)) (bad q) (K q)
 |_,.pair a b,g,K,k=>u3 f i v bad a (fun y=>(g y).1) (fun k=>u3 f i v bad b (fun y=>(g y).2) K k) k
end Go.Dn
