import Derived.Test.YtpgnehchfeikmaaGreatDnAl
/- Data, and the few partial operations on it. -/
namespace Go.Dn
abbrev aw (x:Int):Int:=IntKind.wrap .i64 x
abbrev ev (x:Int):Int:=IntKind.wrap .u8 x
inductive CT where
 |int (k:IntKind)|bool|str|sl (e:CT)|pair (a b:CT)
 deriving DecidableEq
abbrev CT.D:CT→Type
 | .int _=>Int
 | .bool=>Bool
 | .str=>List UInt8
 | .sl e=>List e.D
 | .pair a b=>a.D×b.D
def CT.size:CT→Nat
 | .pair a b=>a.size+b.size
 |_=>1
def CT.flat:CT→Bool
 | .pair a b=>a.flat&&b.flat
 | .sl _=>false
 |_=>true
def CT.zero:(t:CT)→t.D
 | .int _=>(0:Int)
 | .bool=>false
 | .str=>[]
 | .sl _=>[]
 | .pair a b=>(a.zero,b.zero)
def idx {α:Type}(xs:List α)(i:Int):Option α:=
 match i with
 | .ofNat n=>xs[n]?
 | .negSucc _=>none
def KO {α:Type}(xs:List α)(i' i:Int):Option α:=if i'=i then idx xs i else none
theorem X2 {α:Type}(xs:List α)(i:Int):KO xs i i=idx xs i:=au rfl
theorem NZ {α:Type}{xs:List α}{i' i:Int}{x:α}(h:KO xs i' i=some x):i'=i∧idx xs i=some x:=by unfold KO at h;split at h;exact⟨by assumption,h⟩;cases h
def sub {α:Type}(xs:List α)(lo hi:Int):Option (List α):=
 if 0≤lo∧lo≤hi∧hi≤(xs.length:Int) then some ((xs.take hi.toNat).drop lo.toNat) else none
def room {R:Type}(n:Nat)(k:Option R):Option R:=if n≤1073741824 then k else none
def aa {α R:Type}(o:Option α)(k:α→Option R):Option R:=
 match o with
 |some a=>k a
 |none=>none
def bytesOf (xs:List Int):List UInt8:=xs.map λn=>UInt8.ofNat n.toNat
def dq (s:List UInt8):List Int:=s.map λb=>(b.toNat:Int)
def yo (ys:List Int)(lo:Nat)(zs:List Int):List Int:=ys.take lo++(zs++ys.drop (lo+zs.length))
def aZ {σ R:Type}(T:(σ→Option R)→σ→Option R):Nat→σ→Option R
 |0,_=>none
 |n+1,x=>T (aZ T n) x
theorem MH:∃n:Nat,1099511627776≤n:=⟨_,aQ _⟩
noncomputable def fuel:Nat:=Classical.choose MH
theorem eF:1099511627776≤fuel:=Classical.choose_spec MH
inductive SP (F:CT→Type):CT→Type
 |int (k:IntKind):SP F (.int k)
 |bool:SP F .bool
 |str:SP F .str
 |sl {e:CT} (m:F e):SP F (.sl e)
 |pair {a b:CT}:SP F a→SP F b→SP F (.pair a b)
abbrev FM (e:CT):Type:=List e.D→Int→Option (Int×List e.D)
abbrev FH (e:CT):Type:=List e.D→Int→Option Int
def aco {α R:Type}(f:Int→Option (List UInt8))(i:Int):{t:CT}→SP FM t→(α→t.D)→(α→t.D→α)→List α→List α→Int→(List α→Int→Option R)→Option R
 |_,.int _,_,s,L0,L,k,K=>aa (idx L0 i) λ_=>aa (idx L i) λy=>K (L.set i.toNat (s y k)) (aw (k+1))
 |_,.bool,_,s,L0,L,k,K=>aa (idx L0 i) λ_=>aa (idx L i) λy=>K (L.set i.toNat (s y (Int.tmod k 3==0))) (aw (k+1))
 |_,.str,_,s,L0,L,k,K=>aa (f k) λt=>aa (idx L0 i) λ_=>aa (idx L i) λy=>K (L.set i.toNat (s y t)) (aw (k+1))
 |_,.sl m,g,s,L0,L,k,K=>aa (idx L0 i) λ_=>aa (idx L i) λy=>aa (m (g y) k) λq=>K (L.set i.toNat (s y q.2)) q.1
 |_,.pair a b,g,s,L0,L,k,K=>aco f i a (λy=>(g y).1) (λy v=>s y (v,(g y).2)) L0 L k λL k=>aco f i b (λy=>(g y).2) (λy v=>s y ((g y).1,v)) L L k K
def acn {α R:Type}(f:Int→Option (List UInt8))(i:Int)(v:List α)(bad:Int→Option R):{t:CT}→SP FH t→(α→t.D)→(Int→Option R)→Int→Option R
 |_,.int _,g,K,k=>aa (idx v i) λx=>cond ((g x:Int) !=k) (bad k) (K (aw (k+1)))
 |_,.bool,g,K,k=>aa (idx v i) λx=>cond (!((g x:Bool)==(Int.tmod k 3==0))) (bad k) (K (aw (k+1)))
 |_,.str,g,K,k=>aa (idx v i) λx=>aa (f k) λt=>cond (!((g x:List UInt8)==t)) (bad k) (K (aw (k+1)))
 |_,.sl m,g,K,k=>aa (idx v i) λx=>aa (m (g x) k) λq=>cond (decide (q<0)) (bad q) (K q)
 |_,.pair a b,g,K,k=>acn f i v bad a (λy=>(g y).1) (λk=>acn f i v bad b (λy=>(g y).2) K k) k
end Go.Dn
