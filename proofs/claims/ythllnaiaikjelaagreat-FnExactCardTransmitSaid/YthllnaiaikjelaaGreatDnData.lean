import Derived.Test.YthllnaiaikjelaaGreatDnAl
/- Data, and the few partial operations on it. -/
namespace Go.Dn
variable {R α:Type}
abbrev ak (x:Int):Int:=IntKind.wrap .i64 x
abbrev fV (x:Int):Int:=IntKind.wrap .u8 x
inductive CT where
 |int (k:IntKind)|bool|str|sl (e:CT)|pair (a b:CT)
 deriving DecidableEq
abbrev CT.D:CT->Type
 | .int _=>Int
 | .bool=>Bool
 | .str=>aq UInt8
 | .sl e=>aq e.D
 | .pair a b=>a.D×b.D
def CT.size:CT->Nat
 | .pair a b=>a.size+b.size
 |_=>1
def CT.flat:CT->Bool
 | .pair a b=>a.flat&&b.flat
 | .sl _=>false
 |_=>true
def CT.zero:(t:CT)->t.D
 | .int _=>(0:Int)
 | .bool=>false
 | .str=>[]
 | .sl _=>[]
 | .pair a b=>(a.zero,b.zero)
def idx (xs:aq α)(i:Int):ar α:=
 match i with
 | .ofNat n=>xs[n]?
 | .negSucc _=>none
def aaK (xs:aq α)(i' i:Int):ar α:=if i'=i then idx xs i else none
theorem aaL {xs:aq α}{i' i:Int}{x:α}(h:aaK xs i' i=some x):i'=i/\idx xs i=some x:=by unfold aaK at h;split at h;exact⟨by assumption,h⟩;cases h
def sub (xs:aq α)(lo hi:Int):ar (aq α):=
 if 0<=lo/\lo<=hi/\hi<=(xs.length:Int) then some ((xs.take hi.toNat).drop lo.toNat) else none
def room (n:Nat)(k:ar R):ar R:=if n<=1073741824 then k else none
def aa (o:ar α)(k:α->ar R):ar R:=
 match o with
 |some a=>k a
 |none=>none
def aej (o:ar (Bool×α)):ar (Bool×α):=aa o λr=>cond r.1 (some r) none
def aK (xs:cG):aq UInt8:=xs.map λn=>UInt8.ofNat n.toNat
def dg (s:aq UInt8):cG:=s.map λb=>(b.toNat:Int)
def DJ (ys:cG)(lo:Nat)(zs:cG):cG:=ys.take lo++(zs++ys.drop (lo+zs.length))
def aJ {σ:Type}(T:(σ->ar R)->σ->ar R):Nat->σ->ar R
 |0,_=>none
 |n+1,x=>T (aJ T n) x
theorem Zm:∃n:Nat,1099511627776<=n:=⟨_,bc _⟩
noncomputable def fuel:Nat:=Classical.choose Zm
theorem dX:1099511627776<=fuel:=Classical.choose_spec Zm
inductive WQ (F:CT->Type):CT->Type
 |int (k:IntKind):WQ F (.int k)
 |bool:WQ F .bool
 |str:WQ F .str
 |sl {e:CT} (m:F e):WQ F (.sl e)
 |pair {a b:CT}:WQ F a->WQ F b->WQ F (.pair a b)
abbrev FM (e:CT):Type:=aq e.D->Int->ar (Int×aq e.D)
abbrev FH (e:CT):Type:=aq e.D->Int->ar Int
def DS (f:Int->ar (aq UInt8))(i:Int):{t:CT}->WQ FM t->(α->t.D)->(α->t.D->α)->aq α->aq α->Int->(aq α->Int->ar R)->ar R
 |_,.int _,_,s,L0,L,k,K=>aa (idx L0 i) λ_=>aa (idx L i) λy=>K (L.set i.toNat (s y k)) (ak (k+1))
 |_,.bool,_,s,L0,L,k,K=>aa (idx L0 i) λ_=>aa (idx L i) λy=>K (L.set i.toNat (s y (Int.tmod k 3==0))) (ak (k+1))
 |_,.str,_,s,L0,L,k,K=>aa (f k) λt=>aa (idx L0 i) λ_=>aa (idx L i) λy=>K (L.set i.toNat (s y t)) (ak (k+1))
 |_,.sl m,g,s,L0,L,k,K=>aa (idx L0 i) λ_=>aa (idx L i) λy=>aa (m (g y) k) λq=>K (L.set i.toNat (s y q.2)) q.1
 |_,.pair a b,g,s,L0,L,k,K=>DS f i a (λy=>(g y).1) (λy v=>s y (v,(g y).2)) L0 L k λL k=>DS f i b (λy=>(g y).2) (λy v=>s y ((g y).1,v)) L L k K
def DR (f:Int->ar (aq UInt8))(i:Int)(v:aq α)(bad:Int->ar R):{t:CT}->WQ FH t->(α->t.D)->(Int->ar R)->Int->ar R
 |_,.int _,g,K,k=>aa (idx v i) λx=>cond ((g x:Int) !=k) (bad k) (K (ak (k+1)))
 |_,.bool,g,K,k=>aa (idx v i) λx=>cond (!((g x:Bool)==(Int.tmod k 3==0))) (bad k) (K (ak (k+1)))
 |_,.str,g,K,k=>aa (idx v i) λx=>aa (f k) λt=>cond (!((g x:aq UInt8)==t)) (bad k) (K (ak (k+1)))
 |_,.sl m,g,K,k=>aa (idx v i) λx=>aa (m (g x) k) λq=>cond (decide (q<0)) (bad q) (K q)
 |_,.pair a b,g,K,k=>DR f i v bad a (λy=>(g y).1) (λk=>DR f i v bad b (λy=>(g y).2) K k) k
end Go.Dn
