import Derived.Test.YthllnaiaikjelaaGreatDnAl
/- Data, and the few partial operations on it. -/
namespace Go.Dn
variable {R α:Type}
abbrev ak (x:Int):Int:=IntKind.wrap .i64 x
abbrev gU (x:Int):Int:=IntKind.wrap .u8 x
inductive CT where
 |int (k:IntKind)|bool|str|sl (e:CT)|pair (a b:CT)
 deriving DecidableEq
abbrev CT.D:CT->Type
 | .int _=>Int
 | .bool=>Bool
 | .str=>ar UInt8
 | .sl e=>ar e.D
 | .pair a b=>a.D×b.D
def CT.size:CT->Nat
 | .pair a b=>a.size+b.size
 |_=>1
def CT.flat:CT->Bool
 | .pair a b=>a.flat&&b.flat
 | .sl _=>false
 |_=>true
def CT.zero:(t:CT)->t.D
 | .int _=>(0:Int)
 | .bool=>false
 | .str=>[]
 | .sl _=>[]
 | .pair a b=>(a.zero,b.zero)
def idx (xs:ar α)(i:Int):au α:=
 match i with
 | .ofNat n=>xs[n]?
 | .negSucc _=>none
def aje (xs:ar α)(i' i:Int):au α:=if i'=i then idx xs i else none
theorem ajf {xs:ar α}{i' i:Int}{x:α}(h:aje xs i' i=some x):i'=i/\idx xs i=some x:=by unfold aje at h;split at h;exact⟨by assumption,h⟩;cases h
def sub (xs:ar α)(lo hi:Int):au (ar α):=
 if 0<=lo/\lo<=hi/\hi<=(xs.length:Int) then some ((xs.take hi.toNat).drop lo.toNat) else none
def room (n:Nat)(k:au R):au R:=if n<=1073741824 then k else none
def aa (o:au α)(k:α->au R):au R:=
 match o with
 |some a=>k a
 |none=>none
def anb (o:au (Bool×α)):au (Bool×α):=aa o λr=>cond r.1 (some r) none
def aU (xs:cI):ar UInt8:=xs.map λn=>UInt8.ofNat n.toNat
def dc (s:ar UInt8):cI:=s.map λb=>(b.toNat:Int)
def Jo (ys:cI)(lo:Nat)(zs:cI):cI:=ys.take lo++(zs++ys.drop (lo+zs.length))
def aH {σ:Type}(T:(σ->au R)->σ->au R):Nat->σ->au R
 |0,_=>none
 |n+1,x=>T (aH T n) x
theorem ahK:∃n:Nat,1099511627776<=n:=⟨_,ba _⟩
noncomputable def fuel:Nat:=Classical.choose ahK
theorem da:1099511627776<=fuel:=Classical.choose_spec ahK
inductive Nst (F:CT->Type):CT->Type
 |int (k:IntKind):Nst F (.int k)
 |bool:Nst F .bool
 |str:Nst F .str
 |sl {e:CT} (m:F e):Nst F (.sl e)
 |pair {a b:CT}:Nst F a->Nst F b->Nst F (.pair a b)
abbrev FM (e:CT):Type:=ar e.D->Int->au (Int×ar e.D)
abbrev FH (e:CT):Type:=ar e.D->Int->au Int
def IL (f:Int->au (ar UInt8))(i:Int):{t:CT}->Nst FM t->(α->t.D)->(α->t.D->α)->ar α->ar α->Int->(ar α->Int->au R)->au R
 |_,.int _,_,s,L0,L,k,K=>aa (idx L0 i) λ_=>aa (idx L i) λy=>K (L.set i.toNat (s y k)) (ak (k+1))
 |_,.bool,_,s,L0,L,k,K=>aa (idx L0 i) λ_=>aa (idx L i) λy=>K (L.set i.toNat (s y (Int.tmod k 3==0))) (ak (k+1))
 |_,.str,_,s,L0,L,k,K=>aa (f k) λt=>aa (idx L0 i) λ_=>aa (idx L i) λy=>K (L.set i.toNat (s y t)) (ak (k+1))
 |_,.sl m,g,s,L0,L,k,K=>aa (idx L0 i) λ_=>aa (idx L i) λy=>aa (m (g y) k) λq=>K (L.set i.toNat (s y q.2)) q.1
 |_,.pair a b,g,s,L0,L,k,K=>IL f i a (λy=>(g y).1) (λy v=>s y (v,(g y).2)) L0 L k λL k=>IL f i b (λy=>(g y).2) (λy v=>s y ((g y).1,v)) L L k K
def Ju (f:Int->au (ar UInt8))(i:Int)(v:ar α)(bad:Int->au R):{t:CT}->Nst FH t->(α->t.D)->(Int->au R)->Int->au R
 |_,.int _,g,K,k=>aa (idx v i) λx=>cond ((g x:Int) !=k) (bad k) (K (ak (k+1)))
 |_,.bool,g,K,k=>aa (idx v i) λx=>cond (!((g x:Bool)==(Int.tmod k 3==0))) (bad k) (K (ak (k+1)))
 |_,.str,g,K,k=>aa (idx v i) λx=>aa (f k) λt=>cond (!((g x:ar UInt8)==t)) (bad k) (K (ak (k+1)))
 |_,.sl m,g,K,k=>aa (idx v i) λx=>aa (m (g x) k) λq=>cond (decide (q<0)) (bad q) (K q)
 |_,.pair a b,g,K,k=>Ju f i v bad a (λy=>(g y).1) (λk=>Ju f i v bad b (λy=>(g y).2) K k) k
end Go.Dn
