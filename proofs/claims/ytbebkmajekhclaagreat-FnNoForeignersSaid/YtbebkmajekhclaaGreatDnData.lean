import Derived.Test.YtbebkmajekhclaaGreatDnAl
/- Data, and the few partial operations on it. -/
namespace Go.Dn
variable {α:Type}
abbrev au (x:Int):Int:=IntKind.wrap .i64 x
abbrev gF (x:Int):Int:=IntKind.wrap .u8 x
inductive CT where
 |int (k:IntKind)|bool|str|sl (e:CT)|pair (a b:CT)
 deriving DecidableEq
abbrev CT.D:CT->Type
 | .int _=>Int
 | .bool=>Bool
 | .str=>ax UInt8
 | .sl e=>ax e.D
 | .pair a b=>a.D×b.D
def CT.size:CT->Nat
 | .pair a b=>a.size+b.size
 |_=>1
def CT.flat:CT->Bool
 | .pair a b=>a.flat&&b.flat
 | .sl _=>false
 |_=>true
def CT.zero:(t:CT)->t.D
 | .int _=>(0:Int)
 | .bool=>false
 | .str=>[]
 | .sl _=>[]
 | .pair a b=>(a.zero,b.zero)
def idx (xs:ax α)(i:Int):az α:=
 match i with
 | .ofNat n=>xs[n]?
 | .negSucc _=>none
def afz (xs:ax α)(i' i:Int):az α:=if i'=i then idx xs i else none
theorem afA {xs:ax α}{i' i:Int}{x:α}(h:afz xs i' i=some x):i'=i/\idx xs i=some x:=by unfold afz at h;split at h;exact⟨by assumption,h⟩;cases h
def sub (xs:ax α)(lo hi:Int):az (ax α):=
 if 0<=lo/\lo<=hi/\hi<=(xs.length:Int) then some ((xs.take hi.toNat).drop lo.toNat) else none
def room {R:Type}(n:Nat)(k:az R):az R:=if n<=1073741824 then k else none
def aa {R:Type}(o:az α)(k:α->az R):az R:=
 match o with
 |some a=>k a
 |none=>none
def ajZ (o:az (Bool×α)):az (Bool×α):=aa o λr=>cond r.1 (some r) none
def aO (xs:bW):ax UInt8:=xs.map λn=>UInt8.ofNat n.toNat
def dy (s:ax UInt8):bW:=s.map λb=>(b.toNat:Int)
def Eo (ys:bW)(lo:Nat)(zs:bW):bW:=ys.take lo++(zs++ys.drop (lo+zs.length))
def bl {σ R:Type}(T:(σ->az R)->σ->az R):Nat->σ->az R
 |0,_=>none
 |n+1,x=>T (bl T n) x
theorem adN:∃n:Nat,1099511627776<=n:=⟨_,bj _⟩
noncomputable def fuel:Nat:=Classical.choose adN
theorem eS:1099511627776<=fuel:=Classical.choose_spec adN
end Go.Dn
