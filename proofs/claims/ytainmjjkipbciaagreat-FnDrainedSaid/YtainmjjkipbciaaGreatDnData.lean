import Derived.Test.YtainmjjkipbciaaGreatDnAl
/- Data, and the few partial operations on it. -/
namespace Go.Dn
variable {α:Type}
abbrev aq (x:Int):Int:=IntKind.wrap .i64 x
abbrev gx (x:Int):Int:=IntKind.wrap .u8 x
inductive CT where
 |int (k:IntKind)|bool|str|sl (e:CT)|pair (a b:CT)
 deriving DecidableEq
abbrev CT.D:CT->Type
 | .int _=>Int
 | .bool=>Bool
 | .str=>ax UInt8
 | .sl e=>ax e.D
 | .pair a b=>a.D×b.D
def CT.size:CT->Nat
 | .pair a b=>a.size+b.size
 |_=>1
def CT.flat:CT->Bool
 | .pair a b=>a.flat&&b.flat
 | .sl _=>false
 |_=>true
def CT.zero:(t:CT)->t.D
 | .int _=>(0:Int)
 | .bool=>false
 | .str=>[]
 | .sl _=>[]
 | .pair a b=>(a.zero,b.zero)
def idx (xs:ax α)(i:Int):aB α:=
 match i with
 | .ofNat n=>xs[n]?
 | .negSucc _=>none
def Wp (xs:ax α)(i' i:Int):aB α:=if i'=i then idx xs i else none
theorem Wq {xs:ax α}{i' i:Int}{x:α}(h:Wp xs i' i=some x):i'=i/\idx xs i=some x:=by unfold Wp at h;split at h;exact⟨by assumption,h⟩;cases h
def sub (xs:ax α)(lo hi:Int):aB (ax α):=
 if 0<=lo/\lo<=hi/\hi<=(xs.length:Int) then some ((xs.take hi.toNat).drop lo.toNat) else none
def room {R:Type}(n:Nat)(k:aB R):aB R:=if n<=1073741824 then k else none
def aa {R:Type}(o:aB α)(k:α->aB R):aB R:=
 match o with
 |some a=>k a
 |none=>none
def Mh (o:aB (Bool×α)):aB (Bool×α):=aa o λr=>cond r.1 (some r) none
def aM (xs:dC):ax UInt8:=xs.map λn=>UInt8.ofNat n.toNat
def dD (s:ax UInt8):dC:=s.map λb=>(b.toNat:Int)
def zL (ys:dC)(lo:Nat)(zs:dC):dC:=ys.take lo++(zs++ys.drop (lo+zs.length))
def bm {σ R:Type}(T:(σ->aB R)->σ->aB R):Nat->σ->aB R
 |0,_=>none
 |n+1,x=>T (bm T n) x
theorem U6:∃n:Nat,1099511627776<=n:=⟨_,aR _⟩
noncomputable def fuel:Nat:=Classical.choose U6
theorem eO:1099511627776<=fuel:=Classical.choose_spec U6
end Go.Dn
