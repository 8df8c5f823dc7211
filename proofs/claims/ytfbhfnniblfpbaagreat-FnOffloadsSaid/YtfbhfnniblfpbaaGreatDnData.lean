import Derived.Test.YtfbhfnniblfpbaaGreatDnAl
/- Data, and the few partial operations on it. -/
namespace Go.Dn
variable {α:Type}
abbrev ar (x:Int):Int:=IntKind.wrap .i64 x
abbrev gR (x:Int):Int:=IntKind.wrap .u8 x
inductive CT where
 |int (k:IntKind)|bool|str|sl (e:CT)|pair (a b:CT)
 deriving DecidableEq
abbrev CT.D:CT->Type
 | .int _=>Int
 | .bool=>Bool
 | .str=>ax UInt8
 | .sl e=>ax e.D
 | .pair a b=>a.D×b.D
def CT.size:CT->Nat
 | .pair a b=>a.size+b.size
 |_=>1
def CT.flat:CT->Bool
 | .pair a b=>a.flat&&b.flat
 | .sl _=>false
 |_=>true
def CT.zero:(t:CT)->t.D
 | .int _=>(0:Int)
 | .bool=>false
 | .str=>[]
 | .sl _=>[]
 | .pair a b=>(a.zero,b.zero)
def idx (xs:ax α)(i:Int):aA α:=
 match i with
 | .ofNat n=>xs[n]?
 | .negSucc _=>none
def aes (xs:ax α)(i' i:Int):aA α:=if i'=i then idx xs i else none
theorem aet {xs:ax α}{i' i:Int}{x:α}(h:aes xs i' i=some x):i'=i/\idx xs i=some x:=by unfold aes at h;split at h;exact⟨by assumption,h⟩;cases h
def sub (xs:ax α)(lo hi:Int):aA (ax α):=
 if 0<=lo/\lo<=hi/\hi<=(xs.length:Int) then some ((xs.take hi.toNat).drop lo.toNat) else none
def room {R:Type}(n:Nat)(k:aA R):aA R:=if n<=1073741824 then k else none
def aa {R:Type}(o:aA α)(k:α->aA R):aA R:=
 match o with
 |some a=>k a
 |none=>none
def aik (o:aA (Bool×α)):aA (Bool×α):=aa o λr=>cond r.1 (some r) none
def aR (xs:dm):ax UInt8:=xs.map λn=>UInt8.ofNat n.toNat
def dW (s:ax UInt8):dm:=s.map λb=>(b.toNat:Int)
def FG (ys:dm)(lo:Nat)(zs:dm):dm:=ys.take lo++(zs++ys.drop (lo+zs.length))
def aZ {σ R:Type}(T:(σ->aA R)->σ->aA R):Nat->σ->aA R
 |0,_=>none
 |n+1,x=>T (aZ T n) x
theorem acY:∃n:Nat,1099511627776<=n:=⟨_,bc _⟩
noncomputable def fuel:Nat:=Classical.choose acY
theorem dD:1099511627776<=fuel:=Classical.choose_spec acY
end Go.Dn
