import Derived.Test.YtfbhfnniblfpbaaGreatDnAl
/- Data, and the few partial operations on it. -/
namespace Go.Dn
variable {α:Type}
abbrev ak (x:Int):Int:=IntKind.wrap .i64 x
abbrev gh (x:Int):Int:=IntKind.wrap .u8 x
inductive CT where
 |int (k:IntKind)|bool|str|sl (e:CT)|pair (a b:CT)
 deriving DecidableEq
abbrev CT.D:CT->Type
 | .int _=>Int
 | .bool=>Bool
 | .str=>au UInt8
 | .sl e=>au e.D
 | .pair a b=>a.D×b.D
def CT.size:CT->Nat
 | .pair a b=>a.size+b.size
 |_=>1
def CT.flat:CT->Bool
 | .pair a b=>a.flat&&b.flat
 | .sl _=>false
 |_=>true
def CT.zero:(t:CT)->t.D
 | .int _=>(0:Int)
 | .bool=>false
 | .str=>[]
 | .sl _=>[]
 | .pair a b=>(a.zero,b.zero)
def idx (xs:au α)(i:Int):ax α:=
 match i with
 | .ofNat n=>xs[n]?
 | .negSucc _=>none
def aaJ (xs:au α)(i' i:Int):ax α:=if i'=i then idx xs i else none
theorem aaK {xs:au α}{i' i:Int}{x:α}(h:aaJ xs i' i=some x):i'=i/\idx xs i=some x:=by unfold aaJ at h;split at h;exact⟨by assumption,h⟩;cases h
def sub (xs:au α)(lo hi:Int):ax (au α):=
 if 0<=lo/\lo<=hi/\hi<=(xs.length:Int) then some ((xs.take hi.toNat).drop lo.toNat) else none
def room {R:Type}(n:Nat)(k:ax R):ax R:=if n<=1073741824 then k else none
def aa {R:Type}(o:ax α)(k:α->ax R):ax R:=
 match o with
 |some a=>k a
 |none=>none
def ad8 (o:ax (Bool×α)):ax (Bool×α):=aa o λr=>cond r.1 (some r) none
def aK (xs:cL):au UInt8:=xs.map λn=>UInt8.ofNat n.toNat
def dq (s:au UInt8):cL:=s.map λb=>(b.toNat:Int)
def Dq (ys:cL)(lo:Nat)(zs:cL):cL:=ys.take lo++(zs++ys.drop (lo+zs.length))
def aM {σ R:Type}(T:(σ->ax R)->σ->ax R):Nat->σ->ax R
 |0,_=>none
 |n+1,x=>T (aM T n) x
theorem Zj:∃n:Nat,1099511627776<=n:=⟨_,aU _⟩
noncomputable def fuel:Nat:=Classical.choose Zj
theorem cU:1099511627776<=fuel:=Classical.choose_spec Zj
end Go.Dn
