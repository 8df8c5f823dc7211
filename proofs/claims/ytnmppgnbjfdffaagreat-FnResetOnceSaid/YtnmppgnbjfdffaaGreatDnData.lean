import Derived.Test.YtnmppgnbjfdffaaGreatDnAl
/- Data, and the few partial operations on it. -/
namespace Go.Dn
variable {α:Type}
abbrev aq (x:Int):Int:=IntKind.wrap .i64 x
abbrev fS (x:Int):Int:=IntKind.wrap .u8 x
inductive CT where
 |int (k:IntKind)|bool|str|sl (e:CT)|pair (a b:CT)
 deriving DecidableEq
abbrev CT.D:CT->Type
 | .int _=>Int
 | .bool=>Bool
 | .str=>aw UInt8
 | .sl e=>aw e.D
 | .pair a b=>a.D×b.D
def CT.size:CT->Nat
 | .pair a b=>a.size+b.size
 |_=>1
def CT.flat:CT->Bool
 | .pair a b=>a.flat&&b.flat
 | .sl _=>false
 |_=>true
def CT.zero:(t:CT)->t.D
 | .int _=>(0:Int)
 | .bool=>false
 | .str=>[]
 | .sl _=>[]
 | .pair a b=>(a.zero,b.zero)
def idx (xs:aw α)(i:Int):ay α:=
 match i with
 | .ofNat n=>xs[n]?
 | .negSucc _=>none
def Xg (xs:aw α)(i' i:Int):ay α:=if i'=i then idx xs i else none
theorem Xh {xs:aw α}{i' i:Int}{x:α}(h:Xg xs i' i=some x):i'=i/\idx xs i=some x:=by unfold Xg at h;split at h;exact⟨by assumption,h⟩;cases h
def sub (xs:aw α)(lo hi:Int):ay (aw α):=
 if 0<=lo/\lo<=hi/\hi<=(xs.length:Int) then some ((xs.take hi.toNat).drop lo.toNat) else none
def room {R:Type}(n:Nat)(k:ay R):ay R:=if n<=1073741824 then k else none
def aa {R:Type}(o:ay α)(k:α->ay R):ay R:=
 match o with
 |some a=>k a
 |none=>none
def MP (o:ay (Bool×α)):ay (Bool×α):=aa o λr=>cond r.1 (some r) none
def aK (xs:cP):aw UInt8:=xs.map λn=>UInt8.ofNat n.toNat
def di (s:aw UInt8):cP:=s.map λb=>(b.toNat:Int)
def zH (ys:cP)(lo:Nat)(zs:cP):cP:=ys.take lo++(zs++ys.drop (lo+zs.length))
def aW {σ R:Type}(T:(σ->ay R)->σ->ay R):Nat->σ->ay R
 |0,_=>none
 |n+1,x=>T (aW T n) x
theorem VM:∃n:Nat,1099511627776<=n:=⟨_,aS _⟩
noncomputable def fuel:Nat:=Classical.choose VM
theorem dR:1099511627776<=fuel:=Classical.choose_spec VM
end Go.Dn
