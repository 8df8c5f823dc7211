import Derived.Test.YtnmppgnbjfdffaaGreatDnAl
/- Data, and the few partial operations on it. -/
namespace Go.Dn
variable {α:Type}
abbrev au (x:Int):Int:=IntKind.wrap .i64 x
abbrev fU (x:Int):Int:=IntKind.wrap .u8 x
inductive CT where
 |int (k:IntKind)|bool|str|sl (e:CT)|pair (a b:CT)
 deriving DecidableEq
abbrev CT.D:CT->Type
 | .int _=>Int
 | .bool=>Bool
 | .str=>aw UInt8
 | .sl e=>aw e.D
 | .pair a b=>a.D×b.D
def CT.size:CT->Nat
 | .pair a b=>a.size+b.size
 |_=>1
def CT.flat:CT->Bool
 | .pair a b=>a.flat&&b.flat
 | .sl _=>false
 |_=>true
def CT.zero:(t:CT)->t.D
 | .int _=>(0:Int)
 | .bool=>false
 | .str=>[]
 | .sl _=>[]
 | .pair a b=>(a.zero,b.zero)
def idx (xs:aw α)(i:Int):ax α:=
 match i with
 | .ofNat n=>xs[n]?
 | .negSucc _=>none
def YB (xs:aw α)(i' i:Int):ax α:=if i'=i then idx xs i else none
theorem YC {xs:aw α}{i' i:Int}{x:α}(h:YB xs i' i=some x):i'=i/\idx xs i=some x:=by unfold YB at h;split at h;exact⟨by assumption,h⟩;cases h
def sub (xs:aw α)(lo hi:Int):ax (aw α):=
 if 0<=lo/\lo<=hi/\hi<=(xs.length:Int) then some ((xs.take hi.toNat).drop lo.toNat) else none
def room {R:Type}(n:Nat)(k:ax R):ax R:=if n<=1073741824 then k else none
def aa {R:Type}(o:ax α)(k:α->ax R):ax R:=
 match o with
 |some a=>k a
 |none=>none
def NP (o:ax (Bool×α)):ax (Bool×α):=aa o λr=>cond r.1 (some r) none
def aJ (xs:cw):aw UInt8:=xs.map λn=>UInt8.ofNat n.toNat
def dj (s:aw UInt8):cw:=s.map λb=>(b.toNat:Int)
def Az (ys:cw)(lo:Nat)(zs:cw):cw:=ys.take lo++(zs++ys.drop (lo+zs.length))
def aX {σ R:Type}(T:(σ->ax R)->σ->ax R):Nat->σ->ax R
 |0,_=>none
 |n+1,x=>T (aX T n) x
theorem W5:∃n:Nat,1099511627776<=n:=⟨_,aU _⟩
noncomputable def fuel:Nat:=Classical.choose W5
theorem dR:1099511627776<=fuel:=Classical.choose_spec W5
end Go.Dn
