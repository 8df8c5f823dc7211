import Derived.Test.YtbebkmajekhclaaGreatDnAl
/- Data, and the few partial operations on it. -/
namespace Go.Dn
variable {α:Type}
abbrev ar (x:Int):Int:=IntKind.wrap .i64 x
abbrev hY (x:Int):Int:=IntKind.wrap .u8 x
inductive CT where
 |int (k:IntKind)|bool|str|sl (e:CT)|pair (a b:CT)
 deriving DecidableEq
abbrev CT.D:CT->Type
 | .int _=>Int
 | .bool=>Bool
 | .str=>aw UInt8
 | .sl e=>aw e.D
 | .pair a b=>a.D×b.D
def CT.size:CT->Nat
 | .pair a b=>a.size+b.size
 |_=>1
def CT.flat:CT->Bool
 | .pair a b=>a.flat&&b.flat
 | .sl _=>false
 |_=>true
def CT.zero:(t:CT)->t.D
 | .int _=>(0:Int)
 | .bool=>false
 | .str=>[]
 | .sl _=>[]
 | .pair a b=>(a.zero,b.zero)
def idx (xs:aw α)(i:Int):aB α:=
 match i with
 | .ofNat n=>xs[n]?
 | .negSucc _=>none
def ag8 (xs:aw α)(i' i:Int):aB α:=if i'=i then idx xs i else none
theorem ag9 {xs:aw α}{i' i:Int}{x:α}(h:ag8 xs i' i=some x):i'=i/\idx xs i=some x:=by unfold ag8 at h;split at h;exact⟨by assumption,h⟩;cases h
def sub (xs:aw α)(lo hi:Int):aB (aw α):=
 if 0<=lo/\lo<=hi/\hi<=(xs.length:Int) then some ((xs.take hi.toNat).drop lo.toNat) else none
def room {R:Type}(n:Nat)(k:aB R):aB R:=if n<=1073741824 then k else none
def aa {R:Type}(o:aB α)(k:α->aB R):aB R:=
 match o with
 |some a=>k a
 |none=>none
def alD (o:aB (Bool×α)):aB (Bool×α):=aa o λr=>cond r.1 (some r) none
def aQ (xs:cc):aw UInt8:=xs.map λn=>UInt8.ofNat n.toNat
def dJ (s:aw UInt8):cc:=s.map λb=>(b.toNat:Int)
def EN (ys:cc)(lo:Nat)(zs:cc):cc:=ys.take lo++(zs++ys.drop (lo+zs.length))
def bj {σ R:Type}(T:(σ->aB R)->σ->aB R):Nat->σ->aB R
 |0,_=>none
 |n+1,x=>T (bj T n) x
theorem afg:∃n:Nat,1099511627776<=n:=⟨_,bc _⟩
noncomputable def fuel:Nat:=Classical.choose afg
theorem eX:1099511627776<=fuel:=Classical.choose_spec afg
end Go.Dn
