import Derived.Test.YtbebkmajekhclaaGreatDnAl
/- Data, and the few partial operations on it. -/
namespace Go.Dn
variable {α:Type}
abbrev ar (x:Int):Int:=IntKind.wrap .i64 x
abbrev iA (x:Int):Int:=IntKind.wrap .u8 x
inductive CT where
 |int (k:IntKind)|bool|str|sl (e:CT)|pair (a b:CT)
 deriving DecidableEq
abbrev CT.D:CT->Type
 | .int _=>Int
 | .bool=>Bool
 | .str=>aw UInt8
 | .sl e=>aw e.D
 | .pair a b=>a.D×b.D
def CT.size:CT->Nat
 | .pair a b=>a.size+b.size
 |_=>1
def CT.flat:CT->Bool
 | .pair a b=>a.flat&&b.flat
 | .sl _=>false
 |_=>true
def CT.zero:(t:CT)->t.D
 | .int _=>(0:Int)
 | .bool=>false
 | .str=>[]
 | .sl _=>[]
 | .pair a b=>(a.zero,b.zero)
def idx (xs:aw α)(i:Int):az α:=
 match i with
 | .ofNat n=>xs[n]?
 | .negSucc _=>none
def Zz (xs:aw α)(i' i:Int):az α:=if i'=i then idx xs i else none
theorem ahb (xs:aw α)(i:Int):Zz xs i i=idx xs i:=aI rfl
theorem ahc {xs:aw α}{i' i:Int}{x:α}(h:Zz xs i' i=some x):i'=i/\idx xs i=some x:=by unfold Zz at h;split at h;exact⟨by assumption,h⟩;cases h
def sub (xs:aw α)(lo hi:Int):az (aw α):=
 if 0<=lo/\lo<=hi/\hi<=(xs.length:Int) then some ((xs.take hi.toNat).drop lo.toNat) else none
def room {R:Type}(n:Nat)(k:az R):az R:=if n<=1073741824 then k else none
def aa {R:Type}(o:az α)(k:α->az R):az R:=
 match o with
 |some a=>k a
 |none=>none
def alG (o:az (Bool×α)):az (Bool×α):=aa o λr=>cond r.1 (some r) none
def bf (xs:bQ):aw UInt8:=xs.map λn=>UInt8.ofNat n.toNat
def fX (s:aw UInt8):bQ:=s.map λb=>(b.toNat:Int)
def LJ (ys:bQ)(lo:Nat)(zs:bQ):bQ:=ys.take lo++(zs++ys.drop (lo+zs.length))
def bh {σ R:Type}(T:(σ->az R)->σ->az R):Nat->σ->az R
 |0,_=>none
 |n+1,x=>T (bh T n) x
theorem afp:∃n:Nat,1099511627776<=n:=⟨_,bt _⟩
noncomputable def fuel:Nat:=Classical.choose afp
theorem fb:1099511627776<=fuel:=Classical.choose_spec afp
end Go.Dn
