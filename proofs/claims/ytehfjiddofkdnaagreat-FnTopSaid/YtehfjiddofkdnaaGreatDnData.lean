import Derived.Test.YtehfjiddofkdnaaGreatDnAl
/- Data, and the few partial operations on it. -/
open Option renaming none->W
namespace Go.Dn
variable {α:Type}
abbrev V (x:Int):Int:=IntKind.wrap .i64 x
abbrev iQ (x:Int):Int:=IntKind.wrap .u8 x
inductive CT where
 |int (k:IntKind)|bool|str|sl (e:CT)|pair (a b:CT)
 deriving DecidableEq
abbrev CT.D:CT->Type
 | .int _=>Int
 | .bool=>Bool
 | .str=>Z UInt8
 | .sl e=>Z e.D
 | .pair a b=>a.D×b.D
def CT.size:CT->Nat
 | .pair a b=>a.size+b.size
 |_=>1
def CT.flat:CT->Bool
 | .pair a b=>a.flat&&b.flat
 | .sl _=>false
 |_=>true
def CT.zero:(t:CT)->t.D
 | .int _=>(0:Int)
 | .bool=>false
 | .str=>[]
 | .sl _=>[]
 | .pair a b=>(a.zero,b.zero)
def idx (a:Z α)(i:Int):=
 match i with
 | .ofNat n=>a[n]?
 | .negSucc _=>W
def acn (b:Z α)a i:=if a=i then idx b i else W
theorem aah (a:Z α)i:acn a i i=idx a i:=aI rfl
theorem al9 {b a i}{x:α}(h:acn b a i=some x):a=i/\idx b i=some x:=by unfold acn at h;split at h;exact⟨by assumption,h⟩;cases h
def sub (c:Z α)b a:=
 if 0<=b/\b<=a/\a<=(c.length:Int) then some ((c.take a.toNat).drop b.toNat) else W
def room {R:Type}n(k:aS R):=if n<=1073741824 then k else W
def U {R:Type}(o:aS α)(k:α->aS R):=
 match o with
 |some a=>k a
 |none=>W
def aZ (a:dw):Z UInt8:=a.map λn=>UInt8.ofNat n.toNat
def dU (s:Z UInt8):=s.map λb=>(b.toNat:Int)
def KB (b:dw)a zs:=b.take a++(zs++b.drop (a+zs.length))
def aQ {a R:Type}(T:(a->aS R)->a->aS R):Nat->a->aS R
 |0,_=>W
 |n+1,x=>T (aQ T n) x
theorem aki:∃n:Nat,1099511627776<=n:=⟨_,bq _⟩
noncomputable def fuel:=Classical.choose aki
theorem dB:1099511627776<=fuel:=Classical.choose_spec aki
end Go.Dn
