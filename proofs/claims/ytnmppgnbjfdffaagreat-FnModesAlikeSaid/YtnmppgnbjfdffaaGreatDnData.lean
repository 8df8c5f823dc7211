import Derived.Test.YtnmppgnbjfdffaaGreatDnAl
/- Data, and the few partial operations on it. -/
namespace Go.Dn
variable {α:Type}
abbrev au (x:Int):Int:=IntKind.wrap .i64 x
abbrev gF (x:Int):Int:=IntKind.wrap .u8 x
inductive CT where
 |int (k:IntKind)|bool|str|sl (e:CT)|pair (a b:CT)
 deriving DecidableEq
abbrev CT.D:CT->Type
 | .int _=>Int
 | .bool=>Bool
 | .str=>ay UInt8
 | .sl e=>ay e.D
 | .pair a b=>a.D×b.D
def CT.size:CT->Nat
 | .pair a b=>a.size+b.size
 |_=>1
def CT.flat:CT->Bool
 | .pair a b=>a.flat&&b.flat
 | .sl _=>false
 |_=>true
def CT.zero:(t:CT)->t.D
 | .int _=>(0:Int)
 | .bool=>false
 | .str=>[]
 | .sl _=>[]
 | .pair a b=>(a.zero,b.zero)
def idx (xs:ay α)(i:Int):aC α:=
 match i with
 | .ofNat n=>xs[n]?
 | .negSucc _=>none
def aaW (xs:ay α)(i' i:Int):aC α:=if i'=i then idx xs i else none
theorem aaX {xs:ay α}{i' i:Int}{x:α}(h:aaW xs i' i=some x):i'=i/\idx xs i=some x:=by unfold aaW at h;split at h;exact⟨by assumption,h⟩;cases h
def sub (xs:ay α)(lo hi:Int):aC (ay α):=
 if 0<=lo/\lo<=hi/\hi<=(xs.length:Int) then some ((xs.take hi.toNat).drop lo.toNat) else none
def room {R:Type}(n:Nat)(k:aC R):aC R:=if n<=1073741824 then k else none
def aa {R:Type}(o:aC α)(k:α->aC R):aC R:=
 match o with
 |some a=>k a
 |none=>none
def ae3 (o:aC (Bool×α)):aC (Bool×α):=aa o λr=>cond r.1 (some r) none
def aO (xs:dB):ay UInt8:=xs.map λn=>UInt8.ofNat n.toNat
def dL (s:ay UInt8):dB:=s.map λb=>(b.toNat:Int)
def Cm (ys:dB)(lo:Nat)(zs:dB):dB:=ys.take lo++(zs++ys.drop (lo+zs.length))
def bt {σ R:Type}(T:(σ->aC R)->σ->aC R):Nat->σ->aC R
 |0,_=>none
 |n+1,x=>T (bt T n) x
theorem Zs:∃n:Nat,1099511627776<=n:=⟨_,aV _⟩
noncomputable def fuel:Nat:=Classical.choose Zs
theorem eS:1099511627776<=fuel:=Classical.choose_spec Zs
end Go.Dn
