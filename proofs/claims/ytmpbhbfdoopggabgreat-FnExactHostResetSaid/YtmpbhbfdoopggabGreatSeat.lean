import Derived.Test.YtmpbhbfdoopggabGreatDnSig
import Derived.Test.YtmpbhbfdoopggabGreatPure
import Derived.Test.YtmpbhbfdoopggabGreatRows
/- Each function of the program is its pure function (made by gen.py). -/
namespace Go.Proofs.YtmpbhbfdoopggabGreat.Fn
open Go.Dn
open Go.Pu (ar jx aU bG aY aP ed nS aA aJ bV bR ft Eo J6 a9 cL bm az a8 dn Bx O4 Qo)
set_option maxRecDepth 100000
set_option linter.unusedVariables false
noncomputable section
abbrev B:PD:= .bot
abbrev DI:PD:= .data false (.int .i64)
abbrev DB:PD:= .data false .bool
abbrev Z:Option FT:=none
theorem nF {p:Code→Prop}:∀x∈([]:List Code),p x:=fun _ h=>nomatch h
theorem cF {p:Code→Prop}{a:Code}{l:List Code}(h:p a)(t:∀x∈l,p x):∀x∈a::l,p x:=List.forall_mem_cons.2 ⟨h,t⟩
theorem hF {p:Code→Prop}{l m:List Code}(e:l=m)(h:∀x∈m,p x):∀x∈l,p x:=e▸h
theorem fk {P:Program}{E:Env}{Γ:aM}{s:List PS}{rs:List (Bool×FT)}{F:uH s→Option (ej rs)}{f:Nat}{fn:Func}(an:An)(hS:Sound P E Γ)(hf:P.funcs[f]?=some fn){Λ:aS}{l:List Code}(h:∀c∈l,cC E Γ an Λ c)(hn:(fn.name== "runtime.NumGoroutine")=false:=by kernel_rfl)(hl:cR (fn.body.getD .skip)=l:=by kernel_rfl)(hF:∀a,Dj E Γ an Λ fn rs (ga s a)=F a:=by intro a;kernel_rfl):aj P f (af s rs F):=aj.of (Xa hS hf hn (Fn.hF hl h)) hF
@[reducible] def pd (t:CT):PS:= .data false t
@[reducible] def pf (t:CT):PS:= .data true t
@[reducible] def pI:PS:= .data false (.int .i64)
@[reducible] def rB:Bool×FT:=(false,.bool)
@[reducible] def rI:Bool×FT:=(false,.int .i64)
@[reducible] def rS:Bool×FT:=(false,.str)
@[reducible] def bs:Nat→List PD→List PD|0,l=>l|n+1,l=> .bot::bs n l
@[reducible] def zs:Nat→List (Option FT)→List (Option FT)|0,l=>l|n+1,l=>none::zs n l
def mk (l:List (Nat×List Nat))(n:Nat):List Nat:=(l.lookup n).getD []
def mg (l:List (Nat×Nat))(n:Nat):Option Nat:=l.lookup n
def ke {R:Type}(n:Nat)(K:Ex→AS→Option R)(d:SD)(x:SD.D d):Option R:=K (.exit n) (SD.enc d x)
def kr {R:Type}(K:Ex→AS→Option R)(d:SD)(x:SD.D d):Option R:=K .ret (SD.enc d x)
def cI {σ:Type}(d:SD)(t:{R:Type}→SD.D d→(Ex→AS→Option R)→(σ→Option R)→σ→Option R)(i:SD.D d→σ):aO:=⟨d,fun X K=>aq (t X K) fuel (i X)⟩
theorem lk {E:Env}{Γ:aM}{an:An}{Λ:aS}{c:Code}{σ:Type}(d:SD)(t:{R:Type}→SD.D d→(Ex→AS→Option R)→(σ→Option R)→σ→Option R)(i:SD.D d→σ)(w:SD.D d→σ→SD.D d)(h1:Λ (cA c)=cI d t i:=by kernel_rfl)(h:∀(R:Type)(X:SD.D d)(K:Ex→AS→Option R)(m:Nat)(x:σ),sQ (an.mask (cA c)) (den E Γ an Λ c) (m+1) (SD.enc d (w X x)) K=t X K (fun y=>sQ (an.mask (cA c)) (den E Γ an Λ c) m (SD.enc d (w X y)) K) x:=by intro R X K m x;kernel_rfl)(hw:∀X,w X (i X)=X:=by intro X;kernel_rfl):cC E Γ an Λ c:=lok (cI d t i) h1 fuel fun R X K=>(BX (fun x=>SD.enc d (w X x)) (t X K) (h R X K) fuel (i X)).symm.trans (congrArg (fun y=>sQ (an.mask (cA c)) (den E Γ an Λ c) fuel (SD.enc d y) K) (hw X))
def u {A B:Type}(y:A)(x:A×B):A×B:=(y,x.2)
def w {A B:Type}(y:A)(f:B→B)(x:A×B):A×B:=(y,f x.2)
def z1 {A0 B:Type}(f:B→B)(x:A0×B):A0×B:=(x.1,f x.2)
def z2 {A0 A1 B:Type}(f:B→B)(x:A0×A1×B):A0×A1×B:=(x.1,x.2.1,f x.2.2)
def z3 {A0 A1 A2 B:Type}(f:B→B)(x:A0×A1×A2×B):A0×A1×A2×B:=(x.1,x.2.1,x.2.2.1,f x.2.2.2)
def z4 {A0 A1 A2 A3 B:Type}(f:B→B)(x:A0×A1×A2×A3×B):A0×A1×A2×A3×B:=(x.1,x.2.1,x.2.2.1,x.2.2.2.1,f x.2.2.2.2)
def z5 {A0 A1 A2 A3 A4 B:Type}(f:B→B)(x:A0×A1×A2×A3×A4×B):A0×A1×A2×A3×A4×B:=(x.1,x.2.1,x.2.2.1,x.2.2.2.1,x.2.2.2.2.1,f x.2.2.2.2.2)
def z6 {A0 A1 A2 A3 A4 A5 B:Type}(f:B→B)(x:A0×A1×A2×A3×A4×A5×B):A0×A1×A2×A3×A4×A5×B:=(x.1,x.2.1,x.2.2.1,x.2.2.2.1,x.2.2.2.2.1,x.2.2.2.2.2.1,f x.2.2.2.2.2.2)
def z7 {A0 A1 A2 A3 A4 A5 A6 B:Type}(f:B→B)(x:A0×A1×A2×A3×A4×A5×A6×B):A0×A1×A2×A3×A4×A5×A6×B:=(x.1,x.2.1,x.2.2.1,x.2.2.2.1,x.2.2.2.2.1,x.2.2.2.2.2.1,x.2.2.2.2.2.2.1,f x.2.2.2.2.2.2.2)
def q2 {A0 A1 A2 B C:Type}(x:(A0×A1×A2×B)×C):A2:=x.1.2.2.1
def q3 {A0 A1 A2 A3 B C:Type}(x:(A0×A1×A2×A3×B)×C):A3:=x.1.2.2.2.1
def q4 {A0 A1 A2 A3 A4 B C:Type}(x:(A0×A1×A2×A3×A4×B)×C):A4:=x.1.2.2.2.2.1
def q5 {A0 A1 A2 A3 A4 A5 B C:Type}(x:(A0×A1×A2×A3×A4×A5×B)×C):A5:=x.1.2.2.2.2.2.1
def q6 {A0 A1 A2 A3 A4 A5 A6 B C:Type}(x:(A0×A1×A2×A3×A4×A5×A6×B)×C):A6:=x.1.2.2.2.2.2.2.1
def q7 {A0 A1 A2 A3 A4 A5 A6 A7 B C:Type}(x:(A0×A1×A2×A3×A4×A5×A6×A7×B)×C):A7:=x.1.2.2.2.2.2.2.2.1
def q8 {A0 A1 A2 A3 A4 A5 A6 A7 A8 B C:Type}(x:(A0×A1×A2×A3×A4×A5×A6×A7×A8×B)×C):A8:=x.1.2.2.2.2.2.2.2.2.1
def q9 {A0 A1 A2 A3 A4 A5 A6 A7 A8 A9 B C:Type}(x:(A0×A1×A2×A3×A4×A5×A6×A7×A8×A9×B)×C):A9:=x.1.2.2.2.2.2.2.2.2.2.1
def c1 {A0 B R:Type}(f:A0→R)(a:A0×B):R:=f a.1
def c2 {A0 A1 B R:Type}(f:A0→A1→R)(a:A0×A1×B):R:=f a.1 a.2.1
def c3 {A0 A1 A2 B R:Type}(f:A0→A1→A2→R)(a:A0×A1×A2×B):R:=f a.1 a.2.1 a.2.2.1
def c4 {A0 A1 A2 A3 B R:Type}(f:A0→A1→A2→A3→R)(a:A0×A1×A2×A3×B):R:=f a.1 a.2.1 a.2.2.1 a.2.2.2.1
def c5 {A0 A1 A2 A3 A4 B R:Type}(f:A0→A1→A2→A3→A4→R)(a:A0×A1×A2×A3×A4×B):R:=f a.1 a.2.1 a.2.2.1 a.2.2.2.1 a.2.2.2.2.1
def c6 {A0 A1 A2 A3 A4 A5 B R:Type}(f:A0→A1→A2→A3→A4→A5→R)(a:A0×A1×A2×A3×A4×A5×B):R:=f a.1 a.2.1 a.2.2.1 a.2.2.2.1 a.2.2.2.2.1 a.2.2.2.2.2.1
def c7 {A0 A1 A2 A3 A4 A5 A6 B R:Type}(f:A0→A1→A2→A3→A4→A5→A6→R)(a:A0×A1×A2×A3×A4×A5×A6×B):R:=f a.1 a.2.1 a.2.2.1 a.2.2.2.1 a.2.2.2.2.1 a.2.2.2.2.2.1 a.2.2.2.2.2.2.1
theorem f0 {P:Program}{E:Env}{Γ:aM}{s:List PS}{rs:List (Bool×FT)}{F:uH s→Option (ej rs)}{f:Nat}{fn:Func}(an:An)(hS:Sound P E Γ)(hf:P.funcs[f]?=some fn)(hn:(fn.name== "runtime.NumGoroutine")=false:=by kernel_rfl)(hl:cR (fn.body.getD .skip)=[]:=by kernel_rfl)(hF:∀a,Dj E Γ an aS.nil fn rs (ga s a)=F a:=by intro a;kernel_rfl):aj P f (af s rs F):=aj.of (Xa hS hf hn (Fn.hF hl nF)) hF
@[reducible] def Uw:FT:= .pair (.int .i64) (.pair (.int .i64) (.int .i64))
@[reducible] def Y1:FT:= .pair (.int .i64) Uw
@[reducible] def Y0:FT:= .pair (.sl (.own (some 24577)) .str) (.pair (.sl (.own (some 24580)) ar) (.pair (.pair Y1 (.pair (.pair (.int .i64) (.pair (.int .i64) (.pair (.int .i64) (.sl (.own (some 24604)) (.int .i64))))) (.pair (.sl (.own (some 24607)) bG) (.int .i64)))) (.pair (.sl (.own (some 24613)) aA) (.pair (.sl (.own (some 24616)) aU) (.pair (.sl (.own (some 24619)) aJ) (.pair (.sl (.own (some 24622)) .bool) (.pair (.pair (.int .i64) (.pair .bool (.sl (.own (some 24631)) (.int .i64)))) (.pair (.pair (.sl (.own (some 24634)) bR) (.pair (.sl (.own (some 24637)) a9) (.pair .str (.sl (.own (some 24643)) (.int .i64))))) (.pair (.sl (.own (some 24646)) az) (.pair .bool (.pair (.sl (.own (some 24652)) .str) (.pair (.sl (.own (some 24655)) (.int .i64)) (.pair (.sl (.own (some 24658)) (.int .i64)) (.pair (.int .i64) Y1))))))))))))))
@[reducible] def VK:FT:= .pair (.int .i64) (.pair (.int .i64) (.pair (.int .i64) (.sl .arg (.int .i64))))
@[reducible] def Y15:FT:= .pair Y1 (.pair VK (.pair (.sl .arg bG) (.int .i64)))
@[reducible] def VL:FT:= .pair (.sl .arg bR) (.pair (.sl .arg a9) (.pair .str (.sl .arg (.int .i64))))
@[reducible] def Y2:FT:= .pair (.sl .arg .str) (.pair (.sl .arg ar) (.pair Y15 (.pair (.sl .arg aA) (.pair (.sl .arg aU) (.pair (.sl .arg aJ) (.pair (.sl .arg .bool) (.pair (.pair (.int .i64) (.pair .bool (.sl .arg (.int .i64)))) (.pair VL (.pair (.sl .arg az) (.pair .bool (.pair (.sl .arg .str) (.pair (.sl .arg (.int .i64)) (.pair (.sl .arg (.int .i64)) (.pair (.int .i64) Y1))))))))))))))
@[reducible] def Y3:FT:= .pair (.sl (.own (some 36865)) .str) (.pair (.sl (.own (some 36868)) ar) (.pair (.pair Y1 (.pair (.pair (.int .i64) (.pair (.int .i64) (.pair (.int .i64) (.sl (.own (some 36892)) (.int .i64))))) (.pair (.sl (.own (some 36895)) bG) (.int .i64)))) (.pair (.sl (.own (some 36901)) aA) (.pair (.sl (.own (some 36904)) aU) (.pair (.sl (.own (some 36907)) aJ) (.pair (.sl (.own (some 36910)) .bool) (.pair (.pair (.int .i64) (.pair .bool (.sl (.own (some 36919)) (.int .i64)))) (.pair (.pair (.sl (.own (some 36922)) bR) (.pair (.sl (.own (some 36925)) a9) (.pair .str (.sl (.own (some 36931)) (.int .i64))))) (.pair (.sl (.own (some 36934)) az) (.pair .bool (.pair (.sl (.own (some 36940)) .str) (.pair (.sl (.own (some 36943)) (.int .i64)) (.pair (.sl (.own (some 36946)) (.int .i64)) (.pair (.int .i64) Y1))))))))))))))
@[reducible] def Y23:FT:= .pair (.int .i64) (.pair (.int .i64) (.pair (.int .i64) (.pair (.int .i64) .str)))
@[reducible] def Y7:FT:= .pair (.int .i64) (.pair (.int .i64) Y23)
@[reducible] def Y9:FT:= .pair (.int .i64) (.pair (.int .i64) (.pair (.int .i64) (.pair (.int .i64) (.pair (.int .i64) (.pair (.int .i64) (.pair (.int .i64) (.pair (.int .i64) (.pair (.int .i64) Y7))))))))
@[reducible] def Y4:FT:= .pair Y1 (.pair Uw (.pair Uw (.pair (.pair Y9 (.pair (.int .i64) (.int .i64))) (.pair .bool (.int .i64)))))
@[reducible] def Y6:FT:= .pair (.int .i64) (.pair (.int .i64) (.pair (.int .i64) (.sl (.own none) (.int .i64))))
@[reducible] def Uv:FT:= .pair Y1 (.pair Y6 (.pair (.sl (.own none) bG) (.int .i64)))
@[reducible] def Y14:FT:= .pair (.int .i64) (.pair .bool (.sl (.own none) (.int .i64)))
@[reducible] def Y12:FT:= .pair (.sl (.own none) bR) (.pair (.sl (.own none) a9) (.pair .str (.sl (.own none) (.int .i64))))
@[reducible] def Y5:FT:= .pair (.sl (.own none) .str) (.pair (.sl (.own none) ar) (.pair Uv (.pair (.sl (.own none) aA) (.pair (.sl (.own none) aU) (.pair (.sl (.own none) aJ) (.pair (.sl (.own none) .bool) (.pair Y14 (.pair Y12 (.pair (.sl (.own none) az) (.pair .bool (.pair (.sl (.own none) .str) (.pair (.sl (.own none) (.int .i64)) (.pair (.sl (.own none) (.int .i64)) (.pair (.int .i64) Y1))))))))))))))
@[reducible] def Y8:FT:= .pair (.sl (.own (some 36865)) .str) (.pair (.sl (.own (some 36868)) ar) (.pair (.pair Y1 (.pair (.pair (.int .i64) (.pair (.int .i64) (.pair (.int .i64) (.sl (.own (some 36892)) (.int .i64))))) (.pair (.sl (.own (some 36895)) bG) (.int .i64)))) (.pair (.sl (.own (some 36901)) aA) (.pair (.sl (.own (some 36904)) aU) (.pair (.sl .arg aJ) (.pair (.sl .arg .bool) (.pair (.pair (.int .i64) (.pair .bool (.sl .arg (.int .i64)))) (.pair VL (.pair (.sl .arg az) (.pair .bool (.pair (.sl .arg .str) (.pair (.sl .arg (.int .i64)) (.pair (.sl .arg (.int .i64)) (.pair (.int .i64) Y1))))))))))))))
@[reducible] def Y16:FT:= .pair (.int .i64) (.pair (.int .i64) (.pair (.int .i64) (.sl (.own (some 245770)) (.int .i64))))
@[reducible] def Y17:FT:= .pair (.int .i64) (.pair (.int .i64) (.pair (.int .i64) (.sl (.own (some 196618)) (.int .i64))))
@[reducible] def Y18:FT:= .pair (.int .i64) (.pair (.int .i64) (.pair (.int .i64) (.sl (.own (some 184330)) (.int .i64))))
@[reducible] def Y19:FT:= .pair (.int .i64) (.pair (.int .i64) (.pair (.int .i64) (.sl (.own (some 147466)) (.int .i64))))
@[reducible] def Y21:FT:= .pair (.int .i64) (.pair (.int .i64) (.pair (.int .i64) (.sl (.own (some 98314)) (.int .i64))))
@[reducible] def Y22:FT:= .pair (.int .i64) (.pair (.int .i64) (.pair (.int .i64) (.sl (.own (some 73738)) (.int .i64))))
@[reducible] def Y24:FT:= .pair (.int .i64) (.pair (.int .i64) (.pair (.int .i64) .bool))
def E:Env:={ty:=[(3,⟨false,(.int .i64),[]⟩),(4,⟨false,.bool,[]⟩),(5,⟨false,(.int .u8),[]⟩),(9,⟨false,.str,[]⟩),(22,⟨false,(.sl .str),[(9,0)]⟩),(24,⟨true,(.sl .str),[(0,1)]⟩),(25,⟨false,(.sl ar),[(207,0)]⟩),(27,⟨true,jx,[(0,1),(1,1),(2,1),(3,1)]⟩),(28,⟨false,(.sl (.int .i64)),[(3,0)]⟩),(30,⟨true,aU,[(0,1),(1,1),(2,1),(3,1)]⟩),(31,⟨false,(.sl bG),[(247,0)]⟩),(33,⟨true,aY,[(0,4),(4,4),(8,1),(9,1)]⟩),(34,⟨false,(.sl aA),[(167,0)]⟩),(35,⟨false,(.sl aU),[(30,0)]⟩),(36,⟨false,(.sl aJ),[(213,0)]⟩),(37,⟨false,(.sl .bool),[(4,0)]⟩),(39,⟨true,bV,[(0,1),(1,1),(2,1)]⟩),(40,⟨false,(.sl bR),[(283,0)]⟩),(41,⟨false,(.sl a9),[(319,0)]⟩),(43,⟨true,(.sl a9),[(0,1)]⟩),(45,⟨true,cL,[(0,1),(1,1)]⟩),(47,⟨true,bm,[(0,1),(1,1),(2,2)]⟩),(48,⟨false,(.sl az),[(175,0)]⟩),(50,⟨true,ft,[(0,1),(1,1),(2,1),(3,1),(4,1)]⟩),(52,⟨true,a8,[(0,1),(1,1),(2,10),(12,1),(13,1),(14,1),(15,1),(16,3),(19,4),(23,1),(24,1),(25,1),(26,1),(27,1),(28,5)]⟩),(54,⟨true,(.sl .str),[(0,1)]⟩),(55,⟨false,(.sl ar),[(205,0)]⟩),(56,⟨true,jx,[(0,1),(1,1),(2,1),(3,1)]⟩),(57,⟨true,aU,[(0,1),(1,1),(2,1),(3,1)]⟩),(58,⟨false,(.sl bG),[(107,0)]⟩),(60,⟨true,aY,[(0,4),(4,4),(8,1),(9,1)]⟩),(61,⟨false,(.sl aA),[(103,0)]⟩),(62,⟨false,(.sl aU),[(57,0)]⟩),(63,⟨false,(.sl aJ),[(112,0)]⟩),(64,⟨true,bV,[(0,1),(1,1),(2,1)]⟩),(65,⟨false,(.sl bR),[(255,0)]⟩),(66,⟨false,(.sl a9),[(257,0)]⟩),(68,⟨true,(.sl a9),[(0,1)]⟩),(69,⟨true,cL,[(0,1),(1,1)]⟩),(71,⟨true,bm,[(0,1),(1,1),(2,2)]⟩),(72,⟨false,(.sl az),[(219,0)]⟩),(73,⟨true,ft,[(0,1),(1,1),(2,1),(3,1),(4,1)]⟩),(75,⟨true,a8,[(0,1),(1,1),(2,10),(12,1),(13,1),(14,1),(15,1),(16,3),(19,4),(23,1),(24,1),(25,1),(26,1),(27,1),(28,5)]⟩),(95,⟨true,aP,[(0,1),(1,1),(2,1)]⟩),(97,⟨true,dn,[(0,1),(1,1),(2,1),(3,1),(4,1),(5,1),(6,1),(7,1)]⟩),(99,⟨true,ed,[(0,1),(1,1),(2,1),(3,1),(4,1),(5,1),(6,1),(7,1),(8,8)]⟩),(101,⟨true,nS,[(0,16),(16,1),(17,1)]⟩),(103,⟨true,aA,[(0,4),(4,3),(7,3),(10,18),(28,1),(29,1)]⟩),(107,⟨true,bG,[(0,1),(1,1),(2,1)]⟩),(112,⟨true,aJ,[(0,1),(1,1),(2,1),(3,1),(4,1),(5,1)]⟩),(160,⟨true,aP,[(0,1),(1,1),(2,1)]⟩),(161,⟨true,dn,[(0,1),(1,1),(2,1),(3,1),(4,1),(5,1),(6,1),(7,1)]⟩),(163,⟨true,ed,[(0,1),(1,1),(2,1),(3,1),(4,1),(5,1),(6,1),(7,1),(8,8)]⟩),(165,⟨true,nS,[(0,16),(16,1),(17,1)]⟩),(167,⟨true,aA,[(0,4),(4,3),(7,3),(10,18),(28,1),(29,1)]⟩),(173,⟨true,ft,[(0,1),(1,1),(2,1),(3,1),(4,1)]⟩),(175,⟨true,az,[(0,5),(5,1),(6,1),(7,1)]⟩),(191,⟨true,ft,[(0,1),(1,1),(2,1),(3,1),(4,1)]⟩),(205,⟨true,ar,[(0,1),(1,1),(2,1),(3,1)]⟩),(207,⟨true,ar,[(0,1),(1,1),(2,1),(3,1)]⟩),(213,⟨true,aJ,[(0,1),(1,1),(2,1),(3,1),(4,1),(5,1)]⟩),(217,⟨true,ft,[(0,1),(1,1),(2,1),(3,1),(4,1)]⟩),(219,⟨true,az,[(0,5),(5,1),(6,1),(7,1)]⟩),(224,⟨false,(.sl (.int .u8)),[(5,0)]⟩),(228,⟨true,Bx,[(0,1),(1,1),(2,1),(3,1),(4,1),(5,1)]⟩),(247,⟨true,bG,[(0,1),(1,1),(2,1)]⟩),(255,⟨true,bR,[(0,1),(1,1),(2,1),(3,1),(4,1),(5,1),(6,1),(7,1),(8,1)]⟩),(257,⟨true,a9,[(0,1),(1,5),(6,1)]⟩),(267,⟨true,O4,[(0,1),(1,1),(2,1),(3,1),(4,1)]⟩),(271,⟨true,Qo,[(0,1),(1,1),(2,1),(3,1),(4,1),(5,1),(6,1)]⟩),(283,⟨true,bR,[(0,1),(1,1),(2,1),(3,1),(4,1),(5,1),(6,1),(7,1),(8,1)]⟩),(289,⟨false,(.sl (.pair (.int .i64) (.int .i64))),[(293,0)]⟩),(293,⟨true,(.pair (.int .i64) (.int .i64)),[(0,1),(1,1)]⟩),(319,⟨true,a9,[(0,1),(1,5),(6,1)]⟩)],eqs:=[(101,[.int,.int,.int,.int,.int,.int,.int,.int,.int,.int,.int,.int,.int,.int,.int,.str,.int,.int]),(217,[.int,.int,.int,.int,.int])],fts:=[]}
theorem base:Sound Tryz.prog E aM.nil:=Sound.nil (FB (by kernel_rfl)) (FE (by kernel_rfl)) (FD (by kernel_rfl)) (by kernel_rfl)
def e21:ao:=af [pd (.sl .str),pI] [rI] (c2 Pu.lY)
def g21:aM:=aM.nil
def n21:An:={mask:=mk [(5,[0,1,4,5])]}
@[reducible] def EC:SD:=⟨.data false (.sl .arg .str)::DI::B::B::DI::DI::bs 22 [],zs 28 [],.none⟩
def QC {R:Type}(X:SD.D EC)(K:Ex→AS→Option R):=Pu.qh (fun y0 y1=>ke 0 K EC ((z1 (w y0 (z1 (u y1))) X.1),X.2)) (fun y0 y1 y2=>kr K EC ((z1 (w y0 (w y1 (u y2))) X.1),X.2)) X.1.1 (q2 X)
def Yc:aO:=cI EC QC (fun X=>(X.1.2.1,q3 X))
def L21:aS:=(aS.nil).add 5 Yc
theorem Xo:cC E g21 n21 L21 (ak Tryz.f21 0):=lk EC QC (fun X=>(X.1.2.1,q3 X)) fun X x=>((z1 (w x.1 (z1 (u x.2))) X.1),X.2)
theorem o21:aj Tryz.prog 21 e21:=fk n21 base Tryz.func21 (Λ:=L21) (cF Xo nF)
def e11:ao:=af [pf (.sl .str),pI] [rI] (c2 Pu.ni)
theorem o11:aj Tryz.prog 11 e11:=f0 {} (base.add o21) Tryz.func11
def e12:ao:=af [pd (.sl ar),pI] [rI] (c2 Pu.nZ)
theorem o12:aj Tryz.prog 12 e12:=f0 {} base Tryz.func12
def e22:ao:=af [pd (.sl (.int .i64)),pI] [rI] (c2 Pu.fT)
theorem o22:aj Tryz.prog 22 e22:=f0 {} base Tryz.func22
def e87:ao:=af [pf aU,pI] [rI] (c2 Pu.k5)
theorem o87:aj Tryz.prog 87 e87:=f0 {} (base.add o22) Tryz.func87
def Wo:ao:=af [pf bG,pI] [rI] (c2 Pu.nL)
theorem aet:aj Tryz.prog 174 Wo:=f0 {} (base.add o22) Tryz.func174
def e88:ao:=af [pd (.sl bG),pI] [rI] (c2 Pu.rK)
def g88:aM:=aM.nil.add 174 Wo
def n88:An:={mask:=mk [(5,[0,1,4,5])]}
@[reducible] def EW:SD:=⟨.data false (.sl .arg bG)::DI::B::B::DI::DI::bs 21 [],zs 27 [],.none⟩
def Rk {R:Type}(X:SD.D EW)(K:Ex→AS→Option R):=Pu.sK (fun y0 y1=>ke 0 K EW ((z1 (w y0 (z1 (u y1))) X.1),X.2)) (fun y0 y1 y2=>kr K EW ((z1 (w y0 (w y1 (u y2))) X.1),X.2)) X.1.1 (q2 X)
def YU:aO:=cI EW Rk (fun X=>(X.1.2.1,q3 X))
def L88:aS:=(aS.nil).add 5 YU
theorem X6:cC E g88 n88 L88 (ak Tryz.f88 0):=lk EW Rk (fun X=>(X.1.2.1,q3 X)) fun X x=>((z1 (w x.1 (z1 (u x.2))) X.1),X.2)
theorem o88:aj Tryz.prog 88 e88:=fk n88 (base.add aet) Tryz.func88 (Λ:=L88) (cF X6 nF)
def e13:ao:=af [pf aY,pI] [rI] (c2 Pu.lZ)
theorem o13:aj Tryz.prog 13 e13:=f0 {} ((base.add o87).add o88) Tryz.func13
def aco:ao:=af [pf dn,pI] [rI] (c2 Pu.lX)
theorem afG:aj Tryz.prog 278 aco:=f0 {} base Tryz.func278
def abY:ao:=af [pf ed,pI] [rI] (c2 Pu.nj)
theorem afc:aj Tryz.prog 238 abY:=f0 {} (base.add afG) Tryz.func238
def abl:ao:=af [pf nS,pI] [rI] (c2 Pu.ov)
theorem aeu:aj Tryz.prog 175 abl:=f0 {} (base.add afc) Tryz.func175
def e89:ao:=af [pf aA,pI] [rI] (c2 Pu.iG)
theorem o89:aj Tryz.prog 89 e89:=f0 {} (base.add aeu) Tryz.func89
def e14:ao:=af [pd (.sl aA),pI] [rI] (c2 Pu.n0)
def g14:aM:=aM.nil.add 89 e89
def n14:An:={mask:=mk [(5,[0,1,4,5])]}
@[reducible] def Ez:SD:=⟨.data false (.sl .arg aA)::DI::B::B::DI::DI::bs 21 [],zs 27 [],.none⟩
def Qz {R:Type}(X:SD.D Ez)(K:Ex→AS→Option R):=Pu.pB (fun y0 y1=>ke 0 K Ez ((z1 (w y0 (z1 (u y1))) X.1),X.2)) (fun y0 y1 y2=>kr K Ez ((z1 (w y0 (w y1 (u y2))) X.1),X.2)) X.1.1 (q2 X)
def X9:aO:=cI Ez Qz (fun X=>(X.1.2.1,q3 X))
def L14:aS:=(aS.nil).add 5 X9
theorem Xl:cC E g14 n14 L14 (ak Tryz.f14 0):=lk Ez Qz (fun X=>(X.1.2.1,q3 X)) fun X x=>((z1 (w x.1 (z1 (u x.2))) X.1),X.2)
theorem o14:aj Tryz.prog 14 e14:=fk n14 (base.add o89) Tryz.func14 (Λ:=L14) (cF Xl nF)
def e15:ao:=af [pd (.sl aU),pI] [rI] (c2 Pu.rH)
def g15:aM:=aM.nil.add 87 e87
def n15:An:={mask:=mk [(5,[0,1,4,5])]}
@[reducible] def EA:SD:=⟨.data false (.sl .arg aU)::DI::B::B::DI::DI::bs 21 [],zs 27 [],.none⟩
def QA {R:Type}(X:SD.D EA)(K:Ex→AS→Option R):=Pu.sJ (fun y0 y1=>ke 0 K EA ((z1 (w y0 (z1 (u y1))) X.1),X.2)) (fun y0 y1 y2=>kr K EA ((z1 (w y0 (w y1 (u y2))) X.1),X.2)) X.1.1 (q2 X)
def Ya:aO:=cI EA QA (fun X=>(X.1.2.1,q3 X))
def L15:aS:=(aS.nil).add 5 Ya
theorem Xm:cC E g15 n15 L15 (ak Tryz.f15 0):=lk EA QA (fun X=>(X.1.2.1,q3 X)) fun X x=>((z1 (w x.1 (z1 (u x.2))) X.1),X.2)
theorem o15:aj Tryz.prog 15 e15:=fk n15 (base.add o87) Tryz.func15 (Λ:=L15) (cF Xm nF)
def e16:ao:=af [pd (.sl aJ),pI] [rI] (c2 Pu.pD)
theorem o16:aj Tryz.prog 16 e16:=f0 {} base Tryz.func16
def e17:ao:=af [pd (.sl .bool),pI] [rI] (c2 Pu.rG)
theorem o17:aj Tryz.prog 17 e17:=f0 {} base Tryz.func17
def e18:ao:=af [pf bV,pI] [rI] (c2 Pu.nh)
theorem o18:aj Tryz.prog 18 e18:=f0 {} (base.add o22) Tryz.func18
def e90:ao:=af [pd (.sl bR),pI] [rI] (c2 Pu.rJ)
theorem o90:aj Tryz.prog 90 e90:=f0 {} base Tryz.func90
def abm:ao:=af [pd (.sl a9),pI] [rI] (c2 Pu.rL)
theorem aev:aj Tryz.prog 176 abm:=f0 {} base Tryz.func176
def e91:ao:=af [pf (.sl a9),pI] [rI] (c2 Pu.jk)
theorem o91:aj Tryz.prog 91 e91:=f0 {} (base.add aev) Tryz.func91
def e92:ao:=af [pf cL,pI] [rI] (c2 Pu.nk)
theorem o92:aj Tryz.prog 92 e92:=f0 {} (base.add o22) Tryz.func92
def e19:ao:=af [pf bm,pI] [rI] (c2 Pu.kx)
theorem o19:aj Tryz.prog 19 e19:=f0 {} (((base.add o90).add o91).add o92) Tryz.func19
def e93:ao:=af [pf az,pI] [rI] (c2 Pu.jR)
theorem o93:aj Tryz.prog 93 e93:=f0 {} base Tryz.func93
def e20:ao:=af [pd (.sl az),pI] [rI] (c2 Pu.pC)
def g20:aM:=aM.nil.add 93 e93
def n20:An:={mask:=mk [(5,[0,1,4,5])]}
@[reducible] def EB:SD:=⟨.data false (.sl .arg az)::DI::B::B::DI::DI::bs 21 [],zs 27 [],.none⟩
def QB {R:Type}(X:SD.D EB)(K:Ex→AS→Option R):=Pu.qg (fun y0 y1=>ke 0 K EB ((z1 (w y0 (z1 (u y1))) X.1),X.2)) (fun y0 y1 y2=>kr K EB ((z1 (w y0 (w y1 (u y2))) X.1),X.2)) X.1.1 (q2 X)
def Yb:aO:=cI EB QB (fun X=>(X.1.2.1,q3 X))
def L20:aS:=(aS.nil).add 5 Yb
theorem Xn:cC E g20 n20 L20 (ak Tryz.f20 0):=lk EB QB (fun X=>(X.1.2.1,q3 X)) fun X x=>((z1 (w x.1 (z1 (u x.2))) X.1),X.2)
theorem o20:aj Tryz.prog 20 e20:=fk n20 (base.add o93) Tryz.func20 (Λ:=L20) (cF Xn nF)
def e4:ao:=af [pf a8,pI] [rI] (c2 Pu.qf)
theorem o4:aj Tryz.prog 4 e4:=f0 {} ((((((((((((base.add o11).add o12).add o13).add o14).add o15).add o16).add o17).add o18).add o19).add o20).add o21).add o22) Tryz.func4
def UB:ao:=af [pf (.sl .str)] [(true,(.sl (.own none) .str))] (c1 Pu.cV)
theorem UI:aj Tryz.prog 94 UB:=f0 {} base Tryz.func94
def W5:ao:=af [pf aU] [(true,Y6)] (c1 Pu.dC)
theorem o96:aj Tryz.prog 96 W5:=f0 {sb:=mg [(2,2)]} base Tryz.func96
def e95:ao:=af [pf aY] [(true,Uv)] (c1 Pu.oJ)
def g95:aM:=aM.nil.add 96 W5
def n95:An:={mask:=mk [(3,[1,2,3,4])],mv:=[27,40],mb:=mg [(27,3)],sb:=mg [(3,3),(39,3)]}
@[reducible] def Jo:SD:=⟨B::.ptr 1 0::.ptr 2 0::.ptr 3 0::DI::bs 36 [],Z::(some Y15)::(some (.pair Y1 (.pair (.pair (.int .i64) (.pair (.int .i64) (.pair (.int .i64) (.sl (.own (some 24598)) (.int .i64))))) (.pair (.sl (.own (some 24601)) bG) (.int .i64)))))::(some (.pair Y1 (.pair (.pair (.int .i64) (.pair (.int .i64) (.pair (.int .i64) (.sl (.own (some 36886)) (.int .i64))))) (.pair (.sl (.own (some 36889)) bG) (.int .i64)))))::zs 37 [],.none⟩
def Rl {R:Type}(X:SD.D Jo)(K:Ex→AS→Option R):=Pu.kI (fun y0 y1=>ke 0 K Jo ((u y0 X.1),(z2 (u y1) X.2.1),X.2.2)) X.2.1.1 X.2.1.2.1
def YV:aO:=cI Jo Rl (fun X=>(X.1.1,X.2.1.2.2.1))
def L95:aS:=(aS.nil).add 3 YV
theorem X7:cC E g95 n95 L95 (ak Tryz.f95 0):=lk Jo Rl (fun X=>(X.1.1,X.2.1.2.2.1)) fun X x=>((u x.1 X.1),(z2 (u x.2) X.2.1),X.2.2)
theorem o95:aj Tryz.prog 95 e95:=fk n95 (base.add o96) Tryz.func95 (Λ:=L95) (cF X7 nF)
def e97:ao:=af [pf bV] [(true,Y14)] (c1 Pu.oK)
theorem o97:aj Tryz.prog 97 e97:=f0 {sb:=mg [(2,2)]} base Tryz.func97
def abn:ao:=af [pf (.sl a9)] [(true,(.sl (.own none) a9))] (c1 Pu.oF)
theorem aew:aj Tryz.prog 177 abn:=f0 {} base Tryz.func177
def e98:ao:=af [pf bm] [(true,Y12)] (c1 Pu.oH)
theorem o98:aj Tryz.prog 98 e98:=f0 {sb:=mg [(2,2)]} (base.add aew) Tryz.func98
def e23:ao:=af [pf a8] [(true,Y5)] (c1 Pu.oL)
def g23:aM:=((((aM.nil.add 94 UB).add 95 e95).add 96 W5).add 97 e97).add 98 e98
def n23:An:={mask:=mk [(8,[1,2,3,4])],mv:=[34,82],mb:=mg [(34,3)],sb:=mg [(43,3)]}
@[reducible] def IZ:SD:=⟨B::.ptr 1 0::.ptr 2 0::.ptr 3 0::DI::bs 78 [],Z::(some Y2)::(some Y0)::(some Y8)::zs 79 [],.none⟩
def QD {R:Type}(X:SD.D IZ)(K:Ex→AS→Option R):=Pu.kJ (fun y0 y1=>ke 0 K IZ ((u y0 X.1),(z2 (u y1) X.2.1),X.2.2)) X.2.1.1 X.2.1.2.1
def Yd:aO:=cI IZ QD (fun X=>(X.1.1,X.2.1.2.2.1))
def L23:aS:=(aS.nil).add 8 Yd
theorem Xp:cC E g23 n23 L23 (ak Tryz.f23 0):=lk IZ QD (fun X=>(X.1.1,X.2.1.2.2.1)) fun X x=>((u x.1 X.1),(z2 (u x.2) X.2.1),X.2.2)
theorem o23:aj Tryz.prog 23 e23:=fk n23 (((((base.add UI).add o95).add o96).add o97).add o98) Tryz.func23 (Λ:=L23) (cF Xp nF)
def e99:ao:=af [pf (.sl .str)] [rB] (c1 Pu.gX)
def g99:aM:=aM.nil
def n99:An:={mask:=mk [(2,[1,2,3])]}
@[reducible] def EX:SD:=⟨B::.ptr 1 0::DB::DI::bs 18 [],Z::(some (.sl .arg .str))::zs 20 [],.none⟩
def Rm {R:Type}(X:SD.D EX)(K:Ex→AS→Option R):=Pu.jm (fun y0=>ke 0 K EX ((z1 (u y0) X.1),X.2)) (fun y0 y1=>kr K EX ((w y0 (u y1) X.1),X.2)) X.1.1 X.2.1.1
def YW:aO:=cI EX Rm (fun X=>X.1.2.1)
def L99:aS:=(aS.nil).add 2 YW
theorem X8:cC E g99 n99 L99 (ak Tryz.f99 0):=lk EX Rm (fun X=>X.1.2.1) fun X x=>((z1 (u x) X.1),X.2)
theorem o99:aj Tryz.prog 99 e99:=fk n99 base Tryz.func99 (Λ:=L99) (cF X8 nF)
def AR:ao:=af [pI,pI,pI] [rB] (c3 Pu.al)
theorem ow:aj Tryz.prog 103 AR:=f0 {merge:=mg [(1,6)]} base Tryz.func103
def RD:ao:=af [pd (.sl ar)] [rB] (c1 Pu.gJ)
def Xb:aM:=aM.nil.add 103 AR
def TZ:An:={mask:=mk [(4,[0,2,3]),(10,[0,2,3,4,5])],merge:=mg [(7,34),(12,57)]}
@[reducible] def vi:SD:=⟨.data false (.sl .arg ar)::B::DB::DI::.ptr 4 0::DI::bs 52 [],zs 4 ((some Y24)::zs 53 []),.none⟩
def J0 {R:Type}(X:SD.D vi)(K:Ex→AS→Option R):=Pu.ff (fun y0=>ke 2 K vi ((z3 (u y0) X.1),X.2)) (fun y0 y1=>kr K vi ((z1 (w y0 (z1 (u y1))) X.1),X.2)) X.1.1 X.1.2.1 (q2 X) X.2.1.1
def PF:aO:=cI vi J0 q3
@[reducible] def yz:SD:=⟨.data false (.sl .arg ar)::B::DB::DI::bs 54 [],zs 58 [],.none⟩
def NP {R:Type}(X:SD.D yz)(K:Ex→AS→Option R):=Pu.gv (fun y0=>ke 0 K yz ((z2 (u y0) X.1),X.2)) (fun y0 y1=>kr K yz ((z1 (w y0 (u y1)) X.1),X.2)) X.1.1 X.1.2.1
def SY:aO:=cI yz NP q2
def Rn:aS:=((aS.nil).add 10 PF).add 4 SY
theorem PB:cC E Xb TZ Rn (ak Tryz.f100 1):=lk vi J0 q3 fun X x=>((z3 (u x) X.1),X.2)
theorem RX:cC E Xb TZ Rn (ak Tryz.f100 0):=lk yz NP q2 fun X x=>((z2 (u x) X.1),X.2)
theorem Z2:aj Tryz.prog 100 RD:=fk TZ (base.add ow) Tryz.func100 (Λ:=Rn) (cF RX (cF PB nF))
def Kf:ao:=af [pf aU] [rB] (c1 Pu.c9)
def acN:aM:=aM.nil.add 103 AR
def Za:An:={mask:=mk [(5,[1,2,3,4])],merge:=mg [(1,20),(7,50)]}
@[reducible] def yE:SD:=⟨B::.ptr 1 0::DB::.data false (.sl (.own (some 36864)) .bool)::DI::bs 53 [],Z::(some VK)::zs 56 [],.none⟩
def NU {R:Type}(X:SD.D yE)(K:Ex→AS→Option R):=Pu.mn (fun y0 y1=>ke 0 K yE ((z1 (w y0 (u y1)) X.1),X.2)) (fun y0 y1 y2=>kr K yE ((w y0 (w y1 (u y2)) X.1),X.2)) X.1.1 X.2.1.1
def S3:aO:=cI yE NU (fun X=>(X.1.2.1,q2 X))
def UR:aS:=(aS.nil).add 5 S3
theorem R2:cC E acN Za UR (ak Tryz.f106 0):=lk yE NU (fun X=>(X.1.2.1,q2 X)) fun X x=>((z1 (w x.1 (u x.2)) X.1),X.2)
theorem H4:aj Tryz.prog 106 Kf:=fk Za (base.add ow) Tryz.func106 (Λ:=UR) (cF R2 nF)
def RG:ao:=af [pf aU,pd (.sl (.int .i64))] [(true,Y6),rB] (c2 Pu.cB)
theorem Z6:aj Tryz.prog 113 RG:=f0 {merge:=mg [(3,21)],mv:=[10,24]} ((base.add o96).add H4) Tryz.func113
def abZ:ao:=af [pI] [rB] (c1 Pu.jv)
theorem T9:aj Tryz.prog 239 abZ:=f0 {merge:=mg [(1,2)]} base Tryz.func239
def ab0:ao:=af [pf jx] [rI] (c1 Pu.ka)
theorem aav:aj Tryz.prog 240 ab0:=f0 {} (base.add T9) Tryz.func240
def RN:ao:=af [pf jx] [rB] (c1 Pu.fX)
theorem Na:aj Tryz.prog 178 RN:=f0 {merge:=mg [(1,2)]} (((base.add ow).add T9).add aav) Tryz.func178
def VU:ao:=af [pf aY] [rB] (c1 Pu.uh)
def acL:aM:=(((aM.nil.add 103 AR).add 106 Kf).add 113 RG).add 178 RN
def YY:An:={mask:=mk [(6,[1,2,3,4,5])],merge:=mg [(1,24),(9,50),(14,2)],mv:=[55]}
@[reducible] def yA:SD:=⟨B::.ptr 1 0::DB::DI::.data false (.sl (.own (some 49152)) (.int .i64))::DI::bs 68 [],Z::(some Y15)::zs 72 [],.none⟩
def NQ {R:Type}(X:SD.D yA)(K:Ex→AS→Option R):=Pu.mr (fun y0 y1 y2=>ke 0 K yA ((z1 (w y0 (w y1 (u y2))) X.1),X.2)) (fun y0 y1 y2 y3=>kr K yA ((w y0 (w y1 (w y2 (u y3))) X.1),X.2)) X.1.1 X.2.1.1
def SZ:aO:=cI yA NQ (fun X=>(X.1.2.1,q2 X,q3 X))
def UP:aS:=(aS.nil).add 6 SZ
theorem RY:cC E acL YY UP (ak Tryz.f101 0):=lk yA NQ (fun X=>(X.1.2.1,q2 X,q3 X)) fun X x=>((z1 (w x.1 (w x.2.1 (u x.2.2))) X.1),X.2)
theorem adJ:aj Tryz.prog 101 VU:=fk YY ((((base.add ow).add H4).add Z6).add Na) Tryz.func101 (Λ:=UP) (cF RY nF)
def VV:ao:=af [pf bV] [rB] (c1 Pu.nq)
def acM:aM:=aM.nil.add 103 AR
def YZ:An:={mask:=mk [(2,[1,2,3])],merge:=mg [(4,35),(6,2)]}
@[reducible] def yB:SD:=⟨B::.ptr 1 0::DB::DI::bs 41 [],Z::(some (.pair (.int .i64) (.pair .bool (.sl .arg (.int .i64)))))::zs 43 [],.none⟩
def NR {R:Type}(X:SD.D yB)(K:Ex→AS→Option R):=Pu.jl (fun y0=>ke 0 K yB ((z1 (u y0) X.1),X.2)) (fun y0 y1=>kr K yB ((w y0 (u y1) X.1),X.2)) X.1.1 X.2.1.1
def S0:aO:=cI yB NR (fun X=>X.1.2.1)
def UQ:aS:=(aS.nil).add 2 S0
theorem RZ:cC E acM YZ UQ (ak Tryz.f102 0):=lk yB NR (fun X=>X.1.2.1) fun X x=>((z1 (u x) X.1),X.2)
theorem adK:aj Tryz.prog 102 VV:=fk YZ (base.add ow) Tryz.func102 (Λ:=UQ) (cF RZ nF)
def WL:ao:=af [pf bR] [rB] (c1 Pu.fY)
theorem afd:aj Tryz.prog 241 WL:=f0 {merge:=mg [(1,33),(3,54),(5,2)]} (base.add ow) Tryz.func241
def Wp:ao:=af [pd (.sl bR)] [rB] (c1 Pu.oD)
def ac8:aM:=aM.nil.add 241 WL
def Zx:An:={mask:=mk [(2,[0,2,3])]}
@[reducible] def yP:SD:=⟨.data false (.sl .arg bR)::B::DB::DI::bs 15 [],zs 19 [],.none⟩
def Oi {R:Type}(X:SD.D yP)(K:Ex→AS→Option R):=Pu.kD (fun y0=>ke 0 K yP ((z2 (u y0) X.1),X.2)) (fun y0 y1=>kr K yP ((z1 (w y0 (u y1)) X.1),X.2)) X.1.1 X.1.2.1
def Tr:aO:=cI yP Oi q2
def Vf:aS:=(aS.nil).add 2 Tr
theorem Sq:cC E ac8 Zx Vf (ak Tryz.f179 0):=lk yP Oi q2 fun X x=>((z2 (u x) X.1),X.2)
theorem aex:aj Tryz.prog 179 Wp:=fk Zx (base.add afd) Tryz.func179 (Λ:=Vf) (cF Sq nF)
def W0:ao:=af [pf ft] [rI] (c1 Pu.nr)
def ady:aM:=aM.nil
def ZW:An:={mask:=mk [(4,[3,4,5])]}
@[reducible] def Da:SD:=⟨B::B::B::DI::.data false (.sl (.own (some 49152)) (.int .i64))::DI::bs 26 [],zs 32 [],.none⟩
def OM {R:Type}(X:SD.D Da)(K:Ex→AS→Option R):=Pu.fN (fun y0 y1=>ke 0 K Da ((w y0 (z1 (u y1)) X.1),X.2)) X.1.2.1
def TS:aO:=cI Da OM (fun X=>(X.1.1,q2 X))
def VE:aS:=(aS.nil).add 4 TS
theorem SS:cC E ady ZW VE (ak Tryz.f279 0):=lk Da OM (fun X=>(X.1.1,q2 X)) fun X x=>((w x.1 (z1 (u x.2)) X.1),X.2)
theorem afH:aj Tryz.prog 279 W0:=fk ZW base Tryz.func279 (Λ:=VE) (cF SS nF)
def WM:ao:=af [pf (.sl a9),pf ft] [rI] (c2 Pu.oG)
def adr:aM:=aM.nil.add 279 W0
def ZP:An:={mask:=mk [(2,[2,3,4,5])],merge:=mg [(7,39)]}
@[reducible] def zb:SD:=⟨B::B::.ptr 2 0::.ptr 3 0::DI::DI::bs 35 [],Z::Z::(some (.sl .arg a9))::(some (.pair (.int .i64) Y1))::zs 37 [],.none⟩
def OE {R:Type}(X:SD.D zb)(K:Ex→AS→Option R):=Pu.gM (fun y0=>ke 0 K zb ((z1 (u y0) X.1),X.2)) (fun y0 y1=>kr K zb ((w y0 (u y1) X.1),X.2)) X.1.1 X.2.1.1 X.2.1.2.1
def TK:aO:=cI zb OE (fun X=>X.1.2.1)
def Vx:aS:=(aS.nil).add 2 TK
theorem SK:cC E adr ZP Vx (ak Tryz.f242 0):=lk zb OE (fun X=>X.1.2.1) fun X x=>((z1 (u x) X.1),X.2)
theorem afe:aj Tryz.prog 242 WM:=fk ZP (base.add afH) Tryz.func242 (Λ:=Vx) (cF SK nF)
def Wq:ao:=af [pf (.sl a9)] [rB] (c1 Pu.oE)
def ac9:aM:=(aM.nil.add 103 AR).add 242 WM
def Zy:An:={mask:=mk [(4,[1,2,3])],merge:=mg [(7,30),(10,42)]}
@[reducible] def yQ:SD:=⟨B::.ptr 1 0::DB::DI::bs 45 [],Z::(some (.sl .arg a9))::zs 47 [],.none⟩
def Oj {R:Type}(X:SD.D yQ)(K:Ex→AS→Option R):=Pu.kF (fun y0=>ke 0 K yQ ((z1 (u y0) X.1),X.2)) (fun y0 y1=>kr K yQ ((w y0 (u y1) X.1),X.2)) X.1.1 X.2.1.1
def Ts:aO:=cI yQ Oj (fun X=>X.1.2.1)
def Vg:aS:=(aS.nil).add 4 Ts
theorem Sr:cC E ac9 Zy Vg (ak Tryz.f180 0):=lk yQ Oj (fun X=>X.1.2.1) fun X x=>((z1 (u x) X.1),X.2)
theorem aey:aj Tryz.prog 180 Wq:=fk Zy ((base.add ow).add afe) Tryz.func180 (Λ:=Vg) (cF Sr nF)
def WN:ao:=af [pI] [rB] (c1 Pu.mw)
theorem aff:aj Tryz.prog 243 WN:=f0 {merge:=mg [(1,2)]} base Tryz.func243
def Wr:ao:=af [pf cL,pI] [rB] (c2 Pu.nu)
def ada:aM:=(aM.nil.add 103 AR).add 243 WN
def Zz:An:={mask:=mk [(4,[1,2,4,5])],merge:=mg [(1,21)]}
@[reducible] def yR:SD:=⟨B::DI::.ptr 2 0::B::DB::DI::bs 32 [],Z::Z::(some (.pair .str (.sl .arg (.int .i64))))::zs 35 [],.none⟩
def Ok {R:Type}(X:SD.D yR)(K:Ex→AS→Option R):=Pu.jq (fun y0=>ke 0 K yR ((z2 (u y0) X.1),X.2)) (fun y0 y1=>kr K yR ((z1 (w y0 (u y1)) X.1),X.2)) X.1.1 X.1.2.1 X.2.1.1
def Tt:aO:=cI yR Ok q2
def Vh:aS:=(aS.nil).add 4 Tt
theorem Ss:cC E ada Zz Vh (ak Tryz.f181 0):=lk yR Ok q2 fun X x=>((z2 (u x) X.1),X.2)
theorem aez:aj Tryz.prog 181 Wr:=fk Zz ((base.add ow).add aff) Tryz.func181 (Λ:=Vh) (cF Ss nF)
def VW:ao:=af [pf bm,pI] [rB] (c2 Pu.kE)
def Xc:aM:=((aM.nil.add 179 Wp).add 180 Wq).add 181 Wr
def T0:An:={mask:=mk [(4,[1,2,4,5]),(9,[1,2,4,6])],merge:=mg [(1,23)]}
@[reducible] def yC:SD:=⟨B::DI::.ptr 2 0::B::DB::DI::bs 50 [],Z::Z::(some VL)::zs 53 [],.none⟩
def NS {R:Type}(X:SD.D yC)(K:Ex→AS→Option R):=Pu.gw (fun y0=>ke 0 K yC ((z2 (u y0) X.1),X.2)) (fun y0 y1=>kr K yC ((z1 (w y0 (u y1)) X.1),X.2)) X.1.1 X.1.2.1 X.2.1.1
def S1:aO:=cI yC NS q2
@[reducible] def yD:SD:=⟨B::DI::.ptr 2 0::B::DB::B::DI::bs 49 [],Z::Z::(some VL)::zs 53 [],.none⟩
def NT {R:Type}(X:SD.D yD)(K:Ex→AS→Option R):=Pu.gx (fun y0=>ke 2 K yD ((z2 (u y0) X.1),X.2)) (fun y0 y1=>kr K yD ((z1 (w y0 (u y1)) X.1),X.2)) X.1.1 X.1.2.1 X.2.1.1
def S2:aO:=cI yD NT q2
def Ro:aS:=((aS.nil).add 4 S1).add 9 S2
theorem R0:cC E Xc T0 Ro (ak Tryz.f104 0):=lk yC NS q2 fun X x=>((z2 (u x) X.1),X.2)
theorem R1:cC E Xc T0 Ro (ak Tryz.f104 1):=lk yD NT q2 fun X x=>((z2 (u x) X.1),X.2)
theorem adL:aj Tryz.prog 104 VW:=fk T0 (((base.add aex).add aey).add aez) Tryz.func104 (Λ:=Ro) (cF R0 (cF R1 nF))
def abo:ao:=af [pf aP] [rB] (c1 Pu.jn)
theorem aaj:aj Tryz.prog 182 abo:=f0 {merge:=mg [(1,2)]} ((base.add ow).add T9) Tryz.func182
def ab1:ao:=af [pf dn] [rB] (c1 Pu.iO)
theorem aaw:aj Tryz.prog 244 ab1:=f0 {merge:=mg [(1,18),(4,2),(5,2)]} (base.add ow) Tryz.func244
def abp:ao:=af [pf ed] [rB] (c1 Pu.jt)
theorem T6:aj Tryz.prog 183 abp:=f0 {merge:=mg [(1,55),(3,3),(4,2)]} ((base.add ow).add aaw) Tryz.func183
def RE:ao:=af [pf aA] [rB] (c1 Pu.qZ)
theorem Z3:aj Tryz.prog 105 RE:=f0 {merge:=mg [(1,42),(5,2)]} ((((base.add ow).add Na).add aaj).add T6) Tryz.func105
def abq:ao:=af [pf aJ] [rB] (c1 Pu.qw)
theorem aeA:aj Tryz.prog 184 abq:=f0 {merge:=mg [(1,2)]} base Tryz.func184
def VX:ao:=af [pf aJ] [rB] (c1 Pu.gY)
theorem adM:aj Tryz.prog 107 VX:=f0 {merge:=mg [(1,24),(3,2)]} ((base.add ow).add aeA) Tryz.func107
def e24:ao:=af [pf a8] [rB] (c1 Pu.qv)
def g24:aM:=((((((((aM.nil.add 99 e99).add 100 RD).add 101 VU).add 102 VV).add 103 AR).add 104 VW).add 105 RE).add 106 Kf).add 107 VX
def n24:An:={mask:=mk [(5,[1,2,3,4]),(11,[2,5,6])],merge:=mg [(2,64),(7,94)]}
@[reducible] def ED:SD:=⟨B::.ptr 1 0::DB::DI::DI::bs 118 [],Z::(some Y2)::zs 121 [],.none⟩
def QE {R:Type}(X:SD.D ED)(K:Ex→AS→Option R):=Pu.mh (fun y0=>ke 0 K ED ((z2 (u y0) X.1),X.2)) (fun y0 y1=>kr K ED ((w y0 (z1 (u y1)) X.1),X.2)) X.1.1 X.1.2.1 X.2.1.1
def Ye:aO:=cI ED QE q2
@[reducible] def zd:SD:=⟨B::B::DB::B::B::.data false (.sl (.own (some 61440)) (.int .i64))::DI::bs 116 [],zs 123 [],.none⟩
def OG {R:Type}(X:SD.D zd)(K:Ex→AS→Option R):=Pu.kC (fun y0=>ke 2 K zd ((z2 (u y0) X.1),X.2)) (fun y0 y1=>kr K zd ((w y0 (z1 (u y1)) X.1),X.2)) X.1.1 X.1.2.1
def TM:aO:=cI zd OG q2
def L24:aS:=((aS.nil).add 5 Ye).add 11 TM
theorem Xq:cC E g24 n24 L24 (ak Tryz.f24 0):=lk ED QE q2 fun X x=>((z2 (u x) X.1),X.2)
theorem SM:cC E g24 n24 L24 (ak Tryz.f24 1):=lk zd OG q2 fun X x=>((z2 (u x) X.1),X.2)
theorem o24:aj Tryz.prog 24 e24:=fk n24 (((((((((base.add o99).add Z2).add adJ).add adK).add ow).add adL).add Z3).add H4).add adM) Tryz.func24 (Λ:=L24) (cF Xq (cF SM nF))
def WO:ao:=af [pd (.sl ar),pI,pI,pd .bool] [rI] (c4 Pu.oI)
def ads:aM:=aM.nil
def ZQ:An:={mask:=mk [(2,[0,1,2,3,8,9])],merge:=mg [(4,42)]}
@[reducible] def zc:SD:=⟨.data false (.sl .arg ar)::DI::DI::DB::bs 4 (DI::DI::bs 38 []),zs 48 [],.none⟩
def OF {R:Type}(X:SD.D zc)(K:Ex→AS→Option R):=Pu.kH (fun y0=>ke 0 K zc ((z5 (u y0) X.1),X.2)) (fun y0 y1=>kr K zc ((z4 (w y0 (u y1)) X.1),X.2)) X.1.1 X.1.2.1 (q2 X) (q3 X) (q4 X)
def TL:aO:=cI zc OF q5
def Vy:aS:=(aS.nil).add 2 TL
theorem SL:cC E ads ZQ Vy (ak Tryz.f247 0):=lk zc OF q5 fun X x=>((z5 (u x) X.1),X.2)
theorem afg:aj Tryz.prog 247 WO:=fk ZQ base Tryz.func247 (Λ:=Vy) (cF SL nF)
def Ph:ao:=af [pf (.sl .str),pI,pI] [rB] (c3 Pu.dZ)
theorem Ua:aj Tryz.prog 248 Ph:=f0 {merge:=mg [(2,6)]} (base.add o99) Tryz.func248
def RO:ao:=af [pd (.sl ar),pf (.sl .str),pI,pI,pI,pd .bool] [(false,(.sl (.own none) (.int .i64))),(false,(.sl (.own none) (.int .i64))),rB] (c6 Pu.kb)
def adb:aM:=((((aM.nil.add 99 e99).add 100 RD).add 103 AR).add 247 WO).add 248 Ph
def ZA:An:={mask:=mk [(5,[0,2,3,4,5,7,12,13,14,15,16])],merge:=mg [(3,34),(10,57)],mv:=[35,36,64,71,81,82]}
@[reducible] def yS:SD:=⟨.data false (.sl .arg ar)::B::DI::DI::DI::DB::B::.ptr 7 0::bs 4 (.data false (.sl (.own (some 147456)) (.int .i64))::.data false (.sl (.own (some 159744)) (.int .i64))::DB::.data false (.sl (.own (some 184320)) (.int .i64))::.data false (.sl (.own (some 196608)) (.int .i64))::bs 66 []),zs 7 ((some (.sl .arg .str))::zs 75 []),.none⟩
def Ol {R:Type}(X:SD.D yS)(K:Ex→AS→Option R):=Pu.dL (fun y0 y1 y2 y3=>ke 0 K yS ((z2 (w y0 (w y1 (z4 (w y2 (u y3))))) X.1),X.2)) (fun y0 y1 y2 y3 y4 y5 y6=>kr K yS ((z2 (w y0 (w y1 (z1 (w y2 (w y3 (w y4 (w y5 (u y6)))))))) X.1),X.2)) X.1.1 X.1.2.1 (q4 X) (q5 X) (q6 X) (q7 X) X.2.1.1
def Tu:aO:=cI yS Ol (fun X=>(q2 X,q3 X,q8 X,q9 X))
def Vi:aS:=(aS.nil).add 5 Tu
theorem St:cC E adb ZA Vi (ak Tryz.f187 0):=lk yS Ol (fun X=>(q2 X,q3 X,q8 X,q9 X)) fun X x=>((z2 (w x.1 (w x.2.1 (z4 (w x.2.2.1 (u x.2.2.2))))) X.1),X.2)
theorem aak:aj Tryz.prog 187 RO:=fk ZA (((((base.add o99).add Z2).add ow).add afg).add Ua) Tryz.func187 (Λ:=Vi) (cF St nF)
def Ws:ao:=af [pf (.sl .str),pI,pI] [rS,rB] (c3 Pu.gL)
def ade:aM:=aM.nil.add 248 Ph
def ZB:An:={mask:=mk [(4,[1,2,3,8])]}
@[reducible] def C0:SD:=⟨B::DI::DI::.ptr 3 0::bs 4 (.data false .str::bs 35 []),Z::Z::Z::(some (.sl .arg .str))::zs 40 [],.none⟩
def Om {R:Type}(X:SD.D C0)(K:Ex→AS→Option R):=Pu.dY (fun y0 y1 y2=>ke 0 K C0 ((w y0 (w y1 (u y2)) X.1),X.2)) X.2.1.1
def Tv:aO:=cI C0 Om (fun X=>(X.1.1,X.1.2.1,q2 X))
def Vj:aS:=(aS.nil).add 4 Tv
theorem Su:cC E ade ZB Vj (ak Tryz.f188 0):=lk C0 Om (fun X=>(X.1.1,X.1.2.1,q2 X)) fun X x=>((w x.1 (w x.2.1 (u x.2.2)) X.1),X.2)
theorem aeD:aj Tryz.prog 188 Ws:=fk ZB (base.add Ua) Tryz.func188 (Λ:=Vj) (cF Su nF)
def VZ:ao:=af [pd (.sl ar),pf (.sl .str),pI,pI,pI] [rS,rB] (c5 Pu.mf)
def acO:aM:=(aM.nil.add 187 RO).add 188 Ws
def Zb:An:={mask:=mk [(6,[6,12,13,15,16])]}
@[reducible] def CM:SD:=⟨bs 6 (.ptr 6 0::bs 5 (.data false (.sl .loc (.int .i64))::.data false (.sl .loc (.int .i64))::B::.data false .str::DI::bs 37 [])),zs 6 ((some (.sl .arg .str))::zs 47 []),.none⟩
def NV {R:Type}(X:SD.D CM)(K:Ex→AS→Option R):=Pu.kA (fun y0 y1=>ke 0 K CM ((z2 (w y0 (u y1)) X.1),X.2)) X.1.1 X.1.2.1 X.2.1.1
def S4:aO:=cI CM NV (fun X=>(q2 X,q3 X))
def US:aS:=(aS.nil).add 6 S4
theorem R3:cC E acO Zb US (ak Tryz.f110 0):=lk CM NV (fun X=>(q2 X,q3 X)) fun X x=>((z2 (w x.1 (u x.2)) X.1),X.2)
theorem Z5:aj Tryz.prog 110 VZ:=fk Zb ((base.add aak).add aeD) Tryz.func110 (Λ:=US) (cF R3 nF)
def acp:ao:=af [pd .str,pI,pI] [rB] (c3 Pu.fO)
theorem Ud:aj Tryz.prog 280 acp:=f0 {merge:=mg [(1,6)]} base Tryz.func280
def ab3:ao:=af [pd .str,pI] [rI] (c2 Pu.bQ)
theorem Nc:aj Tryz.prog 246 ab3:=f0 {} (base.add Ud) Tryz.func246
def ab2:ao:=af [pd .str,pI] [rI] (c2 Pu.dk)
theorem PO:aj Tryz.prog 245 ab2:=f0 {} ((base.add Nc).add Ud) Tryz.func245
def abr:ao:=af [pd .str] [(true,(.pair (.int .i64) Y1)),rI,rB] (c1 Pu.ef)
theorem aeB:aj Tryz.prog 185 abr:=f0 {merge:=mg [(1,12)]} ((base.add PO).add Nc) Tryz.func185
def abt:ao:=af [pf aP] [rI] (c1 Pu.nw)
theorem aeC:aj Tryz.prog 186 abt:=f0 {} base Tryz.func186
def VY:ao:=af [pd (.sl ar),pf (.sl .str),pI,pf aP] [(true,(.pair (.int .i64) Y1)),(true,Uw),rB] (c4 Pu.fg)
theorem adN:aj Tryz.prog 108 VY:=f0 {merge:=mg [(5,54)],sb:=mg [(8,8),(9,9)]} ((((base.add Z5).add aaj).add aeB).add aeC) Tryz.func108
def RF:ao:=af [pf aU,pI] [rI] (c2 Pu.dW)
theorem Z4:aj Tryz.prog 109 RF:=f0 {merge:=mg [(1,15)]} ((base.add ow).add H4) Tryz.func109
def ab4:ao:=af [pf O4] [rB] (c1 Pu.pR)
theorem afh:aj Tryz.prog 249 ab4:=f0 {merge:=mg [(1,2)]} (base.add ow) Tryz.func249
def abu:ao:=af [pd .str] [(true,Y23),rB] (c1 Pu.nt)
theorem aeE:aj Tryz.prog 189 abu:=f0 {sb:=mg [(4,4)]} (((base.add PO).add Nc).add afh) Tryz.func189
def abz:ao:=af [pI] [rS] (c1 Pu.aV)
theorem Nb:aj Tryz.prog 194 abz:=f0 {} (base.add ow) Tryz.func194
def ab9:ao:=af [pI] [rS] (c1 Pu.cf)
theorem PQ:aj Tryz.prog 254 ab9:=f0 {} (base.add ow) Tryz.func254
def W3:ao:=af [pI,pI] [rI] (c2 Pu.eJ)
theorem afW:aj Tryz.prog 301 W3:=f0 {merge:=mg [(1,12)]} (base.add ow) Tryz.func301
def acC:ao:=af [pd .str] [rI] (c1 Pu.nv)
def adA:aM:=aM.nil.add 301 W3
def ZY:An:={mask:=mk [(3,[0,3,4])]}
@[reducible] def Dc:SD:=⟨.data false .str::B::B::DI::DI::bs 28 [],zs 33 [],.none⟩
def OO {R:Type}(X:SD.D Dc)(K:Ex→AS→Option R):=Pu.js (fun y0 y1=>ke 0 K Dc ((z1 (w y0 (u y1)) X.1),X.2)) X.1.1
def TU:aO:=cI Dc OO (fun X=>(X.1.2.1,q2 X))
def VG:aS:=(aS.nil).add 3 TU
theorem SV:cC E adA ZY VG (ak Tryz.f294 0):=lk Dc OO (fun X=>(X.1.2.1,q2 X)) fun X x=>((z1 (w x.1 (u x.2)) X.1),X.2)
theorem afR:aj Tryz.prog 294 acC:=fk ZY (base.add afW) Tryz.func294 (Λ:=VG) (cF SV nF)
def acs:ao:=af [pd .str] [rI] (c1 Pu.gW)
theorem aay:aj Tryz.prog 283 acs:=f0 {} (base.add afR) Tryz.func283
def W1:ao:=af [pd .str,pI,pd .str] [rS] (c3 Pu.cU)
theorem Ue:aj Tryz.prog 284 W1:=f0 {} (base.add Ud) Tryz.func284
def acB:ao:=af [pf Qo] [rB] (c1 Pu.ug)
theorem afQ:aj Tryz.prog 293 acB:=f0 {merge:=mg [(1,2)]} (base.add ow) Tryz.func293
def acq:ao:=af [pf Qo] [rS,rB] (c1 Pu.ns)
theorem afI:aj Tryz.prog 281 acq:=f0 {} (((((base.add Nb).add PQ).add aay).add Ue).add afQ) Tryz.func281
def ab5:ao:=af [pf Qo] [rS,rB] (c1 Pu.oA)
theorem afi:aj Tryz.prog 250 ab5:=f0 {} (base.add afI) Tryz.func250
def abv:ao:=af [pd .str] [(true,Y7),rB] (c1 Pu.oB)
theorem aeF:aj Tryz.prog 190 abv:=f0 {merge:=mg [(2,22),(6,56)],sb:=mg [(5,5)]} (((base.add PO).add Nc).add afi) Tryz.func190
def acr:ao:=af [pI,pI,pI,pI] [rS,rB] (c4 Pu.eM)
theorem afJ:aj Tryz.prog 282 acr:=f0 {merge:=mg [(1,27)]} (((base.add ow).add Nb).add PQ) Tryz.func282
def ab6:ao:=af [pI,pI,pf dn] [rS,rB] (c3 Pu.eK)
theorem afj:aj Tryz.prog 251 ab6:=f0 {merge:=mg [(14,82)]} ((((((base.add Nb).add aaw).add PQ).add afJ).add aay).add Ue) Tryz.func251
def abw:ao:=af [pI,pI,pI,pd .str] [(true,(.pair (.int .i64) Y7)),rB] (c4 Pu.ic)
theorem aeG:aj Tryz.prog 191 abw:=f0 {merge:=mg [(3,20),(9,44),(12,68)]} (((base.add PO).add Nc).add afj) Tryz.func191
def V0:ao:=af [pd .str] [(true,Y9),rI] (c1 Pu.mq)
theorem adO:aj Tryz.prog 111 V0:=f0 {merge:=mg [(2,20)]} ((((base.add T6).add aeE).add aeF).add aeG) Tryz.func111
def abx:ao:=af [pf ed] [(true,(.pair (.int .i64) Y1))] (c1 Pu.tD)
theorem aeH:aj Tryz.prog 192 abx:=f0 {} base Tryz.func192
def aby:ao:=af [pd (.sl az),pf ft] [rI] (c2 Pu.jr)
def adf:aM:=aM.nil
def ZC:An:={mask:=mk [(2,[0,3,4,5])]}
@[reducible] def yT:SD:=⟨.data false (.sl .arg az)::B::B::.ptr 3 0::DI::DI::bs 14 [],Z::Z::Z::(some (.pair (.int .i64) Y1))::zs 16 [],.none⟩
def On {R:Type}(X:SD.D yT)(K:Ex→AS→Option R):=Pu.fi (fun y0=>ke 0 K yT ((z2 (u y0) X.1),X.2)) (fun y0 y1=>kr K yT ((z1 (w y0 (u y1)) X.1),X.2)) X.1.1 X.1.2.1 X.2.1.1
def Tw:aO:=cI yT On q2
def Vk:aS:=(aS.nil).add 2 Tw
theorem Sv:cC E adf ZC Vk (ak Tryz.f193 0):=lk yT On q2 fun X x=>((z2 (u x) X.1),X.2)
theorem aeI:aj Tryz.prog 193 aby:=fk ZC base Tryz.func193 (Λ:=Vk) (cF Sv nF)
def V1:ao:=af [pd (.sl az),pf ed] [(false,(.sl (.own none) az))] (c2 Pu.me)
theorem adP:aj Tryz.prog 112 V1:=f0 {merge:=mg [(17,84)],mv:=[16,31,53,60,69,85,139]} ((((base.add T6).add aeH).add aeI).add Nb) Tryz.func112
def Wt:ao:=af [pf jx] [rI] (c1 Pu.jZ)
theorem aal:aj Tryz.prog 195 Wt:=f0 {} ((base.add Na).add aav) Tryz.func195
def WQ:ao:=af [pf (.sl .str),pI,pd .str] [(true,(.sl (.own none) .str)),rB] (c3 Pu.ju)
def adt:aM:=((aM.nil.add 94 UB).add 248 Ph).add 284 W1
def ZR:An:={mask:=mk [(4,[1,2,6,8])],mv:=[19,52]}
@[reducible] def C7:SD:=⟨B::DI::.data false .str::B::B::B::.ptr 6 0::B::.ptr 8 0::bs 44 [],zs 6 ((some (.sl (.own (some 73729)) .str))::Z::(some (.sl (.own (some 98305)) .str))::zs 44 []),.none⟩
def OH {R:Type}(X:SD.D C7)(K:Ex→AS→Option R):=Pu.fj (fun y0 y1 y2=>ke 0 K C7 ((w y0 (u y1) X.1),(z1 (u y2) X.2.1),X.2.2)) X.2.1.1
def TN:aO:=cI C7 OH (fun X=>(X.1.1,X.1.2.1,X.2.1.2.1))
def Vz:aS:=(aS.nil).add 4 TN
theorem SN:cC E adt ZR Vz (ak Tryz.f255 0):=lk C7 OH (fun X=>(X.1.1,X.1.2.1,X.2.1.2.1)) fun X x=>((w x.1 (u x.2.1) X.1),(z1 (u x.2.2) X.2.1),X.2.2)
theorem afm:aj Tryz.prog 255 WQ:=fk ZR (((base.add UI).add Ua).add Ue) Tryz.func255 (Λ:=Vz) (cF SN nF)
def Ww:ao:=af [pd (.sl ar),pf (.sl .str),pI,pI,pd .str] [(true,(.sl (.own none) .str)),rB] (c5 Pu.jX)
def adg:aM:=((aM.nil.add 94 UB).add 187 RO).add 255 WQ
def ZD:An:={mask:=mk [(6,[4,10,12,13,15,16])],mv:=[32,39,52,60],sb:=mg [(15,15)]}
@[reducible] def C1:SD:=⟨bs 4 (.data false .str::bs 5 (.ptr 10 0::B::.data false (.sl .loc (.int .i64))::.data false (.sl .loc (.int .i64))::B::.ptr 15 0::DI::bs 44 [])),zs 10 ((some (.sl (.own (some 122881)) .str))::zs 4 ((some (.sl (.own (some 184321)) .str))::zs 45 [])),.none⟩
def Oo {R:Type}(X:SD.D C1)(K:Ex→AS→Option R):=Pu.fL (fun y0 y1 y2=>ke 0 K C1 ((w y0 (z2 (u y1)) X.1),(z1 (u y2) X.2.1),X.2.2)) X.1.2.1 (q2 X) X.2.1.1
def Tx:aO:=cI C1 Oo (fun X=>(X.1.1,q3 X,X.2.1.2.1))
def Vl:aS:=(aS.nil).add 6 Tx
theorem Sw:cC E adg ZD Vl (ak Tryz.f198 0):=lk C1 Oo (fun X=>(X.1.1,q3 X,X.2.1.2.1)) fun X x=>((w x.1 (z2 (u x.2.1)) X.1),(z1 (u x.2.2) X.2.1),X.2.2)
theorem aam:aj Tryz.prog 198 Ww:=fk ZD (((base.add UI).add aak).add afm) Tryz.func198 (Λ:=Vl) (cF Sw nF)
def ab7:ao:=af [pf jx,pI] [rI] (c2 Pu.jo)
theorem afk:aj Tryz.prog 252 ab7:=f0 {merge:=mg [(1,11)]} (base.add Na) Tryz.func252
def Wu:ao:=af [pd (.sl ar),pf (.sl .str),pI,pf jx,pd .str] [(true,(.sl (.own none) .str)),(true,Y1),rB] (c5 Pu.oC)
theorem aeJ:aj Tryz.prog 196 Wu:=f0 {merge:=mg [(1,22)],mv:=[26,36,51],mb:=mg [(51,13)],sb:=mg [(10,10),(11,11),(13,13)]} ((((base.add UI).add aal).add aam).add afk) Tryz.func196
def ab8:ao:=af [pf Bx] [rB] (c1 Pu.qu)
theorem afl:aj Tryz.prog 253 ab8:=f0 {merge:=mg [(1,2)]} (base.add ow) Tryz.func253
def Wv:ao:=af [pf Bx] [rS] (c1 Pu.kB)
theorem aeK:aj Tryz.prog 197 Wv:=f0 {} (((base.add Nb).add afl).add PQ) Tryz.func197
def V2:ao:=af [pd (.sl ar),pf (.sl .str),pI,pf jx,pf aU] [(true,(.sl (.own none) .str)),(true,Y1),(true,Y6),rI] (c5 Pu.jY)
def acP:aM:=(((((((aM.nil.add 94 UB).add 96 W5).add 106 Kf).add 109 RF).add 178 RN).add 195 Wt).add 196 Wu).add 197 Wv
def Zc:An:={mask:=mk [(6,[0,2,8,9,10,11,12,14,15,16])],merge:=mg [(4,32),(6,44)],mv:=[33,35,49,63,68,78,80],mb:=mg [(33,14),(35,15),(78,14),(80,15)],sb:=mg [(10,10),(11,11),(12,12),(18,18),(19,19)]}
@[reducible] def CN:SD:=⟨.data false (.sl .arg ar)::B::DI::bs 5 (.ptr 8 0::.ptr 9 0::.ptr 10 0::.ptr 11 0::.ptr 12 0::B::.ptr 14 0::.ptr 15 0::DI::bs 65 []),zs 8 ((some Y1)::(some VK)::(some (.sl (.own (some 122881)) .str))::(some Y1)::(some Y19)::Z::(some (.sl (.own (some 172033)) .str))::(some Y18)::zs 66 []),.none⟩
def NW {R:Type}(X:SD.D CN)(K:Ex→AS→Option R):=Pu.fM (fun y0 y1 y2 y3=>ke 0 K CN ((z2 (u y0) X.1),(w y1 (z4 (w y2 (u y3))) X.2.1),X.2.2)) X.1.1 X.1.2.1 X.2.1.2.1 X.2.1.2.2.1 X.2.1.2.2.2.1 X.2.1.2.2.2.2.1
def S5:aO:=cI CN NW (fun X=>(q2 X,X.2.1.1,X.2.1.2.2.2.2.2.1,X.2.1.2.2.2.2.2.2.1))
def UT:aS:=(aS.nil).add 6 S5
theorem R4:cC E acP Zc UT (ak Tryz.f114 0):=lk CN NW (fun X=>(q2 X,X.2.1.1,X.2.1.2.2.2.2.2.1,X.2.1.2.2.2.2.2.2.1)) fun X x=>((z2 (u x.1) X.1),(w x.2.1 (z4 (w x.2.2.1 (u x.2.2.2))) X.2.1),X.2.2)
theorem Z7:aj Tryz.prog 114 V2:=fk Zc ((((((((base.add UI).add o96).add H4).add Z4).add Na).add aal).add aeJ).add aeK) Tryz.func114 (Λ:=UT) (cF R4 nF)
def e25:ao:=af [pd (.sl ar),pf (.sl .str),pI,pf aA,pf aU,pd (.sl az),pI] [(true,(.sl (.own none) .str)),(true,Y4),(true,Y6),(false,(.sl (.own none) az)),rI] (c7 Pu.mm)
def g25:aM:=(((((((((((aM.nil.add 94 UB).add 96 W5).add 103 AR).add 105 RE).add 106 Kf).add 108 VY).add 109 RF).add 110 VZ).add 111 V0).add 112 V1).add 113 RG).add 114 V2
def n25:An:={mask:=mk [(6,[0,2,6,8,10,14,15,16,19,20,21])],merge:=mg [(4,50),(14,102)],mv:=[54,55,106,114,128,130,131],mb:=mg [(54,20),(128,30),(130,20)],sb:=mg [(14,14),(15,15),(16,16)]}
@[reducible] def I0:SD:=⟨.data false (.sl .arg ar)::B::DI::B::B::B::DI::B::.ptr 8 0::B::.ptr 10 0::B::B::B::.ptr 14 0::.ptr 15 0::.ptr 16 0::B::B::.data false (.sl (.own (some 233472)) az)::.ptr 20 0::DI::bs 111 [],zs 8 ((some (.sl .arg .str))::Z::(some Y4)::Z::Z::Z::(some (.sl (.own (some 172033)) .str))::(some Y4)::(some Y17)::Z::Z::Z::(some Y16)::zs 112 []),.none⟩
def QF {R:Type}(X:SD.D I0)(K:Ex→AS→Option R):=Pu.eL (fun y0 y1 y2 y3=>ke 0 K I0 ((z3 (w y0 (u y1)) X.1),(z1 (w y2 (z3 (u y3))) X.2.1),X.2.2)) X.1.1 X.1.2.1 (q2 X) X.2.1.1 X.2.1.2.2.1 X.2.1.2.2.2.1 X.2.1.2.2.2.2.1
def Yf:aO:=cI I0 QF (fun X=>(q3 X,q4 X,X.2.1.2.1,X.2.1.2.2.2.2.2.1))
def L25:aS:=(aS.nil).add 6 Yf
theorem Xr:cC E g25 n25 L25 (ak Tryz.f25 0):=lk I0 QF (fun X=>(q3 X,q4 X,X.2.1.2.1,X.2.1.2.2.2.2.2.1)) fun X x=>((z3 (w x.1 (u x.2.1)) X.1),(z1 (w x.2.2.1 (z3 (u x.2.2.2))) X.2.1),X.2.2)
theorem o25:aj Tryz.prog 25 e25:=fk n25 ((((((((((((base.add UI).add o96).add ow).add Z3).add H4).add adN).add Z4).add Z5).add adO).add adP).add Z6).add Z7) Tryz.func25 (Λ:=L25) (cF Xr nF)
def aaV:ao:=af [pI,pI,pI] [(true,Y6),rB] (c3 Pu.ml)
def acQ:aM:=aM.nil.add 106 Kf
def Zd:An:={mask:=mk [(3,[2,6,8,9])],merge:=mg [(3,20)],mv:=[24,33]}
@[reducible] def CO:SD:=⟨B::B::DI::B::B::B::.ptr 6 0::B::.ptr 8 0::DI::bs 24 [],zs 6 ((some Y22)::Z::(some Y21)::zs 25 []),.none⟩
def NX {R:Type}(X:SD.D CO)(K:Ex→AS→Option R):=Pu.gK (fun y0 y1=>ke 0 K CO ((z1 (u y0) X.1),(z1 (u y1) X.2.1),X.2.2)) X.1.1 X.2.1.1
def S6:aO:=cI CO NX (fun X=>(X.1.2.1,X.2.1.2.1))
def UU:aS:=(aS.nil).add 3 S6
theorem R5:cC E acQ Zd UU (ak Tryz.f115 0):=lk CO NX (fun X=>(X.1.2.1,X.2.1.2.1)) fun X x=>((z1 (u x.1) X.1),(z1 (u x.2) X.2.1),X.2.2)
theorem Z8:aj Tryz.prog 115 aaV:=fk Zd (base.add H4) Tryz.func115 (Λ:=UU) (cF R5 nF)
def e26:ao:=af [] [(true,Uv)] fun a=>Pu.ny
theorem o26:aj Tryz.prog 26 e26:=f0 {mv:=[4,9]} (base.add Z8) Tryz.func26
def aaW:ao:=af [pd (.sl ar),pf (.sl .str),pI,pI,pd .str] [(true,(.sl (.own none) .str)),rB] (c5 Pu.mj)
def acR:aM:=aM.nil.add 198 Ww
def Ze:An:={mask:=mk [(3,[0,2,3,4,6,10,12,13])],mv:=[27]}
@[reducible] def CP:SD:=⟨.data false (.sl .arg ar)::B::DI::DI::.data false .str::B::.ptr 6 0::B::B::B::.ptr 10 0::B::.data false (.sl (.own (some 147456)) ar)::DI::bs 25 [],zs 6 ((some (.sl .arg .str))::Z::Z::Z::(some (.sl (.own (some 122881)) .str))::zs 28 []),.none⟩
def NY {R:Type}(X:SD.D CP)(K:Ex→AS→Option R):=Pu.ib (fun y0 y1=>ke 0 K CP ((z4 (w y0 (u y1)) X.1),X.2)) X.1.1 X.1.2.1 (q2 X) (q3 X) X.2.1.1 X.2.1.2.1
def S7:aO:=cI CP NY (fun X=>(q4 X,q5 X))
def UW:aS:=(aS.nil).add 3 S7
theorem R6:cC E acR Ze UW (ak Tryz.f116 0):=lk CP NY (fun X=>(q4 X,q5 X)) fun X x=>((z4 (w x.1 (u x.2)) X.1),X.2)
theorem adQ:aj Tryz.prog 116 aaW:=fk Ze (base.add aam) Tryz.func116 (Λ:=UW) (cF R6 nF)
def aaX:ao:=af [pI,pd (.int .u8)] [rS] (c2 Pu.mu)
def acS:aM:=aM.nil
def Zf:An:={mask:=mk [(3,[0,1,5,6])]}
@[reducible] def CQ:SD:=⟨DI::.data false (.int .u8)::B::B::B::.data false (.sl (.own (some 61440)) (.int .u8))::DI::bs 13 [],zs 20 [],.none⟩
def NZ {R:Type}(X:SD.D CQ)(K:Ex→AS→Option R):=Pu.kG (fun y0 y1=>ke 0 K CQ ((z2 (w y0 (u y1)) X.1),X.2)) X.1.1 X.1.2.1
def S8:aO:=cI CQ NZ (fun X=>(q2 X,q3 X))
def UX:aS:=(aS.nil).add 3 S8
theorem R7:cC E acS Zf UX (ak Tryz.f117 0):=lk CQ NZ (fun X=>(q2 X,q3 X)) fun X x=>((z2 (w x.1 (u x.2)) X.1),X.2)
theorem adR:aj Tryz.prog 117 aaX:=fk Zf base Tryz.func117 (Λ:=UX) (cF R7 nF)
def e27:ao:=Dg a8 [pI] [] fun x a=>Pu.mx x a.1
theorem o27:aj Tryz.prog 27 e27:=aj.Qu (Qr (an:={mv:=[47,51,65,67,84],mb:=mg [(84,6)],sb:=mg [(6,6),(50,0),(70,0),(71,5)]}) (Λ:=aS.nil) ((((base.add Z7).add Z8).add adQ).add adR) Tryz.func27 (by kernel_rfl) (hF (by kernel_rfl) nF)) (fun x a=>by kernel_rfl)
def e5:ao:=af [pf a8] [(true,Y5)] (c1 Pu.mi)
def g5:aM:=((((aM.nil.add 23 e23).add 24 e24).add 25 e25).add 26 e26).add 27 e27
def n5:An:={mask:=mk [(5,[1,2,3,4]),(13,[1,2,3,10]),(19,[1,2,3,11])],mv:=[17,25,43,45,46,48,58,60,71,144],mb:=mg [(71,3)],sb:=mg [(5,5),(6,6),(7,7),(81,3)]}
@[reducible] def Pd:SD:=⟨B::.ptr 1 0::.ptr 2 0::.ptr 3 0::DI::bs 140 [],Z::(some Y2)::(some Y0)::(some Y3)::zs 141 [],.none⟩
def aaL {R:Type}(X:SD.D Pd)(K:Ex→AS→Option R):=Pu.ia (fun y0 y1=>ke 0 K Pd ((u y0 X.1),(z2 (u y1) X.2.1),X.2.2)) X.2.1.1 X.2.1.2.1
def adG:aO:=cI Pd aaL (fun X=>(X.1.1,X.2.1.2.2.1))
@[reducible] def Jc:SD:=⟨B::.ptr 1 0::.ptr 2 0::.ptr 3 0::bs 6 (DI::bs 134 []),Z::(some Y2)::(some Y0)::(some Y3)::zs 141 [],.none⟩
def QY {R:Type}(X:SD.D Jc)(K:Ex→AS→Option R):=Pu.gu (fun y0 y1=>ke 2 K Jc ((u y0 X.1),(z2 (u y1) X.2.1),X.2.2)) X.2.1.1 X.2.1.2.1
def Yy:aO:=cI Jc QY (fun X=>(X.1.1,X.2.1.2.2.1))
@[reducible] def Jd:SD:=⟨B::.ptr 1 0::.ptr 2 0::.ptr 3 0::bs 7 (DI::bs 133 []),Z::(some Y2)::(some Y0)::(some Y3)::zs 141 [],.none⟩
def QZ {R:Type}(X:SD.D Jd)(K:Ex→AS→Option R):=Pu.dX (fun y0 y1=>ke 4 K Jd ((u y0 X.1),(z2 (u y1) X.2.1),X.2.2)) X.2.1.1 X.2.1.2.1
def Yz:aO:=cI Jd QZ (fun X=>(X.1.1,X.2.1.2.2.1))
def L5:aS:=(((aS.nil).add 5 adG).add 13 Yy).add 19 Yz
theorem adE:cC E g5 n5 L5 (ak Tryz.f5 0):=lk Pd aaL (fun X=>(X.1.1,X.2.1.2.2.1)) fun X x=>((u x.1 X.1),(z2 (u x.2) X.2.1),X.2.2)
theorem XK:cC E g5 n5 L5 (ak Tryz.f5 1):=lk Jc QY (fun X=>(X.1.1,X.2.1.2.2.1)) fun X x=>((u x.1 X.1),(z2 (u x.2) X.2.1),X.2.2)
theorem XL:cC E g5 n5 L5 (ak Tryz.f5 2):=lk Jd QZ (fun X=>(X.1.1,X.2.1.2.2.1)) fun X x=>((u x.1 X.1),(z2 (u x.2) X.2.1),X.2.2)
theorem o5:aj Tryz.prog 5 e5:=fk n5 (((((base.add o23).add o24).add o25).add o26).add o27) Tryz.func5 (Λ:=L5) (cF adE (cF XK (cF XL nF)))
def e38:ao:=af [pd (.sl .str)] [(false,(.sl (.own none) .str))] (c1 Pu.l3)
def g38:aM:=aM.nil
def n38:An:={mask:=mk [(3,[0,3,4])],mv:=[21]}
@[reducible] def I7:SD:=⟨.data false (.sl .arg .str)::B::B::.data false (.sl (.own (some 36864)) .str)::DI::bs 17 [],zs 22 [],.none⟩
def QM {R:Type}(X:SD.D I7)(K:Ex→AS→Option R):=Pu.qm (fun y0 y1=>ke 0 K I7 ((z1 (w y0 (u y1)) X.1),X.2)) X.1.1
def Ym:aO:=cI I7 QM (fun X=>(X.1.2.1,q2 X))
def L38:aS:=(aS.nil).add 3 Ym
theorem Xy:cC E g38 n38 L38 (ak Tryz.f38 0):=lk I7 QM (fun X=>(X.1.2.1,q2 X)) fun X x=>((z1 (w x.1 (u x.2)) X.1),X.2)
theorem o38:aj Tryz.prog 38 e38:=fk n38 base Tryz.func38 (Λ:=L38) (cF Xy nF)
def e28:ao:=af [pf (.sl .str)] [(true,(.sl (.own none) .str))] (c1 Pu.jT)
theorem o28:aj Tryz.prog 28 e28:=f0 {mv:=[8]} (base.add o38) Tryz.func28
def V3:ao:=af [pf ar] [(true,Y24)] (c1 Pu.l0)
theorem adS:aj Tryz.prog 118 V3:=f0 {} base Tryz.func118
def e29:ao:=af [pd (.sl ar)] [(false,(.sl (.own none) ar))] (c1 Pu.n6)
def g29:aM:=aM.nil.add 118 V3
def n29:An:={mask:=mk [(3,[0,3,4])],mv:=[22]}
@[reducible] def I1:SD:=⟨.data false (.sl .arg ar)::B::B::.data false (.sl (.own (some 36864)) ar)::DI::bs 18 [],zs 23 [],.none⟩
def QG {R:Type}(X:SD.D I1)(K:Ex→AS→Option R):=Pu.pE (fun y0 y1=>ke 0 K I1 ((z1 (w y0 (u y1)) X.1),X.2)) X.1.1
def Yg:aO:=cI I1 QG (fun X=>(X.1.2.1,q2 X))
def L29:aS:=(aS.nil).add 3 Yg
theorem Xs:cC E g29 n29 L29 (ak Tryz.f29 0):=lk I1 QG (fun X=>(X.1.2.1,q2 X)) fun X x=>((z1 (w x.1 (u x.2)) X.1),X.2)
theorem o29:aj Tryz.prog 29 e29:=fk n29 (base.add adS) Tryz.func29 (Λ:=L29) (cF Xs nF)
def aaY:ao:=af [pf jx] [(true,Y1)] (c1 Pu.qj)
theorem Z9:aj Tryz.prog 119 aaY:=f0 {} base Tryz.func119
def e39:ao:=af [pd (.sl (.int .i64))] [(false,(.sl (.own none) (.int .i64)))] (c1 Pu.fV)
def g39:aM:=aM.nil
def n39:An:={mask:=mk [(3,[0,3,4])],mv:=[21]}
@[reducible] def I8:SD:=⟨.data false (.sl .arg (.int .i64))::B::B::.data false (.sl (.own (some 36864)) (.int .i64))::DI::bs 17 [],zs 22 [],.none⟩
def QN {R:Type}(X:SD.D I8)(K:Ex→AS→Option R):=Pu.tf (fun y0 y1=>ke 0 K I8 ((z1 (w y0 (u y1)) X.1),X.2)) X.1.1
def Yn:aO:=cI I8 QN (fun X=>(X.1.2.1,q2 X))
def L39:aS:=(aS.nil).add 3 Yn
theorem Xz:cC E g39 n39 L39 (ak Tryz.f39 0):=lk I8 QN (fun X=>(X.1.2.1,q2 X)) fun X x=>((z1 (w x.1 (u x.2)) X.1),X.2)
theorem o39:aj Tryz.prog 39 e39:=fk n39 base Tryz.func39 (Λ:=L39) (cF Xz nF)
def V4:ao:=af [pf aU] [(true,Y6)] (c1 Pu.iH)
theorem aaa:aj Tryz.prog 120 V4:=f0 {mv:=[17]} (base.add o39) Tryz.func120
def Wx:ao:=af [pf bG] [(true,(.pair (.int .i64) (.pair (.int .i64) (.sl (.own none) (.int .i64)))))] (c1 Pu.k6)
theorem aeL:aj Tryz.prog 199 Wx:=f0 {mv:=[14]} (base.add o39) Tryz.func199
def aaZ:ao:=af [pd (.sl bG)] [(false,(.sl (.own none) bG))] (c1 Pu.rP)
def acT:aM:=aM.nil.add 199 Wx
def Zg:An:={mask:=mk [(3,[0,3,4])],mv:=[22]}
@[reducible] def CR:SD:=⟨.data false (.sl .arg bG)::B::B::.data false (.sl (.own (some 36864)) bG)::DI::bs 18 [],zs 23 [],.none⟩
def N0 {R:Type}(X:SD.D CR)(K:Ex→AS→Option R):=Pu.sO (fun y0 y1=>ke 0 K CR ((z1 (w y0 (u y1)) X.1),X.2)) X.1.1
def S9:aO:=cI CR N0 (fun X=>(X.1.2.1,q2 X))
def UY:aS:=(aS.nil).add 3 S9
theorem R8:cC E acT Zg UY (ak Tryz.f121 0):=lk CR N0 (fun X=>(X.1.2.1,q2 X)) fun X x=>((z1 (w x.1 (u x.2)) X.1),X.2)
theorem adT:aj Tryz.prog 121 aaZ:=fk Zg (base.add aeL) Tryz.func121 (Λ:=UY) (cF R8 nF)
def e30:ao:=af [pf aY] [(true,Uv)] (c1 Pu.iI)
theorem o30:aj Tryz.prog 30 e30:=f0 {mv:=[19]} (((base.add Z9).add aaa).add adT) Tryz.func30
def abA:ao:=af [pf aP] [(true,Uw)] (c1 Pu.dz)
theorem aeM:aj Tryz.prog 200 abA:=f0 {} base Tryz.func200
def acu:ao:=af [pf dn] [(true,(.pair (.int .i64) Y7))] (c1 Pu.pG)
theorem afK:aj Tryz.prog 285 acu:=f0 {} base Tryz.func285
def aca:ao:=af [pf ed] [(true,Y9)] (c1 Pu.jU)
theorem afn:aj Tryz.prog 256 aca:=f0 {} (base.add afK) Tryz.func256
def abB:ao:=af [pf nS] [(true,(.pair Y9 (.pair (.int .i64) (.int .i64))))] (c1 Pu.l4)
theorem aeN:aj Tryz.prog 201 abB:=f0 {} (base.add afn) Tryz.func201
def V5:ao:=af [pf aA] [(true,Y4)] (c1 Pu.fE)
theorem adU:aj Tryz.prog 122 V5:=f0 {} (((base.add Z9).add aeM).add aeN) Tryz.func122
def e31:ao:=af [pd (.sl aA)] [(false,(.sl (.own none) aA))] (c1 Pu.n8)
def g31:aM:=aM.nil.add 122 V5
def n31:An:={mask:=mk [(3,[0,3,4])],mv:=[22]}
@[reducible] def I2:SD:=⟨.data false (.sl .arg aA)::B::B::.data false (.sl (.own (some 36864)) aA)::DI::bs 18 [],zs 23 [],.none⟩
def QH {R:Type}(X:SD.D I2)(K:Ex→AS→Option R):=Pu.pF (fun y0 y1=>ke 0 K I2 ((z1 (w y0 (u y1)) X.1),X.2)) X.1.1
def Yh:aO:=cI I2 QH (fun X=>(X.1.2.1,q2 X))
def L31:aS:=(aS.nil).add 3 Yh
theorem Xt:cC E g31 n31 L31 (ak Tryz.f31 0):=lk I2 QH (fun X=>(X.1.2.1,q2 X)) fun X x=>((z1 (w x.1 (u x.2)) X.1),X.2)
theorem o31:aj Tryz.prog 31 e31:=fk n31 (base.add adU) Tryz.func31 (Λ:=L31) (cF Xt nF)
def e32:ao:=af [pd (.sl aU)] [(false,(.sl (.own none) aU))] (c1 Pu.rN)
def g32:aM:=aM.nil.add 120 V4
def n32:An:={mask:=mk [(3,[0,3,4])],mv:=[22]}
@[reducible] def I3:SD:=⟨.data false (.sl .arg aU)::B::B::.data false (.sl (.own (some 36864)) aU)::DI::bs 18 [],zs 23 [],.none⟩
def QI {R:Type}(X:SD.D I3)(K:Ex→AS→Option R):=Pu.sM (fun y0 y1=>ke 0 K I3 ((z1 (w y0 (u y1)) X.1),X.2)) X.1.1
def Yi:aO:=cI I3 QI (fun X=>(X.1.2.1,q2 X))
def L32:aS:=(aS.nil).add 3 Yi
theorem Xu:cC E g32 n32 L32 (ak Tryz.f32 0):=lk I3 QI (fun X=>(X.1.2.1,q2 X)) fun X x=>((z1 (w x.1 (u x.2)) X.1),X.2)
theorem o32:aj Tryz.prog 32 e32:=fk n32 (base.add aaa) Tryz.func32 (Λ:=L32) (cF Xu nF)
def V6:ao:=af [pf aJ] [(true,(.pair (.int .i64) (.pair (.int .i64) (.pair (.int .i64) (.pair (.int .i64) (.pair .bool .bool))))))] (c1 Pu.nm)
theorem adV:aj Tryz.prog 123 V6:=f0 {} base Tryz.func123
def e33:ao:=af [pd (.sl aJ)] [(false,(.sl (.own none) aJ))] (c1 Pu.pJ)
def g33:aM:=aM.nil.add 123 V6
def n33:An:={mask:=mk [(3,[0,3,4])],mv:=[22]}
@[reducible] def I4:SD:=⟨.data false (.sl .arg aJ)::B::B::.data false (.sl (.own (some 36864)) aJ)::DI::bs 18 [],zs 23 [],.none⟩
def QJ {R:Type}(X:SD.D I4)(K:Ex→AS→Option R):=Pu.qn (fun y0 y1=>ke 0 K I4 ((z1 (w y0 (u y1)) X.1),X.2)) X.1.1
def Yj:aO:=cI I4 QJ (fun X=>(X.1.2.1,q2 X))
def L33:aS:=(aS.nil).add 3 Yj
theorem Xv:cC E g33 n33 L33 (ak Tryz.f33 0):=lk I4 QJ (fun X=>(X.1.2.1,q2 X)) fun X x=>((z1 (w x.1 (u x.2)) X.1),X.2)
theorem o33:aj Tryz.prog 33 e33:=fk n33 (base.add adV) Tryz.func33 (Λ:=L33) (cF Xv nF)
def e34:ao:=af [pd (.sl .bool)] [(false,(.sl (.own none) .bool))] (c1 Pu.rM)
def g34:aM:=aM.nil
def n34:An:={mask:=mk [(3,[0,3,4])],mv:=[21]}
@[reducible] def I5:SD:=⟨.data false (.sl .arg .bool)::B::B::.data false (.sl (.own (some 36864)) .bool)::DI::bs 17 [],zs 22 [],.none⟩
def QK {R:Type}(X:SD.D I5)(K:Ex→AS→Option R):=Pu.sL (fun y0 y1=>ke 0 K I5 ((z1 (w y0 (u y1)) X.1),X.2)) X.1.1
def Yk:aO:=cI I5 QK (fun X=>(X.1.2.1,q2 X))
def L34:aS:=(aS.nil).add 3 Yk
theorem Xw:cC E g34 n34 L34 (ak Tryz.f34 0):=lk I5 QK (fun X=>(X.1.2.1,q2 X)) fun X x=>((z1 (w x.1 (u x.2)) X.1),X.2)
theorem o34:aj Tryz.prog 34 e34:=fk n34 base Tryz.func34 (Λ:=L34) (cF Xw nF)
def e35:ao:=af [pf bV] [(true,Y14)] (c1 Pu.jS)
theorem o35:aj Tryz.prog 35 e35:=f0 {mv:=[14]} (base.add o39) Tryz.func35
def Wy:ao:=af [pf bR] [(true,(.pair (.int .i64) (.pair (.int .i64) (.pair (.int .i64) (.pair (.int .i64) (.pair (.int .i64) Y1))))))] (c1 Pu.qk)
theorem aeO:aj Tryz.prog 202 Wy:=f0 {} base Tryz.func202
def aa0:ao:=af [pd (.sl bR)] [(false,(.sl (.own none) bR))] (c1 Pu.rO)
def acU:aM:=aM.nil.add 202 Wy
def Zh:An:={mask:=mk [(3,[0,3,4])],mv:=[22]}
@[reducible] def CS:SD:=⟨.data false (.sl .arg bR)::B::B::.data false (.sl (.own (some 36864)) bR)::DI::bs 18 [],zs 23 [],.none⟩
def N1 {R:Type}(X:SD.D CS)(K:Ex→AS→Option R):=Pu.sN (fun y0 y1=>ke 0 K CS ((z1 (w y0 (u y1)) X.1),X.2)) X.1.1
def Ta:aO:=cI CS N1 (fun X=>(X.1.2.1,q2 X))
def UZ:aS:=(aS.nil).add 3 Ta
theorem R9:cC E acU Zh UZ (ak Tryz.f124 0):=lk CS N1 (fun X=>(X.1.2.1,q2 X)) fun X x=>((z1 (w x.1 (u x.2)) X.1),X.2)
theorem adW:aj Tryz.prog 124 aa0:=fk Zh (base.add aeO) Tryz.func124 (Λ:=UZ) (cF R9 nF)
def abD:ao:=af [pf ft] [(true,(.pair (.int .i64) Y1))] (c1 Pu.qi)
theorem aan:aj Tryz.prog 204 abD:=f0 {} base Tryz.func204
def WR:ao:=af [pf a9] [(true,(.pair (.int .i64) (.pair (.pair (.int .i64) Y1) (.int .i64))))] (c1 Pu.k7)
theorem afo:aj Tryz.prog 257 WR:=f0 {} (base.add aan) Tryz.func257
def abC:ao:=af [pd (.sl a9)] [(false,(.sl (.own none) a9))] (c1 Pu.rQ)
def adh:aM:=aM.nil.add 257 WR
def ZE:An:={mask:=mk [(3,[0,3,4])],mv:=[22]}
@[reducible] def C2:SD:=⟨.data false (.sl .arg a9)::B::B::.data false (.sl (.own (some 36864)) a9)::DI::bs 18 [],zs 23 [],.none⟩
def Oq {R:Type}(X:SD.D C2)(K:Ex→AS→Option R):=Pu.sP (fun y0 y1=>ke 0 K C2 ((z1 (w y0 (u y1)) X.1),X.2)) X.1.1
def Ty:aO:=cI C2 Oq (fun X=>(X.1.2.1,q2 X))
def Vm:aS:=(aS.nil).add 3 Ty
theorem Sx:cC E adh ZE Vm (ak Tryz.f203 0):=lk C2 Oq (fun X=>(X.1.2.1,q2 X)) fun X x=>((z1 (w x.1 (u x.2)) X.1),X.2)
theorem aeP:aj Tryz.prog 203 abC:=fk ZE (base.add afo) Tryz.func203 (Λ:=Vm) (cF Sx nF)
def aa1:ao:=af [pf (.sl a9)] [(true,(.sl (.own none) a9))] (c1 Pu.fD)
theorem adX:aj Tryz.prog 125 aa1:=f0 {mv:=[8]} (base.add aeP) Tryz.func125
def aa2:ao:=af [pf cL] [(true,(.pair .str (.sl (.own none) (.int .i64))))] (c1 Pu.jV)
theorem adY:aj Tryz.prog 126 aa2:=f0 {mv:=[11]} (base.add o39) Tryz.func126
def e36:ao:=af [pf bm] [(true,Y12)] (c1 Pu.gG)
theorem o36:aj Tryz.prog 36 e36:=f0 {mv:=[16]} (((base.add adW).add adX).add adY) Tryz.func36
def V7:ao:=af [pf az] [(true,(.pair (.pair (.int .i64) Y1) (.pair (.int .i64) (.pair .str .bool))))] (c1 Pu.gT)
theorem adZ:aj Tryz.prog 127 V7:=f0 {} (base.add aan) Tryz.func127
def e37:ao:=af [pd (.sl az)] [(false,(.sl (.own none) az))] (c1 Pu.pH)
def g37:aM:=aM.nil.add 127 V7
def n37:An:={mask:=mk [(3,[0,3,4])],mv:=[22]}
@[reducible] def I6:SD:=⟨.data false (.sl .arg az)::B::B::.data false (.sl (.own (some 36864)) az)::DI::bs 18 [],zs 23 [],.none⟩
def QL {R:Type}(X:SD.D I6)(K:Ex→AS→Option R):=Pu.ql (fun y0 y1=>ke 0 K I6 ((z1 (w y0 (u y1)) X.1),X.2)) X.1.1
def Yl:aO:=cI I6 QL (fun X=>(X.1.2.1,q2 X))
def L37:aS:=(aS.nil).add 3 Yl
theorem Xx:cC E g37 n37 L37 (ak Tryz.f37 0):=lk I6 QL (fun X=>(X.1.2.1,q2 X)) fun X x=>((z1 (w x.1 (u x.2)) X.1),X.2)
theorem o37:aj Tryz.prog 37 e37:=fk n37 (base.add adZ) Tryz.func37 (Λ:=L37) (cF Xx nF)
def e40:ao:=af [pf ft] [(true,(.pair (.int .i64) Y1))] (c1 Pu.n4)
theorem o40:aj Tryz.prog 40 e40:=f0 {} base Tryz.func40
def e6:ao:=af [pf a8] [(true,Y5)] (c1 Pu.fU)
theorem o6:aj Tryz.prog 6 e6:=f0 {mv:=[63]} (((((((((((((base.add o28).add o29).add o30).add o31).add o32).add o33).add o34).add o35).add o36).add o37).add o38).add o39).add o40) Tryz.func6
def Wc:ao:=af [pd (.sl .str)] [(false,(.sl (.own none) .str))] (c1 Pu.dJ)
theorem aab:aj Tryz.prog 135 Wc:=f0 {} base Tryz.func135
def Kg:ao:=af [pf (.sl .str)] [(true,(.sl (.own none) .str))] (c1 Pu.cx)
theorem K2:aj Tryz.prog 128 Kg:=f0 {} (base.add aab) Tryz.func128
def V8:ao:=af [pd (.sl ar)] [(false,(.sl (.own none) ar))] (c1 Pu.lD)
theorem ad0:aj Tryz.prog 129 V8:=f0 {} base Tryz.func129
def Pg:ao:=af [pd (.sl (.int .i64))] [(false,(.sl (.own none) (.int .i64)))] (c1 Pu.cu)
theorem K3:aj Tryz.prog 136 Pg:=f0 {} base Tryz.func136
def Pf:ao:=af [pf aU] [(true,Y6)] (c1 Pu.cQ)
theorem M8:aj Tryz.prog 131 Pf:=f0 {mv:=[7]} (base.add K3) Tryz.func131
def abE:ao:=af [pd (.sl bG)] [(false,(.sl (.own none) bG))] (c1 Pu.m7)
def adi:aM:=aM.nil.add 136 Pg
def ZF:An:={mask:=mk [(3,[3,7,8,9])],mv:=[13,25]}
@[reducible] def C3:SD:=⟨B::B::B::.data false (.sl (.own (some 36864)) bG)::B::B::B::.data false (.sl .arg bG)::DI::DI::bs 16 [],zs 26 [],.none⟩
def Ot {R:Type}(X:SD.D C3)(K:Ex→AS→Option R):=Pu.jc (fun y0 y1=>ke 0 K C3 ((w y0 (z2 (u y1)) X.1),X.2)) X.1.2.1 (q2 X)
def Tz:aO:=cI C3 Ot (fun X=>(X.1.1,q3 X))
def Vn:aS:=(aS.nil).add 3 Tz
theorem Sy:cC E adi ZF Vn (ak Tryz.f205 0):=lk C3 Ot (fun X=>(X.1.1,q3 X)) fun X x=>((w x.1 (z2 (u x.2)) X.1),X.2)
theorem aeQ:aj Tryz.prog 205 abE:=fk ZF (base.add K3) Tryz.func205 (Λ:=Vn) (cF Sy nF)
def V9:ao:=af [pf aY] [(true,Uv)] (c1 Pu.qa)
theorem ad1:aj Tryz.prog 130 V9:=f0 {sb:=mg [(2,2)]} ((base.add M8).add aeQ) Tryz.func130
def Wa:ao:=af [pf bV] [(true,Y14)] (c1 Pu.kk)
theorem ad2:aj Tryz.prog 132 Wa:=f0 {mv:=[7]} (base.add K3) Tryz.func132
def abF:ao:=af [pf (.sl a9)] [(true,(.sl (.own none) a9))] (c1 Pu.lE)
theorem aeR:aj Tryz.prog 206 abF:=f0 {} base Tryz.func206
def abG:ao:=af [pf cL] [(true,(.pair .str (.sl (.own none) (.int .i64))))] (c1 Pu.kl)
theorem aeS:aj Tryz.prog 207 abG:=f0 {sb:=mg [(2,2)]} (base.add K3) Tryz.func207
def Wb:ao:=af [pf bm] [(true,Y12)] (c1 Pu.hU)
theorem ad3:aj Tryz.prog 133 Wb:=f0 {sb:=mg [(2,2)]} ((base.add aeR).add aeS) Tryz.func133
def RH:ao:=af [pd (.sl az)] [(false,(.sl (.own none) az))] (c1 Pu.dI)
theorem T4:aj Tryz.prog 134 RH:=f0 {} base Tryz.func134
def e41:ao:=af [pf a8] [(true,Y5)] (c1 Pu.m6)
def g41:aM:=((((((((aM.nil.add 128 Kg).add 129 V8).add 130 V9).add 131 Pf).add 132 Wa).add 133 Wb).add 134 RH).add 135 Wc).add 136 Pg
def n41:An:={mask:=mk [(8,[1,2,3,27,28,29])],mv:=[34,75],mb:=mg [(34,3)],sb:=mg [(39,3)]}
@[reducible] def I9:SD:=⟨B::.ptr 1 0::.ptr 2 0::.ptr 3 0::bs 23 (.data false (.sl .arg aU)::DI::DI::bs 46 []),Z::(some Y2)::(some Y0)::(some Y8)::zs 72 [],.none⟩
def QO {R:Type}(X:SD.D I9)(K:Ex→AS→Option R):=Pu.jb (fun y0 y1=>ke 0 K I9 ((z2 (u y0) X.1),(z2 (u y1) X.2.1),X.2.2)) X.1.1 X.1.2.1 X.2.1.1 X.2.1.2.1
def Yo:aO:=cI I9 QO (fun X=>(q2 X,X.2.1.2.2.1))
def L41:aS:=(aS.nil).add 8 Yo
theorem XA:cC E g41 n41 L41 (ak Tryz.f41 0):=lk I9 QO (fun X=>(q2 X,X.2.1.2.2.1)) fun X x=>((z2 (u x.1) X.1),(z2 (u x.2) X.2.1),X.2.2)
theorem o41:aj Tryz.prog 41 e41:=fk n41 (((((((((base.add K2).add ad0).add ad1).add M8).add ad2).add ad3).add T4).add aab).add K3) Tryz.func41 (Λ:=L41) (cF XA nF)
def RI:ao:=af [pf (.sl .str)] [rB] (c1 Pu.jJ)
def acV:aM:=aM.nil
def Zi:An:={mask:=mk [(2,[1,2,6,7,8])]}
@[reducible] def yF:SD:=⟨B::.ptr 1 0::DB::B::B::B::.data false (.sl .arg .str)::DI::DI::bs 11 [],Z::(some (.sl .arg .str))::zs 18 [],.none⟩
def N2 {R:Type}(X:SD.D yF)(K:Ex→AS→Option R):=Pu.qN (fun y0=>ke 0 K yF ((z3 (u y0) X.1),X.2)) (fun y0 y1=>kr K yF ((w y0 (z2 (u y1)) X.1),X.2)) X.1.1 X.1.2.1 (q2 X) X.2.1.1
def Tb:aO:=cI yF N2 q3
def U0:aS:=(aS.nil).add 2 Tb
theorem Sa:cC E acV Zi U0 (ak Tryz.f137 0):=lk yF N2 q3 fun X x=>((z3 (u x) X.1),X.2)
theorem T5:aj Tryz.prog 137 RI:=fk Zi base Tryz.func137 (Λ:=U0) (cF Sa nF)
def AU:ao:=af [pI,pI,pI] [rB] (c3 Pu.ah)
theorem ox:aj Tryz.prog 141 AU:=f0 {merge:=mg [(1,6)]} base Tryz.func141
def Wz:ao:=af [pd (.sl ar),pI,pI] [rI] (c3 Pu.fA)
def adj:aM:=aM.nil
def ZG:An:={mask:=mk [(2,[1,2,6,9,10,11])],merge:=mg [(4,25)]}
@[reducible] def yU:SD:=⟨B::DI::DI::B::B::B::DI::B::B::.data false (.sl .arg ar)::DI::DI::bs 16 [],zs 28 [],.none⟩
def Ou {R:Type}(X:SD.D yU)(K:Ex→AS→Option R):=Pu.fc (fun y0=>ke 0 K yU ((z5 (u y0) X.1),X.2)) (fun y0 y1=>kr K yU ((z2 (w y0 (z2 (u y1))) X.1),X.2)) X.1.1 X.1.2.1 (q2 X) (q3 X) (q4 X)
def TA:aO:=cI yU Ou q5
def Vo:aS:=(aS.nil).add 2 TA
theorem Sz:cC E adj ZG Vo (ak Tryz.f208 0):=lk yU Ou q5 fun X x=>((z5 (u x) X.1),X.2)
theorem aao:aj Tryz.prog 208 Wz:=fk ZG base Tryz.func208 (Λ:=Vo) (cF Sz nF)
def RJ:ao:=af [pd (.sl ar)] [rB] (c1 Pu.gE)
def acW:aM:=(aM.nil.add 141 AU).add 208 Wz
def Zj:An:={mask:=mk [(2,[0,2,5,6,7])],merge:=mg [(4,37)]}
@[reducible] def yG:SD:=⟨.data false (.sl .arg ar)::B::DB::B::B::.data false (.sl .arg ar)::DI::DI::bs 34 [],zs 42 [],.none⟩
def N3 {R:Type}(X:SD.D yG)(K:Ex→AS→Option R):=Pu.gj (fun y0=>ke 0 K yG ((z4 (u y0) X.1),X.2)) (fun y0 y1=>kr K yG ((z1 (w y0 (z2 (u y1))) X.1),X.2)) X.1.1 X.1.2.1 (q2 X) (q3 X)
def Tc:aO:=cI yG N3 q4
def U1:aS:=(aS.nil).add 2 Tc
theorem Sb:cC E acW Zj U1 (ak Tryz.f138 0):=lk yG N3 q4 fun X x=>((z4 (u x) X.1),X.2)
theorem aac:aj Tryz.prog 138 RJ:=fk Zj ((base.add ox).add aao) Tryz.func138 (Λ:=U1) (cF Sb nF)
def Kh:ao:=af [pf aU] [rB] (c1 Pu.cY)
def acZ:aM:=aM.nil.add 141 AU
def Zm:An:={mask:=mk [(5,[1,2,3,26,27,28])],merge:=mg [(1,21),(7,43)]}
@[reducible] def yJ:SD:=⟨B::.ptr 1 0::DB::.data false (.sl (.own (some 36864)) .bool)::bs 22 (.data false (.sl .arg (.int .i64))::DI::DI::bs 19 []),Z::(some VK)::zs 46 [],.none⟩
def N6 {R:Type}(X:SD.D yJ)(K:Ex→AS→Option R):=Pu.ly (fun y0 y1=>ke 0 K yJ ((z1 (w y0 (z2 (u y1))) X.1),X.2)) (fun y0 y1 y2=>kr K yJ ((w y0 (w y1 (z2 (u y2))) X.1),X.2)) X.1.1 (q2 X) (q3 X) X.2.1.1
def Tf:aO:=cI yJ N6 (fun X=>(X.1.2.1,q4 X))
def U4:aS:=(aS.nil).add 5 Tf
theorem Se:cC E acZ Zm U4 (ak Tryz.f143 0):=lk yJ N6 (fun X=>(X.1.2.1,q4 X)) fun X x=>((z1 (w x.1 (z2 (u x.2))) X.1),X.2)
theorem H5:aj Tryz.prog 143 Kh:=fk Zm (base.add ox) Tryz.func143 (Λ:=U4) (cF Se nF)
def abK:ao:=af [pI] [rB] (c1 Pu.jL)
theorem T8:aj Tryz.prog 222 abK:=f0 {merge:=mg [(1,2)]} base Tryz.func222
def WX:ao:=af [pI,pI] [rI] (c2 Pu.cZ)
theorem Ub:aj Tryz.prog 273 WX:=f0 {} base Tryz.func273
def abL:ao:=af [pf jx] [rI] (c1 Pu.jK)
theorem aat:aj Tryz.prog 223 abL:=f0 {} ((base.add T8).add Ub) Tryz.func223
def RL:ao:=af [pf jx] [rB] (c1 Pu.fR)
theorem M9:aj Tryz.prog 149 RL:=f0 {merge:=mg [(1,2)]} (((base.add ox).add T8).add aat) Tryz.func149
def RP:ao:=af [pf aU,pd (.sl (.int .i64))] [(true,Y6),rB] (c2 Pu.ch)
theorem aap:aj Tryz.prog 209 RP:=f0 {merge:=mg [(3,21)],mv:=[10,24]} ((base.add M8).add H5) Tryz.func209
def Wd:ao:=af [pf aY] [rB] (c1 Pu.tX)
def acX:aM:=(((aM.nil.add 141 AU).add 143 Kh).add 149 RL).add 209 RP
def Zk:An:={mask:=mk [(6,[1,2,3,4,30,31,32])],merge:=mg [(1,24),(8,50)],mv:=[55]}
@[reducible] def yH:SD:=⟨B::.ptr 1 0::DB::DI::.data false (.sl (.own (some 49152)) (.int .i64))::bs 25 (.data false (.sl .arg bG)::DI::DI::bs 35 []),Z::(some Y15)::zs 66 [],.none⟩
def N4 {R:Type}(X:SD.D yH)(K:Ex→AS→Option R):=Pu.lC (fun y0 y1 y2=>ke 0 K yH ((z1 (w y0 (w y1 (z2 (u y2)))) X.1),X.2)) (fun y0 y1 y2 y3=>kr K yH ((w y0 (w y1 (w y2 (z2 (u y3)))) X.1),X.2)) X.1.1 (q3 X) (q4 X) X.2.1.1
def Td:aO:=cI yH N4 (fun X=>(X.1.2.1,q2 X,q5 X))
def U2:aS:=(aS.nil).add 6 Td
theorem Sc:cC E acX Zk U2 (ak Tryz.f139 0):=lk yH N4 (fun X=>(X.1.2.1,q2 X,q5 X)) fun X x=>((z1 (w x.1 (w x.2.1 (z2 (u x.2.2)))) X.1),X.2)
theorem ad4:aj Tryz.prog 139 Wd:=fk Zk ((((base.add ox).add H5).add M9).add aap) Tryz.func139 (Λ:=U2) (cF Sc nF)
def We:ao:=af [pf bV] [rB] (c1 Pu.mV)
def acY:aM:=aM.nil.add 141 AU
def Zl:An:={mask:=mk [(2,[1,2,6,7,8])],merge:=mg [(4,29),(7,2)]}
@[reducible] def yI:SD:=⟨B::.ptr 1 0::DB::B::B::B::.data false (.sl .arg (.int .i64))::DI::DI::bs 31 [],Z::(some (.pair (.int .i64) (.pair .bool (.sl .arg (.int .i64)))))::zs 38 [],.none⟩
def N5 {R:Type}(X:SD.D yI)(K:Ex→AS→Option R):=Pu.iT (fun y0=>ke 0 K yI ((z3 (u y0) X.1),X.2)) (fun y0 y1=>kr K yI ((w y0 (z2 (u y1)) X.1),X.2)) X.1.1 X.1.2.1 (q2 X) X.2.1.1
def Te:aO:=cI yI N5 q3
def U3:aS:=(aS.nil).add 2 Te
theorem Sd:cC E acY Zl U3 (ak Tryz.f140 0):=lk yI N5 q3 fun X x=>((z3 (u x) X.1),X.2)
theorem ad5:aj Tryz.prog 140 We:=fk Zl (base.add ox) Tryz.func140 (Λ:=U3) (cF Sd nF)
def abH:ao:=af [pf aP] [rB] (c1 Pu.iU)
theorem aaq:aj Tryz.prog 210 abH:=f0 {merge:=mg [(1,2)]} ((base.add ox).add T8) Tryz.func210
def acb:ao:=af [pf dn] [rB] (c1 Pu.ir)
theorem aax:aj Tryz.prog 258 acb:=f0 {merge:=mg [(1,18),(5,2),(7,2)]} (base.add ox) Tryz.func258
def acd:ao:=af [pI] [rB] (c1 Pu.lH)
theorem afp:aj Tryz.prog 259 acd:=f0 {merge:=mg [(1,2)]} base Tryz.func259
def abI:ao:=af [pf ed] [rB] (c1 Pu.iY)
theorem T7:aj Tryz.prog 211 abI:=f0 {merge:=mg [(1,2)]} (((base.add ox).add aax).add afp) Tryz.func211
def RK:ao:=af [pf aA] [rB] (c1 Pu.qO)
theorem aad:aj Tryz.prog 142 RK:=f0 {merge:=mg [(1,42),(5,2)]} ((((base.add ox).add M9).add aaq).add T7) Tryz.func142
def abJ:ao:=af [pf aJ] [rB] (c1 Pu.zJ)
theorem aeT:aj Tryz.prog 212 abJ:=f0 {merge:=mg [(1,2)]} base Tryz.func212
def Wf:ao:=af [pf aJ] [rB] (c1 Pu.qC)
theorem ad6:aj Tryz.prog 144 Wf:=f0 {merge:=mg [(1,24),(3,2)]} ((base.add ox).add aeT) Tryz.func144
def WS:ao:=af [pf bR] [rB] (c1 Pu.ta)
theorem afq:aj Tryz.prog 260 WS:=f0 {merge:=mg [(1,33),(3,54),(5,2)]} (base.add ox) Tryz.func260
def WA:ao:=af [pd (.sl bR)] [rB] (c1 Pu.rq)
def adk:aM:=aM.nil.add 260 WS
def ZH:An:={mask:=mk [(2,[0,2,5,6,7])]}
@[reducible] def yV:SD:=⟨.data false (.sl .arg bR)::B::DB::B::B::.data false (.sl .arg bR)::DI::DI::bs 10 [],zs 18 [],.none⟩
def Ov {R:Type}(X:SD.D yV)(K:Ex→AS→Option R):=Pu.sD (fun y0=>ke 0 K yV ((z4 (u y0) X.1),X.2)) (fun y0 y1=>kr K yV ((z1 (w y0 (z2 (u y1))) X.1),X.2)) X.1.1 X.1.2.1 (q2 X) (q3 X)
def TB:aO:=cI yV Ov q4
def Vp:aS:=(aS.nil).add 2 TB
theorem SA:cC E adk ZH Vp (ak Tryz.f213 0):=lk yV Ov q4 fun X x=>((z4 (u x) X.1),X.2)
theorem aeU:aj Tryz.prog 213 WA:=fk ZH (base.add afq) Tryz.func213 (Λ:=Vp) (cF SA nF)
def WT:ao:=af [pf (.sl a9),pf ft] [rI] (c2 Pu.qb)
def adu:aM:=aM.nil
def ZS:An:={mask:=mk [(2,[3,4,8,9,10])],merge:=mg [(4,23)]}
@[reducible] def ze:SD:=⟨B::B::B::.ptr 3 0::DI::B::B::B::.data false (.sl .arg a9)::DI::DI::bs 15 [],Z::Z::Z::(some (.pair (.int .i64) Y1))::zs 22 [],.none⟩
def OI {R:Type}(X:SD.D ze)(K:Ex→AS→Option R):=Pu.lG (fun y0=>ke 0 K ze ((z3 (u y0) X.1),X.2)) (fun y0 y1=>kr K ze ((w y0 (z2 (u y1)) X.1),X.2)) X.1.1 X.1.2.1 (q2 X) X.2.1.1
def TO:aO:=cI ze OI q3
def VA:aS:=(aS.nil).add 2 TO
theorem SO:cC E adu ZS VA (ak Tryz.f261 0):=lk ze OI q3 fun X x=>((z3 (u x) X.1),X.2)
theorem afr:aj Tryz.prog 261 WT:=fk ZS base Tryz.func261 (Λ:=VA) (cF SO nF)
def W2:ao:=af [pf ft] [rI] (c1 Pu.mW)
def adz:aM:=aM.nil.add 273 WX
def ZX:An:={mask:=mk [(3,[3,16,17,18])]}
@[reducible] def Db:SD:=⟨B::B::B::DI::bs 12 (.data false (.sl (.own (some 196608)) (.int .i64))::DI::DI::bs 10 []),zs 29 [],.none⟩
def ON {R:Type}(X:SD.D Db)(K:Ex→AS→Option R):=Pu.fy (fun y0 y1=>ke 0 K Db ((w y0 (z2 (u y1)) X.1),X.2)) X.1.2.1 (q2 X)
def TT:aO:=cI Db ON (fun X=>(X.1.1,q3 X))
def VF:aS:=(aS.nil).add 3 TT
theorem SU:cC E adz ZX VF (ak Tryz.f286 0):=lk Db ON (fun X=>(X.1.1,q3 X)) fun X x=>((w x.1 (z2 (u x.2)) X.1),X.2)
theorem afL:aj Tryz.prog 286 W2:=fk ZX (base.add Ub) Tryz.func286 (Λ:=VF) (cF SU nF)
def WU:ao:=af [pf ft] [(false,(.sl (.own none) (.int .i64)))] (c1 Pu.ry)
def adv:aM:=aM.nil.add 286 W2
def ZT:An:={mask:=mk [(3,[1,3,4])],mv:=[10,18]}
@[reducible] def C8:SD:=⟨B::.ptr 1 0::B::.data false (.sl (.own (some 36864)) (.int .i64))::DI::bs 14 [],Z::(some (.pair (.int .i64) Y1))::zs 17 [],.none⟩
def OJ {R:Type}(X:SD.D C8)(K:Ex→AS→Option R):=Pu.jN (fun y0 y1=>ke 0 K C8 ((w y0 (u y1) X.1),X.2)) X.2.1.1
def TP:aO:=cI C8 OJ (fun X=>(X.1.1,X.1.2.1))
def VB:aS:=(aS.nil).add 3 TP
theorem SP:cC E adv ZT VB (ak Tryz.f262 0):=lk C8 OJ (fun X=>(X.1.1,X.1.2.1)) fun X x=>((w x.1 (u x.2) X.1),X.2)
theorem afs:aj Tryz.prog 262 WU:=fk ZT (base.add afL) Tryz.func262 (Λ:=VB) (cF SP nF)
def WB:ao:=af [pf (.sl a9)] [rB] (c1 Pu.lB)
def Xg:aM:=((aM.nil.add 141 AU).add 261 WT).add 262 WU
def T3:An:={mask:=mk [(4,[1,2,12,13,14]),(14,[1,2,3,12,13,14,49,50,51])],merge:=mg [(6,28),(9,40)]}
@[reducible] def vk:SD:=⟨B::.ptr 1 0::DB::DI::bs 8 (.data false (.sl .arg a9)::DI::DI::bs 34 (.data false (.sl (.own (some 602112)) (.int .i64))::DI::DI::bs 15 [])),Z::(some (.sl .arg a9))::zs 65 [],.none⟩
def J2 {R:Type}(X:SD.D vk)(K:Ex→AS→Option R):=Pu.dH (fun y0=>ke 2 K vk ((z7 (u y0) X.1),X.2)) (fun y0 y1=>kr K vk ((w y0 (z6 (u y1)) X.1),X.2)) X.1.1 X.1.2.1 (q2 X) (q3 X) (q4 X) (q5 X) (q6 X) X.2.1.1
def PH:aO:=cI vk J2 q7
@[reducible] def yW:SD:=⟨B::.ptr 1 0::DB::bs 9 (.data false (.sl .arg a9)::DI::DI::bs 52 []),Z::(some (.sl .arg a9))::zs 65 [],.none⟩
def Ow {R:Type}(X:SD.D yW)(K:Ex→AS→Option R):=Pu.kj (fun y0=>ke 0 K yW ((z3 (u y0) X.1),X.2)) (fun y0 y1=>kr K yW ((w y0 (z2 (u y1)) X.1),X.2)) X.1.1 X.1.2.1 (q2 X) X.2.1.1
def TC:aO:=cI yW Ow q3
def Rq:aS:=((aS.nil).add 14 PH).add 4 TC
theorem PE:cC E Xg T3 Rq (ak Tryz.f214 1):=lk vk J2 q7 fun X x=>((z7 (u x) X.1),X.2)
theorem SB:cC E Xg T3 Rq (ak Tryz.f214 0):=lk yW Ow q3 fun X x=>((z3 (u x) X.1),X.2)
theorem aeV:aj Tryz.prog 214 WB:=fk T3 (((base.add ox).add afr).add afs) Tryz.func214 (Λ:=Rq) (cF SB (cF PE nF))
def WV:ao:=af [pI] [rB] (c1 Pu.pa)
theorem aft:aj Tryz.prog 263 WV:=f0 {merge:=mg [(1,2)]} base Tryz.func263
def WC:ao:=af [pf cL,pI] [rB] (c2 Pu.qB)
def adl:aM:=(aM.nil.add 141 AU).add 263 WV
def ZI:An:={mask:=mk [(4,[1,4,24,25,26])],merge:=mg [(1,22)]}
@[reducible] def yX:SD:=⟨B::DI::B::B::DB::bs 19 (.data false (.sl .arg (.int .i64))::DI::DI::bs 9 []),zs 36 [],.none⟩
def Ox {R:Type}(X:SD.D yX)(K:Ex→AS→Option R):=Pu.qP (fun y0=>ke 0 K yX ((z4 (u y0) X.1),X.2)) (fun y0 y1=>kr K yX ((z1 (w y0 (z2 (u y1))) X.1),X.2)) X.1.1 X.1.2.1 (q2 X) (q3 X)
def TD:aO:=cI yX Ox q4
def Vq:aS:=(aS.nil).add 4 TD
theorem SC:cC E adl ZI Vq (ak Tryz.f215 0):=lk yX Ox q4 fun X x=>((z4 (u x) X.1),X.2)
theorem aeW:aj Tryz.prog 215 WC:=fk ZI ((base.add ox).add aft) Tryz.func215 (Λ:=Vq) (cF SC nF)
def Wg:ao:=af [pf bm,pI] [rB] (c2 Pu.ki)
def Xd:aM:=((aM.nil.add 213 WA).add 214 WB).add 215 WC
def T1:An:={mask:=mk [(4,[1,2,4,27,28,29]),(10,[1,4,45,46,47])],merge:=mg [(1,25),(6,41),(12,59)]}
@[reducible] def yK:SD:=⟨B::DI::.ptr 2 0::B::DB::bs 22 (.data false (.sl .arg bR)::DI::DI::bs 31 []),Z::Z::(some VL)::zs 58 [],.none⟩
def N7 {R:Type}(X:SD.D yK)(K:Ex→AS→Option R):=Pu.gk (fun y0=>ke 0 K yK ((z4 (u y0) X.1),X.2)) (fun y0 y1=>kr K yK ((z1 (w y0 (z2 (u y1))) X.1),X.2)) X.1.1 X.1.2.1 (q2 X) (q3 X) X.2.1.1
def Tg:aO:=cI yK N7 q4
@[reducible] def vj:SD:=⟨B::DI::B::B::DB::bs 40 (.data false (.sl .arg a9)::DI::DI::bs 13 []),zs 61 [],.none⟩
def J1 {R:Type}(X:SD.D vj)(K:Ex→AS→Option R):=Pu.eZ (fun y0=>ke 2 K vj ((z4 (u y0) X.1),X.2)) (fun y0 y1=>kr K vj ((z1 (w y0 (z2 (u y1))) X.1),X.2)) X.1.1 X.1.2.1 (q2 X) (q3 X)
def PG:aO:=cI vj J1 q4
def Rp:aS:=((aS.nil).add 4 Tg).add 10 PG
theorem Sf:cC E Xd T1 Rp (ak Tryz.f145 0):=lk yK N7 q4 fun X x=>((z4 (u x) X.1),X.2)
theorem PC:cC E Xd T1 Rp (ak Tryz.f145 1):=lk vj J1 q4 fun X x=>((z4 (u x) X.1),X.2)
theorem ad7:aj Tryz.prog 145 Wg:=fk T1 (((base.add aeU).add aeV).add aeW) Tryz.func145 (Λ:=Rp) (cF Sf (cF PC nF))
def e42:ao:=af [pf a8] [rB] (c1 Pu.p9)
def g42:aM:=((((((((aM.nil.add 137 RI).add 138 RJ).add 139 Wd).add 140 We).add 141 AU).add 142 RK).add 143 Kh).add 144 Wf).add 145 Wg
def n42:An:={mask:=mk [(5,[1,2,3,61,62]),(12,[1,2,3,103,104,105])],merge:=mg [(2,58),(7,89)]}
@[reducible] def EE:SD:=⟨B::.ptr 1 0::DB::DI::bs 57 (DI::DI::bs 54 []),Z::(some Y2)::zs 115 [],.none⟩
def QP {R:Type}(X:SD.D EE)(K:Ex→AS→Option R):=Pu.lu (fun y0=>ke 0 K EE ((z3 (u y0) X.1),X.2)) (fun y0 y1=>kr K EE ((w y0 (z2 (u y1)) X.1),X.2)) X.1.1 X.1.2.1 (q2 X) X.2.1.1
def Yp:aO:=cI EE QP q3
@[reducible] def zg:SD:=⟨B::.ptr 1 0::DB::DI::bs 99 (.data false (.sl (.own (some 1265664)) (.int .i64))::DI::DI::bs 11 []),Z::(some Y2)::zs 115 [],.none⟩
def OQ {R:Type}(X:SD.D zg)(K:Ex→AS→Option R):=Pu.kg (fun y0=>ke 2 K zg ((z4 (u y0) X.1),X.2)) (fun y0 y1=>kr K zg ((w y0 (z3 (u y1)) X.1),X.2)) X.1.1 X.1.2.1 (q2 X) (q3 X) X.2.1.1
def TW:aO:=cI zg OQ q4
def L42:aS:=((aS.nil).add 5 Yp).add 12 TW
theorem XB:cC E g42 n42 L42 (ak Tryz.f42 0):=lk EE QP q3 fun X x=>((z3 (u x) X.1),X.2)
theorem SX:cC E g42 n42 L42 (ak Tryz.f42 1):=lk zg OQ q4 fun X x=>((z4 (u x) X.1),X.2)
theorem o42:aj Tryz.prog 42 e42:=fk n42 (((((((((base.add T5).add aac).add ad4).add ad5).add ox).add aad).add H5).add ad6).add ad7) Tryz.func42 (Λ:=L42) (cF XB (cF SX nF))
def abM:ao:=af [pf Bx] [rB] (c1 Pu.p8)
theorem ae1:aj Tryz.prog 224 abM:=f0 {merge:=mg [(1,2)]} (base.add ox) Tryz.func224
def abN:ao:=af [pI] [rS] (c1 Pu.bj)
theorem K5:aj Tryz.prog 225 abN:=f0 {} (base.add ox) Tryz.func225
def abO:ao:=af [pI] [rS] (c1 Pu.dF)
theorem PN:aj Tryz.prog 226 abO:=f0 {} (base.add ox) Tryz.func226
def Wh:ao:=af [pf Bx] [rS] (c1 Pu.kf)
theorem ad9:aj Tryz.prog 150 Wh:=f0 {} (((base.add ae1).add K5).add PN) Tryz.func150
def RM:ao:=af [pf aU,pI] [rI] (c2 Pu.dN)
theorem aag:aj Tryz.prog 151 RM:=f0 {merge:=mg [(1,15)]} ((base.add ox).add H5) Tryz.func151
def abP:ao:=af [pf jx] [rI] (c1 Pu.mZ)
theorem ae2:aj Tryz.prog 227 abP:=f0 {} ((base.add M9).add aat) Tryz.func227
def WY:ao:=af [pd (.sl ar),pI,pI,pd .bool] [rI] (c4 Pu.ru)
theorem afD:aj Tryz.prog 274 WY:=f0 {merge:=mg [(4,29)]} (base.add aao) Tryz.func274
def Pj:ao:=af [pf (.sl .str),pI,pI] [rB] (c3 Pu.kY)
theorem Uc:aj Tryz.prog 275 Pj:=f0 {merge:=mg [(2,6)]} (base.add T5) Tryz.func275
def RQ:ao:=af [pd (.sl ar),pf (.sl .str),pI,pI,pI,pd .bool] [(false,(.sl (.own none) (.pair (.int .i64) (.int .i64)))),rB] (c6 Pu.nE)
def adn:aM:=((((aM.nil.add 137 RI).add 138 RJ).add 141 AU).add 274 WY).add 275 Pj
def ZK:An:={mask:=mk [(8,[0,2,3,4,5,7,12,13,14])],merge:=mg [(1,29),(11,55),(16,73)],mv:=[56,74]}
@[reducible] def yY:SD:=⟨.data false (.sl .arg ar)::B::DI::DI::DI::DB::B::.ptr 7 0::bs 4 (.data false (.sl (.own (some 147456)) (.pair (.int .i64) (.int .i64)))::DB::.data false (.sl (.own (some 172032)) (.pair (.int .i64) (.int .i64)))::bs 60 []),zs 7 ((some (.sl .arg .str))::zs 67 []),.none⟩
def Oz {R:Type}(X:SD.D yY)(K:Ex→AS→Option R):=Pu.iw (fun y0 y1 y2=>ke 0 K yY ((z2 (w y0 (w y1 (z3 (u y2)))) X.1),X.2)) (fun y0 y1 y2 y3 y4=>kr K yY ((z2 (w y0 (w y1 (z1 (w y2 (w y3 (u y4)))))) X.1),X.2)) X.1.1 X.1.2.1 (q4 X) (q5 X) (q6 X) X.2.1.1
def TF:aO:=cI yY Oz (fun X=>(q2 X,q3 X,q7 X))
def Vs:aS:=(aS.nil).add 8 TF
theorem SF:cC E adn ZK Vs (ak Tryz.f220 0):=lk yY Oz (fun X=>(q2 X,q3 X,q7 X)) fun X x=>((z2 (w x.1 (w x.2.1 (z3 (u x.2.2)))) X.1),X.2)
theorem aas:aj Tryz.prog 220 RQ:=fk ZK (((((base.add T5).add aac).add ox).add afD).add Uc) Tryz.func220 (Λ:=Vs) (cF SF nF)
def WI:ao:=af [pf (.sl .str),pI,pd .str] [(true,(.sl (.own none) .str)),rB] (c3 Pu.iZ)
def ado:aM:=(aM.nil.add 128 Kg).add 275 Pj
def ZL:An:={mask:=mk [(4,[1,2,6,8])],nest:=[33],mv:=[19,49]}
@[reducible] def C5:SD:=⟨B::DI::.data false .str::B::B::B::.ptr 6 0::B::.ptr 8 0::bs 41 [],zs 6 ((some (.sl (.own (some 73729)) .str))::Z::(some (.sl (.own (some 98305)) .str))::zs 41 []),.none⟩
def OA {R:Type}(X:SD.D C5)(K:Ex→AS→Option R):=Pu.fb (fun y0 y1 y2=>ke 0 K C5 ((w y0 (u y1) X.1),(z1 (u y2) X.2.1),X.2.2)) X.2.1.1
def TG:aO:=cI C5 OA (fun X=>(X.1.1,X.1.2.1,X.2.1.2.1))
def Vt:aS:=(aS.nil).add 4 TG
theorem SG:cC E ado ZL Vt (ak Tryz.f221 0):=lk C5 OA (fun X=>(X.1.1,X.1.2.1,X.2.1.2.1)) fun X x=>((w x.1 (u x.2.1) X.1),(z1 (u x.2.2) X.2.1),X.2.2)
theorem ae0:aj Tryz.prog 221 WI:=fk ZL ((base.add K2).add Uc) Tryz.func221 (Λ:=Vt) (cF SG nF)
def aa5:ao:=af [pd (.sl ar),pf (.sl .str),pI,pI,pd .str,pd .bool] [(true,(.sl (.own none) .str)),rB] (c6 Pu.tc)
def ac2:aM:=((aM.nil.add 128 Kg).add 220 RQ).add 221 WI
def Zp:An:={mask:=mk [(6,[4,12,14,35,36,37])],mv:=[34,41,50,57],sb:=mg [(14,14)]}
@[reducible] def CW:SD:=⟨bs 4 (.data false .str::bs 7 (.ptr 12 0::B::.ptr 14 0::bs 20 (.data false (.sl .loc (.pair (.int .i64) (.int .i64)))::DI::DI::bs 20 []))),zs 12 ((some (.sl (.own (some 147457)) .str))::Z::(some (.sl (.own (some 172033)) .str))::zs 43 []),.none⟩
def Oa {R:Type}(X:SD.D CW)(K:Ex→AS→Option R):=Pu.nD (fun y0 y1 y2=>ke 0 K CW ((w y0 (z2 (u y1)) X.1),(z1 (u y2) X.2.1),X.2.2)) X.1.2.1 (q2 X) X.2.1.1
def Tj:aO:=cI CW Oa (fun X=>(X.1.1,q3 X,X.2.1.2.1))
def U7:aS:=(aS.nil).add 6 Tj
theorem Si:cC E ac2 Zp U7 (ak Tryz.f148 0):=lk CW Oa (fun X=>(X.1.1,q3 X,X.2.1.2.1)) fun X x=>((w x.1 (z2 (u x.2.1)) X.1),(z1 (u x.2.2) X.2.1),X.2.2)
theorem aaf:aj Tryz.prog 148 aa5:=fk Zp (((base.add K2).add aas).add ae0) Tryz.func148 (Λ:=U7) (cF Si nF)
def abQ:ao:=af [pd (.sl ar),pf (.sl .str),pI,pI,pd .str] [(true,(.sl (.own none) .str)),rB] (c5 Pu.mU)
theorem ae3:aj Tryz.prog 228 abQ:=f0 {} (base.add aaf) Tryz.func228
def abR:ao:=af [pf jx,pI] [rI] (c2 Pu.iV)
theorem ae4:aj Tryz.prog 229 abR:=f0 {merge:=mg [(1,11)]} (base.add M9) Tryz.func229
def Wi:ao:=af [pd (.sl ar),pf (.sl .str),pI,pf jx,pd .str] [(true,(.sl (.own none) .str)),(true,Y1),rB] (c5 Pu.oo)
theorem aea:aj Tryz.prog 152 Wi:=f0 {merge:=mg [(1,22)],mv:=[26,36,40,50],mb:=mg [(40,13),(50,13)],sb:=mg [(10,10),(11,11),(13,13)]} ((((base.add K2).add ae2).add ae3).add ae4) Tryz.func152
def e49:ao:=af [pd (.sl ar),pf (.sl .str),pI,pf jx,pf aU] [(true,(.sl (.own none) .str)),(true,Y1),(true,Y6),rI] (c5 Pu.cD)
def g49:aM:=(((((((aM.nil.add 128 Kg).add 131 Pf).add 136 Pg).add 143 Kh).add 149 RL).add 150 Wh).add 151 RM).add 152 Wi
def n49:An:={mask:=mk [(6,[0,2,8,9,10,11,12,14,15,16,39,40,41])],merge:=mg [(2,34)],mv:=[35,37,53,65,76,78],mb:=mg [(35,14),(37,15),(65,20),(76,14),(78,15)],sb:=mg [(8,8),(10,10),(11,11),(12,12),(14,14),(15,15)]}
@[reducible] def Jb:SD:=⟨.data false (.sl .arg ar)::B::DI::bs 5 (.ptr 8 0::.ptr 9 0::.ptr 10 0::.ptr 11 0::.ptr 12 0::B::.ptr 14 0::.ptr 15 0::DI::bs 22 (.data false (.sl .arg (.int .i64))::DI::DI::bs 38 [])),zs 8 ((some Y1)::(some VK)::(some (.sl (.own (some 122881)) .str))::(some Y1)::(some Y19)::Z::(some (.sl (.own (some 172033)) .str))::(some Y18)::zs 64 []),.none⟩
def QR {R:Type}(X:SD.D Jb)(K:Ex→AS→Option R):=Pu.fw (fun y0 y1 y2 y3=>ke 0 K Jb ((z2 (w y0 (z2 (u y1))) X.1),(w y2 (z4 (u y3)) X.2.1),X.2.2)) X.1.1 X.1.2.1 (q3 X) (q4 X) X.2.1.2.1 X.2.1.2.2.1 X.2.1.2.2.2.1 X.2.1.2.2.2.2.1 X.2.1.2.2.2.2.2.2.1
def Yr:aO:=cI Jb QR (fun X=>(q2 X,q5 X,X.2.1.1,X.2.1.2.2.2.2.2.1))
def L49:aS:=(aS.nil).add 6 Yr
theorem XD:cC E g49 n49 L49 (ak Tryz.f49 0):=lk Jb QR (fun X=>(q2 X,q5 X,X.2.1.1,X.2.1.2.2.2.2.2.1)) fun X x=>((z2 (w x.1 (z2 (u x.2.1))) X.1),(w x.2.2.1 (z4 (u x.2.2.2)) X.2.1),X.2.2)
theorem o49:aj Tryz.prog 49 e49:=fk n49 ((((((((base.add K2).add M8).add K3).add H5).add M9).add ad9).add aag).add aea) Tryz.func49 (Λ:=L49) (cF XD nF)
def WW:ao:=af [pf (.sl .str),pI,pI] [rS,rB] (c3 Pu.gF)
def adw:aM:=aM.nil.add 275 Pj
def ZU:An:={mask:=mk [(4,[1,2,3,8])],mv:=[41]}
@[reducible] def C9:SD:=⟨B::DI::DI::.ptr 3 0::bs 4 (.data false (.sl (.own (some 98304)) (.int .u8))::bs 41 []),Z::Z::Z::(some (.sl .arg .str))::zs 46 [],.none⟩
def OK {R:Type}(X:SD.D C9)(K:Ex→AS→Option R):=Pu.dR (fun y0 y1=>ke 0 K C9 ((w y0 (z1 (u y1)) X.1),X.2)) X.1.2.1 X.2.1.1
def TQ:aO:=cI C9 OK (fun X=>(X.1.1,q2 X))
def VC:aS:=(aS.nil).add 4 TQ
theorem SQ:cC E adw ZU VC (ak Tryz.f267 0):=lk C9 OK (fun X=>(X.1.1,q2 X)) fun X x=>((w x.1 (z1 (u x.2)) X.1),X.2)
theorem afx:aj Tryz.prog 267 WW:=fk ZU (base.add Uc) Tryz.func267 (Λ:=VC) (cF SQ nF)
def WE:ao:=af [pd (.sl ar),pf (.sl .str),pI,pI,pI] [rS,rB] (c5 Pu.lr)
def adm:aM:=(aM.nil.add 220 RQ).add 267 WW
def ZJ:An:={mask:=mk [(6,[6,14,30,31,32])]}
@[reducible] def C4:SD:=⟨bs 6 (.ptr 6 0::bs 7 (.data false .str::bs 15 (.data false (.sl .loc (.pair (.int .i64) (.int .i64)))::DI::DI::bs 17 []))),zs 6 ((some (.sl .arg .str))::zs 43 []),.none⟩
def Oy {R:Type}(X:SD.D C4)(K:Ex→AS→Option R):=Pu.kc (fun y0 y1=>ke 0 K C4 ((w y0 (z2 (u y1)) X.1),X.2)) X.1.2.1 (q2 X) X.2.1.1
def TE:aO:=cI C4 Oy (fun X=>(X.1.1,q3 X))
def Vr:aS:=(aS.nil).add 6 TE
theorem SE:cC E adm ZJ Vr (ak Tryz.f217 0):=lk C4 Oy (fun X=>(X.1.1,q3 X)) fun X x=>((w x.1 (z2 (u x.2)) X.1),X.2)
theorem aar:aj Tryz.prog 217 WE:=fk ZJ ((base.add aas).add afx) Tryz.func217 (Λ:=Vr) (cF SE nF)
def ace:ao:=af [pf aP] [rI] (c1 Pu.jd)
theorem afu:aj Tryz.prog 264 ace:=f0 {} base Tryz.func264
def acv:ao:=af [pd .str,pI] [rI] (c2 Pu.cc)
theorem PR:aj Tryz.prog 287 acv:=f0 {merge:=mg [(1,13)]} base Tryz.func287
def acw:ao:=af [pd .str,pI] [rI] (c2 Pu.dP)
theorem PT:aj Tryz.prog 288 acw:=f0 {merge:=mg [(1,13)]} base Tryz.func288
def acf:ao:=af [pd .str] [(true,(.pair (.int .i64) Y1)),rI,rB] (c1 Pu.ee)
theorem afv:aj Tryz.prog 265 acf:=f0 {} ((base.add PR).add PT) Tryz.func265
def acg:ao:=af [pf aP] [rI] (c1 Pu.oq)
theorem afw:aj Tryz.prog 266 acg:=f0 {} base Tryz.func266
def WD:ao:=af [pd (.sl ar),pf (.sl .str),pI,pf aP] [(true,(.pair (.int .i64) Y1)),(true,Uw),rB] (c4 Pu.eY)
theorem aeX:aj Tryz.prog 216 WD:=f0 {merge:=mg [(7,46)],sb:=mg [(8,8),(9,9)]} (((((base.add aaq).add aar).add afu).add afv).add afw) Tryz.func216
def acx:ao:=af [pf O4] [rB] (c1 Pu.rp)
theorem afM:aj Tryz.prog 289 acx:=f0 {merge:=mg [(1,2)]} (base.add ox) Tryz.func289
def ach:ao:=af [pd .str] [(true,Y23),rB] (c1 Pu.mY)
theorem afy:aj Tryz.prog 268 ach:=f0 {merge:=mg [(4,33)],sb:=mg [(4,4)]} (((base.add PR).add PT).add afM) Tryz.func268
def W4:ao:=af [pI,pI] [rI] (c2 Pu.og)
theorem afZ:aj Tryz.prog 304 W4:=f0 {merge:=mg [(1,12)]} (base.add ox) Tryz.func304
def acK:ao:=af [pd .str] [rI] (c1 Pu.m5)
def adB:aM:=aM.nil.add 304 W4
def ZZ:An:={mask:=mk [(3,[0,3,4])]}
@[reducible] def Dd:SD:=⟨.data false .str::B::B::DI::DI::bs 28 [],zs 33 [],.none⟩
def OP {R:Type}(X:SD.D Dd)(K:Ex→AS→Option R):=Pu.iX (fun y0 y1=>ke 0 K Dd ((z1 (w y0 (u y1)) X.1),X.2)) X.1.1
def TV:aO:=cI Dd OP (fun X=>(X.1.2.1,q2 X))
def VH:aS:=(aS.nil).add 3 TV
theorem SW:cC E adB ZZ VH (ak Tryz.f303 0):=lk Dd OP (fun X=>(X.1.2.1,q2 X)) fun X x=>((z1 (w x.1 (u x.2)) X.1),X.2)
theorem afY:aj Tryz.prog 303 acK:=fk ZZ (base.add afZ) Tryz.func303 (Λ:=VH) (cF SW nF)
def acG:ao:=af [pd .str] [rI] (c1 Pu.jI)
theorem aaz:aj Tryz.prog 298 acG:=f0 {} (base.add afY) Tryz.func298
def acH:ao:=af [pd .str,pI,pd .str] [rS] (c3 Pu.gR)
theorem aaA:aj Tryz.prog 299 acH:=f0 {merge:=mg [(1,17)]} base Tryz.func299
def acJ:ao:=af [pf Qo] [rB] (c1 Pu.wK)
theorem afX:aj Tryz.prog 302 acJ:=f0 {merge:=mg [(1,2)]} (base.add ox) Tryz.func302
def acD:ao:=af [pf Qo] [rS,rB] (c1 Pu.mX)
theorem afS:aj Tryz.prog 295 acD:=f0 {} (((((base.add K5).add PN).add aaz).add aaA).add afX) Tryz.func295
def acy:ao:=af [pf Qo] [rS,rB] (c1 Pu.oh)
theorem afN:aj Tryz.prog 290 acy:=f0 {} (base.add afS) Tryz.func290
def aci:ao:=af [pd .str] [(true,Y7),rB] (c1 Pu.om)
theorem afz:aj Tryz.prog 269 aci:=f0 {merge:=mg [(2,22),(6,56)],sb:=mg [(5,5)]} (((base.add PR).add PT).add afN) Tryz.func269
def acE:ao:=af [pf dn] [rS] (c1 Pu.ja)
theorem afT:aj Tryz.prog 296 acE:=f0 {} ((base.add K5).add PN) Tryz.func296
def acF:ao:=af [pI,pI,pI,pI] [rS,rB] (c4 Pu.lz)
theorem afU:aj Tryz.prog 297 acF:=f0 {merge:=mg [(1,27)]} (((base.add ox).add K5).add PN) Tryz.func297
def acI:ao:=af [pI] [rI] (c1 Pu.jM)
theorem afV:aj Tryz.prog 300 acI:=f0 {} base Tryz.func300
def acz:ao:=af [pI,pI,pf dn] [rS,rB] (c3 Pu.eF)
theorem afO:aj Tryz.prog 291 acz:=f0 {merge:=mg [(8,39)]} (((((((base.add K5).add aax).add afT).add afU).add aaz).add aaA).add afV) Tryz.func291
def acj:ao:=af [pI,pI,pI,pd .str] [(true,(.pair (.int .i64) Y7)),rB] (c4 Pu.hH)
theorem afA:aj Tryz.prog 270 acj:=f0 {merge:=mg [(3,20),(9,44),(12,68)]} (((base.add PR).add PT).add afO) Tryz.func270
def WG:ao:=af [pd .str] [(true,Y9),rI] (c1 Pu.lA)
theorem aeY:aj Tryz.prog 218 WG:=f0 {merge:=mg [(2,20)]} ((((base.add T7).add afy).add afz).add afA) Tryz.func218
def ack:ao:=af [pf ed] [(true,(.pair (.int .i64) Y1))] (c1 Pu.s9)
theorem afB:aj Tryz.prog 271 ack:=f0 {} base Tryz.func271
def acm:ao:=af [pd (.sl az),pf ft] [rI] (c2 Pu.iW)
def adx:aM:=aM.nil
def ZV:An:={mask:=mk [(2,[3,4,7,8,9])]}
@[reducible] def zf:SD:=⟨B::B::B::.ptr 3 0::DI::B::B::.data false (.sl .arg az)::DI::DI::bs 10 [],Z::Z::Z::(some (.pair (.int .i64) Y1))::zs 16 [],.none⟩
def OL {R:Type}(X:SD.D zf)(K:Ex→AS→Option R):=Pu.fa (fun y0=>ke 0 K zf ((z3 (u y0) X.1),X.2)) (fun y0 y1=>kr K zf ((w y0 (z2 (u y1)) X.1),X.2)) X.1.1 X.1.2.1 (q2 X) X.2.1.1
def TR:aO:=cI zf OL q3
def VD:aS:=(aS.nil).add 2 TR
theorem SR:cC E adx ZV VD (ak Tryz.f272 0):=lk zf OL q3 fun X x=>((z3 (u x) X.1),X.2)
theorem afC:aj Tryz.prog 272 acm:=fk ZV base Tryz.func272 (Λ:=VD) (cF SR nF)
def WH:ao:=af [pd (.sl az),pf ed] [(false,(.sl (.own none) az))] (c2 Pu.lq)
theorem aeZ:aj Tryz.prog 219 WH:=f0 {merge:=mg [(17,82)],mv:=[16,31,51,58,67,83,132],er:=mg [(115,5)]} ((((((base.add T4).add T7).add K5).add afB).add afC).add Ub) Tryz.func219
def aa3:ao:=af [pd (.sl ar),pf (.sl .str),pI,pf aA,pf aU,pd (.sl az),pI] [(true,(.sl (.own none) .str)),(true,Y4),(true,Y6),(false,(.sl (.own none) az)),rI] (c7 Pu.lx)
def ac0:aM:=((((((((((((aM.nil.add 49 e49).add 128 Kg).add 131 Pf).add 134 RH).add 141 AU).add 142 RK).add 143 Kh).add 151 RM).add 209 RP).add 216 WD).add 217 WE).add 218 WG).add 219 WH
def Zn:An:={mask:=mk [(5,[0,2,6,10,14,15,16,19,20,21,22])],merge:=mg [(2,48)],mv:=[49,51,52,96,104,117,119,120],mb:=mg [(49,19),(51,20),(117,19),(119,20)],sb:=mg [(14,14),(15,15),(16,16),(19,19),(20,20)]}
@[reducible] def CU:SD:=⟨.data false (.sl .arg ar)::B::DI::B::B::B::DI::B::B::B::.ptr 10 0::B::B::B::.ptr 14 0::.ptr 15 0::.ptr 16 0::B::B::.ptr 19 0::.ptr 20 0::.data false (.sl (.own (some 258048)) az)::DI::bs 99 [],zs 10 ((some Y4)::Z::Z::Z::(some (.sl (.own (some 172033)) .str))::(some Y4)::(some Y17)::Z::Z::(some (.sl (.own (some 233473)) .str))::(some Y16)::zs 101 []),.none⟩
def N8 {R:Type}(X:SD.D CU)(K:Ex→AS→Option R):=Pu.eG (fun y0 y1 y2 y3=>ke 0 K CU ((z3 (w y0 (u y1)) X.1),(w y2 (z4 (u y3)) X.2.1),X.2.2)) X.1.1 X.1.2.1 (q2 X) X.2.1.2.1 X.2.1.2.2.1 X.2.1.2.2.2.1 X.2.1.2.2.2.2.1
def Th:aO:=cI CU N8 (fun X=>(q3 X,q4 X,X.2.1.1,X.2.1.2.2.2.2.2.1))
def U5:aS:=(aS.nil).add 5 Th
theorem Sg:cC E ac0 Zn U5 (ak Tryz.f146 0):=lk CU N8 (fun X=>(q3 X,q4 X,X.2.1.1,X.2.1.2.2.2.2.2.1)) fun X x=>((z3 (w x.1 (u x.2.1)) X.1),(w x.2.2.1 (z4 (u x.2.2.2)) X.2.1),X.2.2)
theorem ad8:aj Tryz.prog 146 aa3:=fk Zn (((((((((((((base.add o49).add K2).add M8).add T4).add ox).add aad).add H5).add aag).add aap).add aeX).add aar).add aeY).add aeZ) Tryz.func146 (Λ:=U5) (cF Sg nF)
def e43:ao:=Dg a8 [pI,pI] [rI] fun x a=>Pu.m8 x a.1 a.2.1
theorem o43:aj Tryz.prog 43 e43:=aj.Qu (Qr (an:={mv:=[8,49,51,52],sb:=mg [(55,0),(59,0)],fm:=[19,20],eb:=mg [(56,0),(57,0)]}) (Λ:=aS.nil) (base.add ad8) Tryz.func43 (by kernel_rfl) (hF (by kernel_rfl) nF)) (fun x a=>by kernel_rfl)
def aa4:ao:=af [pI,pI,pI] [(true,Y6),rB] (c3 Pu.lv)
def ac1:aM:=aM.nil.add 143 Kh
def Zo:An:={mask:=mk [(5,[2,6,8,9])],mv:=[24,29]}
@[reducible] def CV:SD:=⟨B::B::DI::B::B::B::.ptr 6 0::B::.ptr 8 0::DI::bs 20 [],zs 6 ((some Y22)::Z::(some Y21)::zs 21 []),.none⟩
def N9 {R:Type}(X:SD.D CV)(K:Ex→AS→Option R):=Pu.kh (fun y0 y1=>ke 0 K CV ((z1 (u y0) X.1),(z1 (u y1) X.2.1),X.2.2)) X.1.1 X.2.1.1
def Ti:aO:=cI CV N9 (fun X=>(X.1.2.1,X.2.1.2.1))
def U6:aS:=(aS.nil).add 5 Ti
theorem Sh:cC E ac1 Zo U6 (ak Tryz.f147 0):=lk CV N9 (fun X=>(X.1.2.1,X.2.1.2.1)) fun X x=>((z1 (u x.1) X.1),(z1 (u x.2) X.2.1),X.2.2)
theorem aae:aj Tryz.prog 147 aa4:=fk Zo (base.add H5) Tryz.func147 (Λ:=U6) (cF Sh nF)
def e44:ao:=af [] [(true,Uv)] fun a=>Pu.rr
theorem o44:aj Tryz.prog 44 e44:=f0 {mv:=[3,8]} (base.add aae) Tryz.func44
def e45:ao:=af [pd (.sl ar),pf (.sl .str),pI,pI,pd .str] [(true,(.sl (.own none) .str)),rB] (c5 Pu.fz)
theorem o45:aj Tryz.prog 45 e45:=f0 {} (base.add aaf) Tryz.func45
def e46:ao:=af [pI] [rI] (c1 Pu.ix)
theorem o46:aj Tryz.prog 46 e46:=f0 {} base Tryz.func46
def e47:ao:=af [pd (.int .u8),pI] [rS] (c2 Pu.iu)
def g47:aM:=aM.nil
def n47:An:={mask:=mk [(3,[0,5,10,11])]}
@[reducible] def Ja:SD:=⟨.data false (.int .u8)::bs 4 (.data false (.sl (.own (some 61440)) (.int .u8))::bs 4 (DI::DI::bs 9 [])),zs 21 [],.none⟩
def QQ {R:Type}(X:SD.D Ja)(K:Ex→AS→Option R):=Pu.lF (fun y0 y1=>ke 0 K Ja ((z1 (w y0 (z1 (u y1))) X.1),X.2)) X.1.1 (q2 X)
def Yq:aO:=cI Ja QQ (fun X=>(X.1.2.1,q3 X))
def L47:aS:=(aS.nil).add 3 Yq
theorem XC:cC E g47 n47 L47 (ak Tryz.f47 0):=lk Ja QQ (fun X=>(X.1.2.1,q3 X)) fun X x=>((z1 (w x.1 (z1 (u x.2))) X.1),X.2)
theorem o47:aj Tryz.prog 47 e47:=fk n47 base Tryz.func47 (Λ:=L47) (cF XC nF)
def e48:ao:=af [pI] [(true,Y4),(true,Y6)] (c1 Pu.mD)
theorem o48:aj Tryz.prog 48 e48:=f0 {mv:=[10,24],mb:=mg [(24,5)],sb:=mg [(2,2),(3,3)]} ((base.add o46).add aae) Tryz.func48
def e7:ao:=af [pf a8] [(true,Y5)] (c1 Pu.iq)
def g7:aM:=((((((((aM.nil.add 41 e41).add 42 e42).add 43 e43).add 44 e44).add 45 e45).add 46 e46).add 47 e47).add 48 e48).add 49 e49
def n7:An:={mask:=mk [(5,[2,3,21,22]),(10,[2,3,30,31,32]),(18,[2,3,54,55])],mv:=[18,37,88,98,121,142],sb:=mg [(90,3)]}
@[reducible] def Pe:SD:=⟨B::B::.ptr 2 0::.ptr 3 0::bs 17 (DI::DI::bs 120 []),Z::Z::(some Y0)::(some Y3)::zs 139 [],.none⟩
def aaM {R:Type}(X:SD.D Pe)(K:Ex→AS→Option R):=Pu.hG (fun y0 y1=>ke 0 K Pe ((z1 (u y0) X.1),(z1 (u y1) X.2.1),X.2.2)) X.1.1 X.2.1.1
def adH:aO:=cI Pe aaM (fun X=>(X.1.2.1,X.2.1.2.1))
@[reducible] def Jm:SD:=⟨B::B::.ptr 2 0::.ptr 3 0::bs 26 (.data false (.sl .loc bG)::DI::DI::bs 110 []),Z::Z::(some Y0)::(some Y3)::zs 139 [],.none⟩
def Rd {R:Type}(X:SD.D Jm)(K:Ex→AS→Option R):=Pu.gi (fun y0 y1=>ke 2 K Jm ((z2 (u y0) X.1),(z1 (u y1) X.2.1),X.2.2)) X.1.1 X.1.2.1 X.2.1.1
def YN:aO:=cI Jm Rd (fun X=>(q2 X,X.2.1.2.1))
@[reducible] def Jn:SD:=⟨B::B::.ptr 2 0::.ptr 3 0::bs 50 (DI::DI::bs 87 []),Z::Z::(some Y0)::(some Y3)::zs 139 [],.none⟩
def Re {R:Type}(X:SD.D Jn)(K:Ex→AS→Option R):=Pu.dQ (fun y0 y1=>ke 4 K Jn ((z1 (u y0) X.1),(z1 (u y1) X.2.1),X.2.2)) X.1.1 X.2.1.1
def YO:aO:=cI Jn Re (fun X=>(X.1.2.1,X.2.1.2.1))
def L7:aS:=(((aS.nil).add 5 adH).add 10 YN).add 18 YO
theorem adF:cC E g7 n7 L7 (ak Tryz.f7 0):=lk Pe aaM (fun X=>(X.1.2.1,X.2.1.2.1)) fun X x=>((z1 (u x.1) X.1),(z1 (u x.2) X.2.1),X.2.2)
theorem XZ:cC E g7 n7 L7 (ak Tryz.f7 1):=lk Jm Rd (fun X=>(q2 X,X.2.1.2.1)) fun X x=>((z2 (u x.1) X.1),(z1 (u x.2) X.2.1),X.2.2)
theorem X0:cC E g7 n7 L7 (ak Tryz.f7 2):=lk Jn Re (fun X=>(X.1.2.1,X.2.1.2.1)) fun X x=>((z1 (u x.1) X.1),(z1 (u x.2) X.2.1),X.2.2)
theorem o7:aj Tryz.prog 7 e7:=fk n7 (((((((((base.add o41).add o42).add o43).add o44).add o45).add o46).add o47).add o48).add o49) Tryz.func7 (Λ:=L7) (cF adF (cF XZ (cF X0 nF)))
def e60:ao:=af [pd (.sl .str),pd (.sl .str)] [rB] (c2 Pu.lJ)
def g60:aM:=aM.nil
def n60:An:={mask:=mk [(4,[0,1,4,5])]}
@[reducible] def EL:SD:=⟨.data false (.sl .arg .str)::.data false (.sl .arg .str)::B::B::DB::DI::bs 20 [],zs 26 [],.none⟩
def Q0 {R:Type}(X:SD.D EL)(K:Ex→AS→Option R):=Pu.qd (fun y0=>ke 0 K EL ((z3 (u y0) X.1),X.2)) (fun y0 y1=>kr K EL ((z2 (w y0 (u y1)) X.1),X.2)) X.1.1 X.1.2.1 (q2 X)
def YA:aO:=cI EL Q0 q3
def L60:aS:=(aS.nil).add 4 YA
theorem XM:cC E g60 n60 L60 (ak Tryz.f60 0):=lk EL Q0 q3 fun X x=>((z3 (u x) X.1),X.2)
theorem o60:aj Tryz.prog 60 e60:=fk n60 base Tryz.func60 (Λ:=L60) (cF XM nF)
def e50:ao:=af [pf (.sl .str),pf (.sl .str)] [rB] (c2 Pu.na)
theorem o50:aj Tryz.prog 50 e50:=f0 {} (base.add o60) Tryz.func50
def Wj:ao:=af [pf ar,pf ar] [rB] (c2 Pu.iz)
theorem aeb:aj Tryz.prog 153 Wj:=f0 {} base Tryz.func153
def e51:ao:=af [pd (.sl ar),pd (.sl ar)] [rB] (c2 Pu.nX)
def g51:aM:=aM.nil.add 153 Wj
def n51:An:={mask:=mk [(4,[0,1,4,5])]}
@[reducible] def EF:SD:=⟨.data false (.sl .arg ar)::.data false (.sl .arg ar)::B::B::DB::DI::bs 21 [],zs 27 [],.none⟩
def QS {R:Type}(X:SD.D EF)(K:Ex→AS→Option R):=Pu.pg (fun y0=>ke 0 K EF ((z3 (u y0) X.1),X.2)) (fun y0 y1=>kr K EF ((z2 (w y0 (u y1)) X.1),X.2)) X.1.1 X.1.2.1 (q2 X)
def Ys:aO:=cI EF QS q3
def L51:aS:=(aS.nil).add 4 Ys
theorem XE:cC E g51 n51 L51 (ak Tryz.f51 0):=lk EF QS q3 fun X x=>((z3 (u x) X.1),X.2)
theorem o51:aj Tryz.prog 51 e51:=fk n51 (base.add aeb) Tryz.func51 (Λ:=L51) (cF XE nF)
def aa6:ao:=af [pf jx,pf jx] [rB] (c2 Pu.nH)
theorem aah:aj Tryz.prog 154 aa6:=f0 {} base Tryz.func154
def e61:ao:=af [pd (.sl (.int .i64)),pd (.sl (.int .i64))] [rB] (c2 Pu.fS)
def g61:aM:=aM.nil
def n61:An:={mask:=mk [(4,[0,1,4,5])]}
@[reducible] def EM:SD:=⟨.data false (.sl .arg (.int .i64))::.data false (.sl .arg (.int .i64))::B::B::DB::DI::bs 20 [],zs 26 [],.none⟩
def Q1 {R:Type}(X:SD.D EM)(K:Ex→AS→Option R):=Pu.td (fun y0=>ke 0 K EM ((z3 (u y0) X.1),X.2)) (fun y0 y1=>kr K EM ((z2 (w y0 (u y1)) X.1),X.2)) X.1.1 X.1.2.1 (q2 X)
def YB:aO:=cI EM Q1 q3
def L61:aS:=(aS.nil).add 4 YB
theorem XN:cC E g61 n61 L61 (ak Tryz.f61 0):=lk EM Q1 q3 fun X x=>((z3 (u x) X.1),X.2)
theorem o61:aj Tryz.prog 61 e61:=fk n61 base Tryz.func61 (Λ:=L61) (cF XN nF)
def Wk:ao:=af [pf aU,pf aU] [rB] (c2 Pu.kZ)
theorem aai:aj Tryz.prog 155 Wk:=f0 {} (base.add o61) Tryz.func155
def WJ:ao:=af [pf bG,pf bG] [rB] (c2 Pu.nJ)
theorem ae5:aj Tryz.prog 230 WJ:=f0 {} (base.add o61) Tryz.func230
def aa7:ao:=af [pd (.sl bG),pd (.sl bG)] [rB] (c2 Pu.rE)
def ac3:aM:=aM.nil.add 230 WJ
def Zq:An:={mask:=mk [(4,[0,1,4,5])]}
@[reducible] def yL:SD:=⟨.data false (.sl .arg bG)::.data false (.sl .arg bG)::B::B::DB::DI::bs 21 [],zs 27 [],.none⟩
def Ob {R:Type}(X:SD.D yL)(K:Ex→AS→Option R):=Pu.sH (fun y0=>ke 0 K yL ((z3 (u y0) X.1),X.2)) (fun y0 y1=>kr K yL ((z2 (w y0 (u y1)) X.1),X.2)) X.1.1 X.1.2.1 (q2 X)
def Tk:aO:=cI yL Ob q3
def U8:aS:=(aS.nil).add 4 Tk
theorem Sj:cC E ac3 Zq U8 (ak Tryz.f156 0):=lk yL Ob q3 fun X x=>((z3 (u x) X.1),X.2)
theorem aec:aj Tryz.prog 156 aa7:=fk Zq (base.add ae5) Tryz.func156 (Λ:=U8) (cF Sj nF)
def e52:ao:=af [pf aY,pf aY] [rB] (c2 Pu.lK)
theorem o52:aj Tryz.prog 52 e52:=f0 {} (((base.add aah).add aai).add aec) Tryz.func52
def abS:ao:=af [pf aP,pf aP] [rB] (c2 Pu.cE)
theorem ae6:aj Tryz.prog 231 abS:=f0 {} base Tryz.func231
def acA:ao:=af [pf dn,pf dn] [rB] (c2 Pu.lI)
theorem afP:aj Tryz.prog 292 acA:=f0 {} base Tryz.func292
def acn:ao:=af [pf ed,pf ed] [rB] (c2 Pu.nb)
theorem afE:aj Tryz.prog 276 acn:=f0 {} (base.add afP) Tryz.func276
def abT:ao:=af [pf nS,pf nS] [rB] (c2 Pu.ou)
theorem ae7:aj Tryz.prog 232 abT:=f0 {} (base.add afE) Tryz.func232
def Wl:ao:=af [pf aA,pf aA] [rB] (c2 Pu.iA)
theorem aed:aj Tryz.prog 157 Wl:=f0 {} (((base.add aah).add ae6).add ae7) Tryz.func157
def e53:ao:=af [pd (.sl aA),pd (.sl aA)] [rB] (c2 Pu.nY)
def g53:aM:=aM.nil.add 157 Wl
def n53:An:={mask:=mk [(4,[0,1,4,5])]}
@[reducible] def EG:SD:=⟨.data false (.sl .arg aA)::.data false (.sl .arg aA)::B::B::DB::DI::bs 21 [],zs 27 [],.none⟩
def QT {R:Type}(X:SD.D EG)(K:Ex→AS→Option R):=Pu.ph (fun y0=>ke 0 K EG ((z3 (u y0) X.1),X.2)) (fun y0 y1=>kr K EG ((z2 (w y0 (u y1)) X.1),X.2)) X.1.1 X.1.2.1 (q2 X)
def Yt:aO:=cI EG QT q3
def L53:aS:=(aS.nil).add 4 Yt
theorem XF:cC E g53 n53 L53 (ak Tryz.f53 0):=lk EG QT q3 fun X x=>((z3 (u x) X.1),X.2)
theorem o53:aj Tryz.prog 53 e53:=fk n53 (base.add aed) Tryz.func53 (Λ:=L53) (cF XF nF)
def e54:ao:=af [pd (.sl aU),pd (.sl aU)] [rB] (c2 Pu.rC)
def g54:aM:=aM.nil.add 155 Wk
def n54:An:={mask:=mk [(4,[0,1,4,5])]}
@[reducible] def EH:SD:=⟨.data false (.sl .arg aU)::.data false (.sl .arg aU)::B::B::DB::DI::bs 21 [],zs 27 [],.none⟩
def QU {R:Type}(X:SD.D EH)(K:Ex→AS→Option R):=Pu.sF (fun y0=>ke 0 K EH ((z3 (u y0) X.1),X.2)) (fun y0 y1=>kr K EH ((z2 (w y0 (u y1)) X.1),X.2)) X.1.1 X.1.2.1 (q2 X)
def Yu:aO:=cI EH QU q3
def L54:aS:=(aS.nil).add 4 Yu
theorem XG:cC E g54 n54 L54 (ak Tryz.f54 0):=lk EH QU q3 fun X x=>((z3 (u x) X.1),X.2)
theorem o54:aj Tryz.prog 54 e54:=fk n54 (base.add aai) Tryz.func54 (Λ:=L54) (cF XG nF)
def Wm:ao:=af [pf aJ,pf aJ] [rB] (c2 Pu.jP)
theorem aee:aj Tryz.prog 158 Wm:=f0 {} base Tryz.func158
def e55:ao:=af [pd (.sl aJ),pd (.sl aJ)] [rB] (c2 Pu.pk)
def g55:aM:=aM.nil.add 158 Wm
def n55:An:={mask:=mk [(4,[0,1,4,5])]}
@[reducible] def EI:SD:=⟨.data false (.sl .arg aJ)::.data false (.sl .arg aJ)::B::B::DB::DI::bs 21 [],zs 27 [],.none⟩
def QV {R:Type}(X:SD.D EI)(K:Ex→AS→Option R):=Pu.qe (fun y0=>ke 0 K EI ((z3 (u y0) X.1),X.2)) (fun y0 y1=>kr K EI ((z2 (w y0 (u y1)) X.1),X.2)) X.1.1 X.1.2.1 (q2 X)
def Yv:aO:=cI EI QV q3
def L55:aS:=(aS.nil).add 4 Yv
theorem XH:cC E g55 n55 L55 (ak Tryz.f55 0):=lk EI QV q3 fun X x=>((z3 (u x) X.1),X.2)
theorem o55:aj Tryz.prog 55 e55:=fk n55 (base.add aee) Tryz.func55 (Λ:=L55) (cF XH nF)
def e56:ao:=af [pd (.sl .bool),pd (.sl .bool)] [rB] (c2 Pu.rA)
def g56:aM:=aM.nil
def n56:An:={mask:=mk [(4,[0,1,4,5])]}
@[reducible] def EJ:SD:=⟨.data false (.sl .arg .bool)::.data false (.sl .arg .bool)::B::B::DB::DI::bs 20 [],zs 26 [],.none⟩
def QW {R:Type}(X:SD.D EJ)(K:Ex→AS→Option R):=Pu.sE (fun y0=>ke 0 K EJ ((z3 (u y0) X.1),X.2)) (fun y0 y1=>kr K EJ ((z2 (w y0 (u y1)) X.1),X.2)) X.1.1 X.1.2.1 (q2 X)
def Yw:aO:=cI EJ QW q3
def L56:aS:=(aS.nil).add 4 Yw
theorem XI:cC E g56 n56 L56 (ak Tryz.f56 0):=lk EJ QW q3 fun X x=>((z3 (u x) X.1),X.2)
theorem o56:aj Tryz.prog 56 e56:=fk n56 base Tryz.func56 (Λ:=L56) (cF XI nF)
def e57:ao:=af [pf bV,pf bV] [rB] (c2 Pu.m9)
theorem o57:aj Tryz.prog 57 e57:=f0 {} (base.add o61) Tryz.func57
def WK:ao:=af [pf bR,pf bR] [rB] (c2 Pu.nI)
theorem ae8:aj Tryz.prog 233 WK:=f0 {} base Tryz.func233
def aa8:ao:=af [pd (.sl bR),pd (.sl bR)] [rB] (c2 Pu.rD)
def ac4:aM:=aM.nil.add 233 WK
def Zr:An:={mask:=mk [(4,[0,1,4,5])]}
@[reducible] def yM:SD:=⟨.data false (.sl .arg bR)::.data false (.sl .arg bR)::B::B::DB::DI::bs 21 [],zs 27 [],.none⟩
def Oc {R:Type}(X:SD.D yM)(K:Ex→AS→Option R):=Pu.sG (fun y0=>ke 0 K yM ((z3 (u y0) X.1),X.2)) (fun y0 y1=>kr K yM ((z2 (w y0 (u y1)) X.1),X.2)) X.1.1 X.1.2.1 (q2 X)
def Tl:aO:=cI yM Oc q3
def U9:aS:=(aS.nil).add 4 Tl
theorem Sk:cC E ac4 Zr U9 (ak Tryz.f159 0):=lk yM Oc q3 fun X x=>((z3 (u x) X.1),X.2)
theorem aef:aj Tryz.prog 159 aa8:=fk Zr (base.add ae8) Tryz.func159 (Λ:=U9) (cF Sk nF)
def abV:ao:=af [pf ft,pf ft] [rB] (c2 Pu.nG)
theorem aau:aj Tryz.prog 235 abV:=f0 {} base Tryz.func235
def WZ:ao:=af [pf a9,pf a9] [rB] (c2 Pu.nK)
theorem afF:aj Tryz.prog 277 WZ:=f0 {} (base.add aau) Tryz.func277
def abU:ao:=af [pd (.sl a9),pd (.sl a9)] [rB] (c2 Pu.rF)
def adp:aM:=aM.nil.add 277 WZ
def ZM:An:={mask:=mk [(4,[0,1,4,5])]}
@[reducible] def yZ:SD:=⟨.data false (.sl .arg a9)::.data false (.sl .arg a9)::B::B::DB::DI::bs 21 [],zs 27 [],.none⟩
def OB {R:Type}(X:SD.D yZ)(K:Ex→AS→Option R):=Pu.sI (fun y0=>ke 0 K yZ ((z3 (u y0) X.1),X.2)) (fun y0 y1=>kr K yZ ((z2 (w y0 (u y1)) X.1),X.2)) X.1.1 X.1.2.1 (q2 X)
def TH:aO:=cI yZ OB q3
def Vu:aS:=(aS.nil).add 4 TH
theorem SH:cC E adp ZM Vu (ak Tryz.f234 0):=lk yZ OB q3 fun X x=>((z3 (u x) X.1),X.2)
theorem ae9:aj Tryz.prog 234 abU:=fk ZM (base.add afF) Tryz.func234 (Λ:=Vu) (cF SH nF)
def aa9:ao:=af [pf (.sl a9),pf (.sl a9)] [rB] (c2 Pu.je)
theorem aeg:aj Tryz.prog 160 aa9:=f0 {} (base.add ae9) Tryz.func160
def aba:ao:=af [pf cL,pf cL] [rB] (c2 Pu.nd)
theorem aeh:aj Tryz.prog 161 aba:=f0 {} (base.add o61) Tryz.func161
def e58:ao:=af [pf bm,pf bm] [rB] (c2 Pu.kn)
theorem o58:aj Tryz.prog 58 e58:=f0 {} (((base.add aef).add aeg).add aeh) Tryz.func58
def Wn:ao:=af [pf az,pf az] [rB] (c2 Pu.jO)
theorem aei:aj Tryz.prog 162 Wn:=f0 {} (base.add aau) Tryz.func162
def e59:ao:=af [pd (.sl az),pd (.sl az)] [rB] (c2 Pu.pj)
def g59:aM:=aM.nil.add 162 Wn
def n59:An:={mask:=mk [(4,[0,1,4,5])]}
@[reducible] def EK:SD:=⟨.data false (.sl .arg az)::.data false (.sl .arg az)::B::B::DB::DI::bs 21 [],zs 27 [],.none⟩
def QX {R:Type}(X:SD.D EK)(K:Ex→AS→Option R):=Pu.qc (fun y0=>ke 0 K EK ((z3 (u y0) X.1),X.2)) (fun y0 y1=>kr K EK ((z2 (w y0 (u y1)) X.1),X.2)) X.1.1 X.1.2.1 (q2 X)
def Yx:aO:=cI EK QX q3
def L59:aS:=(aS.nil).add 4 Yx
theorem XJ:cC E g59 n59 L59 (ak Tryz.f59 0):=lk EK QX q3 fun X x=>((z3 (u x) X.1),X.2)
theorem o59:aj Tryz.prog 59 e59:=fk n59 (base.add aei) Tryz.func59 (Λ:=L59) (cF XJ nF)
def e62:ao:=af [pf ft,pf ft] [rB] (c2 Pu.km)
theorem o62:aj Tryz.prog 62 e62:=f0 {} base Tryz.func62
def e8:ao:=af [pf a8,pf a8] [rB] (c2 Pu.iy)
theorem o8:aj Tryz.prog 8 e8:=f0 {} (((((((((((((base.add o50).add o51).add o52).add o53).add o54).add o55).add o56).add o57).add o58).add o59).add o60).add o61).add o62) Tryz.func8
def Ha:ao:=af [pI] [rS] (c1 Pu.aE)
def ac5:aM:=aM.nil
def Zt:An:={mask:=mk [(4,[0,3])]}
@[reducible] def CY:SD:=⟨DI::B::B::.data false .str::bs 16 [],zs 20 [],.none⟩
def Oe {R:Type}(X:SD.D CY)(K:Ex→AS→Option R):=Pu.ji (fun y0 y1=>ke 0 K CY ((w y0 (u y1) X.1),X.2))
def Tn:aO:=cI CY Oe (fun X=>(X.1.1,X.1.2.1))
def Vb:aS:=(aS.nil).add 4 Tn
theorem Sm:cC E ac5 Zt Vb (ak Tryz.f165 0):=lk CY Oe (fun X=>(X.1.1,X.1.2.1)) fun X x=>((w x.1 (u x.2) X.1),X.2)
theorem K4:aj Tryz.prog 165 Ha:=fk Zt base Tryz.func165 (Λ:=Vb) (cF Sm nF)
def e73:ao:=jH (.sl .str) false [pI] [rI] fun x a=>Pu.jh x a.1
def g73:aM:=aM.nil.add 165 Ha
def n73:An:={mask:=mk [(2,[0,1,5])]}
@[reducible] def Jk:SD:=⟨.data false (.sl (.lio 0 12288036864) .str)::DI::B::B::B::DI::bs 14 [],zs 20 [],.some (.sl (.own (some 12288036864)) .str)⟩
def Q8 {R:Type}(X:SD.D Jk)(K:Ex→AS→Option R):=Pu.dw (fun y0 y1 y2 y3=>ke 0 K Jk ((w y0 (w y1 (u y2)) X.1),X.2.1,y3))
def YI:aO:=cI Jk Q8 (fun X=>(X.1.1,X.1.2.1,q2 X,X.2.2))
def L73:aS:=(aS.nil).add 2 YI
theorem XU:cC E g73 n73 L73 (ak Tryz.f73 0):=lk Jk Q8 (fun X=>(X.1.1,X.1.2.1,q2 X,X.2.2)) fun X x=>((w x.1 (w x.2.1 (u x.2.2.1)) X.1),X.2.1,x.2.2.2)
theorem o73:aj Tryz.prog 73 e73:=aj.rU (rl (Γ:=g73) (an:=n73) (Λ:=L73) (base.add K4) Tryz.func73 (by kernel_rfl) (hF (by kernel_rfl) (cF XU nF))) (fun x a=>by kernel_rfl)
def e63:ao:=jH (.sl .str) true [pI] [rI] fun x a=>Pu.ku x a.1
theorem o63:aj Tryz.prog 63 e63:=aj.rU (rl (an:={}) (Λ:=aS.nil) (base.add o73) Tryz.func63 (by kernel_rfl) (hF (by kernel_rfl) nF)) (fun x a=>by kernel_rfl)
def e64:ao:=jH (.sl ar) false [pI] [rI] fun x a=>Pu.lR x a.1
def g64:aM:=aM.nil
def n64:An:={mask:=mk [(2,[0,1,5])]}
@[reducible] def Je:SD:=⟨.data false (.sl (.lio 0 12288036864) ar)::DI::B::B::B::DI::bs 37 [],zs 43 [],.some (.sl (.own (some 12288036864)) ar)⟩
def Q2 {R:Type}(X:SD.D Je)(K:Ex→AS→Option R):=Pu.iD (fun y0 y1 y2 y3=>ke 0 K Je ((w y0 (w y1 (u y2)) X.1),X.2.1,y3))
def YC:aO:=cI Je Q2 (fun X=>(X.1.1,X.1.2.1,q2 X,X.2.2))
def L64:aS:=(aS.nil).add 2 YC
theorem XO:cC E g64 n64 L64 (ak Tryz.f64 0):=lk Je Q2 (fun X=>(X.1.1,X.1.2.1,q2 X,X.2.2)) fun X x=>((w x.1 (w x.2.1 (u x.2.2.1)) X.1),X.2.1,x.2.2.2)
theorem o64:aj Tryz.prog 64 e64:=aj.rU (rl (Γ:=g64) (an:=n64) (Λ:=L64) (base) Tryz.func64 (by kernel_rfl) (hF (by kernel_rfl) (cF XO nF))) (fun x a=>by kernel_rfl)
def e74:ao:=jH (.sl (.int .i64)) false [pI] [rI] fun x a=>Pu.cw x a.1
def g74:aM:=aM.nil
def n74:An:={mask:=mk [(2,[0,1,5])]}
@[reducible] def Jl:SD:=⟨.data false (.sl (.lio 0 12288036864) (.int .i64))::DI::B::B::B::DI::bs 13 [],zs 19 [],.some (.sl (.own (some 12288036864)) (.int .i64))⟩
def Q9 {R:Type}(X:SD.D Jl)(K:Ex→AS→Option R):=Pu.fC (fun y0 y1 y2 y3=>ke 0 K Jl ((w y0 (w y1 (u y2)) X.1),X.2.1,y3))
def YJ:aO:=cI Jl Q9 (fun X=>(X.1.1,X.1.2.1,q2 X,X.2.2))
def L74:aS:=(aS.nil).add 2 YJ
theorem XV:cC E g74 n74 L74 (ak Tryz.f74 0):=lk Jl Q9 (fun X=>(X.1.1,X.1.2.1,q2 X,X.2.2)) fun X x=>((w x.1 (w x.2.1 (u x.2.2.1)) X.1),X.2.1,x.2.2.2)
theorem UG:aj Tryz.prog 74 e74:=aj.rU (rl (Γ:=g74) (an:=n74) (Λ:=L74) (base) Tryz.func74 (by kernel_rfl) (hF (by kernel_rfl) (cF XV nF))) (fun x a=>by kernel_rfl)
def abb:ao:=jH aU true [pI] [rI] fun x a=>Pu.ng x a.1
theorem aej:aj Tryz.prog 163 abb:=aj.rU (rl (an:={}) (Λ:=aS.nil) (base.add UG) Tryz.func163 (by kernel_rfl) (hF (by kernel_rfl) nF)) (fun x a=>by kernel_rfl)
def abc:ao:=jH (.sl bG) false [pI] [rI] fun x a=>Pu.pz x a.1
def Xe:aM:=aM.nil.add 74 e74
def Zs:An:={mask:=mk [(2,[0,1,5])],nest:=[30]}
@[reducible] def CX:SD:=⟨.data false (.sl (.lio 0 12288036864) bG)::DI::B::B::B::DI::bs 28 [],zs 34 [],.some (.sl (.own (some 12288036864)) bG)⟩
def Od {R:Type}(X:SD.D CX)(K:Ex→AS→Option R):=Pu.lV (fun y0 y1 y2 y3=>ke 0 K CX ((w y0 (w y1 (u y2)) X.1),X.2.1,y3))
def Tm:aO:=cI CX Od (fun X=>(X.1.1,X.1.2.1,q2 X,X.2.2))
def Va:aS:=(aS.nil).add 2 Tm
theorem Sl:cC E Xe Zs Va (ak Tryz.f164 0):=lk CX Od (fun X=>(X.1.1,X.1.2.1,q2 X,X.2.2)) fun X x=>((w x.1 (w x.2.1 (u x.2.2.1)) X.1),X.2.1,x.2.2.2)
theorem aek:aj Tryz.prog 164 abc:=aj.rU (rl (Γ:=Xe) (an:=Zs) (Λ:=Va) (base.add UG) Tryz.func164 (by kernel_rfl) (hF (by kernel_rfl) (cF Sl nF))) (fun x a=>by kernel_rfl)
def e65:ao:=jH aY true [pI] [rI] fun x a=>Pu.jj x a.1
theorem o65:aj Tryz.prog 65 e65:=aj.rU (rl (an:={}) (Λ:=aS.nil) ((base.add aej).add aek) Tryz.func65 (by kernel_rfl) (hF (by kernel_rfl) nF)) (fun x a=>by kernel_rfl)
def e66:ao:=jH (.sl aA) false [pI] [rI] fun x a=>Pu.lU x a.1
def g66:aM:=aM.nil.add 165 Ha
def n66:An:={mask:=mk [(2,[0,1,5])]}
@[reducible] def Jf:SD:=⟨.data false (.sl (.lio 0 12288036864) aA)::DI::B::B::B::DI::bs 272 [],zs 278 [],.some (.sl (.own (some 12288036864)) aA)⟩
def Q3 {R:Type}(X:SD.D Jf)(K:Ex→AS→Option R):=Pu.iE (fun y0 y1 y2 y3=>ke 0 K Jf ((w y0 (w y1 (u y2)) X.1),X.2.1,y3))
def YD:aO:=cI Jf Q3 (fun X=>(X.1.1,X.1.2.1,q2 X,X.2.2))
def L66:aS:=(aS.nil).add 2 YD
theorem XP:cC E g66 n66 L66 (ak Tryz.f66 0):=lk Jf Q3 (fun X=>(X.1.1,X.1.2.1,q2 X,X.2.2)) fun X x=>((w x.1 (w x.2.1 (u x.2.2.1)) X.1),X.2.1,x.2.2.2)
theorem o66:aj Tryz.prog 66 e66:=aj.rU (rl (Γ:=g66) (an:=n66) (Λ:=L66) (base.add K4) Tryz.func66 (by kernel_rfl) (hF (by kernel_rfl) (cF XP nF))) (fun x a=>by kernel_rfl)
def e67:ao:=jH (.sl aU) false [pI] [rI] fun x a=>Pu.px x a.1
def g67:aM:=aM.nil.add 74 e74
def n67:An:={mask:=mk [(2,[0,1,5])],nest:=[37]}
@[reducible] def Jg:SD:=⟨.data false (.sl (.lio 0 12288036864) aU)::DI::B::B::B::DI::bs 35 [],zs 41 [],.some (.sl (.own (some 12288036864)) aU)⟩
def Q4 {R:Type}(X:SD.D Jg)(K:Ex→AS→Option R):=Pu.lS (fun y0 y1 y2 y3=>ke 0 K Jg ((w y0 (w y1 (u y2)) X.1),X.2.1,y3))
def YE:aO:=cI Jg Q4 (fun X=>(X.1.1,X.1.2.1,q2 X,X.2.2))
def L67:aS:=(aS.nil).add 2 YE
theorem XQ:cC E g67 n67 L67 (ak Tryz.f67 0):=lk Jg Q4 (fun X=>(X.1.1,X.1.2.1,q2 X,X.2.2)) fun X x=>((w x.1 (w x.2.1 (u x.2.2.1)) X.1),X.2.1,x.2.2.2)
theorem o67:aj Tryz.prog 67 e67:=aj.rU (rl (Γ:=g67) (an:=n67) (Λ:=L67) (base.add UG) Tryz.func67 (by kernel_rfl) (hF (by kernel_rfl) (cF XQ nF))) (fun x a=>by kernel_rfl)
def e68:ao:=jH (.sl aJ) false [pI] [rI] fun x a=>Pu.mJ x a.1
def g68:aM:=aM.nil
def n68:An:={mask:=mk [(2,[0,1,5])]}
@[reducible] def Jh:SD:=⟨.data false (.sl (.lio 0 12288036864) aJ)::DI::B::B::B::DI::bs 53 [],zs 59 [],.some (.sl (.own (some 12288036864)) aJ)⟩
def Q5 {R:Type}(X:SD.D Jh)(K:Ex→AS→Option R):=Pu.jC (fun y0 y1 y2 y3=>ke 0 K Jh ((w y0 (w y1 (u y2)) X.1),X.2.1,y3))
def YF:aO:=cI Jh Q5 (fun X=>(X.1.1,X.1.2.1,q2 X,X.2.2))
def L68:aS:=(aS.nil).add 2 YF
theorem XR:cC E g68 n68 L68 (ak Tryz.f68 0):=lk Jh Q5 (fun X=>(X.1.1,X.1.2.1,q2 X,X.2.2)) fun X x=>((w x.1 (w x.2.1 (u x.2.2.1)) X.1),X.2.1,x.2.2.2)
theorem o68:aj Tryz.prog 68 e68:=aj.rU (rl (Γ:=g68) (an:=n68) (Λ:=L68) (base) Tryz.func68 (by kernel_rfl) (hF (by kernel_rfl) (cF XR nF))) (fun x a=>by kernel_rfl)
def e69:ao:=jH (.sl .bool) false [pI] [rI] fun x a=>Pu.pw x a.1
def g69:aM:=aM.nil
def n69:An:={mask:=mk [(2,[0,1,5])]}
@[reducible] def Ji:SD:=⟨.data false (.sl (.lio 0 12288036864) .bool)::DI::B::B::B::DI::bs 15 [],zs 21 [],.some (.sl (.own (some 12288036864)) .bool)⟩
def Q6 {R:Type}(X:SD.D Ji)(K:Ex→AS→Option R):=Pu.eI (fun y0 y1 y2 y3=>ke 0 K Ji ((w y0 (w y1 (u y2)) X.1),X.2.1,y3))
def YG:aO:=cI Ji Q6 (fun X=>(X.1.1,X.1.2.1,q2 X,X.2.2))
def L69:aS:=(aS.nil).add 2 YG
theorem XS:cC E g69 n69 L69 (ak Tryz.f69 0):=lk Ji Q6 (fun X=>(X.1.1,X.1.2.1,q2 X,X.2.2)) fun X x=>((w x.1 (w x.2.1 (u x.2.2.1)) X.1),X.2.1,x.2.2.2)
theorem o69:aj Tryz.prog 69 e69:=aj.rU (rl (Γ:=g69) (an:=n69) (Λ:=L69) (base) Tryz.func69 (by kernel_rfl) (hF (by kernel_rfl) (cF XS nF))) (fun x a=>by kernel_rfl)
def e70:ao:=jH bV true [pI] [rI] fun x a=>Pu.kt x a.1
theorem o70:aj Tryz.prog 70 e70:=aj.rU (rl (an:={}) (Λ:=aS.nil) (base.add UG) Tryz.func70 (by kernel_rfl) (hF (by kernel_rfl) nF)) (fun x a=>by kernel_rfl)
def abd:ao:=jH (.sl bR) false [pI] [rI] fun x a=>Pu.py x a.1
def Xf:aM:=aM.nil
def Zu:An:={mask:=mk [(2,[0,1,5])]}
@[reducible] def CZ:SD:=⟨.data false (.sl (.lio 0 12288036864) bR)::DI::B::B::B::DI::bs 70 [],zs 76 [],.some (.sl (.own (some 12288036864)) bR)⟩
def Of {R:Type}(X:SD.D CZ)(K:Ex→AS→Option R):=Pu.lT (fun y0 y1 y2 y3=>ke 0 K CZ ((w y0 (w y1 (u y2)) X.1),X.2.1,y3))
def To:aO:=cI CZ Of (fun X=>(X.1.1,X.1.2.1,q2 X,X.2.2))
def Vc:aS:=(aS.nil).add 2 To
theorem Sn:cC E Xf Zu Vc (ak Tryz.f166 0):=lk CZ Of (fun X=>(X.1.1,X.1.2.1,q2 X,X.2.2)) fun X x=>((w x.1 (w x.2.1 (u x.2.2.1)) X.1),X.2.1,x.2.2.2)
theorem ael:aj Tryz.prog 166 abd:=aj.rU (rl (Γ:=Xf) (an:=Zu) (Λ:=Vc) (base) Tryz.func166 (by kernel_rfl) (hF (by kernel_rfl) (cF Sn nF))) (fun x a=>by kernel_rfl)
def abW:ao:=jH (.sl a9) false [pI] [rI] fun x a=>Pu.pA x a.1
def Xh:aM:=aM.nil
def ZN:An:={mask:=mk [(2,[0,1,5])]}
@[reducible] def C6:SD:=⟨.data false (.sl (.lio 0 12288036864) a9)::DI::B::B::B::DI::bs 61 [],zs 67 [],.some (.sl (.own (some 12288036864)) a9)⟩
def OC {R:Type}(X:SD.D C6)(K:Ex→AS→Option R):=Pu.lW (fun y0 y1 y2 y3=>ke 0 K C6 ((w y0 (w y1 (u y2)) X.1),X.2.1,y3))
def TI:aO:=cI C6 OC (fun X=>(X.1.1,X.1.2.1,q2 X,X.2.2))
def Vv:aS:=(aS.nil).add 2 TI
theorem SI:cC E Xh ZN Vv (ak Tryz.f236 0):=lk C6 OC (fun X=>(X.1.1,X.1.2.1,q2 X,X.2.2)) fun X x=>((w x.1 (w x.2.1 (u x.2.2.1)) X.1),X.2.1,x.2.2.2)
theorem afa:aj Tryz.prog 236 abW:=aj.rU (rl (Γ:=Xh) (an:=ZN) (Λ:=Vv) (base) Tryz.func236 (by kernel_rfl) (hF (by kernel_rfl) (cF SI nF))) (fun x a=>by kernel_rfl)
def abe:ao:=jH (.sl a9) true [pI] [rI] fun x a=>Pu.gn x a.1
theorem aem:aj Tryz.prog 167 abe:=aj.rU (rl (an:={}) (Λ:=aS.nil) (base.add afa) Tryz.func167 (by kernel_rfl) (hF (by kernel_rfl) nF)) (fun x a=>by kernel_rfl)
def abf:ao:=jH cL true [pI] [rI] fun x a=>Pu.kv x a.1
theorem aen:aj Tryz.prog 168 abf:=aj.rU (rl (an:={}) (Λ:=aS.nil) (base.add UG) Tryz.func168 (by kernel_rfl) (hF (by kernel_rfl) nF)) (fun x a=>by kernel_rfl)
def e71:ao:=jH bm true [pI] [rI] fun x a=>Pu.hZ x a.1
theorem o71:aj Tryz.prog 71 e71:=aj.rU (rl (an:={}) (Λ:=aS.nil) (((base.add ael).add aem).add aen) Tryz.func71 (by kernel_rfl) (hF (by kernel_rfl) nF)) (fun x a=>by kernel_rfl)
def e72:ao:=jH (.sl az) false [pI] [rI] fun x a=>Pu.mI x a.1
def g72:aM:=aM.nil.add 165 Ha
def n72:An:={mask:=mk [(2,[0,1,5])]}
@[reducible] def Jj:SD:=⟨.data false (.sl (.lio 0 12288036864) az)::DI::B::B::B::DI::bs 71 [],zs 77 [],.some (.sl (.own (some 12288036864)) az)⟩
def Q7 {R:Type}(X:SD.D Jj)(K:Ex→AS→Option R):=Pu.jB (fun y0 y1 y2 y3=>ke 0 K Jj ((w y0 (w y1 (u y2)) X.1),X.2.1,y3))
def YH:aO:=cI Jj Q7 (fun X=>(X.1.1,X.1.2.1,q2 X,X.2.2))
def L72:aS:=(aS.nil).add 2 YH
theorem XT:cC E g72 n72 L72 (ak Tryz.f72 0):=lk Jj Q7 (fun X=>(X.1.1,X.1.2.1,q2 X,X.2.2)) fun X x=>((w x.1 (w x.2.1 (u x.2.2.1)) X.1),X.2.1,x.2.2.2)
theorem o72:aj Tryz.prog 72 e72:=aj.rU (rl (Γ:=g72) (an:=n72) (Λ:=L72) (base.add K4) Tryz.func72 (by kernel_rfl) (hF (by kernel_rfl) (cF XT nF))) (fun x a=>by kernel_rfl)
def e9:ao:=jH a8 true [pI] [rI] fun x a=>Pu.jQ x a.1
theorem o9:aj Tryz.prog 9 e9:=aj.rU (rl (an:={}) (Λ:=aS.nil) ((((((((((((base.add o63).add o64).add o65).add o66).add o67).add o68).add o69).add o70).add o71).add o72).add o73).add UG) Tryz.func9 (by kernel_rfl) (hF (by kernel_rfl) nF)) (fun x a=>by kernel_rfl)
def e85:ao:=af [pd (.sl .str),pI] [rI] (c2 Pu.jf)
def g85:aM:=aM.nil.add 165 Ha
def n85:An:={mask:=mk [(2,[0,1,4,5])]}
@[reducible] def EU:SD:=⟨.data false (.sl .arg .str)::DI::B::B::DI::DI::bs 16 [],zs 22 [],.none⟩
def Ri {R:Type}(X:SD.D EU)(K:Ex→AS→Option R):=Pu.dv (fun y0 y1=>ke 0 K EU ((z1 (w y0 (z1 (u y1))) X.1),X.2)) (fun y0 y1 y2=>kr K EU ((z1 (w y0 (w y1 (u y2))) X.1),X.2)) X.1.1 (q2 X)
def YS:aO:=cI EU Ri (fun X=>(X.1.2.1,q3 X))
def L85:aS:=(aS.nil).add 2 YS
theorem X4:cC E g85 n85 L85 (ak Tryz.f85 0):=lk EU Ri (fun X=>(X.1.2.1,q3 X)) fun X x=>((z1 (w x.1 (z1 (u x.2))) X.1),X.2)
theorem o85:aj Tryz.prog 85 e85:=fk n85 (base.add K4) Tryz.func85 (Λ:=L85) (cF X4 nF)
def e75:ao:=af [pf (.sl .str),pI] [rI] (c2 Pu.kq)
theorem o75:aj Tryz.prog 75 e75:=f0 {} (base.add o85) Tryz.func75
def e76:ao:=af [pd (.sl ar),pI] [rI] (c2 Pu.lL)
def g76:aM:=aM.nil
def n76:An:={mask:=mk [(2,[0,1,4,5])]}
@[reducible] def EN:SD:=⟨.data false (.sl .arg ar)::DI::B::B::DI::DI::bs 45 [],zs 51 [],.none⟩
def Ra {R:Type}(X:SD.D EN)(K:Ex→AS→Option R):=Pu.iB (fun y0 y1=>ke 0 K EN ((z1 (w y0 (z1 (u y1))) X.1),X.2)) (fun y0 y1 y2=>kr K EN ((z1 (w y0 (w y1 (u y2))) X.1),X.2)) X.1.1 (q2 X)
def YK:aO:=cI EN Ra (fun X=>(X.1.2.1,q3 X))
def L76:aS:=(aS.nil).add 2 YK
theorem XW:cC E g76 n76 L76 (ak Tryz.f76 0):=lk EN Ra (fun X=>(X.1.2.1,q3 X)) fun X x=>((z1 (w x.1 (z1 (u x.2))) X.1),X.2)
theorem o76:aj Tryz.prog 76 e76:=fk n76 base Tryz.func76 (Λ:=L76) (cF XW nF)
def e86:ao:=af [pd (.sl (.int .i64)),pI] [rI] (c2 Pu.cv)
def g86:aM:=aM.nil
def n86:An:={mask:=mk [(2,[0,1,4,5])]}
@[reducible] def EV:SD:=⟨.data false (.sl .arg (.int .i64))::DI::B::B::DI::DI::bs 15 [],zs 21 [],.none⟩
def Rj {R:Type}(X:SD.D EV)(K:Ex→AS→Option R):=Pu.fB (fun y0 y1=>ke 0 K EV ((z1 (w y0 (z1 (u y1))) X.1),X.2)) (fun y0 y1 y2=>kr K EV ((z1 (w y0 (w y1 (u y2))) X.1),X.2)) X.1.1 (q2 X)
def YT:aO:=cI EV Rj (fun X=>(X.1.2.1,q3 X))
def L86:aS:=(aS.nil).add 2 YT
theorem X5:cC E g86 n86 L86 (ak Tryz.f86 0):=lk EV Rj (fun X=>(X.1.2.1,q3 X)) fun X x=>((z1 (w x.1 (z1 (u x.2))) X.1),X.2)
theorem UH:aj Tryz.prog 86 e86:=fk n86 base Tryz.func86 (Λ:=L86) (cF X5 nF)
def abg:ao:=af [pf aU,pI] [rI] (c2 Pu.nf)
theorem aeo:aj Tryz.prog 169 abg:=f0 {} (base.add UH) Tryz.func169
def abh:ao:=af [pd (.sl bG),pI] [rI] (c2 Pu.pr)
def ac6:aM:=aM.nil.add 86 e86
def Zv:An:={mask:=mk [(2,[0,1,4,5])]}
@[reducible] def yN:SD:=⟨.data false (.sl .arg bG)::DI::B::B::DI::DI::bs 34 [],zs 40 [],.none⟩
def Og {R:Type}(X:SD.D yN)(K:Ex→AS→Option R):=Pu.lP (fun y0 y1=>ke 0 K yN ((z1 (w y0 (z1 (u y1))) X.1),X.2)) (fun y0 y1 y2=>kr K yN ((z1 (w y0 (w y1 (u y2))) X.1),X.2)) X.1.1 (q2 X)
def Tp:aO:=cI yN Og (fun X=>(X.1.2.1,q3 X))
def Vd:aS:=(aS.nil).add 2 Tp
theorem So:cC E ac6 Zv Vd (ak Tryz.f170 0):=lk yN Og (fun X=>(X.1.2.1,q3 X)) fun X x=>((z1 (w x.1 (z1 (u x.2))) X.1),X.2)
theorem aep:aj Tryz.prog 170 abh:=fk Zv (base.add UH) Tryz.func170 (Λ:=Vd) (cF So nF)
def e77:ao:=af [pf aY,pI] [rI] (c2 Pu.jg)
theorem o77:aj Tryz.prog 77 e77:=f0 {} ((base.add aeo).add aep) Tryz.func77
def e78:ao:=af [pd (.sl aA),pI] [rI] (c2 Pu.lO)
def g78:aM:=aM.nil.add 165 Ha
def n78:An:={mask:=mk [(2,[0,1,4,5])]}
@[reducible] def EO:SD:=⟨.data false (.sl .arg aA)::DI::B::B::DI::DI::bs 332 [],zs 338 [],.none⟩
def Rb {R:Type}(X:SD.D EO)(K:Ex→AS→Option R):=Pu.iC (fun y0 y1=>ke 0 K EO ((z1 (w y0 (z1 (u y1))) X.1),X.2)) (fun y0 y1 y2=>kr K EO ((z1 (w y0 (w y1 (u y2))) X.1),X.2)) X.1.1 (q2 X)
def YL:aO:=cI EO Rb (fun X=>(X.1.2.1,q3 X))
def L78:aS:=(aS.nil).add 2 YL
theorem XX:cC E g78 n78 L78 (ak Tryz.f78 0):=lk EO Rb (fun X=>(X.1.2.1,q3 X)) fun X x=>((z1 (w x.1 (z1 (u x.2))) X.1),X.2)
theorem o78:aj Tryz.prog 78 e78:=fk n78 (base.add K4) Tryz.func78 (Λ:=L78) (cF XX nF)
def e79:ao:=af [pd (.sl aU),pI] [rI] (c2 Pu.po)
def g79:aM:=aM.nil.add 86 e86
def n79:An:={mask:=mk [(2,[0,1,4,5])]}
@[reducible] def EP:SD:=⟨.data false (.sl .arg aU)::DI::B::B::DI::DI::bs 43 [],zs 49 [],.none⟩
def Rc {R:Type}(X:SD.D EP)(K:Ex→AS→Option R):=Pu.lM (fun y0 y1=>ke 0 K EP ((z1 (w y0 (z1 (u y1))) X.1),X.2)) (fun y0 y1 y2=>kr K EP ((z1 (w y0 (w y1 (u y2))) X.1),X.2)) X.1.1 (q2 X)
def YM:aO:=cI EP Rc (fun X=>(X.1.2.1,q3 X))
def L79:aS:=(aS.nil).add 2 YM
theorem XY:cC E g79 n79 L79 (ak Tryz.f79 0):=lk EP Rc (fun X=>(X.1.2.1,q3 X)) fun X x=>((z1 (w x.1 (z1 (u x.2))) X.1),X.2)
theorem o79:aj Tryz.prog 79 e79:=fk n79 (base.add UH) Tryz.func79 (Λ:=L79) (cF XY nF)
def e80:ao:=af [pd (.sl aJ),pI] [rI] (c2 Pu.mH)
def g80:aM:=aM.nil
def n80:An:={mask:=mk [(2,[0,1,4,5])]}
@[reducible] def ER:SD:=⟨.data false (.sl .arg aJ)::DI::B::B::DI::DI::bs 65 [],zs 71 [],.none⟩
def Rf {R:Type}(X:SD.D ER)(K:Ex→AS→Option R):=Pu.jA (fun y0 y1=>ke 0 K ER ((z1 (w y0 (z1 (u y1))) X.1),X.2)) (fun y0 y1 y2=>kr K ER ((z1 (w y0 (w y1 (u y2))) X.1),X.2)) X.1.1 (q2 X)
def YP:aO:=cI ER Rf (fun X=>(X.1.2.1,q3 X))
def L80:aS:=(aS.nil).add 2 YP
theorem X1:cC E g80 n80 L80 (ak Tryz.f80 0):=lk ER Rf (fun X=>(X.1.2.1,q3 X)) fun X x=>((z1 (w x.1 (z1 (u x.2))) X.1),X.2)
theorem o80:aj Tryz.prog 80 e80:=fk n80 base Tryz.func80 (Λ:=L80) (cF X1 nF)
def e81:ao:=af [pd (.sl .bool),pI] [rI] (c2 Pu.pn)
def g81:aM:=aM.nil
def n81:An:={mask:=mk [(2,[0,1,4,5])]}
@[reducible] def ES:SD:=⟨.data false (.sl .arg .bool)::DI::B::B::DI::DI::bs 17 [],zs 23 [],.none⟩
def Rg {R:Type}(X:SD.D ES)(K:Ex→AS→Option R):=Pu.eH (fun y0 y1=>ke 0 K ES ((z1 (w y0 (z1 (u y1))) X.1),X.2)) (fun y0 y1 y2=>kr K ES ((z1 (w y0 (w y1 (u y2))) X.1),X.2)) X.1.1 (q2 X)
def YQ:aO:=cI ES Rg (fun X=>(X.1.2.1,q3 X))
def L81:aS:=(aS.nil).add 2 YQ
theorem X2:cC E g81 n81 L81 (ak Tryz.f81 0):=lk ES Rg (fun X=>(X.1.2.1,q3 X)) fun X x=>((z1 (w x.1 (z1 (u x.2))) X.1),X.2)
theorem o81:aj Tryz.prog 81 e81:=fk n81 base Tryz.func81 (Λ:=L81) (cF X2 nF)
def e82:ao:=af [pf bV,pI] [rI] (c2 Pu.ko)
theorem o82:aj Tryz.prog 82 e82:=f0 {} (base.add UH) Tryz.func82
def abi:ao:=af [pd (.sl bR),pI] [rI] (c2 Pu.pq)
def ac7:aM:=aM.nil
def Zw:An:={mask:=mk [(2,[0,1,4,5])]}
@[reducible] def yO:SD:=⟨.data false (.sl .arg bR)::DI::B::B::DI::DI::bs 88 [],zs 94 [],.none⟩
def Oh {R:Type}(X:SD.D yO)(K:Ex→AS→Option R):=Pu.lN (fun y0 y1=>ke 0 K yO ((z1 (w y0 (z1 (u y1))) X.1),X.2)) (fun y0 y1 y2=>kr K yO ((z1 (w y0 (w y1 (u y2))) X.1),X.2)) X.1.1 (q2 X)
def Tq:aO:=cI yO Oh (fun X=>(X.1.2.1,q3 X))
def Ve:aS:=(aS.nil).add 2 Tq
theorem Sp:cC E ac7 Zw Ve (ak Tryz.f171 0):=lk yO Oh (fun X=>(X.1.2.1,q3 X)) fun X x=>((z1 (w x.1 (z1 (u x.2))) X.1),X.2)
theorem aeq:aj Tryz.prog 171 abi:=fk Zw base Tryz.func171 (Λ:=Ve) (cF Sp nF)
def abX:ao:=af [pd (.sl a9),pI] [rI] (c2 Pu.pt)
def adq:aM:=aM.nil
def ZO:An:={mask:=mk [(2,[0,1,4,5])]}
@[reducible] def za:SD:=⟨.data false (.sl .arg a9)::DI::B::B::DI::DI::bs 75 [],zs 81 [],.none⟩
def OD {R:Type}(X:SD.D za)(K:Ex→AS→Option R):=Pu.lQ (fun y0 y1=>ke 0 K za ((z1 (w y0 (z1 (u y1))) X.1),X.2)) (fun y0 y1 y2=>kr K za ((z1 (w y0 (w y1 (u y2))) X.1),X.2)) X.1.1 (q2 X)
def TJ:aO:=cI za OD (fun X=>(X.1.2.1,q3 X))
def Vw:aS:=(aS.nil).add 2 TJ
theorem SJ:cC E adq ZO Vw (ak Tryz.f237 0):=lk za OD (fun X=>(X.1.2.1,q3 X)) fun X x=>((z1 (w x.1 (z1 (u x.2))) X.1),X.2)
theorem afb:aj Tryz.prog 237 abX:=fk ZO base Tryz.func237 (Λ:=Vw) (cF SJ nF)
def abj:ao:=af [pf (.sl a9),pI] [rI] (c2 Pu.gm)
theorem aer:aj Tryz.prog 172 abj:=f0 {} (base.add afb) Tryz.func172
def abk:ao:=af [pf cL,pI] [rI] (c2 Pu.ks)
theorem aes:aj Tryz.prog 173 abk:=f0 {} (base.add UH) Tryz.func173
def e83:ao:=af [pf bm,pI] [rI] (c2 Pu.hY)
theorem o83:aj Tryz.prog 83 e83:=f0 {} (((base.add aeq).add aer).add aes) Tryz.func83
def e84:ao:=af [pd (.sl az),pI] [rI] (c2 Pu.mG)
def g84:aM:=aM.nil.add 165 Ha
def n84:An:={mask:=mk [(2,[0,1,4,5])]}
@[reducible] def ET:SD:=⟨.data false (.sl .arg az)::DI::B::B::DI::DI::bs 87 [],zs 93 [],.none⟩
def Rh {R:Type}(X:SD.D ET)(K:Ex→AS→Option R):=Pu.jz (fun y0 y1=>ke 0 K ET ((z1 (w y0 (z1 (u y1))) X.1),X.2)) (fun y0 y1 y2=>kr K ET ((z1 (w y0 (w y1 (u y2))) X.1),X.2)) X.1.1 (q2 X)
def YR:aO:=cI ET Rh (fun X=>(X.1.2.1,q3 X))
def L84:aS:=(aS.nil).add 2 YR
theorem X3:cC E g84 n84 L84 (ak Tryz.f84 0):=lk ET Rh (fun X=>(X.1.2.1,q3 X)) fun X x=>((z1 (w x.1 (z1 (u x.2))) X.1),X.2)
theorem o84:aj Tryz.prog 84 e84:=fk n84 (base.add K4) Tryz.func84 (Λ:=L84) (cF X3 nF)
def e10:ao:=af [pf a8,pI] [rI] (c2 Pu.gS)
theorem o10:aj Tryz.prog 10 e10:=f0 {} ((((((((((((base.add o75).add o76).add o77).add o78).add o79).add o80).add o81).add o82).add o83).add o84).add o85).add UH) Tryz.func10
@[reducible] def fK:List PS:=[pf a8]
def kU:ao:=af fK [rB] (c1 Pu.g4)
theorem qT:aj Tryz.prog 3 kU:=f0 {merge:=mg [(14,42)]} (((((((base.add o4).add o5).add o6).add o7).add o8).add o9).add o10) Tryz.func3
end
end Go.Proofs.YtmpbhbfdoopggabGreat.Fn
