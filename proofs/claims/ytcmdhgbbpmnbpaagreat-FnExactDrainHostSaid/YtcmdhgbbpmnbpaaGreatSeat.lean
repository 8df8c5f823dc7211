import Derived.Test.YtcmdhgbbpmnbpaaGreatDnSig
import Derived.Test.YtcmdhgbbpmnbpaaGreatPure
import Derived.Test.YtcmdhgbbpmnbpaaGreatRows
/- Each function of the program is its pure function (made by gen.py). -/
namespace Go.Proofs.YtcmdhgbbpmnbpaaGreat.Fn
open Go.Dn
open Go.Pu (au fT a9 bJ bk aY bM rM az aM cq cj dE J4 P4 br dA bt aE bf eF dD dc P5 Xq)
set_option maxRecDepth 100000
set_option linter.unusedVariables false
noncomputable section
abbrev B:PD:= .bot
abbrev DI:PD:= .data false (.int .i64)
abbrev DB:PD:= .data false .bool
abbrev Z:Option FT:=none
theorem nF {p:Code→Prop}:∀x∈([]:List Code),p x:=fun _ h=>nomatch h
theorem cF {p:Code→Prop}{a:Code}{l:List Code}(h:p a)(t:∀x∈l,p x):∀x∈a::l,p x:=List.forall_mem_cons.2 ⟨h,t⟩
theorem hF {p:Code→Prop}{l m:List Code}(e:l=m)(h:∀x∈m,p x):∀x∈l,p x:=e▸h
theorem fk {P:Program}{E:Env}{Γ:aO}{s:List PS}{rs:List (Bool×FT)}{F:zy s→Option (fV rs)}{f:Nat}{fn:Func}(an:An)(hS:Sound P E Γ)(hf:P.funcs[f]?=some fn){Λ:aW}{l:List Code}(h:∀c∈l,cv E Γ an Λ c)(hn:(fn.name== "runtime.NumGoroutine")=false:=by kernel_rfl)(hl:dJ (fn.body.getD .skip)=l:=by kernel_rfl)(hF:∀a,IW E Γ an Λ fn rs (jb s a)=F a:=by intro a;kernel_rfl):aj P f (af s rs F):=aj.of (afv hS hf hn (Fn.hF hl h)) hF
@[reducible] def pd (t:CT):PS:= .data false t
@[reducible] def pf (t:CT):PS:= .data true t
@[reducible] def pI:PS:= .data false (.int .i64)
@[reducible] def rB:Bool×FT:=(false,.bool)
@[reducible] def rI:Bool×FT:=(false,.int .i64)
@[reducible] def rS:Bool×FT:=(false,.str)
@[reducible] def bs:Nat→List PD→List PD|0,l=>l|n+1,l=> .bot::bs n l
@[reducible] def zs:Nat→List (Option FT)→List (Option FT)|0,l=>l|n+1,l=>none::zs n l
def mk (l:List (Nat×List Nat))(n:Nat):List Nat:=(l.lookup n).getD []
def mg (l:List (Nat×Nat))(n:Nat):Option Nat:=l.lookup n
def ke {R:Type}(n:Nat)(K:Ex→AS→Option R)(d:SD)(x:SD.D d):Option R:=K (.exit n) (SD.enc d x)
def kr {R:Type}(K:Ex→AS→Option R)(d:SD)(x:SD.D d):Option R:=K .ret (SD.enc d x)
def cB {σ:Type}(d:SD)(t:{R:Type}→SD.D d→(Ex→AS→Option R)→(σ→Option R)→σ→Option R)(i:SD.D d→σ):aR:=⟨d,fun X K=>aq (t X K) fuel (i X)⟩
theorem lk {E:Env}{Γ:aO}{an:An}{Λ:aW}{c:Code}{σ:Type}(d:SD)(t:{R:Type}→SD.D d→(Ex→AS→Option R)→(σ→Option R)→σ→Option R)(i:SD.D d→σ)(w:SD.D d→σ→SD.D d)(h1:Λ (dh c)=cB d t i:=by kernel_rfl)(h:∀(R:Type)(X:SD.D d)(K:Ex→AS→Option R)(m:Nat)(x:σ),xw (an.mask (dh c)) (den E Γ an Λ c) (m+1) (SD.enc d (w X x)) K=t X K (fun y=>xw (an.mask (dh c)) (den E Γ an Λ c) m (SD.enc d (w X y)) K) x:=by intro R X K m x;kernel_rfl)(hw:∀X,w X (i X)=X:=by intro X;kernel_rfl):cv E Γ an Λ c:=lok (cB d t i) h1 fuel fun R X K=>(Hg (fun x=>SD.enc d (w X x)) (t X K) (h R X K) fuel (i X)).symm.trans (congrArg (fun y=>xw (an.mask (dh c)) (den E Γ an Λ c) fuel (SD.enc d y) K) (hw X))
def u {A B:Type}(y:A)(x:A×B):A×B:=(y,x.2)
def w {A B:Type}(y:A)(f:B→B)(x:A×B):A×B:=(y,f x.2)
def z1 {A0 B:Type}(f:B→B)(x:A0×B):A0×B:=(x.1,f x.2)
def z2 {A0 A1 B:Type}(f:B→B)(x:A0×A1×B):A0×A1×B:=(x.1,x.2.1,f x.2.2)
def z3 {A0 A1 A2 B:Type}(f:B→B)(x:A0×A1×A2×B):A0×A1×A2×B:=(x.1,x.2.1,x.2.2.1,f x.2.2.2)
def z4 {A0 A1 A2 A3 B:Type}(f:B→B)(x:A0×A1×A2×A3×B):A0×A1×A2×A3×B:=(x.1,x.2.1,x.2.2.1,x.2.2.2.1,f x.2.2.2.2)
def z5 {A0 A1 A2 A3 A4 B:Type}(f:B→B)(x:A0×A1×A2×A3×A4×B):A0×A1×A2×A3×A4×B:=(x.1,x.2.1,x.2.2.1,x.2.2.2.1,x.2.2.2.2.1,f x.2.2.2.2.2)
def z6 {A0 A1 A2 A3 A4 A5 B:Type}(f:B→B)(x:A0×A1×A2×A3×A4×A5×B):A0×A1×A2×A3×A4×A5×B:=(x.1,x.2.1,x.2.2.1,x.2.2.2.1,x.2.2.2.2.1,x.2.2.2.2.2.1,f x.2.2.2.2.2.2)
def z7 {A0 A1 A2 A3 A4 A5 A6 B:Type}(f:B→B)(x:A0×A1×A2×A3×A4×A5×A6×B):A0×A1×A2×A3×A4×A5×A6×B:=(x.1,x.2.1,x.2.2.1,x.2.2.2.1,x.2.2.2.2.1,x.2.2.2.2.2.1,x.2.2.2.2.2.2.1,f x.2.2.2.2.2.2.2)
def q2 {A0 A1 A2 B C:Type}(x:(A0×A1×A2×B)×C):A2:=x.1.2.2.1
def q3 {A0 A1 A2 A3 B C:Type}(x:(A0×A1×A2×A3×B)×C):A3:=x.1.2.2.2.1
def q4 {A0 A1 A2 A3 A4 B C:Type}(x:(A0×A1×A2×A3×A4×B)×C):A4:=x.1.2.2.2.2.1
def q5 {A0 A1 A2 A3 A4 A5 B C:Type}(x:(A0×A1×A2×A3×A4×A5×B)×C):A5:=x.1.2.2.2.2.2.1
def q6 {A0 A1 A2 A3 A4 A5 A6 B C:Type}(x:(A0×A1×A2×A3×A4×A5×A6×B)×C):A6:=x.1.2.2.2.2.2.2.1
def q7 {A0 A1 A2 A3 A4 A5 A6 A7 B C:Type}(x:(A0×A1×A2×A3×A4×A5×A6×A7×B)×C):A7:=x.1.2.2.2.2.2.2.2.1
def q8 {A0 A1 A2 A3 A4 A5 A6 A7 A8 B C:Type}(x:(A0×A1×A2×A3×A4×A5×A6×A7×A8×B)×C):A8:=x.1.2.2.2.2.2.2.2.2.1
def q9 {A0 A1 A2 A3 A4 A5 A6 A7 A8 A9 B C:Type}(x:(A0×A1×A2×A3×A4×A5×A6×A7×A8×A9×B)×C):A9:=x.1.2.2.2.2.2.2.2.2.2.1
def c1 {A0 B R:Type}(f:A0→R)(a:A0×B):R:=f a.1
def c2 {A0 A1 B R:Type}(f:A0→A1→R)(a:A0×A1×B):R:=f a.1 a.2.1
def c3 {A0 A1 A2 B R:Type}(f:A0→A1→A2→R)(a:A0×A1×A2×B):R:=f a.1 a.2.1 a.2.2.1
def c4 {A0 A1 A2 A3 B R:Type}(f:A0→A1→A2→A3→R)(a:A0×A1×A2×A3×B):R:=f a.1 a.2.1 a.2.2.1 a.2.2.2.1
def c5 {A0 A1 A2 A3 A4 B R:Type}(f:A0→A1→A2→A3→A4→R)(a:A0×A1×A2×A3×A4×B):R:=f a.1 a.2.1 a.2.2.1 a.2.2.2.1 a.2.2.2.2.1
def c6 {A0 A1 A2 A3 A4 A5 B R:Type}(f:A0→A1→A2→A3→A4→A5→R)(a:A0×A1×A2×A3×A4×A5×B):R:=f a.1 a.2.1 a.2.2.1 a.2.2.2.1 a.2.2.2.2.1 a.2.2.2.2.2.1
def c7 {A0 A1 A2 A3 A4 A5 A6 B R:Type}(f:A0→A1→A2→A3→A4→A5→A6→R)(a:A0×A1×A2×A3×A4×A5×A6×B):R:=f a.1 a.2.1 a.2.2.1 a.2.2.2.1 a.2.2.2.2.1 a.2.2.2.2.2.1 a.2.2.2.2.2.2.1
theorem f0 {P:Program}{E:Env}{Γ:aO}{s:List PS}{rs:List (Bool×FT)}{F:zy s→Option (fV rs)}{f:Nat}{fn:Func}(an:An)(hS:Sound P E Γ)(hf:P.funcs[f]?=some fn)(hn:(fn.name== "runtime.NumGoroutine")=false:=by kernel_rfl)(hl:dJ (fn.body.getD .skip)=[]:=by kernel_rfl)(hF:∀a,IW E Γ an aW.nil fn rs (jb s a)=F a:=by intro a;kernel_rfl):aj P f (af s rs F):=aj.of (afv hS hf hn (Fn.hF hl nF)) hF
@[reducible] def Sh:FT:= .pair (.int .i64) (.pair (.int .i64) (.int .i64))
@[reducible] def Y0:FT:= .pair (.int .i64) Sh
@[reducible] def Y8:FT:= .pair (.int .i64) (.pair (.int .i64) (.pair (.int .i64) (.sl (.own none) (.int .i64))))
@[reducible] def Y17:FT:= .pair Y0 (.pair Y8 (.pair (.sl (.own none) bJ) (.int .i64)))
@[reducible] def Y24:FT:= .pair (.int .i64) (.pair .bool (.sl (.own none) (.int .i64)))
@[reducible] def Y19:FT:= .pair (.sl (.own none) cj) (.pair (.sl (.own none) br) (.pair .str (.sl (.own none) (.int .i64))))
@[reducible] def Y1:FT:= .pair (.sl (.own none) .str) (.pair (.sl (.own none) au) (.pair Y17 (.pair (.sl (.own none) az) (.pair (.sl (.own none) a9) (.pair (.sl (.own none) aM) (.pair (.sl (.own none) .bool) (.pair Y24 (.pair Y19 (.pair (.sl (.own none) aE) (.pair .bool (.pair (.sl (.own none) .str) (.pair (.sl (.own none) (.int .i64)) (.pair (.sl (.own none) (.int .i64)) (.pair (.int .i64) Y0))))))))))))))
@[reducible] def Y14:FT:= .pair (.int .i64) (.pair (.int .i64) (.pair (.int .i64) (.sl .arg (.int .i64))))
@[reducible] def Y18:FT:= .pair Y0 (.pair Y14 (.pair (.sl .arg bJ) (.int .i64)))
@[reducible] def Y22:FT:= .pair (.sl .arg cj) (.pair (.sl .arg br) (.pair .str (.sl .arg (.int .i64))))
@[reducible] def Y2:FT:= .pair (.sl .arg .str) (.pair (.sl .arg au) (.pair Y18 (.pair (.sl .arg az) (.pair (.sl .arg a9) (.pair (.sl .arg aM) (.pair (.sl .arg .bool) (.pair (.pair (.int .i64) (.pair .bool (.sl .arg (.int .i64)))) (.pair Y22 (.pair (.sl .arg aE) (.pair .bool (.pair (.sl .arg .str) (.pair (.sl .arg (.int .i64)) (.pair (.sl .arg (.int .i64)) (.pair (.int .i64) Y0))))))))))))))
@[reducible] def Y3:FT:= .pair (.sl (.own (some 24577)) .str) (.pair (.sl (.own (some 24580)) au) (.pair (.pair Y0 (.pair (.pair (.int .i64) (.pair (.int .i64) (.pair (.int .i64) (.sl (.own (some 24604)) (.int .i64))))) (.pair (.sl (.own (some 24607)) bJ) (.int .i64)))) (.pair (.sl (.own (some 24613)) az) (.pair (.sl (.own (some 24616)) a9) (.pair (.sl (.own (some 24619)) aM) (.pair (.sl (.own (some 24622)) .bool) (.pair (.pair (.int .i64) (.pair .bool (.sl (.own (some 24631)) (.int .i64)))) (.pair (.pair (.sl (.own (some 24634)) cj) (.pair (.sl (.own (some 24637)) br) (.pair .str (.sl (.own (some 24643)) (.int .i64))))) (.pair (.sl (.own (some 24646)) aE) (.pair .bool (.pair (.sl (.own (some 24652)) .str) (.pair (.sl (.own (some 24655)) (.int .i64)) (.pair (.sl (.own (some 24658)) (.int .i64)) (.pair (.int .i64) Y0))))))))))))))
@[reducible] def Y15:FT:= .pair (.int .i64) (.pair (.int .i64) (.pair (.int .i64) (.pair (.int .i64) .str)))
@[reducible] def Y23:FT:= .pair (.int .i64) (.pair (.int .i64) Y15)
@[reducible] def Y4:FT:= .pair (.int .i64) (.pair (.int .i64) (.pair (.int .i64) (.pair (.int .i64) (.pair (.int .i64) (.pair (.int .i64) (.pair (.int .i64) (.pair (.int .i64) (.pair (.int .i64) Y23))))))))
@[reducible] def Y5:FT:= .pair (.sl (.own (some 73729)) .str) (.pair (.sl (.own (some 73732)) au) (.pair (.pair Y0 (.pair (.pair (.int .i64) (.pair (.int .i64) (.pair (.int .i64) (.sl (.own (some 73756)) (.int .i64))))) (.pair (.sl (.own (some 73759)) bJ) (.int .i64)))) (.pair (.sl (.own (some 73765)) az) (.pair (.sl (.own (some 73768)) a9) (.pair (.sl (.own (some 73771)) aM) (.pair (.sl (.own (some 73774)) .bool) (.pair (.pair (.int .i64) (.pair .bool (.sl (.own (some 73783)) (.int .i64)))) (.pair (.pair (.sl (.own (some 73786)) cj) (.pair (.sl (.own (some 73789)) br) (.pair .str (.sl (.own (some 73795)) (.int .i64))))) (.pair (.sl (.own (some 73798)) aE) (.pair .bool (.pair (.sl (.own (some 73804)) .str) (.pair (.sl (.own (some 73807)) (.int .i64)) (.pair (.sl (.own (some 73810)) (.int .i64)) (.pair (.int .i64) Y0))))))))))))))
@[reducible] def Y6:FT:= .pair (.sl (.own (some 36865)) .str) (.pair (.sl (.own (some 36868)) au) (.pair (.pair Y0 (.pair (.pair (.int .i64) (.pair (.int .i64) (.pair (.int .i64) (.sl (.own (some 36892)) (.int .i64))))) (.pair (.sl (.own (some 36895)) bJ) (.int .i64)))) (.pair (.sl (.own (some 36901)) az) (.pair (.sl (.own (some 36904)) a9) (.pair (.sl (.own (some 36907)) aM) (.pair (.sl (.own (some 36910)) .bool) (.pair (.pair (.int .i64) (.pair .bool (.sl (.own (some 36919)) (.int .i64)))) (.pair (.pair (.sl (.own (some 36922)) cj) (.pair (.sl (.own (some 36925)) br) (.pair .str (.sl (.own (some 36931)) (.int .i64))))) (.pair (.sl (.own (some 36934)) aE) (.pair .bool (.pair (.sl (.own (some 36940)) .str) (.pair (.sl (.own (some 36943)) (.int .i64)) (.pair (.sl (.own (some 36946)) (.int .i64)) (.pair (.int .i64) Y0))))))))))))))
@[reducible] def Y7:FT:= .pair Y0 (.pair Sh (.pair Sh (.pair (.pair Y4 (.pair (.int .i64) (.int .i64))) (.pair .bool (.int .i64)))))
@[reducible] def Y9:FT:= .pair (.int .i64) (.pair (.int .i64) (.pair (.int .i64) (.pair (.int .i64) (.pair .bool .bool))))
@[reducible] def Y10:FT:= .pair (.sl (.own (some 86017)) .str) (.pair (.sl (.own (some 86020)) au) (.pair (.pair Y0 (.pair (.pair (.int .i64) (.pair (.int .i64) (.pair (.int .i64) (.sl (.own (some 86044)) (.int .i64))))) (.pair (.sl (.own (some 86047)) bJ) (.int .i64)))) (.pair (.sl (.own (some 86053)) az) (.pair (.sl (.own (some 86056)) a9) (.pair (.sl (.own (some 86059)) aM) (.pair (.sl (.own (some 86062)) .bool) (.pair (.pair (.int .i64) (.pair .bool (.sl (.own (some 86071)) (.int .i64)))) (.pair (.pair (.sl (.own (some 86074)) cj) (.pair (.sl (.own (some 86077)) br) (.pair .str (.sl (.own (some 86083)) (.int .i64))))) (.pair (.sl (.own (some 86086)) aE) (.pair .bool (.pair (.sl (.own (some 86092)) .str) (.pair (.sl (.own (some 86095)) (.int .i64)) (.pair (.sl (.own (some 86098)) (.int .i64)) (.pair (.int .i64) Y0))))))))))))))
@[reducible] def Y11:FT:= .pair (.sl (.own (some 49153)) .str) (.pair (.sl (.own (some 49156)) au) (.pair (.pair Y0 (.pair (.pair (.int .i64) (.pair (.int .i64) (.pair (.int .i64) (.sl (.own (some 49180)) (.int .i64))))) (.pair (.sl (.own (some 49183)) bJ) (.int .i64)))) (.pair (.sl (.own (some 49189)) az) (.pair (.sl (.own (some 49192)) a9) (.pair (.sl (.own (some 49195)) aM) (.pair (.sl (.own (some 49198)) .bool) (.pair (.pair (.int .i64) (.pair .bool (.sl (.own (some 49207)) (.int .i64)))) (.pair (.pair (.sl (.own (some 49210)) cj) (.pair (.sl (.own (some 49213)) br) (.pair .str (.sl (.own (some 49219)) (.int .i64))))) (.pair (.sl (.own (some 49222)) aE) (.pair .bool (.pair (.sl (.own (some 49228)) .str) (.pair (.sl (.own (some 49231)) (.int .i64)) (.pair (.sl (.own (some 49234)) (.int .i64)) (.pair (.int .i64) Y0))))))))))))))
@[reducible] def Y12:FT:= .pair (.sl (.own (some 1)) .str) (.pair (.sl (.own (some 4)) au) (.pair (.pair Y0 (.pair (.pair (.int .i64) (.pair (.int .i64) (.pair (.int .i64) (.sl (.own (some 28)) (.int .i64))))) (.pair (.sl (.own (some 31)) bJ) (.int .i64)))) (.pair (.sl (.own (some 37)) az) (.pair (.sl (.own (some 40)) a9) (.pair (.sl (.own (some 43)) aM) (.pair (.sl (.own (some 46)) .bool) (.pair (.pair (.int .i64) (.pair .bool (.sl (.own (some 55)) (.int .i64)))) (.pair (.pair (.sl (.own (some 58)) cj) (.pair (.sl (.own (some 61)) br) (.pair .str (.sl (.own (some 67)) (.int .i64))))) (.pair (.sl (.own (some 70)) aE) (.pair .bool (.pair (.sl (.own (some 76)) .str) (.pair (.sl (.own (some 79)) (.int .i64)) (.pair (.sl (.own (some 82)) (.int .i64)) (.pair (.int .i64) Y0))))))))))))))
@[reducible] def Y13:FT:= .pair (.sl (.own (some 36865)) .str) (.pair (.sl (.own (some 36868)) au) (.pair (.pair Y0 (.pair (.pair (.int .i64) (.pair (.int .i64) (.pair (.int .i64) (.sl (.own (some 36892)) (.int .i64))))) (.pair (.sl (.own (some 36895)) bJ) (.int .i64)))) (.pair (.sl (.own (some 36901)) az) (.pair (.sl (.own (some 36904)) a9) (.pair (.sl .arg aM) (.pair (.sl .arg .bool) (.pair (.pair (.int .i64) (.pair .bool (.sl .arg (.int .i64)))) (.pair Y22 (.pair (.sl .arg aE) (.pair .bool (.pair (.sl .arg .str) (.pair (.sl .arg (.int .i64)) (.pair (.sl .arg (.int .i64)) (.pair (.int .i64) Y0))))))))))))))
@[reducible] def Y20:FT:= .pair Y0 (.pair (.pair (.int .i64) (.pair (.int .i64) (.pair (.int .i64) (.sl (.own (some 73750)) (.int .i64))))) (.pair (.sl (.own (some 73753)) bJ) (.int .i64)))
@[reducible] def Y21:FT:= .pair Y0 (.pair (.pair (.int .i64) (.pair (.int .i64) (.pair (.int .i64) (.sl (.own (some 49174)) (.int .i64))))) (.pair (.sl (.own (some 49177)) bJ) (.int .i64)))
@[reducible] def Y25:FT:= .pair (.int .i64) (.pair (.int .i64) (.pair (.int .i64) (.sl (.own (some 245770)) (.int .i64))))
@[reducible] def Y26:FT:= .pair (.int .i64) (.pair (.int .i64) (.pair (.int .i64) (.sl (.own (some 196618)) (.int .i64))))
@[reducible] def Y27:FT:= .pair (.int .i64) (.pair (.int .i64) (.pair (.int .i64) (.sl (.own (some 184330)) (.int .i64))))
@[reducible] def Y28:FT:= .pair (.int .i64) (.pair (.int .i64) (.pair (.int .i64) (.sl (.own (some 147466)) (.int .i64))))
@[reducible] def Y29:FT:= .pair (.int .i64) (.pair (.int .i64) Y0)
@[reducible] def Y30:FT:= .pair (.int .i64) (.pair (.int .i64) (.pair (.int .i64) .bool))
def E:Env:={ty:=[(3,⟨false,(.int .i64),[]⟩),(4,⟨false,.bool,[]⟩),(5,⟨false,(.int .u8),[]⟩),(9,⟨false,.str,[]⟩),(22,⟨false,(.sl .str),[(9,0)]⟩),(24,⟨true,(.sl .str),[(0,1)]⟩),(25,⟨false,(.sl au),[(193,0)]⟩),(27,⟨true,fT,[(0,1),(1,1),(2,1),(3,1)]⟩),(28,⟨false,(.sl (.int .i64)),[(3,0)]⟩),(30,⟨true,a9,[(0,1),(1,1),(2,1),(3,1)]⟩),(31,⟨false,(.sl bJ),[(228,0)]⟩),(33,⟨true,bk,[(0,4),(4,4),(8,1),(9,1)]⟩),(34,⟨false,(.sl az),[(145,0)]⟩),(35,⟨false,(.sl a9),[(30,0)]⟩),(36,⟨false,(.sl aM),[(199,0)]⟩),(37,⟨false,(.sl .bool),[(4,0)]⟩),(39,⟨true,cq,[(0,1),(1,1),(2,1)]⟩),(40,⟨false,(.sl cj),[(266,0)]⟩),(41,⟨false,(.sl br),[(330,0)]⟩),(43,⟨true,(.sl br),[(0,1)]⟩),(45,⟨true,dA,[(0,1),(1,1)]⟩),(47,⟨true,bt,[(0,1),(1,1),(2,2)]⟩),(48,⟨false,(.sl aE),[(153,0)]⟩),(50,⟨true,dE,[(0,1),(1,1),(2,1),(3,1),(4,1)]⟩),(52,⟨true,bf,[(0,1),(1,1),(2,10),(12,1),(13,1),(14,1),(15,1),(16,3),(19,4),(23,1),(24,1),(25,1),(26,1),(27,1),(28,5)]⟩),(54,⟨true,(.sl .str),[(0,1)]⟩),(55,⟨false,(.sl au),[(191,0)]⟩),(56,⟨true,fT,[(0,1),(1,1),(2,1),(3,1)]⟩),(57,⟨true,a9,[(0,1),(1,1),(2,1),(3,1)]⟩),(58,⟨false,(.sl bJ),[(232,0)]⟩),(60,⟨true,bk,[(0,4),(4,4),(8,1),(9,1)]⟩),(61,⟨false,(.sl az),[(167,0)]⟩),(62,⟨false,(.sl a9),[(57,0)]⟩),(63,⟨false,(.sl aM),[(171,0)]⟩),(64,⟨true,cq,[(0,1),(1,1),(2,1)]⟩),(65,⟨false,(.sl cj),[(239,0)]⟩),(66,⟨false,(.sl br),[(241,0)]⟩),(68,⟨true,(.sl br),[(0,1)]⟩),(69,⟨true,dA,[(0,1),(1,1)]⟩),(71,⟨true,bt,[(0,1),(1,1),(2,2)]⟩),(72,⟨false,(.sl aE),[(205,0)]⟩),(73,⟨true,dE,[(0,1),(1,1),(2,1),(3,1),(4,1)]⟩),(75,⟨true,bf,[(0,1),(1,1),(2,10),(12,1),(13,1),(14,1),(15,1),(16,3),(19,4),(23,1),(24,1),(25,1),(26,1),(27,1),(28,5)]⟩),(137,⟨true,aY,[(0,1),(1,1),(2,1)]⟩),(139,⟨true,eF,[(0,1),(1,1),(2,1),(3,1),(4,1),(5,1),(6,1),(7,1)]⟩),(141,⟨true,bM,[(0,1),(1,1),(2,1),(3,1),(4,1),(5,1),(6,1),(7,1),(8,8)]⟩),(143,⟨true,rM,[(0,16),(16,1),(17,1)]⟩),(145,⟨true,az,[(0,4),(4,3),(7,3),(10,18),(28,1),(29,1)]⟩),(151,⟨true,dE,[(0,1),(1,1),(2,1),(3,1),(4,1)]⟩),(153,⟨true,aE,[(0,5),(5,1),(6,1),(7,1)]⟩),(160,⟨true,aY,[(0,1),(1,1),(2,1)]⟩),(161,⟨true,eF,[(0,1),(1,1),(2,1),(3,1),(4,1),(5,1),(6,1),(7,1)]⟩),(163,⟨true,bM,[(0,1),(1,1),(2,1),(3,1),(4,1),(5,1),(6,1),(7,1),(8,8)]⟩),(165,⟨true,rM,[(0,16),(16,1),(17,1)]⟩),(167,⟨true,az,[(0,4),(4,3),(7,3),(10,18),(28,1),(29,1)]⟩),(171,⟨true,aM,[(0,1),(1,1),(2,1),(3,1),(4,1),(5,1)]⟩),(191,⟨true,au,[(0,1),(1,1),(2,1),(3,1)]⟩),(193,⟨true,au,[(0,1),(1,1),(2,1),(3,1)]⟩),(199,⟨true,aM,[(0,1),(1,1),(2,1),(3,1),(4,1),(5,1)]⟩),(203,⟨true,dE,[(0,1),(1,1),(2,1),(3,1),(4,1)]⟩),(205,⟨true,aE,[(0,5),(5,1),(6,1),(7,1)]⟩),(228,⟨true,bJ,[(0,1),(1,1),(2,1)]⟩),(232,⟨true,bJ,[(0,1),(1,1),(2,1)]⟩),(239,⟨true,cj,[(0,1),(1,1),(2,1),(3,1),(4,1),(5,1),(6,1),(7,1),(8,1)]⟩),(241,⟨true,br,[(0,1),(1,5),(6,1)]⟩),(252,⟨true,dE,[(0,1),(1,1),(2,1),(3,1),(4,1)]⟩),(266,⟨true,cj,[(0,1),(1,1),(2,1),(3,1),(4,1),(5,1),(6,1),(7,1),(8,1)]⟩),(279,⟨false,(.sl (.int .u8)),[(5,0)]⟩),(289,⟨true,dD,[(0,1),(1,1),(2,1),(3,1),(4,1),(5,1)]⟩),(298,⟨false,(.sl dD),[(289,0)]⟩),(301,⟨false,(.sl dc),[(347,0)]⟩),(314,⟨true,P5,[(0,1),(1,1),(2,1),(3,1),(4,1)]⟩),(318,⟨true,Xq,[(0,1),(1,1),(2,1),(3,1),(4,1),(5,1),(6,1)]⟩),(330,⟨true,br,[(0,1),(1,5),(6,1)]⟩),(347,⟨true,dc,[(0,1),(1,1)]⟩),(357,⟨false,(.sl bM),[(163,0)]⟩),(365,⟨false,(.sl dc),[(369,0)]⟩),(369,⟨true,dc,[(0,1),(1,1)]⟩),(379,⟨false,(.int .u32),[]⟩)],eqs:=[(165,[.int,.int,.int,.int,.int,.int,.int,.int,.int,.int,.int,.int,.int,.int,.int,.str,.int,.int]),(203,[.int,.int,.int,.int,.int]),(289,[.int,.int,.int,.int,.int,.int])],fts:=[]}
theorem base:Sound Tryz.prog E aO.nil:=Sound.nil (Lr (by kernel_rfl)) (Lu (by kernel_rfl)) (Lt (by kernel_rfl)) (by kernel_rfl)
def e21:ak:=af [pd (.sl .str),pI] [rI] (c2 Pu.pe)
def g21:aO:=aO.nil
def n21:An:={mask:=mk [(5,[0,1,4,5])]}
@[reducible] def Ki:SD:=⟨.data false (.sl .arg .str)::DI::B::B::DI::DI::bs 22 [],zs 28 [],.none⟩
def XB {R:Type}(X:SD.D Ki)(K:Ex→AS→Option R):=Pu.uF (fun y0 y1=>ke 0 K Ki ((z1 (w y0 (z1 (u y1))) X.1),X.2)) (fun y0 y1 y2=>kr K Ki ((z1 (w y0 (w y1 (u y2))) X.1),X.2)) X.1.1 (q2 X)
def agC:aR:=cB Ki XB (fun X=>(X.1.2.1,q3 X))
def L21:aW:=(aW.nil).add 5 agC
theorem afK:cv E g21 n21 L21 (ai Tryz.f21 0):=lk Ki XB (fun X=>(X.1.2.1,q3 X)) fun X x=>((z1 (w x.1 (z1 (u x.2))) X.1),X.2)
theorem o21:aj Tryz.prog 21 e21:=fk n21 base Tryz.func21 (Λ:=L21) (cF afK nF)
def e11:ak:=af [pf (.sl .str),pI] [rI] (c2 Pu.qF)
theorem o11:aj Tryz.prog 11 e11:=f0 {} (base.add o21) Tryz.func11
def V6:ak:=af [pd (.sl au),pI] [rI] (c2 Pu.rX)
theorem o12:aj Tryz.prog 12 V6:=f0 {} base Tryz.func12
def e22:ak:=af [pd (.sl (.int .i64)),pI] [rI] (c2 Pu.iV)
theorem o22:aj Tryz.prog 22 e22:=f0 {} base Tryz.func22
def e87:ak:=af [pf a9,pI] [rI] (c2 Pu.nY)
theorem o87:aj Tryz.prog 87 e87:=f0 {} (base.add o22) Tryz.func87
def aeq:ak:=af [pf bJ,pI] [rI] (c2 Pu.rA)
theorem aoj:aj Tryz.prog 171 aeq:=f0 {} (base.add o22) Tryz.func171
def e88:ak:=af [pd (.sl bJ),pI] [rI] (c2 Pu.wA)
def g88:aO:=aO.nil.add 171 aeq
def n88:An:={mask:=mk [(5,[0,1,4,5])]}
@[reducible] def KC:SD:=⟨.data false (.sl .arg bJ)::DI::B::B::DI::DI::bs 21 [],zs 27 [],.none⟩
def Yi {R:Type}(X:SD.D KC)(K:Ex→AS→Option R):=Pu.xp (fun y0 y1=>ke 0 K KC ((z1 (w y0 (z1 (u y1))) X.1),X.2)) (fun y0 y1 y2=>kr K KC ((z1 (w y0 (w y1 (u y2))) X.1),X.2)) X.1.1 (q2 X)
def ahm:aR:=cB KC Yi (fun X=>(X.1.2.1,q3 X))
def L88:aW:=(aW.nil).add 5 ahm
theorem ags:cv E g88 n88 L88 (ai Tryz.f88 0):=lk KC Yi (fun X=>(X.1.2.1,q3 X)) fun X x=>((z1 (w x.1 (z1 (u x.2))) X.1),X.2)
theorem o88:aj Tryz.prog 88 e88:=fk n88 (base.add aoj) Tryz.func88 (Λ:=L88) (cF ags nF)
def e13:ak:=af [pf bk,pI] [rI] (c2 Pu.pg)
theorem o13:aj Tryz.prog 13 e13:=f0 {} ((base.add o87).add o88) Tryz.func13
def ak8:ak:=af [pf eF,pI] [rI] (c2 Pu.pc)
theorem apt:aj Tryz.prog 288 ak8:=f0 {} base Tryz.func288
def akx:ak:=af [pf bM,pI] [rI] (c2 Pu.qG)
theorem aoR:aj Tryz.prog 227 akx:=f0 {} (base.add apt) Tryz.func227
def aj9:ak:=af [pf rM,pI] [rI] (c2 Pu.sy)
theorem aok:aj Tryz.prog 172 aj9:=f0 {} (base.add aoR) Tryz.func172
def e89:ak:=af [pf az,pI] [rI] (c2 Pu.lh)
theorem o89:aj Tryz.prog 89 e89:=f0 {} (base.add aok) Tryz.func89
def e14:ak:=af [pd (.sl az),pI] [rI] (c2 Pu.rY)
def g14:aO:=aO.nil.add 89 e89
def n14:An:={mask:=mk [(5,[0,1,4,5])]}
@[reducible] def Kf:SD:=⟨.data false (.sl .arg az)::DI::B::B::DI::DI::bs 21 [],zs 27 [],.none⟩
def Xy {R:Type}(X:SD.D Kf)(K:Ex→AS→Option R):=Pu.tM (fun y0 y1=>ke 0 K Kf ((z1 (w y0 (z1 (u y1))) X.1),X.2)) (fun y0 y1 y2=>kr K Kf ((z1 (w y0 (w y1 (u y2))) X.1),X.2)) X.1.1 (q2 X)
def agz:aR:=cB Kf Xy (fun X=>(X.1.2.1,q3 X))
def L14:aW:=(aW.nil).add 5 agz
theorem afH:cv E g14 n14 L14 (ai Tryz.f14 0):=lk Kf Xy (fun X=>(X.1.2.1,q3 X)) fun X x=>((z1 (w x.1 (z1 (u x.2))) X.1),X.2)
theorem o14:aj Tryz.prog 14 e14:=fk n14 (base.add o89) Tryz.func14 (Λ:=L14) (cF afH nF)
def e15:ak:=af [pd (.sl a9),pI] [rI] (c2 Pu.wy)
def g15:aO:=aO.nil.add 87 e87
def n15:An:={mask:=mk [(5,[0,1,4,5])]}
@[reducible] def Kg:SD:=⟨.data false (.sl .arg a9)::DI::B::B::DI::DI::bs 21 [],zs 27 [],.none⟩
def Xz {R:Type}(X:SD.D Kg)(K:Ex→AS→Option R):=Pu.xo (fun y0 y1=>ke 0 K Kg ((z1 (w y0 (z1 (u y1))) X.1),X.2)) (fun y0 y1 y2=>kr K Kg ((z1 (w y0 (w y1 (u y2))) X.1),X.2)) X.1.1 (q2 X)
def agA:aR:=cB Kg Xz (fun X=>(X.1.2.1,q3 X))
def L15:aW:=(aW.nil).add 5 agA
theorem afI:cv E g15 n15 L15 (ai Tryz.f15 0):=lk Kg Xz (fun X=>(X.1.2.1,q3 X)) fun X x=>((z1 (w x.1 (z1 (u x.2))) X.1),X.2)
theorem o15:aj Tryz.prog 15 e15:=fk n15 (base.add o87) Tryz.func15 (Λ:=L15) (cF afI nF)
def e16:ak:=af [pd (.sl aM),pI] [rI] (c2 Pu.tO)
theorem o16:aj Tryz.prog 16 e16:=f0 {} base Tryz.func16
def e17:ak:=af [pd (.sl .bool),pI] [rI] (c2 Pu.wx)
theorem o17:aj Tryz.prog 17 e17:=f0 {} base Tryz.func17
def e18:ak:=af [pf cq,pI] [rI] (c2 Pu.qE)
theorem o18:aj Tryz.prog 18 e18:=f0 {} (base.add o22) Tryz.func18
def e90:ak:=af [pd (.sl cj),pI] [rI] (c2 Pu.wz)
theorem o90:aj Tryz.prog 90 e90:=f0 {} base Tryz.func90
def aka:ak:=af [pd (.sl br),pI] [rI] (c2 Pu.wB)
theorem aol:aj Tryz.prog 173 aka:=f0 {} base Tryz.func173
def e91:ak:=af [pf (.sl br),pI] [rI] (c2 Pu.l0)
theorem o91:aj Tryz.prog 91 e91:=f0 {} (base.add aol) Tryz.func91
def e92:ak:=af [pf dA,pI] [rI] (c2 Pu.qH)
theorem o92:aj Tryz.prog 92 e92:=f0 {} (base.add o22) Tryz.func92
def e19:ak:=af [pf bt,pI] [rI] (c2 Pu.nq)
theorem o19:aj Tryz.prog 19 e19:=f0 {} (((base.add o90).add o91).add o92) Tryz.func19
def e93:ak:=af [pf aE,pI] [rI] (c2 Pu.mO)
theorem o93:aj Tryz.prog 93 e93:=f0 {} base Tryz.func93
def e20:ak:=af [pd (.sl aE),pI] [rI] (c2 Pu.tN)
def g20:aO:=aO.nil.add 93 e93
def n20:An:={mask:=mk [(5,[0,1,4,5])]}
@[reducible] def Kh:SD:=⟨.data false (.sl .arg aE)::DI::B::B::DI::DI::bs 21 [],zs 27 [],.none⟩
def XA {R:Type}(X:SD.D Kh)(K:Ex→AS→Option R):=Pu.uE (fun y0 y1=>ke 0 K Kh ((z1 (w y0 (z1 (u y1))) X.1),X.2)) (fun y0 y1 y2=>kr K Kh ((z1 (w y0 (w y1 (u y2))) X.1),X.2)) X.1.1 (q2 X)
def agB:aR:=cB Kh XA (fun X=>(X.1.2.1,q3 X))
def L20:aW:=(aW.nil).add 5 agB
theorem afJ:cv E g20 n20 L20 (ai Tryz.f20 0):=lk Kh XA (fun X=>(X.1.2.1,q3 X)) fun X x=>((z1 (w x.1 (z1 (u x.2))) X.1),X.2)
theorem o20:aj Tryz.prog 20 e20:=fk n20 (base.add o93) Tryz.func20 (Λ:=L20) (cF afJ nF)
def e4:ak:=af [pf bf,pI] [rI] (c2 Pu.uD)
theorem o4:aj Tryz.prog 4 e4:=f0 {} ((((((((((((base.add o11).add o12).add o13).add o14).add o15).add o16).add o17).add o18).add o19).add o20).add o21).add o22) Tryz.func4
def KL:ak:=af [pI,pI,pI] [rB] (c3 Pu.al)
theorem yU:aj Tryz.prog 24 KL:=f0 {merge:=mg [(1,6)]} base Tryz.func24
def e94:ak:=af [pf (.sl .str)] [rB] (c1 Pu.kg)
def g94:aO:=aO.nil
def n94:An:={mask:=mk [(2,[1,2,3])]}
@[reducible] def KD:SD:=⟨B::.ptr 1 0::DB::DI::bs 18 [],Z::(some (.sl .arg .str))::zs 20 [],.none⟩
def Yj {R:Type}(X:SD.D KD)(K:Ex→AS→Option R):=Pu.l7 (fun y0=>ke 0 K KD ((z1 (u y0) X.1),X.2)) (fun y0 y1=>kr K KD ((w y0 (u y1) X.1),X.2)) X.1.1 X.2.1.1
def ahn:aR:=cB KD Yj (fun X=>X.1.2.1)
def L94:aW:=(aW.nil).add 2 ahn
theorem agt:cv E g94 n94 L94 (ai Tryz.f94 0):=lk KD Yj (fun X=>X.1.2.1) fun X x=>((z1 (u x) X.1),X.2)
theorem o94:aj Tryz.prog 94 e94:=fk n94 base Tryz.func94 (Λ:=L94) (cF agt nF)
def e95:ak:=af [pd (.sl au)] [rB] (c1 Pu.jP)
def g95:aO:=aO.nil.add 24 KL
def n95:An:={mask:=mk [(4,[0,2,3]),(10,[0,2,3,4,5])],merge:=mg [(7,34),(12,57)]}
@[reducible] def Ev:SD:=⟨.data false (.sl .arg au)::B::DB::DI::.ptr 4 0::DI::bs 52 [],zs 4 ((some Y30)::zs 53 []),.none⟩
def VL {R:Type}(X:SD.D Ev)(K:Ex→AS→Option R):=Pu.ib (fun y0=>ke 2 K Ev ((z3 (u y0) X.1),X.2)) (fun y0 y1=>kr K Ev ((z1 (w y0 (z1 (u y1))) X.1),X.2)) X.1.1 X.1.2.1 (q2 X) X.2.1.1
def abV:aR:=cB Ev VL q3
@[reducible] def KE:SD:=⟨.data false (.sl .arg au)::B::DB::DI::bs 54 [],zs 58 [],.none⟩
def Yk {R:Type}(X:SD.D KE)(K:Ex→AS→Option R):=Pu.ju (fun y0=>ke 0 K KE ((z2 (u y0) X.1),X.2)) (fun y0 y1=>kr K KE ((z1 (w y0 (u y1)) X.1),X.2)) X.1.1 X.1.2.1
def aho:aR:=cB KE Yk q2
def L95:aW:=((aW.nil).add 10 abV).add 4 aho
theorem aav:cv E g95 n95 L95 (ai Tryz.f95 1):=lk Ev VL q3 fun X x=>((z3 (u x) X.1),X.2)
theorem agu:cv E g95 n95 L95 (ai Tryz.f95 0):=lk KE Yk q2 fun X x=>((z2 (u x) X.1),X.2)
theorem o95:aj Tryz.prog 95 e95:=fk n95 (base.add yU) Tryz.func95 (Λ:=L95) (cF agu (cF aav nF))
def Sr:ak:=af [pf a9] [rB] (c1 Pu.fj)
def amh:aO:=aO.nil.add 24 KL
def ahu:An:={mask:=mk [(5,[1,2,3,4])],merge:=mg [(1,20),(7,50)]}
@[reducible] def DT:SD:=⟨B::.ptr 1 0::DB::.data false (.sl (.own (some 36864)) .bool)::DI::bs 53 [],Z::(some Y14)::zs 56 [],.none⟩
def Um {R:Type}(X:SD.D DT)(K:Ex→AS→Option R):=Pu.pM (fun y0 y1=>ke 0 K DT ((z1 (w y0 (u y1)) X.1),X.2)) (fun y0 y1 y2=>kr K DT ((w y0 (w y1 (u y2)) X.1),X.2)) X.1.1 X.2.1.1
def aaw:aR:=cB DT Um (fun X=>(X.1.2.1,q2 X))
def acA:aW:=(aW.nil).add 5 aaw
theorem YX:cv E amh ahu acA (ai Tryz.f100 0):=lk DT Um (fun X=>(X.1.2.1,q2 X)) fun X x=>((z1 (w x.1 (u x.2)) X.1),X.2)
theorem Re:aj Tryz.prog 100 Sr:=fk ahu (base.add yU) Tryz.func100 (Λ:=acA) (cF YX nF)
def aky:ak:=af [pI] [rB] (c1 Pu.mf)
theorem acd:aj Tryz.prog 228 aky:=f0 {merge:=mg [(1,2)]} base Tryz.func228
def aeP:ak:=af [pf fT] [rI] (c1 Pu.dL)
theorem TD:aj Tryz.prog 229 aeP:=f0 {} (base.add acd) Tryz.func229
def V9:ak:=af [pf fT] [rB] (c1 Pu.dU)
theorem LL:aj Tryz.prog 174 V9:=f0 {merge:=mg [(1,2)]} (((base.add yU).add acd).add TD) Tryz.func174
def Ss:ak:=af [pf a9] [(true,Y8)] (c1 Pu.eY)
theorem TA:aj Tryz.prog 104 Ss:=f0 {sb:=mg [(2,2)]} base Tryz.func104
def Wa:ak:=af [pf a9,pd (.sl (.int .i64))] [(true,Y8),rB] (c2 Pu.cO)
theorem ab5:aj Tryz.prog 175 Wa:=f0 {merge:=mg [(3,21)],mv:=[10,24]} ((base.add Re).add TA) Tryz.func175
def e96:ak:=af [pf bk] [rB] (c1 Pu.vF)
def g96:aO:=(((aO.nil.add 24 KL).add 100 Sr).add 174 V9).add 175 Wa
def n96:An:={mask:=mk [(6,[1,2,3,4,5])],merge:=mg [(1,24),(9,50),(14,2)],mv:=[55]}
@[reducible] def KF:SD:=⟨B::.ptr 1 0::DB::DI::.data false (.sl (.own (some 49152)) (.int .i64))::DI::bs 68 [],Z::(some Y18)::zs 72 [],.none⟩
def Yl {R:Type}(X:SD.D KF)(K:Ex→AS→Option R):=Pu.pO (fun y0 y1 y2=>ke 0 K KF ((z1 (w y0 (w y1 (u y2))) X.1),X.2)) (fun y0 y1 y2 y3=>kr K KF ((w y0 (w y1 (w y2 (u y3))) X.1),X.2)) X.1.1 X.2.1.1
def ahp:aR:=cB KF Yl (fun X=>(X.1.2.1,q2 X,q3 X))
def L96:aW:=(aW.nil).add 6 ahp
theorem agv:cv E g96 n96 L96 (ai Tryz.f96 0):=lk KF Yl (fun X=>(X.1.2.1,q2 X,q3 X)) fun X x=>((z1 (w x.1 (w x.2.1 (u x.2.2))) X.1),X.2)
theorem o96:aj Tryz.prog 96 e96:=fk n96 ((((base.add yU).add Re).add LL).add ab5) Tryz.func96 (Λ:=L96) (cF agv nF)
def e97:ak:=af [pf cq] [rB] (c1 Pu.qO)
def g97:aO:=aO.nil.add 24 KL
def n97:An:={mask:=mk [(2,[1,2,3])],merge:=mg [(4,35),(6,2)]}
@[reducible] def KG:SD:=⟨B::.ptr 1 0::DB::DI::bs 41 [],Z::(some (.pair (.int .i64) (.pair .bool (.sl .arg (.int .i64)))))::zs 43 [],.none⟩
def Ym {R:Type}(X:SD.D KG)(K:Ex→AS→Option R):=Pu.l5 (fun y0=>ke 0 K KG ((z1 (u y0) X.1),X.2)) (fun y0 y1=>kr K KG ((w y0 (u y1) X.1),X.2)) X.1.1 X.2.1.1
def ahq:aR:=cB KG Ym (fun X=>X.1.2.1)
def L97:aW:=(aW.nil).add 2 ahq
theorem agw:cv E g97 n97 L97 (ai Tryz.f97 0):=lk KG Ym (fun X=>X.1.2.1) fun X x=>((z1 (u x) X.1),X.2)
theorem o97:aj Tryz.prog 97 e97:=fk n97 (base.add yU) Tryz.func97 (Λ:=L97) (cF agw nF)
def aeQ:ak:=af [pf cj] [rB] (c1 Pu.lz)
theorem aoS:aj Tryz.prog 230 aeQ:=f0 {merge:=mg [(1,33),(3,54),(5,2)]} (base.add yU) Tryz.func230
def aer:ak:=af [pd (.sl cj)] [rB] (c1 Pu.sG)
def amA:aO:=aO.nil.add 230 aeQ
def ahR:An:={mask:=mk [(2,[0,2,3])]}
@[reducible] def D4:SD:=⟨.data false (.sl .arg cj)::B::DB::DI::bs 15 [],zs 19 [],.none⟩
def UK {R:Type}(X:SD.D D4)(K:Ex→AS→Option R):=Pu.nw (fun y0=>ke 0 K D4 ((z2 (u y0) X.1),X.2)) (fun y0 y1=>kr K D4 ((z1 (w y0 (u y1)) X.1),X.2)) X.1.1 X.1.2.1
def aaU:aR:=cB D4 UK q2
def acX:aW:=(aW.nil).add 2 aaU
theorem Zv:cv E amA ahR acX (ai Tryz.f176 0):=lk D4 UK q2 fun X x=>((z2 (u x) X.1),X.2)
theorem aom:aj Tryz.prog 176 aer:=fk ahR (base.add aoS) Tryz.func176 (Λ:=acX) (cF Zv nF)
def afa:ak:=af [pf dE] [rI] (c1 Pu.qR)
def am1:aO:=aO.nil
def aik:An:={mask:=mk [(4,[3,4,5])]}
@[reducible] def Io:SD:=⟨B::B::B::DI::.data false (.sl (.own (some 49152)) (.int .i64))::DI::bs 26 [],zs 32 [],.none⟩
def Vg {R:Type}(X:SD.D Io)(K:Ex→AS→Option R):=Pu.iM (fun y0 y1=>ke 0 K Io ((w y0 (z1 (u y1)) X.1),X.2)) X.1.2.1
def abp:aR:=cB Io Vg (fun X=>(X.1.1,q2 X))
def adr:aW:=(aW.nil).add 4 abp
theorem Z0:cv E am1 aik adr (ai Tryz.f289 0):=lk Io Vg (fun X=>(X.1.1,q2 X)) fun X x=>((w x.1 (z1 (u x.2)) X.1),X.2)
theorem apu:aj Tryz.prog 289 afa:=fk aik base Tryz.func289 (Λ:=adr) (cF Z0 nF)
def aeR:ak:=af [pf (.sl br),pf dE] [rI] (c2 Pu.sM)
def amN:aO:=aO.nil.add 289 afa
def ah5:An:={mask:=mk [(2,[2,3,4,5])],merge:=mg [(7,39)]}
@[reducible] def Ed:SD:=⟨B::B::.ptr 2 0::.ptr 3 0::DI::DI::bs 35 [],Z::Z::(some (.sl .arg br))::(some (.pair (.int .i64) Y0))::zs 37 [],.none⟩
def U0 {R:Type}(X:SD.D Ed)(K:Ex→AS→Option R):=Pu.jR (fun y0=>ke 0 K Ed ((z1 (u y0) X.1),X.2)) (fun y0 y1=>kr K Ed ((w y0 (u y1) X.1),X.2)) X.1.1 X.2.1.1 X.2.1.2.1
def aa9:aR:=cB Ed U0 (fun X=>X.1.2.1)
def adb:aW:=(aW.nil).add 2 aa9
theorem ZK:cv E amN ah5 adb (ai Tryz.f231 0):=lk Ed U0 (fun X=>X.1.2.1) fun X x=>((z1 (u x) X.1),X.2)
theorem aoT:aj Tryz.prog 231 aeR:=fk ah5 (base.add apu) Tryz.func231 (Λ:=adb) (cF ZK nF)
def aes:ak:=af [pf (.sl br)] [rB] (c1 Pu.sH)
def amB:aO:=(aO.nil.add 24 KL).add 231 aeR
def ahS:An:={mask:=mk [(4,[1,2,3])],merge:=mg [(7,30),(10,42)]}
@[reducible] def D5:SD:=⟨B::.ptr 1 0::DB::DI::bs 45 [],Z::(some (.sl .arg br))::zs 47 [],.none⟩
def UL {R:Type}(X:SD.D D5)(K:Ex→AS→Option R):=Pu.nA (fun y0=>ke 0 K D5 ((z1 (u y0) X.1),X.2)) (fun y0 y1=>kr K D5 ((w y0 (u y1) X.1),X.2)) X.1.1 X.2.1.1
def aaV:aR:=cB D5 UL (fun X=>X.1.2.1)
def acY:aW:=(aW.nil).add 4 aaV
theorem Zw:cv E amB ahS acY (ai Tryz.f177 0):=lk D5 UL (fun X=>X.1.2.1) fun X x=>((z1 (u x) X.1),X.2)
theorem aon:aj Tryz.prog 177 aes:=fk ahS ((base.add yU).add aoT) Tryz.func177 (Λ:=acY) (cF Zw nF)
def aeS:ak:=af [pI] [rB] (c1 Pu.sK)
theorem aoU:aj Tryz.prog 232 aeS:=f0 {merge:=mg [(1,2)]} base Tryz.func232
def aet:ak:=af [pf dA,pI] [rB] (c2 Pu.qX)
def amC:aO:=(aO.nil.add 24 KL).add 232 aeS
def ahT:An:={mask:=mk [(4,[1,2,4,5])],merge:=mg [(1,21)]}
@[reducible] def D6:SD:=⟨B::DI::.ptr 2 0::B::DB::DI::bs 32 [],Z::Z::(some (.pair .str (.sl .arg (.int .i64))))::zs 35 [],.none⟩
def UM {R:Type}(X:SD.D D6)(K:Ex→AS→Option R):=Pu.l9 (fun y0=>ke 0 K D6 ((z2 (u y0) X.1),X.2)) (fun y0 y1=>kr K D6 ((z1 (w y0 (u y1)) X.1),X.2)) X.1.1 X.1.2.1 X.2.1.1
def aaW:aR:=cB D6 UM q2
def acZ:aW:=(aW.nil).add 4 aaW
theorem Zx:cv E amC ahT acZ (ai Tryz.f178 0):=lk D6 UM q2 fun X x=>((z2 (u x) X.1),X.2)
theorem aoo:aj Tryz.prog 178 aet:=fk ahT ((base.add yU).add aoU) Tryz.func178 (Λ:=acZ) (cF Zx nF)
def e98:ak:=af [pf bt,pI] [rB] (c2 Pu.nz)
def g98:aO:=((aO.nil.add 176 aer).add 177 aes).add 178 aet
def n98:An:={mask:=mk [(4,[1,2,4,5]),(9,[1,2,4,6])],merge:=mg [(1,23)]}
@[reducible] def KH:SD:=⟨B::DI::.ptr 2 0::B::DB::DI::bs 50 [],Z::Z::(some Y22)::zs 53 [],.none⟩
def Yn {R:Type}(X:SD.D KH)(K:Ex→AS→Option R):=Pu.jy (fun y0=>ke 0 K KH ((z2 (u y0) X.1),X.2)) (fun y0 y1=>kr K KH ((z1 (w y0 (u y1)) X.1),X.2)) X.1.1 X.1.2.1 X.2.1.1
def ahr:aR:=cB KH Yn q2
@[reducible] def KI:SD:=⟨B::DI::.ptr 2 0::B::DB::B::DI::bs 49 [],Z::Z::(some Y22)::zs 53 [],.none⟩
def Yo {R:Type}(X:SD.D KI)(K:Ex→AS→Option R):=Pu.jz (fun y0=>ke 2 K KI ((z2 (u y0) X.1),X.2)) (fun y0 y1=>kr K KI ((z1 (w y0 (u y1)) X.1),X.2)) X.1.1 X.1.2.1 X.2.1.1
def ahs:aR:=cB KI Yo q2
def L98:aW:=((aW.nil).add 4 ahr).add 9 ahs
theorem agx:cv E g98 n98 L98 (ai Tryz.f98 0):=lk KH Yn q2 fun X x=>((z2 (u x) X.1),X.2)
theorem agy:cv E g98 n98 L98 (ai Tryz.f98 1):=lk KI Yo q2 fun X x=>((z2 (u x) X.1),X.2)
theorem o98:aj Tryz.prog 98 e98:=fk n98 (((base.add aom).add aon).add aoo) Tryz.func98 (Λ:=L98) (cF agx (cF agy nF))
def akb:ak:=af [pf aY] [rB] (c1 Pu.jx)
theorem ab6:aj Tryz.prog 179 akb:=f0 {merge:=mg [(1,2)]} ((base.add yU).add acd) Tryz.func179
def akz:ak:=af [pf eF] [rB] (c1 Pu.lA)
theorem ai3:aj Tryz.prog 233 akz:=f0 {merge:=mg [(1,18),(4,2),(5,2)]} (base.add yU) Tryz.func233
def aeu:ak:=af [pf bM] [rB] (c1 Pu.eX)
theorem Ri:aj Tryz.prog 180 aeu:=f0 {merge:=mg [(1,55),(3,3),(4,2)]} ((base.add yU).add ai3) Tryz.func180
def e99:ak:=af [pf az] [rB] (c1 Pu.s7)
theorem o99:aj Tryz.prog 99 e99:=f0 {merge:=mg [(1,42),(5,2)]} ((((base.add yU).add LL).add ab6).add Ri) Tryz.func99
def akc:ak:=af [pf aM] [rB] (c1 Pu.n9)
theorem aiU:aj Tryz.prog 181 akc:=f0 {merge:=mg [(1,2)]} base Tryz.func181
def adU:ak:=af [pf aM] [rB] (c1 Pu.dm)
theorem Tz:aj Tryz.prog 101 adU:=f0 {merge:=mg [(1,24),(3,2)]} ((base.add yU).add aiU) Tryz.func101
def e23:ak:=af [pf bf] [rB] (c1 Pu.iZ)
def g23:aO:=((((((((aO.nil.add 24 KL).add 94 e94).add 95 e95).add 96 e96).add 97 e97).add 98 e98).add 99 e99).add 100 Sr).add 101 adU
def n23:An:={mask:=mk [(5,[1,2,3,4]),(11,[2,5,6])],merge:=mg [(2,64),(7,94)]}
@[reducible] def Kj:SD:=⟨B::.ptr 1 0::DB::DI::DI::bs 118 [],Z::(some Y2)::zs 121 [],.none⟩
def XC {R:Type}(X:SD.D Kj)(K:Ex→AS→Option R):=Pu.pK (fun y0=>ke 0 K Kj ((z2 (u y0) X.1),X.2)) (fun y0 y1=>kr K Kj ((w y0 (z1 (u y1)) X.1),X.2)) X.1.1 X.1.2.1 X.2.1.1
def agD:aR:=cB Kj XC q2
@[reducible] def Ee:SD:=⟨B::B::DB::B::B::.data false (.sl (.own (some 61440)) (.int .i64))::DI::bs 116 [],zs 123 [],.none⟩
def U2 {R:Type}(X:SD.D Ee)(K:Ex→AS→Option R):=Pu.nv (fun y0=>ke 2 K Ee ((z2 (u y0) X.1),X.2)) (fun y0 y1=>kr K Ee ((w y0 (z1 (u y1)) X.1),X.2)) X.1.1 X.1.2.1
def abb:aR:=cB Ee U2 q2
def L23:aW:=((aW.nil).add 5 agD).add 11 abb
theorem afL:cv E g23 n23 L23 (ai Tryz.f23 0):=lk Kj XC q2 fun X x=>((z2 (u x) X.1),X.2)
theorem ZM:cv E g23 n23 L23 (ai Tryz.f23 1):=lk Ee U2 q2 fun X x=>((z2 (u x) X.1),X.2)
theorem o23:aj Tryz.prog 23 e23:=fk n23 (((((((((base.add yU).add o94).add o95).add o96).add o97).add o98).add o99).add Re).add Tz) Tryz.func23 (Λ:=L23) (cF afL (cF ZM nF))
def Qi:ak:=af [pf (.sl .str)] [(true,(.sl (.own none) .str))] (c1 Pu.ch)
theorem Jk:aj Tryz.prog 102 Qi:=f0 {} base Tryz.func102
def YC:ak:=af [pf bk] [(true,Y17)] (c1 Pu.pP)
def ami:aO:=aO.nil.add 104 Ss
def ahv:An:={mask:=mk [(3,[1,2,3,4])],mv:=[27,40],mb:=mg [(27,3)],sb:=mg [(3,3),(39,3)]}
@[reducible] def HW:SD:=⟨B::.ptr 1 0::.ptr 2 0::.ptr 3 0::DI::bs 36 [],Z::(some Y18)::(some (.pair Y0 (.pair (.pair (.int .i64) (.pair (.int .i64) (.pair (.int .i64) (.sl (.own (some 24598)) (.int .i64))))) (.pair (.sl (.own (some 24601)) bJ) (.int .i64)))))::(some (.pair Y0 (.pair (.pair (.int .i64) (.pair (.int .i64) (.pair (.int .i64) (.sl (.own (some 36886)) (.int .i64))))) (.pair (.sl (.own (some 36889)) bJ) (.int .i64)))))::zs 37 [],.none⟩
def Un {R:Type}(X:SD.D HW)(K:Ex→AS→Option R):=Pu.nG (fun y0 y1=>ke 0 K HW ((u y0 X.1),(z2 (u y1) X.2.1),X.2.2)) X.2.1.1 X.2.1.2.1
def aax:aR:=cB HW Un (fun X=>(X.1.1,X.2.1.2.2.1))
def acB:aW:=(aW.nil).add 3 aax
theorem YY:cv E ami ahv acB (ai Tryz.f103 0):=lk HW Un (fun X=>(X.1.1,X.2.1.2.2.1)) fun X x=>((u x.1 X.1),(z2 (u x.2) X.2.1),X.2.2)
theorem aiL:aj Tryz.prog 103 YC:=fk ahv (base.add TA) Tryz.func103 (Λ:=acB) (cF YY nF)
def adV:ak:=af [pf cq] [(true,Y24)] (c1 Pu.sQ)
theorem anv:aj Tryz.prog 105 adV:=f0 {sb:=mg [(2,2)]} base Tryz.func105
def akd:ak:=af [pf (.sl br)] [(true,(.sl (.own none) br))] (c1 Pu.sL)
theorem aop:aj Tryz.prog 182 akd:=f0 {} base Tryz.func182
def adW:ak:=af [pf bt] [(true,Y19)] (c1 Pu.sN)
theorem anw:aj Tryz.prog 106 adW:=f0 {sb:=mg [(2,2)]} (base.add aop) Tryz.func106
def e25:ak:=af [pf bf] [(true,Y1)] (c1 Pu.gL)
def g25:aO:=((((aO.nil.add 102 Qi).add 103 YC).add 104 Ss).add 105 adV).add 106 adW
def n25:An:={mask:=mk [(8,[1,2,3,4])],mv:=[34,82],mb:=mg [(34,3)],sb:=mg [(43,3)]}
@[reducible] def OQ:SD:=⟨B::.ptr 1 0::.ptr 2 0::.ptr 3 0::DI::bs 78 [],Z::(some Y2)::(some Y3)::(some Y13)::zs 79 [],.none⟩
def XD {R:Type}(X:SD.D OQ)(K:Ex→AS→Option R):=Pu.nH (fun y0 y1=>ke 0 K OQ ((u y0 X.1),(z2 (u y1) X.2.1),X.2.2)) X.2.1.1 X.2.1.2.1
def agE:aR:=cB OQ XD (fun X=>(X.1.1,X.2.1.2.2.1))
def L25:aW:=(aW.nil).add 8 agE
theorem afM:cv E g25 n25 L25 (ai Tryz.f25 0):=lk OQ XD (fun X=>(X.1.1,X.2.1.2.2.1)) fun X x=>((u x.1 X.1),(z2 (u x.2) X.2.1),X.2.2)
theorem o25:aj Tryz.prog 25 e25:=fk n25 (((((base.add Jk).add aiL).add TA).add anv).add anw) Tryz.func25 (Λ:=L25) (cF afM nF)
def aff:ak:=af [pd (.sl au),pI,pI,pd .bool] [rI] (c4 Pu.sO)
def am9:aO:=aO.nil
def ais:An:={mask:=mk [(2,[0,1,2,3,8,9])],merge:=mg [(4,42)]}
@[reducible] def Ep:SD:=⟨.data false (.sl .arg au)::DI::DI::DB::bs 4 (DI::DI::bs 38 []),zs 48 [],.none⟩
def Vo {R:Type}(X:SD.D Ep)(K:Ex→AS→Option R):=Pu.nD (fun y0=>ke 0 K Ep ((z5 (u y0) X.1),X.2)) (fun y0 y1=>kr K Ep ((z4 (w y0 (u y1)) X.1),X.2)) X.1.1 X.1.2.1 (q2 X) (q3 X) (q4 X)
def aby:aR:=cB Ep Vo q5
def adz:aW:=(aW.nil).add 2 aby
theorem Z8:cv E am9 ais adz (ai Tryz.f311 0):=lk Ep Vo q5 fun X x=>((z5 (u x) X.1),X.2)
theorem apG:aj Tryz.prog 311 aff:=fk ais base Tryz.func311 (Λ:=adz) (cF Z8 nF)
def Wd:ak:=af [pf (.sl .str),pI,pI] [rB] (c3 Pu.fI)
theorem acj:aj Tryz.prog 312 Wd:=f0 {merge:=mg [(2,6)]} (base.add o94) Tryz.func312
def YM:ak:=af [pd (.sl au),pf (.sl .str),pI,pI,pI,pd .bool] [(false,(.sl (.own none) (.int .i64))),(false,(.sl (.own none) (.int .i64))),rB] (c6 Pu.mY)
def amS:aO:=((((aO.nil.add 24 KL).add 94 e94).add 95 e95).add 311 aff).add 312 Wd
def aia:An:={mask:=mk [(5,[0,2,3,4,5,7,12,13,14,15,16])],merge:=mg [(3,34),(10,57)],mv:=[35,36,64,71,81,82]}
@[reducible] def Eh:SD:=⟨.data false (.sl .arg au)::B::DI::DI::DI::DB::B::.ptr 7 0::bs 4 (.data false (.sl (.own (some 147456)) (.int .i64))::.data false (.sl (.own (some 159744)) (.int .i64))::DB::.data false (.sl (.own (some 184320)) (.int .i64))::.data false (.sl (.own (some 196608)) (.int .i64))::bs 66 []),zs 7 ((some (.sl .arg .str))::zs 75 []),.none⟩
def U6 {R:Type}(X:SD.D Eh)(K:Ex→AS→Option R):=Pu.fz (fun y0 y1 y2 y3=>ke 0 K Eh ((z2 (w y0 (w y1 (z4 (w y2 (u y3))))) X.1),X.2)) (fun y0 y1 y2 y3 y4 y5 y6=>kr K Eh ((z2 (w y0 (w y1 (z1 (w y2 (w y3 (w y4 (w y5 (u y6)))))))) X.1),X.2)) X.1.1 X.1.2.1 (q4 X) (q5 X) (q6 X) (q7 X) X.2.1.1
def abf:aR:=cB Eh U6 (fun X=>(q2 X,q3 X,q8 X,q9 X))
def adi:aW:=(aW.nil).add 5 abf
theorem ZQ:cv E amS aia adi (ai Tryz.f248 0):=lk Eh U6 (fun X=>(q2 X,q3 X,q8 X,q9 X)) fun X x=>((z2 (w x.1 (w x.2.1 (z4 (w x.2.2.1 (u x.2.2.2))))) X.1),X.2)
theorem ai8:aj Tryz.prog 248 YM:=fk aia (((((base.add yU).add o94).add o95).add apG).add acj) Tryz.func248 (Λ:=adi) (cF ZQ nF)
def aeU:ak:=af [pf (.sl .str),pI,pI] [rS,rB] (c3 Pu.jQ)
def amT:aO:=aO.nil.add 312 Wd
def aib:An:={mask:=mk [(4,[1,2,3,8])]}
@[reducible] def Ii:SD:=⟨B::DI::DI::.ptr 3 0::bs 4 (.data false .str::bs 35 []),Z::Z::Z::(some (.sl .arg .str))::zs 40 [],.none⟩
def U7 {R:Type}(X:SD.D Ii)(K:Ex→AS→Option R):=Pu.fH (fun y0 y1 y2=>ke 0 K Ii ((w y0 (w y1 (u y2)) X.1),X.2)) X.2.1.1
def abg:aR:=cB Ii U7 (fun X=>(X.1.1,X.1.2.1,q2 X))
def adj:aW:=(aW.nil).add 4 abg
theorem ZR:cv E amT aib adj (ai Tryz.f249 0):=lk Ii U7 (fun X=>(X.1.1,X.1.2.1,q2 X)) fun X x=>((w x.1 (w x.2.1 (u x.2.2)) X.1),X.2)
theorem ao3:aj Tryz.prog 249 aeU:=fk aib (base.add acj) Tryz.func249 (Λ:=adj) (cF ZR nF)
def YK:ak:=af [pd (.sl au),pf (.sl .str),pI,pI,pI] [rS,rB] (c5 Pu.jt)
def amD:aO:=(aO.nil.add 248 YM).add 249 aeU
def ahU:An:={mask:=mk [(6,[6,12,13,15,16])]}
@[reducible] def H8:SD:=⟨bs 6 (.ptr 6 0::bs 5 (.data false (.sl .loc (.int .i64))::.data false (.sl .loc (.int .i64))::B::.data false .str::DI::bs 37 [])),zs 6 ((some (.sl .arg .str))::zs 47 []),.none⟩
def UN {R:Type}(X:SD.D H8)(K:Ex→AS→Option R):=Pu.nu (fun y0 y1=>ke 0 K H8 ((z2 (w y0 (u y1)) X.1),X.2)) X.1.1 X.1.2.1 X.2.1.1
def aaX:aR:=cB H8 UN (fun X=>(q2 X,q3 X))
def ac0:aW:=(aW.nil).add 6 aaX
theorem Zy:cv E amD ahU ac0 (ai Tryz.f189 0):=lk H8 UN (fun X=>(q2 X,q3 X)) fun X x=>((z2 (w x.1 (u x.2)) X.1),X.2)
theorem WR:aj Tryz.prog 189 YK:=fk ahU ((base.add ai8).add ao3) Tryz.func189 (Λ:=ac0) (cF Zy nF)
def akA:ak:=af [pf fT,pI] [rI] (c2 Pu.iP)
theorem ai4:aj Tryz.prog 234 akA:=f0 {merge:=mg [(1,11)]} (base.add LL) Tryz.func234
def aev:ak:=af [pd (.sl au),pf (.sl .str),pI,pf fT] [rS,(true,Y0),rB] (c4 Pu.kh)
theorem aiV:aj Tryz.prog 183 aev:=f0 {merge:=mg [(1,20)],sb:=mg [(9,9)]} ((((base.add LL).add WR).add TD).add ai4) Tryz.func183
def akR:ak:=af [pI] [rS] (c1 Pu.aG)
theorem Fj:aj Tryz.prog 254 akR:=f0 {} (base.add yU) Tryz.func254
def afg:ak:=af [pf dD] [rB] (c1 Pu.lx)
theorem ajn:aj Tryz.prog 314 afg:=f0 {merge:=mg [(1,2)]} (base.add yU) Tryz.func314
def alr:ak:=af [pI] [rS] (c1 Pu.bT)
theorem N2:aj Tryz.prog 315 alr:=f0 {} (base.add yU) Tryz.func315
def aeX:ak:=af [pf dD] [rS] (c1 Pu.jO)
theorem aja:aj Tryz.prog 257 aeX:=f0 {} (((base.add Fj).add ajn).add N2) Tryz.func257
def alW:ak:=af [pd .str,pI,pI] [rB] (c3 Pu.iQ)
theorem acn:aj Tryz.prog 352 alW:=f0 {merge:=mg [(1,6)]} base Tryz.func352
def ak9:ak:=af [pd .str,pI] [rI] (c2 Pu.bF)
theorem LN:aj Tryz.prog 290 ak9:=f0 {} (base.add acn) Tryz.func290
def ala:ak:=af [pd .str,pI] [rI] (c2 Pu.df)
theorem Rk:aj Tryz.prog 291 ala:=f0 {} ((base.add LN).add acn) Tryz.func291
def aeT:ak:=af [pd .str] [(true,Y29),rB] (c1 Pu.gb)
theorem ai5:aj Tryz.prog 235 aeT:=f0 {sb:=mg [(4,4)]} (((base.add aja).add LN).add Rk) Tryz.func235
def aft:ak:=af [pI,pI] [rI] (c2 Pu.gF)
theorem aqh:aj Tryz.prog 376 aft:=f0 {merge:=mg [(1,12)]} (base.add yU) Tryz.func376
def al0:ak:=af [pd .str] [rI] (c1 Pu.qY)
def anm:aO:=aO.nil.add 376 aft
def aiE:An:={mask:=mk [(3,[0,3,4])]}
@[reducible] def ID:SD:=⟨.data false .str::B::B::DI::DI::bs 28 [],zs 33 [],.none⟩
def VB {R:Type}(X:SD.D ID)(K:Ex→AS→Option R):=Pu.mc (fun y0 y1=>ke 0 K ID ((z1 (w y0 (u y1)) X.1),X.2)) X.1.1
def abL:aR:=cB ID VB (fun X=>(X.1.2.1,q2 X))
def adL:aW:=(aW.nil).add 3 abL
theorem aal:cv E anm aiE adL (ai Tryz.f358 0):=lk ID VB (fun X=>(X.1.2.1,q2 X)) fun X x=>((z1 (w x.1 (u x.2)) X.1),X.2)
theorem ap4:aj Tryz.prog 358 al0:=fk aiE (base.add aqh) Tryz.func358 (Λ:=adL) (cF aal nF)
def alk:ak:=af [pd .str] [rI] (c1 Pu.fi)
theorem aci:aj Tryz.prog 305 alk:=f0 {} (base.add ap4) Tryz.func305
def alm:ak:=af [pI,pI,pI,pI] [rS,rB] (c4 Pu.eu)
theorem ajl:aj Tryz.prog 306 alm:=f0 {merge:=mg [(1,27)]} (((base.add yU).add Fj).add N2) Tryz.func306
def afe:ak:=af [pd .str,pI,pd .str] [rS] (c3 Pu.bP)
theorem TF:aj Tryz.prog 307 afe:=f0 {} (base.add acn) Tryz.func307
def alb:ak:=af [pI,pI,pf eF] [rS,rB] (c3 Pu.ej)
theorem ajg:aj Tryz.prog 292 alb:=f0 {merge:=mg [(14,82)]} ((((((base.add ai3).add Fj).add aci).add ajl).add TF).add N2) Tryz.func292
def al9:ak:=af [pf Xq] [rB] (c1 Pu.yO)
theorem aqg:aj Tryz.prog 375 al9:=f0 {merge:=mg [(1,2)]} (base.add yU) Tryz.func375
def alX:ak:=af [pf Xq] [rS,rB] (c1 Pu.qT)
theorem ap0:aj Tryz.prog 353 alX:=f0 {} (((((base.add Fj).add aci).add TF).add N2).add aqg) Tryz.func353
def alc:ak:=af [pf Xq] [rS,rB] (c1 Pu.pD)
theorem ajh:aj Tryz.prog 293 alc:=f0 {} (base.add ap0) Tryz.func293
def alq:ak:=af [pf P5] [rB] (c1 Pu.qd)
theorem ajm:aj Tryz.prog 313 alq:=f0 {merge:=mg [(1,2)]} (base.add yU) Tryz.func313
def alY:ak:=af [pI] [rS] (c1 Pu.dz)
theorem ap1:aj Tryz.prog 354 alY:=f0 {} ((base.add Fj).add N2) Tryz.func354
def ald:ak:=af [pf P5] [rS,rB] (c1 Pu.qL)
theorem apv:aj Tryz.prog 294 ald:=f0 {} (((base.add Fj).add ajm).add ap1) Tryz.func294
def alZ:ak:=af [pI,pd (.int .u8)] [rS] (c2 Pu.sJ)
def ank:aO:=aO.nil
def aiC:An:={mask:=mk [(3,[0,1,5,6])]}
@[reducible] def IB:SD:=⟨DI::.data false (.int .u8)::B::B::B::.data false (.sl (.own (some 61440)) (.int .u8))::DI::bs 13 [],zs 20 [],.none⟩
def Vz {R:Type}(X:SD.D IB)(K:Ex→AS→Option R):=Pu.nC (fun y0 y1=>ke 0 K IB ((z2 (w y0 (u y1)) X.1),X.2)) X.1.1 X.1.2.1
def abJ:aR:=cB IB Vz (fun X=>(q2 X,q3 X))
def adJ:aW:=(aW.nil).add 3 abJ
theorem aaj:cv E ank aiC adJ (ai Tryz.f355 0):=lk IB Vz (fun X=>(q2 X,q3 X)) fun X x=>((z2 (w x.1 (u x.2)) X.1),X.2)
theorem ap2:aj Tryz.prog 355 alZ:=fk aiC base Tryz.func355 (Λ:=adJ) (cF aaj nF)
def ale:ak:=af [pd .str] [rS] (c1 Pu.sD)
theorem apw:aj Tryz.prog 295 ale:=f0 {} (base.add ap2) Tryz.func295
def akB:ak:=af [pf bM] [rS,rB] (c1 Pu.da)
theorem WT:aj Tryz.prog 236 akB:=f0 {} (((((base.add Ri).add ajg).add ajh).add apv).add apw) Tryz.func236
def afb:ak:=af [pf (.sl .str),pI,pd .str] [(true,(.sl (.own none) .str)),rB] (c3 Pu.me)
def am2:aO:=((aO.nil.add 102 Qi).add 307 afe).add 312 Wd
def ail:An:={mask:=mk [(4,[1,2,6,8])],mv:=[19,52]}
@[reducible] def Iq:SD:=⟨B::DI::.data false .str::B::B::B::.ptr 6 0::B::.ptr 8 0::bs 44 [],zs 6 ((some (.sl (.own (some 73729)) .str))::Z::(some (.sl (.own (some 98305)) .str))::zs 44 []),.none⟩
def Vh {R:Type}(X:SD.D Iq)(K:Ex→AS→Option R):=Pu.ij (fun y0 y1 y2=>ke 0 K Iq ((w y0 (u y1) X.1),(z1 (u y2) X.2.1),X.2.2)) X.2.1.1
def abq:aR:=cB Iq Vh (fun X=>(X.1.1,X.1.2.1,X.2.1.2.1))
def ads:aW:=(aW.nil).add 4 abq
theorem Z1:cv E am2 ail ads (ai Tryz.f296 0):=lk Iq Vh (fun X=>(X.1.1,X.1.2.1,X.2.1.2.1)) fun X x=>((w x.1 (u x.2.1) X.1),(z1 (u x.2.2) X.2.1),X.2.2)
theorem apx:aj Tryz.prog 296 afb:=fk ail (((base.add Jk).add TF).add acj) Tryz.func296 (Λ:=ads) (cF Z1 nF)
def akC:ak:=af [pd (.sl au),pf (.sl .str),pI,pI,pd .str] [(true,(.sl (.own none) .str)),rB] (c5 Pu.kf)
def amO:aO:=((aO.nil.add 102 Qi).add 248 YM).add 296 afb
def ah6:An:={mask:=mk [(6,[4,10,12,13,15,16])],mv:=[32,39,52,60],sb:=mg [(15,15)]}
@[reducible] def Ig:SD:=⟨bs 4 (.data false .str::bs 5 (.ptr 10 0::B::.data false (.sl .loc (.int .i64))::.data false (.sl .loc (.int .i64))::B::.ptr 15 0::DI::bs 44 [])),zs 10 ((some (.sl (.own (some 122881)) .str))::zs 4 ((some (.sl (.own (some 184321)) .str))::zs 45 [])),.none⟩
def U1 {R:Type}(X:SD.D Ig)(K:Ex→AS→Option R):=Pu.iJ (fun y0 y1 y2=>ke 0 K Ig ((w y0 (z2 (u y1)) X.1),(z1 (u y2) X.2.1),X.2.2)) X.1.2.1 (q2 X) X.2.1.1
def aba:aR:=cB Ig U1 (fun X=>(X.1.1,q3 X,X.2.1.2.1))
def ade:aW:=(aW.nil).add 6 aba
theorem ZL:cv E amO ah6 ade (ai Tryz.f237 0):=lk Ig U1 (fun X=>(X.1.1,q3 X,X.2.1.2.1)) fun X x=>((w x.1 (z2 (u x.2.1)) X.1),(z1 (u x.2.2) X.2.1),X.2.2)
theorem ace:aj Tryz.prog 237 akC:=fk ah6 (((base.add Jk).add ai8).add apx) Tryz.func237 (Λ:=ade) (cF ZL nF)
def akM:ak:=af [pf aY] [rI] (c1 Pu.mZ)
theorem ai7:aj Tryz.prog 247 akM:=f0 {} base Tryz.func247
def alf:ak:=af [pf dE] [rB] (c1 Pu.kI)
theorem aji:aj Tryz.prog 297 alf:=f0 {merge:=mg [(1,2)]} (base.add yU) Tryz.func297
def alg:ak:=af [pf dE,pI] [rS] (c2 Pu.kq)
theorem apy:aj Tryz.prog 298 alg:=f0 {merge:=mg [(1,12)]} ((((base.add yU).add Fj).add aji).add N2) Tryz.func298
def akD:ak:=af [pd (.sl au),pf (.sl .str),pI,pf aY,pf dE] [(true,(.sl (.own none) .str)),(true,Sh),rB] (c5 Pu.jw)
theorem aoV:aj Tryz.prog 238 akD:=f0 {merge:=mg [(1,22)],mv:=[26,44,59],mb:=mg [(59,13)],sb:=mg [(10,10),(11,11),(13,13)]} ((((((base.add Jk).add ab6).add ace).add ai7).add aji).add apy) Tryz.func238
def YS:ak:=af [pd .str,pI] [rI] (c2 Pu.rL)
theorem ajz:aj Tryz.prog 356 YS:=f0 {} base Tryz.func356
def afm:ak:=af [pd .str,pI] [rI] (c2 Pu.pL)
def anl:aO:=(aO.nil.add 24 KL).add 356 YS
def aiD:An:={mask:=mk [(5,[0,1,5,6])],merge:=mg [(1,14)]}
@[reducible] def IC:SD:=⟨.data false .str::DI::B::B::B::DI::DI::bs 21 [],zs 28 [],.none⟩
def VA {R:Type}(X:SD.D IC)(K:Ex→AS→Option R):=Pu.kN (fun y0 y1=>ke 0 K IC ((z2 (w y0 (u y1)) X.1),X.2)) X.1.1 X.1.2.1
def abK:aR:=cB IC VA (fun X=>(q2 X,q3 X))
def adK:aW:=(aW.nil).add 5 abK
theorem aak:cv E anl aiD adK (ai Tryz.f357 0):=lk IC VA (fun X=>(q2 X,q3 X)) fun X x=>((z2 (w x.1 (u x.2)) X.1),X.2)
theorem ap3:aj Tryz.prog 357 afm:=fk aiD ((base.add yU).add ajz) Tryz.func357 (Λ:=adK) (cF aak nF)
def alh:ak:=af [pd .str,pd .str] [rI] (c2 Pu.pG)
def am3:aO:=(aO.nil.add 356 YS).add 357 afm
def aim:An:={mask:=mk [(5,[0,1,5,6])],merge:=mg [(1,14)]}
@[reducible] def Ir:SD:=⟨.data false .str::.data false .str::B::B::B::DI::DI::bs 25 [],zs 32 [],.none⟩
def Vi {R:Type}(X:SD.D Ir)(K:Ex→AS→Option R):=Pu.kL (fun y0 y1=>ke 0 K Ir ((z2 (w y0 (u y1)) X.1),X.2)) X.1.1 X.1.2.1
def abr:aR:=cB Ir Vi (fun X=>(q2 X,q3 X))
def adt:aW:=(aW.nil).add 5 abr
theorem Z2:cv E am3 aim adt (ai Tryz.f299 0):=lk Ir Vi (fun X=>(q2 X,q3 X)) fun X x=>((z2 (w x.1 (u x.2)) X.1),X.2)
theorem apz:aj Tryz.prog 299 alh:=fk aim ((base.add ajz).add ap3) Tryz.func299 (Λ:=adt) (cF Z2 nF)
def ali:ak:=af [pf dE] [rS] (c1 Pu.pH)
theorem apA:aj Tryz.prog 300 ali:=f0 {} ((base.add Fj).add N2) Tryz.func300
def akE:ak:=af [pd .str,pf dE] [rI] (c2 Pu.qQ)
theorem aoW:aj Tryz.prog 239 akE:=f0 {} ((base.add apz).add apA) Tryz.func239
def akF:ak:=af [pf bM] [(true,(.pair (.int .i64) Y0))] (c1 Pu.uR)
theorem ai6:aj Tryz.prog 240 akF:=f0 {} base Tryz.func240
def ake:ak:=af [pd (.sl au),pf (.sl .str),pI,pf az,pd .str,pd .str] [(true,(.sl (.own none) .str)),(true,Sh),rB] (c6 Pu.qZ)
theorem aoq:aj Tryz.prog 184 ake:=f0 {merge:=mg [(3,46)],mv:=[90],sb:=mg [(12,12),(13,13)]} (((((((base.add Jk).add ai5).add WT).add ace).add aoV).add aoW).add ai6) Tryz.func184
def adX:ak:=af [pd (.sl au),pf (.sl .str),pI,pf az,pd .str] [(true,(.sl (.own none) .str)),(true,Y7)] (c5 Pu.pF)
theorem anx:aj Tryz.prog 107 adX:=f0 {merge:=mg [(1,30),(5,58)],mv:=[44,75],mb:=mg [(75,15)],sb:=mg [(10,10),(11,11)]} ((((base.add o99).add Jk).add aiV).add aoq) Tryz.func107
def akf:ak:=af [pf aM] [(true,Y9)] (c1 Pu.gS)
theorem ab8:aj Tryz.prog 193 akf:=f0 {} (base.add aiU) Tryz.func193
def aew:ak:=af [pf aM] [(true,Y9)] (c1 Pu.qK)
theorem aor:aj Tryz.prog 185 aew:=f0 {} ((base.add Tz).add ab8) Tryz.func185
def adY:ak:=EC bf [pI,pI] [] fun x a=>Pu.lB x a.1 a.2.1
def afw:aO:=aO.nil.add 185 aew
def ahw:An:={mask:=mk [(2,[0,1,6,7])]}
@[reducible] def HX:SD:=⟨.ptr 0 0::DI::bs 4 (DI::DI::bs 42 []),(some Y12)::zs 49 [],.ptr⟩
def Uo {R:Type}(X:SD.D HX)(K:Ex→AS→Option R):=Pu.kQ (fun y0 y1=>ke 0 K HX ((z2 (u y0) X.1),(u y1 X.2.1),X.2.2)) X.1.1 X.1.2.1
def aay:aR:=cB HX Uo (fun X=>(q2 X,X.2.1.1))
def acC:aW:=(aW.nil).add 2 aay
theorem YZ:cv E afw ahw acC (ai Tryz.f108 0):=lk HX Uo (fun X=>(q2 X,X.2.1.1)) fun X x=>((z2 (u x.1) X.1),(u x.2 X.2.1),X.2.2)
theorem anz:aj Tryz.prog 108 adY:=aj.TG (SM (Γ:=afw) (an:=ahw) (Λ:=acC) (base.add aor) Tryz.func108 (by kernel_rfl) (hF (by kernel_rfl) (cF YZ nF))) (fun x a=>by kernel_rfl)
def e26:ak:=af [pf bf] [(true,Y1)] (c1 Pu.pJ)
def g26:aO:=(((aO.nil.add 23 e23).add 25 e25).add 107 adX).add 108 adY
def n26:An:={mask:=mk [(3,[1,2,3,4])],merge:=mg [(3,17)],mv:=[20,35,37,53],sb:=mg [(5,5),(6,6)]}
@[reducible] def OR:SD:=⟨B::.ptr 1 0::.ptr 2 0::.ptr 3 0::DI::bs 49 [],Z::(some Y2)::(some Y3)::(some Y6)::zs 50 [],.none⟩
def XE {R:Type}(X:SD.D OR)(K:Ex→AS→Option R):=Pu.gI (fun y0 y1=>ke 0 K OR ((u y0 X.1),(z2 (u y1) X.2.1),X.2.2)) X.2.1.1 X.2.1.2.1
def agF:aR:=cB OR XE (fun X=>(X.1.1,X.2.1.2.2.1))
def L26:aW:=(aW.nil).add 3 agF
theorem afN:cv E g26 n26 L26 (ai Tryz.f26 0):=lk OR XE (fun X=>(X.1.1,X.2.1.2.2.1)) fun X x=>((u x.1 X.1),(z2 (u x.2) X.2.1),X.2.2)
theorem o26:aj Tryz.prog 26 e26:=fk n26 ((((base.add o23).add o25).add anx).add anz) Tryz.func26 (Λ:=L26) (cF afN nF)
def akN:ak:=af [pd .str] [(true,Y15),rB] (c1 Pu.qV)
theorem ao4:aj Tryz.prog 250 akN:=f0 {sb:=mg [(4,4)]} (((base.add LN).add Rk).add ajm) Tryz.func250
def akO:ak:=af [pd .str] [(true,Y23),rB] (c1 Pu.sE)
theorem ao5:aj Tryz.prog 251 akO:=f0 {merge:=mg [(2,22),(6,56)],sb:=mg [(5,5)]} (((base.add LN).add Rk).add ajh) Tryz.func251
def akP:ak:=af [pI,pI,pI,pd .str] [(true,(.pair (.int .i64) Y23)),rB] (c4 Pu.kO)
theorem ao6:aj Tryz.prog 252 akP:=f0 {merge:=mg [(3,20),(9,44),(12,68)]} (((base.add LN).add Rk).add ajg) Tryz.func252
def aez:ak:=af [pd .str] [(true,Y4),rI] (c1 Pu.dT)
theorem ab7:aj Tryz.prog 190 aez:=f0 {merge:=mg [(2,20)]} ((((base.add Ri).add ao4).add ao5).add ao6) Tryz.func190
def akG:ak:=af [pd (.sl au),pf (.sl .str),pI,pf fT] [(false,(.sl (.own none) dD)),(true,Y0),rB] (c4 Pu.pN)
def amP:aO:=(((aO.nil.add 174 V9).add 183 aev).add 229 aeP).add 235 aeT
def ah7:An:={mask:=mk [(4,[0,2,5,7,8,9,10,11])],merge:=mg [(2,25),(7,50),(12,69)],mv:=[26,57,70],sb:=mg [(9,9)]}
@[reducible] def Ef:SD:=⟨.data false (.sl .arg au)::B::DI::B::B::.ptr 5 0::B::.ptr 7 0::.data false (.sl (.own (some 98304)) dD)::.ptr 9 0::DB::.data false (.sl (.own (some 135168)) dD)::bs 60 [],zs 5 ((some (.sl .arg .str))::Z::(some Y0)::Z::(some Y0)::zs 62 []),.none⟩
def U3 {R:Type}(X:SD.D Ef)(K:Ex→AS→Option R):=Pu.gK (fun y0 y1=>ke 0 K Ef ((z4 (u y0) X.1),(z1 (u y1) X.2.1),X.2.2)) (fun y0 y1 y2 y3 y4=>kr K Ef ((z2 (w y0 (w y1 (u y2))) X.1),(z1 (w y3 (u y4)) X.2.1),X.2.2)) X.1.1 X.1.2.1 (q2 X) (q3 X) X.2.1.1 X.2.1.2.2.1
def abc:aR:=cB Ef U3 (fun X=>(q4 X,X.2.1.2.1))
def adf:aW:=(aW.nil).add 4 abc
theorem ZN:cv E amP ah7 adf (ai Tryz.f241 0):=lk Ef U3 (fun X=>(q4 X,X.2.1.2.1)) fun X x=>((z4 (u x.1) X.1),(z1 (u x.2) X.2.1),X.2.2)
theorem aoX:aj Tryz.prog 241 akG:=fk ah7 ((((base.add LL).add aiV).add TD).add ai5) Tryz.func241 (Λ:=adf) (cF ZN nF)
def afc:ak:=af [pd (.sl dD),pd (.sl dD)] [rB] (c2 Pu.sP)
def am4:aO:=aO.nil
def ain:An:={mask:=mk [(4,[0,1,4,5])]}
@[reducible] def Em:SD:=⟨.data false (.sl .arg dD)::.data false (.sl .arg dD)::B::B::DB::DI::bs 20 [],zs 26 [],.none⟩
def Vj {R:Type}(X:SD.D Em)(K:Ex→AS→Option R):=Pu.nE (fun y0=>ke 0 K Em ((z3 (u y0) X.1),X.2)) (fun y0 y1=>kr K Em ((z2 (w y0 (u y1)) X.1),X.2)) X.1.1 X.1.2.1 (q2 X)
def abt:aR:=cB Em Vj q3
def adu:aW:=(aW.nil).add 4 abt
theorem Z3:cv E am4 ain adu (ai Tryz.f301 0):=lk Em Vj q3 fun X x=>((z3 (u x) X.1),X.2)
theorem apB:aj Tryz.prog 301 afc:=fk ain base Tryz.func301 (Λ:=adu) (cF Z3 nF)
def YP:ak:=af [pd (.sl dc)] [rB] (c1 Pu.mW)
def am6:aO:=aO.nil.add 24 KL
def aip:An:={mask:=mk [(2,[0,2,3])],merge:=mg [(4,24)]}
@[reducible] def Eo:SD:=⟨.data false (.sl .arg dc)::B::DB::DI::bs 24 [],zs 28 [],.none⟩
def Vl {R:Type}(X:SD.D Eo)(K:Ex→AS→Option R):=Pu.l8 (fun y0=>ke 0 K Eo ((z2 (u y0) X.1),X.2)) (fun y0 y1=>kr K Eo ((z1 (w y0 (u y1)) X.1),X.2)) X.1.1 X.1.2.1
def abv:aR:=cB Eo Vl q2
def adw:aW:=(aW.nil).add 2 abv
theorem Z5:cv E am6 aip adw (ai Tryz.f303 0):=lk Eo Vl q2 fun X x=>((z2 (u x) X.1),X.2)
theorem ajj:aj Tryz.prog 303 YP:=fk aip (base.add yU) Tryz.func303 (Λ:=adw) (cF Z5 nF)
def afd:ak:=af [pd (.sl dc),pI,pI] [(false,(.sl (.own none) dD))] (c3 Pu.h9)
def am5:aO:=((aO.nil.add 24 KL).add 303 YP).add 314 afg
def aio:An:={mask:=mk [(5,[0,2,6,7,8])],merge:=mg [(2,33)],mv:=[63,67],sb:=mg [(9,9)]}
@[reducible] def En:SD:=⟨.data false (.sl .arg dc)::B::DI::B::B::B::.data false (.sl (.own (some 73728)) dD)::.data false (.sl (.own (some 86016)) dD)::DI::bs 59 [],zs 68 [],.none⟩
def Vk {R:Type}(X:SD.D En)(K:Ex→AS→Option R):=Pu.eV (fun y0 y1=>ke 0 K En ((z3 (w y0 (u y1)) X.1),X.2)) (fun y0 y1 y2=>kr K En ((z2 (w y0 (w y1 (u y2))) X.1),X.2)) X.1.1 X.1.2.1 (q2 X)
def abu:aR:=cB En Vk (fun X=>(q3 X,q4 X))
def adv:aW:=(aW.nil).add 5 abu
theorem Z4:cv E am5 aio adv (ai Tryz.f302 0):=lk En Vk (fun X=>(q3 X,q4 X)) fun X x=>((z3 (w x.1 (u x.2)) X.1),X.2)
theorem apC:aj Tryz.prog 302 afd:=fk aio (((base.add yU).add ajj).add ajn) Tryz.func302 (Λ:=adv) (cF Z4 nF)
def akH:ak:=af [pd (.sl dD)] [(false,(.sl (.own none) dc)),rI,rI,rB] (c1 Pu.jv)
def amQ:aO:=(aO.nil.add 301 afc).add 302 afd
def ah8:An:={mask:=mk [(3,[0,6,7])],merge:=mg [(6,46)],mv:=[15,48]}
@[reducible] def Ih:SD:=⟨.data false (.sl .arg dD)::bs 5 (.data false (.sl (.own (some 73728)) dc)::DI::bs 49 []),zs 57 [],.none⟩
def U4 {R:Type}(X:SD.D Ih)(K:Ex→AS→Option R):=Pu.fQ (fun y0 y1=>ke 0 K Ih ((z1 (w y0 (u y1)) X.1),X.2)) X.1.1
def abd:aR:=cB Ih U4 (fun X=>(X.1.2.1,q2 X))
def adg:aW:=(aW.nil).add 3 abd
theorem ZO:cv E amQ ah8 adg (ai Tryz.f242 0):=lk Ih U4 (fun X=>(X.1.2.1,q2 X)) fun X x=>((z1 (w x.1 (u x.2)) X.1),X.2)
theorem aoY:aj Tryz.prog 242 akH:=fk ah8 ((base.add apB).add apC) Tryz.func242 (Λ:=adg) (cF ZO nF)
def akI:ak:=af [pd (.sl au),pf (.sl .str),pI,pd (.sl dc)] [rS,rB] (c4 Pu.kK)
def amR:aO:=(aO.nil.add 189 YK).add 303 YP
def ah9:An:={mask:=mk [(5,[0,2,3,5,8,9,10,11])]}
@[reducible] def Eg:SD:=⟨.data false (.sl .arg au)::B::DI::.data false (.sl .arg dc)::B::.ptr 5 0::B::B::.data false .str::DB::.data false .str::DI::bs 34 [],zs 5 ((some (.sl .arg .str))::zs 40 []),.none⟩
def U5 {R:Type}(X:SD.D Eg)(K:Ex→AS→Option R):=Pu.gH (fun y0 y1=>ke 0 K Eg ((z5 (w y0 (u y1)) X.1),X.2)) (fun y0 y1 y2 y3=>kr K Eg ((z3 (w y0 (w y1 (w y2 (u y3)))) X.1),X.2)) X.1.1 X.1.2.1 (q2 X) (q3 X) (q4 X) X.2.1.1
def abe:aR:=cB Eg U5 (fun X=>(q5 X,q6 X))
def adh:aW:=(aW.nil).add 5 abe
theorem ZP:cv E amR ah9 adh (ai Tryz.f243 0):=lk Eg U5 (fun X=>(q5 X,q6 X)) fun X x=>((z5 (w x.1 (u x.2)) X.1),X.2)
theorem aoZ:aj Tryz.prog 243 akI:=fk ah9 ((base.add WR).add ajj) Tryz.func243 (Λ:=adh) (cF ZP nF)
def alj:ak:=af [pd .str] [rI,rI] (c1 Pu.pQ)
theorem ajk:aj Tryz.prog 304 alj:=f0 {} (base.add LN) Tryz.func304
def aln:ak:=af [pf bM] [rS,rB] (c1 Pu.ki)
theorem apD:aj Tryz.prog 308 aln:=f0 {} ((((base.add WT).add Fj).add ajk).add TF) Tryz.func308
def akJ:ak:=af [pd .str] [rS,rB] (c1 Pu.qN)
theorem ao0:aj Tryz.prog 244 akJ:=f0 {merge:=mg [(2,36),(7,61),(12,98)]} ((((((((((base.add ab7).add WT).add Fj).add LN).add Rk).add ajk).add aci).add ajl).add TF).add apD) Tryz.func244
def ama:ak:=af [pf bM] [rB] (c1 Pu.qU)
theorem aqi:aj Tryz.prog 377 ama:=f0 {merge:=mg [(1,2)]} (base.add Ri) Tryz.func377
def amf:ak:=af [pd .str] [rI] (c1 Pu.wW)
def afE:aO:=aO.nil
def ab0:An:={mask:=mk [(3,[0,3,4]),(7,[0,3,4,5])]}
@[reducible] def IK:SD:=⟨.data false .str::B::B::DI::DI::DI::bs 26 [],zs 32 [],.none⟩
def VH {R:Type}(X:SD.D IK)(K:Ex→AS→Option R):=Pu.kc (fun y0 y1=>ke 2 K IK ((z1 (w y0 (z1 (u y1))) X.1),X.2)) X.1.1 (q2 X)
def abR:aR:=cB IK VH (fun X=>(X.1.2.1,q3 X))
@[reducible] def IJ:SD:=⟨.data false .str::B::B::DI::DI::bs 27 [],zs 32 [],.none⟩
def VG {R:Type}(X:SD.D IJ)(K:Ex→AS→Option R):=Pu.mV (fun y0 y1=>ke 0 K IJ ((z1 (w y0 (u y1)) X.1),X.2)) X.1.1
def abQ:aR:=cB IJ VG (fun X=>(X.1.2.1,q2 X))
def Yu:aW:=((aW.nil).add 7 abR).add 3 abQ
theorem aar:cv E afE ab0 Yu (ai Tryz.f383 1):=lk IK VH (fun X=>(X.1.2.1,q3 X)) fun X x=>((z1 (w x.1 (z1 (u x.2))) X.1),X.2)
theorem aaq:cv E afE ab0 Yu (ai Tryz.f383 0):=lk IJ VG (fun X=>(X.1.2.1,q2 X)) fun X x=>((z1 (w x.1 (u x.2)) X.1),X.2)
theorem aqo:aj Tryz.prog 383 amf:=fk ab0 base Tryz.func383 (Λ:=Yu) (cF aaq (cF aar nF))
def amb:ak:=af [pd .str] [rS] (c1 Pu.sI)
theorem aqj:aj Tryz.prog 378 amb:=f0 {} (base.add aqo) Tryz.func378
def afn:ak:=af [pf bM] [rS,rB] (c1 Pu.nt)
theorem ap5:aj Tryz.prog 359 afn:=f0 {} (((base.add WT).add aqi).add aqj) Tryz.func359
def alo:ak:=af [pd (.sl bM)] [(false,(.sl (.own none) .str))] (c1 Pu.qP)
def am7:aO:=aO.nil.add 359 afn
def aiq:An:={mask:=mk [(3,[0,3,4])],mv:=[23,27]}
@[reducible] def Is:SD:=⟨.data false (.sl .arg bM)::B::B::.data false (.sl (.own (some 36864)) .str)::DI::bs 23 [],zs 28 [],.none⟩
def Vm {R:Type}(X:SD.D Is)(K:Ex→AS→Option R):=Pu.iL (fun y0 y1=>ke 0 K Is ((z1 (w y0 (u y1)) X.1),X.2)) X.1.1
def abw:aR:=cB Is Vm (fun X=>(X.1.2.1,q2 X))
def adx:aW:=(aW.nil).add 3 abw
theorem Z6:cv E am7 aiq adx (ai Tryz.f309 0):=lk Is Vm (fun X=>(X.1.2.1,q2 X)) fun X x=>((z1 (w x.1 (u x.2)) X.1),X.2)
theorem apE:aj Tryz.prog 309 alo:=fk aiq (base.add ap5) Tryz.func309 (Λ:=adx) (cF Z6 nF)
def alp:ak:=af [pf bM,pI] [(false,(.sl (.own none) bM))] (c2 Pu.wX)
def am8:aO:=(aO.nil.add 24 KL).add 180 aeu
def air:An:={mask:=mk [(8,[1,2,5,6,7])],merge:=mg [(2,17),(5,31)],mv:=[18,32,87,91]}
@[reducible] def It:SD:=⟨B::DI::.ptr 2 0::B::B::.data false (.sl (.own (some 61440)) bM)::DI::DI::bs 84 [],Z::Z::(some Y4)::zs 89 [],.none⟩
def Vn {R:Type}(X:SD.D It)(K:Ex→AS→Option R):=Pu.qW (fun y0 y1=>ke 0 K It ((z1 (w y0 (z1 (u y1))) X.1),X.2)) X.1.1 (q2 X) X.2.1.1
def abx:aR:=cB It Vn (fun X=>(X.1.2.1,q3 X))
def ady:aW:=(aW.nil).add 8 abx
theorem Z7:cv E am8 air ady (ai Tryz.f310 0):=lk It Vn (fun X=>(X.1.2.1,q3 X)) fun X x=>((z1 (w x.1 (z1 (u x.2))) X.1),X.2)
theorem apF:aj Tryz.prog 310 alp:=fk air ((base.add yU).add Ri) Tryz.func310 (Λ:=ady) (cF Z7 nF)
def akK:ak:=af [pf bM,pI] [(false,(.sl (.own none) .str))] (c2 Pu.ny)
theorem ao1:aj Tryz.prog 245 akK:=f0 {} ((base.add apE).add apF) Tryz.func245
def aex:ak:=af [pd (.sl au),pf (.sl .str),pI,pf fT] [(true,Y0),(false,(.sl (.own none) .str)),rI] (c4 Pu.kP)
theorem aos:aj Tryz.prog 186 aex:=f0 {merge:=mg [(2,31),(6,55),(11,85)],mv:=[33,57,87],sb:=mg [(8,8)]} ((((((((base.add LL).add ab7).add TD).add aoX).add aoY).add aoZ).add ao0).add ao1) Tryz.func186
def ajL:ak:=af [pd (.sl au),pf (.sl .str),pI,pf fT] [(true,Y0),(false,(.sl (.own none) .str)),rI,rI] (c4 Pu.md)
def amj:aO:=aO.nil.add 186 aex
def ahx:An:={mask:=mk [(4,[0,2,5,7,8,9,10,11,12,13,14])],mv:=[31,35]}
@[reducible] def MX:SD:=⟨.data false (.sl .arg au)::B::DI::B::B::.ptr 5 0::B::.ptr 7 0::.ptr 8 0::.data false (.sl (.own (some 110592)) .str)::DI::DI::.data false (.sl (.own (some 147456)) .str)::DI::DI::bs 29 [],zs 5 ((some (.sl .arg .str))::Z::(some Y0)::(some Y0)::zs 35 []),.none⟩
@[reducible] def Qe:SD:=⟨.data false (.sl .arg au)::B::DI::B::B::.ptr 5 0::B::.ptr 7 0::.ptr 8 0::.data false (.sl (.own (some 110592)) .str)::DI::DI::.data false (.sl .loc .str)::DI::DI::bs 29 [],zs 5 ((some (.sl .arg .str))::Z::(some Y0)::(some Y0)::zs 35 []),.none⟩
def Up {R:Type}(X:SD.D MX)(K:Ex→AS→Option R):=Pu.ig (fun y0 y1 y2 y3 y4 y5 y6 y7=>kr K Qe ((X.1.1,(X.1.2.1,(y0,(y1,(y2,(y3,(y4,(y5,())))))))),(X.2.1.1,(y6,(y7,()))),())) X.1.1 X.1.2.1 (q2 X) (q3 X) (q4 X) X.2.1.1 X.2.1.2.2.1
def aaz:aR:=cB MX Up (fun X=>(q5 X,q6 X,q7 X,X.2.1.2.1))
def acD:aW:=(aW.nil).add 4 aaz
theorem Za:cv E amj ahx acD (ai Tryz.f109 0):=lk MX Up (fun X=>(q5 X,q6 X,q7 X,X.2.1.2.1)) fun X x=>((z5 (w x.1 (w x.2.1 (u x.2.2.1))) X.1),(z1 (u x.2.2.2) X.2.1),X.2.2)
theorem anA:aj Tryz.prog 109 ajL:=fk ahx (base.add aos) Tryz.func109 (Λ:=acD) (cF Za nF)
def ajM:ak:=af [pf bk,pI] [(true,Y17),(false,(.sl (.own none) (.int .i64)))] (c2 Pu.gG)
def amk:aO:=(((aO.nil.add 24 KL).add 96 e96).add 103 YC).add 175 Wa
def ahy:An:={mask:=mk [(6,[1,2,4,6,7,8])],merge:=mg [(3,22)],mv:=[23,24,30,39,49,53,55,57,58],sb:=mg [(51,6)]}
@[reducible] def HY:SD:=⟨B::DI::.ptr 2 0::B::.ptr 4 0::B::.ptr 6 0::.data false (.sl (.own (some 86016)) (.int .i64))::DI::bs 50 [],Z::Z::(some Y18)::Z::(some Y21)::Z::(some Y20)::zs 52 [],.none⟩
def Uq {R:Type}(X:SD.D HY)(K:Ex→AS→Option R):=Pu.eo (fun y0 y1 y2=>ke 0 K HY ((z1 (w y0 (u y1)) X.1),(z2 (u y2) X.2.1),X.2.2)) X.1.1 X.2.1.1 X.2.1.2.1
def aaA:aR:=cB HY Uq (fun X=>(X.1.2.1,q2 X,X.2.1.2.2.1))
def acE:aW:=(aW.nil).add 6 aaA
theorem Zb:cv E amk ahy acE (ai Tryz.f110 0):=lk HY Uq (fun X=>(X.1.2.1,q2 X,X.2.1.2.2.1)) fun X x=>((z1 (w x.1 (u x.2.1)) X.1),(z2 (u x.2.2) X.2.1),X.2.2)
theorem anB:aj Tryz.prog 110 ajM:=fk ahy ((((base.add yU).add o96).add aiL).add ab5) Tryz.func110 (Λ:=acE) (cF Zb nF)
def e27:ak:=af [pf bf] [(true,Y1)] (c1 Pu.kM)
theorem o27:aj Tryz.prog 27 e27:=f0 {mv:=[15,33,37,51,54,58]} ((((base.add o23).add o25).add anA).add anB) Tryz.func27
def adZ:ak:=af [pf aM] [(true,Y9),rB] (c1 Pu.jA)
theorem anC:aj Tryz.prog 111 adZ:=f0 {merge:=mg [(1,11)]} (base.add Tz) Tryz.func111
def akL:ak:=af [pd .str] [(true,(.pair (.int .i64) Y0)),rI,rB] (c1 Pu.fP)
theorem ao2:aj Tryz.prog 246 akL:=f0 {merge:=mg [(1,12)]} ((base.add LN).add Rk) Tryz.func246
def aey:ak:=af [pd (.sl au),pf (.sl .str),pI,pf aY] [(true,(.pair (.int .i64) Y0)),(true,Sh),rB] (c4 Pu.ic)
theorem aot:aj Tryz.prog 187 aey:=f0 {merge:=mg [(5,54)],sb:=mg [(8,8),(9,9)]} ((((base.add ab6).add WR).add ao2).add ai7) Tryz.func187
def YJ:ak:=af [pf a9,pI] [rI] (c2 Pu.fG)
theorem aiW:aj Tryz.prog 188 YJ:=f0 {merge:=mg [(1,15)]} ((base.add yU).add Re) Tryz.func188
def akQ:ak:=af [pd (.sl aE),pf dE] [rI] (c2 Pu.ma)
def amU:aO:=aO.nil
def aic:An:={mask:=mk [(2,[0,3,4,5])]}
@[reducible] def Ei:SD:=⟨.data false (.sl .arg aE)::B::B::.ptr 3 0::DI::DI::bs 14 [],Z::Z::Z::(some (.pair (.int .i64) Y0))::zs 16 [],.none⟩
def U8 {R:Type}(X:SD.D Ei)(K:Ex→AS→Option R):=Pu.ie (fun y0=>ke 0 K Ei ((z2 (u y0) X.1),X.2)) (fun y0 y1=>kr K Ei ((z1 (w y0 (u y1)) X.1),X.2)) X.1.1 X.1.2.1 X.2.1.1
def abh:aR:=cB Ei U8 q2
def adk:aW:=(aW.nil).add 2 abh
theorem ZS:cv E amU aic adk (ai Tryz.f253 0):=lk Ei U8 q2 fun X x=>((z2 (u x) X.1),X.2)
theorem ao7:aj Tryz.prog 253 akQ:=fk aic base Tryz.func253 (Λ:=adk) (cF ZS nF)
def aeA:ak:=af [pd (.sl aE),pf bM] [(false,(.sl (.own none) aE))] (c2 Pu.sC)
theorem aou:aj Tryz.prog 191 aeA:=f0 {merge:=mg [(17,84)],mv:=[16,31,53,60,69,85,139]} ((((base.add Ri).add ai6).add ao7).add Fj) Tryz.func191
def aeV:ak:=af [pf fT] [rI] (c1 Pu.mX)
theorem ai9:aj Tryz.prog 255 aeV:=f0 {} ((base.add LL).add TD) Tryz.func255
def aeW:ak:=af [pd (.sl au),pf (.sl .str),pI,pf fT,pd .str] [(true,(.sl (.own none) .str)),(true,Y0),rB] (c5 Pu.sF)
theorem ao8:aj Tryz.prog 256 aeW:=f0 {merge:=mg [(1,22)],mv:=[26,36,51],mb:=mg [(51,13)],sb:=mg [(10,10),(11,11),(13,13)]} ((((base.add Jk).add ai4).add ace).add ai9) Tryz.func256
def aeB:ak:=af [pd (.sl au),pf (.sl .str),pI,pf fT,pf a9] [(true,(.sl (.own none) .str)),(true,Y0),(true,Y8),rI] (c5 Pu.qM)
def amE:aO:=(((((((aO.nil.add 100 Sr).add 102 Qi).add 104 Ss).add 174 V9).add 188 YJ).add 255 aeV).add 256 aeW).add 257 aeX
def ahV:An:={mask:=mk [(6,[0,2,8,9,10,11,12,14,15,16])],merge:=mg [(4,32),(6,44)],mv:=[33,35,49,63,68,78,80],mb:=mg [(33,14),(35,15),(78,14),(80,15)],sb:=mg [(10,10),(11,11),(12,12),(18,18),(19,19)]}
@[reducible] def H9:SD:=⟨.data false (.sl .arg au)::B::DI::bs 5 (.ptr 8 0::.ptr 9 0::.ptr 10 0::.ptr 11 0::.ptr 12 0::B::.ptr 14 0::.ptr 15 0::DI::bs 65 []),zs 8 ((some Y0)::(some Y14)::(some (.sl (.own (some 122881)) .str))::(some Y0)::(some Y28)::Z::(some (.sl (.own (some 172033)) .str))::(some Y27)::zs 66 []),.none⟩
def UO {R:Type}(X:SD.D H9)(K:Ex→AS→Option R):=Pu.iK (fun y0 y1 y2 y3=>ke 0 K H9 ((z2 (u y0) X.1),(w y1 (z4 (w y2 (u y3))) X.2.1),X.2.2)) X.1.1 X.1.2.1 X.2.1.2.1 X.2.1.2.2.1 X.2.1.2.2.2.1 X.2.1.2.2.2.2.1
def aaY:aR:=cB H9 UO (fun X=>(q2 X,X.2.1.1,X.2.1.2.2.2.2.2.1,X.2.1.2.2.2.2.2.2.1))
def ac1:aW:=(aW.nil).add 6 aaY
theorem Zz:cv E amE ahV ac1 (ai Tryz.f192 0):=lk H9 UO (fun X=>(q2 X,X.2.1.1,X.2.1.2.2.2.2.2.1,X.2.1.2.2.2.2.2.2.1)) fun X x=>((z2 (u x.1) X.1),(w x.2.1 (z4 (w x.2.2.1 (u x.2.2.2))) X.2.1),X.2.2)
theorem aov:aj Tryz.prog 192 aeB:=fk ahV ((((((((base.add Re).add Jk).add TA).add LL).add aiW).add ai9).add ao8).add aja) Tryz.func192 (Λ:=ac1) (cF Zz nF)
def ad0:ak:=af [pd (.sl au),pf (.sl .str),pI,pf az,pf a9,pd (.sl aE),pI] [(true,(.sl (.own none) .str)),(true,Y7),(true,Y8),(false,(.sl (.own none) aE)),rI] (c7 Pu.ly)
def aml:aO:=(((((((((((aO.nil.add 24 KL).add 99 e99).add 100 Sr).add 102 Qi).add 104 Ss).add 175 Wa).add 187 aey).add 188 YJ).add 189 YK).add 190 aez).add 191 aeA).add 192 aeB
def ahz:An:={mask:=mk [(6,[0,2,6,8,10,14,15,16,19,20,21])],merge:=mg [(4,50),(14,102)],mv:=[54,55,106,114,128,130,131],mb:=mg [(54,20),(128,30),(130,20)],sb:=mg [(14,14),(15,15),(16,16)]}
@[reducible] def HZ:SD:=⟨.data false (.sl .arg au)::B::DI::B::B::B::DI::B::.ptr 8 0::B::.ptr 10 0::B::B::B::.ptr 14 0::.ptr 15 0::.ptr 16 0::B::B::.data false (.sl (.own (some 233472)) aE)::.ptr 20 0::DI::bs 111 [],zs 8 ((some (.sl .arg .str))::Z::(some Y7)::Z::Z::Z::(some (.sl (.own (some 172033)) .str))::(some Y7)::(some Y26)::Z::Z::Z::(some Y25)::zs 112 []),.none⟩
def Ur {R:Type}(X:SD.D HZ)(K:Ex→AS→Option R):=Pu.gJ (fun y0 y1 y2 y3=>ke 0 K HZ ((z3 (w y0 (u y1)) X.1),(z1 (w y2 (z3 (u y3))) X.2.1),X.2.2)) X.1.1 X.1.2.1 (q2 X) X.2.1.1 X.2.1.2.2.1 X.2.1.2.2.2.1 X.2.1.2.2.2.2.1
def aaB:aR:=cB HZ Ur (fun X=>(q3 X,q4 X,X.2.1.2.1,X.2.1.2.2.2.2.2.1))
def acF:aW:=(aW.nil).add 6 aaB
theorem Zc:cv E aml ahz acF (ai Tryz.f112 0):=lk HZ Ur (fun X=>(q3 X,q4 X,X.2.1.2.1,X.2.1.2.2.2.2.2.1)) fun X x=>((z3 (w x.1 (u x.2.1)) X.1),(z1 (w x.2.2.1 (z3 (u x.2.2.2))) X.2.1),X.2.2)
theorem anD:aj Tryz.prog 112 ad0:=fk ahz ((((((((((((base.add yU).add o99).add Re).add Jk).add TA).add ab5).add aot).add aiW).add WR).add ab7).add aou).add aov) Tryz.func112 (Λ:=acF) (cF Zc nF)
def ad1:ak:=af [pf aM] [(true,Y9)] (c1 Pu.rK)
theorem anE:aj Tryz.prog 113 ad1:=f0 {} ((base.add Tz).add ab8) Tryz.func113
def e28:ak:=af [pf bf,pI] [(true,Y1),rI] (c2 Pu.l6)
def g28:aO:=(((((aO.nil.add 23 e23).add 24 KL).add 25 e25).add 111 adZ).add 112 ad0).add 113 ad1
def n28:An:={mask:=mk [(6,[1,2,4,6,7,8])],merge:=mg [(3,25)],mv:=[26,66,85,87,88,90,100,102,124],sb:=mg [(11,11),(12,12),(13,13)]}
@[reducible] def OS:SD:=⟨B::DI::.ptr 2 0::B::.ptr 4 0::B::.ptr 6 0::DI::DI::bs 117 [],Z::Z::(some Y2)::Z::(some Y11)::Z::(some Y5)::zs 119 [],.none⟩
def XF {R:Type}(X:SD.D OS)(K:Ex→AS→Option R):=Pu.ia (fun y0 y1 y2=>ke 0 K OS ((z1 (w y0 (u y1)) X.1),(z2 (u y2) X.2.1),X.2.2)) X.1.1 X.2.1.1 X.2.1.2.1
def agG:aR:=cB OS XF (fun X=>(X.1.2.1,q2 X,X.2.1.2.2.1))
def L28:aW:=(aW.nil).add 6 agG
theorem afO:cv E g28 n28 L28 (ai Tryz.f28 0):=lk OS XF (fun X=>(X.1.2.1,q2 X,X.2.1.2.2.1)) fun X x=>((z1 (w x.1 (u x.2.1)) X.1),(z2 (u x.2.2) X.2.1),X.2.2)
theorem o28:aj Tryz.prog 28 e28:=fk n28 ((((((base.add o23).add yU).add o25).add anC).add anD).add anE) Tryz.func28 (Λ:=L28) (cF afO nF)
def ad2:ak:=af [pf aM] [(true,Y9)] (c1 Pu.nB)
theorem anF:aj Tryz.prog 114 ad2:=f0 {} ((base.add Tz).add ab8) Tryz.func114
def e29:ak:=af [pf bf] [(true,Y1)] (c1 Pu.qS)
def g29:aO:=((aO.nil.add 23 e23).add 25 e25).add 114 ad2
def n29:An:={mask:=mk [(3,[1,2,3,4])],merge:=mg [(3,15)],mv:=[28]}
@[reducible] def OT:SD:=⟨B::.ptr 1 0::.ptr 2 0::.ptr 3 0::DI::bs 24 [],Z::(some Y2)::(some Y3)::(some Y6)::zs 25 [],.none⟩
def XG {R:Type}(X:SD.D OT)(K:Ex→AS→Option R):=Pu.iO (fun y0 y1=>ke 0 K OT ((u y0 X.1),(z2 (u y1) X.2.1),X.2.2)) X.2.1.1 X.2.1.2.1
def agH:aR:=cB OT XG (fun X=>(X.1.1,X.2.1.2.2.1))
def L29:aW:=(aW.nil).add 3 agH
theorem afP:cv E g29 n29 L29 (ai Tryz.f29 0):=lk OT XG (fun X=>(X.1.1,X.2.1.2.2.1)) fun X x=>((u x.1 X.1),(z2 (u x.2) X.2.1),X.2.2)
theorem o29:aj Tryz.prog 29 e29:=fk n29 (((base.add o23).add o25).add anF) Tryz.func29 (Λ:=L29) (cF afP nF)
def e5:ak:=af [pf bf,pI,pI] [(true,Y1)] (c3 Pu.pE)
def g5:aO:=((((((aO.nil.add 23 e23).add 24 KL).add 25 e25).add 26 e26).add 27 e27).add 28 e28).add 29 e29
def n5:An:={mask:=mk [(5,[1,2,6,7,8])],merge:=mg [(1,23)],mv:=[34,41,42]}
@[reducible] def V3:SD:=⟨B::DI::DI::B::B::B::.ptr 6 0::.ptr 7 0::DI::bs 34 [],zs 6 ((some Y5)::(some Y10)::zs 35 []),.none⟩
def ajG {R:Type}(X:SD.D V3)(K:Ex→AS→Option R):=Pu.kJ (fun y0 y1=>ke 0 K V3 ((z2 (u y0) X.1),(z1 (u y1) X.2.1),X.2.2)) X.1.1 X.1.2.1 X.2.1.1
def ant:aR:=cB V3 ajG (fun X=>(q2 X,X.2.1.2.1))
def L5:aW:=(aW.nil).add 5 ant
theorem anr:cv E g5 n5 L5 (ai Tryz.f5 0):=lk V3 ajG (fun X=>(q2 X,X.2.1.2.1)) fun X x=>((z2 (u x.1) X.1),(z1 (u x.2) X.2.1),X.2.2)
theorem o5:aj Tryz.prog 5 e5:=fk n5 (((((((base.add o23).add yU).add o25).add o26).add o27).add o28).add o29) Tryz.func5 (Λ:=L5) (cF anr nF)
def e40:ak:=af [pd (.sl .str)] [(false,(.sl (.own none) .str))] (c1 Pu.pj)
def g40:aO:=aO.nil
def n40:An:={mask:=mk [(3,[0,3,4])],mv:=[21]}
@[reducible] def O0:SD:=⟨.data false (.sl .arg .str)::B::B::.data false (.sl (.own (some 36864)) .str)::DI::bs 17 [],zs 22 [],.none⟩
def XN {R:Type}(X:SD.D O0)(K:Ex→AS→Option R):=Pu.uK (fun y0 y1=>ke 0 K O0 ((z1 (w y0 (u y1)) X.1),X.2)) X.1.1
def agO:aR:=cB O0 XN (fun X=>(X.1.2.1,q2 X))
def L40:aW:=(aW.nil).add 3 agO
theorem afW:cv E g40 n40 L40 (ai Tryz.f40 0):=lk O0 XN (fun X=>(X.1.2.1,q2 X)) fun X x=>((z1 (w x.1 (u x.2)) X.1),X.2)
theorem o40:aj Tryz.prog 40 e40:=fk n40 base Tryz.func40 (Λ:=L40) (cF afW nF)
def e30:ak:=af [pf (.sl .str)] [(true,(.sl (.own none) .str))] (c1 Pu.mQ)
theorem o30:aj Tryz.prog 30 e30:=f0 {mv:=[8]} (base.add o40) Tryz.func30
def ad3:ak:=af [pf au] [(true,Y30)] (c1 Pu.ph)
theorem anG:aj Tryz.prog 115 ad3:=f0 {} base Tryz.func115
def e31:ak:=af [pd (.sl au)] [(false,(.sl (.own none) au))] (c1 Pu.sa)
def g31:aO:=aO.nil.add 115 ad3
def n31:An:={mask:=mk [(3,[0,3,4])],mv:=[22]}
@[reducible] def OU:SD:=⟨.data false (.sl .arg au)::B::B::.data false (.sl (.own (some 36864)) au)::DI::bs 18 [],zs 23 [],.none⟩
def XH {R:Type}(X:SD.D OU)(K:Ex→AS→Option R):=Pu.tP (fun y0 y1=>ke 0 K OU ((z1 (w y0 (u y1)) X.1),X.2)) X.1.1
def agI:aR:=cB OU XH (fun X=>(X.1.2.1,q2 X))
def L31:aW:=(aW.nil).add 3 agI
theorem afQ:cv E g31 n31 L31 (ai Tryz.f31 0):=lk OU XH (fun X=>(X.1.2.1,q2 X)) fun X x=>((z1 (w x.1 (u x.2)) X.1),X.2)
theorem o31:aj Tryz.prog 31 e31:=fk n31 (base.add anG) Tryz.func31 (Λ:=L31) (cF afQ nF)
def ajN:ak:=af [pf fT] [(true,Y0)] (c1 Pu.uH)
theorem aiM:aj Tryz.prog 116 ajN:=f0 {} base Tryz.func116
def e41:ak:=af [pd (.sl (.int .i64))] [(false,(.sl (.own none) (.int .i64)))] (c1 Pu.iX)
def g41:aO:=aO.nil
def n41:An:={mask:=mk [(3,[0,3,4])],mv:=[21]}
@[reducible] def O1:SD:=⟨.data false (.sl .arg (.int .i64))::B::B::.data false (.sl (.own (some 36864)) (.int .i64))::DI::bs 17 [],zs 22 [],.none⟩
def XO {R:Type}(X:SD.D O1)(K:Ex→AS→Option R):=Pu.xR (fun y0 y1=>ke 0 K O1 ((z1 (w y0 (u y1)) X.1),X.2)) X.1.1
def agP:aR:=cB O1 XO (fun X=>(X.1.2.1,q2 X))
def L41:aW:=(aW.nil).add 3 agP
theorem afX:cv E g41 n41 L41 (ai Tryz.f41 0):=lk O1 XO (fun X=>(X.1.2.1,q2 X)) fun X x=>((z1 (w x.1 (u x.2)) X.1),X.2)
theorem o41:aj Tryz.prog 41 e41:=fk n41 base Tryz.func41 (Λ:=L41) (cF afX nF)
def ad4:ak:=af [pf a9] [(true,Y8)] (c1 Pu.lj)
theorem aiN:aj Tryz.prog 117 ad4:=f0 {mv:=[17]} (base.add o41) Tryz.func117
def aeC:ak:=af [pf bJ] [(true,(.pair (.int .i64) (.pair (.int .i64) (.sl (.own none) (.int .i64)))))] (c1 Pu.nZ)
theorem aow:aj Tryz.prog 194 aeC:=f0 {mv:=[14]} (base.add o41) Tryz.func194
def ajO:ak:=af [pd (.sl bJ)] [(false,(.sl (.own none) bJ))] (c1 Pu.wF)
def amm:aO:=aO.nil.add 194 aeC
def ahA:An:={mask:=mk [(3,[0,3,4])],mv:=[22]}
@[reducible] def H0:SD:=⟨.data false (.sl .arg bJ)::B::B::.data false (.sl (.own (some 36864)) bJ)::DI::bs 18 [],zs 23 [],.none⟩
def Us {R:Type}(X:SD.D H0)(K:Ex→AS→Option R):=Pu.xu (fun y0 y1=>ke 0 K H0 ((z1 (w y0 (u y1)) X.1),X.2)) X.1.1
def aaC:aR:=cB H0 Us (fun X=>(X.1.2.1,q2 X))
def acG:aW:=(aW.nil).add 3 aaC
theorem Zd:cv E amm ahA acG (ai Tryz.f118 0):=lk H0 Us (fun X=>(X.1.2.1,q2 X)) fun X x=>((z1 (w x.1 (u x.2)) X.1),X.2)
theorem anH:aj Tryz.prog 118 ajO:=fk ahA (base.add aow) Tryz.func118 (Λ:=acG) (cF Zd nF)
def e32:ak:=af [pf bk] [(true,Y17)] (c1 Pu.ll)
theorem o32:aj Tryz.prog 32 e32:=f0 {mv:=[19]} (((base.add aiM).add aiN).add anH) Tryz.func32
def akg:ak:=af [pf aY] [(true,Sh)] (c1 Pu.eR)
theorem aox:aj Tryz.prog 195 akg:=f0 {} base Tryz.func195
def als:ak:=af [pf eF] [(true,(.pair (.int .i64) Y23))] (c1 Pu.tR)
theorem apH:aj Tryz.prog 316 als:=f0 {} base Tryz.func316
def akS:ak:=af [pf bM] [(true,Y4)] (c1 Pu.mR)
theorem ao9:aj Tryz.prog 258 akS:=f0 {} (base.add apH) Tryz.func258
def akh:ak:=af [pf rM] [(true,(.pair Y4 (.pair (.int .i64) (.int .i64))))] (c1 Pu.pk)
theorem aoy:aj Tryz.prog 196 akh:=f0 {} (base.add ao9) Tryz.func196
def ad5:ak:=af [pf az] [(true,Y7)] (c1 Pu.iA)
theorem anI:aj Tryz.prog 119 ad5:=f0 {} (((base.add aiM).add aox).add aoy) Tryz.func119
def e33:ak:=af [pd (.sl az)] [(false,(.sl (.own none) az))] (c1 Pu.sc)
def g33:aO:=aO.nil.add 119 ad5
def n33:An:={mask:=mk [(3,[0,3,4])],mv:=[22]}
@[reducible] def OV:SD:=⟨.data false (.sl .arg az)::B::B::.data false (.sl (.own (some 36864)) az)::DI::bs 18 [],zs 23 [],.none⟩
def XI {R:Type}(X:SD.D OV)(K:Ex→AS→Option R):=Pu.tQ (fun y0 y1=>ke 0 K OV ((z1 (w y0 (u y1)) X.1),X.2)) X.1.1
def agJ:aR:=cB OV XI (fun X=>(X.1.2.1,q2 X))
def L33:aW:=(aW.nil).add 3 agJ
theorem afR:cv E g33 n33 L33 (ai Tryz.f33 0):=lk OV XI (fun X=>(X.1.2.1,q2 X)) fun X x=>((z1 (w x.1 (u x.2)) X.1),X.2)
theorem o33:aj Tryz.prog 33 e33:=fk n33 (base.add anI) Tryz.func33 (Λ:=L33) (cF afR nF)
def e34:ak:=af [pd (.sl a9)] [(false,(.sl (.own none) a9))] (c1 Pu.wD)
def g34:aO:=aO.nil.add 117 ad4
def n34:An:={mask:=mk [(3,[0,3,4])],mv:=[22]}
@[reducible] def OW:SD:=⟨.data false (.sl .arg a9)::B::B::.data false (.sl (.own (some 36864)) a9)::DI::bs 18 [],zs 23 [],.none⟩
def XJ {R:Type}(X:SD.D OW)(K:Ex→AS→Option R):=Pu.xr (fun y0 y1=>ke 0 K OW ((z1 (w y0 (u y1)) X.1),X.2)) X.1.1
def agK:aR:=cB OW XJ (fun X=>(X.1.2.1,q2 X))
def L34:aW:=(aW.nil).add 3 agK
theorem afS:cv E g34 n34 L34 (ai Tryz.f34 0):=lk OW XJ (fun X=>(X.1.2.1,q2 X)) fun X x=>((z1 (w x.1 (u x.2)) X.1),X.2)
theorem o34:aj Tryz.prog 34 e34:=fk n34 (base.add aiN) Tryz.func34 (Λ:=L34) (cF afS nF)
def ad6:ak:=af [pf aM] [(true,Y9)] (c1 Pu.qI)
theorem anJ:aj Tryz.prog 120 ad6:=f0 {} base Tryz.func120
def e35:ak:=af [pd (.sl aM)] [(false,(.sl (.own none) aM))] (c1 Pu.tT)
def g35:aO:=aO.nil.add 120 ad6
def n35:An:={mask:=mk [(3,[0,3,4])],mv:=[22]}
@[reducible] def OX:SD:=⟨.data false (.sl .arg aM)::B::B::.data false (.sl (.own (some 36864)) aM)::DI::bs 18 [],zs 23 [],.none⟩
def XK {R:Type}(X:SD.D OX)(K:Ex→AS→Option R):=Pu.uL (fun y0 y1=>ke 0 K OX ((z1 (w y0 (u y1)) X.1),X.2)) X.1.1
def agL:aR:=cB OX XK (fun X=>(X.1.2.1,q2 X))
def L35:aW:=(aW.nil).add 3 agL
theorem afT:cv E g35 n35 L35 (ai Tryz.f35 0):=lk OX XK (fun X=>(X.1.2.1,q2 X)) fun X x=>((z1 (w x.1 (u x.2)) X.1),X.2)
theorem o35:aj Tryz.prog 35 e35:=fk n35 (base.add anJ) Tryz.func35 (Λ:=L35) (cF afT nF)
def e36:ak:=af [pd (.sl .bool)] [(false,(.sl (.own none) .bool))] (c1 Pu.wC)
def g36:aO:=aO.nil
def n36:An:={mask:=mk [(3,[0,3,4])],mv:=[21]}
@[reducible] def OY:SD:=⟨.data false (.sl .arg .bool)::B::B::.data false (.sl (.own (some 36864)) .bool)::DI::bs 17 [],zs 22 [],.none⟩
def XL {R:Type}(X:SD.D OY)(K:Ex→AS→Option R):=Pu.xq (fun y0 y1=>ke 0 K OY ((z1 (w y0 (u y1)) X.1),X.2)) X.1.1
def agM:aR:=cB OY XL (fun X=>(X.1.2.1,q2 X))
def L36:aW:=(aW.nil).add 3 agM
theorem afU:cv E g36 n36 L36 (ai Tryz.f36 0):=lk OY XL (fun X=>(X.1.2.1,q2 X)) fun X x=>((z1 (w x.1 (u x.2)) X.1),X.2)
theorem o36:aj Tryz.prog 36 e36:=fk n36 base Tryz.func36 (Λ:=L36) (cF afU nF)
def e37:ak:=af [pf cq] [(true,Y24)] (c1 Pu.mP)
theorem o37:aj Tryz.prog 37 e37:=f0 {mv:=[14]} (base.add o41) Tryz.func37
def aeD:ak:=af [pf cj] [(true,(.pair (.int .i64) (.pair (.int .i64) (.pair (.int .i64) Y29))))] (c1 Pu.uI)
theorem aoz:aj Tryz.prog 197 aeD:=f0 {} base Tryz.func197
def ajP:ak:=af [pd (.sl cj)] [(false,(.sl (.own none) cj))] (c1 Pu.wE)
def amn:aO:=aO.nil.add 197 aeD
def ahB:An:={mask:=mk [(3,[0,3,4])],mv:=[22]}
@[reducible] def H2:SD:=⟨.data false (.sl .arg cj)::B::B::.data false (.sl (.own (some 36864)) cj)::DI::bs 18 [],zs 23 [],.none⟩
def Ut {R:Type}(X:SD.D H2)(K:Ex→AS→Option R):=Pu.xt (fun y0 y1=>ke 0 K H2 ((z1 (w y0 (u y1)) X.1),X.2)) X.1.1
def aaD:aR:=cB H2 Ut (fun X=>(X.1.2.1,q2 X))
def acH:aW:=(aW.nil).add 3 aaD
theorem Ze:cv E amn ahB acH (ai Tryz.f121 0):=lk H2 Ut (fun X=>(X.1.2.1,q2 X)) fun X x=>((z1 (w x.1 (u x.2)) X.1),X.2)
theorem anK:aj Tryz.prog 121 ajP:=fk ahB (base.add aoz) Tryz.func121 (Λ:=acH) (cF Ze nF)
def akj:ak:=af [pf dE] [(true,(.pair (.int .i64) Y0))] (c1 Pu.uG)
theorem aiX:aj Tryz.prog 199 akj:=f0 {} base Tryz.func199
def aeY:ak:=af [pf br] [(true,(.pair (.int .i64) (.pair (.pair (.int .i64) Y0) (.int .i64))))] (c1 Pu.n0)
theorem apa:aj Tryz.prog 259 aeY:=f0 {} (base.add aiX) Tryz.func259
def aki:ak:=af [pd (.sl br)] [(false,(.sl (.own none) br))] (c1 Pu.wG)
def amF:aO:=aO.nil.add 259 aeY
def ahW:An:={mask:=mk [(3,[0,3,4])],mv:=[22]}
@[reducible] def Ia:SD:=⟨.data false (.sl .arg br)::B::B::.data false (.sl (.own (some 36864)) br)::DI::bs 18 [],zs 23 [],.none⟩
def UP {R:Type}(X:SD.D Ia)(K:Ex→AS→Option R):=Pu.xv (fun y0 y1=>ke 0 K Ia ((z1 (w y0 (u y1)) X.1),X.2)) X.1.1
def aaZ:aR:=cB Ia UP (fun X=>(X.1.2.1,q2 X))
def ac2:aW:=(aW.nil).add 3 aaZ
theorem ZA:cv E amF ahW ac2 (ai Tryz.f198 0):=lk Ia UP (fun X=>(X.1.2.1,q2 X)) fun X x=>((z1 (w x.1 (u x.2)) X.1),X.2)
theorem aoA:aj Tryz.prog 198 aki:=fk ahW (base.add apa) Tryz.func198 (Λ:=ac2) (cF ZA nF)
def ajQ:ak:=af [pf (.sl br)] [(true,(.sl (.own none) br))] (c1 Pu.iz)
theorem anL:aj Tryz.prog 122 ajQ:=f0 {mv:=[8]} (base.add aoA) Tryz.func122
def ajR:ak:=af [pf dA] [(true,(.pair .str (.sl (.own none) (.int .i64))))] (c1 Pu.mS)
theorem anM:aj Tryz.prog 123 ajR:=f0 {mv:=[11]} (base.add o41) Tryz.func123
def e38:ak:=af [pf bt] [(true,Y19)] (c1 Pu.jK)
theorem o38:aj Tryz.prog 38 e38:=f0 {mv:=[16]} (((base.add anK).add anL).add anM) Tryz.func38
def ad7:ak:=af [pf aE] [(true,(.pair (.pair (.int .i64) Y0) (.pair (.int .i64) (.pair .str .bool))))] (c1 Pu.jZ)
theorem anN:aj Tryz.prog 124 ad7:=f0 {} (base.add aiX) Tryz.func124
def e39:ak:=af [pd (.sl aE)] [(false,(.sl (.own none) aE))] (c1 Pu.tS)
def g39:aO:=aO.nil.add 124 ad7
def n39:An:={mask:=mk [(3,[0,3,4])],mv:=[22]}
@[reducible] def OZ:SD:=⟨.data false (.sl .arg aE)::B::B::.data false (.sl (.own (some 36864)) aE)::DI::bs 18 [],zs 23 [],.none⟩
def XM {R:Type}(X:SD.D OZ)(K:Ex→AS→Option R):=Pu.uJ (fun y0 y1=>ke 0 K OZ ((z1 (w y0 (u y1)) X.1),X.2)) X.1.1
def agN:aR:=cB OZ XM (fun X=>(X.1.2.1,q2 X))
def L39:aW:=(aW.nil).add 3 agN
theorem afV:cv E g39 n39 L39 (ai Tryz.f39 0):=lk OZ XM (fun X=>(X.1.2.1,q2 X)) fun X x=>((z1 (w x.1 (u x.2)) X.1),X.2)
theorem o39:aj Tryz.prog 39 e39:=fk n39 (base.add anN) Tryz.func39 (Λ:=L39) (cF afV nF)
def e42:ak:=af [pf dE] [(true,(.pair (.int .i64) Y0))] (c1 Pu.rZ)
theorem o42:aj Tryz.prog 42 e42:=f0 {} base Tryz.func42
def e6:ak:=af [pf bf] [(true,Y1)] (c1 Pu.iW)
theorem o6:aj Tryz.prog 6 e6:=f0 {mv:=[63]} (((((((((((((base.add o30).add o31).add o32).add o33).add o34).add o35).add o36).add o37).add o38).add o39).add o40).add o41).add o42) Tryz.func6
def aeb:ak:=af [pd (.sl .str)] [(false,(.sl (.own none) .str))] (c1 Pu.fw)
theorem aiP:aj Tryz.prog 132 aeb:=f0 {} base Tryz.func132
def Qj:ak:=af [pf (.sl .str)] [(true,(.sl (.own none) .str))] (c1 Pu.bQ)
theorem LJ:aj Tryz.prog 125 Qj:=f0 {} (base.add aiP) Tryz.func125
def ad8:ak:=af [pd (.sl au)] [(false,(.sl (.own none) au))] (c1 Pu.oH)
theorem anO:aj Tryz.prog 126 ad8:=f0 {} base Tryz.func126
def V8:ak:=af [pd (.sl (.int .i64))] [(false,(.sl (.own none) (.int .i64)))] (c1 Pu.cW)
theorem Rf:aj Tryz.prog 133 V8:=f0 {} base Tryz.func133
def V7:ak:=af [pf a9] [(true,Y8)] (c1 Pu.dI)
theorem TB:aj Tryz.prog 128 V7:=f0 {mv:=[7]} (base.add Rf) Tryz.func128
def aeE:ak:=af [pd (.sl bJ)] [(false,(.sl (.own none) bJ))] (c1 Pu.mH)
def amG:aO:=aO.nil.add 133 V8
def ahX:An:={mask:=mk [(3,[3,7,8,9])],mv:=[13,25]}
@[reducible] def Ib:SD:=⟨B::B::B::.data false (.sl (.own (some 36864)) bJ)::B::B::B::.data false (.sl .arg bJ)::DI::DI::bs 16 [],zs 26 [],.none⟩
def UQ {R:Type}(X:SD.D Ib)(K:Ex→AS→Option R):=Pu.lT (fun y0 y1=>ke 0 K Ib ((w y0 (z2 (u y1)) X.1),X.2)) X.1.2.1 (q2 X)
def aa0:aR:=cB Ib UQ (fun X=>(X.1.1,q3 X))
def ac3:aW:=(aW.nil).add 3 aa0
theorem ZB:cv E amG ahX ac3 (ai Tryz.f200 0):=lk Ib UQ (fun X=>(X.1.1,q3 X)) fun X x=>((w x.1 (z2 (u x.2)) X.1),X.2)
theorem aiY:aj Tryz.prog 200 aeE:=fk ahX (base.add Rf) Tryz.func200 (Λ:=ac3) (cF ZB nF)
def YD:ak:=af [pf bk] [(true,Y17)] (c1 Pu.rl)
theorem aiO:aj Tryz.prog 127 YD:=f0 {sb:=mg [(2,2)]} ((base.add TB).add aiY) Tryz.func127
def ad9:ak:=af [pf cq] [(true,Y24)] (c1 Pu.nd)
theorem anP:aj Tryz.prog 129 ad9:=f0 {mv:=[7]} (base.add Rf) Tryz.func129
def akk:ak:=af [pf (.sl br)] [(true,(.sl (.own none) br))] (c1 Pu.oI)
theorem aoB:aj Tryz.prog 201 akk:=f0 {} base Tryz.func201
def akl:ak:=af [pf dA] [(true,(.pair .str (.sl (.own none) (.int .i64))))] (c1 Pu.nf)
theorem aoC:aj Tryz.prog 202 akl:=f0 {sb:=mg [(2,2)]} (base.add Rf) Tryz.func202
def aea:ak:=af [pf bt] [(true,Y19)] (c1 Pu.kE)
theorem anQ:aj Tryz.prog 130 aea:=f0 {sb:=mg [(2,2)]} ((base.add aoB).add aoC) Tryz.func130
def YE:ak:=af [pd (.sl aE)] [(false,(.sl (.own none) aE))] (c1 Pu.fu)
theorem ab2:aj Tryz.prog 131 YE:=f0 {} base Tryz.func131
def e43:ak:=af [pf bf] [(true,Y1)] (c1 Pu.ff)
def g43:aO:=((((((((aO.nil.add 125 Qj).add 126 ad8).add 127 YD).add 128 V7).add 129 ad9).add 130 aea).add 131 YE).add 132 aeb).add 133 V8
def n43:An:={mask:=mk [(8,[1,2,3,27,28,29])],mv:=[34,75],mb:=mg [(34,3)],sb:=mg [(39,3)]}
@[reducible] def O2:SD:=⟨B::.ptr 1 0::.ptr 2 0::.ptr 3 0::bs 23 (.data false (.sl .arg a9)::DI::DI::bs 46 []),Z::(some Y2)::(some Y3)::(some Y13)::zs 72 [],.none⟩
def XP {R:Type}(X:SD.D O2)(K:Ex→AS→Option R):=Pu.lS (fun y0 y1=>ke 0 K O2 ((z2 (u y0) X.1),(z2 (u y1) X.2.1),X.2.2)) X.1.1 X.1.2.1 X.2.1.1 X.2.1.2.1
def agQ:aR:=cB O2 XP (fun X=>(q2 X,X.2.1.2.2.1))
def L43:aW:=(aW.nil).add 8 agQ
theorem afY:cv E g43 n43 L43 (ai Tryz.f43 0):=lk O2 XP (fun X=>(q2 X,X.2.1.2.2.1)) fun X x=>((z2 (u x.1) X.1),(z2 (u x.2) X.2.1),X.2.2)
theorem o43:aj Tryz.prog 43 e43:=fk n43 (((((((((base.add LJ).add anO).add aiO).add TB).add anP).add anQ).add ab2).add aiP).add Rf) Tryz.func43 (Λ:=L43) (cF afY nF)
def KM:ak:=af [pI,pI,pI] [rB] (c3 Pu.ah)
theorem yV:aj Tryz.prog 45 KM:=f0 {merge:=mg [(1,6)]} base Tryz.func45
def YF:ak:=af [pf (.sl .str)] [rB] (c1 Pu.mD)
def amo:aO:=aO.nil
def ahC:An:={mask:=mk [(2,[1,2,6,7,8])]}
@[reducible] def DU:SD:=⟨B::.ptr 1 0::DB::B::B::B::.data false (.sl .arg .str)::DI::DI::bs 11 [],Z::(some (.sl .arg .str))::zs 18 [],.none⟩
def Uu {R:Type}(X:SD.D DU)(K:Ex→AS→Option R):=Pu.vk (fun y0=>ke 0 K DU ((z3 (u y0) X.1),X.2)) (fun y0 y1=>kr K DU ((w y0 (z2 (u y1)) X.1),X.2)) X.1.1 X.1.2.1 (q2 X) X.2.1.1
def aaE:aR:=cB DU Uu q3
def acI:aW:=(aW.nil).add 2 aaE
theorem Zf:cv E amo ahC acI (ai Tryz.f134 0):=lk DU Uu q3 fun X x=>((z3 (u x) X.1),X.2)
theorem ab3:aj Tryz.prog 134 YF:=fk ahC base Tryz.func134 (Λ:=acI) (cF Zf nF)
def aeF:ak:=af [pd (.sl au),pI,pI] [rI] (c3 Pu.iv)
def amH:aO:=aO.nil
def ahY:An:={mask:=mk [(2,[1,2,6,9,10,11])],merge:=mg [(4,25)]}
@[reducible] def D7:SD:=⟨B::DI::DI::B::B::B::DI::B::B::.data false (.sl .arg au)::DI::DI::bs 16 [],zs 28 [],.none⟩
def UR {R:Type}(X:SD.D D7)(K:Ex→AS→Option R):=Pu.hU (fun y0=>ke 0 K D7 ((z5 (u y0) X.1),X.2)) (fun y0 y1=>kr K D7 ((z2 (w y0 (z2 (u y1))) X.1),X.2)) X.1.1 X.1.2.1 (q2 X) (q3 X) (q4 X)
def aa1:aR:=cB D7 UR q5
def ac4:aW:=(aW.nil).add 2 aa1
theorem ZC:cv E amH ahY ac4 (ai Tryz.f203 0):=lk D7 UR q5 fun X x=>((z5 (u x) X.1),X.2)
theorem aiZ:aj Tryz.prog 203 aeF:=fk ahY base Tryz.func203 (Λ:=ac4) (cF ZC nF)
def YG:ak:=af [pd (.sl au)] [rB] (c1 Pu.jI)
def amp:aO:=(aO.nil.add 45 KM).add 203 aeF
def ahD:An:={mask:=mk [(2,[0,2,5,6,7])],merge:=mg [(4,37)]}
@[reducible] def DV:SD:=⟨.data false (.sl .arg au)::B::DB::B::B::.data false (.sl .arg au)::DI::DI::bs 34 [],zs 42 [],.none⟩
def Uv {R:Type}(X:SD.D DV)(K:Ex→AS→Option R):=Pu.jf (fun y0=>ke 0 K DV ((z4 (u y0) X.1),X.2)) (fun y0 y1=>kr K DV ((z1 (w y0 (z2 (u y1))) X.1),X.2)) X.1.1 X.1.2.1 (q2 X) (q3 X)
def aaF:aR:=cB DV Uv q4
def acJ:aW:=(aW.nil).add 2 aaF
theorem Zg:cv E amp ahD acJ (ai Tryz.f135 0):=lk DV Uv q4 fun X x=>((z4 (u x) X.1),X.2)
theorem aiQ:aj Tryz.prog 135 YG:=fk ahD ((base.add yV).add aiZ) Tryz.func135 (Λ:=acJ) (cF Zg nF)
def St:ak:=af [pf a9] [rB] (c1 Pu.fe)
def ams:aO:=aO.nil.add 45 KM
def ahG:An:={mask:=mk [(5,[1,2,3,26,27,28])],merge:=mg [(1,21),(7,43)]}
@[reducible] def DY:SD:=⟨B::.ptr 1 0::DB::.data false (.sl (.own (some 36864)) .bool)::bs 22 (.data false (.sl .arg (.int .i64))::DI::DI::bs 19 []),Z::(some Y14)::zs 46 [],.none⟩
def Uy {R:Type}(X:SD.D DY)(K:Ex→AS→Option R):=Pu.oD (fun y0 y1=>ke 0 K DY ((z1 (w y0 (z2 (u y1))) X.1),X.2)) (fun y0 y1 y2=>kr K DY ((w y0 (w y1 (z2 (u y2))) X.1),X.2)) X.1.1 (q2 X) (q3 X) X.2.1.1
def aaI:aR:=cB DY Uy (fun X=>(X.1.2.1,q4 X))
def acM:aW:=(aW.nil).add 5 aaI
theorem Zj:cv E ams ahG acM (ai Tryz.f139 0):=lk DY Uy (fun X=>(X.1.2.1,q4 X)) fun X x=>((z1 (w x.1 (z2 (u x.2))) X.1),X.2)
theorem Rg:aj Tryz.prog 139 St:=fk ahG (base.add yV) Tryz.func139 (Λ:=acM) (cF Zj nF)
def akT:ak:=af [pI] [rB] (c1 Pu.mJ)
theorem acf:aj Tryz.prog 260 akT:=f0 {merge:=mg [(1,2)]} base Tryz.func260
def YL:ak:=af [pI,pI] [rI] (c2 Pu.dx)
theorem WS:aj Tryz.prog 214 YL:=f0 {} base Tryz.func214
def aeZ:ak:=af [pf fT] [rI] (c1 Pu.dH)
theorem TE:aj Tryz.prog 261 aeZ:=f0 {} ((base.add WS).add acf) Tryz.func261
def Wb:ak:=af [pf fT] [rB] (c1 Pu.dR)
theorem LM:aj Tryz.prog 204 Wb:=f0 {merge:=mg [(1,2)]} (((base.add yV).add acf).add TE) Tryz.func204
def Wc:ak:=af [pf a9,pd (.sl (.int .i64))] [(true,Y8),rB] (c2 Pu.cx)
theorem ab9:aj Tryz.prog 205 Wc:=f0 {merge:=mg [(3,21)],mv:=[10,24]} ((base.add TB).add Rg) Tryz.func205
def YH:ak:=af [pf bk] [rB] (c1 Pu.vm)
def amq:aO:=(((aO.nil.add 45 KM).add 139 St).add 204 Wb).add 205 Wc
def ahE:An:={mask:=mk [(6,[1,2,3,4,30,31,32])],merge:=mg [(1,24),(8,50)],mv:=[55]}
@[reducible] def DW:SD:=⟨B::.ptr 1 0::DB::DI::.data false (.sl (.own (some 49152)) (.int .i64))::bs 25 (.data false (.sl .arg bJ)::DI::DI::bs 35 []),Z::(some Y18)::zs 66 [],.none⟩
def Uw {R:Type}(X:SD.D DW)(K:Ex→AS→Option R):=Pu.oG (fun y0 y1 y2=>ke 0 K DW ((z1 (w y0 (w y1 (z2 (u y2)))) X.1),X.2)) (fun y0 y1 y2 y3=>kr K DW ((w y0 (w y1 (w y2 (z2 (u y3)))) X.1),X.2)) X.1.1 (q3 X) (q4 X) X.2.1.1
def aaG:aR:=cB DW Uw (fun X=>(X.1.2.1,q2 X,q5 X))
def acK:aW:=(aW.nil).add 6 aaG
theorem Zh:cv E amq ahE acK (ai Tryz.f136 0):=lk DW Uw (fun X=>(X.1.2.1,q2 X,q5 X)) fun X x=>((z1 (w x.1 (w x.2.1 (z2 (u x.2.2)))) X.1),X.2)
theorem aiR:aj Tryz.prog 136 YH:=fk ahE ((((base.add yV).add Rg).add LM).add ab9) Tryz.func136 (Λ:=acK) (cF Zh nF)
def aec:ak:=af [pf cq] [rB] (c1 Pu.qm)
def amr:aO:=aO.nil.add 45 KM
def ahF:An:={mask:=mk [(2,[1,2,6,7,8])],merge:=mg [(4,29),(7,2)]}
@[reducible] def DX:SD:=⟨B::.ptr 1 0::DB::B::B::B::.data false (.sl .arg (.int .i64))::DI::DI::bs 31 [],Z::(some (.pair (.int .i64) (.pair .bool (.sl .arg (.int .i64)))))::zs 38 [],.none⟩
def Ux {R:Type}(X:SD.D DX)(K:Ex→AS→Option R):=Pu.lJ (fun y0=>ke 0 K DX ((z3 (u y0) X.1),X.2)) (fun y0 y1=>kr K DX ((w y0 (z2 (u y1)) X.1),X.2)) X.1.1 X.1.2.1 (q2 X) X.2.1.1
def aaH:aR:=cB DX Ux q3
def acL:aW:=(aW.nil).add 2 aaH
theorem Zi:cv E amr ahF acL (ai Tryz.f137 0):=lk DX Ux q3 fun X x=>((z3 (u x) X.1),X.2)
theorem anR:aj Tryz.prog 137 aec:=fk ahF (base.add yV) Tryz.func137 (Λ:=acL) (cF Zi nF)
def akm:ak:=af [pf aY] [rB] (c1 Pu.ji)
theorem aca:aj Tryz.prog 206 akm:=f0 {merge:=mg [(1,2)]} ((base.add yV).add acf) Tryz.func206
def akU:ak:=af [pf eF] [rB] (c1 Pu.kZ)
theorem ajb:aj Tryz.prog 262 akU:=f0 {merge:=mg [(1,18),(5,2),(7,2)]} (base.add yV) Tryz.func262
def akV:ak:=af [pI] [rB] (c1 Pu.oN)
theorem apb:aj Tryz.prog 263 akV:=f0 {merge:=mg [(1,2)]} base Tryz.func263
def aeG:ak:=af [pf bM] [rB] (c1 Pu.eQ)
theorem Rj:aj Tryz.prog 207 aeG:=f0 {merge:=mg [(1,2)]} (((base.add yV).add ajb).add apb) Tryz.func207
def YI:ak:=af [pf az] [rB] (c1 Pu.sY)
theorem ab4:aj Tryz.prog 138 YI:=f0 {merge:=mg [(1,42),(5,2)]} ((((base.add yV).add LM).add aca).add Rj) Tryz.func138
def akn:ak:=af [pf aM] [rB] (c1 Pu.vn)
theorem ai0:aj Tryz.prog 208 akn:=f0 {merge:=mg [(1,2)]} base Tryz.func208
def aed:ak:=af [pf aM] [rB] (c1 Pu.gO)
theorem TC:aj Tryz.prog 140 aed:=f0 {merge:=mg [(1,24),(3,2)]} ((base.add yV).add ai0) Tryz.func140
def ae0:ak:=af [pf cj] [rB] (c1 Pu.CB)
theorem apc:aj Tryz.prog 264 ae0:=f0 {merge:=mg [(1,33),(3,54),(5,2)]} (base.add yV) Tryz.func264
def aeH:ak:=af [pd (.sl cj)] [rB] (c1 Pu.wa)
def amI:aO:=aO.nil.add 264 ae0
def ahZ:An:={mask:=mk [(2,[0,2,5,6,7])]}
@[reducible] def D8:SD:=⟨.data false (.sl .arg cj)::B::DB::B::B::.data false (.sl .arg cj)::DI::DI::bs 10 [],zs 18 [],.none⟩
def US {R:Type}(X:SD.D D8)(K:Ex→AS→Option R):=Pu.xi (fun y0=>ke 0 K D8 ((z4 (u y0) X.1),X.2)) (fun y0 y1=>kr K D8 ((z1 (w y0 (z2 (u y1))) X.1),X.2)) X.1.1 X.1.2.1 (q2 X) (q3 X)
def aa2:aR:=cB D8 US q4
def ac5:aW:=(aW.nil).add 2 aa2
theorem ZD:cv E amI ahZ ac5 (ai Tryz.f209 0):=lk D8 US q4 fun X x=>((z4 (u x) X.1),X.2)
theorem aoD:aj Tryz.prog 209 aeH:=fk ahZ (base.add apc) Tryz.func209 (Λ:=ac5) (cF ZD nF)
def ae1:ak:=af [pf (.sl br),pf dE] [rI] (c2 Pu.uz)
def amV:aO:=aO.nil
def aid:An:={mask:=mk [(2,[3,4,8,9,10])],merge:=mg [(4,23)]}
@[reducible] def Ej:SD:=⟨B::B::B::.ptr 3 0::DI::B::B::B::.data false (.sl .arg br)::DI::DI::bs 15 [],Z::Z::Z::(some (.pair (.int .i64) Y0))::zs 22 [],.none⟩
def U9 {R:Type}(X:SD.D Ej)(K:Ex→AS→Option R):=Pu.oL (fun y0=>ke 0 K Ej ((z3 (u y0) X.1),X.2)) (fun y0 y1=>kr K Ej ((w y0 (z2 (u y1)) X.1),X.2)) X.1.1 X.1.2.1 (q2 X) X.2.1.1
def abi:aR:=cB Ej U9 q3
def adl:aW:=(aW.nil).add 2 abi
theorem ZT:cv E amV aid adl (ai Tryz.f265 0):=lk Ej U9 q3 fun X x=>((z3 (u x) X.1),X.2)
theorem apd:aj Tryz.prog 265 ae1:=fk aid base Tryz.func265 (Λ:=adl) (cF ZT nF)
def afh:ak:=af [pf dE] [rI] (c1 Pu.qp)
def ana:aO:=aO.nil.add 214 YL
def ait:An:={mask:=mk [(3,[3,16,17,18])]}
@[reducible] def Iu:SD:=⟨B::B::B::DI::bs 12 (.data false (.sl (.own (some 196608)) (.int .i64))::DI::DI::bs 10 []),zs 29 [],.none⟩
def Vp {R:Type}(X:SD.D Iu)(K:Ex→AS→Option R):=Pu.ir (fun y0 y1=>ke 0 K Iu ((w y0 (z2 (u y1)) X.1),X.2)) X.1.2.1 (q2 X)
def abz:aR:=cB Iu Vp (fun X=>(X.1.1,q3 X))
def adA:aW:=(aW.nil).add 3 abz
theorem Z9:cv E ana ait adA (ai Tryz.f317 0):=lk Iu Vp (fun X=>(X.1.1,q3 X)) fun X x=>((w x.1 (z2 (u x.2)) X.1),X.2)
theorem apI:aj Tryz.prog 317 afh:=fk ait (base.add WS) Tryz.func317 (Λ:=adA) (cF Z9 nF)
def ae2:ak:=af [pf dE] [(false,(.sl (.own none) (.int .i64)))] (c1 Pu.wh)
def amW:aO:=aO.nil.add 317 afh
def aie:An:={mask:=mk [(3,[1,3,4])],mv:=[10,18]}
@[reducible] def Ij:SD:=⟨B::.ptr 1 0::B::.data false (.sl (.own (some 36864)) (.int .i64))::DI::bs 14 [],Z::(some (.pair (.int .i64) Y0))::zs 17 [],.none⟩
def Va {R:Type}(X:SD.D Ij)(K:Ex→AS→Option R):=Pu.mK (fun y0 y1=>ke 0 K Ij ((w y0 (u y1) X.1),X.2)) X.2.1.1
def abj:aR:=cB Ij Va (fun X=>(X.1.1,X.1.2.1))
def adm:aW:=(aW.nil).add 3 abj
theorem ZU:cv E amW aie adm (ai Tryz.f266 0):=lk Ij Va (fun X=>(X.1.1,X.1.2.1)) fun X x=>((w x.1 (u x.2) X.1),X.2)
theorem ape:aj Tryz.prog 266 ae2:=fk aie (base.add apI) Tryz.func266 (Λ:=adm) (cF ZU nF)
def aeI:ak:=af [pf (.sl br)] [rB] (c1 Pu.oE)
def afB:aO:=((aO.nil.add 45 KM).add 265 ae1).add 266 ae2
def abX:An:={mask:=mk [(4,[1,2,12,13,14]),(14,[1,2,3,12,13,14,49,50,51])],merge:=mg [(6,28),(9,40)]}
@[reducible] def Am:SD:=⟨B::.ptr 1 0::DB::DI::bs 8 (.data false (.sl .arg br)::DI::DI::bs 34 (.data false (.sl (.own (some 602112)) (.int .i64))::DI::DI::bs 15 [])),Z::(some (.sl .arg br))::zs 65 [],.none⟩
def PW {R:Type}(X:SD.D Am)(K:Ex→AS→Option R):=Pu.ft (fun y0=>ke 2 K Am ((z7 (u y0) X.1),X.2)) (fun y0 y1=>kr K Am ((w y0 (z6 (u y1)) X.1),X.2)) X.1.1 X.1.2.1 (q2 X) (q3 X) (q4 X) (q5 X) (q6 X) X.2.1.1
def WI:aR:=cB Am PW q7
@[reducible] def D9:SD:=⟨B::.ptr 1 0::DB::bs 9 (.data false (.sl .arg br)::DI::DI::bs 52 []),Z::(some (.sl .arg br))::zs 65 [],.none⟩
def UT {R:Type}(X:SD.D D9)(K:Ex→AS→Option R):=Pu.na (fun y0=>ke 0 K D9 ((z3 (u y0) X.1),X.2)) (fun y0 y1=>kr K D9 ((w y0 (z2 (u y1)) X.1),X.2)) X.1.1 X.1.2.1 (q2 X) X.2.1.1
def aa3:aR:=cB D9 UT q3
def Yr:aW:=((aW.nil).add 14 WI).add 4 aa3
theorem WD:cv E afB abX Yr (ai Tryz.f210 1):=lk Am PW q7 fun X x=>((z7 (u x) X.1),X.2)
theorem ZE:cv E afB abX Yr (ai Tryz.f210 0):=lk D9 UT q3 fun X x=>((z3 (u x) X.1),X.2)
theorem aoE:aj Tryz.prog 210 aeI:=fk abX (((base.add yV).add apd).add ape) Tryz.func210 (Λ:=Yr) (cF ZE (cF WD nF))
def ae3:ak:=af [pI] [rB] (c1 Pu.xP)
theorem apf:aj Tryz.prog 267 ae3:=f0 {merge:=mg [(1,2)]} base Tryz.func267
def aeJ:ak:=af [pf dA,pI] [rB] (c2 Pu.uU)
def amJ:aO:=(aO.nil.add 45 KM).add 267 ae3
def ah0:An:={mask:=mk [(4,[1,4,24,25,26])],merge:=mg [(1,22)]}
@[reducible] def Ea:SD:=⟨B::DI::B::B::DB::bs 19 (.data false (.sl .arg (.int .i64))::DI::DI::bs 9 []),zs 36 [],.none⟩
def UU {R:Type}(X:SD.D Ea)(K:Ex→AS→Option R):=Pu.vl (fun y0=>ke 0 K Ea ((z4 (u y0) X.1),X.2)) (fun y0 y1=>kr K Ea ((z1 (w y0 (z2 (u y1))) X.1),X.2)) X.1.1 X.1.2.1 (q2 X) (q3 X)
def aa4:aR:=cB Ea UU q4
def ac6:aW:=(aW.nil).add 4 aa4
theorem ZF:cv E amJ ah0 ac6 (ai Tryz.f211 0):=lk Ea UU q4 fun X x=>((z4 (u x) X.1),X.2)
theorem aoF:aj Tryz.prog 211 aeJ:=fk ah0 ((base.add yV).add apf) Tryz.func211 (Λ:=ac6) (cF ZF nF)
def aee:ak:=af [pf bt,pI] [rB] (c2 Pu.m9)
def afx:aO:=((aO.nil.add 209 aeH).add 210 aeI).add 211 aeJ
def abW:An:={mask:=mk [(4,[1,2,4,27,28,29]),(10,[1,4,45,46,47])],merge:=mg [(1,25),(6,41),(12,59)]}
@[reducible] def DZ:SD:=⟨B::DI::.ptr 2 0::B::DB::bs 22 (.data false (.sl .arg cj)::DI::DI::bs 31 []),Z::Z::(some Y22)::zs 58 [],.none⟩
def Uz {R:Type}(X:SD.D DZ)(K:Ex→AS→Option R):=Pu.jj (fun y0=>ke 0 K DZ ((z4 (u y0) X.1),X.2)) (fun y0 y1=>kr K DZ ((z1 (w y0 (z2 (u y1))) X.1),X.2)) X.1.1 X.1.2.1 (q2 X) (q3 X) X.2.1.1
def aaJ:aR:=cB DZ Uz q4
@[reducible] def Al:SD:=⟨B::DI::B::B::DB::bs 40 (.data false (.sl .arg br)::DI::DI::bs 13 []),zs 61 [],.none⟩
def PV {R:Type}(X:SD.D Al)(K:Ex→AS→Option R):=Pu.g8 (fun y0=>ke 2 K Al ((z4 (u y0) X.1),X.2)) (fun y0 y1=>kr K Al ((z1 (w y0 (z2 (u y1))) X.1),X.2)) X.1.1 X.1.2.1 (q2 X) (q3 X)
def WH:aR:=cB Al PV q4
def Yq:aW:=((aW.nil).add 4 aaJ).add 10 WH
theorem Zk:cv E afx abW Yq (ai Tryz.f141 0):=lk DZ Uz q4 fun X x=>((z4 (u x) X.1),X.2)
theorem WC:cv E afx abW Yq (ai Tryz.f141 1):=lk Al PV q4 fun X x=>((z4 (u x) X.1),X.2)
theorem anS:aj Tryz.prog 141 aee:=fk abW (((base.add aoD).add aoE).add aoF) Tryz.func141 (Λ:=Yq) (cF Zk (cF WC nF))
def e44:ak:=af [pf bf] [rB] (c1 Pu.iT)
def g44:aO:=((((((((aO.nil.add 45 KM).add 134 YF).add 135 YG).add 136 YH).add 137 aec).add 138 YI).add 139 St).add 140 aed).add 141 aee
def n44:An:={mask:=mk [(5,[1,2,3,61,62]),(12,[1,2,3,103,104,105])],merge:=mg [(2,58),(7,89)]}
@[reducible] def Kk:SD:=⟨B::.ptr 1 0::DB::DI::bs 57 (DI::DI::bs 54 []),Z::(some Y2)::zs 115 [],.none⟩
def XQ {R:Type}(X:SD.D Kk)(K:Ex→AS→Option R):=Pu.oA (fun y0=>ke 0 K Kk ((z3 (u y0) X.1),X.2)) (fun y0 y1=>kr K Kk ((w y0 (z2 (u y1)) X.1),X.2)) X.1.1 X.1.2.1 (q2 X) X.2.1.1
def agR:aR:=cB Kk XQ q3
@[reducible] def Eu:SD:=⟨B::.ptr 1 0::DB::DI::bs 99 (.data false (.sl (.own (some 1265664)) (.int .i64))::DI::DI::bs 11 []),Z::(some Y2)::zs 115 [],.none⟩
def VK {R:Type}(X:SD.D Eu)(K:Ex→AS→Option R):=Pu.m7 (fun y0=>ke 2 K Eu ((z4 (u y0) X.1),X.2)) (fun y0 y1=>kr K Eu ((w y0 (z3 (u y1)) X.1),X.2)) X.1.1 X.1.2.1 (q2 X) (q3 X) X.2.1.1
def abU:aR:=cB Eu VK q4
def L44:aW:=((aW.nil).add 5 agR).add 12 abU
theorem afZ:cv E g44 n44 L44 (ai Tryz.f44 0):=lk Kk XQ q3 fun X x=>((z3 (u x) X.1),X.2)
theorem aau:cv E g44 n44 L44 (ai Tryz.f44 1):=lk Eu VK q4 fun X x=>((z4 (u x) X.1),X.2)
theorem o44:aj Tryz.prog 44 e44:=fk n44 (((((((((base.add yV).add ab3).add aiQ).add aiR).add anR).add ab4).add Rg).add TC).add anS) Tryz.func44 (Λ:=L44) (cF afZ (cF aau nF))
def afo:ak:=af [pd (.sl au),pI,pI,pd .bool] [rI] (c4 Pu.wg)
theorem ap6:aj Tryz.prog 360 afo:=f0 {merge:=mg [(4,29)]} (base.add aiZ) Tryz.func360
def We:ak:=af [pf (.sl .str),pI,pI] [rB] (c3 Pu.nW)
theorem aco:aj Tryz.prog 361 We:=f0 {merge:=mg [(2,6)]} (base.add ab3) Tryz.func361
def YQ:ak:=af [pd (.sl au),pf (.sl .str),pI,pI,pI,pd .bool] [(false,(.sl (.own none) dc)),rB] (c6 Pu.rp)
def anb:aO:=((((aO.nil.add 45 KM).add 134 YF).add 135 YG).add 360 afo).add 361 We
def aiu:An:={mask:=mk [(8,[0,2,3,4,5,7,12,13,14])],merge:=mg [(1,29),(11,55),(16,73)],mv:=[56,74]}
@[reducible] def Er:SD:=⟨.data false (.sl .arg au)::B::DI::DI::DI::DB::B::.ptr 7 0::bs 4 (.data false (.sl (.own (some 147456)) dc)::DB::.data false (.sl (.own (some 172032)) dc)::bs 60 []),zs 7 ((some (.sl .arg .str))::zs 67 []),.none⟩
def Vq {R:Type}(X:SD.D Er)(K:Ex→AS→Option R):=Pu.k6 (fun y0 y1 y2=>ke 0 K Er ((z2 (w y0 (w y1 (z3 (u y2)))) X.1),X.2)) (fun y0 y1 y2 y3 y4=>kr K Er ((z2 (w y0 (w y1 (z1 (w y2 (w y3 (u y4)))))) X.1),X.2)) X.1.1 X.1.2.1 (q4 X) (q5 X) (q6 X) X.2.1.1
def abA:aR:=cB Er Vq (fun X=>(q2 X,q3 X,q7 X))
def adB:aW:=(aW.nil).add 8 abA
theorem aaa:cv E anb aiu adB (ai Tryz.f318 0):=lk Er Vq (fun X=>(q2 X,q3 X,q7 X)) fun X x=>((z2 (w x.1 (w x.2.1 (z3 (u x.2.2)))) X.1),X.2)
theorem ajo:aj Tryz.prog 318 YQ:=fk aiu (((((base.add yV).add ab3).add aiQ).add ap6).add aco) Tryz.func318 (Λ:=adB) (cF aaa nF)
def afi:ak:=af [pf (.sl .str),pI,pI] [rS,rB] (c3 Pu.jJ)
def anc:aO:=aO.nil.add 361 We
def aiv:An:={mask:=mk [(4,[1,2,3,8])],mv:=[41]}
@[reducible] def Iv:SD:=⟨B::DI::DI::.ptr 3 0::bs 4 (.data false (.sl (.own (some 98304)) (.int .u8))::bs 41 []),Z::Z::Z::(some (.sl .arg .str))::zs 46 [],.none⟩
def Vr {R:Type}(X:SD.D Iv)(K:Ex→AS→Option R):=Pu.fD (fun y0 y1=>ke 0 K Iv ((w y0 (z1 (u y1)) X.1),X.2)) X.1.2.1 X.2.1.1
def abB:aR:=cB Iv Vr (fun X=>(X.1.1,q2 X))
def adC:aW:=(aW.nil).add 4 abB
theorem aab:cv E anc aiv adC (ai Tryz.f319 0):=lk Iv Vr (fun X=>(X.1.1,q2 X)) fun X x=>((w x.1 (z1 (u x.2)) X.1),X.2)
theorem apJ:aj Tryz.prog 319 afi:=fk aiv (base.add aco) Tryz.func319 (Λ:=adC) (cF aab nF)
def YN:ak:=af [pd (.sl au),pf (.sl .str),pI,pI,pI] [rS,rB] (c5 Pu.je)
def amX:aO:=(aO.nil.add 318 YQ).add 319 afi
def aif:An:={mask:=mk [(6,[6,14,30,31,32])]}
@[reducible] def Ik:SD:=⟨bs 6 (.ptr 6 0::bs 7 (.data false .str::bs 15 (.data false (.sl .loc dc)::DI::DI::bs 17 []))),zs 6 ((some (.sl .arg .str))::zs 43 []),.none⟩
def Vb {R:Type}(X:SD.D Ik)(K:Ex→AS→Option R):=Pu.m6 (fun y0 y1=>ke 0 K Ik ((w y0 (z2 (u y1)) X.1),X.2)) X.1.2.1 (q2 X) X.2.1.1
def abk:aR:=cB Ik Vb (fun X=>(X.1.1,q3 X))
def adn:aW:=(aW.nil).add 6 abk
theorem ZV:cv E amX aif adn (ai Tryz.f268 0):=lk Ik Vb (fun X=>(X.1.1,q3 X)) fun X x=>((w x.1 (z2 (u x.2)) X.1),X.2)
theorem WU:aj Tryz.prog 268 YN:=fk aif ((base.add ajo).add apJ) Tryz.func268 (Λ:=adn) (cF ZV nF)
def akW:ak:=af [pf fT,pI] [rI] (c2 Pu.iu)
theorem ajc:aj Tryz.prog 269 akW:=f0 {merge:=mg [(1,11)]} (base.add LM) Tryz.func269
def aeK:ak:=af [pd (.sl au),pf (.sl .str),pI,pf fT] [rS,(true,Y0),rB] (c4 Pu.mG)
theorem ai1:aj Tryz.prog 212 aeK:=f0 {merge:=mg [(1,20)],sb:=mg [(9,9)]} ((((base.add LM).add TE).add WU).add ajc) Tryz.func212
def alu:ak:=af [pd .str,pI] [rI] (c2 Pu.bV)
theorem N3:aj Tryz.prog 320 alu:=f0 {merge:=mg [(1,13)]} base Tryz.func320
def alv:ak:=af [pd .str,pI] [rI] (c2 Pu.dp)
theorem Rl:aj Tryz.prog 321 alv:=f0 {merge:=mg [(1,13)]} base Tryz.func321
def alN:ak:=af [pI] [rS] (c1 Pu.aJ)
theorem C4:aj Tryz.prog 342 alN:=f0 {} (base.add yV) Tryz.func342
def afp:ak:=af [pf dD] [rB] (c1 Pu.rj)
theorem ajA:aj Tryz.prog 362 afp:=f0 {merge:=mg [(1,2)]} (base.add yV) Tryz.func362
def al1:ak:=af [pI] [rS] (c1 Pu.cI)
theorem N4:aj Tryz.prog 363 al1:=f0 {} (base.add yV) Tryz.func363
def afj:ak:=af [pf dD] [rS] (c1 Pu.jH)
theorem ajp:aj Tryz.prog 322 afj:=f0 {} (((base.add C4).add ajA).add N4) Tryz.func322
def ae4:ak:=af [pd .str] [(true,Y29),rB] (c1 Pu.jG)
theorem ajd:aj Tryz.prog 270 ae4:=f0 {sb:=mg [(4,4)]} (((base.add N3).add Rl).add ajp) Tryz.func270
def alJ:ak:=af [pI,pI,pI,pI] [rS,rB] (c4 Pu.kB)
theorem ajy:aj Tryz.prog 338 alJ:=f0 {merge:=mg [(1,27)]} (((base.add yV).add C4).add N4) Tryz.func338
def alK:ak:=af [pI] [rI] (c1 Pu.bX)
theorem ack:aj Tryz.prog 339 alK:=f0 {} base Tryz.func339
def afu:ak:=af [pI,pI] [rI] (c2 Pu.sk)
theorem aql:aj Tryz.prog 380 afu:=f0 {merge:=mg [(1,12)]} (base.add yV) Tryz.func380
def al7:ak:=af [pd .str] [rI] (c1 Pu.qw)
def anq:aO:=aO.nil.add 380 afu
def aiI:An:={mask:=mk [(3,[0,3,4])]}
@[reducible] def II:SD:=⟨.data false .str::B::B::DI::DI::bs 28 [],zs 33 [],.none⟩
def VF {R:Type}(X:SD.D II)(K:Ex→AS→Option R):=Pu.lO (fun y0 y1=>ke 0 K II ((z1 (w y0 (u y1)) X.1),X.2)) X.1.1
def abP:aR:=cB II VF (fun X=>(X.1.2.1,q2 X))
def adP:aW:=(aW.nil).add 3 abP
theorem aap:cv E anq aiI adP (ai Tryz.f372 0):=lk II VF (fun X=>(X.1.2.1,q2 X)) fun X x=>((z1 (w x.1 (u x.2)) X.1),X.2)
theorem aqd:aj Tryz.prog 372 al7:=fk aiI (base.add aql) Tryz.func372 (Λ:=adP) (cF aap nF)
def alL:ak:=af [pd .str] [rI] (c1 Pu.dG)
theorem acm:aj Tryz.prog 340 alL:=f0 {} (base.add aqd) Tryz.func340
def alM:ak:=af [pd .str,pI,pd .str] [rS] (c3 Pu.cl)
theorem WW:aj Tryz.prog 341 alM:=f0 {merge:=mg [(1,17)]} base Tryz.func341
def al2:ak:=af [pf eF] [rS] (c1 Pu.lR)
theorem ap7:aj Tryz.prog 364 al2:=f0 {} ((base.add C4).add N4) Tryz.func364
def alw:ak:=af [pI,pI,pf eF] [rS,rB] (c3 Pu.ed)
theorem ajq:aj Tryz.prog 323 alw:=f0 {merge:=mg [(8,39)]} (((((((base.add ajb).add ajy).add ack).add acm).add WW).add C4).add ap7) Tryz.func323
def amc:ak:=af [pf Xq] [rB] (c1 Pu.BQ)
theorem aqk:aj Tryz.prog 379 amc:=f0 {merge:=mg [(1,2)]} (base.add yV) Tryz.func379
def al3:ak:=af [pf Xq] [rS,rB] (c1 Pu.qs)
theorem ap8:aj Tryz.prog 365 al3:=f0 {} (((((base.add acm).add WW).add C4).add N4).add aqk) Tryz.func365
def alx:ak:=af [pf Xq] [rS,rB] (c1 Pu.ov)
theorem ajr:aj Tryz.prog 324 alx:=f0 {} (base.add ap8) Tryz.func324
def al4:ak:=af [pf P5] [rB] (c1 Pu.tq)
theorem ajB:aj Tryz.prog 366 al4:=f0 {merge:=mg [(1,2)]} (base.add yV) Tryz.func366
def al5:ak:=af [pI] [rS] (c1 Pu.qx)
theorem ap9:aj Tryz.prog 367 al5:=f0 {} ((base.add C4).add N4) Tryz.func367
def aly:ak:=af [pf P5] [rS,rB] (c1 Pu.qj)
theorem apK:aj Tryz.prog 325 aly:=f0 {} (((base.add C4).add ajB).add ap9) Tryz.func325
def al6:ak:=af [pd (.int .u8),pI] [rS] (c2 Pu.uy)
def ann:aO:=aO.nil
def aiF:An:={mask:=mk [(3,[0,5,10,11])]}
@[reducible] def IE:SD:=⟨.data false (.int .u8)::bs 4 (.data false (.sl (.own (some 61440)) (.int .u8))::bs 4 (DI::DI::bs 9 [])),zs 21 [],.none⟩
def VC {R:Type}(X:SD.D IE)(K:Ex→AS→Option R):=Pu.oK (fun y0 y1=>ke 0 K IE ((z1 (w y0 (z1 (u y1))) X.1),X.2)) X.1.1 (q2 X)
def abM:aR:=cB IE VC (fun X=>(X.1.2.1,q3 X))
def adM:aW:=(aW.nil).add 3 abM
theorem aam:cv E ann aiF adM (ai Tryz.f368 0):=lk IE VC (fun X=>(X.1.2.1,q3 X)) fun X x=>((z1 (w x.1 (z1 (u x.2))) X.1),X.2)
theorem aqa:aj Tryz.prog 368 al6:=fk aiF base Tryz.func368 (Λ:=adM) (cF aam nF)
def alz:ak:=af [pd .str] [rS] (c1 Pu.sn)
theorem apL:aj Tryz.prog 326 alz:=f0 {} (base.add aqa) Tryz.func326
def akX:ak:=af [pf bM] [rS,rB] (c1 Pu.c8)
theorem WV:aj Tryz.prog 271 akX:=f0 {} (((((base.add Rj).add ajq).add ajr).add apK).add apL) Tryz.func271
def afq:ak:=af [pf (.sl .str),pI,pd .str] [(true,(.sl (.own none) .str)),rB] (c3 Pu.lQ)
def ano:aO:=(aO.nil.add 125 Qj).add 361 We
def aiG:An:={mask:=mk [(4,[1,2,6,8])],nest:=[33],mv:=[19,49]}
@[reducible] def IG:SD:=⟨B::DI::.data false .str::B::B::B::.ptr 6 0::B::.ptr 8 0::bs 41 [],zs 6 ((some (.sl (.own (some 73729)) .str))::Z::(some (.sl (.own (some 98305)) .str))::zs 41 []),.none⟩
def VD {R:Type}(X:SD.D IG)(K:Ex→AS→Option R):=Pu.hH (fun y0 y1 y2=>ke 0 K IG ((w y0 (u y1) X.1),(z1 (u y2) X.2.1),X.2.2)) X.2.1.1
def abN:aR:=cB IG VD (fun X=>(X.1.1,X.1.2.1,X.2.1.2.1))
def adN:aW:=(aW.nil).add 4 abN
theorem aan:cv E ano aiG adN (ai Tryz.f369 0):=lk IG VD (fun X=>(X.1.1,X.1.2.1,X.2.1.2.1)) fun X x=>((w x.1 (u x.2.1) X.1),(z1 (u x.2.2) X.2.1),X.2.2)
theorem aqb:aj Tryz.prog 369 afq:=fk aiG ((base.add LJ).add aco) Tryz.func369 (Λ:=adN) (cF aan nF)
def alA:ak:=af [pd (.sl au),pf (.sl .str),pI,pI,pd .str,pd .bool] [(true,(.sl (.own none) .str)),rB] (c6 Pu.AH)
def ane:aO:=((aO.nil.add 125 Qj).add 318 YQ).add 369 afq
def aiw:An:={mask:=mk [(6,[4,12,14,35,36,37])],mv:=[34,41,50,57],sb:=mg [(14,14)]}
@[reducible] def Iw:SD:=⟨bs 4 (.data false .str::bs 7 (.ptr 12 0::B::.ptr 14 0::bs 20 (.data false (.sl .loc dc)::DI::DI::bs 20 []))),zs 12 ((some (.sl (.own (some 147457)) .str))::Z::(some (.sl (.own (some 172033)) .str))::zs 43 []),.none⟩
def Vs {R:Type}(X:SD.D Iw)(K:Ex→AS→Option R):=Pu.rn (fun y0 y1 y2=>ke 0 K Iw ((w y0 (z2 (u y1)) X.1),(z1 (u y2) X.2.1),X.2.2)) X.1.2.1 (q2 X) X.2.1.1
def abC:aR:=cB Iw Vs (fun X=>(X.1.1,q3 X,X.2.1.2.1))
def adD:aW:=(aW.nil).add 6 abC
theorem aac:cv E ane aiw adD (ai Tryz.f327 0):=lk Iw Vs (fun X=>(X.1.1,q3 X,X.2.1.2.1)) fun X x=>((w x.1 (z2 (u x.2.1)) X.1),(z1 (u x.2.2) X.2.1),X.2.2)
theorem apM:aj Tryz.prog 327 alA:=fk aiw (((base.add LJ).add ajo).add aqb) Tryz.func327 (Λ:=adD) (cF aac nF)
def akY:ak:=af [pd (.sl au),pf (.sl .str),pI,pI,pd .str] [(true,(.sl (.own none) .str)),rB] (c5 Pu.jW)
theorem acg:aj Tryz.prog 272 akY:=f0 {} (base.add apM) Tryz.func272
def YT:ak:=af [pd .str,pI] [rI] (c2 Pu.rm)
theorem ajC:aj Tryz.prog 370 YT:=f0 {} base Tryz.func370
def afr:ak:=af [pd .str,pI] [rI] (c2 Pu.oB)
def anp:aO:=(aO.nil.add 45 KM).add 370 YT
def aiH:An:={mask:=mk [(5,[0,1,5,6])],merge:=mg [(1,14)]}
@[reducible] def IH:SD:=⟨.data false .str::DI::B::B::B::DI::DI::bs 22 [],zs 29 [],.none⟩
def VE {R:Type}(X:SD.D IH)(K:Ex→AS→Option R):=Pu.kz (fun y0 y1=>ke 0 K IH ((z2 (w y0 (u y1)) X.1),X.2)) X.1.1 X.1.2.1
def abO:aR:=cB IH VE (fun X=>(q2 X,q3 X))
def adO:aW:=(aW.nil).add 5 abO
theorem aao:cv E anp aiH adO (ai Tryz.f371 0):=lk IH VE (fun X=>(q2 X,q3 X)) fun X x=>((z2 (w x.1 (u x.2)) X.1),X.2)
theorem aqc:aj Tryz.prog 371 afr:=fk aiH ((base.add yV).add ajC) Tryz.func371 (Λ:=adO) (cF aao nF)
def alB:ak:=af [pd .str,pd .str] [rI] (c2 Pu.ox)
def anf:aO:=(aO.nil.add 370 YT).add 371 afr
def aix:An:={mask:=mk [(5,[0,1,5,6])],merge:=mg [(1,14)]}
@[reducible] def Ix:SD:=⟨.data false .str::.data false .str::B::B::B::DI::DI::bs 25 [],zs 32 [],.none⟩
def Vt {R:Type}(X:SD.D Ix)(K:Ex→AS→Option R):=Pu.kv (fun y0 y1=>ke 0 K Ix ((z2 (w y0 (u y1)) X.1),X.2)) X.1.1 X.1.2.1
def abD:aR:=cB Ix Vt (fun X=>(q2 X,q3 X))
def adE:aW:=(aW.nil).add 5 abD
theorem aad:cv E anf aix adE (ai Tryz.f328 0):=lk Ix Vt (fun X=>(q2 X,q3 X)) fun X x=>((z2 (w x.1 (u x.2)) X.1),X.2)
theorem apN:aj Tryz.prog 328 alB:=fk aix ((base.add ajC).add aqc) Tryz.func328 (Λ:=adE) (cF aad nF)
def alC:ak:=af [pf dE] [rS] (c1 Pu.oy)
theorem apO:aj Tryz.prog 329 alC:=f0 {} ((base.add C4).add N4) Tryz.func329
def akZ:ak:=af [pd .str,pf dE] [rI] (c2 Pu.qo)
theorem apg:aj Tryz.prog 273 akZ:=f0 {} ((base.add apN).add apO) Tryz.func273
def ak0:ak:=af [pf bM] [(true,(.pair (.int .i64) Y0))] (c1 Pu.ux)
theorem aje:aj Tryz.prog 274 ak0:=f0 {} base Tryz.func274
def alD:ak:=af [pf dE] [rB] (c1 Pu.gw)
theorem ajs:aj Tryz.prog 330 alD:=f0 {merge:=mg [(1,2)]} (base.add yV) Tryz.func330
def alE:ak:=af [pf aY] [rI] (c1 Pu.iw)
theorem ajt:aj Tryz.prog 331 alE:=f0 {} base Tryz.func331
def alF:ak:=af [pf dE,pI] [rS] (c2 Pu.fL)
theorem apP:aj Tryz.prog 332 alF:=f0 {merge:=mg [(1,12)]} ((((base.add yV).add ajs).add C4).add N4) Tryz.func332
def alG:ak:=af [pf aY] [rI] (c1 Pu.oJ)
theorem aju:aj Tryz.prog 333 alG:=f0 {} base Tryz.func333
def ak1:ak:=af [pd (.sl au),pf (.sl .str),pI,pf aY,pf dE] [(true,(.sl (.own none) .str)),(true,Sh),rB] (c5 Pu.jh)
theorem aph:aj Tryz.prog 275 ak1:=f0 {merge:=mg [(1,22)],mv:=[26,37,41,51],mb:=mg [(41,13),(51,13)],sb:=mg [(10,10),(11,11),(13,13)]} (((((((base.add LJ).add aca).add acg).add ajs).add ajt).add apP).add aju) Tryz.func275
def ako:ak:=IT [pd (.sl au),pf (.sl .str),pI,pf az,pd .str,pd .str] [(true,(.sl (.own none) .str)),(true,Sh),rB] [(true,(.sl .arg .str)),(true,Sh),rB] rfl fun a=>Pu.oM a.1 a.2.1 a.2.2.1 a.2.2.2.1 a.2.2.2.2.1 a.2.2.2.2.2.1
theorem aoG:aj Tryz.prog 213 ako:=aj.ofAlt (Xu (an:={merge:=mg [(3,50)],sb:=mg [(12,12),(13,13),(20,20)]}) (Λ:=aW.nil) (by rfl) ((((((base.add ajd).add WV).add acg).add apg).add aje).add aph) Tryz.func213 (by kernel_rfl) (hF (by kernel_rfl) nF)) (fun a=>by kernel_rfl)
def aef:ak:=af [pd (.sl au),pf (.sl .str),pI,pf az,pd .str] [(true,(.sl (.own none) .str)),(true,Y7)] (c5 Pu.ow)
theorem anT:aj Tryz.prog 142 aef:=f0 {merge:=mg [(1,31)],mv:=[52,66],mb:=mg [(66,16)],sb:=mg [(10,10),(11,11)]} ((((base.add LJ).add ab4).add ai1).add aoG) Tryz.func142
def akq:ak:=af [pf aM] [(true,Y9)] (c1 Pu.jl)
theorem acb:aj Tryz.prog 218 akq:=f0 {merge:=mg [(1,9)]} (base.add ai0) Tryz.func218
def aeL:ak:=af [pf aM] [(true,Y9)] (c1 Pu.qi)
theorem aoH:aj Tryz.prog 215 aeL:=f0 {} ((base.add TC).add acb) Tryz.func215
def aeg:ak:=EC bf [pI,pI] [] fun x a=>Pu.k5 x a.1 a.2.1
def afy:aO:=(aO.nil.add 214 YL).add 215 aeL
def ahH:An:={mask:=mk [(2,[0,1,7])]}
@[reducible] def H3:SD:=⟨.ptr 0 0::DI::bs 5 (DI::bs 34 []),(some Y12)::zs 41 [],.ptr⟩
def UA {R:Type}(X:SD.D H3)(K:Ex→AS→Option R):=Pu.kD (fun y0 y1=>ke 0 K H3 ((z1 (u y0) X.1),(u y1 X.2.1),X.2.2)) X.1.1
def aaK:aR:=cB H3 UA (fun X=>(X.1.2.1,X.2.1.1))
def acN:aW:=(aW.nil).add 2 aaK
theorem Zl:cv E afy ahH acN (ai Tryz.f143 0):=lk H3 UA (fun X=>(X.1.2.1,X.2.1.1)) fun X x=>((z1 (u x.1) X.1),(u x.2 X.2.1),X.2.2)
theorem anU:aj Tryz.prog 143 aeg:=aj.TG (SM (Γ:=afy) (an:=ahH) (Λ:=acN) ((base.add WS).add aoH) Tryz.func143 (by kernel_rfl) (hF (by kernel_rfl) (cF Zl nF))) (fun x a=>by kernel_rfl)
def e46:ak:=af [pf bf] [(true,Y1)] (c1 Pu.oz)
def g46:aO:=(((aO.nil.add 43 e43).add 44 e44).add 142 aef).add 143 aeg
def n46:An:={mask:=mk [(5,[1,2,3,13,14])],mv:=[10,17,35,49],sb:=mg [(37,3)]}
@[reducible] def O3:SD:=⟨B::.ptr 1 0::.ptr 2 0::.ptr 3 0::bs 9 (DI::DI::bs 35 []),Z::(some Y2)::(some Y3)::(some Y6)::zs 46 [],.none⟩
def XR {R:Type}(X:SD.D O3)(K:Ex→AS→Option R):=Pu.kx (fun y0 y1=>ke 0 K O3 ((z1 (u y0) X.1),(z2 (u y1) X.2.1),X.2.2)) X.1.1 X.2.1.1 X.2.1.2.1
def agS:aR:=cB O3 XR (fun X=>(X.1.2.1,X.2.1.2.2.1))
def L46:aW:=(aW.nil).add 5 agS
theorem af0:cv E g46 n46 L46 (ai Tryz.f46 0):=lk O3 XR (fun X=>(X.1.2.1,X.2.1.2.2.1)) fun X x=>((z1 (u x.1) X.1),(z2 (u x.2) X.2.1),X.2.2)
theorem o46:aj Tryz.prog 46 e46:=fk n46 ((((base.add o43).add o44).add anT).add anU) Tryz.func46 (Λ:=L46) (cF af0 nF)
def ak2:ak:=af [pd (.sl au),pf (.sl .str),pI,pf fT] [(false,(.sl (.own none) dD)),(true,Y0),rB] (c4 Pu.oF)
def amY:aO:=(((aO.nil.add 204 Wb).add 212 aeK).add 261 aeZ).add 270 ae4
def aih:An:={mask:=mk [(6,[0,2,5,7,8,9,10,11,12])],merge:=mg [(1,24),(15,67)],mv:=[55,68],sb:=mg [(9,9)]}
@[reducible] def Ek:SD:=⟨.data false (.sl .arg au)::B::DI::B::B::.ptr 5 0::B::.ptr 7 0::.data false (.sl (.own (some 98304)) dD)::.ptr 9 0::DB::.ptr 11 0::.data false (.sl (.own (some 147456)) dD)::bs 57 [],zs 5 ((some (.sl .arg .str))::Z::(some Y0)::Z::(some Y0)::Z::(some Y0)::zs 58 []),.none⟩
def Vc {R:Type}(X:SD.D Ek)(K:Ex→AS→Option R):=Pu.gz (fun y0 y1=>ke 0 K Ek ((z4 (u y0) X.1),(z1 (u y1) X.2.1),X.2.2)) (fun y0 y1 y2 y3 y4=>kr K Ek ((z2 (w y0 (w y1 (u y2))) X.1),(z1 (w y3 (u y4)) X.2.1),X.2.2)) X.1.1 X.1.2.1 (q2 X) (q3 X) X.2.1.1 X.2.1.2.2.1 X.2.1.2.2.2.1
def abl:aR:=cB Ek Vc (fun X=>(q4 X,X.2.1.2.1))
def ado:aW:=(aW.nil).add 6 abl
theorem ZW:cv E amY aih ado (ai Tryz.f276 0):=lk Ek Vc (fun X=>(q4 X,X.2.1.2.1)) fun X x=>((z4 (u x.1) X.1),(z1 (u x.2) X.2.1),X.2.2)
theorem api:aj Tryz.prog 276 ak2:=fk aih ((((base.add LM).add ai1).add TE).add ajd) Tryz.func276 (Λ:=ado) (cF ZW nF)
def YR:ak:=af [pd (.sl dc)] [rB] (c1 Pu.mF)
def ang:aO:=aO.nil.add 45 KM
def aiy:An:={mask:=mk [(2,[0,2,5,6,7])],merge:=mg [(4,19)]}
@[reducible] def Es:SD:=⟨.data false (.sl .arg dc)::B::DB::B::B::.data false (.sl .arg dc)::DI::DI::bs 16 [],zs 24 [],.none⟩
def Vv {R:Type}(X:SD.D Es)(K:Ex→AS→Option R):=Pu.lM (fun y0=>ke 0 K Es ((z4 (u y0) X.1),X.2)) (fun y0 y1=>kr K Es ((z1 (w y0 (z2 (u y1))) X.1),X.2)) X.1.1 X.1.2.1 (q2 X) (q3 X)
def abF:aR:=cB Es Vv q4
def adF:aW:=(aW.nil).add 2 abF
theorem aaf:cv E ang aiy adF (ai Tryz.f335 0):=lk Es Vv q4 fun X x=>((z4 (u x) X.1),X.2)
theorem ajv:aj Tryz.prog 335 YR:=fk aiy (base.add yV) Tryz.func335 (Λ:=adF) (cF aaf nF)
def afk:ak:=IT [pd (.sl dc),pI,pI] [(false,(.sl (.own none) dD))] [(false,(.sl .nil dD))] rfl fun a=>Pu.gZ a.1 a.2.1 a.2.2.1
def YW:aO:=((aO.nil.add 45 KM).add 335 YR).add 362 afp
def abZ:An:={mask:=mk [(5,[0,2,7,30,31,32]),(13,[6,7,54,55,56])],merge:=mg [(1,25)],nils:=[6],mv:=[49,64]}
@[reducible] def Iy:SD:=⟨.data false (.sl .arg dc)::B::DI::bs 4 (.data false (.sl (.own (some 86016)) dD)::bs 22 (.data false (.sl .arg dc)::DI::DI::bs 32 [])),zs 65 [],.none⟩
def Vu {R:Type}(X:SD.D Iy)(K:Ex→AS→Option R):=Pu.eP (fun y0 y1=>ke 0 K Iy ((z2 (w y0 (z2 (u y1))) X.1),X.2)) X.1.1 X.1.2.1 (q3 X) (q4 X)
def abE:aR:=cB Iy Vu (fun X=>(q2 X,q5 X))
@[reducible] def Dg:SD:=⟨bs 7 (.data false (.sl (.own (some 86016)) dD)::bs 46 (.data false (.sl .loc dD)::DI::DI::bs 8 [])),zs 65 [],.none⟩
@[reducible] def M0:SD:=⟨bs 6 (.data false (.sl .nil dD)::.data false (.sl (.own (some 86016)) dD)::bs 46 (.data false (.sl .loc dD)::DI::DI::bs 8 [])),zs 65 [],.none⟩
def PY {R:Type}(X:SD.D Dg)(K:Ex→AS→Option R):=Pu.ef (fun y0=>ke 2 K Dg ((z3 (u y0) X.1),X.2)) (fun y0 y1=>kr K M0 ((y0,(X.1.1,(X.1.2.1,(X.1.2.2.1,(y1,()))))),(),())) X.1.1 X.1.2.1 (q2 X)
def WK:aR:=cB Dg PY q3
def Yt:aW:=((aW.nil).add 5 abE).add 13 WK
theorem aae:cv E YW abZ Yt (ai Tryz.f334 0):=lk Iy Vu (fun X=>(q2 X,q5 X)) fun X x=>((z2 (w x.1 (z2 (u x.2))) X.1),X.2)
theorem WG:cv E YW abZ Yt (ai Tryz.f334 1):=lk Dg PY q3 fun X x=>((z3 (u x) X.1),X.2)
theorem apQ:aj Tryz.prog 334 afk:=aj.ofAlt (Xu (Γ:=YW) (an:=abZ) (Λ:=Yt) (by rfl) (((base.add yV).add ajv).add ajA) Tryz.func334 (by kernel_rfl) (hF (by kernel_rfl) (cF aae (cF WG nF)))) (fun a=>by kernel_rfl)
def ak3:ak:=af [pd (.sl dD)] [(false,(.sl (.own none) dc)),rI,rI,rB] (c1 Pu.jg)
def afD:aO:=aO.nil.add 334 afk
def abY:An:={mask:=mk [(5,[0,6,18,19,20]),(14,[0,2,3,4,5,6,9,10,11,51,52])],mv:=[24,65]}
@[reducible] def Il:SD:=⟨.data false (.sl .arg dD)::bs 5 (.data false (.sl (.own (some 73728)) dc)::bs 11 (.data false (.sl .arg dD)::DI::DI::bs 47 [])),zs 68 [],.none⟩
def Vd {R:Type}(X:SD.D Il)(K:Ex→AS→Option R):=Pu.fM (fun y0 y1=>ke 0 K Il ((z1 (w y0 (z2 (u y1))) X.1),X.2)) X.1.1 (q2 X) (q3 X)
def abm:aR:=cB Il Vd (fun X=>(X.1.2.1,q4 X))
@[reducible] def Df:SD:=⟨.data false (.sl .arg dD)::bs 5 (.data false (.sl (.own (some 73728)) dc)::B::B::DI::DI::.data false (.sl (.own (some 135168)) dD)::bs 39 (DI::DI::bs 15 [])),zs 68 [],.none⟩
@[reducible] def MZ:SD:=⟨.data false (.sl .arg dD)::B::.data false (.sl (.own (some 24576)) dc)::DI::DI::DB::.data false (.sl (.own (some 73728)) dc)::B::B::DI::DI::.data false (.sl (.own (some 135168)) dD)::bs 39 (DI::DI::bs 15 []),zs 68 [],.none⟩
def PX {R:Type}(X:SD.D Df)(K:Ex→AS→Option R):=Pu.cK (fun y0=>ke 2 K Df ((z6 (u y0) X.1),X.2)) (fun y0 y1 y2 y3 y4=>kr K MZ ((X.1.1,(y0,(y1,(y2,(y3,(X.1.2.1,(X.1.2.2.1,(X.1.2.2.2.1,(X.1.2.2.2.2.1,(X.1.2.2.2.2.2.1,(y4,()))))))))))),(),())) X.1.1 X.1.2.1 (q2 X) (q3 X) (q4 X) (q5 X)
def WJ:aR:=cB Df PX q6
def Ys:aW:=((aW.nil).add 5 abm).add 14 WJ
theorem ZX:cv E afD abY Ys (ai Tryz.f277 0):=lk Il Vd (fun X=>(X.1.2.1,q4 X)) fun X x=>((z1 (w x.1 (z2 (u x.2))) X.1),X.2)
theorem WE:cv E afD abY Ys (ai Tryz.f277 1):=lk Df PX q6 fun X x=>((z6 (u x) X.1),X.2)
theorem apj:aj Tryz.prog 277 ak3:=fk abY (base.add apQ) Tryz.func277 (Λ:=Ys) (cF ZX (cF WE nF))
def ak4:ak:=af [pd (.sl au),pf (.sl .str),pI,pd (.sl dc)] [rS,rB] (c4 Pu.ku)
def amZ:aO:=(aO.nil.add 268 YN).add 335 YR
def aii:An:={mask:=mk [(5,[0,2,5,8,9,10,18,19,20])]}
@[reducible] def El:SD:=⟨.data false (.sl .arg au)::B::DI::B::B::.ptr 5 0::B::B::.data false .str::DB::.data false .str::bs 7 (.data false (.sl .arg dc)::DI::DI::bs 21 []),zs 5 ((some (.sl .arg .str))::zs 36 []),.none⟩
def Ve {R:Type}(X:SD.D El)(K:Ex→AS→Option R):=Pu.gx (fun y0 y1=>ke 0 K El ((z4 (w y0 (z2 (u y1))) X.1),X.2)) (fun y0 y1 y2 y3=>kr K El ((z2 (w y0 (w y1 (w y2 (z2 (u y3))))) X.1),X.2)) X.1.1 X.1.2.1 (q2 X) (q3 X) (q5 X) (q6 X) X.2.1.1
def abn:aR:=cB El Ve (fun X=>(q4 X,q7 X))
def adp:aW:=(aW.nil).add 5 abn
theorem ZY:cv E amZ aii adp (ai Tryz.f278 0):=lk El Ve (fun X=>(q4 X,q7 X)) fun X x=>((z4 (w x.1 (z2 (u x.2))) X.1),X.2)
theorem apk:aj Tryz.prog 278 ak4:=fk aii ((base.add WU).add ajv) Tryz.func278 (Λ:=adp) (cF ZY nF)
def alH:ak:=af [pd .str] [(true,Y15),rB] (c1 Pu.mE)
theorem ajw:aj Tryz.prog 336 alH:=f0 {merge:=mg [(4,33)],sb:=mg [(4,4)]} (((base.add N3).add Rl).add ajB) Tryz.func336
def alP:ak:=af [pd .str] [(true,Y23),rB] (c1 Pu.so)
theorem apS:aj Tryz.prog 344 alP:=f0 {merge:=mg [(2,22),(6,56)],sb:=mg [(5,5)]} (((base.add N3).add Rl).add ajr) Tryz.func344
def alQ:ak:=af [pI,pI,pI,pd .str] [(true,(.pair (.int .i64) Y23)),rB] (c4 Pu.kA)
theorem apT:aj Tryz.prog 345 alQ:=f0 {merge:=mg [(3,20),(9,44),(12,68)]} (((base.add N3).add Rl).add ajq) Tryz.func345
def ae5:ak:=af [pd .str] [(true,Y4),rI] (c1 Pu.dQ)
theorem ach:aj Tryz.prog 280 ae5:=f0 {merge:=mg [(2,20)]} ((((base.add Rj).add ajw).add apS).add apT) Tryz.func280
def alI:ak:=af [pd .str] [rI,rI] (c1 Pu.k7)
theorem ajx:aj Tryz.prog 337 alI:=f0 {} ((base.add N3).add ack) Tryz.func337
def alO:ak:=af [pf bM] [rS,rB] (c1 Pu.jX)
theorem apR:aj Tryz.prog 343 alO:=f0 {} ((((base.add WV).add ajx).add WW).add C4) Tryz.func343
def ak5:ak:=af [pd .str] [rS,rB] (c1 Pu.ql)
theorem apl:aj Tryz.prog 279 ak5:=f0 {merge:=mg [(3,38),(9,74),(12,84),(17,117)]} ((((((((((((base.add WV).add ach).add N3).add Rl).add ajw).add ajx).add ajy).add ack).add acm).add WW).add C4).add apR) Tryz.func279
def amd:ak:=af [pf bM] [rB] (c1 Pu.qt)
theorem aqm:aj Tryz.prog 381 amd:=f0 {merge:=mg [(1,2)]} (base.add Rj) Tryz.func381
def amg:ak:=af [pd .str] [rI] (c1 Pu.vZ)
def afF:aO:=aO.nil
def ab1:An:={mask:=mk [(3,[0,3,4]),(7,[0,3,4,5])]}
@[reducible] def IM:SD:=⟨.data false .str::B::B::.data false (.int .u32)::DI::DI::bs 28 [],zs 34 [],.none⟩
def VJ {R:Type}(X:SD.D IM)(K:Ex→AS→Option R):=Pu.jV (fun y0 y1=>ke 2 K IM ((z1 (w y0 (z1 (u y1))) X.1),X.2)) X.1.1 (q2 X)
def abT:aR:=cB IM VJ (fun X=>(X.1.2.1,q3 X))
@[reducible] def IL:SD:=⟨.data false .str::B::B::.data false (.int .u32)::DI::bs 29 [],zs 34 [],.none⟩
def VI {R:Type}(X:SD.D IL)(K:Ex→AS→Option R):=Pu.mC (fun y0 y1=>ke 0 K IL ((z1 (w y0 (u y1)) X.1),X.2)) X.1.1
def abS:aR:=cB IL VI (fun X=>(X.1.2.1,q2 X))
def Yv:aW:=((aW.nil).add 7 abT).add 3 abS
theorem aat:cv E afF ab1 Yv (ai Tryz.f384 1):=lk IM VJ (fun X=>(X.1.2.1,q3 X)) fun X x=>((z1 (w x.1 (z1 (u x.2))) X.1),X.2)
theorem aas:cv E afF ab1 Yv (ai Tryz.f384 0):=lk IL VI (fun X=>(X.1.2.1,q2 X)) fun X x=>((z1 (w x.1 (u x.2)) X.1),X.2)
theorem aqp:aj Tryz.prog 384 amg:=fk ab1 base Tryz.func384 (Λ:=Yv) (cF aas (cF aat nF))
def ame:ak:=af [pd .str] [rS] (c1 Pu.sr)
theorem aqn:aj Tryz.prog 382 ame:=f0 {} (base.add aqp) Tryz.func382
def afs:ak:=af [pf bM] [rS,rB] (c1 Pu.m5)
theorem aqe:aj Tryz.prog 373 afs:=f0 {} (((base.add WV).add aqm).add aqn) Tryz.func373
def alR:ak:=af [pd (.sl bM)] [(false,(.sl (.own none) .str))] (c1 Pu.qn)
def anh:aO:=aO.nil.add 373 afs
def aiz:An:={mask:=mk [(3,[3,9,10,11])],mv:=[21,26]}
@[reducible] def Iz:SD:=⟨B::B::B::.data false (.sl (.own (some 36864)) .str)::bs 5 (.data false (.sl .arg bM)::DI::DI::bs 15 []),zs 27 [],.none⟩
def Vw {R:Type}(X:SD.D Iz)(K:Ex→AS→Option R):=Pu.iq (fun y0 y1=>ke 0 K Iz ((w y0 (z2 (u y1)) X.1),X.2)) X.1.2.1 (q2 X)
def abG:aR:=cB Iz Vw (fun X=>(X.1.1,q3 X))
def adG:aW:=(aW.nil).add 3 abG
theorem aag:cv E anh aiz adG (ai Tryz.f346 0):=lk Iz Vw (fun X=>(X.1.1,q3 X)) fun X x=>((w x.1 (z2 (u x.2)) X.1),X.2)
theorem apU:aj Tryz.prog 346 alR:=fk aiz (base.add aqe) Tryz.func346 (Λ:=adG) (cF aag nF)
def alS:ak:=af [pf bM,pI] [(false,(.sl (.own none) bM))] (c2 Pu.we)
def ani:aO:=(aO.nil.add 45 KM).add 207 aeG
def aiA:An:={mask:=mk [(8,[1,2,5,6,7])],merge:=mg [(1,17),(4,30)],mv:=[83,87]}
@[reducible] def IA:SD:=⟨B::DI::.ptr 2 0::B::B::.data false .str::.data false (.sl (.own (some 73728)) bM)::DI::bs 80 [],Z::Z::(some Y4)::zs 85 [],.none⟩
def Vx {R:Type}(X:SD.D IA)(K:Ex→AS→Option R):=Pu.qv (fun y0 y1=>ke 0 K IA ((z2 (w y0 (u y1)) X.1),X.2)) X.1.1 X.1.2.1 X.2.1.1
def abH:aR:=cB IA Vx (fun X=>(q2 X,q3 X))
def adH:aW:=(aW.nil).add 8 abH
theorem aah:cv E ani aiA adH (ai Tryz.f347 0):=lk IA Vx (fun X=>(q2 X,q3 X)) fun X x=>((z2 (w x.1 (u x.2)) X.1),X.2)
theorem apV:aj Tryz.prog 347 alS:=fk aiA ((base.add yV).add Rj) Tryz.func347 (Λ:=adH) (cF aah nF)
def ak6:ak:=af [pf bM,pI] [(false,(.sl (.own none) .str))] (c2 Pu.m8)
theorem apm:aj Tryz.prog 281 ak6:=f0 {} ((base.add apU).add apV) Tryz.func281
def aeM:ak:=af [pd (.sl au),pf (.sl .str),pI,pf fT] [(true,Y0),(false,(.sl (.own none) .str)),rI] (c4 Pu.kC)
theorem aoI:aj Tryz.prog 216 aeM:=f0 {merge:=mg [(1,28)],sb:=mg [(8,8)]} ((((((((base.add LM).add TE).add api).add apj).add apk).add apl).add ach).add apm) Tryz.func216
def ajS:ak:=af [pd (.sl au),pf (.sl .str),pI,pf fT] [(true,Y0),(false,(.sl (.own none) .str)),rI,rI] (c4 Pu.lP)
def amt:aO:=aO.nil.add 216 aeM
def ahI:An:={mask:=mk [(3,[0,2,5,7,8,9,10,11,12,13,14])],mv:=[35,42]}
@[reducible] def MY:SD:=⟨.data false (.sl .arg au)::B::DI::B::B::.ptr 5 0::B::.ptr 7 0::.ptr 8 0::.data false (.sl (.own (some 110592)) .str)::DI::DI::.data false (.sl (.own (some 147456)) .str)::DI::DI::bs 30 [],zs 5 ((some (.sl .arg .str))::Z::(some Y0)::(some Y0)::zs 36 []),.none⟩
@[reducible] def Qf:SD:=⟨.data false (.sl .arg au)::B::DI::B::B::.ptr 5 0::B::.ptr 7 0::.ptr 8 0::.data false (.sl (.own (some 110592)) .str)::DI::DI::.data false (.sl .loc .str)::DI::DI::bs 30 [],zs 5 ((some (.sl .arg .str))::Z::(some Y0)::(some Y0)::zs 36 []),.none⟩
def UB {R:Type}(X:SD.D MY)(K:Ex→AS→Option R):=Pu.hG (fun y0 y1 y2 y3 y4 y5 y6 y7=>kr K Qf ((X.1.1,(X.1.2.1,(y0,(y1,(y2,(y3,(y4,(y5,())))))))),(X.2.1.1,(y6,(y7,()))),())) X.1.1 X.1.2.1 (q2 X) (q3 X) (q4 X) X.2.1.1 X.2.1.2.2.1
def aaL:aR:=cB MY UB (fun X=>(q5 X,q6 X,q7 X,X.2.1.2.1))
def acO:aW:=(aW.nil).add 3 aaL
theorem Zm:cv E amt ahI acO (ai Tryz.f144 0):=lk MY UB (fun X=>(q5 X,q6 X,q7 X,X.2.1.2.1)) fun X x=>((z5 (w x.1 (w x.2.1 (u x.2.2.1))) X.1),(z1 (u x.2.2.2) X.2.1),X.2.2)
theorem anV:aj Tryz.prog 144 ajS:=fk ahI (base.add aoI) Tryz.func144 (Λ:=acO) (cF Zm nF)
def ajT:ak:=af [pf bk,pI] [(true,Y17),(false,(.sl (.own none) (.int .i64)))] (c2 Pu.gv)
def amu:aO:=((((aO.nil.add 45 KM).add 127 YD).add 136 YH).add 200 aeE).add 205 Wc
def ahJ:An:={mask:=mk [(6,[1,2,4,6,7,28,29,30])],merge:=mg [(2,22)],mv:=[23,34,43,55,56]}
@[reducible] def H4:SD:=⟨B::DI::.ptr 2 0::B::.ptr 4 0::B::.ptr 6 0::.data false (.sl (.own (some 86016)) (.int .i64))::bs 20 (.data false (.sl .arg bJ)::DI::DI::bs 26 []),Z::Z::(some Y18)::Z::(some Y21)::Z::(some Y20)::zs 50 [],.none⟩
def UC {R:Type}(X:SD.D H4)(K:Ex→AS→Option R):=Pu.ee (fun y0 y1 y2=>ke 0 K H4 ((z1 (w y0 (z2 (u y1))) X.1),(z2 (u y2) X.2.1),X.2.2)) X.1.1 (q2 X) (q3 X) X.2.1.1 X.2.1.2.1
def aaM:aR:=cB H4 UC (fun X=>(X.1.2.1,q4 X,X.2.1.2.2.1))
def acP:aW:=(aW.nil).add 6 aaM
theorem Zn:cv E amu ahJ acP (ai Tryz.f145 0):=lk H4 UC (fun X=>(X.1.2.1,q4 X,X.2.1.2.2.1)) fun X x=>((z1 (w x.1 (z2 (u x.2.1))) X.1),(z2 (u x.2.2) X.2.1),X.2.2)
theorem anW:aj Tryz.prog 145 ajT:=fk ahJ (((((base.add yV).add aiO).add aiR).add aiY).add ab9) Tryz.func145 (Λ:=acP) (cF Zn nF)
def e47:ak:=af [pf bf] [(true,Y1)] (c1 Pu.ky)
theorem o47:aj Tryz.prog 47 e47:=f0 {mv:=[15,33,37,51,54,58]} ((((base.add o43).add o44).add anV).add anW) Tryz.func47
def aeh:ak:=af [pf aM] [(true,Y9),rB] (c1 Pu.jk)
theorem anX:aj Tryz.prog 146 aeh:=f0 {merge:=mg [(1,11)]} (base.add TC) Tryz.func146
def alT:ak:=af [pd .str] [(true,(.pair (.int .i64) Y0)),rI,rB] (c1 Pu.fK)
theorem apW:aj Tryz.prog 348 alT:=f0 {} ((base.add N3).add Rl) Tryz.func348
def ae6:ak:=af [pd (.sl au),pf (.sl .str),pI,pf aY] [(true,(.pair (.int .i64) Y0)),(true,Sh),rB] (c4 Pu.g6)
theorem apn:aj Tryz.prog 282 ae6:=f0 {merge:=mg [(7,46)],sb:=mg [(8,8),(9,9)]} (((((base.add aca).add WU).add ajt).add aju).add apW) Tryz.func282
def YO:ak:=af [pf a9,pI] [rI] (c2 Pu.fC)
theorem ajf:aj Tryz.prog 283 YO:=f0 {merge:=mg [(1,15)]} ((base.add yV).add Rg) Tryz.func283
def alU:ak:=af [pd (.sl aE),pf dE] [rI] (c2 Pu.lN)
def anj:aO:=aO.nil
def aiB:An:={mask:=mk [(2,[3,4,7,8,9])]}
@[reducible] def Et:SD:=⟨B::B::B::.ptr 3 0::DI::B::B::.data false (.sl .arg aE)::DI::DI::bs 10 [],Z::Z::Z::(some (.pair (.int .i64) Y0))::zs 16 [],.none⟩
def Vy {R:Type}(X:SD.D Et)(K:Ex→AS→Option R):=Pu.g9 (fun y0=>ke 0 K Et ((z3 (u y0) X.1),X.2)) (fun y0 y1=>kr K Et ((w y0 (z2 (u y1)) X.1),X.2)) X.1.1 X.1.2.1 (q2 X) X.2.1.1
def abI:aR:=cB Et Vy q3
def adI:aW:=(aW.nil).add 2 abI
theorem aai:cv E anj aiB adI (ai Tryz.f349 0):=lk Et Vy q3 fun X x=>((z3 (u x) X.1),X.2)
theorem apX:aj Tryz.prog 349 alU:=fk aiB base Tryz.func349 (Λ:=adI) (cF aai nF)
def ae7:ak:=af [pd (.sl aE),pf bM] [(false,(.sl (.own none) aE))] (c2 Pu.sm)
theorem apo:aj Tryz.prog 284 ae7:=f0 {merge:=mg [(17,82)],mv:=[16,31,51,58,67,83,132],er:=mg [(115,5)]} ((((((base.add ab2).add Rj).add WS).add aje).add C4).add apX) Tryz.func284
def al8:ak:=af [pf fT] [rI] (c1 Pu.qu)
theorem aqf:aj Tryz.prog 374 al8:=f0 {} ((base.add LM).add TE) Tryz.func374
def afl:ak:=af [pd (.sl au),pf (.sl .str),pI,pf fT,pd .str] [(true,(.sl (.own none) .str)),(true,Y0),rB] (c5 Pu.sq)
theorem apY:aj Tryz.prog 350 afl:=f0 {merge:=mg [(1,22)],mv:=[26,36,40,50],mb:=mg [(40,13),(50,13)],sb:=mg [(10,10),(11,11),(13,13)]} ((((base.add LJ).add ajc).add acg).add aqf) Tryz.func350
def ae8:ak:=af [pd (.sl au),pf (.sl .str),pI,pf fT,pf a9] [(true,(.sl (.own none) .str)),(true,Y0),(true,Y8),rI] (c5 Pu.qk)
def am0:aO:=(((((((aO.nil.add 125 Qj).add 128 V7).add 133 V8).add 139 St).add 204 Wb).add 283 YO).add 322 afj).add 350 afl
def aij:An:={mask:=mk [(6,[0,2,8,9,10,11,12,14,15,16,39,40,41])],merge:=mg [(2,34)],mv:=[35,37,53,65,76,78],mb:=mg [(35,14),(37,15),(65,20),(76,14),(78,15)],sb:=mg [(8,8),(10,10),(11,11),(12,12),(14,14),(15,15)]}
@[reducible] def Im:SD:=⟨.data false (.sl .arg au)::B::DI::bs 5 (.ptr 8 0::.ptr 9 0::.ptr 10 0::.ptr 11 0::.ptr 12 0::B::.ptr 14 0::.ptr 15 0::DI::bs 22 (.data false (.sl .arg (.int .i64))::DI::DI::bs 38 [])),zs 8 ((some Y0)::(some Y14)::(some (.sl (.own (some 122881)) .str))::(some Y0)::(some Y28)::Z::(some (.sl (.own (some 172033)) .str))::(some Y27)::zs 64 []),.none⟩
def Vf {R:Type}(X:SD.D Im)(K:Ex→AS→Option R):=Pu.im (fun y0 y1 y2 y3=>ke 0 K Im ((z2 (w y0 (z2 (u y1))) X.1),(w y2 (z4 (u y3)) X.2.1),X.2.2)) X.1.1 X.1.2.1 (q3 X) (q4 X) X.2.1.2.1 X.2.1.2.2.1 X.2.1.2.2.2.1 X.2.1.2.2.2.2.1 X.2.1.2.2.2.2.2.2.1
def abo:aR:=cB Im Vf (fun X=>(q2 X,q5 X,X.2.1.1,X.2.1.2.2.2.2.2.1))
def adq:aW:=(aW.nil).add 6 abo
theorem ZZ:cv E am0 aij adq (ai Tryz.f285 0):=lk Im Vf (fun X=>(q2 X,q5 X,X.2.1.1,X.2.1.2.2.2.2.2.1)) fun X x=>((z2 (w x.1 (z2 (u x.2.1))) X.1),(w x.2.2.1 (z4 (u x.2.2.2)) X.2.1),X.2.2)
theorem apq:aj Tryz.prog 285 ae8:=fk aij ((((((((base.add LJ).add TB).add Rf).add Rg).add LM).add ajf).add ajp).add apY) Tryz.func285 (Λ:=adq) (cF ZZ nF)
def akp:ak:=af [pd (.sl au),pf (.sl .str),pI,pf az,pf a9,pd (.sl aE),pI] [(true,(.sl (.own none) .str)),(true,Y7),(true,Y8),(false,(.sl (.own none) aE)),rI] (c7 Pu.oC)
def amK:aO:=((((((((((((aO.nil.add 45 KM).add 125 Qj).add 128 V7).add 131 YE).add 138 YI).add 139 St).add 205 Wc).add 268 YN).add 280 ae5).add 282 ae6).add 283 YO).add 284 ae7).add 285 ae8
def ah1:An:={mask:=mk [(5,[0,2,6,10,14,15,16,19,20,21,22])],merge:=mg [(2,48)],mv:=[49,51,52,96,104,117,119,120],mb:=mg [(49,19),(51,20),(117,19),(119,20)],sb:=mg [(14,14),(15,15),(16,16),(19,19),(20,20)]}
@[reducible] def Ic:SD:=⟨.data false (.sl .arg au)::B::DI::B::B::B::DI::B::B::B::.ptr 10 0::B::B::B::.ptr 14 0::.ptr 15 0::.ptr 16 0::B::B::.ptr 19 0::.ptr 20 0::.data false (.sl (.own (some 258048)) aE)::DI::bs 99 [],zs 10 ((some Y7)::Z::Z::Z::(some (.sl (.own (some 172033)) .str))::(some Y7)::(some Y26)::Z::Z::(some (.sl (.own (some 233473)) .str))::(some Y25)::zs 101 []),.none⟩
def UW {R:Type}(X:SD.D Ic)(K:Ex→AS→Option R):=Pu.gy (fun y0 y1 y2 y3=>ke 0 K Ic ((z3 (w y0 (u y1)) X.1),(w y2 (z4 (u y3)) X.2.1),X.2.2)) X.1.1 X.1.2.1 (q2 X) X.2.1.2.1 X.2.1.2.2.1 X.2.1.2.2.2.1 X.2.1.2.2.2.2.1
def aa5:aR:=cB Ic UW (fun X=>(q3 X,q4 X,X.2.1.1,X.2.1.2.2.2.2.2.1))
def ac7:aW:=(aW.nil).add 5 aa5
theorem ZG:cv E amK ah1 ac7 (ai Tryz.f217 0):=lk Ic UW (fun X=>(q3 X,q4 X,X.2.1.1,X.2.1.2.2.2.2.2.1)) fun X x=>((z3 (w x.1 (u x.2.1)) X.1),(w x.2.2.1 (z4 (u x.2.2.2)) X.2.1),X.2.2)
theorem aoJ:aj Tryz.prog 217 akp:=fk ah1 (((((((((((((base.add yV).add LJ).add TB).add ab2).add ab4).add Rg).add ab9).add WU).add ach).add apn).add ajf).add apo).add apq) Tryz.func217 (Λ:=ac7) (cF ZG nF)
def aei:ak:=EC bf [pI,pI] [rI] fun x a=>Pu.mI x a.1 a.2.1
theorem anY:aj Tryz.prog 147 aei:=aj.TG (SM (an:={mv:=[8,49,51,52],sb:=mg [(55,0),(59,0)],fm:=[19,20],eb:=mg [(56,0),(57,0)]}) (Λ:=aW.nil) (base.add aoJ) Tryz.func147 (by kernel_rfl) (hF (by kernel_rfl) nF)) (fun x a=>by kernel_rfl)
def aej:ak:=af [pf aM] [(true,Y9)] (c1 Pu.rk)
theorem anZ:aj Tryz.prog 148 aej:=f0 {} ((base.add TC).add acb) Tryz.func148
def e48:ak:=af [pf bf,pI] [(true,Y1),rI] (c2 Pu.lK)
def g48:aO:=(((((aO.nil.add 43 e43).add 44 e44).add 45 KM).add 146 aeh).add 147 aei).add 148 aej
def n48:An:={mask:=mk [(6,[1,4,6,7,25,26])],merge:=mg [(2,21)],mv:=[22,78]}
@[reducible] def O4:SD:=⟨B::DI::B::B::.ptr 4 0::B::.ptr 6 0::DI::bs 17 (DI::DI::bs 53 []),zs 4 ((some Y11)::Z::(some Y5)::zs 73 []),.none⟩
def XS {R:Type}(X:SD.D O4)(K:Ex→AS→Option R):=Pu.g4 (fun y0 y1 y2=>ke 0 K O4 ((z1 (w y0 (z1 (u y1))) X.1),(z1 (u y2) X.2.1),X.2.2)) X.1.1 (q2 X) X.2.1.1
def agT:aR:=cB O4 XS (fun X=>(X.1.2.1,q3 X,X.2.1.2.1))
def L48:aW:=(aW.nil).add 6 agT
theorem af1:cv E g48 n48 L48 (ai Tryz.f48 0):=lk O4 XS (fun X=>(X.1.2.1,q3 X,X.2.1.2.1)) fun X x=>((z1 (w x.1 (z1 (u x.2.1))) X.1),(z1 (u x.2.2) X.2.1),X.2.2)
theorem o48:aj Tryz.prog 48 e48:=fk n48 ((((((base.add o43).add o44).add yV).add anX).add anY).add anZ) Tryz.func48 (Λ:=L48) (cF af1 nF)
def aek:ak:=af [pf aM] [(true,Y9)] (c1 Pu.nb)
theorem an0:aj Tryz.prog 149 aek:=f0 {} ((base.add TC).add acb) Tryz.func149
def e49:ak:=af [pf bf] [(true,Y1)] (c1 Pu.qq)
def g49:aO:=((aO.nil.add 43 e43).add 44 e44).add 149 aek
def n49:An:={mask:=mk [(5,[2,3,13,14])],mv:=[10,28]}
@[reducible] def O5:SD:=⟨B::B::.ptr 2 0::.ptr 3 0::bs 9 (DI::DI::bs 14 []),Z::Z::(some Y3)::(some Y6)::zs 25 [],.none⟩
def XT {R:Type}(X:SD.D O5)(K:Ex→AS→Option R):=Pu.lL (fun y0 y1=>ke 0 K O5 ((z1 (u y0) X.1),(z1 (u y1) X.2.1),X.2.2)) X.1.1 X.2.1.1
def agU:aR:=cB O5 XT (fun X=>(X.1.2.1,X.2.1.2.1))
def L49:aW:=(aW.nil).add 5 agU
theorem af2:cv E g49 n49 L49 (ai Tryz.f49 0):=lk O5 XT (fun X=>(X.1.2.1,X.2.1.2.1)) fun X x=>((z1 (u x.1) X.1),(z1 (u x.2) X.2.1),X.2.2)
theorem o49:aj Tryz.prog 49 e49:=fk n49 (((base.add o43).add o44).add an0) Tryz.func49 (Λ:=L49) (cF af2 nF)
def e7:ak:=af [pf bf,pI,pI] [(true,Y1)] (c3 Pu.kY)
def g7:aO:=((((((aO.nil.add 43 e43).add 44 e44).add 45 KM).add 46 e46).add 47 e47).add 48 e48).add 49 e49
def n7:An:={mask:=mk [(6,[1,2,6,7,8])],merge:=mg [(2,23)],mv:=[24,33,40]}
@[reducible] def V4:SD:=⟨B::DI::DI::B::B::B::.ptr 6 0::.ptr 7 0::DI::bs 32 [],zs 6 ((some Y5)::(some Y10)::zs 33 []),.none⟩
def ajH {R:Type}(X:SD.D V4)(K:Ex→AS→Option R):=Pu.kt (fun y0 y1=>ke 0 K V4 ((z2 (u y0) X.1),(z1 (u y1) X.2.1),X.2.2)) X.1.1 X.1.2.1 X.2.1.1
def anu:aR:=cB V4 ajH (fun X=>(q2 X,X.2.1.2.1))
def L7:aW:=(aW.nil).add 6 anu
theorem ans:cv E g7 n7 L7 (ai Tryz.f7 0):=lk V4 ajH (fun X=>(q2 X,X.2.1.2.1)) fun X x=>((z2 (u x.1) X.1),(z1 (u x.2) X.2.1),X.2.2)
theorem o7:aj Tryz.prog 7 e7:=fk n7 (((((((base.add o43).add o44).add yV).add o46).add o47).add o48).add o49) Tryz.func7 (Λ:=L7) (cF ans nF)
def e60:ak:=af [pd (.sl .str),pd (.sl .str)] [rB] (c2 Pu.oP)
def g60:aO:=aO.nil
def n60:An:={mask:=mk [(4,[0,1,4,5])]}
@[reducible] def Ks:SD:=⟨.data false (.sl .arg .str)::.data false (.sl .arg .str)::B::B::DB::DI::bs 20 [],zs 26 [],.none⟩
def X0 {R:Type}(X:SD.D Ks)(K:Ex→AS→Option R):=Pu.uB (fun y0=>ke 0 K Ks ((z3 (u y0) X.1),X.2)) (fun y0 y1=>kr K Ks ((z2 (w y0 (u y1)) X.1),X.2)) X.1.1 X.1.2.1 (q2 X)
def ag4:aR:=cB Ks X0 q3
def L60:aW:=(aW.nil).add 4 ag4
theorem af9:cv E g60 n60 L60 (ai Tryz.f60 0):=lk Ks X0 q3 fun X x=>((z3 (u x) X.1),X.2)
theorem o60:aj Tryz.prog 60 e60:=fk n60 base Tryz.func60 (Λ:=L60) (cF af9 nF)
def e50:ak:=af [pf (.sl .str),pf (.sl .str)] [rB] (c2 Pu.qz)
theorem o50:aj Tryz.prog 50 e50:=f0 {} (base.add o60) Tryz.func50
def ael:ak:=af [pf au,pf au] [rB] (c2 Pu.k9)
theorem an1:aj Tryz.prog 150 ael:=f0 {} base Tryz.func150
def e51:ak:=af [pd (.sl au),pd (.sl au)] [rB] (c2 Pu.rU)
def g51:aO:=aO.nil.add 150 ael
def n51:An:={mask:=mk [(4,[0,1,4,5])]}
@[reducible] def Kl:SD:=⟨.data false (.sl .arg au)::.data false (.sl .arg au)::B::B::DB::DI::bs 21 [],zs 27 [],.none⟩
def XU {R:Type}(X:SD.D Kl)(K:Ex→AS→Option R):=Pu.tw (fun y0=>ke 0 K Kl ((z3 (u y0) X.1),X.2)) (fun y0 y1=>kr K Kl ((z2 (w y0 (u y1)) X.1),X.2)) X.1.1 X.1.2.1 (q2 X)
def agV:aR:=cB Kl XU q3
def L51:aW:=(aW.nil).add 4 agV
theorem af3:cv E g51 n51 L51 (ai Tryz.f51 0):=lk Kl XU q3 fun X x=>((z3 (u x) X.1),X.2)
theorem o51:aj Tryz.prog 51 e51:=fk n51 (base.add an1) Tryz.func51 (Λ:=L51) (cF af3 nF)
def ajU:ak:=af [pf fT,pf fT] [rB] (c2 Pu.rr)
theorem aiS:aj Tryz.prog 151 ajU:=f0 {} base Tryz.func151
def e61:ak:=af [pd (.sl (.int .i64)),pd (.sl (.int .i64))] [rB] (c2 Pu.iU)
def g61:aO:=aO.nil
def n61:An:={mask:=mk [(4,[0,1,4,5])]}
@[reducible] def Kt:SD:=⟨.data false (.sl .arg (.int .i64))::.data false (.sl .arg (.int .i64))::B::B::DB::DI::bs 20 [],zs 26 [],.none⟩
def X1 {R:Type}(X:SD.D Kt)(K:Ex→AS→Option R):=Pu.xQ (fun y0=>ke 0 K Kt ((z3 (u y0) X.1),X.2)) (fun y0 y1=>kr K Kt ((z2 (w y0 (u y1)) X.1),X.2)) X.1.1 X.1.2.1 (q2 X)
def ag5:aR:=cB Kt X1 q3
def L61:aW:=(aW.nil).add 4 ag5
theorem aga:cv E g61 n61 L61 (ai Tryz.f61 0):=lk Kt X1 q3 fun X x=>((z3 (u x) X.1),X.2)
theorem o61:aj Tryz.prog 61 e61:=fk n61 base Tryz.func61 (Λ:=L61) (cF aga nF)
def aem:ak:=af [pf a9,pf a9] [rB] (c2 Pu.nX)
theorem aiT:aj Tryz.prog 152 aem:=f0 {} (base.add o61) Tryz.func152
def aeN:ak:=af [pf bJ,pf bJ] [rB] (c2 Pu.ry)
theorem aoK:aj Tryz.prog 219 aeN:=f0 {} (base.add o61) Tryz.func219
def ajV:ak:=af [pd (.sl bJ),pd (.sl bJ)] [rB] (c2 Pu.wu)
def amv:aO:=aO.nil.add 219 aeN
def ahK:An:={mask:=mk [(4,[0,1,4,5])]}
@[reducible] def D0:SD:=⟨.data false (.sl .arg bJ)::.data false (.sl .arg bJ)::B::B::DB::DI::bs 21 [],zs 27 [],.none⟩
def UD {R:Type}(X:SD.D D0)(K:Ex→AS→Option R):=Pu.xm (fun y0=>ke 0 K D0 ((z3 (u y0) X.1),X.2)) (fun y0 y1=>kr K D0 ((z2 (w y0 (u y1)) X.1),X.2)) X.1.1 X.1.2.1 (q2 X)
def aaN:aR:=cB D0 UD q3
def acQ:aW:=(aW.nil).add 4 aaN
theorem Zo:cv E amv ahK acQ (ai Tryz.f153 0):=lk D0 UD q3 fun X x=>((z3 (u x) X.1),X.2)
theorem an2:aj Tryz.prog 153 ajV:=fk ahK (base.add aoK) Tryz.func153 (Λ:=acQ) (cF Zo nF)
def e52:ak:=af [pf bk,pf bk] [rB] (c2 Pu.oQ)
theorem o52:aj Tryz.prog 52 e52:=f0 {} (((base.add aiS).add aiT).add an2) Tryz.func52
def akr:ak:=af [pf aY,pf aY] [rB] (c2 Pu.dq)
theorem aoL:aj Tryz.prog 220 akr:=f0 {} base Tryz.func220
def alV:ak:=af [pf eF,pf eF] [rB] (c2 Pu.oO)
theorem apZ:aj Tryz.prog 351 alV:=f0 {} base Tryz.func351
def ak7:ak:=af [pf bM,pf bM] [rB] (c2 Pu.qA)
theorem apr:aj Tryz.prog 286 ak7:=f0 {} (base.add apZ) Tryz.func286
def aks:ak:=af [pf rM,pf rM] [rB] (c2 Pu.sv)
theorem aoM:aj Tryz.prog 221 aks:=f0 {} (base.add apr) Tryz.func221
def aen:ak:=af [pf az,pf az] [rB] (c2 Pu.la)
theorem an3:aj Tryz.prog 154 aen:=f0 {} (((base.add aiS).add aoL).add aoM) Tryz.func154
def e53:ak:=af [pd (.sl az),pd (.sl az)] [rB] (c2 Pu.rV)
def g53:aO:=aO.nil.add 154 aen
def n53:An:={mask:=mk [(4,[0,1,4,5])]}
@[reducible] def Km:SD:=⟨.data false (.sl .arg az)::.data false (.sl .arg az)::B::B::DB::DI::bs 21 [],zs 27 [],.none⟩
def XV {R:Type}(X:SD.D Km)(K:Ex→AS→Option R):=Pu.tz (fun y0=>ke 0 K Km ((z3 (u y0) X.1),X.2)) (fun y0 y1=>kr K Km ((z2 (w y0 (u y1)) X.1),X.2)) X.1.1 X.1.2.1 (q2 X)
def agW:aR:=cB Km XV q3
def L53:aW:=(aW.nil).add 4 agW
theorem af4:cv E g53 n53 L53 (ai Tryz.f53 0):=lk Km XV q3 fun X x=>((z3 (u x) X.1),X.2)
theorem o53:aj Tryz.prog 53 e53:=fk n53 (base.add an3) Tryz.func53 (Λ:=L53) (cF af4 nF)
def e54:ak:=af [pd (.sl a9),pd (.sl a9)] [rB] (c2 Pu.wo)
def g54:aO:=aO.nil.add 152 aem
def n54:An:={mask:=mk [(4,[0,1,4,5])]}
@[reducible] def Kn:SD:=⟨.data false (.sl .arg a9)::.data false (.sl .arg a9)::B::B::DB::DI::bs 21 [],zs 27 [],.none⟩
def XW {R:Type}(X:SD.D Kn)(K:Ex→AS→Option R):=Pu.xk (fun y0=>ke 0 K Kn ((z3 (u y0) X.1),X.2)) (fun y0 y1=>kr K Kn ((z2 (w y0 (u y1)) X.1),X.2)) X.1.1 X.1.2.1 (q2 X)
def agX:aR:=cB Kn XW q3
def L54:aW:=(aW.nil).add 4 agX
theorem af5:cv E g54 n54 L54 (ai Tryz.f54 0):=lk Kn XW q3 fun X x=>((z3 (u x) X.1),X.2)
theorem o54:aj Tryz.prog 54 e54:=fk n54 (base.add aiT) Tryz.func54 (Λ:=L54) (cF af5 nF)
def aeo:ak:=af [pf aM,pf aM] [rB] (c2 Pu.mM)
theorem an4:aj Tryz.prog 155 aeo:=f0 {} base Tryz.func155
def e55:ak:=af [pd (.sl aM),pd (.sl aM)] [rB] (c2 Pu.tB)
def g55:aO:=aO.nil.add 155 aeo
def n55:An:={mask:=mk [(4,[0,1,4,5])]}
@[reducible] def Ko:SD:=⟨.data false (.sl .arg aM)::.data false (.sl .arg aM)::B::B::DB::DI::bs 21 [],zs 27 [],.none⟩
def XX {R:Type}(X:SD.D Ko)(K:Ex→AS→Option R):=Pu.uC (fun y0=>ke 0 K Ko ((z3 (u y0) X.1),X.2)) (fun y0 y1=>kr K Ko ((z2 (w y0 (u y1)) X.1),X.2)) X.1.1 X.1.2.1 (q2 X)
def agY:aR:=cB Ko XX q3
def L55:aW:=(aW.nil).add 4 agY
theorem af6:cv E g55 n55 L55 (ai Tryz.f55 0):=lk Ko XX q3 fun X x=>((z3 (u x) X.1),X.2)
theorem o55:aj Tryz.prog 55 e55:=fk n55 (base.add an4) Tryz.func55 (Λ:=L55) (cF af6 nF)
def e56:ak:=af [pd (.sl .bool),pd (.sl .bool)] [rB] (c2 Pu.wk)
def g56:aO:=aO.nil
def n56:An:={mask:=mk [(4,[0,1,4,5])]}
@[reducible] def Kq:SD:=⟨.data false (.sl .arg .bool)::.data false (.sl .arg .bool)::B::B::DB::DI::bs 20 [],zs 26 [],.none⟩
def XY {R:Type}(X:SD.D Kq)(K:Ex→AS→Option R):=Pu.xj (fun y0=>ke 0 K Kq ((z3 (u y0) X.1),X.2)) (fun y0 y1=>kr K Kq ((z2 (w y0 (u y1)) X.1),X.2)) X.1.1 X.1.2.1 (q2 X)
def agZ:aR:=cB Kq XY q3
def L56:aW:=(aW.nil).add 4 agZ
theorem af7:cv E g56 n56 L56 (ai Tryz.f56 0):=lk Kq XY q3 fun X x=>((z3 (u x) X.1),X.2)
theorem o56:aj Tryz.prog 56 e56:=fk n56 base Tryz.func56 (Λ:=L56) (cF af7 nF)
def e57:ak:=af [pf cq,pf cq] [rB] (c2 Pu.qy)
theorem o57:aj Tryz.prog 57 e57:=f0 {} (base.add o61) Tryz.func57
def aeO:ak:=af [pf cj,pf cj] [rB] (c2 Pu.ru)
theorem aoN:aj Tryz.prog 222 aeO:=f0 {} base Tryz.func222
def ajW:ak:=af [pd (.sl cj),pd (.sl cj)] [rB] (c2 Pu.wq)
def amw:aO:=aO.nil.add 222 aeO
def ahL:An:={mask:=mk [(4,[0,1,4,5])]}
@[reducible] def D1:SD:=⟨.data false (.sl .arg cj)::.data false (.sl .arg cj)::B::B::DB::DI::bs 21 [],zs 27 [],.none⟩
def UE {R:Type}(X:SD.D D1)(K:Ex→AS→Option R):=Pu.xl (fun y0=>ke 0 K D1 ((z3 (u y0) X.1),X.2)) (fun y0 y1=>kr K D1 ((z2 (w y0 (u y1)) X.1),X.2)) X.1.1 X.1.2.1 (q2 X)
def aaO:aR:=cB D1 UE q3
def acR:aW:=(aW.nil).add 4 aaO
theorem Zp:cv E amw ahL acR (ai Tryz.f156 0):=lk D1 UE q3 fun X x=>((z3 (u x) X.1),X.2)
theorem an5:aj Tryz.prog 156 ajW:=fk ahL (base.add aoN) Tryz.func156 (Λ:=acR) (cF Zp nF)
def aku:ak:=af [pf dE,pf dE] [rB] (c2 Pu.rq)
theorem ai2:aj Tryz.prog 224 aku:=f0 {} base Tryz.func224
def ae9:ak:=af [pf br,pf br] [rB] (c2 Pu.rz)
theorem aps:aj Tryz.prog 287 ae9:=f0 {} (base.add ai2) Tryz.func287
def akt:ak:=af [pd (.sl br),pd (.sl br)] [rB] (c2 Pu.wv)
def amL:aO:=aO.nil.add 287 ae9
def ah2:An:={mask:=mk [(4,[0,1,4,5])]}
@[reducible] def Eb:SD:=⟨.data false (.sl .arg br)::.data false (.sl .arg br)::B::B::DB::DI::bs 21 [],zs 27 [],.none⟩
def UX {R:Type}(X:SD.D Eb)(K:Ex→AS→Option R):=Pu.xn (fun y0=>ke 0 K Eb ((z3 (u y0) X.1),X.2)) (fun y0 y1=>kr K Eb ((z2 (w y0 (u y1)) X.1),X.2)) X.1.1 X.1.2.1 (q2 X)
def aa6:aR:=cB Eb UX q3
def ac8:aW:=(aW.nil).add 4 aa6
theorem ZH:cv E amL ah2 ac8 (ai Tryz.f223 0):=lk Eb UX q3 fun X x=>((z3 (u x) X.1),X.2)
theorem aoO:aj Tryz.prog 223 akt:=fk ah2 (base.add aps) Tryz.func223 (Λ:=ac8) (cF ZH nF)
def ajX:ak:=af [pf (.sl br),pf (.sl br)] [rB] (c2 Pu.lU)
theorem an6:aj Tryz.prog 157 ajX:=f0 {} (base.add aoO) Tryz.func157
def ajY:ak:=af [pf dA,pf dA] [rB] (c2 Pu.qB)
theorem an7:aj Tryz.prog 158 ajY:=f0 {} (base.add o61) Tryz.func158
def e58:ak:=af [pf bt,pf bt] [rB] (c2 Pu.nh)
theorem o58:aj Tryz.prog 58 e58:=f0 {} (((base.add an5).add an6).add an7) Tryz.func58
def aep:ak:=af [pf aE,pf aE] [rB] (c2 Pu.mL)
theorem an8:aj Tryz.prog 159 aep:=f0 {} (base.add ai2) Tryz.func159
def e59:ak:=af [pd (.sl aE),pd (.sl aE)] [rB] (c2 Pu.tA)
def g59:aO:=aO.nil.add 159 aep
def n59:An:={mask:=mk [(4,[0,1,4,5])]}
@[reducible] def Kr:SD:=⟨.data false (.sl .arg aE)::.data false (.sl .arg aE)::B::B::DB::DI::bs 21 [],zs 27 [],.none⟩
def XZ {R:Type}(X:SD.D Kr)(K:Ex→AS→Option R):=Pu.uA (fun y0=>ke 0 K Kr ((z3 (u y0) X.1),X.2)) (fun y0 y1=>kr K Kr ((z2 (w y0 (u y1)) X.1),X.2)) X.1.1 X.1.2.1 (q2 X)
def ag3:aR:=cB Kr XZ q3
def L59:aW:=(aW.nil).add 4 ag3
theorem af8:cv E g59 n59 L59 (ai Tryz.f59 0):=lk Kr XZ q3 fun X x=>((z3 (u x) X.1),X.2)
theorem o59:aj Tryz.prog 59 e59:=fk n59 (base.add an8) Tryz.func59 (Λ:=L59) (cF af8 nF)
def e62:ak:=af [pf dE,pf dE] [rB] (c2 Pu.ng)
theorem o62:aj Tryz.prog 62 e62:=f0 {} base Tryz.func62
def e8:ak:=af [pf bf,pf bf] [rB] (c2 Pu.k8)
theorem o8:aj Tryz.prog 8 e8:=f0 {} (((((((((((((base.add o50).add o51).add o52).add o53).add o54).add o55).add o56).add o57).add o58).add o59).add o60).add o61).add o62) Tryz.func8
def M4:ak:=af [pI] [rS] (c1 Pu.aU)
def amx:aO:=aO.nil
def ahN:An:={mask:=mk [(4,[0,3])]}
@[reducible] def H6:SD:=⟨DI::B::B::.data false .str::bs 16 [],zs 20 [],.none⟩
def UG {R:Type}(X:SD.D H6)(K:Ex→AS→Option R):=Pu.lY (fun y0 y1=>ke 0 K H6 ((w y0 (u y1) X.1),X.2))
def aaQ:aR:=cB H6 UG (fun X=>(X.1.1,X.1.2.1))
def acT:aW:=(aW.nil).add 4 aaQ
theorem Zr:cv E amx ahN acT (ai Tryz.f162 0):=lk H6 UG (fun X=>(X.1.1,X.1.2.1)) fun X x=>((w x.1 (u x.2) X.1),X.2)
theorem Rh:aj Tryz.prog 162 M4:=fk ahN base Tryz.func162 (Λ:=acT) (cF Zr nF)
def e73:ak:=mB (.sl .str) false [pI] [rI] fun x a=>Pu.lX x a.1
def g73:aO:=aO.nil.add 162 M4
def n73:An:={mask:=mk [(2,[0,1,5])]}
@[reducible] def Pc:SD:=⟨.data false (.sl (.lio 0 12288036864) .str)::DI::B::B::B::DI::bs 14 [],zs 20 [],.some (.sl (.own (some 12288036864)) .str)⟩
def X8 {R:Type}(X:SD.D Pc)(K:Ex→AS→Option R):=Pu.eK (fun y0 y1 y2 y3=>ke 0 K Pc ((w y0 (w y1 (u y2)) X.1),X.2.1,y3))
def ahc:aR:=cB Pc X8 (fun X=>(X.1.1,X.1.2.1,q2 X,X.2.2))
def L73:aW:=(aW.nil).add 2 ahc
theorem agi:cv E g73 n73 L73 (ai Tryz.f73 0):=lk Pc X8 (fun X=>(X.1.1,X.1.2.1,q2 X,X.2.2)) fun X x=>((w x.1 (w x.2.1 (u x.2.2.1)) X.1),X.2.1,x.2.2.2)
theorem o73:aj Tryz.prog 73 e73:=aj.wI (vS (Γ:=g73) (an:=n73) (Λ:=L73) (base.add Rh) Tryz.func73 (by kernel_rfl) (hF (by kernel_rfl) (cF agi nF))) (fun x a=>by kernel_rfl)
def e63:ak:=mB (.sl .str) true [pI] [rI] fun x a=>Pu.nn x a.1
theorem o63:aj Tryz.prog 63 e63:=aj.wI (vS (an:={}) (Λ:=aW.nil) (base.add o73) Tryz.func63 (by kernel_rfl) (hF (by kernel_rfl) nF)) (fun x a=>by kernel_rfl)
def e64:ak:=mB (.sl au) false [pI] [rI] fun x a=>Pu.oX x a.1
def g64:aO:=aO.nil
def n64:An:={mask:=mk [(2,[0,1,5])]}
@[reducible] def O6:SD:=⟨.data false (.sl (.lio 0 12288036864) au)::DI::B::B::B::DI::bs 37 [],zs 43 [],.some (.sl (.own (some 12288036864)) au)⟩
def X2 {R:Type}(X:SD.D O6)(K:Ex→AS→Option R):=Pu.lf (fun y0 y1 y2 y3=>ke 0 K O6 ((w y0 (w y1 (u y2)) X.1),X.2.1,y3))
def ag6:aR:=cB O6 X2 (fun X=>(X.1.1,X.1.2.1,q2 X,X.2.2))
def L64:aW:=(aW.nil).add 2 ag6
theorem agb:cv E g64 n64 L64 (ai Tryz.f64 0):=lk O6 X2 (fun X=>(X.1.1,X.1.2.1,q2 X,X.2.2)) fun X x=>((w x.1 (w x.2.1 (u x.2.2.1)) X.1),X.2.1,x.2.2.2)
theorem o64:aj Tryz.prog 64 e64:=aj.wI (vS (Γ:=g64) (an:=n64) (Λ:=L64) (base) Tryz.func64 (by kernel_rfl) (hF (by kernel_rfl) (cF agb nF))) (fun x a=>by kernel_rfl)
def e74:ak:=mB (.sl (.int .i64)) false [pI] [rI] fun x a=>Pu.cY x a.1
def g74:aO:=aO.nil
def n74:An:={mask:=mk [(2,[0,1,5])]}
@[reducible] def Pd:SD:=⟨.data false (.sl (.lio 0 12288036864) (.int .i64))::DI::B::B::B::DI::bs 13 [],zs 19 [],.some (.sl (.own (some 12288036864)) (.int .i64))⟩
def X9 {R:Type}(X:SD.D Pd)(K:Ex→AS→Option R):=Pu.iy (fun y0 y1 y2 y3=>ke 0 K Pd ((w y0 (w y1 (u y2)) X.1),X.2.1,y3))
def ahd:aR:=cB Pd X9 (fun X=>(X.1.1,X.1.2.1,q2 X,X.2.2))
def L74:aW:=(aW.nil).add 2 ahd
theorem agj:cv E g74 n74 L74 (ai Tryz.f74 0):=lk Pd X9 (fun X=>(X.1.1,X.1.2.1,q2 X,X.2.2)) fun X x=>((w x.1 (w x.2.1 (u x.2.2.1)) X.1),X.2.1,x.2.2.2)
theorem o74:aj Tryz.prog 74 e74:=aj.wI (vS (Γ:=g74) (an:=n74) (Λ:=L74) (base) Tryz.func74 (by kernel_rfl) (hF (by kernel_rfl) (cF agj nF))) (fun x a=>by kernel_rfl)
def ajZ:ak:=mB a9 true [pI] [rI] fun x a=>Pu.qD x a.1
theorem an9:aj Tryz.prog 160 ajZ:=aj.wI (vS (an:={}) (Λ:=aW.nil) (base.add o74) Tryz.func160 (by kernel_rfl) (hF (by kernel_rfl) nF)) (fun x a=>by kernel_rfl)
def aj0:ak:=mB (.sl bJ) false [pI] [rI] fun x a=>Pu.tK x a.1
def afz:aO:=aO.nil.add 74 e74
def ahM:An:={mask:=mk [(2,[0,1,5])],nest:=[30]}
@[reducible] def H5:SD:=⟨.data false (.sl (.lio 0 12288036864) bJ)::DI::B::B::B::DI::bs 28 [],zs 34 [],.some (.sl (.own (some 12288036864)) bJ)⟩
def UF {R:Type}(X:SD.D H5)(K:Ex→AS→Option R):=Pu.pa (fun y0 y1 y2 y3=>ke 0 K H5 ((w y0 (w y1 (u y2)) X.1),X.2.1,y3))
def aaP:aR:=cB H5 UF (fun X=>(X.1.1,X.1.2.1,q2 X,X.2.2))
def acS:aW:=(aW.nil).add 2 aaP
theorem Zq:cv E afz ahM acS (ai Tryz.f161 0):=lk H5 UF (fun X=>(X.1.1,X.1.2.1,q2 X,X.2.2)) fun X x=>((w x.1 (w x.2.1 (u x.2.2.1)) X.1),X.2.1,x.2.2.2)
theorem aoa:aj Tryz.prog 161 aj0:=aj.wI (vS (Γ:=afz) (an:=ahM) (Λ:=acS) (base.add o74) Tryz.func161 (by kernel_rfl) (hF (by kernel_rfl) (cF Zq nF))) (fun x a=>by kernel_rfl)
def e65:ak:=mB bk true [pI] [rI] fun x a=>Pu.lZ x a.1
theorem o65:aj Tryz.prog 65 e65:=aj.wI (vS (an:={}) (Λ:=aW.nil) ((base.add an9).add aoa) Tryz.func65 (by kernel_rfl) (hF (by kernel_rfl) nF)) (fun x a=>by kernel_rfl)
def e66:ak:=mB (.sl az) false [pI] [rI] fun x a=>Pu.o3 x a.1
def g66:aO:=aO.nil.add 162 M4
def n66:An:={mask:=mk [(2,[0,1,5])]}
@[reducible] def O7:SD:=⟨.data false (.sl (.lio 0 12288036864) az)::DI::B::B::B::DI::bs 272 [],zs 278 [],.some (.sl (.own (some 12288036864)) az)⟩
def X3 {R:Type}(X:SD.D O7)(K:Ex→AS→Option R):=Pu.lg (fun y0 y1 y2 y3=>ke 0 K O7 ((w y0 (w y1 (u y2)) X.1),X.2.1,y3))
def ag7:aR:=cB O7 X3 (fun X=>(X.1.1,X.1.2.1,q2 X,X.2.2))
def L66:aW:=(aW.nil).add 2 ag7
theorem agc:cv E g66 n66 L66 (ai Tryz.f66 0):=lk O7 X3 (fun X=>(X.1.1,X.1.2.1,q2 X,X.2.2)) fun X x=>((w x.1 (w x.2.1 (u x.2.2.1)) X.1),X.2.1,x.2.2.2)
theorem o66:aj Tryz.prog 66 e66:=aj.wI (vS (Γ:=g66) (an:=n66) (Λ:=L66) (base.add Rh) Tryz.func66 (by kernel_rfl) (hF (by kernel_rfl) (cF agc nF))) (fun x a=>by kernel_rfl)
def e67:ak:=mB (.sl a9) false [pI] [rI] fun x a=>Pu.tI x a.1
def g67:aO:=aO.nil.add 74 e74
def n67:An:={mask:=mk [(2,[0,1,5])],nest:=[37]}
@[reducible] def O8:SD:=⟨.data false (.sl (.lio 0 12288036864) a9)::DI::B::B::B::DI::bs 35 [],zs 41 [],.some (.sl (.own (some 12288036864)) a9)⟩
def X4 {R:Type}(X:SD.D O8)(K:Ex→AS→Option R):=Pu.oY (fun y0 y1 y2 y3=>ke 0 K O8 ((w y0 (w y1 (u y2)) X.1),X.2.1,y3))
def ag8:aR:=cB O8 X4 (fun X=>(X.1.1,X.1.2.1,q2 X,X.2.2))
def L67:aW:=(aW.nil).add 2 ag8
theorem agd:cv E g67 n67 L67 (ai Tryz.f67 0):=lk O8 X4 (fun X=>(X.1.1,X.1.2.1,q2 X,X.2.2)) fun X x=>((w x.1 (w x.2.1 (u x.2.2.1)) X.1),X.2.1,x.2.2.2)
theorem o67:aj Tryz.prog 67 e67:=aj.wI (vS (Γ:=g67) (an:=n67) (Λ:=L67) (base.add o74) Tryz.func67 (by kernel_rfl) (hF (by kernel_rfl) (cF agd nF))) (fun x a=>by kernel_rfl)
def e68:ak:=mB (.sl aM) false [pI] [rI] fun x a=>Pu.p7 x a.1
def g68:aO:=aO.nil
def n68:An:={mask:=mk [(2,[0,1,5])]}
@[reducible] def O9:SD:=⟨.data false (.sl (.lio 0 12288036864) aM)::DI::B::B::B::DI::bs 53 [],zs 59 [],.some (.sl (.own (some 12288036864)) aM)⟩
def X5 {R:Type}(X:SD.D O9)(K:Ex→AS→Option R):=Pu.mw (fun y0 y1 y2 y3=>ke 0 K O9 ((w y0 (w y1 (u y2)) X.1),X.2.1,y3))
def ag9:aR:=cB O9 X5 (fun X=>(X.1.1,X.1.2.1,q2 X,X.2.2))
def L68:aW:=(aW.nil).add 2 ag9
theorem age:cv E g68 n68 L68 (ai Tryz.f68 0):=lk O9 X5 (fun X=>(X.1.1,X.1.2.1,q2 X,X.2.2)) fun X x=>((w x.1 (w x.2.1 (u x.2.2.1)) X.1),X.2.1,x.2.2.2)
theorem o68:aj Tryz.prog 68 e68:=aj.wI (vS (Γ:=g68) (an:=n68) (Λ:=L68) (base) Tryz.func68 (by kernel_rfl) (hF (by kernel_rfl) (cF age nF))) (fun x a=>by kernel_rfl)
def e69:ak:=mB (.sl .bool) false [pI] [rI] fun x a=>Pu.tH x a.1
def g69:aO:=aO.nil
def n69:An:={mask:=mk [(2,[0,1,5])]}
@[reducible] def Pa:SD:=⟨.data false (.sl (.lio 0 12288036864) .bool)::DI::B::B::B::DI::bs 15 [],zs 21 [],.some (.sl (.own (some 12288036864)) .bool)⟩
def X6 {R:Type}(X:SD.D Pa)(K:Ex→AS→Option R):=Pu.gB (fun y0 y1 y2 y3=>ke 0 K Pa ((w y0 (w y1 (u y2)) X.1),X.2.1,y3))
def aha:aR:=cB Pa X6 (fun X=>(X.1.1,X.1.2.1,q2 X,X.2.2))
def L69:aW:=(aW.nil).add 2 aha
theorem agf:cv E g69 n69 L69 (ai Tryz.f69 0):=lk Pa X6 (fun X=>(X.1.1,X.1.2.1,q2 X,X.2.2)) fun X x=>((w x.1 (w x.2.1 (u x.2.2.1)) X.1),X.2.1,x.2.2.2)
theorem o69:aj Tryz.prog 69 e69:=aj.wI (vS (Γ:=g69) (an:=n69) (Λ:=L69) (base) Tryz.func69 (by kernel_rfl) (hF (by kernel_rfl) (cF agf nF))) (fun x a=>by kernel_rfl)
def e70:ak:=mB cq true [pI] [rI] fun x a=>Pu.nm x a.1
theorem o70:aj Tryz.prog 70 e70:=aj.wI (vS (an:={}) (Λ:=aW.nil) (base.add o74) Tryz.func70 (by kernel_rfl) (hF (by kernel_rfl) nF)) (fun x a=>by kernel_rfl)
def aj1:ak:=mB (.sl cj) false [pI] [rI] fun x a=>Pu.tJ x a.1
def afA:aO:=aO.nil
def ahO:An:={mask:=mk [(2,[0,1,5])]}
@[reducible] def H7:SD:=⟨.data false (.sl (.lio 0 12288036864) cj)::DI::B::B::B::DI::bs 70 [],zs 76 [],.some (.sl (.own (some 12288036864)) cj)⟩
def UH {R:Type}(X:SD.D H7)(K:Ex→AS→Option R):=Pu.oZ (fun y0 y1 y2 y3=>ke 0 K H7 ((w y0 (w y1 (u y2)) X.1),X.2.1,y3))
def aaR:aR:=cB H7 UH (fun X=>(X.1.1,X.1.2.1,q2 X,X.2.2))
def acU:aW:=(aW.nil).add 2 aaR
theorem Zs:cv E afA ahO acU (ai Tryz.f163 0):=lk H7 UH (fun X=>(X.1.1,X.1.2.1,q2 X,X.2.2)) fun X x=>((w x.1 (w x.2.1 (u x.2.2.1)) X.1),X.2.1,x.2.2.2)
theorem aob:aj Tryz.prog 163 aj1:=aj.wI (vS (Γ:=afA) (an:=ahO) (Λ:=acU) (base) Tryz.func163 (by kernel_rfl) (hF (by kernel_rfl) (cF Zs nF))) (fun x a=>by kernel_rfl)
def akv:ak:=mB (.sl br) false [pI] [rI] fun x a=>Pu.tL x a.1
def afC:aO:=aO.nil
def ah3:An:={mask:=mk [(2,[0,1,5])]}
@[reducible] def Ie:SD:=⟨.data false (.sl (.lio 0 12288036864) br)::DI::B::B::B::DI::bs 61 [],zs 67 [],.some (.sl (.own (some 12288036864)) br)⟩
def UY {R:Type}(X:SD.D Ie)(K:Ex→AS→Option R):=Pu.pb (fun y0 y1 y2 y3=>ke 0 K Ie ((w y0 (w y1 (u y2)) X.1),X.2.1,y3))
def aa7:aR:=cB Ie UY (fun X=>(X.1.1,X.1.2.1,q2 X,X.2.2))
def ac9:aW:=(aW.nil).add 2 aa7
theorem ZI:cv E afC ah3 ac9 (ai Tryz.f225 0):=lk Ie UY (fun X=>(X.1.1,X.1.2.1,q2 X,X.2.2)) fun X x=>((w x.1 (w x.2.1 (u x.2.2.1)) X.1),X.2.1,x.2.2.2)
theorem aoP:aj Tryz.prog 225 akv:=aj.wI (vS (Γ:=afC) (an:=ah3) (Λ:=ac9) (base) Tryz.func225 (by kernel_rfl) (hF (by kernel_rfl) (cF ZI nF))) (fun x a=>by kernel_rfl)
def aj2:ak:=mB (.sl br) true [pI] [rI] fun x a=>Pu.jo x a.1
theorem aoc:aj Tryz.prog 164 aj2:=aj.wI (vS (an:={}) (Λ:=aW.nil) (base.add aoP) Tryz.func164 (by kernel_rfl) (hF (by kernel_rfl) nF)) (fun x a=>by kernel_rfl)
def aj3:ak:=mB dA true [pI] [rI] fun x a=>Pu.np x a.1
theorem aod:aj Tryz.prog 165 aj3:=aj.wI (vS (an:={}) (Λ:=aW.nil) (base.add o74) Tryz.func165 (by kernel_rfl) (hF (by kernel_rfl) nF)) (fun x a=>by kernel_rfl)
def e71:ak:=mB bt true [pI] [rI] fun x a=>Pu.kG x a.1
theorem o71:aj Tryz.prog 71 e71:=aj.wI (vS (an:={}) (Λ:=aW.nil) (((base.add aob).add aoc).add aod) Tryz.func71 (by kernel_rfl) (hF (by kernel_rfl) nF)) (fun x a=>by kernel_rfl)
def e72:ak:=mB (.sl aE) false [pI] [rI] fun x a=>Pu.p6 x a.1
def g72:aO:=aO.nil.add 162 M4
def n72:An:={mask:=mk [(2,[0,1,5])]}
@[reducible] def Pb:SD:=⟨.data false (.sl (.lio 0 12288036864) aE)::DI::B::B::B::DI::bs 71 [],zs 77 [],.some (.sl (.own (some 12288036864)) aE)⟩
def X7 {R:Type}(X:SD.D Pb)(K:Ex→AS→Option R):=Pu.mu (fun y0 y1 y2 y3=>ke 0 K Pb ((w y0 (w y1 (u y2)) X.1),X.2.1,y3))
def ahb:aR:=cB Pb X7 (fun X=>(X.1.1,X.1.2.1,q2 X,X.2.2))
def L72:aW:=(aW.nil).add 2 ahb
theorem agh:cv E g72 n72 L72 (ai Tryz.f72 0):=lk Pb X7 (fun X=>(X.1.1,X.1.2.1,q2 X,X.2.2)) fun X x=>((w x.1 (w x.2.1 (u x.2.2.1)) X.1),X.2.1,x.2.2.2)
theorem o72:aj Tryz.prog 72 e72:=aj.wI (vS (Γ:=g72) (an:=n72) (Λ:=L72) (base.add Rh) Tryz.func72 (by kernel_rfl) (hF (by kernel_rfl) (cF agh nF))) (fun x a=>by kernel_rfl)
def e9:ak:=mB bf true [pI] [rI] fun x a=>Pu.mN x a.1
theorem o9:aj Tryz.prog 9 e9:=aj.wI (vS (an:={}) (Λ:=aW.nil) ((((((((((((base.add o63).add o64).add o65).add o66).add o67).add o68).add o69).add o70).add o71).add o72).add o73).add o74) Tryz.func9 (by kernel_rfl) (hF (by kernel_rfl) nF)) (fun x a=>by kernel_rfl)
def e85:ak:=af [pd (.sl .str),pI] [rI] (c2 Pu.lV)
def g85:aO:=aO.nil.add 162 M4
def n85:An:={mask:=mk [(2,[0,1,4,5])]}
@[reducible] def KA:SD:=⟨.data false (.sl .arg .str)::DI::B::B::DI::DI::bs 16 [],zs 22 [],.none⟩
def Yg {R:Type}(X:SD.D KA)(K:Ex→AS→Option R):=Pu.eJ (fun y0 y1=>ke 0 K KA ((z1 (w y0 (z1 (u y1))) X.1),X.2)) (fun y0 y1 y2=>kr K KA ((z1 (w y0 (w y1 (u y2))) X.1),X.2)) X.1.1 (q2 X)
def ahk:aR:=cB KA Yg (fun X=>(X.1.2.1,q3 X))
def L85:aW:=(aW.nil).add 2 ahk
theorem agq:cv E g85 n85 L85 (ai Tryz.f85 0):=lk KA Yg (fun X=>(X.1.2.1,q3 X)) fun X x=>((z1 (w x.1 (z1 (u x.2))) X.1),X.2)
theorem o85:aj Tryz.prog 85 e85:=fk n85 (base.add Rh) Tryz.func85 (Λ:=L85) (cF agq nF)
def e75:ak:=af [pf (.sl .str),pI] [rI] (c2 Pu.nj)
theorem o75:aj Tryz.prog 75 e75:=f0 {} (base.add o85) Tryz.func75
def e76:ak:=af [pd (.sl au),pI] [rI] (c2 Pu.oR)
def g76:aO:=aO.nil
def n76:An:={mask:=mk [(2,[0,1,4,5])]}
@[reducible] def Ku:SD:=⟨.data false (.sl .arg au)::DI::B::B::DI::DI::bs 45 [],zs 51 [],.none⟩
def Ya {R:Type}(X:SD.D Ku)(K:Ex→AS→Option R):=Pu.lb (fun y0 y1=>ke 0 K Ku ((z1 (w y0 (z1 (u y1))) X.1),X.2)) (fun y0 y1 y2=>kr K Ku ((z1 (w y0 (w y1 (u y2))) X.1),X.2)) X.1.1 (q2 X)
def ahe:aR:=cB Ku Ya (fun X=>(X.1.2.1,q3 X))
def L76:aW:=(aW.nil).add 2 ahe
theorem agk:cv E g76 n76 L76 (ai Tryz.f76 0):=lk Ku Ya (fun X=>(X.1.2.1,q3 X)) fun X x=>((z1 (w x.1 (z1 (u x.2))) X.1),X.2)
theorem o76:aj Tryz.prog 76 e76:=fk n76 base Tryz.func76 (Λ:=L76) (cF agk nF)
def e86:ak:=af [pd (.sl (.int .i64)),pI] [rI] (c2 Pu.cX)
def g86:aO:=aO.nil
def n86:An:={mask:=mk [(2,[0,1,4,5])]}
@[reducible] def KB:SD:=⟨.data false (.sl .arg (.int .i64))::DI::B::B::DI::DI::bs 15 [],zs 21 [],.none⟩
def Yh {R:Type}(X:SD.D KB)(K:Ex→AS→Option R):=Pu.ix (fun y0 y1=>ke 0 K KB ((z1 (w y0 (z1 (u y1))) X.1),X.2)) (fun y0 y1 y2=>kr K KB ((z1 (w y0 (w y1 (u y2))) X.1),X.2)) X.1.1 (q2 X)
def ahl:aR:=cB KB Yh (fun X=>(X.1.2.1,q3 X))
def L86:aW:=(aW.nil).add 2 ahl
theorem agr:cv E g86 n86 L86 (ai Tryz.f86 0):=lk KB Yh (fun X=>(X.1.2.1,q3 X)) fun X x=>((z1 (w x.1 (z1 (u x.2))) X.1),X.2)
theorem o86:aj Tryz.prog 86 e86:=fk n86 base Tryz.func86 (Λ:=L86) (cF agr nF)
def aj4:ak:=af [pf a9,pI] [rI] (c2 Pu.qC)
theorem aoe:aj Tryz.prog 166 aj4:=f0 {} (base.add o86) Tryz.func166
def aj5:ak:=af [pd (.sl bJ),pI] [rI] (c2 Pu.tF)
def amy:aO:=aO.nil.add 86 e86
def ahP:An:={mask:=mk [(2,[0,1,4,5])]}
@[reducible] def D2:SD:=⟨.data false (.sl .arg bJ)::DI::B::B::DI::DI::bs 34 [],zs 40 [],.none⟩
def UI {R:Type}(X:SD.D D2)(K:Ex→AS→Option R):=Pu.oV (fun y0 y1=>ke 0 K D2 ((z1 (w y0 (z1 (u y1))) X.1),X.2)) (fun y0 y1 y2=>kr K D2 ((z1 (w y0 (w y1 (u y2))) X.1),X.2)) X.1.1 (q2 X)
def aaS:aR:=cB D2 UI (fun X=>(X.1.2.1,q3 X))
def acV:aW:=(aW.nil).add 2 aaS
theorem Zt:cv E amy ahP acV (ai Tryz.f167 0):=lk D2 UI (fun X=>(X.1.2.1,q3 X)) fun X x=>((z1 (w x.1 (z1 (u x.2))) X.1),X.2)
theorem aof:aj Tryz.prog 167 aj5:=fk ahP (base.add o86) Tryz.func167 (Λ:=acV) (cF Zt nF)
def e77:ak:=af [pf bk,pI] [rI] (c2 Pu.lW)
theorem o77:aj Tryz.prog 77 e77:=f0 {} ((base.add aoe).add aof) Tryz.func77
def e78:ak:=af [pd (.sl az),pI] [rI] (c2 Pu.oU)
def g78:aO:=aO.nil.add 162 M4
def n78:An:={mask:=mk [(2,[0,1,4,5])]}
@[reducible] def Kv:SD:=⟨.data false (.sl .arg az)::DI::B::B::DI::DI::bs 332 [],zs 338 [],.none⟩
def Yb {R:Type}(X:SD.D Kv)(K:Ex→AS→Option R):=Pu.ld (fun y0 y1=>ke 0 K Kv ((z1 (w y0 (z1 (u y1))) X.1),X.2)) (fun y0 y1 y2=>kr K Kv ((z1 (w y0 (w y1 (u y2))) X.1),X.2)) X.1.1 (q2 X)
def ahf:aR:=cB Kv Yb (fun X=>(X.1.2.1,q3 X))
def L78:aW:=(aW.nil).add 2 ahf
theorem agl:cv E g78 n78 L78 (ai Tryz.f78 0):=lk Kv Yb (fun X=>(X.1.2.1,q3 X)) fun X x=>((z1 (w x.1 (z1 (u x.2))) X.1),X.2)
theorem o78:aj Tryz.prog 78 e78:=fk n78 (base.add Rh) Tryz.func78 (Λ:=L78) (cF agl nF)
def e79:ak:=af [pd (.sl a9),pI] [rI] (c2 Pu.tD)
def g79:aO:=aO.nil.add 86 e86
def n79:An:={mask:=mk [(2,[0,1,4,5])]}
@[reducible] def Kw:SD:=⟨.data false (.sl .arg a9)::DI::B::B::DI::DI::bs 43 [],zs 49 [],.none⟩
def Yc {R:Type}(X:SD.D Kw)(K:Ex→AS→Option R):=Pu.oS (fun y0 y1=>ke 0 K Kw ((z1 (w y0 (z1 (u y1))) X.1),X.2)) (fun y0 y1 y2=>kr K Kw ((z1 (w y0 (w y1 (u y2))) X.1),X.2)) X.1.1 (q2 X)
def ahg:aR:=cB Kw Yc (fun X=>(X.1.2.1,q3 X))
def L79:aW:=(aW.nil).add 2 ahg
theorem agm:cv E g79 n79 L79 (ai Tryz.f79 0):=lk Kw Yc (fun X=>(X.1.2.1,q3 X)) fun X x=>((z1 (w x.1 (z1 (u x.2))) X.1),X.2)
theorem o79:aj Tryz.prog 79 e79:=fk n79 (base.add o86) Tryz.func79 (Λ:=L79) (cF agm nF)
def e80:ak:=af [pd (.sl aM),pI] [rI] (c2 Pu.p5)
def g80:aO:=aO.nil
def n80:An:={mask:=mk [(2,[0,1,4,5])]}
@[reducible] def Kx:SD:=⟨.data false (.sl .arg aM)::DI::B::B::DI::DI::bs 65 [],zs 71 [],.none⟩
def Yd {R:Type}(X:SD.D Kx)(K:Ex→AS→Option R):=Pu.mr (fun y0 y1=>ke 0 K Kx ((z1 (w y0 (z1 (u y1))) X.1),X.2)) (fun y0 y1 y2=>kr K Kx ((z1 (w y0 (w y1 (u y2))) X.1),X.2)) X.1.1 (q2 X)
def ahh:aR:=cB Kx Yd (fun X=>(X.1.2.1,q3 X))
def L80:aW:=(aW.nil).add 2 ahh
theorem agn:cv E g80 n80 L80 (ai Tryz.f80 0):=lk Kx Yd (fun X=>(X.1.2.1,q3 X)) fun X x=>((z1 (w x.1 (z1 (u x.2))) X.1),X.2)
theorem o80:aj Tryz.prog 80 e80:=fk n80 base Tryz.func80 (Λ:=L80) (cF agn nF)
def e81:ak:=af [pd (.sl .bool),pI] [rI] (c2 Pu.tC)
def g81:aO:=aO.nil
def n81:An:={mask:=mk [(2,[0,1,4,5])]}
@[reducible] def Ky:SD:=⟨.data false (.sl .arg .bool)::DI::B::B::DI::DI::bs 17 [],zs 23 [],.none⟩
def Ye {R:Type}(X:SD.D Ky)(K:Ex→AS→Option R):=Pu.gA (fun y0 y1=>ke 0 K Ky ((z1 (w y0 (z1 (u y1))) X.1),X.2)) (fun y0 y1 y2=>kr K Ky ((z1 (w y0 (w y1 (u y2))) X.1),X.2)) X.1.1 (q2 X)
def ahi:aR:=cB Ky Ye (fun X=>(X.1.2.1,q3 X))
def L81:aW:=(aW.nil).add 2 ahi
theorem ago:cv E g81 n81 L81 (ai Tryz.f81 0):=lk Ky Ye (fun X=>(X.1.2.1,q3 X)) fun X x=>((z1 (w x.1 (z1 (u x.2))) X.1),X.2)
theorem o81:aj Tryz.prog 81 e81:=fk n81 base Tryz.func81 (Λ:=L81) (cF ago nF)
def e82:ak:=af [pf cq,pI] [rI] (c2 Pu.ni)
theorem o82:aj Tryz.prog 82 e82:=f0 {} (base.add o86) Tryz.func82
def aj6:ak:=af [pd (.sl cj),pI] [rI] (c2 Pu.tE)
def amz:aO:=aO.nil
def ahQ:An:={mask:=mk [(2,[0,1,4,5])]}
@[reducible] def D3:SD:=⟨.data false (.sl .arg cj)::DI::B::B::DI::DI::bs 88 [],zs 94 [],.none⟩
def UJ {R:Type}(X:SD.D D3)(K:Ex→AS→Option R):=Pu.oT (fun y0 y1=>ke 0 K D3 ((z1 (w y0 (z1 (u y1))) X.1),X.2)) (fun y0 y1 y2=>kr K D3 ((z1 (w y0 (w y1 (u y2))) X.1),X.2)) X.1.1 (q2 X)
def aaT:aR:=cB D3 UJ (fun X=>(X.1.2.1,q3 X))
def acW:aW:=(aW.nil).add 2 aaT
theorem Zu:cv E amz ahQ acW (ai Tryz.f168 0):=lk D3 UJ (fun X=>(X.1.2.1,q3 X)) fun X x=>((z1 (w x.1 (z1 (u x.2))) X.1),X.2)
theorem aog:aj Tryz.prog 168 aj6:=fk ahQ base Tryz.func168 (Λ:=acW) (cF Zu nF)
def akw:ak:=af [pd (.sl br),pI] [rI] (c2 Pu.tG)
def amM:aO:=aO.nil
def ah4:An:={mask:=mk [(2,[0,1,4,5])]}
@[reducible] def Ec:SD:=⟨.data false (.sl .arg br)::DI::B::B::DI::DI::bs 75 [],zs 81 [],.none⟩
def UZ {R:Type}(X:SD.D Ec)(K:Ex→AS→Option R):=Pu.oW (fun y0 y1=>ke 0 K Ec ((z1 (w y0 (z1 (u y1))) X.1),X.2)) (fun y0 y1 y2=>kr K Ec ((z1 (w y0 (w y1 (u y2))) X.1),X.2)) X.1.1 (q2 X)
def aa8:aR:=cB Ec UZ (fun X=>(X.1.2.1,q3 X))
def ada:aW:=(aW.nil).add 2 aa8
theorem ZJ:cv E amM ah4 ada (ai Tryz.f226 0):=lk Ec UZ (fun X=>(X.1.2.1,q3 X)) fun X x=>((z1 (w x.1 (z1 (u x.2))) X.1),X.2)
theorem aoQ:aj Tryz.prog 226 akw:=fk ah4 base Tryz.func226 (Λ:=ada) (cF ZJ nF)
def aj7:ak:=af [pf (.sl br),pI] [rI] (c2 Pu.jn)
theorem aoh:aj Tryz.prog 169 aj7:=f0 {} (base.add aoQ) Tryz.func169
def aj8:ak:=af [pf dA,pI] [rI] (c2 Pu.nk)
theorem aoi:aj Tryz.prog 170 aj8:=f0 {} (base.add o86) Tryz.func170
def e83:ak:=af [pf bt,pI] [rI] (c2 Pu.kF)
theorem o83:aj Tryz.prog 83 e83:=f0 {} (((base.add aog).add aoh).add aoi) Tryz.func83
def e84:ak:=af [pd (.sl aE),pI] [rI] (c2 Pu.p4)
def g84:aO:=aO.nil.add 162 M4
def n84:An:={mask:=mk [(2,[0,1,4,5])]}
@[reducible] def Kz:SD:=⟨.data false (.sl .arg aE)::DI::B::B::DI::DI::bs 87 [],zs 93 [],.none⟩
def Yf {R:Type}(X:SD.D Kz)(K:Ex→AS→Option R):=Pu.mq (fun y0 y1=>ke 0 K Kz ((z1 (w y0 (z1 (u y1))) X.1),X.2)) (fun y0 y1 y2=>kr K Kz ((z1 (w y0 (w y1 (u y2))) X.1),X.2)) X.1.1 (q2 X)
def ahj:aR:=cB Kz Yf (fun X=>(X.1.2.1,q3 X))
def L84:aW:=(aW.nil).add 2 ahj
theorem agp:cv E g84 n84 L84 (ai Tryz.f84 0):=lk Kz Yf (fun X=>(X.1.2.1,q3 X)) fun X x=>((z1 (w x.1 (z1 (u x.2))) X.1),X.2)
theorem o84:aj Tryz.prog 84 e84:=fk n84 (base.add Rh) Tryz.func84 (Λ:=L84) (cF agp nF)
def e10:ak:=af [pf bf,pI] [rI] (c2 Pu.jY)
theorem o10:aj Tryz.prog 10 e10:=f0 {} ((((((((((((base.add o75).add o76).add o77).add o78).add o79).add o80).add o81).add o82).add o83).add o84).add o85).add o86) Tryz.func10
@[reducible] def iI:List PS:=[pf bf,pI,pI]
def nR:ak:=af iI [rB] (c3 Pu.kl)
theorem vu:aj Tryz.prog 3 nR:=f0 {merge:=mg [(14,50)]} (((((((base.add o4).add o5).add o6).add o7).add o8).add o9).add o10) Tryz.func3
end
end Go.Proofs.YtcmdhgbbpmnbpaaGreat.Fn
