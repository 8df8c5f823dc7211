import Derived.Test.YtjoicgadhgkphacGreatDnSig
import Derived.Test.YtjoicgadhgkphacGreatPure
import Derived.Test.YtjoicgadhgkphacGreatRows
/- Each function of the program is its pure function (made by gen.py). -/
namespace Go.Proofs.YtjoicgadhgkphacGreat.Fn
open Go.Dn
open Go.Pu (bg eY agC dF dA fO eu CM cd nD bt cl fw dw fc Ly R0 cS eL cu cv aC bq dQ gE fy ia Zw R1 HV)
set_option maxRecDepth 100000
set_option linter.unusedVariables false
noncomputable section
abbrev B:PD:=.bot
abbrev DI:PD:=.data false (.int .i64)
abbrev DB:PD:=.data false .bool
abbrev Z:Option FT:=none
theorem nF {p:Code→Prop}:∀x∈([]:List Code),p x:=λ_ h=>nomatch h
theorem cF {p:Code→Prop}{a:Code}{l:List Code}(h:p a)(t:∀x∈l,p x):∀x∈a::l,p x:=List.forall_mem_cons.2 ⟨h,t⟩
theorem hF {p:Code→Prop}{l m:List Code}(e:l=m)(h:∀x∈m,p x):∀x∈l,p x:=e▸h
theorem fk {P:Program}{E:Env}{Γ:bH}{s:List PS}{rs:List (Bool×FT)}{F:AO s→Option (iq rs)}{f:Nat}{fn:Func}(an:An)(hS:Sound P E Γ)(hf:P.funcs[f]?=some fn){Λ:bN}{l:List Code}(h:∀c∈l,dP E Γ an Λ c)(hn:(fn.name== "runtime.NumGoroutine")=false:=by kernel_rfl)(hl:fT (fn.body.getD .skip)=l:=by kernel_rfl)(hF:∀a,Kw E Γ an Λ fn rs (ki s a)=F a:=by intro a;kernel_rfl):aA P f (au s rs F):=aA.of (aij hS hf hn (Fn.hF hl h)) hF
abbrev pd (t:CT):PS:=.data false t
abbrev pf (t:CT):PS:=.data true t
abbrev pI:PS:=.data false (.int .i64)
abbrev rB:Bool×FT:=(false,.bool)
abbrev rI:Bool×FT:=(false,.int .i64)
abbrev rS:Bool×FT:=(false,.str)
abbrev bs:Nat→List PD→List PD|0,l=>l|n+1,l=> .bot::bs n l
abbrev zs:Nat→List (Option FT)→List (Option FT)|0,l=>l|n+1,l=>none::zs n l
def mk (l:List (Nat×List Nat))(n:Nat):List Nat:=(l.lookup n).getD []
def mg (l:List (Nat×Nat))(n:Nat):Option Nat:=l.lookup n
def ke {R:Type}(n:Nat)(K:Ex→AS→Option R)(d:SD)(x:SD.D d):Option R:=K (.exit n) (SD.enc d x)
def kr {R:Type}(K:Ex→AS→Option R)(d:SD)(x:SD.D d):Option R:=K .ret (SD.enc d x)
def dT {σ:Type}(d:SD)(t:{R:Type}→SD.D d→(Ex→AS→Option R)→(σ→Option R)→σ→Option R)(i:SD.D d→σ):bG:=⟨d,λX K=>aH (t X K) fuel (i X)⟩
theorem lk {E:Env}{Γ:bH}{an:An}{Λ:bN}{c:Code}{σ:Type}(d:SD)(t:{R:Type}→SD.D d→(Ex→AS→Option R)→(σ→Option R)→σ→Option R)(i:SD.D d→σ)(w:SD.D d→σ→SD.D d)(h1:Λ (fe c)=dT d t i:=by kernel_rfl)(h:∀(R:Type)(X:SD.D d)(K:Ex→AS→Option R)(m:Nat)(x:σ),yI (an.mask (fe c)) (den E Γ an Λ c) (m+1) (SD.enc d (w X x)) K=t X K (λy=>yI (an.mask (fe c)) (den E Γ an Λ c) m (SD.enc d (w X y)) K) x:=by intro R X K m x;kernel_rfl)(hw:∀X,w X (i X)=X:=by intro X;kernel_rfl):dP E Γ an Λ c:=lok (dT d t i) h1 fuel λR X K=>(Iz (λx=>SD.enc d (w X x)) (t X K) (h R X K) fuel (i X)).symm.trans (congrArg (λy=>yI (an.mask (fe c)) (den E Γ an Λ c) fuel (SD.enc d y) K) (hw X))
def u {A B:Type}(y:A)(x:A×B):A×B:=(y,x.2)
def w {A B:Type}(y:A)(f:B→B)(x:A×B):A×B:=(y,f x.2)
def z1 {A0 B:Type}(f:B→B)(x:A0×B):A0×B:=(x.1,f x.2)
def z2 {A0 A1 B:Type}(f:B→B)(x:A0×A1×B):A0×A1×B:=(x.1,x.2.1,f x.2.2)
def z3 {A0 A1 A2 B:Type}(f:B→B)(x:A0×A1×A2×B):A0×A1×A2×B:=(x.1,x.2.1,x.2.2.1,f x.2.2.2)
def z4 {A0 A1 A2 A3 B:Type}(f:B→B)(x:A0×A1×A2×A3×B):A0×A1×A2×A3×B:=(x.1,x.2.1,x.2.2.1,x.2.2.2.1,f x.2.2.2.2)
def z5 {A0 A1 A2 A3 A4 B:Type}(f:B→B)(x:A0×A1×A2×A3×A4×B):A0×A1×A2×A3×A4×B:=(x.1,x.2.1,x.2.2.1,x.2.2.2.1,x.2.2.2.2.1,f x.2.2.2.2.2)
def z6 {A0 A1 A2 A3 A4 A5 B:Type}(f:B→B)(x:A0×A1×A2×A3×A4×A5×B):A0×A1×A2×A3×A4×A5×B:=(x.1,x.2.1,x.2.2.1,x.2.2.2.1,x.2.2.2.2.1,x.2.2.2.2.2.1,f x.2.2.2.2.2.2)
def z7 {A0 A1 A2 A3 A4 A5 A6 B:Type}(f:B→B)(x:A0×A1×A2×A3×A4×A5×A6×B):A0×A1×A2×A3×A4×A5×A6×B:=(x.1,x.2.1,x.2.2.1,x.2.2.2.1,x.2.2.2.2.1,x.2.2.2.2.2.1,x.2.2.2.2.2.2.1,f x.2.2.2.2.2.2.2)
def z8 {A0 A1 A2 A3 A4 A5 A6 A7 B:Type}(f:B→B)(x:A0×A1×A2×A3×A4×A5×A6×A7×B):A0×A1×A2×A3×A4×A5×A6×A7×B:=(x.1,x.2.1,x.2.2.1,x.2.2.2.1,x.2.2.2.2.1,x.2.2.2.2.2.1,x.2.2.2.2.2.2.1,x.2.2.2.2.2.2.2.1,f x.2.2.2.2.2.2.2.2)
def q2 {A0 A1 A2 B C:Type}(x:(A0×A1×A2×B)×C):A2:=x.1.2.2.1
def q3 {A0 A1 A2 A3 B C:Type}(x:(A0×A1×A2×A3×B)×C):A3:=x.1.2.2.2.1
def q4 {A0 A1 A2 A3 A4 B C:Type}(x:(A0×A1×A2×A3×A4×B)×C):A4:=x.1.2.2.2.2.1
def q5 {A0 A1 A2 A3 A4 A5 B C:Type}(x:(A0×A1×A2×A3×A4×A5×B)×C):A5:=x.1.2.2.2.2.2.1
def q6 {A0 A1 A2 A3 A4 A5 A6 B C:Type}(x:(A0×A1×A2×A3×A4×A5×A6×B)×C):A6:=x.1.2.2.2.2.2.2.1
def q7 {A0 A1 A2 A3 A4 A5 A6 A7 B C:Type}(x:(A0×A1×A2×A3×A4×A5×A6×A7×B)×C):A7:=x.1.2.2.2.2.2.2.2.1
def q8 {A0 A1 A2 A3 A4 A5 A6 A7 A8 B C:Type}(x:(A0×A1×A2×A3×A4×A5×A6×A7×A8×B)×C):A8:=x.1.2.2.2.2.2.2.2.2.1
def q9 {A0 A1 A2 A3 A4 A5 A6 A7 A8 A9 B C:Type}(x:(A0×A1×A2×A3×A4×A5×A6×A7×A8×A9×B)×C):A9:=x.1.2.2.2.2.2.2.2.2.2.1
def OA {A0 A1 A2 A3 A4 A5 A6 A7 A8 A9 A10 B C:Type}(x:(A0×A1×A2×A3×A4×A5×A6×A7×A8×A9×A10×B)×C):A10:=x.1.2.2.2.2.2.2.2.2.2.2.1
def c1 {A0 B R:Type}(f:A0→R)(a:A0×B):R:=f a.1
def c2 {A0 A1 B R:Type}(f:A0→A1→R)(a:A0×A1×B):R:=f a.1 a.2.1
def c3 {A0 A1 A2 B R:Type}(f:A0→A1→A2→R)(a:A0×A1×A2×B):R:=f a.1 a.2.1 a.2.2.1
def c4 {A0 A1 A2 A3 B R:Type}(f:A0→A1→A2→A3→R)(a:A0×A1×A2×A3×B):R:=f a.1 a.2.1 a.2.2.1 a.2.2.2.1
def c5 {A0 A1 A2 A3 A4 B R:Type}(f:A0→A1→A2→A3→A4→R)(a:A0×A1×A2×A3×A4×B):R:=f a.1 a.2.1 a.2.2.1 a.2.2.2.1 a.2.2.2.2.1
def c6 {A0 A1 A2 A3 A4 A5 B R:Type}(f:A0→A1→A2→A3→A4→A5→R)(a:A0×A1×A2×A3×A4×A5×B):R:=f a.1 a.2.1 a.2.2.1 a.2.2.2.1 a.2.2.2.2.1 a.2.2.2.2.2.1
def c7 {A0 A1 A2 A3 A4 A5 A6 B R:Type}(f:A0→A1→A2→A3→A4→A5→A6→R)(a:A0×A1×A2×A3×A4×A5×A6×B):R:=f a.1 a.2.1 a.2.2.1 a.2.2.2.1 a.2.2.2.2.1 a.2.2.2.2.2.1 a.2.2.2.2.2.2.1
theorem f0 {P:Program}{E:Env}{Γ:bH}{s:List PS}{rs:List (Bool×FT)}{F:AO s→Option (iq rs)}{f:Nat}{fn:Func}(an:An)(hS:Sound P E Γ)(hf:P.funcs[f]?=some fn)(hn:(fn.name== "runtime.NumGoroutine")=false:=by kernel_rfl)(hl:fT (fn.body.getD .skip)=[]:=by kernel_rfl)(hF:∀a,Kw E Γ an bN.nil fn rs (ki s a)=F a:=by intro a;kernel_rfl):aA P f (au s rs F):=aA.of (aij hS hf hn (Fn.hF hl nF)) hF
abbrev Y13:FT:=.pair (.int .i64) (.pair (.int .i64) (.pair (.int .i64) (.pair (.int .i64) .str)))
abbrev Y22:FT:=.pair (.int .i64) (.pair (.int .i64) Y13)
abbrev Y0:FT:=.pair (.int .i64) (.pair (.int .i64) (.pair (.int .i64) (.pair (.int .i64) (.pair (.int .i64) (.pair (.int .i64) (.pair (.int .i64) (.pair (.int .i64) (.pair (.int .i64) Y22))))))))
abbrev Y4:FT:=.pair (.int .i64) (.pair (.int .i64) (.int .i64))
abbrev Y1:FT:=.pair (.int .i64) Y4
abbrev Y9:FT:=.pair (.int .i64) (.pair (.int .i64) (.pair (.int .i64) (.sl (.own none) (.int .i64))))
abbrev Y24:FT:=.pair Y1 (.pair Y9 (.pair (.sl (.own none) dA) (.int .i64)))
abbrev Y17:FT:=.pair (.int .i64) (.pair .bool (.sl (.own none) (.int .i64)))
abbrev Y18:FT:=.pair (.sl (.own none) dw) (.pair (.sl (.own none) cS) (.pair .str (.sl (.own none) (.int .i64))))
abbrev Y2:FT:=.pair (.sl (.own none) .str) (.pair (.sl (.own none) bg) (.pair Y24 (.pair (.sl (.own none) bt) (.pair (.sl (.own none) dF) (.pair (.sl (.own none) cl) (.pair (.sl (.own none) .bool) (.pair Y17 (.pair Y18 (.pair (.sl (.own none) cu) (.pair .bool (.pair (.sl (.own none) .str) (.pair (.sl (.own none) (.int .i64)) (.pair (.sl (.own none) (.int .i64)) (.pair (.int .i64) Y1))))))))))))))
abbrev Y16:FT:=.pair (.int .i64) (.pair (.int .i64) (.pair (.int .i64) (.sl .arg (.int .i64))))
abbrev Y25:FT:=.pair Y1 (.pair Y16 (.pair (.sl .arg dA) (.int .i64)))
abbrev Y21:FT:=.pair (.int .i64) (.pair .bool (.sl .arg (.int .i64)))
abbrev Y20:FT:=.pair (.sl .arg dw) (.pair (.sl .arg cS) (.pair .str (.sl .arg (.int .i64))))
abbrev Y3:FT:=.pair (.sl .arg .str) (.pair (.sl .arg bg) (.pair Y25 (.pair (.sl .arg bt) (.pair (.sl .arg dF) (.pair (.sl .arg cl) (.pair (.sl .arg .bool) (.pair Y21 (.pair Y20 (.pair (.sl .arg cu) (.pair .bool (.pair (.sl .arg .str) (.pair (.sl .arg (.int .i64)) (.pair (.sl .arg (.int .i64)) (.pair (.int .i64) Y1))))))))))))))
abbrev Y5:FT:=.pair (.sl (.own (some 24577)) .str) (.pair (.sl (.own (some 24580)) bg) (.pair (.pair Y1 (.pair (.pair (.int .i64) (.pair (.int .i64) (.pair (.int .i64) (.sl (.own (some 24604)) (.int .i64))))) (.pair (.sl (.own (some 24607)) dA) (.int .i64)))) (.pair (.sl (.own (some 24613)) bt) (.pair (.sl (.own (some 24616)) dF) (.pair (.sl (.own (some 24619)) cl) (.pair (.sl (.own (some 24622)) .bool) (.pair (.pair (.int .i64) (.pair .bool (.sl (.own (some 24631)) (.int .i64)))) (.pair (.pair (.sl (.own (some 24634)) dw) (.pair (.sl (.own (some 24637)) cS) (.pair .str (.sl (.own (some 24643)) (.int .i64))))) (.pair (.sl (.own (some 24646)) cu) (.pair .bool (.pair (.sl (.own (some 24652)) .str) (.pair (.sl (.own (some 24655)) (.int .i64)) (.pair (.sl (.own (some 24658)) (.int .i64)) (.pair (.int .i64) Y1))))))))))))))
abbrev Y6:FT:=.pair (.sl (.own none) cv) (.pair (.sl (.own none) aC) (.pair (.sl (.own none) bq) (.pair (.sl (.own none) .str) (.pair Y1 (.pair (.sl (.own none) (.int .i64)) (.sl (.own none) .str))))))
abbrev Y7:FT:=.pair (.sl (.own (some 1)) .str) (.pair (.sl (.own (some 4)) bg) (.pair (.pair Y1 (.pair (.pair (.int .i64) (.pair (.int .i64) (.pair (.int .i64) (.sl (.own (some 28)) (.int .i64))))) (.pair (.sl (.own (some 31)) dA) (.int .i64)))) (.pair (.sl (.own (some 37)) bt) (.pair (.sl (.own (some 40)) dF) (.pair (.sl (.own (some 43)) cl) (.pair (.sl (.own (some 46)) .bool) (.pair (.pair (.int .i64) (.pair .bool (.sl (.own (some 55)) (.int .i64)))) (.pair (.pair (.sl (.own (some 58)) dw) (.pair (.sl (.own (some 61)) cS) (.pair .str (.sl (.own (some 67)) (.int .i64))))) (.pair (.sl (.own (some 70)) cu) (.pair .bool (.pair (.sl (.own (some 76)) .str) (.pair (.sl (.own (some 79)) (.int .i64)) (.pair (.sl (.own (some 82)) (.int .i64)) (.pair (.int .i64) Y1))))))))))))))
abbrev Y8:FT:=.pair (.sl (.own (some 36865)) .str) (.pair (.sl (.own (some 36868)) bg) (.pair (.pair Y1 (.pair (.pair (.int .i64) (.pair (.int .i64) (.pair (.int .i64) (.sl (.own (some 36892)) (.int .i64))))) (.pair (.sl (.own (some 36895)) dA) (.int .i64)))) (.pair (.sl (.own (some 36901)) bt) (.pair (.sl (.own (some 36904)) dF) (.pair (.sl .arg cl) (.pair (.sl .arg .bool) (.pair Y21 (.pair Y20 (.pair (.sl .arg cu) (.pair .bool (.pair (.sl .arg .str) (.pair (.sl .arg (.int .i64)) (.pair (.sl .arg (.int .i64)) (.pair (.int .i64) Y1))))))))))))))
abbrev Y10:FT:=.pair (.sl (.own (some 36865)) cv) (.pair (.sl (.own (some 36868)) aC) (.pair (.sl (.own (some 36871)) bq) (.pair (.sl (.own (some 36874)) .str) (.pair Y1 (.pair (.sl (.own (some 36889)) (.int .i64)) (.sl (.own (some 36892)) .str))))))
abbrev Y11:FT:=.pair (.sl (.own (some 24577)) cv) (.pair (.sl (.own (some 24580)) aC) (.pair (.sl (.own (some 24583)) bq) (.pair (.sl (.own (some 24586)) .str) (.pair Y1 (.pair (.sl (.own (some 24601)) (.int .i64)) (.sl (.own (some 24604)) .str))))))
abbrev Y12:FT:=.pair (.sl .arg cv) (.pair (.sl .arg aC) (.pair (.sl .arg bq) (.pair (.sl .arg .str) (.pair Y1 (.pair (.sl .arg (.int .i64)) (.sl .arg .str))))))
abbrev Y23:FT:=.pair Y0 (.pair (.int .i64) (.int .i64))
abbrev Y14:FT:=.pair Y1 (.pair Y4 (.pair Y4 (.pair Y23 (.pair .bool (.int .i64)))))
abbrev Y15:FT:=.pair (.int .i64) (.pair (.int .i64) (.pair (.int .i64) (.pair (.int .i64) (.pair .bool .bool))))
abbrev Y19:FT:=.pair (.int .i64) (.pair (.int .i64) (.pair Y4 (.pair .bool (.pair (.int .i64) (.int .i64)))))
abbrev Y26:FT:=.pair (.int .i64) (.pair (.int .i64) Y1)
abbrev Y27:FT:=.pair (.int .i64) (.pair (.int .i64) (.pair (.int .i64) .bool))
def E:Env:={ty:=[(3,⟨false,(.int .i64),[]⟩),(4,⟨false,.bool,[]⟩),(5,⟨false,(.int .u8),[]⟩),(9,⟨false,.str,[]⟩),(22,⟨false,(.sl cv),[(146,0)]⟩),(23,⟨false,(.sl aC),[(167,0)]⟩),(24,⟨false,(.sl bq),[(149,0)]⟩),(25,⟨false,(.sl .str),[(9,0)]⟩),(27,⟨true,(.sl .str),[(0,1)]⟩),(29,⟨true,eY,[(0,1),(1,1),(2,1),(3,1)]⟩),(30,⟨false,(.sl (.int .i64)),[(3,0)]⟩),(32,⟨true,dQ,[(0,1),(1,1),(2,1),(3,1),(4,4),(8,1),(9,1)]⟩),(34,⟨true,gE,[(0,1),(1,1),(2,1),(3,1),(4,1),(5,1),(6,1),(7,1)]⟩),(36,⟨true,cd,[(0,1),(1,1),(2,1),(3,1),(4,1),(5,1),(6,1),(7,1),(8,8)]⟩),(39,⟨false,(.sl cv),[(111,0)]⟩),(40,⟨false,(.sl aC),[(162,0)]⟩),(41,⟨false,(.sl bq),[(152,0)]⟩),(42,⟨true,(.sl .str),[(0,1)]⟩),(43,⟨true,eY,[(0,1),(1,1),(2,1),(3,1)]⟩),(45,⟨true,dQ,[(0,1),(1,1),(2,1),(3,1),(4,4),(8,1),(9,1)]⟩),(48,⟨true,gE,[(0,1),(1,1),(2,1),(3,1),(4,1),(5,1),(6,1),(7,1)]⟩),(50,⟨true,cd,[(0,1),(1,1),(2,1),(3,1),(4,1),(5,1),(6,1),(7,1),(8,8)]⟩),(75,⟨false,(.sl fy),[(175,0)]⟩),(84,⟨true,(.sl .str),[(0,1)]⟩),(85,⟨false,(.sl bg),[(292,0)]⟩),(87,⟨true,eY,[(0,1),(1,1),(2,1),(3,1)]⟩),(89,⟨true,dF,[(0,1),(1,1),(2,1),(3,1)]⟩),(90,⟨false,(.sl dA),[(294,0)]⟩),(92,⟨true,fO,[(0,4),(4,4),(8,1),(9,1)]⟩),(93,⟨false,(.sl bt),[(191,0)]⟩),(94,⟨false,(.sl dF),[(89,0)]⟩),(95,⟨false,(.sl cl),[(236,0)]⟩),(96,⟨false,(.sl .bool),[(4,0)]⟩),(98,⟨true,fw,[(0,1),(1,1),(2,1)]⟩),(99,⟨false,(.sl dw),[(266,0)]⟩),(100,⟨false,(.sl cS),[(272,0)]⟩),(102,⟨true,(.sl cS),[(0,1)]⟩),(104,⟨true,ia,[(0,1),(1,1)]⟩),(106,⟨true,eL,[(0,1),(1,1),(2,2)]⟩),(107,⟨false,(.sl cu),[(296,0)]⟩),(109,⟨true,fc,[(0,1),(1,1),(2,1),(3,1),(4,1)]⟩),(111,⟨true,cv,[(0,1),(1,1),(2,10),(12,1),(13,1),(14,1),(15,1),(16,3),(19,4),(23,1),(24,1),(25,1),(26,1),(27,1),(28,5)]⟩),(125,⟨true,(.sl .str),[(0,1)]⟩),(126,⟨false,(.sl bg),[(323,0)]⟩),(127,⟨true,eY,[(0,1),(1,1),(2,1),(3,1)]⟩),(128,⟨true,dF,[(0,1),(1,1),(2,1),(3,1)]⟩),(129,⟨false,(.sl dA),[(368,0)]⟩),(131,⟨true,fO,[(0,4),(4,4),(8,1),(9,1)]⟩),(132,⟨false,(.sl bt),[(304,0)]⟩),(133,⟨false,(.sl dF),[(128,0)]⟩),(134,⟨false,(.sl cl),[(329,0)]⟩),(135,⟨true,fw,[(0,1),(1,1),(2,1)]⟩),(136,⟨false,(.sl dw),[(379,0)]⟩),(137,⟨false,(.sl cS),[(405,0)]⟩),(139,⟨true,(.sl cS),[(0,1)]⟩),(140,⟨true,ia,[(0,1),(1,1)]⟩),(142,⟨true,eL,[(0,1),(1,1),(2,2)]⟩),(143,⟨false,(.sl cu),[(311,0)]⟩),(144,⟨true,fc,[(0,1),(1,1),(2,1),(3,1),(4,1)]⟩),(146,⟨true,cv,[(0,1),(1,1),(2,10),(12,1),(13,1),(14,1),(15,1),(16,3),(19,4),(23,1),(24,1),(25,1),(26,1),(27,1),(28,5)]⟩),(149,⟨true,bq,[(0,3),(3,1),(4,1),(5,1)]⟩),(152,⟨true,bq,[(0,3),(3,1),(4,1),(5,1)]⟩),(160,⟨true,eu,[(0,1),(1,1),(2,1)]⟩),(162,⟨true,aC,[(0,1),(1,1),(2,3),(5,1),(6,1),(7,1)]⟩),(165,⟨true,eu,[(0,1),(1,1),(2,1)]⟩),(167,⟨true,aC,[(0,1),(1,1),(2,3),(5,1),(6,1),(7,1)]⟩),(175,⟨true,fy,[(0,1),(1,1),(2,1),(3,1)]⟩),(187,⟨true,eu,[(0,1),(1,1),(2,1)]⟩),(189,⟨true,nD,[(0,16),(16,1),(17,1)]⟩),(191,⟨true,bt,[(0,4),(4,3),(7,3),(10,18),(28,1),(29,1)]⟩),(236,⟨true,cl,[(0,1),(1,1),(2,1),(3,1),(4,1),(5,1)]⟩),(257,⟨true,Zw,[(0,1),(1,1),(2,1),(3,1),(4,1),(5,1),(6,1)]⟩),(260,⟨true,R1,[(0,1),(1,1),(2,1),(3,1),(4,1)]⟩),(262,⟨false,(.sl (.int .u8)),[(5,0)]⟩),(266,⟨true,dw,[(0,1),(1,1),(2,1),(3,1),(4,1),(5,1),(6,1),(7,1),(8,1)]⟩),(269,⟨true,fc,[(0,1),(1,1),(2,1),(3,1),(4,1)]⟩),(272,⟨true,cS,[(0,1),(1,5),(6,1)]⟩),(292,⟨true,bg,[(0,1),(1,1),(2,1),(3,1)]⟩),(294,⟨true,dA,[(0,1),(1,1),(2,1)]⟩),(296,⟨true,cu,[(0,5),(5,1),(6,1),(7,1)]⟩),(300,⟨true,eu,[(0,1),(1,1),(2,1)]⟩),(302,⟨true,nD,[(0,16),(16,1),(17,1)]⟩),(304,⟨true,bt,[(0,4),(4,3),(7,3),(10,18),(28,1),(29,1)]⟩),(309,⟨true,fc,[(0,1),(1,1),(2,1),(3,1),(4,1)]⟩),(311,⟨true,cu,[(0,5),(5,1),(6,1),(7,1)]⟩),(323,⟨true,bg,[(0,1),(1,1),(2,1),(3,1)]⟩),(329,⟨true,cl,[(0,1),(1,1),(2,1),(3,1),(4,1),(5,1)]⟩),(343,⟨false,(.int .u32),[]⟩),(368,⟨true,dA,[(0,1),(1,1),(2,1)]⟩),(379,⟨true,dw,[(0,1),(1,1),(2,1),(3,1),(4,1),(5,1),(6,1),(7,1),(8,1)]⟩),(388,⟨true,HV,[(0,1),(1,1),(2,1),(3,1),(4,1),(5,1)]⟩),(394,⟨true,fc,[(0,1),(1,1),(2,1),(3,1),(4,1)]⟩),(405,⟨true,cS,[(0,1),(1,5),(6,1)]⟩),(408,⟨false,(.sl (.pair (.int .i64) (.int .i64))),[(412,0)]⟩),(412,⟨true,(.pair (.int .i64) (.int .i64)),[(0,1),(1,1)]⟩)],eqs:=[(50,[.int,.int,.int,.int,.int,.int,.int,.int,.int,.int,.int,.int,.int,.int,.int,.str]),(189,[.int,.int,.int,.int,.int,.int,.int,.int,.int,.int,.int,.int,.int,.int,.int,.str,.int,.int]),(269,[.int,.int,.int,.int,.int])],fts:=[]}
theorem base:Sound Tryz.prog E bH.nil:=Sound.nil (M6 (by kernel_rfl)) (M9 (by kernel_rfl)) (M8 (by kernel_rfl)) (by kernel_rfl)
def e17:aD:=au [pd (.sl (.int .i64)),pI] [rI] (c2 Pu.iM)
theorem o17:aA Tryz.prog 17 e17:=f0 {} base Tryz.func17
def e18:aD:=au [pd (.sl .str),pI] [rI] (c2 Pu.jH)
def g18:bH:=bH.nil
def n18:An:={mask:=mk [(5,[0,1,4,5])]}
abbrev LP:SD:=⟨.data false (.sl .arg .str)::DI::B::B::DI::DI::bs 22 [],zs 28 [],.none⟩
def ZI {R:Type}(X:SD.D LP)(K:Ex→AS→Option R):=Pu.vW (λy0 y1=>ke 0 K LP ((z1 (w y0 (z1 (u y1))) X.1),X.2)) (λy0 y1 y2=>kr K LP ((z1 (w y0 (w y1 (u y2))) X.1),X.2)) X.1.1 (q2 X)
def ajp:bG:=dT LP ZI (λX=>(X.1.2.1,q3 X))
def L18:bN:=(bN.nil).add 5 ajp
theorem aiG:dP E g18 n18 L18 (az Tryz.f18 0):=lk LP ZI (λX=>(X.1.2.1,q3 X)) λX x=>((z1 (w x.1 (z1 (u x.2))) X.1),X.2)
theorem o18:aA Tryz.prog 18 e18:=fk n18 base Tryz.func18 (Λ:=L18) (cF aiG nF)
def amS:aD:=au [pf (.sl .str),pI] [rI] (c2 Pu.sB)
theorem arO:aA Tryz.prog 127 amS:=f0 {} (base.add o18) Tryz.func127
def amT:aD:=au [pd (.sl bg),pI] [rI] (c2 Pu.tE)
theorem arP:aA Tryz.prog 128 amT:=f0 {} base Tryz.func128
def ahr:aD:=au [pf dF,pI] [rI] (c2 Pu.pw)
theorem alV:aA Tryz.prog 231 ahr:=f0 {} (base.add o17) Tryz.func231
def ahQ:aD:=au [pf dA,pI] [rI] (c2 Pu.tf)
theorem atO:aA Tryz.prog 317 ahQ:=f0 {} (base.add o17) Tryz.func317
def anX:aD:=au [pd (.sl dA),pI] [rI] (c2 Pu.xM)
def aqG:bH:=bH.nil.add 317 ahQ
def akU:An:={mask:=mk [(5,[0,1,4,5])]}
abbrev Fs:SD:=⟨.data false (.sl .arg dA)::DI::B::B::DI::DI::bs 21 [],zs 27 [],.none⟩
def W5 {R:Type}(X:SD.D Fs)(K:Ex→AS→Option R):=Pu.yA (λy0 y1=>ke 0 K Fs ((z1 (w y0 (z1 (u y1))) X.1),X.2)) (λy0 y1 y2=>kr K Fs ((z1 (w y0 (w y1 (u y2))) X.1),X.2)) X.1.1 (q2 X)
def adO:bG:=dT Fs W5 (λX=>(X.1.2.1,q3 X))
def afW:bN:=(bN.nil).add 5 adO
theorem abY:dP E aqG akU afW (az Tryz.f232 0):=lk Fs W5 (λX=>(X.1.2.1,q3 X)) λX x=>((z1 (w x.1 (z1 (u x.2))) X.1),X.2)
theorem asU:aA Tryz.prog 232 anX:=fk akU (base.add atO) Tryz.func232 (Λ:=afW) (cF abY nF)
def amU:aD:=au [pf fO,pI] [rI] (c2 Pu.qH)
theorem arQ:aA Tryz.prog 129 amU:=f0 {} ((base.add alV).add asU) Tryz.func129
def e19:aD:=au [pf gE,pI] [rI] (c2 Pu.qG)
theorem o19:aA Tryz.prog 19 e19:=f0 {} base Tryz.func19
def e5:aD:=au [pf cd,pI] [rI] (c2 Pu.n6)
theorem o5:aA Tryz.prog 5 e5:=f0 {} (base.add o19) Tryz.func5
def aoU:aD:=au [pf nD,pI] [rI] (c2 Pu.uh)
theorem atP:aA Tryz.prog 318 aoU:=f0 {} (base.add o5) Tryz.func318
def ahs:aD:=au [pf bt,pI] [rI] (c2 Pu.mm)
theorem asV:aA Tryz.prog 233 ahs:=f0 {} (base.add atP) Tryz.func233
def amV:aD:=au [pd (.sl bt),pI] [rI] (c2 Pu.tF)
def aqd:bH:=bH.nil.add 233 ahs
def akq:An:={mask:=mk [(5,[0,1,4,5])]}
abbrev EY:SD:=⟨.data false (.sl .arg bt)::DI::B::B::DI::DI::bs 21 [],zs 27 [],.none⟩
def Wp {R:Type}(X:SD.D EY)(K:Ex→AS→Option R):=Pu.vd (λy0 y1=>ke 0 K EY ((z1 (w y0 (z1 (u y1))) X.1),X.2)) (λy0 y1 y2=>kr K EY ((z1 (w y0 (w y1 (u y2))) X.1),X.2)) X.1.1 (q2 X)
def ac8:bG:=dT EY Wp (λX=>(X.1.2.1,q3 X))
def afs:bN:=(bN.nil).add 5 ac8
theorem abj:dP E aqd akq afs (az Tryz.f130 0):=lk EY Wp (λX=>(X.1.2.1,q3 X)) λX x=>((z1 (w x.1 (z1 (u x.2))) X.1),X.2)
theorem arR:aA Tryz.prog 130 amV:=fk akq (base.add asV) Tryz.func130 (Λ:=afs) (cF abj nF)
def amW:aD:=au [pd (.sl dF),pI] [rI] (c2 Pu.xK)
def aqe:bH:=bH.nil.add 231 ahr
def akr:An:={mask:=mk [(5,[0,1,4,5])]}
abbrev EZ:SD:=⟨.data false (.sl .arg dF)::DI::B::B::DI::DI::bs 21 [],zs 27 [],.none⟩
def Wq {R:Type}(X:SD.D EZ)(K:Ex→AS→Option R):=Pu.yz (λy0 y1=>ke 0 K EZ ((z1 (w y0 (z1 (u y1))) X.1),X.2)) (λy0 y1 y2=>kr K EZ ((z1 (w y0 (w y1 (u y2))) X.1),X.2)) X.1.1 (q2 X)
def ac9:bG:=dT EZ Wq (λX=>(X.1.2.1,q3 X))
def aft:bN:=(bN.nil).add 5 ac9
theorem abk:dP E aqe akr aft (az Tryz.f131 0):=lk EZ Wq (λX=>(X.1.2.1,q3 X)) λX x=>((z1 (w x.1 (z1 (u x.2))) X.1),X.2)
theorem arS:aA Tryz.prog 131 amW:=fk akr (base.add alV) Tryz.func131 (Λ:=aft) (cF abk nF)
def amX:aD:=au [pd (.sl cl),pI] [rI] (c2 Pu.vf)
theorem arT:aA Tryz.prog 132 amX:=f0 {} base Tryz.func132
def amY:aD:=au [pd (.sl .bool),pI] [rI] (c2 Pu.xI)
theorem arU:aA Tryz.prog 133 amY:=f0 {} base Tryz.func133
def amZ:aD:=au [pf fw,pI] [rI] (c2 Pu.n5)
theorem alA:aA Tryz.prog 134 amZ:=f0 {} (base.add o17) Tryz.func134
def anY:aD:=au [pd (.sl dw),pI] [rI] (c2 Pu.xL)
theorem asW:aA Tryz.prog 234 anY:=f0 {} base Tryz.func234
def aoV:aD:=au [pd (.sl cS),pI] [rI] (c2 Pu.xN)
theorem atQ:aA Tryz.prog 319 aoV:=f0 {} base Tryz.func319
def anZ:aD:=au [pf (.sl cS),pI] [rI] (c2 Pu.nf)
theorem asX:aA Tryz.prog 235 anZ:=f0 {} (base.add atQ) Tryz.func235
def an0:aD:=au [pf ia,pI] [rI] (c2 Pu.sC)
theorem asY:aA Tryz.prog 236 an0:=f0 {} (base.add o17) Tryz.func236
def am0:aD:=au [pf eL,pI] [rI] (c2 Pu.oI)
theorem arV:aA Tryz.prog 135 am0:=f0 {} (((base.add asW).add asX).add asY) Tryz.func135
def aht:aD:=au [pf cu,pI] [rI] (c2 Pu.n7)
theorem asZ:aA Tryz.prog 237 aht:=f0 {} base Tryz.func237
def am1:aD:=au [pd (.sl cu),pI] [rI] (c2 Pu.ve)
def aqf:bH:=bH.nil.add 237 aht
def aks:An:={mask:=mk [(5,[0,1,4,5])]}
abbrev E0:SD:=⟨.data false (.sl .arg cu)::DI::B::B::DI::DI::bs 21 [],zs 27 [],.none⟩
def Wr {R:Type}(X:SD.D E0)(K:Ex→AS→Option R):=Pu.vV (λy0 y1=>ke 0 K E0 ((z1 (w y0 (z1 (u y1))) X.1),X.2)) (λy0 y1 y2=>kr K E0 ((z1 (w y0 (w y1 (u y2))) X.1),X.2)) X.1.1 (q2 X)
def ada:bG:=dT E0 Wr (λX=>(X.1.2.1,q3 X))
def afu:bN:=(bN.nil).add 5 ada
theorem abl:dP E aqf aks afu (az Tryz.f136 0):=lk E0 Wr (λX=>(X.1.2.1,q3 X)) λX x=>((z1 (w x.1 (z1 (u x.2))) X.1),X.2)
theorem arW:aA Tryz.prog 136 am1:=fk aks (base.add asZ) Tryz.func136 (Λ:=afu) (cF abl nF)
def e60:aD:=au [pf cv,pI] [rI] (c2 Pu.td)
theorem o60:aA Tryz.prog 60 e60:=f0 {} ((((((((((((base.add o17).add o18).add arO).add arP).add arQ).add arR).add arS).add arT).add arU).add alA).add arV).add arW) Tryz.func60
def e13:aD:=au [pd (.sl cv),pI] [rI] (c2 Pu.xJ)
def g13:bH:=bH.nil.add 60 e60
def n13:An:={mask:=mk [(5,[0,1,4,5])]}
abbrev LN:SD:=⟨.data false (.sl .arg cv)::DI::B::B::DI::DI::bs 21 [],zs 27 [],.none⟩
def ZG {R:Type}(X:SD.D LN)(K:Ex→AS→Option R):=Pu.yy (λy0 y1=>ke 0 K LN ((z1 (w y0 (z1 (u y1))) X.1),X.2)) (λy0 y1 y2=>kr K LN ((z1 (w y0 (w y1 (u y2))) X.1),X.2)) X.1.1 (q2 X)
def ajn:bG:=dT LN ZG (λX=>(X.1.2.1,q3 X))
def L13:bN:=(bN.nil).add 5 ajn
theorem aiE:dP E g13 n13 L13 (az Tryz.f13 0):=lk LN ZG (λX=>(X.1.2.1,q3 X)) λX x=>((z1 (w x.1 (z1 (u x.2))) X.1),X.2)
theorem o13:aA Tryz.prog 13 e13:=fk n13 (base.add o60) Tryz.func13 (Λ:=L13) (cF aiE nF)
def e14:aD:=au [pd (.sl aC),pI] [rI] (c2 Pu.jI)
theorem o14:aA Tryz.prog 14 e14:=f0 {} base Tryz.func14
def e61:aD:=au [pf bq,pI] [rI] (c2 Pu.ml)
theorem o61:aA Tryz.prog 61 e61:=f0 {} (base.add alA) Tryz.func61
def e15:aD:=au [pd (.sl bq),pI] [rI] (c2 Pu.tD)
def g15:bH:=bH.nil.add 61 e61
def n15:An:={mask:=mk [(5,[0,1,4,5])]}
abbrev LO:SD:=⟨.data false (.sl .arg bq)::DI::B::B::DI::DI::bs 21 [],zs 27 [],.none⟩
def ZH {R:Type}(X:SD.D LO)(K:Ex→AS→Option R):=Pu.vc (λy0 y1=>ke 0 K LO ((z1 (w y0 (z1 (u y1))) X.1),X.2)) (λy0 y1 y2=>kr K LO ((z1 (w y0 (w y1 (u y2))) X.1),X.2)) X.1.1 (q2 X)
def ajo:bG:=dT LO ZH (λX=>(X.1.2.1,q3 X))
def L15:bN:=(bN.nil).add 5 ajo
theorem aiF:dP E g15 n15 L15 (az Tryz.f15 0):=lk LO ZH (λX=>(X.1.2.1,q3 X)) λX x=>((z1 (w x.1 (z1 (u x.2))) X.1),X.2)
theorem o15:aA Tryz.prog 15 e15:=fk n15 (base.add o61) Tryz.func15 (Λ:=L15) (cF aiF nF)
def e16:aD:=au [pf (.sl .str),pI] [rI] (c2 Pu.ug)
theorem o16:aA Tryz.prog 16 e16:=f0 {} (base.add o18) Tryz.func16
def e4:aD:=au [pf dQ,pI] [rI] (c2 Pu.vU)
theorem o4:aA Tryz.prog 4 e4:=f0 {} ((((((base.add o13).add o14).add o15).add o16).add o17).add o18) Tryz.func4
def X8:aD:=au [pf (.sl .str)] [(true,(.sl (.own none) .str))] (c1 Pu.eg)
theorem PU:aA Tryz.prog 137 X8:=f0 {} base Tryz.func137
def aaF:aD:=au [pf dF] [(true,Y9)] (c1 Pu.kE)
theorem aeJ:aA Tryz.prog 139 aaF:=f0 {sb:=mg [(2,2)]} base Tryz.func139
def ag3:aD:=au [pf fO] [(true,Y24)] (c1 Pu.uB)
def aqg:bH:=bH.nil.add 139 aaF
def akt:An:={mask:=mk [(3,[1,2,3,4])],mv:=[27,40],mb:=mg [(27,3)],sb:=mg [(3,3),(39,3)]}
abbrev JI:SD:=⟨B::.ptr 1 0::.ptr 2 0::.ptr 3 0::DI::bs 36 [],Z::(some Y25)::(some (.pair Y1 (.pair (.pair (.int .i64) (.pair (.int .i64) (.pair (.int .i64) (.sl (.own (some 24598)) (.int .i64))))) (.pair (.sl (.own (some 24601)) dA) (.int .i64)))))::(some (.pair Y1 (.pair (.pair (.int .i64) (.pair (.int .i64) (.pair (.int .i64) (.sl (.own (some 36886)) (.int .i64))))) (.pair (.sl (.own (some 36889)) dA) (.int .i64)))))::zs 37 [],.none⟩
def Ws {R:Type}(X:SD.D JI)(K:Ex→AS→Option R):=Pu.oU (λy0 y1=>ke 0 K JI ((u y0 X.1),(z2 (u y1) X.2.1),X.2.2)) X.2.1.1 X.2.1.2.1
def adb:bG:=dT JI Ws (λX=>(X.1.1,X.2.1.2.2.1))
def afv:bN:=(bN.nil).add 3 adb
theorem abm:dP E aqg akt afv (az Tryz.f138 0):=lk JI Ws (λX=>(X.1.1,X.2.1.2.2.1)) λX x=>((u x.1 X.1),(z2 (u x.2) X.2.1),X.2.2)
theorem arX:aA Tryz.prog 138 ag3:=fk akt (base.add aeJ) Tryz.func138 (Λ:=afv) (cF abm nF)
def ag4:aD:=au [pf fw] [(true,Y17)] (c1 Pu.rn)
theorem alB:aA Tryz.prog 140 ag4:=f0 {sb:=mg [(2,2)]} base Tryz.func140
def an1:aD:=au [pf (.sl cS)] [(true,(.sl (.own none) cS))] (c1 Pu.uy)
theorem as0:aA Tryz.prog 238 an1:=f0 {} base Tryz.func238
def ag5:aD:=au [pf eL] [(true,Y18)] (c1 Pu.uz)
theorem arY:aA Tryz.prog 141 ag5:=f0 {sb:=mg [(2,2)]} (base.add as0) Tryz.func141
def e62:aD:=au [pf cv] [(true,Y2)] (c1 Pu.rq)
def g62:bH:=((((bH.nil.add 137 X8).add 138 ag3).add 139 aaF).add 140 ag4).add 141 ag5
def n62:An:={mask:=mk [(8,[1,2,3,4])],mv:=[34,82],mb:=mg [(34,3)],sb:=mg [(43,3)]}
abbrev QT:SD:=⟨B::.ptr 1 0::.ptr 2 0::.ptr 3 0::DI::bs 78 [],Z::(some Y3)::(some Y5)::(some Y8)::zs 79 [],.none⟩
def aaa {R:Type}(X:SD.D QT)(K:Ex→AS→Option R):=Pu.oV (λy0 y1=>ke 0 K QT ((u y0 X.1),(z2 (u y1) X.2.1),X.2.2)) X.2.1.1 X.2.1.2.1
def ajR:bG:=dT QT aaa (λX=>(X.1.1,X.2.1.2.2.1))
def L62:bN:=(bN.nil).add 8 ajR
theorem ai8:dP E g62 n62 L62 (az Tryz.f62 0):=lk QT aaa (λX=>(X.1.1,X.2.1.2.2.1)) λX x=>((u x.1 X.1),(z2 (u x.2) X.2.1),X.2.2)
theorem o62:aA Tryz.prog 62 e62:=fk n62 (((((base.add PU).add arX).add aeJ).add alB).add arY) Tryz.func62 (Λ:=L62) (cF ai8 nF)
def e63:aD:=au [pf bq] [(true,(.pair Y17 Y4))] (c1 Pu.uC)
theorem o63:aA Tryz.prog 63 e63:=f0 {mv:=[7]} (base.add alB) Tryz.func63
def e20:aD:=au [pf dQ] [(true,Y6)] (c1 Pu.uD)
def g20:bH:=(bH.nil.add 62 e62).add 63 e63
def n20:An:={mask:=mk [(3,[1,2,3,4]),(7,[1,2,3,5])],mv:=[35,53,63],mb:=mg [(35,3),(53,3)],sb:=mg [(3,3),(44,3),(62,3)]}
abbrev QF:SD:=⟨B::.ptr 1 0::.ptr 2 0::.ptr 3 0::DI::bs 59 [],Z::(some Y12)::(some Y11)::(some Y10)::zs 60 [],.none⟩
def ZJ {R:Type}(X:SD.D QF)(K:Ex→AS→Option R):=Pu.oW (λy0 y1=>ke 0 K QF ((u y0 X.1),(z2 (u y1) X.2.1),X.2.2)) X.2.1.1 X.2.1.2.1
def ajq:bG:=dT QF ZJ (λX=>(X.1.1,X.2.1.2.2.1))
abbrev QG:SD:=⟨B::.ptr 1 0::.ptr 2 0::.ptr 3 0::B::DI::bs 58 [],Z::(some Y12)::(some Y11)::(some Y10)::zs 60 [],.none⟩
def ZK {R:Type}(X:SD.D QG)(K:Ex→AS→Option R):=Pu.oX (λy0 y1=>ke 2 K QG ((u y0 X.1),(z2 (u y1) X.2.1),X.2.2)) X.2.1.1 X.2.1.2.1
def ajr:bG:=dT QG ZK (λX=>(X.1.1,X.2.1.2.2.1))
def L20:bN:=((bN.nil).add 3 ajq).add 7 ajr
theorem aiH:dP E g20 n20 L20 (az Tryz.f20 0):=lk QF ZJ (λX=>(X.1.1,X.2.1.2.2.1)) λX x=>((u x.1 X.1),(z2 (u x.2) X.2.1),X.2.2)
theorem aiI:dP E g20 n20 L20 (az Tryz.f20 1):=lk QG ZK (λX=>(X.1.1,X.2.1.2.2.1)) λX x=>((u x.1 X.1),(z2 (u x.2) X.2.1),X.2.2)
theorem o20:aA Tryz.prog 20 e20:=fk n20 ((base.add o62).add o63) Tryz.func20 (Λ:=L20) (cF aiH (cF aiI nF))
def CR:aD:=au [pI,pI,pI] [rB] (c3 Pu.aB)
theorem ll:aA Tryz.prog 142 CR:=f0 {merge:=mg [(1,6)]} base Tryz.func142
def aaJ:aD:=au [pf fw] [rB] (c1 Pu.jf)
def aqj:bH:=bH.nil.add 142 CR
def akw:An:={mask:=mk [(2,[1,2,3])],merge:=mg [(4,35),(6,2)]}
abbrev E6:SD:=⟨B::.ptr 1 0::DB::DI::bs 41 [],Z::(some Y21)::zs 43 [],.none⟩
def WA {R:Type}(X:SD.D E6)(K:Ex→AS→Option R):=Pu.ni (λy0=>ke 0 K E6 ((z1 (u y0) X.1),X.2)) (λy0 y1=>kr K E6 ((w y0 (u y1) X.1),X.2)) X.1.1 X.2.1.1
def adl:bG:=dT E6 WA (λX=>X.1.2.1)
def afy:bN:=(bN.nil).add 2 adl
theorem abv:dP E aqj akw afy (az Tryz.f152 0):=lk E6 WA (λX=>X.1.2.1) λX x=>((z1 (u x) X.1),X.2)
theorem YK:aA Tryz.prog 152 aaJ:=fk akw (base.add ll) Tryz.func152 (Λ:=afy) (cF abv nF)
def ag6:aD:=au [pf bq] [rB] (c1 Pu.qZ)
theorem arZ:aA Tryz.prog 143 ag6:=f0 {merge:=mg [(1,2)]} ((base.add ll).add YK) Tryz.func143
def X9:aD:=au [pd (.sl (.int .i64)),pI] [rB] (c2 Pu.fI)
def aqm:bH:=bH.nil
def akz:An:={mask:=mk [(2,[0,1,4,5])]}
abbrev Fb:SD:=⟨.data false (.sl .arg (.int .i64))::DI::B::B::DB::DI::bs 12 [],zs 18 [],.none⟩
def WG {R:Type}(X:SD.D Fb)(K:Ex→AS→Option R):=Pu.rp (λy0=>ke 0 K Fb ((z3 (u y0) X.1),X.2)) (λy0 y1=>kr K Fb ((z2 (w y0 (u y1)) X.1),X.2)) X.1.1 X.1.2.1 (q2 X)
def adq:bG:=dT Fb WG q3
def afB:bN:=(bN.nil).add 2 adq
theorem abA:dP E aqm akz afB (az Tryz.f159 0):=lk Fb WG q3 λX x=>((z3 (u x) X.1),X.2)
theorem S2:aA Tryz.prog 159 X9:=fk akz base Tryz.func159 (Λ:=afB) (cF abA nF)
def ag7:aD:=au [pd (.sl (.int .i64)),pd (.sl (.int .i64))] [(false,(.sl (.own none) (.int .i64)))] (c2 Pu.ow)
def aiu:bH:=bH.nil.add 159 X9
def aeB:An:={mask:=mk [(3,[1,5,6]),(7,[1,5,6,7])],merge:=mg [(7,37)],mv:=[55]}
abbrev JK:SD:=⟨B::.data false (.sl .arg (.int .i64))::B::B::B::.data false (.sl (.own (some 61440)) (.int .i64))::DI::DI::bs 48 [],zs 56 [],.none⟩
def Wu {R:Type}(X:SD.D JK)(K:Ex→AS→Option R):=Pu.nz (λy0=>ke 2 K JK ((z3 (u y0) X.1),X.2)) X.1.1 X.1.2.1 (q2 X)
def adf:bG:=dT JK Wu q3
abbrev JJ:SD:=⟨B::.data false (.sl .arg (.int .i64))::B::B::B::.data false (.sl (.own (some 61440)) (.int .i64))::DI::bs 49 [],zs 56 [],.none⟩
def Wt {R:Type}(X:SD.D JJ)(K:Ex→AS→Option R):=Pu.jZ (λy0 y1=>ke 0 K JJ ((z1 (w y0 (u y1)) X.1),X.2)) X.1.1
def ade:bG:=dT JJ Wt (λX=>(X.1.2.1,q2 X))
def aar:bN:=((bN.nil).add 7 adf).add 3 ade
theorem abo:dP E aiu aeB aar (az Tryz.f144 1):=lk JK Wu q3 λX x=>((z3 (u x) X.1),X.2)
theorem abn:dP E aiu aeB aar (az Tryz.f144 0):=lk JJ Wt (λX=>(X.1.2.1,q2 X)) λX x=>((z1 (w x.1 (u x.2)) X.1),X.2)
theorem ar0:aA Tryz.prog 144 ag7:=fk aeB (base.add S2) Tryz.func144 (Λ:=aar) (cF abn (cF abo nF))
def aaG:aD:=au [pd (.sl fy)] [rB] (c1 Pu.iS)
def aiv:bH:=((bH.nil.add 142 CR).add 152 aaJ).add 159 X9
def aeC:An:={mask:=mk [(4,[0,2,3]),(9,[0,2,3,4])]}
abbrev E2:SD:=⟨.data false (.sl .arg fy)::B::DB::DI::DI::bs 53 [],zs 58 [],.none⟩
def Ww {R:Type}(X:SD.D E2)(K:Ex→AS→Option R):=Pu.oP (λy0=>ke 2 K E2 ((z3 (u y0) X.1),X.2)) (λy0 y1=>kr K E2 ((z1 (w y0 (z1 (u y1))) X.1),X.2)) X.1.1 X.1.2.1 (q2 X)
def adh:bG:=dT E2 Ww q3
abbrev E1:SD:=⟨.data false (.sl .arg fy)::B::DB::DI::bs 54 [],zs 58 [],.none⟩
def Wv {R:Type}(X:SD.D E1)(K:Ex→AS→Option R):=Pu.oO (λy0=>ke 0 K E1 ((z2 (u y0) X.1),X.2)) (λy0 y1=>kr K E1 ((z1 (w y0 (u y1)) X.1),X.2)) X.1.1 X.1.2.1
def adg:bG:=dT E1 Wv q2
def aas:bN:=((bN.nil).add 9 adh).add 4 adg
theorem abq:dP E aiv aeC aas (az Tryz.f145 1):=lk E2 Ww q3 λX x=>((z3 (u x) X.1),X.2)
theorem abp:dP E aiv aeC aas (az Tryz.f145 0):=lk E1 Wv q2 λX x=>((z2 (u x) X.1),X.2)
theorem YJ:aA Tryz.prog 145 aaG:=fk aeC (((base.add ll).add YK).add S2) Tryz.func145 (Λ:=aas) (cF abp (cF abq nF))
def e64:aD:=au [pd (.sl bq)] [(false,(.sl (.own none) fy)),rB] (c1 Pu.re)
def g64:bH:=(((bH.nil.add 142 CR).add 143 ag6).add 144 ag7).add 145 aaG
def n64:An:={mask:=mk [(5,[0,2,3,4,5])],mv:=[41,63]}
abbrev L5:SD:=⟨.data false (.sl .arg bq)::B::.data false (.sl (.own (some 24576)) fy)::DB::.data false (.sl (.own (some 49152)) fy)::DI::bs 58 [],zs 64 [],.none⟩
def aab {R:Type}(X:SD.D L5)(K:Ex→AS→Option R):=Pu.kT (λy0 y1=>ke 0 K L5 ((z3 (w y0 (u y1)) X.1),X.2)) (λy0 y1 y2 y3=>kr K L5 ((z1 (w y0 (w y1 (w y2 (u y3)))) X.1),X.2)) X.1.1 X.1.2.1 (q2 X)
def ajS:bG:=dT L5 aab (λX=>(q3 X,q4 X))
def L64:bN:=(bN.nil).add 5 ajS
theorem ai9:dP E g64 n64 L64 (az Tryz.f64 0):=lk L5 aab (λX=>(q3 X,q4 X)) λX x=>((z3 (w x.1 (u x.2)) X.1),X.2)
theorem o64:aA Tryz.prog 64 e64:=fk n64 ((((base.add ll).add arZ).add ar0).add YJ) Tryz.func64 (Λ:=L64) (cF ai9 nF)
def ag8:aD:=au [pf eu] [rB] (c1 Pu.sH)
theorem ar1:aA Tryz.prog 146 ag8:=f0 {merge:=mg [(1,2)]} (base.add ll) Tryz.func146
def e65:aD:=au [pd (.sl aC),pd (.sl fy)] [rB] (c2 Pu.nj)
def g65:bH:=((bH.nil.add 142 CR).add 145 aaG).add 146 ag8
def n65:An:={mask:=mk [(4,[0,1,4,5]),(10,[0,1,4,5,6,7])],merge:=mg [(7,51),(12,74)]}
abbrev FJ:SD:=⟨.data false (.sl .arg aC)::.data false (.sl .arg fy)::B::B::DB::DI::.ptr 6 0::DI::bs 67 [],zs 6 ((some Y19)::zs 68 []),.none⟩
def XO {R:Type}(X:SD.D FJ)(K:Ex→AS→Option R):=Pu.iQ (λy0=>ke 2 K FJ ((z4 (u y0) X.1),X.2)) (λy0 y1=>kr K FJ ((z2 (w y0 (z1 (u y1))) X.1),X.2)) X.1.1 X.1.2.1 (q2 X) (q3 X) X.2.1.1
def aex:bG:=dT FJ XO q4
abbrev L6:SD:=⟨.data false (.sl .arg aC)::.data false (.sl .arg fy)::B::B::DB::DI::bs 69 [],zs 75 [],.none⟩
def aac {R:Type}(X:SD.D L6)(K:Ex→AS→Option R):=Pu.ju (λy0=>ke 0 K L6 ((z3 (u y0) X.1),X.2)) (λy0 y1=>kr K L6 ((z2 (w y0 (u y1)) X.1),X.2)) X.1.1 X.1.2.1 (q2 X)
def ajT:bG:=dT L6 aac q3
def L65:bN:=((bN.nil).add 10 aex).add 4 ajT
theorem acK:dP E g65 n65 L65 (az Tryz.f65 1):=lk FJ XO q4 λX x=>((z4 (u x) X.1),X.2)
theorem aja:dP E g65 n65 L65 (az Tryz.f65 0):=lk L6 aac q3 λX x=>((z3 (u x) X.1),X.2)
theorem o65:aA Tryz.prog 65 e65:=fk n65 (((base.add ll).add YJ).add ar1) Tryz.func65 (Λ:=L65) (cF aja (cF acK nF))
def am2:aD:=au [pf (.sl .str)] [rB] (c1 Pu.ur)
theorem ar2:aA Tryz.prog 147 am2:=f0 {merge:=mg [(1,2)]} base Tryz.func147
def aoW:aD:=au [pd .str,pI,pI] [rB] (c3 Pu.jX)
theorem aeS:aA Tryz.prog 320 aoW:=f0 {merge:=mg [(1,6)]} base Tryz.func320
def aoX:aD:=au [pd .str,pI] [rI] (c2 Pu.ef)
theorem Vn:aA Tryz.prog 321 aoX:=f0 {} (base.add aeS) Tryz.func321
def an2:aD:=au [pd .str,pI] [rI] (c2 Pu.fR)
theorem Vl:aA Tryz.prog 239 an2:=f0 {} ((base.add aeS).add Vn) Tryz.func239
def aoa:aD:=au [pd .str] [rI] (c1 Pu.vC)
def aiB:bH:=bH.nil
def aeH:An:={mask:=mk [(3,[0,3,4]),(7,[0,3,4,5])]}
abbrev JW:SD:=⟨.data false .str::B::B::DI::DI::DI::bs 26 [],zs 32 [],.none⟩
def Xa {R:Type}(X:SD.D JW)(K:Ex→AS→Option R):=Pu.lf (λy0 y1=>ke 2 K JW ((z1 (w y0 (z1 (u y1))) X.1),X.2)) X.1.1 (q2 X)
def adT:bG:=dT JW Xa (λX=>(X.1.2.1,q3 X))
abbrev JV:SD:=⟨.data false .str::B::B::DI::DI::bs 27 [],zs 32 [],.none⟩
def W9 {R:Type}(X:SD.D JV)(K:Ex→AS→Option R):=Pu.og (λy0 y1=>ke 0 K JV ((z1 (w y0 (u y1)) X.1),X.2)) X.1.1
def adS:bG:=dT JV W9 (λX=>(X.1.2.1,q2 X))
def aax:bN:=((bN.nil).add 7 adT).add 3 adS
theorem ab3:dP E aiB aeH aax (az Tryz.f252 1):=lk JW Xa (λX=>(X.1.2.1,q3 X)) λX x=>((z1 (w x.1 (z1 (u x.2))) X.1),X.2)
theorem ab2:dP E aiB aeH aax (az Tryz.f252 0):=lk JV W9 (λX=>(X.1.2.1,q2 X)) λX x=>((z1 (w x.1 (u x.2)) X.1),X.2)
theorem al3:aA Tryz.prog 252 aoa:=fk aeH base Tryz.func252 (Λ:=aax) (cF ab2 (cF ab3 nF))
def aoY:aD:=au [pI] [rS] (c1 Pu.cX)
theorem Ns:aA Tryz.prog 322 aoY:=f0 {} (base.add ll) Tryz.func322
def an3:aD:=au [pI,pd .str] [rS,rB] (c2 Pu.ra)
theorem as1:aA Tryz.prog 240 an3:=f0 {merge:=mg [(1,15)]} (((base.add ll).add al3).add Ns) Tryz.func240
def am3:aD:=au [pd .str] [rI] (c1 Pu.iR)
theorem ar3:aA Tryz.prog 148 am3:=f0 {merge:=mg [(2,17),(5,37)]} (((base.add ll).add Vl).add as1) Tryz.func148
def e66:aD:=au [pf (.sl .str)] [rI] (c1 Pu.sG)
theorem o66:aA Tryz.prog 66 e66:=f0 {merge:=mg [(5,23)]} ((base.add ar2).add ar3) Tryz.func66
def e67:aD:=au [pf eY] [rB] (c1 Pu.um)
theorem o67:aA Tryz.prog 67 e67:=f0 {merge:=mg [(1,2)]} (base.add ll) Tryz.func67
def aaH:aD:=au [pf (.sl .str)] [rB] (c1 Pu.lg)
def aqh:bH:=bH.nil
def aku:An:={mask:=mk [(2,[1,2,3])]}
abbrev E3:SD:=⟨B::.ptr 1 0::DB::DI::bs 18 [],Z::(some (.sl .arg .str))::zs 20 [],.none⟩
def Wx {R:Type}(X:SD.D E3)(K:Ex→AS→Option R):=Pu.nn (λy0=>ke 0 K E3 ((z1 (u y0) X.1),X.2)) (λy0 y1=>kr K E3 ((w y0 (u y1) X.1),X.2)) X.1.1 X.2.1.1
def adi:bG:=dT E3 Wx (λX=>X.1.2.1)
def afw:bN:=(bN.nil).add 2 adi
theorem abr:dP E aqh aku afw (az Tryz.f149 0):=lk E3 Wx (λX=>X.1.2.1) λX x=>((z1 (u x) X.1),X.2)
theorem aeK:aA Tryz.prog 149 aaH:=fk aku base Tryz.func149 (Λ:=afw) (cF abr nF)
def aaI:aD:=au [pd (.sl bg)] [rB] (c1 Pu.kS)
def aiw:bH:=bH.nil.add 142 CR
def aeD:An:={mask:=mk [(4,[0,2,3]),(10,[0,2,3,4,5])],merge:=mg [(7,34),(12,57)]}
abbrev BF:SD:=⟨.data false (.sl .arg bg)::B::DB::DI::.ptr 4 0::DI::bs 52 [],zs 4 ((some Y27)::zs 53 []),.none⟩
def RR {R:Type}(X:SD.D BF)(K:Ex→AS→Option R):=Pu.jv (λy0=>ke 2 K BF ((z3 (u y0) X.1),X.2)) (λy0 y1=>kr K BF ((z1 (w y0 (z1 (u y1))) X.1),X.2)) X.1.1 X.1.2.1 (q2 X) X.2.1.1
def YC:bG:=dT BF RR q3
abbrev E4:SD:=⟨.data false (.sl .arg bg)::B::DB::DI::bs 54 [],zs 58 [],.none⟩
def Wy {R:Type}(X:SD.D E4)(K:Ex→AS→Option R):=Pu.kz (λy0=>ke 0 K E4 ((z2 (u y0) X.1),X.2)) (λy0 y1=>kr K E4 ((z1 (w y0 (u y1)) X.1),X.2)) X.1.1 X.1.2.1
def adj:bG:=dT E4 Wy q2
def aat:bN:=((bN.nil).add 10 YC).add 4 adj
theorem Yz:dP E aiw aeD aat (az Tryz.f150 1):=lk BF RR q3 λX x=>((z3 (u x) X.1),X.2)
theorem abt:dP E aiw aeD aat (az Tryz.f150 0):=lk E4 Wy q2 λX x=>((z2 (u x) X.1),X.2)
theorem alC:aA Tryz.prog 150 aaI:=fk aeD (base.add ll) Tryz.func150 (Λ:=aat) (cF abt (cF Yz nF))
def aaK:aD:=au [pf dF] [rB] (c1 Pu.mA)
def aqk:bH:=bH.nil.add 142 CR
def akx:An:={mask:=mk [(5,[1,2,3,4])],merge:=mg [(1,20),(7,50)]}
abbrev E9:SD:=⟨B::.ptr 1 0::DB::.data false (.sl (.own (some 36864)) .bool)::DI::bs 53 [],Z::(some Y16)::zs 56 [],.none⟩
def WD {R:Type}(X:SD.D E9)(K:Ex→AS→Option R):=Pu.rb (λy0 y1=>ke 0 K E9 ((z1 (w y0 (u y1)) X.1),X.2)) (λy0 y1 y2=>kr K E9 ((w y0 (w y1 (u y2)) X.1),X.2)) X.1.1 X.2.1.1
def ado:bG:=dT E9 WD (λX=>(X.1.2.1,q2 X))
def afz:bN:=(bN.nil).add 5 ado
theorem aby:dP E aqk akx afz (az Tryz.f155 0):=lk E9 WD (λX=>(X.1.2.1,q2 X)) λX x=>((z1 (w x.1 (u x.2)) X.1),X.2)
theorem aeM:aA Tryz.prog 155 aaK:=fk akx (base.add ll) Tryz.func155 (Λ:=afz) (cF aby nF)
def aoZ:aD:=au [pI] [rB] (c1 Pu.ny)
theorem aeT:aA Tryz.prog 323 aoZ:=f0 {merge:=mg [(1,2)]} base Tryz.func323
def ao0:aD:=au [pf eY] [rI] (c1 Pu.oq)
theorem amk:aA Tryz.prog 324 ao0:=f0 {} (base.add aeT) Tryz.func324
def ahu:aD:=au [pf eY] [rB] (c1 Pu.mB)
theorem YM:aA Tryz.prog 241 ahu:=f0 {merge:=mg [(1,2)]} (((base.add ll).add aeT).add amk) Tryz.func241
def ahv:aD:=au [pf dF,pd (.sl (.int .i64))] [(true,Y9),rB] (c2 Pu.g4)
theorem as2:aA Tryz.prog 242 ahv:=f0 {merge:=mg [(3,21)],mv:=[10,24]} ((base.add aeJ).add aeM) Tryz.func242
def ag9:aD:=au [pf fO] [rB] (c1 Pu.Ae)
def aqi:bH:=(((bH.nil.add 142 CR).add 155 aaK).add 241 ahu).add 242 ahv
def akv:An:={mask:=mk [(6,[1,2,3,4,5])],merge:=mg [(1,24),(9,50),(14,2)],mv:=[55]}
abbrev E5:SD:=⟨B::.ptr 1 0::DB::DI::.data false (.sl (.own (some 49152)) (.int .i64))::DI::bs 68 [],Z::(some Y25)::zs 72 [],.none⟩
def Wz {R:Type}(X:SD.D E5)(K:Ex→AS→Option R):=Pu.rk (λy0 y1 y2=>ke 0 K E5 ((z1 (w y0 (w y1 (u y2))) X.1),X.2)) (λy0 y1 y2 y3=>kr K E5 ((w y0 (w y1 (w y2 (u y3))) X.1),X.2)) X.1.1 X.2.1.1
def adk:bG:=dT E5 Wz (λX=>(X.1.2.1,q2 X,q3 X))
def afx:bN:=(bN.nil).add 6 adk
theorem abu:dP E aqi akv afx (az Tryz.f151 0):=lk E5 Wz (λX=>(X.1.2.1,q2 X,q3 X)) λX x=>((z1 (w x.1 (w x.2.1 (u x.2.2))) X.1),X.2)
theorem ar4:aA Tryz.prog 151 ag9:=fk akv ((((base.add ll).add aeM).add YM).add as2) Tryz.func151 (Λ:=afx) (cF abu nF)
def ahR:aD:=au [pf dw] [rB] (c1 Pu.gU)
theorem aml:aA Tryz.prog 325 ahR:=f0 {merge:=mg [(1,33),(3,54),(5,2)]} (base.add ll) Tryz.func325
def aaQ:aD:=au [pd (.sl dw)] [rB] (c1 Pu.ri)
def aqH:bH:=bH.nil.add 325 ahR
def akV:An:={mask:=mk [(2,[0,2,3])]}
abbrev Ft:SD:=⟨.data false (.sl .arg dw)::B::DB::DI::bs 15 [],zs 19 [],.none⟩
def W6 {R:Type}(X:SD.D Ft)(K:Ex→AS→Option R):=Pu.oQ (λy0=>ke 0 K Ft ((z2 (u y0) X.1),X.2)) (λy0 y1=>kr K Ft ((z1 (w y0 (u y1)) X.1),X.2)) X.1.1 X.1.2.1
def adP:bG:=dT Ft W6 q2
def afX:bN:=(bN.nil).add 2 adP
theorem abZ:dP E aqH akV afX (az Tryz.f243 0):=lk Ft W6 q2 λX x=>((z2 (u x) X.1),X.2)
theorem alW:aA Tryz.prog 243 aaQ:=fk akV (base.add aml) Tryz.func243 (Λ:=afX) (cF abZ nF)
def ah3:aD:=au [pf fc] [rI] (c1 Pu.sM)
def aq2:bH:=bH.nil
def alg:An:={mask:=mk [(4,[3,4,5])]}
abbrev J8:SD:=⟨B::B::B::DI::.data false (.sl (.own (some 49152)) (.int .i64))::DI::bs 26 [],zs 32 [],.none⟩
def Xv {R:Type}(X:SD.D J8)(K:Ex→AS→Option R):=Pu.jW (λy0 y1=>ke 0 K J8 ((w y0 (z1 (u y1)) X.1),X.2)) X.1.2.1
def aee:bG:=dT J8 Xv (λX=>(X.1.1,q2 X))
def agj:bN:=(bN.nil).add 4 aee
theorem acq:dP E aq2 alg agj (az Tryz.f373 0):=lk J8 Xv (λX=>(X.1.1,q2 X)) λX x=>((w x.1 (z1 (u x.2)) X.1),X.2)
theorem auo:aA Tryz.prog 373 ah3:=fk alg base Tryz.func373 (Λ:=agj) (cF acq nF)
def ahS:aD:=au [pf (.sl cS),pf fc] [rI] (c2 Pu.rm)
def aqV:bH:=bH.nil.add 373 ah3
def ak9:An:={mask:=mk [(2,[2,3,4,5])],merge:=mg [(7,39)]}
abbrev FD:SD:=⟨B::B::.ptr 2 0::.ptr 3 0::DI::DI::bs 35 [],Z::Z::(some (.sl .arg cS))::(some (.pair (.int .i64) Y1))::zs 37 [],.none⟩
def Xn {R:Type}(X:SD.D FD)(K:Ex→AS→Option R):=Pu.kW (λy0=>ke 0 K FD ((z1 (u y0) X.1),X.2)) (λy0 y1=>kr K FD ((w y0 (u y1) X.1),X.2)) X.1.1 X.2.1.1 X.2.1.2.1
def ad6:bG:=dT FD Xn (λX=>X.1.2.1)
def agb:bN:=(bN.nil).add 2 ad6
theorem ach:dP E aqV ak9 agb (az Tryz.f326 0):=lk FD Xn (λX=>X.1.2.1) λX x=>((z1 (u x) X.1),X.2)
theorem amm:aA Tryz.prog 326 ahS:=fk ak9 (base.add auo) Tryz.func326 (Λ:=agb) (cF ach nF)
def ahw:aD:=au [pf (.sl cS)] [rB] (c1 Pu.rj)
def aqI:bH:=(bH.nil.add 142 CR).add 326 ahS
def akW:An:={mask:=mk [(4,[1,2,3])],merge:=mg [(7,30),(10,42)]}
abbrev Fu:SD:=⟨B::.ptr 1 0::DB::DI::bs 45 [],Z::(some (.sl .arg cS))::zs 47 [],.none⟩
def W7 {R:Type}(X:SD.D Fu)(K:Ex→AS→Option R):=Pu.oR (λy0=>ke 0 K Fu ((z1 (u y0) X.1),X.2)) (λy0 y1=>kr K Fu ((w y0 (u y1) X.1),X.2)) X.1.1 X.2.1.1
def adQ:bG:=dT Fu W7 (λX=>X.1.2.1)
def afY:bN:=(bN.nil).add 4 adQ
theorem ab0:dP E aqI akW afY (az Tryz.f244 0):=lk Fu W7 (λX=>X.1.2.1) λX x=>((z1 (u x) X.1),X.2)
theorem alX:aA Tryz.prog 244 ahw:=fk akW ((base.add ll).add amm) Tryz.func244 (Λ:=afY) (cF ab0 nF)
def ahT:aD:=au [pI] [rB] (c1 Pu.ux)
theorem atR:aA Tryz.prog 327 ahT:=f0 {merge:=mg [(1,2)]} base Tryz.func327
def ahx:aD:=au [pf ia,pI] [rB] (c2 Pu.ou)
def aqJ:bH:=(bH.nil.add 142 CR).add 327 ahT
def akX:An:={mask:=mk [(4,[1,2,4,5])],merge:=mg [(1,21)]}
abbrev Fv:SD:=⟨B::DI::.ptr 2 0::B::DB::DI::bs 32 [],Z::Z::(some (.pair .str (.sl .arg (.int .i64))))::zs 35 [],.none⟩
def W8 {R:Type}(X:SD.D Fv)(K:Ex→AS→Option R):=Pu.ns (λy0=>ke 0 K Fv ((z2 (u y0) X.1),X.2)) (λy0 y1=>kr K Fv ((z1 (w y0 (u y1)) X.1),X.2)) X.1.1 X.1.2.1 X.2.1.1
def adR:bG:=dT Fv W8 q2
def afZ:bN:=(bN.nil).add 4 adR
theorem ab1:dP E aqJ akX afZ (az Tryz.f245 0):=lk Fv W8 q2 λX x=>((z2 (u x) X.1),X.2)
theorem alY:aA Tryz.prog 245 ahx:=fk akX ((base.add ll).add atR) Tryz.func245 (Λ:=afZ) (cF ab1 nF)
def aha:aD:=au [pf eL,pI] [rB] (c2 Pu.kV)
def aix:bH:=((bH.nil.add 243 aaQ).add 244 ahw).add 245 ahx
def aeE:An:={mask:=mk [(4,[1,2,4,5]),(9,[1,2,4,6])],merge:=mg [(1,23)]}
abbrev E7:SD:=⟨B::DI::.ptr 2 0::B::DB::DI::bs 50 [],Z::Z::(some Y20)::zs 53 [],.none⟩
def WB {R:Type}(X:SD.D E7)(K:Ex→AS→Option R):=Pu.kC (λy0=>ke 0 K E7 ((z2 (u y0) X.1),X.2)) (λy0 y1=>kr K E7 ((z1 (w y0 (u y1)) X.1),X.2)) X.1.1 X.1.2.1 X.2.1.1
def adm:bG:=dT E7 WB q2
abbrev E8:SD:=⟨B::DI::.ptr 2 0::B::DB::B::DI::bs 49 [],Z::Z::(some Y20)::zs 53 [],.none⟩
def WC {R:Type}(X:SD.D E8)(K:Ex→AS→Option R):=Pu.kD (λy0=>ke 2 K E8 ((z2 (u y0) X.1),X.2)) (λy0 y1=>kr K E8 ((z1 (w y0 (u y1)) X.1),X.2)) X.1.1 X.1.2.1 X.2.1.1
def adn:bG:=dT E8 WC q2
def aau:bN:=((bN.nil).add 4 adm).add 9 adn
theorem abw:dP E aix aeE aau (az Tryz.f153 0):=lk E7 WB q2 λX x=>((z2 (u x) X.1),X.2)
theorem abx:dP E aix aeE aau (az Tryz.f153 1):=lk E8 WC q2 λX x=>((z2 (u x) X.1),X.2)
theorem alD:aA Tryz.prog 153 aha:=fk aeE (((base.add alW).add alX).add alY) Tryz.func153 (Λ:=aau) (cF abw (cF abx nF))
def am5:aD:=au [pf gE] [rB] (c1 Pu.mC)
theorem alF:aA Tryz.prog 158 am5:=f0 {merge:=mg [(1,18),(4,2),(5,2)]} (base.add ll) Tryz.func158
def e70:aD:=au [pf cd] [rB] (c1 Pu.eX)
theorem YP:aA Tryz.prog 70 e70:=f0 {merge:=mg [(1,55),(3,3),(4,2)]} ((base.add ll).add alF) Tryz.func70
def an4:aD:=au [pf eu] [rB] (c1 Pu.np)
theorem alZ:aA Tryz.prog 246 an4:=f0 {merge:=mg [(1,2)]} ((base.add ll).add aeT) Tryz.func246
def ahb:aD:=au [pf bt] [rB] (c1 Pu.uL)
theorem aeL:aA Tryz.prog 154 ahb:=f0 {merge:=mg [(1,42),(5,2)]} ((((base.add YP).add ll).add YM).add alZ) Tryz.func154
def an5:aD:=au [pf cl] [rB] (c1 Pu.pF)
theorem al0:aA Tryz.prog 247 an5:=f0 {merge:=mg [(1,2)]} base Tryz.func247
def ahc:aD:=au [pf cl] [rB] (c1 Pu.jg)
theorem alE:aA Tryz.prog 156 ahc:=f0 {merge:=mg [(1,24),(3,2)]} ((base.add ll).add al0) Tryz.func156
def e68:aD:=au [pf cv] [rB] (c1 Pu.tn)
def g68:bH:=((((((((bH.nil.add 142 CR).add 149 aaH).add 150 aaI).add 151 ag9).add 152 aaJ).add 153 aha).add 154 ahb).add 155 aaK).add 156 ahc
def n68:An:={mask:=mk [(5,[1,2,3,4]),(11,[2,5,6])],merge:=mg [(2,64),(7,94)]}
abbrev L7:SD:=⟨B::.ptr 1 0::DB::DI::DI::bs 118 [],Z::(some Y3)::zs 121 [],.none⟩
def aad {R:Type}(X:SD.D L7)(K:Ex→AS→Option R):=Pu.qX (λy0=>ke 0 K L7 ((z2 (u y0) X.1),X.2)) (λy0 y1=>kr K L7 ((w y0 (z1 (u y1)) X.1),X.2)) X.1.1 X.1.2.1 X.2.1.1
def ajU:bG:=dT L7 aad q2
abbrev FL:SD:=⟨B::B::DB::B::B::.data false (.sl (.own (some 61440)) (.int .i64))::DI::bs 116 [],zs 123 [],.none⟩
def XP {R:Type}(X:SD.D FL)(K:Ex→AS→Option R):=Pu.oN (λy0=>ke 2 K FL ((z2 (u y0) X.1),X.2)) (λy0 y1=>kr K FL ((w y0 (z1 (u y1)) X.1),X.2)) X.1.1 X.1.2.1
def aey:bG:=dT FL XP q2
def L68:bN:=((bN.nil).add 5 ajU).add 11 aey
theorem ajb:dP E g68 n68 L68 (az Tryz.f68 0):=lk L7 aad q2 λX x=>((z2 (u x) X.1),X.2)
theorem acL:dP E g68 n68 L68 (az Tryz.f68 1):=lk FL XP q2 λX x=>((z2 (u x) X.1),X.2)
theorem o68:aA Tryz.prog 68 e68:=fk n68 (((((((((base.add ll).add aeK).add alC).add ar4).add YK).add alD).add aeL).add aeM).add alE) Tryz.func68 (Λ:=L68) (cF ajb (cF acL nF))
def am4:aD:=au [pd (.sl (.int .i64)),pd (.sl (.int .i64))] [rB] (c2 Pu.Cz)
def aql:bH:=bH.nil
def aky:An:={mask:=mk [(4,[0,1,4,5])]}
abbrev Fa:SD:=⟨.data false (.sl .arg (.int .i64))::.data false (.sl .arg (.int .i64))::B::B::DB::DI::bs 20 [],zs 26 [],.none⟩
def WE {R:Type}(X:SD.D Fa)(K:Ex→AS→Option R):=Pu.yK (λy0=>ke 0 K Fa ((z3 (u y0) X.1),X.2)) (λy0 y1=>kr K Fa ((z2 (w y0 (u y1)) X.1),X.2)) X.1.1 X.1.2.1 (q2 X)
def adp:bG:=dT Fa WE q3
def afA:bN:=(bN.nil).add 4 adp
theorem abz:dP E aql aky afA (az Tryz.f157 0):=lk Fa WE q3 λX x=>((z3 (u x) X.1),X.2)
theorem ar5:aA Tryz.prog 157 am4:=fk aky base Tryz.func157 (Λ:=afA) (cF abz nF)
def e69:aD:=au [pf fw,pf fw] [rB] (c2 Pu.pg)
theorem o69:aA Tryz.prog 69 e69:=f0 {merge:=mg [(1,4)]} (base.add ar5) Tryz.func69
def e21:aD:=au [pf dQ] [rB] (c1 Pu.wk)
def g21:bH:=(((((bH.nil.add 64 e64).add 65 e65).add 66 e66).add 67 e67).add 68 e68).add 69 e69
def n21:An:={mask:=mk [(6,[1,2,5,6])],merge:=mg [(3,50),(8,99)]}
abbrev LQ:SD:=⟨B::.ptr 1 0::DB::B::B::DI::DI::bs 93 [],Z::(some Y12)::zs 98 [],.none⟩
def ZL {R:Type}(X:SD.D LQ)(K:Ex→AS→Option R):=Pu.qU (λy0=>ke 0 K LQ ((z2 (u y0) X.1),X.2)) (λy0 y1=>kr K LQ ((w y0 (z1 (u y1)) X.1),X.2)) X.1.1 X.1.2.1 X.2.1.1
def ajs:bG:=dT LQ ZL q2
def L21:bN:=(bN.nil).add 6 ajs
theorem aiJ:dP E g21 n21 L21 (az Tryz.f21 0):=lk LQ ZL q2 λX x=>((z2 (u x) X.1),X.2)
theorem o21:aA Tryz.prog 21 e21:=fk n21 ((((((base.add o64).add o65).add o66).add o67).add o68).add o69) Tryz.func21 (Λ:=L21) (cF aiJ nF)
def e22:aD:=au [pf cd] [rB] (c1 Pu.gT)
theorem o22:aA Tryz.prog 22 e22:=f0 {merge:=mg [(1,2)]} (base.add YP) Tryz.func22
def e72:aD:=au [pd (.sl fy),pI,pf cd] [rI] (c3 Pu.my)
theorem o72:aA Tryz.prog 72 e72:=f0 {merge:=mg [(1,23),(6,61)]} ((((base.add YP).add ll).add YJ).add S2) Tryz.func72
def e71:aD:=au [pd (.sl fy),pI,pf cd] [(false,(.sl (.own none) (.int .i64)))] (c3 Pu.lM)
def g71:bH:=(bH.nil.add 72 e72).add 159 X9
def n71:An:={mask:=mk [(7,[0,1,5,7,8,9,10]),(12,[0,1,5,7,8,9,11])],merge:=mg [(14,62)],mv:=[19,63,67]}
abbrev QU:SD:=⟨.data false (.sl .arg fy)::DI::B::B::B::.ptr 5 0::B::.data false (.sl (.own (some 86016)) (.int .i64))::DI::DI::DI::bs 57 [],zs 5 ((some Y0)::zs 62 []),.none⟩
def aae {R:Type}(X:SD.D QU)(K:Ex→AS→Option R):=Pu.iU (λy0 y1=>ke 0 K QU ((z4 (w y0 (u y1)) X.1),X.2)) X.1.1 X.1.2.1 (q2 X) (q3 X) X.2.1.1
def ajV:bG:=dT QU aae (λX=>(q4 X,q5 X))
abbrev Ko:SD:=⟨.data false (.sl .arg fy)::DI::B::B::B::.ptr 5 0::B::.data false (.sl (.own (some 86016)) (.int .i64))::DI::DI::B::DI::bs 56 [],zs 5 ((some Y0)::zs 62 []),.none⟩
def XQ {R:Type}(X:SD.D Ko)(K:Ex→AS→Option R):=Pu.ie (λy0 y1=>ke 2 K Ko ((z2 (w y0 (z2 (u y1))) X.1),X.2)) X.1.1 X.1.2.1 (q3 X) (q4 X) X.2.1.1
def aez:bG:=dT Ko XQ (λX=>(q2 X,q5 X))
def L71:bN:=((bN.nil).add 7 ajV).add 12 aez
theorem ajc:dP E g71 n71 L71 (az Tryz.f71 0):=lk QU aae (λX=>(q4 X,q5 X)) λX x=>((z4 (w x.1 (u x.2)) X.1),X.2)
theorem acM:dP E g71 n71 L71 (az Tryz.f71 1):=lk Ko XQ (λX=>(q2 X,q5 X)) λX x=>((z2 (w x.1 (z2 (u x.2))) X.1),X.2)
theorem o71:aA Tryz.prog 71 e71:=fk n71 ((base.add o72).add S2) Tryz.func71 (Λ:=L71) (cF ajc (cF acM nF))
def ao1:aD:=au [pI] [rS] (c1 Pu.bL)
theorem Nt:aA Tryz.prog 328 ao1:=f0 {} (base.add ll) Tryz.func328
def ao2:aD:=au [pI,pI,pI,pI] [rS,rB] (c4 Pu.iT)
theorem atS:aA Tryz.prog 329 ao2:=f0 {merge:=mg [(1,27)]} (((base.add ll).add Ns).add Nt) Tryz.func329
def ah9:aD:=au [pI,pI] [rI] (c2 Pu.iP)
theorem auK:aA Tryz.prog 398 ah9:=f0 {merge:=mg [(1,12)]} (base.add ll) Tryz.func398
def apC:aD:=au [pd .str] [rI] (c1 Pu.sP)
def aq3:bH:=bH.nil.add 398 ah9
def alh:An:={mask:=mk [(3,[0,3,4])]}
abbrev J9:SD:=⟨.data false .str::B::B::DI::DI::bs 28 [],zs 33 [],.none⟩
def Xw {R:Type}(X:SD.D J9)(K:Ex→AS→Option R):=Pu.nv (λy0 y1=>ke 0 K J9 ((z1 (w y0 (u y1)) X.1),X.2)) X.1.1
def aef:bG:=dT J9 Xw (λX=>(X.1.2.1,q2 X))
def agk:bN:=(bN.nil).add 3 aef
theorem acr:dP E aq3 alh agk (az Tryz.f374 0):=lk J9 Xw (λX=>(X.1.2.1,q2 X)) λX x=>((z1 (w x.1 (u x.2)) X.1),X.2)
theorem aup:aA Tryz.prog 374 apC:=fk alh (base.add auK) Tryz.func374 (Λ:=agk) (cF acr nF)
def ao3:aD:=au [pd .str] [rI] (c1 Pu.ld)
theorem amn:aA Tryz.prog 330 ao3:=f0 {} (base.add aup) Tryz.func330
def ahU:aD:=au [pd .str,pI,pd .str] [rS] (c3 Pu.fV)
theorem aeU:aA Tryz.prog 331 ahU:=f0 {} (base.add aeS) Tryz.func331
def an6:aD:=au [pI,pI,pf gE] [rS,rB] (c3 Pu.gp)
theorem al1:aA Tryz.prog 248 an6:=f0 {merge:=mg [(14,82)]} ((((((base.add alF).add Ns).add Nt).add atS).add amn).add aeU) Tryz.func248
def apD:aD:=au [pf Zw] [rB] (c1 Pu.Ad)
theorem auq:aA Tryz.prog 375 apD:=f0 {merge:=mg [(1,2)]} (base.add ll) Tryz.func375
def ao4:aD:=au [pf Zw] [rS,rB] (c1 Pu.sN)
theorem atT:aA Tryz.prog 332 ao4:=f0 {} (((((base.add Ns).add Nt).add amn).add aeU).add auq) Tryz.func332
def an7:aD:=au [pf Zw] [rS,rB] (c1 Pu.qS)
theorem al2:aA Tryz.prog 249 an7:=f0 {} (base.add atT) Tryz.func249
def ao5:aD:=au [pf R1] [rB] (c1 Pu.rN)
theorem amo:aA Tryz.prog 333 ao5:=f0 {merge:=mg [(1,2)]} (base.add ll) Tryz.func333
def ao6:aD:=au [pI] [rS] (c1 Pu.gz)
theorem atU:aA Tryz.prog 334 ao6:=f0 {} ((base.add Ns).add Nt) Tryz.func334
def an8:aD:=au [pf R1] [rS,rB] (c1 Pu.sI)
theorem as3:aA Tryz.prog 250 an8:=f0 {} (((base.add Nt).add amo).add atU) Tryz.func250
def ao7:aD:=au [pI,pd (.int .u8)] [rS] (c2 Pu.uw)
def aqW:bH:=bH.nil
def ala:An:={mask:=mk [(3,[0,1,5,6])]}
abbrev J2:SD:=⟨DI::.data false (.int .u8)::B::B::B::.data false (.sl (.own (some 61440)) (.int .u8))::DI::bs 13 [],zs 20 [],.none⟩
def Xo {R:Type}(X:SD.D J2)(K:Ex→AS→Option R):=Pu.oS (λy0 y1=>ke 0 K J2 ((z2 (w y0 (u y1)) X.1),X.2)) X.1.1 X.1.2.1
def ad7:bG:=dT J2 Xo (λX=>(q2 X,q3 X))
def agc:bN:=(bN.nil).add 3 ad7
theorem aci:dP E aqW ala agc (az Tryz.f335 0):=lk J2 Xo (λX=>(q2 X,q3 X)) λX x=>((z2 (w x.1 (u x.2)) X.1),X.2)
theorem atV:aA Tryz.prog 335 ao7:=fk ala base Tryz.func335 (Λ:=agc) (cF aci nF)
def an9:aD:=au [pd .str] [rS] (c1 Pu.uu)
theorem as4:aA Tryz.prog 251 an9:=f0 {} (base.add atV) Tryz.func251
def am6:aD:=au [pf cd] [rS,rB] (c1 Pu.kQ)
theorem alG:aA Tryz.prog 160 am6:=f0 {} (((((base.add YP).add al1).add al2).add as3).add as4) Tryz.func160
def am7:aD:=au [pd .str] [rS] (c1 Pu.rl)
theorem alH:aA Tryz.prog 161 am7:=f0 {} (base.add al3) Tryz.func161
def e73:aD:=au [pf cd] [rS,rB] (c1 Pu.oJ)
theorem o73:aA Tryz.prog 73 e73:=f0 {} (((base.add o22).add alG).add alH) Tryz.func73
def e74:aD:=au [pd (.sl fy),pI,pI,pf cd] [(true,Y0)] (c4 Pu.nm)
theorem o74:aA Tryz.prog 74 e74:=f0 {merge:=mg [(1,34)]} ((((base.add YP).add ll).add YJ).add S2) Tryz.func74
def aob:aD:=au [pd .str] [rS,rB] (c1 Pu.sJ)
theorem as5:aA Tryz.prog 253 aob:=f0 {merge:=mg [(1,16)]} (base.add alH) Tryz.func253
def ao8:aD:=au [pd .str] [(true,Y13),rB] (c1 Pu.sO)
theorem atW:aA Tryz.prog 336 ao8:=f0 {sb:=mg [(4,4)]} (((base.add Vl).add Vn).add amo) Tryz.func336
def ao9:aD:=au [pd .str] [(true,Y22),rB] (c1 Pu.uv)
theorem atX:aA Tryz.prog 337 ao9:=f0 {merge:=mg [(2,22),(6,56)],sb:=mg [(5,5)]} (((base.add Vl).add al2).add Vn) Tryz.func337
def apa:aD:=au [pI,pI,pI,pd .str] [(true,(.pair (.int .i64) Y22)),rB] (c4 Pu.lL)
theorem atY:aA Tryz.prog 338 apa:=f0 {merge:=mg [(3,20),(9,44),(12,68)]} (((base.add Vl).add al1).add Vn) Tryz.func338
def aoc:aD:=au [pd .str] [(true,Y0),rI] (c1 Pu.rh)
theorem as6:aA Tryz.prog 254 aoc:=f0 {merge:=mg [(2,20)]} ((((base.add YP).add atW).add atX).add atY) Tryz.func254
def am8:aD:=au [pd .str] [(true,Y0),rI] (c1 Pu.rf)
theorem ar6:aA Tryz.prog 162 am8:=f0 {} (((base.add o22).add as5).add as6) Tryz.func162
def am9:aD:=au [pf fw,pf cd] [rB] (c2 Pu.uk)
theorem ar7:aA Tryz.prog 163 am9:=f0 {merge:=mg [(1,4)]} ((base.add YK).add S2) Tryz.func163
def apE:aD:=au [pf dw,pf cd] [rB] (c2 Pu.tL)
theorem aur:aA Tryz.prog 376 apE:=f0 {merge:=mg [(1,4)]} (base.add ll) Tryz.func376
def ahV:aD:=au [pf dw,pf cd] [rB] (c2 Pu.nq)
theorem atZ:aA Tryz.prog 339 ahV:=f0 {merge:=mg [(1,4)]} (((base.add YP).add aml).add aur) Tryz.func339
def aod:aD:=au [pd (.sl dw),pf cd] [rI] (c2 Pu.sL)
def aqK:bH:=(bH.nil.add 243 aaQ).add 339 ahV
def akY:An:={mask:=mk [(3,[0,3,5,6])],merge:=mg [(3,14),(5,39)]}
abbrev JX:SD:=⟨.data false (.sl .arg dw)::B::B::.ptr 3 0::B::DI::DI::bs 35 [],Z::Z::Z::(some Y0)::zs 38 [],.none⟩
def Xb {R:Type}(X:SD.D JX)(K:Ex→AS→Option R):=Pu.jV (λy0 y1=>ke 0 K JX ((z1 (w y0 (u y1)) X.1),X.2)) X.1.1 X.2.1.1
def adU:bG:=dT JX Xb (λX=>(X.1.2.1,q2 X))
def af0:bN:=(bN.nil).add 3 adU
theorem ab4:dP E aqK akY af0 (az Tryz.f255 0):=lk JX Xb (λX=>(X.1.2.1,q2 X)) λX x=>((z1 (w x.1 (u x.2)) X.1),X.2)
theorem as7:aA Tryz.prog 255 aod:=fk akY ((base.add alW).add atZ) Tryz.func255 (Λ:=af0) (cF ab4 nF)
def aoe:aD:=au [pf (.sl cS),pf fc] [rI] (c2 Pu.sK)
theorem as8:aA Tryz.prog 256 aoe:=f0 {} ((base.add alX).add amm) Tryz.func256
def aof:aD:=au [pf cd] [(true,(.pair (.int .i64) Y1))] (c1 Pu.tk)
theorem al4:aA Tryz.prog 257 aof:=f0 {} base Tryz.func257
def aaV:aD:=au [pd .str,pI] [rI] (c2 Pu.tp)
theorem amC:aA Tryz.prog 415 aaV:=f0 {} base Tryz.func415
def aif:aD:=au [pd .str,pI] [rI] (c2 Pu.qY)
def ari:bH:=(bH.nil.add 142 CR).add 415 aaV
def alx:An:={mask:=mk [(5,[0,1,5,6])],merge:=mg [(1,14)]}
abbrev Kn:SD:=⟨.data false .str::DI::B::B::B::DI::DI::bs 21 [],zs 28 [],.none⟩
def XM {R:Type}(X:SD.D Kn)(K:Ex→AS→Option R):=Pu.lK (λy0 y1=>ke 0 K Kn ((z2 (w y0 (u y1)) X.1),X.2)) X.1.1 X.1.2.1
def aev:bG:=dT Kn XM (λX=>(q2 X,q3 X))
def agy:bN:=(bN.nil).add 5 aev
theorem acI:dP E ari alx agy (az Tryz.f416 0):=lk Kn XM (λX=>(q2 X,q3 X)) λX x=>((z2 (w x.1 (u x.2)) X.1),X.2)
theorem auX:aA Tryz.prog 416 aif:=fk alx ((base.add ll).add amC) Tryz.func416 (Λ:=agy) (cF acI nF)
def apU:aD:=au [pd .str,pd .str] [rI] (c2 Pu.qV)
def arb:bH:=(bH.nil.add 415 aaV).add 416 aif
def alq:An:={mask:=mk [(5,[0,1,5,6])],merge:=mg [(1,14)]}
abbrev Ki:SD:=⟨.data false .str::.data false .str::B::B::B::DI::DI::bs 25 [],zs 32 [],.none⟩
def XG {R:Type}(X:SD.D Ki)(K:Ex→AS→Option R):=Pu.lJ (λy0 y1=>ke 0 K Ki ((z2 (w y0 (u y1)) X.1),X.2)) X.1.1 X.1.2.1
def aep:bG:=dT Ki XG (λX=>(q2 X,q3 X))
def ags:bN:=(bN.nil).add 5 aep
theorem acC:dP E arb alq ags (az Tryz.f399 0):=lk Ki XG (λX=>(q2 X,q3 X)) λX x=>((z2 (w x.1 (u x.2)) X.1),X.2)
theorem auL:aA Tryz.prog 399 apU:=fk alq ((base.add amC).add auX) Tryz.func399 (Λ:=ags) (cF acC nF)
def apV:aD:=au [pf fc] [rS] (c1 Pu.qW)
theorem auM:aA Tryz.prog 400 apV:=f0 {} ((base.add Ns).add Nt) Tryz.func400
def apF:aD:=au [pd .str,pf fc] [rI] (c2 Pu.om)
theorem amv:aA Tryz.prog 377 apF:=f0 {} ((base.add auL).add auM) Tryz.func377
def apb:aD:=au [pf ia,pf fc] [rI] (c2 Pu.uq)
theorem at0:aA Tryz.prog 340 apb:=f0 {merge:=mg [(2,17)]} (base.add amv) Tryz.func340
def aog:aD:=au [pf ia,pI,pf fc] [rI] (c3 Pu.nt)
theorem as9:aA Tryz.prog 258 aog:=f0 {merge:=mg [(2,18)]} ((base.add alY).add at0) Tryz.func258
def ana:aD:=au [pf eL,pI,pf cd] [rI] (c3 Pu.nu)
theorem ar8:aA Tryz.prog 164 ana:=f0 {merge:=mg [(1,17)]} ((((((base.add YP).add alD).add as7).add as8).add al4).add as9) Tryz.func164
def apc:aD:=au [pf cd,pf cd] [rB] (c2 Pu.ot)
theorem at1:aA Tryz.prog 341 apc:=f0 {} base Tryz.func341
def aoh:aD:=au [pf nD,pf cd] [rB] (c2 Pu.qT)
theorem al5:aA Tryz.prog 259 aoh:=f0 {merge:=mg [(1,41),(4,84),(6,4)]} ((((base.add o22).add YP).add ll).add at1) Tryz.func259
def aoi:aD:=au [pf nD,pf cd] [(true,Y23)] (c2 Pu.xc)
theorem ata:aA Tryz.prog 260 aoi:=f0 {} (base.add al5) Tryz.func260
def aih:aD:=au [pd (.sl bg),pI,pI,pd .bool] [rI] (c4 Pu.uA)
def arj:bH:=bH.nil
def aly:An:={mask:=mk [(2,[0,1,2,3,8,9])],merge:=mg [(4,42)]}
abbrev FI:SD:=⟨.data false (.sl .arg bg)::DI::DI::DB::bs 4 (DI::DI::bs 38 []),zs 48 [],.none⟩
def XN {R:Type}(X:SD.D FI)(K:Ex→AS→Option R):=Pu.oT (λy0=>ke 0 K FI ((z5 (u y0) X.1),X.2)) (λy0 y1=>kr K FI ((z4 (w y0 (u y1)) X.1),X.2)) X.1.1 X.1.2.1 (q2 X) (q3 X) (q4 X)
def aew:bG:=dT FI XN q5
def agz:bN:=(bN.nil).add 2 aew
theorem acJ:dP E arj aly agz (az Tryz.f417 0):=lk FI XN q5 λX x=>((z5 (u x) X.1),X.2)
theorem auY:aA Tryz.prog 417 aih:=fk aly base Tryz.func417 (Λ:=agz) (cF acJ nF)
def Yc:aD:=au [pf (.sl .str),pI,pI] [rB] (c3 Pu.hZ)
theorem aeX:aA Tryz.prog 418 Yc:=f0 {merge:=mg [(2,6)]} (base.add aeK) Tryz.func418
def aaT:aD:=au [pd (.sl bg),pf (.sl .str),pI,pI,pI,pd .bool] [(false,(.sl (.own none) (.int .i64))),(false,(.sl (.own none) (.int .i64))),rB] (c6 Pu.ov)
def arc:bH:=((((bH.nil.add 142 CR).add 149 aaH).add 150 aaI).add 417 aih).add 418 Yc
def alr:An:={mask:=mk [(5,[0,2,3,4,5,7,12,13,14,15,16])],merge:=mg [(3,34),(10,57)],mv:=[35,36,64,71,81,82]}
abbrev FG:SD:=⟨.data false (.sl .arg bg)::B::DI::DI::DI::DB::B::.ptr 7 0::bs 4 (.data false (.sl (.own (some 147456)) (.int .i64))::.data false (.sl (.own (some 159744)) (.int .i64))::DB::.data false (.sl (.own (some 184320)) (.int .i64))::.data false (.sl (.own (some 196608)) (.int .i64))::bs 66 []),zs 7 ((some (.sl .arg .str))::zs 75 []),.none⟩
def XH {R:Type}(X:SD.D FG)(K:Ex→AS→Option R):=Pu.g5 (λy0 y1 y2 y3=>ke 0 K FG ((z2 (w y0 (w y1 (z4 (w y2 (u y3))))) X.1),X.2)) (λy0 y1 y2 y3 y4 y5 y6=>kr K FG ((z2 (w y0 (w y1 (z1 (w y2 (w y3 (w y4 (w y5 (u y6)))))))) X.1),X.2)) X.1.1 X.1.2.1 (q4 X) (q5 X) (q6 X) (q7 X) X.2.1.1
def aeq:bG:=dT FG XH (λX=>(q2 X,q3 X,q8 X,q9 X))
def agt:bN:=(bN.nil).add 5 aeq
theorem acD:dP E arc alr agt (az Tryz.f401 0):=lk FG XH (λX=>(q2 X,q3 X,q8 X,q9 X)) λX x=>((z2 (w x.1 (w x.2.1 (z4 (w x.2.2.1 (u x.2.2.2))))) X.1),X.2)
theorem amz:aA Tryz.prog 401 aaT:=fk alr (((((base.add ll).add aeK).add alC).add auY).add aeX) Tryz.func401 (Λ:=agt) (cF acD nF)
def aia:aD:=au [pf (.sl .str),pI,pI] [rS,rB] (c3 Pu.kU)
def ard:bH:=bH.nil.add 418 Yc
def als:An:={mask:=mk [(4,[1,2,3,8])]}
abbrev Kj:SD:=⟨B::DI::DI::.ptr 3 0::bs 4 (.data false .str::bs 35 []),Z::Z::Z::(some (.sl .arg .str))::zs 40 [],.none⟩
def XI {R:Type}(X:SD.D Kj)(K:Ex→AS→Option R):=Pu.hY (λy0 y1 y2=>ke 0 K Kj ((w y0 (w y1 (u y2)) X.1),X.2)) X.2.1.1
def aer:bG:=dT Kj XI (λX=>(X.1.1,X.1.2.1,q2 X))
def agu:bN:=(bN.nil).add 4 aer
theorem acE:dP E ard als agu (az Tryz.f402 0):=lk Kj XI (λX=>(X.1.1,X.1.2.1,q2 X)) λX x=>((w x.1 (w x.2.1 (u x.2.2)) X.1),X.2)
theorem auN:aA Tryz.prog 402 aia:=fk als (base.add aeX) Tryz.func402 (Λ:=agu) (cF acE nF)
def apG:aD:=au [pd (.sl bg),pf (.sl .str),pI,pI,pI] [rS,rB] (c5 Pu.uo)
def aq4:bH:=(bH.nil.add 401 aaT).add 402 aia
def ali:An:={mask:=mk [(6,[6,12,13,15,16])]}
abbrev Ka:SD:=⟨bs 6 (.ptr 6 0::bs 5 (.data false (.sl .loc (.int .i64))::.data false (.sl .loc (.int .i64))::B::.data false .str::DI::bs 37 [])),zs 6 ((some (.sl .arg .str))::zs 47 []),.none⟩
def Xx {R:Type}(X:SD.D Ka)(K:Ex→AS→Option R):=Pu.oL (λy0 y1=>ke 0 K Ka ((z2 (w y0 (u y1)) X.1),X.2)) X.1.1 X.1.2.1 X.2.1.1
def aeg:bG:=dT Ka Xx (λX=>(q2 X,q3 X))
def agl:bN:=(bN.nil).add 6 aeg
theorem acs:dP E aq4 ali agl (az Tryz.f378 0):=lk Ka Xx (λX=>(q2 X,q3 X)) λX x=>((z2 (w x.1 (u x.2)) X.1),X.2)
theorem aus:aA Tryz.prog 378 apG:=fk ali ((base.add amz).add auN) Tryz.func378 (Λ:=agl) (cF acs nF)
def apH:aD:=au [pf eY,pI] [rI] (c2 Pu.nr)
theorem aut:aA Tryz.prog 379 apH:=f0 {merge:=mg [(1,11)]} (base.add YM) Tryz.func379
def apd:aD:=au [pd (.sl bg),pf (.sl .str),pI,pf eY] [rS,(true,Y1),rB] (c4 Pu.oo)
theorem at2:aA Tryz.prog 342 apd:=f0 {merge:=mg [(1,20)],sb:=mg [(9,9)]} ((((base.add YM).add amk).add aus).add aut) Tryz.func342
def ap2:aD:=au [pf HV] [rB] (c1 Pu.wm)
theorem auZ:aA Tryz.prog 419 ap2:=f0 {merge:=mg [(1,2)]} (base.add ll) Tryz.func419
def apW:aD:=au [pf HV] [rS] (c1 Pu.oM)
theorem auO:aA Tryz.prog 403 apW:=f0 {} (((base.add Ns).add Nt).add auZ) Tryz.func403
def apI:aD:=au [pd .str] [(true,Y26),rB] (c1 Pu.kR)
theorem auu:aA Tryz.prog 380 apI:=f0 {sb:=mg [(4,4)]} (((base.add Vl).add Vn).add auO) Tryz.func380
def aib:aD:=au [pf (.sl .str),pI,pd .str] [(true,(.sl (.own none) .str)),rB] (c3 Pu.nw)
def are:bH:=((bH.nil.add 137 X8).add 331 ahU).add 418 Yc
def alu:An:={mask:=mk [(4,[1,2,6,8])],mv:=[19,52]}
abbrev Kk:SD:=⟨B::DI::.data false .str::B::B::B::.ptr 6 0::B::.ptr 8 0::bs 44 [],zs 6 ((some (.sl (.own (some 73729)) .str))::Z::(some (.sl (.own (some 98305)) .str))::zs 44 []),.none⟩
def XJ {R:Type}(X:SD.D Kk)(K:Ex→AS→Option R):=Pu.jw (λy0 y1 y2=>ke 0 K Kk ((w y0 (u y1) X.1),(z1 (u y2) X.2.1),X.2.2)) X.2.1.1
def aes:bG:=dT Kk XJ (λX=>(X.1.1,X.1.2.1,X.2.1.2.1))
def agv:bN:=(bN.nil).add 4 aes
theorem acF:dP E are alu agv (az Tryz.f404 0):=lk Kk XJ (λX=>(X.1.1,X.1.2.1,X.2.1.2.1)) λX x=>((w x.1 (u x.2.1) X.1),(z1 (u x.2.2) X.2.1),X.2.2)
theorem auP:aA Tryz.prog 404 aib:=fk alu (((base.add PU).add aeU).add aeX) Tryz.func404 (Λ:=agv) (cF acF nF)
def apJ:aD:=au [pd (.sl bg),pf (.sl .str),pI,pI,pd .str] [(true,(.sl (.own none) .str)),rB] (c5 Pu.oh)
def aq5:bH:=((bH.nil.add 137 X8).add 401 aaT).add 404 aib
def alj:An:={mask:=mk [(6,[4,10,12,13,15,16])],mv:=[32,39,52,60],sb:=mg [(15,15)]}
abbrev Kd:SD:=⟨bs 4 (.data false .str::bs 5 (.ptr 10 0::B::.data false (.sl .loc (.int .i64))::.data false (.sl .loc (.int .i64))::B::.ptr 15 0::DI::bs 44 [])),zs 10 ((some (.sl (.own (some 122881)) .str))::zs 4 ((some (.sl (.own (some 184321)) .str))::zs 45 [])),.none⟩
def XA {R:Type}(X:SD.D Kd)(K:Ex→AS→Option R):=Pu.jU (λy0 y1 y2=>ke 0 K Kd ((w y0 (z2 (u y1)) X.1),(z1 (u y2) X.2.1),X.2.2)) X.1.2.1 (q2 X) X.2.1.1
def aej:bG:=dT Kd XA (λX=>(X.1.1,q3 X,X.2.1.2.1))
def agm:bN:=(bN.nil).add 6 aej
theorem acw:dP E aq5 alj agm (az Tryz.f381 0):=lk Kd XA (λX=>(X.1.1,q3 X,X.2.1.2.1)) λX x=>((w x.1 (z2 (u x.2.1)) X.1),(z1 (u x.2.2) X.2.1),X.2.2)
theorem amw:aA Tryz.prog 381 apJ:=fk alj (((base.add PU).add amz).add auP) Tryz.func381 (Λ:=agm) (cF acw nF)
def apX:aD:=au [pf fc] [rB] (c1 Pu.lI)
theorem amA:aA Tryz.prog 405 apX:=f0 {merge:=mg [(1,2)]} (base.add ll) Tryz.func405
def apY:aD:=au [pf fc,pI] [rS] (c2 Pu.lr)
theorem auQ:aA Tryz.prog 406 apY:=f0 {merge:=mg [(1,12)]} ((((base.add ll).add Ns).add Nt).add amA) Tryz.func406
def apZ:aD:=au [pf eu] [rI] (c1 Pu.sQ)
theorem auR:aA Tryz.prog 407 apZ:=f0 {} base Tryz.func407
def apK:aD:=au [pd (.sl bg),pf (.sl .str),pI,pf eu,pf fc] [(true,(.sl (.own none) .str)),(true,Y4),rB] (c5 Pu.kA)
theorem auv:aA Tryz.prog 382 apK:=f0 {merge:=mg [(1,22)],mv:=[26,44,59],mb:=mg [(59,13)],sb:=mg [(10,10),(11,11),(13,13)]} ((((((base.add PU).add alZ).add amw).add amA).add auQ).add auR) Tryz.func382
def ape:aD:=au [pd (.sl bg),pf (.sl .str),pI,pf bt,pd .str,pd .str] [(true,(.sl (.own none) .str)),(true,Y4),rB] (c6 Pu.sR)
theorem at3:aA Tryz.prog 343 ape:=f0 {merge:=mg [(3,46)],mv:=[90],sb:=mg [(12,12),(13,13)]} (((((((base.add PU).add alG).add al4).add amv).add auu).add amw).add auv) Tryz.func343
def aoj:aD:=au [pd (.sl bg),pf (.sl .str),pI,pf bt,pd .str] [(true,(.sl (.own none) .str)),(true,Y14)] (c5 Pu.mz)
theorem atb:aA Tryz.prog 261 aoj:=f0 {merge:=mg [(1,30),(5,58)],mv:=[44,75],mb:=mg [(75,15)],sb:=mg [(10,10),(11,11)]} ((((base.add PU).add aeL).add at2).add at3) Tryz.func261
def aok:aD:=au [pf cd] [(true,Y23)] (c1 Pu.zz)
theorem atc:aA Tryz.prog 262 aok:=f0 {} base Tryz.func262
def anb:aD:=au [pd (.sl bg),pf (.sl .str),pI,pf bt,pd .str,pf cd,pd .bool] [(true,(.sl (.own none) .str)),(true,Y14)] (c7 Pu.kB)
theorem ar9:aA Tryz.prog 165 anb:=f0 {merge:=mg [(1,29),(3,43)],mv:=[52,67,76],mb:=mg [(76,16)],sb:=mg [(14,14),(15,15)]} (((((((base.add o22).add PU).add aeL).add al5).add ata).add atb).add atc) Tryz.func165
def apf:aD:=au [pf cl] [(true,Y15)] (c1 Pu.sS)
theorem at4:aA Tryz.prog 344 apf:=f0 {} (base.add al0) Tryz.func344
def ahy:aD:=au [pf cl] [(true,Y15)] (c1 Pu.sF)
theorem atd:aA Tryz.prog 263 ahy:=f0 {} ((base.add alE).add at4) Tryz.func263
def anc:aD:=FV cv [pI,pI] [] λx a=>Pu.jY x a.1 a.2.1
def aiy:bH:=bH.nil.add 263 ahy
def akA:An:={mask:=mk [(2,[0,1,6,7])]}
abbrev JL:SD:=⟨.ptr 0 0::DI::bs 4 (DI::DI::bs 42 []),(some Y7)::zs 49 [],.ptr⟩
def WH {R:Type}(X:SD.D JL)(K:Ex→AS→Option R):=Pu.lN (λy0 y1=>ke 0 K JL ((z2 (u y0) X.1),(u y1 X.2.1),X.2.2)) X.1.1 X.1.2.1
def adr:bG:=dT JL WH (λX=>(q2 X,X.2.1.1))
def afC:bN:=(bN.nil).add 2 adr
theorem abB:dP E aiy akA afC (az Tryz.f166 0):=lk JL WH (λX=>(q2 X,X.2.1.1)) λX x=>((z2 (u x.1) X.1),(u x.2 X.2.1),X.2.2)
theorem asa:aA Tryz.prog 166 anc:=aA.Vo (Us (Γ:=aiy) (an:=akA) (Λ:=afC) (base.add atd) Tryz.func166 (by kernel_rfl) (hF (by kernel_rfl) (cF abB nF))) (λx a=>by kernel_rfl)
def e75:aD:=au [pf cv,pd .str] [(true,Y2)] (c2 Pu.nk)
theorem o75:aA Tryz.prog 75 e75:=f0 {mv:=[16,36,48,64,71,89,91,107],sb:=mg [(9,9),(10,10)]} (((((((base.add o62).add o68).add ar6).add ar7).add ar8).add ar9).add asa) Tryz.func75
def e23:aD:=FV dQ [pI,pf cd] [] λx a=>Pu.rr x a.1 a.2.1
def g23:bH:=(((((bH.nil.add 64 e64).add 71 e71).add 72 e72).add 73 e73).add 74 e74).add 75 e75
def n23:An:={mask:=mk [(5,[0,5,6,8,9,10])],mv:=[13,56]}
abbrev QH:SD:=⟨.ptr 0 0::bs 4 (.ptr 5 0::.data false (.sl (.own (some 73728)) fy)::B::.data false (.sl (.own (some 98304)) (.int .i64))::DI::DI::bs 74 []),(some (.pair (.sl (.own (some 1)) cv) (.pair (.sl (.own (some 4)) aC) (.pair (.sl (.own (some 7)) bq) (.pair (.sl (.own (some 10)) .str) (.pair Y1 (.pair (.sl (.own (some 25)) (.int .i64)) (.sl (.own (some 28)) .str))))))))::zs 4 ((some Y0)::zs 79 []),.ptr⟩
def ZM {R:Type}(X:SD.D QH)(K:Ex→AS→Option R):=Pu.iV (λy0 y1=>ke 0 K QH ((z3 (u y0) X.1),(u y1 X.2.1),X.2.2)) X.1.1 X.1.2.1 (q2 X) X.2.1.2.1
def ajt:bG:=dT QH ZM (λX=>(q3 X,X.2.1.1))
def L23:bN:=(bN.nil).add 5 ajt
theorem aiK:dP E g23 n23 L23 (az Tryz.f23 0):=lk QH ZM (λX=>(q3 X,X.2.1.1)) λX x=>((z3 (u x.1) X.1),(u x.2 X.2.1),X.2.2)
theorem o23:aA Tryz.prog 23 e23:=aA.Vo (Us (Γ:=g23) (an:=n23) (Λ:=L23) ((((((base.add o64).add o71).add o72).add o73).add o74).add o75) Tryz.func23 (by kernel_rfl) (hF (by kernel_rfl) (cF aiK nF))) (λx a=>by kernel_rfl)
def e6:aD:=au [pf dQ,pI,pf cd] [(true,Y6)] (c3 Pu.oK)
theorem o6:aA Tryz.prog 6 e6:=f0 {merge:=mg [(2,15)],mv:=[19]} ((((base.add o20).add o21).add o22).add o23) Tryz.func6
def e29:aD:=au [pd (.sl (.int .i64))] [(false,(.sl (.own none) (.int .i64)))] (c1 Pu.iO)
def g29:bH:=bH.nil
def n29:An:={mask:=mk [(3,[0,3,4])],mv:=[21]}
abbrev QL:SD:=⟨.data false (.sl .arg (.int .i64))::B::B::.data false (.sl (.own (some 36864)) (.int .i64))::DI::bs 17 [],zs 22 [],.none⟩
def ZQ {R:Type}(X:SD.D QL)(K:Ex→AS→Option R):=Pu.zi (λy0 y1=>ke 0 K QL ((z1 (w y0 (u y1)) X.1),X.2)) X.1.1
def ajx:bG:=dT QL ZQ (λX=>(X.1.2.1,q2 X))
def L29:bN:=(bN.nil).add 3 ajx
theorem aiO:dP E g29 n29 L29 (az Tryz.f29 0):=lk QL ZQ (λX=>(X.1.2.1,q2 X)) λX x=>((z1 (w x.1 (u x.2)) X.1),X.2)
theorem o29:aA Tryz.prog 29 e29:=fk n29 base Tryz.func29 (Λ:=L29) (cF aiO nF)
def e30:aD:=au [pd (.sl .str)] [(false,(.sl (.own none) .str))] (c1 Pu.jM)
def g30:bH:=bH.nil
def n30:An:={mask:=mk [(3,[0,3,4])],mv:=[21]}
abbrev QM:SD:=⟨.data false (.sl .arg .str)::B::B::.data false (.sl (.own (some 36864)) .str)::DI::bs 17 [],zs 22 [],.none⟩
def ZR {R:Type}(X:SD.D QM)(K:Ex→AS→Option R):=Pu.wb (λy0 y1=>ke 0 K QM ((z1 (w y0 (u y1)) X.1),X.2)) X.1.1
def ajy:bG:=dT QM ZR (λX=>(X.1.2.1,q2 X))
def L30:bN:=(bN.nil).add 3 ajy
theorem aiP:dP E g30 n30 L30 (az Tryz.f30 0):=lk QM ZR (λX=>(X.1.2.1,q2 X)) λX x=>((z1 (w x.1 (u x.2)) X.1),X.2)
theorem o30:aA Tryz.prog 30 e30:=fk n30 base Tryz.func30 (Λ:=L30) (cF aiP nF)
def ane:aD:=au [pf (.sl .str)] [(true,(.sl (.own none) .str))] (c1 Pu.n8)
theorem asb:aA Tryz.prog 167 ane:=f0 {mv:=[8]} (base.add o30) Tryz.func167
def ahz:aD:=au [pf bg] [(true,Y27)] (c1 Pu.qJ)
theorem ate:aA Tryz.prog 264 ahz:=f0 {} base Tryz.func264
def anf:aD:=au [pd (.sl bg)] [(false,(.sl (.own none) bg))] (c1 Pu.tI)
def aqn:bH:=bH.nil.add 264 ahz
def akB:An:={mask:=mk [(3,[0,3,4])],mv:=[22]}
abbrev JM:SD:=⟨.data false (.sl .arg bg)::B::B::.data false (.sl (.own (some 36864)) bg)::DI::bs 18 [],zs 23 [],.none⟩
def WI {R:Type}(X:SD.D JM)(K:Ex→AS→Option R):=Pu.vh (λy0 y1=>ke 0 K JM ((z1 (w y0 (u y1)) X.1),X.2)) X.1.1
def ads:bG:=dT JM WI (λX=>(X.1.2.1,q2 X))
def afD:bN:=(bN.nil).add 3 ads
theorem abC:dP E aqn akB afD (az Tryz.f168 0):=lk JM WI (λX=>(X.1.2.1,q2 X)) λX x=>((z1 (w x.1 (u x.2)) X.1),X.2)
theorem asc:aA Tryz.prog 168 anf:=fk akB (base.add ate) Tryz.func168 (Λ:=afD) (cF abC nF)
def aol:aD:=au [pf eY] [(true,Y1)] (c1 Pu.vY)
theorem al6:aA Tryz.prog 265 aol:=f0 {} base Tryz.func265
def ahA:aD:=au [pf dF] [(true,Y9)] (c1 Pu.mn)
theorem al7:aA Tryz.prog 266 ahA:=f0 {mv:=[17]} (base.add o29) Tryz.func266
def ahW:aD:=au [pf dA] [(true,(.pair (.int .i64) (.pair (.int .i64) (.sl (.own none) (.int .i64)))))] (c1 Pu.py)
theorem at5:aA Tryz.prog 345 ahW:=f0 {mv:=[14]} (base.add o29) Tryz.func345
def aom:aD:=au [pd (.sl dA)] [(false,(.sl (.own none) dA))] (c1 Pu.xT)
def aqL:bH:=bH.nil.add 345 ahW
def akZ:An:={mask:=mk [(3,[0,3,4])],mv:=[22]}
abbrev JY:SD:=⟨.data false (.sl .arg dA)::B::B::.data false (.sl (.own (some 36864)) dA)::DI::bs 18 [],zs 23 [],.none⟩
def Xc {R:Type}(X:SD.D JY)(K:Ex→AS→Option R):=Pu.yF (λy0 y1=>ke 0 K JY ((z1 (w y0 (u y1)) X.1),X.2)) X.1.1
def adV:bG:=dT JY Xc (λX=>(X.1.2.1,q2 X))
def af1:bN:=(bN.nil).add 3 adV
theorem ab5:dP E aqL akZ af1 (az Tryz.f267 0):=lk JY Xc (λX=>(X.1.2.1,q2 X)) λX x=>((z1 (w x.1 (u x.2)) X.1),X.2)
theorem atf:aA Tryz.prog 267 aom:=fk akZ (base.add at5) Tryz.func267 (Λ:=af1) (cF ab5 nF)
def ang:aD:=au [pf fO] [(true,Y24)] (c1 Pu.mq)
theorem asd:aA Tryz.prog 169 ang:=f0 {mv:=[19]} (((base.add al6).add al7).add atf) Tryz.func169
def apg:aD:=au [pf eu] [(true,Y4)] (c1 Pu.gK)
theorem at6:aA Tryz.prog 346 apg:=f0 {} base Tryz.func346
def e31:aD:=au [pf gE] [(true,(.pair (.int .i64) Y22))] (c1 Pu.vj)
theorem o31:aA Tryz.prog 31 e31:=f0 {} base Tryz.func31
def e8:aD:=au [pf cd] [(true,Y0)] (c1 Pu.gR)
theorem o8:aA Tryz.prog 8 e8:=f0 {} (base.add o31) Tryz.func8
def aph:aD:=au [pf nD] [(true,Y23)] (c1 Pu.qK)
theorem at7:aA Tryz.prog 347 aph:=f0 {} (base.add o8) Tryz.func347
def ahB:aD:=au [pf bt] [(true,Y14)] (c1 Pu.jL)
theorem atg:aA Tryz.prog 268 ahB:=f0 {} (((base.add al6).add at6).add at7) Tryz.func268
def anh:aD:=au [pd (.sl bt)] [(false,(.sl (.own none) bt))] (c1 Pu.tJ)
def aqo:bH:=bH.nil.add 268 ahB
def akC:An:={mask:=mk [(3,[0,3,4])],mv:=[22]}
abbrev JN:SD:=⟨.data false (.sl .arg bt)::B::B::.data false (.sl (.own (some 36864)) bt)::DI::bs 18 [],zs 23 [],.none⟩
def WJ {R:Type}(X:SD.D JN)(K:Ex→AS→Option R):=Pu.vi (λy0 y1=>ke 0 K JN ((z1 (w y0 (u y1)) X.1),X.2)) X.1.1
def adt:bG:=dT JN WJ (λX=>(X.1.2.1,q2 X))
def afE:bN:=(bN.nil).add 3 adt
theorem abD:dP E aqo akC afE (az Tryz.f170 0):=lk JN WJ (λX=>(X.1.2.1,q2 X)) λX x=>((z1 (w x.1 (u x.2)) X.1),X.2)
theorem ase:aA Tryz.prog 170 anh:=fk akC (base.add atg) Tryz.func170 (Λ:=afE) (cF abD nF)
def ani:aD:=au [pd (.sl dF)] [(false,(.sl (.own none) dF))] (c1 Pu.xR)
def aqp:bH:=bH.nil.add 266 ahA
def akD:An:={mask:=mk [(3,[0,3,4])],mv:=[22]}
abbrev JO:SD:=⟨.data false (.sl .arg dF)::B::B::.data false (.sl (.own (some 36864)) dF)::DI::bs 18 [],zs 23 [],.none⟩
def WK {R:Type}(X:SD.D JO)(K:Ex→AS→Option R):=Pu.yD (λy0 y1=>ke 0 K JO ((z1 (w y0 (u y1)) X.1),X.2)) X.1.1
def adu:bG:=dT JO WK (λX=>(X.1.2.1,q2 X))
def afF:bN:=(bN.nil).add 3 adu
theorem abE:dP E aqp akD afF (az Tryz.f171 0):=lk JO WK (λX=>(X.1.2.1,q2 X)) λX x=>((z1 (w x.1 (u x.2)) X.1),X.2)
theorem asf:aA Tryz.prog 171 ani:=fk akD (base.add al7) Tryz.func171 (Λ:=afF) (cF abE nF)
def ahC:aD:=au [pf cl] [(true,Y15)] (c1 Pu.sD)
theorem ath:aA Tryz.prog 269 ahC:=f0 {} base Tryz.func269
def anj:aD:=au [pd (.sl cl)] [(false,(.sl (.own none) cl))] (c1 Pu.vl)
def aqq:bH:=bH.nil.add 269 ahC
def akE:An:={mask:=mk [(3,[0,3,4])],mv:=[22]}
abbrev JP:SD:=⟨.data false (.sl .arg cl)::B::B::.data false (.sl (.own (some 36864)) cl)::DI::bs 18 [],zs 23 [],.none⟩
def WL {R:Type}(X:SD.D JP)(K:Ex→AS→Option R):=Pu.wc (λy0 y1=>ke 0 K JP ((z1 (w y0 (u y1)) X.1),X.2)) X.1.1
def adv:bG:=dT JP WL (λX=>(X.1.2.1,q2 X))
def afG:bN:=(bN.nil).add 3 adv
theorem abF:dP E aqq akE afG (az Tryz.f172 0):=lk JP WL (λX=>(X.1.2.1,q2 X)) λX x=>((z1 (w x.1 (u x.2)) X.1),X.2)
theorem asg:aA Tryz.prog 172 anj:=fk akE (base.add ath) Tryz.func172 (Λ:=afG) (cF abF nF)
def ank:aD:=au [pd (.sl .bool)] [(false,(.sl (.own none) .bool))] (c1 Pu.xO)
def aqr:bH:=bH.nil
def akF:An:={mask:=mk [(3,[0,3,4])],mv:=[21]}
abbrev JQ:SD:=⟨.data false (.sl .arg .bool)::B::B::.data false (.sl (.own (some 36864)) .bool)::DI::bs 17 [],zs 22 [],.none⟩
def WM {R:Type}(X:SD.D JQ)(K:Ex→AS→Option R):=Pu.yB (λy0 y1=>ke 0 K JQ ((z1 (w y0 (u y1)) X.1),X.2)) X.1.1
def adw:bG:=dT JQ WM (λX=>(X.1.2.1,q2 X))
def afH:bN:=(bN.nil).add 3 adw
theorem abG:dP E aqr akF afH (az Tryz.f173 0):=lk JQ WM (λX=>(X.1.2.1,q2 X)) λX x=>((z1 (w x.1 (u x.2)) X.1),X.2)
theorem ash:aA Tryz.prog 173 ank:=fk akF base Tryz.func173 (Λ:=afH) (cF abG nF)
def anl:aD:=au [pf fw] [(true,Y17)] (c1 Pu.k9)
theorem alI:aA Tryz.prog 174 anl:=f0 {mv:=[14]} (base.add o29) Tryz.func174
def ahX:aD:=au [pf dw] [(true,(.pair (.int .i64) (.pair (.int .i64) (.pair (.int .i64) Y26))))] (c1 Pu.vZ)
theorem at8:aA Tryz.prog 348 ahX:=f0 {} base Tryz.func348
def aon:aD:=au [pd (.sl dw)] [(false,(.sl (.own none) dw))] (c1 Pu.xS)
def aqM:bH:=bH.nil.add 348 ahX
def ak0:An:={mask:=mk [(3,[0,3,4])],mv:=[22]}
abbrev JZ:SD:=⟨.data false (.sl .arg dw)::B::B::.data false (.sl (.own (some 36864)) dw)::DI::bs 18 [],zs 23 [],.none⟩
def Xd {R:Type}(X:SD.D JZ)(K:Ex→AS→Option R):=Pu.yE (λy0 y1=>ke 0 K JZ ((z1 (w y0 (u y1)) X.1),X.2)) X.1.1
def adW:bG:=dT JZ Xd (λX=>(X.1.2.1,q2 X))
def af2:bN:=(bN.nil).add 3 adW
theorem ab6:dP E aqM ak0 af2 (az Tryz.f270 0):=lk JZ Xd (λX=>(X.1.2.1,q2 X)) λX x=>((z1 (w x.1 (u x.2)) X.1),X.2)
theorem ati:aA Tryz.prog 270 aon:=fk ak0 (base.add at8) Tryz.func270 (Λ:=af2) (cF ab6 nF)
def apj:aD:=au [pf fc] [(true,(.pair (.int .i64) Y1))] (c1 Pu.vX)
theorem amp:aA Tryz.prog 350 apj:=f0 {} base Tryz.func350
def ah4:aD:=au [pf cS] [(true,(.pair (.int .i64) (.pair (.pair (.int .i64) Y1) (.int .i64))))] (c1 Pu.pz)
theorem auw:aA Tryz.prog 383 ah4:=f0 {} (base.add amp) Tryz.func383
def api:aD:=au [pd (.sl cS)] [(false,(.sl (.own none) cS))] (c1 Pu.xU)
def aqX:bH:=bH.nil.add 383 ah4
def alb:An:={mask:=mk [(3,[0,3,4])],mv:=[22]}
abbrev J3:SD:=⟨.data false (.sl .arg cS)::B::B::.data false (.sl (.own (some 36864)) cS)::DI::bs 18 [],zs 23 [],.none⟩
def Xp {R:Type}(X:SD.D J3)(K:Ex→AS→Option R):=Pu.yG (λy0 y1=>ke 0 K J3 ((z1 (w y0 (u y1)) X.1),X.2)) X.1.1
def ad8:bG:=dT J3 Xp (λX=>(X.1.2.1,q2 X))
def agd:bN:=(bN.nil).add 3 ad8
theorem acj:dP E aqX alb agd (az Tryz.f349 0):=lk J3 Xp (λX=>(X.1.2.1,q2 X)) λX x=>((z1 (w x.1 (u x.2)) X.1),X.2)
theorem at9:aA Tryz.prog 349 api:=fk alb (base.add auw) Tryz.func349 (Λ:=agd) (cF acj nF)
def aoo:aD:=au [pf (.sl cS)] [(true,(.sl (.own none) cS))] (c1 Pu.jJ)
theorem atj:aA Tryz.prog 271 aoo:=f0 {mv:=[8]} (base.add at9) Tryz.func271
def aop:aD:=au [pf ia] [(true,(.pair .str (.sl (.own none) (.int .i64))))] (c1 Pu.oa)
theorem atk:aA Tryz.prog 272 aop:=f0 {mv:=[11]} (base.add o29) Tryz.func272
def anm:aD:=au [pf eL] [(true,Y18)] (c1 Pu.kP)
theorem asi:aA Tryz.prog 175 anm:=f0 {mv:=[16]} (((base.add ati).add atj).add atk) Tryz.func175
def ahD:aD:=au [pf cu] [(true,(.pair (.pair (.int .i64) Y1) (.pair (.int .i64) (.pair .str .bool))))] (c1 Pu.la)
theorem atl:aA Tryz.prog 273 ahD:=f0 {} (base.add amp) Tryz.func273
def ann:aD:=au [pd (.sl cu)] [(false,(.sl (.own none) cu))] (c1 Pu.vk)
def aqs:bH:=bH.nil.add 273 ahD
def akG:An:={mask:=mk [(3,[0,3,4])],mv:=[22]}
abbrev JR:SD:=⟨.data false (.sl .arg cu)::B::B::.data false (.sl (.own (some 36864)) cu)::DI::bs 18 [],zs 23 [],.none⟩
def WN {R:Type}(X:SD.D JR)(K:Ex→AS→Option R):=Pu.wa (λy0 y1=>ke 0 K JR ((z1 (w y0 (u y1)) X.1),X.2)) X.1.1
def adx:bG:=dT JR WN (λX=>(X.1.2.1,q2 X))
def afI:bN:=(bN.nil).add 3 adx
theorem abH:dP E aqs akG afI (az Tryz.f176 0):=lk JR WN (λX=>(X.1.2.1,q2 X)) λX x=>((z1 (w x.1 (u x.2)) X.1),X.2)
theorem asj:aA Tryz.prog 176 ann:=fk akG (base.add atl) Tryz.func176 (Λ:=afI) (cF abH nF)
def ano:aD:=au [pf fc] [(true,(.pair (.int .i64) Y1))] (c1 Pu.tG)
theorem asl:aA Tryz.prog 177 ano:=f0 {} base Tryz.func177
def e76:aD:=au [pf cv] [(true,Y2)] (c1 Pu.px)
theorem o76:aA Tryz.prog 76 e76:=f0 {mv:=[63]} (((((((((((((base.add o29).add o30).add asb).add asc).add asd).add ase).add asf).add asg).add ash).add alI).add asi).add asj).add asl) Tryz.func76
def e24:aD:=au [pd (.sl cv)] [(false,(.sl (.own none) cv))] (c1 Pu.xQ)
def g24:bH:=bH.nil.add 76 e76
def n24:An:={mask:=mk [(3,[0,3,4])],mv:=[22]}
abbrev QI:SD:=⟨.data false (.sl .arg cv)::B::B::.data false (.sl (.own (some 36864)) cv)::DI::bs 18 [],zs 23 [],.none⟩
def ZN {R:Type}(X:SD.D QI)(K:Ex→AS→Option R):=Pu.yC (λy0 y1=>ke 0 K QI ((z1 (w y0 (u y1)) X.1),X.2)) X.1.1
def aju:bG:=dT QI ZN (λX=>(X.1.2.1,q2 X))
def L24:bN:=(bN.nil).add 3 aju
theorem aiL:dP E g24 n24 L24 (az Tryz.f24 0):=lk QI ZN (λX=>(X.1.2.1,q2 X)) λX x=>((z1 (w x.1 (u x.2)) X.1),X.2)
theorem o24:aA Tryz.prog 24 e24:=fk n24 (base.add o76) Tryz.func24 (Λ:=L24) (cF aiL nF)
def anp:aD:=au [pf eu] [(true,Y4)] (c1 Pu.wB)
theorem asm:aA Tryz.prog 178 anp:=f0 {} base Tryz.func178
def e77:aD:=au [pf aC] [(true,Y19)] (c1 Pu.eD)
theorem o77:aA Tryz.prog 77 e77:=f0 {} (base.add asm) Tryz.func77
def e25:aD:=au [pd (.sl aC)] [(false,(.sl (.own none) aC))] (c1 Pu.jN)
def g25:bH:=bH.nil.add 77 e77
def n25:An:={mask:=mk [(3,[0,3,4])],mv:=[22]}
abbrev QJ:SD:=⟨.data false (.sl .arg aC)::B::B::.data false (.sl (.own (some 36864)) aC)::DI::bs 18 [],zs 23 [],.none⟩
def ZO {R:Type}(X:SD.D QJ)(K:Ex→AS→Option R):=Pu.mr (λy0 y1=>ke 0 K QJ ((z1 (w y0 (u y1)) X.1),X.2)) X.1.1
def ajv:bG:=dT QJ ZO (λX=>(X.1.2.1,q2 X))
def L25:bN:=(bN.nil).add 3 ajv
theorem aiM:dP E g25 n25 L25 (az Tryz.f25 0):=lk QJ ZO (λX=>(X.1.2.1,q2 X)) λX x=>((z1 (w x.1 (u x.2)) X.1),X.2)
theorem o25:aA Tryz.prog 25 e25:=fk n25 (base.add o77) Tryz.func25 (Λ:=L25) (cF aiM nF)
def e78:aD:=au [pf bq] [(true,(.pair Y17 Y4))] (c1 Pu.jK)
theorem o78:aA Tryz.prog 78 e78:=f0 {mv:=[17]} (base.add alI) Tryz.func78
def e26:aD:=au [pd (.sl bq)] [(false,(.sl (.own none) bq))] (c1 Pu.tH)
def g26:bH:=bH.nil.add 78 e78
def n26:An:={mask:=mk [(3,[0,3,4])],mv:=[22]}
abbrev QK:SD:=⟨.data false (.sl .arg bq)::B::B::.data false (.sl (.own (some 36864)) bq)::DI::bs 18 [],zs 23 [],.none⟩
def ZP {R:Type}(X:SD.D QK)(K:Ex→AS→Option R):=Pu.vg (λy0 y1=>ke 0 K QK ((z1 (w y0 (u y1)) X.1),X.2)) X.1.1
def ajw:bG:=dT QK ZP (λX=>(X.1.2.1,q2 X))
def L26:bN:=(bN.nil).add 3 ajw
theorem aiN:dP E g26 n26 L26 (az Tryz.f26 0):=lk QK ZP (λX=>(X.1.2.1,q2 X)) λX x=>((z1 (w x.1 (u x.2)) X.1),X.2)
theorem o26:aA Tryz.prog 26 e26:=fk n26 (base.add o78) Tryz.func26 (Λ:=L26) (cF aiN nF)
def e27:aD:=au [pf (.sl .str)] [(true,(.sl (.own none) .str))] (c1 Pu.qI)
theorem o27:aA Tryz.prog 27 e27:=f0 {mv:=[8]} (base.add o30) Tryz.func27
def e28:aD:=au [pf eY] [(true,Y1)] (c1 Pu.xP)
theorem o28:aA Tryz.prog 28 e28:=f0 {} base Tryz.func28
def e7:aD:=au [pf dQ] [(true,Y6)] (c1 Pu.kb)
theorem o7:aA Tryz.prog 7 e7:=f0 {mv:=[32]} (((((((base.add o24).add o25).add o26).add o27).add o28).add o29).add o30) Tryz.func7
def e79:aD:=au [pd (.sl aC)] [(false,(.sl (.own none) aC))] (c1 Pu.ks)
theorem o79:aA Tryz.prog 79 e79:=f0 {} base Tryz.func79
def e82:aD:=au [pd (.sl (.int .i64))] [(false,(.sl (.own none) (.int .i64)))] (c1 Pu.ft)
theorem o82:aA Tryz.prog 82 e82:=f0 {} base Tryz.func82
def ahh:aD:=au [pf fw] [(true,Y17)] (c1 Pu.kN)
theorem alJ:aA Tryz.prog 184 ahh:=f0 {mv:=[7]} (base.add o82) Tryz.func184
def ahd:aD:=au [pf bq] [(true,(.pair Y17 Y4))] (c1 Pu.mY)
theorem asn:aA Tryz.prog 179 ahd:=f0 {mv:=[7]} (base.add alJ) Tryz.func179
def e80:aD:=au [pd (.sl bq)] [(false,(.sl (.own none) bq))] (c1 Pu.p8)
def g80:bH:=bH.nil.add 179 ahd
def n80:An:={mask:=mk [(3,[3,7,8,9])],mv:=[13,19]}
abbrev QV:SD:=⟨B::B::B::.data false (.sl (.own (some 36864)) bq)::B::B::B::.data false (.sl .arg bq)::DI::DI::bs 10 [],zs 20 [],.none⟩
def aaf {R:Type}(X:SD.D QV)(K:Ex→AS→Option R):=Pu.lB (λy0 y1=>ke 0 K QV ((w y0 (z2 (u y1)) X.1),X.2)) X.1.2.1 (q2 X)
def ajW:bG:=dT QV aaf (λX=>(X.1.1,q3 X))
def L80:bN:=(bN.nil).add 3 ajW
theorem ajd:dP E g80 n80 L80 (az Tryz.f80 0):=lk QV aaf (λX=>(X.1.1,q3 X)) λX x=>((w x.1 (z2 (u x.2)) X.1),X.2)
theorem o80:aA Tryz.prog 80 e80:=fk n80 (base.add asn) Tryz.func80 (Λ:=L80) (cF ajd nF)
def e83:aD:=au [pd (.sl .str)] [(false,(.sl (.own none) .str))] (c1 Pu.ff)
theorem o83:aA Tryz.prog 83 e83:=f0 {} base Tryz.func83
def e81:aD:=au [pf (.sl .str)] [(true,(.sl (.own none) .str))] (c1 Pu.uY)
theorem o81:aA Tryz.prog 81 e81:=f0 {} (base.add o83) Tryz.func81
def Ya:aD:=au [pf (.sl .str)] [(true,(.sl (.own none) .str))] (c1 Pu.du)
theorem S3:aA Tryz.prog 180 Ya:=f0 {} (base.add o83) Tryz.func180
def ahe:aD:=au [pd (.sl bg)] [(false,(.sl (.own none) bg))] (c1 Pu.p9)
theorem aso:aA Tryz.prog 181 ahe:=f0 {} base Tryz.func181
def ahg:aD:=au [pf dF] [(true,Y9)] (c1 Pu.iZ)
theorem aeN:aA Tryz.prog 183 ahg:=f0 {mv:=[7]} (base.add o82) Tryz.func183
def aoq:aD:=au [pd (.sl dA)] [(false,(.sl (.own none) dA))] (c1 Pu.sq)
def aqN:bH:=bH.nil.add 82 e82
def ak1:An:={mask:=mk [(3,[3,7,8,9])],mv:=[13,25]}
abbrev J0:SD:=⟨B::B::B::.data false (.sl (.own (some 36864)) dA)::B::B::B::.data false (.sl .arg dA)::DI::DI::bs 16 [],zs 26 [],.none⟩
def Xe {R:Type}(X:SD.D J0)(K:Ex→AS→Option R):=Pu.mZ (λy0 y1=>ke 0 K J0 ((w y0 (z2 (u y1)) X.1),X.2)) X.1.2.1 (q2 X)
def adX:bG:=dT J0 Xe (λX=>(X.1.1,q3 X))
def af3:bN:=(bN.nil).add 3 adX
theorem ab7:dP E aqN ak1 af3 (az Tryz.f274 0):=lk J0 Xe (λX=>(X.1.1,q3 X)) λX x=>((w x.1 (z2 (u x.2)) X.1),X.2)
theorem atm:aA Tryz.prog 274 aoq:=fk ak1 (base.add o82) Tryz.func274 (Λ:=af3) (cF ab7 nF)
def ahf:aD:=au [pf fO] [(true,Y24)] (c1 Pu.vP)
theorem asp:aA Tryz.prog 182 ahf:=f0 {sb:=mg [(2,2)]} ((base.add aeN).add atm) Tryz.func182
def aor:aD:=au [pf (.sl cS)] [(true,(.sl (.own none) cS))] (c1 Pu.qa)
theorem atn:aA Tryz.prog 275 aor:=f0 {} base Tryz.func275
def aos:aD:=au [pf ia] [(true,(.pair .str (.sl (.own none) (.int .i64))))] (c1 Pu.oE)
theorem ato:aA Tryz.prog 276 aos:=f0 {sb:=mg [(2,2)]} (base.add o82) Tryz.func276
def ahi:aD:=au [pf eL] [(true,Y18)] (c1 Pu.lC)
theorem asq:aA Tryz.prog 185 ahi:=f0 {sb:=mg [(2,2)]} ((base.add atn).add ato) Tryz.func185
def ahj:aD:=au [pd (.sl cu)] [(false,(.sl (.own none) cu))] (c1 Pu.m5)
theorem asr:aA Tryz.prog 186 ahj:=f0 {} base Tryz.func186
def e84:aD:=au [pf cv] [(true,Y2)] (c1 Pu.nT)
def g84:bH:=((((((((bH.nil.add 82 e82).add 83 e83).add 180 Ya).add 181 ahe).add 182 ahf).add 183 ahg).add 184 ahh).add 185 ahi).add 186 ahj
def n84:An:={mask:=mk [(8,[1,2,3,27,28,29])],mv:=[34,75],mb:=mg [(34,3)],sb:=mg [(39,3)]}
abbrev QW:SD:=⟨B::.ptr 1 0::.ptr 2 0::.ptr 3 0::bs 23 (.data false (.sl .arg dF)::DI::DI::bs 46 []),Z::(some Y3)::(some Y5)::(some Y8)::zs 72 [],.none⟩
def aag {R:Type}(X:SD.D QW)(K:Ex→AS→Option R):=Pu.mX (λy0 y1=>ke 0 K QW ((z2 (u y0) X.1),(z2 (u y1) X.2.1),X.2.2)) X.1.1 X.1.2.1 X.2.1.1 X.2.1.2.1
def ajX:bG:=dT QW aag (λX=>(q2 X,X.2.1.2.2.1))
def L84:bN:=(bN.nil).add 8 ajX
theorem aje:dP E g84 n84 L84 (az Tryz.f84 0):=lk QW aag (λX=>(q2 X,X.2.1.2.2.1)) λX x=>((z2 (u x.1) X.1),(z2 (u x.2) X.2.1),X.2.2)
theorem o84:aA Tryz.prog 84 e84:=fk n84 (((((((((base.add o82).add o83).add S3).add aso).add asp).add aeN).add alJ).add asq).add asr) Tryz.func84 (Λ:=L84) (cF aje nF)
def e32:aD:=au [pf dQ] [(true,Y6)] (c1 Pu.so)
def g32:bH:=(((((bH.nil.add 79 e79).add 80 e80).add 81 e81).add 82 e82).add 83 e83).add 84 e84
def n32:An:={mask:=mk [(3,[2,3,25,26,27])],mv:=[32,39],mb:=mg [(32,3)],sb:=mg [(3,3),(37,3)]}
abbrev QN:SD:=⟨B::B::.ptr 2 0::.ptr 3 0::bs 21 (.data false (.sl .arg cv)::DI::DI::bs 12 []),Z::Z::(some Y11)::(some Y10)::zs 36 [],.none⟩
def ZS {R:Type}(X:SD.D QN)(K:Ex→AS→Option R):=Pu.mW (λy0 y1=>ke 0 K QN ((z2 (u y0) X.1),(z1 (u y1) X.2.1),X.2.2)) X.1.1 X.1.2.1 X.2.1.1
def ajz:bG:=dT QN ZS (λX=>(q2 X,X.2.1.2.1))
def L32:bN:=(bN.nil).add 3 ajz
theorem aiQ:dP E g32 n32 L32 (az Tryz.f32 0):=lk QN ZS (λX=>(q2 X,X.2.1.2.1)) λX x=>((z2 (u x.1) X.1),(z1 (u x.2) X.2.1),X.2.2)
theorem o32:aA Tryz.prog 32 e32:=fk n32 ((((((base.add o79).add o80).add o81).add o82).add o83).add o84) Tryz.func32 (Λ:=L32) (cF aiQ nF)
def Sc:aD:=au [pI,pI,pI] [rB] (c3 Pu.aw)
theorem yL:aA Tryz.prog 92 Sc:=f0 {merge:=mg [(1,6)]} base Tryz.func92
def aaN:aD:=au [pf fw] [rB] (c1 Pu.iY)
def aqw:bH:=bH.nil.add 92 Sc
def akK:An:={mask:=mk [(2,[1,2,6,7,8])],merge:=mg [(4,29),(7,2)]}
abbrev Fg:SD:=⟨B::.ptr 1 0::DB::B::B::B::.data false (.sl .arg (.int .i64))::DI::DI::bs 31 [],Z::(some Y21)::zs 38 [],.none⟩
def WS {R:Type}(X:SD.D Fg)(K:Ex→AS→Option R):=Pu.mI (λy0=>ke 0 K Fg ((z3 (u y0) X.1),X.2)) (λy0 y1=>kr K Fg ((w y0 (z2 (u y1)) X.1),X.2)) X.1.1 X.1.2.1 (q2 X) X.2.1.1
def adB:bG:=dT Fg WS q3
def afM:bN:=(bN.nil).add 2 adB
theorem abL:dP E aqw akK afM (az Tryz.f190 0):=lk Fg WS q3 λX x=>((z3 (u x) X.1),X.2)
theorem YL:aA Tryz.prog 190 aaN:=fk akK (base.add yL) Tryz.func190 (Λ:=afM) (cF abL nF)
def e93:aD:=au [pf bq] [rB] (c1 Pu.pV)
theorem o93:aA Tryz.prog 93 e93:=f0 {merge:=mg [(1,2)]} ((base.add yL).add YL) Tryz.func93
def e94:aD:=au [pd (.sl (.int .i64)),pI] [rB] (c2 Pu.fg)
def g94:bH:=bH.nil
def n94:An:={mask:=mk [(2,[1,4,7,8,9])]}
abbrev Md:SD:=⟨B::DI::B::B::DB::B::B::.data false (.sl .arg (.int .i64))::DI::DI::bs 7 [],zs 17 [],.none⟩
def aal {R:Type}(X:SD.D Md)(K:Ex→AS→Option R):=Pu.zd (λy0=>ke 0 K Md ((z4 (u y0) X.1),X.2)) (λy0 y1=>kr K Md ((z1 (w y0 (z2 (u y1))) X.1),X.2)) X.1.1 X.1.2.1 (q2 X) (q3 X)
def aj2:bG:=dT Md aal q4
def L94:bN:=(bN.nil).add 2 aj2
theorem ajj:dP E g94 n94 L94 (az Tryz.f94 0):=lk Md aal q4 λX x=>((z4 (u x) X.1),X.2)
theorem o94:aA Tryz.prog 94 e94:=fk n94 base Tryz.func94 (Λ:=L94) (cF ajj nF)
def e95:aD:=au [pd (.sl (.int .i64)),pI] [(false,(.sl (.own none) (.int .i64)))] (c2 Pu.ir)
def g95:bH:=bH.nil
def n95:An:={mask:=mk [(4,[1,5,6,10,11,12])],merge:=mg [(6,22)],mv:=[23,27,34,38]}
abbrev QX:SD:=⟨B::DI::B::B::B::.data false (.sl (.own (some 61440)) (.int .i64))::DB::B::B::B::.data false (.sl .arg (.int .i64))::DI::DI::bs 26 [],zs 39 [],.none⟩
def aam {R:Type}(X:SD.D QX)(K:Ex→AS→Option R):=Pu.hC (λy0 y1 y2=>ke 0 K QX ((z1 (w y0 (w y1 (z2 (u y2)))) X.1),X.2)) X.1.1 (q3 X) (q4 X)
def aj3:bG:=dT QX aam (λX=>(X.1.2.1,q2 X,q5 X))
def L95:bN:=(bN.nil).add 4 aj3
theorem ajk:dP E g95 n95 L95 (az Tryz.f95 0):=lk QX aam (λX=>(X.1.2.1,q2 X,q5 X)) λX x=>((z1 (w x.1 (w x.2.1 (z2 (u x.2.2)))) X.1),X.2)
theorem o95:aA Tryz.prog 95 e95:=fk n95 base Tryz.func95 (Λ:=L95) (cF ajk nF)
def e97:aD:=au [pd (.sl fy),pI] [rI] (c2 Pu.nU)
def g97:bH:=bH.nil
def n97:An:={mask:=mk [(2,[1,4,7,8,9])],merge:=mg [(4,21)]}
abbrev Mf:SD:=⟨B::DI::B::B::DI::B::B::.data false (.sl .arg fy)::DI::DI::bs 14 [],zs 24 [],.none⟩
def aao {R:Type}(X:SD.D Mf)(K:Ex→AS→Option R):=Pu.jC (λy0=>ke 0 K Mf ((z4 (u y0) X.1),X.2)) (λy0 y1=>kr K Mf ((z1 (w y0 (z2 (u y1))) X.1),X.2)) X.1.1 X.1.2.1 (q2 X) (q3 X)
def aj5:bG:=dT Mf aao q4
def L97:bN:=(bN.nil).add 2 aj5
theorem ajm:dP E g97 n97 L97 (az Tryz.f97 0):=lk Mf aao q4 λX x=>((z4 (u x) X.1),X.2)
theorem o97:aA Tryz.prog 97 e97:=fk n97 base Tryz.func97 (Λ:=L97) (cF ajm nF)
def ahp:aD:=au [pf fy] [(true,Y21)] (c1 Pu.wz)
theorem asx:aA Tryz.prog 201 ahp:=f0 {} base Tryz.func201
def e96:aD:=au [pd (.sl fy)] [rB] (c1 Pu.iI)
def g96:bH:=((((bH.nil.add 92 Sc).add 94 e94).add 97 e97).add 190 aaN).add 201 ahp
def n96:An:={mask:=mk [(4,[0,2,9,10,11])],merge:=mg [(6,27),(8,37)]}
abbrev Me:SD:=⟨.data false (.sl .arg fy)::B::DB::bs 6 (.data false (.sl .arg fy)::DI::DI::bs 27 []),zs 39 [],.none⟩
def aan {R:Type}(X:SD.D Me)(K:Ex→AS→Option R):=Pu.oC (λy0=>ke 0 K Me ((z4 (u y0) X.1),X.2)) (λy0 y1=>kr K Me ((z1 (w y0 (z2 (u y1))) X.1),X.2)) X.1.1 X.1.2.1 (q2 X) (q3 X)
def aj4:bG:=dT Me aan q4
def L96:bN:=(bN.nil).add 4 aj4
theorem ajl:dP E g96 n96 L96 (az Tryz.f96 0):=lk Me aan q4 λX x=>((z4 (u x) X.1),X.2)
theorem o96:aA Tryz.prog 96 e96:=fk n96 (((((base.add yL).add o94).add o97).add YL).add asx) Tryz.func96 (Λ:=L96) (cF ajl nF)
def e35:aD:=au [pd (.sl bq)] [(false,(.sl (.own none) fy)),rB] (c1 Pu.pY)
def g35:bH:=((((bH.nil.add 92 Sc).add 93 e93).add 94 e94).add 95 e95).add 96 e96
def n35:An:={mask:=mk [(6,[2,3,4,5,18,19,20]),(12,[2,3,4,5,7,8,18,19,20,32,33,34])],mv:=[53,57,63,69]}
abbrev J6:SD:=⟨B::B::.data false (.sl (.own (some 24576)) fy)::DB::.data false (.sl (.own (some 49152)) fy)::.data false (.sl (.own (some 61440)) (.int .i64))::B::.ptr 7 0::.data false (.sl (.own (some 98304)) (.int .i64))::bs 9 (.data false (.sl .arg bq)::DI::DI::bs 11 (.data false (.sl (.own (some 393216)) (.int .i64))::DI::DI::bs 35 [])),zs 7 ((some (.pair Y21 Y4))::zs 62 []),.none⟩
def Xs {R:Type}(X:SD.D J6)(K:Ex→AS→Option R):=Pu.gX (λy0 y1 y2=>ke 2 K J6 ((z3 (w y0 (w y1 (z5 (u y2)))) X.1),X.2)) X.1.1 X.1.2.1 (q2 X) (q5 X) (q6 X) (q7 X) (q8 X) (q9 X) X.2.1.1
def aeb:bG:=dT J6 Xs (λX=>(q3 X,q4 X,OA X))
abbrev LS:SD:=⟨B::B::.data false (.sl (.own (some 24576)) fy)::DB::.data false (.sl (.own (some 49152)) fy)::.data false (.sl (.own (some 61440)) (.int .i64))::bs 12 (.data false (.sl .arg bq)::DI::DI::bs 49 []),zs 70 [],.none⟩
def ZU {R:Type}(X:SD.D LS)(K:Ex→AS→Option R):=Pu.kK (λy0 y1 y2=>ke 0 K LS ((z2 (w y0 (w y1 (z2 (u y2)))) X.1),X.2)) (λy0 y1 y2 y3 y4=>kr K LS ((w y0 (w y1 (w y2 (w y3 (z2 (u y4))))) X.1),X.2)) X.1.1 X.1.2.1 (q4 X) (q5 X)
def ajB:bG:=dT LS ZU (λX=>(q2 X,q3 X,q6 X))
def L35:bN:=((bN.nil).add 12 aeb).add 6 ajB
theorem acn:dP E g35 n35 L35 (az Tryz.f35 1):=lk J6 Xs (λX=>(q3 X,q4 X,OA X)) λX x=>((z3 (w x.1 (w x.2.1 (z5 (u x.2.2)))) X.1),X.2)
theorem aiS:dP E g35 n35 L35 (az Tryz.f35 0):=lk LS ZU (λX=>(q2 X,q3 X,q6 X)) λX x=>((z2 (w x.1 (w x.2.1 (z2 (u x.2.2)))) X.1),X.2)
theorem o35:aA Tryz.prog 35 e35:=fk n35 (((((base.add yL).add o93).add o94).add o95).add o96) Tryz.func35 (Λ:=L35) (cF aiS (cF acn nF))
def aaL:aD:=au [pf (.sl .str)] [rB] (c1 Pu.nR)
def aqt:bH:=bH.nil
def akH:An:={mask:=mk [(2,[1,2,6,7,8])]}
abbrev Fc:SD:=⟨B::.ptr 1 0::DB::B::B::B::.data false (.sl .arg .str)::DI::DI::bs 11 [],Z::(some (.sl .arg .str))::zs 18 [],.none⟩
def WO {R:Type}(X:SD.D Fc)(K:Ex→AS→Option R):=Pu.wT (λy0=>ke 0 K Fc ((z3 (u y0) X.1),X.2)) (λy0 y1=>kr K Fc ((w y0 (z2 (u y1)) X.1),X.2)) X.1.1 X.1.2.1 (q2 X) X.2.1.1
def ady:bG:=dT Fc WO q3
def afJ:bN:=(bN.nil).add 2 ady
theorem abI:dP E aqt akH afJ (az Tryz.f187 0):=lk Fc WO q3 λX x=>((z3 (u x) X.1),X.2)
theorem aeO:aA Tryz.prog 187 aaL:=fk akH base Tryz.func187 (Λ:=afJ) (cF abI nF)
def ahE:aD:=au [pd (.sl bg),pI,pI] [rI] (c3 Pu.jB)
def aqO:bH:=bH.nil
def ak2:An:={mask:=mk [(2,[1,2,6,9,10,11])],merge:=mg [(4,25)]}
abbrev Fw:SD:=⟨B::DI::DI::B::B::B::DI::B::B::.data false (.sl .arg bg)::DI::DI::bs 16 [],zs 28 [],.none⟩
def Xf {R:Type}(X:SD.D Fw)(K:Ex→AS→Option R):=Pu.jr (λy0=>ke 0 K Fw ((z5 (u y0) X.1),X.2)) (λy0 y1=>kr K Fw ((z2 (w y0 (z2 (u y1))) X.1),X.2)) X.1.1 X.1.2.1 (q2 X) (q3 X) (q4 X)
def adY:bG:=dT Fw Xf q5
def af4:bN:=(bN.nil).add 2 adY
theorem ab8:dP E aqO ak2 af4 (az Tryz.f277 0):=lk Fw Xf q5 λX x=>((z5 (u x) X.1),X.2)
theorem al8:aA Tryz.prog 277 ahE:=fk ak2 base Tryz.func277 (Λ:=af4) (cF ab8 nF)
def aaM:aD:=au [pd (.sl bg)] [rB] (c1 Pu.kJ)
def aqu:bH:=(bH.nil.add 92 Sc).add 277 ahE
def akI:An:={mask:=mk [(2,[0,2,5,6,7])],merge:=mg [(4,37)]}
abbrev Fe:SD:=⟨.data false (.sl .arg bg)::B::DB::B::B::.data false (.sl .arg bg)::DI::DI::bs 34 [],zs 42 [],.none⟩
def WQ {R:Type}(X:SD.D Fe)(K:Ex→AS→Option R):=Pu.km (λy0=>ke 0 K Fe ((z4 (u y0) X.1),X.2)) (λy0 y1=>kr K Fe ((z1 (w y0 (z2 (u y1))) X.1),X.2)) X.1.1 X.1.2.1 (q2 X) (q3 X)
def adz:bG:=dT Fe WQ q4
def afK:bN:=(bN.nil).add 2 adz
theorem abJ:dP E aqu akI afK (az Tryz.f188 0):=lk Fe WQ q4 λX x=>((z4 (u x) X.1),X.2)
theorem alK:aA Tryz.prog 188 aaM:=fk akI ((base.add yL).add al8) Tryz.func188 (Λ:=afK) (cF abJ nF)
def aaO:aD:=au [pf dF] [rB] (c1 Pu.lY)
def aqx:bH:=bH.nil.add 92 Sc
def akL:An:={mask:=mk [(5,[1,2,3,26,27,28])],merge:=mg [(1,21),(7,43)]}
abbrev Fh:SD:=⟨B::.ptr 1 0::DB::.data false (.sl (.own (some 36864)) .bool)::bs 22 (.data false (.sl .arg (.int .i64))::DI::DI::bs 19 []),Z::(some Y16)::zs 46 [],.none⟩
def WT {R:Type}(X:SD.D Fh)(K:Ex→AS→Option R):=Pu.pX (λy0 y1=>ke 0 K Fh ((z1 (w y0 (z2 (u y1))) X.1),X.2)) (λy0 y1 y2=>kr K Fh ((w y0 (w y1 (z2 (u y2))) X.1),X.2)) X.1.1 (q2 X) (q3 X) X.2.1.1
def adC:bG:=dT Fh WT (λX=>(X.1.2.1,q4 X))
def afN:bN:=(bN.nil).add 5 adC
theorem abM:dP E aqx akL afN (az Tryz.f192 0):=lk Fh WT (λX=>(X.1.2.1,q4 X)) λX x=>((z1 (w x.1 (z2 (u x.2))) X.1),X.2)
theorem aeQ:aA Tryz.prog 192 aaO:=fk akL (base.add yL) Tryz.func192 (Λ:=afN) (cF abM nF)
def apk:aD:=au [pI] [rB] (c1 Pu.nV)
theorem aeV:aA Tryz.prog 351 apk:=f0 {merge:=mg [(1,2)]} base Tryz.func351
def aaP:aD:=au [pI,pI] [rI] (c2 Pu.gQ)
theorem aeR:aA Tryz.prog 217 aaP:=f0 {} base Tryz.func217
def apl:aD:=au [pf eY] [rI] (c1 Pu.nS)
theorem amq:aA Tryz.prog 352 apl:=f0 {} ((base.add aeR).add aeV) Tryz.func352
def ahF:aD:=au [pf eY] [rB] (c1 Pu.lZ)
theorem YN:aA Tryz.prog 278 ahF:=f0 {merge:=mg [(1,2)]} (((base.add yL).add aeV).add amq) Tryz.func278
def ahG:aD:=au [pf dF,pd (.sl (.int .i64))] [(true,Y9),rB] (c2 Pu.gW)
theorem atp:aA Tryz.prog 279 ahG:=f0 {merge:=mg [(3,21)],mv:=[10,24]} ((base.add aeN).add aeQ) Tryz.func279
def ahk:aD:=au [pf fO] [rB] (c1 Pu.zT)
def aqv:bH:=(((bH.nil.add 92 Sc).add 192 aaO).add 278 ahF).add 279 ahG
def akJ:An:={mask:=mk [(6,[1,2,3,4,30,31,32])],merge:=mg [(1,24),(8,50)],mv:=[55]}
abbrev Ff:SD:=⟨B::.ptr 1 0::DB::DI::.data false (.sl (.own (some 49152)) (.int .i64))::bs 25 (.data false (.sl .arg dA)::DI::DI::bs 35 []),Z::(some Y25)::zs 66 [],.none⟩
def WR {R:Type}(X:SD.D Ff)(K:Ex→AS→Option R):=Pu.p6 (λy0 y1 y2=>ke 0 K Ff ((z1 (w y0 (w y1 (z2 (u y2)))) X.1),X.2)) (λy0 y1 y2 y3=>kr K Ff ((w y0 (w y1 (w y2 (z2 (u y3)))) X.1),X.2)) X.1.1 (q3 X) (q4 X) X.2.1.1
def adA:bG:=dT Ff WR (λX=>(X.1.2.1,q2 X,q5 X))
def afL:bN:=(bN.nil).add 6 adA
theorem abK:dP E aqv akJ afL (az Tryz.f189 0):=lk Ff WR (λX=>(X.1.2.1,q2 X,q5 X)) λX x=>((z1 (w x.1 (w x.2.1 (z2 (u x.2.2)))) X.1),X.2)
theorem ass:aA Tryz.prog 189 ahk:=fk akJ ((((base.add yL).add aeQ).add YN).add atp) Tryz.func189 (Λ:=afL) (cF abK nF)
def ant:aD:=au [pf gE] [rB] (c1 Pu.l4)
theorem alN:aA Tryz.prog 199 ant:=f0 {merge:=mg [(1,18),(5,2),(7,2)]} (base.add yL) Tryz.func199
def anu:aD:=au [pI] [rB] (c1 Pu.l6)
theorem alO:aA Tryz.prog 200 anu:=f0 {merge:=mg [(1,2)]} base Tryz.func200
def e91:aD:=au [pf cd] [rB] (c1 Pu.eT)
theorem YQ:aA Tryz.prog 91 e91:=f0 {merge:=mg [(1,2)]} (((base.add yL).add alN).add alO) Tryz.func91
def aot:aD:=au [pf eu] [rB] (c1 Pu.mN)
theorem al9:aA Tryz.prog 280 aot:=f0 {merge:=mg [(1,2)]} ((base.add yL).add aeV) Tryz.func280
def ahl:aD:=au [pf bt] [rB] (c1 Pu.uI)
theorem aeP:aA Tryz.prog 191 ahl:=f0 {merge:=mg [(1,42),(5,2)]} ((((base.add YQ).add yL).add YN).add al9) Tryz.func191
def aou:aD:=au [pf cl] [rB] (c1 Pu.wV)
theorem ama:aA Tryz.prog 281 aou:=f0 {merge:=mg [(1,2)]} base Tryz.func281
def ahm:aD:=au [pf cl] [rB] (c1 Pu.sn)
theorem alL:aA Tryz.prog 193 ahm:=f0 {merge:=mg [(1,24),(3,2)]} ((base.add yL).add ama) Tryz.func193
def ahY:aD:=au [pf dw] [rB] (c1 Pu.vO)
theorem amr:aA Tryz.prog 353 ahY:=f0 {merge:=mg [(1,33),(3,54),(5,2)]} (base.add yL) Tryz.func353
def aaR:aD:=au [pd (.sl dw)] [rB] (c1 Pu.tZ)
def aqP:bH:=bH.nil.add 353 ahY
def ak3:An:={mask:=mk [(2,[0,2,5,6,7])]}
abbrev Fx:SD:=⟨.data false (.sl .arg dw)::B::DB::B::B::.data false (.sl .arg dw)::DI::DI::bs 10 [],zs 18 [],.none⟩
def Xg {R:Type}(X:SD.D Fx)(K:Ex→AS→Option R):=Pu.yq (λy0=>ke 0 K Fx ((z4 (u y0) X.1),X.2)) (λy0 y1=>kr K Fx ((z1 (w y0 (z2 (u y1))) X.1),X.2)) X.1.1 X.1.2.1 (q2 X) (q3 X)
def adZ:bG:=dT Fx Xg q4
def af5:bN:=(bN.nil).add 2 adZ
theorem ab9:dP E aqP ak3 af5 (az Tryz.f282 0):=lk Fx Xg q4 λX x=>((z4 (u x) X.1),X.2)
theorem amb:aA Tryz.prog 282 aaR:=fk ak3 (base.add amr) Tryz.func282 (Λ:=af5) (cF ab9 nF)
def ahK:aD:=au [pf (.sl cS),pf fc] [rI] (c2 Pu.s5)
def aqS:bH:=bH.nil
def ak6:An:={mask:=mk [(2,[3,4,8,9,10])],merge:=mg [(4,23)]}
abbrev FA:SD:=⟨B::B::B::.ptr 3 0::DI::B::B::B::.data false (.sl .arg cS)::DI::DI::bs 15 [],Z::Z::Z::(some (.pair (.int .i64) Y1))::zs 22 [],.none⟩
def Xk {R:Type}(X:SD.D FA)(K:Ex→AS→Option R):=Pu.qd (λy0=>ke 0 K FA ((z3 (u y0) X.1),X.2)) (λy0 y1=>kr K FA ((w y0 (z2 (u y1)) X.1),X.2)) X.1.1 X.1.2.1 (q2 X) X.2.1.1
def ad3:bG:=dT FA Xk q3
def af8:bN:=(bN.nil).add 2 ad3
theorem ace:dP E aqS ak6 af8 (az Tryz.f301 0):=lk FA Xk q3 λX x=>((z3 (u x) X.1),X.2)
theorem amh:aA Tryz.prog 301 ahK:=fk ak6 base Tryz.func301 (Λ:=af8) (cF ace nF)
def ah5:aD:=au [pf fc] [rI] (c1 Pu.se)
def aq6:bH:=bH.nil.add 217 aaP
def alk:An:={mask:=mk [(3,[3,16,17,18])]}
abbrev Ke:SD:=⟨B::B::B::DI::bs 12 (.data false (.sl (.own (some 196608)) (.int .i64))::DI::DI::bs 10 []),zs 29 [],.none⟩
def XB {R:Type}(X:SD.D Ke)(K:Ex→AS→Option R):=Pu.jz (λy0 y1=>ke 0 K Ke ((w y0 (z2 (u y1)) X.1),X.2)) X.1.2.1 (q2 X)
def aek:bG:=dT Ke XB (λX=>(X.1.1,q3 X))
def agn:bN:=(bN.nil).add 3 aek
theorem acx:dP E aq6 alk agn (az Tryz.f384 0):=lk Ke XB (λX=>(X.1.1,q3 X)) λX x=>((w x.1 (z2 (u x.2)) X.1),X.2)
theorem auy:aA Tryz.prog 384 ah5:=fk alk (base.add aeR) Tryz.func384 (Λ:=agn) (cF acx nF)
def ahZ:aD:=au [pf fc] [(false,(.sl (.own none) (.int .i64)))] (c1 Pu.xA)
def aqY:bH:=bH.nil.add 384 ah5
def alc:An:={mask:=mk [(3,[1,3,4])],mv:=[10,18]}
abbrev J4:SD:=⟨B::.ptr 1 0::B::.data false (.sl (.own (some 36864)) (.int .i64))::DI::bs 14 [],Z::(some (.pair (.int .i64) Y1))::zs 17 [],.none⟩
def Xq {R:Type}(X:SD.D J4)(K:Ex→AS→Option R):=Pu.nX (λy0 y1=>ke 0 K J4 ((w y0 (u y1) X.1),X.2)) X.2.1.1
def ad9:bG:=dT J4 Xq (λX=>(X.1.1,X.1.2.1))
def age:bN:=(bN.nil).add 3 ad9
theorem ack:dP E aqY alc age (az Tryz.f354 0):=lk J4 Xq (λX=>(X.1.1,X.1.2.1)) λX x=>((w x.1 (u x.2) X.1),X.2)
theorem aua:aA Tryz.prog 354 ahZ:=fk alc (base.add auy) Tryz.func354 (Λ:=age) (cF ack nF)
def ahH:aD:=au [pf (.sl cS)] [rB] (c1 Pu.mT)
def aiC:bH:=((bH.nil.add 92 Sc).add 301 ahK).add 354 ahZ
def aeI:An:={mask:=mk [(4,[1,2,12,13,14]),(14,[1,2,3,12,13,14,49,50,51])],merge:=mg [(6,28),(9,40)]}
abbrev BH:SD:=⟨B::.ptr 1 0::DB::DI::bs 8 (.data false (.sl .arg cS)::DI::DI::bs 34 (.data false (.sl (.own (some 602112)) (.int .i64))::DI::DI::bs 15 [])),Z::(some (.sl .arg cS))::zs 65 [],.none⟩
def RT {R:Type}(X:SD.D BH)(K:Ex→AS→Option R):=Pu.gY (λy0=>ke 2 K BH ((z7 (u y0) X.1),X.2)) (λy0 y1=>kr K BH ((w y0 (z6 (u y1)) X.1),X.2)) X.1.1 X.1.2.1 (q2 X) (q3 X) (q4 X) (q5 X) (q6 X) X.2.1.1
def YE:bG:=dT BH RT q7
abbrev Fy:SD:=⟨B::.ptr 1 0::DB::bs 9 (.data false (.sl .arg cS)::DI::DI::bs 52 []),Z::(some (.sl .arg cS))::zs 65 [],.none⟩
def Xh {R:Type}(X:SD.D Fy)(K:Ex→AS→Option R):=Pu.oD (λy0=>ke 0 K Fy ((z3 (u y0) X.1),X.2)) (λy0 y1=>kr K Fy ((w y0 (z2 (u y1)) X.1),X.2)) X.1.1 X.1.2.1 (q2 X) X.2.1.1
def ad0:bG:=dT Fy Xh q3
def aay:bN:=((bN.nil).add 14 YE).add 4 ad0
theorem YB:dP E aiC aeI aay (az Tryz.f283 1):=lk BH RT q7 λX x=>((z7 (u x) X.1),X.2)
theorem aca:dP E aiC aeI aay (az Tryz.f283 0):=lk Fy Xh q3 λX x=>((z3 (u x) X.1),X.2)
theorem amc:aA Tryz.prog 283 ahH:=fk aeI (((base.add yL).add amh).add aua) Tryz.func283 (Λ:=aay) (cF aca (cF YB nF))
def ah0:aD:=au [pI] [rB] (c1 Pu.ze)
theorem aub:aA Tryz.prog 355 ah0:=f0 {merge:=mg [(1,2)]} base Tryz.func355
def ahI:aD:=au [pf ia,pI] [rB] (c2 Pu.sk)
def aqQ:bH:=(bH.nil.add 92 Sc).add 355 ah0
def ak4:An:={mask:=mk [(4,[1,4,24,25,26])],merge:=mg [(1,22)]}
abbrev Fz:SD:=⟨B::DI::B::B::DB::bs 19 (.data false (.sl .arg (.int .i64))::DI::DI::bs 9 []),zs 36 [],.none⟩
def Xi {R:Type}(X:SD.D Fz)(K:Ex→AS→Option R):=Pu.wU (λy0=>ke 0 K Fz ((z4 (u y0) X.1),X.2)) (λy0 y1=>kr K Fz ((z1 (w y0 (z2 (u y1))) X.1),X.2)) X.1.1 X.1.2.1 (q2 X) (q3 X)
def ad1:bG:=dT Fz Xi q4
def af6:bN:=(bN.nil).add 4 ad1
theorem acb:dP E aqQ ak4 af6 (az Tryz.f284 0):=lk Fz Xi q4 λX x=>((z4 (u x) X.1),X.2)
theorem amd:aA Tryz.prog 284 ahI:=fk ak4 ((base.add yL).add aub) Tryz.func284 (Λ:=af6) (cF acb nF)
def ahn:aD:=au [pf eL,pI] [rB] (c2 Pu.kM)
def aiz:bH:=((bH.nil.add 282 aaR).add 283 ahH).add 284 ahI
def aeF:An:={mask:=mk [(4,[1,2,4,27,28,29]),(10,[1,4,45,46,47])],merge:=mg [(1,25),(6,41),(12,59)]}
abbrev Fi:SD:=⟨B::DI::.ptr 2 0::B::DB::bs 22 (.data false (.sl .arg dw)::DI::DI::bs 31 []),Z::Z::(some Y20)::zs 58 [],.none⟩
def WU {R:Type}(X:SD.D Fi)(K:Ex→AS→Option R):=Pu.kq (λy0=>ke 0 K Fi ((z4 (u y0) X.1),X.2)) (λy0 y1=>kr K Fi ((z1 (w y0 (z2 (u y1))) X.1),X.2)) X.1.1 X.1.2.1 (q2 X) (q3 X) X.2.1.1
def adD:bG:=dT Fi WU q4
abbrev BG:SD:=⟨B::DI::B::B::DB::bs 40 (.data false (.sl .arg cS)::DI::DI::bs 13 []),zs 61 [],.none⟩
def RS {R:Type}(X:SD.D BG)(K:Ex→AS→Option R):=Pu.jo (λy0=>ke 2 K BG ((z4 (u y0) X.1),X.2)) (λy0 y1=>kr K BG ((z1 (w y0 (z2 (u y1))) X.1),X.2)) X.1.1 X.1.2.1 (q2 X) (q3 X)
def YD:bG:=dT BG RS q4
def aav:bN:=((bN.nil).add 4 adD).add 10 YD
theorem abN:dP E aiz aeF aav (az Tryz.f194 0):=lk Fi WU q4 λX x=>((z4 (u x) X.1),X.2)
theorem YA:dP E aiz aeF aav (az Tryz.f194 1):=lk BG RS q4 λX x=>((z4 (u x) X.1),X.2)
theorem alM:aA Tryz.prog 194 ahn:=fk aeF (((base.add amb).add amc).add amd) Tryz.func194 (Λ:=aav) (cF abN (cF YA nF))
def e85:aD:=au [pf cv] [rB] (c1 Pu.sX)
def g85:bH:=((((((((bH.nil.add 92 Sc).add 187 aaL).add 188 aaM).add 189 ahk).add 190 aaN).add 191 ahl).add 192 aaO).add 193 ahm).add 194 ahn
def n85:An:={mask:=mk [(5,[1,2,3,61,62]),(12,[1,2,3,103,104,105])],merge:=mg [(2,58),(7,89)]}
abbrev L8:SD:=⟨B::.ptr 1 0::DB::DI::bs 57 (DI::DI::bs 54 []),Z::(some Y3)::zs 115 [],.none⟩
def aah {R:Type}(X:SD.D L8)(K:Ex→AS→Option R):=Pu.pT (λy0=>ke 0 K L8 ((z3 (u y0) X.1),X.2)) (λy0 y1=>kr K L8 ((w y0 (z2 (u y1)) X.1),X.2)) X.1.1 X.1.2.1 (q2 X) X.2.1.1
def ajY:bG:=dT L8 aah q3
abbrev FN:SD:=⟨B::.ptr 1 0::DB::DI::bs 99 (.data false (.sl (.own (some 1265664)) (.int .i64))::DI::DI::bs 11 []),Z::(some Y3)::zs 115 [],.none⟩
def XR {R:Type}(X:SD.D FN)(K:Ex→AS→Option R):=Pu.oB (λy0=>ke 2 K FN ((z4 (u y0) X.1),X.2)) (λy0 y1=>kr K FN ((w y0 (z3 (u y1)) X.1),X.2)) X.1.1 X.1.2.1 (q2 X) (q3 X) X.2.1.1
def aeA:bG:=dT FN XR q4
def L85:bN:=((bN.nil).add 5 ajY).add 12 aeA
theorem ajf:dP E g85 n85 L85 (az Tryz.f85 0):=lk L8 aah q3 λX x=>((z3 (u x) X.1),X.2)
theorem acN:dP E g85 n85 L85 (az Tryz.f85 1):=lk FN XR q4 λX x=>((z4 (u x) X.1),X.2)
theorem o85:aA Tryz.prog 85 e85:=fk n85 (((((((((base.add yL).add aeO).add alK).add ass).add YL).add aeP).add aeQ).add alL).add alM) Tryz.func85 (Λ:=L85) (cF ajf (cF acN nF))
def anq:aD:=au [pd (.sl (.int .i64)),pd (.sl (.int .i64))] [rB] (c2 Pu.ng)
def aqy:bH:=bH.nil
def akM:An:={mask:=mk [(4,[0,1,4,12,13])]}
abbrev Fj:SD:=⟨.data false (.sl .arg (.int .i64))::.data false (.sl .arg (.int .i64))::B::B::DB::bs 7 (DI::DI::bs 12 []),zs 26 [],.none⟩
def WV {R:Type}(X:SD.D Fj)(K:Ex→AS→Option R):=Pu.jt (λy0=>ke 0 K Fj ((z4 (u y0) X.1),X.2)) (λy0 y1=>kr K Fj ((z2 (w y0 (z1 (u y1))) X.1),X.2)) X.1.1 X.1.2.1 (q2 X) (q3 X)
def adE:bG:=dT Fj WV q4
def afO:bN:=(bN.nil).add 4 adE
theorem abO:dP E aqy akM afO (az Tryz.f195 0):=lk Fj WV q4 λX x=>((z4 (u x) X.1),X.2)
theorem ast:aA Tryz.prog 195 anq:=fk akM base Tryz.func195 (Λ:=afO) (cF abO nF)
def e86:aD:=au [pf fw,pf fw] [rB] (c2 Pu.oF)
theorem o86:aA Tryz.prog 86 e86:=f0 {merge:=mg [(1,4)]} (base.add ast) Tryz.func86
def aho:aD:=au [pf eu] [rB] (c1 Pu.wy)
theorem asu:aA Tryz.prog 196 aho:=f0 {merge:=mg [(1,2)]} (base.add yL) Tryz.func196
def e87:aD:=au [pd (.sl aC),pd (.sl fy)] [rB] (c2 Pu.mK)
def g87:bH:=((bH.nil.add 92 Sc).add 96 e96).add 196 aho
def n87:An:={mask:=mk [(4,[0,1,4,12,13,14]),(9,[0,1,4,6,12,13,14,52,53,54])],merge:=mg [(6,49),(11,69)]}
abbrev Mb:SD:=⟨.data false (.sl .arg aC)::.data false (.sl .arg fy)::B::B::DB::B::.ptr 6 0::bs 5 (.data false (.sl .arg aC)::DI::DI::bs 37 (.data false (.sl .arg aC)::DI::DI::bs 17 [])),zs 6 ((some Y19)::zs 65 []),.none⟩
def aaj {R:Type}(X:SD.D Mb)(K:Ex→AS→Option R):=Pu.jn (λy0=>ke 2 K Mb ((z8 (u y0) X.1),X.2)) (λy0 y1=>kr K Mb ((z2 (w y0 (z5 (u y1))) X.1),X.2)) X.1.1 X.1.2.1 (q2 X) (q3 X) (q4 X) (q5 X) (q6 X) (q7 X) X.2.1.1
def aj0:bG:=dT Mb aaj q8
abbrev Ma:SD:=⟨.data false (.sl .arg aC)::.data false (.sl .arg fy)::B::B::DB::bs 7 (.data false (.sl .arg aC)::DI::DI::bs 57 []),zs 72 [],.none⟩
def aai {R:Type}(X:SD.D Ma)(K:Ex→AS→Option R):=Pu.jm (λy0=>ke 0 K Ma ((z5 (u y0) X.1),X.2)) (λy0 y1=>kr K Ma ((z2 (w y0 (z2 (u y1))) X.1),X.2)) X.1.1 X.1.2.1 (q2 X) (q3 X) (q4 X)
def ajZ:bG:=dT Ma aai q5
def L87:bN:=((bN.nil).add 9 aj0).add 4 ajZ
theorem ajh:dP E g87 n87 L87 (az Tryz.f87 1):=lk Mb aaj q8 λX x=>((z8 (u x) X.1),X.2)
theorem ajg:dP E g87 n87 L87 (az Tryz.f87 0):=lk Ma aai q5 λX x=>((z5 (u x) X.1),X.2)
theorem o87:aA Tryz.prog 87 e87:=fk n87 (((base.add yL).add o96).add asu) Tryz.func87 (Λ:=L87) (cF ajg (cF ajh nF))
def e88:aD:=au [pd (.sl aC)] [rB] (c1 Pu.qb)
def g88:bH:=bH.nil
def n88:An:={mask:=mk [(2,[2,5,6,7])],merge:=mg [(4,22)]}
abbrev Mc:SD:=⟨B::B::DB::B::B::.data false (.sl .arg aC)::DI::DI::bs 16 [],zs 24 [],.none⟩
def aak {R:Type}(X:SD.D Mc)(K:Ex→AS→Option R):=Pu.lD (λy0=>ke 0 K Mc ((z3 (u y0) X.1),X.2)) (λy0 y1=>kr K Mc ((w y0 (z2 (u y1)) X.1),X.2)) X.1.1 X.1.2.1 (q2 X)
def aj1:bG:=dT Mc aak q3
def L88:bN:=(bN.nil).add 2 aj1
theorem aji:dP E g88 n88 L88 (az Tryz.f88 0):=lk Mc aak q3 λX x=>((z3 (u x) X.1),X.2)
theorem o88:aA Tryz.prog 88 e88:=fk n88 base Tryz.func88 (Λ:=L88) (cF aji nF)
def anr:aD:=au [pf (.sl .str)] [rB] (c1 Pu.xy)
theorem asv:aA Tryz.prog 197 anr:=f0 {merge:=mg [(1,2)]} base Tryz.func197
def aov:aD:=au [pd .str,pI] [rI] (c2 Pu.gv)
theorem Vm:aA Tryz.prog 285 aov:=f0 {merge:=mg [(1,13)]} base Tryz.func285
def anA:aD:=au [pd .str] [rI] (c1 Pu.uW)
def aiA:bH:=bH.nil
def aeG:An:={mask:=mk [(3,[0,3,4]),(7,[0,3,4,5])]}
abbrev JT:SD:=⟨.data false .str::B::B::.data false (.int .u32)::DI::DI::bs 28 [],zs 34 [],.none⟩
def WX {R:Type}(X:SD.D JT)(K:Ex→AS→Option R):=Pu.k6 (λy0 y1=>ke 2 K JT ((z1 (w y0 (z1 (u y1))) X.1),X.2)) X.1.1 (q2 X)
def adG:bG:=dT JT WX (λX=>(X.1.2.1,q3 X))
abbrev JS:SD:=⟨.data false .str::B::B::.data false (.int .u32)::DI::bs 29 [],zs 34 [],.none⟩
def WW {R:Type}(X:SD.D JS)(K:Ex→AS→Option R):=Pu.nO (λy0 y1=>ke 0 K JS ((z1 (w y0 (u y1)) X.1),X.2)) X.1.1
def adF:bG:=dT JS WW (λX=>(X.1.2.1,q2 X))
def aaw:bN:=((bN.nil).add 7 adG).add 3 adF
theorem abQ:dP E aiA aeG aaw (az Tryz.f206 1):=lk JT WX (λX=>(X.1.2.1,q3 X)) λX x=>((z1 (w x.1 (z1 (u x.2))) X.1),X.2)
theorem abP:dP E aiA aeG aaw (az Tryz.f206 0):=lk JS WW (λX=>(X.1.2.1,q2 X)) λX x=>((z1 (w x.1 (u x.2)) X.1),X.2)
theorem alR:aA Tryz.prog 206 anA:=fk aeG base Tryz.func206 (Λ:=aaw) (cF abP (cF abQ nF))
def apm:aD:=au [pI] [rS] (c1 Pu.dH)
theorem Nu:aA Tryz.prog 356 apm:=f0 {} (base.add yL) Tryz.func356
def aow:aD:=au [pI,pd .str] [rS,rB] (c2 Pu.pW)
theorem atq:aA Tryz.prog 286 aow:=f0 {merge:=mg [(1,15)]} (((base.add yL).add alR).add Nu) Tryz.func286
def ans:aD:=au [pd .str] [rI] (c1 Pu.iH)
theorem asw:aA Tryz.prog 198 ans:=f0 {merge:=mg [(2,19),(5,38)]} ((base.add Vm).add atq) Tryz.func198
def e89:aD:=au [pf (.sl .str)] [rI] (c1 Pu.rX)
theorem o89:aA Tryz.prog 89 e89:=f0 {merge:=mg [(4,18)]} ((base.add asv).add asw) Tryz.func89
def e90:aD:=au [pf eY] [rB] (c1 Pu.xx)
theorem o90:aA Tryz.prog 90 e90:=f0 {merge:=mg [(1,2)]} (base.add yL) Tryz.func90
def e33:aD:=au [pf dQ] [rB] (c1 Pu.vM)
def g33:bH:=((((((bH.nil.add 35 e35).add 85 e85).add 86 e86).add 87 e87).add 88 e88).add 89 e89).add 90 e90
def n33:An:={mask:=mk [(5,[1,2,3,34,35,36])],merge:=mg [(2,32),(7,55),(10,2)]}
abbrev LR:SD:=⟨B::.ptr 1 0::DB::.data false (.sl .loc fy)::bs 30 (.data false (.sl .arg cv)::DI::DI::bs 40 []),Z::(some Y12)::zs 75 [],.none⟩
def ZT {R:Type}(X:SD.D LR)(K:Ex→AS→Option R):=Pu.pQ (λy0=>ke 0 K LR ((z4 (u y0) X.1),X.2)) (λy0 y1=>kr K LR ((w y0 (z3 (u y1)) X.1),X.2)) X.1.1 X.1.2.1 (q2 X) (q3 X) X.2.1.1
def ajA:bG:=dT LR ZT q4
def L33:bN:=(bN.nil).add 5 ajA
theorem aiR:dP E g33 n33 L33 (az Tryz.f33 0):=lk LR ZT q4 λX x=>((z4 (u x) X.1),X.2)
theorem o33:aA Tryz.prog 33 e33:=fk n33 (((((((base.add o35).add o85).add o86).add o87).add o88).add o89).add o90) Tryz.func33 (Λ:=L33) (cF aiR nF)
def e34:aD:=au [pf cd] [rB] (c1 Pu.gP)
theorem o34:aA Tryz.prog 34 e34:=f0 {merge:=mg [(1,2)]} (base.add YQ) Tryz.func34
def e36:aD:=au [pd (.sl fy),pI,pf cd] [rI] (c3 Pu.lW)
theorem o36:aA Tryz.prog 36 e36:=f0 {merge:=mg [(1,24),(7,54)]} ((((base.add YQ).add yL).add o94).add o96) Tryz.func36
def e37:aD:=au [pd (.sl fy),pI,pf cd] [(false,(.sl (.own none) (.int .i64)))] (c3 Pu.lz)
def g37:bH:=((bH.nil.add 36 e36).add 94 e94).add 97 e97
def n37:An:={mask:=mk [(11,[0,1,7,8,33,34]),(17,[0,1,7,11,43,44,45])],merge:=mg [(19,60)],mv:=[37,61,66]}
abbrev Kc:SD:=⟨.data false (.sl .arg fy)::DI::bs 5 (DI::B::B::B::.data false (.sl (.own (some 135168)) (.int .i64))::bs 31 (.data false (.sl .loc (.int .i64))::DI::DI::bs 21 [])),zs 67 [],.none⟩
def Xz {R:Type}(X:SD.D Kc)(K:Ex→AS→Option R):=Pu.ed (λy0 y1=>ke 2 K Kc ((z3 (w y0 (z2 (u y1))) X.1),X.2)) X.1.1 X.1.2.1 (q2 X) (q4 X) (q5 X)
def aei:bG:=dT Kc Xz (λX=>(q3 X,q6 X))
abbrev Kb:SD:=⟨.data false (.sl .arg fy)::DI::bs 5 (DI::.data false (.sl (.own (some 98304)) (.int .i64))::bs 24 (DI::DI::bs 32 [])),zs 67 [],.none⟩
def Xy {R:Type}(X:SD.D Kb)(K:Ex→AS→Option R):=Pu.ic (λy0 y1=>ke 0 K Kb ((z3 (w y0 (z1 (u y1))) X.1),X.2)) X.1.1 X.1.2.1 (q2 X) (q4 X)
def aeh:bG:=dT Kb Xy (λX=>(q3 X,q5 X))
def L37:bN:=((bN.nil).add 17 aei).add 11 aeh
theorem acv:dP E g37 n37 L37 (az Tryz.f37 1):=lk Kc Xz (λX=>(q3 X,q6 X)) λX x=>((z3 (w x.1 (z2 (u x.2))) X.1),X.2)
theorem acu:dP E g37 n37 L37 (az Tryz.f37 0):=lk Kb Xy (λX=>(q3 X,q5 X)) λX x=>((z3 (w x.1 (z1 (u x.2))) X.1),X.2)
theorem o37:aA Tryz.prog 37 e37:=fk n37 (((base.add o36).add o94).add o97) Tryz.func37 (Λ:=L37) (cF acu (cF acv nF))
def aoC:aD:=au [pI] [rS] (c1 Pu.bZ)
theorem KR:aA Tryz.prog 292 aoC:=f0 {} (base.add yL) Tryz.func292
def aox:aD:=au [pf gE] [rS] (c1 Pu.mV)
theorem atr:aA Tryz.prog 287 aox:=f0 {} ((base.add KR).add Nu) Tryz.func287
def aoy:aD:=au [pI,pI,pI,pI] [rS,rB] (c4 Pu.pZ)
theorem ats:aA Tryz.prog 288 aoy:=f0 {merge:=mg [(1,27)]} (((base.add yL).add KR).add Nu) Tryz.func288
def ah6:aD:=au [pI,pI] [rI] (c2 Pu.tU)
theorem auz:aA Tryz.prog 385 ah6:=f0 {merge:=mg [(1,12)]} (base.add yL) Tryz.func385
def apn:aD:=au [pd .str] [rI] (c1 Pu.sm)
def aqZ:bH:=bH.nil.add 385 ah6
def ald:An:={mask:=mk [(3,[0,3,4])]}
abbrev J5:SD:=⟨.data false .str::B::B::DI::DI::bs 28 [],zs 33 [],.none⟩
def Xr {R:Type}(X:SD.D J5)(K:Ex→AS→Option R):=Pu.mS (λy0 y1=>ke 0 K J5 ((z1 (w y0 (u y1)) X.1),X.2)) X.1.1
def aea:bG:=dT J5 Xr (λX=>(X.1.2.1,q2 X))
def agf:bN:=(bN.nil).add 3 aea
theorem acm:dP E aqZ ald agf (az Tryz.f357 0):=lk J5 Xr (λX=>(X.1.2.1,q2 X)) λX x=>((z1 (w x.1 (u x.2)) X.1),X.2)
theorem auc:aA Tryz.prog 357 apn:=fk ald (base.add auz) Tryz.func357 (Λ:=agf) (cF acm nF)
def aoz:aD:=au [pd .str] [rI] (c1 Pu.nN)
theorem ame:aA Tryz.prog 289 aoz:=f0 {} (base.add auc) Tryz.func289
def aoA:aD:=au [pd .str,pI,pd .str] [rS] (c3 Pu.k7)
theorem amf:aA Tryz.prog 290 aoA:=f0 {merge:=mg [(1,17)]} base Tryz.func290
def aoB:aD:=au [pI] [rI] (c1 Pu.nW)
theorem att:aA Tryz.prog 291 aoB:=f0 {} base Tryz.func291
def anv:aD:=au [pI,pI,pf gE] [rS,rB] (c3 Pu.gm)
theorem alP:aA Tryz.prog 202 anv:=f0 {merge:=mg [(8,39)]} (((((((base.add alN).add atr).add ats).add ame).add amf).add att).add KR) Tryz.func202
def apo:aD:=au [pf Zw] [rB] (c1 Pu.C0)
theorem aud:aA Tryz.prog 358 apo:=f0 {merge:=mg [(1,2)]} (base.add yL) Tryz.func358
def aoD:aD:=au [pf Zw] [rS,rB] (c1 Pu.sf)
theorem atu:aA Tryz.prog 293 aoD:=f0 {} (((((base.add ame).add amf).add KR).add Nu).add aud) Tryz.func293
def anw:aD:=au [pf Zw] [rS,rB] (c1 Pu.pO)
theorem alQ:aA Tryz.prog 203 anw:=f0 {} (base.add atu) Tryz.func203
def aoE:aD:=au [pf R1] [rB] (c1 Pu.uX)
theorem amg:aA Tryz.prog 294 aoE:=f0 {merge:=mg [(1,2)]} (base.add yL) Tryz.func294
def aoF:aD:=au [pI] [rS] (c1 Pu.sr)
theorem atv:aA Tryz.prog 295 aoF:=f0 {} ((base.add KR).add Nu) Tryz.func295
def anx:aD:=au [pf R1] [rS,rB] (c1 Pu.rY)
theorem asy:aA Tryz.prog 204 anx:=f0 {} (((base.add KR).add amg).add atv) Tryz.func204
def aoG:aD:=au [pd (.int .u8),pI] [rS] (c2 Pu.vQ)
def aqR:bH:=bH.nil
def ak5:An:={mask:=mk [(3,[0,5,10,11])]}
abbrev J1:SD:=⟨.data false (.int .u8)::bs 4 (.data false (.sl (.own (some 61440)) (.int .u8))::bs 4 (DI::DI::bs 9 [])),zs 21 [],.none⟩
def Xj {R:Type}(X:SD.D J1)(K:Ex→AS→Option R):=Pu.qc (λy0 y1=>ke 0 K J1 ((z1 (w y0 (z1 (u y1))) X.1),X.2)) X.1.1 (q2 X)
def ad2:bG:=dT J1 Xj (λX=>(X.1.2.1,q3 X))
def af7:bN:=(bN.nil).add 3 ad2
theorem acd:dP E aqR ak5 af7 (az Tryz.f296 0):=lk J1 Xj (λX=>(X.1.2.1,q3 X)) λX x=>((z1 (w x.1 (z1 (u x.2))) X.1),X.2)
theorem atw:aA Tryz.prog 296 aoG:=fk ak5 base Tryz.func296 (Λ:=af7) (cF acd nF)
def anz:aD:=au [pd .str] [rS] (c1 Pu.tX)
theorem asz:aA Tryz.prog 205 anz:=f0 {} (base.add atw) Tryz.func205
def e98:aD:=au [pf cd] [rS,rB] (c1 Pu.kH)
theorem o98:aA Tryz.prog 98 e98:=f0 {} (((((base.add YQ).add alP).add alQ).add asy).add asz) Tryz.func98
def e99:aD:=au [pd .str] [rS] (c1 Pu.p7)
theorem o99:aA Tryz.prog 99 e99:=f0 {} (base.add alR) Tryz.func99
def e38:aD:=au [pf cd] [rS,rB] (c1 Pu.ox)
theorem o38:aA Tryz.prog 38 e38:=f0 {} (((base.add o34).add o98).add o99) Tryz.func38
def e39:aD:=au [pd (.sl fy),pI,pI,pf cd] [(true,Y0)] (c4 Pu.mM)
theorem o39:aA Tryz.prog 39 e39:=f0 {merge:=mg [(1,34)]} ((((base.add YQ).add yL).add o94).add o96) Tryz.func39
def anB:aD:=au [pd .str] [rS,rB] (c1 Pu.rZ)
theorem asA:aA Tryz.prog 207 anB:=f0 {merge:=mg [(2,17)]} (base.add o99) Tryz.func207
def apq:aD:=au [pd .str,pI] [rI] (c2 Pu.eJ)
theorem YO:aA Tryz.prog 359 apq:=f0 {merge:=mg [(1,13)]} base Tryz.func359
def aoH:aD:=au [pd .str] [(true,Y13),rB] (c1 Pu.sg)
theorem atx:aA Tryz.prog 297 aoH:=f0 {merge:=mg [(4,33)],sb:=mg [(4,4)]} (((base.add Vm).add amg).add YO) Tryz.func297
def aoI:aD:=au [pd .str] [(true,Y22),rB] (c1 Pu.tY)
theorem aty:aA Tryz.prog 298 aoI:=f0 {merge:=mg [(2,22),(6,56)],sb:=mg [(5,5)]} (((base.add alQ).add Vm).add YO) Tryz.func298
def aoJ:aD:=au [pI,pI,pI,pd .str] [(true,(.pair (.int .i64) Y22)),rB] (c4 Pu.ly)
theorem atz:aA Tryz.prog 299 aoJ:=f0 {merge:=mg [(3,20),(9,44),(12,68)]} (((base.add alP).add Vm).add YO) Tryz.func299
def anC:aD:=au [pd .str] [(true,Y0),rI] (c1 Pu.p5)
theorem asB:aA Tryz.prog 208 anC:=f0 {merge:=mg [(2,20)]} ((((base.add YQ).add atx).add aty).add atz) Tryz.func208
def amN:aD:=au [pd .str] [(true,Y0),rI] (c1 Pu.p4)
theorem arn:aA Tryz.prog 100 amN:=f0 {} (((base.add o34).add asA).add asB) Tryz.func100
def amO:aD:=au [pf fw,pf cd] [rB] (c2 Pu.tT)
theorem aro:aA Tryz.prog 101 amO:=f0 {merge:=mg [(1,4)]} ((base.add o94).add YL) Tryz.func101
def apr:aD:=au [pI,pI,pI] [rB] (c3 Pu.kO)
theorem aue:aA Tryz.prog 360 apr:=f0 {} base Tryz.func360
def ahJ:aD:=au [pf dw,pf cd] [rB] (c2 Pu.mO)
theorem atA:aA Tryz.prog 300 ahJ:=f0 {merge:=mg [(1,4)]} ((((base.add YQ).add yL).add amr).add aue) Tryz.func300
def anD:aD:=au [pd (.sl dw),pf cd] [rI] (c2 Pu.sc)
def aqz:bH:=(bH.nil.add 282 aaR).add 300 ahJ
def akN:An:={mask:=mk [(5,[0,3,5,11,12,13])],merge:=mg [(7,34)]}
abbrev JU:SD:=⟨.data false (.sl .arg dw)::B::B::.ptr 3 0::B::DI::bs 5 (.data false (.sl .arg dw)::DI::DI::bs 24 []),Z::Z::Z::(some Y0)::zs 34 [],.none⟩
def WY {R:Type}(X:SD.D JU)(K:Ex→AS→Option R):=Pu.mJ (λy0 y1=>ke 0 K JU ((z1 (w y0 (z2 (u y1))) X.1),X.2)) X.1.1 (q2 X) (q3 X) X.2.1.1
def adH:bG:=dT JU WY (λX=>(X.1.2.1,q4 X))
def afP:bN:=(bN.nil).add 5 adH
theorem abR:dP E aqz akN afP (az Tryz.f209 0):=lk JU WY (λX=>(X.1.2.1,q4 X)) λX x=>((z1 (w x.1 (z2 (u x.2))) X.1),X.2)
theorem asC:aA Tryz.prog 209 anD:=fk akN ((base.add amb).add atA) Tryz.func209 (Λ:=afP) (cF abR nF)
def anE:aD:=au [pf (.sl cS),pf fc] [rI] (c2 Pu.sa)
theorem asD:aA Tryz.prog 210 anE:=f0 {} ((base.add amc).add amh) Tryz.func210
def anF:aD:=au [pf cd] [(true,(.pair (.int .i64) Y1))] (c1 Pu.sW)
theorem alS:aA Tryz.prog 211 anF:=f0 {} base Tryz.func211
def aaU:aD:=au [pd .str,pI] [rI] (c2 Pu.sY)
theorem amB:aA Tryz.prog 408 aaU:=f0 {} base Tryz.func408
def aic:aD:=au [pd .str,pI] [rI] (c2 Pu.pU)
def arf:bH:=(bH.nil.add 92 Sc).add 408 aaU
def alv:An:={mask:=mk [(5,[0,1,5,6])],merge:=mg [(1,14)]}
abbrev Kl:SD:=⟨.data false .str::DI::B::B::B::DI::DI::bs 22 [],zs 29 [],.none⟩
def XK {R:Type}(X:SD.D Kl)(K:Ex→AS→Option R):=Pu.lx (λy0 y1=>ke 0 K Kl ((z2 (w y0 (u y1)) X.1),X.2)) X.1.1 X.1.2.1
def aet:bG:=dT Kl XK (λX=>(q2 X,q3 X))
def agw:bN:=(bN.nil).add 5 aet
theorem acG:dP E arf alv agw (az Tryz.f409 0):=lk Kl XK (λX=>(q2 X,q3 X)) λX x=>((z2 (w x.1 (u x.2)) X.1),X.2)
theorem auS:aA Tryz.prog 409 aic:=fk alv ((base.add yL).add amB) Tryz.func409 (Λ:=agw) (cF acG nF)
def apL:aD:=au [pd .str,pd .str] [rI] (c2 Pu.pR)
def aq7:bH:=(bH.nil.add 408 aaU).add 409 aic
def alm:An:={mask:=mk [(5,[0,1,5,6])],merge:=mg [(1,14)]}
abbrev Kf:SD:=⟨.data false .str::.data false .str::B::B::B::DI::DI::bs 25 [],zs 32 [],.none⟩
def XC {R:Type}(X:SD.D Kf)(K:Ex→AS→Option R):=Pu.lv (λy0 y1=>ke 0 K Kf ((z2 (w y0 (u y1)) X.1),X.2)) X.1.1 X.1.2.1
def ael:bG:=dT Kf XC (λX=>(q2 X,q3 X))
def ago:bN:=(bN.nil).add 5 ael
theorem acy:dP E aq7 alm ago (az Tryz.f386 0):=lk Kf XC (λX=>(q2 X,q3 X)) λX x=>((z2 (w x.1 (u x.2)) X.1),X.2)
theorem auA:aA Tryz.prog 386 apL:=fk alm ((base.add amB).add auS) Tryz.func386 (Λ:=ago) (cF acy nF)
def apM:aD:=au [pf fc] [rS] (c1 Pu.pS)
theorem auB:aA Tryz.prog 387 apM:=f0 {} ((base.add KR).add Nu) Tryz.func387
def aps:aD:=au [pd .str,pf fc] [rI] (c2 Pu.nQ)
theorem ams:aA Tryz.prog 361 aps:=f0 {} ((base.add auA).add auB) Tryz.func361
def aoK:aD:=au [pf ia,pf fc] [rI] (c2 Pu.tW)
theorem atB:aA Tryz.prog 302 aoK:=f0 {merge:=mg [(2,17)]} (base.add ams) Tryz.func302
def anG:aD:=au [pf ia,pI,pf fc] [rI] (c3 Pu.mQ)
theorem asE:aA Tryz.prog 212 anG:=f0 {merge:=mg [(2,18)]} ((base.add amd).add atB) Tryz.func212
def amP:aD:=au [pf eL,pI,pf cd] [rI] (c3 Pu.mR)
theorem arp:aA Tryz.prog 102 amP:=f0 {merge:=mg [(1,17)]} ((((((base.add YQ).add alM).add asC).add asD).add alS).add asE) Tryz.func102
def aoL:aD:=au [pf cd,pf cd] [rB] (c2 Pu.sj)
theorem atC:aA Tryz.prog 303 aoL:=f0 {} base Tryz.func303
def anH:aD:=au [pf nD,pf cd] [rB] (c2 Pu.pP)
theorem alT:aA Tryz.prog 213 anH:=f0 {merge:=mg [(1,42),(4,76),(6,4)]} (((((base.add o34).add YQ).add yL).add alO).add atC) Tryz.func213
def anI:aD:=au [pf nD,pf cd] [(true,Y23)] (c2 Pu.zS)
theorem asF:aA Tryz.prog 214 anI:=f0 {} (base.add alT) Tryz.func214
def aid:aD:=au [pd (.sl bg),pI,pI,pd .bool] [rI] (c4 Pu.xz)
theorem auT:aA Tryz.prog 410 aid:=f0 {merge:=mg [(4,29)]} (base.add al8) Tryz.func410
def Yb:aD:=au [pf (.sl .str),pI,pI] [rB] (c3 Pu.pr)
theorem aeW:aA Tryz.prog 411 Yb:=f0 {merge:=mg [(2,6)]} (base.add aeO) Tryz.func411
def aaS:aD:=au [pd (.sl bg),pf (.sl .str),pI,pI,pI,pd .bool] [(false,(.sl (.own none) (.pair (.int .i64) (.int .i64)))),rB] (c6 Pu.s4)
def aq8:bH:=((((bH.nil.add 92 Sc).add 187 aaL).add 188 aaM).add 410 aid).add 411 Yb
def aln:An:={mask:=mk [(8,[0,2,3,4,5,7,12,13,14])],merge:=mg [(1,29),(11,55),(16,73)],mv:=[56,74]}
abbrev FF:SD:=⟨.data false (.sl .arg bg)::B::DI::DI::DI::DB::B::.ptr 7 0::bs 4 (.data false (.sl (.own (some 147456)) (.pair (.int .i64) (.int .i64)))::DB::.data false (.sl (.own (some 172032)) (.pair (.int .i64) (.int .i64)))::bs 60 []),zs 7 ((some (.sl .arg .str))::zs 67 []),.none⟩
def XD {R:Type}(X:SD.D FF)(K:Ex→AS→Option R):=Pu.l5 (λy0 y1 y2=>ke 0 K FF ((z2 (w y0 (w y1 (z3 (u y2)))) X.1),X.2)) (λy0 y1 y2 y3 y4=>kr K FF ((z2 (w y0 (w y1 (z1 (w y2 (w y3 (u y4)))))) X.1),X.2)) X.1.1 X.1.2.1 (q4 X) (q5 X) (q6 X) X.2.1.1
def aem:bG:=dT FF XD (λX=>(q2 X,q3 X,q7 X))
def agp:bN:=(bN.nil).add 8 aem
theorem acz:dP E aq8 aln agp (az Tryz.f388 0):=lk FF XD (λX=>(q2 X,q3 X,q7 X)) λX x=>((z2 (w x.1 (w x.2.1 (z3 (u x.2.2)))) X.1),X.2)
theorem amx:aA Tryz.prog 388 aaS:=fk aln (((((base.add yL).add aeO).add alK).add auT).add aeW) Tryz.func388 (Λ:=agp) (cF acz nF)
def ah7:aD:=au [pf (.sl .str),pI,pI] [rS,rB] (c3 Pu.kL)
def aq9:bH:=bH.nil.add 411 Yb
def alo:An:={mask:=mk [(4,[1,2,3,8])],mv:=[41]}
abbrev Kg:SD:=⟨B::DI::DI::.ptr 3 0::bs 4 (.data false (.sl (.own (some 98304)) (.int .u8))::bs 41 []),Z::Z::Z::(some (.sl .arg .str))::zs 46 [],.none⟩
def XE {R:Type}(X:SD.D Kg)(K:Ex→AS→Option R):=Pu.g8 (λy0 y1=>ke 0 K Kg ((w y0 (z1 (u y1)) X.1),X.2)) X.1.2.1 X.2.1.1
def aen:bG:=dT Kg XE (λX=>(X.1.1,q2 X))
def agq:bN:=(bN.nil).add 4 aen
theorem acA:dP E aq9 alo agq (az Tryz.f389 0):=lk Kg XE (λX=>(X.1.1,q2 X)) λX x=>((w x.1 (z1 (u x.2)) X.1),X.2)
theorem auC:aA Tryz.prog 389 ah7:=fk alo (base.add aeW) Tryz.func389 (Λ:=agq) (cF acA nF)
def apt:aD:=au [pd (.sl bg),pf (.sl .str),pI,pI,pI] [rS,rB] (c5 Pu.tV)
def aq0:bH:=(bH.nil.add 388 aaS).add 389 ah7
def ale:An:={mask:=mk [(6,[6,14,30,31,32])]}
abbrev J7:SD:=⟨bs 6 (.ptr 6 0::bs 7 (.data false .str::bs 15 (.data false (.sl .loc (.pair (.int .i64) (.int .i64)))::DI::DI::bs 17 []))),zs 6 ((some (.sl .arg .str))::zs 43 []),.none⟩
def Xt {R:Type}(X:SD.D J7)(K:Ex→AS→Option R):=Pu.oz (λy0 y1=>ke 0 K J7 ((w y0 (z2 (u y1)) X.1),X.2)) X.1.2.1 (q2 X) X.2.1.1
def aec:bG:=dT J7 Xt (λX=>(X.1.1,q3 X))
def agh:bN:=(bN.nil).add 6 aec
theorem aco:dP E aq0 ale agh (az Tryz.f362 0):=lk J7 Xt (λX=>(X.1.1,q3 X)) λX x=>((w x.1 (z2 (u x.2)) X.1),X.2)
theorem auf:aA Tryz.prog 362 apt:=fk ale ((base.add amx).add auC) Tryz.func362 (Λ:=agh) (cF aco nF)
def apu:aD:=au [pf eY,pI] [rI] (c2 Pu.mP)
theorem aug:aA Tryz.prog 363 apu:=f0 {merge:=mg [(1,11)]} (base.add YN) Tryz.func363
def aoM:aD:=au [pd (.sl bg),pf (.sl .str),pI,pf eY] [rS,(true,Y1),rB] (c4 Pu.si)
theorem atD:aA Tryz.prog 304 aoM:=f0 {merge:=mg [(1,20)],sb:=mg [(9,9)]} ((((base.add YN).add amq).add auf).add aug) Tryz.func304
def ap0:aD:=au [pf HV] [rB] (c1 Pu.vN)
theorem auU:aA Tryz.prog 412 ap0:=f0 {merge:=mg [(1,2)]} (base.add yL) Tryz.func412
def apN:aD:=au [pf HV] [rS] (c1 Pu.oA)
theorem auD:aA Tryz.prog 390 apN:=f0 {} (((base.add KR).add Nu).add auU) Tryz.func390
def apv:aD:=au [pd .str] [(true,Y26),rB] (c1 Pu.oy)
theorem auh:aA Tryz.prog 364 apv:=f0 {sb:=mg [(4,4)]} (((base.add Vm).add YO).add auD) Tryz.func364
def aie:aD:=au [pf (.sl .str),pI,pd .str] [(true,(.sl (.own none) .str)),rB] (c3 Pu.mU)
def arh:bH:=(bH.nil.add 180 Ya).add 411 Yb
def alw:An:={mask:=mk [(4,[1,2,6,8])],nest:=[33],mv:=[19,49]}
abbrev Km:SD:=⟨B::DI::.data false .str::B::B::B::.ptr 6 0::B::.ptr 8 0::bs 41 [],zs 6 ((some (.sl (.own (some 73729)) .str))::Z::(some (.sl (.own (some 98305)) .str))::zs 41 []),.none⟩
def XL {R:Type}(X:SD.D Km)(K:Ex→AS→Option R):=Pu.jq (λy0 y1 y2=>ke 0 K Km ((w y0 (u y1) X.1),(z1 (u y2) X.2.1),X.2.2)) X.2.1.1
def aeu:bG:=dT Km XL (λX=>(X.1.1,X.1.2.1,X.2.1.2.1))
def agx:bN:=(bN.nil).add 4 aeu
theorem acH:dP E arh alw agx (az Tryz.f413 0):=lk Km XL (λX=>(X.1.1,X.1.2.1,X.2.1.2.1)) λX x=>((w x.1 (u x.2.1) X.1),(z1 (u x.2.2) X.2.1),X.2.2)
theorem auV:aA Tryz.prog 413 aie:=fk alw ((base.add S3).add aeW) Tryz.func413 (Λ:=agx) (cF acH nF)
def apO:aD:=au [pd (.sl bg),pf (.sl .str),pI,pI,pd .str,pd .bool] [(true,(.sl (.own none) .str)),rB] (c6 Pu.B4)
def ara:bH:=((bH.nil.add 180 Ya).add 388 aaS).add 413 aie
def alp:An:={mask:=mk [(6,[4,12,14,35,36,37])],mv:=[34,41,50,57],sb:=mg [(14,14)]}
abbrev Kh:SD:=⟨bs 4 (.data false .str::bs 7 (.ptr 12 0::B::.ptr 14 0::bs 20 (.data false (.sl .loc (.pair (.int .i64) (.int .i64)))::DI::DI::bs 20 []))),zs 12 ((some (.sl (.own (some 147457)) .str))::Z::(some (.sl (.own (some 172033)) .str))::zs 43 []),.none⟩
def XF {R:Type}(X:SD.D Kh)(K:Ex→AS→Option R):=Pu.sZ (λy0 y1 y2=>ke 0 K Kh ((w y0 (z2 (u y1)) X.1),(z1 (u y2) X.2.1),X.2.2)) X.1.2.1 (q2 X) X.2.1.1
def aeo:bG:=dT Kh XF (λX=>(X.1.1,q3 X,X.2.1.2.1))
def agr:bN:=(bN.nil).add 6 aeo
theorem acB:dP E ara alp agr (az Tryz.f391 0):=lk Kh XF (λX=>(X.1.1,q3 X,X.2.1.2.1)) λX x=>((w x.1 (z2 (u x.2.1)) X.1),(z1 (u x.2.2) X.2.1),X.2.2)
theorem auE:aA Tryz.prog 391 apO:=fk alp (((base.add S3).add amx).add auV) Tryz.func391 (Λ:=agr) (cF acB nF)
def apw:aD:=au [pd (.sl bg),pf (.sl .str),pI,pI,pd .str] [(true,(.sl (.own none) .str)),rB] (c5 Pu.nP)
theorem amt:aA Tryz.prog 365 apw:=f0 {} (base.add auE) Tryz.func365
def apP:aD:=au [pf fc] [rB] (c1 Pu.iG)
theorem amy:aA Tryz.prog 392 apP:=f0 {merge:=mg [(1,2)]} (base.add yL) Tryz.func392
def apQ:aD:=au [pf eu] [rI] (c1 Pu.m6)
theorem auF:aA Tryz.prog 393 apQ:=f0 {} base Tryz.func393
def apR:aD:=au [pf fc,pI] [rS] (c2 Pu.ib)
theorem auG:aA Tryz.prog 394 apR:=f0 {merge:=mg [(1,12)]} ((((base.add yL).add KR).add Nu).add amy) Tryz.func394
def apS:aD:=au [pf eu] [rI] (c1 Pu.ub)
theorem auH:aA Tryz.prog 395 apS:=f0 {} base Tryz.func395
def apx:aD:=au [pd (.sl bg),pf (.sl .str),pI,pf eu,pf fc] [(true,(.sl (.own none) .str)),(true,Y4),rB] (c5 Pu.kn)
theorem aui:aA Tryz.prog 366 apx:=f0 {merge:=mg [(1,22)],mv:=[26,37,41,51],mb:=mg [(41,13),(51,13)],sb:=mg [(10,10),(11,11),(13,13)]} (((((((base.add S3).add al9).add amt).add amy).add auF).add auG).add auH) Tryz.func366
def aoN:aD:=OW [pd (.sl bg),pf (.sl .str),pI,pf bt,pd .str,pd .str] [(true,(.sl (.own none) .str)),(true,Y4),rB] [(true,(.sl .arg .str)),(true,Y4),rB] rfl λa=>Pu.qe a.1 a.2.1 a.2.2.1 a.2.2.2.1 a.2.2.2.2.1 a.2.2.2.2.2.1
theorem atE:aA Tryz.prog 305 aoN:=aA.ofAlt (aii (an:={merge:=mg [(3,50)],sb:=mg [(12,12),(13,13),(20,20)]}) (Λ:=bN.nil) (by rfl) ((((((base.add o98).add alS).add ams).add auh).add amt).add aui) Tryz.func305 (by kernel_rfl) (hF (by kernel_rfl) nF)) (λa=>by kernel_rfl)
def anJ:aD:=au [pd (.sl bg),pf (.sl .str),pI,pf bt,pd .str] [(true,(.sl (.own none) .str)),(true,Y14)] (c5 Pu.lX)
theorem asG:aA Tryz.prog 215 anJ:=f0 {merge:=mg [(1,31)],mv:=[52,66],mb:=mg [(66,16)],sb:=mg [(10,10),(11,11)]} ((((base.add S3).add aeP).add atD).add atE) Tryz.func215
def anK:aD:=au [pf cd] [(true,Y23)] (c1 Pu.zb)
theorem asH:aA Tryz.prog 216 anK:=f0 {} base Tryz.func216
def amQ:aD:=au [pd (.sl bg),pf (.sl .str),pI,pf bt,pd .str,pf cd,pd .bool] [(true,(.sl (.own none) .str)),(true,Y14)] (c7 Pu.ko)
theorem arq:aA Tryz.prog 103 amQ:=f0 {merge:=mg [(1,30),(3,44)],mv:=[53,68,77],mb:=mg [(77,16)],sb:=mg [(14,14),(15,15)]} (((((((base.add o34).add S3).add aeP).add alT).add asF).add asG).add asH) Tryz.func103
def aoO:aD:=au [pf cl] [(true,Y15)] (c1 Pu.ua)
theorem atF:aA Tryz.prog 306 aoO:=f0 {merge:=mg [(1,9)]} (base.add ama) Tryz.func306
def ahq:aD:=au [pf cl] [(true,Y15)] (c1 Pu.rV)
theorem asI:aA Tryz.prog 218 ahq:=f0 {} ((base.add alL).add atF) Tryz.func218
def amR:aD:=FV cv [pI,pI] [] λx a=>Pu.jA x a.1 a.2.1
def aik:bH:=(bH.nil.add 217 aaP).add 218 ahq
def aj6:An:={mask:=mk [(2,[0,1,7])]}
abbrev Jx:SD:=⟨.ptr 0 0::DI::bs 5 (DI::bs 34 []),(some Y7)::zs 41 [],.ptr⟩
def V5 {R:Type}(X:SD.D Jx)(K:Ex→AS→Option R):=Pu.lA (λy0 y1=>ke 0 K Jx ((z1 (u y0) X.1),(u y1 X.2.1),X.2.2)) X.1.1
def acO:bG:=dT Jx V5 (λX=>(X.1.2.1,X.2.1.1))
def ae8:bN:=(bN.nil).add 2 acO
theorem aaZ:dP E aik aj6 ae8 (az Tryz.f104 0):=lk Jx V5 (λX=>(X.1.2.1,X.2.1.1)) λX x=>((z1 (u x.1) X.1),(u x.2 X.2.1),X.2.2)
theorem ars:aA Tryz.prog 104 amR:=aA.Vo (Us (Γ:=aik) (an:=aj6) (Λ:=ae8) ((base.add aeR).add asI) Tryz.func104 (by kernel_rfl) (hF (by kernel_rfl) (cF aaZ nF))) (λx a=>by kernel_rfl)
def e40:aD:=au [pf cv,pd .str] [(true,Y2)] (c2 Pu.mL)
theorem o40:aA Tryz.prog 40 e40:=f0 {mv:=[14,34,46,62,69,90,103],sb:=mg [(92,5)]} (((((((base.add o84).add o85).add arn).add aro).add arp).add arq).add ars) Tryz.func40
def e9:aD:=au [pf dQ,pI,pf cd] [(true,Y6)] (c3 Pu.kI)
def g9:bH:=((((((((bH.nil.add 32 e32).add 33 e33).add 34 e34).add 35 e35).add 36 e36).add 37 e37).add 38 e38).add 39 e39).add 40 e40
def n9:An:={mask:=mk [(7,[5,6,7,8,10,39,40,41])],merge:=mg [(2,24)],mv:=[25,26,57,76]}
abbrev X7:SD:=⟨bs 5 (.ptr 5 0::.ptr 6 0::.ptr 7 0::.data false (.sl (.own (some 98304)) fy)::B::DI::bs 28 (.data false (.sl (.own (some 479232)) (.int .i64))::DI::DI::bs 35 [])),zs 5 ((some Y0)::(some (.pair (.sl (.own (some 73729)) cv) (.pair (.sl (.own (some 73732)) aC) (.pair (.sl (.own (some 73735)) bq) (.pair (.sl (.own (some 73738)) .str) (.pair Y1 (.pair (.sl (.own (some 73753)) (.int .i64)) (.sl (.own (some 73756)) .str))))))))::(some (.pair (.sl (.own (some 86017)) cv) (.pair (.sl (.own (some 86020)) aC) (.pair (.sl (.own (some 86023)) bq) (.pair (.sl (.own (some 86026)) .str) (.pair Y1 (.pair (.sl (.own (some 86041)) (.int .i64)) (.sl (.own (some 86044)) .str))))))))::zs 69 []),.none⟩
def amI {R:Type}(X:SD.D X7)(K:Ex→AS→Option R):=Pu.g7 (λy0 y1=>ke 0 K X7 ((z4 (u y0) X.1),(z2 (u y1) X.2.1),X.2.2)) X.1.1 X.1.2.1 (q2 X) (q3 X) X.2.1.1 X.2.1.2.1
def arl:bG:=dT X7 amI (λX=>(q4 X,X.2.1.2.2.1))
def L9:bN:=(bN.nil).add 7 arl
theorem ark:dP E g9 n9 L9 (az Tryz.f9 0):=lk X7 amI (λX=>(q4 X,X.2.1.2.2.1)) λX x=>((z4 (u x.1) X.1),(z2 (u x.2) X.2.1),X.2.2)
theorem o9:aA Tryz.prog 9 e9:=fk n9 (((((((((base.add o32).add o33).add o34).add o35).add o36).add o37).add o38).add o39).add o40) Tryz.func9 (Λ:=L9) (cF ark nF)
def e46:aD:=au [pd (.sl (.int .i64)),pd (.sl (.int .i64))] [rB] (c2 Pu.iJ)
def g46:bH:=bH.nil
def n46:An:={mask:=mk [(4,[0,1,4,5])]}
abbrev LX:SD:=⟨.data false (.sl .arg (.int .i64))::.data false (.sl .arg (.int .i64))::B::B::DB::DI::bs 20 [],zs 26 [],.none⟩
def ZY {R:Type}(X:SD.D LX)(K:Ex→AS→Option R):=Pu.zg (λy0=>ke 0 K LX ((z3 (u y0) X.1),X.2)) (λy0 y1=>kr K LX ((z2 (w y0 (u y1)) X.1),X.2)) X.1.1 X.1.2.1 (q2 X)
def ajF:bG:=dT LX ZY q3
def L46:bN:=(bN.nil).add 4 ajF
theorem aiW:dP E g46 n46 L46 (az Tryz.f46 0):=lk LX ZY q3 λX x=>((z3 (u x) X.1),X.2)
theorem o46:aA Tryz.prog 46 e46:=fk n46 base Tryz.func46 (Λ:=L46) (cF aiW nF)
def e47:aD:=au [pd (.sl .str),pd (.sl .str)] [rB] (c2 Pu.jD)
def g47:bH:=bH.nil
def n47:An:={mask:=mk [(4,[0,1,4,5])]}
abbrev LY:SD:=⟨.data false (.sl .arg .str)::.data false (.sl .arg .str)::B::B::DB::DI::bs 20 [],zs 26 [],.none⟩
def ZZ {R:Type}(X:SD.D LY)(K:Ex→AS→Option R):=Pu.vS (λy0=>ke 0 K LY ((z3 (u y0) X.1),X.2)) (λy0 y1=>kr K LY ((z2 (w y0 (u y1)) X.1),X.2)) X.1.1 X.1.2.1 (q2 X)
def ajG:bG:=dT LY ZZ q3
def L47:bN:=(bN.nil).add 4 ajG
theorem aiX:dP E g47 n47 L47 (az Tryz.f47 0):=lk LY ZZ q3 λX x=>((z3 (u x) X.1),X.2)
theorem o47:aA Tryz.prog 47 e47:=fk n47 base Tryz.func47 (Λ:=L47) (cF aiX nF)
def anL:aD:=au [pf (.sl .str),pf (.sl .str)] [rB] (c2 Pu.sv)
theorem asJ:aA Tryz.prog 219 anL:=f0 {} (base.add o47) Tryz.func219
def ahL:aD:=au [pf bg,pf bg] [rB] (c2 Pu.l9)
theorem atG:aA Tryz.prog 307 ahL:=f0 {} base Tryz.func307
def anM:aD:=au [pd (.sl bg),pd (.sl bg)] [rB] (c2 Pu.tB)
def aqA:bH:=bH.nil.add 307 ahL
def akO:An:={mask:=mk [(4,[0,1,4,5])]}
abbrev Fk:SD:=⟨.data false (.sl .arg bg)::.data false (.sl .arg bg)::B::B::DB::DI::bs 21 [],zs 27 [],.none⟩
def WZ {R:Type}(X:SD.D Fk)(K:Ex→AS→Option R):=Pu.u3 (λy0=>ke 0 K Fk ((z3 (u y0) X.1),X.2)) (λy0 y1=>kr K Fk ((z2 (w y0 (u y1)) X.1),X.2)) X.1.1 X.1.2.1 (q2 X)
def adI:bG:=dT Fk WZ q3
def afQ:bN:=(bN.nil).add 4 adI
theorem abS:dP E aqA akO afQ (az Tryz.f220 0):=lk Fk WZ q3 λX x=>((z3 (u x) X.1),X.2)
theorem asK:aA Tryz.prog 220 anM:=fk akO (base.add atG) Tryz.func220 (Λ:=afQ) (cF abS nF)
def aoP:aD:=au [pf eY,pf eY] [rB] (c2 Pu.s8)
theorem ami:aA Tryz.prog 308 aoP:=f0 {} base Tryz.func308
def ahM:aD:=au [pf dF,pf dF] [rB] (c2 Pu.pt)
theorem amj:aA Tryz.prog 309 ahM:=f0 {} (base.add o46) Tryz.func309
def ah1:aD:=au [pf dA,pf dA] [rB] (c2 Pu.ta)
theorem auj:aA Tryz.prog 367 ah1:=f0 {} (base.add o46) Tryz.func367
def aoQ:aD:=au [pd (.sl dA),pd (.sl dA)] [rB] (c2 Pu.xG)
def aqT:bH:=bH.nil.add 367 ah1
def ak7:An:={mask:=mk [(4,[0,1,4,5])]}
abbrev FB:SD:=⟨.data false (.sl .arg dA)::.data false (.sl .arg dA)::B::B::DB::DI::bs 21 [],zs 27 [],.none⟩
def Xl {R:Type}(X:SD.D FB)(K:Ex→AS→Option R):=Pu.yw (λy0=>ke 0 K FB ((z3 (u y0) X.1),X.2)) (λy0 y1=>kr K FB ((z2 (w y0 (u y1)) X.1),X.2)) X.1.1 X.1.2.1 (q2 X)
def ad4:bG:=dT FB Xl q3
def af9:bN:=(bN.nil).add 4 ad4
theorem acf:dP E aqT ak7 af9 (az Tryz.f310 0):=lk FB Xl q3 λX x=>((z3 (u x) X.1),X.2)
theorem atH:aA Tryz.prog 310 aoQ:=fk ak7 (base.add auj) Tryz.func310 (Λ:=af9) (cF acf nF)
def anN:aD:=au [pf fO,pf fO] [rB] (c2 Pu.qg)
theorem asL:aA Tryz.prog 221 anN:=f0 {} (((base.add ami).add amj).add atH) Tryz.func221
def apy:aD:=au [pf eu,pf eu] [rB] (c2 Pu.fz)
theorem auk:aA Tryz.prog 368 apy:=f0 {} base Tryz.func368
def ap1:aD:=au [pf gE,pf gE] [rB] (c2 Pu.qf)
theorem auW:aA Tryz.prog 414 ap1:=f0 {} base Tryz.func414
def apT:aD:=au [pf cd,pf cd] [rB] (c2 Pu.sy)
theorem auI:aA Tryz.prog 396 apT:=f0 {} (base.add auW) Tryz.func396
def apz:aD:=au [pf nD,pf nD] [rB] (c2 Pu.uf)
theorem aul:aA Tryz.prog 369 apz:=f0 {} (base.add auI) Tryz.func369
def ahN:aD:=au [pf bt,pf bt] [rB] (c2 Pu.ma)
theorem atI:aA Tryz.prog 311 ahN:=f0 {} (((base.add ami).add auk).add aul) Tryz.func311
def anO:aD:=au [pd (.sl bt),pd (.sl bt)] [rB] (c2 Pu.tC)
def aqB:bH:=bH.nil.add 311 ahN
def akP:An:={mask:=mk [(4,[0,1,4,5])]}
abbrev Fl:SD:=⟨.data false (.sl .arg bt)::.data false (.sl .arg bt)::B::B::DB::DI::bs 21 [],zs 27 [],.none⟩
def W0 {R:Type}(X:SD.D Fl)(K:Ex→AS→Option R):=Pu.u4 (λy0=>ke 0 K Fl ((z3 (u y0) X.1),X.2)) (λy0 y1=>kr K Fl ((z2 (w y0 (u y1)) X.1),X.2)) X.1.1 X.1.2.1 (q2 X)
def adJ:bG:=dT Fl W0 q3
def afR:bN:=(bN.nil).add 4 adJ
theorem abT:dP E aqB akP afR (az Tryz.f222 0):=lk Fl W0 q3 λX x=>((z3 (u x) X.1),X.2)
theorem asM:aA Tryz.prog 222 anO:=fk akP (base.add atI) Tryz.func222 (Λ:=afR) (cF abT nF)
def anP:aD:=au [pd (.sl dF),pd (.sl dF)] [rB] (c2 Pu.xE)
def aqC:bH:=bH.nil.add 309 ahM
def akQ:An:={mask:=mk [(4,[0,1,4,5])]}
abbrev Fm:SD:=⟨.data false (.sl .arg dF)::.data false (.sl .arg dF)::B::B::DB::DI::bs 21 [],zs 27 [],.none⟩
def W1 {R:Type}(X:SD.D Fm)(K:Ex→AS→Option R):=Pu.yu (λy0=>ke 0 K Fm ((z3 (u y0) X.1),X.2)) (λy0 y1=>kr K Fm ((z2 (w y0 (u y1)) X.1),X.2)) X.1.1 X.1.2.1 (q2 X)
def adK:bG:=dT Fm W1 q3
def afS:bN:=(bN.nil).add 4 adK
theorem abU:dP E aqC akQ afS (az Tryz.f223 0):=lk Fm W1 q3 λX x=>((z3 (u x) X.1),X.2)
theorem asN:aA Tryz.prog 223 anP:=fk akQ (base.add amj) Tryz.func223 (Λ:=afS) (cF abU nF)
def ahO:aD:=au [pf cl,pf cl] [rB] (c2 Pu.n0)
theorem atJ:aA Tryz.prog 312 ahO:=f0 {} base Tryz.func312
def anQ:aD:=au [pd (.sl cl),pd (.sl cl)] [rB] (c2 Pu.u6)
def aqD:bH:=bH.nil.add 312 ahO
def akR:An:={mask:=mk [(4,[0,1,4,5])]}
abbrev Fo:SD:=⟨.data false (.sl .arg cl)::.data false (.sl .arg cl)::B::B::DB::DI::bs 21 [],zs 27 [],.none⟩
def W2 {R:Type}(X:SD.D Fo)(K:Ex→AS→Option R):=Pu.vT (λy0=>ke 0 K Fo ((z3 (u y0) X.1),X.2)) (λy0 y1=>kr K Fo ((z2 (w y0 (u y1)) X.1),X.2)) X.1.1 X.1.2.1 (q2 X)
def adL:bG:=dT Fo W2 q3
def afT:bN:=(bN.nil).add 4 adL
theorem abV:dP E aqD akR afT (az Tryz.f224 0):=lk Fo W2 q3 λX x=>((z3 (u x) X.1),X.2)
theorem asO:aA Tryz.prog 224 anQ:=fk akR (base.add atJ) Tryz.func224 (Λ:=afT) (cF abV nF)
def anR:aD:=au [pd (.sl .bool),pd (.sl .bool)] [rB] (c2 Pu.xC)
def aqE:bH:=bH.nil
def akS:An:={mask:=mk [(4,[0,1,4,5])]}
abbrev Fp:SD:=⟨.data false (.sl .arg .bool)::.data false (.sl .arg .bool)::B::B::DB::DI::bs 20 [],zs 26 [],.none⟩
def W3 {R:Type}(X:SD.D Fp)(K:Ex→AS→Option R):=Pu.yr (λy0=>ke 0 K Fp ((z3 (u y0) X.1),X.2)) (λy0 y1=>kr K Fp ((z2 (w y0 (u y1)) X.1),X.2)) X.1.1 X.1.2.1 (q2 X)
def adM:bG:=dT Fp W3 q3
def afU:bN:=(bN.nil).add 4 adM
theorem abW:dP E aqE akS afU (az Tryz.f225 0):=lk Fp W3 q3 λX x=>((z3 (u x) X.1),X.2)
theorem asP:aA Tryz.prog 225 anR:=fk akS base Tryz.func225 (Λ:=afU) (cF abW nF)
def anS:aD:=au [pf fw,pf fw] [rB] (c2 Pu.nY)
theorem alU:aA Tryz.prog 226 anS:=f0 {} (base.add o46) Tryz.func226
def ah2:aD:=au [pf dw,pf dw] [rB] (c2 Pu.s9)
theorem aum:aA Tryz.prog 370 ah2:=f0 {} base Tryz.func370
def aoR:aD:=au [pd (.sl dw),pd (.sl dw)] [rB] (c2 Pu.xF)
def aqU:bH:=bH.nil.add 370 ah2
def ak8:An:={mask:=mk [(4,[0,1,4,5])]}
abbrev FC:SD:=⟨.data false (.sl .arg dw)::.data false (.sl .arg dw)::B::B::DB::DI::bs 21 [],zs 27 [],.none⟩
def Xm {R:Type}(X:SD.D FC)(K:Ex→AS→Option R):=Pu.yv (λy0=>ke 0 K FC ((z3 (u y0) X.1),X.2)) (λy0 y1=>kr K FC ((z2 (w y0 (u y1)) X.1),X.2)) X.1.1 X.1.2.1 (q2 X)
def ad5:bG:=dT FC Xm q3
def aga:bN:=(bN.nil).add 4 ad5
theorem acg:dP E aqU ak8 aga (az Tryz.f313 0):=lk FC Xm q3 λX x=>((z3 (u x) X.1),X.2)
theorem atK:aA Tryz.prog 313 aoR:=fk ak8 (base.add aum) Tryz.func313 (Λ:=aga) (cF acg nF)
def apB:aD:=au [pf fc,pf fc] [rB] (c2 Pu.s6)
theorem amu:aA Tryz.prog 372 apB:=f0 {} base Tryz.func372
def ah8:aD:=au [pf cS,pf cS] [rB] (c2 Pu.tc)
theorem auJ:aA Tryz.prog 397 ah8:=f0 {} (base.add amu) Tryz.func397
def apA:aD:=au [pd (.sl cS),pd (.sl cS)] [rB] (c2 Pu.xH)
def aq1:bH:=bH.nil.add 397 ah8
def alf:An:={mask:=mk [(4,[0,1,4,5])]}
abbrev FE:SD:=⟨.data false (.sl .arg cS)::.data false (.sl .arg cS)::B::B::DB::DI::bs 21 [],zs 27 [],.none⟩
def Xu {R:Type}(X:SD.D FE)(K:Ex→AS→Option R):=Pu.yx (λy0=>ke 0 K FE ((z3 (u y0) X.1),X.2)) (λy0 y1=>kr K FE ((z2 (w y0 (u y1)) X.1),X.2)) X.1.1 X.1.2.1 (q2 X)
def aed:bG:=dT FE Xu q3
def agi:bN:=(bN.nil).add 4 aed
theorem acp:dP E aq1 alf agi (az Tryz.f371 0):=lk FE Xu q3 λX x=>((z3 (u x) X.1),X.2)
theorem aun:aA Tryz.prog 371 apA:=fk alf (base.add auJ) Tryz.func371 (Λ:=agi) (cF acp nF)
def aoS:aD:=au [pf (.sl cS),pf (.sl cS)] [rB] (c2 Pu.m7)
theorem atL:aA Tryz.prog 314 aoS:=f0 {} (base.add aun) Tryz.func314
def aoT:aD:=au [pf ia,pf ia] [rB] (c2 Pu.sA)
theorem atM:aA Tryz.prog 315 aoT:=f0 {} (base.add o46) Tryz.func315
def anT:aD:=au [pf eL,pf eL] [rB] (c2 Pu.oH)
theorem asQ:aA Tryz.prog 227 anT:=f0 {} (((base.add atK).add atL).add atM) Tryz.func227
def ahP:aD:=au [pf cu,pf cu] [rB] (c2 Pu.nZ)
theorem atN:aA Tryz.prog 316 ahP:=f0 {} (base.add amu) Tryz.func316
def anU:aD:=au [pd (.sl cu),pd (.sl cu)] [rB] (c2 Pu.u5)
def aqF:bH:=bH.nil.add 316 ahP
def akT:An:={mask:=mk [(4,[0,1,4,5])]}
abbrev Fq:SD:=⟨.data false (.sl .arg cu)::.data false (.sl .arg cu)::B::B::DB::DI::bs 21 [],zs 27 [],.none⟩
def W4 {R:Type}(X:SD.D Fq)(K:Ex→AS→Option R):=Pu.vR (λy0=>ke 0 K Fq ((z3 (u y0) X.1),X.2)) (λy0 y1=>kr K Fq ((z2 (w y0 (u y1)) X.1),X.2)) X.1.1 X.1.2.1 (q2 X)
def adN:bG:=dT Fq W4 q3
def afV:bN:=(bN.nil).add 4 adN
theorem abX:dP E aqF akT afV (az Tryz.f228 0):=lk Fq W4 q3 λX x=>((z3 (u x) X.1),X.2)
theorem asR:aA Tryz.prog 228 anU:=fk akT (base.add atN) Tryz.func228 (Λ:=afV) (cF abX nF)
def anV:aD:=au [pf fc,pf fc] [rB] (c2 Pu.oG)
theorem asS:aA Tryz.prog 229 anV:=f0 {} base Tryz.func229
def agF:aD:=au [pf cv,pf cv] [rB] (c2 Pu.s7)
theorem art:aA Tryz.prog 105 agF:=f0 {} (((((((((((((base.add o46).add o47).add asJ).add asK).add asL).add asM).add asN).add asO).add asP).add alU).add asQ).add asR).add asS) Tryz.func105
def e41:aD:=au [pd (.sl cv),pd (.sl cv)] [rB] (c2 Pu.xD)
def g41:bH:=bH.nil.add 105 agF
def n41:An:={mask:=mk [(4,[0,1,4,5])]}
abbrev LU:SD:=⟨.data false (.sl .arg cv)::.data false (.sl .arg cv)::B::B::DB::DI::bs 21 [],zs 27 [],.none⟩
def ZV {R:Type}(X:SD.D LU)(K:Ex→AS→Option R):=Pu.yt (λy0=>ke 0 K LU ((z3 (u y0) X.1),X.2)) (λy0 y1=>kr K LU ((z2 (w y0 (u y1)) X.1),X.2)) X.1.1 X.1.2.1 (q2 X)
def ajC:bG:=dT LU ZV q3
def L41:bN:=(bN.nil).add 4 ajC
theorem aiT:dP E g41 n41 L41 (az Tryz.f41 0):=lk LU ZV q3 λX x=>((z3 (u x) X.1),X.2)
theorem o41:aA Tryz.prog 41 e41:=fk n41 (base.add art) Tryz.func41 (Λ:=L41) (cF aiT nF)
def anW:aD:=au [pf eu,pf eu] [rB] (c2 Pu.su)
theorem asT:aA Tryz.prog 230 anW:=f0 {} base Tryz.func230
def agG:aD:=au [pf aC,pf aC] [rB] (c2 Pu.fA)
theorem aru:aA Tryz.prog 106 agG:=f0 {} (base.add asT) Tryz.func106
def e42:aD:=au [pd (.sl aC),pd (.sl aC)] [rB] (c2 Pu.jE)
def g42:bH:=bH.nil.add 106 agG
def n42:An:={mask:=mk [(4,[0,1,4,5])]}
abbrev LV:SD:=⟨.data false (.sl .arg aC)::.data false (.sl .arg aC)::B::B::DB::DI::bs 21 [],zs 27 [],.none⟩
def ZW {R:Type}(X:SD.D LV)(K:Ex→AS→Option R):=Pu.mc (λy0=>ke 0 K LV ((z3 (u y0) X.1),X.2)) (λy0 y1=>kr K LV ((z2 (w y0 (u y1)) X.1),X.2)) X.1.1 X.1.2.1 (q2 X)
def ajD:bG:=dT LV ZW q3
def L42:bN:=(bN.nil).add 4 ajD
theorem aiU:dP E g42 n42 L42 (az Tryz.f42 0):=lk LV ZW q3 λX x=>((z3 (u x) X.1),X.2)
theorem o42:aA Tryz.prog 42 e42:=fk n42 (base.add aru) Tryz.func42 (Λ:=L42) (cF aiU nF)
def agH:aD:=au [pf bq,pf bq] [rB] (c2 Pu.l8)
theorem arv:aA Tryz.prog 107 agH:=f0 {} (base.add alU) Tryz.func107
def e43:aD:=au [pd (.sl bq),pd (.sl bq)] [rB] (c2 Pu.tA)
def g43:bH:=bH.nil.add 107 agH
def n43:An:={mask:=mk [(4,[0,1,4,5])]}
abbrev LW:SD:=⟨.data false (.sl .arg bq)::.data false (.sl .arg bq)::B::B::DB::DI::bs 21 [],zs 27 [],.none⟩
def ZX {R:Type}(X:SD.D LW)(K:Ex→AS→Option R):=Pu.u1 (λy0=>ke 0 K LW ((z3 (u y0) X.1),X.2)) (λy0 y1=>kr K LW ((z2 (w y0 (u y1)) X.1),X.2)) X.1.1 X.1.2.1 (q2 X)
def ajE:bG:=dT LW ZX q3
def L43:bN:=(bN.nil).add 4 ajE
theorem aiV:dP E g43 n43 L43 (az Tryz.f43 0):=lk LW ZX q3 λX x=>((z3 (u x) X.1),X.2)
theorem o43:aA Tryz.prog 43 e43:=fk n43 (base.add arv) Tryz.func43 (Λ:=L43) (cF aiV nF)
def e44:aD:=au [pf (.sl .str),pf (.sl .str)] [rB] (c2 Pu.ue)
theorem o44:aA Tryz.prog 44 e44:=f0 {} (base.add o47) Tryz.func44
def e45:aD:=au [pf eY,pf eY] [rB] (c2 Pu.ud)
theorem o45:aA Tryz.prog 45 e45:=f0 {} base Tryz.func45
def e10:aD:=au [pf dQ,pf dQ] [rB] (c2 Pu.l7)
theorem o10:aA Tryz.prog 10 e10:=f0 {} (((((((base.add o41).add o42).add o43).add o44).add o45).add o46).add o47) Tryz.func10
def e52:aD:=rC (.sl (.int .i64)) false [pI] [rI] λx a=>Pu.cQ x a.1
def g52:bH:=bH.nil
def n52:An:={mask:=mk [(2,[0,1,5])]}
abbrev QR:SD:=⟨.data false (.sl (.lio 0 12288036864) (.int .i64))::DI::B::B::B::DI::bs 13 [],zs 19 [],.some (.sl (.own (some 12288036864)) (.int .i64))⟩
def Z3 {R:Type}(X:SD.D QR)(K:Ex→AS→Option R):=Pu.jG (λy0 y1 y2 y3=>ke 0 K QR ((w y0 (w y1 (u y2)) X.1),X.2.1,y3))
def ajK:bG:=dT QR Z3 (λX=>(X.1.1,X.1.2.1,q2 X,X.2.2))
def L52:bN:=(bN.nil).add 2 ajK
theorem ai1:dP E g52 n52 L52 (az Tryz.f52 0):=lk QR Z3 (λX=>(X.1.1,X.1.2.1,q2 X,X.2.2)) λX x=>((w x.1 (w x.2.1 (u x.2.2.1)) X.1),X.2.1,x.2.2.2)
theorem o52:aA Tryz.prog 52 e52:=aA.Ar (Ao (Γ:=g52) (an:=n52) (Λ:=L52) (base) Tryz.func52 (by kernel_rfl) (hF (by kernel_rfl) (cF ai1 nF))) (λx a=>by kernel_rfl)
def Kr:aD:=au [pI] [rS] (c1 Pu.bu)
def ap3:bH:=bH.nil
def akf:An:={mask:=mk [(4,[0,3])]}
abbrev JG:SD:=⟨DI::B::B::.data false .str::bs 16 [],zs 20 [],.none⟩
def We {R:Type}(X:SD.D JG)(K:Ex→AS→Option R):=Pu.nb (λy0 y1=>ke 0 K JG ((w y0 (u y1) X.1),X.2))
def acX:bG:=dT JG We (λX=>(X.1.1,X.1.2.1))
def afh:bN:=(bN.nil).add 4 acX
theorem aa8:dP E ap3 akf afh (az Tryz.f116 0):=lk JG We (λX=>(X.1.1,X.1.2.1)) λX x=>((w x.1 (u x.2) X.1),X.2)
theorem Nr:aA Tryz.prog 116 Kr:=fk akf base Tryz.func116 (Λ:=afh) (cF aa8 nF)
def e53:aD:=rC (.sl .str) false [pI] [rI] λx a=>Pu.fj x a.1
def g53:bH:=bH.nil.add 116 Kr
def n53:An:={mask:=mk [(2,[0,1,5])]}
abbrev QS:SD:=⟨.data false (.sl (.lio 0 12288036864) .str)::DI::B::B::B::DI::bs 14 [],zs 20 [],.some (.sl (.own (some 12288036864)) .str)⟩
def Z4 {R:Type}(X:SD.D QS)(K:Ex→AS→Option R):=Pu.gI (λy0 y1 y2 y3=>ke 0 K QS ((w y0 (w y1 (u y2)) X.1),X.2.1,y3))
def ajL:bG:=dT QS Z4 (λX=>(X.1.1,X.1.2.1,q2 X,X.2.2))
def L53:bN:=(bN.nil).add 2 ajL
theorem ai2:dP E g53 n53 L53 (az Tryz.f53 0):=lk QS Z4 (λX=>(X.1.1,X.1.2.1,q2 X,X.2.2)) λX x=>((w x.1 (w x.2.1 (u x.2.2.1)) X.1),X.2.1,x.2.2.2)
theorem o53:aA Tryz.prog 53 e53:=aA.Ar (Ao (Γ:=g53) (an:=n53) (Λ:=L53) (base.add Nr) Tryz.func53 (by kernel_rfl) (hF (by kernel_rfl) (cF ai2 nF))) (λx a=>by kernel_rfl)
def agI:aD:=rC (.sl bg) false [pI] [rI] λx a=>Pu.lG x a.1
def ail:bH:=bH.nil
def aj7:An:={mask:=mk [(2,[0,1,5])]}
abbrev Jy:SD:=⟨.data false (.sl (.lio 0 12288036864) bg)::DI::B::B::B::DI::bs 37 [],zs 43 [],.some (.sl (.own (some 12288036864)) bg)⟩
def V6 {R:Type}(X:SD.D Jy)(K:Ex→AS→Option R):=Pu.mi (λy0 y1 y2 y3=>ke 0 K Jy ((w y0 (w y1 (u y2)) X.1),X.2.1,y3))
def acP:bG:=dT Jy V6 (λX=>(X.1.1,X.1.2.1,q2 X,X.2.2))
def ae9:bN:=(bN.nil).add 2 acP
theorem aa0:dP E ail aj7 ae9 (az Tryz.f108 0):=lk Jy V6 (λX=>(X.1.1,X.1.2.1,q2 X,X.2.2)) λX x=>((w x.1 (w x.2.1 (u x.2.2.1)) X.1),X.2.1,x.2.2.2)
theorem arw:aA Tryz.prog 108 agI:=aA.Ar (Ao (Γ:=ail) (an:=aj7) (Λ:=ae9) (base) Tryz.func108 (by kernel_rfl) (hF (by kernel_rfl) (cF aa0 nF))) (λx a=>by kernel_rfl)
def agJ:aD:=rC (.sl dA) false [pI] [rI] λx a=>Pu.qC x a.1
def aim:bH:=bH.nil.add 52 e52
def aj8:An:={mask:=mk [(2,[0,1,5])],nest:=[30]}
abbrev Jz:SD:=⟨.data false (.sl (.lio 0 12288036864) dA)::DI::B::B::B::DI::bs 28 [],zs 34 [],.some (.sl (.own (some 12288036864)) dA)⟩
def V7 {R:Type}(X:SD.D Jz)(K:Ex→AS→Option R):=Pu.qD (λy0 y1 y2 y3=>ke 0 K Jz ((w y0 (w y1 (u y2)) X.1),X.2.1,y3))
def acQ:bG:=dT Jz V7 (λX=>(X.1.1,X.1.2.1,q2 X,X.2.2))
def afa:bN:=(bN.nil).add 2 acQ
theorem aa1:dP E aim aj8 afa (az Tryz.f109 0):=lk Jz V7 (λX=>(X.1.1,X.1.2.1,q2 X,X.2.2)) λX x=>((w x.1 (w x.2.1 (u x.2.2.1)) X.1),X.2.1,x.2.2.2)
theorem arx:aA Tryz.prog 109 agJ:=aA.Ar (Ao (Γ:=aim) (an:=aj8) (Λ:=afa) (base.add o52) Tryz.func109 (by kernel_rfl) (hF (by kernel_rfl) (cF aa1 nF))) (λx a=>by kernel_rfl)
def agK:aD:=rC (.sl bt) false [pI] [rI] λx a=>Pu.lH x a.1
def ain:bH:=bH.nil.add 116 Kr
def aj9:An:={mask:=mk [(2,[0,1,5])]}
abbrev JA:SD:=⟨.data false (.sl (.lio 0 12288036864) bt)::DI::B::B::B::DI::bs 272 [],zs 278 [],.some (.sl (.own (some 12288036864)) bt)⟩
def V8 {R:Type}(X:SD.D JA)(K:Ex→AS→Option R):=Pu.mj (λy0 y1 y2 y3=>ke 0 K JA ((w y0 (w y1 (u y2)) X.1),X.2.1,y3))
def acR:bG:=dT JA V8 (λX=>(X.1.1,X.1.2.1,q2 X,X.2.2))
def afb:bN:=(bN.nil).add 2 acR
theorem aa2:dP E ain aj9 afb (az Tryz.f110 0):=lk JA V8 (λX=>(X.1.1,X.1.2.1,q2 X,X.2.2)) λX x=>((w x.1 (w x.2.1 (u x.2.2.1)) X.1),X.2.1,x.2.2.2)
theorem ary:aA Tryz.prog 110 agK:=aA.Ar (Ao (Γ:=ain) (an:=aj9) (Λ:=afb) (base.add Nr) Tryz.func110 (by kernel_rfl) (hF (by kernel_rfl) (cF aa2 nF))) (λx a=>by kernel_rfl)
def agL:aD:=rC (.sl dF) false [pI] [rI] λx a=>Pu.qy x a.1
def aio:bH:=bH.nil.add 52 e52
def aka:An:={mask:=mk [(2,[0,1,5])],nest:=[37]}
abbrev JB:SD:=⟨.data false (.sl (.lio 0 12288036864) dF)::DI::B::B::B::DI::bs 35 [],zs 41 [],.some (.sl (.own (some 12288036864)) dF)⟩
def V9 {R:Type}(X:SD.D JB)(K:Ex→AS→Option R):=Pu.qz (λy0 y1 y2 y3=>ke 0 K JB ((w y0 (w y1 (u y2)) X.1),X.2.1,y3))
def acS:bG:=dT JB V9 (λX=>(X.1.1,X.1.2.1,q2 X,X.2.2))
def afc:bN:=(bN.nil).add 2 acS
theorem aa3:dP E aio aka afc (az Tryz.f111 0):=lk JB V9 (λX=>(X.1.1,X.1.2.1,q2 X,X.2.2)) λX x=>((w x.1 (w x.2.1 (u x.2.2.1)) X.1),X.2.1,x.2.2.2)
theorem arz:aA Tryz.prog 111 agL:=aA.Ar (Ao (Γ:=aio) (an:=aka) (Λ:=afc) (base.add o52) Tryz.func111 (by kernel_rfl) (hF (by kernel_rfl) (cF aa3 nF))) (λx a=>by kernel_rfl)
def agM:aD:=rC (.sl cl) false [pI] [rI] λx a=>Pu.nd x a.1
def aip:bH:=bH.nil
def akb:An:={mask:=mk [(2,[0,1,5])]}
abbrev JC:SD:=⟨.data false (.sl (.lio 0 12288036864) cl)::DI::B::B::B::DI::bs 53 [],zs 59 [],.some (.sl (.own (some 12288036864)) cl)⟩
def Wa {R:Type}(X:SD.D JC)(K:Ex→AS→Option R):=Pu.nI (λy0 y1 y2 y3=>ke 0 K JC ((w y0 (w y1 (u y2)) X.1),X.2.1,y3))
def acT:bG:=dT JC Wa (λX=>(X.1.1,X.1.2.1,q2 X,X.2.2))
def afd:bN:=(bN.nil).add 2 acT
theorem aa4:dP E aip akb afd (az Tryz.f112 0):=lk JC Wa (λX=>(X.1.1,X.1.2.1,q2 X,X.2.2)) λX x=>((w x.1 (w x.2.1 (u x.2.2.1)) X.1),X.2.1,x.2.2.2)
theorem arA:aA Tryz.prog 112 agM:=aA.Ar (Ao (Γ:=aip) (an:=akb) (Λ:=afd) (base) Tryz.func112 (by kernel_rfl) (hF (by kernel_rfl) (cF aa4 nF))) (λx a=>by kernel_rfl)
def agN:aD:=rC (.sl .bool) false [pI] [rI] λx a=>Pu.qu x a.1
def aiq:bH:=bH.nil
def akc:An:={mask:=mk [(2,[0,1,5])]}
abbrev JD:SD:=⟨.data false (.sl (.lio 0 12288036864) .bool)::DI::B::B::B::DI::bs 15 [],zs 21 [],.some (.sl (.own (some 12288036864)) .bool)⟩
def Wb {R:Type}(X:SD.D JD)(K:Ex→AS→Option R):=Pu.iL (λy0 y1 y2 y3=>ke 0 K JD ((w y0 (w y1 (u y2)) X.1),X.2.1,y3))
def acU:bG:=dT JD Wb (λX=>(X.1.1,X.1.2.1,q2 X,X.2.2))
def afe:bN:=(bN.nil).add 2 acU
theorem aa5:dP E aiq akc afe (az Tryz.f113 0):=lk JD Wb (λX=>(X.1.1,X.1.2.1,q2 X,X.2.2)) λX x=>((w x.1 (w x.2.1 (u x.2.2.1)) X.1),X.2.1,x.2.2.2)
theorem arB:aA Tryz.prog 113 agN:=aA.Ar (Ao (Γ:=aiq) (an:=akc) (Λ:=afe) (base) Tryz.func113 (by kernel_rfl) (hF (by kernel_rfl) (cF aa5 nF))) (λx a=>by kernel_rfl)
def agO:aD:=rC (.sl dw) false [pI] [rI] λx a=>Pu.qA x a.1
def air:bH:=bH.nil
def akd:An:={mask:=mk [(2,[0,1,5])]}
abbrev JE:SD:=⟨.data false (.sl (.lio 0 12288036864) dw)::DI::B::B::B::DI::bs 70 [],zs 76 [],.some (.sl (.own (some 12288036864)) dw)⟩
def Wc {R:Type}(X:SD.D JE)(K:Ex→AS→Option R):=Pu.qB (λy0 y1 y2 y3=>ke 0 K JE ((w y0 (w y1 (u y2)) X.1),X.2.1,y3))
def acV:bG:=dT JE Wc (λX=>(X.1.1,X.1.2.1,q2 X,X.2.2))
def aff:bN:=(bN.nil).add 2 acV
theorem aa6:dP E air akd aff (az Tryz.f114 0):=lk JE Wc (λX=>(X.1.1,X.1.2.1,q2 X,X.2.2)) λX x=>((w x.1 (w x.2.1 (u x.2.2.1)) X.1),X.2.1,x.2.2.2)
theorem arC:aA Tryz.prog 114 agO:=aA.Ar (Ao (Γ:=air) (an:=akd) (Λ:=aff) (base) Tryz.func114 (by kernel_rfl) (hF (by kernel_rfl) (cF aa6 nF))) (λx a=>by kernel_rfl)
def agP:aD:=rC (.sl cS) false [pI] [rI] λx a=>Pu.qE x a.1
def ais:bH:=bH.nil
def ake:An:={mask:=mk [(2,[0,1,5])]}
abbrev JF:SD:=⟨.data false (.sl (.lio 0 12288036864) cS)::DI::B::B::B::DI::bs 61 [],zs 67 [],.some (.sl (.own (some 12288036864)) cS)⟩
def Wd {R:Type}(X:SD.D JF)(K:Ex→AS→Option R):=Pu.qF (λy0 y1 y2 y3=>ke 0 K JF ((w y0 (w y1 (u y2)) X.1),X.2.1,y3))
def acW:bG:=dT JF Wd (λX=>(X.1.1,X.1.2.1,q2 X,X.2.2))
def afg:bN:=(bN.nil).add 2 acW
theorem aa7:dP E ais ake afg (az Tryz.f115 0):=lk JF Wd (λX=>(X.1.1,X.1.2.1,q2 X,X.2.2)) λX x=>((w x.1 (w x.2.1 (u x.2.2.1)) X.1),X.2.1,x.2.2.2)
theorem arD:aA Tryz.prog 115 agP:=aA.Ar (Ao (Γ:=ais) (an:=ake) (Λ:=afg) (base) Tryz.func115 (by kernel_rfl) (hF (by kernel_rfl) (cF aa7 nF))) (λx a=>by kernel_rfl)
def agQ:aD:=rC (.sl cu) false [pI] [rI] λx a=>Pu.na x a.1
def ait:bH:=bH.nil.add 116 Kr
def akg:An:={mask:=mk [(2,[0,1,5])]}
abbrev JH:SD:=⟨.data false (.sl (.lio 0 12288036864) cu)::DI::B::B::B::DI::bs 71 [],zs 77 [],.some (.sl (.own (some 12288036864)) cu)⟩
def Wf {R:Type}(X:SD.D JH)(K:Ex→AS→Option R):=Pu.nH (λy0 y1 y2 y3=>ke 0 K JH ((w y0 (w y1 (u y2)) X.1),X.2.1,y3))
def acY:bG:=dT JH Wf (λX=>(X.1.1,X.1.2.1,q2 X,X.2.2))
def afi:bN:=(bN.nil).add 2 acY
theorem aa9:dP E ait akg afi (az Tryz.f117 0):=lk JH Wf (λX=>(X.1.1,X.1.2.1,q2 X,X.2.2)) λX x=>((w x.1 (w x.2.1 (u x.2.2.1)) X.1),X.2.1,x.2.2.2)
theorem arE:aA Tryz.prog 117 agQ:=aA.Ar (Ao (Γ:=ait) (an:=akg) (Λ:=afi) (base.add Nr) Tryz.func117 (by kernel_rfl) (hF (by kernel_rfl) (cF aa9 nF))) (λx a=>by kernel_rfl)
def e48:aD:=rC (.sl cv) false [pI] [rI] λx a=>Pu.u9 x a.1
def g48:bH:=(((((((((((bH.nil.add 52 e52).add 53 e53).add 108 agI).add 109 agJ).add 110 agK).add 111 agL).add 112 agM).add 113 agN).add 114 agO).add 115 agP).add 116 Kr).add 117 agQ
def n48:An:={mask:=mk [(2,[0,1,5])],nest:=[17,24,96,104,119,126,133,140,166,174,183,202,209,225,232,239]}
abbrev QO:SD:=⟨.data false (.sl (.lio 0 12288036864) cv)::DI::B::B::B::DI::bs 277 [],zs 283 [],.some (.sl (.own (some 12288036864)) cv)⟩
def Z0 {R:Type}(X:SD.D QO)(K:Ex→AS→Option R):=Pu.qw (λy0 y1 y2 y3=>ke 0 K QO ((w y0 (w y1 (u y2)) X.1),X.2.1,y3))
def ajH:bG:=dT QO Z0 (λX=>(X.1.1,X.1.2.1,q2 X,X.2.2))
def L48:bN:=(bN.nil).add 2 ajH
theorem aiY:dP E g48 n48 L48 (az Tryz.f48 0):=lk QO Z0 (λX=>(X.1.1,X.1.2.1,q2 X,X.2.2)) λX x=>((w x.1 (w x.2.1 (u x.2.2.1)) X.1),X.2.1,x.2.2.2)
theorem o48:aA Tryz.prog 48 e48:=aA.Ar (Ao (Γ:=g48) (an:=n48) (Λ:=L48) ((((((((((((base.add o52).add o53).add arw).add arx).add ary).add arz).add arA).add arB).add arC).add arD).add Nr).add arE) Tryz.func48 (by kernel_rfl) (hF (by kernel_rfl) (cF aiY nF))) (λx a=>by kernel_rfl)
def e49:aD:=rC (.sl aC) false [pI] [rI] λx a=>Pu.im x a.1
def g49:bH:=bH.nil
def n49:An:={mask:=mk [(2,[0,1,5])]}
abbrev QP:SD:=⟨.data false (.sl (.lio 0 12288036864) aC)::DI::B::B::B::DI::bs 68 [],zs 74 [],.some (.sl (.own (some 12288036864)) aC)⟩
def Z1 {R:Type}(X:SD.D QP)(K:Ex→AS→Option R):=Pu.gx (λy0 y1 y2 y3=>ke 0 K QP ((w y0 (w y1 (u y2)) X.1),X.2.1,y3))
def ajI:bG:=dT QP Z1 (λX=>(X.1.1,X.1.2.1,q2 X,X.2.2))
def L49:bN:=(bN.nil).add 2 ajI
theorem aiZ:dP E g49 n49 L49 (az Tryz.f49 0):=lk QP Z1 (λX=>(X.1.1,X.1.2.1,q2 X,X.2.2)) λX x=>((w x.1 (w x.2.1 (u x.2.2.1)) X.1),X.2.1,x.2.2.2)
theorem o49:aA Tryz.prog 49 e49:=aA.Ar (Ao (Γ:=g49) (an:=n49) (Λ:=L49) (base) Tryz.func49 (by kernel_rfl) (hF (by kernel_rfl) (cF aiZ nF))) (λx a=>by kernel_rfl)
def e50:aD:=rC (.sl bq) false [pI] [rI] λx a=>Pu.qx x a.1
def g50:bH:=bH.nil.add 52 e52
def n50:An:={mask:=mk [(2,[0,1,5])],nest:=[35]}
abbrev QQ:SD:=⟨.data false (.sl (.lio 0 12288036864) bq)::DI::B::B::B::DI::bs 54 [],zs 60 [],.some (.sl (.own (some 12288036864)) bq)⟩
def Z2 {R:Type}(X:SD.D QQ)(K:Ex→AS→Option R):=Pu.mh (λy0 y1 y2 y3=>ke 0 K QQ ((w y0 (w y1 (u y2)) X.1),X.2.1,y3))
def ajJ:bG:=dT QQ Z2 (λX=>(X.1.1,X.1.2.1,q2 X,X.2.2))
def L50:bN:=(bN.nil).add 2 ajJ
theorem ai0:dP E g50 n50 L50 (az Tryz.f50 0):=lk QQ Z2 (λX=>(X.1.1,X.1.2.1,q2 X,X.2.2)) λX x=>((w x.1 (w x.2.1 (u x.2.2.1)) X.1),X.2.1,x.2.2.2)
theorem o50:aA Tryz.prog 50 e50:=aA.Ar (Ao (Γ:=g50) (an:=n50) (Λ:=L50) (base.add o52) Tryz.func50 (by kernel_rfl) (hF (by kernel_rfl) (cF ai0 nF))) (λx a=>by kernel_rfl)
def e51:aD:=rC (.sl .str) true [pI] [rI] λx a=>Pu.qv x a.1
theorem o51:aA Tryz.prog 51 e51:=aA.Ar (Ao (an:={}) (Λ:=bN.nil) (base.add o53) Tryz.func51 (by kernel_rfl) (hF (by kernel_rfl) nF)) (λx a=>by kernel_rfl)
def e11:aD:=rC dQ true [pI] [rI] λx a=>Pu.n4 x a.1
theorem o11:aA Tryz.prog 11 e11:=aA.Ar (Ao (an:={}) (Λ:=bN.nil) ((((((base.add o48).add o49).add o50).add o51).add o52).add o53) Tryz.func11 (by kernel_rfl) (hF (by kernel_rfl) nF)) (λx a=>by kernel_rfl)
def e58:aD:=au [pd (.sl (.int .i64)),pI] [rI] (c2 Pu.cP)
def g58:bH:=bH.nil
def n58:An:={mask:=mk [(2,[0,1,4,5])]}
abbrev L3:SD:=⟨.data false (.sl .arg (.int .i64))::DI::B::B::DI::DI::bs 15 [],zs 21 [],.none⟩
def Z8 {R:Type}(X:SD.D L3)(K:Ex→AS→Option R):=Pu.jF (λy0 y1=>ke 0 K L3 ((z1 (w y0 (z1 (u y1))) X.1),X.2)) (λy0 y1 y2=>kr K L3 ((z1 (w y0 (w y1 (u y2))) X.1),X.2)) X.1.1 (q2 X)
def ajP:bG:=dT L3 Z8 (λX=>(X.1.2.1,q3 X))
def L58:bN:=(bN.nil).add 2 ajP
theorem ai6:dP E g58 n58 L58 (az Tryz.f58 0):=lk L3 Z8 (λX=>(X.1.2.1,q3 X)) λX x=>((z1 (w x.1 (z1 (u x.2))) X.1),X.2)
theorem o58:aA Tryz.prog 58 e58:=fk n58 base Tryz.func58 (Λ:=L58) (cF ai6 nF)
def e59:aD:=au [pd (.sl .str),pI] [rI] (c2 Pu.fi)
def g59:bH:=bH.nil.add 116 Kr
def n59:An:={mask:=mk [(2,[0,1,4,5])]}
abbrev L4:SD:=⟨.data false (.sl .arg .str)::DI::B::B::DI::DI::bs 16 [],zs 22 [],.none⟩
def Z9 {R:Type}(X:SD.D L4)(K:Ex→AS→Option R):=Pu.gH (λy0 y1=>ke 0 K L4 ((z1 (w y0 (z1 (u y1))) X.1),X.2)) (λy0 y1 y2=>kr K L4 ((z1 (w y0 (w y1 (u y2))) X.1),X.2)) X.1.1 (q2 X)
def ajQ:bG:=dT L4 Z9 (λX=>(X.1.2.1,q3 X))
def L59:bN:=(bN.nil).add 2 ajQ
theorem ai7:dP E g59 n59 L59 (az Tryz.f59 0):=lk L4 Z9 (λX=>(X.1.2.1,q3 X)) λX x=>((z1 (w x.1 (z1 (u x.2))) X.1),X.2)
theorem o59:aA Tryz.prog 59 e59:=fk n59 (base.add Nr) Tryz.func59 (Λ:=L59) (cF ai7 nF)
def agR:aD:=au [pd (.sl bg),pI] [rI] (c2 Pu.lE)
def ap4:bH:=bH.nil
def akh:An:={mask:=mk [(2,[0,1,4,5])]}
abbrev EO:SD:=⟨.data false (.sl .arg bg)::DI::B::B::DI::DI::bs 45 [],zs 51 [],.none⟩
def Wg {R:Type}(X:SD.D EO)(K:Ex→AS→Option R):=Pu.me (λy0 y1=>ke 0 K EO ((z1 (w y0 (z1 (u y1))) X.1),X.2)) (λy0 y1 y2=>kr K EO ((z1 (w y0 (w y1 (u y2))) X.1),X.2)) X.1.1 (q2 X)
def acZ:bG:=dT EO Wg (λX=>(X.1.2.1,q3 X))
def afj:bN:=(bN.nil).add 2 acZ
theorem aba:dP E ap4 akh afj (az Tryz.f118 0):=lk EO Wg (λX=>(X.1.2.1,q3 X)) λX x=>((z1 (w x.1 (z1 (u x.2))) X.1),X.2)
theorem arF:aA Tryz.prog 118 agR:=fk akh base Tryz.func118 (Λ:=afj) (cF aba nF)
def agS:aD:=au [pd (.sl dA),pI] [rI] (c2 Pu.qp)
def ap5:bH:=bH.nil.add 58 e58
def aki:An:={mask:=mk [(2,[0,1,4,5])]}
abbrev EP:SD:=⟨.data false (.sl .arg dA)::DI::B::B::DI::DI::bs 34 [],zs 40 [],.none⟩
def Wh {R:Type}(X:SD.D EP)(K:Ex→AS→Option R):=Pu.qq (λy0 y1=>ke 0 K EP ((z1 (w y0 (z1 (u y1))) X.1),X.2)) (λy0 y1 y2=>kr K EP ((z1 (w y0 (w y1 (u y2))) X.1),X.2)) X.1.1 (q2 X)
def ac0:bG:=dT EP Wh (λX=>(X.1.2.1,q3 X))
def afk:bN:=(bN.nil).add 2 ac0
theorem abb:dP E ap5 aki afk (az Tryz.f119 0):=lk EP Wh (λX=>(X.1.2.1,q3 X)) λX x=>((z1 (w x.1 (z1 (u x.2))) X.1),X.2)
theorem arG:aA Tryz.prog 119 agS:=fk aki (base.add o58) Tryz.func119 (Λ:=afk) (cF abb nF)
def agT:aD:=au [pd (.sl bt),pI] [rI] (c2 Pu.lF)
def ap6:bH:=bH.nil.add 116 Kr
def akj:An:={mask:=mk [(2,[0,1,4,5])]}
abbrev ER:SD:=⟨.data false (.sl .arg bt)::DI::B::B::DI::DI::bs 332 [],zs 338 [],.none⟩
def Wi {R:Type}(X:SD.D ER)(K:Ex→AS→Option R):=Pu.mf (λy0 y1=>ke 0 K ER ((z1 (w y0 (z1 (u y1))) X.1),X.2)) (λy0 y1 y2=>kr K ER ((z1 (w y0 (w y1 (u y2))) X.1),X.2)) X.1.1 (q2 X)
def ac1:bG:=dT ER Wi (λX=>(X.1.2.1,q3 X))
def afl:bN:=(bN.nil).add 2 ac1
theorem abc:dP E ap6 akj afl (az Tryz.f120 0):=lk ER Wi (λX=>(X.1.2.1,q3 X)) λX x=>((z1 (w x.1 (z1 (u x.2))) X.1),X.2)
theorem arH:aA Tryz.prog 120 agT:=fk akj (base.add Nr) Tryz.func120 (Λ:=afl) (cF abc nF)
def agU:aD:=au [pd (.sl dF),pI] [rI] (c2 Pu.ql)
def ap7:bH:=bH.nil.add 58 e58
def akk:An:={mask:=mk [(2,[0,1,4,5])]}
abbrev ES:SD:=⟨.data false (.sl .arg dF)::DI::B::B::DI::DI::bs 43 [],zs 49 [],.none⟩
def Wj {R:Type}(X:SD.D ES)(K:Ex→AS→Option R):=Pu.qm (λy0 y1=>ke 0 K ES ((z1 (w y0 (z1 (u y1))) X.1),X.2)) (λy0 y1 y2=>kr K ES ((z1 (w y0 (w y1 (u y2))) X.1),X.2)) X.1.1 (q2 X)
def ac2:bG:=dT ES Wj (λX=>(X.1.2.1,q3 X))
def afm:bN:=(bN.nil).add 2 ac2
theorem abd:dP E ap7 akk afm (az Tryz.f121 0):=lk ES Wj (λX=>(X.1.2.1,q3 X)) λX x=>((z1 (w x.1 (z1 (u x.2))) X.1),X.2)
theorem arI:aA Tryz.prog 121 agU:=fk akk (base.add o58) Tryz.func121 (Λ:=afm) (cF abd nF)
def agV:aD:=au [pd (.sl cl),pI] [rI] (c2 Pu.m9)
def ap8:bH:=bH.nil
def akl:An:={mask:=mk [(2,[0,1,4,5])]}
abbrev ET:SD:=⟨.data false (.sl .arg cl)::DI::B::B::DI::DI::bs 65 [],zs 71 [],.none⟩
def Wk {R:Type}(X:SD.D ET)(K:Ex→AS→Option R):=Pu.nG (λy0 y1=>ke 0 K ET ((z1 (w y0 (z1 (u y1))) X.1),X.2)) (λy0 y1 y2=>kr K ET ((z1 (w y0 (w y1 (u y2))) X.1),X.2)) X.1.1 (q2 X)
def ac3:bG:=dT ET Wk (λX=>(X.1.2.1,q3 X))
def afn:bN:=(bN.nil).add 2 ac3
theorem abe:dP E ap8 akl afn (az Tryz.f122 0):=lk ET Wk (λX=>(X.1.2.1,q3 X)) λX x=>((z1 (w x.1 (z1 (u x.2))) X.1),X.2)
theorem arJ:aA Tryz.prog 122 agV:=fk akl base Tryz.func122 (Λ:=afn) (cF abe nF)
def agW:aD:=au [pd (.sl .bool),pI] [rI] (c2 Pu.qh)
def ap9:bH:=bH.nil
def akm:An:={mask:=mk [(2,[0,1,4,5])]}
abbrev EU:SD:=⟨.data false (.sl .arg .bool)::DI::B::B::DI::DI::bs 17 [],zs 23 [],.none⟩
def Wl {R:Type}(X:SD.D EU)(K:Ex→AS→Option R):=Pu.iK (λy0 y1=>ke 0 K EU ((z1 (w y0 (z1 (u y1))) X.1),X.2)) (λy0 y1 y2=>kr K EU ((z1 (w y0 (w y1 (u y2))) X.1),X.2)) X.1.1 (q2 X)
def ac4:bG:=dT EU Wl (λX=>(X.1.2.1,q3 X))
def afo:bN:=(bN.nil).add 2 ac4
theorem abf:dP E ap9 akm afo (az Tryz.f123 0):=lk EU Wl (λX=>(X.1.2.1,q3 X)) λX x=>((z1 (w x.1 (z1 (u x.2))) X.1),X.2)
theorem arK:aA Tryz.prog 123 agW:=fk akm base Tryz.func123 (Λ:=afo) (cF abf nF)
def agX:aD:=au [pd (.sl dw),pI] [rI] (c2 Pu.qn)
def aqa:bH:=bH.nil
def akn:An:={mask:=mk [(2,[0,1,4,5])]}
abbrev EV:SD:=⟨.data false (.sl .arg dw)::DI::B::B::DI::DI::bs 88 [],zs 94 [],.none⟩
def Wm {R:Type}(X:SD.D EV)(K:Ex→AS→Option R):=Pu.qo (λy0 y1=>ke 0 K EV ((z1 (w y0 (z1 (u y1))) X.1),X.2)) (λy0 y1 y2=>kr K EV ((z1 (w y0 (w y1 (u y2))) X.1),X.2)) X.1.1 (q2 X)
def ac5:bG:=dT EV Wm (λX=>(X.1.2.1,q3 X))
def afp:bN:=(bN.nil).add 2 ac5
theorem abg:dP E aqa akn afp (az Tryz.f124 0):=lk EV Wm (λX=>(X.1.2.1,q3 X)) λX x=>((z1 (w x.1 (z1 (u x.2))) X.1),X.2)
theorem arL:aA Tryz.prog 124 agX:=fk akn base Tryz.func124 (Λ:=afp) (cF abg nF)
def agY:aD:=au [pd (.sl cS),pI] [rI] (c2 Pu.qs)
def aqb:bH:=bH.nil
def ako:An:={mask:=mk [(2,[0,1,4,5])]}
abbrev EW:SD:=⟨.data false (.sl .arg cS)::DI::B::B::DI::DI::bs 75 [],zs 81 [],.none⟩
def Wn {R:Type}(X:SD.D EW)(K:Ex→AS→Option R):=Pu.qt (λy0 y1=>ke 0 K EW ((z1 (w y0 (z1 (u y1))) X.1),X.2)) (λy0 y1 y2=>kr K EW ((z1 (w y0 (w y1 (u y2))) X.1),X.2)) X.1.1 (q2 X)
def ac6:bG:=dT EW Wn (λX=>(X.1.2.1,q3 X))
def afq:bN:=(bN.nil).add 2 ac6
theorem abh:dP E aqb ako afq (az Tryz.f125 0):=lk EW Wn (λX=>(X.1.2.1,q3 X)) λX x=>((z1 (w x.1 (z1 (u x.2))) X.1),X.2)
theorem arM:aA Tryz.prog 125 agY:=fk ako base Tryz.func125 (Λ:=afq) (cF abh nF)
def agZ:aD:=au [pd (.sl cu),pI] [rI] (c2 Pu.m8)
def aqc:bH:=bH.nil.add 116 Kr
def akp:An:={mask:=mk [(2,[0,1,4,5])]}
abbrev EX:SD:=⟨.data false (.sl .arg cu)::DI::B::B::DI::DI::bs 87 [],zs 93 [],.none⟩
def Wo {R:Type}(X:SD.D EX)(K:Ex→AS→Option R):=Pu.nE (λy0 y1=>ke 0 K EX ((z1 (w y0 (z1 (u y1))) X.1),X.2)) (λy0 y1 y2=>kr K EX ((z1 (w y0 (w y1 (u y2))) X.1),X.2)) X.1.1 (q2 X)
def ac7:bG:=dT EX Wo (λX=>(X.1.2.1,q3 X))
def afr:bN:=(bN.nil).add 2 ac7
theorem abi:dP E aqc akp afr (az Tryz.f126 0):=lk EX Wo (λX=>(X.1.2.1,q3 X)) λX x=>((z1 (w x.1 (z1 (u x.2))) X.1),X.2)
theorem arN:aA Tryz.prog 126 agZ:=fk akp (base.add Nr) Tryz.func126 (Λ:=afr) (cF abi nF)
def e54:aD:=au [pd (.sl cv),pI] [rI] (c2 Pu.u7)
def g54:bH:=(((((((((((bH.nil.add 58 e58).add 59 e59).add 116 Kr).add 118 agR).add 119 agS).add 120 agT).add 121 agU).add 122 agV).add 123 agW).add 124 agX).add 125 agY).add 126 agZ
def n54:An:={mask:=mk [(2,[0,1,4,5])]}
abbrev LZ:SD:=⟨.data false (.sl .arg cv)::DI::B::B::DI::DI::bs 343 [],zs 349 [],.none⟩
def Z5 {R:Type}(X:SD.D LZ)(K:Ex→AS→Option R):=Pu.qj (λy0 y1=>ke 0 K LZ ((z1 (w y0 (z1 (u y1))) X.1),X.2)) (λy0 y1 y2=>kr K LZ ((z1 (w y0 (w y1 (u y2))) X.1),X.2)) X.1.1 (q2 X)
def ajM:bG:=dT LZ Z5 (λX=>(X.1.2.1,q3 X))
def L54:bN:=(bN.nil).add 2 ajM
theorem ai3:dP E g54 n54 L54 (az Tryz.f54 0):=lk LZ Z5 (λX=>(X.1.2.1,q3 X)) λX x=>((z1 (w x.1 (z1 (u x.2))) X.1),X.2)
theorem o54:aA Tryz.prog 54 e54:=fk n54 ((((((((((((base.add o58).add o59).add Nr).add arF).add arG).add arH).add arI).add arJ).add arK).add arL).add arM).add arN) Tryz.func54 (Λ:=L54) (cF ai3 nF)
def e55:aD:=au [pd (.sl aC),pI] [rI] (c2 Pu.il)
def g55:bH:=bH.nil
def n55:An:={mask:=mk [(2,[0,1,4,5])]}
abbrev L1:SD:=⟨.data false (.sl .arg aC)::DI::B::B::DI::DI::bs 84 [],zs 90 [],.none⟩
def Z6 {R:Type}(X:SD.D L1)(K:Ex→AS→Option R):=Pu.gw (λy0 y1=>ke 0 K L1 ((z1 (w y0 (z1 (u y1))) X.1),X.2)) (λy0 y1 y2=>kr K L1 ((z1 (w y0 (w y1 (u y2))) X.1),X.2)) X.1.1 (q2 X)
def ajN:bG:=dT L1 Z6 (λX=>(X.1.2.1,q3 X))
def L55:bN:=(bN.nil).add 2 ajN
theorem ai4:dP E g55 n55 L55 (az Tryz.f55 0):=lk L1 Z6 (λX=>(X.1.2.1,q3 X)) λX x=>((z1 (w x.1 (z1 (u x.2))) X.1),X.2)
theorem o55:aA Tryz.prog 55 e55:=fk n55 base Tryz.func55 (Λ:=L55) (cF ai4 nF)
def e56:aD:=au [pd (.sl bq),pI] [rI] (c2 Pu.qk)
def g56:bH:=bH.nil.add 58 e58
def n56:An:={mask:=mk [(2,[0,1,4,5])]}
abbrev L2:SD:=⟨.data false (.sl .arg bq)::DI::B::B::DI::DI::bs 66 [],zs 72 [],.none⟩
def Z7 {R:Type}(X:SD.D L2)(K:Ex→AS→Option R):=Pu.md (λy0 y1=>ke 0 K L2 ((z1 (w y0 (z1 (u y1))) X.1),X.2)) (λy0 y1 y2=>kr K L2 ((z1 (w y0 (w y1 (u y2))) X.1),X.2)) X.1.1 (q2 X)
def ajO:bG:=dT L2 Z7 (λX=>(X.1.2.1,q3 X))
def L56:bN:=(bN.nil).add 2 ajO
theorem ai5:dP E g56 n56 L56 (az Tryz.f56 0):=lk L2 Z7 (λX=>(X.1.2.1,q3 X)) λX x=>((z1 (w x.1 (z1 (u x.2))) X.1),X.2)
theorem o56:aA Tryz.prog 56 e56:=fk n56 (base.add o58) Tryz.func56 (Λ:=L56) (cF ai5 nF)
def e57:aD:=au [pf (.sl .str),pI] [rI] (c2 Pu.qi)
theorem o57:aA Tryz.prog 57 e57:=f0 {} (base.add o59) Tryz.func57
def e12:aD:=au [pf dQ,pI] [rI] (c2 Pu.k8)
theorem o12:aA Tryz.prog 12 e12:=f0 {} ((((((base.add o54).add o55).add o56).add o57).add o58).add o59) Tryz.func12
abbrev jc:List PS:=[pf dQ,pI,pf cd]
def nL:aD:=au jc [rB] (c3 Pu.kt)
theorem wE:aA Tryz.prog 3 nL:=f0 {merge:=mg [(17,57)],sb:=mg [(8,8),(10,10),(14,14)]} (((((((((base.add o4).add o5).add o6).add o7).add o8).add o9).add o10).add o11).add o12) Tryz.func3
end
end Go.Proofs.YtjoicgadhgkphacGreat.Fn
