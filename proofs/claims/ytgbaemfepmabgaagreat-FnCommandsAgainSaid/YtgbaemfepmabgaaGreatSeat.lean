import Derived.Test.YtgbaemfepmabgaaGreatDnSig
import Derived.Test.YtgbaemfepmabgaaGreatPure
import Derived.Test.YtgbaemfepmabgaaGreatRows
/- Each function of the program is its pure function (made by gen.py). -/
namespace Go.Proofs.YtgbaemfepmabgaaGreat.Fn
open Go.Dn
open Go.Pu (cD jF Tp lS ma pg fO vw KX dw Gd iJ im il l9 rV Dc I2 fV jW jX jn bP cP rU P8 ej jo sq um HY To NR)
set_option maxRecDepth 100000
set_option linter.unusedVariables false
noncomputable section
abbrev B:PD:=.bot
abbrev DI:PD:=.data false (.int .i64)
abbrev DB:PD:=.data false .bool
abbrev Z:Option FT:=none
theorem nF {p:Code→Prop}:∀x∈([]:List Code),p x:=λ_ h=>nomatch h
theorem cF {p:Code→Prop}{a:Code}{l:List Code}(h:p a)(t:∀x∈l,p x):∀x∈a::l,p x:=List.forall_mem_cons.2 ⟨h,t⟩
theorem hF {p:Code→Prop}{l m:List Code}(e:l=m)(h:∀x∈m,p x):∀x∈l,p x:=e▸h
theorem fk {P:Program}{E:Env}{Γ:cG}{s:List PS}{rs:List (Bool×FT)}{F:sn s→Option (fL rs)}{f:Nat}{fn:Func}(an:An)(hS:Sound P E Γ)(hf:P.funcs[f]?=some fn){Λ:c7}{l:List Code}(h:∀c∈l,gE E Γ an Λ c)(hn:(fn.name== "runtime.NumGoroutine")=false:=by kernel_rfl)(hl:eM (fn.body.getD .skip)=l:=by kernel_rfl)(hcut:an.cut=[]:=by kernel_rfl)(hF:∀a,yl E Γ an Λ fn rs (fQ s a)=F a:=by intro a;kernel_rfl):aR P f (aP s rs F):=aR.of (Qq hS hf hn (qL.of (Fn.hF hl h) hcut)) hF
theorem ao {E:Env}{Γ:cG}{an:An}{Λ:c7}{b:Code}{l:List Code}(h:∀c∈l,gE E Γ an Λ c)(hl:eM b=l:=by kernel_rfl)(hc:an.cut=[]:=by kernel_rfl):qL E Γ an Λ b:=qL.of (Fn.hF hl h) hc
theorem ac {E:Env}{Γ:cG}{an:An}{Λ:c7}{b:Code}{l m:List Code}(h:∀c∈l,gE E Γ an Λ c)(hc:∀c∈m,zP E Γ an Λ c)(hl:eM b=l:=by kernel_rfl)(hm:fH an.cut b=m:=by kernel_rfl):qL E Γ an Λ b:=⟨Fn.hF hl h,Fn.hF hm hc⟩
theorem fc {P:Program}{E:Env}{Γ:cG}{s:List PS}{rs:List (Bool×FT)}{F:sn s→Option (fL rs)}{f:Nat}{fn:Func}(an:An)(hS:Sound P E Γ)(hf:P.funcs[f]?=some fn){Λ:c7}{l m:List Code}(h:∀c∈l,gE E Γ an Λ c)(hc:∀c∈m,zP E Γ an Λ c)(hn:(fn.name== "runtime.NumGoroutine")=false:=by kernel_rfl)(hl:eM (fn.body.getD .skip)=l:=by kernel_rfl)(hm:fH an.cut (fn.body.getD .skip)=m:=by kernel_rfl)(hF:∀a,yl E Γ an Λ fn rs (fQ s a)=F a:=by intro a;kernel_rfl):aR P f (aP s rs F):=aR.of (Qq hS hf hn ⟨Fn.hF hl h,Fn.hF hm hc⟩) hF
abbrev pd (t:CT):PS:=.data false t
abbrev pf (t:CT):PS:=.data true t
abbrev pI:PS:=.data false (.int .i64)
abbrev rB:Bool×FT:=(false,.bool)
abbrev rI:Bool×FT:=(false,.int .i64)
abbrev rS:Bool×FT:=(false,.str)
abbrev bs:Nat→List PD→List PD|0,l=>l|n+1,l=> .bot::bs n l
abbrev zs:Nat→List (Option FT)→List (Option FT)|0,l=>l|n+1,l=>none::zs n l
def mk (l:List (Nat×List Nat))(n:Nat):List Nat:=(l.lookup n).getD []
def mg (l:List (Nat×Nat))(n:Nat):Option Nat:=l.lookup n
def ke {R:Type}(n:Nat)(K:Ex→AS→Option R)(d:SD)(x:SD.D d):Option R:=K (.exit n) (SD.enc d x)
def kn {R:Type}(K:Ex→AS→Option R)(d:SD)(x:SD.D d):Option R:=K .normal (SD.enc d x)
def kr {R:Type}(K:Ex→AS→Option R)(d:SD)(x:SD.D d):Option R:=K .ret (SD.enc d x)
def iI {σ:Type}(d:SD)(t:{R:Type}→SD.D d→(Ex→AS→Option R)→(σ→Option R)→σ→Option R)(i:SD.D d→σ):cv:=⟨d,λX K=>bc (t X K) fuel (i X)⟩
theorem lk {E:Env}{Γ:cG}{an:An}{Λ:c7}{c:Code}{σ:Type}(d:SD)(t:{R:Type}→SD.D d→(Ex→AS→Option R)→(σ→Option R)→σ→Option R)(i:SD.D d→σ)(w:SD.D d→σ→SD.D d)(h1:Λ (dj c)=iI d t i:=by kernel_rfl)(h:∀(R:Type)(X:SD.D d)(K:Ex→AS→Option R)(m:Nat)(x:σ),sg (an.mask (dj c)) (den E Γ an Λ c) (m+1) (SD.enc d (w X x)) K=t X K (λy=>sg (an.mask (dj c)) (den E Γ an Λ c) m (SD.enc d (w X y)) K) x:=by intro R X K m x;kernel_rfl)(hw:∀X,w X (i X)=X:=by intro X;kernel_rfl):gE E Γ an Λ c:=lok (iI d t i) h1 fuel λR X K=>(Bb (λx=>SD.enc d (w X x)) (t X K) (h R X K) fuel (i X)).symm.trans (congrArg (λy=>sg (an.mask (dj c)) (den E Γ an Λ c) fuel (SD.enc d y) K) (hw X))
def CD (d:SD)(t:{R:Type}→SD.D d→(Ex→AS→Option R)→Option R):cv:=⟨d,λX K=>t X K⟩
theorem ck {E:Env}{Γ:cG}{an:An}{Λ:c7}{c:Code}(d:SD)(t:{R:Type}→SD.D d→(Ex→AS→Option R)→Option R)(h1:Λ (sv c)=CD d t:=by kernel_rfl)(h:∀(R:Type)(X:SD.D d)(K:Ex→AS→Option R),t X K=den E Γ an Λ c (SD.enc d X) (λe st'=>K e (st'.mask (an.mask (sv c+1)))):=by intro R X K;kernel_rfl):zP E Γ an Λ c:=cok (CD d t) h1 h
def u {A B:Type}(y:A)(x:A×B):A×B:=(y,x.2)
def w {A B:Type}(y:A)(f:B→B)(x:A×B):A×B:=(y,f x.2)
def z1 {A0 B:Type}(f:B→B)(x:A0×B):A0×B:=(x.1,f x.2)
def z2 {A0 A1 B:Type}(f:B→B)(x:A0×A1×B):A0×A1×B:=(x.1,x.2.1,f x.2.2)
def z3 {A0 A1 A2 B:Type}(f:B→B)(x:A0×A1×A2×B):A0×A1×A2×B:=(x.1,x.2.1,x.2.2.1,f x.2.2.2)
def z4 {A0 A1 A2 A3 B:Type}(f:B→B)(x:A0×A1×A2×A3×B):A0×A1×A2×A3×B:=(x.1,x.2.1,x.2.2.1,x.2.2.2.1,f x.2.2.2.2)
def z5 {A0 A1 A2 A3 A4 B:Type}(f:B→B)(x:A0×A1×A2×A3×A4×B):A0×A1×A2×A3×A4×B:=(x.1,x.2.1,x.2.2.1,x.2.2.2.1,x.2.2.2.2.1,f x.2.2.2.2.2)
def z6 {A0 A1 A2 A3 A4 A5 B:Type}(f:B→B)(x:A0×A1×A2×A3×A4×A5×B):A0×A1×A2×A3×A4×A5×B:=(x.1,x.2.1,x.2.2.1,x.2.2.2.1,x.2.2.2.2.1,x.2.2.2.2.2.1,f x.2.2.2.2.2.2)
def z7 {A0 A1 A2 A3 A4 A5 A6 B:Type}(f:B→B)(x:A0×A1×A2×A3×A4×A5×A6×B):A0×A1×A2×A3×A4×A5×A6×B:=(x.1,x.2.1,x.2.2.1,x.2.2.2.1,x.2.2.2.2.1,x.2.2.2.2.2.1,x.2.2.2.2.2.2.1,f x.2.2.2.2.2.2.2)
def z8 {A0 A1 A2 A3 A4 A5 A6 A7 B:Type}(f:B→B)(x:A0×A1×A2×A3×A4×A5×A6×A7×B):A0×A1×A2×A3×A4×A5×A6×A7×B:=(x.1,x.2.1,x.2.2.1,x.2.2.2.1,x.2.2.2.2.1,x.2.2.2.2.2.1,x.2.2.2.2.2.2.1,x.2.2.2.2.2.2.2.1,f x.2.2.2.2.2.2.2.2)
def q2 {A0 A1 A2 B C:Type}(x:(A0×A1×A2×B)×C):A2:=x.1.2.2.1
def q3 {A0 A1 A2 A3 B C:Type}(x:(A0×A1×A2×A3×B)×C):A3:=x.1.2.2.2.1
def q4 {A0 A1 A2 A3 A4 B C:Type}(x:(A0×A1×A2×A3×A4×B)×C):A4:=x.1.2.2.2.2.1
def q5 {A0 A1 A2 A3 A4 A5 B C:Type}(x:(A0×A1×A2×A3×A4×A5×B)×C):A5:=x.1.2.2.2.2.2.1
def q6 {A0 A1 A2 A3 A4 A5 A6 B C:Type}(x:(A0×A1×A2×A3×A4×A5×A6×B)×C):A6:=x.1.2.2.2.2.2.2.1
def q7 {A0 A1 A2 A3 A4 A5 A6 A7 B C:Type}(x:(A0×A1×A2×A3×A4×A5×A6×A7×B)×C):A7:=x.1.2.2.2.2.2.2.2.1
def q8 {A0 A1 A2 A3 A4 A5 A6 A7 A8 B C:Type}(x:(A0×A1×A2×A3×A4×A5×A6×A7×A8×B)×C):A8:=x.1.2.2.2.2.2.2.2.2.1
def q9 {A0 A1 A2 A3 A4 A5 A6 A7 A8 A9 B C:Type}(x:(A0×A1×A2×A3×A4×A5×A6×A7×A8×A9×B)×C):A9:=x.1.2.2.2.2.2.2.2.2.2.1
def NO {A0 A1 A2 A3 A4 A5 A6 A7 A8 A9 A10 B C:Type}(x:(A0×A1×A2×A3×A4×A5×A6×A7×A8×A9×A10×B)×C):A10:=x.1.2.2.2.2.2.2.2.2.2.2.1
def c1 {A0 B R:Type}(f:A0→R)(a:A0×B):R:=f a.1
def c2 {A0 A1 B R:Type}(f:A0→A1→R)(a:A0×A1×B):R:=f a.1 a.2.1
def c3 {A0 A1 A2 B R:Type}(f:A0→A1→A2→R)(a:A0×A1×A2×B):R:=f a.1 a.2.1 a.2.2.1
def c4 {A0 A1 A2 A3 B R:Type}(f:A0→A1→A2→A3→R)(a:A0×A1×A2×A3×B):R:=f a.1 a.2.1 a.2.2.1 a.2.2.2.1
def c5 {A0 A1 A2 A3 A4 B R:Type}(f:A0→A1→A2→A3→A4→R)(a:A0×A1×A2×A3×A4×B):R:=f a.1 a.2.1 a.2.2.1 a.2.2.2.1 a.2.2.2.2.1
def c6 {A0 A1 A2 A3 A4 A5 B R:Type}(f:A0→A1→A2→A3→A4→A5→R)(a:A0×A1×A2×A3×A4×A5×B):R:=f a.1 a.2.1 a.2.2.1 a.2.2.2.1 a.2.2.2.2.1 a.2.2.2.2.2.1
theorem f0 {P:Program}{E:Env}{Γ:cG}{s:List PS}{rs:List (Bool×FT)}{F:sn s→Option (fL rs)}{f:Nat}{fn:Func}(an:An)(hS:Sound P E Γ)(hf:P.funcs[f]?=some fn)(hn:(fn.name== "runtime.NumGoroutine")=false:=by kernel_rfl)(hl:eM (fn.body.getD .skip)=[]:=by kernel_rfl)(hcut:an.cut=[]:=by rfl)(hF:∀a,yl E Γ an c7.nil fn rs (fQ s a)=F a:=by intro a;kernel_rfl):aR P f (aP s rs F):=aR.of (Qq hS hf hn (qL.of (Fn.hF hl nF) hcut)) hF
abbrev Y0:FT:=.pair (.int .i64) (.pair (.int .i64) (.pair (.int .i64) (.pair (.int .i64) (.pair (.int .i64) (.pair (.int .i64) (.pair (.int .i64) (.pair (.int .i64) (.pair (.int .i64) (.pair (.int .i64) (.pair (.int .i64) (.pair (.int .i64) (.pair (.int .i64) (.pair (.int .i64) (.pair (.int .i64) .str))))))))))))))
abbrev NL:FT:=.pair (.int .i64) (.pair (.int .i64) (.int .i64))
abbrev Y1:FT:=.pair (.int .i64) NL
abbrev Y2:FT:=.pair (.sl .arg0 (.int .u8)) (.pair (.int .i64) (.int .i64))
abbrev Y3:FT:=.pair (.sl (.own (some 24577)) jn) (.pair (.sl (.own (some 24580)) bP) (.pair (.sl (.own (some 24583)) cP) (.pair (.sl (.own (some 24586)) .str) (.pair Y1 (.pair (.sl (.own (some 24601)) (.int .i64)) (.sl (.own (some 24604)) .str))))))
abbrev Tq:FT:=.pair (.int .i64) (.pair (.int .i64) (.pair (.int .i64) (.sl .arg (.int .i64))))
abbrev SJ:FT:=.pair (.int .i64) (.pair .bool (.sl .arg (.int .i64)))
abbrev SI:FT:=.pair (.sl .arg l9) (.pair (.sl .arg fV) (.pair .str (.sl .arg (.int .i64))))
abbrev Y4:FT:=.pair (.sl .arg .str) (.pair (.sl .arg cD) (.pair (.pair Y1 (.pair Tq (.pair (.sl .arg ma) (.int .i64)))) (.pair (.sl .arg iJ) (.pair (.sl .arg lS) (.pair (.sl .arg im) (.pair (.sl .arg .bool) (.pair SJ (.pair SI (.pair (.sl .arg jX) (.pair .bool (.pair (.sl .arg .str) (.pair (.sl .arg (.int .i64)) (.pair (.sl .arg (.int .i64)) (.pair (.int .i64) Y1))))))))))))))
abbrev Y5:FT:=.pair (.int .i64) (.pair (.int .i64) (.pair (.pair (.int .i64) (.pair Y0 (.pair (.int .i64) (.pair (.int .i64) (.pair .str (.int .i64)))))) (.pair NL (.pair .str (.int .i64)))))
abbrev Y6:FT:=.pair (.sl (.own (some 196609)) .str) (.pair (.sl (.own (some 196612)) cD) (.pair (.pair Y1 (.pair (.pair (.int .i64) (.pair (.int .i64) (.pair (.int .i64) (.sl (.own (some 196636)) (.int .i64))))) (.pair (.sl (.own (some 196639)) ma) (.int .i64)))) (.pair (.sl (.own (some 196645)) iJ) (.pair (.sl (.own (some 196648)) lS) (.pair (.sl (.own (some 196651)) im) (.pair (.sl (.own (some 196654)) .bool) (.pair (.pair (.int .i64) (.pair .bool (.sl (.own (some 196663)) (.int .i64)))) (.pair (.pair (.sl (.own (some 196666)) l9) (.pair (.sl (.own (some 196669)) fV) (.pair .str (.sl (.own (some 196675)) (.int .i64))))) (.pair (.sl (.own (some 196678)) jX) (.pair .bool (.pair (.sl (.own (some 196684)) .str) (.pair (.sl (.own (some 196687)) (.int .i64)) (.pair (.sl (.own (some 196690)) (.int .i64)) (.pair (.int .i64) Y1))))))))))))))
abbrev Y7:FT:=.pair (.sl (.own (some 147457)) .str) (.pair (.sl (.own (some 147460)) cD) (.pair (.pair Y1 (.pair (.pair (.int .i64) (.pair (.int .i64) (.pair (.int .i64) (.sl (.own (some 147484)) (.int .i64))))) (.pair (.sl (.own (some 147487)) ma) (.int .i64)))) (.pair (.sl (.own (some 147493)) iJ) (.pair (.sl (.own (some 147496)) lS) (.pair (.sl (.own (some 147499)) im) (.pair (.sl (.own (some 147502)) .bool) (.pair (.pair (.int .i64) (.pair .bool (.sl (.own (some 147511)) (.int .i64)))) (.pair (.pair (.sl (.own (some 147514)) l9) (.pair (.sl (.own (some 147517)) fV) (.pair .str (.sl (.own (some 147523)) (.int .i64))))) (.pair (.sl (.own (some 147526)) jX) (.pair .bool (.pair (.sl (.own (some 147532)) .str) (.pair (.sl (.own (some 147535)) (.int .i64)) (.pair (.sl (.own (some 147538)) (.int .i64)) (.pair (.int .i64) Y1))))))))))))))
abbrev Y8:FT:=.pair (.sl (.own none) jn) (.pair (.sl (.own none) bP) (.pair (.sl (.own none) cP) (.pair (.sl (.own none) .str) (.pair Y1 (.pair (.sl (.own none) (.int .i64)) (.sl (.own none) .str))))))
abbrev SH:FT:=.pair (.int .i64) (.pair (.int .i64) (.pair (.int .i64) (.sl (.own none) (.int .i64))))
abbrev WX:FT:=.pair Y1 (.pair SH (.pair (.sl (.own none) ma) (.int .i64)))
abbrev K0:FT:=.pair (.int .i64) (.pair .bool (.sl (.own none) (.int .i64)))
abbrev WW:FT:=.pair (.sl (.own none) l9) (.pair (.sl (.own none) fV) (.pair .str (.sl (.own none) (.int .i64))))
abbrev Y9:FT:=.pair (.sl (.own none) .str) (.pair (.sl (.own none) cD) (.pair WX (.pair (.sl (.own none) iJ) (.pair (.sl (.own none) lS) (.pair (.sl (.own none) im) (.pair (.sl (.own none) .bool) (.pair K0 (.pair WW (.pair (.sl (.own none) jX) (.pair .bool (.pair (.sl (.own none) .str) (.pair (.sl (.own none) (.int .i64)) (.pair (.sl (.own none) (.int .i64)) (.pair (.int .i64) Y1))))))))))))))
abbrev WV:FT:=.pair (.int .i64) (.pair (.int .i64) (.pair (.int .i64) (.pair (.int .i64) (.pair .bool .bool))))
def E:Env:={ty:=[(3,⟨false,(.int .i64),[]⟩),(4,⟨false,.bool,[]⟩),(5,⟨false,(.int .u8),[]⟩),(9,⟨false,.str,[]⟩),(22,⟨false,(.sl (.int .u8)),[(5,0)]⟩),(24,⟨false,(.sl jn),[(87,0)]⟩),(25,⟨false,(.sl bP),[(178,0)]⟩),(26,⟨false,(.sl cP),[(42,0)]⟩),(27,⟨false,(.sl .str),[(9,0)]⟩),(29,⟨true,(.sl .str),[(0,1)]⟩),(31,⟨true,jF,[(0,1),(1,1),(2,1),(3,1)]⟩),(32,⟨false,(.sl (.int .i64)),[(3,0)]⟩),(34,⟨true,rU,[(0,1),(1,1),(2,1),(3,1),(4,4),(8,1),(9,1)]⟩),(35,⟨false,(.sl ej),[(58,0)]⟩),(40,⟨true,il,[(0,1),(1,1),(2,1)]⟩),(42,⟨true,cP,[(0,3),(3,1),(4,1),(5,1)]⟩),(44,⟨true,fO,[(0,1),(1,1),(2,1)]⟩),(47,⟨false,(.sl jo),[(102,0)]⟩),(52,⟨true,sq,[(0,1),(1,1),(2,1),(3,1),(4,1),(5,1),(6,1),(7,1)]⟩),(54,⟨true,dw,[(0,1),(1,1),(2,1),(3,1),(4,1),(5,1),(6,1),(7,1),(8,8)]⟩),(56,⟨true,P8,[(0,1),(1,16),(17,1),(18,1),(19,1),(20,1)]⟩),(58,⟨true,ej,[(0,1),(1,1),(2,21),(23,3),(26,1),(27,1)]⟩),(62,⟨true,(.sl .str),[(0,1)]⟩),(63,⟨false,(.sl cD),[(125,0)]⟩),(65,⟨true,jF,[(0,1),(1,1),(2,1),(3,1)]⟩),(67,⟨true,lS,[(0,1),(1,1),(2,1),(3,1)]⟩),(68,⟨false,(.sl ma),[(188,0)]⟩),(70,⟨true,pg,[(0,4),(4,4),(8,1),(9,1)]⟩),(71,⟨false,(.sl iJ),[(170,0)]⟩),(72,⟨false,(.sl lS),[(67,0)]⟩),(73,⟨false,(.sl im),[(174,0)]⟩),(74,⟨false,(.sl .bool),[(4,0)]⟩),(75,⟨false,(.sl l9),[(133,0)]⟩),(76,⟨false,(.sl fV),[(213,0)]⟩),(78,⟨true,(.sl fV),[(0,1)]⟩),(80,⟨true,um,[(0,1),(1,1)]⟩),(82,⟨true,jW,[(0,1),(1,1),(2,2)]⟩),(83,⟨false,(.sl jX),[(215,0)]⟩),(85,⟨true,rV,[(0,1),(1,1),(2,1),(3,1),(4,1)]⟩),(87,⟨true,jn,[(0,1),(1,1),(2,10),(12,1),(13,1),(14,1),(15,1),(16,3),(19,4),(23,1),(24,1),(25,1),(26,1),(27,1),(28,5)]⟩),(102,⟨true,jo,[(0,1),(1,1),(2,1),(3,1)]⟩),(125,⟨true,cD,[(0,1),(1,1),(2,1),(3,1)]⟩),(128,⟨true,(.pair (.sl (.int .u8)) (.pair (.int .i64) (.int .i64))),[(0,1),(1,1),(2,1)]⟩),(133,⟨true,l9,[(0,1),(1,1),(2,1),(3,1),(4,1),(5,1),(6,1),(7,1),(8,1)]⟩),(136,⟨true,fO,[(0,1),(1,1),(2,1)]⟩),(145,⟨false,(.sl dw),[(54,0)]⟩),(166,⟨true,fO,[(0,1),(1,1),(2,1)]⟩),(168,⟨true,Gd,[(0,16),(16,1),(17,1)]⟩),(170,⟨true,iJ,[(0,4),(4,3),(7,3),(10,18),(28,1),(29,1)]⟩),(174,⟨true,im,[(0,1),(1,1),(2,1),(3,1),(4,1),(5,1)]⟩),(178,⟨true,bP,[(0,1),(1,1),(2,3),(5,1),(6,1),(7,1)]⟩),(188,⟨true,ma,[(0,1),(1,1),(2,1)]⟩),(211,⟨true,rV,[(0,1),(1,1),(2,1),(3,1),(4,1)]⟩),(213,⟨true,fV,[(0,1),(1,5),(6,1)]⟩),(215,⟨true,jX,[(0,5),(5,1),(6,1),(7,1)]⟩),(249,⟨true,HY,[(0,1),(1,1),(2,1),(3,1),(4,1),(5,1)]⟩),(284,⟨true,To,[(0,1),(1,1),(2,1),(3,1),(4,1),(5,1),(6,1)]⟩),(287,⟨true,NR,[(0,1),(1,1),(2,1),(3,1),(4,1)]⟩),(341,⟨false,(.int .u32),[]⟩)],eqs:=[(168,[.int,.int,.int,.int,.int,.int,.int,.int,.int,.int,.int,.int,.int,.int,.int,.str,.int,.int]),(211,[.int,.int,.int,.int,.int])],fts:=[]}
theorem base:Sound Tryz.prog E cG.nil:=Sound.nil (E3 (by kernel_rfl)) (E6 (by kernel_rfl)) (E5 (by kernel_rfl)) (by kernel_rfl)
def e7:bd:=aP [pd (.sl (.int .u8))] [rB] (c1 Pu.uQ)
theorem o7:aR Tryz.prog 7 e7:=f0 {} base Tryz.func7
def e19:bd:=GI (.pair (.sl .arg (.int .u8)) (.pair (.int .i64) (.int .i64))) [pd (.sl (.int .u8))] λa=>Pu.qq a.1
def g19:cG:=cG.nil
def n19:An:={mask:=mk [(3,[0,3,4])],merge:=mg [(3,15)]}
abbrev H7:SD:=⟨.data false (.sl .arg (.int .u8))::B::B::DI::DI::bs 27 [],zs 32 [],.none⟩
def Pq {R:Type}(X:SD.D H7)(K:Ex→AS→Option R):=Pu.pM (λy0 y1=>ke 0 K H7 ((z1 (w y0 (u y1)) X.1),X.2)) X.1.1
def Ve:cv:=iI H7 Pq (λX=>(X.1.2.1,q2 X))
def L19:c7:=(c7.nil).add 3 Ve
theorem UL:gE E g19 n19 L19 (aV Tryz.f19 0):=lk H7 Pq (λX=>(X.1.2.1,q2 X)) λX x=>((z1 (w x.1 (u x.2)) X.1),X.2)
theorem o19:aR Tryz.prog 19 e19:=aR.Ws (Uw (Γ:=g19) (an:=n19) (Λ:=L19) (base) Tryz.func19 (by kernel_rfl) (ao (cF UL nF))) (λa=>by kernel_rfl)
def e53:bd:=aP [] [(true,(.sl (.own none) fV))] λa=>Pu.k5
theorem o53:aR Tryz.prog 53 e53:=f0 {} base Tryz.func53
def TF:bd:=fI (.pair (.sl .arg0 (.int .u8)) (.pair (.int .i64) (.int .i64))) [] [rI] λx a=>Pu.fw x
theorem Wc:aR Tryz.prog 131 TF:=aR.kU (kP (an:={}) (Λ:=c7.nil) (base) Tryz.func131 (by kernel_rfl) (ao nF)) (λx a=>by kernel_rfl)
def Ql:bd:=fI (.pair (.sl .arg0 (.int .u8)) (.pair (.int .i64) (.int .i64))) [pI] [rS] λx a=>Pu.fy x a.1
def Uz:cG:=cG.nil.add 131 TF
def VJ:An:={mask:=mk [(5,[0,1,5,6])],mv:=[15]}
abbrev BP:SD:=⟨.ptr 0 0::DI::B::B::B::.data false (.sl (.own (some 61440)) (.int .u8))::DI::bs 16 [],(some Y2)::zs 22 [],.ptr⟩
def MZ {R:Type}(X:SD.D BP)(K:Ex→AS→Option R):=Pu.iR (λy0 y1 y2=>ke 0 K BP ((z1 (w y0 (u y1)) X.1),(u y2 X.2.1),X.2.2)) X.1.1
def Rq:cv:=iI BP MZ (λX=>(X.1.2.1,q2 X,X.2.1.1))
def SW:c7:=(c7.nil).add 5 Rq
theorem QF:gE E Uz VJ SW (aV Tryz.f124 0):=lk BP MZ (λX=>(X.1.2.1,q2 X,X.2.1.1)) λX x=>((z1 (w x.1 (u x.2.1)) X.1),(u x.2.2 X.2.1),X.2.2)
theorem J0:aR Tryz.prog 124 Ql:=aR.kU (kP (Γ:=Uz) (an:=VJ) (Λ:=SW) (base.add Wc) Tryz.func124 (by kernel_rfl) (ao (cF QF nF))) (λx a=>by kernel_rfl)
def e54:bd:=fI (.pair (.sl .arg0 (.int .u8)) (.pair (.int .i64) (.int .i64))) [] [rS] λx a=>Pu.qs x
theorem o54:aR Tryz.prog 54 e54:=aR.kU (kP (an:={}) (Λ:=c7.nil) (base.add J0) Tryz.func54 (by kernel_rfl) (ao nF)) (λx a=>by kernel_rfl)
def Ut:bd:=fI (.pair (.sl .arg0 (.int .u8)) (.pair (.int .i64) (.int .i64))) [pI] [rI] λx a=>Pu.bG x a.1
theorem KS:aR Tryz.prog 59 Ut:=aR.kU (kP (an:={}) (Λ:=c7.nil) (base.add Wc) Tryz.func59 (by kernel_rfl) (ao nF)) (λx a=>by kernel_rfl)
def Us:bd:=fI (.pair (.sl .arg0 (.int .u8)) (.pair (.int .i64) (.int .i64))) [pI] [rB] λx a=>Pu.dr x a.1
theorem Pf:aR Tryz.prog 55 Us:=aR.kU (kP (an:={}) (Λ:=c7.nil) (base.add KS) Tryz.func55 (by kernel_rfl) (ao nF)) (λx a=>by kernel_rfl)
def WG:bd:=fI (.pair (.sl .arg0 (.int .u8)) (.pair (.int .i64) (.int .i64))) [pd (.sl (.int .i64))] [rI] λx a=>Pu.bN x a.1
theorem OB:aR Tryz.prog 56 WG:=aR.kU (kP (an:={}) (Λ:=c7.nil) (base.add KS) Tryz.func56 (by kernel_rfl) (ao nF)) (λx a=>by kernel_rfl)
def zV:bd:=aP [pI,pI,pI] [rB] (c3 Pu.aC)
theorem nh:aR Tryz.prog 113 zV:=f0 {merge:=mg [(1,6)]} base Tryz.func113
def W6:bd:=aP [pI] [rS] (c1 Pu.cV)
theorem J1:aR Tryz.prog 132 W6:=f0 {} (base.add nh) Tryz.func132
def W7:bd:=aP [pd .str] [rI] (c1 Pu.pK)
def UB:cG:=cG.nil
def Sa:An:={mask:=mk [(3,[0,3,4]),(7,[0,3,4,5])]}
abbrev BS:SD:=⟨.data false .str::B::B::DI::DI::DI::bs 26 [],zs 32 [],.none⟩
def M4 {R:Type}(X:SD.D BS)(K:Ex→AS→Option R):=Pu.jd (λy0 y1=>ke 2 K BS ((z1 (w y0 (z1 (u y1))) X.1),X.2)) X.1.1 (q2 X)
def Ru:cv:=iI BS M4 (λX=>(X.1.2.1,q3 X))
abbrev BR:SD:=⟨.data false .str::B::B::DI::DI::bs 27 [],zs 32 [],.none⟩
def M3 {R:Type}(X:SD.D BR)(K:Ex→AS→Option R):=Pu.kX (λy0 y1=>ke 0 K BR ((z1 (w y0 (u y1)) X.1),X.2)) X.1.1
def Rt:cv:=iI BR M3 (λX=>(X.1.2.1,q2 X))
def P3:c7:=((c7.nil).add 7 Ru).add 3 Rt
theorem QJ:gE E UB Sa P3 (aV Tryz.f133 1):=lk BS M4 (λX=>(X.1.2.1,q3 X)) λX x=>((z1 (w x.1 (z1 (u x.2))) X.1),X.2)
theorem QI:gE E UB Sa P3 (aV Tryz.f133 0):=lk BR M3 (λX=>(X.1.2.1,q2 X)) λX x=>((z1 (w x.1 (u x.2)) X.1),X.2)
theorem Wd:aR Tryz.prog 133 W7:=fk Sa base Tryz.func133 (Λ:=P3) (cF QI (cF QJ nF))
def e61:bd:=aP [pI,pd .str] [rS,rB] (c2 Pu.hC)
theorem Z8:aR Tryz.prog 61 e61:=f0 {merge:=mg [(1,15)]} (((base.add nh).add J1).add Wd) Tryz.func61
def Xh:bd:=aP [pd .str,pI,pI] [rB] (c3 Pu.hR)
theorem Sl:aR Tryz.prog 189 Xh:=f0 {merge:=mg [(1,6)]} base Tryz.func189
def Xi:bd:=aP [pd .str,pI] [rI] (c2 Pu.pL)
theorem Zf:aR Tryz.prog 190 Xi:=f0 {} (base.add Sl) Tryz.func190
def W3:bd:=aP [pd .str,pI] [rI] (c2 Pu.nk)
theorem YA:aR Tryz.prog 121 W3:=f0 {} ((base.add Sl).add Zf) Tryz.func121
def e51:bd:=aP [pd .str] [rI] (c1 Pu.gp)
theorem o51:aR Tryz.prog 51 e51:=f0 {merge:=mg [(2,17),(5,37)]} (((base.add Z8).add nh).add YA) Tryz.func51
def W2:bd:=aP [pf (.sl .str)] [rB] (c1 Pu.oK)
theorem Yz:aR Tryz.prog 120 W2:=f0 {merge:=mg [(1,2)]} base Tryz.func120
def e50:bd:=aP [pf (.sl .str)] [rI] (c1 Pu.nK)
theorem o50:aR Tryz.prog 50 e50:=f0 {merge:=mg [(5,23)]} ((base.add o51).add Yz) Tryz.func50
def Qj:bd:=aP [pf il] [rB] (c1 Pu.je)
def XZ:cG:=cG.nil.add 113 zV
def VH:An:={mask:=mk [(2,[1,2,3])],merge:=mg [(4,35),(6,2)]}
abbrev xJ:SD:=⟨B::.ptr 1 0::DB::DI::bs 41 [],Z::(some SJ)::zs 43 [],.none⟩
def MU {R:Type}(X:SD.D xJ)(K:Ex→AS→Option R):=Pu.ku (λy0=>ke 0 K xJ ((z1 (u y0) X.1),X.2)) (λy0 y1=>kr K xJ ((w y0 (u y1) X.1),X.2)) X.1.1 X.2.1.1
def Rl:cv:=iI xJ MU (λX=>X.1.2.1)
def SU:c7:=(c7.nil).add 2 Rl
theorem QA:gE E XZ VH SU (aV Tryz.f112 0):=lk xJ MU (λX=>X.1.2.1) λX x=>((z1 (u x) X.1),X.2)
theorem Sh:aR Tryz.prog 112 Qj:=fk VH (base.add nh) Tryz.func112 (Λ:=SU) (cF QA nF)
def TX:bd:=aP [pf cP] [rB] (c1 Pu.mK)
theorem Zi:aR Tryz.prog 193 TX:=f0 {merge:=mg [(1,2)]} ((base.add Sh).add nh) Tryz.func193
def Qm:bd:=aP [pd (.sl (.int .i64)),pI] [rB] (c2 Pu.oh)
def Ye:cG:=cG.nil
def VX:An:={mask:=mk [(2,[0,1,4,5])]}
abbrev xZ:SD:=⟨.data false (.sl .arg (.int .i64))::DI::B::B::DB::DI::bs 12 [],zs 18 [],.none⟩
def Nq {R:Type}(X:SD.D xZ)(K:Ex→AS→Option R):=Pu.mT (λy0=>ke 0 K xZ ((z3 (u y0) X.1),X.2)) (λy0 y1=>kr K xZ ((z2 (w y0 (u y1)) X.1),X.2)) X.1.1 X.1.2.1 (q2 X)
def RR:cv:=iI xZ Nq q3
def Tb:c7:=(c7.nil).add 2 RR
theorem Q4:gE E Ye VX Tb (aV Tryz.f265 0):=lk xZ Nq q3 λX x=>((z3 (u x) X.1),X.2)
theorem Wl:aR Tryz.prog 265 Qm:=fk VX base Tryz.func265 (Λ:=Tb) (cF Q4 nF)
def TY:bd:=aP [pd (.sl (.int .i64)),pd (.sl (.int .i64))] [(false,(.sl (.own none) (.int .i64)))] (c2 Pu.k9)
def UE:cG:=cG.nil.add 265 Qm
def Sd:An:={mask:=mk [(3,[1,5,6]),(7,[1,5,6,7])],merge:=mg [(7,37)],mv:=[55]}
abbrev BW:SD:=⟨B::.data false (.sl .arg (.int .i64))::B::B::B::.data false (.sl (.own (some 61440)) (.int .i64))::DI::DI::bs 48 [],zs 56 [],.none⟩
def Ng {R:Type}(X:SD.D BW)(K:Ex→AS→Option R):=Pu.kE (λy0=>ke 2 K BW ((z3 (u y0) X.1),X.2)) X.1.1 X.1.2.1 (q2 X)
def RH:cv:=iI BW Ng q3
abbrev BV:SD:=⟨B::.data false (.sl .arg (.int .i64))::B::B::B::.data false (.sl (.own (some 61440)) (.int .i64))::DI::bs 49 [],zs 56 [],.none⟩
def Nf {R:Type}(X:SD.D BV)(K:Ex→AS→Option R):=Pu.ic (λy0 y1=>ke 0 K BV ((z1 (w y0 (u y1)) X.1),X.2)) X.1.1
def RG:cv:=iI BV Nf (λX=>(X.1.2.1,q2 X))
def P6:c7:=((c7.nil).add 7 RH).add 3 RG
theorem QU:gE E UE Sd P6 (aV Tryz.f194 1):=lk BW Ng q3 λX x=>((z3 (u x) X.1),X.2)
theorem QT:gE E UE Sd P6 (aV Tryz.f194 0):=lk BV Nf (λX=>(X.1.2.1,q2 X)) λX x=>((z1 (w x.1 (u x.2)) X.1),X.2)
theorem Zj:aR Tryz.prog 194 TY:=fk Sd (base.add Wl) Tryz.func194 (Λ:=P6) (cF QT (cF QU nF))
def TZ:bd:=aP [pd (.sl jo)] [rB] (c1 Pu.mO)
def UF:cG:=((cG.nil.add 112 Qj).add 113 zV).add 265 Qm
def Se:An:={mask:=mk [(4,[0,2,3]),(9,[0,2,3,4])]}
abbrev xW:SD:=⟨.data false (.sl .arg jo)::B::DB::DI::DI::bs 53 [],zs 58 [],.none⟩
def Ni {R:Type}(X:SD.D xW)(K:Ex→AS→Option R):=Pu.lz (λy0=>ke 2 K xW ((z3 (u y0) X.1),X.2)) (λy0 y1=>kr K xW ((z1 (w y0 (z1 (u y1))) X.1),X.2)) X.1.1 X.1.2.1 (q2 X)
def RJ:cv:=iI xW Ni q3
abbrev xV:SD:=⟨.data false (.sl .arg jo)::B::DB::DI::bs 54 [],zs 58 [],.none⟩
def Nh {R:Type}(X:SD.D xV)(K:Ex→AS→Option R):=Pu.ly (λy0=>ke 0 K xV ((z2 (u y0) X.1),X.2)) (λy0 y1=>kr K xV ((z1 (w y0 (u y1)) X.1),X.2)) X.1.1 X.1.2.1
def RI:cv:=iI xV Nh q2
def P7:c7:=((c7.nil).add 9 RJ).add 4 RI
theorem QW:gE E UF Se P7 (aV Tryz.f195 1):=lk xW Ni q3 λX x=>((z3 (u x) X.1),X.2)
theorem QV:gE E UF Se P7 (aV Tryz.f195 0):=lk xV Nh q2 λX x=>((z2 (u x) X.1),X.2)
theorem Zk:aR Tryz.prog 195 TZ:=fk Se (((base.add Sh).add nh).add Wl) Tryz.func195 (Λ:=P7) (cF QV (cF QW nF))
def Tz:bd:=aP [pd (.sl cP)] [(false,(.sl (.own none) jo)),rB] (c1 Pu.oM)
def X1:cG:=(((cG.nil.add 113 zV).add 193 TX).add 194 TY).add 195 TZ
def VK:An:={mask:=mk [(5,[0,2,3,4,5])],mv:=[41,63]}
abbrev xN:SD:=⟨.data false (.sl .arg cP)::B::.data false (.sl (.own (some 24576)) jo)::DB::.data false (.sl (.own (some 49152)) jo)::DI::bs 58 [],zs 64 [],.none⟩
def M0 {R:Type}(X:SD.D xN)(K:Ex→AS→Option R):=Pu.iP (λy0 y1=>ke 0 K xN ((z3 (w y0 (u y1)) X.1),X.2)) (λy0 y1 y2 y3=>kr K xN ((z1 (w y0 (w y1 (w y2 (u y3)))) X.1),X.2)) X.1.1 X.1.2.1 (q2 X)
def Rr:cv:=iI xN M0 (λX=>(q3 X,q4 X))
def SX:c7:=(c7.nil).add 5 Rr
theorem QG:gE E X1 VK SX (aV Tryz.f125 0):=lk xN M0 (λX=>(q3 X,q4 X)) λX x=>((z3 (w x.1 (u x.2)) X.1),X.2)
theorem YD:aR Tryz.prog 125 Tz:=fk VK ((((base.add nh).add Zi).add Zj).add Zk) Tryz.func125 (Λ:=SX) (cF QG nF)
def TA:bd:=aP [pf fO] [rB] (c1 Pu.nL)
theorem YE:aR Tryz.prog 126 TA:=f0 {merge:=mg [(1,2)]} (base.add nh) Tryz.func126
def TB:bd:=aP [pf jF] [rB] (c1 Pu.oJ)
theorem YF:aR Tryz.prog 127 TB:=f0 {merge:=mg [(1,2)]} (base.add nh) Tryz.func127
def Ud:bd:=aP [pf l9] [rB] (c1 Pu.jR)
theorem ZK:aR Tryz.prog 261 Ud:=f0 {merge:=mg [(1,33),(3,54),(5,2)]} (base.add nh) Tryz.func261
def TU:bd:=aP [pd (.sl l9)] [rB] (c1 Pu.oO)
def X5:cG:=cG.nil.add 261 Ud
def VO:An:={mask:=mk [(2,[0,2,3])]}
abbrev xS:SD:=⟨.data false (.sl .arg l9)::B::DB::DI::bs 15 [],zs 19 [],.none⟩
def M9 {R:Type}(X:SD.D xS)(K:Ex→AS→Option R):=Pu.lA (λy0=>ke 0 K xS ((z2 (u y0) X.1),X.2)) (λy0 y1=>kr K xS ((z1 (w y0 (u y1)) X.1),X.2)) X.1.1 X.1.2.1
def RA:cv:=iI xS M9 q2
def S1:c7:=(c7.nil).add 2 RA
theorem QO:gE E X5 VO S1 (aV Tryz.f183 0):=lk xS M9 q2 λX x=>((z2 (u x) X.1),X.2)
theorem Zb:aR Tryz.prog 183 TU:=fk VO (base.add ZK) Tryz.func183 (Λ:=S1) (cF QO nF)
def Ui:bd:=aP [pf rV] [rI] (c1 Pu.nP)
def Yj:cG:=cG.nil
def V2:An:={mask:=mk [(4,[3,4,5])]}
abbrev Cb:SD:=⟨B::B::B::DI::.data false (.sl (.own (some 49152)) (.int .i64))::DI::bs 26 [],zs 32 [],.none⟩
def Nv {R:Type}(X:SD.D Cb)(K:Ex→AS→Option R):=Pu.g9 (λy0 y1=>ke 0 K Cb ((w y0 (z1 (u y1)) X.1),X.2)) X.1.2.1
def RX:cv:=iI Cb Nv (λX=>(X.1.1,q2 X))
def Tg:c7:=(c7.nil).add 4 RX
theorem Q9:gE E Yj V2 Tg (aV Tryz.f308 0):=lk Cb Nv (λX=>(X.1.1,q2 X)) λX x=>((w x.1 (z1 (u x.2)) X.1),X.2)
theorem ZW:aR Tryz.prog 308 Ui:=fk V2 base Tryz.func308 (Λ:=Tg) (cF Q9 nF)
def Ue:bd:=aP [pf (.sl fV),pf rV] [rI] (c2 Pu.oV)
def Yd:cG:=cG.nil.add 308 Ui
def VW:An:={mask:=mk [(2,[2,3,4,5])],merge:=mg [(7,39)]}
abbrev xY:SD:=⟨B::B::.ptr 2 0::.ptr 3 0::DI::DI::bs 35 [],Z::Z::(some (.sl .arg fV))::(some (.pair (.int .i64) Y1))::zs 37 [],.none⟩
def Np {R:Type}(X:SD.D xY)(K:Ex→AS→Option R):=Pu.iU (λy0=>ke 0 K xY ((z1 (u y0) X.1),X.2)) (λy0 y1=>kr K xY ((w y0 (u y1) X.1),X.2)) X.1.1 X.2.1.1 X.2.1.2.1
def RQ:cv:=iI xY Np (λX=>X.1.2.1)
def Ta:c7:=(c7.nil).add 2 RQ
theorem Q3:gE E Yd VW Ta (aV Tryz.f262 0):=lk xY Np (λX=>X.1.2.1) λX x=>((z1 (u x) X.1),X.2)
theorem ZL:aR Tryz.prog 262 Ue:=fk VW (base.add ZW) Tryz.func262 (Λ:=Ta) (cF Q3 nF)
def TV:bd:=aP [pf (.sl fV)] [rB] (c1 Pu.oP)
def X6:cG:=(cG.nil.add 113 zV).add 262 Ue
def VP:An:={mask:=mk [(4,[1,2,3])],merge:=mg [(7,30),(10,42)]}
abbrev xT:SD:=⟨B::.ptr 1 0::DB::DI::bs 45 [],Z::(some (.sl .arg fV))::zs 47 [],.none⟩
def Na {R:Type}(X:SD.D xT)(K:Ex→AS→Option R):=Pu.lC (λy0=>ke 0 K xT ((z1 (u y0) X.1),X.2)) (λy0 y1=>kr K xT ((w y0 (u y1) X.1),X.2)) X.1.1 X.2.1.1
def RB:cv:=iI xT Na (λX=>X.1.2.1)
def S2:c7:=(c7.nil).add 4 RB
theorem QP:gE E X6 VP S2 (aV Tryz.f184 0):=lk xT Na (λX=>X.1.2.1) λX x=>((z1 (u x) X.1),X.2)
theorem Zc:aR Tryz.prog 184 TV:=fk VP ((base.add nh).add ZL) Tryz.func184 (Λ:=S2) (cF QP nF)
def Uf:bd:=aP [pI] [rB] (c1 Pu.oT)
theorem ZM:aR Tryz.prog 263 Uf:=f0 {merge:=mg [(1,2)]} base Tryz.func263
def TW:bd:=aP [pf um,pI] [rB] (c2 Pu.nS)
def X7:cG:=(cG.nil.add 113 zV).add 263 Uf
def VQ:An:={mask:=mk [(4,[1,2,4,5])],merge:=mg [(1,21)]}
abbrev xU:SD:=⟨B::DI::.ptr 2 0::B::DB::DI::bs 32 [],Z::Z::(some (.pair .str (.sl .arg (.int .i64))))::zs 35 [],.none⟩
def Nb {R:Type}(X:SD.D xU)(K:Ex→AS→Option R):=Pu.kA (λy0=>ke 0 K xU ((z2 (u y0) X.1),X.2)) (λy0 y1=>kr K xU ((z1 (w y0 (u y1)) X.1),X.2)) X.1.1 X.1.2.1 X.2.1.1
def RD:cv:=iI xU Nb q2
def S3:c7:=(c7.nil).add 4 RD
theorem QQ:gE E X7 VQ S3 (aV Tryz.f185 0):=lk xU Nb q2 λX x=>((z2 (u x) X.1),X.2)
theorem Zd:aR Tryz.prog 185 TW:=fk VQ ((base.add nh).add ZM) Tryz.func185 (Λ:=S3) (cF QQ nF)
def Ty:bd:=aP [pf jW,pI] [rB] (c2 Pu.lB)
def Uy:cG:=((cG.nil.add 183 TU).add 184 TV).add 185 TW
def R8:An:={mask:=mk [(4,[1,2,4,5]),(9,[1,2,4,6])],merge:=mg [(1,23)]}
abbrev xK:SD:=⟨B::DI::.ptr 2 0::B::DB::DI::bs 50 [],Z::Z::(some SI)::zs 53 [],.none⟩
def MV {R:Type}(X:SD.D xK)(K:Ex→AS→Option R):=Pu.iG (λy0=>ke 0 K xK ((z2 (u y0) X.1),X.2)) (λy0 y1=>kr K xK ((z1 (w y0 (u y1)) X.1),X.2)) X.1.1 X.1.2.1 X.2.1.1
def Rm:cv:=iI xK MV q2
abbrev xL:SD:=⟨B::DI::.ptr 2 0::B::DB::B::DI::bs 49 [],Z::Z::(some SI)::zs 53 [],.none⟩
def MW {R:Type}(X:SD.D xL)(K:Ex→AS→Option R):=Pu.iH (λy0=>ke 2 K xL ((z2 (u y0) X.1),X.2)) (λy0 y1=>kr K xL ((z1 (w y0 (u y1)) X.1),X.2)) X.1.1 X.1.2.1 X.2.1.1
def Rn:cv:=iI xL MW q2
def P1:c7:=((c7.nil).add 4 Rm).add 9 Rn
theorem QB:gE E Uy R8 P1 (aV Tryz.f114 0):=lk xK MV q2 λX x=>((z2 (u x) X.1),X.2)
theorem QC:gE E Uy R8 P1 (aV Tryz.f114 1):=lk xL MW q2 λX x=>((z2 (u x) X.1),X.2)
theorem Yx:aR Tryz.prog 114 Ty:=fk R8 (((base.add Zb).add Zc).add Zd) Tryz.func114 (Λ:=P1) (cF QB (cF QC nF))
def Xg:bd:=aP [pf im] [rB] (c1 Pu.qt)
theorem Ze:aR Tryz.prog 188 Xg:=f0 {merge:=mg [(1,2)]} base Tryz.func188
def W1:bd:=aP [pf im] [rB] (c1 Pu.jf)
theorem Yy:aR Tryz.prog 117 W1:=f0 {merge:=mg [(1,24),(3,2)]} ((base.add nh).add Ze) Tryz.func117
def T0:bd:=aP [pI,pI] [(true,WV),rB] (c2 Pu.mM)
theorem Zl:aR Tryz.prog 196 T0:=f0 {} (base.add Yy) Tryz.func196
def WH:bd:=aP [pI,pd (.int .u8)] [rS] (c2 Pu.dq)
def g62:cG:=cG.nil
def n62:An:={mask:=mk [(3,[0,1,5,6])]}
abbrev Ie:SD:=⟨DI::.data false (.int .u8)::B::B::B::.data false (.sl (.own (some 61440)) (.int .u8))::DI::bs 13 [],zs 20 [],.none⟩
def PG {R:Type}(X:SD.D Ie)(K:Ex→AS→Option R):=Pu.iQ (λy0 y1=>ke 0 K Ie ((z2 (w y0 (u y1)) X.1),X.2)) X.1.1 X.1.2.1
def Vs:cv:=iI Ie PG (λX=>(q2 X,q3 X))
def L62:c7:=(c7.nil).add 3 Vs
theorem U0:gE E g62 n62 L62 (aV Tryz.f62 0):=lk Ie PG (λX=>(q2 X,q3 X)) λX x=>((z2 (w x.1 (u x.2)) X.1),X.2)
theorem Wr:aR Tryz.prog 62 WH:=fk n62 base Tryz.func62 (Λ:=L62) (cF U0 nF)
def T1:bd:=aP [pI] [(true,(.sl (.own none) .str))] (c1 Pu.hH)
def X8:cG:=cG.nil.add 62 WH
def VR:An:={mask:=mk [(3,[0,2,3,4])],merge:=mg [(3,12)],mv:=[16,21],mb:=mg [(16,3)],sb:=mg [(20,3)]}
abbrev BX:SD:=⟨DI::B::.ptr 2 0::.ptr 3 0::DI::bs 17 [],Z::Z::(some (.sl (.own (some 24577)) .str))::(some (.sl (.own (some 36865)) .str))::zs 18 [],.none⟩
def Nj {R:Type}(X:SD.D BX)(K:Ex→AS→Option R):=Pu.jy (λy0 y1=>ke 0 K BX ((z1 (u y0) X.1),(z1 (u y1) X.2.1),X.2.2)) X.1.1 X.2.1.1
def RK:cv:=iI BX Nj (λX=>(X.1.2.1,X.2.1.2.1))
def S4:c7:=(c7.nil).add 3 RK
theorem QX:gE E X8 VR S4 (aV Tryz.f197 0):=lk BX Nj (λX=>(X.1.2.1,X.2.1.2.1)) λX x=>((z1 (u x.1) X.1),(z1 (u x.2) X.2.1),X.2.2)
theorem Zm:aR Tryz.prog 197 T1:=fk VR (base.add Wr) Tryz.func197 (Λ:=S4) (cF QX nF)
def Qk:bd:=aP [pf lS] [rB] (c1 Pu.l5)
def X0:cG:=cG.nil.add 113 zV
def VI:An:={mask:=mk [(5,[1,2,3,4])],merge:=mg [(1,20),(7,50)]}
abbrev xM:SD:=⟨B::.ptr 1 0::DB::.data false (.sl (.own (some 36864)) .bool)::DI::bs 53 [],Z::(some Tq)::zs 56 [],.none⟩
def MX {R:Type}(X:SD.D xM)(K:Ex→AS→Option R):=Pu.mN (λy0 y1=>ke 0 K xM ((z1 (w y0 (u y1)) X.1),X.2)) (λy0 y1 y2=>kr K xM ((w y0 (w y1 (u y2)) X.1),X.2)) X.1.1 X.2.1.1
def Ro:cv:=iI xM MX (λX=>(X.1.2.1,q2 X))
def SV:c7:=(c7.nil).add 5 Ro
theorem QD:gE E X0 VI SV (aV Tryz.f116 0):=lk xM MX (λX=>(X.1.2.1,q2 X)) λX x=>((z1 (w x.1 (u x.2)) X.1),X.2)
theorem Si:aR Tryz.prog 116 Qk:=fk VI (base.add nh) Tryz.func116 (Λ:=SV) (cF QD nF)
def XF:bd:=aP [pI,pI,pI] [(true,SH),rB] (c3 Pu.mL)
def Yf:cG:=cG.nil.add 116 Qk
def VY:An:={mask:=mk [(3,[2,6,8,9])],merge:=mg [(3,20)],mv:=[24,33]}
abbrev B7:SD:=⟨B::B::DI::B::B::B::.ptr 6 0::B::.ptr 8 0::DI::bs 24 [],zs 6 ((some (.pair (.int .i64) (.pair (.int .i64) (.pair (.int .i64) (.sl (.own (some 73738)) (.int .i64))))))::Z::(some (.pair (.int .i64) (.pair (.int .i64) (.pair (.int .i64) (.sl (.own (some 98314)) (.int .i64))))))::zs 25 []),.none⟩
def Nr {R:Type}(X:SD.D B7)(K:Ex→AS→Option R):=Pu.iO (λy0 y1=>ke 0 K B7 ((z1 (u y0) X.1),(z1 (u y1) X.2.1),X.2.2)) X.1.1 X.2.1.1
def RS:cv:=iI B7 Nr (λX=>(X.1.2.1,X.2.1.2.1))
def Tc:c7:=(c7.nil).add 3 RS
theorem Q5:gE E Yf VY Tc (aV Tryz.f266 0):=lk B7 Nr (λX=>(X.1.2.1,X.2.1.2.1)) λX x=>((z1 (u x.1) X.1),(z1 (u x.2) X.2.1),X.2.2)
theorem Wm:aR Tryz.prog 266 XF:=fk VY (base.add Si) Tryz.func266 (Λ:=Tc) (cF Q5 nF)
def T3:bd:=aP [] [(true,WX)] λa=>Pu.nX
theorem Zn:aR Tryz.prog 198 T3:=f0 {mv:=[4,9]} (base.add Wm) Tryz.func198
def T4:bd:=aP [pf il] [(true,K0)] (c1 Pu.mR)
theorem Wg:aR Tryz.prog 199 T4:=f0 {sb:=mg [(2,2)]} base Tryz.func199
def XG:bd:=aP [pf (.sl fV)] [(true,(.sl (.own none) fV))] (c1 Pu.oU)
theorem ZN:aR Tryz.prog 267 XG:=f0 {} base Tryz.func267
def T5:bd:=aP [pf jW] [(true,WW)] (c1 Pu.oW)
theorem Zo:aR Tryz.prog 200 T5:=f0 {sb:=mg [(2,2)]} (base.add ZN) Tryz.func200
def N4:bd:=aP [pf (.sl .str)] [(true,(.sl (.own none) .str))] (c1 Pu.gr)
theorem OA:aR Tryz.prog 310 N4:=f0 {} base Tryz.func310
def Tw:bd:=aP [pf (.sl .str)] [rB] (c1 Pu.kZ)
def XY:cG:=cG.nil
def VG:An:={mask:=mk [(2,[1,2,3])]}
abbrev xH:SD:=⟨B::.ptr 1 0::DB::DI::bs 18 [],Z::(some (.sl .arg .str))::zs 20 [],.none⟩
def MS {R:Type}(X:SD.D xH)(K:Ex→AS→Option R):=Pu.kv (λy0=>ke 0 K xH ((z1 (u y0) X.1),X.2)) (λy0 y1=>kr K xH ((w y0 (u y1) X.1),X.2)) X.1.1 X.2.1.1
def Rj:cv:=iI xH MS (λX=>X.1.2.1)
def SS:c7:=(c7.nil).add 2 Rj
theorem Qy:gE E XY VG SS (aV Tryz.f109 0):=lk xH MS (λX=>X.1.2.1) λX x=>((z1 (u x) X.1),X.2)
theorem Wb:aR Tryz.prog 109 Tw:=fk VG base Tryz.func109 (Λ:=SS) (cF Qy nF)
def Tx:bd:=aP [pd (.sl cD)] [rB] (c1 Pu.lv)
def Ux:cG:=cG.nil.add 113 zV
def R7:An:={mask:=mk [(4,[0,2,3]),(10,[0,2,3,4,5])],merge:=mg [(7,34),(12,57)]}
abbrev uA:SD:=⟨.data false (.sl .arg cD)::B::DB::DI::.ptr 4 0::DI::bs 52 [],zs 4 ((some (.pair (.int .i64) (.pair (.int .i64) (.pair (.int .i64) .bool))))::zs 53 []),.none⟩
def IW {R:Type}(X:SD.D uA)(K:Ex→AS→Option R):=Pu.gM (λy0=>ke 2 K uA ((z3 (u y0) X.1),X.2)) (λy0 y1=>kr K uA ((z1 (w y0 (z1 (u y1))) X.1),X.2)) X.1.1 X.1.2.1 (q2 X) X.2.1.1
def Om:cv:=iI uA IW q3
abbrev xI:SD:=⟨.data false (.sl .arg cD)::B::DB::DI::bs 54 [],zs 58 [],.none⟩
def MT {R:Type}(X:SD.D xI)(K:Ex→AS→Option R):=Pu.iE (λy0=>ke 0 K xI ((z2 (u y0) X.1),X.2)) (λy0 y1=>kr K xI ((z1 (w y0 (u y1)) X.1),X.2)) X.1.1 X.1.2.1
def Rk:cv:=iI xI MT q2
def P0:c7:=((c7.nil).add 10 Om).add 4 Rk
theorem Oj:gE E Ux R7 P0 (aV Tryz.f110 1):=lk uA IW q3 λX x=>((z3 (u x) X.1),X.2)
theorem Qz:gE E Ux R7 P0 (aV Tryz.f110 0):=lk xI MT q2 λX x=>((z2 (u x) X.1),X.2)
theorem Yw:aR Tryz.prog 110 Tx:=fk R7 (base.add nh) Tryz.func110 (Λ:=P0) (cF Qz (cF Oj nF))
def Ur:bd:=aP [pd (.sl cD),pI,pI,pd .bool] [rI] (c4 Pu.oX)
def Yo:cG:=cG.nil
def V7:An:={mask:=mk [(2,[0,1,2,3,8,9])],merge:=mg [(4,42)]}
abbrev yc:SD:=⟨.data false (.sl .arg cD)::DI::DI::DB::bs 4 (DI::DI::bs 38 []),zs 48 [],.none⟩
def NB {R:Type}(X:SD.D yc)(K:Ex→AS→Option R):=Pu.lF (λy0=>ke 0 K yc ((z5 (u y0) X.1),X.2)) (λy0 y1=>kr K yc ((z4 (w y0 (u y1)) X.1),X.2)) X.1.1 X.1.2.1 (q2 X) (q3 X) (q4 X)
def R3:cv:=iI yc NB q5
def Tl:c7:=(c7.nil).add 2 R3
theorem Rf:gE E Yo V7 Tl (aV Tryz.f334 0):=lk yc NB q5 λX x=>((z5 (u x) X.1),X.2)
theorem Z7:aR Tryz.prog 334 Ur:=fk V7 base Tryz.func334 (Λ:=Tl) (cF Rf nF)
def Qn:bd:=aP [pf (.sl .str),pI,pI] [rB] (c3 Pu.ib)
theorem Wq:aR Tryz.prog 335 Qn:=f0 {merge:=mg [(2,6)]} (base.add Wb) Tryz.func335
def Uo:bd:=aP [pd (.sl cD),pf (.sl .str),pI,pI,pI,pd .bool] [(false,(.sl (.own none) (.int .i64))),(false,(.sl (.own none) (.int .i64))),rB] (c6 Pu.nV)
def Ym:cG:=((((cG.nil.add 109 Tw).add 110 Tx).add 113 zV).add 334 Ur).add 335 Qn
def V5:An:={mask:=mk [(5,[0,2,3,4,5,7,12,13,14,15,16])],merge:=mg [(3,34),(10,57)],mv:=[35,36,64,71,81,82]}
abbrev yb:SD:=⟨.data false (.sl .arg cD)::B::DI::DI::DI::DB::B::.ptr 7 0::bs 4 (.data false (.sl (.own (some 147456)) (.int .i64))::.data false (.sl (.own (some 159744)) (.int .i64))::DB::.data false (.sl (.own (some 184320)) (.int .i64))::.data false (.sl (.own (some 196608)) (.int .i64))::bs 66 []),zs 7 ((some (.sl .arg .str))::zs 75 []),.none⟩
def Nz {R:Type}(X:SD.D yb)(K:Ex→AS→Option R):=Pu.fF (λy0 y1 y2 y3=>ke 0 K yb ((z2 (w y0 (w y1 (z4 (w y2 (u y3))))) X.1),X.2)) (λy0 y1 y2 y3 y4 y5 y6=>kr K yb ((z2 (w y0 (w y1 (z1 (w y2 (w y3 (w y4 (w y5 (u y6)))))))) X.1),X.2)) X.1.1 X.1.2.1 (q4 X) (q5 X) (q6 X) (q7 X) X.2.1.1
def R1:cv:=iI yb Nz (λX=>(q2 X,q3 X,q8 X,q9 X))
def Tj:c7:=(c7.nil).add 5 R1
theorem Rd:gE E Ym V5 Tj (aV Tryz.f326 0):=lk yb Nz (λX=>(q2 X,q3 X,q8 X,q9 X)) λX x=>((z2 (w x.1 (w x.2.1 (z4 (w x.2.2.1 (u x.2.2.2))))) X.1),X.2)
theorem Z2:aR Tryz.prog 326 Uo:=fk V5 (((((base.add Wb).add Yw).add nh).add Z7).add Wq) Tryz.func326 (Λ:=Tj) (cF Rd nF)
def Ug:bd:=aP [pd .str,pI,pd .str] [rS] (c3 Pu.eP)
theorem Sn:aR Tryz.prog 274 Ug:=f0 {} (base.add Sl) Tryz.func274
def Up:bd:=aP [pf (.sl .str),pI,pd .str] [(true,(.sl (.own none) .str)),rB] (c3 Pu.kC)
def Yn:cG:=((cG.nil.add 274 Ug).add 310 N4).add 335 Qn
def V6:An:={mask:=mk [(4,[1,2,6,8])],mv:=[19,52]}
abbrev Ce:SD:=⟨B::DI::.data false .str::B::B::B::.ptr 6 0::B::.ptr 8 0::bs 44 [],zs 6 ((some (.sl (.own (some 73729)) .str))::Z::(some (.sl (.own (some 98305)) .str))::zs 44 []),.none⟩
def NA {R:Type}(X:SD.D Ce)(K:Ex→AS→Option R):=Pu.gN (λy0 y1 y2=>ke 0 K Ce ((w y0 (u y1) X.1),(z1 (u y2) X.2.1),X.2.2)) X.2.1.1
def R2:cv:=iI Ce NA (λX=>(X.1.1,X.1.2.1,X.2.1.2.1))
def Tk:c7:=(c7.nil).add 4 R2
theorem Re:gE E Yn V6 Tk (aV Tryz.f327 0):=lk Ce NA (λX=>(X.1.1,X.1.2.1,X.2.1.2.1)) λX x=>((w x.1 (u x.2.1) X.1),(z1 (u x.2.2) X.2.1),X.2.2)
theorem Z3:aR Tryz.prog 327 Up:=fk V6 (((base.add Sn).add OA).add Wq) Tryz.func327 (Λ:=Tk) (cF Re nF)
def Uj:bd:=aP [pd (.sl cD),pf (.sl .str),pI,pI,pd .str] [(true,(.sl (.own none) .str)),rB] (c5 Pu.kY)
def Yk:cG:=((cG.nil.add 310 N4).add 326 Uo).add 327 Up
def V3:An:={mask:=mk [(6,[4,10,12,13,15,16])],mv:=[32,39,52,60],sb:=mg [(15,15)]}
abbrev Cc:SD:=⟨bs 4 (.data false .str::bs 5 (.ptr 10 0::B::.data false (.sl .loc (.int .i64))::.data false (.sl .loc (.int .i64))::B::.ptr 15 0::DI::bs 44 [])),zs 10 ((some (.sl (.own (some 122881)) .str))::zs 4 ((some (.sl (.own (some 184321)) .str))::zs 45 [])),.none⟩
def Nw {R:Type}(X:SD.D Cc)(K:Ex→AS→Option R):=Pu.gZ (λy0 y1 y2=>ke 0 K Cc ((w y0 (z2 (u y1)) X.1),(z1 (u y2) X.2.1),X.2.2)) X.1.2.1 (q2 X) X.2.1.1
def RY:cv:=iI Cc Nw (λX=>(X.1.1,q3 X,X.2.1.2.1))
def Th:c7:=(c7.nil).add 6 RY
theorem Ra:gE E Yk V3 Th (aV Tryz.f309 0):=lk Cc Nw (λX=>(X.1.1,q3 X,X.2.1.2.1)) λX x=>((w x.1 (z2 (u x.2.1)) X.1),(z1 (u x.2.2) X.2.1),X.2.2)
theorem Wo:aR Tryz.prog 309 Uj:=fk V3 (((base.add OA).add Z2).add Z3) Tryz.func309 (Λ:=Th) (cF Ra nF)
def XH:bd:=aP [pd (.sl cD),pf (.sl .str),pI,pI,pd .str] [(true,(.sl (.own none) .str)),rB] (c5 Pu.mJ)
def Yg:cG:=cG.nil.add 309 Uj
def VZ:An:={mask:=mk [(3,[0,2,3,4,6,10,12,13])],mv:=[27]}
abbrev B8:SD:=⟨.data false (.sl .arg cD)::B::DI::DI::.data false .str::B::.ptr 6 0::B::B::B::.ptr 10 0::B::.data false (.sl (.own (some 147456)) cD)::DI::bs 25 [],zs 6 ((some (.sl .arg .str))::Z::Z::Z::(some (.sl (.own (some 122881)) .str))::zs 28 []),.none⟩
def Ns {R:Type}(X:SD.D B8)(K:Ex→AS→Option R):=Pu.jx (λy0 y1=>ke 0 K B8 ((z4 (w y0 (u y1)) X.1),X.2)) X.1.1 X.1.2.1 (q2 X) (q3 X) X.2.1.1 X.2.1.2.1
def RT:cv:=iI B8 Ns (λX=>(q4 X,q5 X))
def Td:c7:=(c7.nil).add 3 RT
theorem Q6:gE E Yg VZ Td (aV Tryz.f268 0):=lk B8 Ns (λX=>(q4 X,q5 X)) λX x=>((z4 (w x.1 (u x.2)) X.1),X.2)
theorem ZO:aR Tryz.prog 268 XH:=fk VZ (base.add Wo) Tryz.func268 (Λ:=Td) (cF Q6 nF)
def XC:bd:=aP [pI] [rB] (c1 Pu.mQ)
theorem Wi:aR Tryz.prog 258 XC:=f0 {merge:=mg [(1,2)]} base Tryz.func258
def XD:bd:=aP [pf jF] [rI] (c1 Pu.k7)
theorem Wj:aR Tryz.prog 259 XD:=f0 {} (base.add Wi) Tryz.func259
def TT:bd:=aP [pf jF] [rB] (c1 Pu.l6)
theorem Sk:aR Tryz.prog 181 TT:=f0 {merge:=mg [(1,2)]} (((base.add nh).add Wi).add Wj) Tryz.func181
def Uc:bd:=aP [pf lS] [(true,SH)] (c1 Pu.oY)
theorem ZJ:aR Tryz.prog 260 Uc:=f0 {sb:=mg [(2,2)]} base Tryz.func260
def Uk:bd:=aP [pf jF] [rI] (c1 Pu.k6)
theorem Wp:aR Tryz.prog 311 Uk:=f0 {} ((base.add Sk).add Wj) Tryz.func311
def XT:bd:=aP [pf jF,pI] [rI] (c2 Pu.kz)
theorem Z4:aR Tryz.prog 328 XT:=f0 {merge:=mg [(1,11)]} (base.add Sk) Tryz.func328
def Ul:bd:=aP [pd (.sl cD),pf (.sl .str),pI,pf jF,pd .str] [(true,(.sl (.own none) .str)),(true,Y1),rB] (c5 Pu.oN)
theorem ZX:aR Tryz.prog 312 Ul:=f0 {merge:=mg [(1,22)],mv:=[26,36,51],mb:=mg [(51,13)],sb:=mg [(10,10),(11,11),(13,13)]} ((((base.add Wo).add OA).add Wp).add Z4) Tryz.func312
def XK:bd:=aP [pI] [rS] (c1 Pu.bW)
theorem J2:aR Tryz.prog 271 XK:=f0 {} (base.add nh) Tryz.func271
def XU:bd:=aP [pf HY] [rB] (c1 Pu.qp)
theorem Z5:aR Tryz.prog 329 XU:=f0 {merge:=mg [(1,2)]} (base.add nh) Tryz.func329
def Um:bd:=aP [pf HY] [rS] (c1 Pu.lu)
theorem ZY:aR Tryz.prog 313 Um:=f0 {} (((base.add J1).add J2).add Z5) Tryz.func313
def Un:bd:=aP [pf lS,pI] [rI] (c2 Pu.iD)
theorem ZZ:aR Tryz.prog 314 Un:=f0 {merge:=mg [(1,15)]} ((base.add nh).add Si) Tryz.func314
def XI:bd:=aP [pd (.sl cD),pf (.sl .str),pI,pf jF,pf lS] [(true,(.sl (.own none) .str)),(true,Y1),(true,SH),rI] (c5 Pu.nO)
def Yh:cG:=(((((((cG.nil.add 116 Qk).add 181 TT).add 260 Uc).add 310 N4).add 311 Uk).add 312 Ul).add 313 Um).add 314 Un
def V0:An:={mask:=mk [(6,[0,2,8,9,10,11,12,14,15,16])],merge:=mg [(4,32),(6,44)],mv:=[33,35,49,63,68,78,80],mb:=mg [(33,14),(35,15),(78,14),(80,15)],sb:=mg [(10,10),(11,11),(12,12),(18,18),(19,19)]}
abbrev B9:SD:=⟨.data false (.sl .arg cD)::B::DI::bs 5 (.ptr 8 0::.ptr 9 0::.ptr 10 0::.ptr 11 0::.ptr 12 0::B::.ptr 14 0::.ptr 15 0::DI::bs 65 []),zs 8 ((some Y1)::(some Tq)::(some (.sl (.own (some 122881)) .str))::(some Y1)::(some (.pair (.int .i64) (.pair (.int .i64) (.pair (.int .i64) (.sl (.own (some 147466)) (.int .i64))))))::Z::(some (.sl (.own (some 172033)) .str))::(some (.pair (.int .i64) (.pair (.int .i64) (.pair (.int .i64) (.sl (.own (some 184330)) (.int .i64))))))::zs 66 []),.none⟩
def Nt {R:Type}(X:SD.D B9)(K:Ex→AS→Option R):=Pu.g8 (λy0 y1 y2 y3=>ke 0 K B9 ((z2 (u y0) X.1),(w y1 (z4 (w y2 (u y3))) X.2.1),X.2.2)) X.1.1 X.1.2.1 X.2.1.2.1 X.2.1.2.2.1 X.2.1.2.2.2.1 X.2.1.2.2.2.2.1
def RU:cv:=iI B9 Nt (λX=>(q2 X,X.2.1.1,X.2.1.2.2.2.2.2.1,X.2.1.2.2.2.2.2.2.1))
def Te:c7:=(c7.nil).add 6 RU
theorem Q7:gE E Yh V0 Te (aV Tryz.f269 0):=lk B9 Nt (λX=>(q2 X,X.2.1.1,X.2.1.2.2.2.2.2.1,X.2.1.2.2.2.2.2.2.1)) λX x=>((z2 (u x.1) X.1),(w x.2.1 (z4 (w x.2.2.1 (u x.2.2.2))) X.2.1),X.2.2)
theorem ZP:aR Tryz.prog 269 XI:=fk V0 ((((((((base.add Si).add Sk).add ZJ).add OA).add Wp).add ZX).add ZY).add ZZ) Tryz.func269 (Λ:=Te) (cF Q7 nF)
def T6:bd:=fI (.pair (.sl (.own none) .str) (.pair (.sl (.own none) cD) (.pair (.pair (.pair (.int .i64) (.pair (.int .i64) (.pair (.int .i64) (.int .i64)))) (.pair (.pair (.int .i64) (.pair (.int .i64) (.pair (.int .i64) (.sl (.own none) (.int .i64))))) (.pair (.sl (.own none) ma) (.int .i64)))) (.pair (.sl (.own none) iJ) (.pair (.sl (.own none) lS) (.pair (.sl (.own none) im) (.pair (.sl (.own none) .bool) (.pair (.pair (.int .i64) (.pair .bool (.sl (.own none) (.int .i64)))) (.pair (.pair (.sl (.own none) l9) (.pair (.sl (.own none) fV) (.pair .str (.sl (.own none) (.int .i64))))) (.pair (.sl (.own none) jX) (.pair .bool (.pair (.sl (.own none) .str) (.pair (.sl (.own none) (.int .i64)) (.pair (.sl (.own none) (.int .i64)) (.pair (.int .i64) (.pair (.int .i64) (.pair (.int .i64) (.pair (.int .i64) (.int .i64))))))))))))))))))) [pI] [] λx a=>Pu.mU x a.1
theorem Zp:aR Tryz.prog 201 T6:=aR.kU (kP (an:={mv:=[47,51,65,67,84],mb:=mg [(84,6)],sb:=mg [(6,6),(50,0),(70,0),(71,5)]}) (Λ:=c7.nil) ((((base.add Wr).add Wm).add ZO).add ZP) Tryz.func201 (by kernel_rfl) (ao nF)) (λx a=>by kernel_rfl)
def TC:bd:=aP [pI,pf il,pf jW,pd .bool,pI,pI] [(true,Y9),rB] (c6 Pu.ky)
def UA:cG:=((((((((cG.nil.add 112 Qj).add 113 zV).add 114 Ty).add 196 T0).add 197 T1).add 198 T3).add 199 T4).add 200 T5).add 201 T6
def R9:An:={mask:=mk [(6,[0,12,14,16,17]),(10,[0,12,14,16,18])],merge:=mg [(2,42)],mv:=[57,74,80,86,92,98],mb:=mg [(57,16)],sb:=mg [(16,16),(67,16)]}
abbrev BQ:SD:=⟨DI::bs 11 (.ptr 12 0::B::.ptr 14 0::B::.ptr 16 0::DI::bs 81 []),zs 12 ((some Y7)::Z::(some WV)::Z::(some Y6)::zs 82 []),.none⟩
def M1 {R:Type}(X:SD.D BQ)(K:Ex→AS→Option R):=Pu.iM (λy0 y1=>ke 0 K BQ ((z1 (u y0) X.1),(z2 (u y1) X.2.1),X.2.2)) X.1.1 X.2.1.1 X.2.1.2.1
def Rs:cv:=iI BQ M1 (λX=>(X.1.2.1,X.2.1.2.2.1))
abbrev xn:SD:=⟨DI::bs 11 (.ptr 12 0::B::.ptr 14 0::B::.ptr 16 0::B::DI::bs 80 []),zs 12 ((some Y7)::Z::(some WV)::Z::(some Y6)::zs 82 []),.none⟩
def IX {R:Type}(X:SD.D xn)(K:Ex→AS→Option R):=Pu.hG (λy0 y1=>ke 2 K xn ((z1 (u y0) X.1),(z2 (u y1) X.2.1),X.2.2)) X.1.1 X.2.1.1 X.2.1.2.1
def On:cv:=iI xn IX (λX=>(X.1.2.1,X.2.1.2.2.1))
def P2:c7:=((c7.nil).add 6 Rs).add 10 On
theorem QH:gE E UA R9 P2 (aV Tryz.f128 0):=lk BQ M1 (λX=>(X.1.2.1,X.2.1.2.2.1)) λX x=>((z1 (u x.1) X.1),(z2 (u x.2) X.2.1),X.2.2)
theorem Ok:gE E UA R9 P2 (aV Tryz.f128 1):=lk xn IX (λX=>(X.1.2.1,X.2.1.2.2.1)) λX x=>((z1 (u x.1) X.1),(z2 (u x.2) X.2.1),X.2.2)
theorem YG:aR Tryz.prog 128 TC:=fk R9 (((((((((base.add Sh).add nh).add Yx).add Zl).add Zm).add Zn).add Wg).add Zo).add Zp) Tryz.func128 (Λ:=P2) (cF QH (cF Ok nF))
def TD:bd:=aP [pf cP] [(true,(.pair K0 NL))] (c1 Pu.oZ)
theorem YH:aR Tryz.prog 129 TD:=f0 {mv:=[7]} (base.add Wg) Tryz.func129
def e57:bd:=aP [pd (.sl cP),pf jW,pd .bool,pf fO,pf (.sl .str),pI] [(true,Y8),rB] (c6 Pu.kx)
def g57:cG:=(((((cG.nil.add 50 e50).add 125 Tz).add 126 TA).add 127 TB).add 128 TC).add 129 TD
def n57:An:={mask:=mk [(6,[0,2,7,9,12,13,16,17])],merge:=mg [(3,50)],mv:=[58,67,73,74,79,89,98],mb:=mg [(89,16)],sb:=mg [(18,18),(97,16)]}
abbrev DD:SD:=⟨.data false (.sl .arg cP)::B::DB::bs 4 (.ptr 7 0::B::.ptr 9 0::B::B::.ptr 12 0::DB::B::B::.ptr 16 0::DI::bs 81 []),zs 7 ((some SI)::Z::(some NL)::Z::Z::(some (.pair (.sl (.own (some 147457)) jn) (.pair (.sl (.own (some 147460)) bP) (.pair (.sl (.own (some 147463)) cP) (.pair (.sl (.own (some 147466)) .str) (.pair Y1 (.pair (.sl (.own (some 147481)) (.int .i64)) (.sl (.own (some 147484)) .str))))))))::Z::Z::Z::(some (.pair (.sl (.own (some 196609)) jn) (.pair (.sl (.own (some 196612)) bP) (.pair (.sl (.own (some 196615)) cP) (.pair (.sl (.own (some 196618)) .str) (.pair Y1 (.pair (.sl (.own (some 196633)) (.int .i64)) (.sl (.own (some 196636)) .str))))))))::zs 82 []),.none⟩
def PC {R:Type}(X:SD.D DD)(K:Ex→AS→Option R):=Pu.lx (λy0 y1=>ke 0 K DD ((z3 (u y0) X.1),(z3 (u y1) X.2.1),X.2.2)) (λy0 y1 y2 y3=>kr K DD ((z2 (w y0 (u y1)) X.1),(z2 (w y2 (u y3)) X.2.1),X.2.2)) X.1.1 X.1.2.1 (q2 X) X.2.1.1 X.2.1.2.1 X.2.1.2.2.1
def Vp:cv:=iI DD PC (λX=>(q3 X,X.2.1.2.2.2.1))
def L57:c7:=(c7.nil).add 6 Vp
theorem UX:gE E g57 n57 L57 (aV Tryz.f57 0):=lk DD PC (λX=>(q3 X,X.2.1.2.2.2.1)) λX x=>((z3 (u x.1) X.1),(z3 (u x.2) X.2.1),X.2.2)
theorem o57:aR Tryz.prog 57 e57:=fk n57 ((((((base.add o50).add YD).add YE).add YF).add YG).add YH) Tryz.func57 (Λ:=L57) (cF UX nF)
def Xl:bd:=fI (.pair (.sl .arg0 (.int .u8)) (.pair (.int .i64) (.int .i64))) [] [(true,K0)] λx a=>Pu.mS x
theorem Zq:aR Tryz.prog 202 Xl:=aR.kU (kP (an:={mv:=[11]}) (Λ:=c7.nil) (base.add Pf) Tryz.func202 (by kernel_rfl) (ao nF)) (λx a=>by kernel_rfl)
def TE:bd:=fI (.pair (.sl .arg0 (.int .u8)) (.pair (.int .i64) (.int .i64))) [] [(true,(.pair K0 NL))] λx a=>Pu.qu x
theorem YI:aR Tryz.prog 130 TE:=aR.kU (kP (an:={}) (Λ:=c7.nil) ((base.add KS).add Zq) Tryz.func130 (by kernel_rfl) (ao nF)) (λx a=>by kernel_rfl)
def e58:bd:=fI (.pair (.sl .arg0 (.int .u8)) (.pair (.int .i64) (.int .i64))) [] [(false,(.sl (.own none) cP))] λx a=>Pu.nY x
def g58:cG:=(cG.nil.add 59 Ut).add 130 TE
def n58:An:={mask:=mk [(3,[0,3,4])],mv:=[22,23,26]}
abbrev Ib:SD:=⟨.ptr 0 0::B::B::.data false (.sl (.own (some 36864)) cP)::DI::bs 22 [],(some Y2)::zs 26 [],.ptr⟩
def PE {R:Type}(X:SD.D Ib)(K:Ex→AS→Option R):=Pu.nt (λy0 y1 y2=>ke 0 K Ib ((w y0 (u y1) X.1),(u y2 X.2.1),X.2.2))
def Vq:cv:=iI Ib PE (λX=>(X.1.1,X.1.2.1,X.2.1.1))
def L58:c7:=(c7.nil).add 3 Vq
theorem UY:gE E g58 n58 L58 (aV Tryz.f58 0):=lk Ib PE (λX=>(X.1.1,X.1.2.1,X.2.1.1)) λX x=>((w x.1 (u x.2.1) X.1),(u x.2.2 X.2.1),X.2.2)
theorem o58:aR Tryz.prog 58 e58:=aR.kU (kP (Γ:=g58) (an:=n58) (Λ:=L58) ((base.add KS).add YI) Tryz.func58 (by kernel_rfl) (ao (cF UY nF))) (λx a=>by kernel_rfl)
def XV:bd:=fI (.pair (.sl .arg0 (.int .u8)) (.pair (.int .i64) (.int .i64))) [] [rS] λx a=>Pu.k8 x
theorem o67:aR Tryz.prog 67 XV:=aR.kU (kP (an:={}) (Λ:=c7.nil) ((((base.add OB).add KS).add Z8).add J0) Tryz.func67 (by kernel_rfl) (ao nF)) (λx a=>by kernel_rfl)
def e60:bd:=fI (.pair (.sl .arg0 (.int .u8)) (.pair (.int .i64) (.int .i64))) [] [(true,(.sl (.own none) .str))] λx a=>Pu.nW x
def g60:cG:=(((cG.nil.add 55 Us).add 62 WH).add 67 XV).add 124 Ql
def n60:An:={mask:=mk [(3,[0,2,3,4])],mv:=[18,28],mb:=mg [(18,3)],sb:=mg [(27,3)]}
abbrev Ic:SD:=⟨.ptr 0 0::B::.ptr 2 0::.ptr 3 0::DI::bs 24 [],(some Y2)::Z::(some (.sl (.own (some 24577)) .str))::(some (.sl (.own (some 36865)) .str))::zs 25 [],.ptr⟩
def PF {R:Type}(X:SD.D Ic)(K:Ex→AS→Option R):=Pu.nn (λy0 y1 y2=>ke 0 K Ic ((u y0 X.1),(w y1 (z1 (u y2)) X.2.1),X.2.2)) X.2.1.2.1
def Vr:cv:=iI Ic PF (λX=>(X.1.1,X.2.1.1,X.2.1.2.2.1))
def L60:c7:=(c7.nil).add 3 Vr
theorem UZ:gE E g60 n60 L60 (aV Tryz.f60 0):=lk Ic PF (λX=>(X.1.1,X.2.1.1,X.2.1.2.2.1)) λX x=>((u x.1 X.1),(w x.2.1 (z1 (u x.2.2)) X.2.1),X.2.2)
theorem o60:aR Tryz.prog 60 e60:=aR.kU (kP (Γ:=g60) (an:=n60) (Λ:=L60) ((((base.add Pf).add Wr).add o67).add J0) Tryz.func60 (by kernel_rfl) (ao (cF UZ nF))) (λx a=>by kernel_rfl)
def e20:bd:=fI (.pair (.sl .arg0 (.int .u8)) (.pair (.int .i64) (.int .i64))) [] [(true,Y8)] λx a=>Pu.qv x
def UG:cG:=(((((((((cG.nil.add 53 e53).add 54 e54).add 55 Us).add 56 WG).add 57 e57).add 58 e58).add 59 Ut).add 60 e60).add 61 e61).add 62 WH
def Pe:An:={mask:=mk [(2,[0,2,3]),(1000006,[0,2,3]),(1000007,[0,2,3]),(1000008,[0,2,3]),(1000009,[0,2,3]),(1000014,[0,2,3,4]),(1000015,[0,2,3])],cut:=[3,4,7],mv:=[35,49,52,66,80,82],sb:=mg [(6,6),(11,11),(36,0),(39,0),(43,0),(45,0)]}
abbrev sy:SD:=⟨.ptr 0 0::B::.ptr 2 0::DI::.ptr 4 0::bs 78 [],(some Y2)::Z::(some Y3)::Z::(some (.pair (.sl (.own (some 49153)) l9) (.pair (.sl (.own (some 49156)) fV) (.pair .str (.sl (.own (some 49162)) (.int .i64))))))::zs 78 [],.ptr⟩
abbrev uC:SD:=⟨.ptr 0 0::B::.ptr 2 0::DI::bs 79 [],(some Y2)::Z::(some Y3)::zs 80 [],.ptr⟩
def wQ {R:Type}(X:SD.D sy)(K:Ex→AS→Option R):Option R:=Pu.jU (λy0=>kn K uC ((X.1.1,()),(y0,(X.2.1.2.1,())),())) (λy0 y1=>kr K uC ((X.1.1,()),(y0,(y1,())),())) X.1.1 X.2.1.1 X.2.1.2.1 X.2.1.2.2.1
def EL:cv:=CD sy wQ
abbrev pU:SD:=⟨.ptr 0 0::B::.ptr 2 0::DI::bs 79 [],(some Y2)::Z::(some Y3)::zs 80 [],.ptr⟩
def wO {R:Type}(X:SD.D pU)(K:Ex→AS→Option R):Option R:=Pu.jT (λy0=>kn K pU ((u y0 X.1),X.2)) X.1.1 X.2.1.1 X.2.1.2.1
def EJ:cv:=CD pU wO
abbrev n6:SD:=⟨.ptr 0 0::B::.ptr 2 0::DI::bs 79 [],(some Y2)::Z::(some Y3)::zs 80 [],.ptr⟩
def wP {R:Type}(X:SD.D n6)(K:Ex→AS→Option R):Option R:=Pu.mV (λy0 y1=>kn K n6 ((u y0 X.1),(u y1 X.2.1),X.2.2)) (λy0 y1=>kr K n6 (X.1,(w y0 (u y1) X.2.1),X.2.2)) X.1.1 X.2.1.1 X.2.1.2.1
def EK:cv:=CD n6 wP
abbrev Dv:SD:=⟨.ptr 0 0::B::.ptr 2 0::DI::bs 79 [],(some Y2)::Z::(some Y3)::zs 80 [],.ptr⟩
def Pr {R:Type}(X:SD.D Dv)(K:Ex→AS→Option R):=Pu.pN (λy0 y1=>ke 0 K Dv ((u y0 X.1),(u y1 X.2.1),X.2.2)) (λy0 y1 y2=>kr K Dv ((u y0 X.1),(w y1 (u y2) X.2.1),X.2.2)) X.2.1.2.1
def Vf:cv:=iI Dv Pr (λX=>(X.1.1,X.2.1.1))
def S5:c7:=((((c7.nil).add 1000014 EL).add 1000006 EJ).add 1000008 EK).add 2 Vf
theorem Et:zP E UG Pe S5 (ga Pe.cut Tryz.f20 1):=ck sy wQ
theorem Er:zP E UG Pe S5 (ga Pe.cut Tryz.f20 2):=ck pU wO
theorem Es:zP E UG Pe S5 (ga Pe.cut Tryz.f20 0):=ck n6 wP
theorem UM:gE E UG Pe S5 (aV Tryz.f20 0):=lk Dv Pr (λX=>(X.1.1,X.2.1.1)) λX x=>((u x.1 X.1),(u x.2 X.2.1),X.2.2)
theorem o20:aR Tryz.prog 20 e20:=aR.kU (kP (Γ:=UG) (an:=Pe) (Λ:=S5) ((((((((((base.add o53).add o54).add Pf).add OB).add o57).add o58).add KS).add o60).add Z8).add Wr) Tryz.func20 (by kernel_rfl) (ac (cF UM nF) (cF Es (cF Et (cF Er nF))))) (λx a=>by kernel_rfl)
def Xm:bd:=fI (.pair (.sl .arg0 (.int .u8)) (.pair (.int .i64) (.int .i64))) [] [rI] λx a=>Pu.oR x
theorem Zr:aR Tryz.prog 203 Xm:=aR.kU (kP (an:={}) (Λ:=c7.nil) (base.add KS) Tryz.func203 (by kernel_rfl) (ao nF)) (λx a=>by kernel_rfl)
def XJ:bd:=fI (.pair (.sl .arg0 (.int .u8)) (.pair (.int .i64) (.int .i64))) [] [rI] λx a=>Pu.nU x
theorem ZQ:aR Tryz.prog 270 XJ:=aR.kU (kP (an:={}) (Λ:=c7.nil) (base.add OB) Tryz.func270 (by kernel_rfl) (ao nF)) (λx a=>by kernel_rfl)
def Xn:bd:=fI (.pair (.sl .arg0 (.int .u8)) (.pair (.int .i64) (.int .i64))) [pI] [(true,(.pair (.int .i64) (.pair (.int .i64) (.pair (.int .i64) (.pair (.int .i64) (.pair (.int .i64) (.pair (.int .i64) (.pair (.int .i64) .str))))))))] λx a=>Pu.lD x a.1
theorem Zs:aR Tryz.prog 204 Xn:=aR.kU (kP (an:={}) (Λ:=c7.nil) (((((base.add Pf).add OB).add KS).add J0).add ZQ) Tryz.func204 (by kernel_rfl) (ao nF)) (λx a=>by kernel_rfl)
def TG:bd:=fI (.pair (.sl .arg0 (.int .u8)) (.pair (.int .i64) (.int .i64))) [pI] [(true,Y0)] λx a=>Pu.hY x a.1
theorem YJ:aR Tryz.prog 134 TG:=aR.kU (kP (an:={}) (Λ:=c7.nil) ((((((base.add Pf).add OB).add KS).add J0).add Zr).add Zs) Tryz.func134 (by kernel_rfl) (ao nF)) (λx a=>by kernel_rfl)
def e63:bd:=fI (.pair (.sl .arg0 (.int .u8)) (.pair (.int .i64) (.int .i64))) [pI] [(false,(.sl (.own none) dw))] λx a=>Pu.oS x a.1
def Pa:cG:=((((cG.nil.add 55 Us).add 56 WG).add 59 Ut).add 124 Ql).add 134 TG
def Ix:An:={mask:=mk [(5,[0,5,6,7,8]),(1000012,[0,5,6,7,8]),(1000013,[0,5,6,7,8]),(1000014,[0,5,6,7,8]),(1000015,[0,5,6,7,8]),(1000018,[0,5,6,7,8]),(1000019,[0,5,6,7,8]),(1000022,[0,5,6,7,8]),(1000023,[0,5,6,7,8]),(1000028,[0,5,6,7,8]),(1000029,[0,5,6,7,8]),(1000034,[0,5,6,7,8,64]),(1000035,[0,5,6,7,8])],cut:=[6,7,9,11,14,17],mv:=[47,76]}
abbrev sE:SD:=⟨.ptr 0 0::bs 4 (.data false (.sl (.own (some 61440)) dw)::.ptr 6 0::DI::DI::bs 55 (DB::bs 12 [])),(some Y2)::zs 5 ((some Y0)::zs 70 []),.ptr⟩
abbrev Cf:SD:=⟨.ptr 0 0::bs 4 (.data false (.sl (.own (some 61440)) dw)::.ptr 6 0::DI::DI::bs 68 []),(some Y2)::zs 5 ((some Y0)::zs 70 []),.ptr⟩
def w7 {R:Type}(X:SD.D sE)(K:Ex→AS→Option R):Option R:=Pu.nm (λy0=>kn K Cf ((X.1.1,(X.1.2.1,(X.1.2.2.1,()))),(X.2.1.1,(y0,())),())) X.1.1 X.1.2.1 (q2 X) (q3 X) X.2.1.1 X.2.1.2.1
def E0:cv:=CD sE w7
abbrev qd:SD:=⟨.ptr 0 0::bs 4 (.data false (.sl (.own (some 61440)) dw)::.ptr 6 0::DI::DI::bs 68 []),(some Y2)::zs 5 ((some Y0)::zs 70 []),.ptr⟩
def w6 {R:Type}(X:SD.D qd)(K:Ex→AS→Option R):Option R:=Pu.ia (λy0 y1 y2=>kn K qd ((u y0 X.1),(w y1 (u y2) X.2.1),X.2.2)) X.1.1 X.1.2.1 (q2 X) X.2.1.1 X.2.1.2.1
def EZ:cv:=CD qd w6
abbrev qc:SD:=⟨.ptr 0 0::bs 4 (.data false (.sl (.own (some 61440)) dw)::.ptr 6 0::DI::DI::bs 68 []),(some Y2)::zs 5 ((some Y0)::zs 70 []),.ptr⟩
def w5 {R:Type}(X:SD.D qc)(K:Ex→AS→Option R):Option R:=Pu.hZ (λy0 y1 y2=>kn K qc ((u y0 X.1),(w y1 (u y2) X.2.1),X.2.2)) X.1.1 X.1.2.1 (q2 X) X.2.1.1 X.2.1.2.1
def EY:cv:=CD qc w5
abbrev qb:SD:=⟨.ptr 0 0::bs 4 (.data false (.sl (.own (some 61440)) dw)::.ptr 6 0::DI::DI::bs 68 []),(some Y2)::zs 5 ((some Y0)::zs 70 []),.ptr⟩
def w4 {R:Type}(X:SD.D qb)(K:Ex→AS→Option R):Option R:=Pu.iT (λy0 y1 y2 y3=>kn K qb ((w y0 (u y1) X.1),(w y2 (u y3) X.2.1),X.2.2)) X.1.1 X.1.2.1 (q2 X) X.2.1.1 X.2.1.2.1
def EX:cv:=CD qb w4
abbrev pZ:SD:=⟨.ptr 0 0::bs 4 (.data false (.sl (.own (some 61440)) dw)::.ptr 6 0::DI::DI::bs 68 []),(some Y2)::zs 5 ((some Y0)::zs 70 []),.ptr⟩
def wZ {R:Type}(X:SD.D pZ)(K:Ex→AS→Option R):Option R:=Pu.iS (λy0=>kn K pZ ((z2 (u y0) X.1),X.2)) X.1.1 X.1.2.1 (q2 X) X.2.1.1 X.2.1.2.1
def EV:cv:=CD pZ wZ
abbrev qa:SD:=⟨.ptr 0 0::bs 4 (.data false (.sl (.own (some 61440)) dw)::.ptr 6 0::DI::DI::bs 68 []),(some Y2)::zs 5 ((some Y0)::zs 70 []),.ptr⟩
def w3 {R:Type}(X:SD.D qa)(K:Ex→AS→Option R):Option R:=Pu.lE (λy0 y1 y2 y3 y4=>kn K qa ((w y0 (w y1 (u y2)) X.1),(w y3 (u y4) X.2.1),X.2.2)) X.1.1 X.1.2.1 (q2 X) X.2.1.1 X.2.1.2.1
def EW:cv:=CD qa w3
abbrev Ig:SD:=⟨.ptr 0 0::bs 4 (.data false (.sl (.own (some 61440)) dw)::.ptr 6 0::DI::DI::bs 68 []),(some Y2)::zs 5 ((some Y0)::zs 70 []),.ptr⟩
def PH {R:Type}(X:SD.D Ig)(K:Ex→AS→Option R):=Pu.ov (λy0 y1 y2 y3 y4=>ke 0 K Ig ((w y0 (w y1 (u y2)) X.1),(w y3 (u y4) X.2.1),X.2.2))
def Vt:cv:=iI Ig PH (λX=>(X.1.1,X.1.2.1,q2 X,X.2.1.1,X.2.1.2.1))
def O4:c7:=(((((((c7.nil).add 1000034 E0).add 1000028 EZ).add 1000022 EY).add 1000018 EX).add 1000012 EV).add 1000014 EW).add 5 Vt
theorem EI:zP E Pa Ix O4 (ga Ix.cut Tryz.f63 4):=ck sE w7
theorem EH:zP E Pa Ix O4 (ga Ix.cut Tryz.f63 3):=ck qd w6
theorem EG:zP E Pa Ix O4 (ga Ix.cut Tryz.f63 2):=ck qc w5
theorem EF:zP E Pa Ix O4 (ga Ix.cut Tryz.f63 1):=ck qb w4
theorem ED:zP E Pa Ix O4 (ga Ix.cut Tryz.f63 5):=ck pZ wZ
theorem EE:zP E Pa Ix O4 (ga Ix.cut Tryz.f63 0):=ck qa w3
theorem U1:gE E Pa Ix O4 (aV Tryz.f63 0):=lk Ig PH (λX=>(X.1.1,X.1.2.1,q2 X,X.2.1.1,X.2.1.2.1)) λX x=>((w x.1 (w x.2.1 (u x.2.2.1)) X.1),(w x.2.2.2.1 (u x.2.2.2.2) X.2.1),X.2.2)
theorem o63:aR Tryz.prog 63 e63:=aR.kU (kP (Γ:=Pa) (an:=Ix) (Λ:=O4) (((((base.add Pf).add OB).add KS).add J0).add YJ) Tryz.func63 (by kernel_rfl) (ac (cF U1 nF) (cF EE (cF EF (cF EG (cF EH (cF EI (cF ED nF)))))))) (λx a=>by kernel_rfl)
def XE:bd:=aP [pf sq] [rB] (c1 Pu.jS)
theorem Wk:aR Tryz.prog 264 XE:=f0 {merge:=mg [(1,18),(4,2),(5,2)]} (base.add nh) Tryz.func264
def Xf:bd:=aP [pf dw] [rB] (c1 Pu.mP)
theorem Wf:aR Tryz.prog 187 Xf:=f0 {merge:=mg [(1,55),(3,3),(4,2)]} ((base.add nh).add Wk) Tryz.func187
def W8:bd:=aP [pf dw] [rB] (c1 Pu.nR)
theorem YK:aR Tryz.prog 135 W8:=f0 {merge:=mg [(1,2)]} (base.add Wf) Tryz.func135
def XL:bd:=aP [pI,pI,pI,pI] [rS,rB] (c4 Pu.gq)
theorem ZR:aR Tryz.prog 272 XL:=f0 {merge:=mg [(1,27)]} (((base.add nh).add J1).add J2) Tryz.func272
def Uq:bd:=aP [pI,pI] [rI] (c2 Pu.gn)
theorem Z6:aR Tryz.prog 330 Uq:=f0 {merge:=mg [(1,12)]} (base.add nh) Tryz.func330
def XR:bd:=aP [pd .str] [rI] (c1 Pu.nT)
def Yl:cG:=cG.nil.add 330 Uq
def V4:An:={mask:=mk [(3,[0,3,4])]}
abbrev Cd:SD:=⟨.data false .str::B::B::DI::DI::bs 28 [],zs 33 [],.none⟩
def Ny {R:Type}(X:SD.D Cd)(K:Ex→AS→Option R):=Pu.kB (λy0 y1=>ke 0 K Cd ((z1 (w y0 (u y1)) X.1),X.2)) X.1.1
def R0:cv:=iI Cd Ny (λX=>(X.1.2.1,q2 X))
def Ti:c7:=(c7.nil).add 3 R0
theorem Rc:gE E Yl V4 Ti (aV Tryz.f315 0):=lk Cd Ny (λX=>(X.1.2.1,q2 X)) λX x=>((z1 (w x.1 (u x.2)) X.1),X.2)
theorem Z0:aR Tryz.prog 315 XR:=fk V4 (base.add Z6) Tryz.func315 (Λ:=Ti) (cF Rc nF)
def XM:bd:=aP [pd .str] [rI] (c1 Pu.jc)
theorem Wn:aR Tryz.prog 273 XM:=f0 {} (base.add Z0) Tryz.func273
def Xo:bd:=aP [pI,pI,pf sq] [rS,rB] (c3 Pu.jw)
theorem Zt:aR Tryz.prog 205 Xo:=f0 {merge:=mg [(14,82)]} ((((((base.add J1).add Wk).add J2).add ZR).add Wn).add Sn) Tryz.func205
def XS:bd:=aP [pf To] [rB] (c1 Pu.tp)
theorem Z1:aR Tryz.prog 316 XS:=f0 {merge:=mg [(1,2)]} (base.add nh) Tryz.func316
def XN:bd:=aP [pf To] [rS,rB] (c1 Pu.nQ)
theorem ZS:aR Tryz.prog 275 XN:=f0 {} (((((base.add J1).add J2).add Wn).add Sn).add Z1) Tryz.func275
def Xp:bd:=aP [pf To] [rS,rB] (c1 Pu.oI)
theorem Zu:aR Tryz.prog 206 Xp:=f0 {} (base.add ZS) Tryz.func206
def XO:bd:=aP [pf NR] [rB] (c1 Pu.rL)
theorem ZT:aR Tryz.prog 276 XO:=f0 {merge:=mg [(1,2)]} (base.add nh) Tryz.func276
def XP:bd:=aP [pI] [rS] (c1 Pu.ff)
theorem ZU:aR Tryz.prog 277 XP:=f0 {} ((base.add J1).add J2) Tryz.func277
def Xq:bd:=aP [pf NR] [rS,rB] (c1 Pu.nM)
theorem Zv:aR Tryz.prog 207 Xq:=f0 {} (((base.add J2).add ZT).add ZU) Tryz.func207
def Xr:bd:=aP [pd .str] [rS] (c1 Pu.oL)
theorem Zw:aR Tryz.prog 208 Xr:=f0 {} (base.add Wr) Tryz.func208
def W9:bd:=aP [pf dw] [rS,rB] (c1 Pu.lr)
theorem YL:aR Tryz.prog 136 W9:=f0 {} (((((base.add Wf).add Zt).add Zu).add Zv).add Zw) Tryz.func136
def Xa:bd:=aP [pd .str] [rS] (c1 Pu.oQ)
theorem YM:aR Tryz.prog 137 Xa:=f0 {} (base.add Wd) Tryz.func137
def e64:bd:=aP [pf dw] [rS,rB] (c1 Pu.lq)
theorem o64:aR Tryz.prog 64 e64:=f0 {} (((base.add YK).add YL).add YM) Tryz.func64
def e65:bd:=fI (.pair (.sl .arg0 (.int .u8)) (.pair (.int .i64) (.int .i64))) [pf dw,pI] [(true,Y0)] λx a=>Pu.jV x a.1 a.2.1
theorem o65:aR Tryz.prog 65 e65:=aR.kU (kP (an:={}) (Λ:=c7.nil) ((base.add Pf).add OB) Tryz.func65 (by kernel_rfl) (ao nF)) (λx a=>by kernel_rfl)
def e66:bd:=fI (.pair (.sl .arg0 (.int .u8)) (.pair (.int .i64) (.int .i64))) [] [(true,NL)] λx a=>Pu.lG x
theorem o66:aR Tryz.prog 66 e66:=aR.kU (kP (an:={}) (Λ:=c7.nil) ((base.add OB).add KS) Tryz.func66 (by kernel_rfl) (ao nF)) (λx a=>by kernel_rfl)
def e21:bd:=fI (.pair (.sl .arg0 (.int .u8)) (.pair (.int .i64) (.int .i64))) [pI,pd .bool] [(false,(.sl (.own none) ej))] λx a=>Pu.o3 x a.1 a.2.1
def Lv:cG:=(((((((cG.nil.add 55 Us).add 56 WG).add 59 Ut).add 63 e63).add 64 e64).add 65 e65).add 66 e66).add 67 XV
def CG:An:={mask:=mk [(4,[0,1,2,7,8,9]),(42,[0,7,14]),(1000010,[0,1,2,7,8,9]),(1000011,[0,1,2,7,8,9]),(1000012,[0,1,2,7,8,9]),(1000013,[0,1,2,7,8,9]),(1000038,[0,1,2,7,8,9,10,11,30,46]),(1000039,[0,1,2,7,8,9,11]),(1000050,[0,1,2,7,8,9,10,11,30,63]),(1000051,[0,1,2,7,8,9,11]),(1000074,[0,1,2,7,8,9,11]),(1000075,[0,1,2,7,8,9]),(1000086,[0,7,14]),(1000087,[0,7,14]),(1000088,[0,7,14]),(1000089,[0,7,14]),(1000090,[0,7,14,158]),(1000091,[0,7,14])],cut:=[5,6,19,25,37,43,44,45],merge:=mg [(44,158)],mv:=[83,110,116,124,164]}
abbrev sB:SD:=⟨.ptr 0 0::DI::DB::bs 4 (.data false (.sl (.own (some 86016)) ej)::.data false (.sl (.own (some 98304)) dw)::DI::DI::.ptr 11 0::bs 18 (DI::bs 32 (DB::bs 101 []))),(some Y2)::zs 10 ((some Y5)::zs 153 []),.ptr⟩
abbrev B2:SD:=⟨.ptr 0 0::DI::DB::bs 4 (.data false (.sl (.own (some 86016)) ej)::.data false (.sl (.own (some 98304)) dw)::DI::B::.ptr 11 0::bs 153 []),(some Y2)::zs 10 ((some Y5)::zs 153 []),.ptr⟩
def wU {R:Type}(X:SD.D sB)(K:Ex→AS→Option R):Option R:=Pu.eH (λy0 y1 y2=>kn K B2 ((X.1.1,(X.1.2.1,(y0,(X.1.2.2.2.1,(X.1.2.2.2.2.1,()))))),(y1,(y2,())),())) X.1.1 X.1.2.1 (q2 X) (q3 X) (q4 X) (q5 X) (q6 X) (q7 X) X.2.1.1 X.2.1.2.1
def EP:cv:=CD sB wU
abbrev sA:SD:=⟨.ptr 0 0::DI::DB::bs 4 (.data false (.sl (.own (some 86016)) ej)::.data false (.sl (.own (some 98304)) dw)::DI::DI::.ptr 11 0::bs 18 (DI::bs 15 (DB::bs 118 []))),(some Y2)::zs 10 ((some Y5)::zs 153 []),.ptr⟩
abbrev B1:SD:=⟨.ptr 0 0::DI::DB::bs 4 (.data false (.sl (.own (some 86016)) ej)::.data false (.sl (.own (some 98304)) dw)::DI::B::.ptr 11 0::bs 153 []),(some Y2)::zs 10 ((some Y5)::zs 153 []),.ptr⟩
def wT {R:Type}(X:SD.D sA)(K:Ex→AS→Option R):Option R:=Pu.eG (λy0 y1 y2=>kn K B1 ((X.1.1,(X.1.2.1,(y0,(X.1.2.2.2.1,(X.1.2.2.2.2.1,()))))),(y1,(y2,())),())) X.1.1 X.1.2.1 (q2 X) (q3 X) (q4 X) (q5 X) (q6 X) (q7 X) X.2.1.1 X.2.1.2.1
def EO:cv:=CD sA wT
abbrev sC:SD:=⟨.ptr 0 0::DI::DB::bs 4 (.data false (.sl (.own (some 86016)) ej)::.data false (.sl (.own (some 98304)) dw)::DI::B::.ptr 11 0::bs 153 []),(some Y2)::zs 10 ((some Y5)::zs 153 []),.ptr⟩
abbrev B3:SD:=⟨.ptr 0 0::DI::DB::bs 4 (.data false (.sl (.own (some 86016)) ej)::.data false (.sl (.own (some 98304)) dw)::DI::bs 155 []),(some Y2)::zs 164 [],.ptr⟩
def wV {R:Type}(X:SD.D sC)(K:Ex→AS→Option R):Option R:=Pu.eI (λy0 y1=>kn K B3 ((X.1.1,(X.1.2.1,(y0,(X.1.2.2.2.1,(X.1.2.2.2.2.1,()))))),(y1,()),())) X.1.1 X.1.2.1 (q2 X) (q3 X) (q4 X) X.2.1.1 X.2.1.2.1
def ER:cv:=CD sC wV
abbrev pV:SD:=⟨.ptr 0 0::DI::DB::bs 4 (.data false (.sl (.own (some 86016)) ej)::.data false (.sl (.own (some 98304)) dw)::DI::bs 155 []),(some Y2)::zs 164 [],.ptr⟩
def wR {R:Type}(X:SD.D pV)(K:Ex→AS→Option R):Option R:=Pu.fU (λy0=>kn K pV ((z4 (u y0) X.1),X.2)) X.1.1 X.1.2.1 (q2 X) (q3 X) (q4 X) X.2.1.1
def EM:cv:=CD pV wR
abbrev pW:SD:=⟨.ptr 0 0::DI::DB::bs 4 (.data false (.sl (.own (some 86016)) ej)::.data false (.sl (.own (some 98304)) dw)::DI::bs 155 []),(some Y2)::zs 164 [],.ptr⟩
def wS {R:Type}(X:SD.D pW)(K:Ex→AS→Option R):Option R:=Pu.lH (λy0 y1 y2=>kn K pW ((z2 (w y0 (z1 (u y1))) X.1),(u y2 X.2.1),X.2.2)) X.1.1 X.1.2.1 (q2 X) (q3 X) (q4 X) X.2.1.1
def EN:cv:=CD pW wS
abbrev H8:SD:=⟨.ptr 0 0::DI::DB::bs 4 (.data false (.sl (.own (some 86016)) ej)::.data false (.sl (.own (some 98304)) dw)::DI::bs 155 []),(some Y2)::zs 164 [],.ptr⟩
def Ps {R:Type}(X:SD.D H8)(K:Ex→AS→Option R):=Pu.ow (λy0 y1 y2=>ke 0 K H8 ((z2 (w y0 (z1 (u y1))) X.1),(u y2 X.2.1),X.2.2)) X.1.1 X.1.2.1 (q3 X)
def Vg:cv:=iI H8 Ps (λX=>(q2 X,q4 X,X.2.1.1))
abbrev sD:SD:=⟨.ptr 0 0::bs 6 (.data false (.sl (.own (some 86016)) ej)::bs 6 (DI::bs 143 (DB::bs 6 []))),(some Y2)::zs 164 [],.ptr⟩
abbrev B4:SD:=⟨.ptr 0 0::bs 6 (.data false (.sl (.own (some 86016)) ej)::bs 6 (DI::bs 150 [])),(some Y2)::zs 164 [],.ptr⟩
def wY {R:Type}(X:SD.D sD)(K:Ex→AS→Option R):Option R:=Pu.nq (λy0=>kn K B4 ((y0,(X.1.2.1,())),(X.2.1.1,()),())) X.1.1 X.1.2.1 (q2 X) X.2.1.1
def EU:cv:=CD sD wY
abbrev pX:SD:=⟨.ptr 0 0::bs 6 (.data false (.sl (.own (some 86016)) ej)::bs 6 (DI::bs 150 [])),(some Y2)::zs 164 [],.ptr⟩
def wW {R:Type}(X:SD.D pX)(K:Ex→AS→Option R):Option R:=Pu.kD (λy0=>kn K pX ((z1 (u y0) X.1),X.2)) X.1.1 X.1.2.1 X.2.1.1
def ES:cv:=CD pX wW
abbrev pY:SD:=⟨.ptr 0 0::bs 6 (.data false (.sl (.own (some 86016)) ej)::bs 6 (DI::bs 150 [])),(some Y2)::zs 164 [],.ptr⟩
def wX {R:Type}(X:SD.D pY)(K:Ex→AS→Option R):Option R:=Pu.np (λy0 y1=>kn K pY ((w y0 (u y1) X.1),X.2)) X.1.1 X.1.2.1 X.2.1.1
def ET:cv:=CD pY wX
abbrev B5:SD:=⟨.ptr 0 0::bs 6 (.data false (.sl (.own (some 86016)) ej)::bs 6 (DI::bs 150 [])),(some Y2)::zs 164 [],.ptr⟩
def Nn {R:Type}(X:SD.D B5)(K:Ex→AS→Option R):=Pu.nr (λy0 y1=>ke 3 K B5 ((w y0 (u y1) X.1),X.2)) X.2.1.1
def RO:cv:=iI B5 Nn (λX=>(X.1.1,X.1.2.1))
def KU:c7:=((((((((((c7.nil).add 1000050 EP).add 1000038 EO).add 1000074 ER).add 1000010 EM).add 1000012 EN).add 4 Vg).add 1000090 EU).add 1000086 ES).add 1000088 ET).add 42 RO
theorem Ey:zP E Lv CG KU (ga CG.cut Tryz.f21 2):=ck sB wU
theorem Ew:zP E Lv CG KU (ga CG.cut Tryz.f21 1):=ck sA wT
theorem Ez:zP E Lv CG KU (ga CG.cut Tryz.f21 3):=ck sC wV
theorem Eu:zP E Lv CG KU (ga CG.cut Tryz.f21 4):=ck pV wR
theorem Ev:zP E Lv CG KU (ga CG.cut Tryz.f21 0):=ck pW wS
theorem UN:gE E Lv CG KU (aV Tryz.f21 0):=lk H8 Ps (λX=>(q2 X,q4 X,X.2.1.1)) λX x=>((z2 (w x.1 (z1 (u x.2.1))) X.1),(u x.2.2 X.2.1),X.2.2)
theorem EC:zP E Lv CG KU (ga CG.cut Tryz.f21 6):=ck sD wY
theorem EA:zP E Lv CG KU (ga CG.cut Tryz.f21 7):=ck pX wW
theorem EB:zP E Lv CG KU (ga CG.cut Tryz.f21 5):=ck pY wX
theorem Q1:gE E Lv CG KU (aV Tryz.f21 1):=lk B5 Nn (λX=>(X.1.1,X.1.2.1)) λX x=>((w x.1 (u x.2) X.1),X.2)
theorem o21:aR Tryz.prog 21 e21:=aR.kU (kP (Γ:=Lv) (an:=CG) (Λ:=KU) ((((((((base.add Pf).add OB).add KS).add o63).add o64).add o65).add o66).add o67) Tryz.func21 (by kernel_rfl) (ac (cF UN (cF Q1 nF)) (cF Ev (cF Ew (cF Ey (cF Ez (cF Eu (cF EB (cF EC (cF EA nF)))))))))) (λx a=>by kernel_rfl)
def e8:bd:=aP [pd (.sl (.int .u8))] [(true,Y8),(false,(.sl (.own none) ej))] (c1 Pu.nN)
theorem o8:aR Tryz.prog 8 e8:=f0 {late:=[10],sb:=mg [(2,2),(11,7)]} (((base.add o19).add o20).add o21) Tryz.func8
def e9:bd:=aP [pd (.sl (.int .u8)),pI] [rI] (c2 Pu.tj)
theorem o9:aR Tryz.prog 9 e9:=f0 {} base Tryz.func9
def Li:bd:=aP [pI,pI,pI] [rB] (c3 Pu.az)
theorem yP:aR Tryz.prog 23 Li:=f0 {merge:=mg [(1,6)]} base Tryz.func23
def WJ:bd:=aP [pf il] [rB] (c1 Pu.eg)
def g76:cG:=cG.nil.add 23 Li
def n76:An:={mask:=mk [(2,[1,2,6,7,8])],merge:=mg [(4,29),(7,2)]}
abbrev DE:SD:=⟨B::.ptr 1 0::DB::B::B::B::.data false (.sl .arg (.int .i64))::DI::DI::bs 31 [],Z::(some SJ)::zs 38 [],.none⟩
def PK {R:Type}(X:SD.D DE)(K:Ex→AS→Option R):=Pu.kf (λy0=>ke 0 K DE ((z3 (u y0) X.1),X.2)) (λy0 y1=>kr K DE ((w y0 (z2 (u y1)) X.1),X.2)) X.1.1 X.1.2.1 (q2 X) X.2.1.1
def Vw:cv:=iI DE PK q3
def L76:c7:=(c7.nil).add 2 Vw
theorem U4:gE E g76 n76 L76 (aV Tryz.f76 0):=lk DE PK q3 λX x=>((z3 (u x) X.1),X.2)
theorem SP:aR Tryz.prog 76 WJ:=fk n76 (base.add yP) Tryz.func76 (Λ:=L76) (cF U4 nF)
def e26:bd:=aP [pf cP] [rB] (c1 Pu.jL)
theorem o26:aR Tryz.prog 26 e26:=f0 {merge:=mg [(1,2)]} ((base.add yP).add SP) Tryz.func26
def WE:bd:=aP [pd (.sl (.int .i64)),pI] [rB] (c2 Pu.ig)
def g27:cG:=cG.nil
def n27:An:={mask:=mk [(2,[1,4,7,8,9])]}
abbrev Dw:SD:=⟨B::DI::B::B::DB::B::B::.data false (.sl .arg (.int .i64))::DI::DI::bs 7 [],zs 17 [],.none⟩
def Pv {R:Type}(X:SD.D Dw)(K:Ex→AS→Option R):=Pu.sJ (λy0=>ke 0 K Dw ((z4 (u y0) X.1),X.2)) (λy0 y1=>kr K Dw ((z1 (w y0 (z2 (u y1))) X.1),X.2)) X.1.1 X.1.2.1 (q2 X) (q3 X)
def Vi:cv:=iI Dw Pv q4
def L27:c7:=(c7.nil).add 2 Vi
theorem UP:gE E g27 n27 L27 (aV Tryz.f27 0):=lk Dw Pv q4 λX x=>((z4 (u x) X.1),X.2)
theorem WL:aR Tryz.prog 27 WE:=fk n27 base Tryz.func27 (Λ:=L27) (cF UP nF)
def e28:bd:=aP [pd (.sl (.int .i64)),pI] [(false,(.sl (.own none) (.int .i64)))] (c2 Pu.eZ)
def g28:cG:=cG.nil
def n28:An:={mask:=mk [(4,[1,5,6,10,11,12])],merge:=mg [(6,22)],mv:=[23,27,34,38]}
abbrev Ia:SD:=⟨B::DI::B::B::B::.data false (.sl (.own (some 61440)) (.int .i64))::DB::B::B::B::.data false (.sl .arg (.int .i64))::DI::DI::bs 26 [],zs 39 [],.none⟩
def Pw {R:Type}(X:SD.D Ia)(K:Ex→AS→Option R):=Pu.fK (λy0 y1 y2=>ke 0 K Ia ((z1 (w y0 (w y1 (z2 (u y2)))) X.1),X.2)) X.1.1 (q3 X) (q4 X)
def Vj:cv:=iI Ia Pw (λX=>(X.1.2.1,q2 X,q5 X))
def L28:c7:=(c7.nil).add 4 Vj
theorem UQ:gE E g28 n28 L28 (aV Tryz.f28 0):=lk Ia Pw (λX=>(X.1.2.1,q2 X,q5 X)) λX x=>((z1 (w x.1 (w x.2.1 (z2 (u x.2.2)))) X.1),X.2)
theorem o28:aR Tryz.prog 28 e28:=fk n28 base Tryz.func28 (Λ:=L28) (cF UQ nF)
def e77:bd:=aP [pf jo] [(true,SJ)] (c1 Pu.qD)
theorem o77:aR Tryz.prog 77 e77:=f0 {} base Tryz.func77
def e78:bd:=aP [pd (.sl jo),pI] [rI] (c2 Pu.nI)
def g78:cG:=cG.nil
def n78:An:={mask:=mk [(2,[1,4,7,8,9])],merge:=mg [(4,21)]}
abbrev DF:SD:=⟨B::DI::B::B::DI::B::B::.data false (.sl .arg jo)::DI::DI::bs 14 [],zs 24 [],.none⟩
def PL {R:Type}(X:SD.D DF)(K:Ex→AS→Option R):=Pu.gT (λy0=>ke 0 K DF ((z4 (u y0) X.1),X.2)) (λy0 y1=>kr K DF ((z1 (w y0 (z2 (u y1))) X.1),X.2)) X.1.1 X.1.2.1 (q2 X) (q3 X)
def Vx:cv:=iI DF PL q4
def L78:c7:=(c7.nil).add 2 Vx
theorem U5:gE E g78 n78 L78 (aV Tryz.f78 0):=lk DF PL q4 λX x=>((z4 (u x) X.1),X.2)
theorem o78:aR Tryz.prog 78 e78:=fk n78 base Tryz.func78 (Λ:=L78) (cF U5 nF)
def XQ:bd:=aP [pd (.sl jo)] [rB] (c1 Pu.ki)
def g29:cG:=((((cG.nil.add 23 Li).add 27 WE).add 76 WJ).add 77 e77).add 78 e78
def n29:An:={mask:=mk [(4,[0,2,9,10,11])],merge:=mg [(6,27),(8,37)]}
abbrev Dx:SD:=⟨.data false (.sl .arg jo)::B::DB::bs 6 (.data false (.sl .arg jo)::DI::DI::bs 27 []),zs 39 [],.none⟩
def Px {R:Type}(X:SD.D Dx)(K:Ex→AS→Option R):=Pu.lf (λy0=>ke 0 K Dx ((z4 (u y0) X.1),X.2)) (λy0 y1=>kr K Dx ((z1 (w y0 (z2 (u y1))) X.1),X.2)) X.1.1 X.1.2.1 (q2 X) (q3 X)
def Vk:cv:=iI Dx Px q4
def L29:c7:=(c7.nil).add 4 Vk
theorem UR:gE E g29 n29 L29 (aV Tryz.f29 0):=lk Dx Px q4 λX x=>((z4 (u x) X.1),X.2)
theorem o29:aR Tryz.prog 29 XQ:=fk n29 (((((base.add yP).add WL).add SP).add o77).add o78) Tryz.func29 (Λ:=L29) (cF UR nF)
def e11:bd:=aP [pd (.sl cP)] [(false,(.sl (.own none) jo)),rB] (c1 Pu.kh)
def g11:cG:=((((cG.nil.add 23 Li).add 26 e26).add 27 WE).add 28 e28).add 29 XQ
def Yq:An:={mask:=mk [(6,[2,3,4,5,18,19,20]),(12,[2,3,4,5,7,8,18,19,20,32,33,34])],mv:=[53,57,63,69]}
abbrev BO:SD:=⟨B::B::.data false (.sl (.own (some 24576)) jo)::DB::.data false (.sl (.own (some 49152)) jo)::.data false (.sl (.own (some 61440)) (.int .i64))::B::.ptr 7 0::.data false (.sl (.own (some 98304)) (.int .i64))::bs 9 (.data false (.sl .arg cP)::DI::DI::bs 11 (.data false (.sl (.own (some 393216)) (.int .i64))::DI::DI::bs 35 [])),zs 7 ((some (.pair SJ NL))::zs 62 []),.none⟩
def MY {R:Type}(X:SD.D BO)(K:Ex→AS→Option R):=Pu.fC (λy0 y1 y2=>ke 2 K BO ((z3 (w y0 (w y1 (z5 (u y2)))) X.1),X.2)) X.1.1 X.1.2.1 (q2 X) (q5 X) (q6 X) (q7 X) (q8 X) (q9 X) X.2.1.1
def Rp:cv:=iI BO MY (λX=>(q3 X,q4 X,NO X))
abbrev Dt:SD:=⟨B::B::.data false (.sl (.own (some 24576)) jo)::DB::.data false (.sl (.own (some 49152)) jo)::.data false (.sl (.own (some 61440)) (.int .i64))::bs 12 (.data false (.sl .arg cP)::DI::DI::bs 49 []),zs 70 [],.none⟩
def Po {R:Type}(X:SD.D Dt)(K:Ex→AS→Option R):=Pu.iK (λy0 y1 y2=>ke 0 K Dt ((z2 (w y0 (w y1 (z2 (u y2)))) X.1),X.2)) (λy0 y1 y2 y3 y4=>kr K Dt ((w y0 (w y1 (w y2 (w y3 (z2 (u y4))))) X.1),X.2)) X.1.1 X.1.2.1 (q4 X) (q5 X)
def Vc:cv:=iI Dt Po (λX=>(q2 X,q3 X,q6 X))
def WR:c7:=((c7.nil).add 12 Rp).add 6 Vc
theorem QE:gE E g11 Yq WR (aV Tryz.f11 1):=lk BO MY (λX=>(q3 X,q4 X,NO X)) λX x=>((z3 (w x.1 (w x.2.1 (z5 (u x.2.2)))) X.1),X.2)
theorem UJ:gE E g11 Yq WR (aV Tryz.f11 0):=lk Dt Po (λX=>(q2 X,q3 X,q6 X)) λX x=>((z2 (w x.1 (w x.2.1 (z2 (u x.2.2)))) X.1),X.2)
theorem Yv:aR Tryz.prog 11 e11:=fk Yq (((((base.add yP).add o26).add WL).add o28).add o29) Tryz.func11 (Λ:=WR) (cF UJ (cF QE nF))
def e79:bd:=aP [pf (.sl .str)] [rB] (c1 Pu.qA)
def g79:cG:=cG.nil
def n79:An:={mask:=mk [(2,[1,2,6,7,8])]}
abbrev DG:SD:=⟨B::.ptr 1 0::DB::B::B::B::.data false (.sl .arg .str)::DI::DI::bs 11 [],Z::(some (.sl .arg .str))::zs 18 [],.none⟩
def PM {R:Type}(X:SD.D DG)(K:Ex→AS→Option R):=Pu.qP (λy0=>ke 0 K DG ((z3 (u y0) X.1),X.2)) (λy0 y1=>kr K DG ((w y0 (z2 (u y1)) X.1),X.2)) X.1.1 X.1.2.1 (q2 X) X.2.1.1
def Vy:cv:=iI DG PM q3
def L79:c7:=(c7.nil).add 2 Vy
theorem U6:gE E g79 n79 L79 (aV Tryz.f79 0):=lk DG PM q3 λX x=>((z3 (u x) X.1),X.2)
theorem o79:aR Tryz.prog 79 e79:=fk n79 base Tryz.func79 (Λ:=L79) (cF U6 nF)
def TN:bd:=aP [pd (.sl cD),pI,pI] [rI] (c3 Pu.ko)
def X2:cG:=cG.nil
def VL:An:={mask:=mk [(2,[1,2,6,9,10,11])],merge:=mg [(4,25)]}
abbrev xO:SD:=⟨B::DI::DI::B::B::B::DI::B::B::.data false (.sl .arg cD)::DI::DI::bs 16 [],zs 28 [],.none⟩
def M5 {R:Type}(X:SD.D xO)(K:Ex→AS→Option R):=Pu.gJ (λy0=>ke 0 K xO ((z5 (u y0) X.1),X.2)) (λy0 y1=>kr K xO ((z2 (w y0 (z2 (u y1))) X.1),X.2)) X.1.1 X.1.2.1 (q2 X) (q3 X) (q4 X)
def Rv:cv:=iI xO M5 q5
def SY:c7:=(c7.nil).add 2 Rv
theorem QK:gE E X2 VL SY (aV Tryz.f145 0):=lk xO M5 q5 λX x=>((z5 (u x) X.1),X.2)
theorem YT:aR Tryz.prog 145 TN:=fk VL base Tryz.func145 (Λ:=SY) (cF QK nF)
def e80:bd:=aP [pd (.sl cD)] [rB] (c1 Pu.ld)
def g80:cG:=(cG.nil.add 23 Li).add 145 TN
def n80:An:={mask:=mk [(2,[0,2,5,6,7])],merge:=mg [(4,37)]}
abbrev DH:SD:=⟨.data false (.sl .arg cD)::B::DB::B::B::.data false (.sl .arg cD)::DI::DI::bs 34 [],zs 42 [],.none⟩
def PN {R:Type}(X:SD.D DH)(K:Ex→AS→Option R):=Pu.iu (λy0=>ke 0 K DH ((z4 (u y0) X.1),X.2)) (λy0 y1=>kr K DH ((z1 (w y0 (z2 (u y1))) X.1),X.2)) X.1.1 X.1.2.1 (q2 X) (q3 X)
def Vz:cv:=iI DH PN q4
def L80:c7:=(c7.nil).add 2 Vz
theorem U7:gE E g80 n80 L80 (aV Tryz.f80 0):=lk DH PN q4 λX x=>((z4 (u x) X.1),X.2)
theorem o80:aR Tryz.prog 80 e80:=fk n80 ((base.add yP).add YT) Tryz.func80 (Λ:=L80) (cF U7 nF)
def XX:bd:=aP [pf lS] [rB] (c1 Pu.jM)
def g83:cG:=cG.nil.add 23 Li
def n83:An:={mask:=mk [(5,[1,2,3,26,27,28])],merge:=mg [(1,21),(7,43)]}
abbrev DK:SD:=⟨B::.ptr 1 0::DB::.data false (.sl (.own (some 36864)) .bool)::bs 22 (.data false (.sl .arg (.int .i64))::DI::DI::bs 19 []),Z::(some Tq)::zs 46 [],.none⟩
def PQ {R:Type}(X:SD.D DK)(K:Ex→AS→Option R):=Pu.mq (λy0 y1=>ke 0 K DK ((z1 (w y0 (z2 (u y1))) X.1),X.2)) (λy0 y1 y2=>kr K DK ((w y0 (w y1 (z2 (u y2))) X.1),X.2)) X.1.1 (q2 X) (q3 X) X.2.1.1
def VB:cv:=iI DK PQ (λX=>(X.1.2.1,q4 X))
def L83:c7:=(c7.nil).add 5 VB
theorem U9:gE E g83 n83 L83 (aV Tryz.f83 0):=lk DK PQ (λX=>(X.1.2.1,q4 X)) λX x=>((z1 (w x.1 (z2 (u x.2))) X.1),X.2)
theorem o83:aR Tryz.prog 83 XX:=fk n83 (base.add yP) Tryz.func83 (Λ:=L83) (cF U9 nF)
def Xx:bd:=aP [pI] [rB] (c1 Pu.kR)
theorem Sm:aR Tryz.prog 214 Xx:=f0 {merge:=mg [(1,2)]} base Tryz.func214
def Ub:bd:=aP [pI,pI] [rI] (c2 Pu.gj)
theorem Wh:aR Tryz.prog 254 Ub:=f0 {} base Tryz.func254
def Xy:bd:=aP [pf jF] [rI] (c1 Pu.nD)
theorem ZC:aR Tryz.prog 215 Xy:=f0 {} ((base.add Sm).add Wh) Tryz.func215
def TO:bd:=aP [pf jF] [rB] (c1 Pu.n9)
theorem We:aR Tryz.prog 146 TO:=f0 {merge:=mg [(1,2)]} (((base.add yP).add Sm).add ZC) Tryz.func146
def WI:bd:=aP [pd (.sl (.int .i64))] [(false,(.sl (.own none) (.int .i64)))] (c1 Pu.ei)
theorem SO:aR Tryz.prog 71 WI:=f0 {} base Tryz.func71
def TK:bd:=aP [pf lS] [(true,SH)] (c1 Pu.gv)
theorem Sj:aR Tryz.prog 141 TK:=f0 {mv:=[7]} (base.add SO) Tryz.func141
def TP:bd:=aP [pf lS,pd (.sl (.int .i64))] [(true,SH),rB] (c2 Pu.fB)
theorem YU:aR Tryz.prog 147 TP:=f0 {merge:=mg [(3,21)],mv:=[10,24]} ((base.add o83).add Sj) Tryz.func147
def e81:bd:=aP [pf pg] [rB] (c1 Pu.ti)
def g81:cG:=(((cG.nil.add 23 Li).add 83 XX).add 146 TO).add 147 TP
def n81:An:={mask:=mk [(6,[1,2,3,4,30,31,32])],merge:=mg [(1,24),(8,50)],mv:=[55]}
abbrev DJ:SD:=⟨B::.ptr 1 0::DB::DI::.data false (.sl (.own (some 49152)) (.int .i64))::bs 25 (.data false (.sl .arg ma)::DI::DI::bs 35 []),Z::(some (.pair Y1 (.pair Tq (.pair (.sl .arg ma) (.int .i64)))))::zs 66 [],.none⟩
def PO {R:Type}(X:SD.D DJ)(K:Ex→AS→Option R):=Pu.mx (λy0 y1 y2=>ke 0 K DJ ((z1 (w y0 (w y1 (z2 (u y2)))) X.1),X.2)) (λy0 y1 y2 y3=>kr K DJ ((w y0 (w y1 (w y2 (z2 (u y3)))) X.1),X.2)) X.1.1 (q3 X) (q4 X) X.2.1.1
def VA:cv:=iI DJ PO (λX=>(X.1.2.1,q2 X,q5 X))
def L81:c7:=(c7.nil).add 6 VA
theorem U8:gE E g81 n81 L81 (aV Tryz.f81 0):=lk DJ PO (λX=>(X.1.2.1,q2 X,q5 X)) λX x=>((z1 (w x.1 (w x.2.1 (z2 (u x.2.2)))) X.1),X.2)
theorem o81:aR Tryz.prog 81 e81:=fk n81 ((((base.add yP).add o83).add We).add YU) Tryz.func81 (Λ:=L81) (cF U8 nF)
def Xc:bd:=aP [pf fO] [rB] (c1 Pu.mr)
theorem YV:aR Tryz.prog 148 Xc:=f0 {merge:=mg [(1,2)]} ((base.add yP).add Sm) Tryz.func148
def Xz:bd:=aP [pf sq] [rB] (c1 Pu.mu)
theorem ZD:aR Tryz.prog 216 Xz:=f0 {merge:=mg [(1,18),(5,2),(7,2)]} (base.add yP) Tryz.func216
def XA:bd:=aP [pI] [rB] (c1 Pu.mC)
theorem ZE:aR Tryz.prog 217 XA:=f0 {merge:=mg [(1,2)]} base Tryz.func217
def Xd:bd:=aP [pf dw] [rB] (c1 Pu.oE)
theorem YW:aR Tryz.prog 149 Xd:=f0 {merge:=mg [(1,2)]} (((base.add yP).add ZD).add ZE) Tryz.func149
def e82:bd:=aP [pf iJ] [rB] (c1 Pu.th)
theorem o82:aR Tryz.prog 82 e82:=f0 {merge:=mg [(1,42),(5,2)]} ((((base.add yP).add We).add YV).add YW) Tryz.func82
def Xe:bd:=aP [pf im] [rB] (c1 Pu.yx)
theorem YX:aR Tryz.prog 150 Xe:=f0 {merge:=mg [(1,2)]} base Tryz.func150
def e84:bd:=aP [pf im] [rB] (c1 Pu.qC)
theorem o84:aR Tryz.prog 84 e84:=f0 {merge:=mg [(1,24),(3,2)]} ((base.add yP).add YX) Tryz.func84
def T7:bd:=aP [pf l9] [rB] (c1 Pu.wA)
theorem ZF:aR Tryz.prog 218 T7:=f0 {merge:=mg [(1,33),(3,54),(5,2)]} (base.add yP) Tryz.func218
def TQ:bd:=aP [pd (.sl l9)] [rB] (c1 Pu.rp)
def X3:cG:=cG.nil.add 218 T7
def VM:An:={mask:=mk [(2,[0,2,5,6,7])]}
abbrev xP:SD:=⟨.data false (.sl .arg l9)::B::DB::B::B::.data false (.sl .arg l9)::DI::DI::bs 10 [],zs 18 [],.none⟩
def M6 {R:Type}(X:SD.D xP)(K:Ex→AS→Option R):=Pu.sf (λy0=>ke 0 K xP ((z4 (u y0) X.1),X.2)) (λy0 y1=>kr K xP ((z1 (w y0 (z2 (u y1))) X.1),X.2)) X.1.1 X.1.2.1 (q2 X) (q3 X)
def Rx:cv:=iI xP M6 q4
def SZ:c7:=(c7.nil).add 2 Rx
theorem QL:gE E X3 VM SZ (aV Tryz.f151 0):=lk xP M6 q4 λX x=>((z4 (u x) X.1),X.2)
theorem YY:aR Tryz.prog 151 TQ:=fk VM (base.add ZF) Tryz.func151 (Λ:=SZ) (cF QL nF)
def T8:bd:=aP [pf (.sl fV),pf rV] [rI] (c2 Pu.qi)
def Yb:cG:=cG.nil
def VU:An:={mask:=mk [(2,[3,4,8,9,10])],merge:=mg [(4,23)]}
abbrev xX:SD:=⟨B::B::B::.ptr 3 0::DI::B::B::B::.data false (.sl .arg fV)::DI::DI::bs 15 [],Z::Z::Z::(some (.pair (.int .i64) Y1))::zs 22 [],.none⟩
def Nm {R:Type}(X:SD.D xX)(K:Ex→AS→Option R):=Pu.mB (λy0=>ke 0 K xX ((z3 (u y0) X.1),X.2)) (λy0 y1=>kr K xX ((w y0 (z2 (u y1)) X.1),X.2)) X.1.1 X.1.2.1 (q2 X) X.2.1.1
def RN:cv:=iI xX Nm q3
def S8:c7:=(c7.nil).add 2 RN
theorem Q0:gE E Yb VU S8 (aV Tryz.f219 0):=lk xX Nm q3 λX x=>((z3 (u x) X.1),X.2)
theorem ZG:aR Tryz.prog 219 T8:=fk VU base Tryz.func219 (Λ:=S8) (cF Q0 nF)
def Uh:bd:=aP [pf rV] [rI] (c1 Pu.nC)
def Yi:cG:=cG.nil.add 254 Ub
def V1:An:={mask:=mk [(3,[3,16,17,18])]}
abbrev Ca:SD:=⟨B::B::B::DI::bs 12 (.data false (.sl (.own (some 196608)) (.int .i64))::DI::DI::bs 10 []),zs 29 [],.none⟩
def Nu {R:Type}(X:SD.D Ca)(K:Ex→AS→Option R):=Pu.gS (λy0 y1=>ke 0 K Ca ((w y0 (z2 (u y1)) X.1),X.2)) X.1.2.1 (q2 X)
def RV:cv:=iI Ca Nu (λX=>(X.1.1,q3 X))
def Tf:c7:=(c7.nil).add 3 RV
theorem Q8:gE E Yi V1 Tf (aV Tryz.f278 0):=lk Ca Nu (λX=>(X.1.1,q3 X)) λX x=>((w x.1 (z2 (u x.2)) X.1),X.2)
theorem ZV:aR Tryz.prog 278 Uh:=fk V1 (base.add Wh) Tryz.func278 (Λ:=Tf) (cF Q8 nF)
def T9:bd:=aP [pf rV] [(false,(.sl (.own none) (.int .i64)))] (c1 Pu.rq)
def Yc:cG:=cG.nil.add 278 Uh
def VV:An:={mask:=mk [(3,[1,3,4])],mv:=[10,18]}
abbrev B6:SD:=⟨B::.ptr 1 0::B::.data false (.sl (.own (some 36864)) (.int .i64))::DI::bs 14 [],Z::(some (.pair (.int .i64) Y1))::zs 17 [],.none⟩
def No {R:Type}(X:SD.D B6)(K:Ex→AS→Option R):=Pu.kS (λy0 y1=>ke 0 K B6 ((w y0 (u y1) X.1),X.2)) X.2.1.1
def RP:cv:=iI B6 No (λX=>(X.1.1,X.1.2.1))
def S9:c7:=(c7.nil).add 3 RP
theorem Q2:gE E Yc VV S9 (aV Tryz.f220 0):=lk B6 No (λX=>(X.1.1,X.1.2.1)) λX x=>((w x.1 (u x.2) X.1),X.2)
theorem ZH:aR Tryz.prog 220 T9:=fk VV (base.add ZV) Tryz.func220 (Λ:=S9) (cF Q2 nF)
def TR:bd:=aP [pf (.sl fV)] [rB] (c1 Pu.mw)
def UC:cG:=((cG.nil.add 23 Li).add 219 T8).add 220 T9
def Sb:An:={mask:=mk [(4,[1,2,12,13,14]),(14,[1,2,3,12,13,14,49,50,51])],merge:=mg [(6,28),(9,40)]}
abbrev uB:SD:=⟨B::.ptr 1 0::DB::DI::bs 8 (.data false (.sl .arg fV)::DI::DI::bs 34 (.data false (.sl (.own (some 602112)) (.int .i64))::DI::DI::bs 15 [])),Z::(some (.sl .arg fV))::zs 65 [],.none⟩
def IY {R:Type}(X:SD.D uB)(K:Ex→AS→Option R):=Pu.fD (λy0=>ke 2 K uB ((z7 (u y0) X.1),X.2)) (λy0 y1=>kr K uB ((w y0 (z6 (u y1)) X.1),X.2)) X.1.1 X.1.2.1 (q2 X) (q3 X) (q4 X) (q5 X) (q6 X) X.2.1.1
def Oo:cv:=iI uB IY q7
abbrev xQ:SD:=⟨B::.ptr 1 0::DB::bs 9 (.data false (.sl .arg fV)::DI::DI::bs 52 []),Z::(some (.sl .arg fV))::zs 65 [],.none⟩
def M7 {R:Type}(X:SD.D xQ)(K:Ex→AS→Option R):=Pu.lh (λy0=>ke 0 K xQ ((z3 (u y0) X.1),X.2)) (λy0 y1=>kr K xQ ((w y0 (z2 (u y1)) X.1),X.2)) X.1.1 X.1.2.1 (q2 X) X.2.1.1
def Ry:cv:=iI xQ M7 q3
def P4:c7:=((c7.nil).add 14 Oo).add 4 Ry
theorem Ol:gE E UC Sb P4 (aV Tryz.f152 1):=lk uB IY q7 λX x=>((z7 (u x) X.1),X.2)
theorem QM:gE E UC Sb P4 (aV Tryz.f152 0):=lk xQ M7 q3 λX x=>((z3 (u x) X.1),X.2)
theorem YZ:aR Tryz.prog 152 TR:=fk Sb (((base.add yP).add ZG).add ZH) Tryz.func152 (Λ:=P4) (cF QM (cF Ol nF))
def Ua:bd:=aP [pI] [rB] (c1 Pu.sK)
theorem ZI:aR Tryz.prog 221 Ua:=f0 {merge:=mg [(1,2)]} base Tryz.func221
def TS:bd:=aP [pf um,pI] [rB] (c2 Pu.qB)
def X4:cG:=(cG.nil.add 23 Li).add 221 Ua
def VN:An:={mask:=mk [(4,[1,4,24,25,26])],merge:=mg [(1,22)]}
abbrev xR:SD:=⟨B::DI::B::B::DB::bs 19 (.data false (.sl .arg (.int .i64))::DI::DI::bs 9 []),zs 36 [],.none⟩
def M8 {R:Type}(X:SD.D xR)(K:Ex→AS→Option R):=Pu.qQ (λy0=>ke 0 K xR ((z4 (u y0) X.1),X.2)) (λy0 y1=>kr K xR ((z1 (w y0 (z2 (u y1))) X.1),X.2)) X.1.1 X.1.2.1 (q2 X) (q3 X)
def Rz:cv:=iI xR M8 q4
def S0:c7:=(c7.nil).add 4 Rz
theorem QN:gE E X4 VN S0 (aV Tryz.f153 0):=lk xR M8 q4 λX x=>((z4 (u x) X.1),X.2)
theorem Za:aR Tryz.prog 153 TS:=fk VN ((base.add yP).add ZI) Tryz.func153 (Λ:=S0) (cF QN nF)
def e85:bd:=aP [pf jW,pI] [rB] (c2 Pu.lg)
def g85:cG:=((cG.nil.add 151 TQ).add 152 TR).add 153 TS
def Yt:An:={mask:=mk [(4,[1,2,4,27,28,29]),(10,[1,4,45,46,47])],merge:=mg [(1,25),(6,41),(12,59)]}
abbrev DL:SD:=⟨B::DI::.ptr 2 0::B::DB::bs 22 (.data false (.sl .arg l9)::DI::DI::bs 31 []),Z::Z::(some SI)::zs 58 [],.none⟩
def PR {R:Type}(X:SD.D DL)(K:Ex→AS→Option R):=Pu.iv (λy0=>ke 0 K DL ((z4 (u y0) X.1),X.2)) (λy0 y1=>kr K DL ((z1 (w y0 (z2 (u y1))) X.1),X.2)) X.1.1 X.1.2.1 (q2 X) (q3 X) X.2.1.1
def VC:cv:=iI DL PR q4
abbrev yd:SD:=⟨B::DI::B::B::DB::bs 40 (.data false (.sl .arg fV)::DI::DI::bs 13 []),zs 61 [],.none⟩
def NC {R:Type}(X:SD.D yd)(K:Ex→AS→Option R):=Pu.gI (λy0=>ke 2 K yd ((z4 (u y0) X.1),X.2)) (λy0 y1=>kr K yd ((z1 (w y0 (z2 (u y1))) X.1),X.2)) X.1.1 X.1.2.1 (q2 X) (q3 X)
def R4:cv:=iI yd NC q4
def WU:c7:=((c7.nil).add 4 VC).add 10 R4
theorem Va:gE E g85 Yt WU (aV Tryz.f85 0):=lk DL PR q4 λX x=>((z4 (u x) X.1),X.2)
theorem Rh:gE E g85 Yt WU (aV Tryz.f85 1):=lk yd NC q4 λX x=>((z4 (u x) X.1),X.2)
theorem o85:aR Tryz.prog 85 e85:=fk Yt (((base.add YY).add YZ).add Za) Tryz.func85 (Λ:=WU) (cF Va (cF Rh nF))
def e30:bd:=aP [pf jn] [rB] (c1 Pu.qg)
def g30:cG:=((((((((cG.nil.add 23 Li).add 76 WJ).add 79 e79).add 80 e80).add 81 e81).add 82 e82).add 83 XX).add 84 e84).add 85 e85
def Yr:An:={mask:=mk [(5,[1,2,3,61,62]),(12,[1,2,3,103,104,105])],merge:=mg [(2,58),(7,89)]}
abbrev Dy:SD:=⟨B::.ptr 1 0::DB::DI::bs 57 (DI::DI::bs 54 []),Z::(some Y4)::zs 115 [],.none⟩
def Py {R:Type}(X:SD.D Dy)(K:Ex→AS→Option R):=Pu.mm (λy0=>ke 0 K Dy ((z3 (u y0) X.1),X.2)) (λy0 y1=>kr K Dy ((w y0 (z2 (u y1)) X.1),X.2)) X.1.1 X.1.2.1 (q2 X) X.2.1.1
def Vl:cv:=iI Dy Py q3
abbrev ya:SD:=⟨B::.ptr 1 0::DB::DI::bs 99 (.data false (.sl (.own (some 1265664)) (.int .i64))::DI::DI::bs 11 []),Z::(some Y4)::zs 115 [],.none⟩
def Nx {R:Type}(X:SD.D ya)(K:Ex→AS→Option R):=Pu.lb (λy0=>ke 2 K ya ((z4 (u y0) X.1),X.2)) (λy0 y1=>kr K ya ((w y0 (z3 (u y1)) X.1),X.2)) X.1.1 X.1.2.1 (q2 X) (q3 X) X.2.1.1
def RZ:cv:=iI ya Nx q4
def WS:c7:=((c7.nil).add 5 Vl).add 12 RZ
theorem US:gE E g30 Yr WS (aV Tryz.f30 0):=lk Dy Py q3 λX x=>((z3 (u x) X.1),X.2)
theorem Rb:gE E g30 Yr WS (aV Tryz.f30 1):=lk ya Nx q4 λX x=>((z4 (u x) X.1),X.2)
theorem o30:aR Tryz.prog 30 e30:=fk Yr (((((((((base.add yP).add SP).add o79).add o80).add o81).add o82).add o83).add o84).add o85) Tryz.func30 (Λ:=WS) (cF US (cF Rb nF))
def e86:bd:=aP [pd (.sl (.int .i64)),pd (.sl (.int .i64))] [rB] (c2 Pu.ks)
def g86:cG:=cG.nil
def n86:An:={mask:=mk [(4,[0,1,4,12,13])]}
abbrev DM:SD:=⟨.data false (.sl .arg (.int .i64))::.data false (.sl .arg (.int .i64))::B::B::DB::bs 7 (DI::DI::bs 12 []),zs 26 [],.none⟩
def PT {R:Type}(X:SD.D DM)(K:Ex→AS→Option R):=Pu.gL (λy0=>ke 0 K DM ((z4 (u y0) X.1),X.2)) (λy0 y1=>kr K DM ((z2 (w y0 (z1 (u y1))) X.1),X.2)) X.1.1 X.1.2.1 (q2 X) (q3 X)
def VD:cv:=iI DM PT q4
def L86:c7:=(c7.nil).add 4 VD
theorem Vb:gE E g86 n86 L86 (aV Tryz.f86 0):=lk DM PT q4 λX x=>((z4 (u x) X.1),X.2)
theorem o86:aR Tryz.prog 86 e86:=fk n86 base Tryz.func86 (Λ:=L86) (cF Vb nF)
def e31:bd:=aP [pf il,pf il] [rB] (c2 Pu.ln)
theorem o31:aR Tryz.prog 31 e31:=f0 {merge:=mg [(1,4)]} (base.add o86) Tryz.func31
def e87:bd:=aP [pf fO] [rB] (c1 Pu.qz)
theorem o87:aR Tryz.prog 87 e87:=f0 {merge:=mg [(1,2)]} (base.add yP) Tryz.func87
def e32:bd:=aP [pd (.sl bP),pd (.sl jo)] [rB] (c2 Pu.kg)
def g32:cG:=((cG.nil.add 23 Li).add 29 XQ).add 87 e87
def Ys:An:={mask:=mk [(4,[0,1,4,12,13,14]),(9,[0,1,4,6,12,13,14,52,53,54])],merge:=mg [(6,49),(11,69)]}
abbrev DA:SD:=⟨.data false (.sl .arg bP)::.data false (.sl .arg jo)::B::B::DB::B::.ptr 6 0::bs 5 (.data false (.sl .arg bP)::DI::DI::bs 37 (.data false (.sl .arg bP)::DI::DI::bs 17 [])),zs 6 ((some (.pair (.int .i64) (.pair (.int .i64) (.pair NL (.pair .bool (.pair (.int .i64) (.int .i64)))))))::zs 65 []),.none⟩
def PA {R:Type}(X:SD.D DA)(K:Ex→AS→Option R):=Pu.gH (λy0=>ke 2 K DA ((z8 (u y0) X.1),X.2)) (λy0 y1=>kr K DA ((z2 (w y0 (z5 (u y1))) X.1),X.2)) X.1.1 X.1.2.1 (q2 X) (q3 X) (q4 X) (q5 X) (q6 X) (q7 X) X.2.1.1
def Vn:cv:=iI DA PA q8
abbrev Dz:SD:=⟨.data false (.sl .arg bP)::.data false (.sl .arg jo)::B::B::DB::bs 7 (.data false (.sl .arg bP)::DI::DI::bs 57 []),zs 72 [],.none⟩
def Pz {R:Type}(X:SD.D Dz)(K:Ex→AS→Option R):=Pu.gG (λy0=>ke 0 K Dz ((z5 (u y0) X.1),X.2)) (λy0 y1=>kr K Dz ((z2 (w y0 (z2 (u y1))) X.1),X.2)) X.1.1 X.1.2.1 (q2 X) (q3 X) (q4 X)
def Vm:cv:=iI Dz Pz q5
def WT:c7:=((c7.nil).add 9 Vn).add 4 Vm
theorem UU:gE E g32 Ys WT (aV Tryz.f32 1):=lk DA PA q8 λX x=>((z8 (u x) X.1),X.2)
theorem UT:gE E g32 Ys WT (aV Tryz.f32 0):=lk Dz Pz q5 λX x=>((z5 (u x) X.1),X.2)
theorem o32:aR Tryz.prog 32 e32:=fk Ys (((base.add yP).add o29).add o87) Tryz.func32 (Λ:=WT) (cF UT (cF UU nF))
def e33:bd:=aP [pd (.sl bP)] [rB] (c1 Pu.mA)
def g33:cG:=cG.nil
def n33:An:={mask:=mk [(2,[2,5,6,7])],merge:=mg [(4,22)]}
abbrev DC:SD:=⟨B::B::DB::B::B::.data false (.sl .arg bP)::DI::DI::bs 16 [],zs 24 [],.none⟩
def PB {R:Type}(X:SD.D DC)(K:Ex→AS→Option R):=Pu.ju (λy0=>ke 0 K DC ((z3 (u y0) X.1),X.2)) (λy0 y1=>kr K DC ((w y0 (z2 (u y1)) X.1),X.2)) X.1.1 X.1.2.1 (q2 X)
def Vo:cv:=iI DC PB q3
def L33:c7:=(c7.nil).add 2 Vo
theorem UW:gE E g33 n33 L33 (aV Tryz.f33 0):=lk DC PB q3 λX x=>((z3 (u x) X.1),X.2)
theorem o33:aR Tryz.prog 33 e33:=fk n33 base Tryz.func33 (Λ:=L33) (cF UW nF)
def W4:bd:=aP [pd .str,pI] [rI] (c2 Pu.pw)
theorem YB:aR Tryz.prog 122 W4:=f0 {merge:=mg [(1,13)]} base Tryz.func122
def Xj:bd:=aP [pI] [rS] (c1 Pu.oa)
theorem Zg:aR Tryz.prog 191 Xj:=f0 {} (base.add yP) Tryz.func191
def Xk:bd:=aP [pd .str] [rI] (c1 Pu.rm)
def UD:cG:=cG.nil
def Sc:An:={mask:=mk [(3,[0,3,4]),(7,[0,3,4,5])]}
abbrev BU:SD:=⟨.data false .str::B::B::.data false (.int .u32)::DI::DI::bs 28 [],zs 34 [],.none⟩
def Nd {R:Type}(X:SD.D BU)(K:Ex→AS→Option R):=Pu.iZ (λy0 y1=>ke 2 K BU ((z1 (w y0 (z1 (u y1))) X.1),X.2)) X.1.1 (q2 X)
def RF:cv:=iI BU Nd (λX=>(X.1.2.1,q3 X))
abbrev BT:SD:=⟨.data false .str::B::B::.data false (.int .u32)::DI::bs 29 [],zs 34 [],.none⟩
def Nc {R:Type}(X:SD.D BT)(K:Ex→AS→Option R):=Pu.kQ (λy0 y1=>ke 0 K BT ((z1 (w y0 (u y1)) X.1),X.2)) X.1.1
def RE:cv:=iI BT Nc (λX=>(X.1.2.1,q2 X))
def P5:c7:=((c7.nil).add 7 RF).add 3 RE
theorem QS:gE E UD Sc P5 (aV Tryz.f192 1):=lk BU Nd (λX=>(X.1.2.1,q3 X)) λX x=>((z1 (w x.1 (z1 (u x.2))) X.1),X.2)
theorem QR:gE E UD Sc P5 (aV Tryz.f192 0):=lk BT Nc (λX=>(X.1.2.1,q2 X)) λX x=>((z1 (w x.1 (u x.2)) X.1),X.2)
theorem Zh:aR Tryz.prog 192 Xk:=fk Sc base Tryz.func192 (Λ:=P5) (cF QR (cF QS nF))
def W5:bd:=aP [pI,pd .str] [rS,rB] (c2 Pu.mn)
theorem YC:aR Tryz.prog 123 W5:=f0 {merge:=mg [(1,15)]} (((base.add yP).add Zg).add Zh) Tryz.func123
def e52:bd:=aP [pd .str] [rI] (c1 Pu.gi)
theorem o52:aR Tryz.prog 52 e52:=f0 {merge:=mg [(2,19),(5,38)]} ((base.add YB).add YC) Tryz.func52
def e88:bd:=aP [pf (.sl .str)] [rB] (c1 Pu.rn)
theorem o88:aR Tryz.prog 88 e88:=f0 {merge:=mg [(1,2)]} base Tryz.func88
def e34:bd:=aP [pf (.sl .str)] [rI] (c1 Pu.nA)
theorem o34:aR Tryz.prog 34 e34:=f0 {merge:=mg [(4,18)]} ((base.add o52).add o88) Tryz.func34
def e35:bd:=aP [pf jF] [rB] (c1 Pu.rl)
theorem o35:aR Tryz.prog 35 e35:=f0 {merge:=mg [(1,2)]} (base.add yP) Tryz.func35
def e12:bd:=aP [pf rU] [rB] (c1 Pu.n8)
def g12:cG:=((((((cG.nil.add 11 e11).add 30 e30).add 31 e31).add 32 e32).add 33 e33).add 34 e34).add 35 e35
def n12:An:={mask:=mk [(5,[1,2,3,34,35,36])],merge:=mg [(2,32),(7,55),(10,2)]}
abbrev Du:SD:=⟨B::.ptr 1 0::DB::.data false (.sl .loc jo)::bs 30 (.data false (.sl .arg jn)::DI::DI::bs 40 []),Z::(some (.pair (.sl .arg jn) (.pair (.sl .arg bP) (.pair (.sl .arg cP) (.pair (.sl .arg .str) (.pair Y1 (.pair (.sl .arg (.int .i64)) (.sl .arg .str))))))))::zs 75 [],.none⟩
def Pp {R:Type}(X:SD.D Du)(K:Ex→AS→Option R):=Pu.mj (λy0=>ke 0 K Du ((z4 (u y0) X.1),X.2)) (λy0 y1=>kr K Du ((w y0 (z3 (u y1)) X.1),X.2)) X.1.1 X.1.2.1 (q2 X) (q3 X) X.2.1.1
def Vd:cv:=iI Du Pp q4
def L12:c7:=(c7.nil).add 5 Vd
theorem UK:gE E g12 n12 L12 (aV Tryz.f12 0):=lk Du Pp q4 λX x=>((z4 (u x) X.1),X.2)
theorem o12:aR Tryz.prog 12 e12:=fk n12 (((((((base.add Yv).add o30).add o31).add o32).add o33).add o34).add o35) Tryz.func12 (Λ:=L12) (cF UK nF)
def e68:bd:=aP [pd (.sl bP)] [(false,(.sl (.own none) bP))] (c1 Pu.iw)
theorem o68:aR Tryz.prog 68 e68:=f0 {} base Tryz.func68
def XB:bd:=aP [pf il] [(true,K0)] (c1 Pu.cK)
theorem SN:aR Tryz.prog 25 XB:=f0 {mv:=[7]} (base.add SO) Tryz.func25
def e75:bd:=aP [pf cP] [(true,(.pair K0 NL))] (c1 Pu.fE)
theorem Z9:aR Tryz.prog 75 e75:=f0 {mv:=[7]} (base.add SN) Tryz.func75
def e69:bd:=aP [pd (.sl cP)] [(false,(.sl (.own none) cP))] (c1 Pu.jN)
def g69:cG:=cG.nil.add 75 e75
def n69:An:={mask:=mk [(3,[3,7,8,9])],mv:=[13,19]}
abbrev Ih:SD:=⟨B::B::B::.data false (.sl (.own (some 36864)) cP)::B::B::B::.data false (.sl .arg cP)::DI::DI::bs 10 [],zs 20 [],.none⟩
def PI {R:Type}(X:SD.D Ih)(K:Ex→AS→Option R):=Pu.js (λy0 y1=>ke 0 K Ih ((w y0 (z2 (u y1)) X.1),X.2)) X.1.2.1 (q2 X)
def Vu:cv:=iI Ih PI (λX=>(X.1.1,q3 X))
def L69:c7:=(c7.nil).add 3 Vu
theorem U2:gE E g69 n69 L69 (aV Tryz.f69 0):=lk Ih PI (λX=>(X.1.1,q3 X)) λX x=>((w x.1 (z2 (u x.2)) X.1),X.2)
theorem o69:aR Tryz.prog 69 e69:=fk n69 (base.add Z9) Tryz.func69 (Λ:=L69) (cF U2 nF)
def XW:bd:=aP [pd (.sl .str)] [(false,(.sl (.own none) .str))] (c1 Pu.dZ)
theorem WM:aR Tryz.prog 72 XW:=f0 {} base Tryz.func72
def e70:bd:=aP [pf (.sl .str)] [(true,(.sl (.own none) .str))] (c1 Pu.px)
theorem o70:aR Tryz.prog 70 e70:=f0 {} (base.add WM) Tryz.func70
def TH:bd:=aP [pf (.sl .str)] [(true,(.sl (.own none) .str))] (c1 Pu.lj)
theorem YN:aR Tryz.prog 138 TH:=f0 {} (base.add WM) Tryz.func138
def TI:bd:=aP [pd (.sl cD)] [(false,(.sl (.own none) cD))] (c1 Pu.my)
theorem YO:aR Tryz.prog 139 TI:=f0 {} base Tryz.func139
def Xs:bd:=aP [pd (.sl ma)] [(false,(.sl (.own none) ma))] (c1 Pu.nH)
def X9:cG:=cG.nil.add 71 WI
def VS:An:={mask:=mk [(3,[3,7,8,9])],mv:=[13,25]}
abbrev BZ:SD:=⟨B::B::B::.data false (.sl (.own (some 36864)) ma)::B::B::B::.data false (.sl .arg ma)::DI::DI::bs 16 [],zs 26 [],.none⟩
def Nk {R:Type}(X:SD.D BZ)(K:Ex→AS→Option R):=Pu.kl (λy0 y1=>ke 0 K BZ ((w y0 (z2 (u y1)) X.1),X.2)) X.1.2.1 (q2 X)
def RL:cv:=iI BZ Nk (λX=>(X.1.1,q3 X))
def S6:c7:=(c7.nil).add 3 RL
theorem QY:gE E X9 VS S6 (aV Tryz.f209 0):=lk BZ Nk (λX=>(X.1.1,q3 X)) λX x=>((w x.1 (z2 (u x.2)) X.1),X.2)
theorem Zx:aR Tryz.prog 209 Xs:=fk VS (base.add SO) Tryz.func209 (Λ:=S6) (cF QY nF)
def TJ:bd:=aP [pf pg] [(true,WX)] (c1 Pu.qh)
theorem YP:aR Tryz.prog 140 TJ:=f0 {sb:=mg [(2,2)]} ((base.add Sj).add Zx) Tryz.func140
def Xt:bd:=aP [pf (.sl fV)] [(true,(.sl (.own none) fV))] (c1 Pu.mz)
theorem Zy:aR Tryz.prog 210 Xt:=f0 {} base Tryz.func210
def Xu:bd:=aP [pf um] [(true,(.pair .str (.sl (.own none) (.int .i64))))] (c1 Pu.ll)
theorem Zz:aR Tryz.prog 211 Xu:=f0 {sb:=mg [(2,2)]} (base.add SO) Tryz.func211
def TL:bd:=aP [pf jW] [(true,WW)] (c1 Pu.jt)
theorem YQ:aR Tryz.prog 142 TL:=f0 {sb:=mg [(2,2)]} ((base.add Zy).add Zz) Tryz.func142
def TM:bd:=aP [pd (.sl jX)] [(false,(.sl (.own none) jX))] (c1 Pu.km)
theorem YR:aR Tryz.prog 143 TM:=f0 {} base Tryz.func143
def e73:bd:=aP [pf jn] [(true,Y9)] (c1 Pu.nG)
def g73:cG:=((((((((cG.nil.add 25 XB).add 71 WI).add 72 XW).add 138 TH).add 139 TI).add 140 TJ).add 141 TK).add 142 TL).add 143 TM
def n73:An:={mask:=mk [(8,[1,2,3,27,28,29])],mv:=[34,75],mb:=mg [(34,3)],sb:=mg [(39,3)]}
abbrev Ii:SD:=⟨B::.ptr 1 0::.ptr 2 0::.ptr 3 0::bs 23 (.data false (.sl .arg lS)::DI::DI::bs 46 []),Z::(some Y4)::(some (.pair (.sl (.own (some 24577)) .str) (.pair (.sl (.own (some 24580)) cD) (.pair (.pair Y1 (.pair (.pair (.int .i64) (.pair (.int .i64) (.pair (.int .i64) (.sl (.own (some 24604)) (.int .i64))))) (.pair (.sl (.own (some 24607)) ma) (.int .i64)))) (.pair (.sl (.own (some 24613)) iJ) (.pair (.sl (.own (some 24616)) lS) (.pair (.sl (.own (some 24619)) im) (.pair (.sl (.own (some 24622)) .bool) (.pair (.pair (.int .i64) (.pair .bool (.sl (.own (some 24631)) (.int .i64)))) (.pair (.pair (.sl (.own (some 24634)) l9) (.pair (.sl (.own (some 24637)) fV) (.pair .str (.sl (.own (some 24643)) (.int .i64))))) (.pair (.sl (.own (some 24646)) jX) (.pair .bool (.pair (.sl (.own (some 24652)) .str) (.pair (.sl (.own (some 24655)) (.int .i64)) (.pair (.sl (.own (some 24658)) (.int .i64)) (.pair (.int .i64) Y1))))))))))))))))::(some (.pair (.sl (.own (some 36865)) .str) (.pair (.sl (.own (some 36868)) cD) (.pair (.pair Y1 (.pair (.pair (.int .i64) (.pair (.int .i64) (.pair (.int .i64) (.sl (.own (some 36892)) (.int .i64))))) (.pair (.sl (.own (some 36895)) ma) (.int .i64)))) (.pair (.sl (.own (some 36901)) iJ) (.pair (.sl (.own (some 36904)) lS) (.pair (.sl .arg im) (.pair (.sl .arg .bool) (.pair SJ (.pair SI (.pair (.sl .arg jX) (.pair .bool (.pair (.sl .arg .str) (.pair (.sl .arg (.int .i64)) (.pair (.sl .arg (.int .i64)) (.pair (.int .i64) Y1))))))))))))))))::zs 72 [],.none⟩
def PJ {R:Type}(X:SD.D Ii)(K:Ex→AS→Option R):=Pu.kk (λy0 y1=>ke 0 K Ii ((z2 (u y0) X.1),(z2 (u y1) X.2.1),X.2.2)) X.1.1 X.1.2.1 X.2.1.1 X.2.1.2.1
def Vv:cv:=iI Ii PJ (λX=>(q2 X,X.2.1.2.2.1))
def L73:c7:=(c7.nil).add 8 Vv
theorem U3:gE E g73 n73 L73 (aV Tryz.f73 0):=lk Ii PJ (λX=>(q2 X,X.2.1.2.2.1)) λX x=>((z2 (u x.1) X.1),(z2 (u x.2) X.2.1),X.2.2)
theorem o73:aR Tryz.prog 73 e73:=fk n73 (((((((((base.add SN).add SO).add WM).add YN).add YO).add YP).add Sj).add YQ).add YR) Tryz.func73 (Λ:=L73) (cF U3 nF)
def e22:bd:=aP [pf rU] [(true,Y8)] (c1 Pu.nE)
def g22:cG:=(((((cG.nil.add 68 e68).add 69 e69).add 70 e70).add 71 WI).add 72 XW).add 73 e73
def n22:An:={mask:=mk [(3,[2,3,25,26,27])],mv:=[32,39],mb:=mg [(32,3)],sb:=mg [(3,3),(37,3)]}
abbrev H9:SD:=⟨B::B::.ptr 2 0::.ptr 3 0::bs 21 (.data false (.sl .arg jn)::DI::DI::bs 12 []),Z::Z::(some Y3)::(some (.pair (.sl (.own (some 36865)) jn) (.pair (.sl (.own (some 36868)) bP) (.pair (.sl (.own (some 36871)) cP) (.pair (.sl (.own (some 36874)) .str) (.pair Y1 (.pair (.sl (.own (some 36889)) (.int .i64)) (.sl (.own (some 36892)) .str))))))))::zs 36 [],.none⟩
def Pt {R:Type}(X:SD.D H9)(K:Ex→AS→Option R):=Pu.kj (λy0 y1=>ke 0 K H9 ((z2 (u y0) X.1),(z1 (u y1) X.2.1),X.2.2)) X.1.1 X.1.2.1 X.2.1.1
def Vh:cv:=iI H9 Pt (λX=>(q2 X,X.2.1.2.1))
def L22:c7:=(c7.nil).add 3 Vh
theorem UO:gE E g22 n22 L22 (aV Tryz.f22 0):=lk H9 Pt (λX=>(q2 X,X.2.1.2.1)) λX x=>((z2 (u x.1) X.1),(z1 (u x.2) X.2.1),X.2.2)
theorem o22:aR Tryz.prog 22 e22:=fk n22 ((((((base.add o68).add o69).add o70).add SO).add WM).add o73) Tryz.func22 (Λ:=L22) (cF UO nF)
def Xv:bd:=aP [pf il,pI] [(true,K0),rB] (c2 Pu.oD)
theorem ZA:aR Tryz.prog 212 Xv:=f0 {merge:=mg [(2,17)],mv:=[18,29]} ((((base.add SN).add WL).add o28).add SP) Tryz.func212
def Xw:bd:=aP [pf il,pI] [(true,K0),rB] (c2 Pu.nB)
def Ya:cG:=((cG.nil.add 25 XB).add 27 WE).add 76 WJ
def VT:An:={mask:=mk [(6,[1,4,6,25,26,27])],merge:=mg [(2,20)],mv:=[21,35,41]}
abbrev B0:SD:=⟨B::DI::B::B::.ptr 4 0::B::.ptr 6 0::bs 18 (.data false (.sl .arg (.int .i64))::DI::DI::bs 14 []),zs 4 ((some (.pair (.int .i64) (.pair .bool (.sl (.own (some 49159)) (.int .i64)))))::Z::(some (.pair (.int .i64) (.pair .bool (.sl (.own (some 73735)) (.int .i64)))))::zs 35 []),.none⟩
def Nl {R:Type}(X:SD.D B0)(K:Ex→AS→Option R):=Pu.kc (λy0 y1=>ke 0 K B0 ((z3 (u y0) X.1),(z1 (u y1) X.2.1),X.2.2)) X.1.1 X.1.2.1 (q2 X) X.2.1.1
def RM:cv:=iI B0 Nl (λX=>(q3 X,X.2.1.2.1))
def S7:c7:=(c7.nil).add 6 RM
theorem QZ:gE E Ya VT S7 (aV Tryz.f213 0):=lk B0 Nl (λX=>(q3 X,X.2.1.2.1)) λX x=>((z3 (u x.1) X.1),(z1 (u x.2) X.2.1),X.2.2)
theorem ZB:aR Tryz.prog 213 Xw:=fk VT (((base.add SN).add WL).add SP) Tryz.func213 (Λ:=S7) (cF QZ nF)
def Xb:bd:=aP [pf il,pf fO] [(true,K0),rI] (c2 Pu.oF)
theorem YS:aR Tryz.prog 144 Xb:=f0 {mv:=[21,30,39,46],mb:=mg [(39,6)],sb:=mg [(4,4)]} ((((base.add SN).add SP).add ZA).add ZB) Tryz.func144
def e74:bd:=aP [pf cP,pf fO] [(true,(.pair K0 NL)),rI] (c2 Pu.ir)
theorem o74:aR Tryz.prog 74 e74:=f0 {mv:=[13,20,30,31,47],mb:=mg [(20,6),(47,6)],sb:=mg [(4,4)],fm:=[49]} (((base.add o26).add Z9).add YS) Tryz.func74
def e24:bd:=aP [pd (.sl cP),pI,pf fO] [(false,(.sl (.own none) cP)),rI] (c3 Pu.jr)
theorem o24:aR Tryz.prog 24 e24:=f0 {mv:=[14,23,32,60],es:=mg [(25,8)]} ((((base.add Yv).add o69).add o74).add Z9) Tryz.func24
def e10:bd:=aP [pf rU,pI,pf fO] [(true,Y8),rI] (c3 Pu.fJ)
theorem o10:aR Tryz.prog 10 e10:=f0 {merge:=mg [(2,24)],mv:=[25,26,34,47]} (((((base.add o12).add o22).add yP).add o24).add SN) Tryz.func10
abbrev iB:List PS:=[pd (.sl (.int .u8))]
def mf:bd:=aP iB [rB] (c1 Pu.jO)
theorem rz:aR Tryz.prog 3 mf:=f0 {merge:=mg [(8,70),(11,2)],sb:=mg [(6,6)]} ((((((base.add o7).add o8).add o9).add o10).add Yv).add o12) Tryz.func3
end
end Go.Proofs.YtgbaemfepmabgaaGreat.Fn
