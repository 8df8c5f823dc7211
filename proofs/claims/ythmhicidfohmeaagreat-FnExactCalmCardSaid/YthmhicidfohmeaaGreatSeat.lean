import Derived.Test.YthmhicidfohmeaaGreatDnSig
import Derived.Test.YthmhicidfohmeaaGreatPure
import Derived.Test.YthmhicidfohmeaaGreatRows
/- Each function of the program is its pure function (made by gen.py). -/
namespace Go.Proofs.YthmhicidfohmeaaGreat.Fn
open Go.Dn
open Go.Pu (aX dS aha cE dc fN dW CY ga tw bk bN fu dH fM Lq RT cJ eg bg bL aB bq ef lQ jE gF H2 RU ZK)
set_option maxRecDepth 100000
set_option linter.unusedVariables false
noncomputable section
abbrev B:PD:=.bot
abbrev DI:PD:=.data false (.int .i64)
abbrev DB:PD:=.data false .bool
abbrev Z:Option FT:=none
theorem nF {p:Code→Prop}:∀x∈([]:List Code),p x:=λ_ h=>nomatch h
theorem cF {p:Code→Prop}{a:Code}{l:List Code}(h:p a)(t:∀x∈l,p x):∀x∈a::l,p x:=List.forall_mem_cons.2 ⟨h,t⟩
theorem hF {p:Code→Prop}{l m:List Code}(e:l=m)(h:∀x∈m,p x):∀x∈l,p x:=e▸h
theorem fk {P:Program}{E:Env}{Γ:bH}{s:List PS}{rs:List (Bool×FT)}{F:Bf s→Option (iq rs)}{f:Nat}{fn:Func}(an:An)(hS:Sound P E Γ)(hf:P.funcs[f]?=some fn){Λ:bP}{l:List Code}(h:∀c∈l,dx E Γ an Λ c)(hn:(fn.name== "runtime.NumGoroutine")=false:=by kernel_rfl)(hl:fQ (fn.body.getD .skip)=l:=by kernel_rfl)(hF:∀a,Kh E Γ an Λ fn rs (kB s a)=F a:=by intro a;kernel_rfl):aC P f (au s rs F):=aC.of (aiS hS hf hn (Fn.hF hl h)) hF
abbrev pd (t:CT):PS:=.data false t
abbrev pf (t:CT):PS:=.data true t
abbrev pI:PS:=.data false (.int .i64)
abbrev rB:Bool×FT:=(false,.bool)
abbrev rI:Bool×FT:=(false,.int .i64)
abbrev rS:Bool×FT:=(false,.str)
abbrev bs:Nat→List PD→List PD|0,l=>l|n+1,l=> .bot::bs n l
abbrev zs:Nat→List (Option FT)→List (Option FT)|0,l=>l|n+1,l=>none::zs n l
def mk (l:List (Nat×List Nat))(n:Nat):List Nat:=(l.lookup n).getD []
def mg (l:List (Nat×Nat))(n:Nat):Option Nat:=l.lookup n
def ke {R:Type}(n:Nat)(K:Ex→AS→Option R)(d:SD)(x:SD.D d):Option R:=K (.exit n) (SD.enc d x)
def kr {R:Type}(K:Ex→AS→Option R)(d:SD)(x:SD.D d):Option R:=K .ret (SD.enc d x)
def dG {σ:Type}(d:SD)(t:{R:Type}→SD.D d→(Ex→AS→Option R)→(σ→Option R)→σ→Option R)(i:SD.D d→σ):bG:=⟨d,λX K=>aJ (t X K) fuel (i X)⟩
theorem lk {E:Env}{Γ:bH}{an:An}{Λ:bP}{c:Code}{σ:Type}(d:SD)(t:{R:Type}→SD.D d→(Ex→AS→Option R)→(σ→Option R)→σ→Option R)(i:SD.D d→σ)(w:SD.D d→σ→SD.D d)(h1:Λ (eZ c)=dG d t i:=by kernel_rfl)(h:∀(R:Type)(X:SD.D d)(K:Ex→AS→Option R)(m:Nat)(x:σ),yU (an.mask (eZ c)) (den E Γ an Λ c) (m+1) (SD.enc d (w X x)) K=t X K (λy=>yU (an.mask (eZ c)) (den E Γ an Λ c) m (SD.enc d (w X y)) K) x:=by intro R X K m x;kernel_rfl)(hw:∀X,w X (i X)=X:=by intro X;kernel_rfl):dx E Γ an Λ c:=lok (dG d t i) h1 fuel λR X K=>(IA (λx=>SD.enc d (w X x)) (t X K) (h R X K) fuel (i X)).symm.trans (congrArg (λy=>yU (an.mask (eZ c)) (den E Γ an Λ c) fuel (SD.enc d y) K) (hw X))
def u {A B:Type}(y:A)(x:A×B):A×B:=(y,x.2)
def w {A B:Type}(y:A)(f:B→B)(x:A×B):A×B:=(y,f x.2)
def z1 {A0 B:Type}(f:B→B)(x:A0×B):A0×B:=(x.1,f x.2)
def z2 {A0 A1 B:Type}(f:B→B)(x:A0×A1×B):A0×A1×B:=(x.1,x.2.1,f x.2.2)
def z3 {A0 A1 A2 B:Type}(f:B→B)(x:A0×A1×A2×B):A0×A1×A2×B:=(x.1,x.2.1,x.2.2.1,f x.2.2.2)
def z4 {A0 A1 A2 A3 B:Type}(f:B→B)(x:A0×A1×A2×A3×B):A0×A1×A2×A3×B:=(x.1,x.2.1,x.2.2.1,x.2.2.2.1,f x.2.2.2.2)
def z5 {A0 A1 A2 A3 A4 B:Type}(f:B→B)(x:A0×A1×A2×A3×A4×B):A0×A1×A2×A3×A4×B:=(x.1,x.2.1,x.2.2.1,x.2.2.2.1,x.2.2.2.2.1,f x.2.2.2.2.2)
def z6 {A0 A1 A2 A3 A4 A5 B:Type}(f:B→B)(x:A0×A1×A2×A3×A4×A5×B):A0×A1×A2×A3×A4×A5×B:=(x.1,x.2.1,x.2.2.1,x.2.2.2.1,x.2.2.2.2.1,x.2.2.2.2.2.1,f x.2.2.2.2.2.2)
def z7 {A0 A1 A2 A3 A4 A5 A6 B:Type}(f:B→B)(x:A0×A1×A2×A3×A4×A5×A6×B):A0×A1×A2×A3×A4×A5×A6×B:=(x.1,x.2.1,x.2.2.1,x.2.2.2.1,x.2.2.2.2.1,x.2.2.2.2.2.1,x.2.2.2.2.2.2.1,f x.2.2.2.2.2.2.2)
def z8 {A0 A1 A2 A3 A4 A5 A6 A7 B:Type}(f:B→B)(x:A0×A1×A2×A3×A4×A5×A6×A7×B):A0×A1×A2×A3×A4×A5×A6×A7×B:=(x.1,x.2.1,x.2.2.1,x.2.2.2.1,x.2.2.2.2.1,x.2.2.2.2.2.1,x.2.2.2.2.2.2.1,x.2.2.2.2.2.2.2.1,f x.2.2.2.2.2.2.2.2)
def q2 {A0 A1 A2 B C:Type}(x:(A0×A1×A2×B)×C):A2:=x.1.2.2.1
def q3 {A0 A1 A2 A3 B C:Type}(x:(A0×A1×A2×A3×B)×C):A3:=x.1.2.2.2.1
def q4 {A0 A1 A2 A3 A4 B C:Type}(x:(A0×A1×A2×A3×A4×B)×C):A4:=x.1.2.2.2.2.1
def q5 {A0 A1 A2 A3 A4 A5 B C:Type}(x:(A0×A1×A2×A3×A4×A5×B)×C):A5:=x.1.2.2.2.2.2.1
def q6 {A0 A1 A2 A3 A4 A5 A6 B C:Type}(x:(A0×A1×A2×A3×A4×A5×A6×B)×C):A6:=x.1.2.2.2.2.2.2.1
def q7 {A0 A1 A2 A3 A4 A5 A6 A7 B C:Type}(x:(A0×A1×A2×A3×A4×A5×A6×A7×B)×C):A7:=x.1.2.2.2.2.2.2.2.1
def q8 {A0 A1 A2 A3 A4 A5 A6 A7 A8 B C:Type}(x:(A0×A1×A2×A3×A4×A5×A6×A7×A8×B)×C):A8:=x.1.2.2.2.2.2.2.2.2.1
def q9 {A0 A1 A2 A3 A4 A5 A6 A7 A8 A9 B C:Type}(x:(A0×A1×A2×A3×A4×A5×A6×A7×A8×A9×B)×C):A9:=x.1.2.2.2.2.2.2.2.2.2.1
def Rs {A0 A1 A2 A3 A4 A5 A6 A7 A8 A9 A10 B C:Type}(x:(A0×A1×A2×A3×A4×A5×A6×A7×A8×A9×A10×B)×C):A10:=x.1.2.2.2.2.2.2.2.2.2.2.1
def c1 {A0 B R:Type}(f:A0→R)(a:A0×B):R:=f a.1
def c2 {A0 A1 B R:Type}(f:A0→A1→R)(a:A0×A1×B):R:=f a.1 a.2.1
def c3 {A0 A1 A2 B R:Type}(f:A0→A1→A2→R)(a:A0×A1×A2×B):R:=f a.1 a.2.1 a.2.2.1
def c4 {A0 A1 A2 A3 B R:Type}(f:A0→A1→A2→A3→R)(a:A0×A1×A2×A3×B):R:=f a.1 a.2.1 a.2.2.1 a.2.2.2.1
def c5 {A0 A1 A2 A3 A4 B R:Type}(f:A0→A1→A2→A3→A4→R)(a:A0×A1×A2×A3×A4×B):R:=f a.1 a.2.1 a.2.2.1 a.2.2.2.1 a.2.2.2.2.1
def c6 {A0 A1 A2 A3 A4 A5 B R:Type}(f:A0→A1→A2→A3→A4→A5→R)(a:A0×A1×A2×A3×A4×A5×B):R:=f a.1 a.2.1 a.2.2.1 a.2.2.2.1 a.2.2.2.2.1 a.2.2.2.2.2.1
def c7 {A0 A1 A2 A3 A4 A5 A6 B R:Type}(f:A0→A1→A2→A3→A4→A5→A6→R)(a:A0×A1×A2×A3×A4×A5×A6×B):R:=f a.1 a.2.1 a.2.2.1 a.2.2.2.1 a.2.2.2.2.1 a.2.2.2.2.2.1 a.2.2.2.2.2.2.1
theorem f0 {P:Program}{E:Env}{Γ:bH}{s:List PS}{rs:List (Bool×FT)}{F:Bf s→Option (iq rs)}{f:Nat}{fn:Func}(an:An)(hS:Sound P E Γ)(hf:P.funcs[f]?=some fn)(hn:(fn.name== "runtime.NumGoroutine")=false:=by kernel_rfl)(hl:fQ (fn.body.getD .skip)=[]:=by kernel_rfl)(hF:∀a,Kh E Γ an bP.nil fn rs (kB s a)=F a:=by intro a;kernel_rfl):aC P f (au s rs F):=aC.of (aiS hS hf hn (Fn.hF hl nF)) hF
abbrev Lr:FT:=.pair (.int .i64) (.pair (.int .i64) (.int .i64))
abbrev Y0:FT:=.pair (.int .i64) Lr
abbrev Y8:FT:=.pair (.int .i64) (.pair (.int .i64) (.pair (.int .i64) (.sl (.own none) (.int .i64))))
abbrev Y28:FT:=.pair Y0 (.pair Y8 (.pair (.sl (.own none) dc) (.int .i64)))
abbrev Y23:FT:=.pair (.int .i64) (.pair .bool (.sl (.own none) (.int .i64)))
abbrev Y24:FT:=.pair (.sl (.own none) dH) (.pair (.sl (.own none) cJ) (.pair .str (.sl (.own none) (.int .i64))))
abbrev Y1:FT:=.pair (.sl (.own none) .str) (.pair (.sl (.own none) aX) (.pair Y28 (.pair (.sl (.own none) bk) (.pair (.sl (.own none) cE) (.pair (.sl (.own none) bN) (.pair (.sl (.own none) .bool) (.pair Y23 (.pair Y24 (.pair (.sl (.own none) bg) (.pair .bool (.pair (.sl (.own none) .str) (.pair (.sl (.own none) (.int .i64)) (.pair (.sl (.own none) (.int .i64)) (.pair (.int .i64) Y0))))))))))))))
abbrev Y22:FT:=.pair (.int .i64) (.pair (.int .i64) (.pair (.int .i64) (.sl .arg (.int .i64))))
abbrev Y29:FT:=.pair Y0 (.pair Y22 (.pair (.sl .arg dc) (.int .i64)))
abbrev Y27:FT:=.pair (.int .i64) (.pair .bool (.sl .arg (.int .i64)))
abbrev Y26:FT:=.pair (.sl .arg dH) (.pair (.sl .arg cJ) (.pair .str (.sl .arg (.int .i64))))
abbrev Y2:FT:=.pair (.sl .arg .str) (.pair (.sl .arg aX) (.pair Y29 (.pair (.sl .arg bk) (.pair (.sl .arg cE) (.pair (.sl .arg bN) (.pair (.sl .arg .bool) (.pair Y27 (.pair Y26 (.pair (.sl .arg bg) (.pair .bool (.pair (.sl .arg .str) (.pair (.sl .arg (.int .i64)) (.pair (.sl .arg (.int .i64)) (.pair (.int .i64) Y0))))))))))))))
abbrev Y3:FT:=.pair (.sl (.own (some 24577)) .str) (.pair (.sl (.own (some 24580)) aX) (.pair (.pair Y0 (.pair (.pair (.int .i64) (.pair (.int .i64) (.pair (.int .i64) (.sl (.own (some 24604)) (.int .i64))))) (.pair (.sl (.own (some 24607)) dc) (.int .i64)))) (.pair (.sl (.own (some 24613)) bk) (.pair (.sl (.own (some 24616)) cE) (.pair (.sl (.own (some 24619)) bN) (.pair (.sl (.own (some 24622)) .bool) (.pair (.pair (.int .i64) (.pair .bool (.sl (.own (some 24631)) (.int .i64)))) (.pair (.pair (.sl (.own (some 24634)) dH) (.pair (.sl (.own (some 24637)) cJ) (.pair .str (.sl (.own (some 24643)) (.int .i64))))) (.pair (.sl (.own (some 24646)) bg) (.pair .bool (.pair (.sl (.own (some 24652)) .str) (.pair (.sl (.own (some 24655)) (.int .i64)) (.pair (.sl (.own (some 24658)) (.int .i64)) (.pair (.int .i64) Y0))))))))))))))
abbrev Y34:FT:=.pair (.int .i64) (.pair (.int .i64) (.pair (.int .i64) (.pair (.int .i64) .str)))
abbrev Y6:FT:=.pair (.int .i64) (.pair (.int .i64) Y34)
abbrev Y19:FT:=.pair (.int .i64) (.pair (.int .i64) (.pair (.int .i64) (.pair (.int .i64) (.pair (.int .i64) (.pair (.int .i64) (.pair (.int .i64) (.pair (.int .i64) (.pair (.int .i64) Y6))))))))
abbrev Y4:FT:=.pair Y0 (.pair Lr (.pair Lr (.pair (.pair Y19 (.pair (.int .i64) (.int .i64))) (.pair .bool (.int .i64)))))
abbrev Y5:FT:=.pair (.sl (.own (some 36865)) .str) (.pair (.sl (.own (some 36868)) aX) (.pair (.pair Y0 (.pair (.pair (.int .i64) (.pair (.int .i64) (.pair (.int .i64) (.sl (.own (some 36892)) (.int .i64))))) (.pair (.sl (.own (some 36895)) dc) (.int .i64)))) (.pair (.sl (.own (some 36901)) bk) (.pair (.sl (.own (some 36904)) cE) (.pair (.sl (.own (some 36907)) bN) (.pair (.sl (.own (some 36910)) .bool) (.pair (.pair (.int .i64) (.pair .bool (.sl (.own (some 36919)) (.int .i64)))) (.pair (.pair (.sl (.own (some 36922)) dH) (.pair (.sl (.own (some 36925)) cJ) (.pair .str (.sl (.own (some 36931)) (.int .i64))))) (.pair (.sl (.own (some 36934)) bg) (.pair .bool (.pair (.sl (.own (some 36940)) .str) (.pair (.sl (.own (some 36943)) (.int .i64)) (.pair (.sl (.own (some 36946)) (.int .i64)) (.pair (.int .i64) Y0))))))))))))))
abbrev Y7:FT:=.pair (.int .i64) (.pair (.int .i64) (.pair (.int .i64) (.pair (.int .i64) (.pair .bool .bool))))
abbrev Y9:FT:=.pair (.sl (.own (some 110593)) .str) (.pair (.sl (.own (some 110596)) aX) (.pair (.pair Y0 (.pair (.pair (.int .i64) (.pair (.int .i64) (.pair (.int .i64) (.sl (.own (some 110620)) (.int .i64))))) (.pair (.sl (.own (some 110623)) dc) (.int .i64)))) (.pair (.sl (.own (some 110629)) bk) (.pair (.sl (.own (some 110632)) cE) (.pair (.sl (.own (some 110635)) bN) (.pair (.sl (.own (some 110638)) .bool) (.pair (.pair (.int .i64) (.pair .bool (.sl (.own (some 110647)) (.int .i64)))) (.pair (.pair (.sl (.own (some 110650)) dH) (.pair (.sl (.own (some 110653)) cJ) (.pair .str (.sl (.own (some 110659)) (.int .i64))))) (.pair (.sl (.own (some 110662)) bg) (.pair .bool (.pair (.sl (.own (some 110668)) .str) (.pair (.sl (.own (some 110671)) (.int .i64)) (.pair (.sl (.own (some 110674)) (.int .i64)) (.pair (.int .i64) Y0))))))))))))))
abbrev Y10:FT:=.pair (.sl (.own (some 73729)) .str) (.pair (.sl (.own (some 73732)) aX) (.pair (.pair Y0 (.pair (.pair (.int .i64) (.pair (.int .i64) (.pair (.int .i64) (.sl (.own (some 73756)) (.int .i64))))) (.pair (.sl (.own (some 73759)) dc) (.int .i64)))) (.pair (.sl (.own (some 73765)) bk) (.pair (.sl (.own (some 73768)) cE) (.pair (.sl (.own (some 73771)) bN) (.pair (.sl (.own (some 73774)) .bool) (.pair (.pair (.int .i64) (.pair .bool (.sl (.own (some 73783)) (.int .i64)))) (.pair (.pair (.sl (.own (some 73786)) dH) (.pair (.sl (.own (some 73789)) cJ) (.pair .str (.sl (.own (some 73795)) (.int .i64))))) (.pair (.sl (.own (some 73798)) bg) (.pair .bool (.pair (.sl (.own (some 73804)) .str) (.pair (.sl (.own (some 73807)) (.int .i64)) (.pair (.sl (.own (some 73810)) (.int .i64)) (.pair (.int .i64) Y0))))))))))))))
abbrev Y11:FT:=.pair (.sl (.own (some 49153)) .str) (.pair (.sl (.own (some 49156)) aX) (.pair (.pair Y0 (.pair (.pair (.int .i64) (.pair (.int .i64) (.pair (.int .i64) (.sl (.own (some 49180)) (.int .i64))))) (.pair (.sl (.own (some 49183)) dc) (.int .i64)))) (.pair (.sl (.own (some 49189)) bk) (.pair (.sl (.own (some 49192)) cE) (.pair (.sl (.own (some 49195)) bN) (.pair (.sl (.own (some 49198)) .bool) (.pair (.pair (.int .i64) (.pair .bool (.sl (.own (some 49207)) (.int .i64)))) (.pair (.pair (.sl (.own (some 49210)) dH) (.pair (.sl (.own (some 49213)) cJ) (.pair .str (.sl (.own (some 49219)) (.int .i64))))) (.pair (.sl (.own (some 49222)) bg) (.pair .bool (.pair (.sl (.own (some 49228)) .str) (.pair (.sl (.own (some 49231)) (.int .i64)) (.pair (.sl (.own (some 49234)) (.int .i64)) (.pair (.int .i64) Y0))))))))))))))
abbrev Y12:FT:=.pair (.sl (.own none) bL) (.pair (.sl (.own none) aB) (.pair (.sl (.own none) bq) (.pair (.sl (.own none) .str) (.pair Y0 (.pair (.sl (.own none) (.int .i64)) (.sl (.own none) .str))))))
abbrev Y13:FT:=.pair (.sl .arg bL) (.pair (.sl .arg aB) (.pair (.sl .arg bq) (.pair (.sl .arg .str) (.pair Y0 (.pair (.sl .arg (.int .i64)) (.sl .arg .str))))))
abbrev Y14:FT:=.pair (.sl (.own (some 1)) .str) (.pair (.sl (.own (some 4)) aX) (.pair (.pair Y0 (.pair (.pair (.int .i64) (.pair (.int .i64) (.pair (.int .i64) (.sl (.own (some 28)) (.int .i64))))) (.pair (.sl (.own (some 31)) dc) (.int .i64)))) (.pair (.sl (.own (some 37)) bk) (.pair (.sl (.own (some 40)) cE) (.pair (.sl (.own (some 43)) bN) (.pair (.sl (.own (some 46)) .bool) (.pair (.pair (.int .i64) (.pair .bool (.sl (.own (some 55)) (.int .i64)))) (.pair (.pair (.sl (.own (some 58)) dH) (.pair (.sl (.own (some 61)) cJ) (.pair .str (.sl (.own (some 67)) (.int .i64))))) (.pair (.sl (.own (some 70)) bg) (.pair .bool (.pair (.sl (.own (some 76)) .str) (.pair (.sl (.own (some 79)) (.int .i64)) (.pair (.sl (.own (some 82)) (.int .i64)) (.pair (.int .i64) Y0))))))))))))))
abbrev Y15:FT:=.pair (.sl (.own (some 86017)) bL) (.pair (.sl (.own (some 86020)) aB) (.pair (.sl (.own (some 86023)) bq) (.pair (.sl (.own (some 86026)) .str) (.pair Y0 (.pair (.sl (.own (some 86041)) (.int .i64)) (.sl (.own (some 86044)) .str))))))
abbrev Y16:FT:=.pair (.sl (.own (some 73729)) bL) (.pair (.sl (.own (some 73732)) aB) (.pair (.sl (.own (some 73735)) bq) (.pair (.sl (.own (some 73738)) .str) (.pair Y0 (.pair (.sl (.own (some 73753)) (.int .i64)) (.sl (.own (some 73756)) .str))))))
abbrev Y18:FT:=.pair (.sl (.own (some 36865)) .str) (.pair (.sl (.own (some 36868)) aX) (.pair (.pair Y0 (.pair (.pair (.int .i64) (.pair (.int .i64) (.pair (.int .i64) (.sl (.own (some 36892)) (.int .i64))))) (.pair (.sl (.own (some 36895)) dc) (.int .i64)))) (.pair (.sl (.own (some 36901)) bk) (.pair (.sl (.own (some 36904)) cE) (.pair (.sl .arg bN) (.pair (.sl .arg .bool) (.pair Y27 (.pair Y26 (.pair (.sl .arg bg) (.pair .bool (.pair (.sl .arg .str) (.pair (.sl .arg (.int .i64)) (.pair (.sl .arg (.int .i64)) (.pair (.int .i64) Y0))))))))))))))
abbrev Y20:FT:=.pair (.sl (.own (some 36865)) bL) (.pair (.sl (.own (some 36868)) aB) (.pair (.sl (.own (some 36871)) bq) (.pair (.sl (.own (some 36874)) .str) (.pair Y0 (.pair (.sl (.own (some 36889)) (.int .i64)) (.sl (.own (some 36892)) .str))))))
abbrev Y21:FT:=.pair (.sl (.own (some 24577)) bL) (.pair (.sl (.own (some 24580)) aB) (.pair (.sl (.own (some 24583)) bq) (.pair (.sl (.own (some 24586)) .str) (.pair Y0 (.pair (.sl (.own (some 24601)) (.int .i64)) (.sl (.own (some 24604)) .str))))))
abbrev Y25:FT:=.pair (.int .i64) (.pair (.int .i64) (.pair Lr (.pair .bool (.pair (.int .i64) (.int .i64)))))
abbrev Y30:FT:=.pair (.int .i64) (.pair (.int .i64) (.pair (.int .i64) (.sl (.own (some 245770)) (.int .i64))))
abbrev Y31:FT:=.pair (.int .i64) (.pair (.int .i64) (.pair (.int .i64) (.sl (.own (some 196618)) (.int .i64))))
abbrev Y32:FT:=.pair (.int .i64) (.pair (.int .i64) (.pair (.int .i64) (.sl (.own (some 184330)) (.int .i64))))
abbrev Y33:FT:=.pair (.int .i64) (.pair (.int .i64) (.pair (.int .i64) (.sl (.own (some 147466)) (.int .i64))))
abbrev Y35:FT:=.pair (.int .i64) (.pair (.int .i64) Y0)
abbrev Y36:FT:=.pair (.int .i64) (.pair (.int .i64) (.pair (.int .i64) .bool))
def E:Env:={ty:=[(3,⟨false,(.int .i64),[]⟩),(4,⟨false,.bool,[]⟩),(5,⟨false,(.int .u8),[]⟩),(9,⟨false,.str,[]⟩),(22,⟨false,(.sl bL),[(127,0)]⟩),(23,⟨false,(.sl aB),[(171,0)]⟩),(24,⟨false,(.sl bq),[(130,0)]⟩),(25,⟨false,(.sl .str),[(9,0)]⟩),(27,⟨true,(.sl .str),[(0,1)]⟩),(29,⟨true,dS,[(0,1),(1,1),(2,1),(3,1)]⟩),(30,⟨false,(.sl (.int .i64)),[(3,0)]⟩),(32,⟨true,ef,[(0,1),(1,1),(2,1),(3,1),(4,4),(8,1),(9,1)]⟩),(34,⟨false,(.sl bL),[(83,0)]⟩),(35,⟨false,(.sl aB),[(145,0)]⟩),(36,⟨false,(.sl bq),[(132,0)]⟩),(37,⟨true,(.sl .str),[(0,1)]⟩),(38,⟨true,dS,[(0,1),(1,1),(2,1),(3,1)]⟩),(40,⟨true,ef,[(0,1),(1,1),(2,1),(3,1),(4,4),(8,1),(9,1)]⟩),(56,⟨true,(.sl .str),[(0,1)]⟩),(57,⟨false,(.sl aX),[(268,0)]⟩),(59,⟨true,dS,[(0,1),(1,1),(2,1),(3,1)]⟩),(61,⟨true,cE,[(0,1),(1,1),(2,1),(3,1)]⟩),(62,⟨false,(.sl dc),[(270,0)]⟩),(64,⟨true,fN,[(0,4),(4,4),(8,1),(9,1)]⟩),(65,⟨false,(.sl bk),[(155,0)]⟩),(66,⟨false,(.sl cE),[(61,0)]⟩),(67,⟨false,(.sl bN),[(161,0)]⟩),(68,⟨false,(.sl .bool),[(4,0)]⟩),(70,⟨true,fu,[(0,1),(1,1),(2,1)]⟩),(71,⟨false,(.sl dH),[(272,0)]⟩),(72,⟨false,(.sl cJ),[(276,0)]⟩),(74,⟨true,(.sl cJ),[(0,1)]⟩),(76,⟨true,lQ,[(0,1),(1,1)]⟩),(78,⟨true,eg,[(0,1),(1,1),(2,2)]⟩),(79,⟨false,(.sl bg),[(279,0)]⟩),(81,⟨true,fM,[(0,1),(1,1),(2,1),(3,1),(4,1)]⟩),(83,⟨true,bL,[(0,1),(1,1),(2,10),(12,1),(13,1),(14,1),(15,1),(16,3),(19,4),(23,1),(24,1),(25,1),(26,1),(27,1),(28,5)]⟩),(106,⟨true,(.sl .str),[(0,1)]⟩),(107,⟨false,(.sl aX),[(340,0)]⟩),(108,⟨true,dS,[(0,1),(1,1),(2,1),(3,1)]⟩),(109,⟨true,cE,[(0,1),(1,1),(2,1),(3,1)]⟩),(110,⟨false,(.sl dc),[(367,0)]⟩),(112,⟨true,fN,[(0,4),(4,4),(8,1),(9,1)]⟩),(113,⟨false,(.sl bk),[(290,0)]⟩),(114,⟨false,(.sl cE),[(109,0)]⟩),(115,⟨false,(.sl bN),[(346,0)]⟩),(116,⟨true,fu,[(0,1),(1,1),(2,1)]⟩),(117,⟨false,(.sl dH),[(393,0)]⟩),(118,⟨false,(.sl cJ),[(418,0)]⟩),(120,⟨true,(.sl cJ),[(0,1)]⟩),(121,⟨true,lQ,[(0,1),(1,1)]⟩),(123,⟨true,eg,[(0,1),(1,1),(2,2)]⟩),(124,⟨false,(.sl bg),[(297,0)]⟩),(125,⟨true,fM,[(0,1),(1,1),(2,1),(3,1),(4,1)]⟩),(127,⟨true,bL,[(0,1),(1,1),(2,10),(12,1),(13,1),(14,1),(15,1),(16,3),(19,4),(23,1),(24,1),(25,1),(26,1),(27,1),(28,5)]⟩),(130,⟨true,bq,[(0,3),(3,1),(4,1),(5,1)]⟩),(132,⟨true,bq,[(0,3),(3,1),(4,1),(5,1)]⟩),(134,⟨false,(.sl jE),[(206,0)]⟩),(143,⟨true,dW,[(0,1),(1,1),(2,1)]⟩),(145,⟨true,aB,[(0,1),(1,1),(2,3),(5,1),(6,1),(7,1)]⟩),(147,⟨true,dW,[(0,1),(1,1),(2,1)]⟩),(149,⟨true,gF,[(0,1),(1,1),(2,1),(3,1),(4,1),(5,1),(6,1),(7,1)]⟩),(151,⟨true,ga,[(0,1),(1,1),(2,1),(3,1),(4,1),(5,1),(6,1),(7,1),(8,8)]⟩),(153,⟨true,tw,[(0,16),(16,1),(17,1)]⟩),(155,⟨true,bk,[(0,4),(4,3),(7,3),(10,18),(28,1),(29,1)]⟩),(161,⟨true,bN,[(0,1),(1,1),(2,1),(3,1),(4,1),(5,1)]⟩),(169,⟨true,dW,[(0,1),(1,1),(2,1)]⟩),(171,⟨true,aB,[(0,1),(1,1),(2,3),(5,1),(6,1),(7,1)]⟩),(206,⟨true,jE,[(0,1),(1,1),(2,1),(3,1)]⟩),(226,⟨true,fM,[(0,1),(1,1),(2,1),(3,1),(4,1)]⟩),(268,⟨true,aX,[(0,1),(1,1),(2,1),(3,1)]⟩),(270,⟨true,dc,[(0,1),(1,1),(2,1)]⟩),(272,⟨true,dH,[(0,1),(1,1),(2,1),(3,1),(4,1),(5,1),(6,1),(7,1),(8,1)]⟩),(274,⟨true,fM,[(0,1),(1,1),(2,1),(3,1),(4,1)]⟩),(276,⟨true,cJ,[(0,1),(1,5),(6,1)]⟩),(277,⟨false,(.sl (.int .u8)),[(5,0)]⟩),(279,⟨true,bg,[(0,5),(5,1),(6,1),(7,1)]⟩),(283,⟨true,dW,[(0,1),(1,1),(2,1)]⟩),(284,⟨true,gF,[(0,1),(1,1),(2,1),(3,1),(4,1),(5,1),(6,1),(7,1)]⟩),(286,⟨true,ga,[(0,1),(1,1),(2,1),(3,1),(4,1),(5,1),(6,1),(7,1),(8,8)]⟩),(288,⟨true,tw,[(0,16),(16,1),(17,1)]⟩),(290,⟨true,bk,[(0,4),(4,3),(7,3),(10,18),(28,1),(29,1)]⟩),(295,⟨true,fM,[(0,1),(1,1),(2,1),(3,1),(4,1)]⟩),(297,⟨true,bg,[(0,5),(5,1),(6,1),(7,1)]⟩),(310,⟨true,H2,[(0,1),(1,1),(2,1),(3,1),(4,1),(5,1)]⟩),(326,⟨true,RU,[(0,1),(1,1),(2,1),(3,1),(4,1)]⟩),(330,⟨true,ZK,[(0,1),(1,1),(2,1),(3,1),(4,1),(5,1),(6,1)]⟩),(340,⟨true,aX,[(0,1),(1,1),(2,1),(3,1)]⟩),(346,⟨true,bN,[(0,1),(1,1),(2,1),(3,1),(4,1),(5,1)]⟩),(367,⟨true,dc,[(0,1),(1,1),(2,1)]⟩),(393,⟨true,dH,[(0,1),(1,1),(2,1),(3,1),(4,1),(5,1),(6,1),(7,1),(8,1)]⟩),(397,⟨false,(.sl (.pair (.int .i64) (.int .i64))),[(401,0)]⟩),(401,⟨true,(.pair (.int .i64) (.int .i64)),[(0,1),(1,1)]⟩),(418,⟨true,cJ,[(0,1),(1,5),(6,1)]⟩),(419,⟨false,(.int .u32),[]⟩)],eqs:=[(153,[.int,.int,.int,.int,.int,.int,.int,.int,.int,.int,.int,.int,.int,.int,.int,.str,.int,.int]),(274,[.int,.int,.int,.int,.int])],fts:=[]}
theorem base:Sound Tryz.prog E bH.nil:=Sound.nil (MR (by kernel_rfl)) (MU (by kernel_rfl)) (MT (by kernel_rfl)) (by kernel_rfl)
def e15:aG:=au [pd (.sl (.int .i64)),pI] [rI] (c2 Pu.iM)
theorem o15:aC Tryz.prog 15 e15:=f0 {} base Tryz.func15
def e16:aG:=au [pd (.sl .str),pI] [rI] (c2 Pu.jS)
def g16:bH:=bH.nil
def n16:An:={mask:=mk [(5,[0,1,4,5])]}
abbrev LL:SD:=⟨.data false (.sl .arg .str)::DI::B::B::DI::DI::bs 22 [],zs 28 [],.none⟩
def ZV {R:Type}(X:SD.D LL)(K:Ex→AS→Option R):=Pu.we (λy0 y1=>ke 0 K LL ((z1 (w y0 (z1 (u y1))) X.1),X.2)) (λy0 y1 y2=>kr K LL ((z1 (w y0 (w y1 (u y2))) X.1),X.2)) X.1.1 (q2 X)
def ajZ:bG:=dG LL ZV (λX=>(X.1.2.1,q3 X))
def L16:bP:=(bP.nil).add 5 ajZ
theorem ai9:dx E g16 n16 L16 (az Tryz.f16 0):=lk LL ZV (λX=>(X.1.2.1,q3 X)) λX x=>((z1 (w x.1 (z1 (u x.2))) X.1),X.2)
theorem o16:aC Tryz.prog 16 e16:=fk n16 base Tryz.func16 (Λ:=L16) (cF ai9 nF)
def anl:aG:=au [pf (.sl .str),pI] [rI] (c2 Pu.sF)
theorem arW:aC Tryz.prog 115 anl:=f0 {} (base.add o16) Tryz.func115
def anm:aG:=au [pd (.sl aX),pI] [rI] (c2 Pu.tI)
theorem arX:aC Tryz.prog 116 anm:=f0 {} base Tryz.func116
def ahS:aG:=au [pf cE,pI] [rI] (c2 Pu.pF)
theorem amv:aC Tryz.prog 210 ahS:=f0 {} (base.add o15) Tryz.func210
def aio:aG:=au [pf dc,pI] [rI] (c2 Pu.tj)
theorem atT:aC Tryz.prog 298 aio:=f0 {} (base.add o15) Tryz.func298
def an7:aG:=au [pd (.sl dc),pI] [rI] (c2 Pu.xW)
def aqR:bH:=bH.nil.add 298 aio
def alB:An:={mask:=mk [(5,[0,1,4,5])]}
abbrev Fy:SD:=⟨.data false (.sl .arg dc)::DI::B::B::DI::DI::bs 21 [],zs 27 [],.none⟩
def Xh {R:Type}(X:SD.D Fy)(K:Ex→AS→Option R):=Pu.yN (λy0 y1=>ke 0 K Fy ((z1 (w y0 (z1 (u y1))) X.1),X.2)) (λy0 y1 y2=>kr K Fy ((z1 (w y0 (w y1 (u y2))) X.1),X.2)) X.1.1 (q2 X)
def ad8:bG:=dG Fy Xh (λX=>(X.1.2.1,q3 X))
def agp:bP:=(bP.nil).add 5 ad8
theorem acm:dx E aqR alB agp (az Tryz.f211 0):=lk Fy Xh (λX=>(X.1.2.1,q3 X)) λX x=>((z1 (w x.1 (z1 (u x.2))) X.1),X.2)
theorem asZ:aC Tryz.prog 211 an7:=fk alB (base.add atT) Tryz.func211 (Λ:=agp) (cF acm nF)
def ann:aG:=au [pf fN,pI] [rI] (c2 Pu.qU)
theorem arY:aC Tryz.prog 117 ann:=f0 {} ((base.add amv).add asZ) Tryz.func117
def ap3:aG:=au [pf gF,pI] [rI] (c2 Pu.qT)
theorem auZ:aC Tryz.prog 397 ap3:=f0 {} base Tryz.func397
def apK:aG:=au [pf ga,pI] [rI] (c2 Pu.sG)
theorem auC:aC Tryz.prog 366 apK:=f0 {} (base.add auZ) Tryz.func366
def aoW:aG:=au [pf tw,pI] [rI] (c2 Pu.uh)
theorem atU:aC Tryz.prog 299 aoW:=f0 {} (base.add auC) Tryz.func299
def ahT:aG:=au [pf bk,pI] [rI] (c2 Pu.mJ)
theorem as0:aC Tryz.prog 212 ahT:=f0 {} (base.add atU) Tryz.func212
def ano:aG:=au [pd (.sl bk),pI] [rI] (c2 Pu.tJ)
def aqk:bH:=bH.nil.add 212 ahT
def ak2:An:={mask:=mk [(5,[0,1,4,5])]}
abbrev E3:SD:=⟨.data false (.sl .arg bk)::DI::B::B::DI::DI::bs 21 [],zs 27 [],.none⟩
def WA {R:Type}(X:SD.D E3)(K:Ex→AS→Option R):=Pu.vk (λy0 y1=>ke 0 K E3 ((z1 (w y0 (z1 (u y1))) X.1),X.2)) (λy0 y1 y2=>kr K E3 ((z1 (w y0 (w y1 (u y2))) X.1),X.2)) X.1.1 (q2 X)
def adt:bG:=dG E3 WA (λX=>(X.1.2.1,q3 X))
def afR:bP:=(bP.nil).add 5 adt
theorem abF:dx E aqk ak2 afR (az Tryz.f118 0):=lk E3 WA (λX=>(X.1.2.1,q3 X)) λX x=>((z1 (w x.1 (z1 (u x.2))) X.1),X.2)
theorem arZ:aC Tryz.prog 118 ano:=fk ak2 (base.add as0) Tryz.func118 (Λ:=afR) (cF abF nF)
def anp:aG:=au [pd (.sl cE),pI] [rI] (c2 Pu.xU)
def aql:bH:=bH.nil.add 210 ahS
def ak3:An:={mask:=mk [(5,[0,1,4,5])]}
abbrev E4:SD:=⟨.data false (.sl .arg cE)::DI::B::B::DI::DI::bs 21 [],zs 27 [],.none⟩
def WB {R:Type}(X:SD.D E4)(K:Ex→AS→Option R):=Pu.yM (λy0 y1=>ke 0 K E4 ((z1 (w y0 (z1 (u y1))) X.1),X.2)) (λy0 y1 y2=>kr K E4 ((z1 (w y0 (w y1 (u y2))) X.1),X.2)) X.1.1 (q2 X)
def adu:bG:=dG E4 WB (λX=>(X.1.2.1,q3 X))
def afS:bP:=(bP.nil).add 5 adu
theorem abG:dx E aql ak3 afS (az Tryz.f119 0):=lk E4 WB (λX=>(X.1.2.1,q3 X)) λX x=>((z1 (w x.1 (z1 (u x.2))) X.1),X.2)
theorem ar0:aC Tryz.prog 119 anp:=fk ak3 (base.add amv) Tryz.func119 (Λ:=afS) (cF abG nF)
def anq:aG:=au [pd (.sl bN),pI] [rI] (c2 Pu.vm)
theorem ar1:aC Tryz.prog 120 anq:=f0 {} base Tryz.func120
def anr:aG:=au [pd (.sl .bool),pI] [rI] (c2 Pu.xS)
theorem ar2:aC Tryz.prog 121 anr:=f0 {} base Tryz.func121
def ans:aG:=au [pf fu,pI] [rI] (c2 Pu.oq)
theorem amj:aC Tryz.prog 122 ans:=f0 {} (base.add o15) Tryz.func122
def an8:aG:=au [pd (.sl dH),pI] [rI] (c2 Pu.xV)
theorem as1:aC Tryz.prog 213 an8:=f0 {} base Tryz.func213
def aoX:aG:=au [pd (.sl cJ),pI] [rI] (c2 Pu.xX)
theorem atV:aC Tryz.prog 300 aoX:=f0 {} base Tryz.func300
def an9:aG:=au [pf (.sl cJ),pI] [rI] (c2 Pu.nv)
theorem as2:aC Tryz.prog 214 an9:=f0 {} (base.add atV) Tryz.func214
def aoa:aG:=au [pf lQ,pI] [rI] (c2 Pu.sH)
theorem as3:aC Tryz.prog 215 aoa:=f0 {} (base.add o15) Tryz.func215
def ant:aG:=au [pf eg,pI] [rI] (c2 Pu.oR)
theorem ar3:aC Tryz.prog 123 ant:=f0 {} (((base.add as1).add as2).add as3) Tryz.func123
def ahU:aG:=au [pf bg,pI] [rI] (c2 Pu.ot)
theorem as4:aC Tryz.prog 216 ahU:=f0 {} base Tryz.func216
def anu:aG:=au [pd (.sl bg),pI] [rI] (c2 Pu.vl)
def aqm:bH:=bH.nil.add 216 ahU
def ak4:An:={mask:=mk [(5,[0,1,4,5])]}
abbrev E5:SD:=⟨.data false (.sl .arg bg)::DI::B::B::DI::DI::bs 21 [],zs 27 [],.none⟩
def WC {R:Type}(X:SD.D E5)(K:Ex→AS→Option R):=Pu.wc (λy0 y1=>ke 0 K E5 ((z1 (w y0 (z1 (u y1))) X.1),X.2)) (λy0 y1 y2=>kr K E5 ((z1 (w y0 (w y1 (u y2))) X.1),X.2)) X.1.1 (q2 X)
def adv:bG:=dG E5 WC (λX=>(X.1.2.1,q3 X))
def afT:bP:=(bP.nil).add 5 adv
theorem abH:dx E aqm ak4 afT (az Tryz.f124 0):=lk E5 WC (λX=>(X.1.2.1,q3 X)) λX x=>((z1 (w x.1 (z1 (u x.2))) X.1),X.2)
theorem ar4:aC Tryz.prog 124 anu:=fk ak4 (base.add as4) Tryz.func124 (Λ:=afT) (cF abH nF)
def e55:aG:=au [pf bL,pI] [rI] (c2 Pu.ti)
theorem o55:aC Tryz.prog 55 e55:=f0 {} ((((((((((((base.add o15).add o16).add arW).add arX).add arY).add arZ).add ar0).add ar1).add ar2).add amj).add ar3).add ar4) Tryz.func55
def e11:aG:=au [pd (.sl bL),pI] [rI] (c2 Pu.xT)
def g11:bH:=bH.nil.add 55 e55
def n11:An:={mask:=mk [(5,[0,1,4,5])]}
abbrev LI:SD:=⟨.data false (.sl .arg bL)::DI::B::B::DI::DI::bs 21 [],zs 27 [],.none⟩
def ZT {R:Type}(X:SD.D LI)(K:Ex→AS→Option R):=Pu.yL (λy0 y1=>ke 0 K LI ((z1 (w y0 (z1 (u y1))) X.1),X.2)) (λy0 y1 y2=>kr K LI ((z1 (w y0 (w y1 (u y2))) X.1),X.2)) X.1.1 (q2 X)
def ajX:bG:=dG LI ZT (λX=>(X.1.2.1,q3 X))
def L11:bP:=(bP.nil).add 5 ajX
theorem ai7:dx E g11 n11 L11 (az Tryz.f11 0):=lk LI ZT (λX=>(X.1.2.1,q3 X)) λX x=>((z1 (w x.1 (z1 (u x.2))) X.1),X.2)
theorem o11:aC Tryz.prog 11 e11:=fk n11 (base.add o55) Tryz.func11 (Λ:=L11) (cF ai7 nF)
def e12:aG:=au [pd (.sl aB),pI] [rI] (c2 Pu.jT)
theorem o12:aC Tryz.prog 12 e12:=f0 {} base Tryz.func12
def e56:aG:=au [pf bq,pI] [rI] (c2 Pu.mI)
theorem o56:aC Tryz.prog 56 e56:=f0 {} (base.add amj) Tryz.func56
def e13:aG:=au [pd (.sl bq),pI] [rI] (c2 Pu.tH)
def g13:bH:=bH.nil.add 56 e56
def n13:An:={mask:=mk [(5,[0,1,4,5])]}
abbrev LJ:SD:=⟨.data false (.sl .arg bq)::DI::B::B::DI::DI::bs 21 [],zs 27 [],.none⟩
def ZU {R:Type}(X:SD.D LJ)(K:Ex→AS→Option R):=Pu.vj (λy0 y1=>ke 0 K LJ ((z1 (w y0 (z1 (u y1))) X.1),X.2)) (λy0 y1 y2=>kr K LJ ((z1 (w y0 (w y1 (u y2))) X.1),X.2)) X.1.1 (q2 X)
def ajY:bG:=dG LJ ZU (λX=>(X.1.2.1,q3 X))
def L13:bP:=(bP.nil).add 5 ajY
theorem ai8:dx E g13 n13 L13 (az Tryz.f13 0):=lk LJ ZU (λX=>(X.1.2.1,q3 X)) λX x=>((z1 (w x.1 (z1 (u x.2))) X.1),X.2)
theorem o13:aC Tryz.prog 13 e13:=fk n13 (base.add o56) Tryz.func13 (Λ:=L13) (cF ai8 nF)
def e14:aG:=au [pf (.sl .str),pI] [rI] (c2 Pu.ug)
theorem o14:aC Tryz.prog 14 e14:=f0 {} (base.add o16) Tryz.func14
def e4:aG:=au [pf ef,pI] [rI] (c2 Pu.wb)
theorem o4:aC Tryz.prog 4 e4:=f0 {} ((((((base.add o11).add o12).add o13).add o14).add o15).add o16) Tryz.func4
def R8:aG:=au [pf (.sl .str)] [(true,(.sl (.own none) .str))] (c1 Pu.dE)
theorem KE:aC Tryz.prog 125 R8:=f0 {} base Tryz.func125
def T3:aG:=au [pf cE] [(true,Y8)] (c1 Pu.gP)
theorem Vu:aC Tryz.prog 127 T3:=f0 {sb:=mg [(2,2)]} base Tryz.func127
def ahr:aG:=au [pf fN] [(true,Y28)] (c1 Pu.uF)
def aqn:bH:=bH.nil.add 127 T3
def ak5:An:={mask:=mk [(3,[1,2,3,4])],mv:=[27,40],mb:=mg [(27,3)],sb:=mg [(3,3),(39,3)]}
abbrev Jw:SD:=⟨B::.ptr 1 0::.ptr 2 0::.ptr 3 0::DI::bs 36 [],Z::(some Y29)::(some (.pair Y0 (.pair (.pair (.int .i64) (.pair (.int .i64) (.pair (.int .i64) (.sl (.own (some 24598)) (.int .i64))))) (.pair (.sl (.own (some 24601)) dc) (.int .i64)))))::(some (.pair Y0 (.pair (.pair (.int .i64) (.pair (.int .i64) (.pair (.int .i64) (.sl (.own (some 36886)) (.int .i64))))) (.pair (.sl (.own (some 36889)) dc) (.int .i64)))))::zs 37 [],.none⟩
def WD {R:Type}(X:SD.D Jw)(K:Ex→AS→Option R):=Pu.pc (λy0 y1=>ke 0 K Jw ((u y0 X.1),(z2 (u y1) X.2.1),X.2.2)) X.2.1.1 X.2.1.2.1
def adw:bG:=dG Jw WD (λX=>(X.1.1,X.2.1.2.2.1))
def afU:bP:=(bP.nil).add 3 adw
theorem abI:dx E aqn ak5 afU (az Tryz.f126 0):=lk Jw WD (λX=>(X.1.1,X.2.1.2.2.1)) λX x=>((u x.1 X.1),(z2 (u x.2) X.2.1),X.2.2)
theorem ar5:aC Tryz.prog 126 ahr:=fk ak5 (base.add Vu) Tryz.func126 (Λ:=afU) (cF abI nF)
def ahs:aG:=au [pf fu] [(true,Y23)] (c1 Pu.rD)
theorem amk:aC Tryz.prog 128 ahs:=f0 {sb:=mg [(2,2)]} base Tryz.func128
def aob:aG:=au [pf (.sl cJ)] [(true,(.sl (.own none) cJ))] (c1 Pu.uB)
theorem as5:aC Tryz.prog 217 aob:=f0 {} base Tryz.func217
def aht:aG:=au [pf eg] [(true,Y24)] (c1 Pu.uD)
theorem ar6:aC Tryz.prog 129 aht:=f0 {sb:=mg [(2,2)]} (base.add as5) Tryz.func129
def e57:aG:=au [pf bL] [(true,Y1)] (c1 Pu.kX)
def g57:bH:=((((bH.nil.add 125 R8).add 126 ahr).add 127 T3).add 128 ahs).add 129 aht
def n57:An:={mask:=mk [(8,[1,2,3,4])],mv:=[34,82],mb:=mg [(34,3)],sb:=mg [(43,3)]}
abbrev QP:SD:=⟨B::.ptr 1 0::.ptr 2 0::.ptr 3 0::DI::bs 78 [],Z::(some Y2)::(some Y3)::(some Y18)::zs 79 [],.none⟩
def aar {R:Type}(X:SD.D QP)(K:Ex→AS→Option R):=Pu.pe (λy0 y1=>ke 0 K QP ((u y0 X.1),(z2 (u y1) X.2.1),X.2.2)) X.2.1.1 X.2.1.2.1
def akv:bG:=dG QP aar (λX=>(X.1.1,X.2.1.2.2.1))
def L57:bP:=(bP.nil).add 8 akv
theorem ajF:dx E g57 n57 L57 (az Tryz.f57 0):=lk QP aar (λX=>(X.1.1,X.2.1.2.2.1)) λX x=>((u x.1 X.1),(z2 (u x.2) X.2.1),X.2.2)
theorem o57:aC Tryz.prog 57 e57:=fk n57 (((((base.add KE).add ar5).add Vu).add amk).add ar6) Tryz.func57 (Λ:=L57) (cF ajF nF)
def e58:aG:=au [pf bq] [(true,(.pair Y23 Lr))] (c1 Pu.uG)
theorem o58:aC Tryz.prog 58 e58:=f0 {mv:=[7]} (base.add amk) Tryz.func58
def e17:aG:=au [pf ef] [(true,Y12)] (c1 Pu.uH)
def g17:bH:=(bH.nil.add 57 e57).add 58 e58
def n17:An:={mask:=mk [(3,[1,2,3,4]),(7,[1,2,3,5])],mv:=[35,53,63],mb:=mg [(35,3),(53,3)],sb:=mg [(3,3),(44,3),(62,3)]}
abbrev Qw:SD:=⟨B::.ptr 1 0::.ptr 2 0::.ptr 3 0::DI::bs 59 [],Z::(some Y13)::(some Y21)::(some Y20)::zs 60 [],.none⟩
def ZW {R:Type}(X:SD.D Qw)(K:Ex→AS→Option R):=Pu.pg (λy0 y1=>ke 0 K Qw ((u y0 X.1),(z2 (u y1) X.2.1),X.2.2)) X.2.1.1 X.2.1.2.1
def aj0:bG:=dG Qw ZW (λX=>(X.1.1,X.2.1.2.2.1))
abbrev Qx:SD:=⟨B::.ptr 1 0::.ptr 2 0::.ptr 3 0::B::DI::bs 58 [],Z::(some Y13)::(some Y21)::(some Y20)::zs 60 [],.none⟩
def ZX {R:Type}(X:SD.D Qx)(K:Ex→AS→Option R):=Pu.ph (λy0 y1=>ke 2 K Qx ((u y0 X.1),(z2 (u y1) X.2.1),X.2.2)) X.2.1.1 X.2.1.2.1
def aj1:bG:=dG Qx ZX (λX=>(X.1.1,X.2.1.2.2.1))
def L17:bP:=((bP.nil).add 3 aj0).add 7 aj1
theorem aja:dx E g17 n17 L17 (az Tryz.f17 0):=lk Qw ZW (λX=>(X.1.1,X.2.1.2.2.1)) λX x=>((u x.1 X.1),(z2 (u x.2) X.2.1),X.2.2)
theorem ajb:dx E g17 n17 L17 (az Tryz.f17 1):=lk Qx ZX (λX=>(X.1.1,X.2.1.2.2.1)) λX x=>((u x.1 X.1),(z2 (u x.2) X.2.1),X.2.2)
theorem o17:aC Tryz.prog 17 e17:=fk n17 ((base.add o57).add o58) Tryz.func17 (Λ:=L17) (cF aja (cF ajb nF))
def Oi:aG:=au [pI,pI,pI] [rB] (c3 Pu.aD)
theorem yY:aC Tryz.prog 19 Oi:=f0 {merge:=mg [(1,6)]} base Tryz.func19
def aa1:aG:=au [pf fu] [rB] (c1 Pu.lH)
def aqq:bH:=bH.nil.add 19 Oi
def ak8:An:={mask:=mk [(2,[1,2,3])],merge:=mg [(4,35),(6,2)]}
abbrev Fb:SD:=⟨B::.ptr 1 0::DB::DI::bs 41 [],Z::(some Y27)::zs 43 [],.none⟩
def WM {R:Type}(X:SD.D Fb)(K:Ex→AS→Option R):=Pu.nB (λy0=>ke 0 K Fb ((z1 (u y0) X.1),X.2)) (λy0 y1=>kr K Fb ((w y0 (u y1) X.1),X.2)) X.1.1 X.2.1.1
def adE:bG:=dG Fb WM (λX=>X.1.2.1)
def afX:bP:=(bP.nil).add 2 adE
theorem abQ:dx E aqq ak8 afX (az Tryz.f139 0):=lk Fb WM (λX=>X.1.2.1) λX x=>((z1 (u x) X.1),X.2)
theorem ae7:aC Tryz.prog 139 aa1:=fk ak8 (base.add yY) Tryz.func139 (Λ:=afX) (cF abQ nF)
def ahu:aG:=au [pf bq] [rB] (c1 Pu.ru)
theorem ar7:aC Tryz.prog 130 ahu:=f0 {merge:=mg [(1,2)]} ((base.add yY).add ae7) Tryz.func130
def abd:aG:=au [pd (.sl (.int .i64)),pI] [rB] (c2 Pu.tt)
def aqS:bH:=bH.nil
def alC:An:={mask:=mk [(2,[0,1,4,5])]}
abbrev Fz:SD:=⟨.data false (.sl .arg (.int .i64))::DI::B::B::DB::DI::bs 12 [],zs 18 [],.none⟩
def Xi {R:Type}(X:SD.D Fz)(K:Ex→AS→Option R):=Pu.rE (λy0=>ke 0 K Fz ((z3 (u y0) X.1),X.2)) (λy0 y1=>kr K Fz ((z2 (w y0 (u y1)) X.1),X.2)) X.1.1 X.1.2.1 (q2 X)
def ad9:bG:=dG Fz Xi q3
def agq:bP:=(bP.nil).add 2 ad9
theorem acn:dx E aqS alC agq (az Tryz.f218 0):=lk Fz Xi q3 λX x=>((z3 (u x) X.1),X.2)
theorem amw:aC Tryz.prog 218 abd:=fk alC base Tryz.func218 (Λ:=agq) (cF acn nF)
def ahv:aG:=au [pd (.sl (.int .i64)),pd (.sl (.int .i64))] [(false,(.sl (.own none) (.int .i64)))] (c2 Pu.oE)
def aiY:bH:=bH.nil.add 218 abd
def aeY:An:={mask:=mk [(3,[1,5,6]),(7,[1,5,6,7])],merge:=mg [(7,37)],mv:=[55]}
abbrev Jy:SD:=⟨B::.data false (.sl .arg (.int .i64))::B::B::B::.data false (.sl (.own (some 61440)) (.int .i64))::DI::DI::bs 48 [],zs 56 [],.none⟩
def WG {R:Type}(X:SD.D Jy)(K:Ex→AS→Option R):=Pu.nM (λy0=>ke 2 K Jy ((z3 (u y0) X.1),X.2)) X.1.1 X.1.2.1 (q2 X)
def ady:bG:=dG Jy WG q3
abbrev Jx:SD:=⟨B::.data false (.sl .arg (.int .i64))::B::B::B::.data false (.sl (.own (some 61440)) (.int .i64))::DI::bs 49 [],zs 56 [],.none⟩
def WE {R:Type}(X:SD.D Jx)(K:Ex→AS→Option R):=Pu.ks (λy0 y1=>ke 0 K Jx ((z1 (w y0 (u y1)) X.1),X.2)) X.1.1
def adx:bG:=dG Jx WE (λX=>(X.1.2.1,q2 X))
def aaK:bP:=((bP.nil).add 7 ady).add 3 adx
theorem abK:dx E aiY aeY aaK (az Tryz.f131 1):=lk Jy WG q3 λX x=>((z3 (u x) X.1),X.2)
theorem abJ:dx E aiY aeY aaK (az Tryz.f131 0):=lk Jx WE (λX=>(X.1.2.1,q2 X)) λX x=>((z1 (w x.1 (u x.2)) X.1),X.2)
theorem ar8:aC Tryz.prog 131 ahv:=fk aeY (base.add amw) Tryz.func131 (Λ:=aaK) (cF abJ (cF abK nF))
def aaY:aG:=au [pd (.sl jE)] [rB] (c1 Pu.nG)
def aiZ:bH:=((bH.nil.add 19 Oi).add 139 aa1).add 218 abd
def aeZ:An:={mask:=mk [(4,[0,2,3]),(9,[0,2,3,4])]}
abbrev E7:SD:=⟨.data false (.sl .arg jE)::B::DB::DI::DI::bs 53 [],zs 58 [],.none⟩
def WI {R:Type}(X:SD.D E7)(K:Ex→AS→Option R):=Pu.oW (λy0=>ke 2 K E7 ((z3 (u y0) X.1),X.2)) (λy0 y1=>kr K E7 ((z1 (w y0 (z1 (u y1))) X.1),X.2)) X.1.1 X.1.2.1 (q2 X)
def adA:bG:=dG E7 WI q3
abbrev E6:SD:=⟨.data false (.sl .arg jE)::B::DB::DI::bs 54 [],zs 58 [],.none⟩
def WH {R:Type}(X:SD.D E6)(K:Ex→AS→Option R):=Pu.oV (λy0=>ke 0 K E6 ((z2 (u y0) X.1),X.2)) (λy0 y1=>kr K E6 ((z1 (w y0 (u y1)) X.1),X.2)) X.1.1 X.1.2.1
def adz:bG:=dG E6 WH q2
def aaL:bP:=((bP.nil).add 9 adA).add 4 adz
theorem abM:dx E aiZ aeZ aaL (az Tryz.f132 1):=lk E7 WI q3 λX x=>((z3 (u x) X.1),X.2)
theorem abL:dx E aiZ aeZ aaL (az Tryz.f132 0):=lk E6 WH q2 λX x=>((z2 (u x) X.1),X.2)
theorem aml:aC Tryz.prog 132 aaY:=fk aeZ (((base.add yY).add ae7).add amw) Tryz.func132 (Λ:=aaL) (cF abL (cF abM nF))
def e59:aG:=au [pd (.sl bq)] [(false,(.sl (.own none) jE)),rB] (c1 Pu.uv)
def g59:bH:=(((bH.nil.add 19 Oi).add 130 ahu).add 131 ahv).add 132 aaY
def n59:An:={mask:=mk [(5,[0,2,3,4,5])],mv:=[41,63]}
abbrev LZ:SD:=⟨.data false (.sl .arg bq)::B::.data false (.sl (.own (some 24576)) jE)::DB::.data false (.sl (.own (some 49152)) jE)::DI::bs 58 [],zs 64 [],.none⟩
def aas {R:Type}(X:SD.D LZ)(K:Ex→AS→Option R):=Pu.ll (λy0 y1=>ke 0 K LZ ((z3 (w y0 (u y1)) X.1),X.2)) (λy0 y1 y2 y3=>kr K LZ ((z1 (w y0 (w y1 (w y2 (u y3)))) X.1),X.2)) X.1.1 X.1.2.1 (q2 X)
def akw:bG:=dG LZ aas (λX=>(q3 X,q4 X))
def L59:bP:=(bP.nil).add 5 akw
theorem ajG:dx E g59 n59 L59 (az Tryz.f59 0):=lk LZ aas (λX=>(q3 X,q4 X)) λX x=>((z3 (w x.1 (u x.2)) X.1),X.2)
theorem o59:aC Tryz.prog 59 e59:=fk n59 ((((base.add yY).add ar7).add ar8).add aml) Tryz.func59 (Λ:=L59) (cF ajG nF)
def ahw:aG:=au [pf dW] [rB] (c1 Pu.sM)
theorem ar9:aC Tryz.prog 133 ahw:=f0 {merge:=mg [(1,2)]} (base.add yY) Tryz.func133
def e60:aG:=au [pd (.sl aB),pd (.sl jE)] [rB] (c2 Pu.nC)
def g60:bH:=((bH.nil.add 19 Oi).add 132 aaY).add 133 ahw
def n60:An:={mask:=mk [(4,[0,1,4,5]),(10,[0,1,4,5,6,7])],merge:=mg [(7,51),(12,74)]}
abbrev FX:SD:=⟨.data false (.sl .arg aB)::.data false (.sl .arg jE)::B::B::DB::DI::.ptr 6 0::DI::bs 67 [],zs 6 ((some Y25)::zs 68 []),.none⟩
def X2 {R:Type}(X:SD.D FX)(K:Ex→AS→Option R):=Pu.iR (λy0=>ke 2 K FX ((z4 (u y0) X.1),X.2)) (λy0 y1=>kr K FX ((z2 (w y0 (z1 (u y1))) X.1),X.2)) X.1.1 X.1.2.1 (q2 X) (q3 X) X.2.1.1
def aeT:bG:=dG FX X2 q4
abbrev L1:SD:=⟨.data false (.sl .arg aB)::.data false (.sl .arg jE)::B::B::DB::DI::bs 69 [],zs 75 [],.none⟩
def aat {R:Type}(X:SD.D L1)(K:Ex→AS→Option R):=Pu.jy (λy0=>ke 0 K L1 ((z3 (u y0) X.1),X.2)) (λy0 y1=>kr K L1 ((z2 (w y0 (u y1)) X.1),X.2)) X.1.1 X.1.2.1 (q2 X)
def akx:bG:=dG L1 aat q3
def L60:bP:=((bP.nil).add 10 aeT).add 4 akx
theorem ac8:dx E g60 n60 L60 (az Tryz.f60 1):=lk FX X2 q4 λX x=>((z4 (u x) X.1),X.2)
theorem ajH:dx E g60 n60 L60 (az Tryz.f60 0):=lk L1 aat q3 λX x=>((z3 (u x) X.1),X.2)
theorem o60:aC Tryz.prog 60 e60:=fk n60 (((base.add yY).add aml).add ar9) Tryz.func60 (Λ:=L60) (cF ajH (cF ac8 nF))
def anv:aG:=au [pf (.sl .str)] [rB] (c1 Pu.uq)
theorem asa:aC Tryz.prog 134 anv:=f0 {merge:=mg [(1,2)]} base Tryz.func134
def aoY:aG:=au [pd .str,pI,pI] [rB] (c3 Pu.kq)
theorem afn:aC Tryz.prog 301 aoY:=f0 {merge:=mg [(1,6)]} base Tryz.func301
def aoZ:aG:=au [pd .str,pI] [rI] (c2 Pu.dr)
theorem S4:aC Tryz.prog 302 aoZ:=f0 {} (base.add afn) Tryz.func302
def aoc:aG:=au [pd .str,pI] [rI] (c2 Pu.eK)
theorem S0:aC Tryz.prog 219 aoc:=f0 {} ((base.add afn).add S4) Tryz.func219
def ao0:aG:=au [pI] [rS] (c1 Pu.cV)
theorem Nf:aC Tryz.prog 303 ao0:=f0 {} (base.add yY) Tryz.func303
def ao1:aG:=au [pd .str] [rI] (c1 Pu.yq)
def ai4:bH:=bH.nil
def ae4:An:={mask:=mk [(3,[0,3,4]),(7,[0,3,4,5])]}
abbrev JR:SD:=⟨.data false .str::B::B::DI::DI::DI::bs 26 [],zs 32 [],.none⟩
def XD {R:Type}(X:SD.D JR)(K:Ex→AS→Option R):=Pu.lF (λy0 y1=>ke 2 K JR ((z1 (w y0 (z1 (u y1))) X.1),X.2)) X.1.1 (q2 X)
def aeu:bG:=dG JR XD (λX=>(X.1.2.1,q3 X))
abbrev JQ:SD:=⟨.data false .str::B::B::DI::DI::bs 27 [],zs 32 [],.none⟩
def XC {R:Type}(X:SD.D JQ)(K:Ex→AS→Option R):=Pu.oz (λy0 y1=>ke 0 K JQ ((z1 (w y0 (u y1)) X.1),X.2)) X.1.1
def aet:bG:=dG JQ XC (λX=>(X.1.2.1,q2 X))
def aaQ:bP:=((bP.nil).add 7 aeu).add 3 aet
theorem acJ:dx E ai4 ae4 aaQ (az Tryz.f304 1):=lk JR XD (λX=>(X.1.2.1,q3 X)) λX x=>((z1 (w x.1 (z1 (u x.2))) X.1),X.2)
theorem acI:dx E ai4 ae4 aaQ (az Tryz.f304 0):=lk JQ XC (λX=>(X.1.2.1,q2 X)) λX x=>((z1 (w x.1 (u x.2)) X.1),X.2)
theorem atW:aC Tryz.prog 304 ao1:=fk ae4 base Tryz.func304 (Λ:=aaQ) (cF acI (cF acJ nF))
def aod:aG:=au [pI,pd .str] [rS,rB] (c2 Pu.ry)
theorem as6:aC Tryz.prog 220 aod:=f0 {merge:=mg [(1,15)]} (((base.add yY).add Nf).add atW) Tryz.func220
def anw:aG:=au [pd .str] [rI] (c1 Pu.iT)
theorem asb:aC Tryz.prog 135 anw:=f0 {merge:=mg [(2,17),(5,37)]} (((base.add yY).add S0).add as6) Tryz.func135
def e61:aG:=au [pf (.sl .str)] [rI] (c1 Pu.sL)
theorem o61:aC Tryz.prog 61 e61:=f0 {merge:=mg [(5,23)]} ((base.add asa).add asb) Tryz.func61
def e62:aG:=au [pf dS] [rB] (c1 Pu.um)
theorem o62:aC Tryz.prog 62 e62:=f0 {merge:=mg [(1,2)]} (base.add yY) Tryz.func62
def aaZ:aG:=au [pf (.sl .str)] [rB] (c1 Pu.lI)
def aqo:bH:=bH.nil
def ak6:An:={mask:=mk [(2,[1,2,3])]}
abbrev E8:SD:=⟨B::.ptr 1 0::DB::DI::bs 18 [],Z::(some (.sl .arg .str))::zs 20 [],.none⟩
def WJ {R:Type}(X:SD.D E8)(K:Ex→AS→Option R):=Pu.nE (λy0=>ke 0 K E8 ((z1 (u y0) X.1),X.2)) (λy0 y1=>kr K E8 ((w y0 (u y1) X.1),X.2)) X.1.1 X.2.1.1
def adB:bG:=dG E8 WJ (λX=>X.1.2.1)
def afV:bP:=(bP.nil).add 2 adB
theorem abN:dx E aqo ak6 afV (az Tryz.f136 0):=lk E8 WJ (λX=>X.1.2.1) λX x=>((z1 (u x) X.1),X.2)
theorem ae6:aC Tryz.prog 136 aaZ:=fk ak6 base Tryz.func136 (Λ:=afV) (cF abN nF)
def aa0:aG:=au [pd (.sl aX)] [rB] (c1 Pu.lj)
def ai0:bH:=bH.nil.add 19 Oi
def ae0:An:={mask:=mk [(4,[0,2,3]),(10,[0,2,3,4,5])],merge:=mg [(7,34),(12,57)]}
abbrev BS:SD:=⟨.data false (.sl .arg aX)::B::DB::DI::.ptr 4 0::DI::bs 52 [],zs 4 ((some Y36)::zs 53 []),.none⟩
def RL {R:Type}(X:SD.D BS)(K:Ex→AS→Option R):=Pu.jA (λy0=>ke 2 K BS ((z3 (u y0) X.1),X.2)) (λy0 y1=>kr K BS ((z1 (w y0 (z1 (u y1))) X.1),X.2)) X.1.1 X.1.2.1 (q2 X) X.2.1.1
def YS:bG:=dG BS RL q3
abbrev E9:SD:=⟨.data false (.sl .arg aX)::B::DB::DI::bs 54 [],zs 58 [],.none⟩
def WK {R:Type}(X:SD.D E9)(K:Ex→AS→Option R):=Pu.kQ (λy0=>ke 0 K E9 ((z2 (u y0) X.1),X.2)) (λy0 y1=>kr K E9 ((z1 (w y0 (u y1)) X.1),X.2)) X.1.1 X.1.2.1
def adC:bG:=dG E9 WK q2
def aaM:bP:=((bP.nil).add 10 YS).add 4 adC
theorem YP:dx E ai0 ae0 aaM (az Tryz.f137 1):=lk BS RL q3 λX x=>((z3 (u x) X.1),X.2)
theorem abO:dx E ai0 ae0 aaM (az Tryz.f137 0):=lk E9 WK q2 λX x=>((z2 (u x) X.1),X.2)
theorem amm:aC Tryz.prog 137 aa0:=fk ae0 (base.add yY) Tryz.func137 (Λ:=aaM) (cF abO (cF YP nF))
def T4:aG:=au [pf cE] [rB] (c1 Pu.gV)
def aqr:bH:=bH.nil.add 19 Oi
def ak9:An:={mask:=mk [(5,[1,2,3,4])],merge:=mg [(1,20),(7,50)]}
abbrev Ff:SD:=⟨B::.ptr 1 0::DB::.data false (.sl (.own (some 36864)) .bool)::DI::bs 53 [],Z::(some Y22)::zs 56 [],.none⟩
def WQ {R:Type}(X:SD.D Ff)(K:Ex→AS→Option R):=Pu.rz (λy0 y1=>ke 0 K Ff ((z1 (w y0 (u y1)) X.1),X.2)) (λy0 y1 y2=>kr K Ff ((w y0 (w y1 (u y2)) X.1),X.2)) X.1.1 X.2.1.1
def adH:bG:=dG Ff WQ (λX=>(X.1.2.1,q2 X))
def afY:bP:=(bP.nil).add 5 adH
theorem abT:dx E aqr ak9 afY (az Tryz.f142 0):=lk Ff WQ (λX=>(X.1.2.1,q2 X)) λX x=>((z1 (w x.1 (u x.2)) X.1),X.2)
theorem SY:aC Tryz.prog 142 T4:=fk ak9 (base.add yY) Tryz.func142 (Λ:=afY) (cF abT nF)
def aa4:aG:=au [pf cE,pd (.sl (.int .i64))] [(true,Y8),rB] (c2 Pu.ff)
theorem amo:aC Tryz.prog 153 aa4:=f0 {merge:=mg [(3,21)],mv:=[10,24]} ((base.add Vu).add SY) Tryz.func153
def ao2:aG:=au [pI] [rB] (c1 Pu.nL)
theorem afo:aC Tryz.prog 305 ao2:=f0 {merge:=mg [(1,2)]} base Tryz.func305
def aoh:aG:=au [pf dS] [rI] (c1 Pu.lJ)
theorem afh:aC Tryz.prog 228 aoh:=f0 {} (base.add afo) Tryz.func228
def abe:aG:=au [pf dS] [rB] (c1 Pu.iW)
theorem S1:aC Tryz.prog 221 abe:=f0 {merge:=mg [(1,2)]} (((base.add yY).add afh).add afo) Tryz.func221
def ahx:aG:=au [pf fN] [rB] (c1 Pu.Ax)
def aqp:bH:=(((bH.nil.add 19 Oi).add 142 T4).add 153 aa4).add 221 abe
def ak7:An:={mask:=mk [(6,[1,2,3,4,5])],merge:=mg [(1,24),(9,50),(14,2)],mv:=[55]}
abbrev Fa:SD:=⟨B::.ptr 1 0::DB::DI::.data false (.sl (.own (some 49152)) (.int .i64))::DI::bs 68 [],Z::(some Y29)::zs 72 [],.none⟩
def WL {R:Type}(X:SD.D Fa)(K:Ex→AS→Option R):=Pu.rC (λy0 y1 y2=>ke 0 K Fa ((z1 (w y0 (w y1 (u y2))) X.1),X.2)) (λy0 y1 y2 y3=>kr K Fa ((w y0 (w y1 (w y2 (u y3))) X.1),X.2)) X.1.1 X.2.1.1
def adD:bG:=dG Fa WL (λX=>(X.1.2.1,q2 X,q3 X))
def afW:bP:=(bP.nil).add 6 adD
theorem abP:dx E aqp ak7 afW (az Tryz.f138 0):=lk Fa WL (λX=>(X.1.2.1,q2 X,q3 X)) λX x=>((z1 (w x.1 (w x.2.1 (u x.2.2))) X.1),X.2)
theorem asc:aC Tryz.prog 138 ahx:=fk ak7 ((((base.add yY).add SY).add amo).add S1) Tryz.func138 (Λ:=afW) (cF abP nF)
def aip:aG:=au [pf dH] [rB] (c1 Pu.mU)
theorem atX:aC Tryz.prog 306 aip:=f0 {merge:=mg [(1,33),(3,54),(5,2)]} (base.add yY) Tryz.func306
def ahV:aG:=au [pd (.sl dH)] [rB] (c1 Pu.ux)
def aqT:bH:=bH.nil.add 306 aip
def alD:An:={mask:=mk [(2,[0,2,3])]}
abbrev FA:SD:=⟨.data false (.sl .arg dH)::B::DB::DI::bs 15 [],zs 19 [],.none⟩
def Xj {R:Type}(X:SD.D FA)(K:Ex→AS→Option R):=Pu.oX (λy0=>ke 0 K FA ((z2 (u y0) X.1),X.2)) (λy0 y1=>kr K FA ((z1 (w y0 (u y1)) X.1),X.2)) X.1.1 X.1.2.1
def aea:bG:=dG FA Xj q2
def agr:bP:=(bP.nil).add 2 aea
theorem aco:dx E aqT alD agr (az Tryz.f222 0):=lk FA Xj q2 λX x=>((z2 (u x) X.1),X.2)
theorem as7:aC Tryz.prog 222 ahV:=fk alD (base.add atX) Tryz.func222 (Λ:=agr) (cF aco nF)
def aiF:aG:=au [pf fM] [rI] (c1 Pu.sR)
def arq:bH:=bH.nil
def al8:An:={mask:=mk [(4,[3,4,5])]}
abbrev J1:SD:=⟨B::B::B::DI::.data false (.sl (.own (some 49152)) (.int .i64))::DI::bs 26 [],zs 32 [],.none⟩
def XT {R:Type}(X:SD.D J1)(K:Ex→AS→Option R):=Pu.km (λy0 y1=>ke 0 K J1 ((w y0 (z1 (u y1)) X.1),X.2)) X.1.2.1
def aeK:bG:=dG J1 XT (λX=>(X.1.1,q2 X))
def agW:bP:=(bP.nil).add 4 aeK
theorem acZ:dx E arq al8 agW (az Tryz.f367 0):=lk J1 XT (λX=>(X.1.1,q2 X)) λX x=>((w x.1 (z1 (u x.2)) X.1),X.2)
theorem auD:aC Tryz.prog 367 aiF:=fk al8 base Tryz.func367 (Λ:=agW) (cF acZ nF)
def aiq:aG:=au [pf (.sl cJ),pf fM] [rI] (c2 Pu.uC)
def arb:bH:=bH.nil.add 367 aiF
def alV:An:={mask:=mk [(2,[2,3,4,5])],merge:=mg [(7,39)]}
abbrev FP:SD:=⟨B::B::.ptr 2 0::.ptr 3 0::DI::DI::bs 35 [],Z::Z::(some (.sl .arg cJ))::(some (.pair (.int .i64) Y0))::zs 37 [],.none⟩
def XE {R:Type}(X:SD.D FP)(K:Ex→AS→Option R):=Pu.lp (λy0=>ke 0 K FP ((z1 (u y0) X.1),X.2)) (λy0 y1=>kr K FP ((w y0 (u y1) X.1),X.2)) X.1.1 X.2.1.1 X.2.1.2.1
def aev:bG:=dG FP XE (λX=>X.1.2.1)
def agJ:bP:=(bP.nil).add 2 aev
theorem acK:dx E arb alV agJ (az Tryz.f307 0):=lk FP XE (λX=>X.1.2.1) λX x=>((z1 (u x) X.1),X.2)
theorem atY:aC Tryz.prog 307 aiq:=fk alV (base.add auD) Tryz.func307 (Λ:=agJ) (cF acK nF)
def ahW:aG:=au [pf (.sl cJ)] [rB] (c1 Pu.uy)
def aqU:bH:=(bH.nil.add 19 Oi).add 307 aiq
def alE:An:={mask:=mk [(4,[1,2,3])],merge:=mg [(7,30),(10,42)]}
abbrev FB:SD:=⟨B::.ptr 1 0::DB::DI::bs 45 [],Z::(some (.sl .arg cJ))::zs 47 [],.none⟩
def Xk {R:Type}(X:SD.D FB)(K:Ex→AS→Option R):=Pu.oZ (λy0=>ke 0 K FB ((z1 (u y0) X.1),X.2)) (λy0 y1=>kr K FB ((w y0 (u y1) X.1),X.2)) X.1.1 X.2.1.1
def aeb:bG:=dG FB Xk (λX=>X.1.2.1)
def ags:bP:=(bP.nil).add 4 aeb
theorem acp:dx E aqU alE ags (az Tryz.f223 0):=lk FB Xk (λX=>X.1.2.1) λX x=>((z1 (u x) X.1),X.2)
theorem as8:aC Tryz.prog 223 ahW:=fk alE ((base.add yY).add atY) Tryz.func223 (Λ:=ags) (cF acp nF)
def air:aG:=au [pI] [rB] (c1 Pu.uA)
theorem atZ:aC Tryz.prog 308 air:=f0 {merge:=mg [(1,2)]} base Tryz.func308
def ahX:aG:=au [pf lQ,pI] [rB] (c2 Pu.sV)
def aqV:bH:=(bH.nil.add 19 Oi).add 308 air
def alF:An:={mask:=mk [(4,[1,2,4,5])],merge:=mg [(1,21)]}
abbrev FC:SD:=⟨B::DI::.ptr 2 0::B::DB::DI::bs 32 [],Z::Z::(some (.pair .str (.sl .arg (.int .i64))))::zs 35 [],.none⟩
def Xl {R:Type}(X:SD.D FC)(K:Ex→AS→Option R):=Pu.nH (λy0=>ke 0 K FC ((z2 (u y0) X.1),X.2)) (λy0 y1=>kr K FC ((z1 (w y0 (u y1)) X.1),X.2)) X.1.1 X.1.2.1 X.2.1.1
def aec:bG:=dG FC Xl q2
def agt:bP:=(bP.nil).add 4 aec
theorem acq:dx E aqV alF agt (az Tryz.f224 0):=lk FC Xl q2 λX x=>((z2 (u x) X.1),X.2)
theorem as9:aC Tryz.prog 224 ahX:=fk alF ((base.add yY).add atZ) Tryz.func224 (Λ:=agt) (cF acq nF)
def ahy:aG:=au [pf eg,pI] [rB] (c2 Pu.oY)
def ai1:bH:=((bH.nil.add 222 ahV).add 223 ahW).add 224 ahX
def ae1:An:={mask:=mk [(4,[1,2,4,5]),(9,[1,2,4,6])],merge:=mg [(1,23)]}
abbrev Fc:SD:=⟨B::DI::.ptr 2 0::B::DB::DI::bs 50 [],Z::Z::(some Y26)::zs 53 [],.none⟩
def WN {R:Type}(X:SD.D Fc)(K:Ex→AS→Option R):=Pu.kT (λy0=>ke 0 K Fc ((z2 (u y0) X.1),X.2)) (λy0 y1=>kr K Fc ((z1 (w y0 (u y1)) X.1),X.2)) X.1.1 X.1.2.1 X.2.1.1
def adF:bG:=dG Fc WN q2
abbrev Fe:SD:=⟨B::DI::.ptr 2 0::B::DB::B::DI::bs 49 [],Z::Z::(some Y26)::zs 53 [],.none⟩
def WO {R:Type}(X:SD.D Fe)(K:Ex→AS→Option R):=Pu.kU (λy0=>ke 2 K Fe ((z2 (u y0) X.1),X.2)) (λy0 y1=>kr K Fe ((z1 (w y0 (u y1)) X.1),X.2)) X.1.1 X.1.2.1 X.2.1.1
def adG:bG:=dG Fe WO q2
def aaN:bP:=((bP.nil).add 4 adF).add 9 adG
theorem abR:dx E ai1 ae1 aaN (az Tryz.f140 0):=lk Fc WN q2 λX x=>((z2 (u x) X.1),X.2)
theorem abS:dx E ai1 ae1 aaN (az Tryz.f140 1):=lk Fe WO q2 λX x=>((z2 (u x) X.1),X.2)
theorem asd:aC Tryz.prog 140 ahy:=fk ae1 (((base.add as7).add as8).add as9) Tryz.func140 (Λ:=aaN) (cF abR (cF abS nF))
def aoe:aG:=au [pf dW] [rB] (c1 Pu.kS)
theorem afg:aC Tryz.prog 225 aoe:=f0 {merge:=mg [(1,2)]} ((base.add yY).add afo) Tryz.func225
def ao3:aG:=au [pf gF] [rB] (c1 Pu.mV)
theorem amO:aC Tryz.prog 309 ao3:=f0 {merge:=mg [(1,18),(4,2),(5,2)]} (base.add yY) Tryz.func309
def aof:aG:=au [pf ga] [rB] (c1 Pu.kV)
theorem Za:aC Tryz.prog 226 aof:=f0 {merge:=mg [(1,55),(3,3),(4,2)]} ((base.add yY).add amO) Tryz.func226
def aa2:aG:=au [pf bk] [rB] (c1 Pu.uQ)
theorem ae8:aC Tryz.prog 141 aa2:=f0 {merge:=mg [(1,42),(5,2)]} ((((base.add yY).add S1).add afg).add Za) Tryz.func141
def aog:aG:=au [pf bN] [rB] (c1 Pu.pP)
theorem amx:aC Tryz.prog 227 aog:=f0 {merge:=mg [(1,2)]} base Tryz.func227
def ahz:aG:=au [pf bN] [rB] (c1 Pu.ft)
theorem Vv:aC Tryz.prog 143 ahz:=f0 {merge:=mg [(1,24),(3,2)]} ((base.add yY).add amx) Tryz.func143
def e63:aG:=au [pf bL] [rB] (c1 Pu.mS)
def g63:bH:=((((((((bH.nil.add 19 Oi).add 136 aaZ).add 137 aa0).add 138 ahx).add 139 aa1).add 140 ahy).add 141 aa2).add 142 T4).add 143 ahz
def n63:An:={mask:=mk [(5,[1,2,3,4]),(11,[2,5,6])],merge:=mg [(2,64),(7,94)]}
abbrev L2:SD:=⟨B::.ptr 1 0::DB::DI::DI::bs 118 [],Z::(some Y2)::zs 121 [],.none⟩
def aau {R:Type}(X:SD.D L2)(K:Ex→AS→Option R):=Pu.rq (λy0=>ke 0 K L2 ((z2 (u y0) X.1),X.2)) (λy0 y1=>kr K L2 ((w y0 (z1 (u y1)) X.1),X.2)) X.1.1 X.1.2.1 X.2.1.1
def aky:bG:=dG L2 aau q2
abbrev FY:SD:=⟨B::B::DB::B::B::.data false (.sl (.own (some 61440)) (.int .i64))::DI::bs 116 [],zs 123 [],.none⟩
def X3 {R:Type}(X:SD.D FY)(K:Ex→AS→Option R):=Pu.oU (λy0=>ke 2 K FY ((z2 (u y0) X.1),X.2)) (λy0 y1=>kr K FY ((w y0 (z1 (u y1)) X.1),X.2)) X.1.1 X.1.2.1
def aeU:bG:=dG FY X3 q2
def L63:bP:=((bP.nil).add 5 aky).add 11 aeU
theorem ajI:dx E g63 n63 L63 (az Tryz.f63 0):=lk L2 aau q2 λX x=>((z2 (u x) X.1),X.2)
theorem ac9:dx E g63 n63 L63 (az Tryz.f63 1):=lk FY X3 q2 λX x=>((z2 (u x) X.1),X.2)
theorem o63:aC Tryz.prog 63 e63:=fk n63 (((((((((base.add yY).add ae6).add amm).add asc).add ae7).add asd).add ae8).add SY).add Vv) Tryz.func63 (Λ:=L63) (cF ajI (cF ac9 nF))
def anx:aG:=au [pd (.sl (.int .i64)),pd (.sl (.int .i64))] [rB] (c2 Pu.CK)
def aqs:bH:=bH.nil
def ala:An:={mask:=mk [(4,[0,1,4,5])]}
abbrev Fg:SD:=⟨.data false (.sl .arg (.int .i64))::.data false (.sl .arg (.int .i64))::B::B::DB::DI::bs 20 [],zs 26 [],.none⟩
def WR {R:Type}(X:SD.D Fg)(K:Ex→AS→Option R):=Pu.yW (λy0=>ke 0 K Fg ((z3 (u y0) X.1),X.2)) (λy0 y1=>kr K Fg ((z2 (w y0 (u y1)) X.1),X.2)) X.1.1 X.1.2.1 (q2 X)
def adI:bG:=dG Fg WR q3
def afZ:bP:=(bP.nil).add 4 adI
theorem abU:dx E aqs ala afZ (az Tryz.f144 0):=lk Fg WR q3 λX x=>((z3 (u x) X.1),X.2)
theorem ase:aC Tryz.prog 144 anx:=fk ala base Tryz.func144 (Λ:=afZ) (cF abU nF)
def e64:aG:=au [pf fu,pf fu] [rB] (c2 Pu.pt)
theorem o64:aC Tryz.prog 64 e64:=f0 {merge:=mg [(1,4)]} (base.add ase) Tryz.func64
def e18:aG:=au [pf ef] [rB] (c1 Pu.wz)
def g18:bH:=(((((bH.nil.add 59 e59).add 60 e60).add 61 e61).add 62 e62).add 63 e63).add 64 e64
def n18:An:={mask:=mk [(6,[1,2,5,6])],merge:=mg [(3,50),(8,99)]}
abbrev LM:SD:=⟨B::.ptr 1 0::DB::B::B::DI::DI::bs 93 [],Z::(some Y13)::zs 98 [],.none⟩
def ZY {R:Type}(X:SD.D LM)(K:Ex→AS→Option R):=Pu.rk (λy0=>ke 0 K LM ((z2 (u y0) X.1),X.2)) (λy0 y1=>kr K LM ((w y0 (z1 (u y1)) X.1),X.2)) X.1.1 X.1.2.1 X.2.1.1
def aj2:bG:=dG LM ZY q2
def L18:bP:=(bP.nil).add 6 aj2
theorem ajc:dx E g18 n18 L18 (az Tryz.f18 0):=lk LM ZY q2 λX x=>((z2 (u x) X.1),X.2)
theorem o18:aC Tryz.prog 18 e18:=fk n18 ((((((base.add o59).add o60).add o61).add o62).add o63).add o64) Tryz.func18 (Λ:=L18) (cF ajc nF)
def ait:aG:=au [pd (.sl aX),pI,pI,pd .bool] [rI] (c4 Pu.uE)
def are:bH:=bH.nil
def alY:An:={mask:=mk [(2,[0,1,2,3,8,9])],merge:=mg [(4,42)]}
abbrev FQ:SD:=⟨.data false (.sl .arg aX)::DI::DI::DB::bs 4 (DI::DI::bs 38 []),zs 48 [],.none⟩
def XH {R:Type}(X:SD.D FQ)(K:Ex→AS→Option R):=Pu.pb (λy0=>ke 0 K FQ ((z5 (u y0) X.1),X.2)) (λy0 y1=>kr K FQ ((z4 (w y0 (u y1)) X.1),X.2)) X.1.1 X.1.2.1 (q2 X) (q3 X) (q4 X)
def aey:bG:=dG FQ XH q5
def agM:bP:=(bP.nil).add 2 aey
theorem acN:dx E are alY agM (az Tryz.f319 0):=lk FQ XH q5 λX x=>((z5 (u x) X.1),X.2)
theorem at6:aC Tryz.prog 319 ait:=fk alY base Tryz.func319 (Λ:=agM) (cF acN nF)
def Yr:aG:=au [pf (.sl .str),pI,pI] [rB] (c3 Pu.ia)
theorem afp:aC Tryz.prog 320 Yr:=f0 {merge:=mg [(2,6)]} (base.add ae6) Tryz.func320
def abf:aG:=au [pd (.sl aX),pf (.sl .str),pI,pI,pI,pd .bool] [(false,(.sl (.own none) (.int .i64))),(false,(.sl (.own none) (.int .i64))),rB] (c6 Pu.oC)
def aqX:bH:=((((bH.nil.add 19 Oi).add 136 aaZ).add 137 aa0).add 319 ait).add 320 Yr
def alH:An:={mask:=mk [(5,[0,2,3,4,5,7,12,13,14,15,16])],merge:=mg [(3,34),(10,57)],mv:=[35,36,64,71,81,82]}
abbrev FD:SD:=⟨.data false (.sl .arg aX)::B::DI::DI::DI::DB::B::.ptr 7 0::bs 4 (.data false (.sl (.own (some 147456)) (.int .i64))::.data false (.sl (.own (some 159744)) (.int .i64))::DB::.data false (.sl (.own (some 184320)) (.int .i64))::.data false (.sl (.own (some 196608)) (.int .i64))::bs 66 []),zs 7 ((some (.sl .arg .str))::zs 75 []),.none⟩
def Xn {R:Type}(X:SD.D FD)(K:Ex→AS→Option R):=Pu.g4 (λy0 y1 y2 y3=>ke 0 K FD ((z2 (w y0 (w y1 (z4 (w y2 (u y3))))) X.1),X.2)) (λy0 y1 y2 y3 y4 y5 y6=>kr K FD ((z2 (w y0 (w y1 (z1 (w y2 (w y3 (w y4 (w y5 (u y6)))))))) X.1),X.2)) X.1.1 X.1.2.1 (q4 X) (q5 X) (q6 X) (q7 X) X.2.1.1
def aee:bG:=dG FD Xn (λX=>(q2 X,q3 X,q8 X,q9 X))
def agv:bP:=(bP.nil).add 5 aee
theorem acs:dx E aqX alH agv (az Tryz.f238 0):=lk FD Xn (λX=>(q2 X,q3 X,q8 X,q9 X)) λX x=>((z2 (w x.1 (w x.2.1 (z4 (w x.2.2.1 (u x.2.2.2))))) X.1),X.2)
theorem amB:aC Tryz.prog 238 abf:=fk alH (((((base.add yY).add ae6).add amm).add at6).add afp) Tryz.func238 (Λ:=agv) (cF acs nF)
def ahY:aG:=au [pf (.sl .str),pI,pI] [rS,rB] (c3 Pu.ln)
def aqY:bH:=bH.nil.add 320 Yr
def alI:An:={mask:=mk [(4,[1,2,3,8])]}
abbrev JK:SD:=⟨B::DI::DI::.ptr 3 0::bs 4 (.data false .str::bs 35 []),Z::Z::Z::(some (.sl .arg .str))::zs 40 [],.none⟩
def Xo {R:Type}(X:SD.D JK)(K:Ex→AS→Option R):=Pu.h9 (λy0 y1 y2=>ke 0 K JK ((w y0 (w y1 (u y2)) X.1),X.2)) X.2.1.1
def aef:bG:=dG JK Xo (λX=>(X.1.1,X.1.2.1,q2 X))
def agw:bP:=(bP.nil).add 4 aef
theorem acu:dx E aqY alI agw (az Tryz.f239 0):=lk JK Xo (λX=>(X.1.1,X.1.2.1,q2 X)) λX x=>((w x.1 (w x.2.1 (u x.2.2)) X.1),X.2)
theorem atf:aC Tryz.prog 239 ahY:=fk alI (base.add afp) Tryz.func239 (Λ:=agw) (cF acu nF)
def ahC:aG:=au [pd (.sl aX),pf (.sl .str),pI,pI,pI] [rS,rB] (c5 Pu.nA)
def aqt:bH:=(bH.nil.add 238 abf).add 239 ahY
def alb:An:={mask:=mk [(6,[6,12,13,15,16])]}
abbrev Jz:SD:=⟨bs 6 (.ptr 6 0::bs 5 (.data false (.sl .loc (.int .i64))::.data false (.sl .loc (.int .i64))::B::.data false .str::DI::bs 37 [])),zs 6 ((some (.sl .arg .str))::zs 47 []),.none⟩
def WS {R:Type}(X:SD.D Jz)(K:Ex→AS→Option R):=Pu.oT (λy0 y1=>ke 0 K Jz ((z2 (w y0 (u y1)) X.1),X.2)) X.1.1 X.1.2.1 X.2.1.1
def adJ:bG:=dG Jz WS (λX=>(q2 X,q3 X))
def af0:bP:=(bP.nil).add 6 adJ
theorem abV:dx E aqt alb af0 (az Tryz.f150 0):=lk Jz WS (λX=>(q2 X,q3 X)) λX x=>((z2 (w x.1 (u x.2)) X.1),X.2)
theorem ae9:aC Tryz.prog 150 ahC:=fk alb ((base.add amB).add atf) Tryz.func150 (Λ:=af0) (cF abV nF)
def aoi:aG:=au [pf dS,pI] [rI] (c2 Pu.ko)
theorem amy:aC Tryz.prog 229 aoi:=f0 {merge:=mg [(1,11)]} (base.add S1) Tryz.func229
def anz:aG:=au [pd (.sl aX),pf (.sl .str),pI,pf dS] [rS,(true,Y0),rB] (c4 Pu.oB)
theorem asf:aC Tryz.prog 145 anz:=f0 {merge:=mg [(1,20)],sb:=mg [(9,9)]} ((((base.add ae9).add S1).add afh).add amy) Tryz.func145
def aov:aG:=au [pI] [rS] (c1 Pu.bK)
theorem KF:aC Tryz.prog 244 aov:=f0 {} (base.add yY) Tryz.func244
def apd:aG:=au [pf H2] [rB] (c1 Pu.wA)
theorem at7:aC Tryz.prog 322 apd:=f0 {merge:=mg [(1,2)]} (base.add yY) Tryz.func322
def ah1:aG:=au [pf H2] [rS] (c1 Pu.lh)
theorem amD:aC Tryz.prog 247 ah1:=f0 {} (((base.add KF).add Nf).add at7) Tryz.func247
def aoj:aG:=au [pd .str] [(true,Y35),rB] (c1 Pu.lg)
theorem ata:aC Tryz.prog 230 aoj:=f0 {sb:=mg [(4,4)]} (((base.add S0).add amD).add S4) Tryz.func230
def apL:aG:=au [pI,pI,pI,pI] [rS,rB] (c4 Pu.iV)
theorem auE:aC Tryz.prog 368 apL:=f0 {merge:=mg [(1,27)]} (((base.add yY).add KF).add Nf) Tryz.func368
def aiO:aG:=au [pI,pI] [rI] (c2 Pu.iQ)
theorem au6:aC Tryz.prog 404 aiO:=f0 {merge:=mg [(1,12)]} (base.add yY) Tryz.func404
def ap4:aG:=au [pd .str] [rI] (c1 Pu.sW)
def ary:bH:=bH.nil.add 404 aiO
def amf:An:={mask:=mk [(3,[0,3,4])]}
abbrev J8:SD:=⟨.data false .str::B::B::DI::DI::bs 28 [],zs 33 [],.none⟩
def X0 {R:Type}(X:SD.D J8)(K:Ex→AS→Option R):=Pu.nJ (λy0 y1=>ke 0 K J8 ((z1 (w y0 (u y1)) X.1),X.2)) X.1.1
def aeR:bG:=dG J8 X0 (λX=>(X.1.2.1,q2 X))
def ag6:bP:=(bP.nil).add 3 aeR
theorem ac6:dx E ary amf ag6 (az Tryz.f398 0):=lk J8 X0 (λX=>(X.1.2.1,q2 X)) λX x=>((z1 (w x.1 (u x.2)) X.1),X.2)
theorem au0:aC Tryz.prog 398 ap4:=fk amf (base.add au6) Tryz.func398 (Λ:=ag6) (cF ac6 nF)
def apM:aG:=au [pd .str] [rI] (c1 Pu.lE)
theorem am3:aC Tryz.prog 369 apM:=f0 {} (base.add au0) Tryz.func369
def aiG:aG:=au [pd .str,pI,pd .str] [rS] (c3 Pu.fS)
theorem afr:aC Tryz.prog 370 aiG:=f0 {} (base.add afn) Tryz.func370
def ao4:aG:=au [pI,pI,pf gF] [rS,rB] (c3 Pu.gu)
theorem amP:aC Tryz.prog 310 ao4:=f0 {merge:=mg [(14,82)]} ((((((base.add KF).add Nf).add amO).add auE).add am3).add afr) Tryz.func310
def ap5:aG:=au [pf ZK] [rB] (c1 Pu.Aw)
theorem au1:aC Tryz.prog 399 ap5:=f0 {merge:=mg [(1,2)]} (base.add yY) Tryz.func399
def apN:aG:=au [pf ZK] [rS,rB] (c1 Pu.sT)
theorem auF:aC Tryz.prog 371 apN:=f0 {} (((((base.add KF).add Nf).add am3).add afr).add au1) Tryz.func371
def ao5:aG:=au [pf ZK] [rS,rB] (c1 Pu.rj)
theorem amQ:aC Tryz.prog 311 ao5:=f0 {} (base.add auF) Tryz.func311
def apc:aG:=au [pf RU] [rB] (c1 Pu.rV)
theorem amS:aC Tryz.prog 321 apc:=f0 {merge:=mg [(1,2)]} (base.add yY) Tryz.func321
def apO:aG:=au [pI] [rS] (c1 Pu.gB)
theorem auG:aC Tryz.prog 372 apO:=f0 {} ((base.add KF).add Nf) Tryz.func372
def ao6:aG:=au [pf RU] [rS,rB] (c1 Pu.sN)
theorem at0:aC Tryz.prog 312 ao6:=f0 {} (((base.add KF).add amS).add auG) Tryz.func312
def apP:aG:=au [pI,pd (.int .u8)] [rS] (c2 Pu.uz)
def ars:bH:=bH.nil
def al9:An:={mask:=mk [(3,[0,1,5,6])]}
abbrev J2:SD:=⟨DI::.data false (.int .u8)::B::B::B::.data false (.sl (.own (some 61440)) (.int .u8))::DI::bs 13 [],zs 20 [],.none⟩
def XU {R:Type}(X:SD.D J2)(K:Ex→AS→Option R):=Pu.pa (λy0 y1=>ke 0 K J2 ((z2 (w y0 (u y1)) X.1),X.2)) X.1.1 X.1.2.1
def aeL:bG:=dG J2 XU (λX=>(q2 X,q3 X))
def agX:bP:=(bP.nil).add 3 aeL
theorem ac0:dx E ars al9 agX (az Tryz.f373 0):=lk J2 XU (λX=>(q2 X,q3 X)) λX x=>((z2 (w x.1 (u x.2)) X.1),X.2)
theorem auH:aC Tryz.prog 373 apP:=fk al9 base Tryz.func373 (Λ:=agX) (cF ac0 nF)
def ao7:aG:=au [pd .str] [rS] (c1 Pu.ur)
theorem at1:aC Tryz.prog 313 ao7:=f0 {} (base.add auH) Tryz.func313
def aok:aG:=au [pf ga] [rS,rB] (c1 Pu.oS)
theorem atb:aC Tryz.prog 231 aok:=f0 {} (((((base.add Za).add amP).add amQ).add at0).add at1) Tryz.func231
def ais:aG:=au [pf (.sl .str),pI,pd .str] [(true,(.sl (.own none) .str)),rB] (c3 Pu.nK)
def arc:bH:=((bH.nil.add 125 R8).add 320 Yr).add 370 aiG
def alW:An:={mask:=mk [(4,[1,2,6,8])],mv:=[19,52]}
abbrev JS:SD:=⟨B::DI::.data false .str::B::B::B::.ptr 6 0::B::.ptr 8 0::bs 44 [],zs 6 ((some (.sl (.own (some 73729)) .str))::Z::(some (.sl (.own (some 98305)) .str))::zs 44 []),.none⟩
def XF {R:Type}(X:SD.D JS)(K:Ex→AS→Option R):=Pu.jD (λy0 y1 y2=>ke 0 K JS ((w y0 (u y1) X.1),(z1 (u y2) X.2.1),X.2.2)) X.2.1.1
def aew:bG:=dG JS XF (λX=>(X.1.1,X.1.2.1,X.2.1.2.1))
def agK:bP:=(bP.nil).add 4 aew
theorem acL:dx E arc alW agK (az Tryz.f314 0):=lk JS XF (λX=>(X.1.1,X.1.2.1,X.2.1.2.1)) λX x=>((w x.1 (u x.2.1) X.1),(z1 (u x.2.2) X.2.1),X.2.2)
theorem at2:aC Tryz.prog 314 ais:=fk alW (((base.add KE).add afp).add afr) Tryz.func314 (Λ:=agK) (cF acL nF)
def aol:aG:=au [pd (.sl aX),pf (.sl .str),pI,pI,pd .str] [(true,(.sl (.own none) .str)),rB] (c5 Pu.lG)
def aqW:bH:=((bH.nil.add 125 R8).add 238 abf).add 314 ais
def alG:An:={mask:=mk [(6,[4,10,12,13,15,16])],mv:=[32,39,52,60],sb:=mg [(15,15)]}
abbrev JJ:SD:=⟨bs 4 (.data false .str::bs 5 (.ptr 10 0::B::.data false (.sl .loc (.int .i64))::.data false (.sl .loc (.int .i64))::B::.ptr 15 0::DI::bs 44 [])),zs 10 ((some (.sl (.own (some 122881)) .str))::zs 4 ((some (.sl (.own (some 184321)) .str))::zs 45 [])),.none⟩
def Xm {R:Type}(X:SD.D JJ)(K:Ex→AS→Option R):=Pu.kj (λy0 y1 y2=>ke 0 K JJ ((w y0 (z2 (u y1)) X.1),(z1 (u y2) X.2.1),X.2.2)) X.1.2.1 (q2 X) X.2.1.1
def aed:bG:=dG JJ Xm (λX=>(X.1.1,q3 X,X.2.1.2.1))
def agu:bP:=(bP.nil).add 6 aed
theorem acr:dx E aqW alG agu (az Tryz.f232 0):=lk JJ Xm (λX=>(X.1.1,q3 X,X.2.1.2.1)) λX x=>((w x.1 (z2 (u x.2.1)) X.1),(z1 (u x.2.2) X.2.1),X.2.2)
theorem afi:aC Tryz.prog 232 aol:=fk alG (((base.add KE).add amB).add at2) Tryz.func232 (Λ:=agu) (cF acr nF)
def aoq:aG:=au [pf dW] [rI] (c1 Pu.oD)
theorem amA:aC Tryz.prog 237 aoq:=f0 {} base Tryz.func237
def ao8:aG:=au [pf fM] [rB] (c1 Pu.l7)
theorem amR:aC Tryz.prog 315 ao8:=f0 {merge:=mg [(1,2)]} (base.add yY) Tryz.func315
def ao9:aG:=au [pf fM,pI] [rS] (c2 Pu.lO)
theorem at3:aC Tryz.prog 316 ao9:=f0 {merge:=mg [(1,12)]} ((((base.add yY).add KF).add Nf).add amR) Tryz.func316
def aom:aG:=au [pd (.sl aX),pf (.sl .str),pI,pf dW,pf fM] [(true,(.sl (.own none) .str)),(true,Lr),rB] (c5 Pu.kR)
theorem atc:aC Tryz.prog 233 aom:=f0 {merge:=mg [(1,22)],mv:=[26,44,59],mb:=mg [(59,13)],sb:=mg [(10,10),(11,11),(13,13)]} ((((((base.add KE).add afg).add afi).add amA).add amR).add at3) Tryz.func233
def abk:aG:=au [pd .str,pI] [rI] (c2 Pu.tr)
theorem am4:aC Tryz.prog 374 abk:=f0 {} base Tryz.func374
def aiH:aG:=au [pd .str,pI] [rI] (c2 Pu.rr)
def art:bH:=(bH.nil.add 19 Oi).add 374 abk
def ama:An:={mask:=mk [(5,[0,1,5,6])],merge:=mg [(1,14)]}
abbrev J3:SD:=⟨.data false .str::DI::B::B::B::DI::DI::bs 21 [],zs 28 [],.none⟩
def XV {R:Type}(X:SD.D J3)(K:Ex→AS→Option R):=Pu.l9 (λy0 y1=>ke 0 K J3 ((z2 (w y0 (u y1)) X.1),X.2)) X.1.1 X.1.2.1
def aeM:bG:=dG J3 XV (λX=>(q2 X,q3 X))
def agY:bP:=(bP.nil).add 5 aeM
theorem ac1:dx E art ama agY (az Tryz.f375 0):=lk J3 XV (λX=>(q2 X,q3 X)) λX x=>((z2 (w x.1 (u x.2)) X.1),X.2)
theorem auI:aC Tryz.prog 375 aiH:=fk ama ((base.add yY).add am4) Tryz.func375 (Λ:=agY) (cF ac1 nF)
def apa:aG:=au [pd .str,pd .str] [rI] (c2 Pu.rm)
def ard:bH:=(bH.nil.add 374 abk).add 375 aiH
def alX:An:={mask:=mk [(5,[0,1,5,6])],merge:=mg [(1,14)]}
abbrev JT:SD:=⟨.data false .str::.data false .str::B::B::B::DI::DI::bs 25 [],zs 32 [],.none⟩
def XG {R:Type}(X:SD.D JT)(K:Ex→AS→Option R):=Pu.l8 (λy0 y1=>ke 0 K JT ((z2 (w y0 (u y1)) X.1),X.2)) X.1.1 X.1.2.1
def aex:bG:=dG JT XG (λX=>(q2 X,q3 X))
def agL:bP:=(bP.nil).add 5 aex
theorem acM:dx E ard alX agL (az Tryz.f317 0):=lk JT XG (λX=>(q2 X,q3 X)) λX x=>((z2 (w x.1 (u x.2)) X.1),X.2)
theorem at4:aC Tryz.prog 317 apa:=fk alX ((base.add am4).add auI) Tryz.func317 (Λ:=agL) (cF acM nF)
def apb:aG:=au [pf fM] [rS] (c1 Pu.rn)
theorem at5:aC Tryz.prog 318 apb:=f0 {} ((base.add KF).add Nf) Tryz.func318
def aon:aG:=au [pd .str,pf fM] [rI] (c2 Pu.sQ)
theorem atd:aC Tryz.prog 234 aon:=f0 {} ((base.add at4).add at5) Tryz.func234
def aoo:aG:=au [pf ga] [(true,(.pair (.int .i64) Y0))] (c1 Pu.wB)
theorem amz:aC Tryz.prog 235 aoo:=f0 {} base Tryz.func235
def anA:aG:=au [pd (.sl aX),pf (.sl .str),pI,pf bk,pd .str,pd .str] [(true,(.sl (.own none) .str)),(true,Lr),rB] (c6 Pu.sX)
theorem asg:aC Tryz.prog 146 anA:=f0 {merge:=mg [(3,46)],mv:=[90],sb:=mg [(12,12),(13,13)]} (((((((base.add KE).add ata).add atb).add afi).add atc).add atd).add amz) Tryz.func146
def e65:aG:=au [pd (.sl aX),pf (.sl .str),pI,pf bk,pd .str] [(true,(.sl (.own none) .str)),(true,Y4)] (c5 Pu.rl)
theorem o65:aC Tryz.prog 65 e65:=f0 {merge:=mg [(1,30),(5,58)],mv:=[44,75],mb:=mg [(75,15)],sb:=mg [(10,10),(11,11)]} ((((base.add KE).add ae8).add asf).add asg) Tryz.func65
def anB:aG:=au [pf bN] [(true,Y7)] (c1 Pu.jh)
theorem afa:aC Tryz.prog 155 anB:=f0 {} (base.add amx) Tryz.func155
def ahA:aG:=au [pf bN] [(true,Y7)] (c1 Pu.sK)
theorem ash:aC Tryz.prog 147 ahA:=f0 {} ((base.add Vv).add afa) Tryz.func147
def e66:aG:=F4 bL [pI,pI] [] λx a=>Pu.mW x a.1 a.2.1
def g66:bH:=bH.nil.add 147 ahA
def n66:An:={mask:=mk [(2,[0,1,6,7])]}
abbrev QQ:SD:=⟨.ptr 0 0::DI::bs 4 (DI::DI::bs 42 []),(some Y14)::zs 49 [],.ptr⟩
def aav {R:Type}(X:SD.D QQ)(K:Ex→AS→Option R):=Pu.mc (λy0 y1=>ke 0 K QQ ((z2 (u y0) X.1),(u y1 X.2.1),X.2.2)) X.1.1 X.1.2.1
def akz:bG:=dG QQ aav (λX=>(q2 X,X.2.1.1))
def L66:bP:=(bP.nil).add 2 akz
theorem ajJ:dx E g66 n66 L66 (az Tryz.f66 0):=lk QQ aav (λX=>(q2 X,X.2.1.1)) λX x=>((z2 (u x.1) X.1),(u x.2 X.2.1),X.2.2)
theorem o66:aC Tryz.prog 66 e66:=aC.Vz (Uv (Γ:=g66) (an:=n66) (Λ:=L66) (base.add ash) Tryz.func66 (by kernel_rfl) (hF (by kernel_rfl) (cF ajJ nF))) (λx a=>by kernel_rfl)
def e20:aG:=au [pf bL] [(true,Y1)] (c1 Pu.rp)
def g20:bH:=(((bH.nil.add 57 e57).add 63 e63).add 65 e65).add 66 e66
def n20:An:={mask:=mk [(3,[1,2,3,4])],merge:=mg [(3,17)],mv:=[20,35,37,53],sb:=mg [(5,5),(6,6)]}
abbrev Qy:SD:=⟨B::.ptr 1 0::.ptr 2 0::.ptr 3 0::DI::bs 49 [],Z::(some Y2)::(some Y3)::(some Y5)::zs 50 [],.none⟩
def ZZ {R:Type}(X:SD.D Qy)(K:Ex→AS→Option R):=Pu.iS (λy0 y1=>ke 0 K Qy ((u y0 X.1),(z2 (u y1) X.2.1),X.2.2)) X.2.1.1 X.2.1.2.1
def aj3:bG:=dG Qy ZZ (λX=>(X.1.1,X.2.1.2.2.1))
def L20:bP:=(bP.nil).add 3 aj3
theorem ajd:dx E g20 n20 L20 (az Tryz.f20 0):=lk Qy ZZ (λX=>(X.1.1,X.2.1.2.2.1)) λX x=>((u x.1 X.1),(z2 (u x.2) X.2.1),X.2.2)
theorem o20:aC Tryz.prog 20 e20:=fk n20 ((((base.add o57).add o63).add o65).add o66) Tryz.func20 (Λ:=L20) (cF ajd nF)
def e67:aG:=au [pf bN] [(true,Y7),rB] (c1 Pu.kW)
theorem o67:aC Tryz.prog 67 e67:=f0 {merge:=mg [(1,11)]} (base.add Vv) Tryz.func67
def aop:aG:=au [pd .str] [(true,(.pair (.int .i64) Y0)),rI,rB] (c1 Pu.ig)
theorem ate:aC Tryz.prog 236 aop:=f0 {merge:=mg [(1,12)]} ((base.add S0).add S4) Tryz.func236
def ahB:aG:=au [pd (.sl aX),pf (.sl .str),pI,pf dW] [(true,(.pair (.int .i64) Y0)),(true,Lr),rB] (c4 Pu.jB)
theorem asi:aC Tryz.prog 148 ahB:=f0 {merge:=mg [(5,54)],sb:=mg [(8,8),(9,9)]} ((((base.add ae9).add afg).add ate).add amA) Tryz.func148
def aa3:aG:=au [pf cE,pI] [rI] (c2 Pu.hZ)
theorem amn:aC Tryz.prog 149 aa3:=f0 {merge:=mg [(1,15)]} ((base.add yY).add SY) Tryz.func149
def aor:aG:=au [pd .str] [(true,Y34),rB] (c1 Pu.sU)
theorem atg:aC Tryz.prog 240 aor:=f0 {sb:=mg [(4,4)]} (((base.add S0).add S4).add amS) Tryz.func240
def aos:aG:=au [pd .str] [(true,Y6),rB] (c1 Pu.uu)
theorem ath:aC Tryz.prog 241 aos:=f0 {merge:=mg [(2,22),(6,56)],sb:=mg [(5,5)]} (((base.add S0).add S4).add amQ) Tryz.func241
def aot:aG:=au [pI,pI,pI,pd .str] [(true,(.pair (.int .i64) Y6)),rB] (c4 Pu.ma)
theorem ati:aC Tryz.prog 242 aot:=f0 {merge:=mg [(3,20),(9,44),(12,68)]} (((base.add S0).add S4).add amP) Tryz.func242
def ahD:aG:=au [pd .str] [(true,Y19),rI] (c1 Pu.rA)
theorem asj:aC Tryz.prog 151 ahD:=f0 {merge:=mg [(2,20)]} ((((base.add Za).add atg).add ath).add ati) Tryz.func151
def aou:aG:=au [pd (.sl bg),pf fM] [rI] (c2 Pu.nI)
def aqZ:bH:=bH.nil
def alJ:An:={mask:=mk [(2,[0,3,4,5])]}
abbrev FE:SD:=⟨.data false (.sl .arg bg)::B::B::.ptr 3 0::DI::DI::bs 14 [],Z::Z::Z::(some (.pair (.int .i64) Y0))::zs 16 [],.none⟩
def Xp {R:Type}(X:SD.D FE)(K:Ex→AS→Option R):=Pu.jC (λy0=>ke 0 K FE ((z2 (u y0) X.1),X.2)) (λy0 y1=>kr K FE ((z1 (w y0 (u y1)) X.1),X.2)) X.1.1 X.1.2.1 X.2.1.1
def aeg:bG:=dG FE Xp q2
def agx:bP:=(bP.nil).add 2 aeg
theorem acv:dx E aqZ alJ agx (az Tryz.f243 0):=lk FE Xp q2 λX x=>((z2 (u x) X.1),X.2)
theorem atj:aC Tryz.prog 243 aou:=fk alJ base Tryz.func243 (Λ:=agx) (cF acv nF)
def ahE:aG:=au [pd (.sl bg),pf ga] [(false,(.sl (.own none) bg))] (c2 Pu.uo)
theorem asl:aC Tryz.prog 152 ahE:=f0 {merge:=mg [(17,84)],mv:=[16,31,53,60,69,85,139]} ((((base.add Za).add amz).add atj).add KF) Tryz.func152
def ahZ:aG:=au [pf dS] [rI] (c1 Pu.oA)
theorem amC:aC Tryz.prog 245 ahZ:=f0 {} ((base.add S1).add afh) Tryz.func245
def ah0:aG:=au [pd (.sl aX),pf (.sl .str),pI,pf dS,pd .str] [(true,(.sl (.own none) .str)),(true,Y0),rB] (c5 Pu.uw)
theorem atk:aC Tryz.prog 246 ah0:=f0 {merge:=mg [(1,22)],mv:=[26,36,51],mb:=mg [(51,13)],sb:=mg [(10,10),(11,11),(13,13)]} ((((base.add KE).add amy).add afi).add amC) Tryz.func246
def ahF:aG:=au [pd (.sl aX),pf (.sl .str),pI,pf dS,pf cE] [(true,(.sl (.own none) .str)),(true,Y0),(true,Y8),rI] (c5 Pu.sP)
def aqu:bH:=(((((((bH.nil.add 125 R8).add 127 T3).add 142 T4).add 149 aa3).add 221 abe).add 245 ahZ).add 246 ah0).add 247 ah1
def alc:An:={mask:=mk [(6,[0,2,8,9,10,11,12,14,15,16])],merge:=mg [(4,32),(6,44)],mv:=[33,35,49,63,68,78,80],mb:=mg [(33,14),(35,15),(78,14),(80,15)],sb:=mg [(10,10),(11,11),(12,12),(18,18),(19,19)]}
abbrev JA:SD:=⟨.data false (.sl .arg aX)::B::DI::bs 5 (.ptr 8 0::.ptr 9 0::.ptr 10 0::.ptr 11 0::.ptr 12 0::B::.ptr 14 0::.ptr 15 0::DI::bs 65 []),zs 8 ((some Y0)::(some Y22)::(some (.sl (.own (some 122881)) .str))::(some Y0)::(some Y33)::Z::(some (.sl (.own (some 172033)) .str))::(some Y32)::zs 66 []),.none⟩
def WT {R:Type}(X:SD.D JA)(K:Ex→AS→Option R):=Pu.kl (λy0 y1 y2 y3=>ke 0 K JA ((z2 (u y0) X.1),(w y1 (z4 (w y2 (u y3))) X.2.1),X.2.2)) X.1.1 X.1.2.1 X.2.1.2.1 X.2.1.2.2.1 X.2.1.2.2.2.1 X.2.1.2.2.2.2.1
def adK:bG:=dG JA WT (λX=>(q2 X,X.2.1.1,X.2.1.2.2.2.2.2.1,X.2.1.2.2.2.2.2.2.1))
def af1:bP:=(bP.nil).add 6 adK
theorem abW:dx E aqu alc af1 (az Tryz.f154 0):=lk JA WT (λX=>(q2 X,X.2.1.1,X.2.1.2.2.2.2.2.1,X.2.1.2.2.2.2.2.2.1)) λX x=>((z2 (u x.1) X.1),(w x.2.1 (z4 (w x.2.2.1 (u x.2.2.2))) X.2.1),X.2.2)
theorem asm:aC Tryz.prog 154 ahF:=fk alc ((((((((base.add KE).add Vu).add SY).add amn).add S1).add amC).add atk).add amD) Tryz.func154 (Λ:=af1) (cF abW nF)
def e68:aG:=au [pd (.sl aX),pf (.sl .str),pI,pf bk,pf cE,pd (.sl bg),pI] [(true,(.sl (.own none) .str)),(true,Y4),(true,Y8),(false,(.sl (.own none) bg)),rI] (c7 Pu.mT)
def g68:bH:=(((((((((((bH.nil.add 19 Oi).add 125 R8).add 127 T3).add 141 aa2).add 142 T4).add 148 ahB).add 149 aa3).add 150 ahC).add 151 ahD).add 152 ahE).add 153 aa4).add 154 ahF
def n68:An:={mask:=mk [(6,[0,2,6,8,10,14,15,16,19,20,21])],merge:=mg [(4,50),(14,102)],mv:=[54,55,106,114,128,130,131],mb:=mg [(54,20),(128,30),(130,20)],sb:=mg [(14,14),(15,15),(16,16)]}
abbrev QR:SD:=⟨.data false (.sl .arg aX)::B::DI::B::B::B::DI::B::.ptr 8 0::B::.ptr 10 0::B::B::B::.ptr 14 0::.ptr 15 0::.ptr 16 0::B::B::.data false (.sl (.own (some 233472)) bg)::.ptr 20 0::DI::bs 111 [],zs 8 ((some (.sl .arg .str))::Z::(some Y4)::Z::Z::Z::(some (.sl (.own (some 172033)) .str))::(some Y4)::(some Y31)::Z::Z::Z::(some Y30)::zs 112 []),.none⟩
def aaw {R:Type}(X:SD.D QR)(K:Ex→AS→Option R):=Pu.iU (λy0 y1 y2 y3=>ke 0 K QR ((z3 (w y0 (u y1)) X.1),(z1 (w y2 (z3 (u y3))) X.2.1),X.2.2)) X.1.1 X.1.2.1 (q2 X) X.2.1.1 X.2.1.2.2.1 X.2.1.2.2.2.1 X.2.1.2.2.2.2.1
def akA:bG:=dG QR aaw (λX=>(q3 X,q4 X,X.2.1.2.1,X.2.1.2.2.2.2.2.1))
def L68:bP:=(bP.nil).add 6 akA
theorem ajK:dx E g68 n68 L68 (az Tryz.f68 0):=lk QR aaw (λX=>(q3 X,q4 X,X.2.1.2.1,X.2.1.2.2.2.2.2.1)) λX x=>((z3 (w x.1 (u x.2.1)) X.1),(z1 (w x.2.2.1 (z3 (u x.2.2.2))) X.2.1),X.2.2)
theorem o68:aC Tryz.prog 68 e68:=fk n68 ((((((((((((base.add yY).add KE).add Vu).add ae8).add SY).add asi).add amn).add ae9).add asj).add asl).add amo).add asm) Tryz.func68 (Λ:=L68) (cF ajK nF)
def e69:aG:=au [pf bN] [(true,Y7)] (c1 Pu.tq)
theorem o69:aC Tryz.prog 69 e69:=f0 {} ((base.add Vv).add afa) Tryz.func69
def e21:aG:=au [pf bL,pI] [(true,Y1),rI] (c2 Pu.nD)
def g21:bH:=(((((bH.nil.add 19 Oi).add 57 e57).add 63 e63).add 67 e67).add 68 e68).add 69 e69
def n21:An:={mask:=mk [(6,[1,2,4,6,7,8])],merge:=mg [(3,25)],mv:=[26,66,85,87,88,90,100,102,124],sb:=mg [(11,11),(12,12),(13,13)]}
abbrev Qz:SD:=⟨B::DI::.ptr 2 0::B::.ptr 4 0::B::.ptr 6 0::DI::DI::bs 117 [],Z::Z::(some Y2)::Z::(some Y11)::Z::(some Y10)::zs 119 [],.none⟩
def Z0 {R:Type}(X:SD.D Qz)(K:Ex→AS→Option R):=Pu.jz (λy0 y1 y2=>ke 0 K Qz ((z1 (w y0 (u y1)) X.1),(z2 (u y2) X.2.1),X.2.2)) X.1.1 X.2.1.1 X.2.1.2.1
def aj4:bG:=dG Qz Z0 (λX=>(X.1.2.1,q2 X,X.2.1.2.2.1))
def L21:bP:=(bP.nil).add 6 aj4
theorem aje:dx E g21 n21 L21 (az Tryz.f21 0):=lk Qz Z0 (λX=>(X.1.2.1,q2 X,X.2.1.2.2.1)) λX x=>((z1 (w x.1 (u x.2.1)) X.1),(z2 (u x.2.2) X.2.1),X.2.2)
theorem o21:aC Tryz.prog 21 e21:=fk n21 ((((((base.add yY).add o57).add o63).add o67).add o68).add o69) Tryz.func21 (Λ:=L21) (cF aje nF)
def e70:aG:=au [pf bN] [(true,Y7)] (c1 Pu.o3)
theorem o70:aC Tryz.prog 70 e70:=f0 {} ((base.add Vv).add afa) Tryz.func70
def e22:aG:=au [pf bL] [(true,Y1)] (c1 Pu.sS)
def g22:bH:=((bH.nil.add 57 e57).add 63 e63).add 70 e70
def n22:An:={mask:=mk [(3,[1,2,3,4])],merge:=mg [(3,15)],mv:=[28]}
abbrev QA:SD:=⟨B::.ptr 1 0::.ptr 2 0::.ptr 3 0::DI::bs 24 [],Z::(some Y2)::(some Y3)::(some Y5)::zs 25 [],.none⟩
def Z1 {R:Type}(X:SD.D QA)(K:Ex→AS→Option R):=Pu.kn (λy0 y1=>ke 0 K QA ((u y0 X.1),(z2 (u y1) X.2.1),X.2.2)) X.2.1.1 X.2.1.2.1
def aj5:bG:=dG QA Z1 (λX=>(X.1.1,X.2.1.2.2.1))
def L22:bP:=(bP.nil).add 3 aj5
theorem ajf:dx E g22 n22 L22 (az Tryz.f22 0):=lk QA Z1 (λX=>(X.1.1,X.2.1.2.2.1)) λX x=>((u x.1 X.1),(z2 (u x.2) X.2.1),X.2.2)
theorem o22:aC Tryz.prog 22 e22:=fk n22 (((base.add o57).add o63).add o70) Tryz.func22 (Λ:=L22) (cF ajf nF)
def e5:aG:=au [pf ef,pI,pI] [(true,Y12)] (c3 Pu.sO)
def g5:bH:=(((((bH.nil.add 17 e17).add 18 e18).add 19 Oi).add 20 e20).add 21 e21).add 22 e22
def n5:An:={mask:=mk [(5,[1,2,3,6,7,8]),(9,[1,2,3,6,7,8,9,10])],merge:=mg [(2,27)],mv:=[28,47,54,58,60]}
abbrev Yn:SD:=⟨B::DI::DI::.ptr 3 0::B::B::.ptr 6 0::.ptr 7 0::DI::.ptr 9 0::DI::bs 50 [],Z::Z::Z::(some Y13)::Z::Z::(some Y16)::(some Y15)::Z::(some Y9)::zs 51 [],.none⟩
def ane {R:Type}(X:SD.D Yn)(K:Ex→AS→Option R):=Pu.ki (λy0 y1=>ke 2 K Yn ((z3 (u y0) X.1),(z3 (u y1) X.2.1),X.2.2)) X.1.1 X.1.2.1 (q2 X) X.2.1.1 X.2.1.2.1 X.2.1.2.2.1
def arF:bG:=dG Yn ane (λX=>(q3 X,X.2.1.2.2.2.1))
abbrev Ym:SD:=⟨B::DI::DI::.ptr 3 0::B::B::.ptr 6 0::.ptr 7 0::DI::bs 52 [],Z::Z::Z::(some Y13)::Z::Z::(some Y16)::(some Y15)::zs 53 [],.none⟩
def anc {R:Type}(X:SD.D Ym)(K:Ex→AS→Option R):=Pu.nz (λy0 y1=>ke 0 K Ym ((z2 (u y0) X.1),(z2 (u y1) X.2.1),X.2.2)) X.1.1 X.1.2.1 X.2.1.1 X.2.1.2.1
def arE:bG:=dG Ym anc (λX=>(q2 X,X.2.1.2.2.1))
def L5:bP:=((bP.nil).add 9 arF).add 5 arE
theorem arB:dx E g5 n5 L5 (az Tryz.f5 1):=lk Yn ane (λX=>(q3 X,X.2.1.2.2.2.1)) λX x=>((z3 (u x.1) X.1),(z3 (u x.2) X.2.1),X.2.2)
theorem arA:dx E g5 n5 L5 (az Tryz.f5 0):=lk Ym anc (λX=>(q2 X,X.2.1.2.2.1)) λX x=>((z2 (u x.1) X.1),(z2 (u x.2) X.2.1),X.2.2)
theorem o5:aC Tryz.prog 5 e5:=fk n5 ((((((base.add o17).add o18).add yY).add o20).add o21).add o22) Tryz.func5 (Λ:=L5) (cF arA (cF arB nF))
def e28:aG:=au [pd (.sl (.int .i64))] [(false,(.sl (.own none) (.int .i64)))] (c1 Pu.iO)
def g28:bH:=bH.nil
def n28:An:={mask:=mk [(3,[0,3,4])],mv:=[21]}
abbrev QE:SD:=⟨.data false (.sl .arg (.int .i64))::B::B::.data false (.sl (.own (some 36864)) (.int .i64))::DI::bs 17 [],zs 22 [],.none⟩
def Z5 {R:Type}(X:SD.D QE)(K:Ex→AS→Option R):=Pu.zD (λy0 y1=>ke 0 K QE ((z1 (w y0 (u y1)) X.1),X.2)) X.1.1
def aj9:bG:=dG QE Z5 (λX=>(X.1.2.1,q2 X))
def L28:bP:=(bP.nil).add 3 aj9
theorem ajj:dx E g28 n28 L28 (az Tryz.f28 0):=lk QE Z5 (λX=>(X.1.2.1,q2 X)) λX x=>((z1 (w x.1 (u x.2)) X.1),X.2)
theorem o28:aC Tryz.prog 28 e28:=fk n28 base Tryz.func28 (Λ:=L28) (cF ajj nF)
def e29:aG:=au [pd (.sl .str)] [(false,(.sl (.own none) .str))] (c1 Pu.jX)
def g29:bH:=bH.nil
def n29:An:={mask:=mk [(3,[0,3,4])],mv:=[21]}
abbrev QF:SD:=⟨.data false (.sl .arg .str)::B::B::.data false (.sl (.own (some 36864)) .str)::DI::bs 17 [],zs 22 [],.none⟩
def Z6 {R:Type}(X:SD.D QF)(K:Ex→AS→Option R):=Pu.wk (λy0 y1=>ke 0 K QF ((z1 (w y0 (u y1)) X.1),X.2)) X.1.1
def aka:bG:=dG QF Z6 (λX=>(X.1.2.1,q2 X))
def L29:bP:=(bP.nil).add 3 aka
theorem ajk:dx E g29 n29 L29 (az Tryz.f29 0):=lk QF Z6 (λX=>(X.1.2.1,q2 X)) λX x=>((z1 (w x.1 (u x.2)) X.1),X.2)
theorem o29:aC Tryz.prog 29 e29:=fk n29 base Tryz.func29 (Λ:=L29) (cF ajk nF)
def anC:aG:=au [pf (.sl .str)] [(true,(.sl (.own none) .str))] (c1 Pu.ou)
theorem asn:aC Tryz.prog 156 anC:=f0 {mv:=[8]} (base.add o29) Tryz.func156
def ah2:aG:=au [pf aX] [(true,Y36)] (c1 Pu.qW)
theorem atl:aC Tryz.prog 248 ah2:=f0 {} base Tryz.func248
def anD:aG:=au [pd (.sl aX)] [(false,(.sl (.own none) aX))] (c1 Pu.tM)
def aqv:bH:=bH.nil.add 248 ah2
def ald:An:={mask:=mk [(3,[0,3,4])],mv:=[22]}
abbrev JB:SD:=⟨.data false (.sl .arg aX)::B::B::.data false (.sl (.own (some 36864)) aX)::DI::bs 18 [],zs 23 [],.none⟩
def WU {R:Type}(X:SD.D JB)(K:Ex→AS→Option R):=Pu.vo (λy0 y1=>ke 0 K JB ((z1 (w y0 (u y1)) X.1),X.2)) X.1.1
def adL:bG:=dG JB WU (λX=>(X.1.2.1,q2 X))
def af2:bP:=(bP.nil).add 3 adL
theorem abX:dx E aqv ald af2 (az Tryz.f157 0):=lk JB WU (λX=>(X.1.2.1,q2 X)) λX x=>((z1 (w x.1 (u x.2)) X.1),X.2)
theorem aso:aC Tryz.prog 157 anD:=fk ald (base.add atl) Tryz.func157 (Λ:=af2) (cF abX nF)
def aow:aG:=au [pf dS] [(true,Y0)] (c1 Pu.wh)
theorem amE:aC Tryz.prog 249 aow:=f0 {} base Tryz.func249
def ah3:aG:=au [pf cE] [(true,Y8)] (c1 Pu.mK)
theorem amF:aC Tryz.prog 250 ah3:=f0 {mv:=[17]} (base.add o28) Tryz.func250
def aiu:aG:=au [pf dc] [(true,(.pair (.int .i64) (.pair (.int .i64) (.sl (.own none) (.int .i64)))))] (c1 Pu.pH)
theorem at8:aC Tryz.prog 323 aiu:=f0 {mv:=[14]} (base.add o28) Tryz.func323
def aox:aG:=au [pd (.sl dc)] [(false,(.sl (.own none) dc))] (c1 Pu.yd)
def aq0:bH:=bH.nil.add 323 aiu
def alK:An:={mask:=mk [(3,[0,3,4])],mv:=[22]}
abbrev JL:SD:=⟨.data false (.sl .arg dc)::B::B::.data false (.sl (.own (some 36864)) dc)::DI::bs 18 [],zs 23 [],.none⟩
def Xq {R:Type}(X:SD.D JL)(K:Ex→AS→Option R):=Pu.yS (λy0 y1=>ke 0 K JL ((z1 (w y0 (u y1)) X.1),X.2)) X.1.1
def aeh:bG:=dG JL Xq (λX=>(X.1.2.1,q2 X))
def agy:bP:=(bP.nil).add 3 aeh
theorem acw:dx E aq0 alK agy (az Tryz.f251 0):=lk JL Xq (λX=>(X.1.2.1,q2 X)) λX x=>((z1 (w x.1 (u x.2)) X.1),X.2)
theorem atm:aC Tryz.prog 251 aox:=fk alK (base.add at8) Tryz.func251 (Λ:=agy) (cF acw nF)
def anE:aG:=au [pf fN] [(true,Y28)] (c1 Pu.mL)
theorem asp:aC Tryz.prog 158 anE:=f0 {mv:=[19]} (((base.add amE).add amF).add atm) Tryz.func158
def ape:aG:=au [pf dW] [(true,Lr)] (c1 Pu.gM)
theorem at9:aC Tryz.prog 324 ape:=f0 {} base Tryz.func324
def ap6:aG:=au [pf gF] [(true,(.pair (.int .i64) Y6))] (c1 Pu.vq)
theorem au2:aC Tryz.prog 400 ap6:=f0 {} base Tryz.func400
def apQ:aG:=au [pf ga] [(true,Y19)] (c1 Pu.ov)
theorem auJ:aC Tryz.prog 376 apQ:=f0 {} (base.add au2) Tryz.func376
def apf:aG:=au [pf tw] [(true,(.pair Y19 (.pair (.int .i64) (.int .i64))))] (c1 Pu.qX)
theorem aua:aC Tryz.prog 325 apf:=f0 {} (base.add auJ) Tryz.func325
def ah4:aG:=au [pf bk] [(true,Y4)] (c1 Pu.jW)
theorem atn:aC Tryz.prog 252 ah4:=f0 {} (((base.add amE).add at9).add aua) Tryz.func252
def anF:aG:=au [pd (.sl bk)] [(false,(.sl (.own none) bk))] (c1 Pu.tN)
def aqw:bH:=bH.nil.add 252 ah4
def ale:An:={mask:=mk [(3,[0,3,4])],mv:=[22]}
abbrev JC:SD:=⟨.data false (.sl .arg bk)::B::B::.data false (.sl (.own (some 36864)) bk)::DI::bs 18 [],zs 23 [],.none⟩
def WV {R:Type}(X:SD.D JC)(K:Ex→AS→Option R):=Pu.vp (λy0 y1=>ke 0 K JC ((z1 (w y0 (u y1)) X.1),X.2)) X.1.1
def adM:bG:=dG JC WV (λX=>(X.1.2.1,q2 X))
def af3:bP:=(bP.nil).add 3 adM
theorem abY:dx E aqw ale af3 (az Tryz.f159 0):=lk JC WV (λX=>(X.1.2.1,q2 X)) λX x=>((z1 (w x.1 (u x.2)) X.1),X.2)
theorem asq:aC Tryz.prog 159 anF:=fk ale (base.add atn) Tryz.func159 (Λ:=af3) (cF abY nF)
def anG:aG:=au [pd (.sl cE)] [(false,(.sl (.own none) cE))] (c1 Pu.yb)
def aqx:bH:=bH.nil.add 250 ah3
def alf:An:={mask:=mk [(3,[0,3,4])],mv:=[22]}
abbrev JD:SD:=⟨.data false (.sl .arg cE)::B::B::.data false (.sl (.own (some 36864)) cE)::DI::bs 18 [],zs 23 [],.none⟩
def WW {R:Type}(X:SD.D JD)(K:Ex→AS→Option R):=Pu.yQ (λy0 y1=>ke 0 K JD ((z1 (w y0 (u y1)) X.1),X.2)) X.1.1
def adN:bG:=dG JD WW (λX=>(X.1.2.1,q2 X))
def af4:bP:=(bP.nil).add 3 adN
theorem abZ:dx E aqx alf af4 (az Tryz.f160 0):=lk JD WW (λX=>(X.1.2.1,q2 X)) λX x=>((z1 (w x.1 (u x.2)) X.1),X.2)
theorem asr:aC Tryz.prog 160 anG:=fk alf (base.add amF) Tryz.func160 (Λ:=af4) (cF abZ nF)
def ah5:aG:=au [pf bN] [(true,Y7)] (c1 Pu.sI)
theorem ato:aC Tryz.prog 253 ah5:=f0 {} base Tryz.func253
def anH:aG:=au [pd (.sl bN)] [(false,(.sl (.own none) bN))] (c1 Pu.vu)
def aqy:bH:=bH.nil.add 253 ah5
def alg:An:={mask:=mk [(3,[0,3,4])],mv:=[22]}
abbrev JE:SD:=⟨.data false (.sl .arg bN)::B::B::.data false (.sl (.own (some 36864)) bN)::DI::bs 18 [],zs 23 [],.none⟩
def WX {R:Type}(X:SD.D JE)(K:Ex→AS→Option R):=Pu.wm (λy0 y1=>ke 0 K JE ((z1 (w y0 (u y1)) X.1),X.2)) X.1.1
def adO:bG:=dG JE WX (λX=>(X.1.2.1,q2 X))
def af5:bP:=(bP.nil).add 3 adO
theorem ab0:dx E aqy alg af5 (az Tryz.f161 0):=lk JE WX (λX=>(X.1.2.1,q2 X)) λX x=>((z1 (w x.1 (u x.2)) X.1),X.2)
theorem ass:aC Tryz.prog 161 anH:=fk alg (base.add ato) Tryz.func161 (Λ:=af5) (cF ab0 nF)
def anI:aG:=au [pd (.sl .bool)] [(false,(.sl (.own none) .bool))] (c1 Pu.xY)
def aqz:bH:=bH.nil
def alh:An:={mask:=mk [(3,[0,3,4])],mv:=[21]}
abbrev JF:SD:=⟨.data false (.sl .arg .bool)::B::B::.data false (.sl (.own (some 36864)) .bool)::DI::bs 17 [],zs 22 [],.none⟩
def WY {R:Type}(X:SD.D JF)(K:Ex→AS→Option R):=Pu.yO (λy0 y1=>ke 0 K JF ((z1 (w y0 (u y1)) X.1),X.2)) X.1.1
def adP:bG:=dG JF WY (λX=>(X.1.2.1,q2 X))
def af6:bP:=(bP.nil).add 3 adP
theorem ab1:dx E aqz alh af6 (az Tryz.f162 0):=lk JF WY (λX=>(X.1.2.1,q2 X)) λX x=>((z1 (w x.1 (u x.2)) X.1),X.2)
theorem ast:aC Tryz.prog 162 anI:=fk alh base Tryz.func162 (Λ:=af6) (cF ab1 nF)
def anJ:aG:=au [pf fu] [(true,Y23)] (c1 Pu.lB)
theorem amp:aC Tryz.prog 163 anJ:=f0 {mv:=[14]} (base.add o28) Tryz.func163
def aiv:aG:=au [pf dH] [(true,(.pair (.int .i64) (.pair (.int .i64) (.pair (.int .i64) Y35))))] (c1 Pu.wi)
theorem aub:aC Tryz.prog 326 aiv:=f0 {} base Tryz.func326
def aoy:aG:=au [pd (.sl dH)] [(false,(.sl (.own none) dH))] (c1 Pu.yc)
def aq1:bH:=bH.nil.add 326 aiv
def alL:An:={mask:=mk [(3,[0,3,4])],mv:=[22]}
abbrev JM:SD:=⟨.data false (.sl .arg dH)::B::B::.data false (.sl (.own (some 36864)) dH)::DI::bs 18 [],zs 23 [],.none⟩
def Xr {R:Type}(X:SD.D JM)(K:Ex→AS→Option R):=Pu.yR (λy0 y1=>ke 0 K JM ((z1 (w y0 (u y1)) X.1),X.2)) X.1.1
def aei:bG:=dG JM Xr (λX=>(X.1.2.1,q2 X))
def agz:bP:=(bP.nil).add 3 aei
theorem acx:dx E aq1 alL agz (az Tryz.f254 0):=lk JM Xr (λX=>(X.1.2.1,q2 X)) λX x=>((z1 (w x.1 (u x.2)) X.1),X.2)
theorem atp:aC Tryz.prog 254 aoy:=fk alL (base.add aub) Tryz.func254 (Λ:=agz) (cF acx nF)
def aph:aG:=au [pf fM] [(true,(.pair (.int .i64) Y0))] (c1 Pu.wg)
theorem amT:aC Tryz.prog 328 aph:=f0 {} base Tryz.func328
def aiI:aG:=au [pf cJ] [(true,(.pair (.int .i64) (.pair (.pair (.int .i64) Y0) (.int .i64))))] (c1 Pu.pJ)
theorem auK:aC Tryz.prog 377 aiI:=f0 {} (base.add amT) Tryz.func377
def apg:aG:=au [pd (.sl cJ)] [(false,(.sl (.own none) cJ))] (c1 Pu.ye)
def arf:bH:=bH.nil.add 377 aiI
def alZ:An:={mask:=mk [(3,[0,3,4])],mv:=[22]}
abbrev JU:SD:=⟨.data false (.sl .arg cJ)::B::B::.data false (.sl (.own (some 36864)) cJ)::DI::bs 18 [],zs 23 [],.none⟩
def XI {R:Type}(X:SD.D JU)(K:Ex→AS→Option R):=Pu.yT (λy0 y1=>ke 0 K JU ((z1 (w y0 (u y1)) X.1),X.2)) X.1.1
def aez:bG:=dG JU XI (λX=>(X.1.2.1,q2 X))
def agN:bP:=(bP.nil).add 3 aez
theorem acO:dx E arf alZ agN (az Tryz.f327 0):=lk JU XI (λX=>(X.1.2.1,q2 X)) λX x=>((z1 (w x.1 (u x.2)) X.1),X.2)
theorem auc:aC Tryz.prog 327 apg:=fk alZ (base.add auK) Tryz.func327 (Λ:=agN) (cF acO nF)
def aoz:aG:=au [pf (.sl cJ)] [(true,(.sl (.own none) cJ))] (c1 Pu.jU)
theorem atq:aC Tryz.prog 255 aoz:=f0 {mv:=[8]} (base.add auc) Tryz.func255
def aoA:aG:=au [pf lQ] [(true,(.pair .str (.sl (.own none) (.int .i64))))] (c1 Pu.ow)
theorem atr:aC Tryz.prog 256 aoA:=f0 {mv:=[11]} (base.add o28) Tryz.func256
def anK:aG:=au [pf eg] [(true,Y24)] (c1 Pu.lb)
theorem asu:aC Tryz.prog 164 anK:=f0 {mv:=[16]} (((base.add atp).add atq).add atr) Tryz.func164
def ah6:aG:=au [pf bg] [(true,(.pair (.pair (.int .i64) Y0) (.pair (.int .i64) (.pair .str .bool))))] (c1 Pu.lC)
theorem ats:aC Tryz.prog 257 ah6:=f0 {} (base.add amT) Tryz.func257
def anL:aG:=au [pd (.sl bg)] [(false,(.sl (.own none) bg))] (c1 Pu.vt)
def aqA:bH:=bH.nil.add 257 ah6
def ali:An:={mask:=mk [(3,[0,3,4])],mv:=[22]}
abbrev JG:SD:=⟨.data false (.sl .arg bg)::B::B::.data false (.sl (.own (some 36864)) bg)::DI::bs 18 [],zs 23 [],.none⟩
def WZ {R:Type}(X:SD.D JG)(K:Ex→AS→Option R):=Pu.wj (λy0 y1=>ke 0 K JG ((z1 (w y0 (u y1)) X.1),X.2)) X.1.1
def adQ:bG:=dG JG WZ (λX=>(X.1.2.1,q2 X))
def af7:bP:=(bP.nil).add 3 adQ
theorem ab2:dx E aqA ali af7 (az Tryz.f165 0):=lk JG WZ (λX=>(X.1.2.1,q2 X)) λX x=>((z1 (w x.1 (u x.2)) X.1),X.2)
theorem asv:aC Tryz.prog 165 anL:=fk ali (base.add ats) Tryz.func165 (Λ:=af7) (cF ab2 nF)
def anM:aG:=au [pf fM] [(true,(.pair (.int .i64) Y0))] (c1 Pu.tK)
theorem asw:aC Tryz.prog 166 anM:=f0 {} base Tryz.func166
def e71:aG:=au [pf bL] [(true,Y1)] (c1 Pu.pG)
theorem o71:aC Tryz.prog 71 e71:=f0 {mv:=[63]} (((((((((((((base.add o28).add o29).add asn).add aso).add asp).add asq).add asr).add ass).add ast).add amp).add asu).add asv).add asw) Tryz.func71
def e23:aG:=au [pd (.sl bL)] [(false,(.sl (.own none) bL))] (c1 Pu.ya)
def g23:bH:=bH.nil.add 71 e71
def n23:An:={mask:=mk [(3,[0,3,4])],mv:=[22]}
abbrev QB:SD:=⟨.data false (.sl .arg bL)::B::B::.data false (.sl (.own (some 36864)) bL)::DI::bs 18 [],zs 23 [],.none⟩
def Z2 {R:Type}(X:SD.D QB)(K:Ex→AS→Option R):=Pu.yP (λy0 y1=>ke 0 K QB ((z1 (w y0 (u y1)) X.1),X.2)) X.1.1
def aj6:bG:=dG QB Z2 (λX=>(X.1.2.1,q2 X))
def L23:bP:=(bP.nil).add 3 aj6
theorem ajg:dx E g23 n23 L23 (az Tryz.f23 0):=lk QB Z2 (λX=>(X.1.2.1,q2 X)) λX x=>((z1 (w x.1 (u x.2)) X.1),X.2)
theorem o23:aC Tryz.prog 23 e23:=fk n23 (base.add o71) Tryz.func23 (Λ:=L23) (cF ajg nF)
def anN:aG:=au [pf dW] [(true,Lr)] (c1 Pu.wI)
theorem asx:aC Tryz.prog 167 anN:=f0 {} base Tryz.func167
def e72:aG:=au [pf aB] [(true,Y25)] (c1 Pu.eD)
theorem o72:aC Tryz.prog 72 e72:=f0 {} (base.add asx) Tryz.func72
def e24:aG:=au [pd (.sl aB)] [(false,(.sl (.own none) aB))] (c1 Pu.jY)
def g24:bH:=bH.nil.add 72 e72
def n24:An:={mask:=mk [(3,[0,3,4])],mv:=[22]}
abbrev QC:SD:=⟨.data false (.sl .arg aB)::B::B::.data false (.sl (.own (some 36864)) aB)::DI::bs 18 [],zs 23 [],.none⟩
def Z3 {R:Type}(X:SD.D QC)(K:Ex→AS→Option R):=Pu.mM (λy0 y1=>ke 0 K QC ((z1 (w y0 (u y1)) X.1),X.2)) X.1.1
def aj7:bG:=dG QC Z3 (λX=>(X.1.2.1,q2 X))
def L24:bP:=(bP.nil).add 3 aj7
theorem ajh:dx E g24 n24 L24 (az Tryz.f24 0):=lk QC Z3 (λX=>(X.1.2.1,q2 X)) λX x=>((z1 (w x.1 (u x.2)) X.1),X.2)
theorem o24:aC Tryz.prog 24 e24:=fk n24 (base.add o72) Tryz.func24 (Λ:=L24) (cF ajh nF)
def e73:aG:=au [pf bq] [(true,(.pair Y23 Lr))] (c1 Pu.jV)
theorem o73:aC Tryz.prog 73 e73:=f0 {mv:=[17]} (base.add amp) Tryz.func73
def e25:aG:=au [pd (.sl bq)] [(false,(.sl (.own none) bq))] (c1 Pu.tL)
def g25:bH:=bH.nil.add 73 e73
def n25:An:={mask:=mk [(3,[0,3,4])],mv:=[22]}
abbrev QD:SD:=⟨.data false (.sl .arg bq)::B::B::.data false (.sl (.own (some 36864)) bq)::DI::bs 18 [],zs 23 [],.none⟩
def Z4 {R:Type}(X:SD.D QD)(K:Ex→AS→Option R):=Pu.vn (λy0 y1=>ke 0 K QD ((z1 (w y0 (u y1)) X.1),X.2)) X.1.1
def aj8:bG:=dG QD Z4 (λX=>(X.1.2.1,q2 X))
def L25:bP:=(bP.nil).add 3 aj8
theorem aji:dx E g25 n25 L25 (az Tryz.f25 0):=lk QD Z4 (λX=>(X.1.2.1,q2 X)) λX x=>((z1 (w x.1 (u x.2)) X.1),X.2)
theorem o25:aC Tryz.prog 25 e25:=fk n25 (base.add o73) Tryz.func25 (Λ:=L25) (cF aji nF)
def e26:aG:=au [pf (.sl .str)] [(true,(.sl (.own none) .str))] (c1 Pu.qV)
theorem o26:aC Tryz.prog 26 e26:=f0 {mv:=[8]} (base.add o29) Tryz.func26
def e27:aG:=au [pf dS] [(true,Y0)] (c1 Pu.xZ)
theorem o27:aC Tryz.prog 27 e27:=f0 {} base Tryz.func27
def e6:aG:=au [pf ef] [(true,Y12)] (c1 Pu.kx)
theorem o6:aC Tryz.prog 6 e6:=f0 {mv:=[32]} (((((((base.add o23).add o24).add o25).add o26).add o27).add o28).add o29) Tryz.func6
def e74:aG:=au [pd (.sl aB)] [(false,(.sl (.own none) aB))] (c1 Pu.kL)
theorem o74:aC Tryz.prog 74 e74:=f0 {} base Tryz.func74
def e77:aG:=au [pd (.sl (.int .i64))] [(false,(.sl (.own none) (.int .i64)))] (c1 Pu.eA)
theorem o77:aC Tryz.prog 77 e77:=f0 {} base Tryz.func77
def ahJ:aG:=au [pf fu] [(true,Y23)] (c1 Pu.la)
theorem amq:aC Tryz.prog 173 ahJ:=f0 {mv:=[7]} (base.add o77) Tryz.func173
def ahG:aG:=au [pf bq] [(true,(.pair Y23 Lr))] (c1 Pu.nm)
theorem asy:aC Tryz.prog 168 ahG:=f0 {mv:=[7]} (base.add amq) Tryz.func168
def e75:aG:=au [pd (.sl bq)] [(false,(.sl (.own none) bq))] (c1 Pu.qj)
def g75:bH:=bH.nil.add 168 ahG
def n75:An:={mask:=mk [(3,[3,7,8,9])],mv:=[13,19]}
abbrev QS:SD:=⟨B::B::B::.data false (.sl (.own (some 36864)) bq)::B::B::B::.data false (.sl .arg bq)::DI::DI::bs 10 [],zs 20 [],.none⟩
def aax {R:Type}(X:SD.D QS)(K:Ex→AS→Option R):=Pu.lW (λy0 y1=>ke 0 K QS ((w y0 (z2 (u y1)) X.1),X.2)) X.1.2.1 (q2 X)
def akB:bG:=dG QS aax (λX=>(X.1.1,q3 X))
def L75:bP:=(bP.nil).add 3 akB
theorem ajL:dx E g75 n75 L75 (az Tryz.f75 0):=lk QS aax (λX=>(X.1.1,q3 X)) λX x=>((w x.1 (z2 (u x.2)) X.1),X.2)
theorem o75:aC Tryz.prog 75 e75:=fk n75 (base.add asy) Tryz.func75 (Λ:=L75) (cF ajL nF)
def e78:aG:=au [pd (.sl .str)] [(false,(.sl (.own none) .str))] (c1 Pu.fb)
theorem o78:aC Tryz.prog 78 e78:=f0 {} base Tryz.func78
def e76:aG:=au [pf (.sl .str)] [(true,(.sl (.own none) .str))] (c1 Pu.u5)
theorem o76:aC Tryz.prog 76 e76:=f0 {} (base.add o78) Tryz.func76
def R9:aG:=au [pf (.sl .str)] [(true,(.sl (.own none) .str))] (c1 Pu.di)
theorem Nd:aC Tryz.prog 169 R9:=f0 {} (base.add o78) Tryz.func169
def ahH:aG:=au [pd (.sl aX)] [(false,(.sl (.own none) aX))] (c1 Pu.qk)
theorem asz:aC Tryz.prog 170 ahH:=f0 {} base Tryz.func170
def Yq:aG:=au [pf cE] [(true,Y8)] (c1 Pu.fP)
theorem Vw:aC Tryz.prog 172 Yq:=f0 {mv:=[7]} (base.add o77) Tryz.func172
def aoB:aG:=au [pd (.sl dc)] [(false,(.sl (.own none) dc))] (c1 Pu.sv)
def aq2:bH:=bH.nil.add 77 e77
def alM:An:={mask:=mk [(3,[3,7,8,9])],mv:=[13,25]}
abbrev JN:SD:=⟨B::B::B::.data false (.sl (.own (some 36864)) dc)::B::B::B::.data false (.sl .arg dc)::DI::DI::bs 16 [],zs 26 [],.none⟩
def Xs {R:Type}(X:SD.D JN)(K:Ex→AS→Option R):=Pu.nn (λy0 y1=>ke 0 K JN ((w y0 (z2 (u y1)) X.1),X.2)) X.1.2.1 (q2 X)
def aej:bG:=dG JN Xs (λX=>(X.1.1,q3 X))
def agA:bP:=(bP.nil).add 3 aej
theorem acy:dx E aq2 alM agA (az Tryz.f258 0):=lk JN Xs (λX=>(X.1.1,q3 X)) λX x=>((w x.1 (z2 (u x.2)) X.1),X.2)
theorem att:aC Tryz.prog 258 aoB:=fk alM (base.add o77) Tryz.func258 (Λ:=agA) (cF acy nF)
def ahI:aG:=au [pf fN] [(true,Y28)] (c1 Pu.vV)
theorem asA:aC Tryz.prog 171 ahI:=f0 {sb:=mg [(2,2)]} ((base.add Vw).add att) Tryz.func171
def aoC:aG:=au [pf (.sl cJ)] [(true,(.sl (.own none) cJ))] (c1 Pu.ql)
theorem atu:aC Tryz.prog 259 aoC:=f0 {} base Tryz.func259
def aoD:aG:=au [pf lQ] [(true,(.pair .str (.sl (.own none) (.int .i64))))] (c1 Pu.oN)
theorem atv:aC Tryz.prog 260 aoD:=f0 {sb:=mg [(2,2)]} (base.add o77) Tryz.func260
def ahK:aG:=au [pf eg] [(true,Y24)] (c1 Pu.lX)
theorem asB:aC Tryz.prog 174 ahK:=f0 {sb:=mg [(2,2)]} ((base.add atu).add atv) Tryz.func174
def aa5:aG:=au [pd (.sl bg)] [(false,(.sl (.own none) bg))] (c1 Pu.gY)
theorem afb:aC Tryz.prog 175 aa5:=f0 {} base Tryz.func175
def e79:aG:=au [pf bL] [(true,Y1)] (c1 Pu.ja)
def g79:bH:=((((((((bH.nil.add 77 e77).add 78 e78).add 169 R9).add 170 ahH).add 171 ahI).add 172 Yq).add 173 ahJ).add 174 ahK).add 175 aa5
def n79:An:={mask:=mk [(8,[1,2,3,27,28,29])],mv:=[34,75],mb:=mg [(34,3)],sb:=mg [(39,3)]}
abbrev QT:SD:=⟨B::.ptr 1 0::.ptr 2 0::.ptr 3 0::bs 23 (.data false (.sl .arg cE)::DI::DI::bs 46 []),Z::(some Y2)::(some Y3)::(some Y18)::zs 72 [],.none⟩
def aay {R:Type}(X:SD.D QT)(K:Ex→AS→Option R):=Pu.nk (λy0 y1=>ke 0 K QT ((z2 (u y0) X.1),(z2 (u y1) X.2.1),X.2.2)) X.1.1 X.1.2.1 X.2.1.1 X.2.1.2.1
def akC:bG:=dG QT aay (λX=>(q2 X,X.2.1.2.2.1))
def L79:bP:=(bP.nil).add 8 akC
theorem ajM:dx E g79 n79 L79 (az Tryz.f79 0):=lk QT aay (λX=>(q2 X,X.2.1.2.2.1)) λX x=>((z2 (u x.1) X.1),(z2 (u x.2) X.2.1),X.2.2)
theorem o79:aC Tryz.prog 79 e79:=fk n79 (((((((((base.add o77).add o78).add Nd).add asz).add asA).add Vw).add amq).add asB).add afb) Tryz.func79 (Λ:=L79) (cF ajM nF)
def e30:aG:=au [pf ef] [(true,Y12)] (c1 Pu.su)
def g30:bH:=(((((bH.nil.add 74 e74).add 75 e75).add 76 e76).add 77 e77).add 78 e78).add 79 e79
def n30:An:={mask:=mk [(3,[2,3,25,26,27])],mv:=[32,39],mb:=mg [(32,3)],sb:=mg [(3,3),(37,3)]}
abbrev QG:SD:=⟨B::B::.ptr 2 0::.ptr 3 0::bs 21 (.data false (.sl .arg bL)::DI::DI::bs 12 []),Z::Z::(some Y21)::(some Y20)::zs 36 [],.none⟩
def Z7 {R:Type}(X:SD.D QG)(K:Ex→AS→Option R):=Pu.nj (λy0 y1=>ke 0 K QG ((z2 (u y0) X.1),(z1 (u y1) X.2.1),X.2.2)) X.1.1 X.1.2.1 X.2.1.1
def akb:bG:=dG QG Z7 (λX=>(q2 X,X.2.1.2.1))
def L30:bP:=(bP.nil).add 3 akb
theorem ajl:dx E g30 n30 L30 (az Tryz.f30 0):=lk QG Z7 (λX=>(q2 X,X.2.1.2.1)) λX x=>((z2 (u x.1) X.1),(z1 (u x.2) X.2.1),X.2.2)
theorem o30:aC Tryz.prog 30 e30:=fk n30 ((((((base.add o74).add o75).add o76).add o77).add o78).add o79) Tryz.func30 (Λ:=L30) (cF ajl nF)
def Oj:aG:=au [pI,pI,pI] [rB] (c3 Pu.aw)
theorem yZ:aC Tryz.prog 32 Oj:=f0 {merge:=mg [(1,6)]} base Tryz.func32
def aba:aG:=au [pf fu] [rB] (c1 Pu.lx)
def aqH:bH:=bH.nil.add 32 Oj
def alq:An:={mask:=mk [(2,[1,2,6,7,8])],merge:=mg [(4,29),(7,2)]}
abbrev Fm:SD:=⟨B::.ptr 1 0::DB::B::B::B::.data false (.sl .arg (.int .i64))::DI::DI::bs 31 [],Z::(some Y27)::zs 38 [],.none⟩
def W6 {R:Type}(X:SD.D Fm)(K:Ex→AS→Option R):=Pu.m8 (λy0=>ke 0 K Fm ((z3 (u y0) X.1),X.2)) (λy0 y1=>kr K Fm ((w y0 (z2 (u y1)) X.1),X.2)) X.1.1 X.1.2.1 (q2 X) X.2.1.1
def adX:bG:=dG Fm W6 q3
def age:bP:=(bP.nil).add 2 adX
theorem ab9:dx E aqH alq age (az Tryz.f183 0):=lk Fm W6 q3 λX x=>((z3 (u x) X.1),X.2)
theorem afd:aC Tryz.prog 183 aba:=fk alq (base.add yZ) Tryz.func183 (Λ:=age) (cF ab9 nF)
def ahL:aG:=au [pf bq] [rB] (c1 Pu.qb)
theorem asC:aC Tryz.prog 176 ahL:=f0 {merge:=mg [(1,2)]} ((base.add yZ).add afd) Tryz.func176
def aa6:aG:=au [pd (.sl (.int .i64)),pI] [rB] (c2 Pu.pC)
def aqB:bH:=bH.nil
def alj:An:={mask:=mk [(2,[1,4,7,8,9])]}
abbrev Fh:SD:=⟨B::DI::B::B::DB::B::B::.data false (.sl .arg (.int .i64))::DI::DI::bs 7 [],zs 17 [],.none⟩
def W0 {R:Type}(X:SD.D Fh)(K:Ex→AS→Option R):=Pu.zA (λy0=>ke 0 K Fh ((z4 (u y0) X.1),X.2)) (λy0 y1=>kr K Fh ((z1 (w y0 (z2 (u y1))) X.1),X.2)) X.1.1 X.1.2.1 (q2 X) (q3 X)
def adR:bG:=dG Fh W0 q4
def af8:bP:=(bP.nil).add 2 adR
theorem ab3:dx E aqB alj af8 (az Tryz.f177 0):=lk Fh W0 q4 λX x=>((z4 (u x) X.1),X.2)
theorem amr:aC Tryz.prog 177 aa6:=fk alj base Tryz.func177 (Λ:=af8) (cF ab3 nF)
def ahM:aG:=au [pd (.sl (.int .i64)),pI] [(false,(.sl (.own none) (.int .i64)))] (c2 Pu.iu)
def aqC:bH:=bH.nil
def alk:An:={mask:=mk [(4,[1,5,6,10,11,12])],merge:=mg [(6,22)],mv:=[23,27,34,38]}
abbrev JH:SD:=⟨B::DI::B::B::B::.data false (.sl (.own (some 61440)) (.int .i64))::DB::B::B::B::.data false (.sl .arg (.int .i64))::DI::DI::bs 26 [],zs 39 [],.none⟩
def W1 {R:Type}(X:SD.D JH)(K:Ex→AS→Option R):=Pu.hG (λy0 y1 y2=>ke 0 K JH ((z1 (w y0 (w y1 (z2 (u y2)))) X.1),X.2)) X.1.1 (q3 X) (q4 X)
def adS:bG:=dG JH W1 (λX=>(X.1.2.1,q2 X,q5 X))
def af9:bP:=(bP.nil).add 4 adS
theorem ab4:dx E aqC alk af9 (az Tryz.f178 0):=lk JH W1 (λX=>(X.1.2.1,q2 X,q5 X)) λX x=>((z1 (w x.1 (w x.2.1 (z2 (u x.2.2)))) X.1),X.2)
theorem asD:aC Tryz.prog 178 ahM:=fk alk base Tryz.func178 (Λ:=af9) (cF ab4 nF)
def ah7:aG:=au [pf jE] [(true,Y27)] (c1 Pu.wG)
theorem atw:aC Tryz.prog 261 ah7:=f0 {} base Tryz.func261
def ah8:aG:=au [pd (.sl jE),pI] [rI] (c2 Pu.sA)
def aq3:bH:=bH.nil
def alN:An:={mask:=mk [(2,[1,4,7,8,9])],merge:=mg [(4,21)]}
abbrev FF:SD:=⟨B::DI::B::B::DI::B::B::.data false (.sl .arg jE)::DI::DI::bs 14 [],zs 24 [],.none⟩
def Xt {R:Type}(X:SD.D FF)(K:Ex→AS→Option R):=Pu.jM (λy0=>ke 0 K FF ((z4 (u y0) X.1),X.2)) (λy0 y1=>kr K FF ((z1 (w y0 (z2 (u y1))) X.1),X.2)) X.1.1 X.1.2.1 (q2 X) (q3 X)
def aek:bG:=dG FF Xt q4
def agB:bP:=(bP.nil).add 2 aek
theorem acz:dx E aq3 alN agB (az Tryz.f262 0):=lk FF Xt q4 λX x=>((z4 (u x) X.1),X.2)
theorem atx:aC Tryz.prog 262 ah8:=fk alN base Tryz.func262 (Λ:=agB) (cF acz nF)
def aa7:aG:=au [pd (.sl jE)] [rB] (c1 Pu.nd)
def aqD:bH:=((((bH.nil.add 32 Oj).add 177 aa6).add 183 aba).add 261 ah7).add 262 ah8
def alm:An:={mask:=mk [(4,[0,2,9,10,11])],merge:=mg [(6,27),(8,37)]}
abbrev Fi:SD:=⟨.data false (.sl .arg jE)::B::DB::bs 6 (.data false (.sl .arg jE)::DI::DI::bs 27 []),zs 39 [],.none⟩
def W2 {R:Type}(X:SD.D Fi)(K:Ex→AS→Option R):=Pu.oJ (λy0=>ke 0 K Fi ((z4 (u y0) X.1),X.2)) (λy0 y1=>kr K Fi ((z1 (w y0 (z2 (u y1))) X.1),X.2)) X.1.1 X.1.2.1 (q2 X) (q3 X)
def adT:bG:=dG Fi W2 q4
def aga:bP:=(bP.nil).add 4 adT
theorem ab5:dx E aqD alm aga (az Tryz.f179 0):=lk Fi W2 q4 λX x=>((z4 (u x) X.1),X.2)
theorem ams:aC Tryz.prog 179 aa7:=fk alm (((((base.add yZ).add amr).add afd).add atw).add atx) Tryz.func179 (Λ:=aga) (cF ab5 nF)
def e80:aG:=au [pd (.sl bq)] [(false,(.sl (.own none) jE)),rB] (c1 Pu.ua)
def g80:bH:=((((bH.nil.add 32 Oj).add 176 ahL).add 177 aa6).add 178 ahM).add 179 aa7
def n80:An:={mask:=mk [(6,[2,3,4,5,18,19,20]),(12,[2,3,4,5,7,8,18,19,20,32,33,34])],mv:=[53,57,63,69]}
abbrev Ka:SD:=⟨B::B::.data false (.sl (.own (some 24576)) jE)::DB::.data false (.sl (.own (some 49152)) jE)::.data false (.sl (.own (some 61440)) (.int .i64))::B::.ptr 7 0::.data false (.sl (.own (some 98304)) (.int .i64))::bs 9 (.data false (.sl .arg bq)::DI::DI::bs 11 (.data false (.sl (.own (some 393216)) (.int .i64))::DI::DI::bs 35 [])),zs 7 ((some (.pair Y27 Lr))::zs 62 []),.none⟩
def X4 {R:Type}(X:SD.D Ka)(K:Ex→AS→Option R):=Pu.gW (λy0 y1 y2=>ke 2 K Ka ((z3 (w y0 (w y1 (z5 (u y2)))) X.1),X.2)) X.1.1 X.1.2.1 (q2 X) (q5 X) (q6 X) (q7 X) (q8 X) (q9 X) X.2.1.1
def aeV:bG:=dG Ka X4 (λX=>(q3 X,q4 X,Rs X))
abbrev L3:SD:=⟨B::B::.data false (.sl (.own (some 24576)) jE)::DB::.data false (.sl (.own (some 49152)) jE)::.data false (.sl (.own (some 61440)) (.int .i64))::bs 12 (.data false (.sl .arg bq)::DI::DI::bs 49 []),zs 70 [],.none⟩
def aaz {R:Type}(X:SD.D L3)(K:Ex→AS→Option R):=Pu.k8 (λy0 y1 y2=>ke 0 K L3 ((z2 (w y0 (w y1 (z2 (u y2)))) X.1),X.2)) (λy0 y1 y2 y3 y4=>kr K L3 ((w y0 (w y1 (w y2 (w y3 (z2 (u y4))))) X.1),X.2)) X.1.1 X.1.2.1 (q4 X) (q5 X)
def akD:bG:=dG L3 aaz (λX=>(q2 X,q3 X,q6 X))
def L80:bP:=((bP.nil).add 12 aeV).add 6 akD
theorem ada:dx E g80 n80 L80 (az Tryz.f80 1):=lk Ka X4 (λX=>(q3 X,q4 X,Rs X)) λX x=>((z3 (w x.1 (w x.2.1 (z5 (u x.2.2)))) X.1),X.2)
theorem ajN:dx E g80 n80 L80 (az Tryz.f80 0):=lk L3 aaz (λX=>(q2 X,q3 X,q6 X)) λX x=>((z2 (w x.1 (w x.2.1 (z2 (u x.2.2)))) X.1),X.2)
theorem o80:aC Tryz.prog 80 e80:=fk n80 (((((base.add yZ).add asC).add amr).add asD).add ams) Tryz.func80 (Λ:=L80) (cF ajN (cF ada nF))
def aa8:aG:=au [pf (.sl .str)] [rB] (c1 Pu.n9)
def aqE:bH:=bH.nil
def aln:An:={mask:=mk [(2,[1,2,6,7,8])]}
abbrev Fj:SD:=⟨B::.ptr 1 0::DB::B::B::B::.data false (.sl .arg .str)::DI::DI::bs 11 [],Z::(some (.sl .arg .str))::zs 18 [],.none⟩
def W3 {R:Type}(X:SD.D Fj)(K:Ex→AS→Option R):=Pu.w4 (λy0=>ke 0 K Fj ((z3 (u y0) X.1),X.2)) (λy0 y1=>kr K Fj ((w y0 (z2 (u y1)) X.1),X.2)) X.1.1 X.1.2.1 (q2 X) X.2.1.1
def adU:bG:=dG Fj W3 q3
def agb:bP:=(bP.nil).add 2 adU
theorem ab6:dx E aqE aln agb (az Tryz.f180 0):=lk Fj W3 q3 λX x=>((z3 (u x) X.1),X.2)
theorem afc:aC Tryz.prog 180 aa8:=fk aln base Tryz.func180 (Λ:=agb) (cF ab6 nF)
def ah9:aG:=au [pd (.sl aX),pI,pI] [rI] (c3 Pu.jL)
def aq4:bH:=bH.nil
def alO:An:={mask:=mk [(2,[1,2,6,9,10,11])],merge:=mg [(4,25)]}
abbrev FG:SD:=⟨B::DI::DI::B::B::B::DI::B::B::.data false (.sl .arg aX)::DI::DI::bs 16 [],zs 28 [],.none⟩
def Xu {R:Type}(X:SD.D FG)(K:Ex→AS→Option R):=Pu.jv (λy0=>ke 0 K FG ((z5 (u y0) X.1),X.2)) (λy0 y1=>kr K FG ((z2 (w y0 (z2 (u y1))) X.1),X.2)) X.1.1 X.1.2.1 (q2 X) (q3 X) (q4 X)
def ael:bG:=dG FG Xu q5
def agC:bP:=(bP.nil).add 2 ael
theorem acA:dx E aq4 alO agC (az Tryz.f263 0):=lk FG Xu q5 λX x=>((z5 (u x) X.1),X.2)
theorem amG:aC Tryz.prog 263 ah9:=fk alO base Tryz.func263 (Λ:=agC) (cF acA nF)
def aa9:aG:=au [pd (.sl aX)] [rB] (c1 Pu.k7)
def aqF:bH:=(bH.nil.add 32 Oj).add 263 ah9
def alo:An:={mask:=mk [(2,[0,2,5,6,7])],merge:=mg [(4,37)]}
abbrev Fk:SD:=⟨.data false (.sl .arg aX)::B::DB::B::B::.data false (.sl .arg aX)::DI::DI::bs 34 [],zs 42 [],.none⟩
def W4 {R:Type}(X:SD.D Fk)(K:Ex→AS→Option R):=Pu.kE (λy0=>ke 0 K Fk ((z4 (u y0) X.1),X.2)) (λy0 y1=>kr K Fk ((z1 (w y0 (z2 (u y1))) X.1),X.2)) X.1.1 X.1.2.1 (q2 X) (q3 X)
def adV:bG:=dG Fk W4 q4
def agc:bP:=(bP.nil).add 2 adV
theorem ab7:dx E aqF alo agc (az Tryz.f181 0):=lk Fk W4 q4 λX x=>((z4 (u x) X.1),X.2)
theorem amt:aC Tryz.prog 181 aa9:=fk alo ((base.add yZ).add amG) Tryz.func181 (Λ:=agc) (cF ab7 nF)
def T5:aG:=au [pf cE] [rB] (c1 Pu.gT)
def aqI:bH:=bH.nil.add 32 Oj
def alr:An:={mask:=mk [(5,[1,2,3,26,27,28])],merge:=mg [(1,21),(7,43)]}
abbrev Fo:SD:=⟨B::.ptr 1 0::DB::.data false (.sl (.own (some 36864)) .bool)::bs 22 (.data false (.sl .arg (.int .i64))::DI::DI::bs 19 []),Z::(some Y22)::zs 46 [],.none⟩
def W7 {R:Type}(X:SD.D Fo)(K:Ex→AS→Option R):=Pu.qe (λy0 y1=>ke 0 K Fo ((z1 (w y0 (z2 (u y1))) X.1),X.2)) (λy0 y1 y2=>kr K Fo ((w y0 (w y1 (z2 (u y2))) X.1),X.2)) X.1.1 (q2 X) (q3 X) X.2.1.1
def adY:bG:=dG Fo W7 (λX=>(X.1.2.1,q4 X))
def agf:bP:=(bP.nil).add 5 adY
theorem aca:dx E aqI alr agf (az Tryz.f185 0):=lk Fo W7 (λX=>(X.1.2.1,q4 X)) λX x=>((z1 (w x.1 (z2 (u x.2))) X.1),X.2)
theorem SZ:aC Tryz.prog 185 T5:=fk alr (base.add yZ) Tryz.func185 (Λ:=agf) (cF aca nF)
def abc:aG:=au [pI,pI] [rI] (c2 Pu.fH)
theorem YZ:aC Tryz.prog 194 abc:=f0 {} base Tryz.func194
def api:aG:=au [pI] [rB] (c1 Pu.oc)
theorem afq:aC Tryz.prog 329 api:=f0 {merge:=mg [(1,2)]} base Tryz.func329
def aoJ:aG:=au [pf dS] [rI] (c1 Pu.lz)
theorem afk:aC Tryz.prog 274 aoJ:=f0 {} ((base.add YZ).add afq) Tryz.func274
def abg:aG:=au [pf dS] [rB] (c1 Pu.iI)
theorem S2:aC Tryz.prog 264 abg:=f0 {merge:=mg [(1,2)]} (((base.add yZ).add afk).add afq) Tryz.func264
def abh:aG:=au [pf cE,pd (.sl (.int .i64))] [(true,Y8),rB] (c2 Pu.eC)
theorem amH:aC Tryz.prog 265 abh:=f0 {merge:=mg [(3,21)],mv:=[10,24]} ((base.add Vw).add SZ) Tryz.func265
def ahN:aG:=au [pf fN] [rB] (c1 Pu.Aj)
def aqG:bH:=(((bH.nil.add 32 Oj).add 185 T5).add 264 abg).add 265 abh
def alp:An:={mask:=mk [(6,[1,2,3,4,30,31,32])],merge:=mg [(1,24),(8,50)],mv:=[55]}
abbrev Fl:SD:=⟨B::.ptr 1 0::DB::DI::.data false (.sl (.own (some 49152)) (.int .i64))::bs 25 (.data false (.sl .arg dc)::DI::DI::bs 35 []),Z::(some Y29)::zs 66 [],.none⟩
def W5 {R:Type}(X:SD.D Fl)(K:Ex→AS→Option R):=Pu.qi (λy0 y1 y2=>ke 0 K Fl ((z1 (w y0 (w y1 (z2 (u y2)))) X.1),X.2)) (λy0 y1 y2 y3=>kr K Fl ((w y0 (w y1 (w y2 (z2 (u y3)))) X.1),X.2)) X.1.1 (q3 X) (q4 X) X.2.1.1
def adW:bG:=dG Fl W5 (λX=>(X.1.2.1,q2 X,q5 X))
def agd:bP:=(bP.nil).add 6 adW
theorem ab8:dx E aqG alp agd (az Tryz.f182 0):=lk Fl W5 (λX=>(X.1.2.1,q2 X,q5 X)) λX x=>((z1 (w x.1 (w x.2.1 (z2 (u x.2.2)))) X.1),X.2)
theorem asE:aC Tryz.prog 182 ahN:=fk alp ((((base.add yZ).add SZ).add S2).add amH) Tryz.func182 (Λ:=agd) (cF ab8 nF)
def aoE:aG:=au [pf dW] [rB] (c1 Pu.kG)
theorem afj:aC Tryz.prog 266 aoE:=f0 {merge:=mg [(1,2)]} ((base.add yZ).add afq) Tryz.func266
def apj:aG:=au [pf gF] [rB] (c1 Pu.mq)
theorem amU:aC Tryz.prog 330 apj:=f0 {merge:=mg [(1,18),(5,2),(7,2)]} (base.add yZ) Tryz.func330
def apk:aG:=au [pI] [rB] (c1 Pu.qs)
theorem aud:aC Tryz.prog 331 apk:=f0 {merge:=mg [(1,2)]} base Tryz.func331
def aoF:aG:=au [pf ga] [rB] (c1 Pu.kI)
theorem Zb:aC Tryz.prog 267 aoF:=f0 {merge:=mg [(1,2)]} (((base.add yZ).add amU).add aud) Tryz.func267
def abb:aG:=au [pf bk] [rB] (c1 Pu.uN)
theorem afe:aC Tryz.prog 184 abb:=f0 {merge:=mg [(1,42),(5,2)]} ((((base.add yZ).add S2).add afj).add Zb) Tryz.func184
def aoG:aG:=au [pf bN] [rB] (c1 Pu.w6)
theorem amI:aC Tryz.prog 268 aoG:=f0 {merge:=mg [(1,2)]} base Tryz.func268
def ahO:aG:=au [pf bN] [rB] (c1 Pu.iZ)
theorem Vx:aC Tryz.prog 186 ahO:=f0 {merge:=mg [(1,24),(3,2)]} ((base.add yZ).add amI) Tryz.func186
def aiw:aG:=au [pf dH] [rB] (c1 Pu.DT)
theorem aue:aC Tryz.prog 332 aiw:=f0 {merge:=mg [(1,33),(3,54),(5,2)]} (base.add yZ) Tryz.func332
def aia:aG:=au [pd (.sl dH)] [rB] (c1 Pu.xI)
def aq5:bH:=bH.nil.add 332 aiw
def alP:An:={mask:=mk [(2,[0,2,5,6,7])]}
abbrev FI:SD:=⟨.data false (.sl .arg dH)::B::DB::B::B::.data false (.sl .arg dH)::DI::DI::bs 10 [],zs 18 [],.none⟩
def Xv {R:Type}(X:SD.D FI)(K:Ex→AS→Option R):=Pu.yE (λy0=>ke 0 K FI ((z4 (u y0) X.1),X.2)) (λy0 y1=>kr K FI ((z1 (w y0 (z2 (u y1))) X.1),X.2)) X.1.1 X.1.2.1 (q2 X) (q3 X)
def aem:bG:=dG FI Xv q4
def agD:bP:=(bP.nil).add 2 aem
theorem acB:dx E aq5 alP agD (az Tryz.f269 0):=lk FI Xv q4 λX x=>((z4 (u x) X.1),X.2)
theorem aty:aC Tryz.prog 269 aia:=fk alP (base.add aue) Tryz.func269 (Λ:=agD) (cF acB nF)
def aix:aG:=au [pf (.sl cJ),pf fM] [rI] (c2 Pu.vX)
def arh:bH:=bH.nil
def al0:An:={mask:=mk [(2,[3,4,8,9,10])],merge:=mg [(4,23)]}
abbrev FR:SD:=⟨B::B::B::.ptr 3 0::DI::B::B::B::.data false (.sl .arg cJ)::DI::DI::bs 15 [],Z::Z::Z::(some (.pair (.int .i64) Y0))::zs 22 [],.none⟩
def XJ {R:Type}(X:SD.D FR)(K:Ex→AS→Option R):=Pu.qp (λy0=>ke 0 K FR ((z3 (u y0) X.1),X.2)) (λy0 y1=>kr K FR ((w y0 (z2 (u y1)) X.1),X.2)) X.1.1 X.1.2.1 (q2 X) X.2.1.1
def aeA:bG:=dG FR XJ q3
def agO:bP:=(bP.nil).add 2 aeA
theorem acP:dx E arh al0 agO (az Tryz.f333 0):=lk FR XJ q3 λX x=>((z3 (u x) X.1),X.2)
theorem auf:aC Tryz.prog 333 aix:=fk al0 base Tryz.func333 (Λ:=agO) (cF acP nF)
def aiJ:aG:=au [pf fM] [rI] (c1 Pu.sj)
def aru:bH:=bH.nil.add 194 abc
def amb:An:={mask:=mk [(3,[3,16,17,18])]}
abbrev J4:SD:=⟨B::B::B::DI::bs 12 (.data false (.sl (.own (some 196608)) (.int .i64))::DI::DI::bs 10 []),zs 29 [],.none⟩
def XW {R:Type}(X:SD.D J4)(K:Ex→AS→Option R):=Pu.jJ (λy0 y1=>ke 0 K J4 ((w y0 (z2 (u y1)) X.1),X.2)) X.1.2.1 (q2 X)
def aeN:bG:=dG J4 XW (λX=>(X.1.1,q3 X))
def agZ:bP:=(bP.nil).add 3 aeN
theorem ac2:dx E aru amb agZ (az Tryz.f378 0):=lk J4 XW (λX=>(X.1.1,q3 X)) λX x=>((w x.1 (z2 (u x.2)) X.1),X.2)
theorem auL:aC Tryz.prog 378 aiJ:=fk amb (base.add YZ) Tryz.func378 (Λ:=agZ) (cF ac2 nF)
def aiy:aG:=au [pf fM] [(false,(.sl (.own none) (.int .i64)))] (c1 Pu.xK)
def ari:bH:=bH.nil.add 378 aiJ
def al1:An:={mask:=mk [(3,[1,3,4])],mv:=[10,18]}
abbrev JV:SD:=⟨B::.ptr 1 0::B::.data false (.sl (.own (some 36864)) (.int .i64))::DI::bs 14 [],Z::(some (.pair (.int .i64) Y0))::zs 17 [],.none⟩
def XK {R:Type}(X:SD.D JV)(K:Ex→AS→Option R):=Pu.oe (λy0 y1=>ke 0 K JV ((w y0 (u y1) X.1),X.2)) X.2.1.1
def aeB:bG:=dG JV XK (λX=>(X.1.1,X.1.2.1))
def agP:bP:=(bP.nil).add 3 aeB
theorem acQ:dx E ari al1 agP (az Tryz.f334 0):=lk JV XK (λX=>(X.1.1,X.1.2.1)) λX x=>((w x.1 (u x.2) X.1),X.2)
theorem aug:aC Tryz.prog 334 aiy:=fk al1 (base.add auL) Tryz.func334 (Λ:=agP) (cF acQ nF)
def aib:aG:=au [pf (.sl cJ)] [rB] (c1 Pu.qh)
def ai3:bH:=((bH.nil.add 32 Oj).add 333 aix).add 334 aiy
def ae3:An:={mask:=mk [(4,[1,2,12,13,14]),(14,[1,2,3,12,13,14,49,50,51])],merge:=mg [(6,28),(9,40)]}
abbrev BU:SD:=⟨B::.ptr 1 0::DB::DI::bs 8 (.data false (.sl .arg cJ)::DI::DI::bs 34 (.data false (.sl (.own (some 602112)) (.int .i64))::DI::DI::bs 15 [])),Z::(some (.sl .arg cJ))::zs 65 [],.none⟩
def RN {R:Type}(X:SD.D BU)(K:Ex→AS→Option R):=Pu.gX (λy0=>ke 2 K BU ((z7 (u y0) X.1),X.2)) (λy0 y1=>kr K BU ((w y0 (z6 (u y1)) X.1),X.2)) X.1.1 X.1.2.1 (q2 X) (q3 X) (q4 X) (q5 X) (q6 X) X.2.1.1
def YU:bG:=dG BU RN q7
abbrev FJ:SD:=⟨B::.ptr 1 0::DB::bs 9 (.data false (.sl .arg cJ)::DI::DI::bs 52 []),Z::(some (.sl .arg cJ))::zs 65 [],.none⟩
def Xw {R:Type}(X:SD.D FJ)(K:Ex→AS→Option R):=Pu.oL (λy0=>ke 0 K FJ ((z3 (u y0) X.1),X.2)) (λy0 y1=>kr K FJ ((w y0 (z2 (u y1)) X.1),X.2)) X.1.1 X.1.2.1 (q2 X) X.2.1.1
def aen:bG:=dG FJ Xw q3
def aaP:bP:=((bP.nil).add 14 YU).add 4 aen
theorem YR:dx E ai3 ae3 aaP (az Tryz.f270 1):=lk BU RN q7 λX x=>((z7 (u x) X.1),X.2)
theorem acC:dx E ai3 ae3 aaP (az Tryz.f270 0):=lk FJ Xw q3 λX x=>((z3 (u x) X.1),X.2)
theorem atz:aC Tryz.prog 270 aib:=fk ae3 (((base.add yZ).add auf).add aug) Tryz.func270 (Λ:=aaP) (cF acC (cF YR nF))
def aiz:aG:=au [pI] [rB] (c1 Pu.zB)
theorem auh:aC Tryz.prog 335 aiz:=f0 {merge:=mg [(1,2)]} base Tryz.func335
def aic:aG:=au [pf lQ,pI] [rB] (c2 Pu.wF)
def aq6:bH:=(bH.nil.add 32 Oj).add 335 aiz
def alQ:An:={mask:=mk [(4,[1,4,24,25,26])],merge:=mg [(1,22)]}
abbrev FL:SD:=⟨B::DI::B::B::DB::bs 19 (.data false (.sl .arg (.int .i64))::DI::DI::bs 9 []),zs 36 [],.none⟩
def Xx {R:Type}(X:SD.D FL)(K:Ex→AS→Option R):=Pu.w5 (λy0=>ke 0 K FL ((z4 (u y0) X.1),X.2)) (λy0 y1=>kr K FL ((z1 (w y0 (z2 (u y1))) X.1),X.2)) X.1.1 X.1.2.1 (q2 X) (q3 X)
def aeo:bG:=dG FL Xx q4
def agE:bP:=(bP.nil).add 4 aeo
theorem acD:dx E aq6 alQ agE (az Tryz.f271 0):=lk FL Xx q4 λX x=>((z4 (u x) X.1),X.2)
theorem atA:aC Tryz.prog 271 aic:=fk alQ ((base.add yZ).add auh) Tryz.func271 (Λ:=agE) (cF acD nF)
def ahP:aG:=au [pf eg,pI] [rB] (c2 Pu.oK)
def ai2:bH:=((bH.nil.add 269 aia).add 270 aib).add 271 aic
def ae2:An:={mask:=mk [(4,[1,2,4,27,28,29]),(10,[1,4,45,46,47])],merge:=mg [(1,25),(6,41),(12,59)]}
abbrev Fp:SD:=⟨B::DI::.ptr 2 0::B::DB::bs 22 (.data false (.sl .arg dH)::DI::DI::bs 31 []),Z::Z::(some Y26)::zs 58 [],.none⟩
def W8 {R:Type}(X:SD.D Fp)(K:Ex→AS→Option R):=Pu.kH (λy0=>ke 0 K Fp ((z4 (u y0) X.1),X.2)) (λy0 y1=>kr K Fp ((z1 (w y0 (z2 (u y1))) X.1),X.2)) X.1.1 X.1.2.1 (q2 X) (q3 X) X.2.1.1
def adZ:bG:=dG Fp W8 q4
abbrev BT:SD:=⟨B::DI::B::B::DB::bs 40 (.data false (.sl .arg cJ)::DI::DI::bs 13 []),zs 61 [],.none⟩
def RM {R:Type}(X:SD.D BT)(K:Ex→AS→Option R):=Pu.js (λy0=>ke 2 K BT ((z4 (u y0) X.1),X.2)) (λy0 y1=>kr K BT ((z1 (w y0 (z2 (u y1))) X.1),X.2)) X.1.1 X.1.2.1 (q2 X) (q3 X)
def YT:bG:=dG BT RM q4
def aaO:bP:=((bP.nil).add 4 adZ).add 10 YT
theorem acb:dx E ai2 ae2 aaO (az Tryz.f187 0):=lk Fp W8 q4 λX x=>((z4 (u x) X.1),X.2)
theorem YQ:dx E ai2 ae2 aaO (az Tryz.f187 1):=lk BT RM q4 λX x=>((z4 (u x) X.1),X.2)
theorem asF:aC Tryz.prog 187 ahP:=fk ae2 (((base.add aty).add atz).add atA) Tryz.func187 (Λ:=aaO) (cF acb (cF YQ nF))
def e81:aG:=au [pf bL] [rB] (c1 Pu.mn)
def g81:bH:=((((((((bH.nil.add 32 Oj).add 180 aa8).add 181 aa9).add 182 ahN).add 183 aba).add 184 abb).add 185 T5).add 186 ahO).add 187 ahP
def n81:An:={mask:=mk [(5,[1,2,3,61,62]),(12,[1,2,3,103,104,105])],merge:=mg [(2,58),(7,89)]}
abbrev L4:SD:=⟨B::.ptr 1 0::DB::DI::bs 57 (DI::DI::bs 54 []),Z::(some Y2)::zs 115 [],.none⟩
def aaA {R:Type}(X:SD.D L4)(K:Ex→AS→Option R):=Pu.p9 (λy0=>ke 0 K L4 ((z3 (u y0) X.1),X.2)) (λy0 y1=>kr K L4 ((w y0 (z2 (u y1)) X.1),X.2)) X.1.1 X.1.2.1 (q2 X) X.2.1.1
def akE:bG:=dG L4 aaA q3
abbrev FZ:SD:=⟨B::.ptr 1 0::DB::DI::bs 99 (.data false (.sl (.own (some 1265664)) (.int .i64))::DI::DI::bs 11 []),Z::(some Y2)::zs 115 [],.none⟩
def X5 {R:Type}(X:SD.D FZ)(K:Ex→AS→Option R):=Pu.oI (λy0=>ke 2 K FZ ((z4 (u y0) X.1),X.2)) (λy0 y1=>kr K FZ ((w y0 (z3 (u y1)) X.1),X.2)) X.1.1 X.1.2.1 (q2 X) (q3 X) X.2.1.1
def aeW:bG:=dG FZ X5 q4
def L81:bP:=((bP.nil).add 5 akE).add 12 aeW
theorem ajO:dx E g81 n81 L81 (az Tryz.f81 0):=lk L4 aaA q3 λX x=>((z3 (u x) X.1),X.2)
theorem adb:dx E g81 n81 L81 (az Tryz.f81 1):=lk FZ X5 q4 λX x=>((z4 (u x) X.1),X.2)
theorem o81:aC Tryz.prog 81 e81:=fk n81 (((((((((base.add yZ).add afc).add amt).add asE).add afd).add afe).add SZ).add Vx).add asF) Tryz.func81 (Λ:=L81) (cF ajO (cF adb nF))
def anO:aG:=au [pd (.sl (.int .i64)),pd (.sl (.int .i64))] [rB] (c2 Pu.nw)
def aqJ:bH:=bH.nil
def als:An:={mask:=mk [(4,[0,1,4,12,13])]}
abbrev Fq:SD:=⟨.data false (.sl .arg (.int .i64))::.data false (.sl .arg (.int .i64))::B::B::DB::bs 7 (DI::DI::bs 12 []),zs 26 [],.none⟩
def W9 {R:Type}(X:SD.D Fq)(K:Ex→AS→Option R):=Pu.jx (λy0=>ke 0 K Fq ((z4 (u y0) X.1),X.2)) (λy0 y1=>kr K Fq ((z2 (w y0 (z1 (u y1))) X.1),X.2)) X.1.1 X.1.2.1 (q2 X) (q3 X)
def ad0:bG:=dG Fq W9 q4
def agh:bP:=(bP.nil).add 4 ad0
theorem acd:dx E aqJ als agh (az Tryz.f188 0):=lk Fq W9 q4 λX x=>((z4 (u x) X.1),X.2)
theorem asG:aC Tryz.prog 188 anO:=fk als base Tryz.func188 (Λ:=agh) (cF acd nF)
def e82:aG:=au [pf fu,pf fu] [rB] (c2 Pu.oO)
theorem o82:aC Tryz.prog 82 e82:=f0 {merge:=mg [(1,4)]} (base.add asG) Tryz.func82
def ahQ:aG:=au [pf dW] [rB] (c1 Pu.wE)
theorem asH:aC Tryz.prog 189 ahQ:=f0 {merge:=mg [(1,2)]} (base.add yZ) Tryz.func189
def e83:aG:=au [pd (.sl aB),pd (.sl jE)] [rB] (c2 Pu.m9)
def g83:bH:=((bH.nil.add 32 Oj).add 179 aa7).add 189 ahQ
def n83:An:={mask:=mk [(4,[0,1,4,12,13,14]),(9,[0,1,4,6,12,13,14,52,53,54])],merge:=mg [(6,49),(11,69)]}
abbrev L8:SD:=⟨.data false (.sl .arg aB)::.data false (.sl .arg jE)::B::B::DB::B::.ptr 6 0::bs 5 (.data false (.sl .arg aB)::DI::DI::bs 37 (.data false (.sl .arg aB)::DI::DI::bs 17 [])),zs 6 ((some Y25)::zs 65 []),.none⟩
def aaC {R:Type}(X:SD.D L8)(K:Ex→AS→Option R):=Pu.jo (λy0=>ke 2 K L8 ((z8 (u y0) X.1),X.2)) (λy0 y1=>kr K L8 ((z2 (w y0 (z5 (u y1))) X.1),X.2)) X.1.1 X.1.2.1 (q2 X) (q3 X) (q4 X) (q5 X) (q6 X) (q7 X) X.2.1.1
def akG:bG:=dG L8 aaC q8
abbrev L6:SD:=⟨.data false (.sl .arg aB)::.data false (.sl .arg jE)::B::B::DB::bs 7 (.data false (.sl .arg aB)::DI::DI::bs 57 []),zs 72 [],.none⟩
def aaB {R:Type}(X:SD.D L6)(K:Ex→AS→Option R):=Pu.jn (λy0=>ke 0 K L6 ((z5 (u y0) X.1),X.2)) (λy0 y1=>kr K L6 ((z2 (w y0 (z2 (u y1))) X.1),X.2)) X.1.1 X.1.2.1 (q2 X) (q3 X) (q4 X)
def akF:bG:=dG L6 aaB q5
def L83:bP:=((bP.nil).add 9 akG).add 4 akF
theorem ajQ:dx E g83 n83 L83 (az Tryz.f83 1):=lk L8 aaC q8 λX x=>((z8 (u x) X.1),X.2)
theorem ajP:dx E g83 n83 L83 (az Tryz.f83 0):=lk L6 aaB q5 λX x=>((z5 (u x) X.1),X.2)
theorem o83:aC Tryz.prog 83 e83:=fk n83 (((base.add yZ).add ams).add asH) Tryz.func83 (Λ:=L83) (cF ajP (cF ajQ nF))
def e84:aG:=au [pd (.sl aB)] [rB] (c1 Pu.qm)
def g84:bH:=bH.nil
def n84:An:={mask:=mk [(2,[2,5,6,7])],merge:=mg [(4,22)]}
abbrev L9:SD:=⟨B::B::DB::B::B::.data false (.sl .arg aB)::DI::DI::bs 16 [],zs 24 [],.none⟩
def aaD {R:Type}(X:SD.D L9)(K:Ex→AS→Option R):=Pu.lY (λy0=>ke 0 K L9 ((z3 (u y0) X.1),X.2)) (λy0 y1=>kr K L9 ((w y0 (z2 (u y1)) X.1),X.2)) X.1.1 X.1.2.1 (q2 X)
def akH:bG:=dG L9 aaD q3
def L84:bP:=(bP.nil).add 2 akH
theorem ajR:dx E g84 n84 L84 (az Tryz.f84 0):=lk L9 aaD q3 λX x=>((z3 (u x) X.1),X.2)
theorem o84:aC Tryz.prog 84 e84:=fk n84 base Tryz.func84 (Λ:=L84) (cF ajR nF)
def anP:aG:=au [pf (.sl .str)] [rB] (c1 Pu.xH)
theorem asI:aC Tryz.prog 190 anP:=f0 {merge:=mg [(1,2)]} base Tryz.func190
def aoH:aG:=au [pd .str,pI] [rI] (c2 Pu.fy)
theorem S3:aC Tryz.prog 272 aoH:=f0 {merge:=mg [(1,13)]} base Tryz.func272
def apl:aG:=au [pI] [rS] (c1 Pu.dC)
theorem Ng:aC Tryz.prog 336 apl:=f0 {} (base.add yZ) Tryz.func336
def apm:aG:=au [pd .str] [rI] (c1 Pu.xG)
def ai5:bH:=bH.nil
def ae5:An:={mask:=mk [(3,[0,3,4]),(7,[0,3,4,5])]}
abbrev JX:SD:=⟨.data false .str::B::B::.data false (.int .u32)::DI::DI::bs 28 [],zs 34 [],.none⟩
def XM {R:Type}(X:SD.D JX)(K:Ex→AS→Option R):=Pu.lu (λy0 y1=>ke 2 K JX ((z1 (w y0 (z1 (u y1))) X.1),X.2)) X.1.1 (q2 X)
def aeD:bG:=dG JX XM (λX=>(X.1.2.1,q3 X))
abbrev JW:SD:=⟨.data false .str::B::B::.data false (.int .u32)::DI::bs 29 [],zs 34 [],.none⟩
def XL {R:Type}(X:SD.D JW)(K:Ex→AS→Option R):=Pu.n8 (λy0 y1=>ke 0 K JW ((z1 (w y0 (u y1)) X.1),X.2)) X.1.1
def aeC:bG:=dG JW XL (λX=>(X.1.2.1,q2 X))
def aaR:bP:=((bP.nil).add 7 aeD).add 3 aeC
theorem acS:dx E ai5 ae5 aaR (az Tryz.f337 1):=lk JX XM (λX=>(X.1.2.1,q3 X)) λX x=>((z1 (w x.1 (z1 (u x.2))) X.1),X.2)
theorem acR:dx E ai5 ae5 aaR (az Tryz.f337 0):=lk JW XL (λX=>(X.1.2.1,q2 X)) λX x=>((z1 (w x.1 (u x.2)) X.1),X.2)
theorem aui:aC Tryz.prog 337 apm:=fk ae5 base Tryz.func337 (Λ:=aaR) (cF acR (cF acS nF))
def aoI:aG:=au [pI,pd .str] [rS,rB] (c2 Pu.qc)
theorem atB:aC Tryz.prog 273 aoI:=f0 {merge:=mg [(1,15)]} (((base.add yZ).add Ng).add aui) Tryz.func273
def anQ:aG:=au [pd .str] [rI] (c1 Pu.iG)
theorem asJ:aC Tryz.prog 191 anQ:=f0 {merge:=mg [(2,19),(5,38)]} ((base.add S3).add atB) Tryz.func191
def e85:aG:=au [pf (.sl .str)] [rI] (c1 Pu.se)
theorem o85:aC Tryz.prog 85 e85:=f0 {merge:=mg [(4,18)]} ((base.add asI).add asJ) Tryz.func85
def e86:aG:=au [pf dS] [rB] (c1 Pu.xF)
theorem o86:aC Tryz.prog 86 e86:=f0 {merge:=mg [(1,2)]} (base.add yZ) Tryz.func86
def e31:aG:=au [pf ef] [rB] (c1 Pu.vS)
def g31:bH:=((((((bH.nil.add 80 e80).add 81 e81).add 82 e82).add 83 e83).add 84 e84).add 85 e85).add 86 e86
def n31:An:={mask:=mk [(5,[1,2,3,34,35,36])],merge:=mg [(2,32),(7,55),(10,2)]}
abbrev LN:SD:=⟨B::.ptr 1 0::DB::.data false (.sl .loc jE)::bs 30 (.data false (.sl .arg bL)::DI::DI::bs 40 []),Z::(some Y13)::zs 75 [],.none⟩
def Z8 {R:Type}(X:SD.D LN)(K:Ex→AS→Option R):=Pu.p4 (λy0=>ke 0 K LN ((z4 (u y0) X.1),X.2)) (λy0 y1=>kr K LN ((w y0 (z3 (u y1)) X.1),X.2)) X.1.1 X.1.2.1 (q2 X) (q3 X) X.2.1.1
def akc:bG:=dG LN Z8 q4
def L31:bP:=(bP.nil).add 5 akc
theorem ajm:dx E g31 n31 L31 (az Tryz.f31 0):=lk LN Z8 q4 λX x=>((z4 (u x) X.1),X.2)
theorem o31:aC Tryz.prog 31 e31:=fk n31 (((((((base.add o80).add o81).add o82).add o83).add o84).add o85).add o86) Tryz.func31 (Λ:=L31) (cF ajm nF)
def aiK:aG:=au [pd (.sl aX),pI,pI,pd .bool] [rI] (c4 Pu.xJ)
theorem auM:aC Tryz.prog 379 aiK:=f0 {merge:=mg [(4,29)]} (base.add amG) Tryz.func379
def Ys:aG:=au [pf (.sl .str),pI,pI] [rB] (c3 Pu.pD)
theorem afs:aC Tryz.prog 380 Ys:=f0 {merge:=mg [(2,6)]} (base.add afc) Tryz.func380
def abj:aG:=au [pd (.sl aX),pf (.sl .str),pI,pI,pI,pd .bool] [(false,(.sl (.own none) (.pair (.int .i64) (.int .i64)))),rB] (c6 Pu.s8)
def arj:bH:=((((bH.nil.add 32 Oj).add 180 aa8).add 181 aa9).add 379 aiK).add 380 Ys
def al2:An:={mask:=mk [(8,[0,2,3,4,5,7,12,13,14])],merge:=mg [(1,29),(11,55),(16,73)],mv:=[56,74]}
abbrev FU:SD:=⟨.data false (.sl .arg aX)::B::DI::DI::DI::DB::B::.ptr 7 0::bs 4 (.data false (.sl (.own (some 147456)) (.pair (.int .i64) (.int .i64)))::DB::.data false (.sl (.own (some 172032)) (.pair (.int .i64) (.int .i64)))::bs 60 []),zs 7 ((some (.sl .arg .str))::zs 67 []),.none⟩
def XN {R:Type}(X:SD.D FU)(K:Ex→AS→Option R):=Pu.mu (λy0 y1 y2=>ke 0 K FU ((z2 (w y0 (w y1 (z3 (u y2)))) X.1),X.2)) (λy0 y1 y2 y3 y4=>kr K FU ((z2 (w y0 (w y1 (z1 (w y2 (w y3 (u y4)))))) X.1),X.2)) X.1.1 X.1.2.1 (q4 X) (q5 X) (q6 X) X.2.1.1
def aeE:bG:=dG FU XN (λX=>(q2 X,q3 X,q7 X))
def agQ:bP:=(bP.nil).add 8 aeE
theorem acT:dx E arj al2 agQ (az Tryz.f338 0):=lk FU XN (λX=>(q2 X,q3 X,q7 X)) λX x=>((z2 (w x.1 (w x.2.1 (z3 (u x.2.2)))) X.1),X.2)
theorem amV:aC Tryz.prog 338 abj:=fk al2 (((((base.add yZ).add afc).add amt).add auM).add afs) Tryz.func338 (Λ:=agQ) (cF acT nF)
def aiA:aG:=au [pf (.sl .str),pI,pI] [rS,rB] (c3 Pu.k9)
def ark:bH:=bH.nil.add 380 Ys
def al3:An:={mask:=mk [(4,[1,2,3,8])],mv:=[41]}
abbrev JY:SD:=⟨B::DI::DI::.ptr 3 0::bs 4 (.data false (.sl (.own (some 98304)) (.int .u8))::bs 41 []),Z::Z::Z::(some (.sl .arg .str))::zs 46 [],.none⟩
def XO {R:Type}(X:SD.D JY)(K:Ex→AS→Option R):=Pu.hC (λy0 y1=>ke 0 K JY ((w y0 (z1 (u y1)) X.1),X.2)) X.1.2.1 X.2.1.1
def aeF:bG:=dG JY XO (λX=>(X.1.1,q2 X))
def agR:bP:=(bP.nil).add 4 aeF
theorem acU:dx E ark al3 agR (az Tryz.f339 0):=lk JY XO (λX=>(X.1.1,q2 X)) λX x=>((w x.1 (z1 (u x.2)) X.1),X.2)
theorem auj:aC Tryz.prog 339 aiA:=fk al3 (base.add afs) Tryz.func339 (Λ:=agR) (cF acU nF)
def aid:aG:=au [pd (.sl aX),pf (.sl .str),pI,pI,pI] [rS,rB] (c5 Pu.m7)
def aq7:bH:=(bH.nil.add 338 abj).add 339 aiA
def alR:An:={mask:=mk [(6,[6,14,30,31,32])]}
abbrev JO:SD:=⟨bs 6 (.ptr 6 0::bs 7 (.data false .str::bs 15 (.data false (.sl .loc (.pair (.int .i64) (.int .i64)))::DI::DI::bs 17 []))),zs 6 ((some (.sl .arg .str))::zs 43 []),.none⟩
def Xy {R:Type}(X:SD.D JO)(K:Ex→AS→Option R):=Pu.oH (λy0 y1=>ke 0 K JO ((w y0 (z2 (u y1)) X.1),X.2)) X.1.2.1 (q2 X) X.2.1.1
def aep:bG:=dG JO Xy (λX=>(X.1.1,q3 X))
def agF:bP:=(bP.nil).add 6 aep
theorem acE:dx E aq7 alR agF (az Tryz.f275 0):=lk JO Xy (λX=>(X.1.1,q3 X)) λX x=>((w x.1 (z2 (u x.2)) X.1),X.2)
theorem afl:aC Tryz.prog 275 aid:=fk alR ((base.add amV).add auj) Tryz.func275 (Λ:=agF) (cF acE nF)
def aoK:aG:=au [pf dS,pI] [rI] (c2 Pu.jK)
theorem amJ:aC Tryz.prog 276 aoK:=f0 {merge:=mg [(1,11)]} (base.add S2) Tryz.func276
def anR:aG:=au [pd (.sl aX),pf (.sl .str),pI,pf dS] [rS,(true,Y0),rB] (c4 Pu.sq)
theorem asK:aC Tryz.prog 192 anR:=f0 {merge:=mg [(1,20)],sb:=mg [(9,9)]} ((((base.add S2).add afk).add afl).add amJ) Tryz.func192
def apn:aG:=au [pd .str,pI] [rI] (c2 Pu.dL)
theorem Vy:aC Tryz.prog 340 apn:=f0 {merge:=mg [(1,13)]} base Tryz.func340
def apF:aG:=au [pI] [rS] (c1 Pu.bQ)
theorem HN:aC Tryz.prog 358 apF:=f0 {} (base.add yZ) Tryz.func358
def apR:aG:=au [pf H2] [rB] (c1 Pu.vT)
theorem auN:aC Tryz.prog 381 apR:=f0 {merge:=mg [(1,2)]} (base.add yZ) Tryz.func381
def aiB:aG:=au [pf H2] [rS] (c1 Pu.k6)
theorem amW:aC Tryz.prog 341 aiB:=f0 {} (((base.add Ng).add HN).add auN) Tryz.func341
def aoL:aG:=au [pd .str] [(true,Y35),rB] (c1 Pu.oG)
theorem atC:aC Tryz.prog 277 aoL:=f0 {sb:=mg [(4,4)]} (((base.add S3).add Vy).add amW) Tryz.func277
def apS:aG:=au [pf gF] [rS] (c1 Pu.ni)
theorem auO:aC Tryz.prog 382 apS:=f0 {} ((base.add Ng).add HN) Tryz.func382
def apT:aG:=au [pI,pI,pI,pI] [rS,rB] (c4 Pu.qf)
theorem auP:aC Tryz.prog 383 apT:=f0 {merge:=mg [(1,27)]} (((base.add yZ).add Ng).add HN) Tryz.func383
def aiP:aG:=au [pI,pI] [rI] (c2 Pu.tW)
theorem au7:aC Tryz.prog 405 aiP:=f0 {merge:=mg [(1,12)]} (base.add yZ) Tryz.func405
def ap7:aG:=au [pd .str] [rI] (c1 Pu.sr)
def arz:bH:=bH.nil.add 405 aiP
def amg:An:={mask:=mk [(3,[0,3,4])]}
abbrev J9:SD:=⟨.data false .str::B::B::DI::DI::bs 28 [],zs 33 [],.none⟩
def X1 {R:Type}(X:SD.D J9)(K:Ex→AS→Option R):=Pu.ng (λy0 y1=>ke 0 K J9 ((z1 (w y0 (u y1)) X.1),X.2)) X.1.1
def aeS:bG:=dG J9 X1 (λX=>(X.1.2.1,q2 X))
def ag7:bP:=(bP.nil).add 3 aeS
theorem ac7:dx E arz amg ag7 (az Tryz.f401 0):=lk J9 X1 (λX=>(X.1.2.1,q2 X)) λX x=>((z1 (w x.1 (u x.2)) X.1),X.2)
theorem au3:aC Tryz.prog 401 ap7:=fk amg (base.add au7) Tryz.func401 (Λ:=ag7) (cF ac7 nF)
def apU:aG:=au [pd .str] [rI] (c1 Pu.n6)
theorem am5:aC Tryz.prog 384 apU:=f0 {} (base.add au3) Tryz.func384
def apV:aG:=au [pd .str,pI,pd .str] [rS] (c3 Pu.ly)
theorem am6:aC Tryz.prog 385 apV:=f0 {merge:=mg [(1,17)]} base Tryz.func385
def apW:aG:=au [pI] [rI] (c1 Pu.od)
theorem auQ:aC Tryz.prog 386 apW:=f0 {} base Tryz.func386
def apo:aG:=au [pI,pI,pf gF] [rS,rB] (c3 Pu.gq)
theorem amX:aC Tryz.prog 342 apo:=f0 {merge:=mg [(8,39)]} (((((((base.add amU).add HN).add auO).add auP).add am5).add am6).add auQ) Tryz.func342
def ap8:aG:=au [pf ZK] [rB] (c1 Pu.Dc)
theorem au4:aC Tryz.prog 402 ap8:=f0 {merge:=mg [(1,2)]} (base.add yZ) Tryz.func402
def apX:aG:=au [pf ZK] [rS,rB] (c1 Pu.sm)
theorem auR:aC Tryz.prog 387 apX:=f0 {} (((((base.add Ng).add HN).add am5).add am6).add au4) Tryz.func387
def apq:aG:=au [pf ZK] [rS,rB] (c1 Pu.pZ)
theorem amY:aC Tryz.prog 343 apq:=f0 {} (base.add auR) Tryz.func343
def apY:aG:=au [pf RU] [rB] (c1 Pu.u4)
theorem am7:aC Tryz.prog 388 apY:=f0 {merge:=mg [(1,2)]} (base.add yZ) Tryz.func388
def apZ:aG:=au [pI] [rS] (c1 Pu.sy)
theorem auS:aC Tryz.prog 389 apZ:=f0 {} ((base.add Ng).add HN) Tryz.func389
def apr:aG:=au [pf RU] [rS,rB] (c1 Pu.sf)
theorem auk:aC Tryz.prog 344 apr:=f0 {} (((base.add HN).add am7).add auS) Tryz.func344
def ap0:aG:=au [pd (.int .u8),pI] [rS] (c2 Pu.vW)
def arv:bH:=bH.nil
def amc:An:={mask:=mk [(3,[0,5,10,11])]}
abbrev J5:SD:=⟨.data false (.int .u8)::bs 4 (.data false (.sl (.own (some 61440)) (.int .u8))::bs 4 (DI::DI::bs 9 [])),zs 21 [],.none⟩
def XX {R:Type}(X:SD.D J5)(K:Ex→AS→Option R):=Pu.qo (λy0 y1=>ke 0 K J5 ((z1 (w y0 (z1 (u y1))) X.1),X.2)) X.1.1 (q2 X)
def aeO:bG:=dG J5 XX (λX=>(X.1.2.1,q3 X))
def ag3:bP:=(bP.nil).add 3 aeO
theorem ac3:dx E arv amc ag3 (az Tryz.f390 0):=lk J5 XX (λX=>(X.1.2.1,q3 X)) λX x=>((z1 (w x.1 (z1 (u x.2))) X.1),X.2)
theorem auT:aC Tryz.prog 390 ap0:=fk amc base Tryz.func390 (Λ:=ag3) (cF ac3 nF)
def aps:aG:=au [pd .str] [rS] (c1 Pu.tY)
theorem aul:aC Tryz.prog 345 aps:=f0 {} (base.add auT) Tryz.func345
def aoM:aG:=au [pf ga] [rS,rB] (c1 Pu.oF)
theorem atD:aC Tryz.prog 278 aoM:=f0 {} (((((base.add Zb).add amX).add amY).add auk).add aul) Tryz.func278
def aiL:aG:=au [pf (.sl .str),pI,pd .str] [(true,(.sl (.own none) .str)),rB] (c3 Pu.nh)
def arw:bH:=(bH.nil.add 169 R9).add 380 Ys
def amd:An:={mask:=mk [(4,[1,2,6,8])],nest:=[33],mv:=[19,49]}
abbrev J6:SD:=⟨B::DI::.data false .str::B::B::B::.ptr 6 0::B::.ptr 8 0::bs 41 [],zs 6 ((some (.sl (.own (some 73729)) .str))::Z::(some (.sl (.own (some 98305)) .str))::zs 41 []),.none⟩
def XY {R:Type}(X:SD.D J6)(K:Ex→AS→Option R):=Pu.ju (λy0 y1 y2=>ke 0 K J6 ((w y0 (u y1) X.1),(z1 (u y2) X.2.1),X.2.2)) X.2.1.1
def aeP:bG:=dG J6 XY (λX=>(X.1.1,X.1.2.1,X.2.1.2.1))
def ag4:bP:=(bP.nil).add 4 aeP
theorem ac4:dx E arw amd ag4 (az Tryz.f391 0):=lk J6 XY (λX=>(X.1.1,X.1.2.1,X.2.1.2.1)) λX x=>((w x.1 (u x.2.1) X.1),(z1 (u x.2.2) X.2.1),X.2.2)
theorem auU:aC Tryz.prog 391 aiL:=fk amd ((base.add Nd).add afs) Tryz.func391 (Λ:=ag4) (cF ac4 nF)
def apt:aG:=au [pd (.sl aX),pf (.sl .str),pI,pI,pd .str,pd .bool] [(true,(.sl (.own none) .str)),rB] (c6 Pu.Ch)
def arl:bH:=((bH.nil.add 169 R9).add 338 abj).add 391 aiL
def al4:An:={mask:=mk [(6,[4,12,14,35,36,37])],mv:=[34,41,50,57],sb:=mg [(14,14)]}
abbrev JZ:SD:=⟨bs 4 (.data false .str::bs 7 (.ptr 12 0::B::.ptr 14 0::bs 20 (.data false (.sl .loc (.pair (.int .i64) (.int .i64)))::DI::DI::bs 20 []))),zs 12 ((some (.sl (.own (some 147457)) .str))::Z::(some (.sl (.own (some 172033)) .str))::zs 43 []),.none⟩
def XP {R:Type}(X:SD.D JZ)(K:Ex→AS→Option R):=Pu.s7 (λy0 y1 y2=>ke 0 K JZ ((w y0 (z2 (u y1)) X.1),(z1 (u y2) X.2.1),X.2.2)) X.1.2.1 (q2 X) X.2.1.1
def aeG:bG:=dG JZ XP (λX=>(X.1.1,q3 X,X.2.1.2.1))
def agS:bP:=(bP.nil).add 6 aeG
theorem acV:dx E arl al4 agS (az Tryz.f346 0):=lk JZ XP (λX=>(X.1.1,q3 X,X.2.1.2.1)) λX x=>((w x.1 (z2 (u x.2.1)) X.1),(z1 (u x.2.2) X.2.1),X.2.2)
theorem aum:aC Tryz.prog 346 apt:=fk al4 (((base.add Nd).add amV).add auU) Tryz.func346 (Λ:=agS) (cF acV nF)
def aoN:aG:=au [pd (.sl aX),pf (.sl .str),pI,pI,pd .str] [(true,(.sl (.own none) .str)),rB] (c5 Pu.lv)
theorem afm:aC Tryz.prog 279 aoN:=f0 {} (base.add aum) Tryz.func279
def abl:aG:=au [pd .str,pI] [rI] (c2 Pu.s6)
theorem am8:aC Tryz.prog 392 abl:=f0 {} base Tryz.func392
def aiM:aG:=au [pd .str,pI] [rI] (c2 Pu.qa)
def arx:bH:=(bH.nil.add 32 Oj).add 392 abl
def ame:An:={mask:=mk [(5,[0,1,5,6])],merge:=mg [(1,14)]}
abbrev J7:SD:=⟨.data false .str::DI::B::B::B::DI::DI::bs 22 [],zs 29 [],.none⟩
def XZ {R:Type}(X:SD.D J7)(K:Ex→AS→Option R):=Pu.lT (λy0 y1=>ke 0 K J7 ((z2 (w y0 (u y1)) X.1),X.2)) X.1.1 X.1.2.1
def aeQ:bG:=dG J7 XZ (λX=>(q2 X,q3 X))
def ag5:bP:=(bP.nil).add 5 aeQ
theorem ac5:dx E arx ame ag5 (az Tryz.f393 0):=lk J7 XZ (λX=>(q2 X,q3 X)) λX x=>((z2 (w x.1 (u x.2)) X.1),X.2)
theorem auV:aC Tryz.prog 393 aiM:=fk ame ((base.add yZ).add am8) Tryz.func393 (Λ:=ag5) (cF ac5 nF)
def apu:aG:=au [pd .str,pd .str] [rI] (c2 Pu.p6)
def arn:bH:=(bH.nil.add 392 abl).add 393 aiM
def al5:An:={mask:=mk [(5,[0,1,5,6])],merge:=mg [(1,14)]}
abbrev J0:SD:=⟨.data false .str::.data false .str::B::B::B::DI::DI::bs 25 [],zs 32 [],.none⟩
def XQ {R:Type}(X:SD.D J0)(K:Ex→AS→Option R):=Pu.lR (λy0 y1=>ke 0 K J0 ((z2 (w y0 (u y1)) X.1),X.2)) X.1.1 X.1.2.1
def aeH:bG:=dG J0 XQ (λX=>(q2 X,q3 X))
def agT:bP:=(bP.nil).add 5 aeH
theorem acW:dx E arn al5 agT (az Tryz.f347 0):=lk J0 XQ (λX=>(q2 X,q3 X)) λX x=>((z2 (w x.1 (u x.2)) X.1),X.2)
theorem aun:aC Tryz.prog 347 apu:=fk al5 ((base.add am8).add auV) Tryz.func347 (Λ:=agT) (cF acW nF)
def apv:aG:=au [pf fM] [rS] (c1 Pu.p7)
theorem auo:aC Tryz.prog 348 apv:=f0 {} ((base.add Ng).add HN) Tryz.func348
def aoO:aG:=au [pd .str,pf fM] [rI] (c2 Pu.si)
theorem atE:aC Tryz.prog 280 aoO:=f0 {} ((base.add aun).add auo) Tryz.func280
def aoP:aG:=au [pf ga] [(true,(.pair (.int .i64) Y0))] (c1 Pu.vU)
theorem amK:aC Tryz.prog 281 aoP:=f0 {} base Tryz.func281
def apw:aG:=au [pf fM] [rB] (c1 Pu.iE)
theorem amZ:aC Tryz.prog 349 apw:=f0 {merge:=mg [(1,2)]} (base.add yZ) Tryz.func349
def apx:aG:=au [pf dW] [rI] (c1 Pu.jN)
theorem am0:aC Tryz.prog 350 apx:=f0 {} base Tryz.func350
def apy:aG:=au [pf fM,pI] [rS] (c2 Pu.ie)
theorem aup:aC Tryz.prog 351 apy:=f0 {merge:=mg [(1,12)]} ((((base.add yZ).add Ng).add amZ).add HN) Tryz.func351
def apz:aG:=au [pf dW] [rI] (c1 Pu.qn)
theorem am1:aC Tryz.prog 352 apz:=f0 {} base Tryz.func352
def aoQ:aG:=au [pd (.sl aX),pf (.sl .str),pI,pf dW,pf fM] [(true,(.sl (.own none) .str)),(true,Lr),rB] (c5 Pu.kF)
theorem atG:aC Tryz.prog 282 aoQ:=f0 {merge:=mg [(1,22)],mv:=[26,37,41,51],mb:=mg [(41,13),(51,13)],sb:=mg [(10,10),(11,11),(13,13)]} (((((((base.add Nd).add afj).add afm).add amZ).add am0).add aup).add am1) Tryz.func282
def anS:aG:=OI [pd (.sl aX),pf (.sl .str),pI,pf bk,pd .str,pd .str] [(true,(.sl (.own none) .str)),(true,Lr),rB] [(true,(.sl .arg .str)),(true,Lr),rB] rfl λa=>Pu.qq a.1 a.2.1 a.2.2.1 a.2.2.2.1 a.2.2.2.2.1 a.2.2.2.2.2.1
theorem asL:aC Tryz.prog 193 anS:=aC.ofAlt (aiR (an:={merge:=mg [(3,50)],sb:=mg [(12,12),(13,13),(20,20)]}) (Λ:=bP.nil) (by rfl) ((((((base.add atC).add atD).add afm).add atE).add amK).add atG) Tryz.func193 (by kernel_rfl) (hF (by kernel_rfl) nF)) (λa=>by kernel_rfl)
def e87:aG:=au [pd (.sl aX),pf (.sl .str),pI,pf bk,pd .str] [(true,(.sl (.own none) .str)),(true,Y4)] (c5 Pu.p5)
theorem o87:aC Tryz.prog 87 e87:=f0 {merge:=mg [(1,31)],mv:=[52,66],mb:=mg [(66,16)],sb:=mg [(10,10),(11,11)]} ((((base.add Nd).add afe).add asK).add asL) Tryz.func87
def anU:aG:=au [pf bN] [(true,Y7)] (c1 Pu.kK)
theorem aff:aC Tryz.prog 197 anU:=f0 {merge:=mg [(1,9)]} (base.add amI) Tryz.func197
def ahR:aG:=au [pf bN] [(true,Y7)] (c1 Pu.sc)
theorem asM:aC Tryz.prog 195 ahR:=f0 {} ((base.add Vx).add aff) Tryz.func195
def e88:aG:=F4 bL [pI,pI] [] λx a=>Pu.mr x a.1 a.2.1
def g88:bH:=(bH.nil.add 194 abc).add 195 ahR
def n88:An:={mask:=mk [(2,[0,1,7])]}
abbrev QU:SD:=⟨.ptr 0 0::DI::bs 5 (DI::bs 34 []),(some Y14)::zs 41 [],.ptr⟩
def aaE {R:Type}(X:SD.D QU)(K:Ex→AS→Option R):=Pu.lV (λy0 y1=>ke 0 K QU ((z1 (u y0) X.1),(u y1 X.2.1),X.2.2)) X.1.1
def akI:bG:=dG QU aaE (λX=>(X.1.2.1,X.2.1.1))
def L88:bP:=(bP.nil).add 2 akI
theorem ajS:dx E g88 n88 L88 (az Tryz.f88 0):=lk QU aaE (λX=>(X.1.2.1,X.2.1.1)) λX x=>((z1 (u x.1) X.1),(u x.2 X.2.1),X.2.2)
theorem o88:aC Tryz.prog 88 e88:=aC.Vz (Uv (Γ:=g88) (an:=n88) (Λ:=L88) ((base.add YZ).add asM) Tryz.func88 (by kernel_rfl) (hF (by kernel_rfl) (cF ajS nF))) (λx a=>by kernel_rfl)
def e33:aG:=au [pf bL] [(true,Y1)] (c1 Pu.p8)
def g33:bH:=(((bH.nil.add 79 e79).add 81 e81).add 87 e87).add 88 e88
def n33:An:={mask:=mk [(5,[1,2,3,13,14])],mv:=[10,17,35,49],sb:=mg [(37,3)]}
abbrev QH:SD:=⟨B::.ptr 1 0::.ptr 2 0::.ptr 3 0::bs 9 (DI::DI::bs 35 []),Z::(some Y2)::(some Y3)::(some Y5)::zs 46 [],.none⟩
def Z9 {R:Type}(X:SD.D QH)(K:Ex→AS→Option R):=Pu.lS (λy0 y1=>ke 0 K QH ((z1 (u y0) X.1),(z2 (u y1) X.2.1),X.2.2)) X.1.1 X.2.1.1 X.2.1.2.1
def akd:bG:=dG QH Z9 (λX=>(X.1.2.1,X.2.1.2.2.1))
def L33:bP:=(bP.nil).add 5 akd
theorem ajn:dx E g33 n33 L33 (az Tryz.f33 0):=lk QH Z9 (λX=>(X.1.2.1,X.2.1.2.2.1)) λX x=>((z1 (u x.1) X.1),(z2 (u x.2) X.2.1),X.2.2)
theorem o33:aC Tryz.prog 33 e33:=fk n33 ((((base.add o79).add o81).add o87).add o88) Tryz.func33 (Λ:=L33) (cF ajn nF)
def e89:aG:=au [pf bN] [(true,Y7),rB] (c1 Pu.kJ)
theorem o89:aC Tryz.prog 89 e89:=f0 {merge:=mg [(1,11)]} (base.add Vx) Tryz.func89
def apA:aG:=au [pd .str] [(true,(.pair (.int .i64) Y0)),rI,rB] (c1 Pu.ic)
theorem auq:aC Tryz.prog 353 apA:=f0 {} ((base.add S3).add Vy) Tryz.func353
def aie:aG:=au [pd (.sl aX),pf (.sl .str),pI,pf dW] [(true,(.pair (.int .i64) Y0)),(true,Lr),rB] (c4 Pu.jr)
theorem atH:aC Tryz.prog 283 aie:=f0 {merge:=mg [(7,46)],sb:=mg [(8,8),(9,9)]} (((((base.add afj).add afl).add am0).add am1).add auq) Tryz.func283
def abi:aG:=au [pf cE,pI] [rI] (c2 Pu.g9)
theorem amL:aC Tryz.prog 284 abi:=f0 {merge:=mg [(1,15)]} ((base.add yZ).add SZ) Tryz.func284
def apB:aG:=au [pd .str] [(true,Y34),rB] (c1 Pu.sn)
theorem aur:aC Tryz.prog 354 apB:=f0 {merge:=mg [(4,33)],sb:=mg [(4,4)]} (((base.add S3).add Vy).add am7) Tryz.func354
def apC:aG:=au [pd .str] [(true,Y6),rB] (c1 Pu.tZ)
theorem aus:aC Tryz.prog 355 apC:=f0 {merge:=mg [(2,22),(6,56)],sb:=mg [(5,5)]} (((base.add S3).add Vy).add amY) Tryz.func355
def apD:aG:=au [pI,pI,pI,pd .str] [(true,(.pair (.int .i64) Y6)),rB] (c4 Pu.lU)
theorem aut:aC Tryz.prog 356 apD:=f0 {merge:=mg [(3,20),(9,44),(12,68)]} (((base.add S3).add Vy).add amX) Tryz.func356
def aif:aG:=au [pd .str] [(true,Y19),rI] (c1 Pu.qg)
theorem atI:aC Tryz.prog 285 aif:=f0 {merge:=mg [(2,20)]} ((((base.add Zb).add aur).add aus).add aut) Tryz.func285
def apE:aG:=au [pd (.sl bg),pf fM] [rI] (c2 Pu.nf)
def aro:bH:=bH.nil
def al6:An:={mask:=mk [(2,[3,4,7,8,9])]}
abbrev FV:SD:=⟨B::B::B::.ptr 3 0::DI::B::B::.data false (.sl .arg bg)::DI::DI::bs 10 [],Z::Z::Z::(some (.pair (.int .i64) Y0))::zs 16 [],.none⟩
def XR {R:Type}(X:SD.D FV)(K:Ex→AS→Option R):=Pu.jt (λy0=>ke 0 K FV ((z3 (u y0) X.1),X.2)) (λy0 y1=>kr K FV ((w y0 (z2 (u y1)) X.1),X.2)) X.1.1 X.1.2.1 (q2 X) X.2.1.1
def aeI:bG:=dG FV XR q3
def agU:bP:=(bP.nil).add 2 aeI
theorem acX:dx E aro al6 agU (az Tryz.f357 0):=lk FV XR q3 λX x=>((z3 (u x) X.1),X.2)
theorem auu:aC Tryz.prog 357 apE:=fk al6 base Tryz.func357 (Λ:=agU) (cF acX nF)
def aih:aG:=au [pd (.sl bg),pf ga] [(false,(.sl (.own none) bg))] (c2 Pu.tX)
theorem atJ:aC Tryz.prog 286 aih:=f0 {merge:=mg [(17,82)],mv:=[16,31,51,58,67,83,132],er:=mg [(115,5)]} ((((((base.add afb).add YZ).add Zb).add amK).add auu).add HN) Tryz.func286
def ap1:aG:=au [pf dS] [rI] (c1 Pu.so)
theorem auW:aC Tryz.prog 394 ap1:=f0 {} ((base.add S2).add afk) Tryz.func394
def aiC:aG:=au [pd (.sl aX),pf (.sl .str),pI,pf dS,pd .str] [(true,(.sl (.own none) .str)),(true,Y0),rB] (c5 Pu.ub)
theorem auv:aC Tryz.prog 359 aiC:=f0 {merge:=mg [(1,22)],mv:=[26,36,40,50],mb:=mg [(40,13),(50,13)],sb:=mg [(10,10),(11,11),(13,13)]} ((((base.add Nd).add amJ).add afm).add auW) Tryz.func359
def aii:aG:=au [pd (.sl aX),pf (.sl .str),pI,pf dS,pf cE] [(true,(.sl (.own none) .str)),(true,Y0),(true,Y8),rI] (c5 Pu.sg)
def aq8:bH:=(((((((bH.nil.add 77 e77).add 169 R9).add 172 Yq).add 185 T5).add 264 abg).add 284 abi).add 341 aiB).add 359 aiC
def alS:An:={mask:=mk [(6,[0,2,8,9,10,11,12,14,15,16,39,40,41])],merge:=mg [(2,34)],mv:=[35,37,53,65,76,78],mb:=mg [(35,14),(37,15),(65,20),(76,14),(78,15)],sb:=mg [(8,8),(10,10),(11,11),(12,12),(14,14),(15,15)]}
abbrev JP:SD:=⟨.data false (.sl .arg aX)::B::DI::bs 5 (.ptr 8 0::.ptr 9 0::.ptr 10 0::.ptr 11 0::.ptr 12 0::B::.ptr 14 0::.ptr 15 0::DI::bs 22 (.data false (.sl .arg (.int .i64))::DI::DI::bs 38 [])),zs 8 ((some Y0)::(some Y22)::(some (.sl (.own (some 122881)) .str))::(some Y0)::(some Y33)::Z::(some (.sl (.own (some 172033)) .str))::(some Y32)::zs 64 []),.none⟩
def Xz {R:Type}(X:SD.D JP)(K:Ex→AS→Option R):=Pu.jI (λy0 y1 y2 y3=>ke 0 K JP ((z2 (w y0 (z2 (u y1))) X.1),(w y2 (z4 (u y3)) X.2.1),X.2.2)) X.1.1 X.1.2.1 (q3 X) (q4 X) X.2.1.2.1 X.2.1.2.2.1 X.2.1.2.2.2.1 X.2.1.2.2.2.2.1 X.2.1.2.2.2.2.2.2.1
def aeq:bG:=dG JP Xz (λX=>(q2 X,q5 X,X.2.1.1,X.2.1.2.2.2.2.2.1))
def agG:bP:=(bP.nil).add 6 aeq
theorem acF:dx E aq8 alS agG (az Tryz.f287 0):=lk JP Xz (λX=>(q2 X,q5 X,X.2.1.1,X.2.1.2.2.2.2.2.1)) λX x=>((z2 (w x.1 (z2 (u x.2.1))) X.1),(w x.2.2.1 (z4 (u x.2.2.2)) X.2.1),X.2.2)
theorem atK:aC Tryz.prog 287 aii:=fk alS ((((((((base.add o77).add Nd).add Vw).add SZ).add S2).add amL).add amW).add auv) Tryz.func287 (Λ:=agG) (cF acF nF)
def anT:aG:=au [pd (.sl aX),pf (.sl .str),pI,pf bk,pf cE,pd (.sl bg),pI] [(true,(.sl (.own none) .str)),(true,Y4),(true,Y8),(false,(.sl (.own none) bg)),rI] (c7 Pu.qd)
def aqK:bH:=((((((((((((bH.nil.add 32 Oj).add 169 R9).add 172 Yq).add 175 aa5).add 184 abb).add 185 T5).add 265 abh).add 275 aid).add 283 aie).add 284 abi).add 285 aif).add 286 aih).add 287 aii
def alu:An:={mask:=mk [(5,[0,2,6,10,14,15,16,19,20,21,22])],merge:=mg [(2,48)],mv:=[49,51,52,96,104,117,119,120],mb:=mg [(49,19),(51,20),(117,19),(119,20)],sb:=mg [(14,14),(15,15),(16,16),(19,19),(20,20)]}
abbrev JI:SD:=⟨.data false (.sl .arg aX)::B::DI::B::B::B::DI::B::B::B::.ptr 10 0::B::B::B::.ptr 14 0::.ptr 15 0::.ptr 16 0::B::B::.ptr 19 0::.ptr 20 0::.data false (.sl (.own (some 258048)) bg)::DI::bs 99 [],zs 10 ((some Y4)::Z::Z::Z::(some (.sl (.own (some 172033)) .str))::(some Y4)::(some Y31)::Z::Z::(some (.sl (.own (some 233473)) .str))::(some Y30)::zs 101 []),.none⟩
def Xa {R:Type}(X:SD.D JI)(K:Ex→AS→Option R):=Pu.iH (λy0 y1 y2 y3=>ke 0 K JI ((z3 (w y0 (u y1)) X.1),(w y2 (z4 (u y3)) X.2.1),X.2.2)) X.1.1 X.1.2.1 (q2 X) X.2.1.2.1 X.2.1.2.2.1 X.2.1.2.2.2.1 X.2.1.2.2.2.2.1
def ad1:bG:=dG JI Xa (λX=>(q3 X,q4 X,X.2.1.1,X.2.1.2.2.2.2.2.1))
def agi:bP:=(bP.nil).add 5 ad1
theorem ace:dx E aqK alu agi (az Tryz.f196 0):=lk JI Xa (λX=>(q3 X,q4 X,X.2.1.1,X.2.1.2.2.2.2.2.1)) λX x=>((z3 (w x.1 (u x.2.1)) X.1),(w x.2.2.1 (z4 (u x.2.2.2)) X.2.1),X.2.2)
theorem asN:aC Tryz.prog 196 anT:=fk alu (((((((((((((base.add yZ).add Nd).add Vw).add afb).add afe).add SZ).add amH).add afl).add atH).add amL).add atI).add atJ).add atK) Tryz.func196 (Λ:=agi) (cF ace nF)
def e90:aG:=F4 bL [pI,pI] [rI] λx a=>Pu.oa x a.1 a.2.1
theorem o90:aC Tryz.prog 90 e90:=aC.Vz (Uv (an:={mv:=[8,49,51,52],sb:=mg [(55,0),(59,0)],fm:=[19,20],eb:=mg [(56,0),(57,0)]}) (Λ:=bP.nil) (base.add asN) Tryz.func90 (by kernel_rfl) (hF (by kernel_rfl) nF)) (λx a=>by kernel_rfl)
def e91:aG:=au [pf bN] [(true,Y7)] (c1 Pu.s5)
theorem o91:aC Tryz.prog 91 e91:=f0 {} ((base.add Vx).add aff) Tryz.func91
def e34:aG:=au [pf bL,pI] [(true,Y1),rI] (c2 Pu.na)
def g34:bH:=(((((bH.nil.add 32 Oj).add 79 e79).add 81 e81).add 89 e89).add 90 e90).add 91 e91
def n34:An:={mask:=mk [(6,[1,4,6,7,25,26])],merge:=mg [(2,21)],mv:=[22,78]}
abbrev QI:SD:=⟨B::DI::B::B::.ptr 4 0::B::.ptr 6 0::DI::bs 17 (DI::DI::bs 53 []),zs 4 ((some Y11)::Z::(some Y10)::zs 73 []),.none⟩
def aaa {R:Type}(X:SD.D QI)(K:Ex→AS→Option R):=Pu.jq (λy0 y1 y2=>ke 0 K QI ((z1 (w y0 (z1 (u y1))) X.1),(z1 (u y2) X.2.1),X.2.2)) X.1.1 (q2 X) X.2.1.1
def ake:bG:=dG QI aaa (λX=>(X.1.2.1,q3 X,X.2.1.2.1))
def L34:bP:=(bP.nil).add 6 ake
theorem ajo:dx E g34 n34 L34 (az Tryz.f34 0):=lk QI aaa (λX=>(X.1.2.1,q3 X,X.2.1.2.1)) λX x=>((z1 (w x.1 (z1 (u x.2.1))) X.1),(z1 (u x.2.2) X.2.1),X.2.2)
theorem o34:aC Tryz.prog 34 e34:=fk n34 ((((((base.add yZ).add o79).add o81).add o89).add o90).add o91) Tryz.func34 (Λ:=L34) (cF ajo nF)
def e92:aG:=au [pf bN] [(true,Y7)] (c1 Pu.oM)
theorem o92:aC Tryz.prog 92 e92:=f0 {} ((base.add Vx).add aff) Tryz.func92
def e35:aG:=au [pf bL] [(true,Y1)] (c1 Pu.sk)
def g35:bH:=((bH.nil.add 79 e79).add 81 e81).add 92 e92
def n35:An:={mask:=mk [(5,[2,3,13,14])],mv:=[10,28]}
abbrev QJ:SD:=⟨B::B::.ptr 2 0::.ptr 3 0::bs 9 (DI::DI::bs 14 []),Z::Z::(some Y3)::(some Y5)::zs 25 [],.none⟩
def aab {R:Type}(X:SD.D QJ)(K:Ex→AS→Option R):=Pu.nb (λy0 y1=>ke 0 K QJ ((z1 (u y0) X.1),(z1 (u y1) X.2.1),X.2.2)) X.1.1 X.2.1.1
def akf:bG:=dG QJ aab (λX=>(X.1.2.1,X.2.1.2.1))
def L35:bP:=(bP.nil).add 5 akf
theorem ajp:dx E g35 n35 L35 (az Tryz.f35 0):=lk QJ aab (λX=>(X.1.2.1,X.2.1.2.1)) λX x=>((z1 (u x.1) X.1),(z1 (u x.2) X.2.1),X.2.2)
theorem o35:aC Tryz.prog 35 e35:=fk n35 (((base.add o79).add o81).add o92) Tryz.func35 (Λ:=L35) (cF ajp nF)
def e7:aG:=au [pf ef,pI,pI] [(true,Y12)] (c3 Pu.n4)
def g7:bH:=(((((bH.nil.add 30 e30).add 31 e31).add 32 Oj).add 33 e33).add 34 e34).add 35 e35
def n7:An:={mask:=mk [(5,[1,2,6,7,29,30]),(9,[1,2,6,7,8,9,10,29,30])],merge:=mg [(2,25)],mv:=[26,44,54,57]}
abbrev Yp:SD:=⟨B::DI::DI::B::B::B::.ptr 6 0::.ptr 7 0::DI::.ptr 9 0::DI::bs 18 (DI::DI::bs 27 []),zs 6 ((some Y16)::(some Y15)::Z::(some Y9)::zs 48 []),.none⟩
def ang {R:Type}(X:SD.D Yp)(K:Ex→AS→Option R):=Pu.jH (λy0 y1=>ke 2 K Yp ((z3 (u y0) X.1),(z2 (u y1) X.2.1),X.2.2)) X.1.1 X.1.2.1 (q2 X) (q4 X) (q5 X) X.2.1.1 X.2.1.2.1
def arH:bG:=dG Yp ang (λX=>(q3 X,X.2.1.2.2.1))
abbrev Yo:SD:=⟨B::DI::DI::B::B::B::.ptr 6 0::.ptr 7 0::bs 21 (DI::DI::bs 27 []),zs 6 ((some Y16)::(some Y15)::zs 50 []),.none⟩
def anf {R:Type}(X:SD.D Yo)(K:Ex→AS→Option R):=Pu.m6 (λy0 y1=>ke 0 K Yo ((z3 (u y0) X.1),(z1 (u y1) X.2.1),X.2.2)) X.1.1 X.1.2.1 (q2 X) X.2.1.1
def arG:bG:=dG Yo anf (λX=>(q3 X,X.2.1.2.1))
def L7:bP:=((bP.nil).add 9 arH).add 5 arG
theorem arD:dx E g7 n7 L7 (az Tryz.f7 1):=lk Yp ang (λX=>(q3 X,X.2.1.2.2.1)) λX x=>((z3 (u x.1) X.1),(z2 (u x.2) X.2.1),X.2.2)
theorem arC:dx E g7 n7 L7 (az Tryz.f7 0):=lk Yo anf (λX=>(q3 X,X.2.1.2.1)) λX x=>((z3 (u x.1) X.1),(z1 (u x.2) X.2.1),X.2.2)
theorem o7:aC Tryz.prog 7 e7:=fk n7 ((((((base.add o30).add o31).add yZ).add o33).add o34).add o35) Tryz.func7 (Λ:=L7) (cF arC (cF arD nF))
def e41:aG:=au [pd (.sl (.int .i64)),pd (.sl (.int .i64))] [rB] (c2 Pu.iJ)
def g41:bH:=bH.nil
def n41:An:={mask:=mk [(4,[0,1,4,5])]}
abbrev LR:SD:=⟨.data false (.sl .arg (.int .i64))::.data false (.sl .arg (.int .i64))::B::B::DB::DI::bs 20 [],zs 26 [],.none⟩
def aaf {R:Type}(X:SD.D LR)(K:Ex→AS→Option R):=Pu.zC (λy0=>ke 0 K LR ((z3 (u y0) X.1),X.2)) (λy0 y1=>kr K LR ((z2 (w y0 (u y1)) X.1),X.2)) X.1.1 X.1.2.1 (q2 X)
def akj:bG:=dG LR aaf q3
def L41:bP:=(bP.nil).add 4 akj
theorem ajt:dx E g41 n41 L41 (az Tryz.f41 0):=lk LR aaf q3 λX x=>((z3 (u x) X.1),X.2)
theorem o41:aC Tryz.prog 41 e41:=fk n41 base Tryz.func41 (Λ:=L41) (cF ajt nF)
def e42:aG:=au [pd (.sl .str),pd (.sl .str)] [rB] (c2 Pu.jO)
def g42:bH:=bH.nil
def n42:An:={mask:=mk [(4,[0,1,4,5])]}
abbrev LS:SD:=⟨.data false (.sl .arg .str)::.data false (.sl .arg .str)::B::B::DB::DI::bs 20 [],zs 26 [],.none⟩
def aag {R:Type}(X:SD.D LS)(K:Ex→AS→Option R):=Pu.vZ (λy0=>ke 0 K LS ((z3 (u y0) X.1),X.2)) (λy0 y1=>kr K LS ((z2 (w y0 (u y1)) X.1),X.2)) X.1.1 X.1.2.1 (q2 X)
def akk:bG:=dG LS aag q3
def L42:bP:=(bP.nil).add 4 akk
theorem aju:dx E g42 n42 L42 (az Tryz.f42 0):=lk LS aag q3 λX x=>((z3 (u x) X.1),X.2)
theorem o42:aC Tryz.prog 42 e42:=fk n42 base Tryz.func42 (Λ:=L42) (cF aju nF)
def anV:aG:=au [pf (.sl .str),pf (.sl .str)] [rB] (c2 Pu.sC)
theorem asO:aC Tryz.prog 198 anV:=f0 {} (base.add o42) Tryz.func198
def aij:aG:=au [pf aX,pf aX] [rB] (c2 Pu.mz)
theorem atL:aC Tryz.prog 288 aij:=f0 {} base Tryz.func288
def anW:aG:=au [pd (.sl aX),pd (.sl aX)] [rB] (c2 Pu.tF)
def aqL:bH:=bH.nil.add 288 aij
def alv:An:={mask:=mk [(4,[0,1,4,5])]}
abbrev Fs:SD:=⟨.data false (.sl .arg aX)::.data false (.sl .arg aX)::B::B::DB::DI::bs 21 [],zs 27 [],.none⟩
def Xb {R:Type}(X:SD.D Fs)(K:Ex→AS→Option R):=Pu.vd (λy0=>ke 0 K Fs ((z3 (u y0) X.1),X.2)) (λy0 y1=>kr K Fs ((z2 (w y0 (u y1)) X.1),X.2)) X.1.1 X.1.2.1 (q2 X)
def ad2:bG:=dG Fs Xb q3
def agj:bP:=(bP.nil).add 4 ad2
theorem acf:dx E aqL alv agj (az Tryz.f199 0):=lk Fs Xb q3 λX x=>((z3 (u x) X.1),X.2)
theorem asP:aC Tryz.prog 199 anW:=fk alv (base.add atL) Tryz.func199 (Λ:=agj) (cF acf nF)
def aoR:aG:=au [pf dS,pf dS] [rB] (c2 Pu.tc)
theorem amM:aC Tryz.prog 289 aoR:=f0 {} base Tryz.func289
def aik:aG:=au [pf cE,pf cE] [rB] (c2 Pu.pE)
theorem amN:aC Tryz.prog 290 aik:=f0 {} (base.add o41) Tryz.func290
def aiD:aG:=au [pf dc,pf dc] [rB] (c2 Pu.tf)
theorem auw:aC Tryz.prog 360 aiD:=f0 {} (base.add o41) Tryz.func360
def aoS:aG:=au [pd (.sl dc),pd (.sl dc)] [rB] (c2 Pu.xQ)
def aq9:bH:=bH.nil.add 360 aiD
def alT:An:={mask:=mk [(4,[0,1,4,5])]}
abbrev FN:SD:=⟨.data false (.sl .arg dc)::.data false (.sl .arg dc)::B::B::DB::DI::bs 21 [],zs 27 [],.none⟩
def XA {R:Type}(X:SD.D FN)(K:Ex→AS→Option R):=Pu.yJ (λy0=>ke 0 K FN ((z3 (u y0) X.1),X.2)) (λy0 y1=>kr K FN ((z2 (w y0 (u y1)) X.1),X.2)) X.1.1 X.1.2.1 (q2 X)
def aer:bG:=dG FN XA q3
def agH:bP:=(bP.nil).add 4 aer
theorem acG:dx E aq9 alT agH (az Tryz.f291 0):=lk FN XA q3 λX x=>((z3 (u x) X.1),X.2)
theorem atM:aC Tryz.prog 291 aoS:=fk alT (base.add auw) Tryz.func291 (Λ:=agH) (cF acG nF)
def anX:aG:=au [pf fN,pf fN] [rB] (c2 Pu.qu)
theorem asQ:aC Tryz.prog 200 anX:=f0 {} (((base.add amM).add amN).add atM) Tryz.func200
def apG:aG:=au [pf dW,pf dW] [rB] (c2 Pu.fz)
theorem auy:aC Tryz.prog 361 apG:=f0 {} base Tryz.func361
def ap9:aG:=au [pf gF,pf gF] [rB] (c2 Pu.qt)
theorem au5:aC Tryz.prog 403 ap9:=f0 {} base Tryz.func403
def ap2:aG:=au [pf ga,pf ga] [rB] (c2 Pu.sD)
theorem auX:aC Tryz.prog 395 ap2:=f0 {} (base.add au5) Tryz.func395
def apH:aG:=au [pf tw,pf tw] [rB] (c2 Pu.uf)
theorem auz:aC Tryz.prog 362 apH:=f0 {} (base.add auX) Tryz.func362
def ail:aG:=au [pf bk,pf bk] [rB] (c2 Pu.mA)
theorem atN:aC Tryz.prog 292 ail:=f0 {} (((base.add amM).add auy).add auz) Tryz.func292
def anY:aG:=au [pd (.sl bk),pd (.sl bk)] [rB] (c2 Pu.tG)
def aqM:bH:=bH.nil.add 292 ail
def alw:An:={mask:=mk [(4,[0,1,4,5])]}
abbrev Ft:SD:=⟨.data false (.sl .arg bk)::.data false (.sl .arg bk)::B::B::DB::DI::bs 21 [],zs 27 [],.none⟩
def Xc {R:Type}(X:SD.D Ft)(K:Ex→AS→Option R):=Pu.ve (λy0=>ke 0 K Ft ((z3 (u y0) X.1),X.2)) (λy0 y1=>kr K Ft ((z2 (w y0 (u y1)) X.1),X.2)) X.1.1 X.1.2.1 (q2 X)
def ad3:bG:=dG Ft Xc q3
def agk:bP:=(bP.nil).add 4 ad3
theorem acg:dx E aqM alw agk (az Tryz.f201 0):=lk Ft Xc q3 λX x=>((z3 (u x) X.1),X.2)
theorem asR:aC Tryz.prog 201 anY:=fk alw (base.add atN) Tryz.func201 (Λ:=agk) (cF acg nF)
def anZ:aG:=au [pd (.sl cE),pd (.sl cE)] [rB] (c2 Pu.xO)
def aqN:bH:=bH.nil.add 290 aik
def alx:An:={mask:=mk [(4,[0,1,4,5])]}
abbrev Fu:SD:=⟨.data false (.sl .arg cE)::.data false (.sl .arg cE)::B::B::DB::DI::bs 21 [],zs 27 [],.none⟩
def Xd {R:Type}(X:SD.D Fu)(K:Ex→AS→Option R):=Pu.yH (λy0=>ke 0 K Fu ((z3 (u y0) X.1),X.2)) (λy0 y1=>kr K Fu ((z2 (w y0 (u y1)) X.1),X.2)) X.1.1 X.1.2.1 (q2 X)
def ad4:bG:=dG Fu Xd q3
def agl:bP:=(bP.nil).add 4 ad4
theorem ach:dx E aqN alx agl (az Tryz.f202 0):=lk Fu Xd q3 λX x=>((z3 (u x) X.1),X.2)
theorem asS:aC Tryz.prog 202 anZ:=fk alx (base.add amN) Tryz.func202 (Λ:=agl) (cF ach nF)
def aim:aG:=au [pf bN,pf bN] [rB] (c2 Pu.om)
theorem atO:aC Tryz.prog 293 aim:=f0 {} base Tryz.func293
def an0:aG:=au [pd (.sl bN),pd (.sl bN)] [rB] (c2 Pu.vg)
def aqO:bH:=bH.nil.add 293 aim
def aly:An:={mask:=mk [(4,[0,1,4,5])]}
abbrev Fv:SD:=⟨.data false (.sl .arg bN)::.data false (.sl .arg bN)::B::B::DB::DI::bs 21 [],zs 27 [],.none⟩
def Xe {R:Type}(X:SD.D Fv)(K:Ex→AS→Option R):=Pu.wa (λy0=>ke 0 K Fv ((z3 (u y0) X.1),X.2)) (λy0 y1=>kr K Fv ((z2 (w y0 (u y1)) X.1),X.2)) X.1.1 X.1.2.1 (q2 X)
def ad5:bG:=dG Fv Xe q3
def agm:bP:=(bP.nil).add 4 ad5
theorem aci:dx E aqO aly agm (az Tryz.f203 0):=lk Fv Xe q3 λX x=>((z3 (u x) X.1),X.2)
theorem asT:aC Tryz.prog 203 an0:=fk aly (base.add atO) Tryz.func203 (Λ:=agm) (cF aci nF)
def an1:aG:=au [pd (.sl .bool),pd (.sl .bool)] [rB] (c2 Pu.xM)
def aqP:bH:=bH.nil
def alz:An:={mask:=mk [(4,[0,1,4,5])]}
abbrev Fw:SD:=⟨.data false (.sl .arg .bool)::.data false (.sl .arg .bool)::B::B::DB::DI::bs 20 [],zs 26 [],.none⟩
def Xf {R:Type}(X:SD.D Fw)(K:Ex→AS→Option R):=Pu.yF (λy0=>ke 0 K Fw ((z3 (u y0) X.1),X.2)) (λy0 y1=>kr K Fw ((z2 (w y0 (u y1)) X.1),X.2)) X.1.1 X.1.2.1 (q2 X)
def ad6:bG:=dG Fw Xf q3
def agn:bP:=(bP.nil).add 4 ad6
theorem acj:dx E aqP alz agn (az Tryz.f204 0):=lk Fw Xf q3 λX x=>((z3 (u x) X.1),X.2)
theorem asU:aC Tryz.prog 204 an1:=fk alz base Tryz.func204 (Λ:=agn) (cF acj nF)
def an2:aG:=au [pf fu,pf fu] [rB] (c2 Pu.og)
theorem amu:aC Tryz.prog 205 an2:=f0 {} (base.add o41) Tryz.func205
def aiE:aG:=au [pf dH,pf dH] [rB] (c2 Pu.td)
theorem auA:aC Tryz.prog 363 aiE:=f0 {} base Tryz.func363
def aoT:aG:=au [pd (.sl dH),pd (.sl dH)] [rB] (c2 Pu.xP)
def ara:bH:=bH.nil.add 363 aiE
def alU:An:={mask:=mk [(4,[0,1,4,5])]}
abbrev FO:SD:=⟨.data false (.sl .arg dH)::.data false (.sl .arg dH)::B::B::DB::DI::bs 21 [],zs 27 [],.none⟩
def XB {R:Type}(X:SD.D FO)(K:Ex→AS→Option R):=Pu.yI (λy0=>ke 0 K FO ((z3 (u y0) X.1),X.2)) (λy0 y1=>kr K FO ((z2 (w y0 (u y1)) X.1),X.2)) X.1.1 X.1.2.1 (q2 X)
def aes:bG:=dG FO XB q3
def agI:bP:=(bP.nil).add 4 aes
theorem acH:dx E ara alU agI (az Tryz.f294 0):=lk FO XB q3 λX x=>((z3 (u x) X.1),X.2)
theorem atP:aC Tryz.prog 294 aoT:=fk alU (base.add auA) Tryz.func294 (Λ:=agI) (cF acH nF)
def apJ:aG:=au [pf fM,pf fM] [rB] (c2 Pu.s9)
theorem am2:aC Tryz.prog 365 apJ:=f0 {} base Tryz.func365
def aiN:aG:=au [pf cJ,pf cJ] [rB] (c2 Pu.th)
theorem auY:aC Tryz.prog 396 aiN:=f0 {} (base.add am2) Tryz.func396
def apI:aG:=au [pd (.sl cJ),pd (.sl cJ)] [rB] (c2 Pu.xR)
def arp:bH:=bH.nil.add 396 aiN
def al7:An:={mask:=mk [(4,[0,1,4,5])]}
abbrev FW:SD:=⟨.data false (.sl .arg cJ)::.data false (.sl .arg cJ)::B::B::DB::DI::bs 21 [],zs 27 [],.none⟩
def XS {R:Type}(X:SD.D FW)(K:Ex→AS→Option R):=Pu.yK (λy0=>ke 0 K FW ((z3 (u y0) X.1),X.2)) (λy0 y1=>kr K FW ((z2 (w y0 (u y1)) X.1),X.2)) X.1.1 X.1.2.1 (q2 X)
def aeJ:bG:=dG FW XS q3
def agV:bP:=(bP.nil).add 4 aeJ
theorem acY:dx E arp al7 agV (az Tryz.f364 0):=lk FW XS q3 λX x=>((z3 (u x) X.1),X.2)
theorem auB:aC Tryz.prog 364 apI:=fk al7 (base.add auY) Tryz.func364 (Λ:=agV) (cF acY nF)
def aoU:aG:=au [pf (.sl cJ),pf (.sl cJ)] [rB] (c2 Pu.np)
theorem atQ:aC Tryz.prog 295 aoU:=f0 {} (base.add auB) Tryz.func295
def aoV:aG:=au [pf lQ,pf lQ] [rB] (c2 Pu.sE)
theorem atR:aC Tryz.prog 296 aoV:=f0 {} (base.add o41) Tryz.func296
def an3:aG:=au [pf eg,pf eg] [rB] (c2 Pu.oQ)
theorem asV:aC Tryz.prog 206 an3:=f0 {} (((base.add atP).add atQ).add atR) Tryz.func206
def ain:aG:=au [pf bg,pf bg] [rB] (c2 Pu.oh)
theorem atS:aC Tryz.prog 297 ain:=f0 {} (base.add am2) Tryz.func297
def an4:aG:=au [pd (.sl bg),pd (.sl bg)] [rB] (c2 Pu.vf)
def aqQ:bH:=bH.nil.add 297 ain
def alA:An:={mask:=mk [(4,[0,1,4,5])]}
abbrev Fx:SD:=⟨.data false (.sl .arg bg)::.data false (.sl .arg bg)::B::B::DB::DI::bs 21 [],zs 27 [],.none⟩
def Xg {R:Type}(X:SD.D Fx)(K:Ex→AS→Option R):=Pu.vY (λy0=>ke 0 K Fx ((z3 (u y0) X.1),X.2)) (λy0 y1=>kr K Fx ((z2 (w y0 (u y1)) X.1),X.2)) X.1.1 X.1.2.1 (q2 X)
def ad7:bG:=dG Fx Xg q3
def ago:bP:=(bP.nil).add 4 ad7
theorem ack:dx E aqQ alA ago (az Tryz.f207 0):=lk Fx Xg q3 λX x=>((z3 (u x) X.1),X.2)
theorem asW:aC Tryz.prog 207 an4:=fk alA (base.add atS) Tryz.func207 (Λ:=ago) (cF ack nF)
def an5:aG:=au [pf fM,pf fM] [rB] (c2 Pu.oP)
theorem asX:aC Tryz.prog 208 an5:=f0 {} base Tryz.func208
def e93:aG:=au [pf bL,pf bL] [rB] (c2 Pu.ta)
theorem o93:aC Tryz.prog 93 e93:=f0 {} (((((((((((((base.add o41).add o42).add asO).add asP).add asQ).add asR).add asS).add asT).add asU).add amu).add asV).add asW).add asX) Tryz.func93
def e36:aG:=au [pd (.sl bL),pd (.sl bL)] [rB] (c2 Pu.xN)
def g36:bH:=bH.nil.add 93 e93
def n36:An:={mask:=mk [(4,[0,1,4,5])]}
abbrev LO:SD:=⟨.data false (.sl .arg bL)::.data false (.sl .arg bL)::B::B::DB::DI::bs 21 [],zs 27 [],.none⟩
def aac {R:Type}(X:SD.D LO)(K:Ex→AS→Option R):=Pu.yG (λy0=>ke 0 K LO ((z3 (u y0) X.1),X.2)) (λy0 y1=>kr K LO ((z2 (w y0 (u y1)) X.1),X.2)) X.1.1 X.1.2.1 (q2 X)
def akg:bG:=dG LO aac q3
def L36:bP:=(bP.nil).add 4 akg
theorem ajq:dx E g36 n36 L36 (az Tryz.f36 0):=lk LO aac q3 λX x=>((z3 (u x) X.1),X.2)
theorem o36:aC Tryz.prog 36 e36:=fk n36 (base.add o93) Tryz.func36 (Λ:=L36) (cF ajq nF)
def an6:aG:=au [pf dW,pf dW] [rB] (c2 Pu.sB)
theorem asY:aC Tryz.prog 209 an6:=f0 {} base Tryz.func209
def e94:aG:=au [pf aB,pf aB] [rB] (c2 Pu.fA)
theorem o94:aC Tryz.prog 94 e94:=f0 {} (base.add asY) Tryz.func94
def e37:aG:=au [pd (.sl aB),pd (.sl aB)] [rB] (c2 Pu.jP)
def g37:bH:=bH.nil.add 94 e94
def n37:An:={mask:=mk [(4,[0,1,4,5])]}
abbrev LP:SD:=⟨.data false (.sl .arg aB)::.data false (.sl .arg aB)::B::B::DB::DI::bs 21 [],zs 27 [],.none⟩
def aad {R:Type}(X:SD.D LP)(K:Ex→AS→Option R):=Pu.mB (λy0=>ke 0 K LP ((z3 (u y0) X.1),X.2)) (λy0 y1=>kr K LP ((z2 (w y0 (u y1)) X.1),X.2)) X.1.1 X.1.2.1 (q2 X)
def akh:bG:=dG LP aad q3
def L37:bP:=(bP.nil).add 4 akh
theorem ajr:dx E g37 n37 L37 (az Tryz.f37 0):=lk LP aad q3 λX x=>((z3 (u x) X.1),X.2)
theorem o37:aC Tryz.prog 37 e37:=fk n37 (base.add o94) Tryz.func37 (Λ:=L37) (cF ajr nF)
def e95:aG:=au [pf bq,pf bq] [rB] (c2 Pu.my)
theorem o95:aC Tryz.prog 95 e95:=f0 {} (base.add amu) Tryz.func95
def e38:aG:=au [pd (.sl bq),pd (.sl bq)] [rB] (c2 Pu.tE)
def g38:bH:=bH.nil.add 95 e95
def n38:An:={mask:=mk [(4,[0,1,4,5])]}
abbrev LQ:SD:=⟨.data false (.sl .arg bq)::.data false (.sl .arg bq)::B::B::DB::DI::bs 21 [],zs 27 [],.none⟩
def aae {R:Type}(X:SD.D LQ)(K:Ex→AS→Option R):=Pu.vc (λy0=>ke 0 K LQ ((z3 (u y0) X.1),X.2)) (λy0 y1=>kr K LQ ((z2 (w y0 (u y1)) X.1),X.2)) X.1.1 X.1.2.1 (q2 X)
def aki:bG:=dG LQ aae q3
def L38:bP:=(bP.nil).add 4 aki
theorem ajs:dx E g38 n38 L38 (az Tryz.f38 0):=lk LQ aae q3 λX x=>((z3 (u x) X.1),X.2)
theorem o38:aC Tryz.prog 38 e38:=fk n38 (base.add o95) Tryz.func38 (Λ:=L38) (cF ajs nF)
def e39:aG:=au [pf (.sl .str),pf (.sl .str)] [rB] (c2 Pu.ue)
theorem o39:aC Tryz.prog 39 e39:=f0 {} (base.add o42) Tryz.func39
def e40:aG:=au [pf dS,pf dS] [rB] (c2 Pu.ud)
theorem o40:aC Tryz.prog 40 e40:=f0 {} base Tryz.func40
def e8:aG:=au [pf ef,pf ef] [rB] (c2 Pu.mx)
theorem o8:aC Tryz.prog 8 e8:=f0 {} (((((((base.add o36).add o37).add o38).add o39).add o40).add o41).add o42) Tryz.func8
def e47:aG:=rJ (.sl (.int .i64)) false [pI] [rI] λx a=>Pu.cQ x a.1
def g47:bH:=bH.nil
def n47:An:={mask:=mk [(2,[0,1,5])]}
abbrev QN:SD:=⟨.data false (.sl (.lio 0 12288036864) (.int .i64))::DI::B::B::B::DI::bs 13 [],zs 19 [],.some (.sl (.own (some 12288036864)) (.int .i64))⟩
def aak {R:Type}(X:SD.D QN)(K:Ex→AS→Option R):=Pu.jR (λy0 y1 y2 y3=>ke 0 K QN ((w y0 (w y1 (u y2)) X.1),X.2.1,y3))
def ako:bG:=dG QN aak (λX=>(X.1.1,X.1.2.1,q2 X,X.2.2))
def L47:bP:=(bP.nil).add 2 ako
theorem ajy:dx E g47 n47 L47 (az Tryz.f47 0):=lk QN aak (λX=>(X.1.1,X.1.2.1,q2 X,X.2.2)) λX x=>((w x.1 (w x.2.1 (u x.2.2.1)) X.1),X.2.1,x.2.2.2)
theorem o47:aC Tryz.prog 47 e47:=aC.AI (AF (Γ:=g47) (an:=n47) (Λ:=L47) (base) Tryz.func47 (by kernel_rfl) (hF (by kernel_rfl) (cF ajy nF))) (λx a=>by kernel_rfl)
def Kd:aG:=au [pI] [rS] (c1 Pu.bz)
def aqa:bH:=bH.nil
def akR:An:={mask:=mk [(4,[0,3])]}
abbrev Ju:SD:=⟨DI::B::B::.data false .str::bs 16 [],zs 20 [],.none⟩
def Wp {R:Type}(X:SD.D Ju)(K:Ex→AS→Option R):=Pu.nt (λy0 y1=>ke 0 K Ju ((w y0 (u y1) X.1),X.2))
def adi:bG:=dG Ju Wp (λX=>(X.1.1,X.1.2.1))
def afG:bP:=(bP.nil).add 4 adi
theorem abu:dx E aqa akR afG (az Tryz.f104 0):=lk Ju Wp (λX=>(X.1.1,X.1.2.1)) λX x=>((w x.1 (u x.2) X.1),X.2)
theorem Nc:aC Tryz.prog 104 Kd:=fk akR base Tryz.func104 (Λ:=afG) (cF abu nF)
def e48:aG:=rJ (.sl .str) false [pI] [rI] λx a=>Pu.fe x a.1
def g48:bH:=bH.nil.add 104 Kd
def n48:An:={mask:=mk [(2,[0,1,5])]}
abbrev QO:SD:=⟨.data false (.sl (.lio 0 12288036864) .str)::DI::B::B::B::DI::bs 14 [],zs 20 [],.some (.sl (.own (some 12288036864)) .str)⟩
def aal {R:Type}(X:SD.D QO)(K:Ex→AS→Option R):=Pu.gJ (λy0 y1 y2 y3=>ke 0 K QO ((w y0 (w y1 (u y2)) X.1),X.2.1,y3))
def akp:bG:=dG QO aal (λX=>(X.1.1,X.1.2.1,q2 X,X.2.2))
def L48:bP:=(bP.nil).add 2 akp
theorem ajz:dx E g48 n48 L48 (az Tryz.f48 0):=lk QO aal (λX=>(X.1.1,X.1.2.1,q2 X,X.2.2)) λX x=>((w x.1 (w x.2.1 (u x.2.2.1)) X.1),X.2.1,x.2.2.2)
theorem o48:aC Tryz.prog 48 e48:=aC.AI (AF (Γ:=g48) (an:=n48) (Λ:=L48) (base.add Nc) Tryz.func48 (by kernel_rfl) (hF (by kernel_rfl) (cF ajz nF))) (λx a=>by kernel_rfl)
def e96:aG:=rJ (.sl aX) false [pI] [rI] λx a=>Pu.l5 x a.1
def g96:bH:=bH.nil
def n96:An:={mask:=mk [(2,[0,1,5])]}
abbrev QV:SD:=⟨.data false (.sl (.lio 0 12288036864) aX)::DI::B::B::B::DI::bs 37 [],zs 43 [],.some (.sl (.own (some 12288036864)) aX)⟩
def aaF {R:Type}(X:SD.D QV)(K:Ex→AS→Option R):=Pu.mG (λy0 y1 y2 y3=>ke 0 K QV ((w y0 (w y1 (u y2)) X.1),X.2.1,y3))
def akJ:bG:=dG QV aaF (λX=>(X.1.1,X.1.2.1,q2 X,X.2.2))
def L96:bP:=(bP.nil).add 2 akJ
theorem ajT:dx E g96 n96 L96 (az Tryz.f96 0):=lk QV aaF (λX=>(X.1.1,X.1.2.1,q2 X,X.2.2)) λX x=>((w x.1 (w x.2.1 (u x.2.2.1)) X.1),X.2.1,x.2.2.2)
theorem o96:aC Tryz.prog 96 e96:=aC.AI (AF (Γ:=g96) (an:=n96) (Λ:=L96) (base) Tryz.func96 (by kernel_rfl) (hF (by kernel_rfl) (cF ajT nF))) (λx a=>by kernel_rfl)
def e97:aG:=rJ (.sl dc) false [pI] [rI] λx a=>Pu.qP x a.1
def g97:bH:=bH.nil.add 47 e47
def n97:An:={mask:=mk [(2,[0,1,5])],nest:=[30]}
abbrev QW:SD:=⟨.data false (.sl (.lio 0 12288036864) dc)::DI::B::B::B::DI::bs 28 [],zs 34 [],.some (.sl (.own (some 12288036864)) dc)⟩
def aaG {R:Type}(X:SD.D QW)(K:Ex→AS→Option R):=Pu.qQ (λy0 y1 y2 y3=>ke 0 K QW ((w y0 (w y1 (u y2)) X.1),X.2.1,y3))
def akK:bG:=dG QW aaG (λX=>(X.1.1,X.1.2.1,q2 X,X.2.2))
def L97:bP:=(bP.nil).add 2 akK
theorem ajU:dx E g97 n97 L97 (az Tryz.f97 0):=lk QW aaG (λX=>(X.1.1,X.1.2.1,q2 X,X.2.2)) λX x=>((w x.1 (w x.2.1 (u x.2.2.1)) X.1),X.2.1,x.2.2.2)
theorem o97:aC Tryz.prog 97 e97:=aC.AI (AF (Γ:=g97) (an:=n97) (Λ:=L97) (base.add o47) Tryz.func97 (by kernel_rfl) (hF (by kernel_rfl) (cF ajU nF))) (λx a=>by kernel_rfl)
def e98:aG:=rJ (.sl bk) false [pI] [rI] λx a=>Pu.l6 x a.1
def g98:bH:=bH.nil.add 104 Kd
def n98:An:={mask:=mk [(2,[0,1,5])]}
abbrev QX:SD:=⟨.data false (.sl (.lio 0 12288036864) bk)::DI::B::B::B::DI::bs 272 [],zs 278 [],.some (.sl (.own (some 12288036864)) bk)⟩
def aaH {R:Type}(X:SD.D QX)(K:Ex→AS→Option R):=Pu.mH (λy0 y1 y2 y3=>ke 0 K QX ((w y0 (w y1 (u y2)) X.1),X.2.1,y3))
def akL:bG:=dG QX aaH (λX=>(X.1.1,X.1.2.1,q2 X,X.2.2))
def L98:bP:=(bP.nil).add 2 akL
theorem ajV:dx E g98 n98 L98 (az Tryz.f98 0):=lk QX aaH (λX=>(X.1.1,X.1.2.1,q2 X,X.2.2)) λX x=>((w x.1 (w x.2.1 (u x.2.2.1)) X.1),X.2.1,x.2.2.2)
theorem o98:aC Tryz.prog 98 e98:=aC.AI (AF (Γ:=g98) (an:=n98) (Λ:=L98) (base.add Nc) Tryz.func98 (by kernel_rfl) (hF (by kernel_rfl) (cF ajV nF))) (λx a=>by kernel_rfl)
def e99:aG:=rJ (.sl cE) false [pI] [rI] λx a=>Pu.qL x a.1
def g99:bH:=bH.nil.add 47 e47
def n99:An:={mask:=mk [(2,[0,1,5])],nest:=[37]}
abbrev QY:SD:=⟨.data false (.sl (.lio 0 12288036864) cE)::DI::B::B::B::DI::bs 35 [],zs 41 [],.some (.sl (.own (some 12288036864)) cE)⟩
def aaI {R:Type}(X:SD.D QY)(K:Ex→AS→Option R):=Pu.qM (λy0 y1 y2 y3=>ke 0 K QY ((w y0 (w y1 (u y2)) X.1),X.2.1,y3))
def akM:bG:=dG QY aaI (λX=>(X.1.1,X.1.2.1,q2 X,X.2.2))
def L99:bP:=(bP.nil).add 2 akM
theorem ajW:dx E g99 n99 L99 (az Tryz.f99 0):=lk QY aaI (λX=>(X.1.1,X.1.2.1,q2 X,X.2.2)) λX x=>((w x.1 (w x.2.1 (u x.2.2.1)) X.1),X.2.1,x.2.2.2)
theorem o99:aC Tryz.prog 99 e99:=aC.AI (AF (Γ:=g99) (an:=n99) (Λ:=L99) (base.add o47) Tryz.func99 (by kernel_rfl) (hF (by kernel_rfl) (cF ajW nF))) (λx a=>by kernel_rfl)
def ahd:aG:=rJ (.sl bN) false [pI] [rI] λx a=>Pu.nu x a.1
def aiT:bH:=bH.nil
def akN:An:={mask:=mk [(2,[0,1,5])]}
abbrev Jq:SD:=⟨.data false (.sl (.lio 0 12288036864) bN)::DI::B::B::B::DI::bs 53 [],zs 59 [],.some (.sl (.own (some 12288036864)) bN)⟩
def Wl {R:Type}(X:SD.D Jq)(K:Ex→AS→Option R):=Pu.nV (λy0 y1 y2 y3=>ke 0 K Jq ((w y0 (w y1 (u y2)) X.1),X.2.1,y3))
def ade:bG:=dG Jq Wl (λX=>(X.1.1,X.1.2.1,q2 X,X.2.2))
def afC:bP:=(bP.nil).add 2 ade
theorem abp:dx E aiT akN afC (az Tryz.f100 0):=lk Jq Wl (λX=>(X.1.1,X.1.2.1,q2 X,X.2.2)) λX x=>((w x.1 (w x.2.1 (u x.2.2.1)) X.1),X.2.1,x.2.2.2)
theorem arI:aC Tryz.prog 100 ahd:=aC.AI (AF (Γ:=aiT) (an:=akN) (Λ:=afC) (base) Tryz.func100 (by kernel_rfl) (hF (by kernel_rfl) (cF abp nF))) (λx a=>by kernel_rfl)
def ahe:aG:=rJ (.sl .bool) false [pI] [rI] λx a=>Pu.qH x a.1
def aiU:bH:=bH.nil
def akO:An:={mask:=mk [(2,[0,1,5])]}
abbrev Jr:SD:=⟨.data false (.sl (.lio 0 12288036864) .bool)::DI::B::B::B::DI::bs 15 [],zs 21 [],.some (.sl (.own (some 12288036864)) .bool)⟩
def Wm {R:Type}(X:SD.D Jr)(K:Ex→AS→Option R):=Pu.iL (λy0 y1 y2 y3=>ke 0 K Jr ((w y0 (w y1 (u y2)) X.1),X.2.1,y3))
def adf:bG:=dG Jr Wm (λX=>(X.1.1,X.1.2.1,q2 X,X.2.2))
def afD:bP:=(bP.nil).add 2 adf
theorem abq:dx E aiU akO afD (az Tryz.f101 0):=lk Jr Wm (λX=>(X.1.1,X.1.2.1,q2 X,X.2.2)) λX x=>((w x.1 (w x.2.1 (u x.2.2.1)) X.1),X.2.1,x.2.2.2)
theorem arJ:aC Tryz.prog 101 ahe:=aC.AI (AF (Γ:=aiU) (an:=akO) (Λ:=afD) (base) Tryz.func101 (by kernel_rfl) (hF (by kernel_rfl) (cF abq nF))) (λx a=>by kernel_rfl)
def ahf:aG:=rJ (.sl dH) false [pI] [rI] λx a=>Pu.qN x a.1
def aiV:bH:=bH.nil
def akP:An:={mask:=mk [(2,[0,1,5])]}
abbrev Js:SD:=⟨.data false (.sl (.lio 0 12288036864) dH)::DI::B::B::B::DI::bs 70 [],zs 76 [],.some (.sl (.own (some 12288036864)) dH)⟩
def Wn {R:Type}(X:SD.D Js)(K:Ex→AS→Option R):=Pu.qO (λy0 y1 y2 y3=>ke 0 K Js ((w y0 (w y1 (u y2)) X.1),X.2.1,y3))
def adg:bG:=dG Js Wn (λX=>(X.1.1,X.1.2.1,q2 X,X.2.2))
def afE:bP:=(bP.nil).add 2 adg
theorem abr:dx E aiV akP afE (az Tryz.f102 0):=lk Js Wn (λX=>(X.1.1,X.1.2.1,q2 X,X.2.2)) λX x=>((w x.1 (w x.2.1 (u x.2.2.1)) X.1),X.2.1,x.2.2.2)
theorem arK:aC Tryz.prog 102 ahf:=aC.AI (AF (Γ:=aiV) (an:=akP) (Λ:=afE) (base) Tryz.func102 (by kernel_rfl) (hF (by kernel_rfl) (cF abr nF))) (λx a=>by kernel_rfl)
def ahg:aG:=rJ (.sl cJ) false [pI] [rI] λx a=>Pu.qR x a.1
def aiW:bH:=bH.nil
def akQ:An:={mask:=mk [(2,[0,1,5])]}
abbrev Jt:SD:=⟨.data false (.sl (.lio 0 12288036864) cJ)::DI::B::B::B::DI::bs 61 [],zs 67 [],.some (.sl (.own (some 12288036864)) cJ)⟩
def Wo {R:Type}(X:SD.D Jt)(K:Ex→AS→Option R):=Pu.qS (λy0 y1 y2 y3=>ke 0 K Jt ((w y0 (w y1 (u y2)) X.1),X.2.1,y3))
def adh:bG:=dG Jt Wo (λX=>(X.1.1,X.1.2.1,q2 X,X.2.2))
def afF:bP:=(bP.nil).add 2 adh
theorem abt:dx E aiW akQ afF (az Tryz.f103 0):=lk Jt Wo (λX=>(X.1.1,X.1.2.1,q2 X,X.2.2)) λX x=>((w x.1 (w x.2.1 (u x.2.2.1)) X.1),X.2.1,x.2.2.2)
theorem arL:aC Tryz.prog 103 ahg:=aC.AI (AF (Γ:=aiW) (an:=akQ) (Λ:=afF) (base) Tryz.func103 (by kernel_rfl) (hF (by kernel_rfl) (cF abt nF))) (λx a=>by kernel_rfl)
def ahh:aG:=rJ (.sl bg) false [pI] [rI] λx a=>Pu.ns x a.1
def aiX:bH:=bH.nil.add 104 Kd
def akS:An:={mask:=mk [(2,[0,1,5])]}
abbrev Jv:SD:=⟨.data false (.sl (.lio 0 12288036864) bg)::DI::B::B::B::DI::bs 71 [],zs 77 [],.some (.sl (.own (some 12288036864)) bg)⟩
def Wq {R:Type}(X:SD.D Jv)(K:Ex→AS→Option R):=Pu.nU (λy0 y1 y2 y3=>ke 0 K Jv ((w y0 (w y1 (u y2)) X.1),X.2.1,y3))
def adj:bG:=dG Jv Wq (λX=>(X.1.1,X.1.2.1,q2 X,X.2.2))
def afH:bP:=(bP.nil).add 2 adj
theorem abv:dx E aiX akS afH (az Tryz.f105 0):=lk Jv Wq (λX=>(X.1.1,X.1.2.1,q2 X,X.2.2)) λX x=>((w x.1 (w x.2.1 (u x.2.2.1)) X.1),X.2.1,x.2.2.2)
theorem arM:aC Tryz.prog 105 ahh:=aC.AI (AF (Γ:=aiX) (an:=akS) (Λ:=afH) (base.add Nc) Tryz.func105 (by kernel_rfl) (hF (by kernel_rfl) (cF abv nF))) (λx a=>by kernel_rfl)
def e43:aG:=rJ (.sl bL) false [pI] [rI] λx a=>Pu.vi x a.1
def g43:bH:=(((((((((((bH.nil.add 47 e47).add 48 e48).add 96 e96).add 97 e97).add 98 e98).add 99 e99).add 100 ahd).add 101 ahe).add 102 ahf).add 103 ahg).add 104 Kd).add 105 ahh
def n43:An:={mask:=mk [(2,[0,1,5])],nest:=[17,24,96,104,119,126,133,140,166,174,183,202,209,225,232,239]}
abbrev QK:SD:=⟨.data false (.sl (.lio 0 12288036864) bL)::DI::B::B::B::DI::bs 277 [],zs 283 [],.some (.sl (.own (some 12288036864)) bL)⟩
def aah {R:Type}(X:SD.D QK)(K:Ex→AS→Option R):=Pu.qJ (λy0 y1 y2 y3=>ke 0 K QK ((w y0 (w y1 (u y2)) X.1),X.2.1,y3))
def akl:bG:=dG QK aah (λX=>(X.1.1,X.1.2.1,q2 X,X.2.2))
def L43:bP:=(bP.nil).add 2 akl
theorem ajv:dx E g43 n43 L43 (az Tryz.f43 0):=lk QK aah (λX=>(X.1.1,X.1.2.1,q2 X,X.2.2)) λX x=>((w x.1 (w x.2.1 (u x.2.2.1)) X.1),X.2.1,x.2.2.2)
theorem o43:aC Tryz.prog 43 e43:=aC.AI (AF (Γ:=g43) (an:=n43) (Λ:=L43) ((((((((((((base.add o47).add o48).add o96).add o97).add o98).add o99).add arI).add arJ).add arK).add arL).add Nc).add arM) Tryz.func43 (by kernel_rfl) (hF (by kernel_rfl) (cF ajv nF))) (λx a=>by kernel_rfl)
def e44:aG:=rJ (.sl aB) false [pI] [rI] λx a=>Pu.im x a.1
def g44:bH:=bH.nil
def n44:An:={mask:=mk [(2,[0,1,5])]}
abbrev QL:SD:=⟨.data false (.sl (.lio 0 12288036864) aB)::DI::B::B::B::DI::bs 68 [],zs 74 [],.some (.sl (.own (some 12288036864)) aB)⟩
def aai {R:Type}(X:SD.D QL)(K:Ex→AS→Option R):=Pu.gy (λy0 y1 y2 y3=>ke 0 K QL ((w y0 (w y1 (u y2)) X.1),X.2.1,y3))
def akm:bG:=dG QL aai (λX=>(X.1.1,X.1.2.1,q2 X,X.2.2))
def L44:bP:=(bP.nil).add 2 akm
theorem ajw:dx E g44 n44 L44 (az Tryz.f44 0):=lk QL aai (λX=>(X.1.1,X.1.2.1,q2 X,X.2.2)) λX x=>((w x.1 (w x.2.1 (u x.2.2.1)) X.1),X.2.1,x.2.2.2)
theorem o44:aC Tryz.prog 44 e44:=aC.AI (AF (Γ:=g44) (an:=n44) (Λ:=L44) (base) Tryz.func44 (by kernel_rfl) (hF (by kernel_rfl) (cF ajw nF))) (λx a=>by kernel_rfl)
def e45:aG:=rJ (.sl bq) false [pI] [rI] λx a=>Pu.qK x a.1
def g45:bH:=bH.nil.add 47 e47
def n45:An:={mask:=mk [(2,[0,1,5])],nest:=[35]}
abbrev QM:SD:=⟨.data false (.sl (.lio 0 12288036864) bq)::DI::B::B::B::DI::bs 54 [],zs 60 [],.some (.sl (.own (some 12288036864)) bq)⟩
def aaj {R:Type}(X:SD.D QM)(K:Ex→AS→Option R):=Pu.mF (λy0 y1 y2 y3=>ke 0 K QM ((w y0 (w y1 (u y2)) X.1),X.2.1,y3))
def akn:bG:=dG QM aaj (λX=>(X.1.1,X.1.2.1,q2 X,X.2.2))
def L45:bP:=(bP.nil).add 2 akn
theorem ajx:dx E g45 n45 L45 (az Tryz.f45 0):=lk QM aaj (λX=>(X.1.1,X.1.2.1,q2 X,X.2.2)) λX x=>((w x.1 (w x.2.1 (u x.2.2.1)) X.1),X.2.1,x.2.2.2)
theorem o45:aC Tryz.prog 45 e45:=aC.AI (AF (Γ:=g45) (an:=n45) (Λ:=L45) (base.add o47) Tryz.func45 (by kernel_rfl) (hF (by kernel_rfl) (cF ajx nF))) (λx a=>by kernel_rfl)
def e46:aG:=rJ (.sl .str) true [pI] [rI] λx a=>Pu.qI x a.1
theorem o46:aC Tryz.prog 46 e46:=aC.AI (AF (an:={}) (Λ:=bP.nil) (base.add o48) Tryz.func46 (by kernel_rfl) (hF (by kernel_rfl) nF)) (λx a=>by kernel_rfl)
def e9:aG:=rJ ef true [pI] [rI] λx a=>Pu.oo x a.1
theorem o9:aC Tryz.prog 9 e9:=aC.AI (AF (an:={}) (Λ:=bP.nil) ((((((base.add o43).add o44).add o45).add o46).add o47).add o48) Tryz.func9 (by kernel_rfl) (hF (by kernel_rfl) nF)) (λx a=>by kernel_rfl)
def e53:aG:=au [pd (.sl (.int .i64)),pI] [rI] (c2 Pu.cP)
def g53:bH:=bH.nil
def n53:An:={mask:=mk [(2,[0,1,4,5])]}
abbrev LX:SD:=⟨.data false (.sl .arg (.int .i64))::DI::B::B::DI::DI::bs 15 [],zs 21 [],.none⟩
def aap {R:Type}(X:SD.D LX)(K:Ex→AS→Option R):=Pu.jQ (λy0 y1=>ke 0 K LX ((z1 (w y0 (z1 (u y1))) X.1),X.2)) (λy0 y1 y2=>kr K LX ((z1 (w y0 (w y1 (u y2))) X.1),X.2)) X.1.1 (q2 X)
def akt:bG:=dG LX aap (λX=>(X.1.2.1,q3 X))
def L53:bP:=(bP.nil).add 2 akt
theorem ajD:dx E g53 n53 L53 (az Tryz.f53 0):=lk LX aap (λX=>(X.1.2.1,q3 X)) λX x=>((z1 (w x.1 (z1 (u x.2))) X.1),X.2)
theorem o53:aC Tryz.prog 53 e53:=fk n53 base Tryz.func53 (Λ:=L53) (cF ajD nF)
def e54:aG:=au [pd (.sl .str),pI] [rI] (c2 Pu.fc)
def g54:bH:=bH.nil.add 104 Kd
def n54:An:={mask:=mk [(2,[0,1,4,5])]}
abbrev LY:SD:=⟨.data false (.sl .arg .str)::DI::B::B::DI::DI::bs 16 [],zs 22 [],.none⟩
def aaq {R:Type}(X:SD.D LY)(K:Ex→AS→Option R):=Pu.gI (λy0 y1=>ke 0 K LY ((z1 (w y0 (z1 (u y1))) X.1),X.2)) (λy0 y1 y2=>kr K LY ((z1 (w y0 (w y1 (u y2))) X.1),X.2)) X.1.1 (q2 X)
def aku:bG:=dG LY aaq (λX=>(X.1.2.1,q3 X))
def L54:bP:=(bP.nil).add 2 aku
theorem ajE:dx E g54 n54 L54 (az Tryz.f54 0):=lk LY aaq (λX=>(X.1.2.1,q3 X)) λX x=>((z1 (w x.1 (z1 (u x.2))) X.1),X.2)
theorem o54:aC Tryz.prog 54 e54:=fk n54 (base.add Nc) Tryz.func54 (Λ:=L54) (cF ajE nF)
def ahi:aG:=au [pd (.sl aX),pI] [rI] (c2 Pu.lZ)
def aqb:bH:=bH.nil
def akT:An:={mask:=mk [(2,[0,1,4,5])]}
abbrev EU:SD:=⟨.data false (.sl .arg aX)::DI::B::B::DI::DI::bs 45 [],zs 51 [],.none⟩
def Wr {R:Type}(X:SD.D EU)(K:Ex→AS→Option R):=Pu.mD (λy0 y1=>ke 0 K EU ((z1 (w y0 (z1 (u y1))) X.1),X.2)) (λy0 y1 y2=>kr K EU ((z1 (w y0 (w y1 (u y2))) X.1),X.2)) X.1.1 (q2 X)
def adk:bG:=dG EU Wr (λX=>(X.1.2.1,q3 X))
def afI:bP:=(bP.nil).add 2 adk
theorem abw:dx E aqb akT afI (az Tryz.f106 0):=lk EU Wr (λX=>(X.1.2.1,q3 X)) λX x=>((z1 (w x.1 (z1 (u x.2))) X.1),X.2)
theorem arN:aC Tryz.prog 106 ahi:=fk akT base Tryz.func106 (Λ:=afI) (cF abw nF)
def ahj:aG:=au [pd (.sl dc),pI] [rI] (c2 Pu.qD)
def aqc:bH:=bH.nil.add 53 e53
def akU:An:={mask:=mk [(2,[0,1,4,5])]}
abbrev EV:SD:=⟨.data false (.sl .arg dc)::DI::B::B::DI::DI::bs 34 [],zs 40 [],.none⟩
def Ws {R:Type}(X:SD.D EV)(K:Ex→AS→Option R):=Pu.qE (λy0 y1=>ke 0 K EV ((z1 (w y0 (z1 (u y1))) X.1),X.2)) (λy0 y1 y2=>kr K EV ((z1 (w y0 (w y1 (u y2))) X.1),X.2)) X.1.1 (q2 X)
def adl:bG:=dG EV Ws (λX=>(X.1.2.1,q3 X))
def afJ:bP:=(bP.nil).add 2 adl
theorem abx:dx E aqc akU afJ (az Tryz.f107 0):=lk EV Ws (λX=>(X.1.2.1,q3 X)) λX x=>((z1 (w x.1 (z1 (u x.2))) X.1),X.2)
theorem arO:aC Tryz.prog 107 ahj:=fk akU (base.add o53) Tryz.func107 (Λ:=afJ) (cF abx nF)
def ahk:aG:=au [pd (.sl bk),pI] [rI] (c2 Pu.l4)
def aqd:bH:=bH.nil.add 104 Kd
def akV:An:={mask:=mk [(2,[0,1,4,5])]}
abbrev EW:SD:=⟨.data false (.sl .arg bk)::DI::B::B::DI::DI::bs 332 [],zs 338 [],.none⟩
def Wt {R:Type}(X:SD.D EW)(K:Ex→AS→Option R):=Pu.mE (λy0 y1=>ke 0 K EW ((z1 (w y0 (z1 (u y1))) X.1),X.2)) (λy0 y1 y2=>kr K EW ((z1 (w y0 (w y1 (u y2))) X.1),X.2)) X.1.1 (q2 X)
def adm:bG:=dG EW Wt (λX=>(X.1.2.1,q3 X))
def afK:bP:=(bP.nil).add 2 adm
theorem aby:dx E aqd akV afK (az Tryz.f108 0):=lk EW Wt (λX=>(X.1.2.1,q3 X)) λX x=>((z1 (w x.1 (z1 (u x.2))) X.1),X.2)
theorem arP:aC Tryz.prog 108 ahk:=fk akV (base.add Nc) Tryz.func108 (Λ:=afK) (cF aby nF)
def ahl:aG:=au [pd (.sl cE),pI] [rI] (c2 Pu.qz)
def aqe:bH:=bH.nil.add 53 e53
def akW:An:={mask:=mk [(2,[0,1,4,5])]}
abbrev EX:SD:=⟨.data false (.sl .arg cE)::DI::B::B::DI::DI::bs 43 [],zs 49 [],.none⟩
def Wu {R:Type}(X:SD.D EX)(K:Ex→AS→Option R):=Pu.qA (λy0 y1=>ke 0 K EX ((z1 (w y0 (z1 (u y1))) X.1),X.2)) (λy0 y1 y2=>kr K EX ((z1 (w y0 (w y1 (u y2))) X.1),X.2)) X.1.1 (q2 X)
def adn:bG:=dG EX Wu (λX=>(X.1.2.1,q3 X))
def afL:bP:=(bP.nil).add 2 adn
theorem abz:dx E aqe akW afL (az Tryz.f109 0):=lk EX Wu (λX=>(X.1.2.1,q3 X)) λX x=>((z1 (w x.1 (z1 (u x.2))) X.1),X.2)
theorem arQ:aC Tryz.prog 109 ahl:=fk akW (base.add o53) Tryz.func109 (Λ:=afL) (cF abz nF)
def ahm:aG:=au [pd (.sl bN),pI] [rI] (c2 Pu.nr)
def aqf:bH:=bH.nil
def akX:An:={mask:=mk [(2,[0,1,4,5])]}
abbrev EY:SD:=⟨.data false (.sl .arg bN)::DI::B::B::DI::DI::bs 65 [],zs 71 [],.none⟩
def Wv {R:Type}(X:SD.D EY)(K:Ex→AS→Option R):=Pu.nT (λy0 y1=>ke 0 K EY ((z1 (w y0 (z1 (u y1))) X.1),X.2)) (λy0 y1 y2=>kr K EY ((z1 (w y0 (w y1 (u y2))) X.1),X.2)) X.1.1 (q2 X)
def ado:bG:=dG EY Wv (λX=>(X.1.2.1,q3 X))
def afM:bP:=(bP.nil).add 2 ado
theorem abA:dx E aqf akX afM (az Tryz.f110 0):=lk EY Wv (λX=>(X.1.2.1,q3 X)) λX x=>((z1 (w x.1 (z1 (u x.2))) X.1),X.2)
theorem arR:aC Tryz.prog 110 ahm:=fk akX base Tryz.func110 (Λ:=afM) (cF abA nF)
def ahn:aG:=au [pd (.sl .bool),pI] [rI] (c2 Pu.qv)
def aqg:bH:=bH.nil
def akY:An:={mask:=mk [(2,[0,1,4,5])]}
abbrev EZ:SD:=⟨.data false (.sl .arg .bool)::DI::B::B::DI::DI::bs 17 [],zs 23 [],.none⟩
def Ww {R:Type}(X:SD.D EZ)(K:Ex→AS→Option R):=Pu.iK (λy0 y1=>ke 0 K EZ ((z1 (w y0 (z1 (u y1))) X.1),X.2)) (λy0 y1 y2=>kr K EZ ((z1 (w y0 (w y1 (u y2))) X.1),X.2)) X.1.1 (q2 X)
def adp:bG:=dG EZ Ww (λX=>(X.1.2.1,q3 X))
def afN:bP:=(bP.nil).add 2 adp
theorem abB:dx E aqg akY afN (az Tryz.f111 0):=lk EZ Ww (λX=>(X.1.2.1,q3 X)) λX x=>((z1 (w x.1 (z1 (u x.2))) X.1),X.2)
theorem arS:aC Tryz.prog 111 ahn:=fk akY base Tryz.func111 (Λ:=afN) (cF abB nF)
def aho:aG:=au [pd (.sl dH),pI] [rI] (c2 Pu.qB)
def aqh:bH:=bH.nil
def akZ:An:={mask:=mk [(2,[0,1,4,5])]}
abbrev E0:SD:=⟨.data false (.sl .arg dH)::DI::B::B::DI::DI::bs 88 [],zs 94 [],.none⟩
def Wx {R:Type}(X:SD.D E0)(K:Ex→AS→Option R):=Pu.qC (λy0 y1=>ke 0 K E0 ((z1 (w y0 (z1 (u y1))) X.1),X.2)) (λy0 y1 y2=>kr K E0 ((z1 (w y0 (w y1 (u y2))) X.1),X.2)) X.1.1 (q2 X)
def adq:bG:=dG E0 Wx (λX=>(X.1.2.1,q3 X))
def afO:bP:=(bP.nil).add 2 adq
theorem abC:dx E aqh akZ afO (az Tryz.f112 0):=lk E0 Wx (λX=>(X.1.2.1,q3 X)) λX x=>((z1 (w x.1 (z1 (u x.2))) X.1),X.2)
theorem arT:aC Tryz.prog 112 aho:=fk akZ base Tryz.func112 (Λ:=afO) (cF abC nF)
def ahp:aG:=au [pd (.sl cJ),pI] [rI] (c2 Pu.qF)
def aqi:bH:=bH.nil
def ak0:An:={mask:=mk [(2,[0,1,4,5])]}
abbrev E1:SD:=⟨.data false (.sl .arg cJ)::DI::B::B::DI::DI::bs 75 [],zs 81 [],.none⟩
def Wy {R:Type}(X:SD.D E1)(K:Ex→AS→Option R):=Pu.qG (λy0 y1=>ke 0 K E1 ((z1 (w y0 (z1 (u y1))) X.1),X.2)) (λy0 y1 y2=>kr K E1 ((z1 (w y0 (w y1 (u y2))) X.1),X.2)) X.1.1 (q2 X)
def adr:bG:=dG E1 Wy (λX=>(X.1.2.1,q3 X))
def afP:bP:=(bP.nil).add 2 adr
theorem abD:dx E aqi ak0 afP (az Tryz.f113 0):=lk E1 Wy (λX=>(X.1.2.1,q3 X)) λX x=>((z1 (w x.1 (z1 (u x.2))) X.1),X.2)
theorem arU:aC Tryz.prog 113 ahp:=fk ak0 base Tryz.func113 (Λ:=afP) (cF abD nF)
def ahq:aG:=au [pd (.sl bg),pI] [rI] (c2 Pu.nq)
def aqj:bH:=bH.nil.add 104 Kd
def ak1:An:={mask:=mk [(2,[0,1,4,5])]}
abbrev E2:SD:=⟨.data false (.sl .arg bg)::DI::B::B::DI::DI::bs 87 [],zs 93 [],.none⟩
def Wz {R:Type}(X:SD.D E2)(K:Ex→AS→Option R):=Pu.nS (λy0 y1=>ke 0 K E2 ((z1 (w y0 (z1 (u y1))) X.1),X.2)) (λy0 y1 y2=>kr K E2 ((z1 (w y0 (w y1 (u y2))) X.1),X.2)) X.1.1 (q2 X)
def ads:bG:=dG E2 Wz (λX=>(X.1.2.1,q3 X))
def afQ:bP:=(bP.nil).add 2 ads
theorem abE:dx E aqj ak1 afQ (az Tryz.f114 0):=lk E2 Wz (λX=>(X.1.2.1,q3 X)) λX x=>((z1 (w x.1 (z1 (u x.2))) X.1),X.2)
theorem arV:aC Tryz.prog 114 ahq:=fk ak1 (base.add Nc) Tryz.func114 (Λ:=afQ) (cF abE nF)
def e49:aG:=au [pd (.sl bL),pI] [rI] (c2 Pu.vh)
def g49:bH:=(((((((((((bH.nil.add 53 e53).add 54 e54).add 104 Kd).add 106 ahi).add 107 ahj).add 108 ahk).add 109 ahl).add 110 ahm).add 111 ahn).add 112 aho).add 113 ahp).add 114 ahq
def n49:An:={mask:=mk [(2,[0,1,4,5])]}
abbrev LU:SD:=⟨.data false (.sl .arg bL)::DI::B::B::DI::DI::bs 343 [],zs 349 [],.none⟩
def aam {R:Type}(X:SD.D LU)(K:Ex→AS→Option R):=Pu.qx (λy0 y1=>ke 0 K LU ((z1 (w y0 (z1 (u y1))) X.1),X.2)) (λy0 y1 y2=>kr K LU ((z1 (w y0 (w y1 (u y2))) X.1),X.2)) X.1.1 (q2 X)
def akq:bG:=dG LU aam (λX=>(X.1.2.1,q3 X))
def L49:bP:=(bP.nil).add 2 akq
theorem ajA:dx E g49 n49 L49 (az Tryz.f49 0):=lk LU aam (λX=>(X.1.2.1,q3 X)) λX x=>((z1 (w x.1 (z1 (u x.2))) X.1),X.2)
theorem o49:aC Tryz.prog 49 e49:=fk n49 ((((((((((((base.add o53).add o54).add Nc).add arN).add arO).add arP).add arQ).add arR).add arS).add arT).add arU).add arV) Tryz.func49 (Λ:=L49) (cF ajA nF)
def e50:aG:=au [pd (.sl aB),pI] [rI] (c2 Pu.il)
def g50:bH:=bH.nil
def n50:An:={mask:=mk [(2,[0,1,4,5])]}
abbrev LV:SD:=⟨.data false (.sl .arg aB)::DI::B::B::DI::DI::bs 84 [],zs 90 [],.none⟩
def aan {R:Type}(X:SD.D LV)(K:Ex→AS→Option R):=Pu.gx (λy0 y1=>ke 0 K LV ((z1 (w y0 (z1 (u y1))) X.1),X.2)) (λy0 y1 y2=>kr K LV ((z1 (w y0 (w y1 (u y2))) X.1),X.2)) X.1.1 (q2 X)
def akr:bG:=dG LV aan (λX=>(X.1.2.1,q3 X))
def L50:bP:=(bP.nil).add 2 akr
theorem ajB:dx E g50 n50 L50 (az Tryz.f50 0):=lk LV aan (λX=>(X.1.2.1,q3 X)) λX x=>((z1 (w x.1 (z1 (u x.2))) X.1),X.2)
theorem o50:aC Tryz.prog 50 e50:=fk n50 base Tryz.func50 (Λ:=L50) (cF ajB nF)
def e51:aG:=au [pd (.sl bq),pI] [rI] (c2 Pu.qy)
def g51:bH:=bH.nil.add 53 e53
def n51:An:={mask:=mk [(2,[0,1,4,5])]}
abbrev LW:SD:=⟨.data false (.sl .arg bq)::DI::B::B::DI::DI::bs 66 [],zs 72 [],.none⟩
def aao {R:Type}(X:SD.D LW)(K:Ex→AS→Option R):=Pu.mC (λy0 y1=>ke 0 K LW ((z1 (w y0 (z1 (u y1))) X.1),X.2)) (λy0 y1 y2=>kr K LW ((z1 (w y0 (w y1 (u y2))) X.1),X.2)) X.1.1 (q2 X)
def aks:bG:=dG LW aao (λX=>(X.1.2.1,q3 X))
def L51:bP:=(bP.nil).add 2 aks
theorem ajC:dx E g51 n51 L51 (az Tryz.f51 0):=lk LW aao (λX=>(X.1.2.1,q3 X)) λX x=>((z1 (w x.1 (z1 (u x.2))) X.1),X.2)
theorem o51:aC Tryz.prog 51 e51:=fk n51 (base.add o53) Tryz.func51 (Λ:=L51) (cF ajC nF)
def e52:aG:=au [pf (.sl .str),pI] [rI] (c2 Pu.qw)
theorem o52:aC Tryz.prog 52 e52:=f0 {} (base.add o54) Tryz.func52
def e10:aG:=au [pf ef,pI] [rI] (c2 Pu.lA)
theorem o10:aC Tryz.prog 10 e10:=f0 {} ((((((base.add o49).add o50).add o51).add o52).add o53).add o54) Tryz.func10
abbrev kP:List PS:=[pf ef,pI,pI]
def pW:aG:=au kP [rB] (c3 Pu.mw)
theorem yf:aC Tryz.prog 3 pW:=f0 {merge:=mg [(14,50)]} (((((((base.add o4).add o5).add o6).add o7).add o8).add o9).add o10) Tryz.func3
end
end Go.Proofs.YthmhicidfohmeaaGreat.Fn
