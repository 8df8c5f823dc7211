import Derived.Test.YtjoicgadhgkphabGreatDnSig
import Derived.Test.YtjoicgadhgkphabGreatPure
import Derived.Test.YtjoicgadhgkphabGreatRows
/- Each function of the program is its pure function (made by gen.py). -/
namespace Go.Proofs.YtjoicgadhgkphabGreat.Fn
open Go.Dn
open Go.Pu (dN dn iK cM eg bC cz dE O3 ay ba bk bM yf bD fU gF ek Nq Tu)
set_option maxRecDepth 100000
set_option linter.unusedVariables false
noncomputable section
abbrev B:PD:=.bot
abbrev DI:PD:=.data false (.int .i64)
abbrev DB:PD:=.data false .bool
abbrev Z:Option FT:=none
theorem nF {p:Code→Prop}:∀x∈([]:List Code),p x:=λ_ h=>nomatch h
theorem cF {p:Code→Prop}{a:Code}{l:List Code}(h:p a)(t:∀x∈l,p x):∀x∈a::l,p x:=List.forall_mem_cons.2 ⟨h,t⟩
theorem hF {p:Code→Prop}{l m:List Code}(e:l=m)(h:∀x∈m,p x):∀x∈l,p x:=e▸h
theorem fk {P:Program}{E:Env}{Γ:bL}{s:List PS}{rs:List (Bool×FT)}{F:vK s→Option (gD rs)}{f:Nat}{fn:Func}(an:An)(hS:Sound P E Γ)(hf:P.funcs[f]?=some fn){Λ:cg}{l:List Code}(h:∀c∈l,ee E Γ an Λ c)(hn:(fn.name== "runtime.NumGoroutine")=false:=by kernel_rfl)(hl:fu (fn.body.getD .skip)=l:=by kernel_rfl)(hcut:an.cut=[]:=by kernel_rfl)(hF:∀a,Ct E Γ an Λ fn rs (gN s a)=F a:=by intro a;kernel_rfl):aI P f (aA s rs F):=aI.of (U6 hS hf hn (uf.of (Fn.hF hl h) hcut)) hF
theorem ao {E:Env}{Γ:bL}{an:An}{Λ:cg}{b:Code}{l:List Code}(h:∀c∈l,ee E Γ an Λ c)(hl:fu b=l:=by kernel_rfl)(hc:an.cut=[]:=by kernel_rfl):uf E Γ an Λ b:=uf.of (Fn.hF hl h) hc
theorem ac {E:Env}{Γ:bL}{an:An}{Λ:cg}{b:Code}{l m:List Code}(h:∀c∈l,ee E Γ an Λ c)(hc:∀c∈m,XZ E Γ an Λ c)(hl:fu b=l:=by kernel_rfl)(hm:gz an.cut b=m:=by kernel_rfl):uf E Γ an Λ b:=⟨Fn.hF hl h,Fn.hF hm hc⟩
theorem fc {P:Program}{E:Env}{Γ:bL}{s:List PS}{rs:List (Bool×FT)}{F:vK s→Option (gD rs)}{f:Nat}{fn:Func}(an:An)(hS:Sound P E Γ)(hf:P.funcs[f]?=some fn){Λ:cg}{l m:List Code}(h:∀c∈l,ee E Γ an Λ c)(hc:∀c∈m,XZ E Γ an Λ c)(hn:(fn.name== "runtime.NumGoroutine")=false:=by kernel_rfl)(hl:fu (fn.body.getD .skip)=l:=by kernel_rfl)(hm:gz an.cut (fn.body.getD .skip)=m:=by kernel_rfl)(hF:∀a,Ct E Γ an Λ fn rs (gN s a)=F a:=by intro a;kernel_rfl):aI P f (aA s rs F):=aI.of (U6 hS hf hn ⟨Fn.hF hl h,Fn.hF hm hc⟩) hF
abbrev pd (t:CT):PS:=.data false t
abbrev pf (t:CT):PS:=.data true t
abbrev pI:PS:=.data false (.int .i64)
abbrev rB:Bool×FT:=(false,.bool)
abbrev rI:Bool×FT:=(false,.int .i64)
abbrev rS:Bool×FT:=(false,.str)
abbrev bs:Nat→List PD→List PD|0,l=>l|n+1,l=> .bot::bs n l
abbrev zs:Nat→List (Option FT)→List (Option FT)|0,l=>l|n+1,l=>none::zs n l
def mk (l:List (Nat×List Nat))(n:Nat):List Nat:=(l.lookup n).getD []
def mg (l:List (Nat×Nat))(n:Nat):Option Nat:=l.lookup n
def ke {R:Type}(n:Nat)(K:Ex→AS→Option R)(d:SD)(x:SD.D d):Option R:=K (.exit n) (SD.enc d x)
def kn {R:Type}(K:Ex→AS→Option R)(d:SD)(x:SD.D d):Option R:=K .normal (SD.enc d x)
def kr {R:Type}(K:Ex→AS→Option R)(d:SD)(x:SD.D d):Option R:=K .ret (SD.enc d x)
def ev {σ:Type}(d:SD)(t:{R:Type}→SD.D d→(Ex→AS→Option R)→(σ→Option R)→σ→Option R)(i:SD.D d→σ):bQ:=⟨d,λX K=>aV (t X K) fuel (i X)⟩
theorem lk {E:Env}{Γ:bL}{an:An}{Λ:cg}{c:Code}{σ:Type}(d:SD)(t:{R:Type}→SD.D d→(Ex→AS→Option R)→(σ→Option R)→σ→Option R)(i:SD.D d→σ)(w:SD.D d→σ→SD.D d)(h1:Λ (dw c)=ev d t i:=by kernel_rfl)(h:∀(R:Type)(X:SD.D d)(K:Ex→AS→Option R)(m:Nat)(x:σ),vI (an.mask (dw c)) (den E Γ an Λ c) (m+1) (SD.enc d (w X x)) K=t X K (λy=>vI (an.mask (dw c)) (den E Γ an Λ c) m (SD.enc d (w X y)) K) x:=by intro R X K m x;kernel_rfl)(hw:∀X,w X (i X)=X:=by intro X;kernel_rfl):ee E Γ an Λ c:=lok (ev d t i) h1 fuel λR X K=>(EO (λx=>SD.enc d (w X x)) (t X K) (h R X K) fuel (i X)).symm.trans (congrArg (λy=>vI (an.mask (dw c)) (den E Γ an Λ c) fuel (SD.enc d y) K) (hw X))
def mkc (d:SD)(t:{R:Type}→SD.D d→(Ex→AS→Option R)→Option R):bQ:=⟨d,λX K=>t X K⟩
theorem ck {E:Env}{Γ:bL}{an:An}{Λ:cg}{c:Code}(d:SD)(t:{R:Type}→SD.D d→(Ex→AS→Option R)→Option R)(h1:Λ (vN c)=mkc d t:=by kernel_rfl)(h:∀(R:Type)(X:SD.D d)(K:Ex→AS→Option R),t X K=den E Γ an Λ c (SD.enc d X) (λe st'=>K e (st'.mask (an.mask (vN c+1)))):=by intro R X K;kernel_rfl):XZ E Γ an Λ c:=cok (mkc d t) h1 h
def u {A B:Type}(y:A)(x:A×B):A×B:=(y,x.2)
def w {A B:Type}(y:A)(f:B→B)(x:A×B):A×B:=(y,f x.2)
def z1 {A0 B:Type}(f:B→B)(x:A0×B):A0×B:=(x.1,f x.2)
def z2 {A0 A1 B:Type}(f:B→B)(x:A0×A1×B):A0×A1×B:=(x.1,x.2.1,f x.2.2)
def z3 {A0 A1 A2 B:Type}(f:B→B)(x:A0×A1×A2×B):A0×A1×A2×B:=(x.1,x.2.1,x.2.2.1,f x.2.2.2)
def z4 {A0 A1 A2 A3 B:Type}(f:B→B)(x:A0×A1×A2×A3×B):A0×A1×A2×A3×B:=(x.1,x.2.1,x.2.2.1,x.2.2.2.1,f x.2.2.2.2)
def z5 {A0 A1 A2 A3 A4 B:Type}(f:B→B)(x:A0×A1×A2×A3×A4×B):A0×A1×A2×A3×A4×B:=(x.1,x.2.1,x.2.2.1,x.2.2.2.1,x.2.2.2.2.1,f x.2.2.2.2.2)
def z6 {A0 A1 A2 A3 A4 A5 B:Type}(f:B→B)(x:A0×A1×A2×A3×A4×A5×B):A0×A1×A2×A3×A4×A5×B:=(x.1,x.2.1,x.2.2.1,x.2.2.2.1,x.2.2.2.2.1,x.2.2.2.2.2.1,f x.2.2.2.2.2.2)
def z7 {A0 A1 A2 A3 A4 A5 A6 B:Type}(f:B→B)(x:A0×A1×A2×A3×A4×A5×A6×B):A0×A1×A2×A3×A4×A5×A6×B:=(x.1,x.2.1,x.2.2.1,x.2.2.2.1,x.2.2.2.2.1,x.2.2.2.2.2.1,x.2.2.2.2.2.2.1,f x.2.2.2.2.2.2.2)
def z8 {A0 A1 A2 A3 A4 A5 A6 A7 B:Type}(f:B→B)(x:A0×A1×A2×A3×A4×A5×A6×A7×B):A0×A1×A2×A3×A4×A5×A6×A7×B:=(x.1,x.2.1,x.2.2.1,x.2.2.2.1,x.2.2.2.2.1,x.2.2.2.2.2.1,x.2.2.2.2.2.2.1,x.2.2.2.2.2.2.2.1,f x.2.2.2.2.2.2.2.2)
def q2 {A0 A1 A2 B C:Type}(x:(A0×A1×A2×B)×C):A2:=x.1.2.2.1
def q3 {A0 A1 A2 A3 B C:Type}(x:(A0×A1×A2×A3×B)×C):A3:=x.1.2.2.2.1
def q4 {A0 A1 A2 A3 A4 B C:Type}(x:(A0×A1×A2×A3×A4×B)×C):A4:=x.1.2.2.2.2.1
def q5 {A0 A1 A2 A3 A4 A5 B C:Type}(x:(A0×A1×A2×A3×A4×A5×B)×C):A5:=x.1.2.2.2.2.2.1
def q6 {A0 A1 A2 A3 A4 A5 A6 B C:Type}(x:(A0×A1×A2×A3×A4×A5×A6×B)×C):A6:=x.1.2.2.2.2.2.2.1
def q7 {A0 A1 A2 A3 A4 A5 A6 A7 B C:Type}(x:(A0×A1×A2×A3×A4×A5×A6×A7×B)×C):A7:=x.1.2.2.2.2.2.2.2.1
def q8 {A0 A1 A2 A3 A4 A5 A6 A7 A8 B C:Type}(x:(A0×A1×A2×A3×A4×A5×A6×A7×A8×B)×C):A8:=x.1.2.2.2.2.2.2.2.2.1
def q9 {A0 A1 A2 A3 A4 A5 A6 A7 A8 A9 B C:Type}(x:(A0×A1×A2×A3×A4×A5×A6×A7×A8×A9×B)×C):A9:=x.1.2.2.2.2.2.2.2.2.2.1
def EY {A0 A1 A2 A3 A4 A5 A6 A7 A8 A9 A10 B C:Type}(x:(A0×A1×A2×A3×A4×A5×A6×A7×A8×A9×A10×B)×C):A10:=x.1.2.2.2.2.2.2.2.2.2.2.1
def c1 {A0 B R:Type}(f:A0→R)(a:A0×B):R:=f a.1
def c2 {A0 A1 B R:Type}(f:A0→A1→R)(a:A0×A1×B):R:=f a.1 a.2.1
def c3 {A0 A1 A2 B R:Type}(f:A0→A1→A2→R)(a:A0×A1×A2×B):R:=f a.1 a.2.1 a.2.2.1
def c4 {A0 A1 A2 A3 B R:Type}(f:A0→A1→A2→A3→R)(a:A0×A1×A2×A3×B):R:=f a.1 a.2.1 a.2.2.1 a.2.2.2.1
theorem f0 {P:Program}{E:Env}{Γ:bL}{s:List PS}{rs:List (Bool×FT)}{F:vK s→Option (gD rs)}{f:Nat}{fn:Func}(an:An)(hS:Sound P E Γ)(hf:P.funcs[f]?=some fn)(hn:(fn.name== "runtime.NumGoroutine")=false:=by kernel_rfl)(hl:fu (fn.body.getD .skip)=[]:=by kernel_rfl)(hcut:an.cut=[]:=by rfl)(hF:∀a,Ct E Γ an cg.nil fn rs (gN s a)=F a:=by intro a;kernel_rfl):aI P f (aA s rs F):=aI.of (U6 hS hf hn (uf.of (Fn.hF hl nF) hcut)) hF
abbrev Y10:FT:=.pair (.int .i64) (.pair (.int .i64) (.pair (.int .i64) (.pair (.int .i64) .str)))
abbrev XS:FT:=.pair (.int .i64) (.pair (.int .i64) Y10)
abbrev Y0:FT:=.pair (.int .i64) (.pair (.int .i64) (.pair (.int .i64) (.pair (.int .i64) (.pair (.int .i64) (.pair (.int .i64) (.pair (.int .i64) (.pair (.int .i64) (.pair (.int .i64) XS))))))))
abbrev Y1:FT:=.pair (.sl (.own none) cz) (.pair (.sl (.own none) (.sl .str)) (.pair (.sl (.own none) ay) (.pair (.sl (.own none) ba) (.sl (.own none) .str))))
abbrev Y2:FT:=.pair (.int .i64) (.pair (.int .i64) (.int .i64))
abbrev Y3:FT:=.pair (.int .i64) (.pair .bool (.sl (.own none) (.int .i64)))
abbrev Y4:FT:=.pair (.sl (.own (some 86017)) cz) (.pair (.sl (.own (some 86020)) (.sl .str)) (.pair (.sl (.own (some 86023)) ay) (.pair (.sl (.own (some 86026)) ba) (.sl (.own (some 86029)) .str))))
abbrev Y5:FT:=.pair (.sl (.own (some 73729)) cz) (.pair (.sl (.own (some 73732)) (.sl .str)) (.pair (.sl (.own (some 73735)) ay) (.pair (.sl (.own (some 73738)) ba) (.sl (.own (some 73741)) .str))))
abbrev Y6:FT:=.pair (.sl (.own (some 36865)) cz) (.pair (.sl (.own (some 36868)) (.sl .str)) (.pair (.sl (.own (some 36871)) ay) (.pair (.sl (.own (some 36874)) ba) (.sl (.own (some 36877)) .str))))
abbrev Y7:FT:=.pair (.sl (.own (some 24577)) cz) (.pair (.sl (.own (some 24580)) (.sl .str)) (.pair (.sl (.own (some 24583)) ay) (.pair (.sl (.own (some 24586)) ba) (.sl (.own (some 24589)) .str))))
abbrev Y13:FT:=.pair (.sl (.own none) dn) (.pair (.sl (.own none) cM) (.pair .str (.sl (.own none) (.int .i64))))
abbrev Y8:FT:=.pair Y3 (.pair Y13 (.pair (.int .i64) (.pair (.sl (.own none) bC) (.sl (.own none) .str))))
abbrev Y9:FT:=.pair (.sl .arg cz) (.pair (.sl .arg (.sl .str)) (.pair (.sl .arg ay) (.pair (.sl .arg ba) (.sl .arg .str))))
abbrev O5:FT:=.pair (.int .i64) (.pair (.int .i64) Y2)
abbrev XR:FT:=.pair (.int .i64) (.pair .bool (.sl .arg (.int .i64)))
abbrev Y14:FT:=.pair (.sl (.own (some 1)) cz) (.pair (.sl (.own (some 4)) (.sl .str)) (.pair (.sl (.own (some 7)) ay) (.pair (.sl (.own (some 10)) ba) (.sl (.own (some 13)) .str))))
abbrev Y15:FT:=.pair (.int .i64) (.pair (.int .i64) (.pair Y2 (.pair .bool (.pair (.int .i64) (.int .i64)))))
abbrev Y16:FT:=.pair (.sl .arg dn) (.pair (.sl .arg cM) (.pair .str (.sl .arg (.int .i64))))
abbrev Y18:FT:=.pair (.int .i64) (.pair .bool (.sl (.own (some 73735)) (.int .i64)))
abbrev Y19:FT:=.pair (.int .i64) (.pair .bool (.sl (.own (some 49159)) (.int .i64)))
abbrev Y20:FT:=.pair (.int .i64) (.pair Y0 (.pair (.int .i64) (.pair (.int .i64) (.pair .str (.int .i64)))))
def E:Env:={ty:=[(3,⟨false,(.int .i64),[]⟩),(4,⟨false,.bool,[]⟩),(5,⟨false,(.int .u8),[]⟩),(9,⟨false,.str,[]⟩),(22,⟨false,(.sl cz),[(106,0)]⟩),(23,⟨false,(.sl (.sl .str)),[(26,0)]⟩),(24,⟨false,(.sl ay),[(152,0)]⟩),(25,⟨false,(.sl ba),[(109,0)]⟩),(26,⟨false,(.sl .str),[(9,0)]⟩),(28,⟨true,bk,[(0,1),(1,1),(2,1),(3,1),(4,1)]⟩),(29,⟨false,(.sl bD),[(65,0)]⟩),(30,⟨false,(.sl (.int .i64)),[(3,0)]⟩),(33,⟨false,(.sl cz),[(121,0)]⟩),(34,⟨false,(.sl ay),[(135,0)]⟩),(35,⟨false,(.sl ba),[(124,0)]⟩),(37,⟨true,bk,[(0,1),(1,1),(2,1),(3,1),(4,1)]⟩),(40,⟨false,(.sl bD),[(76,0)]⟩),(57,⟨true,fU,[(0,1),(1,1),(2,1),(3,1),(4,1),(5,1),(6,1),(7,1)]⟩),(59,⟨true,bM,[(0,1),(1,1),(2,1),(3,1),(4,1),(5,1),(6,1),(7,1),(8,8)]⟩),(61,⟨true,yf,[(0,1),(1,16),(17,1),(18,1),(19,1),(20,1)]⟩),(63,⟨true,dE,[(0,1),(1,1),(2,1)]⟩),(65,⟨true,bD,[(0,1),(1,1),(2,21),(23,3),(26,1),(27,1)]⟩),(69,⟨true,fU,[(0,1),(1,1),(2,1),(3,1),(4,1),(5,1),(6,1),(7,1)]⟩),(71,⟨true,bM,[(0,1),(1,1),(2,1),(3,1),(4,1),(5,1),(6,1),(7,1),(8,8)]⟩),(73,⟨true,yf,[(0,1),(1,16),(17,1),(18,1),(19,1),(20,1)]⟩),(74,⟨true,dE,[(0,1),(1,1),(2,1)]⟩),(76,⟨true,bD,[(0,1),(1,1),(2,21),(23,3),(26,1),(27,1)]⟩),(95,⟨true,dN,[(0,1),(1,1),(2,1)]⟩),(96,⟨false,(.sl dn),[(283,0)]⟩),(97,⟨false,(.sl cM),[(301,0)]⟩),(99,⟨true,(.sl cM),[(0,1)]⟩),(101,⟨true,gF,[(0,1),(1,1)]⟩),(103,⟨true,eg,[(0,1),(1,1),(2,2)]⟩),(104,⟨false,(.sl bC),[(226,0)]⟩),(106,⟨true,cz,[(0,3),(3,4),(7,1),(8,1),(9,1)]⟩),(109,⟨true,ba,[(0,3),(3,1),(4,1),(5,1)]⟩),(111,⟨true,dN,[(0,1),(1,1),(2,1)]⟩),(112,⟨false,(.sl dn),[(213,0)]⟩),(113,⟨false,(.sl cM),[(217,0)]⟩),(115,⟨true,(.sl cM),[(0,1)]⟩),(116,⟨true,gF,[(0,1),(1,1)]⟩),(118,⟨true,eg,[(0,1),(1,1),(2,2)]⟩),(119,⟨false,(.sl bC),[(219,0)]⟩),(121,⟨true,cz,[(0,3),(3,4),(7,1),(8,1),(9,1)]⟩),(124,⟨true,ba,[(0,3),(3,1),(4,1),(5,1)]⟩),(126,⟨false,(.sl ek),[(177,0)]⟩),(133,⟨true,dE,[(0,1),(1,1),(2,1)]⟩),(135,⟨true,ay,[(0,1),(1,1),(2,3),(5,1),(6,1),(7,1)]⟩),(150,⟨true,dE,[(0,1),(1,1),(2,1)]⟩),(152,⟨true,ay,[(0,1),(1,1),(2,3),(5,1),(6,1),(7,1)]⟩),(170,⟨false,(.sl (.int .u8)),[(5,0)]⟩),(177,⟨true,ek,[(0,1),(1,1),(2,1),(3,1)]⟩),(187,⟨false,(.sl bM),[(71,0)]⟩),(213,⟨true,dn,[(0,1),(1,1),(2,1),(3,1),(4,1),(5,1),(6,1),(7,1),(8,1)]⟩),(215,⟨true,iK,[(0,1),(1,1),(2,1),(3,1),(4,1)]⟩),(217,⟨true,cM,[(0,1),(1,5),(6,1)]⟩),(219,⟨true,bC,[(0,5),(5,1),(6,1),(7,1)]⟩),(224,⟨true,iK,[(0,1),(1,1),(2,1),(3,1),(4,1)]⟩),(226,⟨true,bC,[(0,5),(5,1),(6,1),(7,1)]⟩),(238,⟨true,Nq,[(0,1),(1,1),(2,1),(3,1),(4,1)]⟩),(242,⟨true,Tu,[(0,1),(1,1),(2,1),(3,1),(4,1),(5,1),(6,1)]⟩),(283,⟨true,dn,[(0,1),(1,1),(2,1),(3,1),(4,1),(5,1),(6,1),(7,1),(8,1)]⟩),(301,⟨true,cM,[(0,1),(1,5),(6,1)]⟩),(305,⟨false,(.int .u32),[]⟩)],eqs:=[(71,[.int,.int,.int,.int,.int,.int,.int,.int,.int,.int,.int,.int,.int,.int,.int,.str]),(215,[.int,.int,.int,.int,.int])],fts:=[]}
theorem base:Sound Tryz.prog E bL.nil:=Sound.nil (IX (by kernel_rfl)) (I0 (by kernel_rfl)) (IZ (by kernel_rfl)) (by kernel_rfl)
def e22:aM:=aA [pd (.sl .str),pI] [rI] (c2 Pu.jg)
def g22:bL:=bL.nil
def n22:An:={mask:=mk [(5,[0,1,4,5])]}
abbrev HJ:SD:=⟨.data false (.sl .arg .str)::DI::B::B::DI::DI::bs 22 [],zs 28 [],.none⟩
def TN {R:Type}(X:SD.D HJ)(K:Ex→AS→Option R):=Pu.tt (λy0 y1=>ke 0 K HJ ((z1 (w y0 (z1 (u y1))) X.1),X.2)) (λy0 y1 y2=>kr K HJ ((z1 (w y0 (w y1 (u y2))) X.1),X.2)) X.1.1 (q2 X)
def aa6:bQ:=ev HJ TN (λX=>(X.1.2.1,q3 X))
def L22:cg:=(cg.nil).add 5 aa6
theorem aag:ee E g22 n22 L22 (aE Tryz.f22 0):=lk HJ TN (λX=>(X.1.2.1,q3 X)) λX x=>((z1 (w x.1 (z1 (u x.2))) X.1),X.2)
theorem o22:aI Tryz.prog 22 e22:=fk n22 base Tryz.func22 (Λ:=L22) (cF aag nF)
def aej:aM:=aA [pd (.sl (.int .i64)),pI] [rI] (c2 Pu.tq)
theorem acW:aI Tryz.prog 168 aej:=f0 {} base Tryz.func168
def adM:aM:=aA [pf dN,pI] [rI] (c2 Pu.nb)
theorem acI:aI Tryz.prog 105 adM:=f0 {} (base.add acW) Tryz.func105
def aek:aM:=aA [pd (.sl dn),pI] [rI] (c2 Pu.uT)
theorem ahF:aI Tryz.prog 169 aek:=f0 {} base Tryz.func169
def aeT:aM:=aA [pd (.sl cM),pI] [rI] (c2 Pu.uU)
theorem aie:aI Tryz.prog 218 aeT:=f0 {} base Tryz.func218
def ael:aM:=aA [pf (.sl cM),pI] [rI] (c2 Pu.mj)
theorem ahG:aI Tryz.prog 170 ael:=f0 {} (base.add aie) Tryz.func170
def aem:aM:=aA [pf gF,pI] [rI] (c2 Pu.qa)
theorem ahH:aI Tryz.prog 171 aem:=f0 {} (base.add acW) Tryz.func171
def adN:aM:=aA [pf eg,pI] [rI] (c2 Pu.nz)
theorem ag5:aI Tryz.prog 106 adN:=f0 {} (((base.add ahF).add ahG).add ahH) Tryz.func106
def Zr:aM:=aA [pf bC,pI] [rI] (c2 Pu.nd)
theorem ahI:aI Tryz.prog 172 Zr:=f0 {} base Tryz.func172
def adO:aM:=aA [pd (.sl bC),pI] [rI] (c2 Pu.sJ)
def af6:bL:=bL.nil.add 172 Zr
def abU:An:={mask:=mk [(5,[0,1,4,5])]}
abbrev BS:SD:=⟨.data false (.sl .arg bC)::DI::B::B::DI::DI::bs 21 [],zs 27 [],.none⟩
def QQ {R:Type}(X:SD.D BS)(K:Ex→AS→Option R):=Pu.tr (λy0 y1=>ke 0 K BS ((z1 (w y0 (z1 (u y1))) X.1),X.2)) (λy0 y1 y2=>kr K BS ((z1 (w y0 (w y1 (u y2))) X.1),X.2)) X.1.1 (q2 X)
def Wj:bQ:=ev BS QQ (λX=>(X.1.2.1,q3 X))
def X6:cg:=(cg.nil).add 5 Wj
theorem Vd:ee E af6 abU X6 (aE Tryz.f107 0):=lk BS QQ (λX=>(X.1.2.1,q3 X)) λX x=>((z1 (w x.1 (z1 (u x.2))) X.1),X.2)
theorem ag6:aI Tryz.prog 107 adO:=fk abU (base.add ahI) Tryz.func107 (Λ:=X6) (cF Vd nF)
def e53:aM:=aA [pf cz,pI] [rI] (c2 Pu.qE)
theorem o53:aI Tryz.prog 53 e53:=f0 {} ((((base.add o22).add acI).add ag5).add ag6) Tryz.func53
def e18:aM:=aA [pd (.sl cz),pI] [rI] (c2 Pu.uV)
def g18:bL:=bL.nil.add 53 e53
def n18:An:={mask:=mk [(5,[0,1,4,5])]}
abbrev HG:SD:=⟨.data false (.sl .arg cz)::DI::B::B::DI::DI::bs 21 [],zs 27 [],.none⟩
def TK {R:Type}(X:SD.D HG)(K:Ex→AS→Option R):=Pu.vE (λy0 y1=>ke 0 K HG ((z1 (w y0 (z1 (u y1))) X.1),X.2)) (λy0 y1 y2=>kr K HG ((z1 (w y0 (w y1 (u y2))) X.1),X.2)) X.1.1 (q2 X)
def aa3:bQ:=ev HG TK (λX=>(X.1.2.1,q3 X))
def L18:cg:=(cg.nil).add 5 aa3
theorem aad:ee E g18 n18 L18 (aE Tryz.f18 0):=lk HG TK (λX=>(X.1.2.1,q3 X)) λX x=>((z1 (w x.1 (z1 (u x.2))) X.1),X.2)
theorem o18:aI Tryz.prog 18 e18:=fk n18 (base.add o53) Tryz.func18 (Λ:=L18) (cF aad nF)
def e19:aM:=aA [pd (.sl (.sl .str)),pI] [rI] (c2 Pu.qZ)
def g19:bL:=bL.nil.add 22 e22
def n19:An:={mask:=mk [(5,[0,1,4,5])]}
abbrev HH:SD:=⟨.data false (.sl .arg (.sl .str))::DI::B::B::DI::DI::bs 21 [],zs 27 [],.none⟩
def TL {R:Type}(X:SD.D HH)(K:Ex→AS→Option R):=Pu.sK (λy0 y1=>ke 0 K HH ((z1 (w y0 (z1 (u y1))) X.1),X.2)) (λy0 y1 y2=>kr K HH ((z1 (w y0 (w y1 (u y2))) X.1),X.2)) X.1.1 (q2 X)
def aa4:bQ:=ev HH TL (λX=>(X.1.2.1,q3 X))
def L19:cg:=(cg.nil).add 5 aa4
theorem aae:ee E g19 n19 L19 (aE Tryz.f19 0):=lk HH TL (λX=>(X.1.2.1,q3 X)) λX x=>((z1 (w x.1 (z1 (u x.2))) X.1),X.2)
theorem o19:aI Tryz.prog 19 e19:=fk n19 (base.add o22) Tryz.func19 (Λ:=L19) (cF aae nF)
def e20:aM:=aA [pd (.sl ay),pI] [rI] (c2 Pu.jh)
theorem o20:aI Tryz.prog 20 e20:=f0 {} base Tryz.func20
def e54:aM:=aA [pf ba,pI] [rI] (c2 Pu.lI)
theorem o54:aI Tryz.prog 54 e54:=f0 {} (base.add acI) Tryz.func54
def e21:aM:=aA [pd (.sl ba),pI] [rI] (c2 Pu.qY)
def g21:bL:=bL.nil.add 54 e54
def n21:An:={mask:=mk [(5,[0,1,4,5])]}
abbrev HI:SD:=⟨.data false (.sl .arg ba)::DI::B::B::DI::DI::bs 21 [],zs 27 [],.none⟩
def TM {R:Type}(X:SD.D HI)(K:Ex→AS→Option R):=Pu.sI (λy0 y1=>ke 0 K HI ((z1 (w y0 (z1 (u y1))) X.1),X.2)) (λy0 y1 y2=>kr K HI ((z1 (w y0 (w y1 (u y2))) X.1),X.2)) X.1.1 (q2 X)
def aa5:bQ:=ev HI TM (λX=>(X.1.2.1,q3 X))
def L21:cg:=(cg.nil).add 5 aa5
theorem aaf:ee E g21 n21 L21 (aE Tryz.f21 0):=lk HI TM (λX=>(X.1.2.1,q3 X)) λX x=>((z1 (w x.1 (z1 (u x.2))) X.1),X.2)
theorem o21:aI Tryz.prog 21 e21:=fk n21 (base.add o54) Tryz.func21 (Λ:=L21) (cF aaf nF)
def e4:aM:=aA [pf bk,pI] [rI] (c2 Pu.rH)
theorem o4:aI Tryz.prog 4 e4:=f0 {} (((((base.add o18).add o19).add o20).add o21).add o22) Tryz.func4
def aen:aM:=aA [pf fU,pI] [rI] (c2 Pu.oY)
theorem ahJ:aI Tryz.prog 173 aen:=f0 {} base Tryz.func173
def adP:aM:=aA [pf bM,pI] [rI] (c2 Pu.p9)
theorem ag7:aI Tryz.prog 108 adP:=f0 {} (base.add ahJ) Tryz.func108
def e55:aM:=aA [pf yf,pI] [rI] (c2 Pu.uS)
theorem o55:aI Tryz.prog 55 e55:=f0 {} (base.add ag7) Tryz.func55
def e23:aM:=aA [pf bD,pI] [rI] (c2 Pu.lH)
theorem o23:aI Tryz.prog 23 e23:=f0 {} (base.add o55) Tryz.func23
def e5:aM:=aA [pd (.sl bD),pI] [rI] (c2 Pu.qX)
def g5:bL:=bL.nil.add 23 e23
def n5:An:={mask:=mk [(5,[0,1,4,5])]}
abbrev Pm:SD:=⟨.data false (.sl .arg bD)::DI::B::B::DI::DI::bs 21 [],zs 27 [],.none⟩
def adC {R:Type}(X:SD.D Pm)(K:Ex→AS→Option R):=Pu.sH (λy0 y1=>ke 0 K Pm ((z1 (w y0 (z1 (u y1))) X.1),X.2)) (λy0 y1 y2=>kr K Pm ((z1 (w y0 (w y1 (u y2))) X.1),X.2)) X.1.1 (q2 X)
def agU:bQ:=ev Pm adC (λX=>(X.1.2.1,q3 X))
def L5:cg:=(cg.nil).add 5 agU
theorem agQ:ee E g5 n5 L5 (aE Tryz.f5 0):=lk Pm adC (λX=>(X.1.2.1,q3 X)) λX x=>((z1 (w x.1 (z1 (u x.2))) X.1),X.2)
theorem o5:aI Tryz.prog 5 e5:=fk n5 (base.add o23) Tryz.func5 (Λ:=L5) (cF agQ nF)
def e65:aM:=aA [pf dN] [(true,Y3)] (c1 Pu.dQ)
theorem XX:aI Tryz.prog 65 e65:=f0 {sb:=mg [(2,2)]} base Tryz.func65
def aeo:aM:=aA [pf (.sl cM)] [(true,(.sl (.own none) cM))] (c1 Pu.rU)
theorem ahK:aI Tryz.prog 174 aeo:=f0 {} base Tryz.func174
def adQ:aM:=aA [pf eg] [(true,Y13)] (c1 Pu.rV)
theorem ag8:aI Tryz.prog 109 adQ:=f0 {sb:=mg [(2,2)]} (base.add ahK) Tryz.func109
def e56:aM:=aA [pf cz] [(true,Y8)] (c1 Pu.pw)
theorem o56:aI Tryz.prog 56 e56:=f0 {sb:=mg [(2,2)]} ((base.add XX).add ag8) Tryz.func56
def e57:aM:=aA [pf ba] [(true,(.pair Y3 Y2))] (c1 Pu.kc)
theorem o57:aI Tryz.prog 57 e57:=f0 {mv:=[7]} (base.add XX) Tryz.func57
def e24:aM:=aA [pf bk] [(true,Y1)] (c1 Pu.mI)
def g24:bL:=(bL.nil.add 56 e56).add 57 e57
def n24:An:={mask:=mk [(3,[1,2,3,4]),(7,[1,2,3,5]),(11,[1,2,3,6])],mv:=[24,42,61,71],mb:=mg [(24,3),(42,3),(61,3)],sb:=mg [(3,3),(33,3),(52,3),(70,3)]}
abbrev Me:SD:=⟨B::.ptr 1 0::.ptr 2 0::.ptr 3 0::DI::bs 67 [],Z::(some Y9)::(some Y7)::(some Y6)::zs 68 [],.none⟩
def TO {R:Type}(X:SD.D Me)(K:Ex→AS→Option R):=Pu.nL (λy0 y1=>ke 0 K Me ((u y0 X.1),(z2 (u y1) X.2.1),X.2.2)) X.2.1.1 X.2.1.2.1
def aa7:bQ:=ev Me TO (λX=>(X.1.1,X.2.1.2.2.1))
abbrev Mf:SD:=⟨B::.ptr 1 0::.ptr 2 0::.ptr 3 0::B::DI::bs 66 [],Z::(some Y9)::(some Y7)::(some Y6)::zs 68 [],.none⟩
def TP {R:Type}(X:SD.D Mf)(K:Ex→AS→Option R):=Pu.nM (λy0 y1=>ke 2 K Mf ((u y0 X.1),(z2 (u y1) X.2.1),X.2.2)) X.2.1.1 X.2.1.2.1
def aa8:bQ:=ev Mf TP (λX=>(X.1.1,X.2.1.2.2.1))
abbrev FW:SD:=⟨B::.ptr 1 0::.ptr 2 0::.ptr 3 0::B::B::DI::bs 65 [],Z::(some Y9)::(some Y7)::(some Y6)::zs 68 [],.none⟩
def Rz {R:Type}(X:SD.D FW)(K:Ex→AS→Option R):=Pu.mJ (λy0 y1=>ke 4 K FW ((u y0 X.1),(z2 (u y1) X.2.1),X.2.2)) X.2.1.1 X.2.1.2.1
def W2:bQ:=ev FW Rz (λX=>(X.1.1,X.2.1.2.2.1))
def L24:cg:=(((cg.nil).add 3 aa7).add 7 aa8).add 11 W2
theorem aah:ee E g24 n24 L24 (aE Tryz.f24 0):=lk Me TO (λX=>(X.1.1,X.2.1.2.2.1)) λX x=>((u x.1 X.1),(z2 (u x.2) X.2.1),X.2.2)
theorem aai:ee E g24 n24 L24 (aE Tryz.f24 1):=lk Mf TP (λX=>(X.1.1,X.2.1.2.2.1)) λX x=>((u x.1 X.1),(z2 (u x.2) X.2.1),X.2.2)
theorem VU:ee E g24 n24 L24 (aE Tryz.f24 2):=lk FW Rz (λX=>(X.1.1,X.2.1.2.2.1)) λX x=>((u x.1 X.1),(z2 (u x.2) X.2.1),X.2.2)
theorem o24:aI Tryz.prog 24 e24:=fk n24 ((base.add o56).add o57) Tryz.func24 (Λ:=L24) (cF aah (cF aai (cF VU nF)))
def R4:aM:=aA [pI,pI,pI] [rB] (c3 Pu.aQ)
theorem Ax:aI Tryz.prog 63 R4:=f0 {merge:=mg [(1,6)]} base Tryz.func63
def Sj:aM:=aA [pf dN] [rB] (c1 Pu.dG)
def af7:bL:=bL.nil.add 63 R4
def abV:An:={mask:=mk [(2,[1,2,3])],merge:=mg [(4,35),(6,2)]}
abbrev BV:SD:=⟨B::.ptr 1 0::DB::DI::bs 41 [],Z::(some XR)::zs 43 [],.none⟩
def QV {R:Type}(X:SD.D BV)(K:Ex→AS→Option R):=Pu.mr (λy0=>ke 0 K BV ((z1 (u y0) X.1),X.2)) (λy0 y1=>kr K BV ((w y0 (u y1) X.1),X.2)) X.1.1 X.2.1.1
def Wo:bQ:=ev BV QV (λX=>X.1.2.1)
def X7:cg:=(cg.nil).add 2 Wo
theorem Vi:ee E af7 abV X7 (aE Tryz.f114 0):=lk BV QV (λX=>X.1.2.1) λX x=>((z1 (u x) X.1),X.2)
theorem Lm:aI Tryz.prog 114 Sj:=fk abV (base.add Ax) Tryz.func114 (Λ:=X7) (cF Vi nF)
def YX:aM:=aA [pf ba] [rB] (c1 Pu.lO)
theorem acJ:aI Tryz.prog 110 YX:=f0 {merge:=mg [(1,2)]} ((base.add Ax).add Lm) Tryz.func110
def Po:aM:=aA [pd (.sl (.int .i64)),pI] [rB] (c2 Pu.eJ)
def agl:bL:=bL.nil
def ab8:An:={mask:=mk [(2,[0,1,4,5])]}
abbrev B6:SD:=⟨.data false (.sl .arg (.int .i64))::DI::B::B::DB::DI::bs 12 [],zs 18 [],.none⟩
def Rc {R:Type}(X:SD.D B6)(K:Ex→AS→Option R):=Pu.pt (λy0=>ke 0 K B6 ((z3 (u y0) X.1),X.2)) (λy0 y1=>kr K B6 ((z2 (w y0 (u y1)) X.1),X.2)) X.1.1 X.1.2.1 (q2 X)
def WG:bQ:=ev B6 Rc q3
def Yk:cg:=(cg.nil).add 2 WG
theorem Vz:ee E agl ab8 Yk (aE Tryz.f175 0):=lk B6 Rc q3 λX x=>((z3 (u x) X.1),X.2)
theorem Lo:aI Tryz.prog 175 Po:=fk ab8 base Tryz.func175 (Λ:=Yk) (cF Vz nF)
def YY:aM:=aA [pd (.sl (.int .i64)),pd (.sl (.int .i64))] [(false,(.sl (.own none) (.int .i64)))] (c2 Pu.nm)
def ZY:bL:=bL.nil.add 175 Po
def Xo:An:={mask:=mk [(3,[1,5,6]),(7,[1,5,6,7])],merge:=mg [(7,37)],mv:=[55]}
abbrev FA:SD:=⟨B::.data false (.sl .arg (.int .i64))::B::B::B::.data false (.sl (.own (some 61440)) (.int .i64))::DI::DI::bs 48 [],zs 56 [],.none⟩
def QS {R:Type}(X:SD.D FA)(K:Ex→AS→Option R):=Pu.mH (λy0=>ke 2 K FA ((z3 (u y0) X.1),X.2)) X.1.1 X.1.2.1 (q2 X)
def Wl:bQ:=ev FA QS q3
abbrev Fz:SD:=⟨B::.data false (.sl .arg (.int .i64))::B::B::B::.data false (.sl (.own (some 61440)) (.int .i64))::DI::bs 49 [],zs 56 [],.none⟩
def QR {R:Type}(X:SD.D Fz)(K:Ex→AS→Option R):=Pu.jA (λy0 y1=>ke 0 K Fz ((z1 (w y0 (u y1)) X.1),X.2)) X.1.1
def Wk:bQ:=ev Fz QR (λX=>(X.1.2.1,q2 X))
def Ux:cg:=((cg.nil).add 7 Wl).add 3 Wk
theorem Vf:ee E ZY Xo Ux (aE Tryz.f111 1):=lk FA QS q3 λX x=>((z3 (u x) X.1),X.2)
theorem Ve:ee E ZY Xo Ux (aE Tryz.f111 0):=lk Fz QR (λX=>(X.1.2.1,q2 X)) λX x=>((z1 (w x.1 (u x.2)) X.1),X.2)
theorem ag9:aI Tryz.prog 111 YY:=fk Xo (base.add Lo) Tryz.func111 (Λ:=Ux) (cF Ve (cF Vf nF))
def UP:aM:=aA [pd (.sl ek)] [rB] (c1 Pu.hZ)
def ZZ:bL:=((bL.nil.add 63 R4).add 114 Sj).add 175 Po
def Xp:An:={mask:=mk [(4,[0,2,3]),(9,[0,2,3,4])]}
abbrev BU:SD:=⟨.data false (.sl .arg ek)::B::DB::DI::DI::bs 53 [],zs 58 [],.none⟩
def QU {R:Type}(X:SD.D BU)(K:Ex→AS→Option R):=Pu.nD (λy0=>ke 2 K BU ((z3 (u y0) X.1),X.2)) (λy0 y1=>kr K BU ((z1 (w y0 (z1 (u y1))) X.1),X.2)) X.1.1 X.1.2.1 (q2 X)
def Wn:bQ:=ev BU QU q3
abbrev BT:SD:=⟨.data false (.sl .arg ek)::B::DB::DI::bs 54 [],zs 58 [],.none⟩
def QT {R:Type}(X:SD.D BT)(K:Ex→AS→Option R):=Pu.nC (λy0=>ke 0 K BT ((z2 (u y0) X.1),X.2)) (λy0 y1=>kr K BT ((z1 (w y0 (u y1)) X.1),X.2)) X.1.1 X.1.2.1
def Wm:bQ:=ev BT QT q2
def Uy:cg:=((cg.nil).add 9 Wn).add 4 Wm
theorem Vh:ee E ZZ Xp Uy (aE Tryz.f112 1):=lk BU QU q3 λX x=>((z3 (u x) X.1),X.2)
theorem Vg:ee E ZZ Xp Uy (aE Tryz.f112 0):=lk BT QT q2 λX x=>((z2 (u x) X.1),X.2)
theorem SV:aI Tryz.prog 112 UP:=fk Xp (((base.add Ax).add Lm).add Lo) Tryz.func112 (Λ:=Uy) (cF Vg (cF Vh nF))
def ZW:aM:=aA [pd (.sl ba)] [(false,(.sl (.own none) ek)),rB] (c1 Pu.jY)
def g58:bL:=(((bL.nil.add 63 R4).add 110 YX).add 111 YY).add 112 UP
def n58:An:={mask:=mk [(5,[0,2,3,4,5])],mv:=[41,63]}
abbrev HW:SD:=⟨.data false (.sl .arg ba)::B::.data false (.sl (.own (some 24576)) ek)::DB::.data false (.sl (.own (some 49152)) ek)::DI::bs 58 [],zs 64 [],.none⟩
def Ug {R:Type}(X:SD.D HW)(K:Ex→AS→Option R):=Pu.kx (λy0 y1=>ke 0 K HW ((z3 (w y0 (u y1)) X.1),X.2)) (λy0 y1 y2 y3=>kr K HW ((z1 (w y0 (w y1 (w y2 (u y3)))) X.1),X.2)) X.1.1 X.1.2.1 (q2 X)
def abz:bQ:=ev HW Ug (λX=>(q3 X,q4 X))
def L58:cg:=(cg.nil).add 5 abz
theorem aaI:ee E g58 n58 L58 (aE Tryz.f58 0):=lk HW Ug (λX=>(q3 X,q4 X)) λX x=>((z3 (w x.1 (u x.2)) X.1),X.2)
theorem o58:aI Tryz.prog 58 ZW:=fk n58 ((((base.add Ax).add acJ).add ag9).add SV) Tryz.func58 (Λ:=L58) (cF aaI nF)
def YZ:aM:=aA [pf dE] [rB] (c1 Pu.kK)
theorem Xy:aI Tryz.prog 113 YZ:=f0 {merge:=mg [(1,2)]} (base.add Ax) Tryz.func113
def e59:aM:=aA [pd (.sl ay),pd (.sl ek)] [rB] (c2 Pu.jw)
def g59:bL:=((bL.nil.add 63 R4).add 112 UP).add 113 YZ
def n59:An:={mask:=mk [(4,[0,1,4,5]),(10,[0,1,4,5,6,7])],merge:=mg [(7,51),(12,74)]}
abbrev Ck:SD:=⟨.data false (.sl .arg ay)::.data false (.sl .arg ek)::B::B::DB::DI::.ptr 6 0::DI::bs 67 [],zs 6 ((some Y15)::zs 68 []),.none⟩
def RS {R:Type}(X:SD.D Ck)(K:Ex→AS→Option R):=Pu.hY (λy0=>ke 2 K Ck ((z4 (u y0) X.1),X.2)) (λy0 y1=>kr K Ck ((z2 (w y0 (z1 (u y1))) X.1),X.2)) X.1.1 X.1.2.1 (q2 X) (q3 X) X.2.1.1
def Xk:bQ:=ev Ck RS q4
abbrev HX:SD:=⟨.data false (.sl .arg ay)::.data false (.sl .arg ek)::B::B::DB::DI::bs 69 [],zs 75 [],.none⟩
def Uh {R:Type}(X:SD.D HX)(K:Ex→AS→Option R):=Pu.iH (λy0=>ke 0 K HX ((z3 (u y0) X.1),X.2)) (λy0 y1=>kr K HX ((z2 (w y0 (u y1)) X.1),X.2)) X.1.1 X.1.2.1 (q2 X)
def abA:bQ:=ev HX Uh q3
def L59:cg:=((cg.nil).add 10 Xk).add 4 abA
theorem Wc:ee E g59 n59 L59 (aE Tryz.f59 1):=lk Ck RS q4 λX x=>((z4 (u x) X.1),X.2)
theorem aaJ:ee E g59 n59 L59 (aE Tryz.f59 0):=lk HX Uh q3 λX x=>((z3 (u x) X.1),X.2)
theorem o59:aI Tryz.prog 59 e59:=fk n59 (((base.add Ax).add SV).add Xy) Tryz.func59 (Λ:=L59) (cF aaJ (cF Wc nF))
def ZB:aM:=aA [pf dn] [rB] (c1 Pu.ia)
theorem ac8:aI Tryz.prog 219 ZB:=f0 {merge:=mg [(1,33),(3,54),(5,2)]} (base.add Ax) Tryz.func219
def UX:aM:=aA [pd (.sl dn)] [rB] (c1 Pu.pk)
def agm:bL:=bL.nil.add 219 ZB
def ab9:An:={mask:=mk [(2,[0,2,3])]}
abbrev B7:SD:=⟨.data false (.sl .arg dn)::B::DB::DI::bs 15 [],zs 19 [],.none⟩
def Rd {R:Type}(X:SD.D B7)(K:Ex→AS→Option R):=Pu.nE (λy0=>ke 0 K B7 ((z2 (u y0) X.1),X.2)) (λy0 y1=>kr K B7 ((z1 (w y0 (u y1)) X.1),X.2)) X.1.1 X.1.2.1
def WH:bQ:=ev B7 Rd q2
def Yl:cg:=(cg.nil).add 2 WH
theorem VA:ee E agm ab9 Yl (aE Tryz.f176 0):=lk B7 Rd q2 λX x=>((z2 (u x) X.1),X.2)
theorem acX:aI Tryz.prog 176 UX:=fk ab9 (base.add ac8) Tryz.func176 (Λ:=Yl) (cF VA nF)
def ZL:aM:=aA [pf iK] [rI] (c1 Pu.qj)
def agG:bL:=bL.nil
def acw:An:={mask:=mk [(4,[3,4,5])]}
abbrev F0:SD:=⟨B::B::B::DI::.data false (.sl (.own (some 49152)) (.int .i64))::DI::bs 26 [],zs 32 [],.none⟩
def RG {R:Type}(X:SD.D F0)(K:Ex→AS→Option R):=Pu.jx (λy0 y1=>ke 0 K F0 ((w y0 (z1 (u y1)) X.1),X.2)) X.1.2.1
def W8:bQ:=ev F0 RG (λX=>(X.1.1,q2 X))
def YF:cg:=(cg.nil).add 4 W8
theorem V0:ee E agG acw YF (aE Tryz.f268 0):=lk F0 RG (λX=>(X.1.1,q2 X)) λX x=>((w x.1 (z1 (u x.2)) X.1),X.2)
theorem aiG:aI Tryz.prog 268 ZL:=fk acw base Tryz.func268 (Λ:=YF) (cF V0 nF)
def ZC:aM:=aA [pf (.sl cM),pf iK] [rI] (c2 Pu.pq)
def agu:bL:=bL.nil.add 268 ZL
def aci:An:={mask:=mk [(2,[2,3,4,5])],merge:=mg [(7,39)]}
abbrev Cf:SD:=⟨B::B::.ptr 2 0::.ptr 3 0::DI::DI::bs 35 [],Z::Z::(some (.sl .arg cM))::(some O5)::zs 37 [],.none⟩
def Rn {R:Type}(X:SD.D Cf)(K:Ex→AS→Option R):=Pu.kz (λy0=>ke 0 K Cf ((z1 (u y0) X.1),X.2)) (λy0 y1=>kr K Cf ((w y0 (u y1) X.1),X.2)) X.1.1 X.2.1.1 X.2.1.2.1
def WR:bQ:=ev Cf Rn (λX=>X.1.2.1)
def Yt:cg:=(cg.nil).add 2 WR
theorem VJ:ee E agu aci Yt (aE Tryz.f220 0):=lk Cf Rn (λX=>X.1.2.1) λX x=>((z1 (u x) X.1),X.2)
theorem ac9:aI Tryz.prog 220 ZC:=fk aci (base.add aiG) Tryz.func220 (Λ:=Yt) (cF VJ nF)
def Zs:aM:=aA [pf (.sl cM)] [rB] (c1 Pu.pn)
def agn:bL:=(bL.nil.add 63 R4).add 220 ZC
def aca:An:={mask:=mk [(4,[1,2,3])],merge:=mg [(7,30),(10,42)]}
abbrev B8:SD:=⟨B::.ptr 1 0::DB::DI::bs 45 [],Z::(some (.sl .arg cM))::zs 47 [],.none⟩
def Re {R:Type}(X:SD.D B8)(K:Ex→AS→Option R):=Pu.nH (λy0=>ke 0 K B8 ((z1 (u y0) X.1),X.2)) (λy0 y1=>kr K B8 ((w y0 (u y1) X.1),X.2)) X.1.1 X.2.1.1
def WI:bQ:=ev B8 Re (λX=>X.1.2.1)
def Ym:cg:=(cg.nil).add 4 WI
theorem VB:ee E agn aca Ym (aE Tryz.f177 0):=lk B8 Re (λX=>X.1.2.1) λX x=>((z1 (u x) X.1),X.2)
theorem acY:aI Tryz.prog 177 Zs:=fk aca ((base.add Ax).add ac9) Tryz.func177 (Λ:=Ym) (cF VB nF)
def ZD:aM:=aA [pI] [rB] (c1 Pu.rT)
theorem aif:aI Tryz.prog 221 ZD:=f0 {merge:=mg [(1,2)]} base Tryz.func221
def Zt:aM:=aA [pf gF,pI] [rB] (c2 Pu.nk)
def ago:bL:=(bL.nil.add 63 R4).add 221 ZD
def acb:An:={mask:=mk [(4,[1,2,4,5])],merge:=mg [(1,21)]}
abbrev B9:SD:=⟨B::DI::.ptr 2 0::B::DB::DI::bs 32 [],Z::Z::(some (.pair .str (.sl .arg (.int .i64))))::zs 35 [],.none⟩
def Rf {R:Type}(X:SD.D B9)(K:Ex→AS→Option R):=Pu.mC (λy0=>ke 0 K B9 ((z2 (u y0) X.1),X.2)) (λy0 y1=>kr K B9 ((z1 (w y0 (u y1)) X.1),X.2)) X.1.1 X.1.2.1 X.2.1.1
def WJ:bQ:=ev B9 Rf q2
def Yn:cg:=(cg.nil).add 4 WJ
theorem VC:ee E ago acb Yn (aE Tryz.f178 0):=lk B9 Rf q2 λX x=>((z2 (u x) X.1),X.2)
theorem acZ:aI Tryz.prog 178 Zt:=fk acb ((base.add Ax).add aif) Tryz.func178 (Λ:=Yn) (cF VC nF)
def adR:aM:=aA [pf eg,pI] [rB] (c2 Pu.ky)
def Z0:bL:=((bL.nil.add 176 UX).add 177 Zs).add 178 Zt
def Xq:An:={mask:=mk [(4,[1,2,4,5]),(9,[1,2,4,6])],merge:=mg [(1,23)]}
abbrev BW:SD:=⟨B::DI::.ptr 2 0::B::DB::DI::bs 50 [],Z::Z::(some Y16)::zs 53 [],.none⟩
def QW {R:Type}(X:SD.D BW)(K:Ex→AS→Option R):=Pu.jZ (λy0=>ke 0 K BW ((z2 (u y0) X.1),X.2)) (λy0 y1=>kr K BW ((z1 (w y0 (u y1)) X.1),X.2)) X.1.1 X.1.2.1 X.2.1.1
def Wp:bQ:=ev BW QW q2
abbrev BX:SD:=⟨B::DI::.ptr 2 0::B::DB::B::DI::bs 49 [],Z::Z::(some Y16)::zs 53 [],.none⟩
def QX {R:Type}(X:SD.D BX)(K:Ex→AS→Option R):=Pu.ka (λy0=>ke 2 K BX ((z2 (u y0) X.1),X.2)) (λy0 y1=>kr K BX ((z1 (w y0 (u y1)) X.1),X.2)) X.1.1 X.1.2.1 X.2.1.1
def Wq:bQ:=ev BX QX q2
def Uz:cg:=((cg.nil).add 4 Wp).add 9 Wq
theorem Vj:ee E Z0 Xq Uz (aE Tryz.f115 0):=lk BW QW q2 λX x=>((z2 (u x) X.1),X.2)
theorem Vk:ee E Z0 Xq Uz (aE Tryz.f115 1):=lk BX QX q2 λX x=>((z2 (u x) X.1),X.2)
theorem acK:aI Tryz.prog 115 adR:=fk Xq (((base.add acX).add acY).add acZ) Tryz.func115 (Λ:=Uz) (cF Vj (cF Vk nF))
def e60:aM:=aA [pf cz] [rB] (c1 Pu.qK)
theorem o60:aI Tryz.prog 60 e60:=f0 {merge:=mg [(1,2)]} ((base.add Lm).add acK) Tryz.func60
def adS:aM:=aA [pd (.sl (.int .i64)),pd (.sl (.int .i64))] [rB] (c2 Pu.za)
def af8:bL:=bL.nil
def abW:An:={mask:=mk [(4,[0,1,4,5])]}
abbrev BZ:SD:=⟨.data false (.sl .arg (.int .i64))::.data false (.sl .arg (.int .i64))::B::B::DB::DI::bs 20 [],zs 26 [],.none⟩
def QY {R:Type}(X:SD.D BZ)(K:Ex→AS→Option R):=Pu.vJ (λy0=>ke 0 K BZ ((z3 (u y0) X.1),X.2)) (λy0 y1=>kr K BZ ((z2 (w y0 (u y1)) X.1),X.2)) X.1.1 X.1.2.1 (q2 X)
def Wr:bQ:=ev BZ QY q3
def X8:cg:=(cg.nil).add 4 Wr
theorem Vl:ee E af8 abW X8 (aE Tryz.f116 0):=lk BZ QY q3 λX x=>((z3 (u x) X.1),X.2)
theorem aha:aI Tryz.prog 116 adS:=fk abW base Tryz.func116 (Λ:=X8) (cF Vl nF)
def e61:aM:=aA [pf dN,pf dN] [rB] (c2 Pu.nS)
theorem o61:aI Tryz.prog 61 e61:=f0 {merge:=mg [(1,4)]} (base.add aha) Tryz.func61
def e25:aM:=aA [pf bk] [rB] (c1 Pu.mu)
def g25:bL:=(((bL.nil.add 58 ZW).add 59 e59).add 60 e60).add 61 e61
def n25:An:={mask:=mk [(6,[1,2,5,6])],merge:=mg [(3,45),(8,94)]}
abbrev HK:SD:=⟨B::.ptr 1 0::DB::B::B::DI::DI::bs 88 [],Z::(some Y9)::zs 93 [],.none⟩
def TQ {R:Type}(X:SD.D HK)(K:Ex→AS→Option R):=Pu.nB (λy0=>ke 0 K HK ((z2 (u y0) X.1),X.2)) (λy0 y1=>kr K HK ((w y0 (z1 (u y1)) X.1),X.2)) X.1.1 X.1.2.1 X.2.1.1
def aa9:bQ:=ev HK TQ q2
def L25:cg:=(cg.nil).add 6 aa9
theorem aaj:ee E g25 n25 L25 (aE Tryz.f25 0):=lk HK TQ q2 λX x=>((z2 (u x) X.1),X.2)
theorem o25:aI Tryz.prog 25 e25:=fk n25 ((((base.add o58).add o59).add o60).add o61) Tryz.func25 (Λ:=L25) (cF aaj nF)
def e62:aM:=aA [pf yf] [rB] (c1 Pu.pE)
theorem o62:aI Tryz.prog 62 e62:=f0 {merge:=mg [(1,12),(3,31),(5,2)]} (base.add Ax) Tryz.func62
def aeU:aM:=aA [pf dN,pI] [(true,Y3),rB] (c2 Pu.rM)
def agv:bL:=(bL.nil.add 65 e65).add 114 Sj
def acj:An:={mask:=mk [(3,[1,2,4,6,7])],merge:=mg [(3,23),(6,48)],mv:=[51],sb:=mg [(40,6)]}
abbrev FL:SD:=⟨B::DI::.ptr 2 0::B::.ptr 4 0::B::.ptr 6 0::DI::bs 44 [],Z::Z::(some XR)::Z::(some Y19)::Z::(some Y18)::zs 45 [],.none⟩
def Ro {R:Type}(X:SD.D FL)(K:Ex→AS→Option R):=Pu.kt (λy0=>ke 0 K FL ((z1 (u y0) X.1),X.2)) X.1.1 X.2.1.1 X.2.1.2.1 X.2.1.2.2.1
def WS:bQ:=ev FL Ro (λX=>X.1.2.1)
def Yu:cg:=(cg.nil).add 3 WS
theorem VK:ee E agv acj Yu (aE Tryz.f222 0):=lk FL Ro (λX=>X.1.2.1) λX x=>((z1 (u x) X.1),X.2)
theorem aih:aI Tryz.prog 222 aeU:=fk acj ((base.add XX).add Lm) Tryz.func222 (Λ:=Yu) (cF VK nF)
def aeV:aM:=aA [pf dN,pI] [(true,Y3),rB] (c2 Pu.qe)
def agw:bL:=((bL.nil.add 65 e65).add 114 Sj).add 175 Po
def ack:An:={mask:=mk [(6,[1,2,4,6,7])],merge:=mg [(2,19)],mv:=[20,38,47],mb:=mg [(38,6)],sb:=mg [(46,6)]}
abbrev FN:SD:=⟨B::DI::.ptr 2 0::B::.ptr 4 0::B::.ptr 6 0::DI::bs 40 [],Z::Z::(some XR)::Z::(some Y19)::Z::(some Y18)::zs 41 [],.none⟩
def Rp {R:Type}(X:SD.D FN)(K:Ex→AS→Option R):=Pu.mq (λy0 y1=>ke 0 K FN ((z1 (u y0) X.1),(z2 (u y1) X.2.1),X.2.2)) X.1.1 X.2.1.1 X.2.1.2.1
def WT:bQ:=ev FN Rp (λX=>(X.1.2.1,X.2.1.2.2.1))
def Yv:cg:=(cg.nil).add 6 WT
theorem VL:ee E agw ack Yv (aE Tryz.f223 0):=lk FN Rp (λX=>(X.1.2.1,X.2.1.2.2.1)) λX x=>((z1 (u x.1) X.1),(z2 (u x.2) X.2.1),X.2.2)
theorem aii:aI Tryz.prog 223 aeV:=fk ack (((base.add XX).add Lm).add Lo) Tryz.func223 (Λ:=Yv) (cF VL nF)
def aep:aM:=aA [pf dN,pf dE] [(true,Y3),rI] (c2 Pu.nJ)
theorem ahL:aI Tryz.prog 179 aep:=f0 {mv:=[21,30,39,46],mb:=mg [(39,6)],sb:=mg [(4,4)]} ((((base.add XX).add Lm).add aih).add aii) Tryz.func179
def Za:aM:=aA [pf ba,pf dE] [(true,(.pair Y3 Y2)),rI] (c2 Pu.jX)
theorem ahb:aI Tryz.prog 117 Za:=f0 {merge:=mg [(6,33)],mv:=[12,18,34,35,51],mb:=mg [(18,6),(51,6)],sb:=mg [(4,4)],fm:=[53]} (((base.add o57).add acJ).add ahL) Tryz.func117
def e64:aM:=aA [pd (.sl ba),pI,pf dE] [(false,(.sl (.own none) ba)),rI] (c3 Pu.nK)
def g64:bL:=((bL.nil.add 57 e57).add 58 ZW).add 117 Za
def n64:An:={mask:=mk [(3,[0,1,5,8,9])],mv:=[21,29,36,40,48,78],sb:=mg [(10,10)]}
abbrev Mt:SD:=⟨.data false (.sl .arg ba)::DI::B::B::B::.ptr 5 0::B::B::.data false (.sl (.own (some 98304)) ba)::DI::bs 69 [],zs 5 ((some Y2)::zs 73 []),.none⟩
def Ui {R:Type}(X:SD.D Mt)(K:Ex→AS→Option R):=Pu.kf (λy0 y1=>ke 0 K Mt ((z2 (w y0 (u y1)) X.1),X.2)) X.1.1 X.1.2.1 X.2.1.1
def abB:bQ:=ev Mt Ui (λX=>(q2 X,q3 X))
def L64:cg:=(cg.nil).add 3 abB
theorem aaK:ee E g64 n64 L64 (aE Tryz.f64 0):=lk Mt Ui (λX=>(q2 X,q3 X)) λX x=>((z2 (w x.1 (u x.2)) X.1),X.2)
theorem o64:aI Tryz.prog 64 e64:=fk n64 (((base.add o57).add o58).add ahb) Tryz.func64 (Λ:=L64) (cF aaK nF)
def aeW:aM:=aA [pf fU] [rB] (c1 Pu.lP)
theorem ada:aI Tryz.prog 224 aeW:=f0 {merge:=mg [(1,18),(4,2),(5,2)]} (base.add Ax) Tryz.func224
def Zu:aM:=aA [pf bM] [rB] (c1 Pu.eD)
theorem GK:aI Tryz.prog 180 Zu:=f0 {merge:=mg [(1,55),(3,3),(4,2)]} ((base.add Ax).add ada) Tryz.func180
def adX:aM:=aA [pf bM] [rB] (c1 Pu.iu)
theorem SW:aI Tryz.prog 124 adX:=f0 {merge:=mg [(1,2)]} (base.add GK) Tryz.func124
def afa:aM:=aA [pI] [rS] (c1 Pu.bV)
theorem Lp:aI Tryz.prog 238 afa:=f0 {} (base.add Ax) Tryz.func238
def afx:aM:=aA [pI] [rS] (c1 Pu.dJ)
theorem Qf:aI Tryz.prog 269 afx:=f0 {} (base.add Ax) Tryz.func269
def afy:aM:=aA [pI,pI,pI,pI] [rS,rB] (c4 Pu.h9)
theorem aiH:aI Tryz.prog 270 afy:=f0 {merge:=mg [(1,27)]} (((base.add Ax).add Lp).add Qf) Tryz.func270
def ZR:aM:=aA [pI,pI] [rI] (c2 Pu.hK)
theorem ai6:aI Tryz.prog 301 ZR:=f0 {merge:=mg [(1,12)]} (base.add Ax) Tryz.func301
def afP:aM:=aA [pd .str] [rI] (c1 Pu.qp)
def agK:bL:=bL.nil.add 301 ZR
def acA:An:={mask:=mk [(3,[0,3,4])]}
abbrev F5:SD:=⟨.data false .str::B::B::DI::DI::bs 28 [],zs 33 [],.none⟩
def RL {R:Type}(X:SD.D F5)(K:Ex→AS→Option R):=Pu.mG (λy0 y1=>ke 0 K F5 ((z1 (w y0 (u y1)) X.1),X.2)) X.1.1
def Xd:bQ:=ev F5 RL (λX=>(X.1.2.1,q2 X))
def YJ:cg:=(cg.nil).add 3 Xd
theorem V5:ee E agK acA YJ (aE Tryz.f292 0):=lk F5 RL (λX=>(X.1.2.1,q2 X)) λX x=>((z1 (w x.1 (u x.2)) X.1),X.2)
theorem aiY:aI Tryz.prog 292 afP:=fk acA (base.add ai6) Tryz.func292 (Λ:=YJ) (cF V5 nF)
def afz:aM:=aA [pd .str] [rI] (c1 Pu.kL)
theorem adr:aI Tryz.prog 271 afz:=f0 {} (base.add aiY) Tryz.func271
def afE:aM:=aA [pd .str,pI,pI] [rB] (c3 Pu.jz)
theorem XG:aI Tryz.prog 276 afE:=f0 {merge:=mg [(1,6)]} base Tryz.func276
def afA:aM:=aA [pd .str,pI,pd .str] [rS] (c3 Pu.gn)
theorem ads:aI Tryz.prog 272 afA:=f0 {} (base.add XG) Tryz.func272
def aeX:aM:=aA [pI,pI,pf fU] [rS,rB] (c3 Pu.fL)
theorem adb:aI Tryz.prog 225 aeX:=f0 {merge:=mg [(14,82)]} ((((((base.add ada).add Lp).add Qf).add aiH).add adr).add ads) Tryz.func225
def afQ:aM:=aA [pf Tu] [rB] (c1 Pu.wY)
theorem aiZ:aI Tryz.prog 293 afQ:=f0 {merge:=mg [(1,2)]} (base.add Ax) Tryz.func293
def afB:aM:=aA [pf Tu] [rS,rB] (c1 Pu.qk)
theorem aiI:aI Tryz.prog 273 afB:=f0 {} (((((base.add Lp).add Qf).add adr).add ads).add aiZ) Tryz.func273
def aeY:aM:=aA [pf Tu] [rS,rB] (c1 Pu.pb)
theorem ade:aI Tryz.prog 226 aeY:=f0 {} (base.add aiI) Tryz.func226
def ae4:aM:=aA [pf Nq] [rB] (c1 Pu.pF)
theorem adf:aI Tryz.prog 232 ae4:=f0 {merge:=mg [(1,2)]} (base.add Ax) Tryz.func232
def afC:aM:=aA [pI] [rS] (c1 Pu.fS)
theorem aiJ:aI Tryz.prog 274 afC:=f0 {} ((base.add Lp).add Qf) Tryz.func274
def aeZ:aM:=aA [pf Nq] [rS,rB] (c1 Pu.qc)
theorem aij:aI Tryz.prog 227 aeZ:=f0 {} (((base.add adf).add Lp).add aiJ) Tryz.func227
def afD:aM:=aA [pI,pd (.int .u8)] [rS] (c2 Pu.rR)
def agH:bL:=bL.nil
def acx:An:={mask:=mk [(3,[0,1,5,6])]}
abbrev F2:SD:=⟨DI::.data false (.int .u8)::B::B::B::.data false (.sl (.own (some 61440)) (.int .u8))::DI::bs 13 [],zs 20 [],.none⟩
def RI {R:Type}(X:SD.D F2)(K:Ex→AS→Option R):=Pu.nI (λy0 y1=>ke 0 K F2 ((z2 (w y0 (u y1)) X.1),X.2)) X.1.1 X.1.2.1
def Xa:bQ:=ev F2 RI (λX=>(q2 X,q3 X))
def YG:cg:=(cg.nil).add 3 Xa
theorem V2:ee E agH acx YG (aE Tryz.f275 0):=lk F2 RI (λX=>(q2 X,q3 X)) λX x=>((z2 (w x.1 (u x.2)) X.1),X.2)
theorem aiK:aI Tryz.prog 275 afD:=fk acx base Tryz.func275 (Λ:=YG) (cF V2 nF)
def ae0:aM:=aA [pd .str] [rS] (c1 Pu.rP)
theorem aik:aI Tryz.prog 228 ae0:=f0 {} (base.add aiK) Tryz.func228
def aeq:aM:=aA [pf bM] [rS,rB] (c1 Pu.kv)
theorem ac0:aI Tryz.prog 181 aeq:=f0 {} (((((base.add GK).add adb).add ade).add aij).add aik) Tryz.func181
def ae1:aM:=aA [pd .str] [rI] (c1 Pu.vf)
def Z5:bL:=bL.nil
def Xv:An:={mask:=mk [(3,[0,3,4]),(7,[0,3,4,5])]}
abbrev FP:SD:=⟨.data false .str::B::B::DI::DI::DI::bs 26 [],zs 32 [],.none⟩
def Rr {R:Type}(X:SD.D FP)(K:Ex→AS→Option R):=Pu.kM (λy0 y1=>ke 2 K FP ((z1 (w y0 (z1 (u y1))) X.1),X.2)) X.1.1 (q2 X)
def WV:bQ:=ev FP Rr (λX=>(X.1.2.1,q3 X))
abbrev FO:SD:=⟨.data false .str::B::B::DI::DI::bs 27 [],zs 32 [],.none⟩
def Rq {R:Type}(X:SD.D FO)(K:Ex→AS→Option R):=Pu.nj (λy0 y1=>ke 0 K FO ((z1 (w y0 (u y1)) X.1),X.2)) X.1.1
def WU:bQ:=ev FO Rq (λX=>(X.1.2.1,q2 X))
def UE:cg:=((cg.nil).add 7 WV).add 3 WU
theorem VN:ee E Z5 Xv UE (aE Tryz.f229 1):=lk FP Rr (λX=>(X.1.2.1,q3 X)) λX x=>((z1 (w x.1 (z1 (u x.2))) X.1),X.2)
theorem VM:ee E Z5 Xv UE (aE Tryz.f229 0):=lk FO Rq (λX=>(X.1.2.1,q2 X)) λX x=>((z1 (w x.1 (u x.2)) X.1),X.2)
theorem ail:aI Tryz.prog 229 ae1:=fk Xv base Tryz.func229 (Λ:=UE) (cF VM (cF VN nF))
def aes:aM:=aA [pd .str] [rS] (c1 Pu.po)
theorem ac1:aI Tryz.prog 183 aes:=f0 {} (base.add ail) Tryz.func183
def UR:aM:=aA [pf bM] [rS,rB] (c1 Pu.ku)
theorem acM:aI Tryz.prog 127 UR:=f0 {} (((base.add SW).add ac0).add ac1) Tryz.func127
def adT:aM:=aA [pd (.sl bM)] [(false,(.sl (.own none) .str))] (c1 Pu.qh)
def af9:bL:=bL.nil.add 127 UR
def abX:An:={mask:=mk [(3,[0,3,4])],mv:=[23,27]}
abbrev FB:SD:=⟨.data false (.sl .arg bM)::B::B::.data false (.sl (.own (some 36864)) .str)::DI::bs 23 [],zs 28 [],.none⟩
def QZ {R:Type}(X:SD.D FB)(K:Ex→AS→Option R):=Pu.jv (λy0 y1=>ke 0 K FB ((z1 (w y0 (u y1)) X.1),X.2)) X.1.1
def Ws:bQ:=ev FB QZ (λX=>(X.1.2.1,q2 X))
def X9:cg:=(cg.nil).add 3 Ws
theorem Vm:ee E af9 abX X9 (aE Tryz.f118 0):=lk FB QZ (λX=>(X.1.2.1,q2 X)) λX x=>((z1 (w x.1 (u x.2)) X.1),X.2)
theorem ahc:aI Tryz.prog 118 adT:=fk abX (base.add acM) Tryz.func118 (Λ:=X9) (cF Vm nF)
def adU:aM:=aA [pf bM,pI] [(false,(.sl (.own none) bM))] (c2 Pu.vg)
def aga:bL:=(bL.nil.add 63 R4).add 180 Zu
def abY:An:={mask:=mk [(8,[1,2,5,6,7])],merge:=mg [(2,17),(5,31)],mv:=[18,32,87,91]}
abbrev FC:SD:=⟨B::DI::.ptr 2 0::B::B::.data false (.sl (.own (some 61440)) bM)::DI::DI::bs 84 [],Z::Z::(some Y0)::zs 89 [],.none⟩
def Q0 {R:Type}(X:SD.D FC)(K:Ex→AS→Option R):=Pu.qo (λy0 y1=>ke 0 K FC ((z1 (w y0 (z1 (u y1))) X.1),X.2)) X.1.1 (q2 X) X.2.1.1
def Wt:bQ:=ev FC Q0 (λX=>(X.1.2.1,q3 X))
def Ya:cg:=(cg.nil).add 8 Wt
theorem Vn:ee E aga abY Ya (aE Tryz.f119 0):=lk FC Q0 (λX=>(X.1.2.1,q3 X)) λX x=>((z1 (w x.1 (z1 (u x.2))) X.1),X.2)
theorem ahd:aI Tryz.prog 119 adU:=fk abY ((base.add Ax).add GK) Tryz.func119 (Λ:=Ya) (cF Vn nF)
def e66:aM:=aA [pf bM,pI] [(false,(.sl (.own none) .str))] (c2 Pu.nG)
theorem o66:aI Tryz.prog 66 e66:=f0 {} ((base.add ahc).add ahd) Tryz.func66
def adV:aM:=aA [pd .str] [rS,rB] (c1 Pu.qd)
theorem ahg:aI Tryz.prog 122 adV:=f0 {merge:=mg [(1,16)]} (base.add ac1) Tryz.func122
def ae2:aM:=aA [pd .str,pI] [rI] (c2 Pu.eF)
theorem SZ:aI Tryz.prog 230 ae2:=f0 {} (base.add XG) Tryz.func230
def ae3:aM:=aA [pd .str,pI] [rI] (c2 Pu.jW)
theorem XD:aI Tryz.prog 231 ae3:=f0 {} ((base.add SZ).add XG) Tryz.func231
def aet:aM:=aA [pd .str] [(true,Y10),rB] (c1 Pu.ql)
theorem ahN:aI Tryz.prog 184 aet:=f0 {sb:=mg [(4,4)]} (((base.add SZ).add XD).add adf) Tryz.func184
def aeu:aM:=aA [pd .str] [(true,XS),rB] (c1 Pu.rQ)
theorem ahO:aI Tryz.prog 185 aeu:=f0 {merge:=mg [(2,22),(6,56)],sb:=mg [(5,5)]} (((base.add ade).add SZ).add XD) Tryz.func185
def aev:aM:=aA [pI,pI,pI,pd .str] [(true,(.pair (.int .i64) XS)),rB] (c4 Pu.lb)
theorem ahP:aI Tryz.prog 186 aev:=f0 {merge:=mg [(3,20),(9,44),(12,68)]} (((base.add adb).add SZ).add XD) Tryz.func186
def adW:aM:=aA [pd .str] [(true,Y0),rI] (c1 Pu.pj)
theorem ahh:aI Tryz.prog 123 adW:=f0 {merge:=mg [(2,20)]} ((((base.add GK).add ahN).add ahO).add ahP) Tryz.func123
def e68:aM:=aA [pd .str] [(true,Y0),rI] (c1 Pu.jy)
theorem o68:aI Tryz.prog 68 e68:=f0 {} (((base.add ahg).add ahh).add SW) Tryz.func68
def UQ:aM:=aA [pd (.sl ek),pI,pf bM] [rI] (c3 Pu.jt)
theorem Xz:aI Tryz.prog 126 UQ:=f0 {merge:=mg [(1,23),(6,61)]} ((((base.add Ax).add SV).add Lo).add GK) Tryz.func126
def Zd:aM:=aA [pd (.sl ek),pI,pf bM] [(false,(.sl (.own none) (.int .i64)))] (c3 Pu.ib)
def Z1:bL:=(bL.nil.add 126 UQ).add 175 Po
def Xr:An:={mask:=mk [(7,[0,1,5,7,8,9,10]),(12,[0,1,5,7,8,9,11])],merge:=mg [(14,62)],mv:=[19,63,67]}
abbrev FD:SD:=⟨.data false (.sl .arg ek)::DI::B::B::B::.ptr 5 0::B::.data false (.sl (.own (some 86016)) (.int .i64))::DI::DI::DI::bs 57 [],zs 5 ((some Y0)::zs 62 []),.none⟩
def Q1 {R:Type}(X:SD.D FD)(K:Ex→AS→Option R):=Pu.ic (λy0 y1=>ke 0 K FD ((z4 (w y0 (u y1)) X.1),X.2)) X.1.1 X.1.2.1 (q2 X) (q3 X) X.2.1.1
def Wu:bQ:=ev FD Q1 (λX=>(q4 X,q5 X))
abbrev Be:SD:=⟨.data false (.sl .arg ek)::DI::B::B::B::.ptr 5 0::B::.data false (.sl (.own (some 86016)) (.int .i64))::DI::DI::B::DI::bs 56 [],zs 5 ((some Y0)::zs 62 []),.none⟩
def Ni {R:Type}(X:SD.D Be)(K:Ex→AS→Option R):=Pu.gI (λy0 y1=>ke 2 K Be ((z2 (w y0 (z2 (u y1))) X.1),X.2)) X.1.1 X.1.2.1 (q3 X) (q4 X) X.2.1.1
def SK:bQ:=ev Be Ni (λX=>(q2 X,q5 X))
def UA:cg:=((cg.nil).add 7 Wu).add 12 SK
theorem Vo:ee E Z1 Xr UA (aE Tryz.f125 0):=lk FD Q1 (λX=>(q4 X,q5 X)) λX x=>((z4 (w x.1 (u x.2)) X.1),X.2)
theorem SF:ee E Z1 Xr UA (aE Tryz.f125 1):=lk Be Ni (λX=>(q2 X,q5 X)) λX x=>((z2 (w x.1 (z2 (u x.2))) X.1),X.2)
theorem acL:aI Tryz.prog 125 Zd:=fk Xr ((base.add Xz).add Lo) Tryz.func125 (Λ:=UA) (cF Vo (cF SF nF))
def aer:aM:=aA [pf dE,pI] [(true,Y2),rB] (c2 Pu.mB)
theorem ahM:aI Tryz.prog 182 aer:=f0 {merge:=mg [(1,15)]} ((base.add Ax).add Xy) Tryz.func182
def Zb:aM:=aA [pd (.sl ay),pd (.sl ek),pI,pf bM] [(false,(.sl (.own none) ay)),(false,(.sl (.own none) (.int .i64))),rB] (c4 Pu.qn)
theorem ahe:aI Tryz.prog 120 Zb:=f0 {merge:=mg [(2,37),(6,76)],mv:=[38,87,104]} ((((((base.add o59).add SW).add acL).add Xz).add ac0).add ahM) Tryz.func120
def Ze:aM:=aA [pd (.sl ek),pI,pI,pf bM] [(true,Y0)] (c4 Pu.mx)
theorem ahi:aI Tryz.prog 128 Ze:=f0 {merge:=mg [(1,34)]} ((((base.add Ax).add SV).add Lo).add GK) Tryz.func128
def aew:aM:=aA [pf dN,pf bM] [rB] (c2 Pu.rL)
theorem ahQ:aI Tryz.prog 187 aew:=f0 {merge:=mg [(1,4)]} ((base.add Lm).add Lo) Tryz.func187
def afR:aM:=aA [pf dn,pf bM] [rB] (c2 Pu.re)
theorem ai0:aI Tryz.prog 294 afR:=f0 {merge:=mg [(1,4)]} (base.add Ax) Tryz.func294
def ZM:aM:=aA [pf dn,pf bM] [rB] (c2 Pu.my)
theorem aiL:aI Tryz.prog 277 ZM:=f0 {merge:=mg [(1,4)]} (((base.add GK).add ac8).add ai0) Tryz.func277
def ae5:aM:=aA [pd (.sl dn),pf bM] [rI] (c2 Pu.qg)
def agx:bL:=(bL.nil.add 176 UX).add 277 ZM
def acm:An:={mask:=mk [(3,[0,3,5,6])],merge:=mg [(3,14),(5,39)]}
abbrev FQ:SD:=⟨.data false (.sl .arg dn)::B::B::.ptr 3 0::B::DI::DI::bs 35 [],Z::Z::Z::(some Y0)::zs 38 [],.none⟩
def Rs {R:Type}(X:SD.D FQ)(K:Ex→AS→Option R):=Pu.ju (λy0 y1=>ke 0 K FQ ((z1 (w y0 (u y1)) X.1),X.2)) X.1.1 X.2.1.1
def WW:bQ:=ev FQ Rs (λX=>(X.1.2.1,q2 X))
def Yw:cg:=(cg.nil).add 3 WW
theorem VO:ee E agx acm Yw (aE Tryz.f233 0):=lk FQ Rs (λX=>(X.1.2.1,q2 X)) λX x=>((z1 (w x.1 (u x.2)) X.1),X.2)
theorem aim:aI Tryz.prog 233 ae5:=fk acm ((base.add acX).add aiL) Tryz.func233 (Λ:=Yw) (cF VO nF)
def ae6:aM:=aA [pf (.sl cM),pf iK] [rI] (c2 Pu.qf)
theorem ain:aI Tryz.prog 234 ae6:=f0 {} ((base.add acY).add ac9) Tryz.func234
def ae7:aM:=aA [pf bM] [(true,O5)] (c1 Pu.qJ)
theorem adg:aI Tryz.prog 235 ae7:=f0 {} base Tryz.func235
def U0:aM:=aA [pd .str,pI] [rI] (c2 Pu.qL)
theorem adv:aI Tryz.prog 307 U0:=f0 {} base Tryz.func307
def ZT:aM:=aA [pd .str,pI] [rI] (c2 Pu.ph)
def agO:bL:=(bL.nil.add 63 R4).add 307 U0
def acE:An:={mask:=mk [(5,[0,1,5,6])],merge:=mg [(1,14)]}
abbrev F9:SD:=⟨.data false .str::DI::B::B::B::DI::DI::bs 21 [],zs 28 [],.none⟩
def RP {R:Type}(X:SD.D F9)(K:Ex→AS→Option R):=Pu.la (λy0 y1=>ke 0 K F9 ((z2 (w y0 (u y1)) X.1),X.2)) X.1.1 X.1.2.1
def Xh:bQ:=ev F9 RP (λX=>(q2 X,q3 X))
def YN:cg:=(cg.nil).add 5 Xh
theorem V9:ee E agO acE YN (aE Tryz.f308 0):=lk F9 RP (λX=>(q2 X,q3 X)) λX x=>((z2 (w x.1 (u x.2)) X.1),X.2)
theorem ajc:aI Tryz.prog 308 ZT:=fk acE ((base.add Ax).add adv) Tryz.func308 (Λ:=YN) (cF V9 nF)
def afY:aM:=aA [pd .str,pd .str] [rI] (c2 Pu.pe)
def agM:bL:=(bL.nil.add 307 U0).add 308 ZT
def acC:An:={mask:=mk [(5,[0,1,5,6])],merge:=mg [(1,14)]}
abbrev F7:SD:=⟨.data false .str::.data false .str::B::B::B::DI::DI::bs 25 [],zs 32 [],.none⟩
def RN {R:Type}(X:SD.D F7)(K:Ex→AS→Option R):=Pu.k9 (λy0 y1=>ke 0 K F7 ((z2 (w y0 (u y1)) X.1),X.2)) X.1.1 X.1.2.1
def Xf:bQ:=ev F7 RN (λX=>(q2 X,q3 X))
def YL:cg:=(cg.nil).add 5 Xf
theorem V7:ee E agM acC YL (aE Tryz.f302 0):=lk F7 RN (λX=>(q2 X,q3 X)) λX x=>((z2 (w x.1 (u x.2)) X.1),X.2)
theorem ai7:aI Tryz.prog 302 afY:=fk acC ((base.add adv).add ajc) Tryz.func302 (Λ:=YL) (cF V7 nF)
def afZ:aM:=aA [pf iK] [rS] (c1 Pu.pg)
theorem ai8:aI Tryz.prog 303 afZ:=f0 {} ((base.add Lp).add Qf) Tryz.func303
def afS:aM:=aA [pd .str,pf iK] [rI] (c2 Pu.qi)
theorem ai1:aI Tryz.prog 295 afS:=f0 {} ((base.add ai7).add ai8) Tryz.func295
def afF:aM:=aA [pf gF,pf iK] [rI] (c2 Pu.rO)
theorem aiM:aI Tryz.prog 278 afF:=f0 {merge:=mg [(2,17)]} (base.add ai1) Tryz.func278
def ae8:aM:=aA [pf gF,pI,pf iK] [rI] (c3 Pu.mD)
theorem aio:aI Tryz.prog 236 ae8:=f0 {merge:=mg [(2,18)]} ((base.add acZ).add aiM) Tryz.func236
def aex:aM:=aA [pf eg,pI,pf bM] [rI] (c3 Pu.mE)
theorem ahR:aI Tryz.prog 188 aex:=f0 {merge:=mg [(1,17)]} ((((((base.add acK).add GK).add aim).add ain).add adg).add aio) Tryz.func188
def ae9:aM:=aA [pd (.sl bC),pf iK] [rI] (c2 Pu.mF)
def agy:bL:=bL.nil
def acn:An:={mask:=mk [(2,[0,3,4,5])]}
abbrev Cg:SD:=⟨.data false (.sl .arg bC)::B::B::.ptr 3 0::DI::DI::bs 14 [],Z::Z::Z::(some O5)::zs 16 [],.none⟩
def Rt {R:Type}(X:SD.D Cg)(K:Ex→AS→Option R):=Pu.iI (λy0=>ke 0 K Cg ((z2 (u y0) X.1),X.2)) (λy0 y1=>kr K Cg ((z1 (w y0 (u y1)) X.1),X.2)) X.1.1 X.1.2.1 X.2.1.1
def WX:bQ:=ev Cg Rt q2
def Yx:cg:=(cg.nil).add 2 WX
theorem VP:ee E agy acn Yx (aE Tryz.f237 0):=lk Cg Rt q2 λX x=>((z2 (u x) X.1),X.2)
theorem aip:aI Tryz.prog 237 ae9:=fk acn base Tryz.func237 (Λ:=Yx) (cF VP nF)
def aey:aM:=aA [pd (.sl bC),pf bM] [(false,(.sl (.own none) bC))] (c2 Pu.pc)
theorem ahS:aI Tryz.prog 189 aey:=f0 {merge:=mg [(17,84)],mv:=[16,31,53,60,69,85,139]} ((((base.add GK).add adg).add aip).add Lp) Tryz.func189
def Zf:aM:=aA [pf cz,pd .str] [(true,Y8)] (c2 Pu.mA)
theorem ahj:aI Tryz.prog 129 Zf:=f0 {merge:=mg [(3,35)],mv:=[41]} ((((((base.add o56).add o60).add o68).add ahQ).add ahR).add ahS) Tryz.func129
def e69:aM:=Gg (.pair (.sl (.own none) cz) (.pair (.sl (.own none) (.sl .str)) (.pair (.sl (.own none) ay) (.pair (.sl (.own none) ba) (.sl (.own none) .str))))) [pI,pf bM] [] λx a=>Pu.jB x a.1 a.2.1
def g69:bL:=(((((bL.nil.add 58 ZW).add 125 Zd).add 126 UQ).add 127 UR).add 128 Ze).add 129 Zf
def n69:An:={mask:=mk [(5,[0,5,6,8,9,10])],mv:=[13,56]}
abbrev Mv:SD:=⟨.ptr 0 0::bs 4 (.ptr 5 0::.data false (.sl (.own (some 73728)) ek)::B::.data false (.sl (.own (some 98304)) (.int .i64))::DI::DI::bs 74 []),(some Y14)::zs 4 ((some Y0)::zs 79 []),.ptr⟩
def Uk {R:Type}(X:SD.D Mv)(K:Ex→AS→Option R):=Pu.ie (λy0 y1=>ke 0 K Mv ((z3 (u y0) X.1),(u y1 X.2.1),X.2.2)) X.1.1 X.1.2.1 (q2 X) X.2.1.2.1
def abD:bQ:=ev Mv Uk (λX=>(q3 X,X.2.1.1))
def L69:cg:=(cg.nil).add 5 abD
theorem aaM:ee E g69 n69 L69 (aE Tryz.f69 0):=lk Mv Uk (λX=>(q3 X,X.2.1.1)) λX x=>((z3 (u x.1) X.1),(u x.2 X.2.1),X.2.2)
theorem o69:aI Tryz.prog 69 e69:=aI.TC (Tz (Γ:=g69) (an:=n69) (Λ:=L69) ((((((base.add o58).add acL).add Xz).add acM).add ahi).add ahj) Tryz.func69 (by kernel_rfl) (ao (cF aaM nF))) (λx a=>by kernel_rfl)
def Zc:aM:=aA [pf bk,pI,pf bM] [(true,Y1)] (c3 Pu.mw)
theorem ahf:aI Tryz.prog 121 Zc:=f0 {merge:=mg [(2,15)],mv:=[19]} ((((base.add o24).add o25).add o69).add SW) Tryz.func121
def e67:aM:=Gg (.pair (.sl (.own none) cz) (.pair (.sl (.own none) (.sl .str)) (.pair (.sl (.own none) ay) (.pair (.sl (.own none) ba) (.sl (.own none) .str))))) [pI] [] λx a=>Pu.mK x a.1
def g67:bL:=(((bL.nil.add 58 ZW).add 68 e68).add 120 Zb).add 121 Zc
def n67:An:={mask:=mk [(4,[0,1,4,5,7])],mv:=[19,49,58,59,62],sb:=mg [(74,0)]}
abbrev Mu:SD:=⟨.ptr 0 0::DI::B::B::.data false (.sl (.own (some 49152)) .str)::.data false (.sl .loc ek)::B::DI::bs 67 [],(some Y14)::zs 74 [],.ptr⟩
def Uj {R:Type}(X:SD.D Mu)(K:Ex→AS→Option R):=Pu.gb (λy0 y1=>ke 0 K Mu ((z3 (u y0) X.1),(u y1 X.2.1),X.2.2)) X.1.1 X.1.2.1 (q2 X)
def abC:bQ:=ev Mu Uj (λX=>(q3 X,X.2.1.1))
def L67:cg:=(cg.nil).add 4 abC
theorem aaL:ee E g67 n67 L67 (aE Tryz.f67 0):=lk Mu Uj (λX=>(q3 X,X.2.1.1)) λX x=>((z3 (u x.1) X.1),(u x.2 X.2.1),X.2.2)
theorem o67:aI Tryz.prog 67 e67:=aI.TC (Tz (Γ:=g67) (an:=n67) (Λ:=L67) ((((base.add o58).add o68).add ahe).add ahf) Tryz.func67 (by kernel_rfl) (ao (cF aaL nF))) (λx a=>by kernel_rfl)
def Zg:aM:=aA [pf dE,pI] [(true,Y2)] (c2 Pu.ld)
theorem ahk:aI Tryz.prog 130 Zg:=f0 {merge:=mg [(1,12)]} ((base.add Ax).add Xy) Tryz.func130
def e70:aM:=aA [pd (.sl ay),pI] [(false,(.sl (.own none) ay))] (c2 Pu.kb)
def g70:bL:=bL.nil.add 130 Zg
def n70:An:={mask:=mk [(3,[1,5,6])],mv:=[27]}
abbrev Mw:SD:=⟨B::DI::B::B::B::.data false (.sl (.own (some 61440)) ay)::DI::bs 21 [],zs 28 [],.none⟩
def Ul {R:Type}(X:SD.D Mw)(K:Ex→AS→Option R):=Pu.gJ (λy0 y1=>ke 0 K Mw ((z1 (w y0 (u y1)) X.1),X.2)) X.1.1
def abE:bQ:=ev Mw Ul (λX=>(X.1.2.1,q2 X))
def L70:cg:=(cg.nil).add 3 abE
theorem aaN:ee E g70 n70 L70 (aE Tryz.f70 0):=lk Mw Ul (λX=>(X.1.2.1,q2 X)) λX x=>((z1 (w x.1 (u x.2)) X.1),X.2)
theorem o70:aI Tryz.prog 70 e70:=fk n70 (base.add ahk) Tryz.func70 (Λ:=L70) (cF aaN nF)
def e26:aM:=aA [pf bk,pf bD,pI] [(true,Y1)] (c3 Pu.rN)
def g26:bL:=((((((((((bL.nil.add 24 e24).add 25 e25).add 62 e62).add 63 R4).add 64 e64).add 65 e65).add 66 e66).add 67 e67).add 68 e68).add 69 e69).add 70 e70
def n26:An:={mask:=mk [(12,[6,7,11])],merge:=mg [(3,49)],mv:=[50,54,63,76,92,107,147],sb:=mg [(100,7)],eb:=mg [(106,7)]}
abbrev F1:SD:=⟨bs 6 (.ptr 6 0::.ptr 7 0::B::B::B::DI::bs 136 []),zs 6 ((some Y5)::(some Y4)::zs 140 []),.none⟩
def RH {R:Type}(X:SD.D F1)(K:Ex→AS→Option R):=Pu.js (λy0 y1=>ke 0 K F1 ((u y0 X.1),(z1 (u y1) X.2.1),X.2.2)) X.2.1.1
def W9:bQ:=ev F1 RH (λX=>(X.1.1,X.2.1.2.1))
def L26:cg:=(cg.nil).add 12 W9
theorem V1:ee E g26 n26 L26 (aE Tryz.f26 0):=lk F1 RH (λX=>(X.1.1,X.2.1.2.1)) λX x=>((u x.1 X.1),(z1 (u x.2) X.2.1),X.2.2)
theorem o26:aI Tryz.prog 26 e26:=fk n26 (((((((((((base.add o24).add o25).add o62).add Ax).add o64).add XX).add o66).add o67).add o68).add o69).add o70) Tryz.func26 (Λ:=L26) (cF V1 nF)
def e6:aM:=aA [pf bk,pd (.sl bD),pd (.sl (.int .i64))] [(true,Y1)] (c3 Pu.qm)
def g6:bL:=((bL.nil.add 24 e24).add 25 e25).add 26 e26
def n6:An:={mask:=mk [(5,[1,2,6,7,8])],merge:=mg [(2,25)],mv:=[26,43],sb:=mg [(7,7)]}
abbrev Sf:SD:=⟨B::.data false (.sl .arg bD)::.data false (.sl .arg (.int .i64))::B::B::B::.ptr 6 0::.ptr 7 0::DI::bs 35 [],zs 6 ((some Y5)::(some Y4)::zs 36 []),.none⟩
def adD {R:Type}(X:SD.D Sf)(K:Ex→AS→Option R):=Pu.mz (λy0 y1=>ke 0 K Sf ((z2 (u y0) X.1),(z1 (u y1) X.2.1),X.2.2)) X.1.1 X.1.2.1 X.2.1.1
def agV:bQ:=ev Sf adD (λX=>(q2 X,X.2.1.2.1))
def L6:cg:=(cg.nil).add 5 agV
theorem agR:ee E g6 n6 L6 (aE Tryz.f6 0):=lk Sf adD (λX=>(q2 X,X.2.1.2.1)) λX x=>((z2 (u x.1) X.1),(z1 (u x.2) X.2.1),X.2.2)
theorem o6:aI Tryz.prog 6 e6:=fk n6 (((base.add o24).add o25).add o26) Tryz.func6 (Λ:=L6) (cF agR nF)
def e31:aM:=aA [pd (.sl .str)] [(false,(.sl (.own none) .str))] (c1 Pu.jl)
def g31:bL:=bL.nil
def n31:An:={mask:=mk [(3,[0,3,4])],mv:=[21]}
abbrev Mk:SD:=⟨.data false (.sl .arg .str)::B::B::.data false (.sl (.own (some 36864)) .str)::DI::bs 17 [],zs 22 [],.none⟩
def TV {R:Type}(X:SD.D Mk)(K:Ex→AS→Option R):=Pu.tz (λy0 y1=>ke 0 K Mk ((z1 (w y0 (u y1)) X.1),X.2)) X.1.1
def abe:bQ:=ev Mk TV (λX=>(X.1.2.1,q2 X))
def L31:cg:=(cg.nil).add 3 abe
theorem aao:ee E g31 n31 L31 (aE Tryz.f31 0):=lk Mk TV (λX=>(X.1.2.1,q2 X)) λX x=>((z1 (w x.1 (u x.2)) X.1),X.2)
theorem o31:aI Tryz.prog 31 e31:=fk n31 base Tryz.func31 (Λ:=L31) (cF aao nF)
def e9:aM:=aA [pd (.sl (.int .i64))] [(false,(.sl (.own none) (.int .i64)))] (c1 Pu.jD)
def g9:bL:=bL.nil
def n9:An:={mask:=mk [(3,[0,3,4])],mv:=[21]}
abbrev Sh:SD:=⟨.data false (.sl .arg (.int .i64))::B::B::.data false (.sl (.own (some 36864)) (.int .i64))::DI::bs 17 [],zs 22 [],.none⟩
def adF {R:Type}(X:SD.D Sh)(K:Ex→AS→Option R):=Pu.vY (λy0 y1=>ke 0 K Sh ((z1 (w y0 (u y1)) X.1),X.2)) X.1.1
def agX:bQ:=ev Sh adF (λX=>(X.1.2.1,q2 X))
def L9:cg:=(cg.nil).add 3 agX
theorem agT:ee E g9 n9 L9 (aE Tryz.f9 0):=lk Sh adF (λX=>(X.1.2.1,q2 X)) λX x=>((z1 (w x.1 (u x.2)) X.1),X.2)
theorem o9:aI Tryz.prog 9 e9:=fk n9 base Tryz.func9 (Λ:=L9) (cF agT nF)
def adY:aM:=aA [pf dN] [(true,Y3)] (c1 Pu.kG)
theorem acN:aI Tryz.prog 131 adY:=f0 {mv:=[14]} (base.add o9) Tryz.func131
def ZE:aM:=aA [pf dn] [(true,(.pair (.int .i64) (.pair (.int .i64) (.pair (.int .i64) (.pair (.int .i64) O5)))))] (c1 Pu.tw)
theorem aiq:aI Tryz.prog 239 ZE:=f0 {} base Tryz.func239
def aez:aM:=aA [pd (.sl dn)] [(false,(.sl (.own none) dn))] (c1 Pu.uW)
def agp:bL:=bL.nil.add 239 ZE
def acd:An:={mask:=mk [(3,[0,3,4])],mv:=[22]}
abbrev FJ:SD:=⟨.data false (.sl .arg dn)::B::B::.data false (.sl (.own (some 36864)) dn)::DI::bs 18 [],zs 23 [],.none⟩
def Rh {R:Type}(X:SD.D FJ)(K:Ex→AS→Option R):=Pu.vF (λy0 y1=>ke 0 K FJ ((z1 (w y0 (u y1)) X.1),X.2)) X.1.1
def WK:bQ:=ev FJ Rh (λX=>(X.1.2.1,q2 X))
def Yo:cg:=(cg.nil).add 3 WK
theorem VD:ee E agp acd Yo (aE Tryz.f190 0):=lk FJ Rh (λX=>(X.1.2.1,q2 X)) λX x=>((z1 (w x.1 (u x.2)) X.1),X.2)
theorem ahT:aI Tryz.prog 190 aez:=fk acd (base.add aiq) Tryz.func190 (Λ:=Yo) (cF VD nF)
def afc:aM:=aA [pf iK] [(true,O5)] (c1 Pu.tu)
theorem adh:aI Tryz.prog 241 afc:=f0 {} base Tryz.func241
def ZN:aM:=aA [pf cM] [(true,(.pair (.int .i64) (.pair O5 (.int .i64))))] (c1 Pu.nV)
theorem aiN:aI Tryz.prog 279 ZN:=f0 {} (base.add adh) Tryz.func279
def afb:aM:=aA [pd (.sl cM)] [(false,(.sl (.own none) cM))] (c1 Pu.uX)
def agz:bL:=bL.nil.add 279 ZN
def aco:An:={mask:=mk [(3,[0,3,4])],mv:=[22]}
abbrev FR:SD:=⟨.data false (.sl .arg cM)::B::B::.data false (.sl (.own (some 36864)) cM)::DI::bs 18 [],zs 23 [],.none⟩
def Ru {R:Type}(X:SD.D FR)(K:Ex→AS→Option R):=Pu.vG (λy0 y1=>ke 0 K FR ((z1 (w y0 (u y1)) X.1),X.2)) X.1.1
def WY:bQ:=ev FR Ru (λX=>(X.1.2.1,q2 X))
def Yy:cg:=(cg.nil).add 3 WY
theorem VQ:ee E agz aco Yy (aE Tryz.f240 0):=lk FR Ru (λX=>(X.1.2.1,q2 X)) λX x=>((z1 (w x.1 (u x.2)) X.1),X.2)
theorem air:aI Tryz.prog 240 afb:=fk aco (base.add aiN) Tryz.func240 (Λ:=Yy) (cF VQ nF)
def aeA:aM:=aA [pf (.sl cM)] [(true,(.sl (.own none) cM))] (c1 Pu.jj)
theorem ahU:aI Tryz.prog 191 aeA:=f0 {mv:=[8]} (base.add air) Tryz.func191
def aeB:aM:=aA [pf gF] [(true,(.pair .str (.sl (.own none) (.int .i64))))] (c1 Pu.ng)
theorem ahV:aI Tryz.prog 192 aeB:=f0 {mv:=[11]} (base.add o9) Tryz.func192
def adZ:aM:=aA [pf eg] [(true,Y13)] (c1 Pu.kq)
theorem ahl:aI Tryz.prog 132 adZ:=f0 {mv:=[16]} (((base.add ahT).add ahU).add ahV) Tryz.func132
def Zv:aM:=aA [pf bC] [(true,(.pair O5 (.pair (.int .i64) (.pair .str .bool))))] (c1 Pu.kH)
theorem ahW:aI Tryz.prog 193 Zv:=f0 {} (base.add adh) Tryz.func193
def ad0:aM:=aA [pd (.sl bC)] [(false,(.sl (.own none) bC))] (c1 Pu.sQ)
def agb:bL:=bL.nil.add 193 Zv
def abZ:An:={mask:=mk [(3,[0,3,4])],mv:=[22]}
abbrev FE:SD:=⟨.data false (.sl .arg bC)::B::B::.data false (.sl (.own (some 36864)) bC)::DI::bs 18 [],zs 23 [],.none⟩
def Q2 {R:Type}(X:SD.D FE)(K:Ex→AS→Option R):=Pu.tx (λy0 y1=>ke 0 K FE ((z1 (w y0 (u y1)) X.1),X.2)) X.1.1
def Wv:bQ:=ev FE Q2 (λX=>(X.1.2.1,q2 X))
def Yb:cg:=(cg.nil).add 3 Wv
theorem Vp:ee E agb abZ Yb (aE Tryz.f133 0):=lk FE Q2 (λX=>(X.1.2.1,q2 X)) λX x=>((z1 (w x.1 (u x.2)) X.1),X.2)
theorem ahm:aI Tryz.prog 133 ad0:=fk abZ (base.add ahW) Tryz.func133 (Λ:=Yb) (cF Vp nF)
def e71:aM:=aA [pf cz] [(true,Y8)] (c1 Pu.nW)
theorem o71:aI Tryz.prog 71 e71:=f0 {mv:=[23]} ((((base.add o31).add acN).add ahl).add ahm) Tryz.func71
def e27:aM:=aA [pd (.sl cz)] [(false,(.sl (.own none) cz))] (c1 Pu.uY)
def g27:bL:=bL.nil.add 71 e71
def n27:An:={mask:=mk [(3,[0,3,4])],mv:=[22]}
abbrev Mg:SD:=⟨.data false (.sl .arg cz)::B::B::.data false (.sl (.own (some 36864)) cz)::DI::bs 18 [],zs 23 [],.none⟩
def TR {R:Type}(X:SD.D Mg)(K:Ex→AS→Option R):=Pu.vH (λy0 y1=>ke 0 K Mg ((z1 (w y0 (u y1)) X.1),X.2)) X.1.1
def aba:bQ:=ev Mg TR (λX=>(X.1.2.1,q2 X))
def L27:cg:=(cg.nil).add 3 aba
theorem aak:ee E g27 n27 L27 (aE Tryz.f27 0):=lk Mg TR (λX=>(X.1.2.1,q2 X)) λX x=>((z1 (w x.1 (u x.2)) X.1),X.2)
theorem o27:aI Tryz.prog 27 e27:=fk n27 (base.add o71) Tryz.func27 (Λ:=L27) (cF aak nF)
def e28:aM:=aA [pd (.sl (.sl .str))] [(false,(.sl (.own none) (.sl .str)))] (c1 Pu.rb)
def g28:bL:=bL.nil.add 31 e31
def n28:An:={mask:=mk [(3,[0,3,4])],mv:=[22]}
abbrev Mh:SD:=⟨.data false (.sl .arg (.sl .str))::B::B::.data false (.sl (.own (some 36864)) (.sl .str))::DI::bs 18 [],zs 23 [],.none⟩
def TS {R:Type}(X:SD.D Mh)(K:Ex→AS→Option R):=Pu.sR (λy0 y1=>ke 0 K Mh ((z1 (w y0 (u y1)) X.1),X.2)) X.1.1
def abb:bQ:=ev Mh TS (λX=>(X.1.2.1,q2 X))
def L28:cg:=(cg.nil).add 3 abb
theorem aal:ee E g28 n28 L28 (aE Tryz.f28 0):=lk Mh TS (λX=>(X.1.2.1,q2 X)) λX x=>((z1 (w x.1 (u x.2)) X.1),X.2)
theorem o28:aI Tryz.prog 28 e28:=fk n28 (base.add o31) Tryz.func28 (Λ:=L28) (cF aal nF)
def ad1:aM:=aA [pf dE] [(true,Y2)] (c1 Pu.tT)
theorem ahn:aI Tryz.prog 134 ad1:=f0 {} base Tryz.func134
def e72:aM:=aA [pf ay] [(true,Y15)] (c1 Pu.ec)
theorem o72:aI Tryz.prog 72 e72:=f0 {} (base.add ahn) Tryz.func72
def e29:aM:=aA [pd (.sl ay)] [(false,(.sl (.own none) ay))] (c1 Pu.jm)
def g29:bL:=bL.nil.add 72 e72
def n29:An:={mask:=mk [(3,[0,3,4])],mv:=[22]}
abbrev Mi:SD:=⟨.data false (.sl .arg ay)::B::B::.data false (.sl (.own (some 36864)) ay)::DI::bs 18 [],zs 23 [],.none⟩
def TT {R:Type}(X:SD.D Mi)(K:Ex→AS→Option R):=Pu.lJ (λy0 y1=>ke 0 K Mi ((z1 (w y0 (u y1)) X.1),X.2)) X.1.1
def abc:bQ:=ev Mi TT (λX=>(X.1.2.1,q2 X))
def L29:cg:=(cg.nil).add 3 abc
theorem aam:ee E g29 n29 L29 (aE Tryz.f29 0):=lk Mi TT (λX=>(X.1.2.1,q2 X)) λX x=>((z1 (w x.1 (u x.2)) X.1),X.2)
theorem o29:aI Tryz.prog 29 e29:=fk n29 (base.add o72) Tryz.func29 (Λ:=L29) (cF aam nF)
def e73:aM:=aA [pf ba] [(true,(.pair Y3 Y2))] (c1 Pu.jk)
theorem o73:aI Tryz.prog 73 e73:=f0 {mv:=[17]} (base.add acN) Tryz.func73
def e30:aM:=aA [pd (.sl ba)] [(false,(.sl (.own none) ba))] (c1 Pu.ra)
def g30:bL:=bL.nil.add 73 e73
def n30:An:={mask:=mk [(3,[0,3,4])],mv:=[22]}
abbrev Mj:SD:=⟨.data false (.sl .arg ba)::B::B::.data false (.sl (.own (some 36864)) ba)::DI::bs 18 [],zs 23 [],.none⟩
def TU {R:Type}(X:SD.D Mj)(K:Ex→AS→Option R):=Pu.sN (λy0 y1=>ke 0 K Mj ((z1 (w y0 (u y1)) X.1),X.2)) X.1.1
def abd:bQ:=ev Mj TU (λX=>(X.1.2.1,q2 X))
def L30:cg:=(cg.nil).add 3 abd
theorem aan:ee E g30 n30 L30 (aE Tryz.f30 0):=lk Mj TU (λX=>(X.1.2.1,q2 X)) λX x=>((z1 (w x.1 (u x.2)) X.1),X.2)
theorem o30:aI Tryz.prog 30 e30:=fk n30 (base.add o73) Tryz.func30 (Λ:=L30) (cF aan nF)
def e7:aM:=aA [pf bk] [(true,Y1)] (c1 Pu.hC)
theorem o7:aI Tryz.prog 7 e7:=f0 {mv:=[24]} (((((base.add o27).add o28).add o29).add o30).add o31) Tryz.func7
def aeC:aM:=aA [pf fU] [(true,(.pair (.int .i64) XS))] (c1 Pu.sP)
theorem ahX:aI Tryz.prog 194 aeC:=f0 {} base Tryz.func194
def ad2:aM:=aA [pf bM] [(true,Y0)] (c1 Pu.nf)
theorem aho:aI Tryz.prog 135 ad2:=f0 {} (base.add ahX) Tryz.func135
def e74:aM:=aA [pf yf] [(true,Y20)] (c1 Pu.sL)
theorem o74:aI Tryz.prog 74 e74:=f0 {} (base.add aho) Tryz.func74
def e75:aM:=aA [pf dE] [(true,Y2)] (c1 Pu.sO)
theorem o75:aI Tryz.prog 75 e75:=f0 {} base Tryz.func75
def e32:aM:=aA [pf bD] [(true,(.pair (.int .i64) (.pair (.int .i64) (.pair Y20 (.pair Y2 (.pair .str (.int .i64)))))))] (c1 Pu.ji)
theorem o32:aI Tryz.prog 32 e32:=f0 {} ((base.add o74).add o75) Tryz.func32
def e8:aM:=aA [pd (.sl bD)] [(false,(.sl (.own none) bD))] (c1 Pu.gT)
def g8:bL:=bL.nil.add 32 e32
def n8:An:={mask:=mk [(3,[0,3,4])],mv:=[22]}
abbrev Sg:SD:=⟨.data false (.sl .arg bD)::B::B::.data false (.sl (.own (some 36864)) bD)::DI::bs 18 [],zs 23 [],.none⟩
def adE {R:Type}(X:SD.D Sg)(K:Ex→AS→Option R):=Pu.sM (λy0 y1=>ke 0 K Sg ((z1 (w y0 (u y1)) X.1),X.2)) X.1.1
def agW:bQ:=ev Sg adE (λX=>(X.1.2.1,q2 X))
def L8:cg:=(cg.nil).add 3 agW
theorem agS:ee E g8 n8 L8 (aE Tryz.f8 0):=lk Sg adE (λX=>(X.1.2.1,q2 X)) λX x=>((z1 (w x.1 (u x.2)) X.1),X.2)
theorem o8:aI Tryz.prog 8 e8:=fk n8 (base.add o32) Tryz.func8 (Λ:=L8) (cF agS nF)
def e76:aM:=aA [pd (.sl ay)] [(false,(.sl (.own none) ay))] (c1 Pu.eY)
theorem o76:aI Tryz.prog 76 e76:=f0 {} base Tryz.func76
def ad9:aM:=aA [pd (.sl (.int .i64))] [(false,(.sl (.own none) (.int .i64)))] (c1 Pu.mY)
theorem acS:aI Tryz.prog 150 ad9:=f0 {} base Tryz.func150
def e87:aM:=aA [pf dN] [(true,Y3)] (c1 Pu.c9)
theorem XY:aI Tryz.prog 87 e87:=f0 {mv:=[7]} (base.add acS) Tryz.func87
def Zh:aM:=aA [pf ba] [(true,(.pair Y3 Y2))] (c1 Pu.gu)
theorem XA:aI Tryz.prog 136 Zh:=f0 {mv:=[7]} (base.add XY) Tryz.func136
def e77:aM:=aA [pd (.sl ba)] [(false,(.sl (.own none) ba))] (c1 Pu.ly)
def g77:bL:=bL.nil.add 136 Zh
def n77:An:={mask:=mk [(3,[3,7,8,9])],mv:=[13,19]}
abbrev Mx:SD:=⟨B::B::B::.data false (.sl (.own (some 36864)) ba)::B::B::B::.data false (.sl .arg ba)::DI::DI::bs 10 [],zs 20 [],.none⟩
def Um {R:Type}(X:SD.D Mx)(K:Ex→AS→Option R):=Pu.kZ (λy0 y1=>ke 0 K Mx ((w y0 (z2 (u y1)) X.1),X.2)) X.1.2.1 (q2 X)
def abF:bQ:=ev Mx Um (λX=>(X.1.1,q3 X))
def L77:cg:=(cg.nil).add 3 abF
theorem aaO:ee E g77 n77 L77 (aE Tryz.f77 0):=lk Mx Um (λX=>(X.1.1,q3 X)) λX x=>((w x.1 (z2 (u x.2)) X.1),X.2)
theorem o77:aI Tryz.prog 77 e77:=fk n77 (base.add XA) Tryz.func77 (Λ:=L77) (cF aaO nF)
def e78:aM:=aA [pd (.sl .str)] [(false,(.sl (.own none) .str))] (c1 Pu.gv)
theorem o78:aI Tryz.prog 78 e78:=f0 {} base Tryz.func78
def aeD:aM:=aA [pf (.sl cM)] [(true,(.sl (.own none) cM))] (c1 Pu.oC)
theorem ahY:aI Tryz.prog 195 aeD:=f0 {} base Tryz.func195
def aeE:aM:=aA [pf gF] [(true,(.pair .str (.sl (.own none) (.int .i64))))] (c1 Pu.nv)
theorem ahZ:aI Tryz.prog 196 aeE:=f0 {sb:=mg [(2,2)]} (base.add acS) Tryz.func196
def ad3:aM:=aA [pf eg] [(true,Y13)] (c1 Pu.k7)
theorem ahp:aI Tryz.prog 137 ad3:=f0 {sb:=mg [(2,2)]} ((base.add ahY).add ahZ) Tryz.func137
def ad4:aM:=aA [pd (.sl bC)] [(false,(.sl (.own none) bC))] (c1 Pu.iZ)
theorem acO:aI Tryz.prog 138 ad4:=f0 {} base Tryz.func138
def e79:aM:=aA [pf cz] [(true,Y8)] (c1 Pu.mZ)
theorem o79:aI Tryz.prog 79 e79:=f0 {sb:=mg [(2,2)]} ((((base.add o78).add XY).add ahp).add acO) Tryz.func79
def ZV:aM:=aA [pf bk] [(true,Y1)] (c1 Pu.gB)
def g33:bL:=(((bL.nil.add 76 e76).add 77 e77).add 78 e78).add 79 e79
def n33:An:={mask:=mk [(3,[1,2,3,19,20,21]),(8,[2,3,34,35,36])],mv:=[26,41,48],mb:=mg [(26,3),(41,3)],sb:=mg [(3,3),(31,3),(46,3)]}
abbrev Ml:SD:=⟨B::.ptr 1 0::.ptr 2 0::.ptr 3 0::bs 15 (.data false (.sl .arg cz)::DI::DI::bs 27 []),Z::(some Y9)::(some Y7)::(some Y6)::zs 45 [],.none⟩
def TW {R:Type}(X:SD.D Ml)(K:Ex→AS→Option R):=Pu.k5 (λy0 y1=>ke 0 K Ml ((z2 (u y0) X.1),(z2 (u y1) X.2.1),X.2.2)) X.1.1 X.1.2.1 X.2.1.1 X.2.1.2.1
def abf:bQ:=ev Ml TW (λX=>(q2 X,X.2.1.2.2.1))
abbrev Mm:SD:=⟨B::B::.ptr 2 0::.ptr 3 0::bs 30 (.data false (.sl .arg (.sl .str))::DI::DI::bs 12 []),Z::Z::(some Y7)::(some Y6)::zs 45 [],.none⟩
def TX {R:Type}(X:SD.D Mm)(K:Ex→AS→Option R):=Pu.k6 (λy0 y1=>ke 2 K Mm ((z2 (u y0) X.1),(z1 (u y1) X.2.1),X.2.2)) X.1.1 X.1.2.1 X.2.1.1
def abg:bQ:=ev Mm TX (λX=>(q2 X,X.2.1.2.1))
def L33:cg:=((cg.nil).add 3 abf).add 8 abg
theorem aap:ee E g33 n33 L33 (aE Tryz.f33 0):=lk Ml TW (λX=>(q2 X,X.2.1.2.2.1)) λX x=>((z2 (u x.1) X.1),(z2 (u x.2) X.2.1),X.2.2)
theorem aaq:ee E g33 n33 L33 (aE Tryz.f33 1):=lk Mm TX (λX=>(q2 X,X.2.1.2.1)) λX x=>((z2 (u x.1) X.1),(z1 (u x.2) X.2.1),X.2.2)
theorem o33:aI Tryz.prog 33 ZV:=fk n33 ((((base.add o76).add o77).add o78).add o79) Tryz.func33 (Λ:=L33) (cF aap (cF aaq nF))
def Gf:aM:=aA [pI,pI,pI] [rB] (c3 Pu.aG)
theorem pC:aI Tryz.prog 139 Gf:=f0 {merge:=mg [(1,6)]} base Tryz.func139
def UT:aM:=aA [pf dN] [rB] (c1 Pu.eu)
def agf:bL:=bL.nil.add 139 Gf
def ab3:An:={mask:=mk [(2,[1,2,6,7,8])],merge:=mg [(4,29),(7,2)]}
abbrev B2:SD:=⟨B::.ptr 1 0::DB::B::B::B::.data false (.sl .arg (.int .i64))::DI::DI::bs 31 [],Z::(some XR)::zs 38 [],.none⟩
def Q6 {R:Type}(X:SD.D B2)(K:Ex→AS→Option R):=Pu.lU (λy0=>ke 0 K B2 ((z3 (u y0) X.1),X.2)) (λy0 y1=>kr K B2 ((w y0 (z2 (u y1)) X.1),X.2)) X.1.1 X.1.2.1 (q2 X) X.2.1.1
def Wz:bQ:=ev B2 Q6 q3
def Yf:cg:=(cg.nil).add 2 Wz
theorem Vt:ee E agf ab3 Yf (aE Tryz.f144 0):=lk B2 Q6 q3 λX x=>((z3 (u x) X.1),X.2)
theorem Ln:aI Tryz.prog 144 UT:=fk ab3 (base.add pC) Tryz.func144 (Λ:=Yf) (cF Vt nF)
def Zi:aM:=aA [pf ba] [rB] (c1 Pu.lv)
theorem acP:aI Tryz.prog 140 Zi:=f0 {merge:=mg [(1,2)]} ((base.add pC).add Ln) Tryz.func140
def Pn:aM:=aA [pd (.sl (.int .i64)),pI] [rB] (c2 Pu.dW)
def agc:bL:=bL.nil
def ab0:An:={mask:=mk [(2,[1,4,7,8,9])]}
abbrev B0:SD:=⟨B::DI::B::B::DB::B::B::.data false (.sl .arg (.int .i64))::DI::DI::bs 7 [],zs 17 [],.none⟩
def Q3 {R:Type}(X:SD.D B0)(K:Ex→AS→Option R):=Pu.vV (λy0=>ke 0 K B0 ((z4 (u y0) X.1),X.2)) (λy0 y1=>kr K B0 ((z1 (w y0 (z2 (u y1))) X.1),X.2)) X.1.1 X.1.2.1 (q2 X) (q3 X)
def Ww:bQ:=ev B0 Q3 q4
def Yc:cg:=(cg.nil).add 2 Ww
theorem Vq:ee E agc ab0 Yc (aE Tryz.f141 0):=lk B0 Q3 q4 λX x=>((z4 (u x) X.1),X.2)
theorem Jl:aI Tryz.prog 141 Pn:=fk ab0 base Tryz.func141 (Λ:=Yc) (cF Vq nF)
def Zj:aM:=aA [pd (.sl (.int .i64)),pI] [(false,(.sl (.own none) (.int .i64)))] (c2 Pu.fN)
def agd:bL:=bL.nil
def ab1:An:={mask:=mk [(4,[1,5,6,10,11,12])],merge:=mg [(6,22)],mv:=[23,27,34,38]}
abbrev FF:SD:=⟨B::DI::B::B::B::.data false (.sl (.own (some 61440)) (.int .i64))::DB::B::B::B::.data false (.sl .arg (.int .i64))::DI::DI::bs 26 [],zs 39 [],.none⟩
def Q4 {R:Type}(X:SD.D FF)(K:Ex→AS→Option R):=Pu.gA (λy0 y1 y2=>ke 0 K FF ((z1 (w y0 (w y1 (z2 (u y2)))) X.1),X.2)) X.1.1 (q3 X) (q4 X)
def Wx:bQ:=ev FF Q4 (λX=>(X.1.2.1,q2 X,q5 X))
def Yd:cg:=(cg.nil).add 4 Wx
theorem Vr:ee E agd ab1 Yd (aE Tryz.f142 0):=lk FF Q4 (λX=>(X.1.2.1,q2 X,q5 X)) λX x=>((z1 (w x.1 (w x.2.1 (z2 (u x.2.2)))) X.1),X.2)
theorem acQ:aI Tryz.prog 142 Zj:=fk ab1 base Tryz.func142 (Λ:=Yd) (cF Vr nF)
def Zw:aM:=aA [pf ek] [(true,XR)] (c1 Pu.tR)
theorem ah0:aI Tryz.prog 197 Zw:=f0 {} base Tryz.func197
def UY:aM:=aA [pd (.sl ek),pI] [rI] (c2 Pu.m6)
def agq:bL:=bL.nil
def ace:An:={mask:=mk [(2,[1,4,7,8,9])],merge:=mg [(4,21)]}
abbrev Ca:SD:=⟨B::DI::B::B::DI::B::B::.data false (.sl .arg ek)::DI::DI::bs 14 [],zs 24 [],.none⟩
def Ri {R:Type}(X:SD.D Ca)(K:Ex→AS→Option R):=Pu.ja (λy0=>ke 0 K Ca ((z4 (u y0) X.1),X.2)) (λy0 y1=>kr K Ca ((z1 (w y0 (z2 (u y1))) X.1),X.2)) X.1.1 X.1.2.1 (q2 X) (q3 X)
def WL:bQ:=ev Ca Ri q4
def Yp:cg:=(cg.nil).add 2 WL
theorem VE:ee E agq ace Yp (aE Tryz.f198 0):=lk Ca Ri q4 λX x=>((z4 (u x) X.1),X.2)
theorem ac2:aI Tryz.prog 198 UY:=fk ace base Tryz.func198 (Λ:=Yp) (cF VE nF)
def US:aM:=aA [pd (.sl ek)] [rB] (c1 Pu.g4)
def age:bL:=((((bL.nil.add 139 Gf).add 141 Pn).add 144 UT).add 197 Zw).add 198 UY
def ab2:An:={mask:=mk [(4,[0,2,9,10,11])],merge:=mg [(6,27),(8,37)]}
abbrev B1:SD:=⟨.data false (.sl .arg ek)::B::DB::bs 6 (.data false (.sl .arg ek)::DI::DI::bs 27 []),zs 39 [],.none⟩
def Q5 {R:Type}(X:SD.D B1)(K:Ex→AS→Option R):=Pu.ns (λy0=>ke 0 K B1 ((z4 (u y0) X.1),X.2)) (λy0 y1=>kr K B1 ((z1 (w y0 (z2 (u y1))) X.1),X.2)) X.1.1 X.1.2.1 (q2 X) (q3 X)
def Wy:bQ:=ev B1 Q5 q4
def Ye:cg:=(cg.nil).add 4 Wy
theorem Vs:ee E age ab2 Ye (aE Tryz.f143 0):=lk B1 Q5 q4 λX x=>((z4 (u x) X.1),X.2)
theorem SX:aI Tryz.prog 143 US:=fk ab2 (((((base.add pC).add Jl).add Ln).add ah0).add ac2) Tryz.func143 (Λ:=Ye) (cF Vs nF)
def e80:aM:=aA [pd (.sl ba)] [(false,(.sl (.own none) ek)),rB] (c1 Pu.jM)
def g80:bL:=((((bL.nil.add 139 Gf).add 140 Zi).add 141 Pn).add 142 Zj).add 143 US
def n80:An:={mask:=mk [(6,[2,3,4,5,18,19,20]),(12,[2,3,4,5,7,8,18,19,20,32,33,34])],mv:=[53,57,63,69]}
abbrev Gc:SD:=⟨B::B::.data false (.sl (.own (some 24576)) ek)::DB::.data false (.sl (.own (some 49152)) ek)::.data false (.sl (.own (some 61440)) (.int .i64))::B::.ptr 7 0::.data false (.sl (.own (some 98304)) (.int .i64))::bs 9 (.data false (.sl .arg ba)::DI::DI::bs 11 (.data false (.sl (.own (some 393216)) (.int .i64))::DI::DI::bs 35 [])),zs 7 ((some (.pair XR Y2))::zs 62 []),.none⟩
def RT {R:Type}(X:SD.D Gc)(K:Ex→AS→Option R):=Pu.gq (λy0 y1 y2=>ke 2 K Gc ((z3 (w y0 (w y1 (z5 (u y2)))) X.1),X.2)) X.1.1 X.1.2.1 (q2 X) (q5 X) (q6 X) (q7 X) (q8 X) (q9 X) X.2.1.1
def Xl:bQ:=ev Gc RT (λX=>(q3 X,q4 X,EY X))
abbrev HY:SD:=⟨B::B::.data false (.sl (.own (some 24576)) ek)::DB::.data false (.sl (.own (some 49152)) ek)::.data false (.sl (.own (some 61440)) (.int .i64))::bs 12 (.data false (.sl .arg ba)::DI::DI::bs 49 []),zs 70 [],.none⟩
def Un {R:Type}(X:SD.D HY)(K:Ex→AS→Option R):=Pu.kl (λy0 y1 y2=>ke 0 K HY ((z2 (w y0 (w y1 (z2 (u y2)))) X.1),X.2)) (λy0 y1 y2 y3 y4=>kr K HY ((w y0 (w y1 (w y2 (w y3 (z2 (u y4))))) X.1),X.2)) X.1.1 X.1.2.1 (q4 X) (q5 X)
def abG:bQ:=ev HY Un (λX=>(q2 X,q3 X,q6 X))
def L80:cg:=((cg.nil).add 12 Xl).add 6 abG
theorem Wd:ee E g80 n80 L80 (aE Tryz.f80 1):=lk Gc RT (λX=>(q3 X,q4 X,EY X)) λX x=>((z3 (w x.1 (w x.2.1 (z5 (u x.2.2)))) X.1),X.2)
theorem aaP:ee E g80 n80 L80 (aE Tryz.f80 0):=lk HY Un (λX=>(q2 X,q3 X,q6 X)) λX x=>((z2 (w x.1 (w x.2.1 (z2 (u x.2.2)))) X.1),X.2)
theorem o80:aI Tryz.prog 80 e80:=fk n80 (((((base.add pC).add acP).add Jl).add acQ).add SX) Tryz.func80 (Λ:=L80) (cF aaP (cF Wd nF))
def ZF:aM:=aA [pf dn] [rB] (c1 Pu.tj)
theorem adi:aI Tryz.prog 242 ZF:=f0 {merge:=mg [(1,33),(3,54),(5,2)]} (base.add pC) Tryz.func242
def UZ:aM:=aA [pd (.sl dn)] [rB] (c1 Pu.rE)
def agr:bL:=bL.nil.add 242 ZF
def acf:An:={mask:=mk [(2,[0,2,5,6,7])]}
abbrev Cb:SD:=⟨.data false (.sl .arg dn)::B::DB::B::B::.data false (.sl .arg dn)::DI::DI::bs 10 [],zs 18 [],.none⟩
def Rj {R:Type}(X:SD.D Cb)(K:Ex→AS→Option R):=Pu.vA (λy0=>ke 0 K Cb ((z4 (u y0) X.1),X.2)) (λy0 y1=>kr K Cb ((z1 (w y0 (z2 (u y1))) X.1),X.2)) X.1.1 X.1.2.1 (q2 X) (q3 X)
def WM:bQ:=ev Cb Rj q4
def Yq:cg:=(cg.nil).add 2 WM
theorem VF:ee E agr acf Yq (aE Tryz.f199 0):=lk Cb Rj q4 λX x=>((z4 (u x) X.1),X.2)
theorem ac3:aI Tryz.prog 199 UZ:=fk acf (base.add adi) Tryz.func199 (Λ:=Yq) (cF VF nF)
def ZG:aM:=aA [pf (.sl cM),pf iK] [rI] (c2 Pu.qy)
def agA:bL:=bL.nil
def acp:An:={mask:=mk [(2,[3,4,8,9,10])],merge:=mg [(4,23)]}
abbrev Ch:SD:=⟨B::B::B::.ptr 3 0::DI::B::B::B::.data false (.sl .arg cM)::DI::DI::bs 15 [],Z::Z::Z::(some O5)::zs 22 [],.none⟩
def Rv {R:Type}(X:SD.D Ch)(K:Ex→AS→Option R):=Pu.oF (λy0=>ke 0 K Ch ((z3 (u y0) X.1),X.2)) (λy0 y1=>kr K Ch ((w y0 (z2 (u y1)) X.1),X.2)) X.1.1 X.1.2.1 (q2 X) X.2.1.1
def WZ:bQ:=ev Ch Rv q3
def Yz:cg:=(cg.nil).add 2 WZ
theorem VR:ee E agA acp Yz (aE Tryz.f243 0):=lk Ch Rv q3 λX x=>((z3 (u x) X.1),X.2)
theorem adj:aI Tryz.prog 243 ZG:=fk acp base Tryz.func243 (Λ:=Yz) (cF VR nF)
def ZJ:aM:=aA [pI,pI] [rI] (c2 Pu.jC)
theorem adp:aI Tryz.prog 264 ZJ:=f0 {} base Tryz.func264
def ZO:aM:=aA [pf iK] [rI] (c1 Pu.pU)
def agI:bL:=bL.nil.add 264 ZJ
def acy:An:={mask:=mk [(3,[3,16,17,18])]}
abbrev F3:SD:=⟨B::B::B::DI::bs 12 (.data false (.sl (.own (some 196608)) (.int .i64))::DI::DI::bs 10 []),zs 29 [],.none⟩
def RJ {R:Type}(X:SD.D F3)(K:Ex→AS→Option R):=Pu.iW (λy0 y1=>ke 0 K F3 ((w y0 (z2 (u y1)) X.1),X.2)) X.1.2.1 (q2 X)
def Xb:bQ:=ev F3 RJ (λX=>(X.1.1,q3 X))
def YH:cg:=(cg.nil).add 3 Xb
theorem V3:ee E agI acy YH (aE Tryz.f280 0):=lk F3 RJ (λX=>(X.1.1,q3 X)) λX x=>((w x.1 (z2 (u x.2)) X.1),X.2)
theorem aiO:aI Tryz.prog 280 ZO:=fk acy (base.add adp) Tryz.func280 (Λ:=YH) (cF V3 nF)
def ZH:aM:=aA [pf iK] [(false,(.sl (.own none) (.int .i64)))] (c1 Pu.uM)
def agB:bL:=bL.nil.add 280 ZO
def acq:An:={mask:=mk [(3,[1,3,4])],mv:=[10,18]}
abbrev FU:SD:=⟨B::.ptr 1 0::B::.data false (.sl (.own (some 36864)) (.int .i64))::DI::bs 14 [],Z::(some O5)::zs 17 [],.none⟩
def Rx {R:Type}(X:SD.D FU)(K:Ex→AS→Option R):=Pu.m8 (λy0 y1=>ke 0 K FU ((w y0 (u y1) X.1),X.2)) X.2.1.1
def W0:bQ:=ev FU Rx (λX=>(X.1.1,X.1.2.1))
def YA:cg:=(cg.nil).add 3 W0
theorem VS:ee E agB acq YA (aE Tryz.f244 0):=lk FU Rx (λX=>(X.1.1,X.1.2.1)) λX x=>((w x.1 (u x.2) X.1),X.2)
theorem ais:aI Tryz.prog 244 ZH:=fk acq (base.add aiO) Tryz.func244 (Λ:=YA) (cF VS nF)
def Zx:aM:=aA [pf (.sl cM)] [rB] (c1 Pu.mc)
def Z4:bL:=((bL.nil.add 139 Gf).add 243 ZG).add 244 ZH
def Xu:An:={mask:=mk [(4,[1,2,12,13,14]),(14,[1,2,3,12,13,14,49,50,51])],merge:=mg [(6,28),(9,40)]}
abbrev yo:SD:=⟨B::.ptr 1 0::DB::DI::bs 8 (.data false (.sl .arg cM)::DI::DI::bs 34 (.data false (.sl (.own (some 602112)) (.int .i64))::DI::DI::bs 15 [])),Z::(some (.sl .arg cM))::zs 65 [],.none⟩
def Nm {R:Type}(X:SD.D yo)(K:Ex→AS→Option R):=Pu.gr (λy0=>ke 2 K yo ((z7 (u y0) X.1),X.2)) (λy0 y1=>kr K yo ((w y0 (z6 (u y1)) X.1),X.2)) X.1.1 X.1.2.1 (q2 X) (q3 X) (q4 X) (q5 X) (q6 X) X.2.1.1
def SO:bQ:=ev yo Nm q7
abbrev Cc:SD:=⟨B::.ptr 1 0::DB::bs 9 (.data false (.sl .arg cM)::DI::DI::bs 52 []),Z::(some (.sl .arg cM))::zs 65 [],.none⟩
def Rk {R:Type}(X:SD.D Cc)(K:Ex→AS→Option R):=Pu.nu (λy0=>ke 0 K Cc ((z3 (u y0) X.1),X.2)) (λy0 y1=>kr K Cc ((w y0 (z2 (u y1)) X.1),X.2)) X.1.1 X.1.2.1 (q2 X) X.2.1.1
def WN:bQ:=ev Cc Rk q3
def UD:cg:=((cg.nil).add 14 SO).add 4 WN
theorem SJ:ee E Z4 Xu UD (aE Tryz.f200 1):=lk yo Nm q7 λX x=>((z7 (u x) X.1),X.2)
theorem VG:ee E Z4 Xu UD (aE Tryz.f200 0):=lk Cc Rk q3 λX x=>((z3 (u x) X.1),X.2)
theorem ac4:aI Tryz.prog 200 Zx:=fk Xu (((base.add pC).add adj).add ais) Tryz.func200 (Λ:=UD) (cF VG (cF SJ nF))
def ZI:aM:=aA [pI] [rB] (c1 Pu.vW)
theorem ait:aI Tryz.prog 245 ZI:=f0 {merge:=mg [(1,2)]} base Tryz.func245
def Zy:aM:=aA [pf gF,pI] [rB] (c2 Pu.pZ)
def ags:bL:=(bL.nil.add 139 Gf).add 245 ZI
def acg:An:={mask:=mk [(4,[1,4,24,25,26])],merge:=mg [(1,22)]}
abbrev Cd:SD:=⟨B::DI::B::B::DB::bs 19 (.data false (.sl .arg (.int .i64))::DI::DI::bs 9 []),zs 36 [],.none⟩
def Rl {R:Type}(X:SD.D Cd)(K:Ex→AS→Option R):=Pu.uk (λy0=>ke 0 K Cd ((z4 (u y0) X.1),X.2)) (λy0 y1=>kr K Cd ((z1 (w y0 (z2 (u y1))) X.1),X.2)) X.1.1 X.1.2.1 (q2 X) (q3 X)
def WO:bQ:=ev Cd Rl q4
def Yr:cg:=(cg.nil).add 4 WO
theorem VH:ee E ags acg Yr (aE Tryz.f201 0):=lk Cd Rl q4 λX x=>((z4 (u x) X.1),X.2)
theorem ac5:aI Tryz.prog 201 Zy:=fk acg ((base.add pC).add ait) Tryz.func201 (Λ:=Yr) (cF VH nF)
def ad5:aM:=aA [pf eg,pI] [rB] (c2 Pu.km)
def Z2:bL:=((bL.nil.add 199 UZ).add 200 Zx).add 201 Zy
def Xs:An:={mask:=mk [(4,[1,2,4,27,28,29]),(10,[1,4,45,46,47])],merge:=mg [(1,25),(6,41),(12,59)]}
abbrev B3:SD:=⟨B::DI::.ptr 2 0::B::DB::bs 22 (.data false (.sl .arg dn)::DI::DI::bs 31 []),Z::Z::(some Y16)::zs 58 [],.none⟩
def Q7 {R:Type}(X:SD.D B3)(K:Ex→AS→Option R):=Pu.jN (λy0=>ke 0 K B3 ((z4 (u y0) X.1),X.2)) (λy0 y1=>kr K B3 ((z1 (w y0 (z2 (u y1))) X.1),X.2)) X.1.1 X.1.2.1 (q2 X) (q3 X) X.2.1.1
def WA:bQ:=ev B3 Q7 q4
abbrev yn:SD:=⟨B::DI::B::B::DB::bs 40 (.data false (.sl .arg cM)::DI::DI::bs 13 []),zs 61 [],.none⟩
def Nj {R:Type}(X:SD.D yn)(K:Ex→AS→Option R):=Pu.iC (λy0=>ke 2 K yn ((z4 (u y0) X.1),X.2)) (λy0 y1=>kr K yn ((z1 (w y0 (z2 (u y1))) X.1),X.2)) X.1.1 X.1.2.1 (q2 X) (q3 X)
def SL:bQ:=ev yn Nj q4
def UB:cg:=((cg.nil).add 4 WA).add 10 SL
theorem Vu:ee E Z2 Xs UB (aE Tryz.f145 0):=lk B3 Q7 q4 λX x=>((z4 (u x) X.1),X.2)
theorem SG:ee E Z2 Xs UB (aE Tryz.f145 1):=lk yn Nj q4 λX x=>((z4 (u x) X.1),X.2)
theorem acR:aI Tryz.prog 145 ad5:=fk Xs (((base.add ac3).add ac4).add ac5) Tryz.func145 (Λ:=UB) (cF Vu (cF SG nF))
def e81:aM:=aA [pf cz] [rB] (c1 Pu.qw)
theorem o81:aI Tryz.prog 81 e81:=f0 {merge:=mg [(1,2)]} ((base.add Ln).add acR) Tryz.func81
def ad6:aM:=aA [pd (.sl (.int .i64)),pd (.sl (.int .i64))] [rB] (c2 Pu.mm)
def agh:bL:=bL.nil
def ab4:An:={mask:=mk [(4,[0,1,4,12,13])]}
abbrev B4:SD:=⟨.data false (.sl .arg (.int .i64))::.data false (.sl .arg (.int .i64))::B::B::DB::bs 7 (DI::DI::bs 12 []),zs 26 [],.none⟩
def Q8 {R:Type}(X:SD.D B4)(K:Ex→AS→Option R):=Pu.iG (λy0=>ke 0 K B4 ((z4 (u y0) X.1),X.2)) (λy0 y1=>kr K B4 ((z2 (w y0 (z1 (u y1))) X.1),X.2)) X.1.1 X.1.2.1 (q2 X) (q3 X)
def WB:bQ:=ev B4 Q8 q4
def Yg:cg:=(cg.nil).add 4 WB
theorem Vv:ee E agh ab4 Yg (aE Tryz.f146 0):=lk B4 Q8 q4 λX x=>((z4 (u x) X.1),X.2)
theorem ahq:aI Tryz.prog 146 ad6:=fk ab4 base Tryz.func146 (Λ:=Yg) (cF Vv nF)
def e82:aM:=aA [pf dN,pf dN] [rB] (c2 Pu.nw)
theorem o82:aI Tryz.prog 82 e82:=f0 {merge:=mg [(1,4)]} (base.add ahq) Tryz.func82
def Zk:aM:=aA [pf dE] [rB] (c1 Pu.mU)
theorem XB:aI Tryz.prog 147 Zk:=f0 {merge:=mg [(1,2)]} (base.add pC) Tryz.func147
def e83:aM:=aA [pd (.sl ay),pd (.sl ek)] [rB] (c2 Pu.iV)
def g83:bL:=((bL.nil.add 139 Gf).add 143 US).add 147 Zk
def n83:An:={mask:=mk [(4,[0,1,4,12,13,14]),(9,[0,1,4,6,12,13,14,52,53,54])],merge:=mg [(6,49),(11,69)]}
abbrev H0:SD:=⟨.data false (.sl .arg ay)::.data false (.sl .arg ek)::B::B::DB::B::.ptr 6 0::bs 5 (.data false (.sl .arg ay)::DI::DI::bs 37 (.data false (.sl .arg ay)::DI::DI::bs 17 [])),zs 6 ((some Y15)::zs 65 []),.none⟩
def Up {R:Type}(X:SD.D H0)(K:Ex→AS→Option R):=Pu.iB (λy0=>ke 2 K H0 ((z8 (u y0) X.1),X.2)) (λy0 y1=>kr K H0 ((z2 (w y0 (z5 (u y1))) X.1),X.2)) X.1.1 X.1.2.1 (q2 X) (q3 X) (q4 X) (q5 X) (q6 X) (q7 X) X.2.1.1
def abI:bQ:=ev H0 Up q8
abbrev HZ:SD:=⟨.data false (.sl .arg ay)::.data false (.sl .arg ek)::B::B::DB::bs 7 (.data false (.sl .arg ay)::DI::DI::bs 57 []),zs 72 [],.none⟩
def Uo {R:Type}(X:SD.D HZ)(K:Ex→AS→Option R):=Pu.iA (λy0=>ke 0 K HZ ((z5 (u y0) X.1),X.2)) (λy0 y1=>kr K HZ ((z2 (w y0 (z2 (u y1))) X.1),X.2)) X.1.1 X.1.2.1 (q2 X) (q3 X) (q4 X)
def abH:bQ:=ev HZ Uo q5
def L83:cg:=((cg.nil).add 9 abI).add 4 abH
theorem aaR:ee E g83 n83 L83 (aE Tryz.f83 1):=lk H0 Up q8 λX x=>((z8 (u x) X.1),X.2)
theorem aaQ:ee E g83 n83 L83 (aE Tryz.f83 0):=lk HZ Uo q5 λX x=>((z5 (u x) X.1),X.2)
theorem o83:aI Tryz.prog 83 e83:=fk n83 (((base.add pC).add SX).add XB) Tryz.func83 (Λ:=L83) (cF aaQ (cF aaR nF))
def e84:aM:=aA [pd (.sl ay)] [rB] (c1 Pu.oD)
def g84:bL:=bL.nil
def n84:An:={mask:=mk [(2,[2,5,6,7])],merge:=mg [(4,22)]}
abbrev H2:SD:=⟨B::B::DB::B::B::.data false (.sl .arg ay)::DI::DI::bs 16 [],zs 24 [],.none⟩
def Uq {R:Type}(X:SD.D H2)(K:Ex→AS→Option R):=Pu.k8 (λy0=>ke 0 K H2 ((z3 (u y0) X.1),X.2)) (λy0 y1=>kr K H2 ((w y0 (z2 (u y1)) X.1),X.2)) X.1.1 X.1.2.1 (q2 X)
def abJ:bQ:=ev H2 Uq q3
def L84:cg:=(cg.nil).add 2 abJ
theorem aaS:ee E g84 n84 L84 (aE Tryz.f84 0):=lk H2 Uq q3 λX x=>((z3 (u x) X.1),X.2)
theorem o84:aI Tryz.prog 84 e84:=fk n84 base Tryz.func84 (Λ:=L84) (cF aaS nF)
def e34:aM:=aA [pf bk] [rB] (c1 Pu.lW)
def g34:bL:=((((bL.nil.add 80 e80).add 81 e81).add 82 e82).add 83 e83).add 84 e84
def n34:An:={mask:=mk [(6,[1,2,3,41,42,43])],merge:=mg [(3,39),(8,62),(11,2)]}
abbrev HL:SD:=⟨B::.ptr 1 0::DB::.data false (.sl .loc ek)::bs 37 (.data false (.sl .arg cz)::DI::DI::bs 29 []),Z::(some Y9)::zs 71 [],.none⟩
def TY {R:Type}(X:SD.D HL)(K:Ex→AS→Option R):=Pu.nr (λy0=>ke 0 K HL ((z4 (u y0) X.1),X.2)) (λy0 y1=>kr K HL ((w y0 (z3 (u y1)) X.1),X.2)) X.1.1 X.1.2.1 (q2 X) (q3 X) X.2.1.1
def abh:bQ:=ev HL TY q4
def L34:cg:=(cg.nil).add 6 abh
theorem aar:ee E g34 n34 L34 (aE Tryz.f34 0):=lk HL TY q4 λX x=>((z4 (u x) X.1),X.2)
theorem o34:aI Tryz.prog 34 e34:=fk n34 (((((base.add o80).add o81).add o82).add o83).add o84) Tryz.func34 (Λ:=L34) (cF aar nF)
def ad7:aM:=aA [pf yf] [rB] (c1 Pu.xO)
theorem ahr:aI Tryz.prog 148 ad7:=f0 {merge:=mg [(1,12),(3,31),(5,2)]} (base.add pC) Tryz.func148
def e85:aM:=aA [pf bD,pI] [rB] (c2 Pu.sy)
theorem o85:aI Tryz.prog 85 e85:=f0 {merge:=mg [(1,4)]} ((base.add pC).add ahr) Tryz.func85
def afd:aM:=aA [pf dN,pI] [(true,Y3),rB] (c2 Pu.ry)
theorem aiu:aI Tryz.prog 246 afd:=f0 {merge:=mg [(2,17)],mv:=[18,29]} ((((base.add XY).add Jl).add acQ).add Ln) Tryz.func246
def afe:aM:=aA [pf dN,pI] [(true,Y3),rB] (c2 Pu.pP)
def agC:bL:=((bL.nil.add 87 e87).add 141 Pn).add 144 UT
def acr:An:={mask:=mk [(6,[1,4,6,25,26,27])],merge:=mg [(2,20)],mv:=[21,35,41]}
abbrev FV:SD:=⟨B::DI::B::B::.ptr 4 0::B::.ptr 6 0::bs 18 (.data false (.sl .arg (.int .i64))::DI::DI::bs 14 []),zs 4 ((some Y19)::Z::(some Y18)::zs 35 []),.none⟩
def Ry {R:Type}(X:SD.D FV)(K:Ex→AS→Option R):=Pu.lT (λy0 y1=>ke 0 K FV ((z3 (u y0) X.1),(z1 (u y1) X.2.1),X.2.2)) X.1.1 X.1.2.1 (q2 X) X.2.1.1
def W1:bQ:=ev FV Ry (λX=>(q3 X,X.2.1.2.1))
def YB:cg:=(cg.nil).add 6 W1
theorem VT:ee E agC acr YB (aE Tryz.f247 0):=lk FV Ry (λX=>(q3 X,X.2.1.2.1)) λX x=>((z3 (u x.1) X.1),(z1 (u x.2) X.2.1),X.2.2)
theorem aiv:aI Tryz.prog 247 afe:=fk acr (((base.add XY).add Jl).add Ln) Tryz.func247 (Λ:=YB) (cF VT nF)
def aeF:aM:=aA [pf dN,pf dE] [(true,Y3),rI] (c2 Pu.rF)
theorem ah1:aI Tryz.prog 202 aeF:=f0 {mv:=[21,30,39,46],mb:=mg [(39,6)],sb:=mg [(4,4)]} ((((base.add XY).add Ln).add aiu).add aiv) Tryz.func202
def ad8:aM:=aA [pf ba,pf dE] [(true,(.pair Y3 Y2)),rI] (c2 Pu.jL)
theorem ahs:aI Tryz.prog 149 ad8:=f0 {mv:=[13,20,30,31,47],mb:=mg [(20,6),(47,6)],sb:=mg [(4,4)],fm:=[49]} (((base.add XA).add acP).add ah1) Tryz.func149
def e86:aM:=aA [pd (.sl ba),pI,pf dE] [(false,(.sl (.own none) ba)),rI] (c3 Pu.kY)
theorem o86:aI Tryz.prog 86 e86:=f0 {mv:=[14,23,32,60],es:=mg [(25,8)]} ((((base.add o77).add o80).add XA).add ahs) Tryz.func86
def aff:aM:=aA [pf fU] [rB] (c1 Pu.lx)
theorem adk:aI Tryz.prog 248 aff:=f0 {merge:=mg [(1,18),(5,2),(7,2)]} (base.add pC) Tryz.func248
def afg:aM:=aA [pI] [rB] (c1 Pu.oG)
theorem aiw:aI Tryz.prog 249 afg:=f0 {merge:=mg [(1,2)]} base Tryz.func249
def Zz:aM:=aA [pf bM] [rB] (c1 Pu.eB)
theorem GL:aI Tryz.prog 203 Zz:=f0 {merge:=mg [(1,2)]} (((base.add pC).add adk).add aiw) Tryz.func203
def Zm:aM:=aA [pf bM] [rB] (c1 Pu.il)
theorem SY:aI Tryz.prog 156 Zm:=f0 {merge:=mg [(1,2)]} (base.add GL) Tryz.func156
def afu:aM:=aA [pI] [rS] (c1 Pu.cr)
theorem Jm:aI Tryz.prog 263 afu:=f0 {} (base.add pC) Tryz.func263
def afT:aM:=aA [pI] [rS] (c1 Pu.fC)
theorem Qg:aI Tryz.prog 296 afT:=f0 {} (base.add pC) Tryz.func296
def afG:aM:=aA [pf fU] [rS] (c1 Pu.md)
theorem aiP:aI Tryz.prog 281 afG:=f0 {} ((base.add Jm).add Qg) Tryz.func281
def afH:aM:=aA [pI,pI,pI,pI] [rS,rB] (c4 Pu.oz)
theorem aiQ:aI Tryz.prog 282 afH:=f0 {merge:=mg [(1,27)]} (((base.add pC).add Jm).add Qg) Tryz.func282
def ZS:aM:=aA [pI,pI] [rI] (c2 Pu.ru)
theorem ai9:aI Tryz.prog 304 ZS:=f0 {merge:=mg [(1,12)]} (base.add pC) Tryz.func304
def afU:aM:=aA [pd .str] [rI] (c1 Pu.p4)
def agL:bL:=bL.nil.add 304 ZS
def acB:An:={mask:=mk [(3,[0,3,4])]}
abbrev F6:SD:=⟨.data false .str::B::B::DI::DI::bs 28 [],zs 33 [],.none⟩
def RM {R:Type}(X:SD.D F6)(K:Ex→AS→Option R):=Pu.ma (λy0 y1=>ke 0 K F6 ((z1 (w y0 (u y1)) X.1),X.2)) X.1.1
def Xe:bQ:=ev F6 RM (λX=>(X.1.2.1,q2 X))
def YK:cg:=(cg.nil).add 3 Xe
theorem V6:ee E agL acB YK (aE Tryz.f297 0):=lk F6 RM (λX=>(X.1.2.1,q2 X)) λX x=>((z1 (w x.1 (u x.2)) X.1),X.2)
theorem ai2:aI Tryz.prog 297 afU:=fk acB (base.add ai9) Tryz.func297 (Λ:=YK) (cF V6 nF)
def afI:aM:=aA [pd .str] [rI] (c1 Pu.mV)
theorem adt:aI Tryz.prog 283 afI:=f0 {} (base.add ai2) Tryz.func283
def afJ:aM:=aA [pd .str,pI,pd .str] [rS] (c3 Pu.kF)
theorem adu:aI Tryz.prog 284 afJ:=f0 {merge:=mg [(1,17)]} base Tryz.func284
def afK:aM:=aA [pI] [rI] (c1 Pu.m7)
theorem aiR:aI Tryz.prog 285 afK:=f0 {} base Tryz.func285
def afh:aM:=aA [pI,pI,pf fU] [rS,rB] (c3 Pu.fJ)
theorem adl:aI Tryz.prog 250 afh:=f0 {merge:=mg [(8,39)]} (((((((base.add adk).add Jm).add aiP).add aiQ).add adt).add adu).add aiR) Tryz.func250
def afV:aM:=aA [pf Tu] [rB] (c1 Pu.zI)
theorem ai3:aI Tryz.prog 298 afV:=f0 {merge:=mg [(1,2)]} (base.add pC) Tryz.func298
def afL:aM:=aA [pf Tu] [rS,rB] (c1 Pu.pV)
theorem aiS:aI Tryz.prog 286 afL:=f0 {} (((((base.add Jm).add adt).add adu).add Qg).add ai3) Tryz.func286
def afi:aM:=aA [pf Tu] [rS,rB] (c1 Pu.ou)
theorem adm:aI Tryz.prog 251 afi:=f0 {} (base.add aiS) Tryz.func251
def afo:aM:=aA [pf Nq] [rB] (c1 Pu.sv)
theorem adn:aI Tryz.prog 257 afo:=f0 {merge:=mg [(1,2)]} (base.add pC) Tryz.func257
def afM:aM:=aA [pI] [rS] (c1 Pu.p5)
theorem aiT:aI Tryz.prog 287 afM:=f0 {} ((base.add Jm).add Qg) Tryz.func287
def afj:aM:=aA [pf Nq] [rS,rB] (c1 Pu.pN)
theorem aix:aI Tryz.prog 252 afj:=f0 {} (((base.add adn).add Jm).add aiT) Tryz.func252
def afN:aM:=aA [pd (.int .u8),pI] [rS] (c2 Pu.tk)
def agJ:bL:=bL.nil
def acz:An:={mask:=mk [(3,[0,5,10,11])]}
abbrev F4:SD:=⟨.data false (.int .u8)::bs 4 (.data false (.sl (.own (some 61440)) (.int .u8))::bs 4 (DI::DI::bs 9 [])),zs 21 [],.none⟩
def RK {R:Type}(X:SD.D F4)(K:Ex→AS→Option R):=Pu.oE (λy0 y1=>ke 0 K F4 ((z1 (w y0 (z1 (u y1))) X.1),X.2)) X.1.1 (q2 X)
def Xc:bQ:=ev F4 RK (λX=>(X.1.2.1,q3 X))
def YI:cg:=(cg.nil).add 3 Xc
theorem V4:ee E agJ acz YI (aE Tryz.f288 0):=lk F4 RK (λX=>(X.1.2.1,q3 X)) λX x=>((z1 (w x.1 (z1 (u x.2))) X.1),X.2)
theorem aiU:aI Tryz.prog 288 afN:=fk acz base Tryz.func288 (Λ:=YI) (cF V4 nF)
def afk:aM:=aA [pd .str] [rS] (c1 Pu.rC)
theorem aiy:aI Tryz.prog 253 afk:=f0 {} (base.add aiU) Tryz.func253
def aeG:aM:=aA [pf bM] [rS,rB] (c1 Pu.kk)
theorem ac6:aI Tryz.prog 204 aeG:=f0 {} (((((base.add GL).add adl).add adm).add aix).add aiy) Tryz.func204
def afl:aM:=aA [pd .str] [rI] (c1 Pu.uK)
def Z6:bL:=bL.nil
def Xw:An:={mask:=mk [(3,[0,3,4]),(7,[0,3,4,5])]}
abbrev FY:SD:=⟨.data false .str::B::B::.data false (.int .u32)::DI::DI::bs 28 [],zs 34 [],.none⟩
def RB {R:Type}(X:SD.D FY)(K:Ex→AS→Option R):=Pu.kE (λy0 y1=>ke 2 K FY ((z1 (w y0 (z1 (u y1))) X.1),X.2)) X.1.1 (q2 X)
def W4:bQ:=ev FY RB (λX=>(X.1.2.1,q3 X))
abbrev FX:SD:=⟨.data false .str::B::B::.data false (.int .u32)::DI::bs 29 [],zs 34 [],.none⟩
def RA {R:Type}(X:SD.D FX)(K:Ex→AS→Option R):=Pu.mW (λy0 y1=>ke 0 K FX ((z1 (w y0 (u y1)) X.1),X.2)) X.1.1
def W3:bQ:=ev FX RA (λX=>(X.1.2.1,q2 X))
def UF:cg:=((cg.nil).add 7 W4).add 3 W3
theorem VW:ee E Z6 Xw UF (aE Tryz.f254 1):=lk FY RB (λX=>(X.1.2.1,q3 X)) λX x=>((z1 (w x.1 (z1 (u x.2))) X.1),X.2)
theorem VV:ee E Z6 Xw UF (aE Tryz.f254 0):=lk FX RA (λX=>(X.1.2.1,q2 X)) λX x=>((z1 (w x.1 (u x.2)) X.1),X.2)
theorem aiz:aI Tryz.prog 254 afl:=fk Xw base Tryz.func254 (Λ:=UF) (cF VV (cF VW nF))
def aeI:aM:=aA [pd .str] [rS] (c1 Pu.oB)
theorem ac7:aI Tryz.prog 206 aeI:=f0 {} (base.add aiz) Tryz.func206
def UW:aM:=aA [pf bM] [rS,rB] (c1 Pu.kj)
theorem acU:aI Tryz.prog 159 UW:=f0 {} (((base.add SY).add ac6).add ac7) Tryz.func159
def aea:aM:=aA [pd (.sl bM)] [(false,(.sl (.own none) .str))] (c1 Pu.pS)
def agi:bL:=bL.nil.add 159 UW
def ab5:An:={mask:=mk [(3,[3,9,10,11])],mv:=[21,26]}
abbrev FG:SD:=⟨B::B::B::.data false (.sl (.own (some 36864)) .str)::bs 5 (.data false (.sl .arg bM)::DI::DI::bs 15 []),zs 27 [],.none⟩
def Q9 {R:Type}(X:SD.D FG)(K:Ex→AS→Option R):=Pu.iU (λy0 y1=>ke 0 K FG ((w y0 (z2 (u y1)) X.1),X.2)) X.1.2.1 (q2 X)
def WC:bQ:=ev FG Q9 (λX=>(X.1.1,q3 X))
def Yh:cg:=(cg.nil).add 3 WC
theorem Vw:ee E agi ab5 Yh (aE Tryz.f151 0):=lk FG Q9 (λX=>(X.1.1,q3 X)) λX x=>((w x.1 (z2 (u x.2)) X.1),X.2)
theorem aht:aI Tryz.prog 151 aea:=fk ab5 (base.add acU) Tryz.func151 (Λ:=Yh) (cF Vw nF)
def aeb:aM:=aA [pf bM,pI] [(false,(.sl (.own none) bM))] (c2 Pu.uL)
def agj:bL:=(bL.nil.add 139 Gf).add 203 Zz
def ab6:An:={mask:=mk [(8,[1,2,5,6,7])],merge:=mg [(1,17),(4,30)],mv:=[83,87]}
abbrev FI:SD:=⟨B::DI::.ptr 2 0::B::B::.data false .str::.data false (.sl (.own (some 73728)) bM)::DI::bs 80 [],Z::Z::(some Y0)::zs 85 [],.none⟩
def Ra {R:Type}(X:SD.D FI)(K:Ex→AS→Option R):=Pu.pY (λy0 y1=>ke 0 K FI ((z2 (w y0 (u y1)) X.1),X.2)) X.1.1 X.1.2.1 X.2.1.1
def WD:bQ:=ev FI Ra (λX=>(q2 X,q3 X))
def Yi:cg:=(cg.nil).add 8 WD
theorem Vx:ee E agj ab6 Yi (aE Tryz.f152 0):=lk FI Ra (λX=>(q2 X,q3 X)) λX x=>((z2 (w x.1 (u x.2)) X.1),X.2)
theorem ahu:aI Tryz.prog 152 aeb:=fk ab6 ((base.add pC).add GL) Tryz.func152 (Λ:=Yi) (cF Vx nF)
def e88:aM:=aA [pf bM,pI] [(false,(.sl (.own none) .str))] (c2 Pu.nt)
theorem o88:aI Tryz.prog 88 e88:=f0 {} ((base.add aht).add ahu) Tryz.func88
def aec:aM:=aA [pd .str] [rS,rB] (c1 Pu.pO)
theorem ahw:aI Tryz.prog 154 aec:=f0 {merge:=mg [(2,17)]} (base.add ac7) Tryz.func154
def afm:aM:=aA [pd .str,pI] [rI] (c2 Pu.eX)
theorem XE:aI Tryz.prog 255 afm:=f0 {merge:=mg [(1,13)]} base Tryz.func255
def afn:aM:=aA [pd .str,pI] [rI] (c2 Pu.jK)
theorem XF:aI Tryz.prog 256 afn:=f0 {merge:=mg [(1,13)]} base Tryz.func256
def aeJ:aM:=aA [pd .str] [(true,Y10),rB] (c1 Pu.pW)
theorem ah3:aI Tryz.prog 207 aeJ:=f0 {merge:=mg [(4,33)],sb:=mg [(4,4)]} (((base.add XE).add XF).add adn) Tryz.func207
def aeK:aM:=aA [pd .str] [(true,XS),rB] (c1 Pu.rD)
theorem ah4:aI Tryz.prog 208 aeK:=f0 {merge:=mg [(2,22),(6,56)],sb:=mg [(5,5)]} (((base.add adm).add XE).add XF) Tryz.func208
def aeL:aM:=aA [pI,pI,pI,pd .str] [(true,(.pair (.int .i64) XS)),rB] (c4 Pu.kW)
theorem ah5:aI Tryz.prog 209 aeL:=f0 {merge:=mg [(3,20),(9,44),(12,68)]} (((base.add adl).add XE).add XF) Tryz.func209
def aed:aM:=aA [pd .str] [(true,Y0),rI] (c1 Pu.oA)
theorem ahx:aI Tryz.prog 155 aed:=f0 {merge:=mg [(2,20)]} ((((base.add GL).add ah3).add ah4).add ah5) Tryz.func155
def e90:aM:=aA [pd .str] [(true,Y0),rI] (c1 Pu.iY)
theorem o90:aI Tryz.prog 90 e90:=f0 {} (((base.add ahw).add ahx).add SY) Tryz.func90
def UU:aM:=aA [pd (.sl ek),pI,pf bM] [rI] (c3 Pu.iT)
theorem XC:aI Tryz.prog 157 UU:=f0 {merge:=mg [(1,24),(7,54)]} ((((base.add pC).add Jl).add SX).add GL) Tryz.func157
def Zn:aM:=aA [pd (.sl ek),pI,pf bM] [(false,(.sl (.own none) (.int .i64)))] (c3 Pu.g7)
def Z3:bL:=((bL.nil.add 141 Pn).add 157 UU).add 198 UY
def Xt:An:={mask:=mk [(11,[0,1,7,8,33,34]),(17,[0,1,7,11,43,44,45])],merge:=mg [(19,60)],mv:=[37,61,66]}
abbrev Bg:SD:=⟨.data false (.sl .arg ek)::DI::bs 5 (DI::B::B::B::.data false (.sl (.own (some 135168)) (.int .i64))::bs 31 (.data false (.sl .loc (.int .i64))::DI::DI::bs 21 [])),zs 67 [],.none⟩
def Nl {R:Type}(X:SD.D Bg)(K:Ex→AS→Option R):=Pu.dL (λy0 y1=>ke 2 K Bg ((z3 (w y0 (z2 (u y1))) X.1),X.2)) X.1.1 X.1.2.1 (q2 X) (q4 X) (q5 X)
def SN:bQ:=ev Bg Nl (λX=>(q3 X,q6 X))
abbrev Bf:SD:=⟨.data false (.sl .arg ek)::DI::bs 5 (DI::.data false (.sl (.own (some 98304)) (.int .i64))::bs 24 (DI::DI::bs 32 [])),zs 67 [],.none⟩
def Nk {R:Type}(X:SD.D Bf)(K:Ex→AS→Option R):=Pu.gG (λy0 y1=>ke 0 K Bf ((z3 (w y0 (z1 (u y1))) X.1),X.2)) X.1.1 X.1.2.1 (q2 X) (q4 X)
def SM:bQ:=ev Bf Nk (λX=>(q3 X,q5 X))
def UC:cg:=((cg.nil).add 17 SN).add 11 SM
theorem SI:ee E Z3 Xt UC (aE Tryz.f158 1):=lk Bg Nl (λX=>(q3 X,q6 X)) λX x=>((z3 (w x.1 (z2 (u x.2))) X.1),X.2)
theorem SH:ee E Z3 Xt UC (aE Tryz.f158 0):=lk Bf Nk (λX=>(q3 X,q5 X)) λX x=>((z3 (w x.1 (z1 (u x.2))) X.1),X.2)
theorem acT:aI Tryz.prog 158 Zn:=fk Xt (((base.add Jl).add XC).add ac2) Tryz.func158 (Λ:=UC) (cF SH (cF SI nF))
def Zo:aM:=aA [pd (.sl ek),pI,pI,pf bM] [(true,Y0)] (c4 Pu.lX)
theorem ahy:aI Tryz.prog 160 Zo:=f0 {merge:=mg [(1,34)]} ((((base.add pC).add Jl).add SX).add GL) Tryz.func160
def aeM:aM:=aA [pf dN,pf bM] [rB] (c2 Pu.rr)
theorem ah6:aI Tryz.prog 210 aeM:=f0 {merge:=mg [(1,4)]} ((base.add Jl).add Ln) Tryz.func210
def afW:aM:=aA [pI,pI,pI] [rB] (c3 Pu.ko)
theorem ai4:aI Tryz.prog 299 afW:=f0 {} base Tryz.func299
def ZP:aM:=aA [pf dn,pf bM] [rB] (c2 Pu.lY)
theorem aiV:aI Tryz.prog 289 ZP:=f0 {merge:=mg [(1,4)]} ((((base.add pC).add GL).add adi).add ai4) Tryz.func289
def afp:aM:=aA [pd (.sl dn),pf bM] [rI] (c2 Pu.pR)
def agD:bL:=(bL.nil.add 199 UZ).add 289 ZP
def acs:An:={mask:=mk [(5,[0,3,5,11,12,13])],merge:=mg [(7,34)]}
abbrev FZ:SD:=⟨.data false (.sl .arg dn)::B::B::.ptr 3 0::B::DI::bs 5 (.data false (.sl .arg dn)::DI::DI::bs 24 []),Z::Z::Z::(some Y0)::zs 34 [],.none⟩
def RD {R:Type}(X:SD.D FZ)(K:Ex→AS→Option R):=Pu.lV (λy0 y1=>ke 0 K FZ ((z1 (w y0 (z2 (u y1))) X.1),X.2)) X.1.1 (q2 X) (q3 X) X.2.1.1
def W5:bQ:=ev FZ RD (λX=>(X.1.2.1,q4 X))
def YC:cg:=(cg.nil).add 5 W5
theorem VX:ee E agD acs YC (aE Tryz.f258 0):=lk FZ RD (λX=>(X.1.2.1,q4 X)) λX x=>((z1 (w x.1 (z2 (u x.2))) X.1),X.2)
theorem aiA:aI Tryz.prog 258 afp:=fk acs ((base.add ac3).add aiV) Tryz.func258 (Λ:=YC) (cF VX nF)
def afq:aM:=aA [pf (.sl cM),pf iK] [rI] (c2 Pu.pQ)
theorem aiB:aI Tryz.prog 259 afq:=f0 {} ((base.add ac4).add adj) Tryz.func259
def afr:aM:=aA [pf bM] [(true,O5)] (c1 Pu.qv)
theorem ado:aI Tryz.prog 260 afr:=f0 {} base Tryz.func260
def U1:aM:=aA [pd .str,pI] [rI] (c2 Pu.qx)
theorem adw:aI Tryz.prog 309 U1:=f0 {} base Tryz.func309
def ZU:aM:=aA [pd .str,pI] [rI] (c2 Pu.oy)
def agP:bL:=(bL.nil.add 139 Gf).add 309 U1
def acF:An:={mask:=mk [(5,[0,1,5,6])],merge:=mg [(1,14)]}
abbrev Ga:SD:=⟨.data false .str::DI::B::B::B::DI::DI::bs 22 [],zs 29 [],.none⟩
def RQ {R:Type}(X:SD.D Ga)(K:Ex→AS→Option R):=Pu.kV (λy0 y1=>ke 0 K Ga ((z2 (w y0 (u y1)) X.1),X.2)) X.1.1 X.1.2.1
def Xi:bQ:=ev Ga RQ (λX=>(q2 X,q3 X))
def YO:cg:=(cg.nil).add 5 Xi
theorem Wa:ee E agP acF YO (aE Tryz.f310 0):=lk Ga RQ (λX=>(q2 X,q3 X)) λX x=>((z2 (w x.1 (u x.2)) X.1),X.2)
theorem ajd:aI Tryz.prog 310 ZU:=fk acF ((base.add pC).add adw) Tryz.func310 (Λ:=YO) (cF Wa nF)
def af0:aM:=aA [pd .str,pd .str] [rI] (c2 Pu.ow)
def agN:bL:=(bL.nil.add 309 U1).add 310 ZU
def acD:An:={mask:=mk [(5,[0,1,5,6])],merge:=mg [(1,14)]}
abbrev F8:SD:=⟨.data false .str::.data false .str::B::B::B::DI::DI::bs 25 [],zs 32 [],.none⟩
def RO {R:Type}(X:SD.D F8)(K:Ex→AS→Option R):=Pu.kU (λy0 y1=>ke 0 K F8 ((z2 (w y0 (u y1)) X.1),X.2)) X.1.1 X.1.2.1
def Xg:bQ:=ev F8 RO (λX=>(q2 X,q3 X))
def YM:cg:=(cg.nil).add 5 Xg
theorem V8:ee E agN acD YM (aE Tryz.f305 0):=lk F8 RO (λX=>(q2 X,q3 X)) λX x=>((z2 (w x.1 (u x.2)) X.1),X.2)
theorem aja:aI Tryz.prog 305 af0:=fk acD ((base.add adw).add ajd) Tryz.func305 (Λ:=YM) (cF V8 nF)
def af1:aM:=aA [pf iK] [rS] (c1 Pu.ox)
theorem ajb:aI Tryz.prog 306 af1:=f0 {} ((base.add Jm).add Qg) Tryz.func306
def afX:aM:=aA [pd .str,pf iK] [rI] (c2 Pu.pT)
theorem ai5:aI Tryz.prog 300 afX:=f0 {} ((base.add aja).add ajb) Tryz.func300
def afO:aM:=aA [pf gF,pf iK] [rI] (c2 Pu.rA)
theorem aiW:aI Tryz.prog 290 afO:=f0 {merge:=mg [(2,17)]} (base.add ai5) Tryz.func290
def afs:aM:=aA [pf gF,pI,pf iK] [rI] (c3 Pu.l7)
theorem aiC:aI Tryz.prog 261 afs:=f0 {merge:=mg [(2,18)]} ((base.add ac5).add aiW) Tryz.func261
def aeN:aM:=aA [pf eg,pI,pf bM] [rI] (c3 Pu.l8)
theorem ah7:aI Tryz.prog 211 aeN:=f0 {merge:=mg [(1,17)]} ((((((base.add acR).add GL).add aiA).add aiB).add ado).add aiC) Tryz.func211
def aft:aM:=aA [pd (.sl bC),pf iK] [rI] (c2 Pu.l9)
def agE:bL:=bL.nil
def acu:An:={mask:=mk [(2,[3,4,7,8,9])]}
abbrev Ci:SD:=⟨B::B::B::.ptr 3 0::DI::B::B::.data false (.sl .arg bC)::DI::DI::bs 10 [],Z::Z::Z::(some O5)::zs 16 [],.none⟩
def RE {R:Type}(X:SD.D Ci)(K:Ex→AS→Option R):=Pu.iD (λy0=>ke 0 K Ci ((z3 (u y0) X.1),X.2)) (λy0 y1=>kr K Ci ((w y0 (z2 (u y1)) X.1),X.2)) X.1.1 X.1.2.1 (q2 X) X.2.1.1
def W6:bQ:=ev Ci RE q3
def YD:cg:=(cg.nil).add 2 W6
theorem VY:ee E agE acu YD (aE Tryz.f262 0):=lk Ci RE q3 λX x=>((z3 (u x) X.1),X.2)
theorem aiD:aI Tryz.prog 262 aft:=fk acu base Tryz.func262 (Λ:=YD) (cF VY nF)
def aeO:aM:=aA [pd (.sl bC),pf bM] [(false,(.sl (.own none) bC))] (c2 Pu.ov)
theorem ah8:aI Tryz.prog 212 aeO:=f0 {merge:=mg [(17,82)],mv:=[16,31,51,58,67,83,132],er:=mg [(115,5)]} ((((((base.add acO).add GL).add ado).add aiD).add Jm).add adp) Tryz.func212
def Zp:aM:=aA [pf cz,pd .str] [(true,Y8)] (c2 Pu.l0)
theorem ahz:aI Tryz.prog 161 Zp:=f0 {merge:=mg [(3,35)],mv:=[41]} ((((((base.add o79).add o81).add o90).add ah6).add ah7).add ah8) Tryz.func161
def e91:aM:=aA [pf bk,pI,pf bM] [(true,Y1)] (c3 Pu.iX)
def g91:bL:=((((((((bL.nil.add 33 ZV).add 34 e34).add 80 e80).add 156 Zm).add 157 UU).add 158 Zn).add 159 UW).add 160 Zo).add 161 Zp
def n91:An:={mask:=mk [(7,[5,6,7,8,10,39,40,41])],merge:=mg [(2,24)],mv:=[25,26,57,76]}
abbrev Mz:SD:=⟨bs 5 (.ptr 5 0::.ptr 6 0::.ptr 7 0::.data false (.sl (.own (some 98304)) ek)::B::DI::bs 28 (.data false (.sl (.own (some 479232)) (.int .i64))::DI::DI::bs 35 [])),zs 5 ((some Y0)::(some Y5)::(some Y4)::zs 69 []),.none⟩
def Us {R:Type}(X:SD.D Mz)(K:Ex→AS→Option R):=Pu.fX (λy0 y1=>ke 0 K Mz ((z4 (u y0) X.1),(z2 (u y1) X.2.1),X.2.2)) X.1.1 X.1.2.1 (q2 X) (q3 X) X.2.1.1 X.2.1.2.1
def abL:bQ:=ev Mz Us (λX=>(q4 X,X.2.1.2.2.1))
def L91:cg:=(cg.nil).add 7 abL
theorem aaU:ee E g91 n91 L91 (aE Tryz.f91 0):=lk Mz Us (λX=>(q4 X,X.2.1.2.2.1)) λX x=>((z4 (u x.1) X.1),(z2 (u x.2) X.2.1),X.2.2)
theorem o91:aI Tryz.prog 91 e91:=fk n91 (((((((((base.add o33).add o34).add o80).add SY).add XC).add acT).add acU).add ahy).add ahz) Tryz.func91 (Λ:=L91) (cF aaU nF)
def aeH:aM:=aA [pf dE,pI] [(true,Y2),rB] (c2 Pu.l6)
theorem ah2:aI Tryz.prog 205 aeH:=f0 {merge:=mg [(1,15)]} ((base.add pC).add XB) Tryz.func205
def Zl:aM:=aA [pd (.sl ay),pd (.sl ek),pI,pf bM] [(false,(.sl (.own none) ay)),(false,(.sl (.own none) (.int .i64))),rB] (c4 Pu.pX)
theorem ahv:aI Tryz.prog 153 Zl:=f0 {merge:=mg [(2,35),(7,73)],late:=[93],mv:=[36,81],er:=mg [(98,11)]} ((((((((base.add o76).add o83).add pC).add SY).add XC).add acT).add ac6).add ah2) Tryz.func153
def e89:aM:=aA [pf bk,pI] [(true,Y1)] (c2 Pu.jP)
def g89:bL:=((((bL.nil.add 33 ZV).add 80 e80).add 90 e90).add 91 e91).add 153 Zl
def n89:An:={mask:=mk [(5,[1,4,5,6,32,33,34])],mv:=[17,45,55,64]}
abbrev My:SD:=⟨B::DI::B::B::.ptr 4 0::.ptr 5 0::.data false (.sl (.own (some 73728)) ek)::bs 25 (.data false (.sl .arg .str)::DI::DI::bs 30 []),zs 4 ((some (.pair (.sl (.own (some 49153)) cz) (.pair (.sl (.own (some 49156)) (.sl .str)) (.pair (.sl (.own (some 49159)) ay) (.pair (.sl (.own (some 49162)) ba) (.sl (.own (some 49165)) .str))))))::(some (.pair (.sl (.own (some 61441)) cz) (.pair (.sl (.own (some 61444)) (.sl .str)) (.pair (.sl (.own (some 61447)) ay) (.pair (.sl (.own (some 61450)) ba) (.sl (.own (some 61453)) .str))))))::zs 59 []),.none⟩
def Ur {R:Type}(X:SD.D My)(K:Ex→AS→Option R):=Pu.eV (λy0 y1=>ke 0 K My ((z4 (u y0) X.1),(z1 (u y1) X.2.1),X.2.2)) X.1.1 X.1.2.1 (q2 X) (q3 X) X.2.1.1
def abK:bQ:=ev My Ur (λX=>(q4 X,X.2.1.2.1))
def L89:cg:=(cg.nil).add 5 abK
theorem aaT:ee E g89 n89 L89 (aE Tryz.f89 0):=lk My Ur (λX=>(q4 X,X.2.1.2.1)) λX x=>((z4 (u x.1) X.1),(z1 (u x.2) X.2.1),X.2.2)
theorem o89:aI Tryz.prog 89 e89:=fk n89 (((((base.add o33).add o80).add o90).add o91).add ahv) Tryz.func89 (Λ:=L89) (cF aaT nF)
def Zq:aM:=aA [pf dE,pI] [(true,Y2)] (c2 Pu.kX)
theorem ahA:aI Tryz.prog 162 Zq:=f0 {merge:=mg [(1,10)]} ((base.add pC).add XB) Tryz.func162
def e92:aM:=aA [pd (.sl ay),pI] [(false,(.sl (.own none) ay))] (c2 Pu.jO)
def g92:bL:=(bL.nil.add 76 e76).add 162 Zq
def n92:An:={mask:=mk [(3,[1,5,10,11])],mv:=[26]}
abbrev MA:SD:=⟨B::DI::B::B::B::.data false (.sl (.own (some 61440)) ay)::bs 4 (DI::DI::bs 15 []),zs 27 [],.none⟩
def Ut {R:Type}(X:SD.D MA)(K:Ex→AS→Option R):=Pu.gH (λy0 y1=>ke 0 K MA ((z1 (w y0 (z1 (u y1))) X.1),X.2)) X.1.1 (q2 X)
def abM:bQ:=ev MA Ut (λX=>(X.1.2.1,q3 X))
def L92:cg:=(cg.nil).add 3 abM
theorem aaV:ee E g92 n92 L92 (aE Tryz.f92 0):=lk MA Ut (λX=>(X.1.2.1,q3 X)) λX x=>((z1 (w x.1 (z1 (u x.2))) X.1),X.2)
theorem o92:aI Tryz.prog 92 e92:=fk n92 ((base.add o76).add ahA) Tryz.func92 (Λ:=L92) (cF aaV nF)
def e35:aM:=aA [pf bk,pf bD,pI] [(true,Y1)] (c3 Pu.rz)
def g35:bL:=(((((((((bL.nil.add 33 ZV).add 34 e34).add 85 e85).add 86 e86).add 87 e87).add 88 e88).add 89 e89).add 90 e90).add 91 e91).add 92 e92
def n35:An:={mask:=mk [(12,[6,7,59,60])],merge:=mg [(2,24)],mv:=[25,32,54,69,84,126],sb:=mg [(77,7)],eb:=mg [(83,7)]}
abbrev Gb:SD:=⟨bs 6 (.ptr 6 0::.ptr 7 0::bs 51 (DI::DI::bs 66 [])),zs 6 ((some Y5)::(some Y4)::zs 119 []),.none⟩
def RR {R:Type}(X:SD.D Gb)(K:Ex→AS→Option R):=Pu.iS (λy0 y1=>ke 1 K Gb ((z1 (u y0) X.1),(z1 (u y1) X.2.1),X.2.2)) X.1.1 X.2.1.1
def Xj:bQ:=ev Gb RR (λX=>(X.1.2.1,X.2.1.2.1))
def L35:cg:=(cg.nil).add 12 Xj
theorem Wb:ee E g35 n35 L35 (aE Tryz.f35 0):=lk Gb RR (λX=>(X.1.2.1,X.2.1.2.1)) λX x=>((z1 (u x.1) X.1),(z1 (u x.2) X.2.1),X.2.2)
theorem o35:aI Tryz.prog 35 e35:=fk n35 ((((((((((base.add o33).add o34).add o85).add o86).add XY).add o88).add o89).add o90).add o91).add o92) Tryz.func35 (Λ:=L35) (cF Wb nF)
def e10:aM:=aA [pf bk,pd (.sl bD),pd (.sl (.int .i64))] [(true,Y1)] (c3 Pu.mX)
def g10:bL:=((bL.nil.add 33 ZV).add 34 e34).add 35 e35
def n10:An:={mask:=mk [(5,[2,6,7,28,29,30])],merge:=mg [(2,26)],mv:=[27,43],sb:=mg [(7,7)]}
abbrev Mb:SD:=⟨B::B::.data false (.sl .arg (.int .i64))::B::B::B::.ptr 6 0::.ptr 7 0::bs 20 (.data false (.sl .arg bD)::DI::DI::bs 13 []),zs 6 ((some Y5)::(some Y4)::zs 36 []),.none⟩
def TF {R:Type}(X:SD.D Mb)(K:Ex→AS→Option R):=Pu.lZ (λy0 y1=>ke 0 K Mb ((z3 (u y0) X.1),(z1 (u y1) X.2.1),X.2.2)) X.1.1 X.1.2.1 (q2 X) X.2.1.1
def aaY:bQ:=ev Mb TF (λX=>(q3 X,X.2.1.2.1))
def L10:cg:=(cg.nil).add 5 aaY
theorem Z8:ee E g10 n10 L10 (aE Tryz.f10 0):=lk Mb TF (λX=>(q3 X,X.2.1.2.1)) λX x=>((z3 (u x.1) X.1),(z1 (u x.2) X.2.1),X.2.2)
theorem o10:aI Tryz.prog 10 e10:=fk n10 (((base.add o33).add o34).add o35) Tryz.func10 (Λ:=L10) (cF Z8 nF)
def e40:aM:=aA [pd (.sl .str),pd (.sl .str)] [rB] (c2 Pu.jb)
def g40:bL:=bL.nil
def n40:An:={mask:=mk [(4,[0,1,4,5])]}
abbrev HQ:SD:=⟨.data false (.sl .arg .str)::.data false (.sl .arg .str)::B::B::DB::DI::bs 20 [],zs 26 [],.none⟩
def T4 {R:Type}(X:SD.D HQ)(K:Ex→AS→Option R):=Pu.tp (λy0=>ke 0 K HQ ((z3 (u y0) X.1),X.2)) (λy0 y1=>kr K HQ ((z2 (w y0 (u y1)) X.1),X.2)) X.1.1 X.1.2.1 (q2 X)
def abm:bQ:=ev HQ T4 q3
def L40:cg:=(cg.nil).add 4 abm
theorem aaw:ee E g40 n40 L40 (aE Tryz.f40 0):=lk HQ T4 q3 λX x=>((z3 (u x) X.1),X.2)
theorem o40:aI Tryz.prog 40 e40:=fk n40 base Tryz.func40 (Λ:=L40) (cF aaw nF)
def e13:aM:=aA [pd (.sl (.int .i64)),pd (.sl (.int .i64))] [rB] (c2 Pu.qA)
def g13:bL:=bL.nil
def n13:An:={mask:=mk [(4,[0,1,4,5])]}
abbrev HF:SD:=⟨.data false (.sl .arg (.int .i64))::.data false (.sl .arg (.int .i64))::B::B::DB::DI::bs 20 [],zs 26 [],.none⟩
def TH {R:Type}(X:SD.D HF)(K:Ex→AS→Option R):=Pu.vX (λy0=>ke 0 K HF ((z3 (u y0) X.1),X.2)) (λy0 y1=>kr K HF ((z2 (w y0 (u y1)) X.1),X.2)) X.1.1 X.1.2.1 (q2 X)
def aa0:bQ:=ev HF TH q3
def L13:cg:=(cg.nil).add 4 aa0
theorem aaa:ee E g13 n13 L13 (aE Tryz.f13 0):=lk HF TH q3 λX x=>((z3 (u x) X.1),X.2)
theorem o13:aI Tryz.prog 13 e13:=fk n13 base Tryz.func13 (Λ:=L13) (cF aaa nF)
def aee:aM:=aA [pf dN,pf dN] [rB] (c2 Pu.m9)
theorem acV:aI Tryz.prog 163 aee:=f0 {} (base.add o13) Tryz.func163
def ZK:aM:=aA [pf dn,pf dn] [rB] (c2 Pu.qB)
theorem aiE:aI Tryz.prog 265 ZK:=f0 {} base Tryz.func265
def aeP:aM:=aA [pd (.sl dn),pd (.sl dn)] [rB] (c2 Pu.uP)
def agt:bL:=bL.nil.add 265 ZK
def ach:An:={mask:=mk [(4,[0,1,4,5])]}
abbrev Ce:SD:=⟨.data false (.sl .arg dn)::.data false (.sl .arg dn)::B::B::DB::DI::bs 21 [],zs 27 [],.none⟩
def Rm {R:Type}(X:SD.D Ce)(K:Ex→AS→Option R):=Pu.vB (λy0=>ke 0 K Ce ((z3 (u y0) X.1),X.2)) (λy0 y1=>kr K Ce ((z2 (w y0 (u y1)) X.1),X.2)) X.1.1 X.1.2.1 (q2 X)
def WQ:bQ:=ev Ce Rm q3
def Ys:cg:=(cg.nil).add 4 WQ
theorem VI:ee E agt ach Ys (aE Tryz.f213 0):=lk Ce Rm q3 λX x=>((z3 (u x) X.1),X.2)
theorem ah9:aI Tryz.prog 213 aeP:=fk ach (base.add aiE) Tryz.func213 (Λ:=Ys) (cF VI nF)
def afw:aM:=aA [pf iK,pf iK] [rB] (c2 Pu.qz)
theorem adq:aI Tryz.prog 267 afw:=f0 {} base Tryz.func267
def ZQ:aM:=aA [pf cM,pf cM] [rB] (c2 Pu.qC)
theorem aiX:aI Tryz.prog 291 ZQ:=f0 {} (base.add adq) Tryz.func291
def afv:aM:=aA [pd (.sl cM),pd (.sl cM)] [rB] (c2 Pu.uQ)
def agF:bL:=bL.nil.add 291 ZQ
def acv:An:={mask:=mk [(4,[0,1,4,5])]}
abbrev Cj:SD:=⟨.data false (.sl .arg cM)::.data false (.sl .arg cM)::B::B::DB::DI::bs 21 [],zs 27 [],.none⟩
def RF {R:Type}(X:SD.D Cj)(K:Ex→AS→Option R):=Pu.vC (λy0=>ke 0 K Cj ((z3 (u y0) X.1),X.2)) (λy0 y1=>kr K Cj ((z2 (w y0 (u y1)) X.1),X.2)) X.1.1 X.1.2.1 (q2 X)
def W7:bQ:=ev Cj RF q3
def YE:cg:=(cg.nil).add 4 W7
theorem VZ:ee E agF acv YE (aE Tryz.f266 0):=lk Cj RF q3 λX x=>((z3 (u x) X.1),X.2)
theorem aiF:aI Tryz.prog 266 afv:=fk acv (base.add aiX) Tryz.func266 (Λ:=YE) (cF VZ nF)
def aeQ:aM:=aA [pf (.sl cM),pf (.sl cM)] [rB] (c2 Pu.me)
theorem aia:aI Tryz.prog 214 aeQ:=f0 {} (base.add aiF) Tryz.func214
def aeR:aM:=aA [pf gF,pf gF] [rB] (c2 Pu.p8)
theorem aib:aI Tryz.prog 215 aeR:=f0 {} (base.add o13) Tryz.func215
def aef:aM:=aA [pf eg,pf eg] [rB] (c2 Pu.ny)
theorem ahB:aI Tryz.prog 164 aef:=f0 {} (((base.add ah9).add aia).add aib) Tryz.func164
def ZA:aM:=aA [pf bC,pf bC] [rB] (c2 Pu.na)
theorem aic:aI Tryz.prog 216 ZA:=f0 {} (base.add adq) Tryz.func216
def aeg:aM:=aA [pd (.sl bC),pd (.sl bC)] [rB] (c2 Pu.sD)
def agk:bL:=bL.nil.add 216 ZA
def ab7:An:={mask:=mk [(4,[0,1,4,5])]}
abbrev B5:SD:=⟨.data false (.sl .arg bC)::.data false (.sl .arg bC)::B::B::DB::DI::bs 21 [],zs 27 [],.none⟩
def Rb {R:Type}(X:SD.D B5)(K:Ex→AS→Option R):=Pu.tn (λy0=>ke 0 K B5 ((z3 (u y0) X.1),X.2)) (λy0 y1=>kr K B5 ((z2 (w y0 (u y1)) X.1),X.2)) X.1.1 X.1.2.1 (q2 X)
def WE:bQ:=ev B5 Rb q3
def Yj:cg:=(cg.nil).add 4 WE
theorem Vy:ee E agk ab7 Yj (aE Tryz.f165 0):=lk B5 Rb q3 λX x=>((z3 (u x) X.1),X.2)
theorem ahC:aI Tryz.prog 165 aeg:=fk ab7 (base.add aic) Tryz.func165 (Λ:=Yj) (cF Vy nF)
def e93:aM:=aA [pf cz,pf cz] [rB] (c2 Pu.qD)
theorem o93:aI Tryz.prog 93 e93:=f0 {} ((((base.add o40).add acV).add ahB).add ahC) Tryz.func93
def e36:aM:=aA [pd (.sl cz),pd (.sl cz)] [rB] (c2 Pu.uR)
def g36:bL:=bL.nil.add 93 e93
def n36:An:={mask:=mk [(4,[0,1,4,5])]}
abbrev HM:SD:=⟨.data false (.sl .arg cz)::.data false (.sl .arg cz)::B::B::DB::DI::bs 21 [],zs 27 [],.none⟩
def TZ {R:Type}(X:SD.D HM)(K:Ex→AS→Option R):=Pu.vD (λy0=>ke 0 K HM ((z3 (u y0) X.1),X.2)) (λy0 y1=>kr K HM ((z2 (w y0 (u y1)) X.1),X.2)) X.1.1 X.1.2.1 (q2 X)
def abi:bQ:=ev HM TZ q3
def L36:cg:=(cg.nil).add 4 abi
theorem aas:ee E g36 n36 L36 (aE Tryz.f36 0):=lk HM TZ q3 λX x=>((z3 (u x) X.1),X.2)
theorem o36:aI Tryz.prog 36 e36:=fk n36 (base.add o93) Tryz.func36 (Λ:=L36) (cF aas nF)
def e37:aM:=aA [pd (.sl (.sl .str)),pd (.sl (.sl .str))] [rB] (c2 Pu.qW)
def g37:bL:=bL.nil.add 40 e40
def n37:An:={mask:=mk [(4,[0,1,4,5])]}
abbrev HN:SD:=⟨.data false (.sl .arg (.sl .str))::.data false (.sl .arg (.sl .str))::B::B::DB::DI::bs 21 [],zs 27 [],.none⟩
def T0 {R:Type}(X:SD.D HN)(K:Ex→AS→Option R):=Pu.sE (λy0=>ke 0 K HN ((z3 (u y0) X.1),X.2)) (λy0 y1=>kr K HN ((z2 (w y0 (u y1)) X.1),X.2)) X.1.1 X.1.2.1 (q2 X)
def abj:bQ:=ev HN T0 q3
def L37:cg:=(cg.nil).add 4 abj
theorem aat:ee E g37 n37 L37 (aE Tryz.f37 0):=lk HN T0 q3 λX x=>((z3 (u x) X.1),X.2)
theorem o37:aI Tryz.prog 37 e37:=fk n37 (base.add o40) Tryz.func37 (Λ:=L37) (cF aat nF)
def aeh:aM:=aA [pf dE,pf dE] [rB] (c2 Pu.p6)
theorem ahD:aI Tryz.prog 166 aeh:=f0 {} base Tryz.func166
def e94:aM:=aA [pf ay,pf ay] [rB] (c2 Pu.eO)
theorem o94:aI Tryz.prog 94 e94:=f0 {} (base.add ahD) Tryz.func94
def e38:aM:=aA [pd (.sl ay),pd (.sl ay)] [rB] (c2 Pu.jc)
def g38:bL:=bL.nil.add 94 e94
def n38:An:={mask:=mk [(4,[0,1,4,5])]}
abbrev HO:SD:=⟨.data false (.sl .arg ay)::.data false (.sl .arg ay)::B::B::DB::DI::bs 21 [],zs 27 [],.none⟩
def T1 {R:Type}(X:SD.D HO)(K:Ex→AS→Option R):=Pu.lC (λy0=>ke 0 K HO ((z3 (u y0) X.1),X.2)) (λy0 y1=>kr K HO ((z2 (w y0 (u y1)) X.1),X.2)) X.1.1 X.1.2.1 (q2 X)
def abk:bQ:=ev HO T1 q3
def L38:cg:=(cg.nil).add 4 abk
theorem aau:ee E g38 n38 L38 (aE Tryz.f38 0):=lk HO T1 q3 λX x=>((z3 (u x) X.1),X.2)
theorem o38:aI Tryz.prog 38 e38:=fk n38 (base.add o94) Tryz.func38 (Λ:=L38) (cF aau nF)
def e95:aM:=aA [pf ba,pf ba] [rB] (c2 Pu.lB)
theorem o95:aI Tryz.prog 95 e95:=f0 {} (base.add acV) Tryz.func95
def e39:aM:=aA [pd (.sl ba),pd (.sl ba)] [rB] (c2 Pu.qV)
def g39:bL:=bL.nil.add 95 e95
def n39:An:={mask:=mk [(4,[0,1,4,5])]}
abbrev HP:SD:=⟨.data false (.sl .arg ba)::.data false (.sl .arg ba)::B::B::DB::DI::bs 21 [],zs 27 [],.none⟩
def T3 {R:Type}(X:SD.D HP)(K:Ex→AS→Option R):=Pu.sC (λy0=>ke 0 K HP ((z3 (u y0) X.1),X.2)) (λy0 y1=>kr K HP ((z2 (w y0 (u y1)) X.1),X.2)) X.1.1 X.1.2.1 (q2 X)
def abl:bQ:=ev HP T3 q3
def L39:cg:=(cg.nil).add 4 abl
theorem aav:ee E g39 n39 L39 (aE Tryz.f39 0):=lk HP T3 q3 λX x=>((z3 (u x) X.1),X.2)
theorem o39:aI Tryz.prog 39 e39:=fk n39 (base.add o95) Tryz.func39 (Λ:=L39) (cF aav nF)
def e11:aM:=aA [pf bk,pf bk] [rB] (c2 Pu.jQ)
theorem o11:aI Tryz.prog 11 e11:=f0 {} (((((base.add o36).add o37).add o38).add o39).add o40) Tryz.func11
def aeS:aM:=aA [pf fU,pf fU] [rB] (c2 Pu.oI)
theorem aid:aI Tryz.prog 217 aeS:=f0 {} base Tryz.func217
def aei:aM:=aA [pf bM,pf bM] [rB] (c2 Pu.p7)
theorem ahE:aI Tryz.prog 167 aei:=f0 {} (base.add aid) Tryz.func167
def e96:aM:=aA [pf yf,pf yf] [rB] (c2 Pu.uO)
theorem o96:aI Tryz.prog 96 e96:=f0 {} (base.add ahE) Tryz.func96
def e97:aM:=aA [pf dE,pf dE] [rB] (c2 Pu.oH)
theorem o97:aI Tryz.prog 97 e97:=f0 {} base Tryz.func97
def e41:aM:=aA [pf bD,pf bD] [rB] (c2 Pu.lA)
theorem o41:aI Tryz.prog 41 e41:=f0 {} ((base.add o96).add o97) Tryz.func41
def e12:aM:=aA [pd (.sl bD),pd (.sl bD)] [rB] (c2 Pu.qU)
def g12:bL:=bL.nil.add 41 e41
def n12:An:={mask:=mk [(4,[0,1,4,5])]}
abbrev HE:SD:=⟨.data false (.sl .arg bD)::.data false (.sl .arg bD)::B::B::DB::DI::bs 21 [],zs 27 [],.none⟩
def TG {R:Type}(X:SD.D HE)(K:Ex→AS→Option R):=Pu.sB (λy0=>ke 0 K HE ((z3 (u y0) X.1),X.2)) (λy0 y1=>kr K HE ((z2 (w y0 (u y1)) X.1),X.2)) X.1.1 X.1.2.1 (q2 X)
def aaZ:bQ:=ev HE TG q3
def L12:cg:=(cg.nil).add 4 aaZ
theorem Z9:ee E g12 n12 L12 (aE Tryz.f12 0):=lk HE TG q3 λX x=>((z3 (u x) X.1),X.2)
theorem o12:aI Tryz.prog 12 e12:=fk n12 (base.add o41) Tryz.func12 (Λ:=L12) (cF Z9 nF)
def e16:aM:=uh (.sl (.int .i64)) false [pI] [rI] λx a=>Pu.ft x a.1
def g16:bL:=bL.nil
def n16:An:={mask:=mk [(2,[0,1,5])]}
abbrev Md:SD:=⟨.data false (.sl (.lio 0 12288036864) (.int .i64))::DI::B::B::B::DI::bs 13 [],zs 19 [],.some (.sl (.own (some 12288036864)) (.int .i64))⟩
def TJ {R:Type}(X:SD.D Md)(K:Ex→AS→Option R):=Pu.jf (λy0 y1 y2 y3=>ke 0 K Md ((w y0 (w y1 (u y2)) X.1),X.2.1,y3))
def aa2:bQ:=ev Md TJ (λX=>(X.1.1,X.1.2.1,q2 X,X.2.2))
def L16:cg:=(cg.nil).add 2 aa2
theorem aac:ee E g16 n16 L16 (aE Tryz.f16 0):=lk Md TJ (λX=>(X.1.1,X.1.2.1,q2 X,X.2.2)) λX x=>((w x.1 (w x.2.1 (u x.2.2.1)) X.1),X.2.1,x.2.2.2)
theorem o16:aI Tryz.prog 16 e16:=aI.C2 (CA (Γ:=g16) (an:=n16) (Λ:=L16) (base) Tryz.func16 (by kernel_rfl) (ao (cF aac nF))) (λx a=>by kernel_rfl)
def Ty:aM:=aA [pI] [rS] (c1 Pu.bR)
def g47:bL:=bL.nil
def n47:An:={mask:=mk [(4,[0,3])]}
abbrev Ms:SD:=⟨DI::B::B::.data false .str::bs 16 [],zs 20 [],.none⟩
def Ua {R:Type}(X:SD.D Ms)(K:Ex→AS→Option R):=Pu.mi (λy0 y1=>ke 0 K Ms ((w y0 (u y1) X.1),X.2))
def abt:bQ:=ev Ms Ua (λX=>(X.1.1,X.1.2.1))
def L47:cg:=(cg.nil).add 4 abt
theorem aaC:ee E g47 n47 L47 (aE Tryz.f47 0):=lk Ms Ua (λX=>(X.1.1,X.1.2.1)) λX x=>((w x.1 (u x.2) X.1),X.2)
theorem XH:aI Tryz.prog 47 Ty:=fk n47 base Tryz.func47 (Λ:=L47) (cF aaC nF)
def e46:aM:=uh (.sl .str) false [pI] [rI] λx a=>Pu.gx x a.1
def g46:bL:=bL.nil.add 47 Ty
def n46:An:={mask:=mk [(2,[0,1,5])]}
abbrev Mr:SD:=⟨.data false (.sl (.lio 0 12288036864) .str)::DI::B::B::B::DI::bs 14 [],zs 20 [],.some (.sl (.own (some 12288036864)) .str)⟩
def T9 {R:Type}(X:SD.D Mr)(K:Ex→AS→Option R):=Pu.fZ (λy0 y1 y2 y3=>ke 0 K Mr ((w y0 (w y1 (u y2)) X.1),X.2.1,y3))
def abr:bQ:=ev Mr T9 (λX=>(X.1.1,X.1.2.1,q2 X,X.2.2))
def L46:cg:=(cg.nil).add 2 abr
theorem aaB:ee E g46 n46 L46 (aE Tryz.f46 0):=lk Mr T9 (λX=>(X.1.1,X.1.2.1,q2 X,X.2.2)) λX x=>((w x.1 (w x.2.1 (u x.2.2.1)) X.1),X.2.1,x.2.2.2)
theorem o46:aI Tryz.prog 46 e46:=aI.C2 (CA (Γ:=g46) (an:=n46) (Λ:=L46) (base.add XH) Tryz.func46 (by kernel_rfl) (ao (cF aaB nF))) (λx a=>by kernel_rfl)
def e98:aM:=uh (.sl dn) false [pI] [rI] λx a=>Pu.oS x a.1
def g98:bL:=bL.nil
def n98:An:={mask:=mk [(2,[0,1,5])]}
abbrev MB:SD:=⟨.data false (.sl (.lio 0 12288036864) dn)::DI::B::B::B::DI::bs 70 [],zs 76 [],.some (.sl (.own (some 12288036864)) dn)⟩
def Uu {R:Type}(X:SD.D MB)(K:Ex→AS→Option R):=Pu.oT (λy0 y1 y2 y3=>ke 0 K MB ((w y0 (w y1 (u y2)) X.1),X.2.1,y3))
def abN:bQ:=ev MB Uu (λX=>(X.1.1,X.1.2.1,q2 X,X.2.2))
def L98:cg:=(cg.nil).add 2 abN
theorem aaW:ee E g98 n98 L98 (aE Tryz.f98 0):=lk MB Uu (λX=>(X.1.1,X.1.2.1,q2 X,X.2.2)) λX x=>((w x.1 (w x.2.1 (u x.2.2.1)) X.1),X.2.1,x.2.2.2)
theorem o98:aI Tryz.prog 98 e98:=aI.C2 (CA (Γ:=g98) (an:=n98) (Λ:=L98) (base) Tryz.func98 (by kernel_rfl) (ao (cF aaW nF))) (λx a=>by kernel_rfl)
def e99:aM:=uh (.sl cM) false [pI] [rI] λx a=>Pu.oU x a.1
def g99:bL:=bL.nil
def n99:An:={mask:=mk [(2,[0,1,5])]}
abbrev MC:SD:=⟨.data false (.sl (.lio 0 12288036864) cM)::DI::B::B::B::DI::bs 61 [],zs 67 [],.some (.sl (.own (some 12288036864)) cM)⟩
def Uv {R:Type}(X:SD.D MC)(K:Ex→AS→Option R):=Pu.oV (λy0 y1 y2 y3=>ke 0 K MC ((w y0 (w y1 (u y2)) X.1),X.2.1,y3))
def abO:bQ:=ev MC Uv (λX=>(X.1.1,X.1.2.1,q2 X,X.2.2))
def L99:cg:=(cg.nil).add 2 abO
theorem aaX:ee E g99 n99 L99 (aE Tryz.f99 0):=lk MC Uv (λX=>(X.1.1,X.1.2.1,q2 X,X.2.2)) λX x=>((w x.1 (w x.2.1 (u x.2.2.1)) X.1),X.2.1,x.2.2.2)
theorem o99:aI Tryz.prog 99 e99:=aI.C2 (CA (Γ:=g99) (an:=n99) (Λ:=L99) (base) Tryz.func99 (by kernel_rfl) (ao (cF aaX nF))) (λx a=>by kernel_rfl)
def YT:aM:=uh (.sl bC) false [pI] [rI] λx a=>Pu.mh x a.1
def ZX:bL:=bL.nil.add 47 Ty
def abP:An:={mask:=mk [(2,[0,1,5])]}
abbrev Fy:SD:=⟨.data false (.sl (.lio 0 12288036864) bC)::DI::B::B::B::DI::bs 71 [],zs 77 [],.some (.sl (.own (some 12288036864)) bC)⟩
def QL {R:Type}(X:SD.D Fy)(K:Ex→AS→Option R):=Pu.mP (λy0 y1 y2 y3=>ke 0 K Fy ((w y0 (w y1 (u y2)) X.1),X.2.1,y3))
def We:bQ:=ev Fy QL (λX=>(X.1.1,X.1.2.1,q2 X,X.2.2))
def X1:cg:=(cg.nil).add 2 We
theorem U8:ee E ZX abP X1 (aE Tryz.f100 0):=lk Fy QL (λX=>(X.1.1,X.1.2.1,q2 X,X.2.2)) λX x=>((w x.1 (w x.2.1 (u x.2.2.1)) X.1),X.2.1,x.2.2.2)
theorem agY:aI Tryz.prog 100 YT:=aI.C2 (CA (Γ:=ZX) (an:=abP) (Λ:=X1) (base.add XH) Tryz.func100 (by kernel_rfl) (ao (cF U8 nF))) (λx a=>by kernel_rfl)
def e42:aM:=uh (.sl cz) false [pI] [rI] λx a=>Pu.sG x a.1
def g42:bL:=(((((bL.nil.add 16 e16).add 46 e46).add 47 Ty).add 98 e98).add 99 e99).add 100 YT
def n42:An:={mask:=mk [(2,[0,1,5])],nest:=[35,43,52,71,85,92]}
abbrev Mn:SD:=⟨.data false (.sl (.lio 0 12288036864) cz)::DI::B::B::B::DI::bs 90 [],zs 96 [],.some (.sl (.own (some 12288036864)) cz)⟩
def T5 {R:Type}(X:SD.D Mn)(K:Ex→AS→Option R):=Pu.oW (λy0 y1 y2 y3=>ke 0 K Mn ((w y0 (w y1 (u y2)) X.1),X.2.1,y3))
def abn:bQ:=ev Mn T5 (λX=>(X.1.1,X.1.2.1,q2 X,X.2.2))
def L42:cg:=(cg.nil).add 2 abn
theorem aax:ee E g42 n42 L42 (aE Tryz.f42 0):=lk Mn T5 (λX=>(X.1.1,X.1.2.1,q2 X,X.2.2)) λX x=>((w x.1 (w x.2.1 (u x.2.2.1)) X.1),X.2.1,x.2.2.2)
theorem o42:aI Tryz.prog 42 e42:=aI.C2 (CA (Γ:=g42) (an:=n42) (Λ:=L42) ((((((base.add o16).add o46).add XH).add o98).add o99).add agY) Tryz.func42 (by kernel_rfl) (ao (cF aax nF))) (λx a=>by kernel_rfl)
def e43:aM:=uh (.sl (.sl .str)) false [pI] [rI] λx a=>Pu.oX x a.1
def g43:bL:=bL.nil.add 46 e46
def n43:An:={mask:=mk [(2,[0,1,5])],nest:=[15]}
abbrev Mo:SD:=⟨.data false (.sl (.lio 0 12288036864) (.sl .str))::DI::B::B::B::DI::bs 13 [],zs 19 [],.some (.sl (.own (some 12288036864)) (.sl .str))⟩
def T6 {R:Type}(X:SD.D Mo)(K:Ex→AS→Option R):=Pu.fE (λy0 y1 y2 y3=>ke 0 K Mo ((w y0 (w y1 (u y2)) X.1),X.2.1,y3))
def abo:bQ:=ev Mo T6 (λX=>(X.1.1,X.1.2.1,q2 X,X.2.2))
def L43:cg:=(cg.nil).add 2 abo
theorem aay:ee E g43 n43 L43 (aE Tryz.f43 0):=lk Mo T6 (λX=>(X.1.1,X.1.2.1,q2 X,X.2.2)) λX x=>((w x.1 (w x.2.1 (u x.2.2.1)) X.1),X.2.1,x.2.2.2)
theorem o43:aI Tryz.prog 43 e43:=aI.C2 (CA (Γ:=g43) (an:=n43) (Λ:=L43) (base.add o46) Tryz.func43 (by kernel_rfl) (ao (cF aay nF))) (λx a=>by kernel_rfl)
def e44:aM:=uh (.sl ay) false [pI] [rI] λx a=>Pu.gQ x a.1
def g44:bL:=bL.nil
def n44:An:={mask:=mk [(2,[0,1,5])]}
abbrev Mp:SD:=⟨.data false (.sl (.lio 0 12288036864) ay)::DI::B::B::B::DI::bs 68 [],zs 74 [],.some (.sl (.own (some 12288036864)) ay)⟩
def T7 {R:Type}(X:SD.D Mp)(K:Ex→AS→Option R):=Pu.fP (λy0 y1 y2 y3=>ke 0 K Mp ((w y0 (w y1 (u y2)) X.1),X.2.1,y3))
def abp:bQ:=ev Mp T7 (λX=>(X.1.1,X.1.2.1,q2 X,X.2.2))
def L44:cg:=(cg.nil).add 2 abp
theorem aaz:ee E g44 n44 L44 (aE Tryz.f44 0):=lk Mp T7 (λX=>(X.1.1,X.1.2.1,q2 X,X.2.2)) λX x=>((w x.1 (w x.2.1 (u x.2.2.1)) X.1),X.2.1,x.2.2.2)
theorem o44:aI Tryz.prog 44 e44:=aI.C2 (CA (Γ:=g44) (an:=n44) (Λ:=L44) (base) Tryz.func44 (by kernel_rfl) (ao (cF aaz nF))) (λx a=>by kernel_rfl)
def e45:aM:=uh (.sl ba) false [pI] [rI] λx a=>Pu.oR x a.1
def g45:bL:=bL.nil.add 16 e16
def n45:An:={mask:=mk [(2,[0,1,5])],nest:=[35]}
abbrev Mq:SD:=⟨.data false (.sl (.lio 0 12288036864) ba)::DI::B::B::B::DI::bs 54 [],zs 60 [],.some (.sl (.own (some 12288036864)) ba)⟩
def T8 {R:Type}(X:SD.D Mq)(K:Ex→AS→Option R):=Pu.lG (λy0 y1 y2 y3=>ke 0 K Mq ((w y0 (w y1 (u y2)) X.1),X.2.1,y3))
def abq:bQ:=ev Mq T8 (λX=>(X.1.1,X.1.2.1,q2 X,X.2.2))
def L45:cg:=(cg.nil).add 2 abq
theorem aaA:ee E g45 n45 L45 (aE Tryz.f45 0):=lk Mq T8 (λX=>(X.1.1,X.1.2.1,q2 X,X.2.2)) λX x=>((w x.1 (w x.2.1 (u x.2.2.1)) X.1),X.2.1,x.2.2.2)
theorem o45:aI Tryz.prog 45 e45:=aI.C2 (CA (Γ:=g45) (an:=n45) (Λ:=L45) (base.add o16) Tryz.func45 (by kernel_rfl) (ao (cF aaA nF))) (λx a=>by kernel_rfl)
def e14:aM:=uh bk true [pI] [rI] λx a=>Pu.lF x a.1
theorem o14:aI Tryz.prog 14 e14:=aI.C2 (CA (an:={}) (Λ:=cg.nil) (((((base.add o42).add o43).add o44).add o45).add o46) Tryz.func14 (by kernel_rfl) (ao nF)) (λx a=>by kernel_rfl)
def e15:aM:=uh (.sl bD) false [pI] [rI] λx a=>Pu.oQ x a.1
def g15:bL:=bL.nil.add 47 Ty
def n15:An:={mask:=mk [(2,[0,1,5])]}
abbrev Mc:SD:=⟨.data false (.sl (.lio 0 12288036864) bD)::DI::B::B::B::DI::bs 254 [],zs 260 [],.some (.sl (.own (some 12288036864)) bD)⟩
def TI {R:Type}(X:SD.D Mc)(K:Ex→AS→Option R):=Pu.lE (λy0 y1 y2 y3=>ke 0 K Mc ((w y0 (w y1 (u y2)) X.1),X.2.1,y3))
def aa1:bQ:=ev Mc TI (λX=>(X.1.1,X.1.2.1,q2 X,X.2.2))
def L15:cg:=(cg.nil).add 2 aa1
theorem aab:ee E g15 n15 L15 (aE Tryz.f15 0):=lk Mc TI (λX=>(X.1.1,X.1.2.1,q2 X,X.2.2)) λX x=>((w x.1 (w x.2.1 (u x.2.2.1)) X.1),X.2.1,x.2.2.2)
theorem o15:aI Tryz.prog 15 e15:=aI.C2 (CA (Γ:=g15) (an:=n15) (Λ:=L15) (base.add XH) Tryz.func15 (by kernel_rfl) (ao (cF aab nF))) (λx a=>by kernel_rfl)
def e52:aM:=aA [pd (.sl .str),pI] [rI] (c2 Pu.gw)
def g52:bL:=bL.nil.add 47 Ty
def n52:An:={mask:=mk [(2,[0,1,4,5])]}
abbrev HV:SD:=⟨.data false (.sl .arg .str)::DI::B::B::DI::DI::bs 16 [],zs 22 [],.none⟩
def Uf {R:Type}(X:SD.D HV)(K:Ex→AS→Option R):=Pu.fY (λy0 y1=>ke 0 K HV ((z1 (w y0 (z1 (u y1))) X.1),X.2)) (λy0 y1 y2=>kr K HV ((z1 (w y0 (w y1 (u y2))) X.1),X.2)) X.1.1 (q2 X)
def aby:bQ:=ev HV Uf (λX=>(X.1.2.1,q3 X))
def L52:cg:=(cg.nil).add 2 aby
theorem aaH:ee E g52 n52 L52 (aE Tryz.f52 0):=lk HV Uf (λX=>(X.1.2.1,q3 X)) λX x=>((z1 (w x.1 (z1 (u x.2))) X.1),X.2)
theorem o52:aI Tryz.prog 52 e52:=fk n52 (base.add XH) Tryz.func52 (Λ:=L52) (cF aaH nF)
def UO:aM:=aA [pd (.sl (.int .i64)),pI] [rI] (c2 Pu.gm)
def af2:bL:=bL.nil
def abQ:An:={mask:=mk [(2,[0,1,4,5])]}
abbrev BO:SD:=⟨.data false (.sl .arg (.int .i64))::DI::B::B::DI::DI::bs 15 [],zs 21 [],.none⟩
def QM {R:Type}(X:SD.D BO)(K:Ex→AS→Option R):=Pu.je (λy0 y1=>ke 0 K BO ((z1 (w y0 (z1 (u y1))) X.1),X.2)) (λy0 y1 y2=>kr K BO ((z1 (w y0 (w y1 (u y2))) X.1),X.2)) X.1.1 (q2 X)
def Wf:bQ:=ev BO QM (λX=>(X.1.2.1,q3 X))
def X2:cg:=(cg.nil).add 2 Wf
theorem U9:ee E af2 abQ X2 (aE Tryz.f101 0):=lk BO QM (λX=>(X.1.2.1,q3 X)) λX x=>((z1 (w x.1 (z1 (u x.2))) X.1),X.2)
theorem acH:aI Tryz.prog 101 UO:=fk abQ base Tryz.func101 (Λ:=X2) (cF U9 nF)
def YU:aM:=aA [pd (.sl dn),pI] [rI] (c2 Pu.oK)
def af3:bL:=bL.nil
def abR:An:={mask:=mk [(2,[0,1,4,5])]}
abbrev BP:SD:=⟨.data false (.sl .arg dn)::DI::B::B::DI::DI::bs 88 [],zs 94 [],.none⟩
def QN {R:Type}(X:SD.D BP)(K:Ex→AS→Option R):=Pu.oL (λy0 y1=>ke 0 K BP ((z1 (w y0 (z1 (u y1))) X.1),X.2)) (λy0 y1 y2=>kr K BP ((z1 (w y0 (w y1 (u y2))) X.1),X.2)) X.1.1 (q2 X)
def Wg:bQ:=ev BP QN (λX=>(X.1.2.1,q3 X))
def X3:cg:=(cg.nil).add 2 Wg
theorem Va:ee E af3 abR X3 (aE Tryz.f102 0):=lk BP QN (λX=>(X.1.2.1,q3 X)) λX x=>((z1 (w x.1 (z1 (u x.2))) X.1),X.2)
theorem agZ:aI Tryz.prog 102 YU:=fk abR base Tryz.func102 (Λ:=X3) (cF Va nF)
def YV:aM:=aA [pd (.sl cM),pI] [rI] (c2 Pu.oM)
def af4:bL:=bL.nil
def abS:An:={mask:=mk [(2,[0,1,4,5])]}
abbrev BQ:SD:=⟨.data false (.sl .arg cM)::DI::B::B::DI::DI::bs 75 [],zs 81 [],.none⟩
def QO {R:Type}(X:SD.D BQ)(K:Ex→AS→Option R):=Pu.oN (λy0 y1=>ke 0 K BQ ((z1 (w y0 (z1 (u y1))) X.1),X.2)) (λy0 y1 y2=>kr K BQ ((z1 (w y0 (w y1 (u y2))) X.1),X.2)) X.1.1 (q2 X)
def Wh:bQ:=ev BQ QO (λX=>(X.1.2.1,q3 X))
def X4:cg:=(cg.nil).add 2 Wh
theorem Vb:ee E af4 abS X4 (aE Tryz.f103 0):=lk BQ QO (λX=>(X.1.2.1,q3 X)) λX x=>((z1 (w x.1 (z1 (u x.2))) X.1),X.2)
theorem ag3:aI Tryz.prog 103 YV:=fk abS base Tryz.func103 (Λ:=X4) (cF Vb nF)
def YW:aM:=aA [pd (.sl bC),pI] [rI] (c2 Pu.mf)
def af5:bL:=bL.nil.add 47 Ty
def abT:An:={mask:=mk [(2,[0,1,4,5])]}
abbrev BR:SD:=⟨.data false (.sl .arg bC)::DI::B::B::DI::DI::bs 87 [],zs 93 [],.none⟩
def QP {R:Type}(X:SD.D BR)(K:Ex→AS→Option R):=Pu.mO (λy0 y1=>ke 0 K BR ((z1 (w y0 (z1 (u y1))) X.1),X.2)) (λy0 y1 y2=>kr K BR ((z1 (w y0 (w y1 (u y2))) X.1),X.2)) X.1.1 (q2 X)
def Wi:bQ:=ev BR QP (λX=>(X.1.2.1,q3 X))
def X5:cg:=(cg.nil).add 2 Wi
theorem Vc:ee E af5 abT X5 (aE Tryz.f104 0):=lk BR QP (λX=>(X.1.2.1,q3 X)) λX x=>((z1 (w x.1 (z1 (u x.2))) X.1),X.2)
theorem ag4:aI Tryz.prog 104 YW:=fk abT (base.add XH) Tryz.func104 (Λ:=X5) (cF Vc nF)
def e48:aM:=aA [pd (.sl cz),pI] [rI] (c2 Pu.sF)
def g48:bL:=(((((bL.nil.add 47 Ty).add 52 e52).add 101 UO).add 102 YU).add 103 YV).add 104 YW
def n48:An:={mask:=mk [(2,[0,1,4,5])]}
abbrev HR:SD:=⟨.data false (.sl .arg cz)::DI::B::B::DI::DI::bs 110 [],zs 116 [],.none⟩
def Ub {R:Type}(X:SD.D HR)(K:Ex→AS→Option R):=Pu.oO (λy0 y1=>ke 0 K HR ((z1 (w y0 (z1 (u y1))) X.1),X.2)) (λy0 y1 y2=>kr K HR ((z1 (w y0 (w y1 (u y2))) X.1),X.2)) X.1.1 (q2 X)
def abu:bQ:=ev HR Ub (λX=>(X.1.2.1,q3 X))
def L48:cg:=(cg.nil).add 2 abu
theorem aaD:ee E g48 n48 L48 (aE Tryz.f48 0):=lk HR Ub (λX=>(X.1.2.1,q3 X)) λX x=>((z1 (w x.1 (z1 (u x.2))) X.1),X.2)
theorem o48:aI Tryz.prog 48 e48:=fk n48 ((((((base.add XH).add o52).add acH).add agZ).add ag3).add ag4) Tryz.func48 (Λ:=L48) (cF aaD nF)
def e49:aM:=aA [pd (.sl (.sl .str)),pI] [rI] (c2 Pu.oP)
def g49:bL:=bL.nil.add 52 e52
def n49:An:={mask:=mk [(2,[0,1,4,5])]}
abbrev HS:SD:=⟨.data false (.sl .arg (.sl .str))::DI::B::B::DI::DI::bs 15 [],zs 21 [],.none⟩
def Uc {R:Type}(X:SD.D HS)(K:Ex→AS→Option R):=Pu.fD (λy0 y1=>ke 0 K HS ((z1 (w y0 (z1 (u y1))) X.1),X.2)) (λy0 y1 y2=>kr K HS ((z1 (w y0 (w y1 (u y2))) X.1),X.2)) X.1.1 (q2 X)
def abv:bQ:=ev HS Uc (λX=>(X.1.2.1,q3 X))
def L49:cg:=(cg.nil).add 2 abv
theorem aaE:ee E g49 n49 L49 (aE Tryz.f49 0):=lk HS Uc (λX=>(X.1.2.1,q3 X)) λX x=>((z1 (w x.1 (z1 (u x.2))) X.1),X.2)
theorem o49:aI Tryz.prog 49 e49:=fk n49 (base.add o52) Tryz.func49 (Λ:=L49) (cF aaE nF)
def e50:aM:=aA [pd (.sl ay),pI] [rI] (c2 Pu.gP)
def g50:bL:=bL.nil
def n50:An:={mask:=mk [(2,[0,1,4,5])]}
abbrev HT:SD:=⟨.data false (.sl .arg ay)::DI::B::B::DI::DI::bs 84 [],zs 90 [],.none⟩
def Ud {R:Type}(X:SD.D HT)(K:Ex→AS→Option R):=Pu.fO (λy0 y1=>ke 0 K HT ((z1 (w y0 (z1 (u y1))) X.1),X.2)) (λy0 y1 y2=>kr K HT ((z1 (w y0 (w y1 (u y2))) X.1),X.2)) X.1.1 (q2 X)
def abw:bQ:=ev HT Ud (λX=>(X.1.2.1,q3 X))
def L50:cg:=(cg.nil).add 2 abw
theorem aaF:ee E g50 n50 L50 (aE Tryz.f50 0):=lk HT Ud (λX=>(X.1.2.1,q3 X)) λX x=>((z1 (w x.1 (z1 (u x.2))) X.1),X.2)
theorem o50:aI Tryz.prog 50 e50:=fk n50 base Tryz.func50 (Λ:=L50) (cF aaF nF)
def e51:aM:=aA [pd (.sl ba),pI] [rI] (c2 Pu.oJ)
def g51:bL:=bL.nil.add 101 UO
def n51:An:={mask:=mk [(2,[0,1,4,5])]}
abbrev HU:SD:=⟨.data false (.sl .arg ba)::DI::B::B::DI::DI::bs 66 [],zs 72 [],.none⟩
def Ue {R:Type}(X:SD.D HU)(K:Ex→AS→Option R):=Pu.lD (λy0 y1=>ke 0 K HU ((z1 (w y0 (z1 (u y1))) X.1),X.2)) (λy0 y1 y2=>kr K HU ((z1 (w y0 (w y1 (u y2))) X.1),X.2)) X.1.1 (q2 X)
def abx:bQ:=ev HU Ue (λX=>(X.1.2.1,q3 X))
def L51:cg:=(cg.nil).add 2 abx
theorem aaG:ee E g51 n51 L51 (aE Tryz.f51 0):=lk HU Ue (λX=>(X.1.2.1,q3 X)) λX x=>((z1 (w x.1 (z1 (u x.2))) X.1),X.2)
theorem o51:aI Tryz.prog 51 e51:=fk n51 (base.add acH) Tryz.func51 (Λ:=L51) (cF aaG nF)
def e17:aM:=aA [pf bk,pI] [rI] (c2 Pu.jd)
theorem o17:aI Tryz.prog 17 e17:=f0 {} (((((base.add o48).add o49).add o50).add o51).add o52) Tryz.func17
abbrev jU:List PS:=[pf bk,pd (.sl bD),pd (.sl (.int .i64))]
def oh:aM:=aA jU [rB] (c3 Pu.lz)
theorem u1:aI Tryz.prog 3 oh:=f0 {merge:=mg [(27,82)]} ((((((((((((((base.add o4).add o5).add o6).add o7).add o8).add o9).add o10).add o11).add o12).add o13).add o14).add o15).add o16).add o17) Tryz.func3
end
end Go.Proofs.YtjoicgadhgkphabGreat.Fn
