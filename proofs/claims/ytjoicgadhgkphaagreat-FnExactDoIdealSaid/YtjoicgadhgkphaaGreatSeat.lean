import Derived.Test.YtjoicgadhgkphaaGreatDnSig
import Derived.Test.YtjoicgadhgkphaaGreatPure
import Derived.Test.YtjoicgadhgkphaaGreatRows
/- Each function of the program is its pure function (made by gen.py). -/
namespace Go.Proofs.YtjoicgadhgkphaaGreat.Fn
open Go.Dn
open Go.Pu (dK dk iH cI ed bC cw dW Oo ay ba br iI bT AU ft gE eh MM SL)
set_option maxRecDepth 100000
set_option linter.unusedVariables false
noncomputable section
abbrev B:PD:=.bot
abbrev DI:PD:=.data false (.int .i64)
abbrev DB:PD:=.data false .bool
abbrev Z:Option FT:=none
theorem nF {p:Code→Prop}:∀x∈([]:List Code),p x:=λ_ h=>nomatch h
theorem cF {p:Code→Prop}{a:Code}{l:List Code}(h:p a)(t:∀x∈l,p x):∀x∈a::l,p x:=List.forall_mem_cons.2 ⟨h,t⟩
theorem hF {p:Code→Prop}{l m:List Code}(e:l=m)(h:∀x∈m,p x):∀x∈l,p x:=e▸h
theorem fk {P:Program}{E:Env}{Γ:bN}{s:List PS}{rs:List (Bool×FT)}{F:vi s→Option (gC rs)}{f:Nat}{fn:Func}(an:An)(hS:Sound P E Γ)(hf:P.funcs[f]?=some fn){Λ:cl}{l:List Code}(h:∀c∈l,eg E Γ an Λ c)(hn:(fn.name== "runtime.NumGoroutine")=false:=by kernel_rfl)(hl:fi (fn.body.getD .skip)=l:=by kernel_rfl)(hcut:an.cut=[]:=by kernel_rfl)(hF:∀a,B1 E Γ an Λ fn rs (gM s a)=F a:=by intro a;kernel_rfl):aJ P f (aA s rs F):=aJ.of (Uh hS hf hn (tG.of (Fn.hF hl h) hcut)) hF
theorem ao {E:Env}{Γ:bN}{an:An}{Λ:cl}{b:Code}{l:List Code}(h:∀c∈l,eg E Γ an Λ c)(hl:fi b=l:=by kernel_rfl)(hc:an.cut=[]:=by kernel_rfl):tG E Γ an Λ b:=tG.of (Fn.hF hl h) hc
theorem ac {E:Env}{Γ:bN}{an:An}{Λ:cl}{b:Code}{l m:List Code}(h:∀c∈l,eg E Γ an Λ c)(hc:∀c∈m,Xb E Γ an Λ c)(hl:fi b=l:=by kernel_rfl)(hm:gx an.cut b=m:=by kernel_rfl):tG E Γ an Λ b:=⟨Fn.hF hl h,Fn.hF hm hc⟩
theorem fc {P:Program}{E:Env}{Γ:bN}{s:List PS}{rs:List (Bool×FT)}{F:vi s→Option (gC rs)}{f:Nat}{fn:Func}(an:An)(hS:Sound P E Γ)(hf:P.funcs[f]?=some fn){Λ:cl}{l m:List Code}(h:∀c∈l,eg E Γ an Λ c)(hc:∀c∈m,Xb E Γ an Λ c)(hn:(fn.name== "runtime.NumGoroutine")=false:=by kernel_rfl)(hl:fi (fn.body.getD .skip)=l:=by kernel_rfl)(hm:gx an.cut (fn.body.getD .skip)=m:=by kernel_rfl)(hF:∀a,B1 E Γ an Λ fn rs (gM s a)=F a:=by intro a;kernel_rfl):aJ P f (aA s rs F):=aJ.of (Uh hS hf hn ⟨Fn.hF hl h,Fn.hF hm hc⟩) hF
abbrev pd (t:CT):PS:=.data false t
abbrev pf (t:CT):PS:=.data true t
abbrev pI:PS:=.data false (.int .i64)
abbrev rB:Bool×FT:=(false,.bool)
abbrev rI:Bool×FT:=(false,.int .i64)
abbrev rS:Bool×FT:=(false,.str)
abbrev bs:Nat→List PD→List PD|0,l=>l|n+1,l=> .bot::bs n l
abbrev zs:Nat→List (Option FT)→List (Option FT)|0,l=>l|n+1,l=>none::zs n l
def mk (l:List (Nat×List Nat))(n:Nat):List Nat:=(l.lookup n).getD []
def mg (l:List (Nat×Nat))(n:Nat):Option Nat:=l.lookup n
def ke {R:Type}(n:Nat)(K:Ex→AS→Option R)(d:SD)(x:SD.D d):Option R:=K (.exit n) (SD.enc d x)
def kn {R:Type}(K:Ex→AS→Option R)(d:SD)(x:SD.D d):Option R:=K .normal (SD.enc d x)
def kr {R:Type}(K:Ex→AS→Option R)(d:SD)(x:SD.D d):Option R:=K .ret (SD.enc d x)
def eF {σ:Type}(d:SD)(t:{R:Type}→SD.D d→(Ex→AS→Option R)→(σ→Option R)→σ→Option R)(i:SD.D d→σ):bU:=⟨d,λX K=>aW (t X K) fuel (i X)⟩
theorem lk {E:Env}{Γ:bN}{an:An}{Λ:cl}{c:Code}{σ:Type}(d:SD)(t:{R:Type}→SD.D d→(Ex→AS→Option R)→(σ→Option R)→σ→Option R)(i:SD.D d→σ)(w:SD.D d→σ→SD.D d)(h1:Λ (du c)=eF d t i:=by kernel_rfl)(h:∀(R:Type)(X:SD.D d)(K:Ex→AS→Option R)(m:Nat)(x:σ),vg (an.mask (du c)) (den E Γ an Λ c) (m+1) (SD.enc d (w X x)) K=t X K (λy=>vg (an.mask (du c)) (den E Γ an Λ c) m (SD.enc d (w X y)) K) x:=by intro R X K m x;kernel_rfl)(hw:∀X,w X (i X)=X:=by intro X;kernel_rfl):eg E Γ an Λ c:=lok (eF d t i) h1 fuel λR X K=>(Ei (λx=>SD.enc d (w X x)) (t X K) (h R X K) fuel (i X)).symm.trans (congrArg (λy=>vg (an.mask (du c)) (den E Γ an Λ c) fuel (SD.enc d y) K) (hw X))
def mkc (d:SD)(t:{R:Type}→SD.D d→(Ex→AS→Option R)→Option R):bU:=⟨d,λX K=>t X K⟩
theorem ck {E:Env}{Γ:bN}{an:An}{Λ:cl}{c:Code}(d:SD)(t:{R:Type}→SD.D d→(Ex→AS→Option R)→Option R)(h1:Λ (vm c)=mkc d t:=by kernel_rfl)(h:∀(R:Type)(X:SD.D d)(K:Ex→AS→Option R),t X K=den E Γ an Λ c (SD.enc d X) (λe st'=>K e (st'.mask (an.mask (vm c+1)))):=by intro R X K;kernel_rfl):Xb E Γ an Λ c:=cok (mkc d t) h1 h
def u {A B:Type}(y:A)(x:A×B):A×B:=(y,x.2)
def w {A B:Type}(y:A)(f:B→B)(x:A×B):A×B:=(y,f x.2)
def z1 {A0 B:Type}(f:B→B)(x:A0×B):A0×B:=(x.1,f x.2)
def z2 {A0 A1 B:Type}(f:B→B)(x:A0×A1×B):A0×A1×B:=(x.1,x.2.1,f x.2.2)
def z3 {A0 A1 A2 B:Type}(f:B→B)(x:A0×A1×A2×B):A0×A1×A2×B:=(x.1,x.2.1,x.2.2.1,f x.2.2.2)
def z4 {A0 A1 A2 A3 B:Type}(f:B→B)(x:A0×A1×A2×A3×B):A0×A1×A2×A3×B:=(x.1,x.2.1,x.2.2.1,x.2.2.2.1,f x.2.2.2.2)
def z5 {A0 A1 A2 A3 A4 B:Type}(f:B→B)(x:A0×A1×A2×A3×A4×B):A0×A1×A2×A3×A4×B:=(x.1,x.2.1,x.2.2.1,x.2.2.2.1,x.2.2.2.2.1,f x.2.2.2.2.2)
def z6 {A0 A1 A2 A3 A4 A5 B:Type}(f:B→B)(x:A0×A1×A2×A3×A4×A5×B):A0×A1×A2×A3×A4×A5×B:=(x.1,x.2.1,x.2.2.1,x.2.2.2.1,x.2.2.2.2.1,x.2.2.2.2.2.1,f x.2.2.2.2.2.2)
def z7 {A0 A1 A2 A3 A4 A5 A6 B:Type}(f:B→B)(x:A0×A1×A2×A3×A4×A5×A6×B):A0×A1×A2×A3×A4×A5×A6×B:=(x.1,x.2.1,x.2.2.1,x.2.2.2.1,x.2.2.2.2.1,x.2.2.2.2.2.1,x.2.2.2.2.2.2.1,f x.2.2.2.2.2.2.2)
def z8 {A0 A1 A2 A3 A4 A5 A6 A7 B:Type}(f:B→B)(x:A0×A1×A2×A3×A4×A5×A6×A7×B):A0×A1×A2×A3×A4×A5×A6×A7×B:=(x.1,x.2.1,x.2.2.1,x.2.2.2.1,x.2.2.2.2.1,x.2.2.2.2.2.1,x.2.2.2.2.2.2.1,x.2.2.2.2.2.2.2.1,f x.2.2.2.2.2.2.2.2)
def q2 {A0 A1 A2 B C:Type}(x:(A0×A1×A2×B)×C):A2:=x.1.2.2.1
def q3 {A0 A1 A2 A3 B C:Type}(x:(A0×A1×A2×A3×B)×C):A3:=x.1.2.2.2.1
def q4 {A0 A1 A2 A3 A4 B C:Type}(x:(A0×A1×A2×A3×A4×B)×C):A4:=x.1.2.2.2.2.1
def q5 {A0 A1 A2 A3 A4 A5 B C:Type}(x:(A0×A1×A2×A3×A4×A5×B)×C):A5:=x.1.2.2.2.2.2.1
def q6 {A0 A1 A2 A3 A4 A5 A6 B C:Type}(x:(A0×A1×A2×A3×A4×A5×A6×B)×C):A6:=x.1.2.2.2.2.2.2.1
def q7 {A0 A1 A2 A3 A4 A5 A6 A7 B C:Type}(x:(A0×A1×A2×A3×A4×A5×A6×A7×B)×C):A7:=x.1.2.2.2.2.2.2.2.1
def q8 {A0 A1 A2 A3 A4 A5 A6 A7 A8 B C:Type}(x:(A0×A1×A2×A3×A4×A5×A6×A7×A8×B)×C):A8:=x.1.2.2.2.2.2.2.2.2.1
def q9 {A0 A1 A2 A3 A4 A5 A6 A7 A8 A9 B C:Type}(x:(A0×A1×A2×A3×A4×A5×A6×A7×A8×A9×B)×C):A9:=x.1.2.2.2.2.2.2.2.2.2.1
def Et {A0 A1 A2 A3 A4 A5 A6 A7 A8 A9 A10 B C:Type}(x:(A0×A1×A2×A3×A4×A5×A6×A7×A8×A9×A10×B)×C):A10:=x.1.2.2.2.2.2.2.2.2.2.2.1
def c1 {A0 B R:Type}(f:A0→R)(a:A0×B):R:=f a.1
def c2 {A0 A1 B R:Type}(f:A0→A1→R)(a:A0×A1×B):R:=f a.1 a.2.1
def c3 {A0 A1 A2 B R:Type}(f:A0→A1→A2→R)(a:A0×A1×A2×B):R:=f a.1 a.2.1 a.2.2.1
def c4 {A0 A1 A2 A3 B R:Type}(f:A0→A1→A2→A3→R)(a:A0×A1×A2×A3×B):R:=f a.1 a.2.1 a.2.2.1 a.2.2.2.1
theorem f0 {P:Program}{E:Env}{Γ:bN}{s:List PS}{rs:List (Bool×FT)}{F:vi s→Option (gC rs)}{f:Nat}{fn:Func}(an:An)(hS:Sound P E Γ)(hf:P.funcs[f]?=some fn)(hn:(fn.name== "runtime.NumGoroutine")=false:=by kernel_rfl)(hl:fi (fn.body.getD .skip)=[]:=by kernel_rfl)(hcut:an.cut=[]:=by rfl)(hF:∀a,B1 E Γ an cl.nil fn rs (gM s a)=F a:=by intro a;kernel_rfl):aJ P f (aA s rs F):=aJ.of (Uh hS hf hn (tG.of (Fn.hF hl nF) hcut)) hF
abbrev Y8:FT:=.pair (.int .i64) (.pair (.int .i64) (.pair (.int .i64) (.pair (.int .i64) .str)))
abbrev W4:FT:=.pair (.int .i64) (.pair (.int .i64) Y8)
abbrev Y0:FT:=.pair (.int .i64) (.pair (.int .i64) (.pair (.int .i64) (.pair (.int .i64) (.pair (.int .i64) (.pair (.int .i64) (.pair (.int .i64) (.pair (.int .i64) (.pair (.int .i64) W4))))))))
abbrev Y1:FT:=.pair (.int .i64) (.pair (.int .i64) (.int .i64))
abbrev Y2:FT:=.pair (.sl (.own none) cw) (.pair (.sl (.own none) (.sl .str)) (.pair (.sl (.own none) ay) (.pair (.sl (.own none) ba) (.sl (.own none) .str))))
abbrev Y3:FT:=.pair (.int .i64) (.pair .bool (.sl (.own none) (.int .i64)))
abbrev Y4:FT:=.pair (.sl (.own (some 36865)) cw) (.pair (.sl (.own (some 36868)) (.sl .str)) (.pair (.sl (.own (some 36871)) ay) (.pair (.sl (.own (some 36874)) ba) (.sl (.own (some 36877)) .str))))
abbrev Y5:FT:=.pair (.sl (.own (some 24577)) cw) (.pair (.sl (.own (some 24580)) (.sl .str)) (.pair (.sl (.own (some 24583)) ay) (.pair (.sl (.own (some 24586)) ba) (.sl (.own (some 24589)) .str))))
abbrev Y13:FT:=.pair (.sl (.own none) dk) (.pair (.sl (.own none) cI) (.pair .str (.sl (.own none) (.int .i64))))
abbrev Y6:FT:=.pair Y3 (.pair Y13 (.pair (.int .i64) (.pair (.sl (.own none) bC) (.sl (.own none) .str))))
abbrev Y7:FT:=.pair (.sl .arg cw) (.pair (.sl .arg (.sl .str)) (.pair (.sl .arg ay) (.pair (.sl .arg ba) (.sl .arg .str))))
abbrev Y9:FT:=.pair (.sl (.own (some 86017)) cw) (.pair (.sl (.own (some 86020)) (.sl .str)) (.pair (.sl (.own (some 86023)) ay) (.pair (.sl (.own (some 86026)) ba) (.sl (.own (some 86029)) .str))))
abbrev Y10:FT:=.pair (.sl (.own (some 73729)) cw) (.pair (.sl (.own (some 73732)) (.sl .str)) (.pair (.sl (.own (some 73735)) ay) (.pair (.sl (.own (some 73738)) ba) (.sl (.own (some 73741)) .str))))
abbrev Ot:FT:=.pair (.int .i64) (.pair (.int .i64) Y1)
abbrev W3:FT:=.pair (.int .i64) (.pair .bool (.sl .arg (.int .i64)))
abbrev Y14:FT:=.pair (.sl (.own (some 1)) cw) (.pair (.sl (.own (some 4)) (.sl .str)) (.pair (.sl (.own (some 7)) ay) (.pair (.sl (.own (some 10)) ba) (.sl (.own (some 13)) .str))))
abbrev Y15:FT:=.pair (.int .i64) (.pair (.int .i64) (.pair Y1 (.pair .bool (.pair (.int .i64) (.int .i64)))))
abbrev Y16:FT:=.pair (.sl .arg dk) (.pair (.sl .arg cI) (.pair .str (.sl .arg (.int .i64))))
abbrev Y18:FT:=.pair (.int .i64) (.pair .bool (.sl (.own (some 73735)) (.int .i64)))
abbrev Y19:FT:=.pair (.int .i64) (.pair .bool (.sl (.own (some 49159)) (.int .i64)))
abbrev Y20:FT:=.pair (.int .i64) (.pair Y0 (.pair (.int .i64) (.pair (.int .i64) (.pair .str (.int .i64)))))
def E:Env:={ty:=[(3,⟨false,(.int .i64),[]⟩),(4,⟨false,.bool,[]⟩),(5,⟨false,(.int .u8),[]⟩),(9,⟨false,.str,[]⟩),(22,⟨false,(.sl cw),[(125,0)]⟩),(23,⟨false,(.sl (.sl .str)),[(26,0)]⟩),(24,⟨false,(.sl ay),[(162,0)]⟩),(25,⟨false,(.sl ba),[(128,0)]⟩),(26,⟨false,(.sl .str),[(9,0)]⟩),(28,⟨true,br,[(0,1),(1,1),(2,1),(3,1),(4,1)]⟩),(30,⟨true,iI,[(0,1),(1,1),(2,1),(3,1),(4,1),(5,1),(6,1),(7,1)]⟩),(32,⟨true,bT,[(0,1),(1,1),(2,1),(3,1),(4,1),(5,1),(6,1),(7,1),(8,8)]⟩),(34,⟨true,AU,[(0,1),(1,16),(17,1),(18,1),(19,1),(20,1)]⟩),(36,⟨true,dW,[(0,1),(1,1),(2,1)]⟩),(38,⟨true,ft,[(0,1),(1,1),(2,21),(23,3),(26,1),(27,1)]⟩),(41,⟨false,(.sl cw),[(88,0)]⟩),(42,⟨false,(.sl ay),[(141,0)]⟩),(43,⟨false,(.sl ba),[(77,0)]⟩),(45,⟨true,br,[(0,1),(1,1),(2,1),(3,1),(4,1)]⟩),(48,⟨true,iI,[(0,1),(1,1),(2,1),(3,1),(4,1),(5,1),(6,1),(7,1)]⟩),(50,⟨true,bT,[(0,1),(1,1),(2,1),(3,1),(4,1),(5,1),(6,1),(7,1),(8,8)]⟩),(52,⟨true,AU,[(0,1),(1,16),(17,1),(18,1),(19,1),(20,1)]⟩),(53,⟨true,dW,[(0,1),(1,1),(2,1)]⟩),(55,⟨true,ft,[(0,1),(1,1),(2,21),(23,3),(26,1),(27,1)]⟩),(72,⟨false,(.sl (.int .i64)),[(3,0)]⟩),(74,⟨true,dK,[(0,1),(1,1),(2,1)]⟩),(77,⟨true,ba,[(0,3),(3,1),(4,1),(5,1)]⟩),(78,⟨false,(.sl dk),[(223,0)]⟩),(79,⟨false,(.sl cI),[(227,0)]⟩),(81,⟨true,(.sl cI),[(0,1)]⟩),(83,⟨true,gE,[(0,1),(1,1)]⟩),(85,⟨true,ed,[(0,1),(1,1),(2,2)]⟩),(86,⟨false,(.sl bC),[(230,0)]⟩),(88,⟨true,cw,[(0,3),(3,4),(7,1),(8,1),(9,1)]⟩),(115,⟨true,dK,[(0,1),(1,1),(2,1)]⟩),(116,⟨false,(.sl dk),[(279,0)]⟩),(117,⟨false,(.sl cI),[(295,0)]⟩),(119,⟨true,(.sl cI),[(0,1)]⟩),(120,⟨true,gE,[(0,1),(1,1)]⟩),(122,⟨true,ed,[(0,1),(1,1),(2,2)]⟩),(123,⟨false,(.sl bC),[(237,0)]⟩),(125,⟨true,cw,[(0,3),(3,4),(7,1),(8,1),(9,1)]⟩),(128,⟨true,ba,[(0,3),(3,1),(4,1),(5,1)]⟩),(132,⟨false,(.sl eh),[(183,0)]⟩),(139,⟨true,dW,[(0,1),(1,1),(2,1)]⟩),(141,⟨true,ay,[(0,1),(1,1),(2,3),(5,1),(6,1),(7,1)]⟩),(145,⟨false,(.sl bT),[(50,0)]⟩),(160,⟨true,dW,[(0,1),(1,1),(2,1)]⟩),(162,⟨true,ay,[(0,1),(1,1),(2,3),(5,1),(6,1),(7,1)]⟩),(183,⟨true,eh,[(0,1),(1,1),(2,1),(3,1)]⟩),(197,⟨true,MM,[(0,1),(1,1),(2,1),(3,1),(4,1)]⟩),(201,⟨true,SL,[(0,1),(1,1),(2,1),(3,1),(4,1),(5,1),(6,1)]⟩),(223,⟨true,dk,[(0,1),(1,1),(2,1),(3,1),(4,1),(5,1),(6,1),(7,1),(8,1)]⟩),(225,⟨true,iH,[(0,1),(1,1),(2,1),(3,1),(4,1)]⟩),(227,⟨true,cI,[(0,1),(1,5),(6,1)]⟩),(228,⟨false,(.sl (.int .u8)),[(5,0)]⟩),(230,⟨true,bC,[(0,5),(5,1),(6,1),(7,1)]⟩),(235,⟨true,iH,[(0,1),(1,1),(2,1),(3,1),(4,1)]⟩),(237,⟨true,bC,[(0,5),(5,1),(6,1),(7,1)]⟩),(279,⟨true,dk,[(0,1),(1,1),(2,1),(3,1),(4,1),(5,1),(6,1),(7,1),(8,1)]⟩),(286,⟨false,(.int .u32),[]⟩),(295,⟨true,cI,[(0,1),(1,5),(6,1)]⟩)],eqs:=[(50,[.int,.int,.int,.int,.int,.int,.int,.int,.int,.int,.int,.int,.int,.int,.int,.str]),(225,[.int,.int,.int,.int,.int])],fts:=[]}
theorem base:Sound Tryz.prog E bN.nil:=Sound.nil (Im (by kernel_rfl)) (Ir (by kernel_rfl)) (Iq (by kernel_rfl)) (by kernel_rfl)
def e17:aN:=aA [pd (.sl .str),pI] [rI] (c2 Pu.je)
def g17:bN:=bN.nil
def n17:An:={mask:=mk [(5,[0,1,4,5])]}
abbrev Hf:SD:=⟨.data false (.sl .arg .str)::DI::B::B::DI::DI::bs 22 [],zs 28 [],.none⟩
def S0 {R:Type}(X:SD.D Hf)(K:Ex→AS→Option R):=Pu.sR (λy0 y1=>ke 0 K Hf ((z1 (w y0 (z1 (u y1))) X.1),X.2)) (λy0 y1 y2=>kr K Hf ((z1 (w y0 (w y1 (u y2))) X.1),X.2)) X.1.1 (q2 X)
def aad:bU:=eF Hf S0 (λX=>(X.1.2.1,q3 X))
def L17:cl:=(cl.nil).add 5 aad
theorem Zq:eg E g17 n17 L17 (aF Tryz.f17 0):=lk Hf S0 (λX=>(X.1.2.1,q3 X)) λX x=>((z1 (w x.1 (z1 (u x.2))) X.1),X.2)
theorem o17:aJ Tryz.prog 17 e17:=fk n17 base Tryz.func17 (Λ:=L17) (cF Zq nF)
def adF:aN:=aA [pd (.sl (.int .i64)),pI] [rI] (c2 Pu.sP)
theorem aca:aJ Tryz.prog 182 adF:=f0 {} base Tryz.func182
def acZ:aN:=aA [pf dK,pI] [rI] (c2 Pu.mT)
theorem abW:aJ Tryz.prog 127 acZ:=f0 {} (base.add aca) Tryz.func127
def adG:aN:=aA [pd (.sl dk),pI] [rI] (c2 Pu.uu)
theorem agF:aJ Tryz.prog 183 adG:=f0 {} base Tryz.func183
def aet:aN:=aA [pd (.sl cI),pI] [rI] (c2 Pu.uv)
theorem ahh:aJ Tryz.prog 243 aet:=f0 {} base Tryz.func243
def adH:aN:=aA [pf (.sl cI),pI] [rI] (c2 Pu.l7)
theorem agG:aJ Tryz.prog 184 adH:=f0 {} (base.add ahh) Tryz.func184
def adI:aN:=aA [pf gE,pI] [rI] (c2 Pu.pO)
theorem agH:aJ Tryz.prog 185 adI:=f0 {} (base.add aca) Tryz.func185
def ac0:aN:=aA [pf ed,pI] [rI] (c2 Pu.nj)
theorem af9:aJ Tryz.prog 128 ac0:=f0 {} (((base.add agF).add agG).add agH) Tryz.func128
def Yx:aN:=aA [pf bC,pI] [rI] (c2 Pu.mU)
theorem agI:aJ Tryz.prog 186 Yx:=f0 {} base Tryz.func186
def ac1:aN:=aA [pd (.sl bC),pI] [rI] (c2 Pu.sa)
def afa:bN:=bN.nil.add 186 Yx
def aa8:An:={mask:=mk [(5,[0,1,4,5])]}
abbrev Bo:SD:=⟨.data false (.sl .arg bC)::DI::B::B::DI::DI::bs 21 [],zs 27 [],.none⟩
def Qg {R:Type}(X:SD.D Bo)(K:Ex→AS→Option R):=Pu.sQ (λy0 y1=>ke 0 K Bo ((z1 (w y0 (z1 (u y1))) X.1),X.2)) (λy0 y1 y2=>kr K Bo ((z1 (w y0 (w y1 (u y2))) X.1),X.2)) X.1.1 (q2 X)
def VD:bU:=eF Bo Qg (λX=>(X.1.2.1,q3 X))
def Xo:cl:=(cl.nil).add 5 VD
theorem Uu:eg E afa aa8 Xo (aF Tryz.f129 0):=lk Bo Qg (λX=>(X.1.2.1,q3 X)) λX x=>((z1 (w x.1 (z1 (u x.2))) X.1),X.2)
theorem aga:aJ Tryz.prog 129 ac1:=fk aa8 (base.add agI) Tryz.func129 (Λ:=Xo) (cF Uu nF)
def e62:aN:=aA [pf cw,pI] [rI] (c2 Pu.qj)
theorem o62:aJ Tryz.prog 62 e62:=f0 {} ((((base.add o17).add abW).add af9).add aga) Tryz.func62
def e13:aN:=aA [pd (.sl cw),pI] [rI] (c2 Pu.uw)
def g13:bN:=bN.nil.add 62 e62
def n13:An:={mask:=mk [(5,[0,1,4,5])]}
abbrev Hc:SD:=⟨.data false (.sl .arg cw)::DI::B::B::DI::DI::bs 21 [],zs 27 [],.none⟩
def SX {R:Type}(X:SD.D Hc)(K:Ex→AS→Option R):=Pu.vc (λy0 y1=>ke 0 K Hc ((z1 (w y0 (z1 (u y1))) X.1),X.2)) (λy0 y1 y2=>kr K Hc ((z1 (w y0 (w y1 (u y2))) X.1),X.2)) X.1.1 (q2 X)
def aaa:bU:=eF Hc SX (λX=>(X.1.2.1,q3 X))
def L13:cl:=(cl.nil).add 5 aaa
theorem Zn:eg E g13 n13 L13 (aF Tryz.f13 0):=lk Hc SX (λX=>(X.1.2.1,q3 X)) λX x=>((z1 (w x.1 (z1 (u x.2))) X.1),X.2)
theorem o13:aJ Tryz.prog 13 e13:=fk n13 (base.add o62) Tryz.func13 (Λ:=L13) (cF Zn nF)
def e14:aN:=aA [pd (.sl (.sl .str)),pI] [rI] (c2 Pu.qD)
def g14:bN:=bN.nil.add 17 e17
def n14:An:={mask:=mk [(5,[0,1,4,5])]}
abbrev Hd:SD:=⟨.data false (.sl .arg (.sl .str))::DI::B::B::DI::DI::bs 21 [],zs 27 [],.none⟩
def SY {R:Type}(X:SD.D Hd)(K:Ex→AS→Option R):=Pu.sc (λy0 y1=>ke 0 K Hd ((z1 (w y0 (z1 (u y1))) X.1),X.2)) (λy0 y1 y2=>kr K Hd ((z1 (w y0 (w y1 (u y2))) X.1),X.2)) X.1.1 (q2 X)
def aab:bU:=eF Hd SY (λX=>(X.1.2.1,q3 X))
def L14:cl:=(cl.nil).add 5 aab
theorem Zo:eg E g14 n14 L14 (aF Tryz.f14 0):=lk Hd SY (λX=>(X.1.2.1,q3 X)) λX x=>((z1 (w x.1 (z1 (u x.2))) X.1),X.2)
theorem o14:aJ Tryz.prog 14 e14:=fk n14 (base.add o17) Tryz.func14 (Λ:=L14) (cF Zo nF)
def e15:aN:=aA [pd (.sl ay),pI] [rI] (c2 Pu.jf)
theorem o15:aJ Tryz.prog 15 e15:=f0 {} base Tryz.func15
def e63:aN:=aA [pf ba,pI] [rI] (c2 Pu.lz)
theorem o63:aJ Tryz.prog 63 e63:=f0 {} (base.add abW) Tryz.func63
def e16:aN:=aA [pd (.sl ba),pI] [rI] (c2 Pu.qC)
def g16:bN:=bN.nil.add 63 e63
def n16:An:={mask:=mk [(5,[0,1,4,5])]}
abbrev He:SD:=⟨.data false (.sl .arg ba)::DI::B::B::DI::DI::bs 21 [],zs 27 [],.none⟩
def SZ {R:Type}(X:SD.D He)(K:Ex→AS→Option R):=Pu.rZ (λy0 y1=>ke 0 K He ((z1 (w y0 (z1 (u y1))) X.1),X.2)) (λy0 y1 y2=>kr K He ((z1 (w y0 (w y1 (u y2))) X.1),X.2)) X.1.1 (q2 X)
def aac:bU:=eF He SZ (λX=>(X.1.2.1,q3 X))
def L16:cl:=(cl.nil).add 5 aac
theorem Zp:eg E g16 n16 L16 (aF Tryz.f16 0):=lk He SZ (λX=>(X.1.2.1,q3 X)) λX x=>((z1 (w x.1 (z1 (u x.2))) X.1),X.2)
theorem o16:aJ Tryz.prog 16 e16:=fk n16 (base.add o63) Tryz.func16 (Λ:=L16) (cF Zp nF)
def e4:aN:=aA [pf br,pI] [rI] (c2 Pu.qZ)
theorem o4:aJ Tryz.prog 4 e4:=f0 {} (((((base.add o13).add o14).add o15).add o16).add o17) Tryz.func4
def ac2:aN:=aA [pf iI,pI] [rI] (c2 Pu.oH)
theorem agb:aJ Tryz.prog 130 ac2:=f0 {} base Tryz.func130
def e64:aN:=aA [pf bT,pI] [rI] (c2 Pu.pN)
theorem o64:aJ Tryz.prog 64 e64:=f0 {} (base.add agb) Tryz.func64
def e18:aN:=aA [pf AU,pI] [rI] (c2 Pu.ur)
theorem o18:aJ Tryz.prog 18 e18:=f0 {} (base.add o64) Tryz.func18
def e5:aN:=aA [pf ft,pI] [rI] (c2 Pu.oG)
theorem o5:aJ Tryz.prog 5 e5:=f0 {} (base.add o18) Tryz.func5
def e24:aN:=aA [pf dK] [(true,Y3)] (c1 Pu.dM)
theorem W9:aJ Tryz.prog 24 e24:=f0 {sb:=mg [(2,2)]} base Tryz.func24
def adJ:aN:=aA [pf (.sl cI)] [(true,(.sl (.own none) cI))] (c1 Pu.rn)
theorem agJ:aJ Tryz.prog 187 adJ:=f0 {} base Tryz.func187
def ac3:aN:=aA [pf ed] [(true,Y13)] (c1 Pu.rp)
theorem agc:aJ Tryz.prog 131 ac3:=f0 {sb:=mg [(2,2)]} (base.add agJ) Tryz.func131
def e65:aN:=aA [pf cw] [(true,Y6)] (c1 Pu.oX)
theorem o65:aJ Tryz.prog 65 e65:=f0 {sb:=mg [(2,2)]} ((base.add W9).add agc) Tryz.func65
def e66:aN:=aA [pf ba] [(true,(.pair Y3 Y1))] (c1 Pu.jY)
theorem o66:aJ Tryz.prog 66 e66:=f0 {mv:=[7]} (base.add W9) Tryz.func66
def e19:aN:=aA [pf br] [(true,Y2)] (c1 Pu.oY)
def g19:bN:=(bN.nil.add 65 e65).add 66 e66
def n19:An:={mask:=mk [(3,[1,2,3,4]),(7,[1,2,3,5]),(11,[1,2,3,6])],mv:=[24,42,61,71],mb:=mg [(24,3),(42,3),(61,3)],sb:=mg [(3,3),(33,3),(52,3),(70,3)]}
abbrev Lu:SD:=⟨B::.ptr 1 0::.ptr 2 0::.ptr 3 0::DI::bs 67 [],Z::(some Y7)::(some Y5)::(some Y4)::zs 68 [],.none⟩
def S1 {R:Type}(X:SD.D Lu)(K:Ex→AS→Option R):=Pu.nw (λy0 y1=>ke 0 K Lu ((u y0 X.1),(z2 (u y1) X.2.1),X.2.2)) X.2.1.1 X.2.1.2.1
def aae:bU:=eF Lu S1 (λX=>(X.1.1,X.2.1.2.2.1))
abbrev Lv:SD:=⟨B::.ptr 1 0::.ptr 2 0::.ptr 3 0::B::DI::bs 66 [],Z::(some Y7)::(some Y5)::(some Y4)::zs 68 [],.none⟩
def S2 {R:Type}(X:SD.D Lv)(K:Ex→AS→Option R):=Pu.ny (λy0 y1=>ke 2 K Lv ((u y0 X.1),(z2 (u y1) X.2.1),X.2.2)) X.2.1.1 X.2.1.2.1
def aaf:bU:=eF Lv S2 (λX=>(X.1.1,X.2.1.2.2.1))
abbrev Fk:SD:=⟨B::.ptr 1 0::.ptr 2 0::.ptr 3 0::B::B::DI::bs 65 [],Z::(some Y7)::(some Y5)::(some Y4)::zs 68 [],.none⟩
def QG {R:Type}(X:SD.D Fk)(K:Ex→AS→Option R):=Pu.mw (λy0 y1=>ke 4 K Fk ((u y0 X.1),(z2 (u y1) X.2.1),X.2.2)) X.2.1.1 X.2.1.2.1
def V3:bU:=eF Fk QG (λX=>(X.1.1,X.2.1.2.2.1))
def L19:cl:=(((cl.nil).add 3 aae).add 7 aaf).add 11 V3
theorem Zr:eg E g19 n19 L19 (aF Tryz.f19 0):=lk Lu S1 (λX=>(X.1.1,X.2.1.2.2.1)) λX x=>((u x.1 X.1),(z2 (u x.2) X.2.1),X.2.2)
theorem Zs:eg E g19 n19 L19 (aF Tryz.f19 1):=lk Lv S2 (λX=>(X.1.1,X.2.1.2.2.1)) λX x=>((u x.1 X.1),(z2 (u x.2) X.2.1),X.2.2)
theorem UU:eg E g19 n19 L19 (aF Tryz.f19 2):=lk Fk QG (λX=>(X.1.1,X.2.1.2.2.1)) λX x=>((u x.1 X.1),(z2 (u x.2) X.2.1),X.2.2)
theorem o19:aJ Tryz.prog 19 e19:=fk n19 ((base.add o65).add o66) Tryz.func19 (Λ:=L19) (cF Zr (cF Zs (cF UU nF)))
def Rn:aN:=aA [pI,pI,pI] [rB] (c3 Pu.aQ)
theorem zU:aJ Tryz.prog 22 Rn:=f0 {merge:=mg [(1,6)]} base Tryz.func22
def RB:aN:=aA [pf dK] [rB] (c1 Pu.dD)
def afb:bN:=bN.nil.add 22 Rn
def aa9:An:={mask:=mk [(2,[1,2,3])],merge:=mg [(4,35),(6,2)]}
abbrev Br:SD:=⟨B::.ptr 1 0::DB::DI::bs 41 [],Z::(some W3)::zs 43 [],.none⟩
def Ql {R:Type}(X:SD.D Br)(K:Ex→AS→Option R):=Pu.md (λy0=>ke 0 K Br ((z1 (u y0) X.1),X.2)) (λy0 y1=>kr K Br ((w y0 (u y1) X.1),X.2)) X.1.1 X.2.1.1
def VI:bU:=eF Br Ql (λX=>X.1.2.1)
def Xp:cl:=(cl.nil).add 2 VI
theorem Uz:eg E afb aa9 Xp (aF Tryz.f136 0):=lk Br Ql (λX=>X.1.2.1) λX x=>((z1 (u x) X.1),X.2)
theorem KL:aJ Tryz.prog 136 RB:=fk aa9 (base.add zU) Tryz.func136 (Λ:=Xp) (cF Uz nF)
def Yp:aN:=aA [pf ba] [rB] (c1 Pu.lF)
theorem abX:aJ Tryz.prog 132 Yp:=f0 {merge:=mg [(1,2)]} ((base.add zU).add KL) Tryz.func132
def OH:aN:=aA [pd (.sl (.int .i64)),pI] [rB] (c2 Pu.eG)
def afd:bN:=bN.nil
def abb:An:={mask:=mk [(2,[0,1,4,5])]}
abbrev Bv:SD:=⟨.data false (.sl .arg (.int .i64))::DI::B::B::DB::DI::bs 12 [],zs 18 [],.none⟩
def Qp {R:Type}(X:SD.D Bv)(K:Ex→AS→Option R):=Pu.oW (λy0=>ke 0 K Bv ((z3 (u y0) X.1),X.2)) (λy0 y1=>kr K Bv ((z2 (w y0 (u y1)) X.1),X.2)) X.1.1 X.1.2.1 (q2 X)
def VM:bU:=eF Bv Qp q3
def Xr:cl:=(cl.nil).add 2 VM
theorem UD:eg E afd abb Xr (aF Tryz.f147 0):=lk Bv Qp q3 λX x=>((z3 (u x) X.1),X.2)
theorem KM:aJ Tryz.prog 147 OH:=fk abb base Tryz.func147 (Λ:=Xr) (cF UD nF)
def Yq:aN:=aA [pd (.sl (.int .i64)),pd (.sl (.int .i64))] [(false,(.sl (.own none) (.int .i64)))] (c2 Pu.m6)
def Zf:bN:=bN.nil.add 147 OH
def WD:An:={mask:=mk [(3,[1,5,6]),(7,[1,5,6,7])],merge:=mg [(7,37)],mv:=[55]}
abbrev Fc:SD:=⟨B::.data false (.sl .arg (.int .i64))::B::B::B::.data false (.sl (.own (some 61440)) (.int .i64))::DI::DI::bs 48 [],zs 56 [],.none⟩
def Qi {R:Type}(X:SD.D Fc)(K:Ex→AS→Option R):=Pu.mu (λy0=>ke 2 K Fc ((z3 (u y0) X.1),X.2)) X.1.1 X.1.2.1 (q2 X)
def VF:bU:=eF Fc Qi q3
abbrev Fb:SD:=⟨B::.data false (.sl .arg (.int .i64))::B::B::B::.data false (.sl (.own (some 61440)) (.int .i64))::DI::bs 49 [],zs 56 [],.none⟩
def Qh {R:Type}(X:SD.D Fb)(K:Ex→AS→Option R):=Pu.jx (λy0 y1=>ke 0 K Fb ((z1 (w y0 (u y1)) X.1),X.2)) X.1.1
def VE:bU:=eF Fb Qh (λX=>(X.1.2.1,q2 X))
def TM:cl:=((cl.nil).add 7 VF).add 3 VE
theorem Uw:eg E Zf WD TM (aF Tryz.f133 1):=lk Fc Qi q3 λX x=>((z3 (u x) X.1),X.2)
theorem Uv:eg E Zf WD TM (aF Tryz.f133 0):=lk Fb Qh (λX=>(X.1.2.1,q2 X)) λX x=>((z1 (w x.1 (u x.2)) X.1),X.2)
theorem agd:aJ Tryz.prog 133 Yq:=fk WD (base.add KM) Tryz.func133 (Λ:=TM) (cF Uv (cF Uw nF))
def T6:aN:=aA [pd (.sl eh)] [rB] (c1 Pu.hK)
def Zg:bN:=((bN.nil.add 22 Rn).add 136 RB).add 147 OH
def WE:An:={mask:=mk [(4,[0,2,3]),(9,[0,2,3,4])]}
abbrev Bq:SD:=⟨.data false (.sl .arg eh)::B::DB::DI::DI::bs 53 [],zs 58 [],.none⟩
def Qk {R:Type}(X:SD.D Bq)(K:Ex→AS→Option R):=Pu.np (λy0=>ke 2 K Bq ((z3 (u y0) X.1),X.2)) (λy0 y1=>kr K Bq ((z1 (w y0 (z1 (u y1))) X.1),X.2)) X.1.1 X.1.2.1 (q2 X)
def VH:bU:=eF Bq Qk q3
abbrev Bp:SD:=⟨.data false (.sl .arg eh)::B::DB::DI::bs 54 [],zs 58 [],.none⟩
def Qj {R:Type}(X:SD.D Bp)(K:Ex→AS→Option R):=Pu.nn (λy0=>ke 0 K Bp ((z2 (u y0) X.1),X.2)) (λy0 y1=>kr K Bp ((z1 (w y0 (u y1)) X.1),X.2)) X.1.1 X.1.2.1
def VG:bU:=eF Bp Qj q2
def TN:cl:=((cl.nil).add 9 VH).add 4 VG
theorem Uy:eg E Zg WE TN (aF Tryz.f134 1):=lk Bq Qk q3 λX x=>((z3 (u x) X.1),X.2)
theorem Ux:eg E Zg WE TN (aF Tryz.f134 0):=lk Bp Qj q2 λX x=>((z2 (u x) X.1),X.2)
theorem Sd:aJ Tryz.prog 134 T6:=fk WE (((base.add zU).add KL).add KM) Tryz.func134 (Λ:=TN) (cF Ux (cF Uy nF))
def YZ:aN:=aA [pd (.sl ba)] [(false,(.sl (.own none) eh)),rB] (c1 Pu.jU)
def g67:bN:=(((bN.nil.add 22 Rn).add 132 Yp).add 133 Yq).add 134 T6
def n67:An:={mask:=mk [(5,[0,2,3,4,5])],mv:=[41,63]}
abbrev Hs:SD:=⟨.data false (.sl .arg ba)::B::.data false (.sl (.own (some 24576)) eh)::DB::.data false (.sl (.own (some 49152)) eh)::DI::bs 58 [],zs 64 [],.none⟩
def Ty {R:Type}(X:SD.D Hs)(K:Ex→AS→Option R):=Pu.ko (λy0 y1=>ke 0 K Hs ((z3 (w y0 (u y1)) X.1),X.2)) (λy0 y1 y2 y3=>kr K Hs ((z1 (w y0 (w y1 (w y2 (u y3)))) X.1),X.2)) X.1.1 X.1.2.1 (q2 X)
def aaL:bU:=eF Hs Ty (λX=>(q3 X,q4 X))
def L67:cl:=(cl.nil).add 5 aaL
theorem ZY:eg E g67 n67 L67 (aF Tryz.f67 0):=lk Hs Ty (λX=>(q3 X,q4 X)) λX x=>((z3 (w x.1 (u x.2)) X.1),X.2)
theorem o67:aJ Tryz.prog 67 YZ:=fk n67 ((((base.add zU).add abX).add agd).add Sd) Tryz.func67 (Λ:=L67) (cF ZY nF)
def Yr:aN:=aA [pf dW] [rB] (c1 Pu.kE)
theorem WO:aJ Tryz.prog 135 Yr:=f0 {merge:=mg [(1,2)]} (base.add zU) Tryz.func135
def e68:aN:=aA [pd (.sl ay),pd (.sl eh)] [rB] (c2 Pu.jt)
def g68:bN:=((bN.nil.add 22 Rn).add 134 T6).add 135 Yr
def n68:An:={mask:=mk [(4,[0,1,4,5]),(10,[0,1,4,5,6,7])],merge:=mg [(7,51),(12,74)]}
abbrev BR:SD:=⟨.data false (.sl .arg ay)::.data false (.sl .arg eh)::B::B::DB::DI::.ptr 6 0::DI::bs 67 [],zs 6 ((some Y15)::zs 68 []),.none⟩
def Ra {R:Type}(X:SD.D BR)(K:Ex→AS→Option R):=Pu.hH (λy0=>ke 2 K BR ((z4 (u y0) X.1),X.2)) (λy0 y1=>kr K BR ((z2 (w y0 (z1 (u y1))) X.1),X.2)) X.1.1 X.1.2.1 (q2 X) (q3 X) X.2.1.1
def Wx:bU:=eF BR Ra q4
abbrev Ht:SD:=⟨.data false (.sl .arg ay)::.data false (.sl .arg eh)::B::B::DB::DI::bs 69 [],zs 75 [],.none⟩
def Tz {R:Type}(X:SD.D Ht)(K:Ex→AS→Option R):=Pu.iD (λy0=>ke 0 K Ht ((z3 (u y0) X.1),X.2)) (λy0 y1=>kr K Ht ((z2 (w y0 (u y1)) X.1),X.2)) X.1.1 X.1.2.1 (q2 X)
def aaM:bU:=eF Ht Tz q3
def L68:cl:=((cl.nil).add 10 Wx).add 4 aaM
theorem Vp:eg E g68 n68 L68 (aF Tryz.f68 1):=lk BR Ra q4 λX x=>((z4 (u x) X.1),X.2)
theorem ZZ:eg E g68 n68 L68 (aF Tryz.f68 0):=lk Ht Tz q3 λX x=>((z3 (u x) X.1),X.2)
theorem o68:aJ Tryz.prog 68 e68:=fk n68 (((base.add zU).add Sd).add WO) Tryz.func68 (Λ:=L68) (cF ZZ (cF Vp nF))
def YG:aN:=aA [pf dk] [rB] (c1 Pu.hZ)
theorem acx:aJ Tryz.prog 244 YG:=f0 {merge:=mg [(1,33),(3,54),(5,2)]} (base.add zU) Tryz.func244
def Ua:aN:=aA [pd (.sl dk)] [rB] (c1 Pu.oS)
def afm:bN:=bN.nil.add 244 YG
def abk:An:={mask:=mk [(2,[0,2,3])]}
abbrev BE:SD:=⟨.data false (.sl .arg dk)::B::DB::DI::bs 15 [],zs 19 [],.none⟩
def Qz {R:Type}(X:SD.D BE)(K:Ex→AS→Option R):=Pu.nq (λy0=>ke 0 K BE ((z2 (u y0) X.1),X.2)) (λy0 y1=>kr K BE ((z1 (w y0 (u y1)) X.1),X.2)) X.1.1 X.1.2.1
def VW:bU:=eF BE Qz q2
def XA:cl:=(cl.nil).add 2 VW
theorem UN:eg E afm abk XA (aF Tryz.f188 0):=lk BE Qz q2 λX x=>((z2 (u x) X.1),X.2)
theorem acb:aJ Tryz.prog 188 Ua:=fk abk (base.add acx) Tryz.func188 (Λ:=XA) (cF UN nF)
def YR:aN:=aA [pf iH] [rI] (c1 Pu.pX)
def afJ:bN:=bN.nil
def abI:An:={mask:=mk [(4,[3,4,5])]}
abbrev Fy:SD:=⟨B::B::B::DI::.data false (.sl (.own (some 49152)) (.int .i64))::DI::bs 26 [],zs 32 [],.none⟩
def Q2 {R:Type}(X:SD.D Fy)(K:Ex→AS→Option R):=Pu.ju (λy0 y1=>ke 0 K Fy ((w y0 (z1 (u y1)) X.1),X.2)) X.1.2.1
def Wp:bU:=eF Fy Q2 (λX=>(X.1.1,q2 X))
def XX:cl:=(cl.nil).add 4 Wp
theorem Vh:eg E afJ abI XX (aF Tryz.f277 0):=lk Fy Q2 (λX=>(X.1.1,q2 X)) λX x=>((w x.1 (z1 (u x.2)) X.1),X.2)
theorem ahD:aJ Tryz.prog 277 YR:=fk abI base Tryz.func277 (Λ:=XX) (cF Vh nF)
def YH:aN:=aA [pf (.sl cI),pf iH] [rI] (c2 Pu.oV)
def afC:bN:=bN.nil.add 277 YR
def abB:An:={mask:=mk [(2,[2,3,4,5])],merge:=mg [(7,39)]}
abbrev BO:SD:=⟨B::B::.ptr 2 0::.ptr 3 0::DI::DI::bs 35 [],Z::Z::(some (.sl .arg cI))::(some Ot)::zs 37 [],.none⟩
def QV {R:Type}(X:SD.D BO)(K:Ex→AS→Option R):=Pu.ks (λy0=>ke 0 K BO ((z1 (u y0) X.1),X.2)) (λy0 y1=>kr K BO ((w y0 (u y1) X.1),X.2)) X.1.1 X.2.1.1 X.2.1.2.1
def Wi:bU:=eF BO QV (λX=>X.1.2.1)
def XQ:cl:=(cl.nil).add 2 Wi
theorem Va:eg E afC abB XQ (aF Tryz.f245 0):=lk BO QV (λX=>X.1.2.1) λX x=>((z1 (u x) X.1),X.2)
theorem acy:aJ Tryz.prog 245 YH:=fk abB (base.add ahD) Tryz.func245 (Λ:=XQ) (cF Va nF)
def Yy:aN:=aA [pf (.sl cI)] [rB] (c1 Pu.oT)
def afn:bN:=(bN.nil.add 22 Rn).add 245 YH
def abl:An:={mask:=mk [(4,[1,2,3])],merge:=mg [(7,30),(10,42)]}
abbrev BF:SD:=⟨B::.ptr 1 0::DB::DI::bs 45 [],Z::(some (.sl .arg cI))::zs 47 [],.none⟩
def QA {R:Type}(X:SD.D BF)(K:Ex→AS→Option R):=Pu.ns (λy0=>ke 0 K BF ((z1 (u y0) X.1),X.2)) (λy0 y1=>kr K BF ((w y0 (u y1) X.1),X.2)) X.1.1 X.2.1.1
def VX:bU:=eF BF QA (λX=>X.1.2.1)
def XB:cl:=(cl.nil).add 4 VX
theorem UO:eg E afn abl XB (aF Tryz.f189 0):=lk BF QA (λX=>X.1.2.1) λX x=>((z1 (u x) X.1),X.2)
theorem acd:aJ Tryz.prog 189 Yy:=fk abl ((base.add zU).add acy) Tryz.func189 (Λ:=XB) (cF UO nF)
def YI:aN:=aA [pI] [rB] (c1 Pu.rm)
theorem ahi:aJ Tryz.prog 246 YI:=f0 {merge:=mg [(1,2)]} base Tryz.func246
def Yz:aN:=aA [pf gE,pI] [rB] (c2 Pu.m5)
def afo:bN:=(bN.nil.add 22 Rn).add 246 YI
def abm:An:={mask:=mk [(4,[1,2,4,5])],merge:=mg [(1,21)]}
abbrev BG:SD:=⟨B::DI::.ptr 2 0::B::DB::DI::bs 32 [],Z::Z::(some (.pair .str (.sl .arg (.int .i64))))::zs 35 [],.none⟩
def QB {R:Type}(X:SD.D BG)(K:Ex→AS→Option R):=Pu.ml (λy0=>ke 0 K BG ((z2 (u y0) X.1),X.2)) (λy0 y1=>kr K BG ((z1 (w y0 (u y1)) X.1),X.2)) X.1.1 X.1.2.1 X.2.1.1
def VY:bU:=eF BG QB q2
def XC:cl:=(cl.nil).add 4 VY
theorem UP:eg E afo abm XC (aF Tryz.f190 0):=lk BG QB q2 λX x=>((z2 (u x) X.1),X.2)
theorem ace:aJ Tryz.prog 190 Yz:=fk abm ((base.add zU).add ahi) Tryz.func190 (Λ:=XC) (cF UP nF)
def ac4:aN:=aA [pf ed,pI] [rB] (c2 Pu.kq)
def Zh:bN:=((bN.nil.add 188 Ua).add 189 Yy).add 190 Yz
def WG:An:={mask:=mk [(4,[1,2,4,5]),(9,[1,2,4,6])],merge:=mg [(1,23)]}
abbrev Bs:SD:=⟨B::DI::.ptr 2 0::B::DB::DI::bs 50 [],Z::Z::(some Y16)::zs 53 [],.none⟩
def Qm {R:Type}(X:SD.D Bs)(K:Ex→AS→Option R):=Pu.jV (λy0=>ke 0 K Bs ((z2 (u y0) X.1),X.2)) (λy0 y1=>kr K Bs ((z1 (w y0 (u y1)) X.1),X.2)) X.1.1 X.1.2.1 X.2.1.1
def VJ:bU:=eF Bs Qm q2
abbrev Bt:SD:=⟨B::DI::.ptr 2 0::B::DB::B::DI::bs 49 [],Z::Z::(some Y16)::zs 53 [],.none⟩
def Qn {R:Type}(X:SD.D Bt)(K:Ex→AS→Option R):=Pu.jW (λy0=>ke 2 K Bt ((z2 (u y0) X.1),X.2)) (λy0 y1=>kr K Bt ((z1 (w y0 (u y1)) X.1),X.2)) X.1.1 X.1.2.1 X.2.1.1
def VK:bU:=eF Bt Qn q2
def TO:cl:=((cl.nil).add 4 VJ).add 9 VK
theorem UA:eg E Zh WG TO (aF Tryz.f137 0):=lk Bs Qm q2 λX x=>((z2 (u x) X.1),X.2)
theorem UB:eg E Zh WG TO (aF Tryz.f137 1):=lk Bt Qn q2 λX x=>((z2 (u x) X.1),X.2)
theorem abY:aJ Tryz.prog 137 ac4:=fk WG (((base.add acb).add acd).add ace) Tryz.func137 (Λ:=TO) (cF UA (cF UB nF))
def e69:aN:=aA [pf cw] [rB] (c1 Pu.qp)
theorem o69:aJ Tryz.prog 69 e69:=f0 {merge:=mg [(1,2)]} ((base.add KL).add abY) Tryz.func69
def ac5:aN:=aA [pd (.sl (.int .i64)),pd (.sl (.int .i64))] [rB] (c2 Pu.yB)
def afc:bN:=bN.nil
def aba:An:={mask:=mk [(4,[0,1,4,5])]}
abbrev Bu:SD:=⟨.data false (.sl .arg (.int .i64))::.data false (.sl .arg (.int .i64))::B::B::DB::DI::bs 20 [],zs 26 [],.none⟩
def Qo {R:Type}(X:SD.D Bu)(K:Ex→AS→Option R):=Pu.vh (λy0=>ke 0 K Bu ((z3 (u y0) X.1),X.2)) (λy0 y1=>kr K Bu ((z2 (w y0 (u y1)) X.1),X.2)) X.1.1 X.1.2.1 (q2 X)
def VL:bU:=eF Bu Qo q3
def Xq:cl:=(cl.nil).add 4 VL
theorem UC:eg E afc aba Xq (aF Tryz.f138 0):=lk Bu Qo q3 λX x=>((z3 (u x) X.1),X.2)
theorem age:aJ Tryz.prog 138 ac5:=fk aba base Tryz.func138 (Λ:=Xq) (cF UC nF)
def e70:aN:=aA [pf dK,pf dK] [rB] (c2 Pu.nE)
theorem o70:aJ Tryz.prog 70 e70:=f0 {merge:=mg [(1,4)]} (base.add age) Tryz.func70
def e20:aN:=aA [pf br] [rB] (c1 Pu.oP)
def g20:bN:=(((bN.nil.add 67 YZ).add 68 e68).add 69 e69).add 70 e70
def n20:An:={mask:=mk [(6,[1,2,5,6])],merge:=mg [(3,45),(8,94)]}
abbrev Hg:SD:=⟨B::.ptr 1 0::DB::B::B::DI::DI::bs 88 [],Z::(some Y7)::zs 93 [],.none⟩
def S3 {R:Type}(X:SD.D Hg)(K:Ex→AS→Option R):=Pu.nm (λy0=>ke 0 K Hg ((z2 (u y0) X.1),X.2)) (λy0 y1=>kr K Hg ((w y0 (z1 (u y1)) X.1),X.2)) X.1.1 X.1.2.1 X.2.1.1
def aag:bU:=eF Hg S3 q2
def L20:cl:=(cl.nil).add 6 aag
theorem Zt:eg E g20 n20 L20 (aF Tryz.f20 0):=lk Hg S3 q2 λX x=>((z2 (u x) X.1),X.2)
theorem o20:aJ Tryz.prog 20 e20:=fk n20 ((((base.add o67).add o68).add o69).add o70) Tryz.func20 (Λ:=L20) (cF Zt nF)
def e21:aN:=aA [pf AU] [rB] (c1 Pu.pg)
theorem o21:aJ Tryz.prog 21 e21:=f0 {merge:=mg [(1,12),(3,31),(5,2)]} (base.add zU) Tryz.func21
def adK:aN:=aA [pf dK,pI] [(true,Y3),rB] (c2 Pu.rf)
def afp:bN:=(bN.nil.add 24 e24).add 136 RB
def abn:An:={mask:=mk [(3,[1,2,4,6,7])],merge:=mg [(3,23),(6,48)],mv:=[51],sb:=mg [(40,6)]}
abbrev Fg:SD:=⟨B::DI::.ptr 2 0::B::.ptr 4 0::B::.ptr 6 0::DI::bs 44 [],Z::Z::(some W3)::Z::(some Y19)::Z::(some Y18)::zs 45 [],.none⟩
def QC {R:Type}(X:SD.D Fg)(K:Ex→AS→Option R):=Pu.kk (λy0=>ke 0 K Fg ((z1 (u y0) X.1),X.2)) X.1.1 X.2.1.1 X.2.1.2.1 X.2.1.2.2.1
def VZ:bU:=eF Fg QC (λX=>X.1.2.1)
def XD:cl:=(cl.nil).add 3 VZ
theorem UQ:eg E afp abn XD (aF Tryz.f191 0):=lk Fg QC (λX=>X.1.2.1) λX x=>((z1 (u x) X.1),X.2)
theorem agK:aJ Tryz.prog 191 adK:=fk abn ((base.add W9).add KL) Tryz.func191 (Λ:=XD) (cF UQ nF)
def adL:aN:=aA [pf dK,pI] [(true,Y3),rB] (c2 Pu.pS)
def afq:bN:=((bN.nil.add 24 e24).add 136 RB).add 147 OH
def abo:An:={mask:=mk [(6,[1,2,4,6,7])],merge:=mg [(2,19)],mv:=[20,38,47],mb:=mg [(38,6)],sb:=mg [(46,6)]}
abbrev Fh:SD:=⟨B::DI::.ptr 2 0::B::.ptr 4 0::B::.ptr 6 0::DI::bs 40 [],Z::Z::(some W3)::Z::(some Y19)::Z::(some Y18)::zs 41 [],.none⟩
def QD {R:Type}(X:SD.D Fh)(K:Ex→AS→Option R):=Pu.mc (λy0 y1=>ke 0 K Fh ((z1 (u y0) X.1),(z2 (u y1) X.2.1),X.2.2)) X.1.1 X.2.1.1 X.2.1.2.1
def V0:bU:=eF Fh QD (λX=>(X.1.2.1,X.2.1.2.2.1))
def XE:cl:=(cl.nil).add 6 V0
theorem UR:eg E afq abo XE (aF Tryz.f192 0):=lk Fh QD (λX=>(X.1.2.1,X.2.1.2.2.1)) λX x=>((z1 (u x.1) X.1),(z2 (u x.2) X.2.1),X.2.2)
theorem agL:aJ Tryz.prog 192 adL:=fk abo (((base.add W9).add KL).add KM) Tryz.func192 (Λ:=XE) (cF UR nF)
def ac6:aN:=aA [pf dK,pf dW] [(true,Y3),rI] (c2 Pu.nu)
theorem agf:aJ Tryz.prog 139 ac6:=f0 {mv:=[21,30,39,46],mb:=mg [(39,6)],sb:=mg [(4,4)]} ((((base.add W9).add KL).add agK).add agL) Tryz.func139
def e71:aN:=aA [pf ba,pf dW] [(true,(.pair Y3 Y1)),rI] (c2 Pu.jT)
theorem o71:aJ Tryz.prog 71 e71:=f0 {merge:=mg [(6,33)],mv:=[12,18,34,35,51],mb:=mg [(18,6),(51,6)],sb:=mg [(4,4)],fm:=[53]} (((base.add o66).add abX).add agf) Tryz.func71
def e23:aN:=aA [pd (.sl ba),pI,pf dW] [(false,(.sl (.own none) ba)),rI] (c3 Pu.nv)
def g23:bN:=((bN.nil.add 66 e66).add 67 YZ).add 71 e71
def n23:An:={mask:=mk [(3,[0,1,5,8,9])],mv:=[21,29,36,40,48,78],sb:=mg [(10,10)]}
abbrev Lw:SD:=⟨.data false (.sl .arg ba)::DI::B::B::B::.ptr 5 0::B::B::.data false (.sl (.own (some 98304)) ba)::DI::bs 69 [],zs 5 ((some Y1)::zs 73 []),.none⟩
def S4 {R:Type}(X:SD.D Lw)(K:Ex→AS→Option R):=Pu.jZ (λy0 y1=>ke 0 K Lw ((z2 (w y0 (u y1)) X.1),X.2)) X.1.1 X.1.2.1 X.2.1.1
def aah:bU:=eF Lw S4 (λX=>(q2 X,q3 X))
def L23:cl:=(cl.nil).add 3 aah
theorem Zu:eg E g23 n23 L23 (aF Tryz.f23 0):=lk Lw S4 (λX=>(q2 X,q3 X)) λX x=>((z2 (w x.1 (u x.2)) X.1),X.2)
theorem o23:aJ Tryz.prog 23 e23:=fk n23 (((base.add o66).add o67).add o71) Tryz.func23 (Λ:=L23) (cF Zu nF)
def adM:aN:=aA [pf iI] [rB] (c1 Pu.lG)
theorem acf:aJ Tryz.prog 193 adM:=f0 {merge:=mg [(1,18),(4,2),(5,2)]} (base.add zU) Tryz.func193
def Ys:aN:=aA [pf bT] [rB] (c1 Pu.ez)
theorem Gg:aJ Tryz.prog 140 Ys:=f0 {merge:=mg [(1,55),(3,3),(4,2)]} ((base.add zU).add acf) Tryz.func140
def e78:aN:=aA [pf bT] [rB] (c1 Pu.im)
theorem o78:aJ Tryz.prog 78 e78:=f0 {merge:=mg [(1,2)]} (base.add Gg) Tryz.func78
def ad0:aN:=aA [pI] [rS] (c1 Pu.bQ)
theorem KO:aJ Tryz.prog 207 ad0:=f0 {} (base.add zU) Tryz.func207
def aeu:aN:=aA [pI] [rS] (c1 Pu.dG)
theorem Py:aJ Tryz.prog 247 aeu:=f0 {} (base.add zU) Tryz.func247
def aev:aN:=aA [pI,pI,pI,pI] [rS,rB] (c4 Pu.hY)
theorem ahj:aJ Tryz.prog 248 aev:=f0 {merge:=mg [(1,27)]} (((base.add zU).add KO).add Py) Tryz.func248
def YV:aN:=aA [pI,pI] [rI] (c2 Pu.hG)
theorem ahP:aJ Tryz.prog 290 YV:=f0 {merge:=mg [(1,12)]} (base.add zU) Tryz.func290
def aeQ:aN:=aA [pd .str] [rI] (c1 Pu.p6)
def afK:bN:=bN.nil.add 290 YV
def abJ:An:={mask:=mk [(3,[0,3,4])]}
abbrev Fz:SD:=⟨.data false .str::B::B::DI::DI::bs 28 [],zs 33 [],.none⟩
def Q3 {R:Type}(X:SD.D Fz)(K:Ex→AS→Option R):=Pu.mr (λy0 y1=>ke 0 K Fz ((z1 (w y0 (u y1)) X.1),X.2)) X.1.1
def Wq:bU:=eF Fz Q3 (λX=>(X.1.2.1,q2 X))
def XY:cl:=(cl.nil).add 3 Wq
theorem Vi:eg E afK abJ XY (aF Tryz.f278 0):=lk Fz Q3 (λX=>(X.1.2.1,q2 X)) λX x=>((z1 (w x.1 (u x.2)) X.1),X.2)
theorem ahE:aJ Tryz.prog 278 aeQ:=fk abJ (base.add ahP) Tryz.func278 (Λ:=XY) (cF Vi nF)
def aew:aN:=aA [pd .str] [rI] (c1 Pu.kF)
theorem acz:aJ Tryz.prog 249 aew:=f0 {} (base.add ahE) Tryz.func249
def aeB:aN:=aA [pd .str,pI,pI] [rB] (c3 Pu.jw)
theorem WU:aJ Tryz.prog 254 aeB:=f0 {merge:=mg [(1,6)]} base Tryz.func254
def aex:aN:=aA [pd .str,pI,pd .str] [rS] (c3 Pu.gk)
theorem acA:aJ Tryz.prog 250 aex:=f0 {} (base.add WU) Tryz.func250
def adN:aN:=aA [pI,pI,pf iI] [rS,rB] (c3 Pu.fJ)
theorem acg:aJ Tryz.prog 194 adN:=f0 {merge:=mg [(14,82)]} ((((((base.add acf).add KO).add Py).add ahj).add acz).add acA) Tryz.func194
def aeR:aN:=aA [pf SL] [rB] (c1 Pu.wA)
theorem ahF:aJ Tryz.prog 279 aeR:=f0 {merge:=mg [(1,2)]} (base.add zU) Tryz.func279
def aey:aN:=aA [pf SL] [rS,rB] (c1 Pu.pY)
theorem ahk:aJ Tryz.prog 251 aey:=f0 {} (((((base.add KO).add Py).add acz).add acA).add ahF) Tryz.func251
def adO:aN:=aA [pf SL] [rS,rB] (c1 Pu.oL)
theorem ach:aJ Tryz.prog 195 adO:=f0 {} (base.add ahk) Tryz.func195
def adU:aN:=aA [pf MM] [rB] (c1 Pu.ph)
theorem aci:aJ Tryz.prog 201 adU:=f0 {merge:=mg [(1,2)]} (base.add zU) Tryz.func201
def aez:aN:=aA [pI] [rS] (c1 Pu.fQ)
theorem ahl:aJ Tryz.prog 252 aez:=f0 {} ((base.add KO).add Py) Tryz.func252
def adP:aN:=aA [pf MM] [rS,rB] (c1 Pu.pQ)
theorem agM:aJ Tryz.prog 196 adP:=f0 {} (((base.add aci).add KO).add ahl) Tryz.func196
def aeA:aN:=aA [pI,pd (.int .u8)] [rS] (c2 Pu.rl)
def afD:bN:=bN.nil
def abC:An:={mask:=mk [(3,[0,1,5,6])]}
abbrev Fu:SD:=⟨DI::.data false (.int .u8)::B::B::B::.data false (.sl (.own (some 61440)) (.int .u8))::DI::bs 13 [],zs 20 [],.none⟩
def QW {R:Type}(X:SD.D Fu)(K:Ex→AS→Option R):=Pu.nt (λy0 y1=>ke 0 K Fu ((z2 (w y0 (u y1)) X.1),X.2)) X.1.1 X.1.2.1
def Wj:bU:=eF Fu QW (λX=>(q2 X,q3 X))
def XR:cl:=(cl.nil).add 3 Wj
theorem Vb:eg E afD abC XR (aF Tryz.f253 0):=lk Fu QW (λX=>(q2 X,q3 X)) λX x=>((z2 (w x.1 (u x.2)) X.1),X.2)
theorem ahm:aJ Tryz.prog 253 aeA:=fk abC base Tryz.func253 (Λ:=XR) (cF Vb nF)
def adQ:aN:=aA [pd .str] [rS] (c1 Pu.rj)
theorem agN:aJ Tryz.prog 197 adQ:=f0 {} (base.add ahm) Tryz.func197
def ac7:aN:=aA [pf bT] [rS,rB] (c1 Pu.km)
theorem abZ:aJ Tryz.prog 141 ac7:=f0 {} (((((base.add Gg).add acg).add ach).add agM).add agN) Tryz.func141
def adR:aN:=aA [pd .str] [rI] (c1 Pu.uL)
def Zj:bN:=bN.nil
def WI:An:={mask:=mk [(3,[0,3,4]),(7,[0,3,4,5])]}
abbrev Fj:SD:=⟨.data false .str::B::B::DI::DI::DI::bs 26 [],zs 32 [],.none⟩
def QF {R:Type}(X:SD.D Fj)(K:Ex→AS→Option R):=Pu.kG (λy0 y1=>ke 2 K Fj ((z1 (w y0 (z1 (u y1))) X.1),X.2)) X.1.1 (q2 X)
def V2:bU:=eF Fj QF (λX=>(X.1.2.1,q3 X))
abbrev Fi:SD:=⟨.data false .str::B::B::DI::DI::bs 27 [],zs 32 [],.none⟩
def QE {R:Type}(X:SD.D Fi)(K:Ex→AS→Option R):=Pu.mZ (λy0 y1=>ke 0 K Fi ((z1 (w y0 (u y1)) X.1),X.2)) X.1.1
def V1:bU:=eF Fi QE (λX=>(X.1.2.1,q2 X))
def TQ:cl:=((cl.nil).add 7 V2).add 3 V1
theorem UT:eg E Zj WI TQ (aF Tryz.f198 1):=lk Fj QF (λX=>(X.1.2.1,q3 X)) λX x=>((z1 (w x.1 (z1 (u x.2))) X.1),X.2)
theorem US:eg E Zj WI TQ (aF Tryz.f198 0):=lk Fi QE (λX=>(X.1.2.1,q2 X)) λX x=>((z1 (w x.1 (u x.2)) X.1),X.2)
theorem agO:aJ Tryz.prog 198 adR:=fk WI base Tryz.func198 (Λ:=TQ) (cF US (cF UT nF))
def ac9:aN:=aA [pd .str] [rS] (c1 Pu.oU)
theorem ab0:aJ Tryz.prog 143 ac9:=f0 {} (base.add agO) Tryz.func143
def e81:aN:=aA [pf bT] [rS,rB] (c1 Pu.kl)
theorem o81:aJ Tryz.prog 81 e81:=f0 {} (((base.add o78).add abZ).add ab0) Tryz.func81
def e72:aN:=aA [pd (.sl bT)] [(false,(.sl (.own none) .str))] (c1 Pu.pV)
def g72:bN:=bN.nil.add 81 e81
def n72:An:={mask:=mk [(3,[0,3,4])],mv:=[23,27]}
abbrev LS:SD:=⟨.data false (.sl .arg bT)::B::B::.data false (.sl (.own (some 36864)) .str)::DI::bs 23 [],zs 28 [],.none⟩
def TB {R:Type}(X:SD.D LS)(K:Ex→AS→Option R):=Pu.js (λy0 y1=>ke 0 K LS ((z1 (w y0 (u y1)) X.1),X.2)) X.1.1
def aaO:bU:=eF LS TB (λX=>(X.1.2.1,q2 X))
def L72:cl:=(cl.nil).add 3 aaO
theorem Z1:eg E g72 n72 L72 (aF Tryz.f72 0):=lk LS TB (λX=>(X.1.2.1,q2 X)) λX x=>((z1 (w x.1 (u x.2)) X.1),X.2)
theorem o72:aJ Tryz.prog 72 e72:=fk n72 (base.add o81) Tryz.func72 (Λ:=L72) (cF Z1 nF)
def e73:aN:=aA [pf bT,pI] [(false,(.sl (.own none) bT))] (c2 Pu.uM)
def g73:bN:=(bN.nil.add 22 Rn).add 140 Ys
def n73:An:={mask:=mk [(8,[1,2,5,6,7])],merge:=mg [(2,17),(5,31)],mv:=[18,32,87,91]}
abbrev LU:SD:=⟨B::DI::.ptr 2 0::B::B::.data false (.sl (.own (some 61440)) bT)::DI::DI::bs 84 [],Z::Z::(some Y0)::zs 89 [],.none⟩
def TC {R:Type}(X:SD.D LU)(K:Ex→AS→Option R):=Pu.p5 (λy0 y1=>ke 0 K LU ((z1 (w y0 (z1 (u y1))) X.1),X.2)) X.1.1 (q2 X) X.2.1.1
def aaP:bU:=eF LU TC (λX=>(X.1.2.1,q3 X))
def L73:cl:=(cl.nil).add 8 aaP
theorem Z2:eg E g73 n73 L73 (aF Tryz.f73 0):=lk LU TC (λX=>(X.1.2.1,q3 X)) λX x=>((z1 (w x.1 (z1 (u x.2))) X.1),X.2)
theorem o73:aJ Tryz.prog 73 e73:=fk n73 ((base.add zU).add Gg) Tryz.func73 (Λ:=L73) (cF Z2 nF)
def e25:aN:=aA [pf bT,pI] [(false,(.sl (.own none) .str))] (c2 Pu.nr)
theorem o25:aJ Tryz.prog 25 e25:=f0 {} ((base.add o72).add o73) Tryz.func25
def e76:aN:=aA [pd .str] [rS,rB] (c1 Pu.pR)
theorem o76:aJ Tryz.prog 76 e76:=f0 {merge:=mg [(1,16)]} (base.add ab0) Tryz.func76
def adS:aN:=aA [pd .str,pI] [rI] (c2 Pu.eB)
theorem Sf:aJ Tryz.prog 199 adS:=f0 {} (base.add WU) Tryz.func199
def adT:aN:=aA [pd .str,pI] [rI] (c2 Pu.jS)
theorem WR:aJ Tryz.prog 200 adT:=f0 {} ((base.add Sf).add WU) Tryz.func200
def ada:aN:=aA [pd .str] [(true,Y8),rB] (c1 Pu.pZ)
theorem agi:aJ Tryz.prog 144 ada:=f0 {sb:=mg [(4,4)]} (((base.add Sf).add WR).add aci) Tryz.func144
def adb:aN:=aA [pd .str] [(true,W4),rB] (c1 Pu.rk)
theorem agj:aJ Tryz.prog 145 adb:=f0 {merge:=mg [(2,22),(6,56)],sb:=mg [(5,5)]} (((base.add ach).add Sf).add WR) Tryz.func145
def ade:aN:=aA [pI,pI,pI,pd .str] [(true,(.pair (.int .i64) W4)),rB] (c4 Pu.k8)
theorem agk:aJ Tryz.prog 146 ade:=f0 {merge:=mg [(3,20),(9,44),(12,68)]} (((base.add acg).add Sf).add WR) Tryz.func146
def e77:aN:=aA [pd .str] [(true,Y0),rI] (c1 Pu.oR)
theorem o77:aJ Tryz.prog 77 e77:=f0 {merge:=mg [(2,20)]} ((((base.add Gg).add agi).add agj).add agk) Tryz.func77
def e27:aN:=aA [pd .str] [(true,Y0),rI] (c1 Pu.jv)
theorem o27:aJ Tryz.prog 27 e27:=f0 {} (((base.add o76).add o77).add o78) Tryz.func27
def e80:aN:=aA [pd (.sl eh),pI,pf bT] [rI] (c3 Pu.jq)
theorem o80:aJ Tryz.prog 80 e80:=f0 {merge:=mg [(1,23),(6,61)]} ((((base.add zU).add Sd).add Gg).add KM) Tryz.func80
def e79:aN:=aA [pd (.sl eh),pI,pf bT] [(false,(.sl (.own none) (.int .i64)))] (c3 Pu.h9)
def g79:bN:=(bN.nil.add 80 e80).add 147 OH
def n79:An:={mask:=mk [(7,[0,1,5,7,8,9,10]),(12,[0,1,5,7,8,9,11])],merge:=mg [(14,62)],mv:=[19,63,67]}
abbrev LV:SD:=⟨.data false (.sl .arg eh)::DI::B::B::B::.ptr 5 0::B::.data false (.sl (.own (some 86016)) (.int .i64))::DI::DI::DI::bs 57 [],zs 5 ((some Y0)::zs 62 []),.none⟩
def TD {R:Type}(X:SD.D LV)(K:Ex→AS→Option R):=Pu.ia (λy0 y1=>ke 0 K LV ((z4 (w y0 (u y1)) X.1),X.2)) X.1.1 X.1.2.1 (q2 X) (q3 X) X.2.1.1
def aaQ:bU:=eF LV TD (λX=>(q4 X,q5 X))
abbrev FG:SD:=⟨.data false (.sl .arg eh)::DI::B::B::B::.ptr 5 0::B::.data false (.sl (.own (some 86016)) (.int .i64))::DI::DI::B::DI::bs 56 [],zs 5 ((some Y0)::zs 62 []),.none⟩
def Rb {R:Type}(X:SD.D FG)(K:Ex→AS→Option R):=Pu.gH (λy0 y1=>ke 2 K FG ((z2 (w y0 (z2 (u y1))) X.1),X.2)) X.1.1 X.1.2.1 (q3 X) (q4 X) X.2.1.1
def Wy:bU:=eF FG Rb (λX=>(q2 X,q5 X))
def L79:cl:=((cl.nil).add 7 aaQ).add 12 Wy
theorem Z3:eg E g79 n79 L79 (aF Tryz.f79 0):=lk LV TD (λX=>(q4 X,q5 X)) λX x=>((z4 (w x.1 (u x.2)) X.1),X.2)
theorem Vq:eg E g79 n79 L79 (aF Tryz.f79 1):=lk FG Rb (λX=>(q2 X,q5 X)) λX x=>((z2 (w x.1 (z2 (u x.2))) X.1),X.2)
theorem o79:aJ Tryz.prog 79 e79:=fk n79 ((base.add o80).add KM) Tryz.func79 (Λ:=L79) (cF Z3 (cF Vq nF))
def ac8:aN:=aA [pf dW,pI] [(true,Y1),rB] (c2 Pu.mj)
theorem agh:aJ Tryz.prog 142 ac8:=f0 {merge:=mg [(1,15)]} ((base.add zU).add WO) Tryz.func142
def e74:aN:=aA [pd (.sl ay),pd (.sl eh),pI,pf bT] [(false,(.sl (.own none) ay)),(false,(.sl (.own none) (.int .i64))),rB] (c4 Pu.p4)
theorem o74:aJ Tryz.prog 74 e74:=f0 {merge:=mg [(2,37),(6,76)],mv:=[38,87,104]} ((((((base.add o68).add o78).add o79).add o80).add abZ).add agh) Tryz.func74
def e82:aN:=aA [pd (.sl eh),pI,pI,pf bT] [(true,Y0)] (c4 Pu.mf)
theorem o82:aJ Tryz.prog 82 e82:=f0 {merge:=mg [(1,34)]} ((((base.add zU).add Sd).add Gg).add KM) Tryz.func82
def adf:aN:=aA [pf dK,pf bT] [rB] (c2 Pu.re)
theorem agl:aJ Tryz.prog 148 adf:=f0 {merge:=mg [(1,4)]} ((base.add KL).add KM) Tryz.func148
def aeS:aN:=aA [pf dk,pf bT] [rB] (c2 Pu.qG)
theorem ahG:aJ Tryz.prog 280 aeS:=f0 {merge:=mg [(1,4)]} (base.add zU) Tryz.func280
def YJ:aN:=aA [pf dk,pf bT] [rB] (c2 Pu.mh)
theorem ahn:aJ Tryz.prog 255 YJ:=f0 {merge:=mg [(1,4)]} (((base.add Gg).add acx).add ahG) Tryz.func255
def adV:aN:=aA [pd (.sl dk),pf bT] [rI] (c2 Pu.pU)
def afr:bN:=(bN.nil.add 188 Ua).add 255 YJ
def abp:An:={mask:=mk [(3,[0,3,5,6])],merge:=mg [(3,14),(5,39)]}
abbrev Fl:SD:=⟨.data false (.sl .arg dk)::B::B::.ptr 3 0::B::DI::DI::bs 35 [],Z::Z::Z::(some Y0)::zs 38 [],.none⟩
def QH {R:Type}(X:SD.D Fl)(K:Ex→AS→Option R):=Pu.jr (λy0 y1=>ke 0 K Fl ((z1 (w y0 (u y1)) X.1),X.2)) X.1.1 X.2.1.1
def V4:bU:=eF Fl QH (λX=>(X.1.2.1,q2 X))
def XF:cl:=(cl.nil).add 3 V4
theorem UW:eg E afr abp XF (aF Tryz.f202 0):=lk Fl QH (λX=>(X.1.2.1,q2 X)) λX x=>((z1 (w x.1 (u x.2)) X.1),X.2)
theorem agP:aJ Tryz.prog 202 adV:=fk abp ((base.add acb).add ahn) Tryz.func202 (Λ:=XF) (cF UW nF)
def adW:aN:=aA [pf (.sl cI),pf iH] [rI] (c2 Pu.pT)
theorem agQ:aJ Tryz.prog 203 adW:=f0 {} ((base.add acd).add acy) Tryz.func203
def adX:aN:=aA [pf bT] [(true,Ot)] (c1 Pu.qo)
theorem acj:aJ Tryz.prog 204 adX:=f0 {} base Tryz.func204
def Uc:aN:=aA [pd .str,pI] [rI] (c2 Pu.qq)
theorem acH:aJ Tryz.prog 296 Uc:=f0 {} base Tryz.func296
def YX:aN:=aA [pd .str,pI] [rI] (c2 Pu.oQ)
def afP:bN:=(bN.nil.add 22 Rn).add 296 Uc
def abO:An:={mask:=mk [(5,[0,1,5,6])],merge:=mg [(1,14)]}
abbrev FE:SD:=⟨.data false .str::DI::B::B::B::DI::DI::bs 21 [],zs 28 [],.none⟩
def Q8 {R:Type}(X:SD.D FE)(K:Ex→AS→Option R):=Pu.k7 (λy0 y1=>ke 0 K FE ((z2 (w y0 (u y1)) X.1),X.2)) X.1.1 X.1.2.1
def Wv:bU:=eF FE Q8 (λX=>(q2 X,q3 X))
def X3:cl:=(cl.nil).add 5 Wv
theorem Vn:eg E afP abO X3 (aF Tryz.f297 0):=lk FE Q8 (λX=>(q2 X,q3 X)) λX x=>((z2 (w x.1 (u x.2)) X.1),X.2)
theorem ahV:aJ Tryz.prog 297 YX:=fk abO ((base.add zU).add acH) Tryz.func297 (Λ:=X3) (cF Vn nF)
def aeZ:aN:=aA [pd .str,pd .str] [rI] (c2 Pu.oN)
def afN:bN:=(bN.nil.add 296 Uc).add 297 YX
def abM:An:={mask:=mk [(5,[0,1,5,6])],merge:=mg [(1,14)]}
abbrev FC:SD:=⟨.data false .str::.data false .str::B::B::B::DI::DI::bs 25 [],zs 32 [],.none⟩
def Q6 {R:Type}(X:SD.D FC)(K:Ex→AS→Option R):=Pu.k6 (λy0 y1=>ke 0 K FC ((z2 (w y0 (u y1)) X.1),X.2)) X.1.1 X.1.2.1
def Wt:bU:=eF FC Q6 (λX=>(q2 X,q3 X))
def X1:cl:=(cl.nil).add 5 Wt
theorem Vl:eg E afN abM X1 (aF Tryz.f291 0):=lk FC Q6 (λX=>(q2 X,q3 X)) λX x=>((z2 (w x.1 (u x.2)) X.1),X.2)
theorem ahQ:aJ Tryz.prog 291 aeZ:=fk abM ((base.add acH).add ahV) Tryz.func291 (Λ:=X1) (cF Vl nF)
def ae0:aN:=aA [pf iH] [rS] (c1 Pu.oO)
theorem ahR:aJ Tryz.prog 292 ae0:=f0 {} ((base.add KO).add Py) Tryz.func292
def aeT:aN:=aA [pd .str,pf iH] [rI] (c2 Pu.pW)
theorem ahH:aJ Tryz.prog 281 aeT:=f0 {} ((base.add ahQ).add ahR) Tryz.func281
def aeC:aN:=aA [pf gE,pf iH] [rI] (c2 Pu.ri)
theorem aho:aJ Tryz.prog 256 aeC:=f0 {merge:=mg [(2,17)]} (base.add ahH) Tryz.func256
def adY:aN:=aA [pf gE,pI,pf iH] [rI] (c3 Pu.mm)
theorem agR:aJ Tryz.prog 205 adY:=f0 {merge:=mg [(2,18)]} ((base.add ace).add aho) Tryz.func205
def adg:aN:=aA [pf ed,pI,pf bT] [rI] (c3 Pu.mn)
theorem agm:aJ Tryz.prog 149 adg:=f0 {merge:=mg [(1,17)]} ((((((base.add abY).add Gg).add agP).add agQ).add acj).add agR) Tryz.func149
def adZ:aN:=aA [pd (.sl bC),pf iH] [rI] (c2 Pu.mq)
def afs:bN:=bN.nil
def abq:An:={mask:=mk [(2,[0,3,4,5])]}
abbrev BH:SD:=⟨.data false (.sl .arg bC)::B::B::.ptr 3 0::DI::DI::bs 14 [],Z::Z::Z::(some Ot)::zs 16 [],.none⟩
def QI {R:Type}(X:SD.D BH)(K:Ex→AS→Option R):=Pu.iE (λy0=>ke 0 K BH ((z2 (u y0) X.1),X.2)) (λy0 y1=>kr K BH ((z1 (w y0 (u y1)) X.1),X.2)) X.1.1 X.1.2.1 X.2.1.1
def V5:bU:=eF BH QI q2
def XG:cl:=(cl.nil).add 2 V5
theorem UX:eg E afs abq XG (aF Tryz.f206 0):=lk BH QI q2 λX x=>((z2 (u x) X.1),X.2)
theorem agS:aJ Tryz.prog 206 adZ:=fk abq base Tryz.func206 (Λ:=XG) (cF UX nF)
def adh:aN:=aA [pd (.sl bC),pf bT] [(false,(.sl (.own none) bC))] (c2 Pu.oM)
theorem agn:aJ Tryz.prog 150 adh:=f0 {merge:=mg [(17,84)],mv:=[16,31,53,60,69,85,139]} ((((base.add Gg).add acj).add agS).add KO) Tryz.func150
def e83:aN:=aA [pf cw,pd .str] [(true,Y6)] (c2 Pu.mi)
theorem o83:aJ Tryz.prog 83 e83:=f0 {merge:=mg [(3,35)],mv:=[41]} ((((((base.add o27).add o65).add o69).add agl).add agm).add agn) Tryz.func83
def e28:aN:=FO (.pair (.sl (.own none) cw) (.pair (.sl (.own none) (.sl .str)) (.pair (.sl (.own none) ay) (.pair (.sl (.own none) ba) (.sl (.own none) .str))))) [pI,pf bT] [] λx a=>Pu.jy x a.1 a.2.1
def g28:bN:=(((((bN.nil.add 67 YZ).add 79 e79).add 80 e80).add 81 e81).add 82 e82).add 83 e83
def n28:An:={mask:=mk [(5,[0,5,6,8,9,10])],mv:=[13,56]}
abbrev Ly:SD:=⟨.ptr 0 0::bs 4 (.ptr 5 0::.data false (.sl (.own (some 73728)) eh)::B::.data false (.sl (.own (some 98304)) (.int .i64))::DI::DI::bs 74 []),(some Y14)::zs 4 ((some Y0)::zs 79 []),.ptr⟩
def S6 {R:Type}(X:SD.D Ly)(K:Ex→AS→Option R):=Pu.ib (λy0 y1=>ke 0 K Ly ((z3 (u y0) X.1),(u y1 X.2.1),X.2.2)) X.1.1 X.1.2.1 (q2 X) X.2.1.2.1
def aaj:bU:=eF Ly S6 (λX=>(q3 X,X.2.1.1))
def L28:cl:=(cl.nil).add 5 aaj
theorem Zw:eg E g28 n28 L28 (aF Tryz.f28 0):=lk Ly S6 (λX=>(q3 X,X.2.1.1)) λX x=>((z3 (u x.1) X.1),(u x.2 X.2.1),X.2.2)
theorem o28:aJ Tryz.prog 28 e28:=aJ.SS (SP (Γ:=g28) (an:=n28) (Λ:=L28) ((((((base.add o67).add o79).add o80).add o81).add o82).add o83) Tryz.func28 (by kernel_rfl) (ao (cF Zw nF))) (λx a=>by kernel_rfl)
def e75:aN:=aA [pf br,pI,pf bT] [(true,Y2)] (c3 Pu.me)
theorem o75:aJ Tryz.prog 75 e75:=f0 {merge:=mg [(2,15)],mv:=[19]} ((((base.add o19).add o20).add o28).add o78) Tryz.func75
def e26:aN:=FO (.pair (.sl (.own none) cw) (.pair (.sl (.own none) (.sl .str)) (.pair (.sl (.own none) ay) (.pair (.sl (.own none) ba) (.sl (.own none) .str))))) [pI] [] λx a=>Pu.mx x a.1
def g26:bN:=(((bN.nil.add 27 e27).add 67 YZ).add 74 e74).add 75 e75
def n26:An:={mask:=mk [(4,[0,1,4,5,7])],mv:=[19,49,58,59,62],sb:=mg [(74,0)]}
abbrev Lx:SD:=⟨.ptr 0 0::DI::B::B::.data false (.sl (.own (some 49152)) .str)::.data false (.sl .loc eh)::B::DI::bs 67 [],(some Y14)::zs 74 [],.ptr⟩
def S5 {R:Type}(X:SD.D Lx)(K:Ex→AS→Option R):=Pu.fY (λy0 y1=>ke 0 K Lx ((z3 (u y0) X.1),(u y1 X.2.1),X.2.2)) X.1.1 X.1.2.1 (q2 X)
def aai:bU:=eF Lx S5 (λX=>(q3 X,X.2.1.1))
def L26:cl:=(cl.nil).add 4 aai
theorem Zv:eg E g26 n26 L26 (aF Tryz.f26 0):=lk Lx S5 (λX=>(q3 X,X.2.1.1)) λX x=>((z3 (u x.1) X.1),(u x.2 X.2.1),X.2.2)
theorem o26:aJ Tryz.prog 26 e26:=aJ.SS (SP (Γ:=g26) (an:=n26) (Λ:=L26) ((((base.add o27).add o67).add o74).add o75) Tryz.func26 (by kernel_rfl) (ao (cF Zv nF))) (λx a=>by kernel_rfl)
def e84:aN:=aA [pf dW,pI] [(true,Y1)] (c2 Pu.k9)
theorem o84:aJ Tryz.prog 84 e84:=f0 {merge:=mg [(1,12)]} ((base.add zU).add WO) Tryz.func84
def e29:aN:=aA [pd (.sl ay),pI] [(false,(.sl (.own none) ay))] (c2 Pu.jX)
def g29:bN:=bN.nil.add 84 e84
def n29:An:={mask:=mk [(3,[1,5,6])],mv:=[27]}
abbrev Lz:SD:=⟨B::DI::B::B::B::.data false (.sl (.own (some 61440)) ay)::DI::bs 21 [],zs 28 [],.none⟩
def S7 {R:Type}(X:SD.D Lz)(K:Ex→AS→Option R):=Pu.gI (λy0 y1=>ke 0 K Lz ((z1 (w y0 (u y1)) X.1),X.2)) X.1.1
def aak:bU:=eF Lz S7 (λX=>(X.1.2.1,q2 X))
def L29:cl:=(cl.nil).add 3 aak
theorem Zx:eg E g29 n29 L29 (aF Tryz.f29 0):=lk Lz S7 (λX=>(X.1.2.1,q2 X)) λX x=>((z1 (w x.1 (u x.2)) X.1),X.2)
theorem o29:aJ Tryz.prog 29 e29:=fk n29 (base.add o84) Tryz.func29 (Λ:=L29) (cF Zx nF)
def e6:aN:=aA [pf br,pf ft,pI] [(true,Y2)] (c3 Pu.rh)
def g6:bN:=((((((((((bN.nil.add 19 e19).add 20 e20).add 21 e21).add 22 Rn).add 23 e23).add 24 e24).add 25 e25).add 26 e26).add 27 e27).add 28 e28).add 29 e29
def n6:An:={mask:=mk [(12,[6,7,11])],merge:=mg [(3,49)],mv:=[50,54,63,76,92,107,147],sb:=mg [(100,7)],eb:=mg [(106,7)]}
abbrev LR:SD:=⟨bs 6 (.ptr 6 0::.ptr 7 0::B::B::B::DI::bs 136 []),zs 6 ((some Y10)::(some Y9)::zs 140 []),.none⟩
def TA {R:Type}(X:SD.D LR)(K:Ex→AS→Option R):=Pu.jo (λy0 y1=>ke 0 K LR ((u y0 X.1),(z1 (u y1) X.2.1),X.2.2)) X.2.1.1
def aaN:bU:=eF LR TA (λX=>(X.1.1,X.2.1.2.1))
def L6:cl:=(cl.nil).add 12 aaN
theorem Z0:eg E g6 n6 L6 (aF Tryz.f6 0):=lk LR TA (λX=>(X.1.1,X.2.1.2.1)) λX x=>((u x.1 X.1),(z1 (u x.2) X.2.1),X.2.2)
theorem o6:aJ Tryz.prog 6 e6:=fk n6 (((((((((((base.add o19).add o20).add o21).add zU).add o23).add W9).add o25).add o26).add o27).add o28).add o29) Tryz.func6 (Λ:=L6) (cF Z0 nF)
def e34:aN:=aA [pd (.sl .str)] [(false,(.sl (.own none) .str))] (c1 Pu.ji)
def g34:bN:=bN.nil
def n34:An:={mask:=mk [(3,[0,3,4])],mv:=[21]}
abbrev LF:SD:=⟨.data false (.sl .arg .str)::B::B::.data false (.sl (.own (some 36864)) .str)::DI::bs 17 [],zs 22 [],.none⟩
def Tc {R:Type}(X:SD.D LF)(K:Ex→AS→Option R):=Pu.sW (λy0 y1=>ke 0 K LF ((z1 (w y0 (u y1)) X.1),X.2)) X.1.1
def aap:bU:=eF LF Tc (λX=>(X.1.2.1,q2 X))
def L34:cl:=(cl.nil).add 3 aap
theorem ZC:eg E g34 n34 L34 (aF Tryz.f34 0):=lk LF Tc (λX=>(X.1.2.1,q2 X)) λX x=>((z1 (w x.1 (u x.2)) X.1),X.2)
theorem o34:aJ Tryz.prog 34 e34:=fk n34 base Tryz.func34 (Λ:=L34) (cF ZC nF)
def ad1:aN:=aA [pd (.sl (.int .i64))] [(false,(.sl (.own none) (.int .i64)))] (c1 Pu.sT)
def aft:bN:=bN.nil
def abr:An:={mask:=mk [(3,[0,3,4])],mv:=[21]}
abbrev Fm:SD:=⟨.data false (.sl .arg (.int .i64))::B::B::.data false (.sl (.own (some 36864)) (.int .i64))::DI::bs 17 [],zs 22 [],.none⟩
def QJ {R:Type}(X:SD.D Fm)(K:Ex→AS→Option R):=Pu.vA (λy0 y1=>ke 0 K Fm ((z1 (w y0 (u y1)) X.1),X.2)) X.1.1
def V6:bU:=eF Fm QJ (λX=>(X.1.2.1,q2 X))
def XH:cl:=(cl.nil).add 3 V6
theorem UY:eg E aft abr XH (aF Tryz.f208 0):=lk Fm QJ (λX=>(X.1.2.1,q2 X)) λX x=>((z1 (w x.1 (u x.2)) X.1),X.2)
theorem ack:aJ Tryz.prog 208 ad1:=fk abr base Tryz.func208 (Λ:=XH) (cF UY nF)
def adi:aN:=aA [pf dK] [(true,Y3)] (c1 Pu.kA)
theorem ab1:aJ Tryz.prog 151 adi:=f0 {mv:=[14]} (base.add ack) Tryz.func151
def YK:aN:=aA [pf dk] [(true,(.pair (.int .i64) (.pair (.int .i64) (.pair (.int .i64) (.pair (.int .i64) Ot)))))] (c1 Pu.sU)
theorem ahp:aJ Tryz.prog 257 YK:=f0 {} base Tryz.func257
def ad2:aN:=aA [pd (.sl dk)] [(false,(.sl (.own none) dk))] (c1 Pu.ux)
def afu:bN:=bN.nil.add 257 YK
def abt:An:={mask:=mk [(3,[0,3,4])],mv:=[22]}
abbrev Fo:SD:=⟨.data false (.sl .arg dk)::B::B::.data false (.sl (.own (some 36864)) dk)::DI::bs 18 [],zs 23 [],.none⟩
def QK {R:Type}(X:SD.D Fo)(K:Ex→AS→Option R):=Pu.vd (λy0 y1=>ke 0 K Fo ((z1 (w y0 (u y1)) X.1),X.2)) X.1.1
def V7:bU:=eF Fo QK (λX=>(X.1.2.1,q2 X))
def XI:cl:=(cl.nil).add 3 V7
theorem UZ:eg E afu abt XI (aF Tryz.f209 0):=lk Fo QK (λX=>(X.1.2.1,q2 X)) λX x=>((z1 (w x.1 (u x.2)) X.1),X.2)
theorem agT:aJ Tryz.prog 209 ad2:=fk abt (base.add ahp) Tryz.func209 (Λ:=XI) (cF UZ nF)
def aeE:aN:=aA [pf iH] [(true,Ot)] (c1 Pu.sS)
theorem acB:aJ Tryz.prog 259 aeE:=f0 {} base Tryz.func259
def YS:aN:=aA [pf cI] [(true,(.pair (.int .i64) (.pair Ot (.int .i64))))] (c1 Pu.nI)
theorem ahI:aJ Tryz.prog 282 YS:=f0 {} (base.add acB) Tryz.func282
def aeD:aN:=aA [pd (.sl cI)] [(false,(.sl (.own none) cI))] (c1 Pu.uy)
def afE:bN:=bN.nil.add 282 YS
def abD:An:={mask:=mk [(3,[0,3,4])],mv:=[22]}
abbrev Fv:SD:=⟨.data false (.sl .arg cI)::B::B::.data false (.sl (.own (some 36864)) cI)::DI::bs 18 [],zs 23 [],.none⟩
def QX {R:Type}(X:SD.D Fv)(K:Ex→AS→Option R):=Pu.ve (λy0 y1=>ke 0 K Fv ((z1 (w y0 (u y1)) X.1),X.2)) X.1.1
def Wk:bU:=eF Fv QX (λX=>(X.1.2.1,q2 X))
def XS:cl:=(cl.nil).add 3 Wk
theorem Vc:eg E afE abD XS (aF Tryz.f258 0):=lk Fv QX (λX=>(X.1.2.1,q2 X)) λX x=>((z1 (w x.1 (u x.2)) X.1),X.2)
theorem ahq:aJ Tryz.prog 258 aeD:=fk abD (base.add ahI) Tryz.func258 (Λ:=XS) (cF Vc nF)
def ad3:aN:=aA [pf (.sl cI)] [(true,(.sl (.own none) cI))] (c1 Pu.jg)
theorem agU:aJ Tryz.prog 210 ad3:=f0 {mv:=[8]} (base.add ahq) Tryz.func210
def ad4:aN:=aA [pf gE] [(true,(.pair .str (.sl (.own none) (.int .i64))))] (c1 Pu.mW)
theorem agV:aJ Tryz.prog 211 ad4:=f0 {mv:=[11]} (base.add ack) Tryz.func211
def adj:aN:=aA [pf ed] [(true,Y13)] (c1 Pu.ki)
theorem ago:aJ Tryz.prog 152 adj:=f0 {mv:=[16]} (((base.add agT).add agU).add agV) Tryz.func152
def YA:aN:=aA [pf bC] [(true,(.pair Ot (.pair (.int .i64) (.pair .str .bool))))] (c1 Pu.kB)
theorem agW:aJ Tryz.prog 212 YA:=f0 {} (base.add acB) Tryz.func212
def adk:aN:=aA [pd (.sl bC)] [(false,(.sl (.own none) bC))] (c1 Pu.sj)
def afe:bN:=bN.nil.add 212 YA
def abc:An:={mask:=mk [(3,[0,3,4])],mv:=[22]}
abbrev Fe:SD:=⟨.data false (.sl .arg bC)::B::B::.data false (.sl (.own (some 36864)) bC)::DI::bs 18 [],zs 23 [],.none⟩
def Qq {R:Type}(X:SD.D Fe)(K:Ex→AS→Option R):=Pu.sV (λy0 y1=>ke 0 K Fe ((z1 (w y0 (u y1)) X.1),X.2)) X.1.1
def VN:bU:=eF Fe Qq (λX=>(X.1.2.1,q2 X))
def Xs:cl:=(cl.nil).add 3 VN
theorem UE:eg E afe abc Xs (aF Tryz.f153 0):=lk Fe Qq (λX=>(X.1.2.1,q2 X)) λX x=>((z1 (w x.1 (u x.2)) X.1),X.2)
theorem agp:aJ Tryz.prog 153 adk:=fk abc (base.add agW) Tryz.func153 (Λ:=Xs) (cF UE nF)
def e85:aN:=aA [pf cw] [(true,Y6)] (c1 Pu.nJ)
theorem o85:aJ Tryz.prog 85 e85:=f0 {mv:=[23]} ((((base.add o34).add ab1).add ago).add agp) Tryz.func85
def e30:aN:=aA [pd (.sl cw)] [(false,(.sl (.own none) cw))] (c1 Pu.uz)
def g30:bN:=bN.nil.add 85 e85
def n30:An:={mask:=mk [(3,[0,3,4])],mv:=[22]}
abbrev LA:SD:=⟨.data false (.sl .arg cw)::B::B::.data false (.sl (.own (some 36864)) cw)::DI::bs 18 [],zs 23 [],.none⟩
def S8 {R:Type}(X:SD.D LA)(K:Ex→AS→Option R):=Pu.vf (λy0 y1=>ke 0 K LA ((z1 (w y0 (u y1)) X.1),X.2)) X.1.1
def aal:bU:=eF LA S8 (λX=>(X.1.2.1,q2 X))
def L30:cl:=(cl.nil).add 3 aal
theorem Zy:eg E g30 n30 L30 (aF Tryz.f30 0):=lk LA S8 (λX=>(X.1.2.1,q2 X)) λX x=>((z1 (w x.1 (u x.2)) X.1),X.2)
theorem o30:aJ Tryz.prog 30 e30:=fk n30 (base.add o85) Tryz.func30 (Λ:=L30) (cF Zy nF)
def e31:aN:=aA [pd (.sl (.sl .str))] [(false,(.sl (.own none) (.sl .str)))] (c1 Pu.qF)
def g31:bN:=bN.nil.add 34 e34
def n31:An:={mask:=mk [(3,[0,3,4])],mv:=[22]}
abbrev LB:SD:=⟨.data false (.sl .arg (.sl .str))::B::B::.data false (.sl (.own (some 36864)) (.sl .str))::DI::bs 18 [],zs 23 [],.none⟩
def S9 {R:Type}(X:SD.D LB)(K:Ex→AS→Option R):=Pu.sk (λy0 y1=>ke 0 K LB ((z1 (w y0 (u y1)) X.1),X.2)) X.1.1
def aam:bU:=eF LB S9 (λX=>(X.1.2.1,q2 X))
def L31:cl:=(cl.nil).add 3 aam
theorem Zz:eg E g31 n31 L31 (aF Tryz.f31 0):=lk LB S9 (λX=>(X.1.2.1,q2 X)) λX x=>((z1 (w x.1 (u x.2)) X.1),X.2)
theorem o31:aJ Tryz.prog 31 e31:=fk n31 (base.add o34) Tryz.func31 (Λ:=L31) (cF Zz nF)
def adl:aN:=aA [pf dW] [(true,Y1)] (c1 Pu.tt)
theorem agq:aJ Tryz.prog 154 adl:=f0 {} base Tryz.func154
def e86:aN:=aA [pf ay] [(true,Y15)] (c1 Pu.dY)
theorem o86:aJ Tryz.prog 86 e86:=f0 {} (base.add agq) Tryz.func86
def e32:aN:=aA [pd (.sl ay)] [(false,(.sl (.own none) ay))] (c1 Pu.jj)
def g32:bN:=bN.nil.add 86 e86
def n32:An:={mask:=mk [(3,[0,3,4])],mv:=[22]}
abbrev LC:SD:=⟨.data false (.sl .arg ay)::B::B::.data false (.sl (.own (some 36864)) ay)::DI::bs 18 [],zs 23 [],.none⟩
def Ta {R:Type}(X:SD.D LC)(K:Ex→AS→Option R):=Pu.lA (λy0 y1=>ke 0 K LC ((z1 (w y0 (u y1)) X.1),X.2)) X.1.1
def aan:bU:=eF LC Ta (λX=>(X.1.2.1,q2 X))
def L32:cl:=(cl.nil).add 3 aan
theorem ZA:eg E g32 n32 L32 (aF Tryz.f32 0):=lk LC Ta (λX=>(X.1.2.1,q2 X)) λX x=>((z1 (w x.1 (u x.2)) X.1),X.2)
theorem o32:aJ Tryz.prog 32 e32:=fk n32 (base.add o86) Tryz.func32 (Λ:=L32) (cF ZA nF)
def e87:aN:=aA [pf ba] [(true,(.pair Y3 Y1))] (c1 Pu.jh)
theorem o87:aJ Tryz.prog 87 e87:=f0 {mv:=[17]} (base.add ab1) Tryz.func87
def e33:aN:=aA [pd (.sl ba)] [(false,(.sl (.own none) ba))] (c1 Pu.qE)
def g33:bN:=bN.nil.add 87 e87
def n33:An:={mask:=mk [(3,[0,3,4])],mv:=[22]}
abbrev LD:SD:=⟨.data false (.sl .arg ba)::B::B::.data false (.sl (.own (some 36864)) ba)::DI::bs 18 [],zs 23 [],.none⟩
def Tb {R:Type}(X:SD.D LD)(K:Ex→AS→Option R):=Pu.sf (λy0 y1=>ke 0 K LD ((z1 (w y0 (u y1)) X.1),X.2)) X.1.1
def aao:bU:=eF LD Tb (λX=>(X.1.2.1,q2 X))
def L33:cl:=(cl.nil).add 3 aao
theorem ZB:eg E g33 n33 L33 (aF Tryz.f33 0):=lk LD Tb (λX=>(X.1.2.1,q2 X)) λX x=>((z1 (w x.1 (u x.2)) X.1),X.2)
theorem o33:aJ Tryz.prog 33 e33:=fk n33 (base.add o87) Tryz.func33 (Λ:=L33) (cF ZB nF)
def e7:aN:=aA [pf br] [(true,Y2)] (c1 Pu.g5)
theorem o7:aJ Tryz.prog 7 e7:=f0 {mv:=[24]} (((((base.add o30).add o31).add o32).add o33).add o34) Tryz.func7
def adm:aN:=aA [pf iI] [(true,(.pair (.int .i64) W4))] (c1 Pu.si)
theorem agr:aJ Tryz.prog 155 adm:=f0 {} base Tryz.func155
def e88:aN:=aA [pf bT] [(true,Y0)] (c1 Pu.mV)
theorem o88:aJ Tryz.prog 88 e88:=f0 {} (base.add agr) Tryz.func88
def e35:aN:=aA [pf AU] [(true,Y20)] (c1 Pu.se)
theorem o35:aJ Tryz.prog 35 e35:=f0 {} (base.add o88) Tryz.func35
def e36:aN:=aA [pf dW] [(true,Y1)] (c1 Pu.sg)
theorem o36:aJ Tryz.prog 36 e36:=f0 {} base Tryz.func36
def e8:aN:=aA [pf ft] [(true,(.pair (.int .i64) (.pair (.int .i64) (.pair Y20 (.pair Y1 (.pair .str (.int .i64)))))))] (c1 Pu.gA)
theorem o8:aJ Tryz.prog 8 e8:=f0 {} ((base.add o35).add o36) Tryz.func8
def e89:aN:=aA [pd (.sl ay)] [(false,(.sl (.own none) ay))] (c1 Pu.eV)
theorem o89:aJ Tryz.prog 89 e89:=f0 {} base Tryz.func89
def acU:aN:=aA [pd (.sl (.int .i64))] [(false,(.sl (.own none) (.int .i64)))] (c1 Pu.mM)
theorem abR:aJ Tryz.prog 102 acU:=f0 {} base Tryz.func102
def e41:aN:=aA [pf dK] [(true,Y3)] (c1 Pu.c7)
theorem Xa:aJ Tryz.prog 41 e41:=f0 {mv:=[7]} (base.add abR) Tryz.func41
def X9:aN:=aA [pf ba] [(true,(.pair Y3 Y1))] (c1 Pu.gq)
theorem WM:aJ Tryz.prog 101 X9:=f0 {mv:=[7]} (base.add Xa) Tryz.func101
def e90:aN:=aA [pd (.sl ba)] [(false,(.sl (.own none) ba))] (c1 Pu.lq)
def g90:bN:=bN.nil.add 101 X9
def n90:An:={mask:=mk [(3,[3,7,8,9])],mv:=[13,19]}
abbrev LW:SD:=⟨B::B::B::.data false (.sl (.own (some 36864)) ba)::B::B::B::.data false (.sl .arg ba)::DI::DI::bs 10 [],zs 20 [],.none⟩
def TE {R:Type}(X:SD.D LW)(K:Ex→AS→Option R):=Pu.kW (λy0 y1=>ke 0 K LW ((w y0 (z2 (u y1)) X.1),X.2)) X.1.2.1 (q2 X)
def aaR:bU:=eF LW TE (λX=>(X.1.1,q3 X))
def L90:cl:=(cl.nil).add 3 aaR
theorem Z4:eg E g90 n90 L90 (aF Tryz.f90 0):=lk LW TE (λX=>(X.1.1,q3 X)) λX x=>((w x.1 (z2 (u x.2)) X.1),X.2)
theorem o90:aJ Tryz.prog 90 e90:=fk n90 (base.add WM) Tryz.func90 (Λ:=L90) (cF Z4 nF)
def e91:aN:=aA [pd (.sl .str)] [(false,(.sl (.own none) .str))] (c1 Pu.gr)
theorem o91:aJ Tryz.prog 91 e91:=f0 {} base Tryz.func91
def ad5:aN:=aA [pf (.sl cI)] [(true,(.sl (.own none) cI))] (c1 Pu.oe)
theorem agX:aJ Tryz.prog 213 ad5:=f0 {} base Tryz.func213
def ad6:aN:=aA [pf gE] [(true,(.pair .str (.sl (.own none) (.int .i64))))] (c1 Pu.ng)
theorem agY:aJ Tryz.prog 214 ad6:=f0 {sb:=mg [(2,2)]} (base.add abR) Tryz.func214
def adn:aN:=aA [pf ed] [(true,Y13)] (c1 Pu.kZ)
theorem ags:aJ Tryz.prog 156 adn:=f0 {sb:=mg [(2,2)]} ((base.add agX).add agY) Tryz.func156
def ado:aN:=aA [pd (.sl bC)] [(false,(.sl (.own none) bC))] (c1 Pu.iX)
theorem ab2:aJ Tryz.prog 157 ado:=f0 {} base Tryz.func157
def e92:aN:=aA [pf cw] [(true,Y6)] (c1 Pu.mN)
theorem o92:aJ Tryz.prog 92 e92:=f0 {sb:=mg [(2,2)]} ((((base.add Xa).add o91).add ags).add ab2) Tryz.func92
def e37:aN:=aA [pf br] [(true,Y2)] (c1 Pu.iW)
def g37:bN:=(((bN.nil.add 89 e89).add 90 e90).add 91 e91).add 92 e92
def n37:An:={mask:=mk [(3,[1,2,3,19,20,21]),(8,[2,3,34,35,36])],mv:=[26,41,48],mb:=mg [(26,3),(41,3)],sb:=mg [(3,3),(31,3),(46,3)]}
abbrev LG:SD:=⟨B::.ptr 1 0::.ptr 2 0::.ptr 3 0::bs 15 (.data false (.sl .arg cw)::DI::DI::bs 27 []),Z::(some Y7)::(some Y5)::(some Y4)::zs 45 [],.none⟩
def Td {R:Type}(X:SD.D LG)(K:Ex→AS→Option R):=Pu.kX (λy0 y1=>ke 0 K LG ((z2 (u y0) X.1),(z2 (u y1) X.2.1),X.2.2)) X.1.1 X.1.2.1 X.2.1.1 X.2.1.2.1
def aaq:bU:=eF LG Td (λX=>(q2 X,X.2.1.2.2.1))
abbrev LH:SD:=⟨B::B::.ptr 2 0::.ptr 3 0::bs 30 (.data false (.sl .arg (.sl .str))::DI::DI::bs 12 []),Z::Z::(some Y5)::(some Y4)::zs 45 [],.none⟩
def Te {R:Type}(X:SD.D LH)(K:Ex→AS→Option R):=Pu.kY (λy0 y1=>ke 2 K LH ((z2 (u y0) X.1),(z1 (u y1) X.2.1),X.2.2)) X.1.1 X.1.2.1 X.2.1.1
def aar:bU:=eF LH Te (λX=>(q2 X,X.2.1.2.1))
def L37:cl:=((cl.nil).add 3 aaq).add 8 aar
theorem ZD:eg E g37 n37 L37 (aF Tryz.f37 0):=lk LG Td (λX=>(q2 X,X.2.1.2.2.1)) λX x=>((z2 (u x.1) X.1),(z2 (u x.2) X.2.1),X.2.2)
theorem ZE:eg E g37 n37 L37 (aF Tryz.f37 1):=lk LH Te (λX=>(q2 X,X.2.1.2.1)) λX x=>((z2 (u x.1) X.1),(z1 (u x.2) X.2.1),X.2.2)
theorem o37:aJ Tryz.prog 37 e37:=fk n37 ((((base.add o89).add o90).add o91).add o92) Tryz.func37 (Λ:=L37) (cF ZD (cF ZE nF))
def RD:aN:=aA [pI,pI,pI] [rB] (c3 Pu.aE)
theorem zr:aJ Tryz.prog 99 RD:=f0 {merge:=mg [(1,6)]} base Tryz.func99
def T8:aN:=aA [pf dK] [rB] (c1 Pu.ej)
def afi:bN:=bN.nil.add 99 RD
def abg:An:={mask:=mk [(2,[1,2,6,7,8])],merge:=mg [(4,29),(7,2)]}
abbrev Bz:SD:=⟨B::.ptr 1 0::DB::B::B::B::.data false (.sl .arg (.int .i64))::DI::DI::bs 31 [],Z::(some W3)::zs 38 [],.none⟩
def Qu {R:Type}(X:SD.D Bz)(K:Ex→AS→Option R):=Pu.lM (λy0=>ke 0 K Bz ((z3 (u y0) X.1),X.2)) (λy0 y1=>kr K Bz ((w y0 (z2 (u y1)) X.1),X.2)) X.1.1 X.1.2.1 (q2 X) X.2.1.1
def VR:bU:=eF Bz Qu q3
def Xw:cl:=(cl.nil).add 2 VR
theorem UI:eg E afi abg Xw (aF Tryz.f162 0):=lk Bz Qu q3 λX x=>((z3 (u x) X.1),X.2)
theorem KN:aJ Tryz.prog 162 T8:=fk abg (base.add zr) Tryz.func162 (Λ:=Xw) (cF UI nF)
def Yt:aN:=aA [pf ba] [rB] (c1 Pu.ln)
theorem ab3:aJ Tryz.prog 158 Yt:=f0 {merge:=mg [(1,2)]} ((base.add zr).add KN) Tryz.func158
def OI:aN:=aA [pd (.sl (.int .i64)),pI] [rB] (c2 Pu.dS)
def aff:bN:=bN.nil
def abd:An:={mask:=mk [(2,[1,4,7,8,9])]}
abbrev Bw:SD:=⟨B::DI::B::B::DB::B::B::.data false (.sl .arg (.int .i64))::DI::DI::bs 7 [],zs 17 [],.none⟩
def Qr {R:Type}(X:SD.D Bw)(K:Ex→AS→Option R):=Pu.vx (λy0=>ke 0 K Bw ((z4 (u y0) X.1),X.2)) (λy0 y1=>kr K Bw ((z1 (w y0 (z2 (u y1))) X.1),X.2)) X.1.1 X.1.2.1 (q2 X) (q3 X)
def VO:bU:=eF Bw Qr q4
def Xt:cl:=(cl.nil).add 2 VO
theorem UF:eg E aff abd Xt (aF Tryz.f159 0):=lk Bw Qr q4 λX x=>((z4 (u x) X.1),X.2)
theorem IM:aJ Tryz.prog 159 OI:=fk abd base Tryz.func159 (Λ:=Xt) (cF UF nF)
def Yu:aN:=aA [pd (.sl (.int .i64)),pI] [(false,(.sl (.own none) (.int .i64)))] (c2 Pu.fL)
def afg:bN:=bN.nil
def abe:An:={mask:=mk [(4,[1,5,6,10,11,12])],merge:=mg [(6,22)],mv:=[23,27,34,38]}
abbrev Ff:SD:=⟨B::DI::B::B::B::.data false (.sl (.own (some 61440)) (.int .i64))::DB::B::B::B::.data false (.sl .arg (.int .i64))::DI::DI::bs 26 [],zs 39 [],.none⟩
def Qs {R:Type}(X:SD.D Ff)(K:Ex→AS→Option R):=Pu.gz (λy0 y1 y2=>ke 0 K Ff ((z1 (w y0 (w y1 (z2 (u y2)))) X.1),X.2)) X.1.1 (q3 X) (q4 X)
def VP:bU:=eF Ff Qs (λX=>(X.1.2.1,q2 X,q5 X))
def Xu:cl:=(cl.nil).add 4 VP
theorem UG:eg E afg abe Xu (aF Tryz.f160 0):=lk Ff Qs (λX=>(X.1.2.1,q2 X,q5 X)) λX x=>((z1 (w x.1 (w x.2.1 (z2 (u x.2.2)))) X.1),X.2)
theorem ab4:aJ Tryz.prog 160 Yu:=fk abe base Tryz.func160 (Λ:=Xu) (cF UG nF)
def T9:aN:=aA [pd (.sl eh),pI] [rI] (c2 Pu.mO)
def afk:bN:=bN.nil
def abi:An:={mask:=mk [(2,[1,4,7,8,9])],merge:=mg [(4,21)]}
abbrev BC:SD:=⟨B::DI::B::B::DI::B::B::.data false (.sl .arg eh)::DI::DI::bs 14 [],zs 24 [],.none⟩
def Qx {R:Type}(X:SD.D BC)(K:Ex→AS→Option R):=Pu.iY (λy0=>ke 0 K BC ((z4 (u y0) X.1),X.2)) (λy0 y1=>kr K BC ((z1 (w y0 (z2 (u y1))) X.1),X.2)) X.1.1 X.1.2.1 (q2 X) (q3 X)
def VU:bU:=eF BC Qx q4
def Xy:cl:=(cl.nil).add 2 VU
theorem UL:eg E afk abi Xy (aF Tryz.f174 0):=lk BC Qx q4 λX x=>((z4 (u x) X.1),X.2)
theorem ab8:aJ Tryz.prog 174 T9:=fk abi base Tryz.func174 (Λ:=Xy) (cF UL nF)
def YB:aN:=aA [pf eh] [(true,W3)] (c1 Pu.tq)
theorem agZ:aJ Tryz.prog 215 YB:=f0 {} base Tryz.func215
def T7:aN:=aA [pd (.sl eh)] [rB] (c1 Pu.gZ)
def afh:bN:=((((bN.nil.add 99 RD).add 159 OI).add 162 T8).add 174 T9).add 215 YB
def abf:An:={mask:=mk [(4,[0,2,9,10,11])],merge:=mg [(6,27),(8,37)]}
abbrev Bx:SD:=⟨.data false (.sl .arg eh)::B::DB::bs 6 (.data false (.sl .arg eh)::DI::DI::bs 27 []),zs 39 [],.none⟩
def Qt {R:Type}(X:SD.D Bx)(K:Ex→AS→Option R):=Pu.nb (λy0=>ke 0 K Bx ((z4 (u y0) X.1),X.2)) (λy0 y1=>kr K Bx ((z1 (w y0 (z2 (u y1))) X.1),X.2)) X.1.1 X.1.2.1 (q2 X) (q3 X)
def VQ:bU:=eF Bx Qt q4
def Xv:cl:=(cl.nil).add 4 VQ
theorem UH:eg E afh abf Xv (aF Tryz.f161 0):=lk Bx Qt q4 λX x=>((z4 (u x) X.1),X.2)
theorem Se:aJ Tryz.prog 161 T7:=fk abf (((((base.add zr).add IM).add KN).add ab8).add agZ) Tryz.func161 (Λ:=Xv) (cF UH nF)
def e93:aN:=aA [pd (.sl ba)] [(false,(.sl (.own none) eh)),rB] (c1 Pu.jJ)
def g93:bN:=((((bN.nil.add 99 RD).add 158 Yt).add 159 OI).add 160 Yu).add 161 T7
def n93:An:={mask:=mk [(6,[2,3,4,5,18,19,20]),(12,[2,3,4,5,7,8,18,19,20,32,33,34])],mv:=[53,57,63,69]}
abbrev FI:SD:=⟨B::B::.data false (.sl (.own (some 24576)) eh)::DB::.data false (.sl (.own (some 49152)) eh)::.data false (.sl (.own (some 61440)) (.int .i64))::B::.ptr 7 0::.data false (.sl (.own (some 98304)) (.int .i64))::bs 9 (.data false (.sl .arg ba)::DI::DI::bs 11 (.data false (.sl (.own (some 393216)) (.int .i64))::DI::DI::bs 35 [])),zs 7 ((some (.pair W3 Y1))::zs 62 []),.none⟩
def Rc {R:Type}(X:SD.D FI)(K:Ex→AS→Option R):=Pu.gn (λy0 y1 y2=>ke 2 K FI ((z3 (w y0 (w y1 (z5 (u y2)))) X.1),X.2)) X.1.1 X.1.2.1 (q2 X) (q5 X) (q6 X) (q7 X) (q8 X) (q9 X) X.2.1.1
def Wz:bU:=eF FI Rc (λX=>(q3 X,q4 X,Et X))
abbrev Hu:SD:=⟨B::B::.data false (.sl (.own (some 24576)) eh)::DB::.data false (.sl (.own (some 49152)) eh)::.data false (.sl (.own (some 61440)) (.int .i64))::bs 12 (.data false (.sl .arg ba)::DI::DI::bs 49 []),zs 70 [],.none⟩
def TF {R:Type}(X:SD.D Hu)(K:Ex→AS→Option R):=Pu.kf (λy0 y1 y2=>ke 0 K Hu ((z2 (w y0 (w y1 (z2 (u y2)))) X.1),X.2)) (λy0 y1 y2 y3 y4=>kr K Hu ((w y0 (w y1 (w y2 (w y3 (z2 (u y4))))) X.1),X.2)) X.1.1 X.1.2.1 (q4 X) (q5 X)
def aaS:bU:=eF Hu TF (λX=>(q2 X,q3 X,q6 X))
def L93:cl:=((cl.nil).add 12 Wz).add 6 aaS
theorem Vr:eg E g93 n93 L93 (aF Tryz.f93 1):=lk FI Rc (λX=>(q3 X,q4 X,Et X)) λX x=>((z3 (w x.1 (w x.2.1 (z5 (u x.2.2)))) X.1),X.2)
theorem Z5:eg E g93 n93 L93 (aF Tryz.f93 0):=lk Hu TF (λX=>(q2 X,q3 X,q6 X)) λX x=>((z2 (w x.1 (w x.2.1 (z2 (u x.2.2)))) X.1),X.2)
theorem o93:aJ Tryz.prog 93 e93:=fk n93 (((((base.add zr).add ab3).add IM).add ab4).add Se) Tryz.func93 (Λ:=L93) (cF Z5 (cF Vr nF))
def YL:aN:=aA [pf dk] [rB] (c1 Pu.sK)
theorem acC:aJ Tryz.prog 260 YL:=f0 {merge:=mg [(1,33),(3,54),(5,2)]} (base.add zr) Tryz.func260
def Ub:aN:=aA [pd (.sl dk)] [rB] (c1 Pu.qW)
def afv:bN:=bN.nil.add 260 YL
def abu:An:={mask:=mk [(2,[0,2,5,6,7])]}
abbrev BI:SD:=⟨.data false (.sl .arg dk)::B::DB::B::B::.data false (.sl .arg dk)::DI::DI::bs 10 [],zs 18 [],.none⟩
def QL {R:Type}(X:SD.D BI)(K:Ex→AS→Option R):=Pu.u5 (λy0=>ke 0 K BI ((z4 (u y0) X.1),X.2)) (λy0 y1=>kr K BI ((z1 (w y0 (z2 (u y1))) X.1),X.2)) X.1.1 X.1.2.1 (q2 X) (q3 X)
def V8:bU:=eF BI QL q4
def XJ:cl:=(cl.nil).add 2 V8
theorem U0:eg E afv abu XJ (aF Tryz.f216 0):=lk BI QL q4 λX x=>((z4 (u x) X.1),X.2)
theorem acm:aJ Tryz.prog 216 Ub:=fk abu (base.add acC) Tryz.func216 (Λ:=XJ) (cF U0 nF)
def YM:aN:=aA [pf (.sl cI),pf iH] [rI] (c2 Pu.qe)
def afF:bN:=bN.nil
def abE:An:={mask:=mk [(2,[3,4,8,9,10])],merge:=mg [(4,23)]}
abbrev BP:SD:=⟨B::B::B::.ptr 3 0::DI::B::B::B::.data false (.sl .arg cI)::DI::DI::bs 15 [],Z::Z::Z::(some Ot)::zs 22 [],.none⟩
def QY {R:Type}(X:SD.D BP)(K:Ex→AS→Option R):=Pu.om (λy0=>ke 0 K BP ((z3 (u y0) X.1),X.2)) (λy0 y1=>kr K BP ((w y0 (z2 (u y1)) X.1),X.2)) X.1.1 X.1.2.1 (q2 X) X.2.1.1
def Wl:bU:=eF BP QY q3
def XT:cl:=(cl.nil).add 2 Wl
theorem Vd:eg E afF abE XT (aF Tryz.f261 0):=lk BP QY q3 λX x=>((z3 (u x) X.1),X.2)
theorem acD:aJ Tryz.prog 261 YM:=fk abE base Tryz.func261 (Λ:=XT) (cF Vd nF)
def YE:aN:=aA [pI,pI] [rI] (c2 Pu.jz)
theorem acv:aJ Tryz.prog 237 YE:=f0 {} base Tryz.func237
def YT:aN:=aA [pf iH] [rI] (c1 Pu.pC)
def afL:bN:=bN.nil.add 237 YE
def abK:An:={mask:=mk [(3,[3,16,17,18])]}
abbrev FA:SD:=⟨B::B::B::DI::bs 12 (.data false (.sl (.own (some 196608)) (.int .i64))::DI::DI::bs 10 []),zs 29 [],.none⟩
def Q4 {R:Type}(X:SD.D FA)(K:Ex→AS→Option R):=Pu.iT (λy0 y1=>ke 0 K FA ((w y0 (z2 (u y1)) X.1),X.2)) X.1.2.1 (q2 X)
def Wr:bU:=eF FA Q4 (λX=>(X.1.1,q3 X))
def XZ:cl:=(cl.nil).add 3 Wr
theorem Vj:eg E afL abK XZ (aF Tryz.f283 0):=lk FA Q4 (λX=>(X.1.1,q3 X)) λX x=>((w x.1 (z2 (u x.2)) X.1),X.2)
theorem ahJ:aJ Tryz.prog 283 YT:=fk abK (base.add acv) Tryz.func283 (Λ:=XZ) (cF Vj nF)
def YN:aN:=aA [pf iH] [(false,(.sl (.own none) (.int .i64)))] (c1 Pu.uj)
def afG:bN:=bN.nil.add 283 YT
def abF:An:={mask:=mk [(3,[1,3,4])],mv:=[10,18]}
abbrev Fw:SD:=⟨B::.ptr 1 0::B::.data false (.sl (.own (some 36864)) (.int .i64))::DI::bs 14 [],Z::(some Ot)::zs 17 [],.none⟩
def QZ {R:Type}(X:SD.D Fw)(K:Ex→AS→Option R):=Pu.mQ (λy0 y1=>ke 0 K Fw ((w y0 (u y1) X.1),X.2)) X.2.1.1
def Wm:bU:=eF Fw QZ (λX=>(X.1.1,X.1.2.1))
def XU:cl:=(cl.nil).add 3 Wm
theorem Ve:eg E afG abF XU (aF Tryz.f262 0):=lk Fw QZ (λX=>(X.1.1,X.1.2.1)) λX x=>((w x.1 (u x.2) X.1),X.2)
theorem ahr:aJ Tryz.prog 262 YN:=fk abF (base.add ahJ) Tryz.func262 (Λ:=XU) (cF Ve nF)
def YC:aN:=aA [pf (.sl cI)] [rB] (c1 Pu.lW)
def Zk:bN:=((bN.nil.add 99 RD).add 261 YM).add 262 YN
def WJ:An:={mask:=mk [(4,[1,2,12,13,14]),(14,[1,2,3,12,13,14,49,50,51])],merge:=mg [(6,28),(9,40)]}
abbrev xQ:SD:=⟨B::.ptr 1 0::DB::DI::bs 8 (.data false (.sl .arg cI)::DI::DI::bs 34 (.data false (.sl (.own (some 602112)) (.int .i64))::DI::DI::bs 15 [])),Z::(some (.sl .arg cI))::zs 65 [],.none⟩
def MI {R:Type}(X:SD.D xQ)(K:Ex→AS→Option R):=Pu.gp (λy0=>ke 2 K xQ ((z7 (u y0) X.1),X.2)) (λy0 y1=>kr K xQ ((w y0 (z6 (u y1)) X.1),X.2)) X.1.1 X.1.2.1 (q2 X) (q3 X) (q4 X) (q5 X) (q6 X) X.2.1.1
def R6:bU:=eF xQ MI q7
abbrev BJ:SD:=⟨B::.ptr 1 0::DB::bs 9 (.data false (.sl .arg cI)::DI::DI::bs 52 []),Z::(some (.sl .arg cI))::zs 65 [],.none⟩
def QM {R:Type}(X:SD.D BJ)(K:Ex→AS→Option R):=Pu.nf (λy0=>ke 0 K BJ ((z3 (u y0) X.1),X.2)) (λy0 y1=>kr K BJ ((w y0 (z2 (u y1)) X.1),X.2)) X.1.1 X.1.2.1 (q2 X) X.2.1.1
def V9:bU:=eF BJ QM q3
def TR:cl:=((cl.nil).add 14 R6).add 4 V9
theorem R2:eg E Zk WJ TR (aF Tryz.f217 1):=lk xQ MI q7 λX x=>((z7 (u x) X.1),X.2)
theorem U1:eg E Zk WJ TR (aF Tryz.f217 0):=lk BJ QM q3 λX x=>((z3 (u x) X.1),X.2)
theorem acn:aJ Tryz.prog 217 YC:=fk WJ (((base.add zr).add acD).add ahr) Tryz.func217 (Λ:=TR) (cF U1 (cF R2 nF))
def YO:aN:=aA [pI] [rB] (c1 Pu.vy)
theorem ahs:aJ Tryz.prog 263 YO:=f0 {merge:=mg [(1,2)]} base Tryz.func263
def YD:aN:=aA [pf gE,pI] [rB] (c2 Pu.pH)
def afw:bN:=(bN.nil.add 99 RD).add 263 YO
def abv:An:={mask:=mk [(4,[1,4,24,25,26])],merge:=mg [(1,22)]}
abbrev BK:SD:=⟨B::DI::B::B::DB::bs 19 (.data false (.sl .arg (.int .i64))::DI::DI::bs 9 []),zs 36 [],.none⟩
def QN {R:Type}(X:SD.D BK)(K:Ex→AS→Option R):=Pu.tK (λy0=>ke 0 K BK ((z4 (u y0) X.1),X.2)) (λy0 y1=>kr K BK ((z1 (w y0 (z2 (u y1))) X.1),X.2)) X.1.1 X.1.2.1 (q2 X) (q3 X)
def Wa:bU:=eF BK QN q4
def XK:cl:=(cl.nil).add 4 Wa
theorem U2:eg E afw abv XK (aF Tryz.f218 0):=lk BK QN q4 λX x=>((z4 (u x) X.1),X.2)
theorem aco:aJ Tryz.prog 218 YD:=fk abv ((base.add zr).add ahs) Tryz.func218 (Λ:=XK) (cF U2 nF)
def adp:aN:=aA [pf ed,pI] [rB] (c2 Pu.kg)
def Zi:bN:=((bN.nil.add 216 Ub).add 217 YC).add 218 YD
def WH:An:={mask:=mk [(4,[1,2,4,27,28,29]),(10,[1,4,45,46,47])],merge:=mg [(1,25),(6,41),(12,59)]}
abbrev BA:SD:=⟨B::DI::.ptr 2 0::B::DB::bs 22 (.data false (.sl .arg dk)::DI::DI::bs 31 []),Z::Z::(some Y16)::zs 58 [],.none⟩
def Qv {R:Type}(X:SD.D BA)(K:Ex→AS→Option R):=Pu.jK (λy0=>ke 0 K BA ((z4 (u y0) X.1),X.2)) (λy0 y1=>kr K BA ((z1 (w y0 (z2 (u y1))) X.1),X.2)) X.1.1 X.1.2.1 (q2 X) (q3 X) X.2.1.1
def VS:bU:=eF BA Qv q4
abbrev xP:SD:=⟨B::DI::B::B::DB::bs 40 (.data false (.sl .arg cI)::DI::DI::bs 13 []),zs 61 [],.none⟩
def MH {R:Type}(X:SD.D xP)(K:Ex→AS→Option R):=Pu.iz (λy0=>ke 2 K xP ((z4 (u y0) X.1),X.2)) (λy0 y1=>kr K xP ((z1 (w y0 (z2 (u y1))) X.1),X.2)) X.1.1 X.1.2.1 (q2 X) (q3 X)
def R5:bU:=eF xP MH q4
def TP:cl:=((cl.nil).add 4 VS).add 10 R5
theorem UJ:eg E Zi WH TP (aF Tryz.f163 0):=lk BA Qv q4 λX x=>((z4 (u x) X.1),X.2)
theorem R1:eg E Zi WH TP (aF Tryz.f163 1):=lk xP MH q4 λX x=>((z4 (u x) X.1),X.2)
theorem ab5:aJ Tryz.prog 163 adp:=fk WH (((base.add acm).add acn).add aco) Tryz.func163 (Λ:=TP) (cF UJ (cF R1 nF))
def e94:aN:=aA [pf cw] [rB] (c1 Pu.qc)
theorem o94:aJ Tryz.prog 94 e94:=f0 {merge:=mg [(1,2)]} ((base.add KN).add ab5) Tryz.func94
def adq:aN:=aA [pd (.sl (.int .i64)),pd (.sl (.int .i64))] [rB] (c2 Pu.l9)
def afj:bN:=bN.nil
def abh:An:={mask:=mk [(4,[0,1,4,12,13])]}
abbrev BB:SD:=⟨.data false (.sl .arg (.int .i64))::.data false (.sl .arg (.int .i64))::B::B::DB::bs 7 (DI::DI::bs 12 []),zs 26 [],.none⟩
def Qw {R:Type}(X:SD.D BB)(K:Ex→AS→Option R):=Pu.iC (λy0=>ke 0 K BB ((z4 (u y0) X.1),X.2)) (λy0 y1=>kr K BB ((z2 (w y0 (z1 (u y1))) X.1),X.2)) X.1.1 X.1.2.1 (q2 X) (q3 X)
def VT:bU:=eF BB Qw q4
def Xx:cl:=(cl.nil).add 4 VT
theorem UK:eg E afj abh Xx (aF Tryz.f164 0):=lk BB Qw q4 λX x=>((z4 (u x) X.1),X.2)
theorem agt:aJ Tryz.prog 164 adq:=fk abh base Tryz.func164 (Λ:=Xx) (cF UK nF)
def e95:aN:=aA [pf dK,pf dK] [rB] (c2 Pu.nh)
theorem o95:aJ Tryz.prog 95 e95:=f0 {merge:=mg [(1,4)]} (base.add agt) Tryz.func95
def Yv:aN:=aA [pf dW] [rB] (c1 Pu.mJ)
theorem WQ:aJ Tryz.prog 165 Yv:=f0 {merge:=mg [(1,2)]} (base.add zr) Tryz.func165
def e96:aN:=aA [pd (.sl ay),pd (.sl eh)] [rB] (c2 Pu.iS)
def g96:bN:=((bN.nil.add 99 RD).add 161 T7).add 165 Yv
def n96:An:={mask:=mk [(4,[0,1,4,12,13,14]),(9,[0,1,4,6,12,13,14,52,53,54])],merge:=mg [(6,49),(11,69)]}
abbrev Hw:SD:=⟨.data false (.sl .arg ay)::.data false (.sl .arg eh)::B::B::DB::B::.ptr 6 0::bs 5 (.data false (.sl .arg ay)::DI::DI::bs 37 (.data false (.sl .arg ay)::DI::DI::bs 17 [])),zs 6 ((some Y15)::zs 65 []),.none⟩
def TH {R:Type}(X:SD.D Hw)(K:Ex→AS→Option R):=Pu.iy (λy0=>ke 2 K Hw ((z8 (u y0) X.1),X.2)) (λy0 y1=>kr K Hw ((z2 (w y0 (z5 (u y1))) X.1),X.2)) X.1.1 X.1.2.1 (q2 X) (q3 X) (q4 X) (q5 X) (q6 X) (q7 X) X.2.1.1
def aaU:bU:=eF Hw TH q8
abbrev Hv:SD:=⟨.data false (.sl .arg ay)::.data false (.sl .arg eh)::B::B::DB::bs 7 (.data false (.sl .arg ay)::DI::DI::bs 57 []),zs 72 [],.none⟩
def TG {R:Type}(X:SD.D Hv)(K:Ex→AS→Option R):=Pu.ix (λy0=>ke 0 K Hv ((z5 (u y0) X.1),X.2)) (λy0 y1=>kr K Hv ((z2 (w y0 (z2 (u y1))) X.1),X.2)) X.1.1 X.1.2.1 (q2 X) (q3 X) (q4 X)
def aaT:bU:=eF Hv TG q5
def L96:cl:=((cl.nil).add 9 aaU).add 4 aaT
theorem Z7:eg E g96 n96 L96 (aF Tryz.f96 1):=lk Hw TH q8 λX x=>((z8 (u x) X.1),X.2)
theorem Z6:eg E g96 n96 L96 (aF Tryz.f96 0):=lk Hv TG q5 λX x=>((z5 (u x) X.1),X.2)
theorem o96:aJ Tryz.prog 96 e96:=fk n96 (((base.add zr).add Se).add WQ) Tryz.func96 (Λ:=L96) (cF Z6 (cF Z7 nF))
def e97:aN:=aA [pd (.sl ay)] [rB] (c1 Pu.og)
def g97:bN:=bN.nil
def n97:An:={mask:=mk [(2,[2,5,6,7])],merge:=mg [(4,22)]}
abbrev Hx:SD:=⟨B::B::DB::B::B::.data false (.sl .arg ay)::DI::DI::bs 16 [],zs 24 [],.none⟩
def TI {R:Type}(X:SD.D Hx)(K:Ex→AS→Option R):=Pu.k5 (λy0=>ke 0 K Hx ((z3 (u y0) X.1),X.2)) (λy0 y1=>kr K Hx ((w y0 (z2 (u y1)) X.1),X.2)) X.1.1 X.1.2.1 (q2 X)
def aaV:bU:=eF Hx TI q3
def L97:cl:=(cl.nil).add 2 aaV
theorem Z8:eg E g97 n97 L97 (aF Tryz.f97 0):=lk Hx TI q3 λX x=>((z3 (u x) X.1),X.2)
theorem o97:aJ Tryz.prog 97 e97:=fk n97 base Tryz.func97 (Λ:=L97) (cF Z8 nF)
def e38:aN:=aA [pf br] [rB] (c1 Pu.n7)
def g38:bN:=((((bN.nil.add 93 e93).add 94 e94).add 95 e95).add 96 e96).add 97 e97
def n38:An:={mask:=mk [(6,[1,2,3,41,42,43])],merge:=mg [(3,39),(8,62),(11,2)]}
abbrev Hh:SD:=⟨B::.ptr 1 0::DB::.data false (.sl .loc eh)::bs 37 (.data false (.sl .arg cw)::DI::DI::bs 29 []),Z::(some Y7)::zs 71 [],.none⟩
def Tf {R:Type}(X:SD.D Hh)(K:Ex→AS→Option R):=Pu.na (λy0=>ke 0 K Hh ((z4 (u y0) X.1),X.2)) (λy0 y1=>kr K Hh ((w y0 (z3 (u y1)) X.1),X.2)) X.1.1 X.1.2.1 (q2 X) (q3 X) X.2.1.1
def aas:bU:=eF Hh Tf q4
def L38:cl:=(cl.nil).add 6 aas
theorem ZF:eg E g38 n38 L38 (aF Tryz.f38 0):=lk Hh Tf q4 λX x=>((z4 (u x) X.1),X.2)
theorem o38:aJ Tryz.prog 38 e38:=fk n38 (((((base.add o93).add o94).add o95).add o96).add o97) Tryz.func38 (Λ:=L38) (cF ZF nF)
def e98:aN:=aA [pf AU] [rB] (c1 Pu.xp)
theorem o98:aJ Tryz.prog 98 e98:=f0 {merge:=mg [(1,12),(3,31),(5,2)]} (base.add zr) Tryz.func98
def e39:aN:=aA [pf ft,pI] [rB] (c2 Pu.rP)
theorem o39:aJ Tryz.prog 39 e39:=f0 {merge:=mg [(1,4)]} ((base.add o98).add zr) Tryz.func39
def ad7:aN:=aA [pf dK,pI] [(true,Y3),rB] (c2 Pu.qS)
theorem ag3:aJ Tryz.prog 219 ad7:=f0 {merge:=mg [(2,17)],mv:=[18,29]} ((((base.add Xa).add IM).add ab4).add KN) Tryz.func219
def ad8:aN:=aA [pf dK,pI] [(true,Y3),rB] (c2 Pu.px)
def afx:bN:=((bN.nil.add 41 e41).add 159 OI).add 162 T8
def abw:An:={mask:=mk [(6,[1,4,6,25,26,27])],merge:=mg [(2,20)],mv:=[21,35,41]}
abbrev Fp:SD:=⟨B::DI::B::B::.ptr 4 0::B::.ptr 6 0::bs 18 (.data false (.sl .arg (.int .i64))::DI::DI::bs 14 []),zs 4 ((some Y19)::Z::(some Y18)::zs 35 []),.none⟩
def QO {R:Type}(X:SD.D Fp)(K:Ex→AS→Option R):=Pu.lL (λy0 y1=>ke 0 K Fp ((z3 (u y0) X.1),(z1 (u y1) X.2.1),X.2.2)) X.1.1 X.1.2.1 (q2 X) X.2.1.1
def Wb:bU:=eF Fp QO (λX=>(q3 X,X.2.1.2.1))
def XL:cl:=(cl.nil).add 6 Wb
theorem U3:eg E afx abw XL (aF Tryz.f220 0):=lk Fp QO (λX=>(q3 X,X.2.1.2.1)) λX x=>((z3 (u x.1) X.1),(z1 (u x.2) X.2.1),X.2.2)
theorem ag4:aJ Tryz.prog 220 ad8:=fk abw (((base.add Xa).add IM).add KN) Tryz.func220 (Λ:=XL) (cF U3 nF)
def adr:aN:=aA [pf dK,pf dW] [(true,Y3),rI] (c2 Pu.qX)
theorem agu:aJ Tryz.prog 166 adr:=f0 {mv:=[21,30,39,46],mb:=mg [(39,6)],sb:=mg [(4,4)]} ((((base.add Xa).add KN).add ag3).add ag4) Tryz.func166
def acT:aN:=aA [pf ba,pf dW] [(true,(.pair Y3 Y1)),rI] (c2 Pu.jI)
theorem afR:aJ Tryz.prog 100 acT:=f0 {mv:=[13,20,30,31,47],mb:=mg [(20,6),(47,6)],sb:=mg [(4,4)],fm:=[49]} (((base.add WM).add ab3).add agu) Tryz.func100
def e40:aN:=aA [pd (.sl ba),pI,pf dW] [(false,(.sl (.own none) ba)),rI] (c3 Pu.kV)
theorem o40:aJ Tryz.prog 40 e40:=f0 {mv:=[14,23,32,60],es:=mg [(25,8)]} ((((base.add o90).add o93).add afR).add WM) Tryz.func40
def ad9:aN:=aA [pf iI] [rB] (c1 Pu.lp)
theorem acp:aJ Tryz.prog 221 ad9:=f0 {merge:=mg [(1,18),(5,2),(7,2)]} (base.add zr) Tryz.func221
def aea:aN:=aA [pI] [rB] (c1 Pu.oo)
theorem ag5:aJ Tryz.prog 222 aea:=f0 {merge:=mg [(1,2)]} base Tryz.func222
def Yw:aN:=aA [pf bT] [rB] (c1 Pu.ev)
theorem Gi:aJ Tryz.prog 167 Yw:=f0 {merge:=mg [(1,2)]} (((base.add zr).add acp).add ag5) Tryz.func167
def Yb:aN:=aA [pf bT] [rB] (c1 Pu.ig)
theorem Sc:aJ Tryz.prog 108 Yb:=f0 {merge:=mg [(1,2)]} (base.add Gi) Tryz.func108
def aeo:aN:=aA [pI] [rS] (c1 Pu.cn)
theorem IP:aJ Tryz.prog 236 aeo:=f0 {} (base.add zr) Tryz.func236
def aeU:aN:=aA [pI] [rS] (c1 Pu.fA)
theorem Pz:aJ Tryz.prog 284 aeU:=f0 {} (base.add zr) Tryz.func284
def aeF:aN:=aA [pf iI] [rS] (c1 Pu.lX)
theorem aht:aJ Tryz.prog 264 aeF:=f0 {} ((base.add IP).add Pz) Tryz.func264
def aeG:aN:=aA [pI,pI,pI,pI] [rS,rB] (c4 Pu.oa)
theorem ahu:aJ Tryz.prog 265 aeG:=f0 {merge:=mg [(1,27)]} (((base.add zr).add IP).add Pz) Tryz.func265
def YW:aN:=aA [pI,pI] [rI] (c2 Pu.qR)
theorem ahS:aJ Tryz.prog 293 YW:=f0 {merge:=mg [(1,12)]} (base.add zr) Tryz.func293
def aeV:aN:=aA [pd .str] [rI] (c1 Pu.pJ)
def afM:bN:=bN.nil.add 293 YW
def abL:An:={mask:=mk [(3,[0,3,4])]}
abbrev FB:SD:=⟨.data false .str::B::B::DI::DI::bs 28 [],zs 33 [],.none⟩
def Q5 {R:Type}(X:SD.D FB)(K:Ex→AS→Option R):=Pu.lV (λy0 y1=>ke 0 K FB ((z1 (w y0 (u y1)) X.1),X.2)) X.1.1
def Ws:bU:=eF FB Q5 (λX=>(X.1.2.1,q2 X))
def X0:cl:=(cl.nil).add 3 Ws
theorem Vk:eg E afM abL X0 (aF Tryz.f285 0):=lk FB Q5 (λX=>(X.1.2.1,q2 X)) λX x=>((z1 (w x.1 (u x.2)) X.1),X.2)
theorem ahK:aJ Tryz.prog 285 aeV:=fk abL (base.add ahS) Tryz.func285 (Λ:=X0) (cF Vk nF)
def aeH:aN:=aA [pd .str] [rI] (c1 Pu.mK)
theorem acE:aJ Tryz.prog 266 aeH:=f0 {} (base.add ahK) Tryz.func266
def aeI:aN:=aA [pd .str,pI,pd .str] [rS] (c3 Pu.kz)
theorem acF:aJ Tryz.prog 267 aeI:=f0 {merge:=mg [(1,17)]} base Tryz.func267
def aeJ:aN:=aA [pI] [rI] (c1 Pu.mP)
theorem ahv:aJ Tryz.prog 268 aeJ:=f0 {} base Tryz.func268
def aeb:aN:=aA [pI,pI,pf iI] [rS,rB] (c3 Pu.fH)
theorem acq:aJ Tryz.prog 223 aeb:=f0 {merge:=mg [(8,39)]} (((((((base.add acp).add IP).add aht).add ahu).add acE).add acF).add ahv) Tryz.func223
def aeW:aN:=aA [pf SL] [rB] (c1 Pu.ze)
theorem ahL:aJ Tryz.prog 286 aeW:=f0 {merge:=mg [(1,2)]} (base.add zr) Tryz.func286
def aeK:aN:=aA [pf SL] [rS,rB] (c1 Pu.pD)
theorem ahw:aJ Tryz.prog 269 aeK:=f0 {} (((((base.add IP).add acE).add acF).add Pz).add ahL) Tryz.func269
def aec:aN:=aA [pf SL] [rS,rB] (c1 Pu.nY)
theorem acr:aJ Tryz.prog 224 aec:=f0 {} (base.add ahw) Tryz.func224
def aei:aN:=aA [pf MM] [rB] (c1 Pu.rO)
theorem acs:aJ Tryz.prog 230 aei:=f0 {merge:=mg [(1,2)]} (base.add zr) Tryz.func230
def aeL:aN:=aA [pI] [rS] (c1 Pu.pK)
theorem ahx:aJ Tryz.prog 270 aeL:=f0 {} ((base.add IP).add Pz) Tryz.func270
def aed:aN:=aA [pf MM] [rS,rB] (c1 Pu.pt)
theorem ag6:aJ Tryz.prog 225 aed:=f0 {} (((base.add acs).add IP).add ahx) Tryz.func225
def aeM:aN:=aA [pd (.int .u8),pI] [rS] (c2 Pu.sL)
def afH:bN:=bN.nil
def abG:An:={mask:=mk [(3,[0,5,10,11])]}
abbrev Fx:SD:=⟨.data false (.int .u8)::bs 4 (.data false (.sl (.own (some 61440)) (.int .u8))::bs 4 (DI::DI::bs 9 [])),zs 21 [],.none⟩
def Q0 {R:Type}(X:SD.D Fx)(K:Ex→AS→Option R):=Pu.oh (λy0 y1=>ke 0 K Fx ((z1 (w y0 (z1 (u y1))) X.1),X.2)) X.1.1 (q2 X)
def Wn:bU:=eF Fx Q0 (λX=>(X.1.2.1,q3 X))
def XV:cl:=(cl.nil).add 3 Wn
theorem Vf:eg E afH abG XV (aF Tryz.f271 0):=lk Fx Q0 (λX=>(X.1.2.1,q3 X)) λX x=>((z1 (w x.1 (z1 (u x.2))) X.1),X.2)
theorem ahy:aJ Tryz.prog 271 aeM:=fk abG base Tryz.func271 (Λ:=XV) (cF Vf nF)
def aee:aN:=aA [pd .str] [rS] (c1 Pu.qU)
theorem ag7:aJ Tryz.prog 226 aee:=f0 {} (base.add ahy) Tryz.func226
def ads:aN:=aA [pf bT] [rS,rB] (c1 Pu.kc)
theorem ab6:aJ Tryz.prog 168 ads:=f0 {} (((((base.add Gi).add acq).add acr).add ag6).add ag7) Tryz.func168
def aef:aN:=aA [pd .str] [rI] (c1 Pu.uh)
def Zl:bN:=bN.nil
def WK:An:={mask:=mk [(3,[0,3,4]),(7,[0,3,4,5])]}
abbrev Fs:SD:=⟨.data false .str::B::B::.data false (.int .u32)::DI::DI::bs 28 [],zs 34 [],.none⟩
def QQ {R:Type}(X:SD.D Fs)(K:Ex→AS→Option R):=Pu.ky (λy0 y1=>ke 2 K Fs ((z1 (w y0 (z1 (u y1))) X.1),X.2)) X.1.1 (q2 X)
def Wd:bU:=eF Fs QQ (λX=>(X.1.2.1,q3 X))
abbrev Fq:SD:=⟨.data false .str::B::B::.data false (.int .u32)::DI::bs 29 [],zs 34 [],.none⟩
def QP {R:Type}(X:SD.D Fq)(K:Ex→AS→Option R):=Pu.mL (λy0 y1=>ke 0 K Fq ((z1 (w y0 (u y1)) X.1),X.2)) X.1.1
def Wc:bU:=eF Fq QP (λX=>(X.1.2.1,q2 X))
def TS:cl:=((cl.nil).add 7 Wd).add 3 Wc
theorem U5:eg E Zl WK TS (aF Tryz.f227 1):=lk Fs QQ (λX=>(X.1.2.1,q3 X)) λX x=>((z1 (w x.1 (z1 (u x.2))) X.1),X.2)
theorem U4:eg E Zl WK TS (aF Tryz.f227 0):=lk Fq QP (λX=>(X.1.2.1,q2 X)) λX x=>((z1 (w x.1 (u x.2)) X.1),X.2)
theorem ag8:aJ Tryz.prog 227 aef:=fk WK base Tryz.func227 (Λ:=TS) (cF U4 (cF U5 nF))
def adu:aN:=aA [pd .str] [rS] (c1 Pu.od)
theorem ab7:aJ Tryz.prog 170 adu:=f0 {} (base.add ag8) Tryz.func170
def T3:aN:=aA [pf bT] [rS,rB] (c1 Pu.kb)
theorem abT:aJ Tryz.prog 111 T3:=f0 {} (((base.add Sc).add ab6).add ab7) Tryz.func111
def acV:aN:=aA [pd (.sl bT)] [(false,(.sl (.own none) .str))] (c1 Pu.pA)
def ae3:bN:=bN.nil.add 111 T3
def aaX:An:={mask:=mk [(3,[3,9,10,11])],mv:=[21,26]}
abbrev E4:SD:=⟨B::B::B::.data false (.sl (.own (some 36864)) .str)::bs 5 (.data false (.sl .arg bT)::DI::DI::bs 15 []),zs 27 [],.none⟩
def P5 {R:Type}(X:SD.D E4)(K:Ex→AS→Option R):=Pu.iR (λy0 y1=>ke 0 K E4 ((w y0 (z2 (u y1)) X.1),X.2)) X.1.2.1 (q2 X)
def Vs:bU:=eF E4 P5 (λX=>(X.1.1,q3 X))
def Xd:cl:=(cl.nil).add 3 Vs
theorem Uj:eg E ae3 aaX Xd (aF Tryz.f103 0):=lk E4 P5 (λX=>(X.1.1,q3 X)) λX x=>((w x.1 (z2 (u x.2)) X.1),X.2)
theorem afS:aJ Tryz.prog 103 acV:=fk aaX (base.add abT) Tryz.func103 (Λ:=Xd) (cF Uj nF)
def acW:aN:=aA [pf bT,pI] [(false,(.sl (.own none) bT))] (c2 Pu.ui)
def ae4:bN:=(bN.nil.add 99 RD).add 167 Yw
def aaY:An:={mask:=mk [(8,[1,2,5,6,7])],merge:=mg [(1,17),(4,30)],mv:=[83,87]}
abbrev E5:SD:=⟨B::DI::.ptr 2 0::B::B::.data false .str::.data false (.sl (.own (some 73728)) bT)::DI::bs 80 [],Z::Z::(some Y0)::zs 85 [],.none⟩
def P6 {R:Type}(X:SD.D E5)(K:Ex→AS→Option R):=Pu.pG (λy0 y1=>ke 0 K E5 ((z2 (w y0 (u y1)) X.1),X.2)) X.1.1 X.1.2.1 X.2.1.1
def Vt:bU:=eF E5 P6 (λX=>(q2 X,q3 X))
def Xe:cl:=(cl.nil).add 8 Vt
theorem Uk:eg E ae4 aaY Xe (aF Tryz.f104 0):=lk E5 P6 (λX=>(q2 X,q3 X)) λX x=>((z2 (w x.1 (u x.2)) X.1),X.2)
theorem afT:aJ Tryz.prog 104 acW:=fk aaY ((base.add zr).add Gi) Tryz.func104 (Λ:=Xe) (cF Uk nF)
def e42:aN:=aA [pf bT,pI] [(false,(.sl (.own none) .str))] (c2 Pu.nd)
theorem o42:aJ Tryz.prog 42 e42:=f0 {} ((base.add afS).add afT) Tryz.func42
def acX:aN:=aA [pd .str] [rS,rB] (c1 Pu.pw)
theorem afV:aJ Tryz.prog 106 acX:=f0 {merge:=mg [(2,17)]} (base.add ab7) Tryz.func106
def aeg:aN:=aA [pd .str,pI] [rI] (c2 Pu.eU)
theorem WS:aJ Tryz.prog 228 aeg:=f0 {merge:=mg [(1,13)]} base Tryz.func228
def aeh:aN:=aA [pd .str,pI] [rI] (c2 Pu.jH)
theorem WT:aJ Tryz.prog 229 aeh:=f0 {merge:=mg [(1,13)]} base Tryz.func229
def adv:aN:=aA [pd .str] [(true,Y8),rB] (c1 Pu.pE)
theorem agw:aJ Tryz.prog 171 adv:=f0 {merge:=mg [(4,33)],sb:=mg [(4,4)]} (((base.add WS).add WT).add acs) Tryz.func171
def adw:aN:=aA [pd .str] [(true,W4),rB] (c1 Pu.qV)
theorem agx:aJ Tryz.prog 172 adw:=f0 {merge:=mg [(2,22),(6,56)],sb:=mg [(5,5)]} (((base.add acr).add WS).add WT) Tryz.func172
def adx:aN:=aA [pI,pI,pI,pd .str] [(true,(.pair (.int .i64) W4)),rB] (c4 Pu.kT)
theorem agy:aJ Tryz.prog 173 adx:=f0 {merge:=mg [(3,20),(9,44),(12,68)]} (((base.add acq).add WS).add WT) Tryz.func173
def acY:aN:=aA [pd .str] [(true,Y0),rI] (c1 Pu.oc)
theorem afW:aJ Tryz.prog 107 acY:=f0 {merge:=mg [(2,20)]} ((((base.add Gi).add agw).add agx).add agy) Tryz.func107
def e44:aN:=aA [pd .str] [(true,Y0),rI] (c1 Pu.iV)
theorem o44:aJ Tryz.prog 44 e44:=f0 {} (((base.add afV).add afW).add Sc) Tryz.func44
def T1:aN:=aA [pd (.sl eh),pI,pf bT] [rI] (c3 Pu.iQ)
theorem WN:aJ Tryz.prog 109 T1:=f0 {merge:=mg [(1,24),(7,54)]} ((((base.add zr).add IM).add Se).add Gi) Tryz.func109
def Yc:aN:=aA [pd (.sl eh),pI,pf bT] [(false,(.sl (.own none) (.int .i64)))] (c3 Pu.g4)
def Za:bN:=((bN.nil.add 109 T1).add 159 OI).add 174 T9
def WC:An:={mask:=mk [(11,[0,1,7,8,33,34]),(17,[0,1,7,11,43,44,45])],merge:=mg [(19,60)],mv:=[37,61,66]}
abbrev Ay:SD:=⟨.data false (.sl .arg eh)::DI::bs 5 (DI::B::B::B::.data false (.sl (.own (some 135168)) (.int .i64))::bs 31 (.data false (.sl .loc (.int .i64))::DI::DI::bs 21 [])),zs 67 [],.none⟩
def MG {R:Type}(X:SD.D Ay)(K:Ex→AS→Option R):=Pu.dI (λy0 y1=>ke 2 K Ay ((z3 (w y0 (z2 (u y1))) X.1),X.2)) X.1.1 X.1.2.1 (q2 X) (q4 X) (q5 X)
def R4:bU:=eF Ay MG (λX=>(q3 X,q6 X))
abbrev Ax:SD:=⟨.data false (.sl .arg eh)::DI::bs 5 (DI::.data false (.sl (.own (some 98304)) (.int .i64))::bs 24 (DI::DI::bs 32 [])),zs 67 [],.none⟩
def MF {R:Type}(X:SD.D Ax)(K:Ex→AS→Option R):=Pu.gF (λy0 y1=>ke 0 K Ax ((z3 (w y0 (z1 (u y1))) X.1),X.2)) X.1.1 X.1.2.1 (q2 X) (q4 X)
def R3:bU:=eF Ax MF (λX=>(q3 X,q5 X))
def TL:cl:=((cl.nil).add 17 R4).add 11 R3
theorem R0:eg E Za WC TL (aF Tryz.f110 1):=lk Ay MG (λX=>(q3 X,q6 X)) λX x=>((z3 (w x.1 (z2 (u x.2))) X.1),X.2)
theorem RZ:eg E Za WC TL (aF Tryz.f110 0):=lk Ax MF (λX=>(q3 X,q5 X)) λX x=>((z3 (w x.1 (z1 (u x.2))) X.1),X.2)
theorem abS:aJ Tryz.prog 110 Yc:=fk WC (((base.add WN).add IM).add ab8) Tryz.func110 (Λ:=TL) (cF RZ (cF R0 nF))
def Yd:aN:=aA [pd (.sl eh),pI,pI,pf bT] [(true,Y0)] (c4 Pu.lO)
theorem afX:aJ Tryz.prog 112 Yd:=f0 {merge:=mg [(1,34)]} ((((base.add zr).add IM).add Se).add Gi) Tryz.func112
def ady:aN:=aA [pf dK,pf bT] [rB] (c2 Pu.qQ)
theorem agz:aJ Tryz.prog 175 ady:=f0 {merge:=mg [(1,4)]} ((base.add IM).add KN) Tryz.func175
def aeX:aN:=aA [pI,pI,pI] [rB] (c3 Pu.kh)
theorem ahM:aJ Tryz.prog 287 aeX:=f0 {} base Tryz.func287
def YP:aN:=aA [pf dk,pf bT] [rB] (c2 Pu.lP)
theorem ahz:aJ Tryz.prog 272 YP:=f0 {merge:=mg [(1,4)]} ((((base.add zr).add Gi).add acC).add ahM) Tryz.func272
def aej:aN:=aA [pd (.sl dk),pf bT] [rI] (c2 Pu.pz)
def afy:bN:=(bN.nil.add 216 Ub).add 272 YP
def abx:An:={mask:=mk [(5,[0,3,5,11,12,13])],merge:=mg [(7,34)]}
abbrev Ft:SD:=⟨.data false (.sl .arg dk)::B::B::.ptr 3 0::B::DI::bs 5 (.data false (.sl .arg dk)::DI::DI::bs 24 []),Z::Z::Z::(some Y0)::zs 34 [],.none⟩
def QR {R:Type}(X:SD.D Ft)(K:Ex→AS→Option R):=Pu.lN (λy0 y1=>ke 0 K Ft ((z1 (w y0 (z2 (u y1))) X.1),X.2)) X.1.1 (q2 X) (q3 X) X.2.1.1
def We:bU:=eF Ft QR (λX=>(X.1.2.1,q4 X))
def XM:cl:=(cl.nil).add 5 We
theorem U6:eg E afy abx XM (aF Tryz.f231 0):=lk Ft QR (λX=>(X.1.2.1,q4 X)) λX x=>((z1 (w x.1 (z2 (u x.2))) X.1),X.2)
theorem ag9:aJ Tryz.prog 231 aej:=fk abx ((base.add acm).add ahz) Tryz.func231 (Λ:=XM) (cF U6 nF)
def aek:aN:=aA [pf (.sl cI),pf iH] [rI] (c2 Pu.py)
theorem aha:aJ Tryz.prog 232 aek:=f0 {} ((base.add acn).add acD) Tryz.func232
def ael:aN:=aA [pf bT] [(true,Ot)] (c1 Pu.qb)
theorem acu:aJ Tryz.prog 233 ael:=f0 {} base Tryz.func233
def Ud:aN:=aA [pd .str,pI] [rI] (c2 Pu.qd)
theorem acI:aJ Tryz.prog 298 Ud:=f0 {} base Tryz.func298
def YY:aN:=aA [pd .str,pI] [rI] (c2 Pu.n8)
def afQ:bN:=(bN.nil.add 99 RD).add 298 Ud
def abP:An:={mask:=mk [(5,[0,1,5,6])],merge:=mg [(1,14)]}
abbrev FF:SD:=⟨.data false .str::DI::B::B::B::DI::DI::bs 22 [],zs 29 [],.none⟩
def Q9 {R:Type}(X:SD.D FF)(K:Ex→AS→Option R):=Pu.kS (λy0 y1=>ke 0 K FF ((z2 (w y0 (u y1)) X.1),X.2)) X.1.1 X.1.2.1
def Ww:bU:=eF FF Q9 (λX=>(q2 X,q3 X))
def X4:cl:=(cl.nil).add 5 Ww
theorem Vo:eg E afQ abP X4 (aF Tryz.f299 0):=lk FF Q9 (λX=>(q2 X,q3 X)) λX x=>((z2 (w x.1 (u x.2)) X.1),X.2)
theorem ahW:aJ Tryz.prog 299 YY:=fk abP ((base.add zr).add acI) Tryz.func299 (Λ:=X4) (cF Vo nF)
def ae1:aN:=aA [pd .str,pd .str] [rI] (c2 Pu.n4)
def afO:bN:=(bN.nil.add 298 Ud).add 299 YY
def abN:An:={mask:=mk [(5,[0,1,5,6])],merge:=mg [(1,14)]}
abbrev FD:SD:=⟨.data false .str::.data false .str::B::B::B::DI::DI::bs 25 [],zs 32 [],.none⟩
def Q7 {R:Type}(X:SD.D FD)(K:Ex→AS→Option R):=Pu.kR (λy0 y1=>ke 0 K FD ((z2 (w y0 (u y1)) X.1),X.2)) X.1.1 X.1.2.1
def Wu:bU:=eF FD Q7 (λX=>(q2 X,q3 X))
def X2:cl:=(cl.nil).add 5 Wu
theorem Vm:eg E afO abN X2 (aF Tryz.f294 0):=lk FD Q7 (λX=>(q2 X,q3 X)) λX x=>((z2 (w x.1 (u x.2)) X.1),X.2)
theorem ahT:aJ Tryz.prog 294 ae1:=fk abN ((base.add acI).add ahW) Tryz.func294 (Λ:=X2) (cF Vm nF)
def ae2:aN:=aA [pf iH] [rS] (c1 Pu.n5)
theorem ahU:aJ Tryz.prog 295 ae2:=f0 {} ((base.add IP).add Pz) Tryz.func295
def aeY:aN:=aA [pd .str,pf iH] [rI] (c2 Pu.pB)
theorem ahN:aJ Tryz.prog 288 aeY:=f0 {} ((base.add ahT).add ahU) Tryz.func288
def aeN:aN:=aA [pf gE,pf iH] [rI] (c2 Pu.qT)
theorem ahA:aJ Tryz.prog 273 aeN:=f0 {merge:=mg [(2,17)]} (base.add ahN) Tryz.func273
def aem:aN:=aA [pf gE,pI,pf iH] [rI] (c3 Pu.lS)
theorem ahb:aJ Tryz.prog 234 aem:=f0 {merge:=mg [(2,18)]} ((base.add aco).add ahA) Tryz.func234
def adz:aN:=aA [pf ed,pI,pf bT] [rI] (c3 Pu.lT)
theorem agA:aJ Tryz.prog 176 adz:=f0 {merge:=mg [(1,17)]} ((((((base.add ab5).add Gi).add ag9).add aha).add acu).add ahb) Tryz.func176
def aen:aN:=aA [pd (.sl bC),pf iH] [rI] (c2 Pu.lU)
def afz:bN:=bN.nil
def aby:An:={mask:=mk [(2,[3,4,7,8,9])]}
abbrev BL:SD:=⟨B::B::B::.ptr 3 0::DI::B::B::.data false (.sl .arg bC)::DI::DI::bs 10 [],Z::Z::Z::(some Ot)::zs 16 [],.none⟩
def QS {R:Type}(X:SD.D BL)(K:Ex→AS→Option R):=Pu.iA (λy0=>ke 0 K BL ((z3 (u y0) X.1),X.2)) (λy0 y1=>kr K BL ((w y0 (z2 (u y1)) X.1),X.2)) X.1.1 X.1.2.1 (q2 X) X.2.1.1
def Wf:bU:=eF BL QS q3
def XN:cl:=(cl.nil).add 2 Wf
theorem U7:eg E afz aby XN (aF Tryz.f235 0):=lk BL QS q3 λX x=>((z3 (u x) X.1),X.2)
theorem ahc:aJ Tryz.prog 235 aen:=fk aby base Tryz.func235 (Λ:=XN) (cF U7 nF)
def adA:aN:=aA [pd (.sl bC),pf bT] [(false,(.sl (.own none) bC))] (c2 Pu.nZ)
theorem agB:aJ Tryz.prog 177 adA:=f0 {merge:=mg [(17,82)],mv:=[16,31,51,58,67,83,132],er:=mg [(115,5)]} ((((((base.add ab2).add Gi).add acu).add ahc).add IP).add acv) Tryz.func177
def Ye:aN:=aA [pf cw,pd .str] [(true,Y6)] (c2 Pu.lQ)
theorem afY:aJ Tryz.prog 113 Ye:=f0 {merge:=mg [(3,35)],mv:=[41]} ((((((base.add o44).add o92).add o94).add agz).add agA).add agB) Tryz.func113
def e45:aN:=aA [pf br,pI,pf bT] [(true,Y2)] (c3 Pu.iU)
def g45:bN:=((((((((bN.nil.add 37 e37).add 38 e38).add 93 e93).add 108 Yb).add 109 T1).add 110 Yc).add 111 T3).add 112 Yd).add 113 Ye
def n45:An:={mask:=mk [(7,[5,6,7,8,10,39,40,41])],merge:=mg [(2,24)],mv:=[25,26,57,76]}
abbrev LJ:SD:=⟨bs 5 (.ptr 5 0::.ptr 6 0::.ptr 7 0::.data false (.sl (.own (some 98304)) eh)::B::DI::bs 28 (.data false (.sl (.own (some 479232)) (.int .i64))::DI::DI::bs 35 [])),zs 5 ((some Y0)::(some Y10)::(some Y9)::zs 69 []),.none⟩
def Th {R:Type}(X:SD.D LJ)(K:Ex→AS→Option R):=Pu.fU (λy0 y1=>ke 0 K LJ ((z4 (u y0) X.1),(z2 (u y1) X.2.1),X.2.2)) X.1.1 X.1.2.1 (q2 X) (q3 X) X.2.1.1 X.2.1.2.1
def aau:bU:=eF LJ Th (λX=>(q4 X,X.2.1.2.2.1))
def L45:cl:=(cl.nil).add 7 aau
theorem ZH:eg E g45 n45 L45 (aF Tryz.f45 0):=lk LJ Th (λX=>(q4 X,X.2.1.2.2.1)) λX x=>((z4 (u x.1) X.1),(z2 (u x.2) X.2.1),X.2.2)
theorem o45:aJ Tryz.prog 45 e45:=fk n45 (((((((((base.add o37).add o38).add o93).add Sc).add WN).add abS).add abT).add afX).add afY) Tryz.func45 (Λ:=L45) (cF ZH nF)
def adt:aN:=aA [pf dW,pI] [(true,Y1),rB] (c2 Pu.lR)
theorem agv:aJ Tryz.prog 169 adt:=f0 {merge:=mg [(1,15)]} ((base.add zr).add WQ) Tryz.func169
def Ya:aN:=aA [pd (.sl ay),pd (.sl eh),pI,pf bT] [(false,(.sl (.own none) ay)),(false,(.sl (.own none) (.int .i64))),rB] (c4 Pu.pF)
theorem afU:aJ Tryz.prog 105 Ya:=f0 {merge:=mg [(2,35),(7,73)],late:=[93],mv:=[36,81],er:=mg [(98,11)]} ((((((((base.add o89).add o96).add zr).add Sc).add WN).add abS).add ab6).add agv) Tryz.func105
def e43:aN:=aA [pf br,pI] [(true,Y2)] (c2 Pu.jM)
def g43:bN:=((((bN.nil.add 37 e37).add 44 e44).add 45 e45).add 93 e93).add 105 Ya
def n43:An:={mask:=mk [(5,[1,4,5,6,32,33,34])],mv:=[17,45,55,64]}
abbrev LI:SD:=⟨B::DI::B::B::.ptr 4 0::.ptr 5 0::.data false (.sl (.own (some 73728)) eh)::bs 25 (.data false (.sl .arg .str)::DI::DI::bs 30 []),zs 4 ((some (.pair (.sl (.own (some 49153)) cw) (.pair (.sl (.own (some 49156)) (.sl .str)) (.pair (.sl (.own (some 49159)) ay) (.pair (.sl (.own (some 49162)) ba) (.sl (.own (some 49165)) .str))))))::(some (.pair (.sl (.own (some 61441)) cw) (.pair (.sl (.own (some 61444)) (.sl .str)) (.pair (.sl (.own (some 61447)) ay) (.pair (.sl (.own (some 61450)) ba) (.sl (.own (some 61453)) .str))))))::zs 59 []),.none⟩
def Tg {R:Type}(X:SD.D LI)(K:Ex→AS→Option R):=Pu.eT (λy0 y1=>ke 0 K LI ((z4 (u y0) X.1),(z1 (u y1) X.2.1),X.2.2)) X.1.1 X.1.2.1 (q2 X) (q3 X) X.2.1.1
def aat:bU:=eF LI Tg (λX=>(q4 X,X.2.1.2.1))
def L43:cl:=(cl.nil).add 5 aat
theorem ZG:eg E g43 n43 L43 (aF Tryz.f43 0):=lk LI Tg (λX=>(q4 X,X.2.1.2.1)) λX x=>((z4 (u x.1) X.1),(z1 (u x.2) X.2.1),X.2.2)
theorem o43:aJ Tryz.prog 43 e43:=fk n43 (((((base.add o37).add o44).add o45).add o93).add afU) Tryz.func43 (Λ:=L43) (cF ZG nF)
def Yf:aN:=aA [pf dW,pI] [(true,Y1)] (c2 Pu.kU)
theorem afZ:aJ Tryz.prog 114 Yf:=f0 {merge:=mg [(1,10)]} ((base.add zr).add WQ) Tryz.func114
def e46:aN:=aA [pd (.sl ay),pI] [(false,(.sl (.own none) ay))] (c2 Pu.jL)
def g46:bN:=(bN.nil.add 89 e89).add 114 Yf
def n46:An:={mask:=mk [(3,[1,5,10,11])],mv:=[26]}
abbrev LL:SD:=⟨B::DI::B::B::B::.data false (.sl (.own (some 61440)) ay)::bs 4 (DI::DI::bs 15 []),zs 27 [],.none⟩
def Ti {R:Type}(X:SD.D LL)(K:Ex→AS→Option R):=Pu.gG (λy0 y1=>ke 0 K LL ((z1 (w y0 (z1 (u y1))) X.1),X.2)) X.1.1 (q2 X)
def aav:bU:=eF LL Ti (λX=>(X.1.2.1,q3 X))
def L46:cl:=(cl.nil).add 3 aav
theorem ZI:eg E g46 n46 L46 (aF Tryz.f46 0):=lk LL Ti (λX=>(X.1.2.1,q3 X)) λX x=>((z1 (w x.1 (z1 (u x.2))) X.1),X.2)
theorem o46:aJ Tryz.prog 46 e46:=fk n46 ((base.add o89).add afZ) Tryz.func46 (Λ:=L46) (cF ZI nF)
def e9:aN:=aA [pf br,pf ft,pI] [(true,Y2)] (c3 Pu.n0)
def g9:bN:=(((((((((bN.nil.add 37 e37).add 38 e38).add 39 e39).add 40 e40).add 41 e41).add 42 e42).add 43 e43).add 44 e44).add 45 e45).add 46 e46
def n9:An:={mask:=mk [(12,[6,7,59,60])],merge:=mg [(2,24)],mv:=[25,32,54,69,84,126],sb:=mg [(77,7)],eb:=mg [(83,7)]}
abbrev LX:SD:=⟨bs 6 (.ptr 6 0::.ptr 7 0::bs 51 (DI::DI::bs 66 [])),zs 6 ((some Y10)::(some Y9)::zs 119 []),.none⟩
def TJ {R:Type}(X:SD.D LX)(K:Ex→AS→Option R):=Pu.iP (λy0 y1=>ke 1 K LX ((z1 (u y0) X.1),(z1 (u y1) X.2.1),X.2.2)) X.1.1 X.2.1.1
def aaW:bU:=eF LX TJ (λX=>(X.1.2.1,X.2.1.2.1))
def L9:cl:=(cl.nil).add 12 aaW
theorem Z9:eg E g9 n9 L9 (aF Tryz.f9 0):=lk LX TJ (λX=>(X.1.2.1,X.2.1.2.1)) λX x=>((z1 (u x.1) X.1),(z1 (u x.2) X.2.1),X.2.2)
theorem o9:aJ Tryz.prog 9 e9:=fk n9 ((((((((((base.add o37).add o38).add o39).add o40).add Xa).add o42).add o43).add o44).add o45).add o46) Tryz.func9 (Λ:=L9) (cF Z9 nF)
def e51:aN:=aA [pd (.sl .str),pd (.sl .str)] [rB] (c2 Pu.iZ)
def g51:bN:=bN.nil
def n51:An:={mask:=mk [(4,[0,1,4,5])]}
abbrev Hm:SD:=⟨.data false (.sl .arg .str)::.data false (.sl .arg .str)::B::B::DB::DI::bs 20 [],zs 26 [],.none⟩
def Tn {R:Type}(X:SD.D Hm)(K:Ex→AS→Option R):=Pu.sO (λy0=>ke 0 K Hm ((z3 (u y0) X.1),X.2)) (λy0 y1=>kr K Hm ((z2 (w y0 (u y1)) X.1),X.2)) X.1.1 X.1.2.1 (q2 X)
def aaA:bU:=eF Hm Tn q3
def L51:cl:=(cl.nil).add 4 aaA
theorem ZN:eg E g51 n51 L51 (aF Tryz.f51 0):=lk Hm Tn q3 λX x=>((z3 (u x) X.1),X.2)
theorem o51:aJ Tryz.prog 51 e51:=fk n51 base Tryz.func51 (Λ:=L51) (cF ZN nF)
def aep:aN:=aA [pd (.sl (.int .i64)),pd (.sl (.int .i64))] [rB] (c2 Pu.sM)
def afA:bN:=bN.nil
def abz:An:={mask:=mk [(4,[0,1,4,5])]}
abbrev BM:SD:=⟨.data false (.sl .arg (.int .i64))::.data false (.sl .arg (.int .i64))::B::B::DB::DI::bs 20 [],zs 26 [],.none⟩
def QT {R:Type}(X:SD.D BM)(K:Ex→AS→Option R):=Pu.vz (λy0=>ke 0 K BM ((z3 (u y0) X.1),X.2)) (λy0 y1=>kr K BM ((z2 (w y0 (u y1)) X.1),X.2)) X.1.1 X.1.2.1 (q2 X)
def Wg:bU:=eF BM QT q3
def XO:cl:=(cl.nil).add 4 Wg
theorem U8:eg E afA abz XO (aF Tryz.f238 0):=lk BM QT q3 λX x=>((z3 (u x) X.1),X.2)
theorem acw:aJ Tryz.prog 238 aep:=fk abz base Tryz.func238 (Λ:=XO) (cF U8 nF)
def adB:aN:=aA [pf dK,pf dK] [rB] (c2 Pu.mR)
theorem ab9:aJ Tryz.prog 178 adB:=f0 {} (base.add acw) Tryz.func178
def YQ:aN:=aA [pf dk,pf dk] [rB] (c2 Pu.qg)
theorem ahB:aJ Tryz.prog 274 YQ:=f0 {} base Tryz.func274
def aeq:aN:=aA [pd (.sl dk),pd (.sl dk)] [rB] (c2 Pu.um)
def afB:bN:=bN.nil.add 274 YQ
def abA:An:={mask:=mk [(4,[0,1,4,5])]}
abbrev BN:SD:=⟨.data false (.sl .arg dk)::.data false (.sl .arg dk)::B::B::DB::DI::bs 21 [],zs 27 [],.none⟩
def QU {R:Type}(X:SD.D BN)(K:Ex→AS→Option R):=Pu.u6 (λy0=>ke 0 K BN ((z3 (u y0) X.1),X.2)) (λy0 y1=>kr K BN ((z2 (w y0 (u y1)) X.1),X.2)) X.1.1 X.1.2.1 (q2 X)
def Wh:bU:=eF BN QU q3
def XP:cl:=(cl.nil).add 4 Wh
theorem U9:eg E afB abA XP (aF Tryz.f239 0):=lk BN QU q3 λX x=>((z3 (u x) X.1),X.2)
theorem ahd:aJ Tryz.prog 239 aeq:=fk abA (base.add ahB) Tryz.func239 (Λ:=XP) (cF U9 nF)
def aeP:aN:=aA [pf iH,pf iH] [rB] (c2 Pu.qf)
theorem acG:aJ Tryz.prog 276 aeP:=f0 {} base Tryz.func276
def YU:aN:=aA [pf cI,pf cI] [rB] (c2 Pu.qh)
theorem ahO:aJ Tryz.prog 289 YU:=f0 {} (base.add acG) Tryz.func289
def aeO:aN:=aA [pd (.sl cI),pd (.sl cI)] [rB] (c2 Pu.uo)
def afI:bN:=bN.nil.add 289 YU
def abH:An:={mask:=mk [(4,[0,1,4,5])]}
abbrev BQ:SD:=⟨.data false (.sl .arg cI)::.data false (.sl .arg cI)::B::B::DB::DI::bs 21 [],zs 27 [],.none⟩
def Q1 {R:Type}(X:SD.D BQ)(K:Ex→AS→Option R):=Pu.u7 (λy0=>ke 0 K BQ ((z3 (u y0) X.1),X.2)) (λy0 y1=>kr K BQ ((z2 (w y0 (u y1)) X.1),X.2)) X.1.1 X.1.2.1 (q2 X)
def Wo:bU:=eF BQ Q1 q3
def XW:cl:=(cl.nil).add 4 Wo
theorem Vg:eg E afI abH XW (aF Tryz.f275 0):=lk BQ Q1 q3 λX x=>((z3 (u x) X.1),X.2)
theorem ahC:aJ Tryz.prog 275 aeO:=fk abH (base.add ahO) Tryz.func275 (Λ:=XW) (cF Vg nF)
def aer:aN:=aA [pf (.sl cI),pf (.sl cI)] [rB] (c2 Pu.lY)
theorem ahe:aJ Tryz.prog 240 aer:=f0 {} (base.add ahC) Tryz.func240
def aes:aN:=aA [pf gE,pf gE] [rB] (c2 Pu.pM)
theorem ahf:aJ Tryz.prog 241 aes:=f0 {} (base.add acw) Tryz.func241
def adC:aN:=aA [pf ed,pf ed] [rB] (c2 Pu.ni)
theorem agC:aJ Tryz.prog 179 adC:=f0 {} (((base.add ahd).add ahe).add ahf) Tryz.func179
def YF:aN:=aA [pf bC,pf bC] [rB] (c2 Pu.mS)
theorem ahg:aJ Tryz.prog 242 YF:=f0 {} (base.add acG) Tryz.func242
def adD:aN:=aA [pd (.sl bC),pd (.sl bC)] [rB] (c2 Pu.rU)
def afl:bN:=bN.nil.add 242 YF
def abj:An:={mask:=mk [(4,[0,1,4,5])]}
abbrev BD:SD:=⟨.data false (.sl .arg bC)::.data false (.sl .arg bC)::B::B::DB::DI::bs 21 [],zs 27 [],.none⟩
def Qy {R:Type}(X:SD.D BD)(K:Ex→AS→Option R):=Pu.sN (λy0=>ke 0 K BD ((z3 (u y0) X.1),X.2)) (λy0 y1=>kr K BD ((z2 (w y0 (u y1)) X.1),X.2)) X.1.1 X.1.2.1 (q2 X)
def VV:bU:=eF BD Qy q3
def Xz:cl:=(cl.nil).add 4 VV
theorem UM:eg E afl abj Xz (aF Tryz.f180 0):=lk BD Qy q3 λX x=>((z3 (u x) X.1),X.2)
theorem agD:aJ Tryz.prog 180 adD:=fk abj (base.add ahg) Tryz.func180 (Λ:=Xz) (cF UM nF)
def Yg:aN:=aA [pf cw,pf cw] [rB] (c2 Pu.qi)
theorem af0:aJ Tryz.prog 115 Yg:=f0 {} ((((base.add o51).add ab9).add agC).add agD) Tryz.func115
def e47:aN:=aA [pd (.sl cw),pd (.sl cw)] [rB] (c2 Pu.uq)
def g47:bN:=bN.nil.add 115 Yg
def n47:An:={mask:=mk [(4,[0,1,4,5])]}
abbrev Hi:SD:=⟨.data false (.sl .arg cw)::.data false (.sl .arg cw)::B::B::DB::DI::bs 21 [],zs 27 [],.none⟩
def Tj {R:Type}(X:SD.D Hi)(K:Ex→AS→Option R):=Pu.u9 (λy0=>ke 0 K Hi ((z3 (u y0) X.1),X.2)) (λy0 y1=>kr K Hi ((z2 (w y0 (u y1)) X.1),X.2)) X.1.1 X.1.2.1 (q2 X)
def aaw:bU:=eF Hi Tj q3
def L47:cl:=(cl.nil).add 4 aaw
theorem ZJ:eg E g47 n47 L47 (aF Tryz.f47 0):=lk Hi Tj q3 λX x=>((z3 (u x) X.1),X.2)
theorem o47:aJ Tryz.prog 47 e47:=fk n47 (base.add af0) Tryz.func47 (Λ:=L47) (cF ZJ nF)
def e48:aN:=aA [pd (.sl (.sl .str)),pd (.sl (.sl .str))] [rB] (c2 Pu.qB)
def g48:bN:=bN.nil.add 51 e51
def n48:An:={mask:=mk [(4,[0,1,4,5])]}
abbrev Hj:SD:=⟨.data false (.sl .arg (.sl .str))::.data false (.sl .arg (.sl .str))::B::B::DB::DI::bs 21 [],zs 27 [],.none⟩
def Tk {R:Type}(X:SD.D Hj)(K:Ex→AS→Option R):=Pu.rV (λy0=>ke 0 K Hj ((z3 (u y0) X.1),X.2)) (λy0 y1=>kr K Hj ((z2 (w y0 (u y1)) X.1),X.2)) X.1.1 X.1.2.1 (q2 X)
def aax:bU:=eF Hj Tk q3
def L48:cl:=(cl.nil).add 4 aax
theorem ZK:eg E g48 n48 L48 (aF Tryz.f48 0):=lk Hj Tk q3 λX x=>((z3 (u x) X.1),X.2)
theorem o48:aJ Tryz.prog 48 e48:=fk n48 (base.add o51) Tryz.func48 (Λ:=L48) (cF ZK nF)
def adE:aN:=aA [pf dW,pf dW] [rB] (c2 Pu.pL)
theorem agE:aJ Tryz.prog 181 adE:=f0 {} base Tryz.func181
def Yh:aN:=aA [pf ay,pf ay] [rB] (c2 Pu.eM)
theorem af1:aJ Tryz.prog 116 Yh:=f0 {} (base.add agE) Tryz.func116
def e49:aN:=aA [pd (.sl ay),pd (.sl ay)] [rB] (c2 Pu.ja)
def g49:bN:=bN.nil.add 116 Yh
def n49:An:={mask:=mk [(4,[0,1,4,5])]}
abbrev Hk:SD:=⟨.data false (.sl .arg ay)::.data false (.sl .arg ay)::B::B::DB::DI::bs 21 [],zs 27 [],.none⟩
def Tl {R:Type}(X:SD.D Hk)(K:Ex→AS→Option R):=Pu.lu (λy0=>ke 0 K Hk ((z3 (u y0) X.1),X.2)) (λy0 y1=>kr K Hk ((z2 (w y0 (u y1)) X.1),X.2)) X.1.1 X.1.2.1 (q2 X)
def aay:bU:=eF Hk Tl q3
def L49:cl:=(cl.nil).add 4 aay
theorem ZL:eg E g49 n49 L49 (aF Tryz.f49 0):=lk Hk Tl q3 λX x=>((z3 (u x) X.1),X.2)
theorem o49:aJ Tryz.prog 49 e49:=fk n49 (base.add af1) Tryz.func49 (Λ:=L49) (cF ZL nF)
def Yi:aN:=aA [pf ba,pf ba] [rB] (c2 Pu.lr)
theorem af2:aJ Tryz.prog 117 Yi:=f0 {} (base.add ab9) Tryz.func117
def e50:aN:=aA [pd (.sl ba),pd (.sl ba)] [rB] (c2 Pu.qA)
def g50:bN:=bN.nil.add 117 Yi
def n50:An:={mask:=mk [(4,[0,1,4,5])]}
abbrev Hl:SD:=⟨.data false (.sl .arg ba)::.data false (.sl .arg ba)::B::B::DB::DI::bs 21 [],zs 27 [],.none⟩
def Tm {R:Type}(X:SD.D Hl)(K:Ex→AS→Option R):=Pu.rT (λy0=>ke 0 K Hl ((z3 (u y0) X.1),X.2)) (λy0 y1=>kr K Hl ((z2 (w y0 (u y1)) X.1),X.2)) X.1.1 X.1.2.1 (q2 X)
def aaz:bU:=eF Hl Tm q3
def L50:cl:=(cl.nil).add 4 aaz
theorem ZM:eg E g50 n50 L50 (aF Tryz.f50 0):=lk Hl Tm q3 λX x=>((z3 (u x) X.1),X.2)
theorem o50:aJ Tryz.prog 50 e50:=fk n50 (base.add af2) Tryz.func50 (Λ:=L50) (cF ZM nF)
def e10:aN:=aA [pf br,pf br] [rB] (c2 Pu.jN)
theorem o10:aJ Tryz.prog 10 e10:=f0 {} (((((base.add o47).add o48).add o49).add o50).add o51) Tryz.func10
def JY:aN:=aA [pI] [rS] (c1 Pu.cc)
def ae5:bN:=bN.nil
def aa2:An:={mask:=mk [(4,[0,3])]}
abbrev E9:SD:=⟨DI::B::B::.data false .str::bs 16 [],zs 20 [],.none⟩
def Qa {R:Type}(X:SD.D E9)(K:Ex→AS→Option R):=Pu.l6 (λy0 y1=>ke 0 K E9 ((w y0 (u y1) X.1),X.2))
def Vx:bU:=eF E9 Qa (λX=>(X.1.1,X.1.2.1))
def Xi:cl:=(cl.nil).add 4 Vx
theorem Uo:eg E ae5 aa2 Xi (aF Tryz.f121 0):=lk E9 Qa (λX=>(X.1.1,X.1.2.1)) λX x=>((w x.1 (u x.2) X.1),X.2)
theorem NI:aJ Tryz.prog 121 JY:=fk aa2 base Tryz.func121 (Λ:=Xi) (cF Uo nF)
def e56:aN:=uX (.sl .str) false [pI] [rI] λx a=>Pu.gv x a.1
def g56:bN:=bN.nil.add 121 JY
def n56:An:={mask:=mk [(2,[0,1,5])]}
abbrev LQ:SD:=⟨.data false (.sl (.lio 0 12288036864) .str)::DI::B::B::B::DI::bs 14 [],zs 20 [],.some (.sl (.own (some 12288036864)) .str)⟩
def Ts {R:Type}(X:SD.D LQ)(K:Ex→AS→Option R):=Pu.fW (λy0 y1 y2 y3=>ke 0 K LQ ((w y0 (w y1 (u y2)) X.1),X.2.1,y3))
def aaF:bU:=eF LQ Ts (λX=>(X.1.1,X.1.2.1,q2 X,X.2.2))
def L56:cl:=(cl.nil).add 2 aaF
theorem ZS:eg E g56 n56 L56 (aF Tryz.f56 0):=lk LQ Ts (λX=>(X.1.1,X.1.2.1,q2 X,X.2.2)) λX x=>((w x.1 (w x.2.1 (u x.2.2.1)) X.1),X.2.1,x.2.2.2)
theorem o56:aJ Tryz.prog 56 e56:=aJ.Dw (Dh (Γ:=g56) (an:=n56) (Λ:=L56) (base.add NI) Tryz.func56 (by kernel_rfl) (ao (cF ZS nF))) (λx a=>by kernel_rfl)
def T4:aN:=uX (.sl (.int .i64)) false [pI] [rI] λx a=>Pu.gj x a.1
def Zb:bN:=bN.nil
def aaZ:An:={mask:=mk [(2,[0,1,5])]}
abbrev E6:SD:=⟨.data false (.sl (.lio 0 12288036864) (.int .i64))::DI::B::B::B::DI::bs 13 [],zs 19 [],.some (.sl (.own (some 12288036864)) (.int .i64))⟩
def P7 {R:Type}(X:SD.D E6)(K:Ex→AS→Option R):=Pu.jd (λy0 y1 y2 y3=>ke 0 K E6 ((w y0 (w y1 (u y2)) X.1),X.2.1,y3))
def Vu:bU:=eF E6 P7 (λX=>(X.1.1,X.1.2.1,q2 X,X.2.2))
def Xf:cl:=(cl.nil).add 2 Vu
theorem Ul:eg E Zb aaZ Xf (aF Tryz.f118 0):=lk E6 P7 (λX=>(X.1.1,X.1.2.1,q2 X,X.2.2)) λX x=>((w x.1 (w x.2.1 (u x.2.2.1)) X.1),X.2.1,x.2.2.2)
theorem abU:aJ Tryz.prog 118 T4:=aJ.Dw (Dh (Γ:=Zb) (an:=aaZ) (Λ:=Xf) (base) Tryz.func118 (by kernel_rfl) (ao (cF Ul nF))) (λx a=>by kernel_rfl)
def Yj:aN:=uX (.sl dk) false [pI] [rI] λx a=>Pu.oA x a.1
def Zc:bN:=bN.nil
def aa0:An:={mask:=mk [(2,[0,1,5])]}
abbrev E7:SD:=⟨.data false (.sl (.lio 0 12288036864) dk)::DI::B::B::B::DI::bs 70 [],zs 76 [],.some (.sl (.own (some 12288036864)) dk)⟩
def P8 {R:Type}(X:SD.D E7)(K:Ex→AS→Option R):=Pu.oB (λy0 y1 y2 y3=>ke 0 K E7 ((w y0 (w y1 (u y2)) X.1),X.2.1,y3))
def Vv:bU:=eF E7 P8 (λX=>(X.1.1,X.1.2.1,q2 X,X.2.2))
def Xg:cl:=(cl.nil).add 2 Vv
theorem Um:eg E Zc aa0 Xg (aF Tryz.f119 0):=lk E7 P8 (λX=>(X.1.1,X.1.2.1,q2 X,X.2.2)) λX x=>((w x.1 (w x.2.1 (u x.2.2.1)) X.1),X.2.1,x.2.2.2)
theorem af3:aJ Tryz.prog 119 Yj:=aJ.Dw (Dh (Γ:=Zc) (an:=aa0) (Λ:=Xg) (base) Tryz.func119 (by kernel_rfl) (ao (cF Um nF))) (λx a=>by kernel_rfl)
def Yk:aN:=uX (.sl cI) false [pI] [rI] λx a=>Pu.oC x a.1
def Zd:bN:=bN.nil
def aa1:An:={mask:=mk [(2,[0,1,5])]}
abbrev E8:SD:=⟨.data false (.sl (.lio 0 12288036864) cI)::DI::B::B::B::DI::bs 61 [],zs 67 [],.some (.sl (.own (some 12288036864)) cI)⟩
def P9 {R:Type}(X:SD.D E8)(K:Ex→AS→Option R):=Pu.oD (λy0 y1 y2 y3=>ke 0 K E8 ((w y0 (w y1 (u y2)) X.1),X.2.1,y3))
def Vw:bU:=eF E8 P9 (λX=>(X.1.1,X.1.2.1,q2 X,X.2.2))
def Xh:cl:=(cl.nil).add 2 Vw
theorem Un:eg E Zd aa1 Xh (aF Tryz.f120 0):=lk E8 P9 (λX=>(X.1.1,X.1.2.1,q2 X,X.2.2)) λX x=>((w x.1 (w x.2.1 (u x.2.2.1)) X.1),X.2.1,x.2.2.2)
theorem af4:aJ Tryz.prog 120 Yk:=aJ.Dw (Dh (Γ:=Zd) (an:=aa1) (Λ:=Xh) (base) Tryz.func120 (by kernel_rfl) (ao (cF Un nF))) (λx a=>by kernel_rfl)
def Yl:aN:=uX (.sl bC) false [pI] [rI] λx a=>Pu.l0 x a.1
def Ze:bN:=bN.nil.add 121 JY
def aa3:An:={mask:=mk [(2,[0,1,5])]}
abbrev Fa:SD:=⟨.data false (.sl (.lio 0 12288036864) bC)::DI::B::B::B::DI::bs 71 [],zs 77 [],.some (.sl (.own (some 12288036864)) bC)⟩
def Qb {R:Type}(X:SD.D Fa)(K:Ex→AS→Option R):=Pu.mD (λy0 y1 y2 y3=>ke 0 K Fa ((w y0 (w y1 (u y2)) X.1),X.2.1,y3))
def Vy:bU:=eF Fa Qb (λX=>(X.1.1,X.1.2.1,q2 X,X.2.2))
def Xj:cl:=(cl.nil).add 2 Vy
theorem Up:eg E Ze aa3 Xj (aF Tryz.f122 0):=lk Fa Qb (λX=>(X.1.1,X.1.2.1,q2 X,X.2.2)) λX x=>((w x.1 (w x.2.1 (u x.2.2.1)) X.1),X.2.1,x.2.2.2)
theorem af5:aJ Tryz.prog 122 Yl:=aJ.Dw (Dh (Γ:=Ze) (an:=aa3) (Λ:=Xj) (base.add NI) Tryz.func122 (by kernel_rfl) (ao (cF Up nF))) (λx a=>by kernel_rfl)
def e52:aN:=uX (.sl cw) false [pI] [rI] λx a=>Pu.rY x a.1
def g52:bN:=(((((bN.nil.add 56 e56).add 118 T4).add 119 Yj).add 120 Yk).add 121 JY).add 122 Yl
def n52:An:={mask:=mk [(2,[0,1,5])],nest:=[35,43,52,71,85,92]}
abbrev LM:SD:=⟨.data false (.sl (.lio 0 12288036864) cw)::DI::B::B::B::DI::bs 90 [],zs 96 [],.some (.sl (.own (some 12288036864)) cw)⟩
def To {R:Type}(X:SD.D LM)(K:Ex→AS→Option R):=Pu.oE (λy0 y1 y2 y3=>ke 0 K LM ((w y0 (w y1 (u y2)) X.1),X.2.1,y3))
def aaB:bU:=eF LM To (λX=>(X.1.1,X.1.2.1,q2 X,X.2.2))
def L52:cl:=(cl.nil).add 2 aaB
theorem ZO:eg E g52 n52 L52 (aF Tryz.f52 0):=lk LM To (λX=>(X.1.1,X.1.2.1,q2 X,X.2.2)) λX x=>((w x.1 (w x.2.1 (u x.2.2.1)) X.1),X.2.1,x.2.2.2)
theorem o52:aJ Tryz.prog 52 e52:=aJ.Dw (Dh (Γ:=g52) (an:=n52) (Λ:=L52) ((((((base.add o56).add abU).add af3).add af4).add NI).add af5) Tryz.func52 (by kernel_rfl) (ao (cF ZO nF))) (λx a=>by kernel_rfl)
def e53:aN:=uX (.sl (.sl .str)) false [pI] [rI] λx a=>Pu.oF x a.1
def g53:bN:=bN.nil.add 56 e56
def n53:An:={mask:=mk [(2,[0,1,5])],nest:=[15]}
abbrev LN:SD:=⟨.data false (.sl (.lio 0 12288036864) (.sl .str))::DI::B::B::B::DI::bs 13 [],zs 19 [],.some (.sl (.own (some 12288036864)) (.sl .str))⟩
def Tp {R:Type}(X:SD.D LN)(K:Ex→AS→Option R):=Pu.fC (λy0 y1 y2 y3=>ke 0 K LN ((w y0 (w y1 (u y2)) X.1),X.2.1,y3))
def aaC:bU:=eF LN Tp (λX=>(X.1.1,X.1.2.1,q2 X,X.2.2))
def L53:cl:=(cl.nil).add 2 aaC
theorem ZP:eg E g53 n53 L53 (aF Tryz.f53 0):=lk LN Tp (λX=>(X.1.1,X.1.2.1,q2 X,X.2.2)) λX x=>((w x.1 (w x.2.1 (u x.2.2.1)) X.1),X.2.1,x.2.2.2)
theorem o53:aJ Tryz.prog 53 e53:=aJ.Dw (Dh (Γ:=g53) (an:=n53) (Λ:=L53) (base.add o56) Tryz.func53 (by kernel_rfl) (ao (cF ZP nF))) (λx a=>by kernel_rfl)
def e54:aN:=uX (.sl ay) false [pI] [rI] λx a=>Pu.gP x a.1
def g54:bN:=bN.nil
def n54:An:={mask:=mk [(2,[0,1,5])]}
abbrev LO:SD:=⟨.data false (.sl (.lio 0 12288036864) ay)::DI::B::B::B::DI::bs 68 [],zs 74 [],.some (.sl (.own (some 12288036864)) ay)⟩
def Tq {R:Type}(X:SD.D LO)(K:Ex→AS→Option R):=Pu.fN (λy0 y1 y2 y3=>ke 0 K LO ((w y0 (w y1 (u y2)) X.1),X.2.1,y3))
def aaD:bU:=eF LO Tq (λX=>(X.1.1,X.1.2.1,q2 X,X.2.2))
def L54:cl:=(cl.nil).add 2 aaD
theorem ZQ:eg E g54 n54 L54 (aF Tryz.f54 0):=lk LO Tq (λX=>(X.1.1,X.1.2.1,q2 X,X.2.2)) λX x=>((w x.1 (w x.2.1 (u x.2.2.1)) X.1),X.2.1,x.2.2.2)
theorem o54:aJ Tryz.prog 54 e54:=aJ.Dw (Dh (Γ:=g54) (an:=n54) (Λ:=L54) (base) Tryz.func54 (by kernel_rfl) (ao (cF ZQ nF))) (λx a=>by kernel_rfl)
def e55:aN:=uX (.sl ba) false [pI] [rI] λx a=>Pu.oz x a.1
def g55:bN:=bN.nil.add 118 T4
def n55:An:={mask:=mk [(2,[0,1,5])],nest:=[35]}
abbrev LP:SD:=⟨.data false (.sl (.lio 0 12288036864) ba)::DI::B::B::B::DI::bs 54 [],zs 60 [],.some (.sl (.own (some 12288036864)) ba)⟩
def Tr {R:Type}(X:SD.D LP)(K:Ex→AS→Option R):=Pu.ly (λy0 y1 y2 y3=>ke 0 K LP ((w y0 (w y1 (u y2)) X.1),X.2.1,y3))
def aaE:bU:=eF LP Tr (λX=>(X.1.1,X.1.2.1,q2 X,X.2.2))
def L55:cl:=(cl.nil).add 2 aaE
theorem ZR:eg E g55 n55 L55 (aF Tryz.f55 0):=lk LP Tr (λX=>(X.1.1,X.1.2.1,q2 X,X.2.2)) λX x=>((w x.1 (w x.2.1 (u x.2.2.1)) X.1),X.2.1,x.2.2.2)
theorem o55:aJ Tryz.prog 55 e55:=aJ.Dw (Dh (Γ:=g55) (an:=n55) (Λ:=L55) (base.add abU) Tryz.func55 (by kernel_rfl) (ao (cF ZR nF))) (λx a=>by kernel_rfl)
def e11:aN:=uX br true [pI] [rI] λx a=>Pu.lx x a.1
theorem o11:aJ Tryz.prog 11 e11:=aJ.Dw (Dh (an:={}) (Λ:=cl.nil) (((((base.add o52).add o53).add o54).add o55).add o56) Tryz.func11 (by kernel_rfl) (ao nF)) (λx a=>by kernel_rfl)
def e61:aN:=aA [pd (.sl .str),pI] [rI] (c2 Pu.gu)
def g61:bN:=bN.nil.add 121 JY
def n61:An:={mask:=mk [(2,[0,1,4,5])]}
abbrev Hr:SD:=⟨.data false (.sl .arg .str)::DI::B::B::DI::DI::bs 16 [],zs 22 [],.none⟩
def Tx {R:Type}(X:SD.D Hr)(K:Ex→AS→Option R):=Pu.fV (λy0 y1=>ke 0 K Hr ((z1 (w y0 (z1 (u y1))) X.1),X.2)) (λy0 y1 y2=>kr K Hr ((z1 (w y0 (w y1 (u y2))) X.1),X.2)) X.1.1 (q2 X)
def aaK:bU:=eF Hr Tx (λX=>(X.1.2.1,q3 X))
def L61:cl:=(cl.nil).add 2 aaK
theorem ZX:eg E g61 n61 L61 (aF Tryz.f61 0):=lk Hr Tx (λX=>(X.1.2.1,q3 X)) λX x=>((z1 (w x.1 (z1 (u x.2))) X.1),X.2)
theorem o61:aJ Tryz.prog 61 e61:=fk n61 (base.add NI) Tryz.func61 (Λ:=L61) (cF ZX nF)
def T5:aN:=aA [pd (.sl (.int .i64)),pI] [rI] (c2 Pu.gi)
def ae6:bN:=bN.nil
def aa4:An:={mask:=mk [(2,[0,1,4,5])]}
abbrev Bk:SD:=⟨.data false (.sl .arg (.int .i64))::DI::B::B::DI::DI::bs 15 [],zs 21 [],.none⟩
def Qc {R:Type}(X:SD.D Bk)(K:Ex→AS→Option R):=Pu.jc (λy0 y1=>ke 0 K Bk ((z1 (w y0 (z1 (u y1))) X.1),X.2)) (λy0 y1 y2=>kr K Bk ((z1 (w y0 (w y1 (u y2))) X.1),X.2)) X.1.1 (q2 X)
def Vz:bU:=eF Bk Qc (λX=>(X.1.2.1,q3 X))
def Xk:cl:=(cl.nil).add 2 Vz
theorem Uq:eg E ae6 aa4 Xk (aF Tryz.f123 0):=lk Bk Qc (λX=>(X.1.2.1,q3 X)) λX x=>((z1 (w x.1 (z1 (u x.2))) X.1),X.2)
theorem abV:aJ Tryz.prog 123 T5:=fk aa4 base Tryz.func123 (Λ:=Xk) (cF Uq nF)
def Ym:aN:=aA [pd (.sl dk),pI] [rI] (c2 Pu.ot)
def ae7:bN:=bN.nil
def aa5:An:={mask:=mk [(2,[0,1,4,5])]}
abbrev Bl:SD:=⟨.data false (.sl .arg dk)::DI::B::B::DI::DI::bs 88 [],zs 94 [],.none⟩
def Qd {R:Type}(X:SD.D Bl)(K:Ex→AS→Option R):=Pu.ou (λy0 y1=>ke 0 K Bl ((z1 (w y0 (z1 (u y1))) X.1),X.2)) (λy0 y1 y2=>kr K Bl ((z1 (w y0 (w y1 (u y2))) X.1),X.2)) X.1.1 (q2 X)
def VA:bU:=eF Bl Qd (λX=>(X.1.2.1,q3 X))
def Xl:cl:=(cl.nil).add 2 VA
theorem Ur:eg E ae7 aa5 Xl (aF Tryz.f124 0):=lk Bl Qd (λX=>(X.1.2.1,q3 X)) λX x=>((z1 (w x.1 (z1 (u x.2))) X.1),X.2)
theorem af6:aJ Tryz.prog 124 Ym:=fk aa5 base Tryz.func124 (Λ:=Xl) (cF Ur nF)
def Yn:aN:=aA [pd (.sl cI),pI] [rI] (c2 Pu.ov)
def ae8:bN:=bN.nil
def aa6:An:={mask:=mk [(2,[0,1,4,5])]}
abbrev Bm:SD:=⟨.data false (.sl .arg cI)::DI::B::B::DI::DI::bs 75 [],zs 81 [],.none⟩
def Qe {R:Type}(X:SD.D Bm)(K:Ex→AS→Option R):=Pu.ow (λy0 y1=>ke 0 K Bm ((z1 (w y0 (z1 (u y1))) X.1),X.2)) (λy0 y1 y2=>kr K Bm ((z1 (w y0 (w y1 (u y2))) X.1),X.2)) X.1.1 (q2 X)
def VB:bU:=eF Bm Qe (λX=>(X.1.2.1,q3 X))
def Xm:cl:=(cl.nil).add 2 VB
theorem Us:eg E ae8 aa6 Xm (aF Tryz.f125 0):=lk Bm Qe (λX=>(X.1.2.1,q3 X)) λX x=>((z1 (w x.1 (z1 (u x.2))) X.1),X.2)
theorem af7:aJ Tryz.prog 125 Yn:=fk aa6 base Tryz.func125 (Λ:=Xm) (cF Us nF)
def Yo:aN:=aA [pd (.sl bC),pI] [rI] (c2 Pu.lZ)
def ae9:bN:=bN.nil.add 121 JY
def aa7:An:={mask:=mk [(2,[0,1,4,5])]}
abbrev Bn:SD:=⟨.data false (.sl .arg bC)::DI::B::B::DI::DI::bs 87 [],zs 93 [],.none⟩
def Qf {R:Type}(X:SD.D Bn)(K:Ex→AS→Option R):=Pu.mC (λy0 y1=>ke 0 K Bn ((z1 (w y0 (z1 (u y1))) X.1),X.2)) (λy0 y1 y2=>kr K Bn ((z1 (w y0 (w y1 (u y2))) X.1),X.2)) X.1.1 (q2 X)
def VC:bU:=eF Bn Qf (λX=>(X.1.2.1,q3 X))
def Xn:cl:=(cl.nil).add 2 VC
theorem Ut:eg E ae9 aa7 Xn (aF Tryz.f126 0):=lk Bn Qf (λX=>(X.1.2.1,q3 X)) λX x=>((z1 (w x.1 (z1 (u x.2))) X.1),X.2)
theorem af8:aJ Tryz.prog 126 Yo:=fk aa7 (base.add NI) Tryz.func126 (Λ:=Xn) (cF Ut nF)
def e57:aN:=aA [pd (.sl cw),pI] [rI] (c2 Pu.rX)
def g57:bN:=(((((bN.nil.add 61 e61).add 121 JY).add 123 T5).add 124 Ym).add 125 Yn).add 126 Yo
def n57:An:={mask:=mk [(2,[0,1,4,5])]}
abbrev Hn:SD:=⟨.data false (.sl .arg cw)::DI::B::B::DI::DI::bs 110 [],zs 116 [],.none⟩
def Tt {R:Type}(X:SD.D Hn)(K:Ex→AS→Option R):=Pu.ox (λy0 y1=>ke 0 K Hn ((z1 (w y0 (z1 (u y1))) X.1),X.2)) (λy0 y1 y2=>kr K Hn ((z1 (w y0 (w y1 (u y2))) X.1),X.2)) X.1.1 (q2 X)
def aaG:bU:=eF Hn Tt (λX=>(X.1.2.1,q3 X))
def L57:cl:=(cl.nil).add 2 aaG
theorem ZT:eg E g57 n57 L57 (aF Tryz.f57 0):=lk Hn Tt (λX=>(X.1.2.1,q3 X)) λX x=>((z1 (w x.1 (z1 (u x.2))) X.1),X.2)
theorem o57:aJ Tryz.prog 57 e57:=fk n57 ((((((base.add o61).add NI).add abV).add af6).add af7).add af8) Tryz.func57 (Λ:=L57) (cF ZT nF)
def e58:aN:=aA [pd (.sl (.sl .str)),pI] [rI] (c2 Pu.oy)
def g58:bN:=bN.nil.add 61 e61
def n58:An:={mask:=mk [(2,[0,1,4,5])]}
abbrev Ho:SD:=⟨.data false (.sl .arg (.sl .str))::DI::B::B::DI::DI::bs 15 [],zs 21 [],.none⟩
def Tu {R:Type}(X:SD.D Ho)(K:Ex→AS→Option R):=Pu.fB (λy0 y1=>ke 0 K Ho ((z1 (w y0 (z1 (u y1))) X.1),X.2)) (λy0 y1 y2=>kr K Ho ((z1 (w y0 (w y1 (u y2))) X.1),X.2)) X.1.1 (q2 X)
def aaH:bU:=eF Ho Tu (λX=>(X.1.2.1,q3 X))
def L58:cl:=(cl.nil).add 2 aaH
theorem ZU:eg E g58 n58 L58 (aF Tryz.f58 0):=lk Ho Tu (λX=>(X.1.2.1,q3 X)) λX x=>((z1 (w x.1 (z1 (u x.2))) X.1),X.2)
theorem o58:aJ Tryz.prog 58 e58:=fk n58 (base.add o61) Tryz.func58 (Λ:=L58) (cF ZU nF)
def e59:aN:=aA [pd (.sl ay),pI] [rI] (c2 Pu.gO)
def g59:bN:=bN.nil
def n59:An:={mask:=mk [(2,[0,1,4,5])]}
abbrev Hp:SD:=⟨.data false (.sl .arg ay)::DI::B::B::DI::DI::bs 84 [],zs 90 [],.none⟩
def Tv {R:Type}(X:SD.D Hp)(K:Ex→AS→Option R):=Pu.fM (λy0 y1=>ke 0 K Hp ((z1 (w y0 (z1 (u y1))) X.1),X.2)) (λy0 y1 y2=>kr K Hp ((z1 (w y0 (w y1 (u y2))) X.1),X.2)) X.1.1 (q2 X)
def aaI:bU:=eF Hp Tv (λX=>(X.1.2.1,q3 X))
def L59:cl:=(cl.nil).add 2 aaI
theorem ZV:eg E g59 n59 L59 (aF Tryz.f59 0):=lk Hp Tv (λX=>(X.1.2.1,q3 X)) λX x=>((z1 (w x.1 (z1 (u x.2))) X.1),X.2)
theorem o59:aJ Tryz.prog 59 e59:=fk n59 base Tryz.func59 (Λ:=L59) (cF ZV nF)
def e60:aN:=aA [pd (.sl ba),pI] [rI] (c2 Pu.oq)
def g60:bN:=bN.nil.add 123 T5
def n60:An:={mask:=mk [(2,[0,1,4,5])]}
abbrev Hq:SD:=⟨.data false (.sl .arg ba)::DI::B::B::DI::DI::bs 66 [],zs 72 [],.none⟩
def Tw {R:Type}(X:SD.D Hq)(K:Ex→AS→Option R):=Pu.lv (λy0 y1=>ke 0 K Hq ((z1 (w y0 (z1 (u y1))) X.1),X.2)) (λy0 y1 y2=>kr K Hq ((z1 (w y0 (w y1 (u y2))) X.1),X.2)) X.1.1 (q2 X)
def aaJ:bU:=eF Hq Tw (λX=>(X.1.2.1,q3 X))
def L60:cl:=(cl.nil).add 2 aaJ
theorem ZW:eg E g60 n60 L60 (aF Tryz.f60 0):=lk Hq Tw (λX=>(X.1.2.1,q3 X)) λX x=>((z1 (w x.1 (z1 (u x.2))) X.1),X.2)
theorem o60:aJ Tryz.prog 60 e60:=fk n60 (base.add abV) Tryz.func60 (Λ:=L60) (cF ZW nF)
def e12:aN:=aA [pf br,pI] [rI] (c2 Pu.jb)
theorem o12:aJ Tryz.prog 12 e12:=f0 {} (((((base.add o57).add o58).add o59).add o60).add o61) Tryz.func12
abbrev kL:List PS:=[pf br,pf ft,pI]
def o3:aN:=aA kL [rB] (c3 Pu.mB)
theorem vj:aJ Tryz.prog 3 o3:=f0 {merge:=mg [(17,57)],sb:=mg [(8,8),(10,10),(14,14)]} (((((((((base.add o4).add o5).add o6).add o7).add o8).add o9).add o10).add o11).add o12) Tryz.func3
end
end Go.Proofs.YtjoicgadhgkphaaGreat.Fn
