import Derived.Test.YtpgnehchfeikmaaGreatDnSig
import Derived.Test.YtpgnehchfeikmaaGreatPure
import Derived.Test.YtpgnehchfeikmaaGreatRows
/- Each function of the program is its pure function (made by gen.py). -/
namespace Go.Proofs.YtpgnehchfeikmaaGreat.Fn
open Go.Dn
open Go.Pu (dU nE YI rE uR tF kl yW PJ bX Kd ma nH jk lU nG G8 Nv gP iE dB kN aY cB wL Vp dk km fM rF eU tY Nw Uj Mg)
set_option maxRecDepth 100000
set_option linter.unusedVariables false
noncomputable section
abbrev B:PD:=.bot
abbrev DI:PD:=.data false (.int .i64)
abbrev DB:PD:=.data false .bool
abbrev Z:Option FT:=none
theorem nF {p:Code→Prop}:∀x∈([]:List Code),p x:=λ_ h=>nomatch h
theorem cF {p:Code→Prop}{a:Code}{l:List Code}(h:p a)(t:∀x∈l,p x):∀x∈a::l,p x:=List.forall_mem_cons.2 ⟨h,t⟩
theorem hF {p:Code→Prop}{l m:List Code}(e:l=m)(h:∀x∈m,p x):∀x∈l,p x:=e▸h
theorem fk {P:Program}{E:Env}{Γ:cG}{s:List PS}{rs:List (Bool×FT)}{F:vf s→Option (gB rs)}{f:Nat}{fn:Func}(an:An)(hS:Sound P E Γ)(hf:P.funcs[f]?=some fn){Λ:cY}{l:List Code}(h:∀c∈l,fU E Γ an Λ c)(hn:(fn.name== "runtime.NumGoroutine")=false:=by kernel_rfl)(hl:fw (fn.body.getD .skip)=l:=by kernel_rfl)(hcut:an.cut=[]:=by kernel_rfl)(hF:∀a,Cc E Γ an Λ fn rs (gI s a)=F a:=by intro a;kernel_rfl):aU P f (aN s rs F):=aU.of (VK hS hf hn (tE.of (Fn.hF hl h) hcut)) hF
theorem ao {E:Env}{Γ:cG}{an:An}{Λ:cY}{b:Code}{l:List Code}(h:∀c∈l,fU E Γ an Λ c)(hl:fw b=l:=by kernel_rfl)(hc:an.cut=[]:=by kernel_rfl):tE E Γ an Λ b:=tE.of (Fn.hF hl h) hc
theorem ac {E:Env}{Γ:cG}{an:An}{Λ:cY}{b:Code}{l m:List Code}(h:∀c∈l,fU E Γ an Λ c)(hc:∀c∈m,yU E Γ an Λ c)(hl:fw b=l:=by kernel_rfl)(hm:gz an.cut b=m:=by kernel_rfl):tE E Γ an Λ b:=⟨Fn.hF hl h,Fn.hF hm hc⟩
theorem fc {P:Program}{E:Env}{Γ:cG}{s:List PS}{rs:List (Bool×FT)}{F:vf s→Option (gB rs)}{f:Nat}{fn:Func}(an:An)(hS:Sound P E Γ)(hf:P.funcs[f]?=some fn){Λ:cY}{l m:List Code}(h:∀c∈l,fU E Γ an Λ c)(hc:∀c∈m,yU E Γ an Λ c)(hn:(fn.name== "runtime.NumGoroutine")=false:=by kernel_rfl)(hl:fw (fn.body.getD .skip)=l:=by kernel_rfl)(hm:gz an.cut (fn.body.getD .skip)=m:=by kernel_rfl)(hF:∀a,Cc E Γ an Λ fn rs (gI s a)=F a:=by intro a;kernel_rfl):aU P f (aN s rs F):=aU.of (VK hS hf hn ⟨Fn.hF hl h,Fn.hF hm hc⟩) hF
abbrev pd (t:CT):PS:=.data false t
abbrev pf (t:CT):PS:=.data true t
abbrev pI:PS:=.data false (.int .i64)
abbrev rB:Bool×FT:=(false,.bool)
abbrev rI:Bool×FT:=(false,.int .i64)
abbrev rS:Bool×FT:=(false,.str)
abbrev bs:Nat→List PD→List PD|0,l=>l|n+1,l=> .bot::bs n l
abbrev zs:Nat→List (Option FT)→List (Option FT)|0,l=>l|n+1,l=>none::zs n l
def mk (l:List (Nat×List Nat))(n:Nat):List Nat:=(l.lookup n).getD []
def mg (l:List (Nat×Nat))(n:Nat):Option Nat:=l.lookup n
def ke {R:Type}(n:Nat)(K:Ex→AS→Option R)(d:SD)(x:SD.D d):Option R:=K (.exit n) (SD.enc d x)
def kn {R:Type}(K:Ex→AS→Option R)(d:SD)(x:SD.D d):Option R:=K .normal (SD.enc d x)
def kr {R:Type}(K:Ex→AS→Option R)(d:SD)(x:SD.D d):Option R:=K .ret (SD.enc d x)
def gw {σ:Type}(d:SD)(t:{R:Type}→SD.D d→(Ex→AS→Option R)→(σ→Option R)→σ→Option R)(i:SD.D d→σ):cm:=⟨d,λX K=>aZ (t X K) fuel (i X)⟩
theorem lk {E:Env}{Γ:cG}{an:An}{Λ:cY}{c:Code}{σ:Type}(d:SD)(t:{R:Type}→SD.D d→(Ex→AS→Option R)→(σ→Option R)→σ→Option R)(i:SD.D d→σ)(w:SD.D d→σ→SD.D d)(h1:Λ (dz c)=gw d t i:=by kernel_rfl)(h:∀(R:Type)(X:SD.D d)(K:Ex→AS→Option R)(m:Nat)(x:σ),u1 (an.mask (dz c)) (den E Γ an Λ c) (m+1) (SD.enc d (w X x)) K=t X K (λy=>u1 (an.mask (dz c)) (den E Γ an Λ c) m (SD.enc d (w X y)) K) x:=by intro R X K m x;kernel_rfl)(hw:∀X,w X (i X)=X:=by intro X;kernel_rfl):fU E Γ an Λ c:=lok (gw d t i) h1 fuel λR X K=>(EJ (λx=>SD.enc d (w X x)) (t X K) (h R X K) fuel (i X)).symm.trans (congrArg (λy=>u1 (an.mask (dz c)) (den E Γ an Λ c) fuel (SD.enc d y) K) (hw X))
def Bg (d:SD)(t:{R:Type}→SD.D d→(Ex→AS→Option R)→Option R):cm:=⟨d,λX K=>t X K⟩
theorem ck {E:Env}{Γ:cG}{an:An}{Λ:cY}{c:Code}(d:SD)(t:{R:Type}→SD.D d→(Ex→AS→Option R)→Option R)(h1:Λ (vj c)=Bg d t:=by kernel_rfl)(h:∀(R:Type)(X:SD.D d)(K:Ex→AS→Option R),t X K=den E Γ an Λ c (SD.enc d X) (λe st'=>K e (st'.mask (an.mask (vj c+1)))):=by intro R X K;kernel_rfl):yU E Γ an Λ c:=cok (Bg d t) h1 h
def u {A B:Type}(y:A)(x:A×B):A×B:=(y,x.2)
def w {A B:Type}(y:A)(f:B→B)(x:A×B):A×B:=(y,f x.2)
def z1 {A0 B:Type}(f:B→B)(x:A0×B):A0×B:=(x.1,f x.2)
def z2 {A0 A1 B:Type}(f:B→B)(x:A0×A1×B):A0×A1×B:=(x.1,x.2.1,f x.2.2)
def z3 {A0 A1 A2 B:Type}(f:B→B)(x:A0×A1×A2×B):A0×A1×A2×B:=(x.1,x.2.1,x.2.2.1,f x.2.2.2)
def z4 {A0 A1 A2 A3 B:Type}(f:B→B)(x:A0×A1×A2×A3×B):A0×A1×A2×A3×B:=(x.1,x.2.1,x.2.2.1,x.2.2.2.1,f x.2.2.2.2)
def z5 {A0 A1 A2 A3 A4 B:Type}(f:B→B)(x:A0×A1×A2×A3×A4×B):A0×A1×A2×A3×A4×B:=(x.1,x.2.1,x.2.2.1,x.2.2.2.1,x.2.2.2.2.1,f x.2.2.2.2.2)
def z6 {A0 A1 A2 A3 A4 A5 B:Type}(f:B→B)(x:A0×A1×A2×A3×A4×A5×B):A0×A1×A2×A3×A4×A5×B:=(x.1,x.2.1,x.2.2.1,x.2.2.2.1,x.2.2.2.2.1,x.2.2.2.2.2.1,f x.2.2.2.2.2.2)
def z7 {A0 A1 A2 A3 A4 A5 A6 B:Type}(f:B→B)(x:A0×A1×A2×A3×A4×A5×A6×B):A0×A1×A2×A3×A4×A5×A6×B:=(x.1,x.2.1,x.2.2.1,x.2.2.2.1,x.2.2.2.2.1,x.2.2.2.2.2.1,x.2.2.2.2.2.2.1,f x.2.2.2.2.2.2.2)
def z8 {A0 A1 A2 A3 A4 A5 A6 A7 B:Type}(f:B→B)(x:A0×A1×A2×A3×A4×A5×A6×A7×B):A0×A1×A2×A3×A4×A5×A6×A7×B:=(x.1,x.2.1,x.2.2.1,x.2.2.2.1,x.2.2.2.2.1,x.2.2.2.2.2.1,x.2.2.2.2.2.2.1,x.2.2.2.2.2.2.2.1,f x.2.2.2.2.2.2.2.2)
def q2 {A0 A1 A2 B C:Type}(x:(A0×A1×A2×B)×C):A2:=x.1.2.2.1
def q3 {A0 A1 A2 A3 B C:Type}(x:(A0×A1×A2×A3×B)×C):A3:=x.1.2.2.2.1
def q4 {A0 A1 A2 A3 A4 B C:Type}(x:(A0×A1×A2×A3×A4×B)×C):A4:=x.1.2.2.2.2.1
def q5 {A0 A1 A2 A3 A4 A5 B C:Type}(x:(A0×A1×A2×A3×A4×A5×B)×C):A5:=x.1.2.2.2.2.2.1
def q6 {A0 A1 A2 A3 A4 A5 A6 B C:Type}(x:(A0×A1×A2×A3×A4×A5×A6×B)×C):A6:=x.1.2.2.2.2.2.2.1
def q7 {A0 A1 A2 A3 A4 A5 A6 A7 B C:Type}(x:(A0×A1×A2×A3×A4×A5×A6×A7×B)×C):A7:=x.1.2.2.2.2.2.2.2.1
def q8 {A0 A1 A2 A3 A4 A5 A6 A7 A8 B C:Type}(x:(A0×A1×A2×A3×A4×A5×A6×A7×A8×B)×C):A8:=x.1.2.2.2.2.2.2.2.2.1
def q9 {A0 A1 A2 A3 A4 A5 A6 A7 A8 A9 B C:Type}(x:(A0×A1×A2×A3×A4×A5×A6×A7×A8×A9×B)×C):A9:=x.1.2.2.2.2.2.2.2.2.2.1
def J9 {A0 A1 A2 A3 A4 A5 A6 A7 A8 A9 A10 B C:Type}(x:(A0×A1×A2×A3×A4×A5×A6×A7×A8×A9×A10×B)×C):A10:=x.1.2.2.2.2.2.2.2.2.2.2.1
def c1 {A0 B R:Type}(f:A0→R)(a:A0×B):R:=f a.1
def c2 {A0 A1 B R:Type}(f:A0→A1→R)(a:A0×A1×B):R:=f a.1 a.2.1
def c3 {A0 A1 A2 B R:Type}(f:A0→A1→A2→R)(a:A0×A1×A2×B):R:=f a.1 a.2.1 a.2.2.1
def c4 {A0 A1 A2 A3 B R:Type}(f:A0→A1→A2→A3→R)(a:A0×A1×A2×A3×B):R:=f a.1 a.2.1 a.2.2.1 a.2.2.2.1
def c5 {A0 A1 A2 A3 A4 B R:Type}(f:A0→A1→A2→A3→A4→R)(a:A0×A1×A2×A3×A4×B):R:=f a.1 a.2.1 a.2.2.1 a.2.2.2.1 a.2.2.2.2.1
def c6 {A0 A1 A2 A3 A4 A5 B R:Type}(f:A0→A1→A2→A3→A4→A5→R)(a:A0×A1×A2×A3×A4×A5×B):R:=f a.1 a.2.1 a.2.2.1 a.2.2.2.1 a.2.2.2.2.1 a.2.2.2.2.2.1
theorem f0 {P:Program}{E:Env}{Γ:cG}{s:List PS}{rs:List (Bool×FT)}{F:vf s→Option (gB rs)}{f:Nat}{fn:Func}(an:An)(hS:Sound P E Γ)(hf:P.funcs[f]?=some fn)(hn:(fn.name== "runtime.NumGoroutine")=false:=by kernel_rfl)(hl:fw (fn.body.getD .skip)=[]:=by kernel_rfl)(hcut:an.cut=[]:=by rfl)(hF:∀a,Cc E Γ an cY.nil fn rs (gI s a)=F a:=by intro a;kernel_rfl):aU P f (aN s rs F):=aU.of (VK hS hf hn (tE.of (Fn.hF hl nF) hcut)) hF
abbrev Y10:FT:=.pair (.int .i64) (.pair (.int .i64) (.pair (.int .i64) (.pair (.int .i64) .str)))
abbrev XY:FT:=.pair (.int .i64) (.pair (.int .i64) Y10)
abbrev Y0:FT:=.pair (.int .i64) (.pair (.int .i64) (.pair (.int .i64) (.pair (.int .i64) (.pair (.int .i64) (.pair (.int .i64) (.pair (.int .i64) (.pair (.int .i64) (.pair (.int .i64) XY))))))))
abbrev SR:FT:=.pair (.int .i64) (.pair (.int .i64) (.int .i64))
abbrev Y2:FT:=.pair (.int .i64) SR
abbrev Y1:FT:=.pair (.sl (.own (some 24577)) kN) (.pair (.sl (.own (some 24580)) aY) (.pair (.sl (.own (some 24583)) cB) (.pair (.sl (.own (some 24586)) .str) (.pair Y2 (.pair (.sl (.own (some 24601)) (.int .i64)) (.sl (.own (some 24604)) .str))))))
abbrev Y3:FT:=.pair (.sl (.own (some 61441)) kN) (.pair (.sl (.own (some 61444)) aY) (.pair (.sl (.own (some 61447)) cB) (.pair (.sl (.own (some 61450)) .str) (.pair Y2 (.pair (.sl (.own (some 61465)) (.int .i64)) (.sl (.own (some 61468)) .str))))))
abbrev Y4:FT:=.pair (.sl .arg0 (.int .u8)) (.pair (.int .i64) (.int .i64))
abbrev Y5:FT:=.pair (.int .i64) (.pair (.int .i64) (.pair (.pair (.int .i64) (.pair Y0 (.pair (.int .i64) (.pair (.int .i64) (.pair .str (.int .i64)))))) (.pair SR (.pair .str (.int .i64)))))
abbrev Y6:FT:=.pair (.sl (.own (some 196609)) .str) (.pair (.sl (.own (some 196612)) dU) (.pair (.pair Y2 (.pair (.pair (.int .i64) (.pair (.int .i64) (.pair (.int .i64) (.sl (.own (some 196636)) (.int .i64))))) (.pair (.sl (.own (some 196639)) uR) (.int .i64)))) (.pair (.sl (.own (some 196645)) ma) (.pair (.sl (.own (some 196648)) rE) (.pair (.sl (.own (some 196651)) nH) (.pair (.sl (.own (some 196654)) .bool) (.pair (.pair (.int .i64) (.pair .bool (.sl (.own (some 196663)) (.int .i64)))) (.pair (.pair (.sl (.own (some 196666)) lU) (.pair (.sl (.own (some 196669)) gP) (.pair .str (.sl (.own (some 196675)) (.int .i64))))) (.pair (.sl (.own (some 196678)) dB) (.pair .bool (.pair (.sl (.own (some 196684)) .str) (.pair (.sl (.own (some 196687)) (.int .i64)) (.pair (.sl (.own (some 196690)) (.int .i64)) (.pair (.int .i64) Y2))))))))))))))
abbrev Y7:FT:=.pair (.sl (.own (some 147457)) .str) (.pair (.sl (.own (some 147460)) dU) (.pair (.pair Y2 (.pair (.pair (.int .i64) (.pair (.int .i64) (.pair (.int .i64) (.sl (.own (some 147484)) (.int .i64))))) (.pair (.sl (.own (some 147487)) uR) (.int .i64)))) (.pair (.sl (.own (some 147493)) ma) (.pair (.sl (.own (some 147496)) rE) (.pair (.sl (.own (some 147499)) nH) (.pair (.sl (.own (some 147502)) .bool) (.pair (.pair (.int .i64) (.pair .bool (.sl (.own (some 147511)) (.int .i64)))) (.pair (.pair (.sl (.own (some 147514)) lU) (.pair (.sl (.own (some 147517)) gP) (.pair .str (.sl (.own (some 147523)) (.int .i64))))) (.pair (.sl (.own (some 147526)) dB) (.pair .bool (.pair (.sl (.own (some 147532)) .str) (.pair (.sl (.own (some 147535)) (.int .i64)) (.pair (.sl (.own (some 147538)) (.int .i64)) (.pair (.int .i64) Y2))))))))))))))
abbrev Y8:FT:=.pair (.int .i64) (.pair .bool (.sl (.own none) (.int .i64)))
abbrev Y9:FT:=.pair (.sl (.own none) lU) (.pair (.sl (.own none) gP) (.pair .str (.sl (.own none) (.int .i64))))
abbrev SQ:FT:=.pair (.sl .arg (.int .u8)) (.pair (.int .i64) (.int .i64))
abbrev YJ:FT:=.pair (.int .i64) (.pair (.int .i64) (.pair (.int .i64) (.sl (.own none) (.int .i64))))
abbrev Y13:FT:=.pair (.sl (.own none) kN) (.pair (.sl (.own none) aY) (.pair (.sl (.own none) cB) (.pair (.sl (.own none) .str) (.pair Y2 (.pair (.sl (.own none) (.int .i64)) (.sl (.own none) .str))))))
abbrev Y14:FT:=.pair (.sl (.own (some 36865)) km) (.pair (.sl (.own (some 36868)) (.sl .str)) (.pair (.sl (.own (some 36871)) aY) (.pair (.sl (.own (some 36874)) cB) (.sl (.own (some 36877)) .str))))
abbrev Y15:FT:=.pair (.sl (.own (some 24577)) km) (.pair (.sl (.own (some 24580)) (.sl .str)) (.pair (.sl (.own (some 24583)) aY) (.pair (.sl (.own (some 24586)) cB) (.sl (.own (some 24589)) .str))))
abbrev Y16:FT:=.pair (.sl (.own none) km) (.pair (.sl (.own none) (.sl .str)) (.pair (.sl (.own none) aY) (.pair (.sl (.own none) cB) (.sl (.own none) .str))))
abbrev YK:FT:=.pair (.sl .arg lU) (.pair (.sl .arg gP) (.pair .str (.sl .arg (.int .i64))))
abbrev Y19:FT:=.pair (.int .i64) (.pair (.int .i64) (.pair (.int .i64) (.sl .arg (.int .i64))))
abbrev YL:FT:=.pair (.int .i64) (.pair .bool (.sl .arg (.int .i64)))
abbrev Y21:FT:=.pair (.sl (.own (some 61441)) km) (.pair (.sl (.own (some 61444)) (.sl .str)) (.pair (.sl (.own (some 61447)) aY) (.pair (.sl (.own (some 61450)) cB) (.sl (.own (some 61453)) .str))))
abbrev Y22:FT:=.pair (.int .i64) (.pair (.int .i64) (.pair (.int .i64) (.pair (.int .i64) (.pair .bool .bool))))
abbrev Y23:FT:=.pair Y8 (.pair Y9 (.pair (.int .i64) (.pair (.sl (.own none) dB) (.sl (.own none) .str))))
abbrev Y24:FT:=.pair (.sl .loc kN) (.pair (.sl .loc aY) (.pair (.sl .loc cB) (.pair (.sl .loc .str) (.pair Y2 (.pair (.sl .loc (.int .i64)) (.sl .loc .str))))))
abbrev Y25:FT:=.pair (.sl .arg kN) (.pair (.sl .arg aY) (.pair (.sl .arg cB) (.pair (.sl .arg .str) (.pair Y2 (.pair (.sl .arg (.int .i64)) (.sl .arg .str))))))
abbrev Y27:FT:=.pair (.sl .arg km) (.pair (.sl .arg (.sl .str)) (.pair (.sl .arg aY) (.pair (.sl .arg cB) (.sl .arg .str))))
abbrev Y28:FT:=.pair (.int .i64) (.pair (.int .i64) (.pair SR (.pair .bool (.pair (.int .i64) (.int .i64)))))
abbrev Y29:FT:=.pair Y2 (.pair YJ (.pair (.sl (.own none) uR) (.int .i64)))
def E:Env:={ty:=[(3,⟨false,(.int .i64),[]⟩),(4,⟨false,.bool,[]⟩),(5,⟨false,(.int .u8),[]⟩),(9,⟨false,.str,[]⟩),(22,⟨false,(.sl (.int .u8)),[(5,0)]⟩),(24,⟨false,(.sl kN),[(109,0)]⟩),(25,⟨false,(.sl aY),[(84,0)]⟩),(26,⟨false,(.sl cB),[(113,0)]⟩),(27,⟨false,(.sl .str),[(9,0)]⟩),(29,⟨true,(.sl .str),[(0,1)]⟩),(31,⟨true,nE,[(0,1),(1,1),(2,1),(3,1)]⟩),(32,⟨false,(.sl (.int .i64)),[(3,0)]⟩),(34,⟨true,wL,[(0,1),(1,1),(2,1),(3,1),(4,4),(8,1),(9,1)]⟩),(35,⟨false,(.sl dk),[(54,0)]⟩),(38,⟨false,(.sl km),[(74,0)]⟩),(39,⟨false,(.sl (.sl .str)),[(27,0)]⟩),(41,⟨true,fM,[(0,1),(1,1),(2,1),(3,1),(4,1)]⟩),(44,⟨true,rF,[(0,1),(1,1),(2,1),(3,1),(4,1),(5,1),(6,1),(7,1)]⟩),(46,⟨true,bX,[(0,1),(1,1),(2,1),(3,1),(4,1),(5,1),(6,1),(7,1),(8,8)]⟩),(50,⟨true,Vp,[(0,1),(1,16),(17,1),(18,1),(19,1),(20,1)]⟩),(52,⟨true,kl,[(0,1),(1,1),(2,1)]⟩),(54,⟨true,dk,[(0,1),(1,1),(2,21),(23,3),(26,1),(27,1)]⟩),(55,⟨false,(.sl eU),[(120,0)]⟩),(63,⟨true,jk,[(0,1),(1,1),(2,1)]⟩),(64,⟨false,(.sl lU),[(150,0)]⟩),(65,⟨false,(.sl gP),[(243,0)]⟩),(67,⟨true,(.sl gP),[(0,1)]⟩),(69,⟨true,tY,[(0,1),(1,1)]⟩),(71,⟨true,iE,[(0,1),(1,1),(2,2)]⟩),(72,⟨false,(.sl dB),[(132,0)]⟩),(74,⟨true,km,[(0,3),(3,4),(7,1),(8,1),(9,1)]⟩),(82,⟨true,kl,[(0,1),(1,1),(2,1)]⟩),(84,⟨true,aY,[(0,1),(1,1),(2,3),(5,1),(6,1),(7,1)]⟩),(90,⟨false,(.sl bX),[(46,0)]⟩),(93,⟨true,(.sl .str),[(0,1)]⟩),(94,⟨false,(.sl dU),[(282,0)]⟩),(96,⟨true,nE,[(0,1),(1,1),(2,1),(3,1)]⟩),(98,⟨true,rE,[(0,1),(1,1),(2,1),(3,1)]⟩),(99,⟨false,(.sl uR),[(259,0)]⟩),(101,⟨true,tF,[(0,4),(4,4),(8,1),(9,1)]⟩),(102,⟨false,(.sl ma),[(225,0)]⟩),(103,⟨false,(.sl rE),[(98,0)]⟩),(104,⟨false,(.sl nH),[(229,0)]⟩),(105,⟨false,(.sl .bool),[(4,0)]⟩),(107,⟨true,nG,[(0,1),(1,1),(2,1),(3,1),(4,1)]⟩),(109,⟨true,kN,[(0,1),(1,1),(2,10),(12,1),(13,1),(14,1),(15,1),(16,3),(19,4),(23,1),(24,1),(25,1),(26,1),(27,1),(28,5)]⟩),(113,⟨true,cB,[(0,3),(3,1),(4,1),(5,1)]⟩),(120,⟨true,eU,[(0,1),(1,1),(2,1),(3,1)]⟩),(130,⟨true,nG,[(0,1),(1,1),(2,1),(3,1),(4,1)]⟩),(132,⟨true,dB,[(0,5),(5,1),(6,1),(7,1)]⟩),(145,⟨true,(.pair (.sl (.int .u8)) (.pair (.int .i64) (.int .i64))),[(0,1),(1,1),(2,1)]⟩),(150,⟨true,lU,[(0,1),(1,1),(2,1),(3,1),(4,1),(5,1),(6,1),(7,1),(8,1)]⟩),(171,⟨true,Nw,[(0,1),(1,1),(2,1),(3,1),(4,1)]⟩),(175,⟨true,Uj,[(0,1),(1,1),(2,1),(3,1),(4,1),(5,1),(6,1)]⟩),(221,⟨true,kl,[(0,1),(1,1),(2,1)]⟩),(223,⟨true,Kd,[(0,16),(16,1),(17,1)]⟩),(225,⟨true,ma,[(0,4),(4,3),(7,3),(10,18),(28,1),(29,1)]⟩),(229,⟨true,nH,[(0,1),(1,1),(2,1),(3,1),(4,1),(5,1)]⟩),(243,⟨true,gP,[(0,1),(1,5),(6,1)]⟩),(259,⟨true,uR,[(0,1),(1,1),(2,1)]⟩),(282,⟨true,dU,[(0,1),(1,1),(2,1),(3,1)]⟩),(296,⟨false,(.int .u32),[]⟩),(344,⟨true,Mg,[(0,1),(1,1),(2,1),(3,1),(4,1),(5,1)]⟩)],eqs:=[(130,[.int,.int,.int,.int,.int]),(132,[.int,.int,.int,.int,.int,.int,.str,.bool]),(223,[.int,.int,.int,.int,.int,.int,.int,.int,.int,.int,.int,.int,.int,.int,.int,.str,.int,.int])],fts:=[]}
theorem base:Sound Tryz.prog E cG.nil:=Sound.nil (I2 (by kernel_rfl)) (I5 (by kernel_rfl)) (I4 (by kernel_rfl)) (by kernel_rfl)
def e5:aW:=aN [pd (.sl (.int .u8))] [rB] (c1 Pu.yi)
theorem o5:aU Tryz.prog 5 e5:=f0 {} base Tryz.func5
def acF:aW:=aN [pd .str] [rI] (c1 Pu.sq)
def ZM:cG:=cG.nil
def Xu:An:={mask:=mk [(3,[0,3,4]),(7,[0,3,4,5])]}
abbrev Fx:SD:=⟨.data false .str::B::B::DI::DI::DI::bs 26 [],zs 32 [],.none⟩
def RR {R:Type}(X:SD.D Fx)(K:Ex→AS→Option R):=Pu.kb (λy0 y1=>ke 2 K Fx ((z1 (w y0 (z1 (u y1))) X.1),X.2)) X.1.1 (q2 X)
def WJ:cm:=gw Fx RR (λX=>(X.1.2.1,q3 X))
abbrev Fw:SD:=⟨.data false .str::B::B::DI::DI::bs 27 [],zs 32 [],.none⟩
def RQ {R:Type}(X:SD.D Fw)(K:Ex→AS→Option R):=Pu.mA (λy0 y1=>ke 0 K Fw ((z1 (w y0 (u y1)) X.1),X.2)) X.1.1
def WI:cm:=gw Fw RQ (λX=>(X.1.2.1,q2 X))
def Vk:cY:=((cY.nil).add 7 WJ).add 3 WI
theorem VU:fU E ZM Xu Vk (aR Tryz.f133 1):=lk Fx RR (λX=>(X.1.2.1,q3 X)) λX x=>((z1 (w x.1 (z1 (u x.2))) X.1),X.2)
theorem VT:fU E ZM Xu Vk (aR Tryz.f133 0):=lk Fw RQ (λX=>(X.1.2.1,q2 X)) λX x=>((z1 (w x.1 (u x.2)) X.1),X.2)
theorem abI:aU Tryz.prog 133 acF:=fk Xu base Tryz.func133 (Λ:=Vk) (cF VT (cF VU nF))
def e81:aW:=aN [pd .str] [rS] (c1 Pu.oN)
theorem o81:aU Tryz.prog 81 e81:=f0 {} (base.add abI) Tryz.func81
def e28:aW:=aN [pd .str] [rS,rB] (c1 Pu.pQ)
theorem o28:aU Tryz.prog 28 e28:=f0 {merge:=mg [(1,16)]} (base.add o81) Tryz.func28
def adi:aW:=aN [pd .str,pI,pI] [rB] (c3 Pu.iY)
theorem XC:aU Tryz.prog 223 adi:=f0 {merge:=mg [(1,6)]} base Tryz.func223
def acL:aW:=aN [pd .str,pI] [rI] (c2 Pu.eA)
theorem TJ:aU Tryz.prog 147 acL:=f0 {} (base.add XC) Tryz.func147
def acM:aW:=aN [pd .str,pI] [rI] (c2 Pu.fS)
theorem TK:aU Tryz.prog 148 acM:=f0 {} ((base.add TJ).add XC) Tryz.func148
def NN:aW:=aN [pI,pI,pI] [rB] (c3 Pu.aA)
theorem wI:aU Tryz.prog 31 NN:=f0 {merge:=mg [(1,6)]} base Tryz.func31
def acN:aW:=aN [pf Nw] [rB] (c1 Pu.pj)
theorem abM:aU Tryz.prog 149 acN:=f0 {merge:=mg [(1,2)]} (base.add wI) Tryz.func149
def e82:aW:=aN [pd .str] [(true,Y10),rB] (c1 Pu.pU)
theorem o82:aU Tryz.prog 82 e82:=f0 {sb:=mg [(4,4)]} (((base.add TJ).add TK).add abM) Tryz.func82
def acE:aW:=aN [pI] [rS] (c1 Pu.dm)
theorem OH:aU Tryz.prog 132 acE:=f0 {} (base.add wI) Tryz.func132
def adk:aW:=aN [pI] [rS] (c1 Pu.cl)
theorem OJ:aU Tryz.prog 225 adk:=f0 {} (base.add wI) Tryz.func225
def ZC:aW:=aN [pI,pI] [rI] (c2 Pu.gX)
theorem afO:aU Tryz.prog 326 ZC:=f0 {merge:=mg [(1,12)]} (base.add wI) Tryz.func326
def adL:aW:=aN [pd .str] [rI] (c1 Pu.pW)
def aeh:cG:=cG.nil.add 326 ZC
def abr:An:={mask:=mk [(3,[0,3,4])]}
abbrev FP:SD:=⟨.data false .str::B::B::DI::DI::bs 28 [],zs 33 [],.none⟩
def Sj {R:Type}(X:SD.D FP)(K:Ex→AS→Option R):=Pu.lM (λy0 y1=>ke 0 K FP ((z1 (w y0 (u y1)) X.1),X.2)) X.1.1
def Xb:cm:=gw FP Sj (λX=>(X.1.2.1,q2 X))
def Yw:cY:=(cY.nil).add 3 Xb
theorem Wl:fU E aeh abr Yw (aR Tryz.f288 0):=lk FP Sj (λX=>(X.1.2.1,q2 X)) λX x=>((z1 (w x.1 (u x.2)) X.1),X.2)
theorem afE:aU Tryz.prog 288 adL:=fk abr (base.add afO) Tryz.func288 (Λ:=Yw) (cF Wl nF)
def adm:aW:=aN [pd .str] [rI] (c1 Pu.ka)
theorem ab1:aU Tryz.prog 227 adm:=f0 {} (base.add afE) Tryz.func227
def Zl:aW:=aN [pd .str,pI,pd .str] [rS] (c3 Pu.fA)
theorem XD:aU Tryz.prog 228 Zl:=f0 {} (base.add XC) Tryz.func228
def adK:aW:=aN [pf Uj] [rB] (c1 Pu.wz)
theorem afD:aU Tryz.prog 287 adK:=f0 {merge:=mg [(1,2)]} (base.add wI) Tryz.func287
def adj:aW:=aN [pf Uj] [rS,rB] (c1 Pu.pT)
theorem afe:aU Tryz.prog 224 adj:=f0 {} (((((base.add OH).add OJ).add ab1).add XD).add afD) Tryz.func224
def acO:aW:=aN [pf Uj] [rS,rB] (c1 Pu.ox)
theorem abN:aU Tryz.prog 150 acO:=f0 {} (base.add afe) Tryz.func150
def e83:aW:=aN [pd .str] [(true,XY),rB] (c1 Pu.ra)
theorem o83:aU Tryz.prog 83 e83:=f0 {merge:=mg [(2,22),(6,56)],sb:=mg [(5,5)]} (((base.add TJ).add TK).add abN) Tryz.func83
def acQ:aW:=aN [pf rF] [rB] (c1 Pu.k5)
theorem abP:aU Tryz.prog 152 acQ:=f0 {merge:=mg [(1,18),(4,2),(5,2)]} (base.add wI) Tryz.func152
def adl:aW:=aN [pI,pI,pI,pI] [rS,rB] (c4 Pu.g8)
theorem aff:aU Tryz.prog 226 adl:=f0 {merge:=mg [(1,27)]} (((base.add wI).add OH).add OJ) Tryz.func226
def acP:aW:=aN [pI,pI,pf rF] [rS,rB] (c3 Pu.fJ)
theorem abO:aU Tryz.prog 151 acP:=f0 {merge:=mg [(14,82)]} ((((((base.add OH).add abP).add OJ).add aff).add ab1).add XD) Tryz.func151
def e84:aW:=aN [pI,pI,pI,pd .str] [(true,(.pair (.int .i64) XY)),rB] (c4 Pu.kG)
theorem o84:aU Tryz.prog 84 e84:=f0 {merge:=mg [(3,20),(9,44),(12,68)]} (((base.add TJ).add TK).add abO) Tryz.func84
def e85:aW:=aN [pf bX] [rB] (c1 Pu.hC)
theorem o85:aU Tryz.prog 85 e85:=f0 {merge:=mg [(1,55),(3,3),(4,2)]} ((base.add wI).add abP) Tryz.func85
def e29:aW:=aN [pd .str] [(true,Y0),rI] (c1 Pu.oL)
theorem o29:aU Tryz.prog 29 e29:=f0 {merge:=mg [(2,20)]} ((((base.add o82).add o83).add o84).add o85) Tryz.func29
def e30:aW:=aN [pf bX] [rB] (c1 Pu.mD)
theorem o30:aU Tryz.prog 30 e30:=f0 {merge:=mg [(1,2)]} (base.add o85) Tryz.func30
def e8:aW:=aN [pd .str] [(true,Y0),rI] (c1 Pu.kZ)
theorem o8:aU Tryz.prog 8 e8:=f0 {} (((base.add o28).add o29).add o30) Tryz.func8
def e20:aW:=KD SQ [pd (.sl (.int .u8))] λa=>Pu.s9 a.1
def g20:cG:=cG.nil
def n20:An:={mask:=mk [(3,[0,3,4])],merge:=mg [(3,15)]}
abbrev Mp:SD:=⟨.data false (.sl .arg (.int .u8))::B::B::DI::DI::bs 27 [],zs 32 [],.none⟩
def UG {R:Type}(X:SD.D Mp)(K:Ex→AS→Option R):=Pu.sr (λy0 y1=>ke 0 K Mp ((z1 (w y0 (u y1)) X.1),X.2)) X.1.1
def aaz:cm:=gw Mp UG (λX=>(X.1.2.1,q2 X))
def L20:cY:=(cY.nil).add 3 aaz
theorem ZZ:fU E g20 n20 L20 (aR Tryz.f20 0):=lk Mp UG (λX=>(X.1.2.1,q2 X)) λX x=>((z1 (w x.1 (u x.2)) X.1),X.2)
theorem o20:aU Tryz.prog 20 e20:=aU.ace (ZI (Γ:=g20) (an:=n20) (Λ:=L20) (base) Tryz.func20 (by kernel_rfl) (ao (cF ZZ nF))) (λa=>by kernel_rfl)
def e71:aW:=ga (.pair (.sl .arg0 (.int .u8)) (.pair (.int .i64) (.int .i64))) [] [rI] λx a=>Pu.gi x
theorem o71:aU Tryz.prog 71 e71:=aU.lY (lV (an:={}) (Λ:=cY.nil) (base) Tryz.func71 (by kernel_rfl) (ao nF)) (λx a=>by kernel_rfl)
def X0:aW:=ga (.pair (.sl .arg0 (.int .u8)) (.pair (.int .i64) (.int .i64))) [pI] [rI] λx a=>Pu.bK x a.1
theorem OK:aU Tryz.prog 23 X0:=aU.lY (lV (an:={}) (Λ:=cY.nil) (base.add o71) Tryz.func23 (by kernel_rfl) (ao nF)) (λx a=>by kernel_rfl)
def e57:aW:=aN [] [(true,(.sl (.own none) gP))] λa=>Pu.mC
theorem o57:aU Tryz.prog 57 e57:=f0 {} base Tryz.func57
def Vz:aW:=ga (.pair (.sl .arg0 (.int .u8)) (.pair (.int .i64) (.int .i64))) [pI] [rS] λx a=>Pu.gj x a.1
def ZK:cG:=cG.nil.add 71 e71
def aa7:An:={mask:=mk [(5,[0,1,5,6])],mv:=[15]}
abbrev Fu:SD:=⟨.ptr 0 0::DI::B::B::B::.data false (.sl (.own (some 61440)) (.int .u8))::DI::bs 16 [],(some Y4)::zs 22 [],.ptr⟩
def RO {R:Type}(X:SD.D Fu)(K:Ex→AS→Option R):=Pu.jM (λy0 y1 y2=>ke 0 K Fu ((z1 (w y0 (u y1)) X.1),(u y2 X.2.1),X.2.2)) X.1.1
def WG:cm:=gw Fu RO (λX=>(X.1.2.1,q2 X,X.2.1.1))
def Yb:cY:=(cY.nil).add 5 WG
theorem VR:fU E ZK aa7 Yb (aR Tryz.f128 0):=lk Fu RO (λX=>(X.1.2.1,q2 X,X.2.1.1)) λX x=>((z1 (w x.1 (u x.2.1)) X.1),(u x.2.2 X.2.1),X.2.2)
theorem OG:aU Tryz.prog 128 Vz:=aU.lY (lV (Γ:=ZK) (an:=aa7) (Λ:=Yb) (base.add o71) Tryz.func128 (by kernel_rfl) (ao (cF VR nF))) (λx a=>by kernel_rfl)
def e58:aW:=ga (.pair (.sl .arg0 (.int .u8)) (.pair (.int .i64) (.int .i64))) [] [rS] λx a=>Pu.ta x
theorem o58:aU Tryz.prog 58 e58:=aU.lY (lV (an:={}) (Λ:=cY.nil) (base.add OG) Tryz.func58 (by kernel_rfl) (ao nF)) (λx a=>by kernel_rfl)
def X1:aW:=ga (.pair (.sl .arg0 (.int .u8)) (.pair (.int .i64) (.int .i64))) [pI] [rB] λx a=>Pu.du x a.1
theorem TM:aU Tryz.prog 59 X1:=aU.lY (lV (an:={}) (Λ:=cY.nil) (base.add OK) Tryz.func59 (by kernel_rfl) (ao nF)) (λx a=>by kernel_rfl)
def ZH:aW:=ga (.pair (.sl .arg0 (.int .u8)) (.pair (.int .i64) (.int .i64))) [pd (.sl (.int .i64))] [rI] λx a=>Pu.bN x a.1
theorem SN:aU Tryz.prog 60 ZH:=aU.lY (lV (an:={}) (Λ:=cY.nil) (base.add OK) Tryz.func60 (by kernel_rfl) (ao nF)) (λx a=>by kernel_rfl)
def e86:aW:=aN [pf jk] [rB] (c1 Pu.ic)
def g86:cG:=cG.nil.add 31 NN
def n86:An:={mask:=mk [(2,[1,2,3])],merge:=mg [(4,35),(6,2)]}
abbrev HD:SD:=⟨B::.ptr 1 0::DB::DI::bs 41 [],Z::(some YL)::zs 43 [],.none⟩
def U7 {R:Type}(X:SD.D HD)(K:Ex→AS→Option R):=Pu.lD (λy0=>ke 0 K HD ((z1 (u y0) X.1),X.2)) (λy0 y1=>kr K HD ((w y0 (u y1) X.1),X.2)) X.1.1 X.2.1.1
def aaZ:cm:=gw HD U7 (λX=>X.1.2.1)
def L86:cY:=(cY.nil).add 2 aaZ
theorem aap:fU E g86 n86 L86 (aR Tryz.f86 0):=lk HD U7 (λX=>X.1.2.1) λX x=>((z1 (u x) X.1),X.2)
theorem o86:aU Tryz.prog 86 e86:=fk n86 (base.add wI) Tryz.func86 (Λ:=L86) (cF aap nF)
def e32:aW:=aN [pf cB] [rB] (c1 Pu.oG)
theorem o32:aU Tryz.prog 32 e32:=f0 {merge:=mg [(1,2)]} ((base.add wI).add o86) Tryz.func32
def e36:aW:=aN [pd (.sl (.int .i64)),pI] [rB] (c2 Pu.ji)
def g36:cG:=cG.nil
def n36:An:={mask:=mk [(2,[0,1,4,5])]}
abbrev Ht:SD:=⟨.data false (.sl .arg (.int .i64))::DI::B::B::DB::DI::bs 12 [],zs 18 [],.none⟩
def UP {R:Type}(X:SD.D Ht)(K:Ex→AS→Option R):=Pu.oQ (λy0=>ke 0 K Ht ((z3 (u y0) X.1),X.2)) (λy0 y1=>kr K Ht ((z2 (w y0 (u y1)) X.1),X.2)) X.1.1 X.1.2.1 (q2 X)
def aaI:cm:=gw Ht UP q3
def L36:cY:=(cY.nil).add 2 aaI
theorem Z8:fU E g36 n36 L36 (aR Tryz.f36 0):=lk Ht UP q3 λX x=>((z3 (u x) X.1),X.2)
theorem o36:aU Tryz.prog 36 e36:=fk n36 base Tryz.func36 (Λ:=L36) (cF Z8 nF)
def e33:aW:=aN [pd (.sl (.int .i64)),pd (.sl (.int .i64))] [(false,(.sl (.own none) (.int .i64)))] (c2 Pu.mH)
def g33:cG:=cG.nil.add 36 e36
def n33:An:={mask:=mk [(3,[1,5,6]),(7,[1,5,6,7])],merge:=mg [(7,37)],mv:=[55]}
abbrev Mt:SD:=⟨B::.data false (.sl .arg (.int .i64))::B::B::B::.data false (.sl (.own (some 61440)) (.int .i64))::DI::DI::bs 48 [],zs 56 [],.none⟩
def UM {R:Type}(X:SD.D Mt)(K:Ex→AS→Option R):=Pu.lS (λy0=>ke 2 K Mt ((z3 (u y0) X.1),X.2)) X.1.1 X.1.2.1 (q2 X)
def aaF:cm:=gw Mt UM q3
abbrev Ms:SD:=⟨B::.data false (.sl .arg (.int .i64))::B::B::B::.data false (.sl (.own (some 61440)) (.int .i64))::DI::bs 49 [],zs 56 [],.none⟩
def UL {R:Type}(X:SD.D Ms)(K:Ex→AS→Option R):=Pu.jd (λy0 y1=>ke 0 K Ms ((z1 (w y0 (u y1)) X.1),X.2)) X.1.1
def aaE:cm:=gw Ms UL (λX=>(X.1.2.1,q2 X))
def L33:cY:=((cY.nil).add 7 aaF).add 3 aaE
theorem Z5:fU E g33 n33 L33 (aR Tryz.f33 1):=lk Mt UM q3 λX x=>((z3 (u x) X.1),X.2)
theorem Z4:fU E g33 n33 L33 (aR Tryz.f33 0):=lk Ms UL (λX=>(X.1.2.1,q2 X)) λX x=>((z1 (w x.1 (u x.2)) X.1),X.2)
theorem o33:aU Tryz.prog 33 e33:=fk n33 (base.add o36) Tryz.func33 (Λ:=L33) (cF Z4 (cF Z5 nF))
def e34:aW:=aN [pd (.sl eU)] [rB] (c1 Pu.jx)
def g34:cG:=((cG.nil.add 31 NN).add 36 e36).add 86 e86
def n34:An:={mask:=mk [(4,[0,2,3]),(9,[0,2,3,4])]}
abbrev Hs:SD:=⟨.data false (.sl .arg eU)::B::DB::DI::DI::bs 53 [],zs 58 [],.none⟩
def UO {R:Type}(X:SD.D Hs)(K:Ex→AS→Option R):=Pu.mY (λy0=>ke 2 K Hs ((z3 (u y0) X.1),X.2)) (λy0 y1=>kr K Hs ((z1 (w y0 (z1 (u y1))) X.1),X.2)) X.1.1 X.1.2.1 (q2 X)
def aaH:cm:=gw Hs UO q3
abbrev Hr:SD:=⟨.data false (.sl .arg eU)::B::DB::DI::bs 54 [],zs 58 [],.none⟩
def UN {R:Type}(X:SD.D Hr)(K:Ex→AS→Option R):=Pu.mX (λy0=>ke 0 K Hr ((z2 (u y0) X.1),X.2)) (λy0 y1=>kr K Hr ((z1 (w y0 (u y1)) X.1),X.2)) X.1.1 X.1.2.1
def aaG:cm:=gw Hr UN q2
def L34:cY:=((cY.nil).add 9 aaH).add 4 aaG
theorem Z7:fU E g34 n34 L34 (aR Tryz.f34 1):=lk Hs UO q3 λX x=>((z3 (u x) X.1),X.2)
theorem Z6:fU E g34 n34 L34 (aR Tryz.f34 0):=lk Hr UN q2 λX x=>((z2 (u x) X.1),X.2)
theorem o34:aU Tryz.prog 34 e34:=fk n34 (((base.add wI).add o36).add o86) Tryz.func34 (Λ:=L34) (cF Z6 (cF Z7 nF))
def e9:aW:=aN [pd (.sl cB)] [(false,(.sl (.own none) eU)),rB] (c1 Pu.lI)
def g9:cG:=(((cG.nil.add 31 NN).add 32 e32).add 33 e33).add 34 e34
def n9:An:={mask:=mk [(5,[0,2,3,4,5])],mv:=[41,63]}
abbrev P5:SD:=⟨.data false (.sl .arg cB)::B::.data false (.sl (.own (some 24576)) eU)::DB::.data false (.sl (.own (some 49152)) eU)::DI::bs 58 [],zs 64 [],.none⟩
def acs {R:Type}(X:SD.D P5)(K:Ex→AS→Option R):=Pu.jJ (λy0 y1=>ke 0 K P5 ((z3 (w y0 (u y1)) X.1),X.2)) (λy0 y1 y2 y3=>kr K P5 ((z1 (w y0 (w y1 (w y2 (u y3)))) X.1),X.2)) X.1.1 X.1.2.1 (q2 X)
def aex:cm:=gw P5 acs (λX=>(q3 X,q4 X))
def L9:cY:=(cY.nil).add 5 aex
theorem aeu:fU E g9 n9 L9 (aR Tryz.f9 0):=lk P5 acs (λX=>(q3 X,q4 X)) λX x=>((z3 (w x.1 (u x.2)) X.1),X.2)
theorem o9:aU Tryz.prog 9 e9:=fk n9 ((((base.add wI).add o32).add o33).add o34) Tryz.func9 (Λ:=L9) (cF aeu nF)
def e79:aW:=aN [pf jk] [(true,Y8)] (c1 Pu.lQ)
theorem o79:aU Tryz.prog 79 e79:=f0 {sb:=mg [(2,2)]} base Tryz.func79
def e27:aW:=aN [pf cB] [(true,(.pair Y8 SR))] (c1 Pu.oR)
theorem o27:aU Tryz.prog 27 e27:=f0 {mv:=[7]} (base.add o79) Tryz.func27
def acH:aW:=aN [pf (.sl .str)] [rB] (c1 Pu.qX)
theorem aeH:aU Tryz.prog 136 acH:=f0 {merge:=mg [(1,2)]} base Tryz.func136
def e64:aW:=aN [pI,pd .str] [rS,rB] (c2 Pu.iV)
theorem o64:aU Tryz.prog 64 e64:=f0 {merge:=mg [(1,15)]} (((base.add wI).add OH).add abI) Tryz.func64
def acI:aW:=aN [pd .str] [rI] (c1 Pu.gZ)
theorem aeI:aU Tryz.prog 137 acI:=f0 {merge:=mg [(2,17),(5,37)]} (((base.add wI).add o64).add TK) Tryz.func137
def e75:aW:=aN [pf (.sl .str)] [rI] (c1 Pu.my)
theorem o75:aU Tryz.prog 75 e75:=f0 {merge:=mg [(5,23)]} ((base.add aeH).add aeI) Tryz.func75
def e76:aW:=aN [pf nE] [rB] (c1 Pu.oz)
theorem o76:aU Tryz.prog 76 e76:=f0 {merge:=mg [(1,2)]} (base.add wI) Tryz.func76
def VA:aW:=aN [pf kl] [rB] (c1 Pu.mz)
theorem abH:aU Tryz.prog 129 VA:=f0 {merge:=mg [(1,2)]} (base.add wI) Tryz.func129
def acK:aW:=aN [pf (.sl gP)] [(true,(.sl (.own none) gP))] (c1 Pu.rl)
theorem aeM:aU Tryz.prog 146 acK:=f0 {} base Tryz.func146
def e80:aW:=aN [pf iE] [(true,Y9)] (c1 Pu.oO)
theorem o80:aU Tryz.prog 80 e80:=f0 {sb:=mg [(2,2)]} (base.add aeM) Tryz.func80
def Zs:aW:=aN [pf lU] [rB] (c1 Pu.jh)
theorem afA:aU Tryz.prog 284 Zs:=f0 {merge:=mg [(1,33),(3,54),(5,2)]} (base.add wI) Tryz.func284
def Zi:aW:=aN [pd (.sl lU)] [rB] (c1 Pu.re)
def ad7:cG:=cG.nil.add 284 Zs
def abh:An:={mask:=mk [(2,[0,2,3])]}
abbrev BT:SD:=⟨.data false (.sl .arg lU)::B::DB::DI::bs 15 [],zs 19 [],.none⟩
def R8 {R:Type}(X:SD.D BT)(K:Ex→AS→Option R):=Pu.mZ (λy0=>ke 0 K BT ((z2 (u y0) X.1),X.2)) (λy0 y1=>kr K BT ((z1 (w y0 (u y1)) X.1),X.2)) X.1.1 X.1.2.1
def W0:cm:=gw BT R8 q2
def Ym:cY:=(cY.nil).add 2 W0
theorem Wa:fU E ad7 abh Ym (aR Tryz.f218 0):=lk BT R8 q2 λX x=>((z2 (u x) X.1),X.2)
theorem ae9:aU Tryz.prog 218 Zi:=fk abh (base.add afA) Tryz.func218 (Λ:=Ym) (cF Wa nF)
def ZB:aW:=aN [pf nG] [rI] (c1 Pu.pS)
def aem:cG:=cG.nil
def abx:An:={mask:=mk [(4,[3,4,5])]}
abbrev FV:SD:=⟨B::B::B::DI::.data false (.sl (.own (some 49152)) (.int .i64))::DI::bs 26 [],zs 32 [],.none⟩
def So {R:Type}(X:SD.D FV)(K:Ex→AS→Option R):=Pu.iU (λy0 y1=>ke 0 K FV ((w y0 (z1 (u y1)) X.1),X.2)) X.1.2.1
def Xg:cm:=gw FV So (λX=>(X.1.1,q2 X))
def YB:cY:=(cY.nil).add 4 Xg
theorem Wq:fU E aem abx YB (aR Tryz.f325 0):=lk FV So (λX=>(X.1.1,q2 X)) λX x=>((w x.1 (z1 (u x.2)) X.1),X.2)
theorem afN:aU Tryz.prog 325 ZB:=fk abx base Tryz.func325 (Λ:=YB) (cF Wq nF)
def Zt:aW:=aN [pf (.sl gP),pf nG] [rI] (c2 Pu.rm)
def aeg:cG:=cG.nil.add 325 ZB
def abq:An:={mask:=mk [(2,[2,3,4,5])],merge:=mg [(7,39)]}
abbrev BX:SD:=⟨B::B::.ptr 2 0::.ptr 3 0::DI::DI::bs 35 [],Z::Z::(some (.sl .arg gP))::(some (.pair (.int .i64) Y2))::zs 37 [],.none⟩
def Si {R:Type}(X:SD.D BX)(K:Ex→AS→Option R):=Pu.jP (λy0=>ke 0 K BX ((z1 (u y0) X.1),X.2)) (λy0 y1=>kr K BX ((w y0 (u y1) X.1),X.2)) X.1.1 X.2.1.1 X.2.1.2.1
def Xa:cm:=gw BX Si (λX=>X.1.2.1)
def Yv:cY:=(cY.nil).add 2 Xa
theorem Wk:fU E aeg abq Yv (aR Tryz.f285 0):=lk BX Si (λX=>X.1.2.1) λX x=>((z1 (u x) X.1),X.2)
theorem afB:aU Tryz.prog 285 Zt:=fk abq (base.add afN) Tryz.func285 (Λ:=Yv) (cF Wk nF)
def Zj:aW:=aN [pf (.sl gP)] [rB] (c1 Pu.rf)
def ad8:cG:=(cG.nil.add 31 NN).add 285 Zt
def abi:An:={mask:=mk [(4,[1,2,3])],merge:=mg [(7,30),(10,42)]}
abbrev BU:SD:=⟨B::.ptr 1 0::DB::DI::bs 45 [],Z::(some (.sl .arg gP))::zs 47 [],.none⟩
def R9 {R:Type}(X:SD.D BU)(K:Ex→AS→Option R):=Pu.na (λy0=>ke 0 K BU ((z1 (u y0) X.1),X.2)) (λy0 y1=>kr K BU ((w y0 (u y1) X.1),X.2)) X.1.1 X.2.1.1
def W1:cm:=gw BU R9 (λX=>X.1.2.1)
def Yn:cY:=(cY.nil).add 4 W1
theorem Wb:fU E ad8 abi Yn (aR Tryz.f219 0):=lk BU R9 (λX=>X.1.2.1) λX x=>((z1 (u x) X.1),X.2)
theorem afa:aU Tryz.prog 219 Zj:=fk abi ((base.add wI).add afB) Tryz.func219 (Λ:=Yn) (cF Wb nF)
def Zu:aW:=aN [pI] [rB] (c1 Pu.rk)
theorem afC:aU Tryz.prog 286 Zu:=f0 {merge:=mg [(1,2)]} base Tryz.func286
def Zk:aW:=aN [pf tY,pI] [rB] (c2 Pu.pV)
def ad9:cG:=(cG.nil.add 31 NN).add 286 Zu
def abj:An:={mask:=mk [(4,[1,2,4,5])],merge:=mg [(1,21)]}
abbrev BV:SD:=⟨B::DI::.ptr 2 0::B::DB::DI::bs 32 [],Z::Z::(some (.pair .str (.sl .arg (.int .i64))))::zs 35 [],.none⟩
def Sa {R:Type}(X:SD.D BV)(K:Ex→AS→Option R):=Pu.lK (λy0=>ke 0 K BV ((z2 (u y0) X.1),X.2)) (λy0 y1=>kr K BV ((z1 (w y0 (u y1)) X.1),X.2)) X.1.1 X.1.2.1 X.2.1.1
def W2:cm:=gw BV Sa q2
def Yo:cY:=(cY.nil).add 4 W2
theorem Wc:fU E ad9 abj Yo (aR Tryz.f220 0):=lk BV Sa q2 λX x=>((z2 (u x) X.1),X.2)
theorem afb:aU Tryz.prog 220 Zk:=fk abj ((base.add wI).add afC) Tryz.func220 (Λ:=Yo) (cF Wc nF)
def VD:aW:=aN [pf iE,pI] [rB] (c2 Pu.jK)
def ZO:cG:=((cG.nil.add 218 Zi).add 219 Zj).add 220 Zk
def Xw:An:={mask:=mk [(4,[1,2,4,5]),(9,[1,2,4,6])],merge:=mg [(1,23)]}
abbrev BL:SD:=⟨B::DI::.ptr 2 0::B::DB::DI::bs 50 [],Z::Z::(some YK)::zs 53 [],.none⟩
def RV {R:Type}(X:SD.D BL)(K:Ex→AS→Option R):=Pu.jy (λy0=>ke 0 K BL ((z2 (u y0) X.1),X.2)) (λy0 y1=>kr K BL ((z1 (w y0 (u y1)) X.1),X.2)) X.1.1 X.1.2.1 X.2.1.1
def WN:cm:=gw BL RV q2
abbrev BM:SD:=⟨B::DI::.ptr 2 0::B::DB::B::DI::bs 49 [],Z::Z::(some YK)::zs 53 [],.none⟩
def RX {R:Type}(X:SD.D BM)(K:Ex→AS→Option R):=Pu.jz (λy0=>ke 2 K BM ((z2 (u y0) X.1),X.2)) (λy0 y1=>kr K BM ((z1 (w y0 (u y1)) X.1),X.2)) X.1.1 X.1.2.1 X.2.1.1
def WO:cm:=gw BM RX q2
def Vm:cY:=((cY.nil).add 4 WN).add 9 WO
theorem VY:fU E ZO Xw Vm (aR Tryz.f141 0):=lk BL RV q2 λX x=>((z2 (u x) X.1),X.2)
theorem VZ:fU E ZO Xw Vm (aR Tryz.f141 1):=lk BM RX q2 λX x=>((z2 (u x) X.1),X.2)
theorem abK:aU Tryz.prog 141 VD:=fk Xw (((base.add ae9).add afa).add afb) Tryz.func141 (Λ:=Vm) (cF VY (cF VZ nF))
def P6:aW:=aN [pf rE] [rB] (c1 Pu.gn)
def ad0:cG:=cG.nil.add 31 NN
def aba:An:={mask:=mk [(5,[1,2,3,4])],merge:=mg [(1,20),(7,50)]}
abbrev BN:SD:=⟨B::.ptr 1 0::DB::.data false (.sl (.own (some 36864)) .bool)::DI::bs 53 [],Z::(some Y19)::zs 56 [],.none⟩
def RY {R:Type}(X:SD.D BN)(K:Ex→AS→Option R):=Pu.oJ (λy0 y1=>ke 0 K BN ((z1 (w y0 (u y1)) X.1),X.2)) (λy0 y1 y2=>kr K BN ((w y0 (w y1 (u y2)) X.1),X.2)) X.1.1 X.2.1.1
def WQ:cm:=gw BN RY (λX=>(X.1.2.1,q2 X))
def Ye:cY:=(cY.nil).add 5 WQ
theorem V0:fU E ad0 aba Ye (aR Tryz.f143 0):=lk BN RY (λX=>(X.1.2.1,q2 X)) λX x=>((z1 (w x.1 (u x.2)) X.1),X.2)
theorem OI:aU Tryz.prog 143 P6:=fk aba (base.add wI) Tryz.func143 (Λ:=Ye) (cF V0 nF)
def adD:aW:=aN [pI,pI,pI] [(true,YJ),rB] (c3 Pu.oH)
def aee:cG:=cG.nil.add 143 P6
def abo:An:={mask:=mk [(3,[2,6,8,9])],merge:=mg [(3,20)],mv:=[24,33]}
abbrev FN:SD:=⟨B::B::DI::B::B::B::.ptr 6 0::B::.ptr 8 0::DI::bs 24 [],zs 6 ((some (.pair (.int .i64) (.pair (.int .i64) (.pair (.int .i64) (.sl (.own (some 73738)) (.int .i64))))))::Z::(some (.pair (.int .i64) (.pair (.int .i64) (.pair (.int .i64) (.sl (.own (some 98314)) (.int .i64))))))::zs 25 []),.none⟩
def Sg {R:Type}(X:SD.D FN)(K:Ex→AS→Option R):=Pu.jI (λy0 y1=>ke 0 K FN ((z1 (u y0) X.1),(z1 (u y1) X.2.1),X.2.2)) X.1.1 X.2.1.1
def W8:cm:=gw FN Sg (λX=>(X.1.2.1,X.2.1.2.1))
def Yt:cY:=(cY.nil).add 3 W8
theorem Wi:fU E aee abo Yt (aR Tryz.f256 0):=lk FN Sg (λX=>(X.1.2.1,X.2.1.2.1)) λX x=>((z1 (u x.1) X.1),(z1 (u x.2) X.2.1),X.2.2)
theorem ab7:aU Tryz.prog 256 adD:=fk abo (base.add OI) Tryz.func256 (Λ:=Yt) (cF Wi nF)
def Zd:aW:=aN [] [(true,Y29)] λa=>Pu.qa
theorem aeZ:aU Tryz.prog 181 Zd:=f0 {mv:=[4,9]} (base.add ab7) Tryz.func181
def e65:aW:=aN [pI,pd (.int .u8)] [rS] (c2 Pu.dI)
def g65:cG:=cG.nil
def n65:An:={mask:=mk [(3,[0,1,5,6])]}
abbrev Mz:SD:=⟨DI::.data false (.int .u8)::B::B::B::.data false (.sl (.own (some 61440)) (.int .u8))::DI::bs 13 [],zs 20 [],.none⟩
def U1 {R:Type}(X:SD.D Mz)(K:Ex→AS→Option R):=Pu.jL (λy0 y1=>ke 0 K Mz ((z2 (w y0 (u y1)) X.1),X.2)) X.1.1 X.1.2.1
def aaT:cm:=gw Mz U1 (λX=>(q2 X,q3 X))
def L65:cY:=(cY.nil).add 3 aaT
theorem aaj:fU E g65 n65 L65 (aR Tryz.f65 0):=lk Mz U1 (λX=>(q2 X,q3 X)) λX x=>((z2 (w x.1 (u x.2)) X.1),X.2)
theorem o65:aU Tryz.prog 65 e65:=fk n65 base Tryz.func65 (Λ:=L65) (cF aaj nF)
def S7:aW:=aN [pf (.sl .str)] [(true,(.sl (.own none) .str))] (c1 Pu.hH)
theorem TL:aU Tryz.prog 175 S7:=f0 {} base Tryz.func175
def Zc:aW:=aN [pf rE] [(true,YJ)] (c1 Pu.lP)
theorem abZ:aU Tryz.prog 177 Zc:=f0 {sb:=mg [(2,2)]} base Tryz.func177
def adI:aW:=aN [pI] [rB] (c1 Pu.lO)
theorem XF:aU Tryz.prog 282 adI:=f0 {merge:=mg [(1,2)]} base Tryz.func282
def adJ:aW:=aN [pf nE] [rI] (c1 Pu.mF)
theorem ab8:aU Tryz.prog 283 adJ:=f0 {} (base.add XF) Tryz.func283
def VF:aW:=aN [pf nE] [rB] (c1 Pu.jg)
theorem QY:aU Tryz.prog 216 VF:=f0 {merge:=mg [(1,2)]} (((base.add wI).add XF).add ab8) Tryz.func216
def Zr:aW:=aN [pf rE,pI] [rI] (c2 Pu.ju)
theorem afv:aU Tryz.prog 252 Zr:=f0 {merge:=mg [(1,15)]} ((base.add wI).add OI) Tryz.func252
def Zx:aW:=aN [pf nE] [rI] (c1 Pu.mE)
theorem ab9:aU Tryz.prog 301 Zx:=f0 {} ((base.add QY).add ab8) Tryz.func301
def VB:aW:=aN [pf (.sl .str)] [rB] (c1 Pu.kc)
def adY:cG:=cG.nil
def aa8:An:={mask:=mk [(2,[1,2,3])]}
abbrev BI:SD:=⟨B::.ptr 1 0::DB::DI::bs 18 [],Z::(some (.sl .arg .str))::zs 20 [],.none⟩
def RS {R:Type}(X:SD.D BI)(K:Ex→AS→Option R):=Pu.lF (λy0=>ke 0 K BI ((z1 (u y0) X.1),X.2)) (λy0 y1=>kr K BI ((w y0 (u y1) X.1),X.2)) X.1.1 X.2.1.1
def WK:cm:=gw BI RS (λX=>X.1.2.1)
def Yc:cY:=(cY.nil).add 2 WK
theorem VV:fU E adY aa8 Yc (aR Tryz.f138 0):=lk BI RS (λX=>X.1.2.1) λX x=>((z1 (u x) X.1),X.2)
theorem XB:aU Tryz.prog 138 VB:=fk aa8 base Tryz.func138 (Λ:=Yc) (cF VV nF)
def VC:aW:=aN [pd (.sl dU)] [rB] (c1 Pu.jG)
def ZN:cG:=cG.nil.add 31 NN
def Xv:An:={mask:=mk [(4,[0,2,3]),(10,[0,2,3,4,5])],merge:=mg [(7,34),(12,57)]}
abbrev xJ:SD:=⟨.data false (.sl .arg dU)::B::DB::DI::.ptr 4 0::DI::bs 52 [],zs 4 ((some (.pair (.int .i64) (.pair (.int .i64) (.pair (.int .i64) .bool))))::zs 53 []),.none⟩
def Np {R:Type}(X:SD.D xJ)(K:Ex→AS→Option R):=Pu.iA (λy0=>ke 2 K xJ ((z3 (u y0) X.1),X.2)) (λy0 y1=>kr K xJ ((z1 (w y0 (z1 (u y1))) X.1),X.2)) X.1.1 X.1.2.1 (q2 X) X.2.1.1
def Tx:cm:=gw xJ Np q3
abbrev BJ:SD:=⟨.data false (.sl .arg dU)::B::DB::DI::bs 54 [],zs 58 [],.none⟩
def RT {R:Type}(X:SD.D BJ)(K:Ex→AS→Option R):=Pu.jw (λy0=>ke 0 K BJ ((z2 (u y0) X.1),X.2)) (λy0 y1=>kr K BJ ((z1 (w y0 (u y1)) X.1),X.2)) X.1.1 X.1.2.1
def WL:cm:=gw BJ RT q2
def Vl:cY:=((cY.nil).add 10 Tx).add 4 WL
theorem Tt:fU E ZN Xv Vl (aR Tryz.f139 1):=lk xJ Np q3 λX x=>((z3 (u x) X.1),X.2)
theorem VW:fU E ZN Xv Vl (aR Tryz.f139 0):=lk BJ RT q2 λX x=>((z2 (u x) X.1),X.2)
theorem abJ:aU Tryz.prog 139 VC:=fk Xv (base.add wI) Tryz.func139 (Λ:=Vl) (cF VW (cF Tt nF))
def ZE:aW:=aN [pd (.sl dU),pI,pI,pd .bool] [rI] (c4 Pu.rn)
def aeo:cG:=cG.nil
def abz:An:={mask:=mk [(2,[0,1,2,3,8,9])],merge:=mg [(4,42)]}
abbrev B0:SD:=⟨.data false (.sl .arg dU)::DI::DI::DB::bs 4 (DI::DI::bs 38 []),zs 48 [],.none⟩
def Sq {R:Type}(X:SD.D B0)(K:Ex→AS→Option R):=Pu.nf (λy0=>ke 0 K B0 ((z5 (u y0) X.1),X.2)) (λy0 y1=>kr K B0 ((z4 (w y0 (u y1)) X.1),X.2)) X.1.1 X.1.2.1 (q2 X) (q3 X) (q4 X)
def Xi:cm:=gw B0 Sq q5
def YD:cY:=(cY.nil).add 2 Xi
theorem Ws:fU E aeo abz YD (aR Tryz.f332 0):=lk B0 Sq q5 λX x=>((z5 (u x) X.1),X.2)
theorem afS:aU Tryz.prog 332 ZE:=fk abz base Tryz.func332 (Λ:=YD) (cF Ws nF)
def VG:aW:=aN [pf (.sl .str),pI,pI] [rB] (c3 Pu.jc)
theorem acb:aU Tryz.prog 333 VG:=f0 {merge:=mg [(2,6)]} (base.add XB) Tryz.func333
def Zw:aW:=aN [pd (.sl dU),pf (.sl .str),pI,pI,pI,pd .bool] [(false,(.sl (.own none) (.int .i64))),(false,(.sl (.own none) (.int .i64))),rB] (c6 Pu.pY)
def aek:cG:=((((cG.nil.add 31 NN).add 138 VB).add 139 VC).add 332 ZE).add 333 VG
def abv:An:={mask:=mk [(5,[0,2,3,4,5,7,12,13,14,15,16])],merge:=mg [(3,34),(10,57)],mv:=[35,36,64,71,81,82]}
abbrev BZ:SD:=⟨.data false (.sl .arg dU)::B::DI::DI::DI::DB::B::.ptr 7 0::bs 4 (.data false (.sl (.own (some 147456)) (.int .i64))::.data false (.sl (.own (some 159744)) (.int .i64))::DB::.data false (.sl (.own (some 184320)) (.int .i64))::.data false (.sl (.own (some 196608)) (.int .i64))::bs 66 []),zs 7 ((some (.sl .arg .str))::zs 75 []),.none⟩
def Sm {R:Type}(X:SD.D BZ)(K:Ex→AS→Option R):=Pu.gv (λy0 y1 y2 y3=>ke 0 K BZ ((z2 (w y0 (w y1 (z4 (w y2 (u y3))))) X.1),X.2)) (λy0 y1 y2 y3 y4 y5 y6=>kr K BZ ((z2 (w y0 (w y1 (z1 (w y2 (w y3 (w y4 (w y5 (u y6)))))))) X.1),X.2)) X.1.1 X.1.2.1 (q4 X) (q5 X) (q6 X) (q7 X) X.2.1.1
def Xe:cm:=gw BZ Sm (λX=>(q2 X,q3 X,q8 X,q9 X))
def Yz:cY:=(cY.nil).add 5 Xe
theorem Wo:fU E aek abv Yz (aR Tryz.f299 0):=lk BZ Sm (λX=>(q2 X,q3 X,q8 X,q9 X)) λX x=>((z2 (w x.1 (w x.2.1 (z4 (w x.2.2.1 (u x.2.2.2))))) X.1),X.2)
theorem afK:aU Tryz.prog 299 Zw:=fk abv (((((base.add wI).add XB).add abJ).add afS).add acb) Tryz.func299 (Λ:=Yz) (cF Wo nF)
def ZF:aW:=aN [pf (.sl .str),pI,pd .str] [(true,(.sl (.own none) .str)),rB] (c3 Pu.lN)
def aep:cG:=((cG.nil.add 175 S7).add 228 Zl).add 333 VG
def abA:An:={mask:=mk [(4,[1,2,6,8])],mv:=[19,52]}
abbrev FX:SD:=⟨B::DI::.data false .str::B::B::B::.ptr 6 0::B::.ptr 8 0::bs 44 [],zs 6 ((some (.sl (.own (some 73729)) .str))::Z::(some (.sl (.own (some 98305)) .str))::zs 44 []),.none⟩
def Sr {R:Type}(X:SD.D FX)(K:Ex→AS→Option R):=Pu.iC (λy0 y1 y2=>ke 0 K FX ((w y0 (u y1) X.1),(z1 (u y2) X.2.1),X.2.2)) X.2.1.1
def Xj:cm:=gw FX Sr (λX=>(X.1.1,X.1.2.1,X.2.1.2.1))
def YE:cY:=(cY.nil).add 4 Xj
theorem Wt:fU E aep abA YE (aR Tryz.f336 0):=lk FX Sr (λX=>(X.1.1,X.1.2.1,X.2.1.2.1)) λX x=>((w x.1 (u x.2.1) X.1),(z1 (u x.2.2) X.2.1),X.2.2)
theorem afV:aU Tryz.prog 336 ZF:=fk abA (((base.add TL).add XD).add acb) Tryz.func336 (Λ:=YE) (cF Wt nF)
def ZA:aW:=aN [pd (.sl dU),pf (.sl .str),pI,pI,pd .str] [(true,(.sl (.own none) .str)),rB] (c5 Pu.mB)
def ael:cG:=((cG.nil.add 175 S7).add 299 Zw).add 336 ZF
def abw:An:={mask:=mk [(6,[4,10,12,13,15,16])],mv:=[32,39,52,60],sb:=mg [(15,15)]}
abbrev FU:SD:=⟨bs 4 (.data false .str::bs 5 (.ptr 10 0::B::.data false (.sl .loc (.int .i64))::.data false (.sl .loc (.int .i64))::B::.ptr 15 0::DI::bs 44 [])),zs 10 ((some (.sl (.own (some 122881)) .str))::zs 4 ((some (.sl (.own (some 184321)) .str))::zs 45 [])),.none⟩
def Sn {R:Type}(X:SD.D FU)(K:Ex→AS→Option R):=Pu.iS (λy0 y1 y2=>ke 0 K FU ((w y0 (z2 (u y1)) X.1),(z1 (u y2) X.2.1),X.2.2)) X.1.2.1 (q2 X) X.2.1.1
def Xf:cm:=gw FU Sn (λX=>(X.1.1,q3 X,X.2.1.2.1))
def YA:cY:=(cY.nil).add 6 Xf
theorem Wp:fU E ael abw YA (aR Tryz.f304 0):=lk FU Sn (λX=>(X.1.1,q3 X,X.2.1.2.1)) λX x=>((w x.1 (z2 (u x.2.1)) X.1),(z1 (u x.2.2) X.2.1),X.2.2)
theorem aca:aU Tryz.prog 304 ZA:=fk abw (((base.add TL).add afK).add afV) Tryz.func304 (Λ:=YA) (cF Wp nF)
def adU:aW:=aN [pf nE,pI] [rI] (c2 Pu.lJ)
theorem afT:aU Tryz.prog 334 adU:=f0 {merge:=mg [(1,11)]} (base.add QY) Tryz.func334
def Zy:aW:=aN [pd (.sl dU),pf (.sl .str),pI,pf nE,pd .str] [(true,(.sl (.own none) .str)),(true,Y2),rB] (c5 Pu.rb)
theorem afL:aU Tryz.prog 302 Zy:=f0 {merge:=mg [(1,22)],mv:=[26,36,51],mb:=mg [(51,13)],sb:=mg [(10,10),(11,11),(13,13)]} ((((base.add TL).add ab9).add aca).add afT) Tryz.func302
def adV:aW:=aN [pf Mg] [rB] (c1 Pu.s7)
theorem afU:aU Tryz.prog 335 adV:=f0 {merge:=mg [(1,2)]} (base.add wI) Tryz.func335
def Zz:aW:=aN [pf Mg] [rS] (c1 Pu.mT)
theorem afM:aU Tryz.prog 303 Zz:=f0 {} (((base.add OH).add OJ).add afU) Tryz.func303
def adC:aW:=aN [pd (.sl dU),pf (.sl .str),pI,pf nE,pf rE] [(true,(.sl (.own none) .str)),(true,Y2),(true,YJ),rI] (c5 Pu.pR)
def aed:cG:=(((((((cG.nil.add 143 P6).add 175 S7).add 177 Zc).add 216 VF).add 252 Zr).add 301 Zx).add 302 Zy).add 303 Zz
def abn:An:={mask:=mk [(6,[0,2,8,9,10,11,12,14,15,16])],merge:=mg [(4,32),(6,44)],mv:=[33,35,49,63,68,78,80],mb:=mg [(33,14),(35,15),(78,14),(80,15)],sb:=mg [(10,10),(11,11),(12,12),(18,18),(19,19)]}
abbrev FL:SD:=⟨.data false (.sl .arg dU)::B::DI::bs 5 (.ptr 8 0::.ptr 9 0::.ptr 10 0::.ptr 11 0::.ptr 12 0::B::.ptr 14 0::.ptr 15 0::DI::bs 65 []),zs 8 ((some Y2)::(some Y19)::(some (.sl (.own (some 122881)) .str))::(some Y2)::(some (.pair (.int .i64) (.pair (.int .i64) (.pair (.int .i64) (.sl (.own (some 147466)) (.int .i64))))))::Z::(some (.sl (.own (some 172033)) .str))::(some (.pair (.int .i64) (.pair (.int .i64) (.pair (.int .i64) (.sl (.own (some 184330)) (.int .i64))))))::zs 66 []),.none⟩
def Sf {R:Type}(X:SD.D FL)(K:Ex→AS→Option R):=Pu.iT (λy0 y1 y2 y3=>ke 0 K FL ((z2 (u y0) X.1),(w y1 (z4 (w y2 (u y3))) X.2.1),X.2.2)) X.1.1 X.1.2.1 X.2.1.2.1 X.2.1.2.2.1 X.2.1.2.2.2.1 X.2.1.2.2.2.2.1
def W7:cm:=gw FL Sf (λX=>(q2 X,X.2.1.1,X.2.1.2.2.2.2.2.1,X.2.1.2.2.2.2.2.2.1))
def Ys:cY:=(cY.nil).add 6 W7
theorem Wh:fU E aed abn Ys (aR Tryz.f255 0):=lk FL Sf (λX=>(q2 X,X.2.1.1,X.2.1.2.2.2.2.2.1,X.2.1.2.2.2.2.2.2.1)) λX x=>((z2 (u x.1) X.1),(w x.2.1 (z4 (w x.2.2.1 (u x.2.2.2))) X.2.1),X.2.2)
theorem afw:aU Tryz.prog 255 adC:=fk abn ((((((((base.add OI).add TL).add abZ).add QY).add afv).add ab9).add afL).add afM) Tryz.func255 (Λ:=Ys) (cF Wh nF)
def adE:aW:=aN [pd (.sl dU),pf (.sl .str),pI,pI,pd .str] [(true,(.sl (.own none) .str)),rB] (c5 Pu.oF)
def aef:cG:=cG.nil.add 304 ZA
def abp:An:={mask:=mk [(3,[0,2,3,4,6,10,12,13])],mv:=[27]}
abbrev FO:SD:=⟨.data false (.sl .arg dU)::B::DI::DI::.data false .str::B::.ptr 6 0::B::B::B::.ptr 10 0::B::.data false (.sl (.own (some 147456)) dU)::DI::bs 25 [],zs 6 ((some (.sl .arg .str))::Z::Z::Z::(some (.sl (.own (some 122881)) .str))::zs 28 []),.none⟩
def Sh {R:Type}(X:SD.D FO)(K:Ex→AS→Option R):=Pu.kE (λy0 y1=>ke 0 K FO ((z4 (w y0 (u y1)) X.1),X.2)) X.1.1 X.1.2.1 (q2 X) (q3 X) X.2.1.1 X.2.1.2.1
def W9:cm:=gw FO Sh (λX=>(q4 X,q5 X))
def Yu:cY:=(cY.nil).add 3 W9
theorem Wj:fU E aef abp Yu (aR Tryz.f257 0):=lk FO Sh (λX=>(q4 X,q5 X)) λX x=>((z4 (w x.1 (u x.2)) X.1),X.2)
theorem afx:aU Tryz.prog 257 adE:=fk abp (base.add aca) Tryz.func257 (Λ:=Yu) (cF Wj nF)
def Ze:aW:=ga (.pair (.sl (.own none) .str) (.pair (.sl (.own none) dU) (.pair (.pair (.pair (.int .i64) (.pair (.int .i64) (.pair (.int .i64) (.int .i64)))) (.pair (.pair (.int .i64) (.pair (.int .i64) (.pair (.int .i64) (.sl (.own none) (.int .i64))))) (.pair (.sl (.own none) uR) (.int .i64)))) (.pair (.sl (.own none) ma) (.pair (.sl (.own none) rE) (.pair (.sl (.own none) nH) (.pair (.sl (.own none) .bool) (.pair (.pair (.int .i64) (.pair .bool (.sl (.own none) (.int .i64)))) (.pair (.pair (.sl (.own none) lU) (.pair (.sl (.own none) gP) (.pair .str (.sl (.own none) (.int .i64))))) (.pair (.sl (.own none) dB) (.pair .bool (.pair (.sl (.own none) .str) (.pair (.sl (.own none) (.int .i64)) (.pair (.sl (.own none) (.int .i64)) (.pair (.int .i64) (.pair (.int .i64) (.pair (.int .i64) (.pair (.int .i64) (.int .i64))))))))))))))))))) [pI] [] λx a=>Pu.oS x a.1
theorem ae0:aU Tryz.prog 182 Ze:=aU.lY (lV (an:={mv:=[47,51,65,67,84],mb:=mg [(84,6)],sb:=mg [(6,6),(50,0),(70,0),(71,5)]}) (Λ:=cY.nil) ((((base.add o65).add afw).add ab7).add afx) Tryz.func182 (by kernel_rfl) (ao nF)) (λx a=>by kernel_rfl)
def adh:aW:=aN [pf nH] [rB] (c1 Pu.tc)
theorem afd:aU Tryz.prog 222 adh:=f0 {merge:=mg [(1,2)]} base Tryz.func222
def YX:aW:=aN [pf nH] [rB] (c1 Pu.ie)
theorem abL:aU Tryz.prog 144 YX:=f0 {merge:=mg [(1,24),(3,2)]} ((base.add wI).add afd) Tryz.func144
def Zf:aW:=aN [pI,pI] [(true,Y22),rB] (c2 Pu.oI)
theorem ae1:aU Tryz.prog 209 Zf:=f0 {} (base.add abL) Tryz.func209
def Zg:aW:=aN [pI] [(true,(.sl (.own none) .str))] (c1 Pu.iX)
def ad6:cG:=cG.nil.add 65 e65
def abg:An:={mask:=mk [(3,[0,2,3,4])],merge:=mg [(3,12)],mv:=[16,21],mb:=mg [(16,3)],sb:=mg [(20,3)]}
abbrev FB:SD:=⟨DI::B::.ptr 2 0::.ptr 3 0::DI::bs 17 [],Z::Z::(some (.sl (.own (some 24577)) .str))::(some (.sl (.own (some 36865)) .str))::zs 18 [],.none⟩
def R7 {R:Type}(X:SD.D FB)(K:Ex→AS→Option R):=Pu.kF (λy0 y1=>ke 0 K FB ((z1 (u y0) X.1),(z1 (u y1) X.2.1),X.2.2)) X.1.1 X.2.1.1
def WZ:cm:=gw FB R7 (λX=>(X.1.2.1,X.2.1.2.1))
def Yl:cY:=(cY.nil).add 3 WZ
theorem V9:fU E ad6 abg Yl (aR Tryz.f210 0):=lk FB R7 (λX=>(X.1.2.1,X.2.1.2.1)) λX x=>((z1 (u x.1) X.1),(z1 (u x.2) X.2.1),X.2.2)
theorem ae2:aU Tryz.prog 210 Zg:=fk abg (base.add o65) Tryz.func210 (Λ:=Yl) (cF V9 nF)
def YS:aW:=aN [pI,pf jk,pf iE,pd .bool,pI,pI] [(true,(.pair (.sl (.own none) .str) (.pair (.sl (.own none) dU) (.pair Y29 (.pair (.sl (.own none) ma) (.pair (.sl (.own none) rE) (.pair (.sl (.own none) nH) (.pair (.sl (.own none) .bool) (.pair Y8 (.pair Y9 (.pair (.sl (.own none) dB) (.pair .bool (.pair (.sl (.own none) .str) (.pair (.sl (.own none) (.int .i64)) (.pair (.sl (.own none) (.int .i64)) (.pair (.int .i64) Y2)))))))))))))))),rB] (c6 Pu.lH)
def ZL:cG:=((((((((cG.nil.add 31 NN).add 79 e79).add 80 e80).add 86 e86).add 141 VD).add 181 Zd).add 182 Ze).add 209 Zf).add 210 Zg
def Xt:An:={mask:=mk [(6,[0,12,14,16,17]),(10,[0,12,14,16,18])],merge:=mg [(2,42)],mv:=[57,74,80,86,92,98],mb:=mg [(57,16)],sb:=mg [(16,16),(67,16)]}
abbrev Fv:SD:=⟨DI::bs 11 (.ptr 12 0::B::.ptr 14 0::B::.ptr 16 0::DI::bs 81 []),zs 12 ((some Y7)::Z::(some Y22)::Z::(some Y6)::zs 82 []),.none⟩
def RP {R:Type}(X:SD.D Fv)(K:Ex→AS→Option R):=Pu.jH (λy0 y1=>ke 0 K Fv ((z1 (u y0) X.1),(z2 (u y1) X.2.1),X.2.2)) X.1.1 X.2.1.1 X.2.1.2.1
def WH:cm:=gw Fv RP (λX=>(X.1.2.1,X.2.1.2.2.1))
abbrev Be:SD:=⟨DI::bs 11 (.ptr 12 0::B::.ptr 14 0::B::.ptr 16 0::B::DI::bs 80 []),zs 12 ((some Y7)::Z::(some Y22)::Z::(some Y6)::zs 82 []),.none⟩
def No {R:Type}(X:SD.D Be)(K:Ex→AS→Option R):=Pu.iW (λy0 y1=>ke 2 K Be ((z1 (u y0) X.1),(z2 (u y1) X.2.1),X.2.2)) X.1.1 X.2.1.1 X.2.1.2.1
def Tw:cm:=gw Be No (λX=>(X.1.2.1,X.2.1.2.2.1))
def Vj:cY:=((cY.nil).add 6 WH).add 10 Tw
theorem VS:fU E ZL Xt Vj (aR Tryz.f130 0):=lk Fv RP (λX=>(X.1.2.1,X.2.1.2.2.1)) λX x=>((z1 (u x.1) X.1),(z2 (u x.2) X.2.1),X.2.2)
theorem Ts:fU E ZL Xt Vj (aR Tryz.f130 1):=lk Be No (λX=>(X.1.2.1,X.2.1.2.2.1)) λX x=>((z1 (u x.1) X.1),(z2 (u x.2) X.2.1),X.2.2)
theorem aeD:aU Tryz.prog 130 YS:=fk Xt (((((((((base.add wI).add o79).add o80).add o86).add abK).add aeZ).add ae0).add ae1).add ae2) Tryz.func130 (Λ:=Vj) (cF VS (cF Ts nF))
def e61:aW:=aN [pd (.sl cB),pf iE,pd .bool,pf kl,pf (.sl .str),pI] [(true,Y13),rB] (c6 Pu.lG)
def g61:cG:=(((((cG.nil.add 9 e9).add 27 e27).add 75 e75).add 76 e76).add 129 VA).add 130 YS
def n61:An:={mask:=mk [(6,[0,2,7,9,12,13,16,17])],merge:=mg [(3,50)],mv:=[58,67,73,74,79,89,98],mb:=mg [(89,16)],sb:=mg [(18,18),(97,16)]}
abbrev Hy:SD:=⟨.data false (.sl .arg cB)::B::DB::bs 4 (.ptr 7 0::B::.ptr 9 0::B::B::.ptr 12 0::DB::B::B::.ptr 16 0::DI::bs 81 []),zs 7 ((some YK)::Z::(some SR)::Z::Z::(some (.pair (.sl (.own (some 147457)) kN) (.pair (.sl (.own (some 147460)) aY) (.pair (.sl (.own (some 147463)) cB) (.pair (.sl (.own (some 147466)) .str) (.pair Y2 (.pair (.sl (.own (some 147481)) (.int .i64)) (.sl (.own (some 147484)) .str))))))))::Z::Z::Z::(some (.pair (.sl (.own (some 196609)) kN) (.pair (.sl (.own (some 196612)) aY) (.pair (.sl (.own (some 196615)) cB) (.pair (.sl (.own (some 196618)) .str) (.pair Y2 (.pair (.sl (.own (some 196633)) (.int .i64)) (.sl (.own (some 196636)) .str))))))))::zs 82 []),.none⟩
def UY {R:Type}(X:SD.D Hy)(K:Ex→AS→Option R):=Pu.mW (λy0 y1=>ke 0 K Hy ((z3 (u y0) X.1),(z3 (u y1) X.2.1),X.2.2)) (λy0 y1 y2 y3=>kr K Hy ((z2 (w y0 (u y1)) X.1),(z2 (w y2 (u y3)) X.2.1),X.2.2)) X.1.1 X.1.2.1 (q2 X) X.2.1.1 X.2.1.2.1 X.2.1.2.2.1
def aaQ:cm:=gw Hy UY (λX=>(q3 X,X.2.1.2.2.2.1))
def L61:cY:=(cY.nil).add 6 aaQ
theorem aag:fU E g61 n61 L61 (aR Tryz.f61 0):=lk Hy UY (λX=>(q3 X,X.2.1.2.2.2.1)) λX x=>((z3 (u x.1) X.1),(z3 (u x.2) X.2.1),X.2.2)
theorem o61:aU Tryz.prog 61 e61:=fk n61 ((((((base.add o9).add o27).add o75).add o76).add abH).add aeD) Tryz.func61 (Λ:=L61) (cF aag nF)
def ac9:aW:=ga (.pair (.sl .arg0 (.int .u8)) (.pair (.int .i64) (.int .i64))) [] [(true,Y8)] λx a=>Pu.oP x
theorem ae3:aU Tryz.prog 211 ac9:=aU.lY (lV (an:={mv:=[11]}) (Λ:=cY.nil) (base.add TM) Tryz.func211 (by kernel_rfl) (ao nF)) (λx a=>by kernel_rfl)
def YT:aW:=ga (.pair (.sl .arg0 (.int .u8)) (.pair (.int .i64) (.int .i64))) [] [(true,(.pair Y8 SR))] λx a=>Pu.td x
theorem aeE:aU Tryz.prog 131 YT:=aU.lY (lV (an:={}) (Λ:=cY.nil) ((base.add OK).add ae3) Tryz.func131 (by kernel_rfl) (ao nF)) (λx a=>by kernel_rfl)
def e62:aW:=ga (.pair (.sl .arg0 (.int .u8)) (.pair (.int .i64) (.int .i64))) [] [(false,(.sl (.own none) cB))] λx a=>Pu.qb x
def g62:cG:=(cG.nil.add 23 X0).add 131 YT
def n62:An:={mask:=mk [(3,[0,3,4])],mv:=[22,23,26]}
abbrev Mx:SD:=⟨.ptr 0 0::B::B::.data false (.sl (.own (some 36864)) cB)::DI::bs 22 [],(some Y4)::zs 26 [],.ptr⟩
def UZ {R:Type}(X:SD.D Mx)(K:Ex→AS→Option R):=Pu.px (λy0 y1 y2=>ke 0 K Mx ((w y0 (u y1) X.1),(u y2 X.2.1),X.2.2))
def aaR:cm:=gw Mx UZ (λX=>(X.1.1,X.1.2.1,X.2.1.1))
def L62:cY:=(cY.nil).add 3 aaR
theorem aah:fU E g62 n62 L62 (aR Tryz.f62 0):=lk Mx UZ (λX=>(X.1.1,X.1.2.1,X.2.1.1)) λX x=>((w x.1 (u x.2.1) X.1),(u x.2.2 X.2.1),X.2.2)
theorem o62:aU Tryz.prog 62 e62:=aU.lY (lV (Γ:=g62) (an:=n62) (Λ:=L62) ((base.add OK).add aeE) Tryz.func62 (by kernel_rfl) (ao (cF aah nF))) (λx a=>by kernel_rfl)
def e70:aW:=ga (.pair (.sl .arg0 (.int .u8)) (.pair (.int .i64) (.int .i64))) [] [rS] λx a=>Pu.mG x
theorem o70:aU Tryz.prog 70 e70:=aU.lY (lV (an:={}) (Λ:=cY.nil) ((((base.add OK).add SN).add o64).add OG) Tryz.func70 (by kernel_rfl) (ao nF)) (λx a=>by kernel_rfl)
def e63:aW:=ga (.pair (.sl .arg0 (.int .u8)) (.pair (.int .i64) (.int .i64))) [] [(true,(.sl (.own none) .str))] λx a=>Pu.pZ x
def g63:cG:=(((cG.nil.add 59 X1).add 65 e65).add 70 e70).add 128 Vz
def n63:An:={mask:=mk [(3,[0,2,3,4])],mv:=[18,28],mb:=mg [(18,3)],sb:=mg [(27,3)]}
abbrev My:SD:=⟨.ptr 0 0::B::.ptr 2 0::.ptr 3 0::DI::bs 24 [],(some Y4)::Z::(some (.sl (.own (some 24577)) .str))::(some (.sl (.own (some 36865)) .str))::zs 25 [],.ptr⟩
def U0 {R:Type}(X:SD.D My)(K:Ex→AS→Option R):=Pu.po (λy0 y1 y2=>ke 0 K My ((u y0 X.1),(w y1 (z1 (u y2)) X.2.1),X.2.2)) X.2.1.2.1
def aaS:cm:=gw My U0 (λX=>(X.1.1,X.2.1.1,X.2.1.2.2.1))
def L63:cY:=(cY.nil).add 3 aaS
theorem aai:fU E g63 n63 L63 (aR Tryz.f63 0):=lk My U0 (λX=>(X.1.1,X.2.1.1,X.2.1.2.2.1)) λX x=>((u x.1 X.1),(w x.2.1 (z1 (u x.2.2)) X.2.1),X.2.2)
theorem o63:aU Tryz.prog 63 e63:=aU.lY (lV (Γ:=g63) (an:=n63) (Λ:=L63) ((((base.add TM).add o65).add o70).add OG) Tryz.func63 (by kernel_rfl) (ao (cF aai nF))) (λx a=>by kernel_rfl)
def e21:aW:=ga (.pair (.sl .arg0 (.int .u8)) (.pair (.int .i64) (.int .i64))) [] [(true,Y13)] λx a=>Pu.tf x
def ZR:cG:=(((((((((cG.nil.add 23 X0).add 57 e57).add 58 e58).add 59 X1).add 60 ZH).add 61 e61).add 62 e62).add 63 e63).add 64 e64).add 65 e65
def Ut:An:={mask:=mk [(2,[0,2,3]),(1000006,[0,2,3]),(1000007,[0,2,3]),(1000008,[0,2,3]),(1000009,[0,2,3]),(1000014,[0,2,3,4]),(1000015,[0,2,3])],cut:=[3,4,7],mv:=[35,49,52,66,80,82],sb:=mg [(6,6),(11,11),(36,0),(39,0),(43,0),(45,0)]}
abbrev vk:SD:=⟨.ptr 0 0::B::.ptr 2 0::DI::.ptr 4 0::bs 78 [],(some Y4)::Z::(some Y1)::Z::(some (.pair (.sl (.own (some 49153)) lU) (.pair (.sl (.own (some 49156)) gP) (.pair .str (.sl (.own (some 49162)) (.int .i64))))))::zs 78 [],.ptr⟩
abbrev xL:SD:=⟨.ptr 0 0::B::.ptr 2 0::DI::bs 79 [],(some Y4)::Z::(some Y1)::zs 80 [],.ptr⟩
def Aw {R:Type}(X:SD.D vk)(K:Ex→AS→Option R):Option R:=Pu.k7 (λy0=>kn K xL ((X.1.1,()),(y0,(X.2.1.2.1,())),())) (λy0 y1=>kr K xL ((X.1.1,()),(y0,(y1,())),())) X.1.1 X.2.1.1 X.2.1.2.1 X.2.1.2.2.1
def II:cm:=Bg vk Aw
abbrev sF:SD:=⟨.ptr 0 0::B::.ptr 2 0::DI::bs 79 [],(some Y4)::Z::(some Y1)::zs 80 [],.ptr⟩
def Au {R:Type}(X:SD.D sF)(K:Ex→AS→Option R):Option R:=Pu.k6 (λy0=>kn K sF ((u y0 X.1),X.2)) X.1.1 X.2.1.1 X.2.1.2.1
def IG:cm:=Bg sF Au
abbrev qh:SD:=⟨.ptr 0 0::B::.ptr 2 0::DI::bs 79 [],(some Y4)::Z::(some Y1)::zs 80 [],.ptr⟩
def Av {R:Type}(X:SD.D qh)(K:Ex→AS→Option R):Option R:=Pu.oT (λy0 y1=>kn K qh ((u y0 X.1),(u y1 X.2.1),X.2.2)) (λy0 y1=>kr K qh (X.1,(w y0 (u y1) X.2.1),X.2.2)) X.1.1 X.2.1.1 X.2.1.2.1
def IH:cm:=Bg qh Av
abbrev Hp:SD:=⟨.ptr 0 0::B::.ptr 2 0::DI::bs 79 [],(some Y4)::Z::(some Y1)::zs 80 [],.ptr⟩
def UH {R:Type}(X:SD.D Hp)(K:Ex→AS→Option R):=Pu.su (λy0 y1=>ke 0 K Hp ((u y0 X.1),(u y1 X.2.1),X.2.2)) (λy0 y1 y2=>kr K Hp ((u y0 X.1),(w y1 (u y2) X.2.1),X.2.2)) X.2.1.2.1
def aaA:cm:=gw Hp UH (λX=>(X.1.1,X.2.1.1))
def Yk:cY:=((((cY.nil).add 1000014 II).add 1000006 IG).add 1000008 IH).add 2 aaA
theorem Iq:yU E ZR Ut Yk (eP Ut.cut Tryz.f21 1):=ck vk Aw
theorem Im:yU E ZR Ut Yk (eP Ut.cut Tryz.f21 2):=ck sF Au
theorem Io:yU E ZR Ut Yk (eP Ut.cut Tryz.f21 0):=ck qh Av
theorem Z0:fU E ZR Ut Yk (aR Tryz.f21 0):=lk Hp UH (λX=>(X.1.1,X.2.1.1)) λX x=>((u x.1 X.1),(u x.2 X.2.1),X.2.2)
theorem o21:aU Tryz.prog 21 e21:=aU.lY (lV (Γ:=ZR) (an:=Ut) (Λ:=Yk) ((((((((((base.add OK).add o57).add o58).add TM).add SN).add o61).add o62).add o63).add o64).add o65) Tryz.func21 (by kernel_rfl) (ac (cF Z0 nF) (cF Io (cF Iq (cF Im nF))))) (λx a=>by kernel_rfl)
def ada:aW:=ga (.pair (.sl .arg0 (.int .u8)) (.pair (.int .i64) (.int .i64))) [] [rI] λx a=>Pu.rh x
theorem ae4:aU Tryz.prog 212 ada:=aU.lY (lV (an:={}) (Λ:=cY.nil) (base.add OK) Tryz.func212 (by kernel_rfl) (ao nF)) (λx a=>by kernel_rfl)
def adG:aW:=ga (.pair (.sl .arg0 (.int .u8)) (.pair (.int .i64) (.int .i64))) [] [rI] λx a=>Pu.pX x
theorem afy:aU Tryz.prog 280 adG:=aU.lY (lV (an:={}) (Λ:=cY.nil) (base.add SN) Tryz.func280 (by kernel_rfl) (ao nF)) (λx a=>by kernel_rfl)
def adb:aW:=ga (.pair (.sl .arg0 (.int .u8)) (.pair (.int .i64) (.int .i64))) [pI] [(true,(.pair (.int .i64) XY))] λx a=>Pu.nb x a.1
theorem ae5:aU Tryz.prog 213 adb:=aU.lY (lV (an:={}) (Λ:=cY.nil) (((((base.add OK).add TM).add SN).add OG).add afy) Tryz.func213 (by kernel_rfl) (ao nF)) (λx a=>by kernel_rfl)
def YU:aW:=ga (.pair (.sl .arg0 (.int .u8)) (.pair (.int .i64) (.int .i64))) [pI] [(true,Y0)] λx a=>Pu.iZ x a.1
theorem aeF:aU Tryz.prog 134 YU:=aU.lY (lV (an:={}) (Λ:=cY.nil) ((((((base.add OK).add TM).add SN).add OG).add ae4).add ae5) Tryz.func134 (by kernel_rfl) (ao nF)) (λx a=>by kernel_rfl)
def e66:aW:=ga (.pair (.sl .arg0 (.int .u8)) (.pair (.int .i64) (.int .i64))) [pI] [(false,(.sl (.own none) bX))] λx a=>Pu.ri x a.1
def Uq:cG:=((((cG.nil.add 23 X0).add 59 X1).add 60 ZH).add 128 Vz).add 134 YU
def MV:An:={mask:=mk [(5,[0,5,6,7,8]),(1000012,[0,5,6,7,8]),(1000013,[0,5,6,7,8]),(1000014,[0,5,6,7,8]),(1000015,[0,5,6,7,8]),(1000018,[0,5,6,7,8]),(1000019,[0,5,6,7,8]),(1000022,[0,5,6,7,8]),(1000023,[0,5,6,7,8]),(1000028,[0,5,6,7,8]),(1000029,[0,5,6,7,8]),(1000034,[0,5,6,7,8,64]),(1000035,[0,5,6,7,8])],cut:=[6,7,9,11,14,17],mv:=[47,76]}
abbrev vq:SD:=⟨.ptr 0 0::bs 4 (.data false (.sl (.own (some 61440)) bX)::.ptr 6 0::DI::DI::bs 55 (DB::bs 12 [])),(some Y4)::zs 5 ((some Y0)::zs 70 []),.ptr⟩
abbrev F2:SD:=⟨.ptr 0 0::bs 4 (.data false (.sl (.own (some 61440)) bX)::.ptr 6 0::DI::DI::bs 68 []),(some Y4)::zs 5 ((some Y0)::zs 70 []),.ptr⟩
def AL {R:Type}(X:SD.D vq)(K:Ex→AS→Option R):Option R:=Pu.pk (λy0=>kn K F2 ((X.1.1,(X.1.2.1,(X.1.2.2.1,()))),(X.2.1.1,(y0,())),())) X.1.1 X.1.2.1 (q2 X) (q3 X) X.2.1.1 X.2.1.2.1
def IZ:cm:=Bg vq AL
abbrev sO:SD:=⟨.ptr 0 0::bs 4 (.data false (.sl (.own (some 61440)) bX)::.ptr 6 0::DI::DI::bs 68 []),(some Y4)::zs 5 ((some Y0)::zs 70 []),.ptr⟩
def AK {R:Type}(X:SD.D sO)(K:Ex→AS→Option R):Option R:=Pu.jb (λy0 y1 y2=>kn K sO ((u y0 X.1),(w y1 (u y2) X.2.1),X.2.2)) X.1.1 X.1.2.1 (q2 X) X.2.1.1 X.2.1.2.1
def IY:cm:=Bg sO AK
abbrev sN:SD:=⟨.ptr 0 0::bs 4 (.data false (.sl (.own (some 61440)) bX)::.ptr 6 0::DI::DI::bs 68 []),(some Y4)::zs 5 ((some Y0)::zs 70 []),.ptr⟩
def AJ {R:Type}(X:SD.D sN)(K:Ex→AS→Option R):Option R:=Pu.ja (λy0 y1 y2=>kn K sN ((u y0 X.1),(w y1 (u y2) X.2.1),X.2.2)) X.1.1 X.1.2.1 (q2 X) X.2.1.1 X.2.1.2.1
def IX:cm:=Bg sN AJ
abbrev sM:SD:=⟨.ptr 0 0::bs 4 (.data false (.sl (.own (some 61440)) bX)::.ptr 6 0::DI::DI::bs 68 []),(some Y4)::zs 5 ((some Y0)::zs 70 []),.ptr⟩
def AI {R:Type}(X:SD.D sM)(K:Ex→AS→Option R):Option R:=Pu.jO (λy0 y1 y2 y3=>kn K sM ((w y0 (u y1) X.1),(w y2 (u y3) X.2.1),X.2.2)) X.1.1 X.1.2.1 (q2 X) X.2.1.1 X.2.1.2.1
def IW:cm:=Bg sM AI
abbrev sK:SD:=⟨.ptr 0 0::bs 4 (.data false (.sl (.own (some 61440)) bX)::.ptr 6 0::DI::DI::bs 68 []),(some Y4)::zs 5 ((some Y0)::zs 70 []),.ptr⟩
def AG {R:Type}(X:SD.D sK)(K:Ex→AS→Option R):Option R:=Pu.jN (λy0=>kn K sK ((z2 (u y0) X.1),X.2)) X.1.1 X.1.2.1 (q2 X) X.2.1.1 X.2.1.2.1
def IU:cm:=Bg sK AG
abbrev sL:SD:=⟨.ptr 0 0::bs 4 (.data false (.sl (.own (some 61440)) bX)::.ptr 6 0::DI::DI::bs 68 []),(some Y4)::zs 5 ((some Y0)::zs 70 []),.ptr⟩
def AH {R:Type}(X:SD.D sL)(K:Ex→AS→Option R):Option R:=Pu.nd (λy0 y1 y2 y3 y4=>kn K sL ((w y0 (w y1 (u y2)) X.1),(w y3 (u y4) X.2.1),X.2.2)) X.1.1 X.1.2.1 (q2 X) X.2.1.1 X.2.1.2.1
def IV:cm:=Bg sL AH
abbrev MA:SD:=⟨.ptr 0 0::bs 4 (.data false (.sl (.own (some 61440)) bX)::.ptr 6 0::DI::DI::bs 68 []),(some Y4)::zs 5 ((some Y0)::zs 70 []),.ptr⟩
def U2 {R:Type}(X:SD.D MA)(K:Ex→AS→Option R):=Pu.qE (λy0 y1 y2 y3 y4=>ke 0 K MA ((w y0 (w y1 (u y2)) X.1),(w y3 (u y4) X.2.1),X.2.2))
def aaU:cm:=gw MA U2 (λX=>(X.1.1,X.1.2.1,q2 X,X.2.1.1,X.2.1.2.1))
def Uh:cY:=(((((((cY.nil).add 1000034 IZ).add 1000028 IY).add 1000022 IX).add 1000018 IW).add 1000012 IU).add 1000014 IV).add 5 aaU
theorem IE:yU E Uq MV Uh (eP MV.cut Tryz.f66 4):=ck vq AL
theorem ID:yU E Uq MV Uh (eP MV.cut Tryz.f66 3):=ck sO AK
theorem IC:yU E Uq MV Uh (eP MV.cut Tryz.f66 2):=ck sN AJ
theorem IB:yU E Uq MV Uh (eP MV.cut Tryz.f66 1):=ck sM AI
theorem Iz:yU E Uq MV Uh (eP MV.cut Tryz.f66 5):=ck sK AG
theorem IA:yU E Uq MV Uh (eP MV.cut Tryz.f66 0):=ck sL AH
theorem aak:fU E Uq MV Uh (aR Tryz.f66 0):=lk MA U2 (λX=>(X.1.1,X.1.2.1,q2 X,X.2.1.1,X.2.1.2.1)) λX x=>((w x.1 (w x.2.1 (u x.2.2.1)) X.1),(w x.2.2.2.1 (u x.2.2.2.2) X.2.1),X.2.2)
theorem o66:aU Tryz.prog 66 e66:=aU.lY (lV (Γ:=Uq) (an:=MV) (Λ:=Uh) (((((base.add OK).add TM).add SN).add OG).add aeF) Tryz.func66 (by kernel_rfl) (ac (cF aak nF) (cF IA (cF IB (cF IC (cF ID (cF IE (cF Iz nF)))))))) (λx a=>by kernel_rfl)
def adH:aW:=aN [pI] [rS] (c1 Pu.fT)
theorem afz:aU Tryz.prog 281 adH:=f0 {} ((base.add OH).add OJ) Tryz.func281
def ade:aW:=aN [pf Nw] [rS,rB] (c1 Pu.pP)
theorem ae6:aU Tryz.prog 214 ade:=f0 {} (((base.add abM).add OJ).add afz) Tryz.func214
def adf:aW:=aN [pd .str] [rS] (c1 Pu.qZ)
theorem ae7:aU Tryz.prog 215 adf:=f0 {} (base.add o65) Tryz.func215
def acG:aW:=aN [pf bX] [rS,rB] (c1 Pu.mS)
theorem aeG:aU Tryz.prog 135 acG:=f0 {} (((((base.add o85).add abN).add abO).add ae6).add ae7) Tryz.func135
def e67:aW:=aN [pf bX] [rS,rB] (c1 Pu.mR)
theorem o67:aU Tryz.prog 67 e67:=f0 {} (((base.add o30).add o81).add aeG) Tryz.func67
def e68:aW:=ga (.pair (.sl .arg0 (.int .u8)) (.pair (.int .i64) (.int .i64))) [pf bX,pI] [(true,Y0)] λx a=>Pu.k8 x a.1 a.2.1
theorem o68:aU Tryz.prog 68 e68:=aU.lY (lV (an:={}) (Λ:=cY.nil) ((base.add TM).add SN) Tryz.func68 (by kernel_rfl) (ao nF)) (λx a=>by kernel_rfl)
def e69:aW:=ga (.pair (.sl .arg0 (.int .u8)) (.pair (.int .i64) (.int .i64))) [] [(true,SR)] λx a=>Pu.ng x
theorem o69:aU Tryz.prog 69 e69:=aU.lY (lV (an:={}) (Λ:=cY.nil) ((base.add OK).add SN) Tryz.func69 (by kernel_rfl) (ao nF)) (λx a=>by kernel_rfl)
def e22:aW:=ga (.pair (.sl .arg0 (.int .u8)) (.pair (.int .i64) (.int .i64))) [pI,pd .bool] [(false,(.sl (.own none) dk))] λx a=>Pu.rq x a.1 a.2.1
def Qm:cG:=(((((((cG.nil.add 23 X0).add 59 X1).add 60 ZH).add 66 e66).add 67 e67).add 68 e68).add 69 e69).add 70 e70
def Gu:An:={mask:=mk [(4,[0,1,2,7,8,9]),(42,[0,7,14]),(1000010,[0,1,2,7,8,9]),(1000011,[0,1,2,7,8,9]),(1000012,[0,1,2,7,8,9]),(1000013,[0,1,2,7,8,9]),(1000038,[0,1,2,7,8,9,10,11,30,46]),(1000039,[0,1,2,7,8,9,11]),(1000050,[0,1,2,7,8,9,10,11,30,63]),(1000051,[0,1,2,7,8,9,11]),(1000074,[0,1,2,7,8,9,11]),(1000075,[0,1,2,7,8,9]),(1000086,[0,7,14]),(1000087,[0,7,14]),(1000088,[0,7,14]),(1000089,[0,7,14]),(1000090,[0,7,14,158]),(1000091,[0,7,14])],cut:=[5,6,19,25,37,43,44,45],merge:=mg [(44,158)],mv:=[83,110,116,124,164]}
abbrev vn:SD:=⟨.ptr 0 0::DI::DB::bs 4 (.data false (.sl (.own (some 86016)) dk)::.data false (.sl (.own (some 98304)) bX)::DI::DI::.ptr 11 0::bs 18 (DI::bs 32 (DB::bs 101 []))),(some Y4)::zs 10 ((some Y5)::zs 153 []),.ptr⟩
abbrev FD:SD:=⟨.ptr 0 0::DI::DB::bs 4 (.data false (.sl (.own (some 86016)) dk)::.data false (.sl (.own (some 98304)) bX)::DI::B::.ptr 11 0::bs 153 []),(some Y4)::zs 10 ((some Y5)::zs 153 []),.ptr⟩
def AA {R:Type}(X:SD.D vn)(K:Ex→AS→Option R):Option R:=Pu.fg (λy0 y1 y2=>kn K FD ((X.1.1,(X.1.2.1,(y0,(X.1.2.2.2.1,(X.1.2.2.2.2.1,()))))),(y1,(y2,())),())) X.1.1 X.1.2.1 (q2 X) (q3 X) (q4 X) (q5 X) (q6 X) (q7 X) X.2.1.1 X.2.1.2.1
def IM:cm:=Bg vn AA
abbrev vm:SD:=⟨.ptr 0 0::DI::DB::bs 4 (.data false (.sl (.own (some 86016)) dk)::.data false (.sl (.own (some 98304)) bX)::DI::DI::.ptr 11 0::bs 18 (DI::bs 15 (DB::bs 118 []))),(some Y4)::zs 10 ((some Y5)::zs 153 []),.ptr⟩
abbrev FC:SD:=⟨.ptr 0 0::DI::DB::bs 4 (.data false (.sl (.own (some 86016)) dk)::.data false (.sl (.own (some 98304)) bX)::DI::B::.ptr 11 0::bs 153 []),(some Y4)::zs 10 ((some Y5)::zs 153 []),.ptr⟩
def Az {R:Type}(X:SD.D vm)(K:Ex→AS→Option R):Option R:=Pu.ff (λy0 y1 y2=>kn K FC ((X.1.1,(X.1.2.1,(y0,(X.1.2.2.2.1,(X.1.2.2.2.2.1,()))))),(y1,(y2,())),())) X.1.1 X.1.2.1 (q2 X) (q3 X) (q4 X) (q5 X) (q6 X) (q7 X) X.2.1.1 X.2.1.2.1
def IL:cm:=Bg vm Az
abbrev vo:SD:=⟨.ptr 0 0::DI::DB::bs 4 (.data false (.sl (.own (some 86016)) dk)::.data false (.sl (.own (some 98304)) bX)::DI::B::.ptr 11 0::bs 153 []),(some Y4)::zs 10 ((some Y5)::zs 153 []),.ptr⟩
abbrev FE:SD:=⟨.ptr 0 0::DI::DB::bs 4 (.data false (.sl (.own (some 86016)) dk)::.data false (.sl (.own (some 98304)) bX)::DI::bs 155 []),(some Y4)::zs 164 [],.ptr⟩
def AB {R:Type}(X:SD.D vo)(K:Ex→AS→Option R):Option R:=Pu.fi (λy0 y1=>kn K FE ((X.1.1,(X.1.2.1,(y0,(X.1.2.2.2.1,(X.1.2.2.2.2.1,()))))),(y1,()),())) X.1.1 X.1.2.1 (q2 X) (q3 X) (q4 X) X.2.1.1 X.2.1.2.1
def IP:cm:=Bg vo AB
abbrev sG:SD:=⟨.ptr 0 0::DI::DB::bs 4 (.data false (.sl (.own (some 86016)) dk)::.data false (.sl (.own (some 98304)) bX)::DI::bs 155 []),(some Y4)::zs 164 [],.ptr⟩
def Ax {R:Type}(X:SD.D sG)(K:Ex→AS→Option R):Option R:=Pu.gO (λy0=>kn K sG ((z4 (u y0) X.1),X.2)) X.1.1 X.1.2.1 (q2 X) (q3 X) (q4 X) X.2.1.1
def IJ:cm:=Bg sG Ax
abbrev sH:SD:=⟨.ptr 0 0::DI::DB::bs 4 (.data false (.sl (.own (some 86016)) dk)::.data false (.sl (.own (some 98304)) bX)::DI::bs 155 []),(some Y4)::zs 164 [],.ptr⟩
def Ay {R:Type}(X:SD.D sH)(K:Ex→AS→Option R):Option R:=Pu.nh (λy0 y1 y2=>kn K sH ((z2 (w y0 (z1 (u y1))) X.1),(u y2 X.2.1),X.2.2)) X.1.1 X.1.2.1 (q2 X) (q3 X) (q4 X) X.2.1.1
def IK:cm:=Bg sH Ay
abbrev Mq:SD:=⟨.ptr 0 0::DI::DB::bs 4 (.data false (.sl (.own (some 86016)) dk)::.data false (.sl (.own (some 98304)) bX)::DI::bs 155 []),(some Y4)::zs 164 [],.ptr⟩
def UI {R:Type}(X:SD.D Mq)(K:Ex→AS→Option R):=Pu.qG (λy0 y1 y2=>ke 0 K Mq ((z2 (w y0 (z1 (u y1))) X.1),(u y2 X.2.1),X.2.2)) X.1.1 X.1.2.1 (q3 X)
def aaB:cm:=gw Mq UI (λX=>(q2 X,q4 X,X.2.1.1))
abbrev vp:SD:=⟨.ptr 0 0::bs 6 (.data false (.sl (.own (some 86016)) dk)::bs 6 (DI::bs 143 (DB::bs 6 []))),(some Y4)::zs 164 [],.ptr⟩
abbrev FF:SD:=⟨.ptr 0 0::bs 6 (.data false (.sl (.own (some 86016)) dk)::bs 6 (DI::bs 150 [])),(some Y4)::zs 164 [],.ptr⟩
def AF {R:Type}(X:SD.D vp)(K:Ex→AS→Option R):Option R:=Pu.pt (λy0=>kn K FF ((y0,(X.1.2.1,())),(X.2.1.1,()),())) X.1.1 X.1.2.1 (q2 X) X.2.1.1
def IT:cm:=Bg vp AF
abbrev sI:SD:=⟨.ptr 0 0::bs 6 (.data false (.sl (.own (some 86016)) dk)::bs 6 (DI::bs 150 [])),(some Y4)::zs 164 [],.ptr⟩
def AD {R:Type}(X:SD.D sI)(K:Ex→AS→Option R):Option R:=Pu.lR (λy0=>kn K sI ((z1 (u y0) X.1),X.2)) X.1.1 X.1.2.1 X.2.1.1
def IQ:cm:=Bg sI AD
abbrev sJ:SD:=⟨.ptr 0 0::bs 6 (.data false (.sl (.own (some 86016)) dk)::bs 6 (DI::bs 150 [])),(some Y4)::zs 164 [],.ptr⟩
def AE {R:Type}(X:SD.D sJ)(K:Ex→AS→Option R):Option R:=Pu.pq (λy0 y1=>kn K sJ ((w y0 (u y1) X.1),X.2)) X.1.1 X.1.2.1 X.2.1.1
def IS:cm:=Bg sJ AE
abbrev FG:SD:=⟨.ptr 0 0::bs 6 (.data false (.sl (.own (some 86016)) dk)::bs 6 (DI::bs 150 [])),(some Y4)::zs 164 [],.ptr⟩
def Sb {R:Type}(X:SD.D FG)(K:Ex→AS→Option R):=Pu.pw (λy0 y1=>ke 3 K FG ((w y0 (u y1) X.1),X.2)) X.2.1.1
def W3:cm:=gw FG Sb (λX=>(X.1.1,X.1.2.1))
def PG:cY:=((((((((((cY.nil).add 1000050 IM).add 1000038 IL).add 1000074 IP).add 1000010 IJ).add 1000012 IK).add 4 aaB).add 1000090 IT).add 1000086 IQ).add 1000088 IS).add 42 W3
theorem Iu:yU E Qm Gu PG (eP Gu.cut Tryz.f22 2):=ck vn AA
theorem It:yU E Qm Gu PG (eP Gu.cut Tryz.f22 1):=ck vm Az
theorem Iv:yU E Qm Gu PG (eP Gu.cut Tryz.f22 3):=ck vo AB
theorem Ir:yU E Qm Gu PG (eP Gu.cut Tryz.f22 4):=ck sG Ax
theorem Is:yU E Qm Gu PG (eP Gu.cut Tryz.f22 0):=ck sH Ay
theorem Z1:fU E Qm Gu PG (aR Tryz.f22 0):=lk Mq UI (λX=>(q2 X,q4 X,X.2.1.1)) λX x=>((z2 (w x.1 (z1 (u x.2.1))) X.1),(u x.2.2 X.2.1),X.2.2)
theorem Iy:yU E Qm Gu PG (eP Gu.cut Tryz.f22 6):=ck vp AF
theorem Iw:yU E Qm Gu PG (eP Gu.cut Tryz.f22 7):=ck sI AD
theorem Ix:yU E Qm Gu PG (eP Gu.cut Tryz.f22 5):=ck sJ AE
theorem Wd:fU E Qm Gu PG (aR Tryz.f22 1):=lk FG Sb (λX=>(X.1.1,X.1.2.1)) λX x=>((w x.1 (u x.2) X.1),X.2)
theorem o22:aU Tryz.prog 22 e22:=aU.lY (lV (Γ:=Qm) (an:=Gu) (Λ:=PG) ((((((((base.add OK).add TM).add SN).add o66).add o67).add o68).add o69).add o70) Tryz.func22 (by kernel_rfl) (ac (cF Z1 (cF Wd nF)) (cF Is (cF It (cF Iu (cF Iv (cF Ir (cF Ix (cF Iy (cF Iw nF)))))))))) (λx a=>by kernel_rfl)
def e72:aW:=aN [pf bX] [(true,(.pair (.int .i64) Y2))] (c1 Pu.vQ)
theorem o72:aU Tryz.prog 72 e72:=f0 {} base Tryz.func72
def e73:aW:=aN [pd (.sl dB),pf nG] [rI] (c2 Pu.lL)
def g73:cG:=cG.nil
def n73:An:={mask:=mk [(2,[0,3,4,5])]}
abbrev HA:SD:=⟨.data false (.sl .arg dB)::B::B::.ptr 3 0::DI::DI::bs 14 [],Z::Z::Z::(some (.pair (.int .i64) Y2))::zs 16 [],.none⟩
def U4 {R:Type}(X:SD.D HA)(K:Ex→AS→Option R):=Pu.iB (λy0=>ke 0 K HA ((z2 (u y0) X.1),X.2)) (λy0 y1=>kr K HA ((z1 (w y0 (u y1)) X.1),X.2)) X.1.1 X.1.2.1 X.2.1.1
def aaW:cm:=gw HA U4 q2
def L73:cY:=(cY.nil).add 2 aaW
theorem aam:fU E g73 n73 L73 (aR Tryz.f73 0):=lk HA U4 q2 λX x=>((z2 (u x) X.1),X.2)
theorem o73:aU Tryz.prog 73 e73:=fk n73 base Tryz.func73 (Λ:=L73) (cF aam nF)
def e24:aW:=ga (.pair (.sl .arg0 (.int .u8)) (.pair (.int .i64) (.int .i64))) [pd (.sl bX)] [(false,(.sl (.own none) dB))] λx a=>Pu.rj x a.1
def g24:cG:=(((cG.nil.add 59 X1).add 60 ZH).add 72 e72).add 73 e73
def n24:An:={mask:=mk [(3,[0,1,5,6])],mv:=[45,52],sb:=mg [(41,0)]}
abbrev Mr:SD:=⟨.ptr 0 0::.data false (.sl .arg bX)::B::B::B::.data false (.sl (.own (some 61440)) dB)::DI::bs 46 [],(some Y4)::zs 52 [],.ptr⟩
def UJ {R:Type}(X:SD.D Mr)(K:Ex→AS→Option R):=Pu.qF (λy0 y1 y2=>ke 0 K Mr ((z1 (w y0 (u y1)) X.1),(u y2 X.2.1),X.2.2)) X.1.1
def aaC:cm:=gw Mr UJ (λX=>(X.1.2.1,q2 X,X.2.1.1))
def L24:cY:=(cY.nil).add 3 aaC
theorem Z2:fU E g24 n24 L24 (aR Tryz.f24 0):=lk Mr UJ (λX=>(X.1.2.1,q2 X,X.2.1.1)) λX x=>((z1 (w x.1 (u x.2.1)) X.1),(u x.2.2 X.2.1),X.2.2)
theorem o24:aU Tryz.prog 24 e24:=aU.lY (lV (Γ:=g24) (an:=n24) (Λ:=L24) ((((base.add TM).add SN).add o72).add o73) Tryz.func24 (by kernel_rfl) (ao (cF Z2 nF))) (λx a=>by kernel_rfl)
def e6:aW:=aN [pd (.sl (.int .u8))] [(true,Y13),(false,(.sl (.own none) dk))] (c1 Pu.oA)
def g6:cG:=(((((cG.nil.add 8 e8).add 20 e20).add 21 e21).add 22 e22).add 23 X0).add 24 e24
def n6:An:={mask:=mk [(6,[2,4,5,6,7,8,13]),(14,[2,4,5,6,7,11,13]),(1000014,[2,4,5,6,7,8,13]),(1000015,[2,4,5,6,7,8,13]),(1000016,[2,4,5,6,7,8,13]),(1000017,[2,4,5,6,7,8,13]),(1000018,[2,4,5,6,7,8,13,45]),(1000019,[2,4,5,6,7,8,13]),(1000020,[2,4,5,6,7,8,13]),(1000021,[2,4,5,6,7,8,13]),(1000032,[2,4,5,6,7,11,13]),(1000033,[2,4,5,6,7,11,13])],cut:=[7,8,9,10,16],merge:=mg [(8,45)],mv:=[46,67,86,87],sb:=mg [(16,13),(20,13),(81,13)],er:=mg [(83,7)]}
abbrev xc:SD:=⟨B::B::.ptr 2 0::B::.ptr 13 0::.ptr 5 0::.data false (.sl (.own (some 73728)) dk)::.data false (.sl (.own (some 86016)) bX)::DI::bs 4 (.ptr 13 0::bs 31 (DB::bs 42 [])),Z::Z::(some Y1)::Z::Z::(some Y3)::zs 7 ((some SQ)::zs 74 []),.none⟩
abbrev Hz:SD:=⟨B::B::.ptr 2 0::B::.ptr 13 0::.ptr 5 0::.data false (.sl (.own (some 73728)) dk)::.data false (.sl (.own (some 86016)) bX)::DI::bs 4 (.ptr 13 0::bs 74 []),Z::Z::(some Y1)::Z::Z::(some Y3)::zs 7 ((some SQ)::zs 74 []),.none⟩
def Dp {R:Type}(X:SD.D xc)(K:Ex→AS→Option R):Option R:=Pu.oC (λy0=>kn K Hz ((X.1.1,(y0,(X.1.2.2.1,()))),(X.2.1.1,(X.2.1.2.1,(X.2.1.2.2.1,()))),())) X.1.1 X.1.2.1 (q2 X) (q3 X) X.2.1.1 X.2.1.2.1 X.2.1.2.2.1
def Lc:cm:=Bg xc Dp
abbrev uf:SD:=⟨B::B::.ptr 2 0::B::.ptr 13 0::.ptr 5 0::.data false (.sl (.own (some 73728)) dk)::.data false (.sl (.own (some 86016)) bX)::DI::bs 4 (.ptr 13 0::bs 74 []),Z::Z::(some Y1)::Z::Z::(some Y3)::zs 7 ((some SQ)::zs 74 []),.none⟩
def Dq {R:Type}(X:SD.D uf)(K:Ex→AS→Option R):Option R:=Pu.jv (λy0=>kn K uf ((z1 (u y0) X.1),X.2)) X.1.1 X.1.2.1 (q2 X) X.2.1.1 X.2.1.2.1 X.2.1.2.2.1
def Ld:cm:=Bg uf Dq
abbrev ud:SD:=⟨B::B::.ptr 2 0::B::.ptr 13 0::.ptr 5 0::.data false (.sl (.own (some 73728)) dk)::.data false (.sl (.own (some 86016)) bX)::DI::bs 4 (.ptr 13 0::bs 74 []),Z::Z::(some Y1)::Z::Z::(some Y3)::zs 7 ((some SQ)::zs 74 []),.none⟩
def Dl {R:Type}(X:SD.D ud)(K:Ex→AS→Option R):Option R:=Pu.kC (λy0=>kn K ud ((z2 (u y0) X.1),X.2)) X.1.1 X.1.2.1 (q2 X) X.2.1.1 X.2.1.2.1 X.2.1.2.2.1
def La:cm:=Bg ud Dl
abbrev ue:SD:=⟨B::B::.ptr 2 0::B::.ptr 13 0::.ptr 5 0::.data false (.sl (.own (some 73728)) dk)::.data false (.sl (.own (some 86016)) bX)::DI::bs 4 (.ptr 13 0::bs 74 []),Z::Z::(some Y1)::Z::Z::(some Y3)::zs 7 ((some SQ)::zs 74 []),.none⟩
def Dm {R:Type}(X:SD.D ue)(K:Ex→AS→Option R):Option R:=Pu.oB (λy0 y1=>kn K ue ((z1 (w y0 (u y1)) X.1),X.2)) X.1.1 X.1.2.1 (q2 X) X.2.1.1 X.2.1.2.1 X.2.1.2.2.1
def Lb:cm:=Bg ue Dm
abbrev S5:SD:=⟨B::B::.ptr 2 0::B::.ptr 13 0::.ptr 5 0::.data false (.sl (.own (some 73728)) dk)::.data false (.sl (.own (some 86016)) bX)::DI::bs 4 (.ptr 13 0::bs 74 []),Z::Z::(some Y1)::Z::Z::(some Y3)::zs 7 ((some SQ)::zs 74 []),.none⟩
def acq {R:Type}(X:SD.D S5)(K:Ex→AS→Option R):=Pu.kD (λy0 y1=>ke 0 K S5 ((z1 (w y0 (u y1)) X.1),X.2)) X.1.1 X.2.1.1 X.2.1.2.1 X.2.1.2.2.1
def aev:cm:=gw S5 acq (λX=>(X.1.2.1,q2 X))
abbrev ug:SD:=⟨B::B::.ptr 2 0::B::.ptr 13 0::.ptr 5 0::.data false (.sl (.own (some 73728)) dk)::.data false (.sl (.own (some 86016)) bX)::B::B::B::DI::B::.ptr 13 0::bs 74 [],Z::Z::(some Y1)::Z::Z::(some Y3)::zs 7 ((some SQ)::zs 74 []),.none⟩
def Dr {R:Type}(X:SD.D ug)(K:Ex→AS→Option R):Option R:=Pu.nn (λy0 y1 y2=>kn K ug ((z2 (u y0) X.1),(z1 (w y1 (u y2)) X.2.1),X.2.2)) X.1.1 X.1.2.1 (q2 X) X.2.1.1 X.2.1.2.1 X.2.1.2.2.1
def Lf:cm:=Bg ug Dr
abbrev MB:SD:=⟨B::B::.ptr 2 0::B::.ptr 13 0::.ptr 5 0::.data false (.sl (.own (some 73728)) dk)::.data false (.sl (.own (some 86016)) bX)::B::B::B::DI::B::.ptr 13 0::bs 74 [],Z::Z::(some Y1)::Z::Z::(some Y3)::zs 7 ((some SQ)::zs 74 []),.none⟩
def U3 {R:Type}(X:SD.D MB)(K:Ex→AS→Option R):=Pu.np (λy0 y1 y2=>ke 2 K MB ((z2 (u y0) X.1),(z1 (w y1 (u y2)) X.2.1),X.2.2)) X.1.1 X.1.2.1 X.2.1.1
def aaV:cm:=gw MB U3 (λX=>(q2 X,X.2.1.2.1,X.2.1.2.2.1))
def L6:cY:=(((((((cY.nil).add 1000018 Lc).add 1000020 Ld).add 1000014 La).add 1000016 Lb).add 6 aev).add 1000032 Lf).add 14 aaV
theorem K6:yU E g6 n6 L6 (eP n6.cut Tryz.f6 1):=ck xc Dp
theorem K7:yU E g6 n6 L6 (eP n6.cut Tryz.f6 2):=ck uf Dq
theorem K4:yU E g6 n6 L6 (eP n6.cut Tryz.f6 3):=ck ud Dl
theorem K5:yU E g6 n6 L6 (eP n6.cut Tryz.f6 0):=ck ue Dm
theorem aes:fU E g6 n6 L6 (aR Tryz.f6 0):=lk S5 acq (λX=>(X.1.2.1,q2 X)) λX x=>((z1 (w x.1 (u x.2)) X.1),X.2)
theorem K8:yU E g6 n6 L6 (eP n6.cut Tryz.f6 4):=ck ug Dr
theorem aal:fU E g6 n6 L6 (aR Tryz.f6 1):=lk MB U3 (λX=>(q2 X,X.2.1.2.1,X.2.1.2.2.1)) λX x=>((z2 (u x.1) X.1),(z1 (w x.2.1 (u x.2.2)) X.2.1),X.2.2)
theorem o6:aU Tryz.prog 6 e6:=fc n6 ((((((base.add o8).add o20).add o21).add o22).add OK).add o24) Tryz.func6 (Λ:=L6) (cF aes (cF aal nF)) (cF K5 (cF K6 (cF K7 (cF K4 (cF K8 nF)))))
def e74:aW:=aN [pd (.sl aY),pd (.sl eU)] [rB] (c2 Pu.lE)
def g74:cG:=((cG.nil.add 31 NN).add 34 e34).add 129 VA
def n74:An:={mask:=mk [(4,[0,1,4,5]),(10,[0,1,4,5,6,7])],merge:=mg [(7,51),(12,74)]}
abbrev B1:SD:=⟨.data false (.sl .arg aY)::.data false (.sl .arg eU)::B::B::DB::DI::.ptr 6 0::DI::bs 67 [],zs 6 ((some Y28)::zs 68 []),.none⟩
def Sw {R:Type}(X:SD.D B1)(K:Ex→AS→Option R):=Pu.gY (λy0=>ke 2 K B1 ((z4 (u y0) X.1),X.2)) (λy0 y1=>kr K B1 ((z2 (w y0 (z1 (u y1))) X.1),X.2)) X.1.1 X.1.2.1 (q2 X) (q3 X) X.2.1.1
def Xo:cm:=gw B1 Sw q4
abbrev HB:SD:=⟨.data false (.sl .arg aY)::.data false (.sl .arg eU)::B::B::DB::DI::bs 69 [],zs 75 [],.none⟩
def U5 {R:Type}(X:SD.D HB)(K:Ex→AS→Option R):=Pu.iz (λy0=>ke 0 K HB ((z3 (u y0) X.1),X.2)) (λy0 y1=>kr K HB ((z2 (w y0 (u y1)) X.1),X.2)) X.1.1 X.1.2.1 (q2 X)
def aaX:cm:=gw HB U5 q3
def L74:cY:=((cY.nil).add 10 Xo).add 4 aaX
theorem Wy:fU E g74 n74 L74 (aR Tryz.f74 1):=lk B1 Sw q4 λX x=>((z4 (u x) X.1),X.2)
theorem aan:fU E g74 n74 L74 (aR Tryz.f74 0):=lk HB U5 q3 λX x=>((z3 (u x) X.1),X.2)
theorem o74:aU Tryz.prog 74 e74:=fk n74 (((base.add wI).add o34).add abH) Tryz.func74 (Λ:=L74) (cF aan (cF Wy nF))
def Zh:aW:=aN [pf rE,pd (.sl (.int .i64))] [(true,YJ),rB] (c2 Pu.gu)
theorem ae8:aU Tryz.prog 217 Zh:=f0 {merge:=mg [(3,21)],mv:=[10,24]} ((base.add OI).add abZ) Tryz.func217
def YV:aW:=aN [pf tF] [rB] (c1 Pu.wB)
def adZ:cG:=(((cG.nil.add 31 NN).add 143 P6).add 216 VF).add 217 Zh
def aa9:An:={mask:=mk [(6,[1,2,3,4,5])],merge:=mg [(1,24),(9,50),(14,2)],mv:=[55]}
abbrev BK:SD:=⟨B::.ptr 1 0::DB::DI::.data false (.sl (.own (some 49152)) (.int .i64))::DI::bs 68 [],Z::(some (.pair Y2 (.pair Y19 (.pair (.sl .arg uR) (.int .i64)))))::zs 72 [],.none⟩
def RU {R:Type}(X:SD.D BK)(K:Ex→AS→Option R):=Pu.oM (λy0 y1 y2=>ke 0 K BK ((z1 (w y0 (w y1 (u y2))) X.1),X.2)) (λy0 y1 y2 y3=>kr K BK ((w y0 (w y1 (w y2 (u y3))) X.1),X.2)) X.1.1 X.2.1.1
def WM:cm:=gw BK RU (λX=>(X.1.2.1,q2 X,q3 X))
def Yd:cY:=(cY.nil).add 6 WM
theorem VX:fU E adZ aa9 Yd (aR Tryz.f140 0):=lk BK RU (λX=>(X.1.2.1,q2 X,q3 X)) λX x=>((z1 (w x.1 (w x.2.1 (u x.2.2))) X.1),X.2)
theorem aeJ:aU Tryz.prog 140 YV:=fk aa9 ((((base.add wI).add OI).add QY).add ae8) Tryz.func140 (Λ:=Yd) (cF VX nF)
def adg:aW:=aN [pf kl] [rB] (c1 Pu.oK)
theorem afc:aU Tryz.prog 221 adg:=f0 {merge:=mg [(1,2)]} ((base.add wI).add XF) Tryz.func221
def YW:aW:=aN [pf ma] [rB] (c1 Pu.wA)
theorem aeK:aU Tryz.prog 142 YW:=f0 {merge:=mg [(1,42),(5,2)]} ((((base.add wI).add o85).add QY).add afc) Tryz.func142
def e77:aW:=aN [pf kN] [rB] (c1 Pu.qu)
def g77:cG:=((((((((cG.nil.add 31 NN).add 86 e86).add 138 VB).add 139 VC).add 140 YV).add 141 VD).add 142 YW).add 143 P6).add 144 YX
def n77:An:={mask:=mk [(5,[1,2,3,4]),(11,[2,5,6])],merge:=mg [(2,64),(7,94)]}
abbrev HC:SD:=⟨B::.ptr 1 0::DB::DI::DI::bs 118 [],Z::(some (.pair (.sl .arg .str) (.pair (.sl .arg dU) (.pair (.pair Y2 (.pair Y19 (.pair (.sl .arg uR) (.int .i64)))) (.pair (.sl .arg ma) (.pair (.sl .arg rE) (.pair (.sl .arg nH) (.pair (.sl .arg .bool) (.pair YL (.pair YK (.pair (.sl .arg dB) (.pair .bool (.pair (.sl .arg .str) (.pair (.sl .arg (.int .i64)) (.pair (.sl .arg (.int .i64)) (.pair (.int .i64) Y2))))))))))))))))::zs 121 [],.none⟩
def U6 {R:Type}(X:SD.D HC)(K:Ex→AS→Option R):=Pu.oE (λy0=>ke 0 K HC ((z2 (u y0) X.1),X.2)) (λy0 y1=>kr K HC ((w y0 (z1 (u y1)) X.1),X.2)) X.1.1 X.1.2.1 X.2.1.1
def aaY:cm:=gw HC U6 q2
abbrev B2:SD:=⟨B::B::DB::B::B::.data false (.sl (.own (some 61440)) (.int .i64))::DI::bs 116 [],zs 123 [],.none⟩
def Sx {R:Type}(X:SD.D B2)(K:Ex→AS→Option R):=Pu.mU (λy0=>ke 2 K B2 ((z2 (u y0) X.1),X.2)) (λy0 y1=>kr K B2 ((w y0 (z1 (u y1)) X.1),X.2)) X.1.1 X.1.2.1
def Xp:cm:=gw B2 Sx q2
def L77:cY:=((cY.nil).add 5 aaY).add 11 Xp
theorem aao:fU E g77 n77 L77 (aR Tryz.f77 0):=lk HC U6 q2 λX x=>((z2 (u x) X.1),X.2)
theorem Wz:fU E g77 n77 L77 (aR Tryz.f77 1):=lk B2 Sx q2 λX x=>((z2 (u x) X.1),X.2)
theorem o77:aU Tryz.prog 77 e77:=fk n77 (((((((((base.add wI).add o86).add XB).add abJ).add aeJ).add abK).add aeK).add OI).add abL) Tryz.func77 (Λ:=L77) (cF aao (cF Wz nF))
def acJ:aW:=aN [pd (.sl (.int .i64)),pd (.sl (.int .i64))] [rB] (c2 Pu.yH)
def ad1:cG:=cG.nil
def abb:An:={mask:=mk [(4,[0,1,4,5])]}
abbrev BO:SD:=⟨.data false (.sl .arg (.int .i64))::.data false (.sl .arg (.int .i64))::B::B::DB::DI::bs 20 [],zs 26 [],.none⟩
def RZ {R:Type}(X:SD.D BO)(K:Ex→AS→Option R):=Pu.vc (λy0=>ke 0 K BO ((z3 (u y0) X.1),X.2)) (λy0 y1=>kr K BO ((z2 (w y0 (u y1)) X.1),X.2)) X.1.1 X.1.2.1 (q2 X)
def WR:cm:=gw BO RZ q3
def Yf:cY:=(cY.nil).add 4 WR
theorem V1:fU E ad1 abb Yf (aR Tryz.f145 0):=lk BO RZ q3 λX x=>((z3 (u x) X.1),X.2)
theorem aeL:aU Tryz.prog 145 acJ:=fk abb base Tryz.func145 (Λ:=Yf) (cF V1 nF)
def e78:aW:=aN [pf jk,pf jk] [rB] (c2 Pu.nq)
theorem o78:aU Tryz.prog 78 e78:=f0 {merge:=mg [(1,4)]} (base.add aeL) Tryz.func78
def e25:aW:=aN [pf wL] [rB] (c1 Pu.s6)
def g25:cG:=(((((cG.nil.add 9 e9).add 74 e74).add 75 e75).add 76 e76).add 77 e77).add 78 e78
def n25:An:={mask:=mk [(6,[1,2,5,6])],merge:=mg [(3,50),(8,99)]}
abbrev Hq:SD:=⟨B::.ptr 1 0::DB::B::B::DI::DI::bs 93 [],Z::(some Y25)::zs 98 [],.none⟩
def UK {R:Type}(X:SD.D Hq)(K:Ex→AS→Option R):=Pu.oy (λy0=>ke 0 K Hq ((z2 (u y0) X.1),X.2)) (λy0 y1=>kr K Hq ((w y0 (z1 (u y1)) X.1),X.2)) X.1.1 X.1.2.1 X.2.1.1
def aaD:cm:=gw Hq UK q2
def L25:cY:=(cY.nil).add 6 aaD
theorem Z3:fU E g25 n25 L25 (aR Tryz.f25 0):=lk Hq UK q2 λX x=>((z2 (u x) X.1),X.2)
theorem o25:aU Tryz.prog 25 e25:=fk n25 ((((((base.add o9).add o74).add o75).add o76).add o77).add o78) Tryz.func25 (Λ:=L25) (cF Z3 nF)
def e26:aW:=aN [pf kN] [(true,Y23)] (c1 Pu.s8)
theorem o26:aU Tryz.prog 26 e26:=f0 {sb:=mg [(2,2)]} (((base.add o77).add o79).add o80) Tryz.func26
def e7:aW:=aN [pf wL] [(true,Y16)] (c1 Pu.qY)
def g7:cG:=((cG.nil.add 25 e25).add 26 e26).add 27 e27
def n7:An:={mask:=mk [(5,[1,2,3,4])],mv:=[26,37,43,53],mb:=mg [(26,3),(43,3)],sb:=mg [(3,3),(35,3),(52,3)]}
abbrev S6:SD:=⟨B::.ptr 1 0::.ptr 2 0::.ptr 3 0::DI::bs 49 [],Z::(some Y25)::(some Y15)::(some Y14)::zs 50 [],.none⟩
def acr {R:Type}(X:SD.D S6)(K:Ex→AS→Option R):=Pu.mV (λy0 y1=>ke 0 K S6 ((u y0 X.1),(z2 (u y1) X.2.1),X.2.2)) X.2.1.1 X.2.1.2.1
def aew:cm:=gw S6 acr (λX=>(X.1.1,X.2.1.2.2.1))
def L7:cY:=(cY.nil).add 5 aew
theorem aet:fU E g7 n7 L7 (aR Tryz.f7 0):=lk S6 acr (λX=>(X.1.1,X.2.1.2.2.1)) λX x=>((u x.1 X.1),(z2 (u x.2) X.2.1),X.2.2)
theorem o7:aU Tryz.prog 7 e7:=fk n7 (((base.add o25).add o26).add o27) Tryz.func7 (Λ:=L7) (cF aet nF)
def e35:aW:=aN [pd (.sl eU),pI,pf bX] [rI] (c3 Pu.oD)
theorem o35:aU Tryz.prog 35 e35:=f0 {merge:=mg [(1,23),(6,61)]} ((((base.add wI).add o34).add o36).add o85) Tryz.func35
def e10:aW:=aN [pd (.sl eU),pI,pf bX] [(false,(.sl (.own none) (.int .i64)))] (c3 Pu.kH)
def g10:cG:=(cG.nil.add 35 e35).add 36 e36
def n10:An:={mask:=mk [(7,[0,1,5,7,8,9,10]),(12,[0,1,5,7,8,9,11])],merge:=mg [(14,62)],mv:=[19,63,67]}
abbrev Mn:SD:=⟨.data false (.sl .arg eU)::DI::B::B::B::.ptr 5 0::B::.data false (.sl (.own (some 86016)) (.int .i64))::DI::DI::DI::bs 57 [],zs 5 ((some Y0)::zs 62 []),.none⟩
def UB {R:Type}(X:SD.D Mn)(K:Ex→AS→Option R):=Pu.hG (λy0 y1=>ke 0 K Mn ((z4 (w y0 (u y1)) X.1),X.2)) X.1.1 X.1.2.1 (q2 X) (q3 X) X.2.1.1
def aau:cm:=gw Mn UB (λX=>(q4 X,q5 X))
abbrev Ft:SD:=⟨.data false (.sl .arg eU)::DI::B::B::B::.ptr 5 0::B::.data false (.sl (.own (some 86016)) (.int .i64))::DI::DI::B::DI::bs 56 [],zs 5 ((some Y0)::zs 62 []),.none⟩
def RN {R:Type}(X:SD.D Ft)(K:Ex→AS→Option R):=Pu.gE (λy0 y1=>ke 2 K Ft ((z2 (w y0 (z2 (u y1))) X.1),X.2)) X.1.1 X.1.2.1 (q3 X) (q4 X) X.2.1.1
def WE:cm:=gw Ft RN (λX=>(q2 X,q5 X))
def L10:cY:=((cY.nil).add 7 aau).add 12 WE
theorem ZU:fU E g10 n10 L10 (aR Tryz.f10 0):=lk Mn UB (λX=>(q4 X,q5 X)) λX x=>((z4 (w x.1 (u x.2)) X.1),X.2)
theorem VQ:fU E g10 n10 L10 (aR Tryz.f10 1):=lk Ft RN (λX=>(q2 X,q5 X)) λX x=>((z2 (w x.1 (z2 (u x.2))) X.1),X.2)
theorem o10:aU Tryz.prog 10 e10:=fk n10 ((base.add o35).add o36) Tryz.func10 (Λ:=L10) (cF ZU (cF VQ nF))
def Un:aW:=aN [pI,pI,pI] [rB] (c3 Pu.aJ)
theorem D1:aU Tryz.prog 89 Un:=f0 {merge:=mg [(1,6)]} base Tryz.func89
def YP:aW:=aN [pf jk] [rB] (c1 Pu.hY)
def adW:cG:=cG.nil.add 89 Un
def aa5:An:={mask:=mk [(2,[1,2,6,7,8])],merge:=mg [(4,29),(7,2)]}
abbrev BF:SD:=⟨B::.ptr 1 0::DB::B::B::B::.data false (.sl .arg (.int .i64))::DI::DI::bs 31 [],Z::(some YL)::zs 38 [],.none⟩
def RK {R:Type}(X:SD.D BF)(K:Ex→AS→Option R):=Pu.lb (λy0=>ke 0 K BF ((z3 (u y0) X.1),X.2)) (λy0 y1=>kr K BF ((w y0 (z2 (u y1)) X.1),X.2)) X.1.1 X.1.2.1 (q2 X) X.2.1.1
def WB:cm:=gw BF RK q3
def X9:cY:=(cY.nil).add 2 WB
theorem VN:fU E adW aa5 X9 (aR Tryz.f101 0):=lk BF RK q3 λX x=>((z3 (u x) X.1),X.2)
theorem TI:aU Tryz.prog 101 YP:=fk aa5 (base.add D1) Tryz.func101 (Λ:=X9) (cF VN nF)
def e90:aW:=aN [pf cB] [rB] (c1 Pu.nU)
theorem o90:aU Tryz.prog 90 e90:=f0 {merge:=mg [(1,2)]} ((base.add D1).add TI) Tryz.func90
def e91:aW:=aN [pd (.sl (.int .i64)),pI] [rB] (c2 Pu.ei)
def g91:cG:=cG.nil
def n91:An:={mask:=mk [(2,[1,4,7,8,9])]}
abbrev HE:SD:=⟨B::DI::B::B::DB::B::B::.data false (.sl .arg (.int .i64))::DI::DI::bs 7 [],zs 17 [],.none⟩
def U8 {R:Type}(X:SD.D HE)(K:Ex→AS→Option R):=Pu.oa (λy0=>ke 0 K HE ((z4 (u y0) X.1),X.2)) (λy0 y1=>kr K HE ((z1 (w y0 (z2 (u y1))) X.1),X.2)) X.1.1 X.1.2.1 (q2 X) (q3 X)
def aa0:cm:=gw HE U8 q4
def L91:cY:=(cY.nil).add 2 aa0
theorem aaq:fU E g91 n91 L91 (aR Tryz.f91 0):=lk HE U8 q4 λX x=>((z4 (u x) X.1),X.2)
theorem X5:aU Tryz.prog 91 e91:=fk n91 base Tryz.func91 (Λ:=L91) (cF aaq nF)
def e92:aW:=aN [pd (.sl (.int .i64)),pI] [(false,(.sl (.own none) (.int .i64)))] (c2 Pu.gL)
def g92:cG:=cG.nil
def n92:An:={mask:=mk [(4,[1,5,6,10,11,12])],merge:=mg [(6,22)],mv:=[23,27,34,38]}
abbrev MC:SD:=⟨B::DI::B::B::B::.data false (.sl (.own (some 61440)) (.int .i64))::DB::B::B::B::.data false (.sl .arg (.int .i64))::DI::DI::bs 26 [],zs 39 [],.none⟩
def U9 {R:Type}(X:SD.D MC)(K:Ex→AS→Option R):=Pu.gA (λy0 y1 y2=>ke 0 K MC ((z1 (w y0 (w y1 (z2 (u y2)))) X.1),X.2)) X.1.1 (q3 X) (q4 X)
def aa1:cm:=gw MC U9 (λX=>(X.1.2.1,q2 X,q5 X))
def L92:cY:=(cY.nil).add 4 aa1
theorem aar:fU E g92 n92 L92 (aR Tryz.f92 0):=lk MC U9 (λX=>(X.1.2.1,q2 X,q5 X)) λX x=>((z1 (w x.1 (w x.2.1 (z2 (u x.2.2)))) X.1),X.2)
theorem o92:aU Tryz.prog 92 e92:=fk n92 base Tryz.func92 (Λ:=L92) (cF aar nF)
def e94:aW:=aN [pd (.sl eU),pI] [rI] (c2 Pu.mm)
def g94:cG:=cG.nil
def n94:An:={mask:=mk [(2,[1,4,7,8,9])],merge:=mg [(4,21)]}
abbrev HG:SD:=⟨B::DI::B::B::DI::B::B::.data false (.sl .arg eU)::DI::DI::bs 14 [],zs 24 [],.none⟩
def Vb {R:Type}(X:SD.D HG)(K:Ex→AS→Option R):=Pu.iL (λy0=>ke 0 K HG ((z4 (u y0) X.1),X.2)) (λy0 y1=>kr K HG ((z1 (w y0 (z2 (u y1))) X.1),X.2)) X.1.1 X.1.2.1 (q2 X) (q3 X)
def aa3:cm:=gw HG Vb q4
def L94:cY:=(cY.nil).add 2 aa3
theorem aat:fU E g94 n94 L94 (aR Tryz.f94 0):=lk HG Vb q4 λX x=>((z4 (u x) X.1),X.2)
theorem o94:aU Tryz.prog 94 e94:=fk n94 base Tryz.func94 (Λ:=L94) (cF aat nF)
def YY:aW:=aN [pf eU] [(true,YL)] (c1 Pu.tq)
theorem aeP:aU Tryz.prog 157 YY:=f0 {} base Tryz.func157
def e93:aW:=aN [pd (.sl eU)] [rB] (c1 Pu.gT)
def g93:cG:=((((cG.nil.add 89 Un).add 91 e91).add 94 e94).add 101 YP).add 157 YY
def n93:An:={mask:=mk [(4,[0,2,9,10,11])],merge:=mg [(6,27),(8,37)]}
abbrev HF:SD:=⟨.data false (.sl .arg eU)::B::DB::bs 6 (.data false (.sl .arg eU)::DI::DI::bs 27 []),zs 39 [],.none⟩
def Va {R:Type}(X:SD.D HF)(K:Ex→AS→Option R):=Pu.mN (λy0=>ke 0 K HF ((z4 (u y0) X.1),X.2)) (λy0 y1=>kr K HF ((z1 (w y0 (z2 (u y1))) X.1),X.2)) X.1.1 X.1.2.1 (q2 X) (q3 X)
def aa2:cm:=gw HF Va q4
def L93:cY:=(cY.nil).add 4 aa2
theorem aas:fU E g93 n93 L93 (aR Tryz.f93 0):=lk HF Va q4 λX x=>((z4 (u x) X.1),X.2)
theorem o93:aU Tryz.prog 93 e93:=fk n93 (((((base.add D1).add X5).add o94).add TI).add aeP) Tryz.func93 (Λ:=L93) (cF aas nF)
def e39:aW:=aN [pd (.sl cB)] [(false,(.sl (.own none) eU)),rB] (c1 Pu.nV)
def g39:cG:=((((cG.nil.add 89 Un).add 90 e90).add 91 e91).add 92 e92).add 93 e93
def n39:An:={mask:=mk [(6,[2,3,4,5,18,19,20]),(12,[2,3,4,5,7,8,18,19,20,32,33,34])],mv:=[53,57,63,69]}
abbrev FZ:SD:=⟨B::B::.data false (.sl (.own (some 24576)) eU)::DB::.data false (.sl (.own (some 49152)) eU)::.data false (.sl (.own (some 61440)) (.int .i64))::B::.ptr 7 0::.data false (.sl (.own (some 98304)) (.int .i64))::bs 9 (.data false (.sl .arg cB)::DI::DI::bs 11 (.data false (.sl (.own (some 393216)) (.int .i64))::DI::DI::bs 35 [])),zs 7 ((some (.pair YL SR))::zs 62 []),.none⟩
def St {R:Type}(X:SD.D FZ)(K:Ex→AS→Option R):=Pu.gp (λy0 y1 y2=>ke 2 K FZ ((z3 (w y0 (w y1 (z5 (u y2)))) X.1),X.2)) X.1.1 X.1.2.1 (q2 X) (q5 X) (q6 X) (q7 X) (q8 X) (q9 X) X.2.1.1
def Xl:cm:=gw FZ St (λX=>(q3 X,q4 X,J9 X))
abbrev Hu:SD:=⟨B::B::.data false (.sl (.own (some 24576)) eU)::DB::.data false (.sl (.own (some 49152)) eU)::.data false (.sl (.own (some 61440)) (.int .i64))::bs 12 (.data false (.sl .arg cB)::DI::DI::bs 49 []),zs 70 [],.none⟩
def US {R:Type}(X:SD.D Hu)(K:Ex→AS→Option R):=Pu.jB (λy0 y1 y2=>ke 0 K Hu ((z2 (w y0 (w y1 (z2 (u y2)))) X.1),X.2)) (λy0 y1 y2 y3 y4=>kr K Hu ((w y0 (w y1 (w y2 (w y3 (z2 (u y4))))) X.1),X.2)) X.1.1 X.1.2.1 (q4 X) (q5 X)
def aaL:cm:=gw Hu US (λX=>(q2 X,q3 X,q6 X))
def L39:cY:=((cY.nil).add 12 Xl).add 6 aaL
theorem Wv:fU E g39 n39 L39 (aR Tryz.f39 1):=lk FZ St (λX=>(q3 X,q4 X,J9 X)) λX x=>((z3 (w x.1 (w x.2.1 (z5 (u x.2.2)))) X.1),X.2)
theorem aab:fU E g39 n39 L39 (aR Tryz.f39 0):=lk Hu US (λX=>(q2 X,q3 X,q6 X)) λX x=>((z2 (w x.1 (w x.2.1 (z2 (u x.2.2)))) X.1),X.2)
theorem o39:aU Tryz.prog 39 e39:=fk n39 (((((base.add D1).add o90).add X5).add o92).add o93) Tryz.func39 (Λ:=L39) (cF aab (cF Wv nF))
def Zo:aW:=aN [pf lU] [rB] (c1 Pu.sR)
theorem ab6:aU Tryz.prog 246 Zo:=f0 {merge:=mg [(1,33),(3,54),(5,2)]} (base.add D1) Tryz.func246
def VE:aW:=aN [pd (.sl lU)] [rB] (c1 Pu.qS)
def ad4:cG:=cG.nil.add 246 Zo
def abe:An:={mask:=mk [(2,[0,2,5,6,7])]}
abbrev BQ:SD:=⟨.data false (.sl .arg lU)::B::DB::B::B::.data false (.sl .arg lU)::DI::DI::bs 10 [],zs 18 [],.none⟩
def R4 {R:Type}(X:SD.D BQ)(K:Ex→AS→Option R):=Pu.uZ (λy0=>ke 0 K BQ ((z4 (u y0) X.1),X.2)) (λy0 y1=>kr K BQ ((z1 (w y0 (z2 (u y1))) X.1),X.2)) X.1.1 X.1.2.1 (q2 X) (q3 X)
def WW:cm:=gw BQ R4 q4
def Yi:cY:=(cY.nil).add 2 WW
theorem V6:fU E ad4 abe Yi (aR Tryz.f172 0):=lk BQ R4 q4 λX x=>((z4 (u x) X.1),X.2)
theorem abW:aU Tryz.prog 172 VE:=fk abe (base.add ab6) Tryz.func172 (Λ:=Yi) (cF V6 nF)
def Zn:aW:=aN [pf (.sl gP),pf nG] [rI] (c2 Pu.ql)
def aeb:cG:=cG.nil
def abl:An:={mask:=mk [(2,[3,4,8,9,10])],merge:=mg [(4,23)]}
abbrev BW:SD:=⟨B::B::B::.ptr 3 0::DI::B::B::B::.data false (.sl .arg gP)::DI::DI::bs 15 [],Z::Z::Z::(some (.pair (.int .i64) Y2))::zs 22 [],.none⟩
def Sd {R:Type}(X:SD.D BW)(K:Ex→AS→Option R):=Pu.oe (λy0=>ke 0 K BW ((z3 (u y0) X.1),X.2)) (λy0 y1=>kr K BW ((w y0 (z2 (u y1)) X.1),X.2)) X.1.1 X.1.2.1 (q2 X) X.2.1.1
def W5:cm:=gw BW Sd q3
def Yq:cY:=(cY.nil).add 2 W5
theorem Wf:fU E aeb abl Yq (aR Tryz.f244 0):=lk BW Sd q3 λX x=>((z3 (u x) X.1),X.2)
theorem ab5:aU Tryz.prog 244 Zn:=fk abl base Tryz.func244 (Λ:=Yq) (cF Wf nF)
def YZ:aW:=aN [pI,pI] [rI] (c2 Pu.je)
theorem abV:aU Tryz.prog 171 YZ:=f0 {} base Tryz.func171
def Zv:aW:=aN [pf nG] [rI] (c1 Pu.pH)
def aej:cG:=cG.nil.add 171 YZ
def abu:An:={mask:=mk [(3,[3,16,17,18])]}
abbrev FR:SD:=⟨B::B::B::DI::bs 12 (.data false (.sl (.own (some 196608)) (.int .i64))::DI::DI::bs 10 []),zs 29 [],.none⟩
def Sl {R:Type}(X:SD.D FR)(K:Ex→AS→Option R):=Pu.iJ (λy0 y1=>ke 0 K FR ((w y0 (z2 (u y1)) X.1),X.2)) X.1.2.1 (q2 X)
def Xd:cm:=gw FR Sl (λX=>(X.1.1,q3 X))
def Yy:cY:=(cY.nil).add 3 Xd
theorem Wn:fU E aej abu Yy (aR Tryz.f295 0):=lk FR Sl (λX=>(X.1.1,q3 X)) λX x=>((w x.1 (z2 (u x.2)) X.1),X.2)
theorem afJ:aU Tryz.prog 295 Zv:=fk abu (base.add abV) Tryz.func295 (Λ:=Yy) (cF Wn nF)
def Zp:aW:=aN [pf nG] [(false,(.sl (.own none) (.int .i64)))] (c1 Pu.uu)
def aec:cG:=cG.nil.add 295 Zv
def abm:An:={mask:=mk [(3,[1,3,4])],mv:=[10,18]}
abbrev FJ:SD:=⟨B::.ptr 1 0::B::.data false (.sl (.own (some 36864)) (.int .i64))::DI::bs 14 [],Z::(some (.pair (.int .i64) Y2))::zs 17 [],.none⟩
def Se {R:Type}(X:SD.D FJ)(K:Ex→AS→Option R):=Pu.mq (λy0 y1=>ke 0 K FJ ((w y0 (u y1) X.1),X.2)) X.2.1.1
def W6:cm:=gw FJ Se (λX=>(X.1.1,X.1.2.1))
def Yr:cY:=(cY.nil).add 3 W6
theorem Wg:fU E aec abm Yr (aR Tryz.f247 0):=lk FJ Se (λX=>(X.1.1,X.1.2.1)) λX x=>((w x.1 (u x.2) X.1),X.2)
theorem aft:aU Tryz.prog 247 Zp:=fk abm (base.add afJ) Tryz.func247 (Λ:=Yr) (cF Wg nF)
def Za:aW:=aN [pf (.sl gP)] [rB] (c1 Pu.lv)
def ZQ:cG:=((cG.nil.add 89 Un).add 244 Zn).add 247 Zp
def Xy:An:={mask:=mk [(4,[1,2,12,13,14]),(14,[1,2,3,12,13,14,49,50,51])],merge:=mg [(6,28),(9,40)]}
abbrev xK:SD:=⟨B::.ptr 1 0::DB::DI::bs 8 (.data false (.sl .arg gP)::DI::DI::bs 34 (.data false (.sl (.own (some 602112)) (.int .i64))::DI::DI::bs 15 [])),Z::(some (.sl .arg gP))::zs 65 [],.none⟩
def Nq {R:Type}(X:SD.D xK)(K:Ex→AS→Option R):=Pu.gq (λy0=>ke 2 K xK ((z7 (u y0) X.1),X.2)) (λy0 y1=>kr K xK ((w y0 (z6 (u y1)) X.1),X.2)) X.1.1 X.1.2.1 (q2 X) (q3 X) (q4 X) (q5 X) (q6 X) X.2.1.1
def Ty:cm:=gw xK Nq q7
abbrev BR:SD:=⟨B::.ptr 1 0::DB::bs 9 (.data false (.sl .arg gP)::DI::DI::bs 52 []),Z::(some (.sl .arg gP))::zs 65 [],.none⟩
def R5 {R:Type}(X:SD.D BR)(K:Ex→AS→Option R):=Pu.mO (λy0=>ke 0 K BR ((z3 (u y0) X.1),X.2)) (λy0 y1=>kr K BR ((w y0 (z2 (u y1)) X.1),X.2)) X.1.1 X.1.2.1 (q2 X) X.2.1.1
def WX:cm:=gw BR R5 q3
def Vo:cY:=((cY.nil).add 14 Ty).add 4 WX
theorem Tu:fU E ZQ Xy Vo (aR Tryz.f173 1):=lk xK Nq q7 λX x=>((z7 (u x) X.1),X.2)
theorem V7:fU E ZQ Xy Vo (aR Tryz.f173 0):=lk BR R5 q3 λX x=>((z3 (u x) X.1),X.2)
theorem abX:aU Tryz.prog 173 Za:=fk Xy (((base.add D1).add ab5).add aft) Tryz.func173 (Λ:=Vo) (cF V7 (cF Tu nF))
def Zq:aW:=aN [pI] [rB] (c1 Pu.vE)
theorem afu:aU Tryz.prog 248 Zq:=f0 {merge:=mg [(1,2)]} base Tryz.func248
def Zb:aW:=aN [pf tY,pI] [rB] (c2 Pu.pL)
def ad5:cG:=(cG.nil.add 89 Un).add 248 Zq
def abf:An:={mask:=mk [(4,[1,4,24,25,26])],merge:=mg [(1,22)]}
abbrev BS:SD:=⟨B::DI::B::B::DB::bs 19 (.data false (.sl .arg (.int .i64))::DI::DI::bs 9 []),zs 36 [],.none⟩
def R6 {R:Type}(X:SD.D BS)(K:Ex→AS→Option R):=Pu.tJ (λy0=>ke 0 K BS ((z4 (u y0) X.1),X.2)) (λy0 y1=>kr K BS ((z1 (w y0 (z2 (u y1))) X.1),X.2)) X.1.1 X.1.2.1 (q2 X) (q3 X)
def WY:cm:=gw BS R6 q4
def Yj:cY:=(cY.nil).add 4 WY
theorem V8:fU E ad5 abf Yj (aR Tryz.f174 0):=lk BS R6 q4 λX x=>((z4 (u x) X.1),X.2)
theorem abY:aU Tryz.prog 174 Zb:=fk abf ((base.add D1).add afu) Tryz.func174 (Λ:=Yj) (cF V8 nF)
def acB:aW:=aN [pf iE,pI] [rB] (c2 Pu.jC)
def ZJ:cG:=((cG.nil.add 172 VE).add 173 Za).add 174 Zb
def Xs:An:={mask:=mk [(4,[1,2,4,27,28,29]),(10,[1,4,45,46,47])],merge:=mg [(1,25),(6,41),(12,59)]}
abbrev BG:SD:=⟨B::DI::.ptr 2 0::B::DB::bs 22 (.data false (.sl .arg lU)::DI::DI::bs 31 []),Z::Z::(some YK)::zs 58 [],.none⟩
def RL {R:Type}(X:SD.D BG)(K:Ex→AS→Option R):=Pu.jm (λy0=>ke 0 K BG ((z4 (u y0) X.1),X.2)) (λy0 y1=>kr K BG ((z1 (w y0 (z2 (u y1))) X.1),X.2)) X.1.1 X.1.2.1 (q2 X) (q3 X) X.2.1.1
def WC:cm:=gw BG RL q4
abbrev xI:SD:=⟨B::DI::B::B::DB::bs 40 (.data false (.sl .arg gP)::DI::DI::bs 13 []),zs 61 [],.none⟩
def Nn {R:Type}(X:SD.D xI)(K:Ex→AS→Option R):=Pu.iu (λy0=>ke 2 K xI ((z4 (u y0) X.1),X.2)) (λy0 y1=>kr K xI ((z1 (w y0 (z2 (u y1))) X.1),X.2)) X.1.1 X.1.2.1 (q2 X) (q3 X)
def Tv:cm:=gw xI Nn q4
def Vi:cY:=((cY.nil).add 4 WC).add 10 Tv
theorem VO:fU E ZJ Xs Vi (aR Tryz.f102 0):=lk BG RL q4 λX x=>((z4 (u x) X.1),X.2)
theorem Tr:fU E ZJ Xs Vi (aR Tryz.f102 1):=lk xI Nn q4 λX x=>((z4 (u x) X.1),X.2)
theorem abF:aU Tryz.prog 102 acB:=fk Xs (((base.add abW).add abX).add abY) Tryz.func102 (Λ:=Vi) (cF VO (cF Tr nF))
def e45:aW:=aN [pf km] [rB] (c1 Pu.qj)
theorem o45:aU Tryz.prog 45 e45:=f0 {merge:=mg [(1,2)]} ((base.add TI).add abF) Tryz.func45
def acC:aW:=aN [pd (.sl (.int .i64)),pd (.sl (.int .i64))] [rB] (c2 Pu.lC)
def adX:cG:=cG.nil
def aa6:An:={mask:=mk [(4,[0,1,4,12,13])]}
abbrev BH:SD:=⟨.data false (.sl .arg (.int .i64))::.data false (.sl .arg (.int .i64))::B::B::DB::bs 7 (DI::DI::bs 12 []),zs 26 [],.none⟩
def RM {R:Type}(X:SD.D BH)(K:Ex→AS→Option R):=Pu.iy (λy0=>ke 0 K BH ((z4 (u y0) X.1),X.2)) (λy0 y1=>kr K BH ((z2 (w y0 (z1 (u y1))) X.1),X.2)) X.1.1 X.1.2.1 (q2 X) (q3 X)
def WD:cm:=gw BH RM q4
def Ya:cY:=(cY.nil).add 4 WD
theorem VP:fU E adX aa6 Ya (aR Tryz.f103 0):=lk BH RM q4 λX x=>((z4 (u x) X.1),X.2)
theorem aeA:aU Tryz.prog 103 acC:=fk aa6 base Tryz.func103 (Λ:=Ya) (cF VP nF)
def e46:aW:=aN [pf jk,pf jk] [rB] (c2 Pu.mQ)
theorem o46:aU Tryz.prog 46 e46:=f0 {merge:=mg [(1,4)]} (base.add aeA) Tryz.func46
def YQ:aW:=aN [pf kl] [rB] (c1 Pu.tp)
theorem aeB:aU Tryz.prog 104 YQ:=f0 {merge:=mg [(1,2)]} (base.add D1) Tryz.func104
def e47:aW:=aN [pd (.sl aY),pd (.sl eU)] [rB] (c2 Pu.lf)
def g47:cG:=((cG.nil.add 89 Un).add 93 e93).add 104 YQ
def n47:An:={mask:=mk [(4,[0,1,4,12,13,14]),(9,[0,1,4,6,12,13,14,52,53,54])],merge:=mg [(6,49),(11,69)]}
abbrev Hw:SD:=⟨.data false (.sl .arg aY)::.data false (.sl .arg eU)::B::B::DB::B::.ptr 6 0::bs 5 (.data false (.sl .arg aY)::DI::DI::bs 37 (.data false (.sl .arg aY)::DI::DI::bs 17 [])),zs 6 ((some Y28)::zs 65 []),.none⟩
def UU {R:Type}(X:SD.D Hw)(K:Ex→AS→Option R):=Pu.ir (λy0=>ke 2 K Hw ((z8 (u y0) X.1),X.2)) (λy0 y1=>kr K Hw ((z2 (w y0 (z5 (u y1))) X.1),X.2)) X.1.1 X.1.2.1 (q2 X) (q3 X) (q4 X) (q5 X) (q6 X) (q7 X) X.2.1.1
def aaN:cm:=gw Hw UU q8
abbrev Hv:SD:=⟨.data false (.sl .arg aY)::.data false (.sl .arg eU)::B::B::DB::bs 7 (.data false (.sl .arg aY)::DI::DI::bs 57 []),zs 72 [],.none⟩
def UT {R:Type}(X:SD.D Hv)(K:Ex→AS→Option R):=Pu.iq (λy0=>ke 0 K Hv ((z5 (u y0) X.1),X.2)) (λy0 y1=>kr K Hv ((z2 (w y0 (z2 (u y1))) X.1),X.2)) X.1.1 X.1.2.1 (q2 X) (q3 X) (q4 X)
def aaM:cm:=gw Hv UT q5
def L47:cY:=((cY.nil).add 9 aaN).add 4 aaM
theorem aad:fU E g47 n47 L47 (aR Tryz.f47 1):=lk Hw UU q8 λX x=>((z8 (u x) X.1),X.2)
theorem aac:fU E g47 n47 L47 (aR Tryz.f47 0):=lk Hv UT q5 λX x=>((z5 (u x) X.1),X.2)
theorem o47:aU Tryz.prog 47 e47:=fk n47 (((base.add D1).add o93).add aeB) Tryz.func47 (Λ:=L47) (cF aac (cF aad nF))
def e48:aW:=aN [pd (.sl aY)] [rB] (c1 Pu.oc)
def g48:cG:=cG.nil
def n48:An:={mask:=mk [(2,[2,5,6,7])],merge:=mg [(4,22)]}
abbrev Hx:SD:=⟨B::B::DB::B::B::.data false (.sl .arg aY)::DI::DI::bs 16 [],zs 24 [],.none⟩
def UW {R:Type}(X:SD.D Hx)(K:Ex→AS→Option R):=Pu.kA (λy0=>ke 0 K Hx ((z3 (u y0) X.1),X.2)) (λy0 y1=>kr K Hx ((w y0 (z2 (u y1)) X.1),X.2)) X.1.1 X.1.2.1 (q2 X)
def aaO:cm:=gw Hx UW q3
def L48:cY:=(cY.nil).add 2 aaO
theorem aae:fU E g48 n48 L48 (aR Tryz.f48 0):=lk Hx UW q3 λX x=>((z3 (u x) X.1),X.2)
theorem o48:aU Tryz.prog 48 e48:=fk n48 base Tryz.func48 (Λ:=L48) (cF aae nF)
def e14:aW:=aN [pf fM] [rB] (c1 Pu.nS)
def g14:cG:=((((cG.nil.add 39 e39).add 45 e45).add 46 e46).add 47 e47).add 48 e48
def n14:An:={mask:=mk [(6,[1,2,3,41,42,43])],merge:=mg [(3,39),(8,62),(11,2)]}
abbrev Ho:SD:=⟨B::.ptr 1 0::DB::.data false (.sl .loc eU)::bs 37 (.data false (.sl .arg km)::DI::DI::bs 29 []),Z::(some Y27)::zs 71 [],.none⟩
def UF {R:Type}(X:SD.D Ho)(K:Ex→AS→Option R):=Pu.mM (λy0=>ke 0 K Ho ((z4 (u y0) X.1),X.2)) (λy0 y1=>kr K Ho ((w y0 (z3 (u y1)) X.1),X.2)) X.1.1 X.1.2.1 (q2 X) (q3 X) X.2.1.1
def aay:cm:=gw Ho UF q4
def L14:cY:=(cY.nil).add 6 aay
theorem ZY:fU E g14 n14 L14 (aR Tryz.f14 0):=lk Ho UF q4 λX x=>((z4 (u x) X.1),X.2)
theorem o14:aU Tryz.prog 14 e14:=fk n14 (((((base.add o39).add o45).add o46).add o47).add o48) Tryz.func14 (Λ:=L14) (cF ZY nF)
def e53:aW:=aN [pd (.sl aY)] [(false,(.sl (.own none) aY))] (c1 Pu.jn)
theorem o53:aU Tryz.prog 53 e53:=f0 {} base Tryz.func53
def ac8:aW:=aN [pd (.sl (.int .i64))] [(false,(.sl (.own none) (.int .i64)))] (c1 Pu.mi)
theorem ab0:aU Tryz.prog 196 ac8:=f0 {} base Tryz.func196
def acD:aW:=aN [pf jk] [(true,Y8)] (c1 Pu.jD)
theorem abG:aU Tryz.prog 120 acD:=f0 {mv:=[7]} (base.add ab0) Tryz.func120
def YR:aW:=aN [pf cB] [(true,(.pair Y8 SR))] (c1 Pu.ly)
theorem aeC:aU Tryz.prog 127 YR:=f0 {mv:=[7]} (base.add abG) Tryz.func127
def e54:aW:=aN [pd (.sl cB)] [(false,(.sl (.own none) cB))] (c1 Pu.n4)
def g54:cG:=cG.nil.add 127 YR
def n54:An:={mask:=mk [(3,[3,7,8,9])],mv:=[13,19]}
abbrev Mw:SD:=⟨B::B::B::.data false (.sl (.own (some 36864)) cB)::B::B::B::.data false (.sl .arg cB)::DI::DI::bs 10 [],zs 20 [],.none⟩
def UX {R:Type}(X:SD.D Mw)(K:Ex→AS→Option R):=Pu.kv (λy0 y1=>ke 0 K Mw ((w y0 (z2 (u y1)) X.1),X.2)) X.1.2.1 (q2 X)
def aaP:cm:=gw Mw UX (λX=>(X.1.1,q3 X))
def L54:cY:=(cY.nil).add 3 aaP
theorem aaf:fU E g54 n54 L54 (aR Tryz.f54 0):=lk Mw UX (λX=>(X.1.1,q3 X)) λX x=>((w x.1 (z2 (u x.2)) X.1),X.2)
theorem o54:aU Tryz.prog 54 e54:=fk n54 (base.add aeC) Tryz.func54 (Λ:=L54) (cF aaf nF)
def e55:aW:=aN [pd (.sl .str)] [(false,(.sl (.own none) .str))] (c1 Pu.gr)
theorem o55:aU Tryz.prog 55 e55:=f0 {} base Tryz.func55
def adn:aW:=aN [pf (.sl gP)] [(true,(.sl (.own none) gP))] (c1 Pu.n8)
theorem afg:aU Tryz.prog 229 adn:=f0 {} base Tryz.func229
def ado:aW:=aN [pf tY] [(true,(.pair .str (.sl (.own none) (.int .i64))))] (c1 Pu.mP)
theorem afh:aU Tryz.prog 230 ado:=f0 {sb:=mg [(2,2)]} (base.add ab0) Tryz.func230
def acR:aW:=aN [pf iE] [(true,Y9)] (c1 Pu.kz)
theorem aeN:aU Tryz.prog 153 acR:=f0 {sb:=mg [(2,2)]} ((base.add afg).add afh) Tryz.func153
def acS:aW:=aN [pd (.sl dB)] [(false,(.sl (.own none) dB))] (c1 Pu.iK)
theorem abQ:aU Tryz.prog 154 acS:=f0 {} base Tryz.func154
def e87:aW:=aN [pf km] [(true,Y23)] (c1 Pu.mj)
theorem o87:aU Tryz.prog 87 e87:=f0 {sb:=mg [(2,2)]} ((((base.add o55).add abG).add aeN).add abQ) Tryz.func87
def e37:aW:=aN [pf fM] [(true,Y16)] (c1 Pu.n5)
def g37:cG:=(((cG.nil.add 53 e53).add 54 e54).add 55 e55).add 87 e87
def n37:An:={mask:=mk [(3,[1,2,3,19,20,21]),(8,[2,3,34,35,36])],mv:=[26,41,48],mb:=mg [(26,3),(41,3)],sb:=mg [(3,3),(31,3),(46,3)]}
abbrev Mu:SD:=⟨B::.ptr 1 0::.ptr 2 0::.ptr 3 0::bs 15 (.data false (.sl .arg km)::DI::DI::bs 27 []),Z::(some Y27)::(some Y15)::(some Y14)::zs 45 [],.none⟩
def UQ {R:Type}(X:SD.D Mu)(K:Ex→AS→Option R):=Pu.kx (λy0 y1=>ke 0 K Mu ((z2 (u y0) X.1),(z2 (u y1) X.2.1),X.2.2)) X.1.1 X.1.2.1 X.2.1.1 X.2.1.2.1
def aaJ:cm:=gw Mu UQ (λX=>(q2 X,X.2.1.2.2.1))
abbrev Mv:SD:=⟨B::B::.ptr 2 0::.ptr 3 0::bs 30 (.data false (.sl .arg (.sl .str))::DI::DI::bs 12 []),Z::Z::(some Y15)::(some Y14)::zs 45 [],.none⟩
def UR {R:Type}(X:SD.D Mv)(K:Ex→AS→Option R):=Pu.ky (λy0 y1=>ke 2 K Mv ((z2 (u y0) X.1),(z1 (u y1) X.2.1),X.2.2)) X.1.1 X.1.2.1 X.2.1.1
def aaK:cm:=gw Mv UR (λX=>(q2 X,X.2.1.2.1))
def L37:cY:=((cY.nil).add 3 aaJ).add 8 aaK
theorem Z9:fU E g37 n37 L37 (aR Tryz.f37 0):=lk Mu UQ (λX=>(q2 X,X.2.1.2.2.1)) λX x=>((z2 (u x.1) X.1),(z2 (u x.2) X.2.1),X.2.2)
theorem aaa:fU E g37 n37 L37 (aR Tryz.f37 1):=lk Mv UR (λX=>(q2 X,X.2.1.2.1)) λX x=>((z2 (u x.1) X.1),(z1 (u x.2) X.2.1),X.2.2)
theorem o37:aU Tryz.prog 37 e37:=fk n37 ((((base.add o53).add o54).add o55).add o87) Tryz.func37 (Λ:=L37) (cF Z9 (cF aaa nF))
def acT:aW:=aN [pf rF] [rB] (c1 Pu.kT)
theorem abR:aU Tryz.prog 155 acT:=f0 {merge:=mg [(1,18),(5,2),(7,2)]} (base.add D1) Tryz.func155
def acU:aW:=aN [pI] [rB] (c1 Pu.og)
theorem aeO:aU Tryz.prog 156 acU:=f0 {merge:=mg [(1,2)]} base Tryz.func156
def e88:aW:=aN [pf bX] [rB] (c1 Pu.eL)
theorem Uu:aU Tryz.prog 88 e88:=f0 {merge:=mg [(1,2)]} (((base.add D1).add abR).add aeO) Tryz.func88
def e38:aW:=aN [pf bX] [rB] (c1 Pu.jW)
theorem o38:aU Tryz.prog 38 e38:=f0 {merge:=mg [(1,2)]} (base.add Uu) Tryz.func38
def e40:aW:=aN [pd (.sl eU),pI,pf bX] [rI] (c3 Pu.kS)
theorem o40:aU Tryz.prog 40 e40:=f0 {merge:=mg [(1,24),(7,54)]} ((((base.add Uu).add D1).add X5).add o93) Tryz.func40
def e41:aW:=aN [pd (.sl eU),pI,pf bX] [(false,(.sl (.own none) (.int .i64)))] (c3 Pu.ku)
def g41:cG:=((cG.nil.add 40 e40).add 91 e91).add 94 e94
def n41:An:={mask:=mk [(11,[0,1,7,8,33,34]),(17,[0,1,7,11,43,44,45])],merge:=mg [(19,60)],mv:=[37,61,66]}
abbrev F1:SD:=⟨.data false (.sl .arg eU)::DI::bs 5 (DI::B::B::B::.data false (.sl (.own (some 135168)) (.int .i64))::bs 31 (.data false (.sl .loc (.int .i64))::DI::DI::bs 21 [])),zs 67 [],.none⟩
def Sv {R:Type}(X:SD.D F1)(K:Ex→AS→Option R):=Pu.dN (λy0 y1=>ke 2 K F1 ((z3 (w y0 (z2 (u y1))) X.1),X.2)) X.1.1 X.1.2.1 (q2 X) (q4 X) (q5 X)
def Xn:cm:=gw F1 Sv (λX=>(q3 X,q6 X))
abbrev F0:SD:=⟨.data false (.sl .arg eU)::DI::bs 5 (DI::.data false (.sl (.own (some 98304)) (.int .i64))::bs 24 (DI::DI::bs 32 [])),zs 67 [],.none⟩
def Su {R:Type}(X:SD.D F0)(K:Ex→AS→Option R):=Pu.gD (λy0 y1=>ke 0 K F0 ((z3 (w y0 (z1 (u y1))) X.1),X.2)) X.1.1 X.1.2.1 (q2 X) (q4 X)
def Xm:cm:=gw F0 Su (λX=>(q3 X,q5 X))
def L41:cY:=((cY.nil).add 17 Xn).add 11 Xm
theorem Wx:fU E g41 n41 L41 (aR Tryz.f41 1):=lk F1 Sv (λX=>(q3 X,q6 X)) λX x=>((z3 (w x.1 (z2 (u x.2))) X.1),X.2)
theorem Ww:fU E g41 n41 L41 (aR Tryz.f41 0):=lk F0 Su (λX=>(q3 X,q5 X)) λX x=>((z3 (w x.1 (z1 (u x.2))) X.1),X.2)
theorem o41:aU Tryz.prog 41 e41:=fk n41 (((base.add o40).add X5).add o94) Tryz.func41 (Λ:=L41) (cF Ww (cF Wx nF))
def ac7:aW:=aN [pI] [rS] (c1 Pu.cv)
theorem Jm:aU Tryz.prog 170 ac7:=f0 {} (base.add D1) Tryz.func170
def adM:aW:=aN [pI] [rS] (c1 Pu.fE)
theorem QZ:aU Tryz.prog 289 adM:=f0 {} (base.add D1) Tryz.func289
def adp:aW:=aN [pf rF] [rS] (c1 Pu.lx)
theorem afi:aU Tryz.prog 231 adp:=f0 {} ((base.add Jm).add QZ) Tryz.func231
def adq:aW:=aN [pI,pI,pI,pI] [rS,rB] (c4 Pu.nW)
theorem afj:aU Tryz.prog 232 adq:=f0 {merge:=mg [(1,27)]} (((base.add D1).add Jm).add QZ) Tryz.func232
def ZD:aW:=aN [pI,pI] [rI] (c2 Pu.qO)
theorem afP:aU Tryz.prog 327 ZD:=f0 {merge:=mg [(1,12)]} (base.add D1) Tryz.func327
def adN:aW:=aN [pd .str] [rI] (c1 Pu.pM)
def aei:cG:=cG.nil.add 327 ZD
def abt:An:={mask:=mk [(3,[0,3,4])]}
abbrev FQ:SD:=⟨.data false .str::B::B::DI::DI::bs 28 [],zs 33 [],.none⟩
def Sk {R:Type}(X:SD.D FQ)(K:Ex→AS→Option R):=Pu.lu (λy0 y1=>ke 0 K FQ ((z1 (w y0 (u y1)) X.1),X.2)) X.1.1
def Xc:cm:=gw FQ Sk (λX=>(X.1.2.1,q2 X))
def Yx:cY:=(cY.nil).add 3 Xc
theorem Wm:fU E aei abt Yx (aR Tryz.f290 0):=lk FQ Sk (λX=>(X.1.2.1,q2 X)) λX x=>((z1 (w x.1 (u x.2)) X.1),X.2)
theorem afF:aU Tryz.prog 290 adN:=fk abt (base.add afP) Tryz.func290 (Λ:=Yx) (cF Wm nF)
def adr:aW:=aN [pd .str] [rI] (c1 Pu.mf)
theorem ab2:aU Tryz.prog 233 adr:=f0 {} (base.add afF) Tryz.func233
def ads:aW:=aN [pd .str,pI,pd .str] [rS] (c3 Pu.jX)
theorem ab3:aU Tryz.prog 234 ads:=f0 {merge:=mg [(1,17)]} base Tryz.func234
def adt:aW:=aN [pI] [rI] (c1 Pu.mn)
theorem afk:aU Tryz.prog 235 adt:=f0 {} base Tryz.func235
def acV:aW:=aN [pI,pI,pf rF] [rS,rB] (c3 Pu.fI)
theorem abS:aU Tryz.prog 158 acV:=f0 {merge:=mg [(8,39)]} (((((((base.add abR).add Jm).add afi).add afj).add ab2).add ab3).add afk) Tryz.func158
def adO:aW:=aN [pf Uj] [rB] (c1 Pu.zm)
theorem afG:aU Tryz.prog 291 adO:=f0 {merge:=mg [(1,2)]} (base.add D1) Tryz.func291
def adu:aW:=aN [pf Uj] [rS,rB] (c1 Pu.pJ)
theorem afl:aU Tryz.prog 236 adu:=f0 {} (((((base.add Jm).add ab2).add ab3).add QZ).add afG) Tryz.func236
def acW:aW:=aN [pf Uj] [rS,rB] (c1 Pu.nO)
theorem abT:aU Tryz.prog 159 acW:=f0 {} (base.add afl) Tryz.func159
def adv:aW:=aN [pf Nw] [rB] (c1 Pu.rT)
theorem ab4:aU Tryz.prog 237 adv:=f0 {merge:=mg [(1,2)]} (base.add D1) Tryz.func237
def adw:aW:=aN [pI] [rS] (c1 Pu.pN)
theorem afm:aU Tryz.prog 238 adw:=f0 {} ((base.add Jm).add QZ) Tryz.func238
def acX:aW:=aN [pf Nw] [rS,rB] (c1 Pu.pC)
theorem aeQ:aU Tryz.prog 160 acX:=f0 {} (((base.add Jm).add ab4).add afm) Tryz.func160
def adx:aW:=aN [pd (.int .u8),pI] [rS] (c2 Pu.sS)
def aea:cG:=cG.nil
def abk:An:={mask:=mk [(3,[0,5,10,11])]}
abbrev FI:SD:=⟨.data false (.int .u8)::bs 4 (.data false (.sl (.own (some 61440)) (.int .u8))::bs 4 (DI::DI::bs 9 [])),zs 21 [],.none⟩
def Sc {R:Type}(X:SD.D FI)(K:Ex→AS→Option R):=Pu.od (λy0 y1=>ke 0 K FI ((z1 (w y0 (z1 (u y1))) X.1),X.2)) X.1.1 (q2 X)
def W4:cm:=gw FI Sc (λX=>(X.1.2.1,q3 X))
def Yp:cY:=(cY.nil).add 3 W4
theorem We:fU E aea abk Yp (aR Tryz.f239 0):=lk FI Sc (λX=>(X.1.2.1,q3 X)) λX x=>((z1 (w x.1 (z1 (u x.2))) X.1),X.2)
theorem afn:aU Tryz.prog 239 adx:=fk abk base Tryz.func239 (Λ:=Yp) (cF We nF)
def acY:aW:=aN [pd .str] [rS] (c1 Pu.qQ)
theorem aeR:aU Tryz.prog 161 acY:=f0 {} (base.add afn) Tryz.func161
def e95:aW:=aN [pf bX] [rS,rB] (c1 Pu.mL)
theorem o95:aU Tryz.prog 95 e95:=f0 {} (((((base.add Uu).add abS).add abT).add aeQ).add aeR) Tryz.func95
def acZ:aW:=aN [pd .str] [rI] (c1 Pu.ur)
def ZP:cG:=cG.nil
def Xx:An:={mask:=mk [(3,[0,3,4]),(7,[0,3,4,5])]}
abbrev Fz:SD:=⟨.data false .str::B::B::.data false (.int .u32)::DI::DI::bs 28 [],zs 34 [],.none⟩
def R1 {R:Type}(X:SD.D Fz)(K:Ex→AS→Option R):=Pu.jV (λy0 y1=>ke 2 K Fz ((z1 (w y0 (z1 (u y1))) X.1),X.2)) X.1.1 (q2 X)
def WT:cm:=gw Fz R1 (λX=>(X.1.2.1,q3 X))
abbrev Fy:SD:=⟨.data false .str::B::B::.data false (.int .u32)::DI::bs 29 [],zs 34 [],.none⟩
def R0 {R:Type}(X:SD.D Fy)(K:Ex→AS→Option R):=Pu.mh (λy0 y1=>ke 0 K Fy ((z1 (w y0 (u y1)) X.1),X.2)) X.1.1
def WS:cm:=gw Fy R0 (λX=>(X.1.2.1,q2 X))
def Vn:cY:=((cY.nil).add 7 WT).add 3 WS
theorem V3:fU E ZP Xx Vn (aR Tryz.f162 1):=lk Fz R1 (λX=>(X.1.2.1,q3 X)) λX x=>((z1 (w x.1 (z1 (u x.2))) X.1),X.2)
theorem V2:fU E ZP Xx Vn (aR Tryz.f162 0):=lk Fy R0 (λX=>(X.1.2.1,q2 X)) λX x=>((z1 (w x.1 (u x.2)) X.1),X.2)
theorem aeS:aU Tryz.prog 162 acZ:=fk Xx base Tryz.func162 (Λ:=Vn) (cF V2 (cF V3 nF))
def e96:aW:=aN [pd .str] [rS] (c1 Pu.nZ)
theorem o96:aU Tryz.prog 96 e96:=f0 {} (base.add aeS) Tryz.func96
def e42:aW:=aN [pf bX] [rS,rB] (c1 Pu.mK)
theorem o42:aU Tryz.prog 42 e42:=f0 {} (((base.add o38).add o95).add o96) Tryz.func42
def e43:aW:=aN [pd (.sl eU),pI,pI,pf bX] [(true,Y0)] (c4 Pu.lh)
theorem o43:aU Tryz.prog 43 e43:=f0 {merge:=mg [(1,34)]} ((((base.add Uu).add D1).add X5).add o93) Tryz.func43
def ac0:aW:=aN [pd .str] [rS,rB] (c1 Pu.pD)
theorem aeT:aU Tryz.prog 163 ac0:=f0 {merge:=mg [(2,17)]} (base.add o96) Tryz.func163
def adF:aW:=aN [pd .str,pI] [rI] (c2 Pu.jl)
theorem XE:aU Tryz.prog 278 adF:=f0 {merge:=mg [(1,13)]} base Tryz.func278
def adP:aW:=aN [pd .str,pI] [rI] (c2 Pu.fb)
theorem XG:aU Tryz.prog 292 adP:=f0 {merge:=mg [(1,13)]} base Tryz.func292
def ady:aW:=aN [pd .str] [(true,Y10),rB] (c1 Pu.pK)
theorem afo:aU Tryz.prog 240 ady:=f0 {merge:=mg [(4,33)],sb:=mg [(4,4)]} (((base.add ab4).add XE).add XG) Tryz.func240
def adz:aW:=aN [pd .str] [(true,XY),rB] (c1 Pu.qR)
theorem afp:aU Tryz.prog 241 adz:=f0 {merge:=mg [(2,22),(6,56)],sb:=mg [(5,5)]} (((base.add abT).add XE).add XG) Tryz.func241
def adA:aW:=aN [pI,pI,pI,pd .str] [(true,(.pair (.int .i64) XY)),rB] (c4 Pu.kt)
theorem afq:aU Tryz.prog 242 adA:=f0 {merge:=mg [(3,20),(9,44),(12,68)]} (((base.add abS).add XE).add XG) Tryz.func242
def ac1:aW:=aN [pd .str] [(true,Y0),rI] (c1 Pu.nY)
theorem aeU:aU Tryz.prog 164 ac1:=f0 {merge:=mg [(2,20)]} ((((base.add Uu).add afo).add afp).add afq) Tryz.func164
def e97:aW:=aN [pd .str] [(true,Y0),rI] (c1 Pu.nX)
theorem o97:aU Tryz.prog 97 e97:=f0 {} (((base.add o38).add aeT).add aeU) Tryz.func97
def e98:aW:=aN [pf jk,pf bX] [rB] (c2 Pu.qN)
theorem o98:aU Tryz.prog 98 e98:=f0 {merge:=mg [(1,4)]} ((base.add X5).add TI) Tryz.func98
def adQ:aW:=aN [pI,pI,pI] [rB] (c3 Pu.jE)
theorem afH:aU Tryz.prog 293 adQ:=f0 {} base Tryz.func293
def Zm:aW:=aN [pf lU,pf bX] [rB] (c2 Pu.lj)
theorem afr:aU Tryz.prog 243 Zm:=f0 {merge:=mg [(1,4)]} ((((base.add Uu).add D1).add ab6).add afH) Tryz.func243
def ac2:aW:=aN [pd (.sl lU),pf bX] [rI] (c2 Pu.pF)
def ad2:cG:=(cG.nil.add 172 VE).add 243 Zm
def abc:An:={mask:=mk [(5,[0,3,5,11,12,13])],merge:=mg [(7,34)]}
abbrev FA:SD:=⟨.data false (.sl .arg lU)::B::B::.ptr 3 0::B::DI::bs 5 (.data false (.sl .arg lU)::DI::DI::bs 24 []),Z::Z::Z::(some Y0)::zs 34 [],.none⟩
def R2 {R:Type}(X:SD.D FA)(K:Ex→AS→Option R):=Pu.ld (λy0 y1=>ke 0 K FA ((z1 (w y0 (z2 (u y1))) X.1),X.2)) X.1.1 (q2 X) (q3 X) X.2.1.1
def WU:cm:=gw FA R2 (λX=>(X.1.2.1,q4 X))
def Yg:cY:=(cY.nil).add 5 WU
theorem V4:fU E ad2 abc Yg (aR Tryz.f165 0):=lk FA R2 (λX=>(X.1.2.1,q4 X)) λX x=>((z1 (w x.1 (z2 (u x.2))) X.1),X.2)
theorem aeV:aU Tryz.prog 165 ac2:=fk abc ((base.add abW).add afr) Tryz.func165 (Λ:=Yg) (cF V4 nF)
def ac3:aW:=aN [pf (.sl gP),pf nG] [rI] (c2 Pu.pE)
theorem aeW:aU Tryz.prog 166 ac3:=f0 {} ((base.add abX).add ab5) Tryz.func166
def ac4:aW:=aN [pf bX] [(true,(.pair (.int .i64) Y2))] (c1 Pu.qi)
theorem abU:aU Tryz.prog 167 ac4:=f0 {} base Tryz.func167
def VH:aW:=aN [pd .str,pI] [rI] (c2 Pu.qk)
theorem acd:aU Tryz.prog 350 VH:=f0 {} base Tryz.func350
def ZG:aW:=aN [pd .str,pI] [rI] (c2 Pu.nT)
def aeq:cG:=(cG.nil.add 89 Un).add 350 VH
def abB:An:={mask:=mk [(5,[0,1,5,6])],merge:=mg [(1,14)]}
abbrev FY:SD:=⟨.data false .str::DI::B::B::B::DI::DI::bs 22 [],zs 29 [],.none⟩
def Ss {R:Type}(X:SD.D FY)(K:Ex→AS→Option R):=Pu.ks (λy0 y1=>ke 0 K FY ((z2 (w y0 (u y1)) X.1),X.2)) X.1.1 X.1.2.1
def Xk:cm:=gw FY Ss (λX=>(q2 X,q3 X))
def YF:cY:=(cY.nil).add 5 Xk
theorem Wu:fU E aeq abB YF (aR Tryz.f351 0):=lk FY Ss (λX=>(q2 X,q3 X)) λX x=>((z2 (w x.1 (u x.2)) X.1),X.2)
theorem afW:aU Tryz.prog 351 ZG:=fk abB ((base.add D1).add acd) Tryz.func351 (Λ:=YF) (cF Wu nF)
def adS:aW:=aN [pd .str,pd .str] [rI] (c2 Pu.nQ)
def aen:cG:=(cG.nil.add 350 VH).add 351 ZG
def aby:An:={mask:=mk [(5,[0,1,5,6])],merge:=mg [(1,14)]}
abbrev FW:SD:=⟨.data false .str::.data false .str::B::B::B::DI::DI::bs 25 [],zs 32 [],.none⟩
def Sp {R:Type}(X:SD.D FW)(K:Ex→AS→Option R):=Pu.kq (λy0 y1=>ke 0 K FW ((z2 (w y0 (u y1)) X.1),X.2)) X.1.1 X.1.2.1
def Xh:cm:=gw FW Sp (λX=>(q2 X,q3 X))
def YC:cY:=(cY.nil).add 5 Xh
theorem Wr:fU E aen aby YC (aR Tryz.f328 0):=lk FW Sp (λX=>(q2 X,q3 X)) λX x=>((z2 (w x.1 (u x.2)) X.1),X.2)
theorem afQ:aU Tryz.prog 328 adS:=fk aby ((base.add acd).add afW) Tryz.func328 (Λ:=YC) (cF Wr nF)
def adT:aW:=aN [pf nG] [rS] (c1 Pu.nR)
theorem afR:aU Tryz.prog 329 adT:=f0 {} ((base.add Jm).add QZ) Tryz.func329
def adR:aW:=aN [pd .str,pf nG] [rI] (c2 Pu.pG)
theorem afI:aU Tryz.prog 294 adR:=f0 {} ((base.add afQ).add afR) Tryz.func294
def adB:aW:=aN [pf tY,pf nG] [rI] (c2 Pu.qP)
theorem afs:aU Tryz.prog 245 adB:=f0 {merge:=mg [(2,17)]} (base.add afI) Tryz.func245
def ac5:aW:=aN [pf tY,pI,pf nG] [rI] (c3 Pu.lp)
theorem aeX:aU Tryz.prog 168 ac5:=f0 {merge:=mg [(2,18)]} ((base.add abY).add afs) Tryz.func168
def e99:aW:=aN [pf iE,pI,pf bX] [rI] (c3 Pu.lq)
theorem o99:aU Tryz.prog 99 e99:=f0 {merge:=mg [(1,17)]} ((((((base.add Uu).add abF).add aeV).add aeW).add abU).add aeX) Tryz.func99
def ac6:aW:=aN [pd (.sl dB),pf nG] [rI] (c2 Pu.lr)
def ad3:cG:=cG.nil
def abd:An:={mask:=mk [(2,[3,4,7,8,9])]}
abbrev BP:SD:=⟨B::B::B::.ptr 3 0::DI::B::B::.data false (.sl .arg dB)::DI::DI::bs 10 [],Z::Z::Z::(some (.pair (.int .i64) Y2))::zs 16 [],.none⟩
def R3 {R:Type}(X:SD.D BP)(K:Ex→AS→Option R):=Pu.iv (λy0=>ke 0 K BP ((z3 (u y0) X.1),X.2)) (λy0 y1=>kr K BP ((w y0 (z2 (u y1)) X.1),X.2)) X.1.1 X.1.2.1 (q2 X) X.2.1.1
def WV:cm:=gw BP R3 q3
def Yh:cY:=(cY.nil).add 2 WV
theorem V5:fU E ad3 abd Yh (aR Tryz.f169 0):=lk BP R3 q3 λX x=>((z3 (u x) X.1),X.2)
theorem aeY:aU Tryz.prog 169 ac6:=fk abd base Tryz.func169 (Λ:=Yh) (cF V5 nF)
def acA:aW:=aN [pd (.sl dB),pf bX] [(false,(.sl (.own none) dB))] (c2 Pu.nP)
theorem aez:aU Tryz.prog 100 acA:=f0 {merge:=mg [(17,82)],mv:=[16,31,51,58,67,83,132],er:=mg [(115,5)]} ((((((base.add Uu).add abQ).add abU).add aeY).add Jm).add abV) Tryz.func100
def e44:aW:=aN [pf km,pd .str] [(true,Y23)] (c2 Pu.ll)
theorem o44:aU Tryz.prog 44 e44:=f0 {merge:=mg [(3,35)],mv:=[41]} ((((((base.add o45).add o87).add o97).add o98).add o99).add aez) Tryz.func44
def e11:aW:=aN [pf fM,pI,pf bX] [(true,Y16)] (c3 Pu.lg)
def g11:cG:=((((((((cG.nil.add 14 e14).add 37 e37).add 38 e38).add 39 e39).add 40 e40).add 41 e41).add 42 e42).add 43 e43).add 44 e44
def n11:An:={mask:=mk [(7,[5,6,7,8,10,39,40,41])],merge:=mg [(2,24)],mv:=[25,26,57,76]}
abbrev Mo:SD:=⟨bs 5 (.ptr 5 0::.ptr 6 0::.ptr 7 0::.data false (.sl (.own (some 98304)) eU)::B::DI::bs 28 (.data false (.sl (.own (some 479232)) (.int .i64))::DI::DI::bs 35 [])),zs 5 ((some Y0)::(some (.pair (.sl (.own (some 73729)) km) (.pair (.sl (.own (some 73732)) (.sl .str)) (.pair (.sl (.own (some 73735)) aY) (.pair (.sl (.own (some 73738)) cB) (.sl (.own (some 73741)) .str))))))::(some (.pair (.sl (.own (some 86017)) km) (.pair (.sl (.own (some 86020)) (.sl .str)) (.pair (.sl (.own (some 86023)) aY) (.pair (.sl (.own (some 86026)) cB) (.sl (.own (some 86029)) .str))))))::zs 69 []),.none⟩
def UC {R:Type}(X:SD.D Mo)(K:Ex→AS→Option R):=Pu.fX (λy0 y1=>ke 0 K Mo ((z4 (u y0) X.1),(z2 (u y1) X.2.1),X.2.2)) X.1.1 X.1.2.1 (q2 X) (q3 X) X.2.1.1 X.2.1.2.1
def aav:cm:=gw Mo UC (λX=>(q4 X,X.2.1.2.2.1))
def L11:cY:=(cY.nil).add 7 aav
theorem ZV:fU E g11 n11 L11 (aR Tryz.f11 0):=lk Mo UC (λX=>(q4 X,X.2.1.2.2.1)) λX x=>((z4 (u x.1) X.1),(z2 (u x.2) X.2.1),X.2.2)
theorem o11:aU Tryz.prog 11 e11:=fk n11 (((((((((base.add o14).add o37).add o38).add o39).add o40).add o41).add o42).add o43).add o44) Tryz.func11 (Λ:=L11) (cF ZV nF)
def e12:aW:=aN [pd (.sl (.int .i64)),pI] [rB] (c2 Pu.yj)
def g12:cG:=cG.nil
def n12:An:={mask:=mk [(2,[0,1,4,5])]}
abbrev Hm:SD:=⟨.data false (.sl .arg (.int .i64))::DI::B::B::DB::DI::bs 12 [],zs 18 [],.none⟩
def UD {R:Type}(X:SD.D Hm)(K:Ex→AS→Option R):=Pu.sT (λy0=>ke 0 K Hm ((z3 (u y0) X.1),X.2)) (λy0 y1=>kr K Hm ((z2 (w y0 (u y1)) X.1),X.2)) X.1.1 X.1.2.1 (q2 X)
def aaw:cm:=gw Hm UD q3
def L12:cY:=(cY.nil).add 2 aaw
theorem ZW:fU E g12 n12 L12 (aR Tryz.f12 0):=lk Hm UD q3 λX x=>((z3 (u x) X.1),X.2)
theorem o12:aU Tryz.prog 12 e12:=fk n12 base Tryz.func12 (Λ:=L12) (cF ZW nF)
def e13:aW:=aN [pd (.sl dB),pd (.sl dB)] [rB] (c2 Pu.lz)
def g13:cG:=cG.nil
def n13:An:={mask:=mk [(4,[0,1,4,5])]}
abbrev Hn:SD:=⟨.data false (.sl .arg dB)::.data false (.sl .arg dB)::B::B::DB::DI::bs 20 [],zs 26 [],.none⟩
def UE {R:Type}(X:SD.D Hn)(K:Ex→AS→Option R):=Pu.l7 (λy0=>ke 0 K Hn ((z3 (u y0) X.1),X.2)) (λy0 y1=>kr K Hn ((z2 (w y0 (u y1)) X.1),X.2)) X.1.1 X.1.2.1 (q2 X)
def aax:cm:=gw Hn UE q3
def L13:cY:=(cY.nil).add 4 aax
theorem ZX:fU E g13 n13 L13 (aR Tryz.f13 0):=lk Hn UE q3 λX x=>((z3 (u x) X.1),X.2)
theorem o13:aU Tryz.prog 13 e13:=fk n13 base Tryz.func13 (Λ:=L13) (cF ZX nF)
abbrev l9:List PS:=[pd (.sl (.int .u8))]
def qJ:aW:=aN l9 [rB] (c1 Pu.oh)
def qK:cG:=(((((((((cG.nil.add 5 e5).add 6 e6).add 7 e7).add 8 e8).add 9 e9).add 10 e10).add 11 e11).add 12 e12).add 13 e13).add 14 e14
def l8:An:={mask:=mk [(6,[2,3,4,5,6]),(16,[2,3,4,5,6,11,12,13])],merge:=mg [(18,87),(21,2)],mv:=[88]}
abbrev eJ:SD:=⟨B::B::DB::.ptr 3 0::.data false (.sl .loc dk)::.ptr 5 0::DI::bs 4 (.data false (.sl (.own (some 135168)) (.int .i64))::.ptr 12 0::DI::bs 86 []),Z::Z::Z::(some Y24)::Z::(some Y21)::zs 6 ((some (.pair (.sl (.own (some 147457)) km) (.pair (.sl (.own (some 147460)) (.sl .str)) (.pair (.sl (.own (some 147463)) aY) (.pair (.sl (.own (some 147466)) cB) (.sl (.own (some 147469)) .str))))))::zs 87 []),.none⟩
def oX {R:Type}(X:SD.D eJ)(K:Ex→AS→Option R):=Pu.kg (λy0=>ke 2 K eJ ((z4 (u y0) X.1),X.2)) (λy0 y1=>kr K eJ ((w y0 (z3 (u y1)) X.1),X.2)) X.1.1 X.1.2.1 (q2 X) (q3 X) X.2.1.1 X.2.1.2.1 X.2.1.2.2.1
def uy:cm:=gw eJ oX q4
abbrev eV:SD:=⟨B::B::DB::.ptr 3 0::.data false (.sl .loc dk)::.ptr 5 0::DI::bs 93 [],Z::Z::Z::(some Y24)::Z::(some Y21)::zs 94 [],.none⟩
def o3 {R:Type}(X:SD.D eV)(K:Ex→AS→Option R):=Pu.kU (λy0 y1=>ke 0 K eV ((z2 (u y0) X.1),(z1 (u y1) X.2.1),X.2.2)) (λy0 y1 y2=>kr K eV ((w y0 (z1 (u y1)) X.1),(z1 (u y2) X.2.1),X.2.2)) X.1.1 X.1.2.1 X.2.1.1
def vh:cm:=gw eV o3 (λX=>(q2 X,X.2.1.2.1))
def lZ:cY:=((cY.nil).add 16 uy).add 6 vh
theorem uw:fU E qK l8 lZ (aR Tryz.f3 1):=lk eJ oX q4 λX x=>((z4 (u x) X.1),X.2)
theorem vg:fU E qK l8 lZ (aR Tryz.f3 0):=lk eV o3 (λX=>(q2 X,X.2.1.2.1)) λX x=>((z2 (u x.1) X.1),(z1 (u x.2) X.2.1),X.2.2)
theorem wJ:aU Tryz.prog 3 qJ:=fk l8 ((((((((((base.add o5).add o6).add o7).add o8).add o9).add o10).add o11).add o12).add o13).add o14) Tryz.func3 (Λ:=lZ) (cF vg (cF uw nF))
end
end Go.Proofs.YtpgnehchfeikmaaGreat.Fn
