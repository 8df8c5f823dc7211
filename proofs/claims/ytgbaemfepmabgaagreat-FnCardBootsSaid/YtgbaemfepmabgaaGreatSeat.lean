import Derived.Test.YtgbaemfepmabgaaGreatDnSig
import Derived.Test.YtgbaemfepmabgaaGreatPure
import Derived.Test.YtgbaemfepmabgaaGreatRows
/- Each function of the program is its pure function (made by gen.py). -/
namespace Go.Proofs.YtgbaemfepmabgaaGreat.Fn
open Go.Dn
open Go.Pu (bW iZ aod jY jZ lP iB HJ acW dg KC eS gI mN lO sm Sh aad jm pD fB dD bV eL uH acV gV kz zy BX og ng TIp aae iI)
set_option maxRecDepth 100000
set_option linter.unusedVariables false
noncomputable section
variable {an:An} {Γ:dK} {Λ:dY} {f:Nat} {P:Program} {A0 A1 A2 A3 A4 A5 A6 A7 C R σ:Type} {rs:aw (Bool×FT)} {s:aw PS}
abbrev gH (R:Type):=Ex->AS->Option R
abbrev CK:FT:=.int .i64
abbrev cJ (a b:FT):FT:=.pair a b
abbrev jJ (b:FT):FT:=.pair (.int .i64) b
abbrev cS (n:Nat)(t:CT):FT:=.sl (.own (some n)) t
abbrev oR (t:FT):Option FT:=some t
abbrev cV:=iH Tryz.prog
abbrev B:PD:=.bot
abbrev DI:PD:=.data false (.int .i64)
abbrev DB:PD:=.data false .bool
abbrev Z:az FT:=none
theorem nF {p:Code->Prop}:∀x∈([]:aw Code),p x:=λ_ h=>nomatch h
theorem cF {p:Code->Prop}{a:Code}{l:aw Code}(h:p a)(t:∀x∈l,p x):∀x∈a::l,p x:=List.forall_mem_cons.2 ⟨h,t⟩
theorem hF {p:Code->Prop}{l m:aw Code}(e:l=m)(h:∀x∈m,p x):∀x∈l,p x:=e▸h
theorem fk {E:Env}{F:C3 s->az (lE rs)}{fn:Func}(an:An)(hS:Sound P E Γ)(hf:P.funcs[f]?=some fn){l:aw Code}(h:∀c∈l,ia E Γ an Λ c)(hn:(fn.name== "runtime.NumGoroutine")=false:=by kernel_rfl)(hl:jw (fn.body.getD .skip)=l:=by kernel_rfl)(hcut:an.cut=[]:=by kernel_rfl)(hF:∀a,Lw E Γ an Λ fn rs (oh s a)=F a:=by intro a;kernel_rfl):iH P f (aM s rs F):=iH.of (ajL hS hf hn (CL.of (Fn.hF hl h) hcut)) hF
theorem ao {E:Env}{b:Code}{l:aw Code}(h:∀c∈l,ia E Γ an Λ c)(hl:jw b=l:=by kernel_rfl)(hc:an.cut=[]:=by kernel_rfl):CL E Γ an Λ b:=CL.of (Fn.hF hl h) hc
theorem ac {E:Env}{b:Code}{l m:aw Code}(h:∀c∈l,ia E Γ an Λ c)(hc:∀c∈m,Nr E Γ an Λ c)(hl:jw b=l:=by kernel_rfl)(hm:kT an.cut b=m:=by kernel_rfl):CL E Γ an Λ b:=⟨Fn.hF hl h,Fn.hF hm hc⟩
theorem fc {E:Env}{F:C3 s->az (lE rs)}{fn:Func}(an:An)(hS:Sound P E Γ)(hf:P.funcs[f]?=some fn){l m:aw Code}(h:∀c∈l,ia E Γ an Λ c)(hc:∀c∈m,Nr E Γ an Λ c)(hn:(fn.name== "runtime.NumGoroutine")=false:=by kernel_rfl)(hl:jw (fn.body.getD .skip)=l:=by kernel_rfl)(hm:kT an.cut (fn.body.getD .skip)=m:=by kernel_rfl)(hF:∀a,Lw E Γ an Λ fn rs (oh s a)=F a:=by intro a;kernel_rfl):iH P f (aM s rs F):=iH.of (ajL hS hf hn ⟨Fn.hF hl h,Fn.hF hm hc⟩) hF
abbrev pd (t:CT):PS:=.data false t
abbrev pf (t:CT):PS:=.data true t
abbrev pI:PS:=.data false (.int .i64)
abbrev rB:Bool×FT:=(false,.bool)
abbrev rI:Bool×FT:=(false,.int .i64)
abbrev rS:Bool×FT:=(false,.str)
abbrev bs:Nat->aw PD->aw PD|0,l=>l|n+1,l=> .bot::bs n l
abbrev zs:Nat->aw (az FT)->aw (az FT)|0,l=>l|n+1,l=>none::zs n l
def mk (l:aw (Nat×fu))(n:Nat):fu:=(l.lookup n).getD []
def mg (l:aw (Nat×Nat))(n:Nat):az Nat:=l.lookup n
def ke (n:Nat)(K:gH R)(d:SD)(x:SD.D d):az R:=K (.exit n) (SD.enc d x)
def kn (K:gH R)(d:SD)(x:SD.D d):az R:=K .normal (SD.enc d x)
def kr (K:gH R)(d:SD)(x:SD.D d):az R:=K .ret (SD.enc d x)
def iv (d:SD)(t:{R:Type}->SD.D d->(Ex->AS->az R)->(σ->az R)->σ->az R)(i:SD.D d->σ):da:=⟨d,λX K=>bl (t X K) fuel (i X)⟩
theorem lk {E:Env}{c:Code}(d:SD)(t:{R:Type}->SD.D d->(Ex->AS->az R)->(σ->az R)->σ->az R)(i:SD.D d->σ)(w:SD.D d->σ->SD.D d)(h1:Λ (fX c)=iv d t i:=by kernel_rfl)(h:∀(R:Type)(X:SD.D d)(K:gH R)(m:Nat)(x:σ),CX (an.mask (fX c)) (den E Γ an Λ c) (m+1) (SD.enc d (w X x)) K=t X K (λy=>CX (an.mask (fX c)) (den E Γ an Λ c) m (SD.enc d (w X y)) K) x:=by intro R X K m x;kernel_rfl)(hw:∀X,w X (i X)=X:=by intro X;kernel_rfl):ia E Γ an Λ c:=lok (iv d t i) h1 fuel λR X K=>(OV (λx=>SD.enc d (w X x)) (t X K) (h R X K) fuel (i X)).symm.trans (congrArg (λy=>CX (an.mask (fX c)) (den E Γ an Λ c) fuel (SD.enc d y) K) (hw X))
def Ry (d:SD)(t:{R:Type}->SD.D d->(Ex->AS->az R)->az R):da:=⟨d,λX K=>t X K⟩
theorem ck {E:Env}{c:Code}(d:SD)(t:{R:Type}->SD.D d->(Ex->AS->az R)->az R)(h1:Λ (C9 c)=Ry d t:=by kernel_rfl)(h:∀(R:Type)(X:SD.D d)(K:gH R),t X K=den E Γ an Λ c (SD.enc d X) (λe st'=>K e (st'.mask (an.mask (C9 c+1)))):=by intro R X K;kernel_rfl):Nr E Γ an Λ c:=cok (Ry d t) h1 h
def u {A B:Type}(y:A)(x:A×B):A×B:=(y,x.2)
def w {A B:Type}(y:A)(f:B->B)(x:A×B):A×B:=(y,f x.2)
def z1 {B:Type}(f:B->B)(x:A0×B):A0×B:=(x.1,f x.2)
def z2 {B:Type}(f:B->B)(x:A0×A1×B):A0×A1×B:=(x.1,x.2.1,f x.2.2)
def z3 {B:Type}(f:B->B)(x:A0×A1×A2×B):A0×A1×A2×B:=(x.1,x.2.1,x.2.2.1,f x.2.2.2)
def z4 {B:Type}(f:B->B)(x:A0×A1×A2×A3×B):A0×A1×A2×A3×B:=(x.1,x.2.1,x.2.2.1,x.2.2.2.1,f x.2.2.2.2)
def z5 {B:Type}(f:B->B)(x:A0×A1×A2×A3×A4×B):A0×A1×A2×A3×A4×B:=(x.1,x.2.1,x.2.2.1,x.2.2.2.1,x.2.2.2.2.1,f x.2.2.2.2.2)
def z6 {B:Type}(f:B->B)(x:A0×A1×A2×A3×A4×A5×B):A0×A1×A2×A3×A4×A5×B:=(x.1,x.2.1,x.2.2.1,x.2.2.2.1,x.2.2.2.2.1,x.2.2.2.2.2.1,f x.2.2.2.2.2.2)
def z7 {B:Type}(f:B->B)(x:A0×A1×A2×A3×A4×A5×A6×B):A0×A1×A2×A3×A4×A5×A6×B:=(x.1,x.2.1,x.2.2.1,x.2.2.2.1,x.2.2.2.2.1,x.2.2.2.2.2.1,x.2.2.2.2.2.2.1,f x.2.2.2.2.2.2.2)
def z8 {B:Type}(f:B->B)(x:A0×A1×A2×A3×A4×A5×A6×A7×B):A0×A1×A2×A3×A4×A5×A6×A7×B:=(x.1,x.2.1,x.2.2.1,x.2.2.2.1,x.2.2.2.2.1,x.2.2.2.2.2.1,x.2.2.2.2.2.2.1,x.2.2.2.2.2.2.2.1,f x.2.2.2.2.2.2.2.2)
def q2 {B:Type}(x:(A0×A1×A2×B)×C):A2:=x.1.2.2.1
def q3 {B:Type}(x:(A0×A1×A2×A3×B)×C):A3:=x.1.2.2.2.1
def q4 {B:Type}(x:(A0×A1×A2×A3×A4×B)×C):A4:=x.1.2.2.2.2.1
def q5 {B:Type}(x:(A0×A1×A2×A3×A4×A5×B)×C):A5:=x.1.2.2.2.2.2.1
def q6 {B:Type}(x:(A0×A1×A2×A3×A4×A5×A6×B)×C):A6:=x.1.2.2.2.2.2.2.1
def q7 {B:Type}(x:(A0×A1×A2×A3×A4×A5×A6×A7×B)×C):A7:=x.1.2.2.2.2.2.2.2.1
def q8 {A8 B:Type}(x:(A0×A1×A2×A3×A4×A5×A6×A7×A8×B)×C):A8:=x.1.2.2.2.2.2.2.2.2.1
def q9 {A8 A9 B:Type}(x:(A0×A1×A2×A3×A4×A5×A6×A7×A8×A9×B)×C):A9:=x.1.2.2.2.2.2.2.2.2.2.1
def ZH {A8 A9 A10 B:Type}(x:(A0×A1×A2×A3×A4×A5×A6×A7×A8×A9×A10×B)×C):A10:=x.1.2.2.2.2.2.2.2.2.2.2.1
def c1 {B:Type}(f:A0->R)(a:A0×B):R:=f a.1
def c2 {B:Type}(f:A0->A1->R)(a:A0×A1×B):R:=f a.1 a.2.1
def c3 {B:Type}(f:A0->A1->A2->R)(a:A0×A1×A2×B):R:=f a.1 a.2.1 a.2.2.1
def c4 {B:Type}(f:A0->A1->A2->A3->R)(a:A0×A1×A2×A3×B):R:=f a.1 a.2.1 a.2.2.1 a.2.2.2.1
def c5 {B:Type}(f:A0->A1->A2->A3->A4->R)(a:A0×A1×A2×A3×A4×B):R:=f a.1 a.2.1 a.2.2.1 a.2.2.2.1 a.2.2.2.2.1
def c6 {B:Type}(f:A0->A1->A2->A3->A4->A5->R)(a:A0×A1×A2×A3×A4×A5×B):R:=f a.1 a.2.1 a.2.2.1 a.2.2.2.1 a.2.2.2.2.1 a.2.2.2.2.2.1
def c7 {B:Type}(f:A0->A1->A2->A3->A4->A5->A6->R)(a:A0×A1×A2×A3×A4×A5×A6×B):R:=f a.1 a.2.1 a.2.2.1 a.2.2.2.1 a.2.2.2.2.1 a.2.2.2.2.2.1 a.2.2.2.2.2.2.1
theorem f0 {E:Env}{F:C3 s->az (lE rs)}{fn:Func}(an:An)(hS:Sound P E Γ)(hf:P.funcs[f]?=some fn)(hn:(fn.name== "runtime.NumGoroutine")=false:=by kernel_rfl)(hl:jw (fn.body.getD .skip)=[]:=by kernel_rfl)(hcut:an.cut=[]:=by rfl)(hF:∀a,Lw E Γ an dY.nil fn rs (oh s a)=F a:=by intro a;kernel_rfl):iH P f (aM s rs F):=iH.of (ajL hS hf hn (CL.of (Fn.hF hl nF) hcut)) hF
abbrev Y8:FT:=jJ (jJ CK)
abbrev Y0:FT:=cJ CK Y8
abbrev Y21:FT:=jJ (jJ (jJ .str))
abbrev Y24:FT:=jJ (jJ (cJ CK Y21))
abbrev Y1:FT:=jJ (jJ (jJ (jJ (jJ (jJ (jJ (jJ (cJ CK Y24))))))))
abbrev Y10:FT:=jJ (jJ (jJ (.sl (.own none) (.int .i64))))
abbrev Y22:FT:=cJ Y0 (cJ Y10 (cJ (.sl (.own none) jZ) CK))
abbrev Y16:FT:=jJ (cJ .bool (.sl (.own none) (.int .i64)))
abbrev Y26:FT:=cJ (.sl (.own none) lO) (cJ (.sl (.own none) jm) (cJ .str (.sl (.own none) (.int .i64))))
abbrev Y2:FT:=cJ (.sl (.own none) .str) (cJ (.sl (.own none) bW) (cJ Y22 (cJ (.sl (.own none) eS) (cJ (.sl (.own none) jY) (cJ (.sl (.own none) gI) (cJ (.sl (.own none) .bool) (cJ Y16 (cJ Y26 (cJ (.sl (.own none) fB) (cJ .bool (cJ (.sl (.own none) .str) (cJ (.sl (.own none) (.int .i64)) (cJ (.sl (.own none) (.int .i64)) (cJ CK Y0))))))))))))))
abbrev Y3:FT:=cJ (cS 24577 .str) (cJ (cS 24580 bW) (cJ (cJ Y0 (cJ (jJ (jJ (jJ (cS 24604 (.int .i64))))) (cJ (cS 24607 jZ) CK))) (cJ (cS 24613 eS) (cJ (cS 24616 jY) (cJ (cS 24619 gI) (cJ (cS 24622 .bool) (cJ (jJ (cJ .bool (cS 24631 (.int .i64)))) (cJ (cJ (cS 24634 lO) (cJ (cS 24637 jm) (cJ .str (cS 24643 (.int .i64))))) (cJ (cS 24646 fB) (cJ .bool (cJ (cS 24652 .str) (cJ (cS 24655 (.int .i64)) (cJ (cS 24658 (.int .i64)) (cJ CK Y0))))))))))))))
abbrev Y4:FT:=cJ (cS 36865 .str) (cJ (cS 36868 bW) (cJ (cJ Y0 (cJ (jJ (jJ (jJ (cS 36892 (.int .i64))))) (cJ (cS 36895 jZ) CK))) (cJ (cS 36901 eS) (cJ (cS 36904 jY) (cJ (cS 36907 gI) (cJ (cS 36910 .bool) (cJ (jJ (cJ .bool (cS 36919 (.int .i64)))) (cJ (cJ (cS 36922 lO) (cJ (cS 36925 jm) (cJ .str (cS 36931 (.int .i64))))) (cJ (cS 36934 fB) (cJ .bool (cJ (cS 36940 .str) (cJ (cS 36943 (.int .i64)) (cJ (cS 36946 (.int .i64)) (cJ CK Y0))))))))))))))
abbrev Y15:FT:=jJ (jJ (jJ (.sl .arg (.int .i64))))
abbrev Y25:FT:=cJ Y0 (cJ Y15 (cJ (.sl .arg jZ) CK))
abbrev Y23:FT:=jJ (cJ .bool (.sl .arg (.int .i64)))
abbrev Y20:FT:=cJ (.sl .arg lO) (cJ (.sl .arg jm) (cJ .str (.sl .arg (.int .i64))))
abbrev Y5:FT:=cJ (.sl .arg .str) (cJ (.sl .arg bW) (cJ Y25 (cJ (.sl .arg eS) (cJ (.sl .arg jY) (cJ (.sl .arg gI) (cJ (.sl .arg .bool) (cJ Y23 (cJ Y20 (cJ (.sl .arg fB) (cJ .bool (cJ (.sl .arg .str) (cJ (.sl .arg (.int .i64)) (cJ (.sl .arg (.int .i64)) (cJ CK Y0))))))))))))))
abbrev Y6:FT:=cJ (.sl .arg0 (.int .u8)) (jJ CK)
abbrev Y7:FT:=cJ (.sl (.own none) dD) (cJ (.sl (.own none) bV) (cJ (.sl (.own none) eL) (cJ (.sl (.own none) .str) (cJ Y0 (cJ (.sl (.own none) (.int .i64)) (.sl (.own none) .str))))))
abbrev Y9:FT:=cJ (cS 24577 dD) (cJ (cS 24580 bV) (cJ (cS 24583 eL) (cJ (cS 24586 .str) (cJ Y0 (cJ (cS 24601 (.int .i64)) (cS 24604 .str))))))
abbrev Y11:FT:=cJ (cS 196609 .str) (cJ (cS 196612 bW) (cJ (cJ Y0 (cJ (jJ (jJ (jJ (cS 196636 (.int .i64))))) (cJ (cS 196639 jZ) CK))) (cJ (cS 196645 eS) (cJ (cS 196648 jY) (cJ (cS 196651 gI) (cJ (cS 196654 .bool) (cJ (jJ (cJ .bool (cS 196663 (.int .i64)))) (cJ (cJ (cS 196666 lO) (cJ (cS 196669 jm) (cJ .str (cS 196675 (.int .i64))))) (cJ (cS 196678 fB) (cJ .bool (cJ (cS 196684 .str) (cJ (cS 196687 (.int .i64)) (cJ (cS 196690 (.int .i64)) (cJ CK Y0))))))))))))))
abbrev Y12:FT:=cJ (cS 147457 .str) (cJ (cS 147460 bW) (cJ (cJ Y0 (cJ (jJ (jJ (jJ (cS 147484 (.int .i64))))) (cJ (cS 147487 jZ) CK))) (cJ (cS 147493 eS) (cJ (cS 147496 jY) (cJ (cS 147499 gI) (cJ (cS 147502 .bool) (cJ (jJ (cJ .bool (cS 147511 (.int .i64)))) (cJ (cJ (cS 147514 lO) (cJ (cS 147517 jm) (cJ .str (cS 147523 (.int .i64))))) (cJ (cS 147526 fB) (cJ .bool (cJ (cS 147532 .str) (cJ (cS 147535 (.int .i64)) (cJ (cS 147538 (.int .i64)) (cJ CK Y0))))))))))))))
abbrev Y13:FT:=jJ (jJ (cJ (jJ (cJ Y1 (jJ (jJ (cJ .str CK))))) (cJ Y8 (cJ .str CK))))
abbrev Y14:FT:=jJ (jJ (jJ (jJ (cJ .bool .bool))))
abbrev Y17:FT:=cJ Y0 (cJ Y8 (cJ Y8 (cJ (cJ Y1 (jJ CK)) (cJ .bool CK))))
abbrev Y18:FT:=cJ (cS 73729 dD) (cJ (cS 73732 bV) (cJ (cS 73735 eL) (cJ (cS 73738 .str) (cJ Y0 (cJ (cS 73753 (.int .i64)) (cS 73756 .str))))))
abbrev Y19:FT:=cJ (cS 49153 dD) (cJ (cS 49156 bV) (cJ (cS 49159 eL) (cJ (cS 49162 .str) (cJ Y0 (cJ (cS 49177 (.int .i64)) (cS 49180 .str))))))
abbrev Y27:FT:=jJ (jJ (jJ (cS 184330 (.int .i64))))
abbrev Y28:FT:=jJ (jJ (jJ (cS 147466 (.int .i64))))
abbrev Y29:FT:=jJ (jJ (jJ (cS 98314 (.int .i64))))
abbrev Y30:FT:=jJ (jJ (jJ (cS 73738 (.int .i64))))
def E:Env:={ty:=[(3,⟨false,(.int .i64),[]⟩),(4,⟨false,.bool,[]⟩),(5,⟨false,(.int .u8),[]⟩),(9,⟨false,.str,[]⟩),(22,⟨false,(.sl (.int .u8)),[(5,0)]⟩),(24,⟨false,(.sl dD),[(87,0)]⟩),(25,⟨false,(.sl bV),[(178,0)]⟩),(26,⟨false,(.sl eL),[(42,0)]⟩),(27,⟨false,(.sl .str),[(9,0)]⟩),(29,⟨true,(.sl .str),[(0,1)]⟩),(31,⟨true,iZ,[(0,1),(1,1),(2,1),(3,1)]⟩),(32,⟨false,(.sl (.int .i64)),[(3,0)]⟩),(34,⟨true,uH,[(0,1),(1,1),(2,1),(3,1),(4,4),(8,1),(9,1)]⟩),(35,⟨false,(.sl gV),[(58,0)]⟩),(40,⟨true,mN,[(0,1),(1,1),(2,1)]⟩),(42,⟨true,eL,[(0,3),(3,1),(4,1),(5,1)]⟩),(44,⟨true,iB,[(0,1),(1,1),(2,1)]⟩),(47,⟨false,(.sl kz),[(102,0)]⟩),(52,⟨true,zy,[(0,1),(1,1),(2,1),(3,1),(4,1),(5,1),(6,1),(7,1)]⟩),(54,⟨true,dg,[(0,1),(1,1),(2,1),(3,1),(4,1),(5,1),(6,1),(7,1),(8,8)]⟩),(56,⟨true,acV,[(0,1),(1,16),(17,1),(18,1),(19,1),(20,1)]⟩),(58,⟨true,gV,[(0,1),(1,1),(2,21),(23,3),(26,1),(27,1)]⟩),(62,⟨true,(.sl .str),[(0,1)]⟩),(63,⟨false,(.sl bW),[(125,0)]⟩),(65,⟨true,iZ,[(0,1),(1,1),(2,1),(3,1)]⟩),(67,⟨true,jY,[(0,1),(1,1),(2,1),(3,1)]⟩),(68,⟨false,(.sl jZ),[(188,0)]⟩),(70,⟨true,lP,[(0,4),(4,4),(8,1),(9,1)]⟩),(71,⟨false,(.sl eS),[(170,0)]⟩),(72,⟨false,(.sl jY),[(67,0)]⟩),(73,⟨false,(.sl gI),[(174,0)]⟩),(74,⟨false,(.sl .bool),[(4,0)]⟩),(75,⟨false,(.sl lO),[(133,0)]⟩),(76,⟨false,(.sl jm),[(213,0)]⟩),(78,⟨true,(.sl jm),[(0,1)]⟩),(80,⟨true,BX,[(0,1),(1,1)]⟩),(82,⟨true,pD,[(0,1),(1,1),(2,2)]⟩),(83,⟨false,(.sl fB),[(215,0)]⟩),(85,⟨true,sm,[(0,1),(1,1),(2,1),(3,1),(4,1)]⟩),(87,⟨true,dD,[(0,1),(1,1),(2,10),(12,1),(13,1),(14,1),(15,1),(16,3),(19,4),(23,1),(24,1),(25,1),(26,1),(27,1),(28,5)]⟩),(102,⟨true,kz,[(0,1),(1,1),(2,1),(3,1)]⟩),(114,⟨false,(.sl og),[(184,0)]⟩),(125,⟨true,bW,[(0,1),(1,1),(2,1),(3,1)]⟩),(128,⟨true,(.pair (.sl (.int .u8)) (.pair (.int .i64) (.int .i64))),[(0,1),(1,1),(2,1)]⟩),(133,⟨true,lO,[(0,1),(1,1),(2,1),(3,1),(4,1),(5,1),(6,1),(7,1),(8,1)]⟩),(136,⟨true,iB,[(0,1),(1,1),(2,1)]⟩),(145,⟨false,(.sl dg),[(54,0)]⟩),(166,⟨true,iB,[(0,1),(1,1),(2,1)]⟩),(168,⟨true,KC,[(0,16),(16,1),(17,1)]⟩),(170,⟨true,eS,[(0,4),(4,3),(7,3),(10,18),(28,1),(29,1)]⟩),(174,⟨true,gI,[(0,1),(1,1),(2,1),(3,1),(4,1),(5,1)]⟩),(178,⟨true,bV,[(0,1),(1,1),(2,3),(5,1),(6,1),(7,1)]⟩),(184,⟨true,og,[(0,1),(1,1),(2,1),(3,1)]⟩),(188,⟨true,jZ,[(0,1),(1,1),(2,1)]⟩),(211,⟨true,sm,[(0,1),(1,1),(2,1),(3,1),(4,1)]⟩),(213,⟨true,jm,[(0,1),(1,5),(6,1)]⟩),(215,⟨true,fB,[(0,5),(5,1),(6,1),(7,1)]⟩),(249,⟨true,ng,[(0,1),(1,1),(2,1),(3,1),(4,1),(5,1)]⟩),(284,⟨true,TIp,[(0,1),(1,1),(2,1),(3,1),(4,1),(5,1),(6,1)]⟩),(287,⟨true,aae,[(0,1),(1,1),(2,1),(3,1),(4,1)]⟩),(300,⟨true,sm,[(0,1),(1,1),(2,1),(3,1),(4,1)]⟩),(305,⟨false,(.sl iI),[(309,0)]⟩),(309,⟨true,iI,[(0,1),(1,1)]⟩),(324,⟨false,(.sl iI),[(364,0)]⟩),(327,⟨false,(.sl ng),[(249,0)]⟩),(341,⟨false,(.int .u32),[]⟩),(364,⟨true,iI,[(0,1),(1,1)]⟩)],eqs:=[(54,[.int,.int,.int,.int,.int,.int,.int,.int,.int,.int,.int,.int,.int,.int,.int,.str]),(168,[.int,.int,.int,.int,.int,.int,.int,.int,.int,.int,.int,.int,.int,.int,.int,.str,.int,.int]),(211,[.int,.int,.int,.int,.int]),(249,[.int,.int,.int,.int,.int,.int])],fts:=[]}
theorem base:Sound Tryz.prog E dK.nil:=Sound.nil (UE (by kernel_rfl)) (UH (by kernel_rfl)) (UG (by kernel_rfl)) (by kernel_rfl)
def e7:bn:=aM [pd (.sl (.int .u8))] [rB] (c1 Pu.G0)
theorem o7:cV 7 e7:=f0 {} base Tryz.func7
def e19:bn:=WE (.pair (.sl .arg (.int .u8)) (.pair (.int .i64) (.int .i64))) [pd (.sl (.int .u8))] λa=>Pu.Bb a.1
def g19:dK:=dK.nil
def n19:An:={mask:=mk [(3,[0,3,4])],merge:=mg [(3,15)]}
abbrev YF:SD:=⟨.data false (.sl .arg (.int .u8))::B::B::DI::DI::bs 27 [],zs 32 [],.none⟩
def aiw (X:SD.D YF)(K:gH R):=Pu.Aj (λy0 y1=>ke 0 K YF ((z1 (w y0 (u y1)) X.1),X.2)) X.1.1
def aqw:da:=iv YF aiw (λX=>(X.1.2.1,q2 X))
def L19:dY:=dY.nil.add 3 aqw
theorem apV:ia E g19 n19 L19 (aY Tryz.f19 0):=lk YF aiw (λX=>(X.1.2.1,q2 X)) λX x=>((z1 (w x.1 (u x.2)) X.1),X.2)
theorem o19:cV 19 e19:=iH.as1 (apE (Γ:=g19) (an:=n19) (Λ:=L19) (base) Tryz.func19 (by kernel_rfl) (ao (cF apV nF))) (λa=>by kernel_rfl)
def e53:bn:=aM [] [(true,(.sl (.own none) jm))] λa=>Pu.tk
theorem o53:cV 53 e53:=f0 {} base Tryz.func53
def aou:bn:=jS (.pair (.sl .arg0 (.int .u8)) (.pair (.int .i64) (.int .i64))) [] [rI] λx a=>Pu.ku x
theorem ar9:cV 131 aou:=iH.qR (qA (an:={}) (Λ:=dY.nil) (base) Tryz.func131 (by kernel_rfl) (ao nF)) (λx a=>by kernel_rfl)
def aju:bn:=jS (.pair (.sl .arg0 (.int .u8)) (.pair (.int .i64) (.int .i64))) [pI] [rS] λx a=>Pu.kv x a.1
def apH:dK:=dK.nil.add 131 aou
def are:An:={mask:=mk [(5,[0,1,5,6])],mv:=[15]}
abbrev P9:SD:=⟨.ptr 0 0::DI::B::B::B::.data false (cS 61440 (.int .u8))::DI::bs 16 [],(some Y6)::zs 22 [],.ptr⟩
def afe (X:SD.D P9)(K:gH R):=Pu.pt (λy0 y1 y2=>ke 0 K P9 ((z1 (w y0 (u y1)) X.1),(u y2 X.2.1),X.2.2)) X.1.1
def alg:da:=iv P9 afe (λX=>(X.1.2.1,q2 X,X.2.1.1))
def ann:dY:=dY.nil.add 5 alg
theorem ajZ:ia E apH are ann (aY Tryz.f124 0):=lk P9 afe (λX=>(X.1.2.1,q2 X,X.2.1.1)) λX x=>((z1 (w x.1 (u x.2.1)) X.1),(u x.2.2 X.2.1),X.2.2)
theorem abJ:cV 124 aju:=iH.qR (qA (Γ:=apH) (an:=are) (Λ:=ann) (base.add ar9) Tryz.func124 (by kernel_rfl) (ao (cF ajZ nF))) (λx a=>by kernel_rfl)
def e54:bn:=jS (.pair (.sl .arg0 (.int .u8)) (.pair (.int .i64) (.int .i64))) [] [rS] λx a=>Pu.Bc x
theorem o54:cV 54 e54:=iH.qR (qA (an:={}) (Λ:=dY.nil) (base.add abJ) Tryz.func54 (by kernel_rfl) (ao nF)) (λx a=>by kernel_rfl)
def e59:bn:=jS (.pair (.sl .arg0 (.int .u8)) (.pair (.int .i64) (.int .i64))) [pI] [rI] λx a=>Pu.cU x a.1
theorem o59:cV 59 e59:=iH.qR (qA (an:={}) (Λ:=dY.nil) (base.add ar9) Tryz.func59 (by kernel_rfl) (ao nF)) (λx a=>by kernel_rfl)
def e55:bn:=jS (.pair (.sl .arg0 (.int .u8)) (.pair (.int .i64) (.int .i64))) [pI] [rB] λx a=>Pu.gw x a.1
theorem o55:cV 55 e55:=iH.qR (qA (an:={}) (Λ:=dY.nil) (base.add o59) Tryz.func55 (by kernel_rfl) (ao nF)) (λx a=>by kernel_rfl)
def e56:bn:=jS (.pair (.sl .arg0 (.int .u8)) (.pair (.int .i64) (.int .i64))) [pd (.sl (.int .i64))] [rI] λx a=>Pu.cZ x a.1
theorem o56:cV 56 e56:=iH.qR (qA (an:={}) (Λ:=dY.nil) (base.add o59) Tryz.func56 (by kernel_rfl) (ao nF)) (λx a=>by kernel_rfl)
def Nx:bn:=aM [pI,pI,pI] [rB] (c3 Pu.bg)
theorem wq:cV 113 Nx:=f0 {merge:=mg [(1,6)]} base Tryz.func113
def atk:bn:=aM [pI] [rS] (c1 Pu.fL)
theorem abK:cV 132 atk:=f0 {} (base.add wq) Tryz.func132
def atl:bn:=aM [pd .str] [rI] (c1 Pu.Ah)
def apJ:dK:=dK.nil
def amu:An:={mask:=mk [(3,[0,3,4]),(7,[0,3,4,5])]}
abbrev Qc:SD:=⟨.data false .str::B::B::DI::DI::DI::bs 26 [],zs 32 [],.none⟩
def afi (X:SD.D Qc)(K:gH R):=Pu.pN (λy0 y1=>ke 2 K Qc ((z1 (w y0 (z1 (u y1))) X.1),X.2)) X.1.1 (q2 X)
def alk:da:=iv Qc afi (λX=>(X.1.2.1,q3 X))
abbrev Qb:SD:=⟨.data false .str::B::B::DI::DI::bs 27 [],zs 32 [],.none⟩
def afh (X:SD.D Qb)(K:gH R):=Pu.th (λy0 y1=>ke 0 K Qb ((z1 (w y0 (u y1)) X.1),X.2)) X.1.1
def alj:da:=iv Qb afh (λX=>(X.1.2.1,q2 X))
def ajb:dY:=(dY.nil.add 7 alk).add 3 alj
theorem aj3:ia E apJ amu ajb (aY Tryz.f133 1):=lk Qc afi (λX=>(X.1.2.1,q3 X)) λX x=>((z1 (w x.1 (z1 (u x.2))) X.1),X.2)
theorem aj2:ia E apJ amu ajb (aY Tryz.f133 0):=lk Qb afh (λX=>(X.1.2.1,q2 X)) λX x=>((z1 (w x.1 (u x.2)) X.1),X.2)
theorem asa:cV 133 atl:=fk amu base Tryz.func133 (Λ:=ajb) (cF aj2 (cF aj3 nF))
def e61:bn:=aM [pI,pd .str] [rS,rB] (c2 Pu.nQ)
theorem o61:cV 61 e61:=f0 {merge:=mg [(1,15)]} (((base.add wq).add abK).add asa) Tryz.func61
def atI:bn:=aM [pd .str,pI,pI] [rB] (c3 Pu.nT)
theorem amQ:cV 189 atI:=f0 {merge:=mg [(1,6)]} base Tryz.func189
def atJ:bn:=aM [pd .str,pI] [rI] (c2 Pu.Ai)
theorem awG:cV 190 atJ:=f0 {} (base.add amQ) Tryz.func190
def ath:bn:=aM [pd .str,pI] [rI] (c2 Pu.wD)
theorem awa:cV 121 ath:=f0 {} ((base.add amQ).add awG) Tryz.func121
def e51:bn:=aM [pd .str] [rI] (c1 Pu.jQ)
theorem o51:cV 51 e51:=f0 {merge:=mg [(2,17),(5,37)]} (((base.add o61).add wq).add awa) Tryz.func51
def atg:bn:=aM [pf (.sl .str)] [rB] (c1 Pu.yI)
theorem av9:cV 120 atg:=f0 {merge:=mg [(1,2)]} base Tryz.func120
def e50:bn:=aM [pf (.sl .str)] [rI] (c1 Pu.tf)
theorem o50:cV 50 e50:=f0 {merge:=mg [(5,23)]} ((base.add o51).add av9) Tryz.func50
def ajs:bn:=aM [pf mN] [rB] (c1 Pu.pO)
def avc:dK:=dK.nil.add 113 Nx
def arc:An:={mask:=mk [(2,[1,2,3])],merge:=mg [(4,35),(6,2)]}
abbrev KW:SD:=⟨B::.ptr 1 0::DB::DI::bs 41 [],Z::(some Y23)::zs 43 [],.none⟩
def ae9 (X:SD.D KW)(K:gH R):=Pu.rT (λy0=>ke 0 K KW ((z1 (u y0) X.1),X.2)) (λy0 y1=>kr K KW ((w y0 (u y1) X.1),X.2)) X.1.1 X.2.1.1
def alb:da:=iv KW ae9 (λX=>X.1.2.1)
def anl:dY:=dY.nil.add 2 alb
theorem ajU:ia E avc arc anl (aY Tryz.f112 0):=lk KW ae9 (λX=>X.1.2.1) λX x=>((z1 (u x) X.1),X.2)
theorem amF:cV 112 ajs:=fk arc (base.add wq) Tryz.func112 (Λ:=anl) (cF ajU nF)
def aoO:bn:=aM [pf eL] [rB] (c1 Pu.vL)
theorem awH:cV 193 aoO:=f0 {merge:=mg [(1,2)]} ((base.add amF).add wq) Tryz.func193
def ajG:bn:=aM [pd (.sl (.int .i64)),pI] [rB] (c2 Pu.xV)
def avD:dK:=dK.nil
def arJ:An:={mask:=mk [(2,[0,1,4,5])]}
abbrev Lf:SD:=⟨.data false (.sl .arg (.int .i64))::DI::B::B::DB::DI::bs 12 [],zs 18 [],.none⟩
def afT (X:SD.D Lf)(K:gH R):=Pu.vU (λy0=>ke 0 K Lf ((z3 (u y0) X.1),X.2)) (λy0 y1=>kr K Lf ((z2 (w y0 (u y1)) X.1),X.2)) X.1.1 X.1.2.1 (q2 X)
def alX:da:=iv Lf afT q3
def anQ:dY:=dY.nil.add 2 alX
theorem akE:ia E avD arJ anQ (aY Tryz.f265 0):=lk Lf afT q3 λX x=>((z3 (u x) X.1),X.2)
theorem asL:cV 265 ajG:=fk arJ base Tryz.func265 (Λ:=anQ) (cF akE nF)
def aoP:bn:=aM [pd (.sl (.int .i64)),pd (.sl (.int .i64))] [(false,(.sl (.own none) (.int .i64)))] (c2 Pu.tr)
def apO:dK:=dK.nil.add 265 ajG
def amy:An:={mask:=mk [(3,[1,5,6]),(7,[1,5,6,7])],merge:=mg [(7,37)],mv:=[55]}
abbrev Qn:SD:=⟨B::.data false (.sl .arg (.int .i64))::B::B::B::.data false (cS 61440 (.int .i64))::DI::DI::bs 48 [],zs 56 [],.none⟩
def afB (X:SD.D Qn)(K:gH R):=Pu.sf (λy0=>ke 2 K Qn ((z3 (u y0) X.1),X.2)) X.1.1 X.1.2.1 (q2 X)
def alF:da:=iv Qn afB q3
abbrev Qm:SD:=⟨B::.data false (.sl .arg (.int .i64))::B::B::B::.data false (cS 61440 (.int .i64))::DI::bs 49 [],zs 56 [],.none⟩
def afA (X:SD.D Qm)(K:gH R):=Pu.nY (λy0 y1=>ke 0 K Qm ((z1 (w y0 (u y1)) X.1),X.2)) X.1.1
def alE:da:=iv Qm afA (λX=>(X.1.2.1,q2 X))
def ajf:dY:=(dY.nil.add 7 alF).add 3 alE
theorem akm:ia E apO amy ajf (aY Tryz.f194 1):=lk Qn afB q3 λX x=>((z3 (u x) X.1),X.2)
theorem akl:ia E apO amy ajf (aY Tryz.f194 0):=lk Qm afA (λX=>(X.1.2.1,q2 X)) λX x=>((z1 (w x.1 (u x.2)) X.1),X.2)
theorem awI:cV 194 aoP:=fk amy (base.add asL) Tryz.func194 (Λ:=ajf) (cF akl (cF akm nF))
def aoQ:bn:=aM [pd (.sl kz)] [rB] (c1 Pu.vP)
def apP:dK:=((dK.nil.add 112 ajs).add 113 Nx).add 265 ajG
def amz:An:={mask:=mk [(4,[0,2,3]),(9,[0,2,3,4])]}
abbrev K9:SD:=⟨.data false (.sl .arg kz)::B::DB::DI::DI::bs 53 [],zs 58 [],.none⟩
def afD (X:SD.D K9)(K:gH R):=Pu.tT (λy0=>ke 2 K K9 ((z3 (u y0) X.1),X.2)) (λy0 y1=>kr K K9 ((z1 (w y0 (z1 (u y1))) X.1),X.2)) X.1.1 X.1.2.1 (q2 X)
def alH:da:=iv K9 afD q3
abbrev K8:SD:=⟨.data false (.sl .arg kz)::B::DB::DI::bs 54 [],zs 58 [],.none⟩
def afC (X:SD.D K8)(K:gH R):=Pu.tS (λy0=>ke 0 K K8 ((z2 (u y0) X.1),X.2)) (λy0 y1=>kr K K8 ((z1 (w y0 (u y1)) X.1),X.2)) X.1.1 X.1.2.1
def alG:da:=iv K8 afC q2
def ajg:dY:=(dY.nil.add 9 alH).add 4 alG
theorem ako:ia E apP amz ajg (aY Tryz.f195 1):=lk K9 afD q3 λX x=>((z3 (u x) X.1),X.2)
theorem akn:ia E apP amz ajg (aY Tryz.f195 0):=lk K8 afC q2 λX x=>((z2 (u x) X.1),X.2)
theorem awJ:cV 195 aoQ:=fk amz (((base.add amF).add wq).add asL) Tryz.func195 (Λ:=ajg) (cF akn (cF ako nF))
def aoo:bn:=aM [pd (.sl eL)] [(false,(.sl (.own none) kz)),rB] (c1 Pu.yK)
def ave:dK:=(((dK.nil.add 113 Nx).add 193 aoO).add 194 aoP).add 195 aoQ
def arf:An:={mask:=mk [(5,[0,2,3,4,5])],mv:=[41,63]}
abbrev K0:SD:=⟨.data false (.sl .arg eL)::B::.data false (cS 24576 kz)::DB::.data false (cS 49152 kz)::DI::bs 58 [],zs 64 [],.none⟩
def aff (X:SD.D K0)(K:gH R):=Pu.po (λy0 y1=>ke 0 K K0 ((z3 (w y0 (u y1)) X.1),X.2)) (λy0 y1 y2 y3=>kr K K0 ((z1 (w y0 (w y1 (w y2 (u y3)))) X.1),X.2)) X.1.1 X.1.2.1 (q2 X)
def alh:da:=iv K0 aff (λX=>(q3 X,q4 X))
def ano:dY:=dY.nil.add 5 alh
theorem aj0:ia E ave arf ano (aY Tryz.f125 0):=lk K0 aff (λX=>(q3 X,q4 X)) λX x=>((z3 (w x.1 (u x.2)) X.1),X.2)
theorem awc:cV 125 aoo:=fk arf ((((base.add wq).add awH).add awI).add awJ) Tryz.func125 (Λ:=ano) (cF aj0 nF)
def aop:bn:=aM [pf iB] [rB] (c1 Pu.xj)
theorem awd:cV 126 aop:=f0 {merge:=mg [(1,2)]} (base.add wq) Tryz.func126
def aoq:bn:=aM [pf iZ] [rB] (c1 Pu.yH)
theorem awe:cV 127 aoq:=f0 {merge:=mg [(1,2)]} (base.add wq) Tryz.func127
def aph:bn:=aM [pf lO] [rB] (c1 Pu.my)
theorem axm:cV 261 aph:=f0 {merge:=mg [(1,33),(3,54),(5,2)]} (base.add wq) Tryz.func261
def aoL:bn:=aM [pd (.sl lO)] [rB] (c1 Pu.yM)
def avo:dK:=dK.nil.add 261 aph
def art:An:={mask:=mk [(2,[0,2,3])]}
abbrev K5:SD:=⟨.data false (.sl .arg lO)::B::DB::DI::bs 15 [],zs 19 [],.none⟩
def afv (X:SD.D K5)(K:gH R):=Pu.tU (λy0=>ke 0 K K5 ((z2 (u y0) X.1),X.2)) (λy0 y1=>kr K K5 ((z1 (w y0 (u y1)) X.1),X.2)) X.1.1 X.1.2.1
def alz:da:=iv K5 afv q2
def anA:dY:=dY.nil.add 2 alz
theorem akg:ia E avo art anA (aY Tryz.f183 0):=lk K5 afv q2 λX x=>((z2 (u x) X.1),X.2)
theorem awC:cV 183 aoL:=fk art (base.add axm) Tryz.func183 (Λ:=anA) (cF akg nF)
def apr:bn:=aM [pf sm] [rI] (c1 Pu.xn)
def avN:dK:=dK.nil
def arT:An:={mask:=mk [(4,[3,4,5])]}
abbrev QJ:SD:=⟨B::B::B::DI::.data false (cS 49152 (.int .i64))::DI::bs 26 [],zs 32 [],.none⟩
def af4 (X:SD.D QJ)(K:gH R):=Pu.nP (λy0 y1=>ke 0 K QJ ((w y0 (z1 (u y1)) X.1),X.2)) X.1.2.1
def al8:da:=iv QJ af4 (λX=>(X.1.1,q2 X))
def an0:dY:=dY.nil.add 4 al8
theorem akP:ia E avN arT an0 (aY Tryz.f308 0):=lk QJ af4 (λX=>(X.1.1,q2 X)) λX x=>((w x.1 (z1 (u x.2)) X.1),X.2)
theorem axO:cV 308 apr:=fk arT base Tryz.func308 (Λ:=an0) (cF akP nF)
def api:bn:=aM [pf (.sl jm),pf sm] [rI] (c2 Pu.yT)
def avC:dK:=dK.nil.add 308 apr
def arI:An:={mask:=mk [(2,[2,3,4,5])],merge:=mg [(7,39)]}
abbrev Ld:SD:=⟨B::B::.ptr 2 0::.ptr 3 0::DI::DI::bs 35 [],Z::Z::(oR (.sl .arg jm))::(oR (cJ CK Y0))::zs 37 [],.none⟩
def afS (X:SD.D Ld)(K:gH R):=Pu.py (λy0=>ke 0 K Ld ((z1 (u y0) X.1),X.2)) (λy0 y1=>kr K Ld ((w y0 (u y1) X.1),X.2)) X.1.1 X.2.1.1 X.2.1.2.1
def alW:da:=iv Ld afS (λX=>X.1.2.1)
def anP:dY:=dY.nil.add 2 alW
theorem akD:ia E avC arI anP (aY Tryz.f262 0):=lk Ld afS (λX=>X.1.2.1) λX x=>((z1 (u x) X.1),X.2)
theorem axn:cV 262 api:=fk arI (base.add axO) Tryz.func262 (Λ:=anP) (cF akD nF)
def aoM:bn:=aM [pf (.sl jm)] [rB] (c1 Pu.yN)
def avp:dK:=(dK.nil.add 113 Nx).add 262 api
def aru:An:={mask:=mk [(4,[1,2,3])],merge:=mg [(7,30),(10,42)]}
abbrev K6:SD:=⟨B::.ptr 1 0::DB::DI::bs 45 [],Z::(oR (.sl .arg jm))::zs 47 [],.none⟩
def afw (X:SD.D K6)(K:gH R):=Pu.tW (λy0=>ke 0 K K6 ((z1 (u y0) X.1),X.2)) (λy0 y1=>kr K K6 ((w y0 (u y1) X.1),X.2)) X.1.1 X.2.1.1
def alA:da:=iv K6 afw (λX=>X.1.2.1)
def anB:dY:=dY.nil.add 4 alA
theorem akh:ia E avp aru anB (aY Tryz.f184 0):=lk K6 afw (λX=>X.1.2.1) λX x=>((z1 (u x) X.1),X.2)
theorem awD:cV 184 aoM:=fk aru ((base.add wq).add axn) Tryz.func184 (Λ:=anB) (cF akh nF)
def apj:bn:=aM [pI] [rB] (c1 Pu.yR)
theorem axo:cV 263 apj:=f0 {merge:=mg [(1,2)]} base Tryz.func263
def aoN:bn:=aM [pf BX,pI] [rB] (c2 Pu.xq)
def avq:dK:=(dK.nil.add 113 Nx).add 263 apj
def arv:An:={mask:=mk [(4,[1,2,4,5])],merge:=mg [(1,21)]}
abbrev K7:SD:=⟨B::DI::.ptr 2 0::B::DB::DI::bs 32 [],Z::Z::(oR (cJ .str (.sl .arg (.int .i64))))::zs 35 [],.none⟩
def afx (X:SD.D K7)(K:gH R):=Pu.rZ (λy0=>ke 0 K K7 ((z2 (u y0) X.1),X.2)) (λy0 y1=>kr K K7 ((z1 (w y0 (u y1)) X.1),X.2)) X.1.1 X.1.2.1 X.2.1.1
def alB:da:=iv K7 afx q2
def anC:dY:=dY.nil.add 4 alB
theorem aki:ia E avq arv anC (aY Tryz.f185 0):=lk K7 afx q2 λX x=>((z2 (u x) X.1),X.2)
theorem awE:cV 185 aoN:=fk arv ((base.add wq).add axo) Tryz.func185 (Λ:=anC) (cF aki nF)
def aon:bn:=aM [pf pD,pI] [rB] (c2 Pu.tV)
def apG:dK:=((dK.nil.add 183 aoL).add 184 aoM).add 185 aoN
def ams:An:={mask:=mk [(4,[1,2,4,5]),(9,[1,2,4,6])],merge:=mg [(1,23)]}
abbrev KX:SD:=⟨B::DI::.ptr 2 0::B::DB::DI::bs 50 [],Z::Z::(some Y20)::zs 53 [],.none⟩
def afa (X:SD.D KX)(K:gH R):=Pu.oO (λy0=>ke 0 K KX ((z2 (u y0) X.1),X.2)) (λy0 y1=>kr K KX ((z1 (w y0 (u y1)) X.1),X.2)) X.1.1 X.1.2.1 X.2.1.1
def alc:da:=iv KX afa q2
abbrev KY:SD:=⟨B::DI::.ptr 2 0::B::DB::B::DI::bs 49 [],Z::Z::(some Y20)::zs 53 [],.none⟩
def afb (X:SD.D KY)(K:gH R):=Pu.oP (λy0=>ke 2 K KY ((z2 (u y0) X.1),X.2)) (λy0 y1=>kr K KY ((z1 (w y0 (u y1)) X.1),X.2)) X.1.1 X.1.2.1 X.2.1.1
def ald:da:=iv KY afb q2
def ai9:dY:=(dY.nil.add 4 alc).add 9 ald
theorem ajV:ia E apG ams ai9 (aY Tryz.f114 0):=lk KX afa q2 λX x=>((z2 (u x) X.1),X.2)
theorem ajW:ia E apG ams ai9 (aY Tryz.f114 1):=lk KY afb q2 λX x=>((z2 (u x) X.1),X.2)
theorem av7:cV 114 aon:=fk ams (((base.add awC).add awD).add awE) Tryz.func114 (Λ:=ai9) (cF ajV (cF ajW nF))
def atH:bn:=aM [pf gI] [rB] (c1 Pu.uF)
theorem awF:cV 188 atH:=f0 {merge:=mg [(1,2)]} base Tryz.func188
def atf:bn:=aM [pf gI] [rB] (c1 Pu.mH)
theorem av8:cV 117 atf:=f0 {merge:=mg [(1,24),(3,2)]} ((base.add wq).add awF) Tryz.func117
def aoR:bn:=aM [pI,pI] [(true,Y14),rB] (c2 Pu.vN)
theorem awK:cV 196 aoR:=f0 {} (base.add av8) Tryz.func196
def e62:bn:=aM [pI,pd (.int .u8)] [rS] (c2 Pu.gv)
def g62:dK:=dK.nil
def n62:An:={mask:=mk [(3,[0,1,5,6])]}
abbrev YR:SD:=⟨DI::.data false (.int .u8)::B::B::B::.data false (cS 61440 (.int .u8))::DI::bs 13 [],zs 20 [],.none⟩
def aiQ (X:SD.D YR)(K:gH R):=Pu.pq (λy0 y1=>ke 0 K YR ((z2 (w y0 (u y1)) X.1),X.2)) X.1.1 X.1.2.1
def aqQ:da:=iv YR aiQ (λX=>(q2 X,q3 X))
def L62:dY:=dY.nil.add 3 aqQ
theorem aqf:ia E g62 n62 L62 (aY Tryz.f62 0):=lk YR aiQ (λX=>(q2 X,q3 X)) λX x=>((z2 (w x.1 (u x.2)) X.1),X.2)
theorem o62:cV 62 e62:=fk n62 base Tryz.func62 (Λ:=L62) (cF aqf nF)
def aoS:bn:=aM [pI] [(true,(.sl (.own none) .str))] (c1 Pu.nS)
def avr:dK:=dK.nil.add 62 e62
def arw:An:={mask:=mk [(3,[0,2,3,4])],merge:=mg [(3,12)],mv:=[16,21],mb:=mg [(16,3)],sb:=mg [(20,3)]}
abbrev Qo:SD:=⟨DI::B::.ptr 2 0::.ptr 3 0::DI::bs 17 [],Z::Z::(oR (cS 24577 .str))::(oR (cS 36865 .str))::zs 18 [],.none⟩
def afE (X:SD.D Qo)(K:gH R):=Pu.qt (λy0 y1=>ke 0 K Qo ((z1 (u y0) X.1),(z1 (u y1) X.2.1),X.2.2)) X.1.1 X.2.1.1
def alI:da:=iv Qo afE (λX=>(X.1.2.1,X.2.1.2.1))
def anD:dY:=dY.nil.add 3 alI
theorem akp:ia E avr arw anD (aY Tryz.f197 0):=lk Qo afE (λX=>(X.1.2.1,X.2.1.2.1)) λX x=>((z1 (u x.1) X.1),(z1 (u x.2) X.2.1),X.2.2)
theorem awL:cV 197 aoS:=fk arw (base.add o62) Tryz.func197 (Λ:=anD) (cF akp nF)
def ajt:bn:=aM [pf jY] [rB] (c1 Pu.uD)
def avd:dK:=dK.nil.add 113 Nx
def ard:An:={mask:=mk [(5,[1,2,3,4])],merge:=mg [(1,20),(7,50)]}
abbrev KZ:SD:=⟨B::.ptr 1 0::DB::.data false (cS 36864 .bool)::DI::bs 53 [],Z::(some Y15)::zs 56 [],.none⟩
def afc (X:SD.D KZ)(K:gH R):=Pu.vO (λy0 y1=>ke 0 K KZ ((z1 (w y0 (u y1)) X.1),X.2)) (λy0 y1 y2=>kr K KZ ((w y0 (w y1 (u y2)) X.1),X.2)) X.1.1 X.2.1.1
def ale:da:=iv KZ afc (λX=>(X.1.2.1,q2 X))
def anm:dY:=dY.nil.add 5 ale
theorem ajX:ia E avd ard anm (aY Tryz.f116 0):=lk KZ afc (λX=>(X.1.2.1,q2 X)) λX x=>((z1 (w x.1 (u x.2)) X.1),X.2)
theorem amG:cV 116 ajt:=fk ard (base.add wq) Tryz.func116 (Λ:=anm) (cF ajX nF)
def aum:bn:=aM [pI,pI,pI] [(true,Y10),rB] (c3 Pu.vM)
def avE:dK:=dK.nil.add 116 ajt
def arK:An:={mask:=mk [(3,[2,6,8,9])],merge:=mg [(3,20)],mv:=[24,33]}
abbrev QD:SD:=⟨B::B::DI::B::B::B::.ptr 6 0::B::.ptr 8 0::DI::bs 24 [],zs 6 ((some Y30)::Z::(some Y29)::zs 25 []),.none⟩
def afU (X:SD.D QD)(K:gH R):=Pu.pn (λy0 y1=>ke 0 K QD ((z1 (u y0) X.1),(z1 (u y1) X.2.1),X.2.2)) X.1.1 X.2.1.1
def alY:da:=iv QD afU (λX=>(X.1.2.1,X.2.1.2.1))
def anR:dY:=dY.nil.add 3 alY
theorem akF:ia E avE arK anR (aY Tryz.f266 0):=lk QD afU (λX=>(X.1.2.1,X.2.1.2.1)) λX x=>((z1 (u x.1) X.1),(z1 (u x.2) X.2.1),X.2.2)
theorem asM:cV 266 aum:=fk arK (base.add amG) Tryz.func266 (Λ:=anR) (cF akF nF)
def aoT:bn:=aM [] [(true,Y22)] λa=>Pu.xw
theorem awM:cV 198 aoT:=f0 {mv:=[4,9]} (base.add asM) Tryz.func198
def aoU:bn:=aM [pf mN] [(true,Y16)] (c1 Pu.vS)
theorem asq:cV 199 aoU:=f0 {sb:=mg [(2,2)]} base Tryz.func199
def aun:bn:=aM [pf (.sl jm)] [(true,(.sl (.own none) jm))] (c1 Pu.yS)
theorem axp:cV 267 aun:=f0 {} base Tryz.func267
def aoV:bn:=aM [pf pD] [(true,Y26)] (c1 Pu.yU)
theorem awN:cV 200 aoV:=f0 {sb:=mg [(2,2)]} (base.add axp) Tryz.func200
def agR:bn:=aM [pf (.sl .str)] [(true,(.sl (.own none) .str))] (c1 Pu.mz)
theorem ahL:cV 310 agR:=f0 {} base Tryz.func310
def aol:bn:=aM [pf (.sl .str)] [rB] (c1 Pu.tj)
def avb:dK:=dK.nil
def arb:An:={mask:=mk [(2,[1,2,3])]}
abbrev KU:SD:=⟨B::.ptr 1 0::DB::DI::bs 18 [],Z::(oR (.sl .arg .str))::zs 20 [],.none⟩
def ae7 (X:SD.D KU)(K:gH R):=Pu.rU (λy0=>ke 0 K KU ((z1 (u y0) X.1),X.2)) (λy0 y1=>kr K KU ((w y0 (u y1) X.1),X.2)) X.1.1 X.2.1.1
def ak9:da:=iv KU ae7 (λX=>X.1.2.1)
def ank:dY:=dY.nil.add 2 ak9
theorem ajS:ia E avb arb ank (aY Tryz.f109 0):=lk KU ae7 (λX=>X.1.2.1) λX x=>((z1 (u x) X.1),X.2)
theorem ar8:cV 109 aol:=fk arb base Tryz.func109 (Λ:=ank) (cF ajS nF)
def aom:bn:=aM [pd (.sl bW)] [rB] (c1 Pu.tQ)
def apF:dK:=dK.nil.add 113 Nx
def amr:An:={mask:=mk [(4,[0,2,3]),(10,[0,2,3,4,5])],merge:=mg [(7,34),(12,57)]}
abbrev Gk:SD:=⟨.data false (.sl .arg bW)::B::DB::DI::.ptr 4 0::DI::bs 52 [],zs 4 ((oR (jJ (jJ (jJ .bool))))::zs 53 []),.none⟩
def Z0 (X:SD.D Gk)(K:gH R):=Pu.nb (λy0=>ke 2 K Gk ((z3 (u y0) X.1),X.2)) (λy0 y1=>kr K Gk ((z1 (w y0 (z1 (u y1))) X.1),X.2)) X.1.1 X.1.2.1 (q2 X) X.2.1.1
def ahs:da:=iv Gk Z0 q3
abbrev KV:SD:=⟨.data false (.sl .arg bW)::B::DB::DI::bs 54 [],zs 58 [],.none⟩
def ae8 (X:SD.D KV)(K:gH R):=Pu.oN (λy0=>ke 0 K KV ((z2 (u y0) X.1),X.2)) (λy0 y1=>kr K KV ((z1 (w y0 (u y1)) X.1),X.2)) X.1.1 X.1.2.1
def ala:da:=iv KV ae8 q2
def ai8:dY:=(dY.nil.add 10 ahs).add 4 ala
theorem ahj:ia E apF amr ai8 (aY Tryz.f110 1):=lk Gk Z0 q3 λX x=>((z3 (u x) X.1),X.2)
theorem ajT:ia E apF amr ai8 (aY Tryz.f110 0):=lk KV ae8 q2 λX x=>((z2 (u x) X.1),X.2)
theorem av6:cV 110 aom:=fk amr (base.add wq) Tryz.func110 (Λ:=ai8) (cF ajT (cF ahj nF))
def apC:bn:=aM [pd (.sl bW),pI,pI,pd .bool] [rI] (c4 Pu.yV)
def avX:dK:=dK.nil
def ar3:An:={mask:=mk [(2,[0,1,2,3,8,9])],merge:=mg [(4,42)]}
abbrev Lm:SD:=⟨.data false (.sl .arg bW)::DI::DI::DB::bs 4 (DI::DI::bs 38 []),zs 48 [],.none⟩
def agf (X:SD.D Lm)(K:gH R):=Pu.tZ (λy0=>ke 0 K Lm ((z5 (u y0) X.1),X.2)) (λy0 y1=>kr K Lm ((z4 (w y0 (u y1)) X.1),X.2)) X.1.1 X.1.2.1 (q2 X) (q3 X) (q4 X)
def amj:da:=iv Lm agf q5
def aoa:dY:=dY.nil.add 2 amj
theorem ak0:ia E avX ar3 aoa (aY Tryz.f334 0):=lk Lm agf q5 λX x=>((z5 (u x) X.1),X.2)
theorem ax9:cV 334 apC:=fk ar3 base Tryz.func334 (Λ:=aoa) (cF ak0 nF)
def ajJ:bn:=aM [pf (.sl .str),pI,pI] [rB] (c3 Pu.nX)
theorem as0:cV 335 ajJ:=f0 {merge:=mg [(2,6)]} (base.add ar8) Tryz.func335
def apx:bn:=aM [pd (.sl bW),pf (.sl .str),pI,pI,pI,pd .bool] [(false,(.sl (.own none) (.int .i64))),(false,(.sl (.own none) (.int .i64))),rB] (c6 Pu.xu)
def avU:dK:=((((dK.nil.add 109 aol).add 110 aom).add 113 Nx).add 334 apC).add 335 ajJ
def ar0:An:={mask:=mk [(5,[0,2,3,4,5,7,12,13,14,15,16])],merge:=mg [(3,34),(10,57)],mv:=[35,36,64,71,81,82]}
abbrev Ll:SD:=⟨.data false (.sl .arg bW)::B::DI::DI::DI::DB::B::.ptr 7 0::bs 4 (.data false (cS 147456 (.int .i64))::.data false (cS 159744 (.int .i64))::DB::.data false (cS 184320 (.int .i64))::.data false (cS 196608 (.int .i64))::bs 66 []),zs 7 ((oR (.sl .arg .str))::zs 75 []),.none⟩
def agc (X:SD.D Ll)(K:gH R):=Pu.kN (λy0 y1 y2 y3=>ke 0 K Ll ((z2 (w y0 (w y1 (z4 (w y2 (u y3))))) X.1),X.2)) (λy0 y1 y2 y3 y4 y5 y6=>kr K Ll ((z2 (w y0 (w y1 (z1 (w y2 (w y3 (w y4 (w y5 (u y6)))))))) X.1),X.2)) X.1.1 X.1.2.1 (q4 X) (q5 X) (q6 X) (q7 X) X.2.1.1
def amg:da:=iv Ll agc (λX=>(q2 X,q3 X,q8 X,q9 X))
def an7:dY:=dY.nil.add 5 amg
theorem akX:ia E avU ar0 an7 (aY Tryz.f326 0):=lk Ll agc (λX=>(q2 X,q3 X,q8 X,q9 X)) λX x=>((z2 (w x.1 (w x.2.1 (z4 (w x.2.2.1 (u x.2.2.2))))) X.1),X.2)
theorem ax2:cV 326 apx:=fk ar0 (((((base.add ar8).add av6).add wq).add ax9).add as0) Tryz.func326 (Λ:=an7) (cF akX nF)
def apk:bn:=aM [pd .str,pI,pd .str] [rS] (c3 Pu.jy)
theorem amU:cV 274 apk:=f0 {} (base.add amQ) Tryz.func274
def apy:bn:=aM [pf (.sl .str),pI,pd .str] [(true,(.sl (.own none) .str)),rB] (c3 Pu.sc)
def avV:dK:=((dK.nil.add 274 apk).add 310 agR).add 335 ajJ
def ar1:An:={mask:=mk [(4,[1,2,6,8])],mv:=[19,52]}
abbrev QQ:SD:=⟨B::DI::.data false .str::B::B::B::.ptr 6 0::B::.ptr 8 0::bs 44 [],zs 6 ((oR (cS 73729 .str))::Z::(oR (cS 98305 .str))::zs 44 []),.none⟩
def agd (X:SD.D QQ)(K:gH R):=Pu.nd (λy0 y1 y2=>ke 0 K QQ ((w y0 (u y1) X.1),(z1 (u y2) X.2.1),X.2.2)) X.2.1.1
def amh:da:=iv QQ agd (λX=>(X.1.1,X.1.2.1,X.2.1.2.1))
def an8:dY:=dY.nil.add 4 amh
theorem akY:ia E avV ar1 an8 (aY Tryz.f327 0):=lk QQ agd (λX=>(X.1.1,X.1.2.1,X.2.1.2.1)) λX x=>((w x.1 (u x.2.1) X.1),(z1 (u x.2.2) X.2.1),X.2.2)
theorem ax3:cV 327 apy:=fk ar1 (((base.add amU).add ahL).add as0) Tryz.func327 (Λ:=an8) (cF akY nF)
def aps:bn:=aM [pd (.sl bW),pf (.sl .str),pI,pI,pd .str] [(true,(.sl (.own none) .str)),rB] (c5 Pu.ti)
def avO:dK:=((dK.nil.add 310 agR).add 326 apx).add 327 apy
def arU:An:={mask:=mk [(6,[4,10,12,13,15,16])],mv:=[32,39,52,60],sb:=mg [(15,15)]}
abbrev QK:SD:=⟨bs 4 (.data false .str::bs 5 (.ptr 10 0::B::.data false (.sl .loc (.int .i64))::.data false (.sl .loc (.int .i64))::B::.ptr 15 0::DI::bs 44 [])),zs 10 ((oR (cS 122881 .str))::zs 4 ((oR (cS 184321 .str))::zs 45 [])),.none⟩
def af5 (X:SD.D QK)(K:gH R):=Pu.nN (λy0 y1 y2=>ke 0 K QK ((w y0 (z2 (u y1)) X.1),(z1 (u y2) X.2.1),X.2.2)) X.1.2.1 (q2 X) X.2.1.1
def al9:da:=iv QK af5 (λX=>(X.1.1,q3 X,X.2.1.2.1))
def an1:dY:=dY.nil.add 6 al9
theorem akQ:ia E avO arU an1 (aY Tryz.f309 0):=lk QK af5 (λX=>(X.1.1,q3 X,X.2.1.2.1)) λX x=>((w x.1 (z2 (u x.2.1)) X.1),(z1 (u x.2.2) X.2.1),X.2.2)
theorem asW:cV 309 aps:=fk arU (((base.add ahL).add ax2).add ax3) Tryz.func309 (Λ:=an1) (cF akQ nF)
def auo:bn:=aM [pd (.sl bW),pf (.sl .str),pI,pI,pd .str] [(true,(.sl (.own none) .str)),rB] (c5 Pu.vK)
def avF:dK:=dK.nil.add 309 aps
def arL:An:={mask:=mk [(3,[0,2,3,4,6,10,12,13])],mv:=[27]}
abbrev QE:SD:=⟨.data false (.sl .arg bW)::B::DI::DI::.data false .str::B::.ptr 6 0::B::B::B::.ptr 10 0::B::.data false (cS 147456 bW)::DI::bs 25 [],zs 6 ((oR (.sl .arg .str))::Z::Z::Z::(oR (cS 122881 .str))::zs 28 []),.none⟩
def afV (X:SD.D QE)(K:gH R):=Pu.qs (λy0 y1=>ke 0 K QE ((z4 (w y0 (u y1)) X.1),X.2)) X.1.1 X.1.2.1 (q2 X) (q3 X) X.2.1.1 X.2.1.2.1
def alZ:da:=iv QE afV (λX=>(q4 X,q5 X))
def anS:dY:=dY.nil.add 3 alZ
theorem akG:ia E avF arL anS (aY Tryz.f268 0):=lk QE afV (λX=>(q4 X,q5 X)) λX x=>((z4 (w x.1 (u x.2)) X.1),X.2)
theorem axq:cV 268 auo:=fk arL (base.add asW) Tryz.func268 (Λ:=anS) (cF akG nF)
def auj:bn:=aM [pI] [rB] (c1 Pu.vR)
theorem asI:cV 258 auj:=f0 {merge:=mg [(1,2)]} base Tryz.func258
def auk:bn:=aM [pf iZ] [rI] (c1 Pu.tp)
theorem asJ:cV 259 auk:=f0 {} (base.add asI) Tryz.func259
def aoK:bn:=aM [pf iZ] [rB] (c1 Pu.uE)
theorem amP:cV 181 aoK:=f0 {merge:=mg [(1,2)]} (((base.add wq).add asI).add asJ) Tryz.func181
def apg:bn:=aM [pf jY] [(true,Y10)] (c1 Pu.yW)
theorem axl:cV 260 apg:=f0 {sb:=mg [(2,2)]} base Tryz.func260
def apt:bn:=aM [pf iZ] [rI] (c1 Pu.tn)
theorem asX:cV 311 apt:=f0 {} ((base.add amP).add asJ) Tryz.func311
def au6:bn:=aM [pf iZ,pI] [rI] (c2 Pu.rY)
theorem ax4:cV 328 au6:=f0 {merge:=mg [(1,11)]} (base.add amP) Tryz.func328
def apu:bn:=aM [pd (.sl bW),pf (.sl .str),pI,pf iZ,pd .str] [(true,(.sl (.own none) .str)),(true,Y0),rB] (c5 Pu.yL)
theorem axP:cV 312 apu:=f0 {merge:=mg [(1,22)],mv:=[26,36,51],mb:=mg [(51,13)],sb:=mg [(10,10),(11,11),(13,13)]} ((((base.add asW).add ahL).add asX).add ax4) Tryz.func312
def aur:bn:=aM [pI] [rS] (c1 Pu.dF)
theorem abN:cV 271 aur:=f0 {} (base.add wq) Tryz.func271
def au7:bn:=aM [pf ng] [rB] (c1 Pu.Ba)
theorem ax5:cV 329 au7:=f0 {merge:=mg [(1,2)]} (base.add wq) Tryz.func329
def apv:bn:=aM [pf ng] [rS] (c1 Pu.tP)
theorem axQ:cV 313 apv:=f0 {} (((base.add abK).add abN).add ax5) Tryz.func313
def apw:bn:=aM [pf jY,pI] [rI] (c2 Pu.oM)
theorem axR:cV 314 apw:=f0 {merge:=mg [(1,15)]} ((base.add wq).add amG) Tryz.func314
def aup:bn:=aM [pd (.sl bW),pf (.sl .str),pI,pf iZ,pf jY] [(true,(.sl (.own none) .str)),(true,Y0),(true,Y10),rI] (c5 Pu.xm)
def avG:dK:=(((((((dK.nil.add 116 ajt).add 181 aoK).add 260 apg).add 310 agR).add 311 apt).add 312 apu).add 313 apv).add 314 apw
def arM:An:={mask:=mk [(6,[0,2,8,9,10,11,12,14,15,16])],merge:=mg [(4,32),(6,44)],mv:=[33,35,49,63,68,78,80],mb:=mg [(33,14),(35,15),(78,14),(80,15)],sb:=mg [(10,10),(11,11),(12,12),(18,18),(19,19)]}
abbrev QF:SD:=⟨.data false (.sl .arg bW)::B::DI::bs 5 (.ptr 8 0::.ptr 9 0::.ptr 10 0::.ptr 11 0::.ptr 12 0::B::.ptr 14 0::.ptr 15 0::DI::bs 65 []),zs 8 ((some Y0)::(some Y15)::(oR (cS 122881 .str))::(some Y0)::(some Y28)::Z::(oR (cS 172033 .str))::(some Y27)::zs 66 []),.none⟩
def afW (X:SD.D QF)(K:gH R):=Pu.nO (λy0 y1 y2 y3=>ke 0 K QF ((z2 (u y0) X.1),(w y1 (z4 (w y2 (u y3))) X.2.1),X.2.2)) X.1.1 X.1.2.1 X.2.1.2.1 X.2.1.2.2.1 X.2.1.2.2.2.1 X.2.1.2.2.2.2.1
def al0:da:=iv QF afW (λX=>(q2 X,X.2.1.1,X.2.1.2.2.2.2.2.1,X.2.1.2.2.2.2.2.2.1))
def anT:dY:=dY.nil.add 6 al0
theorem akH:ia E avG arM anT (aY Tryz.f269 0):=lk QF afW (λX=>(q2 X,X.2.1.1,X.2.1.2.2.2.2.2.1,X.2.1.2.2.2.2.2.2.1)) λX x=>((z2 (u x.1) X.1),(w x.2.1 (z4 (w x.2.2.1 (u x.2.2.2))) X.2.1),X.2.2)
theorem axr:cV 269 aup:=fk arM ((((((((base.add amG).add amP).add axl).add ahL).add asX).add axP).add axQ).add axR) Tryz.func269 (Λ:=anT) (cF akH nF)
def aoW:bn:=jS (.pair (.sl (.own none) .str) (.pair (.sl (.own none) bW) (.pair (.pair (.pair (.int .i64) (.pair (.int .i64) (.pair (.int .i64) (.int .i64)))) (.pair (.pair (.int .i64) (.pair (.int .i64) (.pair (.int .i64) (.sl (.own none) (.int .i64))))) (.pair (.sl (.own none) jZ) (.int .i64)))) (.pair (.sl (.own none) eS) (.pair (.sl (.own none) jY) (.pair (.sl (.own none) gI) (.pair (.sl (.own none) .bool) (.pair (.pair (.int .i64) (.pair .bool (.sl (.own none) (.int .i64)))) (.pair (.pair (.sl (.own none) lO) (.pair (.sl (.own none) jm) (.pair .str (.sl (.own none) (.int .i64))))) (.pair (.sl (.own none) fB) (.pair .bool (.pair (.sl (.own none) .str) (.pair (.sl (.own none) (.int .i64)) (.pair (.sl (.own none) (.int .i64)) (.pair (.int .i64) (.pair (.int .i64) (.pair (.int .i64) (.pair (.int .i64) (.int .i64))))))))))))))))))) [pI] [] λx a=>Pu.vV x a.1
theorem awO:cV 201 aoW:=iH.qR (qA (an:={mv:=[47,51,65,67,84],mb:=mg [(84,6)],sb:=mg [(6,6),(50,0),(70,0),(71,5)]}) (Λ:=dY.nil) ((((base.add o62).add asM).add axq).add axr) Tryz.func201 (by kernel_rfl) (ao nF)) (λx a=>by kernel_rfl)
def aor:bn:=aM [pI,pf mN,pf pD,pd .bool,pI,pI] [(true,Y2),rB] (c6 Pu.rX)
def apI:dK:=((((((((dK.nil.add 112 ajs).add 113 Nx).add 114 aon).add 196 aoR).add 197 aoS).add 198 aoT).add 199 aoU).add 200 aoV).add 201 aoW
def amt:An:={mask:=mk [(6,[0,12,14,16,17]),(10,[0,12,14,16,18])],merge:=mg [(2,42)],mv:=[57,74,80,86,92,98],mb:=mg [(57,16)],sb:=mg [(16,16),(67,16)]}
abbrev Qa:SD:=⟨DI::bs 11 (.ptr 12 0::B::.ptr 14 0::B::.ptr 16 0::DI::bs 81 []),zs 12 ((some Y12)::Z::(some Y14)::Z::(some Y11)::zs 82 []),.none⟩
def afg (X:SD.D Qa)(K:gH R):=Pu.pk (λy0 y1=>ke 0 K Qa ((z1 (u y0) X.1),(z2 (u y1) X.2.1),X.2.2)) X.1.1 X.2.1.1 X.2.1.2.1
def ali:da:=iv Qa afg (λX=>(X.1.2.1,X.2.1.2.2.1))
abbrev Kd:SD:=⟨DI::bs 11 (.ptr 12 0::B::.ptr 14 0::B::.ptr 16 0::B::DI::bs 80 []),zs 12 ((some Y12)::Z::(some Y14)::Z::(some Y11)::zs 82 []),.none⟩
def Z1 (X:SD.D Kd)(K:gH R):=Pu.nR (λy0 y1=>ke 2 K Kd ((z1 (u y0) X.1),(z2 (u y1) X.2.1),X.2.2)) X.1.1 X.2.1.1 X.2.1.2.1
def aht:da:=iv Kd Z1 (λX=>(X.1.2.1,X.2.1.2.2.1))
def aja:dY:=(dY.nil.add 6 ali).add 10 aht
theorem aj1:ia E apI amt aja (aY Tryz.f128 0):=lk Qa afg (λX=>(X.1.2.1,X.2.1.2.2.1)) λX x=>((z1 (u x.1) X.1),(z2 (u x.2) X.2.1),X.2.2)
theorem ahk:ia E apI amt aja (aY Tryz.f128 1):=lk Kd Z1 (λX=>(X.1.2.1,X.2.1.2.2.1)) λX x=>((z1 (u x.1) X.1),(z2 (u x.2) X.2.1),X.2.2)
theorem awf:cV 128 aor:=fk amt (((((((((base.add amF).add wq).add av7).add awK).add awL).add awM).add asq).add awN).add awO) Tryz.func128 (Λ:=aja) (cF aj1 (cF ahk nF))
def aos:bn:=aM [pf eL] [(true,(.pair Y16 Y8))] (c1 Pu.yX)
theorem awg:cV 129 aos:=f0 {mv:=[7]} (base.add asq) Tryz.func129
def e57:bn:=aM [pd (.sl eL),pf pD,pd .bool,pf iB,pf (.sl .str),pI] [(true,Y7),rB] (c6 Pu.rV)
def g57:dK:=(((((dK.nil.add 50 e50).add 125 aoo).add 126 aop).add 127 aoq).add 128 aor).add 129 aos
def n57:An:={mask:=mk [(6,[0,2,7,9,12,13,16,17])],merge:=mg [(3,50)],mv:=[58,67,73,74,79,89,98],mb:=mg [(89,16)],sb:=mg [(18,18),(97,16)]}
abbrev SM:SD:=⟨.data false (.sl .arg eL)::B::DB::bs 4 (.ptr 7 0::B::.ptr 9 0::B::B::.ptr 12 0::DB::B::B::.ptr 16 0::DI::bs 81 []),zs 7 ((some Y20)::Z::(some Y8)::Z::Z::(oR (cJ (cS 147457 dD) (cJ (cS 147460 bV) (cJ (cS 147463 eL) (cJ (cS 147466 .str) (cJ Y0 (cJ (cS 147481 (.int .i64)) (cS 147484 .str))))))))::Z::Z::Z::(oR (cJ (cS 196609 dD) (cJ (cS 196612 bV) (cJ (cS 196615 eL) (cJ (cS 196618 .str) (cJ Y0 (cJ (cS 196633 (.int .i64)) (cS 196636 .str))))))))::zs 82 []),.none⟩
def aiN (X:SD.D SM)(K:gH R):=Pu.tR (λy0 y1=>ke 0 K SM ((z3 (u y0) X.1),(z3 (u y1) X.2.1),X.2.2)) (λy0 y1 y2 y3=>kr K SM ((z2 (w y0 (u y1)) X.1),(z2 (w y2 (u y3)) X.2.1),X.2.2)) X.1.1 X.1.2.1 (q2 X) X.2.1.1 X.2.1.2.1 X.2.1.2.2.1
def aqN:da:=iv SM aiN (λX=>(q3 X,X.2.1.2.2.2.1))
def L57:dY:=dY.nil.add 6 aqN
theorem aqc:ia E g57 n57 L57 (aY Tryz.f57 0):=lk SM aiN (λX=>(q3 X,X.2.1.2.2.2.1)) λX x=>((z3 (u x.1) X.1),(z3 (u x.2) X.2.1),X.2.2)
theorem o57:cV 57 e57:=fk n57 ((((((base.add o50).add awc).add awd).add awe).add awf).add awg) Tryz.func57 (Λ:=L57) (cF aqc nF)
def atM:bn:=jS (.pair (.sl .arg0 (.int .u8)) (.pair (.int .i64) (.int .i64))) [] [(true,Y16)] λx a=>Pu.vT x
theorem awP:cV 202 atM:=iH.qR (qA (an:={mv:=[11]}) (Λ:=dY.nil) (base.add o55) Tryz.func202 (by kernel_rfl) (ao nF)) (λx a=>by kernel_rfl)
def aot:bn:=jS (.pair (.sl .arg0 (.int .u8)) (.pair (.int .i64) (.int .i64))) [] [(true,(.pair Y16 Y8))] λx a=>Pu.Bd x
theorem awh:cV 130 aot:=iH.qR (qA (an:={}) (Λ:=dY.nil) ((base.add o59).add awP) Tryz.func130 (by kernel_rfl) (ao nF)) (λx a=>by kernel_rfl)
def e58:bn:=jS (.pair (.sl .arg0 (.int .u8)) (.pair (.int .i64) (.int .i64))) [] [(false,(.sl (.own none) eL))] λx a=>Pu.xx x
def g58:dK:=(dK.nil.add 59 e59).add 130 aot
def n58:An:={mask:=mk [(3,[0,3,4])],mv:=[22,23,26]}
abbrev YP:SD:=⟨.ptr 0 0::B::B::.data false (cS 36864 eL)::DI::bs 22 [],(some Y6)::zs 26 [],.ptr⟩
def aiO (X:SD.D YP)(K:gH R):=Pu.wJ (λy0 y1 y2=>ke 0 K YP ((w y0 (u y1) X.1),(u y2 X.2.1),X.2.2))
def aqO:da:=iv YP aiO (λX=>(X.1.1,X.1.2.1,X.2.1.1))
def L58:dY:=dY.nil.add 3 aqO
theorem aqd:ia E g58 n58 L58 (aY Tryz.f58 0):=lk YP aiO (λX=>(X.1.1,X.1.2.1,X.2.1.1)) λX x=>((w x.1 (u x.2.1) X.1),(u x.2.2 X.2.1),X.2.2)
theorem o58:cV 58 e58:=iH.qR (qA (Γ:=g58) (an:=n58) (Λ:=L58) ((base.add o59).add awh) Tryz.func58 (by kernel_rfl) (ao (cF aqd nF))) (λx a=>by kernel_rfl)
def e67:bn:=jS (.pair (.sl .arg0 (.int .u8)) (.pair (.int .i64) (.int .i64))) [] [rS] λx a=>Pu.tq x
theorem o67:cV 67 e67:=iH.qR (qA (an:={}) (Λ:=dY.nil) ((((base.add o56).add o59).add o61).add abJ) Tryz.func67 (by kernel_rfl) (ao nF)) (λx a=>by kernel_rfl)
def e60:bn:=jS (.pair (.sl .arg0 (.int .u8)) (.pair (.int .i64) (.int .i64))) [] [(true,(.sl (.own none) .str))] λx a=>Pu.xv x
def g60:dK:=(((dK.nil.add 55 e55).add 62 e62).add 67 e67).add 124 aju
def n60:An:={mask:=mk [(3,[0,2,3,4])],mv:=[18,28],mb:=mg [(18,3)],sb:=mg [(27,3)]}
abbrev YQ:SD:=⟨.ptr 0 0::B::.ptr 2 0::.ptr 3 0::DI::bs 24 [],(some Y6)::Z::(oR (cS 24577 .str))::(oR (cS 36865 .str))::zs 25 [],.ptr⟩
def aiP (X:SD.D YQ)(K:gH R):=Pu.wF (λy0 y1 y2=>ke 0 K YQ ((u y0 X.1),(w y1 (z1 (u y2)) X.2.1),X.2.2)) X.2.1.2.1
def aqP:da:=iv YQ aiP (λX=>(X.1.1,X.2.1.1,X.2.1.2.2.1))
def L60:dY:=dY.nil.add 3 aqP
theorem aqe:ia E g60 n60 L60 (aY Tryz.f60 0):=lk YQ aiP (λX=>(X.1.1,X.2.1.1,X.2.1.2.2.1)) λX x=>((u x.1 X.1),(w x.2.1 (z1 (u x.2.2)) X.2.1),X.2.2)
theorem o60:cV 60 e60:=iH.qR (qA (Γ:=g60) (an:=n60) (Λ:=L60) ((((base.add o55).add o62).add o67).add abJ) Tryz.func60 (by kernel_rfl) (ao (cF aqe nF))) (λx a=>by kernel_rfl)
def e20:bn:=jS (.pair (.sl .arg0 (.int .u8)) (.pair (.int .i64) (.int .i64))) [] [(true,Y7)] λx a=>Pu.Be x
def g20:dK:=(((((((((dK.nil.add 53 e53).add 54 e54).add 55 e55).add 56 e56).add 57 e57).add 58 e58).add 59 e59).add 60 e60).add 61 e61).add 62 e62
def n20:An:={mask:=mk [(2,[0,2,3]),(1000006,[0,2,3]),(1000007,[0,2,3]),(1000008,[0,2,3]),(1000009,[0,2,3]),(1000014,[0,2,3,4]),(1000015,[0,2,3])],cut:=[3,4,7],mv:=[35,49,52,66,80,82],sb:=mg [(6,6),(11,11),(36,0),(39,0),(43,0),(45,0)]}
abbrev Da:SD:=⟨.ptr 0 0::B::.ptr 2 0::DI::.ptr 4 0::bs 78 [],(some Y6)::Z::(some Y9)::Z::(oR (cJ (cS 49153 lO) (cJ (cS 49156 jm) (cJ .str (cS 49162 (.int .i64))))))::zs 78 [],.ptr⟩
abbrev Gm:SD:=⟨.ptr 0 0::B::.ptr 2 0::DI::bs 79 [],(some Y6)::Z::(some Y9)::zs 80 [],.ptr⟩
def JE (X:SD.D Da)(K:gH R):az R:=Pu.qW (λy0=>kn K Gm ((X.1.1,()),(y0,(X.2.1.2.1,())),())) (λy0 y1=>kr K Gm ((X.1.1,()),(y0,(y1,())),())) X.1.1 X.2.1.1 X.2.1.2.1 X.2.1.2.2.1
def Uo:da:=Ry Da JE
abbrev AA:SD:=⟨.ptr 0 0::B::.ptr 2 0::DI::bs 79 [],(some Y6)::Z::(some Y9)::zs 80 [],.ptr⟩
def JC (X:SD.D AA)(K:gH R):az R:=Pu.qV (λy0=>kn K AA ((u y0 X.1),X.2)) X.1.1 X.2.1.1 X.2.1.2.1
def Um:da:=Ry AA JC
abbrev xD:SD:=⟨.ptr 0 0::B::.ptr 2 0::DI::bs 79 [],(some Y6)::Z::(some Y9)::zs 80 [],.ptr⟩
def JD (X:SD.D xD)(K:gH R):az R:=Pu.vW (λy0 y1=>kn K xD ((u y0 X.1),(u y1 X.2.1),X.2.2)) (λy0 y1=>kr K xD (X.1,(w y0 (u y1) X.2.1),X.2.2)) X.1.1 X.2.1.1 X.2.1.2.1
def Un:da:=Ry xD JD
abbrev SF:SD:=⟨.ptr 0 0::B::.ptr 2 0::DI::bs 79 [],(some Y6)::Z::(some Y9)::zs 80 [],.ptr⟩
def aix (X:SD.D SF)(K:gH R):=Pu.Ak (λy0 y1=>ke 0 K SF ((u y0 X.1),(u y1 X.2.1),X.2.2)) (λy0 y1 y2=>kr K SF ((u y0 X.1),(w y1 (u y2) X.2.1),X.2.2)) X.2.1.2.1
def aqx:da:=iv SF aix (λX=>(X.1.1,X.2.1.1))
def L20:dY:=(((dY.nil.add 1000014 Uo).add 1000006 Um).add 1000008 Un).add 2 aqx
theorem T7:Nr E g20 n20 L20 (lV n20.cut Tryz.f20 1):=ck Da JE
theorem T5:Nr E g20 n20 L20 (lV n20.cut Tryz.f20 2):=ck AA JC
theorem T6:Nr E g20 n20 L20 (lV n20.cut Tryz.f20 0):=ck xD JD
theorem apW:ia E g20 n20 L20 (aY Tryz.f20 0):=lk SF aix (λX=>(X.1.1,X.2.1.1)) λX x=>((u x.1 X.1),(u x.2 X.2.1),X.2.2)
theorem o20:cV 20 e20:=iH.qR (qA (Γ:=g20) (an:=n20) (Λ:=L20) ((((((((((base.add o53).add o54).add o55).add o56).add o57).add o58).add o59).add o60).add o61).add o62) Tryz.func20 (by kernel_rfl) (ac (cF apW nF) (cF T6 (cF T7 (cF T5 nF))))) (λx a=>by kernel_rfl)
def atN:bn:=jS (.pair (.sl .arg0 (.int .u8)) (.pair (.int .i64) (.int .i64))) [] [rI] λx a=>Pu.yP x
theorem awQ:cV 203 atN:=iH.qR (qA (an:={}) (Λ:=dY.nil) (base.add o59) Tryz.func203 (by kernel_rfl) (ao nF)) (λx a=>by kernel_rfl)
def auq:bn:=jS (.pair (.sl .arg0 (.int .u8)) (.pair (.int .i64) (.int .i64))) [] [rI] λx a=>Pu.xt x
theorem axs:cV 270 auq:=iH.qR (qA (an:={}) (Λ:=dY.nil) (base.add o56) Tryz.func270 (by kernel_rfl) (ao nF)) (λx a=>by kernel_rfl)
def atO:bn:=jS (.pair (.sl .arg0 (.int .u8)) (.pair (.int .i64) (.int .i64))) [pI] [(true,(.pair (.int .i64) Y24))] λx a=>Pu.tX x a.1
theorem awR:cV 204 atO:=iH.qR (qA (an:={}) (Λ:=dY.nil) (((((base.add o55).add o56).add o59).add abJ).add axs) Tryz.func204 (by kernel_rfl) (ao nF)) (λx a=>by kernel_rfl)
def aov:bn:=jS (.pair (.sl .arg0 (.int .u8)) (.pair (.int .i64) (.int .i64))) [pI] [(true,Y1)] λx a=>Pu.nU x a.1
theorem awi:cV 134 aov:=iH.qR (qA (an:={}) (Λ:=dY.nil) ((((((base.add o55).add o56).add o59).add abJ).add awQ).add awR) Tryz.func134 (by kernel_rfl) (ao nF)) (λx a=>by kernel_rfl)
def e63:bn:=jS (.pair (.sl .arg0 (.int .u8)) (.pair (.int .i64) (.int .i64))) [pI] [(false,(.sl (.own none) dg))] λx a=>Pu.yQ x a.1
def g63:dK:=((((dK.nil.add 55 e55).add 56 e56).add 59 e59).add 124 aju).add 134 aov
def Zx:An:={mask:=mk [(5,[0,5,6,7,8]),(1000012,[0,5,6,7,8]),(1000013,[0,5,6,7,8]),(1000014,[0,5,6,7,8]),(1000015,[0,5,6,7,8]),(1000018,[0,5,6,7,8]),(1000019,[0,5,6,7,8]),(1000022,[0,5,6,7,8]),(1000023,[0,5,6,7,8]),(1000028,[0,5,6,7,8]),(1000029,[0,5,6,7,8]),(1000034,[0,5,6,7,8,64]),(1000035,[0,5,6,7,8])],cut:=[6,7,9,11,14,17],mv:=[47,76]}
abbrev Df:SD:=⟨.ptr 0 0::bs 4 (.data false (cS 61440 dg)::.ptr 6 0::DI::DI::bs 55 (DB::bs 12 [])),(some Y6)::zs 5 ((some Y1)::zs 70 []),.ptr⟩
abbrev QU:SD:=⟨.ptr 0 0::bs 4 (.data false (cS 61440 dg)::.ptr 6 0::DI::DI::bs 68 []),(some Y6)::zs 5 ((some Y1)::zs 70 []),.ptr⟩
def JS (X:SD.D Df)(K:gH R):az R:=Pu.wE (λy0=>kn K QU ((X.1.1,(X.1.2.1,(X.1.2.2.1,()))),(X.2.1.1,(y0,())),())) X.1.1 X.1.2.1 (q2 X) (q3 X) X.2.1.1 X.2.1.2.1
def UC:da:=Ry Df JS
abbrev AK:SD:=⟨.ptr 0 0::bs 4 (.data false (cS 61440 dg)::.ptr 6 0::DI::DI::bs 68 []),(some Y6)::zs 5 ((some Y1)::zs 70 []),.ptr⟩
def JR (X:SD.D AK)(K:gH R):az R:=Pu.nW (λy0 y1 y2=>kn K AK ((u y0 X.1),(w y1 (u y2) X.2.1),X.2.2)) X.1.1 X.1.2.1 (q2 X) X.2.1.1 X.2.1.2.1
def UB:da:=Ry AK JR
abbrev AJ:SD:=⟨.ptr 0 0::bs 4 (.data false (cS 61440 dg)::.ptr 6 0::DI::DI::bs 68 []),(some Y6)::zs 5 ((some Y1)::zs 70 []),.ptr⟩
def JQ (X:SD.D AJ)(K:gH R):az R:=Pu.nV (λy0 y1 y2=>kn K AJ ((u y0 X.1),(w y1 (u y2) X.2.1),X.2.2)) X.1.1 X.1.2.1 (q2 X) X.2.1.1 X.2.1.2.1
def UA:da:=Ry AJ JQ
abbrev AI:SD:=⟨.ptr 0 0::bs 4 (.data false (cS 61440 dg)::.ptr 6 0::DI::DI::bs 68 []),(some Y6)::zs 5 ((some Y1)::zs 70 []),.ptr⟩
def JP (X:SD.D AI)(K:gH R):az R:=Pu.px (λy0 y1 y2 y3=>kn K AI ((w y0 (u y1) X.1),(w y2 (u y3) X.2.1),X.2.2)) X.1.1 X.1.2.1 (q2 X) X.2.1.1 X.2.1.2.1
def Uz:da:=Ry AI JP
abbrev AG:SD:=⟨.ptr 0 0::bs 4 (.data false (cS 61440 dg)::.ptr 6 0::DI::DI::bs 68 []),(some Y6)::zs 5 ((some Y1)::zs 70 []),.ptr⟩
def JN (X:SD.D AG)(K:gH R):az R:=Pu.pw (λy0=>kn K AG ((z2 (u y0) X.1),X.2)) X.1.1 X.1.2.1 (q2 X) X.2.1.1 X.2.1.2.1
def Ux:da:=Ry AG JN
abbrev AH:SD:=⟨.ptr 0 0::bs 4 (.data false (cS 61440 dg)::.ptr 6 0::DI::DI::bs 68 []),(some Y6)::zs 5 ((some Y1)::zs 70 []),.ptr⟩
def JO (X:SD.D AH)(K:gH R):az R:=Pu.tY (λy0 y1 y2 y3 y4=>kn K AH ((w y0 (w y1 (u y2)) X.1),(w y3 (u y4) X.2.1),X.2.2)) X.1.1 X.1.2.1 (q2 X) X.2.1.1 X.2.1.2.1
def Uy:da:=Ry AH JO
abbrev YS:SD:=⟨.ptr 0 0::bs 4 (.data false (cS 61440 dg)::.ptr 6 0::DI::DI::bs 68 []),(some Y6)::zs 5 ((some Y1)::zs 70 []),.ptr⟩
def aiR (X:SD.D YS)(K:gH R):=Pu.yi (λy0 y1 y2 y3 y4=>ke 0 K YS ((w y0 (w y1 (u y2)) X.1),(w y3 (u y4) X.2.1),X.2.2))
def aqR:da:=iv YS aiR (λX=>(X.1.1,X.1.2.1,q2 X,X.2.1.1,X.2.1.2.1))
def L63:dY:=((((((dY.nil.add 1000034 UC).add 1000028 UB).add 1000022 UA).add 1000018 Uz).add 1000012 Ux).add 1000014 Uy).add 5 aqR
theorem Ul:Nr E g63 Zx L63 (lV Zx.cut Tryz.f63 4):=ck Df JS
theorem Uk:Nr E g63 Zx L63 (lV Zx.cut Tryz.f63 3):=ck AK JR
theorem Uj:Nr E g63 Zx L63 (lV Zx.cut Tryz.f63 2):=ck AJ JQ
theorem Ui:Nr E g63 Zx L63 (lV Zx.cut Tryz.f63 1):=ck AI JP
theorem Ug:Nr E g63 Zx L63 (lV Zx.cut Tryz.f63 5):=ck AG JN
theorem Uh:Nr E g63 Zx L63 (lV Zx.cut Tryz.f63 0):=ck AH JO
theorem aqg:ia E g63 Zx L63 (aY Tryz.f63 0):=lk YS aiR (λX=>(X.1.1,X.1.2.1,q2 X,X.2.1.1,X.2.1.2.1)) λX x=>((w x.1 (w x.2.1 (u x.2.2.1)) X.1),(w x.2.2.2.1 (u x.2.2.2.2) X.2.1),X.2.2)
theorem o63:cV 63 e63:=iH.qR (qA (Γ:=g63) (an:=Zx) (Λ:=L63) (((((base.add o55).add o56).add o59).add abJ).add awi) Tryz.func63 (by kernel_rfl) (ac (cF aqg nF) (cF Uh (cF Ui (cF Uj (cF Uk (cF Ul (cF Ug nF)))))))) (λx a=>by kernel_rfl)
def aul:bn:=aM [pf zy] [rB] (c1 Pu.qU)
theorem asK:cV 264 aul:=f0 {merge:=mg [(1,18),(4,2),(5,2)]} (base.add wq) Tryz.func264
def atG:bn:=aM [pf dg] [rB] (c1 Pu.vQ)
theorem aso:cV 187 atG:=f0 {merge:=mg [(1,55),(3,3),(4,2)]} ((base.add wq).add asK) Tryz.func187
def atm:bn:=aM [pf dg] [rB] (c1 Pu.xp)
theorem awj:cV 135 atm:=f0 {merge:=mg [(1,2)]} (base.add aso) Tryz.func135
def aus:bn:=aM [pI,pI,pI,pI] [rS,rB] (c4 Pu.mx)
theorem axt:cV 272 aus:=f0 {merge:=mg [(1,27)]} (((base.add wq).add abK).add abN) Tryz.func272
def apz:bn:=aM [pI,pI] [rI] (c2 Pu.mw)
theorem ax6:cV 330 apz:=f0 {merge:=mg [(1,12)]} (base.add wq) Tryz.func330
def auV:bn:=aM [pd .str] [rI] (c1 Pu.xr)
def avP:dK:=dK.nil.add 330 apz
def arV:An:={mask:=mk [(3,[0,3,4])]}
abbrev QL:SD:=⟨.data false .str::B::B::DI::DI::bs 28 [],zs 33 [],.none⟩
def af7 (X:SD.D QL)(K:gH R):=Pu.sa (λy0 y1=>ke 0 K QL ((z1 (w y0 (u y1)) X.1),X.2)) X.1.1
def amb:da:=iv QL af7 (λX=>(X.1.2.1,q2 X))
def an2:dY:=dY.nil.add 3 amb
theorem akS:ia E avP arV an2 (aY Tryz.f315 0):=lk QL af7 (λX=>(X.1.2.1,q2 X)) λX x=>((z1 (w x.1 (u x.2)) X.1),X.2)
theorem axS:cV 315 auV:=fk arV (base.add ax6) Tryz.func315 (Λ:=an2) (cF akS nF)
def aut:bn:=aM [pd .str] [rI] (c1 Pu.pM)
theorem asN:cV 273 aut:=f0 {} (base.add axS) Tryz.func273
def atP:bn:=aM [pI,pI,pf zy] [rS,rB] (c3 Pu.qq)
theorem awS:cV 205 atP:=f0 {merge:=mg [(14,82)]} ((((((base.add abK).add asK).add abN).add axt).add asN).add amU) Tryz.func205
def auW:bn:=aM [pf TIp] [rB] (c1 Pu.EB)
theorem axT:cV 316 auW:=f0 {merge:=mg [(1,2)]} (base.add wq) Tryz.func316
def auu:bn:=aM [pf TIp] [rS,rB] (c1 Pu.xo)
theorem axu:cV 275 auu:=f0 {} (((((base.add abK).add abN).add asN).add amU).add axT) Tryz.func275
def atQ:bn:=aM [pf TIp] [rS,rB] (c1 Pu.yG)
theorem awT:cV 206 atQ:=f0 {} (base.add axu) Tryz.func206
def auv:bn:=aM [pf aae] [rB] (c1 Pu.Cv)
theorem axv:cV 276 auv:=f0 {merge:=mg [(1,2)]} (base.add wq) Tryz.func276
def auw:bn:=aM [pI] [rS] (c1 Pu.iY)
theorem axw:cV 277 auw:=f0 {} ((base.add abK).add abN) Tryz.func277
def atR:bn:=aM [pf aae] [rS,rB] (c1 Pu.xk)
theorem awU:cV 207 atR:=f0 {} (((base.add abN).add axv).add axw) Tryz.func207
def atS:bn:=aM [pd .str] [rS] (c1 Pu.yJ)
theorem awV:cV 208 atS:=f0 {} (base.add o62) Tryz.func208
def atn:bn:=aM [pf dg] [rS,rB] (c1 Pu.tO)
theorem awk:cV 136 atn:=f0 {} (((((base.add aso).add awS).add awT).add awU).add awV) Tryz.func136
def ato:bn:=aM [pd .str] [rS] (c1 Pu.yO)
theorem awl:cV 137 ato:=f0 {} (base.add asa) Tryz.func137
def e64:bn:=aM [pf dg] [rS,rB] (c1 Pu.tN)
theorem o64:cV 64 e64:=f0 {} (((base.add awj).add awk).add awl) Tryz.func64
def e65:bn:=jS (.pair (.sl .arg0 (.int .u8)) (.pair (.int .i64) (.int .i64))) [pf dg,pI] [(true,Y1)] λx a=>Pu.qX x a.1 a.2.1
theorem o65:cV 65 e65:=iH.qR (qA (an:={}) (Λ:=dY.nil) ((base.add o55).add o56) Tryz.func65 (by kernel_rfl) (ao nF)) (λx a=>by kernel_rfl)
def e66:bn:=jS (.pair (.sl .arg0 (.int .u8)) (.pair (.int .i64) (.int .i64))) [] [(true,Y8)] λx a=>Pu.ua x
theorem o66:cV 66 e66:=iH.qR (qA (an:={}) (Λ:=dY.nil) ((base.add o56).add o59) Tryz.func66 (by kernel_rfl) (ao nF)) (λx a=>by kernel_rfl)
def e21:bn:=jS (.pair (.sl .arg0 (.int .u8)) (.pair (.int .i64) (.int .i64))) [pI,pd .bool] [(false,(.sl (.own none) gV))] λx a=>Pu.yY x a.1 a.2.1
def g21:dK:=(((((((dK.nil.add 55 e55).add 56 e56).add 59 e59).add 63 e63).add 64 e64).add 65 e65).add 66 e66).add 67 e67
def RB:An:={mask:=mk [(4,[0,1,2,7,8,9]),(42,[0,7,14]),(1000010,[0,1,2,7,8,9]),(1000011,[0,1,2,7,8,9]),(1000012,[0,1,2,7,8,9]),(1000013,[0,1,2,7,8,9]),(1000038,[0,1,2,7,8,9,10,11,30,46]),(1000039,[0,1,2,7,8,9,11]),(1000050,[0,1,2,7,8,9,10,11,30,63]),(1000051,[0,1,2,7,8,9,11]),(1000074,[0,1,2,7,8,9,11]),(1000075,[0,1,2,7,8,9]),(1000086,[0,7,14]),(1000087,[0,7,14]),(1000088,[0,7,14]),(1000089,[0,7,14]),(1000090,[0,7,14,158]),(1000091,[0,7,14])],cut:=[5,6,19,25,37,43,44,45],merge:=mg [(44,158)],mv:=[83,110,116,124,164]}
abbrev Dc:SD:=⟨.ptr 0 0::DI::DB::bs 4 (.data false (cS 86016 gV)::.data false (cS 98304 dg)::DI::DI::.ptr 11 0::bs 18 (DI::bs 32 (DB::bs 101 []))),(some Y6)::zs 10 ((some Y13)::zs 153 []),.ptr⟩
abbrev Qs:SD:=⟨.ptr 0 0::DI::DB::bs 4 (.data false (cS 86016 gV)::.data false (cS 98304 dg)::DI::B::.ptr 11 0::bs 153 []),(some Y6)::zs 10 ((some Y13)::zs 153 []),.ptr⟩
def JI (X:SD.D Dc)(K:gH R):az R:=Pu.jk (λy0 y1 y2=>kn K Qs ((X.1.1,(X.1.2.1,(y0,(X.1.2.2.2.1,(X.1.2.2.2.2.1,()))))),(y1,(y2,())),())) X.1.1 X.1.2.1 (q2 X) (q3 X) (q4 X) (q5 X) (q6 X) (q7 X) X.2.1.1 X.2.1.2.1
def Us:da:=Ry Dc JI
abbrev Db:SD:=⟨.ptr 0 0::DI::DB::bs 4 (.data false (cS 86016 gV)::.data false (cS 98304 dg)::DI::DI::.ptr 11 0::bs 18 (DI::bs 15 (DB::bs 118 []))),(some Y6)::zs 10 ((some Y13)::zs 153 []),.ptr⟩
abbrev Qr:SD:=⟨.ptr 0 0::DI::DB::bs 4 (.data false (cS 86016 gV)::.data false (cS 98304 dg)::DI::B::.ptr 11 0::bs 153 []),(some Y6)::zs 10 ((some Y13)::zs 153 []),.ptr⟩
def JH (X:SD.D Db)(K:gH R):az R:=Pu.jj (λy0 y1 y2=>kn K Qr ((X.1.1,(X.1.2.1,(y0,(X.1.2.2.2.1,(X.1.2.2.2.2.1,()))))),(y1,(y2,())),())) X.1.1 X.1.2.1 (q2 X) (q3 X) (q4 X) (q5 X) (q6 X) (q7 X) X.2.1.1 X.2.1.2.1
def Ur:da:=Ry Db JH
abbrev Dd:SD:=⟨.ptr 0 0::DI::DB::bs 4 (.data false (cS 86016 gV)::.data false (cS 98304 dg)::DI::B::.ptr 11 0::bs 153 []),(some Y6)::zs 10 ((some Y13)::zs 153 []),.ptr⟩
abbrev Qt:SD:=⟨.ptr 0 0::DI::DB::bs 4 (.data false (cS 86016 gV)::.data false (cS 98304 dg)::DI::bs 155 []),(some Y6)::zs 164 [],.ptr⟩
def JJ (X:SD.D Dd)(K:gH R):az R:=Pu.jl (λy0 y1=>kn K Qt ((X.1.1,(X.1.2.1,(y0,(X.1.2.2.2.1,(X.1.2.2.2.2.1,()))))),(y1,()),())) X.1.1 X.1.2.1 (q2 X) (q3 X) (q4 X) X.2.1.1 X.2.1.2.1
def Ut:da:=Ry Dd JJ
abbrev AB:SD:=⟨.ptr 0 0::DI::DB::bs 4 (.data false (cS 86016 gV)::.data false (cS 98304 dg)::DI::bs 155 []),(some Y6)::zs 164 [],.ptr⟩
def JF (X:SD.D AB)(K:gH R):az R:=Pu.lN (λy0=>kn K AB ((z4 (u y0) X.1),X.2)) X.1.1 X.1.2.1 (q2 X) (q3 X) (q4 X) X.2.1.1
def Up:da:=Ry AB JF
abbrev AD:SD:=⟨.ptr 0 0::DI::DB::bs 4 (.data false (cS 86016 gV)::.data false (cS 98304 dg)::DI::bs 155 []),(some Y6)::zs 164 [],.ptr⟩
def JG (X:SD.D AD)(K:gH R):az R:=Pu.ub (λy0 y1 y2=>kn K AD ((z2 (w y0 (z1 (u y1))) X.1),(u y2 X.2.1),X.2.2)) X.1.1 X.1.2.1 (q2 X) (q3 X) (q4 X) X.2.1.1
def Uq:da:=Ry AD JG
abbrev YG:SD:=⟨.ptr 0 0::DI::DB::bs 4 (.data false (cS 86016 gV)::.data false (cS 98304 dg)::DI::bs 155 []),(some Y6)::zs 164 [],.ptr⟩
def aiy (X:SD.D YG)(K:gH R):=Pu.yj (λy0 y1 y2=>ke 0 K YG ((z2 (w y0 (z1 (u y1))) X.1),(u y2 X.2.1),X.2.2)) X.1.1 X.1.2.1 (q3 X)
def aqy:da:=iv YG aiy (λX=>(q2 X,q4 X,X.2.1.1))
abbrev De:SD:=⟨.ptr 0 0::bs 6 (.data false (cS 86016 gV)::bs 6 (DI::bs 143 (DB::bs 6 []))),(some Y6)::zs 164 [],.ptr⟩
abbrev Qu:SD:=⟨.ptr 0 0::bs 6 (.data false (cS 86016 gV)::bs 6 (DI::bs 150 [])),(some Y6)::zs 164 [],.ptr⟩
def JM (X:SD.D De)(K:gH R):az R:=Pu.wH (λy0=>kn K Qu ((y0,(X.1.2.1,())),(X.2.1.1,()),())) X.1.1 X.1.2.1 (q2 X) X.2.1.1
def Uw:da:=Ry De JM
abbrev AE:SD:=⟨.ptr 0 0::bs 6 (.data false (cS 86016 gV)::bs 6 (DI::bs 150 [])),(some Y6)::zs 164 [],.ptr⟩
def JK (X:SD.D AE)(K:gH R):az R:=Pu.se (λy0=>kn K AE ((z1 (u y0) X.1),X.2)) X.1.1 X.1.2.1 X.2.1.1
def Uu:da:=Ry AE JK
abbrev AF:SD:=⟨.ptr 0 0::bs 6 (.data false (cS 86016 gV)::bs 6 (DI::bs 150 [])),(some Y6)::zs 164 [],.ptr⟩
def JL (X:SD.D AF)(K:gH R):az R:=Pu.wG (λy0 y1=>kn K AF ((w y0 (u y1) X.1),X.2)) X.1.1 X.1.2.1 X.2.1.1
def Uv:da:=Ry AF JL
abbrev Qv:SD:=⟨.ptr 0 0::bs 6 (.data false (cS 86016 gV)::bs 6 (DI::bs 150 [])),(some Y6)::zs 164 [],.ptr⟩
def afI (X:SD.D Qv)(K:gH R):=Pu.wI (λy0 y1=>ke 3 K Qv ((w y0 (u y1) X.1),X.2)) X.2.1.1
def alM:da:=iv Qv afI (λX=>(X.1.1,X.1.2.1))
def L21:dY:=(((((((((dY.nil.add 1000050 Us).add 1000038 Ur).add 1000074 Ut).add 1000010 Up).add 1000012 Uq).add 4 aqy).add 1000090 Uw).add 1000086 Uu).add 1000088 Uv).add 42 alM
theorem Ub:Nr E g21 RB L21 (lV RB.cut Tryz.f21 2):=ck Dc JI
theorem Ua:Nr E g21 RB L21 (lV RB.cut Tryz.f21 1):=ck Db JH
theorem Uc:Nr E g21 RB L21 (lV RB.cut Tryz.f21 3):=ck Dd JJ
theorem T8:Nr E g21 RB L21 (lV RB.cut Tryz.f21 4):=ck AB JF
theorem T9:Nr E g21 RB L21 (lV RB.cut Tryz.f21 0):=ck AD JG
theorem apX:ia E g21 RB L21 (aY Tryz.f21 0):=lk YG aiy (λX=>(q2 X,q4 X,X.2.1.1)) λX x=>((z2 (w x.1 (z1 (u x.2.1))) X.1),(u x.2.2 X.2.1),X.2.2)
theorem Uf:Nr E g21 RB L21 (lV RB.cut Tryz.f21 6):=ck De JM
theorem Ud:Nr E g21 RB L21 (lV RB.cut Tryz.f21 7):=ck AE JK
theorem Ue:Nr E g21 RB L21 (lV RB.cut Tryz.f21 5):=ck AF JL
theorem akt:ia E g21 RB L21 (aY Tryz.f21 1):=lk Qv afI (λX=>(X.1.1,X.1.2.1)) λX x=>((w x.1 (u x.2) X.1),X.2)
theorem o21:cV 21 e21:=iH.qR (qA (Γ:=g21) (an:=RB) (Λ:=L21) ((((((((base.add o55).add o56).add o59).add o63).add o64).add o65).add o66).add o67) Tryz.func21 (by kernel_rfl) (ac (cF apX (cF akt nF)) (cF T9 (cF Ua (cF Ub (cF Uc (cF T8 (cF Ue (cF Uf (cF Ud nF)))))))))) (λx a=>by kernel_rfl)
def e8:bn:=aM [pd (.sl (.int .u8))] [(true,Y7),(false,(.sl (.own none) gV))] (c1 Pu.xl)
theorem o8:cV 8 e8:=f0 {late:=[10],sb:=mg [(2,2),(11,7)]} (((base.add o19).add o20).add o21) Tryz.func8
def Ny:bn:=aM [pI,pI,pI] [rB] (c3 Pu.aA)
theorem xg:cV 23 Ny:=f0 {merge:=mg [(1,6)]} base Tryz.func23
def e76:bn:=aM [pf mN] [rB] (c1 Pu.ie)
def g76:dK:=dK.nil.add 23 Ny
def n76:An:={mask:=mk [(2,[1,2,6,7,8])],merge:=mg [(4,29),(7,2)]}
abbrev SN:SD:=⟨B::.ptr 1 0::DB::B::B::B::.data false (.sl .arg (.int .i64))::DI::DI::bs 31 [],Z::(some Y23)::zs 38 [],.none⟩
def aiU (X:SD.D SN)(K:gH R):=Pu.rj (λy0=>ke 0 K SN ((z3 (u y0) X.1),X.2)) (λy0 y1=>kr K SN ((w y0 (z2 (u y1)) X.1),X.2)) X.1.1 X.1.2.1 (q2 X) X.2.1.1
def aqU:da:=iv SN aiU q3
def L76:dY:=dY.nil.add 2 aqU
theorem aqj:ia E g76 n76 L76 (aY Tryz.f76 0):=lk SN aiU q3 λX x=>((z3 (u x) X.1),X.2)
theorem o76:cV 76 e76:=fk n76 (base.add xg) Tryz.func76 (Λ:=L76) (cF aqj nF)
def e26:bn:=aM [pf eL] [rB] (c1 Pu.qH)
theorem o26:cV 26 e26:=f0 {merge:=mg [(1,2)]} ((base.add xg).add o76) Tryz.func26
def e27:bn:=aM [pd (.sl (.int .i64)),pI] [rB] (c2 Pu.gB)
def g27:dK:=dK.nil
def n27:An:={mask:=mk [(2,[1,4,7,8,9])]}
abbrev SG:SD:=⟨B::DI::B::B::DB::B::B::.data false (.sl .arg (.int .i64))::DI::DI::bs 7 [],zs 17 [],.none⟩
def aiA (X:SD.D SG)(K:gH R):=Pu.vx (λy0=>ke 0 K SG ((z4 (u y0) X.1),X.2)) (λy0 y1=>kr K SG ((z1 (w y0 (z2 (u y1))) X.1),X.2)) X.1.1 X.1.2.1 (q2 X) (q3 X)
def aqA:da:=iv SG aiA q4
def L27:dY:=dY.nil.add 2 aqA
theorem apZ:ia E g27 n27 L27 (aY Tryz.f27 0):=lk SG aiA q4 λX x=>((z4 (u x) X.1),X.2)
theorem o27:cV 27 e27:=fk n27 base Tryz.func27 (Λ:=L27) (cF apZ nF)
def e28:bn:=aM [pd (.sl (.int .i64)),pI] [(false,(.sl (.own none) (.int .i64)))] (c2 Pu.jV)
def g28:dK:=dK.nil
def n28:An:={mask:=mk [(4,[1,5,6,10,11,12])],merge:=mg [(6,22)],mv:=[23,27,34,38]}
abbrev YI:SD:=⟨B::DI::B::B::B::.data false (cS 61440 (.int .i64))::DB::B::B::B::.data false (.sl .arg (.int .i64))::DI::DI::bs 26 [],zs 39 [],.none⟩
def aiB (X:SD.D YI)(K:gH R):=Pu.la (λy0 y1 y2=>ke 0 K YI ((z1 (w y0 (w y1 (z2 (u y2)))) X.1),X.2)) X.1.1 (q3 X) (q4 X)
def aqB:da:=iv YI aiB (λX=>(X.1.2.1,q2 X,q5 X))
def L28:dY:=dY.nil.add 4 aqB
theorem ap0:ia E g28 n28 L28 (aY Tryz.f28 0):=lk YI aiB (λX=>(X.1.2.1,q2 X,q5 X)) λX x=>((z1 (w x.1 (w x.2.1 (z2 (u x.2.2)))) X.1),X.2)
theorem o28:cV 28 e28:=fk n28 base Tryz.func28 (Λ:=L28) (cF ap0 nF)
def e77:bn:=aM [pf kz] [(true,Y23)] (c1 Pu.Bl)
theorem o77:cV 77 e77:=f0 {} base Tryz.func77
def e78:bn:=aM [pd (.sl kz),pI] [rI] (c2 Pu.sW)
def g78:dK:=dK.nil
def n78:An:={mask:=mk [(2,[1,4,7,8,9])],merge:=mg [(4,21)]}
abbrev SO:SD:=⟨B::DI::B::B::DI::B::B::.data false (.sl .arg kz)::DI::DI::bs 14 [],zs 24 [],.none⟩
def aiV (X:SD.D SO)(K:gH R):=Pu.nB (λy0=>ke 0 K SO ((z4 (u y0) X.1),X.2)) (λy0 y1=>kr K SO ((z1 (w y0 (z2 (u y1))) X.1),X.2)) X.1.1 X.1.2.1 (q2 X) (q3 X)
def aqV:da:=iv SO aiV q4
def L78:dY:=dY.nil.add 2 aqV
theorem aqk:ia E g78 n78 L78 (aY Tryz.f78 0):=lk SO aiV q4 λX x=>((z4 (u x) X.1),X.2)
theorem o78:cV 78 e78:=fk n78 base Tryz.func78 (Λ:=L78) (cF aqk nF)
def e29:bn:=aM [pd (.sl kz)] [rB] (c1 Pu.mh)
def g29:dK:=((((dK.nil.add 23 Ny).add 27 e27).add 76 e76).add 77 e77).add 78 e78
def n29:An:={mask:=mk [(4,[0,2,9,10,11])],merge:=mg [(6,27),(8,37)]}
abbrev SH:SD:=⟨.data false (.sl .arg kz)::B::DB::bs 6 (.data false (.sl .arg kz)::DI::DI::bs 27 []),zs 39 [],.none⟩
def aiC (X:SD.D SH)(K:gH R):=Pu.tD (λy0=>ke 0 K SH ((z4 (u y0) X.1),X.2)) (λy0 y1=>kr K SH ((z1 (w y0 (z2 (u y1))) X.1),X.2)) X.1.1 X.1.2.1 (q2 X) (q3 X)
def aqC:da:=iv SH aiC q4
def L29:dY:=dY.nil.add 4 aqC
theorem ap1:ia E g29 n29 L29 (aY Tryz.f29 0):=lk SH aiC q4 λX x=>((z4 (u x) X.1),X.2)
theorem o29:cV 29 e29:=fk n29 (((((base.add xg).add o27).add o76).add o77).add o78) Tryz.func29 (Λ:=L29) (cF ap1 nF)
def e11:bn:=aM [pd (.sl eL)] [(false,(.sl (.own none) kz)),rB] (c1 Pu.oy)
def g11:dK:=((((dK.nil.add 23 Ny).add 26 e26).add 27 e27).add 28 e28).add 29 e29
def n11:An:={mask:=mk [(6,[2,3,4,5,18,19,20]),(12,[2,3,4,5,7,8,18,19,20,32,33,34])],mv:=[53,57,63,69]}
abbrev P8:SD:=⟨B::B::.data false (cS 24576 kz)::DB::.data false (cS 49152 kz)::.data false (cS 61440 (.int .i64))::B::.ptr 7 0::.data false (cS 98304 (.int .i64))::bs 9 (.data false (.sl .arg eL)::DI::DI::bs 11 (.data false (cS 393216 (.int .i64))::DI::DI::bs 35 [])),zs 7 ((oR (cJ Y23 Y8))::zs 62 []),.none⟩
def afd (X:SD.D P8)(K:gH R):=Pu.kJ (λy0 y1 y2=>ke 2 K P8 ((z3 (w y0 (w y1 (z5 (u y2)))) X.1),X.2)) X.1.1 X.1.2.1 (q2 X) (q5 X) (q6 X) (q7 X) (q8 X) (q9 X) X.2.1.1
def alf:da:=iv P8 afd (λX=>(q3 X,q4 X,ZH X))
abbrev SC:SD:=⟨B::B::.data false (cS 24576 kz)::DB::.data false (cS 49152 kz)::.data false (cS 61440 (.int .i64))::bs 12 (.data false (.sl .arg eL)::DI::DI::bs 49 []),zs 70 [],.none⟩
def aiu (X:SD.D SC)(K:gH R):=Pu.pa (λy0 y1 y2=>ke 0 K SC ((z2 (w y0 (w y1 (z2 (u y2)))) X.1),X.2)) (λy0 y1 y2 y3 y4=>kr K SC ((w y0 (w y1 (w y2 (w y3 (z2 (u y4))))) X.1),X.2)) X.1.1 X.1.2.1 (q4 X) (q5 X)
def aqu:da:=iv SC aiu (λX=>(q2 X,q3 X,q6 X))
def L11:dY:=(dY.nil.add 12 alf).add 6 aqu
theorem ajY:ia E g11 n11 L11 (aY Tryz.f11 1):=lk P8 afd (λX=>(q3 X,q4 X,ZH X)) λX x=>((z3 (w x.1 (w x.2.1 (z5 (u x.2.2)))) X.1),X.2)
theorem apT:ia E g11 n11 L11 (aY Tryz.f11 0):=lk SC aiu (λX=>(q2 X,q3 X,q6 X)) λX x=>((z2 (w x.1 (w x.2.1 (z2 (u x.2.2)))) X.1),X.2)
theorem o11:cV 11 e11:=fk n11 (((((base.add xg).add o26).add o27).add o28).add o29) Tryz.func11 (Λ:=L11) (cF apT (cF ajY nF))
def e79:bn:=aM [pf (.sl .str)] [rB] (c1 Pu.sQ)
def g79:dK:=dK.nil
def n79:An:={mask:=mk [(2,[1,2,6,7,8])]}
abbrev SP:SD:=⟨B::.ptr 1 0::DB::B::B::B::.data false (.sl .arg .str)::DI::DI::bs 11 [],Z::(oR (.sl .arg .str))::zs 18 [],.none⟩
def aiW (X:SD.D SP)(K:gH R):=Pu.BD (λy0=>ke 0 K SP ((z3 (u y0) X.1),X.2)) (λy0 y1=>kr K SP ((w y0 (z2 (u y1)) X.1),X.2)) X.1.1 X.1.2.1 (q2 X) X.2.1.1
def aqW:da:=iv SP aiW q3
def L79:dY:=dY.nil.add 2 aqW
theorem aql:ia E g79 n79 L79 (aY Tryz.f79 0):=lk SP aiW q3 λX x=>((z3 (u x) X.1),X.2)
theorem o79:cV 79 e79:=fk n79 base Tryz.func79 (Λ:=L79) (cF aql nF)
def aoy:bn:=aM [pd (.sl bW),pI,pI] [rI] (c3 Pu.nA)
def avf:dK:=dK.nil
def arh:An:={mask:=mk [(2,[1,2,6,9,10,11])],merge:=mg [(4,25)]}
abbrev K1:SD:=⟨B::DI::DI::B::B::B::DI::B::B::.data false (.sl .arg bW)::DI::DI::bs 16 [],zs 28 [],.none⟩
def afl (X:SD.D K1)(K:gH R):=Pu.mY (λy0=>ke 0 K K1 ((z5 (u y0) X.1),X.2)) (λy0 y1=>kr K K1 ((z2 (w y0 (z2 (u y1))) X.1),X.2)) X.1.1 X.1.2.1 (q2 X) (q3 X) (q4 X)
def alo:da:=iv K1 afl q5
def anp:dY:=dY.nil.add 2 alo
theorem aj6:ia E avf arh anp (aY Tryz.f145 0):=lk K1 afl q5 λX x=>((z5 (u x) X.1),X.2)
theorem asb:cV 145 aoy:=fk arh base Tryz.func145 (Λ:=anp) (cF aj6 nF)
def e80:bn:=aM [pd (.sl bW)] [rB] (c1 Pu.oZ)
def g80:dK:=(dK.nil.add 23 Ny).add 145 aoy
def n80:An:={mask:=mk [(2,[0,2,5,6,7])],merge:=mg [(4,37)]}
abbrev SQ:SD:=⟨.data false (.sl .arg bW)::B::DB::B::B::.data false (.sl .arg bW)::DI::DI::bs 34 [],zs 42 [],.none⟩
def aiX (X:SD.D SQ)(K:gH R):=Pu.ow (λy0=>ke 0 K SQ ((z4 (u y0) X.1),X.2)) (λy0 y1=>kr K SQ ((z1 (w y0 (z2 (u y1))) X.1),X.2)) X.1.1 X.1.2.1 (q2 X) (q3 X)
def aqX:da:=iv SQ aiX q4
def L80:dY:=dY.nil.add 2 aqX
theorem aqm:ia E g80 n80 L80 (aY Tryz.f80 0):=lk SQ aiX q4 λX x=>((z4 (u x) X.1),X.2)
theorem o80:cV 80 e80:=fk n80 ((base.add xg).add asb) Tryz.func80 (Λ:=L80) (cF aqm nF)
def e83:bn:=aM [pf jY] [rB] (c1 Pu.iW)
def g83:dK:=dK.nil.add 23 Ny
def n83:An:={mask:=mk [(5,[1,2,3,26,27,28])],merge:=mg [(1,21),(7,43)]}
abbrev SS:SD:=⟨B::.ptr 1 0::DB::.data false (cS 36864 .bool)::bs 22 (.data false (.sl .arg (.int .i64))::DI::DI::bs 19 []),Z::(some Y15)::zs 46 [],.none⟩
def aiZ (X:SD.D SS)(K:gH R):=Pu.vk (λy0 y1=>ke 0 K SS ((z1 (w y0 (z2 (u y1))) X.1),X.2)) (λy0 y1 y2=>kr K SS ((w y0 (w y1 (z2 (u y2))) X.1),X.2)) X.1.1 (q2 X) (q3 X) X.2.1.1
def aqZ:da:=iv SS aiZ (λX=>(X.1.2.1,q4 X))
def L83:dY:=dY.nil.add 5 aqZ
theorem aqo:ia E g83 n83 L83 (aY Tryz.f83 0):=lk SS aiZ (λX=>(X.1.2.1,q4 X)) λX x=>((z1 (w x.1 (z2 (u x.2))) X.1),X.2)
theorem o83:cV 83 e83:=fk n83 (base.add xg) Tryz.func83 (Λ:=L83) (cF aqo nF)
def atX:bn:=aM [pI] [rB] (c1 Pu.sX)
theorem amR:cV 214 atX:=f0 {merge:=mg [(1,2)]} base Tryz.func214
def ajF:bn:=aM [pI,pI] [rI] (c2 Pu.iX)
theorem ahJ:cV 254 ajF:=f0 {} base Tryz.func254
def aoY:bn:=aM [pf iZ] [rI] (c1 Pu.jv)
theorem aen:cV 215 aoY:=f0 {} ((base.add amR).add ahJ) Tryz.func215
def agN:bn:=aM [pf iZ] [rB] (c1 Pu.jH)
theorem UY:cV 146 agN:=f0 {merge:=mg [(1,2)]} (((base.add xg).add amR).add aen) Tryz.func146
def e71:bn:=aM [pd (.sl (.int .i64))] [(false,(.sl (.own none) (.int .i64)))] (c1 Pu.gb)
theorem o71:cV 71 e71:=f0 {} base Tryz.func71
def agM:bn:=aM [pf jY] [(true,Y10)] (c1 Pu.iG)
theorem abL:cV 141 agM:=f0 {mv:=[7]} (base.add o71) Tryz.func141
def agO:bn:=aM [pf jY,pd (.sl (.int .i64))] [(true,Y10),rB] (c2 Pu.gy)
theorem amJ:cV 147 agO:=f0 {merge:=mg [(3,21)],mv:=[10,24]} ((base.add o83).add abL) Tryz.func147
def e81:bn:=aM [pf lP] [rB] (c1 Pu.zj)
def g81:dK:=(((dK.nil.add 23 Ny).add 83 e83).add 146 agN).add 147 agO
def n81:An:={mask:=mk [(6,[1,2,3,4,30,31,32])],merge:=mg [(1,24),(8,50)],mv:=[55]}
abbrev SR:SD:=⟨B::.ptr 1 0::DB::DI::.data false (cS 49152 (.int .i64))::bs 25 (.data false (.sl .arg jZ)::DI::DI::bs 35 []),Z::(some Y25)::zs 66 [],.none⟩
def aiY (X:SD.D SR)(K:gH R):=Pu.vq (λy0 y1 y2=>ke 0 K SR ((z1 (w y0 (w y1 (z2 (u y2)))) X.1),X.2)) (λy0 y1 y2 y3=>kr K SR ((w y0 (w y1 (w y2 (z2 (u y3)))) X.1),X.2)) X.1.1 (q3 X) (q4 X) X.2.1.1
def aqY:da:=iv SR aiY (λX=>(X.1.2.1,q2 X,q5 X))
def L81:dY:=dY.nil.add 6 aqY
theorem aqn:ia E g81 n81 L81 (aY Tryz.f81 0):=lk SR aiY (λX=>(X.1.2.1,q2 X,q5 X)) λX x=>((z1 (w x.1 (w x.2.1 (z2 (u x.2.2)))) X.1),X.2)
theorem o81:cV 81 e81:=fk n81 ((((base.add xg).add o83).add UY).add amJ) Tryz.func81 (Λ:=L81) (cF aqn nF)
def atq:bn:=aM [pf iB] [rB] (c1 Pu.oA)
theorem amK:cV 148 atq:=f0 {merge:=mg [(1,2)]} ((base.add xg).add amR) Tryz.func148
def atY:bn:=aM [pf zy] [rB] (c1 Pu.qI)
theorem ass:cV 216 atY:=f0 {merge:=mg [(1,18),(5,2),(7,2)]} (base.add xg) Tryz.func216
def atZ:bn:=aM [pI] [rB] (c1 Pu.qN)
theorem ast:cV 217 atZ:=f0 {merge:=mg [(1,2)]} base Tryz.func217
def ajw:bn:=aM [pf dg] [rB] (c1 Pu.gu)
theorem J5:cV 149 ajw:=f0 {merge:=mg [(1,2)]} (((base.add xg).add ass).add ast) Tryz.func149
def e82:bn:=aM [pf eS] [rB] (c1 Pu.wj)
theorem o82:cV 82 e82:=f0 {merge:=mg [(1,42),(5,2)]} ((((base.add xg).add UY).add amK).add J5) Tryz.func82
def atr:bn:=aM [pf gI] [rB] (c1 Pu.BF)
theorem asc:cV 150 atr:=f0 {merge:=mg [(1,2)]} base Tryz.func150
def e84:bn:=aM [pf gI] [rB] (c1 Pu.mD)
theorem o84:cV 84 e84:=f0 {merge:=mg [(1,24),(3,2)]} ((base.add xg).add asc) Tryz.func84
def aoZ:bn:=aM [pf lO] [rB] (c1 Pu.AO)
theorem asu:cV 218 aoZ:=f0 {merge:=mg [(1,33),(3,54),(5,2)]} (base.add xg) Tryz.func218
def ajx:bn:=aM [pd (.sl lO)] [rB] (c1 Pu.yB)
def avg:dK:=dK.nil.add 218 aoZ
def ari:An:={mask:=mk [(2,[0,2,5,6,7])]}
abbrev K2:SD:=⟨.data false (.sl .arg lO)::B::DB::B::B::.data false (.sl .arg lO)::DI::DI::bs 10 [],zs 18 [],.none⟩
def afm (X:SD.D K2)(K:gH R):=Pu.CW (λy0=>ke 0 K K2 ((z4 (u y0) X.1),X.2)) (λy0 y1=>kr K K2 ((z1 (w y0 (z2 (u y1))) X.1),X.2)) X.1.1 X.1.2.1 (q2 X) (q3 X)
def alp:da:=iv K2 afm q4
def anq:dY:=dY.nil.add 2 alp
theorem aj7:ia E avg ari anq (aY Tryz.f151 0):=lk K2 afm q4 λX x=>((z4 (u x) X.1),X.2)
theorem asd:cV 151 ajx:=fk ari (base.add asu) Tryz.func151 (Λ:=anq) (cF aj7 nF)
def ao0:bn:=aM [pf (.sl jm),pf sm] [rI] (c2 Pu.xN)
def avu:dK:=dK.nil
def arz:An:={mask:=mk [(2,[3,4,8,9,10])],merge:=mg [(4,23)]}
abbrev La:SD:=⟨B::B::B::.ptr 3 0::DI::B::B::B::.data false (.sl .arg jm)::DI::DI::bs 15 [],Z::Z::Z::(oR (cJ CK Y0))::zs 22 [],.none⟩
def afH (X:SD.D La)(K:gH R):=Pu.vB (λy0=>ke 0 K La ((z3 (u y0) X.1),X.2)) (λy0 y1=>kr K La ((w y0 (z2 (u y1)) X.1),X.2)) X.1.1 X.1.2.1 (q2 X) X.2.1.1
def alL:da:=iv La afH q3
def anG:dY:=dY.nil.add 2 alL
theorem aks:ia E avu arz anG (aY Tryz.f219 0):=lk La afH q3 λX x=>((z3 (u x) X.1),X.2)
theorem asv:cV 219 ao0:=fk arz base Tryz.func219 (Λ:=anG) (cF aks nF)
def apl:bn:=aM [pf sm] [rI] (c1 Pu.wX)
def avH:dK:=dK.nil.add 254 ajF
def arN:An:={mask:=mk [(3,[3,16,17,18])]}
abbrev QG:SD:=⟨B::B::B::DI::bs 12 (.data false (cS 196608 (.int .i64))::DI::DI::bs 10 []),zs 29 [],.none⟩
def afX (X:SD.D QG)(K:gH R):=Pu.nt (λy0 y1=>ke 0 K QG ((w y0 (z2 (u y1)) X.1),X.2)) X.1.2.1 (q2 X)
def al1:da:=iv QG afX (λX=>(X.1.1,q3 X))
def anU:dY:=dY.nil.add 3 al1
theorem akI:ia E avH arN anU (aY Tryz.f278 0):=lk QG afX (λX=>(X.1.1,q3 X)) λX x=>((w x.1 (z2 (u x.2)) X.1),X.2)
theorem axx:cV 278 apl:=fk arN (base.add ahJ) Tryz.func278 (Λ:=anU) (cF akI nF)
def ao1:bn:=aM [pf sm] [(false,(.sl (.own none) (.int .i64)))] (c1 Pu.Cj)
def avv:dK:=dK.nil.add 278 apl
def arA:An:={mask:=mk [(3,[1,3,4])],mv:=[10,18]}
abbrev Qw:SD:=⟨B::.ptr 1 0::B::.data false (cS 36864 (.int .i64))::DI::bs 14 [],Z::(oR (cJ CK Y0))::zs 17 [],.none⟩
def afJ (X:SD.D Qw)(K:gH R):=Pu.sY (λy0 y1=>ke 0 K Qw ((w y0 (u y1) X.1),X.2)) X.2.1.1
def alN:da:=iv Qw afJ (λX=>(X.1.1,X.1.2.1))
def anH:dY:=dY.nil.add 3 alN
theorem aku:ia E avv arA anH (aY Tryz.f220 0):=lk Qw afJ (λX=>(X.1.1,X.1.2.1)) λX x=>((w x.1 (u x.2) X.1),X.2)
theorem aw0:cV 220 ao1:=fk arA (base.add axx) Tryz.func220 (Λ:=anH) (cF aku nF)
def aoz:bn:=aM [pf (.sl jm)] [rB] (c1 Pu.rE)
def apK:dK:=((dK.nil.add 23 Ny).add 219 ao0).add 220 ao1
def amv:An:={mask:=mk [(4,[1,2,12,13,14]),(14,[1,2,3,12,13,14,49,50,51])],merge:=mg [(6,28),(9,40)]}
abbrev Gl:SD:=⟨B::.ptr 1 0::DB::DI::bs 8 (.data false (.sl .arg jm)::DI::DI::bs 34 (.data false (cS 602112 (.int .i64))::DI::DI::bs 15 [])),Z::(oR (.sl .arg jm))::zs 65 [],.none⟩
def Z2 (X:SD.D Gl)(K:gH R):=Pu.kK (λy0=>ke 2 K Gl ((z7 (u y0) X.1),X.2)) (λy0 y1=>kr K Gl ((w y0 (z6 (u y1)) X.1),X.2)) X.1.1 X.1.2.1 (q2 X) (q3 X) (q4 X) (q5 X) (q6 X) X.2.1.1
def ahu:da:=iv Gl Z2 q7
abbrev K3:SD:=⟨B::.ptr 1 0::DB::bs 9 (.data false (.sl .arg jm)::DI::DI::bs 52 []),Z::(oR (.sl .arg jm))::zs 65 [],.none⟩
def afn (X:SD.D K3)(K:gH R):=Pu.tG (λy0=>ke 0 K K3 ((z3 (u y0) X.1),X.2)) (λy0 y1=>kr K K3 ((w y0 (z2 (u y1)) X.1),X.2)) X.1.1 X.1.2.1 (q2 X) X.2.1.1
def alq:da:=iv K3 afn q3
def ajc:dY:=(dY.nil.add 14 ahu).add 4 alq
theorem ahl:ia E apK amv ajc (aY Tryz.f152 1):=lk Gl Z2 q7 λX x=>((z7 (u x) X.1),X.2)
theorem aj8:ia E apK amv ajc (aY Tryz.f152 0):=lk K3 afn q3 λX x=>((z3 (u x) X.1),X.2)
theorem ase:cV 152 aoz:=fk amv (((base.add xg).add asv).add aw0) Tryz.func152 (Λ:=ajc) (cF aj8 (cF ahl nF))
def ao2:bn:=aM [pI] [rB] (c1 Pu.DC)
theorem aw1:cV 221 ao2:=f0 {merge:=mg [(1,2)]} base Tryz.func221
def aoA:bn:=aM [pf BX,pI] [rB] (c2 Pu.xd)
def avh:dK:=(dK.nil.add 23 Ny).add 221 ao2
def arj:An:={mask:=mk [(4,[1,4,24,25,26])],merge:=mg [(1,22)]}
abbrev K4:SD:=⟨B::DI::B::B::DB::bs 19 (.data false (.sl .arg (.int .i64))::DI::DI::bs 9 []),zs 36 [],.none⟩
def afo (X:SD.D K4)(K:gH R):=Pu.BE (λy0=>ke 0 K K4 ((z4 (u y0) X.1),X.2)) (λy0 y1=>kr K K4 ((z1 (w y0 (z2 (u y1))) X.1),X.2)) X.1.1 X.1.2.1 (q2 X) (q3 X)
def alr:da:=iv K4 afo q4
def anr:dY:=dY.nil.add 4 alr
theorem aj9:ia E avh arj anr (aY Tryz.f153 0):=lk K4 afo q4 λX x=>((z4 (u x) X.1),X.2)
theorem asf:cV 153 aoA:=fk arj ((base.add xg).add aw1) Tryz.func153 (Λ:=anr) (cF aj9 nF)
def e85:bn:=aM [pf pD,pI] [rB] (c2 Pu.pe)
def g85:dK:=((dK.nil.add 151 ajx).add 152 aoz).add 153 aoA
def n85:An:={mask:=mk [(4,[1,2,4,27,28,29]),(10,[1,4,45,46,47])],merge:=mg [(1,25),(6,41),(12,59)]}
abbrev SU:SD:=⟨B::DI::.ptr 2 0::B::DB::bs 22 (.data false (.sl .arg lO)::DI::DI::bs 31 []),Z::Z::(some Y20)::zs 58 [],.none⟩
def ai0 (X:SD.D SU)(K:gH R):=Pu.oC (λy0=>ke 0 K SU ((z4 (u y0) X.1),X.2)) (λy0 y1=>kr K SU ((z1 (w y0 (z2 (u y1))) X.1),X.2)) X.1.1 X.1.2.1 (q2 X) (q3 X) X.2.1.1
def aq0:da:=iv SU ai0 q4
abbrev Ln:SD:=⟨B::DI::B::B::DB::bs 40 (.data false (.sl .arg jm)::DI::DI::bs 13 []),zs 61 [],.none⟩
def agj (X:SD.D Ln)(K:gH R):=Pu.mU (λy0=>ke 2 K Ln ((z4 (u y0) X.1),X.2)) (λy0 y1=>kr K Ln ((z1 (w y0 (z2 (u y1))) X.1),X.2)) X.1.1 X.1.2.1 (q2 X) (q3 X)
def amm:da:=iv Ln agj q4
def L85:dY:=(dY.nil.add 4 aq0).add 10 amm
theorem aqp:ia E g85 n85 L85 (aY Tryz.f85 0):=lk SU ai0 q4 λX x=>((z4 (u x) X.1),X.2)
theorem ak3:ia E g85 n85 L85 (aY Tryz.f85 1):=lk Ln agj q4 λX x=>((z4 (u x) X.1),X.2)
theorem o85:cV 85 e85:=fk n85 (((base.add asd).add ase).add asf) Tryz.func85 (Λ:=L85) (cF aqp (cF ak3 nF))
def e30:bn:=aM [pf dD] [rB] (c1 Pu.iV)
def g30:dK:=((((((((dK.nil.add 23 Ny).add 76 e76).add 79 e79).add 80 e80).add 81 e81).add 82 e82).add 83 e83).add 84 e84).add 85 e85
def n30:An:={mask:=mk [(5,[1,2,3,61,62]),(12,[1,2,3,103,104,105])],merge:=mg [(2,58),(7,89)]}
abbrev SI:SD:=⟨B::.ptr 1 0::DB::DI::bs 57 (DI::DI::bs 54 []),Z::(some Y5)::zs 115 [],.none⟩
def aiD (X:SD.D SI)(K:gH R):=Pu.vf (λy0=>ke 0 K SI ((z3 (u y0) X.1),X.2)) (λy0 y1=>kr K SI ((w y0 (z2 (u y1)) X.1),X.2)) X.1.1 X.1.2.1 (q2 X) X.2.1.1
def aqD:da:=iv SI aiD q3
abbrev Lk:SD:=⟨B::.ptr 1 0::DB::DI::bs 99 (.data false (cS 1265664 (.int .i64))::DI::DI::bs 11 []),Z::(some Y5)::zs 115 [],.none⟩
def af6 (X:SD.D Lk)(K:gH R):=Pu.tB (λy0=>ke 2 K Lk ((z4 (u y0) X.1),X.2)) (λy0 y1=>kr K Lk ((w y0 (z3 (u y1)) X.1),X.2)) X.1.1 X.1.2.1 (q2 X) (q3 X) X.2.1.1
def ama:da:=iv Lk af6 q4
def L30:dY:=(dY.nil.add 5 aqD).add 12 ama
theorem ap2:ia E g30 n30 L30 (aY Tryz.f30 0):=lk SI aiD q3 λX x=>((z3 (u x) X.1),X.2)
theorem akR:ia E g30 n30 L30 (aY Tryz.f30 1):=lk Lk af6 q4 λX x=>((z4 (u x) X.1),X.2)
theorem o30:cV 30 e30:=fk n30 (((((((((base.add xg).add o76).add o79).add o80).add o81).add o82).add o83).add o84).add o85) Tryz.func30 (Λ:=L30) (cF ap2 (cF akR nF))
def e86:bn:=aM [pd (.sl (.int .i64)),pd (.sl (.int .i64))] [rB] (c2 Pu.rQ)
def g86:dK:=dK.nil
def n86:An:={mask:=mk [(4,[0,1,4,12,13])]}
abbrev SV:SD:=⟨.data false (.sl .arg (.int .i64))::.data false (.sl .arg (.int .i64))::B::B::DB::bs 7 (DI::DI::bs 12 []),zs 26 [],.none⟩
def ai1 (X:SD.D SV)(K:gH R):=Pu.na (λy0=>ke 0 K SV ((z4 (u y0) X.1),X.2)) (λy0 y1=>kr K SV ((z2 (w y0 (z1 (u y1))) X.1),X.2)) X.1.1 X.1.2.1 (q2 X) (q3 X)
def aq1:da:=iv SV ai1 q4
def L86:dY:=dY.nil.add 4 aq1
theorem aqq:ia E g86 n86 L86 (aY Tryz.f86 0):=lk SV ai1 q4 λX x=>((z4 (u x) X.1),X.2)
theorem o86:cV 86 e86:=fk n86 base Tryz.func86 (Λ:=L86) (cF aqq nF)
def e31:bn:=aM [pf mN,pf mN] [rB] (c2 Pu.tJ)
theorem o31:cV 31 e31:=f0 {merge:=mg [(1,4)]} (base.add o86) Tryz.func31
def e87:bn:=aM [pf iB] [rB] (c1 Pu.sM)
theorem o87:cV 87 e87:=f0 {merge:=mg [(1,2)]} (base.add xg) Tryz.func87
def e32:bn:=aM [pd (.sl bV),pd (.sl kz)] [rB] (c2 Pu.nr)
def g32:dK:=((dK.nil.add 23 Ny).add 29 e29).add 87 e87
def n32:An:={mask:=mk [(4,[0,1,4,12,13,14]),(9,[0,1,4,6,12,13,14,52,53,54])],merge:=mg [(6,49),(11,69)]}
abbrev SK:SD:=⟨.data false (.sl .arg bV)::.data false (.sl .arg kz)::B::B::DB::B::.ptr 6 0::bs 5 (.data false (.sl .arg bV)::DI::DI::bs 37 (.data false (.sl .arg bV)::DI::DI::bs 17 [])),zs 6 ((oR (jJ (jJ (cJ Y8 (cJ .bool (jJ CK))))))::zs 65 []),.none⟩
def aiF (X:SD.D SK)(K:gH R):=Pu.mR (λy0=>ke 2 K SK ((z8 (u y0) X.1),X.2)) (λy0 y1=>kr K SK ((z2 (w y0 (z5 (u y1))) X.1),X.2)) X.1.1 X.1.2.1 (q2 X) (q3 X) (q4 X) (q5 X) (q6 X) (q7 X) X.2.1.1
def aqF:da:=iv SK aiF q8
abbrev SJ:SD:=⟨.data false (.sl .arg bV)::.data false (.sl .arg kz)::B::B::DB::bs 7 (.data false (.sl .arg bV)::DI::DI::bs 57 []),zs 72 [],.none⟩
def aiE (X:SD.D SJ)(K:gH R):=Pu.mQ (λy0=>ke 0 K SJ ((z5 (u y0) X.1),X.2)) (λy0 y1=>kr K SJ ((z2 (w y0 (z2 (u y1))) X.1),X.2)) X.1.1 X.1.2.1 (q2 X) (q3 X) (q4 X)
def aqE:da:=iv SJ aiE q5
def L32:dY:=(dY.nil.add 9 aqF).add 4 aqE
theorem ap4:ia E g32 n32 L32 (aY Tryz.f32 1):=lk SK aiF q8 λX x=>((z8 (u x) X.1),X.2)
theorem ap3:ia E g32 n32 L32 (aY Tryz.f32 0):=lk SJ aiE q5 λX x=>((z5 (u x) X.1),X.2)
theorem o32:cV 32 e32:=fk n32 (((base.add xg).add o29).add o87) Tryz.func32 (Λ:=L32) (cF ap3 (cF ap4 nF))
def e33:bn:=aM [pd (.sl bV)] [rB] (c1 Pu.vy)
def g33:dK:=dK.nil
def n33:An:={mask:=mk [(2,[2,5,6,7])],merge:=mg [(4,22)]}
abbrev SL:SD:=⟨B::B::DB::B::B::.data false (.sl .arg bV)::DI::DI::bs 16 [],zs 24 [],.none⟩
def aiG (X:SD.D SL)(K:gH R):=Pu.qo (λy0=>ke 0 K SL ((z3 (u y0) X.1),X.2)) (λy0 y1=>kr K SL ((w y0 (z2 (u y1)) X.1),X.2)) X.1.1 X.1.2.1 (q2 X)
def aqG:da:=iv SL aiG q3
def L33:dY:=dY.nil.add 2 aqG
theorem ap5:ia E g33 n33 L33 (aY Tryz.f33 0):=lk SL aiG q3 λX x=>((z3 (u x) X.1),X.2)
theorem o33:cV 33 e33:=fk n33 base Tryz.func33 (Λ:=L33) (cF ap5 nF)
def ati:bn:=aM [pd .str,pI] [rI] (c2 Pu.hH)
theorem XK:cV 122 ati:=f0 {merge:=mg [(1,13)]} base Tryz.func122
def atK:bn:=aM [pI] [rS] (c1 Pu.fS)
theorem UZ:cV 191 atK:=f0 {} (base.add xg) Tryz.func191
def atL:bn:=aM [pd .str] [rI] (c1 Pu.zR)
def apN:dK:=dK.nil
def amx:An:={mask:=mk [(3,[0,3,4]),(7,[0,3,4,5])]}
abbrev Ql:SD:=⟨.data false .str::B::B::.data false (.int .u32)::DI::DI::bs 28 [],zs 34 [],.none⟩
def afz (X:SD.D Ql)(K:gH R):=Pu.pH (λy0 y1=>ke 2 K Ql ((z1 (w y0 (z1 (u y1))) X.1),X.2)) X.1.1 (q2 X)
def alD:da:=iv Ql afz (λX=>(X.1.2.1,q3 X))
abbrev Qk:SD:=⟨.data false .str::B::B::.data false (.int .u32)::DI::bs 29 [],zs 34 [],.none⟩
def afy (X:SD.D Qk)(K:gH R):=Pu.sN (λy0 y1=>ke 0 K Qk ((z1 (w y0 (u y1)) X.1),X.2)) X.1.1
def alC:da:=iv Qk afy (λX=>(X.1.2.1,q2 X))
def aje:dY:=(dY.nil.add 7 alD).add 3 alC
theorem akk:ia E apN amx aje (aY Tryz.f192 1):=lk Ql afz (λX=>(X.1.2.1,q3 X)) λX x=>((z1 (w x.1 (z1 (u x.2))) X.1),X.2)
theorem akj:ia E apN amx aje (aY Tryz.f192 0):=lk Qk afy (λX=>(X.1.2.1,q2 X)) λX x=>((z1 (w x.1 (u x.2)) X.1),X.2)
theorem asp:cV 192 atL:=fk amx base Tryz.func192 (Λ:=aje) (cF akj (cF akk nF))
def atj:bn:=aM [pI,pd .str] [rS,rB] (c2 Pu.vh)
theorem awb:cV 123 atj:=f0 {merge:=mg [(1,15)]} (((base.add xg).add UZ).add asp) Tryz.func123
def e52:bn:=aM [pd .str] [rI] (c1 Pu.iM)
theorem o52:cV 52 e52:=f0 {merge:=mg [(2,19),(5,38)]} ((base.add XK).add awb) Tryz.func52
def e88:bn:=aM [pf (.sl .str)] [rB] (c1 Pu.uY)
theorem o88:cV 88 e88:=f0 {merge:=mg [(1,2)]} base Tryz.func88
def e34:bn:=aM [pf (.sl .str)] [rI] (c1 Pu.pG)
theorem o34:cV 34 e34:=f0 {merge:=mg [(4,18)]} ((base.add o52).add o88) Tryz.func34
def e35:bn:=aM [pf iZ] [rB] (c1 Pu.uX)
theorem o35:cV 35 e35:=f0 {merge:=mg [(1,2)]} (base.add xg) Tryz.func35
def e12:bn:=aM [pf uH] [rB] (c1 Pu.lZ)
def g12:dK:=((((((dK.nil.add 11 e11).add 30 e30).add 31 e31).add 32 e32).add 33 e33).add 34 e34).add 35 e35
def n12:An:={mask:=mk [(5,[1,2,3,34,35,36])],merge:=mg [(2,32),(7,55),(10,2)]}
abbrev SE:SD:=⟨B::.ptr 1 0::DB::.data false (.sl .loc kz)::bs 30 (.data false (.sl .arg dD)::DI::DI::bs 40 []),Z::(oR (cJ (.sl .arg dD) (cJ (.sl .arg bV) (cJ (.sl .arg eL) (cJ (.sl .arg .str) (cJ Y0 (cJ (.sl .arg (.int .i64)) (.sl .arg .str))))))))::zs 75 [],.none⟩
def aiv (X:SD.D SE)(K:gH R):=Pu.uW (λy0=>ke 0 K SE ((z4 (u y0) X.1),X.2)) (λy0 y1=>kr K SE ((w y0 (z3 (u y1)) X.1),X.2)) X.1.1 X.1.2.1 (q2 X) (q3 X) X.2.1.1
def aqv:da:=iv SE aiv q4
def L12:dY:=dY.nil.add 5 aqv
theorem apU:ia E g12 n12 L12 (aY Tryz.f12 0):=lk SE aiv q4 λX x=>((z4 (u x) X.1),X.2)
theorem o12:cV 12 e12:=fk n12 (((((((base.add o11).add o30).add o31).add o32).add o33).add o34).add o35) Tryz.func12 (Λ:=L12) (cF apU nF)
def e68:bn:=aM [pd (.sl bV)] [(false,(.sl (.own none) bV))] (c1 Pu.jg)
theorem o68:cV 68 e68:=f0 {} base Tryz.func68
def e25:bn:=aM [pf mN] [(true,Y16)] (c1 Pu.fj)
theorem o25:cV 25 e25:=f0 {mv:=[7]} (base.add o71) Tryz.func25
def e75:bn:=aM [pf eL] [(true,(.pair Y16 Y8))] (c1 Pu.kL)
theorem o75:cV 75 e75:=f0 {mv:=[7]} (base.add o25) Tryz.func75
def e69:bn:=aM [pd (.sl eL)] [(false,(.sl (.own none) eL))] (c1 Pu.qJ)
def g69:dK:=dK.nil.add 75 e75
def n69:An:={mask:=mk [(3,[3,7,8,9])],mv:=[13,19]}
abbrev YT:SD:=⟨B::B::B::.data false (cS 36864 eL)::B::B::B::.data false (.sl .arg eL)::DI::DI::bs 10 [],zs 20 [],.none⟩
def aiS (X:SD.D YT)(K:gH R):=Pu.qm (λy0 y1=>ke 0 K YT ((w y0 (z2 (u y1)) X.1),X.2)) X.1.2.1 (q2 X)
def aqS:da:=iv YT aiS (λX=>(X.1.1,q3 X))
def L69:dY:=dY.nil.add 3 aqS
theorem aqh:ia E g69 n69 L69 (aY Tryz.f69 0):=lk YT aiS (λX=>(X.1.1,q3 X)) λX x=>((w x.1 (z2 (u x.2)) X.1),X.2)
theorem o69:cV 69 e69:=fk n69 (base.add o75) Tryz.func69 (Λ:=L69) (cF aqh nF)
def e72:bn:=aM [pd (.sl .str)] [(false,(.sl (.own none) .str))] (c1 Pu.gR)
theorem o72:cV 72 e72:=f0 {} base Tryz.func72
def e70:bn:=aM [pf (.sl .str)] [(true,(.sl (.own none) .str))] (c1 Pu.lb)
theorem o70:cV 70 e70:=f0 {} (base.add o72) Tryz.func70
def S0:bn:=aM [pf (.sl .str)] [(true,(.sl (.own none) .str))] (c1 Pu.dy)
theorem Mr:cV 138 S0:=f0 {} (base.add o72) Tryz.func138
def aow:bn:=aM [pd (.sl bW)] [(false,(.sl (.own none) bW))] (c1 Pu.vu)
theorem awm:cV 139 aow:=f0 {} base Tryz.func139
def aoX:bn:=aM [pd (.sl jZ)] [(false,(.sl (.own none) jZ))] (c1 Pu.sV)
def avs:dK:=dK.nil.add 71 e71
def arx:An:={mask:=mk [(3,[3,7,8,9])],mv:=[13,25]}
abbrev Qp:SD:=⟨B::B::B::.data false (cS 36864 jZ)::B::B::B::.data false (.sl .arg jZ)::DI::DI::bs 16 [],zs 26 [],.none⟩
def afF (X:SD.D Qp)(K:gH R):=Pu.rN (λy0 y1=>ke 0 K Qp ((w y0 (z2 (u y1)) X.1),X.2)) X.1.2.1 (q2 X)
def alJ:da:=iv Qp afF (λX=>(X.1.1,q3 X))
def anE:dY:=dY.nil.add 3 alJ
theorem akq:ia E avs arx anE (aY Tryz.f209 0):=lk Qp afF (λX=>(X.1.1,q3 X)) λX x=>((w x.1 (z2 (u x.2)) X.1),X.2)
theorem asr:cV 209 aoX:=fk arx (base.add o71) Tryz.func209 (Λ:=anE) (cF akq nF)
def agL:bn:=aM [pf lP] [(true,Y22)] (c1 Pu.qK)
theorem amH:cV 140 agL:=f0 {sb:=mg [(2,2)]} ((base.add abL).add asr) Tryz.func140
def atT:bn:=aM [pf (.sl jm)] [(true,(.sl (.own none) jm))] (c1 Pu.vw)
theorem awW:cV 210 atT:=f0 {} base Tryz.func210
def atU:bn:=aM [pf BX] [(true,(.pair .str (.sl (.own none) (.int .i64))))] (c1 Pu.tI)
theorem awX:cV 211 atU:=f0 {sb:=mg [(2,2)]} (base.add o71) Tryz.func211
def aox:bn:=aM [pf pD] [(true,Y26)] (c1 Pu.qn)
theorem awn:cV 142 aox:=f0 {sb:=mg [(2,2)]} ((base.add awW).add awX) Tryz.func142
def ajv:bn:=aM [pd (.sl fB)] [(false,(.sl (.own none) fB))] (c1 Pu.kM)
theorem amI:cV 143 ajv:=f0 {} base Tryz.func143
def e73:bn:=aM [pf dD] [(true,Y2)] (c1 Pu.gN)
def g73:dK:=((((((((dK.nil.add 25 e25).add 71 e71).add 72 e72).add 138 S0).add 139 aow).add 140 agL).add 141 agM).add 142 aox).add 143 ajv
def n73:An:={mask:=mk [(8,[1,2,3,27,28,29])],mv:=[34,75],mb:=mg [(34,3)],sb:=mg [(39,3)]}
abbrev YU:SD:=⟨B::.ptr 1 0::.ptr 2 0::.ptr 3 0::bs 23 (.data false (.sl .arg jY)::DI::DI::bs 46 []),Z::(some Y5)::(some Y3)::(oR (cJ (cS 36865 .str) (cJ (cS 36868 bW) (cJ (cJ Y0 (cJ (jJ (jJ (jJ (cS 36892 (.int .i64))))) (cJ (cS 36895 jZ) CK))) (cJ (cS 36901 eS) (cJ (cS 36904 jY) (cJ (.sl .arg gI) (cJ (.sl .arg .bool) (cJ Y23 (cJ Y20 (cJ (.sl .arg fB) (cJ .bool (cJ (.sl .arg .str) (cJ (.sl .arg (.int .i64)) (cJ (.sl .arg (.int .i64)) (cJ CK Y0))))))))))))))))::zs 72 [],.none⟩
def aiT (X:SD.D YU)(K:gH R):=Pu.rM (λy0 y1=>ke 0 K YU ((z2 (u y0) X.1),(z2 (u y1) X.2.1),X.2.2)) X.1.1 X.1.2.1 X.2.1.1 X.2.1.2.1
def aqT:da:=iv YU aiT (λX=>(q2 X,X.2.1.2.2.1))
def L73:dY:=dY.nil.add 8 aqT
theorem aqi:ia E g73 n73 L73 (aY Tryz.f73 0):=lk YU aiT (λX=>(q2 X,X.2.1.2.2.1)) λX x=>((z2 (u x.1) X.1),(z2 (u x.2) X.2.1),X.2.2)
theorem o73:cV 73 e73:=fk n73 (((((((((base.add o25).add o71).add o72).add Mr).add awm).add amH).add abL).add awn).add amI) Tryz.func73 (Λ:=L73) (cF aqi nF)
def e22:bn:=aM [pf uH] [(true,Y7)] (c1 Pu.kB)
def g22:dK:=(((((dK.nil.add 68 e68).add 69 e69).add 70 e70).add 71 e71).add 72 e72).add 73 e73
def n22:An:={mask:=mk [(3,[2,3,25,26,27])],mv:=[32,39],mb:=mg [(32,3)],sb:=mg [(3,3),(37,3)]}
abbrev YH:SD:=⟨B::B::.ptr 2 0::.ptr 3 0::bs 21 (.data false (.sl .arg dD)::DI::DI::bs 12 []),Z::Z::(some Y9)::(oR (cJ (cS 36865 dD) (cJ (cS 36868 bV) (cJ (cS 36871 eL) (cJ (cS 36874 .str) (cJ Y0 (cJ (cS 36889 (.int .i64)) (cS 36892 .str))))))))::zs 36 [],.none⟩
def aiz (X:SD.D YH)(K:gH R):=Pu.rL (λy0 y1=>ke 0 K YH ((z2 (u y0) X.1),(z1 (u y1) X.2.1),X.2.2)) X.1.1 X.1.2.1 X.2.1.1
def aqz:da:=iv YH aiz (λX=>(q2 X,X.2.1.2.1))
def L22:dY:=dY.nil.add 3 aqz
theorem apY:ia E g22 n22 L22 (aY Tryz.f22 0):=lk YH aiz (λX=>(q2 X,X.2.1.2.1)) λX x=>((z2 (u x.1) X.1),(z1 (u x.2) X.2.1),X.2.2)
theorem o22:cV 22 e22:=fk n22 ((((((base.add o68).add o69).add o70).add o71).add o72).add o73) Tryz.func22 (Λ:=L22) (cF apY nF)
def atV:bn:=aM [pf mN,pI] [(true,Y16),rB] (c2 Pu.yw)
theorem awY:cV 212 atV:=f0 {merge:=mg [(2,17)],mv:=[18,29]} ((((base.add o25).add o27).add o28).add o76) Tryz.func212
def atW:bn:=aM [pf mN,pI] [(true,Y16),rB] (c2 Pu.wS)
def avt:dK:=((dK.nil.add 25 e25).add 27 e27).add 76 e76
def ary:An:={mask:=mk [(6,[1,4,6,25,26,27])],merge:=mg [(2,20)],mv:=[21,35,41]}
abbrev Qq:SD:=⟨B::DI::B::B::.ptr 4 0::B::.ptr 6 0::bs 18 (.data false (.sl .arg (.int .i64))::DI::DI::bs 14 []),zs 4 ((oR (jJ (cJ .bool (cS 49159 (.int .i64)))))::Z::(oR (jJ (cJ .bool (cS 73735 (.int .i64)))))::zs 35 []),.none⟩
def afG (X:SD.D Qq)(K:gH R):=Pu.ri (λy0 y1=>ke 0 K Qq ((z3 (u y0) X.1),(z1 (u y1) X.2.1),X.2.2)) X.1.1 X.1.2.1 (q2 X) X.2.1.1
def alK:da:=iv Qq afG (λX=>(q3 X,X.2.1.2.1))
def anF:dY:=dY.nil.add 6 alK
theorem akr:ia E avt ary anF (aY Tryz.f213 0):=lk Qq afG (λX=>(q3 X,X.2.1.2.1)) λX x=>((z3 (u x.1) X.1),(z1 (u x.2) X.2.1),X.2.2)
theorem awZ:cV 213 atW:=fk ary (((base.add o25).add o27).add o76) Tryz.func213 (Λ:=anF) (cF akr nF)
def atp:bn:=aM [pf mN,pf iB] [(true,Y16),rI] (c2 Pu.yC)
theorem awo:cV 144 atp:=f0 {mv:=[21,30,39,46],mb:=mg [(39,6)],sb:=mg [(4,4)]} ((((base.add o25).add o76).add awY).add awZ) Tryz.func144
def e74:bn:=aM [pf eL,pf iB] [(true,(.pair Y16 Y8)),rI] (c2 Pu.ou)
theorem o74:cV 74 e74:=f0 {mv:=[13,20,30,31,47],mb:=mg [(20,6),(47,6)],sb:=mg [(4,4)],fm:=[49]} (((base.add o26).add o75).add awo) Tryz.func74
def e24:bn:=aM [pd (.sl eL),pI,pf iB] [(false,(.sl (.own none) eL)),rI] (c3 Pu.ql)
theorem o24:cV 24 e24:=f0 {mv:=[14,23,32,60],es:=mg [(25,8)]} ((((base.add o11).add o69).add o74).add o75) Tryz.func24
def e10:bn:=aM [pf uH,pI,pf iB] [(true,Y7),rI] (c3 Pu.oq)
theorem o10:cV 10 e10:=f0 {merge:=mg [(2,24)],mv:=[25,26,34,47]} (((((base.add o12).add o22).add xg).add o24).add o25) Tryz.func10
def e16:bn:=aM [pf (.sl .str)] [rI] (c1 Pu.nk)
theorem o16:cV 16 e16:=f0 {} ((base.add o34).add o52) Tryz.func16
def e89:bn:=aM [pf acV] [rB] (c1 Pu.zQ)
theorem o89:cV 89 e89:=f0 {merge:=mg [(1,12),(3,31),(5,2)]} (base.add xg) Tryz.func89
def e36:bn:=aM [pf gV,pI] [rB] (c2 Pu.vt)
theorem o36:cV 36 e36:=f0 {merge:=mg [(1,4)]} ((base.add xg).add o89) Tryz.func36
def aoB:bn:=aM [pf og] [rB] (c1 Pu.rl)
theorem awp:cV 154 aoB:=f0 {merge:=mg [(5,2),(7,2)]} (base.add xg) Tryz.func154
def e90:bn:=aM [pf (.sl .str),pf og,pI] [(true,(.sl (.own none) .str))] (c3 Pu.kI)
def g90:dK:=((dK.nil.add 70 e70).add 88 e88).add 154 aoB
def n90:An:={mask:=mk [(7,[2,4,6,7,8,9]),(11,[2,4,6,7,8,10])],merge:=mg [(2,24)],mv:=[25,74]}
abbrev YV:SD:=⟨B::B::DI::B::.ptr 4 0::B::.ptr 6 0::.ptr 7 0::.data false (cS 98304 (.int .u8))::DI::bs 65 [],zs 4 ((some Y21)::Z::(oR (cS 73729 .str))::(oR (cS 86017 .str))::zs 67 []),.none⟩
def ai2 (X:SD.D YV)(K:gH R):=Pu.sA (λy0 y1=>ke 0 K YV ((z1 (w y0 (u y1)) X.1),X.2)) X.1.1 X.2.1.1 X.2.1.2.1 X.2.1.2.2.1
def aq2:da:=iv YV ai2 (λX=>(X.1.2.1,q2 X))
abbrev QV:SD:=⟨B::B::DI::B::.ptr 4 0::B::.ptr 6 0::.ptr 7 0::.data false (cS 98304 (.int .u8))::B::DI::bs 64 [],zs 4 ((some Y21)::Z::(oR (cS 73729 .str))::(oR (cS 86017 .str))::zs 67 []),.none⟩
def agk (X:SD.D QV)(K:gH R):=Pu.qF (λy0 y1=>ke 2 K QV ((z1 (w y0 (u y1)) X.1),X.2)) X.1.1 X.2.1.1 X.2.1.2.1 X.2.1.2.2.1
def amn:da:=iv QV agk (λX=>(X.1.2.1,q2 X))
def L90:dY:=(dY.nil.add 7 aq2).add 11 amn
theorem aqr:ia E g90 n90 L90 (aY Tryz.f90 0):=lk YV ai2 (λX=>(X.1.2.1,q2 X)) λX x=>((z1 (w x.1 (u x.2)) X.1),X.2)
theorem ak4:ia E g90 n90 L90 (aY Tryz.f90 1):=lk QV agk (λX=>(X.1.2.1,q2 X)) λX x=>((z1 (w x.1 (u x.2)) X.1),X.2)
theorem o90:cV 90 e90:=fk n90 (((base.add o70).add o88).add awp) Tryz.func90 (Λ:=L90) (cF aqr (cF ak4 nF))
def e37:bn:=aM [pf (.sl .str),pd (.sl og),pI,pI] [(true,(.sl (.own none) .str))] (c4 Pu.vn)
def g37:dK:=(dK.nil.add 70 e70).add 90 e90
def n37:An:={mask:=mk [(5,[1,2,3,8,9,10])],merge:=mg [(2,18),(5,28)],mv:=[19,48],sb:=mg [(9,9)]}
abbrev YJ:SD:=⟨B::.data false (.sl .arg og)::DI::DI::bs 4 (.ptr 8 0::.ptr 9 0::DI::bs 38 []),zs 8 ((oR (cS 98305 .str))::(oR (cS 110593 .str))::zs 39 []),.none⟩
def aiH (X:SD.D YJ)(K:gH R):=Pu.vo (λy0 y1=>ke 0 K YJ ((z3 (u y0) X.1),(z1 (u y1) X.2.1),X.2.2)) X.1.1 X.1.2.1 (q2 X) X.2.1.1
def aqH:da:=iv YJ aiH (λX=>(q3 X,X.2.1.2.1))
def L37:dY:=dY.nil.add 5 aqH
theorem ap6:ia E g37 n37 L37 (aY Tryz.f37 0):=lk YJ aiH (λX=>(q3 X,X.2.1.2.1)) λX x=>((z3 (u x.1) X.1),(z1 (u x.2) X.2.1),X.2.2)
theorem o37:cV 37 e37:=fk n37 ((base.add o70).add o90) Tryz.func37 (Λ:=L37) (cF ap6 nF)
def e38:bn:=aM [pf (.sl .str),pd .str] [(false,(.sl (.own none) og))] (c2 Pu.rH)
def g38:dK:=((dK.nil.add 34 e34).add 52 e52).add 88 e88
def n38:An:={mask:=mk [(8,[1,5,6,7])],merge:=mg [(1,20)],mv:=[33,47]}
abbrev YK:SD:=⟨B::.data false .str::B::B::B::DI::.data false (cS 73728 og)::DI::bs 49 [],zs 57 [],.none⟩
def aiI (X:SD.D YK)(K:gH R):=Pu.kb (λy0 y1=>ke 0 K YK ((z2 (w y0 (u y1)) X.1),X.2)) X.1.1 X.1.2.1
def aqI:da:=iv YK aiI (λX=>(q2 X,q3 X))
def L38:dY:=dY.nil.add 8 aqI
theorem ap7:ia E g38 n38 L38 (aY Tryz.f38 0):=lk YK aiI (λX=>(q2 X,q3 X)) λX x=>((z2 (w x.1 (u x.2)) X.1),X.2)
theorem o38:cV 38 e38:=fk n38 (((base.add o34).add o52).add o88) Tryz.func38 (Λ:=L38) (cF ap7 nF)
def ao6:bn:=aM [pf ng] [rB] (c1 Pu.xH)
theorem asx:cV 227 ao6:=f0 {merge:=mg [(1,2)]} (base.add xg) Tryz.func227
def at0:bn:=aM [pI] [rS] (c1 Pu.cv)
theorem J6:cV 228 at0:=f0 {} (base.add xg) Tryz.func228
def ajy:bn:=aM [pf ng] [rS] (c1 Pu.lL)
theorem amL:cV 158 ajy:=f0 {} (((base.add UZ).add asx).add J6) Tryz.func158
def agP:bn:=aM [pf jY,pI] [rI] (c2 Pu.gr)
theorem amM:cV 159 agP:=f0 {merge:=mg [(1,15)]} ((base.add xg).add o83) Tryz.func159
def ao7:bn:=aM [pf iZ] [rI] (c1 Pu.sT)
theorem asy:cV 229 ao7:=f0 {} ((base.add UY).add aen) Tryz.func229
def apn:bn:=aM [pd (.sl bW),pI,pI,pd .bool] [rI] (c4 Pu.Ci)
theorem axB:cV 284 apn:=f0 {merge:=mg [(4,29)]} (base.add asb) Tryz.func284
def agQ:bn:=aM [pf (.sl .str),pI,pI] [rB] (c3 Pu.uz)
theorem amV:cV 285 agQ:=f0 {merge:=mg [(2,6)]} (base.add o79) Tryz.func285
def ajD:bn:=aM [pd (.sl bW),pf (.sl .str),pI,pI,pI,pd .bool] [(false,(.sl (.own none) iI)),rB] (c6 Pu.xM)
def avx:dK:=((((dK.nil.add 23 Ny).add 79 e79).add 80 e80).add 284 apn).add 285 agQ
def arC:An:={mask:=mk [(8,[0,2,3,4,5,7,12,13,14])],merge:=mg [(1,29),(11,55),(16,73)],mv:=[56,74]}
abbrev Lb:SD:=⟨.data false (.sl .arg bW)::B::DI::DI::DI::DB::B::.ptr 7 0::bs 4 (.data false (cS 147456 iI)::DB::.data false (cS 172032 iI)::bs 60 []),zs 7 ((oR (.sl .arg .str))::zs 67 []),.none⟩
def afL (X:SD.D Lb)(K:gH R):=Pu.qL (λy0 y1 y2=>ke 0 K Lb ((z2 (w y0 (w y1 (z3 (u y2)))) X.1),X.2)) (λy0 y1 y2 y3 y4=>kr K Lb ((z2 (w y0 (w y1 (z1 (w y2 (w y3 (u y4)))))) X.1),X.2)) X.1.1 X.1.2.1 (q4 X) (q5 X) (q6 X) X.2.1.1
def alP:da:=iv Lb afL (λX=>(q2 X,q3 X,q7 X))
def anJ:dY:=dY.nil.add 8 alP
theorem akw:ia E avx arC anJ (aY Tryz.f225 0):=lk Lb afL (λX=>(q2 X,q3 X,q7 X)) λX x=>((z2 (w x.1 (w x.2.1 (z3 (u x.2.2)))) X.1),X.2)
theorem asw:cV 225 ajD:=fk arC (((((base.add xg).add o79).add o80).add axB).add amV) Tryz.func225 (Λ:=anJ) (cF akw nF)
def ao5:bn:=aM [pf (.sl .str),pI,pd .str] [(true,(.sl (.own none) .str)),rB] (c3 Pu.rJ)
def avy:dK:=(dK.nil.add 138 S0).add 285 agQ
def arD:An:={mask:=mk [(4,[1,2,6,8])],nest:=[33],mv:=[19,49]}
abbrev Qy:SD:=⟨B::DI::.data false .str::B::B::B::.ptr 6 0::B::.ptr 8 0::bs 41 [],zs 6 ((oR (cS 73729 .str))::Z::(oR (cS 98305 .str))::zs 41 []),.none⟩
def afM (X:SD.D Qy)(K:gH R):=Pu.mX (λy0 y1 y2=>ke 0 K Qy ((w y0 (u y1) X.1),(z1 (u y2) X.2.1),X.2.2)) X.2.1.1
def alQ:da:=iv Qy afM (λX=>(X.1.1,X.1.2.1,X.2.1.2.1))
def anK:dY:=dY.nil.add 4 alQ
theorem akx:ia E avy arD anK (aY Tryz.f226 0):=lk Qy afM (λX=>(X.1.1,X.1.2.1,X.2.1.2.1)) λX x=>((w x.1 (u x.2.1) X.1),(z1 (u x.2.2) X.2.1),X.2.2)
theorem aw4:cV 226 ao5:=fk arD ((base.add Mr).add amV) Tryz.func226 (Λ:=anK) (cF akx nF)
def atu:bn:=aM [pd (.sl bW),pf (.sl .str),pI,pI,pd .str,pd .bool] [(true,(.sl (.own none) .str)),rB] (c6 Pu.DA)
def avk:dK:=((dK.nil.add 138 S0).add 225 ajD).add 226 ao5
def arn:An:={mask:=mk [(6,[4,12,14,35,36,37])],mv:=[34,41,50,57],sb:=mg [(14,14)]}
abbrev Qh:SD:=⟨bs 4 (.data false .str::bs 7 (.ptr 12 0::B::.ptr 14 0::bs 20 (.data false (.sl .loc iI)::DI::DI::bs 20 []))),zs 12 ((oR (cS 147457 .str))::Z::(oR (cS 172033 .str))::zs 43 []),.none⟩
def afr (X:SD.D Qh)(K:gH R):=Pu.xL (λy0 y1 y2=>ke 0 K Qh ((w y0 (z2 (u y1)) X.1),(z1 (u y2) X.2.1),X.2.2)) X.1.2.1 (q2 X) X.2.1.1
def alv:da:=iv Qh afr (λX=>(X.1.1,q3 X,X.2.1.2.1))
def anu:dY:=dY.nil.add 6 alv
theorem akc:ia E avk arn anu (aY Tryz.f157 0):=lk Qh afr (λX=>(X.1.1,q3 X,X.2.1.2.1)) λX x=>((w x.1 (z2 (u x.2.1)) X.1),(z1 (u x.2.2) X.2.1),X.2.2)
theorem ash:cV 157 atu:=fk arn (((base.add Mr).add asw).add aw4) Tryz.func157 (Λ:=anu) (cF akc nF)
def at1:bn:=aM [pd (.sl bW),pf (.sl .str),pI,pI,pd .str] [(true,(.sl (.own none) .str)),rB] (c5 Pu.pJ)
theorem amS:cV 230 at1:=f0 {} (base.add ash) Tryz.func230
def at2:bn:=aM [pf iZ,pI] [rI] (c2 Pu.nw)
theorem asz:cV 231 at2:=f0 {merge:=mg [(1,11)]} (base.add UY) Tryz.func231
def ajz:bn:=aM [pd (.sl bW),pf (.sl .str),pI,pf iZ,pd .str] [(true,(.sl (.own none) .str)),(true,Y0),rB] (c5 Pu.vm)
theorem asi:cV 160 ajz:=f0 {merge:=mg [(1,22)],mv:=[26,36,40,50],mb:=mg [(40,13),(50,13)],sb:=mg [(10,10),(11,11),(13,13)]} ((((base.add Mr).add asy).add amS).add asz) Tryz.func160
def e97:bn:=aM [pd (.sl bW),pf (.sl .str),pI,pf iZ,pf jY] [(true,(.sl (.own none) .str)),(true,Y0),(true,Y10),rI] (c5 Pu.iE)
def g97:dK:=(((((((dK.nil.add 71 e71).add 83 e83).add 138 S0).add 141 agM).add 146 agN).add 158 ajy).add 159 agP).add 160 ajz
def n97:An:={mask:=mk [(6,[0,2,8,9,10,11,12,14,15,16,39,40,41])],merge:=mg [(2,34)],mv:=[35,37,53,65,76,78],mb:=mg [(35,14),(37,15),(65,20),(76,14),(78,15)],sb:=mg [(8,8),(10,10),(11,11),(12,12),(14,14),(15,15)]}
abbrev YX:SD:=⟨.data false (.sl .arg bW)::B::DI::bs 5 (.ptr 8 0::.ptr 9 0::.ptr 10 0::.ptr 11 0::.ptr 12 0::B::.ptr 14 0::.ptr 15 0::DI::bs 22 (.data false (.sl .arg (.int .i64))::DI::DI::bs 38 [])),zs 8 ((some Y0)::(some Y15)::(oR (cS 122881 .str))::(some Y0)::(some Y28)::Z::(oR (cS 172033 .str))::(some Y27)::zs 64 []),.none⟩
def ai4 (X:SD.D YX)(K:gH R):=Pu.nn (λy0 y1 y2 y3=>ke 0 K YX ((z2 (w y0 (z2 (u y1))) X.1),(w y2 (z4 (u y3)) X.2.1),X.2.2)) X.1.1 X.1.2.1 (q3 X) (q4 X) X.2.1.2.1 X.2.1.2.2.1 X.2.1.2.2.2.1 X.2.1.2.2.2.2.1 X.2.1.2.2.2.2.2.2.1
def aq4:da:=iv YX ai4 (λX=>(q2 X,q5 X,X.2.1.1,X.2.1.2.2.2.2.2.1))
def L97:dY:=dY.nil.add 6 aq4
theorem aqt:ia E g97 n97 L97 (aY Tryz.f97 0):=lk YX ai4 (λX=>(q2 X,q5 X,X.2.1.1,X.2.1.2.2.2.2.2.1)) λX x=>((z2 (w x.1 (z2 (u x.2.1))) X.1),(w x.2.2.1 (z4 (u x.2.2.2)) X.2.1),X.2.2)
theorem o97:cV 97 e97:=fk n97 ((((((((base.add o71).add o83).add Mr).add abL).add UY).add amL).add amM).add asi) Tryz.func97 (Λ:=L97) (cF aqt nF)
def auH:bn:=aM [pd .str,pI] [rI] (c2 Pu.fI)
theorem XL:cV 291 auH:=f0 {merge:=mg [(1,13)]} base Tryz.func291
def auI:bn:=aM [pf aae] [rB] (c1 Pu.zS)
theorem asQ:cV 292 auI:=f0 {merge:=mg [(1,2)]} (base.add xg) Tryz.func292
def at4:bn:=aM [pd .str] [(true,(.pair (.int .i64) Y21)),rB] (c1 Pu.sR)
theorem asB:cV 234 at4:=f0 {merge:=mg [(4,33)],sb:=mg [(4,4)]} (((base.add XK).add XL).add asQ) Tryz.func234
def apA:bn:=aM [pI,pI] [rI] (c2 Pu.yv)
theorem ax7:cV 331 apA:=f0 {merge:=mg [(1,12)]} (base.add xg) Tryz.func331
def auZ:bn:=aM [pd .str] [rI] (c1 Pu.xe)
def avS:dK:=dK.nil.add 331 apA
def arY:An:={mask:=mk [(3,[0,3,4])]}
abbrev QO:SD:=⟨.data false .str::B::B::DI::DI::bs 28 [],zs 33 [],.none⟩
def aga (X:SD.D QO)(K:gH R):=Pu.rD (λy0 y1=>ke 0 K QO ((z1 (w y0 (u y1)) X.1),X.2)) X.1.1
def ame:da:=iv QO aga (λX=>(X.1.2.1,q2 X))
def an5:dY:=dY.nil.add 3 ame
theorem akV:ia E avS arY an5 (aY Tryz.f319 0):=lk QO aga (λX=>(X.1.2.1,q2 X)) λX x=>((z1 (w x.1 (u x.2)) X.1),X.2)
theorem axW:cV 319 auZ:=fk arY (base.add ax7) Tryz.func319 (Λ:=an5) (cF akV nF)
def auL:bn:=aM [pd .str] [rI] (c1 Pu.jt)
theorem amW:cV 295 auL:=f0 {} (base.add axW) Tryz.func295
def auM:bn:=aM [pd .str,pI,pd .str] [rS] (c3 Pu.ga)
theorem ahK:cV 296 auM:=f0 {merge:=mg [(1,17)]} base Tryz.func296
def au0:bn:=aM [pf TIp] [rB] (c1 Pu.H7)
theorem axX:cV 320 au0:=f0 {merge:=mg [(1,2)]} (base.add xg) Tryz.func320
def auO:bn:=aM [pf TIp] [rS,rB] (c1 Pu.wZ)
theorem axI:cV 298 auO:=f0 {} (((((base.add UZ).add J6).add amW).add ahK).add axX) Tryz.func298
def at8:bn:=aM [pf TIp] [rS,rB] (c1 Pu.uU)
theorem asD:cV 238 at8:=f0 {} (base.add axI) Tryz.func238
def at5:bn:=aM [pd .str] [(true,Y24),rB] (c1 Pu.yA)
theorem aw6:cV 235 at5:=f0 {merge:=mg [(2,22),(6,56)],sb:=mg [(5,5)]} (((base.add XK).add asD).add XL) Tryz.func235
def auJ:bn:=aM [pf zy] [rS] (c1 Pu.rK)
theorem axH:cV 293 auJ:=f0 {} ((base.add UZ).add J6) Tryz.func293
def auK:bn:=aM [pI,pI,pI,pI] [rS,rB] (c4 Pu.qh)
theorem asR:cV 294 auK:=f0 {merge:=mg [(1,27)]} (((base.add xg).add UZ).add J6) Tryz.func294
def auN:bn:=aM [pI] [rI] (c1 Pu.fN)
theorem amX:cV 297 auN:=f0 {} base Tryz.func297
def at7:bn:=aM [pI,pI,pf zy] [rS,rB] (c3 Pu.jK)
theorem asC:cV 237 at7:=f0 {merge:=mg [(8,39)]} (((((((base.add ass).add J6).add axH).add asR).add amW).add ahK).add amX) Tryz.func237
def at6:bn:=aM [pI,pI,pI,pd .str] [(true,(.pair (.int .i64) Y24)),rB] (c4 Pu.qg)
theorem aw7:cV 236 at6:=f0 {merge:=mg [(3,20),(9,44),(12,68)]} (((base.add XK).add asC).add XL) Tryz.func236
def aoC:bn:=aM [pd .str] [(true,Y1),rI] (c1 Pu.iO)
theorem ahH:cV 164 aoC:=f0 {merge:=mg [(2,20)]} ((((base.add J5).add asB).add aw6).add aw7) Tryz.func164
def apm:bn:=aM [pf (.sl .str),pI,pI] [rS,rB] (c3 Pu.pc)
def avI:dK:=dK.nil.add 285 agQ
def arO:An:={mask:=mk [(4,[1,2,3,8])],mv:=[41]}
abbrev QH:SD:=⟨B::DI::DI::.ptr 3 0::bs 4 (.data false (cS 98304 (.int .u8))::bs 41 []),Z::Z::Z::(oR (.sl .arg .str))::zs 46 [],.none⟩
def afY (X:SD.D QH)(K:gH R):=Pu.kX (λy0 y1=>ke 0 K QH ((w y0 (z1 (u y1)) X.1),X.2)) X.1.2.1 X.2.1.1
def al2:da:=iv QH afY (λX=>(X.1.1,q2 X))
def anV:dY:=dY.nil.add 4 al2
theorem akJ:ia E avI arO anV (aY Tryz.f282 0):=lk QH afY (λX=>(X.1.1,q2 X)) λX x=>((w x.1 (z1 (u x.2)) X.1),X.2)
theorem axz:cV 282 apm:=fk arO (base.add amV) Tryz.func282 (Λ:=anV) (cF akJ nF)
def ajC:bn:=aM [pd (.sl bW),pf (.sl .str),pI,pI,pI] [rS,rB] (c5 Pu.ot)
def avw:dK:=(dK.nil.add 225 ajD).add 282 apm
def arB:An:={mask:=mk [(6,[6,14,30,31,32])]}
abbrev Qx:SD:=⟨bs 6 (.ptr 6 0::bs 7 (.data false .str::bs 15 (.data false (.sl .loc iI)::DI::DI::bs 17 []))),zs 6 ((oR (.sl .arg .str))::zs 43 []),.none⟩
def afK (X:SD.D Qx)(K:gH R):=Pu.tA (λy0 y1=>ke 0 K Qx ((w y0 (z2 (u y1)) X.1),X.2)) X.1.2.1 (q2 X) X.2.1.1
def alO:da:=iv Qx afK (λX=>(X.1.1,q3 X))
def anI:dY:=dY.nil.add 6 alO
theorem akv:ia E avw arB anI (aY Tryz.f223 0):=lk Qx afK (λX=>(X.1.1,q3 X)) λX x=>((w x.1 (z2 (u x.2)) X.1),X.2)
theorem ahI:cV 223 ajC:=fk arB ((base.add asw).add axz) Tryz.func223 (Λ:=anI) (cF akv nF)
def auy:bn:=aM [pf iB] [rI] (c1 Pu.nC)
theorem asO:cV 279 auy:=f0 {} base Tryz.func279
def auz:bn:=aM [pd .str] [(true,(.pair (.int .i64) Y0)),rI,rB] (c1 Pu.ln)
theorem axy:cV 280 auz:=f0 {} ((base.add XK).add XL) Tryz.func280
def auA:bn:=aM [pf iB] [rI] (c1 Pu.vz)
theorem asP:cV 281 auA:=f0 {} base Tryz.func281
def ao3:bn:=aM [pd (.sl bW),pf (.sl .str),pI,pf iB] [(true,(.pair (.int .i64) Y0)),(true,Y8),rB] (c4 Pu.mT)
theorem aw2:cV 222 ao3:=f0 {merge:=mg [(7,46)],sb:=mg [(8,8),(9,9)]} (((((base.add amK).add ahI).add asO).add axy).add asP) Tryz.func222
def aud:bn:=aM [pf dg] [(true,(.pair (.int .i64) Y0))] (c1 Pu.uy)
theorem amT:cV 249 aud:=f0 {} base Tryz.func249
def auB:bn:=aM [pd (.sl fB),pf sm] [rI] (c2 Pu.rC)
def avJ:dK:=dK.nil
def arP:An:={mask:=mk [(2,[3,4,7,8,9])]}
abbrev Lg:SD:=⟨B::B::B::.ptr 3 0::DI::B::B::.data false (.sl .arg fB)::DI::DI::bs 10 [],Z::Z::Z::(oR (cJ CK Y0))::zs 16 [],.none⟩
def afZ (X:SD.D Lg)(K:gH R):=Pu.mV (λy0=>ke 0 K Lg ((z3 (u y0) X.1),X.2)) (λy0 y1=>kr K Lg ((w y0 (z2 (u y1)) X.1),X.2)) X.1.1 X.1.2.1 (q2 X) X.2.1.1
def al3:da:=iv Lg afZ q3
def anW:dY:=dY.nil.add 2 al3
theorem akK:ia E avJ arP anW (aY Tryz.f283 0):=lk Lg afZ q3 λX x=>((z3 (u x) X.1),X.2)
theorem axA:cV 283 auB:=fk arP base Tryz.func283 (Λ:=anW) (cF akK nF)
def ao4:bn:=aM [pd (.sl fB),pf dg] [(false,(.sl (.own none) fB))] (c2 Pu.yx)
theorem aw3:cV 224 ao4:=f0 {merge:=mg [(17,82)],mv:=[16,31,51,58,67,83,132],er:=mg [(115,5)]} ((((((base.add amI).add J5).add J6).add amT).add ahJ).add axA) Tryz.func224
def ats:bn:=aM [pd (.sl bW),pf (.sl .str),pI,pf eS,pf jY,pd (.sl fB),pI] [(true,(.sl (.own none) .str)),(true,Y17),(true,Y10),(false,(.sl (.own none) fB)),rI] (c7 Pu.vj)
def avi:dK:=((((((((((((dK.nil.add 23 Ny).add 82 e82).add 83 e83).add 97 e97).add 138 S0).add 141 agM).add 143 ajv).add 147 agO).add 159 agP).add 164 aoC).add 222 ao3).add 223 ajC).add 224 ao4
def ark:An:={mask:=mk [(5,[0,2,6,10,14,15,16,19,20,21,22])],merge:=mg [(2,48)],mv:=[49,51,52,96,104,117,119,120],mb:=mg [(49,19),(51,20),(117,19),(119,20)],sb:=mg [(14,14),(15,15),(16,16),(19,19),(20,20)]}
abbrev Qf:SD:=⟨.data false (.sl .arg bW)::B::DI::B::B::B::DI::B::B::B::.ptr 10 0::B::B::B::.ptr 14 0::.ptr 15 0::.ptr 16 0::B::B::.ptr 19 0::.ptr 20 0::.data false (cS 258048 fB)::DI::bs 99 [],zs 10 ((some Y17)::Z::Z::Z::(oR (cS 172033 .str))::(some Y17)::(oR (jJ (jJ (jJ (cS 196618 (.int .i64))))))::Z::Z::(oR (cS 233473 .str))::(oR (jJ (jJ (jJ (cS 245770 (.int .i64))))))::zs 101 []),.none⟩
def afp (X:SD.D Qf)(K:gH R):=Pu.mf (λy0 y1 y2 y3=>ke 0 K Qf ((z3 (w y0 (u y1)) X.1),(w y2 (z4 (u y3)) X.2.1),X.2.2)) X.1.1 X.1.2.1 (q2 X) X.2.1.2.1 X.2.1.2.2.1 X.2.1.2.2.2.1 X.2.1.2.2.2.2.1
def als:da:=iv Qf afp (λX=>(q3 X,q4 X,X.2.1.1,X.2.1.2.2.2.2.2.1))
def ans:dY:=dY.nil.add 5 als
theorem aka:ia E avi ark ans (aY Tryz.f155 0):=lk Qf afp (λX=>(q3 X,q4 X,X.2.1.1,X.2.1.2.2.2.2.2.1)) λX x=>((z3 (w x.1 (u x.2.1)) X.1),(w x.2.2.1 (z4 (u x.2.2.2)) X.2.1),X.2.2)
theorem awq:cV 155 ats:=fk ark (((((((((((((base.add xg).add o82).add o83).add o97).add Mr).add abL).add amI).add amJ).add amM).add ahH).add aw2).add ahI).add aw3) Tryz.func155 (Λ:=ans) (cF aka nF)
def e91:bn:=jS (.pair (.sl (.own none) .str) (.pair (.sl (.own none) bW) (.pair (.pair (.pair (.int .i64) (.pair (.int .i64) (.pair (.int .i64) (.int .i64)))) (.pair (.pair (.int .i64) (.pair (.int .i64) (.pair (.int .i64) (.sl (.own none) (.int .i64))))) (.pair (.sl (.own none) jZ) (.int .i64)))) (.pair (.sl (.own none) eS) (.pair (.sl (.own none) jY) (.pair (.sl (.own none) gI) (.pair (.sl (.own none) .bool) (.pair (.pair (.int .i64) (.pair .bool (.sl (.own none) (.int .i64)))) (.pair (.pair (.sl (.own none) lO) (.pair (.sl (.own none) jm) (.pair .str (.sl (.own none) (.int .i64))))) (.pair (.sl (.own none) fB) (.pair .bool (.pair (.sl (.own none) .str) (.pair (.sl (.own none) (.int .i64)) (.pair (.sl (.own none) (.int .i64)) (.pair (.int .i64) (.pair (.int .i64) (.pair (.int .i64) (.pair (.int .i64) (.int .i64))))))))))))))))))) [pI,pI] [rI] λx a=>Pu.kC x a.1 a.2.1
theorem o91:cV 91 e91:=iH.qR (qA (an:={mv:=[8,49,51,52],sb:=mg [(55,0),(59,0)],fm:=[19,20],eb:=mg [(56,0),(57,0)]}) (Λ:=dY.nil) (base.add awq) Tryz.func91 (by kernel_rfl) (ao nF)) (λx a=>by kernel_rfl)
def att:bn:=aM [pI,pI,pI] [(true,Y10),rB] (c3 Pu.vi)
def avj:dK:=dK.nil.add 83 e83
def arl:An:={mask:=mk [(5,[2,6,8,9])],mv:=[24,29]}
abbrev Qg:SD:=⟨B::B::DI::B::B::B::.ptr 6 0::B::.ptr 8 0::DI::bs 20 [],zs 6 ((some Y30)::Z::(some Y29)::zs 21 []),.none⟩
def afq (X:SD.D Qg)(K:gH R):=Pu.tC (λy0 y1=>ke 0 K Qg ((z1 (u y0) X.1),(z1 (u y1) X.2.1),X.2.2)) X.1.1 X.2.1.1
def alu:da:=iv Qg afq (λX=>(X.1.2.1,X.2.1.2.1))
def ant:dY:=dY.nil.add 5 alu
theorem akb:ia E avj arl ant (aY Tryz.f156 0):=lk Qg afq (λX=>(X.1.2.1,X.2.1.2.1)) λX x=>((z1 (u x.1) X.1),(z1 (u x.2) X.2.1),X.2.2)
theorem asg:cV 156 att:=fk arl (base.add o83) Tryz.func156 (Λ:=ant) (cF akb nF)
def e92:bn:=aM [] [(true,Y22)] λa=>Pu.Ch
theorem o92:cV 92 e92:=f0 {mv:=[3,8]} (base.add asg) Tryz.func92
def e93:bn:=aM [pd (.sl bW),pf (.sl .str),pI,pI,pd .str] [(true,(.sl (.own none) .str)),rB] (c5 Pu.jG)
theorem o93:cV 93 e93:=f0 {} (base.add ash) Tryz.func93
def e94:bn:=aM [pI] [rI] (c1 Pu.qM)
theorem o94:cV 94 e94:=f0 {} base Tryz.func94
def e95:bn:=aM [pd (.int .u8),pI] [rS] (c2 Pu.oc)
def g95:dK:=dK.nil
def n95:An:={mask:=mk [(3,[0,5,10,11])]}
abbrev YW:SD:=⟨.data false (.int .u8)::bs 4 (.data false (cS 61440 (.int .u8))::bs 4 (DI::DI::bs 9 [])),zs 21 [],.none⟩
def ai3 (X:SD.D YW)(K:gH R):=Pu.vA (λy0 y1=>ke 0 K YW ((z1 (w y0 (z1 (u y1))) X.1),X.2)) X.1.1 (q2 X)
def aq3:da:=iv YW ai3 (λX=>(X.1.2.1,q3 X))
def L95:dY:=dY.nil.add 3 aq3
theorem aqs:ia E g95 n95 L95 (aY Tryz.f95 0):=lk YW ai3 (λX=>(X.1.2.1,q3 X)) λX x=>((z1 (w x.1 (z1 (u x.2))) X.1),X.2)
theorem o95:cV 95 e95:=fk n95 base Tryz.func95 (Λ:=L95) (cF aqs nF)
def e96:bn:=aM [pI] [(true,Y17),(true,Y10)] (c1 Pu.wk)
theorem o96:cV 96 e96:=f0 {mv:=[10,24],mb:=mg [(24,5)],sb:=mg [(2,2),(3,3)]} ((base.add o94).add asg) Tryz.func96
def e39:bn:=aM [pf dD] [(true,Y2)] (c1 Pu.qG)
def g39:dK:=((((((((dK.nil.add 30 e30).add 73 e73).add 91 e91).add 92 e92).add 93 e93).add 94 e94).add 95 e95).add 96 e96).add 97 e97
def n39:An:={mask:=mk [(5,[2,3,21,22]),(10,[2,3,30,31,32]),(18,[2,3,54,55])],mv:=[18,37,88,98,121,142],sb:=mg [(90,3)]}
abbrev YL:SD:=⟨B::B::.ptr 2 0::.ptr 3 0::bs 17 (DI::DI::bs 120 []),Z::Z::(some Y3)::(some Y4)::zs 139 [],.none⟩
def aiJ (X:SD.D YL)(K:gH R):=Pu.qe (λy0 y1=>ke 0 K YL ((z1 (u y0) X.1),(z1 (u y1) X.2.1),X.2.2)) X.1.1 X.2.1.1
def aqJ:da:=iv YL aiJ (λX=>(X.1.2.1,X.2.1.2.1))
abbrev QS:SD:=⟨B::B::.ptr 2 0::.ptr 3 0::bs 26 (.data false (.sl .loc jZ)::DI::DI::bs 110 []),Z::Z::(some Y3)::(some Y4)::zs 139 [],.none⟩
def agh (X:SD.D QS)(K:gH R):=Pu.ov (λy0 y1=>ke 2 K QS ((z2 (u y0) X.1),(z1 (u y1) X.2.1),X.2.2)) X.1.1 X.1.2.1 X.2.1.1
def amk:da:=iv QS agh (λX=>(q2 X,X.2.1.2.1))
abbrev QT:SD:=⟨B::B::.ptr 2 0::.ptr 3 0::bs 50 (DI::DI::bs 87 []),Z::Z::(some Y3)::(some Y4)::zs 139 [],.none⟩
def agi (X:SD.D QT)(K:gH R):=Pu.kW (λy0 y1=>ke 4 K QT ((z1 (u y0) X.1),(z1 (u y1) X.2.1),X.2.2)) X.1.1 X.2.1.1
def aml:da:=iv QT agi (λX=>(X.1.2.1,X.2.1.2.1))
def L39:dY:=((dY.nil.add 5 aqJ).add 10 amk).add 18 aml
theorem ap8:ia E g39 n39 L39 (aY Tryz.f39 0):=lk YL aiJ (λX=>(X.1.2.1,X.2.1.2.1)) λX x=>((z1 (u x.1) X.1),(z1 (u x.2) X.2.1),X.2.2)
theorem ak1:ia E g39 n39 L39 (aY Tryz.f39 1):=lk QS agh (λX=>(q2 X,X.2.1.2.1)) λX x=>((z2 (u x.1) X.1),(z1 (u x.2) X.2.1),X.2.2)
theorem ak2:ia E g39 n39 L39 (aY Tryz.f39 2):=lk QT agi (λX=>(X.1.2.1,X.2.1.2.1)) λX x=>((z1 (u x.1) X.1),(z1 (u x.2) X.2.1),X.2.2)
theorem o39:cV 39 e39:=fk n39 (((((((((base.add o30).add o73).add o91).add o92).add o93).add o94).add o95).add o96).add o97) Tryz.func39 (Λ:=L39) (cF ap8 (cF ak1 (cF ak2 nF)))
def apf:bn:=aM [pd (.sl bW),pf (.sl .str),pI,pf iZ] [rS,(true,Y0),rB] (c4 Pu.sU)
theorem asH:cV 256 apf:=f0 {merge:=mg [(1,20)],sb:=mg [(9,9)]} ((((base.add UY).add aen).add ahI).add asz) Tryz.func256
def apq:bn:=aM [pd .str] [(true,(.pair (.int .i64) (.pair (.int .i64) Y0))),rB] (c1 Pu.oX)
theorem asU:cV 305 apq:=f0 {sb:=mg [(4,4)]} (((base.add XK).add amL).add XL) Tryz.func305
def auC:bn:=aM [pd (.sl bW),pf (.sl .str),pI,pf iZ] [(false,(.sl (.own none) ng)),(true,Y0),rB] (c4 Pu.vp)
def avK:dK:=(((dK.nil.add 146 agN).add 215 aoY).add 256 apf).add 305 apq
def arQ:An:={mask:=mk [(6,[0,2,5,7,8,9,10,11,12])],merge:=mg [(1,24),(15,67)],mv:=[55,68],sb:=mg [(9,9)]}
abbrev Lh:SD:=⟨.data false (.sl .arg bW)::B::DI::B::B::.ptr 5 0::B::.ptr 7 0::.data false (cS 98304 ng)::.ptr 9 0::DB::.ptr 11 0::.data false (cS 147456 ng)::bs 57 [],zs 5 ((oR (.sl .arg .str))::Z::(some Y0)::Z::(some Y0)::Z::(some Y0)::zs 58 []),.none⟩
def af0 (X:SD.D Lh)(K:gH R):=Pu.mj (λy0 y1=>ke 0 K Lh ((z4 (u y0) X.1),(z1 (u y1) X.2.1),X.2.2)) (λy0 y1 y2 y3 y4=>kr K Lh ((z2 (w y0 (w y1 (u y2))) X.1),(z1 (w y3 (u y4)) X.2.1),X.2.2)) X.1.1 X.1.2.1 (q2 X) (q3 X) X.2.1.1 X.2.1.2.2.1 X.2.1.2.2.2.1
def al4:da:=iv Lh af0 (λX=>(q4 X,X.2.1.2.1))
def anX:dY:=dY.nil.add 6 al4
theorem akL:ia E avK arQ anX (aY Tryz.f286 0):=lk Lh af0 (λX=>(q4 X,X.2.1.2.1)) λX x=>((z4 (u x.1) X.1),(z1 (u x.2) X.2.1),X.2.2)
theorem axC:cV 286 auC:=fk arQ ((((base.add UY).add aen).add asH).add asU) Tryz.func286 (Λ:=anX) (cF akL nF)
def ajH:bn:=aM [pd (.sl iI)] [rB] (c1 Pu.sS)
def avM:dK:=dK.nil.add 23 Ny
def arS:An:={mask:=mk [(2,[0,2,5,6,7])],merge:=mg [(4,19)]}
abbrev Lj:SD:=⟨.data false (.sl .arg iI)::B::DB::B::B::.data false (.sl .arg iI)::DI::DI::bs 16 [],zs 24 [],.none⟩
def af3 (X:SD.D Lj)(K:gH R):=Pu.rr (λy0=>ke 0 K Lj ((z4 (u y0) X.1),X.2)) (λy0 y1=>kr K Lj ((z1 (w y0 (z2 (u y1))) X.1),X.2)) X.1.1 X.1.2.1 (q2 X) (q3 X)
def al7:da:=iv Lj af3 q4
def anZ:dY:=dY.nil.add 2 al7
theorem akO:ia E avM arS anZ (aY Tryz.f301 0):=lk Lj af3 q4 λX x=>((z4 (u x) X.1),X.2)
theorem asT:cV 301 ajH:=fk arS (base.add xg) Tryz.func301 (Λ:=anZ) (cF akO nF)
def ajE:bn:=Dj [pd (.sl iI),pI,pI] [(false,(.sl (.own none) ng))] [(false,(.sl .nil ng))] rfl λa=>Pu.iR a.1 a.2.1 a.2.2.1
def ajM:dK:=((dK.nil.add 23 Ny).add 227 ao6).add 301 ajH
def amA:An:={mask:=mk [(5,[0,2,7,30,31,32]),(13,[6,7,54,55,56])],merge:=mg [(1,25)],nils:=[6],mv:=[49,64]}
abbrev QB:SD:=⟨.data false (.sl .arg iI)::B::DI::bs 4 (.data false (cS 86016 ng)::bs 22 (.data false (.sl .arg iI)::DI::DI::bs 32 [])),zs 65 [],.none⟩
def afP (X:SD.D QB)(K:gH R):=Pu.km (λy0 y1=>ke 0 K QB ((z2 (w y0 (z2 (u y1))) X.1),X.2)) X.1.1 X.1.2.1 (q3 X) (q4 X)
def alT:da:=iv QB afP (λX=>(q2 X,q5 X))
abbrev Kh:SD:=⟨bs 7 (.data false (cS 86016 ng)::bs 46 (.data false (.sl .loc ng)::DI::DI::bs 8 [])),zs 65 [],.none⟩
abbrev Wy:SD:=⟨bs 6 (.data false (.sl .nil ng)::.data false (cS 86016 ng)::bs 46 (.data false (.sl .loc ng)::DI::DI::bs 8 [])),zs 65 [],.none⟩
def Z6 (X:SD.D Kh)(K:gH R):=Pu.jM (λy0=>ke 2 K Kh ((z3 (u y0) X.1),X.2)) (λy0 y1=>kr K Wy ((y0,(X.1.1,(X.1.2.1,(X.1.2.2.1,(y1,()))))),(),())) X.1.1 X.1.2.1 (q2 X)
def ahy:da:=iv Kh Z6 q3
def ajh:dY:=(dY.nil.add 5 alT).add 13 ahy
theorem akA:ia E ajM amA ajh (aY Tryz.f245 0):=lk QB afP (λX=>(q2 X,q5 X)) λX x=>((z2 (w x.1 (z2 (u x.2))) X.1),X.2)
theorem ahp:ia E ajM amA ajh (aY Tryz.f245 1):=lk Kh Z6 q3 λX x=>((z3 (u x) X.1),X.2)
theorem asF:cV 245 ajE:=iH.ofAlt (ady (Γ:=ajM) (an:=amA) (Λ:=ajh) (by rfl) (((base.add xg).add asx).add asT) Tryz.func245 (by kernel_rfl) (ao (cF akA (cF ahp nF)))) (λa=>by kernel_rfl)
def auD:bn:=aM [pd (.sl ng)] [(false,(.sl (.own none) iI)),rI,rI,rB] (c1 Pu.ox)
def apR:dK:=dK.nil.add 245 ajE
def amB:An:={mask:=mk [(5,[0,6,18,19,20]),(14,[0,2,3,4,5,6,9,10,11,51,52])],mv:=[24,65]}
abbrev QI:SD:=⟨.data false (.sl .arg ng)::bs 5 (.data false (cS 73728 iI)::bs 11 (.data false (.sl .arg ng)::DI::DI::bs 47 [])),zs 68 [],.none⟩
def af1 (X:SD.D QI)(K:gH R):=Pu.lq (λy0 y1=>ke 0 K QI ((z1 (w y0 (z2 (u y1))) X.1),X.2)) X.1.1 (q2 X) (q3 X)
def al5:da:=iv QI af1 (λX=>(X.1.2.1,q4 X))
abbrev Ki:SD:=⟨.data false (.sl .arg ng)::bs 5 (.data false (cS 73728 iI)::B::B::DI::DI::.data false (cS 135168 ng)::bs 39 (DI::DI::bs 15 [])),zs 68 [],.none⟩
abbrev Wz:SD:=⟨.data false (.sl .arg ng)::B::.data false (cS 24576 iI)::DI::DI::DB::.data false (cS 73728 iI)::B::B::DI::DI::.data false (cS 135168 ng)::bs 39 (DI::DI::bs 15 []),zs 68 [],.none⟩
def Z7 (X:SD.D Ki)(K:gH R):=Pu.gQ (λy0=>ke 2 K Ki ((z6 (u y0) X.1),X.2)) (λy0 y1 y2 y3 y4=>kr K Wz ((X.1.1,(y0,(y1,(y2,(y3,(X.1.2.1,(X.1.2.2.1,(X.1.2.2.2.1,(X.1.2.2.2.2.1,(X.1.2.2.2.2.2.1,(y4,()))))))))))),(),())) X.1.1 X.1.2.1 (q2 X) (q3 X) (q4 X) (q5 X)
def ahz:da:=iv Ki Z7 q6
def aji:dY:=(dY.nil.add 5 al5).add 14 ahz
theorem akM:ia E apR amB aji (aY Tryz.f287 0):=lk QI af1 (λX=>(X.1.2.1,q4 X)) λX x=>((z1 (w x.1 (z2 (u x.2))) X.1),X.2)
theorem ahq:ia E apR amB aji (aY Tryz.f287 1):=lk Ki Z7 q6 λX x=>((z6 (u x) X.1),X.2)
theorem axD:cV 287 auD:=fk amB (base.add asF) Tryz.func287 (Λ:=aji) (cF akM (cF ahq nF))
def auE:bn:=aM [pd (.sl bW),pf (.sl .str),pI,pd (.sl iI)] [rS,rB] (c4 Pu.qb)
def avL:dK:=(dK.nil.add 223 ajC).add 301 ajH
def arR:An:={mask:=mk [(5,[0,2,5,8,9,10,18,19,20])]}
abbrev Li:SD:=⟨.data false (.sl .arg bW)::B::DI::B::B::.ptr 5 0::B::B::.data false .str::DB::.data false .str::bs 7 (.data false (.sl .arg iI)::DI::DI::bs 21 []),zs 5 ((oR (.sl .arg .str))::zs 36 []),.none⟩
def af2 (X:SD.D Li)(K:gH R):=Pu.md (λy0 y1=>ke 0 K Li ((z4 (w y0 (z2 (u y1))) X.1),X.2)) (λy0 y1 y2 y3=>kr K Li ((z2 (w y0 (w y1 (w y2 (z2 (u y3))))) X.1),X.2)) X.1.1 X.1.2.1 (q2 X) (q3 X) (q5 X) (q6 X) X.2.1.1
def al6:da:=iv Li af2 (λX=>(q4 X,q7 X))
def anY:dY:=dY.nil.add 5 al6
theorem akN:ia E avL arR anY (aY Tryz.f288 0):=lk Li af2 (λX=>(q4 X,q7 X)) λX x=>((z4 (w x.1 (z2 (u x.2))) X.1),X.2)
theorem axE:cV 288 auE:=fk arR ((base.add ahI).add asT) Tryz.func288 (Λ:=anY) (cF akN nF)
def auP:bn:=aM [pI] [rS] (c1 Pu.xf)
theorem axJ:cV 299 auP:=f0 {} ((base.add UZ).add J6) Tryz.func299
def at9:bn:=aM [pf aae] [rS,rB] (c1 Pu.wQ)
theorem aw8:cV 239 at9:=f0 {} (((base.add J6).add asQ).add axJ) Tryz.func239
def aua:bn:=aM [pd .str] [rS] (c1 Pu.yz)
theorem aw9:cV 240 aua:=f0 {} (base.add o95) Tryz.func240
def aty:bn:=aM [pf dg] [rS,rB] (c1 Pu.gM)
theorem aem:cV 166 aty:=f0 {} (((((base.add J5).add asC).add asD).add aw8).add aw9) Tryz.func166
def auQ:bn:=aM [pd .str] [rI,rI] (c1 Pu.qO)
theorem asS:cV 300 auQ:=f0 {} ((base.add XL).add amX) Tryz.func300
def ao9:bn:=aM [pf dg] [rS,rB] (c1 Pu.mC)
theorem asE:cV 241 ao9:=f0 {} ((((base.add aem).add J6).add ahK).add asS) Tryz.func241
def auF:bn:=aM [pd .str] [rS,rB] (c1 Pu.wT)
theorem axF:cV 289 auF:=f0 {merge:=mg [(3,38),(9,74),(12,84),(17,117)]} ((((((((((((base.add XK).add ahH).add aem).add J6).add asB).add asE).add XL).add asR).add amW).add ahK).add amX).add asS) Tryz.func289
def aoD:bn:=aM [pf dg] [rB] (c1 Pu.ju)
theorem abM:cV 165 aoD:=f0 {merge:=mg [(1,2)]} (base.add J5) Tryz.func165
def at3:bn:=aM [pd .str] [rS] (c1 Pu.vr)
theorem asA:cV 233 at3:=f0 {} (base.add asp) Tryz.func233
def ajB:bn:=aM [pf dg] [rS,rB] (c1 Pu.oW)
theorem asl:cV 170 ajB:=f0 {} (((base.add abM).add aem).add asA) Tryz.func170
def auX:bn:=aM [pd (.sl dg)] [(false,(.sl (.own none) .str))] (c1 Pu.wW)
def avQ:dK:=dK.nil.add 170 ajB
def arW:An:={mask:=mk [(3,[3,9,10,11])],mv:=[21,26]}
abbrev QM:SD:=⟨B::B::B::.data false (cS 36864 .str)::bs 5 (.data false (.sl .arg dg)::DI::DI::bs 15 []),zs 27 [],.none⟩
def af8 (X:SD.D QM)(K:gH R):=Pu.nq (λy0 y1=>ke 0 K QM ((w y0 (z2 (u y1)) X.1),X.2)) X.1.2.1 (q2 X)
def amc:da:=iv QM af8 (λX=>(X.1.1,q3 X))
def an3:dY:=dY.nil.add 3 amc
theorem akT:ia E avQ arW an3 (aY Tryz.f317 0):=lk QM af8 (λX=>(X.1.1,q3 X)) λX x=>((w x.1 (z2 (u x.2)) X.1),X.2)
theorem axU:cV 317 auX:=fk arW (base.add asl) Tryz.func317 (Λ:=an3) (cF akT nF)
def auY:bn:=aM [pf dg,pI] [(false,(.sl (.own none) dg))] (c2 Pu.Cg)
def avR:dK:=(dK.nil.add 23 Ny).add 149 ajw
def arX:An:={mask:=mk [(8,[1,2,5,6,7])],merge:=mg [(1,17),(4,30)],mv:=[83,87]}
abbrev QN:SD:=⟨B::DI::.ptr 2 0::B::B::.data false .str::.data false (cS 73728 dg)::DI::bs 80 [],Z::Z::(some Y1)::zs 85 [],.none⟩
def af9 (X:SD.D QN)(K:gH R):=Pu.xc (λy0 y1=>ke 0 K QN ((z2 (w y0 (u y1)) X.1),X.2)) X.1.1 X.1.2.1 X.2.1.1
def amd:da:=iv QN af9 (λX=>(q2 X,q3 X))
def an4:dY:=dY.nil.add 8 amd
theorem akU:ia E avR arX an4 (aY Tryz.f318 0):=lk QN af9 (λX=>(q2 X,q3 X)) λX x=>((z2 (w x.1 (u x.2)) X.1),X.2)
theorem axV:cV 318 auY:=fk arX ((base.add xg).add J5) Tryz.func318 (Λ:=an4) (cF akU nF)
def auG:bn:=aM [pf dg,pI] [(false,(.sl (.own none) .str))] (c2 Pu.tE)
theorem axG:cV 290 auG:=f0 {} ((base.add axU).add axV) Tryz.func290
def ao8:bn:=aM [pd (.sl bW),pf (.sl .str),pI,pf iZ] [(true,Y0),(false,(.sl (.own none) .str)),rI] (c4 Pu.qj)
theorem aw5:cV 232 ao8:=f0 {merge:=mg [(1,28)],sb:=mg [(8,8)]} ((((((((base.add UY).add ahH).add aen).add axC).add axD).add axE).add axF).add axG) Tryz.func232
def atv:bn:=aM [pd (.sl bW),pf (.sl .str),pI,pf iZ] [(true,Y0),(false,(.sl (.own none) .str)),rI,rI] (c4 Pu.rG)
def avl:dK:=dK.nil.add 232 ao8
def aro:An:={mask:=mk [(3,[0,2,5,7,8,9,10,11,12,13,14])],mv:=[35,42]}
abbrev Wx:SD:=⟨.data false (.sl .arg bW)::B::DI::B::B::.ptr 5 0::B::.ptr 7 0::.ptr 8 0::.data false (cS 110592 .str)::DI::DI::.data false (cS 147456 .str)::DI::DI::bs 30 [],zs 5 ((oR (.sl .arg .str))::Z::(some Y0)::(some Y0)::zs 36 []),.none⟩
abbrev aaw:SD:=⟨.data false (.sl .arg bW)::B::DI::B::B::.ptr 5 0::B::.ptr 7 0::.ptr 8 0::.data false (cS 110592 .str)::DI::DI::.data false (.sl .loc .str)::DI::DI::bs 30 [],zs 5 ((oR (.sl .arg .str))::Z::(some Y0)::(some Y0)::zs 36 []),.none⟩
def afs (X:SD.D Wx)(K:gH R):=Pu.mW (λy0 y1 y2 y3 y4 y5 y6 y7=>kr K aaw ((X.1.1,(X.1.2.1,(y0,(y1,(y2,(y3,(y4,(y5,())))))))),(X.2.1.1,(y6,(y7,()))),())) X.1.1 X.1.2.1 (q2 X) (q3 X) (q4 X) X.2.1.1 X.2.1.2.2.1
def alw:da:=iv Wx afs (λX=>(q5 X,q6 X,q7 X,X.2.1.2.1))
def anv:dY:=dY.nil.add 3 alw
theorem akd:ia E avl aro anv (aY Tryz.f161 0):=lk Wx afs (λX=>(q5 X,q6 X,q7 X,X.2.1.2.1)) λX x=>((z5 (w x.1 (w x.2.1 (u x.2.2.1))) X.1),(z1 (u x.2.2.2) X.2.1),X.2.2)
theorem awr:cV 161 atv:=fk aro (base.add aw5) Tryz.func161 (Λ:=anv) (cF akd nF)
def atw:bn:=aM [pf lP,pI] [(true,Y22),(false,(.sl (.own none) (.int .i64)))] (c2 Pu.ma)
def avm:dK:=((((dK.nil.add 23 Ny).add 81 e81).add 140 agL).add 147 agO).add 209 aoX
def arp:An:={mask:=mk [(6,[1,2,4,6,7,28,29,30])],merge:=mg [(2,22)],mv:=[23,34,43,55,56]}
abbrev Qi:SD:=⟨B::DI::.ptr 2 0::B::.ptr 4 0::B::.ptr 6 0::.data false (cS 86016 (.int .i64))::bs 20 (.data false (.sl .arg jZ)::DI::DI::bs 26 []),Z::Z::(some Y25)::Z::(oR (cJ Y0 (cJ (jJ (jJ (jJ (cS 49174 (.int .i64))))) (cJ (cS 49177 jZ) CK))))::Z::(oR (cJ Y0 (cJ (jJ (jJ (jJ (cS 73750 (.int .i64))))) (cJ (cS 73753 jZ) CK))))::zs 50 [],.none⟩
def aft (X:SD.D Qi)(K:gH R):=Pu.jL (λy0 y1 y2=>ke 0 K Qi ((z1 (w y0 (z2 (u y1))) X.1),(z2 (u y2) X.2.1),X.2.2)) X.1.1 (q2 X) (q3 X) X.2.1.1 X.2.1.2.1
def alx:da:=iv Qi aft (λX=>(X.1.2.1,q4 X,X.2.1.2.2.1))
def anw:dY:=dY.nil.add 6 alx
theorem ake:ia E avm arp anw (aY Tryz.f162 0):=lk Qi aft (λX=>(X.1.2.1,q4 X,X.2.1.2.2.1)) λX x=>((z1 (w x.1 (z2 (u x.2.1))) X.1),(z2 (u x.2.2) X.2.1),X.2.2)
theorem aws:cV 162 atw:=fk arp (((((base.add xg).add o81).add amH).add amJ).add asr) Tryz.func162 (Λ:=anw) (cF ake nF)
def e98:bn:=aM [pf dD] [(true,Y2)] (c1 Pu.me)
theorem o98:cV 98 e98:=f0 {mv:=[15,33,37,51,54,58]} ((((base.add o30).add o73).add awr).add aws) Tryz.func98
def atx:bn:=aM [pd .str] [rS,rB] (c1 Pu.wR)
theorem awt:cV 163 atx:=f0 {merge:=mg [(2,17)]} (base.add asA) Tryz.func163
def e99:bn:=aM [pd .str] [(true,Y1),rI] (c1 Pu.nv)
theorem o99:cV 99 e99:=f0 {} (((base.add awt).add ahH).add abM) Tryz.func99
def atz:bn:=aM [pf iB,pI] [(true,Y8),rB] (c2 Pu.ry)
theorem awu:cV 167 atz:=f0 {merge:=mg [(1,15)]} ((base.add xg).add o87) Tryz.func167
def ajA:bn:=aM [pd (.sl kz),pI,pf dg] [rI] (c3 Pu.nm)
theorem amN:cV 168 ajA:=f0 {merge:=mg [(1,24),(7,54)]} ((((base.add xg).add o27).add o29).add J5) Tryz.func168
def aoE:bn:=aM [pd (.sl kz),pI,pf dg] [(false,(.sl (.own none) (.int .i64)))] (c3 Pu.mi)
def apL:dK:=((dK.nil.add 27 e27).add 78 e78).add 168 ajA
def amw:An:={mask:=mk [(11,[0,1,7,8,33,34]),(17,[0,1,7,11,43,44,45])],merge:=mg [(19,60)],mv:=[37,61,66]}
abbrev Kf:SD:=⟨.data false (.sl .arg kz)::DI::bs 5 (DI::B::B::B::.data false (cS 135168 (.int .i64))::bs 31 (.data false (.sl .loc (.int .i64))::DI::DI::bs 21 [])),zs 67 [],.none⟩
def Z4 (X:SD.D Kf)(K:gH R):=Pu.gC (λy0 y1=>ke 2 K Kf ((z3 (w y0 (z2 (u y1))) X.1),X.2)) X.1.1 X.1.2.1 (q2 X) (q4 X) (q5 X)
def ahw:da:=iv Kf Z4 (λX=>(q3 X,q6 X))
abbrev Ke:SD:=⟨.data false (.sl .arg kz)::DI::bs 5 (DI::.data false (cS 98304 (.int .i64))::bs 24 (DI::DI::bs 32 [])),zs 67 [],.none⟩
def Z3 (X:SD.D Ke)(K:gH R):=Pu.lr (λy0 y1=>ke 0 K Ke ((z3 (w y0 (z1 (u y1))) X.1),X.2)) X.1.1 X.1.2.1 (q2 X) (q4 X)
def ahv:da:=iv Ke Z3 (λX=>(q3 X,q5 X))
def ajd:dY:=(dY.nil.add 17 ahw).add 11 ahv
theorem ahn:ia E apL amw ajd (aY Tryz.f169 1):=lk Kf Z4 (λX=>(q3 X,q6 X)) λX x=>((z3 (w x.1 (z2 (u x.2))) X.1),X.2)
theorem ahm:ia E apL amw ajd (aY Tryz.f169 0):=lk Ke Z3 (λX=>(q3 X,q5 X)) λX x=>((z3 (w x.1 (z1 (u x.2))) X.1),X.2)
theorem asj:cV 169 aoE:=fk amw (((base.add o27).add o78).add amN) Tryz.func169 (Λ:=ajd) (cF ahm (cF ahn nF))
def aog:bn:=aM [pd (.sl bV),pd (.sl kz),pI,pf dg] [(false,(.sl (.own none) bV)),(false,(.sl (.own none) (.int .i64))),rB] (c4 Pu.xb)
theorem avZ:cV 100 aog:=f0 {merge:=mg [(2,35),(7,73)],late:=[93],mv:=[36,81],er:=mg [(98,11)]} ((((((((base.add xg).add o32).add o68).add abM).add aem).add awu).add amN).add asj) Tryz.func100
def atC:bn:=aM [pf mN,pf dg] [rB] (c2 Pu.yu)
theorem awx:cV 174 atC:=f0 {merge:=mg [(1,4)]} ((base.add o27).add o76) Tryz.func174
def au1:bn:=aM [pI,pI,pI] [rB] (c3 Pu.pg)
theorem axY:cV 321 au1:=f0 {} base Tryz.func321
def apo:bn:=aM [pf lO,pf dg] [rB] (c2 Pu.ru)
theorem axK:cV 302 apo:=f0 {merge:=mg [(1,4)]} ((((base.add xg).add J5).add asu).add axY) Tryz.func302
def aub:bn:=aM [pd (.sl lO),pf dg] [rI] (c2 Pu.wV)
def avB:dK:=(dK.nil.add 151 ajx).add 302 apo
def arH:An:={mask:=mk [(5,[0,3,5,11,12,13])],merge:=mg [(7,34)]}
abbrev QC:SD:=⟨.data false (.sl .arg lO)::B::B::.ptr 3 0::B::DI::bs 5 (.data false (.sl .arg lO)::DI::DI::bs 24 []),Z::Z::Z::(some Y1)::zs 34 [],.none⟩
def afR (X:SD.D QC)(K:gH R):=Pu.rk (λy0 y1=>ke 0 K QC ((z1 (w y0 (z2 (u y1))) X.1),X.2)) X.1.1 (q2 X) (q3 X) X.2.1.1
def alV:da:=iv QC afR (λX=>(X.1.2.1,q4 X))
def anO:dY:=dY.nil.add 5 alV
theorem akC:ia E avB arH anO (aY Tryz.f247 0):=lk QC afR (λX=>(X.1.2.1,q4 X)) λX x=>((z1 (w x.1 (z2 (u x.2))) X.1),X.2)
theorem axe:cV 247 aub:=fk arH ((base.add asd).add axK) Tryz.func247 (Λ:=anO) (cF akC nF)
def auc:bn:=aM [pf (.sl jm),pf sm] [rI] (c2 Pu.wU)
theorem axf:cV 248 auc:=f0 {} ((base.add ase).add asv) Tryz.func248
def ajI:bn:=aM [pd .str,pI] [rI] (c2 Pu.xK)
theorem asZ:cV 332 ajI:=f0 {} base Tryz.func332
def apB:bn:=aM [pd .str,pI] [rI] (c2 Pu.vg)
def avW:dK:=(dK.nil.add 23 Ny).add 332 ajI
def ar2:An:={mask:=mk [(5,[0,1,5,6])],merge:=mg [(1,14)]}
abbrev QR:SD:=⟨.data false .str::DI::B::B::B::DI::DI::bs 22 [],zs 29 [],.none⟩
def age (X:SD.D QR)(K:gH R):=Pu.qf (λy0 y1=>ke 0 K QR ((z2 (w y0 (u y1)) X.1),X.2)) X.1.1 X.1.2.1
def ami:da:=iv QR age (λX=>(q2 X,q3 X))
def an9:dY:=dY.nil.add 5 ami
theorem akZ:ia E avW ar2 an9 (aY Tryz.f333 0):=lk QR age (λX=>(q2 X,q3 X)) λX x=>((z2 (w x.1 (u x.2)) X.1),X.2)
theorem ax8:cV 333 apB:=fk ar2 ((base.add xg).add asZ) Tryz.func333 (Λ:=an9) (cF akZ nF)
def au2:bn:=aM [pd .str,pd .str] [rI] (c2 Pu.uZ)
def avT:dK:=(dK.nil.add 332 ajI).add 333 apB
def arZ:An:={mask:=mk [(5,[0,1,5,6])],merge:=mg [(1,14)]}
abbrev QP:SD:=⟨.data false .str::.data false .str::B::B::B::DI::DI::bs 25 [],zs 32 [],.none⟩
def agb (X:SD.D QP)(K:gH R):=Pu.qc (λy0 y1=>ke 0 K QP ((z2 (w y0 (u y1)) X.1),X.2)) X.1.1 X.1.2.1
def amf:da:=iv QP agb (λX=>(q2 X,q3 X))
def an6:dY:=dY.nil.add 5 amf
theorem akW:ia E avT arZ an6 (aY Tryz.f322 0):=lk QP agb (λX=>(q2 X,q3 X)) λX x=>((z2 (w x.1 (u x.2)) X.1),X.2)
theorem axZ:cV 322 au2:=fk arZ ((base.add asZ).add ax8) Tryz.func322 (Λ:=an6) (cF akW nF)
def au3:bn:=aM [pf sm] [rS] (c1 Pu.vc)
theorem ax0:cV 323 au3:=f0 {} ((base.add UZ).add J6) Tryz.func323
def auT:bn:=aM [pd .str,pf sm] [rI] (c2 Pu.sO)
theorem asV:cV 306 auT:=f0 {} ((base.add axZ).add ax0) Tryz.func306
def auR:bn:=aM [pf BX,pf sm] [rI] (c2 Pu.yy)
theorem axL:cV 303 auR:=f0 {merge:=mg [(2,17)]} (base.add asV) Tryz.func303
def aue:bn:=aM [pf BX,pI,pf sm] [rI] (c3 Pu.rz)
theorem axg:cV 250 aue:=f0 {merge:=mg [(2,18)]} ((base.add asf).add axL) Tryz.func250
def atD:bn:=aM [pf pD,pI,pf dg] [rI] (c3 Pu.rA)
theorem awy:cV 175 atD:=f0 {merge:=mg [(1,17)]} ((((((base.add o85).add J5).add axe).add axf).add amT).add axg) Tryz.func175
def au4:bn:=aM [pf sm] [rB] (c1 Pu.mc)
theorem asY:cV 324 au4:=f0 {merge:=mg [(1,2)]} (base.add xg) Tryz.func324
def au5:bn:=aM [pf sm,pI] [rS] (c2 Pu.lp)
theorem ax1:cV 325 au5:=f0 {merge:=mg [(1,12)]} ((((base.add xg).add UZ).add J6).add asY) Tryz.func325
def auU:bn:=aM [pd (.sl bW),pf (.sl .str),pI,pf iB,pf sm] [(true,(.sl (.own none) .str)),(true,Y8),rB] (c5 Pu.oz)
theorem axN:cV 307 auU:=f0 {merge:=mg [(1,22)],mv:=[26,37,41,51],mb:=mg [(41,13),(51,13)],sb:=mg [(10,10),(11,11),(13,13)]} (((((((base.add Mr).add amK).add amS).add asO).add asP).add asY).add ax1) Tryz.func307
def aui:bn:=Dj [pd (.sl bW),pf (.sl .str),pI,pf eS,pd .str,pd .str] [(true,(.sl (.own none) .str)),(true,Y8),rB] [(true,(.sl .arg .str)),(true,Y8),rB] rfl λa=>Pu.vC a.1 a.2.1 a.2.2.1 a.2.2.2.1 a.2.2.2.2.1 a.2.2.2.2.2.1
theorem axk:cV 257 aui:=iH.ofAlt (ady (an:={merge:=mg [(3,50)],sb:=mg [(12,12),(13,13),(20,20)]}) (Λ:=dY.nil) (by rfl) ((((((base.add aem).add amS).add amT).add asU).add asV).add axN) Tryz.func257 (by kernel_rfl) (ao nF)) (λa=>by kernel_rfl)
def aoH:bn:=aM [pd (.sl bW),pf (.sl .str),pI,pf eS,pd .str] [(true,(.sl (.own none) .str)),(true,Y17)] (c5 Pu.np)
theorem asn:cV 178 aoH:=f0 {merge:=mg [(1,31)],mv:=[52,66],mb:=mg [(66,16)],sb:=mg [(10,10),(11,11)]} ((((base.add o82).add Mr).add asH).add axk) Tryz.func178
def auS:bn:=aM [pf dg,pf dg] [rB] (c2 Pu.xa)
theorem axM:cV 304 auS:=f0 {} base Tryz.func304
def auf:bn:=aM [pf KC,pf dg] [rB] (c2 Pu.uV)
theorem asG:cV 251 auf:=f0 {merge:=mg [(1,42),(4,76),(6,4)]} (((((base.add xg).add J5).add abM).add ast).add axM) Tryz.func251
def aug:bn:=aM [pf KC,pf dg] [(true,(.pair Y1 (.pair (.int .i64) (.int .i64))))] (c2 Pu.Et)
theorem axh:cV 252 aug:=f0 {} (base.add asG) Tryz.func252
def auh:bn:=aM [pf dg] [(true,(.pair Y1 (.pair (.int .i64) (.int .i64))))] (c1 Pu.Dz)
theorem axi:cV 253 auh:=f0 {} base Tryz.func253
def atE:bn:=aM [pd (.sl bW),pf (.sl .str),pI,pf eS,pd .str,pf dg,pd .bool] [(true,(.sl (.own none) .str)),(true,Y17)] (c7 Pu.oB)
theorem awz:cV 176 atE:=f0 {merge:=mg [(1,30),(3,44)],mv:=[53,68,77],mb:=mg [(77,16)],sb:=mg [(14,14),(15,15)]} (((((((base.add o82).add Mr).add abM).add asn).add asG).add axh).add axi) Tryz.func176
def atA:bn:=aM [pf gI] [(true,Y14)] (c1 Pu.oF)
theorem amO:cV 172 atA:=f0 {merge:=mg [(1,9)]} (base.add asc) Tryz.func172
def ape:bn:=aM [pf gI] [(true,Y14)] (c1 Pu.wP)
theorem axj:cV 255 ape:=f0 {} ((base.add o84).add amO) Tryz.func255
def aoG:bn:=jS (.pair (.sl (.own none) .str) (.pair (.sl (.own none) bW) (.pair (.pair (.pair (.int .i64) (.pair (.int .i64) (.pair (.int .i64) (.int .i64)))) (.pair (.pair (.int .i64) (.pair (.int .i64) (.pair (.int .i64) (.sl (.own none) (.int .i64))))) (.pair (.sl (.own none) jZ) (.int .i64)))) (.pair (.sl (.own none) eS) (.pair (.sl (.own none) jY) (.pair (.sl (.own none) gI) (.pair (.sl (.own none) .bool) (.pair (.pair (.int .i64) (.pair .bool (.sl (.own none) (.int .i64)))) (.pair (.pair (.sl (.own none) lO) (.pair (.sl (.own none) jm) (.pair .str (.sl (.own none) (.int .i64))))) (.pair (.sl (.own none) fB) (.pair .bool (.pair (.sl (.own none) .str) (.pair (.sl (.own none) (.int .i64)) (.pair (.sl (.own none) (.int .i64)) (.pair (.int .i64) (.pair (.int .i64) (.pair (.int .i64) (.pair (.int .i64) (.int .i64))))))))))))))))))) [pI,pI] [] λx a=>Pu.kZ x a.1 a.2.1
def apM:dK:=(dK.nil.add 254 ajF).add 255 ape
def ars:An:={mask:=mk [(2,[0,1,7])]}
abbrev Qj:SD:=⟨.ptr 0 0::DI::bs 5 (DI::bs 34 []),(oR (cJ (cS 1 .str) (cJ (cS 4 bW) (cJ (cJ Y0 (cJ (jJ (jJ (jJ (cS 28 (.int .i64))))) (cJ (cS 31 jZ) CK))) (cJ (cS 37 eS) (cJ (cS 40 jY) (cJ (cS 43 gI) (cJ (cS 46 .bool) (cJ (jJ (cJ .bool (cS 55 (.int .i64)))) (cJ (cJ (cS 58 lO) (cJ (cS 61 jm) (cJ .str (cS 67 (.int .i64))))) (cJ (cS 70 fB) (cJ .bool (cJ (cS 76 .str) (cJ (cS 79 (.int .i64)) (cJ (cS 82 (.int .i64)) (cJ CK Y0))))))))))))))))::zs 41 [],.ptr⟩
def afu (X:SD.D Qj)(K:gH R):=Pu.qk (λy0 y1=>ke 0 K Qj ((z1 (u y0) X.1),(u y1 X.2.1),X.2.2)) X.1.1
def aly:da:=iv Qj afu (λX=>(X.1.2.1,X.2.1.1))
def anz:dY:=dY.nil.add 2 aly
theorem akf:ia E apM ars anz (aY Tryz.f177 0):=lk Qj afu (λX=>(X.1.2.1,X.2.1.1)) λX x=>((z1 (u x.1) X.1),(u x.2 X.2.1),X.2.2)
theorem asm:cV 177 aoG:=iH.qR (qA (Γ:=apM) (an:=ars) (Λ:=anz) ((base.add ahJ).add axj) Tryz.func177 (by kernel_rfl) (ao (cF akf nF))) (λx a=>by kernel_rfl)
def aok:bn:=aM [pf dD,pd .str] [(true,Y2)] (c2 Pu.nu)
theorem ar7:cV 106 aok:=f0 {mv:=[14,34,46,62,69,90,103],sb:=mg [(92,5)]} (((((((base.add o30).add o73).add o99).add awx).add awy).add awz).add asm) Tryz.func106
def aoF:bn:=aM [pd (.sl kz),pI,pI,pf dg] [(true,Y1)] (c4 Pu.rq)
theorem awv:cV 171 aoF:=f0 {merge:=mg [(1,34)]} ((((base.add xg).add o27).add o29).add J5) Tryz.func171
def aoh:bn:=aM [pf uH,pI,pf dg] [(true,Y7)] (c3 Pu.lJ)
def au8:dK:=((((((((dK.nil.add 11 e11).add 12 e12).add 22 e22).add 106 aok).add 165 aoD).add 168 ajA).add 169 aoE).add 170 ajB).add 171 aoF
def aq8:An:={mask:=mk [(7,[5,6,7,8,10,39,40,41])],merge:=mg [(2,24)],mv:=[25,26,57,76]}
abbrev P5:SD:=⟨bs 5 (.ptr 5 0::.ptr 6 0::.ptr 7 0::.data false (cS 98304 kz)::B::DI::bs 28 (.data false (cS 479232 (.int .i64))::DI::DI::bs 35 [])),zs 5 ((some Y1)::(some Y18)::(oR (cJ (cS 86017 dD) (cJ (cS 86020 bV) (cJ (cS 86023 eL) (cJ (cS 86026 .str) (cJ Y0 (cJ (cS 86041 (.int .i64)) (cS 86044 .str))))))))::zs 69 []),.none⟩
def ae4 (X:SD.D P5)(K:gH R):=Pu.kV (λy0 y1=>ke 0 K P5 ((z4 (u y0) X.1),(z2 (u y1) X.2.1),X.2.2)) X.1.1 X.1.2.1 (q2 X) (q3 X) X.2.1.1 X.2.1.2.1
def ak6:da:=iv P5 ae4 (λX=>(q4 X,X.2.1.2.2.1))
def anh:dY:=dY.nil.add 7 ak6
theorem ajP:ia E au8 aq8 anh (aY Tryz.f101 0):=lk P5 ae4 (λX=>(q4 X,X.2.1.2.2.1)) λX x=>((z4 (u x.1) X.1),(z2 (u x.2) X.2.1),X.2.2)
theorem ar6:cV 101 aoh:=fk aq8 (((((((((base.add o11).add o12).add o22).add ar7).add abM).add amN).add asj).add asl).add awv) Tryz.func101 (Λ:=anh) (cF ajP nF)
def e40:bn:=aM [pf uH,pI] [(true,Y7)] (c2 Pu.qa)
def g40:dK:=((((((((dK.nil.add 11 e11).add 12 e12).add 22 e22).add 23 Ny).add 72 e72).add 98 e98).add 99 e99).add 100 aog).add 101 aoh
def n40:An:={mask:=mk [(8,[1,4,5,6,62,63,64])],merge:=mg [(2,29)],mv:=[30,31,75,85,94]}
abbrev YM:SD:=⟨B::DI::B::B::.ptr 4 0::.ptr 5 0::.data false (cS 73728 kz)::bs 55 (.data false (.sl .loc .str)::DI::DI::bs 30 []),zs 4 ((some Y19)::(oR (cJ (cS 61441 dD) (cJ (cS 61444 bV) (cJ (cS 61447 eL) (cJ (cS 61450 .str) (cJ Y0 (cJ (cS 61465 (.int .i64)) (cS 61468 .str))))))))::zs 89 []),.none⟩
def aiK (X:SD.D YM)(K:gH R):=Pu.jF (λy0 y1=>ke 0 K YM ((z4 (u y0) X.1),(z1 (u y1) X.2.1),X.2.2)) X.1.1 X.1.2.1 (q2 X) (q3 X) X.2.1.1
def aqK:da:=iv YM aiK (λX=>(q4 X,X.2.1.2.1))
def L40:dY:=dY.nil.add 8 aqK
theorem ap9:ia E g40 n40 L40 (aY Tryz.f40 0):=lk YM aiK (λX=>(q4 X,X.2.1.2.1)) λX x=>((z4 (u x.1) X.1),(z1 (u x.2) X.2.1),X.2.2)
theorem o40:cV 40 e40:=fk n40 (((((((((base.add o11).add o12).add o22).add xg).add o72).add o98).add o99).add avZ).add ar6) Tryz.func40 (Λ:=L40) (cF ap9 nF)
def e41:bn:=aM [pf uH,pd .str] [(true,Y7)] (c2 Pu.rh)
theorem o41:cV 41 e41:=f0 {mv:=[13,15,32]} ((((base.add o12).add o22).add o99).add ar6) Tryz.func41
def aoi:bn:=aM [pf gI] [(true,Y14)] (c1 Pu.tH)
theorem av0:cV 102 aoi:=f0 {} ((base.add o84).add amO) Tryz.func102
def e42:bn:=aM [pf dD] [(true,Y2)] (c1 Pu.sP)
def g42:dK:=((dK.nil.add 30 e30).add 73 e73).add 102 aoi
def n42:An:={mask:=mk [(5,[2,3,13,14])],mv:=[10,28]}
abbrev YN:SD:=⟨B::B::.ptr 2 0::.ptr 3 0::bs 9 (DI::DI::bs 14 []),Z::Z::(some Y3)::(some Y4)::zs 25 [],.none⟩
def aiL (X:SD.D YN)(K:gH R):=Pu.rp (λy0 y1=>ke 0 K YN ((z1 (u y0) X.1),(z1 (u y1) X.2.1),X.2.2)) X.1.1 X.2.1.1
def aqL:da:=iv YN aiL (λX=>(X.1.2.1,X.2.1.2.1))
def L42:dY:=dY.nil.add 5 aqL
theorem aqa:ia E g42 n42 L42 (aY Tryz.f42 0):=lk YN aiL (λX=>(X.1.2.1,X.2.1.2.1)) λX x=>((z1 (u x.1) X.1),(z1 (u x.2) X.2.1),X.2.2)
theorem o42:cV 42 e42:=fk n42 (((base.add o30).add o73).add av0) Tryz.func42 (Λ:=L42) (cF aqa nF)
def aoj:bn:=aM [pf iB,pI] [(true,Y8)] (c2 Pu.qi)
theorem av1:cV 103 aoj:=f0 {merge:=mg [(1,10)]} ((base.add xg).add o87) Tryz.func103
def e43:bn:=aM [pd (.sl bV),pI] [(false,(.sl (.own none) bV))] (c2 Pu.oE)
def g43:dK:=(dK.nil.add 68 e68).add 103 aoj
def n43:An:={mask:=mk [(3,[1,5,10,11])],mv:=[26]}
abbrev YO:SD:=⟨B::DI::B::B::B::.data false (cS 61440 bV)::bs 4 (DI::DI::bs 15 []),zs 27 [],.none⟩
def aiM (X:SD.D YO)(K:gH R):=Pu.lu (λy0 y1=>ke 0 K YO ((z1 (w y0 (z1 (u y1))) X.1),X.2)) X.1.1 (q2 X)
def aqM:da:=iv YO aiM (λX=>(X.1.2.1,q3 X))
def L43:dY:=dY.nil.add 3 aqM
theorem aqb:ia E g43 n43 L43 (aY Tryz.f43 0):=lk YO aiM (λX=>(X.1.2.1,q3 X)) λX x=>((z1 (w x.1 (z1 (u x.2))) X.1),X.2)
theorem o43:cV 43 e43:=fk n43 ((base.add o68).add av1) Tryz.func43 (Λ:=L43) (cF aqb nF)
def atb:bn:=aM [pf iZ,pI] [(true,Y0)] (c2 Pu.H8)
theorem av2:cV 104 atb:=f0 {} base Tryz.func104
def e44:bn:=aM [pf iZ,pI] [(true,Y0)] (c2 Pu.pZ)
theorem o44:cV 44 e44:=f0 {merge:=mg [(1,14)]} (((base.add xg).add o35).add av2) Tryz.func44
def apa:bn:=aM [pf lP] [rI] (c1 Pu.qp)
def avz:dK:=dK.nil
def arE:An:={mask:=mk [(3,[3,7,8,9])]}
abbrev Qz:SD:=⟨B::B::B::DI::B::B::B::.data false (.sl .arg jZ)::DI::DI::bs 9 [],zs 19 [],.none⟩
def afN (X:SD.D Qz)(K:gH R):=Pu.mm (λy0 y1=>ke 0 K Qz ((w y0 (z2 (u y1)) X.1),X.2)) X.1.2.1 (q2 X)
def alR:da:=iv Qz afN (λX=>(X.1.1,q3 X))
def anL:dY:=dY.nil.add 3 alR
theorem aky:ia E avz arE anL (aY Tryz.f242 0):=lk Qz afN (λX=>(X.1.1,q3 X)) λX x=>((w x.1 (z2 (u x.2)) X.1),X.2)
theorem axa:cV 242 apa:=fk arE base Tryz.func242 (Λ:=anL) (cF aky nF)
def apb:bn:=aM [pf jY,pI] [(true,Y10),(false,(.sl (.own none) (.int .i64))),rB] (c2 Pu.rF)
theorem axb:cV 243 apb:=f0 {merge:=mg [(2,20)],mv:=[21,28],mb:=mg [(28,7)],sb:=mg [(4,4)]} ((((base.add xg).add o71).add o83).add abL) Tryz.func243
def apc:bn:=Dj [pd (.sl bW),pf (.sl .str),pI,pf jY,pd (.sl (.int .i64)),pd .str,pI] [(true,(.sl (.own none) .str)),(false,(.sl (.own none) iI)),rB] [(true,(.sl .arg .str)),(false,(.sl (.own none) iI)),rB] rfl λa=>Pu.nz a.1 a.2.1 a.2.2.1 a.2.2.2.1 a.2.2.2.2.1 a.2.2.2.2.2.1 a.2.2.2.2.2.2.1
def apQ:dK:=(dK.nil.add 93 e93).add 159 agP
def arF:An:={mask:=mk [(3,[0,2,5,6,8,10,14,15,16,17,24,25,26])],peel:=[3],mv:=[40,49,53,54,55,65,66],sb:=mg [(21,21)]}
abbrev QA:SD:=⟨.data false (.sl .arg bW)::B::DI::B::B::.data false .str::DI::B::.ptr 8 0::B::.ptr 10 0::B::B::B::.ptr 14 0::.data false (cS 184320 iI)::DB::.data false (cS 208896 iI)::bs 6 (.data false (.sl .arg (.int .i64))::DI::DI::bs 40 []),zs 8 ((oR (cS 98305 .str))::Z::(some Y15)::Z::Z::Z::(oR (cS 172033 .str))::zs 52 []),.none⟩
abbrev aax:SD:=⟨.data false (.sl .arg bW)::B::DI::B::B::.data false .str::DI::B::.ptr 8 0::B::.ptr 10 0::B::B::B::.ptr 14 0::.data false (cS 184320 iI)::DB::.data false (cS 208896 iI)::bs 6 (.data false (.sl .arg (.int .i64))::DI::DI::bs 40 []),zs 8 ((oR (.sl .loc .str))::Z::(some Y15)::Z::Z::Z::(oR (cS 172033 .str))::zs 52 []),.none⟩
def afO (X:SD.D QA)(K:gH R):=Pu.kc (λy0 y1 y2 y3=>ke 0 K QA ((z2 (w y0 (z3 (w y1 (z2 (u y2))))) X.1),(u y3 X.2.1),X.2.2)) (λy0 y1 y2 y3 y4 y5 y6=>kr K aax ((X.1.1,(X.1.2.1,(y0,(X.1.2.2.2.1,(y1,(y2,(y3,(X.1.2.2.2.2.2.2.2.1,(X.1.2.2.2.2.2.2.2.2.1,(y4,())))))))))),(y5,(X.2.1.2.1,(y6,()))),())) X.1.1 X.1.2.1 (q3 X) (q4 X) (q5 X) (q7 X) (q8 X) X.2.1.2.1 X.2.1.2.2.1
def alS:da:=iv QA afO (λX=>(q2 X,q6 X,q9 X,X.2.1.1))
def anM:dY:=dY.nil.add 3 alS
theorem akz:ia E apQ arF anM (aY Tryz.f244 0):=lk QA afO (λX=>(q2 X,q6 X,q9 X,X.2.1.1)) λX x=>((z2 (w x.1 (z3 (w x.2.1 (z2 (u x.2.2.1))))) X.1),(u x.2.2.2 X.2.1),X.2.2)
theorem axc:cV 244 apc:=iH.ofAlt (ady (Γ:=apQ) (an:=arF) (Λ:=anM) (by rfl) ((base.add o93).add amM) Tryz.func244 (by kernel_rfl) (ao (cF akz nF))) (λa=>by kernel_rfl)
def apd:bn:=aM [pd (.sl bW),pf (.sl .str),pI,pf iZ,pd (.sl .str)] [(true,(.sl (.own none) .str)),(true,Y0),rB] (c5 Pu.jU)
def avA:dK:=(dK.nil.add 138 S0).add 160 ajz
def arG:An:={mask:=mk [(3,[0,2,6,8,10,11,12,13,14,21,22,23])],mv:=[27,43],mb:=mg [(43,13)],sb:=mg [(10,10),(11,11),(13,13),(14,14)]}
abbrev Lc:SD:=⟨.data false (.sl .arg bW)::B::DI::B::B::B::.ptr 6 0::B::.ptr 8 0::B::.ptr 10 0::.ptr 11 0::DB::.ptr 13 0::.ptr 14 0::bs 6 (.data false (.sl .arg .str)::DI::DI::bs 21 []),zs 6 ((oR (.sl .arg .str))::Z::(some Y0)::Z::(oR (cS 122881 .str))::(some Y0)::Z::(oR (cS 159745 .str))::(some Y0)::zs 30 []),.none⟩
def afQ (X:SD.D Lc)(K:gH R):=Pu.kY (λy0 y1 y2=>ke 0 K Lc ((z5 (u y0) X.1),(z4 (w y1 (u y2)) X.2.1),X.2.2)) (λy0 y1 y2 y3 y4 y5=>kr K Lc ((z2 (w y0 (z2 (u y1))) X.1),(z2 (w y2 (w y3 (w y4 (u y5)))) X.2.1),X.2.2)) X.1.1 X.1.2.1 (q2 X) (q3 X) (q4 X) X.2.1.1 X.2.1.2.1 X.2.1.2.2.1 X.2.1.2.2.2.1
def alU:da:=iv Lc afQ (λX=>(q5 X,X.2.1.2.2.2.2.1,X.2.1.2.2.2.2.2.1))
def anN:dY:=dY.nil.add 3 alU
theorem akB:ia E avA arG anN (aY Tryz.f246 0):=lk Lc afQ (λX=>(q5 X,X.2.1.2.2.2.2.1,X.2.1.2.2.2.2.2.1)) λX x=>((z5 (u x.1) X.1),(z4 (w x.2.1 (u x.2.2)) X.2.1),X.2.2)
theorem axd:cV 246 apd:=fk arG ((base.add Mr).add asi) Tryz.func246 (Λ:=anN) (cF akB nF)
def atB:bn:=aM [pd (.sl bW),pf (.sl .str),pI,pf lP,pf dg,pI,pI] [(true,(.sl (.own none) .str)),(true,Y22),rB] (c7 Pu.tF)
def avn:dK:=((((((((((((dK.nil.add 23 Ny).add 81 e81).add 138 S0).add 140 agL).add 149 ajw).add 158 ajy).add 229 ao7).add 241 ao9).add 242 apa).add 243 apb).add 244 apc).add 245 ajE).add 246 apd
def arq:An:={mask:=mk [(19,[0,2,10,14,15,17,18,22,24,26,28,29,139,140,141])],merge:=mg [(2,57),(6,92),(15,135)],mv:=[58,59,93,94,97,107,108,109,122,123,136,137,145,151,164,165,169,174,184,185],mb:=mg [(58,17),(59,18),(93,17),(94,18),(107,17),(108,18),(136,17),(137,18),(164,17),(165,18),(184,26),(185,22)],sb:=mg [(14,14),(15,15),(17,17),(18,18),(26,26)]}
abbrev Kg:SD:=⟨.data false (.sl .arg bW)::B::DI::bs 7 (.ptr 10 0::B::B::B::.ptr 14 0::.ptr 15 0::B::.ptr 17 0::.ptr 18 0::B::B::B::.ptr 22 0::B::.data false (cS 294912 (.int .i64))::B::.ptr 26 0::B::.data false (cS 344064 ng)::.data false (cS 356352 .str)::bs 109 (.data false (.sl .loc ng)::DI::DI::bs 44 [])),zs 10 ((some Y25)::Z::Z::Z::(oR (cS 172033 .str))::(oR (cJ Y0 (cJ (jJ (jJ (jJ (cS 184342 (.int .i64))))) (cJ (cS 184345 jZ) CK))))::Z::(oR (cS 208897 .str))::(oR (cJ Y0 (cJ (jJ (jJ (jJ (cS 221206 (.int .i64))))) (cJ (cS 221209 jZ) CK))))::Z::Z::Z::(oR (cJ Y0 (cJ (jJ (jJ (jJ (cS 270358 (.int .i64))))) (cJ (cS 270361 jZ) CK))))::Z::Z::Z::(oR (.sl .loc .str))::zs 159 []),.none⟩
def Z5 (X:SD.D Kg)(K:gH R):=Pu.gA (λy0 y1=>ke 0 K Kg ((z4 (w y0 (z2 (u y1))) X.1),X.2)) X.1.1 X.1.2.1 (q2 X) (q3 X) (q5 X) (q6 X) X.2.1.1 X.2.1.2.1 X.2.1.2.2.1 X.2.1.2.2.2.1 X.2.1.2.2.2.2.1 X.2.1.2.2.2.2.2.1 X.2.1.2.2.2.2.2.2.1
def ahx:da:=iv Kg Z5 (λX=>(q4 X,q7 X))
def anx:dY:=dY.nil.add 19 ahx
theorem aho:ia E avn arq anx (aY Tryz.f173 0):=lk Kg Z5 (λX=>(q4 X,q7 X)) λX x=>((z4 (w x.1 (z2 (u x.2))) X.1),X.2)
theorem aww:cV 173 atB:=fk arq (((((((((((((base.add xg).add o81).add Mr).add amH).add J5).add amL).add asy).add asE).add axa).add axb).add axc).add asF).add axd) Tryz.func173 (Λ:=anx) (cF aho nF)
def atc:bn:=aM [pf dD,pf dg,pI,pI] [(true,Y2),rB] (c4 Pu.wY)
theorem av3:cV 105 atc:=f0 {mv:=[19,20,34,36,38]} (((base.add o30).add o73).add aww) Tryz.func105
def atd:bn:=aM [pf dD] [(true,Y2)] (c1 Pu.vd)
def au9:dK:=(((dK.nil.add 30 e30).add 73 e73).add 177 aoG).add 178 aoH
def aq9:An:={mask:=mk [(5,[1,2,3,13,14])],mv:=[10,17,35,49],sb:=mg [(37,3)]}
abbrev P6:SD:=⟨B::.ptr 1 0::.ptr 2 0::.ptr 3 0::bs 9 (DI::DI::bs 35 []),Z::(some Y5)::(some Y3)::(some Y4)::zs 46 [],.none⟩
def ae5 (X:SD.D P6)(K:gH R):=Pu.qd (λy0 y1=>ke 0 K P6 ((z1 (u y0) X.1),(z2 (u y1) X.2.1),X.2.2)) X.1.1 X.2.1.1 X.2.1.2.1
def ak7:da:=iv P6 ae5 (λX=>(X.1.2.1,X.2.1.2.2.1))
def ani:dY:=dY.nil.add 5 ak7
theorem ajQ:ia E au9 aq9 ani (aY Tryz.f107 0):=lk P6 ae5 (λX=>(X.1.2.1,X.2.1.2.2.1)) λX x=>((z1 (u x.1) X.1),(z2 (u x.2) X.2.1),X.2.2)
theorem av4:cV 107 atd:=fk aq9 ((((base.add o30).add o73).add asm).add asn) Tryz.func107 (Λ:=ani) (cF ajQ nF)
def aoI:bn:=aM [pf gI] [(true,Y14),rB] (c1 Pu.oD)
theorem awA:cV 179 aoI:=f0 {merge:=mg [(1,11)]} (base.add o84) Tryz.func179
def aoJ:bn:=aM [pf gI] [(true,Y14)] (c1 Pu.xJ)
theorem awB:cV 180 aoJ:=f0 {} ((base.add o84).add amO) Tryz.func180
def ate:bn:=aM [pf dD,pI] [(true,Y2),rI] (c2 Pu.rm)
def ava:dK:=(((((dK.nil.add 23 Ny).add 30 e30).add 73 e73).add 91 e91).add 179 aoI).add 180 aoJ
def ara:An:={mask:=mk [(6,[1,4,6,7,25,26])],merge:=mg [(2,21)],mv:=[22,78]}
abbrev P7:SD:=⟨B::DI::B::B::.ptr 4 0::B::.ptr 6 0::DI::bs 17 (DI::DI::bs 53 []),zs 4 ((oR (cJ (cS 49153 .str) (cJ (cS 49156 bW) (cJ (cJ Y0 (cJ (jJ (jJ (jJ (cS 49180 (.int .i64))))) (cJ (cS 49183 jZ) CK))) (cJ (cS 49189 eS) (cJ (cS 49192 jY) (cJ (cS 49195 gI) (cJ (cS 49198 .bool) (cJ (jJ (cJ .bool (cS 49207 (.int .i64)))) (cJ (cJ (cS 49210 lO) (cJ (cS 49213 jm) (cJ .str (cS 49219 (.int .i64))))) (cJ (cS 49222 fB) (cJ .bool (cJ (cS 49228 .str) (cJ (cS 49231 (.int .i64)) (cJ (cS 49234 (.int .i64)) (cJ CK Y0))))))))))))))))::Z::(oR (cJ (cS 73729 .str) (cJ (cS 73732 bW) (cJ (cJ Y0 (cJ (jJ (jJ (jJ (cS 73756 (.int .i64))))) (cJ (cS 73759 jZ) CK))) (cJ (cS 73765 eS) (cJ (cS 73768 jY) (cJ (cS 73771 gI) (cJ (cS 73774 .bool) (cJ (jJ (cJ .bool (cS 73783 (.int .i64)))) (cJ (cJ (cS 73786 lO) (cJ (cS 73789 jm) (cJ .str (cS 73795 (.int .i64))))) (cJ (cS 73798 fB) (cJ .bool (cJ (cS 73804 .str) (cJ (cS 73807 (.int .i64)) (cJ (cS 73810 (.int .i64)) (cJ CK Y0))))))))))))))))::zs 73 []),.none⟩
def ae6 (X:SD.D P7)(K:gH R):=Pu.mS (λy0 y1 y2=>ke 0 K P7 ((z1 (w y0 (z1 (u y1))) X.1),(z1 (u y2) X.2.1),X.2.2)) X.1.1 (q2 X) X.2.1.1
def ak8:da:=iv P7 ae6 (λX=>(X.1.2.1,q3 X,X.2.1.2.1))
def anj:dY:=dY.nil.add 6 ak8
theorem ajR:ia E ava ara anj (aY Tryz.f108 0):=lk P7 ae6 (λX=>(X.1.2.1,q3 X,X.2.1.2.1)) λX x=>((z1 (w x.1 (z1 (u x.2.1))) X.1),(z1 (u x.2.2) X.2.1),X.2.2)
theorem av5:cV 108 ate:=fk ara ((((((base.add xg).add o30).add o73).add o91).add awA).add awB) Tryz.func108 (Λ:=anj) (cF ajR nF)
def e45:bn:=aM [pf dD,pf acV] [(true,Y2),rI] (c2 Pu.Cf)
theorem o45:cV 45 e45:=f0 {merge:=mg [(1,15)],mv:=[22,34,35]} ((((((((((base.add o30).add o39).add o42).add o73).add o89).add o98).add av3).add ar7).add av4).add av5) Tryz.func45
def e13:bn:=aM [pf uH,pf gV] [(true,Y7),rI] (c2 Pu.xI)
def g13:dK:=(((((((((((((dK.nil.add 10 e10).add 12 e12).add 16 e16).add 22 e22).add 36 e36).add 37 e37).add 38 e38).add 39 e39).add 40 e40).add 41 e41).add 42 e42).add 43 e43).add 44 e44).add 45 e45
def n13:An:={mask:=mk [(10,[4,6,52,53]),(22,[4,6,91,92])],merge:=mg [(2,23)],late:=[67],mv:=[24,114,115,125,131,133],sb:=mg [(4,4),(9,9),(49,6)]}
abbrev Qd:SD:=⟨bs 4 (.ptr 4 0::B::.ptr 6 0::bs 45 (DI::DI::bs 81 [])),zs 4 ((some Y19)::Z::(some Y18)::zs 128 []),.none⟩
def afj (X:SD.D Qd)(K:gH R):=Pu.oY (λy0 y1=>ke 1 K Qd ((z1 (u y0) X.1),(z1 (u y1) X.2.1),X.2.2)) X.1.1 X.2.1.1
def alm:da:=iv Qd afj (λX=>(X.1.2.1,X.2.1.2.1))
abbrev Qe:SD:=⟨bs 4 (.ptr 4 0::B::.ptr 6 0::bs 84 (DI::DI::bs 42 [])),zs 4 ((some Y19)::Z::(some Y18)::zs 128 []),.none⟩
def afk (X:SD.D Qe)(K:gH R):=Pu.lK (λy0 y1=>ke 4 K Qe ((z1 (u y0) X.1),(z1 (u y1) X.2.1),X.2.2)) X.1.1 X.2.1.1
def aln:da:=iv Qe afk (λX=>(X.1.2.1,X.2.1.2.1))
def L13:dY:=(dY.nil.add 10 alm).add 22 aln
theorem aj4:ia E g13 n13 L13 (aY Tryz.f13 0):=lk Qd afj (λX=>(X.1.2.1,X.2.1.2.1)) λX x=>((z1 (u x.1) X.1),(z1 (u x.2) X.2.1),X.2.2)
theorem aj5:ia E g13 n13 L13 (aY Tryz.f13 1):=lk Qe afk (λX=>(X.1.2.1,X.2.1.2.1)) λX x=>((z1 (u x.1) X.1),(z1 (u x.2) X.2.1),X.2.2)
theorem o13:cV 13 e13:=fk n13 ((((((((((((((base.add o10).add o12).add o16).add o22).add o36).add o37).add o38).add o39).add o40).add o41).add o42).add o43).add o44).add o45) Tryz.func13 (Λ:=L13) (cF aj4 (cF aj5 nF))
def e15:bn:=aM [pf (.sl .str)] [rI] (c1 Pu.rR)
theorem o15:cV 15 e15:=f0 {} ((base.add o50).add o51) Tryz.func15
abbrev uh:aw PS:=[pd (.sl (.int .u8))]
def zF:bn:=aM uh [rB] (c1 Pu.wm)
def Fx:dK:=(((((dK.nil.add 7 e7).add 8 e8).add 12 e12).add 13 e13).add 15 e15).add 16 e16
def zW:An:={mask:=mk [(6,[2,3,4,5,6])],merge:=mg [(10,71)],mv:=[33],sb:=mg [(7,7)]}
abbrev jD:SD:=⟨B::B::DB::.ptr 3 0::.data false (.sl .loc gV)::DI::DI::bs 69 [],Z::Z::Z::(oR (cJ (.sl .loc dD) (cJ (.sl .loc bV) (cJ (.sl .loc eL) (cJ (.sl .loc .str) (cJ Y0 (cJ (.sl .loc (.int .i64)) (.sl .loc .str))))))))::zs 72 [],.none⟩
def xX (X:SD.D jD)(K:gH R):=Pu.sB (λy0 y1 y2=>ke 0 K jD ((z2 (w y0 (u y1)) X.1),(u y2 X.2.1),X.2.2)) (λy0 y1 y2 y3=>kr K jD ((w y0 (z1 (w y1 (u y2))) X.1),(u y3 X.2.1),X.2.2)) X.1.1 X.1.2.1
def DE:da:=iv jD xX (λX=>(q2 X,q3 X,X.2.1.1))
def zx:dY:=dY.nil.add 6 DE
theorem DD:ia E Fx zW zx (aY Tryz.f5 0):=lk jD xX (λX=>(q2 X,q3 X,X.2.1.1)) λX x=>((z2 (w x.1 (u x.2.1)) X.1),(u x.2.2 X.2.1),X.2.2)
theorem FO:cV 5 zF:=fk zW ((((((base.add o7).add o8).add o12).add o13).add o15).add o16) Tryz.func5 (Λ:=zx) (cF DD nF)
end
end Go.Proofs.YtgbaemfepmabgaaGreat.Fn
