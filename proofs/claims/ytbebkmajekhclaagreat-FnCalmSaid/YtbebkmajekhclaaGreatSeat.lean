import Derived.Test.YtbebkmajekhclaaGreatDnSig
import Derived.Test.YtbebkmajekhclaaGreatPure
import Derived.Test.YtbebkmajekhclaaGreatRows
/- Each function of the program is its pure function (made by gen.py). -/
namespace Go.Proofs.YtbebkmajekhclaaGreat.Fn
open Go.Dn
open Go.Pu Go.Proofs.Tryz
set_option maxRecDepth 100000
set_option linter.unusedVariables false
noncomputable section
variable {an:An} {Γ:Cn} {Λ:mc} {f:Nat} {P:Program} {A0 A1 A2 A3 A4 A5 A6 A7 C R σ:Type} {rs:aw (Bool×FT)} {s:aw PS}
abbrev sL (R:Type):=Ex->AS->Option R
abbrev EY:FT:=.int .i64
abbrev cS (a b:FT):FT:=.pair a b
abbrev kx (b:FT):FT:=.pair (.int .i64) b
abbrev cX (n:Nat)(t:CT):FT:=.sl (.own (some n)) t
abbrev qO (t:FT):Option FT:=some t
abbrev cL (t:FT):PD:=.data false t
abbrev jP (t:FT):PD:=.data true t
abbrev jI (t:CT):FT:=.sl .arg t
abbrev LZ:=jl Tryz.prog
abbrev B:PD:=.bot
abbrev DI:PD:=.data false (.int .i64)
abbrev DB:PD:=.data false .bool
abbrev Z:aB FT:=none
theorem nF {p:Code->Prop}:∀x∈([]:aw Code),p x:=λ_ h=>nomatch h
theorem cF {p:Code->Prop}{a:Code}{l:aw Code}(h:p a)(t:∀x∈l,p x):∀x∈a::l,p x:=List.forall_mem_cons.2 ⟨h,t⟩
theorem hF {p:Code->Prop}{l m:aw Code}(e:l=m)(h:∀x∈m,p x):∀x∈l,p x:=e▸h
theorem fk {E:Env}{F:DY s->aB (mx rs)}{fn:Func}(an:An)(hS:Sound P E Γ)(hf:P.funcs[f]?=some fn){l:aw Code}(h:∀c∈l,xo E Γ an Λ c)(hn:(fn.name== "runtime.NumGoroutine")=false:=by kernel_rfl)(hl:jr (fn.body.getD .skip)=l:=by kernel_rfl)(gD:an.cut=[]:=by kernel_rfl)(hF:∀a,GD E Γ an Λ fn rs (nh s a)=F a:=by intro a;kernel_rfl):jl P f (TX s rs F):=jl.of (agR hS hf hn (Cm.of (Fn.hF hl h) gD)) hF
theorem ao {E:Env}{b:Code}{l:aw Code}(h:∀c∈l,xo E Γ an Λ c)(hl:jr b=l:=by kernel_rfl)(hc:an.cut=[]:=by kernel_rfl):Cm E Γ an Λ b:=Cm.of (Fn.hF hl h) hc
theorem ac {E:Env}{b:Code}{l m:aw Code}(h:∀c∈l,xo E Γ an Λ c)(hc:∀c∈m,SE E Γ an Λ c)(hl:jr b=l:=by kernel_rfl)(hm:mE an.cut b=m:=by kernel_rfl):Cm E Γ an Λ b:=⟨Fn.hF hl h,Fn.hF hm hc⟩
theorem fc {E:Env}{F:DY s->aB (mx rs)}{fn:Func}(an:An)(hS:Sound P E Γ)(hf:P.funcs[f]?=some fn){l m:aw Code}(h:∀c∈l,xo E Γ an Λ c)(hc:∀c∈m,SE E Γ an Λ c)(hn:(fn.name== "runtime.NumGoroutine")=false:=by kernel_rfl)(hl:jr (fn.body.getD .skip)=l:=by kernel_rfl)(hm:mE an.cut (fn.body.getD .skip)=m:=by kernel_rfl)(hF:∀a,GD E Γ an Λ fn rs (nh s a)=F a:=by intro a;kernel_rfl):jl P f (TX s rs F):=jl.of (agR hS hf hn ⟨Fn.hF hl h,Fn.hF hm hc⟩) hF
abbrev pd (t:CT):PS:=.data false t
abbrev pf (t:CT):PS:=.data true t
abbrev pI:PS:=.data false (.int .i64)
abbrev rB:Bool×FT:=(false,.bool)
abbrev rI:Bool×FT:=(false,.int .i64)
abbrev rS:Bool×FT:=(false,.str)
abbrev bs:Nat->aw PD->aw PD|0,l=>l|n+1,l=> .bot::bs n l
abbrev zs:Nat->aw (aB FT)->aw (aB FT)|0,l=>l|n+1,l=>none::zs n l
def mk (l:aw (Nat×fM))(n:Nat):fM:=(l.lookup n).getD []
def mg (l:aw (Nat×Nat))(n:Nat):aB Nat:=l.lookup n
def ke (n:Nat)(K:sL R)(d:SD)(x:SD.D d):aB R:=K (.exit n) (SD.enc d x)
def kn (K:sL R)(d:SD)(x:SD.D d):aB R:=K .normal (SD.enc d x)
def kr (K:sL R)(d:SD)(x:SD.D d):aB R:=K .ret (SD.enc d x)
def yF (d:SD)(t:{R:Type}->SD.D d->(Ex->AS->aB R)->(σ->aB R)->σ->aB R)(i:SD.D d->σ):L3:=⟨d,λX K=>bj (t X K) fuel (i X)⟩
theorem lk {E:Env}{c:Code}(d:SD)(t:{R:Type}->SD.D d->(Ex->AS->aB R)->(σ->aB R)->σ->aB R)(i:SD.D d->σ)(w:SD.D d->σ->SD.D d)(h1:Λ (fC c)=yF d t i:=by kernel_rfl)(h:∀(R:Type)(X:SD.D d)(K:sL R)(m:Nat)(x:σ),DJ (an.mask (fC c)) (den E Γ an Λ c) (m+1) (SD.enc d (w X x)) K=t X K (λy=>DJ (an.mask (fC c)) (den E Γ an Λ c) m (SD.enc d (w X y)) K) x:=by intro R X K m x;kernel_rfl)(hw:∀X,w X (i X)=X:=by intro X;kernel_rfl):xo E Γ an Λ c:=lok (yF d t i) h1 fuel λR X K=>(UK (λx=>SD.enc d (w X x)) (t X K) (h R X K) fuel (i X)).symm.trans (congrArg (λy=>DJ (an.mask (fC c)) (den E Γ an Λ c) fuel (SD.enc d y) K) (hw X))
def Xc (d:SD)(t:{R:Type}->SD.D d->(Ex->AS->aB R)->aB R):L3:=⟨d,λX K=>t X K⟩
theorem ck {E:Env}{c:Code}(d:SD)(t:{R:Type}->SD.D d->(Ex->AS->aB R)->aB R)(h1:Λ (Gt c)=Xc d t:=by kernel_rfl)(h:∀(R:Type)(X:SD.D d)(K:sL R),t X K=den E Γ an Λ c (SD.enc d X) (λe cj=>K e (cj.mask (an.mask (Gt c+1)))):=by intro R X K;kernel_rfl):SE E Γ an Λ c:=cok (Xc d t) h1 h
def u {A B:Type}(y:A)(x:A×B):A×B:=(y,x.2)
def w {A B:Type}(y:A)(f:B->B)(x:A×B):A×B:=(y,f x.2)
def z1 {B:Type}(f:B->B)(x:A0×B):A0×B:=(x.1,f x.2)
def z2 {B:Type}(f:B->B)(x:A0×A1×B):A0×A1×B:=(x.1,x.2.1,f x.2.2)
def z3 {B:Type}(f:B->B)(x:A0×A1×A2×B):A0×A1×A2×B:=(x.1,x.2.1,x.2.2.1,f x.2.2.2)
def z4 {B:Type}(f:B->B)(x:A0×A1×A2×A3×B):A0×A1×A2×A3×B:=(x.1,x.2.1,x.2.2.1,x.2.2.2.1,f x.2.2.2.2)
def z5 {B:Type}(f:B->B)(x:A0×A1×A2×A3×A4×B):A0×A1×A2×A3×A4×B:=(x.1,x.2.1,x.2.2.1,x.2.2.2.1,x.2.2.2.2.1,f x.2.2.2.2.2)
def z6 {B:Type}(f:B->B)(x:A0×A1×A2×A3×A4×A5×B):A0×A1×A2×A3×A4×A5×B:=(x.1,x.2.1,x.2.2.1,x.2.2.2.1,x.2.2.2.2.1,x.2.2.2.2.2.1,f x.2.2.2.2.2.2)
def z7 {B:Type}(f:B->B)(x:A0×A1×A2×A3×A4×A5×A6×B):A0×A1×A2×A3×A4×A5×A6×B:=(x.1,x.2.1,x.2.2.1,x.2.2.2.1,x.2.2.2.2.1,x.2.2.2.2.2.1,x.2.2.2.2.2.2.1,f x.2.2.2.2.2.2.2)
def z8 {B:Type}(f:B->B)(x:A0×A1×A2×A3×A4×A5×A6×A7×B):A0×A1×A2×A3×A4×A5×A6×A7×B:=(x.1,x.2.1,x.2.2.1,x.2.2.2.1,x.2.2.2.2.1,x.2.2.2.2.2.1,x.2.2.2.2.2.2.1,x.2.2.2.2.2.2.2.1,f x.2.2.2.2.2.2.2.2)
def q2 {B:Type}(x:(A0×A1×A2×B)×C):A2:=x.1.2.2.1
def q3 {B:Type}(x:(A0×A1×A2×A3×B)×C):A3:=x.1.2.2.2.1
def q4 {B:Type}(x:(A0×A1×A2×A3×A4×B)×C):A4:=x.1.2.2.2.2.1
def q5 {B:Type}(x:(A0×A1×A2×A3×A4×A5×B)×C):A5:=x.1.2.2.2.2.2.1
def q6 {B:Type}(x:(A0×A1×A2×A3×A4×A5×A6×B)×C):A6:=x.1.2.2.2.2.2.2.1
def q7 {B:Type}(x:(A0×A1×A2×A3×A4×A5×A6×A7×B)×C):A7:=x.1.2.2.2.2.2.2.2.1
def q8 {A8 B:Type}(x:(A0×A1×A2×A3×A4×A5×A6×A7×A8×B)×C):A8:=x.1.2.2.2.2.2.2.2.2.1
def q9 {A8 A9 B:Type}(x:(A0×A1×A2×A3×A4×A5×A6×A7×A8×A9×B)×C):A9:=x.1.2.2.2.2.2.2.2.2.2.1
def q10 {A8 A9 A10 B:Type}(x:(A0×A1×A2×A3×A4×A5×A6×A7×A8×A9×A10×B)×C):A10:=x.1.2.2.2.2.2.2.2.2.2.2.1
def c1 {B:Type}(f:A0->R)(a:A0×B):R:=f a.1
def c2 {B:Type}(f:A0->A1->R)(a:A0×A1×B):R:=f a.1 a.2.1
def c3 {B:Type}(f:A0->A1->A2->R)(a:A0×A1×A2×B):R:=f a.1 a.2.1 a.2.2.1
def c4 {B:Type}(f:A0->A1->A2->A3->R)(a:A0×A1×A2×A3×B):R:=f a.1 a.2.1 a.2.2.1 a.2.2.2.1
def c5 {B:Type}(f:A0->A1->A2->A3->A4->R)(a:A0×A1×A2×A3×A4×B):R:=f a.1 a.2.1 a.2.2.1 a.2.2.2.1 a.2.2.2.2.1
def c6 {B:Type}(f:A0->A1->A2->A3->A4->A5->R)(a:A0×A1×A2×A3×A4×A5×B):R:=f a.1 a.2.1 a.2.2.1 a.2.2.2.1 a.2.2.2.2.1 a.2.2.2.2.2.1
def c7 {B:Type}(f:A0->A1->A2->A3->A4->A5->A6->R)(a:A0×A1×A2×A3×A4×A5×A6×B):R:=f a.1 a.2.1 a.2.2.1 a.2.2.2.1 a.2.2.2.2.1 a.2.2.2.2.2.1 a.2.2.2.2.2.2.1
theorem f0 {E:Env}{F:DY s->aB (mx rs)}{fn:Func}(an:An)(hS:Sound P E Γ)(hf:P.funcs[f]?=some fn)(hn:(fn.name== "runtime.NumGoroutine")=false:=by kernel_rfl)(hl:jr (fn.body.getD .skip)=[]:=by kernel_rfl)(gD:an.cut=[]:=by rfl)(hF:∀a,GD E Γ an mc.nil fn rs (nh s a)=F a:=by intro a;kernel_rfl):jl P f (TX s rs F):=jl.of (agR hS hf hn (Cm.of (Fn.hF hl nF) gD)) hF
abbrev Y8:FT:=kx (kx EY)
abbrev Y0:FT:=cS EY Y8
abbrev Y23:FT:=kx (kx (kx .str))
abbrev Y26:FT:=kx (kx (cS EY Y23))
abbrev Y1:FT:=kx (kx (kx (kx (kx (kx (kx (kx (cS EY Y26))))))))
abbrev Y11:FT:=kx (kx (kx (.sl (.own none) (.int .i64))))
abbrev Y24:FT:=cS Y0 (cS Y11 (cS (.sl (.own none) lB) EY))
abbrev Y19:FT:=kx (cS .bool (.sl (.own none) (.int .i64)))
abbrev Y28:FT:=cS (.sl (.own none) nw) (cS (.sl (.own none) kl) (cS .str (.sl (.own none) (.int .i64))))
abbrev Y2:FT:=cS (.sl (.own none) .str) (cS (.sl (.own none) bX) (cS Y24 (cS (.sl (.own none) fA) (cS (.sl (.own none) lA) (cS (.sl (.own none) ix) (cS (.sl (.own none) .bool) (cS Y19 (cS Y28 (cS (.sl (.own none) fX) (cS .bool (cS (.sl (.own none) .str) (cS (.sl (.own none) (.int .i64)) (cS (.sl (.own none) (.int .i64)) (cS EY Y0))))))))))))))
abbrev Y3:FT:=cS (cX 24577 .str) (cS (cX 24580 bX) (cS (cS Y0 (cS (kx (kx (kx (cX 24604 (.int .i64))))) (cS (cX 24607 lB) EY))) (cS (cX 24613 fA) (cS (cX 24616 lA) (cS (cX 24619 ix) (cS (cX 24622 .bool) (cS (kx (cS .bool (cX 24631 (.int .i64)))) (cS (cS (cX 24634 nw) (cS (cX 24637 kl) (cS .str (cX 24643 (.int .i64))))) (cS (cX 24646 fX) (cS .bool (cS (cX 24652 .str) (cS (cX 24655 (.int .i64)) (cS (cX 24658 (.int .i64)) (cS EY Y0))))))))))))))
abbrev Y4:FT:=cS (cX 36865 .str) (cS (cX 36868 bX) (cS (cS Y0 (cS (kx (kx (kx (cX 36892 (.int .i64))))) (cS (cX 36895 lB) EY))) (cS (cX 36901 fA) (cS (cX 36904 lA) (cS (cX 36907 ix) (cS (cX 36910 .bool) (cS (kx (cS .bool (cX 36919 (.int .i64)))) (cS (cS (cX 36922 nw) (cS (cX 36925 kl) (cS .str (cX 36931 (.int .i64))))) (cS (cX 36934 fX) (cS .bool (cS (cX 36940 .str) (cS (cX 36943 (.int .i64)) (cS (cX 36946 (.int .i64)) (cS EY Y0))))))))))))))
abbrev Y5:FT:=cS (.sl (.own none) dT) (cS (.sl (.own none) cp) (cS (.sl (.own none) fy) (cS (.sl (.own none) .str) (cS Y0 (cS (.sl (.own none) (.int .i64)) (.sl (.own none) .str))))))
abbrev Y18:FT:=kx (kx (kx (.sl .arg (.int .i64))))
abbrev Y27:FT:=cS Y0 (cS Y18 (cS (.sl .arg lB) EY))
abbrev Y25:FT:=kx (cS .bool (.sl .arg (.int .i64)))
abbrev Y22:FT:=cS (.sl .arg nw) (cS (.sl .arg kl) (cS .str (.sl .arg (.int .i64))))
abbrev Y6:FT:=cS (.sl .arg .str) (cS (.sl .arg bX) (cS Y27 (cS (.sl .arg fA) (cS (.sl .arg lA) (cS (.sl .arg ix) (cS (.sl .arg .bool) (cS Y25 (cS Y22 (cS (.sl .arg fX) (cS .bool (cS (.sl .arg .str) (cS (.sl .arg (.int .i64)) (cS (.sl .arg (.int .i64)) (cS EY Y0))))))))))))))
abbrev Y7:FT:=cS (.sl .Bp (.int .u8)) (kx EY)
abbrev Y9:FT:=cS (cX 73729 dT) (cS (cX 73732 cp) (cS (cX 73735 fy) (cS (cX 73738 .str) (cS Y0 (cS (cX 73753 (.int .i64)) (cX 73756 .str))))))
abbrev Y10:FT:=cS (cX 24577 dT) (cS (cX 24580 cp) (cS (cX 24583 fy) (cS (cX 24586 .str) (cS Y0 (cS (cX 24601 (.int .i64)) (cX 24604 .str))))))
abbrev Y12:FT:=cS (cX 86017 dT) (cS (cX 86020 cp) (cS (cX 86023 fy) (cS (cX 86026 .str) (cS Y0 (cS (cX 86041 (.int .i64)) (cX 86044 .str))))))
abbrev Y13:FT:=cS (cX 196609 .str) (cS (cX 196612 bX) (cS (cS Y0 (cS (kx (kx (kx (cX 196636 (.int .i64))))) (cS (cX 196639 lB) EY))) (cS (cX 196645 fA) (cS (cX 196648 lA) (cS (cX 196651 ix) (cS (cX 196654 .bool) (cS (kx (cS .bool (cX 196663 (.int .i64)))) (cS (cS (cX 196666 nw) (cS (cX 196669 kl) (cS .str (cX 196675 (.int .i64))))) (cS (cX 196678 fX) (cS .bool (cS (cX 196684 .str) (cS (cX 196687 (.int .i64)) (cS (cX 196690 (.int .i64)) (cS EY Y0))))))))))))))
abbrev Y14:FT:=cS (cX 147457 .str) (cS (cX 147460 bX) (cS (cS Y0 (cS (kx (kx (kx (cX 147484 (.int .i64))))) (cS (cX 147487 lB) EY))) (cS (cX 147493 fA) (cS (cX 147496 lA) (cS (cX 147499 ix) (cS (cX 147502 .bool) (cS (kx (cS .bool (cX 147511 (.int .i64)))) (cS (cS (cX 147514 nw) (cS (cX 147517 kl) (cS .str (cX 147523 (.int .i64))))) (cS (cX 147526 fX) (cS .bool (cS (cX 147532 .str) (cS (cX 147535 (.int .i64)) (cS (cX 147538 (.int .i64)) (cS EY Y0))))))))))))))
abbrev Y15:FT:=cS (cX 49153 dT) (cS (cX 49156 cp) (cS (cX 49159 fy) (cS (cX 49162 .str) (cS Y0 (cS (cX 49177 (.int .i64)) (cX 49180 .str))))))
abbrev Y16:FT:=kx (kx (cS (kx (cS Y1 (kx (kx (cS .str EY))))) (cS Y8 (cS .str EY))))
abbrev Y17:FT:=kx (kx (kx (kx (cS .bool .bool))))
abbrev Y20:FT:=cS Y0 (cS Y8 (cS Y8 (cS (cS Y1 (kx EY)) (cS .bool EY))))
abbrev Y21:FT:=cS (.sl .loc dT) (cS (.sl .loc cp) (cS (.sl .loc fy) (cS (.sl .loc .str) (cS Y0 (cS (.sl .loc (.int .i64)) (.sl .loc .str))))))
abbrev Y29:FT:=kx (kx (kx (cX 184330 (.int .i64))))
abbrev Y30:FT:=kx (kx (kx (cX 147466 (.int .i64))))
abbrev Y31:FT:=kx (kx (kx (cX 98314 (.int .i64))))
abbrev Y32:FT:=kx (kx (kx (cX 73738 (.int .i64))))
def E:Env:={ty:=[(3,⟨false,(.int .i64),[]⟩),(4,⟨false,.bool,[]⟩),(5,⟨false,(.int .u8),[]⟩),(9,⟨false,.str,[]⟩),(22,⟨false,(.sl (.int .u8)),[(5,0)]⟩),(24,⟨false,(.sl dT),[(70,0)]⟩),(25,⟨false,(.sl cp),[(98,0)]⟩),(26,⟨false,(.sl fy),[(91,0)]⟩),(27,⟨false,(.sl .str),[(9,0)]⟩),(29,⟨true,(.sl .str),[(0,1)]⟩),(31,⟨true,jW,[(0,1),(1,1),(2,1),(3,1)]⟩),(32,⟨false,(.sl (.int .i64)),[(3,0)]⟩),(34,⟨true,uZ,[(0,1),(1,1),(2,1),(3,1),(4,4),(8,1),(9,1)]⟩),(35,⟨false,(.sl iM),[(89,0)]⟩),(43,⟨true,(.sl .str),[(0,1)]⟩),(44,⟨false,(.sl bX),[(150,0)]⟩),(46,⟨true,jW,[(0,1),(1,1),(2,1),(3,1)]⟩),(48,⟨true,lA,[(0,1),(1,1),(2,1),(3,1)]⟩),(49,⟨false,(.sl lB),[(236,0)]⟩),(51,⟨true,oQ,[(0,4),(4,4),(8,1),(9,1)]⟩),(52,⟨false,(.sl fA),[(80,0)]⟩),(53,⟨false,(.sl lA),[(48,0)]⟩),(54,⟨false,(.sl ix),[(190,0)]⟩),(55,⟨false,(.sl .bool),[(4,0)]⟩),(57,⟨true,qj,[(0,1),(1,1),(2,1)]⟩),(58,⟨false,(.sl nw),[(171,0)]⟩),(59,⟨false,(.sl kl),[(255,0)]⟩),(61,⟨true,(.sl kl),[(0,1)]⟩),(63,⟨true,HH,[(0,1),(1,1)]⟩),(65,⟨true,tL,[(0,1),(1,1),(2,2)]⟩),(66,⟨false,(.sl fX),[(163,0)]⟩),(68,⟨true,vc,[(0,1),(1,1),(2,1),(3,1),(4,1)]⟩),(70,⟨true,dT,[(0,1),(1,1),(2,10),(12,1),(13,1),(14,1),(15,1),(16,3),(19,4),(23,1),(24,1),(25,1),(26,1),(27,1),(28,5)]⟩),(72,⟨true,jx,[(0,1),(1,1),(2,1)]⟩),(74,⟨true,Ep,[(0,1),(1,1),(2,1),(3,1),(4,1),(5,1),(6,1),(7,1)]⟩),(76,⟨true,dF,[(0,1),(1,1),(2,1),(3,1),(4,1),(5,1),(6,1),(7,1),(8,8)]⟩),(78,⟨true,VJ,[(0,16),(16,1),(17,1)]⟩),(80,⟨true,fA,[(0,4),(4,3),(7,3),(10,18),(28,1),(29,1)]⟩),(85,⟨true,am7,[(0,1),(1,16),(17,1),(18,1),(19,1),(20,1)]⟩),(87,⟨true,jx,[(0,1),(1,1),(2,1)]⟩),(89,⟨true,iM,[(0,1),(1,1),(2,21),(23,3),(26,1),(27,1)]⟩),(91,⟨true,fy,[(0,3),(3,1),(4,1),(5,1)]⟩),(96,⟨true,jx,[(0,1),(1,1),(2,1)]⟩),(98,⟨true,cp,[(0,1),(1,1),(2,3),(5,1),(6,1),(7,1)]⟩),(123,⟨true,vc,[(0,1),(1,1),(2,1),(3,1),(4,1)]⟩),(126,⟨false,(.sl mC),[(202,0)]⟩),(141,⟨false,(.sl sR),[(234,0)]⟩),(150,⟨true,bX,[(0,1),(1,1),(2,1),(3,1)]⟩),(152,⟨false,(.sl dF),[(76,0)]⟩),(161,⟨true,vc,[(0,1),(1,1),(2,1),(3,1),(4,1)]⟩),(163,⟨true,fX,[(0,5),(5,1),(6,1),(7,1)]⟩),(166,⟨true,(.pair (.sl (.int .u8)) (.pair (.int .i64) (.int .i64))),[(0,1),(1,1),(2,1)]⟩),(171,⟨true,nw,[(0,1),(1,1),(2,1),(3,1),(4,1),(5,1),(6,1),(7,1),(8,1)]⟩),(190,⟨true,ix,[(0,1),(1,1),(2,1),(3,1),(4,1),(5,1)]⟩),(202,⟨true,mC,[(0,1),(1,1),(2,1),(3,1)]⟩),(219,⟨true,ajf,[(0,1),(1,1),(2,1),(3,1),(4,1)]⟩),(223,⟨true,TIp,[(0,1),(1,1),(2,1),(3,1),(4,1),(5,1),(6,1)]⟩),(234,⟨true,sR,[(0,1),(1,1),(2,1),(3,1)]⟩),(236,⟨true,lB,[(0,1),(1,1),(2,1)]⟩),(255,⟨true,kl,[(0,1),(1,5),(6,1)]⟩),(285,⟨false,(.sl jQ),[(289,0)]⟩),(289,⟨true,jQ,[(0,1),(1,1)]⟩),(312,⟨true,qf,[(0,1),(1,1),(2,1),(3,1),(4,1),(5,1)]⟩),(368,⟨false,(.sl jQ),[(398,0)]⟩),(371,⟨false,(.sl qf),[(312,0)]⟩),(385,⟨false,(.int .u32),[]⟩),(398,⟨true,jQ,[(0,1),(1,1)]⟩)],eqs:=[(76,[.int,.int,.int,.int,.int,.int,.int,.int,.int,.int,.int,.int,.int,.int,.int,.str]),(78,[.int,.int,.int,.int,.int,.int,.int,.int,.int,.int,.int,.int,.int,.int,.int,.str,.int,.int]),(161,[.int,.int,.int,.int,.int]),(312,[.int,.int,.int,.int,.int,.int])],fts:=[]}
theorem base:Sound Tryz.prog E Cn.nil:=Sound.nil (aab (by kernel_rfl)) (aae (by kernel_rfl)) (aad (by kernel_rfl)) (by kernel_rfl)
structure SG where (g:Cn) (s:Sound Tryz.prog E g)
def SG.add (S:SG){F:lK}(h:LZ f F):SG:=⟨S.g.add f F,S.s.add h⟩
def G0:SG:=⟨Cn.nil,base⟩
def SG.q0 (S:SG){fn:Func}(an:An)(hf:Tryz.prog.funcs[f]?=some fn)(s:aw PS)(rs:aw (Bool×FT))(F:DY s->aB (mx rs))(hn:(fn.name== "runtime.NumGoroutine")=false:=by kernel_rfl)(hl:jr (fn.body.getD .skip)=[]:=by kernel_rfl)(gD:an.cut=[]:=by rfl)(hF:∀a,GD E S.g an mc.nil fn rs (nh s a)=F a:=by intro a;kernel_rfl):SG:=S.add (jl.of (agR S.s hf hn (Cm.of (Fn.hF hl nF) gD)) hF)
def SG.qk (S:SG){fn:Func}(an:An)(hf:Tryz.prog.funcs[f]?=some fn)(s:aw PS)(rs:aw (Bool×FT))(F:DY s->aB (mx rs)){l:aw Code}(h:∀c∈l,xo E S.g an Λ c)(hn:(fn.name== "runtime.NumGoroutine")=false:=by kernel_rfl)(hl:jr (fn.body.getD .skip)=l:=by kernel_rfl)(gD:an.cut=[]:=by kernel_rfl)(hF:∀a,GD E S.g an Λ fn rs (nh s a)=F a:=by intro a;kernel_rfl):SG:=S.add (jl.of (agR S.s hf hn (Cm.of (Fn.hF hl h) gD)) hF)
def SG.q1 (S:SG){fn:Func}(an:An)(hf:Tryz.prog.funcs[f]?=some fn)(s:aw PS)(rs:aw (Bool×FT))(F:DY s->aB (mx rs))(d:SD)(t:{R:Type}->SD.D d->(Ex->AS->aB R)->(σ->aB R)->σ->aB R)(i:SD.D d->σ)(w:SD.D d->σ->SD.D d)(h1:(mc.nil.add (fC (cH fn 0)) (yF d t i)) (fC (cH fn 0))=yF d t i:=by kernel_rfl)(h:∀(R:Type)(X:SD.D d)(K:sL R)(m:Nat)(x:σ),DJ (an.mask (fC (cH fn 0))) (den E S.g an (mc.nil.add (fC (cH fn 0)) (yF d t i)) (cH fn 0)) (m+1) (SD.enc d (w X x)) K=t X K (λy=>DJ (an.mask (fC (cH fn 0))) (den E S.g an (mc.nil.add (fC (cH fn 0)) (yF d t i)) (cH fn 0)) m (SD.enc d (w X y)) K) x:=by intro R X K m x;kernel_rfl)(hw:∀X,w X (i X)=X:=by intro X;kernel_rfl)(hn:(fn.name== "runtime.NumGoroutine")=false:=by kernel_rfl)(hl:jr (fn.body.getD .skip)=[cH fn 0]:=by kernel_rfl)(gD:an.cut=[]:=by kernel_rfl)(hF:∀a,GD E S.g an (mc.nil.add (fC (cH fn 0)) (yF d t i)) fn rs (nh s a)=F a:=by intro a;kernel_rfl):SG:=S.add (jl.of (agR S.s hf hn (Cm.of (Fn.hF hl (cF (lk d t i w h1 h hw) nF)) gD)) hF)
def G7:=G0.q0 {} func7 [pd (.sl (.int .u8))] [rB] (c1 K7)
def e25:lK:=acJ (.pair (.sl .arg (.int .u8)) (.pair (.int .i64) (.int .i64))) [pd (.sl (.int .u8))] λa=>DS a.1
def n25:An:={mask:=mk [(3,[0,3,4])],merge:=mg [(3,15)]}
abbrev aeZ:SD:=⟨cL (jI (.int .u8))::B::B::DI::DI::bs 27 [],zs 32 [],.none⟩
def aph (X:SD.D aeZ)(K:sL R):=C5 (λy0 y1=>ke 0 K aeZ ((z1 (w y0 (u y1)) X.1),X.2)) X.1.1
def L25:mc:=mc.nil.add 3 (yF aeZ aph (λX=>(X.1.2.1,q2 X)))
theorem asO:xo E G7.g n25 L25 (cH f25 0):=lk aeZ aph (λX=>(X.1.2.1,q2 X)) λX x=>((z1 (w x.1 (u x.2)) X.1),X.2)
theorem o25:LZ 25 e25:=jl.as7 (ar9 (Γ:=G7.g) (an:=n25) (Λ:=L25) (G7.s) func25 (by kernel_rfl) (ao (cF asO nF))) (λa=>by kernel_rfl)
def G25:=G7.add o25
def awV:lK:=lf (.pair (.sl .Bp (.int .u8)) (.pair (.int .i64) (.int .i64))) [] [rI] λx a=>lV x
theorem axK:LZ 151 awV:=jl.tA (sW (an:={}) (Λ:=mc.nil) (G25.s) func151 (by kernel_rfl) (ao nF)) (λx a=>by kernel_rfl)
def arB:=G25.add axK
def e60:lK:=lf (.pair (.sl .Bp (.int .u8)) (.pair (.int .i64) (.int .i64))) [pI] [rI] λx a=>dv x a.1
theorem o60:LZ 60 e60:=jl.tA (sW (an:={}) (Λ:=mc.nil) (arB.s) func60 (by kernel_rfl) (ao nF)) (λx a=>by kernel_rfl)
def G60:=arB.add o60
def G72:=G60.q0 {} func72 [] [(true,(.sl (.own none) kl))] (λa=>vL)
def awW:lK:=lf (.pair (.sl .Bp (.int .u8)) (.pair (.int .i64) (.int .i64))) [pI] [rS] λx a=>lW x a.1
def as3:An:={mask:=mk [(5,[0,1,5,6])],mv:=[15]}
abbrev V2:SD:=⟨.ptr 0 0::DI::B::B::B::cL (cX 61440 (.int .u8))::DI::bs 16 [],(some Y7)::zs 22 [],.ptr⟩
def amr (X:SD.D V2)(K:sL R):=rl (λy0 y1 y2=>ke 0 K V2 ((z1 (w y0 (u y1)) X.1),(u y2 X.2.1),X.2.2)) X.1.1
def arO:mc:=mc.nil.add 5 (yF V2 amr (λX=>(X.1.2.1,q2 X,X.2.1.1)))
theorem aqz:xo E G72.g as3 arO (cH f178 0):=lk V2 amr (λX=>(X.1.2.1,q2 X,X.2.1.1)) λX x=>((z1 (w x.1 (u x.2.1)) X.1),(u x.2.2 X.2.1),X.2.2)
theorem axL:LZ 178 awW:=jl.tA (sW (Γ:=G72.g) (an:=as3) (Λ:=arO) (G72.s) func178 (by kernel_rfl) (ao (cF aqz nF))) (λx a=>by kernel_rfl)
def arC:=G72.add axL
def e73:lK:=lf (.pair (.sl .Bp (.int .u8)) (.pair (.int .i64) (.int .i64))) [] [rS] λx a=>DT x
theorem o73:LZ 73 e73:=jl.tA (sW (an:={}) (Λ:=mc.nil) (arC.s) func73 (by kernel_rfl) (ao nF)) (λx a=>by kernel_rfl)
def G73:=arC.add o73
def e74:lK:=lf (.pair (.sl .Bp (.int .u8)) (.pair (.int .i64) (.int .i64))) [pI] [rB] λx a=>gZ x a.1
theorem o74:LZ 74 e74:=jl.tA (sW (an:={}) (Λ:=mc.nil) (G73.s) func74 (by kernel_rfl) (ao nF)) (λx a=>by kernel_rfl)
def G74:=G73.add o74
def e75:lK:=lf (.pair (.sl .Bp (.int .u8)) (.pair (.int .i64) (.int .i64))) [pd (.sl (.int .i64))] [rI] λx a=>dx x a.1
theorem o75:LZ 75 e75:=jl.tA (sW (an:={}) (Λ:=mc.nil) (G74.s) func75 (by kernel_rfl) (ao nF)) (λx a=>by kernel_rfl)
def G75:=G74.add o75
def au2:=G75.q0 {sb:=mg [(2,2)]} func253 [pf qj] [(true,Y19)] (c1 yy)
def atV:=au2.q0 {mv:=[7]} func155 [pf fy] [(true,(.pair Y19 Y8))] (c1 B4)
def atR:=atV.q0 {merge:=mg [(1,6)]} func144 [pI,pI,pI] [rB] (c3 bh)
abbrev acg:SD:=⟨B::.ptr 1 0::DB::DI::bs 41 [],Z::(some Y25)::zs 43 [],.none⟩
def atQ:=atR.q1 {mask:=mk [(2,[1,2,3])],merge:=mg [(4,35),(6,2)]} func143 [pf qj] [rB] (c1 rM) acg (λX K=>uA (λy0=>ke 0 K acg ((z1 (u y0) X.1),X.2)) (λy0 y1=>kr K acg ((w y0 (u y1) X.1),X.2)) X.1.1 X.2.1.1) (λX=>X.1.2.1) (λX x=>((z1 (u x) X.1),X.2))
def au4:=atQ.q0 {merge:=mg [(1,2)]} func255 [pf fy] [rB] (c1 yq)
abbrev acx:SD:=⟨cL (jI (.int .i64))::DI::B::B::DB::DI::bs 12 [],zs 18 [],.none⟩
def apL:=au4.q1 {mask:=mk [(2,[0,1,4,5])]} func342 [pd (.sl (.int .i64)),pI] [rB] (c2 AI) acx (λX K=>yA (λy0=>ke 0 K acx ((z3 (u y0) X.1),X.2)) (λy0 y1=>kr K acx ((z2 (w y0 (u y1)) X.1),X.2)) X.1.1 X.1.2.1 (q2 X)) q3 (λX x=>((z3 (u x) X.1),X.2))
def aq6:An:={mask:=mk [(3,[1,5,6]),(7,[1,5,6,7])],merge:=mg [(7,37)],mv:=[55]}
abbrev V9:SD:=⟨B::cL (jI (.int .i64))::B::B::B::cL (cX 61440 (.int .i64))::DI::DI::bs 48 [],zs 56 [],.none⟩
def amz (X:SD.D V9)(K:sL R):=uJ (λy0=>ke 2 K V9 ((z3 (u y0) X.1),X.2)) X.1.1 X.1.2.1 (q2 X)
abbrev V8:SD:=⟨B::cL (jI (.int .i64))::B::B::B::cL (cX 61440 (.int .i64))::DI::bs 49 [],zs 56 [],.none⟩
def amy (X:SD.D V8)(K:sL R):=pZ (λy0 y1=>ke 0 K V8 ((z1 (w y0 (u y1)) X.1),X.2)) X.1.1
def arT:mc:=(mc.nil.add 7 (yF V9 amz q3)).add 3 (yF V8 amy (λX=>(X.1.2.1,q2 X)))
theorem aqH:xo E apL.g aq6 arT (cH f256 1):=lk V9 amz q3 λX x=>((z3 (u x) X.1),X.2)
theorem aqG:xo E apL.g aq6 arT (cH f256 0):=lk V8 amy (λX=>(X.1.2.1,q2 X)) λX x=>((z1 (w x.1 (u x.2)) X.1),X.2)
def apG:=apL.qk aq6 func256 [pd (.sl (.int .i64)),pd (.sl (.int .i64))] [(false,(.sl (.own none) (.int .i64)))] (c2 vP) (cF aqG (cF aqH nF))
def aq7:An:={mask:=mk [(4,[0,2,3]),(9,[0,2,3,4])]}
abbrev P3:SD:=⟨cL (jI mC)::B::DB::DI::DI::bs 53 [],zs 58 [],.none⟩
def amB (X:SD.D P3)(K:sL R):=wv (λy0=>ke 2 K P3 ((z3 (u y0) X.1),X.2)) (λy0 y1=>kr K P3 ((z1 (w y0 (z1 (u y1))) X.1),X.2)) X.1.1 X.1.2.1 (q2 X)
abbrev P1:SD:=⟨cL (jI mC)::B::DB::DI::bs 54 [],zs 58 [],.none⟩
def amA (X:SD.D P1)(K:sL R):=wu (λy0=>ke 0 K P1 ((z2 (u y0) X.1),X.2)) (λy0 y1=>kr K P1 ((z1 (w y0 (u y1)) X.1),X.2)) X.1.1 X.1.2.1
def arU:mc:=(mc.nil.add 9 (yF P3 amB q3)).add 4 (yF P1 amA q2)
theorem aqJ:xo E apG.g aq7 arU (cH f257 1):=lk P3 amB q3 λX x=>((z3 (u x) X.1),X.2)
theorem aqI:xo E apG.g aq7 arU (cH f257 0):=lk P1 amA q2 λX x=>((z2 (u x) X.1),X.2)
def au5:=apG.qk aq7 func257 [pd (.sl mC)] [rB] (c1 yv) (cF aqI (cF aqJ nF))
abbrev aci:SD:=⟨cL (jI fy)::B::cL (cX 24576 mC)::DB::cL (cX 49152 mC)::DI::bs 58 [],zs 64 [],.none⟩
def atW:=au5.q1 {mask:=mk [(5,[0,2,3,4,5])],mv:=[41,63]} func156 [pd (.sl fy)] [(false,(.sl (.own none) mC)),rB] (c1 BN) aci (λX K=>rj (λy0 y1=>ke 0 K aci ((z3 (w y0 (u y1)) X.1),X.2)) (λy0 y1 y2 y3=>kr K aci ((z1 (w y0 (w y1 (w y2 (u y3)))) X.1),X.2)) X.1.1 X.1.2.1 (q2 X)) (λX=>(q3 X,q4 X)) (λX x=>((z3 (w x.1 (u x.2)) X.1),X.2))
def au6:=atW.q0 {merge:=mg [(1,2)]} func258 [pf (.sl .str)] [rB] (c1 BL)
def apB:=au6.q0 {} func182 [pI] [rS] (c1 gi)
def aq3:An:={mask:=mk [(3,[0,3,4]),(7,[0,3,4,5])]}
abbrev V7:SD:=⟨cL .str::B::B::DI::DI::DI::bs 26 [],zs 32 [],.none⟩
def amw (X:SD.D V7)(K:sL R):=rL (λy0 y1=>ke 2 K V7 ((z1 (w y0 (z1 (u y1))) X.1),X.2)) X.1.1 (q2 X)
abbrev V6:SD:=⟨cL .str::B::B::DI::DI::bs 27 [],zs 32 [],.none⟩
def amv (X:SD.D V6)(K:sL R):=vI (λy0 y1=>ke 0 K V6 ((z1 (w y0 (u y1)) X.1),X.2)) X.1.1
def arQ:mc:=(mc.nil.add 7 (yF V7 amw (λX=>(X.1.2.1,q3 X)))).add 3 (yF V6 amv (λX=>(X.1.2.1,q2 X)))
theorem aqE:xo E apB.g aq3 arQ (cH f183 1):=lk V7 amw (λX=>(X.1.2.1,q3 X)) λX x=>((z1 (w x.1 (z1 (u x.2))) X.1),X.2)
theorem aqD:xo E apB.g aq3 arQ (cH f183 0):=lk V6 amv (λX=>(X.1.2.1,q2 X)) λX x=>((z1 (w x.1 (u x.2)) X.1),X.2)
def at3:=apB.qk aq3 func183 [pd .str] [rI] (c1 C1) (cF aqD (cF aqE nF))
def G79:=at3.q0 {merge:=mg [(1,15)]} func79 [pI,pd .str] [rS,rB] (c2 pR)
def avu:=G79.q0 {merge:=mg [(1,6)]} func304 [pd .str,pI,pI] [rB] (c3 pU)
def auv:=avu.q0 {} func215 [pd .str,pI] [rI] (c2 C3)
def auw:=auv.q0 {} func216 [pd .str,pI] [rI] (c2 zb)
def au7:=auw.q0 {merge:=mg [(2,17),(5,37)]} func259 [pd .str] [rI] (c1 nY)
def atX:=au7.q0 {merge:=mg [(5,23)]} func158 [pf (.sl .str)] [rI] (c1 zX)
def atY:=atX.q0 {merge:=mg [(1,2)]} func159 [pf jW] [rB] (c1 BK)
def at1:=atY.q0 {merge:=mg [(1,2)]} func179 [pf jx] [rB] (c1 zY)
def av0:=at1.q0 {merge:=mg [(1,33),(3,54),(5,2)]} func338 [pf nw] [rB] (c1 oa)
abbrev acp:SD:=⟨cL (jI nw)::B::DB::DI::bs 15 [],zs 19 [],.none⟩
def auX:=av0.q1 {mask:=mk [(2,[0,2,3])]} func245 [pd (.sl nw)] [rB] (c1 BP) acp (λX K=>wx (λy0=>ke 0 K acp ((z2 (u y0) X.1),X.2)) (λy0 y1=>kr K acp ((z1 (w y0 (u y1)) X.1),X.2)) X.1.1 X.1.2.1) q2 (λX x=>((z2 (u x) X.1),X.2))
abbrev aj3:SD:=⟨B::B::B::DI::cL (cX 49152 (.int .i64))::DI::bs 26 [],zs 32 [],.none⟩
def awy:=auX.q1 {mask:=mk [(4,[3,4,5])]} func396 [pf vc] [rI] (c1 Ac) aj3 (λX K=>pQ (λy0 y1=>ke 0 K aj3 ((w y0 (z1 (u y1)) X.1),X.2)) X.1.2.1) (λX=>(X.1.1,q2 X)) (λX x=>((w x.1 (z1 (u x.2)) X.1),X.2))
abbrev acw:SD:=⟨B::B::.ptr 2 0::.ptr 3 0::DI::DI::bs 35 [],Z::Z::(qO (jI kl))::(qO (cS EY Y0))::zs 37 [],.none⟩
def av1:=awy.q1 {mask:=mk [(2,[2,3,4,5])],merge:=mg [(7,39)]} func339 [pf (.sl kl),pf vc] [rI] (c2 BW) acw (λX K=>rp (λy0=>ke 0 K acw ((z1 (u y0) X.1),X.2)) (λy0 y1=>kr K acw ((w y0 (u y1) X.1),X.2)) X.1.1 X.2.1.1 X.2.1.2.1) (λX=>X.1.2.1) (λX x=>((z1 (u x) X.1),X.2))
abbrev acq:SD:=⟨B::.ptr 1 0::DB::DI::bs 45 [],Z::(qO (jI kl))::zs 47 [],.none⟩
def auY:=av1.q1 {mask:=mk [(4,[1,2,3])],merge:=mg [(7,30),(10,42)]} func246 [pf (.sl kl)] [rB] (c1 BQ) acq (λX K=>wz (λy0=>ke 0 K acq ((z1 (u y0) X.1),X.2)) (λy0 y1=>kr K acq ((w y0 (u y1) X.1),X.2)) X.1.1 X.2.1.1) (λX=>X.1.2.1) (λX x=>((z1 (u x) X.1),X.2))
def av2:=auY.q0 {merge:=mg [(1,2)]} func340 [pI] [rB] (c1 BU)
abbrev acr:SD:=⟨B::DI::.ptr 2 0::B::DB::DI::bs 32 [],Z::Z::(qO (cS .str (jI (.int .i64))))::zs 35 [],.none⟩
def apF:=av2.q1 {mask:=mk [(4,[1,2,4,5])],merge:=mg [(1,21)]} func247 [pf HH,pI] [rB] (c2 Af) acr (λX K=>uF (λy0=>ke 0 K acr ((z2 (u y0) X.1),X.2)) (λy0 y1=>kr K acr ((z1 (w y0 (u y1)) X.1),X.2)) X.1.1 X.1.2.1 X.2.1.1) q2 (λX x=>((z2 (u x) X.1),X.2))
def aq1:An:={mask:=mk [(4,[1,2,4,5]),(9,[1,2,4,6])],merge:=mg [(1,23)]}
abbrev PY:SD:=⟨B::DI::.ptr 2 0::B::DB::DI::bs 50 [],Z::Z::(some Y22)::zs 53 [],.none⟩
def amp (X:SD.D PY)(K:sL R):=qK (λy0=>ke 0 K PY ((z2 (u y0) X.1),X.2)) (λy0 y1=>kr K PY ((z1 (w y0 (u y1)) X.1),X.2)) X.1.1 X.1.2.1 X.2.1.1
abbrev PZ:SD:=⟨B::DI::.ptr 2 0::B::DB::B::DI::bs 49 [],Z::Z::(some Y22)::zs 53 [],.none⟩
def amq (X:SD.D PZ)(K:sL R):=qL (λy0=>ke 2 K PZ ((z2 (u y0) X.1),X.2)) (λy0 y1=>kr K PZ ((z1 (w y0 (u y1)) X.1),X.2)) X.1.1 X.1.2.1 X.2.1.1
def arN:mc:=(mc.nil.add 4 (yF PY amp q2)).add 9 (yF PZ amq q2)
theorem aqx:xo E apF.g aq1 arN (cH f145 0):=lk PY amp q2 λX x=>((z2 (u x) X.1),X.2)
theorem aqy:xo E apF.g aq1 arN (cH f145 1):=lk PZ amq q2 λX x=>((z2 (u x) X.1),X.2)
def atS:=apF.qk aq1 func145 [pf tL,pI] [rB] (c2 wy) (cF aqx (cF aqy nF))
def av3:=atS.q0 {} func341 [pf (.sl kl)] [(true,(.sl (.own none) kl))] (c1 BV)
def au3:=av3.q0 {sb:=mg [(2,2)]} func254 [pf tL] [(true,Y28)] (c1 BX)
abbrev ach:SD:=⟨B::.ptr 1 0::DB::cL (cX 36864 .bool)::DI::bs 53 [],Z::(some Y18)::zs 56 [],.none⟩
def atT:=au3.q1 {mask:=mk [(5,[1,2,3,4])],merge:=mg [(1,20),(7,50)]} func147 [pf lA] [rB] (c1 xf) ach (λX K=>yu (λy0 y1=>ke 0 K ach ((z1 (w y0 (u y1)) X.1),X.2)) (λy0 y1 y2=>kr K ach ((w y0 (w y1 (u y2)) X.1),X.2)) X.1.1 X.2.1.1) (λX=>(X.1.2.1,q2 X)) (λX x=>((z1 (w x.1 (u x.2)) X.1),X.2))
abbrev ajX:SD:=⟨B::B::DI::B::B::B::.ptr 6 0::B::.ptr 8 0::DI::bs 24 [],zs 6 ((some Y32)::Z::(some Y31)::zs 25 []),.none⟩
def av6:=atT.q1 {mask:=mk [(3,[2,6,8,9])],merge:=mg [(3,20)],mv:=[24,33]} func350 [pI,pI,pI] [(true,Y11),rB] (c3 yr) ajX (λX K=>ri (λy0 y1=>ke 0 K ajX ((z1 (u y0) X.1),(z1 (u y1) X.2.1),X.2.2)) X.1.1 X.2.1.1) (λX=>(X.1.2.1,X.2.1.2.1)) (λX x=>((z1 (u x.1) X.1),(z1 (u x.2) X.2.1),X.2.2))
def au8:=av6.q0 {mv:=[4,9]} func263 [] [(true,Y24)] (λa=>Ak)
abbrev aoU:SD:=⟨DI::cL (.int .u8)::B::B::B::cL (cX 61440 (.int .u8))::DI::bs 13 [],zs 20 [],.none⟩
def G80:=au8.q1 {mask:=mk [(3,[0,1,5,6])]} func80 [pI,pd (.int .u8)] [rS] (c2 gY) aoU (λX K=>rk (λy0 y1=>ke 0 K aoU ((z2 (w y0 (u y1)) X.1),X.2)) X.1.1 X.1.2.1) (λX=>(q2 X,q3 X)) (λX x=>((z2 (w x.1 (u x.2)) X.1),X.2))
def avY:=G80.q0 {merge:=mg [(1,2)]} func336 [pI] [rB] (c1 yx)
def avZ:=avY.q0 {} func337 [pf jW] [rI] (c1 vN)
def auW:=avZ.q0 {merge:=mg [(1,2)]} func243 [pf jW] [rB] (c1 xg)
def au0:=auW.q0 {} func250 [pf (.sl .str)] [(true,(.sl (.own none) .str))] (c1 oc)
def au1:=au0.q0 {sb:=mg [(2,2)]} func252 [pf lA] [(true,Y11)] (c1 B0)
def av4:=au1.q0 {merge:=mg [(1,15)]} func346 [pf lA,pI] [rI] (c2 qI)
def awA:=av4.q0 {} func402 [pf jW] [rI] (c1 vM)
abbrev acf:SD:=⟨B::.ptr 1 0::DB::DI::bs 18 [],Z::(qO (jI .str))::zs 20 [],.none⟩
def apA:=awA.q1 {mask:=mk [(2,[1,2,3])]} func140 [pf (.sl .str)] [rB] (c1 vK) acf (λX K=>uB (λy0=>ke 0 K acf ((z1 (u y0) X.1),X.2)) (λy0 y1=>kr K acf ((w y0 (u y1) X.1),X.2)) X.1.1 X.2.1.1) (λX=>X.1.2.1) (λX x=>((z1 (u x) X.1),X.2))
def aq0:An:={mask:=mk [(4,[0,2,3]),(10,[0,2,3,4,5])],merge:=mg [(7,34),(12,57)]}
abbrev Kl:SD:=⟨cL (jI bX)::B::DB::DI::.ptr 4 0::DI::bs 52 [],zs 4 ((qO (kx (kx (kx .bool))))::zs 53 []),.none⟩
def af4 (X:SD.D Kl)(K:sL R):=oO (λy0=>ke 2 K Kl ((z3 (u y0) X.1),X.2)) (λy0 y1=>kr K Kl ((z1 (w y0 (z1 (u y1))) X.1),X.2)) X.1.1 X.1.2.1 (q2 X) X.2.1.1
abbrev PX:SD:=⟨cL (jI bX)::B::DB::DI::bs 54 [],zs 58 [],.none⟩
def amo (X:SD.D PX)(K:sL R):=qJ (λy0=>ke 0 K PX ((z2 (u y0) X.1),X.2)) (λy0 y1=>kr K PX ((z1 (w y0 (u y1)) X.1),X.2)) X.1.1 X.1.2.1
def arM:mc:=(mc.nil.add 10 (yF Kl af4 q3)).add 4 (yF PX amo q2)
theorem anR:xo E apA.g aq0 arM (cH f141 1):=lk Kl af4 q3 λX x=>((z3 (u x) X.1),X.2)
theorem aqw:xo E apA.g aq0 arM (cH f141 0):=lk PX amo q2 λX x=>((z2 (u x) X.1),X.2)
def atP:=apA.qk aq0 func141 [pd (.sl bX)] [rB] (c1 wo) (cF aqw (cF anR nF))
abbrev acE:SD:=⟨cL (jI bX)::DI::DI::DB::bs 4 (DI::DI::bs 38 []),zs 48 [],.none⟩
def awK:=atP.q1 {mask:=mk [(2,[0,1,2,3,8,9])],merge:=mg [(4,42)]} func429 [pd (.sl bX),pI,pI,pd .bool] [rI] (c4 BZ) acE (λX K=>wC (λy0=>ke 0 K acE ((z5 (u y0) X.1),X.2)) (λy0 y1=>kr K acE ((z4 (w y0 (u y1)) X.1),X.2)) X.1.1 X.1.2.1 (q2 X) (q3 X) (q4 X)) q5 (λX x=>((z5 (u x) X.1),X.2))
def awL:=awK.q0 {merge:=mg [(2,6)]} func430 [pf (.sl .str),pI,pI] [rB] (c3 pY)
abbrev acD:SD:=⟨cL (jI bX)::B::DI::DI::DI::DB::B::.ptr 7 0::bs 4 (cL (cX 147456 (.int .i64))::cL (cX 159744 (.int .i64))::DB::cL (cX 184320 (.int .i64))::cL (cX 196608 (.int .i64))::bs 66 []),zs 7 ((qO (jI .str))::zs 75 []),.none⟩
def awz:=awL.q1 {mask:=mk [(5,[0,2,3,4,5,7,12,13,14,15,16])],merge:=mg [(3,34),(10,57)],mv:=[35,36,64,71,81,82]} func400 [pd (.sl bX),pf (.sl .str),pI,pI,pI,pd .bool] [(false,(.sl (.own none) (.int .i64))),(false,(.sl (.own none) (.int .i64))),rB] (c6 Ai) acD (λX K=>my (λy0 y1 y2 y3=>ke 0 K acD ((z2 (w y0 (w y1 (z4 (w y2 (u y3))))) X.1),X.2)) (λy0 y1 y2 y3 y4 y5 y6=>kr K acD ((z2 (w y0 (w y1 (z1 (w y2 (w y3 (w y4 (w y5 (u y6)))))))) X.1),X.2)) X.1.1 X.1.2.1 (q4 X) (q5 X) (q6 X) (q7 X) X.2.1.1) (λX=>(q2 X,q3 X,q8 X,q9 X)) (λX x=>((z2 (w x.1 (w x.2.1 (z4 (w x.2.2.1 (u x.2.2.2))))) X.1),X.2))
def avz:=awz.q0 {} func309 [pd .str,pI,pd .str] [rS] (c3 kF)
abbrev aj8:SD:=⟨B::DI::cL .str::B::B::B::.ptr 6 0::B::.ptr 8 0::bs 44 [],zs 6 ((qO (cX 73729 .str))::Z::(qO (cX 98305 .str))::zs 44 []),.none⟩
def awO:=avz.q1 {mask:=mk [(4,[1,2,6,8])],mv:=[19,52]} func433 [pf (.sl .str),pI,pd .str] [(true,(.sl (.own none) .str)),rB] (c3 uH) aj8 (λX K=>oP (λy0 y1 y2=>ke 0 K aj8 ((w y0 (u y1) X.1),(z1 (u y2) X.2.1),X.2.2)) X.2.1.1) (λX=>(X.1.1,X.1.2.1,X.2.1.2.1)) (λX x=>((w x.1 (u x.2.1) X.1),(z1 (u x.2.2) X.2.1),X.2.2))
abbrev aj5:SD:=⟨bs 4 (cL .str::bs 5 (.ptr 10 0::B::cL (.sl .loc (.int .i64))::cL (.sl .loc (.int .i64))::B::.ptr 15 0::DI::bs 44 [])),zs 10 ((qO (cX 122881 .str))::zs 4 ((qO (cX 184321 .str))::zs 45 [])),.none⟩
def awD:=awO.q1 {mask:=mk [(6,[4,10,12,13,15,16])],mv:=[32,39,52,60],sb:=mg [(15,15)]} func405 [pd (.sl bX),pf (.sl .str),pI,pI,pd .str] [(true,(.sl (.own none) .str)),rB] (c5 vJ) aj5 (λX K=>pO (λy0 y1 y2=>ke 0 K aj5 ((w y0 (z2 (u y1)) X.1),(z1 (u y2) X.2.1),X.2.2)) X.1.2.1 (q2 X) X.2.1.1) (λX=>(X.1.1,q3 X,X.2.1.2.1)) (λX x=>((w x.1 (z2 (u x.2.1)) X.1),(z1 (u x.2.2) X.2.1),X.2.2))
def awM:=awD.q0 {merge:=mg [(1,11)]} func431 [pf jW,pI] [rI] (c2 uE)
def awB:=awM.q0 {merge:=mg [(1,22)],mv:=[26,36,51],mb:=mg [(51,13)],sb:=mg [(10,10),(11,11),(13,13)]} func403 [pd (.sl bX),pf (.sl .str),pI,pf jW,pd .str] [(true,(.sl (.own none) .str)),(true,Y0),rB] (c5 BO)
def avw:=awB.q0 {} func306 [pI] [rS] (c1 dK)
def awN:=avw.q0 {merge:=mg [(1,2)]} func432 [pf qf] [rB] (c1 DR)
def awC:=awN.q0 {} func404 [pf qf] [rS] (c1 wk)
abbrev ajW:SD:=⟨cL (jI bX)::B::DI::bs 5 (.ptr 8 0::.ptr 9 0::.ptr 10 0::.ptr 11 0::.ptr 12 0::B::.ptr 14 0::.ptr 15 0::DI::bs 65 []),zs 8 ((some Y0)::(some Y18)::(qO (cX 122881 .str))::(some Y0)::(some Y30)::Z::(qO (cX 172033 .str))::(some Y29)::zs 66 []),.none⟩
def av5:=awC.q1 {mask:=mk [(6,[0,2,8,9,10,11,12,14,15,16])],merge:=mg [(4,32),(6,44)],mv:=[33,35,49,63,68,78,80],mb:=mg [(33,14),(35,15),(78,14),(80,15)],sb:=mg [(10,10),(11,11),(12,12),(18,18),(19,19)]} func349 [pd (.sl bX),pf (.sl .str),pI,pf jW,pf lA] [(true,(.sl (.own none) .str)),(true,Y0),(true,Y11),rI] (c5 Ab) ajW (λX K=>pP (λy0 y1 y2 y3=>ke 0 K ajW ((z2 (u y0) X.1),(w y1 (z4 (w y2 (u y3))) X.2.1),X.2.2)) X.1.1 X.1.2.1 X.2.1.2.1 X.2.1.2.2.1 X.2.1.2.2.2.1 X.2.1.2.2.2.2.1) (λX=>(q2 X,X.2.1.1,X.2.1.2.2.2.2.2.1,X.2.1.2.2.2.2.2.2.1)) (λX x=>((z2 (u x.1) X.1),(w x.2.1 (z4 (w x.2.2.1 (u x.2.2.2))) X.2.1),X.2.2))
abbrev ajY:SD:=⟨cL (jI bX)::B::DI::DI::cL .str::B::.ptr 6 0::B::B::B::.ptr 10 0::B::cL (cX 147456 bX)::DI::bs 25 [],zs 6 ((qO (jI .str))::Z::Z::Z::(qO (cX 122881 .str))::zs 28 []),.none⟩
def arI:=av5.q1 {mask:=mk [(3,[0,2,3,4,6,10,12,13])],mv:=[27]} func351 [pd (.sl bX),pf (.sl .str),pI,pI,pd .str] [(true,(.sl (.own none) .str)),rB] (c5 yp) ajY (λX K=>sF (λy0 y1=>ke 0 K ajY ((z4 (w y0 (u y1)) X.1),X.2)) X.1.1 X.1.2.1 (q2 X) (q3 X) X.2.1.1 X.2.1.2.1) (λX=>(q4 X,q5 X)) (λX x=>((z4 (w x.1 (u x.2)) X.1),X.2))
def aw0:lK:=lf (.pair (.sl (.own none) .str) (.pair (.sl (.own none) bX) (.pair (.pair (.pair (.int .i64) (.pair (.int .i64) (.pair (.int .i64) (.int .i64)))) (.pair (.pair (.int .i64) (.pair (.int .i64) (.pair (.int .i64) (.sl (.own none) (.int .i64))))) (.pair (.sl (.own none) lB) (.int .i64)))) (.pair (.sl (.own none) fA) (.pair (.sl (.own none) lA) (.pair (.sl (.own none) ix) (.pair (.sl (.own none) .bool) (.pair (.pair (.int .i64) (.pair .bool (.sl (.own none) (.int .i64)))) (.pair (.pair (.sl (.own none) nw) (.pair (.sl (.own none) kl) (.pair .str (.sl (.own none) (.int .i64))))) (.pair (.sl (.own none) fX) (.pair .bool (.pair (.sl (.own none) .str) (.pair (.sl (.own none) (.int .i64)) (.pair (.sl (.own none) (.int .i64)) (.pair (.int .i64) (.pair (.int .i64) (.pair (.int .i64) (.pair (.int .i64) (.int .i64))))))))))))))))))) [pI] [] λx a=>yB x a.1
theorem axP:LZ 264 aw0:=jl.tA (sW (an:={mv:=[47,51,65,67,84],mb:=mg [(84,6)],sb:=mg [(6,6),(50,0),(70,0),(71,5)]}) (Λ:=mc.nil) (arI.s) func264 (by kernel_rfl) (ao nF)) (λx a=>by kernel_rfl)
def au9:=arI.add axP
def auZ:=au9.q0 {merge:=mg [(1,2)]} func249 [pf ix] [rB] (c1 xh)
def atU:=auZ.q0 {merge:=mg [(1,24),(3,2)]} func148 [pf ix] [rB] (c1 ot)
def avc:=atU.q0 {} func279 [pI,pI] [(true,Y17),rB] (c2 yt)
abbrev ajQ:SD:=⟨DI::B::.ptr 2 0::.ptr 3 0::DI::bs 17 [],Z::Z::(qO (cX 24577 .str))::(qO (cX 36865 .str))::zs 18 [],.none⟩
def apH:=avc.q1 {mask:=mk [(3,[0,2,3,4])],merge:=mg [(3,12)],mv:=[16,21],mb:=mg [(16,3)],sb:=mg [(20,3)]} func280 [pI] [(true,(.sl (.own none) .str))] (c1 pT) ajQ (λX K=>sG (λy0 y1=>ke 0 K ajQ ((z1 (u y0) X.1),(z1 (u y1) X.2.1),X.2.2)) X.1.1 X.2.1.1) (λX=>(X.1.2.1,X.2.1.2.1)) (λX x=>((z1 (u x.1) X.1),(z1 (u x.2) X.2.1),X.2.2))
def aq2:An:={mask:=mk [(6,[0,12,14,16,17]),(10,[0,12,14,16,18])],merge:=mg [(2,42)],mv:=[57,74,80,86,92,98],mb:=mg [(57,16)],sb:=mg [(16,16),(67,16)]}
abbrev V5:SD:=⟨DI::bs 11 (.ptr 12 0::B::.ptr 14 0::B::.ptr 16 0::DI::bs 81 []),zs 12 ((some Y14)::Z::(some Y17)::Z::(some Y13)::zs 82 []),.none⟩
def amu (X:SD.D V5)(K:sL R):=rh (λy0 y1=>ke 0 K V5 ((z1 (u y0) X.1),(z2 (u y1) X.2.1),X.2.2)) X.1.1 X.2.1.1 X.2.1.2.1
abbrev O3:SD:=⟨DI::bs 11 (.ptr 12 0::B::.ptr 14 0::B::.ptr 16 0::B::DI::bs 80 []),zs 12 ((some Y14)::Z::(some Y17)::Z::(some Y13)::zs 82 []),.none⟩
def af5 (X:SD.D O3)(K:sL R):=pS (λy0 y1=>ke 2 K O3 ((z1 (u y0) X.1),(z2 (u y1) X.2.1),X.2.2)) X.1.1 X.2.1.1 X.2.1.2.1
def arP:mc:=(mc.nil.add 6 (yF V5 amu (λX=>(X.1.2.1,X.2.1.2.2.1)))).add 10 (yF O3 af5 (λX=>(X.1.2.1,X.2.1.2.2.1)))
theorem aqC:xo E apH.g aq2 arP (cH f180 0):=lk V5 amu (λX=>(X.1.2.1,X.2.1.2.2.1)) λX x=>((z1 (u x.1) X.1),(z2 (u x.2) X.2.1),X.2.2)
theorem anS:xo E apH.g aq2 arP (cH f180 1):=lk O3 af5 (λX=>(X.1.2.1,X.2.1.2.2.1)) λX x=>((z1 (u x.1) X.1),(z2 (u x.2) X.2.1),X.2.2)
def at2:=apH.qk aq2 func180 [pI,pf qj,pf tL,pd .bool,pI,pI] [(true,Y2),rB] (c6 uD) (cF aqC (cF anS nF))
abbrev aj9:SD:=⟨cL (jI fy)::B::DB::bs 4 (.ptr 7 0::B::.ptr 9 0::B::B::.ptr 12 0::DB::B::B::.ptr 16 0::DI::bs 81 []),zs 7 ((some Y22)::Z::(some Y8)::Z::Z::(qO (cS (cX 147457 dT) (cS (cX 147460 cp) (cS (cX 147463 fy) (cS (cX 147466 .str) (cS Y0 (cS (cX 147481 (.int .i64)) (cX 147484 .str))))))))::Z::Z::Z::(qO (cS (cX 196609 dT) (cS (cX 196612 cp) (cS (cX 196615 fy) (cS (cX 196618 .str) (cS Y0 (cS (cX 196633 (.int .i64)) (cX 196636 .str))))))))::zs 82 []),.none⟩
def G76:=at2.q1 {mask:=mk [(6,[0,2,7,9,12,13,16,17])],merge:=mg [(3,50)],mv:=[58,67,73,74,79,89,98],mb:=mg [(89,16)],sb:=mg [(18,18),(97,16)]} func76 [pd (.sl fy),pf tL,pd .bool,pf jx,pf (.sl .str),pI] [(true,Y5),rB] (c6 uC) aj9 (λX K=>wq (λy0 y1=>ke 0 K aj9 ((z3 (u y0) X.1),(z3 (u y1) X.2.1),X.2.2)) (λy0 y1 y2 y3=>kr K aj9 ((z2 (w y0 (u y1)) X.1),(z2 (w y2 (u y3)) X.2.1),X.2.2)) X.1.1 X.1.2.1 (q2 X) X.2.1.1 X.2.1.2.1 X.2.1.2.2.1) (λX=>(q3 X,X.2.1.2.2.2.1)) (λX x=>((z3 (u x.1) X.1),(z3 (u x.2) X.2.1),X.2.2))
def aw1:lK:=lf (.pair (.sl .Bp (.int .u8)) (.pair (.int .i64) (.int .i64))) [] [(true,Y19)] λx a=>yz x
theorem axQ:LZ 281 aw1:=jl.tA (sW (an:={mv:=[11]}) (Λ:=mc.nil) (G76.s) func281 (by kernel_rfl) (ao nF)) (λx a=>by kernel_rfl)
def arE:=G76.add axQ
def awX:lK:=lf (.pair (.sl .Bp (.int .u8)) (.pair (.int .i64) (.int .i64))) [] [(true,(.pair Y19 Y8))] λx a=>DU x
theorem axM:LZ 181 awX:=jl.tA (sW (an:={}) (Λ:=mc.nil) (arE.s) func181 (by kernel_rfl) (ao nF)) (λx a=>by kernel_rfl)
def am4:=arE.add axM
def e77:lK:=lf (.pair (.sl .Bp (.int .u8)) (.pair (.int .i64) (.int .i64))) [] [(false,(.sl (.own none) fy))] λx a=>Al x
def n77:An:={mask:=mk [(3,[0,3,4])],mv:=[22,23,26]}
abbrev ae2:SD:=⟨.ptr 0 0::B::B::cL (cX 36864 fy)::DI::bs 22 [],(some Y7)::zs 26 [],.ptr⟩
def apq (X:SD.D ae2)(K:sL R):=zv (λy0 y1 y2=>ke 0 K ae2 ((w y0 (u y1) X.1),(u y2 X.2.1),X.2.2))
def L77:mc:=mc.nil.add 3 (yF ae2 apq (λX=>(X.1.1,X.1.2.1,X.2.1.1)))
theorem asW:xo E am4.g n77 L77 (cH f77 0):=lk ae2 apq (λX=>(X.1.1,X.1.2.1,X.2.1.1)) λX x=>((w x.1 (u x.2.1) X.1),(u x.2.2 X.2.1),X.2.2)
theorem o77:LZ 77 e77:=jl.tA (sW (Γ:=am4.g) (an:=n77) (Λ:=L77) (am4.s) func77 (by kernel_rfl) (ao (cF asW nF))) (λx a=>by kernel_rfl)
def G77:=am4.add o77
def e85:lK:=lf (.pair (.sl .Bp (.int .u8)) (.pair (.int .i64) (.int .i64))) [] [rS] λx a=>vO x
theorem o85:LZ 85 e85:=jl.tA (sW (an:={}) (Λ:=mc.nil) (G77.s) func85 (by kernel_rfl) (ao nF)) (λx a=>by kernel_rfl)
def G85:=G77.add o85
def e78:lK:=lf (.pair (.sl .Bp (.int .u8)) (.pair (.int .i64) (.int .i64))) [] [(true,(.sl (.own none) .str))] λx a=>Aj x
def n78:An:={mask:=mk [(3,[0,2,3,4])],mv:=[18,28],mb:=mg [(18,3)],sb:=mg [(27,3)]}
abbrev ae3:SD:=⟨.ptr 0 0::B::.ptr 2 0::.ptr 3 0::DI::bs 24 [],(some Y7)::Z::(qO (cX 24577 .str))::(qO (cX 36865 .str))::zs 25 [],.ptr⟩
def apr (X:SD.D ae3)(K:sL R):=ze (λy0 y1 y2=>ke 0 K ae3 ((u y0 X.1),(w y1 (z1 (u y2)) X.2.1),X.2.2)) X.2.1.2.1
def L78:mc:=mc.nil.add 3 (yF ae3 apr (λX=>(X.1.1,X.2.1.1,X.2.1.2.2.1)))
theorem asX:xo E G85.g n78 L78 (cH f78 0):=lk ae3 apr (λX=>(X.1.1,X.2.1.1,X.2.1.2.2.1)) λX x=>((u x.1 X.1),(w x.2.1 (z1 (u x.2.2)) X.2.1),X.2.2)
theorem o78:LZ 78 e78:=jl.tA (sW (Γ:=G85.g) (an:=n78) (Λ:=L78) (G85.s) func78 (by kernel_rfl) (ao (cF asX nF))) (λx a=>by kernel_rfl)
def G78:=G85.add o78
def e26:lK:=lf (.pair (.sl .Bp (.int .u8)) (.pair (.int .i64) (.int .i64))) [] [(true,Y5)] λx a=>DV x
def n26:An:={mask:=mk [(2,[0,2,3]),(1000006,[0,2,3]),(1000007,[0,2,3]),(1000008,[0,2,3]),(1000009,[0,2,3]),(1000014,[0,2,3,4]),(1000015,[0,2,3])],cut:=[3,4,7],mv:=[35,49,52,66,80,82],sb:=mg [(6,6),(11,11),(36,0),(39,0),(43,0),(45,0)]}
abbrev Gu:SD:=⟨.ptr 0 0::B::.ptr 2 0::DI::.ptr 4 0::bs 78 [],(some Y7)::Z::(some Y10)::Z::(qO (cS (cX 49153 nw) (cS (cX 49156 kl) (cS .str (cX 49162 (.int .i64))))))::zs 78 [],.ptr⟩
abbrev Kn:SD:=⟨.ptr 0 0::B::.ptr 2 0::DI::bs 79 [],(some Y7)::Z::(some Y10)::zs 80 [],.ptr⟩
def Om (X:SD.D Gu)(K:sL R):aB R:=tG (λy0=>kn K Kn ((X.1.1,()),(y0,(X.2.1.2.1,())),())) (λy0 y1=>kr K Kn ((X.1.1,()),(y0,(y1,())),())) X.1.1 X.2.1.1 X.2.1.2.1 X.2.1.2.2.1
abbrev Dq:SD:=⟨.ptr 0 0::B::.ptr 2 0::DI::bs 79 [],(some Y7)::Z::(some Y10)::zs 80 [],.ptr⟩
def Ok (X:SD.D Dq)(K:sL R):aB R:=tF (λy0=>kn K Dq ((u y0 X.1),X.2)) X.1.1 X.2.1.1 X.2.1.2.1
abbrev Aq:SD:=⟨.ptr 0 0::B::.ptr 2 0::DI::bs 79 [],(some Y7)::Z::(some Y10)::zs 80 [],.ptr⟩
def Ol (X:SD.D Aq)(K:sL R):aB R:=yC (λy0 y1=>kn K Aq ((u y0 X.1),(u y1 X.2.1),X.2.2)) (λy0 y1=>kr K Aq (X.1,(w y0 (u y1) X.2.1),X.2.2)) X.1.1 X.2.1.1 X.2.1.2.1
abbrev Yl:SD:=⟨.ptr 0 0::B::.ptr 2 0::DI::bs 79 [],(some Y7)::Z::(some Y10)::zs 80 [],.ptr⟩
def api (X:SD.D Yl)(K:sL R):=C6 (λy0 y1=>ke 0 K Yl ((u y0 X.1),(u y1 X.2.1),X.2.2)) (λy0 y1 y2=>kr K Yl ((u y0 X.1),(w y1 (u y2) X.2.1),X.2.2)) X.2.1.2.1
def L26:mc:=(((mc.nil.add 1000014 (Xc Gu Om)).add 1000006 (Xc Dq Ok)).add 1000008 (Xc Aq Ol)).add 2 (yF Yl api (λX=>(X.1.1,X.2.1.1)))
theorem ZR:SE E G78.g n26 L26 (nD n26.cut f26 1):=ck Gu Om
theorem ZP:SE E G78.g n26 L26 (nD n26.cut f26 2):=ck Dq Ok
theorem ZQ:SE E G78.g n26 L26 (nD n26.cut f26 0):=ck Aq Ol
theorem asP:xo E G78.g n26 L26 (cH f26 0):=lk Yl api (λX=>(X.1.1,X.2.1.1)) λX x=>((u x.1 X.1),(u x.2 X.2.1),X.2.2)
theorem o26:LZ 26 e26:=jl.tA (sW (Γ:=G78.g) (an:=n26) (Λ:=L26) (G78.s) func26 (by kernel_rfl) (ac (cF asP nF) (cF ZQ (cF ZR (cF ZP nF))))) (λx a=>by kernel_rfl)
def G26:=G78.add o26
def aw2:lK:=lf (.pair (.sl .Bp (.int .u8)) (.pair (.int .i64) (.int .i64))) [] [rI] λx a=>BS x
theorem axR:LZ 282 aw2:=jl.tA (sW (an:={}) (Λ:=mc.nil) (G26.s) func282 (by kernel_rfl) (ao nF)) (λx a=>by kernel_rfl)
def arF:=G26.add axR
def aw6:lK:=lf (.pair (.sl .Bp (.int .u8)) (.pair (.int .i64) (.int .i64))) [] [rI] λx a=>Ah x
theorem axV:LZ 367 aw6:=jl.tA (sW (an:={}) (Λ:=mc.nil) (arF.s) func367 (by kernel_rfl) (ao nF)) (λx a=>by kernel_rfl)
def arJ:=arF.add axV
def aw3:lK:=lf (.pair (.sl .Bp (.int .u8)) (.pair (.int .i64) (.int .i64))) [pI] [(true,(.pair (.int .i64) Y26))] λx a=>wA x a.1
theorem axS:LZ 283 aw3:=jl.tA (sW (an:={}) (Λ:=mc.nil) (arJ.s) func283 (by kernel_rfl) (ao nF)) (λx a=>by kernel_rfl)
def arG:=arJ.add axS
def awY:lK:=lf (.pair (.sl .Bp (.int .u8)) (.pair (.int .i64) (.int .i64))) [pI] [(true,Y1)] λx a=>pV x a.1
theorem axN:LZ 184 awY:=jl.tA (sW (an:={}) (Λ:=mc.nil) (arG.s) func184 (by kernel_rfl) (ao nF)) (λx a=>by kernel_rfl)
def SO:=arG.add axN
def e81:lK:=lf (.pair (.sl .Bp (.int .u8)) (.pair (.int .i64) (.int .i64))) [pI] [(false,(.sl (.own none) dF))] λx a=>BT x a.1
def n81:An:={mask:=mk [(5,[0,5,6,7,8]),(1000012,[0,5,6,7,8]),(1000013,[0,5,6,7,8]),(1000014,[0,5,6,7,8]),(1000015,[0,5,6,7,8]),(1000018,[0,5,6,7,8]),(1000019,[0,5,6,7,8]),(1000022,[0,5,6,7,8]),(1000023,[0,5,6,7,8]),(1000028,[0,5,6,7,8]),(1000029,[0,5,6,7,8]),(1000034,[0,5,6,7,8,64]),(1000035,[0,5,6,7,8])],cut:=[6,7,9,11,14,17],mv:=[47,76]}
abbrev Gz:SD:=⟨.ptr 0 0::bs 4 (cL (cX 61440 dF)::.ptr 6 0::DI::DI::bs 55 (DB::bs 12 [])),(some Y7)::zs 5 ((some Y1)::zs 70 []),.ptr⟩
abbrev Wn:SD:=⟨.ptr 0 0::bs 4 (cL (cX 61440 dF)::.ptr 6 0::DI::DI::bs 68 []),(some Y7)::zs 5 ((some Y1)::zs 70 []),.ptr⟩
def OD (X:SD.D Gz)(K:sL R):aB R:=zd (λy0=>kn K Wn ((X.1.1,(X.1.2.1,(X.1.2.2.1,()))),(X.2.1.1,(y0,())),())) X.1.1 X.1.2.1 (q2 X) (q3 X) X.2.1.1 X.2.1.2.1
abbrev Dz:SD:=⟨.ptr 0 0::bs 4 (cL (cX 61440 dF)::.ptr 6 0::DI::DI::bs 68 []),(some Y7)::zs 5 ((some Y1)::zs 70 []),.ptr⟩
def OC (X:SD.D Dz)(K:sL R):aB R:=pX (λy0 y1 y2=>kn K Dz ((u y0 X.1),(w y1 (u y2) X.2.1),X.2.2)) X.1.1 X.1.2.1 (q2 X) X.2.1.1 X.2.1.2.1
abbrev Dy:SD:=⟨.ptr 0 0::bs 4 (cL (cX 61440 dF)::.ptr 6 0::DI::DI::bs 68 []),(some Y7)::zs 5 ((some Y1)::zs 70 []),.ptr⟩
def OB (X:SD.D Dy)(K:sL R):aB R:=pW (λy0 y1 y2=>kn K Dy ((u y0 X.1),(w y1 (u y2) X.2.1),X.2.2)) X.1.1 X.1.2.1 (q2 X) X.2.1.1 X.2.1.2.1
abbrev Dx:SD:=⟨.ptr 0 0::bs 4 (cL (cX 61440 dF)::.ptr 6 0::DI::DI::bs 68 []),(some Y7)::zs 5 ((some Y1)::zs 70 []),.ptr⟩
def OA (X:SD.D Dx)(K:sL R):aB R:=rn (λy0 y1 y2 y3=>kn K Dx ((w y0 (u y1) X.1),(w y2 (u y3) X.2.1),X.2.2)) X.1.1 X.1.2.1 (q2 X) X.2.1.1 X.2.1.2.1
abbrev Dv:SD:=⟨.ptr 0 0::bs 4 (cL (cX 61440 dF)::.ptr 6 0::DI::DI::bs 68 []),(some Y7)::zs 5 ((some Y1)::zs 70 []),.ptr⟩
def Oy (X:SD.D Dv)(K:sL R):aB R:=rm (λy0=>kn K Dv ((z2 (u y0) X.1),X.2)) X.1.1 X.1.2.1 (q2 X) X.2.1.1 X.2.1.2.1
abbrev Dw:SD:=⟨.ptr 0 0::bs 4 (cL (cX 61440 dF)::.ptr 6 0::DI::DI::bs 68 []),(some Y7)::zs 5 ((some Y1)::zs 70 []),.ptr⟩
def Oz (X:SD.D Dw)(K:sL R):aB R:=wB (λy0 y1 y2 y3 y4=>kn K Dw ((w y0 (w y1 (u y2)) X.1),(w y3 (u y4) X.2.1),X.2.2)) X.1.1 X.1.2.1 (q2 X) X.2.1.1 X.2.1.2.1
abbrev ae4:SD:=⟨.ptr 0 0::bs 4 (cL (cX 61440 dF)::.ptr 6 0::DI::DI::bs 68 []),(some Y7)::zs 5 ((some Y1)::zs 70 []),.ptr⟩
def aps (X:SD.D ae4)(K:sL R):=Bg (λy0 y1 y2 y3 y4=>ke 0 K ae4 ((w y0 (w y1 (u y2)) X.1),(w y3 (u y4) X.2.1),X.2.2))
def L81:mc:=((((((mc.nil.add 1000034 (Xc Gz OD)).add 1000028 (Xc Dz OC)).add 1000022 (Xc Dy OB)).add 1000018 (Xc Dx OA)).add 1000012 (Xc Dv Oy)).add 1000014 (Xc Dw Oz)).add 5 (yF ae4 aps (λX=>(X.1.1,X.1.2.1,q2 X,X.2.1.1,X.2.1.2.1)))
theorem Z5:SE E SO.g n81 L81 (nD n81.cut f81 4):=ck Gz OD
theorem Z4:SE E SO.g n81 L81 (nD n81.cut f81 3):=ck Dz OC
theorem Z3:SE E SO.g n81 L81 (nD n81.cut f81 2):=ck Dy OB
theorem Z2:SE E SO.g n81 L81 (nD n81.cut f81 1):=ck Dx OA
theorem Z0:SE E SO.g n81 L81 (nD n81.cut f81 5):=ck Dv Oy
theorem Z1:SE E SO.g n81 L81 (nD n81.cut f81 0):=ck Dw Oz
theorem asY:xo E SO.g n81 L81 (cH f81 0):=lk ae4 aps (λX=>(X.1.1,X.1.2.1,q2 X,X.2.1.1,X.2.1.2.1)) λX x=>((w x.1 (w x.2.1 (u x.2.2.1)) X.1),(w x.2.2.2.1 (u x.2.2.2.2) X.2.1),X.2.2)
theorem o81:LZ 81 e81:=jl.tA (sW (Γ:=SO.g) (an:=n81) (Λ:=L81) (SO.s) func81 (by kernel_rfl) (ac (cF asY nF) (cF Z1 (cF Z2 (cF Z3 (cF Z4 (cF Z5 (cF Z0 nF)))))))) (λx a=>by kernel_rfl)
def G81:=SO.add o81
def auB:=G81.q0 {merge:=mg [(1,18),(4,2),(5,2)]} func220 [pf Ep] [rB] (c1 tE)
def atw:=auB.q0 {merge:=mg [(1,55),(3,3),(4,2)]} func121 [pf dF] [rB] (c1 yw)
def G44:=atw.q0 {merge:=mg [(1,2)]} func44 [pf dF] [rB] (c1 Ae)
def atv:=G44.q0 {} func117 [pd .str] [rS] (c1 BR)
def awG:=atv.q0 {merge:=mg [(1,12)]} func423 [pI,pI] [rI] (c2 nX)
abbrev aj1:SD:=⟨cL .str::B::B::DI::DI::bs 28 [],zs 33 [],.none⟩
def awf:=awG.q1 {mask:=mk [(3,[0,3,4])]} func376 [pd .str] [rI] (c1 Ag) aj1 (λX K=>uG (λy0 y1=>ke 0 K aj1 ((z1 (w y0 (u y1)) X.1),X.2)) X.1.1) (λX=>(X.1.2.1,q2 X)) (λX x=>((z1 (w x.1 (u x.2)) X.1),X.2))
def avy:=awf.q0 {} func308 [pd .str] [rI] (c1 rK)
def awe:=avy.q0 {merge:=mg [(1,2)]} func375 [pf TIp] [rB] (c1 Ih)
def avv:=awe.q0 {} func305 [pf TIp] [rS,rB] (c1 Ad)
def auz:=avv.q0 {} func218 [pf TIp] [rS,rB] (c1 BJ)
def avx:=auz.q0 {merge:=mg [(1,27)]} func307 [pI,pI,pI,pI] [rS,rB] (c4 nZ)
def auA:=avx.q0 {merge:=mg [(14,82)]} func219 [pI,pI,pf Ep] [rS,rB] (c3 sE)
def auy:=auA.q0 {merge:=mg [(1,2)]} func217 [pf ajf] [rB] (c1 FC)
def av7:=auy.q0 {} func368 [pI] [rS] (c1 jO)
def avd:=av7.q0 {} func284 [pf ajf] [rS,rB] (c1 zZ)
def ave:=avd.q0 {} func285 [pd .str] [rS] (c1 BM)
def at4:=ave.q0 {} func185 [pf dF] [rS,rB] (c1 wj)
def G82:=at4.q0 {} func82 [pf dF] [rS,rB] (c1 wi)
def e83:lK:=lf (.pair (.sl .Bp (.int .u8)) (.pair (.int .i64) (.int .i64))) [pf dF,pI] [(true,Y1)] λx a=>tH x a.1 a.2.1
theorem o83:LZ 83 e83:=jl.tA (sW (an:={}) (Λ:=mc.nil) (G82.s) func83 (by kernel_rfl) (ao nF)) (λx a=>by kernel_rfl)
def G83:=G82.add o83
def e84:lK:=lf (.pair (.sl .Bp (.int .u8)) (.pair (.int .i64) (.int .i64))) [] [(true,Y8)] λx a=>wD x
theorem o84:LZ 84 e84:=jl.tA (sW (an:={}) (Λ:=mc.nil) (G83.s) func84 (by kernel_rfl) (ao nF)) (λx a=>by kernel_rfl)
def G84:=G83.add o84
def e27:lK:=lf (.pair (.sl .Bp (.int .u8)) (.pair (.int .i64) (.int .i64))) [pI,pd .bool] [(false,(.sl (.own none) iM))] λx a=>B5 x a.1 a.2.1
def Xf:An:={mask:=mk [(4,[0,1,2,7,8,9]),(42,[0,7,14]),(1000010,[0,1,2,7,8,9]),(1000011,[0,1,2,7,8,9]),(1000012,[0,1,2,7,8,9]),(1000013,[0,1,2,7,8,9]),(1000038,[0,1,2,7,8,9,10,11,30,46]),(1000039,[0,1,2,7,8,9,11]),(1000050,[0,1,2,7,8,9,10,11,30,63]),(1000051,[0,1,2,7,8,9,11]),(1000074,[0,1,2,7,8,9,11]),(1000075,[0,1,2,7,8,9]),(1000086,[0,7,14]),(1000087,[0,7,14]),(1000088,[0,7,14]),(1000089,[0,7,14]),(1000090,[0,7,14,158]),(1000091,[0,7,14])],cut:=[5,6,19,25,37,43,44,45],merge:=mg [(44,158)],mv:=[83,110,116,124,164]}
abbrev Gw:SD:=⟨.ptr 0 0::DI::DB::bs 4 (cL (cX 86016 iM)::cL (cX 98304 dF)::DI::DI::.ptr 11 0::bs 18 (DI::bs 32 (DB::bs 101 []))),(some Y7)::zs 10 ((some Y16)::zs 153 []),.ptr⟩
abbrev Wb:SD:=⟨.ptr 0 0::DI::DB::bs 4 (cL (cX 86016 iM)::cL (cX 98304 dF)::DI::B::.ptr 11 0::bs 153 []),(some Y7)::zs 10 ((some Y16)::zs 153 []),.ptr⟩
def Ot (X:SD.D Gw)(K:sL R):aB R:=kh (λy0 y1 y2=>kn K Wb ((X.1.1,(X.1.2.1,(y0,(X.1.2.2.2.1,(X.1.2.2.2.2.1,()))))),(y1,(y2,())),())) X.1.1 X.1.2.1 (q2 X) (q3 X) (q4 X) (q5 X) (q6 X) (q7 X) X.2.1.1 X.2.1.2.1
abbrev Gv:SD:=⟨.ptr 0 0::DI::DB::bs 4 (cL (cX 86016 iM)::cL (cX 98304 dF)::DI::DI::.ptr 11 0::bs 18 (DI::bs 15 (DB::bs 118 []))),(some Y7)::zs 10 ((some Y16)::zs 153 []),.ptr⟩
abbrev Wa:SD:=⟨.ptr 0 0::DI::DB::bs 4 (cL (cX 86016 iM)::cL (cX 98304 dF)::DI::B::.ptr 11 0::bs 153 []),(some Y7)::zs 10 ((some Y16)::zs 153 []),.ptr⟩
def Oq (X:SD.D Gv)(K:sL R):aB R:=kf (λy0 y1 y2=>kn K Wa ((X.1.1,(X.1.2.1,(y0,(X.1.2.2.2.1,(X.1.2.2.2.2.1,()))))),(y1,(y2,())),())) X.1.1 X.1.2.1 (q2 X) (q3 X) (q4 X) (q5 X) (q6 X) (q7 X) X.2.1.1 X.2.1.2.1
abbrev Gx:SD:=⟨.ptr 0 0::DI::DB::bs 4 (cL (cX 86016 iM)::cL (cX 98304 dF)::DI::B::.ptr 11 0::bs 153 []),(some Y7)::zs 10 ((some Y16)::zs 153 []),.ptr⟩
abbrev Wc:SD:=⟨.ptr 0 0::DI::DB::bs 4 (cL (cX 86016 iM)::cL (cX 98304 dF)::DI::bs 155 []),(some Y7)::zs 164 [],.ptr⟩
def Ou (X:SD.D Gx)(K:sL R):aB R:=ki (λy0 y1=>kn K Wc ((X.1.1,(X.1.2.1,(y0,(X.1.2.2.2.1,(X.1.2.2.2.2.1,()))))),(y1,()),())) X.1.1 X.1.2.1 (q2 X) (q3 X) (q4 X) X.2.1.1 X.2.1.2.1
abbrev Dr:SD:=⟨.ptr 0 0::DI::DB::bs 4 (cL (cX 86016 iM)::cL (cX 98304 dF)::DI::bs 155 []),(some Y7)::zs 164 [],.ptr⟩
def On (X:SD.D Dr)(K:sL R):aB R:=nv (λy0=>kn K Dr ((z4 (u y0) X.1),X.2)) X.1.1 X.1.2.1 (q2 X) (q3 X) (q4 X) X.2.1.1
abbrev Ds:SD:=⟨.ptr 0 0::DI::DB::bs 4 (cL (cX 86016 iM)::cL (cX 98304 dF)::DI::bs 155 []),(some Y7)::zs 164 [],.ptr⟩
def Oo (X:SD.D Ds)(K:sL R):aB R:=wE (λy0 y1 y2=>kn K Ds ((z2 (w y0 (z1 (u y1))) X.1),(u y2 X.2.1),X.2.2)) X.1.1 X.1.2.1 (q2 X) (q3 X) (q4 X) X.2.1.1
abbrev ae0:SD:=⟨.ptr 0 0::DI::DB::bs 4 (cL (cX 86016 iM)::cL (cX 98304 dF)::DI::bs 155 []),(some Y7)::zs 164 [],.ptr⟩
def apj (X:SD.D ae0)(K:sL R):=Bh (λy0 y1 y2=>ke 0 K ae0 ((z2 (w y0 (z1 (u y1))) X.1),(u y2 X.2.1),X.2.2)) X.1.1 X.1.2.1 (q3 X)
abbrev Gy:SD:=⟨.ptr 0 0::bs 6 (cL (cX 86016 iM)::bs 6 (DI::bs 143 (DB::bs 6 []))),(some Y7)::zs 164 [],.ptr⟩
abbrev Wd:SD:=⟨.ptr 0 0::bs 6 (cL (cX 86016 iM)::bs 6 (DI::bs 150 [])),(some Y7)::zs 164 [],.ptr⟩
def Ox (X:SD.D Gy)(K:sL R):aB R:=zn (λy0=>kn K Wd ((y0,(X.1.2.1,())),(X.2.1.1,()),())) X.1.1 X.1.2.1 (q2 X) X.2.1.1
abbrev Dt:SD:=⟨.ptr 0 0::bs 6 (cL (cX 86016 iM)::bs 6 (DI::bs 150 [])),(some Y7)::zs 164 [],.ptr⟩
def Ov (X:SD.D Dt)(K:sL R):aB R:=uI (λy0=>kn K Dt ((z1 (u y0) X.1),X.2)) X.1.1 X.1.2.1 X.2.1.1
abbrev Du:SD:=⟨.ptr 0 0::bs 6 (cL (cX 86016 iM)::bs 6 (DI::bs 150 [])),(some Y7)::zs 164 [],.ptr⟩
def Ow (X:SD.D Du)(K:sL R):aB R:=zg (λy0 y1=>kn K Du ((w y0 (u y1) X.1),X.2)) X.1.1 X.1.2.1 X.2.1.1
abbrev We:SD:=⟨.ptr 0 0::bs 6 (cL (cX 86016 iM)::bs 6 (DI::bs 150 [])),(some Y7)::zs 164 [],.ptr⟩
def amC (X:SD.D We)(K:sL R):=zu (λy0 y1=>ke 3 K We ((w y0 (u y1) X.1),X.2)) X.2.1.1
def L27:mc:=(((((((((mc.nil.add 1000050 (Xc Gw Ot)).add 1000038 (Xc Gv Oq)).add 1000074 (Xc Gx Ou)).add 1000010 (Xc Dr On)).add 1000012 (Xc Ds Oo)).add 4 (yF ae0 apj (λX=>(q2 X,q4 X,X.2.1.1)))).add 1000090 (Xc Gy Ox)).add 1000086 (Xc Dt Ov)).add 1000088 (Xc Du Ow)).add 42 (yF We amC (λX=>(X.1.1,X.1.2.1)))
theorem ZV:SE E G84.g Xf L27 (nD Xf.cut f27 2):=ck Gw Ot
theorem ZU:SE E G84.g Xf L27 (nD Xf.cut f27 1):=ck Gv Oq
theorem ZW:SE E G84.g Xf L27 (nD Xf.cut f27 3):=ck Gx Ou
theorem ZS:SE E G84.g Xf L27 (nD Xf.cut f27 4):=ck Dr On
theorem ZT:SE E G84.g Xf L27 (nD Xf.cut f27 0):=ck Ds Oo
theorem asQ:xo E G84.g Xf L27 (cH f27 0):=lk ae0 apj (λX=>(q2 X,q4 X,X.2.1.1)) λX x=>((z2 (w x.1 (z1 (u x.2.1))) X.1),(u x.2.2 X.2.1),X.2.2)
theorem ZZ:SE E G84.g Xf L27 (nD Xf.cut f27 6):=ck Gy Ox
theorem ZX:SE E G84.g Xf L27 (nD Xf.cut f27 7):=ck Dt Ov
theorem ZY:SE E G84.g Xf L27 (nD Xf.cut f27 5):=ck Du Ow
theorem aqK:xo E G84.g Xf L27 (cH f27 1):=lk We amC (λX=>(X.1.1,X.1.2.1)) λX x=>((w x.1 (u x.2) X.1),X.2)
theorem o27:LZ 27 e27:=jl.tA (sW (Γ:=G84.g) (an:=Xf) (Λ:=L27) (G84.s) func27 (by kernel_rfl) (ac (cF asQ (cF aqK nF)) (cF ZT (cF ZU (cF ZV (cF ZW (cF ZS (cF ZY (cF ZZ (cF ZX nF)))))))))) (λx a=>by kernel_rfl)
def G27:=G84.add o27
def G8:=G27.q0 {late:=[10],sb:=mg [(2,2),(11,7)]} func8 [pd (.sl (.int .u8))] [(true,Y5),(false,(.sl (.own none) iM))] (c1 Aa)
def G29:=G8.q0 {merge:=mg [(1,6)]} func29 [pI,pI,pI] [rB] (c3 aC)
abbrev acb:SD:=⟨B::.ptr 1 0::DB::B::B::B::cL (jI (.int .i64))::DI::DI::bs 31 [],Z::(some Y25)::zs 38 [],.none⟩
def atp:=G29.q1 {mask:=mk [(2,[1,2,6,7,8])],merge:=mg [(4,29),(7,2)]} func109 [pf qj] [rB] (c1 jb) acb (λX K=>tX (λy0=>ke 0 K acb ((z3 (u y0) X.1),X.2)) (λy0 y1=>kr K acb ((w y0 (z2 (u y1)) X.1),X.2)) X.1.1 X.1.2.1 (q2 X) X.2.1.1) q3 (λX x=>((z3 (u x) X.1),X.2))
def atj:=atp.q0 {merge:=mg [(1,2)]} func102 [pf fy] [rB] (c1 th)
abbrev ab6:SD:=⟨B::DI::B::B::DB::B::B::cL (jI (.int .i64))::DI::DI::bs 7 [],zs 17 [],.none⟩
def atk:=atj.q1 {mask:=mk [(2,[1,4,7,8,9])]} func103 [pd (.sl (.int .i64)),pI] [rB] (c2 ie) ab6 (λX K=>xY (λy0=>ke 0 K ab6 ((z4 (u y0) X.1),X.2)) (λy0 y1=>kr K ab6 ((z1 (w y0 (z2 (u y1))) X.1),X.2)) X.1.1 X.1.2.1 (q2 X) (q3 X)) q4 (λX x=>((z4 (u x) X.1),X.2))
abbrev ajD:SD:=⟨B::DI::B::B::B::cL (cX 61440 (.int .i64))::DB::B::B::B::cL (jI (.int .i64))::DI::DI::bs 26 [],zs 39 [],.none⟩
def atl:=atk.q1 {mask:=mk [(4,[1,5,6,10,11,12])],merge:=mg [(6,22)],mv:=[23,27,34,38]} func104 [pd (.sl (.int .i64)),pI] [(false,(.sl (.own none) (.int .i64)))] (c2 lq) ajD (λX K=>mL (λy0 y1 y2=>ke 0 K ajD ((z1 (w y0 (w y1 (z2 (u y2)))) X.1),X.2)) X.1.1 (q3 X) (q4 X)) (λX=>(X.1.2.1,q2 X,q5 X)) (λX x=>((z1 (w x.1 (w x.2.1 (z2 (u x.2.2)))) X.1),X.2))
def aun:=atl.q0 {} func206 [pf mC] [(true,Y25)] (c1 Ea)
abbrev ack:SD:=⟨B::DI::B::B::DI::B::B::cL (jI mC)::DI::DI::bs 14 [],zs 24 [],.none⟩
def auo:=aun.q1 {mask:=mk [(2,[1,4,7,8,9])],merge:=mg [(4,21)]} func207 [pd (.sl mC),pI] [rI] (c2 vA) ack (λX K=>pB (λy0=>ke 0 K ack ((z4 (u y0) X.1),X.2)) (λy0 y1=>kr K ack ((z1 (w y0 (z2 (u y1))) X.1),X.2)) X.1.1 X.1.2.1 (q2 X) (q3 X)) q4 (λX x=>((z4 (u x) X.1),X.2))
abbrev ab7:SD:=⟨cL (jI mC)::B::DB::bs 6 (cL (jI mC)::DI::DI::bs 27 []),zs 39 [],.none⟩
def apx:=auo.q1 {mask:=mk [(4,[0,2,9,10,11])],merge:=mg [(6,27),(8,37)]} func105 [pd (.sl mC)] [rB] (c1 nP) ab7 (λX K=>vW (λy0=>ke 0 K ab7 ((z4 (u y0) X.1),X.2)) (λy0 y1=>kr K ab7 ((z1 (w y0 (z2 (u y1))) X.1),X.2)) X.1.1 X.1.2.1 (q2 X) (q3 X)) q4 (λX x=>((z4 (u x) X.1),X.2))
def n35:An:={mask:=mk [(6,[2,3,4,5,18,19,20]),(12,[2,3,4,5,7,8,18,19,20,32,33,34])],mv:=[53,57,63,69]}
abbrev Wj:SD:=⟨B::B::cL (cX 24576 mC)::DB::cL (cX 49152 mC)::cL (cX 61440 (.int .i64))::B::.ptr 7 0::cL (cX 98304 (.int .i64))::bs 9 (cL (jI fy)::DI::DI::bs 11 (cL (cX 393216 (.int .i64))::DI::DI::bs 35 [])),zs 7 ((qO (cS Y25 Y8))::zs 62 []),.none⟩
def amH (X:SD.D Wj)(K:sL R):=mn (λy0 y1 y2=>ke 2 K Wj ((z3 (w y0 (w y1 (z5 (u y2)))) X.1),X.2)) X.1.1 X.1.2.1 (q2 X) (q5 X) (q6 X) (q7 X) (q8 X) (q9 X) X.2.1.1
abbrev Ym:SD:=⟨B::B::cL (cX 24576 mC)::DB::cL (cX 49152 mC)::cL (cX 61440 (.int .i64))::bs 12 (cL (jI fy)::DI::DI::bs 49 []),zs 70 [],.none⟩
def apk (X:SD.D Ym)(K:sL R):=qY (λy0 y1 y2=>ke 0 K Ym ((z2 (w y0 (w y1 (z2 (u y2)))) X.1),X.2)) (λy0 y1 y2 y3 y4=>kr K Ym ((w y0 (w y1 (w y2 (w y3 (z2 (u y4))))) X.1),X.2)) X.1.1 X.1.2.1 (q4 X) (q5 X)
def L35:mc:=(mc.nil.add 12 (yF Wj amH (λX=>(q3 X,q4 X,q10 X)))).add 6 (yF Ym apk (λX=>(q2 X,q3 X,q6 X)))
theorem aqP:xo E apx.g n35 L35 (cH f35 1):=lk Wj amH (λX=>(q3 X,q4 X,q10 X)) λX x=>((z3 (w x.1 (w x.2.1 (z5 (u x.2.2)))) X.1),X.2)
theorem asR:xo E apx.g n35 L35 (cH f35 0):=lk Ym apk (λX=>(q2 X,q3 X,q6 X)) λX x=>((z2 (w x.1 (w x.2.1 (z2 (u x.2.2)))) X.1),X.2)
def G35:=apx.qk n35 func35 [pd (.sl fy)] [(false,(.sl (.own none) mC)),rB] (c1 qt) (cF asR (cF aqP nF))
def auf:=G35.q0 {merge:=mg [(1,2)]} func198 [pI] [rB] (c1 vB)
def aud:=auf.q0 {} func194 [pI,pI] [rI] (c2 jN)
def aug:=aud.q0 {} func199 [pf jW] [rI] (c1 kD)
def G95:=aug.q0 {merge:=mg [(1,2)]} func95 [pf jW] [rB] (c1 kP)
def G96:=G95.q0 {merge:=mg [(1,2)]} func96 [pf jx] [rB] (c1 qv)
def auh:=G96.q0 {merge:=mg [(1,18),(5,2),(7,2)]} func200 [pf Ep] [rB] (c1 ti)
def aui:=auh.q0 {merge:=mg [(1,2)]} func201 [pI] [rB] (c1 tr)
def G97:=aui.q0 {merge:=mg [(1,2)]} func97 [pf dF] [rB] (c1 gX)
def G33:=G97.q0 {merge:=mg [(1,42),(5,2)]} func33 [pf fA] [rB] (c1 xa)
abbrev ab8:SD:=⟨B::.ptr 1 0::DB::B::B::B::cL (jI .str)::DI::DI::bs 11 [],Z::(qO (jI .str))::zs 18 [],.none⟩
def atm:=G33.q1 {mask:=mk [(2,[1,2,6,7,8])]} func106 [pf (.sl .str)] [rB] (c1 vr) ab8 (λX K=>ED (λy0=>ke 0 K ab8 ((z3 (u y0) X.1),X.2)) (λy0 y1=>kr K ab8 ((w y0 (z2 (u y1)) X.1),X.2)) X.1.1 X.1.2.1 (q2 X) X.2.1.1) q3 (λX x=>((z3 (u x) X.1),X.2))
abbrev acm:SD:=⟨B::DI::DI::B::B::B::DI::B::B::cL (jI bX)::DI::DI::bs 16 [],zs 28 [],.none⟩
def aup:=atm.q1 {mask:=mk [(2,[1,2,6,9,10,11])],merge:=mg [(4,25)]} func208 [pd (.sl bX),pI,pI] [rI] (c3 pA) acm (λX K=>oJ (λy0=>ke 0 K acm ((z5 (u y0) X.1),X.2)) (λy0 y1=>kr K acm ((z2 (w y0 (z2 (u y1))) X.1),X.2)) X.1.1 X.1.2.1 (q2 X) (q3 X) (q4 X)) q5 (λX x=>((z5 (u x) X.1),X.2))
abbrev ab9:SD:=⟨cL (jI bX)::B::DB::B::B::cL (jI bX)::DI::DI::bs 34 [],zs 42 [],.none⟩
def atn:=aup.q1 {mask:=mk [(2,[0,2,5,6,7])],merge:=mg [(4,37)]} func107 [pd (.sl bX)] [rB] (c1 qX) ab9 (λX K=>qq (λy0=>ke 0 K ab9 ((z4 (u y0) X.1),X.2)) (λy0 y1=>kr K ab9 ((z1 (w y0 (z2 (u y1))) X.1),X.2)) X.1.1 X.1.2.1 (q2 X) (q3 X)) q4 (λX x=>((z4 (u x) X.1),X.2))
abbrev acd:SD:=⟨B::.ptr 1 0::DB::cL (cX 36864 .bool)::bs 22 (cL (jI (.int .i64))::DI::DI::bs 19 []),Z::(some Y18)::zs 46 [],.none⟩
def atq:=atn.q1 {mask:=mk [(5,[1,2,3,26,27,28])],merge:=mg [(1,21),(7,43)]} func110 [pf lA] [rB] (c1 jM) acd (λX K=>xP (λy0 y1=>ke 0 K acd ((z1 (w y0 (z2 (u y1))) X.1),X.2)) (λy0 y1 y2=>kr K acd ((w y0 (w y1 (z2 (u y2))) X.1),X.2)) X.1.1 (q2 X) (q3 X) X.2.1.1) (λX=>(X.1.2.1,q4 X)) (λX x=>((z1 (w x.1 (z2 (u x.2))) X.1),X.2))
def G87:=atq.q0 {} func87 [pd (.sl (.int .i64))] [(false,(.sl (.own none) (.int .i64)))] (c1 gT)
def at8:=G87.q0 {mv:=[7]} func189 [pf lA] [(true,Y11)] (c1 jw)
def auq:=at8.q0 {merge:=mg [(3,21)],mv:=[10,24]} func209 [pf lA,pd (.sl (.int .i64))] [(true,Y11),rB] (c2 ia)
abbrev aca:SD:=⟨B::.ptr 1 0::DB::DI::cL (cX 49152 (.int .i64))::bs 25 (cL (jI lB)::DI::DI::bs 35 []),Z::(some Y27)::zs 66 [],.none⟩
def ato:=auq.q1 {mask:=mk [(6,[1,2,3,4,30,31,32])],merge:=mg [(1,24),(8,50)],mv:=[55]} func108 [pf oQ] [rB] (c1 Ch) aca (λX K=>xU (λy0 y1 y2=>ke 0 K aca ((z1 (w y0 (w y1 (z2 (u y2)))) X.1),X.2)) (λy0 y1 y2 y3=>kr K aca ((w y0 (w y1 (w y2 (z2 (u y3)))) X.1),X.2)) X.1.1 (q3 X) (q4 X) X.2.1.1) (λX=>(X.1.2.1,q2 X,q5 X)) (λX x=>((z1 (w x.1 (w x.2.1 (z2 (u x.2.2)))) X.1),X.2))
def aur:=ato.q0 {merge:=mg [(1,2)]} func210 [pf ix] [rB] (c1 EF)
def atr:=aur.q0 {merge:=mg [(1,24),(3,2)]} func111 [pf ix] [rB] (c1 oh)
def avq:=atr.q0 {merge:=mg [(1,33),(3,54),(5,2)]} func298 [pf nw] [rB] (c1 DG)
abbrev acn:SD:=⟨cL (jI nw)::B::DB::B::B::cL (jI nw)::DI::DI::bs 10 [],zs 18 [],.none⟩
def aus:=avq.q1 {mask:=mk [(2,[0,2,5,6,7])]} func211 [pd (.sl nw)] [rB] (c1 BD) acn (λX K=>Ga (λy0=>ke 0 K acn ((z4 (u y0) X.1),X.2)) (λy0 y1=>kr K acn ((z1 (w y0 (z2 (u y1))) X.1),X.2)) X.1.1 X.1.2.1 (q2 X) (q3 X)) q4 (λX x=>((z4 (u x) X.1),X.2))
abbrev acs:SD:=⟨B::B::B::.ptr 3 0::DI::B::B::B::cL (jI kl)::DI::DI::bs 15 [],Z::Z::Z::(qO (cS EY Y0))::zs 22 [],.none⟩
def avr:=aus.q1 {mask:=mk [(2,[3,4,8,9,10])],merge:=mg [(4,23)]} func299 [pf (.sl kl),pf vc] [rI] (c2 Ay) acs (λX K=>yc (λy0=>ke 0 K acs ((z3 (u y0) X.1),X.2)) (λy0 y1=>kr K acs ((w y0 (z2 (u y1)) X.1),X.2)) X.1.1 X.1.2.1 (q2 X) X.2.1.1) q3 (λX x=>((z3 (u x) X.1),X.2))
abbrev aj0:SD:=⟨B::B::B::DI::bs 12 (cL (cX 196608 (.int .i64))::DI::DI::bs 10 []),zs 29 [],.none⟩
def awd:=avr.q1 {mask:=mk [(3,[3,16,17,18])]} func374 [pf vc] [rI] (c1 zN) aj0 (λX K=>po (λy0 y1=>ke 0 K aj0 ((w y0 (z2 (u y1)) X.1),X.2)) X.1.2.1 (q2 X)) (λX=>(X.1.1,q3 X)) (λX x=>((w x.1 (z2 (u x.2)) X.1),X.2))
abbrev ajS:SD:=⟨B::.ptr 1 0::B::cL (cX 36864 (.int .i64))::DI::bs 14 [],Z::(qO (cS EY Y0))::zs 17 [],.none⟩
def apI:=awd.q1 {mask:=mk [(3,[1,3,4])],mv:=[10,18]} func300 [pf vc] [(false,(.sl (.own none) (.int .i64)))] (c1 Fq) ajS (λX K=>vC (λy0 y1=>ke 0 K ajS ((w y0 (u y1) X.1),X.2)) X.2.1.1) (λX=>(X.1.1,X.1.2.1)) (λX x=>((w x.1 (u x.2) X.1),X.2))
def aq4:An:={mask:=mk [(4,[1,2,12,13,14]),(14,[1,2,3,12,13,14,49,50,51])],merge:=mg [(6,28),(9,40)]}
abbrev Km:SD:=⟨B::.ptr 1 0::DB::DI::bs 8 (cL (jI kl)::DI::DI::bs 34 (cL (cX 602112 (.int .i64))::DI::DI::bs 15 [])),Z::(qO (jI kl))::zs 65 [],.none⟩
def af6 (X:SD.D Km)(K:sL R):=mq (λy0=>ke 2 K Km ((z7 (u y0) X.1),X.2)) (λy0 y1=>kr K Km ((w y0 (z6 (u y1)) X.1),X.2)) X.1.1 X.1.2.1 (q2 X) (q3 X) (q4 X) (q5 X) (q6 X) X.2.1.1
abbrev P0:SD:=⟨B::.ptr 1 0::DB::bs 9 (cL (jI kl)::DI::DI::bs 52 []),Z::(qO (jI kl))::zs 65 [],.none⟩
def amx (X:SD.D P0)(K:sL R):=vZ (λy0=>ke 0 K P0 ((z3 (u y0) X.1),X.2)) (λy0 y1=>kr K P0 ((w y0 (z2 (u y1)) X.1),X.2)) X.1.1 X.1.2.1 (q2 X) X.2.1.1
def arR:mc:=(mc.nil.add 14 (yF Km af6 q7)).add 4 (yF P0 amx q3)
theorem anT:xo E apI.g aq4 arR (cH f212 1):=lk Km af6 q7 λX x=>((z7 (u x) X.1),X.2)
theorem aqF:xo E apI.g aq4 arR (cH f212 0):=lk P0 amx q3 λX x=>((z3 (u x) X.1),X.2)
def aut:=apI.qk aq4 func212 [pf (.sl kl)] [rB] (c1 uj) (cF aqF (cF anT nF))
def avs:=aut.q0 {merge:=mg [(1,2)]} func301 [pI] [rB] (c1 G4)
abbrev aco:SD:=⟨B::DI::B::B::DB::bs 19 (cL (jI (.int .i64))::DI::DI::bs 9 []),zs 36 [],.none⟩
def apC:=avs.q1 {mask:=mk [(4,[1,4,24,25,26])],merge:=mg [(1,22)]} func213 [pf HH,pI] [rB] (c2 zT) aco (λX K=>EE (λy0=>ke 0 K aco ((z4 (u y0) X.1),X.2)) (λy0 y1=>kr K aco ((z1 (w y0 (z2 (u y1))) X.1),X.2)) X.1.1 X.1.2.1 (q2 X) (q3 X)) q4 (λX x=>((z4 (u x) X.1),X.2))
def aqY:An:={mask:=mk [(4,[1,2,4,27,28,29]),(10,[1,4,45,46,47])],merge:=mg [(1,25),(6,41),(12,59)]}
abbrev PW:SD:=⟨B::DI::.ptr 2 0::B::DB::bs 22 (cL (jI nw)::DI::DI::bs 31 []),Z::Z::(some Y22)::zs 58 [],.none⟩
def amm (X:SD.D PW)(K:sL R):=qx (λy0=>ke 0 K PW ((z4 (u y0) X.1),X.2)) (λy0 y1=>kr K PW ((z1 (w y0 (z2 (u y1))) X.1),X.2)) X.1.1 X.1.2.1 (q2 X) (q3 X) X.2.1.1
abbrev Kk:SD:=⟨B::DI::B::B::DB::bs 40 (cL (jI kl)::DI::DI::bs 13 []),zs 61 [],.none⟩
def af2 (X:SD.D Kk)(K:sL R):=oF (λy0=>ke 2 K Kk ((z4 (u y0) X.1),X.2)) (λy0 y1=>kr K Kk ((z1 (w y0 (z2 (u y1))) X.1),X.2)) X.1.1 X.1.2.1 (q2 X) (q3 X)
def arK:mc:=(mc.nil.add 4 (yF PW amm q4)).add 10 (yF Kk af2 q4)
theorem aqu:xo E apC.g aqY arK (cH f112 0):=lk PW amm q4 λX x=>((z4 (u x) X.1),X.2)
theorem anP:xo E apC.g aqY arK (cH f112 1):=lk Kk af2 q4 λX x=>((z4 (u x) X.1),X.2)
def apy:=apC.qk aqY func112 [pf tL,pI] [rB] (c2 rb) (cF aqu (cF anP nF))
def n36:An:={mask:=mk [(5,[1,2,3,61,62]),(12,[1,2,3,103,104,105])],merge:=mg [(2,58),(7,89)]}
abbrev Yn:SD:=⟨B::.ptr 1 0::DB::DI::bs 57 (DI::DI::bs 54 []),Z::(some Y6)::zs 115 [],.none⟩
def apl (X:SD.D Yn)(K:sL R):=xK (λy0=>ke 0 K Yn ((z3 (u y0) X.1),X.2)) (λy0 y1=>kr K Yn ((w y0 (z2 (u y1)) X.1),X.2)) X.1.1 X.1.2.1 (q2 X) X.2.1.1
abbrev P5:SD:=⟨B::.ptr 1 0::DB::DI::bs 99 (cL (cX 1265664 (.int .i64))::DI::DI::bs 11 []),Z::(some Y6)::zs 115 [],.none⟩
def amI (X:SD.D P5)(K:sL R):=vU (λy0=>ke 2 K P5 ((z4 (u y0) X.1),X.2)) (λy0 y1=>kr K P5 ((w y0 (z3 (u y1)) X.1),X.2)) X.1.1 X.1.2.1 (q2 X) (q3 X) X.2.1.1
def L36:mc:=(mc.nil.add 5 (yF Yn apl q3)).add 12 (yF P5 amI q4)
theorem asS:xo E apy.g n36 L36 (cH f36 0):=lk Yn apl q3 λX x=>((z3 (u x) X.1),X.2)
theorem aqQ:xo E apy.g n36 L36 (cH f36 1):=lk P5 amI q4 λX x=>((z4 (u x) X.1),X.2)
def G36:=apy.qk n36 func36 [pf dT] [rB] (c1 jL) (cF asS (cF aqQ nF))
abbrev ace:SD:=⟨cL (jI (.int .i64))::cL (jI (.int .i64))::B::B::DB::bs 7 (DI::DI::bs 12 []),zs 26 [],.none⟩
def ats:=G36.q1 {mask:=mk [(4,[0,1,4,12,13])]} func113 [pd (.sl (.int .i64)),pd (.sl (.int .i64))] [rB] (c2 Pu.uz) ace (λX K=>Pu.oN (λy0=>ke 0 K ace ((z4 (u y0) X.1),X.2)) (λy0 y1=>kr K ace ((z2 (w y0 (z1 (u y1))) X.1),X.2)) X.1.1 X.1.2.1 (q2 X) (q3 X)) q4 (λX x=>((z4 (u x) X.1),X.2))
def G37:=ats.q0 {merge:=mg [(1,4)]} func37 [pf qj,pf qj] [rB] (c2 we)
def apz:=G37.q0 {merge:=mg [(1,2)]} func114 [pf jx] [rB] (c1 vn)
def n38:An:={mask:=mk [(4,[0,1,4,12,13,14]),(9,[0,1,4,6,12,13,14,52,53,54])],merge:=mg [(6,49),(11,69)]}
abbrev Yp:SD:=⟨cL (jI cp)::cL (jI mC)::B::B::DB::B::.ptr 6 0::bs 5 (cL (jI cp)::DI::DI::bs 37 (cL (jI cp)::DI::DI::bs 17 [])),zs 6 ((qO (kx (kx (cS Y8 (cS .bool (kx EY))))))::zs 65 []),.none⟩
def apn (X:SD.D Yp)(K:sL R):=oD (λy0=>ke 2 K Yp ((z8 (u y0) X.1),X.2)) (λy0 y1=>kr K Yp ((z2 (w y0 (z5 (u y1))) X.1),X.2)) X.1.1 X.1.2.1 (q2 X) (q3 X) (q4 X) (q5 X) (q6 X) (q7 X) X.2.1.1
abbrev Yo:SD:=⟨cL (jI cp)::cL (jI mC)::B::B::DB::bs 7 (cL (jI cp)::DI::DI::bs 57 []),zs 72 [],.none⟩
def apm (X:SD.D Yo)(K:sL R):=oC (λy0=>ke 0 K Yo ((z5 (u y0) X.1),X.2)) (λy0 y1=>kr K Yo ((z2 (w y0 (z2 (u y1))) X.1),X.2)) X.1.1 X.1.2.1 (q2 X) (q3 X) (q4 X)
def L38:mc:=(mc.nil.add 9 (yF Yp apn q8)).add 4 (yF Yo apm q5)
theorem asU:xo E apz.g n38 L38 (cH f38 1):=lk Yp apn q8 λX x=>((z8 (u x) X.1),X.2)
theorem asT:xo E apz.g n38 L38 (cH f38 0):=lk Yo apm q5 λX x=>((z5 (u x) X.1),X.2)
def G38:=apz.qk n38 func38 [pd (.sl cp),pd (.sl mC)] [rB] (c2 pn) (cF asT (cF asU nF))
abbrev aj4:SD:=⟨B::B::DB::B::B::cL (jI cp)::DI::DI::bs 16 [],zs 24 [],.none⟩
def G39:=G38.q1 {mask:=mk [(2,[2,5,6,7])],merge:=mg [(4,22)]} func39 [pd (.sl cp)] [rB] (c1 xZ) aj4 (λX K=>sC (λy0=>ke 0 K aj4 ((z3 (u y0) X.1),X.2)) (λy0 y1=>kr K aj4 ((w y0 (z2 (u y1)) X.1),X.2)) X.1.1 X.1.2.1 (q2 X)) q3 (λX x=>((z3 (u x) X.1),X.2))
def att:=G39.q0 {merge:=mg [(1,2)]} func115 [pf (.sl .str)] [rB] (c1 xH)
def aum:=att.q0 {merge:=mg [(1,13)]} func205 [pd .str,pI] [rI] (c2 iU)
def apJ:=aum.q0 {} func302 [pI] [rS] (c1 gM)
def aq8:An:={mask:=mk [(3,[0,3,4]),(7,[0,3,4,5])]}
abbrev Wg:SD:=⟨cL .str::B::B::cL (.int .u32)::DI::DI::bs 28 [],zs 34 [],.none⟩
def amE (X:SD.D Wg)(K:sL R):=rE (λy0 y1=>ke 2 K Wg ((z1 (w y0 (z1 (u y1))) X.1),X.2)) X.1.1 (q2 X)
abbrev Wf:SD:=⟨cL .str::B::B::cL (.int .u32)::DI::bs 29 [],zs 34 [],.none⟩
def amD (X:SD.D Wf)(K:sL R):=vp (λy0 y1=>ke 0 K Wf ((z1 (w y0 (u y1)) X.1),X.2)) X.1.1
def arV:mc:=(mc.nil.add 7 (yF Wg amE (λX=>(X.1.2.1,q3 X)))).add 3 (yF Wf amD (λX=>(X.1.2.1,q2 X)))
theorem aqM:xo E apJ.g aq8 arV (cH f303 1):=lk Wg amE (λX=>(X.1.2.1,q3 X)) λX x=>((z1 (w x.1 (z1 (u x.2))) X.1),X.2)
theorem aqL:xo E apJ.g aq8 arV (cH f303 0):=lk Wf amD (λX=>(X.1.2.1,q2 X)) λX x=>((z1 (w x.1 (u x.2)) X.1),X.2)
def avt:=apJ.qk aq8 func303 [pd .str] [rI] (c1 CJ) (cF aqL (cF aqM nF))
def auu:=avt.q0 {merge:=mg [(1,15)]} func214 [pI,pd .str] [rS,rB] (c2 xM)
def atu:=auu.q0 {merge:=mg [(2,19),(5,38)]} func116 [pd .str] [rI] (c1 jB)
def G40:=atu.q0 {merge:=mg [(4,18)]} func40 [pf (.sl .str)] [rI] (c1 rD)
def G41:=G40.q0 {merge:=mg [(1,2)]} func41 [pf jW] [rB] (c1 xG)
abbrev ajH:SD:=⟨B::.ptr 1 0::DB::cL (.sl .loc mC)::bs 30 (cL (jI dT)::DI::DI::bs 40 []),Z::(qO (cS (jI dT) (cS (jI cp) (cS (jI fy) (cS (jI .str) (cS Y0 (cS (jI (.int .i64)) (jI .str))))))))::zs 75 [],.none⟩
def G13:=G41.q1 {mask:=mk [(5,[1,2,3,34,35,36])],merge:=mg [(2,32),(7,55),(10,2)]} func13 [pf uZ] [rB] (c1 kM) ajH (λX K=>xF (λy0=>ke 0 K ajH ((z4 (u y0) X.1),X.2)) (λy0 y1=>kr K ajH ((w y0 (z3 (u y1)) X.1),X.2)) X.1.1 X.1.2.1 (q2 X) (q3 X) X.2.1.1) q4 (λX x=>((z4 (u x) X.1),X.2))
def G67:=G13.q0 {} func67 [pd (.sl cp)] [(false,(.sl (.own none) cp))] (c1 ka)
def atz:=G67.q0 {mv:=[7]} func124 [pf qj] [(true,Y19)] (c1 fR)
def at0:=atz.q0 {mv:=[7]} func177 [pf fy] [(true,(.pair Y19 Y8))] (c1 mr)
abbrev aoT:SD:=⟨B::B::B::cL (cX 36864 fy)::B::B::B::cL (jI fy)::DI::DI::bs 10 [],zs 20 [],.none⟩
def G68:=at0.q1 {mask:=mk [(3,[3,7,8,9])],mv:=[13,19]} func68 [pd (.sl fy)] [(false,(.sl (.own none) fy))] (c1 tj) aoT (λX K=>sA (λy0 y1=>ke 0 K aoT ((w y0 (z2 (u y1)) X.1),X.2)) X.1.2.1 (q2 X)) (λX=>(X.1.1,q3 X)) (λX x=>((w x.1 (z2 (u x.2)) X.1),X.2))
def G69:=G68.q0 {} func69 [pd (.sl .str)] [(false,(.sl (.own none) .str))] (c1 iK)
def G86:=G69.q0 {} func86 [pf (.sl .str)] [(true,(.sl (.own none) .str))] (c1 mM)
def at5:=G86.q0 {} func186 [pf (.sl .str)] [(true,(.sl (.own none) .str))] (c1 dM)
def at6:=at5.q0 {} func187 [pd (.sl bX)] [(false,(.sl (.own none) bX))] (c1 xW)
abbrev ajR:SD:=⟨B::B::B::cL (cX 36864 lB)::B::B::B::cL (jI lB)::DI::DI::bs 16 [],zs 26 [],.none⟩
def avf:=at6.q1 {mask:=mk [(3,[3,7,8,9])],mv:=[13,25]} func286 [pd (.sl lB)] [(false,(.sl (.own none) lB))] (c1 vz) ajR (λX K=>ux (λy0 y1=>ke 0 K ajR ((w y0 (z2 (u y1)) X.1),X.2)) X.1.2.1 (q2 X)) (λX=>(X.1.1,q3 X)) (λX x=>((w x.1 (z2 (u x.2)) X.1),X.2))
def at7:=avf.q0 {sb:=mg [(2,2)]} func188 [pf oQ] [(true,Y24)] (c1 tn)
def avg:=at7.q0 {} func287 [pf (.sl kl)] [(true,(.sl (.own none) kl))] (c1 xX)
def avh:=avg.q0 {sb:=mg [(2,2)]} func288 [pf HH] [(true,(.pair .str (.sl (.own none) (.int .i64))))] (c1 wb)
def at9:=avh.q0 {sb:=mg [(2,2)]} func190 [pf tL] [(true,Y28)] (c1 sB)
def aua:=at9.q0 {} func191 [pd (.sl fX)] [(false,(.sl (.own none) fX))] (c1 mu)
abbrev aoV:SD:=⟨B::.ptr 1 0::.ptr 2 0::.ptr 3 0::bs 23 (cL (jI lA)::DI::DI::bs 46 []),Z::(some Y6)::(some Y3)::(qO (cS (cX 36865 .str) (cS (cX 36868 bX) (cS (cS Y0 (cS (kx (kx (kx (cX 36892 (.int .i64))))) (cS (cX 36895 lB) EY))) (cS (cX 36901 fA) (cS (cX 36904 lA) (cS (jI ix) (cS (jI .bool) (cS Y25 (cS Y22 (cS (jI fX) (cS .bool (cS (jI .str) (cS (jI (.int .i64)) (cS (jI (.int .i64)) (cS EY Y0))))))))))))))))::zs 72 [],.none⟩
def G88:=aua.q1 {mask:=mk [(8,[1,2,3,27,28,29])],mv:=[34,75],mb:=mg [(34,3)],sb:=mg [(39,3)]} func88 [pf dT] [(true,Y2)] (c1 iE) aoV (λX K=>uw (λy0 y1=>ke 0 K aoV ((z2 (u y0) X.1),(z2 (u y1) X.2.1),X.2.2)) X.1.1 X.1.2.1 X.2.1.1 X.2.1.2.1) (λX=>(q2 X,X.2.1.2.2.1)) (λX x=>((z2 (u x.1) X.1),(z2 (u x.2) X.2.1),X.2.2))
abbrev aoL:SD:=⟨B::B::.ptr 2 0::.ptr 3 0::bs 21 (cL (jI dT)::DI::DI::bs 12 []),Z::Z::(some Y10)::(qO (cS (cX 36865 dT) (cS (cX 36868 cp) (cS (cX 36871 fy) (cS (cX 36874 .str) (cS Y0 (cS (cX 36889 (.int .i64)) (cX 36892 .str))))))))::zs 36 [],.none⟩
def G28:=G88.q1 {mask:=mk [(3,[2,3,25,26,27])],mv:=[32,39],mb:=mg [(32,3)],sb:=mg [(3,3),(37,3)]} func28 [pf uZ] [(true,Y5)] (c1 jv) aoL (λX K=>uv (λy0 y1=>ke 0 K aoL ((z2 (u y0) X.1),(z1 (u y1) X.2.1),X.2.2)) X.1.1 X.1.2.1 X.2.1.1) (λX=>(q2 X,X.2.1.2.1)) (λX x=>((z2 (u x.1) X.1),(z1 (u x.2) X.2.1),X.2.2))
def aue:=G28.q0 {merge:=mg [(1,9)]} func197 [pf ix] [(true,Y17)] (c1 qA)
def G94:=aue.q0 {} func94 [pf ix] [(true,Y17)] (c1 wa)
abbrev aoO:SD:=⟨B::B::.ptr 2 0::.ptr 3 0::bs 9 (DI::DI::bs 14 []),Z::Z::(some Y3)::(some Y4)::zs 25 [],.none⟩
def G32:=G94.q1 {mask:=mk [(5,[2,3,13,14])],mv:=[10,28]} func32 [pf dT] [(true,Y2)] (c1 rG) aoO (λX K=>ua (λy0 y1=>ke 0 K aoO ((z1 (u y0) X.1),(z1 (u y1) X.2.1),X.2.2)) X.1.1 X.2.1.1) (λX=>(X.1.2.1,X.2.1.2.1)) (λX x=>((z1 (u x.1) X.1),(z1 (u x.2) X.2.1),X.2.2))
def atx:=G32.q0 {merge:=mg [(1,12),(3,31),(5,2)]} func122 [pf am7] [rB] (c1 CI)
def G45:=atx.q0 {merge:=mg [(1,4)]} func45 [pf iM,pI] [rB] (c2 py)
def awg:=G45.q0 {merge:=mg [(2,17)],mv:=[18,29]} func377 [pf qj,pI] [(true,Y19),rB] (c2 Bx)
abbrev aj2:SD:=⟨B::DI::B::B::.ptr 4 0::B::.ptr 6 0::bs 18 (cL (jI (.int .i64))::DI::DI::bs 14 []),zs 4 ((qO (kx (cS .bool (cX 49159 (.int .i64)))))::Z::(qO (kx (cS .bool (cX 73735 (.int .i64)))))::zs 35 []),.none⟩
def awh:=awg.q1 {mask:=mk [(6,[1,4,6,25,26,27])],merge:=mg [(2,20)],mv:=[21,35,41]} func378 [pf qj,pI] [(true,Y19),rB] (c2 zI) aj2 (λX K=>tW (λy0 y1=>ke 0 K aj2 ((z3 (u y0) X.1),(z1 (u y1) X.2.1),X.2.2)) X.1.1 X.1.2.1 (q2 X) X.2.1.1) (λX=>(q3 X,X.2.1.2.1)) (λX x=>((z3 (u x.1) X.1),(z1 (u x.2) X.2.1),X.2.2))
def avA:=awh.q0 {mv:=[21,30,39,46],mb:=mg [(39,6)],sb:=mg [(4,4)]} func310 [pf qj,pf jx] [(true,Y19),rI] (c2 BF)
def auC:=avA.q0 {mv:=[13,20,30,31,47],mb:=mg [(20,6),(47,6)],sb:=mg [(4,4)],fm:=[49]} func221 [pf fy,pf jx] [(true,(.pair Y19 Y8)),rI] (c2 qn)
def aty:=auC.q0 {mv:=[14,23,32,60],es:=mg [(25,8)]} func123 [pd (.sl fy),pI,pf jx] [(false,(.sl (.own none) fy)),rI] (c3 sy)
def G46:=aty.q0 {merge:=mg [(2,24)],mv:=[25,26,34,47]} func46 [pf uZ,pI,pf jx] [(true,Y5),rI] (c3 ql)
def apD:=G46.q0 {merge:=mg [(5,2),(7,2)]} func222 [pf sR] [rB] (c1 tZ)
def aqZ:An:={mask:=mk [(7,[2,4,6,7,8,9]),(11,[2,4,6,7,8,10])],merge:=mg [(2,24)],mv:=[25,74]}
abbrev V1:SD:=⟨B::B::DI::B::.ptr 4 0::B::.ptr 6 0::.ptr 7 0::cL (cX 98304 (.int .u8))::DI::bs 65 [],zs 4 ((some Y23)::Z::(qO (cX 73729 .str))::(qO (cX 86017 .str))::zs 67 []),.none⟩
def amn (X:SD.D V1)(K:sL R):=uS (λy0 y1=>ke 0 K V1 ((z1 (w y0 (u y1)) X.1),X.2)) X.1.1 X.2.1.1 X.2.1.2.1 X.2.1.2.2.1
abbrev O2:SD:=⟨B::B::DI::B::.ptr 4 0::B::.ptr 6 0::.ptr 7 0::cL (cX 98304 (.int .u8))::B::DI::bs 64 [],zs 4 ((some Y23)::Z::(qO (cX 73729 .str))::(qO (cX 86017 .str))::zs 67 []),.none⟩
def af3 (X:SD.D O2)(K:sL R):=tc (λy0 y1=>ke 2 K O2 ((z1 (w y0 (u y1)) X.1),X.2)) X.1.1 X.2.1.1 X.2.1.2.1 X.2.1.2.2.1
def arL:mc:=(mc.nil.add 7 (yF V1 amn (λX=>(X.1.2.1,q2 X)))).add 11 (yF O2 af3 (λX=>(X.1.2.1,q2 X)))
theorem aqv:xo E apD.g aqZ arL (cH f125 0):=lk V1 amn (λX=>(X.1.2.1,q2 X)) λX x=>((z1 (w x.1 (u x.2)) X.1),X.2)
theorem anQ:xo E apD.g aqZ arL (cH f125 1):=lk O2 af3 (λX=>(X.1.2.1,q2 X)) λX x=>((z1 (w x.1 (u x.2)) X.1),X.2)
def atA:=apD.qk aqZ func125 [pf (.sl .str),pf sR,pI] [(true,(.sl (.own none) .str))] (c3 mm) (cF aqv (cF anQ nF))
abbrev aoP:SD:=⟨B::cL (jI sR)::DI::DI::bs 4 (.ptr 8 0::.ptr 9 0::DI::bs 38 []),zs 8 ((qO (cX 98305 .str))::(qO (cX 110593 .str))::zs 39 []),.none⟩
def G47:=atA.q1 {mask:=mk [(5,[1,2,3,8,9,10])],merge:=mg [(2,18),(5,28)],mv:=[19,48],sb:=mg [(9,9)]} func47 [pf (.sl .str),pd (.sl sR),pI,pI] [(true,(.sl (.own none) .str))] (c4 xR) aoP (λX K=>xS (λy0 y1=>ke 0 K aoP ((z3 (u y0) X.1),(z1 (u y1) X.2.1),X.2.2)) X.1.1 X.1.2.1 (q2 X) X.2.1.1) (λX=>(q3 X,X.2.1.2.1)) (λX x=>((z3 (u x.1) X.1),(z1 (u x.2) X.2.1),X.2.2))
abbrev aoQ:SD:=⟨B::cL .str::B::B::B::DI::cL (cX 73728 sR)::DI::bs 49 [],zs 57 [],.none⟩
def G48:=G47.q1 {mask:=mk [(8,[1,5,6,7])],merge:=mg [(1,20)],mv:=[33,47]} func48 [pf (.sl .str),pd .str] [(false,(.sl (.own none) sR))] (c2 uq) aoQ (λX K=>lE (λy0 y1=>ke 0 K aoQ ((z2 (w y0 (u y1)) X.1),X.2)) X.1.1 X.1.2.1) (λX=>(q2 X,q3 X)) (λX x=>((z2 (w x.1 (u x.2)) X.1),X.2))
def avo:=G48.q0 {merge:=mg [(4,29)]} func296 [pd (.sl bX),pI,pI,pd .bool] [rI] (c4 Fp)
def avp:=avo.q0 {merge:=mg [(2,6)]} func297 [pf (.sl .str),pI,pI] [rB] (c3 xb)
abbrev acj:SD:=⟨cL (jI bX)::B::DI::DI::DI::DB::B::.ptr 7 0::bs 4 (cL (cX 147456 jQ)::DB::cL (cX 172032 jQ)::bs 60 []),zs 7 ((qO (jI .str))::zs 67 []),.none⟩
def auj:=avp.q1 {mask:=mk [(8,[0,2,3,4,5,7,12,13,14])],merge:=mg [(1,29),(11,55),(16,73)],mv:=[56,74]} func202 [pd (.sl bX),pf (.sl .str),pI,pI,pI,pd .bool] [(false,(.sl (.own none) jQ)),rB] (c6 Ax) acj (λX K=>tp (λy0 y1 y2=>ke 0 K acj ((z2 (w y0 (w y1 (z3 (u y2)))) X.1),X.2)) (λy0 y1 y2 y3 y4=>kr K acj ((z2 (w y0 (w y1 (z1 (w y2 (w y3 (u y4)))))) X.1),X.2)) X.1.1 X.1.2.1 (q4 X) (q5 X) (q6 X) X.2.1.1) (λX=>(q2 X,q3 X,q7 X)) (λX x=>((z2 (w x.1 (w x.2.1 (z3 (u x.2.2)))) X.1),X.2))
abbrev ajK:SD:=⟨B::DI::DI::.ptr 3 0::bs 4 (cL (cX 98304 (.int .u8))::bs 41 []),Z::Z::Z::(qO (jI .str))::zs 46 [],.none⟩
def auk:=auj.q1 {mask:=mk [(4,[1,2,3,8])],mv:=[41]} func203 [pf (.sl .str),pI,pI] [rS,rB] (c3 qZ) ajK (λX K=>mI (λy0 y1=>ke 0 K ajK ((w y0 (z1 (u y1)) X.1),X.2)) X.1.2.1 X.2.1.1) (λX=>(X.1.1,q2 X)) (λX x=>((w x.1 (z1 (u x.2)) X.1),X.2))
abbrev aoW:SD:=⟨bs 6 (.ptr 6 0::bs 7 (cL .str::bs 15 (cL (.sl .loc jQ)::DI::DI::bs 17 []))),zs 6 ((qO (jI .str))::zs 43 []),.none⟩
def G98:=auk.q1 {mask:=mk [(6,[6,14,30,31,32])]} func98 [pd (.sl bX),pf (.sl .str),pI,pI,pI] [rS,rB] (c5 qm) aoW (λX K=>vT (λy0 y1=>ke 0 K aoW ((w y0 (z2 (u y1)) X.1),X.2)) X.1.2.1 (q2 X) X.2.1.1) (λX=>(X.1.1,q3 X)) (λX x=>((w x.1 (z2 (u x.2)) X.1),X.2))
def G99:=G98.q0 {} func99 [pf jx] [rI] (c1 pC)
def aul:=G99.q0 {merge:=mg [(1,13)]} func204 [pd .str,pI] [rI] (c2 gr)
def ath:=aul.q0 {} func100 [pd .str] [(true,(.pair (.int .i64) Y0)),rI,rB] (c1 mR)
def ati:=ath.q0 {} func101 [pf jx] [rI] (c1 ya)
def G34:=ati.q0 {merge:=mg [(7,46)],sb:=mg [(8,8),(9,9)]} func34 [pd (.sl bX),pf (.sl .str),pI,pf jx] [(true,(.pair (.int .i64) Y0)),(true,Y8),rB] (c4 lD)
def avC:=G34.q0 {merge:=mg [(1,2)]} func312 [pf qf] [rB] (c1 As)
def avD:=avC.q0 {} func313 [pI] [rS] (c1 cD)
def auF:=avD.q0 {} func225 [pf qf] [rS] (c1 nr)
def auG:=auF.q0 {merge:=mg [(1,15)]} func226 [pf lA,pI] [rI] (c2 gW)
def avi:=auG.q0 {merge:=mg [(1,11)]} func289 [pf jW,pI] [rI] (c2 px)
abbrev ajT:SD:=⟨B::DI::cL .str::B::B::B::.ptr 6 0::B::.ptr 8 0::bs 41 [],zs 6 ((qO (cX 73729 .str))::Z::(qO (cX 98305 .str))::zs 41 []),.none⟩
def avB:=avi.q1 {mask:=mk [(4,[1,2,6,8])],nest:=[33],mv:=[19,49]} func311 [pf (.sl .str),pI,pd .str] [(true,(.sl (.own none) .str)),rB] (c3 ur) ajT (λX K=>oI (λy0 y1 y2=>ke 0 K ajT ((w y0 (u y1) X.1),(z1 (u y2) X.2.1),X.2.2)) X.2.1.1) (λX=>(X.1.1,X.1.2.1,X.2.1.2.1)) (λX x=>((w x.1 (u x.2.1) X.1),(z1 (u x.2.2) X.2.1),X.2.2))
abbrev ajM:SD:=⟨bs 4 (cL .str::bs 7 (.ptr 12 0::B::.ptr 14 0::bs 20 (cL (.sl .loc jQ)::DI::DI::bs 20 []))),zs 12 ((qO (cX 147457 .str))::Z::(qO (cX 172033 .str))::zs 43 []),.none⟩
def auE:=avB.q1 {mask:=mk [(6,[4,12,14,35,36,37])],mv:=[34,41,50,57],sb:=mg [(14,14)]} func224 [pd (.sl bX),pf (.sl .str),pI,pI,pd .str,pd .bool] [(true,(.sl (.own none) .str)),rB] (c6 G3) ajM (λX K=>Aw (λy0 y1 y2=>ke 0 K ajM ((w y0 (z2 (u y1)) X.1),(z1 (u y2) X.2.1),X.2.2)) X.1.2.1 (q2 X) X.2.1.1) (λX=>(X.1.1,q3 X,X.2.1.2.1)) (λX x=>((w x.1 (z2 (u x.2.1)) X.1),(z1 (u x.2.2) X.2.1),X.2.2))
def avk:=auE.q0 {} func291 [pd (.sl bX),pf (.sl .str),pI,pI,pd .str] [(true,(.sl (.own none) .str)),rB] (c5 rF)
def avE:=avk.q0 {} func314 [pf jW] [rI] (c1 vx)
def auH:=avE.q0 {merge:=mg [(1,22)],mv:=[26,36,40,50],mb:=mg [(40,13),(50,13)],sb:=mg [(10,10),(11,11),(13,13)]} func227 [pd (.sl bX),pf (.sl .str),pI,pf jW,pd .str] [(true,(.sl (.own none) .str)),(true,Y0),rB] (c5 xQ)
abbrev ajF:SD:=⟨cL (jI bX)::B::DI::bs 5 (.ptr 8 0::.ptr 9 0::.ptr 10 0::.ptr 11 0::.ptr 12 0::B::.ptr 14 0::.ptr 15 0::DI::bs 22 (cL (jI (.int .i64))::DI::DI::bs 38 [])),zs 8 ((some Y0)::(some Y18)::(qO (cX 122881 .str))::(some Y0)::(some Y30)::Z::(qO (cX 172033 .str))::(some Y29)::zs 64 []),.none⟩
def atG:=auH.q1 {mask:=mk [(6,[0,2,8,9,10,11,12,14,15,16,39,40,41])],merge:=mg [(2,34)],mv:=[35,37,53,65,76,78],mb:=mg [(35,14),(37,15),(65,20),(76,14),(78,15)],sb:=mg [(8,8),(10,10),(11,11),(12,12),(14,14),(15,15)]} func131 [pd (.sl bX),pf (.sl .str),pI,pf jW,pf lA] [(true,(.sl (.own none) .str)),(true,Y0),(true,Y11),rI] (c5 ju) ajF (λX K=>ph (λy0 y1 y2 y3=>ke 0 K ajF ((z2 (w y0 (z2 (u y1))) X.1),(w y2 (z4 (u y3)) X.2.1),X.2.2)) X.1.1 X.1.2.1 (q3 X) (q4 X) X.2.1.2.1 X.2.1.2.2.1 X.2.1.2.2.2.1 X.2.1.2.2.2.2.1 X.2.1.2.2.2.2.2.2.1) (λX=>(q2 X,q5 X,X.2.1.1,X.2.1.2.2.2.2.2.1)) (λX x=>((z2 (w x.1 (z2 (u x.2.1))) X.1),(w x.2.2.1 (z4 (u x.2.2.2)) X.2.1),X.2.2))
def awm:=atG.q0 {merge:=mg [(1,2)]} func383 [pf ajf] [rB] (c1 CK)
def avH:=awm.q0 {merge:=mg [(4,33)],sb:=mg [(4,4)]} func317 [pd .str] [(true,(.pair (.int .i64) Y23)),rB] (c1 vu)
def awP:=avH.q0 {merge:=mg [(1,12)]} func447 [pI,pI] [rI] (c2 Bw)
abbrev aj7:SD:=⟨cL .str::B::B::DI::DI::bs 28 [],zs 33 [],.none⟩
def awH:=awP.q1 {mask:=mk [(3,[0,3,4])]} func424 [pd .str] [rI] (c1 zU) aj7 (λX K=>ui (λy0 y1=>ke 0 K aj7 ((z1 (w y0 (u y1)) X.1),X.2)) X.1.1) (λX=>(X.1.2.1,q2 X)) (λX x=>((z1 (w x.1 (u x.2)) X.1),X.2))
def awp:=awH.q0 {} func386 [pd .str] [rI] (c1 kB)
def awq:=awp.q0 {merge:=mg [(1,17)]} func387 [pd .str,pI,pd .str] [rS] (c3 gS)
def awI:=awq.q0 {merge:=mg [(1,2)]} func425 [pf TIp] [rB] (c1 Mx)
def aws:=awI.q0 {} func389 [pf TIp] [rS,rB] (c1 zP)
def avL:=aws.q0 {} func321 [pf TIp] [rS,rB] (c1 xD)
def avI:=avL.q0 {merge:=mg [(2,22),(6,56)],sb:=mg [(5,5)]} func318 [pd .str] [(true,Y26),rB] (c1 BC)
def awn:=avI.q0 {} func384 [pf Ep] [rS] (c1 uu)
def awo:=awn.q0 {merge:=mg [(1,27)]} func385 [pI,pI,pI,pI] [rS,rB] (c4 sq)
def awr:=awo.q0 {} func388 [pI] [rI] (c1 gE)
def avK:=awr.q0 {merge:=mg [(8,39)]} func320 [pI,pI,pf Ep] [rS,rB] (c3 kV)
def avJ:=avK.q0 {merge:=mg [(3,20),(9,44),(12,68)]} func319 [pI,pI,pI,pd .str] [(true,(.pair (.int .i64) Y26)),rB] (c4 sn)
def auL:=avJ.q0 {merge:=mg [(2,20)]} func231 [pd .str] [(true,Y1),rI] (c1 jC)
def avm:=auL.q0 {} func293 [pf dF] [(true,(.pair (.int .i64) Y0))] (c1 wZ)
abbrev acy:SD:=⟨B::B::B::.ptr 3 0::DI::B::B::cL (jI fX)::DI::DI::bs 10 [],Z::Z::Z::(qO (cS EY Y0))::zs 16 [],.none⟩
def awc:=avm.q1 {mask:=mk [(2,[3,4,7,8,9])]} func373 [pd (.sl fX),pf vc] [rI] (c2 uh) acy (λX K=>oG (λy0=>ke 0 K acy ((z3 (u y0) X.1),X.2)) (λy0 y1=>kr K acy ((w y0 (z2 (u y1)) X.1),X.2)) X.1.1 X.1.2.1 (q2 X) X.2.1.1) q3 (λX x=>((z3 (u x) X.1),X.2))
def avn:=awc.q0 {merge:=mg [(17,82)],mv:=[16,31,51,58,67,83,132],er:=mg [(115,5)]} func295 [pd (.sl fX),pf dF] [(false,(.sl (.own none) fX))] (c2 Bz)
abbrev ajJ:SD:=⟨cL (jI bX)::B::DI::B::B::B::DI::B::B::B::.ptr 10 0::B::B::B::.ptr 14 0::.ptr 15 0::.ptr 16 0::B::B::.ptr 19 0::.ptr 20 0::cL (cX 258048 fX)::DI::bs 99 [],zs 10 ((some Y20)::Z::Z::Z::(qO (cX 172033 .str))::(some Y20)::(qO (kx (kx (kx (cX 196618 (.int .i64))))))::Z::Z::(qO (cX 233473 .str))::(qO (kx (kx (kx (cX 245770 (.int .i64))))))::zs 101 []),.none⟩
def arD:=avn.q1 {mask:=mk [(5,[0,2,6,10,14,15,16,19,20,21,22])],merge:=mg [(2,48)],mv:=[49,51,52,96,104,117,119,120],mb:=mg [(49,19),(51,20),(117,19),(119,20)],sb:=mg [(14,14),(15,15),(16,16),(19,19),(20,20)]} func196 [pd (.sl bX),pf (.sl .str),pI,pf fA,pf lA,pd (.sl fX),pI] [(true,(.sl (.own none) .str)),(true,Y20),(true,Y11),(false,(.sl (.own none) fX)),rI] (c7 xO) ajJ (λX K=>nO (λy0 y1 y2 y3=>ke 0 K ajJ ((z3 (w y0 (u y1)) X.1),(w y2 (z4 (u y3)) X.2.1),X.2.2)) X.1.1 X.1.2.1 (q2 X) X.2.1.2.1 X.2.1.2.2.1 X.2.1.2.2.2.1 X.2.1.2.2.2.2.1) (λX=>(q3 X,q4 X,X.2.1.1,X.2.1.2.2.2.2.2.1)) (λX x=>((z3 (w x.1 (u x.2.1)) X.1),(w x.2.2.1 (z4 (u x.2.2.2)) X.2.1),X.2.2))
def e92:lK:=lf (.pair (.sl (.own none) .str) (.pair (.sl (.own none) bX) (.pair (.pair (.pair (.int .i64) (.pair (.int .i64) (.pair (.int .i64) (.int .i64)))) (.pair (.pair (.int .i64) (.pair (.int .i64) (.pair (.int .i64) (.sl (.own none) (.int .i64))))) (.pair (.sl (.own none) lB) (.int .i64)))) (.pair (.sl (.own none) fA) (.pair (.sl (.own none) lA) (.pair (.sl (.own none) ix) (.pair (.sl (.own none) .bool) (.pair (.pair (.int .i64) (.pair .bool (.sl (.own none) (.int .i64)))) (.pair (.pair (.sl (.own none) nw) (.pair (.sl (.own none) kl) (.pair .str (.sl (.own none) (.int .i64))))) (.pair (.sl (.own none) fX) (.pair .bool (.pair (.sl (.own none) .str) (.pair (.sl (.own none) (.int .i64)) (.pair (.sl (.own none) (.int .i64)) (.pair (.int .i64) (.pair (.int .i64) (.pair (.int .i64) (.pair (.int .i64) (.int .i64))))))))))))))))))) [pI,pI] [rI] λx a=>me x a.1 a.2.1
theorem o92:LZ 92 e92:=jl.tA (sW (an:={mv:=[8,49,51,52],sb:=mg [(55,0),(59,0)],fm:=[19,20],eb:=mg [(56,0),(57,0)]}) (Λ:=mc.nil) (arD.s) func92 (by kernel_rfl) (ao nF)) (λx a=>by kernel_rfl)
def G92:=arD.add o92
abbrev ajL:SD:=⟨B::B::DI::B::B::B::.ptr 6 0::B::.ptr 8 0::DI::bs 20 [],zs 6 ((some Y32)::Z::(some Y31)::zs 21 []),.none⟩
def auD:=G92.q1 {mask:=mk [(5,[2,6,8,9])],mv:=[24,29]} func223 [pI,pI,pI] [(true,Y11),rB] (c3 xN) ajL (λX K=>vV (λy0 y1=>ke 0 K ajL ((z1 (u y0) X.1),(z1 (u y1) X.2.1),X.2.2)) X.1.1 X.2.1.1) (λX=>(X.1.2.1,X.2.1.2.1)) (λX x=>((z1 (u x.1) X.1),(z1 (u x.2) X.2.1),X.2.2))
def atB:=auD.q0 {mv:=[3,8]} func126 [] [(true,Y24)] (λa=>Fo)
def atC:=atB.q0 {} func127 [pd (.sl bX),pf (.sl .str),pI,pI,pd .str] [(true,(.sl (.own none) .str)),rB] (c5 kO)
def atD:=atC.q0 {} func128 [pI] [rI] (c1 tq)
abbrev ajE:SD:=⟨cL (.int .u8)::bs 4 (cL (cX 61440 (.int .u8))::bs 4 (DI::DI::bs 9 [])),zs 21 [],.none⟩
def atE:=atD.q1 {mask:=mk [(3,[0,5,10,11])]} func129 [pd (.int .u8),pI] [rS] (c2 qh) ajE (λX K=>yb (λy0 y1=>ke 0 K ajE ((z1 (w y0 (z1 (u y1))) X.1),X.2)) X.1.1 (q2 X)) (λX=>(X.1.2.1,q3 X)) (λX x=>((z1 (w x.1 (z1 (u x.2))) X.1),X.2))
def am3:=atE.q0 {mv:=[10,24],mb:=mg [(24,5)],sb:=mg [(2,2),(3,3)]} func130 [pI] [(true,Y20),(true,Y11)] (c1 yU)
def n49:An:={mask:=mk [(5,[2,3,21,22]),(10,[2,3,30,31,32]),(18,[2,3,54,55])],mv:=[18,37,88,98,121,142],sb:=mg [(90,3)]}
abbrev ae1:SD:=⟨B::B::.ptr 2 0::.ptr 3 0::bs 17 (DI::DI::bs 120 []),Z::Z::(some Y3)::(some Y4)::zs 139 [],.none⟩
def apo (X:SD.D ae1)(K:sL R):=sk (λy0 y1=>ke 0 K ae1 ((z1 (u y0) X.1),(z1 (u y1) X.2.1),X.2.2)) X.1.1 X.2.1.1
abbrev Wl:SD:=⟨B::B::.ptr 2 0::.ptr 3 0::bs 26 (cL (.sl .loc lB)::DI::DI::bs 110 []),Z::Z::(some Y3)::(some Y4)::zs 139 [],.none⟩
def amK (X:SD.D Wl)(K:sL R):=qp (λy0 y1=>ke 2 K Wl ((z2 (u y0) X.1),(z1 (u y1) X.2.1),X.2.2)) X.1.1 X.1.2.1 X.2.1.1
abbrev Wm:SD:=⟨B::B::.ptr 2 0::.ptr 3 0::bs 50 (DI::DI::bs 87 []),Z::Z::(some Y3)::(some Y4)::zs 139 [],.none⟩
def amL (X:SD.D Wm)(K:sL R):=mH (λy0 y1=>ke 4 K Wm ((z1 (u y0) X.1),(z1 (u y1) X.2.1),X.2.2)) X.1.1 X.2.1.1
def L49:mc:=((mc.nil.add 5 (yF ae1 apo (λX=>(X.1.2.1,X.2.1.2.1)))).add 10 (yF Wl amK (λX=>(q2 X,X.2.1.2.1)))).add 18 (yF Wm amL (λX=>(X.1.2.1,X.2.1.2.1)))
theorem asV:xo E am3.g n49 L49 (cH f49 0):=lk ae1 apo (λX=>(X.1.2.1,X.2.1.2.1)) λX x=>((z1 (u x.1) X.1),(z1 (u x.2) X.2.1),X.2.2)
theorem aqS:xo E am3.g n49 L49 (cH f49 1):=lk Wl amK (λX=>(q2 X,X.2.1.2.1)) λX x=>((z2 (u x.1) X.1),(z1 (u x.2) X.2.1),X.2.2)
theorem aqT:xo E am3.g n49 L49 (cH f49 2):=lk Wm amL (λX=>(X.1.2.1,X.2.1.2.1)) λX x=>((z1 (u x.1) X.1),(z1 (u x.2) X.2.1),X.2.2)
def G49:=am3.qk n49 func49 [pf dT] [(true,Y2)] (c1 tf) (cF asV (cF aqS (cF aqT nF)))
def G50:=G49.q0 {} func50 [pf (.sl .str)] [rI] (c1 tT)
def auM:=G50.q0 {merge:=mg [(1,2)]} func232 [pf dF] [rB] (c1 kC)
def awt:=auM.q0 {} func390 [pI] [rS] (c1 zV)
def avM:=awt.q0 {} func322 [pf ajf] [rS,rB] (c1 zF)
def avN:=avM.q0 {} func323 [pd .str] [rS] (c1 BB)
def auN:=avN.q0 {} func233 [pf dF] [rS,rB] (c1 iD)
def avG:=auN.q0 {} func316 [pd .str] [rS] (c1 xV)
def auQ:=avG.q0 {} func237 [pf dF] [rS,rB] (c1 qU)
abbrev ajO:SD:=⟨B::B::B::cL (cX 36864 .str)::bs 5 (cL (jI dF)::DI::DI::bs 15 []),zs 27 [],.none⟩
def ava:=auQ.q1 {mask:=mk [(3,[3,9,10,11])],mv:=[21,26]} func276 [pd (.sl dF)] [(false,(.sl (.own none) .str))] (c1 zM) ajO (λX K=>pk (λy0 y1=>ke 0 K ajO ((w y0 (z2 (u y1)) X.1),X.2)) X.1.2.1 (q2 X)) (λX=>(X.1.1,q3 X)) (λX x=>((w x.1 (z2 (u x.2)) X.1),X.2))
abbrev ajP:SD:=⟨B::DI::.ptr 2 0::B::B::cL .str::cL (cX 73728 dF)::DI::bs 80 [],Z::Z::(some Y1)::zs 85 [],.none⟩
def avb:=ava.q1 {mask:=mk [(8,[1,2,5,6,7])],merge:=mg [(1,17),(4,30)],mv:=[83,87]} func277 [pf dF,pI] [(false,(.sl (.own none) dF))] (c2 Fm) ajP (λX K=>zS (λy0 y1=>ke 0 K ajP ((z2 (w y0 (u y1)) X.1),X.2)) X.1.1 X.1.2.1 X.2.1.1) (λX=>(q2 X,q3 X)) (λX x=>((z2 (w x.1 (u x.2)) X.1),X.2))
def atZ:=avb.q0 {} func174 [pf dF,pI] [(false,(.sl (.own none) .str))] (c2 vX)
def aub:=atZ.q0 {merge:=mg [(1,20)],sb:=mg [(9,9)]} func192 [pd (.sl bX),pf (.sl .str),pI,pf jW] [rS,(true,Y0),rB] (c4 vy)
def avj:=aub.q0 {sb:=mg [(4,4)]} func290 [pd .str] [(true,(.pair (.int .i64) (.pair (.int .i64) Y0))),rB] (c1 qV)
abbrev acz:SD:=⟨cL (jI bX)::B::DI::B::B::.ptr 5 0::B::.ptr 7 0::cL (cX 98304 qf)::.ptr 9 0::DB::.ptr 11 0::cL (cX 147456 qf)::bs 57 [],zs 5 ((qO (jI .str))::Z::(some Y0)::Z::(some Y0)::Z::(some Y0)::zs 58 []),.none⟩
def awi:=avj.q1 {mask:=mk [(6,[0,2,5,7,8,9,10,11,12])],merge:=mg [(1,24),(15,67)],mv:=[55,68],sb:=mg [(9,9)]} func379 [pd (.sl bX),pf (.sl .str),pI,pf jW] [(false,(.sl (.own none) qf)),(true,Y0),rB] (c4 xT) acz (λX K=>nR (λy0 y1=>ke 0 K acz ((z4 (u y0) X.1),(z1 (u y1) X.2.1),X.2.2)) (λy0 y1 y2 y3 y4=>kr K acz ((z2 (w y0 (w y1 (u y2))) X.1),(z1 (w y3 (u y4)) X.2.1),X.2.2)) X.1.1 X.1.2.1 (q2 X) (q3 X) X.2.1.1 X.2.1.2.2.1 X.2.1.2.2.2.1) (λX=>(q4 X,X.2.1.2.1)) (λX x=>((z4 (u x.1) X.1),(z1 (u x.2) X.2.1),X.2.2))
abbrev acC:SD:=⟨cL (jI jQ)::B::DB::B::B::cL (jI jQ)::DI::DI::bs 16 [],zs 24 [],.none⟩
def ajb:=awi.q1 {mask:=mk [(2,[0,2,5,6,7])],merge:=mg [(4,19)]} func392 [pd (.sl jQ)] [rB] (c1 vw) acC (λX K=>uc (λy0=>ke 0 K acC ((z4 (u y0) X.1),X.2)) (λy0 y1=>kr K acC ((z1 (w y0 (z2 (u y1))) X.1),X.2)) X.1.1 X.1.2.1 (q2 X) (q3 X)) q4 (λX x=>((z4 (u x) X.1),X.2))
def aw5:lK:=GB [pd (.sl jQ),pI,pI] [(false,(.sl (.own none) qf))] [(false,(.sl .nil qf))] rfl λa=>jH a.1 a.2.1 a.2.2.1
def aq9:An:={mask:=mk [(5,[0,2,7,30,31,32]),(13,[6,7,54,55,56])],merge:=mg [(1,25)],nils:=[6],mv:=[49,64]}
abbrev Wi:SD:=⟨cL (jI jQ)::B::DI::bs 4 (cL (cX 86016 qf)::bs 22 (cL (jI jQ)::DI::DI::bs 32 [])),zs 65 [],.none⟩
def amG (X:SD.D Wi)(K:sL R):=lR (λy0 y1=>ke 0 K Wi ((z2 (w y0 (z2 (u y1))) X.1),X.2)) X.1.1 X.1.2.1 (q3 X) (q4 X)
abbrev O6:SD:=⟨bs 7 (cL (cX 86016 qf)::bs 46 (cL (.sl .loc qf)::DI::DI::bs 8 [])),zs 65 [],.none⟩
abbrev acu:SD:=⟨bs 6 (cL (.sl .nil qf)::cL (cX 86016 qf)::bs 46 (cL (.sl .loc qf)::DI::DI::bs 8 [])),zs 65 [],.none⟩
def af9 (X:SD.D O6)(K:sL R):=kX (λy0=>ke 2 K O6 ((z3 (u y0) X.1),X.2)) (λy0 y1=>kr K acu ((y0,(X.1.1,(X.1.2.1,(X.1.2.2.1,(y1,()))))),(),())) X.1.1 X.1.2.1 (q2 X)
def apM:mc:=(mc.nil.add 5 (yF Wi amG (λX=>(q2 X,q5 X)))).add 13 (yF O6 af9 q3)
theorem aqO:xo E ajb.g aq9 apM (cH f328 0):=lk Wi amG (λX=>(q2 X,q5 X)) λX x=>((z2 (w x.1 (z2 (u x.2))) X.1),X.2)
theorem anW:xo E ajb.g aq9 apM (cH f328 1):=lk O6 af9 q3 λX x=>((z3 (u x) X.1),X.2)
theorem axU:LZ 328 aw5:=jl.ofAlt (akr (Γ:=ajb.g) (an:=aq9) (Λ:=apM) (by rfl) (ajb.s) func328 (by kernel_rfl) (ao (cF aqO (cF anW nF)))) (λa=>by kernel_rfl)
def apK:=ajb.add axU
def ara:An:={mask:=mk [(5,[0,6,18,19,20]),(14,[0,2,3,4,5,6,9,10,11,51,52])],mv:=[24,65]}
abbrev Wk:SD:=⟨cL (jI qf)::bs 5 (cL (cX 73728 jQ)::bs 11 (cL (jI qf)::DI::DI::bs 47 [])),zs 68 [],.none⟩
def amJ (X:SD.D Wk)(K:sL R):=mT (λy0 y1=>ke 0 K Wk ((z1 (w y0 (z2 (u y1))) X.1),X.2)) X.1.1 (q2 X) (q3 X)
abbrev O7:SD:=⟨cL (jI qf)::bs 5 (cL (cX 73728 jQ)::B::B::DI::DI::cL (cX 135168 qf)::bs 39 (DI::DI::bs 15 [])),zs 68 [],.none⟩
abbrev acA:SD:=⟨cL (jI qf)::B::cL (cX 24576 jQ)::DI::DI::DB::cL (cX 73728 jQ)::B::B::DI::DI::cL (cX 135168 qf)::bs 39 (DI::DI::bs 15 []),zs 68 [],.none⟩
def aga (X:SD.D O7)(K:sL R):=iJ (λy0=>ke 2 K O7 ((z6 (u y0) X.1),X.2)) (λy0 y1 y2 y3 y4=>kr K acA ((X.1.1,(y0,(y1,(y2,(y3,(X.1.2.1,(X.1.2.2.1,(X.1.2.2.2.1,(X.1.2.2.2.2.1,(X.1.2.2.2.2.2.1,(y4,()))))))))))),(),())) X.1.1 X.1.2.1 (q2 X) (q3 X) (q4 X) (q5 X)
def arX:mc:=(mc.nil.add 5 (yF Wk amJ (λX=>(X.1.2.1,q4 X)))).add 14 (yF O7 aga q6)
theorem aqR:xo E apK.g ara arX (cH f380 0):=lk Wk amJ (λX=>(X.1.2.1,q4 X)) λX x=>((z1 (w x.1 (z2 (u x.2))) X.1),X.2)
theorem anX:xo E apK.g ara arX (cH f380 1):=lk O7 aga q6 λX x=>((z6 (u x) X.1),X.2)
def awj:=apK.qk ara func380 [pd (.sl qf)] [(false,(.sl (.own none) jQ)),rI,rI,rB] (c1 qs) (cF aqR (cF anX nF))
abbrev acB:SD:=⟨cL (jI bX)::B::DI::B::B::.ptr 5 0::B::B::cL .str::DB::cL .str::bs 7 (cL (jI jQ)::DI::DI::bs 21 []),zs 5 ((qO (jI .str))::zs 36 []),.none⟩
def awk:=awj.q1 {mask:=mk [(5,[0,2,5,8,9,10,18,19,20])]} func381 [pd (.sl bX),pf (.sl .str),pI,pd (.sl jQ)] [rS,rB] (c4 sg) acB (λX K=>nM (λy0 y1=>ke 0 K acB ((z4 (w y0 (z2 (u y1))) X.1),X.2)) (λy0 y1 y2 y3=>kr K acB ((z2 (w y0 (w y1 (w y2 (z2 (u y3))))) X.1),X.2)) X.1.1 X.1.2.1 (q2 X) (q3 X) (q5 X) (q6 X) X.2.1.1) (λX=>(q4 X,q7 X)) (λX x=>((z4 (w x.1 (z2 (u x.2))) X.1),X.2))
def awu:=awk.q0 {} func391 [pd .str] [rI,rI] (c1 tt)
def avO:=awu.q0 {} func324 [pf dF] [rS,rB] (c1 og)
def awl:=avO.q0 {merge:=mg [(3,38),(9,74),(12,84),(17,117)]} func382 [pd .str] [rS,rB] (c1 zJ)
def avF:=awl.q0 {merge:=mg [(1,28)],sb:=mg [(8,8)]} func315 [pd (.sl bX),pf (.sl .str),pI,pf jW] [(true,Y0),(false,(.sl (.own none) .str)),rI] (c4 su)
abbrev apX:SD:=⟨cL (jI bX)::B::DI::B::B::.ptr 5 0::B::.ptr 7 0::.ptr 8 0::cL (cX 110592 .str)::DI::DI::cL (cX 147456 .str)::DI::DI::bs 30 [],zs 5 ((qO (jI .str))::Z::(some Y0)::(some Y0)::zs 36 []),.none⟩
abbrev agC:SD:=⟨cL (jI bX)::B::DI::B::B::.ptr 5 0::B::.ptr 7 0::.ptr 8 0::cL (cX 110592 .str)::DI::DI::cL (.sl .loc .str)::DI::DI::bs 30 [],zs 5 ((qO (jI .str))::Z::(some Y0)::(some Y0)::zs 36 []),.none⟩
def auI:=avF.q1 {mask:=mk [(3,[0,2,5,7,8,9,10,11,12,13,14])],mv:=[35,42]} func228 [pd (.sl bX),pf (.sl .str),pI,pf jW] [(true,Y0),(false,(.sl (.own none) .str)),rI,rI] (c4 uo) apX (λX K=>oH (λy0 y1 y2 y3 y4 y5 y6 y7=>kr K agC ((X.1.1,(X.1.2.1,(y0,(y1,(y2,(y3,(y4,(y5,())))))))),(X.2.1.1,(y6,(y7,()))),())) X.1.1 X.1.2.1 (q2 X) (q3 X) (q4 X) X.2.1.1 X.2.1.2.2.1) (λX=>(q5 X,q6 X,q7 X,X.2.1.2.1)) (λX x=>((z5 (w x.1 (w x.2.1 (u x.2.2.1))) X.1),(z1 (u x.2.2.2) X.2.1),X.2.2))
abbrev ajN:SD:=⟨B::DI::.ptr 2 0::B::.ptr 4 0::B::.ptr 6 0::cL (cX 86016 (.int .i64))::bs 20 (cL (jI lB)::DI::DI::bs 26 []),Z::Z::(some Y27)::Z::(qO (cS Y0 (cS (kx (kx (kx (cX 49174 (.int .i64))))) (cS (cX 49177 lB) EY))))::Z::(qO (cS Y0 (cS (kx (kx (kx (cX 73750 (.int .i64))))) (cS (cX 73753 lB) EY))))::zs 50 [],.none⟩
def auJ:=auI.q1 {mask:=mk [(6,[1,2,4,6,7,28,29,30])],merge:=mg [(2,22)],mv:=[23,34,43,55,56]} func229 [pf oQ,pI] [(true,Y24),(false,(.sl (.own none) (.int .i64)))] (c2 nK) ajN (λX K=>kW (λy0 y1 y2=>ke 0 K ajN ((z1 (w y0 (z2 (u y1))) X.1),(z2 (u y2) X.2.1),X.2.2)) X.1.1 (q2 X) (q3 X) X.2.1.1 X.2.1.2.1) (λX=>(X.1.2.1,q4 X,X.2.1.2.2.1)) (λX x=>((z1 (w x.1 (z2 (u x.2.1))) X.1),(z2 (u x.2.2) X.2.1),X.2.2))
def atH:=auJ.q0 {mv:=[15,33,37,51,54,58]} func132 [pf dT] [(true,Y2)] (c1 nN)
def auK:=atH.q0 {merge:=mg [(2,17)]} func230 [pd .str] [rS,rB] (c1 zH)
def atI:=auK.q0 {} func133 [pd .str] [(true,Y1),rI] (c1 pw)
def auO:=atI.q0 {merge:=mg [(1,15)]} func234 [pf jx,pI] [(true,Y8),rB] (c2 ue)
def apE:=auO.q0 {merge:=mg [(1,24),(7,54)]} func235 [pd (.sl mC),pI,pf dF] [rI] (c3 pe)
def aq5:An:={mask:=mk [(11,[0,1,7,8,33,34]),(17,[0,1,7,11,43,44,45])],merge:=mg [(19,60)],mv:=[37,61,66]}
abbrev O5:SD:=⟨cL (jI mC)::DI::bs 5 (DI::B::B::B::cL (cX 135168 (.int .i64))::bs 31 (cL (.sl .loc (.int .i64))::DI::DI::bs 21 [])),zs 67 [],.none⟩
def af8 (X:SD.D O5)(K:sL R):=ig (λy0 y1=>ke 2 K O5 ((z3 (w y0 (z2 (u y1))) X.1),X.2)) X.1.1 X.1.2.1 (q2 X) (q4 X) (q5 X)
abbrev O4:SD:=⟨cL (jI mC)::DI::bs 5 (DI::cL (cX 98304 (.int .i64))::bs 24 (DI::DI::bs 32 [])),zs 67 [],.none⟩
def af7 (X:SD.D O4)(K:sL R):=mU (λy0 y1=>ke 0 K O4 ((z3 (w y0 (z1 (u y1))) X.1),X.2)) X.1.1 X.1.2.1 (q2 X) (q4 X)
def arS:mc:=(mc.nil.add 17 (yF O5 af8 (λX=>(q3 X,q6 X)))).add 11 (yF O4 af7 (λX=>(q3 X,q5 X)))
theorem anV:xo E apE.g aq5 arS (cH f236 1):=lk O5 af8 (λX=>(q3 X,q6 X)) λX x=>((z3 (w x.1 (z2 (u x.2))) X.1),X.2)
theorem anU:xo E apE.g aq5 arS (cH f236 0):=lk O4 af7 (λX=>(q3 X,q5 X)) λX x=>((z3 (w x.1 (z1 (u x.2))) X.1),X.2)
def auP:=apE.qk aq5 func236 [pd (.sl mC),pI,pf dF] [(false,(.sl (.own none) (.int .i64)))] (c3 nQ) (cF anU (cF anV nF))
def atJ:=auP.q0 {merge:=mg [(2,35),(7,73)],late:=[93],mv:=[36,81],er:=mg [(98,11)]} func134 [pd (.sl cp),pd (.sl mC),pI,pf dF] [(false,(.sl (.own none) cp)),(false,(.sl (.own none) (.int .i64))),rB] (c4 zR)
def am5:=atJ.q0 {} func195 [pf ix] [(true,Y17)] (c1 zE)
def e90:lK:=lf (.pair (.sl (.own none) .str) (.pair (.sl (.own none) bX) (.pair (.pair (.pair (.int .i64) (.pair (.int .i64) (.pair (.int .i64) (.int .i64)))) (.pair (.pair (.int .i64) (.pair (.int .i64) (.pair (.int .i64) (.sl (.own none) (.int .i64))))) (.pair (.sl (.own none) lB) (.int .i64)))) (.pair (.sl (.own none) fA) (.pair (.sl (.own none) lA) (.pair (.sl (.own none) ix) (.pair (.sl (.own none) .bool) (.pair (.pair (.int .i64) (.pair .bool (.sl (.own none) (.int .i64)))) (.pair (.pair (.sl (.own none) nw) (.pair (.sl (.own none) kl) (.pair .str (.sl (.own none) (.int .i64))))) (.pair (.sl (.own none) fX) (.pair .bool (.pair (.sl (.own none) .str) (.pair (.sl (.own none) (.int .i64)) (.pair (.sl (.own none) (.int .i64)) (.pair (.int .i64) (.pair (.int .i64) (.pair (.int .i64) (.pair (.int .i64) (.int .i64))))))))))))))))))) [pI,pI] [] λx a=>mK x a.1 a.2.1
def n90:An:={mask:=mk [(2,[0,1,7])]}
abbrev ae5:SD:=⟨.ptr 0 0::DI::bs 5 (DI::bs 34 []),(qO (cS (cX 1 .str) (cS (cX 4 bX) (cS (cS Y0 (cS (kx (kx (kx (cX 28 (.int .i64))))) (cS (cX 31 lB) EY))) (cS (cX 37 fA) (cS (cX 40 lA) (cS (cX 43 ix) (cS (cX 46 .bool) (cS (kx (cS .bool (cX 55 (.int .i64)))) (cS (cS (cX 58 nw) (cS (cX 61 kl) (cS .str (cX 67 (.int .i64))))) (cS (cX 70 fX) (cS .bool (cS (cX 76 .str) (cS (cX 79 (.int .i64)) (cS (cX 82 (.int .i64)) (cS EY Y0))))))))))))))))::zs 41 [],.ptr⟩
def apt (X:SD.D ae5)(K:sL R):=sv (λy0 y1=>ke 0 K ae5 ((z1 (u y0) X.1),(u y1 X.2.1),X.2.2)) X.1.1
def L90:mc:=mc.nil.add 2 (yF ae5 apt (λX=>(X.1.2.1,X.2.1.1)))
theorem asZ:xo E am5.g n90 L90 (cH f90 0):=lk ae5 apt (λX=>(X.1.2.1,X.2.1.1)) λX x=>((z1 (u x.1) X.1),(u x.2 X.2.1),X.2.2)
theorem o90:LZ 90 e90:=jl.tA (sW (Γ:=am5.g) (an:=n90) (Λ:=L90) (am5.s) func90 (by kernel_rfl) (ao (cF asZ nF))) (λx a=>by kernel_rfl)
def G90:=am5.add o90
def auT:=G90.q0 {merge:=mg [(1,4)]} func240 [pf qj,pf dF] [rB] (c2 Bv)
def awJ:=auT.q0 {} func426 [pI,pI,pI] [rB] (c3 re)
def awv:=awJ.q0 {merge:=mg [(1,4)]} func393 [pf nw,pf dF] [rB] (c2 ud)
abbrev ajV:SD:=⟨cL (jI nw)::B::B::.ptr 3 0::B::DI::bs 5 (cL (jI nw)::DI::DI::bs 24 []),Z::Z::Z::(some Y1)::zs 34 [],.none⟩
def avS:=awv.q1 {mask:=mk [(5,[0,3,5,11,12,13])],merge:=mg [(7,34)]} func330 [pd (.sl nw),pf dF] [rI] (c2 zL) ajV (λX K=>tY (λy0 y1=>ke 0 K ajV ((z1 (w y0 (z2 (u y1))) X.1),X.2)) X.1.1 (q2 X) (q3 X) X.2.1.1) (λX=>(X.1.2.1,q4 X)) (λX x=>((z1 (w x.1 (z2 (u x.2))) X.1),X.2))
def avT:=avS.q0 {} func331 [pf (.sl kl),pf vc] [rI] (c2 zK)
def awE:=avT.q0 {} func421 [pd .str,pI] [rI] (c2 Av)
abbrev aj6:SD:=⟨cL .str::DI::B::B::B::DI::DI::bs 22 [],zs 29 [],.none⟩
def awF:=awE.q1 {mask:=mk [(5,[0,1,5,6])],merge:=mg [(1,14)]} func422 [pd .str,pI] [rI] (c2 xL) aj6 (λX K=>sm (λy0 y1=>ke 0 K aj6 ((z2 (w y0 (u y1)) X.1),X.2)) X.1.1 X.1.2.1) (λX=>(q2 X,q3 X)) (λX x=>((z2 (w x.1 (u x.2)) X.1),X.2))
abbrev ajZ:SD:=⟨cL .str::cL .str::B::B::B::DI::DI::bs 25 [],zs 32 [],.none⟩
def av8:=awF.q1 {mask:=mk [(5,[0,1,5,6])],merge:=mg [(1,14)]} func369 [pd .str,pd .str] [rI] (c2 xI) ajZ (λX K=>si (λy0 y1=>ke 0 K ajZ ((z2 (w y0 (u y1)) X.1),X.2)) X.1.1 X.1.2.1) (λX=>(q2 X,q3 X)) (λX x=>((z2 (w x.1 (u x.2)) X.1),X.2))
def av9:=av8.q0 {} func370 [pf vc] [rS] (c1 xJ)
def avl:=av9.q0 {} func292 [pd .str,pf vc] [rI] (c2 vq)
def aww:=avl.q0 {merge:=mg [(2,17)]} func394 [pf HH,pf vc] [rI] (c2 BA)
def avU:=aww.q0 {merge:=mg [(2,18)]} func332 [pf HH,pI,pf vc] [rI] (c3 uf)
def auU:=avU.q0 {merge:=mg [(1,17)]} func241 [pf tL,pI,pf dF] [rI] (c3 ug)
def awa:=auU.q0 {merge:=mg [(1,2)]} func371 [pf vc] [rB] (c1 nL)
def awb:=awa.q0 {merge:=mg [(1,12)]} func372 [pf vc,pI] [rS] (c2 mS)
def arH:=awb.q0 {merge:=mg [(1,22)],mv:=[26,37,41,51],mb:=mg [(41,13),(51,13)],sb:=mg [(10,10),(11,11),(13,13)]} func294 [pd (.sl bX),pf (.sl .str),pI,pf jx,pf vc] [(true,(.sl (.own none) .str)),(true,Y8),rB] (c5 qu)
def awZ:lK:=GB [pd (.sl bX),pf (.sl .str),pI,pf fA,pd .str,pd .str] [(true,(.sl (.own none) .str)),(true,Y8),rB] [(true,(.sl .arg .str)),(true,Y8),rB] rfl λa=>yd a.1 a.2.1 a.2.2.1 a.2.2.2.1 a.2.2.2.2.1 a.2.2.2.2.2.1
theorem axO:LZ 193 awZ:=jl.ofAlt (akr (an:={merge:=mg [(3,50)],sb:=mg [(12,12),(13,13),(20,20)]}) (Λ:=mc.nil) (by rfl) (arH.s) func193 (by kernel_rfl) (ao nF)) (λa=>by kernel_rfl)
def auc:=arH.add axO
def G89:=auc.q0 {merge:=mg [(1,31)],mv:=[52,66],mb:=mg [(66,16)],sb:=mg [(10,10),(11,11)]} func89 [pd (.sl bX),pf (.sl .str),pI,pf fA,pd .str] [(true,(.sl (.own none) .str)),(true,Y20)] (c5 pj)
def awx:=G89.q0 {} func395 [pf dF,pf dF] [rB] (c2 zQ)
def avV:=awx.q0 {merge:=mg [(1,42),(4,76),(6,4)]} func333 [pf VJ,pf dF] [rB] (c2 xE)
def avW:=avV.q0 {} func334 [pf VJ,pf dF] [(true,(.pair Y1 (.pair (.int .i64) (.int .i64))))] (c2 H6)
def avX:=avW.q0 {} func335 [pf dF] [(true,(.pair Y1 (.pair (.int .i64) (.int .i64))))] (c1 G2)
def auV:=avX.q0 {merge:=mg [(1,30),(3,44)],mv:=[53,68,77],mb:=mg [(77,16)],sb:=mg [(14,14),(15,15)]} func242 [pd (.sl bX),pf (.sl .str),pI,pf fA,pd .str,pf dF,pd .bool] [(true,(.sl (.own none) .str)),(true,Y20)] (c7 qw)
def atO:=auV.q0 {mv:=[14,34,46,62,69,90,103],sb:=mg [(92,5)]} func139 [pf dT,pd .str] [(true,Y2)] (c2 pq)
def auR:=atO.q0 {merge:=mg [(1,34)]} func238 [pd (.sl mC),pI,pI,pf dF] [(true,Y1)] (c4 ub)
abbrev ajG:SD:=⟨bs 5 (.ptr 5 0::.ptr 6 0::.ptr 7 0::cL (cX 98304 mC)::B::DI::bs 28 (cL (cX 479232 (.int .i64))::DI::DI::bs 35 [])),zs 5 ((some Y1)::(some Y9)::(some Y12)::zs 69 []),.none⟩
def atK:=auR.q1 {mask:=mk [(7,[5,6,7,8,10,39,40,41])],merge:=mg [(2,24)],mv:=[25,26,57,76]} func135 [pf uZ,pI,pf dF] [(true,Y5)] (c3 nq) ajG (λX K=>mG (λy0 y1=>ke 0 K ajG ((z4 (u y0) X.1),(z2 (u y1) X.2.1),X.2.2)) X.1.1 X.1.2.1 (q2 X) (q3 X) X.2.1.1 X.2.1.2.1) (λX=>(q4 X,X.2.1.2.2.1)) (λX x=>((z4 (u x.1) X.1),(z2 (u x.2) X.2.1),X.2.2))
abbrev aoR:SD:=⟨B::DI::B::B::.ptr 4 0::.ptr 5 0::cL (cX 73728 mC)::bs 55 (cL (.sl .loc .str)::DI::DI::bs 30 []),zs 4 ((some Y15)::(qO (cS (cX 61441 dT) (cS (cX 61444 cp) (cS (cX 61447 fy) (cS (cX 61450 .str) (cS Y0 (cS (cX 61465 (.int .i64)) (cX 61468 .str))))))))::zs 89 []),.none⟩
def G51:=atK.q1 {mask:=mk [(8,[1,4,5,6,62,63,64])],merge:=mg [(2,29)],mv:=[30,31,75,85,94]} func51 [pf uZ,pI] [(true,Y5)] (c2 se) aoR (λX K=>kN (λy0 y1=>ke 0 K aoR ((z4 (u y0) X.1),(z1 (u y1) X.2.1),X.2.2)) X.1.1 X.1.2.1 (q2 X) (q3 X) X.2.1.1) (λX=>(q4 X,X.2.1.2.1)) (λX x=>((z4 (u x.1) X.1),(z1 (u x.2) X.2.1),X.2.2))
def G52:=G51.q0 {mv:=[13,15,32]} func52 [pf uZ,pd .str] [(true,Y5)] (c2 tV)
def atL:=G52.q0 {merge:=mg [(1,10)]} func136 [pf jx,pI] [(true,Y8)] (c2 sr)
abbrev aoS:SD:=⟨B::DI::B::B::B::cL (cX 61440 cp)::bs 4 (DI::DI::bs 15 []),zs 27 [],.none⟩
def G53:=atL.q1 {mask:=mk [(3,[1,5,10,11])],mv:=[26]} func53 [pd (.sl cp),pI] [(false,(.sl (.own none) cp))] (c2 qz) aoS (λX K=>mV (λy0 y1=>ke 0 K aoS ((z1 (w y0 (z1 (u y1))) X.1),X.2)) X.1.1 (q2 X)) (λX=>(X.1.2.1,q3 X)) (λX x=>((z1 (w x.1 (z1 (u x.2))) X.1),X.2))
def atM:=G53.q0 {} func137 [pf jW,pI] [(true,Y0)] (c2 My)
def G54:=atM.q0 {merge:=mg [(1,14)]} func54 [pf jW,pI] [(true,Y0)] (c2 sc)
abbrev aoM:SD:=⟨B::.ptr 1 0::.ptr 2 0::.ptr 3 0::bs 9 (DI::DI::bs 35 []),Z::(some Y6)::(some Y3)::(some Y4)::zs 46 [],.none⟩
def G30:=G54.q1 {mask:=mk [(5,[1,2,3,13,14])],mv:=[10,17,35,49],sb:=mg [(37,3)]} func30 [pf dT] [(true,Y2)] (c1 td) aoM (λX K=>sj (λy0 y1=>ke 0 K aoM ((z1 (u y0) X.1),(z2 (u y1) X.2.1),X.2.2)) X.1.1 X.2.1.1 X.2.1.2.1) (λX=>(X.1.2.1,X.2.1.2.2.1)) (λX x=>((z1 (u x.1) X.1),(z2 (u x.2) X.2.1),X.2.2))
def G91:=G30.q0 {merge:=mg [(1,11)]} func91 [pf ix] [(true,Y17),rB] (c1 qy)
def G93:=G91.q0 {} func93 [pf ix] [(true,Y17)] (c1 Au)
abbrev aoN:SD:=⟨B::DI::B::B::.ptr 4 0::B::.ptr 6 0::DI::bs 17 (DI::DI::bs 53 []),zs 4 ((qO (cS (cX 49153 .str) (cS (cX 49156 bX) (cS (cS Y0 (cS (kx (kx (kx (cX 49180 (.int .i64))))) (cS (cX 49183 lB) EY))) (cS (cX 49189 fA) (cS (cX 49192 lA) (cS (cX 49195 ix) (cS (cX 49198 .bool) (cS (kx (cS .bool (cX 49207 (.int .i64)))) (cS (cS (cX 49210 nw) (cS (cX 49213 kl) (cS .str (cX 49219 (.int .i64))))) (cS (cX 49222 fX) (cS .bool (cS (cX 49228 .str) (cS (cX 49231 (.int .i64)) (cS (cX 49234 (.int .i64)) (cS EY Y0))))))))))))))))::Z::(qO (cS (cX 73729 .str) (cS (cX 73732 bX) (cS (cS Y0 (cS (kx (kx (kx (cX 73756 (.int .i64))))) (cS (cX 73759 lB) EY))) (cS (cX 73765 fA) (cS (cX 73768 lA) (cS (cX 73771 ix) (cS (cX 73774 .bool) (cS (kx (cS .bool (cX 73783 (.int .i64)))) (cS (cS (cX 73786 nw) (cS (cX 73789 kl) (cS .str (cX 73795 (.int .i64))))) (cS (cX 73798 fX) (cS .bool (cS (cX 73804 .str) (cS (cX 73807 (.int .i64)) (cS (cX 73810 (.int .i64)) (cS EY Y0))))))))))))))))::zs 73 []),.none⟩
def G31:=G93.q1 {mask:=mk [(6,[1,4,6,7,25,26])],merge:=mg [(2,21)],mv:=[22,78]} func31 [pf dT,pI] [(true,Y2),rI] (c2 pt) aoN (λX K=>oE (λy0 y1 y2=>ke 0 K aoN ((z1 (w y0 (z1 (u y1))) X.1),(z1 (u y2) X.2.1),X.2.2)) X.1.1 (q2 X) X.2.1.1) (λX=>(X.1.2.1,q3 X,X.2.1.2.1)) (λX x=>((z1 (w x.1 (z1 (u x.2.1))) X.1),(z1 (u x.2.2) X.2.1),X.2.2))
abbrev ajU:SD:=⟨B::B::B::DI::B::B::B::cL (jI lB)::DI::DI::bs 9 [],zs 19 [],.none⟩
def avP:=G31.q1 {mask:=mk [(3,[3,7,8,9])]} func325 [pf oQ] [rI] (c1 sD) ajU (λX K=>nS (λy0 y1=>ke 0 K ajU ((w y0 (z2 (u y1)) X.1),X.2)) X.1.2.1 (q2 X)) (λX=>(X.1.1,q3 X)) (λX x=>((w x.1 (z2 (u x.2)) X.1),X.2))
def am6:=avP.q0 {merge:=mg [(2,20)],mv:=[21,28],mb:=mg [(28,7)],sb:=mg [(4,4)]} func326 [pf lA,pI] [(true,Y11),(false,(.sl (.own none) (.int .i64))),rB] (c2 uk)
def aw4:lK:=GB [pd (.sl bX),pf (.sl .str),pI,pf lA,pd (.sl (.int .i64)),pd .str,pI] [(true,(.sl (.own none) .str)),(false,(.sl (.own none) jQ)),rB] [(true,(.sl .arg .str)),(false,(.sl (.own none) jQ)),rB] rfl λa=>pz a.1 a.2.1 a.2.2.1 a.2.2.2.1 a.2.2.2.2.1 a.2.2.2.2.2.1 a.2.2.2.2.2.2.1
def as4:An:={mask:=mk [(3,[0,2,5,6,8,10,14,15,16,17,24,25,26])],peel:=[3],mv:=[40,49,53,54,55,65,66],sb:=mg [(21,21)]}
abbrev Wh:SD:=⟨cL (jI bX)::B::DI::B::B::cL .str::DI::B::.ptr 8 0::B::.ptr 10 0::B::B::B::.ptr 14 0::cL (cX 184320 jQ)::DB::cL (cX 208896 jQ)::bs 6 (cL (jI (.int .i64))::DI::DI::bs 40 []),zs 8 ((qO (cX 98305 .str))::Z::(some Y18)::Z::Z::Z::(qO (cX 172033 .str))::zs 52 []),.none⟩
abbrev agD:SD:=⟨cL (jI bX)::B::DI::B::B::cL .str::DI::B::.ptr 8 0::B::.ptr 10 0::B::B::B::.ptr 14 0::cL (cX 184320 jQ)::DB::cL (cX 208896 jQ)::bs 6 (cL (jI (.int .i64))::DI::DI::bs 40 []),zs 8 ((qO (.sl .loc .str))::Z::(some Y18)::Z::Z::Z::(qO (cX 172033 .str))::zs 52 []),.none⟩
def amF (X:SD.D Wh)(K:sL R):=lF (λy0 y1 y2 y3=>ke 0 K Wh ((z2 (w y0 (z3 (w y1 (z2 (u y2))))) X.1),(u y3 X.2.1),X.2.2)) (λy0 y1 y2 y3 y4 y5 y6=>kr K agD ((X.1.1,(X.1.2.1,(y0,(X.1.2.2.2.1,(y1,(y2,(y3,(X.1.2.2.2.2.2.2.2.1,(X.1.2.2.2.2.2.2.2.2.1,(y4,())))))))))),(y5,(X.2.1.2.1,(y6,()))),())) X.1.1 X.1.2.1 (q3 X) (q4 X) (q5 X) (q7 X) (q8 X) X.2.1.2.1 X.2.1.2.2.1
def arW:mc:=mc.nil.add 3 (yF Wh amF (λX=>(q2 X,q6 X,q9 X,X.2.1.1)))
theorem aqN:xo E am6.g as4 arW (cH f327 0):=lk Wh amF (λX=>(q2 X,q6 X,q9 X,X.2.1.1)) λX x=>((z2 (w x.1 (z3 (w x.2.1 (z2 (u x.2.2.1))))) X.1),(u x.2.2.2 X.2.1),X.2.2)
theorem axT:LZ 327 aw4:=jl.ofAlt (akr (Γ:=am6.g) (an:=as4) (Λ:=arW) (by rfl) (am6.s) func327 (by kernel_rfl) (ao (cF aqN nF))) (λa=>by kernel_rfl)
def avQ:=am6.add axT
abbrev acv:SD:=⟨cL (jI bX)::B::DI::B::B::B::.ptr 6 0::B::.ptr 8 0::B::.ptr 10 0::.ptr 11 0::DB::.ptr 13 0::.ptr 14 0::bs 6 (cL (jI .str)::DI::DI::bs 21 []),zs 6 ((qO (jI .str))::Z::(some Y0)::Z::(qO (cX 122881 .str))::(some Y0)::Z::(qO (cX 159745 .str))::(some Y0)::zs 30 []),.none⟩
def avR:=avQ.q1 {mask:=mk [(3,[0,2,6,8,10,11,12,13,14,21,22,23])],mv:=[27,43],mb:=mg [(43,13)],sb:=mg [(10,10),(11,11),(13,13),(14,14)]} func329 [pd (.sl bX),pf (.sl .str),pI,pf jW,pd (.sl .str)] [(true,(.sl (.own none) .str)),(true,Y0),rB] (c5 lp) acv (λX K=>mJ (λy0 y1 y2=>ke 0 K acv ((z5 (u y0) X.1),(z4 (w y1 (u y2)) X.2.1),X.2.2)) (λy0 y1 y2 y3 y4 y5=>kr K acv ((z2 (w y0 (z2 (u y1))) X.1),(z2 (w y2 (w y3 (w y4 (u y5)))) X.2.1),X.2.2)) X.1.1 X.1.2.1 (q2 X) (q3 X) (q4 X) X.2.1.1 X.2.1.2.1 X.2.1.2.2.1 X.2.1.2.2.2.1) (λX=>(q5 X,X.2.1.2.2.2.2.1,X.2.1.2.2.2.2.2.1)) (λX x=>((z5 (u x.1) X.1),(z4 (w x.2.1 (u x.2.2)) X.2.1),X.2.2))
abbrev aeY:SD:=⟨cL (jI bX)::B::DI::bs 7 (.ptr 10 0::B::B::B::.ptr 14 0::.ptr 15 0::B::.ptr 17 0::.ptr 18 0::B::B::B::.ptr 22 0::B::cL (cX 294912 (.int .i64))::B::.ptr 26 0::B::cL (cX 344064 qf)::cL (cX 356352 .str)::bs 109 (cL (.sl .loc qf)::DI::DI::bs 44 [])),zs 10 ((some Y27)::Z::Z::Z::(qO (cX 172033 .str))::(qO (cS Y0 (cS (kx (kx (kx (cX 184342 (.int .i64))))) (cS (cX 184345 lB) EY))))::Z::(qO (cX 208897 .str))::(qO (cS Y0 (cS (kx (kx (kx (cX 221206 (.int .i64))))) (cS (cX 221209 lB) EY))))::Z::Z::Z::(qO (cS Y0 (cS (kx (kx (kx (cX 270358 (.int .i64))))) (cS (cX 270361 lB) EY))))::Z::Z::Z::(qO (.sl .loc .str))::zs 159 []),.none⟩
def auS:=avR.q1 {mask:=mk [(19,[0,2,10,14,15,17,18,22,24,26,28,29,139,140,141])],merge:=mg [(2,57),(6,92),(15,135)],mv:=[58,59,93,94,97,107,108,109,122,123,136,137,145,151,164,165,169,174,184,185],mb:=mg [(58,17),(59,18),(93,17),(94,18),(107,17),(108,18),(136,17),(137,18),(164,17),(165,18),(184,26),(185,22)],sb:=mg [(14,14),(15,15),(17,17),(18,18),(26,26)]} func239 [pd (.sl bX),pf (.sl .str),pI,pf oQ,pf dF,pI,pI] [(true,(.sl (.own none) .str)),(true,Y24),rB] (c7 vY) aeY (λX K=>ic (λy0 y1=>ke 0 K aeY ((z4 (w y0 (z2 (u y1))) X.1),X.2)) X.1.1 X.1.2.1 (q2 X) (q3 X) (q5 X) (q6 X) X.2.1.1 X.2.1.2.1 X.2.1.2.2.1 X.2.1.2.2.2.1 X.2.1.2.2.2.2.1 X.2.1.2.2.2.2.2.1 X.2.1.2.2.2.2.2.2.1) (λX=>(q4 X,q7 X)) (λX x=>((z4 (w x.1 (z2 (u x.2))) X.1),X.2))
def atN:=auS.q0 {mv:=[19,20,34,36,38]} func138 [pf dT,pf dF,pI,pI] [(true,Y2),rB] (c4 zO)
def G55:=atN.q0 {merge:=mg [(1,15)],mv:=[22,34,35]} func55 [pf dT,pf am7] [(true,Y2),rI] (c2 Fl)
def n17:An:={mask:=mk [(10,[4,6,52,53]),(22,[4,6,91,92])],merge:=mg [(2,23)],late:=[67],mv:=[24,114,115,125,131,133],sb:=mg [(4,4),(9,9),(49,6)]}
abbrev V3:SD:=⟨bs 4 (.ptr 4 0::B::.ptr 6 0::bs 45 (DI::DI::bs 81 [])),zs 4 ((some Y15)::Z::(some Y9)::zs 128 []),.none⟩
def ams (X:SD.D V3)(K:sL R):=qW (λy0 y1=>ke 1 K V3 ((z1 (u y0) X.1),(z1 (u y1) X.2.1),X.2.2)) X.1.1 X.2.1.1
abbrev V4:SD:=⟨bs 4 (.ptr 4 0::B::.ptr 6 0::bs 84 (DI::DI::bs 42 [])),zs 4 ((some Y15)::Z::(some Y9)::zs 128 []),.none⟩
def amt (X:SD.D V4)(K:sL R):=ll (λy0 y1=>ke 4 K V4 ((z1 (u y0) X.1),(z1 (u y1) X.2.1),X.2.2)) X.1.1 X.2.1.1
def L17:mc:=(mc.nil.add 10 (yF V3 ams (λX=>(X.1.2.1,X.2.1.2.1)))).add 22 (yF V4 amt (λX=>(X.1.2.1,X.2.1.2.1)))
theorem aqA:xo E G55.g n17 L17 (cH f17 0):=lk V3 ams (λX=>(X.1.2.1,X.2.1.2.1)) λX x=>((z1 (u x.1) X.1),(z1 (u x.2) X.2.1),X.2.2)
theorem aqB:xo E G55.g n17 L17 (cH f17 1):=lk V4 amt (λX=>(X.1.2.1,X.2.1.2.1)) λX x=>((z1 (u x.1) X.1),(z1 (u x.2) X.2.1),X.2.2)
def G17:=G55.qk n17 func17 [pf uZ,pf iM] [(true,Y5),rI] (c2 ta) (cF aqA (cF aqB nF))
abbrev ar7:SD:=⟨bs 4 (.ptr 4 0::B::.ptr 6 0::cL (cX 86016 (.int .i64))::bs 16 (cL (jI iM)::DI::DI::bs 17 [])),zs 4 ((some Y15)::Z::(some Y9)::zs 37 []),.none⟩
def G9:=G17.q1 {mask:=mk [(6,[4,6,7,24,25,26])],merge:=mg [(2,21)],mv:=[22,30,36,37,42,43]} func9 [pf uZ,pd (.sl iM)] [(true,Y5),(false,(.sl (.own none) (.int .i64)))] (c2 BE) ar7 (λX K=>Bb (λy0 y1 y2=>ke 0 K ar7 ((w y0 (z2 (u y1)) X.1),(z1 (u y2) X.2.1),X.2.2)) X.1.2.1 (q2 X) X.2.1.1) (λX=>(X.1.1,q3 X,X.2.1.2.1)) (λX x=>((w x.1 (z2 (u x.2.1)) X.1),(z1 (u x.2.2) X.2.1),X.2.2))
def n10:An:={mask:=mk [(5,[1,2,6,7,29,30]),(9,[1,2,6,7,8,9,10,29,30])],merge:=mg [(2,25)],mv:=[26,44,54,57]}
abbrev aeX:SD:=⟨B::DI::DI::B::B::B::.ptr 6 0::.ptr 7 0::DI::.ptr 9 0::DI::bs 18 (DI::DI::bs 27 []),zs 6 ((some Y9)::(some Y12)::Z::(qO (cS (cX 110593 .str) (cS (cX 110596 bX) (cS (cS Y0 (cS (kx (kx (kx (cX 110620 (.int .i64))))) (cS (cX 110623 lB) EY))) (cS (cX 110629 fA) (cS (cX 110632 lA) (cS (cX 110635 ix) (cS (cX 110638 .bool) (cS (kx (cS .bool (cX 110647 (.int .i64)))) (cS (cS (cX 110650 nw) (cS (cX 110653 kl) (cS .str (cX 110659 (.int .i64))))) (cS (cX 110662 fX) (cS .bool (cS (cX 110668 .str) (cS (cX 110671 (.int .i64)) (cS (cX 110674 (.int .i64)) (cS EY Y0))))))))))))))))::zs 48 []),.none⟩
def apg (X:SD.D aeX)(K:sL R):=pa (λy0 y1=>ke 2 K aeX ((z3 (u y0) X.1),(z2 (u y1) X.2.1),X.2.2)) X.1.1 X.1.2.1 (q2 X) (q4 X) (q5 X) X.2.1.1 X.2.1.2.1
abbrev aeW:SD:=⟨B::DI::DI::B::B::B::.ptr 6 0::.ptr 7 0::bs 21 (DI::DI::bs 27 []),zs 6 ((some Y9)::(some Y12)::zs 50 []),.none⟩
def apf (X:SD.D aeW)(K:sL R):=tU (λy0 y1=>ke 0 K aeW ((z3 (u y0) X.1),(z1 (u y1) X.2.1),X.2.2)) X.1.1 X.1.2.1 (q2 X) X.2.1.1
def L10:mc:=(mc.nil.add 9 (yF aeX apg (λX=>(q3 X,X.2.1.2.2.1)))).add 5 (yF aeW apf (λX=>(q3 X,X.2.1.2.1)))
theorem asN:xo E G9.g n10 L10 (cH f10 1):=lk aeX apg (λX=>(q3 X,X.2.1.2.2.1)) λX x=>((z3 (u x.1) X.1),(z2 (u x.2) X.2.1),X.2.2)
theorem asM:xo E G9.g n10 L10 (cH f10 0):=lk aeW apf (λX=>(q3 X,X.2.1.2.1)) λX x=>((z3 (u x.1) X.1),(z1 (u x.2) X.2.1),X.2.2)
def G10:=G9.qk n10 func10 [pf uZ,pI,pI] [(true,Y5)] (c3 zG) (cF asM (cF asN nF))
def G11:=G10.q0 {} func11 [pd (.sl (.int .u8)),pI] [rI] (c2 Pf)
def G12:=G11.q0 {} func12 [pd (.sl bX),pf (.sl .str),pI,pf fA] [rB] (c4 qo)
abbrev ajI:SD:=⟨cL (jI .str)::cL (jI .str)::B::B::DB::DI::bs 20 [],zs 26 [],.none⟩
def G14:=G12.q1 {mask:=mk [(4,[0,1,4,5])]} func14 [pd (.sl .str),pd (.sl .str)] [rB] (c2 yf) ajI (λX K=>yg (λy0=>ke 0 K ajI ((z3 (u y0) X.1),X.2)) (λy0 y1=>kr K ajI ((z2 (w y0 (u y1)) X.1),X.2)) X.1.1 X.1.2.1 (q2 X)) q3 (λX x=>((z3 (u x) X.1),X.2))
abbrev Eh:aw PS:=[pd (.sl (.int .u8))]
def Iy:lK:=TX Eh [rB] (c1 G5)
def Ed:An:={mask:=mk [(7,[2,3,5,7,8]),(10,[2,3,5,7,8,9])],merge:=mg [(12,80),(14,2)],sb:=mg [(7,7)]}
abbrev oU:SD:=⟨B::B::DB::.ptr 3 0::B::.ptr 5 0::B::.ptr 7 0::DI::DI::bs 89 [],Z::Z::Z::(some Y21)::Z::(some Y21)::Z::(some Y12)::zs 91 [],.none⟩
def ET (X:SD.D oU)(K:sL R):=Bc (λy0=>ke 2 K oU ((z2 (u y0) X.1),X.2)) (λy0 y1=>kr K oU ((w y0 (z1 (u y1)) X.1),X.2)) X.1.1 X.1.2.1 X.2.1.1 X.2.1.2.1 X.2.1.2.2.1
abbrev qR:SD:=⟨B::B::DB::.ptr 3 0::B::.ptr 5 0::B::.ptr 7 0::DI::bs 90 [],Z::Z::Z::(some Y21)::Z::(some Y21)::Z::(some Y12)::zs 91 [],.none⟩
def Gd (X:SD.D qR)(K:sL R):=CM (λy0=>ke 0 K qR ((z1 (u y0) X.1),X.2)) (λy0 y1=>kr K qR ((w y0 (u y1) X.1),X.2)) X.1.1 X.2.1.1 X.2.1.2.1 X.2.1.2.2.1
def DZ:mc:=(mc.nil.add 10 (yF oU ET q2)).add 7 (yF qR Gd (λX=>X.1.2.1))
theorem MB:xo E G14.g Ed DZ (cH f3 1):=lk oU ET q2 λX x=>((z2 (u x) X.1),X.2)
theorem OS:xo E G14.g Ed DZ (cH f3 0):=lk qR Gd (λX=>X.1.2.1) λX x=>((z1 (u x) X.1),X.2)
theorem To:LZ 3 Iy:=fk Ed G14.s func3 (Λ:=DZ) (cF OS (cF MB nF))
end
end Go.Proofs.YtbebkmajekhclaaGreat.Fn
