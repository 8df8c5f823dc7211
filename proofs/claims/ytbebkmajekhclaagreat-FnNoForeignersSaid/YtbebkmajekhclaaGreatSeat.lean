import Derived.Test.YtbebkmajekhclaaGreatDnSig
import Derived.Test.YtbebkmajekhclaaGreatPure
import Derived.Test.YtbebkmajekhclaaGreatRows
/- Each function of the program is its pure function (made by gen.py). -/
namespace Go.Proofs.YtbebkmajekhclaaGreat.Fn
open Go.Dn
open Go.Pu Go.Proofs.Tryz
set_option maxRecDepth 100000
set_option linter.unusedVariables false
noncomputable section
variable {an:An} {Γ:BV} {Λ:lZ} {f:Nat} {P:Program} {A0 A1 A2 A3 A4 A5 A6 A7 C R σ:Type} {rs:ax (Bool×FT)} {s:ax PS}
abbrev sg (R:Type):=Ex->AS->Option R
abbrev Fs:FT:=.int .i64
abbrev cO (a b:FT):FT:=.pair a b
abbrev kC (b:FT):FT:=.pair (.int .i64) b
abbrev cQ (n:Nat)(t:CT):FT:=.sl (.own (some n)) t
abbrev qw (t:FT):Option FT:=some t
abbrev cC (t:FT):PD:=.data false t
abbrev jI (t:FT):PD:=.data true t
abbrev ju (t:CT):FT:=.sl .arg t
abbrev Li:=iZ Tryz.prog
abbrev B:PD:=.bot
abbrev DI:PD:=.data false (.int .i64)
abbrev DB:PD:=.data false .bool
abbrev Z:az FT:=none
theorem nF {p:Code->Prop}:∀x∈([]:ax Code),p x:=λ_ h=>nomatch h
theorem cF {p:Code->Prop}{a:Code}{l:ax Code}(h:p a)(t:∀x∈l,p x):∀x∈a::l,p x:=List.forall_mem_cons.2 ⟨h,t⟩
theorem hF {p:Code->Prop}{l m:ax Code}(e:l=m)(h:∀x∈m,p x):∀x∈l,p x:=e▸h
theorem fk {E:Env}{F:Dt s->az (lX rs)}{fn:Func}(an:An)(hS:Sound P E Γ)(hf:P.funcs[f]?=some fn){l:ax Code}(h:∀c∈l,wO E Γ an Λ c)(hn:(fn.name== "runtime.NumGoroutine")=false:=by kernel_rfl)(hl:jd (fn.body.getD .skip)=l:=by kernel_rfl)(gb:an.cut=[]:=by kernel_rfl)(hF:∀a,Ga E Γ an Λ fn rs (mM s a)=F a:=by intro a;kernel_rfl):iZ P f (SE s rs F):=iZ.of (afo hS hf hn (BU.of (Fn.hF hl h) gb)) hF
theorem ao {E:Env}{b:Code}{l:ax Code}(h:∀c∈l,wO E Γ an Λ c)(hl:jd b=l:=by kernel_rfl)(hc:an.cut=[]:=by kernel_rfl):BU E Γ an Λ b:=BU.of (Fn.hF hl h) hc
theorem ac {E:Env}{b:Code}{l m:ax Code}(h:∀c∈l,wO E Γ an Λ c)(hc:∀c∈m,Rs E Γ an Λ c)(hl:jd b=l:=by kernel_rfl)(hm:mf an.cut b=m:=by kernel_rfl):BU E Γ an Λ b:=⟨Fn.hF hl h,Fn.hF hm hc⟩
theorem fc {E:Env}{F:Dt s->az (lX rs)}{fn:Func}(an:An)(hS:Sound P E Γ)(hf:P.funcs[f]?=some fn){l m:ax Code}(h:∀c∈l,wO E Γ an Λ c)(hc:∀c∈m,Rs E Γ an Λ c)(hn:(fn.name== "runtime.NumGoroutine")=false:=by kernel_rfl)(hl:jd (fn.body.getD .skip)=l:=by kernel_rfl)(hm:mf an.cut (fn.body.getD .skip)=m:=by kernel_rfl)(hF:∀a,Ga E Γ an Λ fn rs (mM s a)=F a:=by intro a;kernel_rfl):iZ P f (SE s rs F):=iZ.of (afo hS hf hn ⟨Fn.hF hl h,Fn.hF hm hc⟩) hF
abbrev pd (t:CT):PS:=.data false t
abbrev pf (t:CT):PS:=.data true t
abbrev pI:PS:=.data false (.int .i64)
abbrev rB:Bool×FT:=(false,.bool)
abbrev rI:Bool×FT:=(false,.int .i64)
abbrev rS:Bool×FT:=(false,.str)
abbrev bs:Nat->ax PD->ax PD|0,l=>l|n+1,l=> .bot::bs n l
abbrev zs:Nat->ax (az FT)->ax (az FT)|0,l=>l|n+1,l=>none::zs n l
def mk (l:ax (Nat×fK))(n:Nat):fK:=(l.lookup n).getD []
def mg (l:ax (Nat×Nat))(n:Nat):az Nat:=l.lookup n
def ke (n:Nat)(K:sg R)(d:SD)(x:SD.D d):az R:=K (.exit n) (SD.enc d x)
def kn (K:sg R)(d:SD)(x:SD.D d):az R:=K .normal (SD.enc d x)
def kr (K:sg R)(d:SD)(x:SD.D d):az R:=K .ret (SD.enc d x)
def yi (d:SD)(t:{R:Type}->SD.D d->(Ex->AS->az R)->(σ->az R)->σ->az R)(i:SD.D d->σ):Lm:=⟨d,λX K=>bl (t X K) fuel (i X)⟩
theorem lk {E:Env}{c:Code}(d:SD)(t:{R:Type}->SD.D d->(Ex->AS->az R)->(σ->az R)->σ->az R)(i:SD.D d->σ)(w:SD.D d->σ->SD.D d)(h1:Λ (ff c)=yi d t i:=by kernel_rfl)(h:∀(R:Type)(X:SD.D d)(K:sg R)(m:Nat)(x:σ),Dd (an.mask (ff c)) (den E Γ an Λ c) (m+1) (SD.enc d (w X x)) K=t X K (λy=>Dd (an.mask (ff c)) (den E Γ an Λ c) m (SD.enc d (w X y)) K) x:=by intro R X K m x;kernel_rfl)(hw:∀X,w X (i X)=X:=by intro X;kernel_rfl):wO E Γ an Λ c:=lok (yi d t i) h1 fuel λR X K=>(Tp (λx=>SD.enc d (w X x)) (t X K) (h R X K) fuel (i X)).symm.trans (congrArg (λy=>Dd (an.mask (ff c)) (den E Γ an Λ c) fuel (SD.enc d y) K) (hw X))
def VL (d:SD)(t:{R:Type}->SD.D d->(Ex->AS->az R)->az R):Lm:=⟨d,λX K=>t X K⟩
theorem ck {E:Env}{c:Code}(d:SD)(t:{R:Type}->SD.D d->(Ex->AS->az R)->az R)(h1:Λ (FX c)=VL d t:=by kernel_rfl)(h:∀(R:Type)(X:SD.D d)(K:sg R),t X K=den E Γ an Λ c (SD.enc d X) (λe bZ=>K e (bZ.mask (an.mask (FX c+1)))):=by intro R X K;kernel_rfl):Rs E Γ an Λ c:=cok (VL d t) h1 h
def u {A B:Type}(y:A)(x:A×B):A×B:=(y,x.2)
def w {A B:Type}(y:A)(f:B->B)(x:A×B):A×B:=(y,f x.2)
def z1 {B:Type}(f:B->B)(x:A0×B):A0×B:=(x.1,f x.2)
def z2 {B:Type}(f:B->B)(x:A0×A1×B):A0×A1×B:=(x.1,x.2.1,f x.2.2)
def z3 {B:Type}(f:B->B)(x:A0×A1×A2×B):A0×A1×A2×B:=(x.1,x.2.1,x.2.2.1,f x.2.2.2)
def z4 {B:Type}(f:B->B)(x:A0×A1×A2×A3×B):A0×A1×A2×A3×B:=(x.1,x.2.1,x.2.2.1,x.2.2.2.1,f x.2.2.2.2)
def z5 {B:Type}(f:B->B)(x:A0×A1×A2×A3×A4×B):A0×A1×A2×A3×A4×B:=(x.1,x.2.1,x.2.2.1,x.2.2.2.1,x.2.2.2.2.1,f x.2.2.2.2.2)
def z6 {B:Type}(f:B->B)(x:A0×A1×A2×A3×A4×A5×B):A0×A1×A2×A3×A4×A5×B:=(x.1,x.2.1,x.2.2.1,x.2.2.2.1,x.2.2.2.2.1,x.2.2.2.2.2.1,f x.2.2.2.2.2.2)
def z7 {B:Type}(f:B->B)(x:A0×A1×A2×A3×A4×A5×A6×B):A0×A1×A2×A3×A4×A5×A6×B:=(x.1,x.2.1,x.2.2.1,x.2.2.2.1,x.2.2.2.2.1,x.2.2.2.2.2.1,x.2.2.2.2.2.2.1,f x.2.2.2.2.2.2.2)
def z8 {B:Type}(f:B->B)(x:A0×A1×A2×A3×A4×A5×A6×A7×B):A0×A1×A2×A3×A4×A5×A6×A7×B:=(x.1,x.2.1,x.2.2.1,x.2.2.2.1,x.2.2.2.2.1,x.2.2.2.2.2.1,x.2.2.2.2.2.2.1,x.2.2.2.2.2.2.2.1,f x.2.2.2.2.2.2.2.2)
def q2 {B:Type}(x:(A0×A1×A2×B)×C):A2:=x.1.2.2.1
def q3 {B:Type}(x:(A0×A1×A2×A3×B)×C):A3:=x.1.2.2.2.1
def q4 {B:Type}(x:(A0×A1×A2×A3×A4×B)×C):A4:=x.1.2.2.2.2.1
def q5 {B:Type}(x:(A0×A1×A2×A3×A4×A5×B)×C):A5:=x.1.2.2.2.2.2.1
def q6 {B:Type}(x:(A0×A1×A2×A3×A4×A5×A6×B)×C):A6:=x.1.2.2.2.2.2.2.1
def q7 {B:Type}(x:(A0×A1×A2×A3×A4×A5×A6×A7×B)×C):A7:=x.1.2.2.2.2.2.2.2.1
def q8 {A8 B:Type}(x:(A0×A1×A2×A3×A4×A5×A6×A7×A8×B)×C):A8:=x.1.2.2.2.2.2.2.2.2.1
def q9 {A8 A9 B:Type}(x:(A0×A1×A2×A3×A4×A5×A6×A7×A8×A9×B)×C):A9:=x.1.2.2.2.2.2.2.2.2.2.1
def q10 {A8 A9 A10 B:Type}(x:(A0×A1×A2×A3×A4×A5×A6×A7×A8×A9×A10×B)×C):A10:=x.1.2.2.2.2.2.2.2.2.2.2.1
def c1 {B:Type}(f:A0->R)(a:A0×B):R:=f a.1
def c2 {B:Type}(f:A0->A1->R)(a:A0×A1×B):R:=f a.1 a.2.1
def c3 {B:Type}(f:A0->A1->A2->R)(a:A0×A1×A2×B):R:=f a.1 a.2.1 a.2.2.1
def c4 {B:Type}(f:A0->A1->A2->A3->R)(a:A0×A1×A2×A3×B):R:=f a.1 a.2.1 a.2.2.1 a.2.2.2.1
def c5 {B:Type}(f:A0->A1->A2->A3->A4->R)(a:A0×A1×A2×A3×A4×B):R:=f a.1 a.2.1 a.2.2.1 a.2.2.2.1 a.2.2.2.2.1
def c6 {B:Type}(f:A0->A1->A2->A3->A4->A5->R)(a:A0×A1×A2×A3×A4×A5×B):R:=f a.1 a.2.1 a.2.2.1 a.2.2.2.1 a.2.2.2.2.1 a.2.2.2.2.2.1
def c7 {B:Type}(f:A0->A1->A2->A3->A4->A5->A6->R)(a:A0×A1×A2×A3×A4×A5×A6×B):R:=f a.1 a.2.1 a.2.2.1 a.2.2.2.1 a.2.2.2.2.1 a.2.2.2.2.2.1 a.2.2.2.2.2.2.1
theorem f0 {E:Env}{F:Dt s->az (lX rs)}{fn:Func}(an:An)(hS:Sound P E Γ)(hf:P.funcs[f]?=some fn)(hn:(fn.name== "runtime.NumGoroutine")=false:=by kernel_rfl)(hl:jd (fn.body.getD .skip)=[]:=by kernel_rfl)(gb:an.cut=[]:=by rfl)(hF:∀a,Ga E Γ an lZ.nil fn rs (mM s a)=F a:=by intro a;kernel_rfl):iZ P f (SE s rs F):=iZ.of (afo hS hf hn (BU.of (Fn.hF hl nF) gb)) hF
abbrev Y8:FT:=kC (kC Fs)
abbrev Y0:FT:=cO Fs Y8
abbrev Y21:FT:=kC (kC (kC .str))
abbrev Y24:FT:=kC (kC (cO Fs Y21))
abbrev Y1:FT:=kC (kC (kC (kC (kC (kC (kC (kC (cO Fs Y24))))))))
abbrev Y11:FT:=kC (kC (kC (.sl (.own none) (.int .i64))))
abbrev Y23:FT:=cO Y0 (cO Y11 (cO (.sl (.own none) lJ) Fs))
abbrev Y19:FT:=kC (cO .bool (.sl (.own none) (.int .i64)))
abbrev Y27:FT:=cO (.sl (.own none) nW) (cO (.sl (.own none) ko) (cO .str (.sl (.own none) (.int .i64))))
abbrev Y2:FT:=cO (.sl (.own none) .str) (cO (.sl (.own none) bX) (cO Y23 (cO (.sl (.own none) fC) (cO (.sl (.own none) lI) (cO (.sl (.own none) ie) (cO (.sl (.own none) .bool) (cO Y19 (cO Y27 (cO (.sl (.own none) fT) (cO .bool (cO (.sl (.own none) .str) (cO (.sl (.own none) (.int .i64)) (cO (.sl (.own none) (.int .i64)) (cO Fs Y0))))))))))))))
abbrev Y3:FT:=cO (cQ 24577 .str) (cO (cQ 24580 bX) (cO (cO Y0 (cO (kC (kC (kC (cQ 24604 (.int .i64))))) (cO (cQ 24607 lJ) Fs))) (cO (cQ 24613 fC) (cO (cQ 24616 lI) (cO (cQ 24619 ie) (cO (cQ 24622 .bool) (cO (kC (cO .bool (cQ 24631 (.int .i64)))) (cO (cO (cQ 24634 nW) (cO (cQ 24637 ko) (cO .str (cQ 24643 (.int .i64))))) (cO (cQ 24646 fT) (cO .bool (cO (cQ 24652 .str) (cO (cQ 24655 (.int .i64)) (cO (cQ 24658 (.int .i64)) (cO Fs Y0))))))))))))))
abbrev Y4:FT:=cO (cQ 36865 .str) (cO (cQ 36868 bX) (cO (cO Y0 (cO (kC (kC (kC (cQ 36892 (.int .i64))))) (cO (cQ 36895 lJ) Fs))) (cO (cQ 36901 fC) (cO (cQ 36904 lI) (cO (cQ 36907 ie) (cO (cQ 36910 .bool) (cO (kC (cO .bool (cQ 36919 (.int .i64)))) (cO (cO (cQ 36922 nW) (cO (cQ 36925 ko) (cO .str (cQ 36931 (.int .i64))))) (cO (cQ 36934 fT) (cO .bool (cO (cQ 36940 .str) (cO (cQ 36943 (.int .i64)) (cO (cQ 36946 (.int .i64)) (cO Fs Y0))))))))))))))
abbrev Y5:FT:=cO (.sl (.own none) dL) (cO (.sl (.own none) ca) (cO (.sl (.own none) fb) (cO (.sl (.own none) .str) (cO Y0 (cO (.sl (.own none) (.int .i64)) (.sl (.own none) .str))))))
abbrev Y18:FT:=kC (kC (kC (.sl .arg (.int .i64))))
abbrev Y26:FT:=cO Y0 (cO Y18 (cO (.sl .arg lJ) Fs))
abbrev Y25:FT:=kC (cO .bool (.sl .arg (.int .i64)))
abbrev Y22:FT:=cO (.sl .arg nW) (cO (.sl .arg ko) (cO .str (.sl .arg (.int .i64))))
abbrev Y6:FT:=cO (.sl .arg .str) (cO (.sl .arg bX) (cO Y26 (cO (.sl .arg fC) (cO (.sl .arg lI) (cO (.sl .arg ie) (cO (.sl .arg .bool) (cO Y25 (cO Y22 (cO (.sl .arg fT) (cO .bool (cO (.sl .arg .str) (cO (.sl .arg (.int .i64)) (cO (.sl .arg (.int .i64)) (cO Fs Y0))))))))))))))
abbrev Y7:FT:=cO (.sl .AO (.int .u8)) (kC Fs)
abbrev Y9:FT:=cO (.sl .loc dL) (cO (.sl .loc ca) (cO (.sl .loc fb) (cO (.sl .loc .str) (cO Y0 (cO (.sl .loc (.int .i64)) (.sl .loc .str))))))
abbrev Y10:FT:=cO (cQ 24577 dL) (cO (cQ 24580 ca) (cO (cQ 24583 fb) (cO (cQ 24586 .str) (cO Y0 (cO (cQ 24601 (.int .i64)) (cQ 24604 .str))))))
abbrev Y12:FT:=cO (cQ 196609 .str) (cO (cQ 196612 bX) (cO (cO Y0 (cO (kC (kC (kC (cQ 196636 (.int .i64))))) (cO (cQ 196639 lJ) Fs))) (cO (cQ 196645 fC) (cO (cQ 196648 lI) (cO (cQ 196651 ie) (cO (cQ 196654 .bool) (cO (kC (cO .bool (cQ 196663 (.int .i64)))) (cO (cO (cQ 196666 nW) (cO (cQ 196669 ko) (cO .str (cQ 196675 (.int .i64))))) (cO (cQ 196678 fT) (cO .bool (cO (cQ 196684 .str) (cO (cQ 196687 (.int .i64)) (cO (cQ 196690 (.int .i64)) (cO Fs Y0))))))))))))))
abbrev Y13:FT:=cO (cQ 147457 .str) (cO (cQ 147460 bX) (cO (cO Y0 (cO (kC (kC (kC (cQ 147484 (.int .i64))))) (cO (cQ 147487 lJ) Fs))) (cO (cQ 147493 fC) (cO (cQ 147496 lI) (cO (cQ 147499 ie) (cO (cQ 147502 .bool) (cO (kC (cO .bool (cQ 147511 (.int .i64)))) (cO (cO (cQ 147514 nW) (cO (cQ 147517 ko) (cO .str (cQ 147523 (.int .i64))))) (cO (cQ 147526 fT) (cO .bool (cO (cQ 147532 .str) (cO (cQ 147535 (.int .i64)) (cO (cQ 147538 (.int .i64)) (cO Fs Y0))))))))))))))
abbrev Y14:FT:=cO (cQ 73729 dL) (cO (cQ 73732 ca) (cO (cQ 73735 fb) (cO (cQ 73738 .str) (cO Y0 (cO (cQ 73753 (.int .i64)) (cQ 73756 .str))))))
abbrev Y15:FT:=cO (cQ 49153 dL) (cO (cQ 49156 ca) (cO (cQ 49159 fb) (cO (cQ 49162 .str) (cO Y0 (cO (cQ 49177 (.int .i64)) (cQ 49180 .str))))))
abbrev Y16:FT:=kC (kC (cO (kC (cO Y1 (kC (kC (cO .str Fs))))) (cO Y8 (cO .str Fs))))
abbrev Y17:FT:=kC (kC (kC (kC (cO .bool .bool))))
abbrev Y20:FT:=cO Y0 (cO Y8 (cO Y8 (cO (cO Y1 (kC Fs)) (cO .bool Fs))))
abbrev Y28:FT:=kC (kC (kC (cQ 184330 (.int .i64))))
abbrev Y29:FT:=kC (kC (kC (cQ 147466 (.int .i64))))
abbrev Y30:FT:=kC (kC (kC (cQ 98314 (.int .i64))))
abbrev Y31:FT:=kC (kC (kC (cQ 73738 (.int .i64))))
def E:Env:={ty:=[(3,⟨false,(.int .i64),[]⟩),(4,⟨false,.bool,[]⟩),(5,⟨false,(.int .u8),[]⟩),(9,⟨false,.str,[]⟩),(22,⟨false,(.sl (.int .u8)),[(5,0)]⟩),(24,⟨false,(.sl dL),[(70,0)]⟩),(25,⟨false,(.sl ca),[(98,0)]⟩),(26,⟨false,(.sl fb),[(91,0)]⟩),(27,⟨false,(.sl .str),[(9,0)]⟩),(29,⟨true,(.sl .str),[(0,1)]⟩),(31,⟨true,jK,[(0,1),(1,1),(2,1),(3,1)]⟩),(32,⟨false,(.sl (.int .i64)),[(3,0)]⟩),(34,⟨true,wj,[(0,1),(1,1),(2,1),(3,1),(4,4),(8,1),(9,1)]⟩),(35,⟨false,(.sl gV),[(89,0)]⟩),(43,⟨true,(.sl .str),[(0,1)]⟩),(44,⟨false,(.sl bX),[(150,0)]⟩),(46,⟨true,jK,[(0,1),(1,1),(2,1),(3,1)]⟩),(48,⟨true,lI,[(0,1),(1,1),(2,1),(3,1)]⟩),(49,⟨false,(.sl lJ),[(236,0)]⟩),(51,⟨true,oE,[(0,4),(4,4),(8,1),(9,1)]⟩),(52,⟨false,(.sl fC),[(80,0)]⟩),(53,⟨false,(.sl lI),[(48,0)]⟩),(54,⟨false,(.sl ie),[(190,0)]⟩),(55,⟨false,(.sl .bool),[(4,0)]⟩),(57,⟨true,pR,[(0,1),(1,1),(2,1)]⟩),(58,⟨false,(.sl nW),[(171,0)]⟩),(59,⟨false,(.sl ko),[(255,0)]⟩),(61,⟨true,(.sl ko),[(0,1)]⟩),(63,⟨true,Hb,[(0,1),(1,1)]⟩),(65,⟨true,tc,[(0,1),(1,1),(2,2)]⟩),(66,⟨false,(.sl fT),[(163,0)]⟩),(68,⟨true,uC,[(0,1),(1,1),(2,1),(3,1),(4,1)]⟩),(70,⟨true,dL,[(0,1),(1,1),(2,10),(12,1),(13,1),(14,1),(15,1),(16,3),(19,4),(23,1),(24,1),(25,1),(26,1),(27,1),(28,5)]⟩),(72,⟨true,jh,[(0,1),(1,1),(2,1)]⟩),(74,⟨true,DX,[(0,1),(1,1),(2,1),(3,1),(4,1),(5,1),(6,1),(7,1)]⟩),(76,⟨true,dp,[(0,1),(1,1),(2,1),(3,1),(4,1),(5,1),(6,1),(7,1),(8,8)]⟩),(78,⟨true,Uk,[(0,16),(16,1),(17,1)]⟩),(80,⟨true,fC,[(0,4),(4,3),(7,3),(10,18),(28,1),(29,1)]⟩),(85,⟨true,als,[(0,1),(1,16),(17,1),(18,1),(19,1),(20,1)]⟩),(87,⟨true,jh,[(0,1),(1,1),(2,1)]⟩),(89,⟨true,gV,[(0,1),(1,1),(2,21),(23,3),(26,1),(27,1)]⟩),(91,⟨true,fb,[(0,3),(3,1),(4,1),(5,1)]⟩),(96,⟨true,jh,[(0,1),(1,1),(2,1)]⟩),(98,⟨true,ca,[(0,1),(1,1),(2,3),(5,1),(6,1),(7,1)]⟩),(123,⟨true,uC,[(0,1),(1,1),(2,1),(3,1),(4,1)]⟩),(126,⟨false,(.sl md),[(202,0)]⟩),(141,⟨false,(.sl sm),[(234,0)]⟩),(150,⟨true,bX,[(0,1),(1,1),(2,1),(3,1)]⟩),(152,⟨false,(.sl dp),[(76,0)]⟩),(161,⟨true,uC,[(0,1),(1,1),(2,1),(3,1),(4,1)]⟩),(163,⟨true,fT,[(0,5),(5,1),(6,1),(7,1)]⟩),(166,⟨true,(.pair (.sl (.int .u8)) (.pair (.int .i64) (.int .i64))),[(0,1),(1,1),(2,1)]⟩),(171,⟨true,nW,[(0,1),(1,1),(2,1),(3,1),(4,1),(5,1),(6,1),(7,1),(8,1)]⟩),(190,⟨true,ie,[(0,1),(1,1),(2,1),(3,1),(4,1),(5,1)]⟩),(202,⟨true,md,[(0,1),(1,1),(2,1),(3,1)]⟩),(219,⟨true,ahH,[(0,1),(1,1),(2,1),(3,1),(4,1)]⟩),(223,⟨true,TIp,[(0,1),(1,1),(2,1),(3,1),(4,1),(5,1),(6,1)]⟩),(234,⟨true,sm,[(0,1),(1,1),(2,1),(3,1)]⟩),(236,⟨true,lJ,[(0,1),(1,1),(2,1)]⟩),(255,⟨true,ko,[(0,1),(1,5),(6,1)]⟩),(285,⟨false,(.sl jB),[(289,0)]⟩),(289,⟨true,jB,[(0,1),(1,1)]⟩),(312,⟨true,pM,[(0,1),(1,1),(2,1),(3,1),(4,1),(5,1)]⟩),(368,⟨false,(.sl jB),[(398,0)]⟩),(371,⟨false,(.sl pM),[(312,0)]⟩),(385,⟨false,(.int .u32),[]⟩),(398,⟨true,jB,[(0,1),(1,1)]⟩)],eqs:=[(76,[.int,.int,.int,.int,.int,.int,.int,.int,.int,.int,.int,.int,.int,.int,.int,.str]),(78,[.int,.int,.int,.int,.int,.int,.int,.int,.int,.int,.int,.int,.int,.int,.int,.str,.int,.int]),(161,[.int,.int,.int,.int,.int]),(312,[.int,.int,.int,.int,.int,.int])],fts:=[]}
theorem base:Sound Tryz.prog E BV.nil:=Sound.nil (YE (by kernel_rfl)) (YH (by kernel_rfl)) (YG (by kernel_rfl)) (by kernel_rfl)
structure SG where (g:BV) (s:Sound Tryz.prog E g)
def SG.add (S:SG){F:lr}(h:Li f F):SG:=⟨S.g.add f F,S.s.add h⟩
def G0:SG:=⟨BV.nil,base⟩
def SG.q0 (S:SG){fn:Func}(an:An)(hf:Tryz.prog.funcs[f]?=some fn)(s:ax PS)(rs:ax (Bool×FT))(F:Dt s->az (lX rs))(hn:(fn.name== "runtime.NumGoroutine")=false:=by kernel_rfl)(hl:jd (fn.body.getD .skip)=[]:=by kernel_rfl)(gb:an.cut=[]:=by rfl)(hF:∀a,Ga E S.g an lZ.nil fn rs (mM s a)=F a:=by intro a;kernel_rfl):SG:=S.add (iZ.of (afo S.s hf hn (BU.of (Fn.hF hl nF) gb)) hF)
def SG.qk (S:SG){fn:Func}(an:An)(hf:Tryz.prog.funcs[f]?=some fn)(s:ax PS)(rs:ax (Bool×FT))(F:Dt s->az (lX rs)){l:ax Code}(h:∀c∈l,wO E S.g an Λ c)(hn:(fn.name== "runtime.NumGoroutine")=false:=by kernel_rfl)(hl:jd (fn.body.getD .skip)=l:=by kernel_rfl)(gb:an.cut=[]:=by kernel_rfl)(hF:∀a,Ga E S.g an Λ fn rs (mM s a)=F a:=by intro a;kernel_rfl):SG:=S.add (iZ.of (afo S.s hf hn (BU.of (Fn.hF hl h) gb)) hF)
def SG.q1 (S:SG){fn:Func}(an:An)(hf:Tryz.prog.funcs[f]?=some fn)(s:ax PS)(rs:ax (Bool×FT))(F:Dt s->az (lX rs))(d:SD)(t:{R:Type}->SD.D d->(Ex->AS->az R)->(σ->az R)->σ->az R)(i:SD.D d->σ)(w:SD.D d->σ->SD.D d)(h1:(lZ.nil.add (ff (cz fn 0)) (yi d t i)) (ff (cz fn 0))=yi d t i:=by kernel_rfl)(h:∀(R:Type)(X:SD.D d)(K:sg R)(m:Nat)(x:σ),Dd (an.mask (ff (cz fn 0))) (den E S.g an (lZ.nil.add (ff (cz fn 0)) (yi d t i)) (cz fn 0)) (m+1) (SD.enc d (w X x)) K=t X K (λy=>Dd (an.mask (ff (cz fn 0))) (den E S.g an (lZ.nil.add (ff (cz fn 0)) (yi d t i)) (cz fn 0)) m (SD.enc d (w X y)) K) x:=by intro R X K m x;kernel_rfl)(hw:∀X,w X (i X)=X:=by intro X;kernel_rfl)(hn:(fn.name== "runtime.NumGoroutine")=false:=by kernel_rfl)(hl:jd (fn.body.getD .skip)=[cz fn 0]:=by kernel_rfl)(gb:an.cut=[]:=by kernel_rfl)(hF:∀a,Ga E S.g an (lZ.nil.add (ff (cz fn 0)) (yi d t i)) fn rs (mM s a)=F a:=by intro a;kernel_rfl):SG:=S.add (iZ.of (afo S.s hf hn (BU.of (Fn.hF hl (cF (lk d t i w h1 h hw) nF)) gb)) hF)
def G7:=G0.q0 {} func7 [pd (.sl (.int .u8))] [rB] (c1 Ks)
def e25:lr:=abf (.pair (.sl .arg (.int .u8)) (.pair (.int .i64) (.int .i64))) [pd (.sl (.int .u8))] λa=>Dm a.1
def n25:An:={mask:=mk [(3,[0,3,4])],merge:=mg [(3,15)]}
abbrev adx:SD:=⟨cC (ju (.int .u8))::B::B::DI::DI::bs 27 [],zs 32 [],.none⟩
def anr (X:SD.D adx)(K:sg R):=CC (λy0 y1=>ke 0 K adx ((z1 (w y0 (u y1)) X.1),X.2)) X.1.1
def L25:lZ:=lZ.nil.add 3 (yi adx anr (λX=>(X.1.2.1,q2 X)))
theorem aqU:wO E G7.g n25 L25 (cz f25 0):=lk adx anr (λX=>(X.1.2.1,q2 X)) λX x=>((z1 (w x.1 (u x.2)) X.1),X.2)
theorem o25:Li 25 e25:=iZ.ard (aqi (Γ:=G7.g) (an:=n25) (Λ:=L25) (G7.s) func25 (by kernel_rfl) (ao (cF aqU nF))) (λa=>by kernel_rfl)
def G25:=G7.add o25
def au7:lr:=kO (.pair (.sl .AO (.int .u8)) (.pair (.int .i64) (.int .i64))) [] [rI] λx a=>lE x
theorem avX:Li 151 au7:=iZ.sQ (sv (an:={}) (Λ:=lZ.nil) (G25.s) func151 (by kernel_rfl) (ao nF)) (λx a=>by kernel_rfl)
def apK:=G25.add avX
def e60:lr:=kO (.pair (.sl .AO (.int .u8)) (.pair (.int .i64) (.int .i64))) [pI] [rI] λx a=>da x a.1
theorem o60:Li 60 e60:=iZ.sQ (sv (an:={}) (Λ:=lZ.nil) (apK.s) func60 (by kernel_rfl) (ao nF)) (λx a=>by kernel_rfl)
def G60:=apK.add o60
def G72:=G60.q0 {} func72 [] [(true,(.sl (.own none) ko))] (λa=>vf)
def au8:lr:=kO (.pair (.sl .AO (.int .u8)) (.pair (.int .i64) (.int .i64))) [pI] [rS] λx a=>lF x a.1
def aq9:An:={mask:=mk [(5,[0,1,5,6])],mv:=[15]}
abbrev UA:SD:=⟨.ptr 0 0::DI::B::B::B::cC (cQ 61440 (.int .u8))::DI::bs 16 [],(some Y7)::zs 22 [],.ptr⟩
def akO (X:SD.D UA)(K:sg R):=qQ (λy0 y1 y2=>ke 0 K UA ((z1 (w y0 (u y1)) X.1),(u y2 X.2.1),X.2.2)) X.1.1
def apY:lZ:=lZ.nil.add 5 (yi UA akO (λX=>(X.1.2.1,q2 X,X.2.1.1)))
theorem aoK:wO E G72.g aq9 apY (cz f178 0):=lk UA akO (λX=>(X.1.2.1,q2 X,X.2.1.1)) λX x=>((z1 (w x.1 (u x.2.1)) X.1),(u x.2.2 X.2.1),X.2.2)
theorem avY:Li 178 au8:=iZ.sQ (sv (Γ:=G72.g) (an:=aq9) (Λ:=apY) (G72.s) func178 (by kernel_rfl) (ao (cF aoK nF))) (λx a=>by kernel_rfl)
def apL:=G72.add avY
def e73:lr:=kO (.pair (.sl .AO (.int .u8)) (.pair (.int .i64) (.int .i64))) [] [rS] λx a=>Dp x
theorem o73:Li 73 e73:=iZ.sQ (sv (an:={}) (Λ:=lZ.nil) (apL.s) func73 (by kernel_rfl) (ao nF)) (λx a=>by kernel_rfl)
def G73:=apL.add o73
def e74:lr:=kO (.pair (.sl .AO (.int .u8)) (.pair (.int .i64) (.int .i64))) [pI] [rB] λx a=>gL x a.1
theorem o74:Li 74 e74:=iZ.sQ (sv (an:={}) (Λ:=lZ.nil) (G73.s) func74 (by kernel_rfl) (ao nF)) (λx a=>by kernel_rfl)
def G74:=G73.add o74
def e75:lr:=kO (.pair (.sl .AO (.int .u8)) (.pair (.int .i64) (.int .i64))) [pd (.sl (.int .i64))] [rI] λx a=>dc x a.1
theorem o75:Li 75 e75:=iZ.sQ (sv (an:={}) (Λ:=lZ.nil) (G74.s) func75 (by kernel_rfl) (ao nF)) (λx a=>by kernel_rfl)
def G75:=G74.add o75
def atc:=G75.q0 {sb:=mg [(2,2)]} func253 [pf pR] [(true,Y19)] (c1 xZ)
def ar5:=atc.q0 {mv:=[7]} func155 [pf fb] [(true,(.pair Y19 Y8))] (c1 BB)
def ar1:=ar5.q0 {merge:=mg [(1,6)]} func144 [pI,pI,pI] [rB] (c3 bh)
abbrev aaN:SD:=⟨B::.ptr 1 0::DB::DI::bs 41 [],Z::(some Y25)::zs 43 [],.none⟩
def ar0:=ar1.q1 {mask:=mk [(2,[1,2,3])],merge:=mg [(4,35),(6,2)]} func143 [pf pR] [rB] (c1 rk) aaN (λX K=>tT (λy0=>ke 0 K aaN ((z1 (u y0) X.1),X.2)) (λy0 y1=>kr K aaN ((w y0 (u y1) X.1),X.2)) X.1.1 X.2.1.1) (λX=>X.1.2.1) (λX x=>((z1 (u x) X.1),X.2))
def ate:=ar0.q0 {merge:=mg [(1,2)]} func255 [pf fb] [rB] (c1 xQ)
abbrev aa2:SD:=⟨cC (ju (.int .i64))::DI::B::B::DB::DI::bs 12 [],zs 18 [],.none⟩
def anV:=ate.q1 {mask:=mk [(2,[0,1,4,5])]} func342 [pd (.sl (.int .i64)),pI] [rB] (c2 Ao) aa2 (λX K=>yb (λy0=>ke 0 K aa2 ((z3 (u y0) X.1),X.2)) (λy0 y1=>kr K aa2 ((z2 (w y0 (u y1)) X.1),X.2)) X.1.1 X.1.2.1 (q2 X)) q3 (λX x=>((z3 (u x) X.1),X.2))
def aph:An:={mask:=mk [(3,[1,5,6]),(7,[1,5,6,7])],merge:=mg [(7,37)],mv:=[55]}
abbrev UH:SD:=⟨B::cC (ju (.int .i64))::B::B::B::cC (cQ 61440 (.int .i64))::DI::DI::bs 48 [],zs 56 [],.none⟩
def akW (X:SD.D UH)(K:sg R):=ud (λy0=>ke 2 K UH ((z3 (u y0) X.1),X.2)) X.1.1 X.1.2.1 (q2 X)
abbrev UG:SD:=⟨B::cC (ju (.int .i64))::B::B::B::cC (cQ 61440 (.int .i64))::DI::bs 49 [],zs 56 [],.none⟩
def akV (X:SD.D UG)(K:sg R):=pG (λy0 y1=>ke 0 K UG ((z1 (w y0 (u y1)) X.1),X.2)) X.1.1
def ap3:lZ:=(lZ.nil.add 7 (yi UH akW q3)).add 3 (yi UG akV (λX=>(X.1.2.1,q2 X)))
theorem aoS:wO E anV.g aph ap3 (cz f256 1):=lk UH akW q3 λX x=>((z3 (u x) X.1),X.2)
theorem aoR:wO E anV.g aph ap3 (cz f256 0):=lk UG akV (λX=>(X.1.2.1,q2 X)) λX x=>((z1 (w x.1 (u x.2)) X.1),X.2)
def anQ:=anV.qk aph func256 [pd (.sl (.int .i64)),pd (.sl (.int .i64))] [(false,(.sl (.own none) (.int .i64)))] (c2 vk) (cF aoR (cF aoS nF))
def api:An:={mask:=mk [(4,[0,2,3]),(9,[0,2,3,4])]}
abbrev O9:SD:=⟨cC (ju md)::B::DB::DI::DI::bs 53 [],zs 58 [],.none⟩
def akY (X:SD.D O9)(K:sg R):=vM (λy0=>ke 2 K O9 ((z3 (u y0) X.1),X.2)) (λy0 y1=>kr K O9 ((z1 (w y0 (z1 (u y1))) X.1),X.2)) X.1.1 X.1.2.1 (q2 X)
abbrev O8:SD:=⟨cC (ju md)::B::DB::DI::bs 54 [],zs 58 [],.none⟩
def akX (X:SD.D O8)(K:sg R):=vL (λy0=>ke 0 K O8 ((z2 (u y0) X.1),X.2)) (λy0 y1=>kr K O8 ((z1 (w y0 (u y1)) X.1),X.2)) X.1.1 X.1.2.1
def ap4:lZ:=(lZ.nil.add 9 (yi O9 akY q3)).add 4 (yi O8 akX q2)
theorem aoU:wO E anQ.g api ap4 (cz f257 1):=lk O9 akY q3 λX x=>((z3 (u x) X.1),X.2)
theorem aoT:wO E anQ.g api ap4 (cz f257 0):=lk O8 akX q2 λX x=>((z2 (u x) X.1),X.2)
def atf:=anQ.qk api func257 [pd (.sl md)] [rB] (c1 xU) (cF aoT (cF aoU nF))
abbrev aaP:SD:=⟨cC (ju fb)::B::cC (cQ 24576 md)::DB::cC (cQ 49152 md)::DI::bs 58 [],zs 64 [],.none⟩
def ar6:=atf.q1 {mask:=mk [(5,[0,2,3,4,5])],mv:=[41,63]} func156 [pd (.sl fb)] [(false,(.sl (.own none) md)),rB] (c1 Bo) aaP (λX K=>qO (λy0 y1=>ke 0 K aaP ((z3 (w y0 (u y1)) X.1),X.2)) (λy0 y1 y2 y3=>kr K aaP ((z1 (w y0 (w y1 (w y2 (u y3)))) X.1),X.2)) X.1.1 X.1.2.1 (q2 X)) (λX=>(q3 X,q4 X)) (λX x=>((z3 (w x.1 (u x.2)) X.1),X.2))
def atg:=ar6.q0 {merge:=mg [(1,2)]} func258 [pf (.sl .str)] [rB] (c1 Bl)
def anL:=atg.q0 {} func182 [pI] [rS] (c1 fP)
def ape:An:={mask:=mk [(3,[0,3,4]),(7,[0,3,4,5])]}
abbrev UF:SD:=⟨cC .str::B::B::DI::DI::DI::bs 26 [],zs 32 [],.none⟩
def akT (X:SD.D UF)(K:sg R):=rj (λy0 y1=>ke 2 K UF ((z1 (w y0 (z1 (u y1))) X.1),X.2)) X.1.1 (q2 X)
abbrev UE:SD:=⟨cC .str::B::B::DI::DI::bs 27 [],zs 32 [],.none⟩
def akS (X:SD.D UE)(K:sg R):=uZ (λy0 y1=>ke 0 K UE ((z1 (w y0 (u y1)) X.1),X.2)) X.1.1
def ap0:lZ:=(lZ.nil.add 7 (yi UF akT (λX=>(X.1.2.1,q3 X)))).add 3 (yi UE akS (λX=>(X.1.2.1,q2 X)))
theorem aoP:wO E anL.g ape ap0 (cz f183 1):=lk UF akT (λX=>(X.1.2.1,q3 X)) λX x=>((z1 (w x.1 (z1 (u x.2))) X.1),X.2)
theorem aoO:wO E anL.g ape ap0 (cz f183 0):=lk UE akS (λX=>(X.1.2.1,q2 X)) λX x=>((z1 (w x.1 (u x.2)) X.1),X.2)
def asd:=anL.qk ape func183 [pd .str] [rI] (c1 CB) (cF aoO (cF aoP nF))
def G79:=asd.q0 {merge:=mg [(1,15)]} func79 [pI,pd .str] [rS,rB] (c2 px)
def atE:=G79.q0 {merge:=mg [(1,6)]} func304 [pd .str,pI,pI] [rB] (c3 pB)
def asG:=atE.q0 {} func215 [pd .str,pI] [rI] (c2 iY)
def asH:=asG.q0 {} func216 [pd .str,pI] [rI] (c2 kW)
def ath:=asH.q0 {merge:=mg [(2,17),(5,37)]} func259 [pd .str] [rI] (c1 nE)
def ar7:=ath.q0 {merge:=mg [(5,23)]} func158 [pf (.sl .str)] [rI] (c1 zC)
def ar8:=ar7.q0 {merge:=mg [(1,2)]} func159 [pf jK] [rB] (c1 Bk)
def asb:=ar8.q0 {merge:=mg [(1,2)]} func179 [pf jh] [rB] (c1 zD)
def aub:=asb.q0 {merge:=mg [(1,33),(3,54),(5,2)]} func338 [pf nW] [rB] (c1 nH)
abbrev aaV:SD:=⟨cC (ju nW)::B::DB::DI::bs 15 [],zs 19 [],.none⟩
def as7:=aub.q1 {mask:=mk [(2,[0,2,3])]} func245 [pd (.sl nW)] [rB] (c1 Bq) aaV (λX K=>vN (λy0=>ke 0 K aaV ((z2 (u y0) X.1),X.2)) (λy0 y1=>kr K aaV ((z1 (w y0 (u y1)) X.1),X.2)) X.1.1 X.1.2.1) q2 (λX x=>((z2 (u x) X.1),X.2))
abbrev aiu:SD:=⟨B::B::B::DI::cC (cQ 49152 (.int .i64))::DI::bs 26 [],zs 32 [],.none⟩
def auK:=as7.q1 {mask:=mk [(4,[3,4,5])]} func396 [pf uC] [rI] (c1 zI) aiu (λX K=>pw (λy0 y1=>ke 0 K aiu ((w y0 (z1 (u y1)) X.1),X.2)) X.1.2.1) (λX=>(X.1.1,q2 X)) (λX x=>((w x.1 (z1 (u x.2)) X.1),X.2))
abbrev aa1:SD:=⟨B::B::.ptr 2 0::.ptr 3 0::DI::DI::bs 35 [],Z::Z::(qw (ju ko))::(qw (cO Fs Y0))::zs 37 [],.none⟩
def auc:=auK.q1 {mask:=mk [(2,[2,3,4,5])],merge:=mg [(7,39)]} func339 [pf (.sl ko),pf uC] [rI] (c2 Bw) aa1 (λX K=>qT (λy0=>ke 0 K aa1 ((z1 (u y0) X.1),X.2)) (λy0 y1=>kr K aa1 ((w y0 (u y1) X.1),X.2)) X.1.1 X.2.1.1 X.2.1.2.1) (λX=>X.1.2.1) (λX x=>((z1 (u x) X.1),X.2))
abbrev aaW:SD:=⟨B::.ptr 1 0::DB::DI::bs 45 [],Z::(qw (ju ko))::zs 47 [],.none⟩
def as8:=auc.q1 {mask:=mk [(4,[1,2,3])],merge:=mg [(7,30),(10,42)]} func246 [pf (.sl ko)] [rB] (c1 Br) aaW (λX K=>vP (λy0=>ke 0 K aaW ((z1 (u y0) X.1),X.2)) (λy0 y1=>kr K aaW ((w y0 (u y1) X.1),X.2)) X.1.1 X.2.1.1) (λX=>X.1.2.1) (λX x=>((z1 (u x) X.1),X.2))
def aud:=as8.q0 {merge:=mg [(1,2)]} func340 [pI] [rB] (c1 Bu)
abbrev aaX:SD:=⟨B::DI::.ptr 2 0::B::DB::DI::bs 32 [],Z::Z::(qw (cO .str (ju (.int .i64))))::zs 35 [],.none⟩
def anP:=aud.q1 {mask:=mk [(4,[1,2,4,5])],merge:=mg [(1,21)]} func247 [pf Hb,pI] [rB] (c2 zL) aaX (λX K=>tY (λy0=>ke 0 K aaX ((z2 (u y0) X.1),X.2)) (λy0 y1=>kr K aaX ((z1 (w y0 (u y1)) X.1),X.2)) X.1.1 X.1.2.1 X.2.1.1) q2 (λX x=>((z2 (u x) X.1),X.2))
def apc:An:={mask:=mk [(4,[1,2,4,5]),(9,[1,2,4,6])],merge:=mg [(1,23)]}
abbrev O5:SD:=⟨B::DI::.ptr 2 0::B::DB::DI::bs 50 [],Z::Z::(some Y22)::zs 53 [],.none⟩
def akM (X:SD.D O5)(K:sg R):=qq (λy0=>ke 0 K O5 ((z2 (u y0) X.1),X.2)) (λy0 y1=>kr K O5 ((z1 (w y0 (u y1)) X.1),X.2)) X.1.1 X.1.2.1 X.2.1.1
abbrev O6:SD:=⟨B::DI::.ptr 2 0::B::DB::B::DI::bs 49 [],Z::Z::(some Y22)::zs 53 [],.none⟩
def akN (X:SD.D O6)(K:sg R):=qs (λy0=>ke 2 K O6 ((z2 (u y0) X.1),X.2)) (λy0 y1=>kr K O6 ((z1 (w y0 (u y1)) X.1),X.2)) X.1.1 X.1.2.1 X.2.1.1
def apX:lZ:=(lZ.nil.add 4 (yi O5 akM q2)).add 9 (yi O6 akN q2)
theorem aoI:wO E anP.g apc apX (cz f145 0):=lk O5 akM q2 λX x=>((z2 (u x) X.1),X.2)
theorem aoJ:wO E anP.g apc apX (cz f145 1):=lk O6 akN q2 λX x=>((z2 (u x) X.1),X.2)
def ar2:=anP.qk apc func145 [pf tc,pI] [rB] (c2 vO) (cF aoI (cF aoJ nF))
def aue:=ar2.q0 {} func341 [pf (.sl ko)] [(true,(.sl (.own none) ko))] (c1 Bv)
def atd:=aue.q0 {sb:=mg [(2,2)]} func254 [pf tc] [(true,Y27)] (c1 Bx)
abbrev aaO:SD:=⟨B::.ptr 1 0::DB::cC (cQ 36864 .bool)::DI::bs 53 [],Z::(some Y18)::zs 56 [],.none⟩
def ar3:=atd.q1 {mask:=mk [(5,[1,2,3,4])],merge:=mg [(1,20),(7,50)]} func147 [pf lI] [rB] (c1 wG) aaO (λX K=>xT (λy0 y1=>ke 0 K aaO ((z1 (w y0 (u y1)) X.1),X.2)) (λy0 y1 y2=>kr K aaO ((w y0 (w y1 (u y2)) X.1),X.2)) X.1.1 X.2.1.1) (λX=>(X.1.2.1,q2 X)) (λX x=>((z1 (w x.1 (u x.2)) X.1),X.2))
abbrev aio:SD:=⟨B::B::DI::B::B::B::.ptr 6 0::B::.ptr 8 0::DI::bs 24 [],zs 6 ((some Y31)::Z::(some Y30)::zs 25 []),.none⟩
def auh:=ar3.q1 {mask:=mk [(3,[2,6,8,9])],merge:=mg [(3,20)],mv:=[24,33]} func350 [pI,pI,pI] [(true,Y11),rB] (c3 xR) aio (λX K=>qN (λy0 y1=>ke 0 K aio ((z1 (u y0) X.1),(z1 (u y1) X.2.1),X.2.2)) X.1.1 X.2.1.1) (λX=>(X.1.2.1,X.2.1.2.1)) (λX x=>((z1 (u x.1) X.1),(z1 (u x.2) X.2.1),X.2.2))
def ati:=auh.q0 {mv:=[4,9]} func263 [] [(true,Y23)] (λa=>zQ)
abbrev am6:SD:=⟨DI::cC (.int .u8)::B::B::B::cC (cQ 61440 (.int .u8))::DI::bs 13 [],zs 20 [],.none⟩
def G80:=ati.q1 {mask:=mk [(3,[0,1,5,6])]} func80 [pI,pd (.int .u8)] [rS] (c2 gK) am6 (λX K=>qP (λy0 y1=>ke 0 K am6 ((z2 (w y0 (u y1)) X.1),X.2)) X.1.1 X.1.2.1) (λX=>(q2 X,q3 X)) (λX x=>((z2 (w x.1 (u x.2)) X.1),X.2))
def at9:=G80.q0 {merge:=mg [(1,2)]} func336 [pI] [rB] (c1 xY)
def aua:=at9.q0 {} func337 [pf jK] [rI] (c1 vi)
def as6:=aua.q0 {merge:=mg [(1,2)]} func243 [pf jK] [rB] (c1 wH)
def ata:=as6.q0 {} func250 [pf (.sl .str)] [(true,(.sl (.own none) .str))] (c1 nI)
def atb:=ata.q0 {sb:=mg [(2,2)]} func252 [pf lI] [(true,Y11)] (c1 BA)
def auf:=atb.q0 {merge:=mg [(1,15)]} func346 [pf lI,pI] [rI] (c2 qo)
def auM:=auf.q0 {} func402 [pf jK] [rI] (c1 vh)
abbrev aaM:SD:=⟨B::.ptr 1 0::DB::DI::bs 18 [],Z::(qw (ju .str))::zs 20 [],.none⟩
def anK:=auM.q1 {mask:=mk [(2,[1,2,3])]} func140 [pf (.sl .str)] [rB] (c1 vd) aaM (λX K=>tU (λy0=>ke 0 K aaM ((z1 (u y0) X.1),X.2)) (λy0 y1=>kr K aaM ((w y0 (u y1) X.1),X.2)) X.1.1 X.2.1.1) (λX=>X.1.2.1) (λX x=>((z1 (u x) X.1),X.2))
def apb:An:={mask:=mk [(4,[0,2,3]),(10,[0,2,3,4,5])],merge:=mg [(7,34),(12,57)]}
abbrev JG:SD:=⟨cC (ju bX)::B::DB::DI::.ptr 4 0::DI::bs 52 [],zs 4 ((qw (kC (kC (kC .bool))))::zs 53 []),.none⟩
def aeD (X:SD.D JG)(K:sg R):=oA (λy0=>ke 2 K JG ((z3 (u y0) X.1),X.2)) (λy0 y1=>kr K JG ((z1 (w y0 (z1 (u y1))) X.1),X.2)) X.1.1 X.1.2.1 (q2 X) X.2.1.1
abbrev O4:SD:=⟨cC (ju bX)::B::DB::DI::bs 54 [],zs 58 [],.none⟩
def akL (X:SD.D O4)(K:sg R):=qp (λy0=>ke 0 K O4 ((z2 (u y0) X.1),X.2)) (λy0 y1=>kr K O4 ((z1 (w y0 (u y1)) X.1),X.2)) X.1.1 X.1.2.1
def apW:lZ:=(lZ.nil.add 10 (yi JG aeD q3)).add 4 (yi O4 akL q2)
theorem amb:wO E anK.g apb apW (cz f141 1):=lk JG aeD q3 λX x=>((z3 (u x) X.1),X.2)
theorem aoH:wO E anK.g apb apW (cz f141 0):=lk O4 akL q2 λX x=>((z2 (u x) X.1),X.2)
def arZ:=anK.qk apb func141 [pd (.sl bX)] [rB] (c1 vJ) (cF aoH (cF amb nF))
abbrev aa9:SD:=⟨cC (ju bX)::DI::DI::DB::bs 4 (DI::DI::bs 38 []),zs 48 [],.none⟩
def auW:=arZ.q1 {mask:=mk [(2,[0,1,2,3,8,9])],merge:=mg [(4,42)]} func429 [pd (.sl bX),pI,pI,pd .bool] [rI] (c4 Bz) aa9 (λX K=>vS (λy0=>ke 0 K aa9 ((z5 (u y0) X.1),X.2)) (λy0 y1=>kr K aa9 ((z4 (w y0 (u y1)) X.1),X.2)) X.1.1 X.1.2.1 (q2 X) (q3 X) (q4 X)) q5 (λX x=>((z5 (u x) X.1),X.2))
def auX:=auW.q0 {merge:=mg [(2,6)]} func430 [pf (.sl .str),pI,pI] [rB] (c3 pF)
abbrev aa8:SD:=⟨cC (ju bX)::B::DI::DI::DI::DB::B::.ptr 7 0::bs 4 (cC (cQ 147456 (.int .i64))::cC (cQ 159744 (.int .i64))::DB::cC (cQ 184320 (.int .i64))::cC (cQ 196608 (.int .i64))::bs 66 []),zs 7 ((qw (ju .str))::zs 75 []),.none⟩
def auL:=auX.q1 {mask:=mk [(5,[0,2,3,4,5,7,12,13,14,15,16])],merge:=mg [(3,34),(10,57)],mv:=[35,36,64,71,81,82]} func400 [pd (.sl bX),pf (.sl .str),pI,pI,pI,pd .bool] [(false,(.sl (.own none) (.int .i64))),(false,(.sl (.own none) (.int .i64))),rB] (c6 zO) aa8 (λX K=>lY (λy0 y1 y2 y3=>ke 0 K aa8 ((z2 (w y0 (w y1 (z4 (w y2 (u y3))))) X.1),X.2)) (λy0 y1 y2 y3 y4 y5 y6=>kr K aa8 ((z2 (w y0 (w y1 (z1 (w y2 (w y3 (w y4 (w y5 (u y6)))))))) X.1),X.2)) X.1.1 X.1.2.1 (q4 X) (q5 X) (q6 X) (q7 X) X.2.1.1) (λX=>(q2 X,q3 X,q8 X,q9 X)) (λX x=>((z2 (w x.1 (w x.2.1 (z4 (w x.2.2.1 (u x.2.2.2))))) X.1),X.2))
def atK:=auL.q0 {} func309 [pd .str,pI,pd .str] [rS] (c3 km)
abbrev aiz:SD:=⟨B::DI::cC .str::B::B::B::.ptr 6 0::B::.ptr 8 0::bs 44 [],zs 6 ((qw (cQ 73729 .str))::Z::(qw (cQ 98305 .str))::zs 44 []),.none⟩
def au0:=atK.q1 {mask:=mk [(4,[1,2,6,8])],mv:=[19,52]} func433 [pf (.sl .str),pI,pd .str] [(true,(.sl (.own none) .str)),rB] (c3 ub) aiz (λX K=>oB (λy0 y1 y2=>ke 0 K aiz ((w y0 (u y1) X.1),(z1 (u y2) X.2.1),X.2.2)) X.2.1.1) (λX=>(X.1.1,X.1.2.1,X.2.1.2.1)) (λX x=>((w x.1 (u x.2.1) X.1),(z1 (u x.2.2) X.2.1),X.2.2))
abbrev aiw:SD:=⟨bs 4 (cC .str::bs 5 (.ptr 10 0::B::cC (.sl .loc (.int .i64))::cC (.sl .loc (.int .i64))::B::.ptr 15 0::DI::bs 44 [])),zs 10 ((qw (cQ 122881 .str))::zs 4 ((qw (cQ 184321 .str))::zs 45 [])),.none⟩
def auP:=au0.q1 {mask:=mk [(6,[4,10,12,13,15,16])],mv:=[32,39,52,60],sb:=mg [(15,15)]} func405 [pd (.sl bX),pf (.sl .str),pI,pI,pd .str] [(true,(.sl (.own none) .str)),rB] (c5 vc) aiw (λX K=>pq (λy0 y1 y2=>ke 0 K aiw ((w y0 (z2 (u y1)) X.1),(z1 (u y2) X.2.1),X.2.2)) X.1.2.1 (q2 X) X.2.1.1) (λX=>(X.1.1,q3 X,X.2.1.2.1)) (λX x=>((w x.1 (z2 (u x.2.1)) X.1),(z1 (u x.2.2) X.2.1),X.2.2))
def auY:=auP.q0 {merge:=mg [(1,11)]} func431 [pf jK,pI] [rI] (c2 tX)
def auN:=auY.q0 {merge:=mg [(1,22)],mv:=[26,36,51],mb:=mg [(51,13)],sb:=mg [(10,10),(11,11),(13,13)]} func403 [pd (.sl bX),pf (.sl .str),pI,pf jK,pd .str] [(true,(.sl (.own none) .str)),(true,Y0),rB] (c5 Bp)
def atH:=auN.q0 {} func306 [pI] [rS] (c1 dA)
def auZ:=atH.q0 {merge:=mg [(1,2)]} func432 [pf pM] [rB] (c1 Dl)
def auO:=auZ.q0 {} func404 [pf pM] [rS] (c1 vI)
abbrev ain:SD:=⟨cC (ju bX)::B::DI::bs 5 (.ptr 8 0::.ptr 9 0::.ptr 10 0::.ptr 11 0::.ptr 12 0::B::.ptr 14 0::.ptr 15 0::DI::bs 65 []),zs 8 ((some Y0)::(some Y18)::(qw (cQ 122881 .str))::(some Y0)::(some Y29)::Z::(qw (cQ 172033 .str))::(some Y28)::zs 66 []),.none⟩
def aug:=auO.q1 {mask:=mk [(6,[0,2,8,9,10,11,12,14,15,16])],merge:=mg [(4,32),(6,44)],mv:=[33,35,49,63,68,78,80],mb:=mg [(33,14),(35,15),(78,14),(80,15)],sb:=mg [(10,10),(11,11),(12,12),(18,18),(19,19)]} func349 [pd (.sl bX),pf (.sl .str),pI,pf jK,pf lI] [(true,(.sl (.own none) .str)),(true,Y0),(true,Y11),rI] (c5 zH) ain (λX K=>pt (λy0 y1 y2 y3=>ke 0 K ain ((z2 (u y0) X.1),(w y1 (z4 (w y2 (u y3))) X.2.1),X.2.2)) X.1.1 X.1.2.1 X.2.1.2.1 X.2.1.2.2.1 X.2.1.2.2.2.1 X.2.1.2.2.2.2.1) (λX=>(q2 X,X.2.1.1,X.2.1.2.2.2.2.2.1,X.2.1.2.2.2.2.2.2.1)) (λX x=>((z2 (u x.1) X.1),(w x.2.1 (z4 (w x.2.2.1 (u x.2.2.2))) X.2.1),X.2.2))
abbrev aip:SD:=⟨cC (ju bX)::B::DI::DI::cC .str::B::.ptr 6 0::B::B::B::.ptr 10 0::B::cC (cQ 147456 bX)::DI::bs 25 [],zs 6 ((qw (ju .str))::Z::Z::Z::(qw (cQ 122881 .str))::zs 28 []),.none⟩
def apR:=aug.q1 {mask:=mk [(3,[0,2,3,4,6,10,12,13])],mv:=[27]} func351 [pd (.sl bX),pf (.sl .str),pI,pI,pd .str] [(true,(.sl (.own none) .str)),rB] (c5 xP) aip (λX K=>rZ (λy0 y1=>ke 0 K aip ((z4 (w y0 (u y1)) X.1),X.2)) X.1.1 X.1.2.1 (q2 X) (q3 X) X.2.1.1 X.2.1.2.1) (λX=>(q4 X,q5 X)) (λX x=>((z4 (w x.1 (u x.2)) X.1),X.2))
def avc:lr:=kO (.pair (.sl (.own none) .str) (.pair (.sl (.own none) bX) (.pair (.pair (.pair (.int .i64) (.pair (.int .i64) (.pair (.int .i64) (.int .i64)))) (.pair (.pair (.int .i64) (.pair (.int .i64) (.pair (.int .i64) (.sl (.own none) (.int .i64))))) (.pair (.sl (.own none) lJ) (.int .i64)))) (.pair (.sl (.own none) fC) (.pair (.sl (.own none) lI) (.pair (.sl (.own none) ie) (.pair (.sl (.own none) .bool) (.pair (.pair (.int .i64) (.pair .bool (.sl (.own none) (.int .i64)))) (.pair (.pair (.sl (.own none) nW) (.pair (.sl (.own none) ko) (.pair .str (.sl (.own none) (.int .i64))))) (.pair (.sl (.own none) fT) (.pair .bool (.pair (.sl (.own none) .str) (.pair (.sl (.own none) (.int .i64)) (.pair (.sl (.own none) (.int .i64)) (.pair (.int .i64) (.pair (.int .i64) (.pair (.int .i64) (.pair (.int .i64) (.int .i64))))))))))))))))))) [pI] [] λx a=>yc x a.1
theorem av2:Li 264 avc:=iZ.sQ (sv (an:={mv:=[47,51,65,67,84],mb:=mg [(84,6)],sb:=mg [(6,6),(50,0),(70,0),(71,5)]}) (Λ:=lZ.nil) (apR.s) func264 (by kernel_rfl) (ao nF)) (λx a=>by kernel_rfl)
def atj:=apR.add av2
def as9:=atj.q0 {merge:=mg [(1,2)]} func249 [pf ie] [rB] (c1 wI)
def ar4:=as9.q0 {merge:=mg [(1,24),(3,2)]} func148 [pf ie] [rB] (c1 nR)
def atm:=ar4.q0 {} func279 [pI,pI] [(true,Y17),rB] (c2 xS)
abbrev aih:SD:=⟨DI::B::.ptr 2 0::.ptr 3 0::DI::bs 17 [],Z::Z::(qw (cQ 24577 .str))::(qw (cQ 36865 .str))::zs 18 [],.none⟩
def anR:=atm.q1 {mask:=mk [(3,[0,2,3,4])],merge:=mg [(3,12)],mv:=[16,21],mb:=mg [(16,3)],sb:=mg [(20,3)]} func280 [pI] [(true,(.sl (.own none) .str))] (c1 pA) aih (λX K=>sa (λy0 y1=>ke 0 K aih ((z1 (u y0) X.1),(z1 (u y1) X.2.1),X.2.2)) X.1.1 X.2.1.1) (λX=>(X.1.2.1,X.2.1.2.1)) (λX x=>((z1 (u x.1) X.1),(z1 (u x.2) X.2.1),X.2.2))
def apd:An:={mask:=mk [(6,[0,12,14,16,17]),(10,[0,12,14,16,18])],merge:=mg [(2,42)],mv:=[57,74,80,86,92,98],mb:=mg [(57,16)],sb:=mg [(16,16),(67,16)]}
abbrev UD:SD:=⟨DI::bs 11 (.ptr 12 0::B::.ptr 14 0::B::.ptr 16 0::DI::bs 81 []),zs 12 ((some Y13)::Z::(some Y17)::Z::(some Y12)::zs 82 []),.none⟩
def akR (X:SD.D UD)(K:sg R):=qM (λy0 y1=>ke 0 K UD ((z1 (u y0) X.1),(z2 (u y1) X.2.1),X.2.2)) X.1.1 X.2.1.1 X.2.1.2.1
abbrev Oe:SD:=⟨DI::bs 11 (.ptr 12 0::B::.ptr 14 0::B::.ptr 16 0::B::DI::bs 80 []),zs 12 ((some Y13)::Z::(some Y17)::Z::(some Y12)::zs 82 []),.none⟩
def aeE (X:SD.D Oe)(K:sg R):=py (λy0 y1=>ke 2 K Oe ((z1 (u y0) X.1),(z2 (u y1) X.2.1),X.2.2)) X.1.1 X.2.1.1 X.2.1.2.1
def apZ:lZ:=(lZ.nil.add 6 (yi UD akR (λX=>(X.1.2.1,X.2.1.2.2.1)))).add 10 (yi Oe aeE (λX=>(X.1.2.1,X.2.1.2.2.1)))
theorem aoN:wO E anR.g apd apZ (cz f180 0):=lk UD akR (λX=>(X.1.2.1,X.2.1.2.2.1)) λX x=>((z1 (u x.1) X.1),(z2 (u x.2) X.2.1),X.2.2)
theorem amc:wO E anR.g apd apZ (cz f180 1):=lk Oe aeE (λX=>(X.1.2.1,X.2.1.2.2.1)) λX x=>((z1 (u x.1) X.1),(z2 (u x.2) X.2.1),X.2.2)
def asc:=anR.qk apd func180 [pI,pf pR,pf tc,pd .bool,pI,pI] [(true,Y2),rB] (c6 tW) (cF aoN (cF amc nF))
abbrev aiA:SD:=⟨cC (ju fb)::B::DB::bs 4 (.ptr 7 0::B::.ptr 9 0::B::B::.ptr 12 0::DB::B::B::.ptr 16 0::DI::bs 81 []),zs 7 ((some Y22)::Z::(some Y8)::Z::Z::(qw (cO (cQ 147457 dL) (cO (cQ 147460 ca) (cO (cQ 147463 fb) (cO (cQ 147466 .str) (cO Y0 (cO (cQ 147481 (.int .i64)) (cQ 147484 .str))))))))::Z::Z::Z::(qw (cO (cQ 196609 dL) (cO (cQ 196612 ca) (cO (cQ 196615 fb) (cO (cQ 196618 .str) (cO Y0 (cO (cQ 196633 (.int .i64)) (cQ 196636 .str))))))))::zs 82 []),.none⟩
def G76:=asc.q1 {mask:=mk [(6,[0,2,7,9,12,13,16,17])],merge:=mg [(3,50)],mv:=[58,67,73,74,79,89,98],mb:=mg [(89,16)],sb:=mg [(18,18),(97,16)]} func76 [pd (.sl fb),pf tc,pd .bool,pf jh,pf (.sl .str),pI] [(true,Y5),rB] (c6 tV) aiA (λX K=>vK (λy0 y1=>ke 0 K aiA ((z3 (u y0) X.1),(z3 (u y1) X.2.1),X.2.2)) (λy0 y1 y2 y3=>kr K aiA ((z2 (w y0 (u y1)) X.1),(z2 (w y2 (u y3)) X.2.1),X.2.2)) X.1.1 X.1.2.1 (q2 X) X.2.1.1 X.2.1.2.1 X.2.1.2.2.1) (λX=>(q3 X,X.2.1.2.2.2.1)) (λX x=>((z3 (u x.1) X.1),(z3 (u x.2) X.2.1),X.2.2))
def avd:lr:=kO (.pair (.sl .AO (.int .u8)) (.pair (.int .i64) (.int .i64))) [] [(true,Y19)] λx a=>ya x
theorem av3:Li 281 avd:=iZ.sQ (sv (an:={mv:=[11]}) (Λ:=lZ.nil) (G76.s) func281 (by kernel_rfl) (ao nF)) (λx a=>by kernel_rfl)
def apN:=G76.add av3
def au9:lr:=kO (.pair (.sl .AO (.int .u8)) (.pair (.int .i64) (.int .i64))) [] [(true,(.pair Y19 Y8))] λx a=>Dq x
theorem avZ:Li 181 au9:=iZ.sQ (sv (an:={}) (Λ:=lZ.nil) (apN.s) func181 (by kernel_rfl) (ao nF)) (λx a=>by kernel_rfl)
def alp:=apN.add avZ
def e77:lr:=kO (.pair (.sl .AO (.int .u8)) (.pair (.int .i64) (.int .i64))) [] [(false,(.sl (.own none) fb))] λx a=>zR x
def n77:An:={mask:=mk [(3,[0,3,4])],mv:=[22,23,26]}
abbrev adA:SD:=⟨.ptr 0 0::B::B::cC (cQ 36864 fb)::DI::bs 22 [],(some Y7)::zs 26 [],.ptr⟩
def anA (X:SD.D adA)(K:sg R):=yN (λy0 y1 y2=>ke 0 K adA ((w y0 (u y1) X.1),(u y2 X.2.1),X.2.2))
def L77:lZ:=lZ.nil.add 3 (yi adA anA (λX=>(X.1.1,X.1.2.1,X.2.1.1)))
theorem aq2:wO E alp.g n77 L77 (cz f77 0):=lk adA anA (λX=>(X.1.1,X.1.2.1,X.2.1.1)) λX x=>((w x.1 (u x.2.1) X.1),(u x.2.2 X.2.1),X.2.2)
theorem o77:Li 77 e77:=iZ.sQ (sv (Γ:=alp.g) (an:=n77) (Λ:=L77) (alp.s) func77 (by kernel_rfl) (ao (cF aq2 nF))) (λx a=>by kernel_rfl)
def G77:=alp.add o77
def e85:lr:=kO (.pair (.sl .AO (.int .u8)) (.pair (.int .i64) (.int .i64))) [] [rS] λx a=>vj x
theorem o85:Li 85 e85:=iZ.sQ (sv (an:={}) (Λ:=lZ.nil) (G77.s) func85 (by kernel_rfl) (ao nF)) (λx a=>by kernel_rfl)
def G85:=G77.add o85
def e78:lr:=kO (.pair (.sl .AO (.int .u8)) (.pair (.int .i64) (.int .i64))) [] [(true,(.sl (.own none) .str))] λx a=>zP x
def n78:An:={mask:=mk [(3,[0,2,3,4])],mv:=[18,28],mb:=mg [(18,3)],sb:=mg [(27,3)]}
abbrev adB:SD:=⟨.ptr 0 0::B::.ptr 2 0::.ptr 3 0::DI::bs 24 [],(some Y7)::Z::(qw (cQ 24577 .str))::(qw (cQ 36865 .str))::zs 25 [],.ptr⟩
def anB (X:SD.D adB)(K:sg R):=yJ (λy0 y1 y2=>ke 0 K adB ((u y0 X.1),(w y1 (z1 (u y2)) X.2.1),X.2.2)) X.2.1.2.1
def L78:lZ:=lZ.nil.add 3 (yi adB anB (λX=>(X.1.1,X.2.1.1,X.2.1.2.2.1)))
theorem aq3:wO E G85.g n78 L78 (cz f78 0):=lk adB anB (λX=>(X.1.1,X.2.1.1,X.2.1.2.2.1)) λX x=>((u x.1 X.1),(w x.2.1 (z1 (u x.2.2)) X.2.1),X.2.2)
theorem o78:Li 78 e78:=iZ.sQ (sv (Γ:=G85.g) (an:=n78) (Λ:=L78) (G85.s) func78 (by kernel_rfl) (ao (cF aq3 nF))) (λx a=>by kernel_rfl)
def G78:=G85.add o78
def e26:lr:=kO (.pair (.sl .AO (.int .u8)) (.pair (.int .i64) (.int .i64))) [] [(true,Y5)] λx a=>Dr x
def n26:An:={mask:=mk [(2,[0,2,3]),(1000006,[0,2,3]),(1000007,[0,2,3]),(1000008,[0,2,3]),(1000009,[0,2,3]),(1000014,[0,2,3,4]),(1000015,[0,2,3])],cut:=[3,4,7],mv:=[35,49,52,66,80,82],sb:=mg [(6,6),(11,11),(36,0),(39,0),(43,0),(45,0)]}
abbrev FY:SD:=⟨.ptr 0 0::B::.ptr 2 0::DI::.ptr 4 0::bs 78 [],(some Y7)::Z::(some Y10)::Z::(qw (cO (cQ 49153 nW) (cO (cQ 49156 ko) (cO .str (cQ 49162 (.int .i64))))))::zs 78 [],.ptr⟩
abbrev JI:SD:=⟨.ptr 0 0::B::.ptr 2 0::DI::bs 79 [],(some Y7)::Z::(some Y10)::zs 80 [],.ptr⟩
def Nw (X:SD.D FY)(K:sg R):az R:=sY (λy0=>kn K JI ((X.1.1,()),(y0,(X.2.1.2.1,())),())) (λy0 y1=>kr K JI ((X.1.1,()),(y0,(y1,())),())) X.1.1 X.2.1.1 X.2.1.2.1 X.2.1.2.2.1
abbrev CW:SD:=⟨.ptr 0 0::B::.ptr 2 0::DI::bs 79 [],(some Y7)::Z::(some Y10)::zs 80 [],.ptr⟩
def Nu (X:SD.D CW)(K:sg R):az R:=sX (λy0=>kn K CW ((u y0 X.1),X.2)) X.1.1 X.2.1.1 X.2.1.2.1
abbrev zV:SD:=⟨.ptr 0 0::B::.ptr 2 0::DI::bs 79 [],(some Y7)::Z::(some Y10)::zs 80 [],.ptr⟩
def Nv (X:SD.D zV)(K:sg R):az R:=yd (λy0 y1=>kn K zV ((u y0 X.1),(u y1 X.2.1),X.2.2)) (λy0 y1=>kr K zV (X.1,(w y0 (u y1) X.2.1),X.2.2)) X.1.1 X.2.1.1 X.2.1.2.1
abbrev WY:SD:=⟨.ptr 0 0::B::.ptr 2 0::DI::bs 79 [],(some Y7)::Z::(some Y10)::zs 80 [],.ptr⟩
def ans (X:SD.D WY)(K:sg R):=CD (λy0 y1=>ke 0 K WY ((u y0 X.1),(u y1 X.2.1),X.2.2)) (λy0 y1 y2=>kr K WY ((u y0 X.1),(w y1 (u y2) X.2.1),X.2.2)) X.2.1.2.1
def L26:lZ:=(((lZ.nil.add 1000014 (VL FY Nw)).add 1000006 (VL CW Nu)).add 1000008 (VL zV Nv)).add 2 (yi WY ans (λX=>(X.1.1,X.2.1.1)))
theorem Ym:Rs E G78.g n26 L26 (nd n26.cut f26 1):=ck FY Nw
theorem Yk:Rs E G78.g n26 L26 (nd n26.cut f26 2):=ck CW Nu
theorem Yl:Rs E G78.g n26 L26 (nd n26.cut f26 0):=ck zV Nv
theorem aqV:wO E G78.g n26 L26 (cz f26 0):=lk WY ans (λX=>(X.1.1,X.2.1.1)) λX x=>((u x.1 X.1),(u x.2 X.2.1),X.2.2)
theorem o26:Li 26 e26:=iZ.sQ (sv (Γ:=G78.g) (an:=n26) (Λ:=L26) (G78.s) func26 (by kernel_rfl) (ac (cF aqV nF) (cF Yl (cF Ym (cF Yk nF))))) (λx a=>by kernel_rfl)
def G26:=G78.add o26
def ave:lr:=kO (.pair (.sl .AO (.int .u8)) (.pair (.int .i64) (.int .i64))) [] [rI] λx a=>Bs x
theorem av4:Li 282 ave:=iZ.sQ (sv (an:={}) (Λ:=lZ.nil) (G26.s) func282 (by kernel_rfl) (ao nF)) (λx a=>by kernel_rfl)
def apO:=G26.add av4
def avi:lr:=kO (.pair (.sl .AO (.int .u8)) (.pair (.int .i64) (.int .i64))) [] [rI] λx a=>zN x
theorem av8:Li 367 avi:=iZ.sQ (sv (an:={}) (Λ:=lZ.nil) (apO.s) func367 (by kernel_rfl) (ao nF)) (λx a=>by kernel_rfl)
def apS:=apO.add av8
def avf:lr:=kO (.pair (.sl .AO (.int .u8)) (.pair (.int .i64) (.int .i64))) [pI] [(true,(.pair (.int .i64) Y24))] λx a=>vQ x a.1
theorem av5:Li 283 avf:=iZ.sQ (sv (an:={}) (Λ:=lZ.nil) (apS.s) func283 (by kernel_rfl) (ao nF)) (λx a=>by kernel_rfl)
def apP:=apS.add av5
def ava:lr:=kO (.pair (.sl .AO (.int .u8)) (.pair (.int .i64) (.int .i64))) [pI] [(true,Y1)] λx a=>pC x a.1
theorem av0:Li 184 ava:=iZ.sQ (sv (an:={}) (Λ:=lZ.nil) (apP.s) func184 (by kernel_rfl) (ao nF)) (λx a=>by kernel_rfl)
def RE:=apP.add av0
def e81:lr:=kO (.pair (.sl .AO (.int .u8)) (.pair (.int .i64) (.int .i64))) [pI] [(false,(.sl (.own none) dp))] λx a=>Bt x a.1
def n81:An:={mask:=mk [(5,[0,5,6,7,8]),(1000012,[0,5,6,7,8]),(1000013,[0,5,6,7,8]),(1000014,[0,5,6,7,8]),(1000015,[0,5,6,7,8]),(1000018,[0,5,6,7,8]),(1000019,[0,5,6,7,8]),(1000022,[0,5,6,7,8]),(1000023,[0,5,6,7,8]),(1000028,[0,5,6,7,8]),(1000029,[0,5,6,7,8]),(1000034,[0,5,6,7,8,64]),(1000035,[0,5,6,7,8])],cut:=[6,7,9,11,14,17],mv:=[47,76]}
abbrev F3:SD:=⟨.ptr 0 0::bs 4 (cC (cQ 61440 dp)::.ptr 6 0::DI::DI::bs 55 (DB::bs 12 [])),(some Y7)::zs 5 ((some Y1)::zs 70 []),.ptr⟩
abbrev UW:SD:=⟨.ptr 0 0::bs 4 (cC (cQ 61440 dp)::.ptr 6 0::DI::DI::bs 68 []),(some Y7)::zs 5 ((some Y1)::zs 70 []),.ptr⟩
def NL (X:SD.D F3)(K:sg R):az R:=yI (λy0=>kn K UW ((X.1.1,(X.1.2.1,(X.1.2.2.1,()))),(X.2.1.1,(y0,())),())) X.1.1 X.1.2.1 (q2 X) (q3 X) X.2.1.1 X.2.1.2.1
abbrev C5:SD:=⟨.ptr 0 0::bs 4 (cC (cQ 61440 dp)::.ptr 6 0::DI::DI::bs 68 []),(some Y7)::zs 5 ((some Y1)::zs 70 []),.ptr⟩
def NK (X:SD.D C5)(K:sg R):az R:=pE (λy0 y1 y2=>kn K C5 ((u y0 X.1),(w y1 (u y2) X.2.1),X.2.2)) X.1.1 X.1.2.1 (q2 X) X.2.1.1 X.2.1.2.1
abbrev C4:SD:=⟨.ptr 0 0::bs 4 (cC (cQ 61440 dp)::.ptr 6 0::DI::DI::bs 68 []),(some Y7)::zs 5 ((some Y1)::zs 70 []),.ptr⟩
def NJ (X:SD.D C4)(K:sg R):az R:=pD (λy0 y1 y2=>kn K C4 ((u y0 X.1),(w y1 (u y2) X.2.1),X.2.2)) X.1.1 X.1.2.1 (q2 X) X.2.1.1 X.2.1.2.1
abbrev C3:SD:=⟨.ptr 0 0::bs 4 (cC (cQ 61440 dp)::.ptr 6 0::DI::DI::bs 68 []),(some Y7)::zs 5 ((some Y1)::zs 70 []),.ptr⟩
def NI (X:SD.D C3)(K:sg R):az R:=qS (λy0 y1 y2 y3=>kn K C3 ((w y0 (u y1) X.1),(w y2 (u y3) X.2.1),X.2.2)) X.1.1 X.1.2.1 (q2 X) X.2.1.1 X.2.1.2.1
abbrev C1:SD:=⟨.ptr 0 0::bs 4 (cC (cQ 61440 dp)::.ptr 6 0::DI::DI::bs 68 []),(some Y7)::zs 5 ((some Y1)::zs 70 []),.ptr⟩
def NG (X:SD.D C1)(K:sg R):az R:=qR (λy0=>kn K C1 ((z2 (u y0) X.1),X.2)) X.1.1 X.1.2.1 (q2 X) X.2.1.1 X.2.1.2.1
abbrev C2:SD:=⟨.ptr 0 0::bs 4 (cC (cQ 61440 dp)::.ptr 6 0::DI::DI::bs 68 []),(some Y7)::zs 5 ((some Y1)::zs 70 []),.ptr⟩
def NH (X:SD.D C2)(K:sg R):az R:=vR (λy0 y1 y2 y3 y4=>kn K C2 ((w y0 (w y1 (u y2)) X.1),(w y3 (u y4) X.2.1),X.2.2)) X.1.1 X.1.2.1 (q2 X) X.2.1.1 X.2.1.2.1
abbrev adC:SD:=⟨.ptr 0 0::bs 4 (cC (cQ 61440 dp)::.ptr 6 0::DI::DI::bs 68 []),(some Y7)::zs 5 ((some Y1)::zs 70 []),.ptr⟩
def anC (X:SD.D adC)(K:sg R):=AF (λy0 y1 y2 y3 y4=>ke 0 K adC ((w y0 (w y1 (u y2)) X.1),(w y3 (u y4) X.2.1),X.2.2))
def L81:lZ:=((((((lZ.nil.add 1000034 (VL F3 NL)).add 1000028 (VL C5 NK)).add 1000022 (VL C4 NJ)).add 1000018 (VL C3 NI)).add 1000012 (VL C1 NG)).add 1000014 (VL C2 NH)).add 5 (yi adC anC (λX=>(X.1.1,X.1.2.1,q2 X,X.2.1.1,X.2.1.2.1)))
theorem YA:Rs E RE.g n81 L81 (nd n81.cut f81 4):=ck F3 NL
theorem Yz:Rs E RE.g n81 L81 (nd n81.cut f81 3):=ck C5 NK
theorem Yy:Rs E RE.g n81 L81 (nd n81.cut f81 2):=ck C4 NJ
theorem Yx:Rs E RE.g n81 L81 (nd n81.cut f81 1):=ck C3 NI
theorem Yv:Rs E RE.g n81 L81 (nd n81.cut f81 5):=ck C1 NG
theorem Yw:Rs E RE.g n81 L81 (nd n81.cut f81 0):=ck C2 NH
theorem aq4:wO E RE.g n81 L81 (cz f81 0):=lk adC anC (λX=>(X.1.1,X.1.2.1,q2 X,X.2.1.1,X.2.1.2.1)) λX x=>((w x.1 (w x.2.1 (u x.2.2.1)) X.1),(w x.2.2.2.1 (u x.2.2.2.2) X.2.1),X.2.2)
theorem o81:Li 81 e81:=iZ.sQ (sv (Γ:=RE.g) (an:=n81) (Λ:=L81) (RE.s) func81 (by kernel_rfl) (ac (cF aq4 nF) (cF Yw (cF Yx (cF Yy (cF Yz (cF YA (cF Yv nF)))))))) (λx a=>by kernel_rfl)
def G81:=RE.add o81
def asL:=G81.q0 {merge:=mg [(1,18),(4,2),(5,2)]} func220 [pf DX] [rB] (c1 sW)
def arH:=asL.q0 {merge:=mg [(1,55),(3,3),(4,2)]} func121 [pf dp] [rB] (c1 ua)
def G44:=arH.q0 {merge:=mg [(1,2)]} func44 [pf dp] [rB] (c1 vg)
def arD:=G44.q0 {} func117 [pd .str] [rS] (c1 xX)
def auS:=arD.q0 {merge:=mg [(1,12)]} func423 [pI,pI] [rI] (c2 nD)
abbrev ais:SD:=⟨cC .str::B::B::DI::DI::bs 28 [],zs 33 [],.none⟩
def auq:=auS.q1 {mask:=mk [(3,[0,3,4])]} func376 [pd .str] [rI] (c1 zM) ais (λX K=>tZ (λy0 y1=>ke 0 K ais ((z1 (w y0 (u y1)) X.1),X.2)) X.1.1) (λX=>(X.1.2.1,q2 X)) (λX x=>((z1 (w x.1 (u x.2)) X.1),X.2))
def atJ:=auq.q0 {} func308 [pd .str] [rI] (c1 ri)
def aup:=atJ.q0 {merge:=mg [(1,2)]} func375 [pf TIp] [rB] (c1 HI)
def atG:=aup.q0 {} func305 [pf TIp] [rS,rB] (c1 zJ)
def asJ:=atG.q0 {} func218 [pf TIp] [rS,rB] (c1 xO)
def atI:=asJ.q0 {merge:=mg [(1,27)]} func307 [pI,pI,pI,pI] [rS,rB] (c4 nG)
def asK:=atI.q0 {merge:=mg [(14,82)]} func219 [pI,pI,pf DX] [rS,rB] (c3 kM)
def asI:=asK.q0 {merge:=mg [(1,2)]} func217 [pf ahH] [rB] (c1 yH)
def aui:=asI.q0 {} func368 [pI] [rS] (c1 iT)
def atn:=aui.q0 {} func284 [pf ahH] [rS,rB] (c1 zE)
def ato:=atn.q0 {} func285 [pd .str] [rS] (c1 Bm)
def ase:=ato.q0 {} func185 [pf dp] [rS,rB] (c1 vH)
def G82:=ase.q0 {} func82 [pf dp] [rS,rB] (c1 vG)
def e83:lr:=kO (.pair (.sl .AO (.int .u8)) (.pair (.int .i64) (.int .i64))) [pf dp,pI] [(true,Y1)] λx a=>sZ x a.1 a.2.1
theorem o83:Li 83 e83:=iZ.sQ (sv (an:={}) (Λ:=lZ.nil) (G82.s) func83 (by kernel_rfl) (ao nF)) (λx a=>by kernel_rfl)
def G83:=G82.add o83
def e84:lr:=kO (.pair (.sl .AO (.int .u8)) (.pair (.int .i64) (.int .i64))) [] [(true,Y8)] λx a=>vT x
theorem o84:Li 84 e84:=iZ.sQ (sv (an:={}) (Λ:=lZ.nil) (G83.s) func84 (by kernel_rfl) (ao nF)) (λx a=>by kernel_rfl)
def G84:=G83.add o84
def e27:lr:=kO (.pair (.sl .AO (.int .u8)) (.pair (.int .i64) (.int .i64))) [pI,pd .bool] [(false,(.sl (.own none) gV))] λx a=>BC x a.1 a.2.1
def VO:An:={mask:=mk [(4,[0,1,2,7,8,9]),(42,[0,7,14]),(1000010,[0,1,2,7,8,9]),(1000011,[0,1,2,7,8,9]),(1000012,[0,1,2,7,8,9]),(1000013,[0,1,2,7,8,9]),(1000038,[0,1,2,7,8,9,10,11,30,46]),(1000039,[0,1,2,7,8,9,11]),(1000050,[0,1,2,7,8,9,10,11,30,63]),(1000051,[0,1,2,7,8,9,11]),(1000074,[0,1,2,7,8,9,11]),(1000075,[0,1,2,7,8,9]),(1000086,[0,7,14]),(1000087,[0,7,14]),(1000088,[0,7,14]),(1000089,[0,7,14]),(1000090,[0,7,14,158]),(1000091,[0,7,14])],cut:=[5,6,19,25,37,43,44,45],merge:=mg [(44,158)],mv:=[83,110,116,124,164]}
abbrev F0:SD:=⟨.ptr 0 0::DI::DB::bs 4 (cC (cQ 86016 gV)::cC (cQ 98304 dp)::DI::DI::.ptr 11 0::bs 18 (DI::bs 32 (DB::bs 101 []))),(some Y7)::zs 10 ((some Y16)::zs 153 []),.ptr⟩
abbrev UJ:SD:=⟨.ptr 0 0::DI::DB::bs 4 (cC (cQ 86016 gV)::cC (cQ 98304 dp)::DI::B::.ptr 11 0::bs 153 []),(some Y7)::zs 10 ((some Y16)::zs 153 []),.ptr⟩
def NA (X:SD.D F0)(K:sg R):az R:=jS (λy0 y1 y2=>kn K UJ ((X.1.1,(X.1.2.1,(y0,(X.1.2.2.2.1,(X.1.2.2.2.2.1,()))))),(y1,(y2,())),())) X.1.1 X.1.2.1 (q2 X) (q3 X) (q4 X) (q5 X) (q6 X) (q7 X) X.2.1.1 X.2.1.2.1
abbrev FZ:SD:=⟨.ptr 0 0::DI::DB::bs 4 (cC (cQ 86016 gV)::cC (cQ 98304 dp)::DI::DI::.ptr 11 0::bs 18 (DI::bs 15 (DB::bs 118 []))),(some Y7)::zs 10 ((some Y16)::zs 153 []),.ptr⟩
abbrev UI:SD:=⟨.ptr 0 0::DI::DB::bs 4 (cC (cQ 86016 gV)::cC (cQ 98304 dp)::DI::B::.ptr 11 0::bs 153 []),(some Y7)::zs 10 ((some Y16)::zs 153 []),.ptr⟩
def Nz (X:SD.D FZ)(K:sg R):az R:=jR (λy0 y1 y2=>kn K UI ((X.1.1,(X.1.2.1,(y0,(X.1.2.2.2.1,(X.1.2.2.2.2.1,()))))),(y1,(y2,())),())) X.1.1 X.1.2.1 (q2 X) (q3 X) (q4 X) (q5 X) (q6 X) (q7 X) X.2.1.1 X.2.1.2.1
abbrev F1:SD:=⟨.ptr 0 0::DI::DB::bs 4 (cC (cQ 86016 gV)::cC (cQ 98304 dp)::DI::B::.ptr 11 0::bs 153 []),(some Y7)::zs 10 ((some Y16)::zs 153 []),.ptr⟩
abbrev UK:SD:=⟨.ptr 0 0::DI::DB::bs 4 (cC (cQ 86016 gV)::cC (cQ 98304 dp)::DI::bs 155 []),(some Y7)::zs 164 [],.ptr⟩
def NB (X:SD.D F1)(K:sg R):az R:=jT (λy0 y1=>kn K UK ((X.1.1,(X.1.2.1,(y0,(X.1.2.2.2.1,(X.1.2.2.2.2.1,()))))),(y1,()),())) X.1.1 X.1.2.1 (q2 X) (q3 X) (q4 X) X.2.1.1 X.2.1.2.1
abbrev CX:SD:=⟨.ptr 0 0::DI::DB::bs 4 (cC (cQ 86016 gV)::cC (cQ 98304 dp)::DI::bs 155 []),(some Y7)::zs 164 [],.ptr⟩
def Nx (X:SD.D CX)(K:sg R):az R:=mW (λy0=>kn K CX ((z4 (u y0) X.1),X.2)) X.1.1 X.1.2.1 (q2 X) (q3 X) (q4 X) X.2.1.1
abbrev CY:SD:=⟨.ptr 0 0::DI::DB::bs 4 (cC (cQ 86016 gV)::cC (cQ 98304 dp)::DI::bs 155 []),(some Y7)::zs 164 [],.ptr⟩
def Ny (X:SD.D CY)(K:sg R):az R:=vU (λy0 y1 y2=>kn K CY ((z2 (w y0 (z1 (u y1))) X.1),(u y2 X.2.1),X.2.2)) X.1.1 X.1.2.1 (q2 X) (q3 X) (q4 X) X.2.1.1
abbrev ady:SD:=⟨.ptr 0 0::DI::DB::bs 4 (cC (cQ 86016 gV)::cC (cQ 98304 dp)::DI::bs 155 []),(some Y7)::zs 164 [],.ptr⟩
def ant (X:SD.D ady)(K:sg R):=AG (λy0 y1 y2=>ke 0 K ady ((z2 (w y0 (z1 (u y1))) X.1),(u y2 X.2.1),X.2.2)) X.1.1 X.1.2.1 (q3 X)
abbrev F2:SD:=⟨.ptr 0 0::bs 6 (cC (cQ 86016 gV)::bs 6 (DI::bs 143 (DB::bs 6 []))),(some Y7)::zs 164 [],.ptr⟩
abbrev UL:SD:=⟨.ptr 0 0::bs 6 (cC (cQ 86016 gV)::bs 6 (DI::bs 150 [])),(some Y7)::zs 164 [],.ptr⟩
def NF (X:SD.D F2)(K:sg R):az R:=yL (λy0=>kn K UL ((y0,(X.1.2.1,())),(X.2.1.1,()),())) X.1.1 X.1.2.1 (q2 X) X.2.1.1
abbrev CZ:SD:=⟨.ptr 0 0::bs 6 (cC (cQ 86016 gV)::bs 6 (DI::bs 150 [])),(some Y7)::zs 164 [],.ptr⟩
def NC (X:SD.D CZ)(K:sg R):az R:=uc (λy0=>kn K CZ ((z1 (u y0) X.1),X.2)) X.1.1 X.1.2.1 X.2.1.1
abbrev C0:SD:=⟨.ptr 0 0::bs 6 (cC (cQ 86016 gV)::bs 6 (DI::bs 150 [])),(some Y7)::zs 164 [],.ptr⟩
def ND (X:SD.D C0)(K:sg R):az R:=yK (λy0 y1=>kn K C0 ((w y0 (u y1) X.1),X.2)) X.1.1 X.1.2.1 X.2.1.1
abbrev UM:SD:=⟨.ptr 0 0::bs 6 (cC (cQ 86016 gV)::bs 6 (DI::bs 150 [])),(some Y7)::zs 164 [],.ptr⟩
def akZ (X:SD.D UM)(K:sg R):=yM (λy0 y1=>ke 3 K UM ((w y0 (u y1) X.1),X.2)) X.2.1.1
def L27:lZ:=(((((((((lZ.nil.add 1000050 (VL F0 NA)).add 1000038 (VL FZ Nz)).add 1000074 (VL F1 NB)).add 1000010 (VL CX Nx)).add 1000012 (VL CY Ny)).add 4 (yi ady ant (λX=>(q2 X,q4 X,X.2.1.1)))).add 1000090 (VL F2 NF)).add 1000086 (VL CZ NC)).add 1000088 (VL C0 ND)).add 42 (yi UM akZ (λX=>(X.1.1,X.1.2.1)))
theorem Yq:Rs E G84.g VO L27 (nd VO.cut f27 2):=ck F0 NA
theorem Yp:Rs E G84.g VO L27 (nd VO.cut f27 1):=ck FZ Nz
theorem Yr:Rs E G84.g VO L27 (nd VO.cut f27 3):=ck F1 NB
theorem Yn:Rs E G84.g VO L27 (nd VO.cut f27 4):=ck CX Nx
theorem Yo:Rs E G84.g VO L27 (nd VO.cut f27 0):=ck CY Ny
theorem aqW:wO E G84.g VO L27 (cz f27 0):=lk ady ant (λX=>(q2 X,q4 X,X.2.1.1)) λX x=>((z2 (w x.1 (z1 (u x.2.1))) X.1),(u x.2.2 X.2.1),X.2.2)
theorem Yu:Rs E G84.g VO L27 (nd VO.cut f27 6):=ck F2 NF
theorem Ys:Rs E G84.g VO L27 (nd VO.cut f27 7):=ck CZ NC
theorem Yt:Rs E G84.g VO L27 (nd VO.cut f27 5):=ck C0 ND
theorem aoV:wO E G84.g VO L27 (cz f27 1):=lk UM akZ (λX=>(X.1.1,X.1.2.1)) λX x=>((w x.1 (u x.2) X.1),X.2)
theorem o27:Li 27 e27:=iZ.sQ (sv (Γ:=G84.g) (an:=VO) (Λ:=L27) (G84.s) func27 (by kernel_rfl) (ac (cF aqW (cF aoV nF)) (cF Yo (cF Yp (cF Yq (cF Yr (cF Yn (cF Yt (cF Yu (cF Ys nF)))))))))) (λx a=>by kernel_rfl)
def G27:=G84.add o27
def G8:=G27.q0 {late:=[10],sb:=mg [(2,2),(11,7)]} func8 [pd (.sl (.int .u8))] [(true,Y5),(false,(.sl (.own none) gV))] (c1 zG)
def G29:=G8.q0 {merge:=mg [(1,6)]} func29 [pI,pI,pI] [rB] (c3 aB)
abbrev aaJ:SD:=⟨B::.ptr 1 0::DB::B::B::B::cC (ju (.int .i64))::DI::DI::bs 31 [],Z::(some Y25)::zs 38 [],.none⟩
def arx:=G29.q1 {mask:=mk [(2,[1,2,6,7,8])],merge:=mg [(4,29),(7,2)]} func109 [pf pR] [rB] (c1 iJ) aaJ (λX K=>tq (λy0=>ke 0 K aaJ ((z3 (u y0) X.1),X.2)) (λy0 y1=>kr K aaJ ((w y0 (z2 (u y1)) X.1),X.2)) X.1.1 X.1.2.1 (q2 X) X.2.1.1) q3 (λX x=>((z3 (u x) X.1),X.2))
def arq:=arx.q0 {merge:=mg [(1,2)]} func102 [pf fb] [rB] (c1 sF)
abbrev aaE:SD:=⟨B::DI::B::B::DB::B::B::cC (ju (.int .i64))::DI::DI::bs 7 [],zs 17 [],.none⟩
def ars:=arq.q1 {mask:=mk [(2,[1,4,7,8,9])]} func103 [pd (.sl (.int .i64)),pI] [rB] (c2 gR) aaE (λX K=>xy (λy0=>ke 0 K aaE ((z4 (u y0) X.1),X.2)) (λy0 y1=>kr K aaE ((z1 (w y0 (z2 (u y1))) X.1),X.2)) X.1.1 X.1.2.1 (q2 X) (q3 X)) q4 (λX x=>((z4 (u x) X.1),X.2))
abbrev ah3:SD:=⟨B::DI::B::B::B::cC (cQ 61440 (.int .i64))::DB::B::B::B::cC (ju (.int .i64))::DI::DI::bs 26 [],zs 39 [],.none⟩
def art:=ars.q1 {mask:=mk [(4,[1,5,6,10,11,12])],merge:=mg [(6,22)],mv:=[23,27,34,38]} func104 [pd (.sl (.int .i64)),pI] [(false,(.sl (.own none) (.int .i64)))] (c2 kT) ah3 (λX K=>mr (λy0 y1 y2=>ke 0 K ah3 ((z1 (w y0 (w y1 (z2 (u y2)))) X.1),X.2)) X.1.1 (q3 X) (q4 X)) (λX=>(X.1.2.1,q2 X,q5 X)) (λX x=>((z1 (w x.1 (w x.2.1 (z2 (u x.2.2)))) X.1),X.2))
def asy:=art.q0 {} func206 [pf md] [(true,Y25)] (c1 DG)
abbrev aaR:SD:=⟨B::DI::B::B::DI::B::B::cC (ju md)::DI::DI::bs 14 [],zs 24 [],.none⟩
def asz:=asy.q1 {mask:=mk [(2,[1,4,7,8,9])],merge:=mg [(4,21)]} func207 [pd (.sl md),pI] [rI] (c2 uS) aaR (λX K=>oW (λy0=>ke 0 K aaR ((z4 (u y0) X.1),X.2)) (λy0 y1=>kr K aaR ((z1 (w y0 (z2 (u y1))) X.1),X.2)) X.1.1 X.1.2.1 (q2 X) (q3 X)) q4 (λX x=>((z4 (u x) X.1),X.2))
abbrev aaF:SD:=⟨cC (ju md)::B::DB::bs 6 (cC (ju md)::DI::DI::bs 27 []),zs 39 [],.none⟩
def anH:=asz.q1 {mask:=mk [(4,[0,2,9,10,11])],merge:=mg [(6,27),(8,37)]} func105 [pd (.sl md)] [rB] (c1 nr) aaF (λX K=>vx (λy0=>ke 0 K aaF ((z4 (u y0) X.1),X.2)) (λy0 y1=>kr K aaF ((z1 (w y0 (z2 (u y1))) X.1),X.2)) X.1.1 X.1.2.1 (q2 X) (q3 X)) q4 (λX x=>((z4 (u x) X.1),X.2))
def n35:An:={mask:=mk [(6,[2,3,4,5,18,19,20]),(12,[2,3,4,5,7,8,18,19,20,32,33,34])],mv:=[53,57,63,69]}
abbrev UR:SD:=⟨B::B::cC (cQ 24576 md)::DB::cC (cQ 49152 md)::cC (cQ 61440 (.int .i64))::B::.ptr 7 0::cC (cQ 98304 (.int .i64))::bs 9 (cC (ju fb)::DI::DI::bs 11 (cC (cQ 393216 (.int .i64))::DI::DI::bs 35 [])),zs 7 ((qw (cO Y25 Y8))::zs 62 []),.none⟩
def ak4 (X:SD.D UR)(K:sg R):=lT (λy0 y1 y2=>ke 2 K UR ((z3 (w y0 (w y1 (z5 (u y2)))) X.1),X.2)) X.1.1 X.1.2.1 (q2 X) (q5 X) (q6 X) (q7 X) (q8 X) (q9 X) X.2.1.1
abbrev WZ:SD:=⟨B::B::cC (cQ 24576 md)::DB::cC (cQ 49152 md)::cC (cQ 61440 (.int .i64))::bs 12 (cC (ju fb)::DI::DI::bs 49 []),zs 70 [],.none⟩
def anu (X:SD.D WZ)(K:sg R):=qG (λy0 y1 y2=>ke 0 K WZ ((z2 (w y0 (w y1 (z2 (u y2)))) X.1),X.2)) (λy0 y1 y2 y3 y4=>kr K WZ ((w y0 (w y1 (w y2 (w y3 (z2 (u y4))))) X.1),X.2)) X.1.1 X.1.2.1 (q4 X) (q5 X)
def L35:lZ:=(lZ.nil.add 12 (yi UR ak4 (λX=>(q3 X,q4 X,q10 X)))).add 6 (yi WZ anu (λX=>(q2 X,q3 X,q6 X)))
theorem ao0:wO E anH.g n35 L35 (cz f35 1):=lk UR ak4 (λX=>(q3 X,q4 X,q10 X)) λX x=>((z3 (w x.1 (w x.2.1 (z5 (u x.2.2)))) X.1),X.2)
theorem aqX:wO E anH.g n35 L35 (cz f35 0):=lk WZ anu (λX=>(q2 X,q3 X,q6 X)) λX x=>((z2 (w x.1 (w x.2.1 (z2 (u x.2.2)))) X.1),X.2)
def G35:=anH.qk n35 func35 [pd (.sl fb)] [(false,(.sl (.own none) md)),rB] (c1 qa) (cF aqX (cF ao0 nF))
def asq:=G35.q0 {merge:=mg [(1,2)]} func198 [pI] [rB] (c1 uT)
def aso:=asq.q0 {} func194 [pI,pI] [rI] (c2 jz)
def asr:=aso.q0 {} func199 [pf jK] [rI] (c1 ki)
def G95:=asr.q0 {merge:=mg [(1,2)]} func95 [pf jK] [rB] (c1 kA)
def G96:=G95.q0 {merge:=mg [(1,2)]} func96 [pf jh] [rB] (c1 qc)
def ass:=G96.q0 {merge:=mg [(1,18),(5,2),(7,2)]} func200 [pf DX] [rB] (c1 sG)
def ast:=ass.q0 {merge:=mg [(1,2)]} func201 [pI] [rB] (c1 sL)
def G97:=ast.q0 {merge:=mg [(1,2)]} func97 [pf dp] [rB] (c1 gJ)
def G33:=G97.q0 {merge:=mg [(1,42),(5,2)]} func33 [pf fC] [rB] (c1 yA)
abbrev aaG:SD:=⟨B::.ptr 1 0::DB::B::B::B::cC (ju .str)::DI::DI::bs 11 [],Z::(qw (ju .str))::zs 18 [],.none⟩
def aru:=G33.q1 {mask:=mk [(2,[1,2,6,7,8])]} func106 [pf (.sl .str)] [rB] (c1 uM) aaG (λX K=>Eb (λy0=>ke 0 K aaG ((z3 (u y0) X.1),X.2)) (λy0 y1=>kr K aaG ((w y0 (z2 (u y1)) X.1),X.2)) X.1.1 X.1.2.1 (q2 X) X.2.1.1) q3 (λX x=>((z3 (u x) X.1),X.2))
abbrev aaS:SD:=⟨B::DI::DI::B::B::B::DI::B::B::cC (ju bX)::DI::DI::bs 16 [],zs 28 [],.none⟩
def asA:=aru.q1 {mask:=mk [(2,[1,2,6,9,10,11])],merge:=mg [(4,25)]} func208 [pd (.sl bX),pI,pI] [rI] (c3 oV) aaS (λX K=>ox (λy0=>ke 0 K aaS ((z5 (u y0) X.1),X.2)) (λy0 y1=>kr K aaS ((z2 (w y0 (z2 (u y1))) X.1),X.2)) X.1.1 X.1.2.1 (q2 X) (q3 X) (q4 X)) q5 (λX x=>((z5 (u x) X.1),X.2))
abbrev aaH:SD:=⟨cC (ju bX)::B::DB::B::B::cC (ju bX)::DI::DI::bs 34 [],zs 42 [],.none⟩
def arv:=asA.q1 {mask:=mk [(2,[0,2,5,6,7])],merge:=mg [(4,37)]} func107 [pd (.sl bX)] [rB] (c1 qF) aaH (λX K=>pY (λy0=>ke 0 K aaH ((z4 (u y0) X.1),X.2)) (λy0 y1=>kr K aaH ((z1 (w y0 (z2 (u y1))) X.1),X.2)) X.1.1 X.1.2.1 (q2 X) (q3 X)) q4 (λX x=>((z4 (u x) X.1),X.2))
abbrev aaK:SD:=⟨B::.ptr 1 0::DB::cC (cQ 36864 .bool)::bs 22 (cC (ju (.int .i64))::DI::DI::bs 19 []),Z::(some Y18)::zs 46 [],.none⟩
def ary:=arv.q1 {mask:=mk [(5,[1,2,3,26,27,28])],merge:=mg [(1,21),(7,43)]} func110 [pf lI] [rB] (c1 jy) aaK (λX K=>xo (λy0 y1=>ke 0 K aaK ((z1 (w y0 (z2 (u y1))) X.1),X.2)) (λy0 y1 y2=>kr K aaK ((w y0 (w y1 (z2 (u y2))) X.1),X.2)) X.1.1 (q2 X) (q3 X) X.2.1.1) (λX=>(X.1.2.1,q4 X)) (λX x=>((z1 (w x.1 (z2 (u x.2))) X.1),X.2))
def G87:=ary.q0 {} func87 [pd (.sl (.int .i64))] [(false,(.sl (.own none) (.int .i64)))] (c1 gC)
def asi:=G87.q0 {mv:=[7]} func189 [pf lI] [(true,Y11)] (c1 jg)
def asB:=asi.q0 {merge:=mg [(3,21)],mv:=[10,24]} func209 [pf lI,pd (.sl (.int .i64))] [(true,Y11),rB] (c2 gN)
abbrev aaI:SD:=⟨B::.ptr 1 0::DB::DI::cC (cQ 49152 (.int .i64))::bs 25 (cC (ju lJ)::DI::DI::bs 35 []),Z::(some Y26)::zs 66 [],.none⟩
def arw:=asB.q1 {mask:=mk [(6,[1,2,3,4,30,31,32])],merge:=mg [(1,24),(8,50)],mv:=[55]} func108 [pf oE] [rB] (c1 BN) aaI (λX K=>xu (λy0 y1 y2=>ke 0 K aaI ((z1 (w y0 (w y1 (z2 (u y2)))) X.1),X.2)) (λy0 y1 y2 y3=>kr K aaI ((w y0 (w y1 (w y2 (z2 (u y3)))) X.1),X.2)) X.1.1 (q3 X) (q4 X) X.2.1.1) (λX=>(X.1.2.1,q2 X,q5 X)) (λX x=>((z1 (w x.1 (w x.2.1 (z2 (u x.2.2)))) X.1),X.2))
def asC:=arw.q0 {merge:=mg [(1,2)]} func210 [pf ie] [rB] (c1 Ed)
def arz:=asC.q0 {merge:=mg [(1,24),(3,2)]} func111 [pf ie] [rB] (c1 nN)
def atA:=arz.q0 {merge:=mg [(1,33),(3,54),(5,2)]} func298 [pf nW] [rB] (c1 Da)
abbrev aaT:SD:=⟨cC (ju nW)::B::DB::B::B::cC (ju nW)::DI::DI::bs 10 [],zs 18 [],.none⟩
def asD:=atA.q1 {mask:=mk [(2,[0,2,5,6,7])]} func211 [pd (.sl nW)] [rB] (c1 Bf) aaT (λX K=>FG (λy0=>ke 0 K aaT ((z4 (u y0) X.1),X.2)) (λy0 y1=>kr K aaT ((z1 (w y0 (z2 (u y1))) X.1),X.2)) X.1.1 X.1.2.1 (q2 X) (q3 X)) q4 (λX x=>((z4 (u x) X.1),X.2))
abbrev aaY:SD:=⟨B::B::B::.ptr 3 0::DI::B::B::B::cC (ju ko)::DI::DI::bs 15 [],Z::Z::Z::(qw (cO Fs Y0))::zs 22 [],.none⟩
def atB:=asD.q1 {mask:=mk [(2,[3,4,8,9,10])],merge:=mg [(4,23)]} func299 [pf (.sl ko),pf uC] [rI] (c2 Af) aaY (λX K=>xC (λy0=>ke 0 K aaY ((z3 (u y0) X.1),X.2)) (λy0 y1=>kr K aaY ((w y0 (z2 (u y1)) X.1),X.2)) X.1.1 X.1.2.1 (q2 X) X.2.1.1) q3 (λX x=>((z3 (u x) X.1),X.2))
abbrev air:SD:=⟨B::B::B::DI::bs 12 (cC (cQ 196608 (.int .i64))::DI::DI::bs 10 []),zs 29 [],.none⟩
def auo:=atB.q1 {mask:=mk [(3,[3,16,17,18])]} func374 [pf uC] [rI] (c1 zb) air (λX K=>oP (λy0 y1=>ke 0 K air ((w y0 (z2 (u y1)) X.1),X.2)) X.1.2.1 (q2 X)) (λX=>(X.1.1,q3 X)) (λX x=>((w x.1 (z2 (u x.2)) X.1),X.2))
abbrev aij:SD:=⟨B::.ptr 1 0::B::cC (cQ 36864 (.int .i64))::DI::bs 14 [],Z::(qw (cO Fs Y0))::zs 17 [],.none⟩
def anS:=auo.q1 {mask:=mk [(3,[1,3,4])],mv:=[10,18]} func300 [pf uC] [(false,(.sl (.own none) (.int .i64)))] (c1 EZ) aij (λX K=>uU (λy0 y1=>ke 0 K aij ((w y0 (u y1) X.1),X.2)) X.2.1.1) (λX=>(X.1.1,X.1.2.1)) (λX x=>((w x.1 (u x.2) X.1),X.2))
def apf:An:={mask:=mk [(4,[1,2,12,13,14]),(14,[1,2,3,12,13,14,49,50,51])],merge:=mg [(6,28),(9,40)]}
abbrev JH:SD:=⟨B::.ptr 1 0::DB::DI::bs 8 (cC (ju ko)::DI::DI::bs 34 (cC (cQ 602112 (.int .i64))::DI::DI::bs 15 [])),Z::(qw (ju ko))::zs 65 [],.none⟩
def aeF (X:SD.D JH)(K:sg R):=lU (λy0=>ke 2 K JH ((z7 (u y0) X.1),X.2)) (λy0 y1=>kr K JH ((w y0 (z6 (u y1)) X.1),X.2)) X.1.1 X.1.2.1 (q2 X) (q3 X) (q4 X) (q5 X) (q6 X) X.2.1.1
abbrev O7:SD:=⟨B::.ptr 1 0::DB::bs 9 (cC (ju ko)::DI::DI::bs 52 []),Z::(qw (ju ko))::zs 65 [],.none⟩
def akU (X:SD.D O7)(K:sg R):=vA (λy0=>ke 0 K O7 ((z3 (u y0) X.1),X.2)) (λy0 y1=>kr K O7 ((w y0 (z2 (u y1)) X.1),X.2)) X.1.1 X.1.2.1 (q2 X) X.2.1.1
def ap1:lZ:=(lZ.nil.add 14 (yi JH aeF q7)).add 4 (yi O7 akU q3)
theorem amd:wO E anS.g apf ap1 (cz f212 1):=lk JH aeF q7 λX x=>((z7 (u x) X.1),X.2)
theorem aoQ:wO E anS.g apf ap1 (cz f212 0):=lk O7 akU q3 λX x=>((z3 (u x) X.1),X.2)
def asE:=anS.qk apf func212 [pf (.sl ko)] [rB] (c1 tH) (cF aoQ (cF amd nF))
def atC:=asE.q0 {merge:=mg [(1,2)]} func301 [pI] [rB] (c1 Gz)
abbrev aaU:SD:=⟨B::DI::B::B::DB::bs 19 (cC (ju (.int .i64))::DI::DI::bs 9 []),zs 36 [],.none⟩
def anM:=atC.q1 {mask:=mk [(4,[1,4,24,25,26])],merge:=mg [(1,22)]} func213 [pf Hb,pI] [rB] (c2 zn) aaU (λX K=>Ec (λy0=>ke 0 K aaU ((z4 (u y0) X.1),X.2)) (λy0 y1=>kr K aaU ((z1 (w y0 (z2 (u y1))) X.1),X.2)) X.1.1 X.1.2.1 (q2 X) (q3 X)) q4 (λX x=>((z4 (u x) X.1),X.2))
def ao9:An:={mask:=mk [(4,[1,2,4,27,28,29]),(10,[1,4,45,46,47])],merge:=mg [(1,25),(6,41),(12,59)]}
abbrev O3:SD:=⟨B::DI::.ptr 2 0::B::DB::bs 22 (cC (ju nW)::DI::DI::bs 31 []),Z::Z::(some Y22)::zs 58 [],.none⟩
def akJ (X:SD.D O3)(K:sg R):=qe (λy0=>ke 0 K O3 ((z4 (u y0) X.1),X.2)) (λy0 y1=>kr K O3 ((z1 (w y0 (z2 (u y1))) X.1),X.2)) X.1.1 X.1.2.1 (q2 X) (q3 X) X.2.1.1
abbrev JF:SD:=⟨B::DI::B::B::DB::bs 40 (cC (ju ko)::DI::DI::bs 13 []),zs 61 [],.none⟩
def aeB (X:SD.D JF)(K:sg R):=ot (λy0=>ke 2 K JF ((z4 (u y0) X.1),X.2)) (λy0 y1=>kr K JF ((z1 (w y0 (z2 (u y1))) X.1),X.2)) X.1.1 X.1.2.1 (q2 X) (q3 X)
def apU:lZ:=(lZ.nil.add 4 (yi O3 akJ q4)).add 10 (yi JF aeB q4)
theorem aoF:wO E anM.g ao9 apU (cz f112 0):=lk O3 akJ q4 λX x=>((z4 (u x) X.1),X.2)
theorem al9:wO E anM.g ao9 apU (cz f112 1):=lk JF aeB q4 λX x=>((z4 (u x) X.1),X.2)
def anI:=anM.qk ao9 func112 [pf tc,pI] [rB] (c2 qI) (cF aoF (cF al9 nF))
def n36:An:={mask:=mk [(5,[1,2,3,61,62]),(12,[1,2,3,103,104,105])],merge:=mg [(2,58),(7,89)]}
abbrev W0:SD:=⟨B::.ptr 1 0::DB::DI::bs 57 (DI::DI::bs 54 []),Z::(some Y6)::zs 115 [],.none⟩
def anv (X:SD.D W0)(K:sg R):=xj (λy0=>ke 0 K W0 ((z3 (u y0) X.1),X.2)) (λy0 y1=>kr K W0 ((w y0 (z2 (u y1)) X.1),X.2)) X.1.1 X.1.2.1 (q2 X) X.2.1.1
abbrev Pa:SD:=⟨B::.ptr 1 0::DB::DI::bs 99 (cC (cQ 1265664 (.int .i64))::DI::DI::bs 11 []),Z::(some Y6)::zs 115 [],.none⟩
def ak5 (X:SD.D Pa)(K:sg R):=vu (λy0=>ke 2 K Pa ((z4 (u y0) X.1),X.2)) (λy0 y1=>kr K Pa ((w y0 (z3 (u y1)) X.1),X.2)) X.1.1 X.1.2.1 (q2 X) (q3 X) X.2.1.1
def L36:lZ:=(lZ.nil.add 5 (yi W0 anv q3)).add 12 (yi Pa ak5 q4)
theorem aqY:wO E anI.g n36 L36 (cz f36 0):=lk W0 anv q3 λX x=>((z3 (u x) X.1),X.2)
theorem ao1:wO E anI.g n36 L36 (cz f36 1):=lk Pa ak5 q4 λX x=>((z4 (u x) X.1),X.2)
def G36:=anI.qk n36 func36 [pf dL] [rB] (c1 jx) (cF aqY (cF ao1 nF))
abbrev aaL:SD:=⟨cC (ju (.int .i64))::cC (ju (.int .i64))::B::B::DB::bs 7 (DI::DI::bs 12 []),zs 26 [],.none⟩
def arA:=G36.q1 {mask:=mk [(4,[0,1,4,12,13])]} func113 [pd (.sl (.int .i64)),pd (.sl (.int .i64))] [rB] (c2 Pu.tS) aaL (λX K=>Pu.oz (λy0=>ke 0 K aaL ((z4 (u y0) X.1),X.2)) (λy0 y1=>kr K aaL ((z2 (w y0 (z1 (u y1))) X.1),X.2)) X.1.1 X.1.2.1 (q2 X) (q3 X)) q4 (λX x=>((z4 (u x) X.1),X.2))
def G37:=arA.q0 {merge:=mg [(1,4)]} func37 [pf pR,pf pR] [rB] (c2 vD)
def anJ:=G37.q0 {merge:=mg [(1,2)]} func114 [pf jh] [rB] (c1 uI)
def n38:An:={mask:=mk [(4,[0,1,4,12,13,14]),(9,[0,1,4,6,12,13,14,52,53,54])],merge:=mg [(6,49),(11,69)]}
abbrev W2:SD:=⟨cC (ju ca)::cC (ju md)::B::B::DB::B::.ptr 6 0::bs 5 (cC (ju ca)::DI::DI::bs 37 (cC (ju ca)::DI::DI::bs 17 [])),zs 6 ((qw (kC (kC (cO Y8 (cO .bool (kC Fs))))))::zs 65 []),.none⟩
def anx (X:SD.D W2)(K:sg R):=om (λy0=>ke 2 K W2 ((z8 (u y0) X.1),X.2)) (λy0 y1=>kr K W2 ((z2 (w y0 (z5 (u y1))) X.1),X.2)) X.1.1 X.1.2.1 (q2 X) (q3 X) (q4 X) (q5 X) (q6 X) (q7 X) X.2.1.1
abbrev W1:SD:=⟨cC (ju ca)::cC (ju md)::B::B::DB::bs 7 (cC (ju ca)::DI::DI::bs 57 []),zs 72 [],.none⟩
def anw (X:SD.D W1)(K:sg R):=oh (λy0=>ke 0 K W1 ((z5 (u y0) X.1),X.2)) (λy0 y1=>kr K W1 ((z2 (w y0 (z2 (u y1))) X.1),X.2)) X.1.1 X.1.2.1 (q2 X) (q3 X) (q4 X)
def L38:lZ:=(lZ.nil.add 9 (yi W2 anx q8)).add 4 (yi W1 anw q5)
theorem aq0:wO E anJ.g n38 L38 (cz f38 1):=lk W2 anx q8 λX x=>((z8 (u x) X.1),X.2)
theorem aqZ:wO E anJ.g n38 L38 (cz f38 0):=lk W1 anw q5 λX x=>((z5 (u x) X.1),X.2)
def G38:=anJ.qk n38 func38 [pd (.sl ca),pd (.sl md)] [rB] (c2 oO) (cF aqZ (cF aq0 nF))
abbrev aiv:SD:=⟨B::B::DB::B::B::cC (ju ca)::DI::DI::bs 16 [],zs 24 [],.none⟩
def G39:=G38.q1 {mask:=mk [(2,[2,5,6,7])],merge:=mg [(4,22)]} func39 [pd (.sl ca)] [rB] (c1 xz) aiv (λX K=>rV (λy0=>ke 0 K aiv ((z3 (u y0) X.1),X.2)) (λy0 y1=>kr K aiv ((w y0 (z2 (u y1)) X.1),X.2)) X.1.1 X.1.2.1 (q2 X)) q3 (λX x=>((z3 (u x) X.1),X.2))
def arB:=G39.q0 {merge:=mg [(1,2)]} func115 [pf (.sl .str)] [rB] (c1 xf)
def asx:=arB.q0 {merge:=mg [(1,13)]} func205 [pd .str,pI] [rI] (c2 iB)
def anT:=asx.q0 {} func302 [pI] [rS] (c1 gq)
def apj:An:={mask:=mk [(3,[0,3,4]),(7,[0,3,4,5])]}
abbrev UO:SD:=⟨cC .str::B::B::cC (.int .u32)::DI::DI::bs 28 [],zs 34 [],.none⟩
def ak1 (X:SD.D UO)(K:sg R):=rb (λy0 y1=>ke 2 K UO ((z1 (w y0 (z1 (u y1))) X.1),X.2)) X.1.1 (q2 X)
abbrev UN:SD:=⟨cC .str::B::B::cC (.int .u32)::DI::bs 29 [],zs 34 [],.none⟩
def ak0 (X:SD.D UN)(K:sg R):=uJ (λy0 y1=>ke 0 K UN ((z1 (w y0 (u y1)) X.1),X.2)) X.1.1
def ap5:lZ:=(lZ.nil.add 7 (yi UO ak1 (λX=>(X.1.2.1,q3 X)))).add 3 (yi UN ak0 (λX=>(X.1.2.1,q2 X)))
theorem aoX:wO E anT.g apj ap5 (cz f303 1):=lk UO ak1 (λX=>(X.1.2.1,q3 X)) λX x=>((z1 (w x.1 (z1 (u x.2))) X.1),X.2)
theorem aoW:wO E anT.g apj ap5 (cz f303 0):=lk UN ak0 (λX=>(X.1.2.1,q2 X)) λX x=>((z1 (w x.1 (u x.2)) X.1),X.2)
def atD:=anT.qk apj func303 [pd .str] [rI] (c1 Cl) (cF aoW (cF aoX nF))
def asF:=atD.q0 {merge:=mg [(1,15)]} func214 [pI,pd .str] [rS,rB] (c2 xl)
def arC:=asF.q0 {merge:=mg [(2,19),(5,38)]} func116 [pd .str] [rI] (c1 jl)
def G40:=arC.q0 {merge:=mg [(4,18)]} func40 [pf (.sl .str)] [rI] (c1 ra)
def G41:=G40.q0 {merge:=mg [(1,2)]} func41 [pf jK] [rB] (c1 xe)
abbrev ah7:SD:=⟨B::.ptr 1 0::DB::cC (.sl .loc md)::bs 30 (cC (ju dL)::DI::DI::bs 40 []),Z::(qw (cO (ju dL) (cO (ju ca) (cO (ju fb) (cO (ju .str) (cO Y0 (cO (ju (.int .i64)) (ju .str))))))))::zs 75 [],.none⟩
def G13:=G41.q1 {mask:=mk [(5,[1,2,3,34,35,36])],merge:=mg [(2,32),(7,55),(10,2)]} func13 [pf wj] [rB] (c1 nj) ah7 (λX K=>xd (λy0=>ke 0 K ah7 ((z4 (u y0) X.1),X.2)) (λy0 y1=>kr K ah7 ((w y0 (z3 (u y1)) X.1),X.2)) X.1.1 X.1.2.1 (q2 X) (q3 X) X.2.1.1) q4 (λX x=>((z4 (u x) X.1),X.2))
def G67:=G13.q0 {} func67 [pd (.sl ca)] [(false,(.sl (.own none) ca))] (c1 jM)
def arK:=G67.q0 {mv:=[7]} func124 [pf pR] [(true,Y19)] (c1 fH)
def asa:=arK.q0 {mv:=[7]} func177 [pf fb] [(true,(.pair Y19 Y8))] (c1 lV)
abbrev am5:SD:=⟨B::B::B::cC (cQ 36864 fb)::B::B::B::cC (ju fb)::DI::DI::bs 10 [],zs 20 [],.none⟩
def G68:=asa.q1 {mask:=mk [(3,[3,7,8,9])],mv:=[13,19]} func68 [pd (.sl fb)] [(false,(.sl (.own none) fb))] (c1 sH) am5 (λX K=>rT (λy0 y1=>ke 0 K am5 ((w y0 (z2 (u y1)) X.1),X.2)) X.1.2.1 (q2 X)) (λX=>(X.1.1,q3 X)) (λX x=>((w x.1 (z2 (u x.2)) X.1),X.2))
def G69:=G68.q0 {} func69 [pd (.sl .str)] [(false,(.sl (.own none) .str))] (c1 il)
def G86:=G69.q0 {} func86 [pf (.sl .str)] [(true,(.sl (.own none) .str))] (c1 mu)
def asf:=G86.q0 {} func186 [pf (.sl .str)] [(true,(.sl (.own none) .str))] (c1 dD)
def asg:=asf.q0 {} func187 [pd (.sl bX)] [(false,(.sl (.own none) bX))] (c1 xw)
abbrev aii:SD:=⟨B::B::B::cC (cQ 36864 lJ)::B::B::B::cC (ju lJ)::DI::DI::bs 16 [],zs 26 [],.none⟩
def atp:=asg.q1 {mask:=mk [(3,[3,7,8,9])],mv:=[13,25]} func286 [pd (.sl lJ)] [(false,(.sl (.own none) lJ))] (c1 uR) aii (λX K=>tP (λy0 y1=>ke 0 K aii ((w y0 (z2 (u y1)) X.1),X.2)) X.1.2.1 (q2 X)) (λX=>(X.1.1,q3 X)) (λX x=>((w x.1 (z2 (u x.2)) X.1),X.2))
def ash:=atp.q0 {sb:=mg [(2,2)]} func188 [pf oE] [(true,Y23)] (c1 sI)
def atq:=ash.q0 {} func287 [pf (.sl ko)] [(true,(.sl (.own none) ko))] (c1 xx)
def atr:=atq.q0 {sb:=mg [(2,2)]} func288 [pf Hb] [(true,(.pair .str (.sl (.own none) (.int .i64))))] (c1 vC)
def asj:=atr.q0 {sb:=mg [(2,2)]} func190 [pf tc] [(true,Y27)] (c1 rU)
def asl:=asj.q0 {} func191 [pd (.sl fT)] [(false,(.sl (.own none) fT))] (c1 lW)
abbrev am7:SD:=⟨B::.ptr 1 0::.ptr 2 0::.ptr 3 0::bs 23 (cC (ju lI)::DI::DI::bs 46 []),Z::(some Y6)::(some Y3)::(qw (cO (cQ 36865 .str) (cO (cQ 36868 bX) (cO (cO Y0 (cO (kC (kC (kC (cQ 36892 (.int .i64))))) (cO (cQ 36895 lJ) Fs))) (cO (cQ 36901 fC) (cO (cQ 36904 lI) (cO (ju ie) (cO (ju .bool) (cO Y25 (cO Y22 (cO (ju fT) (cO .bool (cO (ju .str) (cO (ju (.int .i64)) (cO (ju (.int .i64)) (cO Fs Y0))))))))))))))))::zs 72 [],.none⟩
def G88:=asl.q1 {mask:=mk [(8,[1,2,3,27,28,29])],mv:=[34,75],mb:=mg [(34,3)],sb:=mg [(39,3)]} func88 [pf dL] [(true,Y2)] (c1 ic) am7 (λX K=>tO (λy0 y1=>ke 0 K am7 ((z2 (u y0) X.1),(z2 (u y1) X.2.1),X.2.2)) X.1.1 X.1.2.1 X.2.1.1 X.2.1.2.1) (λX=>(q2 X,X.2.1.2.2.1)) (λX x=>((z2 (u x.1) X.1),(z2 (u x.2) X.2.1),X.2.2))
abbrev amX:SD:=⟨B::B::.ptr 2 0::.ptr 3 0::bs 21 (cC (ju dL)::DI::DI::bs 12 []),Z::Z::(some Y10)::(qw (cO (cQ 36865 dL) (cO (cQ 36868 ca) (cO (cQ 36871 fb) (cO (cQ 36874 .str) (cO Y0 (cO (cQ 36889 (.int .i64)) (cQ 36892 .str))))))))::zs 36 [],.none⟩
def G28:=G88.q1 {mask:=mk [(3,[2,3,25,26,27])],mv:=[32,39],mb:=mg [(32,3)],sb:=mg [(3,3),(37,3)]} func28 [pf wj] [(true,Y5)] (c1 kj) amX (λX K=>tN (λy0 y1=>ke 0 K amX ((z2 (u y0) X.1),(z1 (u y1) X.2.1),X.2.2)) X.1.1 X.1.2.1 X.2.1.1) (λX=>(q2 X,X.2.1.2.1)) (λX x=>((z2 (u x.1) X.1),(z1 (u x.2) X.2.1),X.2.2))
def asp:=G28.q0 {merge:=mg [(1,9)]} func197 [pf ie] [(true,Y17)] (c1 qh)
def G94:=asp.q0 {} func94 [pf ie] [(true,Y17)] (c1 vB)
abbrev am0:SD:=⟨B::B::.ptr 2 0::.ptr 3 0::bs 9 (DI::DI::bs 14 []),Z::Z::(some Y3)::(some Y4)::zs 25 [],.none⟩
def G32:=G94.q1 {mask:=mk [(5,[2,3,13,14])],mv:=[10,28]} func32 [pf dL] [(true,Y2)] (c1 uL) am0 (λX K=>tw (λy0 y1=>ke 0 K am0 ((z1 (u y0) X.1),(z1 (u y1) X.2.1),X.2.2)) X.1.1 X.2.1.1) (λX=>(X.1.2.1,X.2.1.2.1)) (λX x=>((z1 (u x.1) X.1),(z1 (u x.2) X.2.1),X.2.2))
def arI:=G32.q0 {merge:=mg [(1,12),(3,31),(5,2)]} func122 [pf als] [rB] (c1 Ck)
def G45:=arI.q0 {merge:=mg [(1,4)]} func45 [pf gV,pI] [rB] (c2 oT)
def aur:=G45.q0 {merge:=mg [(2,17)],mv:=[18,29]} func377 [pf pR,pI] [(true,Y19),rB] (c2 Ba)
abbrev ait:SD:=⟨B::DI::B::B::.ptr 4 0::B::.ptr 6 0::bs 18 (cC (ju (.int .i64))::DI::DI::bs 14 []),zs 4 ((qw (kC (cO .bool (cQ 49159 (.int .i64)))))::Z::(qw (kC (cO .bool (cQ 73735 (.int .i64)))))::zs 35 []),.none⟩
def aus:=aur.q1 {mask:=mk [(6,[1,4,6,25,26,27])],merge:=mg [(2,20)],mv:=[21,35,41]} func378 [pf pR,pI] [(true,Y19),rB] (c2 yW) ait (λX K=>tp (λy0 y1=>ke 0 K ait ((z3 (u y0) X.1),(z1 (u y1) X.2.1),X.2.2)) X.1.1 X.1.2.1 (q2 X) X.2.1.1) (λX=>(q3 X,X.2.1.2.1)) (λX x=>((z3 (u x.1) X.1),(z1 (u x.2) X.2.1),X.2.2))
def atL:=aus.q0 {mv:=[21,30,39,46],mb:=mg [(39,6)],sb:=mg [(4,4)]} func310 [pf pR,pf jh] [(true,Y19),rI] (c2 Bh)
def asM:=atL.q0 {mv:=[13,20,30,31,47],mb:=mg [(20,6),(47,6)],sb:=mg [(4,4)],fm:=[49]} func221 [pf fb,pf jh] [(true,(.pair Y19 Y8)),rI] (c2 pW)
def arJ:=asM.q0 {mv:=[14,23,32,60],es:=mg [(25,8)]} func123 [pd (.sl fb),pI,pf jh] [(false,(.sl (.own none) fb)),rI] (c3 rR)
def G46:=arJ.q0 {merge:=mg [(2,24)],mv:=[25,26,34,47]} func46 [pf wj,pI,pf jh] [(true,Y5),rI] (c3 pU)
def anN:=G46.q0 {merge:=mg [(5,2),(7,2)]} func222 [pf sm] [rB] (c1 tt)
def apa:An:={mask:=mk [(7,[2,4,6,7,8,9]),(11,[2,4,6,7,8,10])],merge:=mg [(2,24)],mv:=[25,74]}
abbrev Uz:SD:=⟨B::B::DI::B::.ptr 4 0::B::.ptr 6 0::.ptr 7 0::cC (cQ 98304 (.int .u8))::DI::bs 65 [],zs 4 ((some Y21)::Z::(qw (cQ 73729 .str))::(qw (cQ 86017 .str))::zs 67 []),.none⟩
def akK (X:SD.D Uz)(K:sg R):=uw (λy0 y1=>ke 0 K Uz ((z1 (w y0 (u y1)) X.1),X.2)) X.1.1 X.2.1.1 X.2.1.2.1 X.2.1.2.2.1
abbrev Od:SD:=⟨B::B::DI::B::.ptr 4 0::B::.ptr 6 0::.ptr 7 0::cC (cQ 98304 (.int .u8))::B::DI::bs 64 [],zs 4 ((some Y21)::Z::(qw (cQ 73729 .str))::(qw (cQ 86017 .str))::zs 67 []),.none⟩
def aeC (X:SD.D Od)(K:sg R):=sD (λy0 y1=>ke 2 K Od ((z1 (w y0 (u y1)) X.1),X.2)) X.1.1 X.2.1.1 X.2.1.2.1 X.2.1.2.2.1
def apV:lZ:=(lZ.nil.add 7 (yi Uz akK (λX=>(X.1.2.1,q2 X)))).add 11 (yi Od aeC (λX=>(X.1.2.1,q2 X)))
theorem aoG:wO E anN.g apa apV (cz f125 0):=lk Uz akK (λX=>(X.1.2.1,q2 X)) λX x=>((z1 (w x.1 (u x.2)) X.1),X.2)
theorem ama:wO E anN.g apa apV (cz f125 1):=lk Od aeC (λX=>(X.1.2.1,q2 X)) λX x=>((z1 (w x.1 (u x.2)) X.1),X.2)
def arL:=anN.qk apa func125 [pf (.sl .str),pf sm,pI] [(true,(.sl (.own none) .str))] (c3 lS) (cF aoG (cF ama nF))
abbrev am1:SD:=⟨B::cC (ju sm)::DI::DI::bs 4 (.ptr 8 0::.ptr 9 0::DI::bs 38 []),zs 8 ((qw (cQ 98305 .str))::(qw (cQ 110593 .str))::zs 39 []),.none⟩
def G47:=arL.q1 {mask:=mk [(5,[1,2,3,8,9,10])],merge:=mg [(2,18),(5,28)],mv:=[19,48],sb:=mg [(9,9)]} func47 [pf (.sl .str),pd (.sl sm),pI,pI] [(true,(.sl (.own none) .str))] (c4 xq) am1 (λX K=>xr (λy0 y1=>ke 0 K am1 ((z3 (u y0) X.1),(z1 (u y1) X.2.1),X.2.2)) X.1.1 X.1.2.1 (q2 X) X.2.1.1) (λX=>(q3 X,X.2.1.2.1)) (λX x=>((z3 (u x.1) X.1),(z1 (u x.2) X.2.1),X.2.2))
abbrev am2:SD:=⟨B::cC .str::B::B::B::DI::cC (cQ 73728 sm)::DI::bs 49 [],zs 57 [],.none⟩
def G48:=G47.q1 {mask:=mk [(8,[1,5,6,7])],merge:=mg [(1,20)],mv:=[33,47]} func48 [pf (.sl .str),pd .str] [(false,(.sl (.own none) sm))] (c2 tK) am2 (λX K=>lg (λy0 y1=>ke 0 K am2 ((z2 (w y0 (u y1)) X.1),X.2)) X.1.1 X.1.2.1) (λX=>(q2 X,q3 X)) (λX x=>((z2 (w x.1 (u x.2)) X.1),X.2))
def aty:=G48.q0 {merge:=mg [(4,29)]} func296 [pd (.sl bX),pI,pI,pd .bool] [rI] (c4 EY)
def atz:=aty.q0 {merge:=mg [(2,6)]} func297 [pf (.sl .str),pI,pI] [rB] (c3 wB)
abbrev aaQ:SD:=⟨cC (ju bX)::B::DI::DI::DI::DB::B::.ptr 7 0::bs 4 (cC (cQ 147456 jB)::DB::cC (cQ 172032 jB)::bs 60 []),zs 7 ((qw (ju .str))::zs 67 []),.none⟩
def asu:=atz.q1 {mask:=mk [(8,[0,2,3,4,5,7,12,13,14])],merge:=mg [(1,29),(11,55),(16,73)],mv:=[56,74]} func202 [pd (.sl bX),pf (.sl .str),pI,pI,pI,pd .bool] [(false,(.sl (.own none) jB)),rB] (c6 Ae) aaQ (λX K=>sJ (λy0 y1 y2=>ke 0 K aaQ ((z2 (w y0 (w y1 (z3 (u y2)))) X.1),X.2)) (λy0 y1 y2 y3 y4=>kr K aaQ ((z2 (w y0 (w y1 (z1 (w y2 (w y3 (u y4)))))) X.1),X.2)) X.1.1 X.1.2.1 (q4 X) (q5 X) (q6 X) X.2.1.1) (λX=>(q2 X,q3 X,q7 X)) (λX x=>((z2 (w x.1 (w x.2.1 (z3 (u x.2.2)))) X.1),X.2))
abbrev aia:SD:=⟨B::DI::DI::.ptr 3 0::bs 4 (cC (cQ 98304 (.int .u8))::bs 41 []),Z::Z::Z::(qw (ju .str))::zs 46 [],.none⟩
def asv:=asu.q1 {mask:=mk [(4,[1,2,3,8])],mv:=[41]} func203 [pf (.sl .str),pI,pI] [rS,rB] (c3 qH) aia (λX K=>mm (λy0 y1=>ke 0 K aia ((w y0 (z1 (u y1)) X.1),X.2)) X.1.2.1 X.2.1.1) (λX=>(X.1.1,q2 X)) (λX x=>((w x.1 (z1 (u x.2)) X.1),X.2))
abbrev am8:SD:=⟨bs 6 (.ptr 6 0::bs 7 (cC .str::bs 15 (cC (.sl .loc jB)::DI::DI::bs 17 []))),zs 6 ((qw (ju .str))::zs 43 []),.none⟩
def G98:=asv.q1 {mask:=mk [(6,[6,14,30,31,32])]} func98 [pd (.sl bX),pf (.sl .str),pI,pI,pI] [rS,rB] (c5 pV) am8 (λX K=>vt (λy0 y1=>ke 0 K am8 ((w y0 (z2 (u y1)) X.1),X.2)) X.1.2.1 (q2 X) X.2.1.1) (λX=>(X.1.1,q3 X)) (λX x=>((w x.1 (z2 (u x.2)) X.1),X.2))
def G99:=G98.q0 {} func99 [pf jh] [rI] (c1 oX)
def asw:=G99.q0 {merge:=mg [(1,13)]} func204 [pd .str,pI] [rI] (c2 fV)
def aro:=asw.q0 {} func100 [pd .str] [(true,(.pair (.int .i64) Y0)),rI,rB] (c1 mD)
def arp:=aro.q0 {} func101 [pf jh] [rI] (c1 xA)
def G34:=arp.q0 {merge:=mg [(7,46)],sb:=mg [(8,8),(9,9)]} func34 [pd (.sl bX),pf (.sl .str),pI,pf jh] [(true,(.pair (.int .i64) Y0)),(true,Y8),rB] (c4 oq)
def atN:=G34.q0 {merge:=mg [(1,2)]} func312 [pf pM] [rB] (c1 Aa)
def atO:=atN.q0 {} func313 [pI] [rS] (c1 cx)
def asP:=atO.q0 {} func225 [pf pM] [rS] (c1 mU)
def asQ:=asP.q0 {merge:=mg [(1,15)]} func226 [pf lI,pI] [rI] (c2 gI)
def ats:=asQ.q0 {merge:=mg [(1,11)]} func289 [pf jK,pI] [rI] (c2 oS)
abbrev aik:SD:=⟨B::DI::cC .str::B::B::B::.ptr 6 0::B::.ptr 8 0::bs 41 [],zs 6 ((qw (cQ 73729 .str))::Z::(qw (cQ 98305 .str))::zs 41 []),.none⟩
def atM:=ats.q1 {mask:=mk [(4,[1,2,6,8])],nest:=[33],mv:=[19,49]} func311 [pf (.sl .str),pI,pd .str] [(true,(.sl (.own none) .str)),rB] (c3 tL) aik (λX K=>ow (λy0 y1 y2=>ke 0 K aik ((w y0 (u y1) X.1),(z1 (u y2) X.2.1),X.2.2)) X.2.1.1) (λX=>(X.1.1,X.1.2.1,X.2.1.2.1)) (λX x=>((w x.1 (u x.2.1) X.1),(z1 (u x.2.2) X.2.1),X.2.2))
abbrev aic:SD:=⟨bs 4 (cC .str::bs 7 (.ptr 12 0::B::.ptr 14 0::bs 20 (cC (.sl .loc jB)::DI::DI::bs 20 []))),zs 12 ((qw (cQ 147457 .str))::Z::(qw (cQ 172033 .str))::zs 43 []),.none⟩
def asO:=atM.q1 {mask:=mk [(6,[4,12,14,35,36,37])],mv:=[34,41,50,57],sb:=mg [(14,14)]} func224 [pd (.sl bX),pf (.sl .str),pI,pI,pd .str,pd .bool] [(true,(.sl (.own none) .str)),rB] (c6 Gy) aic (λX K=>Ad (λy0 y1 y2=>ke 0 K aic ((w y0 (z2 (u y1)) X.1),(z1 (u y2) X.2.1),X.2.2)) X.1.2.1 (q2 X) X.2.1.1) (λX=>(X.1.1,q3 X,X.2.1.2.1)) (λX x=>((w x.1 (z2 (u x.2.1)) X.1),(z1 (u x.2.2) X.2.1),X.2.2))
def atu:=asO.q0 {} func291 [pd (.sl bX),pf (.sl .str),pI,pI,pd .str] [(true,(.sl (.own none) .str)),rB] (c5 re)
def atP:=atu.q0 {} func314 [pf jK] [rI] (c1 uP)
def asR:=atP.q0 {merge:=mg [(1,22)],mv:=[26,36,40,50],mb:=mg [(40,13),(50,13)],sb:=mg [(10,10),(11,11),(13,13)]} func227 [pd (.sl bX),pf (.sl .str),pI,pf jK,pd .str] [(true,(.sl (.own none) .str)),(true,Y0),rB] (c5 xp)
abbrev ah5:SD:=⟨cC (ju bX)::B::DI::bs 5 (.ptr 8 0::.ptr 9 0::.ptr 10 0::.ptr 11 0::.ptr 12 0::B::.ptr 14 0::.ptr 15 0::DI::bs 22 (cC (ju (.int .i64))::DI::DI::bs 38 [])),zs 8 ((some Y0)::(some Y18)::(qw (cQ 122881 .str))::(some Y0)::(some Y29)::Z::(qw (cQ 172033 .str))::(some Y28)::zs 64 []),.none⟩
def arQ:=asR.q1 {mask:=mk [(6,[0,2,8,9,10,11,12,14,15,16,39,40,41])],merge:=mg [(2,34)],mv:=[35,37,53,65,76,78],mb:=mg [(35,14),(37,15),(65,20),(76,14),(78,15)],sb:=mg [(8,8),(10,10),(11,11),(12,12),(14,14),(15,15)]} func131 [pd (.sl bX),pf (.sl .str),pI,pf jK,pf lI] [(true,(.sl (.own none) .str)),(true,Y0),(true,Y11),rI] (c5 jf) ah5 (λX K=>oL (λy0 y1 y2 y3=>ke 0 K ah5 ((z2 (w y0 (z2 (u y1))) X.1),(w y2 (z4 (u y3)) X.2.1),X.2.2)) X.1.1 X.1.2.1 (q3 X) (q4 X) X.2.1.2.1 X.2.1.2.2.1 X.2.1.2.2.2.1 X.2.1.2.2.2.2.1 X.2.1.2.2.2.2.2.2.1) (λX=>(q2 X,q5 X,X.2.1.1,X.2.1.2.2.2.2.2.1)) (λX x=>((z2 (w x.1 (z2 (u x.2.1))) X.1),(w x.2.2.1 (z4 (u x.2.2.2)) X.2.1),X.2.2))
def auy:=arQ.q0 {merge:=mg [(1,2)]} func383 [pf ahH] [rB] (c1 Cm)
def atS:=auy.q0 {merge:=mg [(4,33)],sb:=mg [(4,4)]} func317 [pd .str] [(true,(.pair (.int .i64) Y21)),rB] (c1 uN)
def au1:=atS.q0 {merge:=mg [(1,12)]} func447 [pI,pI] [rI] (c2 AZ)
abbrev aiy:SD:=⟨cC .str::B::B::DI::DI::bs 28 [],zs 33 [],.none⟩
def auT:=au1.q1 {mask:=mk [(3,[0,3,4])]} func424 [pd .str] [rI] (c1 zv) aiy (λX K=>tG (λy0 y1=>ke 0 K aiy ((z1 (w y0 (u y1)) X.1),X.2)) X.1.1) (λX=>(X.1.2.1,q2 X)) (λX x=>((z1 (w x.1 (u x.2)) X.1),X.2))
def auB:=auT.q0 {} func386 [pd .str] [rI] (c1 kf)
def auC:=auB.q0 {merge:=mg [(1,17)]} func387 [pd .str,pI,pd .str] [rS] (c3 gB)
def auU:=auC.q0 {merge:=mg [(1,2)]} func425 [pf TIp] [rB] (c1 LN)
def auE:=auU.q0 {} func389 [pf TIp] [rS,rB] (c1 ze)
def atW:=auE.q0 {} func321 [pf TIp] [rS,rB] (c1 xb)
def atT:=atW.q0 {merge:=mg [(2,22),(6,56)],sb:=mg [(5,5)]} func318 [pd .str] [(true,Y24),rB] (c1 Be)
def auz:=atT.q0 {} func384 [pf DX] [rS] (c1 tM)
def auA:=auz.q0 {merge:=mg [(1,27)]} func385 [pI,pI,pI,pI] [rS,rB] (c4 rN)
def auD:=auA.q0 {} func388 [pI] [rI] (c1 gi)
def atV:=auD.q0 {merge:=mg [(8,39)]} func320 [pI,pI,pf DX] [rS,rB] (c3 kF)
def atU:=atV.q0 {merge:=mg [(3,20),(9,44),(12,68)]} func319 [pI,pI,pI,pd .str] [(true,(.pair (.int .i64) Y24)),rB] (c4 rM)
def asV:=atU.q0 {merge:=mg [(2,20)]} func231 [pd .str] [(true,Y1),rI] (c1 jm)
def atw:=asV.q0 {} func293 [pf dp] [(true,(.pair (.int .i64) Y0))] (c1 wA)
abbrev aa3:SD:=⟨B::B::B::.ptr 3 0::DI::B::B::cC (ju fT)::DI::DI::bs 10 [],Z::Z::Z::(qw (cO Fs Y0))::zs 16 [],.none⟩
def aun:=atw.q1 {mask:=mk [(2,[3,4,7,8,9])]} func373 [pd (.sl fT),pf uC] [rI] (c2 tF) aa3 (λX K=>ou (λy0=>ke 0 K aa3 ((z3 (u y0) X.1),X.2)) (λy0 y1=>kr K aa3 ((w y0 (z2 (u y1)) X.1),X.2)) X.1.1 X.1.2.1 (q2 X) X.2.1.1) q3 (λX x=>((z3 (u x) X.1),X.2))
def atx:=aun.q0 {merge:=mg [(17,82)],mv:=[16,31,51,58,67,83,132],er:=mg [(115,5)]} func295 [pd (.sl fT),pf dp] [(false,(.sl (.own none) fT))] (c2 Bb)
abbrev ah9:SD:=⟨cC (ju bX)::B::DI::B::B::B::DI::B::B::B::.ptr 10 0::B::B::B::.ptr 14 0::.ptr 15 0::.ptr 16 0::B::B::.ptr 19 0::.ptr 20 0::cC (cQ 258048 fT)::DI::bs 99 [],zs 10 ((some Y20)::Z::Z::Z::(qw (cQ 172033 .str))::(some Y20)::(qw (kC (kC (kC (cQ 196618 (.int .i64))))))::Z::Z::(qw (cQ 233473 .str))::(qw (kC (kC (kC (cQ 245770 (.int .i64))))))::zs 101 []),.none⟩
def apM:=atx.q1 {mask:=mk [(5,[0,2,6,10,14,15,16,19,20,21,22])],merge:=mg [(2,48)],mv:=[49,51,52,96,104,117,119,120],mb:=mg [(49,19),(51,20),(117,19),(119,20)],sb:=mg [(14,14),(15,15),(16,16),(19,19),(20,20)]} func196 [pd (.sl bX),pf (.sl .str),pI,pf fC,pf lI,pd (.sl fT),pI] [(true,(.sl (.own none) .str)),(true,Y20),(true,Y11),(false,(.sl (.own none) fT)),rI] (c7 xn) ah9 (λX K=>nq (λy0 y1 y2 y3=>ke 0 K ah9 ((z3 (w y0 (u y1)) X.1),(w y2 (z4 (u y3)) X.2.1),X.2.2)) X.1.1 X.1.2.1 (q2 X) X.2.1.2.1 X.2.1.2.2.1 X.2.1.2.2.2.1 X.2.1.2.2.2.2.1) (λX=>(q3 X,q4 X,X.2.1.1,X.2.1.2.2.2.2.2.1)) (λX x=>((z3 (w x.1 (u x.2.1)) X.1),(w x.2.2.1 (z4 (u x.2.2.2)) X.2.1),X.2.2))
def e92:lr:=kO (.pair (.sl (.own none) .str) (.pair (.sl (.own none) bX) (.pair (.pair (.pair (.int .i64) (.pair (.int .i64) (.pair (.int .i64) (.int .i64)))) (.pair (.pair (.int .i64) (.pair (.int .i64) (.pair (.int .i64) (.sl (.own none) (.int .i64))))) (.pair (.sl (.own none) lJ) (.int .i64)))) (.pair (.sl (.own none) fC) (.pair (.sl (.own none) lI) (.pair (.sl (.own none) ie) (.pair (.sl (.own none) .bool) (.pair (.pair (.int .i64) (.pair .bool (.sl (.own none) (.int .i64)))) (.pair (.pair (.sl (.own none) nW) (.pair (.sl (.own none) ko) (.pair .str (.sl (.own none) (.int .i64))))) (.pair (.sl (.own none) fT) (.pair .bool (.pair (.sl (.own none) .str) (.pair (.sl (.own none) (.int .i64)) (.pair (.sl (.own none) (.int .i64)) (.pair (.int .i64) (.pair (.int .i64) (.pair (.int .i64) (.pair (.int .i64) (.int .i64))))))))))))))))))) [pI,pI] [rI] λx a=>lM x a.1 a.2.1
theorem o92:Li 92 e92:=iZ.sQ (sv (an:={mv:=[8,49,51,52],sb:=mg [(55,0),(59,0)],fm:=[19,20],eb:=mg [(56,0),(57,0)]}) (Λ:=lZ.nil) (apM.s) func92 (by kernel_rfl) (ao nF)) (λx a=>by kernel_rfl)
def G92:=apM.add o92
abbrev aib:SD:=⟨B::B::DI::B::B::B::.ptr 6 0::B::.ptr 8 0::DI::bs 20 [],zs 6 ((some Y31)::Z::(some Y30)::zs 21 []),.none⟩
def asN:=G92.q1 {mask:=mk [(5,[2,6,8,9])],mv:=[24,29]} func223 [pI,pI,pI] [(true,Y11),rB] (c3 xm) aib (λX K=>vw (λy0 y1=>ke 0 K aib ((z1 (u y0) X.1),(z1 (u y1) X.2.1),X.2.2)) X.1.1 X.2.1.1) (λX=>(X.1.2.1,X.2.1.2.1)) (λX x=>((z1 (u x.1) X.1),(z1 (u x.2) X.2.1),X.2.2))
def arM:=asN.q0 {mv:=[3,8]} func126 [] [(true,Y23)] (λa=>EX)
def arN:=arM.q0 {} func127 [pd (.sl bX),pf (.sl .str),pI,pI,pd .str] [(true,(.sl (.own none) .str)),rB] (c5 kz)
def arO:=arN.q0 {} func128 [pI] [rI] (c1 sK)
abbrev ah4:SD:=⟨cC (.int .u8)::bs 4 (cC (cQ 61440 (.int .u8))::bs 4 (DI::DI::bs 9 [])),zs 21 [],.none⟩
def arP:=arO.q1 {mask:=mk [(3,[0,5,10,11])]} func129 [pd (.int .u8),pI] [rS] (c2 pO) ah4 (λX K=>xB (λy0 y1=>ke 0 K ah4 ((z1 (w y0 (z1 (u y1))) X.1),X.2)) X.1.1 (q2 X)) (λX=>(X.1.2.1,q3 X)) (λX x=>((z1 (w x.1 (z1 (u x.2))) X.1),X.2))
def alo:=arP.q0 {mv:=[10,24],mb:=mg [(24,5)],sb:=mg [(2,2),(3,3)]} func130 [pI] [(true,Y20),(true,Y11)] (c1 yB)
def n49:An:={mask:=mk [(5,[2,3,21,22]),(10,[2,3,30,31,32]),(18,[2,3,54,55])],mv:=[18,37,88,98,121,142],sb:=mg [(90,3)]}
abbrev adz:SD:=⟨B::B::.ptr 2 0::.ptr 3 0::bs 17 (DI::DI::bs 120 []),Z::Z::(some Y3)::(some Y4)::zs 139 [],.none⟩
def anz (X:SD.D adz)(K:sg R):=rK (λy0 y1=>ke 0 K adz ((z1 (u y0) X.1),(z1 (u y1) X.2.1),X.2.2)) X.1.1 X.2.1.1
abbrev UT:SD:=⟨B::B::.ptr 2 0::.ptr 3 0::bs 26 (cC (.sl .loc lJ)::DI::DI::bs 110 []),Z::Z::(some Y3)::(some Y4)::zs 139 [],.none⟩
def ak7 (X:SD.D UT)(K:sg R):=pX (λy0 y1=>ke 2 K UT ((z2 (u y0) X.1),(z1 (u y1) X.2.1),X.2.2)) X.1.1 X.1.2.1 X.2.1.1
abbrev UU:SD:=⟨B::B::.ptr 2 0::.ptr 3 0::bs 50 (DI::DI::bs 87 []),Z::Z::(some Y3)::(some Y4)::zs 139 [],.none⟩
def ak8 (X:SD.D UU)(K:sg R):=mj (λy0 y1=>ke 4 K UU ((z1 (u y0) X.1),(z1 (u y1) X.2.1),X.2.2)) X.1.1 X.2.1.1
def L49:lZ:=((lZ.nil.add 5 (yi adz anz (λX=>(X.1.2.1,X.2.1.2.1)))).add 10 (yi UT ak7 (λX=>(q2 X,X.2.1.2.1)))).add 18 (yi UU ak8 (λX=>(X.1.2.1,X.2.1.2.1)))
theorem aq1:wO E alo.g n49 L49 (cz f49 0):=lk adz anz (λX=>(X.1.2.1,X.2.1.2.1)) λX x=>((z1 (u x.1) X.1),(z1 (u x.2) X.2.1),X.2.2)
theorem ao3:wO E alo.g n49 L49 (cz f49 1):=lk UT ak7 (λX=>(q2 X,X.2.1.2.1)) λX x=>((z2 (u x.1) X.1),(z1 (u x.2) X.2.1),X.2.2)
theorem ao4:wO E alo.g n49 L49 (cz f49 2):=lk UU ak8 (λX=>(X.1.2.1,X.2.1.2.1)) λX x=>((z1 (u x.1) X.1),(z1 (u x.2) X.2.1),X.2.2)
def G49:=alo.qk n49 func49 [pf dL] [(true,Y2)] (c1 sE) (cF aq1 (cF ao3 (cF ao4 nF)))
def G50:=G49.q0 {} func50 [pf (.sl .str)] [rI] (c1 tk)
def asW:=G50.q0 {merge:=mg [(1,2)]} func232 [pf dp] [rB] (c1 kh)
def auF:=asW.q0 {} func390 [pI] [rS] (c1 zw)
def atX:=auF.q0 {} func322 [pf ahH] [rS,rB] (c1 yU)
def atY:=atX.q0 {} func323 [pd .str] [rS] (c1 Bd)
def asX:=atY.q0 {} func233 [pf dp] [rS,rB] (c1 ia)
def atR:=asX.q0 {} func316 [pd .str] [rS] (c1 xv)
def as0:=atR.q0 {} func237 [pf dp] [rS,rB] (c1 qC)
abbrev aie:SD:=⟨B::B::B::cC (cQ 36864 .str)::bs 5 (cC (ju dp)::DI::DI::bs 15 []),zs 27 [],.none⟩
def atk:=as0.q1 {mask:=mk [(3,[3,9,10,11])],mv:=[21,26]} func276 [pd (.sl dp)] [(false,(.sl (.own none) .str))] (c1 za) aie (λX K=>oN (λy0 y1=>ke 0 K aie ((w y0 (z2 (u y1)) X.1),X.2)) X.1.2.1 (q2 X)) (λX=>(X.1.1,q3 X)) (λX x=>((w x.1 (z2 (u x.2)) X.1),X.2))
abbrev aif:SD:=⟨B::DI::.ptr 2 0::B::B::cC .str::cC (cQ 73728 dp)::DI::bs 80 [],Z::Z::(some Y1)::zs 85 [],.none⟩
def atl:=atk.q1 {mask:=mk [(8,[1,2,5,6,7])],merge:=mg [(1,17),(4,30)],mv:=[83,87]} func277 [pf dp,pI] [(false,(.sl (.own none) dp))] (c2 EW) aif (λX K=>zj (λy0 y1=>ke 0 K aif ((z2 (w y0 (u y1)) X.1),X.2)) X.1.1 X.1.2.1 X.2.1.1) (λX=>(q2 X,q3 X)) (λX x=>((z2 (w x.1 (u x.2)) X.1),X.2))
def ar9:=atl.q0 {} func174 [pf dp,pI] [(false,(.sl (.own none) .str))] (c2 vy)
def asm:=ar9.q0 {merge:=mg [(1,20)],sb:=mg [(9,9)]} func192 [pd (.sl bX),pf (.sl .str),pI,pf jK] [rS,(true,Y0),rB] (c4 uQ)
def att:=asm.q0 {sb:=mg [(4,4)]} func290 [pd .str] [(true,(.pair (.int .i64) (.pair (.int .i64) Y0))),rB] (c1 qD)
abbrev aa4:SD:=⟨cC (ju bX)::B::DI::B::B::.ptr 5 0::B::.ptr 7 0::cC (cQ 98304 pM)::.ptr 9 0::DB::.ptr 11 0::cC (cQ 147456 pM)::bs 57 [],zs 5 ((qw (ju .str))::Z::(some Y0)::Z::(some Y0)::Z::(some Y0)::zs 58 []),.none⟩
def aut:=att.q1 {mask:=mk [(6,[0,2,5,7,8,9,10,11,12])],merge:=mg [(1,24),(15,67)],mv:=[55,68],sb:=mg [(9,9)]} func379 [pd (.sl bX),pf (.sl .str),pI,pf jK] [(false,(.sl (.own none) pM)),(true,Y0),rB] (c4 xt) aa4 (λX K=>nu (λy0 y1=>ke 0 K aa4 ((z4 (u y0) X.1),(z1 (u y1) X.2.1),X.2.2)) (λy0 y1 y2 y3 y4=>kr K aa4 ((z2 (w y0 (w y1 (u y2))) X.1),(z1 (w y3 (u y4)) X.2.1),X.2.2)) X.1.1 X.1.2.1 (q2 X) (q3 X) X.2.1.1 X.2.1.2.2.1 X.2.1.2.2.2.1) (λX=>(q4 X,X.2.1.2.1)) (λX x=>((z4 (u x.1) X.1),(z1 (u x.2) X.2.1),X.2.2))
abbrev aa7:SD:=⟨cC (ju jB)::B::DB::B::B::cC (ju jB)::DI::DI::bs 16 [],zs 24 [],.none⟩
def ahD:=aut.q1 {mask:=mk [(2,[0,2,5,6,7])],merge:=mg [(4,19)]} func392 [pd (.sl jB)] [rB] (c1 uO) aa7 (λX K=>tA (λy0=>ke 0 K aa7 ((z4 (u y0) X.1),X.2)) (λy0 y1=>kr K aa7 ((z1 (w y0 (z2 (u y1))) X.1),X.2)) X.1.1 X.1.2.1 (q2 X) (q3 X)) q4 (λX x=>((z4 (u x) X.1),X.2))
def avh:lr:=F8 [pd (.sl jB),pI,pI] [(false,(.sl (.own none) pM))] [(false,(.sl .nil pM))] rfl λa=>js a.1 a.2.1 a.2.2.1
def apk:An:={mask:=mk [(5,[0,2,7,30,31,32]),(13,[6,7,54,55,56])],merge:=mg [(1,25)],nils:=[6],mv:=[49,64]}
abbrev UQ:SD:=⟨cC (ju jB)::B::DI::bs 4 (cC (cQ 86016 pM)::bs 22 (cC (ju jB)::DI::DI::bs 32 [])),zs 65 [],.none⟩
def ak3 (X:SD.D UQ)(K:sg R):=lA (λy0 y1=>ke 0 K UQ ((z2 (w y0 (z2 (u y1))) X.1),X.2)) X.1.1 X.1.2.1 (q3 X) (q4 X)
abbrev Oh:SD:=⟨bs 7 (cC (cQ 86016 pM)::bs 46 (cC (.sl .loc pM)::DI::DI::bs 8 [])),zs 65 [],.none⟩
abbrev aaZ:SD:=⟨bs 6 (cC (.sl .nil pM)::cC (cQ 86016 pM)::bs 46 (cC (.sl .loc pM)::DI::DI::bs 8 [])),zs 65 [],.none⟩
def aeI (X:SD.D Oh)(K:sg R):=kH (λy0=>ke 2 K Oh ((z3 (u y0) X.1),X.2)) (λy0 y1=>kr K aaZ ((y0,(X.1.1,(X.1.2.1,(X.1.2.2.1,(y1,()))))),(),())) X.1.1 X.1.2.1 (q2 X)
def anW:lZ:=(lZ.nil.add 5 (yi UQ ak3 (λX=>(q2 X,q5 X)))).add 13 (yi Oh aeI q3)
theorem aoZ:wO E ahD.g apk anW (cz f328 0):=lk UQ ak3 (λX=>(q2 X,q5 X)) λX x=>((z2 (w x.1 (z2 (u x.2))) X.1),X.2)
theorem amg:wO E ahD.g apk anW (cz f328 1):=lk Oh aeI q3 λX x=>((z3 (u x) X.1),X.2)
theorem av7:Li 328 avh:=iZ.ofAlt (aiT (Γ:=ahD.g) (an:=apk) (Λ:=anW) (by rfl) (ahD.s) func328 (by kernel_rfl) (ao (cF aoZ (cF amg nF)))) (λa=>by kernel_rfl)
def anU:=ahD.add av7
def apl:An:={mask:=mk [(5,[0,6,18,19,20]),(14,[0,2,3,4,5,6,9,10,11,51,52])],mv:=[24,65]}
abbrev US:SD:=⟨cC (ju pM)::bs 5 (cC (cQ 73728 jB)::bs 11 (cC (ju pM)::DI::DI::bs 47 [])),zs 68 [],.none⟩
def ak6 (X:SD.D US)(K:sg R):=mF (λy0 y1=>ke 0 K US ((z1 (w y0 (z2 (u y1))) X.1),X.2)) X.1.1 (q2 X) (q3 X)
abbrev Oi:SD:=⟨cC (ju pM)::bs 5 (cC (cQ 73728 jB)::B::B::DI::DI::cC (cQ 135168 pM)::bs 39 (DI::DI::bs 15 [])),zs 68 [],.none⟩
abbrev aa5:SD:=⟨cC (ju pM)::B::cC (cQ 24576 jB)::DI::DI::DB::cC (cQ 73728 jB)::B::B::DI::DI::cC (cQ 135168 pM)::bs 39 (DI::DI::bs 15 []),zs 68 [],.none⟩
def aeJ (X:SD.D Oi)(K:sg R):=ij (λy0=>ke 2 K Oi ((z6 (u y0) X.1),X.2)) (λy0 y1 y2 y3 y4=>kr K aa5 ((X.1.1,(y0,(y1,(y2,(y3,(X.1.2.1,(X.1.2.2.1,(X.1.2.2.2.1,(X.1.2.2.2.2.1,(X.1.2.2.2.2.2.1,(y4,()))))))))))),(),())) X.1.1 X.1.2.1 (q2 X) (q3 X) (q4 X) (q5 X)
def ap7:lZ:=(lZ.nil.add 5 (yi US ak6 (λX=>(X.1.2.1,q4 X)))).add 14 (yi Oi aeJ q6)
theorem ao2:wO E anU.g apl ap7 (cz f380 0):=lk US ak6 (λX=>(X.1.2.1,q4 X)) λX x=>((z1 (w x.1 (z2 (u x.2))) X.1),X.2)
theorem amh:wO E anU.g apl ap7 (cz f380 1):=lk Oi aeJ q6 λX x=>((z6 (u x) X.1),X.2)
def auu:=anU.qk apl func380 [pd (.sl pM)] [(false,(.sl (.own none) jB)),rI,rI,rB] (c1 pZ) (cF ao2 (cF amh nF))
abbrev aa6:SD:=⟨cC (ju bX)::B::DI::B::B::.ptr 5 0::B::B::cC .str::DB::cC .str::bs 7 (cC (ju jB)::DI::DI::bs 21 []),zs 5 ((qw (ju .str))::zs 36 []),.none⟩
def auv:=auu.q1 {mask:=mk [(5,[0,2,5,8,9,10,18,19,20])]} func381 [pd (.sl bX),pf (.sl .str),pI,pd (.sl jB)] [rS,rB] (c4 rG) aa6 (λX K=>nn (λy0 y1=>ke 0 K aa6 ((z4 (w y0 (z2 (u y1))) X.1),X.2)) (λy0 y1 y2 y3=>kr K aa6 ((z2 (w y0 (w y1 (w y2 (z2 (u y3))))) X.1),X.2)) X.1.1 X.1.2.1 (q2 X) (q3 X) (q5 X) (q6 X) X.2.1.1) (λX=>(q4 X,q7 X)) (λX x=>((z4 (w x.1 (z2 (u x.2))) X.1),X.2))
def auG:=auv.q0 {} func391 [pd .str] [rI,rI] (c1 sM)
def atZ:=auG.q0 {} func324 [pf dp] [rS,rB] (c1 nM)
def auw:=atZ.q0 {merge:=mg [(3,38),(9,74),(12,84),(17,117)]} func382 [pd .str] [rS,rB] (c1 yX)
def atQ:=auw.q0 {merge:=mg [(1,28)],sb:=mg [(8,8)]} func315 [pd (.sl bX),pf (.sl .str),pI,pf jK] [(true,Y0),(false,(.sl (.own none) .str)),rI] (c4 rP)
abbrev an7:SD:=⟨cC (ju bX)::B::DI::B::B::.ptr 5 0::B::.ptr 7 0::.ptr 8 0::cC (cQ 110592 .str)::DI::DI::cC (cQ 147456 .str)::DI::DI::bs 30 [],zs 5 ((qw (ju .str))::Z::(some Y0)::(some Y0)::zs 36 []),.none⟩
abbrev ae7:SD:=⟨cC (ju bX)::B::DI::B::B::.ptr 5 0::B::.ptr 7 0::.ptr 8 0::cC (cQ 110592 .str)::DI::DI::cC (.sl .loc .str)::DI::DI::bs 30 [],zs 5 ((qw (ju .str))::Z::(some Y0)::(some Y0)::zs 36 []),.none⟩
def asS:=atQ.q1 {mask:=mk [(3,[0,2,5,7,8,9,10,11,12,13,14])],mv:=[35,42]} func228 [pd (.sl bX),pf (.sl .str),pI,pf jK] [(true,Y0),(false,(.sl (.own none) .str)),rI,rI] (c4 tJ) an7 (λX K=>ov (λy0 y1 y2 y3 y4 y5 y6 y7=>kr K ae7 ((X.1.1,(X.1.2.1,(y0,(y1,(y2,(y3,(y4,(y5,())))))))),(X.2.1.1,(y6,(y7,()))),())) X.1.1 X.1.2.1 (q2 X) (q3 X) (q4 X) X.2.1.1 X.2.1.2.2.1) (λX=>(q5 X,q6 X,q7 X,X.2.1.2.1)) (λX x=>((z5 (w x.1 (w x.2.1 (u x.2.2.1))) X.1),(z1 (u x.2.2.2) X.2.1),X.2.2))
abbrev aid:SD:=⟨B::DI::.ptr 2 0::B::.ptr 4 0::B::.ptr 6 0::cC (cQ 86016 (.int .i64))::bs 20 (cC (ju lJ)::DI::DI::bs 26 []),Z::Z::(some Y26)::Z::(qw (cO Y0 (cO (kC (kC (kC (cQ 49174 (.int .i64))))) (cO (cQ 49177 lJ) Fs))))::Z::(qw (cO Y0 (cO (kC (kC (kC (cQ 73750 (.int .i64))))) (cO (cQ 73753 lJ) Fs))))::zs 50 [],.none⟩
def asT:=asS.q1 {mask:=mk [(6,[1,2,4,6,7,28,29,30])],merge:=mg [(2,22)],mv:=[23,34,43,55,56]} func229 [pf oE,pI] [(true,Y23),(false,(.sl (.own none) (.int .i64)))] (c2 nk) aid (λX K=>kG (λy0 y1 y2=>ke 0 K aid ((z1 (w y0 (z2 (u y1))) X.1),(z2 (u y2) X.2.1),X.2.2)) X.1.1 (q2 X) (q3 X) X.2.1.1 X.2.1.2.1) (λX=>(X.1.2.1,q4 X,X.2.1.2.2.1)) (λX x=>((z1 (w x.1 (z2 (u x.2.1))) X.1),(z2 (u x.2.2) X.2.1),X.2.2))
def arR:=asT.q0 {mv:=[15,33,37,51,54,58]} func132 [pf dL] [(true,Y2)] (c1 np)
def asU:=arR.q0 {merge:=mg [(2,17)]} func230 [pd .str] [rS,rB] (c1 yV)
def arS:=asU.q0 {} func133 [pd .str] [(true,Y1),rI] (c1 oR)
def asY:=arS.q0 {merge:=mg [(1,15)]} func234 [pf jh,pI] [(true,Y8),rB] (c2 tC)
def anO:=asY.q0 {merge:=mg [(1,24),(7,54)]} func235 [pd (.sl md),pI,pf dp] [rI] (c3 oK)
def apg:An:={mask:=mk [(11,[0,1,7,8,33,34]),(17,[0,1,7,11,43,44,45])],merge:=mg [(19,60)],mv:=[37,61,66]}
abbrev Og:SD:=⟨cC (ju md)::DI::bs 5 (DI::B::B::B::cC (cQ 135168 (.int .i64))::bs 31 (cC (.sl .loc (.int .i64))::DI::DI::bs 21 [])),zs 67 [],.none⟩
def aeH (X:SD.D Og)(K:sg R):=gS (λy0 y1=>ke 2 K Og ((z3 (w y0 (z2 (u y1))) X.1),X.2)) X.1.1 X.1.2.1 (q2 X) (q4 X) (q5 X)
abbrev Of:SD:=⟨cC (ju md)::DI::bs 5 (DI::cC (cQ 98304 (.int .i64))::bs 24 (DI::DI::bs 32 [])),zs 67 [],.none⟩
def aeG (X:SD.D Of)(K:sg R):=mG (λy0 y1=>ke 0 K Of ((z3 (w y0 (z1 (u y1))) X.1),X.2)) X.1.1 X.1.2.1 (q2 X) (q4 X)
def ap2:lZ:=(lZ.nil.add 17 (yi Og aeH (λX=>(q3 X,q6 X)))).add 11 (yi Of aeG (λX=>(q3 X,q5 X)))
theorem amf:wO E anO.g apg ap2 (cz f236 1):=lk Og aeH (λX=>(q3 X,q6 X)) λX x=>((z3 (w x.1 (z2 (u x.2))) X.1),X.2)
theorem ame:wO E anO.g apg ap2 (cz f236 0):=lk Of aeG (λX=>(q3 X,q5 X)) λX x=>((z3 (w x.1 (z1 (u x.2))) X.1),X.2)
def asZ:=anO.qk apg func236 [pd (.sl md),pI,pf dp] [(false,(.sl (.own none) (.int .i64)))] (c3 nt) (cF ame (cF amf nF))
def arT:=asZ.q0 {merge:=mg [(2,35),(7,73)],late:=[93],mv:=[36,81],er:=mg [(98,11)]} func134 [pd (.sl ca),pd (.sl md),pI,pf dp] [(false,(.sl (.own none) ca)),(false,(.sl (.own none) (.int .i64))),rB] (c4 zi)
def alq:=arT.q0 {} func195 [pf ie] [(true,Y17)] (c1 yT)
def e90:lr:=kO (.pair (.sl (.own none) .str) (.pair (.sl (.own none) bX) (.pair (.pair (.pair (.int .i64) (.pair (.int .i64) (.pair (.int .i64) (.int .i64)))) (.pair (.pair (.int .i64) (.pair (.int .i64) (.pair (.int .i64) (.sl (.own none) (.int .i64))))) (.pair (.sl (.own none) lJ) (.int .i64)))) (.pair (.sl (.own none) fC) (.pair (.sl (.own none) lI) (.pair (.sl (.own none) ie) (.pair (.sl (.own none) .bool) (.pair (.pair (.int .i64) (.pair .bool (.sl (.own none) (.int .i64)))) (.pair (.pair (.sl (.own none) nW) (.pair (.sl (.own none) ko) (.pair .str (.sl (.own none) (.int .i64))))) (.pair (.sl (.own none) fT) (.pair .bool (.pair (.sl (.own none) .str) (.pair (.sl (.own none) (.int .i64)) (.pair (.sl (.own none) (.int .i64)) (.pair (.int .i64) (.pair (.int .i64) (.pair (.int .i64) (.pair (.int .i64) (.int .i64))))))))))))))))))) [pI,pI] [] λx a=>mq x a.1 a.2.1
def n90:An:={mask:=mk [(2,[0,1,7])]}
abbrev adD:SD:=⟨.ptr 0 0::DI::bs 5 (DI::bs 34 []),(qw (cO (cQ 1 .str) (cO (cQ 4 bX) (cO (cO Y0 (cO (kC (kC (kC (cQ 28 (.int .i64))))) (cO (cQ 31 lJ) Fs))) (cO (cQ 37 fC) (cO (cQ 40 lI) (cO (cQ 43 ie) (cO (cQ 46 .bool) (cO (kC (cO .bool (cQ 55 (.int .i64)))) (cO (cO (cQ 58 nW) (cO (cQ 61 ko) (cO .str (cQ 67 (.int .i64))))) (cO (cQ 70 fT) (cO .bool (cO (cQ 76 .str) (cO (cQ 79 (.int .i64)) (cO (cQ 82 (.int .i64)) (cO Fs Y0))))))))))))))))::zs 41 [],.ptr⟩
def anD (X:SD.D adD)(K:sg R):=rQ (λy0 y1=>ke 0 K adD ((z1 (u y0) X.1),(u y1 X.2.1),X.2.2)) X.1.1
def L90:lZ:=lZ.nil.add 2 (yi adD anD (λX=>(X.1.2.1,X.2.1.1)))
theorem aq5:wO E alq.g n90 L90 (cz f90 0):=lk adD anD (λX=>(X.1.2.1,X.2.1.1)) λX x=>((z1 (u x.1) X.1),(u x.2 X.2.1),X.2.2)
theorem o90:Li 90 e90:=iZ.sQ (sv (Γ:=alq.g) (an:=n90) (Λ:=L90) (alq.s) func90 (by kernel_rfl) (ao (cF aq5 nF))) (λx a=>by kernel_rfl)
def G90:=alq.add o90
def as3:=G90.q0 {merge:=mg [(1,4)]} func240 [pf pR,pf dp] [rB] (c2 AY)
def auV:=as3.q0 {} func426 [pI,pI,pI] [rB] (c3 qJ)
def auH:=auV.q0 {merge:=mg [(1,4)]} func393 [pf nW,pf dp] [rB] (c2 tB)
abbrev aim:SD:=⟨cC (ju nW)::B::B::.ptr 3 0::B::DI::bs 5 (cC (ju nW)::DI::DI::bs 24 []),Z::Z::Z::(some Y1)::zs 34 [],.none⟩
def at3:=auH.q1 {mask:=mk [(5,[0,3,5,11,12,13])],merge:=mg [(7,34)]} func330 [pd (.sl nW),pf dp] [rI] (c2 yZ) aim (λX K=>tr (λy0 y1=>ke 0 K aim ((z1 (w y0 (z2 (u y1))) X.1),X.2)) X.1.1 (q2 X) (q3 X) X.2.1.1) (λX=>(X.1.2.1,q4 X)) (λX x=>((z1 (w x.1 (z2 (u x.2))) X.1),X.2))
def at4:=at3.q0 {} func331 [pf (.sl ko),pf uC] [rI] (c2 yY)
def auQ:=at4.q0 {} func421 [pd .str,pI] [rI] (c2 Ac)
abbrev aix:SD:=⟨cC .str::DI::B::B::B::DI::DI::bs 22 [],zs 29 [],.none⟩
def auR:=auQ.q1 {mask:=mk [(5,[0,1,5,6])],merge:=mg [(1,14)]} func422 [pd .str,pI] [rI] (c2 xk) aix (λX K=>rL (λy0 y1=>ke 0 K aix ((z2 (w y0 (u y1)) X.1),X.2)) X.1.1 X.1.2.1) (λX=>(q2 X,q3 X)) (λX x=>((z2 (w x.1 (u x.2)) X.1),X.2))
abbrev aiq:SD:=⟨cC .str::cC .str::B::B::B::DI::DI::bs 25 [],zs 32 [],.none⟩
def auj:=auR.q1 {mask:=mk [(5,[0,1,5,6])],merge:=mg [(1,14)]} func369 [pd .str,pd .str] [rI] (c2 xg) aiq (λX K=>rH (λy0 y1=>ke 0 K aiq ((z2 (w y0 (u y1)) X.1),X.2)) X.1.1 X.1.2.1) (λX=>(q2 X,q3 X)) (λX x=>((z2 (w x.1 (u x.2)) X.1),X.2))
def auk:=auj.q0 {} func370 [pf uC] [rS] (c1 xh)
def atv:=auk.q0 {} func292 [pd .str,pf uC] [rI] (c2 uK)
def auI:=atv.q0 {merge:=mg [(2,17)]} func394 [pf Hb,pf uC] [rI] (c2 Bc)
def at5:=auI.q0 {merge:=mg [(2,18)]} func332 [pf Hb,pI,pf uC] [rI] (c3 tD)
def as4:=at5.q0 {merge:=mg [(1,17)]} func241 [pf tc,pI,pf dp] [rI] (c3 tE)
def aul:=as4.q0 {merge:=mg [(1,2)]} func371 [pf uC] [rB] (c1 nm)
def aum:=aul.q0 {merge:=mg [(1,12)]} func372 [pf uC,pI] [rS] (c2 mE)
def apQ:=aum.q0 {merge:=mg [(1,22)],mv:=[26,37,41,51],mb:=mg [(41,13),(51,13)],sb:=mg [(10,10),(11,11),(13,13)]} func294 [pd (.sl bX),pf (.sl .str),pI,pf jh,pf uC] [(true,(.sl (.own none) .str)),(true,Y8),rB] (c5 qb)
def avb:lr:=F8 [pd (.sl bX),pf (.sl .str),pI,pf fC,pd .str,pd .str] [(true,(.sl (.own none) .str)),(true,Y8),rB] [(true,(.sl .arg .str)),(true,Y8),rB] rfl λa=>xD a.1 a.2.1 a.2.2.1 a.2.2.2.1 a.2.2.2.2.1 a.2.2.2.2.2.1
theorem av1:Li 193 avb:=iZ.ofAlt (aiT (an:={merge:=mg [(3,50)],sb:=mg [(12,12),(13,13),(20,20)]}) (Λ:=lZ.nil) (by rfl) (apQ.s) func193 (by kernel_rfl) (ao nF)) (λa=>by kernel_rfl)
def asn:=apQ.add av1
def G89:=asn.q0 {merge:=mg [(1,31)],mv:=[52,66],mb:=mg [(66,16)],sb:=mg [(10,10),(11,11)]} func89 [pd (.sl bX),pf (.sl .str),pI,pf fC,pd .str] [(true,(.sl (.own none) .str)),(true,Y20)] (c5 oM)
def auJ:=G89.q0 {} func395 [pf dp,pf dp] [rB] (c2 zg)
def at6:=auJ.q0 {merge:=mg [(1,42),(4,76),(6,4)]} func333 [pf Uk,pf dp] [rB] (c2 xc)
def at7:=at6.q0 {} func334 [pf Uk,pf dp] [(true,(.pair Y1 (.pair (.int .i64) (.int .i64))))] (c2 Hz)
def at8:=at7.q0 {} func335 [pf dp] [(true,(.pair Y1 (.pair (.int .i64) (.int .i64))))] (c1 Gx)
def as5:=at8.q0 {merge:=mg [(1,30),(3,44)],mv:=[53,68,77],mb:=mg [(77,16)],sb:=mg [(14,14),(15,15)]} func242 [pd (.sl bX),pf (.sl .str),pI,pf fC,pd .str,pf dp,pd .bool] [(true,(.sl (.own none) .str)),(true,Y20)] (c7 qd)
def arY:=as5.q0 {mv:=[14,34,46,62,69,90,103],sb:=mg [(92,5)]} func139 [pf dL,pd .str] [(true,Y2)] (c2 oQ)
def as1:=arY.q0 {merge:=mg [(1,34)]} func238 [pd (.sl md),pI,pI,pf dp] [(true,Y1)] (c4 tz)
abbrev ah6:SD:=⟨bs 5 (.ptr 5 0::.ptr 6 0::.ptr 7 0::cC (cQ 98304 md)::B::DI::bs 28 (cC (cQ 479232 (.int .i64))::DI::DI::bs 35 [])),zs 5 ((some Y1)::(some Y14)::(qw (cO (cQ 86017 dL) (cO (cQ 86020 ca) (cO (cQ 86023 fb) (cO (cQ 86026 .str) (cO Y0 (cO (cQ 86041 (.int .i64)) (cQ 86044 .str))))))))::zs 69 []),.none⟩
def arU:=as1.q1 {mask:=mk [(7,[5,6,7,8,10,39,40,41])],merge:=mg [(2,24)],mv:=[25,26,57,76]} func135 [pf wj,pI,pf dp] [(true,Y5)] (c3 mT) ah6 (λX K=>mi (λy0 y1=>ke 0 K ah6 ((z4 (u y0) X.1),(z2 (u y1) X.2.1),X.2.2)) X.1.1 X.1.2.1 (q2 X) (q3 X) X.2.1.1 X.2.1.2.1) (λX=>(q4 X,X.2.1.2.2.1)) (λX x=>((z4 (u x.1) X.1),(z2 (u x.2) X.2.1),X.2.2))
abbrev am3:SD:=⟨B::DI::B::B::.ptr 4 0::.ptr 5 0::cC (cQ 73728 md)::bs 55 (cC (.sl .loc .str)::DI::DI::bs 30 []),zs 4 ((some Y15)::(qw (cO (cQ 61441 dL) (cO (cQ 61444 ca) (cO (cQ 61447 fb) (cO (cQ 61450 .str) (cO Y0 (cO (cQ 61465 (.int .i64)) (cQ 61468 .str))))))))::zs 89 []),.none⟩
def G51:=arU.q1 {mask:=mk [(8,[1,4,5,6,62,63,64])],merge:=mg [(2,29)],mv:=[30,31,75,85,94]} func51 [pf wj,pI] [(true,Y5)] (c2 rF) am3 (λX K=>ky (λy0 y1=>ke 0 K am3 ((z4 (u y0) X.1),(z1 (u y1) X.2.1),X.2.2)) X.1.1 X.1.2.1 (q2 X) (q3 X) X.2.1.1) (λX=>(q4 X,X.2.1.2.1)) (λX x=>((z4 (u x.1) X.1),(z1 (u x.2) X.2.1),X.2.2))
def G52:=G51.q0 {mv:=[13,15,32]} func52 [pf wj,pd .str] [(true,Y5)] (c2 tn)
def arV:=G52.q0 {merge:=mg [(1,10)]} func136 [pf jh,pI] [(true,Y8)] (c2 rO)
abbrev am4:SD:=⟨B::DI::B::B::B::cC (cQ 61440 ca)::bs 4 (DI::DI::bs 15 []),zs 27 [],.none⟩
def G53:=arV.q1 {mask:=mk [(3,[1,5,10,11])],mv:=[26]} func53 [pd (.sl ca),pI] [(false,(.sl (.own none) ca))] (c2 qg) am4 (λX K=>mH (λy0 y1=>ke 0 K am4 ((z1 (w y0 (z1 (u y1))) X.1),X.2)) X.1.1 (q2 X)) (λX=>(X.1.2.1,q3 X)) (λX x=>((z1 (w x.1 (z1 (u x.2))) X.1),X.2))
def arW:=G53.q0 {} func137 [pf jK,pI] [(true,Y0)] (c2 LO)
def G54:=arW.q0 {merge:=mg [(1,14)]} func54 [pf jK,pI] [(true,Y0)] (c2 rE)
abbrev amY:SD:=⟨B::.ptr 1 0::.ptr 2 0::.ptr 3 0::bs 9 (DI::DI::bs 35 []),Z::(some Y6)::(some Y3)::(some Y4)::zs 46 [],.none⟩
def G30:=G54.q1 {mask:=mk [(5,[1,2,3,13,14])],mv:=[10,17,35,49],sb:=mg [(37,3)]} func30 [pf dL] [(true,Y2)] (c1 xi) amY (λX K=>rJ (λy0 y1=>ke 0 K amY ((z1 (u y0) X.1),(z2 (u y1) X.2.1),X.2.2)) X.1.1 X.2.1.1 X.2.1.2.1) (λX=>(X.1.2.1,X.2.1.2.2.1)) (λX x=>((z1 (u x.1) X.1),(z2 (u x.2) X.2.1),X.2.2))
def G91:=G30.q0 {merge:=mg [(1,11)]} func91 [pf ie] [(true,Y17),rB] (c1 qf)
def G93:=G91.q0 {} func93 [pf ie] [(true,Y17)] (c1 Ab)
abbrev amZ:SD:=⟨B::DI::B::B::.ptr 4 0::B::.ptr 6 0::DI::bs 17 (DI::DI::bs 53 []),zs 4 ((qw (cO (cQ 49153 .str) (cO (cQ 49156 bX) (cO (cO Y0 (cO (kC (kC (kC (cQ 49180 (.int .i64))))) (cO (cQ 49183 lJ) Fs))) (cO (cQ 49189 fC) (cO (cQ 49192 lI) (cO (cQ 49195 ie) (cO (cQ 49198 .bool) (cO (kC (cO .bool (cQ 49207 (.int .i64)))) (cO (cO (cQ 49210 nW) (cO (cQ 49213 ko) (cO .str (cQ 49219 (.int .i64))))) (cO (cQ 49222 fT) (cO .bool (cO (cQ 49228 .str) (cO (cQ 49231 (.int .i64)) (cO (cQ 49234 (.int .i64)) (cO Fs Y0))))))))))))))))::Z::(qw (cO (cQ 73729 .str) (cO (cQ 73732 bX) (cO (cO Y0 (cO (kC (kC (kC (cQ 73756 (.int .i64))))) (cO (cQ 73759 lJ) Fs))) (cO (cQ 73765 fC) (cO (cQ 73768 lI) (cO (cQ 73771 ie) (cO (cQ 73774 .bool) (cO (kC (cO .bool (cQ 73783 (.int .i64)))) (cO (cO (cQ 73786 nW) (cO (cQ 73789 ko) (cO .str (cQ 73795 (.int .i64))))) (cO (cQ 73798 fT) (cO .bool (cO (cQ 73804 .str) (cO (cQ 73807 (.int .i64)) (cO (cQ 73810 (.int .i64)) (cO Fs Y0))))))))))))))))::zs 73 []),.none⟩
def G31:=G93.q1 {mask:=mk [(6,[1,4,6,7,25,26])],merge:=mg [(2,21)],mv:=[22,78]} func31 [pf dL,pI] [(true,Y2),rI] (c2 tu) amZ (λX K=>oo (λy0 y1 y2=>ke 0 K amZ ((z1 (w y0 (z1 (u y1))) X.1),(z1 (u y2) X.2.1),X.2.2)) X.1.1 (q2 X) X.2.1.1) (λX=>(X.1.2.1,q3 X,X.2.1.2.1)) (λX x=>((z1 (w x.1 (z1 (u x.2.1))) X.1),(z1 (u x.2.2) X.2.1),X.2.2))
abbrev ail:SD:=⟨B::B::B::DI::B::B::B::cC (ju lJ)::DI::DI::bs 9 [],zs 19 [],.none⟩
def at0:=G31.q1 {mask:=mk [(3,[3,7,8,9])]} func325 [pf oE] [rI] (c1 rX) ail (λX K=>nv (λy0 y1=>ke 0 K ail ((w y0 (z2 (u y1)) X.1),X.2)) X.1.2.1 (q2 X)) (λX=>(X.1.1,q3 X)) (λX x=>((w x.1 (z2 (u x.2)) X.1),X.2))
def alr:=at0.q0 {merge:=mg [(2,20)],mv:=[21,28],mb:=mg [(28,7)],sb:=mg [(4,4)]} func326 [pf lI,pI] [(true,Y11),(false,(.sl (.own none) (.int .i64))),rB] (c2 tI)
def avg:lr:=F8 [pd (.sl bX),pf (.sl .str),pI,pf lI,pd (.sl (.int .i64)),pd .str,pI] [(true,(.sl (.own none) .str)),(false,(.sl (.own none) jB)),rB] [(true,(.sl .arg .str)),(false,(.sl (.own none) jB)),rB] rfl λa=>oU a.1 a.2.1 a.2.2.1 a.2.2.2.1 a.2.2.2.2.1 a.2.2.2.2.2.1 a.2.2.2.2.2.2.1
def ara:An:={mask:=mk [(3,[0,2,5,6,8,10,14,15,16,17,24,25,26])],peel:=[3],mv:=[40,49,53,54,55,65,66],sb:=mg [(21,21)]}
abbrev UP:SD:=⟨cC (ju bX)::B::DI::B::B::cC .str::DI::B::.ptr 8 0::B::.ptr 10 0::B::B::B::.ptr 14 0::cC (cQ 184320 jB)::DB::cC (cQ 208896 jB)::bs 6 (cC (ju (.int .i64))::DI::DI::bs 40 []),zs 8 ((qw (cQ 98305 .str))::Z::(some Y18)::Z::Z::Z::(qw (cQ 172033 .str))::zs 52 []),.none⟩
abbrev ae8:SD:=⟨cC (ju bX)::B::DI::B::B::cC .str::DI::B::.ptr 8 0::B::.ptr 10 0::B::B::B::.ptr 14 0::cC (cQ 184320 jB)::DB::cC (cQ 208896 jB)::bs 6 (cC (ju (.int .i64))::DI::DI::bs 40 []),zs 8 ((qw (.sl .loc .str))::Z::(some Y18)::Z::Z::Z::(qw (cQ 172033 .str))::zs 52 []),.none⟩
def ak2 (X:SD.D UP)(K:sg R):=lh (λy0 y1 y2 y3=>ke 0 K UP ((z2 (w y0 (z3 (w y1 (z2 (u y2))))) X.1),(u y3 X.2.1),X.2.2)) (λy0 y1 y2 y3 y4 y5 y6=>kr K ae8 ((X.1.1,(X.1.2.1,(y0,(X.1.2.2.2.1,(y1,(y2,(y3,(X.1.2.2.2.2.2.2.2.1,(X.1.2.2.2.2.2.2.2.2.1,(y4,())))))))))),(y5,(X.2.1.2.1,(y6,()))),())) X.1.1 X.1.2.1 (q3 X) (q4 X) (q5 X) (q7 X) (q8 X) X.2.1.2.1 X.2.1.2.2.1
def ap6:lZ:=lZ.nil.add 3 (yi UP ak2 (λX=>(q2 X,q6 X,q9 X,X.2.1.1)))
theorem aoY:wO E alr.g ara ap6 (cz f327 0):=lk UP ak2 (λX=>(q2 X,q6 X,q9 X,X.2.1.1)) λX x=>((z2 (w x.1 (z3 (w x.2.1 (z2 (u x.2.2.1))))) X.1),(u x.2.2.2 X.2.1),X.2.2)
theorem av6:Li 327 avg:=iZ.ofAlt (aiT (Γ:=alr.g) (an:=ara) (Λ:=ap6) (by rfl) (alr.s) func327 (by kernel_rfl) (ao (cF aoY nF))) (λa=>by kernel_rfl)
def at1:=alr.add av6
abbrev aa0:SD:=⟨cC (ju bX)::B::DI::B::B::B::.ptr 6 0::B::.ptr 8 0::B::.ptr 10 0::.ptr 11 0::DB::.ptr 13 0::.ptr 14 0::bs 6 (cC (ju .str)::DI::DI::bs 21 []),zs 6 ((qw (ju .str))::Z::(some Y0)::Z::(qw (cQ 122881 .str))::(some Y0)::Z::(qw (cQ 159745 .str))::(some Y0)::zs 30 []),.none⟩
def at2:=at1.q1 {mask:=mk [(3,[0,2,6,8,10,11,12,13,14,21,22,23])],mv:=[27,43],mb:=mg [(43,13)],sb:=mg [(10,10),(11,11),(13,13),(14,14)]} func329 [pd (.sl bX),pf (.sl .str),pI,pf jK,pd (.sl .str)] [(true,(.sl (.own none) .str)),(true,Y0),rB] (c5 kS) aa0 (λX K=>mn (λy0 y1 y2=>ke 0 K aa0 ((z5 (u y0) X.1),(z4 (w y1 (u y2)) X.2.1),X.2.2)) (λy0 y1 y2 y3 y4 y5=>kr K aa0 ((z2 (w y0 (z2 (u y1))) X.1),(z2 (w y2 (w y3 (w y4 (u y5)))) X.2.1),X.2.2)) X.1.1 X.1.2.1 (q2 X) (q3 X) (q4 X) X.2.1.1 X.2.1.2.1 X.2.1.2.2.1 X.2.1.2.2.2.1) (λX=>(q5 X,X.2.1.2.2.2.2.1,X.2.1.2.2.2.2.2.1)) (λX x=>((z5 (u x.1) X.1),(z4 (w x.2.1 (u x.2.2)) X.2.1),X.2.2))
abbrev adw:SD:=⟨cC (ju bX)::B::DI::bs 7 (.ptr 10 0::B::B::B::.ptr 14 0::.ptr 15 0::B::.ptr 17 0::.ptr 18 0::B::B::B::.ptr 22 0::B::cC (cQ 294912 (.int .i64))::B::.ptr 26 0::B::cC (cQ 344064 pM)::cC (cQ 356352 .str)::bs 109 (cC (.sl .loc pM)::DI::DI::bs 44 [])),zs 10 ((some Y26)::Z::Z::Z::(qw (cQ 172033 .str))::(qw (cO Y0 (cO (kC (kC (kC (cQ 184342 (.int .i64))))) (cO (cQ 184345 lJ) Fs))))::Z::(qw (cQ 208897 .str))::(qw (cO Y0 (cO (kC (kC (kC (cQ 221206 (.int .i64))))) (cO (cQ 221209 lJ) Fs))))::Z::Z::Z::(qw (cO Y0 (cO (kC (kC (kC (cQ 270358 (.int .i64))))) (cO (cQ 270361 lJ) Fs))))::Z::Z::Z::(qw (.sl .loc .str))::zs 159 []),.none⟩
def as2:=at2.q1 {mask:=mk [(19,[0,2,10,14,15,17,18,22,24,26,28,29,139,140,141])],merge:=mg [(2,57),(6,92),(15,135)],mv:=[58,59,93,94,97,107,108,109,122,123,136,137,145,151,164,165,169,174,184,185],mb:=mg [(58,17),(59,18),(93,17),(94,18),(107,17),(108,18),(136,17),(137,18),(164,17),(165,18),(184,26),(185,22)],sb:=mg [(14,14),(15,15),(17,17),(18,18),(26,26)]} func239 [pd (.sl bX),pf (.sl .str),pI,pf oE,pf dp,pI,pI] [(true,(.sl (.own none) .str)),(true,Y23),rB] (c7 vz) adw (λX K=>gQ (λy0 y1=>ke 0 K adw ((z4 (w y0 (z2 (u y1))) X.1),X.2)) X.1.1 X.1.2.1 (q2 X) (q3 X) (q5 X) (q6 X) X.2.1.1 X.2.1.2.1 X.2.1.2.2.1 X.2.1.2.2.2.1 X.2.1.2.2.2.2.1 X.2.1.2.2.2.2.2.1 X.2.1.2.2.2.2.2.2.1) (λX=>(q4 X,q7 X)) (λX x=>((z4 (w x.1 (z2 (u x.2))) X.1),X.2))
def arX:=as2.q0 {mv:=[19,20,34,36,38]} func138 [pf dL,pf dp,pI,pI] [(true,Y2),rB] (c4 zd)
def G55:=arX.q0 {merge:=mg [(1,15)],mv:=[22,34,35]} func55 [pf dL,pf als] [(true,Y2),rI] (c2 EV)
def n17:An:={mask:=mk [(10,[4,6,52,53]),(22,[4,6,91,92])],merge:=mg [(2,23)],late:=[67],mv:=[24,114,115,125,131,133],sb:=mg [(4,4),(9,9),(49,6)]}
abbrev UB:SD:=⟨bs 4 (.ptr 4 0::B::.ptr 6 0::bs 45 (DI::DI::bs 81 [])),zs 4 ((some Y15)::Z::(some Y14)::zs 128 []),.none⟩
def akP (X:SD.D UB)(K:sg R):=qE (λy0 y1=>ke 1 K UB ((z1 (u y0) X.1),(z1 (u y1) X.2.1),X.2.2)) X.1.1 X.2.1.1
abbrev UC:SD:=⟨bs 4 (.ptr 4 0::B::.ptr 6 0::bs 84 (DI::DI::bs 42 [])),zs 4 ((some Y15)::Z::(some Y14)::zs 128 []),.none⟩
def akQ (X:SD.D UC)(K:sg R):=kR (λy0 y1=>ke 4 K UC ((z1 (u y0) X.1),(z1 (u y1) X.2.1),X.2.2)) X.1.1 X.2.1.1
def L17:lZ:=(lZ.nil.add 10 (yi UB akP (λX=>(X.1.2.1,X.2.1.2.1)))).add 22 (yi UC akQ (λX=>(X.1.2.1,X.2.1.2.1)))
theorem aoL:wO E G55.g n17 L17 (cz f17 0):=lk UB akP (λX=>(X.1.2.1,X.2.1.2.1)) λX x=>((z1 (u x.1) X.1),(z1 (u x.2) X.2.1),X.2.2)
theorem aoM:wO E G55.g n17 L17 (cz f17 1):=lk UC akQ (λX=>(X.1.2.1,X.2.1.2.1)) λX x=>((z1 (u x.1) X.1),(z1 (u x.2) X.2.1),X.2.2)
def G17:=G55.qk n17 func17 [pf wj,pf gV] [(true,Y5),rI] (c2 pN) (cF aoL (cF aoM nF))
abbrev aqg:SD:=⟨bs 4 (.ptr 4 0::B::.ptr 6 0::cC (cQ 86016 (.int .i64))::bs 16 (cC (ju gV)::DI::DI::bs 17 [])),zs 4 ((some Y15)::Z::(some Y14)::zs 37 []),.none⟩
def G9:=G17.q1 {mask:=mk [(6,[4,6,7,24,25,26])],merge:=mg [(2,21)],mv:=[22,30,36,37,42,43]} func9 [pf wj,pd (.sl gV)] [(true,Y5),(false,(.sl (.own none) (.int .i64)))] (c2 Bg) aqg (λX K=>Az (λy0 y1 y2=>ke 0 K aqg ((w y0 (z2 (u y1)) X.1),(z1 (u y2) X.2.1),X.2.2)) X.1.2.1 (q2 X) X.2.1.1) (λX=>(X.1.1,q3 X,X.2.1.2.1)) (λX x=>((w x.1 (z2 (u x.2.1)) X.1),(z1 (u x.2.2) X.2.1),X.2.2))
def G42:=G9.q0 {merge:=mg [(1,16)]} func42 [pd .str] [rS,rB] (c1 zF)
def arE:=G42.q0 {sb:=mg [(4,4)]} func118 [pd .str] [(true,(.pair (.int .i64) Y21)),rB] (c1 zK)
def arF:=arE.q0 {merge:=mg [(2,22),(6,56)],sb:=mg [(5,5)]} func119 [pd .str] [(true,Y24),rB] (c1 Bn)
def arG:=arF.q0 {merge:=mg [(3,20),(9,44),(12,68)]} func120 [pI,pI,pI,pd .str] [(true,(.pair (.int .i64) Y24)),rB] (c4 sc)
def G43:=arG.q0 {merge:=mg [(2,20)]} func43 [pd .str] [(true,Y1),rI] (c1 xW)
def G15:=G43.q0 {} func15 [pd .str] [(true,Y1),rI] (c1 xV)
abbrev ah8:SD:=⟨cC (ju (.int .i64))::DI::B::B::DB::DI::bs 12 [],zs 18 [],.none⟩
def G16:=G15.q1 {mask:=mk [(2,[0,1,4,5])]} func16 [pd (.sl (.int .i64)),pI] [rB] (c2 Kt) ah8 (λX K=>Db (λy0=>ke 0 K ah8 ((z3 (u y0) X.1),X.2)) (λy0 y1=>kr K ah8 ((z2 (w y0 (u y1)) X.1),X.2)) X.1.1 X.1.2.1 (q2 X)) q3 (λX x=>((z3 (u x) X.1),X.2))
abbrev rq:ax PS:=[pd (.sl (.int .u8))]
def ym:lr:=SE rq [rB] (c1 ux)
def jG:An:={mask:=mk [(6,[3,4,5,6]),(13,[3,7,9,10]),(17,[2,3,7,9,11]),(25,[3,7,14,15,16])],merge:=mg [(8,45),(20,101),(25,113),(29,2)],mv:=[46,67]}
abbrev kD:SD:=⟨B::B::B::.ptr 3 0::cC (.sl .loc gV)::cC (cQ 61440 gV)::DI::bs 154 [],Z::Z::Z::(some Y9)::zs 157 [],.none⟩
def wJ (X:SD.D kD)(K:sg R):=qi (λy0 y1=>ke 0 K kD ((z1 (w y0 (u y1)) X.1),X.2)) X.1.1 X.2.1.1
abbrev jY:SD:=⟨B::B::B::.ptr 3 0::B::B::B::.ptr 7 0::B::cC (cQ 110592 (.int .i64))::DI::bs 150 [],Z::Z::Z::(some Y9)::Z::Z::Z::(some Y9)::zs 153 [],.none⟩
def vm (X:SD.D jY)(K:sg R):=oY (λy0 y1=>ke 2 K jY ((w y0 (u y1) X.1),X.2)) X.2.1.1 X.2.1.2.1
abbrev jZ:SD:=⟨B::B::B::.ptr 3 0::B::B::B::.ptr 7 0::B::cC (cQ 110592 (.int .i64))::B::DI::bs 149 [],Z::Z::Z::(some Y9)::Z::Z::Z::(some Y9)::zs 153 [],.none⟩
abbrev AQ:SD:=⟨B::B::DB::.ptr 3 0::B::B::B::.ptr 7 0::B::cC (cQ 110592 (.int .i64))::B::DI::bs 149 [],Z::Z::Z::(some Y9)::Z::Z::Z::(some Y9)::zs 153 [],.none⟩
def vn (X:SD.D jZ)(K:sg R):=oZ (λy0=>ke 4 K jZ ((z1 (u y0) X.1),X.2)) (λy0 y1=>kr K AQ ((y0,(X.1.1,(y1,()))),(X.2.1.1,(X.2.1.2.1,())),())) X.1.1 X.2.1.1 X.2.1.2.1
abbrev ka:SD:=⟨B::B::B::.ptr 3 0::B::B::B::.ptr 7 0::bs 6 (DI::DI::DI::bs 144 []),Z::Z::Z::(some Y9)::Z::Z::Z::(some Y9)::zs 153 [],.none⟩
def vo (X:SD.D ka)(K:sg R):=pa (λy0 y1 y2=>ke 6 K ka ((w y0 (w y1 (u y2)) X.1),X.2)) X.2.1.1 X.2.1.2.1
def jE:lZ:=(((lZ.nil.add 6 (yi kD wJ (λX=>(X.1.2.1,q2 X)))).add 13 (yi jY vm (λX=>(X.1.1,X.1.2.1)))).add 17 (yi jZ vn (λX=>X.1.2.1))).add 25 (yi ka vo (λX=>(X.1.1,X.1.2.1,q2 X)))
theorem Ef:wO E G16.g jG jE (cz f4 0):=lk kD wJ (λX=>(X.1.2.1,q2 X)) λX x=>((z1 (w x.1 (u x.2)) X.1),X.2)
theorem DK:wO E G16.g jG jE (cz f4 1):=lk jY vm (λX=>(X.1.1,X.1.2.1)) λX x=>((w x.1 (u x.2) X.1),X.2)
theorem DL:wO E G16.g jG jE (cz f4 2):=lk jZ vn (λX=>X.1.2.1) λX x=>((z1 (u x) X.1),X.2)
theorem DM:wO E G16.g jG jE (cz f4 3):=lk ka vo (λX=>(X.1.1,X.1.2.1,q2 X)) λX x=>((w x.1 (w x.2.1 (u x.2.2)) X.1),X.2)
theorem FJ:Li 4 ym:=fk jG G16.s func4 (Λ:=jE) (cF Ef (cF DK (cF DL (cF DM nF))))
end
end Go.Proofs.YtbebkmajekhclaaGreat.Fn
