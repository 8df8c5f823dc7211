import Derived.Test.YtbebkmajekhclaaGreatDnSig
import Derived.Test.YtbebkmajekhclaaGreatPure
import Derived.Test.YtbebkmajekhclaaGreatRows
/- Each function of the program is its pure function (made by gen.py). -/
namespace Go.Proofs.YtbebkmajekhclaaGreat.Fn
open Go.Dn
open Go.Pu Go.Proofs.Tryz
set_option maxRecDepth 100000
set_option linter.unusedVariables false
noncomputable section
variable {an:An} {Γ:Dy} {Λ:kC} {f:Nat} {P:Program} {A0 A1 A2 A3 A4 A5 A6 A7 C R σ:Type} {rs:aw (Bool×FT)} {s:aw PS}
abbrev nJ (R:Type):=Ex->AS->Option R
abbrev FH:FT:=.int .i64
abbrev cL (a b:FT):FT:=.pair a b
abbrev jH (b:FT):FT:=.pair (.int .i64) b
abbrev cM (n:Nat)(t:CT):FT:=.sl (.own (some n)) t
abbrev tr (t:FT):Option FT:=some t
abbrev cD (t:FT):PD:=.data false t
abbrev iH (t:FT):PD:=.data true t
abbrev iX (t:CT):FT:=.sl .arg t
abbrev ND:=jl Tryz.prog
abbrev B:PD:=.bot
abbrev DI:PD:=.data false (.int .i64)
abbrev DB:PD:=.data false .bool
abbrev Z:az FT:=none
theorem nF {p:Code->Prop}:∀x∈([]:aw Code),p x:=λ_ h=>nomatch h
theorem cF {p:Code->Prop}{a:Code}{l:aw Code}(h:p a)(t:∀x∈l,p x):∀x∈a::l,p x:=List.forall_mem_cons.2 ⟨h,t⟩
theorem hF {p:Code->Prop}{l m:aw Code}(e:l=m)(h:∀x∈m,p x):∀x∈l,p x:=e▸h
theorem fk {E:Env}{F:Er s->az (rj rs)}{fn:Func}(an:An)(hS:Sound P E Γ)(hf:P.funcs[f]?=some fn){l:aw Code}(h:∀c∈l,uL E Γ an Λ c)(hn:(fn.name== "runtime.NumGoroutine")=false:=by kernel_rfl)(hl:iM (fn.body.getD .skip)=l:=by kernel_rfl)(fU:an.cut=[]:=by kernel_rfl)(hF:∀a,FP E Γ an Λ fn rs (ot s a)=F a:=by intro a;kernel_rfl):jl P f (T5 s rs F):=jl.of (ac1 hS hf hn (DF.of (Fn.hF hl h) fU)) hF
theorem ao {E:Env}{b:Code}{l:aw Code}(h:∀c∈l,uL E Γ an Λ c)(hl:iM b=l:=by kernel_rfl)(hc:an.cut=[]:=by kernel_rfl):DF E Γ an Λ b:=DF.of (Fn.hF hl h) hc
theorem ac {E:Env}{b:Code}{l m:aw Code}(h:∀c∈l,uL E Γ an Λ c)(hc:∀c∈m,Mz E Γ an Λ c)(hl:iM b=l:=by kernel_rfl)(hm:la an.cut b=m:=by kernel_rfl):DF E Γ an Λ b:=⟨Fn.hF hl h,Fn.hF hm hc⟩
theorem fc {E:Env}{F:Er s->az (rj rs)}{fn:Func}(an:An)(hS:Sound P E Γ)(hf:P.funcs[f]?=some fn){l m:aw Code}(h:∀c∈l,uL E Γ an Λ c)(hc:∀c∈m,Mz E Γ an Λ c)(hn:(fn.name== "runtime.NumGoroutine")=false:=by kernel_rfl)(hl:iM (fn.body.getD .skip)=l:=by kernel_rfl)(hm:la an.cut (fn.body.getD .skip)=m:=by kernel_rfl)(hF:∀a,FP E Γ an Λ fn rs (ot s a)=F a:=by intro a;kernel_rfl):jl P f (T5 s rs F):=jl.of (ac1 hS hf hn ⟨Fn.hF hl h,Fn.hF hm hc⟩) hF
abbrev pd (t:CT):PS:=.data false t
abbrev pf (t:CT):PS:=.data true t
abbrev pI:PS:=.data false (.int .i64)
abbrev rB:Bool×FT:=(false,.bool)
abbrev rI:Bool×FT:=(false,.int .i64)
abbrev rS:Bool×FT:=(false,.str)
abbrev bs:Nat->aw PD->aw PD|0,l=>l|n+1,l=> .bot::bs n l
abbrev zs:Nat->aw (az FT)->aw (az FT)|0,l=>l|n+1,l=>none::zs n l
def mk (l:aw (Nat×fA))(n:Nat):fA:=(l.lookup n).getD []
def mg (l:aw (Nat×Nat))(n:Nat):az Nat:=l.lookup n
def ke (n:Nat)(K:nJ R)(d:SD)(x:SD.D d):az R:=K (.exit n) (SD.enc d x)
def kn (K:nJ R)(d:SD)(x:SD.D d):az R:=K .normal (SD.enc d x)
def kr (K:nJ R)(d:SD)(x:SD.D d):az R:=K .ret (SD.enc d x)
def vU (d:SD)(t:{R:Type}->SD.D d->(Ex->AS->az R)->(σ->az R)->σ->az R)(i:SD.D d->σ):MF:=⟨d,λX K=>bh (t X K) fuel (i X)⟩
theorem lk {E:Env}{c:Code}(d:SD)(t:{R:Type}->SD.D d->(Ex->AS->az R)->(σ->az R)->σ->az R)(i:SD.D d->σ)(w:SD.D d->σ->SD.D d)(h1:Λ (eZ c)=vU d t i:=by kernel_rfl)(h:∀(R:Type)(X:SD.D d)(K:nJ R)(m:Nat)(x:σ),Ed (an.mask (eZ c)) (den E Γ an Λ c) (m+1) (SD.enc d (w X x)) K=t X K (λy=>Ed (an.mask (eZ c)) (den E Γ an Λ c) m (SD.enc d (w X y)) K) x:=by intro R X K m x;kernel_rfl)(hw:∀X,w X (i X)=X:=by intro X;kernel_rfl):uL E Γ an Λ c:=lok (vU d t i) h1 fuel λR X K=>(US (λx=>SD.enc d (w X x)) (t X K) (h R X K) fuel (i X)).symm.trans (congrArg (λy=>Ed (an.mask (eZ c)) (den E Γ an Λ c) fuel (SD.enc d y) K) (hw X))
def PB (d:SD)(t:{R:Type}->SD.D d->(Ex->AS->az R)->az R):MF:=⟨d,λX K=>t X K⟩
theorem ck {E:Env}{c:Code}(d:SD)(t:{R:Type}->SD.D d->(Ex->AS->az R)->az R)(h1:Λ (Hj c)=PB d t:=by kernel_rfl)(h:∀(R:Type)(X:SD.D d)(K:nJ R),t X K=den E Γ an Λ c (SD.enc d X) (λe cp=>K e (cp.mask (an.mask (Hj c+1)))):=by intro R X K;kernel_rfl):Mz E Γ an Λ c:=cok (PB d t) h1 h
def u {A B:Type}(y:A)(x:A×B):A×B:=(y,x.2)
def w {A B:Type}(y:A)(f:B->B)(x:A×B):A×B:=(y,f x.2)
def z1 {B:Type}(f:B->B)(x:A0×B):A0×B:=(x.1,f x.2)
def z2 {B:Type}(f:B->B)(x:A0×A1×B):A0×A1×B:=(x.1,x.2.1,f x.2.2)
def z3 {B:Type}(f:B->B)(x:A0×A1×A2×B):A0×A1×A2×B:=(x.1,x.2.1,x.2.2.1,f x.2.2.2)
def z4 {B:Type}(f:B->B)(x:A0×A1×A2×A3×B):A0×A1×A2×A3×B:=(x.1,x.2.1,x.2.2.1,x.2.2.2.1,f x.2.2.2.2)
def z5 {B:Type}(f:B->B)(x:A0×A1×A2×A3×A4×B):A0×A1×A2×A3×A4×B:=(x.1,x.2.1,x.2.2.1,x.2.2.2.1,x.2.2.2.2.1,f x.2.2.2.2.2)
def z6 {B:Type}(f:B->B)(x:A0×A1×A2×A3×A4×A5×B):A0×A1×A2×A3×A4×A5×B:=(x.1,x.2.1,x.2.2.1,x.2.2.2.1,x.2.2.2.2.1,x.2.2.2.2.2.1,f x.2.2.2.2.2.2)
def z7 {B:Type}(f:B->B)(x:A0×A1×A2×A3×A4×A5×A6×B):A0×A1×A2×A3×A4×A5×A6×B:=(x.1,x.2.1,x.2.2.1,x.2.2.2.1,x.2.2.2.2.1,x.2.2.2.2.2.1,x.2.2.2.2.2.2.1,f x.2.2.2.2.2.2.2)
def z8 {B:Type}(f:B->B)(x:A0×A1×A2×A3×A4×A5×A6×A7×B):A0×A1×A2×A3×A4×A5×A6×A7×B:=(x.1,x.2.1,x.2.2.1,x.2.2.2.1,x.2.2.2.2.1,x.2.2.2.2.2.1,x.2.2.2.2.2.2.1,x.2.2.2.2.2.2.2.1,f x.2.2.2.2.2.2.2.2)
def q2 {B:Type}(x:(A0×A1×A2×B)×C):A2:=x.1.2.2.1
def q3 {B:Type}(x:(A0×A1×A2×A3×B)×C):A3:=x.1.2.2.2.1
def q4 {B:Type}(x:(A0×A1×A2×A3×A4×B)×C):A4:=x.1.2.2.2.2.1
def q5 {B:Type}(x:(A0×A1×A2×A3×A4×A5×B)×C):A5:=x.1.2.2.2.2.2.1
def q6 {B:Type}(x:(A0×A1×A2×A3×A4×A5×A6×B)×C):A6:=x.1.2.2.2.2.2.2.1
def q7 {B:Type}(x:(A0×A1×A2×A3×A4×A5×A6×A7×B)×C):A7:=x.1.2.2.2.2.2.2.2.1
def q8 {A8 B:Type}(x:(A0×A1×A2×A3×A4×A5×A6×A7×A8×B)×C):A8:=x.1.2.2.2.2.2.2.2.2.1
def q9 {A8 A9 B:Type}(x:(A0×A1×A2×A3×A4×A5×A6×A7×A8×A9×B)×C):A9:=x.1.2.2.2.2.2.2.2.2.2.1
def SS {A8 A9 A10 B:Type}(x:(A0×A1×A2×A3×A4×A5×A6×A7×A8×A9×A10×B)×C):A10:=x.1.2.2.2.2.2.2.2.2.2.2.1
def c1 {B:Type}(f:A0->R)(a:A0×B):R:=f a.1
def c2 {B:Type}(f:A0->A1->R)(a:A0×A1×B):R:=f a.1 a.2.1
def c3 {B:Type}(f:A0->A1->A2->R)(a:A0×A1×A2×B):R:=f a.1 a.2.1 a.2.2.1
def c4 {B:Type}(f:A0->A1->A2->A3->R)(a:A0×A1×A2×A3×B):R:=f a.1 a.2.1 a.2.2.1 a.2.2.2.1
def c5 {B:Type}(f:A0->A1->A2->A3->A4->R)(a:A0×A1×A2×A3×A4×B):R:=f a.1 a.2.1 a.2.2.1 a.2.2.2.1 a.2.2.2.2.1
def c6 {B:Type}(f:A0->A1->A2->A3->A4->A5->R)(a:A0×A1×A2×A3×A4×A5×B):R:=f a.1 a.2.1 a.2.2.1 a.2.2.2.1 a.2.2.2.2.1 a.2.2.2.2.2.1
def c7 {B:Type}(f:A0->A1->A2->A3->A4->A5->A6->R)(a:A0×A1×A2×A3×A4×A5×A6×B):R:=f a.1 a.2.1 a.2.2.1 a.2.2.2.1 a.2.2.2.2.1 a.2.2.2.2.2.1 a.2.2.2.2.2.2.1
theorem f0 {E:Env}{F:Er s->az (rj rs)}{fn:Func}(an:An)(hS:Sound P E Γ)(hf:P.funcs[f]?=some fn)(hn:(fn.name== "runtime.NumGoroutine")=false:=by kernel_rfl)(hl:iM (fn.body.getD .skip)=[]:=by kernel_rfl)(fU:an.cut=[]:=by rfl)(hF:∀a,FP E Γ an kC.nil fn rs (ot s a)=F a:=by intro a;kernel_rfl):jl P f (T5 s rs F):=jl.of (ac1 hS hf hn (DF.of (Fn.hF hl nF) fU)) hF
abbrev S1:FT:=jH (jH FH)
abbrev Y0:FT:=cL FH S1
abbrev Y22:FT:=jH (jH (jH (jH .str)))
abbrev Y37:FT:=jH (cL FH Y22)
abbrev Y1:FT:=jH (jH (jH (jH (jH (jH (jH (jH (cL FH Y37))))))))
abbrev Y12:FT:=jH (jH (jH (.sl (.own none) (.int .i64))))
abbrev Y35:FT:=cL Y0 (cL Y12 (cL (.sl (.own none) ru) FH))
abbrev Y11:FT:=jH (cL .bool (.sl (.own none) (.int .i64)))
abbrev Y29:FT:=cL (.sl (.own none) lK) (cL (.sl (.own none) jZ) (cL .str (.sl (.own none) (.int .i64))))
abbrev Y2:FT:=cL (.sl (.own none) .str) (cL (.sl (.own none) cX) (cL Y35 (cL (.sl (.own none) fB) (cL (.sl (.own none) nC) (cL (.sl (.own none) ir) (cL (.sl (.own none) .bool) (cL Y11 (cL Y29 (cL (.sl (.own none) dU) (cL .bool (cL (.sl (.own none) .str) (cL (.sl (.own none) (.int .i64)) (cL (.sl (.own none) (.int .i64)) (cL FH Y0))))))))))))))
abbrev Y38:FT:=jH (jH (jH (.sl .arg (.int .i64))))
abbrev Y17:FT:=cL Y0 (cL Y38 (cL (.sl .arg ru) FH))
abbrev Y31:FT:=jH (cL .bool (.sl .arg (.int .i64)))
abbrev Y30:FT:=cL (.sl .arg lK) (cL (.sl .arg jZ) (cL .str (.sl .arg (.int .i64))))
abbrev Y3:FT:=cL (.sl .arg .str) (cL (.sl .arg cX) (cL Y17 (cL (.sl .arg fB) (cL (.sl .arg nC) (cL (.sl .arg ir) (cL (.sl .arg .bool) (cL Y31 (cL Y30 (cL (.sl .arg dU) (cL .bool (cL (.sl .arg .str) (cL (.sl .arg (.int .i64)) (cL (.sl .arg (.int .i64)) (cL FH Y0))))))))))))))
abbrev Y4:FT:=cL (cM 24577 .str) (cL (cM 24580 cX) (cL (cL Y0 (cL (jH (jH (jH (cM 24604 (.int .i64))))) (cL (cM 24607 ru) FH))) (cL (cM 24613 fB) (cL (cM 24616 nC) (cL (cM 24619 ir) (cL (cM 24622 .bool) (cL (jH (cL .bool (cM 24631 (.int .i64)))) (cL (cL (cM 24634 lK) (cL (cM 24637 jZ) (cL .str (cM 24643 (.int .i64))))) (cL (cM 24646 dU) (cL .bool (cL (cM 24652 .str) (cL (cM 24655 (.int .i64)) (cL (cM 24658 (.int .i64)) (cL FH Y0))))))))))))))
abbrev Y5:FT:=cL (cM 24577 dz) (cL (cM 24580 bm) (cL (cM 24583 dm) (cL (cM 24586 .str) (cL Y0 (cL (cM 24601 (.int .i64)) (cM 24604 .str))))))
abbrev Y6:FT:=cL (cM 36865 .str) (cL (cM 36868 cX) (cL (cL Y0 (cL (jH (jH (jH (cM 36892 (.int .i64))))) (cL (cM 36895 ru) FH))) (cL (cM 36901 fB) (cL (cM 36904 nC) (cL (cM 36907 ir) (cL (cM 36910 .bool) (cL (jH (cL .bool (cM 36919 (.int .i64)))) (cL (cL (cM 36922 lK) (cL (cM 36925 jZ) (cL .str (cM 36931 (.int .i64))))) (cL (cM 36934 dU) (cL .bool (cL (cM 36940 .str) (cL (cM 36943 (.int .i64)) (cL (cM 36946 (.int .i64)) (cL FH Y0))))))))))))))
abbrev Y7:FT:=cL (cM 61441 dz) (cL (cM 61444 bm) (cL (cM 61447 dm) (cL (cM 61450 .str) (cL Y0 (cL (cM 61465 (.int .i64)) (cM 61468 .str))))))
abbrev Y8:FT:=cL (.sl (.own none) dz) (cL (.sl (.own none) bm) (cL (.sl (.own none) dm) (cL (.sl (.own none) .str) (cL Y0 (cL (.sl (.own none) (.int .i64)) (.sl (.own none) .str))))))
abbrev Y9:FT:=cL (.sl .Bn (.int .u8)) (jH FH)
abbrev Y13:FT:=cL (cM 196609 .str) (cL (cM 196612 cX) (cL (cL Y0 (cL (jH (jH (jH (cM 196636 (.int .i64))))) (cL (cM 196639 ru) FH))) (cL (cM 196645 fB) (cL (cM 196648 nC) (cL (cM 196651 ir) (cL (cM 196654 .bool) (cL (jH (cL .bool (cM 196663 (.int .i64)))) (cL (cL (cM 196666 lK) (cL (cM 196669 jZ) (cL .str (cM 196675 (.int .i64))))) (cL (cM 196678 dU) (cL .bool (cL (cM 196684 .str) (cL (cM 196687 (.int .i64)) (cL (cM 196690 (.int .i64)) (cL FH Y0))))))))))))))
abbrev Y14:FT:=cL (cM 147457 .str) (cL (cM 147460 cX) (cL (cL Y0 (cL (jH (jH (jH (cM 147484 (.int .i64))))) (cL (cM 147487 ru) FH))) (cL (cM 147493 fB) (cL (cM 147496 nC) (cL (cM 147499 ir) (cL (cM 147502 .bool) (cL (jH (cL .bool (cM 147511 (.int .i64)))) (cL (cL (cM 147514 lK) (cL (cM 147517 jZ) (cL .str (cM 147523 (.int .i64))))) (cL (cM 147526 dU) (cL .bool (cL (cM 147532 .str) (cL (cM 147535 (.int .i64)) (cL (cM 147538 (.int .i64)) (cL FH Y0))))))))))))))
abbrev Y15:FT:=cL (.sl .arg dz) (cL (.sl .arg bm) (cL (.sl .arg dm) (cL (.sl .arg .str) (cL Y0 (cL (.sl .arg (.int .i64)) (.sl .arg .str))))))
abbrev Y16:FT:=cL (.sl (.own none) qj) (cL (.sl (.own none) (.sl .str)) (cL (.sl (.own none) bm) (cL (.sl (.own none) dm) (.sl (.own none) .str))))
abbrev Y18:FT:=cL (cM 49153 dz) (cL (cM 49156 bm) (cL (cM 49159 dm) (cL (cM 49162 .str) (cL Y0 (cL (cM 49177 (.int .i64)) (cM 49180 .str))))))
abbrev Y19:FT:=jH (jH (cL (jH (cL Y1 (jH (jH (cL .str FH))))) (cL S1 (cL .str FH))))
abbrev Y20:FT:=jH (jH (jH (jH (cL .bool .bool))))
abbrev Y21:FT:=cL (cM 73729 dz) (cL (cM 73732 bm) (cL (cM 73735 dm) (cL (cM 73738 .str) (cL Y0 (cL (cM 73753 (.int .i64)) (cM 73756 .str))))))
abbrev Y23:FT:=cL (.sl .arg (.int .u8)) (jH FH)
abbrev Y24:FT:=cL Y0 (cL S1 (cL S1 (cL (cL Y1 (jH FH)) (cL .bool FH))))
abbrev Y25:FT:=cL (cM 86017 qj) (cL (cM 86020 (.sl .str)) (cL (cM 86023 bm) (cL (cM 86026 dm) (cM 86029 .str))))
abbrev Y26:FT:=cL (cM 73729 qj) (cL (cM 73732 (.sl .str)) (cL (cM 73735 bm) (cL (cM 73738 dm) (cM 73741 .str))))
abbrev Y27:FT:=cL (cM 36865 qj) (cL (cM 36868 (.sl .str)) (cL (cM 36871 bm) (cL (cM 36874 dm) (cM 36877 .str))))
abbrev Y28:FT:=cL (cM 24577 qj) (cL (cM 24580 (.sl .str)) (cL (cM 24583 bm) (cL (cM 24586 dm) (cM 24589 .str))))
abbrev Y32:FT:=cL (cM 36865 dz) (cL (cM 36868 bm) (cL (cM 36871 dm) (cL (cM 36874 .str) (cL Y0 (cL (cM 36889 (.int .i64)) (cM 36892 .str))))))
abbrev Y33:FT:=cL Y11 (cL Y29 (jH (cL (.sl (.own none) dU) (.sl (.own none) .str))))
abbrev Y34:FT:=jH (jH (jH (cM 245770 (.int .i64))))
abbrev Y36:FT:=cL Y0 (cL (jH (jH (jH (cM 184342 (.int .i64))))) (cL (cM 184345 ru) FH))
abbrev Y39:FT:=jH (cL .bool (cM 73735 (.int .i64)))
abbrev Y40:FT:=jH (cL .bool (cM 49159 (.int .i64)))
abbrev Y41:FT:=cL (.sl .arg qj) (cL (.sl .arg (.sl .str)) (cL (.sl .arg bm) (cL (.sl .arg dm) (.sl .arg .str))))
abbrev Y42:FT:=jH (jH (cL S1 (cL .bool (jH FH))))
def E:Env:={ty:=[(3,⟨false,(.int .i64),[]⟩),(4,⟨false,.bool,[]⟩),(5,⟨false,(.int .u8),[]⟩),(9,⟨false,.str,[]⟩),(22,⟨false,(.sl (.int .u8)),[(5,0)]⟩),(24,⟨false,(.sl dz),[(70,0)]⟩),(25,⟨false,(.sl bm),[(98,0)]⟩),(26,⟨false,(.sl dm),[(91,0)]⟩),(27,⟨false,(.sl .str),[(9,0)]⟩),(29,⟨true,(.sl .str),[(0,1)]⟩),(31,⟨true,lJ,[(0,1),(1,1),(2,1),(3,1)]⟩),(32,⟨false,(.sl (.int .i64)),[(3,0)]⟩),(34,⟨true,sq,[(0,1),(1,1),(2,1),(3,1),(4,4),(8,1),(9,1)]⟩),(35,⟨false,(.sl eo),[(89,0)]⟩),(43,⟨true,(.sl .str),[(0,1)]⟩),(44,⟨false,(.sl cX),[(150,0)]⟩),(46,⟨true,lJ,[(0,1),(1,1),(2,1),(3,1)]⟩),(48,⟨true,nC,[(0,1),(1,1),(2,1),(3,1)]⟩),(49,⟨false,(.sl ru),[(236,0)]⟩),(51,⟨true,mF,[(0,4),(4,4),(8,1),(9,1)]⟩),(52,⟨false,(.sl fB),[(80,0)]⟩),(53,⟨false,(.sl nC),[(48,0)]⟩),(54,⟨false,(.sl ir),[(190,0)]⟩),(55,⟨false,(.sl .bool),[(4,0)]⟩),(57,⟨true,jn,[(0,1),(1,1),(2,1)]⟩),(58,⟨false,(.sl lK),[(171,0)]⟩),(59,⟨false,(.sl jZ),[(255,0)]⟩),(61,⟨true,(.sl jZ),[(0,1)]⟩),(63,⟨true,DH,[(0,1),(1,1)]⟩),(65,⟨true,oh,[(0,1),(1,1),(2,2)]⟩),(66,⟨false,(.sl dU),[(163,0)]⟩),(68,⟨true,og,[(0,1),(1,1),(2,1),(3,1),(4,1)]⟩),(70,⟨true,dz,[(0,1),(1,1),(2,10),(12,1),(13,1),(14,1),(15,1),(16,3),(19,4),(23,1),(24,1),(25,1),(26,1),(27,1),(28,5)]⟩),(72,⟨true,gT,[(0,1),(1,1),(2,1)]⟩),(74,⟨true,E0,[(0,1),(1,1),(2,1),(3,1),(4,1),(5,1),(6,1),(7,1)]⟩),(76,⟨true,cj,[(0,1),(1,1),(2,1),(3,1),(4,1),(5,1),(6,1),(7,1),(8,8)]⟩),(78,⟨true,VO,[(0,16),(16,1),(17,1)]⟩),(80,⟨true,fB,[(0,4),(4,3),(7,3),(10,18),(28,1),(29,1)]⟩),(85,⟨true,ajd,[(0,1),(1,16),(17,1),(18,1),(19,1),(20,1)]⟩),(87,⟨true,gT,[(0,1),(1,1),(2,1)]⟩),(89,⟨true,eo,[(0,1),(1,1),(2,21),(23,3),(26,1),(27,1)]⟩),(91,⟨true,dm,[(0,3),(3,1),(4,1),(5,1)]⟩),(96,⟨true,gT,[(0,1),(1,1),(2,1)]⟩),(98,⟨true,bm,[(0,1),(1,1),(2,3),(5,1),(6,1),(7,1)]⟩),(102,⟨false,(.sl qj),[(110,0)]⟩),(103,⟨false,(.sl (.sl .str)),[(27,0)]⟩),(105,⟨true,fT,[(0,1),(1,1),(2,1),(3,1),(4,1)]⟩),(110,⟨true,qj,[(0,3),(3,4),(7,1),(8,1),(9,1)]⟩),(123,⟨true,og,[(0,1),(1,1),(2,1),(3,1),(4,1)]⟩),(126,⟨false,(.sl iD),[(202,0)]⟩),(141,⟨false,(.sl sr),[(234,0)]⟩),(150,⟨true,cX,[(0,1),(1,1),(2,1),(3,1)]⟩),(152,⟨false,(.sl cj),[(76,0)]⟩),(161,⟨true,og,[(0,1),(1,1),(2,1),(3,1),(4,1)]⟩),(163,⟨true,dU,[(0,5),(5,1),(6,1),(7,1)]⟩),(166,⟨true,(.pair (.sl (.int .u8)) (.pair (.int .i64) (.int .i64))),[(0,1),(1,1),(2,1)]⟩),(171,⟨true,lK,[(0,1),(1,1),(2,1),(3,1),(4,1),(5,1),(6,1),(7,1),(8,1)]⟩),(190,⟨true,ir,[(0,1),(1,1),(2,1),(3,1),(4,1),(5,1)]⟩),(202,⟨true,iD,[(0,1),(1,1),(2,1),(3,1)]⟩),(219,⟨true,aje,[(0,1),(1,1),(2,1),(3,1),(4,1)]⟩),(223,⟨true,TIp,[(0,1),(1,1),(2,1),(3,1),(4,1),(5,1),(6,1)]⟩),(234,⟨true,sr,[(0,1),(1,1),(2,1),(3,1)]⟩),(236,⟨true,ru,[(0,1),(1,1),(2,1)]⟩),(255,⟨true,jZ,[(0,1),(1,5),(6,1)]⟩),(312,⟨true,AG,[(0,1),(1,1),(2,1),(3,1),(4,1),(5,1)]⟩),(368,⟨false,(.sl CL),[(398,0)]⟩),(371,⟨false,(.sl AG),[(312,0)]⟩),(385,⟨false,(.int .u32),[]⟩),(398,⟨true,CL,[(0,1),(1,1)]⟩)],eqs:=[(76,[.int,.int,.int,.int,.int,.int,.int,.int,.int,.int,.int,.int,.int,.int,.int,.str]),(78,[.int,.int,.int,.int,.int,.int,.int,.int,.int,.int,.int,.int,.int,.int,.int,.str,.int,.int]),(98,[.int,.int,.int,.int,.int,.bool,.int,.int]),(161,[.int,.int,.int,.int,.int]),(163,[.int,.int,.int,.int,.int,.int,.str,.bool]),(312,[.int,.int,.int,.int,.int,.int])],fts:=[]}
theorem base:Sound Tryz.prog E Dy.nil:=Sound.nil (aaj (by kernel_rfl)) (aam (by kernel_rfl)) (aal (by kernel_rfl)) (by kernel_rfl)
structure SG where (g:Dy) (s:Sound Tryz.prog E g)
def SG.add (S:SG){F:lH}(h:ND f F):SG:=⟨S.g.add f F,S.s.add h⟩
def G0:SG:=⟨Dy.nil,base⟩
def SG.q0 (S:SG){fn:Func}(an:An)(hf:Tryz.prog.funcs[f]?=some fn)(s:aw PS)(rs:aw (Bool×FT))(F:Er s->az (rj rs))(hn:(fn.name== "runtime.NumGoroutine")=false:=by kernel_rfl)(hl:iM (fn.body.getD .skip)=[]:=by kernel_rfl)(fU:an.cut=[]:=by rfl)(hF:∀a,FP E S.g an kC.nil fn rs (ot s a)=F a:=by intro a;kernel_rfl):SG:=S.add (jl.of (ac1 S.s hf hn (DF.of (Fn.hF hl nF) fU)) hF)
def SG.qk (S:SG){fn:Func}(an:An)(hf:Tryz.prog.funcs[f]?=some fn)(s:aw PS)(rs:aw (Bool×FT))(F:Er s->az (rj rs)){l:aw Code}(h:∀c∈l,uL E S.g an Λ c)(hn:(fn.name== "runtime.NumGoroutine")=false:=by kernel_rfl)(hl:iM (fn.body.getD .skip)=l:=by kernel_rfl)(fU:an.cut=[]:=by kernel_rfl)(hF:∀a,FP E S.g an Λ fn rs (ot s a)=F a:=by intro a;kernel_rfl):SG:=S.add (jl.of (ac1 S.s hf hn (DF.of (Fn.hF hl h) fU)) hF)
def SG.qc (S:SG){fn:Func}(an:An)(hf:Tryz.prog.funcs[f]?=some fn)(s:aw PS)(rs:aw (Bool×FT))(F:Er s->az (rj rs)){l m:aw Code}(h:∀c∈l,uL E S.g an Λ c)(hc:∀c∈m,Mz E S.g an Λ c)(hn:(fn.name== "runtime.NumGoroutine")=false:=by kernel_rfl)(hl:iM (fn.body.getD .skip)=l:=by kernel_rfl)(hm:la an.cut (fn.body.getD .skip)=m:=by kernel_rfl)(hF:∀a,FP E S.g an Λ fn rs (ot s a)=F a:=by intro a;kernel_rfl):SG:=S.add (jl.of (ac1 S.s hf hn ⟨Fn.hF hl h,Fn.hF hm hc⟩) hF)
def SG.q1 (S:SG){fn:Func}(an:An)(hf:Tryz.prog.funcs[f]?=some fn)(s:aw PS)(rs:aw (Bool×FT))(F:Er s->az (rj rs))(d:SD)(t:{R:Type}->SD.D d->(Ex->AS->az R)->(σ->az R)->σ->az R)(i:SD.D d->σ)(w:SD.D d->σ->SD.D d)(h1:(kC.nil.add (eZ (cA fn 0)) (vU d t i)) (eZ (cA fn 0))=vU d t i:=by kernel_rfl)(h:∀(R:Type)(X:SD.D d)(K:nJ R)(m:Nat)(x:σ),Ed (an.mask (eZ (cA fn 0))) (den E S.g an (kC.nil.add (eZ (cA fn 0)) (vU d t i)) (cA fn 0)) (m+1) (SD.enc d (w X x)) K=t X K (λy=>Ed (an.mask (eZ (cA fn 0))) (den E S.g an (kC.nil.add (eZ (cA fn 0)) (vU d t i)) (cA fn 0)) m (SD.enc d (w X y)) K) x:=by intro R X K m x;kernel_rfl)(hw:∀X,w X (i X)=X:=by intro X;kernel_rfl)(hn:(fn.name== "runtime.NumGoroutine")=false:=by kernel_rfl)(hl:iM (fn.body.getD .skip)=[cA fn 0]:=by kernel_rfl)(fU:an.cut=[]:=by kernel_rfl)(hF:∀a,FP E S.g an (kC.nil.add (eZ (cA fn 0)) (vU d t i)) fn rs (ot s a)=F a:=by intro a;kernel_rfl):SG:=S.add (jl.of (ac1 S.s hf hn (DF.of (Fn.hF hl (cF (lk d t i w h1 h hw) nF)) fU)) hF)
def G7:=G0.q0 {} func7 [pd (.sl (.int .u8))] [rB] (c1 LF)
def G11:=G7.q0 {} func11 [pd (.sl (.int .u8)),pI] [rI] (c2 PA)
abbrev ajC:SD:=⟨cD (iX .str)::cD (iX .str)::B::B::DB::DI::bs 20 [],zs 26 [],.none⟩
def G14:=G11.q1 {mask:=mk [(4,[0,1,4,5])]} func14 [pd (.sl .str),pd (.sl .str)] [rB] (c2 sQ) ajC (λX K=>xL (λy0=>ke 0 K ajC ((z3 (u y0) X.1),X.2)) (λy0 y1=>kr K ajC ((z2 (w y0 (u y1)) X.1),X.2)) X.1.1 X.1.2.1 (q2 X)) q3 (λX x=>((z3 (u x) X.1),X.2))
def arj:An:={mask:=mk [(3,[0,3,4]),(7,[0,3,4,5])]}
abbrev V6:SD:=⟨cD .str::B::B::DI::DI::DI::bs 26 [],zs 32 [],.none⟩
def amA (X:SD.D V6)(K:nJ R):=qY (λy0 y1=>ke 2 K V6 ((z1 (w y0 (z1 (u y1))) X.1),X.2)) X.1.1 (q2 X)
abbrev V5:SD:=⟨cD .str::B::B::DI::DI::bs 27 [],zs 32 [],.none⟩
def amz (X:SD.D V5)(K:nJ R):=vu (λy0 y1=>ke 0 K V5 ((z1 (w y0 (u y1)) X.1),X.2)) X.1.1
def ar1:kC:=(kC.nil.add 7 (vU V6 amA (λX=>(X.1.2.1,q3 X)))).add 3 (vU V5 amz (λX=>(X.1.2.1,q2 X)))
theorem aqS:uL E G14.g arj ar1 (cA f183 1):=lk V6 amA (λX=>(X.1.2.1,q3 X)) λX x=>((z1 (w x.1 (z1 (u x.2))) X.1),X.2)
theorem aqR:uL E G14.g arj ar1 (cA f183 0):=lk V5 amz (λX=>(X.1.2.1,q2 X)) λX x=>((z1 (w x.1 (u x.2)) X.1),X.2)
def aur:=G14.qk arj func183 [pd .str] [rI] (c1 Dq) (cF aqR (cF aqS nF))
def atJ:=aur.q0 {} func117 [pd .str] [rS] (c1 yr)
def G42:=atJ.q0 {merge:=mg [(1,16)]} func42 [pd .str] [rS,rB] (c1 Ah)
def avN:=G42.q0 {merge:=mg [(1,6)]} func304 [pd .str,pI,pI] [rB] (c3 ph)
def auM:=avN.q0 {} func215 [pd .str,pI] [rI] (c2 eT)
def auN:=auM.q0 {} func216 [pd .str,pI] [rI] (c2 gK)
def atX:=auN.q0 {merge:=mg [(1,6)]} func144 [pI,pI,pI] [rB] (c3 aH)
def auO:=atX.q0 {merge:=mg [(1,2)]} func217 [pf aje] [rB] (c1 zn)
def atK:=auO.q0 {sb:=mg [(4,4)]} func118 [pd .str] [(true,Y22),rB] (c1 Ar)
def auq:=atK.q0 {} func182 [pI] [rS] (c1 eU)
def avP:=auq.q0 {} func306 [pI] [rS] (c1 cy)
def axf:=avP.q0 {merge:=mg [(1,12)]} func423 [pI,pI] [rI] (c2 mU)
abbrev aj5:SD:=⟨cD .str::B::B::DI::DI::bs 28 [],zs 33 [],.none⟩
def awD:=axf.q1 {mask:=mk [(3,[0,3,4])]} func376 [pd .str] [rI] (c1 Aw) aj5 (λX K=>ur (λy0 y1=>ke 0 K aj5 ((z1 (w y0 (u y1)) X.1),X.2)) X.1.1) (λX=>(X.1.2.1,q2 X)) (λX x=>((z1 (w x.1 (u x.2)) X.1),X.2))
def avR:=awD.q0 {} func308 [pd .str] [rI] (c1 lu)
def avS:=avR.q0 {} func309 [pd .str,pI,pd .str] [rS] (c3 eR)
def awC:=avS.q0 {merge:=mg [(1,2)]} func375 [pf TIp] [rB] (c1 I4)
def avO:=awC.q0 {} func305 [pf TIp] [rS,rB] (c1 Aq)
def auP:=avO.q0 {} func218 [pf TIp] [rS,rB] (c1 xW)
def atL:=auP.q0 {merge:=mg [(2,22),(6,56)],sb:=mg [(5,5)]} func119 [pd .str] [(true,Y37),rB] (c1 Cd)
def auR:=atL.q0 {merge:=mg [(1,18),(4,2),(5,2)]} func220 [pf E0] [rB] (c1 ti)
def avQ:=auR.q0 {merge:=mg [(1,27)]} func307 [pI,pI,pI,pI] [rS,rB] (c4 kA)
def auQ:=avQ.q0 {merge:=mg [(14,82)]} func219 [pI,pI,pf E0] [rS,rB] (c3 ky)
def atM:=auQ.q0 {merge:=mg [(3,20),(9,44),(12,68)]} func120 [pI,pI,pI,pd .str] [(true,(.pair (.int .i64) Y37)),rB] (c4 se)
def atN:=atM.q0 {merge:=mg [(1,55),(3,3),(4,2)]} func121 [pf cj] [rB] (c1 gM)
def G43:=atN.q0 {merge:=mg [(2,20)]} func43 [pd .str] [(true,Y1),rI] (c1 jd)
def G44:=G43.q0 {merge:=mg [(1,2)]} func44 [pf cj] [rB] (c1 jV)
def G15:=G44.q0 {} func15 [pd .str] [(true,Y1),rI] (c1 lR)
def e25:lH:=acR Y23 [pd (.sl (.int .u8))] λa=>Ek a.1
def n25:An:={mask:=mk [(3,[0,3,4])],merge:=mg [(3,15)]}
abbrev ae8:SD:=⟨cD (iX (.int .u8))::B::B::DI::DI::bs 27 [],zs 32 [],.none⟩
def apm (X:SD.D ae8)(K:nJ R):=Dr (λy0 y1=>ke 0 K ae8 ((z1 (w y0 (u y1)) X.1),X.2)) X.1.1
def L25:kC:=kC.nil.add 3 (vU ae8 apm (λX=>(X.1.2.1,q2 X)))
theorem asZ:uL E G15.g n25 L25 (cA f25 0):=lk ae8 apm (λX=>(X.1.2.1,q2 X)) λX x=>((z1 (w x.1 (u x.2)) X.1),X.2)
theorem o25:ND 25 e25:=jl.atn (asl (Γ:=G15.g) (an:=n25) (Λ:=L25) (G15.s) func25 (by kernel_rfl) (ao (cF asZ nF))) (λa=>by kernel_rfl)
def G25:=G15.add o25
def axU:lH:=kf (.pair (.sl .Bn (.int .u8)) (.pair (.int .i64) (.int .i64))) [] [rI] λx a=>ll x
theorem ayK:ND 151 axU:=jl.rO (rz (an:={}) (Λ:=kC.nil) (G25.s) func151 (by kernel_rfl) (ao nF)) (λx a=>by kernel_rfl)
def arN:=G25.add ayK
def e60:lH:=kf (.pair (.sl .Bn (.int .u8)) (.pair (.int .i64) (.int .i64))) [pI] [rI] λx a=>dg x a.1
theorem o60:ND 60 e60:=jl.rO (rz (an:={}) (Λ:=kC.nil) (arN.s) func60 (by kernel_rfl) (ao nF)) (λx a=>by kernel_rfl)
def G60:=arN.add o60
def G72:=G60.q0 {} func72 [] [(true,(.sl (.own none) jZ))] (λa=>vz)
def axV:lH:=kf (.pair (.sl .Bn (.int .u8)) (.pair (.int .i64) (.int .i64))) [pI] [rS] λx a=>ln x a.1
def ati:An:={mask:=mk [(5,[0,1,5,6])],mv:=[15]}
abbrev V3:SD:=⟨.ptr 0 0::DI::B::B::B::cD (cM 61440 (.int .u8))::DI::bs 16 [],(some Y9)::zs 22 [],.ptr⟩
def amx (X:SD.D V3)(K:nJ R):=qH (λy0 y1 y2=>ke 0 K V3 ((z1 (w y0 (u y1)) X.1),(u y2 X.2.1),X.2.2)) X.1.1
def arZ:kC:=kC.nil.add 5 (vU V3 amx (λX=>(X.1.2.1,q2 X,X.2.1.1)))
theorem aqP:uL E G72.g ati arZ (cA f178 0):=lk V3 amx (λX=>(X.1.2.1,q2 X,X.2.1.1)) λX x=>((z1 (w x.1 (u x.2.1)) X.1),(u x.2.2 X.2.1),X.2.2)
theorem ayL:ND 178 axV:=jl.rO (rz (Γ:=G72.g) (an:=ati) (Λ:=arZ) (G72.s) func178 (by kernel_rfl) (ao (cF aqP nF))) (λx a=>by kernel_rfl)
def arO:=G72.add ayL
def e73:lH:=kf (.pair (.sl .Bn (.int .u8)) (.pair (.int .i64) (.int .i64))) [] [rS] λx a=>El x
theorem o73:ND 73 e73:=jl.rO (rz (an:={}) (Λ:=kC.nil) (arO.s) func73 (by kernel_rfl) (ao nF)) (λx a=>by kernel_rfl)
def G73:=arO.add o73
def e74:lH:=kf (.pair (.sl .Bn (.int .u8)) (.pair (.int .i64) (.int .i64))) [pI] [rB] λx a=>ga x a.1
theorem o74:ND 74 e74:=jl.rO (rz (an:={}) (Λ:=kC.nil) (G73.s) func74 (by kernel_rfl) (ao nF)) (λx a=>by kernel_rfl)
def G74:=G73.add o74
def e75:lH:=kf (.pair (.sl .Bn (.int .u8)) (.pair (.int .i64) (.int .i64))) [pd (.sl (.int .i64))] [rI] λx a=>di x a.1
theorem o75:ND 75 e75:=jl.rO (rz (an:={}) (Λ:=kC.nil) (G74.s) func75 (by kernel_rfl) (ao nF)) (λx a=>by kernel_rfl)
def G75:=G74.add o75
def avc:=G75.q0 {sb:=mg [(2,2)]} func253 [pf jn] [(true,Y11)] (c1 gA)
def at3:=avc.q0 {mv:=[7]} func155 [pf dm] [(true,(.pair Y11 S1))] (c1 nk)
abbrev acj:SD:=⟨B::.ptr 1 0::DB::DI::bs 41 [],Z::(some Y31)::zs 43 [],.none⟩
def atW:=at3.q1 {mask:=mk [(2,[1,2,3])],merge:=mg [(4,35),(6,2)]} func143 [pf jn] [rB] (c1 gu) acj (λX K=>ua (λy0=>ke 0 K acj ((z1 (u y0) X.1),X.2)) (λy0 y1=>kr K acj ((w y0 (u y1) X.1),X.2)) X.1.1 X.2.1.1) (λX=>X.1.2.1) (λX x=>((z1 (u x) X.1),X.2))
def ave:=atW.q0 {merge:=mg [(1,2)]} func255 [pf dm] [rB] (c1 th)
abbrev acz:SD:=⟨cD (iX (.int .i64))::DI::B::B::DB::DI::bs 12 [],zs 18 [],.none⟩
def apU:=ave.q1 {mask:=mk [(2,[0,1,4,5])]} func342 [pd (.sl (.int .i64)),pI] [rB] (c2 iV) acz (λX K=>yx (λy0=>ke 0 K acz ((z3 (u y0) X.1),X.2)) (λy0 y1=>kr K acz ((z2 (w y0 (u y1)) X.1),X.2)) X.1.1 X.1.2.1 (q2 X)) q3 (λX x=>((z3 (u x) X.1),X.2))
def arn:An:={mask:=mk [(3,[1,5,6]),(7,[1,5,6,7])],merge:=mg [(7,37)],mv:=[55]}
abbrev Wa:SD:=⟨B::cD (iX (.int .i64))::B::B::B::cD (cM 61440 (.int .i64))::DI::DI::bs 48 [],zs 56 [],.none⟩
def amE (X:SD.D Wa)(K:nJ R):=uB (λy0=>ke 2 K Wa ((z3 (u y0) X.1),X.2)) X.1.1 X.1.2.1 (q2 X)
abbrev V9:SD:=⟨B::cD (iX (.int .i64))::B::B::B::cD (cM 61440 (.int .i64))::DI::bs 49 [],zs 56 [],.none⟩
def amD (X:SD.D V9)(K:nJ R):=pt (λy0 y1=>ke 0 K V9 ((z1 (w y0 (u y1)) X.1),X.2)) X.1.1
def ar4:kC:=(kC.nil.add 7 (vU Wa amE q3)).add 3 (vU V9 amD (λX=>(X.1.2.1,q2 X)))
theorem aqW:uL E apU.g arn ar4 (cA f256 1):=lk Wa amE q3 λX x=>((z3 (u x) X.1),X.2)
theorem aqV:uL E apU.g arn ar4 (cA f256 0):=lk V9 amD (λX=>(X.1.2.1,q2 X)) λX x=>((z1 (w x.1 (u x.2)) X.1),X.2)
def apR:=apU.qk arn func256 [pd (.sl (.int .i64)),pd (.sl (.int .i64))] [(false,(.sl (.own none) (.int .i64)))] (c2 vH) (cF aqV (cF aqW nF))
def aro:An:={mask:=mk [(4,[0,2,3]),(9,[0,2,3,4])]}
abbrev Qo:SD:=⟨cD (iX iD)::B::DB::DI::DI::bs 53 [],zs 58 [],.none⟩
def amG (X:SD.D Qo)(K:nJ R):=wa (λy0=>ke 2 K Qo ((z3 (u y0) X.1),X.2)) (λy0 y1=>kr K Qo ((z1 (w y0 (z1 (u y1))) X.1),X.2)) X.1.1 X.1.2.1 (q2 X)
abbrev Qn:SD:=⟨cD (iX iD)::B::DB::DI::bs 54 [],zs 58 [],.none⟩
def amF (X:SD.D Qn)(K:nJ R):=vZ (λy0=>ke 0 K Qn ((z2 (u y0) X.1),X.2)) (λy0 y1=>kr K Qn ((z1 (w y0 (u y1)) X.1),X.2)) X.1.1 X.1.2.1
def ar5:kC:=(kC.nil.add 9 (vU Qo amG q3)).add 4 (vU Qn amF q2)
theorem aqY:uL E apR.g aro ar5 (cA f257 1):=lk Qo amG q3 λX x=>((z3 (u x) X.1),X.2)
theorem aqX:uL E apR.g aro ar5 (cA f257 0):=lk Qn amF q2 λX x=>((z2 (u x) X.1),X.2)
def avf:=apR.qk aro func257 [pd (.sl iD)] [rB] (c1 ng) (cF aqX (cF aqY nF))
abbrev aco:SD:=⟨cD (iX dm)::B::cD (cM 24576 iD)::DB::cD (cM 49152 iD)::DI::bs 58 [],zs 64 [],.none⟩
def at4:=avf.q1 {mask:=mk [(5,[0,2,3,4,5])],mv:=[41,63]} func156 [pd (.sl dm)] [(false,(.sl (.own none) iD)),rB] (c1 nf) aco (λX K=>qE (λy0 y1=>ke 0 K aco ((z3 (w y0 (u y1)) X.1),X.2)) (λy0 y1 y2 y3=>kr K aco ((z1 (w y0 (w y1 (w y2 (u y3)))) X.1),X.2)) X.1.1 X.1.2.1 (q2 X)) (λX=>(q3 X,q4 X)) (λX x=>((z3 (w x.1 (u x.2)) X.1),X.2))
def avg:=at4.q0 {merge:=mg [(1,2)]} func258 [pf (.sl .str)] [rB] (c1 ub)
def G79:=avg.q0 {merge:=mg [(1,15)]} func79 [pI,pd .str] [rS,rB] (c2 oY)
def avh:=G79.q0 {merge:=mg [(2,17),(5,37)]} func259 [pd .str] [rI] (c1 jc)
def at6:=avh.q0 {merge:=mg [(5,23)]} func158 [pf (.sl .str)] [rI] (c1 nt)
def at7:=at6.q0 {merge:=mg [(1,2)]} func159 [pf lJ] [rB] (c1 pP)
def auo:=at7.q0 {merge:=mg [(1,2)]} func179 [pf gT] [rB] (c1 nu)
def av8:=auo.q0 {merge:=mg [(1,33),(3,54),(5,2)]} func338 [pf lK] [rB] (c1 lv)
abbrev acu:SD:=⟨cD (iX lK)::B::DB::DI::bs 15 [],zs 19 [],.none⟩
def au5:=av8.q1 {mask:=mk [(2,[0,2,3])]} func245 [pd (.sl lK)] [rB] (c1 yl) acu (λX K=>wg (λy0=>ke 0 K acu ((z2 (u y0) X.1),X.2)) (λy0 y1=>kr K acu ((z1 (w y0 (u y1)) X.1),X.2)) X.1.1 X.1.2.1) q2 (λX x=>((z2 (u x) X.1),X.2))
abbrev aj7:SD:=⟨B::B::B::DI::cD (cM 49152 (.int .i64))::DI::bs 26 [],zs 32 [],.none⟩
def awQ:=au5.q1 {mask:=mk [(4,[3,4,5])]} func396 [pf og] [rI] (c1 Ao) aj7 (λX K=>oV (λy0 y1=>ke 0 K aj7 ((w y0 (z1 (u y1)) X.1),X.2)) X.1.2.1) (λX=>(X.1.1,q2 X)) (λX x=>((w x.1 (z1 (u x.2)) X.1),X.2))
abbrev acy:SD:=⟨B::B::.ptr 2 0::.ptr 3 0::DI::DI::bs 35 [],Z::Z::(tr (iX jZ))::(tr (cL FH Y0))::zs 37 [],.none⟩
def av9:=awQ.q1 {mask:=mk [(2,[2,3,4,5])],merge:=mg [(7,39)]} func339 [pf (.sl jZ),pf og] [rI] (c2 yt) acy (λX K=>qK (λy0=>ke 0 K acy ((z1 (u y0) X.1),X.2)) (λy0 y1=>kr K acy ((w y0 (u y1) X.1),X.2)) X.1.1 X.2.1.1 X.2.1.2.1) (λX=>X.1.2.1) (λX x=>((z1 (u x) X.1),X.2))
abbrev acv:SD:=⟨B::.ptr 1 0::DB::DI::bs 45 [],Z::(tr (iX jZ))::zs 47 [],.none⟩
def au6:=av9.q1 {mask:=mk [(4,[1,2,3])],merge:=mg [(7,30),(10,42)]} func246 [pf (.sl jZ)] [rB] (c1 yo) acv (λX K=>wj (λy0=>ke 0 K acv ((z1 (u y0) X.1),X.2)) (λy0 y1=>kr K acv ((w y0 (u y1) X.1),X.2)) X.1.1 X.2.1.1) (λX=>X.1.2.1) (λX x=>((z1 (u x) X.1),X.2))
def awa:=au6.q0 {merge:=mg [(1,2)]} func340 [pI] [rB] (c1 Ci)
abbrev acw:SD:=⟨B::DI::.ptr 2 0::B::DB::DI::bs 32 [],Z::Z::(tr (cL .str (iX (.int .i64))))::zs 35 [],.none⟩
def apQ:=awa.q1 {mask:=mk [(4,[1,2,4,5])],merge:=mg [(1,21)]} func247 [pf DH,pI] [rB] (c2 vC) acw (λX K=>um (λy0=>ke 0 K acw ((z2 (u y0) X.1),X.2)) (λy0 y1=>kr K acw ((z1 (w y0 (u y1)) X.1),X.2)) X.1.1 X.1.2.1 X.2.1.1) q2 (λX x=>((z2 (u x) X.1),X.2))
def arf:An:={mask:=mk [(4,[1,2,4,5]),(9,[1,2,4,6])],merge:=mg [(1,23)]}
abbrev Qj:SD:=⟨B::DI::.ptr 2 0::B::DB::DI::bs 50 [],Z::Z::(some Y30)::zs 53 [],.none⟩
def amt (X:SD.D Qj)(K:nJ R):=pZ (λy0=>ke 0 K Qj ((z2 (u y0) X.1),X.2)) (λy0 y1=>kr K Qj ((z1 (w y0 (u y1)) X.1),X.2)) X.1.1 X.1.2.1 X.2.1.1
abbrev Qk:SD:=⟨B::DI::.ptr 2 0::B::DB::B::DI::bs 49 [],Z::Z::(some Y30)::zs 53 [],.none⟩
def amu (X:SD.D Qk)(K:nJ R):=qa (λy0=>ke 2 K Qk ((z2 (u y0) X.1),X.2)) (λy0 y1=>kr K Qk ((z1 (w y0 (u y1)) X.1),X.2)) X.1.1 X.1.2.1 X.2.1.1
def arX:kC:=(kC.nil.add 4 (vU Qj amt q2)).add 9 (vU Qk amu q2)
theorem aqL:uL E apQ.g arf arX (cA f145 0):=lk Qj amt q2 λX x=>((z2 (u x) X.1),X.2)
theorem aqM:uL E apQ.g arf arX (cA f145 1):=lk Qk amu q2 λX x=>((z2 (u x) X.1),X.2)
def atY:=apQ.qk arf func145 [pf oh,pI] [rB] (c2 mD) (cF aqL (cF aqM nF))
def awb:=atY.q0 {} func341 [pf (.sl jZ)] [(true,(.sl (.own none) jZ))] (c1 Cj)
def avd:=awb.q0 {sb:=mg [(2,2)]} func254 [pf oh] [(true,Y29)] (c1 yu)
abbrev ack:SD:=⟨B::.ptr 1 0::DB::cD (cM 36864 .bool)::DI::bs 53 [],Z::(some Y38)::zs 56 [],.none⟩
def atZ:=avd.q1 {mask:=mk [(5,[1,2,3,4])],merge:=mg [(1,20),(7,50)]} func147 [pf nC] [rB] (c1 ji) ack (λX K=>yj (λy0 y1=>ke 0 K ack ((z1 (w y0 (u y1)) X.1),X.2)) (λy0 y1 y2=>kr K ack ((w y0 (w y1 (u y2)) X.1),X.2)) X.1.1 X.2.1.1) (λX=>(X.1.2.1,q2 X)) (λX x=>((z1 (w x.1 (u x.2)) X.1),X.2))
abbrev aj0:SD:=⟨B::B::DI::B::B::B::.ptr 6 0::B::.ptr 8 0::DI::bs 24 [],zs 6 ((tr (jH (jH (jH (cM 73738 (.int .i64))))))::Z::(tr (jH (jH (jH (cM 98314 (.int .i64))))))::zs 25 []),.none⟩
def awj:=atZ.q1 {mask:=mk [(3,[2,6,8,9])],merge:=mg [(3,20)],mv:=[24,33]} func350 [pI,pI,pI] [(true,Y12),rB] (c3 yh) aj0 (λX K=>qD (λy0 y1=>ke 0 K aj0 ((z1 (u y0) X.1),(z1 (u y1) X.2.1),X.2.2)) X.1.1 X.2.1.1) (λX=>(X.1.2.1,X.2.1.2.1)) (λX x=>((z1 (u x.1) X.1),(z1 (u x.2) X.2.1),X.2.2))
def avk:=awj.q0 {mv:=[4,9]} func263 [] [(true,Y35)] (λa=>vG)
abbrev ao3:SD:=⟨DI::cD (.int .u8)::B::B::B::cD (cM 61440 (.int .u8))::DI::bs 13 [],zs 20 [],.none⟩
def G80:=avk.q1 {mask:=mk [(3,[0,1,5,6])]} func80 [pI,pd (.int .u8)] [rS] (c2 fZ) ao3 (λX K=>qG (λy0 y1=>ke 0 K ao3 ((z2 (w y0 (u y1)) X.1),X.2)) X.1.1 X.1.2.1) (λX=>(q2 X,q3 X)) (λX x=>((z2 (w x.1 (u x.2)) X.1),X.2))
def av6:=G80.q0 {merge:=mg [(1,2)]} func336 [pI] [rB] (c1 uy)
def av7:=av6.q0 {} func337 [pf lJ] [rI] (c1 jW)
def au3:=av7.q0 {merge:=mg [(1,2)]} func243 [pf lJ] [rB] (c1 kq)
def au9:=au3.q0 {} func250 [pf (.sl .str)] [(true,(.sl (.own none) .str))] (c1 dK)
def avb:=au9.q0 {sb:=mg [(2,2)]} func252 [pf nC] [(true,Y12)] (c1 jX)
def awf:=avb.q0 {merge:=mg [(1,15)]} func346 [pf nC,pI] [rI] (c2 jD)
def awW:=awf.q0 {} func402 [pf lJ] [rI] (c1 ra)
abbrev ach:SD:=⟨B::.ptr 1 0::DB::DI::bs 18 [],Z::(tr (iX .str))::zs 20 [],.none⟩
def apJ:=awW.q1 {mask:=mk [(2,[1,2,3])]} func140 [pf (.sl .str)] [rB] (c1 qZ) ach (λX K=>uf (λy0=>ke 0 K ach ((z1 (u y0) X.1),X.2)) (λy0 y1=>kr K ach ((w y0 (u y1) X.1),X.2)) X.1.1 X.2.1.1) (λX=>X.1.2.1) (λX x=>((z1 (u x) X.1),X.2))
def are:An:={mask:=mk [(4,[0,2,3]),(10,[0,2,3,4,5])],merge:=mg [(7,34),(12,57)]}
abbrev K5:SD:=⟨cD (iX cX)::B::DB::DI::.ptr 4 0::DI::bs 52 [],zs 4 ((tr (jH (jH (jH .bool))))::zs 53 []),.none⟩
def agb (X:SD.D K5)(K:nJ R):=nX (λy0=>ke 2 K K5 ((z3 (u y0) X.1),X.2)) (λy0 y1=>kr K K5 ((z1 (w y0 (z1 (u y1))) X.1),X.2)) X.1.1 X.1.2.1 (q2 X) X.2.1.1
abbrev Qi:SD:=⟨cD (iX cX)::B::DB::DI::bs 54 [],zs 58 [],.none⟩
def ams (X:SD.D Qi)(K:nJ R):=pU (λy0=>ke 0 K Qi ((z2 (u y0) X.1),X.2)) (λy0 y1=>kr K Qi ((z1 (w y0 (u y1)) X.1),X.2)) X.1.1 X.1.2.1
def arW:kC:=(kC.nil.add 10 (vU K5 agb q3)).add 4 (vU Qi ams q2)
theorem an1:uL E apJ.g are arW (cA f141 1):=lk K5 agb q3 λX x=>((z3 (u x) X.1),X.2)
theorem aqK:uL E apJ.g are arW (cA f141 0):=lk Qi ams q2 λX x=>((z2 (u x) X.1),X.2)
def atU:=apJ.qk are func141 [pd (.sl cX)] [rB] (c1 qB) (cF aqK (cF an1 nF))
abbrev acE:SD:=⟨cD (iX cX)::DI::DI::DB::bs 4 (DI::DI::bs 38 []),zs 48 [],.none⟩
def axl:=atU.q1 {mask:=mk [(2,[0,1,2,3,8,9])],merge:=mg [(4,42)]} func429 [pd (.sl cX),pI,pI,pd .bool] [rI] (c4 Ck) acE (λX K=>wu (λy0=>ke 0 K acE ((z5 (u y0) X.1),X.2)) (λy0 y1=>kr K acE ((z4 (w y0 (u y1)) X.1),X.2)) X.1.1 X.1.2.1 (q2 X) (q3 X) (q4 X)) q5 (λX x=>((z5 (u x) X.1),X.2))
def axm:=axl.q0 {merge:=mg [(2,6)]} func430 [pf (.sl .str),pI,pI] [rB] (c3 lU)
abbrev acB:SD:=⟨cD (iX cX)::B::DI::DI::DI::DB::B::.ptr 7 0::bs 4 (cD (cM 147456 (.int .i64))::cD (cM 159744 (.int .i64))::DB::cD (cM 184320 (.int .i64))::cD (cM 196608 (.int .i64))::bs 66 []),zs 7 ((tr (iX .str))::zs 75 []),.none⟩
def awU:=axm.q1 {mask:=mk [(5,[0,2,3,4,5,7,12,13,14,15,16])],merge:=mg [(3,34),(10,57)],mv:=[35,36,64,71,81,82]} func400 [pd (.sl cX),pf (.sl .str),pI,pI,pI,pd .bool] [(false,(.sl (.own none) (.int .i64))),(false,(.sl (.own none) (.int .i64))),rB] (c6 vD) acB (λX K=>lG (λy0 y1 y2 y3=>ke 0 K acB ((z2 (w y0 (w y1 (z4 (w y2 (u y3))))) X.1),X.2)) (λy0 y1 y2 y3 y4 y5 y6=>kr K acB ((z2 (w y0 (w y1 (z1 (w y2 (w y3 (w y4 (w y5 (u y6)))))))) X.1),X.2)) X.1.1 X.1.2.1 (q4 X) (q5 X) (q6 X) (q7 X) X.2.1.1) (λX=>(q2 X,q3 X,q8 X,q9 X)) (λX x=>((z2 (w x.1 (w x.2.1 (z4 (w x.2.2.1 (u x.2.2.2))))) X.1),X.2))
abbrev akh:SD:=⟨B::DI::cD .str::B::B::B::.ptr 6 0::B::.ptr 8 0::bs 44 [],zs 6 ((tr (cM 73729 .str))::Z::(tr (cM 98305 .str))::zs 44 []),.none⟩
def axp:=awU.q1 {mask:=mk [(4,[1,2,6,8])],mv:=[19,52]} func433 [pf (.sl .str),pI,pd .str] [(true,(.sl (.own none) .str)),rB] (c3 ux) akh (λX K=>oc (λy0 y1 y2=>ke 0 K akh ((w y0 (u y1) X.1),(z1 (u y2) X.2.1),X.2.2)) X.2.1.1) (λX=>(X.1.1,X.1.2.1,X.2.1.2.1)) (λX x=>((w x.1 (u x.2.1) X.1),(z1 (u x.2.2) X.2.1),X.2.2))
abbrev aka:SD:=⟨bs 4 (cD .str::bs 5 (.ptr 10 0::B::cD (.sl .loc (.int .i64))::cD (.sl .loc (.int .i64))::B::.ptr 15 0::DI::bs 44 [])),zs 10 ((tr (cM 122881 .str))::zs 4 ((tr (cM 184321 .str))::zs 45 [])),.none⟩
def awZ:=axp.q1 {mask:=mk [(6,[4,10,12,13,15,16])],mv:=[32,39,52,60],sb:=mg [(15,15)]} func405 [pd (.sl cX),pf (.sl .str),pI,pI,pd .str] [(true,(.sl (.own none) .str)),rB] (c5 nv) aka (λX K=>oO (λy0 y1 y2=>ke 0 K aka ((w y0 (z2 (u y1)) X.1),(z1 (u y2) X.2.1),X.2.2)) X.1.2.1 (q2 X) X.2.1.1) (λX=>(X.1.1,q3 X,X.2.1.2.1)) (λX x=>((w x.1 (z2 (u x.2.1)) X.1),(z1 (u x.2.2) X.2.1),X.2.2))
def axn:=awZ.q0 {merge:=mg [(1,11)]} func431 [pf lJ,pI] [rI] (c2 pe)
def awX:=axn.q0 {merge:=mg [(1,22)],mv:=[26,36,51],mb:=mg [(51,13)],sb:=mg [(10,10),(11,11),(13,13)]} func403 [pd (.sl cX),pf (.sl .str),pI,pf lJ,pd .str] [(true,(.sl (.own none) .str)),(true,Y0),rB] (c5 yk)
def axo:=awX.q0 {merge:=mg [(1,2)]} func432 [pf AG] [rB] (c1 ta)
def awY:=axo.q0 {} func404 [pf AG] [rS] (c1 mC)
abbrev ajZ:SD:=⟨cD (iX cX)::B::DI::bs 5 (.ptr 8 0::.ptr 9 0::.ptr 10 0::.ptr 11 0::.ptr 12 0::B::.ptr 14 0::.ptr 15 0::DI::bs 65 []),zs 8 ((some Y0)::(some Y38)::(tr (cM 122881 .str))::(some Y0)::(tr (jH (jH (jH (cM 147466 (.int .i64))))))::Z::(tr (cM 172033 .str))::(tr (jH (jH (jH (cM 184330 (.int .i64))))))::zs 66 []),.none⟩
def awi:=awY.q1 {mask:=mk [(6,[0,2,8,9,10,11,12,14,15,16])],merge:=mg [(4,32),(6,44)],mv:=[33,35,49,63,68,78,80],mb:=mg [(33,14),(35,15),(78,14),(80,15)],sb:=mg [(10,10),(11,11),(12,12),(18,18),(19,19)]} func349 [pd (.sl cX),pf (.sl .str),pI,pf lJ,pf nC] [(true,(.sl (.own none) .str)),(true,Y0),(true,Y12),rI] (c5 vw) ajZ (λX K=>oQ (λy0 y1 y2 y3=>ke 0 K ajZ ((z2 (u y0) X.1),(w y1 (z4 (w y2 (u y3))) X.2.1),X.2.2)) X.1.1 X.1.2.1 X.2.1.2.1 X.2.1.2.2.1 X.2.1.2.2.2.1 X.2.1.2.2.2.2.1) (λX=>(q2 X,X.2.1.1,X.2.1.2.2.2.2.2.1,X.2.1.2.2.2.2.2.2.1)) (λX x=>((z2 (u x.1) X.1),(w x.2.1 (z4 (w x.2.2.1 (u x.2.2.2))) X.2.1),X.2.2))
abbrev aj1:SD:=⟨cD (iX cX)::B::DI::DI::cD .str::B::.ptr 6 0::B::B::B::.ptr 10 0::B::cD (cM 147456 cX)::DI::bs 25 [],zs 6 ((tr (iX .str))::Z::Z::Z::(tr (cM 122881 .str))::zs 28 []),.none⟩
def arS:=awi.q1 {mask:=mk [(3,[0,2,3,4,6,10,12,13])],mv:=[27]} func351 [pd (.sl cX),pf (.sl .str),pI,pI,pd .str] [(true,(.sl (.own none) .str)),rB] (c5 tf) aj1 (λX K=>rZ (λy0 y1=>ke 0 K aj1 ((z4 (w y0 (u y1)) X.1),X.2)) X.1.1 X.1.2.1 (q2 X) (q3 X) X.2.1.1 X.2.1.2.1) (λX=>(q4 X,q5 X)) (λX x=>((z4 (w x.1 (u x.2)) X.1),X.2))
def axY:lH:=kf (.pair (.sl (.own none) .str) (.pair (.sl (.own none) cX) (.pair (.pair (.pair (.int .i64) (.pair (.int .i64) (.pair (.int .i64) (.int .i64)))) (.pair (.pair (.int .i64) (.pair (.int .i64) (.pair (.int .i64) (.sl (.own none) (.int .i64))))) (.pair (.sl (.own none) ru) (.int .i64)))) (.pair (.sl (.own none) fB) (.pair (.sl (.own none) nC) (.pair (.sl (.own none) ir) (.pair (.sl (.own none) .bool) (.pair (.pair (.int .i64) (.pair .bool (.sl (.own none) (.int .i64)))) (.pair (.pair (.sl (.own none) lK) (.pair (.sl (.own none) jZ) (.pair .str (.sl (.own none) (.int .i64))))) (.pair (.sl (.own none) dU) (.pair .bool (.pair (.sl (.own none) .str) (.pair (.sl (.own none) (.int .i64)) (.pair (.sl (.own none) (.int .i64)) (.pair (.int .i64) (.pair (.int .i64) (.pair (.int .i64) (.pair (.int .i64) (.int .i64))))))))))))))))))) [pI] [] λx a=>qe x a.1
theorem ayO:ND 264 axY:=jl.rO (rz (an:={mv:=[47,51,65,67,84],mb:=mg [(84,6)],sb:=mg [(6,6),(50,0),(70,0),(71,5)]}) (Λ:=kC.nil) (arS.s) func264 (by kernel_rfl) (ao nF)) (λx a=>by kernel_rfl)
def avl:=arS.add ayO
def au8:=avl.q0 {merge:=mg [(1,2)]} func249 [pf ir] [rB] (c1 tj)
def at0:=au8.q0 {merge:=mg [(1,24),(3,2)]} func148 [pf ir] [rB] (c1 hZ)
def avA:=at0.q0 {} func279 [pI,pI] [(true,Y20),rB] (c2 yi)
abbrev ajV:SD:=⟨DI::B::.ptr 2 0::.ptr 3 0::DI::bs 17 [],Z::Z::(tr (cM 24577 .str))::(tr (cM 36865 .str))::zs 18 [],.none⟩
def apS:=avA.q1 {mask:=mk [(3,[0,2,3,4])],merge:=mg [(3,12)],mv:=[16,21],mb:=mg [(16,3)],sb:=mg [(20,3)]} func280 [pI] [(true,(.sl (.own none) .str))] (c1 pa) ajV (λX K=>sc (λy0 y1=>ke 0 K ajV ((z1 (u y0) X.1),(z1 (u y1) X.2.1),X.2.2)) X.1.1 X.2.1.1) (λX=>(X.1.2.1,X.2.1.2.1)) (λX x=>((z1 (u x.1) X.1),(z1 (u x.2) X.2.1),X.2.2))
def ari:An:={mask:=mk [(6,[0,12,14,16,17]),(10,[0,12,14,16,18])],merge:=mg [(2,42)],mv:=[57,74,80,86,92,98],mb:=mg [(57,16)],sb:=mg [(16,16),(67,16)]}
abbrev V4:SD:=⟨DI::bs 11 (.ptr 12 0::B::.ptr 14 0::B::.ptr 16 0::DI::bs 81 []),zs 12 ((some Y14)::Z::(some Y20)::Z::(some Y13)::zs 82 []),.none⟩
def amy (X:SD.D V4)(K:nJ R):=qC (λy0 y1=>ke 0 K V4 ((z1 (u y0) X.1),(z2 (u y1) X.2.1),X.2.2)) X.1.1 X.2.1.1 X.2.1.2.1
abbrev Pq:SD:=⟨DI::bs 11 (.ptr 12 0::B::.ptr 14 0::B::.ptr 16 0::B::DI::bs 80 []),zs 12 ((some Y14)::Z::(some Y20)::Z::(some Y13)::zs 82 []),.none⟩
def agf (X:SD.D Pq)(K:nJ R):=oZ (λy0 y1=>ke 2 K Pq ((z1 (u y0) X.1),(z2 (u y1) X.2.1),X.2.2)) X.1.1 X.2.1.1 X.2.1.2.1
def ar0:kC:=(kC.nil.add 6 (vU V4 amy (λX=>(X.1.2.1,X.2.1.2.2.1)))).add 10 (vU Pq agf (λX=>(X.1.2.1,X.2.1.2.2.1)))
theorem aqQ:uL E apS.g ari ar0 (cA f180 0):=lk V4 amy (λX=>(X.1.2.1,X.2.1.2.2.1)) λX x=>((z1 (u x.1) X.1),(z2 (u x.2) X.2.1),X.2.2)
theorem an5:uL E apS.g ari ar0 (cA f180 1):=lk Pq agf (λX=>(X.1.2.1,X.2.1.2.2.1)) λX x=>((z1 (u x.1) X.1),(z2 (u x.2) X.2.1),X.2.2)
def aup:=apS.qk ari func180 [pI,pf jn,pf oh,pd .bool,pI,pI] [(true,Y2),rB] (c6 uh) (cF aqQ (cF an5 nF))
abbrev akp:SD:=⟨cD (iX dm)::B::DB::bs 4 (.ptr 7 0::B::.ptr 9 0::B::B::.ptr 12 0::DB::B::B::.ptr 16 0::DI::bs 81 []),zs 7 ((some Y30)::Z::(some S1)::Z::Z::(tr (cL (cM 147457 dz) (cL (cM 147460 bm) (cL (cM 147463 dm) (cL (cM 147466 .str) (cL Y0 (cL (cM 147481 (.int .i64)) (cM 147484 .str))))))))::Z::Z::Z::(tr (cL (cM 196609 dz) (cL (cM 196612 bm) (cL (cM 196615 dm) (cL (cM 196618 .str) (cL Y0 (cL (cM 196633 (.int .i64)) (cM 196636 .str))))))))::zs 82 []),.none⟩
def G76:=aup.q1 {mask:=mk [(6,[0,2,7,9,12,13,16,17])],merge:=mg [(3,50)],mv:=[58,67,73,74,79,89,98],mb:=mg [(89,16)],sb:=mg [(18,18),(97,16)]} func76 [pd (.sl dm),pf oh,pd .bool,pf gT,pf (.sl .str),pI] [(true,Y8),rB] (c6 ug) akp (λX K=>vY (λy0 y1=>ke 0 K akp ((z3 (u y0) X.1),(z3 (u y1) X.2.1),X.2.2)) (λy0 y1 y2 y3=>kr K akp ((z2 (w y0 (u y1)) X.1),(z2 (w y2 (u y3)) X.2.1),X.2.2)) X.1.1 X.1.2.1 (q2 X) X.2.1.1 X.2.1.2.1 X.2.1.2.2.1) (λX=>(q3 X,X.2.1.2.2.2.1)) (λX x=>((z3 (u x.1) X.1),(z3 (u x.2) X.2.1),X.2.2))
def ax0:lH:=kf (.pair (.sl .Bn (.int .u8)) (.pair (.int .i64) (.int .i64))) [] [(true,Y11)] λx a=>yw x
theorem ayQ:ND 281 ax0:=jl.rO (rz (an:={mv:=[11]}) (Λ:=kC.nil) (G76.s) func281 (by kernel_rfl) (ao nF)) (λx a=>by kernel_rfl)
def arP:=G76.add ayQ
def axW:lH:=kf (.pair (.sl .Bn (.int .u8)) (.pair (.int .i64) (.int .i64))) [] [(true,(.pair Y11 S1))] λx a=>Em x
theorem ayM:ND 181 axW:=jl.rO (rz (an:={}) (Λ:=kC.nil) (arP.s) func181 (by kernel_rfl) (ao nF)) (λx a=>by kernel_rfl)
def ana:=arP.add ayM
def e77:lH:=kf (.pair (.sl .Bn (.int .u8)) (.pair (.int .i64) (.int .i64))) [] [(false,(.sl (.own none) dm))] λx a=>AB x
def n77:An:={mask:=mk [(3,[0,3,4])],mv:=[22,23,26]}
abbrev aff:SD:=⟨.ptr 0 0::B::B::cD (cM 36864 dm)::DI::bs 22 [],(some Y9)::zs 26 [],.ptr⟩
def apA (X:SD.D aff)(K:nJ R):=zB (λy0 y1 y2=>ke 0 K aff ((w y0 (u y1) X.1),(u y2 X.2.1),X.2.2))
def L77:kC:=kC.nil.add 3 (vU aff apA (λX=>(X.1.1,X.1.2.1,X.2.1.1)))
theorem atc:uL E ana.g n77 L77 (cA f77 0):=lk aff apA (λX=>(X.1.1,X.1.2.1,X.2.1.1)) λX x=>((w x.1 (u x.2.1) X.1),(u x.2.2 X.2.1),X.2.2)
theorem o77:ND 77 e77:=jl.rO (rz (Γ:=ana.g) (an:=n77) (Λ:=L77) (ana.s) func77 (by kernel_rfl) (ao (cF atc nF))) (λx a=>by kernel_rfl)
def G77:=ana.add o77
def e85:lH:=kf (.pair (.sl .Bn (.int .u8)) (.pair (.int .i64) (.int .i64))) [] [rS] λx a=>vF x
theorem o85:ND 85 e85:=jl.rO (rz (an:={}) (Λ:=kC.nil) (G77.s) func85 (by kernel_rfl) (ao nF)) (λx a=>by kernel_rfl)
def G85:=G77.add o85
def e78:lH:=kf (.pair (.sl .Bn (.int .u8)) (.pair (.int .i64) (.int .i64))) [] [(true,(.sl (.own none) .str))] λx a=>AA x
def n78:An:={mask:=mk [(3,[0,2,3,4])],mv:=[18,28],mb:=mg [(18,3)],sb:=mg [(27,3)]}
abbrev afg:SD:=⟨.ptr 0 0::B::.ptr 2 0::.ptr 3 0::DI::bs 24 [],(some Y9)::Z::(tr (cM 24577 .str))::(tr (cM 36865 .str))::zs 25 [],.ptr⟩
def apB (X:SD.D afg)(K:nJ R):=zw (λy0 y1 y2=>ke 0 K afg ((u y0 X.1),(w y1 (z1 (u y2)) X.2.1),X.2.2)) X.2.1.2.1
def L78:kC:=kC.nil.add 3 (vU afg apB (λX=>(X.1.1,X.2.1.1,X.2.1.2.2.1)))
theorem atd:uL E G85.g n78 L78 (cA f78 0):=lk afg apB (λX=>(X.1.1,X.2.1.1,X.2.1.2.2.1)) λX x=>((u x.1 X.1),(w x.2.1 (z1 (u x.2.2)) X.2.1),X.2.2)
theorem o78:ND 78 e78:=jl.rO (rz (Γ:=G85.g) (an:=n78) (Λ:=L78) (G85.s) func78 (by kernel_rfl) (ao (cF atd nF))) (λx a=>by kernel_rfl)
def G78:=G85.add o78
def e26:lH:=kf (.pair (.sl .Bn (.int .u8)) (.pair (.int .i64) (.int .i64))) [] [(true,Y8)] λx a=>En x
def n26:An:={mask:=mk [(2,[0,2,3]),(1000006,[0,2,3]),(1000007,[0,2,3]),(1000008,[0,2,3]),(1000009,[0,2,3]),(1000014,[0,2,3,4]),(1000015,[0,2,3])],cut:=[3,4,7],mv:=[35,49,52,66,80,82],sb:=mg [(6,6),(11,11),(36,0),(39,0),(43,0),(45,0)]}
abbrev Hl:SD:=⟨.ptr 0 0::B::.ptr 2 0::DI::.ptr 4 0::bs 78 [],(some Y9)::Z::(some Y5)::Z::(tr (cL (cM 49153 lK) (cL (cM 49156 jZ) (cL .str (cM 49162 (.int .i64))))))::zs 78 [],.ptr⟩
abbrev K8:SD:=⟨.ptr 0 0::B::.ptr 2 0::DI::bs 79 [],(some Y9)::Z::(some Y5)::zs 80 [],.ptr⟩
def OF (X:SD.D Hl)(K:nJ R):az R:=tn (λy0=>kn K K8 ((X.1.1,()),(y0,(X.2.1.2.1,())),())) (λy0 y1=>kr K K8 ((X.1.1,()),(y0,(y1,())),())) X.1.1 X.2.1.1 X.2.1.2.1 X.2.1.2.2.1
abbrev DS:SD:=⟨.ptr 0 0::B::.ptr 2 0::DI::bs 79 [],(some Y9)::Z::(some Y5)::zs 80 [],.ptr⟩
def OD (X:SD.D DS)(K:nJ R):az R:=tk (λy0=>kn K DS ((u y0 X.1),X.2)) X.1.1 X.2.1.1 X.2.1.2.1
abbrev AH:SD:=⟨.ptr 0 0::B::.ptr 2 0::DI::bs 79 [],(some Y9)::Z::(some Y5)::zs 80 [],.ptr⟩
def OE (X:SD.D AH)(K:nJ R):az R:=yy (λy0 y1=>kn K AH ((u y0 X.1),(u y1 X.2.1),X.2.2)) (λy0 y1=>kr K AH (X.1,(w y0 (u y1) X.2.1),X.2.2)) X.1.1 X.2.1.1 X.2.1.2.1
abbrev Yq:SD:=⟨.ptr 0 0::B::.ptr 2 0::DI::bs 79 [],(some Y9)::Z::(some Y5)::zs 80 [],.ptr⟩
def apn (X:SD.D Yq)(K:nJ R):=Ds (λy0 y1=>ke 0 K Yq ((u y0 X.1),(u y1 X.2.1),X.2.2)) (λy0 y1 y2=>kr K Yq ((u y0 X.1),(w y1 (u y2) X.2.1),X.2.2)) X.2.1.2.1
def L26:kC:=(((kC.nil.add 1000014 (PB Hl OF)).add 1000006 (PB DS OD)).add 1000008 (PB AH OE)).add 2 (vU Yq apn (λX=>(X.1.1,X.2.1.1)))
theorem Z2:Mz E G78.g n26 L26 (jo n26.cut f26 1):=ck Hl OF
theorem Z0:Mz E G78.g n26 L26 (jo n26.cut f26 2):=ck DS OD
theorem Z1:Mz E G78.g n26 L26 (jo n26.cut f26 0):=ck AH OE
theorem as0:uL E G78.g n26 L26 (cA f26 0):=lk Yq apn (λX=>(X.1.1,X.2.1.1)) λX x=>((u x.1 X.1),(u x.2 X.2.1),X.2.2)
theorem o26:ND 26 e26:=jl.rO (rz (Γ:=G78.g) (an:=n26) (Λ:=L26) (G78.s) func26 (by kernel_rfl) (ac (cF as0 nF) (cF Z1 (cF Z2 (cF Z0 nF))))) (λx a=>by kernel_rfl)
def G26:=G78.add o26
def ax1:lH:=kf (.pair (.sl .Bn (.int .u8)) (.pair (.int .i64) (.int .i64))) [] [rI] λx a=>Cf x
theorem ayR:ND 282 ax1:=jl.rO (rz (an:={}) (Λ:=kC.nil) (G26.s) func282 (by kernel_rfl) (ao nF)) (λx a=>by kernel_rfl)
def arQ:=G26.add ayR
def ax4:lH:=kf (.pair (.sl .Bn (.int .u8)) (.pair (.int .i64) (.int .i64))) [] [rI] λx a=>Ax x
theorem ayU:ND 367 ax4:=jl.rO (rz (an:={}) (Λ:=kC.nil) (arQ.s) func367 (by kernel_rfl) (ao nF)) (λx a=>by kernel_rfl)
def arT:=arQ.add ayU
def ax2:lH:=kf (.pair (.sl .Bn (.int .u8)) (.pair (.int .i64) (.int .i64))) [pI] [(true,(.pair (.int .i64) Y37))] λx a=>wo x a.1
theorem ayS:ND 283 ax2:=jl.rO (rz (an:={}) (Λ:=kC.nil) (arT.s) func283 (by kernel_rfl) (ao nF)) (λx a=>by kernel_rfl)
def arR:=arT.add ayS
def axX:lH:=kf (.pair (.sl .Bn (.int .u8)) (.pair (.int .i64) (.int .i64))) [pI] [(true,Y1)] λx a=>pj x a.1
theorem ayN:ND 184 axX:=jl.rO (rz (an:={}) (Λ:=kC.nil) (arR.s) func184 (by kernel_rfl) (ao nF)) (λx a=>by kernel_rfl)
def SZ:=arR.add ayN
def e81:lH:=kf (.pair (.sl .Bn (.int .u8)) (.pair (.int .i64) (.int .i64))) [pI] [(false,(.sl (.own none) cj))] λx a=>Cg x a.1
def n81:An:={mask:=mk [(5,[0,5,6,7,8]),(1000012,[0,5,6,7,8]),(1000013,[0,5,6,7,8]),(1000014,[0,5,6,7,8]),(1000015,[0,5,6,7,8]),(1000018,[0,5,6,7,8]),(1000019,[0,5,6,7,8]),(1000022,[0,5,6,7,8]),(1000023,[0,5,6,7,8]),(1000028,[0,5,6,7,8]),(1000029,[0,5,6,7,8]),(1000034,[0,5,6,7,8,64]),(1000035,[0,5,6,7,8])],cut:=[6,7,9,11,14,17],mv:=[47,76]}
abbrev Hq:SD:=⟨.ptr 0 0::bs 4 (cD (cM 61440 cj)::.ptr 6 0::DI::DI::bs 55 (DB::bs 12 [])),(some Y9)::zs 5 ((some Y1)::zs 70 []),.ptr⟩
abbrev Wo:SD:=⟨.ptr 0 0::bs 4 (cD (cM 61440 cj)::.ptr 6 0::DI::DI::bs 68 []),(some Y9)::zs 5 ((some Y1)::zs 70 []),.ptr⟩
def OT (X:SD.D Hq)(K:nJ R):az R:=zv (λy0=>kn K Wo ((X.1.1,(X.1.2.1,(X.1.2.2.1,()))),(X.2.1.1,(y0,())),())) X.1.1 X.1.2.1 (q2 X) (q3 X) X.2.1.1 X.2.1.2.1
abbrev D1:SD:=⟨.ptr 0 0::bs 4 (cD (cM 61440 cj)::.ptr 6 0::DI::DI::bs 68 []),(some Y9)::zs 5 ((some Y1)::zs 70 []),.ptr⟩
def OS (X:SD.D D1)(K:nJ R):az R:=po (λy0 y1 y2=>kn K D1 ((u y0 X.1),(w y1 (u y2) X.2.1),X.2.2)) X.1.1 X.1.2.1 (q2 X) X.2.1.1 X.2.1.2.1
abbrev D0:SD:=⟨.ptr 0 0::bs 4 (cD (cM 61440 cj)::.ptr 6 0::DI::DI::bs 68 []),(some Y9)::zs 5 ((some Y1)::zs 70 []),.ptr⟩
def OR (X:SD.D D0)(K:nJ R):az R:=pk (λy0 y1 y2=>kn K D0 ((u y0 X.1),(w y1 (u y2) X.2.1),X.2.2)) X.1.1 X.1.2.1 (q2 X) X.2.1.1 X.2.1.2.1
abbrev DZ:SD:=⟨.ptr 0 0::bs 4 (cD (cM 61440 cj)::.ptr 6 0::DI::DI::bs 68 []),(some Y9)::zs 5 ((some Y1)::zs 70 []),.ptr⟩
def OQ (X:SD.D DZ)(K:nJ R):az R:=qJ (λy0 y1 y2 y3=>kn K DZ ((w y0 (u y1) X.1),(w y2 (u y3) X.2.1),X.2.2)) X.1.1 X.1.2.1 (q2 X) X.2.1.1 X.2.1.2.1
abbrev DX:SD:=⟨.ptr 0 0::bs 4 (cD (cM 61440 cj)::.ptr 6 0::DI::DI::bs 68 []),(some Y9)::zs 5 ((some Y1)::zs 70 []),.ptr⟩
def OO (X:SD.D DX)(K:nJ R):az R:=qI (λy0=>kn K DX ((z2 (u y0) X.1),X.2)) X.1.1 X.1.2.1 (q2 X) X.2.1.1 X.2.1.2.1
abbrev DY:SD:=⟨.ptr 0 0::bs 4 (cD (cM 61440 cj)::.ptr 6 0::DI::DI::bs 68 []),(some Y9)::zs 5 ((some Y1)::zs 70 []),.ptr⟩
def OP (X:SD.D DY)(K:nJ R):az R:=wq (λy0 y1 y2 y3 y4=>kn K DY ((w y0 (w y1 (u y2)) X.1),(w y3 (u y4) X.2.1),X.2.2)) X.1.1 X.1.2.1 (q2 X) X.2.1.1 X.2.1.2.1
abbrev afh:SD:=⟨.ptr 0 0::bs 4 (cD (cM 61440 cj)::.ptr 6 0::DI::DI::bs 68 []),(some Y9)::zs 5 ((some Y1)::zs 70 []),.ptr⟩
def apC (X:SD.D afh)(K:nJ R):=Bw (λy0 y1 y2 y3 y4=>ke 0 K afh ((w y0 (w y1 (u y2)) X.1),(w y3 (u y4) X.2.1),X.2.2))
def L81:kC:=((((((kC.nil.add 1000034 (PB Hq OT)).add 1000028 (PB D1 OS)).add 1000022 (PB D0 OR)).add 1000018 (PB DZ OQ)).add 1000012 (PB DX OO)).add 1000014 (PB DY OP)).add 5 (vU afh apC (λX=>(X.1.1,X.1.2.1,q2 X,X.2.1.1,X.2.1.2.1)))
theorem aag:Mz E SZ.g n81 L81 (jo n81.cut f81 4):=ck Hq OT
theorem aaf:Mz E SZ.g n81 L81 (jo n81.cut f81 3):=ck D1 OS
theorem aae:Mz E SZ.g n81 L81 (jo n81.cut f81 2):=ck D0 OR
theorem aad:Mz E SZ.g n81 L81 (jo n81.cut f81 1):=ck DZ OQ
theorem aab:Mz E SZ.g n81 L81 (jo n81.cut f81 5):=ck DX OO
theorem aac:Mz E SZ.g n81 L81 (jo n81.cut f81 0):=ck DY OP
theorem ate:uL E SZ.g n81 L81 (cA f81 0):=lk afh apC (λX=>(X.1.1,X.1.2.1,q2 X,X.2.1.1,X.2.1.2.1)) λX x=>((w x.1 (w x.2.1 (u x.2.2.1)) X.1),(w x.2.2.2.1 (u x.2.2.2.2) X.2.1),X.2.2)
theorem o81:ND 81 e81:=jl.rO (rz (Γ:=SZ.g) (an:=n81) (Λ:=L81) (SZ.s) func81 (by kernel_rfl) (ac (cF ate nF) (cF aac (cF aad (cF aae (cF aaf (cF aag (cF aab nF)))))))) (λx a=>by kernel_rfl)
def G81:=SZ.add o81
def awx:=G81.q0 {} func368 [pI] [rS] (c1 jj)
def avB:=awx.q0 {} func284 [pf aje] [rS,rB] (c1 Ag)
def avC:=avB.q0 {} func285 [pd .str] [rS] (c1 Cc)
def aus:=avC.q0 {} func185 [pf cj] [rS,rB] (c1 hY)
def G82:=aus.q0 {} func82 [pf cj] [rS,rB] (c1 mz)
def e83:lH:=kf (.pair (.sl .Bn (.int .u8)) (.pair (.int .i64) (.int .i64))) [pf cj,pI] [(true,Y1)] λx a=>tp x a.1 a.2.1
theorem o83:ND 83 e83:=jl.rO (rz (an:={}) (Λ:=kC.nil) (G82.s) func83 (by kernel_rfl) (ao nF)) (λx a=>by kernel_rfl)
def G83:=G82.add o83
def e84:lH:=kf (.pair (.sl .Bn (.int .u8)) (.pair (.int .i64) (.int .i64))) [] [(true,S1)] λx a=>wy x
theorem o84:ND 84 e84:=jl.rO (rz (an:={}) (Λ:=kC.nil) (G83.s) func84 (by kernel_rfl) (ao nF)) (λx a=>by kernel_rfl)
def G84:=G83.add o84
def e27:lH:=kf (.pair (.sl .Bn (.int .u8)) (.pair (.int .i64) (.int .i64))) [pI,pd .bool] [(false,(.sl (.own none) eo))] λx a=>Cm x a.1 a.2.1
def Xb:An:={mask:=mk [(4,[0,1,2,7,8,9]),(42,[0,7,14]),(1000010,[0,1,2,7,8,9]),(1000011,[0,1,2,7,8,9]),(1000012,[0,1,2,7,8,9]),(1000013,[0,1,2,7,8,9]),(1000038,[0,1,2,7,8,9,10,11,30,46]),(1000039,[0,1,2,7,8,9,11]),(1000050,[0,1,2,7,8,9,10,11,30,63]),(1000051,[0,1,2,7,8,9,11]),(1000074,[0,1,2,7,8,9,11]),(1000075,[0,1,2,7,8,9]),(1000086,[0,7,14]),(1000087,[0,7,14]),(1000088,[0,7,14]),(1000089,[0,7,14]),(1000090,[0,7,14,158]),(1000091,[0,7,14])],cut:=[5,6,19,25,37,43,44,45],merge:=mg [(44,158)],mv:=[83,110,116,124,164]}
abbrev Hn:SD:=⟨.ptr 0 0::DI::DB::bs 4 (cD (cM 86016 eo)::cD (cM 98304 cj)::DI::DI::.ptr 11 0::bs 18 (DI::bs 32 (DB::bs 101 []))),(some Y9)::zs 10 ((some Y19)::zs 153 []),.ptr⟩
abbrev Wd:SD:=⟨.ptr 0 0::DI::DB::bs 4 (cD (cM 86016 eo)::cD (cM 98304 cj)::DI::B::.ptr 11 0::bs 153 []),(some Y9)::zs 10 ((some Y19)::zs 153 []),.ptr⟩
def OJ (X:SD.D Hn)(K:nJ R):az R:=jF (λy0 y1 y2=>kn K Wd ((X.1.1,(X.1.2.1,(y0,(X.1.2.2.2.1,(X.1.2.2.2.2.1,()))))),(y1,(y2,())),())) X.1.1 X.1.2.1 (q2 X) (q3 X) (q4 X) (q5 X) (q6 X) (q7 X) X.2.1.1 X.2.1.2.1
abbrev Hm:SD:=⟨.ptr 0 0::DI::DB::bs 4 (cD (cM 86016 eo)::cD (cM 98304 cj)::DI::DI::.ptr 11 0::bs 18 (DI::bs 15 (DB::bs 118 []))),(some Y9)::zs 10 ((some Y19)::zs 153 []),.ptr⟩
abbrev Wc:SD:=⟨.ptr 0 0::DI::DB::bs 4 (cD (cM 86016 eo)::cD (cM 98304 cj)::DI::B::.ptr 11 0::bs 153 []),(some Y9)::zs 10 ((some Y19)::zs 153 []),.ptr⟩
def OI (X:SD.D Hm)(K:nJ R):az R:=jE (λy0 y1 y2=>kn K Wc ((X.1.1,(X.1.2.1,(y0,(X.1.2.2.2.1,(X.1.2.2.2.2.1,()))))),(y1,(y2,())),())) X.1.1 X.1.2.1 (q2 X) (q3 X) (q4 X) (q5 X) (q6 X) (q7 X) X.2.1.1 X.2.1.2.1
abbrev Ho:SD:=⟨.ptr 0 0::DI::DB::bs 4 (cD (cM 86016 eo)::cD (cM 98304 cj)::DI::B::.ptr 11 0::bs 153 []),(some Y9)::zs 10 ((some Y19)::zs 153 []),.ptr⟩
abbrev We:SD:=⟨.ptr 0 0::DI::DB::bs 4 (cD (cM 86016 eo)::cD (cM 98304 cj)::DI::bs 155 []),(some Y9)::zs 164 [],.ptr⟩
def OK (X:SD.D Ho)(K:nJ R):az R:=jG (λy0 y1=>kn K We ((X.1.1,(X.1.2.1,(y0,(X.1.2.2.2.1,(X.1.2.2.2.2.1,()))))),(y1,()),())) X.1.1 X.1.2.1 (q2 X) (q3 X) (q4 X) X.2.1.1 X.2.1.2.1
abbrev DT:SD:=⟨.ptr 0 0::DI::DB::bs 4 (cD (cM 86016 eo)::cD (cM 98304 cj)::DI::bs 155 []),(some Y9)::zs 164 [],.ptr⟩
def OG (X:SD.D DT)(K:nJ R):az R:=mE (λy0=>kn K DT ((z4 (u y0) X.1),X.2)) X.1.1 X.1.2.1 (q2 X) (q3 X) (q4 X) X.2.1.1
abbrev DU:SD:=⟨.ptr 0 0::DI::DB::bs 4 (cD (cM 86016 eo)::cD (cM 98304 cj)::DI::bs 155 []),(some Y9)::zs 164 [],.ptr⟩
def OH (X:SD.D DU)(K:nJ R):az R:=wB (λy0 y1 y2=>kn K DU ((z2 (w y0 (z1 (u y1))) X.1),(u y2 X.2.1),X.2.2)) X.1.1 X.1.2.1 (q2 X) (q3 X) (q4 X) X.2.1.1
abbrev ae9:SD:=⟨.ptr 0 0::DI::DB::bs 4 (cD (cM 86016 eo)::cD (cM 98304 cj)::DI::bs 155 []),(some Y9)::zs 164 [],.ptr⟩
def apo (X:SD.D ae9)(K:nJ R):=BA (λy0 y1 y2=>ke 0 K ae9 ((z2 (w y0 (z1 (u y1))) X.1),(u y2 X.2.1),X.2.2)) X.1.1 X.1.2.1 (q3 X)
abbrev Hp:SD:=⟨.ptr 0 0::bs 6 (cD (cM 86016 eo)::bs 6 (DI::bs 143 (DB::bs 6 []))),(some Y9)::zs 164 [],.ptr⟩
abbrev Wf:SD:=⟨.ptr 0 0::bs 6 (cD (cM 86016 eo)::bs 6 (DI::bs 150 [])),(some Y9)::zs 164 [],.ptr⟩
def ON (X:SD.D Hp)(K:nJ R):az R:=zy (λy0=>kn K Wf ((y0,(X.1.2.1,())),(X.2.1.1,()),())) X.1.1 X.1.2.1 (q2 X) X.2.1.1
abbrev DV:SD:=⟨.ptr 0 0::bs 6 (cD (cM 86016 eo)::bs 6 (DI::bs 150 [])),(some Y9)::zs 164 [],.ptr⟩
def OL (X:SD.D DV)(K:nJ R):az R:=uA (λy0=>kn K DV ((z1 (u y0) X.1),X.2)) X.1.1 X.1.2.1 X.2.1.1
abbrev DW:SD:=⟨.ptr 0 0::bs 6 (cD (cM 86016 eo)::bs 6 (DI::bs 150 [])),(some Y9)::zs 164 [],.ptr⟩
def OM (X:SD.D DW)(K:nJ R):az R:=zx (λy0 y1=>kn K DW ((w y0 (u y1) X.1),X.2)) X.1.1 X.1.2.1 X.2.1.1
abbrev Wg:SD:=⟨.ptr 0 0::bs 6 (cD (cM 86016 eo)::bs 6 (DI::bs 150 [])),(some Y9)::zs 164 [],.ptr⟩
def amI (X:SD.D Wg)(K:nJ R):=zA (λy0 y1=>ke 3 K Wg ((w y0 (u y1) X.1),X.2)) X.2.1.1
def L27:kC:=(((((((((kC.nil.add 1000050 (PB Hn OJ)).add 1000038 (PB Hm OI)).add 1000074 (PB Ho OK)).add 1000010 (PB DT OG)).add 1000012 (PB DU OH)).add 4 (vU ae9 apo (λX=>(q2 X,q4 X,X.2.1.1)))).add 1000090 (PB Hp ON)).add 1000086 (PB DV OL)).add 1000088 (PB DW OM)).add 42 (vU Wg amI (λX=>(X.1.1,X.1.2.1)))
theorem Z6:Mz E G84.g Xb L27 (jo Xb.cut f27 2):=ck Hn OJ
theorem Z5:Mz E G84.g Xb L27 (jo Xb.cut f27 1):=ck Hm OI
theorem Z7:Mz E G84.g Xb L27 (jo Xb.cut f27 3):=ck Ho OK
theorem Z3:Mz E G84.g Xb L27 (jo Xb.cut f27 4):=ck DT OG
theorem Z4:Mz E G84.g Xb L27 (jo Xb.cut f27 0):=ck DU OH
theorem as1:uL E G84.g Xb L27 (cA f27 0):=lk ae9 apo (λX=>(q2 X,q4 X,X.2.1.1)) λX x=>((z2 (w x.1 (z1 (u x.2.1))) X.1),(u x.2.2 X.2.1),X.2.2)
theorem aaa:Mz E G84.g Xb L27 (jo Xb.cut f27 6):=ck Hp ON
theorem Z8:Mz E G84.g Xb L27 (jo Xb.cut f27 7):=ck DV OL
theorem Z9:Mz E G84.g Xb L27 (jo Xb.cut f27 5):=ck DW OM
theorem aq0:uL E G84.g Xb L27 (cA f27 1):=lk Wg amI (λX=>(X.1.1,X.1.2.1)) λX x=>((w x.1 (u x.2) X.1),X.2)
theorem o27:ND 27 e27:=jl.rO (rz (Γ:=G84.g) (an:=Xb) (Λ:=L27) (G84.s) func27 (by kernel_rfl) (ac (cF as1 (cF aq0 nF)) (cF Z4 (cF Z5 (cF Z6 (cF Z7 (cF Z3 (cF Z9 (cF aaa (cF Z8 nF)))))))))) (λx a=>by kernel_rfl)
def G27:=G84.add o27
def at2:=G27.q0 {} func152 [pf cj] [(true,(.pair (.int .i64) Y0))] (c1 tc)
abbrev acn:SD:=⟨cD (iX dU)::B::B::.ptr 3 0::DI::DI::bs 14 [],Z::Z::Z::(tr (cL FH Y0))::zs 16 [],.none⟩
def am9:=at2.q1 {mask:=mk [(2,[0,3,4,5])]} func153 [pd (.sl dU),pf og] [rI] (c2 pg) acn (λX K=>nZ (λy0=>ke 0 K acn ((z2 (u y0) X.1),X.2)) (λy0 y1=>kr K acn ((z1 (w y0 (u y1)) X.1),X.2)) X.1.1 X.1.2.1 X.2.1.1) q2 (λX x=>((z2 (u x) X.1),X.2))
def e61:lH:=kf (.pair (.sl .Bn (.int .u8)) (.pair (.int .i64) (.int .i64))) [pd (.sl cj)] [(false,(.sl (.own none) dU))] λx a=>Ch x a.1
def n61:An:={mask:=mk [(3,[0,1,5,6])],mv:=[45,52],sb:=mg [(41,0)]}
abbrev afa:SD:=⟨.ptr 0 0::cD (iX cj)::B::B::B::cD (cM 61440 dU)::DI::bs 46 [],(some Y9)::zs 52 [],.ptr⟩
def apv (X:SD.D afa)(K:nJ R):=Bx (λy0 y1 y2=>ke 0 K afa ((z1 (w y0 (u y1)) X.1),(u y2 X.2.1),X.2.2)) X.1.1
def L61:kC:=kC.nil.add 3 (vU afa apv (λX=>(X.1.2.1,q2 X,X.2.1.1)))
theorem as7:uL E am9.g n61 L61 (cA f61 0):=lk afa apv (λX=>(X.1.2.1,q2 X,X.2.1.1)) λX x=>((z1 (w x.1 (u x.2.1)) X.1),(u x.2.2 X.2.1),X.2.2)
theorem o61:ND 61 e61:=jl.rO (rz (Γ:=am9.g) (an:=n61) (Λ:=L61) (am9.s) func61 (by kernel_rfl) (ao (cF as7 nF))) (λx a=>by kernel_rfl)
def G61:=am9.add o61
def n19:An:={mask:=mk [(6,[2,4,5,6,7,8,13]),(14,[2,4,5,6,7,11,13]),(1000014,[2,4,5,6,7,8,13]),(1000015,[2,4,5,6,7,8,13]),(1000016,[2,4,5,6,7,8,13]),(1000017,[2,4,5,6,7,8,13]),(1000018,[2,4,5,6,7,8,13,45]),(1000019,[2,4,5,6,7,8,13]),(1000020,[2,4,5,6,7,8,13]),(1000021,[2,4,5,6,7,8,13]),(1000032,[2,4,5,6,7,11,13]),(1000033,[2,4,5,6,7,11,13])],cut:=[7,8,9,10,16],merge:=mg [(8,45)],mv:=[46,67,86,87],sb:=mg [(16,13),(20,13),(81,13)],er:=mg [(83,7)]}
abbrev Hk:SD:=⟨B::B::.ptr 2 0::B::.ptr 13 0::.ptr 5 0::cD (cM 73728 eo)::cD (cM 86016 cj)::DI::bs 4 (.ptr 13 0::bs 31 (DB::bs 42 [])),Z::Z::(some Y5)::Z::Z::(some Y7)::zs 7 ((some Y23)::zs 74 []),.none⟩
abbrev V7:SD:=⟨B::B::.ptr 2 0::B::.ptr 13 0::.ptr 5 0::cD (cM 73728 eo)::cD (cM 86016 cj)::DI::bs 4 (.ptr 13 0::bs 74 []),Z::Z::(some Y5)::Z::Z::(some Y7)::zs 7 ((some Y23)::zs 74 []),.none⟩
def OA (X:SD.D Hk)(K:nJ R):az R:=yb (λy0=>kn K V7 ((X.1.1,(y0,(X.1.2.2.1,()))),(X.2.1.1,(X.2.1.2.1,(X.2.1.2.2.1,()))),())) X.1.1 X.1.2.1 (q2 X) (q3 X) X.2.1.1 X.2.1.2.1 X.2.1.2.2.1
abbrev DQ:SD:=⟨B::B::.ptr 2 0::B::.ptr 13 0::.ptr 5 0::cD (cM 73728 eo)::cD (cM 86016 cj)::DI::bs 4 (.ptr 13 0::bs 74 []),Z::Z::(some Y5)::Z::Z::(some Y7)::zs 7 ((some Y23)::zs 74 []),.none⟩
def OB (X:SD.D DQ)(K:nJ R):az R:=pR (λy0=>kn K DQ ((z1 (u y0) X.1),X.2)) X.1.1 X.1.2.1 (q2 X) X.2.1.1 X.2.1.2.1 X.2.1.2.2.1
abbrev DN:SD:=⟨B::B::.ptr 2 0::B::.ptr 13 0::.ptr 5 0::cD (cM 73728 eo)::cD (cM 86016 cj)::DI::bs 4 (.ptr 13 0::bs 74 []),Z::Z::(some Y5)::Z::Z::(some Y7)::zs 7 ((some Y23)::zs 74 []),.none⟩
def Oy (X:SD.D DN)(K:nJ R):az R:=rT (λy0=>kn K DN ((z2 (u y0) X.1),X.2)) X.1.1 X.1.2.1 (q2 X) X.2.1.1 X.2.1.2.1 X.2.1.2.2.1
abbrev DP:SD:=⟨B::B::.ptr 2 0::B::.ptr 13 0::.ptr 5 0::cD (cM 73728 eo)::cD (cM 86016 cj)::DI::bs 4 (.ptr 13 0::bs 74 []),Z::Z::(some Y5)::Z::Z::(some Y7)::zs 7 ((some Y23)::zs 74 []),.none⟩
def Oz (X:SD.D DP)(K:nJ R):az R:=ya (λy0 y1=>kn K DP ((z1 (w y0 (u y1)) X.1),X.2)) X.1.1 X.1.2.1 (q2 X) X.2.1.1 X.2.1.2.1 X.2.1.2.2.1
abbrev ae7:SD:=⟨B::B::.ptr 2 0::B::.ptr 13 0::.ptr 5 0::cD (cM 73728 eo)::cD (cM 86016 cj)::DI::bs 4 (.ptr 13 0::bs 74 []),Z::Z::(some Y5)::Z::Z::(some Y7)::zs 7 ((some Y23)::zs 74 []),.none⟩
def apl (X:SD.D ae7)(K:nJ R):=rU (λy0 y1=>ke 0 K ae7 ((z1 (w y0 (u y1)) X.1),X.2)) X.1.1 X.2.1.1 X.2.1.2.1 X.2.1.2.2.1
abbrev DR:SD:=⟨B::B::.ptr 2 0::B::.ptr 13 0::.ptr 5 0::cD (cM 73728 eo)::cD (cM 86016 cj)::B::B::B::DI::B::.ptr 13 0::bs 74 [],Z::Z::(some Y5)::Z::Z::(some Y7)::zs 7 ((some Y23)::zs 74 []),.none⟩
def OC (X:SD.D DR)(K:nJ R):az R:=wM (λy0 y1 y2=>kn K DR ((z2 (u y0) X.1),(z1 (w y1 (u y2)) X.2.1),X.2.2)) X.1.1 X.1.2.1 (q2 X) X.2.1.1 X.2.1.2.1 X.2.1.2.2.1
abbrev V8:SD:=⟨B::B::.ptr 2 0::B::.ptr 13 0::.ptr 5 0::cD (cM 73728 eo)::cD (cM 86016 cj)::B::B::B::DI::B::.ptr 13 0::bs 74 [],Z::Z::(some Y5)::Z::Z::(some Y7)::zs 7 ((some Y23)::zs 74 []),.none⟩
def amB (X:SD.D V8)(K:nJ R):=wN (λy0 y1 y2=>ke 2 K V8 ((z2 (u y0) X.1),(z1 (w y1 (u y2)) X.2.1),X.2.2)) X.1.1 X.1.2.1 X.2.1.1
def L19:kC:=((((((kC.nil.add 1000018 (PB Hk OA)).add 1000020 (PB DQ OB)).add 1000014 (PB DN Oy)).add 1000016 (PB DP Oz)).add 6 (vU ae7 apl (λX=>(X.1.2.1,q2 X)))).add 1000032 (PB DR OC)).add 14 (vU V8 amB (λX=>(q2 X,X.2.1.2.1,X.2.1.2.2.1)))
theorem ZX:Mz E G61.g n19 L19 (jo n19.cut f19 1):=ck Hk OA
theorem ZY:Mz E G61.g n19 L19 (jo n19.cut f19 2):=ck DQ OB
theorem ZV:Mz E G61.g n19 L19 (jo n19.cut f19 3):=ck DN Oy
theorem ZW:Mz E G61.g n19 L19 (jo n19.cut f19 0):=ck DP Oz
theorem asY:uL E G61.g n19 L19 (cA f19 0):=lk ae7 apl (λX=>(X.1.2.1,q2 X)) λX x=>((z1 (w x.1 (u x.2)) X.1),X.2)
theorem ZZ:Mz E G61.g n19 L19 (jo n19.cut f19 4):=ck DR OC
theorem aqT:uL E G61.g n19 L19 (cA f19 1):=lk V8 amB (λX=>(q2 X,X.2.1.2.1,X.2.1.2.2.1)) λX x=>((z2 (u x.1) X.1),(z1 (w x.2.1 (u x.2.2)) X.2.1),X.2.2)
def G19:=G61.qc n19 func19 [pd (.sl (.int .u8))] [(true,Y8),(false,(.sl (.own none) eo))] (c1 xZ) (cF asY (cF aqT nF)) (cF ZW (cF ZX (cF ZY (cF ZV (cF ZZ nF)))))
abbrev ajN:SD:=⟨B::.ptr 1 0::.ptr 2 0::.ptr 3 0::DI::bs 36 [],Z::(some Y17)::(tr (cL Y0 (cL (jH (jH (jH (cM 24598 (.int .i64))))) (cL (cM 24601 ru) FH))))::(tr (cL Y0 (cL (jH (jH (jH (cM 36886 (.int .i64))))) (cL (cM 36889 ru) FH))))::zs 37 [],.none⟩
def ava:=G19.q1 {mask:=mk [(3,[1,2,3,4])],mv:=[27,40],mb:=mg [(27,3)],sb:=mg [(3,3),(39,3)]} func251 [pf mF] [(true,Y35)] (c1 jY) ajN (λX K=>wx (λy0 y1=>ke 0 K ajN ((u y0 X.1),(z2 (u y1) X.2.1),X.2.2)) X.2.1.1 X.2.1.2.1) (λX=>(X.1.1,X.2.1.2.2.1)) (λX x=>((u x.1 X.1),(z2 (u x.2) X.2.1),X.2.2))
abbrev ajD:SD:=⟨B::.ptr 1 0::.ptr 2 0::.ptr 3 0::DI::bs 78 [],Z::(some Y3)::(some Y4)::(tr (cL (cM 36865 .str) (cL (cM 36868 cX) (cL (cL Y0 (cL (jH (jH (jH (cM 36892 (.int .i64))))) (cL (cM 36895 ru) FH))) (cL (cM 36901 fB) (cL (cM 36904 nC) (cL (iX ir) (cL (iX .bool) (cL Y31 (cL Y30 (cL (iX dU) (cL .bool (cL (iX .str) (cL (iX (.int .i64)) (cL (iX (.int .i64)) (cL FH Y0))))))))))))))))::zs 79 [],.none⟩
def apL:=ava.q1 {mask:=mk [(8,[1,2,3,4])],mv:=[34,82],mb:=mg [(34,3)],sb:=mg [(43,3)]} func154 [pf dz] [(true,Y2)] (c1 iP) ajD (λX K=>wA (λy0 y1=>ke 0 K ajD ((u y0 X.1),(z2 (u y1) X.2.1),X.2.2)) X.2.1.1 X.2.1.2.1) (λX=>(X.1.1,X.2.1.2.2.1)) (λX x=>((u x.1 X.1),(z2 (u x.2) X.2.1),X.2.2))
def n62:An:={mask:=mk [(3,[1,2,3,4]),(7,[1,2,3,5])],mv:=[35,53,63],mb:=mg [(35,3),(53,3)],sb:=mg [(3,3),(44,3),(62,3)]}
abbrev afb:SD:=⟨B::.ptr 1 0::.ptr 2 0::.ptr 3 0::DI::bs 59 [],Z::(some Y15)::(some Y5)::(some Y32)::zs 60 [],.none⟩
def apw (X:SD.D afb)(K:nJ R):=wD (λy0 y1=>ke 0 K afb ((u y0 X.1),(z2 (u y1) X.2.1),X.2.2)) X.2.1.1 X.2.1.2.1
abbrev afc:SD:=⟨B::.ptr 1 0::.ptr 2 0::.ptr 3 0::B::DI::bs 58 [],Z::(some Y15)::(some Y5)::(some Y32)::zs 60 [],.none⟩
def apx (X:SD.D afc)(K:nJ R):=wE (λy0 y1=>ke 2 K afc ((u y0 X.1),(z2 (u y1) X.2.1),X.2.2)) X.2.1.1 X.2.1.2.1
def L62:kC:=(kC.nil.add 3 (vU afb apw (λX=>(X.1.1,X.2.1.2.2.1)))).add 7 (vU afc apx (λX=>(X.1.1,X.2.1.2.2.1)))
theorem as8:uL E apL.g n62 L62 (cA f62 0):=lk afb apw (λX=>(X.1.1,X.2.1.2.2.1)) λX x=>((u x.1 X.1),(z2 (u x.2) X.2.1),X.2.2)
theorem as9:uL E apL.g n62 L62 (cA f62 1):=lk afc apx (λX=>(X.1.1,X.2.1.2.2.1)) λX x=>((u x.1 X.1),(z2 (u x.2) X.2.1),X.2.2)
def G62:=apL.qk n62 func62 [pf sq] [(true,Y8)] (c1 lp) (cF as8 (cF as9 nF))
def au4:=G62.q0 {merge:=mg [(3,21)],mv:=[10,24]} func244 [pf nC,pd (.sl (.int .i64))] [(true,Y12),rB] (c2 ig)
abbrev aci:SD:=⟨B::.ptr 1 0::DB::DI::cD (cM 49152 (.int .i64))::DI::bs 68 [],Z::(some Y17)::zs 72 [],.none⟩
def atV:=au4.q1 {mask:=mk [(6,[1,2,3,4,5])],merge:=mg [(1,24),(9,50),(14,2)],mv:=[55]} func142 [pf mF] [rB] (c1 CH) aci (λX K=>yq (λy0 y1 y2=>ke 0 K aci ((z1 (w y0 (w y1 (u y2))) X.1),X.2)) (λy0 y1 y2 y3=>kr K aci ((w y0 (w y1 (w y2 (u y3))) X.1),X.2)) X.1.1 X.2.1.1) (λX=>(X.1.2.1,q2 X,q3 X)) (λX x=>((z1 (w x.1 (w x.2.1 (u x.2.2))) X.1),X.2))
def au7:=atV.q0 {merge:=mg [(1,2)]} func248 [pf gT] [rB] (c1 pX)
def apK:=au7.q0 {merge:=mg [(1,42),(5,2)]} func146 [pf fB] [rB] (c1 zu)
def n56:An:={mask:=mk [(5,[1,2,3,4]),(11,[2,5,6])],merge:=mg [(2,64),(7,94)]}
abbrev Yv:SD:=⟨B::.ptr 1 0::DB::DI::DI::bs 118 [],Z::(some Y3)::zs 121 [],.none⟩
def apu (X:SD.D Yv)(K:nJ R):=yf (λy0=>ke 0 K Yv ((z2 (u y0) X.1),X.2)) (λy0 y1=>kr K Yv ((w y0 (z1 (u y1)) X.1),X.2)) X.1.1 X.1.2.1 X.2.1.1
abbrev Qq:SD:=⟨B::B::DB::B::B::cD (cM 61440 (.int .i64))::DI::bs 116 [],zs 123 [],.none⟩
def amP (X:SD.D Qq)(K:nJ R):=vX (λy0=>ke 2 K Qq ((z2 (u y0) X.1),X.2)) (λy0 y1=>kr K Qq ((w y0 (z1 (u y1)) X.1),X.2)) X.1.1 X.1.2.1
def L56:kC:=(kC.nil.add 5 (vU Yv apu q2)).add 11 (vU Qq amP q2)
theorem as6:uL E apK.g n56 L56 (cA f56 0):=lk Yv apu q2 λX x=>((z2 (u x) X.1),X.2)
theorem aq7:uL E apK.g n56 L56 (cA f56 1):=lk Qq amP q2 λX x=>((z2 (u x) X.1),X.2)
def G56:=apK.qk n56 func56 [pf dz] [rB] (c1 jh) (cF as6 (cF aq7 nF))
def arh:An:={mask:=mk [(4,[0,1,4,5]),(10,[0,1,4,5,6,7])],merge:=mg [(7,51),(12,74)]}
abbrev K6:SD:=⟨cD (iX bm)::cD (iX iD)::B::B::DB::DI::.ptr 6 0::DI::bs 67 [],zs 6 ((some Y42)::zs 68 []),.none⟩
def agc (X:SD.D K6)(K:nJ R):=mY (λy0=>ke 2 K K6 ((z4 (u y0) X.1),X.2)) (λy0 y1=>kr K K6 ((z2 (w y0 (z1 (u y1))) X.1),X.2)) X.1.1 X.1.2.1 (q2 X) (q3 X) X.2.1.1
abbrev Ql:SD:=⟨cD (iX bm)::cD (iX iD)::B::B::DB::DI::bs 69 [],zs 75 [],.none⟩
def amv (X:SD.D Ql)(K:nJ R):=nV (λy0=>ke 0 K Ql ((z3 (u y0) X.1),X.2)) (λy0 y1=>kr K Ql ((z2 (w y0 (u y1)) X.1),X.2)) X.1.1 X.1.2.1 (q2 X)
def arY:kC:=(kC.nil.add 10 (vU K6 agc q4)).add 4 (vU Ql amv q3)
theorem an2:uL E G56.g arh arY (cA f157 1):=lk K6 agc q4 λX x=>((z4 (u x) X.1),X.2)
theorem aqN:uL E G56.g arh arY (cA f157 0):=lk Ql amv q3 λX x=>((z3 (u x) X.1),X.2)
def at5:=G56.qk arh func157 [pd (.sl bm),pd (.sl iD)] [rB] (c2 oU) (cF aqN (cF an2 nF))
abbrev acm:SD:=⟨cD (iX (.int .i64))::cD (iX (.int .i64))::B::B::DB::DI::bs 20 [],zs 26 [],.none⟩
def at1:=at5.q1 {mask:=mk [(4,[0,1,4,5])]} func150 [pd (.sl (.int .i64)),pd (.sl (.int .i64))] [rB] (c2 Mk) acm (λX K=>G3 (λy0=>ke 0 K acm ((z3 (u y0) X.1),X.2)) (λy0 y1=>kr K acm ((z2 (w y0 (u y1)) X.1),X.2)) X.1.1 X.1.2.1 (q2 X)) q3 (λX x=>((z3 (u x) X.1),X.2))
def at8:=at1.q0 {merge:=mg [(1,4)]} func160 [pf jn,pf jn] [rB] (c2 wO)
abbrev akn:SD:=⟨B::.ptr 1 0::DB::B::B::DI::DI::bs 93 [],Z::(some Y15)::zs 98 [],.none⟩
def G63:=at8.q1 {mask:=mk [(6,[1,2,5,6])],merge:=mg [(3,50),(8,99)]} func63 [pf sq] [rB] (c1 mV) akn (λX K=>xY (λy0=>ke 0 K akn ((z2 (u y0) X.1),X.2)) (λy0 y1=>kr K akn ((w y0 (z1 (u y1)) X.1),X.2)) X.1.1 X.1.2.1 X.2.1.1) q2 (λX x=>((z2 (u x) X.1),X.2))
def at9:=G63.q0 {merge:=mg [(1,12),(3,31),(5,2)]} func161 [pf ajd] [rB] (c1 Dp)
abbrev akf:SD:=⟨B::DI::.ptr 2 0::B::.ptr 4 0::B::.ptr 6 0::DI::bs 44 [],Z::Z::(some Y31)::Z::(some Y40)::Z::(some Y39)::zs 45 [],.none⟩
def axj:=at9.q1 {mask:=mk [(3,[1,2,4,6,7])],merge:=mg [(3,23),(6,48)],mv:=[51],sb:=mg [(40,6)]} func427 [pf jn,pI] [(true,Y11),rB] (c2 B9) akf (λX K=>qz (λy0=>ke 0 K akf ((z1 (u y0) X.1),X.2)) X.1.1 X.2.1.1 X.2.1.2.1 X.2.1.2.2.1) (λX=>X.1.2.1) (λX x=>((z1 (u x) X.1),X.2))
abbrev akg:SD:=⟨B::DI::.ptr 2 0::B::.ptr 4 0::B::.ptr 6 0::DI::bs 40 [],Z::Z::(some Y31)::Z::(some Y40)::Z::(some Y39)::zs 41 [],.none⟩
def axk:=axj.q1 {mask:=mk [(6,[1,2,4,6,7])],merge:=mg [(2,19)],mv:=[20,38,47],mb:=mg [(38,6)],sb:=mg [(46,6)]} func428 [pf jn,pI] [(true,Y11),rB] (c2 Ai) akg (λX K=>tZ (λy0 y1=>ke 0 K akg ((z1 (u y0) X.1),(z2 (u y1) X.2.1),X.2.2)) X.1.1 X.2.1.1 X.2.1.2.1) (λX=>(X.1.2.1,X.2.1.2.2.1)) (λX x=>((z1 (u x.1) X.1),(z2 (u x.2) X.2.1),X.2.2))
def awR:=axk.q0 {mv:=[21,30,39,46],mb:=mg [(39,6)],sb:=mg [(4,4)]} func397 [pf jn,pf gT] [(true,Y11),rI] (c2 wz)
def awc:=awR.q0 {merge:=mg [(6,33)],mv:=[12,18,34,35,51],mb:=mg [(18,6),(51,6)],sb:=mg [(4,4)],fm:=[53]} func343 [pf dm,pf gT] [(true,(.pair Y11 S1)),rI] (c2 pS)
abbrev ajO:SD:=⟨cD (iX dm)::DI::B::B::B::.ptr 5 0::B::B::cD (cM 98304 dm)::DI::bs 69 [],zs 5 ((some S1)::zs 73 []),.none⟩
def avi:=awc.q1 {mask:=mk [(3,[0,1,5,8,9])],mv:=[21,29,36,40,48,78],sb:=mg [(10,10)]} func260 [pd (.sl dm),pI,pf gT] [(false,(.sl (.own none) dm)),rI] (c3 wC) ajO (λX K=>qf (λy0 y1=>ke 0 K ajO ((z2 (w y0 (u y1)) X.1),X.2)) X.1.1 X.1.2.1 X.2.1.1) (λX=>(q2 X,q3 X)) (λX x=>((z2 (w x.1 (u x.2)) X.1),X.2))
def aua:=avi.q0 {merge:=mg [(2,26)],mv:=[27,28,36,49]} func162 [pf sq,pI,pf gT] [(true,Y8),rI] (c3 pO)
def awd:=aua.q0 {merge:=mg [(4,2),(5,2)]} func344 [pf sr] [rB] (c1 uc)
abbrev ajP:SD:=⟨B::B::DI::B::.ptr 4 0::B::.ptr 6 0::.ptr 7 0::cD .str::DI::bs 73 [],zs 4 ((tr (jH (jH (jH .str))))::Z::(tr (cM 73729 .str))::(tr (cM 86017 .str))::zs 75 []),.none⟩
def avj:=awd.q1 {mask:=mk [(9,[2,4,6,7,8,9])],merge:=mg [(2,26)],mv:=[27,47,82]} func261 [pf (.sl .str),pf sr,pI] [(true,(.sl (.own none) .str))] (c3 lF) ajP (λX K=>uT (λy0 y1=>ke 0 K ajP ((z1 (w y0 (u y1)) X.1),X.2)) X.1.1 X.2.1.1 X.2.1.2.1 X.2.1.2.2.1) (λX=>(X.1.2.1,q2 X)) (λX x=>((z1 (w x.1 (u x.2)) X.1),X.2))
abbrev ajE:SD:=⟨B::cD (iX sr)::DI::DI::bs 4 (.ptr 8 0::.ptr 9 0::DI::bs 40 []),zs 8 ((tr (cM 98305 .str))::(tr (cM 110593 .str))::zs 41 []),.none⟩
def aub:=avj.q1 {mask:=mk [(5,[1,2,3,8,9,10])],merge:=mg [(2,21),(5,31)],mv:=[22,50],sb:=mg [(9,9)]} func163 [pf (.sl .str),pd (.sl sr),pI,pI] [(true,(.sl (.own none) .str))] (c4 ym) ajE (λX K=>yn (λy0 y1=>ke 0 K ajE ((z3 (u y0) X.1),(z1 (u y1) X.2.1),X.2.2)) X.1.1 X.1.2.1 (q2 X) X.2.1.1) (λX=>(q3 X,X.2.1.2.1)) (λX x=>((z3 (u x.1) X.1),(z1 (u x.2) X.2.1),X.2.2))
abbrev ajF:SD:=⟨B::cD .str::B::B::B::cD (cM 61440 sr)::DI::DI::bs 50 [],zs 58 [],.none⟩
def auc:=aub.q1 {mask:=mk [(9,[1,5,6,7])],merge:=mg [(2,21)],mv:=[22,26,37,51]} func164 [pf (.sl .str),pd .str] [(false,(.sl (.own none) sr))] (c2 uw) ajF (λX K=>kY (λy0 y1=>ke 0 K ajF ((z1 (w y0 (z1 (u y1))) X.1),X.2)) X.1.1 (q2 X)) (λX=>(X.1.2.1,q3 X)) (λX x=>((z1 (w x.1 (z1 (u x.2))) X.1),X.2))
abbrev aj9:SD:=⟨B::DI::DI::.ptr 3 0::bs 4 (cD .str::bs 35 []),Z::Z::Z::(tr (iX .str))::zs 40 [],.none⟩
def awV:=auc.q1 {mask:=mk [(4,[1,2,3,8])]} func401 [pf (.sl .str),pI,pI] [rS,rB] (c3 qF) aj9 (λX K=>lS (λy0 y1 y2=>ke 0 K aj9 ((w y0 (w y1 (u y2)) X.1),X.2)) X.2.1.1) (λX=>(X.1.1,X.1.2.1,q2 X)) (λX x=>((w x.1 (w x.2.1 (u x.2.2)) X.1),X.2))
abbrev ajY:SD:=⟨bs 6 (.ptr 6 0::bs 5 (cD (.sl .loc (.int .i64))::cD (.sl .loc (.int .i64))::B::cD .str::DI::bs 37 [])),zs 6 ((tr (iX .str))::zs 47 []),.none⟩
def awg:=awV.q1 {mask:=mk [(6,[6,12,13,15,16])]} func347 [pd (.sl cX),pf (.sl .str),pI,pI,pI] [rS,rB] (c5 pQ) ajY (λX K=>vW (λy0 y1=>ke 0 K ajY ((z2 (w y0 (u y1)) X.1),X.2)) X.1.1 X.1.2.1 X.2.1.1) (λX=>(q2 X,q3 X)) (λX x=>((z2 (w x.1 (u x.2)) X.1),X.2))
def awS:=awg.q0 {merge:=mg [(1,12)]} func398 [pd .str] [(true,(.pair (.int .i64) Y0)),rI,rB] (c1 me)
def awT:=awS.q0 {} func399 [pf gT] [rI] (c1 vE)
def awe:=awT.q0 {merge:=mg [(5,54)],sb:=mg [(8,8),(9,9)]} func345 [pd (.sl cX),pf (.sl .str),pI,pf gT] [(true,(.pair (.int .i64) Y0)),(true,S1),rB] (c4 nY)
def awh:=awe.q0 {merge:=mg [(17,84)],mv:=[16,31,53,60,69,85,139]} func348 [pd (.sl dU),pf cj] [(false,(.sl (.own none) dU))] (c2 Ca)
abbrev ajQ:SD:=⟨cD (iX cX)::B::DI::B::B::B::DI::B::.ptr 8 0::B::.ptr 10 0::B::B::B::.ptr 14 0::.ptr 15 0::.ptr 16 0::B::B::cD (cM 233472 dU)::.ptr 20 0::DI::bs 111 [],zs 8 ((tr (iX .str))::Z::(some Y24)::Z::Z::Z::(tr (cM 172033 .str))::(some Y24)::(tr (jH (jH (jH (cM 196618 (.int .i64))))))::Z::Z::Z::(some Y34)::zs 112 []),.none⟩
def anb:=awh.q1 {mask:=mk [(6,[0,2,6,8,10,14,15,16,19,20,21])],merge:=mg [(4,50),(14,102)],mv:=[54,55,106,114,128,130,131],mb:=mg [(54,20),(128,30),(130,20)],sb:=mg [(14,14),(15,15),(16,16)]} func262 [pd (.sl cX),pf (.sl .str),pI,pf fB,pf nC,pd (.sl dU),pI] [(true,(.sl (.own none) .str)),(true,Y24),(true,Y12),(false,(.sl (.own none) dU)),rI] (c7 pc) ajQ (λX K=>nd (λy0 y1 y2 y3=>ke 0 K ajQ ((z3 (w y0 (u y1)) X.1),(z1 (w y2 (z3 (u y3))) X.2.1),X.2.2)) X.1.1 X.1.2.1 (q2 X) X.2.1.1 X.2.1.2.2.1 X.2.1.2.2.2.1 X.2.1.2.2.2.2.1) (λX=>(q3 X,q4 X,X.2.1.2.1,X.2.1.2.2.2.2.2.1)) (λX x=>((z3 (w x.1 (u x.2.1)) X.1),(z1 (w x.2.2.1 (z3 (u x.2.2.2))) X.2.1),X.2.2))
def aoh:An:={mask:=mk [(5,[1,2,3,4]),(13,[1,2,3,10]),(19,[1,2,3,11])],mv:=[17,25,43,45,46,48,58,60,71,144],mb:=mg [(71,3)],sb:=mg [(5,5),(6,6),(7,7),(81,3)]}
abbrev V2:SD:=⟨B::.ptr 1 0::.ptr 2 0::.ptr 3 0::DI::bs 140 [],Z::(some Y3)::(some Y4)::(some Y6)::zs 141 [],.none⟩
def amw (X:SD.D V2)(K:nJ R):=rY (λy0 y1=>ke 0 K V2 ((u y0 X.1),(z2 (u y1) X.2.1),X.2.2)) X.2.1.1 X.2.1.2.1
abbrev Po:SD:=⟨B::.ptr 1 0::.ptr 2 0::.ptr 3 0::bs 6 (DI::bs 134 []),Z::(some Y3)::(some Y4)::(some Y6)::zs 141 [],.none⟩
def agd (X:SD.D Po)(K:nJ R):=pT (λy0 y1=>ke 2 K Po ((u y0 X.1),(z2 (u y1) X.2.1),X.2.2)) X.2.1.1 X.2.1.2.1
abbrev Pp:SD:=⟨B::.ptr 1 0::.ptr 2 0::.ptr 3 0::bs 7 (DI::bs 133 []),Z::(some Y3)::(some Y4)::(some Y6)::zs 141 [],.none⟩
def age (X:SD.D Pp)(K:nJ R):=lQ (λy0 y1=>ke 4 K Pp ((u y0 X.1),(z2 (u y1) X.2.1),X.2.2)) X.2.1.1 X.2.1.2.1
def apX:kC:=((kC.nil.add 5 (vU V2 amw (λX=>(X.1.1,X.2.1.2.2.1)))).add 13 (vU Po agd (λX=>(X.1.1,X.2.1.2.2.1)))).add 19 (vU Pp age (λX=>(X.1.1,X.2.1.2.2.1)))
theorem aqO:uL E anb.g aoh apX (cA f165 0):=lk V2 amw (λX=>(X.1.1,X.2.1.2.2.1)) λX x=>((u x.1 X.1),(z2 (u x.2) X.2.1),X.2.2)
theorem an3:uL E anb.g aoh apX (cA f165 1):=lk Po agd (λX=>(X.1.1,X.2.1.2.2.1)) λX x=>((u x.1 X.1),(z2 (u x.2) X.2.1),X.2.2)
theorem an4:uL E anb.g aoh apX (cA f165 2):=lk Pp age (λX=>(X.1.1,X.2.1.2.2.1)) λX x=>((u x.1 X.1),(z2 (u x.2) X.2.1),X.2.2)
def aud:=anb.qk aoh func165 [pf dz] [(true,Y2)] (c1 td) (cF aqO (cF an3 (cF an4 nF)))
def aue:=aud.q0 {} func166 [pf (.sl .str)] [rI] (c1 tX)
def axb:=aue.q0 {merge:=mg [(1,20)],sb:=mg [(9,9)]} func419 [pd (.sl cX),pf (.sl .str),pI,pf lJ] [rS,(true,Y0),rB] (c4 vB)
def axA:=axb.q0 {sb:=mg [(4,4)]} func444 [pd .str] [(true,(.pair (.int .i64) (.pair (.int .i64) Y0))),rB] (c1 qA)
abbrev acF:SD:=⟨cD (iX cX)::B::DI::B::B::.ptr 5 0::B::.ptr 7 0::cD (cM 98304 AG)::.ptr 9 0::DB::cD (cM 135168 AG)::bs 60 [],zs 5 ((tr (iX .str))::Z::(some Y0)::Z::(some Y0)::zs 62 []),.none⟩
def axq:=axA.q1 {mask:=mk [(4,[0,2,5,7,8,9,10,11])],merge:=mg [(2,25),(7,50),(12,69)],mv:=[26,57,70],sb:=mg [(9,9)]} func434 [pd (.sl cX),pf (.sl .str),pI,pf lJ] [(false,(.sl (.own none) AG)),(true,Y0),rB] (c4 yp) acF (λX K=>nj (λy0 y1=>ke 0 K acF ((z4 (u y0) X.1),(z1 (u y1) X.2.1),X.2.2)) (λy0 y1 y2 y3 y4=>kr K acF ((z2 (w y0 (w y1 (u y2))) X.1),(z1 (w y3 (u y4)) X.2.1),X.2.2)) X.1.1 X.1.2.1 (q2 X) (q3 X) X.2.1.1 X.2.1.2.2.1) (λX=>(q4 X,X.2.1.2.1)) (λX x=>((z4 (u x.1) X.1),(z1 (u x.2) X.2.1),X.2.2))
abbrev acH:SD:=⟨cD (iX CL)::B::DB::DI::bs 24 [],zs 28 [],.none⟩
def axw:=axq.q1 {mask:=mk [(2,[0,2,3])],merge:=mg [(4,24)]} func440 [pd (.sl CL)] [rB] (c1 vA) acH (λX K=>ui (λy0=>ke 0 K acH ((z2 (u y0) X.1),X.2)) (λy0 y1=>kr K acH ((z1 (w y0 (u y1)) X.1),X.2)) X.1.1 X.1.2.1) q2 (λX x=>((z2 (u x) X.1),X.2))
abbrev acC:SD:=⟨cD (iX CL)::B::DI::B::B::B::cD (cM 73728 AG)::cD (cM 86016 AG)::DI::bs 59 [],zs 68 [],.none⟩
def aw4:=axw.q1 {mask:=mk [(5,[0,2,6,7,8])],merge:=mg [(2,33)],mv:=[63,67],sb:=mg [(9,9)]} func410 [pd (.sl CL),pI,pI] [(false,(.sl (.own none) AG))] (c3 kV) acC (λX K=>lj (λy0 y1=>ke 0 K acC ((z3 (w y0 (u y1)) X.1),X.2)) (λy0 y1 y2=>kr K acC ((z2 (w y0 (w y1 (u y2))) X.1),X.2)) X.1.1 X.1.2.1 (q2 X)) (λX=>(q3 X,q4 X)) (λX x=>((z3 (w x.1 (u x.2)) X.1),X.2))
abbrev acI:SD:=⟨cD (iX AG)::cD (iX AG)::B::B::DB::DI::bs 20 [],zs 26 [],.none⟩
def axE:=aw4.q1 {mask:=mk [(4,[0,1,4,5])]} func448 [pd (.sl AG),pd (.sl AG)] [rB] (c2 Cl) acI (λX K=>wv (λy0=>ke 0 K acI ((z3 (u y0) X.1),X.2)) (λy0 y1=>kr K acI ((z2 (w y0 (u y1)) X.1),X.2)) X.1.1 X.1.2.1 (q2 X)) q3 (λX x=>((z3 (u x) X.1),X.2))
abbrev aki:SD:=⟨cD (iX AG)::bs 5 (cD (cM 73728 CL)::DI::bs 49 []),zs 57 [],.none⟩
def axr:=axE.q1 {mask:=mk [(3,[0,6,7])],merge:=mg [(6,46)],mv:=[15,48]} func435 [pd (.sl AG)] [(false,(.sl (.own none) CL)),rI,rI,rB] (c1 pV) aki (λX K=>mh (λy0 y1=>ke 0 K aki ((z1 (w y0 (u y1)) X.1),X.2)) X.1.1) (λX=>(X.1.2.1,q2 X)) (λX x=>((z1 (w x.1 (u x.2)) X.1),X.2))
abbrev acG:SD:=⟨cD (iX cX)::B::DI::cD (iX CL)::B::.ptr 5 0::B::B::cD .str::DB::cD .str::DI::bs 34 [],zs 5 ((tr (iX .str))::zs 40 []),.none⟩
def axs:=axr.q1 {mask:=mk [(5,[0,2,3,5,8,9,10,11])]} func436 [pd (.sl cX),pf (.sl .str),pI,pd (.sl CL)] [rS,rB] (c4 rV) acG (λX K=>mZ (λy0 y1=>ke 0 K acG ((z5 (w y0 (u y1)) X.1),X.2)) (λy0 y1 y2 y3=>kr K acG ((z3 (w y0 (w y1 (w y2 (u y3)))) X.1),X.2)) X.1.1 X.1.2.1 (q2 X) (q3 X) (q4 X) X.2.1.1) (λX=>(q5 X,q6 X)) (λX x=>((z5 (w x.1 (u x.2)) X.1),X.2))
def axv:=axs.q0 {} func439 [pd .str] [rI,rI] (c1 yv)
def aw1:=axv.q0 {} func407 [pf cj] [rS,rB] (c1 nw)
def axt:=aw1.q0 {merge:=mg [(2,36),(7,61),(12,98)]} func437 [pd .str] [rS,rB] (c1 Aj)
abbrev akj:SD:=⟨cD (iX cj)::B::B::cD (cM 36864 .str)::DI::bs 23 [],zs 28 [],.none⟩
def axF:=axt.q1 {mask:=mk [(3,[0,3,4])],mv:=[23,27]} func449 [pd (.sl cj)] [(false,(.sl (.own none) .str))] (c1 Am) akj (λX K=>oT (λy0 y1=>ke 0 K akj ((z1 (w y0 (u y1)) X.1),X.2)) X.1.1) (λX=>(X.1.2.1,q2 X)) (λX x=>((z1 (w x.1 (u x.2)) X.1),X.2))
abbrev akk:SD:=⟨B::DI::.ptr 2 0::B::B::cD (cM 61440 cj)::DI::DI::bs 84 [],Z::Z::(some Y1)::zs 89 [],.none⟩
def axG:=axF.q1 {mask:=mk [(8,[1,2,5,6,7])],merge:=mg [(2,17),(5,31)],mv:=[18,32,87,91]} func450 [pf cj,pI] [(false,(.sl (.own none) cj))] (c2 Gx) akk (λX K=>Av (λy0 y1=>ke 0 K akk ((z1 (w y0 (z1 (u y1))) X.1),X.2)) X.1.1 (q2 X) X.2.1.1) (λX=>(X.1.2.1,q3 X)) (λX x=>((z1 (w x.1 (z1 (u x.2))) X.1),X.2))
def axu:=axG.q0 {} func438 [pf cj,pI] [(false,(.sl (.own none) .str))] (c2 wh)
def aw0:=axu.q0 {merge:=mg [(2,31),(6,55),(11,85)],mv:=[33,57,87],sb:=mg [(8,8)]} func406 [pd (.sl cX),pf (.sl .str),pI,pf lJ] [(true,Y0),(false,(.sl (.own none) .str)),rI] (c4 sg)
abbrev aqa:SD:=⟨cD (iX cX)::B::DI::B::B::.ptr 5 0::B::.ptr 7 0::.ptr 8 0::cD (cM 110592 .str)::DI::DI::cD (cM 147456 .str)::DI::DI::bs 29 [],zs 5 ((tr (iX .str))::Z::(some Y0)::(some Y0)::zs 35 []),.none⟩
abbrev agJ:SD:=⟨cD (iX cX)::B::DI::B::B::.ptr 5 0::B::.ptr 7 0::.ptr 8 0::cD (cM 110592 .str)::DI::DI::cD (.sl .loc .str)::DI::DI::bs 29 [],zs 5 ((tr (iX .str))::Z::(some Y0)::(some Y0)::zs 35 []),.none⟩
def awk:=aw0.q1 {mask:=mk [(4,[0,2,5,7,8,9,10,11,12,13,14])],mv:=[31,35]} func352 [pd (.sl cX),pf (.sl .str),pI,pf lJ] [(true,Y0),(false,(.sl (.own none) .str)),rI,rI] (c4 uv) aqa (λX K=>oa (λy0 y1 y2 y3 y4 y5 y6 y7=>kr K agJ ((X.1.1,(X.1.2.1,(y0,(y1,(y2,(y3,(y4,(y5,())))))))),(X.2.1.1,(y6,(y7,()))),())) X.1.1 X.1.2.1 (q2 X) (q3 X) (q4 X) X.2.1.1 X.2.1.2.2.1) (λX=>(q5 X,q6 X,q7 X,X.2.1.2.1)) (λX x=>((z5 (w x.1 (w x.2.1 (u x.2.2.1))) X.1),(z1 (u x.2.2.2) X.2.1),X.2.2))
abbrev aj2:SD:=⟨B::DI::.ptr 2 0::B::.ptr 4 0::B::.ptr 6 0::cD (cM 86016 (.int .i64))::DI::bs 50 [],Z::Z::(some Y17)::Z::(tr (cL Y0 (cL (jH (jH (jH (cM 49174 (.int .i64))))) (cL (cM 49177 ru) FH))))::Z::(tr (cL Y0 (cL (jH (jH (jH (cM 73750 (.int .i64))))) (cL (cM 73753 ru) FH))))::zs 52 [],.none⟩
def awl:=awk.q1 {mask:=mk [(6,[1,2,4,6,7,8])],merge:=mg [(3,22)],mv:=[23,24,30,39,49,53,55,57,58],sb:=mg [(51,6)]} func353 [pf mF,pI] [(true,Y35),(false,(.sl (.own none) (.int .i64)))] (c2 mW) aj2 (λX K=>kz (λy0 y1 y2=>ke 0 K aj2 ((z1 (w y0 (u y1)) X.1),(z2 (u y2) X.2.1),X.2.2)) X.1.1 X.2.1.1 X.2.1.2.1) (λX=>(X.1.2.1,q2 X,X.2.1.2.2.1)) (λX x=>((z1 (w x.1 (u x.2.1)) X.1),(z2 (u x.2.2) X.2.1),X.2.2))
def avm:=awl.q0 {mv:=[15,33,37,51,54,58]} func265 [pf dz] [(true,Y2)] (c1 nb)
def awm:=avm.q0 {merge:=mg [(1,15)]} func354 [pf gT,pI] [(true,S1),rB] (c2 uk)
def apV:=awm.q0 {merge:=mg [(1,23),(6,61)]} func355 [pd (.sl iD),pI,pf cj] [rI] (c3 oP)
def arq:An:={mask:=mk [(7,[0,1,5,7,8,9,10]),(12,[0,1,5,7,8,9,11])],merge:=mg [(14,62)],mv:=[19,63,67]}
abbrev Wj:SD:=⟨cD (iX iD)::DI::B::B::B::.ptr 5 0::B::cD (cM 86016 (.int .i64))::DI::DI::DI::bs 57 [],zs 5 ((some Y1)::zs 62 []),.none⟩
def amL (X:SD.D Wj)(K:nJ R):=ni (λy0 y1=>ke 0 K Wj ((z4 (w y0 (u y1)) X.1),X.2)) X.1.1 X.1.2.1 (q2 X) (q3 X) X.2.1.1
abbrev Pt:SD:=⟨cD (iX iD)::DI::B::B::B::.ptr 5 0::B::cD (cM 86016 (.int .i64))::DI::DI::B::DI::bs 56 [],zs 5 ((some Y1)::zs 62 []),.none⟩
def agk (X:SD.D Pt)(K:nJ R):=mi (λy0 y1=>ke 2 K Pt ((z2 (w y0 (z2 (u y1))) X.1),X.2)) X.1.1 X.1.2.1 (q3 X) (q4 X) X.2.1.1
def ar8:kC:=(kC.nil.add 7 (vU Wj amL (λX=>(q4 X,q5 X)))).add 12 (vU Pt agk (λX=>(q2 X,q5 X)))
theorem aq3:uL E apV.g arq ar8 (cA f356 0):=lk Wj amL (λX=>(q4 X,q5 X)) λX x=>((z4 (w x.1 (u x.2)) X.1),X.2)
theorem an9:uL E apV.g arq ar8 (cA f356 1):=lk Pt agk (λX=>(q2 X,q5 X)) λX x=>((z2 (w x.1 (z2 (u x.2))) X.1),X.2)
def awn:=apV.qk arq func356 [pd (.sl iD),pI,pf cj] [(false,(.sl (.own none) (.int .i64)))] (c3 nh) (cF aq3 (cF an9 nF))
def avn:=awn.q0 {merge:=mg [(2,37),(6,76)],mv:=[38,87,104]} func266 [pd (.sl bm),pd (.sl iD),pI,pf cj] [(false,(.sl (.own none) bm)),(false,(.sl (.own none) (.int .i64))),rB] (c4 Au)
def awq:=avn.q0 {merge:=mg [(1,4)]} func360 [pf jn,pf cj] [rB] (c2 B8)
def axH:=awq.q0 {merge:=mg [(1,4)]} func451 [pf lK,pf cj] [rB] (c2 Bz)
def axx:=axH.q0 {merge:=mg [(1,4)]} func441 [pf lK,pf cj] [rB] (c2 uj)
abbrev akc:SD:=⟨cD (iX lK)::B::B::.ptr 3 0::B::DI::DI::bs 35 [],Z::Z::Z::(some Y1)::zs 38 [],.none⟩
def aw5:=axx.q1 {mask:=mk [(3,[0,3,5,6])],merge:=mg [(3,14),(5,39)]} func412 [pd (.sl lK),pf cj] [rI] (c2 Al) akc (λX K=>oR (λy0 y1=>ke 0 K akc ((z1 (w y0 (u y1)) X.1),X.2)) X.1.1 X.2.1.1) (λX=>(X.1.2.1,q2 X)) (λX x=>((z1 (w x.1 (u x.2)) X.1),X.2))
def aw6:=aw5.q0 {} func413 [pf (.sl jZ),pf og] [rI] (c2 Ak)
def axM:=aw6.q0 {} func456 [pd .str,pI] [rI] (c2 Be)
abbrev akm:SD:=⟨cD .str::DI::B::B::B::DI::DI::bs 21 [],zs 28 [],.none⟩
def axN:=axM.q1 {mask:=mk [(5,[0,1,5,6])],merge:=mg [(1,14)]} func457 [pd .str,pI] [rI] (c2 yg) akm (λX K=>sa (λy0 y1=>ke 0 K akm ((z2 (w y0 (u y1)) X.1),X.2)) X.1.1 X.1.2.1) (λX=>(q2 X,q3 X)) (λX x=>((z2 (w x.1 (u x.2)) X.1),X.2))
abbrev akl:SD:=⟨cD .str::cD .str::B::B::B::DI::DI::bs 25 [],zs 32 [],.none⟩
def axK:=axN.q1 {mask:=mk [(5,[0,1,5,6])],merge:=mg [(1,14)]} func454 [pd .str,pd .str] [rI] (c2 yc) akl (λX K=>rX (λy0 y1=>ke 0 K akl ((z2 (w y0 (u y1)) X.1),X.2)) X.1.1 X.1.2.1) (λX=>(q2 X,q3 X)) (λX x=>((z2 (w x.1 (u x.2)) X.1),X.2))
def axL:=axK.q0 {} func455 [pf og] [rS] (c1 yd)
def axC:=axL.q0 {} func446 [pd .str,pf og] [rI] (c2 vx)
def axy:=axC.q0 {merge:=mg [(2,17)]} func442 [pf DH,pf og] [rI] (c2 Cb)
def aw7:=axy.q0 {merge:=mg [(2,18)]} func414 [pf DH,pI,pf og] [rI] (c3 uo)
def awr:=aw7.q0 {merge:=mg [(1,17)]} func361 [pf oh,pI,pf cj] [rI] (c3 uq)
def axI:=awr.q0 {merge:=mg [(1,2)]} func452 [pf og] [rB] (c1 mX)
def axJ:=axI.q0 {merge:=mg [(1,12)]} func453 [pf og,pI] [rS] (c2 mf)
def axB:=axJ.q0 {merge:=mg [(1,22)],mv:=[26,44,59],mb:=mg [(59,13)],sb:=mg [(10,10),(11,11),(13,13)]} func445 [pd (.sl cX),pf (.sl .str),pI,pf gT,pf og] [(true,(.sl (.own none) .str)),(true,S1),rB] (c5 pW)
def axc:=axB.q0 {merge:=mg [(3,46)],mv:=[90],sb:=mg [(12,12),(13,13)]} func420 [pd (.sl cX),pf (.sl .str),pI,pf fB,pd .str,pd .str] [(true,(.sl (.own none) .str)),(true,S1),rB] (c6 Az)
def awu:=axc.q0 {merge:=mg [(1,30),(5,58)],mv:=[44,75],mb:=mg [(75,15)],sb:=mg [(10,10),(11,11)]} func364 [pd (.sl cX),pf (.sl .str),pI,pf fB,pd .str] [(true,(.sl (.own none) .str)),(true,Y24)] (c5 oS)
def axz:=awu.q0 {} func443 [pf cj,pf cj] [rB] (c2 As)
def aw8:=axz.q0 {merge:=mg [(1,41),(4,84),(6,4)]} func415 [pf VO,pf cj] [rB] (c2 xX)
def aw9:=aw8.q0 {} func416 [pf VO,pf cj] [(true,(.pair Y1 (.pair (.int .i64) (.int .i64))))] (c2 I5)
def axa:=aw9.q0 {} func417 [pf cj] [(true,(.pair Y1 (.pair (.int .i64) (.int .i64))))] (c1 H9)
def aws:=axa.q0 {merge:=mg [(1,29),(3,43)],mv:=[52,67,76],mb:=mg [(76,16)],sb:=mg [(14,14),(15,15)]} func362 [pd (.sl cX),pf (.sl .str),pI,pf fB,pd .str,pf cj,pd .bool] [(true,(.sl (.own none) .str)),(true,Y24)] (c7 pY)
def awo:=aws.q0 {} func358 [pf ir] [(true,Y20)] (c1 nz)
def ane:=awo.q0 {} func418 [pf ir] [(true,Y20)] (c1 Af)
def ax3:lH:=kf (.pair (.sl (.own none) .str) (.pair (.sl (.own none) cX) (.pair (.pair (.pair (.int .i64) (.pair (.int .i64) (.pair (.int .i64) (.int .i64)))) (.pair (.pair (.int .i64) (.pair (.int .i64) (.pair (.int .i64) (.sl (.own none) (.int .i64))))) (.pair (.sl (.own none) ru) (.int .i64)))) (.pair (.sl (.own none) fB) (.pair (.sl (.own none) nC) (.pair (.sl (.own none) ir) (.pair (.sl (.own none) .bool) (.pair (.pair (.int .i64) (.pair .bool (.sl (.own none) (.int .i64)))) (.pair (.pair (.sl (.own none) lK) (.pair (.sl (.own none) jZ) (.pair .str (.sl (.own none) (.int .i64))))) (.pair (.sl (.own none) dU) (.pair .bool (.pair (.sl (.own none) .str) (.pair (.sl (.own none) (.int .i64)) (.pair (.sl (.own none) (.int .i64)) (.pair (.int .i64) (.pair (.int .i64) (.pair (.int .i64) (.pair (.int .i64) (.int .i64))))))))))))))))))) [pI,pI] [] λx a=>lV x a.1 a.2.1
def atk:An:={mask:=mk [(2,[0,1,6,7])]}
abbrev Wl:SD:=⟨.ptr 0 0::DI::bs 4 (DI::DI::bs 42 []),(tr (cL (cM 1 .str) (cL (cM 4 cX) (cL (cL Y0 (cL (jH (jH (jH (cM 28 (.int .i64))))) (cL (cM 31 ru) FH))) (cL (cM 37 fB) (cL (cM 40 nC) (cL (cM 43 ir) (cL (cM 46 .bool) (cL (jH (cL .bool (cM 55 (.int .i64)))) (cL (cL (cM 58 lK) (cL (cM 61 jZ) (cL .str (cM 67 (.int .i64))))) (cL (cM 70 dU) (cL .bool (cL (cM 76 .str) (cL (cM 79 (.int .i64)) (cL (cM 82 (.int .i64)) (cL FH Y0))))))))))))))))::zs 49 [],.ptr⟩
def amN (X:SD.D Wl)(K:nJ R):=si (λy0 y1=>ke 0 K Wl ((z2 (u y0) X.1),(u y1 X.2.1),X.2.2)) X.1.1 X.1.2.1
def asa:kC:=kC.nil.add 2 (vU Wl amN (λX=>(q2 X,X.2.1.1)))
theorem aq5:uL E ane.g atk asa (cA f363 0):=lk Wl amN (λX=>(q2 X,X.2.1.1)) λX x=>((z2 (u x.1) X.1),(u x.2 X.2.1),X.2.2)
theorem ayT:ND 363 ax3:=jl.rO (rz (Γ:=ane.g) (an:=atk) (Λ:=asa) (ane.s) func363 (by kernel_rfl) (ao (cF aq5 nF))) (λx a=>by kernel_rfl)
def awt:=ane.add ayT
def avu:=awt.q0 {mv:=[16,36,48,64,71,89,91,107],sb:=mg [(9,9),(10,10)]} func273 [pf dz,pd .str] [(true,Y2)] (c2 oW)
def anc:=avu.q0 {merge:=mg [(1,34)]} func357 [pd (.sl iD),pI,pI,pf cj] [(true,Y1)] (c4 ue)
def axZ:lH:=kf (.pair (.sl (.own none) dz) (.pair (.sl (.own none) bm) (.pair (.sl (.own none) dm) (.pair (.sl (.own none) .str) (.pair (.pair (.int .i64) (.pair (.int .i64) (.pair (.int .i64) (.int .i64)))) (.pair (.sl (.own none) (.int .i64)) (.sl (.own none) .str))))))) [pI,pf cj] [] λx a=>pq x a.1 a.2.1
def atj:An:={mask:=mk [(5,[0,5,6,8,9,10])],mv:=[13,56]}
abbrev Wb:SD:=⟨.ptr 0 0::bs 4 (.ptr 5 0::cD (cM 73728 iD)::B::cD (cM 98304 (.int .i64))::DI::DI::bs 74 []),(tr (cL (cM 1 dz) (cL (cM 4 bm) (cL (cM 7 dm) (cL (cM 10 .str) (cL Y0 (cL (cM 25 (.int .i64)) (cM 28 .str))))))))::zs 4 ((some Y1)::zs 79 []),.ptr⟩
def amH (X:SD.D Wb)(K:nJ R):=nm (λy0 y1=>ke 0 K Wb ((z3 (u y0) X.1),(u y1 X.2.1),X.2.2)) X.1.1 X.1.2.1 (q2 X) X.2.1.2.1
def ar6:kC:=kC.nil.add 5 (vU Wb amH (λX=>(q3 X,X.2.1.1)))
theorem aqZ:uL E anc.g atj ar6 (cA f268 0):=lk Wb amH (λX=>(q3 X,X.2.1.1)) λX x=>((z3 (u x.1) X.1),(u x.2 X.2.1),X.2.2)
theorem ayP:ND 268 axZ:=jl.rO (rz (Γ:=anc.g) (an:=atj) (Λ:=ar6) (anc.s) func268 (by kernel_rfl) (ao (cF aqZ nF))) (λx a=>by kernel_rfl)
def avp:=anc.add ayP
def avo:=avp.q0 {merge:=mg [(2,15)],mv:=[19]} func267 [pf sq,pI,pf cj] [(true,Y8)] (c3 vV)
abbrev ajG:SD:=⟨B::DI::B::B::.ptr 4 0::.ptr 5 0::B::cD (cM 86016 .str)::cD (.sl .loc iD)::B::DI::bs 88 [],zs 4 ((some Y18)::(some Y7)::zs 93 []),.none⟩
def auf:=avo.q1 {mask:=mk [(9,[1,4,5,7,8,10])],merge:=mg [(2,31)],mv:=[32,80,90,98]} func167 [pf sq,pI] [(true,Y8)] (c2 rR) ajG (λX K=>ko (λy0 y1=>ke 0 K ajG ((z3 (u y0) X.1),(z1 (u y1) X.2.1),X.2.2)) X.1.1 X.1.2.1 (q2 X) X.2.1.1) (λX=>(q3 X,X.2.1.2.1)) (λX x=>((z3 (u x.1) X.1),(z1 (u x.2) X.2.1),X.2.2))
def aug:=auf.q0 {mv:=[13,15,31]} func168 [pf sq,pd .str] [(true,Y8)] (c2 tY)
def avq:=aug.q0 {} func269 [pf ir] [(true,Y20)] (c1 wk)
abbrev ajH:SD:=⟨B::.ptr 1 0::.ptr 2 0::.ptr 3 0::DI::bs 24 [],Z::(some Y3)::(some Y4)::(some Y6)::zs 25 [],.none⟩
def auh:=avq.q1 {mask:=mk [(3,[1,2,3,4])],merge:=mg [(3,15)],mv:=[28]} func169 [pf dz] [(true,Y2)] (c1 vy) ajH (λX K=>oX (λy0 y1=>ke 0 K ajH ((u y0 X.1),(z2 (u y1) X.2.1),X.2.2)) X.2.1.1 X.2.1.2.1) (λX=>(X.1.1,X.2.1.2.2.1)) (λX x=>((u x.1 X.1),(z2 (u x.2) X.2.1),X.2.2))
def avr:=auh.q0 {merge:=mg [(1,12)]} func270 [pf gT,pI] [(true,S1)] (c2 sf)
abbrev ajI:SD:=⟨B::DI::B::B::B::cD (cM 61440 bm)::DI::bs 21 [],zs 28 [],.none⟩
def aui:=avr.q1 {mask:=mk [(3,[1,5,6])],mv:=[27]} func170 [pd (.sl bm),pI] [(false,(.sl (.own none) bm))] (c2 qd) ajI (λX K=>mj (λy0 y1=>ke 0 K ajI ((z1 (w y0 (u y1)) X.1),X.2)) X.1.1) (λX=>(X.1.2.1,q2 X)) (λX x=>((z1 (w x.1 (u x.2)) X.1),X.2))
def avs:=aui.q0 {} func271 [pf lJ,pI] [(true,Y0)] (c2 Gy)
def auj:=avs.q0 {merge:=mg [(1,14)]} func171 [pf lJ,pI] [(true,Y0)] (c2 rQ)
def aw2:=auj.q0 {merge:=mg [(2,21)],mv:=[22,37,38]} func408 [pf nC,pI] [(true,Y12),(false,(.sl (.own none) (.int .i64))),rB] (c2 uu)
abbrev akb:SD:=⟨B::.ptr 1 0::B::DI::DI::bs 16 [],Z::(some Y17)::zs 19 [],.none⟩
def aw3:=aw2.q1 {mask:=mk [(3,[1,3,4])]} func409 [pf mF] [rI] (c1 Ay) akb (λX K=>uz (λy0 y1=>ke 0 K akb ((w y0 (u y1) X.1),X.2)) X.2.1.1) (λX=>(X.1.1,X.1.2.1)) (λX x=>((w x.1 (u x.2) X.1),X.2))
abbrev acD:SD:=⟨cD (iX cX)::B::DI::B::cD (iX .str)::B::.ptr 6 0::B::.ptr 8 0::B::.ptr 10 0::.ptr 11 0::DB::.ptr 13 0::.ptr 14 0::DI::bs 30 [],zs 6 ((tr (iX .str))::Z::(some Y0)::Z::(tr (cM 122881 .str))::(some Y0)::Z::(tr (cM 159745 .str))::(some Y0)::zs 31 []),.none⟩
def apW:=aw3.q1 {mask:=mk [(4,[0,2,4,6,8,10,11,12,13,14,15])],mv:=[26,36,44],mb:=mg [(44,13)],sb:=mg [(10,10),(11,11),(13,13),(14,14)]} func411 [pd (.sl cX),pf (.sl .str),pI,pf lJ,pd (.sl .str)] [(true,(.sl (.own none) .str)),(true,Y0),rB] (c5 we) acD (λX K=>lT (λy0 y1 y2=>ke 0 K acD ((z4 (u y0) X.1),(z4 (w y1 (u y2)) X.2.1),X.2.2)) (λy0 y1 y2 y3 y4 y5=>kr K acD ((z3 (w y0 (u y1)) X.1),(z2 (w y2 (w y3 (w y4 (u y5)))) X.2.1),X.2.2)) X.1.1 X.1.2.1 (q2 X) (q3 X) X.2.1.1 X.2.1.2.1 X.2.1.2.2.1 X.2.1.2.2.2.1) (λX=>(q4 X,X.2.1.2.2.2.2.1,X.2.1.2.2.2.2.2.1)) (λX x=>((z4 (u x.1) X.1),(z4 (w x.2.1 (u x.2.2)) X.2.1),X.2.2))
def ars:An:={mask:=mk [(11,[0,2,5,6,8,10,14,15,16,17,19,20,21,22,23,24]),(23,[0,2,8,10,14,15,19,20,21,22,29,30,31])],merge:=mg [(2,58),(6,102),(27,194)],mv:=[70,134,149,150,169,177,203,206,211,221,222],mb:=mg [(221,22),(222,33)],sb:=mg [(14,14),(15,15)]}
abbrev K9:SD:=⟨cD (iX cX)::B::DI::B::B::DI::DI::B::.ptr 8 0::B::.ptr 10 0::B::B::B::.ptr 14 0::.ptr 15 0::DB::cD .str::B::DI::.ptr 20 0::cD (cM 258048 (.int .i64))::.ptr 22 0::cD (cM 282624 CL)::DI::bs 198 [],zs 8 ((tr (iX .str))::Z::(some Y17)::Z::Z::Z::(tr (cM 172033 .str))::(some Y36)::zs 4 ((some Y34)::Z::(tr (cM 270337 .str))::zs 200 [])),.none⟩
def agl (X:SD.D K9)(K:nJ R):=kW (λy0 y1 y2=>ke 0 K K9 ((z8 (w y0 (u y1)) X.1),(z5 (u y2) X.2.1),X.2.2)) (λy0 y1 y2 y3 y4 y5=>kr K K9 ((z4 (w y0 (z3 (w y1 (u y2)))) X.1),(z2 (w y3 (w y4 (z1 (u y5)))) X.2.1),X.2.2)) X.1.1 X.1.2.1 (q2 X) (q3 X) (q4 X) (q5 X) (q6 X) (q7 X) X.2.1.1 X.2.1.2.1 X.2.1.2.2.1 X.2.1.2.2.2.1 X.2.1.2.2.2.2.1
abbrev Pv:SD:=⟨cD (iX cX)::B::DI::bs 5 (.ptr 8 0::B::.ptr 10 0::B::B::B::.ptr 14 0::.ptr 15 0::B::B::B::DI::.ptr 20 0::cD (cM 258048 (.int .i64))::.ptr 22 0::bs 6 (cD (cM 356352 .str)::cD (cM 368640 AG)::DI::bs 191 [])),zs 8 ((tr (iX .str))::Z::(some Y17)::Z::Z::Z::(tr (cM 172033 .str))::(some Y36)::zs 4 ((some Y34)::Z::(tr (cM 270337 .str))::zs 200 [])),.none⟩
def agm (X:SD.D Pv)(K:nJ R):=kX (λy0 y1=>ke 2 K Pv ((z4 (w y0 (z1 (u y1))) X.1),X.2)) X.1.1 X.1.2.1 (q2 X) (q3 X) (q5 X) X.2.1.1 X.2.1.2.1 X.2.1.2.2.1 X.2.1.2.2.2.1 X.2.1.2.2.2.2.1 X.2.1.2.2.2.2.2.1
def ar9:kC:=(kC.nil.add 11 (vU K9 agl (λX=>(q8 X,q9 X,X.2.1.2.2.2.2.2.1)))).add 23 (vU Pv agm (λX=>(q4 X,q6 X)))
theorem aoa:uL E apW.g ars ar9 (cA f359 0):=lk K9 agl (λX=>(q8 X,q9 X,X.2.1.2.2.2.2.2.1)) λX x=>((z8 (w x.1 (u x.2.1)) X.1),(z5 (u x.2.2) X.2.1),X.2.2)
theorem aob:uL E apW.g ars ar9 (cA f359 1):=lk Pv agm (λX=>(q4 X,q6 X)) λX x=>((z4 (w x.1 (z1 (u x.2))) X.1),X.2)
def awp:=apW.qk ars func359 [pd (.sl cX),pf (.sl .str),pI,pf mF,pf cj,pI,pI] [(true,(.sl (.own none) .str)),(true,Y35),rB] (c7 wi) (cF aoa (cF aob nF))
def avt:=awp.q0 {mv:=[19,20,34,36,38]} func272 [pf dz,pf cj,pI,pI] [(true,Y2),rB] (c4 Ap)
abbrev ajR:SD:=⟨B::.ptr 1 0::.ptr 2 0::.ptr 3 0::DI::bs 49 [],Z::(some Y3)::(some Y4)::(some Y6)::zs 50 [],.none⟩
def avv:=avt.q1 {mask:=mk [(3,[1,2,3,4])],merge:=mg [(3,17)],mv:=[20,35,37,53],sb:=mg [(5,5),(6,6)]} func274 [pf dz] [(true,Y2)] (c1 ye) ajR (λX K=>na (λy0 y1=>ke 0 K ajR ((u y0 X.1),(z2 (u y1) X.2.1),X.2.2)) X.2.1.1 X.2.1.2.1) (λX=>(X.1.1,X.2.1.2.2.1)) (λX x=>((u x.1 X.1),(z2 (u x.2) X.2.1),X.2.2))
def awv:=avv.q0 {merge:=mg [(1,11)]} func365 [pf ir] [(true,Y20),rB] (c1 qb)
def aww:=awv.q0 {} func366 [pf ir] [(true,Y20)] (c1 Bd)
abbrev ajS:SD:=⟨B::DI::.ptr 2 0::B::.ptr 4 0::B::.ptr 6 0::DI::DI::bs 117 [],Z::Z::(some Y3)::Z::(tr (cL (cM 49153 .str) (cL (cM 49156 cX) (cL (cL Y0 (cL (jH (jH (jH (cM 49180 (.int .i64))))) (cL (cM 49183 ru) FH))) (cL (cM 49189 fB) (cL (cM 49192 nC) (cL (cM 49195 ir) (cL (cM 49198 .bool) (cL (jH (cL .bool (cM 49207 (.int .i64)))) (cL (cL (cM 49210 lK) (cL (cM 49213 jZ) (cL .str (cM 49219 (.int .i64))))) (cL (cM 49222 dU) (cL .bool (cL (cM 49228 .str) (cL (cM 49231 (.int .i64)) (cL (cM 49234 (.int .i64)) (cL FH Y0))))))))))))))))::Z::(tr (cL (cM 73729 .str) (cL (cM 73732 cX) (cL (cL Y0 (cL (jH (jH (jH (cM 73756 (.int .i64))))) (cL (cM 73759 ru) FH))) (cL (cM 73765 fB) (cL (cM 73768 nC) (cL (cM 73771 ir) (cL (cM 73774 .bool) (cL (jH (cL .bool (cM 73783 (.int .i64)))) (cL (cL (cM 73786 lK) (cL (cM 73789 jZ) (cL .str (cM 73795 (.int .i64))))) (cL (cM 73798 dU) (cL .bool (cL (cM 73804 .str) (cL (cM 73807 (.int .i64)) (cL (cM 73810 (.int .i64)) (cL FH Y0))))))))))))))))::zs 119 [],.none⟩
def avw:=aww.q1 {mask:=mk [(6,[1,2,4,6,7,8])],merge:=mg [(3,25)],mv:=[26,66,85,87,88,90,100,102,124],sb:=mg [(11,11),(12,12),(13,13)]} func275 [pf dz,pI] [(true,Y2),rI] (c2 ud) ajS (λX K=>nW (λy0 y1 y2=>ke 0 K ajS ((z1 (w y0 (u y1)) X.1),(z2 (u y2) X.2.1),X.2.2)) X.1.1 X.2.1.1 X.2.1.2.1) (λX=>(X.1.2.1,q2 X,X.2.1.2.2.1)) (λX x=>((z1 (w x.1 (u x.2.1)) X.1),(z2 (u x.2.2) X.2.1),X.2.2))
def apM:=avw.q0 {merge:=mg [(1,17)],mv:=[24,36,37,58,65]} func172 [pf dz,pf ajd] [(true,Y2),rI] (c2 Gw)
def n64:An:={mask:=mk [(10,[2,4,6,9]),(20,[2,4,6,10])],merge:=mg [(2,48)],late:=[97],mv:=[49,54,63,150,151,161,167,169],sb:=mg [(4,4),(11,11),(79,6)]}
abbrev Wm:SD:=⟨B::B::.ptr 2 0::B::.ptr 4 0::B::.ptr 6 0::B::B::DI::bs 161 [],Z::Z::(some Y15)::Z::(some Y18)::Z::(some Y21)::zs 164 [],.none⟩
def amQ (X:SD.D Wm)(K:nJ R):=mA (λy0 y1=>ke 1 K Wm ((u y0 X.1),(z2 (u y1) X.2.1),X.2.2)) X.2.1.1 X.2.1.2.1
abbrev Wn:SD:=⟨B::B::.ptr 2 0::B::.ptr 4 0::B::.ptr 6 0::B::B::B::DI::bs 160 [],Z::Z::(some Y15)::Z::(some Y18)::Z::(some Y21)::zs 164 [],.none⟩
def amR (X:SD.D Wn)(K:nJ R):=mB (λy0 y1=>ke 3 K Wn ((u y0 X.1),(z2 (u y1) X.2.1),X.2.2)) X.2.1.1 X.2.1.2.1
def L64:kC:=(kC.nil.add 10 (vU Wm amQ (λX=>(X.1.1,X.2.1.2.2.1)))).add 20 (vU Wn amR (λX=>(X.1.1,X.2.1.2.2.1)))
theorem aq8:uL E apM.g n64 L64 (cA f64 0):=lk Wm amQ (λX=>(X.1.1,X.2.1.2.2.1)) λX x=>((u x.1 X.1),(z2 (u x.2) X.2.1),X.2.2)
theorem aq9:uL E apM.g n64 L64 (cA f64 1):=lk Wn amR (λX=>(X.1.1,X.2.1.2.2.1)) λX x=>((u x.1 X.1),(z2 (u x.2) X.2.1),X.2.2)
def G64:=apM.qk n64 func64 [pf sq,pf eo] [(true,Y8),rI] (c2 Ej) (cF aq8 (cF aq9 nF))
abbrev aoY:SD:=⟨B::cD (iX eo)::B::B::.ptr 4 0::B::.ptr 6 0::cD (cM 86016 (.int .i64))::DI::bs 37 [],zs 4 ((some Y18)::Z::(some Y21)::zs 39 []),.none⟩
def G20:=G64.q1 {mask:=mk [(6,[1,4,6,7,8])],merge:=mg [(3,21)],mv:=[22,23,30,37,39,40,44,45],sb:=mg [(9,9)]} func20 [pf sq,pd (.sl eo)] [(true,Y8),(false,(.sl (.own none) (.int .i64)))] (c2 Ce) aoY (λX K=>Bv (λy0 y1 y2=>ke 0 K aoY ((z1 (w y0 (u y1)) X.1),(z1 (u y2) X.2.1),X.2.2)) X.1.1 X.2.1.1) (λX=>(X.1.2.1,q2 X,X.2.1.2.1)) (λX x=>((z1 (w x.1 (u x.2.1)) X.1),(z1 (u x.2.2) X.2.1),X.2.2))
def G29:=G20.q0 {merge:=mg [(1,6)]} func29 [pI,pI,pI] [rB] (c3 aJ)
abbrev ace:SD:=⟨B::.ptr 1 0::DB::B::B::B::cD (iX (.int .i64))::DI::DI::bs 31 [],Z::(some Y31)::zs 38 [],.none⟩
def atC:=G29.q1 {mask:=mk [(2,[1,2,6,7,8])],merge:=mg [(4,29),(7,2)]} func109 [pf jn] [rB] (c1 hH) ace (λX K=>tC (λy0=>ke 0 K ace ((z3 (u y0) X.1),X.2)) (λy0 y1=>kr K ace ((w y0 (z2 (u y1)) X.1),X.2)) X.1.1 X.1.2.1 (q2 X) X.2.1.1) q3 (λX x=>((z3 (u x) X.1),X.2))
def atw:=atC.q0 {merge:=mg [(1,2)]} func102 [pf dm] [rB] (c1 sM)
abbrev ab8:SD:=⟨B::DI::B::B::DB::B::B::cD (iX (.int .i64))::DI::DI::bs 7 [],zs 17 [],.none⟩
def atx:=atw.q1 {mask:=mk [(2,[1,4,7,8,9])]} func103 [pd (.sl (.int .i64)),pI] [rB] (c2 gH) ab8 (λX K=>xG (λy0=>ke 0 K ab8 ((z4 (u y0) X.1),X.2)) (λy0 y1=>kr K ab8 ((z1 (w y0 (z2 (u y1))) X.1),X.2)) X.1.1 X.1.2.1 (q2 X) (q3 X)) q4 (λX x=>((z4 (u x) X.1),X.2))
abbrev ajz:SD:=⟨B::DI::B::B::B::cD (cM 61440 (.int .i64))::DB::B::B::B::cD (iX (.int .i64))::DI::DI::bs 26 [],zs 39 [],.none⟩
def aty:=atx.q1 {mask:=mk [(4,[1,5,6,10,11,12])],merge:=mg [(6,22)],mv:=[23,27,34,38]} func104 [pd (.sl (.int .i64)),pI] [(false,(.sl (.own none) (.int .i64)))] (c2 kE) ajz (λX K=>lN (λy0 y1 y2=>ke 0 K ajz ((z1 (w y0 (w y1 (z2 (u y2)))) X.1),X.2)) X.1.1 (q3 X) (q4 X)) (λX=>(X.1.2.1,q2 X,q5 X)) (λX x=>((z1 (w x.1 (w x.2.1 (z2 (u x.2.2)))) X.1),X.2))
def auE:=aty.q0 {} func206 [pf iD] [(true,Y31)] (c1 EG)
abbrev acp:SD:=⟨B::DI::B::B::DI::B::B::cD (iX iD)::DI::DI::bs 14 [],zs 24 [],.none⟩
def auF:=auE.q1 {mask:=mk [(2,[1,4,7,8,9])],merge:=mg [(4,21)]} func207 [pd (.sl iD),pI] [rI] (c2 vj) acp (λX K=>oE (λy0=>ke 0 K acp ((z4 (u y0) X.1),X.2)) (λy0 y1=>kr K acp ((z1 (w y0 (z2 (u y1))) X.1),X.2)) X.1.1 X.1.2.1 (q2 X) (q3 X)) q4 (λX x=>((z4 (u x) X.1),X.2))
abbrev ab9:SD:=⟨cD (iX iD)::B::DB::bs 6 (cD (iX iD)::DI::DI::bs 27 []),zs 39 [],.none⟩
def apF:=auF.q1 {mask:=mk [(4,[0,2,9,10,11])],merge:=mg [(6,27),(8,37)]} func105 [pd (.sl iD)] [rB] (c1 mN) ab9 (λX K=>vQ (λy0=>ke 0 K ab9 ((z4 (u y0) X.1),X.2)) (λy0 y1=>kr K ab9 ((z1 (w y0 (z2 (u y1))) X.1),X.2)) X.1.1 X.1.2.1 (q2 X) (q3 X)) q4 (λX x=>((z4 (u x) X.1),X.2))
def n35:An:={mask:=mk [(6,[2,3,4,5,18,19,20]),(12,[2,3,4,5,7,8,18,19,20,32,33,34])],mv:=[53,57,63,69]}
abbrev Wk:SD:=⟨B::B::cD (cM 24576 iD)::DB::cD (cM 49152 iD)::cD (cM 61440 (.int .i64))::B::.ptr 7 0::cD (cM 98304 (.int .i64))::bs 9 (cD (iX dm)::DI::DI::bs 11 (cD (cM 393216 (.int .i64))::DI::DI::bs 35 [])),zs 7 ((tr (cL Y31 S1))::zs 62 []),.none⟩
def amM (X:SD.D Wk)(K:nJ R):=lB (λy0 y1 y2=>ke 2 K Wk ((z3 (w y0 (w y1 (z5 (u y2)))) X.1),X.2)) X.1.1 X.1.2.1 (q2 X) (q5 X) (q6 X) (q7 X) (q8 X) (q9 X) X.2.1.1
abbrev Yr:SD:=⟨B::B::cD (cM 24576 iD)::DB::cD (cM 49152 iD)::cD (cM 61440 (.int .i64))::bs 12 (cD (iX dm)::DI::DI::bs 49 []),zs 70 [],.none⟩
def apq (X:SD.D Yr)(K:nJ R):=qq (λy0 y1 y2=>ke 0 K Yr ((z2 (w y0 (w y1 (z2 (u y2)))) X.1),X.2)) (λy0 y1 y2 y3 y4=>kr K Yr ((w y0 (w y1 (w y2 (w y3 (z2 (u y4))))) X.1),X.2)) X.1.1 X.1.2.1 (q4 X) (q5 X)
def L35:kC:=(kC.nil.add 12 (vU Wk amM (λX=>(q3 X,q4 X,SS X)))).add 6 (vU Yr apq (λX=>(q2 X,q3 X,q6 X)))
theorem aq4:uL E apF.g n35 L35 (cA f35 1):=lk Wk amM (λX=>(q3 X,q4 X,SS X)) λX x=>((z3 (w x.1 (w x.2.1 (z5 (u x.2.2)))) X.1),X.2)
theorem as2:uL E apF.g n35 L35 (cA f35 0):=lk Yr apq (λX=>(q2 X,q3 X,q6 X)) λX x=>((z2 (w x.1 (w x.2.1 (z2 (u x.2.2)))) X.1),X.2)
def G35:=apF.qk n35 func35 [pd (.sl dm)] [(false,(.sl (.own none) iD)),rB] (c1 mM) (cF as2 (cF aq4 nF))
abbrev acg:SD:=⟨cD (iX (.int .i64))::cD (iX (.int .i64))::B::B::DB::bs 7 (DI::DI::bs 12 []),zs 26 [],.none⟩
def atG:=G35.q1 {mask:=mk [(4,[0,1,4,12,13])]} func113 [pd (.sl (.int .i64)),pd (.sl (.int .i64))] [rB] (c2 Pu.tU) acg (λX K=>Pu.nU (λy0=>ke 0 K acg ((z4 (u y0) X.1),X.2)) (λy0 y1=>kr K acg ((z2 (w y0 (z1 (u y1))) X.1),X.2)) X.1.1 X.1.2.1 (q2 X) (q3 X)) q4 (λX x=>((z4 (u x) X.1),X.2))
def G37:=atG.q0 {merge:=mg [(1,4)]} func37 [pf jn,pf jn] [rB] (c2 qs)
def apH:=G37.q0 {merge:=mg [(1,2)]} func114 [pf gT] [rB] (c1 vf)
def n38:An:={mask:=mk [(4,[0,1,4,12,13,14]),(9,[0,1,4,6,12,13,14,52,53,54])],merge:=mg [(6,49),(11,69)]}
abbrev Yu:SD:=⟨cD (iX bm)::cD (iX iD)::B::B::DB::B::.ptr 6 0::bs 5 (cD (iX bm)::DI::DI::bs 37 (cD (iX bm)::DI::DI::bs 17 [])),zs 6 ((some Y42)::zs 65 []),.none⟩
def apt (X:SD.D Yu)(K:nJ R):=nN (λy0=>ke 2 K Yu ((z8 (u y0) X.1),X.2)) (λy0 y1=>kr K Yu ((z2 (w y0 (z5 (u y1))) X.1),X.2)) X.1.1 X.1.2.1 (q2 X) (q3 X) (q4 X) (q5 X) (q6 X) (q7 X) X.2.1.1
abbrev Yt:SD:=⟨cD (iX bm)::cD (iX iD)::B::B::DB::bs 7 (cD (iX bm)::DI::DI::bs 57 []),zs 72 [],.none⟩
def aps (X:SD.D Yt)(K:nJ R):=nM (λy0=>ke 0 K Yt ((z5 (u y0) X.1),X.2)) (λy0 y1=>kr K Yt ((z2 (w y0 (z2 (u y1))) X.1),X.2)) X.1.1 X.1.2.1 (q2 X) (q3 X) (q4 X)
def L38:kC:=(kC.nil.add 9 (vU Yu apt q8)).add 4 (vU Yt aps q5)
theorem as5:uL E apH.g n38 L38 (cA f38 1):=lk Yu apt q8 λX x=>((z8 (u x) X.1),X.2)
theorem as4:uL E apH.g n38 L38 (cA f38 0):=lk Yt aps q5 λX x=>((z5 (u x) X.1),X.2)
def G38:=apH.qk n38 func38 [pd (.sl bm),pd (.sl iD)] [rB] (c2 lz) (cF as4 (cF as5 nF))
abbrev aj8:SD:=⟨B::B::DB::B::B::cD (iX bm)::DI::DI::bs 16 [],zs 24 [],.none⟩
def G39:=G38.q1 {mask:=mk [(2,[2,5,6,7])],merge:=mg [(4,22)]} func39 [pd (.sl bm)] [rB] (c1 sP) aj8 (λX K=>rM (λy0=>ke 0 K aj8 ((z3 (u y0) X.1),X.2)) (λy0 y1=>kr K aj8 ((w y0 (z2 (u y1)) X.1),X.2)) X.1.1 X.1.2.1 (q2 X)) q3 (λX x=>((z3 (u x) X.1),X.2))
def avI:=G39.q0 {merge:=mg [(1,33),(3,54),(5,2)]} func298 [pf lK] [rB] (c1 D9)
abbrev acr:SD:=⟨cD (iX lK)::B::DB::B::B::cD (iX lK)::DI::DI::bs 10 [],zs 18 [],.none⟩
def auJ:=avI.q1 {mask:=mk [(2,[0,2,5,6,7])]} func211 [pd (.sl lK)] [rB] (c1 BZ) acr (λX K=>GZ (λy0=>ke 0 K acr ((z4 (u y0) X.1),X.2)) (λy0 y1=>kr K acr ((z1 (w y0 (z2 (u y1))) X.1),X.2)) X.1.1 X.1.2.1 (q2 X) (q3 X)) q4 (λX x=>((z4 (u x) X.1),X.2))
abbrev acx:SD:=⟨B::B::B::.ptr 3 0::DI::B::B::B::cD (iX jZ)::DI::DI::bs 15 [],Z::Z::Z::(tr (cL FH Y0))::zs 22 [],.none⟩
def avJ:=auJ.q1 {mask:=mk [(2,[3,4,8,9,10])],merge:=mg [(4,23)]} func299 [pf (.sl jZ),pf og] [rI] (c2 AQ) acx (λX K=>xI (λy0=>ke 0 K acx ((z3 (u y0) X.1),X.2)) (λy0 y1=>kr K acx ((w y0 (z2 (u y1)) X.1),X.2)) X.1.1 X.1.2.1 (q2 X) X.2.1.1) q3 (λX x=>((z3 (u x) X.1),X.2))
def auw:=avJ.q0 {} func194 [pI,pI] [rI] (c2 kj)
abbrev aj4:SD:=⟨B::B::B::DI::bs 12 (cD (cM 196608 (.int .i64))::DI::DI::bs 10 []),zs 29 [],.none⟩
def awB:=auw.q1 {mask:=mk [(3,[3,16,17,18])]} func374 [pf og] [rI] (c1 zR) aj4 (λX K=>oz (λy0 y1=>ke 0 K aj4 ((w y0 (z2 (u y1)) X.1),X.2)) X.1.2.1 (q2 X)) (λX=>(X.1.1,q3 X)) (λX x=>((w x.1 (z2 (u x.2)) X.1),X.2))
abbrev ajW:SD:=⟨B::.ptr 1 0::B::cD (cM 36864 (.int .i64))::DI::bs 14 [],Z::(tr (cL FH Y0))::zs 17 [],.none⟩
def apT:=awB.q1 {mask:=mk [(3,[1,3,4])],mv:=[10,18]} func300 [pf og] [(false,(.sl (.own none) (.int .i64)))] (c1 F8) ajW (λX K=>vn (λy0 y1=>ke 0 K ajW ((w y0 (u y1) X.1),X.2)) X.2.1.1) (λX=>(X.1.1,X.1.2.1)) (λX x=>((w x.1 (u x.2) X.1),X.2))
def ark:An:={mask:=mk [(4,[1,2,12,13,14]),(14,[1,2,3,12,13,14,49,50,51])],merge:=mg [(6,28),(9,40)]}
abbrev K7:SD:=⟨B::.ptr 1 0::DB::DI::bs 8 (cD (iX jZ)::DI::DI::bs 34 (cD (cM 602112 (.int .i64))::DI::DI::bs 15 [])),Z::(tr (iX jZ))::zs 65 [],.none⟩
def agh (X:SD.D K7)(K:nJ R):=lC (λy0=>ke 2 K K7 ((z7 (u y0) X.1),X.2)) (λy0 y1=>kr K K7 ((w y0 (z6 (u y1)) X.1),X.2)) X.1.1 X.1.2.1 (q2 X) (q3 X) (q4 X) (q5 X) (q6 X) X.2.1.1
abbrev Qm:SD:=⟨B::.ptr 1 0::DB::bs 9 (cD (iX jZ)::DI::DI::bs 52 []),Z::(tr (iX jZ))::zs 65 [],.none⟩
def amC (X:SD.D Qm)(K:nJ R):=vS (λy0=>ke 0 K Qm ((z3 (u y0) X.1),X.2)) (λy0 y1=>kr K Qm ((w y0 (z2 (u y1)) X.1),X.2)) X.1.1 X.1.2.1 (q2 X) X.2.1.1
def ar2:kC:=(kC.nil.add 14 (vU K7 agh q7)).add 4 (vU Qm amC q3)
theorem an6:uL E apT.g ark ar2 (cA f212 1):=lk K7 agh q7 λX x=>((z7 (u x) X.1),X.2)
theorem aqU:uL E apT.g ark ar2 (cA f212 0):=lk Qm amC q3 λX x=>((z3 (u x) X.1),X.2)
def auK:=apT.qk ark func212 [pf (.sl jZ)] [rB] (c1 tN) (cF aqU (cF an6 nF))
def avK:=auK.q0 {merge:=mg [(1,2)]} func301 [pI] [rB] (c1 HK)
abbrev acs:SD:=⟨B::DI::B::B::DB::bs 19 (cD (iX (.int .i64))::DI::DI::bs 9 []),zs 36 [],.none⟩
def apO:=avK.q1 {mask:=mk [(4,[1,4,24,25,26])],merge:=mg [(1,22)]} func213 [pf DH,pI] [rB] (c2 zX) acs (λX K=>Fg (λy0=>ke 0 K acs ((z4 (u y0) X.1),X.2)) (λy0 y1=>kr K acs ((z1 (w y0 (z2 (u y1))) X.1),X.2)) X.1.1 X.1.2.1 (q2 X) (q3 X)) q4 (λX x=>((z4 (u x) X.1),X.2))
def ard:An:={mask:=mk [(4,[1,2,4,27,28,29]),(10,[1,4,45,46,47])],merge:=mg [(1,25),(6,41),(12,59)]}
abbrev Qh:SD:=⟨B::DI::.ptr 2 0::B::DB::bs 22 (cD (iX lK)::DI::DI::bs 31 []),Z::Z::(some Y30)::zs 58 [],.none⟩
def amr (X:SD.D Qh)(K:nJ R):=pG (λy0=>ke 0 K Qh ((z4 (u y0) X.1),X.2)) (λy0 y1=>kr K Qh ((z1 (w y0 (z2 (u y1))) X.1),X.2)) X.1.1 X.1.2.1 (q2 X) (q3 X) X.2.1.1
abbrev K4:SD:=⟨B::DI::B::B::DB::bs 40 (cD (iX jZ)::DI::DI::bs 13 []),zs 61 [],.none⟩
def aga (X:SD.D K4)(K:nJ R):=nO (λy0=>ke 2 K K4 ((z4 (u y0) X.1),X.2)) (λy0 y1=>kr K K4 ((z1 (w y0 (z2 (u y1))) X.1),X.2)) X.1.1 X.1.2.1 (q2 X) (q3 X)
def arV:kC:=(kC.nil.add 4 (vU Qh amr q4)).add 10 (vU K4 aga q4)
theorem aqJ:uL E apO.g ard arV (cA f112 0):=lk Qh amr q4 λX x=>((z4 (u x) X.1),X.2)
theorem an0:uL E apO.g ard arV (cA f112 1):=lk K4 aga q4 λX x=>((z4 (u x) X.1),X.2)
def atE:=apO.qk ard func112 [pf oh,pI] [rB] (c2 mx) (cF aqJ (cF an0 nF))
def G71:=atE.q0 {merge:=mg [(1,2)]} func71 [pf qj] [rB] (c1 AO)
abbrev ajM:SD:=⟨B::.ptr 1 0::DB::cD (.sl .loc iD)::bs 37 (cD (iX qj)::DI::DI::bs 29 []),Z::(some Y41)::zs 71 [],.none⟩
def G24:=G71.q1 {mask:=mk [(6,[1,2,3,41,42,43])],merge:=mg [(3,39),(8,62),(11,2)]} func24 [pf fT] [rB] (c1 pE) ajM (λX K=>vO (λy0=>ke 0 K ajM ((z4 (u y0) X.1),X.2)) (λy0 y1=>kr K ajM ((w y0 (z3 (u y1)) X.1),X.2)) X.1.1 X.1.2.1 (q2 X) (q3 X) X.2.1.1) q4 (λX x=>((z4 (u x) X.1),X.2))
def G67:=G24.q0 {} func67 [pd (.sl bm)] [(false,(.sl (.own none) bm))] (c1 iQ)
def G87:=G67.q0 {} func87 [pd (.sl (.int .i64))] [(false,(.sl (.own none) (.int .i64)))] (c1 qV)
def atP:=G87.q0 {mv:=[7]} func124 [pf jn] [(true,Y11)] (c1 fF)
def aun:=atP.q0 {mv:=[7]} func177 [pf dm] [(true,(.pair Y11 S1))] (c1 lD)
abbrev ao2:SD:=⟨B::B::B::cD (cM 36864 dm)::B::B::B::cD (iX dm)::DI::DI::bs 10 [],zs 20 [],.none⟩
def G68:=aun.q1 {mask:=mk [(3,[3,7,8,9])],mv:=[13,19]} func68 [pd (.sl dm)] [(false,(.sl (.own none) dm))] (c1 oC) ao2 (λX K=>rH (λy0 y1=>ke 0 K ao2 ((w y0 (z2 (u y1)) X.1),X.2)) X.1.2.1 (q2 X)) (λX=>(X.1.1,q3 X)) (λX x=>((w x.1 (z2 (u x.2)) X.1),X.2))
def G69:=G68.q0 {} func69 [pd (.sl .str)] [(false,(.sl (.own none) .str))] (c1 jz)
def avD:=G69.q0 {} func287 [pf (.sl jZ)] [(true,(.sl (.own none) jZ))] (c1 xF)
def avE:=avD.q0 {sb:=mg [(2,2)]} func288 [pf DH] [(true,(.pair .str (.sl (.own none) (.int .i64))))] (c1 vT)
def auu:=avE.q0 {sb:=mg [(2,2)]} func190 [pf oh] [(true,Y29)] (c1 rL)
def auv:=auu.q0 {} func191 [pd (.sl dU)] [(false,(.sl (.own none) dU))] (c1 oD)
def apN:=auv.q0 {sb:=mg [(2,2)]} func173 [pf qj] [(true,Y33)] (c1 qW)
def n65:An:={mask:=mk [(3,[1,2,3,19,20,21]),(8,[2,3,34,35,36])],mv:=[26,41,48],mb:=mg [(26,3),(41,3)],sb:=mg [(3,3),(31,3),(46,3)]}
abbrev afd:SD:=⟨B::.ptr 1 0::.ptr 2 0::.ptr 3 0::bs 15 (cD (iX qj)::DI::DI::bs 27 []),Z::(some Y41)::(some Y28)::(some Y27)::zs 45 [],.none⟩
def apy (X:SD.D afd)(K:nJ R):=rJ (λy0 y1=>ke 0 K afd ((z2 (u y0) X.1),(z2 (u y1) X.2.1),X.2.2)) X.1.1 X.1.2.1 X.2.1.1 X.2.1.2.1
abbrev afe:SD:=⟨B::B::.ptr 2 0::.ptr 3 0::bs 30 (cD (iX (.sl .str))::DI::DI::bs 12 []),Z::Z::(some Y28)::(some Y27)::zs 45 [],.none⟩
def apz (X:SD.D afe)(K:nJ R):=rK (λy0 y1=>ke 2 K afe ((z2 (u y0) X.1),(z1 (u y1) X.2.1),X.2.2)) X.1.1 X.1.2.1 X.2.1.1
def L65:kC:=(kC.nil.add 3 (vU afd apy (λX=>(q2 X,X.2.1.2.2.1)))).add 8 (vU afe apz (λX=>(q2 X,X.2.1.2.1)))
theorem ata:uL E apN.g n65 L65 (cA f65 0):=lk afd apy (λX=>(q2 X,X.2.1.2.2.1)) λX x=>((z2 (u x.1) X.1),(z2 (u x.2) X.2.1),X.2.2)
theorem atb:uL E apN.g n65 L65 (cA f65 1):=lk afe apz (λX=>(q2 X,X.2.1.2.1)) λX x=>((z2 (u x.1) X.1),(z1 (u x.2) X.2.1),X.2.2)
def G65:=apN.qk n65 func65 [pf fT] [(true,Y16)] (c1 lO) (cF ata (cF atb nF))
def atO:=G65.q0 {merge:=mg [(1,12),(3,31),(5,2)]} func122 [pf ajd] [rB] (c1 F4)
def G45:=atO.q0 {merge:=mg [(1,4)]} func45 [pf eo,pI] [rB] (c2 C1)
def atT:=G45.q0 {merge:=mg [(1,10)]} func136 [pf gT,pI] [(true,S1)] (c2 rF)
abbrev ao1:SD:=⟨B::DI::B::B::B::cD (cM 61440 bm)::bs 4 (DI::DI::bs 15 []),zs 27 [],.none⟩
def G53:=atT.q1 {mask:=mk [(3,[1,5,10,11])],mv:=[26]} func53 [pd (.sl bm),pI] [(false,(.sl (.own none) bm))] (c2 pH) ao1 (λX K=>ma (λy0 y1=>ke 0 K ao1 ((z1 (w y0 (z1 (u y1))) X.1),X.2)) X.1.1 (q2 X)) (λX=>(X.1.2.1,q3 X)) (λX x=>((z1 (w x.1 (z1 (u x.2))) X.1),X.2))
def awE:=G53.q0 {merge:=mg [(2,17)],mv:=[18,29]} func377 [pf jn,pI] [(true,Y11),rB] (c2 BT)
abbrev aj6:SD:=⟨B::DI::B::B::.ptr 4 0::B::.ptr 6 0::bs 18 (cD (iX (.int .i64))::DI::DI::bs 14 []),zs 4 ((some Y40)::Z::(some Y39)::zs 35 []),.none⟩
def awF:=awE.q1 {mask:=mk [(6,[1,4,6,25,26,27])],merge:=mg [(2,20)],mv:=[21,35,41]} func378 [pf jn,pI] [(true,Y11),rB] (c2 zL) aj6 (λX K=>tB (λy0 y1=>ke 0 K aj6 ((z3 (u y0) X.1),(z1 (u y1) X.2.1),X.2.2)) X.1.1 X.1.2.1 (q2 X) X.2.1.1) (λX=>(q3 X,X.2.1.2.1)) (λX x=>((z3 (u x.1) X.1),(z1 (u x.2) X.2.1),X.2.2))
def avT:=awF.q0 {mv:=[21,30,39,46],mb:=mg [(39,6)],sb:=mg [(4,4)]} func310 [pf jn,pf gT] [(true,Y11),rI] (c2 B0)
def auS:=avT.q0 {mv:=[13,20,30,31,47],mb:=mg [(20,6),(47,6)],sb:=mg [(4,4)],fm:=[49]} func221 [pf dm,pf gT] [(true,(.pair Y11 S1)),rI] (c2 pD)
def apI:=auS.q0 {mv:=[14,23,32,60],es:=mg [(25,8)]} func123 [pd (.sl dm),pI,pf gT] [(false,(.sl (.own none) dm)),rI] (c3 rG)
def arp:An:={mask:=mk [(3,[0,3,4]),(7,[0,3,4,5])]}
abbrev Wi:SD:=⟨cD .str::B::B::cD (.int .u32)::DI::DI::bs 28 [],zs 34 [],.none⟩
def amK (X:SD.D Wi)(K:nJ R):=qS (λy0 y1=>ke 2 K Wi ((z1 (w y0 (z1 (u y1))) X.1),X.2)) X.1.1 (q2 X)
abbrev Wh:SD:=⟨cD .str::B::B::cD (.int .u32)::DI::bs 29 [],zs 34 [],.none⟩
def amJ (X:SD.D Wh)(K:nJ R):=vh (λy0 y1=>ke 0 K Wh ((z1 (w y0 (u y1)) X.1),X.2)) X.1.1
def ar7:kC:=(kC.nil.add 7 (vU Wi amK (λX=>(X.1.2.1,q3 X)))).add 3 (vU Wh amJ (λX=>(X.1.2.1,q2 X)))
theorem aq2:uL E apI.g arp ar7 (cA f303 1):=lk Wi amK (λX=>(X.1.2.1,q3 X)) λX x=>((z1 (w x.1 (z1 (u x.2))) X.1),X.2)
theorem aq1:uL E apI.g arp ar7 (cA f303 0):=lk Wh amJ (λX=>(X.1.2.1,q2 X)) λX x=>((z1 (w x.1 (u x.2)) X.1),X.2)
def avM:=apI.qk arp func303 [pd .str] [rI] (c1 CZ) (cF aq1 (cF aq2 nF))
def avV:=avM.q0 {} func316 [pd .str] [rS] (c1 xE)
def auT:=avV.q0 {merge:=mg [(2,17)]} func230 [pd .str] [rS,rB] (c1 zK)
def auA:=auT.q0 {merge:=mg [(1,18),(5,2),(7,2)]} func200 [pf E0] [rB] (c1 sO)
def auB:=auA.q0 {merge:=mg [(1,2)]} func201 [pI] [rB] (c1 xJ)
def G97:=auB.q0 {merge:=mg [(1,2)]} func97 [pf cj] [rB] (c1 ib)
def auC:=G97.q0 {merge:=mg [(1,13)]} func204 [pd .str,pI] [rI] (c2 jy)
def auD:=auC.q0 {merge:=mg [(1,13)]} func205 [pd .str,pI] [rI] (c2 lM)
def awG:=auD.q0 {merge:=mg [(1,2)]} func383 [pf aje] [rB] (c1 C0)
def avW:=awG.q0 {merge:=mg [(4,33)],sb:=mg [(4,4)]} func317 [pd .str] [(true,Y22),rB] (c1 zT)
def avL:=avW.q0 {} func302 [pI] [rS] (c1 iw)
def avU:=avL.q0 {} func313 [pI] [rS] (c1 ee)
def axD:=avU.q0 {merge:=mg [(1,12)]} func447 [pI,pI] [rI] (c2 BS)
abbrev ake:SD:=⟨cD .str::B::B::DI::DI::bs 28 [],zs 33 [],.none⟩
def axg:=axD.q1 {mask:=mk [(3,[0,3,4])]} func424 [pd .str] [rI] (c1 zY) ake (λX K=>tM (λy0 y1=>ke 0 K ake ((z1 (w y0 (u y1)) X.1),X.2)) X.1.1) (λX=>(X.1.2.1,q2 X)) (λX x=>((z1 (w x.1 (u x.2)) X.1),X.2))
def awJ:=axg.q0 {} func386 [pd .str] [rI] (c1 vg)
def awK:=awJ.q0 {merge:=mg [(1,17)]} func387 [pd .str,pI,pd .str] [rS] (c3 qT)
def axh:=awK.q0 {merge:=mg [(1,2)]} func425 [pf TIp] [rB] (c1 MZ)
def awM:=axh.q0 {} func389 [pf TIp] [rS,rB] (c1 zS)
def av0:=awM.q0 {} func321 [pf TIp] [rS,rB] (c1 xp)
def avX:=av0.q0 {merge:=mg [(2,22),(6,56)],sb:=mg [(5,5)]} func318 [pd .str] [(true,Y37),rB] (c1 BX)
def awH:=avX.q0 {} func384 [pf E0] [rS] (c1 tO)
def awI:=awH.q0 {merge:=mg [(1,27)]} func385 [pI,pI,pI,pI] [rS,rB] (c4 xA)
def awL:=awI.q0 {} func388 [pI] [rI] (c1 vm)
def avZ:=awL.q0 {merge:=mg [(8,39)]} func320 [pI,pI,pf E0] [rS,rB] (c3 ku)
def avY:=avZ.q0 {merge:=mg [(3,20),(9,44),(12,68)]} func319 [pI,pI,pI,pd .str] [(true,(.pair (.int .i64) Y37)),rB] (c4 rE)
def auU:=avY.q0 {merge:=mg [(2,20)]} func231 [pd .str] [(true,Y1),rI] (c1 xC)
def auV:=auU.q0 {merge:=mg [(1,2)]} func232 [pf cj] [rB] (c1 nn)
def atR:=auV.q0 {} func133 [pd .str] [(true,Y1),rI] (c1 oB)
def awN:=atR.q0 {} func390 [pI] [rS] (c1 zZ)
def av1:=awN.q0 {} func322 [pf aje] [rS,rB] (c1 zJ)
abbrev ajA:SD:=⟨cD (.int .u8)::bs 4 (cD (cM 61440 (.int .u8))::bs 4 (DI::DI::bs 9 [])),zs 21 [],.none⟩
def atQ:=av1.q1 {mask:=mk [(3,[0,5,10,11])]} func129 [pd (.int .u8),pI] [rS] (c2 Eb) ajA (λX K=>xH (λy0 y1=>ke 0 K ajA ((z1 (w y0 (z1 (u y1))) X.1),X.2)) X.1.1 (q2 X)) (λX=>(X.1.2.1,q3 X)) (λX x=>((z1 (w x.1 (z1 (u x.2))) X.1),X.2))
def av2:=atQ.q0 {} func323 [pd .str] [rS] (c1 BW)
def auW:=av2.q0 {} func233 [pf cj] [rS,rB] (c1 qp)
def auZ:=auW.q0 {} func237 [pf cj] [rS,rB] (c1 qo)
abbrev ajT:SD:=⟨B::B::B::cD (cM 36864 .str)::bs 5 (cD (iX cj)::DI::DI::bs 15 []),zs 27 [],.none⟩
def avx:=auZ.q1 {mask:=mk [(3,[3,9,10,11])],mv:=[21,26]} func276 [pd (.sl cj)] [(false,(.sl (.own none) .str))] (c1 zP) ajT (λX K=>oy (λy0 y1=>ke 0 K ajT ((w y0 (z2 (u y1)) X.1),X.2)) X.1.2.1 (q2 X)) (λX=>(X.1.1,q3 X)) (λX x=>((w x.1 (z2 (u x.2)) X.1),X.2))
abbrev ajU:SD:=⟨B::DI::.ptr 2 0::B::B::cD .str::cD (cM 73728 cj)::DI::bs 80 [],Z::Z::(some Y1)::zs 85 [],.none⟩
def avy:=avx.q1 {mask:=mk [(8,[1,2,5,6,7])],merge:=mg [(1,17),(4,30)],mv:=[83,87]} func277 [pf cj,pI] [(false,(.sl (.own none) cj))] (c2 F7) ajU (λX K=>zW (λy0 y1=>ke 0 K ajU ((z2 (w y0 (u y1)) X.1),X.2)) X.1.1 X.1.2.1 X.2.1.1) (λX=>(q2 X,q3 X)) (λX x=>((z2 (w x.1 (u x.2)) X.1),X.2))
def auk:=avy.q0 {} func174 [pf cj,pI] [(false,(.sl (.own none) .str))] (c2 vR)
def auX:=auk.q0 {merge:=mg [(1,15)]} func234 [pf gT,pI] [(true,S1),rB] (c2 tI)
def apP:=auX.q0 {merge:=mg [(1,24),(7,54)]} func235 [pd (.sl iD),pI,pf cj] [rI] (c3 ox)
def arl:An:={mask:=mk [(11,[0,1,7,8,33,34]),(17,[0,1,7,11,43,44,45])],merge:=mg [(19,60)],mv:=[37,61,66]}
abbrev Ps:SD:=⟨cD (iX iD)::DI::bs 5 (DI::B::B::B::cD (cM 135168 (.int .i64))::bs 31 (cD (.sl .loc (.int .i64))::DI::DI::bs 21 [])),zs 67 [],.none⟩
def agj (X:SD.D Ps)(K:nJ R):=gI (λy0 y1=>ke 2 K Ps ((z3 (w y0 (z2 (u y1))) X.1),X.2)) X.1.1 X.1.2.1 (q2 X) (q4 X) (q5 X)
abbrev Pr:SD:=⟨cD (iX iD)::DI::bs 5 (DI::cD (cM 98304 (.int .i64))::bs 24 (DI::DI::bs 32 [])),zs 67 [],.none⟩
def agi (X:SD.D Pr)(K:nJ R):=lZ (λy0 y1=>ke 0 K Pr ((z3 (w y0 (z1 (u y1))) X.1),X.2)) X.1.1 X.1.2.1 (q2 X) (q4 X)
def ar3:kC:=(kC.nil.add 17 (vU Ps agj (λX=>(q3 X,q6 X)))).add 11 (vU Pr agi (λX=>(q3 X,q5 X)))
theorem an8:uL E apP.g arl ar3 (cA f236 1):=lk Ps agj (λX=>(q3 X,q6 X)) λX x=>((z3 (w x.1 (z2 (u x.2))) X.1),X.2)
theorem an7:uL E apP.g arl ar3 (cA f236 0):=lk Pr agi (λX=>(q3 X,q5 X)) λX x=>((z3 (w x.1 (z1 (u x.2))) X.1),X.2)
def auY:=apP.qk arl func236 [pd (.sl iD),pI,pf cj] [(false,(.sl (.own none) (.int .i64)))] (c3 mO) (cF an7 (cF an8 nF))
def atS:=auY.q0 {merge:=mg [(2,35),(7,73)],late:=[93],mv:=[36,81],er:=mg [(98,11)]} func134 [pd (.sl bm),pd (.sl iD),pI,pf cj] [(false,(.sl (.own none) bm)),(false,(.sl (.own none) (.int .i64))),rB] (c4 zV)
def au0:=atS.q0 {merge:=mg [(1,34)]} func238 [pd (.sl iD),pI,pI,pf cj] [(true,Y1)] (c4 tE)
def au1:=au0.q0 {merge:=mg [(1,4)]} func240 [pf jn,pf cj] [rB] (c2 BR)
def avG:=au1.q0 {} func293 [pf cj] [(true,(.pair (.int .i64) Y0))] (c1 AL)
def axi:=avG.q0 {} func426 [pI,pI,pI] [rB] (c3 qt)
def awO:=axi.q0 {merge:=mg [(1,4)]} func393 [pf lK,pf cj] [rB] (c2 tF)
abbrev ajX:SD:=⟨cD (iX lK)::B::B::.ptr 3 0::B::DI::bs 5 (cD (iX lK)::DI::DI::bs 24 []),Z::Z::Z::(some Y1)::zs 34 [],.none⟩
def av3:=awO.q1 {mask:=mk [(5,[0,3,5,11,12,13])],merge:=mg [(7,34)]} func330 [pd (.sl lK),pf cj] [rI] (c2 zO) ajX (λX K=>tD (λy0 y1=>ke 0 K ajX ((z1 (w y0 (z2 (u y1))) X.1),X.2)) X.1.1 (q2 X) (q3 X) X.2.1.1) (λX=>(X.1.2.1,q4 X)) (λX x=>((z1 (w x.1 (z2 (u x.2))) X.1),X.2))
def av4:=av3.q0 {} func331 [pf (.sl jZ),pf og] [rI] (c2 zM)
def axd:=av4.q0 {} func421 [pd .str,pI] [rI] (c2 AP)
abbrev akd:SD:=⟨cD .str::DI::B::B::B::DI::DI::bs 22 [],zs 29 [],.none⟩
def axe:=axd.q1 {mask:=mk [(5,[0,1,5,6])],merge:=mg [(1,14)]} func422 [pd .str,pI] [rI] (c2 xx) akd (λX K=>rD (λy0 y1=>ke 0 K akd ((z2 (w y0 (u y1)) X.1),X.2)) X.1.1 X.1.2.1) (λX=>(q2 X,q3 X)) (λX x=>((z2 (w x.1 (u x.2)) X.1),X.2))
abbrev aj3:SD:=⟨cD .str::cD .str::B::B::B::DI::DI::bs 25 [],zs 32 [],.none⟩
def awy:=axe.q1 {mask:=mk [(5,[0,1,5,6])],merge:=mg [(1,14)]} func369 [pd .str,pd .str] [rI] (c2 xt) aj3 (λX K=>rC (λy0 y1=>ke 0 K aj3 ((z2 (w y0 (u y1)) X.1),X.2)) X.1.1 X.1.2.1) (λX=>(q2 X,q3 X)) (λX x=>((z2 (w x.1 (u x.2)) X.1),X.2))
def awz:=awy.q0 {} func370 [pf og] [rS] (c1 xu)
def avF:=awz.q0 {} func292 [pd .str,pf og] [rI] (c2 zQ)
def awP:=avF.q0 {merge:=mg [(2,17)]} func394 [pf DH,pf og] [rI] (c2 BV)
def av5:=awP.q0 {merge:=mg [(2,18)]} func332 [pf DH,pI,pf og] [rI] (c3 tJ)
def au2:=av5.q0 {merge:=mg [(1,17)]} func241 [pf oh,pI,pf cj] [rI] (c3 tK)
abbrev acA:SD:=⟨B::B::B::.ptr 3 0::DI::B::B::cD (iX dU)::DI::DI::bs 10 [],Z::Z::Z::(tr (cL FH Y0))::zs 16 [],.none⟩
def awA:=au2.q1 {mask:=mk [(2,[3,4,7,8,9])]} func373 [pd (.sl dU),pf og] [rI] (c2 tL) acA (λX K=>nP (λy0=>ke 0 K acA ((z3 (u y0) X.1),X.2)) (λy0 y1=>kr K acA ((w y0 (z2 (u y1)) X.1),X.2)) X.1.1 X.1.2.1 (q2 X) X.2.1.1) q3 (λX x=>((z3 (u x) X.1),X.2))
def avH:=awA.q0 {merge:=mg [(17,82)],mv:=[16,31,51,58,67,83,132],er:=mg [(115,5)]} func295 [pd (.sl dU),pf cj] [(false,(.sl (.own none) dU))] (c2 xr)
def avz:=avH.q0 {merge:=mg [(3,35)],mv:=[41]} func278 [pf qj,pd .str] [(true,Y33)] (c2 tH)
abbrev ajK:SD:=⟨bs 5 (.ptr 5 0::.ptr 6 0::.ptr 7 0::cD (cM 98304 iD)::B::DI::bs 28 (cD (cM 479232 (.int .i64))::DI::DI::bs 35 [])),zs 5 ((some Y1)::(some Y26)::(some Y25)::zs 69 []),.none⟩
def aum:=avz.q1 {mask:=mk [(7,[5,6,7,8,10,39,40,41])],merge:=mg [(2,24)],mv:=[25,26,57,76]} func176 [pf fT,pI,pf cj] [(true,Y16)] (c3 oA) ajK (λX K=>kQ (λy0 y1=>ke 0 K ajK ((z4 (u y0) X.1),(z2 (u y1) X.2.1),X.2.2)) X.1.1 X.1.2.1 (q2 X) (q3 X) X.2.1.1 X.2.1.2.1) (λX=>(q4 X,X.2.1.2.2.1)) (λX x=>((z4 (u x.1) X.1),(z2 (u x.2) X.2.1),X.2.2))
abbrev ajJ:SD:=⟨B::DI::B::B::.ptr 4 0::.ptr 5 0::cD (cM 73728 iD)::bs 25 (cD (iX .str)::DI::DI::bs 30 []),zs 4 ((tr (cL (cM 49153 qj) (cL (cM 49156 (.sl .str)) (cL (cM 49159 bm) (cL (cM 49162 dm) (cM 49165 .str))))))::(tr (cL (cM 61441 qj) (cL (cM 61444 (.sl .str)) (cL (cM 61447 bm) (cL (cM 61450 dm) (cM 61453 .str))))))::zs 59 []),.none⟩
def aul:=aum.q1 {mask:=mk [(5,[1,4,5,6,32,33,34])],mv:=[17,45,55,64]} func175 [pf fT,pI] [(true,Y16)] (c2 pJ) ajJ (λX K=>js (λy0 y1=>ke 0 K ajJ ((z4 (u y0) X.1),(z1 (u y1) X.2.1),X.2.2)) X.1.1 X.1.2.1 (q2 X) (q3 X) X.2.1.1) (λX=>(q4 X,X.2.1.2.1)) (λX x=>((z4 (u x.1) X.1),(z1 (u x.2) X.2.1),X.2.2))
abbrev ako:SD:=⟨bs 6 (.ptr 6 0::.ptr 7 0::bs 51 (DI::DI::bs 66 [])),zs 6 ((some Y26)::(some Y25)::zs 119 []),.none⟩
def G66:=aul.q1 {mask:=mk [(12,[6,7,59,60])],merge:=mg [(2,24)],mv:=[25,32,54,69,84,126],sb:=mg [(77,7)],eb:=mg [(83,7)]} func66 [pf fT,pf eo,pI] [(true,Y16)] (c3 BU) ako (λX K=>ow (λy0 y1=>ke 1 K ako ((z1 (u y0) X.1),(z1 (u y1) X.2.1),X.2.2)) X.1.1 X.2.1.1) (λX=>(X.1.2.1,X.2.1.2.1)) (λX x=>((z1 (u x.1) X.1),(z1 (u x.2) X.2.1),X.2.2))
abbrev aoZ:SD:=⟨B::B::cD (iX (.int .i64))::B::B::B::.ptr 6 0::.ptr 7 0::bs 20 (cD (iX eo)::DI::DI::bs 13 []),zs 6 ((some Y26)::(some Y25)::zs 36 []),.none⟩
def G21:=G66.q1 {mask:=mk [(5,[2,6,7,28,29,30])],merge:=mg [(2,26)],mv:=[27,43],sb:=mg [(7,7)]} func21 [pf fT,pd (.sl eo),pd (.sl (.int .i64))] [(true,Y16)] (c3 qU) aoZ (λX K=>tG (λy0 y1=>ke 0 K aoZ ((z3 (u y0) X.1),(z1 (u y1) X.2.1),X.2.2)) X.1.1 X.1.2.1 (q2 X) X.2.1.1) (λX=>(q3 X,X.2.1.2.1)) (λX x=>((z3 (u x.1) X.1),(z1 (u x.2) X.2.1),X.2.2))
def auy:=G21.q0 {merge:=mg [(1,2)]} func198 [pI] [rB] (c1 vk)
def auz:=auy.q0 {} func199 [pf lJ] [rI] (c1 zU)
def G95:=auz.q0 {merge:=mg [(1,2)]} func95 [pf lJ] [rB] (c1 AN)
def G96:=G95.q0 {merge:=mg [(1,2)]} func96 [pf gT] [rB] (c1 xB)
def G33:=G96.q0 {merge:=mg [(1,42),(5,2)]} func33 [pf fB] [rB] (c1 IM)
abbrev aca:SD:=⟨B::.ptr 1 0::DB::B::B::B::cD (iX .str)::DI::DI::bs 11 [],Z::(tr (iX .str))::zs 18 [],.none⟩
def atz:=G33.q1 {mask:=mk [(2,[1,2,6,7,8])]} func106 [pf (.sl .str)] [rB] (c1 EE) aca (λX K=>Ff (λy0=>ke 0 K aca ((z3 (u y0) X.1),X.2)) (λy0 y1=>kr K aca ((w y0 (z2 (u y1)) X.1),X.2)) X.1.1 X.1.2.1 (q2 X) X.2.1.1) q3 (λX x=>((z3 (u x) X.1),X.2))
abbrev acq:SD:=⟨B::DI::DI::B::B::B::DI::B::B::cD (iX cX)::DI::DI::bs 16 [],zs 28 [],.none⟩
def auG:=atz.q1 {mask:=mk [(2,[1,2,6,9,10,11])],merge:=mg [(4,25)]} func208 [pd (.sl cX),pI,pI] [rI] (c3 tP) acq (λX K=>nQ (λy0=>ke 0 K acq ((z5 (u y0) X.1),X.2)) (λy0 y1=>kr K acq ((z2 (w y0 (z2 (u y1))) X.1),X.2)) X.1.1 X.1.2.1 (q2 X) (q3 X) (q4 X)) q5 (λX x=>((z5 (u x) X.1),X.2))
abbrev acb:SD:=⟨cD (iX cX)::B::DB::B::B::cD (iX cX)::DI::DI::bs 34 [],zs 42 [],.none⟩
def atA:=auG.q1 {mask:=mk [(2,[0,2,5,6,7])],merge:=mg [(4,37)]} func107 [pd (.sl cX)] [rB] (c1 vP) acb (λX K=>pF (λy0=>ke 0 K acb ((z4 (u y0) X.1),X.2)) (λy0 y1=>kr K acb ((z1 (w y0 (z2 (u y1))) X.1),X.2)) X.1.1 X.1.2.1 (q2 X) (q3 X)) q4 (λX x=>((z4 (u x) X.1),X.2))
abbrev acf:SD:=⟨B::.ptr 1 0::DB::cD (cM 36864 .bool)::bs 22 (cD (iX (.int .i64))::DI::DI::bs 19 []),Z::(some Y38)::zs 46 [],.none⟩
def atD:=atA.q1 {mask:=mk [(5,[1,2,3,26,27,28])],merge:=mg [(1,21),(7,43)]} func110 [pf nC] [rB] (c1 sN) acf (λX K=>xz (λy0 y1=>ke 0 K acf ((z1 (w y0 (z2 (u y1))) X.1),X.2)) (λy0 y1 y2=>kr K acf ((w y0 (w y1 (z2 (u y2))) X.1),X.2)) X.1.1 (q2 X) (q3 X) X.2.1.1) (λX=>(X.1.2.1,q4 X)) (λX x=>((z1 (w x.1 (z2 (u x.2))) X.1),X.2))
def aut:=atD.q0 {mv:=[7]} func189 [pf nC] [(true,Y12)] (c1 vi)
def auH:=aut.q0 {merge:=mg [(3,21)],mv:=[10,24]} func209 [pf nC,pd (.sl (.int .i64))] [(true,Y12),rB] (c2 lA)
abbrev acd:SD:=⟨B::.ptr 1 0::DB::DI::cD (cM 49152 (.int .i64))::bs 25 (cD (iX ru)::DI::DI::bs 35 []),Z::(some Y17)::zs 66 [],.none⟩
def atB:=auH.q1 {mask:=mk [(6,[1,2,3,4,30,31,32])],merge:=mg [(1,24),(8,50)],mv:=[55]} func108 [pf mF] [rB] (c1 IP) acd (λX K=>xD (λy0 y1 y2=>ke 0 K acd ((z1 (w y0 (w y1 (z2 (u y2)))) X.1),X.2)) (λy0 y1 y2 y3=>kr K acd ((w y0 (w y1 (w y2 (z2 (u y3)))) X.1),X.2)) X.1.1 (q3 X) (q4 X) X.2.1.1) (λX=>(X.1.2.1,q2 X,q5 X)) (λX x=>((z1 (w x.1 (w x.2.1 (z2 (u x.2.2)))) X.1),X.2))
def auI:=atB.q0 {merge:=mg [(1,2)]} func210 [pf ir] [rB] (c1 Rj)
def apG:=auI.q0 {merge:=mg [(1,24),(3,2)]} func111 [pf ir] [rB] (c1 EF)
def n36:An:={mask:=mk [(5,[1,2,3,61,62]),(12,[1,2,3,103,104,105])],merge:=mg [(2,58),(7,89)]}
abbrev Ys:SD:=⟨B::.ptr 1 0::DB::DI::bs 57 (DI::DI::bs 54 []),Z::(some Y3)::zs 115 [],.none⟩
def apr (X:SD.D Ys)(K:nJ R):=xv (λy0=>ke 0 K Ys ((z3 (u y0) X.1),X.2)) (λy0 y1=>kr K Ys ((w y0 (z2 (u y1)) X.1),X.2)) X.1.1 X.1.2.1 (q2 X) X.2.1.1
abbrev Qp:SD:=⟨B::.ptr 1 0::DB::DI::bs 99 (cD (cM 1265664 (.int .i64))::DI::DI::bs 11 []),Z::(some Y3)::zs 115 [],.none⟩
def amO (X:SD.D Qp)(K:nJ R):=vM (λy0=>ke 2 K Qp ((z4 (u y0) X.1),X.2)) (λy0 y1=>kr K Qp ((w y0 (z3 (u y1)) X.1),X.2)) X.1.1 X.1.2.1 (q2 X) (q3 X) X.2.1.1
def L36:kC:=(kC.nil.add 5 (vU Ys apr q3)).add 12 (vU Qp amO q4)
theorem as3:uL E apG.g n36 L36 (cA f36 0):=lk Ys apr q3 λX x=>((z3 (u x) X.1),X.2)
theorem aq6:uL E apG.g n36 L36 (cA f36 1):=lk Qp amO q4 λX x=>((z4 (u x) X.1),X.2)
def G36:=apG.qk n36 func36 [pf dz] [rB] (c1 AM) (cF as3 (cF aq6 nF))
def atH:=G36.q0 {merge:=mg [(1,2)]} func115 [pf (.sl .str)] [rB] (c1 F6)
def auL:=atH.q0 {merge:=mg [(1,15)]} func214 [pI,pd .str] [rS,rB] (c2 xy)
def atI:=auL.q0 {merge:=mg [(2,19),(5,38)]} func116 [pd .str] [rI] (c1 mL)
def G40:=atI.q0 {merge:=mg [(4,18)]} func40 [pf (.sl .str)] [rI] (c1 zI)
def G41:=G40.q0 {merge:=mg [(1,2)]} func41 [pf lJ] [rB] (c1 F5)
abbrev ajB:SD:=⟨B::.ptr 1 0::DB::cD (.sl .loc iD)::bs 30 (cD (iX dz)::DI::DI::bs 40 []),Z::(some Y15)::zs 75 [],.none⟩
def G13:=G41.q1 {mask:=mk [(5,[1,2,3,34,35,36])],merge:=mg [(2,32),(7,55),(10,2)]} func13 [pf sq] [rB] (c1 D8) ajB (λX K=>xq (λy0=>ke 0 K ajB ((z4 (u y0) X.1),X.2)) (λy0 y1=>kr K ajB ((w y0 (z3 (u y1)) X.1),X.2)) X.1.1 X.1.2.1 (q2 X) (q3 X) X.2.1.1) q4 (λX x=>((z4 (u x) X.1),X.2))
def G70:=G13.q0 {} func70 [pf dz] [(true,Y33)] (c1 Ea)
abbrev ao0:SD:=⟨B::B::.ptr 2 0::.ptr 3 0::bs 17 (cD (iX dz)::DI::DI::bs 18 []),Z::Z::(some Y28)::(some Y27)::zs 38 [],.none⟩
def G22:=G70.q1 {mask:=mk [(5,[2,3,21,22,23])],mv:=[28,35,41],mb:=mg [(28,3)],sb:=mg [(3,3),(33,3)]} func22 [pf sq] [(true,Y16)] (c1 xw) ao0 (λX K=>vN (λy0 y1=>ke 0 K ao0 ((z2 (u y0) X.1),(z1 (u y1) X.2.1),X.2.2)) X.1.1 X.1.2.1 X.2.1.1) (λX=>(q2 X,X.2.1.2.1)) (λX x=>((z2 (u x.1) X.1),(z1 (u x.2) X.2.1),X.2.2))
abbrev ajL:SD:=⟨cD (iX dU)::cD (iX dU)::B::B::DB::DI::bs 20 [],zs 26 [],.none⟩
def G23:=G22.q1 {mask:=mk [(4,[0,1,4,5])]} func23 [pd (.sl dU),pd (.sl dU)] [rB] (c2 tQ) ajL (λX K=>uP (λy0=>ke 0 K ajL ((z3 (u y0) X.1),X.2)) (λy0 y1=>kr K ajL ((z2 (w y0 (u y1)) X.1),X.2)) X.1.1 X.1.2.1 (q2 X)) q3 (λX x=>((z3 (u x) X.1),X.2))
abbrev uR:aw PS:=[pd (.sl (.int .u8))]
def BF:lH:=T5 uR [rB] (c1 xK)
def BI:An:={mask:=mk [(11,[2,3,8,9,10])],merge:=mg [(8,74),(13,122),(15,2)],sb:=mg [(9,9)]}
abbrev ja:SD:=⟨B::B::DB::.ptr 3 0::bs 4 (.ptr 8 0::.ptr 9 0::DI::bs 123 []),Z::Z::Z::(tr (cL (.sl .loc dz) (cL (.sl .loc bm) (cL (.sl .loc dm) (cL (.sl .loc .str) (cL Y0 (cL (.sl .loc (.int .i64)) (.sl .loc .str))))))))::zs 4 ((tr (cL (cM 98305 qj) (cL (cM 98308 (.sl .str)) (cL (cM 98311 bm) (cL (cM 98314 dm) (cM 98317 .str))))))::(tr (cL (cM 110593 qj) (cL (cM 110596 (.sl .str)) (cL (cM 110599 bm) (cL (cM 110602 dm) (cM 110605 .str))))))::zs 124 []),.none⟩
def yB (X:SD.D ja)(K:nJ R):=rh (λy0=>ke 0 K ja ((z1 (u y0) X.1),X.2)) (λy0 y1=>kr K ja ((w y0 (u y1) X.1),X.2)) X.1.1 X.2.1.1 X.2.1.2.1 X.2.1.2.2.1
def BC:kC:=kC.nil.add 11 (vU ja yB (λX=>X.1.2.1))
theorem Gb:uL E G23.g BI BC (cA f6 0):=lk ja yB (λX=>X.1.2.1) λX x=>((z1 (u x) X.1),X.2)
theorem Jg:ND 6 BF:=fk BI G23.s func6 (Λ:=BC) (cF Gb nF)
end
end Go.Proofs.YtbebkmajekhclaaGreat.Fn
