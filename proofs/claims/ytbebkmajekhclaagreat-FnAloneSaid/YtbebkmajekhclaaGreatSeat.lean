import Derived.Test.YtbebkmajekhclaaGreatDnSig
import Derived.Test.YtbebkmajekhclaaGreatPure
import Derived.Test.YtbebkmajekhclaaGreatRows
/- Each function of the program is its pure function (made by gen.py). -/
namespace Go.Proofs.YtbebkmajekhclaaGreat.Fn
open Go.Dn
open Go.Pu Go.Proofs.Tryz
set_option maxRecDepth 100000
set_option linter.unusedVariables false
noncomputable section
variable {an:An} {Γ:BA} {Λ:jZ} {f:Nat} {P:Program} {A0 A1 A2 A3 A4 A5 A6 A7 C R σ:Type} {rs:aw (Bool×FT)} {s:aw PS}
abbrev oZ (R:Type):=Ex->AS->Option R
abbrev EY:FT:=.int .i64
abbrev cL (a b:FT):FT:=.pair a b
abbrev ka (b:FT):FT:=.pair (.int .i64) b
abbrev cP (n:Nat)(t:CT):FT:=.sl (.own (some n)) t
abbrev pW (t:FT):Option FT:=some t
abbrev cz (t:FT):PD:=.data false t
abbrev iU (t:FT):PD:=.data true t
abbrev je (t:CT):FT:=.sl .arg t
abbrev KI:=iJ Tryz.prog
abbrev B:PD:=.bot
abbrev DI:PD:=.data false (.int .i64)
abbrev DB:PD:=.data false .bool
abbrev Z:ay FT:=none
theorem nF {p:Code->Prop}:∀x∈([]:aw Code),p x:=λ_ h=>nomatch h
theorem cF {p:Code->Prop}{a:Code}{l:aw Code}(h:p a)(t:∀x∈l,p x):∀x∈a::l,p x:=List.forall_mem_cons.2 ⟨h,t⟩
theorem hF {p:Code->Prop}{l m:aw Code}(e:l=m)(h:∀x∈m,p x):∀x∈l,p x:=e▸h
theorem fk {E:Env}{F:C7 s->ay (ly rs)}{fn:Func}(an:An)(hS:Sound P E Γ)(hf:P.funcs[f]?=some fn){l:aw Code}(h:∀c∈l,tE E Γ an Λ c)(hn:(fn.name== "runtime.NumGoroutine")=false:=by kernel_rfl)(hl:iR (fn.body.getD .skip)=l:=by kernel_rfl)(fS:an.cut=[]:=by kernel_rfl)(hF:∀a,FF E Γ an Λ fn rs (mm s a)=F a:=by intro a;kernel_rfl):iJ P f (RM s rs F):=iJ.of (aeT hS hf hn (Bz.of (Fn.hF hl h) fS)) hF
theorem ao {E:Env}{b:Code}{l:aw Code}(h:∀c∈l,tE E Γ an Λ c)(hl:iR b=l:=by kernel_rfl)(hc:an.cut=[]:=by kernel_rfl):Bz E Γ an Λ b:=Bz.of (Fn.hF hl h) hc
theorem ac {E:Env}{b:Code}{l m:aw Code}(h:∀c∈l,tE E Γ an Λ c)(hc:∀c∈m,QI E Γ an Λ c)(hl:iR b=l:=by kernel_rfl)(hm:lG an.cut b=m:=by kernel_rfl):Bz E Γ an Λ b:=⟨Fn.hF hl h,Fn.hF hm hc⟩
theorem fc {E:Env}{F:C7 s->ay (ly rs)}{fn:Func}(an:An)(hS:Sound P E Γ)(hf:P.funcs[f]?=some fn){l m:aw Code}(h:∀c∈l,tE E Γ an Λ c)(hc:∀c∈m,QI E Γ an Λ c)(hn:(fn.name== "runtime.NumGoroutine")=false:=by kernel_rfl)(hl:iR (fn.body.getD .skip)=l:=by kernel_rfl)(hm:lG an.cut (fn.body.getD .skip)=m:=by kernel_rfl)(hF:∀a,FF E Γ an Λ fn rs (mm s a)=F a:=by intro a;kernel_rfl):iJ P f (RM s rs F):=iJ.of (aeT hS hf hn ⟨Fn.hF hl h,Fn.hF hm hc⟩) hF
abbrev pd (t:CT):PS:=.data false t
abbrev pf (t:CT):PS:=.data true t
abbrev pI:PS:=.data false (.int .i64)
abbrev rB:Bool×FT:=(false,.bool)
abbrev rI:Bool×FT:=(false,.int .i64)
abbrev rS:Bool×FT:=(false,.str)
abbrev bs:Nat->aw PD->aw PD|0,l=>l|n+1,l=> .bot::bs n l
abbrev zs:Nat->aw (ay FT)->aw (ay FT)|0,l=>l|n+1,l=>none::zs n l
def mk (l:aw (Nat×fE))(n:Nat):fE:=(l.lookup n).getD []
def mg (l:aw (Nat×Nat))(n:Nat):ay Nat:=l.lookup n
def ke (n:Nat)(K:oZ R)(d:SD)(x:SD.D d):ay R:=K (.exit n) (SD.enc d x)
def kn (K:oZ R)(d:SD)(x:SD.D d):ay R:=K .normal (SD.enc d x)
def kr (K:oZ R)(d:SD)(x:SD.D d):ay R:=K .ret (SD.enc d x)
def tW (d:SD)(t:{R:Type}->SD.D d->(Ex->AS->ay R)->(σ->ay R)->σ->ay R)(i:SD.D d->σ):KL:=⟨d,λX K=>bc (t X K) fuel (i X)⟩
theorem lk {E:Env}{c:Code}(d:SD)(t:{R:Type}->SD.D d->(Ex->AS->ay R)->(σ->ay R)->σ->ay R)(i:SD.D d->σ)(w:SD.D d->σ->SD.D d)(h1:Λ (eT c)=tW d t i:=by kernel_rfl)(h:∀(R:Type)(X:SD.D d)(K:oZ R)(m:Nat)(x:σ),CR (an.mask (eT c)) (den E Γ an Λ c) (m+1) (SD.enc d (w X x)) K=t X K (λy=>CR (an.mask (eT c)) (den E Γ an Λ c) m (SD.enc d (w X y)) K) x:=by intro R X K m x;kernel_rfl)(hw:∀X,w X (i X)=X:=by intro X;kernel_rfl):tE E Γ an Λ c:=lok (tW d t i) h1 fuel λR X K=>(SA (λx=>SD.enc d (w X x)) (t X K) (h R X K) fuel (i X)).symm.trans (congrArg (λy=>CR (an.mask (eT c)) (den E Γ an Λ c) fuel (SD.enc d y) K) (hw X))
def UZ (d:SD)(t:{R:Type}->SD.D d->(Ex->AS->ay R)->ay R):KL:=⟨d,λX K=>t X K⟩
theorem ck {E:Env}{c:Code}(d:SD)(t:{R:Type}->SD.D d->(Ex->AS->ay R)->ay R)(h1:Λ (Fs c)=UZ d t:=by kernel_rfl)(h:∀(R:Type)(X:SD.D d)(K:oZ R),t X K=den E Γ an Λ c (SD.enc d X) (λe bU=>K e (bU.mask (an.mask (Fs c+1)))):=by intro R X K;kernel_rfl):QI E Γ an Λ c:=cok (UZ d t) h1 h
def u {A B:Type}(y:A)(x:A×B):A×B:=(y,x.2)
def w {A B:Type}(y:A)(f:B->B)(x:A×B):A×B:=(y,f x.2)
def z1 {B:Type}(f:B->B)(x:A0×B):A0×B:=(x.1,f x.2)
def z2 {B:Type}(f:B->B)(x:A0×A1×B):A0×A1×B:=(x.1,x.2.1,f x.2.2)
def z3 {B:Type}(f:B->B)(x:A0×A1×A2×B):A0×A1×A2×B:=(x.1,x.2.1,x.2.2.1,f x.2.2.2)
def z4 {B:Type}(f:B->B)(x:A0×A1×A2×A3×B):A0×A1×A2×A3×B:=(x.1,x.2.1,x.2.2.1,x.2.2.2.1,f x.2.2.2.2)
def z5 {B:Type}(f:B->B)(x:A0×A1×A2×A3×A4×B):A0×A1×A2×A3×A4×B:=(x.1,x.2.1,x.2.2.1,x.2.2.2.1,x.2.2.2.2.1,f x.2.2.2.2.2)
def z6 {B:Type}(f:B->B)(x:A0×A1×A2×A3×A4×A5×B):A0×A1×A2×A3×A4×A5×B:=(x.1,x.2.1,x.2.2.1,x.2.2.2.1,x.2.2.2.2.1,x.2.2.2.2.2.1,f x.2.2.2.2.2.2)
def z7 {B:Type}(f:B->B)(x:A0×A1×A2×A3×A4×A5×A6×B):A0×A1×A2×A3×A4×A5×A6×B:=(x.1,x.2.1,x.2.2.1,x.2.2.2.1,x.2.2.2.2.1,x.2.2.2.2.2.1,x.2.2.2.2.2.2.1,f x.2.2.2.2.2.2.2)
def z8 {B:Type}(f:B->B)(x:A0×A1×A2×A3×A4×A5×A6×A7×B):A0×A1×A2×A3×A4×A5×A6×A7×B:=(x.1,x.2.1,x.2.2.1,x.2.2.2.1,x.2.2.2.2.1,x.2.2.2.2.2.1,x.2.2.2.2.2.2.1,x.2.2.2.2.2.2.2.1,f x.2.2.2.2.2.2.2.2)
def q2 {B:Type}(x:(A0×A1×A2×B)×C):A2:=x.1.2.2.1
def q3 {B:Type}(x:(A0×A1×A2×A3×B)×C):A3:=x.1.2.2.2.1
def q4 {B:Type}(x:(A0×A1×A2×A3×A4×B)×C):A4:=x.1.2.2.2.2.1
def q5 {B:Type}(x:(A0×A1×A2×A3×A4×A5×B)×C):A5:=x.1.2.2.2.2.2.1
def q6 {B:Type}(x:(A0×A1×A2×A3×A4×A5×A6×B)×C):A6:=x.1.2.2.2.2.2.2.1
def q7 {B:Type}(x:(A0×A1×A2×A3×A4×A5×A6×A7×B)×C):A7:=x.1.2.2.2.2.2.2.2.1
def q8 {A8 B:Type}(x:(A0×A1×A2×A3×A4×A5×A6×A7×A8×B)×C):A8:=x.1.2.2.2.2.2.2.2.2.1
def q9 {A8 A9 B:Type}(x:(A0×A1×A2×A3×A4×A5×A6×A7×A8×A9×B)×C):A9:=x.1.2.2.2.2.2.2.2.2.2.1
def q10 {A8 A9 A10 B:Type}(x:(A0×A1×A2×A3×A4×A5×A6×A7×A8×A9×A10×B)×C):A10:=x.1.2.2.2.2.2.2.2.2.2.2.1
def c1 {B:Type}(f:A0->R)(a:A0×B):R:=f a.1
def c2 {B:Type}(f:A0->A1->R)(a:A0×A1×B):R:=f a.1 a.2.1
def c3 {B:Type}(f:A0->A1->A2->R)(a:A0×A1×A2×B):R:=f a.1 a.2.1 a.2.2.1
def c4 {B:Type}(f:A0->A1->A2->A3->R)(a:A0×A1×A2×A3×B):R:=f a.1 a.2.1 a.2.2.1 a.2.2.2.1
def c5 {B:Type}(f:A0->A1->A2->A3->A4->R)(a:A0×A1×A2×A3×A4×B):R:=f a.1 a.2.1 a.2.2.1 a.2.2.2.1 a.2.2.2.2.1
def c6 {B:Type}(f:A0->A1->A2->A3->A4->A5->R)(a:A0×A1×A2×A3×A4×A5×B):R:=f a.1 a.2.1 a.2.2.1 a.2.2.2.1 a.2.2.2.2.1 a.2.2.2.2.2.1
def c7 {B:Type}(f:A0->A1->A2->A3->A4->A5->A6->R)(a:A0×A1×A2×A3×A4×A5×A6×B):R:=f a.1 a.2.1 a.2.2.1 a.2.2.2.1 a.2.2.2.2.1 a.2.2.2.2.2.1 a.2.2.2.2.2.2.1
theorem f0 {E:Env}{F:C7 s->ay (ly rs)}{fn:Func}(an:An)(hS:Sound P E Γ)(hf:P.funcs[f]?=some fn)(hn:(fn.name== "runtime.NumGoroutine")=false:=by kernel_rfl)(hl:iR (fn.body.getD .skip)=[]:=by kernel_rfl)(fS:an.cut=[]:=by rfl)(hF:∀a,FF E Γ an jZ.nil fn rs (mm s a)=F a:=by intro a;kernel_rfl):iJ P f (RM s rs F):=iJ.of (aeT hS hf hn (Bz.of (Fn.hF hl nF) fS)) hF
abbrev Y8:FT:=ka (ka EY)
abbrev Y1:FT:=cL EY Y8
abbrev Y14:FT:=ka (ka (ka (.sl .arg (.int .i64))))
abbrev Y25:FT:=cL Y1 (cL Y14 (cL (.sl .arg kU) EY))
abbrev Y24:FT:=ka (cL .bool (.sl .arg (.int .i64)))
abbrev Y16:FT:=cL (.sl .arg nw) (cL (.sl .arg jQ) (cL .str (.sl .arg (.int .i64))))
abbrev Y0:FT:=cL (.sl .arg .str) (cL (.sl .arg bT) (cL Y25 (cL (.sl .arg eY) (cL (.sl .arg jP) (cL (.sl .arg gW) (cL (.sl .arg .bool) (cL Y24 (cL Y16 (cL (.sl .arg fL) (cL .bool (cL (.sl .arg .str) (cL (.sl .arg (.int .i64)) (cL (.sl .arg (.int .i64)) (cL EY Y1))))))))))))))
abbrev Y22:FT:=ka (ka (ka .str))
abbrev Y26:FT:=ka (ka (cL EY Y22))
abbrev Y2:FT:=ka (ka (ka (ka (ka (ka (ka (ka (cL EY Y26))))))))
abbrev Y10:FT:=ka (ka (ka (.sl (.own none) (.int .i64))))
abbrev Y23:FT:=cL Y1 (cL Y10 (cL (.sl (.own none) kU) EY))
abbrev Y17:FT:=ka (cL .bool (.sl (.own none) (.int .i64)))
abbrev Y27:FT:=cL (.sl (.own none) nw) (cL (.sl (.own none) jQ) (cL .str (.sl (.own none) (.int .i64))))
abbrev Y3:FT:=cL (.sl (.own none) .str) (cL (.sl (.own none) bT) (cL Y23 (cL (.sl (.own none) eY) (cL (.sl (.own none) jP) (cL (.sl (.own none) gW) (cL (.sl (.own none) .bool) (cL Y17 (cL Y27 (cL (.sl (.own none) fL) (cL .bool (cL (.sl (.own none) .str) (cL (.sl (.own none) (.int .i64)) (cL (.sl (.own none) (.int .i64)) (cL EY Y1))))))))))))))
abbrev Y4:FT:=cL (cP 24577 .str) (cL (cP 24580 bT) (cL (cL Y1 (cL (ka (ka (ka (cP 24604 (.int .i64))))) (cL (cP 24607 kU) EY))) (cL (cP 24613 eY) (cL (cP 24616 jP) (cL (cP 24619 gW) (cL (cP 24622 .bool) (cL (ka (cL .bool (cP 24631 (.int .i64)))) (cL (cL (cP 24634 nw) (cL (cP 24637 jQ) (cL .str (cP 24643 (.int .i64))))) (cL (cP 24646 fL) (cL .bool (cL (cP 24652 .str) (cL (cP 24655 (.int .i64)) (cL (cP 24658 (.int .i64)) (cL EY Y1))))))))))))))
abbrev Y5:FT:=cL (cP 36865 .str) (cL (cP 36868 bT) (cL (cL Y1 (cL (ka (ka (ka (cP 36892 (.int .i64))))) (cL (cP 36895 kU) EY))) (cL (cP 36901 eY) (cL (cP 36904 jP) (cL (cP 36907 gW) (cL (cP 36910 .bool) (cL (ka (cL .bool (cP 36919 (.int .i64)))) (cL (cL (cP 36922 nw) (cL (cP 36925 jQ) (cL .str (cP 36931 (.int .i64))))) (cL (cP 36934 fL) (cL .bool (cL (cP 36940 .str) (cL (cP 36943 (.int .i64)) (cL (cP 36946 (.int .i64)) (cL EY Y1))))))))))))))
abbrev Y6:FT:=cL (.sl .As (.int .u8)) (ka EY)
abbrev Y7:FT:=cL (.sl (.own none) dk) (cL (.sl (.own none) bW) (cL (.sl (.own none) eQ) (cL (.sl (.own none) .str) (cL Y1 (cL (.sl (.own none) (.int .i64)) (.sl (.own none) .str))))))
abbrev Y9:FT:=cL (cP 24577 dk) (cL (cP 24580 bW) (cL (cP 24583 eQ) (cL (cP 24586 .str) (cL Y1 (cL (cP 24601 (.int .i64)) (cP 24604 .str))))))
abbrev Y11:FT:=ka (ka (cL (ka (cL Y2 (ka (ka (cL .str EY))))) (cL Y8 (cL .str EY))))
abbrev Y12:FT:=cL (cP 196609 .str) (cL (cP 196612 bT) (cL (cL Y1 (cL (ka (ka (ka (cP 196636 (.int .i64))))) (cL (cP 196639 kU) EY))) (cL (cP 196645 eY) (cL (cP 196648 jP) (cL (cP 196651 gW) (cL (cP 196654 .bool) (cL (ka (cL .bool (cP 196663 (.int .i64)))) (cL (cL (cP 196666 nw) (cL (cP 196669 jQ) (cL .str (cP 196675 (.int .i64))))) (cL (cP 196678 fL) (cL .bool (cL (cP 196684 .str) (cL (cP 196687 (.int .i64)) (cL (cP 196690 (.int .i64)) (cL EY Y1))))))))))))))
abbrev Y13:FT:=cL (cP 147457 .str) (cL (cP 147460 bT) (cL (cL Y1 (cL (ka (ka (ka (cP 147484 (.int .i64))))) (cL (cP 147487 kU) EY))) (cL (cP 147493 eY) (cL (cP 147496 jP) (cL (cP 147499 gW) (cL (cP 147502 .bool) (cL (ka (cL .bool (cP 147511 (.int .i64)))) (cL (cL (cP 147514 nw) (cL (cP 147517 jQ) (cL .str (cP 147523 (.int .i64))))) (cL (cP 147526 fL) (cL .bool (cL (cP 147532 .str) (cL (cP 147535 (.int .i64)) (cL (cP 147538 (.int .i64)) (cL EY Y1))))))))))))))
abbrev Y15:FT:=ka (ka (ka (ka (cL .bool .bool))))
abbrev Y18:FT:=cL Y1 (cL Y8 (cL Y8 (cL (cL Y2 (ka EY)) (cL .bool EY))))
abbrev Y19:FT:=cL (cP 73729 dk) (cL (cP 73732 bW) (cL (cP 73735 eQ) (cL (cP 73738 .str) (cL Y1 (cL (cP 73753 (.int .i64)) (cP 73756 .str))))))
abbrev Y20:FT:=cL (cP 49153 dk) (cL (cP 49156 bW) (cL (cP 49159 eQ) (cL (cP 49162 .str) (cL Y1 (cL (cP 49177 (.int .i64)) (cP 49180 .str))))))
abbrev Y21:FT:=cL (.sl .loc dk) (cL (.sl .loc bW) (cL (.sl .loc eQ) (cL (.sl .loc .str) (cL Y1 (cL (.sl .loc (.int .i64)) (.sl .loc .str))))))
abbrev Y28:FT:=ka (ka (ka (cP 184330 (.int .i64))))
abbrev Y29:FT:=ka (ka (ka (cP 147466 (.int .i64))))
abbrev Y30:FT:=ka (ka (ka (cP 98314 (.int .i64))))
abbrev Y31:FT:=ka (ka (ka (cP 73738 (.int .i64))))
def E:Env:={ty:=[(3,⟨false,(.int .i64),[]⟩),(4,⟨false,.bool,[]⟩),(5,⟨false,(.int .u8),[]⟩),(9,⟨false,.str,[]⟩),(22,⟨false,(.sl (.int .u8)),[(5,0)]⟩),(24,⟨false,(.sl dk),[(70,0)]⟩),(25,⟨false,(.sl bW),[(98,0)]⟩),(26,⟨false,(.sl eQ),[(91,0)]⟩),(27,⟨false,(.sl .str),[(9,0)]⟩),(29,⟨true,(.sl .str),[(0,1)]⟩),(31,⟨true,ju,[(0,1),(1,1),(2,1),(3,1)]⟩),(32,⟨false,(.sl (.int .i64)),[(3,0)]⟩),(34,⟨true,xG,[(0,1),(1,1),(2,1),(3,1),(4,4),(8,1),(9,1)]⟩),(35,⟨false,(.sl hZ),[(89,0)]⟩),(43,⟨true,(.sl .str),[(0,1)]⟩),(44,⟨false,(.sl bT),[(150,0)]⟩),(46,⟨true,ju,[(0,1),(1,1),(2,1),(3,1)]⟩),(48,⟨true,jP,[(0,1),(1,1),(2,1),(3,1)]⟩),(49,⟨false,(.sl kU),[(236,0)]⟩),(51,⟨true,mD,[(0,4),(4,4),(8,1),(9,1)]⟩),(52,⟨false,(.sl eY),[(80,0)]⟩),(53,⟨false,(.sl jP),[(48,0)]⟩),(54,⟨false,(.sl gW),[(190,0)]⟩),(55,⟨false,(.sl .bool),[(4,0)]⟩),(57,⟨true,pk,[(0,1),(1,1),(2,1)]⟩),(58,⟨false,(.sl nw),[(171,0)]⟩),(59,⟨false,(.sl jQ),[(255,0)]⟩),(61,⟨true,(.sl jQ),[(0,1)]⟩),(63,⟨true,GH,[(0,1),(1,1)]⟩),(65,⟨true,nY,[(0,1),(1,1),(2,2)]⟩),(66,⟨false,(.sl fL),[(163,0)]⟩),(68,⟨true,tY,[(0,1),(1,1),(2,1),(3,1),(4,1)]⟩),(70,⟨true,dk,[(0,1),(1,1),(2,10),(12,1),(13,1),(14,1),(15,1),(16,3),(19,4),(23,1),(24,1),(25,1),(26,1),(27,1),(28,5)]⟩),(72,⟨true,iQ,[(0,1),(1,1),(2,1)]⟩),(74,⟨true,Dy,[(0,1),(1,1),(2,1),(3,1),(4,1),(5,1),(6,1),(7,1)]⟩),(76,⟨true,dm,[(0,1),(1,1),(2,1),(3,1),(4,1),(5,1),(6,1),(7,1),(8,8)]⟩),(78,⟨true,Tw,[(0,16),(16,1),(17,1)]⟩),(80,⟨true,eY,[(0,4),(4,3),(7,3),(10,18),(28,1),(29,1)]⟩),(85,⟨true,akU,[(0,1),(1,16),(17,1),(18,1),(19,1),(20,1)]⟩),(87,⟨true,iQ,[(0,1),(1,1),(2,1)]⟩),(89,⟨true,hZ,[(0,1),(1,1),(2,21),(23,3),(26,1),(27,1)]⟩),(91,⟨true,eQ,[(0,3),(3,1),(4,1),(5,1)]⟩),(96,⟨true,iQ,[(0,1),(1,1),(2,1)]⟩),(98,⟨true,bW,[(0,1),(1,1),(2,3),(5,1),(6,1),(7,1)]⟩),(123,⟨true,tY,[(0,1),(1,1),(2,1),(3,1),(4,1)]⟩),(126,⟨false,(.sl lD),[(202,0)]⟩),(141,⟨false,(.sl rG),[(234,0)]⟩),(150,⟨true,bT,[(0,1),(1,1),(2,1),(3,1)]⟩),(152,⟨false,(.sl dm),[(76,0)]⟩),(161,⟨true,tY,[(0,1),(1,1),(2,1),(3,1),(4,1)]⟩),(163,⟨true,fL,[(0,5),(5,1),(6,1),(7,1)]⟩),(166,⟨true,(.pair (.sl (.int .u8)) (.pair (.int .i64) (.int .i64))),[(0,1),(1,1),(2,1)]⟩),(171,⟨true,nw,[(0,1),(1,1),(2,1),(3,1),(4,1),(5,1),(6,1),(7,1),(8,1)]⟩),(190,⟨true,gW,[(0,1),(1,1),(2,1),(3,1),(4,1),(5,1)]⟩),(202,⟨true,lD,[(0,1),(1,1),(2,1),(3,1)]⟩),(219,⟨true,ahb,[(0,1),(1,1),(2,1),(3,1),(4,1)]⟩),(223,⟨true,TIp,[(0,1),(1,1),(2,1),(3,1),(4,1),(5,1),(6,1)]⟩),(234,⟨true,rG,[(0,1),(1,1),(2,1),(3,1)]⟩),(236,⟨true,kU,[(0,1),(1,1),(2,1)]⟩),(255,⟨true,jQ,[(0,1),(1,5),(6,1)]⟩),(285,⟨false,(.sl jn),[(289,0)]⟩),(289,⟨true,jn,[(0,1),(1,1)]⟩),(312,⟨true,pe,[(0,1),(1,1),(2,1),(3,1),(4,1),(5,1)]⟩),(368,⟨false,(.sl jn),[(398,0)]⟩),(371,⟨false,(.sl pe),[(312,0)]⟩),(385,⟨false,(.int .u32),[]⟩),(398,⟨true,jn,[(0,1),(1,1)]⟩)],eqs:=[(46,[.int,.int,.int,.int]),(68,[.int,.int,.int,.int,.int]),(76,[.int,.int,.int,.int,.int,.int,.int,.int,.int,.int,.int,.int,.int,.int,.int,.str]),(78,[.int,.int,.int,.int,.int,.int,.int,.int,.int,.int,.int,.int,.int,.int,.int,.str,.int,.int]),(80,[.int,.int,.int,.int,.int,.int,.int,.int,.int,.int,.int,.int,.int,.int,.int,.int,.int,.int,.int,.int,.int,.int,.int,.int,.int,.str,.int,.int,.bool,.int]),(161,[.int,.int,.int,.int,.int]),(163,[.int,.int,.int,.int,.int,.int,.str,.bool]),(171,[.int,.int,.int,.int,.int,.int,.int,.int,.int]),(190,[.int,.int,.int,.int,.bool,.bool]),(255,[.int,.int,.int,.int,.int,.int,.int]),(312,[.int,.int,.int,.int,.int,.int])],fts:=[]}
theorem base:Sound Tryz.prog E BA.nil:=Sound.nil (X2 (by kernel_rfl)) (X5 (by kernel_rfl)) (X4 (by kernel_rfl)) (by kernel_rfl)
structure SG where (g:BA) (s:Sound Tryz.prog E g)
def SG.add (S:SG){F:kH}(h:KI f F):SG:=⟨S.g.add f F,S.s.add h⟩
def G0:SG:=⟨BA.nil,base⟩
def SG.q0 (S:SG){fn:Func}(an:An)(hf:Tryz.prog.funcs[f]?=some fn)(s:aw PS)(rs:aw (Bool×FT))(F:C7 s->ay (ly rs))(hn:(fn.name== "runtime.NumGoroutine")=false:=by kernel_rfl)(hl:iR (fn.body.getD .skip)=[]:=by kernel_rfl)(fS:an.cut=[]:=by rfl)(hF:∀a,FF E S.g an jZ.nil fn rs (mm s a)=F a:=by intro a;kernel_rfl):SG:=S.add (iJ.of (aeT S.s hf hn (Bz.of (Fn.hF hl nF) fS)) hF)
def SG.qk (S:SG){fn:Func}(an:An)(hf:Tryz.prog.funcs[f]?=some fn)(s:aw PS)(rs:aw (Bool×FT))(F:C7 s->ay (ly rs)){l:aw Code}(h:∀c∈l,tE E S.g an Λ c)(hn:(fn.name== "runtime.NumGoroutine")=false:=by kernel_rfl)(hl:iR (fn.body.getD .skip)=l:=by kernel_rfl)(fS:an.cut=[]:=by kernel_rfl)(hF:∀a,FF E S.g an Λ fn rs (mm s a)=F a:=by intro a;kernel_rfl):SG:=S.add (iJ.of (aeT S.s hf hn (Bz.of (Fn.hF hl h) fS)) hF)
def SG.q1 (S:SG){fn:Func}(an:An)(hf:Tryz.prog.funcs[f]?=some fn)(s:aw PS)(rs:aw (Bool×FT))(F:C7 s->ay (ly rs))(d:SD)(t:{R:Type}->SD.D d->(Ex->AS->ay R)->(σ->ay R)->σ->ay R)(i:SD.D d->σ)(w:SD.D d->σ->SD.D d)(h1:(jZ.nil.add (eT (bZ fn 0)) (tW d t i)) (eT (bZ fn 0))=tW d t i:=by kernel_rfl)(h:∀(R:Type)(X:SD.D d)(K:oZ R)(m:Nat)(x:σ),CR (an.mask (eT (bZ fn 0))) (den E S.g an (jZ.nil.add (eT (bZ fn 0)) (tW d t i)) (bZ fn 0)) (m+1) (SD.enc d (w X x)) K=t X K (λy=>CR (an.mask (eT (bZ fn 0))) (den E S.g an (jZ.nil.add (eT (bZ fn 0)) (tW d t i)) (bZ fn 0)) m (SD.enc d (w X y)) K) x:=by intro R X K m x;kernel_rfl)(hw:∀X,w X (i X)=X:=by intro X;kernel_rfl)(hn:(fn.name== "runtime.NumGoroutine")=false:=by kernel_rfl)(hl:iR (fn.body.getD .skip)=[bZ fn 0]:=by kernel_rfl)(fS:an.cut=[]:=by kernel_rfl)(hF:∀a,FF E S.g an (jZ.nil.add (eT (bZ fn 0)) (tW d t i)) fn rs (mm s a)=F a:=by intro a;kernel_rfl):SG:=S.add (iJ.of (aeT S.s hf hn (Bz.of (Fn.hF hl (cF (lk d t i w h1 h hw) nF)) fS)) hF)
def G7:=G0.q0 {} func7 [pd (.sl (.int .u8))] [rB] (c1 JZ)
def e25:kH:=aaU (.pair (.sl .arg (.int .u8)) (.pair (.int .i64) (.int .i64))) [pd (.sl (.int .u8))] λa=>C1 a.1
def n25:An:={mask:=mk [(3,[0,3,4])],merge:=mg [(3,15)]}
abbrev ac7:SD:=⟨cz (je (.int .u8))::B::B::DI::DI::bs 27 [],zs 32 [],.none⟩
def amZ (X:SD.D ac7)(K:oZ R):=Cj (λy0 y1=>ke 0 K ac7 ((z1 (w y0 (u y1)) X.1),X.2)) X.1.1
def L25:jZ:=jZ.nil.add 3 (tW ac7 amZ (λX=>(X.1.2.1,q2 X)))
theorem aqG:tE E G7.g n25 L25 (bZ f25 0):=lk ac7 amZ (λX=>(X.1.2.1,q2 X)) λX x=>((z1 (w x.1 (u x.2)) X.1),X.2)
theorem o25:KI 25 e25:=iJ.aq5 (ap2 (Γ:=G7.g) (an:=n25) (Λ:=L25) (G7.s) func25 (by kernel_rfl) (ao (cF aqG nF))) (λa=>by kernel_rfl)
def G25:=G7.add o25
def auZ:kH:=ko (.pair (.sl .As (.int .u8)) (.pair (.int .i64) (.int .i64))) [] [rI] λx a=>kP x
theorem avO:KI 151 auZ:=iJ.si (rM (an:={}) (Λ:=jZ.nil) (G25.s) func151 (by kernel_rfl) (ao nF)) (λx a=>by kernel_rfl)
def apv:=G25.add avO
def e60:kH:=ko (.pair (.sl .As (.int .u8)) (.pair (.int .i64) (.int .i64))) [pI] [rI] λx a=>cU x a.1
theorem o60:KI 60 e60:=iJ.si (rM (an:={}) (Λ:=jZ.nil) (apv.s) func60 (by kernel_rfl) (ao nF)) (λx a=>by kernel_rfl)
def G60:=apv.add o60
def G72:=G60.q0 {} func72 [] [(true,(.sl (.own none) jQ))] (λa=>uD)
def au0:kH:=ko (.pair (.sl .As (.int .u8)) (.pair (.int .i64) (.int .i64))) [pI] [rS] λx a=>kQ x a.1
def aq1:An:={mask:=mk [(5,[0,1,5,6])],mv:=[15]}
abbrev TP:SD:=⟨.ptr 0 0::DI::B::B::B::cz (cP 61440 (.int .u8))::DI::bs 16 [],(some Y6)::zs 22 [],.ptr⟩
def ake (X:SD.D TP)(K:oZ R):=qt (λy0 y1 y2=>ke 0 K TP ((z1 (w y0 (u y1)) X.1),(u y2 X.2.1),X.2.2)) X.1.1
def apJ:jZ:=jZ.nil.add 5 (tW TP ake (λX=>(X.1.2.1,q2 X,X.2.1.1)))
theorem aoq:tE E G72.g aq1 apJ (bZ f178 0):=lk TP ake (λX=>(X.1.2.1,q2 X,X.2.1.1)) λX x=>((z1 (w x.1 (u x.2.1)) X.1),(u x.2.2 X.2.1),X.2.2)
theorem avP:KI 178 au0:=iJ.si (rM (Γ:=G72.g) (an:=aq1) (Λ:=apJ) (G72.s) func178 (by kernel_rfl) (ao (cF aoq nF))) (λx a=>by kernel_rfl)
def apw:=G72.add avP
def e73:kH:=ko (.pair (.sl .As (.int .u8)) (.pair (.int .i64) (.int .i64))) [] [rS] λx a=>C2 x
theorem o73:KI 73 e73:=iJ.si (rM (an:={}) (Λ:=jZ.nil) (apw.s) func73 (by kernel_rfl) (ao nF)) (λx a=>by kernel_rfl)
def G73:=apw.add o73
def e74:kH:=ko (.pair (.sl .As (.int .u8)) (.pair (.int .i64) (.int .i64))) [pI] [rB] λx a=>gA x a.1
theorem o74:KI 74 e74:=iJ.si (rM (an:={}) (Λ:=jZ.nil) (G73.s) func74 (by kernel_rfl) (ao nF)) (λx a=>by kernel_rfl)
def G74:=G73.add o74
def e75:kH:=ko (.pair (.sl .As (.int .u8)) (.pair (.int .i64) (.int .i64))) [pd (.sl (.int .i64))] [rI] λx a=>cZ x a.1
theorem o75:KI 75 e75:=iJ.si (rM (an:={}) (Λ:=jZ.nil) (G74.s) func75 (by kernel_rfl) (ao nF)) (λx a=>by kernel_rfl)
def G75:=G74.add o75
def as5:=G75.q0 {sb:=mg [(2,2)]} func253 [pf pk] [(true,Y17)] (c1 xt)
def arW:=as5.q0 {mv:=[7]} func155 [pf eQ] [(true,(.pair Y17 Y8))] (c1 Bg)
def arR:=arW.q0 {merge:=mg [(1,6)]} func144 [pI,pI,pI] [rB] (c3 aU)
abbrev aas:SD:=⟨B::.ptr 1 0::DB::DI::bs 41 [],Z::(some Y24)::zs 43 [],.none⟩
def arQ:=arR.q1 {mask:=mk [(2,[1,2,3])],merge:=mg [(4,35),(6,2)]} func143 [pf pk] [rB] (c1 nt) aas (λX K=>tf (λy0=>ke 0 K aas ((z1 (u y0) X.1),X.2)) (λy0 y1=>kr K aas ((w y0 (u y1) X.1),X.2)) X.1.1 X.2.1.1) (λX=>X.1.2.1) (λX x=>((z1 (u x) X.1),X.2))
def as7:=arQ.q0 {merge:=mg [(1,2)]} func255 [pf eQ] [rB] (c1 xl)
abbrev aaI:SD:=⟨cz (je (.int .i64))::DI::B::B::DB::DI::bs 12 [],zs 18 [],.none⟩
def anC:=as7.q1 {mask:=mk [(2,[0,1,4,5])]} func342 [pd (.sl (.int .i64)),pI] [rB] (c2 zS) aaI (λX K=>xv (λy0=>ke 0 K aaI ((z3 (u y0) X.1),X.2)) (λy0 y1=>kr K aaI ((z2 (w y0 (u y1)) X.1),X.2)) X.1.1 X.1.2.1 (q2 X)) q3 (λX x=>((z3 (u x) X.1),X.2))
def aoZ:An:={mask:=mk [(3,[1,5,6]),(7,[1,5,6,7])],merge:=mg [(7,37)],mv:=[55]}
abbrev TW:SD:=⟨B::cz (je (.int .i64))::B::B::B::cz (cP 61440 (.int .i64))::DI::DI::bs 48 [],zs 56 [],.none⟩
def akm (X:SD.D TW)(K:oZ R):=tA (λy0=>ke 2 K TW ((z3 (u y0) X.1),X.2)) X.1.1 X.1.2.1 (q2 X)
abbrev TV:SD:=⟨B::cz (je (.int .i64))::B::B::B::cz (cP 61440 (.int .i64))::DI::bs 49 [],zs 56 [],.none⟩
def akl (X:SD.D TV)(K:oZ R):=oV (λy0 y1=>ke 0 K TV ((z1 (w y0 (u y1)) X.1),X.2)) X.1.1
def apO:jZ:=(jZ.nil.add 7 (tW TW akm q3)).add 3 (tW TV akl (λX=>(X.1.2.1,q2 X)))
theorem aoy:tE E anC.g aoZ apO (bZ f256 1):=lk TW akm q3 λX x=>((z3 (u x) X.1),X.2)
theorem aox:tE E anC.g aoZ apO (bZ f256 0):=lk TV akl (λX=>(X.1.2.1,q2 X)) λX x=>((z1 (w x.1 (u x.2)) X.1),X.2)
def anw:=anC.qk aoZ func256 [pd (.sl (.int .i64)),pd (.sl (.int .i64))] [(false,(.sl (.own none) (.int .i64)))] (c2 uH) (cF aox (cF aoy nF))
def ao0:An:={mask:=mk [(4,[0,2,3]),(9,[0,2,3,4])]}
abbrev Om:SD:=⟨cz (je lD)::B::DB::DI::DI::bs 53 [],zs 58 [],.none⟩
def ako (X:SD.D Om)(K:oZ R):=vj (λy0=>ke 2 K Om ((z3 (u y0) X.1),X.2)) (λy0 y1=>kr K Om ((z1 (w y0 (z1 (u y1))) X.1),X.2)) X.1.1 X.1.2.1 (q2 X)
abbrev Ol:SD:=⟨cz (je lD)::B::DB::DI::bs 54 [],zs 58 [],.none⟩
def akn (X:SD.D Ol)(K:oZ R):=vi (λy0=>ke 0 K Ol ((z2 (u y0) X.1),X.2)) (λy0 y1=>kr K Ol ((z1 (w y0 (u y1)) X.1),X.2)) X.1.1 X.1.2.1
def apP:jZ:=(jZ.nil.add 9 (tW Om ako q3)).add 4 (tW Ol akn q2)
theorem aoA:tE E anw.g ao0 apP (bZ f257 1):=lk Om ako q3 λX x=>((z3 (u x) X.1),X.2)
theorem aoz:tE E anw.g ao0 apP (bZ f257 0):=lk Ol akn q2 λX x=>((z2 (u x) X.1),X.2)
def as8:=anw.qk ao0 func257 [pd (.sl lD)] [rB] (c1 xp) (cF aoz (cF aoA nF))
abbrev aav:SD:=⟨cz (je eQ)::B::cz (cP 24576 lD)::DB::cz (cP 49152 lD)::DI::bs 58 [],zs 64 [],.none⟩
def arX:=as8.q1 {mask:=mk [(5,[0,2,3,4,5])],mv:=[41,63]} func156 [pd (.sl eQ)] [(false,(.sl (.own none) lD)),rB] (c1 AR) aav (λX K=>qp (λy0 y1=>ke 0 K aav ((z3 (w y0 (u y1)) X.1),X.2)) (λy0 y1 y2 y3=>kr K aav ((z1 (w y0 (w y1 (w y2 (u y3)))) X.1),X.2)) X.1.1 X.1.2.1 (q2 X)) (λX=>(q3 X,q4 X)) (λX x=>((z3 (w x.1 (u x.2)) X.1),X.2))
def as9:=arX.q0 {merge:=mg [(1,2)]} func258 [pf (.sl .str)] [rB] (c1 AP)
def anr:=as9.q0 {} func182 [pI] [rS] (c1 fP)
def aoW:An:={mask:=mk [(3,[0,3,4]),(7,[0,3,4,5])]}
abbrev TU:SD:=⟨cz .str::B::B::DI::DI::DI::bs 26 [],zs 32 [],.none⟩
def akj (X:SD.D TU)(K:oZ R):=qK (λy0 y1=>ke 2 K TU ((z1 (w y0 (z1 (u y1))) X.1),X.2)) X.1.1 (q2 X)
abbrev TT:SD:=⟨cz .str::B::B::DI::DI::bs 27 [],zs 32 [],.none⟩
def aki (X:SD.D TT)(K:oZ R):=uB (λy0 y1=>ke 0 K TT ((z1 (w y0 (u y1)) X.1),X.2)) X.1.1
def apL:jZ:=(jZ.nil.add 7 (tW TU akj (λX=>(X.1.2.1,q3 X)))).add 3 (tW TT aki (λX=>(X.1.2.1,q2 X)))
theorem aov:tE E anr.g aoW apL (bZ f183 1):=lk TU akj (λX=>(X.1.2.1,q3 X)) λX x=>((z1 (w x.1 (z1 (u x.2))) X.1),X.2)
theorem aou:tE E anr.g aoW apL (bZ f183 0):=lk TT aki (λX=>(X.1.2.1,q2 X)) λX x=>((z1 (w x.1 (u x.2)) X.1),X.2)
def ar4:=anr.qk aoW func183 [pd .str] [rI] (c1 Ch) (cF aou (cF aov nF))
def G79:=ar4.q0 {merge:=mg [(1,15)]} func79 [pI,pd .str] [rS,rB] (c2 oL)
def atx:=G79.q0 {merge:=mg [(1,6)]} func304 [pd .str,pI,pI] [rB] (c3 oQ)
def asx:=atx.q0 {} func215 [pd .str,pI] [rI] (c2 Ci)
def asy:=asx.q0 {} func216 [pd .str,pI] [rI] (c2 yg)
def ata:=asy.q0 {merge:=mg [(2,17),(5,37)]} func259 [pd .str] [rI] (c1 ng)
def arY:=ata.q0 {merge:=mg [(5,23)]} func158 [pf (.sl .str)] [rI] (c1 yO)
def arZ:=arY.q0 {merge:=mg [(1,2)]} func159 [pf ju] [rB] (c1 AO)
def ar2:=arZ.q0 {merge:=mg [(1,2)]} func179 [pf iQ] [rB] (c1 yP)
def at4:=ar2.q0 {merge:=mg [(1,33),(3,54),(5,2)]} func338 [pf nw] [rB] (c1 ni)
abbrev aaB:SD:=⟨cz (je nw)::B::DB::DI::bs 15 [],zs 19 [],.none⟩
def asZ:=at4.q1 {mask:=mk [(2,[0,2,3])]} func245 [pd (.sl nw)] [rB] (c1 AW) aaB (λX K=>vk (λy0=>ke 0 K aaB ((z2 (u y0) X.1),X.2)) (λy0 y1=>kr K aaB ((z1 (w y0 (u y1)) X.1),X.2)) X.1.1 X.1.2.1) q2 (λX x=>((z2 (u x) X.1),X.2))
abbrev ahV:SD:=⟨B::B::B::DI::cz (cP 49152 (.int .i64))::DI::bs 26 [],zs 32 [],.none⟩
def auD:=asZ.q1 {mask:=mk [(4,[3,4,5])]} func396 [pf tY] [rI] (c1 yT) ahV (λX K=>oK (λy0 y1=>ke 0 K ahV ((w y0 (z1 (u y1)) X.1),X.2)) X.1.2.1) (λX=>(X.1.1,q2 X)) (λX x=>((w x.1 (z1 (u x.2)) X.1),X.2))
abbrev aaH:SD:=⟨B::B::.ptr 2 0::.ptr 3 0::DI::DI::bs 35 [],Z::Z::(pW (je jQ))::(pW (cL EY Y1))::zs 37 [],.none⟩
def at5:=auD.q1 {mask:=mk [(2,[2,3,4,5])],merge:=mg [(7,39)]} func339 [pf (.sl jQ),pf tY] [rI] (c2 Bd) aaH (λX K=>qw (λy0=>ke 0 K aaH ((z1 (u y0) X.1),X.2)) (λy0 y1=>kr K aaH ((w y0 (u y1) X.1),X.2)) X.1.1 X.2.1.1 X.2.1.2.1) (λX=>X.1.2.1) (λX x=>((z1 (u x) X.1),X.2))
abbrev aaC:SD:=⟨B::.ptr 1 0::DB::DI::bs 45 [],Z::(pW (je jQ))::zs 47 [],.none⟩
def as0:=at5.q1 {mask:=mk [(4,[1,2,3])],merge:=mg [(7,30),(10,42)]} func246 [pf (.sl jQ)] [rB] (c1 AX) aaC (λX K=>vm (λy0=>ke 0 K aaC ((z1 (u y0) X.1),X.2)) (λy0 y1=>kr K aaC ((w y0 (u y1) X.1),X.2)) X.1.1 X.2.1.1) (λX=>X.1.2.1) (λX x=>((z1 (u x) X.1),X.2))
def at6:=as0.q0 {merge:=mg [(1,2)]} func340 [pI] [rB] (c1 Bb)
abbrev aaD:SD:=⟨B::DI::.ptr 2 0::B::DB::DI::bs 32 [],Z::Z::(pW (cL .str (je (.int .i64))))::zs 35 [],.none⟩
def anv:=at6.q1 {mask:=mk [(4,[1,2,4,5])],merge:=mg [(1,21)]} func247 [pf GH,pI] [rB] (c2 yX) aaD (λX K=>tn (λy0=>ke 0 K aaD ((z2 (u y0) X.1),X.2)) (λy0 y1=>kr K aaD ((z1 (w y0 (u y1)) X.1),X.2)) X.1.1 X.1.2.1 X.2.1.1) q2 (λX x=>((z2 (u x) X.1),X.2))
def aoU:An:={mask:=mk [(4,[1,2,4,5]),(9,[1,2,4,6])],merge:=mg [(1,23)]}
abbrev Oi:SD:=⟨B::DI::.ptr 2 0::B::DB::DI::bs 50 [],Z::Z::(some Y16)::zs 53 [],.none⟩
def akc (X:SD.D Oi)(K:oZ R):=pR (λy0=>ke 0 K Oi ((z2 (u y0) X.1),X.2)) (λy0 y1=>kr K Oi ((z1 (w y0 (u y1)) X.1),X.2)) X.1.1 X.1.2.1 X.2.1.1
abbrev Oj:SD:=⟨B::DI::.ptr 2 0::B::DB::B::DI::bs 49 [],Z::Z::(some Y16)::zs 53 [],.none⟩
def akd (X:SD.D Oj)(K:oZ R):=pS (λy0=>ke 2 K Oj ((z2 (u y0) X.1),X.2)) (λy0 y1=>kr K Oj ((z1 (w y0 (u y1)) X.1),X.2)) X.1.1 X.1.2.1 X.2.1.1
def apI:jZ:=(jZ.nil.add 4 (tW Oi akc q2)).add 9 (tW Oj akd q2)
theorem aoo:tE E anv.g aoU apI (bZ f145 0):=lk Oi akc q2 λX x=>((z2 (u x) X.1),X.2)
theorem aop:tE E anv.g aoU apI (bZ f145 1):=lk Oj akd q2 λX x=>((z2 (u x) X.1),X.2)
def arS:=anv.qk aoU func145 [pf nY,pI] [rB] (c2 qq) (cF aoo (cF aop nF))
def at7:=arS.q0 {} func341 [pf (.sl jQ)] [(true,(.sl (.own none) jQ))] (c1 Bc)
def as6:=at7.q0 {sb:=mg [(2,2)]} func254 [pf nY] [(true,Y27)] (c1 Be)
abbrev aat:SD:=⟨B::.ptr 1 0::DB::cz (cP 36864 .bool)::DI::bs 53 [],Z::(some Y14)::zs 56 [],.none⟩
def arT:=as6.q1 {mask:=mk [(5,[1,2,3,4])],merge:=mg [(1,20),(7,50)]} func147 [pf jP] [rB] (c1 ld) aat (λX K=>xo (λy0 y1=>ke 0 K aat ((z1 (w y0 (u y1)) X.1),X.2)) (λy0 y1 y2=>kr K aat ((w y0 (w y1 (u y2)) X.1),X.2)) X.1.1 X.2.1.1) (λX=>(X.1.2.1,q2 X)) (λX x=>((z1 (w x.1 (u x.2)) X.1),X.2))
abbrev ahP:SD:=⟨B::B::DI::B::B::B::.ptr 6 0::B::.ptr 8 0::DI::bs 24 [],zs 6 ((some Y31)::Z::(some Y30)::zs 25 []),.none⟩
def aua:=arT.q1 {mask:=mk [(3,[2,6,8,9])],merge:=mg [(3,20)],mv:=[24,33]} func350 [pI,pI,pI] [(true,Y10),rB] (c3 xm) ahP (λX K=>qo (λy0 y1=>ke 0 K ahP ((z1 (u y0) X.1),(z1 (u y1) X.2.1),X.2.2)) X.1.1 X.2.1.1) (λX=>(X.1.2.1,X.2.1.2.1)) (λX x=>((z1 (u x.1) X.1),(z1 (u x.2) X.2.1),X.2.2))
def atb:=aua.q0 {mv:=[4,9]} func263 [] [(true,Y23)] (λa=>zg)
abbrev amD:SD:=⟨DI::cz (.int .u8)::B::B::B::cz (cP 61440 (.int .u8))::DI::bs 13 [],zs 20 [],.none⟩
def G80:=atb.q1 {mask:=mk [(3,[0,1,5,6])]} func80 [pI,pd (.int .u8)] [rS] (c2 gz) amD (λX K=>qs (λy0 y1=>ke 0 K amD ((z2 (w y0 (u y1)) X.1),X.2)) X.1.1 X.1.2.1) (λX=>(q2 X,q3 X)) (λX x=>((z2 (w x.1 (u x.2)) X.1),X.2))
def at2:=G80.q0 {merge:=mg [(1,2)]} func336 [pI] [rB] (c1 tt)
def at3:=at2.q0 {} func337 [pf ju] [rI] (c1 uF)
def asX:=at3.q0 {merge:=mg [(1,2)]} func243 [pf ju] [rB] (c1 ph)
def as3:=asX.q0 {} func250 [pf (.sl .str)] [(true,(.sl (.own none) .str))] (c1 nj)
def as4:=as3.q0 {sb:=mg [(2,2)]} func252 [pf jP] [(true,Y10)] (c1 tu)
def at8:=as4.q0 {merge:=mg [(1,15)]} func346 [pf jP,pI] [rI] (c2 pP)
def auF:=at8.q0 {} func402 [pf ju] [rI] (c1 uE)
abbrev aaq:SD:=⟨B::.ptr 1 0::DB::DI::bs 18 [],Z::(pW (je .str))::zs 20 [],.none⟩
def ano:=auF.q1 {mask:=mk [(2,[1,2,3])]} func140 [pf (.sl .str)] [rB] (c1 qL) aaq (λX K=>th (λy0=>ke 0 K aaq ((z1 (u y0) X.1),X.2)) (λy0 y1=>kr K aaq ((w y0 (u y1) X.1),X.2)) X.1.1 X.2.1.1) (λX=>X.1.2.1) (λX x=>((z1 (u x) X.1),X.2))
def aoT:An:={mask:=mk [(4,[0,2,3]),(10,[0,2,3,4,5])],merge:=mg [(7,34),(12,57)]}
abbrev Je:SD:=⟨cz (je bT)::B::DB::DI::.ptr 4 0::DI::bs 52 [],zs 4 ((pW (ka (ka (ka .bool))))::zs 53 []),.none⟩
def aea (X:SD.D Je)(K:oZ R):=nT (λy0=>ke 2 K Je ((z3 (u y0) X.1),X.2)) (λy0 y1=>kr K Je ((z1 (w y0 (z1 (u y1))) X.1),X.2)) X.1.1 X.1.2.1 (q2 X) X.2.1.1
abbrev Oh:SD:=⟨cz (je bT)::B::DB::DI::bs 54 [],zs 58 [],.none⟩
def akb (X:SD.D Oh)(K:oZ R):=pQ (λy0=>ke 0 K Oh ((z2 (u y0) X.1),X.2)) (λy0 y1=>kr K Oh ((z1 (w y0 (u y1)) X.1),X.2)) X.1.1 X.1.2.1
def apH:jZ:=(jZ.nil.add 10 (tW Je aea q3)).add 4 (tW Oh akb q2)
theorem alD:tE E ano.g aoT apH (bZ f141 1):=lk Je aea q3 λX x=>((z3 (u x) X.1),X.2)
theorem aon:tE E ano.g aoT apH (bZ f141 0):=lk Oh akb q2 λX x=>((z2 (u x) X.1),X.2)
def arO:=ano.qk aoT func141 [pd (.sl bT)] [rB] (c1 qm) (cF aon (cF alD nF))
abbrev aaP:SD:=⟨cz (je bT)::DI::DI::DB::bs 4 (DI::DI::bs 38 []),zs 48 [],.none⟩
def auP:=arO.q1 {mask:=mk [(2,[0,1,2,3,8,9])],merge:=mg [(4,42)]} func429 [pd (.sl bT),pI,pI,pd .bool] [rI] (c4 Bf) aaP (λX K=>vp (λy0=>ke 0 K aaP ((z5 (u y0) X.1),X.2)) (λy0 y1=>kr K aaP ((z4 (w y0 (u y1)) X.1),X.2)) X.1.1 X.1.2.1 (q2 X) (q3 X) (q4 X)) q5 (λX x=>((z5 (u x) X.1),X.2))
def auQ:=auP.q0 {merge:=mg [(2,6)]} func430 [pf (.sl .str),pI,pI] [rB] (c3 oU)
abbrev aaO:SD:=⟨cz (je bT)::B::DI::DI::DI::DB::B::.ptr 7 0::bs 4 (cz (cP 147456 (.int .i64))::cz (cP 159744 (.int .i64))::DB::cz (cP 184320 (.int .i64))::cz (cP 196608 (.int .i64))::bs 66 []),zs 7 ((pW (je .str))::zs 75 []),.none⟩
def auE:=auQ.q1 {mask:=mk [(5,[0,2,3,4,5,7,12,13,14,15,16])],merge:=mg [(3,34),(10,57)],mv:=[35,36,64,71,81,82]} func400 [pd (.sl bT),pf (.sl .str),pI,pI,pI,pd .bool] [(false,(.sl (.own none) (.int .i64))),(false,(.sl (.own none) (.int .i64))),rB] (c6 zd) aaO (λX K=>lA (λy0 y1 y2 y3=>ke 0 K aaO ((z2 (w y0 (w y1 (z4 (w y2 (u y3))))) X.1),X.2)) (λy0 y1 y2 y3 y4 y5 y6=>kr K aaO ((z2 (w y0 (w y1 (z1 (w y2 (w y3 (w y4 (w y5 (u y6)))))))) X.1),X.2)) X.1.1 X.1.2.1 (q4 X) (q5 X) (q6 X) (q7 X) X.2.1.1) (λX=>(q2 X,q3 X,q8 X,q9 X)) (λX x=>((z2 (w x.1 (w x.2.1 (z4 (w x.2.2.1 (u x.2.2.2))))) X.1),X.2))
def atC:=auE.q0 {} func309 [pd .str,pI,pd .str] [rS] (c3 jO)
abbrev ah0:SD:=⟨B::DI::cz .str::B::B::B::.ptr 6 0::B::.ptr 8 0::bs 44 [],zs 6 ((pW (cP 73729 .str))::Z::(pW (cP 98305 .str))::zs 44 []),.none⟩
def auT:=atC.q1 {mask:=mk [(4,[1,2,6,8])],mv:=[19,52]} func433 [pf (.sl .str),pI,pd .str] [(true,(.sl (.own none) .str)),rB] (c3 tr) ah0 (λX K=>nU (λy0 y1 y2=>ke 0 K ah0 ((w y0 (u y1) X.1),(z1 (u y2) X.2.1),X.2.2)) X.2.1.1) (λX=>(X.1.1,X.1.2.1,X.2.1.2.1)) (λX x=>((w x.1 (u x.2.1) X.1),(z1 (u x.2.2) X.2.1),X.2.2))
abbrev ahX:SD:=⟨bs 4 (cz .str::bs 5 (.ptr 10 0::B::cz (.sl .loc (.int .i64))::cz (.sl .loc (.int .i64))::B::.ptr 15 0::DI::bs 44 [])),zs 10 ((pW (cP 122881 .str))::zs 4 ((pW (cP 184321 .str))::zs 45 [])),.none⟩
def auI:=auT.q1 {mask:=mk [(6,[4,10,12,13,15,16])],mv:=[32,39,52,60],sb:=mg [(15,15)]} func405 [pd (.sl bT),pf (.sl .str),pI,pI,pd .str] [(true,(.sl (.own none) .str)),rB] (c5 uC) ahX (λX K=>oI (λy0 y1 y2=>ke 0 K ahX ((w y0 (z2 (u y1)) X.1),(z1 (u y2) X.2.1),X.2.2)) X.1.2.1 (q2 X) X.2.1.1) (λX=>(X.1.1,q3 X,X.2.1.2.1)) (λX x=>((w x.1 (z2 (u x.2.1)) X.1),(z1 (u x.2.2) X.2.1),X.2.2))
def auR:=auI.q0 {merge:=mg [(1,11)]} func431 [pf ju,pI] [rI] (c2 tk)
def auG:=auR.q0 {merge:=mg [(1,22)],mv:=[26,36,51],mb:=mg [(51,13)],sb:=mg [(10,10),(11,11),(13,13)]} func403 [pd (.sl bT),pf (.sl .str),pI,pf ju,pd .str] [(true,(.sl (.own none) .str)),(true,Y1),rB] (c5 AU)
def atz:=auG.q0 {} func306 [pI] [rS] (c1 dH)
def auS:=atz.q0 {merge:=mg [(1,2)]} func432 [pf pe] [rB] (c1 C0)
def auH:=auS.q0 {} func404 [pf pe] [rS] (c1 vf)
abbrev ahO:SD:=⟨cz (je bT)::B::DI::bs 5 (.ptr 8 0::.ptr 9 0::.ptr 10 0::.ptr 11 0::.ptr 12 0::B::.ptr 14 0::.ptr 15 0::DI::bs 65 []),zs 8 ((some Y1)::(some Y14)::(pW (cP 122881 .str))::(some Y1)::(some Y29)::Z::(pW (cP 172033 .str))::(some Y28)::zs 66 []),.none⟩
def at9:=auH.q1 {mask:=mk [(6,[0,2,8,9,10,11,12,14,15,16])],merge:=mg [(4,32),(6,44)],mv:=[33,35,49,63,68,78,80],mb:=mg [(33,14),(35,15),(78,14),(80,15)],sb:=mg [(10,10),(11,11),(12,12),(18,18),(19,19)]} func349 [pd (.sl bT),pf (.sl .str),pI,pf ju,pf jP] [(true,(.sl (.own none) .str)),(true,Y1),(true,Y10),rI] (c5 yS) ahO (λX K=>oJ (λy0 y1 y2 y3=>ke 0 K ahO ((z2 (u y0) X.1),(w y1 (z4 (w y2 (u y3))) X.2.1),X.2.2)) X.1.1 X.1.2.1 X.2.1.2.1 X.2.1.2.2.1 X.2.1.2.2.2.1 X.2.1.2.2.2.2.1) (λX=>(q2 X,X.2.1.1,X.2.1.2.2.2.2.2.1,X.2.1.2.2.2.2.2.2.1)) (λX x=>((z2 (u x.1) X.1),(w x.2.1 (z4 (w x.2.2.1 (u x.2.2.2))) X.2.1),X.2.2))
abbrev ahQ:SD:=⟨cz (je bT)::B::DI::DI::cz .str::B::.ptr 6 0::B::B::B::.ptr 10 0::B::cz (cP 147456 bT)::DI::bs 25 [],zs 6 ((pW (je .str))::Z::Z::Z::(pW (cP 122881 .str))::zs 28 []),.none⟩
def apC:=at9.q1 {mask:=mk [(3,[0,2,3,4,6,10,12,13])],mv:=[27]} func351 [pd (.sl bT),pf (.sl .str),pI,pI,pd .str] [(true,(.sl (.own none) .str)),rB] (c5 xk) ahQ (λX K=>rz (λy0 y1=>ke 0 K ahQ ((z4 (w y0 (u y1)) X.1),X.2)) X.1.1 X.1.2.1 (q2 X) (q3 X) X.2.1.1 X.2.1.2.1) (λX=>(q4 X,q5 X)) (λX x=>((z4 (w x.1 (u x.2)) X.1),X.2))
def au4:kH:=ko (.pair (.sl (.own none) .str) (.pair (.sl (.own none) bT) (.pair (.pair (.pair (.int .i64) (.pair (.int .i64) (.pair (.int .i64) (.int .i64)))) (.pair (.pair (.int .i64) (.pair (.int .i64) (.pair (.int .i64) (.sl (.own none) (.int .i64))))) (.pair (.sl (.own none) kU) (.int .i64)))) (.pair (.sl (.own none) eY) (.pair (.sl (.own none) jP) (.pair (.sl (.own none) gW) (.pair (.sl (.own none) .bool) (.pair (.pair (.int .i64) (.pair .bool (.sl (.own none) (.int .i64)))) (.pair (.pair (.sl (.own none) nw) (.pair (.sl (.own none) jQ) (.pair .str (.sl (.own none) (.int .i64))))) (.pair (.sl (.own none) fL) (.pair .bool (.pair (.sl (.own none) .str) (.pair (.sl (.own none) (.int .i64)) (.pair (.sl (.own none) (.int .i64)) (.pair (.int .i64) (.pair (.int .i64) (.pair (.int .i64) (.pair (.int .i64) (.int .i64))))))))))))))))))) [pI] [] λx a=>xw x a.1
theorem avT:KI 264 au4:=iJ.si (rM (an:={mv:=[47,51,65,67,84],mb:=mg [(84,6)],sb:=mg [(6,6),(50,0),(70,0),(71,5)]}) (Λ:=jZ.nil) (apC.s) func264 (by kernel_rfl) (ao nF)) (λx a=>by kernel_rfl)
def atc:=apC.add avT
def as2:=atc.q0 {merge:=mg [(1,2)]} func249 [pf gW] [rB] (c1 vX)
def arU:=as2.q0 {merge:=mg [(1,24),(3,2)]} func148 [pf gW] [rB] (c1 lf)
def atf:=arU.q0 {} func279 [pI,pI] [(true,Y15),rB] (c2 xn)
abbrev ahI:SD:=⟨DI::B::.ptr 2 0::.ptr 3 0::DI::bs 17 [],Z::Z::(pW (cP 24577 .str))::(pW (cP 36865 .str))::zs 18 [],.none⟩
def anx:=atf.q1 {mask:=mk [(3,[0,2,3,4])],merge:=mg [(3,12)],mv:=[16,21],mb:=mg [(16,3)],sb:=mg [(20,3)]} func280 [pI] [(true,(.sl (.own none) .str))] (c1 oN) ahI (λX K=>rA (λy0 y1=>ke 0 K ahI ((z1 (u y0) X.1),(z1 (u y1) X.2.1),X.2.2)) X.1.1 X.2.1.1) (λX=>(X.1.2.1,X.2.1.2.1)) (λX x=>((z1 (u x.1) X.1),(z1 (u x.2) X.2.1),X.2.2))
def aoV:An:={mask:=mk [(6,[0,12,14,16,17]),(10,[0,12,14,16,18])],merge:=mg [(2,42)],mv:=[57,74,80,86,92,98],mb:=mg [(57,16)],sb:=mg [(16,16),(67,16)]}
abbrev TS:SD:=⟨DI::bs 11 (.ptr 12 0::B::.ptr 14 0::B::.ptr 16 0::DI::bs 81 []),zs 12 ((some Y13)::Z::(some Y15)::Z::(some Y12)::zs 82 []),.none⟩
def akh (X:SD.D TS)(K:oZ R):=qn (λy0 y1=>ke 0 K TS ((z1 (u y0) X.1),(z2 (u y1) X.2.1),X.2.2)) X.1.1 X.2.1.1 X.2.1.2.1
abbrev Ny:SD:=⟨DI::bs 11 (.ptr 12 0::B::.ptr 14 0::B::.ptr 16 0::B::DI::bs 80 []),zs 12 ((some Y13)::Z::(some Y15)::Z::(some Y12)::zs 82 []),.none⟩
def aeb (X:SD.D Ny)(K:oZ R):=oM (λy0 y1=>ke 2 K Ny ((z1 (u y0) X.1),(z2 (u y1) X.2.1),X.2.2)) X.1.1 X.2.1.1 X.2.1.2.1
def apK:jZ:=(jZ.nil.add 6 (tW TS akh (λX=>(X.1.2.1,X.2.1.2.2.1)))).add 10 (tW Ny aeb (λX=>(X.1.2.1,X.2.1.2.2.1)))
theorem aot:tE E anx.g aoV apK (bZ f180 0):=lk TS akh (λX=>(X.1.2.1,X.2.1.2.2.1)) λX x=>((z1 (u x.1) X.1),(z2 (u x.2) X.2.1),X.2.2)
theorem alE:tE E anx.g aoV apK (bZ f180 1):=lk Ny aeb (λX=>(X.1.2.1,X.2.1.2.2.1)) λX x=>((z1 (u x.1) X.1),(z2 (u x.2) X.2.1),X.2.2)
def ar3:=anx.qk aoV func180 [pI,pf pk,pf nY,pd .bool,pI,pI] [(true,Y3),rB] (c6 tj) (cF aot (cF alE nF))
abbrev ah1:SD:=⟨cz (je eQ)::B::DB::bs 4 (.ptr 7 0::B::.ptr 9 0::B::B::.ptr 12 0::DB::B::B::.ptr 16 0::DI::bs 81 []),zs 7 ((some Y16)::Z::(some Y8)::Z::Z::(pW (cL (cP 147457 dk) (cL (cP 147460 bW) (cL (cP 147463 eQ) (cL (cP 147466 .str) (cL Y1 (cL (cP 147481 (.int .i64)) (cP 147484 .str))))))))::Z::Z::Z::(pW (cL (cP 196609 dk) (cL (cP 196612 bW) (cL (cP 196615 eQ) (cL (cP 196618 .str) (cL Y1 (cL (cP 196633 (.int .i64)) (cP 196636 .str))))))))::zs 82 []),.none⟩
def G76:=ar3.q1 {mask:=mk [(6,[0,2,7,9,12,13,16,17])],merge:=mg [(3,50)],mv:=[58,67,73,74,79,89,98],mb:=mg [(89,16)],sb:=mg [(18,18),(97,16)]} func76 [pd (.sl eQ),pf nY,pd .bool,pf iQ,pf (.sl .str),pI] [(true,Y7),rB] (c6 ti) ah1 (λX K=>vh (λy0 y1=>ke 0 K ah1 ((z3 (u y0) X.1),(z3 (u y1) X.2.1),X.2.2)) (λy0 y1 y2 y3=>kr K ah1 ((z2 (w y0 (u y1)) X.1),(z2 (w y2 (u y3)) X.2.1),X.2.2)) X.1.1 X.1.2.1 (q2 X) X.2.1.1 X.2.1.2.1 X.2.1.2.2.1) (λX=>(q3 X,X.2.1.2.2.2.1)) (λX x=>((z3 (u x.1) X.1),(z3 (u x.2) X.2.1),X.2.2))
def au5:kH:=ko (.pair (.sl .As (.int .u8)) (.pair (.int .i64) (.int .i64))) [] [(true,Y17)] λx a=>xu x
theorem avU:KI 281 au5:=iJ.si (rM (an:={mv:=[11]}) (Λ:=jZ.nil) (G76.s) func281 (by kernel_rfl) (ao nF)) (λx a=>by kernel_rfl)
def apy:=G76.add avU
def au1:kH:=ko (.pair (.sl .As (.int .u8)) (.pair (.int .i64) (.int .i64))) [] [(true,(.pair Y17 Y8))] λx a=>C3 x
theorem avQ:KI 181 au1:=iJ.si (rM (an:={}) (Λ:=jZ.nil) (apy.s) func181 (by kernel_rfl) (ao nF)) (λx a=>by kernel_rfl)
def akR:=apy.add avQ
def e77:kH:=ko (.pair (.sl .As (.int .u8)) (.pair (.int .i64) (.int .i64))) [] [(false,(.sl (.own none) eQ))] λx a=>zi x
def n77:An:={mask:=mk [(3,[0,3,4])],mv:=[22,23,26]}
abbrev ada:SD:=⟨.ptr 0 0::B::B::cz (cP 36864 eQ)::DI::bs 22 [],(some Y6)::zs 26 [],.ptr⟩
def ane (X:SD.D ada)(K:oZ R):=ym (λy0 y1 y2=>ke 0 K ada ((w y0 (u y1) X.1),(u y2 X.2.1),X.2.2))
def L77:jZ:=jZ.nil.add 3 (tW ada ane (λX=>(X.1.1,X.1.2.1,X.2.1.1)))
theorem aqU:tE E akR.g n77 L77 (bZ f77 0):=lk ada ane (λX=>(X.1.1,X.1.2.1,X.2.1.1)) λX x=>((w x.1 (u x.2.1) X.1),(u x.2.2 X.2.1),X.2.2)
theorem o77:KI 77 e77:=iJ.si (rM (Γ:=akR.g) (an:=n77) (Λ:=L77) (akR.s) func77 (by kernel_rfl) (ao (cF aqU nF))) (λx a=>by kernel_rfl)
def G77:=akR.add o77
def e85:kH:=ko (.pair (.sl .As (.int .u8)) (.pair (.int .i64) (.int .i64))) [] [rS] λx a=>uG x
theorem o85:KI 85 e85:=iJ.si (rM (an:={}) (Λ:=jZ.nil) (G77.s) func85 (by kernel_rfl) (ao nF)) (λx a=>by kernel_rfl)
def G85:=G77.add o85
def e78:kH:=ko (.pair (.sl .As (.int .u8)) (.pair (.int .i64) (.int .i64))) [] [(true,(.sl (.own none) .str))] λx a=>ze x
def n78:An:={mask:=mk [(3,[0,2,3,4])],mv:=[18,28],mb:=mg [(18,3)],sb:=mg [(27,3)]}
abbrev adb:SD:=⟨.ptr 0 0::B::.ptr 2 0::.ptr 3 0::DI::bs 24 [],(some Y6)::Z::(pW (cP 24577 .str))::(pW (cP 36865 .str))::zs 25 [],.ptr⟩
def anf (X:SD.D adb)(K:oZ R):=yi (λy0 y1 y2=>ke 0 K adb ((u y0 X.1),(w y1 (z1 (u y2)) X.2.1),X.2.2)) X.2.1.2.1
def L78:jZ:=jZ.nil.add 3 (tW adb anf (λX=>(X.1.1,X.2.1.1,X.2.1.2.2.1)))
theorem aqV:tE E G85.g n78 L78 (bZ f78 0):=lk adb anf (λX=>(X.1.1,X.2.1.1,X.2.1.2.2.1)) λX x=>((u x.1 X.1),(w x.2.1 (z1 (u x.2.2)) X.2.1),X.2.2)
theorem o78:KI 78 e78:=iJ.si (rM (Γ:=G85.g) (an:=n78) (Λ:=L78) (G85.s) func78 (by kernel_rfl) (ao (cF aqV nF))) (λx a=>by kernel_rfl)
def G78:=G85.add o78
def e26:kH:=ko (.pair (.sl .As (.int .u8)) (.pair (.int .i64) (.int .i64))) [] [(true,Y7)] λx a=>C4 x
def n26:An:={mask:=mk [(2,[0,2,3]),(1000006,[0,2,3]),(1000007,[0,2,3]),(1000008,[0,2,3]),(1000009,[0,2,3]),(1000014,[0,2,3,4]),(1000015,[0,2,3])],cut:=[3,4,7],mv:=[35,49,52,66,80,82],sb:=mg [(6,6),(11,11),(36,0),(39,0),(43,0),(45,0)]}
abbrev Ft:SD:=⟨.ptr 0 0::B::.ptr 2 0::DI::.ptr 4 0::bs 78 [],(some Y6)::Z::(some Y9)::Z::(pW (cL (cP 49153 nw) (cL (cP 49156 jQ) (cL .str (cP 49162 (.int .i64))))))::zs 78 [],.ptr⟩
abbrev Jg:SD:=⟨.ptr 0 0::B::.ptr 2 0::DI::bs 79 [],(some Y6)::Z::(some Y9)::zs 80 [],.ptr⟩
def MO (X:SD.D Ft)(K:oZ R):ay R:=so (λy0=>kn K Jg ((X.1.1,()),(y0,(X.2.1.2.1,())),())) (λy0 y1=>kr K Jg ((X.1.1,()),(y0,(y1,())),())) X.1.1 X.2.1.1 X.2.1.2.1 X.2.1.2.2.1
abbrev CB:SD:=⟨.ptr 0 0::B::.ptr 2 0::DI::bs 79 [],(some Y6)::Z::(some Y9)::zs 80 [],.ptr⟩
def MM (X:SD.D CB)(K:oZ R):ay R:=sn (λy0=>kn K CB ((u y0 X.1),X.2)) X.1.1 X.2.1.1 X.2.1.2.1
abbrev zw:SD:=⟨.ptr 0 0::B::.ptr 2 0::DI::bs 79 [],(some Y6)::Z::(some Y9)::zs 80 [],.ptr⟩
def MN (X:SD.D zw)(K:oZ R):ay R:=xz (λy0 y1=>kn K zw ((u y0 X.1),(u y1 X.2.1),X.2.2)) (λy0 y1=>kr K zw (X.1,(w y0 (u y1) X.2.1),X.2.2)) X.1.1 X.2.1.1 X.2.1.2.1
abbrev We:SD:=⟨.ptr 0 0::B::.ptr 2 0::DI::bs 79 [],(some Y6)::Z::(some Y9)::zs 80 [],.ptr⟩
def am0 (X:SD.D We)(K:oZ R):=Ck (λy0 y1=>ke 0 K We ((u y0 X.1),(u y1 X.2.1),X.2.2)) (λy0 y1 y2=>kr K We ((u y0 X.1),(w y1 (u y2) X.2.1),X.2.2)) X.2.1.2.1
def L26:jZ:=(((jZ.nil.add 1000014 (UZ Ft MO)).add 1000006 (UZ CB MM)).add 1000008 (UZ zw MN)).add 2 (tW We am0 (λX=>(X.1.1,X.2.1.1)))
theorem XM:QI E G78.g n26 L26 (mJ n26.cut f26 1):=ck Ft MO
theorem XK:QI E G78.g n26 L26 (mJ n26.cut f26 2):=ck CB MM
theorem XL:QI E G78.g n26 L26 (mJ n26.cut f26 0):=ck zw MN
theorem aqH:tE E G78.g n26 L26 (bZ f26 0):=lk We am0 (λX=>(X.1.1,X.2.1.1)) λX x=>((u x.1 X.1),(u x.2 X.2.1),X.2.2)
theorem o26:KI 26 e26:=iJ.si (rM (Γ:=G78.g) (an:=n26) (Λ:=L26) (G78.s) func26 (by kernel_rfl) (ac (cF aqH nF) (cF XL (cF XM (cF XK nF))))) (λx a=>by kernel_rfl)
def G26:=G78.add o26
def au6:kH:=ko (.pair (.sl .As (.int .u8)) (.pair (.int .i64) (.int .i64))) [] [rI] λx a=>AZ x
theorem avV:KI 282 au6:=iJ.si (rM (an:={}) (Λ:=jZ.nil) (G26.s) func282 (by kernel_rfl) (ao nF)) (λx a=>by kernel_rfl)
def apz:=G26.add avV
def ava:kH:=ko (.pair (.sl .As (.int .u8)) (.pair (.int .i64) (.int .i64))) [] [rI] λx a=>yZ x
theorem avZ:KI 367 ava:=iJ.si (rM (an:={}) (Λ:=jZ.nil) (apz.s) func367 (by kernel_rfl) (ao nF)) (λx a=>by kernel_rfl)
def apD:=apz.add avZ
def au7:kH:=ko (.pair (.sl .As (.int .u8)) (.pair (.int .i64) (.int .i64))) [pI] [(true,(.pair (.int .i64) Y26))] λx a=>vn x a.1
theorem avW:KI 283 au7:=iJ.si (rM (an:={}) (Λ:=jZ.nil) (apD.s) func283 (by kernel_rfl) (ao nF)) (λx a=>by kernel_rfl)
def apA:=apD.add avW
def au2:kH:=ko (.pair (.sl .As (.int .u8)) (.pair (.int .i64) (.int .i64))) [pI] [(true,Y2)] λx a=>oR x a.1
theorem avR:KI 184 au2:=iJ.si (rM (an:={}) (Λ:=jZ.nil) (apA.s) func184 (by kernel_rfl) (ao nF)) (λx a=>by kernel_rfl)
def QN:=apA.add avR
def e81:kH:=ko (.pair (.sl .As (.int .u8)) (.pair (.int .i64) (.int .i64))) [pI] [(false,(.sl (.own none) dm))] λx a=>Ba x a.1
def n81:An:={mask:=mk [(5,[0,5,6,7,8]),(1000012,[0,5,6,7,8]),(1000013,[0,5,6,7,8]),(1000014,[0,5,6,7,8]),(1000015,[0,5,6,7,8]),(1000018,[0,5,6,7,8]),(1000019,[0,5,6,7,8]),(1000022,[0,5,6,7,8]),(1000023,[0,5,6,7,8]),(1000028,[0,5,6,7,8]),(1000029,[0,5,6,7,8]),(1000034,[0,5,6,7,8,64]),(1000035,[0,5,6,7,8])],cut:=[6,7,9,11,14,17],mv:=[47,76]}
abbrev Fy:SD:=⟨.ptr 0 0::bs 4 (cz (cP 61440 dm)::.ptr 6 0::DI::DI::bs 55 (DB::bs 12 [])),(some Y6)::zs 5 ((some Y2)::zs 70 []),.ptr⟩
abbrev Ub:SD:=⟨.ptr 0 0::bs 4 (cz (cP 61440 dm)::.ptr 6 0::DI::DI::bs 68 []),(some Y6)::zs 5 ((some Y2)::zs 70 []),.ptr⟩
def M4 (X:SD.D Fy)(K:oZ R):ay R:=yh (λy0=>kn K Ub ((X.1.1,(X.1.2.1,(X.1.2.2.1,()))),(X.2.1.1,(y0,())),())) X.1.1 X.1.2.1 (q2 X) (q3 X) X.2.1.1 X.2.1.2.1
abbrev CK:SD:=⟨.ptr 0 0::bs 4 (cz (cP 61440 dm)::.ptr 6 0::DI::DI::bs 68 []),(some Y6)::zs 5 ((some Y2)::zs 70 []),.ptr⟩
def M3 (X:SD.D CK)(K:oZ R):ay R:=oT (λy0 y1 y2=>kn K CK ((u y0 X.1),(w y1 (u y2) X.2.1),X.2.2)) X.1.1 X.1.2.1 (q2 X) X.2.1.1 X.2.1.2.1
abbrev CJ:SD:=⟨.ptr 0 0::bs 4 (cz (cP 61440 dm)::.ptr 6 0::DI::DI::bs 68 []),(some Y6)::zs 5 ((some Y2)::zs 70 []),.ptr⟩
def M0 (X:SD.D CJ)(K:oZ R):ay R:=oS (λy0 y1 y2=>kn K CJ ((u y0 X.1),(w y1 (u y2) X.2.1),X.2.2)) X.1.1 X.1.2.1 (q2 X) X.2.1.1 X.2.1.2.1
abbrev CI:SD:=⟨.ptr 0 0::bs 4 (cz (cP 61440 dm)::.ptr 6 0::DI::DI::bs 68 []),(some Y6)::zs 5 ((some Y2)::zs 70 []),.ptr⟩
def MZ (X:SD.D CI)(K:oZ R):ay R:=qv (λy0 y1 y2 y3=>kn K CI ((w y0 (u y1) X.1),(w y2 (u y3) X.2.1),X.2.2)) X.1.1 X.1.2.1 (q2 X) X.2.1.1 X.2.1.2.1
abbrev CG:SD:=⟨.ptr 0 0::bs 4 (cz (cP 61440 dm)::.ptr 6 0::DI::DI::bs 68 []),(some Y6)::zs 5 ((some Y2)::zs 70 []),.ptr⟩
def MX (X:SD.D CG)(K:oZ R):ay R:=qu (λy0=>kn K CG ((z2 (u y0) X.1),X.2)) X.1.1 X.1.2.1 (q2 X) X.2.1.1 X.2.1.2.1
abbrev CH:SD:=⟨.ptr 0 0::bs 4 (cz (cP 61440 dm)::.ptr 6 0::DI::DI::bs 68 []),(some Y6)::zs 5 ((some Y2)::zs 70 []),.ptr⟩
def MY (X:SD.D CH)(K:oZ R):ay R:=vo (λy0 y1 y2 y3 y4=>kn K CH ((w y0 (w y1 (u y2)) X.1),(w y3 (u y4) X.2.1),X.2.2)) X.1.1 X.1.2.1 (q2 X) X.2.1.1 X.2.1.2.1
abbrev ade:SD:=⟨.ptr 0 0::bs 4 (cz (cP 61440 dm)::.ptr 6 0::DI::DI::bs 68 []),(some Y6)::zs 5 ((some Y2)::zs 70 []),.ptr⟩
def ang (X:SD.D ade)(K:oZ R):=Ai (λy0 y1 y2 y3 y4=>ke 0 K ade ((w y0 (w y1 (u y2)) X.1),(w y3 (u y4) X.2.1),X.2.2))
def L81:jZ:=((((((jZ.nil.add 1000034 (UZ Fy M4)).add 1000028 (UZ CK M3)).add 1000022 (UZ CJ M0)).add 1000018 (UZ CI MZ)).add 1000012 (UZ CG MX)).add 1000014 (UZ CH MY)).add 5 (tW ade ang (λX=>(X.1.1,X.1.2.1,q2 X,X.2.1.1,X.2.1.2.1)))
theorem X0:QI E QN.g n81 L81 (mJ n81.cut f81 4):=ck Fy M4
theorem XZ:QI E QN.g n81 L81 (mJ n81.cut f81 3):=ck CK M3
theorem XY:QI E QN.g n81 L81 (mJ n81.cut f81 2):=ck CJ M0
theorem XX:QI E QN.g n81 L81 (mJ n81.cut f81 1):=ck CI MZ
theorem XV:QI E QN.g n81 L81 (mJ n81.cut f81 5):=ck CG MX
theorem XW:QI E QN.g n81 L81 (mJ n81.cut f81 0):=ck CH MY
theorem aqW:tE E QN.g n81 L81 (bZ f81 0):=lk ade ang (λX=>(X.1.1,X.1.2.1,q2 X,X.2.1.1,X.2.1.2.1)) λX x=>((w x.1 (w x.2.1 (u x.2.2.1)) X.1),(w x.2.2.2.1 (u x.2.2.2.2) X.2.1),X.2.2)
theorem o81:KI 81 e81:=iJ.si (rM (Γ:=QN.g) (an:=n81) (Λ:=L81) (QN.s) func81 (by kernel_rfl) (ac (cF aqW nF) (cF XW (cF XX (cF XY (cF XZ (cF X0 (cF XV nF)))))))) (λx a=>by kernel_rfl)
def G81:=QN.add o81
def asC:=G81.q0 {merge:=mg [(1,18),(4,2),(5,2)]} func220 [pf Dy] [rB] (c1 sm)
def arw:=asC.q0 {merge:=mg [(1,55),(3,3),(4,2)]} func121 [pf dm] [rB] (c1 tq)
def G44:=arw.q0 {merge:=mg [(1,2)]} func44 [pf dm] [rB] (c1 yV)
def arv:=G44.q0 {} func117 [pd .str] [rS] (c1 AY)
def auL:=arv.q0 {merge:=mg [(1,12)]} func423 [pI,pI] [rI] (c2 nf)
abbrev ahT:SD:=⟨cz .str::B::B::DI::DI::bs 28 [],zs 33 [],.none⟩
def auj:=auL.q1 {mask:=mk [(3,[0,3,4])]} func376 [pd .str] [rI] (c1 yY) ahT (λX K=>tp (λy0 y1=>ke 0 K ahT ((z1 (w y0 (u y1)) X.1),X.2)) X.1.1) (λX=>(X.1.2.1,q2 X)) (λX x=>((z1 (w x.1 (u x.2)) X.1),X.2))
def atB:=auj.q0 {} func308 [pd .str] [rI] (c1 qJ)
def aui:=atB.q0 {merge:=mg [(1,2)]} func375 [pf TIp] [rB] (c1 He)
def aty:=aui.q0 {} func305 [pf TIp] [rS,rB] (c1 yU)
def asA:=aty.q0 {} func218 [pf TIp] [rS,rB] (c1 AN)
def atA:=asA.q0 {merge:=mg [(1,27)]} func307 [pI,pI,pI,pI] [rS,rB] (c4 nh)
def asB:=atA.q0 {merge:=mg [(14,82)]} func219 [pI,pI,pf Dy] [rS,rB] (c3 ry)
def asz:=asB.q0 {merge:=mg [(1,2)]} func217 [pf ahb] [rB] (c1 EI)
def aub:=asz.q0 {} func368 [pI] [rS] (c1 jl)
def atg:=aub.q0 {} func284 [pf ahb] [rS,rB] (c1 yQ)
def ath:=atg.q0 {} func285 [pd .str] [rS] (c1 AQ)
def ar5:=ath.q0 {} func185 [pf dm] [rS,rB] (c1 vd)
def G82:=ar5.q0 {} func82 [pf dm] [rS,rB] (c1 vc)
def e83:kH:=ko (.pair (.sl .As (.int .u8)) (.pair (.int .i64) (.int .i64))) [pf dm,pI] [(true,Y2)] λx a=>sq x a.1 a.2.1
theorem o83:KI 83 e83:=iJ.si (rM (an:={}) (Λ:=jZ.nil) (G82.s) func83 (by kernel_rfl) (ao nF)) (λx a=>by kernel_rfl)
def G83:=G82.add o83
def e84:kH:=ko (.pair (.sl .As (.int .u8)) (.pair (.int .i64) (.int .i64))) [] [(true,Y8)] λx a=>vq x
theorem o84:KI 84 e84:=iJ.si (rM (an:={}) (Λ:=jZ.nil) (G83.s) func84 (by kernel_rfl) (ao nF)) (λx a=>by kernel_rfl)
def G84:=G83.add o84
def e27:kH:=ko (.pair (.sl .As (.int .u8)) (.pair (.int .i64) (.int .i64))) [pI,pd .bool] [(false,(.sl (.own none) hZ))] λx a=>Bi x a.1 a.2.1
def U2:An:={mask:=mk [(4,[0,1,2,7,8,9]),(42,[0,7,14]),(1000010,[0,1,2,7,8,9]),(1000011,[0,1,2,7,8,9]),(1000012,[0,1,2,7,8,9]),(1000013,[0,1,2,7,8,9]),(1000038,[0,1,2,7,8,9,10,11,30,46]),(1000039,[0,1,2,7,8,9,11]),(1000050,[0,1,2,7,8,9,10,11,30,63]),(1000051,[0,1,2,7,8,9,11]),(1000074,[0,1,2,7,8,9,11]),(1000075,[0,1,2,7,8,9]),(1000086,[0,7,14]),(1000087,[0,7,14]),(1000088,[0,7,14]),(1000089,[0,7,14]),(1000090,[0,7,14,158]),(1000091,[0,7,14])],cut:=[5,6,19,25,37,43,44,45],merge:=mg [(44,158)],mv:=[83,110,116,124,164]}
abbrev Fv:SD:=⟨.ptr 0 0::DI::DB::bs 4 (cz (cP 86016 hZ)::cz (cP 98304 dm)::DI::DI::.ptr 11 0::bs 18 (DI::bs 32 (DB::bs 101 []))),(some Y6)::zs 10 ((some Y11)::zs 153 []),.ptr⟩
abbrev TY:SD:=⟨.ptr 0 0::DI::DB::bs 4 (cz (cP 86016 hZ)::cz (cP 98304 dm)::DI::B::.ptr 11 0::bs 153 []),(some Y6)::zs 10 ((some Y11)::zs 153 []),.ptr⟩
def MS (X:SD.D Fv)(K:oZ R):ay R:=jB (λy0 y1 y2=>kn K TY ((X.1.1,(X.1.2.1,(y0,(X.1.2.2.2.1,(X.1.2.2.2.2.1,()))))),(y1,(y2,())),())) X.1.1 X.1.2.1 (q2 X) (q3 X) (q4 X) (q5 X) (q6 X) (q7 X) X.2.1.1 X.2.1.2.1
abbrev Fu:SD:=⟨.ptr 0 0::DI::DB::bs 4 (cz (cP 86016 hZ)::cz (cP 98304 dm)::DI::DI::.ptr 11 0::bs 18 (DI::bs 15 (DB::bs 118 []))),(some Y6)::zs 10 ((some Y11)::zs 153 []),.ptr⟩
abbrev TX:SD:=⟨.ptr 0 0::DI::DB::bs 4 (cz (cP 86016 hZ)::cz (cP 98304 dm)::DI::B::.ptr 11 0::bs 153 []),(some Y6)::zs 10 ((some Y11)::zs 153 []),.ptr⟩
def MR (X:SD.D Fu)(K:oZ R):ay R:=jA (λy0 y1 y2=>kn K TX ((X.1.1,(X.1.2.1,(y0,(X.1.2.2.2.1,(X.1.2.2.2.2.1,()))))),(y1,(y2,())),())) X.1.1 X.1.2.1 (q2 X) (q3 X) (q4 X) (q5 X) (q6 X) (q7 X) X.2.1.1 X.2.1.2.1
abbrev Fw:SD:=⟨.ptr 0 0::DI::DB::bs 4 (cz (cP 86016 hZ)::cz (cP 98304 dm)::DI::B::.ptr 11 0::bs 153 []),(some Y6)::zs 10 ((some Y11)::zs 153 []),.ptr⟩
abbrev TZ:SD:=⟨.ptr 0 0::DI::DB::bs 4 (cz (cP 86016 hZ)::cz (cP 98304 dm)::DI::bs 155 []),(some Y6)::zs 164 [],.ptr⟩
def MT (X:SD.D Fw)(K:oZ R):ay R:=jC (λy0 y1=>kn K TZ ((X.1.1,(X.1.2.1,(y0,(X.1.2.2.2.1,(X.1.2.2.2.2.1,()))))),(y1,()),())) X.1.1 X.1.2.1 (q2 X) (q3 X) (q4 X) X.2.1.1 X.2.1.2.1
abbrev CC:SD:=⟨.ptr 0 0::DI::DB::bs 4 (cz (cP 86016 hZ)::cz (cP 98304 dm)::DI::bs 155 []),(some Y6)::zs 164 [],.ptr⟩
def MP (X:SD.D CC)(K:oZ R):ay R:=mC (λy0=>kn K CC ((z4 (u y0) X.1),X.2)) X.1.1 X.1.2.1 (q2 X) (q3 X) (q4 X) X.2.1.1
abbrev CD:SD:=⟨.ptr 0 0::DI::DB::bs 4 (cz (cP 86016 hZ)::cz (cP 98304 dm)::DI::bs 155 []),(some Y6)::zs 164 [],.ptr⟩
def MQ (X:SD.D CD)(K:oZ R):ay R:=vw (λy0 y1 y2=>kn K CD ((z2 (w y0 (z1 (u y1))) X.1),(u y2 X.2.1),X.2.2)) X.1.1 X.1.2.1 (q2 X) (q3 X) (q4 X) X.2.1.1
abbrev ac8:SD:=⟨.ptr 0 0::DI::DB::bs 4 (cz (cP 86016 hZ)::cz (cP 98304 dm)::DI::bs 155 []),(some Y6)::zs 164 [],.ptr⟩
def am1 (X:SD.D ac8)(K:oZ R):=Aj (λy0 y1 y2=>ke 0 K ac8 ((z2 (w y0 (z1 (u y1))) X.1),(u y2 X.2.1),X.2.2)) X.1.1 X.1.2.1 (q3 X)
abbrev Fx:SD:=⟨.ptr 0 0::bs 6 (cz (cP 86016 hZ)::bs 6 (DI::bs 143 (DB::bs 6 []))),(some Y6)::zs 164 [],.ptr⟩
abbrev T0:SD:=⟨.ptr 0 0::bs 6 (cz (cP 86016 hZ)::bs 6 (DI::bs 150 [])),(some Y6)::zs 164 [],.ptr⟩
def MW (X:SD.D Fx)(K:oZ R):ay R:=yk (λy0=>kn K T0 ((y0,(X.1.2.1,())),(X.2.1.1,()),())) X.1.1 X.1.2.1 (q2 X) X.2.1.1
abbrev CE:SD:=⟨.ptr 0 0::bs 6 (cz (cP 86016 hZ)::bs 6 (DI::bs 150 [])),(some Y6)::zs 164 [],.ptr⟩
def MU (X:SD.D CE)(K:oZ R):ay R:=tz (λy0=>kn K CE ((z1 (u y0) X.1),X.2)) X.1.1 X.1.2.1 X.2.1.1
abbrev CF:SD:=⟨.ptr 0 0::bs 6 (cz (cP 86016 hZ)::bs 6 (DI::bs 150 [])),(some Y6)::zs 164 [],.ptr⟩
def MV (X:SD.D CF)(K:oZ R):ay R:=yj (λy0 y1=>kn K CF ((w y0 (u y1) X.1),X.2)) X.1.1 X.1.2.1 X.2.1.1
abbrev T1:SD:=⟨.ptr 0 0::bs 6 (cz (cP 86016 hZ)::bs 6 (DI::bs 150 [])),(some Y6)::zs 164 [],.ptr⟩
def akp (X:SD.D T1)(K:oZ R):=yl (λy0 y1=>ke 3 K T1 ((w y0 (u y1) X.1),X.2)) X.2.1.1
def L27:jZ:=(((((((((jZ.nil.add 1000050 (UZ Fv MS)).add 1000038 (UZ Fu MR)).add 1000074 (UZ Fw MT)).add 1000010 (UZ CC MP)).add 1000012 (UZ CD MQ)).add 4 (tW ac8 am1 (λX=>(q2 X,q4 X,X.2.1.1)))).add 1000090 (UZ Fx MW)).add 1000086 (UZ CE MU)).add 1000088 (UZ CF MV)).add 42 (tW T1 akp (λX=>(X.1.1,X.1.2.1)))
theorem XQ:QI E G84.g U2 L27 (mJ U2.cut f27 2):=ck Fv MS
theorem XP:QI E G84.g U2 L27 (mJ U2.cut f27 1):=ck Fu MR
theorem XR:QI E G84.g U2 L27 (mJ U2.cut f27 3):=ck Fw MT
theorem XN:QI E G84.g U2 L27 (mJ U2.cut f27 4):=ck CC MP
theorem XO:QI E G84.g U2 L27 (mJ U2.cut f27 0):=ck CD MQ
theorem aqI:tE E G84.g U2 L27 (bZ f27 0):=lk ac8 am1 (λX=>(q2 X,q4 X,X.2.1.1)) λX x=>((z2 (w x.1 (z1 (u x.2.1))) X.1),(u x.2.2 X.2.1),X.2.2)
theorem XU:QI E G84.g U2 L27 (mJ U2.cut f27 6):=ck Fx MW
theorem XS:QI E G84.g U2 L27 (mJ U2.cut f27 7):=ck CE MU
theorem XT:QI E G84.g U2 L27 (mJ U2.cut f27 5):=ck CF MV
theorem aoB:tE E G84.g U2 L27 (bZ f27 1):=lk T1 akp (λX=>(X.1.1,X.1.2.1)) λX x=>((w x.1 (u x.2) X.1),X.2)
theorem o27:KI 27 e27:=iJ.si (rM (Γ:=G84.g) (an:=U2) (Λ:=L27) (G84.s) func27 (by kernel_rfl) (ac (cF aqI (cF aoB nF)) (cF XO (cF XP (cF XQ (cF XR (cF XN (cF XT (cF XU (cF XS nF)))))))))) (λx a=>by kernel_rfl)
def G27:=G84.add o27
def G8:=G27.q0 {late:=[10],sb:=mg [(2,2),(11,7)]} func8 [pd (.sl (.int .u8))] [(true,Y7),(false,(.sl (.own none) hZ))] (c1 yR)
def G29:=G8.q0 {merge:=mg [(1,6)]} func29 [pI,pI,pI] [rB] (c3 aA)
abbrev aan:SD:=⟨B::.ptr 1 0::DB::B::B::B::cz (je (.int .i64))::DI::DI::bs 31 [],Z::(some Y24)::zs 38 [],.none⟩
def aro:=G29.q1 {mask:=mk [(2,[1,2,6,7,8])],merge:=mg [(4,29),(7,2)]} func109 [pf pk] [rB] (c1 iy) aan (λX K=>sF (λy0=>ke 0 K aan ((z3 (u y0) X.1),X.2)) (λy0 y1=>kr K aan ((w y0 (z2 (u y1)) X.1),X.2)) X.1.1 X.1.2.1 (q2 X) X.2.1.1) q3 (λX x=>((z3 (u x) X.1),X.2))
def arh:=aro.q0 {merge:=mg [(1,2)]} func102 [pf eQ] [rB] (c1 rU)
abbrev aai:SD:=⟨B::DI::B::B::DB::B::B::cz (je (.int .i64))::DI::DI::bs 7 [],zs 17 [],.none⟩
def ari:=arh.q1 {mask:=mk [(2,[1,4,7,8,9])]} func103 [pd (.sl (.int .i64)),pI] [rB] (c2 gH) aai (λX K=>wW (λy0=>ke 0 K aai ((z4 (u y0) X.1),X.2)) (λy0 y1=>kr K aai ((z1 (w y0 (z2 (u y1))) X.1),X.2)) X.1.1 X.1.2.1 (q2 X) (q3 X)) q4 (λX x=>((z4 (u x) X.1),X.2))
abbrev ahw:SD:=⟨B::DI::B::B::B::cz (cP 61440 (.int .i64))::DB::B::B::B::cz (je (.int .i64))::DI::DI::bs 26 [],zs 39 [],.none⟩
def arj:=ari.q1 {mask:=mk [(4,[1,5,6,10,11,12])],merge:=mg [(6,22)],mv:=[23,27,34,38]} func104 [pd (.sl (.int .i64)),pI] [(false,(.sl (.own none) (.int .i64)))] (c2 kv) ahw (λX K=>lN (λy0 y1 y2=>ke 0 K ahw ((z1 (w y0 (w y1 (z2 (u y2)))) X.1),X.2)) X.1.1 (q3 X) (q4 X)) (λX=>(X.1.2.1,q2 X,q5 X)) (λX x=>((z1 (w x.1 (w x.2.1 (z2 (u x.2.2)))) X.1),X.2))
def asp:=arj.q0 {} func206 [pf lD] [(true,Y24)] (c1 Dj)
abbrev aax:SD:=⟨B::DI::B::B::DI::B::B::cz (je lD)::DI::DI::bs 14 [],zs 24 [],.none⟩
def asq:=asp.q1 {mask:=mk [(2,[1,4,7,8,9])],merge:=mg [(4,21)]} func207 [pd (.sl lD),pI] [rI] (c2 uu) aax (λX K=>oy (λy0=>ke 0 K aax ((z4 (u y0) X.1),X.2)) (λy0 y1=>kr K aax ((z1 (w y0 (z2 (u y1))) X.1),X.2)) X.1.1 X.1.2.1 (q2 X) (q3 X)) q4 (λX x=>((z4 (u x) X.1),X.2))
abbrev aaj:SD:=⟨cz (je lD)::B::DB::bs 6 (cz (je lD)::DI::DI::bs 27 []),zs 39 [],.none⟩
def anl:=asq.q1 {mask:=mk [(4,[0,2,9,10,11])],merge:=mg [(6,27),(8,37)]} func105 [pd (.sl lD)] [rB] (c1 mV) aaj (λX K=>uQ (λy0=>ke 0 K aaj ((z4 (u y0) X.1),X.2)) (λy0 y1=>kr K aaj ((z1 (w y0 (z2 (u y1))) X.1),X.2)) X.1.1 X.1.2.1 (q2 X) (q3 X)) q4 (λX x=>((z4 (u x) X.1),X.2))
def n35:An:={mask:=mk [(6,[2,3,4,5,18,19,20]),(12,[2,3,4,5,7,8,18,19,20,32,33,34])],mv:=[53,57,63,69]}
abbrev T7:SD:=⟨B::B::cz (cP 24576 lD)::DB::cz (cP 49152 lD)::cz (cP 61440 (.int .i64))::B::.ptr 7 0::cz (cP 98304 (.int .i64))::bs 9 (cz (je eQ)::DI::DI::bs 11 (cz (cP 393216 (.int .i64))::DI::DI::bs 35 [])),zs 7 ((pW (cL Y24 Y8))::zs 62 []),.none⟩
def aku (X:SD.D T7)(K:oZ R):=lq (λy0 y1 y2=>ke 2 K T7 ((z3 (w y0 (w y1 (z5 (u y2)))) X.1),X.2)) X.1.1 X.1.2.1 (q2 X) (q5 X) (q6 X) (q7 X) (q8 X) (q9 X) X.2.1.1
abbrev Wf:SD:=⟨B::B::cz (cP 24576 lD)::DB::cz (cP 49152 lD)::cz (cP 61440 (.int .i64))::bs 12 (cz (je eQ)::DI::DI::bs 49 []),zs 70 [],.none⟩
def am2 (X:SD.D Wf)(K:oZ R):=qf (λy0 y1 y2=>ke 0 K Wf ((z2 (w y0 (w y1 (z2 (u y2)))) X.1),X.2)) (λy0 y1 y2 y3 y4=>kr K Wf ((w y0 (w y1 (w y2 (w y3 (z2 (u y4))))) X.1),X.2)) X.1.1 X.1.2.1 (q4 X) (q5 X)
def L35:jZ:=(jZ.nil.add 12 (tW T7 aku (λX=>(q3 X,q4 X,q10 X)))).add 6 (tW Wf am2 (λX=>(q2 X,q3 X,q6 X)))
theorem aoG:tE E anl.g n35 L35 (bZ f35 1):=lk T7 aku (λX=>(q3 X,q4 X,q10 X)) λX x=>((z3 (w x.1 (w x.2.1 (z5 (u x.2.2)))) X.1),X.2)
theorem aqJ:tE E anl.g n35 L35 (bZ f35 0):=lk Wf am2 (λX=>(q2 X,q3 X,q6 X)) λX x=>((z2 (w x.1 (w x.2.1 (z2 (u x.2.2)))) X.1),X.2)
def G35:=anl.qk n35 func35 [pd (.sl eQ)] [(false,(.sl (.own none) lD)),rB] (c1 pB) (cF aqJ (cF aoG nF))
def asg:=G35.q0 {merge:=mg [(1,2)]} func198 [pI] [rB] (c1 uv)
def ase:=asg.q0 {} func194 [pI,pI] [rI] (c2 jk)
def ash:=ase.q0 {} func199 [pf ju] [rI] (c1 jL)
def G95:=ash.q0 {merge:=mg [(1,2)]} func95 [pf ju] [rB] (c1 jX)
def G96:=G95.q0 {merge:=mg [(1,2)]} func96 [pf iQ] [rB] (c1 pD)
def asi:=G96.q0 {merge:=mg [(1,18),(5,2),(7,2)]} func200 [pf Dy] [rB] (c1 rV)
def asj:=asi.q0 {merge:=mg [(1,2)]} func201 [pI] [rB] (c1 sc)
def G97:=asj.q0 {merge:=mg [(1,2)]} func97 [pf dm] [rB] (c1 gy)
def G33:=G97.q0 {merge:=mg [(1,42),(5,2)]} func33 [pf eY] [rB] (c1 xT)
abbrev aak:SD:=⟨B::.ptr 1 0::DB::B::B::B::cz (je .str)::DI::DI::bs 11 [],Z::(pW (je .str))::zs 18 [],.none⟩
def ark:=G33.q1 {mask:=mk [(2,[1,2,6,7,8])]} func106 [pf (.sl .str)] [rB] (c1 uj) aak (λX K=>DN (λy0=>ke 0 K aak ((z3 (u y0) X.1),X.2)) (λy0 y1=>kr K aak ((w y0 (z2 (u y1)) X.1),X.2)) X.1.1 X.1.2.1 (q2 X) X.2.1.1) q3 (λX x=>((z3 (u x) X.1),X.2))
abbrev aay:SD:=⟨B::DI::DI::B::B::B::DI::B::B::cz (je bT)::DI::DI::bs 16 [],zs 28 [],.none⟩
def asr:=ark.q1 {mask:=mk [(2,[1,2,6,9,10,11])],merge:=mg [(4,25)]} func208 [pd (.sl bT),pI,pI] [rI] (c3 ox) aay (λX K=>nP (λy0=>ke 0 K aay ((z5 (u y0) X.1),X.2)) (λy0 y1=>kr K aay ((z2 (w y0 (z2 (u y1))) X.1),X.2)) X.1.1 X.1.2.1 (q2 X) (q3 X) (q4 X)) q5 (λX x=>((z5 (u x) X.1),X.2))
abbrev aal:SD:=⟨cz (je bT)::B::DB::B::B::cz (je bT)::DI::DI::bs 34 [],zs 42 [],.none⟩
def arl:=asr.q1 {mask:=mk [(2,[0,2,5,6,7])],merge:=mg [(4,37)]} func107 [pd (.sl bT)] [rB] (c1 qe) aal (λX K=>pz (λy0=>ke 0 K aal ((z4 (u y0) X.1),X.2)) (λy0 y1=>kr K aal ((z1 (w y0 (z2 (u y1))) X.1),X.2)) X.1.1 X.1.2.1 (q2 X) (q3 X)) q4 (λX x=>((z4 (u x) X.1),X.2))
abbrev aao:SD:=⟨B::.ptr 1 0::DB::cz (cP 36864 .bool)::bs 22 (cz (je (.int .i64))::DI::DI::bs 19 []),Z::(some Y14)::zs 46 [],.none⟩
def arp:=arl.q1 {mask:=mk [(5,[1,2,3,26,27,28])],merge:=mg [(1,21),(7,43)]} func110 [pf jP] [rB] (c1 jj) aao (λX K=>wM (λy0 y1=>ke 0 K aao ((z1 (w y0 (z2 (u y1))) X.1),X.2)) (λy0 y1 y2=>kr K aao ((w y0 (w y1 (z2 (u y2))) X.1),X.2)) X.1.1 (q2 X) (q3 X) X.2.1.1) (λX=>(X.1.2.1,q4 X)) (λX x=>((z1 (w x.1 (z2 (u x.2))) X.1),X.2))
def G87:=arp.q0 {} func87 [pd (.sl (.int .i64))] [(false,(.sl (.own none) (.int .i64)))] (c1 gq)
def ar9:=G87.q0 {mv:=[7]} func189 [pf jP] [(true,Y10)] (c1 iW)
def ass:=ar9.q0 {merge:=mg [(3,21)],mv:=[10,24]} func209 [pf jP,pd (.sl (.int .i64))] [(true,Y10),rB] (c2 gC)
abbrev aam:SD:=⟨B::.ptr 1 0::DB::DI::cz (cP 49152 (.int .i64))::bs 25 (cz (je kU)::DI::DI::bs 35 []),Z::(some Y25)::zs 66 [],.none⟩
def arn:=ass.q1 {mask:=mk [(6,[1,2,3,4,30,31,32])],merge:=mg [(1,24),(8,50)],mv:=[55]} func108 [pf mD] [rB] (c1 Bs) aam (λX K=>wR (λy0 y1 y2=>ke 0 K aam ((z1 (w y0 (w y1 (z2 (u y2)))) X.1),X.2)) (λy0 y1 y2 y3=>kr K aam ((w y0 (w y1 (w y2 (z2 (u y3)))) X.1),X.2)) X.1.1 (q3 X) (q4 X) X.2.1.1) (λX=>(X.1.2.1,q2 X,q5 X)) (λX x=>((z1 (w x.1 (w x.2.1 (z2 (u x.2.2)))) X.1),X.2))
def ast:=arn.q0 {merge:=mg [(1,2)]} func210 [pf gW] [rB] (c1 DQ)
def arq:=ast.q0 {merge:=mg [(1,24),(3,2)]} func111 [pf gW] [rB] (c1 nn)
def att:=arq.q0 {merge:=mg [(1,33),(3,54),(5,2)]} func298 [pf nw] [rB] (c1 CP)
abbrev aaz:SD:=⟨cz (je nw)::B::DB::B::B::cz (je nw)::DI::DI::bs 10 [],zs 18 [],.none⟩
def asu:=att.q1 {mask:=mk [(2,[0,2,5,6,7])]} func211 [pd (.sl nw)] [rB] (c1 AI) aaz (λX K=>Fb (λy0=>ke 0 K aaz ((z4 (u y0) X.1),X.2)) (λy0 y1=>kr K aaz ((z1 (w y0 (z2 (u y1))) X.1),X.2)) X.1.1 X.1.2.1 (q2 X) (q3 X)) q4 (λX x=>((z4 (u x) X.1),X.2))
abbrev aaE:SD:=⟨B::B::B::.ptr 3 0::DI::B::B::B::cz (je jQ)::DI::DI::bs 15 [],Z::Z::Z::(pW (cL EY Y1))::zs 22 [],.none⟩
def atu:=asu.q1 {mask:=mk [(2,[3,4,8,9,10])],merge:=mg [(4,23)]} func299 [pf (.sl jQ),pf tY] [rI] (c2 zH) aaE (λX K=>xa (λy0=>ke 0 K aaE ((z3 (u y0) X.1),X.2)) (λy0 y1=>kr K aaE ((w y0 (z2 (u y1)) X.1),X.2)) X.1.1 X.1.2.1 (q2 X) X.2.1.1) q3 (λX x=>((z3 (u x) X.1),X.2))
abbrev ahS:SD:=⟨B::B::B::DI::bs 12 (cz (cP 196608 (.int .i64))::DI::DI::bs 10 []),zs 29 [],.none⟩
def auh:=atu.q1 {mask:=mk [(3,[3,16,17,18])]} func374 [pf tY] [rI] (c1 yC) ahS (λX K=>oq (λy0 y1=>ke 0 K ahS ((w y0 (z2 (u y1)) X.1),X.2)) X.1.2.1 (q2 X)) (λX=>(X.1.1,q3 X)) (λX x=>((w x.1 (z2 (u x.2)) X.1),X.2))
abbrev ahK:SD:=⟨B::.ptr 1 0::B::cz (cP 36864 (.int .i64))::DI::bs 14 [],Z::(pW (cL EY Y1))::zs 17 [],.none⟩
def anz:=auh.q1 {mask:=mk [(3,[1,3,4])],mv:=[10,18]} func300 [pf tY] [(false,(.sl (.own none) (.int .i64)))] (c1 Es) ahK (λX K=>uw (λy0 y1=>ke 0 K ahK ((w y0 (u y1) X.1),X.2)) X.2.1.1) (λX=>(X.1.1,X.1.2.1)) (λX x=>((w x.1 (u x.2) X.1),X.2))
def aoX:An:={mask:=mk [(4,[1,2,12,13,14]),(14,[1,2,3,12,13,14,49,50,51])],merge:=mg [(6,28),(9,40)]}
abbrev Jf:SD:=⟨B::.ptr 1 0::DB::DI::bs 8 (cz (je jQ)::DI::DI::bs 34 (cz (cP 602112 (.int .i64))::DI::DI::bs 15 [])),Z::(pW (je jQ))::zs 65 [],.none⟩
def aec (X:SD.D Jf)(K:oZ R):=lr (λy0=>ke 2 K Jf ((z7 (u y0) X.1),X.2)) (λy0 y1=>kr K Jf ((w y0 (z6 (u y1)) X.1),X.2)) X.1.1 X.1.2.1 (q2 X) (q3 X) (q4 X) (q5 X) (q6 X) X.2.1.1
abbrev Ok:SD:=⟨B::.ptr 1 0::DB::bs 9 (cz (je jQ)::DI::DI::bs 52 []),Z::(pW (je jQ))::zs 65 [],.none⟩
def akk (X:SD.D Ok)(K:oZ R):=uT (λy0=>ke 0 K Ok ((z3 (u y0) X.1),X.2)) (λy0 y1=>kr K Ok ((w y0 (z2 (u y1)) X.1),X.2)) X.1.1 X.1.2.1 (q2 X) X.2.1.1
def apM:jZ:=(jZ.nil.add 14 (tW Jf aec q7)).add 4 (tW Ok akk q3)
theorem alF:tE E anz.g aoX apM (bZ f212 1):=lk Jf aec q7 λX x=>((z7 (u x) X.1),X.2)
theorem aow:tE E anz.g aoX apM (bZ f212 0):=lk Ok akk q3 λX x=>((z3 (u x) X.1),X.2)
def asv:=anz.qk aoX func212 [pf (.sl jQ)] [rB] (c1 sS) (cF aow (cF alF nF))
def atv:=asv.q0 {merge:=mg [(1,2)]} func301 [pI] [rB] (c1 F6)
abbrev aaA:SD:=⟨B::DI::B::B::DB::bs 19 (cz (je (.int .i64))::DI::DI::bs 9 []),zs 36 [],.none⟩
def ans:=atv.q1 {mask:=mk [(4,[1,4,24,25,26])],merge:=mg [(1,22)]} func213 [pf GH,pI] [rB] (c2 yI) aaA (λX K=>DP (λy0=>ke 0 K aaA ((z4 (u y0) X.1),X.2)) (λy0 y1=>kr K aaA ((z1 (w y0 (z2 (u y1))) X.1),X.2)) X.1.1 X.1.2.1 (q2 X) (q3 X)) q4 (λX x=>((z4 (u x) X.1),X.2))
def aoR:An:={mask:=mk [(4,[1,2,4,27,28,29]),(10,[1,4,45,46,47])],merge:=mg [(1,25),(6,41),(12,59)]}
abbrev Og:SD:=⟨B::DI::.ptr 2 0::B::DB::bs 22 (cz (je nw)::DI::DI::bs 31 []),Z::Z::(some Y16)::zs 58 [],.none⟩
def aj9 (X:SD.D Og)(K:oZ R):=pF (λy0=>ke 0 K Og ((z4 (u y0) X.1),X.2)) (λy0 y1=>kr K Og ((z1 (w y0 (z2 (u y1))) X.1),X.2)) X.1.1 X.1.2.1 (q2 X) (q3 X) X.2.1.1
abbrev Jd:SD:=⟨B::DI::B::B::DB::bs 40 (cz (je jQ)::DI::DI::bs 13 []),zs 61 [],.none⟩
def ad8 (X:SD.D Jd)(K:oZ R):=nL (λy0=>ke 2 K Jd ((z4 (u y0) X.1),X.2)) (λy0 y1=>kr K Jd ((z1 (w y0 (z2 (u y1))) X.1),X.2)) X.1.1 X.1.2.1 (q2 X) (q3 X)
def apF:jZ:=(jZ.nil.add 4 (tW Og aj9 q4)).add 10 (tW Jd ad8 q4)
theorem aol:tE E ans.g aoR apF (bZ f112 0):=lk Og aj9 q4 λX x=>((z4 (u x) X.1),X.2)
theorem alB:tE E ans.g aoR apF (bZ f112 1):=lk Jd ad8 q4 λX x=>((z4 (u x) X.1),X.2)
def anm:=ans.qk aoR func112 [pf nY,pI] [rB] (c2 qh) (cF aol (cF alB nF))
def n36:An:={mask:=mk [(5,[1,2,3,61,62]),(12,[1,2,3,103,104,105])],merge:=mg [(2,58),(7,89)]}
abbrev Wg:SD:=⟨B::.ptr 1 0::DB::DI::bs 57 (DI::DI::bs 54 []),Z::(some Y0)::zs 115 [],.none⟩
def am3 (X:SD.D Wg)(K:oZ R):=wH (λy0=>ke 0 K Wg ((z3 (u y0) X.1),X.2)) (λy0 y1=>kr K Wg ((w y0 (z2 (u y1)) X.1),X.2)) X.1.1 X.1.2.1 (q2 X) X.2.1.1
abbrev On:SD:=⟨B::.ptr 1 0::DB::DI::bs 99 (cz (cP 1265664 (.int .i64))::DI::DI::bs 11 []),Z::(some Y0)::zs 115 [],.none⟩
def akv (X:SD.D On)(K:oZ R):=uO (λy0=>ke 2 K On ((z4 (u y0) X.1),X.2)) (λy0 y1=>kr K On ((w y0 (z3 (u y1)) X.1),X.2)) X.1.1 X.1.2.1 (q2 X) (q3 X) X.2.1.1
def L36:jZ:=(jZ.nil.add 5 (tW Wg am3 q3)).add 12 (tW On akv q4)
theorem aqK:tE E anm.g n36 L36 (bZ f36 0):=lk Wg am3 q3 λX x=>((z3 (u x) X.1),X.2)
theorem aoH:tE E anm.g n36 L36 (bZ f36 1):=lk On akv q4 λX x=>((z4 (u x) X.1),X.2)
def G36:=anm.qk n36 func36 [pf dk] [rB] (c1 ji) (cF aqK (cF aoH nF))
abbrev aap:SD:=⟨cz (je (.int .i64))::cz (je (.int .i64))::B::B::DB::bs 7 (DI::DI::bs 12 []),zs 26 [],.none⟩
def ars:=G36.q1 {mask:=mk [(4,[0,1,4,12,13])]} func113 [pd (.sl (.int .i64)),pd (.sl (.int .i64))] [rB] (c2 Pu.td) aap (λX K=>Pu.nS (λy0=>ke 0 K aap ((z4 (u y0) X.1),X.2)) (λy0 y1=>kr K aap ((z2 (w y0 (z1 (u y1))) X.1),X.2)) X.1.1 X.1.2.1 (q2 X) (q3 X)) q4 (λX x=>((z4 (u x) X.1),X.2))
def G37:=ars.q0 {merge:=mg [(1,4)]} func37 [pf pk,pf pk] [rB] (c2 uW)
def ann:=G37.q0 {merge:=mg [(1,2)]} func114 [pf iQ] [rB] (c1 uf)
def n38:An:={mask:=mk [(4,[0,1,4,12,13,14]),(9,[0,1,4,6,12,13,14,52,53,54])],merge:=mg [(6,49),(11,69)]}
abbrev Wi:SD:=⟨cz (je bW)::cz (je lD)::B::B::DB::B::.ptr 6 0::bs 5 (cz (je bW)::DI::DI::bs 37 (cz (je bW)::DI::DI::bs 17 [])),zs 6 ((pW (ka (ka (cL Y8 (cL .bool (ka EY))))))::zs 65 []),.none⟩
def am5 (X:SD.D Wi)(K:oZ R):=nI (λy0=>ke 2 K Wi ((z8 (u y0) X.1),X.2)) (λy0 y1=>kr K Wi ((z2 (w y0 (z5 (u y1))) X.1),X.2)) X.1.1 X.1.2.1 (q2 X) (q3 X) (q4 X) (q5 X) (q6 X) (q7 X) X.2.1.1
abbrev Wh:SD:=⟨cz (je bW)::cz (je lD)::B::B::DB::bs 7 (cz (je bW)::DI::DI::bs 57 []),zs 72 [],.none⟩
def am4 (X:SD.D Wh)(K:oZ R):=nH (λy0=>ke 0 K Wh ((z5 (u y0) X.1),X.2)) (λy0 y1=>kr K Wh ((z2 (w y0 (z2 (u y1))) X.1),X.2)) X.1.1 X.1.2.1 (q2 X) (q3 X) (q4 X)
def L38:jZ:=(jZ.nil.add 9 (tW Wi am5 q8)).add 4 (tW Wh am4 q5)
theorem aqM:tE E ann.g n38 L38 (bZ f38 1):=lk Wi am5 q8 λX x=>((z8 (u x) X.1),X.2)
theorem aqL:tE E ann.g n38 L38 (bZ f38 0):=lk Wh am4 q5 λX x=>((z5 (u x) X.1),X.2)
def G38:=ann.qk n38 func38 [pd (.sl bW),pd (.sl lD)] [rB] (c2 oo) (cF aqL (cF aqM nF))
abbrev ahW:SD:=⟨B::B::DB::B::B::cz (je bW)::DI::DI::bs 16 [],zs 24 [],.none⟩
def G39:=G38.q1 {mask:=mk [(2,[2,5,6,7])],merge:=mg [(4,22)]} func39 [pd (.sl bW)] [rB] (c1 wX) ahW (λX K=>rr (λy0=>ke 0 K ahW ((z3 (u y0) X.1),X.2)) (λy0 y1=>kr K ahW ((w y0 (z2 (u y1)) X.1),X.2)) X.1.1 X.1.2.1 (q2 X)) q3 (λX x=>((z3 (u x) X.1),X.2))
def art:=G39.q0 {merge:=mg [(1,2)]} func115 [pf (.sl .str)] [rB] (c1 wD)
def aso:=art.q0 {merge:=mg [(1,13)]} func205 [pd .str,pI] [rI] (c2 im)
def anA:=aso.q0 {} func302 [pI] [rS] (c1 fZ)
def ao1:An:={mask:=mk [(3,[0,3,4]),(7,[0,3,4,5])]}
abbrev T4:SD:=⟨cz .str::B::B::cz (.int .u32)::DI::DI::bs 28 [],zs 34 [],.none⟩
def akr (X:SD.D T4)(K:oZ R):=qF (λy0 y1=>ke 2 K T4 ((z1 (w y0 (z1 (u y1))) X.1),X.2)) X.1.1 (q2 X)
abbrev T3:SD:=⟨cz .str::B::B::cz (.int .u32)::DI::bs 29 [],zs 34 [],.none⟩
def akq (X:SD.D T3)(K:oZ R):=ug (λy0 y1=>ke 0 K T3 ((z1 (w y0 (u y1)) X.1),X.2)) X.1.1
def apQ:jZ:=(jZ.nil.add 7 (tW T4 akr (λX=>(X.1.2.1,q3 X)))).add 3 (tW T3 akq (λX=>(X.1.2.1,q2 X)))
theorem aoD:tE E anA.g ao1 apQ (bZ f303 1):=lk T4 akr (λX=>(X.1.2.1,q3 X)) λX x=>((z1 (w x.1 (z1 (u x.2))) X.1),X.2)
theorem aoC:tE E anA.g ao1 apQ (bZ f303 0):=lk T3 akq (λX=>(X.1.2.1,q2 X)) λX x=>((z1 (w x.1 (u x.2)) X.1),X.2)
def atw:=anA.qk ao1 func303 [pd .str] [rI] (c1 BU) (cF aoC (cF aoD nF))
def asw:=atw.q0 {merge:=mg [(1,15)]} func214 [pI,pd .str] [rS,rB] (c2 wJ)
def aru:=asw.q0 {merge:=mg [(2,19),(5,38)]} func116 [pd .str] [rI] (c1 iZ)
def G40:=aru.q0 {merge:=mg [(4,18)]} func40 [pf (.sl .str)] [rI] (c1 qE)
def G41:=G40.q0 {merge:=mg [(1,2)]} func41 [pf ju] [rB] (c1 wC)
abbrev ahA:SD:=⟨B::.ptr 1 0::DB::cz (.sl .loc lD)::bs 30 (cz (je dk)::DI::DI::bs 40 []),Z::(pW (cL (je dk) (cL (je bW) (cL (je eQ) (cL (je .str) (cL Y1 (cL (je (.int .i64)) (je .str))))))))::zs 75 [],.none⟩
def G13:=G41.q1 {mask:=mk [(5,[1,2,3,34,35,36])],merge:=mg [(2,32),(7,55),(10,2)]} func13 [pf xG] [rB] (c1 mP) ahA (λX K=>wB (λy0=>ke 0 K ahA ((z4 (u y0) X.1),X.2)) (λy0 y1=>kr K ahA ((w y0 (z3 (u y1)) X.1),X.2)) X.1.1 X.1.2.1 (q2 X) (q3 X) X.2.1.1) q4 (λX x=>((z4 (u x) X.1),X.2))
def G67:=G13.q0 {} func67 [pd (.sl bW)] [(false,(.sl (.own none) bW))] (c1 jw)
def arz:=G67.q0 {mv:=[7]} func124 [pf pk] [(true,Y17)] (c1 fy)
def ar1:=arz.q0 {mv:=[7]} func177 [pf eQ] [(true,(.pair Y17 Y8))] (c1 lu)
abbrev amC:SD:=⟨B::B::B::cz (cP 36864 eQ)::B::B::B::cz (je eQ)::DI::DI::bs 10 [],zs 20 [],.none⟩
def G68:=ar1.q1 {mask:=mk [(3,[3,7,8,9])],mv:=[13,19]} func68 [pd (.sl eQ)] [(false,(.sl (.own none) eQ))] (c1 rX) amC (λX K=>rp (λy0 y1=>ke 0 K amC ((w y0 (z2 (u y1)) X.1),X.2)) X.1.2.1 (q2 X)) (λX=>(X.1.1,q3 X)) (λX x=>((w x.1 (z2 (u x.2)) X.1),X.2))
def G69:=G68.q0 {} func69 [pd (.sl .str)] [(false,(.sl (.own none) .str))] (c1 gZ)
def G86:=G69.q0 {} func86 [pf (.sl .str)] [(true,(.sl (.own none) .str))] (c1 lO)
def ar6:=G86.q0 {} func186 [pf (.sl .str)] [(true,(.sl (.own none) .str))] (c1 dB)
def ar7:=ar6.q0 {} func187 [pd (.sl bT)] [(false,(.sl (.own none) bT))] (c1 wU)
abbrev ahJ:SD:=⟨B::B::B::cz (cP 36864 kU)::B::B::B::cz (je kU)::DI::DI::bs 16 [],zs 26 [],.none⟩
def ati:=ar7.q1 {mask:=mk [(3,[3,7,8,9])],mv:=[13,25]} func286 [pd (.sl kU)] [(false,(.sl (.own none) kU))] (c1 ur) ahJ (λX K=>ta (λy0 y1=>ke 0 K ahJ ((w y0 (z2 (u y1)) X.1),X.2)) X.1.2.1 (q2 X)) (λX=>(X.1.1,q3 X)) (λX x=>((w x.1 (z2 (u x.2)) X.1),X.2))
def ar8:=ati.q0 {sb:=mg [(2,2)]} func188 [pf mD] [(true,Y23)] (c1 rY)
def atj:=ar8.q0 {} func287 [pf (.sl jQ)] [(true,(.sl (.own none) jQ))] (c1 wV)
def atk:=atj.q0 {sb:=mg [(2,2)]} func288 [pf GH] [(true,(.pair .str (.sl (.own none) (.int .i64))))] (c1 uV)
def asa:=atk.q0 {sb:=mg [(2,2)]} func190 [pf nY] [(true,Y27)] (c1 rq)
def asb:=asa.q0 {} func191 [pd (.sl fL)] [(false,(.sl (.own none) fL))] (c1 lv)
abbrev amE:SD:=⟨B::.ptr 1 0::.ptr 2 0::.ptr 3 0::bs 23 (cz (je jP)::DI::DI::bs 46 []),Z::(some Y0)::(some Y4)::(pW (cL (cP 36865 .str) (cL (cP 36868 bT) (cL (cL Y1 (cL (ka (ka (ka (cP 36892 (.int .i64))))) (cL (cP 36895 kU) EY))) (cL (cP 36901 eY) (cL (cP 36904 jP) (cL (je gW) (cL (je .bool) (cL Y24 (cL Y16 (cL (je fL) (cL .bool (cL (je .str) (cL (je (.int .i64)) (cL (je (.int .i64)) (cL EY Y1))))))))))))))))::zs 72 [],.none⟩
def G88:=asb.q1 {mask:=mk [(8,[1,2,3,27,28,29])],mv:=[34,75],mb:=mg [(34,3)],sb:=mg [(39,3)]} func88 [pf dk] [(true,Y3)] (c1 gU) amE (λX K=>sZ (λy0 y1=>ke 0 K amE ((z2 (u y0) X.1),(z2 (u y1) X.2.1),X.2.2)) X.1.1 X.1.2.1 X.2.1.1 X.2.1.2.1) (λX=>(q2 X,X.2.1.2.2.1)) (λX x=>((z2 (u x.1) X.1),(z2 (u x.2) X.2.1),X.2.2))
abbrev amu:SD:=⟨B::B::.ptr 2 0::.ptr 3 0::bs 21 (cz (je dk)::DI::DI::bs 12 []),Z::Z::(some Y9)::(pW (cL (cP 36865 dk) (cL (cP 36868 bW) (cL (cP 36871 eQ) (cL (cP 36874 .str) (cL Y1 (cL (cP 36889 (.int .i64)) (cP 36892 .str))))))))::zs 36 [],.none⟩
def G28:=G88.q1 {mask:=mk [(3,[2,3,25,26,27])],mv:=[32,39],mb:=mg [(32,3)],sb:=mg [(3,3),(37,3)]} func28 [pf xG] [(true,Y7)] (c1 kW) amu (λX K=>sY (λy0 y1=>ke 0 K amu ((z2 (u y0) X.1),(z1 (u y1) X.2.1),X.2.2)) X.1.1 X.1.2.1 X.2.1.1) (λX=>(q2 X,X.2.1.2.1)) (λX x=>((z2 (u x.1) X.1),(z1 (u x.2) X.2.1),X.2.2))
def asf:=G28.q0 {merge:=mg [(1,9)]} func197 [pf gW] [(true,Y15)] (c1 pJ)
def G94:=asf.q0 {} func94 [pf gW] [(true,Y15)] (c1 uU)
abbrev amx:SD:=⟨B::B::.ptr 2 0::.ptr 3 0::bs 9 (DI::DI::bs 14 []),Z::Z::(some Y4)::(some Y5)::zs 25 [],.none⟩
def G32:=G94.q1 {mask:=mk [(5,[2,3,13,14])],mv:=[10,28]} func32 [pf dk] [(true,Y3)] (c1 ui) amx (λX K=>sJ (λy0 y1=>ke 0 K amx ((z1 (u y0) X.1),(z1 (u y1) X.2.1),X.2.2)) X.1.1 X.2.1.1) (λX=>(X.1.2.1,X.2.1.2.1)) (λX x=>((z1 (u x.1) X.1),(z1 (u x.2) X.2.1),X.2.2))
def arx:=G32.q0 {merge:=mg [(1,12),(3,31),(5,2)]} func122 [pf akU] [rB] (c1 BT)
def G45:=arx.q0 {merge:=mg [(1,4)]} func45 [pf hZ,pI] [rB] (c2 wT)
def auk:=G45.q0 {merge:=mg [(2,17)],mv:=[18,29]} func377 [pf pk,pI] [(true,Y17),rB] (c2 AD)
abbrev ahU:SD:=⟨B::DI::B::B::.ptr 4 0::B::.ptr 6 0::bs 18 (cz (je (.int .i64))::DI::DI::bs 14 []),zs 4 ((pW (ka (cL .bool (cP 49159 (.int .i64)))))::Z::(pW (ka (cL .bool (cP 73735 (.int .i64)))))::zs 35 []),.none⟩
def aul:=auk.q1 {mask:=mk [(6,[1,4,6,25,26,27])],merge:=mg [(2,20)],mv:=[21,35,41]} func378 [pf pk,pI] [(true,Y17),rB] (c2 yx) ahU (λX K=>sE (λy0 y1=>ke 0 K ahU ((z3 (u y0) X.1),(z1 (u y1) X.2.1),X.2.2)) X.1.1 X.1.2.1 (q2 X) X.2.1.1) (λX=>(q3 X,X.2.1.2.1)) (λX x=>((z3 (u x.1) X.1),(z1 (u x.2) X.2.1),X.2.2))
def atD:=aul.q0 {mv:=[21,30,39,46],mb:=mg [(39,6)],sb:=mg [(4,4)]} func310 [pf pk,pf iQ] [(true,Y17),rI] (c2 AJ)
def asD:=atD.q0 {mv:=[13,20,30,31,47],mb:=mg [(20,6),(47,6)],sb:=mg [(4,4)],fm:=[49]} func221 [pf eQ,pf iQ] [(true,(.pair Y17 Y8)),rI] (c2 px)
def ary:=asD.q0 {mv:=[14,23,32,60],es:=mg [(25,8)]} func123 [pd (.sl eQ),pI,pf iQ] [(false,(.sl (.own none) eQ)),rI] (c3 rm)
def G46:=ary.q0 {merge:=mg [(2,24)],mv:=[25,26,34,47]} func46 [pf xG,pI,pf iQ] [(true,Y7),rI] (c3 pt)
def ant:=G46.q0 {merge:=mg [(5,2),(7,2)]} func222 [pf rG] [rB] (c1 sH)
def aoS:An:={mask:=mk [(7,[2,4,6,7,8,9]),(11,[2,4,6,7,8,10])],merge:=mg [(2,24)],mv:=[25,74]}
abbrev TO:SD:=⟨B::B::DI::B::.ptr 4 0::B::.ptr 6 0::.ptr 7 0::cz (cP 98304 (.int .u8))::DI::bs 65 [],zs 4 ((some Y22)::Z::(pW (cP 73729 .str))::(pW (cP 86017 .str))::zs 67 []),.none⟩
def aka (X:SD.D TO)(K:oZ R):=tO (λy0 y1=>ke 0 K TO ((z1 (w y0 (u y1)) X.1),X.2)) X.1.1 X.2.1.1 X.2.1.2.1 X.2.1.2.2.1
abbrev Nx:SD:=⟨B::B::DI::B::.ptr 4 0::B::.ptr 6 0::.ptr 7 0::cz (cP 98304 (.int .u8))::B::DI::bs 64 [],zs 4 ((some Y22)::Z::(pW (cP 73729 .str))::(pW (cP 86017 .str))::zs 67 []),.none⟩
def ad9 (X:SD.D Nx)(K:oZ R):=rR (λy0 y1=>ke 2 K Nx ((z1 (w y0 (u y1)) X.1),X.2)) X.1.1 X.2.1.1 X.2.1.2.1 X.2.1.2.2.1
def apG:jZ:=(jZ.nil.add 7 (tW TO aka (λX=>(X.1.2.1,q2 X)))).add 11 (tW Nx ad9 (λX=>(X.1.2.1,q2 X)))
theorem aom:tE E ant.g aoS apG (bZ f125 0):=lk TO aka (λX=>(X.1.2.1,q2 X)) λX x=>((z1 (w x.1 (u x.2)) X.1),X.2)
theorem alC:tE E ant.g aoS apG (bZ f125 1):=lk Nx ad9 (λX=>(X.1.2.1,q2 X)) λX x=>((z1 (w x.1 (u x.2)) X.1),X.2)
def arA:=ant.qk aoS func125 [pf (.sl .str),pf rG,pI] [(true,(.sl (.own none) .str))] (c3 lp) (cF aom (cF alC nF))
abbrev amy:SD:=⟨B::cz (je rG)::DI::DI::bs 4 (.ptr 8 0::.ptr 9 0::DI::bs 38 []),zs 8 ((pW (cP 98305 .str))::(pW (cP 110593 .str))::zs 39 []),.none⟩
def G47:=arA.q1 {mask:=mk [(5,[1,2,3,8,9,10])],merge:=mg [(2,18),(5,28)],mv:=[19,48],sb:=mg [(9,9)]} func47 [pf (.sl .str),pd (.sl rG),pI,pI] [(true,(.sl (.own none) .str))] (c4 wO) amy (λX K=>wP (λy0 y1=>ke 0 K amy ((z3 (u y0) X.1),(z1 (u y1) X.2.1),X.2.2)) X.1.1 X.1.2.1 (q2 X) X.2.1.1) (λX=>(q3 X,X.2.1.2.1)) (λX x=>((z3 (u x.1) X.1),(z1 (u x.2) X.2.1),X.2.2))
abbrev amz:SD:=⟨B::cz .str::B::B::B::DI::cz (cP 73728 rG)::DI::bs 49 [],zs 57 [],.none⟩
def G48:=G47.q1 {mask:=mk [(8,[1,5,6,7])],merge:=mg [(1,20)],mv:=[33,47]} func48 [pf (.sl .str),pd .str] [(false,(.sl (.own none) rG))] (c2 sV) amz (λX K=>kB (λy0 y1=>ke 0 K amz ((z2 (w y0 (u y1)) X.1),X.2)) X.1.1 X.1.2.1) (λX=>(q2 X,q3 X)) (λX x=>((z2 (w x.1 (u x.2)) X.1),X.2))
def atr:=G48.q0 {merge:=mg [(4,29)]} func296 [pd (.sl bT),pI,pI,pd .bool] [rI] (c4 Er)
def ats:=atr.q0 {merge:=mg [(2,6)]} func297 [pf (.sl .str),pI,pI] [rB] (c3 vR)
abbrev aaw:SD:=⟨cz (je bT)::B::DI::DI::DI::DB::B::.ptr 7 0::bs 4 (cz (cP 147456 jn)::DB::cz (cP 172032 jn)::bs 60 []),zs 7 ((pW (je .str))::zs 67 []),.none⟩
def asl:=ats.q1 {mask:=mk [(8,[0,2,3,4,5,7,12,13,14])],merge:=mg [(1,29),(11,55),(16,73)],mv:=[56,74]} func202 [pd (.sl bT),pf (.sl .str),pI,pI,pI,pd .bool] [(false,(.sl (.own none) jn)),rB] (c6 zG) aaw (λX K=>rZ (λy0 y1 y2=>ke 0 K aaw ((z2 (w y0 (w y1 (z3 (u y2)))) X.1),X.2)) (λy0 y1 y2 y3 y4=>kr K aaw ((z2 (w y0 (w y1 (z1 (w y2 (w y3 (u y4)))))) X.1),X.2)) X.1.1 X.1.2.1 (q4 X) (q5 X) (q6 X) X.2.1.1) (λX=>(q2 X,q3 X,q7 X)) (λX x=>((z2 (w x.1 (w x.2.1 (z3 (u x.2.2)))) X.1),X.2))
abbrev ahC:SD:=⟨B::DI::DI::.ptr 3 0::bs 4 (cz (cP 98304 (.int .u8))::bs 41 []),Z::Z::Z::(pW (je .str))::zs 46 [],.none⟩
def asm:=asl.q1 {mask:=mk [(4,[1,2,3,8])],mv:=[41]} func203 [pf (.sl .str),pI,pI] [rS,rB] (c3 qg) ahC (λX K=>lK (λy0 y1=>ke 0 K ahC ((w y0 (z1 (u y1)) X.1),X.2)) X.1.2.1 X.2.1.1) (λX=>(X.1.1,q2 X)) (λX x=>((w x.1 (z1 (u x.2)) X.1),X.2))
abbrev amF:SD:=⟨bs 6 (.ptr 6 0::bs 7 (cz .str::bs 15 (cz (.sl .loc jn)::DI::DI::bs 17 []))),zs 6 ((pW (je .str))::zs 43 []),.none⟩
def G98:=asm.q1 {mask:=mk [(6,[6,14,30,31,32])]} func98 [pd (.sl bT),pf (.sl .str),pI,pI,pI] [rS,rB] (c5 pw) amF (λX K=>uN (λy0 y1=>ke 0 K amF ((w y0 (z2 (u y1)) X.1),X.2)) X.1.2.1 (q2 X) X.2.1.1) (λX=>(X.1.1,q3 X)) (λX x=>((w x.1 (z2 (u x.2)) X.1),X.2))
def G99:=G98.q0 {} func99 [pf iQ] [rI] (c1 oz)
def asn:=G99.q0 {merge:=mg [(1,13)]} func204 [pd .str,pI] [rI] (c2 fN)
def are:=asn.q0 {} func100 [pd .str] [(true,(.pair (.int .i64) Y1)),rI,rB] (c1 lV)
def arf:=are.q0 {} func101 [pf iQ] [rI] (c1 wY)
def G34:=arf.q0 {merge:=mg [(7,46)],sb:=mg [(8,8),(9,9)]} func34 [pd (.sl bT),pf (.sl .str),pI,pf iQ] [(true,(.pair (.int .i64) Y1)),(true,Y8),rB] (c4 nK)
def atG:=G34.q0 {merge:=mg [(1,2)]} func312 [pf pe] [rB] (c1 zB)
def atH:=atG.q0 {} func313 [pI] [rS] (c1 cw)
def asG:=atH.q0 {} func225 [pf pe] [rS] (c1 mA)
def asH:=asG.q0 {merge:=mg [(1,15)]} func226 [pf jP,pI] [rI] (c2 gx)
def atl:=asH.q0 {merge:=mg [(1,11)]} func289 [pf ju,pI] [rI] (c2 ov)
abbrev ahL:SD:=⟨B::DI::cz .str::B::B::B::.ptr 6 0::B::.ptr 8 0::bs 41 [],zs 6 ((pW (cP 73729 .str))::Z::(pW (cP 98305 .str))::zs 41 []),.none⟩
def atE:=atl.q1 {mask:=mk [(4,[1,2,6,8])],nest:=[33],mv:=[19,49]} func311 [pf (.sl .str),pI,pd .str] [(true,(.sl (.own none) .str)),rB] (c3 sW) ahL (λX K=>nO (λy0 y1 y2=>ke 0 K ahL ((w y0 (u y1) X.1),(z1 (u y2) X.2.1),X.2.2)) X.2.1.1) (λX=>(X.1.1,X.1.2.1,X.2.1.2.1)) (λX x=>((w x.1 (u x.2.1) X.1),(z1 (u x.2.2) X.2.1),X.2.2))
abbrev ahE:SD:=⟨bs 4 (cz .str::bs 7 (.ptr 12 0::B::.ptr 14 0::bs 20 (cz (.sl .loc jn)::DI::DI::bs 20 []))),zs 12 ((pW (cP 147457 .str))::Z::(pW (cP 172033 .str))::zs 43 []),.none⟩
def asF:=atE.q1 {mask:=mk [(6,[4,12,14,35,36,37])],mv:=[34,41,50,57],sb:=mg [(14,14)]} func224 [pd (.sl bT),pf (.sl .str),pI,pI,pd .str,pd .bool] [(true,(.sl (.own none) .str)),rB] (c6 F5) ahE (λX K=>zF (λy0 y1 y2=>ke 0 K ahE ((w y0 (z2 (u y1)) X.1),(z1 (u y2) X.2.1),X.2.2)) X.1.2.1 (q2 X) X.2.1.1) (λX=>(X.1.1,q3 X,X.2.1.2.1)) (λX x=>((w x.1 (z2 (u x.2.1)) X.1),(z1 (u x.2.2) X.2.1),X.2.2))
def atn:=asF.q0 {} func291 [pd (.sl bT),pf (.sl .str),pI,pI,pd .str] [(true,(.sl (.own none) .str)),rB] (c5 qG)
def atI:=atn.q0 {} func314 [pf ju] [rI] (c1 uo)
def asI:=atI.q0 {merge:=mg [(1,22)],mv:=[26,36,40,50],mb:=mg [(40,13),(50,13)],sb:=mg [(10,10),(11,11),(13,13)]} func227 [pd (.sl bT),pf (.sl .str),pI,pf ju,pd .str] [(true,(.sl (.own none) .str)),(true,Y1),rB] (c5 wN)
abbrev ahy:SD:=⟨cz (je bT)::B::DI::bs 5 (.ptr 8 0::.ptr 9 0::.ptr 10 0::.ptr 11 0::.ptr 12 0::B::.ptr 14 0::.ptr 15 0::DI::bs 22 (cz (je (.int .i64))::DI::DI::bs 38 [])),zs 8 ((some Y1)::(some Y14)::(pW (cP 122881 .str))::(some Y1)::(some Y29)::Z::(pW (cP 172033 .str))::(some Y28)::zs 64 []),.none⟩
def arF:=asI.q1 {mask:=mk [(6,[0,2,8,9,10,11,12,14,15,16,39,40,41])],merge:=mg [(2,34)],mv:=[35,37,53,65,76,78],mb:=mg [(35,14),(37,15),(65,20),(76,14),(78,15)],sb:=mg [(8,8),(10,10),(11,11),(12,12),(14,14),(15,15)]} func131 [pd (.sl bT),pf (.sl .str),pI,pf ju,pf jP] [(true,(.sl (.own none) .str)),(true,Y1),(true,Y10),rI] (c5 iV) ahy (λX K=>og (λy0 y1 y2 y3=>ke 0 K ahy ((z2 (w y0 (z2 (u y1))) X.1),(w y2 (z4 (u y3)) X.2.1),X.2.2)) X.1.1 X.1.2.1 (q3 X) (q4 X) X.2.1.2.1 X.2.1.2.2.1 X.2.1.2.2.2.1 X.2.1.2.2.2.2.1 X.2.1.2.2.2.2.2.2.1) (λX=>(q2 X,q5 X,X.2.1.1,X.2.1.2.2.2.2.2.1)) (λX x=>((z2 (w x.1 (z2 (u x.2.1))) X.1),(w x.2.2.1 (z4 (u x.2.2.2)) X.2.1),X.2.2))
def auq:=arF.q0 {merge:=mg [(1,2)]} func383 [pf ahb] [rB] (c1 BV)
def atL:=auq.q0 {merge:=mg [(4,33)],sb:=mg [(4,4)]} func317 [pd .str] [(true,(.pair (.int .i64) Y22)),rB] (c1 uk)
def auU:=atL.q0 {merge:=mg [(1,12)]} func447 [pI,pI] [rI] (c2 AB)
abbrev ahZ:SD:=⟨cz .str::B::B::DI::DI::bs 28 [],zs 33 [],.none⟩
def auM:=auU.q1 {mask:=mk [(3,[0,3,4])]} func424 [pd .str] [rI] (c1 yJ) ahZ (λX K=>sR (λy0 y1=>ke 0 K ahZ ((z1 (w y0 (u y1)) X.1),X.2)) X.1.1) (λX=>(X.1.2.1,q2 X)) (λX x=>((z1 (w x.1 (u x.2)) X.1),X.2))
def aut:=auM.q0 {} func386 [pd .str] [rI] (c1 jJ)
def auu:=aut.q0 {merge:=mg [(1,17)]} func387 [pd .str,pI,pd .str] [rS] (c3 gn)
def auN:=auu.q0 {merge:=mg [(1,2)]} func425 [pf TIp] [rB] (c1 Lf)
def auw:=auN.q0 {} func389 [pf TIp] [rS,rB] (c1 yE)
def atP:=auw.q0 {} func321 [pf TIp] [rS,rB] (c1 wz)
def atM:=atP.q0 {merge:=mg [(2,22),(6,56)],sb:=mg [(5,5)]} func318 [pd .str] [(true,Y26),rB] (c1 AH)
def aur:=atM.q0 {} func384 [pf Dy] [rS] (c1 sX)
def aus:=aur.q0 {merge:=mg [(1,27)]} func385 [pI,pI,pI,pI] [rS,rB] (c4 ri)
def auv:=aus.q0 {} func388 [pI] [rI] (c1 fT)
def atO:=auv.q0 {merge:=mg [(8,39)]} func320 [pI,pI,pf Dy] [rS,rB] (c3 kb)
def atN:=atO.q0 {merge:=mg [(3,20),(9,44),(12,68)]} func319 [pI,pI,pI,pd .str] [(true,(.pair (.int .i64) Y26)),rB] (c4 rh)
def asM:=atN.q0 {merge:=mg [(2,20)]} func231 [pd .str] [(true,Y2),rI] (c1 ja)
def atp:=asM.q0 {} func293 [pf dm] [(true,(.pair (.int .i64) Y1))] (c1 vQ)
abbrev aaJ:SD:=⟨B::B::B::.ptr 3 0::DI::B::B::cz (je fL)::DI::DI::bs 10 [],Z::Z::Z::(pW (cL EY Y1))::zs 16 [],.none⟩
def aug:=atp.q1 {mask:=mk [(2,[3,4,7,8,9])]} func373 [pd (.sl fL),pf tY] [rI] (c2 sQ) aaJ (λX K=>nM (λy0=>ke 0 K aaJ ((z3 (u y0) X.1),X.2)) (λy0 y1=>kr K aaJ ((w y0 (z2 (u y1)) X.1),X.2)) X.1.1 X.1.2.1 (q2 X) X.2.1.1) q3 (λX x=>((z3 (u x) X.1),X.2))
def atq:=aug.q0 {merge:=mg [(17,82)],mv:=[16,31,51,58,67,83,132],er:=mg [(115,5)]} func295 [pd (.sl fL),pf dm] [(false,(.sl (.own none) fL))] (c2 AE)
abbrev ahB:SD:=⟨cz (je bT)::B::DI::B::B::B::DI::B::B::B::.ptr 10 0::B::B::B::.ptr 14 0::.ptr 15 0::.ptr 16 0::B::B::.ptr 19 0::.ptr 20 0::cz (cP 258048 fL)::DI::bs 99 [],zs 10 ((some Y18)::Z::Z::Z::(pW (cP 172033 .str))::(some Y18)::(pW (ka (ka (ka (cP 196618 (.int .i64))))))::Z::Z::(pW (cP 233473 .str))::(pW (ka (ka (ka (cP 245770 (.int .i64))))))::zs 101 []),.none⟩
def apx:=atq.q1 {mask:=mk [(5,[0,2,6,10,14,15,16,19,20,21,22])],merge:=mg [(2,48)],mv:=[49,51,52,96,104,117,119,120],mb:=mg [(49,19),(51,20),(117,19),(119,20)],sb:=mg [(14,14),(15,15),(16,16),(19,19),(20,20)]} func196 [pd (.sl bT),pf (.sl .str),pI,pf eY,pf jP,pd (.sl fL),pI] [(true,(.sl (.own none) .str)),(true,Y18),(true,Y10),(false,(.sl (.own none) fL)),rI] (c7 wL) ahB (λX K=>mU (λy0 y1 y2 y3=>ke 0 K ahB ((z3 (w y0 (u y1)) X.1),(w y2 (z4 (u y3)) X.2.1),X.2.2)) X.1.1 X.1.2.1 (q2 X) X.2.1.2.1 X.2.1.2.2.1 X.2.1.2.2.2.1 X.2.1.2.2.2.2.1) (λX=>(q3 X,q4 X,X.2.1.1,X.2.1.2.2.2.2.2.1)) (λX x=>((z3 (w x.1 (u x.2.1)) X.1),(w x.2.2.1 (z4 (u x.2.2.2)) X.2.1),X.2.2))
def e92:kH:=ko (.pair (.sl (.own none) .str) (.pair (.sl (.own none) bT) (.pair (.pair (.pair (.int .i64) (.pair (.int .i64) (.pair (.int .i64) (.int .i64)))) (.pair (.pair (.int .i64) (.pair (.int .i64) (.pair (.int .i64) (.sl (.own none) (.int .i64))))) (.pair (.sl (.own none) kU) (.int .i64)))) (.pair (.sl (.own none) eY) (.pair (.sl (.own none) jP) (.pair (.sl (.own none) gW) (.pair (.sl (.own none) .bool) (.pair (.pair (.int .i64) (.pair .bool (.sl (.own none) (.int .i64)))) (.pair (.pair (.sl (.own none) nw) (.pair (.sl (.own none) jQ) (.pair .str (.sl (.own none) (.int .i64))))) (.pair (.sl (.own none) fL) (.pair .bool (.pair (.sl (.own none) .str) (.pair (.sl (.own none) (.int .i64)) (.pair (.sl (.own none) (.int .i64)) (.pair (.int .i64) (.pair (.int .i64) (.pair (.int .i64) (.pair (.int .i64) (.int .i64))))))))))))))))))) [pI,pI] [rI] λx a=>kX x a.1 a.2.1
theorem o92:KI 92 e92:=iJ.si (rM (an:={mv:=[8,49,51,52],sb:=mg [(55,0),(59,0)],fm:=[19,20],eb:=mg [(56,0),(57,0)]}) (Λ:=jZ.nil) (apx.s) func92 (by kernel_rfl) (ao nF)) (λx a=>by kernel_rfl)
def G92:=apx.add o92
abbrev ahD:SD:=⟨B::B::DI::B::B::B::.ptr 6 0::B::.ptr 8 0::DI::bs 20 [],zs 6 ((some Y31)::Z::(some Y30)::zs 21 []),.none⟩
def asE:=G92.q1 {mask:=mk [(5,[2,6,8,9])],mv:=[24,29]} func223 [pI,pI,pI] [(true,Y10),rB] (c3 wK) ahD (λX K=>uP (λy0 y1=>ke 0 K ahD ((z1 (u y0) X.1),(z1 (u y1) X.2.1),X.2.2)) X.1.1 X.2.1.1) (λX=>(X.1.2.1,X.2.1.2.1)) (λX x=>((z1 (u x.1) X.1),(z1 (u x.2) X.2.1),X.2.2))
def arB:=asE.q0 {mv:=[3,8]} func126 [] [(true,Y23)] (λa=>Ep)
def arC:=arB.q0 {} func127 [pd (.sl bT),pf (.sl .str),pI,pI,pd .str] [(true,(.sl (.own none) .str)),rB] (c5 jW)
def arD:=arC.q0 {} func128 [pI] [rI] (c1 sa)
abbrev ahx:SD:=⟨cz (.int .u8)::bs 4 (cz (cP 61440 (.int .u8))::bs 4 (DI::DI::bs 9 [])),zs 21 [],.none⟩
def arE:=arD.q1 {mask:=mk [(3,[0,5,10,11])]} func129 [pd (.int .u8),pI] [rS] (c2 pg) ahx (λX K=>wZ (λy0 y1=>ke 0 K ahx ((z1 (w y0 (z1 (u y1))) X.1),X.2)) X.1.1 (q2 X)) (λX=>(X.1.2.1,q3 X)) (λX x=>((z1 (w x.1 (z1 (u x.2))) X.1),X.2))
def akQ:=arE.q0 {mv:=[10,24],mb:=mg [(24,5)],sb:=mg [(2,2),(3,3)]} func130 [pI] [(true,Y18),(true,Y10)] (c1 xU)
def n49:An:={mask:=mk [(5,[2,3,21,22]),(10,[2,3,30,31,32]),(18,[2,3,54,55])],mv:=[18,37,88,98,121,142],sb:=mg [(90,3)]}
abbrev ac9:SD:=⟨B::B::.ptr 2 0::.ptr 3 0::bs 17 (DI::DI::bs 120 []),Z::Z::(some Y4)::(some Y5)::zs 139 [],.none⟩
def am6 (X:SD.D ac9)(K:oZ R):=re (λy0 y1=>ke 0 K ac9 ((z1 (u y0) X.1),(z1 (u y1) X.2.1),X.2.2)) X.1.1 X.2.1.1
abbrev T9:SD:=⟨B::B::.ptr 2 0::.ptr 3 0::bs 26 (cz (.sl .loc kU)::DI::DI::bs 110 []),Z::Z::(some Y4)::(some Y5)::zs 139 [],.none⟩
def akx (X:SD.D T9)(K:oZ R):=py (λy0 y1=>ke 2 K T9 ((z2 (u y0) X.1),(z1 (u y1) X.2.1),X.2.2)) X.1.1 X.1.2.1 X.2.1.1
abbrev Ua:SD:=⟨B::B::.ptr 2 0::.ptr 3 0::bs 50 (DI::DI::bs 87 []),Z::Z::(some Y4)::(some Y5)::zs 139 [],.none⟩
def aky (X:SD.D Ua)(K:oZ R):=lJ (λy0 y1=>ke 4 K Ua ((z1 (u y0) X.1),(z1 (u y1) X.2.1),X.2.2)) X.1.1 X.2.1.1
def L49:jZ:=((jZ.nil.add 5 (tW ac9 am6 (λX=>(X.1.2.1,X.2.1.2.1)))).add 10 (tW T9 akx (λX=>(q2 X,X.2.1.2.1)))).add 18 (tW Ua aky (λX=>(X.1.2.1,X.2.1.2.1)))
theorem aqN:tE E akQ.g n49 L49 (bZ f49 0):=lk ac9 am6 (λX=>(X.1.2.1,X.2.1.2.1)) λX x=>((z1 (u x.1) X.1),(z1 (u x.2) X.2.1),X.2.2)
theorem aoJ:tE E akQ.g n49 L49 (bZ f49 1):=lk T9 akx (λX=>(q2 X,X.2.1.2.1)) λX x=>((z2 (u x.1) X.1),(z1 (u x.2) X.2.1),X.2.2)
theorem aoK:tE E akQ.g n49 L49 (bZ f49 2):=lk Ua aky (λX=>(X.1.2.1,X.2.1.2.1)) λX x=>((z1 (u x.1) X.1),(z1 (u x.2) X.2.1),X.2.2)
def G49:=akQ.qk n49 func49 [pf dk] [(true,Y3)] (c1 rT) (cF aqN (cF aoJ (cF aoK nF)))
def G50:=G49.q0 {} func50 [pf (.sl .str)] [rI] (c1 sC)
def asN:=G50.q0 {merge:=mg [(1,2)]} func232 [pf dm] [rB] (c1 jK)
def auy:=asN.q0 {} func390 [pI] [rS] (c1 yK)
def atQ:=auy.q0 {} func322 [pf ahb] [rS,rB] (c1 yv)
def atR:=atQ.q0 {} func323 [pd .str] [rS] (c1 AG)
def asO:=atR.q0 {} func233 [pf dm] [rS,rB] (c1 gT)
def atK:=asO.q0 {} func316 [pd .str] [rS] (c1 wS)
def asR:=atK.q0 {} func237 [pf dm] [rS,rB] (c1 qb)
abbrev ahG:SD:=⟨B::B::B::cz (cP 36864 .str)::bs 5 (cz (je dm)::DI::DI::bs 15 []),zs 27 [],.none⟩
def atd:=asR.q1 {mask:=mk [(3,[3,9,10,11])],mv:=[21,26]} func276 [pd (.sl dm)] [(false,(.sl (.own none) .str))] (c1 yB) ahG (λX K=>om (λy0 y1=>ke 0 K ahG ((w y0 (z2 (u y1)) X.1),X.2)) X.1.2.1 (q2 X)) (λX=>(X.1.1,q3 X)) (λX x=>((w x.1 (z2 (u x.2)) X.1),X.2))
abbrev ahH:SD:=⟨B::DI::.ptr 2 0::B::B::cz .str::cz (cP 73728 dm)::DI::bs 80 [],Z::Z::(some Y2)::zs 85 [],.none⟩
def ate:=atd.q1 {mask:=mk [(8,[1,2,5,6,7])],merge:=mg [(1,17),(4,30)],mv:=[83,87]} func277 [pf dm,pI] [(false,(.sl (.own none) dm))] (c2 Eo) ahH (λX K=>yH (λy0 y1=>ke 0 K ahH ((z2 (w y0 (u y1)) X.1),X.2)) X.1.1 X.1.2.1 X.2.1.1) (λX=>(q2 X,q3 X)) (λX x=>((z2 (w x.1 (u x.2)) X.1),X.2))
def ar0:=ate.q0 {} func174 [pf dm,pI] [(false,(.sl (.own none) .str))] (c2 uR)
def asc:=ar0.q0 {merge:=mg [(1,20)],sb:=mg [(9,9)]} func192 [pd (.sl bT),pf (.sl .str),pI,pf ju] [rS,(true,Y1),rB] (c4 uq)
def atm:=asc.q0 {sb:=mg [(4,4)]} func290 [pd .str] [(true,(.pair (.int .i64) (.pair (.int .i64) Y1))),rB] (c1 qc)
abbrev aaK:SD:=⟨cz (je bT)::B::DI::B::B::.ptr 5 0::B::.ptr 7 0::cz (cP 98304 pe)::.ptr 9 0::DB::.ptr 11 0::cz (cP 147456 pe)::bs 57 [],zs 5 ((pW (je .str))::Z::(some Y1)::Z::(some Y1)::Z::(some Y1)::zs 58 []),.none⟩
def aum:=atm.q1 {mask:=mk [(6,[0,2,5,7,8,9,10,11,12])],merge:=mg [(1,24),(15,67)],mv:=[55,68],sb:=mg [(9,9)]} func379 [pd (.sl bT),pf (.sl .str),pI,pf ju] [(false,(.sl (.own none) pe)),(true,Y1),rB] (c4 wQ) aaK (λX K=>mX (λy0 y1=>ke 0 K aaK ((z4 (u y0) X.1),(z1 (u y1) X.2.1),X.2.2)) (λy0 y1 y2 y3 y4=>kr K aaK ((z2 (w y0 (w y1 (u y2))) X.1),(z1 (w y3 (u y4)) X.2.1),X.2.2)) X.1.1 X.1.2.1 (q2 X) (q3 X) X.2.1.1 X.2.1.2.2.1 X.2.1.2.2.2.1) (λX=>(q4 X,X.2.1.2.1)) (λX x=>((z4 (u x.1) X.1),(z1 (u x.2) X.2.1),X.2.2))
abbrev aaN:SD:=⟨cz (je jn)::B::DB::B::B::cz (je jn)::DI::DI::bs 16 [],zs 24 [],.none⟩
def ag7:=aum.q1 {mask:=mk [(2,[0,2,5,6,7])],merge:=mg [(4,19)]} func392 [pd (.sl jn)] [rB] (c1 um) aaN (λX K=>sL (λy0=>ke 0 K aaN ((z4 (u y0) X.1),X.2)) (λy0 y1=>kr K aaN ((z1 (w y0 (z2 (u y1))) X.1),X.2)) X.1.1 X.1.2.1 (q2 X) (q3 X)) q4 (λX x=>((z4 (u x) X.1),X.2))
def au9:kH:=FD [pd (.sl jn),pI,pI] [(false,(.sl (.own none) pe))] [(false,(.sl .nil pe))] rfl λa=>jc a.1 a.2.1 a.2.2.1
def ao2:An:={mask:=mk [(5,[0,2,7,30,31,32]),(13,[6,7,54,55,56])],merge:=mg [(1,25)],nils:=[6],mv:=[49,64]}
abbrev T6:SD:=⟨cz (je jn)::B::DI::bs 4 (cz (cP 86016 pe)::bs 22 (cz (je jn)::DI::DI::bs 32 [])),zs 65 [],.none⟩
def akt (X:SD.D T6)(K:oZ R):=kM (λy0 y1=>ke 0 K T6 ((z2 (w y0 (z2 (u y1))) X.1),X.2)) X.1.1 X.1.2.1 (q3 X) (q4 X)
abbrev NB:SD:=⟨bs 7 (cz (cP 86016 pe)::bs 46 (cz (.sl .loc pe)::DI::DI::bs 8 [])),zs 65 [],.none⟩
abbrev aaF:SD:=⟨bs 6 (cz (.sl .nil pe)::cz (cP 86016 pe)::bs 46 (cz (.sl .loc pe)::DI::DI::bs 8 [])),zs 65 [],.none⟩
def aef (X:SD.D NB)(K:oZ R):=kf (λy0=>ke 2 K NB ((z3 (u y0) X.1),X.2)) (λy0 y1=>kr K aaF ((y0,(X.1.1,(X.1.2.1,(X.1.2.2.1,(y1,()))))),(),())) X.1.1 X.1.2.1 (q2 X)
def anD:jZ:=(jZ.nil.add 5 (tW T6 akt (λX=>(q2 X,q5 X)))).add 13 (tW NB aef q3)
theorem aoF:tE E ag7.g ao2 anD (bZ f328 0):=lk T6 akt (λX=>(q2 X,q5 X)) λX x=>((z2 (w x.1 (z2 (u x.2))) X.1),X.2)
theorem alI:tE E ag7.g ao2 anD (bZ f328 1):=lk NB aef q3 λX x=>((z3 (u x) X.1),X.2)
theorem avY:KI 328 au9:=iJ.ofAlt (aih (Γ:=ag7.g) (an:=ao2) (Λ:=anD) (by rfl) (ag7.s) func328 (by kernel_rfl) (ao (cF aoF (cF alI nF)))) (λa=>by kernel_rfl)
def anB:=ag7.add avY
def ao3:An:={mask:=mk [(5,[0,6,18,19,20]),(14,[0,2,3,4,5,6,9,10,11,51,52])],mv:=[24,65]}
abbrev T8:SD:=⟨cz (je pe)::bs 5 (cz (cP 73728 jn)::bs 11 (cz (je pe)::DI::DI::bs 47 [])),zs 68 [],.none⟩
def akw (X:SD.D T8)(K:oZ R):=lX (λy0 y1=>ke 0 K T8 ((z1 (w y0 (z2 (u y1))) X.1),X.2)) X.1.1 (q2 X) (q3 X)
abbrev NC:SD:=⟨cz (je pe)::bs 5 (cz (cP 73728 jn)::B::B::DI::DI::cz (cP 135168 pe)::bs 39 (DI::DI::bs 15 [])),zs 68 [],.none⟩
abbrev aaL:SD:=⟨cz (je pe)::B::cz (cP 24576 jn)::DI::DI::DB::cz (cP 73728 jn)::B::B::DI::DI::cz (cP 135168 pe)::bs 39 (DI::DI::bs 15 []),zs 68 [],.none⟩
def aeg (X:SD.D NC)(K:oZ R):=gY (λy0=>ke 2 K NC ((z6 (u y0) X.1),X.2)) (λy0 y1 y2 y3 y4=>kr K aaL ((X.1.1,(y0,(y1,(y2,(y3,(X.1.2.1,(X.1.2.2.1,(X.1.2.2.2.1,(X.1.2.2.2.2.1,(X.1.2.2.2.2.2.1,(y4,()))))))))))),(),())) X.1.1 X.1.2.1 (q2 X) (q3 X) (q4 X) (q5 X)
def apS:jZ:=(jZ.nil.add 5 (tW T8 akw (λX=>(X.1.2.1,q4 X)))).add 14 (tW NC aeg q6)
theorem aoI:tE E anB.g ao3 apS (bZ f380 0):=lk T8 akw (λX=>(X.1.2.1,q4 X)) λX x=>((z1 (w x.1 (z2 (u x.2))) X.1),X.2)
theorem alJ:tE E anB.g ao3 apS (bZ f380 1):=lk NC aeg q6 λX x=>((z6 (u x) X.1),X.2)
def aun:=anB.qk ao3 func380 [pd (.sl pe)] [(false,(.sl (.own none) jn)),rI,rI,rB] (c1 pA) (cF aoI (cF alJ nF))
abbrev aaM:SD:=⟨cz (je bT)::B::DI::B::B::.ptr 5 0::B::B::cz .str::DB::cz .str::bs 7 (cz (je jn)::DI::DI::bs 21 []),zs 5 ((pW (je .str))::zs 36 []),.none⟩
def auo:=aun.q1 {mask:=mk [(5,[0,2,5,8,9,10,18,19,20])]} func381 [pd (.sl bT),pf (.sl .str),pI,pd (.sl jn)] [rS,rB] (c4 qZ) aaM (λX K=>mS (λy0 y1=>ke 0 K aaM ((z4 (w y0 (z2 (u y1))) X.1),X.2)) (λy0 y1 y2 y3=>kr K aaM ((z2 (w y0 (w y1 (w y2 (z2 (u y3))))) X.1),X.2)) X.1.1 X.1.2.1 (q2 X) (q3 X) (q5 X) (q6 X) X.2.1.1) (λX=>(q4 X,q7 X)) (λX x=>((z4 (w x.1 (z2 (u x.2))) X.1),X.2))
def auz:=auo.q0 {} func391 [pd .str] [rI,rI] (c1 se)
def atS:=auz.q0 {} func324 [pf dm] [rS,rB] (c1 nm)
def aup:=atS.q0 {merge:=mg [(3,38),(9,74),(12,84),(17,117)]} func382 [pd .str] [rS,rB] (c1 yy)
def atJ:=aup.q0 {merge:=mg [(1,28)],sb:=mg [(8,8)]} func315 [pd (.sl bT),pf (.sl .str),pI,pf ju] [(true,Y1),(false,(.sl (.own none) .str)),rI] (c4 rk)
abbrev anO:SD:=⟨cz (je bT)::B::DI::B::B::.ptr 5 0::B::.ptr 7 0::.ptr 8 0::cz (cP 110592 .str)::DI::DI::cz (cP 147456 .str)::DI::DI::bs 30 [],zs 5 ((pW (je .str))::Z::(some Y1)::(some Y1)::zs 36 []),.none⟩
abbrev aeE:SD:=⟨cz (je bT)::B::DI::B::B::.ptr 5 0::B::.ptr 7 0::.ptr 8 0::cz (cP 110592 .str)::DI::DI::cz (.sl .loc .str)::DI::DI::bs 30 [],zs 5 ((pW (je .str))::Z::(some Y1)::(some Y1)::zs 36 []),.none⟩
def asJ:=atJ.q1 {mask:=mk [(3,[0,2,5,7,8,9,10,11,12,13,14])],mv:=[35,42]} func228 [pd (.sl bT),pf (.sl .str),pI,pf ju] [(true,Y1),(false,(.sl (.own none) .str)),rI,rI] (c4 sU) anO (λX K=>nN (λy0 y1 y2 y3 y4 y5 y6 y7=>kr K aeE ((X.1.1,(X.1.2.1,(y0,(y1,(y2,(y3,(y4,(y5,())))))))),(X.2.1.1,(y6,(y7,()))),())) X.1.1 X.1.2.1 (q2 X) (q3 X) (q4 X) X.2.1.1 X.2.1.2.2.1) (λX=>(q5 X,q6 X,q7 X,X.2.1.2.1)) (λX x=>((z5 (w x.1 (w x.2.1 (u x.2.2.1))) X.1),(z1 (u x.2.2.2) X.2.1),X.2.2))
abbrev ahF:SD:=⟨B::DI::.ptr 2 0::B::.ptr 4 0::B::.ptr 6 0::cz (cP 86016 (.int .i64))::bs 20 (cz (je kU)::DI::DI::bs 26 []),Z::Z::(some Y25)::Z::(pW (cL Y1 (cL (ka (ka (ka (cP 49174 (.int .i64))))) (cL (cP 49177 kU) EY))))::Z::(pW (cL Y1 (cL (ka (ka (ka (cP 73750 (.int .i64))))) (cL (cP 73753 kU) EY))))::zs 50 [],.none⟩
def asK:=asJ.q1 {mask:=mk [(6,[1,2,4,6,7,28,29,30])],merge:=mg [(2,22)],mv:=[23,34,43,55,56]} func229 [pf mD,pI] [(true,Y23),(false,(.sl (.own none) (.int .i64)))] (c2 mQ) ahF (λX K=>kc (λy0 y1 y2=>ke 0 K ahF ((z1 (w y0 (z2 (u y1))) X.1),(z2 (u y2) X.2.1),X.2.2)) X.1.1 (q2 X) (q3 X) X.2.1.1 X.2.1.2.1) (λX=>(X.1.2.1,q4 X,X.2.1.2.2.1)) (λX x=>((z1 (w x.1 (z2 (u x.2.1))) X.1),(z2 (u x.2.2) X.2.1),X.2.2))
def arG:=asK.q0 {mv:=[15,33,37,51,54,58]} func132 [pf dk] [(true,Y3)] (c1 mT)
def asL:=arG.q0 {merge:=mg [(2,17)]} func230 [pd .str] [rS,rB] (c1 yw)
def arH:=asL.q0 {} func133 [pd .str] [(true,Y2),rI] (c1 ou)
def asP:=arH.q0 {merge:=mg [(1,15)]} func234 [pf iQ,pI] [(true,Y8),rB] (c2 sN)
def anu:=asP.q0 {merge:=mg [(1,24),(7,54)]} func235 [pd (.sl lD),pI,pf dm] [rI] (c3 oe)
def aoY:An:={mask:=mk [(11,[0,1,7,8,33,34]),(17,[0,1,7,11,43,44,45])],merge:=mg [(19,60)],mv:=[37,61,66]}
abbrev NA:SD:=⟨cz (je lD)::DI::bs 5 (DI::B::B::B::cz (cP 135168 (.int .i64))::bs 31 (cz (.sl .loc (.int .i64))::DI::DI::bs 21 [])),zs 67 [],.none⟩
def aee (X:SD.D NA)(K:oZ R):=gI (λy0 y1=>ke 2 K NA ((z3 (w y0 (z2 (u y1))) X.1),X.2)) X.1.1 X.1.2.1 (q2 X) (q4 X) (q5 X)
abbrev Nz:SD:=⟨cz (je lD)::DI::bs 5 (DI::cz (cP 98304 (.int .i64))::bs 24 (DI::DI::bs 32 [])),zs 67 [],.none⟩
def aed (X:SD.D Nz)(K:oZ R):=lY (λy0 y1=>ke 0 K Nz ((z3 (w y0 (z1 (u y1))) X.1),X.2)) X.1.1 X.1.2.1 (q2 X) (q4 X)
def apN:jZ:=(jZ.nil.add 17 (tW NA aee (λX=>(q3 X,q6 X)))).add 11 (tW Nz aed (λX=>(q3 X,q5 X)))
theorem alH:tE E anu.g aoY apN (bZ f236 1):=lk NA aee (λX=>(q3 X,q6 X)) λX x=>((z3 (w x.1 (z2 (u x.2))) X.1),X.2)
theorem alG:tE E anu.g aoY apN (bZ f236 0):=lk Nz aed (λX=>(q3 X,q5 X)) λX x=>((z3 (w x.1 (z1 (u x.2))) X.1),X.2)
def asQ:=anu.qk aoY func236 [pd (.sl lD),pI,pf dm] [(false,(.sl (.own none) (.int .i64)))] (c3 mW) (cF alG (cF alH nF))
def arI:=asQ.q0 {merge:=mg [(2,35),(7,73)],late:=[93],mv:=[36,81],er:=mg [(98,11)]} func134 [pd (.sl bW),pd (.sl lD),pI,pf dm] [(false,(.sl (.own none) bW)),(false,(.sl (.own none) (.int .i64))),rB] (c4 yG)
def akS:=arI.q0 {} func195 [pf gW] [(true,Y15)] (c1 yu)
def e90:kH:=ko (.pair (.sl (.own none) .str) (.pair (.sl (.own none) bT) (.pair (.pair (.pair (.int .i64) (.pair (.int .i64) (.pair (.int .i64) (.int .i64)))) (.pair (.pair (.int .i64) (.pair (.int .i64) (.pair (.int .i64) (.sl (.own none) (.int .i64))))) (.pair (.sl (.own none) kU) (.int .i64)))) (.pair (.sl (.own none) eY) (.pair (.sl (.own none) jP) (.pair (.sl (.own none) gW) (.pair (.sl (.own none) .bool) (.pair (.pair (.int .i64) (.pair .bool (.sl (.own none) (.int .i64)))) (.pair (.pair (.sl (.own none) nw) (.pair (.sl (.own none) jQ) (.pair .str (.sl (.own none) (.int .i64))))) (.pair (.sl (.own none) fL) (.pair .bool (.pair (.sl (.own none) .str) (.pair (.sl (.own none) (.int .i64)) (.pair (.sl (.own none) (.int .i64)) (.pair (.int .i64) (.pair (.int .i64) (.pair (.int .i64) (.pair (.int .i64) (.int .i64))))))))))))))))))) [pI,pI] [] λx a=>lM x a.1 a.2.1
def n90:An:={mask:=mk [(2,[0,1,7])]}
abbrev adf:SD:=⟨.ptr 0 0::DI::bs 5 (DI::bs 34 []),(pW (cL (cP 1 .str) (cL (cP 4 bT) (cL (cL Y1 (cL (ka (ka (ka (cP 28 (.int .i64))))) (cL (cP 31 kU) EY))) (cL (cP 37 eY) (cL (cP 40 jP) (cL (cP 43 gW) (cL (cP 46 .bool) (cL (ka (cL .bool (cP 55 (.int .i64)))) (cL (cL (cP 58 nw) (cL (cP 61 jQ) (cL .str (cP 67 (.int .i64))))) (cL (cP 70 fL) (cL .bool (cL (cP 76 .str) (cL (cP 79 (.int .i64)) (cL (cP 82 (.int .i64)) (cL EY Y1))))))))))))))))::zs 41 [],.ptr⟩
def anh (X:SD.D adf)(K:oZ R):=rl (λy0 y1=>ke 0 K adf ((z1 (u y0) X.1),(u y1 X.2.1),X.2.2)) X.1.1
def L90:jZ:=jZ.nil.add 2 (tW adf anh (λX=>(X.1.2.1,X.2.1.1)))
theorem aqX:tE E akS.g n90 L90 (bZ f90 0):=lk adf anh (λX=>(X.1.2.1,X.2.1.1)) λX x=>((z1 (u x.1) X.1),(u x.2 X.2.1),X.2.2)
theorem o90:KI 90 e90:=iJ.si (rM (Γ:=akS.g) (an:=n90) (Λ:=L90) (akS.s) func90 (by kernel_rfl) (ao (cF aqX nF))) (λx a=>by kernel_rfl)
def G90:=akS.add o90
def asU:=G90.q0 {merge:=mg [(1,4)]} func240 [pf pk,pf dm] [rB] (c2 AA)
def auO:=asU.q0 {} func426 [pI,pI,pI] [rB] (c3 qi)
def auA:=auO.q0 {merge:=mg [(1,4)]} func393 [pf nw,pf dm] [rB] (c2 sM)
abbrev ahN:SD:=⟨cz (je nw)::B::B::.ptr 3 0::B::DI::bs 5 (cz (je nw)::DI::DI::bs 24 []),Z::Z::Z::(some Y2)::zs 34 [],.none⟩
def atW:=auA.q1 {mask:=mk [(5,[0,3,5,11,12,13])],merge:=mg [(7,34)]} func330 [pd (.sl nw),pf dm] [rI] (c2 yA) ahN (λX K=>sG (λy0 y1=>ke 0 K ahN ((z1 (w y0 (z2 (u y1))) X.1),X.2)) X.1.1 (q2 X) (q3 X) X.2.1.1) (λX=>(X.1.2.1,q4 X)) (λX x=>((z1 (w x.1 (z2 (u x.2))) X.1),X.2))
def atX:=atW.q0 {} func331 [pf (.sl jQ),pf tY] [rI] (c2 yz)
def auJ:=atX.q0 {} func421 [pd .str,pI] [rI] (c2 zE)
abbrev ahY:SD:=⟨cz .str::DI::B::B::B::DI::DI::bs 22 [],zs 29 [],.none⟩
def auK:=auJ.q1 {mask:=mk [(5,[0,1,5,6])],merge:=mg [(1,14)]} func422 [pd .str,pI] [rI] (c2 wI) ahY (λX K=>rf (λy0 y1=>ke 0 K ahY ((z2 (w y0 (u y1)) X.1),X.2)) X.1.1 X.1.2.1) (λX=>(q2 X,q3 X)) (λX x=>((z2 (w x.1 (u x.2)) X.1),X.2))
abbrev ahR:SD:=⟨cz .str::cz .str::B::B::B::DI::DI::bs 25 [],zs 32 [],.none⟩
def auc:=auK.q1 {mask:=mk [(5,[0,1,5,6])],merge:=mg [(1,14)]} func369 [pd .str,pd .str] [rI] (c2 wE) ahR (λX K=>ra (λy0 y1=>ke 0 K ahR ((z2 (w y0 (u y1)) X.1),X.2)) X.1.1 X.1.2.1) (λX=>(q2 X,q3 X)) (λX x=>((z2 (w x.1 (u x.2)) X.1),X.2))
def aud:=auc.q0 {} func370 [pf tY] [rS] (c1 wF)
def ato:=aud.q0 {} func292 [pd .str,pf tY] [rI] (c2 uh)
def auB:=ato.q0 {merge:=mg [(2,17)]} func394 [pf GH,pf tY] [rI] (c2 AF)
def atY:=auB.q0 {merge:=mg [(2,18)]} func332 [pf GH,pI,pf tY] [rI] (c3 sO)
def asV:=atY.q0 {merge:=mg [(1,17)]} func241 [pf nY,pI,pf dm] [rI] (c3 sP)
def aue:=asV.q0 {merge:=mg [(1,2)]} func371 [pf tY] [rB] (c1 mR)
def auf:=aue.q0 {merge:=mg [(1,12)]} func372 [pf tY,pI] [rS] (c2 lW)
def apB:=auf.q0 {merge:=mg [(1,22)],mv:=[26,37,41,51],mb:=mg [(41,13),(51,13)],sb:=mg [(10,10),(11,11),(13,13)]} func294 [pd (.sl bT),pf (.sl .str),pI,pf iQ,pf tY] [(true,(.sl (.own none) .str)),(true,Y8),rB] (c5 pC)
def au3:kH:=FD [pd (.sl bT),pf (.sl .str),pI,pf eY,pd .str,pd .str] [(true,(.sl (.own none) .str)),(true,Y8),rB] [(true,(.sl .arg .str)),(true,Y8),rB] rfl λa=>xb a.1 a.2.1 a.2.2.1 a.2.2.2.1 a.2.2.2.2.1 a.2.2.2.2.2.1
theorem avS:KI 193 au3:=iJ.ofAlt (aih (an:={merge:=mg [(3,50)],sb:=mg [(12,12),(13,13),(20,20)]}) (Λ:=jZ.nil) (by rfl) (apB.s) func193 (by kernel_rfl) (ao nF)) (λa=>by kernel_rfl)
def asd:=apB.add avS
def G89:=asd.q0 {merge:=mg [(1,31)],mv:=[52,66],mb:=mg [(66,16)],sb:=mg [(10,10),(11,11)]} func89 [pd (.sl bT),pf (.sl .str),pI,pf eY,pd .str] [(true,(.sl (.own none) .str)),(true,Y18)] (c5 oh)
def auC:=G89.q0 {} func395 [pf dm,pf dm] [rB] (c2 yF)
def atZ:=auC.q0 {merge:=mg [(1,42),(4,76),(6,4)]} func333 [pf Tw,pf dm] [rB] (c2 wA)
def at0:=atZ.q0 {} func334 [pf Tw,pf dm] [(true,(.pair Y2 (.pair (.int .i64) (.int .i64))))] (c2 G5)
def at1:=at0.q0 {} func335 [pf dm] [(true,(.pair Y2 (.pair (.int .i64) (.int .i64))))] (c1 F4)
def asW:=at1.q0 {merge:=mg [(1,30),(3,44)],mv:=[53,68,77],mb:=mg [(77,16)],sb:=mg [(14,14),(15,15)]} func242 [pd (.sl bT),pf (.sl .str),pI,pf eY,pd .str,pf dm,pd .bool] [(true,(.sl (.own none) .str)),(true,Y18)] (c7 pE)
def arN:=asW.q0 {mv:=[14,34,46,62,69,90,103],sb:=mg [(92,5)]} func139 [pf dk,pd .str] [(true,Y3)] (c2 ot)
def asS:=arN.q0 {merge:=mg [(1,34)]} func238 [pd (.sl lD),pI,pI,pf dm] [(true,Y2)] (c4 sK)
abbrev ahz:SD:=⟨bs 5 (.ptr 5 0::.ptr 6 0::.ptr 7 0::cz (cP 98304 lD)::B::DI::bs 28 (cz (cP 479232 (.int .i64))::DI::DI::bs 35 [])),zs 5 ((some Y2)::(some Y19)::(pW (cL (cP 86017 dk) (cL (cP 86020 bW) (cL (cP 86023 eQ) (cL (cP 86026 .str) (cL Y1 (cL (cP 86041 (.int .i64)) (cP 86044 .str))))))))::zs 69 []),.none⟩
def arJ:=asS.q1 {mask:=mk [(7,[5,6,7,8,10,39,40,41])],merge:=mg [(2,24)],mv:=[25,26,57,76]} func135 [pf xG,pI,pf dm] [(true,Y7)] (c3 my) ahz (λX K=>lI (λy0 y1=>ke 0 K ahz ((z4 (u y0) X.1),(z2 (u y1) X.2.1),X.2.2)) X.1.1 X.1.2.1 (q2 X) (q3 X) X.2.1.1 X.2.1.2.1) (λX=>(q4 X,X.2.1.2.2.1)) (λX x=>((z4 (u x.1) X.1),(z2 (u x.2) X.2.1),X.2.2))
abbrev amA:SD:=⟨B::DI::B::B::.ptr 4 0::.ptr 5 0::cz (cP 73728 lD)::bs 55 (cz (.sl .loc .str)::DI::DI::bs 30 []),zs 4 ((some Y20)::(pW (cL (cP 61441 dk) (cL (cP 61444 bW) (cL (cP 61447 eQ) (cL (cP 61450 .str) (cL Y1 (cL (cP 61465 (.int .i64)) (cP 61468 .str))))))))::zs 89 []),.none⟩
def G51:=arJ.q1 {mask:=mk [(8,[1,4,5,6,62,63,64])],merge:=mg [(2,29)],mv:=[30,31,75,85,94]} func51 [pf xG,pI] [(true,Y7)] (c2 qY) amA (λX K=>jV (λy0 y1=>ke 0 K amA ((z4 (u y0) X.1),(z1 (u y1) X.2.1),X.2.2)) X.1.1 X.1.2.1 (q2 X) (q3 X) X.2.1.1) (λX=>(q4 X,X.2.1.2.1)) (λX x=>((z4 (u x.1) X.1),(z1 (u x.2) X.2.1),X.2.2))
def G52:=G51.q0 {mv:=[13,15,32]} func52 [pf xG,pd .str] [(true,Y7)] (c2 sD)
def arK:=G52.q0 {merge:=mg [(1,10)]} func136 [pf iQ,pI] [(true,Y8)] (c2 rj)
abbrev amB:SD:=⟨B::DI::B::B::B::cz (cP 61440 bW)::bs 4 (DI::DI::bs 15 []),zs 27 [],.none⟩
def G53:=arK.q1 {mask:=mk [(3,[1,5,10,11])],mv:=[26]} func53 [pd (.sl bW),pI] [(false,(.sl (.own none) bW))] (c2 pH) amB (λX K=>lZ (λy0 y1=>ke 0 K amB ((z1 (w y0 (z1 (u y1))) X.1),X.2)) X.1.1 (q2 X)) (λX=>(X.1.2.1,q3 X)) (λX x=>((z1 (w x.1 (z1 (u x.2))) X.1),X.2))
def arL:=G53.q0 {} func137 [pf ju,pI] [(true,Y1)] (c2 Lg)
def G54:=arL.q0 {merge:=mg [(1,14)]} func54 [pf ju,pI] [(true,Y1)] (c2 qX)
abbrev amv:SD:=⟨B::.ptr 1 0::.ptr 2 0::.ptr 3 0::bs 9 (DI::DI::bs 35 []),Z::(some Y0)::(some Y4)::(some Y5)::zs 46 [],.none⟩
def G30:=G54.q1 {mask:=mk [(5,[1,2,3,13,14])],mv:=[10,17,35,49],sb:=mg [(37,3)]} func30 [pf dk] [(true,Y3)] (c1 wG) amv (λX K=>rb (λy0 y1=>ke 0 K amv ((z1 (u y0) X.1),(z2 (u y1) X.2.1),X.2.2)) X.1.1 X.2.1.1 X.2.1.2.1) (λX=>(X.1.2.1,X.2.1.2.2.1)) (λX x=>((z1 (u x.1) X.1),(z2 (u x.2) X.2.1),X.2.2))
def G91:=G30.q0 {merge:=mg [(1,11)]} func91 [pf gW] [(true,Y15),rB] (c1 pG)
def G93:=G91.q0 {} func93 [pf gW] [(true,Y15)] (c1 zD)
abbrev amw:SD:=⟨B::DI::B::B::.ptr 4 0::B::.ptr 6 0::DI::bs 17 (DI::DI::bs 53 []),zs 4 ((pW (cL (cP 49153 .str) (cL (cP 49156 bT) (cL (cL Y1 (cL (ka (ka (ka (cP 49180 (.int .i64))))) (cL (cP 49183 kU) EY))) (cL (cP 49189 eY) (cL (cP 49192 jP) (cL (cP 49195 gW) (cL (cP 49198 .bool) (cL (ka (cL .bool (cP 49207 (.int .i64)))) (cL (cL (cP 49210 nw) (cL (cP 49213 jQ) (cL .str (cP 49219 (.int .i64))))) (cL (cP 49222 fL) (cL .bool (cL (cP 49228 .str) (cL (cP 49231 (.int .i64)) (cL (cP 49234 (.int .i64)) (cL EY Y1))))))))))))))))::Z::(pW (cL (cP 73729 .str) (cL (cP 73732 bT) (cL (cL Y1 (cL (ka (ka (ka (cP 73756 (.int .i64))))) (cL (cP 73759 kU) EY))) (cL (cP 73765 eY) (cL (cP 73768 jP) (cL (cP 73771 gW) (cL (cP 73774 .bool) (cL (ka (cL .bool (cP 73783 (.int .i64)))) (cL (cL (cP 73786 nw) (cL (cP 73789 jQ) (cL .str (cP 73795 (.int .i64))))) (cL (cP 73798 fL) (cL .bool (cL (cP 73804 .str) (cL (cP 73807 (.int .i64)) (cL (cP 73810 (.int .i64)) (cL EY Y1))))))))))))))))::zs 73 []),.none⟩
def G31:=G93.q1 {mask:=mk [(6,[1,4,6,7,25,26])],merge:=mg [(2,21)],mv:=[22,78]} func31 [pf dk,pI] [(true,Y3),rI] (c2 sI) amw (λX K=>nJ (λy0 y1 y2=>ke 0 K amw ((z1 (w y0 (z1 (u y1))) X.1),(z1 (u y2) X.2.1),X.2.2)) X.1.1 (q2 X) X.2.1.1) (λX=>(X.1.2.1,q3 X,X.2.1.2.1)) (λX x=>((z1 (w x.1 (z1 (u x.2.1))) X.1),(z1 (u x.2.2) X.2.1),X.2.2))
abbrev ahM:SD:=⟨B::B::B::DI::B::B::B::cz (je kU)::DI::DI::bs 9 [],zs 19 [],.none⟩
def atT:=G31.q1 {mask:=mk [(3,[3,7,8,9])]} func325 [pf mD] [rI] (c1 ru) ahM (λX K=>mY (λy0 y1=>ke 0 K ahM ((w y0 (z2 (u y1)) X.1),X.2)) X.1.2.1 (q2 X)) (λX=>(X.1.1,q3 X)) (λX x=>((w x.1 (z2 (u x.2)) X.1),X.2))
def akT:=atT.q0 {merge:=mg [(2,20)],mv:=[21,28],mb:=mg [(28,7)],sb:=mg [(4,4)]} func326 [pf jP,pI] [(true,Y10),(false,(.sl (.own none) (.int .i64))),rB] (c2 sT)
def au8:kH:=FD [pd (.sl bT),pf (.sl .str),pI,pf jP,pd (.sl (.int .i64)),pd .str,pI] [(true,(.sl (.own none) .str)),(false,(.sl (.own none) jn)),rB] [(true,(.sl .arg .str)),(false,(.sl (.own none) jn)),rB] rfl λa=>ow a.1 a.2.1 a.2.2.1 a.2.2.2.1 a.2.2.2.2.1 a.2.2.2.2.2.1 a.2.2.2.2.2.2.1
def aq2:An:={mask:=mk [(3,[0,2,5,6,8,10,14,15,16,17,24,25,26])],peel:=[3],mv:=[40,49,53,54,55,65,66],sb:=mg [(21,21)]}
abbrev T5:SD:=⟨cz (je bT)::B::DI::B::B::cz .str::DI::B::.ptr 8 0::B::.ptr 10 0::B::B::B::.ptr 14 0::cz (cP 184320 jn)::DB::cz (cP 208896 jn)::bs 6 (cz (je (.int .i64))::DI::DI::bs 40 []),zs 8 ((pW (cP 98305 .str))::Z::(some Y14)::Z::Z::Z::(pW (cP 172033 .str))::zs 52 []),.none⟩
abbrev aeF:SD:=⟨cz (je bT)::B::DI::B::B::cz .str::DI::B::.ptr 8 0::B::.ptr 10 0::B::B::B::.ptr 14 0::cz (cP 184320 jn)::DB::cz (cP 208896 jn)::bs 6 (cz (je (.int .i64))::DI::DI::bs 40 []),zs 8 ((pW (.sl .loc .str))::Z::(some Y14)::Z::Z::Z::(pW (cP 172033 .str))::zs 52 []),.none⟩
def aks (X:SD.D T5)(K:oZ R):=kC (λy0 y1 y2 y3=>ke 0 K T5 ((z2 (w y0 (z3 (w y1 (z2 (u y2))))) X.1),(u y3 X.2.1),X.2.2)) (λy0 y1 y2 y3 y4 y5 y6=>kr K aeF ((X.1.1,(X.1.2.1,(y0,(X.1.2.2.2.1,(y1,(y2,(y3,(X.1.2.2.2.2.2.2.2.1,(X.1.2.2.2.2.2.2.2.2.1,(y4,())))))))))),(y5,(X.2.1.2.1,(y6,()))),())) X.1.1 X.1.2.1 (q3 X) (q4 X) (q5 X) (q7 X) (q8 X) X.2.1.2.1 X.2.1.2.2.1
def apR:jZ:=jZ.nil.add 3 (tW T5 aks (λX=>(q2 X,q6 X,q9 X,X.2.1.1)))
theorem aoE:tE E akT.g aq2 apR (bZ f327 0):=lk T5 aks (λX=>(q2 X,q6 X,q9 X,X.2.1.1)) λX x=>((z2 (w x.1 (z3 (w x.2.1 (z2 (u x.2.2.1))))) X.1),(u x.2.2.2 X.2.1),X.2.2)
theorem avX:KI 327 au8:=iJ.ofAlt (aih (Γ:=akT.g) (an:=aq2) (Λ:=apR) (by rfl) (akT.s) func327 (by kernel_rfl) (ao (cF aoE nF))) (λa=>by kernel_rfl)
def atU:=akT.add avX
abbrev aaG:SD:=⟨cz (je bT)::B::DI::B::B::B::.ptr 6 0::B::.ptr 8 0::B::.ptr 10 0::.ptr 11 0::DB::.ptr 13 0::.ptr 14 0::bs 6 (cz (je .str)::DI::DI::bs 21 []),zs 6 ((pW (je .str))::Z::(some Y1)::Z::(pW (cP 122881 .str))::(some Y1)::Z::(pW (cP 159745 .str))::(some Y1)::zs 30 []),.none⟩
def atV:=atU.q1 {mask:=mk [(3,[0,2,6,8,10,11,12,13,14,21,22,23])],mv:=[27,43],mb:=mg [(43,13)],sb:=mg [(10,10),(11,11),(13,13),(14,14)]} func329 [pd (.sl bT),pf (.sl .str),pI,pf ju,pd (.sl .str)] [(true,(.sl (.own none) .str)),(true,Y1),rB] (c5 ku) aaG (λX K=>lL (λy0 y1 y2=>ke 0 K aaG ((z5 (u y0) X.1),(z4 (w y1 (u y2)) X.2.1),X.2.2)) (λy0 y1 y2 y3 y4 y5=>kr K aaG ((z2 (w y0 (z2 (u y1))) X.1),(z2 (w y2 (w y3 (w y4 (u y5)))) X.2.1),X.2.2)) X.1.1 X.1.2.1 (q2 X) (q3 X) (q4 X) X.2.1.1 X.2.1.2.1 X.2.1.2.2.1 X.2.1.2.2.2.1) (λX=>(q5 X,X.2.1.2.2.2.2.1,X.2.1.2.2.2.2.2.1)) (λX x=>((z5 (u x.1) X.1),(z4 (w x.2.1 (u x.2.2)) X.2.1),X.2.2))
abbrev ac6:SD:=⟨cz (je bT)::B::DI::bs 7 (.ptr 10 0::B::B::B::.ptr 14 0::.ptr 15 0::B::.ptr 17 0::.ptr 18 0::B::B::B::.ptr 22 0::B::cz (cP 294912 (.int .i64))::B::.ptr 26 0::B::cz (cP 344064 pe)::cz (cP 356352 .str)::bs 109 (cz (.sl .loc pe)::DI::DI::bs 44 [])),zs 10 ((some Y25)::Z::Z::Z::(pW (cP 172033 .str))::(pW (cL Y1 (cL (ka (ka (ka (cP 184342 (.int .i64))))) (cL (cP 184345 kU) EY))))::Z::(pW (cP 208897 .str))::(pW (cL Y1 (cL (ka (ka (ka (cP 221206 (.int .i64))))) (cL (cP 221209 kU) EY))))::Z::Z::Z::(pW (cL Y1 (cL (ka (ka (ka (cP 270358 (.int .i64))))) (cL (cP 270361 kU) EY))))::Z::Z::Z::(pW (.sl .loc .str))::zs 159 []),.none⟩
def asT:=atV.q1 {mask:=mk [(19,[0,2,10,14,15,17,18,22,24,26,28,29,139,140,141])],merge:=mg [(2,57),(6,92),(15,135)],mv:=[58,59,93,94,97,107,108,109,122,123,136,137,145,151,164,165,169,174,184,185],mb:=mg [(58,17),(59,18),(93,17),(94,18),(107,17),(108,18),(136,17),(137,18),(164,17),(165,18),(184,26),(185,22)],sb:=mg [(14,14),(15,15),(17,17),(18,18),(26,26)]} func239 [pd (.sl bT),pf (.sl .str),pI,pf mD,pf dm,pI,pI] [(true,(.sl (.own none) .str)),(true,Y23),rB] (c7 uS) ac6 (λX K=>gG (λy0 y1=>ke 0 K ac6 ((z4 (w y0 (z2 (u y1))) X.1),X.2)) X.1.1 X.1.2.1 (q2 X) (q3 X) (q5 X) (q6 X) X.2.1.1 X.2.1.2.1 X.2.1.2.2.1 X.2.1.2.2.2.1 X.2.1.2.2.2.2.1 X.2.1.2.2.2.2.2.1 X.2.1.2.2.2.2.2.2.1) (λX=>(q4 X,q7 X)) (λX x=>((z4 (w x.1 (z2 (u x.2))) X.1),X.2))
def arM:=asT.q0 {mv:=[19,20,34,36,38]} func138 [pf dk,pf dm,pI,pI] [(true,Y3),rB] (c4 yD)
def G55:=arM.q0 {merge:=mg [(1,15)],mv:=[22,34,35]} func55 [pf dk,pf akU] [(true,Y3),rI] (c2 En)
def n17:An:={mask:=mk [(10,[4,6,52,53]),(22,[4,6,91,92])],merge:=mg [(2,23)],late:=[67],mv:=[24,114,115,125,131,133],sb:=mg [(4,4),(9,9),(49,6)]}
abbrev TQ:SD:=⟨bs 4 (.ptr 4 0::B::.ptr 6 0::bs 45 (DI::DI::bs 81 [])),zs 4 ((some Y20)::Z::(some Y19)::zs 128 []),.none⟩
def akf (X:SD.D TQ)(K:oZ R):=qd (λy0 y1=>ke 1 K TQ ((z1 (u y0) X.1),(z1 (u y1) X.2.1),X.2.2)) X.1.1 X.2.1.1
abbrev TR:SD:=⟨bs 4 (.ptr 4 0::B::.ptr 6 0::bs 84 (DI::DI::bs 42 [])),zs 4 ((some Y20)::Z::(some Y19)::zs 128 []),.none⟩
def akg (X:SD.D TR)(K:oZ R):=mz (λy0 y1=>ke 4 K TR ((z1 (u y0) X.1),(z1 (u y1) X.2.1),X.2.2)) X.1.1 X.2.1.1
def L17:jZ:=(jZ.nil.add 10 (tW TQ akf (λX=>(X.1.2.1,X.2.1.2.1)))).add 22 (tW TR akg (λX=>(X.1.2.1,X.2.1.2.1)))
theorem aor:tE E G55.g n17 L17 (bZ f17 0):=lk TQ akf (λX=>(X.1.2.1,X.2.1.2.1)) λX x=>((z1 (u x.1) X.1),(z1 (u x.2) X.2.1),X.2.2)
theorem aos:tE E G55.g n17 L17 (bZ f17 1):=lk TR akg (λX=>(X.1.2.1,X.2.1.2.1)) λX x=>((z1 (u x.1) X.1),(z1 (u x.2) X.2.1),X.2.2)
def G17:=G55.qk n17 func17 [pf xG,pf hZ] [(true,Y7),rI] (c2 zC) (cF aor (cF aos nF))
def asY:=G17.q0 {merge:=mg [(3,21)],mv:=[10,24]} func244 [pf jP,pd (.sl (.int .i64))] [(true,Y10),rB] (c2 lz)
abbrev aar:SD:=⟨B::.ptr 1 0::DB::DI::cz (cP 49152 (.int .i64))::DI::bs 68 [],Z::(some Y25)::zs 72 [],.none⟩
def arP:=asY.q1 {mask:=mk [(6,[1,2,3,4,5])],merge:=mg [(1,24),(9,50),(14,2)],mv:=[55]} func142 [pf mD] [rB] (c1 Hg) aar (λX K=>xr (λy0 y1 y2=>ke 0 K aar ((z1 (w y0 (w y1 (u y2))) X.1),X.2)) (λy0 y1 y2 y3=>kr K aar ((w y0 (w y1 (w y2 (u y3))) X.1),X.2)) X.1.1 X.2.1.1) (λX=>(X.1.2.1,q2 X,q3 X)) (λX x=>((z1 (w x.1 (w x.2.1 (u x.2.2))) X.1),X.2))
def as1:=arP.q0 {merge:=mg [(1,2)]} func248 [pf iQ] [rB] (c1 xq)
def anp:=as1.q0 {merge:=mg [(1,42),(5,2)]} func146 [pf eY] [rB] (c1 Hf)
def n56:An:={mask:=mk [(5,[1,2,3,4]),(11,[2,5,6])],merge:=mg [(2,64),(7,94)]}
abbrev Wj:SD:=⟨B::.ptr 1 0::DB::DI::DI::bs 118 [],Z::(some Y0)::zs 121 [],.none⟩
def am7 (X:SD.D Wj)(K:oZ R):=xj (λy0=>ke 0 K Wj ((z2 (u y0) X.1),X.2)) (λy0 y1=>kr K Wj ((w y0 (z1 (u y1)) X.1),X.2)) X.1.1 X.1.2.1 X.2.1.1
abbrev Oo:SD:=⟨B::B::DB::B::B::cz (cP 61440 (.int .i64))::DI::bs 116 [],zs 123 [],.none⟩
def akz (X:SD.D Oo)(K:oZ R):=vg (λy0=>ke 2 K Oo ((z2 (u y0) X.1),X.2)) (λy0 y1=>kr K Oo ((w y0 (z1 (u y1)) X.1),X.2)) X.1.1 X.1.2.1
def L56:jZ:=(jZ.nil.add 5 (tW Wj am7 q2)).add 11 (tW Oo akz q2)
theorem aqO:tE E anp.g n56 L56 (bZ f56 0):=lk Wj am7 q2 λX x=>((z2 (u x) X.1),X.2)
theorem aoL:tE E anp.g n56 L56 (bZ f56 1):=lk Oo akz q2 λX x=>((z2 (u x) X.1),X.2)
def G56:=anp.qk n56 func56 [pf dk] [rB] (c1 zR) (cF aqO (cF aoL nF))
abbrev aau:SD:=⟨cz (je (.int .i64))::cz (je (.int .i64))::B::B::DB::DI::bs 20 [],zs 26 [],.none⟩
def arV:=G56.q1 {mask:=mk [(4,[0,1,4,5])]} func150 [pd (.sl (.int .i64)),pd (.sl (.int .i64))] [rB] (c2 kR) aau (λX K=>vr (λy0=>ke 0 K aau ((z3 (u y0) X.1),X.2)) (λy0 y1=>kr K aau ((z2 (w y0 (u y1)) X.1),X.2)) X.1.1 X.1.2.1 (q2 X)) q3 (λX x=>((z3 (u x) X.1),X.2))
def anq:=arV.q0 {merge:=mg [(1,4)]} func149 [pf jP,pf jP] [rB] (c2 xx)
def n57:An:={mask:=mk [(4,[2,3,4,5]),(11,[2,3,4,8])],merge:=mg [(1,54),(8,94),(13,152)]}
abbrev Wk:SD:=⟨B::B::.ptr 2 0::.ptr 3 0::DB::DI::bs 147 [],Z::Z::(some Y0)::(some Y0)::zs 149 [],.none⟩
def am8 (X:SD.D Wk)(K:oZ R):=rC (λy0=>ke 0 K Wk ((z1 (u y0) X.1),X.2)) (λy0 y1=>kr K Wk ((w y0 (u y1) X.1),X.2)) X.1.1 X.2.1.1 X.2.1.2.1
abbrev Oq:SD:=⟨B::B::.ptr 2 0::.ptr 3 0::DB::B::B::B::DI::bs 144 [],Z::Z::(some Y0)::(some Y0)::zs 149 [],.none⟩
def akA (X:SD.D Oq)(K:oZ R):=pT (λy0=>ke 2 K Oq ((z1 (u y0) X.1),X.2)) (λy0 y1=>kr K Oq ((w y0 (u y1) X.1),X.2)) X.1.1 X.2.1.1 X.2.1.2.1
def L57:jZ:=(jZ.nil.add 4 (tW Wk am8 (λX=>X.1.2.1))).add 11 (tW Oq akA (λX=>X.1.2.1))
theorem aqP:tE E anq.g n57 L57 (bZ f57 0):=lk Wk am8 (λX=>X.1.2.1) λX x=>((z1 (u x) X.1),X.2)
theorem aoM:tE E anq.g n57 L57 (bZ f57 1):=lk Oq akA (λX=>X.1.2.1) λX x=>((z1 (u x) X.1),X.2)
def G57:=anq.qk n57 func57 [pf dk,pf dk] [rB] (c2 xy) (cF aqP (cF aoM nF))
def n58:An:={mask:=mk [(4,[2,3,4,5]),(9,[2,3,4,6])],merge:=mg [(1,43)]}
abbrev Wl:SD:=⟨B::B::.ptr 2 0::.ptr 3 0::DB::DI::bs 77 [],Z::Z::(some Y16)::(some Y16)::zs 79 [],.none⟩
def am9 (X:SD.D Wl)(K:oZ R):=nV (λy0=>ke 0 K Wl ((z1 (u y0) X.1),X.2)) (λy0 y1=>kr K Wl ((w y0 (u y1) X.1),X.2)) X.1.1 X.2.1.1 X.2.1.2.1
abbrev Wm:SD:=⟨B::B::.ptr 2 0::.ptr 3 0::DB::B::DI::bs 76 [],Z::Z::(some Y16)::(some Y16)::zs 79 [],.none⟩
def ana (X:SD.D Wm)(K:oZ R):=nW (λy0=>ke 2 K Wm ((z1 (u y0) X.1),X.2)) (λy0 y1=>kr K Wm ((w y0 (u y1) X.1),X.2)) X.1.1 X.2.1.1 X.2.1.2.1
def L58:jZ:=(jZ.nil.add 4 (tW Wl am9 (λX=>X.1.2.1))).add 9 (tW Wm ana (λX=>X.1.2.1))
theorem aqQ:tE E G57.g n58 L58 (bZ f58 0):=lk Wl am9 (λX=>X.1.2.1) λX x=>((z1 (u x) X.1),X.2)
theorem aqR:tE E G57.g n58 L58 (bZ f58 1):=lk Wm ana (λX=>X.1.2.1) λX x=>((z1 (u x) X.1),X.2)
def G58:=G57.qk n58 func58 [pf nY,pf nY] [rB] (c2 tw) (cF aqQ (cF aqR nF))
def n59:An:={mask:=mk [(4,[2,3,4,5]),(9,[2,3,4,6])],merge:=mg [(1,38),(13,4)]}
abbrev Wn:SD:=⟨B::B::.ptr 2 0::.ptr 3 0::DB::DI::bs 108 [],Z::Z::(some Y0)::(some Y0)::zs 110 [],.none⟩
def anb (X:SD.D Wn)(K:oZ R):=vt (λy0=>ke 0 K Wn ((z1 (u y0) X.1),X.2)) (λy0 y1=>kr K Wn ((w y0 (u y1) X.1),X.2)) X.1.1 X.2.1.1 X.2.1.2.1
abbrev Wo:SD:=⟨B::B::.ptr 2 0::.ptr 3 0::DB::B::DI::bs 107 [],Z::Z::(some Y0)::(some Y0)::zs 110 [],.none⟩
def anc (X:SD.D Wo)(K:oZ R):=vu (λy0=>ke 2 K Wo ((z1 (u y0) X.1),X.2)) (λy0 y1=>kr K Wo ((w y0 (u y1) X.1),X.2)) X.1.1 X.2.1.1 X.2.1.2.1
def L59:jZ:=(jZ.nil.add 4 (tW Wn anb (λX=>X.1.2.1))).add 9 (tW Wo anc (λX=>X.1.2.1))
theorem aqS:tE E G58.g n59 L59 (bZ f59 0):=lk Wn anb (λX=>X.1.2.1) λX x=>((z1 (u x) X.1),X.2)
theorem aqT:tE E G58.g n59 L59 (bZ f59 1):=lk Wo anc (λX=>X.1.2.1) λX x=>((z1 (u x) X.1),X.2)
def G59:=G58.qk n59 func59 [pf dk,pf dk] [rB] (c2 Bh) (cF aqS (cF aqT nF))
def n18:An:={mask:=mk [(4,[2,3,4,5]),(8,[2,3,4,5,6,7])],merge:=mg [(1,46),(12,6)]}
abbrev ac5:SD:=⟨B::B::.ptr 2 0::.ptr 3 0::DB::DI::DB::DI::bs 122 [],Z::Z::(some Y0)::(some Y0)::zs 126 [],.none⟩
def amY (X:SD.D ac5)(K:oZ R):=oP (λy0 y1=>ke 2 K ac5 ((z2 (w y0 (u y1)) X.1),X.2)) X.1.1 X.1.2.1 X.2.1.1 X.2.1.2.1
abbrev Wd:SD:=⟨B::B::.ptr 2 0::.ptr 3 0::DB::DI::bs 124 [],Z::Z::(some Y0)::(some Y0)::zs 126 [],.none⟩
def amX (X:SD.D Wd)(K:oZ R):=oO (λy0=>ke 0 K Wd ((z1 (u y0) X.1),X.2)) (λy0 y1=>kr K Wd ((w y0 (u y1) X.1),X.2)) X.1.1 X.2.1.1 X.2.1.2.1
def L18:jZ:=(jZ.nil.add 8 (tW ac5 amY (λX=>(q2 X,q3 X)))).add 4 (tW Wd amX (λX=>X.1.2.1))
theorem aqF:tE E G59.g n18 L18 (bZ f18 1):=lk ac5 amY (λX=>(q2 X,q3 X)) λX x=>((z2 (w x.1 (u x.2)) X.1),X.2)
theorem aqE:tE E G59.g n18 L18 (bZ f18 0):=lk Wd amX (λX=>X.1.2.1) λX x=>((z1 (u x) X.1),X.2)
def G18:=G59.qk n18 func18 [pf dk,pf dk] [rB] (c2 yW) (cF aqE (cF aqF nF))
abbrev Cc:aw PS:=[pd (.sl (.int .u8))]
def FC:kH:=RM Cc [rB] (c1 Ew)
def B0:An:={mask:=mk [(5,[2,3,4,5]),(13,[2,3,4,5,6,7,9,10])],merge:=mg [(11,9),(15,100)]}
abbrev mK:SD:=⟨B::B::DB::.ptr 3 0::cz (.sl .loc hZ)::DI::.ptr 6 0::.ptr 7 0::B::DB::DI::bs 93 [],Z::Z::Z::(some Y21)::Z::Z::(some Y11)::(some Y21)::zs 96 [],.none⟩
def C6 (X:SD.D mK)(K:oZ R):=xW (λy0=>ke 2 K mK ((z4 (u y0) X.1),X.2)) (λy0 y1=>kr K mK ((w y0 (z3 (u y1)) X.1),X.2)) X.1.1 X.1.2.1 (q2 X) (q3 X) X.2.1.1 X.2.1.2.1 X.2.1.2.2.1
abbrev oc:SD:=⟨B::B::DB::.ptr 3 0::cz (.sl .loc hZ)::DI::bs 98 [],Z::Z::Z::(some Y21)::zs 100 [],.none⟩
def D4 (X:SD.D oc)(K:oZ R):=Af (λy0 y1=>ke 0 K oc ((z2 (u y0) X.1),(u y1 X.2.1),X.2.2)) (λy0 y1 y2=>kr K oc ((w y0 (z1 (u y1)) X.1),(u y2 X.2.1),X.2.2)) X.1.1 X.1.2.1
def BC:jZ:=(jZ.nil.add 13 (tW mK C6 q4)).add 5 (tW oc D4 (λX=>(q2 X,X.2.1.1)))
theorem JY:tE E G18.g B0 BC (bZ f5 1):=lk mK C6 q4 λX x=>((z4 (u x) X.1),X.2)
theorem Lj:tE E G18.g B0 BC (bZ f5 0):=lk oc D4 (λX=>(q2 X,X.2.1.1)) λX x=>((z2 (u x.1) X.1),(u x.2 X.2.1),X.2.2)
theorem PF:KI 5 FC:=fk B0 G18.s func5 (Λ:=BC) (cF Lj (cF JY nF))
end
end Go.Proofs.YtbebkmajekhclaaGreat.Fn
