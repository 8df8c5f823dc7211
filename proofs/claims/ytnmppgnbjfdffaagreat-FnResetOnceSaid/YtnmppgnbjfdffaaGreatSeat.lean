import Derived.Test.YtnmppgnbjfdffaaGreatDnSig
import Derived.Test.YtnmppgnbjfdffaaGreatPure
import Derived.Test.YtnmppgnbjfdffaaGreatRows
/- Each function of the program is its pure function (made by gen.py). -/
namespace Go.Proofs.YtnmppgnbjfdffaaGreat.Fn
open Go.Dn
open Go.Pu Go.Proofs.Tryz
set_option maxRecDepth 100000
set_option linter.unusedVariables false
noncomputable section
variable {an:An} {Γ:xl} {Λ:kN} {f:Nat} {P:Program} {A0 A1 A2 A3 A4 A5 A6 C R σ:Type} {rs:aw (Bool×FT)} {s:aw PS}
abbrev tX (R:Type):=Ex->AS->Option R
abbrev yJ:FT:=.int .i64
abbrev cx (a b:FT):FT:=.pair a b
abbrev iV (b:FT):FT:=.pair (.int .i64) b
abbrev cS (n:Nat)(t:CT):FT:=.sl (.own (some n)) t
abbrev qy (t:FT):Option FT:=some t
abbrev cW (t:FT):PD:=.data false t
abbrev lE (t:FT):PD:=.data true t
abbrev lG (t:CT):FT:=.sl .arg t
abbrev C5:=gA Tryz.prog
abbrev B:PD:=.bot
abbrev DI:PD:=.data false (.int .i64)
abbrev DB:PD:=.data false .bool
abbrev Z:ay FT:=none
theorem nF {p:Code->Prop}:∀x∈([]:aw Code),p x:=λ_ h=>nomatch h
theorem cF {p:Code->Prop}{a:Code}{l:aw Code}(h:p a)(t:∀x∈l,p x):∀x∈a::l,p x:=List.forall_mem_cons.2 ⟨h,t⟩
theorem hF {p:Code->Prop}{l m:aw Code}(e:l=m)(h:∀x∈m,p x):∀x∈l,p x:=e▸h
theorem fk {E:Env}{F:yK s->ay (jZ rs)}{fn:Func}(an:An)(hS:Sound P E Γ)(hf:P.funcs[f]?=some fn){l:aw Code}(h:∀c∈l,wC E Γ an Λ c)(hn:(fn.name== "runtime.NumGoroutine")=false:=by kernel_rfl)(hl:gY (fn.body.getD .skip)=l:=by kernel_rfl)(eY:an.cut=[]:=by kernel_rfl)(hF:∀a,Bx E Γ an Λ fn rs (kG s a)=F a:=by intro a;kernel_rfl):gA P f (Mb s rs F):=gA.of (WY hS hf hn (xw.of (Fn.hF hl h) eY)) hF
theorem ao {E:Env}{b:Code}{l:aw Code}(h:∀c∈l,wC E Γ an Λ c)(hl:gY b=l:=by kernel_rfl)(hc:an.cut=[]:=by kernel_rfl):xw E Γ an Λ b:=xw.of (Fn.hF hl h) hc
theorem ac {E:Env}{b:Code}{l m:aw Code}(h:∀c∈l,wC E Γ an Λ c)(hc:∀c∈m,Su E Γ an Λ c)(hl:gY b=l:=by kernel_rfl)(hm:kf an.cut b=m:=by kernel_rfl):xw E Γ an Λ b:=⟨Fn.hF hl h,Fn.hF hm hc⟩
theorem fc {E:Env}{F:yK s->ay (jZ rs)}{fn:Func}(an:An)(hS:Sound P E Γ)(hf:P.funcs[f]?=some fn){l m:aw Code}(h:∀c∈l,wC E Γ an Λ c)(hc:∀c∈m,Su E Γ an Λ c)(hn:(fn.name== "runtime.NumGoroutine")=false:=by kernel_rfl)(hl:gY (fn.body.getD .skip)=l:=by kernel_rfl)(hm:kf an.cut (fn.body.getD .skip)=m:=by kernel_rfl)(hF:∀a,Bx E Γ an Λ fn rs (kG s a)=F a:=by intro a;kernel_rfl):gA P f (Mb s rs F):=gA.of (WY hS hf hn ⟨Fn.hF hl h,Fn.hF hm hc⟩) hF
abbrev pd (t:CT):PS:=.data false t
abbrev pf (t:CT):PS:=.data true t
abbrev pI:PS:=.data false (.int .i64)
abbrev rB:Bool×FT:=(false,.bool)
abbrev rI:Bool×FT:=(false,.int .i64)
abbrev rS:Bool×FT:=(false,.str)
abbrev bs:Nat->aw PD->aw PD|0,l=>l|n+1,l=> .bot::bs n l
abbrev zs:Nat->aw (ay FT)->aw (ay FT)|0,l=>l|n+1,l=>none::zs n l
def mk (l:aw (Nat×ff))(n:Nat):ff:=(l.lookup n).getD []
def mg (l:aw (Nat×Nat))(n:Nat):ay Nat:=l.lookup n
def ke (n:Nat)(K:tX R)(d:SD)(x:SD.D d):ay R:=K (.exit n) (SD.enc d x)
def kn (K:tX R)(d:SD)(x:SD.D d):ay R:=K .normal (SD.enc d x)
def kr (K:tX R)(d:SD)(x:SD.D d):ay R:=K .ret (SD.enc d x)
def xR (d:SD)(t:{R:Type}->SD.D d->(Ex->AS->ay R)->(σ->ay R)->σ->ay R)(i:SD.D d->σ):F8:=⟨d,λX K=>aW (t X K) fuel (i X)⟩
theorem lk {E:Env}{c:Code}(d:SD)(t:{R:Type}->SD.D d->(Ex->AS->ay R)->(σ->ay R)->σ->ay R)(i:SD.D d->σ)(w:SD.D d->σ->SD.D d)(h1:Λ (dU c)=xR d t i:=by kernel_rfl)(h:∀(R:Type)(X:SD.D d)(K:tX R)(m:Nat)(x:σ),yy (an.mask (dU c)) (den E Γ an Λ c) (m+1) (SD.enc d (w X x)) K=t X K (λy=>yy (an.mask (dU c)) (den E Γ an Λ c) m (SD.enc d (w X y)) K) x:=by intro R X K m x;kernel_rfl)(hw:∀X,w X (i X)=X:=by intro X;kernel_rfl):wC E Γ an Λ c:=lok (xR d t i) h1 fuel λR X K=>(MK (λx=>SD.enc d (w X x)) (t X K) (h R X K) fuel (i X)).symm.trans (congrArg (λy=>yy (an.mask (dU c)) (den E Γ an Λ c) fuel (SD.enc d y) K) (hw X))
def XX (d:SD)(t:{R:Type}->SD.D d->(Ex->AS->ay R)->ay R):F8:=⟨d,λX K=>t X K⟩
theorem ck {E:Env}{c:Code}(d:SD)(t:{R:Type}->SD.D d->(Ex->AS->ay R)->ay R)(h1:Λ (Bo c)=XX d t:=by kernel_rfl)(h:∀(R:Type)(X:SD.D d)(K:tX R),t X K=den E Γ an Λ c (SD.enc d X) (λe bI=>K e (bI.mask (an.mask (Bo c+1)))):=by intro R X K;kernel_rfl):Su E Γ an Λ c:=cok (XX d t) h1 h
def u {A B:Type}(y:A)(x:A×B):A×B:=(y,x.2)
def w {A B:Type}(y:A)(f:B->B)(x:A×B):A×B:=(y,f x.2)
def z1 {B:Type}(f:B->B)(x:A0×B):A0×B:=(x.1,f x.2)
def z2 {B:Type}(f:B->B)(x:A0×A1×B):A0×A1×B:=(x.1,x.2.1,f x.2.2)
def z3 {B:Type}(f:B->B)(x:A0×A1×A2×B):A0×A1×A2×B:=(x.1,x.2.1,x.2.2.1,f x.2.2.2)
def z4 {B:Type}(f:B->B)(x:A0×A1×A2×A3×B):A0×A1×A2×A3×B:=(x.1,x.2.1,x.2.2.1,x.2.2.2.1,f x.2.2.2.2)
def z5 {B:Type}(f:B->B)(x:A0×A1×A2×A3×A4×B):A0×A1×A2×A3×A4×B:=(x.1,x.2.1,x.2.2.1,x.2.2.2.1,x.2.2.2.2.1,f x.2.2.2.2.2)
def z6 {B:Type}(f:B->B)(x:A0×A1×A2×A3×A4×A5×B):A0×A1×A2×A3×A4×A5×B:=(x.1,x.2.1,x.2.2.1,x.2.2.2.1,x.2.2.2.2.1,x.2.2.2.2.2.1,f x.2.2.2.2.2.2)
def z7 {B:Type}(f:B->B)(x:A0×A1×A2×A3×A4×A5×A6×B):A0×A1×A2×A3×A4×A5×A6×B:=(x.1,x.2.1,x.2.2.1,x.2.2.2.1,x.2.2.2.2.1,x.2.2.2.2.2.1,x.2.2.2.2.2.2.1,f x.2.2.2.2.2.2.2)
def q2 {B:Type}(x:(A0×A1×A2×B)×C):A2:=x.1.2.2.1
def q3 {B:Type}(x:(A0×A1×A2×A3×B)×C):A3:=x.1.2.2.2.1
def q4 {B:Type}(x:(A0×A1×A2×A3×A4×B)×C):A4:=x.1.2.2.2.2.1
def q5 {B:Type}(x:(A0×A1×A2×A3×A4×A5×B)×C):A5:=x.1.2.2.2.2.2.1
def q6 {B:Type}(x:(A0×A1×A2×A3×A4×A5×A6×B)×C):A6:=x.1.2.2.2.2.2.2.1
def q7 {A7 B:Type}(x:(A0×A1×A2×A3×A4×A5×A6×A7×B)×C):A7:=x.1.2.2.2.2.2.2.2.1
def q8 {A7 A8 B:Type}(x:(A0×A1×A2×A3×A4×A5×A6×A7×A8×B)×C):A8:=x.1.2.2.2.2.2.2.2.2.1
def q9 {A7 A8 A9 B:Type}(x:(A0×A1×A2×A3×A4×A5×A6×A7×A8×A9×B)×C):A9:=x.1.2.2.2.2.2.2.2.2.2.1
def c1 {B:Type}(f:A0->R)(a:A0×B):R:=f a.1
def c2 {B:Type}(f:A0->A1->R)(a:A0×A1×B):R:=f a.1 a.2.1
def c3 {B:Type}(f:A0->A1->A2->R)(a:A0×A1×A2×B):R:=f a.1 a.2.1 a.2.2.1
def c4 {B:Type}(f:A0->A1->A2->A3->R)(a:A0×A1×A2×A3×B):R:=f a.1 a.2.1 a.2.2.1 a.2.2.2.1
def c5 {B:Type}(f:A0->A1->A2->A3->A4->R)(a:A0×A1×A2×A3×A4×B):R:=f a.1 a.2.1 a.2.2.1 a.2.2.2.1 a.2.2.2.2.1
def c6 {B:Type}(f:A0->A1->A2->A3->A4->A5->R)(a:A0×A1×A2×A3×A4×A5×B):R:=f a.1 a.2.1 a.2.2.1 a.2.2.2.1 a.2.2.2.2.1 a.2.2.2.2.2.1
def c7 {B:Type}(f:A0->A1->A2->A3->A4->A5->A6->R)(a:A0×A1×A2×A3×A4×A5×A6×B):R:=f a.1 a.2.1 a.2.2.1 a.2.2.2.1 a.2.2.2.2.1 a.2.2.2.2.2.1 a.2.2.2.2.2.2.1
theorem f0 {E:Env}{F:yK s->ay (jZ rs)}{fn:Func}(an:An)(hS:Sound P E Γ)(hf:P.funcs[f]?=some fn)(hn:(fn.name== "runtime.NumGoroutine")=false:=by kernel_rfl)(hl:gY (fn.body.getD .skip)=[]:=by kernel_rfl)(eY:an.cut=[]:=by rfl)(hF:∀a,Bx E Γ an kN.nil fn rs (kG s a)=F a:=by intro a;kernel_rfl):gA P f (Mb s rs F):=gA.of (WY hS hf hn (xw.of (Fn.hF hl nF) eY)) hF
abbrev Y21:FT:=iV (iV yJ)
abbrev Y1:FT:=cx yJ Y21
abbrev Y9:FT:=iV (iV (iV (.sl (.own none) (.int .i64))))
abbrev Y18:FT:=cx Y1 (cx Y9 (cx (.sl (.own none) iO) yJ))
abbrev Y24:FT:=iV (cx .bool (.sl (.own none) (.int .i64)))
abbrev Y20:FT:=cx (.sl (.own none) ji) (cx (.sl (.own none) gx) (cx .str (.sl (.own none) (.int .i64))))
abbrev Y0:FT:=cx (.sl (.own none) .str) (cx (.sl (.own none) bB) (cx Y18 (cx (.sl (.own none) dP) (cx (.sl (.own none) iX) (cx (.sl (.own none) fI) (cx (.sl (.own none) .bool) (cx Y24 (cx Y20 (cx (.sl (.own none) dM) (cx .bool (cx (.sl (.own none) .str) (cx (.sl (.own none) (.int .i64)) (cx (.sl (.own none) (.int .i64)) (cx yJ Y1))))))))))))))
abbrev Y2:FT:=cx (cS 24577 .str) (cx (cS 24580 bB) (cx (cx Y1 (cx (iV (iV (iV (cS 24604 (.int .i64))))) (cx (cS 24607 iO) yJ))) (cx (cS 24613 dP) (cx (cS 24616 iX) (cx (cS 24619 fI) (cx (cS 24622 .bool) (cx (iV (cx .bool (cS 24631 (.int .i64)))) (cx (cx (cS 24634 ji) (cx (cS 24637 gx) (cx .str (cS 24643 (.int .i64))))) (cx (cS 24646 dM) (cx .bool (cx (cS 24652 .str) (cx (cS 24655 (.int .i64)) (cx (cS 24658 (.int .i64)) (cx yJ Y1))))))))))))))
abbrev Y16:FT:=iV (iV (iV (iV .str)))
abbrev Y22:FT:=iV (cx yJ Y16)
abbrev Y3:FT:=iV (iV (iV (iV (iV (iV (iV (iV (cx yJ Y22))))))))
abbrev Y4:FT:=cx (cS 36865 .str) (cx (cS 36868 bB) (cx (cx Y1 (cx (iV (iV (iV (cS 36892 (.int .i64))))) (cx (cS 36895 iO) yJ))) (cx (cS 36901 dP) (cx (cS 36904 iX) (cx (cS 36907 fI) (cx (cS 36910 .bool) (cx (iV (cx .bool (cS 36919 (.int .i64)))) (cx (cx (cS 36922 ji) (cx (cS 36925 gx) (cx .str (cS 36931 (.int .i64))))) (cx (cS 36934 dM) (cx .bool (cx (cS 36940 .str) (cx (cS 36943 (.int .i64)) (cx (cS 36946 (.int .i64)) (cx yJ Y1))))))))))))))
abbrev Y15:FT:=iV (iV (iV (.sl .arg (.int .i64))))
abbrev Y25:FT:=cx Y1 (cx Y15 (cx (.sl .arg iO) yJ))
abbrev Y26:FT:=iV (cx .bool (.sl .arg (.int .i64)))
abbrev Y19:FT:=cx (.sl .arg ji) (cx (.sl .arg gx) (cx .str (.sl .arg (.int .i64))))
abbrev Y5:FT:=cx (.sl .arg .str) (cx (.sl .arg bB) (cx Y25 (cx (.sl .arg dP) (cx (.sl .arg iX) (cx (.sl .arg fI) (cx (.sl .arg .bool) (cx Y26 (cx Y19 (cx (.sl .arg dM) (cx .bool (cx (.sl .arg .str) (cx (.sl .arg (.int .i64)) (cx (.sl .arg (.int .i64)) (cx yJ Y1))))))))))))))
abbrev Y6:FT:=cx (.sl .loc .str) (cx (.sl .loc bB) (cx (cx Y1 (cx (iV (iV (iV (.sl .loc (.int .i64))))) (cx (.sl .loc iO) yJ))) (cx (.sl .loc dP) (cx (.sl .loc iX) (cx (.sl .loc fI) (cx (.sl .loc .bool) (cx (iV (cx .bool (.sl .loc (.int .i64)))) (cx (cx (.sl .loc ji) (cx (.sl .loc gx) (cx .str (.sl .loc (.int .i64))))) (cx (.sl .loc dM) (cx .bool (cx (.sl .loc .str) (cx (.sl .loc (.int .i64)) (cx (.sl .loc (.int .i64)) (cx yJ Y1))))))))))))))
abbrev Y7:FT:=cx (cS 49153 .str) (cx (cS 49156 bB) (cx (cx Y1 (cx (iV (iV (iV (cS 49180 (.int .i64))))) (cx (cS 49183 iO) yJ))) (cx (cS 49189 dP) (cx (cS 49192 iX) (cx (cS 49195 fI) (cx (cS 49198 .bool) (cx (iV (cx .bool (cS 49207 (.int .i64)))) (cx (cx (cS 49210 ji) (cx (cS 49213 gx) (cx .str (cS 49219 (.int .i64))))) (cx (cS 49222 dM) (cx .bool (cx (cS 49228 .str) (cx (cS 49231 (.int .i64)) (cx (cS 49234 (.int .i64)) (cx yJ Y1))))))))))))))
abbrev Y8:FT:=cx (.sl .vT (.int .u8)) (iV yJ)
abbrev Y10:FT:=cx Y1 (cx Y21 (cx Y21 (cx (cx Y3 (iV yJ)) (cx .bool yJ))))
abbrev Y11:FT:=cx (cS 196609 .str) (cx (cS 196612 bB) (cx (cx Y1 (cx (iV (iV (iV (cS 196636 (.int .i64))))) (cx (cS 196639 iO) yJ))) (cx (cS 196645 dP) (cx (cS 196648 iX) (cx (cS 196651 fI) (cx (cS 196654 .bool) (cx (iV (cx .bool (cS 196663 (.int .i64)))) (cx (cx (cS 196666 ji) (cx (cS 196669 gx) (cx .str (cS 196675 (.int .i64))))) (cx (cS 196678 dM) (cx .bool (cx (cS 196684 .str) (cx (cS 196687 (.int .i64)) (cx (cS 196690 (.int .i64)) (cx yJ Y1))))))))))))))
abbrev Y12:FT:=cx (cS 147457 .str) (cx (cS 147460 bB) (cx (cx Y1 (cx (iV (iV (iV (cS 147484 (.int .i64))))) (cx (cS 147487 iO) yJ))) (cx (cS 147493 dP) (cx (cS 147496 iX) (cx (cS 147499 fI) (cx (cS 147502 .bool) (cx (iV (cx .bool (cS 147511 (.int .i64)))) (cx (cx (cS 147514 ji) (cx (cS 147517 gx) (cx .str (cS 147523 (.int .i64))))) (cx (cS 147526 dM) (cx .bool (cx (cS 147532 .str) (cx (cS 147535 (.int .i64)) (cx (cS 147538 (.int .i64)) (cx yJ Y1))))))))))))))
abbrev Y13:FT:=cx (cS 86017 .str) (cx (cS 86020 bB) (cx (cx Y1 (cx (iV (iV (iV (cS 86044 (.int .i64))))) (cx (cS 86047 iO) yJ))) (cx (cS 86053 dP) (cx (cS 86056 iX) (cx (cS 86059 fI) (cx (cS 86062 .bool) (cx (iV (cx .bool (cS 86071 (.int .i64)))) (cx (cx (cS 86074 ji) (cx (cS 86077 gx) (cx .str (cS 86083 (.int .i64))))) (cx (cS 86086 dM) (cx .bool (cx (cS 86092 .str) (cx (cS 86095 (.int .i64)) (cx (cS 86098 (.int .i64)) (cx yJ Y1))))))))))))))
abbrev Y14:FT:=iV (iV (iV (iV (cx .bool .bool))))
abbrev Y17:FT:=cx (cS 49153 ji) (cx (cS 49156 gx) (cx .str (cS 49162 (.int .i64))))
abbrev Y23:FT:=cx (cS 24577 ji) (cx (cS 24580 gx) (cx .str (cS 24586 (.int .i64))))
abbrev Y27:FT:=iV (iV (iV (cS 184330 (.int .i64))))
abbrev Y28:FT:=iV (iV (iV (cS 147466 (.int .i64))))
abbrev Y29:FT:=iV (iV (iV (cS 98314 (.int .i64))))
abbrev Y30:FT:=iV (iV (iV (cS 73738 (.int .i64))))
def E:Env:={ty:=[(3,⟨false,(.int .i64),[]⟩),(4,⟨false,.bool,[]⟩),(5,⟨false,(.int .u8),[]⟩),(9,⟨false,.str,[]⟩),(22,⟨false,(.sl (.int .u8)),[(5,0)]⟩),(24,⟨false,(.sl .str),[(9,0)]⟩),(26,⟨true,(.sl .str),[(0,1)]⟩),(27,⟨false,(.sl bB),[(99,0)]⟩),(29,⟨true,rY,[(0,1),(1,1),(2,1),(3,1)]⟩),(30,⟨false,(.sl (.int .i64)),[(3,0)]⟩),(32,⟨true,iX,[(0,1),(1,1),(2,1),(3,1)]⟩),(33,⟨false,(.sl iO),[(104,0)]⟩),(35,⟨true,mc,[(0,4),(4,4),(8,1),(9,1)]⟩),(36,⟨false,(.sl dP),[(111,0)]⟩),(37,⟨false,(.sl iX),[(32,0)]⟩),(38,⟨false,(.sl fI),[(74,0)]⟩),(39,⟨false,(.sl .bool),[(4,0)]⟩),(41,⟨true,yg,[(0,1),(1,1),(2,1)]⟩),(42,⟨false,(.sl ji),[(190,0)]⟩),(43,⟨false,(.sl gx),[(192,0)]⟩),(45,⟨true,(.sl gx),[(0,1)]⟩),(47,⟨true,Ct,[(0,1),(1,1)]⟩),(49,⟨true,rZ,[(0,1),(1,1),(2,2)]⟩),(50,⟨false,(.sl dM),[(134,0)]⟩),(52,⟨true,oR,[(0,1),(1,1),(2,1),(3,1),(4,1)]⟩),(54,⟨true,dJ,[(0,1),(1,1),(2,10),(12,1),(13,1),(14,1),(15,1),(16,3),(19,4),(23,1),(24,1),(25,1),(26,1),(27,1),(28,5)]⟩),(55,⟨false,(.sl zR),[(92,0)]⟩),(74,⟨true,fI,[(0,1),(1,1),(2,1),(3,1),(4,1),(5,1)]⟩),(88,⟨true,zh,[(0,1),(1,1),(2,1),(3,1),(4,1),(5,1),(6,1),(7,1)]⟩),(90,⟨true,cQ,[(0,1),(1,1),(2,1),(3,1),(4,1),(5,1),(6,1),(7,1),(8,8)]⟩),(92,⟨true,zR,[(0,1),(1,16),(17,1),(18,1),(19,1),(20,1)]⟩),(99,⟨true,bB,[(0,1),(1,1),(2,1),(3,1)]⟩),(104,⟨true,iO,[(0,1),(1,1),(2,1)]⟩),(107,⟨true,gM,[(0,1),(1,1),(2,1)]⟩),(109,⟨true,Nm,[(0,16),(16,1),(17,1)]⟩),(111,⟨true,dP,[(0,4),(4,3),(7,3),(10,18),(28,1),(29,1)]⟩),(132,⟨true,oR,[(0,1),(1,1),(2,1),(3,1),(4,1)]⟩),(134,⟨true,dM,[(0,5),(5,1),(6,1),(7,1)]⟩),(137,⟨true,(.pair (.sl (.int .u8)) (.pair (.int .i64) (.int .i64))),[(0,1),(1,1),(2,1)]⟩),(138,⟨false,(.sl cQ),[(90,0)]⟩),(180,⟨true,mQ,[(0,1),(1,1),(2,1),(3,1),(4,1),(5,1)]⟩),(190,⟨true,ji,[(0,1),(1,1),(2,1),(3,1),(4,1),(5,1),(6,1),(7,1),(8,1)]⟩),(192,⟨true,gx,[(0,1),(1,5),(6,1)]⟩),(204,⟨true,oR,[(0,1),(1,1),(2,1),(3,1),(4,1)]⟩),(234,⟨false,(.sl iA),[(238,0)]⟩),(238,⟨true,iA,[(0,1),(1,1)]⟩),(262,⟨true,TIp,[(0,1),(1,1),(2,1),(3,1),(4,1),(5,1),(6,1)]⟩),(265,⟨true,Zy,[(0,1),(1,1),(2,1),(3,1),(4,1)]⟩),(285,⟨false,(.sl iA),[(319,0)]⟩),(288,⟨false,(.sl mQ),[(180,0)]⟩),(319,⟨true,iA,[(0,1),(1,1)]⟩),(334,⟨false,(.int .u32),[]⟩)],eqs:=[(90,[.int,.int,.int,.int,.int,.int,.int,.int,.int,.int,.int,.int,.int,.int,.int,.str]),(109,[.int,.int,.int,.int,.int,.int,.int,.int,.int,.int,.int,.int,.int,.int,.int,.str,.int,.int]),(132,[.int,.int,.int,.int,.int]),(180,[.int,.int,.int,.int,.int,.int])],fts:=[]}
theorem base:Sound Tryz.prog E xl.nil:=Sound.nil (Ra (by kernel_rfl)) (Rd (by kernel_rfl)) (Rc (by kernel_rfl)) (by kernel_rfl)
structure SG where (g:xl) (s:Sound Tryz.prog E g)
def SG.add (S:SG){F:iW}(h:C5 f F):SG:=⟨S.g.add f F,S.s.add h⟩
def G0:SG:=⟨xl.nil,base⟩
def SG.q0 (S:SG){fn:Func}(an:An)(hf:Tryz.prog.funcs[f]?=some fn)(s:aw PS)(rs:aw (Bool×FT))(F:yK s->ay (jZ rs))(hn:(fn.name== "runtime.NumGoroutine")=false:=by kernel_rfl)(hl:gY (fn.body.getD .skip)=[]:=by kernel_rfl)(eY:an.cut=[]:=by rfl)(hF:∀a,Bx E S.g an kN.nil fn rs (kG s a)=F a:=by intro a;kernel_rfl):SG:=S.add (gA.of (WY S.s hf hn (xw.of (Fn.hF hl nF) eY)) hF)
def SG.qk (S:SG){fn:Func}(an:An)(hf:Tryz.prog.funcs[f]?=some fn)(s:aw PS)(rs:aw (Bool×FT))(F:yK s->ay (jZ rs)){l:aw Code}(h:∀c∈l,wC E S.g an Λ c)(hn:(fn.name== "runtime.NumGoroutine")=false:=by kernel_rfl)(hl:gY (fn.body.getD .skip)=l:=by kernel_rfl)(eY:an.cut=[]:=by kernel_rfl)(hF:∀a,Bx E S.g an Λ fn rs (kG s a)=F a:=by intro a;kernel_rfl):SG:=S.add (gA.of (WY S.s hf hn (xw.of (Fn.hF hl h) eY)) hF)
def SG.q1 (S:SG){fn:Func}(an:An)(hf:Tryz.prog.funcs[f]?=some fn)(s:aw PS)(rs:aw (Bool×FT))(F:yK s->ay (jZ rs))(d:SD)(t:{R:Type}->SD.D d->(Ex->AS->ay R)->(σ->ay R)->σ->ay R)(i:SD.D d->σ)(w:SD.D d->σ->SD.D d)(h1:(kN.nil.add (dU (cG fn 0)) (xR d t i)) (dU (cG fn 0))=xR d t i:=by kernel_rfl)(h:∀(R:Type)(X:SD.D d)(K:tX R)(m:Nat)(x:σ),yy (an.mask (dU (cG fn 0))) (den E S.g an (kN.nil.add (dU (cG fn 0)) (xR d t i)) (cG fn 0)) (m+1) (SD.enc d (w X x)) K=t X K (λy=>yy (an.mask (dU (cG fn 0))) (den E S.g an (kN.nil.add (dU (cG fn 0)) (xR d t i)) (cG fn 0)) m (SD.enc d (w X y)) K) x:=by intro R X K m x;kernel_rfl)(hw:∀X,w X (i X)=X:=by intro X;kernel_rfl)(hn:(fn.name== "runtime.NumGoroutine")=false:=by kernel_rfl)(hl:gY (fn.body.getD .skip)=[cG fn 0]:=by kernel_rfl)(eY:an.cut=[]:=by kernel_rfl)(hF:∀a,Bx E S.g an (kN.nil.add (dU (cG fn 0)) (xR d t i)) fn rs (kG s a)=F a:=by intro a;kernel_rfl):SG:=S.add (gA.of (WY S.s hf hn (xw.of (Fn.hF hl (cF (lk d t i w h1 h hw) nF)) eY)) hF)
def G6:=G0.q0 {} func6 [pd (.sl (.int .u8))] [rB] (c1 Fo)
def e26:iW:=Tv (.pair (.sl .arg (.int .u8)) (.pair (.int .i64) (.int .i64))) [pd (.sl (.int .u8))] λa=>yG a.1
def n26:An:={mask:=mk [(3,[0,3,4])],merge:=mg [(3,15)]}
abbrev Vy:SD:=⟨cW (lG (.int .u8))::B::B::DI::DI::bs 27 [],zs 32 [],.none⟩
def aeD (X:SD.D Vy)(K:tX R):=xY (λy0 y1=>ke 0 K Vy ((z1 (w y0 (u y1)) X.1),X.2)) X.1.1
def L26:kN:=kN.nil.add 3 (xR Vy aeD (λX=>(X.1.2.1,q2 X)))
theorem ahK:wC E G6.g n26 L26 (cG f26 0):=lk Vy aeD (λX=>(X.1.2.1,q2 X)) λX x=>((z1 (w x.1 (u x.2)) X.1),X.2)
theorem o26:C5 26 e26:=gA.ah1 (ag7 (Γ:=G6.g) (an:=n26) (Λ:=L26) (G6.s) func26 (by kernel_rfl) (ao (cF ahK nF))) (λa=>by kernel_rfl)
def G26:=G6.add o26
def ak4:iW:=jc (.pair (.sl .vT (.int .u8)) (.pair (.int .i64) (.int .i64))) [] [rI] λx a=>jO x
theorem al0:C5 124 ak4:=gA.oJ (ov (an:={}) (Λ:=kN.nil) (G26.s) func124 (by kernel_rfl) (ao nF)) (λx a=>by kernel_rfl)
def agz:=G26.add al0
def e67:iW:=jc (.pair (.sl .vT (.int .u8)) (.pair (.int .i64) (.int .i64))) [pI] [rI] λx a=>bZ x a.1
theorem o67:C5 67 e67:=gA.oJ (ov (an:={}) (Λ:=kN.nil) (agz.s) func67 (by kernel_rfl) (ao nF)) (λx a=>by kernel_rfl)
def G67:=agz.add o67
def e65:iW:=jc (.pair (.sl .vT (.int .u8)) (.pair (.int .i64) (.int .i64))) [pI] [rB] λx a=>gj x a.1
theorem o65:C5 65 e65:=gA.oJ (ov (an:={}) (Λ:=kN.nil) (G67.s) func65 (by kernel_rfl) (ao nF)) (λx a=>by kernel_rfl)
def G65:=G67.add o65
def e68:iW:=jc (.pair (.sl .vT (.int .u8)) (.pair (.int .i64) (.int .i64))) [pI] [rS] λx a=>lj x a.1
def n68:An:={mask:=mk [(5,[0,1,5,6])],mv:=[15]}
abbrev VC:SD:=⟨.ptr 0 0::DI::B::B::B::cW (cS 61440 (.int .u8))::DI::bs 16 [],(some Y8)::zs 22 [],.ptr⟩
def aeI (X:SD.D VC)(K:tX R):=nN (λy0 y1 y2=>ke 0 K VC ((z1 (w y0 (u y1)) X.1),(u y2 X.2.1),X.2.2)) X.1.1
def L68:kN:=kN.nil.add 5 (xR VC aeI (λX=>(X.1.2.1,q2 X,X.2.1.1)))
theorem ahP:wC E G65.g n68 L68 (cG f68 0):=lk VC aeI (λX=>(X.1.2.1,q2 X,X.2.1.1)) λX x=>((z1 (w x.1 (u x.2.1)) X.1),(u x.2.2 X.2.1),X.2.2)
theorem o68:C5 68 e68:=gA.oJ (ov (Γ:=G65.g) (an:=n68) (Λ:=L68) (G65.s) func68 (by kernel_rfl) (ao (cF ahP nF))) (λx a=>by kernel_rfl)
def G68:=G65.add o68
def e70:iW:=jc (.pair (.sl .vT (.int .u8)) (.pair (.int .i64) (.int .i64))) [pd (.sl (.int .i64))] [rI] λx a=>cm x a.1
theorem o70:C5 70 e70:=gA.oJ (ov (an:={}) (Λ:=kN.nil) (G68.s) func70 (by kernel_rfl) (ao nF)) (λx a=>by kernel_rfl)
def G70:=G68.add o70
def ak5:iW:=jc (.pair (.sl .vT (.int .u8)) (.pair (.int .i64) (.int .i64))) [] [rI] λx a=>qj x
theorem al1:C5 125 ak5:=gA.oJ (ov (an:={}) (Λ:=kN.nil) (G70.s) func125 (by kernel_rfl) (ao nF)) (λx a=>by kernel_rfl)
def agA:=G70.add al1
def ala:iW:=jc (.pair (.sl .vT (.int .u8)) (.pair (.int .i64) (.int .i64))) [] [rI] λx a=>vn x
theorem al6:C5 182 ala:=gA.oJ (ov (an:={}) (Λ:=kN.nil) (agA.s) func182 (by kernel_rfl) (ao nF)) (λx a=>by kernel_rfl)
def agE:=agA.add al6
def ak6:iW:=jc (.pair (.sl .vT (.int .u8)) (.pair (.int .i64) (.int .i64))) [pI] [(true,(.pair (.int .i64) Y22))] λx a=>rG x a.1
theorem al2:C5 126 ak6:=gA.oJ (ov (an:={}) (Λ:=kN.nil) (agE.s) func126 (by kernel_rfl) (ao nF)) (λx a=>by kernel_rfl)
def agB:=agE.add al2
def e69:iW:=jc (.pair (.sl .vT (.int .u8)) (.pair (.int .i64) (.int .i64))) [pI] [(true,Y3)] λx a=>ku x a.1
theorem o69:C5 69 e69:=gA.oJ (ov (an:={}) (Λ:=kN.nil) (agB.s) func69 (by kernel_rfl) (ao nF)) (λx a=>by kernel_rfl)
def G69:=agB.add o69
def e63:iW:=jc (.pair (.sl .vT (.int .u8)) (.pair (.int .i64) (.int .i64))) [pI] [(false,(.sl (.own none) cQ))] λx a=>wV x a.1
def V6:An:={mask:=mk [(5,[0,5,6,7,8]),(1000012,[0,5,6,7,8]),(1000013,[0,5,6,7,8]),(1000014,[0,5,6,7,8]),(1000015,[0,5,6,7,8]),(1000018,[0,5,6,7,8]),(1000019,[0,5,6,7,8]),(1000022,[0,5,6,7,8]),(1000023,[0,5,6,7,8]),(1000028,[0,5,6,7,8]),(1000029,[0,5,6,7,8]),(1000034,[0,5,6,7,8,64]),(1000035,[0,5,6,7,8])],cut:=[6,7,9,11,14,17],mv:=[47,76]}
abbrev Bs:SD:=⟨.ptr 0 0::bs 4 (cW (cS 61440 cQ)::.ptr 6 0::DI::DI::bs 55 (DB::bs 12 [])),(some Y8)::zs 5 ((some Y3)::zs 70 []),.ptr⟩
abbrev NT:SD:=⟨.ptr 0 0::bs 4 (cW (cS 61440 cQ)::.ptr 6 0::DI::DI::bs 68 []),(some Y8)::zs 5 ((some Y3)::zs 70 []),.ptr⟩
def H4 (X:SD.D Bs)(K:tX R):ay R:=uy (λy0=>kn K NT ((X.1.1,(X.1.2.1,(X.1.2.2.1,()))),(X.2.1.1,(y0,())),())) X.1.1 X.1.2.1 (q2 X) (q3 X) X.2.1.1 X.2.1.2.1
abbrev yq:SD:=⟨.ptr 0 0::bs 4 (cW (cS 61440 cQ)::.ptr 6 0::DI::DI::bs 68 []),(some Y8)::zs 5 ((some Y3)::zs 70 []),.ptr⟩
def H3 (X:SD.D yq)(K:tX R):ay R:=mL (λy0 y1 y2=>kn K yq ((u y0 X.1),(w y1 (u y2) X.2.1),X.2.2)) X.1.1 X.1.2.1 (q2 X) X.2.1.1 X.2.1.2.1
abbrev yp:SD:=⟨.ptr 0 0::bs 4 (cW (cS 61440 cQ)::.ptr 6 0::DI::DI::bs 68 []),(some Y8)::zs 5 ((some Y3)::zs 70 []),.ptr⟩
def H2 (X:SD.D yp)(K:tX R):ay R:=mK (λy0 y1 y2=>kn K yp ((u y0 X.1),(w y1 (u y2) X.2.1),X.2.2)) X.1.1 X.1.2.1 (q2 X) X.2.1.1 X.2.1.2.1
abbrev yo:SD:=⟨.ptr 0 0::bs 4 (cW (cS 61440 cQ)::.ptr 6 0::DI::DI::bs 68 []),(some Y8)::zs 5 ((some Y3)::zs 70 []),.ptr⟩
def H0 (X:SD.D yo)(K:tX R):ay R:=nP (λy0 y1 y2 y3=>kn K yo ((w y0 (u y1) X.1),(w y2 (u y3) X.2.1),X.2.2)) X.1.1 X.1.2.1 (q2 X) X.2.1.1 X.2.1.2.1
abbrev ym:SD:=⟨.ptr 0 0::bs 4 (cW (cS 61440 cQ)::.ptr 6 0::DI::DI::bs 68 []),(some Y8)::zs 5 ((some Y3)::zs 70 []),.ptr⟩
def HY (X:SD.D ym)(K:tX R):ay R:=nO (λy0=>kn K ym ((z2 (u y0) X.1),X.2)) X.1.1 X.1.2.1 (q2 X) X.2.1.1 X.2.1.2.1
abbrev yn:SD:=⟨.ptr 0 0::bs 4 (cW (cS 61440 cQ)::.ptr 6 0::DI::DI::bs 68 []),(some Y8)::zs 5 ((some Y3)::zs 70 []),.ptr⟩
def HZ (X:SD.D yn)(K:tX R):ay R:=rH (λy0 y1 y2 y3 y4=>kn K yn ((w y0 (w y1 (u y2)) X.1),(w y3 (u y4) X.2.1),X.2.2)) X.1.1 X.1.2.1 (q2 X) X.2.1.1 X.2.1.2.1
abbrev VB:SD:=⟨.ptr 0 0::bs 4 (cW (cS 61440 cQ)::.ptr 6 0::DI::DI::bs 68 []),(some Y8)::zs 5 ((some Y3)::zs 70 []),.ptr⟩
def aeH (X:SD.D VB)(K:tX R):=wh (λy0 y1 y2 y3 y4=>ke 0 K VB ((w y0 (w y1 (u y2)) X.1),(w y3 (u y4) X.2.1),X.2.2))
def L63:kN:=((((((kN.nil.add 1000034 (XX Bs H4)).add 1000028 (XX yq H3)).add 1000022 (XX yp H2)).add 1000018 (XX yo H0)).add 1000012 (XX ym HY)).add 1000014 (XX yn HZ)).add 5 (xR VB aeH (λX=>(X.1.1,X.1.2.1,q2 X,X.2.1.1,X.2.1.2.1)))
theorem Q6:Su E G69.g V6 L63 (sG V6.cut f63 4):=ck Bs H4
theorem Q5:Su E G69.g V6 L63 (sG V6.cut f63 3):=ck yq H3
theorem Q4:Su E G69.g V6 L63 (sG V6.cut f63 2):=ck yp H2
theorem Q3:Su E G69.g V6 L63 (sG V6.cut f63 1):=ck yo H0
theorem Q1:Su E G69.g V6 L63 (sG V6.cut f63 5):=ck ym HY
theorem Q2:Su E G69.g V6 L63 (sG V6.cut f63 0):=ck yn HZ
theorem ahO:wC E G69.g V6 L63 (cG f63 0):=lk VB aeH (λX=>(X.1.1,X.1.2.1,q2 X,X.2.1.1,X.2.1.2.1)) λX x=>((w x.1 (w x.2.1 (u x.2.2.1)) X.1),(w x.2.2.2.1 (u x.2.2.2.2) X.2.1),X.2.2)
theorem o63:C5 63 e63:=gA.oJ (ov (Γ:=G69.g) (an:=V6) (Λ:=L63) (G69.s) func63 (by kernel_rfl) (ac (cF ahO nF) (cF Q2 (cF Q3 (cF Q4 (cF Q5 (cF Q6 (cF Q1 nF)))))))) (λx a=>by kernel_rfl)
def G63:=G69.add o63
def aif:=G63.q0 {merge:=mg [(1,6)]} func108 [pI,pI,pI] [rB] (c3 aY)
def ajQ:=aif.q0 {merge:=mg [(1,18),(4,2),(5,2)]} func230 [pf zh] [rB] (c1 pq)
def ai7:=ajQ.q0 {merge:=mg [(1,55),(3,3),(4,2)]} func176 [pf cQ] [rB] (c1 qh)
def air:=ai7.q0 {merge:=mg [(1,2)]} func120 [pf cQ] [rB] (c1 qW)
def ait:=air.q0 {merge:=mg [(1,6)]} func123 [pd .str,pI,pI] [rB] (c3 mJ)
def G66:=ait.q0 {} func66 [pd .str,pI,pd .str] [rS] (c3 ia)
def ajR:=G66.q0 {} func231 [pI] [rS] (c1 de)
def ajS:=ajR.q0 {} func232 [pI] [rS] (c1 fN)
def ajT:=ajS.q0 {merge:=mg [(1,27)]} func233 [pI,pI,pI,pI] [rS,rB] (c4 lg)
def akM:=ajT.q0 {merge:=mg [(1,12)]} func294 [pI,pI] [rI] (c2 lf)
abbrev Z9:SD:=⟨cW .str::B::B::DI::DI::bs 28 [],zs 33 [],.none⟩
def akr:=akM.q1 {mask:=mk [(3,[0,3,4])]} func272 [pd .str] [rI] (c1 vm) Z9 (λX K=>qg (λy0 y1=>ke 0 K Z9 ((z1 (w y0 (u y1)) X.1),X.2)) X.1.1) (λX=>(X.1.2.1,q2 X)) (λX x=>((z1 (w x.1 (u x.2)) X.1),X.2))
def ajU:=akr.q0 {} func234 [pd .str] [rI] (c1 od)
def ai8:=ajU.q0 {merge:=mg [(14,82)]} func177 [pI,pI,pf zh] [rS,rB] (c3 jo)
def aks:=ai8.q0 {merge:=mg [(1,2)]} func273 [pf TIp] [rB] (c1 CX)
def ajV:=aks.q0 {} func235 [pf TIp] [rS,rB] (c1 vi)
def ai9:=ajV.q0 {} func178 [pf TIp] [rS,rB] (c1 tw)
def ajW:=ai9.q0 {merge:=mg [(1,2)]} func236 [pf Zy] [rB] (c1 uw)
def ajX:=ajW.q0 {} func237 [pI] [rS] (c1 iy)
def aja:=ajX.q0 {} func179 [pf Zy] [rS,rB] (c1 vd)
abbrev ZQ:SD:=⟨DI::cW (.int .u8)::B::B::B::cW (cS 61440 (.int .u8))::DI::bs 13 [],zs 20 [],.none⟩
def aiv:=aja.q1 {mask:=mk [(3,[0,1,5,6])]} func131 [pI,pd (.int .u8)] [rS] (c2 il) ZQ (λX K=>nM (λy0 y1=>ke 0 K ZQ ((z2 (w y0 (u y1)) X.1),X.2)) X.1.1 X.1.2.1) (λX=>(q2 X,q3 X)) (λX x=>((z2 (w x.1 (u x.2)) X.1),X.2))
def ajb:=aiv.q0 {} func180 [pd .str] [rS] (c1 wQ)
def aeP:=ajb.q0 {} func121 [pf cQ] [rS,rB] (c1 rz)
def af5:An:={mask:=mk [(3,[0,3,4]),(7,[0,3,4,5])]}
abbrev NI:SD:=⟨cW .str::B::B::DI::DI::DI::bs 26 [],zs 32 [],.none⟩
def ab9 (X:SD.D NI)(K:tX R):=oe (λy0 y1=>ke 2 K NI ((z1 (w y0 (z1 (u y1))) X.1),X.2)) X.1.1 (q2 X)
abbrev NH:SD:=⟨cW .str::B::B::DI::DI::bs 27 [],zs 32 [],.none⟩
def ab8 (X:SD.D NH)(K:tX R):=qS (λy0 y1=>ke 0 K NH ((z1 (w y0 (u y1)) X.1),X.2)) X.1.1
def agN:kN:=(kN.nil.add 7 (xR NI ab9 (λX=>(X.1.2.1,q3 X)))).add 3 (xR NH ab8 (λX=>(X.1.2.1,q2 X)))
theorem afM:wC E aeP.g af5 agN (cG f181 1):=lk NI ab9 (λX=>(X.1.2.1,q3 X)) λX x=>((z1 (w x.1 (z1 (u x.2))) X.1),X.2)
theorem afL:wC E aeP.g af5 agN (cG f181 0):=lk NH ab8 (λX=>(X.1.2.1,q2 X)) λX x=>((z1 (w x.1 (u x.2)) X.1),X.2)
def ajc:=aeP.qk af5 func181 [pd .str] [rI] (c1 AA) (cF afL (cF afM nF))
def ais:=ajc.q0 {} func122 [pd .str] [rS] (c1 tH)
def G64:=ais.q0 {} func64 [pf cQ] [rS,rB] (c1 ry)
def e27:iW:=jc (.pair (.sl .vT (.int .u8)) (.pair (.int .i64) (.int .i64))) [pd .bool] [(false,(.sl (.own none) zR))] λx a=>xf x a.1
def Zo:An:={mask:=mk [(4,[0,1,5,6,7]),(1000010,[0,1,5,6,7]),(1000011,[0,1,5,6,7]),(1000012,[0,1,5,6,7]),(1000013,[0,1,5,6,7]),(1000018,[0,1,5,6,7,8]),(1000019,[0,1,5,6,7]),(1000030,[0,1,5,6,7,43,50]),(1000031,[0,1,5,6,7]),(1000038,[0,1,5,6,7,43,57]),(1000039,[0,1,5,6,7])],cut:=[5,6,9,15,19],mv:=[37,46,53,61,70,84,91,95]}
abbrev Br:SD:=⟨.ptr 0 0::DB::B::B::B::cW (cS 61440 zR)::cW (cS 73728 cQ)::DI::bs 35 (DI::bs 13 (DB::bs 38 [])),(some Y8)::zs 95 [],.ptr⟩
abbrev NQ:SD:=⟨.ptr 0 0::DB::B::B::B::cW (cS 61440 zR)::cW (cS 73728 cQ)::DI::bs 88 [],(some Y8)::zs 95 [],.ptr⟩
def HX (X:SD.D Br)(K:tX R):ay R:=kb (λy0 y1=>kn K NQ ((X.1.1,(y0,(X.1.2.2.1,(X.1.2.2.2.1,())))),(y1,()),())) X.1.1 X.1.2.1 (q2 X) (q3 X) (q4 X) (q5 X) X.2.1.1
abbrev Bq:SD:=⟨.ptr 0 0::DB::B::B::B::cW (cS 61440 zR)::cW (cS 73728 cQ)::DI::bs 35 (DI::bs 6 (DB::bs 45 [])),(some Y8)::zs 95 [],.ptr⟩
abbrev NP:SD:=⟨.ptr 0 0::DB::B::B::B::cW (cS 61440 zR)::cW (cS 73728 cQ)::DI::bs 88 [],(some Y8)::zs 95 [],.ptr⟩
def HW (X:SD.D Bq)(K:tX R):ay R:=mN (λy0 y1=>kn K NP ((X.1.1,(y0,(X.1.2.2.1,(X.1.2.2.2.1,())))),(y1,()),())) X.1.1 X.1.2.1 (q2 X) (q3 X) (q4 X) (q5 X) X.2.1.1
abbrev Bp:SD:=⟨.ptr 0 0::DB::B::B::B::cW (cS 61440 zR)::cW (cS 73728 cQ)::DI::cW .str::bs 87 [],(some Y8)::zs 95 [],.ptr⟩
abbrev NO:SD:=⟨.ptr 0 0::DB::B::B::B::cW (cS 61440 zR)::cW (cS 73728 cQ)::DI::bs 88 [],(some Y8)::zs 95 [],.ptr⟩
def HV (X:SD.D Bp)(K:tX R):ay R:=nS (λy0 y1=>kn K NO ((X.1.1,(y0,(X.1.2.2.1,(X.1.2.2.2.1,())))),(y1,()),())) X.1.1 X.1.2.1 (q2 X) (q3 X) (q4 X) X.2.1.1
abbrev yk:SD:=⟨.ptr 0 0::DB::B::B::B::cW (cS 61440 zR)::cW (cS 73728 cQ)::DI::bs 88 [],(some Y8)::zs 95 [],.ptr⟩
def HT (X:SD.D yk)(K:tX R):ay R:=nR (λy0=>kn K yk ((z3 (u y0) X.1),X.2)) X.1.1 X.1.2.1 (q2 X) (q3 X) X.2.1.1
abbrev yl:SD:=⟨.ptr 0 0::DB::B::B::B::cW (cS 61440 zR)::cW (cS 73728 cQ)::DI::bs 88 [],(some Y8)::zs 95 [],.ptr⟩
def HU (X:SD.D yl)(K:tX R):ay R:=rK (λy0 y1 y2=>kn K yl ((z1 (w y0 (z1 (u y1))) X.1),(u y2 X.2.1),X.2.2)) X.1.1 X.1.2.1 (q2 X) (q3 X) X.2.1.1
abbrev Vz:SD:=⟨.ptr 0 0::DB::B::B::B::cW (cS 61440 zR)::cW (cS 73728 cQ)::DI::bs 88 [],(some Y8)::zs 95 [],.ptr⟩
def aeE (X:SD.D Vz)(K:tX R):=wm (λy0 y1 y2=>ke 0 K Vz ((z1 (w y0 (z1 (u y1))) X.1),(u y2 X.2.1),X.2.2)) X.1.1 (q2 X)
def L27:kN:=(((((kN.nil.add 1000038 (XX Br HX)).add 1000030 (XX Bq HW)).add 1000018 (XX Bp HV)).add 1000010 (XX yk HT)).add 1000012 (XX yl HU)).add 4 (xR Vz aeE (λX=>(X.1.2.1,q3 X,X.2.1.1)))
theorem Q0:Su E G64.g Zo L27 (sG Zo.cut f27 3):=ck Br HX
theorem QZ:Su E G64.g Zo L27 (sG Zo.cut f27 2):=ck Bq HW
theorem QY:Su E G64.g Zo L27 (sG Zo.cut f27 1):=ck Bp HV
theorem QW:Su E G64.g Zo L27 (sG Zo.cut f27 4):=ck yk HT
theorem QX:Su E G64.g Zo L27 (sG Zo.cut f27 0):=ck yl HU
theorem ahL:wC E G64.g Zo L27 (cG f27 0):=lk Vz aeE (λX=>(X.1.2.1,q3 X,X.2.1.1)) λX x=>((z1 (w x.1 (z1 (u x.2.1))) X.1),(u x.2.2 X.2.1),X.2.2)
theorem o27:C5 27 e27:=gA.oJ (ov (Γ:=G64.g) (an:=Zo) (Λ:=L27) (G64.s) func27 (by kernel_rfl) (ac (cF ahL nF) (cF QX (cF QY (cF QZ (cF Q0 (cF QW nF))))))) (λx a=>by kernel_rfl)
def G27:=G64.add o27
def agD:=G27.q0 {} func130 [] [(true,(.sl (.own none) gx))] (λa=>lz)
def alh:iW:=jc (.pair (.sl .vT (.int .u8)) (.pair (.int .i64) (.int .i64))) [] [rS] λx a=>yH x
theorem amd:C5 238 alh:=gA.oJ (ov (an:={}) (Λ:=kN.nil) (agD.s) func238 (by kernel_rfl) (ao nF)) (λx a=>by kernel_rfl)
def acE:=agD.add amd
def alb:iW:=jc (.pair (.sl .vT (.int .u8)) (.pair (.int .i64) (.int .i64))) [] [(true,(.pair .str (.sl (.own none) (.int .i64)))),rI] λx a=>tI x
def ahX:An:={mask:=mk [(4,[0,2,4,5,6])],mv:=[21,28],mb:=mg [(21,5)],sb:=mg [(22,0),(27,5)]}
abbrev NJ:SD:=⟨.ptr 0 0::B::.ptr 2 0::B::DI::.ptr 5 0::DI::bs 23 [],(some Y8)::Z::(qy (cx .str (cS 24580 (.int .i64))))::Z::Z::(qy (cx .str (cS 61444 (.int .i64))))::zs 24 [],.ptr⟩
def aca (X:SD.D NJ)(K:tX R):=tJ (λy0 y1 y2=>ke 0 K NJ ((z1 (u y0) X.1),(w y1 (z1 (u y2)) X.2.1),X.2.2)) X.1.1 X.2.1.2.1
def agO:kN:=kN.nil.add 4 (xR NJ aca (λX=>(X.1.2.1,X.2.1.1,X.2.1.2.2.1)))
theorem afN:wC E acE.g ahX agO (cG f183 0):=lk NJ aca (λX=>(X.1.2.1,X.2.1.1,X.2.1.2.2.1)) λX x=>((z1 (u x.1) X.1),(w x.2.1 (z1 (u x.2.2)) X.2.1),X.2.2)
theorem al7:C5 183 alb:=gA.oJ (ov (Γ:=acE.g) (an:=ahX) (Λ:=agO) (acE.s) func183 (by kernel_rfl) (ao (cF afN nF))) (λx a=>by kernel_rfl)
def agF:=acE.add al7
def ali:iW:=jc (.pair (.sl .vT (.int .u8)) (.pair (.int .i64) (.int .i64))) [] [(true,(.pair (.int .i64) (.pair (.int .i64) (.pair (.int .i64) (.pair (.int .i64) (.pair (.int .i64) Y1))))))] λx a=>wZ x
theorem ame:C5 239 ali:=gA.oJ (ov (an:={}) (Λ:=kN.nil) (agF.s) func239 (by kernel_rfl) (ao nF)) (λx a=>by kernel_rfl)
def acF:=agF.add ame
def alc:iW:=jc (.pair (.sl .vT (.int .u8)) (.pair (.int .i64) (.int .i64))) [] [(false,(.sl (.own none) ji))] λx a=>vo x
def ahY:An:={mask:=mk [(3,[0,3,4])],mv:=[12,17]}
abbrev NK:SD:=⟨.ptr 0 0::B::B::cW (cS 36864 ji)::DI::bs 13 [],(some Y8)::zs 17 [],.ptr⟩
def acb (X:SD.D NK)(K:tX R):=uz (λy0 y1 y2=>ke 0 K NK ((w y0 (u y1) X.1),(u y2 X.2.1),X.2.2))
def agP:kN:=kN.nil.add 3 (xR NK acb (λX=>(X.1.1,X.1.2.1,X.2.1.1)))
theorem afO:wC E acF.g ahY agP (cG f184 0):=lk NK acb (λX=>(X.1.1,X.1.2.1,X.2.1.1)) λX x=>((w x.1 (u x.2.1) X.1),(u x.2.2 X.2.1),X.2.2)
theorem al8:C5 184 alc:=gA.oJ (ov (Γ:=acF.g) (an:=ahY) (Λ:=agP) (acF.s) func184 (by kernel_rfl) (ao (cF afO nF))) (λx a=>by kernel_rfl)
def ajd:=acF.add al8
def ajY:=ajd.q0 {} func240 [pf (.sl gx)] [(true,(.sl (.own none) gx))] (c1 tK)
abbrev Z2:SD:=⟨B::B::B::DI::cW (cS 49152 (.int .i64))::DI::bs 26 [],zs 32 [],.none⟩
def aj1:=ajY.q1 {mask:=mk [(4,[3,4,5])]} func243 [pf oR] [rI] (c1 qU) Z2 (λX K=>mI (λy0 y1=>ke 0 K Z2 ((w y0 (z1 (u y1)) X.1),X.2)) X.1.2.1) (λX=>(X.1.1,q2 X)) (λX x=>((w x.1 (z1 (u x.2)) X.1),X.2))
abbrev Tj:SD:=⟨B::B::.ptr 2 0::.ptr 3 0::DI::DI::bs 35 [],Z::Z::(qy (lG gx))::(qy (cx yJ Y1))::zs 37 [],.none⟩
def aj0:=aj1.q1 {mask:=mk [(2,[2,3,4,5])],merge:=mg [(7,39)]} func242 [pf (.sl gx),pf oR] [rI] (c2 tL) Tj (λX K=>nQ (λy0=>ke 0 K Tj ((z1 (u y0) X.1),X.2)) (λy0 y1=>kr K Tj ((w y0 (u y1) X.1),X.2)) X.1.1 X.2.1.1 X.2.1.2.1) (λX=>X.1.2.1) (λX x=>((z1 (u x) X.1),X.2))
abbrev Ti:SD:=⟨B::.ptr 1 0::DB::DI::bs 45 [],Z::(qy (lG gx))::zs 47 [],.none⟩
def ajZ:=aj0.q1 {mask:=mk [(4,[1,2,3])],merge:=mg [(7,30),(10,42)]} func241 [pf (.sl gx)] [rB] (c1 tG) Ti (λX K=>rF (λy0=>ke 0 K Ti ((z1 (u y0) X.1),X.2)) (λy0 y1=>kr K Ti ((w y0 (u y1) X.1),X.2)) X.1.1 X.2.1.1) (λX=>X.1.2.1) (λX x=>((z1 (u x) X.1),X.2))
abbrev ZW:SD:=⟨B::B::DI::.ptr 3 0::.ptr 4 0::B::.ptr 6 0::B::.ptr 8 0::DI::DI::bs 47 [],Z::Z::Z::(qy (lG gx))::(qy (cx yJ Y1))::Z::(qy (cS 73729 gx))::Z::(qy (cS 98305 gx))::zs 49 [],.none⟩
def agG:=ajZ.q1 {mask:=mk [(6,[2,3,4,6,8,9,10])],merge:=mg [(2,21),(6,31)],mv:=[22,49,57]} func185 [pf (.sl gx),pf oR,pI] [(true,(.sl (.own none) gx)),rB] (c3 wS) ZW (λX K=>wg (λy0 y1=>ke 0 K ZW ((z1 (w y0 (u y1)) X.1),X.2)) X.1.1 X.2.1.1 X.2.1.2.1 X.2.1.2.2.1 X.2.1.2.2.2.1) (λX=>(X.1.2.1,q2 X)) (λX x=>((z1 (w x.1 (u x.2)) X.1),X.2))
def ald:iW:=jc (.pair (.sl .vT (.int .u8)) (.pair (.int .i64) (.int .i64))) [] [(true,(.pair (.int .i64) Y1))] λx a=>wX x
theorem al9:C5 186 ald:=gA.oJ (ov (an:={}) (Λ:=kN.nil) (agG.s) func186 (by kernel_rfl) (ao nF)) (λx a=>by kernel_rfl)
def Zt:=agG.add al9
def ak7:iW:=jc (.pair (.sl .vT (.int .u8)) (.pair (.int .i64) (.int .i64))) [] [(true,Y20),rI] λx a=>ql x
def af3:An:={mask:=mk [(7,[0,2,4,6,7]),(11,[0,2,4,6,8])],mv:=[11,16,49,58,61],sb:=mg [(52,0),(54,0),(60,4)]}
abbrev NC:SD:=⟨.ptr 0 0::B::.ptr 2 0::B::.ptr 4 0::B::DI::DI::bs 55 [],(some Y8)::Z::(some Y23)::Z::(some Y17)::zs 58 [],.ptr⟩
def ab4 (X:SD.D NC)(K:tX R):=jG (λy0 y1=>ke 0 K NC ((z1 (u y0) X.1),(z2 (u y1) X.2.1),X.2.2)) X.1.1 X.2.1.1 X.2.1.2.1
abbrev It:SD:=⟨.ptr 0 0::B::.ptr 2 0::B::.ptr 4 0::B::DI::B::DI::bs 54 [],(some Y8)::Z::(some Y23)::Z::(some Y17)::zs 58 [],.ptr⟩
def Ws (X:SD.D It)(K:tX R):=gV (λy0 y1 y2=>ke 2 K It ((z1 (u y0) X.1),(w y1 (z1 (u y2)) X.2.1),X.2.2)) X.1.1 X.2.1.2.1
def aeW:kN:=(kN.nil.add 7 (xR NC ab4 (λX=>(X.1.2.1,X.2.1.2.2.1)))).add 11 (xR It Ws (λX=>(X.1.2.1,X.2.1.1,X.2.1.2.2.1)))
theorem afH:wC E Zt.g af3 aeW (cG f127 0):=lk NC ab4 (λX=>(X.1.2.1,X.2.1.2.2.1)) λX x=>((z1 (u x.1) X.1),(z2 (u x.2) X.2.1),X.2.2)
theorem adp:wC E Zt.g af3 aeW (cG f127 1):=lk It Ws (λX=>(X.1.2.1,X.2.1.1,X.2.1.2.2.1)) λX x=>((z1 (u x.1) X.1),(w x.2.1 (z1 (u x.2.2)) X.2.1),X.2.2)
theorem al3:C5 127 ak7:=gA.oJ (ov (Γ:=Zt.g) (an:=af3) (Λ:=aeW) (Zt.s) func127 (by kernel_rfl) (ao (cF afH (cF adp nF)))) (λx a=>by kernel_rfl)
def aiu:=Zt.add al3
def aih:=aiu.q0 {merge:=mg [(1,2)]} func109 [pf fI] [rB] (c1 sv)
def G55:=aih.q0 {merge:=mg [(1,24),(3,2)]} func55 [pf fI] [rB] (c1 lA)
def G20:=G55.q0 {} func20 [pI,pI] [(true,Y14),rB] (c2 tC)
abbrev Tc:SD:=⟨B::.ptr 1 0::DB::DI::bs 41 [],Z::(some Y26)::zs 43 [],.none⟩
def aje:=G20.q1 {mask:=mk [(2,[1,2,3])],merge:=mg [(4,35),(6,2)]} func187 [pf yg] [rB] (c1 vh) Tc (λX K=>qb (λy0=>ke 0 K Tc ((z1 (u y0) X.1),X.2)) (λy0 y1=>kr K Tc ((w y0 (u y1) X.1),X.2)) X.1.1 X.2.1.1) (λX=>X.1.2.1) (λX x=>((z1 (u x) X.1),X.2))
def akt:=aje.q0 {merge:=mg [(1,33),(3,54),(5,2)]} func274 [pf ji] [rB] (c1 lh)
abbrev Tk:SD:=⟨cW (lG ji)::B::DB::DI::bs 15 [],zs 19 [],.none⟩
def aj2:=akt.q1 {mask:=mk [(2,[0,2,3])]} func244 [pd (.sl ji)] [rB] (c1 wU) Tk (λX K=>rD (λy0=>ke 0 K Tk ((z2 (u y0) X.1),X.2)) (λy0 y1=>kr K Tk ((z1 (w y0 (u y1)) X.1),X.2)) X.1.1 X.1.2.1) q2 (λX x=>((z2 (u x) X.1),X.2))
def aku:=aj2.q0 {merge:=mg [(1,2)]} func275 [pI] [rB] (c1 wY)
abbrev Tl:SD:=⟨B::DI::.ptr 2 0::B::DB::DI::bs 32 [],Z::Z::(qy (cx .str (lG (.int .i64))))::zs 35 [],.none⟩
def aeU:=aku.q1 {mask:=mk [(4,[1,2,4,5])],merge:=mg [(1,21)]} func245 [pf Ct,pI] [rB] (c2 vk) Tl (λX K=>qe (λy0=>ke 0 K Tl ((z2 (u y0) X.1),X.2)) (λy0 y1=>kr K Tl ((z1 (w y0 (u y1)) X.1),X.2)) X.1.1 X.1.2.1 X.2.1.1) q2 (λX x=>((z2 (u x) X.1),X.2))
def af6:An:={mask:=mk [(4,[1,2,4,5]),(9,[1,2,4,6])],merge:=mg [(1,23)]}
abbrev I7:SD:=⟨B::DI::.ptr 2 0::B::DB::DI::bs 50 [],Z::Z::(some Y19)::zs 53 [],.none⟩
def acd (X:SD.D I7)(K:tX R):=ns (λy0=>ke 0 K I7 ((z2 (u y0) X.1),X.2)) (λy0 y1=>kr K I7 ((z1 (w y0 (u y1)) X.1),X.2)) X.1.1 X.1.2.1 X.2.1.1
abbrev I8:SD:=⟨B::DI::.ptr 2 0::B::DB::B::DI::bs 49 [],Z::Z::(some Y19)::zs 53 [],.none⟩
def ace (X:SD.D I8)(K:tX R):=nt (λy0=>ke 2 K I8 ((z2 (u y0) X.1),X.2)) (λy0 y1=>kr K I8 ((z1 (w y0 (u y1)) X.1),X.2)) X.1.1 X.1.2.1 X.2.1.1
def agQ:kN:=(kN.nil.add 4 (xR I7 acd q2)).add 9 (xR I8 ace q2)
theorem afP:wC E aeU.g af6 agQ (cG f188 0):=lk I7 acd q2 λX x=>((z2 (u x) X.1),X.2)
theorem afQ:wC E aeU.g af6 agQ (cG f188 1):=lk I8 ace q2 λX x=>((z2 (u x) X.1),X.2)
def ajf:=aeU.qk af6 func188 [pf rZ,pI] [rB] (c2 rE) (cF afP (cF afQ nF))
abbrev ZX:SD:=⟨DI::B::.ptr 2 0::.ptr 3 0::DI::bs 17 [],Z::Z::(qy (cS 24577 .str))::(qy (cS 36865 .str))::zs 18 [],.none⟩
def ajg:=ajf.q1 {mask:=mk [(3,[0,2,3,4])],merge:=mg [(3,12)],mv:=[16,21],mb:=mg [(16,3)],sb:=mg [(20,3)]} func189 [pI] [(true,(.sl (.own none) .str))] (c1 po) ZX (λX K=>oL (λy0 y1=>ke 0 K ZX ((z1 (u y0) X.1),(z1 (u y1) X.2.1),X.2.2)) X.1.1 X.2.1.1) (λX=>(X.1.2.1,X.2.1.2.1)) (λX x=>((z1 (u x.1) X.1),(z1 (u x.2) X.2.1),X.2.2))
abbrev Tn:SD:=⟨B::.ptr 1 0::DB::cW (cS 36864 .bool)::DI::bs 53 [],Z::(some Y15)::zs 56 [],.none⟩
def akv:=ajg.q1 {mask:=mk [(5,[1,2,3,4])],merge:=mg [(1,20),(7,50)]} func276 [pf iX] [rB] (c1 sr) Tn (λX K=>tD (λy0 y1=>ke 0 K Tn ((z1 (w y0 (u y1)) X.1),X.2)) (λy0 y1 y2=>kr K Tn ((w y0 (w y1 (u y2)) X.1),X.2)) X.1.1 X.2.1.1) (λX=>(X.1.2.1,q2 X)) (λX x=>((z1 (w x.1 (u x.2)) X.1),X.2))
abbrev Z3:SD:=⟨B::B::DI::B::B::B::.ptr 6 0::B::.ptr 8 0::DI::bs 24 [],zs 6 ((some Y30)::Z::(some Y29)::zs 25 []),.none⟩
def aj3:=akv.q1 {mask:=mk [(3,[2,6,8,9])],merge:=mg [(3,20)],mv:=[24,33]} func246 [pI,pI,pI] [(true,Y9),rB] (c3 tB) Z3 (λX K=>nL (λy0 y1=>ke 0 K Z3 ((z1 (u y0) X.1),(z1 (u y1) X.2.1),X.2.2)) X.1.1 X.2.1.1) (λX=>(X.1.2.1,X.2.1.2.1)) (λX x=>((z1 (u x.1) X.1),(z1 (u x.2) X.2.1),X.2.2))
def ajh:=aj3.q0 {mv:=[4,9]} func190 [] [(true,Y18)] (λa=>vq)
def aji:=ajh.q0 {sb:=mg [(2,2)]} func191 [pf yg] [(true,Y24)] (c1 xd)
def ajj:=aji.q0 {sb:=mg [(2,2)]} func192 [pf rZ] [(true,Y20)] (c1 xa)
def aeV:=ajj.q0 {} func278 [pf (.sl .str)] [(true,(.sl (.own none) .str))] (c1 ll)
def aga:An:={mask:=mk [(4,[0,2,3]),(10,[0,2,3,4,5])],merge:=mg [(7,34),(12,57)]}
abbrev EJ:SD:=⟨cW (lG bB)::B::DB::DI::.ptr 4 0::DI::bs 52 [],zs 4 ((qy (iV (iV (iV .bool))))::zs 53 []),.none⟩
def Ww (X:SD.D EJ)(K:tX R):=lW (λy0=>ke 2 K EJ ((z3 (u y0) X.1),X.2)) (λy0 y1=>kr K EJ ((z1 (w y0 (z1 (u y1))) X.1),X.2)) X.1.1 X.1.2.1 (q2 X) X.2.1.1
abbrev Ja:SD:=⟨cW (lG bB)::B::DB::DI::bs 54 [],zs 58 [],.none⟩
def acm (X:SD.D Ja)(K:tX R):=nr (λy0=>ke 0 K Ja ((z2 (u y0) X.1),X.2)) (λy0 y1=>kr K Ja ((z1 (w y0 (u y1)) X.1),X.2)) X.1.1 X.1.2.1
def agU:kN:=(kN.nil.add 10 (xR EJ Ww q3)).add 4 (xR Ja acm q2)
theorem adt:wC E aeV.g aga agU (cG f303 1):=lk EJ Ww q3 λX x=>((z3 (u x) X.1),X.2)
theorem afX:wC E aeV.g aga agU (cG f303 0):=lk Ja acm q2 λX x=>((z2 (u x) X.1),X.2)
def akV:=aeV.qk aga func303 [pd (.sl bB)] [rB] (c1 rC) (cF afX (cF adt nF))
abbrev Tp:SD:=⟨B::.ptr 1 0::DB::DI::bs 18 [],Z::(qy (lG .str))::zs 20 [],.none⟩
def akW:=akV.q1 {mask:=mk [(2,[1,2,3])]} func304 [pf (.sl .str)] [rB] (c1 qV) Tp (λX K=>qc (λy0=>ke 0 K Tp ((z1 (u y0) X.1),X.2)) (λy0 y1=>kr K Tp ((w y0 (u y1) X.1),X.2)) X.1.1 X.2.1.1) (λX=>X.1.2.1) (λX x=>((z1 (u x) X.1),X.2))
abbrev Tq:SD:=⟨cW (lG bB)::DI::DI::DB::bs 4 (DI::DI::bs 38 []),zs 48 [],.none⟩
def akX:=akW.q1 {mask:=mk [(2,[0,1,2,3,8,9])],merge:=mg [(4,42)]} func305 [pd (.sl bB),pI,pI,pd .bool] [rI] (c4 xb) Tq (λX K=>rJ (λy0=>ke 0 K Tq ((z5 (u y0) X.1),X.2)) (λy0 y1=>kr K Tq ((z4 (w y0 (u y1)) X.1),X.2)) X.1.1 X.1.2.1 (q2 X) (q3 X) (q4 X)) q5 (λX x=>((z5 (u x) X.1),X.2))
def akY:=akX.q0 {merge:=mg [(2,6)]} func306 [pf (.sl .str),pI,pI] [rB] (c3 mM)
abbrev To:SD:=⟨cW (lG bB)::B::DI::DI::DI::DB::B::.ptr 7 0::bs 4 (cW (cS 147456 (.int .i64))::cW (cS 159744 (.int .i64))::DB::cW (cS 184320 (.int .i64))::cW (cS 196608 (.int .i64))::bs 66 []),zs 7 ((qy (lG .str))::zs 75 []),.none⟩
def akN:=akY.q1 {mask:=mk [(5,[0,2,3,4,5,7,12,13,14,15,16])],merge:=mg [(3,34),(10,57)],mv:=[35,36,64,71,81,82]} func295 [pd (.sl bB),pf (.sl .str),pI,pI,pI,pd .bool] [(false,(.sl (.own none) (.int .i64))),(false,(.sl (.own none) (.int .i64))),rB] (c6 vp) To (λX K=>ka (λy0 y1 y2 y3=>ke 0 K To ((z2 (w y0 (w y1 (z4 (w y2 (u y3))))) X.1),X.2)) (λy0 y1 y2 y3 y4 y5 y6=>kr K To ((z2 (w y0 (w y1 (z1 (w y2 (w y3 (w y4 (w y5 (u y6)))))))) X.1),X.2)) X.1.1 X.1.2.1 (q4 X) (q5 X) (q6 X) (q7 X) X.2.1.1) (λX=>(q2 X,q3 X,q8 X,q9 X)) (λX x=>((z2 (w x.1 (w x.2.1 (z4 (w x.2.2.1 (u x.2.2.2))))) X.1),X.2))
abbrev aad:SD:=⟨B::DI::cW .str::B::B::B::.ptr 6 0::B::.ptr 8 0::bs 44 [],zs 6 ((qy (cS 73729 .str))::Z::(qy (cS 98305 .str))::zs 44 []),.none⟩
def akO:=akN.q1 {mask:=mk [(4,[1,2,6,8])],mv:=[19,52]} func296 [pf (.sl .str),pI,pd .str] [(true,(.sl (.own none) .str)),rB] (c3 qi) aad (λX K=>lY (λy0 y1 y2=>ke 0 K aad ((w y0 (u y1) X.1),(z1 (u y2) X.2.1),X.2.2)) X.2.1.1) (λX=>(X.1.1,X.1.2.1,X.2.1.2.1)) (λX x=>((w x.1 (u x.2.1) X.1),(z1 (u x.2.2) X.2.1),X.2.2))
abbrev aaa:SD:=⟨bs 4 (cW .str::bs 5 (.ptr 10 0::B::cW (.sl .loc (.int .i64))::cW (.sl .loc (.int .i64))::B::.ptr 15 0::DI::bs 44 [])),zs 10 ((qy (cS 122881 .str))::zs 4 ((qy (cS 184321 .str))::zs 45 [])),.none⟩
def akw:=akO.q1 {mask:=mk [(6,[4,10,12,13,15,16])],mv:=[32,39,52,60],sb:=mg [(15,15)]} func277 [pd (.sl bB),pf (.sl .str),pI,pI,pd .str] [(true,(.sl (.own none) .str)),rB] (c5 qT) aaa (λX K=>mF (λy0 y1 y2=>ke 0 K aaa ((w y0 (z2 (u y1)) X.1),(z1 (u y2) X.2.1),X.2.2)) X.1.2.1 (q2 X) X.2.1.1) (λX=>(X.1.1,q3 X,X.2.1.2.1)) (λX x=>((w x.1 (z2 (u x.2.1)) X.1),(z1 (u x.2.2) X.2.1),X.2.2))
abbrev Z4:SD:=⟨cW (lG bB)::B::DI::DI::cW .str::B::.ptr 6 0::B::B::B::.ptr 10 0::B::cW (cS 147456 bB)::DI::bs 25 [],zs 6 ((qy (lG .str))::Z::Z::Z::(qy (cS 122881 .str))::zs 28 []),.none⟩
def aj4:=akw.q1 {mask:=mk [(3,[0,2,3,4,6,10,12,13])],mv:=[27]} func247 [pd (.sl bB),pf (.sl .str),pI,pI,pd .str] [(true,(.sl (.own none) .str)),rB] (c5 tz) Z4 (λX K=>oK (λy0 y1=>ke 0 K Z4 ((z4 (w y0 (u y1)) X.1),X.2)) X.1.1 X.1.2.1 (q2 X) (q3 X) X.2.1.1 X.2.1.2.1) (λX=>(q4 X,q5 X)) (λX x=>((z4 (w x.1 (u x.2)) X.1),X.2))
def akx:=aj4.q0 {sb:=mg [(2,2)]} func279 [pf iX] [(true,Y9)] (c1 xc)
def akP:=akx.q0 {merge:=mg [(1,2)]} func297 [pI] [rB] (c1 tM)
def akQ:=akP.q0 {} func298 [pf rY] [rI] (c1 qY)
def aky:=akQ.q0 {merge:=mg [(1,2)]} func280 [pf rY] [rB] (c1 su)
def akz:=aky.q0 {} func281 [pf rY] [rI] (c1 qX)
def akR:=akz.q0 {merge:=mg [(1,11)]} func299 [pf rY,pI] [rI] (c2 qd)
def akA:=akR.q0 {merge:=mg [(1,22)],mv:=[26,36,51],mb:=mg [(51,13)],sb:=mg [(10,10),(11,11),(13,13)]} func282 [pd (.sl bB),pf (.sl .str),pI,pf rY,pd .str] [(true,(.sl (.own none) .str)),(true,Y1),rB] (c5 wT)
def akS:=akA.q0 {merge:=mg [(1,2)]} func300 [pf mQ] [rB] (c1 yF)
def akB:=akS.q0 {} func283 [pf mQ] [rS] (c1 rA)
def akC:=akB.q0 {merge:=mg [(1,15)]} func284 [pf iX,pI] [rI] (c2 np)
abbrev Z5:SD:=⟨cW (lG bB)::B::DI::bs 5 (.ptr 8 0::.ptr 9 0::.ptr 10 0::.ptr 11 0::.ptr 12 0::B::.ptr 14 0::.ptr 15 0::DI::bs 65 []),zs 8 ((some Y1)::(some Y15)::(qy (cS 122881 .str))::(some Y1)::(some Y28)::Z::(qy (cS 172033 .str))::(some Y27)::zs 66 []),.none⟩
def agI:=akC.q1 {mask:=mk [(6,[0,2,8,9,10,11,12,14,15,16])],merge:=mg [(4,32),(6,44)],mv:=[33,35,49,63,68,78,80],mb:=mg [(33,14),(35,15),(78,14),(80,15)],sb:=mg [(10,10),(11,11),(12,12),(18,18),(19,19)]} func248 [pd (.sl bB),pf (.sl .str),pI,pf rY,pf iX] [(true,(.sl (.own none) .str)),(true,Y1),(true,Y9),rI] (c5 vg) Z5 (λX K=>mH (λy0 y1 y2 y3=>ke 0 K Z5 ((z2 (u y0) X.1),(w y1 (z4 (w y2 (u y3))) X.2.1),X.2.2)) X.1.1 X.1.2.1 X.2.1.2.1 X.2.1.2.2.1 X.2.1.2.2.2.1 X.2.1.2.2.2.2.1) (λX=>(q2 X,X.2.1.1,X.2.1.2.2.2.2.2.1,X.2.1.2.2.2.2.2.2.1)) (λX x=>((z2 (u x.1) X.1),(w x.2.1 (z4 (w x.2.2.1 (u x.2.2.2))) X.2.1),X.2.2))
def ale:iW:=jc (.pair (.sl (.own none) .str) (.pair (.sl (.own none) bB) (.pair (.pair (.pair (.int .i64) (.pair (.int .i64) (.pair (.int .i64) (.int .i64)))) (.pair (.pair (.int .i64) (.pair (.int .i64) (.pair (.int .i64) (.sl (.own none) (.int .i64))))) (.pair (.sl (.own none) iO) (.int .i64)))) (.pair (.sl (.own none) dP) (.pair (.sl (.own none) iX) (.pair (.sl (.own none) fI) (.pair (.sl (.own none) .bool) (.pair (.pair (.int .i64) (.pair .bool (.sl (.own none) (.int .i64)))) (.pair (.pair (.sl (.own none) ji) (.pair (.sl (.own none) gx) (.pair .str (.sl (.own none) (.int .i64))))) (.pair (.sl (.own none) dM) (.pair .bool (.pair (.sl (.own none) .str) (.pair (.sl (.own none) (.int .i64)) (.pair (.sl (.own none) (.int .i64)) (.pair (.int .i64) (.pair (.int .i64) (.pair (.int .i64) (.pair (.int .i64) (.int .i64))))))))))))))))))) [pI] [] λx a=>tO x a.1
theorem ama:C5 193 ale:=gA.oJ (ov (an:={mv:=[47,51,65,67,84],mb:=mg [(84,6)],sb:=mg [(6,6),(50,0),(70,0),(71,5)]}) (Λ:=kN.nil) (agI.s) func193 (by kernel_rfl) (ao nF)) (λx a=>by kernel_rfl)
def aeR:=agI.add ama
def af4:An:={mask:=mk [(6,[0,12,14,16,17]),(10,[0,12,14,16,18])],merge:=mg [(2,42)],mv:=[57,74,80,86,92,98],mb:=mg [(57,16)],sb:=mg [(16,16),(67,16)]}
abbrev ND:SD:=⟨DI::bs 11 (.ptr 12 0::B::.ptr 14 0::B::.ptr 16 0::DI::bs 81 []),zs 12 ((some Y12)::Z::(some Y14)::Z::(some Y11)::zs 82 []),.none⟩
def ab5 (X:SD.D ND)(K:tX R):=we (λy0 y1=>ke 0 K ND ((z1 (u y0) X.1),(z2 (u y1) X.2.1),X.2.2)) X.1.1 X.2.1.1 X.2.1.2.1
abbrev Iu:SD:=⟨DI::bs 11 (.ptr 12 0::B::.ptr 14 0::B::.ptr 16 0::B::DI::bs 80 []),zs 12 ((some Y12)::Z::(some Y14)::Z::(some Y11)::zs 82 []),.none⟩
def Wt (X:SD.D Iu)(K:tX R):=ux (λy0 y1=>ke 2 K Iu ((z1 (u y0) X.1),(z2 (u y1) X.2.1),X.2.2)) X.1.1 X.2.1.1 X.2.1.2.1
def agM:kN:=(kN.nil.add 6 (xR ND ab5 (λX=>(X.1.2.1,X.2.1.2.2.1)))).add 10 (xR Iu Wt (λX=>(X.1.2.1,X.2.1.2.2.1)))
theorem afI:wC E aeR.g af4 agM (cG f128 0):=lk ND ab5 (λX=>(X.1.2.1,X.2.1.2.2.1)) λX x=>((z1 (u x.1) X.1),(z2 (u x.2) X.2.1),X.2.2)
theorem adq:wC E aeR.g af4 agM (cG f128 1):=lk Iu Wt (λX=>(X.1.2.1,X.2.1.2.2.1)) λX x=>((z1 (u x.1) X.1),(z2 (u x.2) X.2.1),X.2.2)
def agC:=aeR.qk af4 func128 [pI,pf yg,pf rZ,pd .bool,pI,pI] [(true,Y0),rB] (c6 tA) (cF afI (cF adq nF))
def ak8:iW:=jc (.pair (.sl .vT (.int .u8)) (.pair (.int .i64) (.int .i64))) [] [(true,Y24)] λx a=>tN x
theorem al4:C5 129 ak8:=gA.oJ (ov (an:={mv:=[11]}) (Λ:=kN.nil) (agC.s) func129 (by kernel_rfl) (ao nF)) (λx a=>by kernel_rfl)
def Zs:=agC.add al4
def e71:iW:=jc (.pair (.sl .vT (.int .u8)) (.pair (.int .i64) (.int .i64))) [] [(true,Y0)] λx a=>xe x
def n71:An:={mask:=mk [(2,[0,2,3]),(6,[0,2,3,4,5,6])],mv:=[15,32,46,49,50,60],sb:=mg [(7,7),(34,0),(37,0),(40,0),(43,0)]}
abbrev VD:SD:=⟨.ptr 0 0::B::.ptr 2 0::DI::.ptr 4 0::DI::DI::bs 54 [],(some Y8)::Z::(some Y2)::Z::(some Y17)::zs 56 [],.ptr⟩
def aeK (X:SD.D VD)(K:tX R):=wk (λy0 y1=>ke 2 K VD ((z2 (u y0) X.1),(z2 (u y1) X.2.1),X.2.2)) X.1.1 X.1.2.1 X.2.1.1 X.2.1.2.1
abbrev PU:SD:=⟨.ptr 0 0::B::.ptr 2 0::DI::bs 57 [],(some Y8)::Z::(some Y2)::zs 58 [],.ptr⟩
def aeJ (X:SD.D PU)(K:tX R):=wj (λy0 y1=>ke 0 K PU ((u y0 X.1),(u y1 X.2.1),X.2.2)) (λy0 y1 y2=>kr K PU ((u y0 X.1),(w y1 (u y2) X.2.1),X.2.2)) X.2.1.2.1
def L71:kN:=(kN.nil.add 6 (xR VD aeK (λX=>(q2 X,X.2.1.2.2.1)))).add 2 (xR PU aeJ (λX=>(X.1.1,X.2.1.1)))
theorem ahR:wC E Zs.g n71 L71 (cG f71 1):=lk VD aeK (λX=>(q2 X,X.2.1.2.2.1)) λX x=>((z2 (u x.1) X.1),(z2 (u x.2) X.2.1),X.2.2)
theorem ahQ:wC E Zs.g n71 L71 (cG f71 0):=lk PU aeJ (λX=>(X.1.1,X.2.1.1)) λX x=>((u x.1 X.1),(u x.2 X.2.1),X.2.2)
theorem o71:C5 71 e71:=gA.oJ (ov (Γ:=Zs.g) (an:=n71) (Λ:=L71) (Zs.s) func71 (by kernel_rfl) (ao (cF ahQ (cF ahR nF)))) (λx a=>by kernel_rfl)
def G71:=Zs.add o71
def aiw:=G71.q0 {merge:=mg [(1,16)]} func132 [pd .str] [rS,rB] (c1 vf)
def aj5:=aiw.q0 {} func249 [pd .str,pI] [rI] (c2 gL)
def aj6:=aj5.q0 {} func250 [pd .str,pI] [rI] (c2 nq)
def ajk:=aj6.q0 {sb:=mg [(4,4)]} func194 [pd .str] [(true,Y16),rB] (c1 vj)
def ajl:=ajk.q0 {merge:=mg [(2,22),(6,56)],sb:=mg [(5,5)]} func195 [pd .str] [(true,Y22),rB] (c1 wR)
def ajm:=ajl.q0 {merge:=mg [(3,20),(9,44),(12,68)]} func196 [pI,pI,pI,pd .str] [(true,(.pair (.int .i64) Y22)),rB] (c4 oM)
def aix:=ajm.q0 {merge:=mg [(2,20)]} func133 [pd .str] [(true,Y3),rI] (c1 tF)
def G72:=aix.q0 {} func72 [pd .str] [(true,Y3),rI] (c1 tE)
def aiy:=G72.q0 {} func134 [pf cQ] [(true,(.pair (.int .i64) Y1))] (c1 Cg)
abbrev S9:SD:=⟨cW (lG dM)::B::B::.ptr 3 0::DI::DI::bs 14 [],Z::Z::Z::(qy (cx yJ Y1))::zs 16 [],.none⟩
def acB:=aiy.q1 {mask:=mk [(2,[0,3,4,5])]} func135 [pd (.sl dM),pf oR] [rI] (c2 qf) S9 (λX K=>lX (λy0=>ke 0 K S9 ((z2 (u y0) X.1),X.2)) (λy0 y1=>kr K S9 ((z1 (w y0 (u y1)) X.1),X.2)) X.1.1 X.1.2.1 X.2.1.1) q2 (λX x=>((z2 (u x) X.1),X.2))
def e73:iW:=jc (.pair (.sl .vT (.int .u8)) (.pair (.int .i64) (.int .i64))) [pd (.sl cQ)] [(false,(.sl (.own none) dM))] λx a=>wW x a.1
def n73:An:={mask:=mk [(3,[0,1,5,6])],mv:=[45,52],sb:=mg [(41,0)]}
abbrev VE:SD:=⟨.ptr 0 0::cW (lG cQ)::B::B::B::cW (cS 61440 dM)::DI::bs 46 [],(some Y8)::zs 52 [],.ptr⟩
def aeL (X:SD.D VE)(K:tX R):=wi (λy0 y1 y2=>ke 0 K VE ((z1 (w y0 (u y1)) X.1),(u y2 X.2.1),X.2.2)) X.1.1
def L73:kN:=kN.nil.add 3 (xR VE aeL (λX=>(X.1.2.1,q2 X,X.2.1.1)))
theorem ahS:wC E acB.g n73 L73 (cG f73 0):=lk VE aeL (λX=>(X.1.2.1,q2 X,X.2.1.1)) λX x=>((z1 (w x.1 (u x.2.1)) X.1),(u x.2.2 X.2.1),X.2.2)
theorem o73:C5 73 e73:=gA.oJ (ov (Γ:=acB.g) (an:=n73) (Λ:=L73) (acB.s) func73 (by kernel_rfl) (ao (cF ahS nF))) (λx a=>by kernel_rfl)
def G73:=acB.add o73
def e28:iW:=jc (.pair (.sl .vT (.int .u8)) (.pair (.int .i64) (.int .i64))) [pd (.sl zR)] [(true,Y0)] λx a=>vr x a.1
def n28:An:={mask:=mk [(4,[0,1,4,5,6,7])],mv:=[30,38]}
abbrev VA:SD:=⟨.ptr 0 0::cW (lG zR)::B::B::.ptr 4 0::.ptr 5 0::cW (cS 73728 cQ)::DI::bs 31 [],(some Y8)::Z::Z::Z::(some Y7)::(qy (cx (cS 61441 .str) (cx (cS 61444 bB) (cx (cx Y1 (cx (iV (iV (iV (cS 61468 (.int .i64))))) (cx (cS 61471 iO) yJ))) (cx (cS 61477 dP) (cx (cS 61480 iX) (cx (cS 61483 fI) (cx (cS 61486 .bool) (cx (iV (cx .bool (cS 61495 (.int .i64)))) (cx (cx (cS 61498 ji) (cx (cS 61501 gx) (cx .str (cS 61507 (.int .i64))))) (cx (cS 61510 dM) (cx .bool (cx (cS 61516 .str) (cx (cS 61519 (.int .i64)) (cx (cS 61522 (.int .i64)) (cx yJ Y1))))))))))))))))::zs 33 [],.ptr⟩
def aeF (X:SD.D VA)(K:tX R):=uA (λy0 y1=>ke 0 K VA ((z1 (w y0 (u y1)) X.1),X.2)) X.1.1 X.2.1.1 X.2.1.2.1 X.2.1.2.2.1
def L28:kN:=kN.nil.add 4 (xR VA aeF (λX=>(X.1.2.1,q2 X)))
theorem ahM:wC E G73.g n28 L28 (cG f28 0):=lk VA aeF (λX=>(X.1.2.1,q2 X)) λX x=>((z1 (w x.1 (u x.2)) X.1),X.2)
theorem o28:C5 28 e28:=gA.oJ (ov (Γ:=G73.g) (an:=n28) (Λ:=L28) (G73.s) func28 (by kernel_rfl) (ao (cF ahM nF))) (λx a=>by kernel_rfl)
def G28:=G73.add o28
def G7:=G28.q0 {mv:=[13]} func7 [pd (.sl (.int .u8))] [(true,Y0),(false,(.sl (.own none) zR))] (c1 mG)
abbrev aag:SD:=⟨B::.ptr 1 0::DB::B::B::B::cW (lG .str)::DI::DI::bs 11 [],Z::(qy (lG .str))::zs 18 [],.none⟩
def G46:=G7.q1 {mask:=mk [(2,[1,2,6,7,8])]} func46 [pf (.sl .str)] [rB] (c1 qH) aag (λX K=>zy (λy0=>ke 0 K aag ((z3 (u y0) X.1),X.2)) (λy0 y1=>kr K aag ((w y0 (z2 (u y1)) X.1),X.2)) X.1.1 X.1.2.1 (q2 X) X.2.1.1) q3 (λX x=>((z3 (u x) X.1),X.2))
abbrev aaf:SD:=⟨B::DI::DI::B::B::B::DI::B::B::cW (lG bB)::DI::DI::bs 16 [],zs 28 [],.none⟩
def G38:=G46.q1 {mask:=mk [(2,[1,2,6,9,10,11])],merge:=mg [(4,25)]} func38 [pd (.sl bB),pI,pI] [rI] (c3 mu) aaf (λX K=>lU (λy0=>ke 0 K aaf ((z5 (u y0) X.1),X.2)) (λy0 y1=>kr K aaf ((z2 (w y0 (z2 (u y1))) X.1),X.2)) X.1.1 X.1.2.1 (q2 X) (q3 X) (q4 X)) q5 (λX x=>((z5 (u x) X.1),X.2))
def G50:=G38.q0 {merge:=mg [(1,6)]} func50 [pI,pI,pI] [rB] (c3 aD)
abbrev aah:SD:=⟨cW (lG bB)::B::DB::B::B::cW (lG bB)::DI::DI::bs 34 [],zs 42 [],.none⟩
def G47:=G50.q1 {mask:=mk [(2,[0,2,5,6,7])],merge:=mg [(4,37)]} func47 [pd (.sl bB)] [rB] (c1 nC) aah (λX K=>mW (λy0=>ke 0 K aah ((z4 (u y0) X.1),X.2)) (λy0 y1=>kr K aah ((z1 (w y0 (z2 (u y1))) X.1),X.2)) X.1.1 X.1.2.1 (q2 X) (q3 X)) q4 (λX x=>((z4 (u x) X.1),X.2))
abbrev aak:SD:=⟨B::.ptr 1 0::DB::cW (cS 36864 .bool)::bs 22 (cW (lG (.int .i64))::DI::DI::bs 19 []),Z::(some Y15)::zs 46 [],.none⟩
def G52:=G47.q1 {mask:=mk [(5,[1,2,3,26,27,28])],merge:=mg [(1,21),(7,43)]} func52 [pf iX] [rB] (c1 iw) aak (λX K=>sW (λy0 y1=>ke 0 K aak ((z1 (w y0 (z2 (u y1))) X.1),X.2)) (λy0 y1 y2=>kr K aak ((w y0 (w y1 (z2 (u y2))) X.1),X.2)) X.1.1 (q2 X) (q3 X) X.2.1.1) (λX=>(X.1.2.1,q4 X)) (λX x=>((z1 (w x.1 (z2 (u x.2))) X.1),X.2))
def aiM:=G52.q0 {merge:=mg [(1,2)]} func153 [pI] [rB] (c1 qN)
def ai1:=aiM.q0 {} func169 [pI,pI] [rI] (c2 ix)
def aiN:=ai1.q0 {} func154 [pf rY] [rI] (c1 iT)
def G97:=aiN.q0 {merge:=mg [(1,2)]} func97 [pf rY] [rB] (c1 jg)
def G31:=G97.q0 {} func31 [pd (.sl (.int .i64))] [(false,(.sl (.own none) (.int .i64)))] (c1 fC)
def G80:=G31.q0 {mv:=[7]} func80 [pf iX] [(true,Y9)] (c1 hZ)
def ah9:=G80.q0 {merge:=mg [(3,21)],mv:=[10,24]} func101 [pf iX,pd (.sl (.int .i64))] [(true,Y9),rB] (c2 fK)
abbrev aai:SD:=⟨B::.ptr 1 0::DB::DI::cW (cS 49152 (.int .i64))::bs 25 (cW (lG iO)::DI::DI::bs 35 []),Z::(some Y25)::zs 66 [],.none⟩
def G48:=ah9.q1 {mask:=mk [(6,[1,2,3,4,30,31,32])],merge:=mg [(1,24),(8,50)],mv:=[55]} func48 [pf mc] [rB] (c1 xr) aai (λX K=>ta (λy0 y1 y2=>ke 0 K aai ((z1 (w y0 (w y1 (z2 (u y2)))) X.1),X.2)) (λy0 y1 y2 y3=>kr K aai ((w y0 (w y1 (w y2 (z2 (u y3)))) X.1),X.2)) X.1.1 (q3 X) (q4 X) X.2.1.1) (λX=>(X.1.2.1,q2 X,q5 X)) (λX x=>((z1 (w x.1 (w x.2.1 (z2 (u x.2.2)))) X.1),X.2))
abbrev aaj:SD:=⟨B::.ptr 1 0::DB::B::B::B::cW (lG (.int .i64))::DI::DI::bs 31 [],Z::(some Y26)::zs 38 [],.none⟩
def G49:=G48.q1 {mask:=mk [(2,[1,2,6,7,8])],merge:=mg [(4,29),(7,2)]} func49 [pf yg] [rB] (c1 qF) aaj (λX K=>pE (λy0=>ke 0 K aaj ((z3 (u y0) X.1),X.2)) (λy0 y1=>kr K aaj ((w y0 (z2 (u y1)) X.1),X.2)) X.1.1 X.1.2.1 (q2 X) X.2.1.1) q3 (λX x=>((z3 (u x) X.1),X.2))
def aia:=G49.q0 {merge:=mg [(1,2)]} func102 [pf gM] [rB] (c1 mZ)
def aiU:=aia.q0 {merge:=mg [(1,18),(5,2),(7,2)]} func161 [pf zh] [rB] (c1 oX)
def aiV:=aiU.q0 {merge:=mg [(1,2)]} func162 [pI] [rB] (c1 pb)
def aib:=aiV.q0 {merge:=mg [(1,2)]} func103 [pf cQ] [rB] (c1 gb)
def G51:=aib.q0 {merge:=mg [(1,42),(5,2)]} func51 [pf dP] [rB] (c1 uf)
def aic:=G51.q0 {merge:=mg [(1,2)]} func104 [pf fI] [rB] (c1 zB)
def G53:=aic.q0 {merge:=mg [(1,24),(3,2)]} func53 [pf fI] [rB] (c1 lv)
def aiW:=G53.q0 {merge:=mg [(1,33),(3,54),(5,2)]} func163 [pf ji] [rB] (c1 yv)
abbrev S6:SD:=⟨cW (lG ji)::B::DB::B::B::cW (lG ji)::DI::DI::bs 10 [],zs 18 [],.none⟩
def aid:=aiW.q1 {mask:=mk [(2,[0,2,5,6,7])]} func105 [pd (.sl ji)] [rB] (c1 wM) S6 (λX K=>Ba (λy0=>ke 0 K S6 ((z4 (u y0) X.1),X.2)) (λy0 y1=>kr K S6 ((z1 (w y0 (z2 (u y1))) X.1),X.2)) X.1.1 X.1.2.1 (q2 X) (q3 X)) q4 (λX x=>((z4 (u x) X.1),X.2))
abbrev Tb:SD:=⟨B::B::B::.ptr 3 0::DI::B::B::B::cW (lG gx)::DI::DI::bs 15 [],Z::Z::Z::(qy (cx yJ Y1))::zs 22 [],.none⟩
def aiX:=aid.q1 {mask:=mk [(2,[3,4,8,9,10])],merge:=mg [(4,23)]} func164 [pf (.sl gx),pf oR] [rI] (c2 vF) Tb (λX K=>tk (λy0=>ke 0 K Tb ((z3 (u y0) X.1),X.2)) (λy0 y1=>kr K Tb ((w y0 (z2 (u y1)) X.1),X.2)) X.1.1 X.1.2.1 (q2 X) X.2.1.1) q3 (λX x=>((z3 (u x) X.1),X.2))
abbrev Z1:SD:=⟨B::B::B::DI::bs 12 (cW (cS 196608 (.int .i64))::DI::DI::bs 10 []),zs 29 [],.none⟩
def ajF:=aiX.q1 {mask:=mk [(3,[3,16,17,18])]} func218 [pf oR] [rI] (c1 uO) Z1 (λX K=>mm (λy0 y1=>ke 0 K Z1 ((w y0 (z2 (u y1)) X.1),X.2)) X.1.2.1 (q2 X)) (λX=>(X.1.1,q3 X)) (λX x=>((w x.1 (z2 (u x.2)) X.1),X.2))
abbrev ZU:SD:=⟨B::.ptr 1 0::B::cW (cS 36864 (.int .i64))::DI::bs 14 [],Z::(qy (cx yJ Y1))::zs 17 [],.none⟩
def aeQ:=ajF.q1 {mask:=mk [(3,[1,3,4])],mv:=[10,18]} func165 [pf oR] [(false,(.sl (.own none) (.int .i64)))] (c1 Am) ZU (λX K=>qO (λy0 y1=>ke 0 K ZU ((w y0 (u y1) X.1),X.2)) X.2.1.1) (λX=>(X.1.1,X.1.2.1)) (λX x=>((w x.1 (u x.2) X.1),X.2))
def af2:An:={mask:=mk [(4,[1,2,12,13,14]),(14,[1,2,3,12,13,14,49,50,51])],merge:=mg [(6,28),(9,40)]}
abbrev EI:SD:=⟨B::.ptr 1 0::DB::DI::bs 8 (cW (lG gx)::DI::DI::bs 34 (cW (cS 602112 (.int .i64))::DI::DI::bs 15 [])),Z::(qy (lG gx))::zs 65 [],.none⟩
def Wr (X:SD.D EI)(K:tX R):=jW (λy0=>ke 2 K EI ((z7 (u y0) X.1),X.2)) (λy0 y1=>kr K EI ((w y0 (z6 (u y1)) X.1),X.2)) X.1.1 X.1.2.1 (q2 X) (q3 X) (q4 X) (q5 X) (q6 X) X.2.1.1
abbrev I6:SD:=⟨B::.ptr 1 0::DB::bs 9 (cW (lG gx)::DI::DI::bs 52 []),Z::(qy (lG gx))::zs 65 [],.none⟩
def ab2 (X:SD.D I6)(K:tX R):=rl (λy0=>ke 0 K I6 ((z3 (u y0) X.1),X.2)) (λy0 y1=>kr K I6 ((w y0 (z2 (u y1)) X.1),X.2)) X.1.1 X.1.2.1 (q2 X) X.2.1.1
def agK:kN:=(kN.nil.add 14 (xR EI Wr q7)).add 4 (xR I6 ab2 q3)
theorem ado:wC E aeQ.g af2 agK (cG f106 1):=lk EI Wr q7 λX x=>((z7 (u x) X.1),X.2)
theorem afF:wC E aeQ.g af2 agK (cG f106 0):=lk I6 ab2 q3 λX x=>((z3 (u x) X.1),X.2)
def aie:=aeQ.qk af2 func106 [pf (.sl gx)] [rB] (c1 pQ) (cF afF (cF ado nF))
def aiY:=aie.q0 {merge:=mg [(1,2)]} func166 [pI] [rB] (c1 BU)
abbrev S7:SD:=⟨B::DI::B::B::DB::bs 19 (cW (lG (.int .i64))::DI::DI::bs 9 []),zs 36 [],.none⟩
def aeO:=aiY.q1 {mask:=mk [(4,[1,4,24,25,26])],merge:=mg [(1,22)]} func107 [pf Ct,pI] [rB] (c2 uU) S7 (λX K=>zA (λy0=>ke 0 K S7 ((z4 (u y0) X.1),X.2)) (λy0 y1=>kr K S7 ((z1 (w y0 (z2 (u y1))) X.1),X.2)) X.1.1 X.1.2.1 (q2 X) (q3 X)) q4 (λX x=>((z4 (u x) X.1),X.2))
def n54:An:={mask:=mk [(4,[1,2,4,27,28,29]),(10,[1,4,45,46,47])],merge:=mg [(1,25),(6,41),(12,59)]}
abbrev PT:SD:=⟨B::DI::.ptr 2 0::B::DB::bs 22 (cW (lG ji)::DI::DI::bs 31 []),Z::Z::(some Y19)::zs 58 [],.none⟩
def aeG (X:SD.D PT)(K:tX R):=nb (λy0=>ke 0 K PT ((z4 (u y0) X.1),X.2)) (λy0 y1=>kr K PT ((z1 (w y0 (z2 (u y1))) X.1),X.2)) X.1.1 X.1.2.1 (q2 X) (q3 X) X.2.1.1
abbrev Jb:SD:=⟨B::DI::B::B::DB::bs 40 (cW (lG gx)::DI::DI::bs 13 []),zs 61 [],.none⟩
def acn (X:SD.D Jb)(K:tX R):=lQ (λy0=>ke 2 K Jb ((z4 (u y0) X.1),X.2)) (λy0 y1=>kr K Jb ((z1 (w y0 (z2 (u y1))) X.1),X.2)) X.1.1 X.1.2.1 (q2 X) (q3 X)
def L54:kN:=(kN.nil.add 4 (xR PT aeG q4)).add 10 (xR Jb acn q4)
theorem ahN:wC E aeO.g n54 L54 (cG f54 0):=lk PT aeG q4 λX x=>((z4 (u x) X.1),X.2)
theorem afY:wC E aeO.g n54 L54 (cG f54 1):=lk Jb acn q4 λX x=>((z4 (u x) X.1),X.2)
def G54:=aeO.qk n54 func54 [pf rZ,pI] [rB] (c2 nE) (cF ahN (cF afY nF))
def n18:An:={mask:=mk [(5,[1,2,3,61,62]),(12,[1,2,3,103,104,105])],merge:=mg [(2,58),(7,89)]}
abbrev PR:SD:=⟨B::.ptr 1 0::DB::DI::bs 57 (DI::DI::bs 54 []),Z::(some Y5)::zs 115 [],.none⟩
def aeC (X:SD.D PR)(K:tX R):=sS (λy0=>ke 0 K PR ((z3 (u y0) X.1),X.2)) (λy0 y1=>kr K PR ((w y0 (z2 (u y1)) X.1),X.2)) X.1.1 X.1.2.1 (q2 X) X.2.1.1
abbrev I9:SD:=⟨B::.ptr 1 0::DB::DI::bs 99 (cW (cS 1265664 (.int .i64))::DI::DI::bs 11 []),Z::(some Y5)::zs 115 [],.none⟩
def acf (X:SD.D I9)(K:tX R):=rh (λy0=>ke 2 K I9 ((z4 (u y0) X.1),X.2)) (λy0 y1=>kr K I9 ((w y0 (z3 (u y1)) X.1),X.2)) X.1.1 X.1.2.1 (q2 X) (q3 X) X.2.1.1
def L18:kN:=(kN.nil.add 5 (xR PR aeC q3)).add 12 (xR I9 acf q4)
theorem ahJ:wC E G54.g n18 L18 (cG f18 0):=lk PR aeC q3 λX x=>((z3 (u x) X.1),X.2)
theorem afR:wC E G54.g n18 L18 (cG f18 1):=lk I9 acf q4 λX x=>((z4 (u x) X.1),X.2)
def G18:=G54.qk n18 func18 [pf dJ] [rB] (c1 gQ) (cF ahJ (cF afR nF))
def G74:=G18.q0 {} func74 [pd (.sl .str)] [(false,(.sl (.own none) .str))] (c1 jY)
def G29:=G74.q0 {} func29 [pf (.sl .str)] [(true,(.sl (.own none) .str))] (c1 cV)
def G78:=G29.q0 {} func78 [pd (.sl bB)] [(false,(.sl (.own none) bB))] (c1 td)
abbrev ZR:SD:=⟨B::B::B::cW (cS 36864 iO)::B::B::B::cW (lG iO)::DI::DI::bs 16 [],zs 26 [],.none⟩
def aiE:=G78.q1 {mask:=mk [(3,[3,7,8,9])],mv:=[13,25]} func141 [pd (.sl iO)] [(false,(.sl (.own none) iO))] (c1 qM) ZR (λX K=>pW (λy0 y1=>ke 0 K ZR ((w y0 (z2 (u y1)) X.1),X.2)) X.1.2.1 (q2 X)) (λX=>(X.1.1,q3 X)) (λX x=>((w x.1 (z2 (u x.2)) X.1),X.2))
def G79:=aiE.q0 {sb:=mg [(2,2)]} func79 [pf mc] [(true,Y18)] (c1 oY)
def G81:=G79.q0 {mv:=[7]} func81 [pf yg] [(true,Y24)] (c1 rn)
def aiF:=G81.q0 {} func142 [pf (.sl gx)] [(true,(.sl (.own none) gx))] (c1 tf)
def aiG:=aiF.q0 {sb:=mg [(2,2)]} func143 [pf Ct] [(true,(.pair .str (.sl (.own none) (.int .i64))))] (c1 rp)
def G82:=aiG.q0 {sb:=mg [(2,2)]} func82 [pf rZ] [(true,Y20)] (c1 oH)
def G83:=G82.q0 {} func83 [pd (.sl dM)] [(false,(.sl (.own none) dM))] (c1 jX)
abbrev aee:SD:=⟨B::.ptr 1 0::.ptr 2 0::.ptr 3 0::bs 23 (cW (lG iX)::DI::DI::bs 46 []),Z::(some Y5)::(some Y2)::(qy (cx (cS 36865 .str) (cx (cS 36868 bB) (cx (cx Y1 (cx (iV (iV (iV (cS 36892 (.int .i64))))) (cx (cS 36895 iO) yJ))) (cx (cS 36901 dP) (cx (cS 36904 iX) (cx (lG fI) (cx (lG .bool) (cx Y26 (cx Y19 (cx (lG dM) (cx .bool (cx (lG .str) (cx (lG (.int .i64)) (cx (lG (.int .i64)) (cx yJ Y1))))))))))))))))::zs 72 [],.none⟩
def G35:=G83.q1 {mask:=mk [(8,[1,2,3,27,28,29])],mv:=[34,75],mb:=mg [(34,3)],sb:=mg [(39,3)]} func35 [pf dJ] [(true,Y0)] (c1 hY) aee (λX K=>pV (λy0 y1=>ke 0 K aee ((z2 (u y0) X.1),(z2 (u y1) X.2.1),X.2.2)) X.1.1 X.1.2.1 X.2.1.1 X.2.1.2.1) (λX=>(q2 X,X.2.1.2.2.1)) (λX x=>((z2 (u x.1) X.1),(z2 (u x.2) X.2.1),X.2.2))
def aiO:=G35.q0 {merge:=mg [(1,2)]} func155 [pf mQ] [rB] (c1 vA)
def aiP:=aiO.q0 {} func156 [pI] [rS] (c1 bR)
def aiQ:=aiP.q0 {} func157 [pI] [rS] (c1 fU)
def G98:=aiQ.q0 {} func98 [pf mQ] [rS] (c1 kL)
def G99:=G98.q0 {merge:=mg [(1,15)]} func99 [pf iX,pI] [rI] (c2 fH)
def aiR:=G99.q0 {} func158 [pf rY] [rI] (c1 qK)
def ajD:=aiR.q0 {merge:=mg [(4,29)]} func216 [pd (.sl bB),pI,pI,pd .bool] [rI] (c4 Al)
def ajE:=ajD.q0 {merge:=mg [(2,6)]} func217 [pf (.sl .str),pI,pI] [rB] (c3 sm)
abbrev Ta:SD:=⟨cW (lG bB)::B::DI::DI::DI::DB::B::.ptr 7 0::bs 4 (cW (cS 147456 iA)::DB::cW (cS 172032 iA)::bs 60 []),zs 7 ((qy (lG .str))::zs 67 []),.none⟩
def aiK:=ajE.q1 {mask:=mk [(8,[0,2,3,4,5,7,12,13,14])],merge:=mg [(1,29),(11,55),(16,73)],mv:=[56,74]} func151 [pd (.sl bB),pf (.sl .str),pI,pI,pI,pd .bool] [(false,(.sl (.own none) iA)),rB] (c6 vE) Ta (λX K=>oZ (λy0 y1 y2=>ke 0 K Ta ((z2 (w y0 (w y1 (z3 (u y2)))) X.1),X.2)) (λy0 y1 y2 y3 y4=>kr K Ta ((z2 (w y0 (w y1 (z1 (w y2 (w y3 (u y4)))))) X.1),X.2)) X.1.1 X.1.2.1 (q4 X) (q5 X) (q6 X) X.2.1.1) (λX=>(q2 X,q3 X,q7 X)) (λX x=>((z2 (w x.1 (w x.2.1 (z3 (u x.2.2)))) X.1),X.2))
abbrev ZT:SD:=⟨B::DI::cW .str::B::B::B::.ptr 6 0::B::.ptr 8 0::bs 41 [],zs 6 ((qy (cS 73729 .str))::Z::(qy (cS 98305 .str))::zs 41 []),.none⟩
def aiL:=aiK.q1 {mask:=mk [(4,[1,2,6,8])],nest:=[33],mv:=[19,49]} func152 [pf (.sl .str),pI,pd .str] [(true,(.sl (.own none) .str)),rB] (c3 pT) ZT (λX K=>lT (λy0 y1 y2=>ke 0 K ZT ((w y0 (u y1) X.1),(z1 (u y2) X.2.1),X.2.2)) X.2.1.1) (λX=>(X.1.1,X.1.2.1,X.2.1.2.1)) (λX x=>((w x.1 (u x.2.1) X.1),(z1 (u x.2.2) X.2.1),X.2.2))
abbrev aem:SD:=⟨bs 4 (cW .str::bs 7 (.ptr 12 0::B::.ptr 14 0::bs 20 (cW (.sl .loc iA)::DI::DI::bs 20 []))),zs 12 ((qy (cS 147457 .str))::Z::(qy (cS 172033 .str))::zs 43 []),.none⟩
def G96:=aiL.q1 {mask:=mk [(6,[4,12,14,35,36,37])],mv:=[34,41,50,57],sb:=mg [(14,14)]} func96 [pd (.sl bB),pf (.sl .str),pI,pI,pd .str,pd .bool] [(true,(.sl (.own none) .str)),rB] (c6 BT) aem (λX K=>vD (λy0 y1 y2=>ke 0 K aem ((w y0 (z2 (u y1)) X.1),(z1 (u y2) X.2.1),X.2.2)) X.1.2.1 (q2 X) X.2.1.1) (λX=>(X.1.1,q3 X,X.2.1.2.1)) (λX x=>((w x.1 (z2 (u x.2.1)) X.1),(z1 (u x.2.2) X.2.1),X.2.2))
def aiS:=G96.q0 {} func159 [pd (.sl bB),pf (.sl .str),pI,pI,pd .str] [(true,(.sl (.own none) .str)),rB] (c5 oa)
def aiT:=aiS.q0 {merge:=mg [(1,11)]} func160 [pf rY,pI] [rI] (c2 mq)
def ah8:=aiT.q0 {merge:=mg [(1,22)],mv:=[26,36,40,50],mb:=mg [(40,13),(50,13)],sb:=mg [(10,10),(11,11),(13,13)]} func100 [pd (.sl bB),pf (.sl .str),pI,pf rY,pd .str] [(true,(.sl (.own none) .str)),(true,Y1),rB] (c5 sY)
abbrev aeg:SD:=⟨cW (lG bB)::B::DI::bs 5 (.ptr 8 0::.ptr 9 0::.ptr 10 0::.ptr 11 0::.ptr 12 0::B::.ptr 14 0::.ptr 15 0::DI::bs 22 (cW (lG (.int .i64))::DI::DI::bs 38 [])),zs 8 ((some Y1)::(some Y15)::(qy (cS 122881 .str))::(some Y1)::(some Y28)::Z::(qy (cS 172033 .str))::(some Y27)::zs 64 []),.none⟩
def G45:=ah8.q1 {mask:=mk [(6,[0,2,8,9,10,11,12,14,15,16,39,40,41])],merge:=mg [(2,34)],mv:=[35,37,53,65,76,78],mb:=mg [(35,14),(37,15),(65,20),(76,14),(78,15)],sb:=mg [(8,8),(10,10),(11,11),(12,12),(14,14),(15,15)]} func45 [pd (.sl bB),pf (.sl .str),pI,pf rY,pf iX] [(true,(.sl (.own none) .str)),(true,Y1),(true,Y9),rI] (c5 hU) aeg (λX K=>mh (λy0 y1 y2 y3=>ke 0 K aeg ((z2 (w y0 (z2 (u y1))) X.1),(w y2 (z4 (u y3)) X.2.1),X.2.2)) X.1.1 X.1.2.1 (q3 X) (q4 X) X.2.1.2.1 X.2.1.2.2.1 X.2.1.2.2.2.1 X.2.1.2.2.2.2.1 X.2.1.2.2.2.2.2.2.1) (λX=>(q2 X,q5 X,X.2.1.1,X.2.1.2.2.2.2.2.1)) (λX x=>((z2 (w x.1 (z2 (u x.2.1))) X.1),(w x.2.2.1 (z4 (u x.2.2.2)) X.2.1),X.2.2))
abbrev Z0:SD:=⟨B::DI::DI::.ptr 3 0::bs 4 (cW (cS 98304 (.int .u8))::bs 41 []),Z::Z::Z::(qy (lG .str))::zs 46 [],.none⟩
def ajz:=G45.q1 {mask:=mk [(4,[1,2,3,8])],mv:=[41]} func212 [pf (.sl .str),pI,pI] [rS,rB] (c3 nD) Z0 (λX K=>kl (λy0 y1=>ke 0 K Z0 ((w y0 (z1 (u y1)) X.1),X.2)) X.1.2.1 X.2.1.1) (λX=>(X.1.1,q2 X)) (λX x=>((w x.1 (z1 (u x.2)) X.1),X.2))
abbrev ZS:SD:=⟨bs 6 (.ptr 6 0::bs 7 (cW .str::bs 15 (cW (.sl .loc iA)::DI::DI::bs 17 []))),zs 6 ((qy (lG .str))::zs 43 []),.none⟩
def aiH:=ajz.q1 {mask:=mk [(6,[6,14,30,31,32])]} func148 [pd (.sl bB),pf (.sl .str),pI,pI,pI] [rS,rB] (c5 mU) ZS (λX K=>rf (λy0 y1=>ke 0 K ZS ((w y0 (z2 (u y1)) X.1),X.2)) X.1.2.1 (q2 X) X.2.1.1) (λX=>(X.1.1,q3 X)) (λX x=>((w x.1 (z2 (u x.2)) X.1),X.2))
def ai4:=aiH.q0 {} func173 [pf gM] [rI] (c1 mw)
def ajO:=ai4.q0 {merge:=mg [(1,13)]} func228 [pd .str,pI] [rI] (c2 eR)
def ajP:=ajO.q0 {merge:=mg [(1,13)]} func229 [pd .str,pI] [rI] (c2 ig)
def ai5:=ajP.q0 {} func174 [pd .str] [(true,(.pair (.int .i64) Y1)),rI,rB] (c1 ky)
def ai6:=ai5.q0 {} func175 [pf gM] [rI] (c1 ti)
def aip:=ai6.q0 {merge:=mg [(7,46)],sb:=mg [(8,8),(9,9)]} func118 [pd (.sl bB),pf (.sl .str),pI,pf gM] [(true,(.pair (.int .i64) Y1)),(true,Y21),rB] (c4 lP)
def akd:=aip.q0 {merge:=mg [(1,2)]} func258 [pf Zy] [rB] (c1 xO)
def ajA:=akd.q0 {merge:=mg [(4,33)],sb:=mg [(4,4)]} func213 [pd .str] [(true,Y16),rB] (c1 qI)
def aj8:=ajA.q0 {merge:=mg [(1,17)]} func252 [pd .str,pI,pd .str] [rS] (c3 fB)
def akU:=aj8.q0 {merge:=mg [(1,12)]} func302 [pI,pI] [rI] (c2 wH)
abbrev aac:SD:=⟨cW .str::B::B::DI::DI::bs 28 [],zs 33 [],.none⟩
def akK:=akU.q1 {mask:=mk [(3,[0,3,4])]} func292 [pd .str] [rI] (c1 uV) aac (λX K=>pP (λy0 y1=>ke 0 K aac ((z1 (w y0 (u y1)) X.1),X.2)) X.1.1) (λX=>(X.1.2.1,q2 X)) (λX x=>((z1 (w x.1 (u x.2)) X.1),X.2))
def ako:=akK.q0 {} func269 [pd .str] [rI] (c1 iS)
def akT:=ako.q0 {merge:=mg [(1,2)]} func301 [pf TIp] [rB] (c1 Gv)
def akF:=akT.q0 {} func287 [pf TIp] [rS,rB] (c1 uR)
def ake:=akF.q0 {} func259 [pf TIp] [rS,rB] (c1 sN)
def ajB:=ake.q0 {merge:=mg [(2,22),(6,56)],sb:=mg [(5,5)]} func214 [pd .str] [(true,Y22),rB] (c1 wL)
def akm:=ajB.q0 {merge:=mg [(1,27)]} func267 [pI,pI,pI,pI] [rS,rB] (c4 oE)
def akn:=akm.q0 {} func268 [pI] [rI] (c1 eZ)
def akG:=akn.q0 {} func288 [pf zh] [rS] (c1 pU)
def akf:=akG.q0 {merge:=mg [(8,39)]} func260 [pI,pI,pf zh] [rS,rB] (c3 jj)
def ajC:=akf.q0 {merge:=mg [(3,20),(9,44),(12,68)]} func215 [pI,pI,pI,pd .str] [(true,(.pair (.int .i64) Y22)),rB] (c4 oD)
def aiI:=ajC.q0 {merge:=mg [(2,20)]} func149 [pd .str] [(true,Y3),rI] (c1 ij)
abbrev S8:SD:=⟨B::B::B::.ptr 3 0::DI::B::B::cW (lG dM)::DI::DI::bs 10 [],Z::Z::Z::(qy (cx yJ Y1))::zs 16 [],.none⟩
def aiq:=aiI.q1 {mask:=mk [(2,[3,4,7,8,9])]} func119 [pd (.sl dM),pf oR] [rI] (c2 pO) S8 (λX K=>lR (λy0=>ke 0 K S8 ((z3 (u y0) X.1),X.2)) (λy0 y1=>kr K S8 ((w y0 (z2 (u y1)) X.1),X.2)) X.1.1 X.1.2.1 (q2 X) X.2.1.1) q3 (λX x=>((z3 (u x) X.1),X.2))
def aju:=aiq.q0 {} func207 [pf cQ] [(true,(.pair (.int .i64) Y1))] (c1 sj)
def aiJ:=aju.q0 {merge:=mg [(17,82)],mv:=[16,31,51,58,67,83,132],er:=mg [(115,5)]} func150 [pd (.sl dM),pf cQ] [(false,(.sl (.own none) dM))] (c2 wI)
abbrev aek:SD:=⟨cW (lG bB)::B::DI::B::B::B::DI::B::B::B::.ptr 10 0::B::B::B::.ptr 14 0::.ptr 15 0::.ptr 16 0::B::B::.ptr 19 0::.ptr 20 0::cW (cS 258048 dM)::DI::bs 99 [],zs 10 ((some Y10)::Z::Z::Z::(qy (cS 172033 .str))::(some Y10)::(qy (iV (iV (iV (cS 196618 (.int .i64))))))::Z::Z::(qy (cS 233473 .str))::(qy (iV (iV (iV (cS 245770 (.int .i64))))))::zs 101 []),.none⟩
def G94:=aiJ.q1 {mask:=mk [(5,[0,2,6,10,14,15,16,19,20,21,22])],merge:=mg [(2,48)],mv:=[49,51,52,96,104,117,119,120],mb:=mg [(49,19),(51,20),(117,19),(119,20)],sb:=mg [(14,14),(15,15),(16,16),(19,19),(20,20)]} func94 [pd (.sl bB),pf (.sl .str),pI,pf dP,pf iX,pd (.sl dM),pI] [(true,(.sl (.own none) .str)),(true,Y10),(true,Y9),(false,(.sl (.own none) dM)),rI] (c7 sV) aek (λX K=>kX (λy0 y1 y2 y3=>ke 0 K aek ((z3 (w y0 (u y1)) X.1),(w y2 (z4 (u y3)) X.2.1),X.2.2)) X.1.1 X.1.2.1 (q2 X) X.2.1.2.1 X.2.1.2.2.1 X.2.1.2.2.2.1 X.2.1.2.2.2.2.1) (λX=>(q3 X,q4 X,X.2.1.1,X.2.1.2.2.2.2.2.1)) (λX x=>((z3 (w x.1 (u x.2.1)) X.1),(w x.2.2.1 (z4 (u x.2.2.2)) X.2.1),X.2.2))
def e39:iW:=jc (.pair (.sl (.own none) .str) (.pair (.sl (.own none) bB) (.pair (.pair (.pair (.int .i64) (.pair (.int .i64) (.pair (.int .i64) (.int .i64)))) (.pair (.pair (.int .i64) (.pair (.int .i64) (.pair (.int .i64) (.sl (.own none) (.int .i64))))) (.pair (.sl (.own none) iO) (.int .i64)))) (.pair (.sl (.own none) dP) (.pair (.sl (.own none) iX) (.pair (.sl (.own none) fI) (.pair (.sl (.own none) .bool) (.pair (.pair (.int .i64) (.pair .bool (.sl (.own none) (.int .i64)))) (.pair (.pair (.sl (.own none) ji) (.pair (.sl (.own none) gx) (.pair .str (.sl (.own none) (.int .i64))))) (.pair (.sl (.own none) dM) (.pair .bool (.pair (.sl (.own none) .str) (.pair (.sl (.own none) (.int .i64)) (.pair (.sl (.own none) (.int .i64)) (.pair (.int .i64) (.pair (.int .i64) (.pair (.int .i64) (.pair (.int .i64) (.int .i64))))))))))))))))))) [pI,pI] [rI] λx a=>jS x a.1 a.2.1
theorem o39:C5 39 e39:=gA.oJ (ov (an:={mv:=[8,49,51,52],sb:=mg [(55,0),(59,0)],fm:=[19,20],eb:=mg [(56,0),(57,0)]}) (Λ:=kN.nil) (G94.s) func39 (by kernel_rfl) (ao nF)) (λx a=>by kernel_rfl)
def G39:=G94.add o39
abbrev ael:SD:=⟨B::B::DI::B::B::B::.ptr 6 0::B::.ptr 8 0::DI::bs 20 [],zs 6 ((some Y30)::Z::(some Y29)::zs 21 []),.none⟩
def G95:=G39.q1 {mask:=mk [(5,[2,6,8,9])],mv:=[24,29]} func95 [pI,pI,pI] [(true,Y9),rB] (c3 sU) ael (λX K=>ri (λy0 y1=>ke 0 K ael ((z1 (u y0) X.1),(z1 (u y1) X.2.1),X.2.2)) X.1.1 X.2.1.1) (λX=>(X.1.2.1,X.2.1.2.1)) (λX x=>((z1 (u x.1) X.1),(z1 (u x.2) X.2.1),X.2.2))
def G40:=G95.q0 {mv:=[3,8]} func40 [] [(true,Y18)] (λa=>Ak)
def G41:=G40.q0 {} func41 [pd (.sl bB),pf (.sl .str),pI,pI,pd .str] [(true,(.sl (.own none) .str)),rB] (c5 jf)
def G42:=G41.q0 {} func42 [pI] [rI] (c1 pa)
abbrev aef:SD:=⟨cW (.int .u8)::bs 4 (cW (cS 61440 (.int .u8))::bs 4 (DI::DI::bs 9 [])),zs 21 [],.none⟩
def G43:=G42.q1 {mask:=mk [(3,[0,5,10,11])]} func43 [pd (.int .u8),pI] [rS] (c2 mR) aef (λX K=>tj (λy0 y1=>ke 0 K aef ((z1 (w y0 (z1 (u y1))) X.1),X.2)) X.1.1 (q2 X)) (λX=>(X.1.2.1,q3 X)) (λX x=>((z1 (w x.1 (z1 (u x.2))) X.1),X.2))
def G44:=G43.q0 {mv:=[10,24],mb:=mg [(24,5)],sb:=mg [(2,2),(3,3)]} func44 [pI] [(true,Y10),(true,Y9)] (c1 ug)
def n15:An:={mask:=mk [(5,[2,3,21,22]),(10,[2,3,30,31,32]),(18,[2,3,54,55])],mv:=[18,37,88,98,121,142],sb:=mg [(90,3)]}
abbrev Vx:SD:=⟨B::B::.ptr 2 0::.ptr 3 0::bs 17 (DI::DI::bs 120 []),Z::Z::(some Y2)::(some Y4)::zs 139 [],.none⟩
def aeB (X:SD.D Vx)(K:tX R):=oA (λy0 y1=>ke 0 K Vx ((z1 (u y0) X.1),(z1 (u y1) X.2.1),X.2.2)) X.1.1 X.2.1.1
abbrev NF:SD:=⟨B::B::.ptr 2 0::.ptr 3 0::bs 26 (cW (.sl .loc iO)::DI::DI::bs 110 []),Z::Z::(some Y2)::(some Y4)::zs 139 [],.none⟩
def ab6 (X:SD.D NF)(K:tX R):=mV (λy0 y1=>ke 2 K NF ((z2 (u y0) X.1),(z1 (u y1) X.2.1),X.2.2)) X.1.1 X.1.2.1 X.2.1.1
abbrev NG:SD:=⟨B::B::.ptr 2 0::.ptr 3 0::bs 50 (DI::DI::bs 87 []),Z::Z::(some Y2)::(some Y4)::zs 139 [],.none⟩
def ab7 (X:SD.D NG)(K:tX R):=kj (λy0 y1=>ke 4 K NG ((z1 (u y0) X.1),(z1 (u y1) X.2.1),X.2.2)) X.1.1 X.2.1.1
def L15:kN:=((kN.nil.add 5 (xR Vx aeB (λX=>(X.1.2.1,X.2.1.2.1)))).add 10 (xR NF ab6 (λX=>(q2 X,X.2.1.2.1)))).add 18 (xR NG ab7 (λX=>(X.1.2.1,X.2.1.2.1)))
theorem ahI:wC E G44.g n15 L15 (cG f15 0):=lk Vx aeB (λX=>(X.1.2.1,X.2.1.2.1)) λX x=>((z1 (u x.1) X.1),(z1 (u x.2) X.2.1),X.2.2)
theorem afJ:wC E G44.g n15 L15 (cG f15 1):=lk NF ab6 (λX=>(q2 X,X.2.1.2.1)) λX x=>((z2 (u x.1) X.1),(z1 (u x.2) X.2.1),X.2.2)
theorem afK:wC E G44.g n15 L15 (cG f15 2):=lk NG ab7 (λX=>(X.1.2.1,X.2.1.2.1)) λX x=>((z1 (u x.1) X.1),(z1 (u x.2) X.2.1),X.2.2)
def G15:=G44.qk n15 func15 [pf dJ] [(true,Y0)] (c1 ki) (cF ahI (cF afJ (cF afK nF)))
def aiZ:=G15.q0 {merge:=mg [(1,20)],sb:=mg [(9,9)]} func167 [pd (.sl bB),pf (.sl .str),pI,pf rY] [rS,(true,Y1),rB] (c4 qL)
def ajG:=aiZ.q0 {sb:=mg [(4,4)]} func219 [pd .str] [(true,(.pair (.int .i64) (.pair (.int .i64) Y1))),rB] (c1 nB)
def akH:=ajG.q0 {} func289 [pI] [rS] (c1 uW)
def akg:=akH.q0 {} func261 [pf Zy] [rS,rB] (c1 uI)
def akh:=akg.q0 {} func262 [pd .str] [rS] (c1 wK)
def ajH:=akh.q0 {} func220 [pf cQ] [rS,rB] (c1 gH)
def akI:=ajH.q0 {} func290 [pd .str,pI] [rI] (c2 vC)
abbrev aab:SD:=⟨cW .str::DI::B::B::B::DI::DI::bs 22 [],zs 29 [],.none⟩
def akJ:=akI.q1 {mask:=mk [(5,[0,1,5,6])],merge:=mg [(1,14)]} func291 [pd .str,pI] [rI] (c2 sT) aab (λX K=>oC (λy0 y1=>ke 0 K aab ((z2 (w y0 (u y1)) X.1),X.2)) X.1.1 X.1.2.1) (λX=>(q2 X,q3 X)) (λX x=>((z2 (w x.1 (u x.2)) X.1),X.2))
abbrev Z6:SD:=⟨cW .str::cW .str::B::B::B::DI::DI::bs 25 [],zs 32 [],.none⟩
def aki:=akJ.q1 {mask:=mk [(5,[0,1,5,6])],merge:=mg [(1,14)]} func263 [pd .str,pd .str] [rI] (c2 sP) Z6 (λX K=>oy (λy0 y1=>ke 0 K Z6 ((z2 (w y0 (u y1)) X.1),X.2)) X.1.1 X.1.2.1) (λX=>(q2 X,q3 X)) (λX x=>((z2 (w x.1 (u x.2)) X.1),X.2))
def akj:=aki.q0 {} func264 [pf oR] [rS] (c1 sQ)
def ajI:=akj.q0 {} func221 [pd .str,pf oR] [rI] (c2 qG)
def akk:=ajI.q0 {merge:=mg [(1,2)]} func265 [pf oR] [rB] (c1 kV)
def akl:=akk.q0 {merge:=mg [(1,12)]} func266 [pf oR,pI] [rS] (c2 kz)
def agH:=akl.q0 {merge:=mg [(1,22)],mv:=[26,37,41,51],mb:=mg [(41,13),(51,13)],sb:=mg [(10,10),(11,11),(13,13)]} func222 [pd (.sl bB),pf (.sl .str),pI,pf gM,pf oR] [(true,(.sl (.own none) .str)),(true,Y21),rB] (c5 mY)
def ak9:iW:=yQ [pd (.sl bB),pf (.sl .str),pI,pf dP,pd .str,pd .str] [(true,(.sl (.own none) .str)),(true,Y21),rB] [(true,(.sl .arg .str)),(true,Y21),rB] rfl λa=>tn a.1 a.2.1 a.2.2.1 a.2.2.2.1 a.2.2.2.2.1 a.2.2.2.2.2.1
theorem al5:C5 168 ak9:=gA.ofAlt (Qd (an:={merge:=mg [(3,50)],sb:=mg [(12,12),(13,13),(20,20)]}) (Λ:=kN.nil) (by rfl) (agH.s) func168 (by kernel_rfl) (ao nF)) (λa=>by kernel_rfl)
def ai0:=agH.add al5
def aii:=ai0.q0 {merge:=mg [(1,31)],mv:=[52,66],mb:=mg [(66,16)],sb:=mg [(10,10),(11,11)]} func111 [pd (.sl bB),pf (.sl .str),pI,pf dP,pd .str] [(true,(.sl (.own none) .str)),(true,Y10)] (c5 mi)
def ai3:=aii.q0 {merge:=mg [(1,9)]} func172 [pf fI] [(true,Y14)] (c1 nf)
def acC:=ai3.q0 {} func170 [pf fI] [(true,Y14)] (c1 uH)
def ak3:iW:=jc (.pair (.sl (.own none) .str) (.pair (.sl (.own none) bB) (.pair (.pair (.pair (.int .i64) (.pair (.int .i64) (.pair (.int .i64) (.int .i64)))) (.pair (.pair (.int .i64) (.pair (.int .i64) (.pair (.int .i64) (.sl (.own none) (.int .i64))))) (.pair (.sl (.own none) iO) (.int .i64)))) (.pair (.sl (.own none) dP) (.pair (.sl (.own none) iX) (.pair (.sl (.own none) fI) (.pair (.sl (.own none) .bool) (.pair (.pair (.int .i64) (.pair .bool (.sl (.own none) (.int .i64)))) (.pair (.pair (.sl (.own none) ji) (.pair (.sl (.own none) gx) (.pair .str (.sl (.own none) (.int .i64))))) (.pair (.sl (.own none) dM) (.pair .bool (.pair (.sl (.own none) .str) (.pair (.sl (.own none) (.int .i64)) (.pair (.sl (.own none) (.int .i64)) (.pair (.int .i64) (.pair (.int .i64) (.pair (.int .i64) (.pair (.int .i64) (.int .i64))))))))))))))))))) [pI,pI] [] λx a=>ko x a.1 a.2.1
def ahW:An:={mask:=mk [(2,[0,1,7])]}
abbrev NB:SD:=⟨.ptr 0 0::DI::bs 5 (DI::bs 34 []),(qy (cx (cS 1 .str) (cx (cS 4 bB) (cx (cx Y1 (cx (iV (iV (iV (cS 28 (.int .i64))))) (cx (cS 31 iO) yJ))) (cx (cS 37 dP) (cx (cS 40 iX) (cx (cS 43 fI) (cx (cS 46 .bool) (cx (iV (cx .bool (cS 55 (.int .i64)))) (cx (cx (cS 58 ji) (cx (cS 61 gx) (cx .str (cS 67 (.int .i64))))) (cx (cS 70 dM) (cx .bool (cx (cS 76 .str) (cx (cS 79 (.int .i64)) (cx (cS 82 (.int .i64)) (cx yJ Y1))))))))))))))))::zs 41 [],.ptr⟩
def ab3 (X:SD.D NB)(K:tX R):=oG (λy0 y1=>ke 0 K NB ((z1 (u y0) X.1),(u y1 X.2.1),X.2.2)) X.1.1
def agL:kN:=kN.nil.add 2 (xR NB ab3 (λX=>(X.1.2.1,X.2.1.1)))
theorem afG:wC E acC.g ahW agL (cG f112 0):=lk NB ab3 (λX=>(X.1.2.1,X.2.1.1)) λX x=>((z1 (u x.1) X.1),(u x.2 X.2.1),X.2.2)
theorem alZ:C5 112 ak3:=gA.oJ (ov (Γ:=acC.g) (an:=ahW) (Λ:=agL) (acC.s) func112 (by kernel_rfl) (ao (cF afG nF))) (λx a=>by kernel_rfl)
def aij:=acC.add alZ
abbrev aeh:SD:=⟨B::.ptr 1 0::.ptr 2 0::.ptr 3 0::bs 9 (DI::DI::bs 35 []),Z::(some Y5)::(some Y2)::(some Y4)::zs 46 [],.none⟩
def G57:=aij.q1 {mask:=mk [(5,[1,2,3,13,14])],mv:=[10,17,35,49],sb:=mg [(37,3)]} func57 [pf dJ] [(true,Y0)] (c1 sR) aeh (λX K=>oz (λy0 y1=>ke 0 K aeh ((z1 (u y0) X.1),(z2 (u y1) X.2.1),X.2.2)) X.1.1 X.2.1.1 X.2.1.2.1) (λX=>(X.1.2.1,X.2.1.2.2.1)) (λX x=>((z1 (u x.1) X.1),(z2 (u x.2) X.2.1),X.2.2))
abbrev Tf:SD:=⟨cW (lG bB)::B::DI::B::B::.ptr 5 0::B::.ptr 7 0::cW (cS 98304 mQ)::.ptr 9 0::DB::.ptr 11 0::cW (cS 147456 mQ)::bs 57 [],zs 5 ((qy (lG .str))::Z::(some Y1)::Z::(some Y1)::Z::(some Y1)::zs 58 []),.none⟩
def ajJ:=G57.q1 {mask:=mk [(6,[0,2,5,7,8,9,10,11,12])],merge:=mg [(1,24),(15,67)],mv:=[55,68],sb:=mg [(9,9)]} func223 [pd (.sl bB),pf (.sl .str),pI,pf rY] [(false,(.sl (.own none) mQ)),(true,Y1),rB] (c4 sZ) Tf (λX K=>kY (λy0 y1=>ke 0 K Tf ((z4 (u y0) X.1),(z1 (u y1) X.2.1),X.2.2)) (λy0 y1 y2 y3 y4=>kr K Tf ((z2 (w y0 (w y1 (u y2))) X.1),(z1 (w y3 (u y4)) X.2.1),X.2.2)) X.1.1 X.1.2.1 (q2 X) (q3 X) X.2.1.1 X.2.1.2.2.1 X.2.1.2.2.2.1) (λX=>(q4 X,X.2.1.2.1)) (λX x=>((z4 (u x.1) X.1),(z1 (u x.2) X.2.1),X.2.2))
abbrev Tm:SD:=⟨cW (lG iA)::B::DB::B::B::cW (lG iA)::DI::DI::bs 16 [],zs 24 [],.none⟩
def Zu:=ajJ.q1 {mask:=mk [(2,[0,2,5,6,7])],merge:=mg [(4,19)]} func253 [pd (.sl iA)] [rB] (c1 qJ) Tm (λX K=>pK (λy0=>ke 0 K Tm ((z4 (u y0) X.1),X.2)) (λy0 y1=>kr K Tm ((z1 (w y0 (z2 (u y1))) X.1),X.2)) X.1.1 X.1.2.1 (q2 X) (q3 X)) q4 (λX x=>((z4 (u x) X.1),X.2))
def alg:iW:=yQ [pd (.sl iA),pI,pI] [(false,(.sl (.own none) mQ))] [(false,(.sl .nil mQ))] rfl λa=>im a.1 a.2.1 a.2.2.1
def af7:An:={mask:=mk [(5,[0,2,7,30,31,32]),(13,[6,7,54,55,56])],merge:=mg [(1,25)],nils:=[6],mv:=[49,64]}
abbrev NM:SD:=⟨cW (lG iA)::B::DI::bs 4 (cW (cS 86016 mQ)::bs 22 (cW (lG iA)::DI::DI::bs 32 [])),zs 65 [],.none⟩
def ach (X:SD.D NM)(K:tX R):=jL (λy0 y1=>ke 0 K NM ((z2 (w y0 (z2 (u y1))) X.1),X.2)) X.1.1 X.1.2.1 (q3 X) (q4 X)
abbrev Iv:SD:=⟨bs 7 (cW (cS 86016 mQ)::bs 46 (cW (.sl .loc mQ)::DI::DI::bs 8 [])),zs 65 [],.none⟩
abbrev Td:SD:=⟨bs 6 (cW (.sl .nil mQ)::cW (cS 86016 mQ)::bs 46 (cW (.sl .loc mQ)::DI::DI::bs 8 [])),zs 65 [],.none⟩
def Wu (X:SD.D Iv)(K:tX R):=jl (λy0=>ke 2 K Iv ((z3 (u y0) X.1),X.2)) (λy0 y1=>kr K Td ((y0,(X.1.1,(X.1.2.1,(X.1.2.2.1,(y1,()))))),(),())) X.1.1 X.1.2.1 (q2 X)
def aeX:kN:=(kN.nil.add 5 (xR NM ach (λX=>(q2 X,q5 X)))).add 13 (xR Iv Wu q3)
theorem afT:wC E Zu.g af7 aeX (cG f201 0):=lk NM ach (λX=>(q2 X,q5 X)) λX x=>((z2 (w x.1 (z2 (u x.2))) X.1),X.2)
theorem adr:wC E Zu.g af7 aeX (cG f201 1):=lk Iv Wu q3 λX x=>((z3 (u x) X.1),X.2)
theorem amc:C5 201 alg:=gA.ofAlt (Qd (Γ:=Zu.g) (an:=af7) (Λ:=aeX) (by rfl) (Zu.s) func201 (by kernel_rfl) (ao (cF afT (cF adr nF)))) (λa=>by kernel_rfl)
def aeS:=Zu.add amc
def af8:An:={mask:=mk [(5,[0,6,18,19,20]),(14,[0,2,3,4,5,6,9,10,11,51,52])],mv:=[24,65]}
abbrev NN:SD:=⟨cW (lG mQ)::bs 5 (cW (cS 73728 iA)::bs 11 (cW (lG mQ)::DI::DI::bs 47 [])),zs 68 [],.none⟩
def aci (X:SD.D NN)(K:tX R):=kA (λy0 y1=>ke 0 K NN ((z1 (w y0 (z2 (u y1))) X.1),X.2)) X.1.1 (q2 X) (q3 X)
abbrev Iw:SD:=⟨cW (lG mQ)::bs 5 (cW (cS 73728 iA)::B::B::DI::DI::cW (cS 135168 mQ)::bs 39 (DI::DI::bs 15 [])),zs 68 [],.none⟩
abbrev Tg:SD:=⟨cW (lG mQ)::B::cW (cS 24576 iA)::DI::DI::DB::cW (cS 73728 iA)::B::B::DI::DI::cW (cS 135168 mQ)::bs 39 (DI::DI::bs 15 []),zs 68 [],.none⟩
def Wv (X:SD.D Iw)(K:tX R):=ga (λy0=>ke 2 K Iw ((z6 (u y0) X.1),X.2)) (λy0 y1 y2 y3 y4=>kr K Tg ((X.1.1,(y0,(y1,(y2,(y3,(X.1.2.1,(X.1.2.2.1,(X.1.2.2.2.1,(X.1.2.2.2.2.1,(X.1.2.2.2.2.2.1,(y4,()))))))))))),(),())) X.1.1 X.1.2.1 (q2 X) (q3 X) (q4 X) (q5 X)
def agS:kN:=(kN.nil.add 5 (xR NN aci (λX=>(X.1.2.1,q4 X)))).add 14 (xR Iw Wv q6)
theorem afU:wC E aeS.g af8 agS (cG f224 0):=lk NN aci (λX=>(X.1.2.1,q4 X)) λX x=>((z1 (w x.1 (z2 (u x.2))) X.1),X.2)
theorem ads:wC E aeS.g af8 agS (cG f224 1):=lk Iw Wv q6 λX x=>((z6 (u x) X.1),X.2)
def ajK:=aeS.qk af8 func224 [pd (.sl mQ)] [(false,(.sl (.own none) iA)),rI,rI,rB] (c1 mX) (cF afU (cF ads nF))
abbrev Th:SD:=⟨cW (lG bB)::B::DI::B::B::.ptr 5 0::B::B::cW .str::DB::cW .str::bs 7 (cW (lG iA)::DI::DI::bs 21 []),zs 5 ((qy (lG .str))::zs 36 []),.none⟩
def ajL:=ajK.q1 {mask:=mk [(5,[0,2,5,8,9,10,18,19,20])]} func225 [pd (.sl bB),pf (.sl .str),pI,pd (.sl iA)] [rS,rB] (c4 ox) Th (λX K=>kW (λy0 y1=>ke 0 K Th ((z4 (w y0 (z2 (u y1))) X.1),X.2)) (λy0 y1 y2 y3=>kr K Th ((z2 (w y0 (w y1 (w y2 (z2 (u y3))))) X.1),X.2)) X.1.1 X.1.2.1 (q2 X) (q3 X) (q5 X) (q6 X) X.2.1.1) (λX=>(q4 X,q7 X)) (λX x=>((z4 (w x.1 (z2 (u x.2))) X.1),X.2))
def aj7:=ajL.q0 {} func251 [pd .str] [rI,rI] (c1 pc)
def ajn:=aj7.q0 {} func197 [pf cQ] [rS,rB] (c1 lu)
def ajM:=ajn.q0 {merge:=mg [(3,38),(9,74),(12,84),(17,117)]} func226 [pd .str] [rS,rB] (c1 uK)
def aeT:=ajM.q0 {merge:=mg [(1,2)]} func204 [pf cQ] [rB] (c1 lq)
def af9:An:={mask:=mk [(3,[0,3,4]),(7,[0,3,4,5])]}
abbrev NS:SD:=⟨cW .str::B::B::cW (.int .u32)::DI::DI::bs 28 [],zs 34 [],.none⟩
def ack (X:SD.D NS)(K:tX R):=nZ (λy0 y1=>ke 2 K NS ((z1 (w y0 (z1 (u y1))) X.1),X.2)) X.1.1 (q2 X)
abbrev NR:SD:=⟨cW .str::B::B::cW (.int .u32)::DI::bs 29 [],zs 34 [],.none⟩
def acj (X:SD.D NR)(K:tX R):=qE (λy0 y1=>ke 0 K NR ((z1 (w y0 (u y1)) X.1),X.2)) X.1.1
def agT:kN:=(kN.nil.add 7 (xR NS ack (λX=>(X.1.2.1,q3 X)))).add 3 (xR NR acj (λX=>(X.1.2.1,q2 X)))
theorem afW:wC E aeT.g af9 agT (cG f285 1):=lk NS ack (λX=>(X.1.2.1,q3 X)) λX x=>((z1 (w x.1 (z1 (u x.2))) X.1),X.2)
theorem afV:wC E aeT.g af9 agT (cG f285 0):=lk NR acj (λX=>(X.1.2.1,q2 X)) λX x=>((z1 (w x.1 (u x.2)) X.1),X.2)
def akD:=aeT.qk af9 func285 [pd .str] [rI] (c1 Ai) (cF afV (cF afW nF))
def aj9:=akD.q0 {} func254 [pd .str] [rS] (c1 tc)
def akL:=aj9.q0 {} func293 [pf cQ] [rS,rB] (c1 re)
abbrev Z7:SD:=⟨B::B::B::cW (cS 36864 .str)::bs 5 (cW (lG cQ)::DI::DI::bs 15 []),zs 27 [],.none⟩
def akp:=akL.q1 {mask:=mk [(3,[3,9,10,11])],mv:=[21,26]} func270 [pd (.sl cQ)] [(false,(.sl (.own none) .str))] (c1 uN) Z7 (λX K=>mj (λy0 y1=>ke 0 K Z7 ((w y0 (z2 (u y1)) X.1),X.2)) X.1.2.1 (q2 X)) (λX=>(X.1.1,q3 X)) (λX x=>((w x.1 (z2 (u x.2)) X.1),X.2))
abbrev Z8:SD:=⟨B::DI::.ptr 2 0::B::B::cW .str::cW (cS 73728 cQ)::DI::bs 80 [],Z::Z::(some Y3)::zs 85 [],.none⟩
def akq:=akp.q1 {mask:=mk [(8,[1,2,5,6,7])],merge:=mg [(1,17),(4,30)],mv:=[83,87]} func271 [pf cQ,pI] [(false,(.sl (.own none) cQ))] (c2 Aj) Z8 (λX K=>uT (λy0 y1=>ke 0 K Z8 ((z2 (w y0 (u y1)) X.1),X.2)) X.1.1 X.1.2.1 X.2.1.1) (λX=>(q2 X,q3 X)) (λX x=>((z2 (w x.1 (u x.2)) X.1),X.2))
def ajN:=akq.q0 {} func227 [pf cQ,pI] [(false,(.sl (.own none) .str))] (c2 rj)
def ai2:=ajN.q0 {merge:=mg [(1,28)],sb:=mg [(8,8)]} func171 [pd (.sl bB),pf (.sl .str),pI,pf rY] [(true,Y1),(false,(.sl (.own none) .str)),rI] (c4 oF)
abbrev ae7:SD:=⟨cW (lG bB)::B::DI::B::B::.ptr 5 0::B::.ptr 7 0::.ptr 8 0::cW (cS 110592 .str)::DI::DI::cW (cS 147456 .str)::DI::DI::bs 30 [],zs 5 ((qy (lG .str))::Z::(some Y1)::(some Y1)::zs 36 []),.none⟩
abbrev WM:SD:=⟨cW (lG bB)::B::DI::B::B::.ptr 5 0::B::.ptr 7 0::.ptr 8 0::cW (cS 110592 .str)::DI::DI::cW (.sl .loc .str)::DI::DI::bs 30 [],zs 5 ((qy (lG .str))::Z::(some Y1)::(some Y1)::zs 36 []),.none⟩
def aik:=ai2.q1 {mask:=mk [(3,[0,2,5,7,8,9,10,11,12,13,14])],mv:=[35,42]} func113 [pd (.sl bB),pf (.sl .str),pI,pf rY] [(true,Y1),(false,(.sl (.own none) .str)),rI,rI] (c4 pS) ae7 (λX K=>lS (λy0 y1 y2 y3 y4 y5 y6 y7=>kr K WM ((X.1.1,(X.1.2.1,(y0,(y1,(y2,(y3,(y4,(y5,())))))))),(X.2.1.1,(y6,(y7,()))),())) X.1.1 X.1.2.1 (q2 X) (q3 X) (q4 X) X.2.1.1 X.2.1.2.2.1) (λX=>(q5 X,q6 X,q7 X,X.2.1.2.1)) (λX x=>((z5 (w x.1 (w x.2.1 (u x.2.2.1))) X.1),(z1 (u x.2.2.2) X.2.1),X.2.2))
abbrev ZP:SD:=⟨B::DI::.ptr 2 0::B::.ptr 4 0::B::.ptr 6 0::cW (cS 86016 (.int .i64))::bs 20 (cW (lG iO)::DI::DI::bs 26 []),Z::Z::(some Y25)::Z::(qy (cx Y1 (cx (iV (iV (iV (cS 49174 (.int .i64))))) (cx (cS 49177 iO) yJ))))::Z::(qy (cx Y1 (cx (iV (iV (iV (cS 73750 (.int .i64))))) (cx (cS 73753 iO) yJ))))::zs 50 [],.none⟩
def ail:=aik.q1 {mask:=mk [(6,[1,2,4,6,7,28,29,30])],merge:=mg [(2,22)],mv:=[23,34,43,55,56]} func114 [pf mc,pI] [(true,Y18),(false,(.sl (.own none) (.int .i64)))] (c2 kU) ZP (λX K=>jk (λy0 y1 y2=>ke 0 K ZP ((z1 (w y0 (z2 (u y1))) X.1),(z2 (u y2) X.2.1),X.2.2)) X.1.1 (q2 X) (q3 X) X.2.1.1 X.2.1.2.1) (λX=>(X.1.2.1,q4 X,X.2.1.2.2.1)) (λX x=>((z1 (w x.1 (z2 (u x.2.1))) X.1),(z2 (u x.2.2) X.2.1),X.2.2))
def G58:=ail.q0 {mv:=[15,33,37,51,54,58]} func58 [pf dJ] [(true,Y0)] (c1 oB)
def aim:=G58.q0 {merge:=mg [(1,11)]} func115 [pf fI] [(true,Y14),rB] (c1 nd)
def ain:=aim.q0 {} func116 [pf fI] [(true,Y14)] (c1 vB)
abbrev aei:SD:=⟨B::DI::B::B::.ptr 4 0::B::.ptr 6 0::DI::bs 17 (DI::DI::bs 53 []),zs 4 ((some Y7)::Z::(qy (cx (cS 73729 .str) (cx (cS 73732 bB) (cx (cx Y1 (cx (iV (iV (iV (cS 73756 (.int .i64))))) (cx (cS 73759 iO) yJ))) (cx (cS 73765 dP) (cx (cS 73768 iX) (cx (cS 73771 fI) (cx (cS 73774 .bool) (cx (iV (cx .bool (cS 73783 (.int .i64)))) (cx (cx (cS 73786 ji) (cx (cS 73789 gx) (cx .str (cS 73795 (.int .i64))))) (cx (cS 73798 dM) (cx .bool (cx (cS 73804 .str) (cx (cS 73807 (.int .i64)) (cx (cS 73810 (.int .i64)) (cx yJ Y1))))))))))))))))::zs 73 []),.none⟩
def G59:=ain.q1 {mask:=mk [(6,[1,4,6,7,25,26])],merge:=mg [(2,21)],mv:=[22,78]} func59 [pf dJ,pI] [(true,Y0),rI] (c2 pH) aei (λX K=>lO (λy0 y1 y2=>ke 0 K aei ((z1 (w y0 (z1 (u y1))) X.1),(z1 (u y2) X.2.1),X.2.2)) X.1.1 (q2 X) X.2.1.1) (λX=>(X.1.2.1,q3 X,X.2.1.2.1)) (λX x=>((z1 (w x.1 (z1 (u x.2.1))) X.1),(z1 (u x.2.2) X.2.1),X.2.2))
def aio:=G59.q0 {} func117 [pf fI] [(true,Y14)] (c1 rm)
abbrev aej:SD:=⟨B::B::.ptr 2 0::.ptr 3 0::bs 9 (DI::DI::bs 14 []),Z::Z::(some Y2)::(some Y4)::zs 25 [],.none⟩
def G60:=aio.q1 {mask:=mk [(5,[2,3,13,14])],mv:=[10,28]} func60 [pf dJ] [(true,Y0)] (c1 uQ) aej (λX K=>pJ (λy0 y1=>ke 0 K aej ((z1 (u y0) X.1),(z1 (u y1) X.2.1),X.2.2)) X.1.1 X.2.1.1) (λX=>(X.1.2.1,X.2.1.2.1)) (λX x=>((z1 (u x.1) X.1),(z1 (u x.2) X.2.1),X.2.2))
abbrev ZY:SD:=⟨B::B::B::DI::B::B::B::cW (lG iO)::DI::DI::bs 9 [],zs 19 [],.none⟩
def ajo:=G60.q1 {mask:=mk [(3,[3,7,8,9])]} func198 [pf mc] [rI] (c1 oI) ZY (λX K=>kZ (λy0 y1=>ke 0 K ZY ((w y0 (z2 (u y1)) X.1),X.2)) X.1.2.1 (q2 X)) (λX=>(X.1.1,q3 X)) (λX x=>((w x.1 (z2 (u x.2)) X.1),X.2))
def acD:=ajo.q0 {merge:=mg [(2,20)],mv:=[21,28],mb:=mg [(28,7)],sb:=mg [(4,4)]} func199 [pf iX,pI] [(true,Y9),(false,(.sl (.own none) (.int .i64))),rB] (c2 pR)
def alf:iW:=yQ [pd (.sl bB),pf (.sl .str),pI,pf iX,pd (.sl (.int .i64)),pd .str,pI] [(true,(.sl (.own none) .str)),(false,(.sl (.own none) iA)),rB] [(true,(.sl .arg .str)),(false,(.sl (.own none) iA)),rB] rfl λa=>mr a.1 a.2.1 a.2.2.1 a.2.2.2.1 a.2.2.2.2.1 a.2.2.2.2.2.1 a.2.2.2.2.2.2.1
def ahZ:An:={mask:=mk [(3,[0,2,5,6,8,10,14,15,16,17,24,25,26])],peel:=[3],mv:=[40,49,53,54,55,65,66],sb:=mg [(21,21)]}
abbrev NL:SD:=⟨cW (lG bB)::B::DI::B::B::cW .str::DI::B::.ptr 8 0::B::.ptr 10 0::B::B::B::.ptr 14 0::cW (cS 184320 iA)::DB::cW (cS 208896 iA)::bs 6 (cW (lG (.int .i64))::DI::DI::bs 40 []),zs 8 ((qy (cS 98305 .str))::Z::(some Y15)::Z::Z::Z::(qy (cS 172033 .str))::zs 52 []),.none⟩
abbrev WN:SD:=⟨cW (lG bB)::B::DI::B::B::cW .str::DI::B::.ptr 8 0::B::.ptr 10 0::B::B::B::.ptr 14 0::cW (cS 184320 iA)::DB::cW (cS 208896 iA)::bs 6 (cW (lG (.int .i64))::DI::DI::bs 40 []),zs 8 ((qy (.sl .loc .str))::Z::(some Y15)::Z::Z::Z::(qy (cS 172033 .str))::zs 52 []),.none⟩
def acg (X:SD.D NL)(K:tX R):=jB (λy0 y1 y2 y3=>ke 0 K NL ((z2 (w y0 (z3 (w y1 (z2 (u y2))))) X.1),(u y3 X.2.1),X.2.2)) (λy0 y1 y2 y3 y4 y5 y6=>kr K WN ((X.1.1,(X.1.2.1,(y0,(X.1.2.2.2.1,(y1,(y2,(y3,(X.1.2.2.2.2.2.2.2.1,(X.1.2.2.2.2.2.2.2.2.1,(y4,())))))))))),(y5,(X.2.1.2.1,(y6,()))),())) X.1.1 X.1.2.1 (q3 X) (q4 X) (q5 X) (q7 X) (q8 X) X.2.1.2.1 X.2.1.2.2.1
def agR:kN:=kN.nil.add 3 (xR NL acg (λX=>(q2 X,q6 X,q9 X,X.2.1.1)))
theorem afS:wC E acD.g ahZ agR (cG f200 0):=lk NL acg (λX=>(q2 X,q6 X,q9 X,X.2.1.1)) λX x=>((z2 (w x.1 (z3 (w x.2.1 (z2 (u x.2.2.1))))) X.1),(u x.2.2.2 X.2.1),X.2.2)
theorem amb:C5 200 alf:=gA.ofAlt (Qd (Γ:=acD.g) (an:=ahZ) (Λ:=agR) (by rfl) (acD.s) func200 (by kernel_rfl) (ao (cF afS nF))) (λa=>by kernel_rfl)
def ajp:=acD.add amb
abbrev Te:SD:=⟨cW (lG bB)::B::DI::B::B::B::.ptr 6 0::B::.ptr 8 0::B::.ptr 10 0::.ptr 11 0::DB::.ptr 13 0::.ptr 14 0::bs 6 (cW (lG .str)::DI::DI::bs 21 []),zs 6 ((qy (lG .str))::Z::(some Y1)::Z::(qy (cS 122881 .str))::(some Y1)::Z::(qy (cS 159745 .str))::(some Y1)::zs 30 []),.none⟩
def ajq:=ajp.q1 {mask:=mk [(3,[0,2,6,8,10,11,12,13,14,21,22,23])],mv:=[27,43],mb:=mg [(43,13)],sb:=mg [(10,10),(11,11),(13,13),(14,14)]} func202 [pd (.sl bB),pf (.sl .str),pI,pf rY,pd (.sl .str)] [(true,(.sl (.own none) .str)),(true,Y1),rB] (c5 ju) Te (λX K=>km (λy0 y1 y2=>ke 0 K Te ((z5 (u y0) X.1),(z4 (w y1 (u y2)) X.2.1),X.2.2)) (λy0 y1 y2 y3 y4 y5=>kr K Te ((z2 (w y0 (z2 (u y1))) X.1),(z2 (w y2 (w y3 (w y4 (u y5)))) X.2.1),X.2.2)) X.1.1 X.1.2.1 (q2 X) (q3 X) (q4 X) X.2.1.1 X.2.1.2.1 X.2.1.2.2.1 X.2.1.2.2.2.1) (λX=>(q5 X,X.2.1.2.2.2.2.1,X.2.1.2.2.2.2.2.1)) (λX x=>((z5 (u x.1) X.1),(z4 (w x.2.1 (u x.2.2)) X.2.1),X.2.2))
abbrev Vw:SD:=⟨cW (lG bB)::B::DI::bs 7 (.ptr 10 0::B::B::B::.ptr 14 0::.ptr 15 0::B::.ptr 17 0::.ptr 18 0::B::B::B::.ptr 22 0::B::cW (cS 294912 (.int .i64))::B::.ptr 26 0::B::cW (cS 344064 mQ)::cW (cS 356352 .str)::bs 109 (cW (.sl .loc mQ)::DI::DI::bs 44 [])),zs 10 ((some Y25)::Z::Z::Z::(qy (cS 172033 .str))::(qy (cx Y1 (cx (iV (iV (iV (cS 184342 (.int .i64))))) (cx (cS 184345 iO) yJ))))::Z::(qy (cS 208897 .str))::(qy (cx Y1 (cx (iV (iV (iV (cS 221206 (.int .i64))))) (cx (cS 221209 iO) yJ))))::Z::Z::Z::(qy (cx Y1 (cx (iV (iV (iV (cS 270358 (.int .i64))))) (cx (cS 270361 iO) yJ))))::Z::Z::Z::(qy (.sl .loc .str))::zs 159 []),.none⟩
def aiz:=ajq.q1 {mask:=mk [(19,[0,2,10,14,15,17,18,22,24,26,28,29,139,140,141])],merge:=mg [(2,57),(6,92),(15,135)],mv:=[58,59,93,94,97,107,108,109,122,123,136,137,145,151,164,165,169,174,184,185],mb:=mg [(58,17),(59,18),(93,17),(94,18),(107,17),(108,18),(136,17),(137,18),(164,17),(165,18),(184,26),(185,22)],sb:=mg [(14,14),(15,15),(17,17),(18,18),(26,26)]} func136 [pd (.sl bB),pf (.sl .str),pI,pf mc,pf cQ,pI,pI] [(true,(.sl (.own none) .str)),(true,Y18),rB] (c7 rk) Vw (λX K=>fM (λy0 y1=>ke 0 K Vw ((z4 (w y0 (z2 (u y1))) X.1),X.2)) X.1.1 X.1.2.1 (q2 X) (q3 X) (q5 X) (q6 X) X.2.1.1 X.2.1.2.1 X.2.1.2.2.1 X.2.1.2.2.2.1 X.2.1.2.2.2.2.1 X.2.1.2.2.2.2.2.1 X.2.1.2.2.2.2.2.2.1) (λX=>(q4 X,q7 X)) (λX x=>((z4 (w x.1 (z2 (u x.2))) X.1),X.2))
def G75:=aiz.q0 {mv:=[19,20,34,36,38]} func75 [pf dJ,pf cQ,pI,pI] [(true,Y0),rB] (c4 uP)
def G76:=G75.q0 {} func76 [pd .bool] [rI] (c1 CQ)
def ajr:=G76.q0 {merge:=mg [(2,17)]} func203 [pd .str] [rS,rB] (c1 uJ)
def aiA:=ajr.q0 {} func137 [pd .str] [(true,Y3),rI] (c1 sX)
abbrev aae:SD:=⟨B::DI::B::B::DB::B::B::cW (lG (.int .i64))::DI::DI::bs 7 [],zs 17 [],.none⟩
def G33:=aiA.q1 {mask:=mk [(2,[1,4,7,8,9])]} func33 [pd (.sl (.int .i64)),pI] [rB] (c2 sk) aae (λX K=>th (λy0=>ke 0 K aae ((z4 (u y0) X.1),X.2)) (λy0 y1=>kr K aae ((z1 (w y0 (z2 (u y1))) X.1),X.2)) X.1.1 X.1.2.1 (q2 X) (q3 X)) q4 (λX x=>((z4 (u x) X.1),X.2))
def aiB:=G33.q0 {merge:=mg [(1,4)]} func138 [pf yg,pf cQ] [rB] (c2 wG)
def akE:=aiB.q0 {} func286 [pI,pI,pI] [rB] (c3 nG)
def aka:=akE.q0 {merge:=mg [(1,4)]} func255 [pf ji,pf cQ] [rB] (c2 pL)
abbrev ZZ:SD:=⟨cW (lG ji)::B::B::.ptr 3 0::B::DI::bs 5 (cW (lG ji)::DI::DI::bs 24 []),Z::Z::Z::(some Y3)::zs 34 [],.none⟩
def ajs:=aka.q1 {mask:=mk [(5,[0,3,5,11,12,13])],merge:=mg [(7,34)]} func205 [pd (.sl ji),pf cQ] [rI] (c2 uM) ZZ (λX K=>pF (λy0 y1=>ke 0 K ZZ ((z1 (w y0 (z2 (u y1))) X.1),X.2)) X.1.1 (q2 X) (q3 X) X.2.1.1) (λX=>(X.1.2.1,q4 X)) (λX x=>((z1 (w x.1 (z2 (u x.2))) X.1),X.2))
def ajt:=ajs.q0 {} func206 [pf (.sl gx),pf oR] [rI] (c2 uL)
def akb:=ajt.q0 {merge:=mg [(2,17)]} func256 [pf Ct,pf oR] [rI] (c2 wJ)
def ajv:=akb.q0 {merge:=mg [(2,18)]} func208 [pf Ct,pI,pf oR] [rI] (c3 pM)
def aiC:=ajv.q0 {merge:=mg [(1,17)]} func139 [pf rZ,pI,pf cQ] [rI] (c3 pN)
def akc:=aiC.q0 {} func257 [pf cQ,pf cQ] [rB] (c2 uS)
def ajw:=akc.q0 {merge:=mg [(1,42),(4,76),(6,4)]} func209 [pf Nm,pf cQ] [rB] (c2 sO)
def ajx:=ajw.q0 {} func210 [pf Nm,pf cQ] [(true,(.pair Y3 (.pair (.int .i64) (.int .i64))))] (c2 CO)
def ajy:=ajx.q0 {} func211 [pf cQ] [(true,(.pair Y3 (.pair (.int .i64) (.int .i64))))] (c1 BS)
def aiD:=ajy.q0 {merge:=mg [(1,30),(3,44)],mv:=[53,68,77],mb:=mg [(77,16)],sb:=mg [(14,14),(15,15)]} func140 [pd (.sl bB),pf (.sl .str),pI,pf dP,pd .str,pf cQ,pd .bool] [(true,(.sl (.own none) .str)),(true,Y10)] (c7 na)
def G77:=aiD.q0 {mv:=[14,34,46,62,69,90,103],sb:=mg [(92,5)]} func77 [pf dJ,pd .str] [(true,Y0)] (c2 pG)
def e30:iW:=yQ [pf dJ,pf zR] [(true,Y0),rI] [(true,Y5),rI] rfl λa=>ng a.1 a.2.1
theorem o30:C5 30 e30:=gA.ofAlt (Qd (an:={mv:=[12,23],mb:=mg [(23,6)],sb:=mg [(4,4)]}) (Λ:=kN.nil) (by rfl) (G77.s) func30 (by kernel_rfl) (ao nF)) (λa=>by kernel_rfl)
def ag6:iW:=Tw [pf dJ,pf zR] [(true,Y0),rI] λa=>ng a.1 a.2.1
theorem amf:C5 30 ag6:=o30.only
def G30:=G77.add o30
def e9:iW:=yQ [pf dJ,pd (.sl zR)] [(true,Y0),rI] [(true,Y5),rI] rfl λa=>uX a.1 a.2.1
def g9:xl:=G30.g.add 30 ag6
def n9:An:={mask:=mk [(3,[1,2,4,6,7])],peel:=[3],mv:=[24,31,33,43],sb:=mg [(8,8)]}
abbrev acS:SD:=⟨B::cW (lG zR)::.ptr 2 0::B::.ptr 4 0::B::DI::DI::bs 37 [],Z::Z::(some Y2)::Z::(some Y7)::zs 40 [],.none⟩
def ah6 (X:SD.D acS)(K:tX R):=gR (λy0 y1 y2=>ke 0 K acS ((z1 (w y0 (u y1)) X.1),(u y2 X.2.1),X.2.2)) X.1.1 X.2.1.2.1
def L9:kN:=kN.nil.add 3 (xR acS ah6 (λX=>(X.1.2.1,q2 X,X.2.1.1)))
theorem alW:wC E g9 n9 L9 (cG f9 0):=lk acS ah6 (λX=>(X.1.2.1,q2 X,X.2.1.1)) λX x=>((z1 (w x.1 (u x.2.1)) X.1),(u x.2.2 X.2.1),X.2.2)
theorem o9:C5 9 e9:=gA.ofAlt (Qd (Γ:=g9) (an:=n9) (Λ:=L9) (by rfl) (G30.s.add amf) func9 (by kernel_rfl) (ao (cF alW nF))) (λa=>by kernel_rfl)
def G9:=G30.add o9
abbrev aed:SD:=⟨B::B::B::cW (cS 36864 (.int .i64))::bs 10 (cW (lG iO)::DI::DI::bs 10 []),zs 27 [],.none⟩
def G16:=G9.q1 {mask:=mk [(3,[3,14,15,16])],mv:=[20,26]} func16 [pf dJ] [(false,(.sl (.own none) (.int .i64)))] (c1 mn) aed (λX K=>iq (λy0 y1=>ke 0 K aed ((w y0 (z2 (u y1)) X.1),X.2)) X.1.2.1 (q2 X)) (λX=>(X.1.1,q3 X)) (λX x=>((w x.1 (z2 (u x.2)) X.1),X.2))
abbrev ZV:SD:=⟨cW (lG (.int .i64))::DI::B::B::DB::DI::bs 12 [],zs 18 [],.none⟩
def G17:=G16.q1 {mask:=mk [(2,[0,1,4,5])]} func17 [pd (.sl (.int .i64)),pI] [rB] (c2 BW) ZV (λX K=>yw (λy0=>ke 0 K ZV ((z3 (u y0) X.1),X.2)) (λy0 y1=>kr K ZV ((z2 (w y0 (u y1)) X.1),X.2)) X.1.1 X.1.2.1 (q2 X)) q3 (λX x=>((z3 (u x) X.1),X.2))
abbrev rV:aw PS:=[pd (.sl (.int .u8))]
def xA:iW:=Mb rV [rB] (c1 uh)
def rQ:An:={mask:=mk [(7,[2,3,5,6,7,8]),(15,[2,3,5,6,7,8,9,10])],merge:=mg [(19,2)]}
abbrev iH:SD:=⟨B::B::DB::.ptr 3 0::B::.ptr 5 0::DI::.ptr 7 0::DI::cW (cS 110592 (.int .i64))::DI::bs 52 [],Z::Z::Z::(some Y6)::Z::(some Y6)::Z::(some Y13)::zs 55 [],.none⟩
def ub (X:SD.D iH)(K:tX R):=fV (λy0=>ke 2 K iH ((z4 (u y0) X.1),X.2)) (λy0 y1=>kr K iH ((w y0 (z3 (u y1)) X.1),X.2)) X.1.1 X.1.2.1 (q2 X) (q3 X) X.2.1.1 X.2.1.2.1 X.2.1.2.2.1
abbrev jb:SD:=⟨B::B::DB::.ptr 3 0::B::.ptr 5 0::DI::.ptr 7 0::DI::bs 54 [],Z::Z::Z::(some Y6)::Z::(some Y6)::Z::(some Y13)::zs 55 [],.none⟩
def vO (X:SD.D jb)(K:tX R):=ft (λy0=>ke 0 K jb ((z2 (u y0) X.1),X.2)) (λy0 y1=>kr K jb ((w y0 (z1 (u y1)) X.1),X.2)) X.1.1 X.1.2.1 X.2.1.1 X.2.1.2.1 X.2.1.2.2.1
def rL:kN:=(kN.nil.add 15 (xR iH ub q4)).add 7 (xR jb vO q2)
theorem Be:wC E G17.g rQ rL (cG f4 1):=lk iH ub q4 λX x=>((z4 (u x) X.1),X.2)
theorem BV:wC E G17.g rQ rL (cG f4 0):=lk jb vO q2 λX x=>((z2 (u x) X.1),X.2)
theorem D6:C5 4 xA:=fk rQ G17.s func4 (Λ:=rL) (cF BV (cF Be nF))
end
end Go.Proofs.YtnmppgnbjfdffaaGreat.Fn
