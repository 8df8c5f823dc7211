import Derived.Test.YtinkcmefgciifaaGreatDnSig
import Derived.Test.YtinkcmefgciifaaGreatPure
import Derived.Test.YtinkcmefgciifaaGreatRows
/- Each function of the program is its pure function (made by gen.py). -/
namespace Go.Proofs.YtinkcmefgciifaaGreat.Fn
open Go.Dn
open Go.Pu Go.Proofs.Tryz
set_option maxRecDepth 100000
set_option linter.unusedVariables false
noncomputable section
variable {an:An} {Γ:yk} {Λ:lB} {f:Nat} {P:Program} {A0 A1 A2 A3 A4 A5 A6 C R σ:Type} {rs:ax (Bool×FT)} {s:ax PS}
abbrev vc (R:Type):=Ex->AS->Option R
abbrev AU:FT:=.int .i64
abbrev cY (a b:FT):FT:=.pair a b
abbrev jX (b:FT):FT:=.pair (.int .i64) b
abbrev dq (n:Nat)(t:CT):FT:=.sl (.own (some n)) t
abbrev so (t:FT):Option FT:=some t
abbrev cP (t:FT):PD:=.data false t
abbrev ks (t:FT):PD:=.data true t
abbrev ji (t:CT):FT:=.sl .arg t
abbrev D3:=gM Tryz.prog
abbrev B:PD:=.bot
abbrev DI:PD:=.data false (.int .i64)
abbrev DB:PD:=.data false .bool
abbrev Z:ay FT:=none
theorem nF {p:Code->Prop}:∀x∈([]:ax Code),p x:=λ_ h=>nomatch h
theorem cF {p:Code->Prop}{a:Code}{l:ax Code}(h:p a)(t:∀x∈l,p x):∀x∈a::l,p x:=List.forall_mem_cons.2 ⟨h,t⟩
theorem hF {p:Code->Prop}{l m:ax Code}(e:l=m)(h:∀x∈m,p x):∀x∈l,p x:=e▸h
theorem fk {E:Env}{F:zT s->ay (kG rs)}{fn:Func}(an:An)(hS:Sound P E Γ)(hf:P.funcs[f]?=some fn){l:ax Code}(h:∀c∈l,xA E Γ an Λ c)(hn:(fn.name== "runtime.NumGoroutine")=false:=by kernel_rfl)(hl:ig (fn.body.getD .skip)=l:=by kernel_rfl)(fj:an.cut=[]:=by kernel_rfl)(hF:∀a,Cs E Γ an Λ fn rs (lq s a)=F a:=by intro a;kernel_rfl):gM P f (Nk s rs F):=gM.of (YV hS hf hn (yv.of (Fn.hF hl h) fj)) hF
theorem ao {E:Env}{b:Code}{l:ax Code}(h:∀c∈l,xA E Γ an Λ c)(hl:ig b=l:=by kernel_rfl)(hc:an.cut=[]:=by kernel_rfl):yv E Γ an Λ b:=yv.of (Fn.hF hl h) hc
theorem ac {E:Env}{b:Code}{l m:ax Code}(h:∀c∈l,xA E Γ an Λ c)(hc:∀c∈m,TZ E Γ an Λ c)(hl:ig b=l:=by kernel_rfl)(hm:kL an.cut b=m:=by kernel_rfl):yv E Γ an Λ b:=⟨Fn.hF hl h,Fn.hF hm hc⟩
theorem fc {E:Env}{F:zT s->ay (kG rs)}{fn:Func}(an:An)(hS:Sound P E Γ)(hf:P.funcs[f]?=some fn){l m:ax Code}(h:∀c∈l,xA E Γ an Λ c)(hc:∀c∈m,TZ E Γ an Λ c)(hn:(fn.name== "runtime.NumGoroutine")=false:=by kernel_rfl)(hl:ig (fn.body.getD .skip)=l:=by kernel_rfl)(hm:kL an.cut (fn.body.getD .skip)=m:=by kernel_rfl)(hF:∀a,Cs E Γ an Λ fn rs (lq s a)=F a:=by intro a;kernel_rfl):gM P f (Nk s rs F):=gM.of (YV hS hf hn ⟨Fn.hF hl h,Fn.hF hm hc⟩) hF
abbrev pd (t:CT):PS:=.data false t
abbrev pf (t:CT):PS:=.data true t
abbrev pI:PS:=.data false (.int .i64)
abbrev rB:Bool×FT:=(false,.bool)
abbrev rI:Bool×FT:=(false,.int .i64)
abbrev rS:Bool×FT:=(false,.str)
abbrev bs:Nat->ax PD->ax PD|0,l=>l|n+1,l=> .bot::bs n l
abbrev zs:Nat->ax (ay FT)->ax (ay FT)|0,l=>l|n+1,l=>none::zs n l
def mk (l:ax (Nat×fy))(n:Nat):fy:=(l.lookup n).getD []
def mg (l:ax (Nat×Nat))(n:Nat):ay Nat:=l.lookup n
def ke (n:Nat)(K:vc R)(d:SD)(x:SD.D d):ay R:=K (.exit n) (SD.enc d x)
def kn (K:vc R)(d:SD)(x:SD.D d):ay R:=K .normal (SD.enc d x)
def kr (K:vc R)(d:SD)(x:SD.D d):ay R:=K .ret (SD.enc d x)
def yP (d:SD)(t:{R:Type}->SD.D d->(Ex->AS->ay R)->(σ->ay R)->σ->ay R)(i:SD.D d->σ):Hh:=⟨d,λX K=>ba (t X K) fuel (i X)⟩
theorem lk {E:Env}{c:Code}(d:SD)(t:{R:Type}->SD.D d->(Ex->AS->ay R)->(σ->ay R)->σ->ay R)(i:SD.D d->σ)(w:SD.D d->σ->SD.D d)(h1:Λ (ec c)=yP d t i:=by kernel_rfl)(h:∀(R:Type)(X:SD.D d)(K:vc R)(m:Nat)(x:σ),zG (an.mask (ec c)) (den E Γ an Λ c) (m+1) (SD.enc d (w X x)) K=t X K (λy=>zG (an.mask (ec c)) (den E Γ an Λ c) m (SD.enc d (w X y)) K) x:=by intro R X K m x;kernel_rfl)(hw:∀X,w X (i X)=X:=by intro X;kernel_rfl):xA E Γ an Λ c:=lok (yP d t i) h1 fuel λR X K=>(NZ (λx=>SD.enc d (w X x)) (t X K) (h R X K) fuel (i X)).symm.trans (congrArg (λy=>zG (an.mask (ec c)) (den E Γ an Λ c) fuel (SD.enc d y) K) (hw X))
def Z8 (d:SD)(t:{R:Type}->SD.D d->(Ex->AS->ay R)->ay R):Hh:=⟨d,λX K=>t X K⟩
theorem ck {E:Env}{c:Code}(d:SD)(t:{R:Type}->SD.D d->(Ex->AS->ay R)->ay R)(h1:Λ (Cj c)=Z8 d t:=by kernel_rfl)(h:∀(R:Type)(X:SD.D d)(K:vc R),t X K=den E Γ an Λ c (SD.enc d X) (λe bN=>K e (bN.mask (an.mask (Cj c+1)))):=by intro R X K;kernel_rfl):TZ E Γ an Λ c:=cok (Z8 d t) h1 h
def u {A B:Type}(y:A)(x:A×B):A×B:=(y,x.2)
def w {A B:Type}(y:A)(f:B->B)(x:A×B):A×B:=(y,f x.2)
def z1 {B:Type}(f:B->B)(x:A0×B):A0×B:=(x.1,f x.2)
def z2 {B:Type}(f:B->B)(x:A0×A1×B):A0×A1×B:=(x.1,x.2.1,f x.2.2)
def z3 {B:Type}(f:B->B)(x:A0×A1×A2×B):A0×A1×A2×B:=(x.1,x.2.1,x.2.2.1,f x.2.2.2)
def z4 {B:Type}(f:B->B)(x:A0×A1×A2×A3×B):A0×A1×A2×A3×B:=(x.1,x.2.1,x.2.2.1,x.2.2.2.1,f x.2.2.2.2)
def z5 {B:Type}(f:B->B)(x:A0×A1×A2×A3×A4×B):A0×A1×A2×A3×A4×B:=(x.1,x.2.1,x.2.2.1,x.2.2.2.1,x.2.2.2.2.1,f x.2.2.2.2.2)
def z6 {B:Type}(f:B->B)(x:A0×A1×A2×A3×A4×A5×B):A0×A1×A2×A3×A4×A5×B:=(x.1,x.2.1,x.2.2.1,x.2.2.2.1,x.2.2.2.2.1,x.2.2.2.2.2.1,f x.2.2.2.2.2.2)
def z7 {B:Type}(f:B->B)(x:A0×A1×A2×A3×A4×A5×A6×B):A0×A1×A2×A3×A4×A5×A6×B:=(x.1,x.2.1,x.2.2.1,x.2.2.2.1,x.2.2.2.2.1,x.2.2.2.2.2.1,x.2.2.2.2.2.2.1,f x.2.2.2.2.2.2.2)
def q2 {B:Type}(x:(A0×A1×A2×B)×C):A2:=x.1.2.2.1
def q3 {B:Type}(x:(A0×A1×A2×A3×B)×C):A3:=x.1.2.2.2.1
def q4 {B:Type}(x:(A0×A1×A2×A3×A4×B)×C):A4:=x.1.2.2.2.2.1
def q5 {B:Type}(x:(A0×A1×A2×A3×A4×A5×B)×C):A5:=x.1.2.2.2.2.2.1
def q6 {B:Type}(x:(A0×A1×A2×A3×A4×A5×A6×B)×C):A6:=x.1.2.2.2.2.2.2.1
def q7 {A7 B:Type}(x:(A0×A1×A2×A3×A4×A5×A6×A7×B)×C):A7:=x.1.2.2.2.2.2.2.2.1
def q8 {A7 A8 B:Type}(x:(A0×A1×A2×A3×A4×A5×A6×A7×A8×B)×C):A8:=x.1.2.2.2.2.2.2.2.2.1
def q9 {A7 A8 A9 B:Type}(x:(A0×A1×A2×A3×A4×A5×A6×A7×A8×A9×B)×C):A9:=x.1.2.2.2.2.2.2.2.2.2.1
def c1 {B:Type}(f:A0->R)(a:A0×B):R:=f a.1
def c2 {B:Type}(f:A0->A1->R)(a:A0×A1×B):R:=f a.1 a.2.1
def c3 {B:Type}(f:A0->A1->A2->R)(a:A0×A1×A2×B):R:=f a.1 a.2.1 a.2.2.1
def c4 {B:Type}(f:A0->A1->A2->A3->R)(a:A0×A1×A2×A3×B):R:=f a.1 a.2.1 a.2.2.1 a.2.2.2.1
def c5 {B:Type}(f:A0->A1->A2->A3->A4->R)(a:A0×A1×A2×A3×A4×B):R:=f a.1 a.2.1 a.2.2.1 a.2.2.2.1 a.2.2.2.2.1
def c6 {B:Type}(f:A0->A1->A2->A3->A4->A5->R)(a:A0×A1×A2×A3×A4×A5×B):R:=f a.1 a.2.1 a.2.2.1 a.2.2.2.1 a.2.2.2.2.1 a.2.2.2.2.2.1
def c7 {B:Type}(f:A0->A1->A2->A3->A4->A5->A6->R)(a:A0×A1×A2×A3×A4×A5×A6×B):R:=f a.1 a.2.1 a.2.2.1 a.2.2.2.1 a.2.2.2.2.1 a.2.2.2.2.2.1 a.2.2.2.2.2.2.1
theorem f0 {E:Env}{F:zT s->ay (kG rs)}{fn:Func}(an:An)(hS:Sound P E Γ)(hf:P.funcs[f]?=some fn)(hn:(fn.name== "runtime.NumGoroutine")=false:=by kernel_rfl)(hl:ig (fn.body.getD .skip)=[]:=by kernel_rfl)(fj:an.cut=[]:=by rfl)(hF:∀a,Cs E Γ an lB.nil fn rs (lq s a)=F a:=by intro a;kernel_rfl):gM P f (Nk s rs F):=gM.of (YV hS hf hn (yv.of (Fn.hF hl nF) fj)) hF
abbrev Y20:FT:=jX (jX AU)
abbrev Y1:FT:=cY AU Y20
abbrev Y9:FT:=jX (jX (jX (.sl (.own none) (.int .i64))))
abbrev Y17:FT:=cY Y1 (cY Y9 (cY (.sl (.own none) ir) AU))
abbrev Y23:FT:=jX (cY .bool (.sl (.own none) (.int .i64)))
abbrev Y19:FT:=cY (.sl (.own none) iZ) (cY (.sl (.own none) gq) (cY .str (.sl (.own none) (.int .i64))))
abbrev Y0:FT:=cY (.sl (.own none) .str) (cY (.sl (.own none) bE) (cY Y17 (cY (.sl (.own none) dM) (cY (.sl (.own none) iq) (cY (.sl (.own none) fG) (cY (.sl (.own none) .bool) (cY Y23 (cY Y19 (cY (.sl (.own none) dL) (cY .bool (cY (.sl (.own none) .str) (cY (.sl (.own none) (.int .i64)) (cY (.sl (.own none) (.int .i64)) (cY AU Y1))))))))))))))
abbrev Y2:FT:=cY (dq 24577 .str) (cY (dq 24580 bE) (cY (cY Y1 (cY (jX (jX (jX (dq 24604 (.int .i64))))) (cY (dq 24607 ir) AU))) (cY (dq 24613 dM) (cY (dq 24616 iq) (cY (dq 24619 fG) (cY (dq 24622 .bool) (cY (jX (cY .bool (dq 24631 (.int .i64)))) (cY (cY (dq 24634 iZ) (cY (dq 24637 gq) (cY .str (dq 24643 (.int .i64))))) (cY (dq 24646 dL) (cY .bool (cY (dq 24652 .str) (cY (dq 24655 (.int .i64)) (cY (dq 24658 (.int .i64)) (cY AU Y1))))))))))))))
abbrev Y15:FT:=jX (jX (jX (jX .str)))
abbrev Y21:FT:=jX (cY AU Y15)
abbrev Y3:FT:=jX (jX (jX (jX (jX (jX (jX (jX (cY AU Y21))))))))
abbrev Y14:FT:=jX (jX (jX (.sl .arg (.int .i64))))
abbrev Y24:FT:=cY Y1 (cY Y14 (cY (.sl .arg ir) AU))
abbrev Y25:FT:=jX (cY .bool (.sl .arg (.int .i64)))
abbrev Y18:FT:=cY (.sl .arg iZ) (cY (.sl .arg gq) (cY .str (.sl .arg (.int .i64))))
abbrev Y4:FT:=cY (.sl .arg .str) (cY (.sl .arg bE) (cY Y24 (cY (.sl .arg dM) (cY (.sl .arg iq) (cY (.sl .arg fG) (cY (.sl .arg .bool) (cY Y25 (cY Y18 (cY (.sl .arg dL) (cY .bool (cY (.sl .arg .str) (cY (.sl .arg (.int .i64)) (cY (.sl .arg (.int .i64)) (cY AU Y1))))))))))))))
abbrev Y5:FT:=cY (dq 49153 .str) (cY (dq 49156 bE) (cY (cY Y1 (cY (jX (jX (jX (dq 49180 (.int .i64))))) (cY (dq 49183 ir) AU))) (cY (dq 49189 dM) (cY (dq 49192 iq) (cY (dq 49195 fG) (cY (dq 49198 .bool) (cY (jX (cY .bool (dq 49207 (.int .i64)))) (cY (cY (dq 49210 iZ) (cY (dq 49213 gq) (cY .str (dq 49219 (.int .i64))))) (cY (dq 49222 dL) (cY .bool (cY (dq 49228 .str) (cY (dq 49231 (.int .i64)) (cY (dq 49234 (.int .i64)) (cY AU Y1))))))))))))))
abbrev Y6:FT:=cY (dq 36865 .str) (cY (dq 36868 bE) (cY (cY Y1 (cY (jX (jX (jX (dq 36892 (.int .i64))))) (cY (dq 36895 ir) AU))) (cY (dq 36901 dM) (cY (dq 36904 iq) (cY (dq 36907 fG) (cY (dq 36910 .bool) (cY (jX (cY .bool (dq 36919 (.int .i64)))) (cY (cY (dq 36922 iZ) (cY (dq 36925 gq) (cY .str (dq 36931 (.int .i64))))) (cY (dq 36934 dL) (cY .bool (cY (dq 36940 .str) (cY (dq 36943 (.int .i64)) (cY (dq 36946 (.int .i64)) (cY AU Y1))))))))))))))
abbrev Y7:FT:=cY (dq 73729 .str) (cY (dq 73732 bE) (cY (cY Y1 (cY (jX (jX (jX (dq 73756 (.int .i64))))) (cY (dq 73759 ir) AU))) (cY (dq 73765 dM) (cY (dq 73768 iq) (cY (dq 73771 fG) (cY (dq 73774 .bool) (cY (jX (cY .bool (dq 73783 (.int .i64)))) (cY (cY (dq 73786 iZ) (cY (dq 73789 gq) (cY .str (dq 73795 (.int .i64))))) (cY (dq 73798 dL) (cY .bool (cY (dq 73804 .str) (cY (dq 73807 (.int .i64)) (cY (dq 73810 (.int .i64)) (cY AU Y1))))))))))))))
abbrev Y8:FT:=cY (.sl .xa (.int .u8)) (jX AU)
abbrev Y10:FT:=cY Y1 (cY Y20 (cY Y20 (cY (cY Y3 (jX AU)) (cY .bool AU))))
abbrev Y11:FT:=cY (dq 196609 .str) (cY (dq 196612 bE) (cY (cY Y1 (cY (jX (jX (jX (dq 196636 (.int .i64))))) (cY (dq 196639 ir) AU))) (cY (dq 196645 dM) (cY (dq 196648 iq) (cY (dq 196651 fG) (cY (dq 196654 .bool) (cY (jX (cY .bool (dq 196663 (.int .i64)))) (cY (cY (dq 196666 iZ) (cY (dq 196669 gq) (cY .str (dq 196675 (.int .i64))))) (cY (dq 196678 dL) (cY .bool (cY (dq 196684 .str) (cY (dq 196687 (.int .i64)) (cY (dq 196690 (.int .i64)) (cY AU Y1))))))))))))))
abbrev Y12:FT:=cY (dq 147457 .str) (cY (dq 147460 bE) (cY (cY Y1 (cY (jX (jX (jX (dq 147484 (.int .i64))))) (cY (dq 147487 ir) AU))) (cY (dq 147493 dM) (cY (dq 147496 iq) (cY (dq 147499 fG) (cY (dq 147502 .bool) (cY (jX (cY .bool (dq 147511 (.int .i64)))) (cY (cY (dq 147514 iZ) (cY (dq 147517 gq) (cY .str (dq 147523 (.int .i64))))) (cY (dq 147526 dL) (cY .bool (cY (dq 147532 .str) (cY (dq 147535 (.int .i64)) (cY (dq 147538 (.int .i64)) (cY AU Y1))))))))))))))
abbrev Y13:FT:=jX (jX (jX (jX (cY .bool .bool))))
abbrev Y16:FT:=cY (dq 49153 iZ) (cY (dq 49156 gq) (cY .str (dq 49162 (.int .i64))))
abbrev Y22:FT:=cY (dq 24577 iZ) (cY (dq 24580 gq) (cY .str (dq 24586 (.int .i64))))
abbrev Y26:FT:=jX (jX (jX (dq 184330 (.int .i64))))
abbrev Y27:FT:=jX (jX (jX (dq 147466 (.int .i64))))
abbrev Y28:FT:=jX (jX (jX (dq 98314 (.int .i64))))
abbrev Y29:FT:=jX (jX (jX (dq 73738 (.int .i64))))
def E:Env:={ty:=[(3,⟨false,(.int .i64),[]⟩),(4,⟨false,.bool,[]⟩),(5,⟨false,(.int .u8),[]⟩),(9,⟨false,.str,[]⟩),(22,⟨false,(.sl (.int .u8)),[(5,0)]⟩),(24,⟨false,(.sl .str),[(9,0)]⟩),(26,⟨true,(.sl .str),[(0,1)]⟩),(27,⟨false,(.sl bE),[(137,0)]⟩),(29,⟨true,ti,[(0,1),(1,1),(2,1),(3,1)]⟩),(30,⟨false,(.sl (.int .i64)),[(3,0)]⟩),(32,⟨true,iq,[(0,1),(1,1),(2,1),(3,1)]⟩),(33,⟨false,(.sl ir),[(107,0)]⟩),(35,⟨true,kJ,[(0,4),(4,4),(8,1),(9,1)]⟩),(36,⟨false,(.sl dM),[(114,0)]⟩),(37,⟨false,(.sl iq),[(32,0)]⟩),(38,⟨false,(.sl fG),[(76,0)]⟩),(39,⟨false,(.sl .bool),[(4,0)]⟩),(41,⟨true,vF,[(0,1),(1,1),(2,1)]⟩),(42,⟨false,(.sl iZ),[(198,0)]⟩),(43,⟨false,(.sl gq),[(200,0)]⟩),(45,⟨true,(.sl gq),[(0,1)]⟩),(47,⟨true,Dl,[(0,1),(1,1)]⟩),(49,⟨true,oV,[(0,1),(1,1),(2,2)]⟩),(50,⟨false,(.sl dL),[(144,0)]⟩),(52,⟨true,qf,[(0,1),(1,1),(2,1),(3,1),(4,1)]⟩),(54,⟨true,dD,[(0,1),(1,1),(2,10),(12,1),(13,1),(14,1),(15,1),(16,3),(19,4),(23,1),(24,1),(25,1),(26,1),(27,1),(28,5)]⟩),(55,⟨false,(.sl AX),[(102,0)]⟩),(76,⟨true,fG,[(0,1),(1,1),(2,1),(3,1),(4,1),(5,1)]⟩),(85,⟨true,Am,[(0,1),(1,1),(2,1),(3,1),(4,1),(5,1),(6,1),(7,1)]⟩),(87,⟨true,cX,[(0,1),(1,1),(2,1),(3,1),(4,1),(5,1),(6,1),(7,1),(8,8)]⟩),(102,⟨true,AX,[(0,1),(1,16),(17,1),(18,1),(19,1),(20,1)]⟩),(107,⟨true,ir,[(0,1),(1,1),(2,1)]⟩),(110,⟨true,hH,[(0,1),(1,1),(2,1)]⟩),(112,⟨true,OG,[(0,16),(16,1),(17,1)]⟩),(114,⟨true,dM,[(0,4),(4,3),(7,3),(10,18),(28,1),(29,1)]⟩),(137,⟨true,bE,[(0,1),(1,1),(2,1),(3,1)]⟩),(142,⟨true,qf,[(0,1),(1,1),(2,1),(3,1),(4,1)]⟩),(144,⟨true,dL,[(0,5),(5,1),(6,1),(7,1)]⟩),(164,⟨true,(.pair (.sl (.int .u8)) (.pair (.int .i64) (.int .i64))),[(0,1),(1,1),(2,1)]⟩),(165,⟨false,(.sl cX),[(87,0)]⟩),(189,⟨true,nH,[(0,1),(1,1),(2,1),(3,1),(4,1),(5,1)]⟩),(198,⟨true,iZ,[(0,1),(1,1),(2,1),(3,1),(4,1),(5,1),(6,1),(7,1),(8,1)]⟩),(200,⟨true,gq,[(0,1),(1,5),(6,1)]⟩),(219,⟨true,qf,[(0,1),(1,1),(2,1),(3,1),(4,1)]⟩),(228,⟨true,TIp,[(0,1),(1,1),(2,1),(3,1),(4,1),(5,1),(6,1)]⟩),(231,⟨true,abv,[(0,1),(1,1),(2,1),(3,1),(4,1)]⟩),(247,⟨false,(.sl iO),[(304,0)]⟩),(250,⟨false,(.sl nH),[(189,0)]⟩),(265,⟨false,(.sl iO),[(269,0)]⟩),(269,⟨true,iO,[(0,1),(1,1)]⟩),(304,⟨true,iO,[(0,1),(1,1)]⟩),(339,⟨false,(.int .u32),[]⟩)],eqs:=[(29,[.int,.int,.int,.int]),(52,[.int,.int,.int,.int,.int]),(76,[.int,.int,.int,.int,.bool,.bool]),(87,[.int,.int,.int,.int,.int,.int,.int,.int,.int,.int,.int,.int,.int,.int,.int,.str]),(112,[.int,.int,.int,.int,.int,.int,.int,.int,.int,.int,.int,.int,.int,.int,.int,.str,.int,.int]),(114,[.int,.int,.int,.int,.int,.int,.int,.int,.int,.int,.int,.int,.int,.int,.int,.int,.int,.int,.int,.int,.int,.int,.int,.int,.int,.str,.int,.int,.bool,.int]),(142,[.int,.int,.int,.int,.int]),(144,[.int,.int,.int,.int,.int,.int,.str,.bool]),(189,[.int,.int,.int,.int,.int,.int]),(198,[.int,.int,.int,.int,.int,.int,.int,.int,.int]),(200,[.int,.int,.int,.int,.int,.int,.int])],fts:=[]}
theorem base:Sound Tryz.prog E yk.nil:=Sound.nil (SA (by kernel_rfl)) (SE (by kernel_rfl)) (SC (by kernel_rfl)) (by kernel_rfl)
structure SG where (g:yk) (s:Sound Tryz.prog E g)
def SG.add (S:SG){F:jj}(h:D3 f F):SG:=⟨S.g.add f F,S.s.add h⟩
def G0:SG:=⟨yk.nil,base⟩
def SG.q0 (S:SG){fn:Func}(an:An)(hf:Tryz.prog.funcs[f]?=some fn)(s:ax PS)(rs:ax (Bool×FT))(F:zT s->ay (kG rs))(hn:(fn.name== "runtime.NumGoroutine")=false:=by kernel_rfl)(hl:ig (fn.body.getD .skip)=[]:=by kernel_rfl)(fj:an.cut=[]:=by rfl)(hF:∀a,Cs E S.g an lB.nil fn rs (lq s a)=F a:=by intro a;kernel_rfl):SG:=S.add (gM.of (YV S.s hf hn (yv.of (Fn.hF hl nF) fj)) hF)
def SG.qk (S:SG){fn:Func}(an:An)(hf:Tryz.prog.funcs[f]?=some fn)(s:ax PS)(rs:ax (Bool×FT))(F:zT s->ay (kG rs)){l:ax Code}(h:∀c∈l,xA E S.g an Λ c)(hn:(fn.name== "runtime.NumGoroutine")=false:=by kernel_rfl)(hl:ig (fn.body.getD .skip)=l:=by kernel_rfl)(fj:an.cut=[]:=by kernel_rfl)(hF:∀a,Cs E S.g an Λ fn rs (lq s a)=F a:=by intro a;kernel_rfl):SG:=S.add (gM.of (YV S.s hf hn (yv.of (Fn.hF hl h) fj)) hF)
def SG.q1 (S:SG){fn:Func}(an:An)(hf:Tryz.prog.funcs[f]?=some fn)(s:ax PS)(rs:ax (Bool×FT))(F:zT s->ay (kG rs))(d:SD)(t:{R:Type}->SD.D d->(Ex->AS->ay R)->(σ->ay R)->σ->ay R)(i:SD.D d->σ)(w:SD.D d->σ->SD.D d)(h1:(lB.nil.add (ec (cL fn 0)) (yP d t i)) (ec (cL fn 0))=yP d t i:=by kernel_rfl)(h:∀(R:Type)(X:SD.D d)(K:vc R)(m:Nat)(x:σ),zG (an.mask (ec (cL fn 0))) (den E S.g an (lB.nil.add (ec (cL fn 0)) (yP d t i)) (cL fn 0)) (m+1) (SD.enc d (w X x)) K=t X K (λy=>zG (an.mask (ec (cL fn 0))) (den E S.g an (lB.nil.add (ec (cL fn 0)) (yP d t i)) (cL fn 0)) m (SD.enc d (w X y)) K) x:=by intro R X K m x;kernel_rfl)(hw:∀X,w X (i X)=X:=by intro X;kernel_rfl)(hn:(fn.name== "runtime.NumGoroutine")=false:=by kernel_rfl)(hl:ig (fn.body.getD .skip)=[cL fn 0]:=by kernel_rfl)(fj:an.cut=[]:=by kernel_rfl)(hF:∀a,Cs E S.g an (lB.nil.add (ec (cL fn 0)) (yP d t i)) fn rs (lq s a)=F a:=by intro a;kernel_rfl):SG:=S.add (gM.of (YV S.s hf hn (yv.of (Fn.hF hl (cF (lk d t i w h1 h hw) nF)) fj)) hF)
def G8:=G0.q0 {} func8 [pd (.sl (.int .u8))] [rB] (c1 Gm)
def e37:jj:=Va (.pair (.sl .arg (.int .u8)) (.pair (.int .i64) (.int .i64))) [pd (.sl (.int .u8))] λa=>zP a.1
def n37:An:={mask:=mk [(3,[0,3,4])],merge:=mg [(3,15)]}
abbrev Xt:SD:=⟨cP (ji (.int .u8))::B::B::DI::DI::bs 27 [],zs 32 [],.none⟩
def agV (X:SD.D Xt)(K:vc R):=yW (λy0 y1=>ke 0 K Xt ((z1 (w y0 (u y1)) X.1),X.2)) X.1.1
def L37:lB:=lB.nil.add 3 (yP Xt agV (λX=>(X.1.2.1,q2 X)))
theorem akc:xA E G8.g n37 L37 (cL f37 0):=lk Xt agV (λX=>(X.1.2.1,q2 X)) λX x=>((z1 (w x.1 (u x.2)) X.1),X.2)
theorem o37:D3 37 e37:=gM.aks (ajv (Γ:=G8.g) (an:=n37) (Λ:=L37) (G8.s) func37 (by kernel_rfl) (ao (cF akc nF))) (λa=>by kernel_rfl)
def G37:=G8.add o37
def ak2:=G37.q0 {merge:=mg [(1,6)]} func134 [pI,pI,pI] [rB] (c3 bf)
def amh:=ak2.q0 {merge:=mg [(1,18),(4,2),(5,2)]} func228 [pf Am] [rB] (c1 qA)
def alc:=amh.q0 {merge:=mg [(1,55),(3,3),(4,2)]} func147 [pf cX] [rB] (c1 rj)
def G75:=alc.q0 {merge:=mg [(1,2)]} func75 [pf cX] [rB] (c1 sj)
def alK:=G75.q0 {merge:=mg [(1,6)]} func189 [pd .str,pI,pI] [rB] (c3 nz)
def G96:=alK.q0 {} func96 [pd .str,pI,pd .str] [rS] (c3 im)
def alG:=G96.q0 {} func182 [pI] [rS] (c1 dh)
def ami:=alG.q0 {} func229 [pI] [rS] (c1 fV)
def amj:=ami.q0 {merge:=mg [(1,27)]} func230 [pI,pI,pI,pI] [rS,rB] (c4 lZ)
def ann:=amj.q0 {merge:=mg [(1,12)]} func312 [pI,pI] [rI] (c2 lY)
abbrev ab3:SD:=⟨cP .str::B::B::DI::DI::bs 28 [],zs 33 [],.none⟩
def amU:=ann.q1 {mask:=mk [(3,[0,3,4])]} func279 [pd .str] [rI] (c1 wo) ab3 (λX K=>ri (λy0 y1=>ke 0 K ab3 ((z1 (w y0 (u y1)) X.1),X.2)) X.1.1) (λX=>(X.1.2.1,q2 X)) (λX x=>((z1 (w x.1 (u x.2)) X.1),X.2))
def amk:=amU.q0 {} func231 [pd .str] [rI] (c1 pk)
def ald:=amk.q0 {merge:=mg [(14,82)]} func148 [pI,pI,pf Am] [rS,rB] (c3 jD)
def amV:=ald.q0 {merge:=mg [(1,2)]} func280 [pf TIp] [rB] (c1 DR)
def aml:=amV.q0 {} func232 [pf TIp] [rS,rB] (c1 wj)
def ale:=aml.q0 {} func149 [pf TIp] [rS,rB] (c1 uD)
def amm:=ale.q0 {merge:=mg [(1,2)]} func233 [pf abv] [rB] (c1 vt)
def amn:=amm.q0 {} func234 [pI] [rS] (c1 iL)
def alf:=amn.q0 {} func150 [pf abv] [rS,rB] (c1 we)
abbrev abS:SD:=⟨DI::cP (.int .u8)::B::B::B::cP (dq 61440 (.int .u8))::DI::bs 13 [],zs 20 [],.none⟩
def alM:=alf.q1 {mask:=mk [(3,[0,1,5,6])]} func195 [pI,pd (.int .u8)] [rS] (c2 iB) abS (λX K=>oK (λy0 y1=>ke 0 K abS ((z2 (w y0 (u y1)) X.1),X.2)) X.1.1 X.1.2.1) (λX=>(q2 X,q3 X)) (λX x=>((z2 (w x.1 (u x.2)) X.1),X.2))
def alg:=alM.q0 {} func151 [pd .str] [rS] (c1 xO)
def G76:=alg.q0 {} func76 [pf cX] [rS,rB] (c1 sN)
def aiq:An:={mask:=mk [(3,[0,3,4]),(7,[0,3,4,5])]}
abbrev O0:SD:=⟨cP .str::B::B::DI::DI::DI::bs 26 [],zs 32 [],.none⟩
def aer (X:SD.D O0)(K:vc R):=pn (λy0 y1=>ke 2 K O0 ((z1 (w y0 (z1 (u y1))) X.1),X.2)) X.1.1 (q2 X)
abbrev OZ:SD:=⟨cP .str::B::B::DI::DI::bs 27 [],zs 32 [],.none⟩
def aeq (X:SD.D OZ)(K:vc R):=se (λy0 y1=>ke 0 K OZ ((z1 (w y0 (u y1)) X.1),X.2)) X.1.1
def ajb:lB:=(lB.nil.add 7 (yP O0 aer (λX=>(X.1.2.1,q3 X)))).add 3 (yP OZ aeq (λX=>(X.1.2.1,q2 X)))
theorem ah5:xA E G76.g aiq ajb (cL f152 1):=lk O0 aer (λX=>(X.1.2.1,q3 X)) λX x=>((z1 (w x.1 (z1 (u x.2))) X.1),X.2)
theorem ah4:xA E G76.g aiq ajb (cL f152 0):=lk OZ aeq (λX=>(X.1.2.1,q2 X)) λX x=>((z1 (w x.1 (u x.2)) X.1),X.2)
def alh:=G76.qk aiq func152 [pd .str] [rI] (c1 BC) (cF ah4 (cF ah5 nF))
def G77:=alh.q0 {} func77 [pd .str] [rS] (c1 uM)
def G31:=G77.q0 {} func31 [pf cX] [rS,rB] (c1 sM)
def anU:jj:=jn (.pair (.sl .xa (.int .u8)) (.pair (.int .i64) (.int .i64))) [] [rI] λx a=>ko x
theorem aoM:D3 190 anU:=gM.pR (pB (an:={}) (Λ:=lB.nil) (G31.s) func190 (by kernel_rfl) (ao nF)) (λx a=>by kernel_rfl)
def ai0:=G31.add aoM
def e97:jj:=jn (.pair (.sl .xa (.int .u8)) (.pair (.int .i64) (.int .i64))) [pI] [rI] λx a=>cf x a.1
theorem o97:D3 97 e97:=gM.pR (pB (an:={}) (Λ:=lB.nil) (ai0.s) func97 (by kernel_rfl) (ao nF)) (λx a=>by kernel_rfl)
def G97:=ai0.add o97
def e95:jj:=jn (.pair (.sl .xa (.int .u8)) (.pair (.int .i64) (.int .i64))) [pI] [rB] λx a=>gB x a.1
theorem o95:D3 95 e95:=gM.pR (pB (an:={}) (Λ:=lB.nil) (G97.s) func95 (by kernel_rfl) (ao nF)) (λx a=>by kernel_rfl)
def G95:=G97.add o95
def e98:jj:=jn (.pair (.sl .xa (.int .u8)) (.pair (.int .i64) (.int .i64))) [pI] [rS] λx a=>mc x a.1
def n98:An:={mask:=mk [(5,[0,1,5,6])],mv:=[15]}
abbrev Xy:SD:=⟨.ptr 0 0::DI::B::B::B::cP (dq 61440 (.int .u8))::DI::bs 16 [],(some Y8)::zs 22 [],.ptr⟩
def ag4 (X:SD.D Xy)(K:vc R):=oL (λy0 y1 y2=>ke 0 K Xy ((z1 (w y0 (u y1)) X.1),(u y2 X.2.1),X.2.2)) X.1.1
def L98:lB:=lB.nil.add 5 (yP Xy ag4 (λX=>(X.1.2.1,q2 X,X.2.1.1)))
theorem aki:xA E G95.g n98 L98 (cL f98 0):=lk Xy ag4 (λX=>(X.1.2.1,q2 X,X.2.1.1)) λX x=>((z1 (w x.1 (u x.2.1)) X.1),(u x.2.2 X.2.1),X.2.2)
theorem o98:D3 98 e98:=gM.pR (pB (Γ:=G95.g) (an:=n98) (Λ:=L98) (G95.s) func98 (by kernel_rfl) (ao (cF aki nF))) (λx a=>by kernel_rfl)
def G98:=G95.add o98
def e99:jj:=jn (.pair (.sl .xa (.int .u8)) (.pair (.int .i64) (.int .i64))) [pd (.sl (.int .i64))] [rI] λx a=>cu x a.1
theorem o99:D3 99 e99:=gM.pR (pB (an:={}) (Λ:=lB.nil) (G98.s) func99 (by kernel_rfl) (ao nF)) (λx a=>by kernel_rfl)
def G99:=G98.add o99
def anQ:jj:=jn (.pair (.sl .xa (.int .u8)) (.pair (.int .i64) (.int .i64))) [] [rI] λx a=>rl x
theorem aoI:D3 145 anQ:=gM.pR (pB (an:={}) (Λ:=lB.nil) (G99.s) func145 (by kernel_rfl) (ao nF)) (λx a=>by kernel_rfl)
def aiY:=G99.add aoI
def anY:jj:=jn (.pair (.sl .xa (.int .u8)) (.pair (.int .i64) (.int .i64))) [] [rI] λx a=>wq x
theorem aoQ:D3 227 anY:=gM.pR (pB (an:={}) (Λ:=lB.nil) (aiY.s) func227 (by kernel_rfl) (ao nF)) (λx a=>by kernel_rfl)
def ai3:=aiY.add aoQ
def anR:jj:=jn (.pair (.sl .xa (.int .u8)) (.pair (.int .i64) (.int .i64))) [pI] [(true,(.pair (.int .i64) Y21))] λx a=>sT x a.1
theorem aoJ:D3 146 anR:=gM.pR (pB (an:={}) (Λ:=lB.nil) (ai3.s) func146 (by kernel_rfl) (ao nF)) (λx a=>by kernel_rfl)
def aiZ:=ai3.add aoJ
def e74:jj:=jn (.pair (.sl .xa (.int .u8)) (.pair (.int .i64) (.int .i64))) [pI] [(true,Y3)] λx a=>kV x a.1
theorem o74:D3 74 e74:=gM.pR (pB (an:={}) (Λ:=lB.nil) (aiZ.s) func74 (by kernel_rfl) (ao nF)) (λx a=>by kernel_rfl)
def G74:=aiZ.add o74
def e94:jj:=jn (.pair (.sl .xa (.int .u8)) (.pair (.int .i64) (.int .i64))) [pI] [(false,(.sl (.own none) cX))] λx a=>xT x a.1
def X0:An:={mask:=mk [(5,[0,5,6,7,8]),(1000012,[0,5,6,7,8]),(1000013,[0,5,6,7,8]),(1000014,[0,5,6,7,8]),(1000015,[0,5,6,7,8]),(1000018,[0,5,6,7,8]),(1000019,[0,5,6,7,8]),(1000022,[0,5,6,7,8]),(1000023,[0,5,6,7,8]),(1000028,[0,5,6,7,8]),(1000029,[0,5,6,7,8]),(1000034,[0,5,6,7,8,64]),(1000035,[0,5,6,7,8])],cut:=[6,7,9,11,14,17],mv:=[47,76]}
abbrev Cn:SD:=⟨.ptr 0 0::bs 4 (cP (dq 61440 cX)::.ptr 6 0::DI::DI::bs 55 (DB::bs 12 [])),(some Y8)::zs 5 ((some Y3)::zs 70 []),.ptr⟩
abbrev Pe:SD:=⟨.ptr 0 0::bs 4 (cP (dq 61440 cX)::.ptr 6 0::DI::DI::bs 68 []),(some Y8)::zs 5 ((some Y3)::zs 70 []),.ptr⟩
def Jh (X:SD.D Cn)(K:vc R):ay R:=vx (λy0=>kn K Pe ((X.1.1,(X.1.2.1,(X.1.2.2.1,()))),(X.2.1.1,(y0,())),())) X.1.1 X.1.2.1 (q2 X) (q3 X) X.2.1.1 X.2.1.2.1
abbrev zx:SD:=⟨.ptr 0 0::bs 4 (cP (dq 61440 cX)::.ptr 6 0::DI::DI::bs 68 []),(some Y8)::zs 5 ((some Y3)::zs 70 []),.ptr⟩
def Jg (X:SD.D zx)(K:vc R):ay R:=nB (λy0 y1 y2=>kn K zx ((u y0 X.1),(w y1 (u y2) X.2.1),X.2.2)) X.1.1 X.1.2.1 (q2 X) X.2.1.1 X.2.1.2.1
abbrev zw:SD:=⟨.ptr 0 0::bs 4 (cP (dq 61440 cX)::.ptr 6 0::DI::DI::bs 68 []),(some Y8)::zs 5 ((some Y3)::zs 70 []),.ptr⟩
def Jf (X:SD.D zw)(K:vc R):ay R:=nA (λy0 y1 y2=>kn K zw ((u y0 X.1),(w y1 (u y2) X.2.1),X.2.2)) X.1.1 X.1.2.1 (q2 X) X.2.1.1 X.2.1.2.1
abbrev zv:SD:=⟨.ptr 0 0::bs 4 (cP (dq 61440 cX)::.ptr 6 0::DI::DI::bs 68 []),(some Y8)::zs 5 ((some Y3)::zs 70 []),.ptr⟩
def Je (X:SD.D zv)(K:vc R):ay R:=oN (λy0 y1 y2 y3=>kn K zv ((w y0 (u y1) X.1),(w y2 (u y3) X.2.1),X.2.2)) X.1.1 X.1.2.1 (q2 X) X.2.1.1 X.2.1.2.1
abbrev zt:SD:=⟨.ptr 0 0::bs 4 (cP (dq 61440 cX)::.ptr 6 0::DI::DI::bs 68 []),(some Y8)::zs 5 ((some Y3)::zs 70 []),.ptr⟩
def Jc (X:SD.D zt)(K:vc R):ay R:=oM (λy0=>kn K zt ((z2 (u y0) X.1),X.2)) X.1.1 X.1.2.1 (q2 X) X.2.1.1 X.2.1.2.1
abbrev zu:SD:=⟨.ptr 0 0::bs 4 (cP (dq 61440 cX)::.ptr 6 0::DI::DI::bs 68 []),(some Y8)::zs 5 ((some Y3)::zs 70 []),.ptr⟩
def Jd (X:SD.D zu)(K:vc R):ay R:=sU (λy0 y1 y2 y3 y4=>kn K zu ((w y0 (w y1 (u y2)) X.1),(w y3 (u y4) X.2.1),X.2.2)) X.1.1 X.1.2.1 (q2 X) X.2.1.1 X.2.1.2.1
abbrev Xx:SD:=⟨.ptr 0 0::bs 4 (cP (dq 61440 cX)::.ptr 6 0::DI::DI::bs 68 []),(some Y8)::zs 5 ((some Y3)::zs 70 []),.ptr⟩
def ag3 (X:SD.D Xx)(K:vc R):=xp (λy0 y1 y2 y3 y4=>ke 0 K Xx ((w y0 (w y1 (u y2)) X.1),(w y3 (u y4) X.2.1),X.2.2))
def L94:lB:=((((((lB.nil.add 1000034 (Z8 Cn Jh)).add 1000028 (Z8 zx Jg)).add 1000022 (Z8 zw Jf)).add 1000018 (Z8 zv Je)).add 1000012 (Z8 zt Jc)).add 1000014 (Z8 zu Jd)).add 5 (yP Xx ag3 (λX=>(X.1.1,X.1.2.1,q2 X,X.2.1.1,X.2.1.2.1)))
theorem Sy:TZ E G74.g X0 L94 (tL X0.cut f94 4):=ck Cn Jh
theorem Sx:TZ E G74.g X0 L94 (tL X0.cut f94 3):=ck zx Jg
theorem Sw:TZ E G74.g X0 L94 (tL X0.cut f94 2):=ck zw Jf
theorem Sv:TZ E G74.g X0 L94 (tL X0.cut f94 1):=ck zv Je
theorem St:TZ E G74.g X0 L94 (tL X0.cut f94 5):=ck zt Jc
theorem Su:TZ E G74.g X0 L94 (tL X0.cut f94 0):=ck zu Jd
theorem akh:xA E G74.g X0 L94 (cL f94 0):=lk Xx ag3 (λX=>(X.1.1,X.1.2.1,q2 X,X.2.1.1,X.2.1.2.1)) λX x=>((w x.1 (w x.2.1 (u x.2.2.1)) X.1),(w x.2.2.2.1 (u x.2.2.2.2) X.2.1),X.2.2)
theorem o94:D3 94 e94:=gM.pR (pB (Γ:=G74.g) (an:=X0) (Λ:=L94) (G74.s) func94 (by kernel_rfl) (ac (cF akh nF) (cF Su (cF Sv (cF Sw (cF Sx (cF Sy (cF St nF)))))))) (λx a=>by kernel_rfl)
def G94:=G74.add o94
def e38:jj:=jn (.pair (.sl .xa (.int .u8)) (.pair (.int .i64) (.int .i64))) [pd .bool] [(false,(.sl (.own none) AX))] λx a=>yd x a.1
def n38:An:={mask:=mk [(4,[0,1,5,6,7]),(1000010,[0,1,5,6,7]),(1000011,[0,1,5,6,7]),(1000012,[0,1,5,6,7]),(1000013,[0,1,5,6,7]),(1000018,[0,1,5,6,7,8]),(1000019,[0,1,5,6,7]),(1000030,[0,1,5,6,7,43,50]),(1000031,[0,1,5,6,7]),(1000038,[0,1,5,6,7,43,57]),(1000039,[0,1,5,6,7])],cut:=[5,6,9,15,19],mv:=[37,46,53,61,70,84,91,95]}
abbrev Cm:SD:=⟨.ptr 0 0::DB::B::B::B::cP (dq 61440 AX)::cP (dq 73728 cX)::DI::bs 35 (DI::bs 13 (DB::bs 38 [])),(some Y8)::zs 95 [],.ptr⟩
abbrev Pd:SD:=⟨.ptr 0 0::DB::B::B::B::cP (dq 61440 AX)::cP (dq 73728 cX)::DI::bs 88 [],(some Y8)::zs 95 [],.ptr⟩
def Jb (X:SD.D Cm)(K:vc R):ay R:=kI (λy0 y1=>kn K Pd ((X.1.1,(y0,(X.1.2.2.1,(X.1.2.2.2.1,())))),(y1,()),())) X.1.1 X.1.2.1 (q2 X) (q3 X) (q4 X) (q5 X) X.2.1.1
abbrev Cl:SD:=⟨.ptr 0 0::DB::B::B::B::cP (dq 61440 AX)::cP (dq 73728 cX)::DI::bs 35 (DI::bs 6 (DB::bs 45 [])),(some Y8)::zs 95 [],.ptr⟩
abbrev Pc:SD:=⟨.ptr 0 0::DB::B::B::B::cP (dq 61440 AX)::cP (dq 73728 cX)::DI::bs 88 [],(some Y8)::zs 95 [],.ptr⟩
def Ja (X:SD.D Cl)(K:vc R):ay R:=nD (λy0 y1=>kn K Pc ((X.1.1,(y0,(X.1.2.2.1,(X.1.2.2.2.1,())))),(y1,()),())) X.1.1 X.1.2.1 (q2 X) (q3 X) (q4 X) (q5 X) X.2.1.1
abbrev Ck:SD:=⟨.ptr 0 0::DB::B::B::B::cP (dq 61440 AX)::cP (dq 73728 cX)::DI::cP .str::bs 87 [],(some Y8)::zs 95 [],.ptr⟩
abbrev Pb:SD:=⟨.ptr 0 0::DB::B::B::B::cP (dq 61440 AX)::cP (dq 73728 cX)::DI::bs 88 [],(some Y8)::zs 95 [],.ptr⟩
def I9 (X:SD.D Ck)(K:vc R):ay R:=oQ (λy0 y1=>kn K Pb ((X.1.1,(y0,(X.1.2.2.1,(X.1.2.2.2.1,())))),(y1,()),())) X.1.1 X.1.2.1 (q2 X) (q3 X) (q4 X) X.2.1.1
abbrev zl:SD:=⟨.ptr 0 0::DB::B::B::B::cP (dq 61440 AX)::cP (dq 73728 cX)::DI::bs 88 [],(some Y8)::zs 95 [],.ptr⟩
def I7 (X:SD.D zl)(K:vc R):ay R:=oP (λy0=>kn K zl ((z3 (u y0) X.1),X.2)) X.1.1 X.1.2.1 (q2 X) (q3 X) X.2.1.1
abbrev zn:SD:=⟨.ptr 0 0::DB::B::B::B::cP (dq 61440 AX)::cP (dq 73728 cX)::DI::bs 88 [],(some Y8)::zs 95 [],.ptr⟩
def I8 (X:SD.D zn)(K:vc R):ay R:=sW (λy0 y1 y2=>kn K zn ((z1 (w y0 (z1 (u y1))) X.1),(u y2 X.2.1),X.2.2)) X.1.1 X.1.2.1 (q2 X) (q3 X) X.2.1.1
abbrev Xu:SD:=⟨.ptr 0 0::DB::B::B::B::cP (dq 61440 AX)::cP (dq 73728 cX)::DI::bs 88 [],(some Y8)::zs 95 [],.ptr⟩
def agW (X:SD.D Xu)(K:vc R):=xu (λy0 y1 y2=>ke 0 K Xu ((z1 (w y0 (z1 (u y1))) X.1),(u y2 X.2.1),X.2.2)) X.1.1 (q2 X)
def L38:lB:=(((((lB.nil.add 1000038 (Z8 Cm Jb)).add 1000030 (Z8 Cl Ja)).add 1000018 (Z8 Ck I9)).add 1000010 (Z8 zl I7)).add 1000012 (Z8 zn I8)).add 4 (yP Xu agW (λX=>(X.1.2.1,q3 X,X.2.1.1)))
theorem Ss:TZ E G94.g n38 L38 (tL n38.cut f38 3):=ck Cm Jb
theorem Sr:TZ E G94.g n38 L38 (tL n38.cut f38 2):=ck Cl Ja
theorem Sq:TZ E G94.g n38 L38 (tL n38.cut f38 1):=ck Ck I9
theorem So:TZ E G94.g n38 L38 (tL n38.cut f38 4):=ck zl I7
theorem Sp:TZ E G94.g n38 L38 (tL n38.cut f38 0):=ck zn I8
theorem akd:xA E G94.g n38 L38 (cL f38 0):=lk Xu agW (λX=>(X.1.2.1,q3 X,X.2.1.1)) λX x=>((z1 (w x.1 (z1 (u x.2.1))) X.1),(u x.2.2 X.2.1),X.2.2)
theorem o38:D3 38 e38:=gM.pR (pB (Γ:=G94.g) (an:=n38) (Λ:=L38) (G94.s) func38 (by kernel_rfl) (ac (cF akd nF) (cF Sp (cF Sq (cF Sr (cF Ss (cF So nF))))))) (λx a=>by kernel_rfl)
def G38:=G94.add o38
def alB:=G38.q0 {merge:=mg [(1,16)]} func172 [pd .str] [rS,rB] (c1 wg)
def am4:=alB.q0 {} func289 [pd .str,pI] [rI] (c2 hG)
def am5:=am4.q0 {} func290 [pd .str,pI] [rI] (c2 oq)
def amy:=am5.q0 {sb:=mg [(4,4)]} func246 [pd .str] [(true,Y15),rB] (c1 wk)
def amz:=amy.q0 {merge:=mg [(2,22),(6,56)],sb:=mg [(5,5)]} func247 [pd .str] [(true,Y21),rB] (c1 xP)
def amA:=amz.q0 {merge:=mg [(3,20),(9,44),(12,68)]} func248 [pI,pI,pI,pd .str] [(true,(.pair (.int .i64) Y21)),rB] (c4 pZ)
def alC:=amA.q0 {merge:=mg [(2,20)]} func173 [pd .str] [(true,Y3),rI] (c1 uK)
def G85:=alC.q0 {} func85 [pd .str] [(true,Y3),rI] (c1 uJ)
def ai2:=G85.q0 {} func194 [] [(true,(.sl (.own none) gq))] (λa=>mr)
def an3:jj:=jn (.pair (.sl .xa (.int .u8)) (.pair (.int .i64) (.int .i64))) [] [rS] λx a=>zQ x
theorem aoV:D3 299 an3:=gM.pR (pB (an:={}) (Λ:=lB.nil) (ai2.s) func299 (by kernel_rfl) (ao nF)) (λx a=>by kernel_rfl)
def ae0:=ai2.add aoV
def anZ:jj:=jn (.pair (.sl .xa (.int .u8)) (.pair (.int .i64) (.int .i64))) [] [(true,(.pair .str (.sl (.own none) (.int .i64)))),rI] λx a=>uN x
def akp:An:={mask:=mk [(4,[0,2,4,5,6])],mv:=[21,28],mb:=mg [(21,5)],sb:=mg [(22,0),(27,5)]}
abbrev O6:SD:=⟨.ptr 0 0::B::.ptr 2 0::B::DI::.ptr 5 0::DI::bs 23 [],(some Y8)::Z::(so (cY .str (dq 24580 (.int .i64))))::Z::Z::(so (cY .str (dq 61444 (.int .i64))))::zs 24 [],.ptr⟩
def aeA (X:SD.D O6)(K:vc R):=uO (λy0 y1 y2=>ke 0 K O6 ((z1 (u y0) X.1),(w y1 (z1 (u y2)) X.2.1),X.2.2)) X.1.1 X.2.1.2.1
def ajg:lB:=lB.nil.add 4 (yP O6 aeA (λX=>(X.1.2.1,X.2.1.1,X.2.1.2.2.1)))
theorem aie:xA E ae0.g akp ajg (cL f258 0):=lk O6 aeA (λX=>(X.1.2.1,X.2.1.1,X.2.1.2.2.1)) λX x=>((z1 (u x.1) X.1),(w x.2.1 (z1 (u x.2.2)) X.2.1),X.2.2)
theorem aoR:D3 258 anZ:=gM.pR (pB (Γ:=ae0.g) (an:=akp) (Λ:=ajg) (ae0.s) func258 (by kernel_rfl) (ao (cF aie nF))) (λx a=>by kernel_rfl)
def ai4:=ae0.add aoR
def an4:jj:=jn (.pair (.sl .xa (.int .u8)) (.pair (.int .i64) (.int .i64))) [] [(true,(.pair (.int .i64) (.pair (.int .i64) (.pair (.int .i64) (.pair (.int .i64) (.pair (.int .i64) Y1))))))] λx a=>xX x
theorem aoW:D3 300 an4:=gM.pR (pB (an:={}) (Λ:=lB.nil) (ai4.s) func300 (by kernel_rfl) (ao nF)) (λx a=>by kernel_rfl)
def ae1:=ai4.add aoW
def an0:jj:=jn (.pair (.sl .xa (.int .u8)) (.pair (.int .i64) (.int .i64))) [] [(false,(.sl (.own none) iZ))] λx a=>wu x
def akq:An:={mask:=mk [(3,[0,3,4])],mv:=[12,17]}
abbrev O7:SD:=⟨.ptr 0 0::B::B::cP (dq 36864 iZ)::DI::bs 13 [],(some Y8)::zs 17 [],.ptr⟩
def aeB (X:SD.D O7)(K:vc R):=vy (λy0 y1 y2=>ke 0 K O7 ((w y0 (u y1) X.1),(u y2 X.2.1),X.2.2))
def ajh:lB:=lB.nil.add 3 (yP O7 aeB (λX=>(X.1.1,X.1.2.1,X.2.1.1)))
theorem aif:xA E ae1.g akq ajh (cL f259 0):=lk O7 aeB (λX=>(X.1.1,X.1.2.1,X.2.1.1)) λX x=>((w x.1 (u x.2.1) X.1),(u x.2.2 X.2.1),X.2.2)
theorem aoS:D3 259 an0:=gM.pR (pB (Γ:=ae1.g) (an:=akq) (Λ:=ajh) (ae1.s) func259 (by kernel_rfl) (ao (cF aif nF))) (λx a=>by kernel_rfl)
def amF:=ae1.add aoS
def alJ:=amF.q0 {} func188 [pf (.sl gq)] [(true,(.sl (.own none) gq))] (c1 uP)
abbrev ab4:SD:=⟨B::B::B::DI::cP (dq 49152 (.int .i64))::DI::bs 26 [],zs 32 [],.none⟩
def am8:=alJ.q1 {mask:=mk [(4,[3,4,5])]} func294 [pf qf] [rI] (c1 sg) ab4 (λX K=>nw (λy0 y1=>ke 0 K ab4 ((w y0 (z1 (u y1)) X.1),X.2)) X.1.2.1) (λX=>(X.1.1,q2 X)) (λX x=>((w x.1 (z1 (u x.2)) X.1),X.2))
abbrev U0:SD:=⟨B::B::.ptr 2 0::.ptr 3 0::DI::DI::bs 35 [],Z::Z::(so (ji gq))::(so (cY AU Y1))::zs 37 [],.none⟩
def amD:=am8.q1 {mask:=mk [(2,[2,3,4,5])],merge:=mg [(7,39)]} func253 [pf (.sl gq),pf qf] [rI] (c2 uQ) U0 (λX K=>oO (λy0=>ke 0 K U0 ((z1 (u y0) X.1),X.2)) (λy0 y1=>kr K U0 ((w y0 (u y1) X.1),X.2)) X.1.1 X.2.1.1 X.2.1.2.1) (λX=>X.1.2.1) (λX x=>((z1 (u x) X.1),X.2))
abbrev UY:SD:=⟨B::.ptr 1 0::DB::DI::bs 45 [],Z::(so (ji gq))::zs 47 [],.none⟩
def amC:=amD.q1 {mask:=mk [(4,[1,2,3])],merge:=mg [(7,30),(10,42)]} func250 [pf (.sl gq)] [rB] (c1 uL) UY (λX K=>sS (λy0=>ke 0 K UY ((z1 (u y0) X.1),X.2)) (λy0 y1=>kr K UY ((w y0 (u y1) X.1),X.2)) X.1.1 X.2.1.1) (λX=>X.1.2.1) (λX x=>((z1 (u x) X.1),X.2))
abbrev abZ:SD:=⟨B::B::DI::.ptr 3 0::.ptr 4 0::B::.ptr 6 0::B::.ptr 8 0::DI::DI::bs 47 [],Z::Z::Z::(so (ji gq))::(so (cY AU Y1))::Z::(so (dq 73729 gq))::Z::(so (dq 98305 gq))::zs 49 [],.none⟩
def ai5:=amC.q1 {mask:=mk [(6,[2,3,4,6,8,9,10])],merge:=mg [(2,21),(6,31)],mv:=[22,49,57]} func260 [pf (.sl gq),pf qf,pI] [(true,(.sl (.own none) gq)),rB] (c3 xQ) abZ (λX K=>xo (λy0 y1=>ke 0 K abZ ((z1 (w y0 (u y1)) X.1),X.2)) X.1.1 X.2.1.1 X.2.1.2.1 X.2.1.2.2.1 X.2.1.2.2.2.1) (λX=>(X.1.2.1,q2 X)) (λX x=>((z1 (w x.1 (u x.2)) X.1),X.2))
def an1:jj:=jn (.pair (.sl .xa (.int .u8)) (.pair (.int .i64) (.int .i64))) [] [(true,(.pair (.int .i64) Y1))] λx a=>xV x
theorem aoT:D3 261 an1:=gM.pR (pB (an:={}) (Λ:=lB.nil) (ai5.s) func261 (by kernel_rfl) (ao nF)) (λx a=>by kernel_rfl)
def abr:=ai5.add aoT
def anV:jj:=jn (.pair (.sl .xa (.int .u8)) (.pair (.int .i64) (.int .i64))) [] [(true,Y19),rI] λx a=>rm x
def aiu:An:={mask:=mk [(7,[0,2,4,6,7]),(11,[0,2,4,6,8])],mv:=[11,16,49,58,61],sb:=mg [(52,0),(54,0),(60,4)]}
abbrev O3:SD:=⟨.ptr 0 0::B::.ptr 2 0::B::.ptr 4 0::B::DI::DI::bs 55 [],(some Y8)::Z::(some Y22)::Z::(some Y16)::zs 58 [],.ptr⟩
def aex (X:SD.D O3)(K:vc R):=jV (λy0 y1=>ke 0 K O3 ((z1 (u y0) X.1),(z2 (u y1) X.2.1),X.2.2)) X.1.1 X.2.1.1 X.2.1.2.1
abbrev JF:SD:=⟨.ptr 0 0::B::.ptr 2 0::B::.ptr 4 0::B::DI::B::DI::bs 54 [],(some Y8)::Z::(some Y22)::Z::(some Y16)::zs 58 [],.ptr⟩
def Yo (X:SD.D JF)(K:vc R):=ib (λy0 y1 y2=>ke 2 K JF ((z1 (u y0) X.1),(w y1 (z1 (u y2)) X.2.1),X.2.2)) X.1.1 X.2.1.2.1
def ahf:lB:=(lB.nil.add 7 (yP O3 aex (λX=>(X.1.2.1,X.2.1.2.2.1)))).add 11 (yP JF Yo (λX=>(X.1.2.1,X.2.1.1,X.2.1.2.2.1)))
theorem aib:xA E abr.g aiu ahf (cL f191 0):=lk O3 aex (λX=>(X.1.2.1,X.2.1.2.2.1)) λX x=>((z1 (u x.1) X.1),(z2 (u x.2) X.2.1),X.2.2)
theorem afK:xA E abr.g aiu ahf (cL f191 1):=lk JF Yo (λX=>(X.1.2.1,X.2.1.1,X.2.1.2.2.1)) λX x=>((z1 (u x.1) X.1),(w x.2.1 (z1 (u x.2.2)) X.2.1),X.2.2)
theorem aoN:D3 191 anV:=gM.pR (pB (Γ:=abr.g) (an:=aiu) (Λ:=ahf) (abr.s) func191 (by kernel_rfl) (ao (cF aib (cF afK nF)))) (λx a=>by kernel_rfl)
def alL:=abr.add aoN
def ak3:=alL.q0 {merge:=mg [(1,2)]} func135 [pf fG] [rB] (c1 tD)
def G66:=ak3.q0 {merge:=mg [(1,24),(3,2)]} func66 [pf fG] [rB] (c1 mu)
def G24:=G66.q0 {} func24 [pI,pI] [(true,Y13),rB] (c2 uH)
def G91:=G24.q0 {sb:=mg [(2,2)]} func91 [pf vF] [(true,Y23)] (c1 yb)
def G92:=G91.q0 {sb:=mg [(2,2)]} func92 [pf oV] [(true,Y19)] (c1 xY)
abbrev UM:SD:=⟨B::.ptr 1 0::DB::DI::bs 41 [],Z::(some Y25)::zs 43 [],.none⟩
def alD:=G92.q1 {mask:=mk [(2,[1,2,3])],merge:=mg [(4,35),(6,2)]} func174 [pf vF] [rB] (c1 wi) UM (λX K=>ra (λy0=>ke 0 K UM ((z1 (u y0) X.1),X.2)) (λy0 y1=>kr K UM ((w y0 (u y1) X.1),X.2)) X.1.1 X.2.1.1) (λX=>X.1.2.1) (λX x=>((z1 (u x) X.1),X.2))
def am6:=alD.q0 {merge:=mg [(1,33),(3,54),(5,2)]} func291 [pf iZ] [rB] (c1 ma)
abbrev UX:SD:=⟨cP (ji iZ)::B::DB::DI::bs 15 [],zs 19 [],.none⟩
def amB:=am6.q1 {mask:=mk [(2,[0,2,3])]} func249 [pd (.sl iZ)] [rB] (c1 xS) UX (λX K=>sQ (λy0=>ke 0 K UX ((z2 (u y0) X.1),X.2)) (λy0 y1=>kr K UX ((z1 (w y0 (u y1)) X.1),X.2)) X.1.1 X.1.2.1) q2 (λX x=>((z2 (u x) X.1),X.2))
def am7:=amB.q0 {merge:=mg [(1,2)]} func292 [pI] [rB] (c1 xW)
abbrev UZ:SD:=⟨B::DI::.ptr 2 0::B::DB::DI::bs 32 [],Z::Z::(so (cY .str (ji (.int .i64))))::zs 35 [],.none⟩
def aha:=am7.q1 {mask:=mk [(4,[1,2,4,5])],merge:=mg [(1,21)]} func251 [pf Dl,pI] [rB] (c2 wm) UZ (λX K=>rf (λy0=>ke 0 K UZ ((z2 (u y0) X.1),X.2)) (λy0 y1=>kr K UZ ((z1 (w y0 (u y1)) X.1),X.2)) X.1.1 X.1.2.1 X.2.1.1) q2 (λX x=>((z2 (u x) X.1),X.2))
def ais:An:={mask:=mk [(4,[1,2,4,5]),(9,[1,2,4,6])],merge:=mg [(1,23)]}
abbrev Ki:SD:=⟨B::DI::.ptr 2 0::B::DB::DI::bs 50 [],Z::Z::(some Y18)::zs 53 [],.none⟩
def aeu (X:SD.D Ki)(K:vc R):=ou (λy0=>ke 0 K Ki ((z2 (u y0) X.1),X.2)) (λy0 y1=>kr K Ki ((z1 (w y0 (u y1)) X.1),X.2)) X.1.1 X.1.2.1 X.2.1.1
abbrev Kj:SD:=⟨B::DI::.ptr 2 0::B::DB::B::DI::bs 49 [],Z::Z::(some Y18)::zs 53 [],.none⟩
def aev (X:SD.D Kj)(K:vc R):=ov (λy0=>ke 2 K Kj ((z2 (u y0) X.1),X.2)) (λy0 y1=>kr K Kj ((z1 (w y0 (u y1)) X.1),X.2)) X.1.1 X.1.2.1 X.2.1.1
def ajd:lB:=(lB.nil.add 4 (yP Ki aeu q2)).add 9 (yP Kj aev q2)
theorem ah8:xA E aha.g ais ajd (cL f175 0):=lk Ki aeu q2 λX x=>((z2 (u x) X.1),X.2)
theorem ah9:xA E aha.g ais ajd (cL f175 1):=lk Kj aev q2 λX x=>((z2 (u x) X.1),X.2)
def alE:=aha.qk ais func175 [pf oV,pI] [rB] (c2 sR) (cF ah8 (cF ah9 nF))
abbrev ab0:SD:=⟨DI::B::.ptr 2 0::.ptr 3 0::DI::bs 17 [],Z::Z::(so (dq 24577 .str))::(so (dq 36865 .str))::zs 18 [],.none⟩
def amG:=alE.q1 {mask:=mk [(3,[0,2,3,4])],merge:=mg [(3,12)],mv:=[16,21],mb:=mg [(16,3)],sb:=mg [(20,3)]} func262 [pI] [(true,(.sl (.own none) .str))] (c1 qz) ab0 (λX K=>pY (λy0 y1=>ke 0 K ab0 ((z1 (u y0) X.1),(z1 (u y1) X.2.1),X.2.2)) X.1.1 X.2.1.1) (λX=>(X.1.2.1,X.2.1.2.1)) (λX x=>((z1 (u x.1) X.1),(z1 (u x.2) X.2.1),X.2.2))
abbrev UP:SD:=⟨B::.ptr 1 0::DB::cP (dq 36864 .bool)::DI::bs 53 [],Z::(some Y14)::zs 56 [],.none⟩
def alI:=amG.q1 {mask:=mk [(5,[1,2,3,4])],merge:=mg [(1,20),(7,50)]} func187 [pf iq] [rB] (c1 tB) UP (λX K=>uI (λy0 y1=>ke 0 K UP ((z1 (w y0 (u y1)) X.1),X.2)) (λy0 y1 y2=>kr K UP ((w y0 (w y1 (u y2)) X.1),X.2)) X.1.1 X.2.1.1) (λX=>(X.1.2.1,q2 X)) (λX x=>((z1 (w x.1 (u x.2)) X.1),X.2))
abbrev ab5:SD:=⟨B::B::DI::B::B::B::.ptr 6 0::B::.ptr 8 0::DI::bs 24 [],zs 6 ((some Y29)::Z::(some Y28)::zs 25 []),.none⟩
def anc:=alI.q1 {mask:=mk [(3,[2,6,8,9])],merge:=mg [(3,20)],mv:=[24,33]} func301 [pI,pI,pI] [(true,Y9),rB] (c3 uG) ab5 (λX K=>oJ (λy0 y1=>ke 0 K ab5 ((z1 (u y0) X.1),(z1 (u y1) X.2.1),X.2.2)) X.1.1 X.2.1.1) (λX=>(X.1.2.1,X.2.1.2.1)) (λX x=>((z1 (u x.1) X.1),(z1 (u x.2) X.2.1),X.2.2))
def amH:=anc.q0 {mv:=[4,9]} func263 [] [(true,Y17)] (λa=>wx)
def ans:=amH.q0 {} func319 [pf (.sl .str)] [(true,(.sl (.own none) .str))] (c1 md)
abbrev UO:SD:=⟨B::.ptr 1 0::DB::DI::bs 18 [],Z::(so (ji .str))::zs 20 [],.none⟩
def ag8:=ans.q1 {mask:=mk [(2,[1,2,3])]} func183 [pf (.sl .str)] [rB] (c1 si) UO (λX K=>rb (λy0=>ke 0 K UO ((z1 (u y0) X.1),X.2)) (λy0 y1=>kr K UO ((w y0 (u y1) X.1),X.2)) X.1.1 X.2.1.1) (λX=>X.1.2.1) (λX x=>((z1 (u x) X.1),X.2))
def ait:An:={mask:=mk [(4,[0,2,3]),(10,[0,2,3,4,5])],merge:=mg [(7,34),(12,57)]}
abbrev FG:SD:=⟨cP (ji bE)::B::DB::DI::.ptr 4 0::DI::bs 52 [],zs 4 ((so (jX (jX (jX .bool))))::zs 53 []),.none⟩
def Yn (X:SD.D FG)(K:vc R):=mS (λy0=>ke 2 K FG ((z3 (u y0) X.1),X.2)) (λy0 y1=>kr K FG ((z1 (w y0 (z1 (u y1))) X.1),X.2)) X.1.1 X.1.2.1 (q2 X) X.2.1.1
abbrev Kk:SD:=⟨cP (ji bE)::B::DB::DI::bs 54 [],zs 58 [],.none⟩
def aew (X:SD.D Kk)(K:vc R):=ot (λy0=>ke 0 K Kk ((z2 (u y0) X.1),X.2)) (λy0 y1=>kr K Kk ((z1 (w y0 (u y1)) X.1),X.2)) X.1.1 X.1.2.1
def aje:lB:=(lB.nil.add 10 (yP FG Yn q3)).add 4 (yP Kk aew q2)
theorem afJ:xA E ag8.g ait aje (cL f184 1):=lk FG Yn q3 λX x=>((z3 (u x) X.1),X.2)
theorem aia:xA E ag8.g ait aje (cL f184 0):=lk Kk aew q2 λX x=>((z2 (u x) X.1),X.2)
def alH:=ag8.qk ait func184 [pd (.sl bE)] [rB] (c1 sP) (cF aia (cF afJ nF))
abbrev U5:SD:=⟨cP (ji bE)::DI::DI::DB::bs 4 (DI::DI::bs 38 []),zs 48 [],.none⟩
def anI:=alH.q1 {mask:=mk [(2,[0,1,2,3,8,9])],merge:=mg [(4,42)]} func336 [pd (.sl bE),pI,pI,pd .bool] [rI] (c4 xZ) U5 (λX K=>sV (λy0=>ke 0 K U5 ((z5 (u y0) X.1),X.2)) (λy0 y1=>kr K U5 ((z4 (w y0 (u y1)) X.1),X.2)) X.1.1 X.1.2.1 (q2 X) (q3 X) (q4 X)) q5 (λX x=>((z5 (u x) X.1),X.2))
def anJ:=anI.q0 {merge:=mg [(2,6)]} func337 [pf (.sl .str),pI,pI] [rB] (c3 nC)
abbrev U4:SD:=⟨cP (ji bE)::B::DI::DI::DI::DB::B::.ptr 7 0::bs 4 (cP (dq 147456 (.int .i64))::cP (dq 159744 (.int .i64))::DB::cP (dq 184320 (.int .i64))::cP (dq 196608 (.int .i64))::bs 66 []),zs 7 ((so (ji .str))::zs 75 []),.none⟩
def anD:=anJ.q1 {mask:=mk [(5,[0,2,3,4,5,7,12,13,14,15,16])],merge:=mg [(3,34),(10,57)],mv:=[35,36,64,71,81,82]} func331 [pd (.sl bE),pf (.sl .str),pI,pI,pI,pd .bool] [(false,(.sl (.own none) (.int .i64))),(false,(.sl (.own none) (.int .i64))),rB] (c6 wv) U4 (λX K=>kH (λy0 y1 y2 y3=>ke 0 K U4 ((z2 (w y0 (w y1 (z4 (w y2 (u y3))))) X.1),X.2)) (λy0 y1 y2 y3 y4 y5 y6=>kr K U4 ((z2 (w y0 (w y1 (z1 (w y2 (w y3 (w y4 (w y5 (u y6)))))))) X.1),X.2)) X.1.1 X.1.2.1 (q4 X) (q5 X) (q6 X) (q7 X) X.2.1.1) (λX=>(q2 X,q3 X,q8 X,q9 X)) (λX x=>((z2 (w x.1 (w x.2.1 (z4 (w x.2.2.1 (u x.2.2.2))))) X.1),X.2))
abbrev acf:SD:=⟨B::DI::cP .str::B::B::B::.ptr 6 0::B::.ptr 8 0::bs 44 [],zs 6 ((so (dq 73729 .str))::Z::(so (dq 98305 .str))::zs 44 []),.none⟩
def anE:=anD.q1 {mask:=mk [(4,[1,2,6,8])],mv:=[19,52]} func332 [pf (.sl .str),pI,pd .str] [(true,(.sl (.own none) .str)),rB] (c3 rk) acf (λX K=>mU (λy0 y1 y2=>ke 0 K acf ((w y0 (u y1) X.1),(z1 (u y2) X.2.1),X.2.2)) X.2.1.1) (λX=>(X.1.1,X.1.2.1,X.2.1.2.1)) (λX x=>((w x.1 (u x.2.1) X.1),(z1 (u x.2.2) X.2.1),X.2.2))
abbrev acb:SD:=⟨bs 4 (cP .str::bs 5 (.ptr 10 0::B::cP (.sl .loc (.int .i64))::cP (.sl .loc (.int .i64))::B::.ptr 15 0::DI::bs 44 [])),zs 10 ((so (dq 122881 .str))::zs 4 ((so (dq 184321 .str))::zs 45 [])),.none⟩
def anr:=anE.q1 {mask:=mk [(6,[4,10,12,13,15,16])],mv:=[32,39,52,60],sb:=mg [(15,15)]} func318 [pd (.sl bE),pf (.sl .str),pI,pI,pd .str] [(true,(.sl (.own none) .str)),rB] (c5 sf) acb (λX K=>nt (λy0 y1 y2=>ke 0 K acb ((w y0 (z2 (u y1)) X.1),(z1 (u y2) X.2.1),X.2.2)) X.1.2.1 (q2 X) X.2.1.1) (λX=>(X.1.1,q3 X,X.2.1.2.1)) (λX x=>((w x.1 (z2 (u x.2.1)) X.1),(z1 (u x.2.2) X.2.1),X.2.2))
abbrev ab6:SD:=⟨cP (ji bE)::B::DI::DI::cP .str::B::.ptr 6 0::B::B::B::.ptr 10 0::B::cP (dq 147456 bE)::DI::bs 25 [],zs 6 ((so (ji .str))::Z::Z::Z::(so (dq 122881 .str))::zs 28 []),.none⟩
def ane:=anr.q1 {mask:=mk [(3,[0,2,3,4,6,10,12,13])],mv:=[27]} func302 [pd (.sl bE),pf (.sl .str),pI,pI,pd .str] [(true,(.sl (.own none) .str)),rB] (c5 uE) ab6 (λX K=>pX (λy0 y1=>ke 0 K ab6 ((z4 (w y0 (u y1)) X.1),X.2)) X.1.1 X.1.2.1 (q2 X) (q3 X) X.2.1.1 X.2.1.2.1) (λX=>(q4 X,q5 X)) (λX x=>((z4 (w x.1 (u x.2)) X.1),X.2))
def am9:=ane.q0 {merge:=mg [(1,2)]} func296 [pI] [rB] (c1 uR)
def ana:=am9.q0 {} func297 [pf ti] [rI] (c1 sn)
def amE:=ana.q0 {merge:=mg [(1,2)]} func255 [pf ti] [rB] (c1 tC)
def anb:=amE.q0 {sb:=mg [(2,2)]} func298 [pf iq] [(true,Y9)] (c1 ya)
def ant:=anb.q0 {} func320 [pf ti] [rI] (c1 sk)
def anF:=ant.q0 {merge:=mg [(1,11)]} func333 [pf ti,pI] [rI] (c2 re)
def anu:=anF.q0 {merge:=mg [(1,22)],mv:=[26,36,51],mb:=mg [(51,13)],sb:=mg [(10,10),(11,11),(13,13)]} func321 [pd (.sl bE),pf (.sl .str),pI,pf ti,pd .str] [(true,(.sl (.own none) .str)),(true,Y1),rB] (c5 xR)
def anG:=anu.q0 {merge:=mg [(1,2)]} func334 [pf nH] [rB] (c1 zO)
def anv:=anG.q0 {} func322 [pf nH] [rS] (c1 sO)
def anw:=anv.q0 {merge:=mg [(1,15)]} func323 [pf iq,pI] [rI] (c2 oo)
abbrev ab7:SD:=⟨cP (ji bE)::B::DI::bs 5 (.ptr 8 0::.ptr 9 0::.ptr 10 0::.ptr 11 0::.ptr 12 0::B::.ptr 14 0::.ptr 15 0::DI::bs 65 []),zs 8 ((some Y1)::(some Y14)::(so (dq 122881 .str))::(some Y1)::(some Y27)::Z::(so (dq 172033 .str))::(some Y26)::zs 66 []),.none⟩
def ai7:=anw.q1 {mask:=mk [(6,[0,2,8,9,10,11,12,14,15,16])],merge:=mg [(4,32),(6,44)],mv:=[33,35,49,63,68,78,80],mb:=mg [(33,14),(35,15),(78,14),(80,15)],sb:=mg [(10,10),(11,11),(12,12),(18,18),(19,19)]} func303 [pd (.sl bE),pf (.sl .str),pI,pf ti,pf iq] [(true,(.sl (.own none) .str)),(true,Y1),(true,Y9),rI] (c5 wh) ab7 (λX K=>nv (λy0 y1 y2 y3=>ke 0 K ab7 ((z2 (u y0) X.1),(w y1 (z4 (w y2 (u y3))) X.2.1),X.2.2)) X.1.1 X.1.2.1 X.2.1.2.1 X.2.1.2.2.1 X.2.1.2.2.2.1 X.2.1.2.2.2.2.1) (λX=>(q2 X,X.2.1.1,X.2.1.2.2.2.2.2.1,X.2.1.2.2.2.2.2.2.1)) (λX x=>((z2 (u x.1) X.1),(w x.2.1 (z4 (w x.2.2.1 (u x.2.2.2))) X.2.1),X.2.2))
def an2:jj:=jn (.pair (.sl (.own none) .str) (.pair (.sl (.own none) bE) (.pair (.pair (.pair (.int .i64) (.pair (.int .i64) (.pair (.int .i64) (.int .i64)))) (.pair (.pair (.int .i64) (.pair (.int .i64) (.pair (.int .i64) (.sl (.own none) (.int .i64))))) (.pair (.sl (.own none) ir) (.int .i64)))) (.pair (.sl (.own none) dM) (.pair (.sl (.own none) iq) (.pair (.sl (.own none) fG) (.pair (.sl (.own none) .bool) (.pair (.pair (.int .i64) (.pair .bool (.sl (.own none) (.int .i64)))) (.pair (.pair (.sl (.own none) iZ) (.pair (.sl (.own none) gq) (.pair .str (.sl (.own none) (.int .i64))))) (.pair (.sl (.own none) dL) (.pair .bool (.pair (.sl (.own none) .str) (.pair (.sl (.own none) (.int .i64)) (.pair (.sl (.own none) (.int .i64)) (.pair (.int .i64) (.pair (.int .i64) (.pair (.int .i64) (.pair (.int .i64) (.int .i64))))))))))))))))))) [pI] [] λx a=>uT x a.1
theorem aoU:D3 264 an2:=gM.pR (pB (an:={mv:=[47,51,65,67,84],mb:=mg [(84,6)],sb:=mg [(6,6),(50,0),(70,0),(71,5)]}) (Λ:=lB.nil) (ai7.s) func264 (by kernel_rfl) (ao nF)) (λx a=>by kernel_rfl)
def ahb:=ai7.add aoU
def aiv:An:={mask:=mk [(6,[0,12,14,16,17]),(10,[0,12,14,16,18])],merge:=mg [(2,42)],mv:=[57,74,80,86,92,98],mb:=mg [(57,16)],sb:=mg [(16,16),(67,16)]}
abbrev O4:SD:=⟨DI::bs 11 (.ptr 12 0::B::.ptr 14 0::B::.ptr 16 0::DI::bs 81 []),zs 12 ((some Y12)::Z::(some Y13)::Z::(some Y11)::zs 82 []),.none⟩
def aey (X:SD.D O4)(K:vc R):=xn (λy0 y1=>ke 0 K O4 ((z1 (u y0) X.1),(z2 (u y1) X.2.1),X.2.2)) X.1.1 X.2.1.1 X.2.1.2.1
abbrev JG:SD:=⟨DI::bs 11 (.ptr 12 0::B::.ptr 14 0::B::.ptr 16 0::B::DI::bs 80 []),zs 12 ((some Y12)::Z::(some Y13)::Z::(some Y11)::zs 82 []),.none⟩
def Yp (X:SD.D JG)(K:vc R):=vu (λy0 y1=>ke 2 K JG ((z1 (u y0) X.1),(z2 (u y1) X.2.1),X.2.2)) X.1.1 X.2.1.1 X.2.1.2.1
def ajf:lB:=(lB.nil.add 6 (yP O4 aey (λX=>(X.1.2.1,X.2.1.2.2.1)))).add 10 (yP JG Yp (λX=>(X.1.2.1,X.2.1.2.2.1)))
theorem aic:xA E ahb.g aiv ajf (cL f192 0):=lk O4 aey (λX=>(X.1.2.1,X.2.1.2.2.1)) λX x=>((z1 (u x.1) X.1),(z2 (u x.2) X.2.1),X.2.2)
theorem afL:xA E ahb.g aiv ajf (cL f192 1):=lk JG Yp (λX=>(X.1.2.1,X.2.1.2.2.1)) λX x=>((z1 (u x.1) X.1),(z2 (u x.2) X.2.1),X.2.2)
def ai1:=ahb.qk aiv func192 [pI,pf vF,pf oV,pd .bool,pI,pI] [(true,Y0),rB] (c6 uF) (cF aic (cF afL nF))
def anW:jj:=jn (.pair (.sl .xa (.int .u8)) (.pair (.int .i64) (.int .i64))) [] [(true,Y23)] λx a=>uS x
theorem aoO:D3 193 anW:=gM.pR (pB (an:={mv:=[11]}) (Λ:=lB.nil) (ai1.s) func193 (by kernel_rfl) (ao nF)) (λx a=>by kernel_rfl)
def abp:=ai1.add aoO
def anO:jj:=jn (.pair (.sl .xa (.int .u8)) (.pair (.int .i64) (.int .i64))) [] [(true,Y0)] λx a=>yc x
def aio:An:={mask:=mk [(2,[0,2,3]),(6,[0,2,3,4,5,6])],mv:=[15,32,46,49,50,60],sb:=mg [(7,7),(34,0),(37,0),(40,0),(43,0)]}
abbrev OV:SD:=⟨.ptr 0 0::B::.ptr 2 0::DI::.ptr 4 0::DI::DI::bs 54 [],(some Y8)::Z::(some Y2)::Z::(some Y16)::zs 56 [],.ptr⟩
def aek (X:SD.D OV)(K:vc R):=xt (λy0 y1=>ke 2 K OV ((z2 (u y0) X.1),(z2 (u y1) X.2.1),X.2.2)) X.1.1 X.1.2.1 X.2.1.1 X.2.1.2.1
abbrev Kf:SD:=⟨.ptr 0 0::B::.ptr 2 0::DI::bs 57 [],(some Y8)::Z::(some Y2)::zs 58 [],.ptr⟩
def aej (X:SD.D Kf)(K:vc R):=xr (λy0 y1=>ke 0 K Kf ((u y0 X.1),(u y1 X.2.1),X.2.2)) (λy0 y1 y2=>kr K Kf ((u y0 X.1),(w y1 (u y2) X.2.1),X.2.2)) X.2.1.2.1
def ahd:lB:=(lB.nil.add 6 (yP OV aek (λX=>(q2 X,X.2.1.2.2.1)))).add 2 (yP Kf aej (λX=>(X.1.1,X.2.1.1)))
theorem ahY:xA E abp.g aio ahd (cL f100 1):=lk OV aek (λX=>(q2 X,X.2.1.2.2.1)) λX x=>((z2 (u x.1) X.1),(z2 (u x.2) X.2.1),X.2.2)
theorem ahX:xA E abp.g aio ahd (cL f100 0):=lk Kf aej (λX=>(X.1.1,X.2.1.1)) λX x=>((u x.1 X.1),(u x.2 X.2.1),X.2.2)
theorem aoG:D3 100 anO:=gM.pR (pB (Γ:=abp.g) (an:=aio) (Λ:=ahd) (abp.s) func100 (by kernel_rfl) (ao (cF ahX (cF ahY nF)))) (λx a=>by kernel_rfl)
def aky:=abp.add aoG
def alF:=aky.q0 {} func179 [pf cX] [(true,(.pair (.int .i64) Y1))] (c1 C8)
abbrev UN:SD:=⟨cP (ji dL)::B::B::.ptr 3 0::DI::DI::bs 14 [],Z::Z::Z::(so (cY AU Y1))::zs 16 [],.none⟩
def aeZ:=alF.q1 {mask:=mk [(2,[0,3,4,5])]} func181 [pd (.sl dL),pf qf] [rI] (c2 rh) UN (λX K=>mT (λy0=>ke 0 K UN ((z2 (u y0) X.1),X.2)) (λy0 y1=>kr K UN ((z1 (w y0 (u y1)) X.1),X.2)) X.1.1 X.1.2.1 X.2.1.1) q2 (λX x=>((z2 (u x) X.1),X.2))
def anP:jj:=jn (.pair (.sl .xa (.int .u8)) (.pair (.int .i64) (.int .i64))) [pd (.sl cX)] [(false,(.sl (.own none) dL))] λx a=>xU x a.1
def akn:An:={mask:=mk [(3,[0,1,5,6])],mv:=[45,52],sb:=mg [(41,0)]}
abbrev OW:SD:=⟨.ptr 0 0::cP (ji cX)::B::B::B::cP (dq 61440 dL)::DI::bs 46 [],(some Y8)::zs 52 [],.ptr⟩
def ael (X:SD.D OW)(K:vc R):=xq (λy0 y1 y2=>ke 0 K OW ((z1 (w y0 (u y1)) X.1),(u y2 X.2.1),X.2.2)) X.1.1
def ai9:lB:=lB.nil.add 3 (yP OW ael (λX=>(X.1.2.1,q2 X,X.2.1.1)))
theorem ahZ:xA E aeZ.g akn ai9 (cL f101 0):=lk OW ael (λX=>(X.1.2.1,q2 X,X.2.1.1)) λX x=>((z1 (w x.1 (u x.2.1)) X.1),(u x.2.2 X.2.1),X.2.2)
theorem aoH:D3 101 anP:=gM.pR (pB (Γ:=aeZ.g) (an:=akn) (Λ:=ai9) (aeZ.s) func101 (by kernel_rfl) (ao (cF ahZ nF))) (λx a=>by kernel_rfl)
def aeW:=aeZ.add aoH
def e39:jj:=jn (.pair (.sl .xa (.int .u8)) (.pair (.int .i64) (.int .i64))) [pd (.sl AX)] [(true,Y0)] λx a=>wy x a.1
def n39:An:={mask:=mk [(4,[0,1,4,5,6,7])],mv:=[30,38]}
abbrev Xv:SD:=⟨.ptr 0 0::cP (ji AX)::B::B::.ptr 4 0::.ptr 5 0::cP (dq 73728 cX)::DI::bs 31 [],(some Y8)::Z::Z::Z::(some Y5)::(so (cY (dq 61441 .str) (cY (dq 61444 bE) (cY (cY Y1 (cY (jX (jX (jX (dq 61468 (.int .i64))))) (cY (dq 61471 ir) AU))) (cY (dq 61477 dM) (cY (dq 61480 iq) (cY (dq 61483 fG) (cY (dq 61486 .bool) (cY (jX (cY .bool (dq 61495 (.int .i64)))) (cY (cY (dq 61498 iZ) (cY (dq 61501 gq) (cY .str (dq 61507 (.int .i64))))) (cY (dq 61510 dL) (cY .bool (cY (dq 61516 .str) (cY (dq 61519 (.int .i64)) (cY (dq 61522 (.int .i64)) (cY AU Y1))))))))))))))))::zs 33 [],.ptr⟩
def agX (X:SD.D Xv)(K:vc R):=vz (λy0 y1=>ke 0 K Xv ((z1 (w y0 (u y1)) X.1),X.2)) X.1.1 X.2.1.1 X.2.1.2.1 X.2.1.2.2.1
def L39:lB:=lB.nil.add 4 (yP Xv agX (λX=>(X.1.2.1,q2 X)))
theorem ake:xA E aeW.g n39 L39 (cL f39 0):=lk Xv agX (λX=>(X.1.2.1,q2 X)) λX x=>((z1 (w x.1 (u x.2)) X.1),X.2)
theorem o39:D3 39 e39:=gM.pR (pB (Γ:=aeW.g) (an:=n39) (Λ:=L39) (aeW.s) func39 (by kernel_rfl) (ao (cF ake nF))) (λx a=>by kernel_rfl)
def G39:=aeW.add o39
def G9:=G39.q0 {mv:=[13]} func9 [pd (.sl (.int .u8))] [(true,Y0),(false,(.sl (.own none) AX))] (c1 nu)
abbrev acg:SD:=⟨B::.ptr 1 0::DB::B::B::B::cP (ji .str)::DI::DI::bs 11 [],Z::(so (ji .str))::zs 18 [],.none⟩
def G50:=G9.q1 {mask:=mk [(2,[1,2,6,7,8])]} func50 [pf (.sl .str)] [rB] (c1 rO) acg (λX K=>AA (λy0=>ke 0 K acg ((z3 (u y0) X.1),X.2)) (λy0 y1=>kr K acg ((w y0 (z2 (u y1)) X.1),X.2)) X.1.1 X.1.2.1 (q2 X) X.2.1.1) q3 (λX x=>((z3 (u x) X.1),X.2))
def G54:=G50.q0 {merge:=mg [(1,6)]} func54 [pI,pI,pI] [rB] (c3 aE)
abbrev aco:SD:=⟨B::DI::DI::B::B::B::DI::B::B::cP (ji bE)::DI::DI::bs 16 [],zs 28 [],.none⟩
def G65:=G54.q1 {mask:=mk [(2,[1,2,6,9,10,11])],merge:=mg [(4,25)]} func65 [pd (.sl bE),pI,pI] [rI] (c3 kE) aco (λX K=>mM (λy0=>ke 0 K aco ((z5 (u y0) X.1),X.2)) (λy0 y1=>kr K aco ((z2 (w y0 (z2 (u y1))) X.1),X.2)) X.1.1 X.1.2.1 (q2 X) (q3 X) (q4 X)) q5 (λX x=>((z5 (u x) X.1),X.2))
abbrev ach:SD:=⟨cP (ji bE)::B::DB::B::B::cP (ji bE)::DI::DI::bs 34 [],zs 42 [],.none⟩
def G51:=G65.q1 {mask:=mk [(2,[0,2,5,6,7])],merge:=mg [(4,37)]} func51 [pd (.sl bE)] [rB] (c1 oB) ach (λX K=>nQ (λy0=>ke 0 K ach ((z4 (u y0) X.1),X.2)) (λy0 y1=>kr K ach ((z1 (w y0 (z2 (u y1))) X.1),X.2)) X.1.1 X.1.2.1 (q2 X) (q3 X)) q4 (λX x=>((z4 (u x) X.1),X.2))
abbrev ack:SD:=⟨B::.ptr 1 0::DB::cP (dq 36864 .bool)::bs 22 (cP (ji (.int .i64))::DI::DI::bs 19 []),Z::(some Y14)::zs 46 [],.none⟩
def G56:=G51.q1 {mask:=mk [(5,[1,2,3,26,27,28])],merge:=mg [(1,21),(7,43)]} func56 [pf iq] [rB] (c1 iJ) ack (λX K=>ub (λy0 y1=>ke 0 K ack ((z1 (w y0 (z2 (u y1))) X.1),X.2)) (λy0 y1 y2=>kr K ack ((w y0 (w y1 (z2 (u y2))) X.1),X.2)) X.1.1 (q2 X) (q3 X) X.2.1.1) (λX=>(X.1.2.1,q4 X)) (λX x=>((z1 (w x.1 (z2 (u x.2))) X.1),X.2))
def alU:=G56.q0 {merge:=mg [(1,2)]} func203 [pI] [rB] (c1 rV)
def alu:=alU.q0 {} func163 [pI,pI] [rI] (c2 iK)
def alV:=alu.q0 {} func204 [pf ti] [rI] (c1 je)
def akI:=alV.q0 {merge:=mg [(1,2)]} func113 [pf ti] [rB] (c1 js)
def G49:=akI.q0 {} func49 [pd (.sl (.int .i64))] [(false,(.sl (.own none) (.int .i64)))] (c1 fS)
def akB:=G49.q0 {mv:=[7]} func105 [pf iq] [(true,Y9)] (c1 il)
def akM:=akB.q0 {merge:=mg [(3,21)],mv:=[10,24]} func117 [pf iq,pd (.sl (.int .i64))] [(true,Y9),rB] (c2 fQ)
abbrev aci:SD:=⟨B::.ptr 1 0::DB::DI::cP (dq 49152 (.int .i64))::bs 25 (cP (ji ir)::DI::DI::bs 35 []),Z::(some Y24)::zs 66 [],.none⟩
def G52:=akM.q1 {mask:=mk [(6,[1,2,3,4,30,31,32])],merge:=mg [(1,24),(8,50)],mv:=[55]} func52 [pf kJ] [rB] (c1 yq) aci (λX K=>uf (λy0 y1 y2=>ke 0 K aci ((z1 (w y0 (w y1 (z2 (u y2)))) X.1),X.2)) (λy0 y1 y2 y3=>kr K aci ((w y0 (w y1 (w y2 (z2 (u y3)))) X.1),X.2)) X.1.1 (q3 X) (q4 X) X.2.1.1) (λX=>(X.1.2.1,q2 X,q5 X)) (λX x=>((z1 (w x.1 (w x.2.1 (z2 (u x.2.2)))) X.1),X.2))
abbrev acj:SD:=⟨B::.ptr 1 0::DB::B::B::B::cP (ji (.int .i64))::DI::DI::bs 31 [],Z::(some Y25)::zs 38 [],.none⟩
def G53:=G52.q1 {mask:=mk [(2,[1,2,6,7,8])],merge:=mg [(4,29),(7,2)]} func53 [pf vF] [rB] (c1 rM) acj (λX K=>qH (λy0=>ke 0 K acj ((z3 (u y0) X.1),X.2)) (λy0 y1=>kr K acj ((w y0 (z2 (u y1)) X.1),X.2)) X.1.1 X.1.2.1 (q2 X) X.2.1.1) q3 (λX x=>((z3 (u x) X.1),X.2))
def akN:=G53.q0 {merge:=mg [(1,2)]} func118 [pf hH] [rB] (c1 nT)
def al1:=akN.q0 {merge:=mg [(1,18),(5,2),(7,2)]} func210 [pf Am] [rB] (c1 qp)
def al2:=al1.q0 {merge:=mg [(1,2)]} func211 [pI] [rB] (c1 qu)
def akO:=al2.q0 {merge:=mg [(1,2)]} func119 [pf cX] [rB] (c1 gw)
def G55:=akO.q0 {merge:=mg [(1,42),(5,2)]} func55 [pf dM] [rB] (c1 vj)
def akP:=G55.q0 {merge:=mg [(1,2)]} func120 [pf fG] [rB] (c1 AD)
def G57:=akP.q0 {merge:=mg [(1,24),(3,2)]} func57 [pf fG] [rB] (c1 mm)
def al3:=G57.q0 {merge:=mg [(1,33),(3,54),(5,2)]} func212 [pf iZ] [rB] (c1 zD)
abbrev UB:SD:=⟨cP (ji iZ)::B::DB::B::B::cP (ji iZ)::DI::DI::bs 10 [],zs 18 [],.none⟩
def akQ:=al3.q1 {mask:=mk [(2,[0,2,5,6,7])]} func121 [pd (.sl iZ)] [rB] (c1 xK) UB (λX K=>BZ (λy0=>ke 0 K UB ((z4 (u y0) X.1),X.2)) (λy0 y1=>kr K UB ((z1 (w y0 (z2 (u y1))) X.1),X.2)) X.1.1 X.1.2.1 (q2 X) (q3 X)) q4 (λX x=>((z4 (u x) X.1),X.2))
abbrev UR:SD:=⟨B::B::B::.ptr 3 0::DI::B::B::B::cP (ji gq)::DI::DI::bs 15 [],Z::Z::Z::(so (cY AU Y1))::zs 22 [],.none⟩
def al4:=akQ.q1 {mask:=mk [(2,[3,4,8,9,10])],merge:=mg [(4,23)]} func213 [pf (.sl gq),pf qf] [rI] (c2 wK) UR (λX K=>uo (λy0=>ke 0 K UR ((z3 (u y0) X.1),X.2)) (λy0 y1=>kr K UR ((w y0 (z2 (u y1)) X.1),X.2)) X.1.1 X.1.2.1 (q2 X) X.2.1.1) q3 (λX x=>((z3 (u x) X.1),X.2))
abbrev ab2:SD:=⟨B::B::B::DI::bs 12 (cP (dq 196608 (.int .i64))::DI::DI::bs 10 []),zs 29 [],.none⟩
def amL:=al4.q1 {mask:=mk [(3,[3,16,17,18])]} func268 [pf qf] [rI] (c1 vP) ab2 (λX K=>nb (λy0 y1=>ke 0 K ab2 ((w y0 (z2 (u y1)) X.1),X.2)) X.1.2.1 (q2 X)) (λX=>(X.1.1,q3 X)) (λX x=>((w x.1 (z2 (u x.2)) X.1),X.2))
abbrev abX:SD:=⟨B::.ptr 1 0::B::cP (dq 36864 (.int .i64))::DI::bs 14 [],Z::(so (cY AU Y1))::zs 17 [],.none⟩
def ag9:=amL.q1 {mask:=mk [(3,[1,3,4])],mv:=[10,18]} func214 [pf qf] [(false,(.sl (.own none) (.int .i64)))] (c1 Bp) abX (λX K=>rY (λy0 y1=>ke 0 K abX ((w y0 (u y1) X.1),X.2)) X.2.1.1) (λX=>(X.1.1,X.1.2.1)) (λX x=>((w x.1 (u x.2) X.1),X.2))
def aip:An:={mask:=mk [(4,[1,2,12,13,14]),(14,[1,2,3,12,13,14,49,50,51])],merge:=mg [(6,28),(9,40)]}
abbrev FF:SD:=⟨B::.ptr 1 0::DB::DI::bs 8 (cP (ji gq)::DI::DI::bs 34 (cP (dq 602112 (.int .i64))::DI::DI::bs 15 [])),Z::(so (ji gq))::zs 65 [],.none⟩
def Yl (X:SD.D FF)(K:vc R):=kB (λy0=>ke 2 K FF ((z7 (u y0) X.1),X.2)) (λy0 y1=>kr K FF ((w y0 (z6 (u y1)) X.1),X.2)) X.1.1 X.1.2.1 (q2 X) (q3 X) (q4 X) (q5 X) (q6 X) X.2.1.1
abbrev Kg:SD:=⟨B::.ptr 1 0::DB::bs 9 (cP (ji gq)::DI::DI::bs 52 []),Z::(so (ji gq))::zs 65 [],.none⟩
def aeo (X:SD.D Kg)(K:vc R):=sF (λy0=>ke 0 K Kg ((z3 (u y0) X.1),X.2)) (λy0 y1=>kr K Kg ((w y0 (z2 (u y1)) X.1),X.2)) X.1.1 X.1.2.1 (q2 X) X.2.1.1
def aja:lB:=(lB.nil.add 14 (yP FF Yl q7)).add 4 (yP Kg aeo q3)
theorem afH:xA E ag9.g aip aja (cL f122 1):=lk FF Yl q7 λX x=>((z7 (u x) X.1),X.2)
theorem ah2:xA E ag9.g aip aja (cL f122 0):=lk Kg aeo q3 λX x=>((z3 (u x) X.1),X.2)
def akR:=ag9.qk aip func122 [pf (.sl gq)] [rB] (c1 qS) (cF ah2 (cF afH nF))
def al5:=akR.q0 {merge:=mg [(1,2)]} func215 [pI] [rB] (c1 CP)
abbrev UC:SD:=⟨B::DI::B::B::DB::bs 19 (cP (ji (.int .i64))::DI::DI::bs 9 []),zs 36 [],.none⟩
def ag7:=al5.q1 {mask:=mk [(4,[1,4,24,25,26])],merge:=mg [(1,22)]} func123 [pf Dl,pI] [rB] (c2 vV) UC (λX K=>AB (λy0=>ke 0 K UC ((z4 (u y0) X.1),X.2)) (λy0 y1=>kr K UC ((z1 (w y0 (z2 (u y1))) X.1),X.2)) X.1.1 X.1.2.1 (q2 X) (q3 X)) q4 (λX x=>((z4 (u x) X.1),X.2))
def n58:An:={mask:=mk [(4,[1,2,4,27,28,29]),(10,[1,4,45,46,47])],merge:=mg [(1,25),(6,41),(12,59)]}
abbrev Rb:SD:=⟨B::DI::.ptr 2 0::B::DB::bs 22 (cP (ji iZ)::DI::DI::bs 31 []),Z::Z::(some Y18)::zs 58 [],.none⟩
def agY (X:SD.D Rb)(K:vc R):=nV (λy0=>ke 0 K Rb ((z4 (u y0) X.1),X.2)) (λy0 y1=>kr K Rb ((z1 (w y0 (z2 (u y1))) X.1),X.2)) X.1.1 X.1.2.1 (q2 X) (q3 X) X.2.1.1
abbrev Kl:SD:=⟨B::DI::B::B::DB::bs 40 (cP (ji gq)::DI::DI::bs 13 []),zs 61 [],.none⟩
def aeF (X:SD.D Kl)(K:vc R):=mI (λy0=>ke 2 K Kl ((z4 (u y0) X.1),X.2)) (λy0 y1=>kr K Kl ((z1 (w y0 (z2 (u y1))) X.1),X.2)) X.1.1 X.1.2.1 (q2 X) (q3 X)
def L58:lB:=(lB.nil.add 4 (yP Rb agY q4)).add 10 (yP Kl aeF q4)
theorem akf:xA E ag7.g n58 L58 (cL f58 0):=lk Rb agY q4 λX x=>((z4 (u x) X.1),X.2)
theorem aik:xA E ag7.g n58 L58 (cL f58 1):=lk Kl aeF q4 λX x=>((z4 (u x) X.1),X.2)
def G58:=ag7.qk n58 func58 [pf oV,pI] [rB] (c2 oD) (cF akf (cF aik nF))
def n14:An:={mask:=mk [(5,[1,2,3,61,62]),(12,[1,2,3,103,104,105])],merge:=mg [(2,58),(7,89)]}
abbrev Q9:SD:=⟨B::.ptr 1 0::DB::DI::bs 57 (DI::DI::bs 54 []),Z::(some Y4)::zs 115 [],.none⟩
def agT (X:SD.D Q9)(K:vc R):=tX (λy0=>ke 0 K Q9 ((z3 (u y0) X.1),X.2)) (λy0 y1=>kr K Q9 ((w y0 (z2 (u y1)) X.1),X.2)) X.1.1 X.1.2.1 (q2 X) X.2.1.1
abbrev Kh:SD:=⟨B::.ptr 1 0::DB::DI::bs 99 (cP (dq 1265664 (.int .i64))::DI::DI::bs 11 []),Z::(some Y4)::zs 115 [],.none⟩
def aep (X:SD.D Kh)(K:vc R):=sA (λy0=>ke 2 K Kh ((z4 (u y0) X.1),X.2)) (λy0 y1=>kr K Kh ((w y0 (z3 (u y1)) X.1),X.2)) X.1.1 X.1.2.1 (q2 X) (q3 X) X.2.1.1
def L14:lB:=(lB.nil.add 5 (yP Q9 agT q3)).add 12 (yP Kh aep q4)
theorem aka:xA E G58.g n14 L14 (cL f14 0):=lk Q9 agT q3 λX x=>((z3 (u x) X.1),X.2)
theorem ah3:xA E G58.g n14 L14 (cL f14 1):=lk Kh aep q4 λX x=>((z4 (u x) X.1),X.2)
def G14:=G58.qk n14 func14 [pf dD] [rB] (c1 fB) (cF aka (cF ah3 nF))
def akF:=G14.q0 {} func109 [pd (.sl .str)] [(false,(.sl (.own none) .str))] (c1 kD)
def G59:=akF.q0 {} func59 [pf (.sl .str)] [(true,(.sl (.own none) .str))] (c1 db)
def akz:=G59.q0 {} func103 [pd (.sl bE)] [(false,(.sl (.own none) bE))] (c1 uh)
abbrev abT:SD:=⟨B::B::B::cP (dq 36864 ir)::B::B::B::cP (ji ir)::DI::DI::bs 16 [],zs 26 [],.none⟩
def alN:=akz.q1 {mask:=mk [(3,[3,7,8,9])],mv:=[13,25]} func196 [pd (.sl ir)] [(false,(.sl (.own none) ir))] (c1 rU) abT (λX K=>qY (λy0 y1=>ke 0 K abT ((w y0 (z2 (u y1)) X.1),X.2)) X.1.2.1 (q2 X)) (λX=>(X.1.1,q3 X)) (λX x=>((w x.1 (z2 (u x.2)) X.1),X.2))
def akA:=alN.q0 {sb:=mg [(2,2)]} func104 [pf kJ] [(true,Y17)] (c1 qq)
def akC:=akA.q0 {mv:=[7]} func106 [pf vF] [(true,Y23)] (c1 sH)
def alO:=akC.q0 {} func197 [pf (.sl gq)] [(true,(.sl (.own none) gq))] (c1 ui)
def alP:=alO.q0 {sb:=mg [(2,2)]} func198 [pf Dl] [(true,(.pair .str (.sl (.own none) (.int .i64))))] (c1 sI)
def akD:=alP.q0 {sb:=mg [(2,2)]} func107 [pf oV] [(true,Y19)] (c1 pO)
def akE:=akD.q0 {} func108 [pd (.sl dL)] [(false,(.sl (.own none) dL))] (c1 kC)
abbrev agx:SD:=⟨B::.ptr 1 0::.ptr 2 0::.ptr 3 0::bs 23 (cP (ji iq)::DI::DI::bs 46 []),Z::(some Y4)::(some Y2)::(so (cY (dq 36865 .str) (cY (dq 36868 bE) (cY (cY Y1 (cY (jX (jX (jX (dq 36892 (.int .i64))))) (cY (dq 36895 ir) AU))) (cY (dq 36901 dM) (cY (dq 36904 iq) (cY (ji fG) (cY (ji .bool) (cY Y25 (cY Y18 (cY (ji dL) (cY .bool (cY (ji .str) (cY (ji (.int .i64)) (cY (ji (.int .i64)) (cY AU Y1))))))))))))))))::zs 72 [],.none⟩
def G41:=akE.q1 {mask:=mk [(8,[1,2,3,27,28,29])],mv:=[34,75],mb:=mg [(34,3)],sb:=mg [(39,3)]} func41 [pf dD] [(true,Y0)] (c1 gn) agx (λX K=>qX (λy0 y1=>ke 0 K agx ((z2 (u y0) X.1),(z2 (u y1) X.2.1),X.2.2)) X.1.1 X.1.2.1 X.2.1.1 X.2.1.2.1) (λX=>(q2 X,X.2.1.2.2.1)) (λX x=>((z2 (u x.1) X.1),(z2 (u x.2) X.2.1),X.2.2))
def alW:=G41.q0 {merge:=mg [(1,2)]} func205 [pf nH] [rB] (c1 wF)
def alX:=alW.q0 {} func206 [pI] [rS] (c1 bX)
def alY:=alX.q0 {} func207 [pI] [rS] (c1 gi)
def akJ:=alY.q0 {} func114 [pf nH] [rS] (c1 lx)
def akK:=akJ.q0 {merge:=mg [(1,15)]} func115 [pf iq,pI] [rI] (c2 fN)
def alw:=akK.q0 {} func166 [pf ti] [rI] (c1 rR)
def amJ:=alw.q0 {merge:=mg [(4,29)]} func266 [pd (.sl bE),pI,pI,pd .bool] [rI] (c4 Bo)
def amK:=amJ.q0 {merge:=mg [(2,6)]} func267 [pf (.sl .str),pI,pI] [rB] (c3 tw)
abbrev UQ:SD:=⟨cP (ji bE)::B::DI::DI::DI::DB::B::.ptr 7 0::bs 4 (cP (dq 147456 iO)::DB::cP (dq 172032 iO)::bs 60 []),zs 7 ((so (ji .str))::zs 67 []),.none⟩
def alS:=amK.q1 {mask:=mk [(8,[0,2,3,4,5,7,12,13,14])],merge:=mg [(1,29),(11,55),(16,73)],mv:=[56,74]} func201 [pd (.sl bE),pf (.sl .str),pI,pI,pI,pd .bool] [(false,(.sl (.own none) iO)),rB] (c6 wJ) UQ (λX K=>qs (λy0 y1 y2=>ke 0 K UQ ((z2 (w y0 (w y1 (z3 (u y2)))) X.1),X.2)) (λy0 y1 y2 y3 y4=>kr K UQ ((z2 (w y0 (w y1 (z1 (w y2 (w y3 (u y4)))))) X.1),X.2)) X.1.1 X.1.2.1 (q4 X) (q5 X) (q6 X) X.2.1.1) (λX=>(q2 X,q3 X,q7 X)) (λX x=>((z2 (w x.1 (w x.2.1 (z3 (u x.2.2)))) X.1),X.2))
abbrev abV:SD:=⟨B::DI::cP .str::B::B::B::.ptr 6 0::B::.ptr 8 0::bs 41 [],zs 6 ((so (dq 73729 .str))::Z::(so (dq 98305 .str))::zs 41 []),.none⟩
def alT:=alS.q1 {mask:=mk [(4,[1,2,6,8])],nest:=[33],mv:=[19,49]} func202 [pf (.sl .str),pI,pd .str] [(true,(.sl (.own none) .str)),rB] (c3 qV) abV (λX K=>mL (λy0 y1 y2=>ke 0 K abV ((w y0 (u y1) X.1),(z1 (u y2) X.2.1),X.2.2)) X.2.1.1) (λX=>(X.1.1,X.1.2.1,X.2.1.2.1)) (λX x=>((w x.1 (u x.2.1) X.1),(z1 (u x.2.2) X.2.1),X.2.2))
abbrev abO:SD:=⟨bs 4 (cP .str::bs 7 (.ptr 12 0::B::.ptr 14 0::bs 20 (cP (.sl .loc iO)::DI::DI::bs 20 []))),zs 12 ((so (dq 147457 .str))::Z::(so (dq 172033 .str))::zs 43 []),.none⟩
def akH:=alT.q1 {mask:=mk [(6,[4,12,14,35,36,37])],mv:=[34,41,50,57],sb:=mg [(14,14)]} func112 [pd (.sl bE),pf (.sl .str),pI,pI,pd .str,pd .bool] [(true,(.sl (.own none) .str)),rB] (c6 CO) abO (λX K=>wI (λy0 y1 y2=>ke 0 K abO ((w y0 (z2 (u y1)) X.1),(z1 (u y2) X.2.1),X.2.2)) X.1.2.1 (q2 X) X.2.1.1) (λX=>(X.1.1,q3 X,X.2.1.2.1)) (λX x=>((w x.1 (z2 (u x.2.1)) X.1),(z1 (u x.2.2) X.2.1),X.2.2))
def alZ:=akH.q0 {} func208 [pd (.sl bE),pf (.sl .str),pI,pI,pd .str] [(true,(.sl (.own none) .str)),rB] (c5 pb)
def al0:=alZ.q0 {merge:=mg [(1,11)]} func209 [pf ti,pI] [rI] (c2 nf)
def akL:=al0.q0 {merge:=mg [(1,22)],mv:=[26,36,40,50],mb:=mg [(40,13),(50,13)],sb:=mg [(10,10),(11,11),(13,13)]} func116 [pd (.sl bE),pf (.sl .str),pI,pf ti,pd .str] [(true,(.sl (.own none) .str)),(true,Y1),rB] (c5 ud)
abbrev agz:SD:=⟨cP (ji bE)::B::DI::bs 5 (.ptr 8 0::.ptr 9 0::.ptr 10 0::.ptr 11 0::.ptr 12 0::B::.ptr 14 0::.ptr 15 0::DI::bs 22 (cP (ji (.int .i64))::DI::DI::bs 38 [])),zs 8 ((some Y1)::(some Y14)::(so (dq 122881 .str))::(some Y1)::(some Y27)::Z::(so (dq 172033 .str))::(some Y26)::zs 64 []),.none⟩
def G48:=akL.q1 {mask:=mk [(6,[0,2,8,9,10,11,12,14,15,16,39,40,41])],merge:=mg [(2,34)],mv:=[35,37,53,65,76,78],mb:=mg [(35,14),(37,15),(65,20),(76,14),(78,15)],sb:=mg [(8,8),(10,10),(11,11),(12,12),(14,14),(15,15)]} func48 [pd (.sl bE),pf (.sl .str),pI,pf ti,pf iq] [(true,(.sl (.own none) .str)),(true,Y1),(true,Y9),rI] (c5 ik) agz (λX K=>mY (λy0 y1 y2 y3=>ke 0 K agz ((z2 (w y0 (z2 (u y1))) X.1),(w y2 (z4 (u y3)) X.2.1),X.2.2)) X.1.1 X.1.2.1 (q3 X) (q4 X) X.2.1.2.1 X.2.1.2.2.1 X.2.1.2.2.2.1 X.2.1.2.2.2.2.1 X.2.1.2.2.2.2.2.2.1) (λX=>(q2 X,q5 X,X.2.1.1,X.2.1.2.2.2.2.2.1)) (λX x=>((z2 (w x.1 (z2 (u x.2.1))) X.1),(w x.2.2.1 (z4 (u x.2.2.2)) X.2.1),X.2.2))
abbrev ab1:SD:=⟨B::DI::DI::.ptr 3 0::bs 4 (cP (dq 98304 (.int .u8))::bs 41 []),Z::Z::Z::(so (ji .str))::zs 46 [],.none⟩
def amI:=G48.q1 {mask:=mk [(4,[1,2,3,8])],mv:=[41]} func265 [pf (.sl .str),pI,pI] [rS,rB] (c3 oC) ab1 (λX K=>kO (λy0 y1=>ke 0 K ab1 ((w y0 (z1 (u y1)) X.1),X.2)) X.1.2.1 X.2.1.1) (λX=>(X.1.1,q2 X)) (λX x=>((w x.1 (z1 (u x.2)) X.1),X.2))
abbrev abU:SD:=⟨bs 6 (.ptr 6 0::bs 7 (cP .str::bs 15 (cP (.sl .loc iO)::DI::DI::bs 17 []))),zs 6 ((so (ji .str))::zs 43 []),.none⟩
def alQ:=amI.q1 {mask:=mk [(6,[6,14,30,31,32])]} func199 [pd (.sl bE),pf (.sl .str),pI,pI,pI] [rS,rB] (c5 nO) abU (λX K=>sy (λy0 y1=>ke 0 K abU ((w y0 (z2 (u y1)) X.1),X.2)) X.1.2.1 (q2 X) X.2.1.1) (λX=>(X.1.1,q3 X)) (λX x=>((w x.1 (z2 (u x.2)) X.1),X.2))
def ame:=alQ.q0 {} func224 [pf hH] [rI] (c1 nh)
def amS:=ame.q0 {merge:=mg [(1,13)]} func277 [pd .str,pI] [rI] (c2 eY)
def amT:=amS.q0 {merge:=mg [(1,13)]} func278 [pd .str,pI] [rI] (c2 ix)
def amf:=amT.q0 {} func225 [pd .str] [(true,(.pair (.int .i64) Y1)),rI,rB] (c1 kX)
def amg:=amf.q0 {} func226 [pf hH] [rI] (c1 uk)
def ala:=amg.q0 {merge:=mg [(7,46)],sb:=mg [(8,8),(9,9)]} func143 [pd (.sl bE),pf (.sl .str),pI,pf hH] [(true,(.pair (.int .i64) Y1)),(true,Y20),rB] (c4 mH)
def amX:=ala.q0 {merge:=mg [(1,2)]} func282 [pf abv] [rB] (c1 yM)
def amp:=amX.q0 {merge:=mg [(4,33)],sb:=mg [(4,4)]} func236 [pd .str] [(true,Y15),rB] (c1 rP)
def amx:=amp.q0 {merge:=mg [(1,17)]} func244 [pd .str,pI,pd .str] [rS] (c3 fJ)
def anH:=amx.q0 {merge:=mg [(1,12)]} func335 [pI,pI] [rI] (c2 xF)
abbrev ace:SD:=⟨cP .str::B::B::DI::DI::bs 28 [],zs 33 [],.none⟩
def anA:=anH.q1 {mask:=mk [(3,[0,3,4])]} func326 [pd .str] [rI] (c1 vW) ace (λX K=>qR (λy0 y1=>ke 0 K ace ((z1 (w y0 (u y1)) X.1),X.2)) X.1.1) (λX=>(X.1.2.1,q2 X)) (λX x=>((z1 (w x.1 (u x.2)) X.1),X.2))
def ank:=anA.q0 {} func309 [pd .str] [rI] (c1 jd)
def anC:=ank.q0 {merge:=mg [(1,2)]} func328 [pf TIp] [rB] (c1 HE)
def ano:=anC.q0 {} func313 [pf TIp] [rS,rB] (c1 vS)
def amY:=ano.q0 {} func283 [pf TIp] [rS,rB] (c1 tS)
def amq:=amY.q0 {merge:=mg [(2,22),(6,56)],sb:=mg [(5,5)]} func237 [pd .str] [(true,Y21),rB] (c1 xJ)
def am3:=amq.q0 {} func288 [pI] [rI] (c1 ft)
def anj:=am3.q0 {merge:=mg [(1,27)]} func308 [pI,pI,pI,pI] [rS,rB] (c4 pL)
def anp:=anj.q0 {} func314 [pf Am] [rS] (c1 qW)
def amZ:=anp.q0 {merge:=mg [(8,39)]} func284 [pI,pI,pf Am] [rS,rB] (c3 jy)
def amr:=amZ.q0 {merge:=mg [(3,20),(9,44),(12,68)]} func238 [pI,pI,pI,pd .str] [(true,(.pair (.int .i64) Y21)),rB] (c4 pK)
def alj:=amr.q0 {merge:=mg [(2,20)]} func154 [pd .str] [(true,Y3),rI] (c1 iy)
abbrev UJ:SD:=⟨B::B::B::.ptr 3 0::DI::B::B::cP (ji dL)::DI::DI::bs 10 [],Z::Z::Z::(so (cY AU Y1))::zs 16 [],.none⟩
def alb:=alj.q1 {mask:=mk [(2,[3,4,7,8,9])]} func144 [pd (.sl dL),pf qf] [rI] (c2 qQ) UJ (λX K=>mJ (λy0=>ke 0 K UJ ((z3 (u y0) X.1),X.2)) (λy0 y1=>kr K UJ ((w y0 (z2 (u y1)) X.1),X.2)) X.1.1 X.1.2.1 (q2 X) X.2.1.1) q3 (λX x=>((z3 (u x) X.1),X.2))
def alo:=alb.q0 {} func158 [pf cX] [(true,(.pair (.int .i64) Y1))] (c1 tt)
def alR:=alo.q0 {merge:=mg [(17,82)],mv:=[16,31,51,58,67,83,132],er:=mg [(115,5)]} func200 [pd (.sl dL),pf cX] [(false,(.sl (.own none) dL))] (c2 xG)
abbrev abM:SD:=⟨cP (ji bE)::B::DI::B::B::B::DI::B::B::B::.ptr 10 0::B::B::B::.ptr 14 0::.ptr 15 0::.ptr 16 0::B::B::.ptr 19 0::.ptr 20 0::cP (dq 258048 dL)::DI::bs 99 [],zs 10 ((some Y10)::Z::Z::Z::(so (dq 172033 .str))::(some Y10)::(so (jX (jX (jX (dq 196618 (.int .i64))))))::Z::Z::(so (dq 233473 .str))::(so (jX (jX (jX (dq 245770 (.int .i64))))))::zs 101 []),.none⟩
def aiX:=alR.q1 {mask:=mk [(5,[0,2,6,10,14,15,16,19,20,21,22])],merge:=mg [(2,48)],mv:=[49,51,52,96,104,117,119,120],mb:=mg [(49,19),(51,20),(117,19),(119,20)],sb:=mg [(14,14),(15,15),(16,16),(19,19),(20,20)]} func110 [pd (.sl bE),pf (.sl .str),pI,pf dM,pf iq,pd (.sl dL),pI] [(true,(.sl (.own none) .str)),(true,Y10),(true,Y9),(false,(.sl (.own none) dL)),rI] (c7 ua) abM (λX K=>lM (λy0 y1 y2 y3=>ke 0 K abM ((z3 (w y0 (u y1)) X.1),(w y2 (z4 (u y3)) X.2.1),X.2.2)) X.1.1 X.1.2.1 (q2 X) X.2.1.2.1 X.2.1.2.2.1 X.2.1.2.2.2.1 X.2.1.2.2.2.2.1) (λX=>(q3 X,q4 X,X.2.1.1,X.2.1.2.2.2.2.2.1)) (λX x=>((z3 (w x.1 (u x.2.1)) X.1),(w x.2.2.1 (z4 (u x.2.2.2)) X.2.1),X.2.2))
def e42:jj:=jn (.pair (.sl (.own none) .str) (.pair (.sl (.own none) bE) (.pair (.pair (.pair (.int .i64) (.pair (.int .i64) (.pair (.int .i64) (.int .i64)))) (.pair (.pair (.int .i64) (.pair (.int .i64) (.pair (.int .i64) (.sl (.own none) (.int .i64))))) (.pair (.sl (.own none) ir) (.int .i64)))) (.pair (.sl (.own none) dM) (.pair (.sl (.own none) iq) (.pair (.sl (.own none) fG) (.pair (.sl (.own none) .bool) (.pair (.pair (.int .i64) (.pair .bool (.sl (.own none) (.int .i64)))) (.pair (.pair (.sl (.own none) iZ) (.pair (.sl (.own none) gq) (.pair .str (.sl (.own none) (.int .i64))))) (.pair (.sl (.own none) dL) (.pair .bool (.pair (.sl (.own none) .str) (.pair (.sl (.own none) (.int .i64)) (.pair (.sl (.own none) (.int .i64)) (.pair (.int .i64) (.pair (.int .i64) (.pair (.int .i64) (.pair (.int .i64) (.int .i64))))))))))))))))))) [pI,pI] [rI] λx a=>ku x a.1 a.2.1
theorem o42:D3 42 e42:=gM.pR (pB (an:={mv:=[8,49,51,52],sb:=mg [(55,0),(59,0)],fm:=[19,20],eb:=mg [(56,0),(57,0)]}) (Λ:=lB.nil) (aiX.s) func42 (by kernel_rfl) (ao nF)) (λx a=>by kernel_rfl)
def G42:=aiX.add o42
abbrev abN:SD:=⟨B::B::DI::B::B::B::.ptr 6 0::B::.ptr 8 0::DI::bs 20 [],zs 6 ((some Y29)::Z::(some Y28)::zs 21 []),.none⟩
def akG:=G42.q1 {mask:=mk [(5,[2,6,8,9])],mv:=[24,29]} func111 [pI,pI,pI] [(true,Y9),rB] (c3 tZ) abN (λX K=>sB (λy0 y1=>ke 0 K abN ((z1 (u y0) X.1),(z1 (u y1) X.2.1),X.2.2)) X.1.1 X.2.1.1) (λX=>(X.1.2.1,X.2.1.2.1)) (λX x=>((z1 (u x.1) X.1),(z1 (u x.2) X.2.1),X.2.2))
def G43:=akG.q0 {mv:=[3,8]} func43 [] [(true,Y17)] (λa=>Bn)
def G44:=G43.q0 {} func44 [pd (.sl bE),pf (.sl .str),pI,pI,pd .str] [(true,(.sl (.own none) .str)),rB] (c5 jr)
def G45:=G44.q0 {} func45 [pI] [rI] (c1 qt)
abbrev agy:SD:=⟨cP (.int .u8)::bs 4 (cP (dq 61440 (.int .u8))::bs 4 (DI::DI::bs 9 [])),zs 21 [],.none⟩
def G46:=G45.q1 {mask:=mk [(3,[0,5,10,11])]} func46 [pd (.int .u8),pI] [rS] (c2 nJ) agy (λX K=>um (λy0 y1=>ke 0 K agy ((z1 (w y0 (z1 (u y1))) X.1),X.2)) X.1.1 (q2 X)) (λX=>(X.1.2.1,q3 X)) (λX x=>((z1 (w x.1 (z1 (u x.2))) X.1),X.2))
def G47:=G46.q0 {mv:=[10,24],mb:=mg [(24,5)],sb:=mg [(2,2),(3,3)]} func47 [pI] [(true,Y10),(true,Y9)] (c1 vk)
def n11:An:={mask:=mk [(5,[2,3,21,22]),(10,[2,3,30,31,32]),(18,[2,3,54,55])],mv:=[18,37,88,98,121,142],sb:=mg [(90,3)]}
abbrev Xs:SD:=⟨B::B::.ptr 2 0::.ptr 3 0::bs 17 (DI::DI::bs 120 []),Z::Z::(some Y2)::(some Y6)::zs 139 [],.none⟩
def agS (X:SD.D Xs)(K:vc R):=pG (λy0 y1=>ke 0 K Xs ((z1 (u y0) X.1),(z1 (u y1) X.2.1),X.2.2)) X.1.1 X.2.1.1
abbrev OX:SD:=⟨B::B::.ptr 2 0::.ptr 3 0::bs 26 (cP (.sl .loc ir)::DI::DI::bs 110 []),Z::Z::(some Y2)::(some Y6)::zs 139 [],.none⟩
def aem (X:SD.D OX)(K:vc R):=nP (λy0 y1=>ke 2 K OX ((z2 (u y0) X.1),(z1 (u y1) X.2.1),X.2.2)) X.1.1 X.1.2.1 X.2.1.1
abbrev OY:SD:=⟨B::B::.ptr 2 0::.ptr 3 0::bs 50 (DI::DI::bs 87 []),Z::Z::(some Y2)::(some Y6)::zs 139 [],.none⟩
def aen (X:SD.D OY)(K:vc R):=kN (λy0 y1=>ke 4 K OY ((z1 (u y0) X.1),(z1 (u y1) X.2.1),X.2.2)) X.1.1 X.2.1.1
def L11:lB:=((lB.nil.add 5 (yP Xs agS (λX=>(X.1.2.1,X.2.1.2.1)))).add 10 (yP OX aem (λX=>(q2 X,X.2.1.2.1)))).add 18 (yP OY aen (λX=>(X.1.2.1,X.2.1.2.1)))
theorem aj9:xA E G47.g n11 L11 (cL f11 0):=lk Xs agS (λX=>(X.1.2.1,X.2.1.2.1)) λX x=>((z1 (u x.1) X.1),(z1 (u x.2) X.2.1),X.2.2)
theorem ah0:xA E G47.g n11 L11 (cL f11 1):=lk OX aem (λX=>(q2 X,X.2.1.2.1)) λX x=>((z2 (u x.1) X.1),(z1 (u x.2) X.2.1),X.2.2)
theorem ah1:xA E G47.g n11 L11 (cL f11 2):=lk OY aen (λX=>(X.1.2.1,X.2.1.2.1)) λX x=>((z1 (u x.1) X.1),(z1 (u x.2) X.2.1),X.2.2)
def G11:=G47.qk n11 func11 [pf dD] [(true,Y0)] (c1 qo) (cF aj9 (cF ah0 (cF ah1 nF)))
def aix:An:={mask:=mk [(3,[0,3,4]),(7,[0,3,4,5])]}
abbrev Pa:SD:=⟨cP .str::B::B::cP (.int .u32)::DI::DI::bs 28 [],zs 34 [],.none⟩
def aeE (X:SD.D Pa)(K:vc R):=pa (λy0 y1=>ke 2 K Pa ((z1 (w y0 (z1 (u y1))) X.1),X.2)) X.1.1 (q2 X)
abbrev O9:SD:=⟨cP .str::B::B::cP (.int .u32)::DI::bs 29 [],zs 34 [],.none⟩
def aeD (X:SD.D O9)(K:vc R):=rL (λy0 y1=>ke 0 K O9 ((z1 (w y0 (u y1)) X.1),X.2)) X.1.1
def ajj:lB:=(lB.nil.add 7 (yP Pa aeE (λX=>(X.1.2.1,q3 X)))).add 3 (yP O9 aeD (λX=>(X.1.2.1,q2 X)))
theorem aij:xA E G11.g aix ajj (cL f281 1):=lk Pa aeE (λX=>(X.1.2.1,q3 X)) λX x=>((z1 (w x.1 (z1 (u x.2))) X.1),X.2)
theorem aii:xA E G11.g aix ajj (cL f281 0):=lk O9 aeD (λX=>(X.1.2.1,q2 X)) λX x=>((z1 (w x.1 (u x.2)) X.1),X.2)
def amW:=G11.qk aix func281 [pd .str] [rI] (c1 Bl) (cF aii (cF aij nF))
def amo:=amW.q0 {} func235 [pd .str] [rS] (c1 ug)
def ali:=amo.q0 {merge:=mg [(2,17)]} func153 [pd .str] [rS,rB] (c1 vK)
def alk:=ali.q0 {merge:=mg [(1,2)]} func155 [pf cX] [rB] (c1 mi)
def G78:=alk.q0 {} func78 [pd .str] [(true,Y3),rI] (c1 uc)
abbrev acm:SD:=⟨B::DI::B::B::DB::B::B::cP (ji (.int .i64))::DI::DI::bs 7 [],zs 17 [],.none⟩
def G61:=G78.q1 {mask:=mk [(2,[1,4,7,8,9])]} func61 [pd (.sl (.int .i64)),pI] [rB] (c2 tu) acm (λX K=>uj (λy0=>ke 0 K acm ((z4 (u y0) X.1),X.2)) (λy0 y1=>kr K acm ((z1 (w y0 (z2 (u y1))) X.1),X.2)) X.1.1 X.1.2.1 (q2 X) (q3 X)) q4 (λX x=>((z4 (u x) X.1),X.2))
def G79:=G61.q0 {merge:=mg [(1,4)]} func79 [pf vF,pf cX] [rB] (c2 xE)
def am0:=G79.q0 {} func285 [pI,pI,pI] [rB] (c3 oE)
def ams:=am0.q0 {merge:=mg [(1,4)]} func239 [pf iZ,pf cX] [rB] (c2 qN)
abbrev abQ:SD:=⟨cP (ji iZ)::B::B::.ptr 3 0::B::DI::bs 5 (cP (ji iZ)::DI::DI::bs 24 []),Z::Z::Z::(some Y3)::zs 34 [],.none⟩
def alm:=ams.q1 {mask:=mk [(5,[0,3,5,11,12,13])],merge:=mg [(7,34)]} func156 [pd (.sl iZ),pf cX] [rI] (c2 vN) abQ (λX K=>qI (λy0 y1=>ke 0 K abQ ((z1 (w y0 (z2 (u y1))) X.1),X.2)) X.1.1 (q2 X) (q3 X) X.2.1.1) (λX=>(X.1.2.1,q4 X)) (λX x=>((z1 (w x.1 (z2 (u x.2))) X.1),X.2))
def aln:=alm.q0 {} func157 [pf (.sl gq),pf qf] [rI] (c2 vM)
def anx:=aln.q0 {} func324 [pd .str,pI] [rI] (c2 wH)
abbrev acd:SD:=⟨cP .str::DI::B::B::B::DI::DI::bs 22 [],zs 29 [],.none⟩
def anz:=anx.q1 {mask:=mk [(5,[0,1,5,6])],merge:=mg [(1,14)]} func325 [pd .str,pI] [rI] (c2 tY) acd (λX K=>pJ (λy0 y1=>ke 0 K acd ((z2 (w y0 (u y1)) X.1),X.2)) X.1.1 X.1.2.1) (λX=>(q2 X,q3 X)) (λX x=>((z2 (w x.1 (u x.2)) X.1),X.2))
abbrev ab8:SD:=⟨cP .str::cP .str::B::B::B::DI::DI::bs 25 [],zs 32 [],.none⟩
def anf:=anz.q1 {mask:=mk [(5,[0,1,5,6])],merge:=mg [(1,14)]} func304 [pd .str,pd .str] [rI] (c2 tU) ab8 (λX K=>pE (λy0 y1=>ke 0 K ab8 ((z2 (w y0 (u y1)) X.1),X.2)) X.1.1 X.1.2.1) (λX=>(q2 X,q3 X)) (λX x=>((z2 (w x.1 (u x.2)) X.1),X.2))
def ang:=anf.q0 {} func305 [pf qf] [rS] (c1 tV)
def amN:=ang.q0 {} func270 [pd .str,pf qf] [rI] (c2 rN)
def amt:=amN.q0 {merge:=mg [(2,17)]} func240 [pf Dl,pf qf] [rI] (c2 xH)
def alp:=amt.q0 {merge:=mg [(2,18)]} func159 [pf Dl,pI,pf qf] [rI] (c3 qO)
def G80:=alp.q0 {merge:=mg [(1,17)]} func80 [pf oV,pI,pf cX] [rI] (c3 qP)
def ama:=G80.q0 {merge:=mg [(1,20)],sb:=mg [(9,9)]} func220 [pd (.sl bE),pf (.sl .str),pI,pf ti] [rS,(true,Y1),rB] (c4 rT)
def anq:=ama.q0 {} func315 [pI] [rS] (c1 vX)
def am1:=anq.q0 {} func286 [pf abv] [rS,rB] (c1 vJ)
def am2:=am1.q0 {} func287 [pd .str] [rS] (c1 xI)
def amv:=am2.q0 {} func242 [pf cX] [rS,rB] (c1 gT)
def amM:=amv.q0 {sb:=mg [(4,4)]} func269 [pd .str] [(true,(.pair (.int .i64) (.pair (.int .i64) Y1))),rB] (c1 oA)
def anh:=amM.q0 {merge:=mg [(1,2)]} func306 [pf qf] [rB] (c1 lK)
def ani:=anh.q0 {merge:=mg [(1,12)]} func307 [pf qf,pI] [rS] (c2 kY)
def ai6:=ani.q0 {merge:=mg [(1,22)],mv:=[26,37,41,51],mb:=mg [(41,13),(51,13)],sb:=mg [(10,10),(11,11),(13,13)]} func271 [pd (.sl bE),pf (.sl .str),pI,pf hH,pf qf] [(true,(.sl (.own none) .str)),(true,Y20),rB] (c5 nS)
def anX:jj:=zY [pd (.sl bE),pf (.sl .str),pI,pf dM,pd .str,pd .str] [(true,(.sl (.own none) .str)),(true,Y20),rB] [(true,(.sl .arg .str)),(true,Y20),rB] rfl λa=>uq a.1 a.2.1 a.2.2.1 a.2.2.2.1 a.2.2.2.2.1 a.2.2.2.2.2.1
theorem aoP:D3 221 anX:=gM.ofAlt (Rz (an:={merge:=mg [(3,50)],sb:=mg [(12,12),(13,13),(20,20)]}) (Λ:=lB.nil) (by rfl) (ai6.s) func221 (by kernel_rfl) (ao nF)) (λa=>by kernel_rfl)
def amb:=ai6.add aoP
def ak4:=amb.q0 {merge:=mg [(1,31)],mv:=[52,66],mb:=mg [(66,16)],sb:=mg [(10,10),(11,11)]} func137 [pd (.sl bE),pf (.sl .str),pI,pf dM,pd .str] [(true,(.sl (.own none) .str)),(true,Y10)] (c5 mZ)
def amu:=ak4.q0 {} func241 [pf cX,pf cX] [rB] (c2 vT)
def alq:=amu.q0 {merge:=mg [(1,42),(4,76),(6,4)]} func160 [pf OG,pf cX] [rB] (c2 tT)
def alr:=alq.q0 {} func161 [pf OG,pf cX] [(true,(.pair Y3 (.pair (.int .i64) (.int .i64))))] (c2 DH)
def als:=alr.q0 {} func162 [pf cX] [(true,(.pair Y3 (.pair (.int .i64) (.int .i64))))] (c1 CN)
def G81:=als.q0 {merge:=mg [(1,30),(3,44)],mv:=[53,68,77],mb:=mg [(77,16)],sb:=mg [(14,14),(15,15)]} func81 [pd (.sl bE),pf (.sl .str),pI,pf dM,pd .str,pf cX,pd .bool] [(true,(.sl (.own none) .str)),(true,Y10)] (c7 nU)
def amd:=G81.q0 {merge:=mg [(1,9)]} func223 [pf fG] [(true,Y13)] (c1 nX)
def aeX:=amd.q0 {} func164 [pf fG] [(true,Y13)] (c1 vI)
def e82:jj:=jn (.pair (.sl (.own none) .str) (.pair (.sl (.own none) bE) (.pair (.pair (.pair (.int .i64) (.pair (.int .i64) (.pair (.int .i64) (.int .i64)))) (.pair (.pair (.int .i64) (.pair (.int .i64) (.pair (.int .i64) (.sl (.own none) (.int .i64))))) (.pair (.sl (.own none) ir) (.int .i64)))) (.pair (.sl (.own none) dM) (.pair (.sl (.own none) iq) (.pair (.sl (.own none) fG) (.pair (.sl (.own none) .bool) (.pair (.pair (.int .i64) (.pair .bool (.sl (.own none) (.int .i64)))) (.pair (.pair (.sl (.own none) iZ) (.pair (.sl (.own none) gq) (.pair .str (.sl (.own none) (.int .i64))))) (.pair (.sl (.own none) dL) (.pair .bool (.pair (.sl (.own none) .str) (.pair (.sl (.own none) (.int .i64)) (.pair (.sl (.own none) (.int .i64)) (.pair (.int .i64) (.pair (.int .i64) (.pair (.int .i64) (.pair (.int .i64) (.int .i64))))))))))))))))))) [pI,pI] [] λx a=>kR x a.1 a.2.1
def n82:An:={mask:=mk [(2,[0,1,7])]}
abbrev Xw:SD:=⟨.ptr 0 0::DI::bs 5 (DI::bs 34 []),(so (cY (dq 1 .str) (cY (dq 4 bE) (cY (cY Y1 (cY (jX (jX (jX (dq 28 (.int .i64))))) (cY (dq 31 ir) AU))) (cY (dq 37 dM) (cY (dq 40 iq) (cY (dq 43 fG) (cY (dq 46 .bool) (cY (jX (cY .bool (dq 55 (.int .i64)))) (cY (cY (dq 58 iZ) (cY (dq 61 gq) (cY .str (dq 67 (.int .i64))))) (cY (dq 70 dL) (cY .bool (cY (dq 76 .str) (cY (dq 79 (.int .i64)) (cY (dq 82 (.int .i64)) (cY AU Y1))))))))))))))))::zs 41 [],.ptr⟩
def agZ (X:SD.D Xw)(K:vc R):=pN (λy0 y1=>ke 0 K Xw ((z1 (u y0) X.1),(u y1 X.2.1),X.2.2)) X.1.1
def L82:lB:=lB.nil.add 2 (yP Xw agZ (λX=>(X.1.2.1,X.2.1.1)))
theorem akg:xA E aeX.g n82 L82 (cL f82 0):=lk Xw agZ (λX=>(X.1.2.1,X.2.1.1)) λX x=>((z1 (u x.1) X.1),(u x.2 X.2.1),X.2.2)
theorem o82:D3 82 e82:=gM.pR (pB (Γ:=aeX.g) (an:=n82) (Λ:=L82) (aeX.s) func82 (by kernel_rfl) (ao (cF akg nF))) (λx a=>by kernel_rfl)
def G82:=aeX.add o82
def G32:=G82.q0 {mv:=[14,34,46,62,69,90,103],sb:=mg [(92,5)]} func32 [pf dD,pd .str] [(true,Y0)] (c2 qJ)
def amw:=G32.q0 {} func243 [pd .str] [rI,rI] (c1 qv)
def alv:=amw.q0 {} func165 [pf cX] [rS,rB] (c1 mj)
abbrev abR:SD:=⟨B::B::B::DI::B::B::B::cP (ji ir)::DI::DI::bs 9 [],zs 19 [],.none⟩
def alx:=alv.q1 {mask:=mk [(3,[3,7,8,9])]} func167 [pf kJ] [rI] (c1 pQ) abR (λX K=>lO (λy0 y1=>ke 0 K abR ((w y0 (z2 (u y1)) X.1),X.2)) X.1.2.1 (q2 X)) (λX=>(X.1.1,q3 X)) (λX x=>((w x.1 (z2 (u x.2)) X.1),X.2))
def aeY:=alx.q0 {merge:=mg [(2,20)],mv:=[21,28],mb:=mg [(28,7)],sb:=mg [(4,4)]} func168 [pf iq,pI] [(true,Y9),(false,(.sl (.own none) (.int .i64))),rB] (c2 qT)
def anS:jj:=zY [pd (.sl bE),pf (.sl .str),pI,pf iq,pd (.sl (.int .i64)),pd .str,pI] [(true,(.sl (.own none) .str)),(false,(.sl (.own none) iO)),rB] [(true,(.sl .arg .str)),(false,(.sl (.own none) iO)),rB] rfl λa=>ng a.1 a.2.1 a.2.2.1 a.2.2.2.1 a.2.2.2.2.1 a.2.2.2.2.2.1 a.2.2.2.2.2.2.1
def ako:An:={mask:=mk [(3,[0,2,5,6,8,10,14,15,16,17,24,25,26])],peel:=[3],mv:=[40,49,53,54,55,65,66],sb:=mg [(21,21)]}
abbrev O1:SD:=⟨cP (ji bE)::B::DI::B::B::cP .str::DI::B::.ptr 8 0::B::.ptr 10 0::B::B::B::.ptr 14 0::cP (dq 184320 iO)::DB::cP (dq 208896 iO)::bs 6 (cP (ji (.int .i64))::DI::DI::bs 40 []),zs 8 ((so (dq 98305 .str))::Z::(some Y14)::Z::Z::Z::(so (dq 172033 .str))::zs 52 []),.none⟩
abbrev YK:SD:=⟨cP (ji bE)::B::DI::B::B::cP .str::DI::B::.ptr 8 0::B::.ptr 10 0::B::B::B::.ptr 14 0::cP (dq 184320 iO)::DB::cP (dq 208896 iO)::bs 6 (cP (ji (.int .i64))::DI::DI::bs 40 []),zs 8 ((so (.sl .loc .str))::Z::(some Y14)::Z::Z::Z::(so (dq 172033 .str))::zs 52 []),.none⟩
def aes (X:SD.D O1)(K:vc R):=jQ (λy0 y1 y2 y3=>ke 0 K O1 ((z2 (w y0 (z3 (w y1 (z2 (u y2))))) X.1),(u y3 X.2.1),X.2.2)) (λy0 y1 y2 y3 y4 y5 y6=>kr K YK ((X.1.1,(X.1.2.1,(y0,(X.1.2.2.2.1,(y1,(y2,(y3,(X.1.2.2.2.2.2.2.2.1,(X.1.2.2.2.2.2.2.2.2.1,(y4,())))))))))),(y5,(X.2.1.2.1,(y6,()))),())) X.1.1 X.1.2.1 (q3 X) (q4 X) (q5 X) (q7 X) (q8 X) X.2.1.2.1 X.2.1.2.2.1
def ajc:lB:=lB.nil.add 3 (yP O1 aes (λX=>(q2 X,q6 X,q9 X,X.2.1.1)))
theorem ah6:xA E aeY.g ako ajc (cL f169 0):=lk O1 aes (λX=>(q2 X,q6 X,q9 X,X.2.1.1)) λX x=>((z2 (w x.1 (z3 (w x.2.1 (z2 (u x.2.2.1))))) X.1),(u x.2.2.2 X.2.1),X.2.2)
theorem aoK:D3 169 anS:=gM.ofAlt (Rz (Γ:=aeY.g) (an:=ako) (Λ:=ajc) (by rfl) (aeY.s) func169 (by kernel_rfl) (ao (cF ah6 nF))) (λa=>by kernel_rfl)
def aly:=aeY.add aoK
abbrev UW:SD:=⟨cP (ji iO)::B::DB::B::B::cP (ji iO)::DI::DI::bs 16 [],zs 24 [],.none⟩
def abq:=aly.q1 {mask:=mk [(2,[0,2,5,6,7])],merge:=mg [(4,19)]} func245 [pd (.sl iO)] [rB] (c1 rQ) UW (λX K=>qM (λy0=>ke 0 K UW ((z4 (u y0) X.1),X.2)) (λy0 y1=>kr K UW ((z1 (w y0 (z2 (u y1))) X.1),X.2)) X.1.1 X.1.2.1 (q2 X) (q3 X)) q4 (λX x=>((z4 (u x) X.1),X.2))
def anT:jj:=zY [pd (.sl iO),pI,pI] [(false,(.sl (.own none) nH))] [(false,(.sl .nil nH))] rfl λa=>iC a.1 a.2.1 a.2.2.1
def air:An:={mask:=mk [(5,[0,2,7,30,31,32]),(13,[6,7,54,55,56])],merge:=mg [(1,25)],nils:=[6],mv:=[49,64]}
abbrev O2:SD:=⟨cP (ji iO)::B::DI::bs 4 (cP (dq 86016 nH)::bs 22 (cP (ji iO)::DI::DI::bs 32 [])),zs 65 [],.none⟩
def aet (X:SD.D O2)(K:vc R):=kf (λy0 y1=>ke 0 K O2 ((z2 (w y0 (z2 (u y1))) X.1),X.2)) X.1.1 X.1.2.1 (q3 X) (q4 X)
abbrev JE:SD:=⟨bs 7 (cP (dq 86016 nH)::bs 46 (cP (.sl .loc nH)::DI::DI::bs 8 [])),zs 65 [],.none⟩
abbrev UK:SD:=⟨bs 6 (cP (.sl .nil nH)::cP (dq 86016 nH)::bs 46 (cP (.sl .loc nH)::DI::DI::bs 8 [])),zs 65 [],.none⟩
def Ym (X:SD.D JE)(K:vc R):=jA (λy0=>ke 2 K JE ((z3 (u y0) X.1),X.2)) (λy0 y1=>kr K UK ((y0,(X.1.1,(X.1.2.1,(X.1.2.2.1,(y1,()))))),(),())) X.1.1 X.1.2.1 (q2 X)
def ahe:lB:=(lB.nil.add 5 (yP O2 aet (λX=>(q2 X,q5 X)))).add 13 (yP JE Ym q3)
theorem ah7:xA E abq.g air ahe (cL f170 0):=lk O2 aet (λX=>(q2 X,q5 X)) λX x=>((z2 (w x.1 (z2 (u x.2))) X.1),X.2)
theorem afI:xA E abq.g air ahe (cL f170 1):=lk JE Ym q3 λX x=>((z3 (u x) X.1),X.2)
theorem aoL:D3 170 anT:=gM.ofAlt (Rz (Γ:=abq.g) (an:=air) (Λ:=ahe) (by rfl) (abq.s) func170 (by kernel_rfl) (ao (cF ah7 (cF afI nF)))) (λa=>by kernel_rfl)
def alz:=abq.add aoL
abbrev UL:SD:=⟨cP (ji bE)::B::DI::B::B::B::.ptr 6 0::B::.ptr 8 0::B::.ptr 10 0::.ptr 11 0::DB::.ptr 13 0::.ptr 14 0::bs 6 (cP (ji .str)::DI::DI::bs 21 []),zs 6 ((so (ji .str))::Z::(some Y1)::Z::(so (dq 122881 .str))::(some Y1)::Z::(so (dq 159745 .str))::(some Y1)::zs 30 []),.none⟩
def alA:=alz.q1 {mask:=mk [(3,[0,2,6,8,10,11,12,13,14,21,22,23])],mv:=[27,43],mb:=mg [(43,13)],sb:=mg [(10,10),(11,11),(13,13),(14,14)]} func171 [pd (.sl bE),pf (.sl .str),pI,pf ti,pd (.sl .str)] [(true,(.sl (.own none) .str)),(true,Y1),rB] (c5 jI) UL (λX K=>kP (λy0 y1 y2=>ke 0 K UL ((z5 (u y0) X.1),(z4 (w y1 (u y2)) X.2.1),X.2.2)) (λy0 y1 y2 y3 y4 y5=>kr K UL ((z2 (w y0 (z2 (u y1))) X.1),(z2 (w y2 (w y3 (w y4 (u y5)))) X.2.1),X.2.2)) X.1.1 X.1.2.1 (q2 X) (q3 X) (q4 X) X.2.1.1 X.2.1.2.1 X.2.1.2.2.1 X.2.1.2.2.2.1) (λX=>(q5 X,X.2.1.2.2.2.2.1,X.2.1.2.2.2.2.2.1)) (λX x=>((z5 (u x.1) X.1),(z4 (w x.2.1 (u x.2.2)) X.2.1),X.2.2))
abbrev acp:SD:=⟨cP (ji bE)::B::DI::bs 7 (.ptr 10 0::B::B::B::.ptr 14 0::.ptr 15 0::B::.ptr 17 0::.ptr 18 0::B::B::B::.ptr 22 0::B::cP (dq 294912 (.int .i64))::B::.ptr 26 0::B::cP (dq 344064 nH)::cP (dq 356352 .str)::bs 109 (cP (.sl .loc nH)::DI::DI::bs 44 [])),zs 10 ((some Y24)::Z::Z::Z::(so (dq 172033 .str))::(so (cY Y1 (cY (jX (jX (jX (dq 184342 (.int .i64))))) (cY (dq 184345 ir) AU))))::Z::(so (dq 208897 .str))::(so (cY Y1 (cY (jX (jX (jX (dq 221206 (.int .i64))))) (cY (dq 221209 ir) AU))))::Z::Z::Z::(so (cY Y1 (cY (jX (jX (jX (dq 270358 (.int .i64))))) (cY (dq 270361 ir) AU))))::Z::Z::Z::(so (.sl .loc .str))::zs 159 []),.none⟩
def G83:=alA.q1 {mask:=mk [(19,[0,2,10,14,15,17,18,22,24,26,28,29,139,140,141])],merge:=mg [(2,57),(6,92),(15,135)],mv:=[58,59,93,94,97,107,108,109,122,123,136,137,145,151,164,165,169,174,184,185],mb:=mg [(58,17),(59,18),(93,17),(94,18),(107,17),(108,18),(136,17),(137,18),(164,17),(165,18),(184,26),(185,22)],sb:=mg [(14,14),(15,15),(17,17),(18,18),(26,26)]} func83 [pd (.sl bE),pf (.sl .str),pI,pf kJ,pf cX,pI,pI] [(true,(.sl (.own none) .str)),(true,Y17),rB] (c7 sD) acp (λX K=>fU (λy0 y1=>ke 0 K acp ((z4 (w y0 (z2 (u y1))) X.1),X.2)) X.1.1 X.1.2.1 (q2 X) (q3 X) (q5 X) (q6 X) X.2.1.1 X.2.1.2.1 X.2.1.2.2.1 X.2.1.2.2.2.1 X.2.1.2.2.2.2.1 X.2.1.2.2.2.2.2.1 X.2.1.2.2.2.2.2.2.1) (λX=>(q4 X,q7 X)) (λX x=>((z4 (w x.1 (z2 (u x.2))) X.1),X.2))
def G33:=G83.q0 {mv:=[19,20,34,36,38]} func33 [pf dD,pf cX,pI,pI] [(true,Y0),rB] (c4 vQ)
abbrev agA:SD:=⟨B::.ptr 1 0::.ptr 2 0::.ptr 3 0::bs 9 (DI::DI::bs 35 []),Z::(some Y4)::(some Y2)::(some Y6)::zs 46 [],.none⟩
def G68:=G33.q1 {mask:=mk [(5,[1,2,3,13,14])],mv:=[10,17,35,49],sb:=mg [(37,3)]} func68 [pf dD] [(true,Y0)] (c1 tW) agA (λX K=>pF (λy0 y1=>ke 0 K agA ((z1 (u y0) X.1),(z2 (u y1) X.2.1),X.2.2)) X.1.1 X.2.1.1 X.2.1.2.1) (λX=>(X.1.2.1,X.2.1.2.2.1)) (λX x=>((z1 (u x.1) X.1),(z2 (u x.2) X.2.1),X.2.2))
abbrev U1:SD:=⟨cP (ji bE)::B::DI::B::B::.ptr 5 0::B::.ptr 7 0::cP (dq 98304 nH)::.ptr 9 0::DB::.ptr 11 0::cP (dq 147456 nH)::bs 57 [],zs 5 ((so (ji .str))::Z::(some Y1)::Z::(some Y1)::Z::(some Y1)::zs 58 []),.none⟩
def ahc:=G68.q1 {mask:=mk [(6,[0,2,5,7,8,9,10,11,12])],merge:=mg [(1,24),(15,67)],mv:=[55,68],sb:=mg [(9,9)]} func272 [pd (.sl bE),pf (.sl .str),pI,pf ti] [(false,(.sl (.own none) nH)),(true,Y1),rB] (c4 ue) U1 (λX K=>lN (λy0 y1=>ke 0 K U1 ((z4 (u y0) X.1),(z1 (u y1) X.2.1),X.2.2)) (λy0 y1 y2 y3 y4=>kr K U1 ((z2 (w y0 (w y1 (u y2))) X.1),(z1 (w y3 (u y4)) X.2.1),X.2.2)) X.1.1 X.1.2.1 (q2 X) (q3 X) X.2.1.1 X.2.1.2.2.1 X.2.1.2.2.2.1) (λX=>(q4 X,X.2.1.2.1)) (λX x=>((z4 (u x.1) X.1),(z1 (u x.2) X.2.1),X.2.2))
def aiw:An:={mask:=mk [(5,[0,6,18,19,20]),(14,[0,2,3,4,5,6,9,10,11,51,52])],mv:=[24,65]}
abbrev O8:SD:=⟨cP (ji nH)::bs 5 (cP (dq 73728 iO)::bs 11 (cP (ji nH)::DI::DI::bs 47 [])),zs 68 [],.none⟩
def aeC (X:SD.D O8)(K:vc R):=kZ (λy0 y1=>ke 0 K O8 ((z1 (w y0 (z2 (u y1))) X.1),X.2)) X.1.1 (q2 X) (q3 X)
abbrev JH:SD:=⟨cP (ji nH)::bs 5 (cP (dq 73728 iO)::B::B::DI::DI::cP (dq 135168 nH)::bs 39 (DI::DI::bs 15 [])),zs 68 [],.none⟩
abbrev U2:SD:=⟨cP (ji nH)::B::cP (dq 24576 iO)::DI::DI::DB::cP (dq 73728 iO)::B::B::DI::DI::cP (dq 135168 nH)::bs 39 (DI::DI::bs 15 []),zs 68 [],.none⟩
def Yq (X:SD.D JH)(K:vc R):=gv (λy0=>ke 2 K JH ((z6 (u y0) X.1),X.2)) (λy0 y1 y2 y3 y4=>kr K U2 ((X.1.1,(y0,(y1,(y2,(y3,(X.1.2.1,(X.1.2.2.1,(X.1.2.2.2.1,(X.1.2.2.2.2.1,(X.1.2.2.2.2.2.1,(y4,()))))))))))),(),())) X.1.1 X.1.2.1 (q2 X) (q3 X) (q4 X) (q5 X)
def aji:lB:=(lB.nil.add 5 (yP O8 aeC (λX=>(X.1.2.1,q4 X)))).add 14 (yP JH Yq q6)
theorem aih:xA E ahc.g aiw aji (cL f273 0):=lk O8 aeC (λX=>(X.1.2.1,q4 X)) λX x=>((z1 (w x.1 (z2 (u x.2))) X.1),X.2)
theorem afM:xA E ahc.g aiw aji (cL f273 1):=lk JH Yq q6 λX x=>((z6 (u x) X.1),X.2)
def amO:=ahc.qk aiw func273 [pd (.sl nH)] [(false,(.sl (.own none) iO)),rI,rI,rB] (c1 nR) (cF aih (cF afM nF))
abbrev U3:SD:=⟨cP (ji bE)::B::DI::B::B::.ptr 5 0::B::B::cP .str::DB::cP .str::bs 7 (cP (ji iO)::DI::DI::bs 21 []),zs 5 ((so (ji .str))::zs 36 []),.none⟩
def amP:=amO.q1 {mask:=mk [(5,[0,2,5,8,9,10,18,19,20])]} func274 [pd (.sl bE),pf (.sl .str),pI,pd (.sl iO)] [rS,rB] (c4 pD) U3 (λX K=>lL (λy0 y1=>ke 0 K U3 ((z4 (w y0 (z2 (u y1))) X.1),X.2)) (λy0 y1 y2 y3=>kr K U3 ((z2 (w y0 (w y1 (w y2 (z2 (u y3))))) X.1),X.2)) X.1.1 X.1.2.1 (q2 X) (q3 X) (q5 X) (q6 X) X.2.1.1) (λX=>(q4 X,q7 X)) (λX x=>((z4 (w x.1 (z2 (u x.2))) X.1),X.2))
def amQ:=amP.q0 {merge:=mg [(3,38),(9,74),(12,84),(17,117)]} func275 [pd .str] [rS,rB] (c1 vL)
def anB:=amQ.q0 {} func327 [pf cX] [rS,rB] (c1 sv)
abbrev ab9:SD:=⟨B::B::B::cP (dq 36864 .str)::bs 5 (cP (ji cX)::DI::DI::bs 15 []),zs 27 [],.none⟩
def anl:=anB.q1 {mask:=mk [(3,[3,9,10,11])],mv:=[21,26]} func310 [pd (.sl cX)] [(false,(.sl (.own none) .str))] (c1 vO) ab9 (λX K=>na (λy0 y1=>ke 0 K ab9 ((w y0 (z2 (u y1)) X.1),X.2)) X.1.2.1 (q2 X)) (λX=>(X.1.1,q3 X)) (λX x=>((w x.1 (z2 (u x.2)) X.1),X.2))
abbrev aca:SD:=⟨B::DI::.ptr 2 0::B::B::cP .str::cP (dq 73728 cX)::DI::bs 80 [],Z::Z::(some Y3)::zs 85 [],.none⟩
def anm:=anl.q1 {mask:=mk [(8,[1,2,5,6,7])],merge:=mg [(1,17),(4,30)],mv:=[83,87]} func311 [pf cX,pI] [(false,(.sl (.own none) cX))] (c2 Bm) aca (λX K=>vU (λy0 y1=>ke 0 K aca ((z2 (w y0 (u y1)) X.1),X.2)) X.1.1 X.1.2.1 X.2.1.1) (λX=>(q2 X,q3 X)) (λX x=>((z2 (w x.1 (u x.2)) X.1),X.2))
def amR:=anm.q0 {} func276 [pf cX,pI] [(false,(.sl (.own none) .str))] (c2 sC)
def amc:=amR.q0 {merge:=mg [(1,28)],sb:=mg [(8,8)]} func222 [pd (.sl bE),pf (.sl .str),pI,pf ti] [(true,Y1),(false,(.sl (.own none) .str)),rI] (c4 pM)
abbrev ahp:SD:=⟨cP (ji bE)::B::DI::B::B::.ptr 5 0::B::.ptr 7 0::.ptr 8 0::cP (dq 110592 .str)::DI::DI::cP (dq 147456 .str)::DI::DI::bs 30 [],zs 5 ((so (ji .str))::Z::(some Y1)::(some Y1)::zs 36 []),.none⟩
abbrev YJ:SD:=⟨cP (ji bE)::B::DI::B::B::.ptr 5 0::B::.ptr 7 0::.ptr 8 0::cP (dq 110592 .str)::DI::DI::cP (.sl .loc .str)::DI::DI::bs 30 [],zs 5 ((so (ji .str))::Z::(some Y1)::(some Y1)::zs 36 []),.none⟩
def ak5:=amc.q1 {mask:=mk [(3,[0,2,5,7,8,9,10,11,12,13,14])],mv:=[35,42]} func138 [pd (.sl bE),pf (.sl .str),pI,pf ti] [(true,Y1),(false,(.sl (.own none) .str)),rI,rI] (c4 qU) ahp (λX K=>mK (λy0 y1 y2 y3 y4 y5 y6 y7=>kr K YJ ((X.1.1,(X.1.2.1,(y0,(y1,(y2,(y3,(y4,(y5,())))))))),(X.2.1.1,(y6,(y7,()))),())) X.1.1 X.1.2.1 (q2 X) (q3 X) (q4 X) X.2.1.1 X.2.1.2.2.1) (λX=>(q5 X,q6 X,q7 X,X.2.1.2.1)) (λX x=>((z5 (w x.1 (w x.2.1 (u x.2.2.1))) X.1),(z1 (u x.2.2.2) X.2.1),X.2.2))
abbrev abP:SD:=⟨B::DI::.ptr 2 0::B::.ptr 4 0::B::.ptr 6 0::cP (dq 86016 (.int .i64))::bs 20 (cP (ji ir)::DI::DI::bs 26 []),Z::Z::(some Y24)::Z::(so (cY Y1 (cY (jX (jX (jX (dq 49174 (.int .i64))))) (cY (dq 49177 ir) AU))))::Z::(so (cY Y1 (cY (jX (jX (jX (dq 73750 (.int .i64))))) (cY (dq 73753 ir) AU))))::zs 50 [],.none⟩
def ak6:=ak5.q1 {mask:=mk [(6,[1,2,4,6,7,28,29,30])],merge:=mg [(2,22)],mv:=[23,34,43,55,56]} func139 [pf kJ,pI] [(true,Y17),(false,(.sl (.own none) (.int .i64)))] (c2 lJ) abP (λX K=>jz (λy0 y1 y2=>ke 0 K abP ((z1 (w y0 (z2 (u y1))) X.1),(z2 (u y2) X.2.1),X.2.2)) X.1.1 (q2 X) (q3 X) X.2.1.1 X.2.1.2.1) (λX=>(X.1.2.1,q4 X,X.2.1.2.2.1)) (λX x=>((z1 (w x.1 (z2 (u x.2.1))) X.1),(z2 (u x.2.2) X.2.1),X.2.2))
def G69:=ak6.q0 {mv:=[15,33,37,51,54,58]} func69 [pf dD] [(true,Y0)] (c1 pH)
def ak7:=G69.q0 {merge:=mg [(1,11)]} func140 [pf fG] [(true,Y13),rB] (c1 nW)
def ak8:=ak7.q0 {} func141 [pf fG] [(true,Y13)] (c1 wG)
abbrev agB:SD:=⟨B::DI::B::B::.ptr 4 0::B::.ptr 6 0::DI::bs 17 (DI::DI::bs 53 []),zs 4 ((some Y5)::Z::(some Y7)::zs 73 []),.none⟩
def G70:=ak8.q1 {mask:=mk [(6,[1,4,6,7,25,26])],merge:=mg [(2,21)],mv:=[22,78]} func70 [pf dD,pI] [(true,Y0),rI] (c2 qK) agB (λX K=>mG (λy0 y1 y2=>ke 0 K agB ((z1 (w y0 (z1 (u y1))) X.1),(z1 (u y2) X.2.1),X.2.2)) X.1.1 (q2 X) X.2.1.1) (λX=>(X.1.2.1,q3 X,X.2.1.2.1)) (λX x=>((z1 (w x.1 (z1 (u x.2.1))) X.1),(z1 (u x.2.2) X.2.1),X.2.2))
def ak9:=G70.q0 {} func142 [pf fG] [(true,Y13)] (c1 sG)
abbrev agC:SD:=⟨B::B::.ptr 2 0::.ptr 3 0::bs 9 (DI::DI::bs 14 []),Z::Z::(some Y2)::(some Y6)::zs 25 [],.none⟩
def G71:=ak9.q1 {mask:=mk [(5,[2,3,13,14])],mv:=[10,28]} func71 [pf dD] [(true,Y0)] (c1 vR) agC (λX K=>qL (λy0 y1=>ke 0 K agC ((z1 (u y0) X.1),(z1 (u y1) X.2.1),X.2.2)) X.1.1 X.2.1.1) (λX=>(X.1.2.1,X.2.1.2.1)) (λX x=>((z1 (u x.1) X.1),(z1 (u x.2) X.2.1),X.2.2))
def aiW:=G71.q0 {} func102 [pd .bool] [rI] (c1 DK)
def e40:jj:=zY [pf dD,pf AX] [(true,Y0),rI] [(true,Y4),rI] rfl λa=>nY a.1 a.2.1
theorem o40:D3 40 e40:=gM.ofAlt (Rz (an:={mv:=[12,23],mb:=mg [(23,6)],sb:=mg [(4,4)]}) (Λ:=lB.nil) (by rfl) (aiW.s) func40 (by kernel_rfl) (ao nF)) (λa=>by kernel_rfl)
def aju:jj:=Vb [pf dD,pf AX] [(true,Y0),rI] λa=>nY a.1 a.2.1
theorem aoX:D3 40 aju:=o40.only
def G40:=aiW.add o40
def e10:jj:=zY [pf dD,pd (.sl AX)] [(true,Y0),rI] [(true,Y4),rI] rfl λa=>pc a.1 a.2.1
def g10:yk:=G40.g.add 40 aju
def n10:An:={mask:=mk [(3,[1,2,4,6,7])],peel:=[3],mv:=[24,31,33,43],sb:=mg [(8,8)]}
abbrev Xr:SD:=⟨B::cP (ji AX)::.ptr 2 0::B::.ptr 4 0::B::DI::DI::bs 37 [],Z::Z::(some Y2)::Z::(some Y5)::zs 40 [],.none⟩
def agR (X:SD.D Xr)(K:vc R):=hY (λy0 y1 y2=>ke 0 K Xr ((z1 (w y0 (u y1)) X.1),(u y2 X.2.1),X.2.2)) X.1.1 X.2.1.2.1
def L10:lB:=lB.nil.add 3 (yP Xr agR (λX=>(X.1.2.1,q2 X,X.2.1.1)))
theorem aj8:xA E g10 n10 L10 (cL f10 0):=lk Xr agR (λX=>(X.1.2.1,q2 X,X.2.1.1)) λX x=>((z1 (w x.1 (u x.2.1)) X.1),(u x.2.2 X.2.1),X.2.2)
theorem o10:D3 10 e10:=gM.ofAlt (Rz (Γ:=g10) (an:=n10) (Λ:=L10) (by rfl) (G40.s.add aoX) func10 (by kernel_rfl) (ao (cF aj8 nF))) (λa=>by kernel_rfl)
def G10:=G40.add o10
def G17:=G10.q0 {} func17 [pd (.sl (.int .u8)),pI] [rI] (c2 JQ)
abbrev acn:SD:=⟨cP (ji .str)::cP (ji .str)::B::B::DB::bs 7 (DI::DI::bs 12 []),zs 26 [],.none⟩
def G63:=G17.q1 {mask:=mk [(4,[0,1,4,12,13])]} func63 [pd (.sl .str),pd (.sl .str)] [rB] (c2 Pu.mR) acn (λX K=>Pu.km (λy0=>ke 0 K acn ((z4 (u y0) X.1),X.2)) (λy0 y1=>kr K acn ((z2 (w y0 (z1 (u y1))) X.1),X.2)) X.1.1 X.1.2.1 (q2 X) (q3 X)) q4 (λX x=>((z4 (u x) X.1),X.2))
abbrev UI:SD:=⟨cP (ji (.int .i64))::cP (ji (.int .i64))::B::B::DB::bs 7 (DI::DI::bs 12 []),zs 26 [],.none⟩
def ak1:=G63.q1 {mask:=mk [(4,[0,1,4,12,13])]} func133 [pd (.sl (.int .i64)),pd (.sl (.int .i64))] [rB] (c2 Pu.gA) UI (λX K=>Pu.mQ (λy0=>ke 0 K UI ((z4 (u y0) X.1),X.2)) (λy0 y1=>kr K UI ((z2 (w y0 (z1 (u y1))) X.1),X.2)) X.1.1 X.1.2.1 (q2 X) (q3 X)) q4 (λX x=>((z4 (u x) X.1),X.2))
def akV:=ak1.q0 {merge:=mg [(1,4)]} func127 [pf iq,pf iq] [rB] (c2 rX)
def al7:=akV.q0 {merge:=mg [(1,4)]} func217 [pf ir,pf ir] [rB] (c2 vY)
abbrev US:SD:=⟨B::cP (ji ir)::.fn 217::B::B::B::DB::bs 8 (cP (ji ir)::DI::DI::bs 14 []),zs 32 [],.none⟩
def al6:=al7.q1 {mask:=mk [(4,[1,2,6,15,16,17])]} func216 [pd (.sl ir),pd (.sl ir),.fn 217] [rB] (c2 Pu.lj) US (λX K=>Pu.jh (λy0=>ke 0 K US ((z4 (u y0) X.1),X.2)) (λy0 y1=>kr K US ((z1 (w y0 (z2 (u y1))) X.1),X.2)) X.1.1 X.1.2.1 (q2 X) (q3 X)) q4 (λX x=>((z4 (u x) X.1),X.2))
def akS:=al6.q0 {merge:=mg [(1,4)]} func124 [pf kJ,pf kJ] [rB] (c2 zE)
abbrev UD:SD:=⟨cP (ji dM)::cP (ji dM)::B::B::DB::bs 7 (DI::DI::bs 12 []),zs 26 [],.none⟩
def akT:=akS.q1 {mask:=mk [(4,[0,1,4,12,13])]} func125 [pd (.sl dM),pd (.sl dM)] [rB] (c2 Pu.lV) UD (λX K=>Pu.jC (λy0=>ke 0 K UD ((z4 (u y0) X.1),X.2)) (λy0 y1=>kr K UD ((z2 (w y0 (z1 (u y1))) X.1),X.2)) X.1.1 X.1.2.1 (q2 X) (q3 X)) q4 (λX x=>((z4 (u x) X.1),X.2))
abbrev UE:SD:=⟨B::cP (ji iq)::.fn 127::B::B::B::DB::bs 8 (cP (ji iq)::DI::DI::bs 14 []),zs 32 [],.none⟩
def akU:=akT.q1 {mask:=mk [(4,[1,2,6,15,16,17])]} func126 [pd (.sl iq),pd (.sl iq),.fn 127] [rB] (c2 Pu.lh) UE (λX K=>Pu.jg (λy0=>ke 0 K UE ((z4 (u y0) X.1),X.2)) (λy0 y1=>kr K UE ((z1 (w y0 (z2 (u y1))) X.1),X.2)) X.1.1 X.1.2.1 (q2 X) (q3 X)) q4 (λX x=>((z4 (u x) X.1),X.2))
abbrev UF:SD:=⟨cP (ji fG)::cP (ji fG)::B::B::DB::bs 7 (DI::DI::bs 12 []),zs 26 [],.none⟩
def akW:=akU.q1 {mask:=mk [(4,[0,1,4,12,13])]} func128 [pd (.sl fG),pd (.sl fG)] [rB] (c2 Pu.mP) UF (λX K=>Pu.kl (λy0=>ke 0 K UF ((z4 (u y0) X.1),X.2)) (λy0 y1=>kr K UF ((z2 (w y0 (z1 (u y1))) X.1),X.2)) X.1.1 X.1.2.1 (q2 X) (q3 X)) q4 (λX x=>((z4 (u x) X.1),X.2))
abbrev UG:SD:=⟨cP (ji .bool)::cP (ji .bool)::B::B::DB::bs 7 (DI::DI::bs 12 []),zs 26 [],.none⟩
def akX:=akW.q1 {mask:=mk [(4,[0,1,4,12,13])]} func129 [pd (.sl .bool),pd (.sl .bool)] [rB] (c2 Pu.pV) UG (λX K=>Pu.lX (λy0=>ke 0 K UG ((z4 (u y0) X.1),X.2)) (λy0 y1=>kr K UG ((z2 (w y0 (z1 (u y1))) X.1),X.2)) X.1.1 X.1.2.1 (q2 X) (q3 X)) q4 (λX x=>((z4 (u x) X.1),X.2))
def akY:=akX.q0 {merge:=mg [(1,4)]} func130 [pf vF,pf vF] [rB] (c2 sK)
abbrev UT:SD:=⟨cP (ji iZ)::cP (ji iZ)::B::B::DB::bs 7 (DI::DI::bs 12 []),zs 26 [],.none⟩
def al8:=akY.q1 {mask:=mk [(4,[0,1,4,12,13])]} func218 [pd (.sl iZ),pd (.sl iZ)] [rB] (c2 Pu.pT) UT (λX K=>Pu.lU (λy0=>ke 0 K UT ((z4 (u y0) X.1),X.2)) (λy0 y1=>kr K UT ((z2 (w y0 (z1 (u y1))) X.1),X.2)) X.1.1 X.1.2.1 (q2 X) (q3 X)) q4 (λX x=>((z4 (u x) X.1),X.2))
abbrev UU:SD:=⟨cP (ji gq)::cP (ji gq)::B::B::DB::bs 7 (DI::DI::bs 12 []),zs 26 [],.none⟩
def al9:=al8.q1 {mask:=mk [(4,[0,1,4,12,13])]} func219 [pd (.sl gq),pd (.sl gq)] [rB] (c2 Pu.pU) UU (λX K=>Pu.lW (λy0=>ke 0 K UU ((z4 (u y0) X.1),X.2)) (λy0 y1=>kr K UU ((z2 (w y0 (z1 (u y1))) X.1),X.2)) X.1.1 X.1.2.1 (q2 X) (q3 X)) q4 (λX x=>((z4 (u x) X.1),X.2))
def akZ:=al9.q0 {merge:=mg [(1,4)]} func131 [pf oV,pf oV] [rB] (c2 pP)
abbrev UH:SD:=⟨cP (ji dL)::cP (ji dL)::B::B::DB::bs 7 (DI::DI::bs 12 []),zs 26 [],.none⟩
def ak0:=akZ.q1 {mask:=mk [(4,[0,1,4,12,13])]} func132 [pd (.sl dL),pd (.sl dL)] [rB] (c2 Pu.mO) UH (λX K=>Pu.kj (λy0=>ke 0 K UH ((z4 (u y0) X.1),X.2)) (λy0 y1=>kr K UH ((z2 (w y0 (z1 (u y1))) X.1),X.2)) X.1.1 X.1.2.1 (q2 X) (q3 X)) q4 (λX x=>((z4 (u x) X.1),X.2))
def G64:=ak0.q0 {merge:=mg [(1,4)]} func64 [pf dD,pf dD] [rB] (c2 sJ)
abbrev abW:SD:=⟨B::B::.ptr 2 0::.ptr 3 0::DB::bs 28 (cP (ji bE)::DI::DI::bs 62 []),Z::Z::(some Y4)::(some Y4)::zs 94 [],.none⟩
def G20:=G64.q1 {mask:=mk [(4,[2,3,4,33,34,35])],merge:=mg [(1,31),(7,58),(10,96)]} func20 [pf dD,pf dD] [rB] (c2 fR) abW (λX K=>nd (λy0=>ke 0 K abW ((z3 (u y0) X.1),X.2)) (λy0 y1=>kr K abW ((w y0 (z2 (u y1)) X.1),X.2)) X.1.1 X.1.2.1 (q2 X) X.2.1.1 X.2.1.2.1) q3 (λX x=>((z3 (u x) X.1),X.2))
def n21:An:={mask:=mk [(6,[1,2,4,5,6,7,32,33,34]),(13,[1,4,6,7,59,60,61])],merge:=mg [(3,29)],mv:=[30,77]}
abbrev Ra:SD:=⟨B::DI::.ptr 2 0::B::.ptr 4 0::DB::.ptr 6 0::DI::bs 24 (cP (ji bE)::DI::DI::bs 43 []),Z::Z::(some Y4)::Z::(some Y5)::Z::(some Y7)::zs 71 [],.none⟩
def agU (X:SD.D Ra)(K:vc R):=kQ (λy0 y1=>ke 0 K Ra ((z5 (u y0) X.1),(z2 (u y1) X.2.1),X.2.2)) (λy0 y1 y2 y3=>kr K Ra ((z1 (w y0 (z3 (u y1))) X.1),(z1 (w y2 (u y3)) X.2.1),X.2.2)) X.1.1 X.1.2.1 (q2 X) (q3 X) (q4 X) X.2.1.1 X.2.1.2.1
abbrev O5:SD:=⟨B::DI::B::B::.ptr 4 0::B::.ptr 6 0::DI::bs 51 (cP (ji .str)::DI::DI::bs 16 []),zs 4 ((some Y5)::Z::(some Y7)::zs 71 []),.none⟩
def aez (X:SD.D O5)(K:vc R):=jP (λy0 y1=>ke 2 K O5 ((z4 (u y0) X.1),(z1 (u y1) X.2.1),X.2.2)) X.1.1 X.1.2.1 (q2 X) (q3 X) X.2.1.1
def L21:lB:=(lB.nil.add 6 (yP Ra agU (λX=>(q5 X,X.2.1.2.2.1)))).add 13 (yP O5 aez (λX=>(q4 X,X.2.1.2.1)))
theorem akb:xA E G20.g n21 L21 (cL f21 0):=lk Ra agU (λX=>(q5 X,X.2.1.2.2.1)) λX x=>((z5 (u x.1) X.1),(z2 (u x.2) X.2.1),X.2.2)
theorem aid:xA E G20.g n21 L21 (cL f21 1):=lk O5 aez (λX=>(q4 X,X.2.1.2.1)) λX x=>((z4 (u x.1) X.1),(z1 (u x.2) X.2.1),X.2.2)
def G21:=G20.qk n21 func21 [pf dD,pI] [(true,Y0),rB] (c2 sE) (cF akb (cF aid nF))
abbrev abY:SD:=⟨cP (ji .str)::cP (ji .str)::B::B::DB::DI::bs 20 [],zs 26 [],.none⟩
def G22:=G21.q1 {mask:=mk [(4,[0,1,4,5])]} func22 [pd (.sl .str),pd (.sl .str)] [rB] (c2 jt) abY (λX K=>uu (λy0=>ke 0 K abY ((z3 (u y0) X.1),X.2)) (λy0 y1=>kr K abY ((z2 (w y0 (u y1)) X.1),X.2)) X.1.1 X.1.2.1 (q2 X)) q3 (λX x=>((z3 (u x) X.1),X.2))
abbrev rD:ax PS:=[pd (.sl (.int .u8))]
def xx:jj:=Nk rD [rB] (c1 ur)
theorem D1:D3 5 xx:=f0 {merge:=mg [(7,2)],mv:=[24],sb:=mg [(5,5)]} G22.s func5
end
end Go.Proofs.YtinkcmefgciifaaGreat.Fn
