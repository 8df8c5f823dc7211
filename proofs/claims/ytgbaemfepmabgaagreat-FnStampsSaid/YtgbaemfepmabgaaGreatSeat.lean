import Derived.Test.YtgbaemfepmabgaaGreatDnSig
import Derived.Test.YtgbaemfepmabgaaGreatPure
import Derived.Test.YtgbaemfepmabgaaGreatRows
/- Each function of the program is its pure function (made by gen.py). -/
namespace Go.Proofs.YtgbaemfepmabgaaGreat.Fn
open Go.Dn
open Go.Pu (bL ir anh js jt k6 gV GF abW cR Jz ec fV lV kZ qX Q7 Zg iH ox eJ de bK dV sZ abV fE jK xT AB nj mj TIp Zh g9)
set_option maxRecDepth 100000
set_option linter.unusedVariables false
noncomputable section
variable {an:An} {Γ:dm} {Λ:dC} {f:Nat} {P:Program} {A0 A1 A2 A3 A4 A5 A6 A7 C R σ:Type} {rs:au (Bool×FT)} {s:au PS}
abbrev Bw:FT:=.int .i64
abbrev cx (a b:FT):FT:=.pair a b
abbrev je (b:FT):FT:=.pair (.int .i64) b
abbrev cA (n:Nat)(t:CT):FT:=.sl (.own (some n)) t
abbrev nU (t:FT):Option FT:=some t
abbrev cE:=g8 Tryz.prog
abbrev B:PD:=.bot
abbrev DI:PD:=.data false (.int .i64)
abbrev DB:PD:=.data false .bool
abbrev Z:aw FT:=none
theorem nF {p:Code->Prop}:∀x∈([]:au Code),p x:=λ_ h=>nomatch h
theorem cF {p:Code->Prop}{a:Code}{l:au Code}(h:p a)(t:∀x∈l,p x):∀x∈a::l,p x:=List.forall_mem_cons.2 ⟨h,t⟩
theorem hF {p:Code->Prop}{l m:au Code}(e:l=m)(h:∀x∈m,p x):∀x∈l,p x:=e▸h
theorem fk {E:Env}{F:BR s->aw (kP rs)}{fn:Func}(an:An)(hS:Sound P E Γ)(hf:P.funcs[f]?=some fn){l:au Code}(h:∀c∈l,gy E Γ an Λ c)(hn:(fn.name== "runtime.NumGoroutine")=false:=by kernel_rfl)(hl:iS (fn.body.getD .skip)=l:=by kernel_rfl)(hcut:an.cut=[]:=by kernel_rfl)(hF:∀a,Kt E Γ an Λ fn rs (nk s a)=F a:=by intro a;kernel_rfl):g8 P f (aK s rs F):=g8.of (aiQ hS hf hn (Bx.of (Fn.hF hl h) hcut)) hF
theorem ao {E:Env}{b:Code}{l:au Code}(h:∀c∈l,gy E Γ an Λ c)(hl:iS b=l:=by kernel_rfl)(hc:an.cut=[]:=by kernel_rfl):Bx E Γ an Λ b:=Bx.of (Fn.hF hl h) hc
theorem ac {E:Env}{b:Code}{l m:au Code}(h:∀c∈l,gy E Γ an Λ c)(hc:∀c∈m,Ml E Γ an Λ c)(hl:iS b=l:=by kernel_rfl)(hm:kf an.cut b=m:=by kernel_rfl):Bx E Γ an Λ b:=⟨Fn.hF hl h,Fn.hF hm hc⟩
theorem fc {E:Env}{F:BR s->aw (kP rs)}{fn:Func}(an:An)(hS:Sound P E Γ)(hf:P.funcs[f]?=some fn){l m:au Code}(h:∀c∈l,gy E Γ an Λ c)(hc:∀c∈m,Ml E Γ an Λ c)(hn:(fn.name== "runtime.NumGoroutine")=false:=by kernel_rfl)(hl:iS (fn.body.getD .skip)=l:=by kernel_rfl)(hm:kf an.cut (fn.body.getD .skip)=m:=by kernel_rfl)(hF:∀a,Kt E Γ an Λ fn rs (nk s a)=F a:=by intro a;kernel_rfl):g8 P f (aK s rs F):=g8.of (aiQ hS hf hn ⟨Fn.hF hl h,Fn.hF hm hc⟩) hF
abbrev pd (t:CT):PS:=.data false t
abbrev pf (t:CT):PS:=.data true t
abbrev pI:PS:=.data false (.int .i64)
abbrev rB:Bool×FT:=(false,.bool)
abbrev rI:Bool×FT:=(false,.int .i64)
abbrev rS:Bool×FT:=(false,.str)
abbrev bs:Nat->au PD->au PD|0,l=>l|n+1,l=> .bot::bs n l
abbrev zs:Nat->au (aw FT)->au (aw FT)|0,l=>l|n+1,l=>none::zs n l
def mk (l:au (Nat×eG))(n:Nat):eG:=(l.lookup n).getD []
def mg (l:au (Nat×Nat))(n:Nat):aw Nat:=l.lookup n
def ke (n:Nat)(K:Ex->AS->aw R)(d:SD)(x:SD.D d):aw R:=K (.exit n) (SD.enc d x)
def kn (K:Ex->AS->aw R)(d:SD)(x:SD.D d):aw R:=K .normal (SD.enc d x)
def kr (K:Ex->AS->aw R)(d:SD)(x:SD.D d):aw R:=K .ret (SD.enc d x)
def gN (d:SD)(t:{R:Type}->SD.D d->(Ex->AS->aw R)->(σ->aw R)->σ->aw R)(i:SD.D d->σ):cH:=⟨d,λX K=>bc (t X K) fuel (i X)⟩
theorem lk {E:Env}{c:Code}(d:SD)(t:{R:Type}->SD.D d->(Ex->AS->aw R)->(σ->aw R)->σ->aw R)(i:SD.D d->σ)(w:SD.D d->σ->SD.D d)(h1:Λ (ft c)=gN d t i:=by kernel_rfl)(h:∀(R:Type)(X:SD.D d)(K:Ex->AS->aw R)(m:Nat)(x:σ),BL (an.mask (ft c)) (den E Γ an Λ c) (m+1) (SD.enc d (w X x)) K=t X K (λy=>BL (an.mask (ft c)) (den E Γ an Λ c) m (SD.enc d (w X y)) K) x:=by intro R X K m x;kernel_rfl)(hw:∀X,w X (i X)=X:=by intro X;kernel_rfl):gy E Γ an Λ c:=lok (gN d t i) h1 fuel λR X K=>(NO (λx=>SD.enc d (w X x)) (t X K) (h R X K) fuel (i X)).symm.trans (congrArg (λy=>BL (an.mask (ft c)) (den E Γ an Λ c) fuel (SD.enc d y) K) (hw X))
def Qr (d:SD)(t:{R:Type}->SD.D d->(Ex->AS->aw R)->aw R):cH:=⟨d,λX K=>t X K⟩
theorem ck {E:Env}{c:Code}(d:SD)(t:{R:Type}->SD.D d->(Ex->AS->aw R)->aw R)(h1:Λ (B0 c)=Qr d t:=by kernel_rfl)(h:∀(R:Type)(X:SD.D d)(K:Ex->AS->aw R),t X K=den E Γ an Λ c (SD.enc d X) (λe st'=>K e (st'.mask (an.mask (B0 c+1)))):=by intro R X K;kernel_rfl):Ml E Γ an Λ c:=cok (Qr d t) h1 h
def u {A B:Type}(y:A)(x:A×B):A×B:=(y,x.2)
def w {A B:Type}(y:A)(f:B->B)(x:A×B):A×B:=(y,f x.2)
def z1 {B:Type}(f:B->B)(x:A0×B):A0×B:=(x.1,f x.2)
def z2 {B:Type}(f:B->B)(x:A0×A1×B):A0×A1×B:=(x.1,x.2.1,f x.2.2)
def z3 {B:Type}(f:B->B)(x:A0×A1×A2×B):A0×A1×A2×B:=(x.1,x.2.1,x.2.2.1,f x.2.2.2)
def z4 {B:Type}(f:B->B)(x:A0×A1×A2×A3×B):A0×A1×A2×A3×B:=(x.1,x.2.1,x.2.2.1,x.2.2.2.1,f x.2.2.2.2)
def z5 {B:Type}(f:B->B)(x:A0×A1×A2×A3×A4×B):A0×A1×A2×A3×A4×B:=(x.1,x.2.1,x.2.2.1,x.2.2.2.1,x.2.2.2.2.1,f x.2.2.2.2.2)
def z6 {B:Type}(f:B->B)(x:A0×A1×A2×A3×A4×A5×B):A0×A1×A2×A3×A4×A5×B:=(x.1,x.2.1,x.2.2.1,x.2.2.2.1,x.2.2.2.2.1,x.2.2.2.2.2.1,f x.2.2.2.2.2.2)
def z7 {B:Type}(f:B->B)(x:A0×A1×A2×A3×A4×A5×A6×B):A0×A1×A2×A3×A4×A5×A6×B:=(x.1,x.2.1,x.2.2.1,x.2.2.2.1,x.2.2.2.2.1,x.2.2.2.2.2.1,x.2.2.2.2.2.2.1,f x.2.2.2.2.2.2.2)
def z8 {B:Type}(f:B->B)(x:A0×A1×A2×A3×A4×A5×A6×A7×B):A0×A1×A2×A3×A4×A5×A6×A7×B:=(x.1,x.2.1,x.2.2.1,x.2.2.2.1,x.2.2.2.2.1,x.2.2.2.2.2.1,x.2.2.2.2.2.2.1,x.2.2.2.2.2.2.2.1,f x.2.2.2.2.2.2.2.2)
def q2 {B:Type}(x:(A0×A1×A2×B)×C):A2:=x.1.2.2.1
def q3 {B:Type}(x:(A0×A1×A2×A3×B)×C):A3:=x.1.2.2.2.1
def q4 {B:Type}(x:(A0×A1×A2×A3×A4×B)×C):A4:=x.1.2.2.2.2.1
def q5 {B:Type}(x:(A0×A1×A2×A3×A4×A5×B)×C):A5:=x.1.2.2.2.2.2.1
def q6 {B:Type}(x:(A0×A1×A2×A3×A4×A5×A6×B)×C):A6:=x.1.2.2.2.2.2.2.1
def q7 {B:Type}(x:(A0×A1×A2×A3×A4×A5×A6×A7×B)×C):A7:=x.1.2.2.2.2.2.2.2.1
def q8 {A8 B:Type}(x:(A0×A1×A2×A3×A4×A5×A6×A7×A8×B)×C):A8:=x.1.2.2.2.2.2.2.2.2.1
def q9 {A8 A9 B:Type}(x:(A0×A1×A2×A3×A4×A5×A6×A7×A8×A9×B)×C):A9:=x.1.2.2.2.2.2.2.2.2.2.1
def Yz {A8 A9 A10 B:Type}(x:(A0×A1×A2×A3×A4×A5×A6×A7×A8×A9×A10×B)×C):A10:=x.1.2.2.2.2.2.2.2.2.2.2.1
def c1 {B:Type}(f:A0->R)(a:A0×B):R:=f a.1
def c2 {B:Type}(f:A0->A1->R)(a:A0×A1×B):R:=f a.1 a.2.1
def c3 {B:Type}(f:A0->A1->A2->R)(a:A0×A1×A2×B):R:=f a.1 a.2.1 a.2.2.1
def c4 {B:Type}(f:A0->A1->A2->A3->R)(a:A0×A1×A2×A3×B):R:=f a.1 a.2.1 a.2.2.1 a.2.2.2.1
def c5 {B:Type}(f:A0->A1->A2->A3->A4->R)(a:A0×A1×A2×A3×A4×B):R:=f a.1 a.2.1 a.2.2.1 a.2.2.2.1 a.2.2.2.2.1
def c6 {B:Type}(f:A0->A1->A2->A3->A4->A5->R)(a:A0×A1×A2×A3×A4×A5×B):R:=f a.1 a.2.1 a.2.2.1 a.2.2.2.1 a.2.2.2.2.1 a.2.2.2.2.2.1
def c7 {B:Type}(f:A0->A1->A2->A3->A4->A5->A6->R)(a:A0×A1×A2×A3×A4×A5×A6×B):R:=f a.1 a.2.1 a.2.2.1 a.2.2.2.1 a.2.2.2.2.1 a.2.2.2.2.2.1 a.2.2.2.2.2.2.1
theorem f0 {E:Env}{F:BR s->aw (kP rs)}{fn:Func}(an:An)(hS:Sound P E Γ)(hf:P.funcs[f]?=some fn)(hn:(fn.name== "runtime.NumGoroutine")=false:=by kernel_rfl)(hl:iS (fn.body.getD .skip)=[]:=by kernel_rfl)(hcut:an.cut=[]:=by rfl)(hF:∀a,Kt E Γ an dC.nil fn rs (nk s a)=F a:=by intro a;kernel_rfl):g8 P f (aK s rs F):=g8.of (aiQ hS hf hn (Bx.of (Fn.hF hl nF) hcut)) hF
abbrev Y8:FT:=je (je Bw)
abbrev Y0:FT:=cx Bw Y8
abbrev Y22:FT:=je (je (je .str))
abbrev Y25:FT:=je (je (cx Bw Y22))
abbrev Y1:FT:=je (je (je (je (je (je (je (je (cx Bw Y25))))))))
abbrev Y10:FT:=je (je (je (.sl (.own none) (.int .i64))))
abbrev Y23:FT:=cx Y0 (cx Y10 (cx (.sl (.own none) jt) Bw))
abbrev Y19:FT:=je (cx .bool (.sl (.own none) (.int .i64)))
abbrev Y27:FT:=cx (.sl (.own none) kZ) (cx (.sl (.own none) iH) (cx .str (.sl (.own none) (.int .i64))))
abbrev Y2:FT:=cx (.sl (.own none) .str) (cx (.sl (.own none) bL) (cx Y23 (cx (.sl (.own none) ec) (cx (.sl (.own none) js) (cx (.sl (.own none) fV) (cx (.sl (.own none) .bool) (cx Y19 (cx Y27 (cx (.sl (.own none) eJ) (cx .bool (cx (.sl (.own none) .str) (cx (.sl (.own none) (.int .i64)) (cx (.sl (.own none) (.int .i64)) (cx Bw Y0))))))))))))))
abbrev Y3:FT:=cx (cA 24577 .str) (cx (cA 24580 bL) (cx (cx Y0 (cx (je (je (je (cA 24604 (.int .i64))))) (cx (cA 24607 jt) Bw))) (cx (cA 24613 ec) (cx (cA 24616 js) (cx (cA 24619 fV) (cx (cA 24622 .bool) (cx (je (cx .bool (cA 24631 (.int .i64)))) (cx (cx (cA 24634 kZ) (cx (cA 24637 iH) (cx .str (cA 24643 (.int .i64))))) (cx (cA 24646 eJ) (cx .bool (cx (cA 24652 .str) (cx (cA 24655 (.int .i64)) (cx (cA 24658 (.int .i64)) (cx Bw Y0))))))))))))))
abbrev Y4:FT:=cx (cA 36865 .str) (cx (cA 36868 bL) (cx (cx Y0 (cx (je (je (je (cA 36892 (.int .i64))))) (cx (cA 36895 jt) Bw))) (cx (cA 36901 ec) (cx (cA 36904 js) (cx (cA 36907 fV) (cx (cA 36910 .bool) (cx (je (cx .bool (cA 36919 (.int .i64)))) (cx (cx (cA 36922 kZ) (cx (cA 36925 iH) (cx .str (cA 36931 (.int .i64))))) (cx (cA 36934 eJ) (cx .bool (cx (cA 36940 .str) (cx (cA 36943 (.int .i64)) (cx (cA 36946 (.int .i64)) (cx Bw Y0))))))))))))))
abbrev Y5:FT:=cx (.sl (.own none) de) (cx (.sl (.own none) bK) (cx (.sl (.own none) dV) (cx (.sl (.own none) .str) (cx Y0 (cx (.sl (.own none) (.int .i64)) (.sl (.own none) .str))))))
abbrev Y18:FT:=je (je (je (.sl .arg (.int .i64))))
abbrev Y26:FT:=cx Y0 (cx Y18 (cx (.sl .arg jt) Bw))
abbrev Y24:FT:=je (cx .bool (.sl .arg (.int .i64)))
abbrev Y21:FT:=cx (.sl .arg kZ) (cx (.sl .arg iH) (cx .str (.sl .arg (.int .i64))))
abbrev Y6:FT:=cx (.sl .arg .str) (cx (.sl .arg bL) (cx Y26 (cx (.sl .arg ec) (cx (.sl .arg js) (cx (.sl .arg fV) (cx (.sl .arg .bool) (cx Y24 (cx Y21 (cx (.sl .arg eJ) (cx .bool (cx (.sl .arg .str) (cx (.sl .arg (.int .i64)) (cx (.sl .arg (.int .i64)) (cx Bw Y0))))))))))))))
abbrev Y7:FT:=cx (.sl .arg0 (.int .u8)) (je Bw)
abbrev Y9:FT:=cx (cA 24577 de) (cx (cA 24580 bK) (cx (cA 24583 dV) (cx (cA 24586 .str) (cx Y0 (cx (cA 24601 (.int .i64)) (cA 24604 .str))))))
abbrev Y11:FT:=cx (cA 196609 .str) (cx (cA 196612 bL) (cx (cx Y0 (cx (je (je (je (cA 196636 (.int .i64))))) (cx (cA 196639 jt) Bw))) (cx (cA 196645 ec) (cx (cA 196648 js) (cx (cA 196651 fV) (cx (cA 196654 .bool) (cx (je (cx .bool (cA 196663 (.int .i64)))) (cx (cx (cA 196666 kZ) (cx (cA 196669 iH) (cx .str (cA 196675 (.int .i64))))) (cx (cA 196678 eJ) (cx .bool (cx (cA 196684 .str) (cx (cA 196687 (.int .i64)) (cx (cA 196690 (.int .i64)) (cx Bw Y0))))))))))))))
abbrev Y12:FT:=cx (cA 147457 .str) (cx (cA 147460 bL) (cx (cx Y0 (cx (je (je (je (cA 147484 (.int .i64))))) (cx (cA 147487 jt) Bw))) (cx (cA 147493 ec) (cx (cA 147496 js) (cx (cA 147499 fV) (cx (cA 147502 .bool) (cx (je (cx .bool (cA 147511 (.int .i64)))) (cx (cx (cA 147514 kZ) (cx (cA 147517 iH) (cx .str (cA 147523 (.int .i64))))) (cx (cA 147526 eJ) (cx .bool (cx (cA 147532 .str) (cx (cA 147535 (.int .i64)) (cx (cA 147538 (.int .i64)) (cx Bw Y0))))))))))))))
abbrev Y13:FT:=cx (.sl .loc de) (cx (.sl .loc bK) (cx (.sl .loc dV) (cx (.sl .loc .str) (cx Y0 (cx (.sl .loc (.int .i64)) (.sl .loc .str))))))
abbrev Y14:FT:=cx (cA 73729 de) (cx (cA 73732 bK) (cx (cA 73735 dV) (cx (cA 73738 .str) (cx Y0 (cx (cA 73753 (.int .i64)) (cA 73756 .str))))))
abbrev Y15:FT:=cx (cA 49153 de) (cx (cA 49156 bK) (cx (cA 49159 dV) (cx (cA 49162 .str) (cx Y0 (cx (cA 49177 (.int .i64)) (cA 49180 .str))))))
abbrev Y16:FT:=je (je (cx (je (cx Y1 (je (je (cx .str Bw))))) (cx Y8 (cx .str Bw))))
abbrev Y17:FT:=je (je (je (je (cx .bool .bool))))
abbrev Y20:FT:=cx Y0 (cx Y8 (cx Y8 (cx (cx Y1 (je Bw)) (cx .bool Bw))))
abbrev Y28:FT:=je (je (je (cA 184330 (.int .i64))))
abbrev Y29:FT:=je (je (je (cA 147466 (.int .i64))))
abbrev Y30:FT:=je (je (je (cA 98314 (.int .i64))))
abbrev Y31:FT:=je (je (je (cA 73738 (.int .i64))))
def E:Env:={ty:=[(3,⟨false,(.int .i64),[]⟩),(4,⟨false,.bool,[]⟩),(5,⟨false,(.int .u8),[]⟩),(9,⟨false,.str,[]⟩),(22,⟨false,(.sl (.int .u8)),[(5,0)]⟩),(24,⟨false,(.sl de),[(87,0)]⟩),(25,⟨false,(.sl bK),[(178,0)]⟩),(26,⟨false,(.sl dV),[(42,0)]⟩),(27,⟨false,(.sl .str),[(9,0)]⟩),(29,⟨true,(.sl .str),[(0,1)]⟩),(31,⟨true,ir,[(0,1),(1,1),(2,1),(3,1)]⟩),(32,⟨false,(.sl (.int .i64)),[(3,0)]⟩),(34,⟨true,sZ,[(0,1),(1,1),(2,1),(3,1),(4,4),(8,1),(9,1)]⟩),(35,⟨false,(.sl fE),[(58,0)]⟩),(40,⟨true,lV,[(0,1),(1,1),(2,1)]⟩),(42,⟨true,dV,[(0,3),(3,1),(4,1),(5,1)]⟩),(44,⟨true,gV,[(0,1),(1,1),(2,1)]⟩),(47,⟨false,(.sl jK),[(102,0)]⟩),(52,⟨true,xT,[(0,1),(1,1),(2,1),(3,1),(4,1),(5,1),(6,1),(7,1)]⟩),(54,⟨true,cR,[(0,1),(1,1),(2,1),(3,1),(4,1),(5,1),(6,1),(7,1),(8,8)]⟩),(56,⟨true,abV,[(0,1),(1,16),(17,1),(18,1),(19,1),(20,1)]⟩),(58,⟨true,fE,[(0,1),(1,1),(2,21),(23,3),(26,1),(27,1)]⟩),(62,⟨true,(.sl .str),[(0,1)]⟩),(63,⟨false,(.sl bL),[(125,0)]⟩),(65,⟨true,ir,[(0,1),(1,1),(2,1),(3,1)]⟩),(67,⟨true,js,[(0,1),(1,1),(2,1),(3,1)]⟩),(68,⟨false,(.sl jt),[(188,0)]⟩),(70,⟨true,k6,[(0,4),(4,4),(8,1),(9,1)]⟩),(71,⟨false,(.sl ec),[(170,0)]⟩),(72,⟨false,(.sl js),[(67,0)]⟩),(73,⟨false,(.sl fV),[(174,0)]⟩),(74,⟨false,(.sl .bool),[(4,0)]⟩),(75,⟨false,(.sl kZ),[(133,0)]⟩),(76,⟨false,(.sl iH),[(213,0)]⟩),(78,⟨true,(.sl iH),[(0,1)]⟩),(80,⟨true,AB,[(0,1),(1,1)]⟩),(82,⟨true,ox,[(0,1),(1,1),(2,2)]⟩),(83,⟨false,(.sl eJ),[(215,0)]⟩),(85,⟨true,qX,[(0,1),(1,1),(2,1),(3,1),(4,1)]⟩),(87,⟨true,de,[(0,1),(1,1),(2,10),(12,1),(13,1),(14,1),(15,1),(16,3),(19,4),(23,1),(24,1),(25,1),(26,1),(27,1),(28,5)]⟩),(102,⟨true,jK,[(0,1),(1,1),(2,1),(3,1)]⟩),(114,⟨false,(.sl nj),[(184,0)]⟩),(125,⟨true,bL,[(0,1),(1,1),(2,1),(3,1)]⟩),(128,⟨true,(.pair (.sl (.int .u8)) (.pair (.int .i64) (.int .i64))),[(0,1),(1,1),(2,1)]⟩),(133,⟨true,kZ,[(0,1),(1,1),(2,1),(3,1),(4,1),(5,1),(6,1),(7,1),(8,1)]⟩),(136,⟨true,gV,[(0,1),(1,1),(2,1)]⟩),(145,⟨false,(.sl cR),[(54,0)]⟩),(166,⟨true,gV,[(0,1),(1,1),(2,1)]⟩),(168,⟨true,Jz,[(0,16),(16,1),(17,1)]⟩),(170,⟨true,ec,[(0,4),(4,3),(7,3),(10,18),(28,1),(29,1)]⟩),(174,⟨true,fV,[(0,1),(1,1),(2,1),(3,1),(4,1),(5,1)]⟩),(178,⟨true,bK,[(0,1),(1,1),(2,3),(5,1),(6,1),(7,1)]⟩),(184,⟨true,nj,[(0,1),(1,1),(2,1),(3,1)]⟩),(188,⟨true,jt,[(0,1),(1,1),(2,1)]⟩),(211,⟨true,qX,[(0,1),(1,1),(2,1),(3,1),(4,1)]⟩),(213,⟨true,iH,[(0,1),(1,5),(6,1)]⟩),(215,⟨true,eJ,[(0,5),(5,1),(6,1),(7,1)]⟩),(249,⟨true,mj,[(0,1),(1,1),(2,1),(3,1),(4,1),(5,1)]⟩),(284,⟨true,TIp,[(0,1),(1,1),(2,1),(3,1),(4,1),(5,1),(6,1)]⟩),(287,⟨true,Zh,[(0,1),(1,1),(2,1),(3,1),(4,1)]⟩),(300,⟨true,qX,[(0,1),(1,1),(2,1),(3,1),(4,1)]⟩),(305,⟨false,(.sl g9),[(309,0)]⟩),(309,⟨true,g9,[(0,1),(1,1)]⟩),(324,⟨false,(.sl g9),[(364,0)]⟩),(327,⟨false,(.sl mj),[(249,0)]⟩),(341,⟨false,(.int .u32),[]⟩),(364,⟨true,g9,[(0,1),(1,1)]⟩)],eqs:=[(54,[.int,.int,.int,.int,.int,.int,.int,.int,.int,.int,.int,.int,.int,.int,.int,.str]),(168,[.int,.int,.int,.int,.int,.int,.int,.int,.int,.int,.int,.int,.int,.int,.int,.str,.int,.int]),(211,[.int,.int,.int,.int,.int]),(249,[.int,.int,.int,.int,.int,.int])],fts:=[]}
theorem base:Sound Tryz.prog E dm.nil:=Sound.nil (Ty (by kernel_rfl)) (TB (by kernel_rfl)) (TA (by kernel_rfl)) (by kernel_rfl)
def e7:bg:=aK [pd (.sl (.int .u8))] [rB] (c1 Pu.FR)
theorem o7:cE 7 e7:=f0 {} base Tryz.func7
def e19:bg:=Vz (.pair (.sl .arg (.int .u8)) (.pair (.int .i64) (.int .i64))) [pd (.sl (.int .u8))] λa=>Pu.zC a.1
def g19:dm:=dm.nil
def n19:An:={mask:=mk [(3,[0,3,4])],merge:=mg [(3,15)]}
abbrev XH:SD:=⟨.data false (.sl .arg (.int .u8))::B::B::DI::DI::bs 27 [],zs 32 [],.none⟩
def ahA (X:SD.D XH)(K:Ex->AS->aw R):=Pu.yC (λy0 y1=>ke 0 K XH ((z1 (w y0 (u y1)) X.1),X.2)) X.1.1
def apD:cH:=gN XH ahA (λX=>(X.1.2.1,q2 X))
def L19:dC:=(dC.nil).add 3 apD
theorem ao0:gy E g19 n19 L19 (aR Tryz.f19 0):=lk XH ahA (λX=>(X.1.2.1,q2 X)) λX x=>((z1 (w x.1 (u x.2)) X.1),X.2)
theorem o19:cE 19 e19:=g8.ar7 (aoI (Γ:=g19) (an:=n19) (Λ:=L19) (base) Tryz.func19 (by kernel_rfl) (ao (cF ao0 nF))) (λa=>by kernel_rfl)
def e53:bg:=aK [] [(true,(.sl (.own none) iH))] λa=>Pu.rX
theorem o53:cE 53 e53:=f0 {} base Tryz.func53
def anz:bg:=jm (.pair (.sl .arg0 (.int .u8)) (.pair (.int .i64) (.int .i64))) [] [rI] λx a=>Pu.jG x
theorem ard:cE 131 anz:=g8.pS (pA (an:={}) (Λ:=dC.nil) (base) Tryz.func131 (by kernel_rfl) (ao nF)) (λx a=>by kernel_rfl)
def aiz:bg:=jm (.pair (.sl .arg0 (.int .u8)) (.pair (.int .i64) (.int .i64))) [pI] [rS] λx a=>Pu.jH x a.1
def aoL:dm:=dm.nil.add 131 anz
def aql:An:={mask:=mk [(5,[0,1,5,6])],mv:=[15]}
abbrev OZ:SD:=⟨.ptr 0 0::DI::B::B::B::.data false (cA 61440 (.int .u8))::DI::bs 16 [],(some Y7)::zs 22 [],.ptr⟩
def aei (X:SD.D OZ)(K:Ex->AS->aw R):=Pu.oh (λy0 y1 y2=>ke 0 K OZ ((z1 (w y0 (u y1)) X.1),(u y2 X.2.1),X.2.2)) X.1.1
def akl:cH:=gN OZ aei (λX=>(X.1.2.1,q2 X,X.2.1.1))
def amr:dC:=(dC.nil).add 5 akl
theorem ai4:gy E aoL aql amr (aR Tryz.f124 0):=lk OZ aei (λX=>(X.1.2.1,q2 X,X.2.1.1)) λX x=>((z1 (w x.1 (u x.2.1)) X.1),(u x.2.2 X.2.1),X.2.2)
theorem aaM:cE 124 aiz:=g8.pS (pA (Γ:=aoL) (an:=aql) (Λ:=amr) (base.add ard) Tryz.func124 (by kernel_rfl) (ao (cF ai4 nF))) (λx a=>by kernel_rfl)
def e54:bg:=jm (.pair (.sl .arg0 (.int .u8)) (.pair (.int .i64) (.int .i64))) [] [rS] λx a=>Pu.zD x
theorem o54:cE 54 e54:=g8.pS (pA (an:={}) (Λ:=dC.nil) (base.add aaM) Tryz.func54 (by kernel_rfl) (ao nF)) (λx a=>by kernel_rfl)
def e59:bg:=jm (.pair (.sl .arg0 (.int .u8)) (.pair (.int .i64) (.int .i64))) [pI] [rI] λx a=>Pu.cD x a.1
theorem o59:cE 59 e59:=g8.pS (pA (an:={}) (Λ:=dC.nil) (base.add ard) Tryz.func59 (by kernel_rfl) (ao nF)) (λx a=>by kernel_rfl)
def e55:bg:=jm (.pair (.sl .arg0 (.int .u8)) (.pair (.int .i64) (.int .i64))) [pI] [rB] λx a=>Pu.fK x a.1
theorem o55:cE 55 e55:=g8.pS (pA (an:={}) (Λ:=dC.nil) (base.add o59) Tryz.func55 (by kernel_rfl) (ao nF)) (λx a=>by kernel_rfl)
def e56:bg:=jm (.pair (.sl .arg0 (.int .u8)) (.pair (.int .i64) (.int .i64))) [pd (.sl (.int .i64))] [rI] λx a=>Pu.cK x a.1
theorem o56:cE 56 e56:=g8.pS (pA (an:={}) (Λ:=dC.nil) (base.add o59) Tryz.func56 (by kernel_rfl) (ao nF)) (λx a=>by kernel_rfl)
def Mr:bg:=aK [pI,pI,pI] [rB] (c3 Pu.aZ)
theorem u1:cE 113 Mr:=f0 {merge:=mg [(1,6)]} base Tryz.func113
def asr:bg:=aK [pI] [rS] (c1 Pu.eT)
theorem aaN:cE 132 asr:=f0 {} (base.add u1) Tryz.func132
def ass:bg:=aK [pd .str] [rI] (c1 Pu.yA)
def aoN:dm:=dm.nil
def alz:An:={mask:=mk [(3,[0,3,4]),(7,[0,3,4,5])]}
abbrev O2:SD:=⟨.data false .str::B::B::DI::DI::DI::bs 26 [],zs 32 [],.none⟩
def aem (X:SD.D O2)(K:Ex->AS->aw R):=Pu.oG (λy0 y1=>ke 2 K O2 ((z1 (w y0 (z1 (u y1))) X.1),X.2)) X.1.1 (q2 X)
def akp:cH:=gN O2 aem (λX=>(X.1.2.1,q3 X))
abbrev O1:SD:=⟨.data false .str::B::B::DI::DI::bs 27 [],zs 32 [],.none⟩
def ael (X:SD.D O1)(K:Ex->AS->aw R):=Pu.rT (λy0 y1=>ke 0 K O1 ((z1 (w y0 (u y1)) X.1),X.2)) X.1.1
def ako:cH:=gN O1 ael (λX=>(X.1.2.1,q2 X))
def aif:dC:=((dC.nil).add 7 akp).add 3 ako
theorem ai8:gy E aoN alz aif (aR Tryz.f133 1):=lk O2 aem (λX=>(X.1.2.1,q3 X)) λX x=>((z1 (w x.1 (z1 (u x.2))) X.1),X.2)
theorem ai7:gy E aoN alz aif (aR Tryz.f133 0):=lk O1 ael (λX=>(X.1.2.1,q2 X)) λX x=>((z1 (w x.1 (u x.2)) X.1),X.2)
theorem are:cE 133 ass:=fk alz base Tryz.func133 (Λ:=aif) (cF ai7 (cF ai8 nF))
def e61:bg:=aK [pI,pd .str] [rS,rB] (c2 Pu.mT)
theorem o61:cE 61 e61:=f0 {merge:=mg [(1,15)]} (((base.add u1).add aaN).add are) Tryz.func61
def asO:bg:=aK [pd .str,pI,pI] [rB] (c3 Pu.mW)
theorem alV:cE 189 asO:=f0 {merge:=mg [(1,6)]} base Tryz.func189
def asP:bg:=aK [pd .str,pI] [rI] (c2 Pu.yB)
theorem avN:cE 190 asP:=f0 {} (base.add alV) Tryz.func190
def aso:bg:=aK [pd .str,pI] [rI] (c2 Pu.vf)
theorem avh:cE 121 aso:=f0 {} ((base.add alV).add avN) Tryz.func121
def e51:bg:=aK [pd .str] [rI] (c1 Pu.lE)
theorem o51:cE 51 e51:=f0 {merge:=mg [(2,17),(5,37)]} (((base.add o61).add u1).add avh) Tryz.func51
def asn:bg:=aK [pf (.sl .str)] [rB] (c1 Pu.xp)
theorem avg:cE 120 asn:=f0 {merge:=mg [(1,2)]} base Tryz.func120
def e50:bg:=aK [pf (.sl .str)] [rI] (c1 Pu.vO)
theorem o50:cE 50 e50:=f0 {merge:=mg [(5,23)]} ((base.add o51).add avg) Tryz.func50
def aix:bg:=aK [pf lV] [rB] (c1 Pu.oH)
def aui:dm:=dm.nil.add 113 Mr
def aqj:An:={mask:=mk [(2,[1,2,3])],merge:=mg [(4,35),(6,2)]}
abbrev JT:SD:=⟨B::.ptr 1 0::DB::DI::bs 41 [],Z::(some Y24)::zs 43 [],.none⟩
def aed (X:SD.D JT)(K:Ex->AS->aw R):=Pu.qJ (λy0=>ke 0 K JT ((z1 (u y0) X.1),X.2)) (λy0 y1=>kr K JT ((w y0 (u y1) X.1),X.2)) X.1.1 X.2.1.1
def akg:cH:=gN JT aed (λX=>X.1.2.1)
def amp:dC:=(dC.nil).add 2 akg
theorem aiZ:gy E aui aqj amp (aR Tryz.f112 0):=lk JT aed (λX=>X.1.2.1) λX x=>((z1 (u x) X.1),X.2)
theorem alK:cE 112 aix:=fk aqj (base.add u1) Tryz.func112 (Λ:=amp) (cF aiZ nF)
def anT:bg:=aK [pf dV] [rB] (c1 Pu.uz)
theorem avO:cE 193 anT:=f0 {merge:=mg [(1,2)]} ((base.add alK).add u1) Tryz.func193
def aiL:bg:=aK [pd (.sl (.int .i64)),pI] [rB] (c2 Pu.wH)
def auK:dm:=dm.nil
def aqN:An:={mask:=mk [(2,[0,1,4,5])]}
abbrev Kb:SD:=⟨.data false (.sl .arg (.int .i64))::DI::B::B::DB::DI::bs 12 [],zs 18 [],.none⟩
def aeX (X:SD.D Kb)(K:Ex->AS->aw R):=Pu.uI (λy0=>ke 0 K Kb ((z3 (u y0) X.1),X.2)) (λy0 y1=>kr K Kb ((z2 (w y0 (u y1)) X.1),X.2)) X.1.1 X.1.2.1 (q2 X)
def ak0:cH:=gN Kb aeX q3
def amT:dC:=(dC.nil).add 2 ak0
theorem ajJ:gy E auK aqN amT (aR Tryz.f265 0):=lk Kb aeX q3 λX x=>((z3 (u x) X.1),X.2)
theorem arR:cE 265 aiL:=fk aqN base Tryz.func265 (Λ:=amT) (cF ajJ nF)
def anU:bg:=aK [pd (.sl (.int .i64)),pd (.sl (.int .i64))] [(false,(.sl (.own none) (.int .i64)))] (c2 Pu.sc)
def aoS:dm:=dm.nil.add 265 aiL
def alD:An:={mask:=mk [(3,[1,5,6]),(7,[1,5,6,7])],merge:=mg [(7,37)],mv:=[55]}
abbrev Pd:SD:=⟨B::.data false (.sl .arg (.int .i64))::B::B::B::.data false (cA 61440 (.int .i64))::DI::DI::bs 48 [],zs 56 [],.none⟩
def aeF (X:SD.D Pd)(K:Ex->AS->aw R):=Pu.qS (λy0=>ke 2 K Pd ((z3 (u y0) X.1),X.2)) X.1.1 X.1.2.1 (q2 X)
def akI:cH:=gN Pd aeF q3
abbrev Pc:SD:=⟨B::.data false (.sl .arg (.int .i64))::B::B::B::.data false (cA 61440 (.int .i64))::DI::bs 49 [],zs 56 [],.none⟩
def aeE (X:SD.D Pc)(K:Ex->AS->aw R):=Pu.na (λy0 y1=>ke 0 K Pc ((z1 (w y0 (u y1)) X.1),X.2)) X.1.1
def akH:cH:=gN Pc aeE (λX=>(X.1.2.1,q2 X))
def aik:dC:=((dC.nil).add 7 akI).add 3 akH
theorem ajr:gy E aoS alD aik (aR Tryz.f194 1):=lk Pd aeF q3 λX x=>((z3 (u x) X.1),X.2)
theorem ajq:gy E aoS alD aik (aR Tryz.f194 0):=lk Pc aeE (λX=>(X.1.2.1,q2 X)) λX x=>((z1 (w x.1 (u x.2)) X.1),X.2)
theorem avP:cE 194 anU:=fk alD (base.add arR) Tryz.func194 (Λ:=aik) (cF ajq (cF ajr nF))
def anV:bg:=aK [pd (.sl jK)] [rB] (c1 Pu.uD)
def aoT:dm:=((dm.nil.add 112 aix).add 113 Mr).add 265 aiL
def alE:An:={mask:=mk [(4,[0,2,3]),(9,[0,2,3,4])]}
abbrev J6:SD:=⟨.data false (.sl .arg jK)::B::DB::DI::DI::bs 53 [],zs 58 [],.none⟩
def aeH (X:SD.D J6)(K:Ex->AS->aw R):=Pu.sJ (λy0=>ke 2 K J6 ((z3 (u y0) X.1),X.2)) (λy0 y1=>kr K J6 ((z1 (w y0 (z1 (u y1))) X.1),X.2)) X.1.1 X.1.2.1 (q2 X)
def akK:cH:=gN J6 aeH q3
abbrev J5:SD:=⟨.data false (.sl .arg jK)::B::DB::DI::bs 54 [],zs 58 [],.none⟩
def aeG (X:SD.D J5)(K:Ex->AS->aw R):=Pu.sI (λy0=>ke 0 K J5 ((z2 (u y0) X.1),X.2)) (λy0 y1=>kr K J5 ((z1 (w y0 (u y1)) X.1),X.2)) X.1.1 X.1.2.1
def akJ:cH:=gN J5 aeG q2
def ail:dC:=((dC.nil).add 9 akK).add 4 akJ
theorem ajt:gy E aoT alE ail (aR Tryz.f195 1):=lk J6 aeH q3 λX x=>((z3 (u x) X.1),X.2)
theorem ajs:gy E aoT alE ail (aR Tryz.f195 0):=lk J5 aeG q2 λX x=>((z2 (u x) X.1),X.2)
theorem avQ:cE 195 anV:=fk alE (((base.add alK).add u1).add arR) Tryz.func195 (Λ:=ail) (cF ajs (cF ajt nF))
def ans:bg:=aK [pd (.sl dV)] [(false,(.sl (.own none) jK)),rB] (c1 Pu.xr)
def auk:dm:=(((dm.nil.add 113 Mr).add 193 anT).add 194 anU).add 195 anV
def aqm:An:={mask:=mk [(5,[0,2,3,4,5])],mv:=[41,63]}
abbrev JX:SD:=⟨.data false (.sl .arg dV)::B::.data false (cA 24576 jK)::DB::.data false (cA 49152 jK)::DI::bs 58 [],zs 64 [],.none⟩
def aej (X:SD.D JX)(K:Ex->AS->aw R):=Pu.oe (λy0 y1=>ke 0 K JX ((z3 (w y0 (u y1)) X.1),X.2)) (λy0 y1 y2 y3=>kr K JX ((z1 (w y0 (w y1 (w y2 (u y3)))) X.1),X.2)) X.1.1 X.1.2.1 (q2 X)
def akm:cH:=gN JX aej (λX=>(q3 X,q4 X))
def ams:dC:=(dC.nil).add 5 akm
theorem ai5:gy E auk aqm ams (aR Tryz.f125 0):=lk JX aej (λX=>(q3 X,q4 X)) λX x=>((z3 (w x.1 (u x.2)) X.1),X.2)
theorem avj:cE 125 ans:=fk aqm ((((base.add u1).add avO).add avP).add avQ) Tryz.func125 (Λ:=ams) (cF ai5 nF)
def ant:bg:=aK [pf gV] [rB] (c1 Pu.vP)
theorem avk:cE 126 ant:=f0 {merge:=mg [(1,2)]} (base.add u1) Tryz.func126
def anu:bg:=aK [pf ir] [rB] (c1 Pu.xo)
theorem avl:cE 127 anu:=f0 {merge:=mg [(1,2)]} (base.add u1) Tryz.func127
def aom:bg:=aK [pf kZ] [rB] (c1 Pu.lG)
theorem awt:cE 261 aom:=f0 {merge:=mg [(1,33),(3,54),(5,2)]} (base.add u1) Tryz.func261
def anQ:bg:=aK [pd (.sl kZ)] [rB] (c1 Pu.xu)
def auu:dm:=dm.nil.add 261 aom
def aqx:An:={mask:=mk [(2,[0,2,3])]}
abbrev J2:SD:=⟨.data false (.sl .arg kZ)::B::DB::DI::bs 15 [],zs 19 [],.none⟩
def aez (X:SD.D J2)(K:Ex->AS->aw R):=Pu.sK (λy0=>ke 0 K J2 ((z2 (u y0) X.1),X.2)) (λy0 y1=>kr K J2 ((z1 (w y0 (u y1)) X.1),X.2)) X.1.1 X.1.2.1
def akC:cH:=gN J2 aez q2
def amD:dC:=(dC.nil).add 2 akC
theorem ajl:gy E auu aqx amD (aR Tryz.f183 0):=lk J2 aez q2 λX x=>((z2 (u x) X.1),X.2)
theorem avJ:cE 183 anQ:=fk aqx (base.add awt) Tryz.func183 (Λ:=amD) (cF ajl nF)
def aov:bg:=aK [pf qX] [rI] (c1 Pu.vT)
def auU:dm:=dm.nil
def aqX:An:={mask:=mk [(4,[3,4,5])]}
abbrev PC:SD:=⟨B::B::B::DI::.data false (cA 49152 (.int .i64))::DI::bs 26 [],zs 32 [],.none⟩
def ae8 (X:SD.D PC)(K:Ex->AS->aw R):=Pu.mS (λy0 y1=>ke 0 K PC ((w y0 (z1 (u y1)) X.1),X.2)) X.1.2.1
def alb:cH:=gN PC ae8 (λX=>(X.1.1,q2 X))
def am3:dC:=(dC.nil).add 4 alb
theorem ajU:gy E auU aqX am3 (aR Tryz.f308 0):=lk PC ae8 (λX=>(X.1.1,q2 X)) λX x=>((w x.1 (z1 (u x.2)) X.1),X.2)
theorem awV:cE 308 aov:=fk aqX base Tryz.func308 (Λ:=am3) (cF ajU nF)
def aon:bg:=aK [pf (.sl iH),pf qX] [rI] (c2 Pu.xB)
def auJ:dm:=dm.nil.add 308 aov
def aqM:An:={mask:=mk [(2,[2,3,4,5])],merge:=mg [(7,39)]}
abbrev Ka:SD:=⟨B::B::.ptr 2 0::.ptr 3 0::DI::DI::bs 35 [],Z::Z::(nU (.sl .arg iH))::(nU (cx Bw Y0))::zs 37 [],.none⟩
def aeW (X:SD.D Ka)(K:Ex->AS->aw R):=Pu.oq (λy0=>ke 0 K Ka ((z1 (u y0) X.1),X.2)) (λy0 y1=>kr K Ka ((w y0 (u y1) X.1),X.2)) X.1.1 X.2.1.1 X.2.1.2.1
def akZ:cH:=gN Ka aeW (λX=>X.1.2.1)
def amS:dC:=(dC.nil).add 2 akZ
theorem ajI:gy E auJ aqM amS (aR Tryz.f262 0):=lk Ka aeW (λX=>X.1.2.1) λX x=>((z1 (u x) X.1),X.2)
theorem awu:cE 262 aon:=fk aqM (base.add awV) Tryz.func262 (Λ:=amS) (cF ajI nF)
def anR:bg:=aK [pf (.sl iH)] [rB] (c1 Pu.xv)
def auv:dm:=(dm.nil.add 113 Mr).add 262 aon
def aqy:An:={mask:=mk [(4,[1,2,3])],merge:=mg [(7,30),(10,42)]}
abbrev J3:SD:=⟨B::.ptr 1 0::DB::DI::bs 45 [],Z::(nU (.sl .arg iH))::zs 47 [],.none⟩
def aeA (X:SD.D J3)(K:Ex->AS->aw R):=Pu.sM (λy0=>ke 0 K J3 ((z1 (u y0) X.1),X.2)) (λy0 y1=>kr K J3 ((w y0 (u y1) X.1),X.2)) X.1.1 X.2.1.1
def akD:cH:=gN J3 aeA (λX=>X.1.2.1)
def amE:dC:=(dC.nil).add 4 akD
theorem ajm:gy E auv aqy amE (aR Tryz.f184 0):=lk J3 aeA (λX=>X.1.2.1) λX x=>((z1 (u x) X.1),X.2)
theorem avK:cE 184 anR:=fk aqy ((base.add u1).add awu) Tryz.func184 (Λ:=amE) (cF ajm nF)
def aoo:bg:=aK [pI] [rB] (c1 Pu.xz)
theorem awv:cE 263 aoo:=f0 {merge:=mg [(1,2)]} base Tryz.func263
def anS:bg:=aK [pf AB,pI] [rB] (c2 Pu.vW)
def auw:dm:=(dm.nil.add 113 Mr).add 263 aoo
def aqz:An:={mask:=mk [(4,[1,2,4,5])],merge:=mg [(1,21)]}
abbrev J4:SD:=⟨B::DI::.ptr 2 0::B::DB::DI::bs 32 [],Z::Z::(nU (cx .str (.sl .arg (.int .i64))))::zs 35 [],.none⟩
def aeB (X:SD.D J4)(K:Ex->AS->aw R):=Pu.qO (λy0=>ke 0 K J4 ((z2 (u y0) X.1),X.2)) (λy0 y1=>kr K J4 ((z1 (w y0 (u y1)) X.1),X.2)) X.1.1 X.1.2.1 X.2.1.1
def akE:cH:=gN J4 aeB q2
def amF:dC:=(dC.nil).add 4 akE
theorem ajn:gy E auw aqz amF (aR Tryz.f185 0):=lk J4 aeB q2 λX x=>((z2 (u x) X.1),X.2)
theorem avL:cE 185 anS:=fk aqz ((base.add u1).add awv) Tryz.func185 (Λ:=amF) (cF ajn nF)
def anr:bg:=aK [pf ox,pI] [rB] (c2 Pu.sL)
def aoK:dm:=((dm.nil.add 183 anQ).add 184 anR).add 185 anS
def alx:An:={mask:=mk [(4,[1,2,4,5]),(9,[1,2,4,6])],merge:=mg [(1,23)]}
abbrev JU:SD:=⟨B::DI::.ptr 2 0::B::DB::DI::bs 50 [],Z::Z::(some Y21)::zs 53 [],.none⟩
def aee (X:SD.D JU)(K:Ex->AS->aw R):=Pu.nQ (λy0=>ke 0 K JU ((z2 (u y0) X.1),X.2)) (λy0 y1=>kr K JU ((z1 (w y0 (u y1)) X.1),X.2)) X.1.1 X.1.2.1 X.2.1.1
def akh:cH:=gN JU aee q2
abbrev JV:SD:=⟨B::DI::.ptr 2 0::B::DB::B::DI::bs 49 [],Z::Z::(some Y21)::zs 53 [],.none⟩
def aef (X:SD.D JV)(K:Ex->AS->aw R):=Pu.nR (λy0=>ke 2 K JV ((z2 (u y0) X.1),X.2)) (λy0 y1=>kr K JV ((z1 (w y0 (u y1)) X.1),X.2)) X.1.1 X.1.2.1 X.2.1.1
def aki:cH:=gN JV aef q2
def aid:dC:=((dC.nil).add 4 akh).add 9 aki
theorem ai0:gy E aoK alx aid (aR Tryz.f114 0):=lk JU aee q2 λX x=>((z2 (u x) X.1),X.2)
theorem ai1:gy E aoK alx aid (aR Tryz.f114 1):=lk JV aef q2 λX x=>((z2 (u x) X.1),X.2)
theorem ave:cE 114 anr:=fk alx (((base.add avJ).add avK).add avL) Tryz.func114 (Λ:=aid) (cF ai0 (cF ai1 nF))
def asN:bg:=aK [pf fV] [rB] (c1 Pu.tq)
theorem avM:cE 188 asN:=f0 {merge:=mg [(1,2)]} base Tryz.func188
def asm:bg:=aK [pf fV] [rB] (c1 Pu.lP)
theorem avf:cE 117 asm:=f0 {merge:=mg [(1,24),(3,2)]} ((base.add u1).add avM) Tryz.func117
def anW:bg:=aK [pI,pI] [(true,Y17),rB] (c2 Pu.uB)
theorem avR:cE 196 anW:=f0 {} (base.add avf) Tryz.func196
def e62:bg:=aK [pI,pd (.int .u8)] [rS] (c2 Pu.fJ)
def g62:dm:=dm.nil
def n62:An:={mask:=mk [(3,[0,1,5,6])]}
abbrev XT:SD:=⟨DI::.data false (.int .u8)::B::B::B::.data false (cA 61440 (.int .u8))::DI::bs 13 [],zs 20 [],.none⟩
def ahU (X:SD.D XT)(K:Ex->AS->aw R):=Pu.og (λy0 y1=>ke 0 K XT ((z2 (w y0 (u y1)) X.1),X.2)) X.1.1 X.1.2.1
def apX:cH:=gN XT ahU (λX=>(q2 X,q3 X))
def L62:dC:=(dC.nil).add 3 apX
theorem apk:gy E g62 n62 L62 (aR Tryz.f62 0):=lk XT ahU (λX=>(q2 X,q3 X)) λX x=>((z2 (w x.1 (u x.2)) X.1),X.2)
theorem o62:cE 62 e62:=fk n62 base Tryz.func62 (Λ:=L62) (cF apk nF)
def anX:bg:=aK [pI] [(true,(.sl (.own none) .str))] (c1 Pu.mV)
def auy:dm:=dm.nil.add 62 e62
def aqA:An:={mask:=mk [(3,[0,2,3,4])],merge:=mg [(3,12)],mv:=[16,21],mb:=mg [(16,3)],sb:=mg [(20,3)]}
abbrev Pe:SD:=⟨DI::B::.ptr 2 0::.ptr 3 0::DI::bs 17 [],Z::Z::(nU (cA 24577 .str))::(nU (cA 36865 .str))::zs 18 [],.none⟩
def aeI (X:SD.D Pe)(K:Ex->AS->aw R):=Pu.pn (λy0 y1=>ke 0 K Pe ((z1 (u y0) X.1),(z1 (u y1) X.2.1),X.2.2)) X.1.1 X.2.1.1
def akL:cH:=gN Pe aeI (λX=>(X.1.2.1,X.2.1.2.1))
def amG:dC:=(dC.nil).add 3 akL
theorem aju:gy E auy aqA amG (aR Tryz.f197 0):=lk Pe aeI (λX=>(X.1.2.1,X.2.1.2.1)) λX x=>((z1 (u x.1) X.1),(z1 (u x.2) X.2.1),X.2.2)
theorem avS:cE 197 anX:=fk aqA (base.add o62) Tryz.func197 (Λ:=amG) (cF aju nF)
def aiy:bg:=aK [pf js] [rB] (c1 Pu.tn)
def auj:dm:=dm.nil.add 113 Mr
def aqk:An:={mask:=mk [(5,[1,2,3,4])],merge:=mg [(1,20),(7,50)]}
abbrev JW:SD:=⟨B::.ptr 1 0::DB::.data false (cA 36864 .bool)::DI::bs 53 [],Z::(some Y18)::zs 56 [],.none⟩
def aeg (X:SD.D JW)(K:Ex->AS->aw R):=Pu.uC (λy0 y1=>ke 0 K JW ((z1 (w y0 (u y1)) X.1),X.2)) (λy0 y1 y2=>kr K JW ((w y0 (w y1 (u y2)) X.1),X.2)) X.1.1 X.2.1.1
def akj:cH:=gN JW aeg (λX=>(X.1.2.1,q2 X))
def amq:dC:=(dC.nil).add 5 akj
theorem ai2:gy E auj aqk amq (aR Tryz.f116 0):=lk JW aeg (λX=>(X.1.2.1,q2 X)) λX x=>((z1 (w x.1 (u x.2)) X.1),X.2)
theorem alL:cE 116 aiy:=fk aqk (base.add u1) Tryz.func116 (Λ:=amq) (cF ai2 nF)
def ats:bg:=aK [pI,pI,pI] [(true,Y10),rB] (c3 Pu.uA)
def auL:dm:=dm.nil.add 116 aiy
def aqO:An:={mask:=mk [(3,[2,6,8,9])],merge:=mg [(3,20)],mv:=[24,33]}
abbrev Pw:SD:=⟨B::B::DI::B::B::B::.ptr 6 0::B::.ptr 8 0::DI::bs 24 [],zs 6 ((some Y31)::Z::(some Y30)::zs 25 []),.none⟩
def aeY (X:SD.D Pw)(K:Ex->AS->aw R):=Pu.od (λy0 y1=>ke 0 K Pw ((z1 (u y0) X.1),(z1 (u y1) X.2.1),X.2.2)) X.1.1 X.2.1.1
def ak1:cH:=gN Pw aeY (λX=>(X.1.2.1,X.2.1.2.1))
def amU:dC:=(dC.nil).add 3 ak1
theorem ajK:gy E auL aqO amU (aR Tryz.f266 0):=lk Pw aeY (λX=>(X.1.2.1,X.2.1.2.1)) λX x=>((z1 (u x.1) X.1),(z1 (u x.2) X.2.1),X.2.2)
theorem arS:cE 266 ats:=fk aqO (base.add alL) Tryz.func266 (Λ:=amU) (cF ajK nF)
def anY:bg:=aK [] [(true,Y23)] λa=>Pu.wb
theorem avT:cE 198 anY:=f0 {mv:=[4,9]} (base.add arS) Tryz.func198
def anZ:bg:=aK [pf lV] [(true,Y19)] (c1 Pu.uG)
theorem arw:cE 199 anZ:=f0 {sb:=mg [(2,2)]} base Tryz.func199
def att:bg:=aK [pf (.sl iH)] [(true,(.sl (.own none) iH))] (c1 Pu.xA)
theorem aww:cE 267 att:=f0 {} base Tryz.func267
def an0:bg:=aK [pf ox] [(true,Y27)] (c1 Pu.xC)
theorem avU:cE 200 an0:=f0 {sb:=mg [(2,2)]} (base.add aww) Tryz.func200
def afU:bg:=aK [pf (.sl .str)] [(true,(.sl (.own none) .str))] (c1 Pu.lH)
theorem agM:cE 310 afU:=f0 {} base Tryz.func310
def anp:bg:=aK [pf (.sl .str)] [rB] (c1 Pu.rV)
def auh:dm:=dm.nil
def aqi:An:={mask:=mk [(2,[1,2,3])]}
abbrev JR:SD:=⟨B::.ptr 1 0::DB::DI::bs 18 [],Z::(nU (.sl .arg .str))::zs 20 [],.none⟩
def aeb (X:SD.D JR)(K:Ex->AS->aw R):=Pu.qK (λy0=>ke 0 K JR ((z1 (u y0) X.1),X.2)) (λy0 y1=>kr K JR ((w y0 (u y1) X.1),X.2)) X.1.1 X.2.1.1
def ake:cH:=gN JR aeb (λX=>X.1.2.1)
def amo:dC:=(dC.nil).add 2 ake
theorem aiX:gy E auh aqi amo (aR Tryz.f109 0):=lk JR aeb (λX=>X.1.2.1) λX x=>((z1 (u x) X.1),X.2)
theorem arc:cE 109 anp:=fk aqi base Tryz.func109 (Λ:=amo) (cF aiX nF)
def anq:bg:=aK [pd (.sl bL)] [rB] (c1 Pu.sG)
def aoJ:dm:=dm.nil.add 113 Mr
def alw:An:={mask:=mk [(4,[0,2,3]),(10,[0,2,3,4,5])],merge:=mg [(7,34),(12,57)]}
abbrev E8:SD:=⟨.data false (.sl .arg bL)::B::DB::DI::.ptr 4 0::DI::bs 52 [],zs 4 ((nU (je (je (je .bool))))::zs 53 []),.none⟩
def YT (X:SD.D E8)(K:Ex->AS->aw R):=Pu.mf (λy0=>ke 2 K E8 ((z3 (u y0) X.1),X.2)) (λy0 y1=>kr K E8 ((z1 (w y0 (z1 (u y1))) X.1),X.2)) X.1.1 X.1.2.1 (q2 X) X.2.1.1
def agt:cH:=gN E8 YT q3
abbrev JS:SD:=⟨.data false (.sl .arg bL)::B::DB::DI::bs 54 [],zs 58 [],.none⟩
def aec (X:SD.D JS)(K:Ex->AS->aw R):=Pu.nP (λy0=>ke 0 K JS ((z2 (u y0) X.1),X.2)) (λy0 y1=>kr K JS ((z1 (w y0 (u y1)) X.1),X.2)) X.1.1 X.1.2.1
def akf:cH:=gN JS aec q2
def aic:dC:=((dC.nil).add 10 agt).add 4 akf
theorem agk:gy E aoJ alw aic (aR Tryz.f110 1):=lk E8 YT q3 λX x=>((z3 (u x) X.1),X.2)
theorem aiY:gy E aoJ alw aic (aR Tryz.f110 0):=lk JS aec q2 λX x=>((z2 (u x) X.1),X.2)
theorem avd:cE 110 anq:=fk alw (base.add u1) Tryz.func110 (Λ:=aic) (cF aiY (cF agk nF))
def aoG:bg:=aK [pd (.sl bL),pI,pI,pd .bool] [rI] (c4 Pu.xD)
def au4:dm:=dm.nil
def aq7:An:={mask:=mk [(2,[0,1,2,3,8,9])],merge:=mg [(4,42)]}
abbrev Ki:SD:=⟨.data false (.sl .arg bL)::DI::DI::DB::bs 4 (DI::DI::bs 38 []),zs 48 [],.none⟩
def afj (X:SD.D Ki)(K:Ex->AS->aw R):=Pu.sP (λy0=>ke 0 K Ki ((z5 (u y0) X.1),X.2)) (λy0 y1=>kr K Ki ((z4 (w y0 (u y1)) X.1),X.2)) X.1.1 X.1.2.1 (q2 X) (q3 X) (q4 X)
def aln:cH:=gN Ki afj q5
def ane:dC:=(dC.nil).add 2 aln
theorem aj5:gy E au4 aq7 ane (aR Tryz.f334 0):=lk Ki afj q5 λX x=>((z5 (u x) X.1),X.2)
theorem axg:cE 334 aoG:=fk aq7 base Tryz.func334 (Λ:=ane) (cF aj5 nF)
def aiO:bg:=aK [pf (.sl .str),pI,pI] [rB] (c3 Pu.m0)
theorem ar6:cE 335 aiO:=f0 {merge:=mg [(2,6)]} (base.add arc) Tryz.func335
def aoB:bg:=aK [pd (.sl bL),pf (.sl .str),pI,pI,pI,pd .bool] [(false,(.sl (.own none) (.int .i64))),(false,(.sl (.own none) (.int .i64))),rB] (c6 Pu.vZ)
def au1:dm:=((((dm.nil.add 109 anp).add 110 anq).add 113 Mr).add 334 aoG).add 335 aiO
def aq4:An:={mask:=mk [(5,[0,2,3,4,5,7,12,13,14,15,16])],merge:=mg [(3,34),(10,57)],mv:=[35,36,64,71,81,82]}
abbrev Kh:SD:=⟨.data false (.sl .arg bL)::B::DI::DI::DI::DB::B::.ptr 7 0::bs 4 (.data false (cA 147456 (.int .i64))::.data false (cA 159744 (.int .i64))::DB::.data false (cA 184320 (.int .i64))::.data false (cA 196608 (.int .i64))::bs 66 []),zs 7 ((nU (.sl .arg .str))::zs 75 []),.none⟩
def afg (X:SD.D Kh)(K:Ex->AS->aw R):=Pu.jX (λy0 y1 y2 y3=>ke 0 K Kh ((z2 (w y0 (w y1 (z4 (w y2 (u y3))))) X.1),X.2)) (λy0 y1 y2 y3 y4 y5 y6=>kr K Kh ((z2 (w y0 (w y1 (z1 (w y2 (w y3 (w y4 (w y5 (u y6)))))))) X.1),X.2)) X.1.1 X.1.2.1 (q4 X) (q5 X) (q6 X) (q7 X) X.2.1.1
def alj:cH:=gN Kh afg (λX=>(q2 X,q3 X,q8 X,q9 X))
def ana:dC:=(dC.nil).add 5 alj
theorem aj2:gy E au1 aq4 ana (aR Tryz.f326 0):=lk Kh afg (λX=>(q2 X,q3 X,q8 X,q9 X)) λX x=>((z2 (w x.1 (w x.2.1 (z4 (w x.2.2.1 (u x.2.2.2))))) X.1),X.2)
theorem aw9:cE 326 aoB:=fk aq4 (((((base.add arc).add avd).add u1).add axg).add ar6) Tryz.func326 (Λ:=ana) (cF aj2 nF)
def aop:bg:=aK [pd .str,pI,pd .str] [rS] (c3 Pu.iU)
theorem alZ:cE 274 aop:=f0 {} (base.add alV) Tryz.func274
def aoC:bg:=aK [pf (.sl .str),pI,pd .str] [(true,(.sl (.own none) .str)),rB] (c3 Pu.qQ)
def au2:dm:=((dm.nil.add 274 aop).add 310 afU).add 335 aiO
def aq5:An:={mask:=mk [(4,[1,2,6,8])],mv:=[19,52]}
abbrev PK:SD:=⟨B::DI::.data false .str::B::B::B::.ptr 6 0::B::.ptr 8 0::bs 44 [],zs 6 ((nU (cA 73729 .str))::Z::(nU (cA 98305 .str))::zs 44 []),.none⟩
def afh (X:SD.D PK)(K:Ex->AS->aw R):=Pu.mh (λy0 y1 y2=>ke 0 K PK ((w y0 (u y1) X.1),(z1 (u y2) X.2.1),X.2.2)) X.2.1.1
def alk:cH:=gN PK afh (λX=>(X.1.1,X.1.2.1,X.2.1.2.1))
def anb:dC:=(dC.nil).add 4 alk
theorem aj3:gy E au2 aq5 anb (aR Tryz.f327 0):=lk PK afh (λX=>(X.1.1,X.1.2.1,X.2.1.2.1)) λX x=>((w x.1 (u x.2.1) X.1),(z1 (u x.2.2) X.2.1),X.2.2)
theorem axa:cE 327 aoC:=fk aq5 (((base.add alZ).add agM).add ar6) Tryz.func327 (Λ:=anb) (cF aj3 nF)
def aow:bg:=aK [pd (.sl bL),pf (.sl .str),pI,pI,pd .str] [(true,(.sl (.own none) .str)),rB] (c5 Pu.rU)
def auV:dm:=((dm.nil.add 310 afU).add 326 aoB).add 327 aoC
def aqY:An:={mask:=mk [(6,[4,10,12,13,15,16])],mv:=[32,39,52,60],sb:=mg [(15,15)]}
abbrev PE:SD:=⟨bs 4 (.data false .str::bs 5 (.ptr 10 0::B::.data false (.sl .loc (.int .i64))::.data false (.sl .loc (.int .i64))::B::.ptr 15 0::DI::bs 44 [])),zs 10 ((nU (cA 122881 .str))::zs 4 ((nU (cA 184321 .str))::zs 45 [])),.none⟩
def ae9 (X:SD.D PE)(K:Ex->AS->aw R):=Pu.mQ (λy0 y1 y2=>ke 0 K PE ((w y0 (z2 (u y1)) X.1),(z1 (u y2) X.2.1),X.2.2)) X.1.2.1 (q2 X) X.2.1.1
def alc:cH:=gN PE ae9 (λX=>(X.1.1,q3 X,X.2.1.2.1))
def am4:dC:=(dC.nil).add 6 alc
theorem ajV:gy E auV aqY am4 (aR Tryz.f309 0):=lk PE ae9 (λX=>(X.1.1,q3 X,X.2.1.2.1)) λX x=>((w x.1 (z2 (u x.2.1)) X.1),(z1 (u x.2.2) X.2.1),X.2.2)
theorem ar2:cE 309 aow:=fk aqY (((base.add agM).add aw9).add axa) Tryz.func309 (Λ:=am4) (cF ajV nF)
def atu:bg:=aK [pd (.sl bL),pf (.sl .str),pI,pI,pd .str] [(true,(.sl (.own none) .str)),rB] (c5 Pu.uy)
def auM:dm:=dm.nil.add 309 aow
def aqP:An:={mask:=mk [(3,[0,2,3,4,6,10,12,13])],mv:=[27]}
abbrev Px:SD:=⟨.data false (.sl .arg bL)::B::DI::DI::.data false .str::B::.ptr 6 0::B::B::B::.ptr 10 0::B::.data false (cA 147456 bL)::DI::bs 25 [],zs 6 ((nU (.sl .arg .str))::Z::Z::Z::(nU (cA 122881 .str))::zs 28 []),.none⟩
def aeZ (X:SD.D Px)(K:Ex->AS->aw R):=Pu.pk (λy0 y1=>ke 0 K Px ((z4 (w y0 (u y1)) X.1),X.2)) X.1.1 X.1.2.1 (q2 X) (q3 X) X.2.1.1 X.2.1.2.1
def ak2:cH:=gN Px aeZ (λX=>(q4 X,q5 X))
def amV:dC:=(dC.nil).add 3 ak2
theorem ajL:gy E auM aqP amV (aR Tryz.f268 0):=lk Px aeZ (λX=>(q4 X,q5 X)) λX x=>((z4 (w x.1 (u x.2)) X.1),X.2)
theorem awx:cE 268 atu:=fk aqP (base.add ar2) Tryz.func268 (Λ:=amV) (cF ajL nF)
def atp:bg:=aK [pI] [rB] (c1 Pu.uF)
theorem arO:cE 258 atp:=f0 {merge:=mg [(1,2)]} base Tryz.func258
def atq:bg:=aK [pf ir] [rI] (c1 Pu.rZ)
theorem arP:cE 259 atq:=f0 {} (base.add arO) Tryz.func259
def anP:bg:=aK [pf ir] [rB] (c1 Pu.tp)
theorem alU:cE 181 anP:=f0 {merge:=mg [(1,2)]} (((base.add u1).add arO).add arP) Tryz.func181
def aol:bg:=aK [pf js] [(true,Y10)] (c1 Pu.xE)
theorem aws:cE 260 aol:=f0 {sb:=mg [(2,2)]} base Tryz.func260
def aox:bg:=aK [pf ir] [rI] (c1 Pu.rY)
theorem ar3:cE 311 aox:=f0 {} ((base.add alU).add arP) Tryz.func311
def auc:bg:=aK [pf ir,pI] [rI] (c2 Pu.qN)
theorem axb:cE 328 auc:=f0 {merge:=mg [(1,11)]} (base.add alU) Tryz.func328
def aoy:bg:=aK [pd (.sl bL),pf (.sl .str),pI,pf ir,pd .str] [(true,(.sl (.own none) .str)),(true,Y0),rB] (c5 Pu.xt)
theorem awW:cE 312 aoy:=f0 {merge:=mg [(1,22)],mv:=[26,36,51],mb:=mg [(51,13)],sb:=mg [(10,10),(11,11),(13,13)]} ((((base.add ar2).add agM).add ar3).add axb) Tryz.func312
def atx:bg:=aK [pI] [rS] (c1 Pu.dg)
theorem aaQ:cE 271 atx:=f0 {} (base.add u1) Tryz.func271
def aud:bg:=aK [pf mj] [rB] (c1 Pu.zB)
theorem axc:cE 329 aud:=f0 {merge:=mg [(1,2)]} (base.add u1) Tryz.func329
def aoz:bg:=aK [pf mj] [rS] (c1 Pu.sF)
theorem awX:cE 313 aoz:=f0 {} (((base.add aaN).add aaQ).add axc) Tryz.func313
def aoA:bg:=aK [pf js,pI] [rI] (c2 Pu.nO)
theorem awY:cE 314 aoA:=f0 {merge:=mg [(1,15)]} ((base.add u1).add alL) Tryz.func314
def atv:bg:=aK [pd (.sl bL),pf (.sl .str),pI,pf ir,pf js] [(true,(.sl (.own none) .str)),(true,Y0),(true,Y10),rI] (c5 Pu.vS)
def auN:dm:=(((((((dm.nil.add 116 aiy).add 181 anP).add 260 aol).add 310 afU).add 311 aox).add 312 aoy).add 313 aoz).add 314 aoA
def aqQ:An:={mask:=mk [(6,[0,2,8,9,10,11,12,14,15,16])],merge:=mg [(4,32),(6,44)],mv:=[33,35,49,63,68,78,80],mb:=mg [(33,14),(35,15),(78,14),(80,15)],sb:=mg [(10,10),(11,11),(12,12),(18,18),(19,19)]}
abbrev Py:SD:=⟨.data false (.sl .arg bL)::B::DI::bs 5 (.ptr 8 0::.ptr 9 0::.ptr 10 0::.ptr 11 0::.ptr 12 0::B::.ptr 14 0::.ptr 15 0::DI::bs 65 []),zs 8 ((some Y0)::(some Y18)::(nU (cA 122881 .str))::(some Y0)::(some Y29)::Z::(nU (cA 172033 .str))::(some Y28)::zs 66 []),.none⟩
def ae0 (X:SD.D Py)(K:Ex->AS->aw R):=Pu.mR (λy0 y1 y2 y3=>ke 0 K Py ((z2 (u y0) X.1),(w y1 (z4 (w y2 (u y3))) X.2.1),X.2.2)) X.1.1 X.1.2.1 X.2.1.2.1 X.2.1.2.2.1 X.2.1.2.2.2.1 X.2.1.2.2.2.2.1
def ak3:cH:=gN Py ae0 (λX=>(q2 X,X.2.1.1,X.2.1.2.2.2.2.2.1,X.2.1.2.2.2.2.2.2.1))
def amW:dC:=(dC.nil).add 6 ak3
theorem ajM:gy E auN aqQ amW (aR Tryz.f269 0):=lk Py ae0 (λX=>(q2 X,X.2.1.1,X.2.1.2.2.2.2.2.1,X.2.1.2.2.2.2.2.2.1)) λX x=>((z2 (u x.1) X.1),(w x.2.1 (z4 (w x.2.2.1 (u x.2.2.2))) X.2.1),X.2.2)
theorem awy:cE 269 atv:=fk aqQ ((((((((base.add alL).add alU).add aws).add agM).add ar3).add awW).add awX).add awY) Tryz.func269 (Λ:=amW) (cF ajM nF)
def an1:bg:=jm (.pair (.sl (.own none) .str) (.pair (.sl (.own none) bL) (.pair (.pair (.pair (.int .i64) (.pair (.int .i64) (.pair (.int .i64) (.int .i64)))) (.pair (.pair (.int .i64) (.pair (.int .i64) (.pair (.int .i64) (.sl (.own none) (.int .i64))))) (.pair (.sl (.own none) jt) (.int .i64)))) (.pair (.sl (.own none) ec) (.pair (.sl (.own none) js) (.pair (.sl (.own none) fV) (.pair (.sl (.own none) .bool) (.pair (.pair (.int .i64) (.pair .bool (.sl (.own none) (.int .i64)))) (.pair (.pair (.sl (.own none) kZ) (.pair (.sl (.own none) iH) (.pair .str (.sl (.own none) (.int .i64))))) (.pair (.sl (.own none) eJ) (.pair .bool (.pair (.sl (.own none) .str) (.pair (.sl (.own none) (.int .i64)) (.pair (.sl (.own none) (.int .i64)) (.pair (.int .i64) (.pair (.int .i64) (.pair (.int .i64) (.pair (.int .i64) (.int .i64))))))))))))))))))) [pI] [] λx a=>Pu.uJ x a.1
theorem avV:cE 201 an1:=g8.pS (pA (an:={mv:=[47,51,65,67,84],mb:=mg [(84,6)],sb:=mg [(6,6),(50,0),(70,0),(71,5)]}) (Λ:=dC.nil) ((((base.add o62).add arS).add awx).add awy) Tryz.func201 (by kernel_rfl) (ao nF)) (λx a=>by kernel_rfl)
def anv:bg:=aK [pI,pf lV,pf ox,pd .bool,pI,pI] [(true,Y2),rB] (c6 Pu.qM)
def aoM:dm:=((((((((dm.nil.add 112 aix).add 113 Mr).add 114 anr).add 196 anW).add 197 anX).add 198 anY).add 199 anZ).add 200 an0).add 201 an1
def aly:An:={mask:=mk [(6,[0,12,14,16,17]),(10,[0,12,14,16,18])],merge:=mg [(2,42)],mv:=[57,74,80,86,92,98],mb:=mg [(57,16)],sb:=mg [(16,16),(67,16)]}
abbrev O0:SD:=⟨DI::bs 11 (.ptr 12 0::B::.ptr 14 0::B::.ptr 16 0::DI::bs 81 []),zs 12 ((some Y12)::Z::(some Y17)::Z::(some Y11)::zs 82 []),.none⟩
def aek (X:SD.D O0)(K:Ex->AS->aw R):=Pu.oc (λy0 y1=>ke 0 K O0 ((z1 (u y0) X.1),(z2 (u y1) X.2.1),X.2.2)) X.1.1 X.2.1.1 X.2.1.2.1
def akn:cH:=gN O0 aek (λX=>(X.1.2.1,X.2.1.2.2.1))
abbrev Jc:SD:=⟨DI::bs 11 (.ptr 12 0::B::.ptr 14 0::B::.ptr 16 0::B::DI::bs 80 []),zs 12 ((some Y12)::Z::(some Y17)::Z::(some Y11)::zs 82 []),.none⟩
def YU (X:SD.D Jc)(K:Ex->AS->aw R):=Pu.mU (λy0 y1=>ke 2 K Jc ((z1 (u y0) X.1),(z2 (u y1) X.2.1),X.2.2)) X.1.1 X.2.1.1 X.2.1.2.1
def agu:cH:=gN Jc YU (λX=>(X.1.2.1,X.2.1.2.2.1))
def aie:dC:=((dC.nil).add 6 akn).add 10 agu
theorem ai6:gy E aoM aly aie (aR Tryz.f128 0):=lk O0 aek (λX=>(X.1.2.1,X.2.1.2.2.1)) λX x=>((z1 (u x.1) X.1),(z2 (u x.2) X.2.1),X.2.2)
theorem agl:gy E aoM aly aie (aR Tryz.f128 1):=lk Jc YU (λX=>(X.1.2.1,X.2.1.2.2.1)) λX x=>((z1 (u x.1) X.1),(z2 (u x.2) X.2.1),X.2.2)
theorem avm:cE 128 anv:=fk aly (((((((((base.add alK).add u1).add ave).add avR).add avS).add avT).add arw).add avU).add avV) Tryz.func128 (Λ:=aie) (cF ai6 (cF agl nF))
def anw:bg:=aK [pf dV] [(true,(.pair Y19 Y8))] (c1 Pu.xF)
theorem avn:cE 129 anw:=f0 {mv:=[7]} (base.add arw) Tryz.func129
def e57:bg:=aK [pd (.sl dV),pf ox,pd .bool,pf gV,pf (.sl .str),pI] [(true,Y5),rB] (c6 Pu.qL)
def g57:dm:=(((((dm.nil.add 50 e50).add 125 ans).add 126 ant).add 127 anu).add 128 anv).add 129 anw
def n57:An:={mask:=mk [(6,[0,2,7,9,12,13,16,17])],merge:=mg [(3,50)],mv:=[58,67,73,74,79,89,98],mb:=mg [(89,16)],sb:=mg [(18,18),(97,16)]}
abbrev RE:SD:=⟨.data false (.sl .arg dV)::B::DB::bs 4 (.ptr 7 0::B::.ptr 9 0::B::B::.ptr 12 0::DB::B::B::.ptr 16 0::DI::bs 81 []),zs 7 ((some Y21)::Z::(some Y8)::Z::Z::(nU (cx (cA 147457 de) (cx (cA 147460 bK) (cx (cA 147463 dV) (cx (cA 147466 .str) (cx Y0 (cx (cA 147481 (.int .i64)) (cA 147484 .str))))))))::Z::Z::Z::(nU (cx (cA 196609 de) (cx (cA 196612 bK) (cx (cA 196615 dV) (cx (cA 196618 .str) (cx Y0 (cx (cA 196633 (.int .i64)) (cA 196636 .str))))))))::zs 82 []),.none⟩
def ahR (X:SD.D RE)(K:Ex->AS->aw R):=Pu.sH (λy0 y1=>ke 0 K RE ((z3 (u y0) X.1),(z3 (u y1) X.2.1),X.2.2)) (λy0 y1 y2 y3=>kr K RE ((z2 (w y0 (u y1)) X.1),(z2 (w y2 (u y3)) X.2.1),X.2.2)) X.1.1 X.1.2.1 (q2 X) X.2.1.1 X.2.1.2.1 X.2.1.2.2.1
def apU:cH:=gN RE ahR (λX=>(q3 X,X.2.1.2.2.2.1))
def L57:dC:=(dC.nil).add 6 apU
theorem aph:gy E g57 n57 L57 (aR Tryz.f57 0):=lk RE ahR (λX=>(q3 X,X.2.1.2.2.2.1)) λX x=>((z3 (u x.1) X.1),(z3 (u x.2) X.2.1),X.2.2)
theorem o57:cE 57 e57:=fk n57 ((((((base.add o50).add avj).add avk).add avl).add avm).add avn) Tryz.func57 (Λ:=L57) (cF aph nF)
def asS:bg:=jm (.pair (.sl .arg0 (.int .u8)) (.pair (.int .i64) (.int .i64))) [] [(true,Y19)] λx a=>Pu.uH x
theorem avW:cE 202 asS:=g8.pS (pA (an:={mv:=[11]}) (Λ:=dC.nil) (base.add o55) Tryz.func202 (by kernel_rfl) (ao nF)) (λx a=>by kernel_rfl)
def anx:bg:=jm (.pair (.sl .arg0 (.int .u8)) (.pair (.int .i64) (.int .i64))) [] [(true,(.pair Y19 Y8))] λx a=>Pu.zE x
theorem avo:cE 130 anx:=g8.pS (pA (an:={}) (Λ:=dC.nil) ((base.add o59).add avW) Tryz.func130 (by kernel_rfl) (ao nF)) (λx a=>by kernel_rfl)
def e58:bg:=jm (.pair (.sl .arg0 (.int .u8)) (.pair (.int .i64) (.int .i64))) [] [(false,(.sl (.own none) dV))] λx a=>Pu.wc x
def g58:dm:=(dm.nil.add 59 e59).add 130 anx
def n58:An:={mask:=mk [(3,[0,3,4])],mv:=[22,23,26]}
abbrev XR:SD:=⟨.ptr 0 0::B::B::.data false (cA 36864 dV)::DI::bs 22 [],(some Y7)::zs 26 [],.ptr⟩
def ahS (X:SD.D XR)(K:Ex->AS->aw R):=Pu.vm (λy0 y1 y2=>ke 0 K XR ((w y0 (u y1) X.1),(u y2 X.2.1),X.2.2))
def apV:cH:=gN XR ahS (λX=>(X.1.1,X.1.2.1,X.2.1.1))
def L58:dC:=(dC.nil).add 3 apV
theorem api:gy E g58 n58 L58 (aR Tryz.f58 0):=lk XR ahS (λX=>(X.1.1,X.1.2.1,X.2.1.1)) λX x=>((w x.1 (u x.2.1) X.1),(u x.2.2 X.2.1),X.2.2)
theorem o58:cE 58 e58:=g8.pS (pA (Γ:=g58) (an:=n58) (Λ:=L58) ((base.add o59).add avo) Tryz.func58 (by kernel_rfl) (ao (cF api nF))) (λx a=>by kernel_rfl)
def e67:bg:=jm (.pair (.sl .arg0 (.int .u8)) (.pair (.int .i64) (.int .i64))) [] [rS] λx a=>Pu.sa x
theorem o67:cE 67 e67:=g8.pS (pA (an:={}) (Λ:=dC.nil) ((((base.add o56).add o59).add o61).add aaM) Tryz.func67 (by kernel_rfl) (ao nF)) (λx a=>by kernel_rfl)
def e60:bg:=jm (.pair (.sl .arg0 (.int .u8)) (.pair (.int .i64) (.int .i64))) [] [(true,(.sl (.own none) .str))] λx a=>Pu.wa x
def g60:dm:=(((dm.nil.add 55 e55).add 62 e62).add 67 e67).add 124 aiz
def n60:An:={mask:=mk [(3,[0,2,3,4])],mv:=[18,28],mb:=mg [(18,3)],sb:=mg [(27,3)]}
abbrev XS:SD:=⟨.ptr 0 0::B::.ptr 2 0::.ptr 3 0::DI::bs 24 [],(some Y7)::Z::(nU (cA 24577 .str))::(nU (cA 36865 .str))::zs 25 [],.ptr⟩
def ahT (X:SD.D XS)(K:Ex->AS->aw R):=Pu.vh (λy0 y1 y2=>ke 0 K XS ((u y0 X.1),(w y1 (z1 (u y2)) X.2.1),X.2.2)) X.2.1.2.1
def apW:cH:=gN XS ahT (λX=>(X.1.1,X.2.1.1,X.2.1.2.2.1))
def L60:dC:=(dC.nil).add 3 apW
theorem apj:gy E g60 n60 L60 (aR Tryz.f60 0):=lk XS ahT (λX=>(X.1.1,X.2.1.1,X.2.1.2.2.1)) λX x=>((u x.1 X.1),(w x.2.1 (z1 (u x.2.2)) X.2.1),X.2.2)
theorem o60:cE 60 e60:=g8.pS (pA (Γ:=g60) (an:=n60) (Λ:=L60) ((((base.add o55).add o62).add o67).add aaM) Tryz.func60 (by kernel_rfl) (ao (cF apj nF))) (λx a=>by kernel_rfl)
def e20:bg:=jm (.pair (.sl .arg0 (.int .u8)) (.pair (.int .i64) (.int .i64))) [] [(true,Y5)] λx a=>Pu.zF x
def g20:dm:=(((((((((dm.nil.add 53 e53).add 54 e54).add 55 e55).add 56 e56).add 57 e57).add 58 e58).add 59 e59).add 60 e60).add 61 e61).add 62 e62
def n20:An:={mask:=mk [(2,[0,2,3]),(1000006,[0,2,3]),(1000007,[0,2,3]),(1000008,[0,2,3]),(1000009,[0,2,3]),(1000014,[0,2,3,4]),(1000015,[0,2,3])],cut:=[3,4,7],mv:=[35,49,52,66,80,82],sb:=mg [(6,6),(11,11),(36,0),(39,0),(43,0),(45,0)]}
abbrev B4:SD:=⟨.ptr 0 0::B::.ptr 2 0::DI::.ptr 4 0::bs 78 [],(some Y7)::Z::(some Y9)::Z::(nU (cx (cA 49153 kZ) (cx (cA 49156 iH) (cx .str (cA 49162 (.int .i64))))))::zs 78 [],.ptr⟩
abbrev Fa:SD:=⟨.ptr 0 0::B::.ptr 2 0::DI::bs 79 [],(some Y7)::Z::(some Y9)::zs 80 [],.ptr⟩
def Ix (X:SD.D B4)(K:Ex->AS->aw R):aw R:=Pu.pX (λy0=>kn K Fa ((X.1.1,()),(y0,(X.2.1.2.1,())),())) (λy0 y1=>kr K Fa ((X.1.1,()),(y0,(y1,())),())) X.1.1 X.2.1.1 X.2.1.2.1 X.2.1.2.2.1
def Ti:cH:=Qr B4 Ix
abbrev yS:SD:=⟨.ptr 0 0::B::.ptr 2 0::DI::bs 79 [],(some Y7)::Z::(some Y9)::zs 80 [],.ptr⟩
def Iv (X:SD.D yS)(K:Ex->AS->aw R):aw R:=Pu.pW (λy0=>kn K yS ((u y0 X.1),X.2)) X.1.1 X.2.1.1 X.2.1.2.1
def Tg:cH:=Qr yS Iv
abbrev wj:SD:=⟨.ptr 0 0::B::.ptr 2 0::DI::bs 79 [],(some Y7)::Z::(some Y9)::zs 80 [],.ptr⟩
def Iw (X:SD.D wj)(K:Ex->AS->aw R):aw R:=Pu.uK (λy0 y1=>kn K wj ((u y0 X.1),(u y1 X.2.1),X.2.2)) (λy0 y1=>kr K wj (X.1,(w y0 (u y1) X.2.1),X.2.2)) X.1.1 X.2.1.1 X.2.1.2.1
def Th:cH:=Qr wj Iw
abbrev Rv:SD:=⟨.ptr 0 0::B::.ptr 2 0::DI::bs 79 [],(some Y7)::Z::(some Y9)::zs 80 [],.ptr⟩
def ahB (X:SD.D Rv)(K:Ex->AS->aw R):=Pu.yD (λy0 y1=>ke 0 K Rv ((u y0 X.1),(u y1 X.2.1),X.2.2)) (λy0 y1 y2=>kr K Rv ((u y0 X.1),(w y1 (u y2) X.2.1),X.2.2)) X.2.1.2.1
def apE:cH:=gN Rv ahB (λX=>(X.1.1,X.2.1.1))
def L20:dC:=((((dC.nil).add 1000014 Ti).add 1000006 Tg).add 1000008 Th).add 2 apE
theorem S1:Ml E g20 n20 L20 (ld n20.cut Tryz.f20 1):=ck B4 Ix
theorem SZ:Ml E g20 n20 L20 (ld n20.cut Tryz.f20 2):=ck yS Iv
theorem S0:Ml E g20 n20 L20 (ld n20.cut Tryz.f20 0):=ck wj Iw
theorem ao1:gy E g20 n20 L20 (aR Tryz.f20 0):=lk Rv ahB (λX=>(X.1.1,X.2.1.1)) λX x=>((u x.1 X.1),(u x.2 X.2.1),X.2.2)
theorem o20:cE 20 e20:=g8.pS (pA (Γ:=g20) (an:=n20) (Λ:=L20) ((((((((((base.add o53).add o54).add o55).add o56).add o57).add o58).add o59).add o60).add o61).add o62) Tryz.func20 (by kernel_rfl) (ac (cF ao1 nF) (cF S0 (cF S1 (cF SZ nF))))) (λx a=>by kernel_rfl)
def asT:bg:=jm (.pair (.sl .arg0 (.int .u8)) (.pair (.int .i64) (.int .i64))) [] [rI] λx a=>Pu.xx x
theorem avX:cE 203 asT:=g8.pS (pA (an:={}) (Λ:=dC.nil) (base.add o59) Tryz.func203 (by kernel_rfl) (ao nF)) (λx a=>by kernel_rfl)
def atw:bg:=jm (.pair (.sl .arg0 (.int .u8)) (.pair (.int .i64) (.int .i64))) [] [rI] λx a=>Pu.vY x
theorem awz:cE 270 atw:=g8.pS (pA (an:={}) (Λ:=dC.nil) (base.add o56) Tryz.func270 (by kernel_rfl) (ao nF)) (λx a=>by kernel_rfl)
def asU:bg:=jm (.pair (.sl .arg0 (.int .u8)) (.pair (.int .i64) (.int .i64))) [pI] [(true,(.pair (.int .i64) Y25))] λx a=>Pu.sN x a.1
theorem avY:cE 204 asU:=g8.pS (pA (an:={}) (Λ:=dC.nil) (((((base.add o55).add o56).add o59).add aaM).add awz) Tryz.func204 (by kernel_rfl) (ao nF)) (λx a=>by kernel_rfl)
def anA:bg:=jm (.pair (.sl .arg0 (.int .u8)) (.pair (.int .i64) (.int .i64))) [pI] [(true,Y1)] λx a=>Pu.mX x a.1
theorem avp:cE 134 anA:=g8.pS (pA (an:={}) (Λ:=dC.nil) ((((((base.add o55).add o56).add o59).add aaM).add avX).add avY) Tryz.func134 (by kernel_rfl) (ao nF)) (λx a=>by kernel_rfl)
def e63:bg:=jm (.pair (.sl .arg0 (.int .u8)) (.pair (.int .i64) (.int .i64))) [pI] [(false,(.sl (.own none) cR))] λx a=>Pu.xy x a.1
def g63:dm:=((((dm.nil.add 55 e55).add 56 e56).add 59 e59).add 124 aiz).add 134 anA
def Yp:An:={mask:=mk [(5,[0,5,6,7,8]),(1000012,[0,5,6,7,8]),(1000013,[0,5,6,7,8]),(1000014,[0,5,6,7,8]),(1000015,[0,5,6,7,8]),(1000018,[0,5,6,7,8]),(1000019,[0,5,6,7,8]),(1000022,[0,5,6,7,8]),(1000023,[0,5,6,7,8]),(1000028,[0,5,6,7,8]),(1000029,[0,5,6,7,8]),(1000034,[0,5,6,7,8,64]),(1000035,[0,5,6,7,8])],cut:=[6,7,9,11,14,17],mv:=[47,76]}
abbrev B9:SD:=⟨.ptr 0 0::bs 4 (.data false (cA 61440 cR)::.ptr 6 0::DI::DI::bs 55 (DB::bs 12 [])),(some Y7)::zs 5 ((some Y1)::zs 70 []),.ptr⟩
abbrev PO:SD:=⟨.ptr 0 0::bs 4 (.data false (cA 61440 cR)::.ptr 6 0::DI::DI::bs 68 []),(some Y7)::zs 5 ((some Y1)::zs 70 []),.ptr⟩
def IM (X:SD.D B9)(K:Ex->AS->aw R):aw R:=Pu.vg (λy0=>kn K PO ((X.1.1,(X.1.2.1,(X.1.2.2.1,()))),(X.2.1.1,(y0,())),())) X.1.1 X.1.2.1 (q2 X) (q3 X) X.2.1.1 X.2.1.2.1
def Tw:cH:=Qr B9 IM
abbrev zb:SD:=⟨.ptr 0 0::bs 4 (.data false (cA 61440 cR)::.ptr 6 0::DI::DI::bs 68 []),(some Y7)::zs 5 ((some Y1)::zs 70 []),.ptr⟩
def IL (X:SD.D zb)(K:Ex->AS->aw R):aw R:=Pu.mZ (λy0 y1 y2=>kn K zb ((u y0 X.1),(w y1 (u y2) X.2.1),X.2.2)) X.1.1 X.1.2.1 (q2 X) X.2.1.1 X.2.1.2.1
def Tv:cH:=Qr zb IL
abbrev za:SD:=⟨.ptr 0 0::bs 4 (.data false (cA 61440 cR)::.ptr 6 0::DI::DI::bs 68 []),(some Y7)::zs 5 ((some Y1)::zs 70 []),.ptr⟩
def IK (X:SD.D za)(K:Ex->AS->aw R):aw R:=Pu.mY (λy0 y1 y2=>kn K za ((u y0 X.1),(w y1 (u y2) X.2.1),X.2.2)) X.1.1 X.1.2.1 (q2 X) X.2.1.1 X.2.1.2.1
def Tu:cH:=Qr za IK
abbrev yZ:SD:=⟨.ptr 0 0::bs 4 (.data false (cA 61440 cR)::.ptr 6 0::DI::DI::bs 68 []),(some Y7)::zs 5 ((some Y1)::zs 70 []),.ptr⟩
def IJ (X:SD.D yZ)(K:Ex->AS->aw R):aw R:=Pu.oo (λy0 y1 y2 y3=>kn K yZ ((w y0 (u y1) X.1),(w y2 (u y3) X.2.1),X.2.2)) X.1.1 X.1.2.1 (q2 X) X.2.1.1 X.2.1.2.1
def Tt:cH:=Qr yZ IJ
abbrev yX:SD:=⟨.ptr 0 0::bs 4 (.data false (cA 61440 cR)::.ptr 6 0::DI::DI::bs 68 []),(some Y7)::zs 5 ((some Y1)::zs 70 []),.ptr⟩
def IH (X:SD.D yX)(K:Ex->AS->aw R):aw R:=Pu.om (λy0=>kn K yX ((z2 (u y0) X.1),X.2)) X.1.1 X.1.2.1 (q2 X) X.2.1.1 X.2.1.2.1
def Tr:cH:=Qr yX IH
abbrev yY:SD:=⟨.ptr 0 0::bs 4 (.data false (cA 61440 cR)::.ptr 6 0::DI::DI::bs 68 []),(some Y7)::zs 5 ((some Y1)::zs 70 []),.ptr⟩
def II (X:SD.D yY)(K:Ex->AS->aw R):aw R:=Pu.sO (λy0 y1 y2 y3 y4=>kn K yY ((w y0 (w y1 (u y2)) X.1),(w y3 (u y4) X.2.1),X.2.2)) X.1.1 X.1.2.1 (q2 X) X.2.1.1 X.2.1.2.1
def Ts:cH:=Qr yY II
abbrev XU:SD:=⟨.ptr 0 0::bs 4 (.data false (cA 61440 cR)::.ptr 6 0::DI::DI::bs 68 []),(some Y7)::zs 5 ((some Y1)::zs 70 []),.ptr⟩
def ahV (X:SD.D XU)(K:Ex->AS->aw R):=Pu.wX (λy0 y1 y2 y3 y4=>ke 0 K XU ((w y0 (w y1 (u y2)) X.1),(w y3 (u y4) X.2.1),X.2.2))
def apY:cH:=gN XU ahV (λX=>(X.1.1,X.1.2.1,q2 X,X.2.1.1,X.2.1.2.1))
def L63:dC:=(((((((dC.nil).add 1000034 Tw).add 1000028 Tv).add 1000022 Tu).add 1000018 Tt).add 1000012 Tr).add 1000014 Ts).add 5 apY
theorem Tf:Ml E g63 Yp L63 (ld Yp.cut Tryz.f63 4):=ck B9 IM
theorem Te:Ml E g63 Yp L63 (ld Yp.cut Tryz.f63 3):=ck zb IL
theorem Td:Ml E g63 Yp L63 (ld Yp.cut Tryz.f63 2):=ck za IK
theorem Tc:Ml E g63 Yp L63 (ld Yp.cut Tryz.f63 1):=ck yZ IJ
theorem Ta:Ml E g63 Yp L63 (ld Yp.cut Tryz.f63 5):=ck yX IH
theorem Tb:Ml E g63 Yp L63 (ld Yp.cut Tryz.f63 0):=ck yY II
theorem apl:gy E g63 Yp L63 (aR Tryz.f63 0):=lk XU ahV (λX=>(X.1.1,X.1.2.1,q2 X,X.2.1.1,X.2.1.2.1)) λX x=>((w x.1 (w x.2.1 (u x.2.2.1)) X.1),(w x.2.2.2.1 (u x.2.2.2.2) X.2.1),X.2.2)
theorem o63:cE 63 e63:=g8.pS (pA (Γ:=g63) (an:=Yp) (Λ:=L63) (((((base.add o55).add o56).add o59).add aaM).add avp) Tryz.func63 (by kernel_rfl) (ac (cF apl nF) (cF Tb (cF Tc (cF Td (cF Te (cF Tf (cF Ta nF)))))))) (λx a=>by kernel_rfl)
def atr:bg:=aK [pf xT] [rB] (c1 Pu.pV)
theorem arQ:cE 264 atr:=f0 {merge:=mg [(1,18),(4,2),(5,2)]} (base.add u1) Tryz.func264
def asM:bg:=aK [pf cR] [rB] (c1 Pu.uE)
theorem aru:cE 187 asM:=f0 {merge:=mg [(1,55),(3,3),(4,2)]} ((base.add u1).add arQ) Tryz.func187
def ast:bg:=aK [pf cR] [rB] (c1 Pu.vV)
theorem avq:cE 135 ast:=f0 {merge:=mg [(1,2)]} (base.add aru) Tryz.func135
def aty:bg:=aK [pI,pI,pI,pI] [rS,rB] (c4 Pu.lF)
theorem awA:cE 272 aty:=f0 {merge:=mg [(1,27)]} (((base.add u1).add aaN).add aaQ) Tryz.func272
def aoD:bg:=aK [pI,pI] [rI] (c2 Pu.lD)
theorem axd:cE 330 aoD:=f0 {merge:=mg [(1,12)]} (base.add u1) Tryz.func330
def at1:bg:=aK [pd .str] [rI] (c1 Pu.vX)
def auW:dm:=dm.nil.add 330 aoD
def aqZ:An:={mask:=mk [(3,[0,3,4])]}
abbrev PF:SD:=⟨.data false .str::B::B::DI::DI::bs 28 [],zs 33 [],.none⟩
def afb (X:SD.D PF)(K:Ex->AS->aw R):=Pu.qP (λy0 y1=>ke 0 K PF ((z1 (w y0 (u y1)) X.1),X.2)) X.1.1
def ale:cH:=gN PF afb (λX=>(X.1.2.1,q2 X))
def am5:dC:=(dC.nil).add 3 ale
theorem ajX:gy E auW aqZ am5 (aR Tryz.f315 0):=lk PF afb (λX=>(X.1.2.1,q2 X)) λX x=>((z1 (w x.1 (u x.2)) X.1),X.2)
theorem awZ:cE 315 at1:=fk aqZ (base.add axd) Tryz.func315 (Λ:=am5) (cF ajX nF)
def atz:bg:=aK [pd .str] [rI] (c1 Pu.oF)
theorem arT:cE 273 atz:=f0 {} (base.add awZ) Tryz.func273
def asV:bg:=aK [pI,pI,pf xT] [rS,rB] (c3 Pu.pj)
theorem avZ:cE 205 asV:=f0 {merge:=mg [(14,82)]} ((((((base.add aaN).add arQ).add aaQ).add awA).add arT).add alZ) Tryz.func205
def at2:bg:=aK [pf TIp] [rB] (c1 Pu.Dq)
theorem aw0:cE 316 at2:=f0 {merge:=mg [(1,2)]} (base.add u1) Tryz.func316
def atA:bg:=aK [pf TIp] [rS,rB] (c1 Pu.vU)
theorem awB:cE 275 atA:=f0 {} (((((base.add aaN).add aaQ).add arT).add alZ).add aw0) Tryz.func275
def asW:bg:=aK [pf TIp] [rS,rB] (c1 Pu.xn)
theorem av0:cE 206 asW:=f0 {} (base.add awB) Tryz.func206
def atB:bg:=aK [pf Zh] [rB] (c1 Pu.Bh)
theorem awC:cE 276 atB:=f0 {merge:=mg [(1,2)]} (base.add u1) Tryz.func276
def atC:bg:=aK [pI] [rS] (c1 Pu.iq)
theorem awD:cE 277 atC:=f0 {} ((base.add aaN).add aaQ) Tryz.func277
def asX:bg:=aK [pf Zh] [rS,rB] (c1 Pu.vQ)
theorem av1:cE 207 asX:=f0 {} (((base.add aaQ).add awC).add awD) Tryz.func207
def asY:bg:=aK [pd .str] [rS] (c1 Pu.xq)
theorem av2:cE 208 asY:=f0 {} (base.add o62) Tryz.func208
def asu:bg:=aK [pf cR] [rS,rB] (c1 Pu.sE)
theorem avr:cE 136 asu:=f0 {} (((((base.add aru).add avZ).add av0).add av1).add av2) Tryz.func136
def asv:bg:=aK [pd .str] [rS] (c1 Pu.xw)
theorem avs:cE 137 asv:=f0 {} (base.add are) Tryz.func137
def e64:bg:=aK [pf cR] [rS,rB] (c1 Pu.sD)
theorem o64:cE 64 e64:=f0 {} (((base.add avq).add avr).add avs) Tryz.func64
def e65:bg:=jm (.pair (.sl .arg0 (.int .u8)) (.pair (.int .i64) (.int .i64))) [pf cR,pI] [(true,Y1)] λx a=>Pu.pY x a.1 a.2.1
theorem o65:cE 65 e65:=g8.pS (pA (an:={}) (Λ:=dC.nil) ((base.add o55).add o56) Tryz.func65 (by kernel_rfl) (ao nF)) (λx a=>by kernel_rfl)
def e66:bg:=jm (.pair (.sl .arg0 (.int .u8)) (.pair (.int .i64) (.int .i64))) [] [(true,Y8)] λx a=>Pu.sQ x
theorem o66:cE 66 e66:=g8.pS (pA (an:={}) (Λ:=dC.nil) ((base.add o56).add o59) Tryz.func66 (by kernel_rfl) (ao nF)) (λx a=>by kernel_rfl)
def e21:bg:=jm (.pair (.sl .arg0 (.int .u8)) (.pair (.int .i64) (.int .i64))) [pI,pd .bool] [(false,(.sl (.own none) fE))] λx a=>Pu.xG x a.1 a.2.1
def g21:dm:=(((((((dm.nil.add 55 e55).add 56 e56).add 59 e59).add 63 e63).add 64 e64).add 65 e65).add 66 e66).add 67 e67
def Qu:An:={mask:=mk [(4,[0,1,2,7,8,9]),(42,[0,7,14]),(1000010,[0,1,2,7,8,9]),(1000011,[0,1,2,7,8,9]),(1000012,[0,1,2,7,8,9]),(1000013,[0,1,2,7,8,9]),(1000038,[0,1,2,7,8,9,10,11,30,46]),(1000039,[0,1,2,7,8,9,11]),(1000050,[0,1,2,7,8,9,10,11,30,63]),(1000051,[0,1,2,7,8,9,11]),(1000074,[0,1,2,7,8,9,11]),(1000075,[0,1,2,7,8,9]),(1000086,[0,7,14]),(1000087,[0,7,14]),(1000088,[0,7,14]),(1000089,[0,7,14]),(1000090,[0,7,14,158]),(1000091,[0,7,14])],cut:=[5,6,19,25,37,43,44,45],merge:=mg [(44,158)],mv:=[83,110,116,124,164]}
abbrev B6:SD:=⟨.ptr 0 0::DI::DB::bs 4 (.data false (cA 86016 fE)::.data false (cA 98304 cR)::DI::DI::.ptr 11 0::bs 18 (DI::bs 32 (DB::bs 101 []))),(some Y7)::zs 10 ((some Y16)::zs 153 []),.ptr⟩
abbrev Pj:SD:=⟨.ptr 0 0::DI::DB::bs 4 (.data false (cA 86016 fE)::.data false (cA 98304 cR)::DI::B::.ptr 11 0::bs 153 []),(some Y7)::zs 10 ((some Y16)::zs 153 []),.ptr⟩
def IB (X:SD.D B6)(K:Ex->AS->aw R):aw R:=Pu.iE (λy0 y1 y2=>kn K Pj ((X.1.1,(X.1.2.1,(y0,(X.1.2.2.2.1,(X.1.2.2.2.2.1,()))))),(y1,(y2,())),())) X.1.1 X.1.2.1 (q2 X) (q3 X) (q4 X) (q5 X) (q6 X) (q7 X) X.2.1.1 X.2.1.2.1
def Tm:cH:=Qr B6 IB
abbrev B5:SD:=⟨.ptr 0 0::DI::DB::bs 4 (.data false (cA 86016 fE)::.data false (cA 98304 cR)::DI::DI::.ptr 11 0::bs 18 (DI::bs 15 (DB::bs 118 []))),(some Y7)::zs 10 ((some Y16)::zs 153 []),.ptr⟩
abbrev Ph:SD:=⟨.ptr 0 0::DI::DB::bs 4 (.data false (cA 86016 fE)::.data false (cA 98304 cR)::DI::B::.ptr 11 0::bs 153 []),(some Y7)::zs 10 ((some Y16)::zs 153 []),.ptr⟩
def IA (X:SD.D B5)(K:Ex->AS->aw R):aw R:=Pu.iD (λy0 y1 y2=>kn K Ph ((X.1.1,(X.1.2.1,(y0,(X.1.2.2.2.1,(X.1.2.2.2.2.1,()))))),(y1,(y2,())),())) X.1.1 X.1.2.1 (q2 X) (q3 X) (q4 X) (q5 X) (q6 X) (q7 X) X.2.1.1 X.2.1.2.1
def Tl:cH:=Qr B5 IA
abbrev B7:SD:=⟨.ptr 0 0::DI::DB::bs 4 (.data false (cA 86016 fE)::.data false (cA 98304 cR)::DI::B::.ptr 11 0::bs 153 []),(some Y7)::zs 10 ((some Y16)::zs 153 []),.ptr⟩
abbrev Pk:SD:=⟨.ptr 0 0::DI::DB::bs 4 (.data false (cA 86016 fE)::.data false (cA 98304 cR)::DI::bs 155 []),(some Y7)::zs 164 [],.ptr⟩
def IC (X:SD.D B7)(K:Ex->AS->aw R):aw R:=Pu.iG (λy0 y1=>kn K Pk ((X.1.1,(X.1.2.1,(y0,(X.1.2.2.2.1,(X.1.2.2.2.2.1,()))))),(y1,()),())) X.1.1 X.1.2.1 (q2 X) (q3 X) (q4 X) X.2.1.1 X.2.1.2.1
def Tn:cH:=Qr B7 IC
abbrev yT:SD:=⟨.ptr 0 0::DI::DB::bs 4 (.data false (cA 86016 fE)::.data false (cA 98304 cR)::DI::bs 155 []),(some Y7)::zs 164 [],.ptr⟩
def Iy (X:SD.D yT)(K:Ex->AS->aw R):aw R:=Pu.kY (λy0=>kn K yT ((z4 (u y0) X.1),X.2)) X.1.1 X.1.2.1 (q2 X) (q3 X) (q4 X) X.2.1.1
def Tj:cH:=Qr yT Iy
abbrev yU:SD:=⟨.ptr 0 0::DI::DB::bs 4 (.data false (cA 86016 fE)::.data false (cA 98304 cR)::DI::bs 155 []),(some Y7)::zs 164 [],.ptr⟩
def Iz (X:SD.D yU)(K:Ex->AS->aw R):aw R:=Pu.sR (λy0 y1 y2=>kn K yU ((z2 (w y0 (z1 (u y1))) X.1),(u y2 X.2.1),X.2.2)) X.1.1 X.1.2.1 (q2 X) (q3 X) (q4 X) X.2.1.1
def Tk:cH:=Qr yU Iz
abbrev XI:SD:=⟨.ptr 0 0::DI::DB::bs 4 (.data false (cA 86016 fE)::.data false (cA 98304 cR)::DI::bs 155 []),(some Y7)::zs 164 [],.ptr⟩
def ahC (X:SD.D XI)(K:Ex->AS->aw R):=Pu.wY (λy0 y1 y2=>ke 0 K XI ((z2 (w y0 (z1 (u y1))) X.1),(u y2 X.2.1),X.2.2)) X.1.1 X.1.2.1 (q3 X)
def apF:cH:=gN XI ahC (λX=>(q2 X,q4 X,X.2.1.1))
abbrev B8:SD:=⟨.ptr 0 0::bs 6 (.data false (cA 86016 fE)::bs 6 (DI::bs 143 (DB::bs 6 []))),(some Y7)::zs 164 [],.ptr⟩
abbrev Pm:SD:=⟨.ptr 0 0::bs 6 (.data false (cA 86016 fE)::bs 6 (DI::bs 150 [])),(some Y7)::zs 164 [],.ptr⟩
def IG (X:SD.D B8)(K:Ex->AS->aw R):aw R:=Pu.vj (λy0=>kn K Pm ((y0,(X.1.2.1,())),(X.2.1.1,()),())) X.1.1 X.1.2.1 (q2 X) X.2.1.1
def Tq:cH:=Qr B8 IG
abbrev yV:SD:=⟨.ptr 0 0::bs 6 (.data false (cA 86016 fE)::bs 6 (DI::bs 150 [])),(some Y7)::zs 164 [],.ptr⟩
def ID (X:SD.D yV)(K:Ex->AS->aw R):aw R:=Pu.qR (λy0=>kn K yV ((z1 (u y0) X.1),X.2)) X.1.1 X.1.2.1 X.2.1.1
def To:cH:=Qr yV ID
abbrev yW:SD:=⟨.ptr 0 0::bs 6 (.data false (cA 86016 fE)::bs 6 (DI::bs 150 [])),(some Y7)::zs 164 [],.ptr⟩
def IE (X:SD.D yW)(K:Ex->AS->aw R):aw R:=Pu.vi (λy0 y1=>kn K yW ((w y0 (u y1) X.1),X.2)) X.1.1 X.1.2.1 X.2.1.1
def Tp:cH:=Qr yW IE
abbrev Pn:SD:=⟨.ptr 0 0::bs 6 (.data false (cA 86016 fE)::bs 6 (DI::bs 150 [])),(some Y7)::zs 164 [],.ptr⟩
def aeM (X:SD.D Pn)(K:Ex->AS->aw R):=Pu.vk (λy0 y1=>ke 3 K Pn ((w y0 (u y1) X.1),X.2)) X.2.1.1
def akP:cH:=gN Pn aeM (λX=>(X.1.1,X.1.2.1))
def L21:dC:=((((((((((dC.nil).add 1000050 Tm).add 1000038 Tl).add 1000074 Tn).add 1000010 Tj).add 1000012 Tk).add 4 apF).add 1000090 Tq).add 1000086 To).add 1000088 Tp).add 42 akP
theorem S5:Ml E g21 Qu L21 (ld Qu.cut Tryz.f21 2):=ck B6 IB
theorem S4:Ml E g21 Qu L21 (ld Qu.cut Tryz.f21 1):=ck B5 IA
theorem S6:Ml E g21 Qu L21 (ld Qu.cut Tryz.f21 3):=ck B7 IC
theorem S2:Ml E g21 Qu L21 (ld Qu.cut Tryz.f21 4):=ck yT Iy
theorem S3:Ml E g21 Qu L21 (ld Qu.cut Tryz.f21 0):=ck yU Iz
theorem ao2:gy E g21 Qu L21 (aR Tryz.f21 0):=lk XI ahC (λX=>(q2 X,q4 X,X.2.1.1)) λX x=>((z2 (w x.1 (z1 (u x.2.1))) X.1),(u x.2.2 X.2.1),X.2.2)
theorem S9:Ml E g21 Qu L21 (ld Qu.cut Tryz.f21 6):=ck B8 IG
theorem S7:Ml E g21 Qu L21 (ld Qu.cut Tryz.f21 7):=ck yV ID
theorem S8:Ml E g21 Qu L21 (ld Qu.cut Tryz.f21 5):=ck yW IE
theorem ajy:gy E g21 Qu L21 (aR Tryz.f21 1):=lk Pn aeM (λX=>(X.1.1,X.1.2.1)) λX x=>((w x.1 (u x.2) X.1),X.2)
theorem o21:cE 21 e21:=g8.pS (pA (Γ:=g21) (an:=Qu) (Λ:=L21) ((((((((base.add o55).add o56).add o59).add o63).add o64).add o65).add o66).add o67) Tryz.func21 (by kernel_rfl) (ac (cF ao2 (cF ajy nF)) (cF S3 (cF S4 (cF S5 (cF S6 (cF S2 (cF S8 (cF S9 (cF S7 nF)))))))))) (λx a=>by kernel_rfl)
def e8:bg:=aK [pd (.sl (.int .u8))] [(true,Y5),(false,(.sl (.own none) fE))] (c1 Pu.vR)
theorem o8:cE 8 e8:=f0 {late:=[10],sb:=mg [(2,2),(11,7)]} (((base.add o19).add o20).add o21) Tryz.func8
def Ms:bg:=aK [pI,pI,pI] [rB] (c3 Pu.az)
theorem vL:cE 23 Ms:=f0 {merge:=mg [(1,6)]} base Tryz.func23
def e76:bg:=aK [pf lV] [rB] (c1 Pu.gE)
def g76:dm:=dm.nil.add 23 Ms
def n76:An:={mask:=mk [(2,[1,2,6,7,8])],merge:=mg [(4,29),(7,2)]}
abbrev RF:SD:=⟨B::.ptr 1 0::DB::B::B::B::.data false (.sl .arg (.int .i64))::DI::DI::bs 31 [],Z::(some Y24)::zs 38 [],.none⟩
def ahY (X:SD.D RF)(K:Ex->AS->aw R):=Pu.qj (λy0=>ke 0 K RF ((z3 (u y0) X.1),X.2)) (λy0 y1=>kr K RF ((w y0 (z2 (u y1)) X.1),X.2)) X.1.1 X.1.2.1 (q2 X) X.2.1.1
def ap1:cH:=gN RF ahY q3
def L76:dC:=(dC.nil).add 2 ap1
theorem apo:gy E g76 n76 L76 (aR Tryz.f76 0):=lk RF ahY q3 λX x=>((z3 (u x) X.1),X.2)
theorem o76:cE 76 e76:=fk n76 (base.add vL) Tryz.func76 (Λ:=L76) (cF apo nF)
def e26:bg:=aK [pf dV] [rB] (c1 Pu.pH)
theorem o26:cE 26 e26:=f0 {merge:=mg [(1,2)]} ((base.add vL).add o76) Tryz.func26
def e27:bg:=aK [pd (.sl (.int .i64)),pI] [rB] (c2 Pu.fP)
def g27:dm:=dm.nil
def n27:An:={mask:=mk [(2,[1,4,7,8,9])]}
abbrev Rx:SD:=⟨B::DI::B::B::DB::B::B::.data false (.sl .arg (.int .i64))::DI::DI::bs 7 [],zs 17 [],.none⟩
def ahE (X:SD.D Rx)(K:Ex->AS->aw R):=Pu.uf (λy0=>ke 0 K Rx ((z4 (u y0) X.1),X.2)) (λy0 y1=>kr K Rx ((z1 (w y0 (z2 (u y1))) X.1),X.2)) X.1.1 X.1.2.1 (q2 X) (q3 X)
def apH:cH:=gN Rx ahE q4
def L27:dC:=(dC.nil).add 2 apH
theorem ao4:gy E g27 n27 L27 (aR Tryz.f27 0):=lk Rx ahE q4 λX x=>((z4 (u x) X.1),X.2)
theorem o27:cE 27 e27:=fk n27 base Tryz.func27 (Λ:=L27) (cF ao4 nF)
def e28:bg:=aK [pd (.sl (.int .i64)),pI] [(false,(.sl (.own none) (.int .i64)))] (c2 Pu.jo)
def g28:dm:=dm.nil
def n28:An:={mask:=mk [(4,[1,5,6,10,11,12])],merge:=mg [(6,22)],mv:=[23,27,34,38]}
abbrev XK:SD:=⟨B::DI::B::B::B::.data false (cA 61440 (.int .i64))::DB::B::B::B::.data false (.sl .arg (.int .i64))::DI::DI::bs 26 [],zs 39 [],.none⟩
def ahF (X:SD.D XK)(K:Ex->AS->aw R):=Pu.kq (λy0 y1 y2=>ke 0 K XK ((z1 (w y0 (w y1 (z2 (u y2)))) X.1),X.2)) X.1.1 (q3 X) (q4 X)
def apI:cH:=gN XK ahF (λX=>(X.1.2.1,q2 X,q5 X))
def L28:dC:=(dC.nil).add 4 apI
theorem ao5:gy E g28 n28 L28 (aR Tryz.f28 0):=lk XK ahF (λX=>(X.1.2.1,q2 X,q5 X)) λX x=>((z1 (w x.1 (w x.2.1 (z2 (u x.2.2)))) X.1),X.2)
theorem o28:cE 28 e28:=fk n28 base Tryz.func28 (Λ:=L28) (cF ao5 nF)
def e77:bg:=aK [pf jK] [(true,Y24)] (c1 Pu.zN)
theorem o77:cE 77 e77:=f0 {} base Tryz.func77
def e78:bg:=aK [pd (.sl jK),pI] [rI] (c2 Pu.rL)
def g78:dm:=dm.nil
def n78:An:={mask:=mk [(2,[1,4,7,8,9])],merge:=mg [(4,21)]}
abbrev RG:SD:=⟨B::DI::B::B::DI::B::B::.data false (.sl .arg jK)::DI::DI::bs 14 [],zs 24 [],.none⟩
def ahZ (X:SD.D RG)(K:Ex->AS->aw R):=Pu.mF (λy0=>ke 0 K RG ((z4 (u y0) X.1),X.2)) (λy0 y1=>kr K RG ((z1 (w y0 (z2 (u y1))) X.1),X.2)) X.1.1 X.1.2.1 (q2 X) (q3 X)
def ap2:cH:=gN RG ahZ q4
def L78:dC:=(dC.nil).add 2 ap2
theorem apq:gy E g78 n78 L78 (aR Tryz.f78 0):=lk RG ahZ q4 λX x=>((z4 (u x) X.1),X.2)
theorem o78:cE 78 e78:=fk n78 base Tryz.func78 (Λ:=L78) (cF apq nF)
def e29:bg:=aK [pd (.sl jK)] [rB] (c1 Pu.lu)
def g29:dm:=((((dm.nil.add 23 Ms).add 27 e27).add 76 e76).add 77 e77).add 78 e78
def n29:An:={mask:=mk [(4,[0,2,9,10,11])],merge:=mg [(6,27),(8,37)]}
abbrev Ry:SD:=⟨.data false (.sl .arg jK)::B::DB::bs 6 (.data false (.sl .arg jK)::DI::DI::bs 27 []),zs 39 [],.none⟩
def ahG (X:SD.D Ry)(K:Ex->AS->aw R):=Pu.sn (λy0=>ke 0 K Ry ((z4 (u y0) X.1),X.2)) (λy0 y1=>kr K Ry ((z1 (w y0 (z2 (u y1))) X.1),X.2)) X.1.1 X.1.2.1 (q2 X) (q3 X)
def apJ:cH:=gN Ry ahG q4
def L29:dC:=(dC.nil).add 4 apJ
theorem ao6:gy E g29 n29 L29 (aR Tryz.f29 0):=lk Ry ahG q4 λX x=>((z4 (u x) X.1),X.2)
theorem o29:cE 29 e29:=fk n29 (((((base.add vL).add o27).add o76).add o77).add o78) Tryz.func29 (Λ:=L29) (cF ao6 nF)
def e11:bg:=aK [pd (.sl dV)] [(false,(.sl (.own none) jK)),rB] (c1 Pu.nz)
def g11:dm:=((((dm.nil.add 23 Ms).add 26 e26).add 27 e27).add 28 e28).add 29 e29
def n11:An:={mask:=mk [(6,[2,3,4,5,18,19,20]),(12,[2,3,4,5,7,8,18,19,20,32,33,34])],mv:=[53,57,63,69]}
abbrev OY:SD:=⟨B::B::.data false (cA 24576 jK)::DB::.data false (cA 49152 jK)::.data false (cA 61440 (.int .i64))::B::.ptr 7 0::.data false (cA 98304 (.int .i64))::bs 9 (.data false (.sl .arg dV)::DI::DI::bs 11 (.data false (cA 393216 (.int .i64))::DI::DI::bs 35 [])),zs 7 ((nU (cx Y24 Y8))::zs 62 []),.none⟩
def aeh (X:SD.D OY)(K:Ex->AS->aw R):=Pu.jT (λy0 y1 y2=>ke 2 K OY ((z3 (w y0 (w y1 (z5 (u y2)))) X.1),X.2)) X.1.1 X.1.2.1 (q2 X) (q5 X) (q6 X) (q7 X) (q8 X) (q9 X) X.2.1.1
def akk:cH:=gN OY aeh (λX=>(q3 X,q4 X,Yz X))
abbrev Rt:SD:=⟨B::B::.data false (cA 24576 jK)::DB::.data false (cA 49152 jK)::.data false (cA 61440 (.int .i64))::bs 12 (.data false (.sl .arg dV)::DI::DI::bs 49 []),zs 70 [],.none⟩
def ahx (X:SD.D Rt)(K:Ex->AS->aw R):=Pu.n5 (λy0 y1 y2=>ke 0 K Rt ((z2 (w y0 (w y1 (z2 (u y2)))) X.1),X.2)) (λy0 y1 y2 y3 y4=>kr K Rt ((w y0 (w y1 (w y2 (w y3 (z2 (u y4))))) X.1),X.2)) X.1.1 X.1.2.1 (q4 X) (q5 X)
def apA:cH:=gN Rt ahx (λX=>(q2 X,q3 X,q6 X))
def L11:dC:=((dC.nil).add 12 akk).add 6 apA
theorem ai3:gy E g11 n11 L11 (aR Tryz.f11 1):=lk OY aeh (λX=>(q3 X,q4 X,Yz X)) λX x=>((z3 (w x.1 (w x.2.1 (z5 (u x.2.2)))) X.1),X.2)
theorem aoX:gy E g11 n11 L11 (aR Tryz.f11 0):=lk Rt ahx (λX=>(q2 X,q3 X,q6 X)) λX x=>((z2 (w x.1 (w x.2.1 (z2 (u x.2.2)))) X.1),X.2)
theorem o11:cE 11 e11:=fk n11 (((((base.add vL).add o26).add o27).add o28).add o29) Tryz.func11 (Λ:=L11) (cF aoX (cF ai3 nF))
def e79:bg:=aK [pf (.sl .str)] [rB] (c1 Pu.rE)
def g79:dm:=dm.nil
def n79:An:={mask:=mk [(2,[1,2,6,7,8])]}
abbrev RH:SD:=⟨B::.ptr 1 0::DB::B::B::B::.data false (.sl .arg .str)::DI::DI::bs 11 [],Z::(nU (.sl .arg .str))::zs 18 [],.none⟩
def ah0 (X:SD.D RH)(K:Ex->AS->aw R):=Pu.Ae (λy0=>ke 0 K RH ((z3 (u y0) X.1),X.2)) (λy0 y1=>kr K RH ((w y0 (z2 (u y1)) X.1),X.2)) X.1.1 X.1.2.1 (q2 X) X.2.1.1
def ap3:cH:=gN RH ah0 q3
def L79:dC:=(dC.nil).add 2 ap3
theorem apr:gy E g79 n79 L79 (aR Tryz.f79 0):=lk RH ah0 q3 λX x=>((z3 (u x) X.1),X.2)
theorem o79:cE 79 e79:=fk n79 base Tryz.func79 (Λ:=L79) (cF apr nF)
def anD:bg:=aK [pd (.sl bL),pI,pI] [rI] (c3 Pu.mE)
def aul:dm:=dm.nil
def aqn:An:={mask:=mk [(2,[1,2,6,9,10,11])],merge:=mg [(4,25)]}
abbrev JY:SD:=⟨B::DI::DI::B::B::B::DI::B::B::.data false (.sl .arg bL)::DI::DI::bs 16 [],zs 28 [],.none⟩
def aep (X:SD.D JY)(K:Ex->AS->aw R):=Pu.mc (λy0=>ke 0 K JY ((z5 (u y0) X.1),X.2)) (λy0 y1=>kr K JY ((z2 (w y0 (z2 (u y1))) X.1),X.2)) X.1.1 X.1.2.1 (q2 X) (q3 X) (q4 X)
def aks:cH:=gN JY aep q5
def amt:dC:=(dC.nil).add 2 aks
theorem ajb:gy E aul aqn amt (aR Tryz.f145 0):=lk JY aep q5 λX x=>((z5 (u x) X.1),X.2)
theorem arf:cE 145 anD:=fk aqn base Tryz.func145 (Λ:=amt) (cF ajb nF)
def e80:bg:=aK [pd (.sl bL)] [rB] (c1 Pu.n4)
def g80:dm:=(dm.nil.add 23 Ms).add 145 anD
def n80:An:={mask:=mk [(2,[0,2,5,6,7])],merge:=mg [(4,37)]}
abbrev RI:SD:=⟨.data false (.sl .arg bL)::B::DB::B::B::.data false (.sl .arg bL)::DI::DI::bs 34 [],zs 42 [],.none⟩
def ah1 (X:SD.D RI)(K:Ex->AS->aw R):=Pu.nv (λy0=>ke 0 K RI ((z4 (u y0) X.1),X.2)) (λy0 y1=>kr K RI ((z1 (w y0 (z2 (u y1))) X.1),X.2)) X.1.1 X.1.2.1 (q2 X) (q3 X)
def ap4:cH:=gN RI ah1 q4
def L80:dC:=(dC.nil).add 2 ap4
theorem aps:gy E g80 n80 L80 (aR Tryz.f80 0):=lk RI ah1 q4 λX x=>((z4 (u x) X.1),X.2)
theorem o80:cE 80 e80:=fk n80 ((base.add vL).add arf) Tryz.func80 (Λ:=L80) (cF aps nF)
def e83:bg:=aK [pf js] [rB] (c1 Pu.il)
def g83:dm:=dm.nil.add 23 Ms
def n83:An:={mask:=mk [(5,[1,2,3,26,27,28])],merge:=mg [(1,21),(7,43)]}
abbrev RK:SD:=⟨B::.ptr 1 0::DB::.data false (cA 36864 .bool)::bs 22 (.data false (.sl .arg (.int .i64))::DI::DI::bs 19 []),Z::(some Y18)::zs 46 [],.none⟩
def ah3 (X:SD.D RK)(K:Ex->AS->aw R):=Pu.tU (λy0 y1=>ke 0 K RK ((z1 (w y0 (z2 (u y1))) X.1),X.2)) (λy0 y1 y2=>kr K RK ((w y0 (w y1 (z2 (u y2))) X.1),X.2)) X.1.1 (q2 X) (q3 X) X.2.1.1
def ap6:cH:=gN RK ah3 (λX=>(X.1.2.1,q4 X))
def L83:dC:=(dC.nil).add 5 ap6
theorem apu:gy E g83 n83 L83 (aR Tryz.f83 0):=lk RK ah3 (λX=>(X.1.2.1,q4 X)) λX x=>((z1 (w x.1 (z2 (u x.2))) X.1),X.2)
theorem o83:cE 83 e83:=fk n83 (base.add vL) Tryz.func83 (Λ:=L83) (cF apu nF)
def as3:bg:=aK [pI] [rB] (c1 Pu.rM)
theorem alW:cE 214 as3:=f0 {merge:=mg [(1,2)]} base Tryz.func214
def aiK:bg:=aK [pI,pI] [rI] (c2 Pu.im)
theorem agK:cE 254 aiK:=f0 {} base Tryz.func254
def an3:bg:=aK [pf ir] [rI] (c1 Pu.iQ)
theorem adq:cE 215 an3:=f0 {} ((base.add alW).add agK) Tryz.func215
def afQ:bg:=aK [pf ir] [rB] (c1 Pu.jc)
theorem TR:cE 146 afQ:=f0 {merge:=mg [(1,2)]} (((base.add vL).add alW).add adq) Tryz.func146
def e71:bg:=aK [pd (.sl (.int .i64))] [(false,(.sl (.own none) (.int .i64)))] (c1 Pu.fA)
theorem o71:cE 71 e71:=f0 {} base Tryz.func71
def afP:bg:=aK [pf js] [(true,Y10)] (c1 Pu.gZ)
theorem aaO:cE 141 afP:=f0 {mv:=[7]} (base.add o71) Tryz.func141
def afR:bg:=aK [pf js,pd (.sl (.int .i64))] [(true,Y10),rB] (c2 Pu.fM)
theorem alO:cE 147 afR:=f0 {merge:=mg [(3,21)],mv:=[10,24]} ((base.add o83).add aaO) Tryz.func147
def e81:bg:=aK [pf k6] [rB] (c1 Pu.xO)
def g81:dm:=(((dm.nil.add 23 Ms).add 83 e83).add 146 afQ).add 147 afR
def n81:An:={mask:=mk [(6,[1,2,3,4,30,31,32])],merge:=mg [(1,24),(8,50)],mv:=[55]}
abbrev RJ:SD:=⟨B::.ptr 1 0::DB::DI::.data false (cA 49152 (.int .i64))::bs 25 (.data false (.sl .arg jt)::DI::DI::bs 35 []),Z::(some Y26)::zs 66 [],.none⟩
def ah2 (X:SD.D RJ)(K:Ex->AS->aw R):=Pu.ua (λy0 y1 y2=>ke 0 K RJ ((z1 (w y0 (w y1 (z2 (u y2)))) X.1),X.2)) (λy0 y1 y2 y3=>kr K RJ ((w y0 (w y1 (w y2 (z2 (u y3)))) X.1),X.2)) X.1.1 (q3 X) (q4 X) X.2.1.1
def ap5:cH:=gN RJ ah2 (λX=>(X.1.2.1,q2 X,q5 X))
def L81:dC:=(dC.nil).add 6 ap5
theorem apt:gy E g81 n81 L81 (aR Tryz.f81 0):=lk RJ ah2 (λX=>(X.1.2.1,q2 X,q5 X)) λX x=>((z1 (w x.1 (w x.2.1 (z2 (u x.2.2)))) X.1),X.2)
theorem o81:cE 81 e81:=fk n81 ((((base.add vL).add o83).add TR).add alO) Tryz.func81 (Λ:=L81) (cF apt nF)
def asx:bg:=aK [pf gV] [rB] (c1 Pu.nB)
theorem alP:cE 148 asx:=f0 {merge:=mg [(1,2)]} ((base.add vL).add alW) Tryz.func148
def as4:bg:=aK [pf xT] [rB] (c1 Pu.pJ)
theorem ary:cE 216 as4:=f0 {merge:=mg [(1,18),(5,2),(7,2)]} (base.add vL) Tryz.func216
def as5:bg:=aK [pI] [rB] (c1 Pu.pO)
theorem arz:cE 217 as5:=f0 {merge:=mg [(1,2)]} base Tryz.func217
def aiB:bg:=aK [pf cR] [rB] (c1 Pu.fI)
theorem I3:cE 149 aiB:=f0 {merge:=mg [(1,2)]} (((base.add vL).add ary).add arz) Tryz.func149
def e82:bg:=aK [pf ec] [rB] (c1 Pu.uX)
theorem o82:cE 82 e82:=f0 {merge:=mg [(1,42),(5,2)]} ((((base.add vL).add TR).add alP).add I3) Tryz.func82
def asy:bg:=aK [pf fV] [rB] (c1 Pu.Ag)
theorem arh:cE 150 asy:=f0 {merge:=mg [(1,2)]} base Tryz.func150
def e84:bg:=aK [pf fV] [rB] (c1 Pu.lL)
theorem o84:cE 84 e84:=f0 {merge:=mg [(1,24),(3,2)]} ((base.add vL).add arh) Tryz.func84
def an4:bg:=aK [pf kZ] [rB] (c1 Pu.zi)
theorem arA:cE 218 an4:=f0 {merge:=mg [(1,33),(3,54),(5,2)]} (base.add vL) Tryz.func218
def aiC:bg:=aK [pd (.sl kZ)] [rB] (c1 Pu.xi)
def aum:dm:=dm.nil.add 218 an4
def aqo:An:={mask:=mk [(2,[0,2,5,6,7])]}
abbrev JZ:SD:=⟨.data false (.sl .arg kZ)::B::DB::B::B::.data false (.sl .arg kZ)::DI::DI::bs 10 [],zs 18 [],.none⟩
def aeq (X:SD.D JZ)(K:Ex->AS->aw R):=Pu.BK (λy0=>ke 0 K JZ ((z4 (u y0) X.1),X.2)) (λy0 y1=>kr K JZ ((z1 (w y0 (z2 (u y1))) X.1),X.2)) X.1.1 X.1.2.1 (q2 X) (q3 X)
def akt:cH:=gN JZ aeq q4
def amu:dC:=(dC.nil).add 2 akt
theorem ajc:gy E aum aqo amu (aR Tryz.f151 0):=lk JZ aeq q4 λX x=>((z4 (u x) X.1),X.2)
theorem ari:cE 151 aiC:=fk aqo (base.add arA) Tryz.func151 (Λ:=amu) (cF ajc nF)
def an5:bg:=aK [pf (.sl iH),pf qX] [rI] (c2 Pu.wz)
def auB:dm:=dm.nil
def aqD:An:={mask:=mk [(2,[3,4,8,9,10])],merge:=mg [(4,23)]}
abbrev J7:SD:=⟨B::B::B::.ptr 3 0::DI::B::B::B::.data false (.sl .arg iH)::DI::DI::bs 15 [],Z::Z::Z::(nU (cx Bw Y0))::zs 22 [],.none⟩
def aeL (X:SD.D J7)(K:Ex->AS->aw R):=Pu.uj (λy0=>ke 0 K J7 ((z3 (u y0) X.1),X.2)) (λy0 y1=>kr K J7 ((w y0 (z2 (u y1)) X.1),X.2)) X.1.1 X.1.2.1 (q2 X) X.2.1.1
def akO:cH:=gN J7 aeL q3
def amJ:dC:=(dC.nil).add 2 akO
theorem ajx:gy E auB aqD amJ (aR Tryz.f219 0):=lk J7 aeL q3 λX x=>((z3 (u x) X.1),X.2)
theorem arB:cE 219 an5:=fk aqD base Tryz.func219 (Λ:=amJ) (cF ajx nF)
def aoq:bg:=aK [pf qX] [rI] (c1 Pu.vC)
def auO:dm:=dm.nil.add 254 aiK
def aqR:An:={mask:=mk [(3,[3,16,17,18])]}
abbrev Pz:SD:=⟨B::B::B::DI::bs 12 (.data false (cA 196608 (.int .i64))::DI::DI::bs 10 []),zs 29 [],.none⟩
def ae1 (X:SD.D Pz)(K:Ex->AS->aw R):=Pu.mz (λy0 y1=>ke 0 K Pz ((w y0 (z2 (u y1)) X.1),X.2)) X.1.2.1 (q2 X)
def ak4:cH:=gN Pz ae1 (λX=>(X.1.1,q3 X))
def amX:dC:=(dC.nil).add 3 ak4
theorem ajN:gy E auO aqR amX (aR Tryz.f278 0):=lk Pz ae1 (λX=>(X.1.1,q3 X)) λX x=>((w x.1 (z2 (u x.2)) X.1),X.2)
theorem awE:cE 278 aoq:=fk aqR (base.add agK) Tryz.func278 (Λ:=amX) (cF ajN nF)
def an6:bg:=aK [pf qX] [(false,(.sl (.own none) (.int .i64)))] (c1 Pu.AW)
def auC:dm:=dm.nil.add 278 aoq
def aqE:An:={mask:=mk [(3,[1,3,4])],mv:=[10,18]}
abbrev Po:SD:=⟨B::.ptr 1 0::B::.data false (cA 36864 (.int .i64))::DI::bs 14 [],Z::(nU (cx Bw Y0))::zs 17 [],.none⟩
def aeN (X:SD.D Po)(K:Ex->AS->aw R):=Pu.rN (λy0 y1=>ke 0 K Po ((w y0 (u y1) X.1),X.2)) X.2.1.1
def akQ:cH:=gN Po aeN (λX=>(X.1.1,X.1.2.1))
def amK:dC:=(dC.nil).add 3 akQ
theorem ajz:gy E auC aqE amK (aR Tryz.f220 0):=lk Po aeN (λX=>(X.1.1,X.1.2.1)) λX x=>((w x.1 (u x.2) X.1),X.2)
theorem av7:cE 220 an6:=fk aqE (base.add awE) Tryz.func220 (Λ:=amK) (cF ajz nF)
def anE:bg:=aK [pf (.sl iH)] [rB] (c1 Pu.qx)
def aoO:dm:=((dm.nil.add 23 Ms).add 219 an5).add 220 an6
def alA:An:={mask:=mk [(4,[1,2,12,13,14]),(14,[1,2,3,12,13,14,49,50,51])],merge:=mg [(6,28),(9,40)]}
abbrev E9:SD:=⟨B::.ptr 1 0::DB::DI::bs 8 (.data false (.sl .arg iH)::DI::DI::bs 34 (.data false (cA 602112 (.int .i64))::DI::DI::bs 15 [])),Z::(nU (.sl .arg iH))::zs 65 [],.none⟩
def YV (X:SD.D E9)(K:Ex->AS->aw R):=Pu.jU (λy0=>ke 2 K E9 ((z7 (u y0) X.1),X.2)) (λy0 y1=>kr K E9 ((w y0 (z6 (u y1)) X.1),X.2)) X.1.1 X.1.2.1 (q2 X) (q3 X) (q4 X) (q5 X) (q6 X) X.2.1.1
def agv:cH:=gN E9 YV q7
abbrev J0:SD:=⟨B::.ptr 1 0::DB::bs 9 (.data false (.sl .arg iH)::DI::DI::bs 52 []),Z::(nU (.sl .arg iH))::zs 65 [],.none⟩
def aer (X:SD.D J0)(K:Ex->AS->aw R):=Pu.sr (λy0=>ke 0 K J0 ((z3 (u y0) X.1),X.2)) (λy0 y1=>kr K J0 ((w y0 (z2 (u y1)) X.1),X.2)) X.1.1 X.1.2.1 (q2 X) X.2.1.1
def aku:cH:=gN J0 aer q3
def aih:dC:=((dC.nil).add 14 agv).add 4 aku
theorem agm:gy E aoO alA aih (aR Tryz.f152 1):=lk E9 YV q7 λX x=>((z7 (u x) X.1),X.2)
theorem ajd:gy E aoO alA aih (aR Tryz.f152 0):=lk J0 aer q3 λX x=>((z3 (u x) X.1),X.2)
theorem arj:cE 152 anE:=fk alA (((base.add vL).add arB).add av7) Tryz.func152 (Λ:=aih) (cF ajd (cF agm nF))
def an7:bg:=aK [pI] [rB] (c1 Pu.Ct)
theorem av8:cE 221 an7:=f0 {merge:=mg [(1,2)]} base Tryz.func221
def anF:bg:=aK [pf AB,pI] [rB] (c2 Pu.vI)
def aun:dm:=(dm.nil.add 23 Ms).add 221 an7
def aqp:An:={mask:=mk [(4,[1,4,24,25,26])],merge:=mg [(1,22)]}
abbrev J1:SD:=⟨B::DI::B::B::DB::bs 19 (.data false (.sl .arg (.int .i64))::DI::DI::bs 9 []),zs 36 [],.none⟩
def aes (X:SD.D J1)(K:Ex->AS->aw R):=Pu.Af (λy0=>ke 0 K J1 ((z4 (u y0) X.1),X.2)) (λy0 y1=>kr K J1 ((z1 (w y0 (z2 (u y1))) X.1),X.2)) X.1.1 X.1.2.1 (q2 X) (q3 X)
def akv:cH:=gN J1 aes q4
def amv:dC:=(dC.nil).add 4 akv
theorem aje:gy E aun aqp amv (aR Tryz.f153 0):=lk J1 aes q4 λX x=>((z4 (u x) X.1),X.2)
theorem ark:cE 153 anF:=fk aqp ((base.add vL).add av8) Tryz.func153 (Λ:=amv) (cF aje nF)
def e85:bg:=aK [pf ox,pI] [rB] (c2 Pu.n7)
def g85:dm:=((dm.nil.add 151 aiC).add 152 anE).add 153 anF
def n85:An:={mask:=mk [(4,[1,2,4,27,28,29]),(10,[1,4,45,46,47])],merge:=mg [(1,25),(6,41),(12,59)]}
abbrev RL:SD:=⟨B::DI::.ptr 2 0::B::DB::bs 22 (.data false (.sl .arg kZ)::DI::DI::bs 31 []),Z::Z::(some Y21)::zs 58 [],.none⟩
def ah4 (X:SD.D RL)(K:Ex->AS->aw R):=Pu.nD (λy0=>ke 0 K RL ((z4 (u y0) X.1),X.2)) (λy0 y1=>kr K RL ((z1 (w y0 (z2 (u y1))) X.1),X.2)) X.1.1 X.1.2.1 (q2 X) (q3 X) X.2.1.1
def ap7:cH:=gN RL ah4 q4
abbrev Kj:SD:=⟨B::DI::B::B::DB::bs 40 (.data false (.sl .arg iH)::DI::DI::bs 13 []),zs 61 [],.none⟩
def afm (X:SD.D Kj)(K:Ex->AS->aw R):=Pu.l7 (λy0=>ke 2 K Kj ((z4 (u y0) X.1),X.2)) (λy0 y1=>kr K Kj ((z1 (w y0 (z2 (u y1))) X.1),X.2)) X.1.1 X.1.2.1 (q2 X) (q3 X)
def alq:cH:=gN Kj afm q4
def L85:dC:=((dC.nil).add 4 ap7).add 10 alq
theorem apv:gy E g85 n85 L85 (aR Tryz.f85 0):=lk RL ah4 q4 λX x=>((z4 (u x) X.1),X.2)
theorem aj8:gy E g85 n85 L85 (aR Tryz.f85 1):=lk Kj afm q4 λX x=>((z4 (u x) X.1),X.2)
theorem o85:cE 85 e85:=fk n85 (((base.add ari).add arj).add ark) Tryz.func85 (Λ:=L85) (cF apv (cF aj8 nF))
def e30:bg:=aK [pf de] [rB] (c1 Pu.ik)
def g30:dm:=((((((((dm.nil.add 23 Ms).add 76 e76).add 79 e79).add 80 e80).add 81 e81).add 82 e82).add 83 e83).add 84 e84).add 85 e85
def n30:An:={mask:=mk [(5,[1,2,3,61,62]),(12,[1,2,3,103,104,105])],merge:=mg [(2,58),(7,89)]}
abbrev Rz:SD:=⟨B::.ptr 1 0::DB::DI::bs 57 (DI::DI::bs 54 []),Z::(some Y6)::zs 115 [],.none⟩
def ahH (X:SD.D Rz)(K:Ex->AS->aw R):=Pu.tP (λy0=>ke 0 K Rz ((z3 (u y0) X.1),X.2)) (λy0 y1=>kr K Rz ((w y0 (z2 (u y1)) X.1),X.2)) X.1.1 X.1.2.1 (q2 X) X.2.1.1
def apK:cH:=gN Rz ahH q3
abbrev Kg:SD:=⟨B::.ptr 1 0::DB::DI::bs 99 (.data false (cA 1265664 (.int .i64))::DI::DI::bs 11 []),Z::(some Y6)::zs 115 [],.none⟩
def afa (X:SD.D Kg)(K:Ex->AS->aw R):=Pu.sk (λy0=>ke 2 K Kg ((z4 (u y0) X.1),X.2)) (λy0 y1=>kr K Kg ((w y0 (z3 (u y1)) X.1),X.2)) X.1.1 X.1.2.1 (q2 X) (q3 X) X.2.1.1
def ald:cH:=gN Kg afa q4
def L30:dC:=((dC.nil).add 5 apK).add 12 ald
theorem ao7:gy E g30 n30 L30 (aR Tryz.f30 0):=lk Rz ahH q3 λX x=>((z3 (u x) X.1),X.2)
theorem ajW:gy E g30 n30 L30 (aR Tryz.f30 1):=lk Kg afa q4 λX x=>((z4 (u x) X.1),X.2)
theorem o30:cE 30 e30:=fk n30 (((((((((base.add vL).add o76).add o79).add o80).add o81).add o82).add o83).add o84).add o85) Tryz.func30 (Λ:=L30) (cF ao7 (cF ajW nF))
def e86:bg:=aK [pd (.sl (.int .i64)),pd (.sl (.int .i64))] [rB] (c2 Pu.qI)
def g86:dm:=dm.nil
def n86:An:={mask:=mk [(4,[0,1,4,12,13])]}
abbrev RM:SD:=⟨.data false (.sl .arg (.int .i64))::.data false (.sl .arg (.int .i64))::B::B::DB::bs 7 (DI::DI::bs 12 []),zs 26 [],.none⟩
def ah5 (X:SD.D RM)(K:Ex->AS->aw R):=Pu.me (λy0=>ke 0 K RM ((z4 (u y0) X.1),X.2)) (λy0 y1=>kr K RM ((z2 (w y0 (z1 (u y1))) X.1),X.2)) X.1.1 X.1.2.1 (q2 X) (q3 X)
def ap8:cH:=gN RM ah5 q4
def L86:dC:=(dC.nil).add 4 ap8
theorem apw:gy E g86 n86 L86 (aR Tryz.f86 0):=lk RM ah5 q4 λX x=>((z4 (u x) X.1),X.2)
theorem o86:cE 86 e86:=fk n86 base Tryz.func86 (Λ:=L86) (cF apw nF)
def e31:bg:=aK [pf lV,pf lV] [rB] (c2 Pu.sy)
theorem o31:cE 31 e31:=f0 {merge:=mg [(1,4)]} (base.add o86) Tryz.func31
def e87:bg:=aK [pf gV] [rB] (c1 Pu.rz)
theorem o87:cE 87 e87:=f0 {merge:=mg [(1,2)]} (base.add vL) Tryz.func87
def e32:bg:=aK [pd (.sl bK),pd (.sl jK)] [rB] (c2 Pu.my)
def g32:dm:=((dm.nil.add 23 Ms).add 29 e29).add 87 e87
def n32:An:={mask:=mk [(4,[0,1,4,12,13,14]),(9,[0,1,4,6,12,13,14,52,53,54])],merge:=mg [(6,49),(11,69)]}
abbrev RB:SD:=⟨.data false (.sl .arg bK)::.data false (.sl .arg jK)::B::B::DB::B::.ptr 6 0::bs 5 (.data false (.sl .arg bK)::DI::DI::bs 37 (.data false (.sl .arg bK)::DI::DI::bs 17 [])),zs 6 ((nU (je (je (cx Y8 (cx .bool (je Bw))))))::zs 65 []),.none⟩
def ahJ (X:SD.D RB)(K:Ex->AS->aw R):=Pu.lZ (λy0=>ke 2 K RB ((z8 (u y0) X.1),X.2)) (λy0 y1=>kr K RB ((z2 (w y0 (z5 (u y1))) X.1),X.2)) X.1.1 X.1.2.1 (q2 X) (q3 X) (q4 X) (q5 X) (q6 X) (q7 X) X.2.1.1
def apM:cH:=gN RB ahJ q8
abbrev RA:SD:=⟨.data false (.sl .arg bK)::.data false (.sl .arg jK)::B::B::DB::bs 7 (.data false (.sl .arg bK)::DI::DI::bs 57 []),zs 72 [],.none⟩
def ahI (X:SD.D RA)(K:Ex->AS->aw R):=Pu.lY (λy0=>ke 0 K RA ((z5 (u y0) X.1),X.2)) (λy0 y1=>kr K RA ((z2 (w y0 (z2 (u y1))) X.1),X.2)) X.1.1 X.1.2.1 (q2 X) (q3 X) (q4 X)
def apL:cH:=gN RA ahI q5
def L32:dC:=((dC.nil).add 9 apM).add 4 apL
theorem ao9:gy E g32 n32 L32 (aR Tryz.f32 1):=lk RB ahJ q8 λX x=>((z8 (u x) X.1),X.2)
theorem ao8:gy E g32 n32 L32 (aR Tryz.f32 0):=lk RA ahI q5 λX x=>((z5 (u x) X.1),X.2)
theorem o32:cE 32 e32:=fk n32 (((base.add vL).add o29).add o87) Tryz.func32 (Λ:=L32) (cF ao8 (cF ao9 nF))
def e33:bg:=aK [pd (.sl bK)] [rB] (c1 Pu.ug)
def g33:dm:=dm.nil
def n33:An:={mask:=mk [(2,[2,5,6,7])],merge:=mg [(4,22)]}
abbrev RD:SD:=⟨B::B::DB::B::B::.data false (.sl .arg bK)::DI::DI::bs 16 [],zs 24 [],.none⟩
def ahK (X:SD.D RD)(K:Ex->AS->aw R):=Pu.pg (λy0=>ke 0 K RD ((z3 (u y0) X.1),X.2)) (λy0 y1=>kr K RD ((w y0 (z2 (u y1)) X.1),X.2)) X.1.1 X.1.2.1 (q2 X)
def apN:cH:=gN RD ahK q3
def L33:dC:=(dC.nil).add 2 apN
theorem apa:gy E g33 n33 L33 (aR Tryz.f33 0):=lk RD ahK q3 λX x=>((z3 (u x) X.1),X.2)
theorem o33:cE 33 e33:=fk n33 base Tryz.func33 (Λ:=L33) (cF apa nF)
def asp:bg:=aK [pd .str,pI] [rI] (c2 Pu.gx)
theorem WE:cE 122 asp:=f0 {merge:=mg [(1,13)]} base Tryz.func122
def asQ:bg:=aK [pI] [rS] (c1 Pu.fb)
theorem TS:cE 191 asQ:=f0 {} (base.add vL) Tryz.func191
def asR:bg:=aK [pd .str] [rI] (c1 Pu.yk)
def aoR:dm:=dm.nil
def alC:An:={mask:=mk [(3,[0,3,4]),(7,[0,3,4,5])]}
abbrev Pb:SD:=⟨.data false .str::B::B::.data false (.int .u32)::DI::DI::bs 28 [],zs 34 [],.none⟩
def aeD (X:SD.D Pb)(K:Ex->AS->aw R):=Pu.oB (λy0 y1=>ke 2 K Pb ((z1 (w y0 (z1 (u y1))) X.1),X.2)) X.1.1 (q2 X)
def akG:cH:=gN Pb aeD (λX=>(X.1.2.1,q3 X))
abbrev Pa:SD:=⟨.data false .str::B::B::.data false (.int .u32)::DI::bs 29 [],zs 34 [],.none⟩
def aeC (X:SD.D Pa)(K:Ex->AS->aw R):=Pu.rA (λy0 y1=>ke 0 K Pa ((z1 (w y0 (u y1)) X.1),X.2)) X.1.1
def akF:cH:=gN Pa aeC (λX=>(X.1.2.1,q2 X))
def aij:dC:=((dC.nil).add 7 akG).add 3 akF
theorem ajp:gy E aoR alC aij (aR Tryz.f192 1):=lk Pb aeD (λX=>(X.1.2.1,q3 X)) λX x=>((z1 (w x.1 (z1 (u x.2))) X.1),X.2)
theorem ajo:gy E aoR alC aij (aR Tryz.f192 0):=lk Pa aeC (λX=>(X.1.2.1,q2 X)) λX x=>((z1 (w x.1 (u x.2)) X.1),X.2)
theorem arv:cE 192 asR:=fk alC base Tryz.func192 (Λ:=aij) (cF ajo (cF ajp nF))
def asq:bg:=aK [pI,pd .str] [rS,rB] (c2 Pu.tR)
theorem avi:cE 123 asq:=f0 {merge:=mg [(1,15)]} (((base.add vL).add TS).add arv) Tryz.func123
def e52:bg:=aK [pd .str] [rI] (c1 Pu.hZ)
theorem o52:cE 52 e52:=f0 {merge:=mg [(2,19),(5,38)]} ((base.add WE).add avi) Tryz.func52
def e88:bg:=aK [pf (.sl .str)] [rB] (c1 Pu.tL)
theorem o88:cE 88 e88:=f0 {merge:=mg [(1,2)]} base Tryz.func88
def e34:bg:=aK [pf (.sl .str)] [rI] (c1 Pu.oA)
theorem o34:cE 34 e34:=f0 {merge:=mg [(4,18)]} ((base.add o52).add o88) Tryz.func34
def e35:bg:=aK [pf ir] [rB] (c1 Pu.tK)
theorem o35:cE 35 e35:=f0 {merge:=mg [(1,2)]} (base.add vL) Tryz.func35
def e12:bg:=aK [pf sZ] [rB] (c1 Pu.lj)
def g12:dm:=((((((dm.nil.add 11 e11).add 30 e30).add 31 e31).add 32 e32).add 33 e33).add 34 e34).add 35 e35
def n12:An:={mask:=mk [(5,[1,2,3,34,35,36])],merge:=mg [(2,32),(7,55),(10,2)]}
abbrev Ru:SD:=⟨B::.ptr 1 0::DB::.data false (.sl .loc jK)::bs 30 (.data false (.sl .arg de)::DI::DI::bs 40 []),Z::(nU (cx (.sl .arg de) (cx (.sl .arg bK) (cx (.sl .arg dV) (cx (.sl .arg .str) (cx Y0 (cx (.sl .arg (.int .i64)) (.sl .arg .str))))))))::zs 75 [],.none⟩
def ahy (X:SD.D Ru)(K:Ex->AS->aw R):=Pu.tJ (λy0=>ke 0 K Ru ((z4 (u y0) X.1),X.2)) (λy0 y1=>kr K Ru ((w y0 (z3 (u y1)) X.1),X.2)) X.1.1 X.1.2.1 (q2 X) (q3 X) X.2.1.1
def apB:cH:=gN Ru ahy q4
def L12:dC:=(dC.nil).add 5 apB
theorem aoY:gy E g12 n12 L12 (aR Tryz.f12 0):=lk Ru ahy q4 λX x=>((z4 (u x) X.1),X.2)
theorem o12:cE 12 e12:=fk n12 (((((((base.add o11).add o30).add o31).add o32).add o33).add o34).add o35) Tryz.func12 (Λ:=L12) (cF aoY nF)
def e68:bg:=aK [pd (.sl bK)] [(false,(.sl (.own none) bK))] (c1 Pu.iA)
theorem o68:cE 68 e68:=f0 {} base Tryz.func68
def e25:bg:=aK [pf lV] [(true,Y19)] (c1 Pu.eE)
theorem o25:cE 25 e25:=f0 {mv:=[7]} (base.add o71) Tryz.func25
def e75:bg:=aK [pf dV] [(true,(.pair Y19 Y8))] (c1 Pu.jV)
theorem o75:cE 75 e75:=f0 {mv:=[7]} (base.add o25) Tryz.func75
def e69:bg:=aK [pd (.sl dV)] [(false,(.sl (.own none) dV))] (c1 Pu.pK)
def g69:dm:=dm.nil.add 75 e75
def n69:An:={mask:=mk [(3,[3,7,8,9])],mv:=[13,19]}
abbrev XV:SD:=⟨B::B::B::.data false (cA 36864 dV)::B::B::B::.data false (.sl .arg dV)::DI::DI::bs 10 [],zs 20 [],.none⟩
def ahW (X:SD.D XV)(K:Ex->AS->aw R):=Pu.pa (λy0 y1=>ke 0 K XV ((w y0 (z2 (u y1)) X.1),X.2)) X.1.2.1 (q2 X)
def apZ:cH:=gN XV ahW (λX=>(X.1.1,q3 X))
def L69:dC:=(dC.nil).add 3 apZ
theorem apm:gy E g69 n69 L69 (aR Tryz.f69 0):=lk XV ahW (λX=>(X.1.1,q3 X)) λX x=>((w x.1 (z2 (u x.2)) X.1),X.2)
theorem o69:cE 69 e69:=fk n69 (base.add o75) Tryz.func69 (Λ:=L69) (cF apm nF)
def e72:bg:=aK [pd (.sl .str)] [(false,(.sl (.own none) .str))] (c1 Pu.gj)
theorem o72:cE 72 e72:=f0 {} base Tryz.func72
def e70:bg:=aK [pf (.sl .str)] [(true,(.sl (.own none) .str))] (c1 Pu.ku)
theorem o70:cE 70 e70:=f0 {} (base.add o72) Tryz.func70
def RR:bg:=aK [pf (.sl .str)] [(true,(.sl (.own none) .str))] (c1 Pu.c9)
theorem Ll:cE 138 RR:=f0 {} (base.add o72) Tryz.func138
def anB:bg:=aK [pd (.sl bL)] [(false,(.sl (.own none) bL))] (c1 Pu.ud)
theorem avt:cE 139 anB:=f0 {} base Tryz.func139
def an2:bg:=aK [pd (.sl jt)] [(false,(.sl (.own none) jt))] (c1 Pu.rK)
def auz:dm:=dm.nil.add 71 e71
def aqB:An:={mask:=mk [(3,[3,7,8,9])],mv:=[13,25]}
abbrev Pf:SD:=⟨B::B::B::.data false (cA 36864 jt)::B::B::B::.data false (.sl .arg jt)::DI::DI::bs 16 [],zs 26 [],.none⟩
def aeJ (X:SD.D Pf)(K:Ex->AS->aw R):=Pu.qF (λy0 y1=>ke 0 K Pf ((w y0 (z2 (u y1)) X.1),X.2)) X.1.2.1 (q2 X)
def akM:cH:=gN Pf aeJ (λX=>(X.1.1,q3 X))
def amH:dC:=(dC.nil).add 3 akM
theorem ajv:gy E auz aqB amH (aR Tryz.f209 0):=lk Pf aeJ (λX=>(X.1.1,q3 X)) λX x=>((w x.1 (z2 (u x.2)) X.1),X.2)
theorem arx:cE 209 an2:=fk aqB (base.add o71) Tryz.func209 (Λ:=amH) (cF ajv nF)
def afO:bg:=aK [pf k6] [(true,Y23)] (c1 Pu.pL)
theorem alM:cE 140 afO:=f0 {sb:=mg [(2,2)]} ((base.add aaO).add arx) Tryz.func140
def asZ:bg:=aK [pf (.sl iH)] [(true,(.sl (.own none) iH))] (c1 Pu.ue)
theorem av3:cE 210 asZ:=f0 {} base Tryz.func210
def as0:bg:=aK [pf AB] [(true,(.pair .str (.sl (.own none) (.int .i64))))] (c1 Pu.sv)
theorem av4:cE 211 as0:=f0 {sb:=mg [(2,2)]} (base.add o71) Tryz.func211
def anC:bg:=aK [pf ox] [(true,Y27)] (c1 Pu.pc)
theorem avu:cE 142 anC:=f0 {sb:=mg [(2,2)]} ((base.add av3).add av4) Tryz.func142
def aiA:bg:=aK [pd (.sl eJ)] [(false,(.sl (.own none) eJ))] (c1 Pu.jW)
theorem alN:cE 143 aiA:=f0 {} base Tryz.func143
def e73:bg:=aK [pf de] [(true,Y2)] (c1 Pu.ga)
def g73:dm:=((((((((dm.nil.add 25 e25).add 71 e71).add 72 e72).add 138 RR).add 139 anB).add 140 afO).add 141 afP).add 142 anC).add 143 aiA
def n73:An:={mask:=mk [(8,[1,2,3,27,28,29])],mv:=[34,75],mb:=mg [(34,3)],sb:=mg [(39,3)]}
abbrev XW:SD:=⟨B::.ptr 1 0::.ptr 2 0::.ptr 3 0::bs 23 (.data false (.sl .arg js)::DI::DI::bs 46 []),Z::(some Y6)::(some Y3)::(nU (cx (cA 36865 .str) (cx (cA 36868 bL) (cx (cx Y0 (cx (je (je (je (cA 36892 (.int .i64))))) (cx (cA 36895 jt) Bw))) (cx (cA 36901 ec) (cx (cA 36904 js) (cx (.sl .arg fV) (cx (.sl .arg .bool) (cx Y24 (cx Y21 (cx (.sl .arg eJ) (cx .bool (cx (.sl .arg .str) (cx (.sl .arg (.int .i64)) (cx (.sl .arg (.int .i64)) (cx Bw Y0))))))))))))))))::zs 72 [],.none⟩
def ahX (X:SD.D XW)(K:Ex->AS->aw R):=Pu.qE (λy0 y1=>ke 0 K XW ((z2 (u y0) X.1),(z2 (u y1) X.2.1),X.2.2)) X.1.1 X.1.2.1 X.2.1.1 X.2.1.2.1
def ap0:cH:=gN XW ahX (λX=>(q2 X,X.2.1.2.2.1))
def L73:dC:=(dC.nil).add 8 ap0
theorem apn:gy E g73 n73 L73 (aR Tryz.f73 0):=lk XW ahX (λX=>(q2 X,X.2.1.2.2.1)) λX x=>((z2 (u x.1) X.1),(z2 (u x.2) X.2.1),X.2.2)
theorem o73:cE 73 e73:=fk n73 (((((((((base.add o25).add o71).add o72).add Ll).add avt).add alM).add aaO).add avu).add alN) Tryz.func73 (Λ:=L73) (cF apn nF)
def e22:bg:=aK [pf sZ] [(true,Y5)] (c1 Pu.iR)
def g22:dm:=(((((dm.nil.add 68 e68).add 69 e69).add 70 e70).add 71 e71).add 72 e72).add 73 e73
def n22:An:={mask:=mk [(3,[2,3,25,26,27])],mv:=[32,39],mb:=mg [(32,3)],sb:=mg [(3,3),(37,3)]}
abbrev XJ:SD:=⟨B::B::.ptr 2 0::.ptr 3 0::bs 21 (.data false (.sl .arg de)::DI::DI::bs 12 []),Z::Z::(some Y9)::(nU (cx (cA 36865 de) (cx (cA 36868 bK) (cx (cA 36871 dV) (cx (cA 36874 .str) (cx Y0 (cx (cA 36889 (.int .i64)) (cA 36892 .str))))))))::zs 36 [],.none⟩
def ahD (X:SD.D XJ)(K:Ex->AS->aw R):=Pu.qD (λy0 y1=>ke 0 K XJ ((z2 (u y0) X.1),(z1 (u y1) X.2.1),X.2.2)) X.1.1 X.1.2.1 X.2.1.1
def apG:cH:=gN XJ ahD (λX=>(q2 X,X.2.1.2.1))
def L22:dC:=(dC.nil).add 3 apG
theorem ao3:gy E g22 n22 L22 (aR Tryz.f22 0):=lk XJ ahD (λX=>(q2 X,X.2.1.2.1)) λX x=>((z2 (u x.1) X.1),(z1 (u x.2) X.2.1),X.2.2)
theorem o22:cE 22 e22:=fk n22 ((((((base.add o68).add o69).add o70).add o71).add o72).add o73) Tryz.func22 (Λ:=L22) (cF ao3 nF)
def as1:bg:=aK [pf lV,pI] [(true,Y19),rB] (c2 Pu.xd)
theorem av5:cE 212 as1:=f0 {merge:=mg [(2,17)],mv:=[18,29]} ((((base.add o25).add o27).add o28).add o76) Tryz.func212
def as2:bg:=aK [pf lV,pI] [(true,Y19),rB] (c2 Pu.vx)
def auA:dm:=((dm.nil.add 25 e25).add 27 e27).add 76 e76
def aqC:An:={mask:=mk [(6,[1,4,6,25,26,27])],merge:=mg [(2,20)],mv:=[21,35,41]}
abbrev Pg:SD:=⟨B::DI::B::B::.ptr 4 0::B::.ptr 6 0::bs 18 (.data false (.sl .arg (.int .i64))::DI::DI::bs 14 []),zs 4 ((nU (je (cx .bool (cA 49159 (.int .i64)))))::Z::(nU (je (cx .bool (cA 73735 (.int .i64)))))::zs 35 []),.none⟩
def aeK (X:SD.D Pg)(K:Ex->AS->aw R):=Pu.qi (λy0 y1=>ke 0 K Pg ((z3 (u y0) X.1),(z1 (u y1) X.2.1),X.2.2)) X.1.1 X.1.2.1 (q2 X) X.2.1.1
def akN:cH:=gN Pg aeK (λX=>(q3 X,X.2.1.2.1))
def amI:dC:=(dC.nil).add 6 akN
theorem ajw:gy E auA aqC amI (aR Tryz.f213 0):=lk Pg aeK (λX=>(q3 X,X.2.1.2.1)) λX x=>((z3 (u x.1) X.1),(z1 (u x.2) X.2.1),X.2.2)
theorem av6:cE 213 as2:=fk aqC (((base.add o25).add o27).add o76) Tryz.func213 (Λ:=amI) (cF ajw nF)
def asw:bg:=aK [pf lV,pf gV] [(true,Y19),rI] (c2 Pu.xj)
theorem avv:cE 144 asw:=f0 {mv:=[21,30,39,46],mb:=mg [(39,6)],sb:=mg [(4,4)]} ((((base.add o25).add o76).add av5).add av6) Tryz.func144
def e74:bg:=aK [pf dV,pf gV] [(true,(.pair Y19 Y8)),rI] (c2 Pu.nt)
theorem o74:cE 74 e74:=f0 {mv:=[13,20,30,31,47],mb:=mg [(20,6),(47,6)],sb:=mg [(4,4)],fm:=[49]} (((base.add o26).add o75).add avv) Tryz.func74
def e24:bg:=aK [pd (.sl dV),pI,pf gV] [(false,(.sl (.own none) dV)),rI] (c3 Pu.o9)
theorem o24:cE 24 e24:=f0 {mv:=[14,23,32,60],es:=mg [(25,8)]} ((((base.add o11).add o69).add o74).add o75) Tryz.func24
def e10:bg:=aK [pf sZ,pI,pf gV] [(true,Y5),rI] (c3 Pu.nq)
theorem o10:cE 10 e10:=f0 {merge:=mg [(2,24)],mv:=[25,26,34,47]} (((((base.add o12).add o22).add vL).add o24).add o25) Tryz.func10
def e16:bg:=aK [pf (.sl .str)] [rI] (c1 Pu.qg)
theorem o16:cE 16 e16:=f0 {} ((base.add o34).add o52) Tryz.func16
def e89:bg:=aK [pf abV] [rB] (c1 Pu.yj)
theorem o89:cE 89 e89:=f0 {merge:=mg [(1,12),(3,31),(5,2)]} (base.add vL) Tryz.func89
def e36:bg:=aK [pf fE,pI] [rB] (c2 Pu.uc)
theorem o36:cE 36 e36:=f0 {merge:=mg [(1,4)]} ((base.add vL).add o89) Tryz.func36
def anG:bg:=aK [pf nj] [rB] (c1 Pu.ql)
theorem avw:cE 154 anG:=f0 {merge:=mg [(5,2),(7,2)]} (base.add vL) Tryz.func154
def e90:bg:=aK [pf (.sl .str),pf nj,pI] [(true,(.sl (.own none) .str))] (c3 Pu.jS)
def g90:dm:=((dm.nil.add 70 e70).add 88 e88).add 154 anG
def n90:An:={mask:=mk [(7,[2,4,6,7,8,9]),(11,[2,4,6,7,8,10])],merge:=mg [(2,24)],mv:=[25,74]}
abbrev XX:SD:=⟨B::B::DI::B::.ptr 4 0::B::.ptr 6 0::.ptr 7 0::.data false (cA 98304 (.int .u8))::DI::bs 65 [],zs 4 ((some Y22)::Z::(nU (cA 73729 .str))::(nU (cA 86017 .str))::zs 67 []),.none⟩
def ah6 (X:SD.D XX)(K:Ex->AS->aw R):=Pu.ri (λy0 y1=>ke 0 K XX ((z1 (w y0 (u y1)) X.1),X.2)) X.1.1 X.2.1.1 X.2.1.2.1 X.2.1.2.2.1
def ap9:cH:=gN XX ah6 (λX=>(X.1.2.1,q2 X))
abbrev PQ:SD:=⟨B::B::DI::B::.ptr 4 0::B::.ptr 6 0::.ptr 7 0::.data false (cA 98304 (.int .u8))::B::DI::bs 64 [],zs 4 ((some Y22)::Z::(nU (cA 73729 .str))::(nU (cA 86017 .str))::zs 67 []),.none⟩
def afn (X:SD.D PQ)(K:Ex->AS->aw R):=Pu.pF (λy0 y1=>ke 2 K PQ ((z1 (w y0 (u y1)) X.1),X.2)) X.1.1 X.2.1.1 X.2.1.2.1 X.2.1.2.2.1
def alr:cH:=gN PQ afn (λX=>(X.1.2.1,q2 X))
def L90:dC:=((dC.nil).add 7 ap9).add 11 alr
theorem apx:gy E g90 n90 L90 (aR Tryz.f90 0):=lk XX ah6 (λX=>(X.1.2.1,q2 X)) λX x=>((z1 (w x.1 (u x.2)) X.1),X.2)
theorem aj9:gy E g90 n90 L90 (aR Tryz.f90 1):=lk PQ afn (λX=>(X.1.2.1,q2 X)) λX x=>((z1 (w x.1 (u x.2)) X.1),X.2)
theorem o90:cE 90 e90:=fk n90 (((base.add o70).add o88).add avw) Tryz.func90 (Λ:=L90) (cF apx (cF aj9 nF))
def e37:bg:=aK [pf (.sl .str),pd (.sl nj),pI,pI] [(true,(.sl (.own none) .str))] (c4 Pu.tX)
def g37:dm:=(dm.nil.add 70 e70).add 90 e90
def n37:An:={mask:=mk [(5,[1,2,3,8,9,10])],merge:=mg [(2,18),(5,28)],mv:=[19,48],sb:=mg [(9,9)]}
abbrev XL:SD:=⟨B::.data false (.sl .arg nj)::DI::DI::bs 4 (.ptr 8 0::.ptr 9 0::DI::bs 38 []),zs 8 ((nU (cA 98305 .str))::(nU (cA 110593 .str))::zs 39 []),.none⟩
def ahL (X:SD.D XL)(K:Ex->AS->aw R):=Pu.tY (λy0 y1=>ke 0 K XL ((z3 (u y0) X.1),(z1 (u y1) X.2.1),X.2.2)) X.1.1 X.1.2.1 (q2 X) X.2.1.1
def apO:cH:=gN XL ahL (λX=>(q3 X,X.2.1.2.1))
def L37:dC:=(dC.nil).add 5 apO
theorem apb:gy E g37 n37 L37 (aR Tryz.f37 0):=lk XL ahL (λX=>(q3 X,X.2.1.2.1)) λX x=>((z3 (u x.1) X.1),(z1 (u x.2) X.2.1),X.2.2)
theorem o37:cE 37 e37:=fk n37 ((base.add o70).add o90) Tryz.func37 (Λ:=L37) (cF apb nF)
def e38:bg:=aK [pf (.sl .str),pd .str] [(false,(.sl (.own none) nj))] (c2 Pu.qA)
def g38:dm:=((dm.nil.add 34 e34).add 52 e52).add 88 e88
def n38:An:={mask:=mk [(8,[1,5,6,7])],merge:=mg [(1,20)],mv:=[33,47]}
abbrev XM:SD:=⟨B::.data false .str::B::B::B::DI::.data false (cA 73728 nj)::DI::bs 49 [],zs 57 [],.none⟩
def ahM (X:SD.D XM)(K:Ex->AS->aw R):=Pu.jv (λy0 y1=>ke 0 K XM ((z2 (w y0 (u y1)) X.1),X.2)) X.1.1 X.1.2.1
def apP:cH:=gN XM ahM (λX=>(q2 X,q3 X))
def L38:dC:=(dC.nil).add 8 apP
theorem apc:gy E g38 n38 L38 (aR Tryz.f38 0):=lk XM ahM (λX=>(q2 X,q3 X)) λX x=>((z2 (w x.1 (u x.2)) X.1),X.2)
theorem o38:cE 38 e38:=fk n38 (((base.add o34).add o52).add o88) Tryz.func38 (Λ:=L38) (cF apc nF)
def aob:bg:=aK [pf mj] [rB] (c1 Pu.wq)
theorem arD:cE 227 aob:=f0 {merge:=mg [(1,2)]} (base.add vL) Tryz.func227
def as6:bg:=aK [pI] [rS] (c1 Pu.cf)
theorem I4:cE 228 as6:=f0 {} (base.add vL) Tryz.func228
def aiD:bg:=aK [pf mj] [rS] (c1 Pu.kW)
theorem alQ:cE 158 aiD:=f0 {} (((base.add TS).add arD).add I4) Tryz.func158
def afS:bg:=aK [pf js,pI] [rI] (c2 Pu.fH)
theorem alR:cE 159 afS:=f0 {merge:=mg [(1,15)]} ((base.add vL).add o83) Tryz.func159
def aoc:bg:=aK [pf ir] [rI] (c1 Pu.rH)
theorem arE:cE 229 aoc:=f0 {} ((base.add TR).add adq) Tryz.func229
def aos:bg:=aK [pd (.sl bL),pI,pI,pd .bool] [rI] (c4 Pu.AU)
theorem awI:cE 284 aos:=f0 {merge:=mg [(4,29)]} (base.add arf) Tryz.func284
def afT:bg:=aK [pf (.sl .str),pI,pI] [rB] (c3 Pu.th)
theorem al0:cE 285 afT:=f0 {merge:=mg [(2,6)]} (base.add o79) Tryz.func285
def aiI:bg:=aK [pd (.sl bL),pf (.sl .str),pI,pI,pI,pd .bool] [(false,(.sl (.own none) g9)),rB] (c6 Pu.wy)
def auE:dm:=((((dm.nil.add 23 Ms).add 79 e79).add 80 e80).add 284 aos).add 285 afT
def aqG:An:={mask:=mk [(8,[0,2,3,4,5,7,12,13,14])],merge:=mg [(1,29),(11,55),(16,73)],mv:=[56,74]}
abbrev J8:SD:=⟨.data false (.sl .arg bL)::B::DI::DI::DI::DB::B::.ptr 7 0::bs 4 (.data false (cA 147456 g9)::DB::.data false (cA 172032 g9)::bs 60 []),zs 7 ((nU (.sl .arg .str))::zs 67 []),.none⟩
def aeP (X:SD.D J8)(K:Ex->AS->aw R):=Pu.pM (λy0 y1 y2=>ke 0 K J8 ((z2 (w y0 (w y1 (z3 (u y2)))) X.1),X.2)) (λy0 y1 y2 y3 y4=>kr K J8 ((z2 (w y0 (w y1 (z1 (w y2 (w y3 (u y4)))))) X.1),X.2)) X.1.1 X.1.2.1 (q4 X) (q5 X) (q6 X) X.2.1.1
def akS:cH:=gN J8 aeP (λX=>(q2 X,q3 X,q7 X))
def amM:dC:=(dC.nil).add 8 akS
theorem ajB:gy E auE aqG amM (aR Tryz.f225 0):=lk J8 aeP (λX=>(q2 X,q3 X,q7 X)) λX x=>((z2 (w x.1 (w x.2.1 (z3 (u x.2.2)))) X.1),X.2)
theorem arC:cE 225 aiI:=fk aqG (((((base.add vL).add o79).add o80).add awI).add al0) Tryz.func225 (Λ:=amM) (cF ajB nF)
def aoa:bg:=aK [pf (.sl .str),pI,pd .str] [(true,(.sl (.own none) .str)),rB] (c3 Pu.qB)
def auF:dm:=(dm.nil.add 138 RR).add 285 afT
def aqH:An:={mask:=mk [(4,[1,2,6,8])],nest:=[33],mv:=[19,49]}
abbrev Pq:SD:=⟨B::DI::.data false .str::B::B::B::.ptr 6 0::B::.ptr 8 0::bs 41 [],zs 6 ((nU (cA 73729 .str))::Z::(nU (cA 98305 .str))::zs 41 []),.none⟩
def aeQ (X:SD.D Pq)(K:Ex->AS->aw R):=Pu.ma (λy0 y1 y2=>ke 0 K Pq ((w y0 (u y1) X.1),(z1 (u y2) X.2.1),X.2.2)) X.2.1.1
def akT:cH:=gN Pq aeQ (λX=>(X.1.1,X.1.2.1,X.2.1.2.1))
def amN:dC:=(dC.nil).add 4 akT
theorem ajC:gy E auF aqH amN (aR Tryz.f226 0):=lk Pq aeQ (λX=>(X.1.1,X.1.2.1,X.2.1.2.1)) λX x=>((w x.1 (u x.2.1) X.1),(z1 (u x.2.2) X.2.1),X.2.2)
theorem awb:cE 226 aoa:=fk aqH ((base.add Ll).add al0) Tryz.func226 (Λ:=amN) (cF ajC nF)
def asB:bg:=aK [pd (.sl bL),pf (.sl .str),pI,pI,pd .str,pd .bool] [(true,(.sl (.own none) .str)),rB] (c6 Pu.Cs)
def auq:dm:=((dm.nil.add 138 RR).add 225 aiI).add 226 aoa
def aqs:An:={mask:=mk [(6,[4,12,14,35,36,37])],mv:=[34,41,50,57],sb:=mg [(14,14)]}
abbrev O7:SD:=⟨bs 4 (.data false .str::bs 7 (.ptr 12 0::B::.ptr 14 0::bs 20 (.data false (.sl .loc g9)::DI::DI::bs 20 []))),zs 12 ((nU (cA 147457 .str))::Z::(nU (cA 172033 .str))::zs 43 []),.none⟩
def aev (X:SD.D O7)(K:Ex->AS->aw R):=Pu.wx (λy0 y1 y2=>ke 0 K O7 ((w y0 (z2 (u y1)) X.1),(z1 (u y2) X.2.1),X.2.2)) X.1.2.1 (q2 X) X.2.1.1
def aky:cH:=gN O7 aev (λX=>(X.1.1,q3 X,X.2.1.2.1))
def amy:dC:=(dC.nil).add 6 aky
theorem ajh:gy E auq aqs amy (aR Tryz.f157 0):=lk O7 aev (λX=>(X.1.1,q3 X,X.2.1.2.1)) λX x=>((w x.1 (z2 (u x.2.1)) X.1),(z1 (u x.2.2) X.2.1),X.2.2)
theorem arn:cE 157 asB:=fk aqs (((base.add Ll).add arC).add awb) Tryz.func157 (Λ:=amy) (cF ajh nF)
def as7:bg:=aK [pd (.sl bL),pf (.sl .str),pI,pI,pd .str] [(true,(.sl (.own none) .str)),rB] (c5 Pu.oC)
theorem alX:cE 230 as7:=f0 {} (base.add arn) Tryz.func230
def as8:bg:=aK [pf ir,pI] [rI] (c2 Pu.mC)
theorem arF:cE 231 as8:=f0 {merge:=mg [(1,11)]} (base.add TR) Tryz.func231
def aiE:bg:=aK [pd (.sl bL),pf (.sl .str),pI,pf ir,pd .str] [(true,(.sl (.own none) .str)),(true,Y0),rB] (c5 Pu.tV)
theorem aro:cE 160 aiE:=f0 {merge:=mg [(1,22)],mv:=[26,36,40,50],mb:=mg [(40,13),(50,13)],sb:=mg [(10,10),(11,11),(13,13)]} ((((base.add Ll).add arE).add alX).add arF) Tryz.func160
def e97:bg:=aK [pd (.sl bL),pf (.sl .str),pI,pf ir,pf js] [(true,(.sl (.own none) .str)),(true,Y0),(true,Y10),rI] (c5 Pu.gY)
def g97:dm:=(((((((dm.nil.add 71 e71).add 83 e83).add 138 RR).add 141 afP).add 146 afQ).add 158 aiD).add 159 afS).add 160 aiE
def n97:An:={mask:=mk [(6,[0,2,8,9,10,11,12,14,15,16,39,40,41])],merge:=mg [(2,34)],mv:=[35,37,53,65,76,78],mb:=mg [(35,14),(37,15),(65,20),(76,14),(78,15)],sb:=mg [(8,8),(10,10),(11,11),(12,12),(14,14),(15,15)]}
abbrev XZ:SD:=⟨.data false (.sl .arg bL)::B::DI::bs 5 (.ptr 8 0::.ptr 9 0::.ptr 10 0::.ptr 11 0::.ptr 12 0::B::.ptr 14 0::.ptr 15 0::DI::bs 22 (.data false (.sl .arg (.int .i64))::DI::DI::bs 38 [])),zs 8 ((some Y0)::(some Y18)::(nU (cA 122881 .str))::(some Y0)::(some Y29)::Z::(nU (cA 172033 .str))::(some Y28)::zs 64 []),.none⟩
def ah8 (X:SD.D XZ)(K:Ex->AS->aw R):=Pu.mu (λy0 y1 y2 y3=>ke 0 K XZ ((z2 (w y0 (z2 (u y1))) X.1),(w y2 (z4 (u y3)) X.2.1),X.2.2)) X.1.1 X.1.2.1 (q3 X) (q4 X) X.2.1.2.1 X.2.1.2.2.1 X.2.1.2.2.2.1 X.2.1.2.2.2.2.1 X.2.1.2.2.2.2.2.2.1
def aqb:cH:=gN XZ ah8 (λX=>(q2 X,q5 X,X.2.1.1,X.2.1.2.2.2.2.2.1))
def L97:dC:=(dC.nil).add 6 aqb
theorem apz:gy E g97 n97 L97 (aR Tryz.f97 0):=lk XZ ah8 (λX=>(q2 X,q5 X,X.2.1.1,X.2.1.2.2.2.2.2.1)) λX x=>((z2 (w x.1 (z2 (u x.2.1))) X.1),(w x.2.2.1 (z4 (u x.2.2.2)) X.2.1),X.2.2)
theorem o97:cE 97 e97:=fk n97 ((((((((base.add o71).add o83).add Ll).add aaO).add TR).add alQ).add alR).add aro) Tryz.func97 (Λ:=L97) (cF apz nF)
def atN:bg:=aK [pd .str,pI] [rI] (c2 Pu.eR)
theorem WG:cE 291 atN:=f0 {merge:=mg [(1,13)]} base Tryz.func291
def atO:bg:=aK [pf Zh] [rB] (c1 Pu.yl)
theorem arW:cE 292 atO:=f0 {merge:=mg [(1,2)]} (base.add vL) Tryz.func292
def ata:bg:=aK [pd .str] [(true,(.pair (.int .i64) Y22)),rB] (c1 Pu.rF)
theorem arH:cE 234 ata:=f0 {merge:=mg [(4,33)],sb:=mg [(4,4)]} (((base.add WE).add WG).add arW) Tryz.func234
def aoE:bg:=aK [pI,pI] [rI] (c2 Pu.xc)
theorem axe:cE 331 aoE:=f0 {merge:=mg [(1,12)]} (base.add vL) Tryz.func331
def at5:bg:=aK [pd .str] [rI] (c1 Pu.vJ)
def auZ:dm:=dm.nil.add 331 aoE
def aq2:An:={mask:=mk [(3,[0,3,4])]}
abbrev PI:SD:=⟨.data false .str::B::B::DI::DI::bs 28 [],zs 33 [],.none⟩
def afe (X:SD.D PI)(K:Ex->AS->aw R):=Pu.qw (λy0 y1=>ke 0 K PI ((z1 (w y0 (u y1)) X.1),X.2)) X.1.1
def alh:cH:=gN PI afe (λX=>(X.1.2.1,q2 X))
def am8:dC:=(dC.nil).add 3 alh
theorem aj0:gy E auZ aq2 am8 (aR Tryz.f319 0):=lk PI afe (λX=>(X.1.2.1,q2 X)) λX x=>((z1 (w x.1 (u x.2)) X.1),X.2)
theorem aw3:cE 319 at5:=fk aq2 (base.add axe) Tryz.func319 (Λ:=am8) (cF aj0 nF)
def atR:bg:=aK [pd .str] [rI] (c1 Pu.iO)
theorem al1:cE 295 atR:=f0 {} (base.add aw3) Tryz.func295
def atS:bg:=aK [pd .str,pI,pd .str] [rS] (c3 Pu.fy)
theorem agL:cE 296 atS:=f0 {merge:=mg [(1,17)]} base Tryz.func296
def at6:bg:=aK [pf TIp] [rB] (c1 Pu.G3)
theorem aw4:cE 320 at6:=f0 {merge:=mg [(1,2)]} (base.add vL) Tryz.func320
def atU:bg:=aK [pf TIp] [rS,rB] (c1 Pu.vE)
theorem awP:cE 298 atU:=f0 {} (((((base.add TS).add I4).add al1).add agL).add aw4) Tryz.func298
def ate:bg:=aK [pf TIp] [rS,rB] (c1 Pu.tH)
theorem arJ:cE 238 ate:=f0 {} (base.add awP) Tryz.func238
def atb:bg:=aK [pd .str] [(true,Y25),rB] (c1 Pu.xh)
theorem awd:cE 235 atb:=f0 {merge:=mg [(2,22),(6,56)],sb:=mg [(5,5)]} (((base.add WE).add arJ).add WG) Tryz.func235
def atP:bg:=aK [pf xT] [rS] (c1 Pu.qC)
theorem awO:cE 293 atP:=f0 {} ((base.add TS).add I4) Tryz.func293
def atQ:bg:=aK [pI,pI,pI,pI] [rS,rB] (c4 Pu.o3)
theorem arX:cE 294 atQ:=f0 {merge:=mg [(1,27)]} (((base.add vL).add TS).add I4) Tryz.func294
def atT:bg:=aK [pI] [rI] (c1 Pu.eV)
theorem al2:cE 297 atT:=f0 {} base Tryz.func297
def atd:bg:=aK [pI,pI,pf xT] [rS,rB] (c3 Pu.jf)
theorem arI:cE 237 atd:=f0 {merge:=mg [(8,39)]} (((((((base.add ary).add I4).add awO).add arX).add al1).add agL).add al2) Tryz.func237
def atc:bg:=aK [pI,pI,pI,pd .str] [(true,(.pair (.int .i64) Y25)),rB] (c4 Pu.oZ)
theorem awe:cE 236 atc:=f0 {merge:=mg [(3,20),(9,44),(12,68)]} (((base.add WE).add arI).add WG) Tryz.func236
def anH:bg:=aK [pd .str] [(true,Y1),rI] (c1 Pu.ia)
theorem agI:cE 164 anH:=f0 {merge:=mg [(2,20)]} ((((base.add I3).add arH).add awd).add awe) Tryz.func164
def aor:bg:=aK [pf (.sl .str),pI,pI] [rS,rB] (c3 Pu.n6)
def auP:dm:=dm.nil.add 285 afT
def aqS:An:={mask:=mk [(4,[1,2,3,8])],mv:=[41]}
abbrev PA:SD:=⟨B::DI::DI::.ptr 3 0::bs 4 (.data false (cA 98304 (.int .u8))::bs 41 []),Z::Z::Z::(nU (.sl .arg .str))::zs 46 [],.none⟩
def ae2 (X:SD.D PA)(K:Ex->AS->aw R):=Pu.kl (λy0 y1=>ke 0 K PA ((w y0 (z1 (u y1)) X.1),X.2)) X.1.2.1 X.2.1.1
def ak5:cH:=gN PA ae2 (λX=>(X.1.1,q2 X))
def amY:dC:=(dC.nil).add 4 ak5
theorem ajO:gy E auP aqS amY (aR Tryz.f282 0):=lk PA ae2 (λX=>(X.1.1,q2 X)) λX x=>((w x.1 (z1 (u x.2)) X.1),X.2)
theorem awG:cE 282 aor:=fk aqS (base.add al0) Tryz.func282 (Λ:=amY) (cF ajO nF)
def aiH:bg:=aK [pd (.sl bL),pf (.sl .str),pI,pI,pI] [rS,rB] (c5 Pu.nr)
def auD:dm:=(dm.nil.add 225 aiI).add 282 aor
def aqF:An:={mask:=mk [(6,[6,14,30,31,32])]}
abbrev Pp:SD:=⟨bs 6 (.ptr 6 0::bs 7 (.data false .str::bs 15 (.data false (.sl .loc g9)::DI::DI::bs 17 []))),zs 6 ((nU (.sl .arg .str))::zs 43 []),.none⟩
def aeO (X:SD.D Pp)(K:Ex->AS->aw R):=Pu.sj (λy0 y1=>ke 0 K Pp ((w y0 (z2 (u y1)) X.1),X.2)) X.1.2.1 (q2 X) X.2.1.1
def akR:cH:=gN Pp aeO (λX=>(X.1.1,q3 X))
def amL:dC:=(dC.nil).add 6 akR
theorem ajA:gy E auD aqF amL (aR Tryz.f223 0):=lk Pp aeO (λX=>(X.1.1,q3 X)) λX x=>((w x.1 (z2 (u x.2)) X.1),X.2)
theorem agJ:cE 223 aiH:=fk aqF ((base.add arC).add awG) Tryz.func223 (Λ:=amL) (cF ajA nF)
def atD:bg:=aK [pf gV] [rI] (c1 Pu.mG)
theorem arU:cE 279 atD:=f0 {} base Tryz.func279
def atE:bg:=aK [pd .str] [(true,(.pair (.int .i64) Y0)),rI,rB] (c1 Pu.kC)
theorem awF:cE 280 atE:=f0 {} ((base.add WE).add WG) Tryz.func280
def atG:bg:=aK [pf gV] [rI] (c1 Pu.uh)
theorem arV:cE 281 atG:=f0 {} base Tryz.func281
def an8:bg:=aK [pd (.sl bL),pf (.sl .str),pI,pf gV] [(true,(.pair (.int .i64) Y0)),(true,Y8),rB] (c4 Pu.l6)
theorem av9:cE 222 an8:=f0 {merge:=mg [(7,46)],sb:=mg [(8,8),(9,9)]} (((((base.add alP).add agJ).add arU).add awF).add arV) Tryz.func222
def atj:bg:=aK [pf cR] [(true,(.pair (.int .i64) Y0))] (c1 Pu.tf)
theorem alY:cE 249 atj:=f0 {} base Tryz.func249
def atH:bg:=aK [pd (.sl eJ),pf qX] [rI] (c2 Pu.qv)
def auQ:dm:=dm.nil
def aqT:An:={mask:=mk [(2,[3,4,7,8,9])]}
abbrev Kc:SD:=⟨B::B::B::.ptr 3 0::DI::B::B::.data false (.sl .arg eJ)::DI::DI::bs 10 [],Z::Z::Z::(nU (cx Bw Y0))::zs 16 [],.none⟩
def ae3 (X:SD.D Kc)(K:Ex->AS->aw R):=Pu.l8 (λy0=>ke 0 K Kc ((z3 (u y0) X.1),X.2)) (λy0 y1=>kr K Kc ((w y0 (z2 (u y1)) X.1),X.2)) X.1.1 X.1.2.1 (q2 X) X.2.1.1
def ak6:cH:=gN Kc ae3 q3
def amZ:dC:=(dC.nil).add 2 ak6
theorem ajP:gy E auQ aqT amZ (aR Tryz.f283 0):=lk Kc ae3 q3 λX x=>((z3 (u x) X.1),X.2)
theorem awH:cE 283 atH:=fk aqT base Tryz.func283 (Λ:=amZ) (cF ajP nF)
def an9:bg:=aK [pd (.sl eJ),pf cR] [(false,(.sl (.own none) eJ))] (c2 Pu.xe)
theorem awa:cE 224 an9:=f0 {merge:=mg [(17,82)],mv:=[16,31,51,58,67,83,132],er:=mg [(115,5)]} ((((((base.add alN).add I3).add I4).add alY).add agK).add awH) Tryz.func224
def asz:bg:=aK [pd (.sl bL),pf (.sl .str),pI,pf ec,pf js,pd (.sl eJ),pI] [(true,(.sl (.own none) .str)),(true,Y20),(true,Y10),(false,(.sl (.own none) eJ)),rI] (c7 Pu.tT)
def auo:dm:=((((((((((((dm.nil.add 23 Ms).add 82 e82).add 83 e83).add 97 e97).add 138 RR).add 141 afP).add 143 aiA).add 147 afR).add 159 afS).add 164 anH).add 222 an8).add 223 aiH).add 224 an9
def aqq:An:={mask:=mk [(5,[0,2,6,10,14,15,16,19,20,21,22])],merge:=mg [(2,48)],mv:=[49,51,52,96,104,117,119,120],mb:=mg [(49,19),(51,20),(117,19),(119,20)],sb:=mg [(14,14),(15,15),(16,16),(19,19),(20,20)]}
abbrev O5:SD:=⟨.data false (.sl .arg bL)::B::DI::B::B::B::DI::B::B::B::.ptr 10 0::B::B::B::.ptr 14 0::.ptr 15 0::.ptr 16 0::B::B::.ptr 19 0::.ptr 20 0::.data false (cA 258048 eJ)::DI::bs 99 [],zs 10 ((some Y20)::Z::Z::Z::(nU (cA 172033 .str))::(some Y20)::(nU (je (je (je (cA 196618 (.int .i64))))))::Z::Z::(nU (cA 233473 .str))::(nU (je (je (je (cA 245770 (.int .i64))))))::zs 101 []),.none⟩
def aet (X:SD.D O5)(K:Ex->AS->aw R):=Pu.lr (λy0 y1 y2 y3=>ke 0 K O5 ((z3 (w y0 (u y1)) X.1),(w y2 (z4 (u y3)) X.2.1),X.2.2)) X.1.1 X.1.2.1 (q2 X) X.2.1.2.1 X.2.1.2.2.1 X.2.1.2.2.2.1 X.2.1.2.2.2.2.1
def akw:cH:=gN O5 aet (λX=>(q3 X,q4 X,X.2.1.1,X.2.1.2.2.2.2.2.1))
def amw:dC:=(dC.nil).add 5 akw
theorem ajf:gy E auo aqq amw (aR Tryz.f155 0):=lk O5 aet (λX=>(q3 X,q4 X,X.2.1.1,X.2.1.2.2.2.2.2.1)) λX x=>((z3 (w x.1 (u x.2.1)) X.1),(w x.2.2.1 (z4 (u x.2.2.2)) X.2.1),X.2.2)
theorem avx:cE 155 asz:=fk aqq (((((((((((((base.add vL).add o82).add o83).add o97).add Ll).add aaO).add alN).add alO).add alR).add agI).add av9).add agJ).add awa) Tryz.func155 (Λ:=amw) (cF ajf nF)
def e91:bg:=jm (.pair (.sl (.own none) .str) (.pair (.sl (.own none) bL) (.pair (.pair (.pair (.int .i64) (.pair (.int .i64) (.pair (.int .i64) (.int .i64)))) (.pair (.pair (.int .i64) (.pair (.int .i64) (.pair (.int .i64) (.sl (.own none) (.int .i64))))) (.pair (.sl (.own none) jt) (.int .i64)))) (.pair (.sl (.own none) ec) (.pair (.sl (.own none) js) (.pair (.sl (.own none) fV) (.pair (.sl (.own none) .bool) (.pair (.pair (.int .i64) (.pair .bool (.sl (.own none) (.int .i64)))) (.pair (.pair (.sl (.own none) kZ) (.pair (.sl (.own none) iH) (.pair .str (.sl (.own none) (.int .i64))))) (.pair (.sl (.own none) eJ) (.pair .bool (.pair (.sl (.own none) .str) (.pair (.sl (.own none) (.int .i64)) (.pair (.sl (.own none) (.int .i64)) (.pair (.int .i64) (.pair (.int .i64) (.pair (.int .i64) (.pair (.int .i64) (.int .i64))))))))))))))))))) [pI,pI] [rI] λx a=>Pu.jM x a.1 a.2.1
theorem o91:cE 91 e91:=g8.pS (pA (an:={mv:=[8,49,51,52],sb:=mg [(55,0),(59,0)],fm:=[19,20],eb:=mg [(56,0),(57,0)]}) (Λ:=dC.nil) (base.add avx) Tryz.func91 (by kernel_rfl) (ao nF)) (λx a=>by kernel_rfl)
def asA:bg:=aK [pI,pI,pI] [(true,Y10),rB] (c3 Pu.tS)
def aup:dm:=dm.nil.add 83 e83
def aqr:An:={mask:=mk [(5,[2,6,8,9])],mv:=[24,29]}
abbrev O6:SD:=⟨B::B::DI::B::B::B::.ptr 6 0::B::.ptr 8 0::DI::bs 20 [],zs 6 ((some Y31)::Z::(some Y30)::zs 21 []),.none⟩
def aeu (X:SD.D O6)(K:Ex->AS->aw R):=Pu.sm (λy0 y1=>ke 0 K O6 ((z1 (u y0) X.1),(z1 (u y1) X.2.1),X.2.2)) X.1.1 X.2.1.1
def akx:cH:=gN O6 aeu (λX=>(X.1.2.1,X.2.1.2.1))
def amx:dC:=(dC.nil).add 5 akx
theorem ajg:gy E aup aqr amx (aR Tryz.f156 0):=lk O6 aeu (λX=>(X.1.2.1,X.2.1.2.1)) λX x=>((z1 (u x.1) X.1),(z1 (u x.2) X.2.1),X.2.2)
theorem arl:cE 156 asA:=fk aqr (base.add o83) Tryz.func156 (Λ:=amx) (cF ajg nF)
def e92:bg:=aK [] [(true,Y23)] λa=>Pu.AR
theorem o92:cE 92 e92:=f0 {mv:=[3,8]} (base.add arl) Tryz.func92
def e93:bg:=aK [pd (.sl bL),pf (.sl .str),pI,pI,pd .str] [(true,(.sl (.own none) .str)),rB] (c5 Pu.jb)
theorem o93:cE 93 e93:=f0 {} (base.add arn) Tryz.func93
def e94:bg:=aK [pI] [rI] (c1 Pu.pN)
theorem o94:cE 94 e94:=f0 {} base Tryz.func94
def e95:bg:=aK [pd (.int .u8),pI] [rS] (c2 Pu.ng)
def g95:dm:=dm.nil
def n95:An:={mask:=mk [(3,[0,5,10,11])]}
abbrev XY:SD:=⟨.data false (.int .u8)::bs 4 (.data false (cA 61440 (.int .u8))::bs 4 (DI::DI::bs 9 [])),zs 21 [],.none⟩
def ah7 (X:SD.D XY)(K:Ex->AS->aw R):=Pu.ui (λy0 y1=>ke 0 K XY ((z1 (w y0 (z1 (u y1))) X.1),X.2)) X.1.1 (q2 X)
def aqa:cH:=gN XY ah7 (λX=>(X.1.2.1,q3 X))
def L95:dC:=(dC.nil).add 3 aqa
theorem apy:gy E g95 n95 L95 (aR Tryz.f95 0):=lk XY ah7 (λX=>(X.1.2.1,q3 X)) λX x=>((z1 (w x.1 (z1 (u x.2))) X.1),X.2)
theorem o95:cE 95 e95:=fk n95 base Tryz.func95 (Λ:=L95) (cF apy nF)
def e96:bg:=aK [pI] [(true,Y20),(true,Y10)] (c1 Pu.uY)
theorem o96:cE 96 e96:=f0 {mv:=[10,24],mb:=mg [(24,5)],sb:=mg [(2,2),(3,3)]} ((base.add o94).add arl) Tryz.func96
def e39:bg:=aK [pf de] [(true,Y2)] (c1 Pu.pG)
def g39:dm:=((((((((dm.nil.add 30 e30).add 73 e73).add 91 e91).add 92 e92).add 93 e93).add 94 e94).add 95 e95).add 96 e96).add 97 e97
def n39:An:={mask:=mk [(5,[2,3,21,22]),(10,[2,3,30,31,32]),(18,[2,3,54,55])],mv:=[18,37,88,98,121,142],sb:=mg [(90,3)]}
abbrev XN:SD:=⟨B::B::.ptr 2 0::.ptr 3 0::bs 17 (DI::DI::bs 120 []),Z::Z::(some Y3)::(some Y4)::zs 139 [],.none⟩
def ahN (X:SD.D XN)(K:Ex->AS->aw R):=Pu.oX (λy0 y1=>ke 0 K XN ((z1 (u y0) X.1),(z1 (u y1) X.2.1),X.2.2)) X.1.1 X.2.1.1
def apQ:cH:=gN XN ahN (λX=>(X.1.2.1,X.2.1.2.1))
abbrev PM:SD:=⟨B::B::.ptr 2 0::.ptr 3 0::bs 26 (.data false (.sl .loc jt)::DI::DI::bs 110 []),Z::Z::(some Y3)::(some Y4)::zs 139 [],.none⟩
def afk (X:SD.D PM)(K:Ex->AS->aw R):=Pu.nu (λy0 y1=>ke 2 K PM ((z2 (u y0) X.1),(z1 (u y1) X.2.1),X.2.2)) X.1.1 X.1.2.1 X.2.1.1
def alo:cH:=gN PM afk (λX=>(q2 X,X.2.1.2.1))
abbrev PN:SD:=⟨B::B::.ptr 2 0::.ptr 3 0::bs 50 (DI::DI::bs 87 []),Z::Z::(some Y3)::(some Y4)::zs 139 [],.none⟩
def afl (X:SD.D PN)(K:Ex->AS->aw R):=Pu.kj (λy0 y1=>ke 4 K PN ((z1 (u y0) X.1),(z1 (u y1) X.2.1),X.2.2)) X.1.1 X.2.1.1
def alp:cH:=gN PN afl (λX=>(X.1.2.1,X.2.1.2.1))
def L39:dC:=(((dC.nil).add 5 apQ).add 10 alo).add 18 alp
theorem apd:gy E g39 n39 L39 (aR Tryz.f39 0):=lk XN ahN (λX=>(X.1.2.1,X.2.1.2.1)) λX x=>((z1 (u x.1) X.1),(z1 (u x.2) X.2.1),X.2.2)
theorem aj6:gy E g39 n39 L39 (aR Tryz.f39 1):=lk PM afk (λX=>(q2 X,X.2.1.2.1)) λX x=>((z2 (u x.1) X.1),(z1 (u x.2) X.2.1),X.2.2)
theorem aj7:gy E g39 n39 L39 (aR Tryz.f39 2):=lk PN afl (λX=>(X.1.2.1,X.2.1.2.1)) λX x=>((z1 (u x.1) X.1),(z1 (u x.2) X.2.1),X.2.2)
theorem o39:cE 39 e39:=fk n39 (((((((((base.add o30).add o73).add o91).add o92).add o93).add o94).add o95).add o96).add o97) Tryz.func39 (Λ:=L39) (cF apd (cF aj6 (cF aj7 nF)))
def aok:bg:=aK [pd (.sl bL),pf (.sl .str),pI,pf ir] [rS,(true,Y0),rB] (c4 Pu.rJ)
theorem arN:cE 256 aok:=f0 {merge:=mg [(1,20)],sb:=mg [(9,9)]} ((((base.add TR).add adq).add agJ).add arF) Tryz.func256
def aou:bg:=aK [pd .str] [(true,(.pair (.int .i64) (.pair (.int .i64) Y0))),rB] (c1 Pu.nZ)
theorem ar0:cE 305 aou:=f0 {sb:=mg [(4,4)]} (((base.add WE).add alQ).add WG) Tryz.func305
def atI:bg:=aK [pd (.sl bL),pf (.sl .str),pI,pf ir] [(false,(.sl (.own none) mj)),(true,Y0),rB] (c4 Pu.tZ)
def auR:dm:=(((dm.nil.add 146 afQ).add 215 an3).add 256 aok).add 305 aou
def aqU:An:={mask:=mk [(6,[0,2,5,7,8,9,10,11,12])],merge:=mg [(1,24),(15,67)],mv:=[55,68],sb:=mg [(9,9)]}
abbrev Kd:SD:=⟨.data false (.sl .arg bL)::B::DI::B::B::.ptr 5 0::B::.ptr 7 0::.data false (cA 98304 mj)::.ptr 9 0::DB::.ptr 11 0::.data false (cA 147456 mj)::bs 57 [],zs 5 ((nU (.sl .arg .str))::Z::(some Y0)::Z::(some Y0)::Z::(some Y0)::zs 58 []),.none⟩
def ae4 (X:SD.D Kd)(K:Ex->AS->aw R):=Pu.lx (λy0 y1=>ke 0 K Kd ((z4 (u y0) X.1),(z1 (u y1) X.2.1),X.2.2)) (λy0 y1 y2 y3 y4=>kr K Kd ((z2 (w y0 (w y1 (u y2))) X.1),(z1 (w y3 (u y4)) X.2.1),X.2.2)) X.1.1 X.1.2.1 (q2 X) (q3 X) X.2.1.1 X.2.1.2.2.1 X.2.1.2.2.2.1
def ak7:cH:=gN Kd ae4 (λX=>(q4 X,X.2.1.2.1))
def am0:dC:=(dC.nil).add 6 ak7
theorem ajQ:gy E auR aqU am0 (aR Tryz.f286 0):=lk Kd ae4 (λX=>(q4 X,X.2.1.2.1)) λX x=>((z4 (u x.1) X.1),(z1 (u x.2) X.2.1),X.2.2)
theorem awJ:cE 286 atI:=fk aqU ((((base.add TR).add adq).add arN).add ar0) Tryz.func286 (Λ:=am0) (cF ajQ nF)
def aiM:bg:=aK [pd (.sl g9)] [rB] (c1 Pu.rG)
def auT:dm:=dm.nil.add 23 Ms
def aqW:An:={mask:=mk [(2,[0,2,5,6,7])],merge:=mg [(4,19)]}
abbrev Kf:SD:=⟨.data false (.sl .arg g9)::B::DB::B::B::.data false (.sl .arg g9)::DI::DI::bs 16 [],zs 24 [],.none⟩
def ae7 (X:SD.D Kf)(K:Ex->AS->aw R):=Pu.qp (λy0=>ke 0 K Kf ((z4 (u y0) X.1),X.2)) (λy0 y1=>kr K Kf ((z1 (w y0 (z2 (u y1))) X.1),X.2)) X.1.1 X.1.2.1 (q2 X) (q3 X)
def ala:cH:=gN Kf ae7 q4
def am2:dC:=(dC.nil).add 2 ala
theorem ajT:gy E auT aqW am2 (aR Tryz.f301 0):=lk Kf ae7 q4 λX x=>((z4 (u x) X.1),X.2)
theorem arZ:cE 301 aiM:=fk aqW (base.add vL) Tryz.func301 (Λ:=am2) (cF ajT nF)
def aiJ:bg:=Cd [pd (.sl g9),pI,pI] [(false,(.sl (.own none) mj))] [(false,(.sl .nil mj))] rfl λa=>Pu.ie a.1 a.2.1 a.2.2.1
def aiR:dm:=((dm.nil.add 23 Ms).add 227 aob).add 301 aiM
def alF:An:={mask:=mk [(5,[0,2,7,30,31,32]),(13,[6,7,54,55,56])],merge:=mg [(1,25)],nils:=[6],mv:=[49,64]}
abbrev Pt:SD:=⟨.data false (.sl .arg g9)::B::DI::bs 4 (.data false (cA 86016 mj)::bs 22 (.data false (.sl .arg g9)::DI::DI::bs 32 [])),zs 65 [],.none⟩
def aeT (X:SD.D Pt)(K:Ex->AS->aw R):=Pu.jD (λy0 y1=>ke 0 K Pt ((z2 (w y0 (z2 (u y1))) X.1),X.2)) X.1.1 X.1.2.1 (q3 X) (q4 X)
def akW:cH:=gN Pt aeT (λX=>(q2 X,q5 X))
abbrev Jg:SD:=⟨bs 7 (.data false (cA 86016 mj)::bs 46 (.data false (.sl .loc mj)::DI::DI::bs 8 [])),zs 65 [],.none⟩
abbrev Vt:SD:=⟨bs 6 (.data false (.sl .nil mj)::.data false (cA 86016 mj)::bs 46 (.data false (.sl .loc mj)::DI::DI::bs 8 [])),zs 65 [],.none⟩
def YZ (X:SD.D Jg)(K:Ex->AS->aw R):=Pu.jh (λy0=>ke 2 K Jg ((z3 (u y0) X.1),X.2)) (λy0 y1=>kr K Vt ((y0,(X.1.1,(X.1.2.1,(X.1.2.2.1,(y1,()))))),(),())) X.1.1 X.1.2.1 (q2 X)
def agz:cH:=gN Jg YZ q3
def aim:dC:=((dC.nil).add 5 akW).add 13 agz
theorem ajF:gy E aiR alF aim (aR Tryz.f245 0):=lk Pt aeT (λX=>(q2 X,q5 X)) λX x=>((z2 (w x.1 (z2 (u x.2))) X.1),X.2)
theorem agq:gy E aiR alF aim (aR Tryz.f245 1):=lk Jg YZ q3 λX x=>((z3 (u x) X.1),X.2)
theorem arL:cE 245 aiJ:=g8.ofAlt (acz (Γ:=aiR) (an:=alF) (Λ:=aim) (by rfl) (((base.add vL).add arD).add arZ) Tryz.func245 (by kernel_rfl) (ao (cF ajF (cF agq nF)))) (λa=>by kernel_rfl)
def atJ:bg:=aK [pd (.sl mj)] [(false,(.sl (.own none) g9)),rI,rI,rB] (c1 Pu.nw)
def aoV:dm:=dm.nil.add 245 aiJ
def alG:An:={mask:=mk [(5,[0,6,18,19,20]),(14,[0,2,3,4,5,6,9,10,11,51,52])],mv:=[24,65]}
abbrev PB:SD:=⟨.data false (.sl .arg mj)::bs 5 (.data false (cA 73728 g9)::bs 11 (.data false (.sl .arg mj)::DI::DI::bs 47 [])),zs 68 [],.none⟩
def ae5 (X:SD.D PB)(K:Ex->AS->aw R):=Pu.kE (λy0 y1=>ke 0 K PB ((z1 (w y0 (z2 (u y1))) X.1),X.2)) X.1.1 (q2 X) (q3 X)
def ak8:cH:=gN PB ae5 (λX=>(X.1.2.1,q4 X))
abbrev Jh:SD:=⟨.data false (.sl .arg mj)::bs 5 (.data false (cA 73728 g9)::B::B::DI::DI::.data false (cA 135168 mj)::bs 39 (DI::DI::bs 15 [])),zs 68 [],.none⟩
abbrev Vu:SD:=⟨.data false (.sl .arg mj)::B::.data false (cA 24576 g9)::DI::DI::DB::.data false (cA 73728 g9)::B::B::DI::DI::.data false (cA 135168 mj)::bs 39 (DI::DI::bs 15 []),zs 68 [],.none⟩
def Za (X:SD.D Jh)(K:Ex->AS->aw R):=Pu.gi (λy0=>ke 2 K Jh ((z6 (u y0) X.1),X.2)) (λy0 y1 y2 y3 y4=>kr K Vu ((X.1.1,(y0,(y1,(y2,(y3,(X.1.2.1,(X.1.2.2.1,(X.1.2.2.2.1,(X.1.2.2.2.2.1,(X.1.2.2.2.2.2.1,(y4,()))))))))))),(),())) X.1.1 X.1.2.1 (q2 X) (q3 X) (q4 X) (q5 X)
def agA:cH:=gN Jh Za q6
def ain:dC:=((dC.nil).add 5 ak8).add 14 agA
theorem ajR:gy E aoV alG ain (aR Tryz.f287 0):=lk PB ae5 (λX=>(X.1.2.1,q4 X)) λX x=>((z1 (w x.1 (z2 (u x.2))) X.1),X.2)
theorem agr:gy E aoV alG ain (aR Tryz.f287 1):=lk Jh Za q6 λX x=>((z6 (u x) X.1),X.2)
theorem awK:cE 287 atJ:=fk alG (base.add arL) Tryz.func287 (Λ:=ain) (cF ajR (cF agr nF))
def atK:bg:=aK [pd (.sl bL),pf (.sl .str),pI,pd (.sl g9)] [rS,rB] (c4 Pu.oU)
def auS:dm:=(dm.nil.add 223 aiH).add 301 aiM
def aqV:An:={mask:=mk [(5,[0,2,5,8,9,10,18,19,20])]}
abbrev Ke:SD:=⟨.data false (.sl .arg bL)::B::DI::B::B::.ptr 5 0::B::B::.data false .str::DB::.data false .str::bs 7 (.data false (.sl .arg g9)::DI::DI::bs 21 []),zs 5 ((nU (.sl .arg .str))::zs 36 []),.none⟩
def ae6 (X:SD.D Ke)(K:Ex->AS->aw R):=Pu.lp (λy0 y1=>ke 0 K Ke ((z4 (w y0 (z2 (u y1))) X.1),X.2)) (λy0 y1 y2 y3=>kr K Ke ((z2 (w y0 (w y1 (w y2 (z2 (u y3))))) X.1),X.2)) X.1.1 X.1.2.1 (q2 X) (q3 X) (q5 X) (q6 X) X.2.1.1
def ak9:cH:=gN Ke ae6 (λX=>(q4 X,q7 X))
def am1:dC:=(dC.nil).add 5 ak9
theorem ajS:gy E auS aqV am1 (aR Tryz.f288 0):=lk Ke ae6 (λX=>(q4 X,q7 X)) λX x=>((z4 (w x.1 (z2 (u x.2))) X.1),X.2)
theorem awL:cE 288 atK:=fk aqV ((base.add agJ).add arZ) Tryz.func288 (Λ:=am1) (cF ajS nF)
def atV:bg:=aK [pI] [rS] (c1 Pu.vK)
theorem awQ:cE 299 atV:=f0 {} ((base.add TS).add I4) Tryz.func299
def atf:bg:=aK [pf Zh] [rS,rB] (c1 Pu.vu)
theorem awf:cE 239 atf:=f0 {} (((base.add I4).add arW).add awQ) Tryz.func239
def atg:bg:=aK [pd .str] [rS] (c1 Pu.xg)
theorem awg:cE 240 atg:=f0 {} (base.add o95) Tryz.func240
def asF:bg:=aK [pf cR] [rS,rB] (c1 Pu.fZ)
theorem adp:cE 166 asF:=f0 {} (((((base.add I3).add arI).add arJ).add awf).add awg) Tryz.func166
def atW:bg:=aK [pd .str] [rI,rI] (c1 Pu.pP)
theorem arY:cE 300 atW:=f0 {} ((base.add WG).add al2) Tryz.func300
def aoe:bg:=aK [pf cR] [rS,rB] (c1 Pu.lK)
theorem arK:cE 241 aoe:=f0 {} ((((base.add adp).add I4).add agL).add arY) Tryz.func241
def atL:bg:=aK [pd .str] [rS,rB] (c1 Pu.vy)
theorem awM:cE 289 atL:=f0 {merge:=mg [(3,38),(9,74),(12,84),(17,117)]} ((((((((((((base.add WE).add agI).add adp).add I4).add arH).add arK).add WG).add arX).add al1).add agL).add al2).add arY) Tryz.func289
def anI:bg:=aK [pf cR] [rB] (c1 Pu.iP)
theorem aaP:cE 165 anI:=f0 {merge:=mg [(1,2)]} (base.add I3) Tryz.func165
def as9:bg:=aK [pd .str] [rS] (c1 Pu.ub)
theorem arG:cE 233 as9:=f0 {} (base.add arv) Tryz.func233
def aiG:bg:=aK [pf cR] [rS,rB] (c1 Pu.nY)
theorem arq:cE 170 aiG:=f0 {} (((base.add aaP).add adp).add arG) Tryz.func170
def at3:bg:=aK [pd (.sl cR)] [(false,(.sl (.own none) .str))] (c1 Pu.vB)
def auX:dm:=dm.nil.add 170 aiG
def aq0:An:={mask:=mk [(3,[3,9,10,11])],mv:=[21,26]}
abbrev PG:SD:=⟨B::B::B::.data false (cA 36864 .str)::bs 5 (.data false (.sl .arg cR)::DI::DI::bs 15 []),zs 27 [],.none⟩
def afc (X:SD.D PG)(K:Ex->AS->aw R):=Pu.mx (λy0 y1=>ke 0 K PG ((w y0 (z2 (u y1)) X.1),X.2)) X.1.2.1 (q2 X)
def alf:cH:=gN PG afc (λX=>(X.1.1,q3 X))
def am6:dC:=(dC.nil).add 3 alf
theorem ajY:gy E auX aq0 am6 (aR Tryz.f317 0):=lk PG afc (λX=>(X.1.1,q3 X)) λX x=>((w x.1 (z2 (u x.2)) X.1),X.2)
theorem aw1:cE 317 at3:=fk aq0 (base.add arq) Tryz.func317 (Λ:=am6) (cF ajY nF)
def at4:bg:=aK [pf cR,pI] [(false,(.sl (.own none) cR))] (c2 Pu.AQ)
def auY:dm:=(dm.nil.add 23 Ms).add 149 aiB
def aq1:An:={mask:=mk [(8,[1,2,5,6,7])],merge:=mg [(1,17),(4,30)],mv:=[83,87]}
abbrev PH:SD:=⟨B::DI::.ptr 2 0::B::B::.data false .str::.data false (cA 73728 cR)::DI::bs 80 [],Z::Z::(some Y1)::zs 85 [],.none⟩
def afd (X:SD.D PH)(K:Ex->AS->aw R):=Pu.vH (λy0 y1=>ke 0 K PH ((z2 (w y0 (u y1)) X.1),X.2)) X.1.1 X.1.2.1 X.2.1.1
def alg:cH:=gN PH afd (λX=>(q2 X,q3 X))
def am7:dC:=(dC.nil).add 8 alg
theorem ajZ:gy E auY aq1 am7 (aR Tryz.f318 0):=lk PH afd (λX=>(q2 X,q3 X)) λX x=>((z2 (w x.1 (u x.2)) X.1),X.2)
theorem aw2:cE 318 at4:=fk aq1 ((base.add vL).add I3) Tryz.func318 (Λ:=am7) (cF ajZ nF)
def atM:bg:=aK [pf cR,pI] [(false,(.sl (.own none) .str))] (c2 Pu.so)
theorem awN:cE 290 atM:=f0 {} ((base.add aw1).add aw2) Tryz.func290
def aod:bg:=aK [pd (.sl bL),pf (.sl .str),pI,pf ir] [(true,Y0),(false,(.sl (.own none) .str)),rI] (c4 Pu.o5)
theorem awc:cE 232 aod:=f0 {merge:=mg [(1,28)],sb:=mg [(8,8)]} ((((((((base.add TR).add agI).add adq).add awJ).add awK).add awL).add awM).add awN) Tryz.func232
def asC:bg:=aK [pd (.sl bL),pf (.sl .str),pI,pf ir] [(true,Y0),(false,(.sl (.own none) .str)),rI,rI] (c4 Pu.qz)
def aur:dm:=dm.nil.add 232 aod
def aqt:An:={mask:=mk [(3,[0,2,5,7,8,9,10,11,12,13,14])],mv:=[35,42]}
abbrev Vs:SD:=⟨.data false (.sl .arg bL)::B::DI::B::B::.ptr 5 0::B::.ptr 7 0::.ptr 8 0::.data false (cA 110592 .str)::DI::DI::.data false (cA 147456 .str)::DI::DI::bs 30 [],zs 5 ((nU (.sl .arg .str))::Z::(some Y0)::(some Y0)::zs 36 []),.none⟩
abbrev Zz:SD:=⟨.data false (.sl .arg bL)::B::DI::B::B::.ptr 5 0::B::.ptr 7 0::.ptr 8 0::.data false (cA 110592 .str)::DI::DI::.data false (.sl .loc .str)::DI::DI::bs 30 [],zs 5 ((nU (.sl .arg .str))::Z::(some Y0)::(some Y0)::zs 36 []),.none⟩
def aew (X:SD.D Vs)(K:Ex->AS->aw R):=Pu.l9 (λy0 y1 y2 y3 y4 y5 y6 y7=>kr K Zz ((X.1.1,(X.1.2.1,(y0,(y1,(y2,(y3,(y4,(y5,())))))))),(X.2.1.1,(y6,(y7,()))),())) X.1.1 X.1.2.1 (q2 X) (q3 X) (q4 X) X.2.1.1 X.2.1.2.2.1
def akz:cH:=gN Vs aew (λX=>(q5 X,q6 X,q7 X,X.2.1.2.1))
def amz:dC:=(dC.nil).add 3 akz
theorem aji:gy E aur aqt amz (aR Tryz.f161 0):=lk Vs aew (λX=>(q5 X,q6 X,q7 X,X.2.1.2.1)) λX x=>((z5 (w x.1 (w x.2.1 (u x.2.2.1))) X.1),(z1 (u x.2.2.2) X.2.1),X.2.2)
theorem avy:cE 161 asC:=fk aqt (base.add awc) Tryz.func161 (Λ:=amz) (cF aji nF)
def asD:bg:=aK [pf k6,pI] [(true,Y23),(false,(.sl (.own none) (.int .i64)))] (c2 Pu.ll)
def aus:dm:=((((dm.nil.add 23 Ms).add 81 e81).add 140 afO).add 147 afR).add 209 an2
def aqu:An:={mask:=mk [(6,[1,2,4,6,7,28,29,30])],merge:=mg [(2,22)],mv:=[23,34,43,55,56]}
abbrev O8:SD:=⟨B::DI::.ptr 2 0::B::.ptr 4 0::B::.ptr 6 0::.data false (cA 86016 (.int .i64))::bs 20 (.data false (.sl .arg jt)::DI::DI::bs 26 []),Z::Z::(some Y26)::Z::(nU (cx Y0 (cx (je (je (je (cA 49174 (.int .i64))))) (cx (cA 49177 jt) Bw))))::Z::(nU (cx Y0 (cx (je (je (je (cA 73750 (.int .i64))))) (cx (cA 73753 jt) Bw))))::zs 50 [],.none⟩
def aex (X:SD.D O8)(K:Ex->AS->aw R):=Pu.jg (λy0 y1 y2=>ke 0 K O8 ((z1 (w y0 (z2 (u y1))) X.1),(z2 (u y2) X.2.1),X.2.2)) X.1.1 (q2 X) (q3 X) X.2.1.1 X.2.1.2.1
def akA:cH:=gN O8 aex (λX=>(X.1.2.1,q4 X,X.2.1.2.2.1))
def amA:dC:=(dC.nil).add 6 akA
theorem ajj:gy E aus aqu amA (aR Tryz.f162 0):=lk O8 aex (λX=>(X.1.2.1,q4 X,X.2.1.2.2.1)) λX x=>((z1 (w x.1 (z2 (u x.2.1))) X.1),(z2 (u x.2.2) X.2.1),X.2.2)
theorem avz:cE 162 asD:=fk aqu (((((base.add vL).add o81).add alM).add alO).add arx) Tryz.func162 (Λ:=amA) (cF ajj nF)
def e98:bg:=aK [pf de] [(true,Y2)] (c1 Pu.lq)
theorem o98:cE 98 e98:=f0 {mv:=[15,33,37,51,54,58]} ((((base.add o30).add o73).add avy).add avz) Tryz.func98
def asE:bg:=aK [pd .str] [rS,rB] (c1 Pu.vw)
theorem avA:cE 163 asE:=f0 {merge:=mg [(2,17)]} (base.add arG) Tryz.func163
def e99:bg:=aK [pd .str] [(true,Y1),rI] (c1 Pu.mB)
theorem o99:cE 99 e99:=f0 {} (((base.add avA).add agI).add aaP) Tryz.func99
def asG:bg:=aK [pf gV,pI] [(true,Y8),rB] (c2 Pu.qs)
theorem avB:cE 167 asG:=f0 {merge:=mg [(1,15)]} ((base.add vL).add o87) Tryz.func167
def aiF:bg:=aK [pd (.sl jK),pI,pf cR] [rI] (c3 Pu.mr)
theorem alS:cE 168 aiF:=f0 {merge:=mg [(1,24),(7,54)]} ((((base.add vL).add o27).add o29).add I3) Tryz.func168
def anJ:bg:=aK [pd (.sl jK),pI,pf cR] [(false,(.sl (.own none) (.int .i64)))] (c3 Pu.lv)
def aoP:dm:=((dm.nil.add 27 e27).add 78 e78).add 168 aiF
def alB:An:={mask:=mk [(11,[0,1,7,8,33,34]),(17,[0,1,7,11,43,44,45])],merge:=mg [(19,60)],mv:=[37,61,66]}
abbrev Je:SD:=⟨.data false (.sl .arg jK)::DI::bs 5 (DI::B::B::B::.data false (cA 135168 (.int .i64))::bs 31 (.data false (.sl .loc (.int .i64))::DI::DI::bs 21 [])),zs 67 [],.none⟩
def YX (X:SD.D Je)(K:Ex->AS->aw R):=Pu.fQ (λy0 y1=>ke 2 K Je ((z3 (w y0 (z2 (u y1))) X.1),X.2)) X.1.1 X.1.2.1 (q2 X) (q4 X) (q5 X)
def agx:cH:=gN Je YX (λX=>(q3 X,q6 X))
abbrev Jd:SD:=⟨.data false (.sl .arg jK)::DI::bs 5 (DI::.data false (cA 98304 (.int .i64))::bs 24 (DI::DI::bs 32 [])),zs 67 [],.none⟩
def YW (X:SD.D Jd)(K:Ex->AS->aw R):=Pu.kF (λy0 y1=>ke 0 K Jd ((z3 (w y0 (z1 (u y1))) X.1),X.2)) X.1.1 X.1.2.1 (q2 X) (q4 X)
def agw:cH:=gN Jd YW (λX=>(q3 X,q5 X))
def aii:dC:=((dC.nil).add 17 agx).add 11 agw
theorem ago:gy E aoP alB aii (aR Tryz.f169 1):=lk Je YX (λX=>(q3 X,q6 X)) λX x=>((z3 (w x.1 (z2 (u x.2))) X.1),X.2)
theorem agn:gy E aoP alB aii (aR Tryz.f169 0):=lk Jd YW (λX=>(q3 X,q5 X)) λX x=>((z3 (w x.1 (z1 (u x.2))) X.1),X.2)
theorem arp:cE 169 anJ:=fk alB (((base.add o27).add o78).add alS) Tryz.func169 (Λ:=aii) (cF agn (cF ago nF))
def ank:bg:=aK [pd (.sl bK),pd (.sl jK),pI,pf cR] [(false,(.sl (.own none) bK)),(false,(.sl (.own none) (.int .i64))),rB] (c4 Pu.vG)
theorem au6:cE 100 ank:=f0 {merge:=mg [(2,35),(7,73)],late:=[93],mv:=[36,81],er:=mg [(98,11)]} ((((((((base.add vL).add o32).add o68).add aaP).add adp).add avB).add alS).add arp) Tryz.func100
def asJ:bg:=aK [pf lV,pf cR] [rB] (c2 Pu.xb)
theorem avE:cE 174 asJ:=f0 {merge:=mg [(1,4)]} ((base.add o27).add o76) Tryz.func174
def at7:bg:=aK [pI,pI,pI] [rB] (c3 Pu.n8)
theorem aw5:cE 321 at7:=f0 {} base Tryz.func321
def aot:bg:=aK [pf kZ,pf cR] [rB] (c2 Pu.qq)
theorem awR:cE 302 aot:=f0 {merge:=mg [(1,4)]} ((((base.add vL).add I3).add arA).add aw5) Tryz.func302
def ath:bg:=aK [pd (.sl kZ),pf cR] [rI] (c2 Pu.vA)
def auI:dm:=(dm.nil.add 151 aiC).add 302 aot
def aqL:An:={mask:=mk [(5,[0,3,5,11,12,13])],merge:=mg [(7,34)]}
abbrev Pv:SD:=⟨.data false (.sl .arg kZ)::B::B::.ptr 3 0::B::DI::bs 5 (.data false (.sl .arg kZ)::DI::DI::bs 24 []),Z::Z::Z::(some Y1)::zs 34 [],.none⟩
def aeV (X:SD.D Pv)(K:Ex->AS->aw R):=Pu.qk (λy0 y1=>ke 0 K Pv ((z1 (w y0 (z2 (u y1))) X.1),X.2)) X.1.1 (q2 X) (q3 X) X.2.1.1
def akY:cH:=gN Pv aeV (λX=>(X.1.2.1,q4 X))
def amR:dC:=(dC.nil).add 5 akY
theorem ajH:gy E auI aqL amR (aR Tryz.f247 0):=lk Pv aeV (λX=>(X.1.2.1,q4 X)) λX x=>((z1 (w x.1 (z2 (u x.2))) X.1),X.2)
theorem awl:cE 247 ath:=fk aqL ((base.add ari).add awR) Tryz.func247 (Λ:=amR) (cF ajH nF)
def ati:bg:=aK [pf (.sl iH),pf qX] [rI] (c2 Pu.vz)
theorem awm:cE 248 ati:=f0 {} ((base.add arj).add arB) Tryz.func248
def aiN:bg:=aK [pd .str,pI] [rI] (c2 Pu.wv)
theorem ar5:cE 332 aiN:=f0 {} base Tryz.func332
def aoF:bg:=aK [pd .str,pI] [rI] (c2 Pu.tQ)
def au3:dm:=(dm.nil.add 23 Ms).add 332 aiN
def aq6:An:={mask:=mk [(5,[0,1,5,6])],merge:=mg [(1,14)]}
abbrev PL:SD:=⟨.data false .str::DI::B::B::B::DI::DI::bs 22 [],zs 29 [],.none⟩
def afi (X:SD.D PL)(K:Ex->AS->aw R):=Pu.oY (λy0 y1=>ke 0 K PL ((z2 (w y0 (u y1)) X.1),X.2)) X.1.1 X.1.2.1
def alm:cH:=gN PL afi (λX=>(q2 X,q3 X))
def anc:dC:=(dC.nil).add 5 alm
theorem aj4:gy E au3 aq6 anc (aR Tryz.f333 0):=lk PL afi (λX=>(q2 X,q3 X)) λX x=>((z2 (w x.1 (u x.2)) X.1),X.2)
theorem axf:cE 333 aoF:=fk aq6 ((base.add vL).add ar5) Tryz.func333 (Λ:=anc) (cF aj4 nF)
def at8:bg:=aK [pd .str,pd .str] [rI] (c2 Pu.tM)
def au0:dm:=(dm.nil.add 332 aiN).add 333 aoF
def aq3:An:={mask:=mk [(5,[0,1,5,6])],merge:=mg [(1,14)]}
abbrev PJ:SD:=⟨.data false .str::.data false .str::B::B::B::DI::DI::bs 25 [],zs 32 [],.none⟩
def aff (X:SD.D PJ)(K:Ex->AS->aw R):=Pu.oV (λy0 y1=>ke 0 K PJ ((z2 (w y0 (u y1)) X.1),X.2)) X.1.1 X.1.2.1
def ali:cH:=gN PJ aff (λX=>(q2 X,q3 X))
def am9:dC:=(dC.nil).add 5 ali
theorem aj1:gy E au0 aq3 am9 (aR Tryz.f322 0):=lk PJ aff (λX=>(q2 X,q3 X)) λX x=>((z2 (w x.1 (u x.2)) X.1),X.2)
theorem aw6:cE 322 at8:=fk aq3 ((base.add ar5).add axf) Tryz.func322 (Λ:=am9) (cF aj1 nF)
def at9:bg:=aK [pf qX] [rS] (c1 Pu.tN)
theorem aw7:cE 323 at9:=f0 {} ((base.add TS).add I4) Tryz.func323
def atZ:bg:=aK [pd .str,pf qX] [rI] (c2 Pu.rC)
theorem ar1:cE 306 atZ:=f0 {} ((base.add aw6).add aw7) Tryz.func306
def atX:bg:=aK [pf AB,pf qX] [rI] (c2 Pu.xf)
theorem awS:cE 303 atX:=f0 {merge:=mg [(2,17)]} (base.add ar1) Tryz.func303
def atk:bg:=aK [pf AB,pI,pf qX] [rI] (c3 Pu.qt)
theorem awn:cE 250 atk:=f0 {merge:=mg [(2,18)]} ((base.add ark).add awS) Tryz.func250
def asK:bg:=aK [pf ox,pI,pf cR] [rI] (c3 Pu.qu)
theorem avF:cE 175 asK:=f0 {merge:=mg [(1,17)]} ((((((base.add o85).add I3).add awl).add awm).add alY).add awn) Tryz.func175
def aua:bg:=aK [pf qX] [rB] (c1 Pu.ln)
theorem ar4:cE 324 aua:=f0 {merge:=mg [(1,2)]} (base.add vL) Tryz.func324
def aub:bg:=aK [pf qX,pI] [rS] (c2 Pu.kD)
theorem aw8:cE 325 aub:=f0 {merge:=mg [(1,12)]} ((((base.add vL).add TS).add I4).add ar4) Tryz.func325
def at0:bg:=aK [pd (.sl bL),pf (.sl .str),pI,pf gV,pf qX] [(true,(.sl (.own none) .str)),(true,Y8),rB] (c5 Pu.nA)
theorem awU:cE 307 at0:=f0 {merge:=mg [(1,22)],mv:=[26,37,41,51],mb:=mg [(41,13),(51,13)],sb:=mg [(10,10),(11,11),(13,13)]} (((((((base.add Ll).add alP).add alX).add arU).add arV).add ar4).add aw8) Tryz.func307
def ato:bg:=Cd [pd (.sl bL),pf (.sl .str),pI,pf ec,pd .str,pd .str] [(true,(.sl (.own none) .str)),(true,Y8),rB] [(true,(.sl .arg .str)),(true,Y8),rB] rfl λa=>Pu.uk a.1 a.2.1 a.2.2.1 a.2.2.2.1 a.2.2.2.2.1 a.2.2.2.2.2.1
theorem awr:cE 257 ato:=g8.ofAlt (acz (an:={merge:=mg [(3,50)],sb:=mg [(12,12),(13,13),(20,20)]}) (Λ:=dC.nil) (by rfl) ((((((base.add adp).add alX).add alY).add ar0).add ar1).add awU) Tryz.func257 (by kernel_rfl) (ao nF)) (λa=>by kernel_rfl)
def anM:bg:=aK [pd (.sl bL),pf (.sl .str),pI,pf ec,pd .str] [(true,(.sl (.own none) .str)),(true,Y20)] (c5 Pu.mw)
theorem art:cE 178 anM:=f0 {merge:=mg [(1,31)],mv:=[52,66],mb:=mg [(66,16)],sb:=mg [(10,10),(11,11)]} ((((base.add o82).add Ll).add arN).add awr) Tryz.func178
def atY:bg:=aK [pf cR,pf cR] [rB] (c2 Pu.vF)
theorem awT:cE 304 atY:=f0 {} base Tryz.func304
def atl:bg:=aK [pf Jz,pf cR] [rB] (c2 Pu.tI)
theorem arM:cE 251 atl:=f0 {merge:=mg [(1,42),(4,76),(6,4)]} (((((base.add vL).add I3).add aaP).add arz).add awT) Tryz.func251
def atm:bg:=aK [pf Jz,pf cR] [(true,(.pair Y1 (.pair (.int .i64) (.int .i64))))] (c2 Pu.Dh)
theorem awo:cE 252 atm:=f0 {} (base.add arM) Tryz.func252
def atn:bg:=aK [pf cR] [(true,(.pair Y1 (.pair (.int .i64) (.int .i64))))] (c1 Pu.Cr)
theorem awp:cE 253 atn:=f0 {} base Tryz.func253
def asL:bg:=aK [pd (.sl bL),pf (.sl .str),pI,pf ec,pd .str,pf cR,pd .bool] [(true,(.sl (.own none) .str)),(true,Y20)] (c7 Pu.nC)
theorem avG:cE 176 asL:=f0 {merge:=mg [(1,30),(3,44)],mv:=[53,68,77],mb:=mg [(77,16)],sb:=mg [(14,14),(15,15)]} (((((((base.add o82).add Ll).add aaP).add art).add arM).add awo).add awp) Tryz.func176
def asH:bg:=aK [pf fV] [(true,Y17)] (c1 Pu.nH)
theorem alT:cE 172 asH:=f0 {merge:=mg [(1,9)]} (base.add arh) Tryz.func172
def aoj:bg:=aK [pf fV] [(true,Y17)] (c1 Pu.vt)
theorem awq:cE 255 aoj:=f0 {} ((base.add o84).add alT) Tryz.func255
def anL:bg:=jm (.pair (.sl (.own none) .str) (.pair (.sl (.own none) bL) (.pair (.pair (.pair (.int .i64) (.pair (.int .i64) (.pair (.int .i64) (.int .i64)))) (.pair (.pair (.int .i64) (.pair (.int .i64) (.pair (.int .i64) (.sl (.own none) (.int .i64))))) (.pair (.sl (.own none) jt) (.int .i64)))) (.pair (.sl (.own none) ec) (.pair (.sl (.own none) js) (.pair (.sl (.own none) fV) (.pair (.sl (.own none) .bool) (.pair (.pair (.int .i64) (.pair .bool (.sl (.own none) (.int .i64)))) (.pair (.pair (.sl (.own none) kZ) (.pair (.sl (.own none) iH) (.pair .str (.sl (.own none) (.int .i64))))) (.pair (.sl (.own none) eJ) (.pair .bool (.pair (.sl (.own none) .str) (.pair (.sl (.own none) (.int .i64)) (.pair (.sl (.own none) (.int .i64)) (.pair (.int .i64) (.pair (.int .i64) (.pair (.int .i64) (.pair (.int .i64) (.int .i64))))))))))))))))))) [pI,pI] [] λx a=>Pu.ko x a.1 a.2.1
def aoQ:dm:=(dm.nil.add 254 aiK).add 255 aoj
def aqw:An:={mask:=mk [(2,[0,1,7])]}
abbrev O9:SD:=⟨.ptr 0 0::DI::bs 5 (DI::bs 34 []),(nU (cx (cA 1 .str) (cx (cA 4 bL) (cx (cx Y0 (cx (je (je (je (cA 28 (.int .i64))))) (cx (cA 31 jt) Bw))) (cx (cA 37 ec) (cx (cA 40 js) (cx (cA 43 fV) (cx (cA 46 .bool) (cx (je (cx .bool (cA 55 (.int .i64)))) (cx (cx (cA 58 kZ) (cx (cA 61 iH) (cx .str (cA 67 (.int .i64))))) (cx (cA 70 eJ) (cx .bool (cx (cA 76 .str) (cx (cA 79 (.int .i64)) (cx (cA 82 (.int .i64)) (cx Bw Y0))))))))))))))))::zs 41 [],.ptr⟩
def aey (X:SD.D O9)(K:Ex->AS->aw R):=Pu.o6 (λy0 y1=>ke 0 K O9 ((z1 (u y0) X.1),(u y1 X.2.1),X.2.2)) X.1.1
def akB:cH:=gN O9 aey (λX=>(X.1.2.1,X.2.1.1))
def amC:dC:=(dC.nil).add 2 akB
theorem ajk:gy E aoQ aqw amC (aR Tryz.f177 0):=lk O9 aey (λX=>(X.1.2.1,X.2.1.1)) λX x=>((z1 (u x.1) X.1),(u x.2 X.2.1),X.2.2)
theorem ars:cE 177 anL:=g8.pS (pA (Γ:=aoQ) (an:=aqw) (Λ:=amC) ((base.add agK).add awq) Tryz.func177 (by kernel_rfl) (ao (cF ajk nF))) (λx a=>by kernel_rfl)
def ano:bg:=aK [pf de,pd .str] [(true,Y2)] (c2 Pu.mA)
theorem arb:cE 106 ano:=f0 {mv:=[14,34,46,62,69,90,103],sb:=mg [(92,5)]} (((((((base.add o30).add o73).add o99).add avE).add avF).add avG).add ars) Tryz.func106
def anK:bg:=aK [pd (.sl jK),pI,pI,pf cR] [(true,Y1)] (c4 Pu.qo)
theorem avC:cE 171 anK:=f0 {merge:=mg [(1,34)]} ((((base.add vL).add o27).add o29).add I3) Tryz.func171
def anl:bg:=aK [pf sZ,pI,pf cR] [(true,Y5)] (c3 Pu.kU)
def aue:dm:=((((((((dm.nil.add 11 e11).add 12 e12).add 22 e22).add 106 ano).add 165 anI).add 168 aiF).add 169 anJ).add 170 aiG).add 171 anK
def aqf:An:={mask:=mk [(7,[5,6,7,8,10,39,40,41])],merge:=mg [(2,24)],mv:=[25,26,57,76]}
abbrev OV:SD:=⟨bs 5 (.ptr 5 0::.ptr 6 0::.ptr 7 0::.data false (cA 98304 jK)::B::DI::bs 28 (.data false (cA 479232 (.int .i64))::DI::DI::bs 35 [])),zs 5 ((some Y1)::(some Y14)::(nU (cx (cA 86017 de) (cx (cA 86020 bK) (cx (cA 86023 dV) (cx (cA 86026 .str) (cx Y0 (cx (cA 86041 (.int .i64)) (cA 86044 .str))))))))::zs 69 []),.none⟩
def ad8 (X:SD.D OV)(K:Ex->AS->aw R):=Pu.ki (λy0 y1=>ke 0 K OV ((z4 (u y0) X.1),(z2 (u y1) X.2.1),X.2.2)) X.1.1 X.1.2.1 (q2 X) (q3 X) X.2.1.1 X.2.1.2.1
def akb:cH:=gN OV ad8 (λX=>(q4 X,X.2.1.2.2.1))
def aml:dC:=(dC.nil).add 7 akb
theorem aiU:gy E aue aqf aml (aR Tryz.f101 0):=lk OV ad8 (λX=>(q4 X,X.2.1.2.2.1)) λX x=>((z4 (u x.1) X.1),(z2 (u x.2) X.2.1),X.2.2)
theorem ara:cE 101 anl:=fk aqf (((((((((base.add o11).add o12).add o22).add arb).add aaP).add alS).add arp).add arq).add avC) Tryz.func101 (Λ:=aml) (cF aiU nF)
def e40:bg:=aK [pf sZ,pI] [(true,Y5)] (c2 Pu.oT)
def g40:dm:=((((((((dm.nil.add 11 e11).add 12 e12).add 22 e22).add 23 Ms).add 72 e72).add 98 e98).add 99 e99).add 100 ank).add 101 anl
def n40:An:={mask:=mk [(8,[1,4,5,6,62,63,64])],merge:=mg [(2,29)],mv:=[30,31,75,85,94]}
abbrev XO:SD:=⟨B::DI::B::B::.ptr 4 0::.ptr 5 0::.data false (cA 73728 jK)::bs 55 (.data false (.sl .loc .str)::DI::DI::bs 30 []),zs 4 ((some Y15)::(nU (cx (cA 61441 de) (cx (cA 61444 bK) (cx (cA 61447 dV) (cx (cA 61450 .str) (cx Y0 (cx (cA 61465 (.int .i64)) (cA 61468 .str))))))))::zs 89 []),.none⟩
def ahO (X:SD.D XO)(K:Ex->AS->aw R):=Pu.ja (λy0 y1=>ke 0 K XO ((z4 (u y0) X.1),(z1 (u y1) X.2.1),X.2.2)) X.1.1 X.1.2.1 (q2 X) (q3 X) X.2.1.1
def apR:cH:=gN XO ahO (λX=>(q4 X,X.2.1.2.1))
def L40:dC:=(dC.nil).add 8 apR
theorem ape:gy E g40 n40 L40 (aR Tryz.f40 0):=lk XO ahO (λX=>(q4 X,X.2.1.2.1)) λX x=>((z4 (u x.1) X.1),(z1 (u x.2) X.2.1),X.2.2)
theorem o40:cE 40 e40:=fk n40 (((((((((base.add o11).add o12).add o22).add vL).add o72).add o98).add o99).add au6).add ara) Tryz.func40 (Λ:=L40) (cF ape nF)
def e41:bg:=aK [pf sZ,pd .str] [(true,Y5)] (c2 Pu.qh)
theorem o41:cE 41 e41:=f0 {mv:=[13,15,32]} ((((base.add o12).add o22).add o99).add ara) Tryz.func41
def anm:bg:=aK [pf fV] [(true,Y17)] (c1 Pu.su)
theorem au7:cE 102 anm:=f0 {} ((base.add o84).add alT) Tryz.func102
def e42:bg:=aK [pf de] [(true,Y2)] (c1 Pu.rD)
def g42:dm:=((dm.nil.add 30 e30).add 73 e73).add 102 anm
def n42:An:={mask:=mk [(5,[2,3,13,14])],mv:=[10,28]}
abbrev XP:SD:=⟨B::B::.ptr 2 0::.ptr 3 0::bs 9 (DI::DI::bs 14 []),Z::Z::(some Y3)::(some Y4)::zs 25 [],.none⟩
def ahP (X:SD.D XP)(K:Ex->AS->aw R):=Pu.qn (λy0 y1=>ke 0 K XP ((z1 (u y0) X.1),(z1 (u y1) X.2.1),X.2.2)) X.1.1 X.2.1.1
def apS:cH:=gN XP ahP (λX=>(X.1.2.1,X.2.1.2.1))
def L42:dC:=(dC.nil).add 5 apS
theorem apf:gy E g42 n42 L42 (aR Tryz.f42 0):=lk XP ahP (λX=>(X.1.2.1,X.2.1.2.1)) λX x=>((z1 (u x.1) X.1),(z1 (u x.2) X.2.1),X.2.2)
theorem o42:cE 42 e42:=fk n42 (((base.add o30).add o73).add au7) Tryz.func42 (Λ:=L42) (cF apf nF)
def ann:bg:=aK [pf gV,pI] [(true,Y8)] (c2 Pu.o4)
theorem au8:cE 103 ann:=f0 {merge:=mg [(1,10)]} ((base.add vL).add o87) Tryz.func103
def e43:bg:=aK [pd (.sl bK),pI] [(false,(.sl (.own none) bK))] (c2 Pu.nG)
def g43:dm:=(dm.nil.add 68 e68).add 103 ann
def n43:An:={mask:=mk [(3,[1,5,10,11])],mv:=[26]}
abbrev XQ:SD:=⟨B::DI::B::B::B::.data false (cA 61440 bK)::bs 4 (DI::DI::bs 15 []),zs 27 [],.none⟩
def ahQ (X:SD.D XQ)(K:Ex->AS->aw R):=Pu.kG (λy0 y1=>ke 0 K XQ ((z1 (w y0 (z1 (u y1))) X.1),X.2)) X.1.1 (q2 X)
def apT:cH:=gN XQ ahQ (λX=>(X.1.2.1,q3 X))
def L43:dC:=(dC.nil).add 3 apT
theorem apg:gy E g43 n43 L43 (aR Tryz.f43 0):=lk XQ ahQ (λX=>(X.1.2.1,q3 X)) λX x=>((z1 (w x.1 (z1 (u x.2))) X.1),X.2)
theorem o43:cE 43 e43:=fk n43 ((base.add o68).add au8) Tryz.func43 (Λ:=L43) (cF apg nF)
def ash:bg:=aK [pf ir,pI] [(true,Y0)] (c2 Pu.G4)
theorem au9:cE 104 ash:=f0 {} base Tryz.func104
def e44:bg:=aK [pf ir,pI] [(true,Y0)] (c2 Pu.oS)
theorem o44:cE 44 e44:=f0 {merge:=mg [(1,14)]} (((base.add vL).add o35).add au9) Tryz.func44
def aof:bg:=aK [pf k6] [rI] (c1 Pu.ph)
def auG:dm:=dm.nil
def aqI:An:={mask:=mk [(3,[3,7,8,9])]}
abbrev Pr:SD:=⟨B::B::B::DI::B::B::B::.data false (.sl .arg jt)::DI::DI::bs 9 [],zs 19 [],.none⟩
def aeR (X:SD.D Pr)(K:Ex->AS->aw R):=Pu.ly (λy0 y1=>ke 0 K Pr ((w y0 (z2 (u y1)) X.1),X.2)) X.1.2.1 (q2 X)
def akU:cH:=gN Pr aeR (λX=>(X.1.1,q3 X))
def amO:dC:=(dC.nil).add 3 akU
theorem ajD:gy E auG aqI amO (aR Tryz.f242 0):=lk Pr aeR (λX=>(X.1.1,q3 X)) λX x=>((w x.1 (z2 (u x.2)) X.1),X.2)
theorem awh:cE 242 aof:=fk aqI base Tryz.func242 (Λ:=amO) (cF ajD nF)
def aog:bg:=aK [pf js,pI] [(true,Y10),(false,(.sl (.own none) (.int .i64))),rB] (c2 Pu.qy)
theorem awi:cE 243 aog:=f0 {merge:=mg [(2,20)],mv:=[21,28],mb:=mg [(28,7)],sb:=mg [(4,4)]} ((((base.add vL).add o71).add o83).add aaO) Tryz.func243
def aoh:bg:=Cd [pd (.sl bL),pf (.sl .str),pI,pf js,pd (.sl (.int .i64)),pd .str,pI] [(true,(.sl (.own none) .str)),(false,(.sl (.own none) g9)),rB] [(true,(.sl .arg .str)),(false,(.sl (.own none) g9)),rB] rfl λa=>Pu.mD a.1 a.2.1 a.2.2.1 a.2.2.2.1 a.2.2.2.2.1 a.2.2.2.2.2.1 a.2.2.2.2.2.2.1
def aoU:dm:=(dm.nil.add 93 e93).add 159 afS
def aqJ:An:={mask:=mk [(3,[0,2,5,6,8,10,14,15,16,17,24,25,26])],peel:=[3],mv:=[40,49,53,54,55,65,66],sb:=mg [(21,21)]}
abbrev Ps:SD:=⟨.data false (.sl .arg bL)::B::DI::B::B::.data false .str::DI::B::.ptr 8 0::B::.ptr 10 0::B::B::B::.ptr 14 0::.data false (cA 184320 g9)::DB::.data false (cA 208896 g9)::bs 6 (.data false (.sl .arg (.int .i64))::DI::DI::bs 40 []),zs 8 ((nU (cA 98305 .str))::Z::(some Y18)::Z::Z::Z::(nU (cA 172033 .str))::zs 52 []),.none⟩
abbrev ZA:SD:=⟨.data false (.sl .arg bL)::B::DI::B::B::.data false .str::DI::B::.ptr 8 0::B::.ptr 10 0::B::B::B::.ptr 14 0::.data false (cA 184320 g9)::DB::.data false (cA 208896 g9)::bs 6 (.data false (.sl .arg (.int .i64))::DI::DI::bs 40 []),zs 8 ((nU (.sl .loc .str))::Z::(some Y18)::Z::Z::Z::(nU (cA 172033 .str))::zs 52 []),.none⟩
def aeS (X:SD.D Ps)(K:Ex->AS->aw R):=Pu.jw (λy0 y1 y2 y3=>ke 0 K Ps ((z2 (w y0 (z3 (w y1 (z2 (u y2))))) X.1),(u y3 X.2.1),X.2.2)) (λy0 y1 y2 y3 y4 y5 y6=>kr K ZA ((X.1.1,(X.1.2.1,(y0,(X.1.2.2.2.1,(y1,(y2,(y3,(X.1.2.2.2.2.2.2.2.1,(X.1.2.2.2.2.2.2.2.2.1,(y4,())))))))))),(y5,(X.2.1.2.1,(y6,()))),())) X.1.1 X.1.2.1 (q3 X) (q4 X) (q5 X) (q7 X) (q8 X) X.2.1.2.1 X.2.1.2.2.1
def akV:cH:=gN Ps aeS (λX=>(q2 X,q6 X,q9 X,X.2.1.1))
def amP:dC:=(dC.nil).add 3 akV
theorem ajE:gy E aoU aqJ amP (aR Tryz.f244 0):=lk Ps aeS (λX=>(q2 X,q6 X,q9 X,X.2.1.1)) λX x=>((z2 (w x.1 (z3 (w x.2.1 (z2 (u x.2.2.1))))) X.1),(u x.2.2.2 X.2.1),X.2.2)
theorem awj:cE 244 aoh:=g8.ofAlt (acz (Γ:=aoU) (an:=aqJ) (Λ:=amP) (by rfl) ((base.add o93).add alR) Tryz.func244 (by kernel_rfl) (ao (cF ajE nF))) (λa=>by kernel_rfl)
def aoi:bg:=aK [pd (.sl bL),pf (.sl .str),pI,pf ir,pd (.sl .str)] [(true,(.sl (.own none) .str)),(true,Y0),rB] (c5 Pu.jn)
def auH:dm:=(dm.nil.add 138 RR).add 160 aiE
def aqK:An:={mask:=mk [(3,[0,2,6,8,10,11,12,13,14,21,22,23])],mv:=[27,43],mb:=mg [(43,13)],sb:=mg [(10,10),(11,11),(13,13),(14,14)]}
abbrev J9:SD:=⟨.data false (.sl .arg bL)::B::DI::B::B::B::.ptr 6 0::B::.ptr 8 0::B::.ptr 10 0::.ptr 11 0::DB::.ptr 13 0::.ptr 14 0::bs 6 (.data false (.sl .arg .str)::DI::DI::bs 21 []),zs 6 ((nU (.sl .arg .str))::Z::(some Y0)::Z::(nU (cA 122881 .str))::(some Y0)::Z::(nU (cA 159745 .str))::(some Y0)::zs 30 []),.none⟩
def aeU (X:SD.D J9)(K:Ex->AS->aw R):=Pu.km (λy0 y1 y2=>ke 0 K J9 ((z5 (u y0) X.1),(z4 (w y1 (u y2)) X.2.1),X.2.2)) (λy0 y1 y2 y3 y4 y5=>kr K J9 ((z2 (w y0 (z2 (u y1))) X.1),(z2 (w y2 (w y3 (w y4 (u y5)))) X.2.1),X.2.2)) X.1.1 X.1.2.1 (q2 X) (q3 X) (q4 X) X.2.1.1 X.2.1.2.1 X.2.1.2.2.1 X.2.1.2.2.2.1
def akX:cH:=gN J9 aeU (λX=>(q5 X,X.2.1.2.2.2.2.1,X.2.1.2.2.2.2.2.1))
def amQ:dC:=(dC.nil).add 3 akX
theorem ajG:gy E auH aqK amQ (aR Tryz.f246 0):=lk J9 aeU (λX=>(q5 X,X.2.1.2.2.2.2.1,X.2.1.2.2.2.2.2.1)) λX x=>((z5 (u x.1) X.1),(z4 (w x.2.1 (u x.2.2)) X.2.1),X.2.2)
theorem awk:cE 246 aoi:=fk aqK ((base.add Ll).add aro) Tryz.func246 (Λ:=amQ) (cF ajG nF)
def asI:bg:=aK [pd (.sl bL),pf (.sl .str),pI,pf k6,pf cR,pI,pI] [(true,(.sl (.own none) .str)),(true,Y23),rB] (c7 Pu.sq)
def aut:dm:=((((((((((((dm.nil.add 23 Ms).add 81 e81).add 138 RR).add 140 afO).add 149 aiB).add 158 aiD).add 229 aoc).add 241 aoe).add 242 aof).add 243 aog).add 244 aoh).add 245 aiJ).add 246 aoi
def aqv:An:={mask:=mk [(19,[0,2,10,14,15,17,18,22,24,26,28,29,139,140,141])],merge:=mg [(2,57),(6,92),(15,135)],mv:=[58,59,93,94,97,107,108,109,122,123,136,137,145,151,164,165,169,174,184,185],mb:=mg [(58,17),(59,18),(93,17),(94,18),(107,17),(108,18),(136,17),(137,18),(164,17),(165,18),(184,26),(185,22)],sb:=mg [(14,14),(15,15),(17,17),(18,18),(26,26)]}
abbrev Jf:SD:=⟨.data false (.sl .arg bL)::B::DI::bs 7 (.ptr 10 0::B::B::B::.ptr 14 0::.ptr 15 0::B::.ptr 17 0::.ptr 18 0::B::B::B::.ptr 22 0::B::.data false (cA 294912 (.int .i64))::B::.ptr 26 0::B::.data false (cA 344064 mj)::.data false (cA 356352 .str)::bs 109 (.data false (.sl .loc mj)::DI::DI::bs 44 [])),zs 10 ((some Y26)::Z::Z::Z::(nU (cA 172033 .str))::(nU (cx Y0 (cx (je (je (je (cA 184342 (.int .i64))))) (cx (cA 184345 jt) Bw))))::Z::(nU (cA 208897 .str))::(nU (cx Y0 (cx (je (je (je (cA 221206 (.int .i64))))) (cx (cA 221209 jt) Bw))))::Z::Z::Z::(nU (cx Y0 (cx (je (je (je (cA 270358 (.int .i64))))) (cx (cA 270361 jt) Bw))))::Z::Z::Z::(nU (.sl .loc .str))::zs 159 []),.none⟩
def YY (X:SD.D Jf)(K:Ex->AS->aw R):=Pu.fO (λy0 y1=>ke 0 K Jf ((z4 (w y0 (z2 (u y1))) X.1),X.2)) X.1.1 X.1.2.1 (q2 X) (q3 X) (q5 X) (q6 X) X.2.1.1 X.2.1.2.1 X.2.1.2.2.1 X.2.1.2.2.2.1 X.2.1.2.2.2.2.1 X.2.1.2.2.2.2.2.1 X.2.1.2.2.2.2.2.2.1
def agy:cH:=gN Jf YY (λX=>(q4 X,q7 X))
def amB:dC:=(dC.nil).add 19 agy
theorem agp:gy E aut aqv amB (aR Tryz.f173 0):=lk Jf YY (λX=>(q4 X,q7 X)) λX x=>((z4 (w x.1 (z2 (u x.2))) X.1),X.2)
theorem avD:cE 173 asI:=fk aqv (((((((((((((base.add vL).add o81).add Ll).add alM).add I3).add alQ).add arE).add arK).add awh).add awi).add awj).add arL).add awk) Tryz.func173 (Λ:=amB) (cF agp nF)
def asi:bg:=aK [pf de,pf cR,pI,pI] [(true,Y2),rB] (c4 Pu.vD)
theorem ava:cE 105 asi:=f0 {mv:=[19,20,34,36,38]} (((base.add o30).add o73).add avD) Tryz.func105
def asj:bg:=aK [pf de] [(true,Y2)] (c1 Pu.tO)
def auf:dm:=(((dm.nil.add 30 e30).add 73 e73).add 177 anL).add 178 anM
def aqg:An:={mask:=mk [(5,[1,2,3,13,14])],mv:=[10,17,35,49],sb:=mg [(37,3)]}
abbrev OW:SD:=⟨B::.ptr 1 0::.ptr 2 0::.ptr 3 0::bs 9 (DI::DI::bs 35 []),Z::(some Y6)::(some Y3)::(some Y4)::zs 46 [],.none⟩
def ad9 (X:SD.D OW)(K:Ex->AS->aw R):=Pu.oW (λy0 y1=>ke 0 K OW ((z1 (u y0) X.1),(z2 (u y1) X.2.1),X.2.2)) X.1.1 X.2.1.1 X.2.1.2.1
def akc:cH:=gN OW ad9 (λX=>(X.1.2.1,X.2.1.2.2.1))
def amm:dC:=(dC.nil).add 5 akc
theorem aiV:gy E auf aqg amm (aR Tryz.f107 0):=lk OW ad9 (λX=>(X.1.2.1,X.2.1.2.2.1)) λX x=>((z1 (u x.1) X.1),(z2 (u x.2) X.2.1),X.2.2)
theorem avb:cE 107 asj:=fk aqg ((((base.add o30).add o73).add ars).add art) Tryz.func107 (Λ:=amm) (cF aiV nF)
def anN:bg:=aK [pf fV] [(true,Y17),rB] (c1 Pu.nE)
theorem avH:cE 179 anN:=f0 {merge:=mg [(1,11)]} (base.add o84) Tryz.func179
def anO:bg:=aK [pf fV] [(true,Y17)] (c1 Pu.wu)
theorem avI:cE 180 anO:=f0 {} ((base.add o84).add alT) Tryz.func180
def asl:bg:=aK [pf de,pI] [(true,Y2),rI] (c2 Pu.qm)
def aug:dm:=(((((dm.nil.add 23 Ms).add 30 e30).add 73 e73).add 91 e91).add 179 anN).add 180 anO
def aqh:An:={mask:=mk [(6,[1,4,6,7,25,26])],merge:=mg [(2,21)],mv:=[22,78]}
abbrev OX:SD:=⟨B::DI::B::B::.ptr 4 0::B::.ptr 6 0::DI::bs 17 (DI::DI::bs 53 []),zs 4 ((nU (cx (cA 49153 .str) (cx (cA 49156 bL) (cx (cx Y0 (cx (je (je (je (cA 49180 (.int .i64))))) (cx (cA 49183 jt) Bw))) (cx (cA 49189 ec) (cx (cA 49192 js) (cx (cA 49195 fV) (cx (cA 49198 .bool) (cx (je (cx .bool (cA 49207 (.int .i64)))) (cx (cx (cA 49210 kZ) (cx (cA 49213 iH) (cx .str (cA 49219 (.int .i64))))) (cx (cA 49222 eJ) (cx .bool (cx (cA 49228 .str) (cx (cA 49231 (.int .i64)) (cx (cA 49234 (.int .i64)) (cx Bw Y0))))))))))))))))::Z::(nU (cx (cA 73729 .str) (cx (cA 73732 bL) (cx (cx Y0 (cx (je (je (je (cA 73756 (.int .i64))))) (cx (cA 73759 jt) Bw))) (cx (cA 73765 ec) (cx (cA 73768 js) (cx (cA 73771 fV) (cx (cA 73774 .bool) (cx (je (cx .bool (cA 73783 (.int .i64)))) (cx (cx (cA 73786 kZ) (cx (cA 73789 iH) (cx .str (cA 73795 (.int .i64))))) (cx (cA 73798 eJ) (cx .bool (cx (cA 73804 .str) (cx (cA 73807 (.int .i64)) (cx (cA 73810 (.int .i64)) (cx Bw Y0))))))))))))))))::zs 73 []),.none⟩
def aea (X:SD.D OX)(K:Ex->AS->aw R):=Pu.l5 (λy0 y1 y2=>ke 0 K OX ((z1 (w y0 (z1 (u y1))) X.1),(z1 (u y2) X.2.1),X.2.2)) X.1.1 (q2 X) X.2.1.1
def akd:cH:=gN OX aea (λX=>(X.1.2.1,q3 X,X.2.1.2.1))
def amn:dC:=(dC.nil).add 6 akd
theorem aiW:gy E aug aqh amn (aR Tryz.f108 0):=lk OX aea (λX=>(X.1.2.1,q3 X,X.2.1.2.1)) λX x=>((z1 (w x.1 (z1 (u x.2.1))) X.1),(z1 (u x.2.2) X.2.1),X.2.2)
theorem avc:cE 108 asl:=fk aqh ((((((base.add vL).add o30).add o73).add o91).add avH).add avI) Tryz.func108 (Λ:=amn) (cF aiW nF)
def e45:bg:=aK [pf de,pf abV] [(true,Y2),rI] (c2 Pu.AP)
theorem o45:cE 45 e45:=f0 {merge:=mg [(1,15)],mv:=[22,34,35]} ((((((((((base.add o30).add o39).add o42).add o73).add o89).add o98).add ava).add arb).add avb).add avc) Tryz.func45
def e13:bg:=aK [pf sZ,pf fE] [(true,Y5),rI] (c2 Pu.td)
def g13:dm:=(((((((((((((dm.nil.add 10 e10).add 12 e12).add 16 e16).add 22 e22).add 36 e36).add 37 e37).add 38 e38).add 39 e39).add 40 e40).add 41 e41).add 42 e42).add 43 e43).add 44 e44).add 45 e45
def n13:An:={mask:=mk [(10,[4,6,52,53]),(22,[4,6,91,92])],merge:=mg [(2,23)],late:=[67],mv:=[24,114,115,125,131,133],sb:=mg [(4,4),(9,9),(49,6)]}
abbrev O3:SD:=⟨bs 4 (.ptr 4 0::B::.ptr 6 0::bs 45 (DI::DI::bs 81 [])),zs 4 ((some Y15)::Z::(some Y14)::zs 128 []),.none⟩
def aen (X:SD.D O3)(K:Ex->AS->aw R):=Pu.n0 (λy0 y1=>ke 1 K O3 ((z1 (u y0) X.1),(z1 (u y1) X.2.1),X.2.2)) X.1.1 X.2.1.1
def akq:cH:=gN O3 aen (λX=>(X.1.2.1,X.2.1.2.1))
abbrev O4:SD:=⟨bs 4 (.ptr 4 0::B::.ptr 6 0::bs 84 (DI::DI::bs 42 [])),zs 4 ((some Y15)::Z::(some Y14)::zs 128 []),.none⟩
def aeo (X:SD.D O4)(K:Ex->AS->aw R):=Pu.kV (λy0 y1=>ke 4 K O4 ((z1 (u y0) X.1),(z1 (u y1) X.2.1),X.2.2)) X.1.1 X.2.1.1
def akr:cH:=gN O4 aeo (λX=>(X.1.2.1,X.2.1.2.1))
def L13:dC:=((dC.nil).add 10 akq).add 22 akr
theorem ai9:gy E g13 n13 L13 (aR Tryz.f13 0):=lk O3 aen (λX=>(X.1.2.1,X.2.1.2.1)) λX x=>((z1 (u x.1) X.1),(z1 (u x.2) X.2.1),X.2.2)
theorem aja:gy E g13 n13 L13 (aR Tryz.f13 1):=lk O4 aeo (λX=>(X.1.2.1,X.2.1.2.1)) λX x=>((z1 (u x.1) X.1),(z1 (u x.2) X.2.1),X.2.2)
theorem o13:cE 13 e13:=fk n13 ((((((((((((((base.add o10).add o12).add o16).add o22).add o36).add o37).add o38).add o39).add o40).add o41).add o42).add o43).add o44).add o45) Tryz.func13 (Λ:=L13) (cF ai9 (cF aja nF))
def e17:bg:=aK [pf sZ,pd (.sl fE)] [(true,Y5),(false,(.sl (.own none) (.int .i64)))] (c2 Pu.tW)
def g17:dm:=((dm.nil.add 12 e12).add 13 e13).add 22 e22
def n17:An:={mask:=mk [(6,[4,6,7,24,25,26])],merge:=mg [(2,21)],mv:=[22,30,36,37,42,43]}
abbrev XG:SD:=⟨bs 4 (.ptr 4 0::B::.ptr 6 0::.data false (cA 86016 (.int .i64))::bs 16 (.data false (.sl .arg fE)::DI::DI::bs 17 [])),zs 4 ((some Y15)::Z::(some Y14)::zs 37 []),.none⟩
def ahz (X:SD.D XG)(K:Ex->AS->aw R):=Pu.wS (λy0 y1 y2=>ke 0 K XG ((w y0 (z2 (u y1)) X.1),(z1 (u y2) X.2.1),X.2.2)) X.1.2.1 (q2 X) X.2.1.1
def apC:cH:=gN XG ahz (λX=>(X.1.1,q3 X,X.2.1.2.1))
def L17:dC:=(dC.nil).add 6 apC
theorem aoZ:gy E g17 n17 L17 (aR Tryz.f17 0):=lk XG ahz (λX=>(X.1.1,q3 X,X.2.1.2.1)) λX x=>((w x.1 (z2 (u x.2.1)) X.1),(z1 (u x.2.2) X.2.1),X.2.2)
theorem o17:cE 17 e17:=fk n17 (((base.add o12).add o13).add o22) Tryz.func17 (Λ:=L17) (cF aoZ nF)
def e18:bg:=aK [pd .bool] [rI] (c1 Pu.Ai)
theorem o18:cE 18 e18:=f0 {} base Tryz.func18
abbrev wW:au PS:=[pd (.sl (.int .u8))]
def BF:bg:=aK wW [rB] (c1 Pu.zP)
def BI:dm:=(((dm.nil.add 7 e7).add 8 e8).add 17 e17).add 18 e18
def wT:An:={mask:=mk [(7,[3,4,5,6,7,8]),(11,[2,3,4,5,6,7,9])],merge:=mg [(15,2)]}
abbrev oQ:SD:=⟨B::B::B::.ptr 3 0::.data false (.sl .loc fE)::.ptr 5 0::.data false (.sl .loc (.int .i64))::DI::DI::bs 82 [],Z::Z::Z::(some Y13)::Z::(some Y13)::zs 85 [],.none⟩
def zH (X:SD.D oQ)(K:Ex->AS->aw R):=Pu.uZ (λy0 y1=>ke 0 K oQ ((z2 (w y0 (u y1)) X.1),X.2)) X.1.1 X.1.2.1 X.2.1.1 X.2.1.2.1
def FQ:cH:=gN oQ zH (λX=>(q2 X,q3 X))
abbrev nn:SD:=⟨B::B::B::.ptr 3 0::.data false (.sl .loc fE)::.ptr 5 0::.data false (.sl .loc (.int .i64))::DI::B::DI::bs 81 [],Z::Z::Z::(some Y13)::Z::(some Y13)::zs 85 [],.none⟩
abbrev BS:SD:=⟨B::B::DB::.ptr 3 0::.data false (.sl .loc fE)::.ptr 5 0::.data false (.sl .loc (.int .i64))::DI::B::DI::bs 81 [],Z::Z::Z::(some Y13)::Z::(some Y13)::zs 85 [],.none⟩
def yF (X:SD.D nn)(K:Ex->AS->aw R):=Pu.um (λy0=>ke 2 K nn ((z3 (u y0) X.1),X.2)) (λy0 y1=>kr K BS ((y0,(X.1.1,(X.1.2.1,(X.1.2.2.1,(y1,()))))),(X.2.1.1,(X.2.1.2.1,())),())) X.1.1 X.1.2.1 (q2 X) X.2.1.1 X.2.1.2.1
def Ey:cH:=gN nn yF q3
def wM:dC:=((dC.nil).add 7 FQ).add 11 Ey
theorem FP:gy E BI wT wM (aR Tryz.f6 0):=lk oQ zH (λX=>(q2 X,q3 X)) λX x=>((z2 (w x.1 (u x.2)) X.1),X.2)
theorem Ev:gy E BI wT wM (aR Tryz.f6 1):=lk nn yF q3 λX x=>((z3 (u x) X.1),X.2)
theorem I5:cE 6 BF:=fk wT ((((base.add o7).add o8).add o17).add o18) Tryz.func6 (Λ:=wM) (cF FP (cF Ev nF))
end
end Go.Proofs.YtgbaemfepmabgaaGreat.Fn
