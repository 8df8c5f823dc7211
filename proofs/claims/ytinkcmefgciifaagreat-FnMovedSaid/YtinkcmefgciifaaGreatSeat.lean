import Derived.Test.YtinkcmefgciifaaGreatDnSig
import Derived.Test.YtinkcmefgciifaaGreatPure
import Derived.Test.YtinkcmefgciifaaGreatRows
/- Each function of the program is its pure function (made by gen.py). -/
namespace Go.Proofs.YtinkcmefgciifaaGreat.Fn
open Go.Dn
open Go.Pu Go.Proofs.Tryz
set_option maxRecDepth 100000
set_option linter.unusedVariables false
noncomputable section
variable {an:An} {Γ:xU} {Λ:kZ} {f:Nat} {P:Program} {A0 A1 A2 A3 A4 A5 A6 C R σ:Type} {rs:aw (Bool×FT)} {s:aw PS}
abbrev uN (R:Type):=Ex->AS->Option R
abbrev yO:FT:=.int .i64
abbrev cD (a b:FT):FT:=.pair a b
abbrev ju (b:FT):FT:=.pair (.int .i64) b
abbrev dh (n:Nat)(t:CT):FT:=.sl (.own (some n)) t
abbrev pD (t:FT):Option FT:=some t
abbrev cB (t:FT):PD:=.data false t
abbrev jK (t:FT):PD:=.data true t
abbrev iS (t:CT):FT:=.sl .arg t
abbrev DR:=gE Tryz.prog
abbrev B:PD:=.bot
abbrev DI:PD:=.data false (.int .i64)
abbrev DB:PD:=.data false .bool
abbrev Z:ax FT:=none
theorem nF {p:Code->Prop}:∀x∈([]:aw Code),p x:=λ_ h=>nomatch h
theorem cF {p:Code->Prop}{a:Code}{l:aw Code}(h:p a)(t:∀x∈l,p x):∀x∈a::l,p x:=List.forall_mem_cons.2 ⟨h,t⟩
theorem hF {p:Code->Prop}{l m:aw Code}(e:l=m)(h:∀x∈m,p x):∀x∈l,p x:=e▸h
theorem fk {E:Env}{F:zH s->ax (kj rs)}{fn:Func}(an:An)(hS:Sound P E Γ)(hf:P.funcs[f]?=some fn){l:aw Code}(h:∀c∈l,xV E Γ an Λ c)(hn:(fn.name== "runtime.NumGoroutine")=false:=by kernel_rfl)(hl:gZ (fn.body.getD .skip)=l:=by kernel_rfl)(fi:an.cut=[]:=by kernel_rfl)(hF:∀a,Ci E Γ an Λ fn rs (kR s a)=F a:=by intro a;kernel_rfl):gE P f (M0 s rs F):=gE.of (Ym hS hf hn (yf.of (Fn.hF hl h) fi)) hF
theorem ao {E:Env}{b:Code}{l:aw Code}(h:∀c∈l,xV E Γ an Λ c)(hl:gZ b=l:=by kernel_rfl)(hc:an.cut=[]:=by kernel_rfl):yf E Γ an Λ b:=yf.of (Fn.hF hl h) hc
theorem ac {E:Env}{b:Code}{l m:aw Code}(h:∀c∈l,xV E Γ an Λ c)(hc:∀c∈m,TD E Γ an Λ c)(hl:gZ b=l:=by kernel_rfl)(hm:ks an.cut b=m:=by kernel_rfl):yf E Γ an Λ b:=⟨Fn.hF hl h,Fn.hF hm hc⟩
theorem fc {E:Env}{F:zH s->ax (kj rs)}{fn:Func}(an:An)(hS:Sound P E Γ)(hf:P.funcs[f]?=some fn){l m:aw Code}(h:∀c∈l,xV E Γ an Λ c)(hc:∀c∈m,TD E Γ an Λ c)(hn:(fn.name== "runtime.NumGoroutine")=false:=by kernel_rfl)(hl:gZ (fn.body.getD .skip)=l:=by kernel_rfl)(hm:ks an.cut (fn.body.getD .skip)=m:=by kernel_rfl)(hF:∀a,Ci E Γ an Λ fn rs (kR s a)=F a:=by intro a;kernel_rfl):gE P f (M0 s rs F):=gE.of (Ym hS hf hn ⟨Fn.hF hl h,Fn.hF hm hc⟩) hF
abbrev pd (t:CT):PS:=.data false t
abbrev pf (t:CT):PS:=.data true t
abbrev pI:PS:=.data false (.int .i64)
abbrev rB:Bool×FT:=(false,.bool)
abbrev rI:Bool×FT:=(false,.int .i64)
abbrev rS:Bool×FT:=(false,.str)
abbrev bs:Nat->aw PD->aw PD|0,l=>l|n+1,l=> .bot::bs n l
abbrev zs:Nat->aw (ax FT)->aw (ax FT)|0,l=>l|n+1,l=>none::zs n l
def mk (l:aw (Nat×fw))(n:Nat):fw:=(l.lookup n).getD []
def mg (l:aw (Nat×Nat))(n:Nat):ax Nat:=l.lookup n
def ke (n:Nat)(K:uN R)(d:SD)(x:SD.D d):ax R:=K (.exit n) (SD.enc d x)
def kn (K:uN R)(d:SD)(x:SD.D d):ax R:=K .normal (SD.enc d x)
def kr (K:uN R)(d:SD)(x:SD.D d):ax R:=K .ret (SD.enc d x)
def yR (d:SD)(t:{R:Type}->SD.D d->(Ex->AS->ax R)->(σ->ax R)->σ->ax R)(i:SD.D d->σ):GW:=⟨d,λX K=>aX (t X K) fuel (i X)⟩
theorem lk {E:Env}{c:Code}(d:SD)(t:{R:Type}->SD.D d->(Ex->AS->ax R)->(σ->ax R)->σ->ax R)(i:SD.D d->σ)(w:SD.D d->σ->SD.D d)(h1:Λ (ed c)=yR d t i:=by kernel_rfl)(h:∀(R:Type)(X:SD.D d)(K:uN R)(m:Nat)(x:σ),zv (an.mask (ed c)) (den E Γ an Λ c) (m+1) (SD.enc d (w X x)) K=t X K (λy=>zv (an.mask (ed c)) (den E Γ an Λ c) m (SD.enc d (w X y)) K) x:=by intro R X K m x;kernel_rfl)(hw:∀X,w X (i X)=X:=by intro X;kernel_rfl):xV E Γ an Λ c:=lok (yR d t i) h1 fuel λR X K=>(ND (λx=>SD.enc d (w X x)) (t X K) (h R X K) fuel (i X)).symm.trans (congrArg (λy=>zv (an.mask (ed c)) (den E Γ an Λ c) fuel (SD.enc d y) K) (hw X))
def Zz (d:SD)(t:{R:Type}->SD.D d->(Ex->AS->ax R)->ax R):GW:=⟨d,λX K=>t X K⟩
theorem ck {E:Env}{c:Code}(d:SD)(t:{R:Type}->SD.D d->(Ex->AS->ax R)->ax R)(h1:Λ (B8 c)=Zz d t:=by kernel_rfl)(h:∀(R:Type)(X:SD.D d)(K:uN R),t X K=den E Γ an Λ c (SD.enc d X) (λe bH=>K e (bH.mask (an.mask (B8 c+1)))):=by intro R X K;kernel_rfl):TD E Γ an Λ c:=cok (Zz d t) h1 h
def u {A B:Type}(y:A)(x:A×B):A×B:=(y,x.2)
def w {A B:Type}(y:A)(f:B->B)(x:A×B):A×B:=(y,f x.2)
def z1 {B:Type}(f:B->B)(x:A0×B):A0×B:=(x.1,f x.2)
def z2 {B:Type}(f:B->B)(x:A0×A1×B):A0×A1×B:=(x.1,x.2.1,f x.2.2)
def z3 {B:Type}(f:B->B)(x:A0×A1×A2×B):A0×A1×A2×B:=(x.1,x.2.1,x.2.2.1,f x.2.2.2)
def z4 {B:Type}(f:B->B)(x:A0×A1×A2×A3×B):A0×A1×A2×A3×B:=(x.1,x.2.1,x.2.2.1,x.2.2.2.1,f x.2.2.2.2)
def z5 {B:Type}(f:B->B)(x:A0×A1×A2×A3×A4×B):A0×A1×A2×A3×A4×B:=(x.1,x.2.1,x.2.2.1,x.2.2.2.1,x.2.2.2.2.1,f x.2.2.2.2.2)
def z6 {B:Type}(f:B->B)(x:A0×A1×A2×A3×A4×A5×B):A0×A1×A2×A3×A4×A5×B:=(x.1,x.2.1,x.2.2.1,x.2.2.2.1,x.2.2.2.2.1,x.2.2.2.2.2.1,f x.2.2.2.2.2.2)
def z7 {B:Type}(f:B->B)(x:A0×A1×A2×A3×A4×A5×A6×B):A0×A1×A2×A3×A4×A5×A6×B:=(x.1,x.2.1,x.2.2.1,x.2.2.2.1,x.2.2.2.2.1,x.2.2.2.2.2.1,x.2.2.2.2.2.2.1,f x.2.2.2.2.2.2.2)
def q2 {B:Type}(x:(A0×A1×A2×B)×C):A2:=x.1.2.2.1
def q3 {B:Type}(x:(A0×A1×A2×A3×B)×C):A3:=x.1.2.2.2.1
def q4 {B:Type}(x:(A0×A1×A2×A3×A4×B)×C):A4:=x.1.2.2.2.2.1
def q5 {B:Type}(x:(A0×A1×A2×A3×A4×A5×B)×C):A5:=x.1.2.2.2.2.2.1
def q6 {B:Type}(x:(A0×A1×A2×A3×A4×A5×A6×B)×C):A6:=x.1.2.2.2.2.2.2.1
def q7 {A7 B:Type}(x:(A0×A1×A2×A3×A4×A5×A6×A7×B)×C):A7:=x.1.2.2.2.2.2.2.2.1
def q8 {A7 A8 B:Type}(x:(A0×A1×A2×A3×A4×A5×A6×A7×A8×B)×C):A8:=x.1.2.2.2.2.2.2.2.2.1
def q9 {A7 A8 A9 B:Type}(x:(A0×A1×A2×A3×A4×A5×A6×A7×A8×A9×B)×C):A9:=x.1.2.2.2.2.2.2.2.2.2.1
def c1 {B:Type}(f:A0->R)(a:A0×B):R:=f a.1
def c2 {B:Type}(f:A0->A1->R)(a:A0×A1×B):R:=f a.1 a.2.1
def c3 {B:Type}(f:A0->A1->A2->R)(a:A0×A1×A2×B):R:=f a.1 a.2.1 a.2.2.1
def c4 {B:Type}(f:A0->A1->A2->A3->R)(a:A0×A1×A2×A3×B):R:=f a.1 a.2.1 a.2.2.1 a.2.2.2.1
def c5 {B:Type}(f:A0->A1->A2->A3->A4->R)(a:A0×A1×A2×A3×A4×B):R:=f a.1 a.2.1 a.2.2.1 a.2.2.2.1 a.2.2.2.2.1
def c6 {B:Type}(f:A0->A1->A2->A3->A4->A5->R)(a:A0×A1×A2×A3×A4×A5×B):R:=f a.1 a.2.1 a.2.2.1 a.2.2.2.1 a.2.2.2.2.1 a.2.2.2.2.2.1
def c7 {B:Type}(f:A0->A1->A2->A3->A4->A5->A6->R)(a:A0×A1×A2×A3×A4×A5×A6×B):R:=f a.1 a.2.1 a.2.2.1 a.2.2.2.1 a.2.2.2.2.1 a.2.2.2.2.2.1 a.2.2.2.2.2.2.1
theorem f0 {E:Env}{F:zH s->ax (kj rs)}{fn:Func}(an:An)(hS:Sound P E Γ)(hf:P.funcs[f]?=some fn)(hn:(fn.name== "runtime.NumGoroutine")=false:=by kernel_rfl)(hl:gZ (fn.body.getD .skip)=[]:=by kernel_rfl)(fi:an.cut=[]:=by rfl)(hF:∀a,Ci E Γ an kZ.nil fn rs (kR s a)=F a:=by intro a;kernel_rfl):gE P f (M0 s rs F):=gE.of (Ym hS hf hn (yf.of (Fn.hF hl nF) fi)) hF
abbrev Y19:FT:=ju (ju yO)
abbrev Y1:FT:=cD yO Y19
abbrev Y8:FT:=ju (ju (ju (.sl (.own none) (.int .i64))))
abbrev Y16:FT:=cD Y1 (cD Y8 (cD (.sl (.own none) hU) yO))
abbrev Y23:FT:=ju (cD .bool (.sl (.own none) (.int .i64)))
abbrev Y18:FT:=cD (.sl (.own none) iK) (cD (.sl (.own none) fW) (cD .str (.sl (.own none) (.int .i64))))
abbrev Y0:FT:=cD (.sl (.own none) .str) (cD (.sl (.own none) bC) (cD Y16 (cD (.sl (.own none) dI) (cD (.sl (.own none) hH) (cD (.sl (.own none) fA) (cD (.sl (.own none) .bool) (cD Y23 (cD Y18 (cD (.sl (.own none) dG) (cD .bool (cD (.sl (.own none) .str) (cD (.sl (.own none) (.int .i64)) (cD (.sl (.own none) (.int .i64)) (cD yO Y1))))))))))))))
abbrev Y2:FT:=cD (dh 24577 .str) (cD (dh 24580 bC) (cD (cD Y1 (cD (ju (ju (ju (dh 24604 (.int .i64))))) (cD (dh 24607 hU) yO))) (cD (dh 24613 dI) (cD (dh 24616 hH) (cD (dh 24619 fA) (cD (dh 24622 .bool) (cD (ju (cD .bool (dh 24631 (.int .i64)))) (cD (cD (dh 24634 iK) (cD (dh 24637 fW) (cD .str (dh 24643 (.int .i64))))) (cD (dh 24646 dG) (cD .bool (cD (dh 24652 .str) (cD (dh 24655 (.int .i64)) (cD (dh 24658 (.int .i64)) (cD yO Y1))))))))))))))
abbrev Y14:FT:=ju (ju (ju (ju .str)))
abbrev Y20:FT:=ju (cD yO Y14)
abbrev Y3:FT:=ju (ju (ju (ju (ju (ju (ju (ju (cD yO Y20))))))))
abbrev Y13:FT:=ju (ju (ju (.sl .arg (.int .i64))))
abbrev Y24:FT:=cD Y1 (cD Y13 (cD (.sl .arg hU) yO))
abbrev Y25:FT:=ju (cD .bool (.sl .arg (.int .i64)))
abbrev Y17:FT:=cD (.sl .arg iK) (cD (.sl .arg fW) (cD .str (.sl .arg (.int .i64))))
abbrev Y4:FT:=cD (.sl .arg .str) (cD (.sl .arg bC) (cD Y24 (cD (.sl .arg dI) (cD (.sl .arg hH) (cD (.sl .arg fA) (cD (.sl .arg .bool) (cD Y25 (cD Y17 (cD (.sl .arg dG) (cD .bool (cD (.sl .arg .str) (cD (.sl .arg (.int .i64)) (cD (.sl .arg (.int .i64)) (cD yO Y1))))))))))))))
abbrev Y5:FT:=cD (dh 36865 .str) (cD (dh 36868 bC) (cD (cD Y1 (cD (ju (ju (ju (dh 36892 (.int .i64))))) (cD (dh 36895 hU) yO))) (cD (dh 36901 dI) (cD (dh 36904 hH) (cD (dh 36907 fA) (cD (dh 36910 .bool) (cD (ju (cD .bool (dh 36919 (.int .i64)))) (cD (cD (dh 36922 iK) (cD (dh 36925 fW) (cD .str (dh 36931 (.int .i64))))) (cD (dh 36934 dG) (cD .bool (cD (dh 36940 .str) (cD (dh 36943 (.int .i64)) (cD (dh 36946 (.int .i64)) (cD yO Y1))))))))))))))
abbrev Y6:FT:=cD (dh 49153 .str) (cD (dh 49156 bC) (cD (cD Y1 (cD (ju (ju (ju (dh 49180 (.int .i64))))) (cD (dh 49183 hU) yO))) (cD (dh 49189 dI) (cD (dh 49192 hH) (cD (dh 49195 fA) (cD (dh 49198 .bool) (cD (ju (cD .bool (dh 49207 (.int .i64)))) (cD (cD (dh 49210 iK) (cD (dh 49213 fW) (cD .str (dh 49219 (.int .i64))))) (cD (dh 49222 dG) (cD .bool (cD (dh 49228 .str) (cD (dh 49231 (.int .i64)) (cD (dh 49234 (.int .i64)) (cD yO Y1))))))))))))))
abbrev Y7:FT:=cD (.sl .wJ (.int .u8)) (ju yO)
abbrev Y9:FT:=cD Y1 (cD Y19 (cD Y19 (cD (cD Y3 (ju yO)) (cD .bool yO))))
abbrev Y10:FT:=cD (dh 196609 .str) (cD (dh 196612 bC) (cD (cD Y1 (cD (ju (ju (ju (dh 196636 (.int .i64))))) (cD (dh 196639 hU) yO))) (cD (dh 196645 dI) (cD (dh 196648 hH) (cD (dh 196651 fA) (cD (dh 196654 .bool) (cD (ju (cD .bool (dh 196663 (.int .i64)))) (cD (cD (dh 196666 iK) (cD (dh 196669 fW) (cD .str (dh 196675 (.int .i64))))) (cD (dh 196678 dG) (cD .bool (cD (dh 196684 .str) (cD (dh 196687 (.int .i64)) (cD (dh 196690 (.int .i64)) (cD yO Y1))))))))))))))
abbrev Y11:FT:=cD (dh 147457 .str) (cD (dh 147460 bC) (cD (cD Y1 (cD (ju (ju (ju (dh 147484 (.int .i64))))) (cD (dh 147487 hU) yO))) (cD (dh 147493 dI) (cD (dh 147496 hH) (cD (dh 147499 fA) (cD (dh 147502 .bool) (cD (ju (cD .bool (dh 147511 (.int .i64)))) (cD (cD (dh 147514 iK) (cD (dh 147517 fW) (cD .str (dh 147523 (.int .i64))))) (cD (dh 147526 dG) (cD .bool (cD (dh 147532 .str) (cD (dh 147535 (.int .i64)) (cD (dh 147538 (.int .i64)) (cD yO Y1))))))))))))))
abbrev Y12:FT:=ju (ju (ju (ju (cD .bool .bool))))
abbrev Y15:FT:=cD (dh 49153 iK) (cD (dh 49156 fW) (cD .str (dh 49162 (.int .i64))))
abbrev Y21:FT:=cD (.sl (.own none) .str) (cD (.sl (.own none) (.int .i64)) yO)
abbrev Y22:FT:=cD (dh 24577 iK) (cD (dh 24580 fW) (cD .str (dh 24586 (.int .i64))))
abbrev Y26:FT:=ju (ju (ju (dh 184330 (.int .i64))))
abbrev Y27:FT:=ju (ju (ju (dh 147466 (.int .i64))))
abbrev Y28:FT:=ju (ju (ju (dh 98314 (.int .i64))))
abbrev Y29:FT:=ju (ju (ju (dh 73738 (.int .i64))))
abbrev Y30:FT:=cD (dh 61441 .str) (cD (dh 61444 (.int .i64)) yO)
def E:Env:={ty:=[(3,⟨false,(.int .i64),[]⟩),(4,⟨false,.bool,[]⟩),(5,⟨false,(.int .u8),[]⟩),(9,⟨false,.str,[]⟩),(22,⟨false,(.sl (.int .u8)),[(5,0)]⟩),(24,⟨false,(.sl .str),[(9,0)]⟩),(26,⟨true,(.sl .str),[(0,1)]⟩),(27,⟨false,(.sl bC),[(137,0)]⟩),(29,⟨true,sO,[(0,1),(1,1),(2,1),(3,1)]⟩),(30,⟨false,(.sl (.int .i64)),[(3,0)]⟩),(32,⟨true,hH,[(0,1),(1,1),(2,1),(3,1)]⟩),(33,⟨false,(.sl hU),[(107,0)]⟩),(35,⟨true,ko,[(0,4),(4,4),(8,1),(9,1)]⟩),(36,⟨false,(.sl dI),[(114,0)]⟩),(37,⟨false,(.sl hH),[(32,0)]⟩),(38,⟨false,(.sl fA),[(76,0)]⟩),(39,⟨false,(.sl .bool),[(4,0)]⟩),(41,⟨true,vo,[(0,1),(1,1),(2,1)]⟩),(42,⟨false,(.sl iK),[(198,0)]⟩),(43,⟨false,(.sl fW),[(200,0)]⟩),(45,⟨true,(.sl fW),[(0,1)]⟩),(47,⟨true,Dc,[(0,1),(1,1)]⟩),(49,⟨true,oD,[(0,1),(1,1),(2,2)]⟩),(50,⟨false,(.sl dG),[(144,0)]⟩),(52,⟨true,pG,[(0,1),(1,1),(2,1),(3,1),(4,1)]⟩),(54,⟨true,dC,[(0,1),(1,1),(2,10),(12,1),(13,1),(14,1),(15,1),(16,3),(19,4),(23,1),(24,1),(25,1),(26,1),(27,1),(28,5)]⟩),(55,⟨false,(.sl Ab),[(102,0)]⟩),(65,⟨true,WJ,[(0,1),(1,1),(2,1)]⟩),(76,⟨true,fA,[(0,1),(1,1),(2,1),(3,1),(4,1),(5,1)]⟩),(85,⟨true,Ac,[(0,1),(1,1),(2,1),(3,1),(4,1),(5,1),(6,1),(7,1)]⟩),(87,⟨true,cU,[(0,1),(1,1),(2,1),(3,1),(4,1),(5,1),(6,1),(7,1),(8,8)]⟩),(102,⟨true,Ab,[(0,1),(1,16),(17,1),(18,1),(19,1),(20,1)]⟩),(107,⟨true,hU,[(0,1),(1,1),(2,1)]⟩),(110,⟨true,gQ,[(0,1),(1,1),(2,1)]⟩),(112,⟨true,Oh,[(0,16),(16,1),(17,1)]⟩),(114,⟨true,dI,[(0,4),(4,3),(7,3),(10,18),(28,1),(29,1)]⟩),(137,⟨true,bC,[(0,1),(1,1),(2,1),(3,1)]⟩),(142,⟨true,pG,[(0,1),(1,1),(2,1),(3,1),(4,1)]⟩),(144,⟨true,dG,[(0,5),(5,1),(6,1),(7,1)]⟩),(164,⟨true,(.pair (.sl (.int .u8)) (.pair (.int .i64) (.int .i64))),[(0,1),(1,1),(2,1)]⟩),(165,⟨false,(.sl cU),[(87,0)]⟩),(189,⟨true,nr,[(0,1),(1,1),(2,1),(3,1),(4,1),(5,1)]⟩),(198,⟨true,iK,[(0,1),(1,1),(2,1),(3,1),(4,1),(5,1),(6,1),(7,1),(8,1)]⟩),(200,⟨true,fW,[(0,1),(1,5),(6,1)]⟩),(219,⟨true,pG,[(0,1),(1,1),(2,1),(3,1),(4,1)]⟩),(228,⟨true,TIp,[(0,1),(1,1),(2,1),(3,1),(4,1),(5,1),(6,1)]⟩),(231,⟨true,aaS,[(0,1),(1,1),(2,1),(3,1),(4,1)]⟩),(247,⟨false,(.sl iD),[(304,0)]⟩),(250,⟨false,(.sl nr),[(189,0)]⟩),(265,⟨false,(.sl iD),[(269,0)]⟩),(269,⟨true,iD,[(0,1),(1,1)]⟩),(304,⟨true,iD,[(0,1),(1,1)]⟩),(339,⟨false,(.int .u32),[]⟩)],eqs:=[(29,[.int,.int,.int,.int]),(52,[.int,.int,.int,.int,.int]),(76,[.int,.int,.int,.int,.bool,.bool]),(87,[.int,.int,.int,.int,.int,.int,.int,.int,.int,.int,.int,.int,.int,.int,.int,.str]),(112,[.int,.int,.int,.int,.int,.int,.int,.int,.int,.int,.int,.int,.int,.int,.int,.str,.int,.int]),(114,[.int,.int,.int,.int,.int,.int,.int,.int,.int,.int,.int,.int,.int,.int,.int,.int,.int,.int,.int,.int,.int,.int,.int,.int,.int,.str,.int,.int,.bool,.int]),(142,[.int,.int,.int,.int,.int]),(144,[.int,.int,.int,.int,.int,.int,.str,.bool]),(189,[.int,.int,.int,.int,.int,.int]),(198,[.int,.int,.int,.int,.int,.int,.int,.int,.int]),(200,[.int,.int,.int,.int,.int,.int,.int])],fts:=[((65,0),26)]}
theorem base:Sound Tryz.prog E xU.nil:=Sound.nil (Sj (by kernel_rfl)) (Sm (by kernel_rfl)) (Sl (by kernel_rfl)) (by kernel_rfl)
structure SG where (g:xU) (s:Sound Tryz.prog E g)
def SG.add (S:SG){F:jb}(h:DR f F):SG:=⟨S.g.add f F,S.s.add h⟩
def G0:SG:=⟨xU.nil,base⟩
def SG.q0 (S:SG){fn:Func}(an:An)(hf:Tryz.prog.funcs[f]?=some fn)(s:aw PS)(rs:aw (Bool×FT))(F:zH s->ax (kj rs))(hn:(fn.name== "runtime.NumGoroutine")=false:=by kernel_rfl)(hl:gZ (fn.body.getD .skip)=[]:=by kernel_rfl)(fi:an.cut=[]:=by rfl)(hF:∀a,Ci E S.g an kZ.nil fn rs (kR s a)=F a:=by intro a;kernel_rfl):SG:=S.add (gE.of (Ym S.s hf hn (yf.of (Fn.hF hl nF) fi)) hF)
def SG.qk (S:SG){fn:Func}(an:An)(hf:Tryz.prog.funcs[f]?=some fn)(s:aw PS)(rs:aw (Bool×FT))(F:zH s->ax (kj rs)){l:aw Code}(h:∀c∈l,xV E S.g an Λ c)(hn:(fn.name== "runtime.NumGoroutine")=false:=by kernel_rfl)(hl:gZ (fn.body.getD .skip)=l:=by kernel_rfl)(fi:an.cut=[]:=by kernel_rfl)(hF:∀a,Ci E S.g an Λ fn rs (kR s a)=F a:=by intro a;kernel_rfl):SG:=S.add (gE.of (Ym S.s hf hn (yf.of (Fn.hF hl h) fi)) hF)
def SG.q1 (S:SG){fn:Func}(an:An)(hf:Tryz.prog.funcs[f]?=some fn)(s:aw PS)(rs:aw (Bool×FT))(F:zH s->ax (kj rs))(d:SD)(t:{R:Type}->SD.D d->(Ex->AS->ax R)->(σ->ax R)->σ->ax R)(i:SD.D d->σ)(w:SD.D d->σ->SD.D d)(h1:(kZ.nil.add (ed (cJ fn 0)) (yR d t i)) (ed (cJ fn 0))=yR d t i:=by kernel_rfl)(h:∀(R:Type)(X:SD.D d)(K:uN R)(m:Nat)(x:σ),zv (an.mask (ed (cJ fn 0))) (den E S.g an (kZ.nil.add (ed (cJ fn 0)) (yR d t i)) (cJ fn 0)) (m+1) (SD.enc d (w X x)) K=t X K (λy=>zv (an.mask (ed (cJ fn 0))) (den E S.g an (kZ.nil.add (ed (cJ fn 0)) (yR d t i)) (cJ fn 0)) m (SD.enc d (w X y)) K) x:=by intro R X K m x;kernel_rfl)(hw:∀X,w X (i X)=X:=by intro X;kernel_rfl)(hn:(fn.name== "runtime.NumGoroutine")=false:=by kernel_rfl)(hl:gZ (fn.body.getD .skip)=[cJ fn 0]:=by kernel_rfl)(fi:an.cut=[]:=by kernel_rfl)(hF:∀a,Ci E S.g an (kZ.nil.add (ed (cJ fn 0)) (yR d t i)) fn rs (kR s a)=F a:=by intro a;kernel_rfl):SG:=S.add (gE.of (Ym S.s hf hn (yf.of (Fn.hF hl (cF (lk d t i w h1 h hw) nF)) fi)) hF)
def G8:=G0.q0 {} func8 [pd (.sl (.int .u8))] [rB] (c1 Gc)
def e37:jb:=UJ (.pair (.sl .arg (.int .u8)) (.pair (.int .i64) (.int .i64))) [pd (.sl (.int .u8))] λa=>zE a.1
def n37:An:={mask:=mk [(3,[0,3,4])],merge:=mg [(3,15)]}
abbrev WW:SD:=⟨cB (iS (.int .u8))::B::B::DI::DI::bs 27 [],zs 32 [],.none⟩
def agi (X:SD.D WW)(K:uN R):=yK (λy0 y1=>ke 0 K WW ((z1 (w y0 (u y1)) X.1),X.2)) X.1.1
def L37:kZ:=kZ.nil.add 3 (yR WW agi (λX=>(X.1.2.1,q2 X)))
theorem aju:xV E G8.g n37 L37 (cJ f37 0):=lk WW agi (λX=>(X.1.2.1,q2 X)) λX x=>((z1 (w x.1 (u x.2)) X.1),X.2)
theorem o37:DR 37 e37:=gE.ajJ (aiQ (Γ:=G8.g) (an:=n37) (Λ:=L37) (G8.s) func37 (by kernel_rfl) (ao (cF aju nF))) (λa=>by kernel_rfl)
def G37:=G8.add o37
def akj:=G37.q0 {merge:=mg [(1,6)]} func134 [pI,pI,pI] [rB] (c3 ba)
def aly:=akj.q0 {merge:=mg [(1,18),(4,2),(5,2)]} func228 [pf Ac] [rB] (c1 qa)
def akt:=aly.q0 {merge:=mg [(1,55),(3,3),(4,2)]} func147 [pf cU] [rB] (c1 qK)
def G75:=akt.q0 {merge:=mg [(1,2)]} func75 [pf cU] [rB] (c1 rN)
def akZ:=G75.q0 {merge:=mg [(1,6)]} func189 [pd .str,pI,pI] [rB] (c3 ng)
def G96:=akZ.q0 {} func96 [pd .str,pI,pd .str] [rS] (c3 ib)
def akV:=G96.q0 {} func182 [pI] [rS] (c1 dg)
def alz:=akV.q0 {} func229 [pI] [rS] (c1 fP)
def alA:=alz.q0 {merge:=mg [(1,27)]} func230 [pI,pI,pI,pI] [rS,rB] (c4 lJ)
def amD:=alA.q0 {merge:=mg [(1,12)]} func312 [pI,pI] [rI] (c2 lI)
abbrev abp:SD:=⟨cB .str::B::B::DI::DI::bs 28 [],zs 33 [],.none⟩
def amb:=amD.q1 {mask:=mk [(3,[0,3,4])]} func279 [pd .str] [rI] (c1 vW) abp (λX K=>qJ (λy0 y1=>ke 0 K abp ((z1 (w y0 (u y1)) X.1),X.2)) X.1.1) (λX=>(X.1.2.1,q2 X)) (λX x=>((z1 (w x.1 (u x.2)) X.1),X.2))
def alB:=amb.q0 {} func231 [pd .str] [rI] (c1 oL)
def aku:=alB.q0 {merge:=mg [(14,82)]} func148 [pI,pI,pf Ac] [rS,rB] (c3 js)
def amc:=aku.q0 {merge:=mg [(1,2)]} func280 [pf TIp] [rB] (c1 DG)
def alC:=amc.q0 {} func232 [pf TIp] [rS,rB] (c1 vT)
def akv:=alC.q0 {} func149 [pf TIp] [rS,rB] (c1 uh)
def alD:=akv.q0 {merge:=mg [(1,2)]} func233 [pf aaS] [rB] (c1 vc)
def alE:=alD.q0 {} func234 [pI] [rS] (c1 iA)
def akw:=alE.q0 {} func150 [pf aaS] [rS,rB] (c1 vP)
abbrev abf:SD:=⟨DI::cB (.int .u8)::B::B::B::cB (dh 61440 (.int .u8))::DI::bs 13 [],zs 20 [],.none⟩
def ak1:=akw.q1 {mask:=mk [(3,[0,1,5,6])]} func195 [pI,pd (.int .u8)] [rS] (c2 iq) abf (λX K=>oq (λy0 y1=>ke 0 K abf ((z2 (w y0 (u y1)) X.1),X.2)) X.1.1 X.1.2.1) (λX=>(q2 X,q3 X)) (λX x=>((z2 (w x.1 (u x.2)) X.1),X.2))
def akx:=ak1.q0 {} func151 [pd .str] [rS] (c1 xz)
def G76:=akx.q0 {} func76 [pf cU] [rS,rB] (c1 sq)
def ahL:An:={mask:=mk [(3,[0,3,4]),(7,[0,3,4,5])]}
abbrev OG:SD:=⟨cB .str::B::B::DI::DI::DI::bs 26 [],zs 32 [],.none⟩
def adN (X:SD.D OG)(K:uN R):=oM (λy0 y1=>ke 2 K OG ((z1 (w y0 (z1 (u y1))) X.1),X.2)) X.1.1 (q2 X)
abbrev OF:SD:=⟨cB .str::B::B::DI::DI::bs 27 [],zs 32 [],.none⟩
def adM (X:SD.D OF)(K:uN R):=rJ (λy0 y1=>ke 0 K OF ((z1 (w y0 (u y1)) X.1),X.2)) X.1.1
def aix:kZ:=(kZ.nil.add 7 (yR OG adN (λX=>(X.1.2.1,q3 X)))).add 3 (yR OF adM (λX=>(X.1.2.1,q2 X)))
theorem ahs:xV E G76.g ahL aix (cJ f152 1):=lk OG adN (λX=>(X.1.2.1,q3 X)) λX x=>((z1 (w x.1 (z1 (u x.2))) X.1),X.2)
theorem ahr:xV E G76.g ahL aix (cJ f152 0):=lk OF adM (λX=>(X.1.2.1,q2 X)) λX x=>((z1 (w x.1 (u x.2)) X.1),X.2)
def aky:=G76.qk ahL func152 [pd .str] [rI] (c1 Bv) (cF ahr (cF ahs nF))
def G77:=aky.q0 {} func77 [pd .str] [rS] (c1 uv)
def G31:=G77.q0 {} func31 [pf cU] [rS,rB] (c1 so)
def am9:jb:=jf (.pair (.sl .wJ (.int .u8)) (.pair (.int .i64) (.int .i64))) [] [rI] λx a=>jT x
theorem an4:DR 190 am9:=gE.pq (oU (an:={}) (Λ:=kZ.nil) (G31.s) func190 (by kernel_rfl) (ao nF)) (λx a=>by kernel_rfl)
def aim:=G31.add an4
def e97:jb:=jf (.pair (.sl .wJ (.int .u8)) (.pair (.int .i64) (.int .i64))) [pI] [rI] λx a=>cd x a.1
theorem o97:DR 97 e97:=gE.pq (oU (an:={}) (Λ:=kZ.nil) (aim.s) func97 (by kernel_rfl) (ao nF)) (λx a=>by kernel_rfl)
def G97:=aim.add o97
def e95:jb:=jf (.pair (.sl .wJ (.int .u8)) (.pair (.int .i64) (.int .i64))) [pI] [rB] λx a=>gr x a.1
theorem o95:DR 95 e95:=gE.pq (oU (an:={}) (Λ:=kZ.nil) (G97.s) func95 (by kernel_rfl) (ao nF)) (λx a=>by kernel_rfl)
def G95:=G97.add o95
def e98:jb:=jf (.pair (.sl .wJ (.int .u8)) (.pair (.int .i64) (.int .i64))) [pI] [rS] λx a=>lL x a.1
def n98:An:={mask:=mk [(5,[0,1,5,6])],mv:=[15]}
abbrev W1:SD:=⟨.ptr 0 0::DI::B::B::B::cB (dh 61440 (.int .u8))::DI::bs 16 [],(some Y7)::zs 22 [],.ptr⟩
def ago (X:SD.D W1)(K:uN R):=ot (λy0 y1 y2=>ke 0 K W1 ((z1 (w y0 (u y1)) X.1),(u y2 X.2.1),X.2.2)) X.1.1
def L98:kZ:=kZ.nil.add 5 (yR W1 ago (λX=>(X.1.2.1,q2 X,X.2.1.1)))
theorem ajA:xV E G95.g n98 L98 (cJ f98 0):=lk W1 ago (λX=>(X.1.2.1,q2 X,X.2.1.1)) λX x=>((z1 (w x.1 (u x.2.1)) X.1),(u x.2.2 X.2.1),X.2.2)
theorem o98:DR 98 e98:=gE.pq (oU (Γ:=G95.g) (an:=n98) (Λ:=L98) (G95.s) func98 (by kernel_rfl) (ao (cF ajA nF))) (λx a=>by kernel_rfl)
def G98:=G95.add o98
def e99:jb:=jf (.pair (.sl .wJ (.int .u8)) (.pair (.int .i64) (.int .i64))) [pd (.sl (.int .i64))] [rI] λx a=>cp x a.1
theorem o99:DR 99 e99:=gE.pq (oU (an:={}) (Λ:=kZ.nil) (G98.s) func99 (by kernel_rfl) (ao nF)) (λx a=>by kernel_rfl)
def G99:=G98.add o99
def am5:jb:=jf (.pair (.sl .wJ (.int .u8)) (.pair (.int .i64) (.int .i64))) [] [rI] λx a=>qM x
theorem an0:DR 145 am5:=gE.pq (oU (an:={}) (Λ:=kZ.nil) (G99.s) func145 (by kernel_rfl) (ao nF)) (λx a=>by kernel_rfl)
def aik:=G99.add an0
def ane:jb:=jf (.pair (.sl .wJ (.int .u8)) (.pair (.int .i64) (.int .i64))) [] [rI] λx a=>vX x
theorem an8:DR 227 ane:=gE.pq (oU (an:={}) (Λ:=kZ.nil) (aik.s) func227 (by kernel_rfl) (ao nF)) (λx a=>by kernel_rfl)
def aip:=aik.add an8
def am6:jb:=jf (.pair (.sl .wJ (.int .u8)) (.pair (.int .i64) (.int .i64))) [pI] [(true,(.pair (.int .i64) Y20))] λx a=>sC x a.1
theorem an1:DR 146 am6:=gE.pq (oU (an:={}) (Λ:=kZ.nil) (aip.s) func146 (by kernel_rfl) (ao nF)) (λx a=>by kernel_rfl)
def ail:=aip.add an1
def e74:jb:=jf (.pair (.sl .wJ (.int .u8)) (.pair (.int .i64) (.int .i64))) [pI] [(true,Y3)] λx a=>kE x a.1
theorem o74:DR 74 e74:=gE.pq (oU (an:={}) (Λ:=kZ.nil) (ail.s) func74 (by kernel_rfl) (ao nF)) (λx a=>by kernel_rfl)
def G74:=ail.add o74
def e94:jb:=jf (.pair (.sl .wJ (.int .u8)) (.pair (.int .i64) (.int .i64))) [pI] [(false,(.sl (.own none) cU))] λx a=>xE x a.1
def Xs:An:={mask:=mk [(5,[0,5,6,7,8]),(1000012,[0,5,6,7,8]),(1000013,[0,5,6,7,8]),(1000014,[0,5,6,7,8]),(1000015,[0,5,6,7,8]),(1000018,[0,5,6,7,8]),(1000019,[0,5,6,7,8]),(1000022,[0,5,6,7,8]),(1000023,[0,5,6,7,8]),(1000028,[0,5,6,7,8]),(1000029,[0,5,6,7,8]),(1000034,[0,5,6,7,8,64]),(1000035,[0,5,6,7,8])],cut:=[6,7,9,11,14,17],mv:=[47,76]}
abbrev Cc:SD:=⟨.ptr 0 0::bs 4 (cB (dh 61440 cU)::.ptr 6 0::DI::DI::bs 55 (DB::bs 12 [])),(some Y7)::zs 5 ((some Y3)::zs 70 []),.ptr⟩
abbrev OT:SD:=⟨.ptr 0 0::bs 4 (cB (dh 61440 cU)::.ptr 6 0::DI::DI::bs 68 []),(some Y7)::zs 5 ((some Y3)::zs 70 []),.ptr⟩
def IY (X:SD.D Cc)(K:uN R):ax R:=vf (λy0=>kn K OT ((X.1.1,(X.1.2.1,(X.1.2.2.1,()))),(X.2.1.1,(y0,())),())) X.1.1 X.1.2.1 (q2 X) (q3 X) X.2.1.1 X.2.1.2.1
abbrev zh:SD:=⟨.ptr 0 0::bs 4 (cB (dh 61440 cU)::.ptr 6 0::DI::DI::bs 68 []),(some Y7)::zs 5 ((some Y3)::zs 70 []),.ptr⟩
def IX (X:SD.D zh)(K:uN R):ax R:=ni (λy0 y1 y2=>kn K zh ((u y0 X.1),(w y1 (u y2) X.2.1),X.2.2)) X.1.1 X.1.2.1 (q2 X) X.2.1.1 X.2.1.2.1
abbrev zg:SD:=⟨.ptr 0 0::bs 4 (cB (dh 61440 cU)::.ptr 6 0::DI::DI::bs 68 []),(some Y7)::zs 5 ((some Y3)::zs 70 []),.ptr⟩
def IW (X:SD.D zg)(K:uN R):ax R:=nh (λy0 y1 y2=>kn K zg ((u y0 X.1),(w y1 (u y2) X.2.1),X.2.2)) X.1.1 X.1.2.1 (q2 X) X.2.1.1 X.2.1.2.1
abbrev ze:SD:=⟨.ptr 0 0::bs 4 (cB (dh 61440 cU)::.ptr 6 0::DI::DI::bs 68 []),(some Y7)::zs 5 ((some Y3)::zs 70 []),.ptr⟩
def IV (X:SD.D ze)(K:uN R):ax R:=ov (λy0 y1 y2 y3=>kn K ze ((w y0 (u y1) X.1),(w y2 (u y3) X.2.1),X.2.2)) X.1.1 X.1.2.1 (q2 X) X.2.1.1 X.2.1.2.1
abbrev yZ:SD:=⟨.ptr 0 0::bs 4 (cB (dh 61440 cU)::.ptr 6 0::DI::DI::bs 68 []),(some Y7)::zs 5 ((some Y3)::zs 70 []),.ptr⟩
def IT (X:SD.D yZ)(K:uN R):ax R:=ou (λy0=>kn K yZ ((z2 (u y0) X.1),X.2)) X.1.1 X.1.2.1 (q2 X) X.2.1.1 X.2.1.2.1
abbrev zd:SD:=⟨.ptr 0 0::bs 4 (cB (dh 61440 cU)::.ptr 6 0::DI::DI::bs 68 []),(some Y7)::zs 5 ((some Y3)::zs 70 []),.ptr⟩
def IU (X:SD.D zd)(K:uN R):ax R:=sD (λy0 y1 y2 y3 y4=>kn K zd ((w y0 (w y1 (u y2)) X.1),(w y3 (u y4) X.2.1),X.2.2)) X.1.1 X.1.2.1 (q2 X) X.2.1.1 X.2.1.2.1
abbrev W0:SD:=⟨.ptr 0 0::bs 4 (cB (dh 61440 cU)::.ptr 6 0::DI::DI::bs 68 []),(some Y7)::zs 5 ((some Y3)::zs 70 []),.ptr⟩
def agn (X:SD.D W0)(K:uN R):=wX (λy0 y1 y2 y3 y4=>ke 0 K W0 ((w y0 (w y1 (u y2)) X.1),(w y3 (u y4) X.2.1),X.2.2))
def L94:kZ:=((((((kZ.nil.add 1000034 (Zz Cc IY)).add 1000028 (Zz zh IX)).add 1000022 (Zz zg IW)).add 1000018 (Zz ze IV)).add 1000012 (Zz yZ IT)).add 1000014 (Zz zd IU)).add 5 (yR W0 agn (λX=>(X.1.1,X.1.2.1,q2 X,X.2.1.1,X.2.1.2.1)))
theorem Sh:TD E G74.g Xs L94 (tq Xs.cut f94 4):=ck Cc IY
theorem Sg:TD E G74.g Xs L94 (tq Xs.cut f94 3):=ck zh IX
theorem Sf:TD E G74.g Xs L94 (tq Xs.cut f94 2):=ck zg IW
theorem Se:TD E G74.g Xs L94 (tq Xs.cut f94 1):=ck ze IV
theorem Sc:TD E G74.g Xs L94 (tq Xs.cut f94 5):=ck yZ IT
theorem Sd:TD E G74.g Xs L94 (tq Xs.cut f94 0):=ck zd IU
theorem ajz:xV E G74.g Xs L94 (cJ f94 0):=lk W0 agn (λX=>(X.1.1,X.1.2.1,q2 X,X.2.1.1,X.2.1.2.1)) λX x=>((w x.1 (w x.2.1 (u x.2.2.1)) X.1),(w x.2.2.2.1 (u x.2.2.2.2) X.2.1),X.2.2)
theorem o94:DR 94 e94:=gE.pq (oU (Γ:=G74.g) (an:=Xs) (Λ:=L94) (G74.s) func94 (by kernel_rfl) (ac (cF ajz nF) (cF Sd (cF Se (cF Sf (cF Sg (cF Sh (cF Sc nF)))))))) (λx a=>by kernel_rfl)
def G94:=G74.add o94
def e38:jb:=jf (.pair (.sl .wJ (.int .u8)) (.pair (.int .i64) (.int .i64))) [pd .bool] [(false,(.sl (.own none) Ab))] λx a=>xO x a.1
def n38:An:={mask:=mk [(4,[0,1,5,6,7]),(1000010,[0,1,5,6,7]),(1000011,[0,1,5,6,7]),(1000012,[0,1,5,6,7]),(1000013,[0,1,5,6,7]),(1000018,[0,1,5,6,7,8]),(1000019,[0,1,5,6,7]),(1000030,[0,1,5,6,7,43,50]),(1000031,[0,1,5,6,7]),(1000038,[0,1,5,6,7,43,57]),(1000039,[0,1,5,6,7])],cut:=[5,6,9,15,19],mv:=[37,46,53,61,70,84,91,95]}
abbrev Cb:SD:=⟨.ptr 0 0::DB::B::B::B::cB (dh 61440 Ab)::cB (dh 73728 cU)::DI::bs 35 (DI::bs 13 (DB::bs 38 [])),(some Y7)::zs 95 [],.ptr⟩
abbrev OS:SD:=⟨.ptr 0 0::DB::B::B::B::cB (dh 61440 Ab)::cB (dh 73728 cU)::DI::bs 88 [],(some Y7)::zs 95 [],.ptr⟩
def IS (X:SD.D Cb)(K:uN R):ax R:=km (λy0 y1=>kn K OS ((X.1.1,(y0,(X.1.2.2.1,(X.1.2.2.2.1,())))),(y1,()),())) X.1.1 X.1.2.1 (q2 X) (q3 X) (q4 X) (q5 X) X.2.1.1
abbrev Ca:SD:=⟨.ptr 0 0::DB::B::B::B::cB (dh 61440 Ab)::cB (dh 73728 cU)::DI::bs 35 (DI::bs 6 (DB::bs 45 [])),(some Y7)::zs 95 [],.ptr⟩
abbrev OR:SD:=⟨.ptr 0 0::DB::B::B::B::cB (dh 61440 Ab)::cB (dh 73728 cU)::DI::bs 88 [],(some Y7)::zs 95 [],.ptr⟩
def IQ (X:SD.D Ca)(K:uN R):ax R:=nk (λy0 y1=>kn K OR ((X.1.1,(y0,(X.1.2.2.1,(X.1.2.2.2.1,())))),(y1,()),())) X.1.1 X.1.2.1 (q2 X) (q3 X) (q4 X) (q5 X) X.2.1.1
abbrev B9:SD:=⟨.ptr 0 0::DB::B::B::B::cB (dh 61440 Ab)::cB (dh 73728 cU)::DI::cB .str::bs 87 [],(some Y7)::zs 95 [],.ptr⟩
abbrev OQ:SD:=⟨.ptr 0 0::DB::B::B::B::cB (dh 61440 Ab)::cB (dh 73728 cU)::DI::bs 88 [],(some Y7)::zs 95 [],.ptr⟩
def IP (X:SD.D B9)(K:uN R):ax R:=oy (λy0 y1=>kn K OQ ((X.1.1,(y0,(X.1.2.2.1,(X.1.2.2.2.1,())))),(y1,()),())) X.1.1 X.1.2.1 (q2 X) (q3 X) (q4 X) X.2.1.1
abbrev yX:SD:=⟨.ptr 0 0::DB::B::B::B::cB (dh 61440 Ab)::cB (dh 73728 cU)::DI::bs 88 [],(some Y7)::zs 95 [],.ptr⟩
def IL (X:SD.D yX)(K:uN R):ax R:=ox (λy0=>kn K yX ((z3 (u y0) X.1),X.2)) X.1.1 X.1.2.1 (q2 X) (q3 X) X.2.1.1
abbrev yY:SD:=⟨.ptr 0 0::DB::B::B::B::cB (dh 61440 Ab)::cB (dh 73728 cU)::DI::bs 88 [],(some Y7)::zs 95 [],.ptr⟩
def IM (X:SD.D yY)(K:uN R):ax R:=sF (λy0 y1 y2=>kn K yY ((z1 (w y0 (z1 (u y1))) X.1),(u y2 X.2.1),X.2.2)) X.1.1 X.1.2.1 (q2 X) (q3 X) X.2.1.1
abbrev WX:SD:=⟨.ptr 0 0::DB::B::B::B::cB (dh 61440 Ab)::cB (dh 73728 cU)::DI::bs 88 [],(some Y7)::zs 95 [],.ptr⟩
def agj (X:SD.D WX)(K:uN R):=xb (λy0 y1 y2=>ke 0 K WX ((z1 (w y0 (z1 (u y1))) X.1),(u y2 X.2.1),X.2.2)) X.1.1 (q2 X)
def L38:kZ:=(((((kZ.nil.add 1000038 (Zz Cb IS)).add 1000030 (Zz Ca IQ)).add 1000018 (Zz B9 IP)).add 1000010 (Zz yX IL)).add 1000012 (Zz yY IM)).add 4 (yR WX agj (λX=>(X.1.2.1,q3 X,X.2.1.1)))
theorem Sb:TD E G94.g n38 L38 (tq n38.cut f38 3):=ck Cb IS
theorem Sa:TD E G94.g n38 L38 (tq n38.cut f38 2):=ck Ca IQ
theorem R9:TD E G94.g n38 L38 (tq n38.cut f38 1):=ck B9 IP
theorem R7:TD E G94.g n38 L38 (tq n38.cut f38 4):=ck yX IL
theorem R8:TD E G94.g n38 L38 (tq n38.cut f38 0):=ck yY IM
theorem ajv:xV E G94.g n38 L38 (cJ f38 0):=lk WX agj (λX=>(X.1.2.1,q3 X,X.2.1.1)) λX x=>((z1 (w x.1 (z1 (u x.2.1))) X.1),(u x.2.2 X.2.1),X.2.2)
theorem o38:DR 38 e38:=gE.pq (oU (Γ:=G94.g) (an:=n38) (Λ:=L38) (G94.s) func38 (by kernel_rfl) (ac (cF ajv nF) (cF R8 (cF R9 (cF Sa (cF Sb (cF R7 nF))))))) (λx a=>by kernel_rfl)
def G38:=G94.add o38
def akQ:=G38.q0 {merge:=mg [(1,16)]} func172 [pd .str] [rS,rB] (c1 vQ)
def aml:=akQ.q0 {} func289 [pd .str,pI] [rI] (c2 gP)
def amm:=aml.q0 {} func290 [pd .str,pI] [rI] (c2 nP)
def alP:=amm.q0 {sb:=mg [(4,4)]} func246 [pd .str] [(true,Y14),rB] (c1 vU)
def alQ:=alP.q0 {merge:=mg [(2,22),(6,56)],sb:=mg [(5,5)]} func247 [pd .str] [(true,Y20),rB] (c1 xA)
def alR:=alQ.q0 {merge:=mg [(3,20),(9,44),(12,68)]} func248 [pI,pI,pI,pd .str] [(true,(.pair (.int .i64) Y20)),rB] (c4 pA)
def akR:=alR.q0 {merge:=mg [(2,20)]} func173 [pd .str] [(true,Y3),rI] (c1 ur)
def G85:=akR.q0 {} func85 [pd .str] [(true,Y3),rI] (c1 uq)
def aio:=G85.q0 {} func194 [] [(true,(.sl (.own none) fW))] (λa=>lU)
def anj:jb:=jf (.pair (.sl .wJ (.int .u8)) (.pair (.int .i64) (.int .i64))) [] [rS] λx a=>zF x
theorem aod:DR 299 anj:=gE.pq (oU (an:={}) (Λ:=kZ.nil) (aio.s) func299 (by kernel_rfl) (ao nF)) (λx a=>by kernel_rfl)
def aei:=aio.add aod
def anf:jb:=jf (.pair (.sl .wJ (.int .u8)) (.pair (.int .i64) (.int .i64))) [] [(true,(.pair .str (.sl (.own none) (.int .i64)))),rI] λx a=>uw x
def ajG:An:={mask:=mk [(4,[0,2,4,5,6])],mv:=[21,28],mb:=mg [(21,5)],sb:=mg [(22,0),(27,5)]}
abbrev OL:SD:=⟨.ptr 0 0::B::.ptr 2 0::B::DI::.ptr 5 0::DI::bs 23 [],(some Y7)::Z::(pD (cD .str (dh 24580 (.int .i64))))::Z::Z::(pD (cD .str (dh 61444 (.int .i64))))::zs 24 [],.ptr⟩
def adV (X:SD.D OL)(K:uN R):=ux (λy0 y1 y2=>ke 0 K OL ((z1 (u y0) X.1),(w y1 (z1 (u y2)) X.2.1),X.2.2)) X.1.1 X.2.1.2.1
def aiC:kZ:=kZ.nil.add 4 (yR OL adV (λX=>(X.1.2.1,X.2.1.1,X.2.1.2.2.1)))
theorem ahA:xV E aei.g ajG aiC (cJ f258 0):=lk OL adV (λX=>(X.1.2.1,X.2.1.1,X.2.1.2.2.1)) λX x=>((z1 (u x.1) X.1),(w x.2.1 (z1 (u x.2.2)) X.2.1),X.2.2)
theorem an9:DR 258 anf:=gE.pq (oU (Γ:=aei.g) (an:=ajG) (Λ:=aiC) (aei.s) func258 (by kernel_rfl) (ao (cF ahA nF))) (λx a=>by kernel_rfl)
def aiq:=aei.add an9
def ank:jb:=jf (.pair (.sl .wJ (.int .u8)) (.pair (.int .i64) (.int .i64))) [] [(true,(.pair (.int .i64) (.pair (.int .i64) (.pair (.int .i64) (.pair (.int .i64) (.pair (.int .i64) Y1))))))] λx a=>xI x
theorem aoe:DR 300 ank:=gE.pq (oU (an:={}) (Λ:=kZ.nil) (aiq.s) func300 (by kernel_rfl) (ao nF)) (λx a=>by kernel_rfl)
def aej:=aiq.add aoe
def ang:jb:=jf (.pair (.sl .wJ (.int .u8)) (.pair (.int .i64) (.int .i64))) [] [(false,(.sl (.own none) iK))] λx a=>vY x
def ajH:An:={mask:=mk [(3,[0,3,4])],mv:=[12,17]}
abbrev OM:SD:=⟨.ptr 0 0::B::B::cB (dh 36864 iK)::DI::bs 13 [],(some Y7)::zs 17 [],.ptr⟩
def adW (X:SD.D OM)(K:uN R):=vg (λy0 y1 y2=>ke 0 K OM ((w y0 (u y1) X.1),(u y2 X.2.1),X.2.2))
def aiD:kZ:=kZ.nil.add 3 (yR OM adW (λX=>(X.1.1,X.1.2.1,X.2.1.1)))
theorem ahB:xV E aej.g ajH aiD (cJ f259 0):=lk OM adW (λX=>(X.1.1,X.1.2.1,X.2.1.1)) λX x=>((w x.1 (u x.2.1) X.1),(u x.2.2 X.2.1),X.2.2)
theorem aoa:DR 259 ang:=gE.pq (oU (Γ:=aej.g) (an:=ajH) (Λ:=aiD) (aej.s) func259 (by kernel_rfl) (ao (cF ahB nF))) (λx a=>by kernel_rfl)
def alW:=aej.add aoa
def akY:=alW.q0 {} func188 [pf (.sl fW)] [(true,(.sl (.own none) fW))] (c1 uy)
abbrev abq:SD:=⟨B::B::B::DI::cB (dh 49152 (.int .i64))::DI::bs 26 [],zs 32 [],.none⟩
def amp:=akY.q1 {mask:=mk [(4,[3,4,5])]} func294 [pf pG] [rI] (c1 rL) abq (λX K=>nf (λy0 y1=>ke 0 K abq ((w y0 (z1 (u y1)) X.1),X.2)) X.1.2.1) (λX=>(X.1.1,q2 X)) (λX x=>((w x.1 (z1 (u x.2)) X.1),X.2))
abbrev Uz:SD:=⟨B::B::.ptr 2 0::.ptr 3 0::DI::DI::bs 35 [],Z::Z::(pD (iS fW))::(pD (cD yO Y1))::zs 37 [],.none⟩
def alU:=amp.q1 {mask:=mk [(2,[2,3,4,5])],merge:=mg [(7,39)]} func253 [pf (.sl fW),pf pG] [rI] (c2 uz) Uz (λX K=>ow (λy0=>ke 0 K Uz ((z1 (u y0) X.1),X.2)) (λy0 y1=>kr K Uz ((w y0 (u y1) X.1),X.2)) X.1.1 X.2.1.1 X.2.1.2.1) (λX=>X.1.2.1) (λX x=>((z1 (u x) X.1),X.2))
abbrev Ux:SD:=⟨B::.ptr 1 0::DB::DI::bs 45 [],Z::(pD (iS fW))::zs 47 [],.none⟩
def alT:=alU.q1 {mask:=mk [(4,[1,2,3])],merge:=mg [(7,30),(10,42)]} func250 [pf (.sl fW)] [rB] (c1 uu) Ux (λX K=>sB (λy0=>ke 0 K Ux ((z1 (u y0) X.1),X.2)) (λy0 y1=>kr K Ux ((w y0 (u y1) X.1),X.2)) X.1.1 X.2.1.1) (λX=>X.1.2.1) (λX x=>((z1 (u x) X.1),X.2))
abbrev abl:SD:=⟨B::B::DI::.ptr 3 0::.ptr 4 0::B::.ptr 6 0::B::.ptr 8 0::DI::DI::bs 47 [],Z::Z::Z::(pD (iS fW))::(pD (cD yO Y1))::Z::(pD (dh 73729 fW))::Z::(pD (dh 98305 fW))::zs 49 [],.none⟩
def air:=alT.q1 {mask:=mk [(6,[2,3,4,6,8,9,10])],merge:=mg [(2,21),(6,31)],mv:=[22,49,57]} func260 [pf (.sl fW),pf pG,pI] [(true,(.sl (.own none) fW)),rB] (c3 xB) abl (λX K=>wW (λy0 y1=>ke 0 K abl ((z1 (w y0 (u y1)) X.1),X.2)) X.1.1 X.2.1.1 X.2.1.2.1 X.2.1.2.2.1 X.2.1.2.2.2.1) (λX=>(X.1.2.1,q2 X)) (λX x=>((z1 (w x.1 (u x.2)) X.1),X.2))
def anh:jb:=jf (.pair (.sl .wJ (.int .u8)) (.pair (.int .i64) (.int .i64))) [] [(true,(.pair (.int .i64) Y1))] λx a=>xG x
theorem aob:DR 261 anh:=gE.pq (oU (an:={}) (Λ:=kZ.nil) (air.s) func261 (by kernel_rfl) (ao nF)) (λx a=>by kernel_rfl)
def aaP:=air.add aob
def ana:jb:=jf (.pair (.sl .wJ (.int .u8)) (.pair (.int .i64) (.int .i64))) [] [(true,Y18),rI] λx a=>qN x
def ahP:An:={mask:=mk [(7,[0,2,4,6,7]),(11,[0,2,4,6,8])],mv:=[11,16,49,58,61],sb:=mg [(52,0),(54,0),(60,4)]}
abbrev OJ:SD:=⟨.ptr 0 0::B::.ptr 2 0::B::.ptr 4 0::B::DI::DI::bs 55 [],(some Y7)::Z::(some Y22)::Z::(some Y15)::zs 58 [],.ptr⟩
def adT (X:SD.D OJ)(K:uN R):=jJ (λy0 y1=>ke 0 K OJ ((z1 (u y0) X.1),(z2 (u y1) X.2.1),X.2.2)) X.1.1 X.2.1.1 X.2.1.2.1
abbrev Jj:SD:=⟨.ptr 0 0::B::.ptr 2 0::B::.ptr 4 0::B::DI::B::DI::bs 54 [],(some Y7)::Z::(some Y22)::Z::(some Y15)::zs 58 [],.ptr⟩
def XQ (X:SD.D Jj)(K:uN R):=gW (λy0 y1 y2=>ke 2 K Jj ((z1 (u y0) X.1),(w y1 (z1 (u y2)) X.2.1),X.2.2)) X.1.1 X.2.1.2.1
def agz:kZ:=(kZ.nil.add 7 (yR OJ adT (λX=>(X.1.2.1,X.2.1.2.2.1)))).add 11 (yR Jj XQ (λX=>(X.1.2.1,X.2.1.1,X.2.1.2.2.1)))
theorem ahy:xV E aaP.g ahP agz (cJ f191 0):=lk OJ adT (λX=>(X.1.2.1,X.2.1.2.2.1)) λX x=>((z1 (u x.1) X.1),(z2 (u x.2) X.2.1),X.2.2)
theorem ae3:xV E aaP.g ahP agz (cJ f191 1):=lk Jj XQ (λX=>(X.1.2.1,X.2.1.1,X.2.1.2.2.1)) λX x=>((z1 (u x.1) X.1),(w x.2.1 (z1 (u x.2.2)) X.2.1),X.2.2)
theorem an5:DR 191 ana:=gE.pq (oU (Γ:=aaP.g) (an:=ahP) (Λ:=agz) (aaP.s) func191 (by kernel_rfl) (ao (cF ahy (cF ae3 nF)))) (λx a=>by kernel_rfl)
def ak0:=aaP.add an5
def akk:=ak0.q0 {merge:=mg [(1,2)]} func135 [pf fA] [rB] (c1 td)
def G66:=akk.q0 {merge:=mg [(1,24),(3,2)]} func66 [pf fA] [rB] (c1 lV)
def G24:=G66.q0 {} func24 [pI,pI] [(true,Y12),rB] (c2 um)
def G91:=G24.q0 {sb:=mg [(2,2)]} func91 [pf vo] [(true,Y23)] (c1 xM)
def G92:=G91.q0 {sb:=mg [(2,2)]} func92 [pf oD] [(true,Y18)] (c1 xJ)
abbrev Um:SD:=⟨B::.ptr 1 0::DB::DI::bs 41 [],Z::(some Y25)::zs 43 [],.none⟩
def akS:=G92.q1 {mask:=mk [(2,[1,2,3])],merge:=mg [(4,35),(6,2)]} func174 [pf vo] [rB] (c1 vS) Um (λX K=>qE (λy0=>ke 0 K Um ((z1 (u y0) X.1),X.2)) (λy0 y1=>kr K Um ((w y0 (u y1) X.1),X.2)) X.1.1 X.2.1.1) (λX=>X.1.2.1) (λX x=>((z1 (u x) X.1),X.2))
def amn:=akS.q0 {merge:=mg [(1,33),(3,54),(5,2)]} func291 [pf iK] [rB] (c1 lK)
abbrev Uw:SD:=⟨cB (iS iK)::B::DB::DI::bs 15 [],zs 19 [],.none⟩
def alS:=amn.q1 {mask:=mk [(2,[0,2,3])]} func249 [pd (.sl iK)] [rB] (c1 xD) Uw (λX K=>sy (λy0=>ke 0 K Uw ((z2 (u y0) X.1),X.2)) (λy0 y1=>kr K Uw ((z1 (w y0 (u y1)) X.1),X.2)) X.1.1 X.1.2.1) q2 (λX x=>((z2 (u x) X.1),X.2))
def amo:=alS.q0 {merge:=mg [(1,2)]} func292 [pI] [rB] (c1 xH)
abbrev Uy:SD:=⟨B::DI::.ptr 2 0::B::DB::DI::bs 32 [],Z::Z::(pD (cD .str (iS (.int .i64))))::zs 35 [],.none⟩
def agu:=amo.q1 {mask:=mk [(4,[1,2,4,5])],merge:=mg [(1,21)]} func251 [pf Dc,pI] [rB] (c2 vV) Uy (λX K=>qH (λy0=>ke 0 K Uy ((z2 (u y0) X.1),X.2)) (λy0 y1=>kr K Uy ((z1 (w y0 (u y1)) X.1),X.2)) X.1.1 X.1.2.1 X.2.1.1) q2 (λX x=>((z2 (u x) X.1),X.2))
def ahN:An:={mask:=mk [(4,[1,2,4,5]),(9,[1,2,4,6])],merge:=mg [(1,23)]}
abbrev JW:SD:=⟨B::DI::.ptr 2 0::B::DB::DI::bs 50 [],Z::Z::(some Y17)::zs 53 [],.none⟩
def adQ (X:SD.D JW)(K:uN R):=nR (λy0=>ke 0 K JW ((z2 (u y0) X.1),X.2)) (λy0 y1=>kr K JW ((z1 (w y0 (u y1)) X.1),X.2)) X.1.1 X.1.2.1 X.2.1.1
abbrev JX:SD:=⟨B::DI::.ptr 2 0::B::DB::B::DI::bs 49 [],Z::Z::(some Y17)::zs 53 [],.none⟩
def adR (X:SD.D JX)(K:uN R):=nS (λy0=>ke 2 K JX ((z2 (u y0) X.1),X.2)) (λy0 y1=>kr K JX ((z1 (w y0 (u y1)) X.1),X.2)) X.1.1 X.1.2.1 X.2.1.1
def aiz:kZ:=(kZ.nil.add 4 (yR JW adQ q2)).add 9 (yR JX adR q2)
theorem ahv:xV E agu.g ahN aiz (cJ f175 0):=lk JW adQ q2 λX x=>((z2 (u x) X.1),X.2)
theorem ahw:xV E agu.g ahN aiz (cJ f175 1):=lk JX adR q2 λX x=>((z2 (u x) X.1),X.2)
def akT:=agu.qk ahN func175 [pf oD,pI] [rB] (c2 sA) (cF ahv (cF ahw nF))
abbrev abm:SD:=⟨DI::B::.ptr 2 0::.ptr 3 0::DI::bs 17 [],Z::Z::(pD (dh 24577 .str))::(pD (dh 36865 .str))::zs 18 [],.none⟩
def alX:=akT.q1 {mask:=mk [(3,[0,2,3,4])],merge:=mg [(3,12)],mv:=[16,21],mb:=mg [(16,3)],sb:=mg [(20,3)]} func262 [pI] [(true,(.sl (.own none) .str))] (c1 pZ) abm (λX K=>pz (λy0 y1=>ke 0 K abm ((z1 (u y0) X.1),(z1 (u y1) X.2.1),X.2.2)) X.1.1 X.2.1.1) (λX=>(X.1.2.1,X.2.1.2.1)) (λX x=>((z1 (u x.1) X.1),(z1 (u x.2) X.2.1),X.2.2))
abbrev Up:SD:=⟨B::.ptr 1 0::DB::cB (dh 36864 .bool)::DI::bs 53 [],Z::(some Y13)::zs 56 [],.none⟩
def akX:=alX.q1 {mask:=mk [(5,[1,2,3,4])],merge:=mg [(1,20),(7,50)]} func187 [pf hH] [rB] (c1 ta) Up (λX K=>uo (λy0 y1=>ke 0 K Up ((z1 (w y0 (u y1)) X.1),X.2)) (λy0 y1 y2=>kr K Up ((w y0 (w y1 (u y2)) X.1),X.2)) X.1.1 X.2.1.1) (λX=>(X.1.2.1,q2 X)) (λX x=>((z1 (w x.1 (u x.2)) X.1),X.2))
abbrev abr:SD:=⟨B::B::DI::B::B::B::.ptr 6 0::B::.ptr 8 0::DI::bs 24 [],zs 6 ((some Y29)::Z::(some Y28)::zs 25 []),.none⟩
def amt:=akX.q1 {mask:=mk [(3,[2,6,8,9])],merge:=mg [(3,20)],mv:=[24,33]} func301 [pI,pI,pI] [(true,Y8),rB] (c3 uk) abr (λX K=>oo (λy0 y1=>ke 0 K abr ((z1 (u y0) X.1),(z1 (u y1) X.2.1),X.2.2)) X.1.1 X.2.1.1) (λX=>(X.1.2.1,X.2.1.2.1)) (λX x=>((z1 (u x.1) X.1),(z1 (u x.2) X.2.1),X.2.2))
def alY:=amt.q0 {mv:=[4,9]} func263 [] [(true,Y16)] (λa=>wa)
def amI:=alY.q0 {} func319 [pf (.sl .str)] [(true,(.sl (.own none) .str))] (c1 lM)
abbrev Uo:SD:=⟨B::.ptr 1 0::DB::DI::bs 18 [],Z::(pD (iS .str))::zs 20 [],.none⟩
def ags:=amI.q1 {mask:=mk [(2,[1,2,3])]} func183 [pf (.sl .str)] [rB] (c1 rM) Uo (λX K=>qF (λy0=>ke 0 K Uo ((z1 (u y0) X.1),X.2)) (λy0 y1=>kr K Uo ((w y0 (u y1) X.1),X.2)) X.1.1 X.2.1.1) (λX=>X.1.2.1) (λX x=>((z1 (u x) X.1),X.2))
def ahO:An:={mask:=mk [(4,[0,2,3]),(10,[0,2,3,4,5])],merge:=mg [(7,34),(12,57)]}
abbrev Fx:SD:=⟨cB (iS bC)::B::DB::DI::.ptr 4 0::DI::bs 52 [],zs 4 ((pD (ju (ju (ju .bool))))::zs 53 []),.none⟩
def XP (X:SD.D Fx)(K:uN R):=mC (λy0=>ke 2 K Fx ((z3 (u y0) X.1),X.2)) (λy0 y1=>kr K Fx ((z1 (w y0 (z1 (u y1))) X.1),X.2)) X.1.1 X.1.2.1 (q2 X) X.2.1.1
abbrev JY:SD:=⟨cB (iS bC)::B::DB::DI::bs 54 [],zs 58 [],.none⟩
def adS (X:SD.D JY)(K:uN R):=nQ (λy0=>ke 0 K JY ((z2 (u y0) X.1),X.2)) (λy0 y1=>kr K JY ((z1 (w y0 (u y1)) X.1),X.2)) X.1.1 X.1.2.1
def aiA:kZ:=(kZ.nil.add 10 (yR Fx XP q3)).add 4 (yR JY adS q2)
theorem ae2:xV E ags.g ahO aiA (cJ f184 1):=lk Fx XP q3 λX x=>((z3 (u x) X.1),X.2)
theorem ahx:xV E ags.g ahO aiA (cJ f184 0):=lk JY adS q2 λX x=>((z2 (u x) X.1),X.2)
def akW:=ags.qk ahO func184 [pd (.sl bC)] [rB] (c1 su) (cF ahx (cF ae2 nF))
abbrev UE:SD:=⟨cB (iS bC)::DI::DI::DB::bs 4 (DI::DI::bs 38 []),zs 48 [],.none⟩
def amX:=akW.q1 {mask:=mk [(2,[0,1,2,3,8,9])],merge:=mg [(4,42)]} func336 [pd (.sl bC),pI,pI,pd .bool] [rI] (c4 xK) UE (λX K=>sE (λy0=>ke 0 K UE ((z5 (u y0) X.1),X.2)) (λy0 y1=>kr K UE ((z4 (w y0 (u y1)) X.1),X.2)) X.1.1 X.1.2.1 (q2 X) (q3 X) (q4 X)) q5 (λX x=>((z5 (u x) X.1),X.2))
def amY:=amX.q0 {merge:=mg [(2,6)]} func337 [pf (.sl .str),pI,pI] [rB] (c3 nj)
abbrev UD:SD:=⟨cB (iS bC)::B::DI::DI::DI::DB::B::.ptr 7 0::bs 4 (cB (dh 147456 (.int .i64))::cB (dh 159744 (.int .i64))::DB::cB (dh 184320 (.int .i64))::cB (dh 196608 (.int .i64))::bs 66 []),zs 7 ((pD (iS .str))::zs 75 []),.none⟩
def amS:=amY.q1 {mask:=mk [(5,[0,2,3,4,5,7,12,13,14,15,16])],merge:=mg [(3,34),(10,57)],mv:=[35,36,64,71,81,82]} func331 [pd (.sl bC),pf (.sl .str),pI,pI,pI,pd .bool] [(false,(.sl (.own none) (.int .i64))),(false,(.sl (.own none) (.int .i64))),rB] (c6 vZ) UD (λX K=>kl (λy0 y1 y2 y3=>ke 0 K UD ((z2 (w y0 (w y1 (z4 (w y2 (u y3))))) X.1),X.2)) (λy0 y1 y2 y3 y4 y5 y6=>kr K UD ((z2 (w y0 (w y1 (z1 (w y2 (w y3 (w y4 (w y5 (u y6)))))))) X.1),X.2)) X.1.1 X.1.2.1 (q4 X) (q5 X) (q6 X) (q7 X) X.2.1.1) (λX=>(q2 X,q3 X,q8 X,q9 X)) (λX x=>((z2 (w x.1 (w x.2.1 (z4 (w x.2.2.1 (u x.2.2.2))))) X.1),X.2))
abbrev abB:SD:=⟨B::DI::cB .str::B::B::B::.ptr 6 0::B::.ptr 8 0::bs 44 [],zs 6 ((pD (dh 73729 .str))::Z::(pD (dh 98305 .str))::zs 44 []),.none⟩
def amT:=amS.q1 {mask:=mk [(4,[1,2,6,8])],mv:=[19,52]} func332 [pf (.sl .str),pI,pd .str] [(true,(.sl (.own none) .str)),rB] (c3 qL) abB (λX K=>mE (λy0 y1 y2=>ke 0 K abB ((w y0 (u y1) X.1),(z1 (u y2) X.2.1),X.2.2)) X.2.1.1) (λX=>(X.1.1,X.1.2.1,X.2.1.2.1)) (λX x=>((w x.1 (u x.2.1) X.1),(z1 (u x.2.2) X.2.1),X.2.2))
abbrev aby:SD:=⟨bs 4 (cB .str::bs 5 (.ptr 10 0::B::cB (.sl .loc (.int .i64))::cB (.sl .loc (.int .i64))::B::.ptr 15 0::DI::bs 44 [])),zs 10 ((pD (dh 122881 .str))::zs 4 ((pD (dh 184321 .str))::zs 45 [])),.none⟩
def amH:=amT.q1 {mask:=mk [(6,[4,10,12,13,15,16])],mv:=[32,39,52,60],sb:=mg [(15,15)]} func318 [pd (.sl bC),pf (.sl .str),pI,pI,pd .str] [(true,(.sl (.own none) .str)),rB] (c5 rK) aby (λX K=>na (λy0 y1 y2=>ke 0 K aby ((w y0 (z2 (u y1)) X.1),(z1 (u y2) X.2.1),X.2.2)) X.1.2.1 (q2 X) X.2.1.1) (λX=>(X.1.1,q3 X,X.2.1.2.1)) (λX x=>((w x.1 (z2 (u x.2.1)) X.1),(z1 (u x.2.2) X.2.1),X.2.2))
abbrev abt:SD:=⟨cB (iS bC)::B::DI::DI::cB .str::B::.ptr 6 0::B::B::B::.ptr 10 0::B::cB (dh 147456 bC)::DI::bs 25 [],zs 6 ((pD (iS .str))::Z::Z::Z::(pD (dh 122881 .str))::zs 28 []),.none⟩
def amu:=amH.q1 {mask:=mk [(3,[0,2,3,4,6,10,12,13])],mv:=[27]} func302 [pd (.sl bC),pf (.sl .str),pI,pI,pd .str] [(true,(.sl (.own none) .str)),rB] (c5 ui) abt (λX K=>py (λy0 y1=>ke 0 K abt ((z4 (w y0 (u y1)) X.1),X.2)) X.1.1 X.1.2.1 (q2 X) (q3 X) X.2.1.1 X.2.1.2.1) (λX=>(q4 X,q5 X)) (λX x=>((z4 (w x.1 (u x.2)) X.1),X.2))
def amq:=amu.q0 {merge:=mg [(1,2)]} func296 [pI] [rB] (c1 uA)
def amr:=amq.q0 {} func297 [pf sO] [rI] (c1 rP)
def alV:=amr.q0 {merge:=mg [(1,2)]} func255 [pf sO] [rB] (c1 tc)
def ams:=alV.q0 {sb:=mg [(2,2)]} func298 [pf hH] [(true,Y8)] (c1 xL)
def amJ:=ams.q0 {} func320 [pf sO] [rI] (c1 rO)
def amU:=amJ.q0 {merge:=mg [(1,11)]} func333 [pf sO,pI] [rI] (c2 qG)
def amK:=amU.q0 {merge:=mg [(1,22)],mv:=[26,36,51],mb:=mg [(51,13)],sb:=mg [(10,10),(11,11),(13,13)]} func321 [pd (.sl bC),pf (.sl .str),pI,pf sO,pd .str] [(true,(.sl (.own none) .str)),(true,Y1),rB] (c5 xC)
def amV:=amK.q0 {merge:=mg [(1,2)]} func334 [pf nr] [rB] (c1 zD)
def amL:=amV.q0 {} func322 [pf nr] [rS] (c1 sr)
def amM:=amL.q0 {merge:=mg [(1,15)]} func323 [pf hH,pI] [rI] (c2 nO)
abbrev abu:SD:=⟨cB (iS bC)::B::DI::bs 5 (.ptr 8 0::.ptr 9 0::.ptr 10 0::.ptr 11 0::.ptr 12 0::B::.ptr 14 0::.ptr 15 0::DI::bs 65 []),zs 8 ((some Y1)::(some Y13)::(pD (dh 122881 .str))::(some Y1)::(some Y27)::Z::(pD (dh 172033 .str))::(some Y26)::zs 66 []),.none⟩
def ait:=amM.q1 {mask:=mk [(6,[0,2,8,9,10,11,12,14,15,16])],merge:=mg [(4,32),(6,44)],mv:=[33,35,49,63,68,78,80],mb:=mg [(33,14),(35,15),(78,14),(80,15)],sb:=mg [(10,10),(11,11),(12,12),(18,18),(19,19)]} func303 [pd (.sl bC),pf (.sl .str),pI,pf sO,pf hH] [(true,(.sl (.own none) .str)),(true,Y1),(true,Y8),rI] (c5 vR) abu (λX K=>nd (λy0 y1 y2 y3=>ke 0 K abu ((z2 (u y0) X.1),(w y1 (z4 (w y2 (u y3))) X.2.1),X.2.2)) X.1.1 X.1.2.1 X.2.1.2.1 X.2.1.2.2.1 X.2.1.2.2.2.1 X.2.1.2.2.2.2.1) (λX=>(q2 X,X.2.1.1,X.2.1.2.2.2.2.2.1,X.2.1.2.2.2.2.2.2.1)) (λX x=>((z2 (u x.1) X.1),(w x.2.1 (z4 (w x.2.2.1 (u x.2.2.2))) X.2.1),X.2.2))
def ani:jb:=jf (.pair (.sl (.own none) .str) (.pair (.sl (.own none) bC) (.pair (.pair (.pair (.int .i64) (.pair (.int .i64) (.pair (.int .i64) (.int .i64)))) (.pair (.pair (.int .i64) (.pair (.int .i64) (.pair (.int .i64) (.sl (.own none) (.int .i64))))) (.pair (.sl (.own none) hU) (.int .i64)))) (.pair (.sl (.own none) dI) (.pair (.sl (.own none) hH) (.pair (.sl (.own none) fA) (.pair (.sl (.own none) .bool) (.pair (.pair (.int .i64) (.pair .bool (.sl (.own none) (.int .i64)))) (.pair (.pair (.sl (.own none) iK) (.pair (.sl (.own none) fW) (.pair .str (.sl (.own none) (.int .i64))))) (.pair (.sl (.own none) dG) (.pair .bool (.pair (.sl (.own none) .str) (.pair (.sl (.own none) (.int .i64)) (.pair (.sl (.own none) (.int .i64)) (.pair (.int .i64) (.pair (.int .i64) (.pair (.int .i64) (.pair (.int .i64) (.int .i64))))))))))))))))))) [pI] [] λx a=>uC x a.1
theorem aoc:DR 264 ani:=gE.pq (oU (an:={mv:=[47,51,65,67,84],mb:=mg [(84,6)],sb:=mg [(6,6),(50,0),(70,0),(71,5)]}) (Λ:=kZ.nil) (ait.s) func264 (by kernel_rfl) (ao nF)) (λx a=>by kernel_rfl)
def agv:=ait.add aoc
def ahQ:An:={mask:=mk [(6,[0,12,14,16,17]),(10,[0,12,14,16,18])],merge:=mg [(2,42)],mv:=[57,74,80,86,92,98],mb:=mg [(57,16)],sb:=mg [(16,16),(67,16)]}
abbrev OK:SD:=⟨DI::bs 11 (.ptr 12 0::B::.ptr 14 0::B::.ptr 16 0::DI::bs 81 []),zs 12 ((some Y11)::Z::(some Y12)::Z::(some Y10)::zs 82 []),.none⟩
def adU (X:SD.D OK)(K:uN R):=wV (λy0 y1=>ke 0 K OK ((z1 (u y0) X.1),(z2 (u y1) X.2.1),X.2.2)) X.1.1 X.2.1.1 X.2.1.2.1
abbrev Jk:SD:=⟨DI::bs 11 (.ptr 12 0::B::.ptr 14 0::B::.ptr 16 0::B::DI::bs 80 []),zs 12 ((some Y11)::Z::(some Y12)::Z::(some Y10)::zs 82 []),.none⟩
def XR (X:SD.D Jk)(K:uN R):=vd (λy0 y1=>ke 2 K Jk ((z1 (u y0) X.1),(z2 (u y1) X.2.1),X.2.2)) X.1.1 X.2.1.1 X.2.1.2.1
def aiB:kZ:=(kZ.nil.add 6 (yR OK adU (λX=>(X.1.2.1,X.2.1.2.2.1)))).add 10 (yR Jk XR (λX=>(X.1.2.1,X.2.1.2.2.1)))
theorem ahz:xV E agv.g ahQ aiB (cJ f192 0):=lk OK adU (λX=>(X.1.2.1,X.2.1.2.2.1)) λX x=>((z1 (u x.1) X.1),(z2 (u x.2) X.2.1),X.2.2)
theorem ae4:xV E agv.g ahQ aiB (cJ f192 1):=lk Jk XR (λX=>(X.1.2.1,X.2.1.2.2.1)) λX x=>((z1 (u x.1) X.1),(z2 (u x.2) X.2.1),X.2.2)
def ain:=agv.qk ahQ func192 [pI,pf vo,pf oD,pd .bool,pI,pI] [(true,Y0),rB] (c6 uj) (cF ahz (cF ae4 nF))
def anb:jb:=jf (.pair (.sl .wJ (.int .u8)) (.pair (.int .i64) (.int .i64))) [] [(true,Y23)] λx a=>uB x
theorem an6:DR 193 anb:=gE.pq (oU (an:={mv:=[11]}) (Λ:=kZ.nil) (ain.s) func193 (by kernel_rfl) (ao nF)) (λx a=>by kernel_rfl)
def aaN:=ain.add an6
def am3:jb:=jf (.pair (.sl .wJ (.int .u8)) (.pair (.int .i64) (.int .i64))) [] [(true,Y0)] λx a=>xN x
def ahJ:An:={mask:=mk [(2,[0,2,3]),(6,[0,2,3,4,5,6])],mv:=[15,32,46,49,50,60],sb:=mg [(7,7),(34,0),(37,0),(40,0),(43,0)]}
abbrev OB:SD:=⟨.ptr 0 0::B::.ptr 2 0::DI::.ptr 4 0::DI::DI::bs 54 [],(some Y7)::Z::(some Y2)::Z::(some Y15)::zs 56 [],.ptr⟩
def adG (X:SD.D OB)(K:uN R):=xa (λy0 y1=>ke 2 K OB ((z2 (u y0) X.1),(z2 (u y1) X.2.1),X.2.2)) X.1.1 X.1.2.1 X.2.1.1 X.2.1.2.1
abbrev JT:SD:=⟨.ptr 0 0::B::.ptr 2 0::DI::bs 57 [],(some Y7)::Z::(some Y2)::zs 58 [],.ptr⟩
def adF (X:SD.D JT)(K:uN R):=wZ (λy0 y1=>ke 0 K JT ((u y0 X.1),(u y1 X.2.1),X.2.2)) (λy0 y1 y2=>kr K JT ((u y0 X.1),(w y1 (u y2) X.2.1),X.2.2)) X.2.1.2.1
def agx:kZ:=(kZ.nil.add 6 (yR OB adG (λX=>(q2 X,X.2.1.2.2.1)))).add 2 (yR JT adF (λX=>(X.1.1,X.2.1.1)))
theorem ahl:xV E aaN.g ahJ agx (cJ f100 1):=lk OB adG (λX=>(q2 X,X.2.1.2.2.1)) λX x=>((z2 (u x.1) X.1),(z2 (u x.2) X.2.1),X.2.2)
theorem ahk:xV E aaN.g ahJ agx (cJ f100 0):=lk JT adF (λX=>(X.1.1,X.2.1.1)) λX x=>((u x.1 X.1),(u x.2 X.2.1),X.2.2)
theorem anY:DR 100 am3:=gE.pq (oU (Γ:=aaN.g) (an:=ahJ) (Λ:=agx) (aaN.s) func100 (by kernel_rfl) (ao (cF ahk (cF ahl nF)))) (λx a=>by kernel_rfl)
def ajP:=aaN.add anY
def akU:=ajP.q0 {} func179 [pf cU] [(true,(.pair (.int .i64) Y1))] (c1 CX)
abbrev Un:SD:=⟨cB (iS dG)::B::B::.ptr 3 0::DI::DI::bs 14 [],Z::Z::Z::(pD (cD yO Y1))::zs 16 [],.none⟩
def aeh:=akU.q1 {mask:=mk [(2,[0,3,4,5])]} func181 [pd (.sl dG),pf pG] [rI] (c2 qI) Un (λX K=>mD (λy0=>ke 0 K Un ((z2 (u y0) X.1),X.2)) (λy0 y1=>kr K Un ((z1 (w y0 (u y1)) X.1),X.2)) X.1.1 X.1.2.1 X.2.1.1) q2 (λX x=>((z2 (u x) X.1),X.2))
def am4:jb:=jf (.pair (.sl .wJ (.int .u8)) (.pair (.int .i64) (.int .i64))) [pd (.sl cU)] [(false,(.sl (.own none) dG))] λx a=>xF x a.1
def ajE:An:={mask:=mk [(3,[0,1,5,6])],mv:=[45,52],sb:=mg [(41,0)]}
abbrev OC:SD:=⟨.ptr 0 0::cB (iS cU)::B::B::B::cB (dh 61440 dG)::DI::bs 46 [],(some Y7)::zs 52 [],.ptr⟩
def adH (X:SD.D OC)(K:uN R):=wY (λy0 y1 y2=>ke 0 K OC ((z1 (w y0 (u y1)) X.1),(u y2 X.2.1),X.2.2)) X.1.1
def aiv:kZ:=kZ.nil.add 3 (yR OC adH (λX=>(X.1.2.1,q2 X,X.2.1.1)))
theorem ahm:xV E aeh.g ajE aiv (cJ f101 0):=lk OC adH (λX=>(X.1.2.1,q2 X,X.2.1.1)) λX x=>((z1 (w x.1 (u x.2.1)) X.1),(u x.2.2 X.2.1),X.2.2)
theorem anZ:DR 101 am4:=gE.pq (oU (Γ:=aeh.g) (an:=ajE) (Λ:=aiv) (aeh.s) func101 (by kernel_rfl) (ao (cF ahm nF))) (λx a=>by kernel_rfl)
def aee:=aeh.add anZ
def e39:jb:=jf (.pair (.sl .wJ (.int .u8)) (.pair (.int .i64) (.int .i64))) [pd (.sl Ab)] [(true,Y0)] λx a=>wb x a.1
def n39:An:={mask:=mk [(4,[0,1,4,5,6,7])],mv:=[30,38]}
abbrev WY:SD:=⟨.ptr 0 0::cB (iS Ab)::B::B::.ptr 4 0::.ptr 5 0::cB (dh 73728 cU)::DI::bs 31 [],(some Y7)::Z::Z::Z::(some Y6)::(pD (cD (dh 61441 .str) (cD (dh 61444 bC) (cD (cD Y1 (cD (ju (ju (ju (dh 61468 (.int .i64))))) (cD (dh 61471 hU) yO))) (cD (dh 61477 dI) (cD (dh 61480 hH) (cD (dh 61483 fA) (cD (dh 61486 .bool) (cD (ju (cD .bool (dh 61495 (.int .i64)))) (cD (cD (dh 61498 iK) (cD (dh 61501 fW) (cD .str (dh 61507 (.int .i64))))) (cD (dh 61510 dG) (cD .bool (cD (dh 61516 .str) (cD (dh 61519 (.int .i64)) (cD (dh 61522 (.int .i64)) (cD yO Y1))))))))))))))))::zs 33 [],.ptr⟩
def agk (X:SD.D WY)(K:uN R):=vh (λy0 y1=>ke 0 K WY ((z1 (w y0 (u y1)) X.1),X.2)) X.1.1 X.2.1.1 X.2.1.2.1 X.2.1.2.2.1
def L39:kZ:=kZ.nil.add 4 (yR WY agk (λX=>(X.1.2.1,q2 X)))
theorem ajw:xV E aee.g n39 L39 (cJ f39 0):=lk WY agk (λX=>(X.1.2.1,q2 X)) λX x=>((z1 (w x.1 (u x.2)) X.1),X.2)
theorem o39:DR 39 e39:=gE.pq (oU (Γ:=aee.g) (an:=n39) (Λ:=L39) (aee.s) func39 (by kernel_rfl) (ao (cF ajw nF))) (λx a=>by kernel_rfl)
def G39:=aee.add o39
def G9:=G39.q0 {mv:=[13]} func9 [pd (.sl (.int .u8))] [(true,Y0),(false,(.sl (.own none) Ab))] (c1 nb)
abbrev abC:SD:=⟨B::.ptr 1 0::DB::B::B::B::cB (iS .str)::DI::DI::bs 11 [],Z::(pD (iS .str))::zs 18 [],.none⟩
def G50:=G9.q1 {mask:=mk [(2,[1,2,6,7,8])]} func50 [pf (.sl .str)] [rB] (c1 rp) abC (λX K=>Aq (λy0=>ke 0 K abC ((z3 (u y0) X.1),X.2)) (λy0 y1=>kr K abC ((w y0 (z2 (u y1)) X.1),X.2)) X.1.1 X.1.2.1 (q2 X) X.2.1.1) q3 (λX x=>((z3 (u x) X.1),X.2))
def G54:=G50.q0 {merge:=mg [(1,6)]} func54 [pI,pI,pI] [rB] (c3 aD)
abbrev abJ:SD:=⟨B::DI::DI::B::B::B::DI::B::B::cB (iS bC)::DI::DI::bs 16 [],zs 28 [],.none⟩
def G65:=G54.q1 {mask:=mk [(2,[1,2,6,9,10,11])],merge:=mg [(4,25)]} func65 [pd (.sl bC),pI,pI] [rI] (c3 ki) abJ (λX K=>mx (λy0=>ke 0 K abJ ((z5 (u y0) X.1),X.2)) (λy0 y1=>kr K abJ ((z2 (w y0 (z2 (u y1))) X.1),X.2)) X.1.1 X.1.2.1 (q2 X) (q3 X) (q4 X)) q5 (λX x=>((z5 (u x) X.1),X.2))
abbrev abD:SD:=⟨cB (iS bC)::B::DB::B::B::cB (iS bC)::DI::DI::bs 34 [],zs 42 [],.none⟩
def G51:=G65.q1 {mask:=mk [(2,[0,2,5,6,7])],merge:=mg [(4,37)]} func51 [pd (.sl bC)] [rB] (c1 nZ) abD (λX K=>nz (λy0=>ke 0 K abD ((z4 (u y0) X.1),X.2)) (λy0 y1=>kr K abD ((z1 (w y0 (z2 (u y1))) X.1),X.2)) X.1.1 X.1.2.1 (q2 X) (q3 X)) q4 (λX x=>((z4 (u x) X.1),X.2))
abbrev abG:SD:=⟨B::.ptr 1 0::DB::cB (dh 36864 .bool)::bs 22 (cB (iS (.int .i64))::DI::DI::bs 19 []),Z::(some Y13)::zs 46 [],.none⟩
def G56:=G51.q1 {mask:=mk [(5,[1,2,3,26,27,28])],merge:=mg [(1,21),(7,43)]} func56 [pf hH] [rB] (c1 iy) abG (λX K=>tM (λy0 y1=>ke 0 K abG ((z1 (w y0 (z2 (u y1))) X.1),X.2)) (λy0 y1 y2=>kr K abG ((w y0 (w y1 (z2 (u y2))) X.1),X.2)) X.1.1 (q2 X) (q3 X) X.2.1.1) (λX=>(X.1.2.1,q4 X)) (λX x=>((z1 (w x.1 (z2 (u x.2))) X.1),X.2))
def ak9:=G56.q0 {merge:=mg [(1,2)]} func203 [pI] [rB] (c1 rA)
def akJ:=ak9.q0 {} func163 [pI,pI] [rI] (c2 iz)
def ala:=akJ.q0 {} func204 [pf sO] [rI] (c1 iX)
def ajZ:=ala.q0 {merge:=mg [(1,2)]} func113 [pf sO] [rB] (c1 jj)
def G49:=ajZ.q0 {} func49 [pd (.sl (.int .i64))] [(false,(.sl (.own none) (.int .i64)))] (c1 eT)
def ajS:=G49.q0 {mv:=[7]} func105 [pf hH] [(true,Y8)] (c1 ia)
def aj3:=ajS.q0 {merge:=mg [(3,21)],mv:=[10,24]} func117 [pf hH,pd (.sl (.int .i64))] [(true,Y8),rB] (c2 fM)
abbrev abE:SD:=⟨B::.ptr 1 0::DB::DI::cB (dh 49152 (.int .i64))::bs 25 (cB (iS hU)::DI::DI::bs 35 []),Z::(some Y24)::zs 66 [],.none⟩
def G52:=aj3.q1 {mask:=mk [(6,[1,2,3,4,30,31,32])],merge:=mg [(1,24),(8,50)],mv:=[55]} func52 [pf ko] [rB] (c1 yb) abE (λX K=>tR (λy0 y1 y2=>ke 0 K abE ((z1 (w y0 (w y1 (z2 (u y2)))) X.1),X.2)) (λy0 y1 y2 y3=>kr K abE ((w y0 (w y1 (w y2 (z2 (u y3)))) X.1),X.2)) X.1.1 (q3 X) (q4 X) X.2.1.1) (λX=>(X.1.2.1,q2 X,q5 X)) (λX x=>((z1 (w x.1 (w x.2.1 (z2 (u x.2.2)))) X.1),X.2))
abbrev abF:SD:=⟨B::.ptr 1 0::DB::B::B::B::cB (iS (.int .i64))::DI::DI::bs 31 [],Z::(some Y25)::zs 38 [],.none⟩
def G53:=G52.q1 {mask:=mk [(2,[1,2,6,7,8])],merge:=mg [(4,29),(7,2)]} func53 [pf vo] [rB] (c1 rm) abF (λX K=>qh (λy0=>ke 0 K abF ((z3 (u y0) X.1),X.2)) (λy0 y1=>kr K abF ((w y0 (z2 (u y1)) X.1),X.2)) X.1.1 X.1.2.1 (q2 X) X.2.1.1) q3 (λX x=>((z3 (u x) X.1),X.2))
def aj4:=G53.q0 {merge:=mg [(1,2)]} func118 [pf gQ] [rB] (c1 nC)
def alg:=aj4.q0 {merge:=mg [(1,18),(5,2),(7,2)]} func210 [pf Ac] [rB] (c1 pP)
def alh:=alg.q0 {merge:=mg [(1,2)]} func211 [pI] [rB] (c1 pT)
def aj5:=alh.q0 {merge:=mg [(1,2)]} func119 [pf cU] [rB] (c1 gi)
def G55:=aj5.q0 {merge:=mg [(1,42),(5,2)]} func55 [pf dI] [rB] (c1 uR)
def aj6:=G55.q0 {merge:=mg [(1,2)]} func120 [pf fA] [rB] (c1 As)
def G57:=aj6.q0 {merge:=mg [(1,24),(3,2)]} func57 [pf fA] [rB] (c1 lR)
def ali:=G57.q0 {merge:=mg [(1,33),(3,54),(5,2)]} func212 [pf iK] [rB] (c1 zn)
abbrev Ub:SD:=⟨cB (iS iK)::B::DB::B::B::cB (iS iK)::DI::DI::bs 10 [],zs 18 [],.none⟩
def aj7:=ali.q1 {mask:=mk [(2,[0,2,5,6,7])]} func121 [pd (.sl iK)] [rB] (c1 xv) Ub (λX K=>BR (λy0=>ke 0 K Ub ((z4 (u y0) X.1),X.2)) (λy0 y1=>kr K Ub ((z1 (w y0 (z2 (u y1))) X.1),X.2)) X.1.1 X.1.2.1 (q2 X) (q3 X)) q4 (λX x=>((z4 (u x) X.1),X.2))
abbrev Ur:SD:=⟨B::B::B::.ptr 3 0::DI::B::B::B::cB (iS fW)::DI::DI::bs 15 [],Z::Z::Z::(pD (cD yO Y1))::zs 22 [],.none⟩
def alj:=aj7.q1 {mask:=mk [(2,[3,4,8,9,10])],merge:=mg [(4,23)]} func213 [pf (.sl fW),pf pG] [rI] (c2 wu) Ur (λX K=>tX (λy0=>ke 0 K Ur ((z3 (u y0) X.1),X.2)) (λy0 y1=>kr K Ur ((w y0 (z2 (u y1)) X.1),X.2)) X.1.1 X.1.2.1 (q2 X) X.2.1.1) q3 (λX x=>((z3 (u x) X.1),X.2))
abbrev abo:SD:=⟨B::B::B::DI::bs 12 (cB (dh 196608 (.int .i64))::DI::DI::bs 10 []),zs 29 [],.none⟩
def al2:=alj.q1 {mask:=mk [(3,[3,16,17,18])]} func268 [pf pG] [rI] (c1 vA) abo (λX K=>mN (λy0 y1=>ke 0 K abo ((w y0 (z2 (u y1)) X.1),X.2)) X.1.2.1 (q2 X)) (λX=>(X.1.1,q3 X)) (λX x=>((w x.1 (z2 (u x.2)) X.1),X.2))
abbrev abk:SD:=⟨B::.ptr 1 0::B::cB (dh 36864 (.int .i64))::DI::bs 14 [],Z::(pD (cD yO Y1))::zs 17 [],.none⟩
def agt:=al2.q1 {mask:=mk [(3,[1,3,4])],mv:=[10,18]} func214 [pf pG] [(false,(.sl (.own none) (.int .i64)))] (c1 Bh) abk (λX K=>rD (λy0 y1=>ke 0 K abk ((w y0 (u y1) X.1),X.2)) X.2.1.1) (λX=>(X.1.1,X.1.2.1)) (λX x=>((w x.1 (u x.2) X.1),X.2))
def ahK:An:={mask:=mk [(4,[1,2,12,13,14]),(14,[1,2,3,12,13,14,49,50,51])],merge:=mg [(6,28),(9,40)]}
abbrev Fw:SD:=⟨B::.ptr 1 0::DB::DI::bs 8 (cB (iS fW)::DI::DI::bs 34 (cB (dh 602112 (.int .i64))::DI::DI::bs 15 [])),Z::(pD (iS fW))::zs 65 [],.none⟩
def XN (X:SD.D Fw)(K:uN R):=kf (λy0=>ke 2 K Fw ((z7 (u y0) X.1),X.2)) (λy0 y1=>kr K Fw ((w y0 (z6 (u y1)) X.1),X.2)) X.1.1 X.1.2.1 (q2 X) (q3 X) (q4 X) (q5 X) (q6 X) X.2.1.1
abbrev JU:SD:=⟨B::.ptr 1 0::DB::bs 9 (cB (iS fW)::DI::DI::bs 52 []),Z::(pD (iS fW))::zs 65 [],.none⟩
def adK (X:SD.D JU)(K:uN R):=sf (λy0=>ke 0 K JU ((z3 (u y0) X.1),X.2)) (λy0 y1=>kr K JU ((w y0 (z2 (u y1)) X.1),X.2)) X.1.1 X.1.2.1 (q2 X) X.2.1.1
def aiw:kZ:=(kZ.nil.add 14 (yR Fw XN q7)).add 4 (yR JU adK q3)
theorem ae0:xV E agt.g ahK aiw (cJ f122 1):=lk Fw XN q7 λX x=>((z7 (u x) X.1),X.2)
theorem ahp:xV E agt.g ahK aiw (cJ f122 0):=lk JU adK q3 λX x=>((z3 (u x) X.1),X.2)
def aj8:=agt.qk ahK func122 [pf (.sl fW)] [rB] (c1 qu) (cF ahp (cF ae0 nF))
def alk:=aj8.q0 {merge:=mg [(1,2)]} func215 [pI] [rB] (c1 CG)
abbrev Uc:SD:=⟨B::DI::B::B::DB::bs 19 (cB (iS (.int .i64))::DI::DI::bs 9 []),zs 36 [],.none⟩
def agr:=alk.q1 {mask:=mk [(4,[1,4,24,25,26])],merge:=mg [(1,22)]} func123 [pf Dc,pI] [rB] (c2 vH) Uc (λX K=>Ar (λy0=>ke 0 K Uc ((z4 (u y0) X.1),X.2)) (λy0 y1=>kr K Uc ((z1 (w y0 (z2 (u y1))) X.1),X.2)) X.1.1 X.1.2.1 (q2 X) (q3 X)) q4 (λX x=>((z4 (u x) X.1),X.2))
def n58:An:={mask:=mk [(4,[1,2,4,27,28,29]),(10,[1,4,45,46,47])],merge:=mg [(1,25),(6,41),(12,59)]}
abbrev QV:SD:=⟨B::DI::.ptr 2 0::B::DB::bs 22 (cB (iS iK)::DI::DI::bs 31 []),Z::Z::(some Y17)::zs 58 [],.none⟩
def agl (X:SD.D QV)(K:uN R):=nE (λy0=>ke 0 K QV ((z4 (u y0) X.1),X.2)) (λy0 y1=>kr K QV ((z1 (w y0 (z2 (u y1))) X.1),X.2)) X.1.1 X.1.2.1 (q2 X) (q3 X) X.2.1.1
abbrev JZ:SD:=⟨B::DI::B::B::DB::bs 40 (cB (iS fW)::DI::DI::bs 13 []),zs 61 [],.none⟩
def ad0 (X:SD.D JZ)(K:uN R):=mn (λy0=>ke 2 K JZ ((z4 (u y0) X.1),X.2)) (λy0 y1=>kr K JZ ((z1 (w y0 (z2 (u y1))) X.1),X.2)) X.1.1 X.1.2.1 (q2 X) (q3 X)
def L58:kZ:=(kZ.nil.add 4 (yR QV agl q4)).add 10 (yR JZ ad0 q4)
theorem ajx:xV E agr.g n58 L58 (cJ f58 0):=lk QV agl q4 λX x=>((z4 (u x) X.1),X.2)
theorem ahF:xV E agr.g n58 L58 (cJ f58 1):=lk JZ ad0 q4 λX x=>((z4 (u x) X.1),X.2)
def G58:=agr.qk n58 func58 [pf oD,pI] [rB] (c2 oc) (cF ajx (cF ahF nF))
def n14:An:={mask:=mk [(5,[1,2,3,61,62]),(12,[1,2,3,103,104,105])],merge:=mg [(2,58),(7,89)]}
abbrev QU:SD:=⟨B::.ptr 1 0::DB::DI::bs 57 (DI::DI::bs 54 []),Z::(some Y4)::zs 115 [],.none⟩
def agh (X:SD.D QU)(K:uN R):=tI (λy0=>ke 0 K QU ((z3 (u y0) X.1),X.2)) (λy0 y1=>kr K QU ((w y0 (z2 (u y1)) X.1),X.2)) X.1.1 X.1.2.1 (q2 X) X.2.1.1
abbrev JV:SD:=⟨B::.ptr 1 0::DB::DI::bs 99 (cB (dh 1265664 (.int .i64))::DI::DI::bs 11 []),Z::(some Y4)::zs 115 [],.none⟩
def adL (X:SD.D JV)(K:uN R):=rZ (λy0=>ke 2 K JV ((z4 (u y0) X.1),X.2)) (λy0 y1=>kr K JV ((w y0 (z3 (u y1)) X.1),X.2)) X.1.1 X.1.2.1 (q2 X) (q3 X) X.2.1.1
def L14:kZ:=(kZ.nil.add 5 (yR QU agh q3)).add 12 (yR JV adL q4)
theorem ajt:xV E G58.g n14 L14 (cJ f14 0):=lk QU agh q3 λX x=>((z3 (u x) X.1),X.2)
theorem ahq:xV E G58.g n14 L14 (cJ f14 1):=lk JV adL q4 λX x=>((z4 (u x) X.1),X.2)
def G14:=G58.qk n14 func14 [pf dC] [rB] (c1 ix) (cF ajt (cF ahq nF))
def ajW:=G14.q0 {} func109 [pd (.sl .str)] [(false,(.sl (.own none) .str))] (c1 kh)
def G59:=ajW.q0 {} func59 [pf (.sl .str)] [(true,(.sl (.own none) .str))] (c1 cC)
def ajQ:=G59.q0 {} func103 [pd (.sl bC)] [(false,(.sl (.own none) bC))] (c1 tT)
abbrev abg:SD:=⟨B::B::B::cB (dh 36864 hU)::B::B::B::cB (iS hU)::DI::DI::bs 16 [],zs 26 [],.none⟩
def ak2:=ajQ.q1 {mask:=mk [(3,[3,7,8,9])],mv:=[13,25]} func196 [pd (.sl hU)] [(false,(.sl (.own none) hU))] (c1 rz) abg (λX K=>qA (λy0 y1=>ke 0 K abg ((w y0 (z2 (u y1)) X.1),X.2)) X.1.2.1 (q2 X)) (λX=>(X.1.1,q3 X)) (λX x=>((w x.1 (z2 (u x.2)) X.1),X.2))
def ajR:=ak2.q0 {sb:=mg [(2,2)]} func104 [pf ko] [(true,Y16)] (c1 pQ)
def ajT:=ajR.q0 {mv:=[7]} func106 [pf vo] [(true,Y23)] (c1 si)
def ak3:=ajT.q0 {} func197 [pf (.sl fW)] [(true,(.sl (.own none) fW))] (c1 tU)
def ak4:=ak3.q0 {sb:=mg [(2,2)]} func198 [pf Dc] [(true,(.pair .str (.sl (.own none) (.int .i64))))] (c1 sj)
def ajU:=ak4.q0 {sb:=mg [(2,2)]} func107 [pf oD] [(true,Y18)] (c1 pk)
def ajV:=ajU.q0 {} func108 [pd (.sl dG)] [(false,(.sl (.own none) dG))] (c1 kg)
abbrev afS:SD:=⟨B::.ptr 1 0::.ptr 2 0::.ptr 3 0::bs 23 (cB (iS hH)::DI::DI::bs 46 []),Z::(some Y4)::(some Y2)::(pD (cD (dh 36865 .str) (cD (dh 36868 bC) (cD (cD Y1 (cD (ju (ju (ju (dh 36892 (.int .i64))))) (cD (dh 36895 hU) yO))) (cD (dh 36901 dI) (cD (dh 36904 hH) (cD (iS fA) (cD (iS .bool) (cD Y25 (cD Y17 (cD (iS dG) (cD .bool (cD (iS .str) (cD (iS (.int .i64)) (cD (iS (.int .i64)) (cD yO Y1))))))))))))))))::zs 72 [],.none⟩
def G41:=ajV.q1 {mask:=mk [(8,[1,2,3,27,28,29])],mv:=[34,75],mb:=mg [(34,3)],sb:=mg [(39,3)]} func41 [pf dC] [(true,Y0)] (c1 gH) afS (λX K=>qz (λy0 y1=>ke 0 K afS ((z2 (u y0) X.1),(z2 (u y1) X.2.1),X.2.2)) X.1.1 X.1.2.1 X.2.1.1 X.2.1.2.1) (λX=>(q2 X,X.2.1.2.2.1)) (λX x=>((z2 (u x.1) X.1),(z2 (u x.2) X.2.1),X.2.2))
def alb:=G41.q0 {merge:=mg [(1,2)]} func205 [pf nr] [rB] (c1 wj)
def alc:=alb.q0 {} func206 [pI] [rS] (c1 bX)
def ald:=alc.q0 {} func207 [pI] [rS] (c1 fX)
def aj0:=ald.q0 {} func114 [pf nr] [rS] (c1 kX)
def aj1:=aj0.q0 {merge:=mg [(1,15)]} func115 [pf hH,pI] [rI] (c2 fL)
def akL:=aj1.q0 {} func166 [pf sO] [rI] (c1 ru)
def al0:=akL.q0 {merge:=mg [(4,29)]} func266 [pd (.sl bC),pI,pI,pd .bool] [rI] (c4 Bg)
def al1:=al0.q0 {merge:=mg [(2,6)]} func267 [pf (.sl .str),pI,pI] [rB] (c3 sW)
abbrev Uq:SD:=⟨cB (iS bC)::B::DI::DI::DI::DB::B::.ptr 7 0::bs 4 (cB (dh 147456 iD)::DB::cB (dh 172032 iD)::bs 60 []),zs 7 ((pD (iS .str))::zs 67 []),.none⟩
def ak7:=al1.q1 {mask:=mk [(8,[0,2,3,4,5,7,12,13,14])],merge:=mg [(1,29),(11,55),(16,73)],mv:=[56,74]} func201 [pd (.sl bC),pf (.sl .str),pI,pI,pI,pd .bool] [(false,(.sl (.own none) iD)),rB] (c6 wq) Uq (λX K=>pR (λy0 y1 y2=>ke 0 K Uq ((z2 (w y0 (w y1 (z3 (u y2)))) X.1),X.2)) (λy0 y1 y2 y3 y4=>kr K Uq ((z2 (w y0 (w y1 (z1 (w y2 (w y3 (u y4)))))) X.1),X.2)) X.1.1 X.1.2.1 (q4 X) (q5 X) (q6 X) X.2.1.1) (λX=>(q2 X,q3 X,q7 X)) (λX x=>((z2 (w x.1 (w x.2.1 (z3 (u x.2.2)))) X.1),X.2))
abbrev abi:SD:=⟨B::DI::cB .str::B::B::B::.ptr 6 0::B::.ptr 8 0::bs 41 [],zs 6 ((pD (dh 73729 .str))::Z::(pD (dh 98305 .str))::zs 41 []),.none⟩
def ak8:=ak7.q1 {mask:=mk [(4,[1,2,6,8])],nest:=[33],mv:=[19,49]} func202 [pf (.sl .str),pI,pd .str] [(true,(.sl (.own none) .str)),rB] (c3 qx) abi (λX K=>mw (λy0 y1 y2=>ke 0 K abi ((w y0 (u y1) X.1),(z1 (u y2) X.2.1),X.2.2)) X.2.1.1) (λX=>(X.1.1,X.1.2.1,X.2.1.2.1)) (λX x=>((w x.1 (u x.2.1) X.1),(z1 (u x.2.2) X.2.1),X.2.2))
abbrev abb:SD:=⟨bs 4 (cB .str::bs 7 (.ptr 12 0::B::.ptr 14 0::bs 20 (cB (.sl .loc iD)::DI::DI::bs 20 []))),zs 12 ((pD (dh 147457 .str))::Z::(pD (dh 172033 .str))::zs 43 []),.none⟩
def ajY:=ak8.q1 {mask:=mk [(6,[4,12,14,35,36,37])],mv:=[34,41,50,57],sb:=mg [(14,14)]} func112 [pd (.sl bC),pf (.sl .str),pI,pI,pd .str,pd .bool] [(true,(.sl (.own none) .str)),rB] (c6 CF) abb (λX K=>wo (λy0 y1 y2=>ke 0 K abb ((w y0 (z2 (u y1)) X.1),(z1 (u y2) X.2.1),X.2.2)) X.1.2.1 (q2 X) X.2.1.1) (λX=>(X.1.1,q3 X,X.2.1.2.1)) (λX x=>((w x.1 (z2 (u x.2.1)) X.1),(z1 (u x.2.2) X.2.1),X.2.2))
def ale:=ajY.q0 {} func208 [pd (.sl bC),pf (.sl .str),pI,pI,pd .str] [(true,(.sl (.own none) .str)),rB] (c5 oJ)
def alf:=ale.q0 {merge:=mg [(1,11)]} func209 [pf sO,pI] [rI] (c2 mP)
def aj2:=alf.q0 {merge:=mg [(1,22)],mv:=[26,36,40,50],mb:=mg [(40,13),(50,13)],sb:=mg [(10,10),(11,11),(13,13)]} func116 [pd (.sl bC),pf (.sl .str),pI,pf sO,pd .str] [(true,(.sl (.own none) .str)),(true,Y1),rB] (c5 tO)
abbrev afU:SD:=⟨cB (iS bC)::B::DI::bs 5 (.ptr 8 0::.ptr 9 0::.ptr 10 0::.ptr 11 0::.ptr 12 0::B::.ptr 14 0::.ptr 15 0::DI::bs 22 (cB (iS (.int .i64))::DI::DI::bs 38 [])),zs 8 ((some Y1)::(some Y13)::(pD (dh 122881 .str))::(some Y1)::(some Y27)::Z::(pD (dh 172033 .str))::(some Y26)::zs 64 []),.none⟩
def G48:=aj2.q1 {mask:=mk [(6,[0,2,8,9,10,11,12,14,15,16,39,40,41])],merge:=mg [(2,34)],mv:=[35,37,53,65,76,78],mb:=mg [(35,14),(37,15),(65,20),(76,14),(78,15)],sb:=mg [(8,8),(10,10),(11,11),(12,12),(14,14),(15,15)]} func48 [pd (.sl bC),pf (.sl .str),pI,pf sO,pf hH] [(true,(.sl (.own none) .str)),(true,Y1),(true,Y8),rI] (c5 hZ) afU (λX K=>mK (λy0 y1 y2 y3=>ke 0 K afU ((z2 (w y0 (z2 (u y1))) X.1),(w y2 (z4 (u y3)) X.2.1),X.2.2)) X.1.1 X.1.2.1 (q3 X) (q4 X) X.2.1.2.1 X.2.1.2.2.1 X.2.1.2.2.2.1 X.2.1.2.2.2.2.1 X.2.1.2.2.2.2.2.2.1) (λX=>(q2 X,q5 X,X.2.1.1,X.2.1.2.2.2.2.2.1)) (λX x=>((z2 (w x.1 (z2 (u x.2.1))) X.1),(w x.2.2.1 (z4 (u x.2.2.2)) X.2.1),X.2.2))
abbrev abn:SD:=⟨B::DI::DI::.ptr 3 0::bs 4 (cB (dh 98304 (.int .u8))::bs 41 []),Z::Z::Z::(pD (iS .str))::zs 46 [],.none⟩
def alZ:=G48.q1 {mask:=mk [(4,[1,2,3,8])],mv:=[41]} func265 [pf (.sl .str),pI,pI] [rS,rB] (c3 oa) abn (λX K=>kv (λy0 y1=>ke 0 K abn ((w y0 (z1 (u y1)) X.1),X.2)) X.1.2.1 X.2.1.1) (λX=>(X.1.1,q2 X)) (λX x=>((w x.1 (z1 (u x.2)) X.1),X.2))
abbrev abh:SD:=⟨bs 6 (.ptr 6 0::bs 7 (cB .str::bs 15 (cB (.sl .loc iD)::DI::DI::bs 17 []))),zs 6 ((pD (iS .str))::zs 43 []),.none⟩
def ak5:=alZ.q1 {mask:=mk [(6,[6,14,30,31,32])]} func199 [pd (.sl bC),pf (.sl .str),pI,pI,pI] [rS,rB] (c5 nv) abh (λX K=>rX (λy0 y1=>ke 0 K abh ((w y0 (z2 (u y1)) X.1),X.2)) X.1.2.1 (q2 X) X.2.1.1) (λX=>(X.1.1,q3 X)) (λX x=>((w x.1 (z2 (u x.2)) X.1),X.2))
def alv:=ak5.q0 {} func224 [pf gQ] [rI] (c1 mS)
def al9:=alv.q0 {merge:=mg [(1,13)]} func277 [pd .str,pI] [rI] (c2 eX)
def ama:=al9.q0 {merge:=mg [(1,13)]} func278 [pd .str,pI] [rI] (c2 ij)
def alw:=ama.q0 {} func225 [pd .str] [(true,(.pair (.int .i64) Y1)),rI,rB] (c1 kG)
def alx:=alw.q0 {} func226 [pf gQ] [rI] (c1 tV)
def akr:=alx.q0 {merge:=mg [(7,46)],sb:=mg [(8,8),(9,9)]} func143 [pd (.sl bC),pf (.sl .str),pI,pf gQ] [(true,(.pair (.int .i64) Y1)),(true,Y19),rB] (c4 mm)
def ame:=akr.q0 {merge:=mg [(1,2)]} func282 [pf aaS] [rB] (c1 yz)
def alG:=ame.q0 {merge:=mg [(4,33)],sb:=mg [(4,4)]} func236 [pd .str] [(true,Y14),rB] (c1 rq)
def alO:=alG.q0 {merge:=mg [(1,17)]} func244 [pd .str,pI,pd .str] [rS] (c3 fG)
def amW:=alO.q0 {merge:=mg [(1,12)]} func335 [pI,pI] [rI] (c2 xp)
abbrev abA:SD:=⟨cB .str::B::B::DI::DI::bs 28 [],zs 33 [],.none⟩
def amP:=amW.q1 {mask:=mk [(3,[0,3,4])]} func326 [pd .str] [rI] (c1 vI) abA (λX K=>qt (λy0 y1=>ke 0 K abA ((z1 (w y0 (u y1)) X.1),X.2)) X.1.1) (λX=>(X.1.2.1,q2 X)) (λX x=>((z1 (w x.1 (u x.2)) X.1),X.2))
def amA:=amP.q0 {} func309 [pd .str] [rI] (c1 iW)
def amR:=amA.q0 {merge:=mg [(1,2)]} func328 [pf TIp] [rB] (c1 Hk)
def amE:=amR.q0 {} func313 [pf TIp] [rS,rB] (c1 vD)
def amf:=amE.q0 {} func283 [pf TIp] [rS,rB] (c1 tD)
def alH:=amf.q0 {merge:=mg [(2,22),(6,56)],sb:=mg [(5,5)]} func237 [pd .str] [(true,Y20),rB] (c1 xu)
def amk:=alH.q0 {} func288 [pI] [rI] (c1 fj)
def amz:=amk.q0 {merge:=mg [(1,27)]} func308 [pI,pI,pI,pI] [rS,rB] (c4 pg)
def amF:=amz.q0 {} func314 [pf Ac] [rS] (c1 qy)
def amg:=amF.q0 {merge:=mg [(8,39)]} func284 [pI,pI,pf Ac] [rS,rB] (c3 jl)
def alI:=amg.q0 {merge:=mg [(3,20),(9,44),(12,68)]} func238 [pI,pI,pI,pd .str] [(true,(.pair (.int .i64) Y20)),rB] (c4 pe)
def akA:=alI.q0 {merge:=mg [(2,20)]} func154 [pd .str] [(true,Y3),rI] (c1 ik)
abbrev Uj:SD:=⟨B::B::B::.ptr 3 0::DI::B::B::cB (iS dG)::DI::DI::bs 10 [],Z::Z::Z::(pD (cD yO Y1))::zs 16 [],.none⟩
def aks:=akA.q1 {mask:=mk [(2,[3,4,7,8,9])]} func144 [pd (.sl dG),pf pG] [rI] (c2 qs) Uj (λX K=>mq (λy0=>ke 0 K Uj ((z3 (u y0) X.1),X.2)) (λy0 y1=>kr K Uj ((w y0 (z2 (u y1)) X.1),X.2)) X.1.1 X.1.2.1 (q2 X) X.2.1.1) q3 (λX x=>((z3 (u x) X.1),X.2))
def akE:=aks.q0 {} func158 [pf cU] [(true,(.pair (.int .i64) Y1))] (c1 sV)
def ak6:=akE.q0 {merge:=mg [(17,82)],mv:=[16,31,51,58,67,83,132],er:=mg [(115,5)]} func200 [pd (.sl dG),pf cU] [(false,(.sl (.own none) dG))] (c2 xq)
abbrev aa9:SD:=⟨cB (iS bC)::B::DI::B::B::B::DI::B::B::B::.ptr 10 0::B::B::B::.ptr 14 0::.ptr 15 0::.ptr 16 0::B::B::.ptr 19 0::.ptr 20 0::cB (dh 258048 dG)::DI::bs 99 [],zs 10 ((some Y9)::Z::Z::Z::(pD (dh 172033 .str))::(some Y9)::(pD (ju (ju (ju (dh 196618 (.int .i64))))))::Z::Z::(pD (dh 233473 .str))::(pD (ju (ju (ju (dh 245770 (.int .i64))))))::zs 101 []),.none⟩
def aij:=ak6.q1 {mask:=mk [(5,[0,2,6,10,14,15,16,19,20,21,22])],merge:=mg [(2,48)],mv:=[49,51,52,96,104,117,119,120],mb:=mg [(49,19),(51,20),(117,19),(119,20)],sb:=mg [(14,14),(15,15),(16,16),(19,19),(20,20)]} func110 [pd (.sl bC),pf (.sl .str),pI,pf dI,pf hH,pd (.sl dG),pI] [(true,(.sl (.own none) .str)),(true,Y9),(true,Y8),(false,(.sl (.own none) dG)),rI] (c7 tL) aa9 (λX K=>ly (λy0 y1 y2 y3=>ke 0 K aa9 ((z3 (w y0 (u y1)) X.1),(w y2 (z4 (u y3)) X.2.1),X.2.2)) X.1.1 X.1.2.1 (q2 X) X.2.1.2.1 X.2.1.2.2.1 X.2.1.2.2.2.1 X.2.1.2.2.2.2.1) (λX=>(q3 X,q4 X,X.2.1.1,X.2.1.2.2.2.2.2.1)) (λX x=>((z3 (w x.1 (u x.2.1)) X.1),(w x.2.2.1 (z4 (u x.2.2.2)) X.2.1),X.2.2))
def e42:jb:=jf (.pair (.sl (.own none) .str) (.pair (.sl (.own none) bC) (.pair (.pair (.pair (.int .i64) (.pair (.int .i64) (.pair (.int .i64) (.int .i64)))) (.pair (.pair (.int .i64) (.pair (.int .i64) (.pair (.int .i64) (.sl (.own none) (.int .i64))))) (.pair (.sl (.own none) hU) (.int .i64)))) (.pair (.sl (.own none) dI) (.pair (.sl (.own none) hH) (.pair (.sl (.own none) fA) (.pair (.sl (.own none) .bool) (.pair (.pair (.int .i64) (.pair .bool (.sl (.own none) (.int .i64)))) (.pair (.pair (.sl (.own none) iK) (.pair (.sl (.own none) fW) (.pair .str (.sl (.own none) (.int .i64))))) (.pair (.sl (.own none) dG) (.pair .bool (.pair (.sl (.own none) .str) (.pair (.sl (.own none) (.int .i64)) (.pair (.sl (.own none) (.int .i64)) (.pair (.int .i64) (.pair (.int .i64) (.pair (.int .i64) (.pair (.int .i64) (.int .i64))))))))))))))))))) [pI,pI] [rI] λx a=>jX x a.1 a.2.1
theorem o42:DR 42 e42:=gE.pq (oU (an:={mv:=[8,49,51,52],sb:=mg [(55,0),(59,0)],fm:=[19,20],eb:=mg [(56,0),(57,0)]}) (Λ:=kZ.nil) (aij.s) func42 (by kernel_rfl) (ao nF)) (λx a=>by kernel_rfl)
def G42:=aij.add o42
abbrev aba:SD:=⟨B::B::DI::B::B::B::.ptr 6 0::B::.ptr 8 0::DI::bs 20 [],zs 6 ((some Y29)::Z::(some Y28)::zs 21 []),.none⟩
def ajX:=G42.q1 {mask:=mk [(5,[2,6,8,9])],mv:=[24,29]} func111 [pI,pI,pI] [(true,Y8),rB] (c3 tK) aba (λX K=>sa (λy0 y1=>ke 0 K aba ((z1 (u y0) X.1),(z1 (u y1) X.2.1),X.2.2)) X.1.1 X.2.1.1) (λX=>(X.1.2.1,X.2.1.2.1)) (λX x=>((z1 (u x.1) X.1),(z1 (u x.2) X.2.1),X.2.2))
def G43:=ajX.q0 {mv:=[3,8]} func43 [] [(true,Y16)] (λa=>Bf)
def G44:=G43.q0 {} func44 [pd (.sl bC),pf (.sl .str),pI,pI,pd .str] [(true,(.sl (.own none) .str)),rB] (c5 ji)
def G45:=G44.q0 {} func45 [pI] [rI] (c1 pS)
abbrev afT:SD:=⟨cB (.int .u8)::bs 4 (cB (dh 61440 (.int .u8))::bs 4 (DI::DI::bs 9 [])),zs 21 [],.none⟩
def G46:=G45.q1 {mask:=mk [(3,[0,5,10,11])]} func46 [pd (.int .u8),pI] [rS] (c2 ns) afT (λX K=>tW (λy0 y1=>ke 0 K afT ((z1 (w y0 (z1 (u y1))) X.1),X.2)) X.1.1 (q2 X)) (λX=>(X.1.2.1,q3 X)) (λX x=>((z1 (w x.1 (z1 (u x.2))) X.1),X.2))
def G47:=G46.q0 {mv:=[10,24],mb:=mg [(24,5)],sb:=mg [(2,2),(3,3)]} func47 [pI] [(true,Y9),(true,Y8)] (c1 uS)
def n11:An:={mask:=mk [(5,[2,3,21,22]),(10,[2,3,30,31,32]),(18,[2,3,54,55])],mv:=[18,37,88,98,121,142],sb:=mg [(90,3)]}
abbrev WV:SD:=⟨B::B::.ptr 2 0::.ptr 3 0::bs 17 (DI::DI::bs 120 []),Z::Z::(some Y2)::(some Y5)::zs 139 [],.none⟩
def agf (X:SD.D WV)(K:uN R):=pa (λy0 y1=>ke 0 K WV ((z1 (u y0) X.1),(z1 (u y1) X.2.1),X.2.2)) X.1.1 X.2.1.1
abbrev OD:SD:=⟨B::B::.ptr 2 0::.ptr 3 0::bs 26 (cB (.sl .loc hU)::DI::DI::bs 110 []),Z::Z::(some Y2)::(some Y5)::zs 139 [],.none⟩
def adI (X:SD.D OD)(K:uN R):=nw (λy0 y1=>ke 2 K OD ((z2 (u y0) X.1),(z1 (u y1) X.2.1),X.2.2)) X.1.1 X.1.2.1 X.2.1.1
abbrev OE:SD:=⟨B::B::.ptr 2 0::.ptr 3 0::bs 50 (DI::DI::bs 87 []),Z::Z::(some Y2)::(some Y5)::zs 139 [],.none⟩
def adJ (X:SD.D OE)(K:uN R):=ku (λy0 y1=>ke 4 K OE ((z1 (u y0) X.1),(z1 (u y1) X.2.1),X.2.2)) X.1.1 X.2.1.1
def L11:kZ:=((kZ.nil.add 5 (yR WV agf (λX=>(X.1.2.1,X.2.1.2.1)))).add 10 (yR OD adI (λX=>(q2 X,X.2.1.2.1)))).add 18 (yR OE adJ (λX=>(X.1.2.1,X.2.1.2.1)))
theorem ajs:xV E G47.g n11 L11 (cJ f11 0):=lk WV agf (λX=>(X.1.2.1,X.2.1.2.1)) λX x=>((z1 (u x.1) X.1),(z1 (u x.2) X.2.1),X.2.2)
theorem ahn:xV E G47.g n11 L11 (cJ f11 1):=lk OD adI (λX=>(q2 X,X.2.1.2.1)) λX x=>((z2 (u x.1) X.1),(z1 (u x.2) X.2.1),X.2.2)
theorem aho:xV E G47.g n11 L11 (cJ f11 2):=lk OE adJ (λX=>(X.1.2.1,X.2.1.2.1)) λX x=>((z1 (u x.1) X.1),(z1 (u x.2) X.2.1),X.2.2)
def G11:=G47.qk n11 func11 [pf dC] [(true,Y0)] (c1 pO) (cF ajs (cF ahn (cF aho nF)))
def ahS:An:={mask:=mk [(3,[0,3,4]),(7,[0,3,4,5])]}
abbrev OP:SD:=⟨cB .str::B::B::cB (.int .u32)::DI::DI::bs 28 [],zs 34 [],.none⟩
def adZ (X:SD.D OP)(K:uN R):=oI (λy0 y1=>ke 2 K OP ((z1 (w y0 (z1 (u y1))) X.1),X.2)) X.1.1 (q2 X)
abbrev OO:SD:=⟨cB .str::B::B::cB (.int .u32)::DI::bs 29 [],zs 34 [],.none⟩
def adY (X:SD.D OO)(K:uN R):=rl (λy0 y1=>ke 0 K OO ((z1 (w y0 (u y1)) X.1),X.2)) X.1.1
def aiF:kZ:=(kZ.nil.add 7 (yR OP adZ (λX=>(X.1.2.1,q3 X)))).add 3 (yR OO adY (λX=>(X.1.2.1,q2 X)))
theorem ahE:xV E G11.g ahS aiF (cJ f281 1):=lk OP adZ (λX=>(X.1.2.1,q3 X)) λX x=>((z1 (w x.1 (z1 (u x.2))) X.1),X.2)
theorem ahD:xV E G11.g ahS aiF (cJ f281 0):=lk OO adY (λX=>(X.1.2.1,q2 X)) λX x=>((z1 (w x.1 (u x.2)) X.1),X.2)
def amd:=G11.qk ahS func281 [pd .str] [rI] (c1 Bd) (cF ahD (cF ahE nF))
def alF:=amd.q0 {} func235 [pd .str] [rS] (c1 tS)
def akz:=alF.q0 {merge:=mg [(2,17)]} func153 [pd .str] [rS,rB] (c1 vt)
def akB:=akz.q0 {merge:=mg [(1,2)]} func155 [pf cU] [rB] (c1 lP)
def G78:=akB.q0 {} func78 [pd .str] [(true,Y3),rI] (c1 tN)
abbrev abH:SD:=⟨B::DI::B::B::DB::B::B::cB (iS (.int .i64))::DI::DI::bs 7 [],zs 17 [],.none⟩
def G61:=G78.q1 {mask:=mk [(2,[1,4,7,8,9])]} func61 [pd (.sl (.int .i64)),pI] [rB] (c2 jW) abH (λX K=>mR (λy0=>ke 0 K abH ((z4 (u y0) X.1),X.2)) (λy0 y1=>kr K abH ((z1 (w y0 (z2 (u y1))) X.1),X.2)) X.1.1 X.1.2.1 (q2 X) (q3 X)) q4 (λX x=>((z4 (u x) X.1),X.2))
def G79:=G61.q0 {merge:=mg [(1,4)]} func79 [pf vo,pf cU] [rB] (c2 xo)
def amh:=G79.q0 {} func285 [pI,pI,pI] [rB] (c3 oe)
def alJ:=amh.q0 {merge:=mg [(1,4)]} func239 [pf iK,pf cU] [rB] (c2 qo)
abbrev abd:SD:=⟨cB (iS iK)::B::B::.ptr 3 0::B::DI::bs 5 (cB (iS iK)::DI::DI::bs 24 []),Z::Z::Z::(some Y3)::zs 34 [],.none⟩
def akC:=alJ.q1 {mask:=mk [(5,[0,3,5,11,12,13])],merge:=mg [(7,34)]} func156 [pd (.sl iK),pf cU] [rI] (c2 vx) abd (λX K=>qi (λy0 y1=>ke 0 K abd ((z1 (w y0 (z2 (u y1))) X.1),X.2)) X.1.1 (q2 X) (q3 X) X.2.1.1) (λX=>(X.1.2.1,q4 X)) (λX x=>((z1 (w x.1 (z2 (u x.2))) X.1),X.2))
def akD:=akC.q0 {} func157 [pf (.sl fW),pf pG] [rI] (c2 vw)
def amN:=akD.q0 {} func324 [pd .str,pI] [rI] (c2 wm)
abbrev abz:SD:=⟨cB .str::DI::B::B::B::DI::DI::bs 22 [],zs 29 [],.none⟩
def amO:=amN.q1 {mask:=mk [(5,[0,1,5,6])],merge:=mg [(1,14)]} func325 [pd .str,pI] [rI] (c2 tJ) abz (λX K=>pc (λy0 y1=>ke 0 K abz ((z2 (w y0 (u y1)) X.1),X.2)) X.1.1 X.1.2.1) (λX=>(q2 X,q3 X)) (λX x=>((z2 (w x.1 (u x.2)) X.1),X.2))
abbrev abv:SD:=⟨cB .str::cB .str::B::B::B::DI::DI::bs 25 [],zs 32 [],.none⟩
def amv:=amO.q1 {mask:=mk [(5,[0,1,5,6])],merge:=mg [(1,14)]} func304 [pd .str,pd .str] [rI] (c2 tF) abv (λX K=>oY (λy0 y1=>ke 0 K abv ((z2 (w y0 (u y1)) X.1),X.2)) X.1.1 X.1.2.1) (λX=>(q2 X,q3 X)) (λX x=>((z2 (w x.1 (u x.2)) X.1),X.2))
def amw:=amv.q0 {} func305 [pf pG] [rS] (c1 tG)
def al4:=amw.q0 {} func270 [pd .str,pf pG] [rI] (c2 rn)
def alK:=al4.q0 {merge:=mg [(2,17)]} func240 [pf Dc,pf pG] [rI] (c2 xr)
def akF:=alK.q0 {merge:=mg [(2,18)]} func159 [pf Dc,pI,pf pG] [rI] (c3 qp)
def G80:=akF.q0 {merge:=mg [(1,17)]} func80 [pf oD,pI,pf cU] [rI] (c3 qq)
def alq:=G80.q0 {merge:=mg [(1,20)],sb:=mg [(9,9)]} func220 [pd (.sl bC),pf (.sl .str),pI,pf sO] [rS,(true,Y1),rB] (c4 ry)
def amG:=alq.q0 {} func315 [pI] [rS] (c1 vJ)
def ami:=amG.q0 {} func286 [pf aaS] [rS,rB] (c1 vr)
def amj:=ami.q0 {} func287 [pd .str] [rS] (c1 xt)
def alM:=amj.q0 {} func242 [pf cU] [rS,rB] (c1 gL)
def al3:=alM.q0 {sb:=mg [(4,4)]} func269 [pd .str] [(true,(.pair (.int .i64) (.pair (.int .i64) Y1))),rB] (c1 nY)
def amx:=al3.q0 {merge:=mg [(1,2)]} func306 [pf pG] [rB] (c1 lu)
def amy:=amx.q0 {merge:=mg [(1,12)]} func307 [pf pG,pI] [rS] (c2 kH)
def ais:=amy.q0 {merge:=mg [(1,22)],mv:=[26,37,41,51],mb:=mg [(41,13),(51,13)],sb:=mg [(10,10),(11,11),(13,13)]} func271 [pd (.sl bC),pf (.sl .str),pI,pf gQ,pf pG] [(true,(.sl (.own none) .str)),(true,Y19),rB] (c5 nB)
def anc:jb:=zN [pd (.sl bC),pf (.sl .str),pI,pf dI,pd .str,pd .str] [(true,(.sl (.own none) .str)),(true,Y19),rB] [(true,(.sl .arg .str)),(true,Y19),rB] rfl λa=>tY a.1 a.2.1 a.2.2.1 a.2.2.2.1 a.2.2.2.2.1 a.2.2.2.2.2.1
theorem an7:DR 221 anc:=gE.ofAlt (Rh (an:={merge:=mg [(3,50)],sb:=mg [(12,12),(13,13),(20,20)]}) (Λ:=kZ.nil) (by rfl) (ais.s) func221 (by kernel_rfl) (ao nF)) (λa=>by kernel_rfl)
def alr:=ais.add an7
def akl:=alr.q0 {merge:=mg [(1,31)],mv:=[52,66],mb:=mg [(66,16)],sb:=mg [(10,10),(11,11)]} func137 [pd (.sl bC),pf (.sl .str),pI,pf dI,pd .str] [(true,(.sl (.own none) .str)),(true,Y9)] (c5 mL)
def alL:=akl.q0 {} func241 [pf cU,pf cU] [rB] (c2 vE)
def akG:=alL.q0 {merge:=mg [(1,42),(4,76),(6,4)]} func160 [pf Oh,pf cU] [rB] (c2 tE)
def akH:=akG.q0 {} func161 [pf Oh,pf cU] [(true,(.pair Y3 (.pair (.int .i64) (.int .i64))))] (c2 Dx)
def akI:=akH.q0 {} func162 [pf cU] [(true,(.pair Y3 (.pair (.int .i64) (.int .i64))))] (c1 CE)
def G81:=akI.q0 {merge:=mg [(1,30),(3,44)],mv:=[53,68,77],mb:=mg [(77,16)],sb:=mg [(14,14),(15,15)]} func81 [pd (.sl bC),pf (.sl .str),pI,pf dI,pd .str,pf cU,pd .bool] [(true,(.sl (.own none) .str)),(true,Y9)] (c7 nD)
def alu:=G81.q0 {merge:=mg [(1,9)]} func223 [pf fA] [(true,Y12)] (c1 nH)
def aef:=alu.q0 {} func164 [pf fA] [(true,Y12)] (c1 vq)
def e82:jb:=jf (.pair (.sl (.own none) .str) (.pair (.sl (.own none) bC) (.pair (.pair (.pair (.int .i64) (.pair (.int .i64) (.pair (.int .i64) (.int .i64)))) (.pair (.pair (.int .i64) (.pair (.int .i64) (.pair (.int .i64) (.sl (.own none) (.int .i64))))) (.pair (.sl (.own none) hU) (.int .i64)))) (.pair (.sl (.own none) dI) (.pair (.sl (.own none) hH) (.pair (.sl (.own none) fA) (.pair (.sl (.own none) .bool) (.pair (.pair (.int .i64) (.pair .bool (.sl (.own none) (.int .i64)))) (.pair (.pair (.sl (.own none) iK) (.pair (.sl (.own none) fW) (.pair .str (.sl (.own none) (.int .i64))))) (.pair (.sl (.own none) dG) (.pair .bool (.pair (.sl (.own none) .str) (.pair (.sl (.own none) (.int .i64)) (.pair (.sl (.own none) (.int .i64)) (.pair (.int .i64) (.pair (.int .i64) (.pair (.int .i64) (.pair (.int .i64) (.int .i64))))))))))))))))))) [pI,pI] [] λx a=>ky x a.1 a.2.1
def n82:An:={mask:=mk [(2,[0,1,7])]}
abbrev WZ:SD:=⟨.ptr 0 0::DI::bs 5 (DI::bs 34 []),(pD (cD (dh 1 .str) (cD (dh 4 bC) (cD (cD Y1 (cD (ju (ju (ju (dh 28 (.int .i64))))) (cD (dh 31 hU) yO))) (cD (dh 37 dI) (cD (dh 40 hH) (cD (dh 43 fA) (cD (dh 46 .bool) (cD (ju (cD .bool (dh 55 (.int .i64)))) (cD (cD (dh 58 iK) (cD (dh 61 fW) (cD .str (dh 67 (.int .i64))))) (cD (dh 70 dG) (cD .bool (cD (dh 76 .str) (cD (dh 79 (.int .i64)) (cD (dh 82 (.int .i64)) (cD yO Y1))))))))))))))))::zs 41 [],.ptr⟩
def agm (X:SD.D WZ)(K:uN R):=pj (λy0 y1=>ke 0 K WZ ((z1 (u y0) X.1),(u y1 X.2.1),X.2.2)) X.1.1
def L82:kZ:=kZ.nil.add 2 (yR WZ agm (λX=>(X.1.2.1,X.2.1.1)))
theorem ajy:xV E aef.g n82 L82 (cJ f82 0):=lk WZ agm (λX=>(X.1.2.1,X.2.1.1)) λX x=>((z1 (u x.1) X.1),(u x.2 X.2.1),X.2.2)
theorem o82:DR 82 e82:=gE.pq (oU (Γ:=aef.g) (an:=n82) (Λ:=L82) (aef.s) func82 (by kernel_rfl) (ao (cF ajy nF))) (λx a=>by kernel_rfl)
def G82:=aef.add o82
def G32:=G82.q0 {mv:=[14,34,46,62,69,90,103],sb:=mg [(92,5)]} func32 [pf dC,pd .str] [(true,Y0)] (c2 qj)
def alN:=G32.q0 {} func243 [pd .str] [rI,rI] (c1 pU)
def akK:=alN.q0 {} func165 [pf cU] [rS,rB] (c1 lQ)
abbrev abe:SD:=⟨B::B::B::DI::B::B::B::cB (iS hU)::DI::DI::bs 9 [],zs 19 [],.none⟩
def akM:=akK.q1 {mask:=mk [(3,[3,7,8,9])]} func167 [pf ko] [rI] (c1 po) abe (λX K=>lA (λy0 y1=>ke 0 K abe ((w y0 (z2 (u y1)) X.1),X.2)) X.1.2.1 (q2 X)) (λX=>(X.1.1,q3 X)) (λX x=>((w x.1 (z2 (u x.2)) X.1),X.2))
def aeg:=akM.q0 {merge:=mg [(2,20)],mv:=[21,28],mb:=mg [(28,7)],sb:=mg [(4,4)]} func168 [pf hH,pI] [(true,Y8),(false,(.sl (.own none) (.int .i64))),rB] (c2 qv)
def am7:jb:=zN [pd (.sl bC),pf (.sl .str),pI,pf hH,pd (.sl (.int .i64)),pd .str,pI] [(true,(.sl (.own none) .str)),(false,(.sl (.own none) iD)),rB] [(true,(.sl .arg .str)),(false,(.sl (.own none) iD)),rB] rfl λa=>mQ a.1 a.2.1 a.2.2.1 a.2.2.2.1 a.2.2.2.2.1 a.2.2.2.2.2.1 a.2.2.2.2.2.2.1
def ajF:An:={mask:=mk [(3,[0,2,5,6,8,10,14,15,16,17,24,25,26])],peel:=[3],mv:=[40,49,53,54,55,65,66],sb:=mg [(21,21)]}
abbrev OH:SD:=⟨cB (iS bC)::B::DI::B::B::cB .str::DI::B::.ptr 8 0::B::.ptr 10 0::B::B::B::.ptr 14 0::cB (dh 184320 iD)::DB::cB (dh 208896 iD)::bs 6 (cB (iS (.int .i64))::DI::DI::bs 40 []),zs 8 ((pD (dh 98305 .str))::Z::(some Y13)::Z::Z::Z::(pD (dh 172033 .str))::zs 52 []),.none⟩
abbrev Ya:SD:=⟨cB (iS bC)::B::DI::B::B::cB .str::DI::B::.ptr 8 0::B::.ptr 10 0::B::B::B::.ptr 14 0::cB (dh 184320 iD)::DB::cB (dh 208896 iD)::bs 6 (cB (iS (.int .i64))::DI::DI::bs 40 []),zs 8 ((pD (.sl .loc .str))::Z::(some Y13)::Z::Z::Z::(pD (dh 172033 .str))::zs 52 []),.none⟩
def adO (X:SD.D OH)(K:uN R):=jE (λy0 y1 y2 y3=>ke 0 K OH ((z2 (w y0 (z3 (w y1 (z2 (u y2))))) X.1),(u y3 X.2.1),X.2.2)) (λy0 y1 y2 y3 y4 y5 y6=>kr K Ya ((X.1.1,(X.1.2.1,(y0,(X.1.2.2.2.1,(y1,(y2,(y3,(X.1.2.2.2.2.2.2.2.1,(X.1.2.2.2.2.2.2.2.2.1,(y4,())))))))))),(y5,(X.2.1.2.1,(y6,()))),())) X.1.1 X.1.2.1 (q3 X) (q4 X) (q5 X) (q7 X) (q8 X) X.2.1.2.1 X.2.1.2.2.1
def aiy:kZ:=kZ.nil.add 3 (yR OH adO (λX=>(q2 X,q6 X,q9 X,X.2.1.1)))
theorem aht:xV E aeg.g ajF aiy (cJ f169 0):=lk OH adO (λX=>(q2 X,q6 X,q9 X,X.2.1.1)) λX x=>((z2 (w x.1 (z3 (w x.2.1 (z2 (u x.2.2.1))))) X.1),(u x.2.2.2 X.2.1),X.2.2)
theorem an2:DR 169 am7:=gE.ofAlt (Rh (Γ:=aeg.g) (an:=ajF) (Λ:=aiy) (by rfl) (aeg.s) func169 (by kernel_rfl) (ao (cF aht nF))) (λa=>by kernel_rfl)
def akN:=aeg.add an2
abbrev Uv:SD:=⟨cB (iS iD)::B::DB::B::B::cB (iS iD)::DI::DI::bs 16 [],zs 24 [],.none⟩
def aaO:=akN.q1 {mask:=mk [(2,[0,2,5,6,7])],merge:=mg [(4,19)]} func245 [pd (.sl iD)] [rB] (c1 rr) Uv (λX K=>qn (λy0=>ke 0 K Uv ((z4 (u y0) X.1),X.2)) (λy0 y1=>kr K Uv ((z1 (w y0 (z2 (u y1))) X.1),X.2)) X.1.1 X.1.2.1 (q2 X) (q3 X)) q4 (λX x=>((z4 (u x) X.1),X.2))
def am8:jb:=zN [pd (.sl iD),pI,pI] [(false,(.sl (.own none) nr))] [(false,(.sl .nil nr))] rfl λa=>ir a.1 a.2.1 a.2.2.1
def ahM:An:={mask:=mk [(5,[0,2,7,30,31,32]),(13,[6,7,54,55,56])],merge:=mg [(1,25)],nils:=[6],mv:=[49,64]}
abbrev OI:SD:=⟨cB (iS iD)::B::DI::bs 4 (cB (dh 86016 nr)::bs 22 (cB (iS iD)::DI::DI::bs 32 [])),zs 65 [],.none⟩
def adP (X:SD.D OI)(K:uN R):=jO (λy0 y1=>ke 0 K OI ((z2 (w y0 (z2 (u y1))) X.1),X.2)) X.1.1 X.1.2.1 (q3 X) (q4 X)
abbrev Ji:SD:=⟨bs 7 (cB (dh 86016 nr)::bs 46 (cB (.sl .loc nr)::DI::DI::bs 8 [])),zs 65 [],.none⟩
abbrev Uk:SD:=⟨bs 6 (cB (.sl .nil nr)::cB (dh 86016 nr)::bs 46 (cB (.sl .loc nr)::DI::DI::bs 8 [])),zs 65 [],.none⟩
def XO (X:SD.D Ji)(K:uN R):=jn (λy0=>ke 2 K Ji ((z3 (u y0) X.1),X.2)) (λy0 y1=>kr K Uk ((y0,(X.1.1,(X.1.2.1,(X.1.2.2.1,(y1,()))))),(),())) X.1.1 X.1.2.1 (q2 X)
def agy:kZ:=(kZ.nil.add 5 (yR OI adP (λX=>(q2 X,q5 X)))).add 13 (yR Ji XO q3)
theorem ahu:xV E aaO.g ahM agy (cJ f170 0):=lk OI adP (λX=>(q2 X,q5 X)) λX x=>((z2 (w x.1 (z2 (u x.2))) X.1),X.2)
theorem ae1:xV E aaO.g ahM agy (cJ f170 1):=lk Ji XO q3 λX x=>((z3 (u x) X.1),X.2)
theorem an3:DR 170 am8:=gE.ofAlt (Rh (Γ:=aaO.g) (an:=ahM) (Λ:=agy) (by rfl) (aaO.s) func170 (by kernel_rfl) (ao (cF ahu (cF ae1 nF)))) (λa=>by kernel_rfl)
def akO:=aaO.add an3
abbrev Ul:SD:=⟨cB (iS bC)::B::DI::B::B::B::.ptr 6 0::B::.ptr 8 0::B::.ptr 10 0::.ptr 11 0::DB::.ptr 13 0::.ptr 14 0::bs 6 (cB (iS .str)::DI::DI::bs 21 []),zs 6 ((pD (iS .str))::Z::(some Y1)::Z::(pD (dh 122881 .str))::(some Y1)::Z::(pD (dh 159745 .str))::(some Y1)::zs 30 []),.none⟩
def akP:=akO.q1 {mask:=mk [(3,[0,2,6,8,10,11,12,13,14,21,22,23])],mv:=[27,43],mb:=mg [(43,13)],sb:=mg [(10,10),(11,11),(13,13),(14,14)]} func171 [pd (.sl bC),pf (.sl .str),pI,pf sO,pd (.sl .str)] [(true,(.sl (.own none) .str)),(true,Y1),rB] (c5 jx) Ul (λX K=>kx (λy0 y1 y2=>ke 0 K Ul ((z5 (u y0) X.1),(z4 (w y1 (u y2)) X.2.1),X.2.2)) (λy0 y1 y2 y3 y4 y5=>kr K Ul ((z2 (w y0 (z2 (u y1))) X.1),(z2 (w y2 (w y3 (w y4 (u y5)))) X.2.1),X.2.2)) X.1.1 X.1.2.1 (q2 X) (q3 X) (q4 X) X.2.1.1 X.2.1.2.1 X.2.1.2.2.1 X.2.1.2.2.2.1) (λX=>(q5 X,X.2.1.2.2.2.2.1,X.2.1.2.2.2.2.2.1)) (λX x=>((z5 (u x.1) X.1),(z4 (w x.2.1 (u x.2.2)) X.2.1),X.2.2))
abbrev abK:SD:=⟨cB (iS bC)::B::DI::bs 7 (.ptr 10 0::B::B::B::.ptr 14 0::.ptr 15 0::B::.ptr 17 0::.ptr 18 0::B::B::B::.ptr 22 0::B::cB (dh 294912 (.int .i64))::B::.ptr 26 0::B::cB (dh 344064 nr)::cB (dh 356352 .str)::bs 109 (cB (.sl .loc nr)::DI::DI::bs 44 [])),zs 10 ((some Y24)::Z::Z::Z::(pD (dh 172033 .str))::(pD (cD Y1 (cD (ju (ju (ju (dh 184342 (.int .i64))))) (cD (dh 184345 hU) yO))))::Z::(pD (dh 208897 .str))::(pD (cD Y1 (cD (ju (ju (ju (dh 221206 (.int .i64))))) (cD (dh 221209 hU) yO))))::Z::Z::Z::(pD (cD Y1 (cD (ju (ju (ju (dh 270358 (.int .i64))))) (cD (dh 270361 hU) yO))))::Z::Z::Z::(pD (.sl .loc .str))::zs 159 []),.none⟩
def G83:=akP.q1 {mask:=mk [(19,[0,2,10,14,15,17,18,22,24,26,28,29,139,140,141])],merge:=mg [(2,57),(6,92),(15,135)],mv:=[58,59,93,94,97,107,108,109,122,123,136,137,145,151,164,165,169,174,184,185],mb:=mg [(58,17),(59,18),(93,17),(94,18),(107,17),(108,18),(136,17),(137,18),(164,17),(165,18),(184,26),(185,22)],sb:=mg [(14,14),(15,15),(17,17),(18,18),(26,26)]} func83 [pd (.sl bC),pf (.sl .str),pI,pf ko,pf cU,pI,pI] [(true,(.sl (.own none) .str)),(true,Y16),rB] (c7 se) abK (λX K=>fO (λy0 y1=>ke 0 K abK ((z4 (w y0 (z2 (u y1))) X.1),X.2)) X.1.1 X.1.2.1 (q2 X) (q3 X) (q5 X) (q6 X) X.2.1.1 X.2.1.2.1 X.2.1.2.2.1 X.2.1.2.2.2.1 X.2.1.2.2.2.2.1 X.2.1.2.2.2.2.2.1 X.2.1.2.2.2.2.2.2.1) (λX=>(q4 X,q7 X)) (λX x=>((z4 (w x.1 (z2 (u x.2))) X.1),X.2))
def G33:=G83.q0 {mv:=[19,20,34,36,38]} func33 [pf dC,pf cU,pI,pI] [(true,Y0),rB] (c4 vB)
abbrev afX:SD:=⟨B::.ptr 1 0::.ptr 2 0::.ptr 3 0::bs 9 (DI::DI::bs 35 []),Z::(some Y4)::(some Y2)::(some Y5)::zs 46 [],.none⟩
def G68:=G33.q1 {mask:=mk [(5,[1,2,3,13,14])],mv:=[10,17,35,49],sb:=mg [(37,3)]} func68 [pf dC] [(true,Y0)] (c1 tH) afX (λX K=>oZ (λy0 y1=>ke 0 K afX ((z1 (u y0) X.1),(z2 (u y1) X.2.1),X.2.2)) X.1.1 X.2.1.1 X.2.1.2.1) (λX=>(X.1.2.1,X.2.1.2.2.1)) (λX x=>((z1 (u x.1) X.1),(z2 (u x.2) X.2.1),X.2.2))
abbrev UA:SD:=⟨cB (iS bC)::B::DI::B::B::.ptr 5 0::B::.ptr 7 0::cB (dh 98304 nr)::.ptr 9 0::DB::.ptr 11 0::cB (dh 147456 nr)::bs 57 [],zs 5 ((pD (iS .str))::Z::(some Y1)::Z::(some Y1)::Z::(some Y1)::zs 58 []),.none⟩
def agw:=G68.q1 {mask:=mk [(6,[0,2,5,7,8,9,10,11,12])],merge:=mg [(1,24),(15,67)],mv:=[55,68],sb:=mg [(9,9)]} func272 [pd (.sl bC),pf (.sl .str),pI,pf sO] [(false,(.sl (.own none) nr)),(true,Y1),rB] (c4 tQ) UA (λX K=>lz (λy0 y1=>ke 0 K UA ((z4 (u y0) X.1),(z1 (u y1) X.2.1),X.2.2)) (λy0 y1 y2 y3 y4=>kr K UA ((z2 (w y0 (w y1 (u y2))) X.1),(z1 (w y3 (u y4)) X.2.1),X.2.2)) X.1.1 X.1.2.1 (q2 X) (q3 X) X.2.1.1 X.2.1.2.2.1 X.2.1.2.2.2.1) (λX=>(q4 X,X.2.1.2.1)) (λX x=>((z4 (u x.1) X.1),(z1 (u x.2) X.2.1),X.2.2))
def ahR:An:={mask:=mk [(5,[0,6,18,19,20]),(14,[0,2,3,4,5,6,9,10,11,51,52])],mv:=[24,65]}
abbrev ON:SD:=⟨cB (iS nr)::bs 5 (cB (dh 73728 iD)::bs 11 (cB (iS nr)::DI::DI::bs 47 [])),zs 68 [],.none⟩
def adX (X:SD.D ON)(K:uN R):=kI (λy0 y1=>ke 0 K ON ((z1 (w y0 (z2 (u y1))) X.1),X.2)) X.1.1 (q2 X) (q3 X)
abbrev Jl:SD:=⟨cB (iS nr)::bs 5 (cB (dh 73728 iD)::B::B::DI::DI::cB (dh 135168 nr)::bs 39 (DI::DI::bs 15 [])),zs 68 [],.none⟩
abbrev UB:SD:=⟨cB (iS nr)::B::cB (dh 24576 iD)::DI::DI::DB::cB (dh 73728 iD)::B::B::DI::DI::cB (dh 135168 nr)::bs 39 (DI::DI::bs 15 []),zs 68 [],.none⟩
def XS (X:SD.D Jl)(K:uN R):=gh (λy0=>ke 2 K Jl ((z6 (u y0) X.1),X.2)) (λy0 y1 y2 y3 y4=>kr K UB ((X.1.1,(y0,(y1,(y2,(y3,(X.1.2.1,(X.1.2.2.1,(X.1.2.2.2.1,(X.1.2.2.2.2.1,(X.1.2.2.2.2.2.1,(y4,()))))))))))),(),())) X.1.1 X.1.2.1 (q2 X) (q3 X) (q4 X) (q5 X)
def aiE:kZ:=(kZ.nil.add 5 (yR ON adX (λX=>(X.1.2.1,q4 X)))).add 14 (yR Jl XS q6)
theorem ahC:xV E agw.g ahR aiE (cJ f273 0):=lk ON adX (λX=>(X.1.2.1,q4 X)) λX x=>((z1 (w x.1 (z2 (u x.2))) X.1),X.2)
theorem ae5:xV E agw.g ahR aiE (cJ f273 1):=lk Jl XS q6 λX x=>((z6 (u x) X.1),X.2)
def al5:=agw.qk ahR func273 [pd (.sl nr)] [(false,(.sl (.own none) iD)),rI,rI,rB] (c1 nA) (cF ahC (cF ae5 nF))
abbrev UC:SD:=⟨cB (iS bC)::B::DI::B::B::.ptr 5 0::B::B::cB .str::DB::cB .str::bs 7 (cB (iS iD)::DI::DI::bs 21 []),zs 5 ((pD (iS .str))::zs 36 []),.none⟩
def al6:=al5.q1 {mask:=mk [(5,[0,2,5,8,9,10,18,19,20])]} func274 [pd (.sl bC),pf (.sl .str),pI,pd (.sl iD)] [rS,rB] (c4 oX) UC (λX K=>lx (λy0 y1=>ke 0 K UC ((z4 (w y0 (z2 (u y1))) X.1),X.2)) (λy0 y1 y2 y3=>kr K UC ((z2 (w y0 (w y1 (w y2 (z2 (u y3))))) X.1),X.2)) X.1.1 X.1.2.1 (q2 X) (q3 X) (q5 X) (q6 X) X.2.1.1) (λX=>(q4 X,q7 X)) (λX x=>((z4 (w x.1 (z2 (u x.2))) X.1),X.2))
def al7:=al6.q0 {merge:=mg [(3,38),(9,74),(12,84),(17,117)]} func275 [pd .str] [rS,rB] (c1 vu)
def amQ:=al7.q0 {} func327 [pf cU] [rS,rB] (c1 rV)
abbrev abw:SD:=⟨B::B::B::cB (dh 36864 .str)::bs 5 (cB (iS cU)::DI::DI::bs 15 []),zs 27 [],.none⟩
def amB:=amQ.q1 {mask:=mk [(3,[3,9,10,11])],mv:=[21,26]} func310 [pd (.sl cU)] [(false,(.sl (.own none) .str))] (c1 vy) abw (λX K=>mM (λy0 y1=>ke 0 K abw ((w y0 (z2 (u y1)) X.1),X.2)) X.1.2.1 (q2 X)) (λX=>(X.1.1,q3 X)) (λX x=>((w x.1 (z2 (u x.2)) X.1),X.2))
abbrev abx:SD:=⟨B::DI::.ptr 2 0::B::B::cB .str::cB (dh 73728 cU)::DI::bs 80 [],Z::Z::(some Y3)::zs 85 [],.none⟩
def amC:=amB.q1 {mask:=mk [(8,[1,2,5,6,7])],merge:=mg [(1,17),(4,30)],mv:=[83,87]} func311 [pf cU,pI] [(false,(.sl (.own none) cU))] (c2 Be) abx (λX K=>vG (λy0 y1=>ke 0 K abx ((z2 (w y0 (u y1)) X.1),X.2)) X.1.1 X.1.2.1 X.2.1.1) (λX=>(q2 X,q3 X)) (λX x=>((z2 (w x.1 (u x.2)) X.1),X.2))
def al8:=amC.q0 {} func276 [pf cU,pI] [(false,(.sl (.own none) .str))] (c2 sc)
def als:=al8.q0 {merge:=mg [(1,28)],sb:=mg [(8,8)]} func222 [pd (.sl bC),pf (.sl .str),pI,pf sO] [(true,Y1),(false,(.sl (.own none) .str)),rI] (c4 ph)
abbrev agJ:SD:=⟨cB (iS bC)::B::DI::B::B::.ptr 5 0::B::.ptr 7 0::.ptr 8 0::cB (dh 110592 .str)::DI::DI::cB (dh 147456 .str)::DI::DI::bs 30 [],zs 5 ((pD (iS .str))::Z::(some Y1)::(some Y1)::zs 36 []),.none⟩
abbrev X9:SD:=⟨cB (iS bC)::B::DI::B::B::.ptr 5 0::B::.ptr 7 0::.ptr 8 0::cB (dh 110592 .str)::DI::DI::cB (.sl .loc .str)::DI::DI::bs 30 [],zs 5 ((pD (iS .str))::Z::(some Y1)::(some Y1)::zs 36 []),.none⟩
def akm:=als.q1 {mask:=mk [(3,[0,2,5,7,8,9,10,11,12,13,14])],mv:=[35,42]} func138 [pd (.sl bC),pf (.sl .str),pI,pf sO] [(true,Y1),(false,(.sl (.own none) .str)),rI,rI] (c4 qw) agJ (λX K=>mr (λy0 y1 y2 y3 y4 y5 y6 y7=>kr K X9 ((X.1.1,(X.1.2.1,(y0,(y1,(y2,(y3,(y4,(y5,())))))))),(X.2.1.1,(y6,(y7,()))),())) X.1.1 X.1.2.1 (q2 X) (q3 X) (q4 X) X.2.1.1 X.2.1.2.2.1) (λX=>(q5 X,q6 X,q7 X,X.2.1.2.1)) (λX x=>((z5 (w x.1 (w x.2.1 (u x.2.2.1))) X.1),(z1 (u x.2.2.2) X.2.1),X.2.2))
abbrev abc:SD:=⟨B::DI::.ptr 2 0::B::.ptr 4 0::B::.ptr 6 0::cB (dh 86016 (.int .i64))::bs 20 (cB (iS hU)::DI::DI::bs 26 []),Z::Z::(some Y24)::Z::(pD (cD Y1 (cD (ju (ju (ju (dh 49174 (.int .i64))))) (cD (dh 49177 hU) yO))))::Z::(pD (cD Y1 (cD (ju (ju (ju (dh 73750 (.int .i64))))) (cD (dh 73753 hU) yO))))::zs 50 [],.none⟩
def akn:=akm.q1 {mask:=mk [(6,[1,2,4,6,7,28,29,30])],merge:=mg [(2,22)],mv:=[23,34,43,55,56]} func139 [pf ko,pI] [(true,Y16),(false,(.sl (.own none) (.int .i64)))] (c2 lr) abc (λX K=>jm (λy0 y1 y2=>ke 0 K abc ((z1 (w y0 (z2 (u y1))) X.1),(z2 (u y2) X.2.1),X.2.2)) X.1.1 (q2 X) (q3 X) X.2.1.1 X.2.1.2.1) (λX=>(X.1.2.1,q4 X,X.2.1.2.2.1)) (λX x=>((z1 (w x.1 (z2 (u x.2.1))) X.1),(z2 (u x.2.2) X.2.1),X.2.2))
def G69:=akn.q0 {mv:=[15,33,37,51,54,58]} func69 [pf dC] [(true,Y0)] (c1 pb)
def ako:=G69.q0 {merge:=mg [(1,11)]} func140 [pf fA] [(true,Y12),rB] (c1 nG)
def akp:=ako.q0 {} func141 [pf fA] [(true,Y12)] (c1 wk)
abbrev afY:SD:=⟨B::DI::B::B::.ptr 4 0::B::.ptr 6 0::DI::bs 17 (DI::DI::bs 53 []),zs 4 ((some Y6)::Z::(pD (cD (dh 73729 .str) (cD (dh 73732 bC) (cD (cD Y1 (cD (ju (ju (ju (dh 73756 (.int .i64))))) (cD (dh 73759 hU) yO))) (cD (dh 73765 dI) (cD (dh 73768 hH) (cD (dh 73771 fA) (cD (dh 73774 .bool) (cD (ju (cD .bool (dh 73783 (.int .i64)))) (cD (cD (dh 73786 iK) (cD (dh 73789 fW) (cD .str (dh 73795 (.int .i64))))) (cD (dh 73798 dG) (cD .bool (cD (dh 73804 .str) (cD (dh 73807 (.int .i64)) (cD (dh 73810 (.int .i64)) (cD yO Y1))))))))))))))))::zs 73 []),.none⟩
def G70:=akp.q1 {mask:=mk [(6,[1,4,6,7,25,26])],merge:=mg [(2,21)],mv:=[22,78]} func70 [pf dC,pI] [(true,Y0),rI] (c2 ql) afY (λX K=>mj (λy0 y1 y2=>ke 0 K afY ((z1 (w y0 (z1 (u y1))) X.1),(z1 (u y2) X.2.1),X.2.2)) X.1.1 (q2 X) X.2.1.1) (λX=>(X.1.2.1,q3 X,X.2.1.2.1)) (λX x=>((z1 (w x.1 (z1 (u x.2.1))) X.1),(z1 (u x.2.2) X.2.1),X.2.2))
def akq:=G70.q0 {} func142 [pf fA] [(true,Y12)] (c1 sg)
abbrev afZ:SD:=⟨B::B::.ptr 2 0::.ptr 3 0::bs 9 (DI::DI::bs 14 []),Z::Z::(some Y2)::(some Y5)::zs 25 [],.none⟩
def G71:=akq.q1 {mask:=mk [(5,[2,3,13,14])],mv:=[10,28]} func71 [pf dC] [(true,Y0)] (c1 vC) afZ (λX K=>qm (λy0 y1=>ke 0 K afZ ((z1 (u y0) X.1),(z1 (u y1) X.2.1),X.2.2)) X.1.1 X.2.1.1) (λX=>(X.1.2.1,X.2.1.2.1)) (λX x=>((z1 (u x.1) X.1),(z1 (u x.2) X.2.1),X.2.2))
def aii:=G71.q0 {} func102 [pd .bool] [rI] (c1 Dy)
def e40:jb:=zN [pf dC,pf Ab] [(true,Y0),rI] [(true,Y4),rI] rfl λa=>nI a.1 a.2.1
theorem o40:DR 40 e40:=gE.ofAlt (Rh (an:={mv:=[12,23],mb:=mg [(23,6)],sb:=mg [(4,4)]}) (Λ:=kZ.nil) (by rfl) (aii.s) func40 (by kernel_rfl) (ao nF)) (λa=>by kernel_rfl)
def aiP:jb:=UK [pf dC,pf Ab] [(true,Y0),rI] λa=>nI a.1 a.2.1
theorem aof:DR 40 aiP:=o40.only
def G40:=aii.add o40
def e10:jb:=zN [pf dC,pd (.sl Ab)] [(true,Y0),rI] [(true,Y4),rI] rfl λa=>vL a.1 a.2.1
def g10:xU:=G40.g.add 40 aiP
def n10:An:={mask:=mk [(3,[1,2,4,6,7])],peel:=[3],mv:=[24,31,33,43],sb:=mg [(8,8)]}
abbrev WU:SD:=⟨B::cB (iS Ab)::.ptr 2 0::B::.ptr 4 0::B::DI::DI::bs 37 [],Z::Z::(some Y2)::Z::(some Y6)::zs 40 [],.none⟩
def age (X:SD.D WU)(K:uN R):=gT (λy0 y1 y2=>ke 0 K WU ((z1 (w y0 (u y1)) X.1),(u y2 X.2.1),X.2.2)) X.1.1 X.2.1.2.1
def L10:kZ:=kZ.nil.add 3 (yR WU age (λX=>(X.1.2.1,q2 X,X.2.1.1)))
theorem ajr:xV E g10 n10 L10 (cJ f10 0):=lk WU age (λX=>(X.1.2.1,q2 X,X.2.1.1)) λX x=>((z1 (w x.1 (u x.2.1)) X.1),(u x.2.2 X.2.1),X.2.2)
theorem o10:DR 10 e10:=gE.ofAlt (Rh (Γ:=g10) (an:=n10) (Λ:=L10) (by rfl) (G40.s.add aof) func10 (by kernel_rfl) (ao (cF ajr nF))) (λa=>by kernel_rfl)
def G10:=G40.add o10
def G15:=G10.q0 {sb:=mg [(2,2)]} func15 [pf (.sl .str)] [(true,Y21)] (c1 tP)
abbrev afV:SD:=⟨B::B::.ptr 2 0::B::B::cB (dh 61440 (.int .i64))::bs 4 (cB (iS .str)::DI::DI::bs 24 []),Z::Z::(pD (iS .str))::zs 34 [],.none⟩
def G60:=G15.q1 {mask:=mk [(3,[2,5,10,11,12])],merge:=mg [(5,30)],mv:=[31,36]} func60 [pf (.sl .str),pf (.sl .str)] [(false,(.sl (.own none) (.int .i64)))] (c2 oW) afV (λX K=>lq (λy0 y1=>ke 0 K afV ((w y0 (z2 (u y1)) X.1),X.2)) X.1.2.1 (q2 X) X.2.1.1) (λX=>(X.1.1,q3 X)) (λX x=>((w x.1 (z2 (u x.2)) X.1),X.2))
abbrev afW:SD:=⟨B::DI::B::B::B::cB (dh 61440 (.int .i64))::DB::B::B::B::cB (iS (.int .i64))::DI::DI::bs 26 [],zs 39 [],.none⟩
def G62:=G60.q1 {mask:=mk [(4,[1,5,6,10,11,12])],merge:=mg [(6,22)],mv:=[23,27,34,38]} func62 [pd (.sl (.int .i64)),pI] [(false,(.sl (.own none) (.int .i64)))] (c2 od) afW (λX K=>kz (λy0 y1 y2=>ke 0 K afW ((z1 (w y0 (w y1 (z2 (u y2)))) X.1),X.2)) X.1.1 (q3 X) (q4 X)) (λX=>(X.1.2.1,q2 X,q5 X)) (λX x=>((z1 (w x.1 (w x.2.1 (z2 (u x.2.2)))) X.1),X.2))
abbrev afQ:SD:=⟨bs 6 (.ptr 6 0::.ptr 7 0::bs 13 (cB (dh 258048 (.int .i64))::DI::DI::bs 15 [])),zs 6 ((pD (cD (dh 73729 .str) (cD (dh 73732 (.int .i64)) yO)))::(pD (cD (dh 86017 .str) (cD (dh 86020 (.int .i64)) yO)))::zs 31 []),.none⟩
def G16:=G62.q1 {mask:=mk [(3,[6,7,21,22,23])],mv:=[38],sb:=mg [(7,7)]} func16 [pf WJ,pf (.sl .str),pf (.sl .str)] [(true,Y21)] (c3 kc) afQ (λX K=>jD (λy0 y1=>ke 0 K afQ ((z2 (u y0) X.1),(z1 (u y1) X.2.1),X.2.2)) X.1.1 X.1.2.1 X.2.1.1) (λX=>(q2 X,X.2.1.2.1)) (λX x=>((z2 (u x.1) X.1),(z1 (u x.2) X.2.1),X.2.2))
def G17:=G16.q0 {} func17 [pd (.sl (.int .u8)),pI] [rI] (c2 Gb)
abbrev afR:SD:=⟨B::B::B::.ptr 3 0::.ptr 4 0::.ptr 5 0::bs 9 (cB (iS (.int .i64))::DI::DI::bs 36 []),Z::Z::Z::(pD (iS .str))::(pD (cD (dh 49153 .str) (cD (dh 49156 (.int .i64)) yO)))::(some Y30)::zs 48 [],.none⟩
def G18:=G17.q1 {mask:=mk [(3,[3,4,5,15,16,17])],merge:=mg [(5,37)],mv:=[53],sb:=mg [(5,5)]} func18 [pf WJ,pf (.sl .str)] [(true,Y21)] (c2 mJ) afR (λX K=>lv (λy0 y1=>ke 0 K afR ((z2 (u y0) X.1),(z2 (u y1) X.2.1),X.2.2)) X.1.1 X.1.2.1 X.2.1.1 X.2.1.2.1) (λX=>(q2 X,X.2.1.2.2.1)) (λX x=>((z2 (u x.1) X.1),(z2 (u x.2) X.2.1),X.2.2))
abbrev abI:SD:=⟨cB (iS .str)::cB (iS .str)::B::B::DB::bs 7 (DI::DI::bs 12 []),zs 26 [],.none⟩
def G63:=G18.q1 {mask:=mk [(4,[0,1,4,12,13])]} func63 [pd (.sl .str),pd (.sl .str)] [rB] (c2 Pu.gA) abI (λX K=>Pu.gq (λy0=>ke 0 K abI ((z4 (u y0) X.1),X.2)) (λy0 y1=>kr K abI ((z2 (w y0 (z1 (u y1))) X.1),X.2)) X.1.1 X.1.2.1 (q2 X) (q3 X)) q4 (λX x=>((z4 (u x) X.1),X.2))
def G19:=G63.q0 {late:=[15],sb:=mg [(4,4)]} func19 [pf WJ,pf dC] [(true,Y0),rB] (c2 rY)
abbrev Ui:SD:=⟨cB (iS (.int .i64))::cB (iS (.int .i64))::B::B::DB::bs 7 (DI::DI::bs 12 []),zs 26 [],.none⟩
def aki:=G19.q1 {mask:=mk [(4,[0,1,4,12,13])]} func133 [pd (.sl (.int .i64)),pd (.sl (.int .i64))] [rB] (c2 Pu.gn) Ui (λX K=>Pu.mB (λy0=>ke 0 K Ui ((z4 (u y0) X.1),X.2)) (λy0 y1=>kr K Ui ((z2 (w y0 (z1 (u y1))) X.1),X.2)) X.1.1 X.1.2.1 (q2 X) (q3 X)) q4 (λX x=>((z4 (u x) X.1),X.2))
def akc:=aki.q0 {merge:=mg [(1,4)]} func127 [pf hH,pf hH] [rB] (c2 rC)
def aln:=akc.q0 {merge:=mg [(1,4)]} func217 [pf hU,pf hU] [rB] (c2 vK)
abbrev Us:SD:=⟨B::cB (iS hU)::.fn 217::B::B::B::DB::bs 8 (cB (iS hU)::DI::DI::bs 14 []),zs 32 [],.none⟩
def alm:=aln.q1 {mask:=mk [(4,[1,2,6,15,16,17])]} func216 [pd (.sl hU),pd (.sl hU),.fn 217] [rB] (c2 Pu.kN) Us (λX K=>Pu.ja (λy0=>ke 0 K Us ((z4 (u y0) X.1),X.2)) (λy0 y1=>kr K Us ((z1 (w y0 (z2 (u y1))) X.1),X.2)) X.1.1 X.1.2.1 (q2 X) (q3 X)) q4 (λX x=>((z4 (u x) X.1),X.2))
def aj9:=alm.q0 {merge:=mg [(1,4)]} func124 [pf ko,pf ko] [rB] (c2 zt)
abbrev Ud:SD:=⟨cB (iS dI)::cB (iS dI)::B::B::DB::bs 7 (DI::DI::bs 12 []),zs 26 [],.none⟩
def aka:=aj9.q1 {mask:=mk [(4,[0,1,4,12,13])]} func125 [pd (.sl dI),pd (.sl dI)] [rB] (c2 Pu.lF) Ud (λX K=>Pu.jr (λy0=>ke 0 K Ud ((z4 (u y0) X.1),X.2)) (λy0 y1=>kr K Ud ((z2 (w y0 (z1 (u y1))) X.1),X.2)) X.1.1 X.1.2.1 (q2 X) (q3 X)) q4 (λX x=>((z4 (u x) X.1),X.2))
abbrev Ue:SD:=⟨B::cB (iS hH)::.fn 127::B::B::B::DB::bs 8 (cB (iS hH)::DI::DI::bs 14 []),zs 32 [],.none⟩
def akb:=aka.q1 {mask:=mk [(4,[1,2,6,15,16,17])]} func126 [pd (.sl hH),pd (.sl hH),.fn 127] [rB] (c2 Pu.kM) Ue (λX K=>Pu.iZ (λy0=>ke 0 K Ue ((z4 (u y0) X.1),X.2)) (λy0 y1=>kr K Ue ((z1 (w y0 (z2 (u y1))) X.1),X.2)) X.1.1 X.1.2.1 (q2 X) (q3 X)) q4 (λX x=>((z4 (u x) X.1),X.2))
abbrev Uf:SD:=⟨cB (iS fA)::cB (iS fA)::B::B::DB::bs 7 (DI::DI::bs 12 []),zs 26 [],.none⟩
def akd:=akb.q1 {mask:=mk [(4,[0,1,4,12,13])]} func128 [pd (.sl fA),pd (.sl fA)] [rB] (c2 Pu.mA) Uf (λX K=>Pu.jS (λy0=>ke 0 K Uf ((z4 (u y0) X.1),X.2)) (λy0 y1=>kr K Uf ((z2 (w y0 (z1 (u y1))) X.1),X.2)) X.1.1 X.1.2.1 (q2 X) (q3 X)) q4 (λX x=>((z4 (u x) X.1),X.2))
abbrev Ug:SD:=⟨cB (iS .bool)::cB (iS .bool)::B::B::DB::bs 7 (DI::DI::bs 12 []),zs 26 [],.none⟩
def ake:=akd.q1 {mask:=mk [(4,[0,1,4,12,13])]} func129 [pd (.sl .bool),pd (.sl .bool)] [rB] (c2 Pu.px) Ug (λX K=>Pu.lH (λy0=>ke 0 K Ug ((z4 (u y0) X.1),X.2)) (λy0 y1=>kr K Ug ((z2 (w y0 (z1 (u y1))) X.1),X.2)) X.1.1 X.1.2.1 (q2 X) (q3 X)) q4 (λX x=>((z4 (u x) X.1),X.2))
def akf:=ake.q0 {merge:=mg [(1,4)]} func130 [pf vo,pf vo] [rB] (c2 sm)
abbrev Ut:SD:=⟨cB (iS iK)::cB (iS iK)::B::B::DB::bs 7 (DI::DI::bs 12 []),zs 26 [],.none⟩
def alo:=akf.q1 {mask:=mk [(4,[0,1,4,12,13])]} func218 [pd (.sl iK),pd (.sl iK)] [rB] (c2 Pu.pt) Ut (λX K=>Pu.lE (λy0=>ke 0 K Ut ((z4 (u y0) X.1),X.2)) (λy0 y1=>kr K Ut ((z2 (w y0 (z1 (u y1))) X.1),X.2)) X.1.1 X.1.2.1 (q2 X) (q3 X)) q4 (λX x=>((z4 (u x) X.1),X.2))
abbrev Uu:SD:=⟨cB (iS fW)::cB (iS fW)::B::B::DB::bs 7 (DI::DI::bs 12 []),zs 26 [],.none⟩
def alp:=alo.q1 {mask:=mk [(4,[0,1,4,12,13])]} func219 [pd (.sl fW),pd (.sl fW)] [rB] (c2 Pu.pw) Uu (λX K=>Pu.lG (λy0=>ke 0 K Uu ((z4 (u y0) X.1),X.2)) (λy0 y1=>kr K Uu ((z2 (w y0 (z1 (u y1))) X.1),X.2)) X.1.1 X.1.2.1 (q2 X) (q3 X)) q4 (λX x=>((z4 (u x) X.1),X.2))
def akg:=alp.q0 {merge:=mg [(1,4)]} func131 [pf oD,pf oD] [rB] (c2 pn)
abbrev Uh:SD:=⟨cB (iS dG)::cB (iS dG)::B::B::DB::bs 7 (DI::DI::bs 12 []),zs 26 [],.none⟩
def akh:=akg.q1 {mask:=mk [(4,[0,1,4,12,13])]} func132 [pd (.sl dG),pd (.sl dG)] [rB] (c2 Pu.mz) Uh (λX K=>Pu.jR (λy0=>ke 0 K Uh ((z4 (u y0) X.1),X.2)) (λy0 y1=>kr K Uh ((z2 (w y0 (z1 (u y1))) X.1),X.2)) X.1.1 X.1.2.1 (q2 X) (q3 X)) q4 (λX x=>((z4 (u x) X.1),X.2))
def G64:=akh.q0 {merge:=mg [(1,4)]} func64 [pf dC,pf dC] [rB] (c2 sk)
abbrev abj:SD:=⟨B::B::.ptr 2 0::.ptr 3 0::DB::bs 28 (cB (iS bC)::DI::DI::bs 62 []),Z::Z::(some Y4)::(some Y4)::zs 94 [],.none⟩
def G20:=G64.q1 {mask:=mk [(4,[2,3,4,33,34,35])],merge:=mg [(1,31),(7,58),(10,96)]} func20 [pf dC,pf dC] [rB] (c2 vF) abj (λX K=>mO (λy0=>ke 0 K abj ((z3 (u y0) X.1),X.2)) (λy0 y1=>kr K abj ((w y0 (z2 (u y1)) X.1),X.2)) X.1.1 X.1.2.1 (q2 X) X.2.1.1 X.2.1.2.1) q3 (λX x=>((z3 (u x) X.1),X.2))
abbrev yI:aw PS:=[pd (.sl (.int .u8))]
def Cg:jb:=M0 yI [rB] (c1 Bl)
def CI:An:={mask:=mk [(6,[0,2,3,4,5,6])],merge:=mg [(16,2)],mv:=[35],sb:=mg [(7,7)]}
abbrev mI:SD:=⟨cB (iS (.int .u8))::B::DB::.ptr 3 0::cB (.sl .loc Ab)::.ptr 5 0::DI::bs 82 [],Z::Z::Z::(pD (cD (.sl .loc .str) (cD (.sl .loc bC) (cD (cD Y1 (cD (ju (ju (ju (.sl .loc (.int .i64))))) (cD (.sl .loc hU) yO))) (cD (.sl .loc dI) (cD (.sl .loc hH) (cD (.sl .loc fA) (cD (.sl .loc .bool) (cD (ju (cD .bool (.sl .loc (.int .i64)))) (cD (cD (.sl .loc iK) (cD (.sl .loc fW) (cD .str (.sl .loc (.int .i64))))) (cD (.sl .loc dG) (cD .bool (cD (.sl .loc .str) (cD (.sl .loc (.int .i64)) (cD (.sl .loc (.int .i64)) (cD yO Y1))))))))))))))))::Z::(some Y30)::zs 83 [],.none⟩
def AG (X:SD.D mI)(K:uN R):=wQ (λy0 y1 y2=>ke 0 K mI ((z3 (u y0) X.1),(w y1 (u y2) X.2.1),X.2.2)) (λy0 y1 y2 y3=>kr K mI ((z1 (w y0 (z1 (u y1))) X.1),(w y2 (u y3) X.2.1),X.2.2)) X.1.1 X.1.2.1 (q2 X)
def BX:kZ:=kZ.nil.add 6 (yR mI AG (λX=>(q3 X,X.2.1.1,X.2.1.2.1)))
theorem Ho:xV E G20.g CI BX (cJ f4 0):=lk mI AG (λX=>(q3 X,X.2.1.1,X.2.1.2.1)) λX x=>((z3 (u x.1) X.1),(w x.2.1 (u x.2.2) X.2.1),X.2.2)
theorem K6:DR 4 Cg:=fk CI G20.s func4 (Λ:=BX) (cF Ho nF)
end
end Go.Proofs.YtinkcmefgciifaaGreat.Fn
