import Derived.Test.YtnmppgnbjfdffaaGreatDnSig
import Derived.Test.YtnmppgnbjfdffaaGreatPure
import Derived.Test.YtnmppgnbjfdffaaGreatRows
/- Each function of the program is its pure function (made by gen.py). -/
namespace Go.Proofs.YtnmppgnbjfdffaaGreat.Fn
open Go.Dn
open Go.Pu Go.Proofs.Tryz
set_option maxRecDepth 100000
set_option linter.unusedVariables false
noncomputable section
variable {an:An} {Γ:xT} {Λ:kZ} {f:Nat} {P:Program} {A0 A1 A2 A3 A4 A5 A6 C R σ:Type} {rs:aw (Bool×FT)} {s:aw PS}
abbrev uM (R:Type):=Ex->AS->Option R
abbrev yO:FT:=.int .i64
abbrev cD (a b:FT):FT:=.pair a b
abbrev js (b:FT):FT:=.pair (.int .i64) b
abbrev dh (n:Nat)(t:CT):FT:=.sl (.own (some n)) t
abbrev pD (t:FT):Option FT:=some t
abbrev cC (t:FT):PD:=.data false t
abbrev jU (t:FT):PD:=.data true t
abbrev iQ (t:CT):FT:=.sl .arg t
abbrev DQ:=gC Tryz.prog
abbrev B:PD:=.bot
abbrev DI:PD:=.data false (.int .i64)
abbrev DB:PD:=.data false .bool
abbrev Z:ax FT:=none
theorem nF {p:Code->Prop}:∀x∈([]:aw Code),p x:=λ_ h=>nomatch h
theorem cF {p:Code->Prop}{a:Code}{l:aw Code}(h:p a)(t:∀x∈l,p x):∀x∈a::l,p x:=List.forall_mem_cons.2 ⟨h,t⟩
theorem hF {p:Code->Prop}{l m:aw Code}(e:l=m)(h:∀x∈m,p x):∀x∈l,p x:=e▸h
theorem fk {E:Env}{F:zH s->ax (kj rs)}{fn:Func}(an:An)(hS:Sound P E Γ)(hf:P.funcs[f]?=some fn){l:aw Code}(h:∀c∈l,xU E Γ an Λ c)(hn:(fn.name== "runtime.NumGoroutine")=false:=by kernel_rfl)(hl:gX (fn.body.getD .skip)=l:=by kernel_rfl)(fi:an.cut=[]:=by kernel_rfl)(hF:∀a,Ci E Γ an Λ fn rs (kR s a)=F a:=by intro a;kernel_rfl):gC P f (M4 s rs F):=gC.of (Yj hS hf hn (yf.of (Fn.hF hl h) fi)) hF
theorem ao {E:Env}{b:Code}{l:aw Code}(h:∀c∈l,xU E Γ an Λ c)(hl:gX b=l:=by kernel_rfl)(hc:an.cut=[]:=by kernel_rfl):yf E Γ an Λ b:=yf.of (Fn.hF hl h) hc
theorem ac {E:Env}{b:Code}{l m:aw Code}(h:∀c∈l,xU E Γ an Λ c)(hc:∀c∈m,TF E Γ an Λ c)(hl:gX b=l:=by kernel_rfl)(hm:ks an.cut b=m:=by kernel_rfl):yf E Γ an Λ b:=⟨Fn.hF hl h,Fn.hF hm hc⟩
theorem fc {E:Env}{F:zH s->ax (kj rs)}{fn:Func}(an:An)(hS:Sound P E Γ)(hf:P.funcs[f]?=some fn){l m:aw Code}(h:∀c∈l,xU E Γ an Λ c)(hc:∀c∈m,TF E Γ an Λ c)(hn:(fn.name== "runtime.NumGoroutine")=false:=by kernel_rfl)(hl:gX (fn.body.getD .skip)=l:=by kernel_rfl)(hm:ks an.cut (fn.body.getD .skip)=m:=by kernel_rfl)(hF:∀a,Ci E Γ an Λ fn rs (kR s a)=F a:=by intro a;kernel_rfl):gC P f (M4 s rs F):=gC.of (Yj hS hf hn ⟨Fn.hF hl h,Fn.hF hm hc⟩) hF
abbrev pd (t:CT):PS:=.data false t
abbrev pf (t:CT):PS:=.data true t
abbrev pI:PS:=.data false (.int .i64)
abbrev rB:Bool×FT:=(false,.bool)
abbrev rI:Bool×FT:=(false,.int .i64)
abbrev rS:Bool×FT:=(false,.str)
abbrev bs:Nat->aw PD->aw PD|0,l=>l|n+1,l=> .bot::bs n l
abbrev zs:Nat->aw (ax FT)->aw (ax FT)|0,l=>l|n+1,l=>none::zs n l
def mk (l:aw (Nat×fw))(n:Nat):fw:=(l.lookup n).getD []
def mg (l:aw (Nat×Nat))(n:Nat):ax Nat:=l.lookup n
def ke (n:Nat)(K:uM R)(d:SD)(x:SD.D d):ax R:=K (.exit n) (SD.enc d x)
def kn (K:uM R)(d:SD)(x:SD.D d):ax R:=K .normal (SD.enc d x)
def kr (K:uM R)(d:SD)(x:SD.D d):ax R:=K .ret (SD.enc d x)
def yR (d:SD)(t:{R:Type}->SD.D d->(Ex->AS->ax R)->(σ->ax R)->σ->ax R)(i:SD.D d->σ):GV:=⟨d,λX K=>aX (t X K) fuel (i X)⟩
theorem lk {E:Env}{c:Code}(d:SD)(t:{R:Type}->SD.D d->(Ex->AS->ax R)->(σ->ax R)->σ->ax R)(i:SD.D d->σ)(w:SD.D d->σ->SD.D d)(h1:Λ (ed c)=yR d t i:=by kernel_rfl)(h:∀(R:Type)(X:SD.D d)(K:uM R)(m:Nat)(x:σ),zv (an.mask (ed c)) (den E Γ an Λ c) (m+1) (SD.enc d (w X x)) K=t X K (λy=>zv (an.mask (ed c)) (den E Γ an Λ c) m (SD.enc d (w X y)) K) x:=by intro R X K m x;kernel_rfl)(hw:∀X,w X (i X)=X:=by intro X;kernel_rfl):xU E Γ an Λ c:=lok (yR d t i) h1 fuel λR X K=>(NG (λx=>SD.enc d (w X x)) (t X K) (h R X K) fuel (i X)).symm.trans (congrArg (λy=>zv (an.mask (ed c)) (den E Γ an Λ c) fuel (SD.enc d y) K) (hw X))
def Zw (d:SD)(t:{R:Type}->SD.D d->(Ex->AS->ax R)->ax R):GV:=⟨d,λX K=>t X K⟩
theorem ck {E:Env}{c:Code}(d:SD)(t:{R:Type}->SD.D d->(Ex->AS->ax R)->ax R)(h1:Λ (B8 c)=Zw d t:=by kernel_rfl)(h:∀(R:Type)(X:SD.D d)(K:uM R),t X K=den E Γ an Λ c (SD.enc d X) (λe bH=>K e (bH.mask (an.mask (B8 c+1)))):=by intro R X K;kernel_rfl):TF E Γ an Λ c:=cok (Zw d t) h1 h
def u {A B:Type}(y:A)(x:A×B):A×B:=(y,x.2)
def w {A B:Type}(y:A)(f:B->B)(x:A×B):A×B:=(y,f x.2)
def z1 {B:Type}(f:B->B)(x:A0×B):A0×B:=(x.1,f x.2)
def z2 {B:Type}(f:B->B)(x:A0×A1×B):A0×A1×B:=(x.1,x.2.1,f x.2.2)
def z3 {B:Type}(f:B->B)(x:A0×A1×A2×B):A0×A1×A2×B:=(x.1,x.2.1,x.2.2.1,f x.2.2.2)
def z4 {B:Type}(f:B->B)(x:A0×A1×A2×A3×B):A0×A1×A2×A3×B:=(x.1,x.2.1,x.2.2.1,x.2.2.2.1,f x.2.2.2.2)
def z5 {B:Type}(f:B->B)(x:A0×A1×A2×A3×A4×B):A0×A1×A2×A3×A4×B:=(x.1,x.2.1,x.2.2.1,x.2.2.2.1,x.2.2.2.2.1,f x.2.2.2.2.2)
def z6 {B:Type}(f:B->B)(x:A0×A1×A2×A3×A4×A5×B):A0×A1×A2×A3×A4×A5×B:=(x.1,x.2.1,x.2.2.1,x.2.2.2.1,x.2.2.2.2.1,x.2.2.2.2.2.1,f x.2.2.2.2.2.2)
def z7 {B:Type}(f:B->B)(x:A0×A1×A2×A3×A4×A5×A6×B):A0×A1×A2×A3×A4×A5×A6×B:=(x.1,x.2.1,x.2.2.1,x.2.2.2.1,x.2.2.2.2.1,x.2.2.2.2.2.1,x.2.2.2.2.2.2.1,f x.2.2.2.2.2.2.2)
def q2 {B:Type}(x:(A0×A1×A2×B)×C):A2:=x.1.2.2.1
def q3 {B:Type}(x:(A0×A1×A2×A3×B)×C):A3:=x.1.2.2.2.1
def q4 {B:Type}(x:(A0×A1×A2×A3×A4×B)×C):A4:=x.1.2.2.2.2.1
def q5 {B:Type}(x:(A0×A1×A2×A3×A4×A5×B)×C):A5:=x.1.2.2.2.2.2.1
def q6 {B:Type}(x:(A0×A1×A2×A3×A4×A5×A6×B)×C):A6:=x.1.2.2.2.2.2.2.1
def q7 {A7 B:Type}(x:(A0×A1×A2×A3×A4×A5×A6×A7×B)×C):A7:=x.1.2.2.2.2.2.2.2.1
def q8 {A7 A8 B:Type}(x:(A0×A1×A2×A3×A4×A5×A6×A7×A8×B)×C):A8:=x.1.2.2.2.2.2.2.2.2.1
def q9 {A7 A8 A9 B:Type}(x:(A0×A1×A2×A3×A4×A5×A6×A7×A8×A9×B)×C):A9:=x.1.2.2.2.2.2.2.2.2.2.1
def c1 {B:Type}(f:A0->R)(a:A0×B):R:=f a.1
def c2 {B:Type}(f:A0->A1->R)(a:A0×A1×B):R:=f a.1 a.2.1
def c3 {B:Type}(f:A0->A1->A2->R)(a:A0×A1×A2×B):R:=f a.1 a.2.1 a.2.2.1
def c4 {B:Type}(f:A0->A1->A2->A3->R)(a:A0×A1×A2×A3×B):R:=f a.1 a.2.1 a.2.2.1 a.2.2.2.1
def c5 {B:Type}(f:A0->A1->A2->A3->A4->R)(a:A0×A1×A2×A3×A4×B):R:=f a.1 a.2.1 a.2.2.1 a.2.2.2.1 a.2.2.2.2.1
def c6 {B:Type}(f:A0->A1->A2->A3->A4->A5->R)(a:A0×A1×A2×A3×A4×A5×B):R:=f a.1 a.2.1 a.2.2.1 a.2.2.2.1 a.2.2.2.2.1 a.2.2.2.2.2.1
def c7 {B:Type}(f:A0->A1->A2->A3->A4->A5->A6->R)(a:A0×A1×A2×A3×A4×A5×A6×B):R:=f a.1 a.2.1 a.2.2.1 a.2.2.2.1 a.2.2.2.2.1 a.2.2.2.2.2.1 a.2.2.2.2.2.2.1
theorem f0 {E:Env}{F:zH s->ax (kj rs)}{fn:Func}(an:An)(hS:Sound P E Γ)(hf:P.funcs[f]?=some fn)(hn:(fn.name== "runtime.NumGoroutine")=false:=by kernel_rfl)(hl:gX (fn.body.getD .skip)=[]:=by kernel_rfl)(fi:an.cut=[]:=by rfl)(hF:∀a,Ci E Γ an kZ.nil fn rs (kR s a)=F a:=by intro a;kernel_rfl):gC P f (M4 s rs F):=gC.of (Yj hS hf hn (yf.of (Fn.hF hl nF) fi)) hF
abbrev Y19:FT:=js (js yO)
abbrev Y1:FT:=cD yO Y19
abbrev Y8:FT:=js (js (js (.sl (.own none) (.int .i64))))
abbrev Y16:FT:=cD Y1 (cD Y8 (cD (.sl (.own none) hG) yO))
abbrev Y23:FT:=js (cD .bool (.sl (.own none) (.int .i64)))
abbrev Y18:FT:=cD (.sl (.own none) iI) (cD (.sl (.own none) fW) (cD .str (.sl (.own none) (.int .i64))))
abbrev Y0:FT:=cD (.sl (.own none) .str) (cD (.sl (.own none) bC) (cD Y16 (cD (.sl (.own none) dI) (cD (.sl (.own none) gZ) (cD (.sl (.own none) fA) (cD (.sl (.own none) .bool) (cD Y23 (cD Y18 (cD (.sl (.own none) dG) (cD .bool (cD (.sl (.own none) .str) (cD (.sl (.own none) (.int .i64)) (cD (.sl (.own none) (.int .i64)) (cD yO Y1))))))))))))))
abbrev Y2:FT:=cD (dh 24577 .str) (cD (dh 24580 bC) (cD (cD Y1 (cD (js (js (js (dh 24604 (.int .i64))))) (cD (dh 24607 hG) yO))) (cD (dh 24613 dI) (cD (dh 24616 gZ) (cD (dh 24619 fA) (cD (dh 24622 .bool) (cD (js (cD .bool (dh 24631 (.int .i64)))) (cD (cD (dh 24634 iI) (cD (dh 24637 fW) (cD .str (dh 24643 (.int .i64))))) (cD (dh 24646 dG) (cD .bool (cD (dh 24652 .str) (cD (dh 24655 (.int .i64)) (cD (dh 24658 (.int .i64)) (cD yO Y1))))))))))))))
abbrev Y14:FT:=js (js (js (js .str)))
abbrev Y20:FT:=js (cD yO Y14)
abbrev Y3:FT:=js (js (js (js (js (js (js (js (cD yO Y20))))))))
abbrev Y13:FT:=js (js (js (.sl .arg (.int .i64))))
abbrev Y24:FT:=cD Y1 (cD Y13 (cD (.sl .arg hG) yO))
abbrev Y25:FT:=js (cD .bool (.sl .arg (.int .i64)))
abbrev Y17:FT:=cD (.sl .arg iI) (cD (.sl .arg fW) (cD .str (.sl .arg (.int .i64))))
abbrev Y4:FT:=cD (.sl .arg .str) (cD (.sl .arg bC) (cD Y24 (cD (.sl .arg dI) (cD (.sl .arg gZ) (cD (.sl .arg fA) (cD (.sl .arg .bool) (cD Y25 (cD Y17 (cD (.sl .arg dG) (cD .bool (cD (.sl .arg .str) (cD (.sl .arg (.int .i64)) (cD (.sl .arg (.int .i64)) (cD yO Y1))))))))))))))
abbrev Y5:FT:=cD (dh 36865 .str) (cD (dh 36868 bC) (cD (cD Y1 (cD (js (js (js (dh 36892 (.int .i64))))) (cD (dh 36895 hG) yO))) (cD (dh 36901 dI) (cD (dh 36904 gZ) (cD (dh 36907 fA) (cD (dh 36910 .bool) (cD (js (cD .bool (dh 36919 (.int .i64)))) (cD (cD (dh 36922 iI) (cD (dh 36925 fW) (cD .str (dh 36931 (.int .i64))))) (cD (dh 36934 dG) (cD .bool (cD (dh 36940 .str) (cD (dh 36943 (.int .i64)) (cD (dh 36946 (.int .i64)) (cD yO Y1))))))))))))))
abbrev Y6:FT:=cD (dh 49153 .str) (cD (dh 49156 bC) (cD (cD Y1 (cD (js (js (js (dh 49180 (.int .i64))))) (cD (dh 49183 hG) yO))) (cD (dh 49189 dI) (cD (dh 49192 gZ) (cD (dh 49195 fA) (cD (dh 49198 .bool) (cD (js (cD .bool (dh 49207 (.int .i64)))) (cD (cD (dh 49210 iI) (cD (dh 49213 fW) (cD .str (dh 49219 (.int .i64))))) (cD (dh 49222 dG) (cD .bool (cD (dh 49228 .str) (cD (dh 49231 (.int .i64)) (cD (dh 49234 (.int .i64)) (cD yO Y1))))))))))))))
abbrev Y7:FT:=cD (.sl .wJ (.int .u8)) (js yO)
abbrev Y9:FT:=cD Y1 (cD Y19 (cD Y19 (cD (cD Y3 (js yO)) (cD .bool yO))))
abbrev Y10:FT:=cD (dh 196609 .str) (cD (dh 196612 bC) (cD (cD Y1 (cD (js (js (js (dh 196636 (.int .i64))))) (cD (dh 196639 hG) yO))) (cD (dh 196645 dI) (cD (dh 196648 gZ) (cD (dh 196651 fA) (cD (dh 196654 .bool) (cD (js (cD .bool (dh 196663 (.int .i64)))) (cD (cD (dh 196666 iI) (cD (dh 196669 fW) (cD .str (dh 196675 (.int .i64))))) (cD (dh 196678 dG) (cD .bool (cD (dh 196684 .str) (cD (dh 196687 (.int .i64)) (cD (dh 196690 (.int .i64)) (cD yO Y1))))))))))))))
abbrev Y11:FT:=cD (dh 147457 .str) (cD (dh 147460 bC) (cD (cD Y1 (cD (js (js (js (dh 147484 (.int .i64))))) (cD (dh 147487 hG) yO))) (cD (dh 147493 dI) (cD (dh 147496 gZ) (cD (dh 147499 fA) (cD (dh 147502 .bool) (cD (js (cD .bool (dh 147511 (.int .i64)))) (cD (cD (dh 147514 iI) (cD (dh 147517 fW) (cD .str (dh 147523 (.int .i64))))) (cD (dh 147526 dG) (cD .bool (cD (dh 147532 .str) (cD (dh 147535 (.int .i64)) (cD (dh 147538 (.int .i64)) (cD yO Y1))))))))))))))
abbrev Y12:FT:=js (js (js (js (cD .bool .bool))))
abbrev Y15:FT:=cD (dh 49153 iI) (cD (dh 49156 fW) (cD .str (dh 49162 (.int .i64))))
abbrev Y21:FT:=cD (.sl (.own none) .str) (cD (.sl (.own none) (.int .i64)) yO)
abbrev Y22:FT:=cD (dh 24577 iI) (cD (dh 24580 fW) (cD .str (dh 24586 (.int .i64))))
abbrev Y26:FT:=js (js (js (dh 184330 (.int .i64))))
abbrev Y27:FT:=js (js (js (dh 147466 (.int .i64))))
abbrev Y28:FT:=js (js (js (dh 98314 (.int .i64))))
abbrev Y29:FT:=js (js (js (dh 73738 (.int .i64))))
abbrev Y30:FT:=cD (dh 61441 .str) (cD (dh 61444 (.int .i64)) yO)
def E:Env:={ty:=[(3,⟨false,(.int .i64),[]⟩),(4,⟨false,.bool,[]⟩),(5,⟨false,(.int .u8),[]⟩),(9,⟨false,.str,[]⟩),(22,⟨false,(.sl (.int .u8)),[(5,0)]⟩),(24,⟨false,(.sl .str),[(9,0)]⟩),(26,⟨true,(.sl .str),[(0,1)]⟩),(27,⟨false,(.sl bC),[(99,0)]⟩),(29,⟨true,sO,[(0,1),(1,1),(2,1),(3,1)]⟩),(30,⟨false,(.sl (.int .i64)),[(3,0)]⟩),(32,⟨true,gZ,[(0,1),(1,1),(2,1),(3,1)]⟩),(33,⟨false,(.sl hG),[(104,0)]⟩),(35,⟨true,ko,[(0,4),(4,4),(8,1),(9,1)]⟩),(36,⟨false,(.sl dI),[(111,0)]⟩),(37,⟨false,(.sl gZ),[(32,0)]⟩),(38,⟨false,(.sl fA),[(74,0)]⟩),(39,⟨false,(.sl .bool),[(4,0)]⟩),(41,⟨true,vn,[(0,1),(1,1),(2,1)]⟩),(42,⟨false,(.sl iI),[(190,0)]⟩),(43,⟨false,(.sl fW),[(192,0)]⟩),(45,⟨true,(.sl fW),[(0,1)]⟩),(47,⟨true,Db,[(0,1),(1,1)]⟩),(49,⟨true,oD,[(0,1),(1,1),(2,2)]⟩),(50,⟨false,(.sl dG),[(134,0)]⟩),(52,⟨true,pG,[(0,1),(1,1),(2,1),(3,1),(4,1)]⟩),(54,⟨true,dC,[(0,1),(1,1),(2,10),(12,1),(13,1),(14,1),(15,1),(16,3),(19,4),(23,1),(24,1),(25,1),(26,1),(27,1),(28,5)]⟩),(55,⟨false,(.sl Ab),[(92,0)]⟩),(59,⟨true,WE,[(0,1),(1,1),(2,1)]⟩),(74,⟨true,fA,[(0,1),(1,1),(2,1),(3,1),(4,1),(5,1)]⟩),(88,⟨true,Ac,[(0,1),(1,1),(2,1),(3,1),(4,1),(5,1),(6,1),(7,1)]⟩),(90,⟨true,cU,[(0,1),(1,1),(2,1),(3,1),(4,1),(5,1),(6,1),(7,1),(8,8)]⟩),(92,⟨true,Ab,[(0,1),(1,16),(17,1),(18,1),(19,1),(20,1)]⟩),(99,⟨true,bC,[(0,1),(1,1),(2,1),(3,1)]⟩),(104,⟨true,hG,[(0,1),(1,1),(2,1)]⟩),(107,⟨true,gO,[(0,1),(1,1),(2,1)]⟩),(109,⟨true,Oj,[(0,16),(16,1),(17,1)]⟩),(111,⟨true,dI,[(0,4),(4,3),(7,3),(10,18),(28,1),(29,1)]⟩),(132,⟨true,pG,[(0,1),(1,1),(2,1),(3,1),(4,1)]⟩),(134,⟨true,dG,[(0,5),(5,1),(6,1),(7,1)]⟩),(137,⟨true,(.pair (.sl (.int .u8)) (.pair (.int .i64) (.int .i64))),[(0,1),(1,1),(2,1)]⟩),(138,⟨false,(.sl cU),[(90,0)]⟩),(180,⟨true,nq,[(0,1),(1,1),(2,1),(3,1),(4,1),(5,1)]⟩),(190,⟨true,iI,[(0,1),(1,1),(2,1),(3,1),(4,1),(5,1),(6,1),(7,1),(8,1)]⟩),(192,⟨true,fW,[(0,1),(1,5),(6,1)]⟩),(204,⟨true,pG,[(0,1),(1,1),(2,1),(3,1),(4,1)]⟩),(234,⟨false,(.sl iB),[(238,0)]⟩),(238,⟨true,iB,[(0,1),(1,1)]⟩),(262,⟨true,TIp,[(0,1),(1,1),(2,1),(3,1),(4,1),(5,1),(6,1)]⟩),(265,⟨true,aaP,[(0,1),(1,1),(2,1),(3,1),(4,1)]⟩),(285,⟨false,(.sl iB),[(319,0)]⟩),(288,⟨false,(.sl nq),[(180,0)]⟩),(319,⟨true,iB,[(0,1),(1,1)]⟩),(334,⟨false,(.int .u32),[]⟩)],eqs:=[(29,[.int,.int,.int,.int]),(52,[.int,.int,.int,.int,.int]),(74,[.int,.int,.int,.int,.bool,.bool]),(90,[.int,.int,.int,.int,.int,.int,.int,.int,.int,.int,.int,.int,.int,.int,.int,.str]),(109,[.int,.int,.int,.int,.int,.int,.int,.int,.int,.int,.int,.int,.int,.int,.int,.str,.int,.int]),(111,[.int,.int,.int,.int,.int,.int,.int,.int,.int,.int,.int,.int,.int,.int,.int,.int,.int,.int,.int,.int,.int,.int,.int,.int,.int,.str,.int,.int,.bool,.int]),(132,[.int,.int,.int,.int,.int]),(134,[.int,.int,.int,.int,.int,.int,.str,.bool]),(180,[.int,.int,.int,.int,.int,.int]),(190,[.int,.int,.int,.int,.int,.int,.int,.int,.int]),(192,[.int,.int,.int,.int,.int,.int,.int])],fts:=[((59,0),26)]}
theorem base:Sound Tryz.prog E xT.nil:=Sound.nil (Sl (by kernel_rfl)) (So (by kernel_rfl)) (Sn (by kernel_rfl)) (by kernel_rfl)
structure SG where (g:xT) (s:Sound Tryz.prog E g)
def SG.add (S:SG){F:iZ}(h:DQ f F):SG:=⟨S.g.add f F,S.s.add h⟩
def G0:SG:=⟨xT.nil,base⟩
def SG.q0 (S:SG){fn:Func}(an:An)(hf:Tryz.prog.funcs[f]?=some fn)(s:aw PS)(rs:aw (Bool×FT))(F:zH s->ax (kj rs))(hn:(fn.name== "runtime.NumGoroutine")=false:=by kernel_rfl)(hl:gX (fn.body.getD .skip)=[]:=by kernel_rfl)(fi:an.cut=[]:=by rfl)(hF:∀a,Ci E S.g an kZ.nil fn rs (kR s a)=F a:=by intro a;kernel_rfl):SG:=S.add (gC.of (Yj S.s hf hn (yf.of (Fn.hF hl nF) fi)) hF)
def SG.qk (S:SG){fn:Func}(an:An)(hf:Tryz.prog.funcs[f]?=some fn)(s:aw PS)(rs:aw (Bool×FT))(F:zH s->ax (kj rs)){l:aw Code}(h:∀c∈l,xU E S.g an Λ c)(hn:(fn.name== "runtime.NumGoroutine")=false:=by kernel_rfl)(hl:gX (fn.body.getD .skip)=l:=by kernel_rfl)(fi:an.cut=[]:=by kernel_rfl)(hF:∀a,Ci E S.g an Λ fn rs (kR s a)=F a:=by intro a;kernel_rfl):SG:=S.add (gC.of (Yj S.s hf hn (yf.of (Fn.hF hl h) fi)) hF)
def SG.q1 (S:SG){fn:Func}(an:An)(hf:Tryz.prog.funcs[f]?=some fn)(s:aw PS)(rs:aw (Bool×FT))(F:zH s->ax (kj rs))(d:SD)(t:{R:Type}->SD.D d->(Ex->AS->ax R)->(σ->ax R)->σ->ax R)(i:SD.D d->σ)(w:SD.D d->σ->SD.D d)(h1:(kZ.nil.add (ed (cJ fn 0)) (yR d t i)) (ed (cJ fn 0))=yR d t i:=by kernel_rfl)(h:∀(R:Type)(X:SD.D d)(K:uM R)(m:Nat)(x:σ),zv (an.mask (ed (cJ fn 0))) (den E S.g an (kZ.nil.add (ed (cJ fn 0)) (yR d t i)) (cJ fn 0)) (m+1) (SD.enc d (w X x)) K=t X K (λy=>zv (an.mask (ed (cJ fn 0))) (den E S.g an (kZ.nil.add (ed (cJ fn 0)) (yR d t i)) (cJ fn 0)) m (SD.enc d (w X y)) K) x:=by intro R X K m x;kernel_rfl)(hw:∀X,w X (i X)=X:=by intro X;kernel_rfl)(hn:(fn.name== "runtime.NumGoroutine")=false:=by kernel_rfl)(hl:gX (fn.body.getD .skip)=[cJ fn 0]:=by kernel_rfl)(fi:an.cut=[]:=by kernel_rfl)(hF:∀a,Ci E S.g an (kZ.nil.add (ed (cJ fn 0)) (yR d t i)) fn rs (kR s a)=F a:=by intro a;kernel_rfl):SG:=S.add (gC.of (Yj S.s hf hn (yf.of (Fn.hF hl (cF (lk d t i w h1 h hw) nF)) fi)) hF)
def G6:=G0.q0 {} func6 [pd (.sl (.int .u8))] [rB] (c1 Gb)
def e26:iZ:=UF (.pair (.sl .arg (.int .u8)) (.pair (.int .i64) (.int .i64))) [pd (.sl (.int .u8))] λa=>zE a.1
def n26:An:={mask:=mk [(3,[0,3,4])],merge:=mg [(3,15)]}
abbrev WS:SD:=⟨cC (iQ (.int .u8))::B::B::DI::DI::bs 27 [],zs 32 [],.none⟩
def agh (X:SD.D WS)(K:uM R):=yK (λy0 y1=>ke 0 K WS ((z1 (w y0 (u y1)) X.1),X.2)) X.1.1
def L26:kZ:=kZ.nil.add 3 (yR WS agh (λX=>(X.1.2.1,q2 X)))
theorem ajq:xU E G6.g n26 L26 (cJ f26 0):=lk WS agh (λX=>(X.1.2.1,q2 X)) λX x=>((z1 (w x.1 (u x.2)) X.1),X.2)
theorem o26:DQ 26 e26:=gC.ajH (aiN (Γ:=G6.g) (an:=n26) (Λ:=L26) (G6.s) func26 (by kernel_rfl) (ao (cF ajq nF))) (λa=>by kernel_rfl)
def G26:=G6.add o26
def amP:iZ:=jd (.pair (.sl .wJ (.int .u8)) (.pair (.int .i64) (.int .i64))) [] [rI] λx a=>jS x
theorem anK:DQ 124 amP:=gC.pq (oU (an:={}) (Λ:=kZ.nil) (G26.s) func124 (by kernel_rfl) (ao nF)) (λx a=>by kernel_rfl)
def aih:=G26.add anK
def e67:iZ:=jd (.pair (.sl .wJ (.int .u8)) (.pair (.int .i64) (.int .i64))) [pI] [rI] λx a=>cd x a.1
theorem o67:DQ 67 e67:=gC.pq (oU (an:={}) (Λ:=kZ.nil) (aih.s) func67 (by kernel_rfl) (ao nF)) (λx a=>by kernel_rfl)
def G67:=aih.add o67
def e65:iZ:=jd (.pair (.sl .wJ (.int .u8)) (.pair (.int .i64) (.int .i64))) [pI] [rB] λx a=>gq x a.1
theorem o65:DQ 65 e65:=gC.pq (oU (an:={}) (Λ:=kZ.nil) (G67.s) func65 (by kernel_rfl) (ao nF)) (λx a=>by kernel_rfl)
def G65:=G67.add o65
def e68:iZ:=jd (.pair (.sl .wJ (.int .u8)) (.pair (.int .i64) (.int .i64))) [pI] [rS] λx a=>lL x a.1
def n68:An:={mask:=mk [(5,[0,1,5,6])],mv:=[15]}
abbrev WW:SD:=⟨.ptr 0 0::DI::B::B::B::cC (dh 61440 (.int .u8))::DI::bs 16 [],(some Y7)::zs 22 [],.ptr⟩
def agm (X:SD.D WW)(K:uM R):=ot (λy0 y1 y2=>ke 0 K WW ((z1 (w y0 (u y1)) X.1),(u y2 X.2.1),X.2.2)) X.1.1
def L68:kZ:=kZ.nil.add 5 (yR WW agm (λX=>(X.1.2.1,q2 X,X.2.1.1)))
theorem ajv:xU E G65.g n68 L68 (cJ f68 0):=lk WW agm (λX=>(X.1.2.1,q2 X,X.2.1.1)) λX x=>((z1 (w x.1 (u x.2.1)) X.1),(u x.2.2 X.2.1),X.2.2)
theorem o68:DQ 68 e68:=gC.pq (oU (Γ:=G65.g) (an:=n68) (Λ:=L68) (G65.s) func68 (by kernel_rfl) (ao (cF ajv nF))) (λx a=>by kernel_rfl)
def G68:=G65.add o68
def e70:iZ:=jd (.pair (.sl .wJ (.int .u8)) (.pair (.int .i64) (.int .i64))) [pd (.sl (.int .i64))] [rI] λx a=>cp x a.1
theorem o70:DQ 70 e70:=gC.pq (oU (an:={}) (Λ:=kZ.nil) (G68.s) func70 (by kernel_rfl) (ao nF)) (λx a=>by kernel_rfl)
def G70:=G68.add o70
def amQ:iZ:=jd (.pair (.sl .wJ (.int .u8)) (.pair (.int .i64) (.int .i64))) [] [rI] λx a=>qM x
theorem anL:DQ 125 amQ:=gC.pq (oU (an:={}) (Λ:=kZ.nil) (G70.s) func125 (by kernel_rfl) (ao nF)) (λx a=>by kernel_rfl)
def aii:=G70.add anL
def amV:iZ:=jd (.pair (.sl .wJ (.int .u8)) (.pair (.int .i64) (.int .i64))) [] [rI] λx a=>vX x
theorem anQ:DQ 182 amV:=gC.pq (oU (an:={}) (Λ:=kZ.nil) (aii.s) func182 (by kernel_rfl) (ao nF)) (λx a=>by kernel_rfl)
def aim:=aii.add anQ
def amR:iZ:=jd (.pair (.sl .wJ (.int .u8)) (.pair (.int .i64) (.int .i64))) [pI] [(true,(.pair (.int .i64) Y20))] λx a=>sC x a.1
theorem anM:DQ 126 amR:=gC.pq (oU (an:={}) (Λ:=kZ.nil) (aim.s) func126 (by kernel_rfl) (ao nF)) (λx a=>by kernel_rfl)
def aij:=aim.add anM
def e69:iZ:=jd (.pair (.sl .wJ (.int .u8)) (.pair (.int .i64) (.int .i64))) [pI] [(true,Y3)] λx a=>kE x a.1
theorem o69:DQ 69 e69:=gC.pq (oU (an:={}) (Λ:=kZ.nil) (aij.s) func69 (by kernel_rfl) (ao nF)) (λx a=>by kernel_rfl)
def G69:=aij.add o69
def e63:iZ:=jd (.pair (.sl .wJ (.int .u8)) (.pair (.int .i64) (.int .i64))) [pI] [(false,(.sl (.own none) cU))] λx a=>xD x a.1
def Xp:An:={mask:=mk [(5,[0,5,6,7,8]),(1000012,[0,5,6,7,8]),(1000013,[0,5,6,7,8]),(1000014,[0,5,6,7,8]),(1000015,[0,5,6,7,8]),(1000018,[0,5,6,7,8]),(1000019,[0,5,6,7,8]),(1000022,[0,5,6,7,8]),(1000023,[0,5,6,7,8]),(1000028,[0,5,6,7,8]),(1000029,[0,5,6,7,8]),(1000034,[0,5,6,7,8,64]),(1000035,[0,5,6,7,8])],cut:=[6,7,9,11,14,17],mv:=[47,76]}
abbrev Cc:SD:=⟨.ptr 0 0::bs 4 (cC (dh 61440 cU)::.ptr 6 0::DI::DI::bs 55 (DB::bs 12 [])),(some Y7)::zs 5 ((some Y3)::zs 70 []),.ptr⟩
abbrev OU:SD:=⟨.ptr 0 0::bs 4 (cC (dh 61440 cU)::.ptr 6 0::DI::DI::bs 68 []),(some Y7)::zs 5 ((some Y3)::zs 70 []),.ptr⟩
def I0 (X:SD.D Cc)(K:uM R):ax R:=vd (λy0=>kn K OU ((X.1.1,(X.1.2.1,(X.1.2.2.1,()))),(X.2.1.1,(y0,())),())) X.1.1 X.1.2.1 (q2 X) (q3 X) X.2.1.1 X.2.1.2.1
abbrev zh:SD:=⟨.ptr 0 0::bs 4 (cC (dh 61440 cU)::.ptr 6 0::DI::DI::bs 68 []),(some Y7)::zs 5 ((some Y3)::zs 70 []),.ptr⟩
def IZ (X:SD.D zh)(K:uM R):ax R:=ni (λy0 y1 y2=>kn K zh ((u y0 X.1),(w y1 (u y2) X.2.1),X.2.2)) X.1.1 X.1.2.1 (q2 X) X.2.1.1 X.2.1.2.1
abbrev zg:SD:=⟨.ptr 0 0::bs 4 (cC (dh 61440 cU)::.ptr 6 0::DI::DI::bs 68 []),(some Y7)::zs 5 ((some Y3)::zs 70 []),.ptr⟩
def IY (X:SD.D zg)(K:uM R):ax R:=nh (λy0 y1 y2=>kn K zg ((u y0 X.1),(w y1 (u y2) X.2.1),X.2.2)) X.1.1 X.1.2.1 (q2 X) X.2.1.1 X.2.1.2.1
abbrev ze:SD:=⟨.ptr 0 0::bs 4 (cC (dh 61440 cU)::.ptr 6 0::DI::DI::bs 68 []),(some Y7)::zs 5 ((some Y3)::zs 70 []),.ptr⟩
def IX (X:SD.D ze)(K:uM R):ax R:=ov (λy0 y1 y2 y3=>kn K ze ((w y0 (u y1) X.1),(w y2 (u y3) X.2.1),X.2.2)) X.1.1 X.1.2.1 (q2 X) X.2.1.1 X.2.1.2.1
abbrev yZ:SD:=⟨.ptr 0 0::bs 4 (cC (dh 61440 cU)::.ptr 6 0::DI::DI::bs 68 []),(some Y7)::zs 5 ((some Y3)::zs 70 []),.ptr⟩
def IV (X:SD.D yZ)(K:uM R):ax R:=ou (λy0=>kn K yZ ((z2 (u y0) X.1),X.2)) X.1.1 X.1.2.1 (q2 X) X.2.1.1 X.2.1.2.1
abbrev zd:SD:=⟨.ptr 0 0::bs 4 (cC (dh 61440 cU)::.ptr 6 0::DI::DI::bs 68 []),(some Y7)::zs 5 ((some Y3)::zs 70 []),.ptr⟩
def IW (X:SD.D zd)(K:uM R):ax R:=sD (λy0 y1 y2 y3 y4=>kn K zd ((w y0 (w y1 (u y2)) X.1),(w y3 (u y4) X.2.1),X.2.2)) X.1.1 X.1.2.1 (q2 X) X.2.1.1 X.2.1.2.1
abbrev WV:SD:=⟨.ptr 0 0::bs 4 (cC (dh 61440 cU)::.ptr 6 0::DI::DI::bs 68 []),(some Y7)::zs 5 ((some Y3)::zs 70 []),.ptr⟩
def agl (X:SD.D WV)(K:uM R):=wX (λy0 y1 y2 y3 y4=>ke 0 K WV ((w y0 (w y1 (u y2)) X.1),(w y3 (u y4) X.2.1),X.2.2))
def L63:kZ:=((((((kZ.nil.add 1000034 (Zw Cc I0)).add 1000028 (Zw zh IZ)).add 1000022 (Zw zg IY)).add 1000018 (Zw ze IX)).add 1000012 (Zw yZ IV)).add 1000014 (Zw zd IW)).add 5 (yR WV agl (λX=>(X.1.1,X.1.2.1,q2 X,X.2.1.1,X.2.1.2.1)))
theorem Sj:TF E G69.g Xp L63 (tq Xp.cut f63 4):=ck Cc I0
theorem Si:TF E G69.g Xp L63 (tq Xp.cut f63 3):=ck zh IZ
theorem Sh:TF E G69.g Xp L63 (tq Xp.cut f63 2):=ck zg IY
theorem Sg:TF E G69.g Xp L63 (tq Xp.cut f63 1):=ck ze IX
theorem Se:TF E G69.g Xp L63 (tq Xp.cut f63 5):=ck yZ IV
theorem Sf:TF E G69.g Xp L63 (tq Xp.cut f63 0):=ck zd IW
theorem aju:xU E G69.g Xp L63 (cJ f63 0):=lk WV agl (λX=>(X.1.1,X.1.2.1,q2 X,X.2.1.1,X.2.1.2.1)) λX x=>((w x.1 (w x.2.1 (u x.2.2.1)) X.1),(w x.2.2.2.1 (u x.2.2.2.2) X.2.1),X.2.2)
theorem o63:DQ 63 e63:=gC.pq (oU (Γ:=G69.g) (an:=Xp) (Λ:=L63) (G69.s) func63 (by kernel_rfl) (ac (cF aju nF) (cF Sf (cF Sg (cF Sh (cF Si (cF Sj (cF Se nF)))))))) (λx a=>by kernel_rfl)
def G63:=G69.add o63
def ajV:=G63.q0 {merge:=mg [(1,6)]} func108 [pI,pI,pI] [rB] (c3 ba)
def alB:=ajV.q0 {merge:=mg [(1,18),(4,2),(5,2)]} func230 [pf Ac] [rB] (c1 qa)
def akQ:=alB.q0 {merge:=mg [(1,55),(3,3),(4,2)]} func176 [pf cU] [rB] (c1 qK)
def aj6:=akQ.q0 {merge:=mg [(1,2)]} func120 [pf cU] [rB] (c1 rN)
def aj8:=aj6.q0 {merge:=mg [(1,6)]} func123 [pd .str,pI,pI] [rB] (c3 ng)
def G66:=aj8.q0 {} func66 [pd .str,pI,pd .str] [rS] (c3 hZ)
def alC:=G66.q0 {} func231 [pI] [rS] (c1 dg)
def alD:=alC.q0 {} func232 [pI] [rS] (c1 fP)
def alE:=alD.q0 {merge:=mg [(1,27)]} func233 [pI,pI,pI,pI] [rS,rB] (c4 lJ)
def amx:=alE.q0 {merge:=mg [(1,12)]} func294 [pI,pI] [rI] (c2 lI)
abbrev abq:SD:=⟨cC .str::B::B::DI::DI::bs 28 [],zs 33 [],.none⟩
def amc:=amx.q1 {mask:=mk [(3,[0,3,4])]} func272 [pd .str] [rI] (c1 vW) abq (λX K=>qJ (λy0 y1=>ke 0 K abq ((z1 (w y0 (u y1)) X.1),X.2)) X.1.1) (λX=>(X.1.2.1,q2 X)) (λX x=>((z1 (w x.1 (u x.2)) X.1),X.2))
def alF:=amc.q0 {} func234 [pd .str] [rI] (c1 oL)
def akR:=alF.q0 {merge:=mg [(14,82)]} func177 [pI,pI,pf Ac] [rS,rB] (c3 jq)
def amd:=akR.q0 {merge:=mg [(1,2)]} func273 [pf TIp] [rB] (c1 DF)
def alG:=amd.q0 {} func235 [pf TIp] [rS,rB] (c1 vT)
def akS:=alG.q0 {} func178 [pf TIp] [rS,rB] (c1 ug)
def alH:=akS.q0 {merge:=mg [(1,2)]} func236 [pf aaP] [rB] (c1 uZ)
def alI:=alH.q0 {} func237 [pI] [rS] (c1 iy)
def akT:=alI.q0 {} func179 [pf aaP] [rS,rB] (c1 vP)
abbrev aa7:SD:=⟨DI::cC (.int .u8)::B::B::B::cC (dh 61440 (.int .u8))::DI::bs 13 [],zs 20 [],.none⟩
def aka:=akT.q1 {mask:=mk [(3,[0,1,5,6])]} func131 [pI,pd (.int .u8)] [rS] (c2 il) aa7 (λX K=>oq (λy0 y1=>ke 0 K aa7 ((z2 (w y0 (u y1)) X.1),X.2)) X.1.1 X.1.2.1) (λX=>(q2 X,q3 X)) (λX x=>((z2 (w x.1 (u x.2)) X.1),X.2))
def akU:=aka.q0 {} func180 [pd .str] [rS] (c1 xy)
def agt:=akU.q0 {} func121 [pf cU] [rS,rB] (c1 sq)
def ahM:An:={mask:=mk [(3,[0,3,4]),(7,[0,3,4,5])]}
abbrev OJ:SD:=⟨cC .str::B::B::DI::DI::DI::bs 26 [],zs 32 [],.none⟩
def adL (X:SD.D OJ)(K:uM R):=oM (λy0 y1=>ke 2 K OJ ((z1 (w y0 (z1 (u y1))) X.1),X.2)) X.1.1 (q2 X)
abbrev OI:SD:=⟨cC .str::B::B::DI::DI::bs 27 [],zs 32 [],.none⟩
def adK (X:SD.D OI)(K:uM R):=rJ (λy0 y1=>ke 0 K OI ((z1 (w y0 (u y1)) X.1),X.2)) X.1.1
def aiv:kZ:=(kZ.nil.add 7 (yR OJ adL (λX=>(X.1.2.1,q3 X)))).add 3 (yR OI adK (λX=>(X.1.2.1,q2 X)))
theorem aht:xU E agt.g ahM aiv (cJ f181 1):=lk OJ adL (λX=>(X.1.2.1,q3 X)) λX x=>((z1 (w x.1 (z1 (u x.2))) X.1),X.2)
theorem ahs:xU E agt.g ahM aiv (cJ f181 0):=lk OI adK (λX=>(X.1.2.1,q2 X)) λX x=>((z1 (w x.1 (u x.2)) X.1),X.2)
def akV:=agt.qk ahM func181 [pd .str] [rI] (c1 Bv) (cF ahs (cF aht nF))
def aj7:=akV.q0 {} func122 [pd .str] [rS] (c1 uu)
def G64:=aj7.q0 {} func64 [pf cU] [rS,rB] (c1 so)
def e27:iZ:=jd (.pair (.sl .wJ (.int .u8)) (.pair (.int .i64) (.int .i64))) [pd .bool] [(false,(.sl (.own none) Ab))] λx a=>xN x a.1
def n27:An:={mask:=mk [(4,[0,1,5,6,7]),(1000010,[0,1,5,6,7]),(1000011,[0,1,5,6,7]),(1000012,[0,1,5,6,7]),(1000013,[0,1,5,6,7]),(1000018,[0,1,5,6,7,8]),(1000019,[0,1,5,6,7]),(1000030,[0,1,5,6,7,43,50]),(1000031,[0,1,5,6,7]),(1000038,[0,1,5,6,7,43,57]),(1000039,[0,1,5,6,7])],cut:=[5,6,9,15,19],mv:=[37,46,53,61,70,84,91,95]}
abbrev Cb:SD:=⟨.ptr 0 0::DB::B::B::B::cC (dh 61440 Ab)::cC (dh 73728 cU)::DI::bs 35 (DI::bs 13 (DB::bs 38 [])),(some Y7)::zs 95 [],.ptr⟩
abbrev OR:SD:=⟨.ptr 0 0::DB::B::B::B::cC (dh 61440 Ab)::cC (dh 73728 cU)::DI::bs 88 [],(some Y7)::zs 95 [],.ptr⟩
def IU (X:SD.D Cb)(K:uM R):ax R:=km (λy0 y1=>kn K OR ((X.1.1,(y0,(X.1.2.2.1,(X.1.2.2.2.1,())))),(y1,()),())) X.1.1 X.1.2.1 (q2 X) (q3 X) (q4 X) (q5 X) X.2.1.1
abbrev Ca:SD:=⟨.ptr 0 0::DB::B::B::B::cC (dh 61440 Ab)::cC (dh 73728 cU)::DI::bs 35 (DI::bs 6 (DB::bs 45 [])),(some Y7)::zs 95 [],.ptr⟩
abbrev OQ:SD:=⟨.ptr 0 0::DB::B::B::B::cC (dh 61440 Ab)::cC (dh 73728 cU)::DI::bs 88 [],(some Y7)::zs 95 [],.ptr⟩
def IT (X:SD.D Ca)(K:uM R):ax R:=nk (λy0 y1=>kn K OQ ((X.1.1,(y0,(X.1.2.2.1,(X.1.2.2.2.1,())))),(y1,()),())) X.1.1 X.1.2.1 (q2 X) (q3 X) (q4 X) (q5 X) X.2.1.1
abbrev B9:SD:=⟨.ptr 0 0::DB::B::B::B::cC (dh 61440 Ab)::cC (dh 73728 cU)::DI::cC .str::bs 87 [],(some Y7)::zs 95 [],.ptr⟩
abbrev OP:SD:=⟨.ptr 0 0::DB::B::B::B::cC (dh 61440 Ab)::cC (dh 73728 cU)::DI::bs 88 [],(some Y7)::zs 95 [],.ptr⟩
def IS (X:SD.D B9)(K:uM R):ax R:=oy (λy0 y1=>kn K OP ((X.1.1,(y0,(X.1.2.2.1,(X.1.2.2.2.1,())))),(y1,()),())) X.1.1 X.1.2.1 (q2 X) (q3 X) (q4 X) X.2.1.1
abbrev yX:SD:=⟨.ptr 0 0::DB::B::B::B::cC (dh 61440 Ab)::cC (dh 73728 cU)::DI::bs 88 [],(some Y7)::zs 95 [],.ptr⟩
def IP (X:SD.D yX)(K:uM R):ax R:=ox (λy0=>kn K yX ((z3 (u y0) X.1),X.2)) X.1.1 X.1.2.1 (q2 X) (q3 X) X.2.1.1
abbrev yY:SD:=⟨.ptr 0 0::DB::B::B::B::cC (dh 61440 Ab)::cC (dh 73728 cU)::DI::bs 88 [],(some Y7)::zs 95 [],.ptr⟩
def IQ (X:SD.D yY)(K:uM R):ax R:=sF (λy0 y1 y2=>kn K yY ((z1 (w y0 (z1 (u y1))) X.1),(u y2 X.2.1),X.2.2)) X.1.1 X.1.2.1 (q2 X) (q3 X) X.2.1.1
abbrev WT:SD:=⟨.ptr 0 0::DB::B::B::B::cC (dh 61440 Ab)::cC (dh 73728 cU)::DI::bs 88 [],(some Y7)::zs 95 [],.ptr⟩
def agi (X:SD.D WT)(K:uM R):=xb (λy0 y1 y2=>ke 0 K WT ((z1 (w y0 (z1 (u y1))) X.1),(u y2 X.2.1),X.2.2)) X.1.1 (q2 X)
def L27:kZ:=(((((kZ.nil.add 1000038 (Zw Cb IU)).add 1000030 (Zw Ca IT)).add 1000018 (Zw B9 IS)).add 1000010 (Zw yX IP)).add 1000012 (Zw yY IQ)).add 4 (yR WT agi (λX=>(X.1.2.1,q3 X,X.2.1.1)))
theorem Sd:TF E G64.g n27 L27 (tq n27.cut f27 3):=ck Cb IU
theorem Sc:TF E G64.g n27 L27 (tq n27.cut f27 2):=ck Ca IT
theorem Sb:TF E G64.g n27 L27 (tq n27.cut f27 1):=ck B9 IS
theorem R9:TF E G64.g n27 L27 (tq n27.cut f27 4):=ck yX IP
theorem Sa:TF E G64.g n27 L27 (tq n27.cut f27 0):=ck yY IQ
theorem ajr:xU E G64.g n27 L27 (cJ f27 0):=lk WT agi (λX=>(X.1.2.1,q3 X,X.2.1.1)) λX x=>((z1 (w x.1 (z1 (u x.2.1))) X.1),(u x.2.2 X.2.1),X.2.2)
theorem o27:DQ 27 e27:=gC.pq (oU (Γ:=G64.g) (an:=n27) (Λ:=L27) (G64.s) func27 (by kernel_rfl) (ac (cF ajr nF) (cF Sa (cF Sb (cF Sc (cF Sd (cF R9 nF))))))) (λx a=>by kernel_rfl)
def G27:=G64.add o27
def ail:=G27.q0 {} func130 [] [(true,(.sl (.own none) fW))] (λa=>lU)
def am2:iZ:=jd (.pair (.sl .wJ (.int .u8)) (.pair (.int .i64) (.int .i64))) [] [rS] λx a=>zF x
theorem anX:DQ 238 am2:=gC.pq (oU (an:={}) (Λ:=kZ.nil) (ail.s) func238 (by kernel_rfl) (ao nF)) (λx a=>by kernel_rfl)
def aee:=ail.add anX
def amW:iZ:=jd (.pair (.sl .wJ (.int .u8)) (.pair (.int .i64) (.int .i64))) [] [(true,(.pair .str (.sl (.own none) (.int .i64)))),rI] λx a=>uv x
def ajD:An:={mask:=mk [(4,[0,2,4,5,6])],mv:=[21,28],mb:=mg [(21,5)],sb:=mg [(22,0),(27,5)]}
abbrev OK:SD:=⟨.ptr 0 0::B::.ptr 2 0::B::DI::.ptr 5 0::DI::bs 23 [],(some Y7)::Z::(pD (cD .str (dh 24580 (.int .i64))))::Z::Z::(pD (cD .str (dh 61444 (.int .i64))))::zs 24 [],.ptr⟩
def adM (X:SD.D OK)(K:uM R):=uw (λy0 y1 y2=>ke 0 K OK ((z1 (u y0) X.1),(w y1 (z1 (u y2)) X.2.1),X.2.2)) X.1.1 X.2.1.2.1
def aiw:kZ:=kZ.nil.add 4 (yR OK adM (λX=>(X.1.2.1,X.2.1.1,X.2.1.2.2.1)))
theorem ahu:xU E aee.g ajD aiw (cJ f183 0):=lk OK adM (λX=>(X.1.2.1,X.2.1.1,X.2.1.2.2.1)) λX x=>((z1 (u x.1) X.1),(w x.2.1 (z1 (u x.2.2)) X.2.1),X.2.2)
theorem anR:DQ 183 amW:=gC.pq (oU (Γ:=aee.g) (an:=ajD) (Λ:=aiw) (aee.s) func183 (by kernel_rfl) (ao (cF ahu nF))) (λx a=>by kernel_rfl)
def ain:=aee.add anR
def am3:iZ:=jd (.pair (.sl .wJ (.int .u8)) (.pair (.int .i64) (.int .i64))) [] [(true,(.pair (.int .i64) (.pair (.int .i64) (.pair (.int .i64) (.pair (.int .i64) (.pair (.int .i64) Y1))))))] λx a=>xH x
theorem anY:DQ 239 am3:=gC.pq (oU (an:={}) (Λ:=kZ.nil) (ain.s) func239 (by kernel_rfl) (ao nF)) (λx a=>by kernel_rfl)
def aef:=ain.add anY
def amX:iZ:=jd (.pair (.sl .wJ (.int .u8)) (.pair (.int .i64) (.int .i64))) [] [(false,(.sl (.own none) iI))] λx a=>vY x
def ajE:An:={mask:=mk [(3,[0,3,4])],mv:=[12,17]}
abbrev OL:SD:=⟨.ptr 0 0::B::B::cC (dh 36864 iI)::DI::bs 13 [],(some Y7)::zs 17 [],.ptr⟩
def adN (X:SD.D OL)(K:uM R):=vf (λy0 y1 y2=>ke 0 K OL ((w y0 (u y1) X.1),(u y2 X.2.1),X.2.2))
def aix:kZ:=kZ.nil.add 3 (yR OL adN (λX=>(X.1.1,X.1.2.1,X.2.1.1)))
theorem ahv:xU E aef.g ajE aix (cJ f184 0):=lk OL adN (λX=>(X.1.1,X.1.2.1,X.2.1.1)) λX x=>((w x.1 (u x.2.1) X.1),(u x.2.2 X.2.1),X.2.2)
theorem anS:DQ 184 amX:=gC.pq (oU (Γ:=aef.g) (an:=ajE) (Λ:=aix) (aef.s) func184 (by kernel_rfl) (ao (cF ahv nF))) (λx a=>by kernel_rfl)
def akW:=aef.add anS
def alJ:=akW.q0 {} func240 [pf (.sl fW)] [(true,(.sl (.own none) fW))] (c1 ux)
abbrev abj:SD:=⟨B::B::B::DI::cC (dh 49152 (.int .i64))::DI::bs 26 [],zs 32 [],.none⟩
def alM:=alJ.q1 {mask:=mk [(4,[3,4,5])]} func243 [pf pG] [rI] (c1 rL) abj (λX K=>nf (λy0 y1=>ke 0 K abj ((w y0 (z1 (u y1)) X.1),X.2)) X.1.2.1) (λX=>(X.1.1,q2 X)) (λX x=>((w x.1 (z1 (u x.2)) X.1),X.2))
abbrev Ut:SD:=⟨B::B::.ptr 2 0::.ptr 3 0::DI::DI::bs 35 [],Z::Z::(pD (iQ fW))::(pD (cD yO Y1))::zs 37 [],.none⟩
def alL:=alM.q1 {mask:=mk [(2,[2,3,4,5])],merge:=mg [(7,39)]} func242 [pf (.sl fW),pf pG] [rI] (c2 uy) Ut (λX K=>ow (λy0=>ke 0 K Ut ((z1 (u y0) X.1),X.2)) (λy0 y1=>kr K Ut ((w y0 (u y1) X.1),X.2)) X.1.1 X.2.1.1 X.2.1.2.1) (λX=>X.1.2.1) (λX x=>((z1 (u x) X.1),X.2))
abbrev Us:SD:=⟨B::.ptr 1 0::DB::DI::bs 45 [],Z::(pD (iQ fW))::zs 47 [],.none⟩
def alK:=alL.q1 {mask:=mk [(4,[1,2,3])],merge:=mg [(7,30),(10,42)]} func241 [pf (.sl fW)] [rB] (c1 ur) Us (λX K=>sB (λy0=>ke 0 K Us ((z1 (u y0) X.1),X.2)) (λy0 y1=>kr K Us ((w y0 (u y1) X.1),X.2)) X.1.1 X.2.1.1) (λX=>X.1.2.1) (λX x=>((z1 (u x) X.1),X.2))
abbrev abd:SD:=⟨B::B::DI::.ptr 3 0::.ptr 4 0::B::.ptr 6 0::B::.ptr 8 0::DI::DI::bs 47 [],Z::Z::Z::(pD (iQ fW))::(pD (cD yO Y1))::Z::(pD (dh 73729 fW))::Z::(pD (dh 98305 fW))::zs 49 [],.none⟩
def aio:=alK.q1 {mask:=mk [(6,[2,3,4,6,8,9,10])],merge:=mg [(2,21),(6,31)],mv:=[22,49,57]} func185 [pf (.sl fW),pf pG,pI] [(true,(.sl (.own none) fW)),rB] (c3 xA) abd (λX K=>wW (λy0 y1=>ke 0 K abd ((z1 (w y0 (u y1)) X.1),X.2)) X.1.1 X.2.1.1 X.2.1.2.1 X.2.1.2.2.1 X.2.1.2.2.2.1) (λX=>(X.1.2.1,q2 X)) (λX x=>((z1 (w x.1 (u x.2)) X.1),X.2))
def amY:iZ:=jd (.pair (.sl .wJ (.int .u8)) (.pair (.int .i64) (.int .i64))) [] [(true,(.pair (.int .i64) Y1))] λx a=>xF x
theorem anT:DQ 186 amY:=gC.pq (oU (an:={}) (Λ:=kZ.nil) (aio.s) func186 (by kernel_rfl) (ao nF)) (λx a=>by kernel_rfl)
def aaL:=aio.add anT
def amS:iZ:=jd (.pair (.sl .wJ (.int .u8)) (.pair (.int .i64) (.int .i64))) [] [(true,Y18),rI] λx a=>qN x
def ahK:An:={mask:=mk [(7,[0,2,4,6,7]),(11,[0,2,4,6,8])],mv:=[11,16,49,58,61],sb:=mg [(52,0),(54,0),(60,4)]}
abbrev OE:SD:=⟨.ptr 0 0::B::.ptr 2 0::B::.ptr 4 0::B::DI::DI::bs 55 [],(some Y7)::Z::(some Y22)::Z::(some Y15)::zs 58 [],.ptr⟩
def adG (X:SD.D OE)(K:uM R):=jI (λy0 y1=>ke 0 K OE ((z1 (u y0) X.1),(z2 (u y1) X.2.1),X.2.2)) X.1.1 X.2.1.1 X.2.1.2.1
abbrev Jk:SD:=⟨.ptr 0 0::B::.ptr 2 0::B::.ptr 4 0::B::DI::B::DI::bs 54 [],(some Y7)::Z::(some Y22)::Z::(some Y15)::zs 58 [],.ptr⟩
def XL (X:SD.D Jk)(K:uM R):=gU (λy0 y1 y2=>ke 2 K Jk ((z1 (u y0) X.1),(w y1 (z1 (u y2)) X.2.1),X.2.2)) X.1.1 X.2.1.2.1
def agA:kZ:=(kZ.nil.add 7 (yR OE adG (λX=>(X.1.2.1,X.2.1.2.2.1)))).add 11 (yR Jk XL (λX=>(X.1.2.1,X.2.1.1,X.2.1.2.2.1)))
theorem aho:xU E aaL.g ahK agA (cJ f127 0):=lk OE adG (λX=>(X.1.2.1,X.2.1.2.2.1)) λX x=>((z1 (u x.1) X.1),(z2 (u x.2) X.2.1),X.2.2)
theorem aeY:xU E aaL.g ahK agA (cJ f127 1):=lk Jk XL (λX=>(X.1.2.1,X.2.1.1,X.2.1.2.2.1)) λX x=>((z1 (u x.1) X.1),(w x.2.1 (z1 (u x.2.2)) X.2.1),X.2.2)
theorem anN:DQ 127 amS:=gC.pq (oU (Γ:=aaL.g) (an:=ahK) (Λ:=agA) (aaL.s) func127 (by kernel_rfl) (ao (cF aho (cF aeY nF)))) (λx a=>by kernel_rfl)
def aj9:=aaL.add anN
def ajW:=aj9.q0 {merge:=mg [(1,2)]} func109 [pf fA] [rB] (c1 td)
def G55:=ajW.q0 {merge:=mg [(1,24),(3,2)]} func55 [pf fA] [rB] (c1 lV)
def G20:=G55.q0 {} func20 [pI,pI] [(true,Y12),rB] (c2 uk)
abbrev Um:SD:=⟨B::.ptr 1 0::DB::DI::bs 41 [],Z::(some Y25)::zs 43 [],.none⟩
def akX:=G20.q1 {mask:=mk [(2,[1,2,3])],merge:=mg [(4,35),(6,2)]} func187 [pf vn] [rB] (c1 vS) Um (λX K=>qE (λy0=>ke 0 K Um ((z1 (u y0) X.1),X.2)) (λy0 y1=>kr K Um ((w y0 (u y1) X.1),X.2)) X.1.1 X.2.1.1) (λX=>X.1.2.1) (λX x=>((z1 (u x) X.1),X.2))
def ame:=akX.q0 {merge:=mg [(1,33),(3,54),(5,2)]} func274 [pf iI] [rB] (c1 lK)
abbrev Uu:SD:=⟨cC (iQ iI)::B::DB::DI::bs 15 [],zs 19 [],.none⟩
def alN:=ame.q1 {mask:=mk [(2,[0,2,3])]} func244 [pd (.sl iI)] [rB] (c1 xC) Uu (λX K=>sy (λy0=>ke 0 K Uu ((z2 (u y0) X.1),X.2)) (λy0 y1=>kr K Uu ((z1 (w y0 (u y1)) X.1),X.2)) X.1.1 X.1.2.1) q2 (λX x=>((z2 (u x) X.1),X.2))
def amf:=alN.q0 {merge:=mg [(1,2)]} func275 [pI] [rB] (c1 xG)
abbrev Uv:SD:=⟨B::DI::.ptr 2 0::B::DB::DI::bs 32 [],Z::Z::(pD (cD .str (iQ (.int .i64))))::zs 35 [],.none⟩
def agy:=amf.q1 {mask:=mk [(4,[1,2,4,5])],merge:=mg [(1,21)]} func245 [pf Db,pI] [rB] (c2 vV) Uv (λX K=>qH (λy0=>ke 0 K Uv ((z2 (u y0) X.1),X.2)) (λy0 y1=>kr K Uv ((z1 (w y0 (u y1)) X.1),X.2)) X.1.1 X.1.2.1 X.2.1.1) q2 (λX x=>((z2 (u x) X.1),X.2))
def ahN:An:={mask:=mk [(4,[1,2,4,5]),(9,[1,2,4,6])],merge:=mg [(1,23)]}
abbrev JW:SD:=⟨B::DI::.ptr 2 0::B::DB::DI::bs 50 [],Z::Z::(some Y17)::zs 53 [],.none⟩
def adO (X:SD.D JW)(K:uM R):=nR (λy0=>ke 0 K JW ((z2 (u y0) X.1),X.2)) (λy0 y1=>kr K JW ((z1 (w y0 (u y1)) X.1),X.2)) X.1.1 X.1.2.1 X.2.1.1
abbrev JX:SD:=⟨B::DI::.ptr 2 0::B::DB::B::DI::bs 49 [],Z::Z::(some Y17)::zs 53 [],.none⟩
def adP (X:SD.D JX)(K:uM R):=nS (λy0=>ke 2 K JX ((z2 (u y0) X.1),X.2)) (λy0 y1=>kr K JX ((z1 (w y0 (u y1)) X.1),X.2)) X.1.1 X.1.2.1 X.2.1.1
def aiy:kZ:=(kZ.nil.add 4 (yR JW adO q2)).add 9 (yR JX adP q2)
theorem ahw:xU E agy.g ahN aiy (cJ f188 0):=lk JW adO q2 λX x=>((z2 (u x) X.1),X.2)
theorem ahx:xU E agy.g ahN aiy (cJ f188 1):=lk JX adP q2 λX x=>((z2 (u x) X.1),X.2)
def akY:=agy.qk ahN func188 [pf oD,pI] [rB] (c2 sA) (cF ahw (cF ahx nF))
abbrev abe:SD:=⟨DI::B::.ptr 2 0::.ptr 3 0::DI::bs 17 [],Z::Z::(pD (dh 24577 .str))::(pD (dh 36865 .str))::zs 18 [],.none⟩
def akZ:=akY.q1 {mask:=mk [(3,[0,2,3,4])],merge:=mg [(3,12)],mv:=[16,21],mb:=mg [(16,3)],sb:=mg [(20,3)]} func189 [pI] [(true,(.sl (.own none) .str))] (c1 pZ) abe (λX K=>pz (λy0 y1=>ke 0 K abe ((z1 (u y0) X.1),(z1 (u y1) X.2.1),X.2.2)) X.1.1 X.2.1.1) (λX=>(X.1.2.1,X.2.1.2.1)) (λX x=>((z1 (u x.1) X.1),(z1 (u x.2) X.2.1),X.2.2))
abbrev Ux:SD:=⟨B::.ptr 1 0::DB::cC (dh 36864 .bool)::DI::bs 53 [],Z::(some Y13)::zs 56 [],.none⟩
def amg:=akZ.q1 {mask:=mk [(5,[1,2,3,4])],merge:=mg [(1,20),(7,50)]} func276 [pf gZ] [rB] (c1 ta) Ux (λX K=>um (λy0 y1=>ke 0 K Ux ((z1 (w y0 (u y1)) X.1),X.2)) (λy0 y1 y2=>kr K Ux ((w y0 (w y1 (u y2)) X.1),X.2)) X.1.1 X.2.1.1) (λX=>(X.1.2.1,q2 X)) (λX x=>((z1 (w x.1 (u x.2)) X.1),X.2))
abbrev abk:SD:=⟨B::B::DI::B::B::B::.ptr 6 0::B::.ptr 8 0::DI::bs 24 [],zs 6 ((some Y29)::Z::(some Y28)::zs 25 []),.none⟩
def alO:=amg.q1 {mask:=mk [(3,[2,6,8,9])],merge:=mg [(3,20)],mv:=[24,33]} func246 [pI,pI,pI] [(true,Y8),rB] (c3 uj) abk (λX K=>oo (λy0 y1=>ke 0 K abk ((z1 (u y0) X.1),(z1 (u y1) X.2.1),X.2.2)) X.1.1 X.2.1.1) (λX=>(X.1.2.1,X.2.1.2.1)) (λX x=>((z1 (u x.1) X.1),(z1 (u x.2) X.2.1),X.2.2))
def ak0:=alO.q0 {mv:=[4,9]} func190 [] [(true,Y16)] (λa=>wa)
def ak1:=ak0.q0 {sb:=mg [(2,2)]} func191 [pf vn] [(true,Y23)] (c1 xL)
def ak2:=ak1.q0 {sb:=mg [(2,2)]} func192 [pf oD] [(true,Y18)] (c1 xI)
def agz:=ak2.q0 {} func278 [pf (.sl .str)] [(true,(.sl (.own none) .str))] (c1 lM)
def ahR:An:={mask:=mk [(4,[0,2,3]),(10,[0,2,3,4,5])],merge:=mg [(7,34),(12,57)]}
abbrev Fw:SD:=⟨cC (iQ bC)::B::DB::DI::.ptr 4 0::DI::bs 52 [],zs 4 ((pD (js (js (js .bool))))::zs 53 []),.none⟩
def XP (X:SD.D Fw)(K:uM R):=mC (λy0=>ke 2 K Fw ((z3 (u y0) X.1),X.2)) (λy0 y1=>kr K Fw ((z1 (w y0 (z1 (u y1))) X.1),X.2)) X.1.1 X.1.2.1 (q2 X) X.2.1.1
abbrev JZ:SD:=⟨cC (iQ bC)::B::DB::DI::bs 54 [],zs 58 [],.none⟩
def adW (X:SD.D JZ)(K:uM R):=nQ (λy0=>ke 0 K JZ ((z2 (u y0) X.1),X.2)) (λy0 y1=>kr K JZ ((z1 (w y0 (u y1)) X.1),X.2)) X.1.1 X.1.2.1
def aiC:kZ:=(kZ.nil.add 10 (yR Fw XP q3)).add 4 (yR JZ adW q2)
theorem ae2:xU E agz.g ahR aiC (cJ f303 1):=lk Fw XP q3 λX x=>((z3 (u x) X.1),X.2)
theorem ahE:xU E agz.g ahR aiC (cJ f303 0):=lk JZ adW q2 λX x=>((z2 (u x) X.1),X.2)
def amG:=agz.qk ahR func303 [pd (.sl bC)] [rB] (c1 su) (cF ahE (cF ae2 nF))
abbrev Uz:SD:=⟨B::.ptr 1 0::DB::DI::bs 18 [],Z::(pD (iQ .str))::zs 20 [],.none⟩
def amH:=amG.q1 {mask:=mk [(2,[1,2,3])]} func304 [pf (.sl .str)] [rB] (c1 rM) Uz (λX K=>qF (λy0=>ke 0 K Uz ((z1 (u y0) X.1),X.2)) (λy0 y1=>kr K Uz ((w y0 (u y1) X.1),X.2)) X.1.1 X.2.1.1) (λX=>X.1.2.1) (λX x=>((z1 (u x) X.1),X.2))
abbrev UA:SD:=⟨cC (iQ bC)::DI::DI::DB::bs 4 (DI::DI::bs 38 []),zs 48 [],.none⟩
def amI:=amH.q1 {mask:=mk [(2,[0,1,2,3,8,9])],merge:=mg [(4,42)]} func305 [pd (.sl bC),pI,pI,pd .bool] [rI] (c4 xJ) UA (λX K=>sE (λy0=>ke 0 K UA ((z5 (u y0) X.1),X.2)) (λy0 y1=>kr K UA ((z4 (w y0 (u y1)) X.1),X.2)) X.1.1 X.1.2.1 (q2 X) (q3 X) (q4 X)) q5 (λX x=>((z5 (u x) X.1),X.2))
def amJ:=amI.q0 {merge:=mg [(2,6)]} func306 [pf (.sl .str),pI,pI] [rB] (c3 nj)
abbrev Uy:SD:=⟨cC (iQ bC)::B::DI::DI::DI::DB::B::.ptr 7 0::bs 4 (cC (dh 147456 (.int .i64))::cC (dh 159744 (.int .i64))::DB::cC (dh 184320 (.int .i64))::cC (dh 196608 (.int .i64))::bs 66 []),zs 7 ((pD (iQ .str))::zs 75 []),.none⟩
def amy:=amJ.q1 {mask:=mk [(5,[0,2,3,4,5,7,12,13,14,15,16])],merge:=mg [(3,34),(10,57)],mv:=[35,36,64,71,81,82]} func295 [pd (.sl bC),pf (.sl .str),pI,pI,pI,pd .bool] [(false,(.sl (.own none) (.int .i64))),(false,(.sl (.own none) (.int .i64))),rB] (c6 vZ) Uy (λX K=>kl (λy0 y1 y2 y3=>ke 0 K Uy ((z2 (w y0 (w y1 (z4 (w y2 (u y3))))) X.1),X.2)) (λy0 y1 y2 y3 y4 y5 y6=>kr K Uy ((z2 (w y0 (w y1 (z1 (w y2 (w y3 (w y4 (w y5 (u y6)))))))) X.1),X.2)) X.1.1 X.1.2.1 (q4 X) (q5 X) (q6 X) (q7 X) X.2.1.1) (λX=>(q2 X,q3 X,q8 X,q9 X)) (λX x=>((z2 (w x.1 (w x.2.1 (z4 (w x.2.2.1 (u x.2.2.2))))) X.1),X.2))
abbrev abv:SD:=⟨B::DI::cC .str::B::B::B::.ptr 6 0::B::.ptr 8 0::bs 44 [],zs 6 ((pD (dh 73729 .str))::Z::(pD (dh 98305 .str))::zs 44 []),.none⟩
def amz:=amy.q1 {mask:=mk [(4,[1,2,6,8])],mv:=[19,52]} func296 [pf (.sl .str),pI,pd .str] [(true,(.sl (.own none) .str)),rB] (c3 qL) abv (λX K=>mE (λy0 y1 y2=>ke 0 K abv ((w y0 (u y1) X.1),(z1 (u y2) X.2.1),X.2.2)) X.2.1.1) (λX=>(X.1.1,X.1.2.1,X.2.1.2.1)) (λX x=>((w x.1 (u x.2.1) X.1),(z1 (u x.2.2) X.2.1),X.2.2))
abbrev abr:SD:=⟨bs 4 (cC .str::bs 5 (.ptr 10 0::B::cC (.sl .loc (.int .i64))::cC (.sl .loc (.int .i64))::B::.ptr 15 0::DI::bs 44 [])),zs 10 ((pD (dh 122881 .str))::zs 4 ((pD (dh 184321 .str))::zs 45 [])),.none⟩
def amh:=amz.q1 {mask:=mk [(6,[4,10,12,13,15,16])],mv:=[32,39,52,60],sb:=mg [(15,15)]} func277 [pd (.sl bC),pf (.sl .str),pI,pI,pd .str] [(true,(.sl (.own none) .str)),rB] (c5 rK) abr (λX K=>na (λy0 y1 y2=>ke 0 K abr ((w y0 (z2 (u y1)) X.1),(z1 (u y2) X.2.1),X.2.2)) X.1.2.1 (q2 X) X.2.1.1) (λX=>(X.1.1,q3 X,X.2.1.2.1)) (λX x=>((w x.1 (z2 (u x.2.1)) X.1),(z1 (u x.2.2) X.2.1),X.2.2))
abbrev abl:SD:=⟨cC (iQ bC)::B::DI::DI::cC .str::B::.ptr 6 0::B::B::B::.ptr 10 0::B::cC (dh 147456 bC)::DI::bs 25 [],zs 6 ((pD (iQ .str))::Z::Z::Z::(pD (dh 122881 .str))::zs 28 []),.none⟩
def alP:=amh.q1 {mask:=mk [(3,[0,2,3,4,6,10,12,13])],mv:=[27]} func247 [pd (.sl bC),pf (.sl .str),pI,pI,pd .str] [(true,(.sl (.own none) .str)),rB] (c5 uh) abl (λX K=>py (λy0 y1=>ke 0 K abl ((z4 (w y0 (u y1)) X.1),X.2)) X.1.1 X.1.2.1 (q2 X) (q3 X) X.2.1.1 X.2.1.2.1) (λX=>(q4 X,q5 X)) (λX x=>((z4 (w x.1 (u x.2)) X.1),X.2))
def ami:=alP.q0 {sb:=mg [(2,2)]} func279 [pf gZ] [(true,Y8)] (c1 xK)
def amA:=ami.q0 {merge:=mg [(1,2)]} func297 [pI] [rB] (c1 uz)
def amB:=amA.q0 {} func298 [pf sO] [rI] (c1 rP)
def amj:=amB.q0 {merge:=mg [(1,2)]} func280 [pf sO] [rB] (c1 tc)
def amk:=amj.q0 {} func281 [pf sO] [rI] (c1 rO)
def amC:=amk.q0 {merge:=mg [(1,11)]} func299 [pf sO,pI] [rI] (c2 qG)
def aml:=amC.q0 {merge:=mg [(1,22)],mv:=[26,36,51],mb:=mg [(51,13)],sb:=mg [(10,10),(11,11),(13,13)]} func282 [pd (.sl bC),pf (.sl .str),pI,pf sO,pd .str] [(true,(.sl (.own none) .str)),(true,Y1),rB] (c5 xB)
def amD:=aml.q0 {merge:=mg [(1,2)]} func300 [pf nq] [rB] (c1 zD)
def amm:=amD.q0 {} func283 [pf nq] [rS] (c1 sr)
def amn:=amm.q0 {merge:=mg [(1,15)]} func284 [pf gZ,pI] [rI] (c2 nO)
abbrev abm:SD:=⟨cC (iQ bC)::B::DI::bs 5 (.ptr 8 0::.ptr 9 0::.ptr 10 0::.ptr 11 0::.ptr 12 0::B::.ptr 14 0::.ptr 15 0::DI::bs 65 []),zs 8 ((some Y1)::(some Y13)::(pD (dh 122881 .str))::(some Y1)::(some Y27)::Z::(pD (dh 172033 .str))::(some Y26)::zs 66 []),.none⟩
def aiq:=amn.q1 {mask:=mk [(6,[0,2,8,9,10,11,12,14,15,16])],merge:=mg [(4,32),(6,44)],mv:=[33,35,49,63,68,78,80],mb:=mg [(33,14),(35,15),(78,14),(80,15)],sb:=mg [(10,10),(11,11),(12,12),(18,18),(19,19)]} func248 [pd (.sl bC),pf (.sl .str),pI,pf sO,pf gZ] [(true,(.sl (.own none) .str)),(true,Y1),(true,Y8),rI] (c5 vR) abm (λX K=>nd (λy0 y1 y2 y3=>ke 0 K abm ((z2 (u y0) X.1),(w y1 (z4 (w y2 (u y3))) X.2.1),X.2.2)) X.1.1 X.1.2.1 X.2.1.2.1 X.2.1.2.2.1 X.2.1.2.2.2.1 X.2.1.2.2.2.2.1) (λX=>(q2 X,X.2.1.1,X.2.1.2.2.2.2.2.1,X.2.1.2.2.2.2.2.2.1)) (λX x=>((z2 (u x.1) X.1),(w x.2.1 (z4 (w x.2.2.1 (u x.2.2.2))) X.2.1),X.2.2))
def amZ:iZ:=jd (.pair (.sl (.own none) .str) (.pair (.sl (.own none) bC) (.pair (.pair (.pair (.int .i64) (.pair (.int .i64) (.pair (.int .i64) (.int .i64)))) (.pair (.pair (.int .i64) (.pair (.int .i64) (.pair (.int .i64) (.sl (.own none) (.int .i64))))) (.pair (.sl (.own none) hG) (.int .i64)))) (.pair (.sl (.own none) dI) (.pair (.sl (.own none) gZ) (.pair (.sl (.own none) fA) (.pair (.sl (.own none) .bool) (.pair (.pair (.int .i64) (.pair .bool (.sl (.own none) (.int .i64)))) (.pair (.pair (.sl (.own none) iI) (.pair (.sl (.own none) fW) (.pair .str (.sl (.own none) (.int .i64))))) (.pair (.sl (.own none) dG) (.pair .bool (.pair (.sl (.own none) .str) (.pair (.sl (.own none) (.int .i64)) (.pair (.sl (.own none) (.int .i64)) (.pair (.int .i64) (.pair (.int .i64) (.pair (.int .i64) (.pair (.int .i64) (.int .i64))))))))))))))))))) [pI] [] λx a=>uB x a.1
theorem anU:DQ 193 amZ:=gC.pq (oU (an:={mv:=[47,51,65,67,84],mb:=mg [(84,6)],sb:=mg [(6,6),(50,0),(70,0),(71,5)]}) (Λ:=kZ.nil) (aiq.s) func193 (by kernel_rfl) (ao nF)) (λx a=>by kernel_rfl)
def agv:=aiq.add anU
def ahL:An:={mask:=mk [(6,[0,12,14,16,17]),(10,[0,12,14,16,18])],merge:=mg [(2,42)],mv:=[57,74,80,86,92,98],mb:=mg [(57,16)],sb:=mg [(16,16),(67,16)]}
abbrev OF:SD:=⟨DI::bs 11 (.ptr 12 0::B::.ptr 14 0::B::.ptr 16 0::DI::bs 81 []),zs 12 ((some Y11)::Z::(some Y12)::Z::(some Y10)::zs 82 []),.none⟩
def adH (X:SD.D OF)(K:uM R):=wV (λy0 y1=>ke 0 K OF ((z1 (u y0) X.1),(z2 (u y1) X.2.1),X.2.2)) X.1.1 X.2.1.1 X.2.1.2.1
abbrev Jl:SD:=⟨DI::bs 11 (.ptr 12 0::B::.ptr 14 0::B::.ptr 16 0::B::DI::bs 80 []),zs 12 ((some Y11)::Z::(some Y12)::Z::(some Y10)::zs 82 []),.none⟩
def XM (X:SD.D Jl)(K:uM R):=vc (λy0 y1=>ke 2 K Jl ((z1 (u y0) X.1),(z2 (u y1) X.2.1),X.2.2)) X.1.1 X.2.1.1 X.2.1.2.1
def aiu:kZ:=(kZ.nil.add 6 (yR OF adH (λX=>(X.1.2.1,X.2.1.2.2.1)))).add 10 (yR Jl XM (λX=>(X.1.2.1,X.2.1.2.2.1)))
theorem ahp:xU E agv.g ahL aiu (cJ f128 0):=lk OF adH (λX=>(X.1.2.1,X.2.1.2.2.1)) λX x=>((z1 (u x.1) X.1),(z2 (u x.2) X.2.1),X.2.2)
theorem aeZ:xU E agv.g ahL aiu (cJ f128 1):=lk Jl XM (λX=>(X.1.2.1,X.2.1.2.2.1)) λX x=>((z1 (u x.1) X.1),(z2 (u x.2) X.2.1),X.2.2)
def aik:=agv.qk ahL func128 [pI,pf vn,pf oD,pd .bool,pI,pI] [(true,Y0),rB] (c6 ui) (cF ahp (cF aeZ nF))
def amT:iZ:=jd (.pair (.sl .wJ (.int .u8)) (.pair (.int .i64) (.int .i64))) [] [(true,Y23)] λx a=>uA x
theorem anO:DQ 129 amT:=gC.pq (oU (an:={mv:=[11]}) (Λ:=kZ.nil) (aik.s) func129 (by kernel_rfl) (ao nF)) (λx a=>by kernel_rfl)
def aaK:=aik.add anO
def e71:iZ:=jd (.pair (.sl .wJ (.int .u8)) (.pair (.int .i64) (.int .i64))) [] [(true,Y0)] λx a=>xM x
def n71:An:={mask:=mk [(2,[0,2,3]),(6,[0,2,3,4,5,6])],mv:=[15,32,46,49,50,60],sb:=mg [(7,7),(34,0),(37,0),(40,0),(43,0)]}
abbrev WX:SD:=⟨.ptr 0 0::B::.ptr 2 0::DI::.ptr 4 0::DI::DI::bs 54 [],(some Y7)::Z::(some Y2)::Z::(some Y15)::zs 56 [],.ptr⟩
def ago (X:SD.D WX)(K:uM R):=xa (λy0 y1=>ke 2 K WX ((z2 (u y0) X.1),(z2 (u y1) X.2.1),X.2.2)) X.1.1 X.1.2.1 X.2.1.1 X.2.1.2.1
abbrev QX:SD:=⟨.ptr 0 0::B::.ptr 2 0::DI::bs 57 [],(some Y7)::Z::(some Y2)::zs 58 [],.ptr⟩
def agn (X:SD.D QX)(K:uM R):=wZ (λy0 y1=>ke 0 K QX ((u y0 X.1),(u y1 X.2.1),X.2.2)) (λy0 y1 y2=>kr K QX ((u y0 X.1),(w y1 (u y2) X.2.1),X.2.2)) X.2.1.2.1
def L71:kZ:=(kZ.nil.add 6 (yR WX ago (λX=>(q2 X,X.2.1.2.2.1)))).add 2 (yR QX agn (λX=>(X.1.1,X.2.1.1)))
theorem ajx:xU E aaK.g n71 L71 (cJ f71 1):=lk WX ago (λX=>(q2 X,X.2.1.2.2.1)) λX x=>((z2 (u x.1) X.1),(z2 (u x.2) X.2.1),X.2.2)
theorem ajw:xU E aaK.g n71 L71 (cJ f71 0):=lk QX agn (λX=>(X.1.1,X.2.1.1)) λX x=>((u x.1 X.1),(u x.2 X.2.1),X.2.2)
theorem o71:DQ 71 e71:=gC.pq (oU (Γ:=aaK.g) (an:=n71) (Λ:=L71) (aaK.s) func71 (by kernel_rfl) (ao (cF ajw (cF ajx nF)))) (λx a=>by kernel_rfl)
def G71:=aaK.add o71
def akb:=G71.q0 {merge:=mg [(1,16)]} func132 [pd .str] [rS,rB] (c1 vQ)
def alQ:=akb.q0 {} func249 [pd .str,pI] [rI] (c2 gN)
def alR:=alQ.q0 {} func250 [pd .str,pI] [rI] (c2 nP)
def ak3:=alR.q0 {sb:=mg [(4,4)]} func194 [pd .str] [(true,Y14),rB] (c1 vU)
def ak4:=ak3.q0 {merge:=mg [(2,22),(6,56)],sb:=mg [(5,5)]} func195 [pd .str] [(true,Y20),rB] (c1 xz)
def ak5:=ak4.q0 {merge:=mg [(3,20),(9,44),(12,68)]} func196 [pI,pI,pI,pd .str] [(true,(.pair (.int .i64) Y20)),rB] (c4 pA)
def akc:=ak5.q0 {merge:=mg [(2,20)]} func133 [pd .str] [(true,Y3),rI] (c1 uq)
def G72:=akc.q0 {} func72 [pd .str] [(true,Y3),rI] (c1 uo)
def akd:=G72.q0 {} func134 [pf cU] [(true,(.pair (.int .i64) Y1))] (c1 CW)
abbrev Ug:SD:=⟨cC (iQ dG)::B::B::.ptr 3 0::DI::DI::bs 14 [],Z::Z::Z::(pD (cD yO Y1))::zs 16 [],.none⟩
def aeb:=akd.q1 {mask:=mk [(2,[0,3,4,5])]} func135 [pd (.sl dG),pf pG] [rI] (c2 qI) Ug (λX K=>mD (λy0=>ke 0 K Ug ((z2 (u y0) X.1),X.2)) (λy0 y1=>kr K Ug ((z1 (w y0 (u y1)) X.1),X.2)) X.1.1 X.1.2.1 X.2.1.1) q2 (λX x=>((z2 (u x) X.1),X.2))
def e73:iZ:=jd (.pair (.sl .wJ (.int .u8)) (.pair (.int .i64) (.int .i64))) [pd (.sl cU)] [(false,(.sl (.own none) dG))] λx a=>xE x a.1
def n73:An:={mask:=mk [(3,[0,1,5,6])],mv:=[45,52],sb:=mg [(41,0)]}
abbrev WY:SD:=⟨.ptr 0 0::cC (iQ cU)::B::B::B::cC (dh 61440 dG)::DI::bs 46 [],(some Y7)::zs 52 [],.ptr⟩
def agp (X:SD.D WY)(K:uM R):=wY (λy0 y1 y2=>ke 0 K WY ((z1 (w y0 (u y1)) X.1),(u y2 X.2.1),X.2.2)) X.1.1
def L73:kZ:=kZ.nil.add 3 (yR WY agp (λX=>(X.1.2.1,q2 X,X.2.1.1)))
theorem ajy:xU E aeb.g n73 L73 (cJ f73 0):=lk WY agp (λX=>(X.1.2.1,q2 X,X.2.1.1)) λX x=>((z1 (w x.1 (u x.2.1)) X.1),(u x.2.2 X.2.1),X.2.2)
theorem o73:DQ 73 e73:=gC.pq (oU (Γ:=aeb.g) (an:=n73) (Λ:=L73) (aeb.s) func73 (by kernel_rfl) (ao (cF ajy nF))) (λx a=>by kernel_rfl)
def G73:=aeb.add o73
def e28:iZ:=jd (.pair (.sl .wJ (.int .u8)) (.pair (.int .i64) (.int .i64))) [pd (.sl Ab)] [(true,Y0)] λx a=>wb x a.1
def n28:An:={mask:=mk [(4,[0,1,4,5,6,7])],mv:=[30,38]}
abbrev WU:SD:=⟨.ptr 0 0::cC (iQ Ab)::B::B::.ptr 4 0::.ptr 5 0::cC (dh 73728 cU)::DI::bs 31 [],(some Y7)::Z::Z::Z::(some Y6)::(pD (cD (dh 61441 .str) (cD (dh 61444 bC) (cD (cD Y1 (cD (js (js (js (dh 61468 (.int .i64))))) (cD (dh 61471 hG) yO))) (cD (dh 61477 dI) (cD (dh 61480 gZ) (cD (dh 61483 fA) (cD (dh 61486 .bool) (cD (js (cD .bool (dh 61495 (.int .i64)))) (cD (cD (dh 61498 iI) (cD (dh 61501 fW) (cD .str (dh 61507 (.int .i64))))) (cD (dh 61510 dG) (cD .bool (cD (dh 61516 .str) (cD (dh 61519 (.int .i64)) (cD (dh 61522 (.int .i64)) (cD yO Y1))))))))))))))))::zs 33 [],.ptr⟩
def agj (X:SD.D WU)(K:uM R):=vg (λy0 y1=>ke 0 K WU ((z1 (w y0 (u y1)) X.1),X.2)) X.1.1 X.2.1.1 X.2.1.2.1 X.2.1.2.2.1
def L28:kZ:=kZ.nil.add 4 (yR WU agj (λX=>(X.1.2.1,q2 X)))
theorem ajs:xU E G73.g n28 L28 (cJ f28 0):=lk WU agj (λX=>(X.1.2.1,q2 X)) λX x=>((z1 (w x.1 (u x.2)) X.1),X.2)
theorem o28:DQ 28 e28:=gC.pq (oU (Γ:=G73.g) (an:=n28) (Λ:=L28) (G73.s) func28 (by kernel_rfl) (ao (cF ajs nF))) (λx a=>by kernel_rfl)
def G28:=G73.add o28
def G7:=G28.q0 {mv:=[13]} func7 [pd (.sl (.int .u8))] [(true,Y0),(false,(.sl (.own none) Ab))] (c1 nb)
def G74:=G7.q0 {} func74 [pd (.sl .str)] [(false,(.sl (.own none) .str))] (c1 kh)
def G29:=G74.q0 {} func29 [pf (.sl .str)] [(true,(.sl (.own none) .str))] (c1 cB)
def G8:=G29.q0 {sb:=mg [(2,2)]} func8 [pf (.sl .str)] [(true,Y21)] (c1 tO)
abbrev abz:SD:=⟨B::.ptr 1 0::DB::B::B::B::cC (iQ .str)::DI::DI::bs 11 [],Z::(pD (iQ .str))::zs 18 [],.none⟩
def G46:=G8.q1 {mask:=mk [(2,[1,2,6,7,8])]} func46 [pf (.sl .str)] [rB] (c1 rp) abz (λX K=>Aq (λy0=>ke 0 K abz ((z3 (u y0) X.1),X.2)) (λy0 y1=>kr K abz ((w y0 (z2 (u y1)) X.1),X.2)) X.1.1 X.1.2.1 (q2 X) X.2.1.1) q3 (λX x=>((z3 (u x) X.1),X.2))
abbrev aby:SD:=⟨B::DI::DI::B::B::B::DI::B::B::cC (iQ bC)::DI::DI::bs 16 [],zs 28 [],.none⟩
def G38:=G46.q1 {mask:=mk [(2,[1,2,6,9,10,11])],merge:=mg [(4,25)]} func38 [pd (.sl bC),pI,pI] [rI] (c3 ki) aby (λX K=>mx (λy0=>ke 0 K aby ((z5 (u y0) X.1),X.2)) (λy0 y1=>kr K aby ((z2 (w y0 (z2 (u y1))) X.1),X.2)) X.1.1 X.1.2.1 (q2 X) (q3 X) (q4 X)) q5 (λX x=>((z5 (u x) X.1),X.2))
def G50:=G38.q0 {merge:=mg [(1,6)]} func50 [pI,pI,pI] [rB] (c3 aD)
abbrev abA:SD:=⟨cC (iQ bC)::B::DB::B::B::cC (iQ bC)::DI::DI::bs 34 [],zs 42 [],.none⟩
def G47:=G50.q1 {mask:=mk [(2,[0,2,5,6,7])],merge:=mg [(4,37)]} func47 [pd (.sl bC)] [rB] (c1 nZ) abA (λX K=>nz (λy0=>ke 0 K abA ((z4 (u y0) X.1),X.2)) (λy0 y1=>kr K abA ((z1 (w y0 (z2 (u y1))) X.1),X.2)) X.1.1 X.1.2.1 (q2 X) (q3 X)) q4 (λX x=>((z4 (u x) X.1),X.2))
abbrev abD:SD:=⟨B::.ptr 1 0::DB::cC (dh 36864 .bool)::bs 22 (cC (iQ (.int .i64))::DI::DI::bs 19 []),Z::(some Y13)::zs 46 [],.none⟩
def G52:=G47.q1 {mask:=mk [(5,[1,2,3,26,27,28])],merge:=mg [(1,21),(7,43)]} func52 [pf gZ] [rB] (c1 iw) abD (λX K=>tL (λy0 y1=>ke 0 K abD ((z1 (w y0 (z2 (u y1))) X.1),X.2)) (λy0 y1 y2=>kr K abD ((w y0 (w y1 (z2 (u y2))) X.1),X.2)) X.1.1 (q2 X) (q3 X) X.2.1.1) (λX=>(X.1.2.1,q4 X)) (λX x=>((z1 (w x.1 (z2 (u x.2))) X.1),X.2))
def akv:=G52.q0 {merge:=mg [(1,2)]} func153 [pI] [rB] (c1 rA)
def akK:=akv.q0 {} func169 [pI,pI] [rI] (c2 ix)
def akw:=akK.q0 {} func154 [pf sO] [rI] (c1 iV)
def G97:=akw.q0 {merge:=mg [(1,2)]} func97 [pf sO] [rB] (c1 jh)
def G31:=G97.q0 {} func31 [pd (.sl (.int .i64))] [(false,(.sl (.own none) (.int .i64)))] (c1 eT)
def G80:=G31.q0 {mv:=[7]} func80 [pf gZ] [(true,Y8)] (c1 hY)
def ajP:=G80.q0 {merge:=mg [(3,21)],mv:=[10,24]} func101 [pf gZ,pd (.sl (.int .i64))] [(true,Y8),rB] (c2 fM)
abbrev abB:SD:=⟨B::.ptr 1 0::DB::DI::cC (dh 49152 (.int .i64))::bs 25 (cC (iQ hG)::DI::DI::bs 35 []),Z::(some Y24)::zs 66 [],.none⟩
def G48:=ajP.q1 {mask:=mk [(6,[1,2,3,4,30,31,32])],merge:=mg [(1,24),(8,50)],mv:=[55]} func48 [pf ko] [rB] (c1 yb) abB (λX K=>tQ (λy0 y1 y2=>ke 0 K abB ((z1 (w y0 (w y1 (z2 (u y2)))) X.1),X.2)) (λy0 y1 y2 y3=>kr K abB ((w y0 (w y1 (w y2 (z2 (u y3)))) X.1),X.2)) X.1.1 (q3 X) (q4 X) X.2.1.1) (λX=>(X.1.2.1,q2 X,q5 X)) (λX x=>((z1 (w x.1 (w x.2.1 (z2 (u x.2.2)))) X.1),X.2))
abbrev abC:SD:=⟨B::.ptr 1 0::DB::B::B::B::cC (iQ (.int .i64))::DI::DI::bs 31 [],Z::(some Y25)::zs 38 [],.none⟩
def G49:=G48.q1 {mask:=mk [(2,[1,2,6,7,8])],merge:=mg [(4,29),(7,2)]} func49 [pf vn] [rB] (c1 rm) abC (λX K=>qh (λy0=>ke 0 K abC ((z3 (u y0) X.1),X.2)) (λy0 y1=>kr K abC ((w y0 (z2 (u y1)) X.1),X.2)) X.1.1 X.1.2.1 (q2 X) X.2.1.1) q3 (λX x=>((z3 (u x) X.1),X.2))
def ajQ:=G49.q0 {merge:=mg [(1,2)]} func102 [pf gO] [rB] (c1 nC)
def akD:=ajQ.q0 {merge:=mg [(1,18),(5,2),(7,2)]} func161 [pf Ac] [rB] (c1 pP)
def akE:=akD.q0 {merge:=mg [(1,2)]} func162 [pI] [rB] (c1 pT)
def ajR:=akE.q0 {merge:=mg [(1,2)]} func103 [pf cU] [rB] (c1 gi)
def G51:=ajR.q0 {merge:=mg [(1,42),(5,2)]} func51 [pf dI] [rB] (c1 uQ)
def ajS:=G51.q0 {merge:=mg [(1,2)]} func104 [pf fA] [rB] (c1 As)
def G53:=ajS.q0 {merge:=mg [(1,24),(3,2)]} func53 [pf fA] [rB] (c1 lR)
def akF:=G53.q0 {merge:=mg [(1,33),(3,54),(5,2)]} func163 [pf iI] [rB] (c1 zn)
abbrev Ud:SD:=⟨cC (iQ iI)::B::DB::B::B::cC (iQ iI)::DI::DI::bs 10 [],zs 18 [],.none⟩
def ajT:=akF.q1 {mask:=mk [(2,[0,2,5,6,7])]} func105 [pd (.sl iI)] [rB] (c1 xu) Ud (λX K=>BR (λy0=>ke 0 K Ud ((z4 (u y0) X.1),X.2)) (λy0 y1=>kr K Ud ((z1 (w y0 (z2 (u y1))) X.1),X.2)) X.1.1 X.1.2.1 (q2 X) (q3 X)) q4 (λX x=>((z4 (u x) X.1),X.2))
abbrev Ul:SD:=⟨B::B::B::.ptr 3 0::DI::B::B::B::cC (iQ fW)::DI::DI::bs 15 [],Z::Z::Z::(pD (cD yO Y1))::zs 22 [],.none⟩
def akG:=ajT.q1 {mask:=mk [(2,[3,4,8,9,10])],merge:=mg [(4,23)]} func164 [pf (.sl fW),pf pG] [rI] (c2 wu) Ul (λX K=>tW (λy0=>ke 0 K Ul ((z3 (u y0) X.1),X.2)) (λy0 y1=>kr K Ul ((w y0 (z2 (u y1)) X.1),X.2)) X.1.1 X.1.2.1 (q2 X) X.2.1.1) q3 (λX x=>((z3 (u x) X.1),X.2))
abbrev abi:SD:=⟨B::B::B::DI::bs 12 (cC (dh 196608 (.int .i64))::DI::DI::bs 10 []),zs 29 [],.none⟩
def alp:=akG.q1 {mask:=mk [(3,[3,16,17,18])]} func218 [pf pG] [rI] (c1 vA) abi (λX K=>mN (λy0 y1=>ke 0 K abi ((w y0 (z2 (u y1)) X.1),X.2)) X.1.2.1 (q2 X)) (λX=>(X.1.1,q3 X)) (λX x=>((w x.1 (z2 (u x.2)) X.1),X.2))
abbrev abc:SD:=⟨B::.ptr 1 0::B::cC (dh 36864 (.int .i64))::DI::bs 14 [],Z::(pD (cD yO Y1))::zs 17 [],.none⟩
def agu:=alp.q1 {mask:=mk [(3,[1,3,4])],mv:=[10,18]} func165 [pf pG] [(false,(.sl (.own none) (.int .i64)))] (c1 Bh) abc (λX K=>rD (λy0 y1=>ke 0 K abc ((w y0 (u y1) X.1),X.2)) X.2.1.1) (λX=>(X.1.1,X.1.2.1)) (λX x=>((w x.1 (u x.2) X.1),X.2))
def ahJ:An:={mask:=mk [(4,[1,2,12,13,14]),(14,[1,2,3,12,13,14,49,50,51])],merge:=mg [(6,28),(9,40)]}
abbrev Fv:SD:=⟨B::.ptr 1 0::DB::DI::bs 8 (cC (iQ fW)::DI::DI::bs 34 (cC (dh 602112 (.int .i64))::DI::DI::bs 15 [])),Z::(pD (iQ fW))::zs 65 [],.none⟩
def XK (X:SD.D Fv)(K:uM R):=kf (λy0=>ke 2 K Fv ((z7 (u y0) X.1),X.2)) (λy0 y1=>kr K Fv ((w y0 (z6 (u y1)) X.1),X.2)) X.1.1 X.1.2.1 (q2 X) (q3 X) (q4 X) (q5 X) (q6 X) X.2.1.1
abbrev JV:SD:=⟨B::.ptr 1 0::DB::bs 9 (cC (iQ fW)::DI::DI::bs 52 []),Z::(pD (iQ fW))::zs 65 [],.none⟩
def adE (X:SD.D JV)(K:uM R):=sf (λy0=>ke 0 K JV ((z3 (u y0) X.1),X.2)) (λy0 y1=>kr K JV ((w y0 (z2 (u y1)) X.1),X.2)) X.1.1 X.1.2.1 (q2 X) X.2.1.1
def ais:kZ:=(kZ.nil.add 14 (yR Fv XK q7)).add 4 (yR JV adE q3)
theorem aeX:xU E agu.g ahJ ais (cJ f106 1):=lk Fv XK q7 λX x=>((z7 (u x) X.1),X.2)
theorem ahm:xU E agu.g ahJ ais (cJ f106 0):=lk JV adE q3 λX x=>((z3 (u x) X.1),X.2)
def ajU:=agu.qk ahJ func106 [pf (.sl fW)] [rB] (c1 qu) (cF ahm (cF aeX nF))
def akH:=ajU.q0 {merge:=mg [(1,2)]} func166 [pI] [rB] (c1 CF)
abbrev Ue:SD:=⟨B::DI::B::B::DB::bs 19 (cC (iQ (.int .i64))::DI::DI::bs 9 []),zs 36 [],.none⟩
def ags:=akH.q1 {mask:=mk [(4,[1,4,24,25,26])],merge:=mg [(1,22)]} func107 [pf Db,pI] [rB] (c2 vH) Ue (λX K=>Ar (λy0=>ke 0 K Ue ((z4 (u y0) X.1),X.2)) (λy0 y1=>kr K Ue ((z1 (w y0 (z2 (u y1))) X.1),X.2)) X.1.1 X.1.2.1 (q2 X) (q3 X)) q4 (λX x=>((z4 (u x) X.1),X.2))
def n54:An:={mask:=mk [(4,[1,2,4,27,28,29]),(10,[1,4,45,46,47])],merge:=mg [(1,25),(6,41),(12,59)]}
abbrev QW:SD:=⟨B::DI::.ptr 2 0::B::DB::bs 22 (cC (iQ iI)::DI::DI::bs 31 []),Z::Z::(some Y17)::zs 58 [],.none⟩
def agk (X:SD.D QW)(K:uM R):=nE (λy0=>ke 0 K QW ((z4 (u y0) X.1),X.2)) (λy0 y1=>kr K QW ((z1 (w y0 (z2 (u y1))) X.1),X.2)) X.1.1 X.1.2.1 (q2 X) (q3 X) X.2.1.1
abbrev J0:SD:=⟨B::DI::B::B::DB::bs 40 (cC (iQ fW)::DI::DI::bs 13 []),zs 61 [],.none⟩
def adX (X:SD.D J0)(K:uM R):=mn (λy0=>ke 2 K J0 ((z4 (u y0) X.1),X.2)) (λy0 y1=>kr K J0 ((z1 (w y0 (z2 (u y1))) X.1),X.2)) X.1.1 X.1.2.1 (q2 X) (q3 X)
def L54:kZ:=(kZ.nil.add 4 (yR QW agk q4)).add 10 (yR J0 adX q4)
theorem ajt:xU E ags.g n54 L54 (cJ f54 0):=lk QW agk q4 λX x=>((z4 (u x) X.1),X.2)
theorem ahF:xU E ags.g n54 L54 (cJ f54 1):=lk J0 adX q4 λX x=>((z4 (u x) X.1),X.2)
def G54:=ags.qk n54 func54 [pf oD,pI] [rB] (c2 oc) (cF ajt (cF ahF nF))
def n18:An:={mask:=mk [(5,[1,2,3,61,62]),(12,[1,2,3,103,104,105])],merge:=mg [(2,58),(7,89)]}
abbrev QV:SD:=⟨B::.ptr 1 0::DB::DI::bs 57 (DI::DI::bs 54 []),Z::(some Y4)::zs 115 [],.none⟩
def agf (X:SD.D QV)(K:uM R):=tH (λy0=>ke 0 K QV ((z3 (u y0) X.1),X.2)) (λy0 y1=>kr K QV ((w y0 (z2 (u y1)) X.1),X.2)) X.1.1 X.1.2.1 (q2 X) X.2.1.1
abbrev JY:SD:=⟨B::.ptr 1 0::DB::DI::bs 99 (cC (dh 1265664 (.int .i64))::DI::DI::bs 11 []),Z::(some Y4)::zs 115 [],.none⟩
def adQ (X:SD.D JY)(K:uM R):=rZ (λy0=>ke 2 K JY ((z4 (u y0) X.1),X.2)) (λy0 y1=>kr K JY ((w y0 (z3 (u y1)) X.1),X.2)) X.1.1 X.1.2.1 (q2 X) (q3 X) X.2.1.1
def L18:kZ:=(kZ.nil.add 5 (yR QV agf q3)).add 12 (yR JY adQ q4)
theorem ajp:xU E G54.g n18 L18 (cJ f18 0):=lk QV agf q3 λX x=>((z3 (u x) X.1),X.2)
theorem ahy:xU E G54.g n18 L18 (cJ f18 1):=lk JY adQ q4 λX x=>((z4 (u x) X.1),X.2)
def G18:=G54.qk n18 func18 [pf dC] [rB] (c1 iv) (cF ajp (cF ahy nF))
def G78:=G18.q0 {} func78 [pd (.sl bC)] [(false,(.sl (.own none) bC))] (c1 tS)
abbrev aa8:SD:=⟨B::B::B::cC (dh 36864 hG)::B::B::B::cC (iQ hG)::DI::DI::bs 16 [],zs 26 [],.none⟩
def akj:=G78.q1 {mask:=mk [(3,[3,7,8,9])],mv:=[13,25]} func141 [pd (.sl hG)] [(false,(.sl (.own none) hG))] (c1 rz) aa8 (λX K=>qA (λy0 y1=>ke 0 K aa8 ((w y0 (z2 (u y1)) X.1),X.2)) X.1.2.1 (q2 X)) (λX=>(X.1.1,q3 X)) (λX x=>((w x.1 (z2 (u x.2)) X.1),X.2))
def G79:=akj.q0 {sb:=mg [(2,2)]} func79 [pf ko] [(true,Y16)] (c1 pQ)
def G81:=G79.q0 {mv:=[7]} func81 [pf vn] [(true,Y23)] (c1 si)
def akk:=G81.q0 {} func142 [pf (.sl fW)] [(true,(.sl (.own none) fW))] (c1 tT)
def akl:=akk.q0 {sb:=mg [(2,2)]} func143 [pf Db] [(true,(.pair .str (.sl (.own none) (.int .i64))))] (c1 sj)
def G82:=akl.q0 {sb:=mg [(2,2)]} func82 [pf oD] [(true,Y18)] (c1 pk)
def G83:=G82.q0 {} func83 [pd (.sl dG)] [(false,(.sl (.own none) dG))] (c1 kg)
abbrev afR:SD:=⟨B::.ptr 1 0::.ptr 2 0::.ptr 3 0::bs 23 (cC (iQ gZ)::DI::DI::bs 46 []),Z::(some Y4)::(some Y2)::(pD (cD (dh 36865 .str) (cD (dh 36868 bC) (cD (cD Y1 (cD (js (js (js (dh 36892 (.int .i64))))) (cD (dh 36895 hG) yO))) (cD (dh 36901 dI) (cD (dh 36904 gZ) (cD (iQ fA) (cD (iQ .bool) (cD Y25 (cD Y17 (cD (iQ dG) (cD .bool (cD (iQ .str) (cD (iQ (.int .i64)) (cD (iQ (.int .i64)) (cD yO Y1))))))))))))))))::zs 72 [],.none⟩
def G35:=G83.q1 {mask:=mk [(8,[1,2,3,27,28,29])],mv:=[34,75],mb:=mg [(34,3)],sb:=mg [(39,3)]} func35 [pf dC] [(true,Y0)] (c1 gF) afR (λX K=>qz (λy0 y1=>ke 0 K afR ((z2 (u y0) X.1),(z2 (u y1) X.2.1),X.2.2)) X.1.1 X.1.2.1 X.2.1.1 X.2.1.2.1) (λX=>(q2 X,X.2.1.2.2.1)) (λX x=>((z2 (u x.1) X.1),(z2 (u x.2) X.2.1),X.2.2))
def akx:=G35.q0 {merge:=mg [(1,2)]} func155 [pf nq] [rB] (c1 wj)
def aky:=akx.q0 {} func156 [pI] [rS] (c1 bX)
def akz:=aky.q0 {} func157 [pI] [rS] (c1 fX)
def G98:=akz.q0 {} func98 [pf nq] [rS] (c1 kX)
def G99:=G98.q0 {merge:=mg [(1,15)]} func99 [pf gZ,pI] [rI] (c2 fL)
def akA:=G99.q0 {} func158 [pf sO] [rI] (c1 ru)
def aln:=akA.q0 {merge:=mg [(4,29)]} func216 [pd (.sl bC),pI,pI,pd .bool] [rI] (c4 Bg)
def alo:=aln.q0 {merge:=mg [(2,6)]} func217 [pf (.sl .str),pI,pI] [rB] (c3 sW)
abbrev Uk:SD:=⟨cC (iQ bC)::B::DI::DI::DI::DB::B::.ptr 7 0::bs 4 (cC (dh 147456 iB)::DB::cC (dh 172032 iB)::bs 60 []),zs 7 ((pD (iQ .str))::zs 67 []),.none⟩
def akt:=alo.q1 {mask:=mk [(8,[0,2,3,4,5,7,12,13,14])],merge:=mg [(1,29),(11,55),(16,73)],mv:=[56,74]} func151 [pd (.sl bC),pf (.sl .str),pI,pI,pI,pd .bool] [(false,(.sl (.own none) iB)),rB] (c6 wq) Uk (λX K=>pR (λy0 y1 y2=>ke 0 K Uk ((z2 (w y0 (w y1 (z3 (u y2)))) X.1),X.2)) (λy0 y1 y2 y3 y4=>kr K Uk ((z2 (w y0 (w y1 (z1 (w y2 (w y3 (u y4)))))) X.1),X.2)) X.1.1 X.1.2.1 (q4 X) (q5 X) (q6 X) X.2.1.1) (λX=>(q2 X,q3 X,q7 X)) (λX x=>((z2 (w x.1 (w x.2.1 (z3 (u x.2.2)))) X.1),X.2))
abbrev abb:SD:=⟨B::DI::cC .str::B::B::B::.ptr 6 0::B::.ptr 8 0::bs 41 [],zs 6 ((pD (dh 73729 .str))::Z::(pD (dh 98305 .str))::zs 41 []),.none⟩
def aku:=akt.q1 {mask:=mk [(4,[1,2,6,8])],nest:=[33],mv:=[19,49]} func152 [pf (.sl .str),pI,pd .str] [(true,(.sl (.own none) .str)),rB] (c3 qx) abb (λX K=>mw (λy0 y1 y2=>ke 0 K abb ((w y0 (u y1) X.1),(z1 (u y2) X.2.1),X.2.2)) X.2.1.1) (λX=>(X.1.1,X.1.2.1,X.2.1.2.1)) (λX x=>((w x.1 (u x.2.1) X.1),(z1 (u x.2.2) X.2.1),X.2.2))
abbrev afZ:SD:=⟨bs 4 (cC .str::bs 7 (.ptr 12 0::B::.ptr 14 0::bs 20 (cC (.sl .loc iB)::DI::DI::bs 20 []))),zs 12 ((pD (dh 147457 .str))::Z::(pD (dh 172033 .str))::zs 43 []),.none⟩
def G96:=aku.q1 {mask:=mk [(6,[4,12,14,35,36,37])],mv:=[34,41,50,57],sb:=mg [(14,14)]} func96 [pd (.sl bC),pf (.sl .str),pI,pI,pd .str,pd .bool] [(true,(.sl (.own none) .str)),rB] (c6 CE) afZ (λX K=>wo (λy0 y1 y2=>ke 0 K afZ ((w y0 (z2 (u y1)) X.1),(z1 (u y2) X.2.1),X.2.2)) X.1.2.1 (q2 X) X.2.1.1) (λX=>(X.1.1,q3 X,X.2.1.2.1)) (λX x=>((w x.1 (z2 (u x.2.1)) X.1),(z1 (u x.2.2) X.2.1),X.2.2))
def akB:=G96.q0 {} func159 [pd (.sl bC),pf (.sl .str),pI,pI,pd .str] [(true,(.sl (.own none) .str)),rB] (c5 oJ)
def akC:=akB.q0 {merge:=mg [(1,11)]} func160 [pf sO,pI] [rI] (c2 mP)
def ajO:=akC.q0 {merge:=mg [(1,22)],mv:=[26,36,40,50],mb:=mg [(40,13),(50,13)],sb:=mg [(10,10),(11,11),(13,13)]} func100 [pd (.sl bC),pf (.sl .str),pI,pf sO,pd .str] [(true,(.sl (.own none) .str)),(true,Y1),rB] (c5 tN)
abbrev afT:SD:=⟨cC (iQ bC)::B::DI::bs 5 (.ptr 8 0::.ptr 9 0::.ptr 10 0::.ptr 11 0::.ptr 12 0::B::.ptr 14 0::.ptr 15 0::DI::bs 22 (cC (iQ (.int .i64))::DI::DI::bs 38 [])),zs 8 ((some Y1)::(some Y13)::(pD (dh 122881 .str))::(some Y1)::(some Y27)::Z::(pD (dh 172033 .str))::(some Y26)::zs 64 []),.none⟩
def G45:=ajO.q1 {mask:=mk [(6,[0,2,8,9,10,11,12,14,15,16,39,40,41])],merge:=mg [(2,34)],mv:=[35,37,53,65,76,78],mb:=mg [(35,14),(37,15),(65,20),(76,14),(78,15)],sb:=mg [(8,8),(10,10),(11,11),(12,12),(14,14),(15,15)]} func45 [pd (.sl bC),pf (.sl .str),pI,pf sO,pf gZ] [(true,(.sl (.own none) .str)),(true,Y1),(true,Y8),rI] (c5 hU) afT (λX K=>mK (λy0 y1 y2 y3=>ke 0 K afT ((z2 (w y0 (z2 (u y1))) X.1),(w y2 (z4 (u y3)) X.2.1),X.2.2)) X.1.1 X.1.2.1 (q3 X) (q4 X) X.2.1.2.1 X.2.1.2.2.1 X.2.1.2.2.2.1 X.2.1.2.2.2.2.1 X.2.1.2.2.2.2.2.2.1) (λX=>(q2 X,q5 X,X.2.1.1,X.2.1.2.2.2.2.2.1)) (λX x=>((z2 (w x.1 (z2 (u x.2.1))) X.1),(w x.2.2.1 (z4 (u x.2.2.2)) X.2.1),X.2.2))
abbrev abh:SD:=⟨B::DI::DI::.ptr 3 0::bs 4 (cC (dh 98304 (.int .u8))::bs 41 []),Z::Z::Z::(pD (iQ .str))::zs 46 [],.none⟩
def ali:=G45.q1 {mask:=mk [(4,[1,2,3,8])],mv:=[41]} func212 [pf (.sl .str),pI,pI] [rS,rB] (c3 oa) abh (λX K=>kv (λy0 y1=>ke 0 K abh ((w y0 (z1 (u y1)) X.1),X.2)) X.1.2.1 X.2.1.1) (λX=>(X.1.1,q2 X)) (λX x=>((w x.1 (z1 (u x.2)) X.1),X.2))
abbrev aa9:SD:=⟨bs 6 (.ptr 6 0::bs 7 (cC .str::bs 15 (cC (.sl .loc iB)::DI::DI::bs 17 []))),zs 6 ((pD (iQ .str))::zs 43 []),.none⟩
def akq:=ali.q1 {mask:=mk [(6,[6,14,30,31,32])]} func148 [pd (.sl bC),pf (.sl .str),pI,pI,pI] [rS,rB] (c5 nv) aa9 (λX K=>rX (λy0 y1=>ke 0 K aa9 ((w y0 (z2 (u y1)) X.1),X.2)) X.1.2.1 (q2 X) X.2.1.1) (λX=>(X.1.1,q3 X)) (λX x=>((w x.1 (z2 (u x.2)) X.1),X.2))
def akN:=akq.q0 {} func173 [pf gO] [rI] (c1 mS)
def alz:=akN.q0 {merge:=mg [(1,13)]} func228 [pd .str,pI] [rI] (c2 eX)
def alA:=alz.q0 {merge:=mg [(1,13)]} func229 [pd .str,pI] [rI] (c2 ie)
def akO:=alA.q0 {} func174 [pd .str] [(true,(.pair (.int .i64) Y1)),rI,rB] (c1 kG)
def akP:=akO.q0 {} func175 [pf gO] [rI] (c1 tU)
def aj4:=akP.q0 {merge:=mg [(7,46)],sb:=mg [(8,8),(9,9)]} func118 [pd (.sl bC),pf (.sl .str),pI,pf gO] [(true,(.pair (.int .i64) Y1)),(true,Y19),rB] (c4 mm)
def alY:=aj4.q0 {merge:=mg [(1,2)]} func258 [pf aaP] [rB] (c1 yz)
def alj:=alY.q0 {merge:=mg [(4,33)],sb:=mg [(4,4)]} func213 [pd .str] [(true,Y14),rB] (c1 rq)
def alT:=alj.q0 {merge:=mg [(1,17)]} func252 [pd .str,pI,pd .str] [rS] (c3 fG)
def amF:=alT.q0 {merge:=mg [(1,12)]} func302 [pI,pI] [rI] (c2 xo)
abbrev abu:SD:=⟨cC .str::B::B::DI::DI::bs 28 [],zs 33 [],.none⟩
def amv:=amF.q1 {mask:=mk [(3,[0,3,4])]} func292 [pd .str] [rI] (c1 vI) abu (λX K=>qt (λy0 y1=>ke 0 K abu ((z1 (w y0 (u y1)) X.1),X.2)) X.1.1) (λX=>(X.1.2.1,q2 X)) (λX x=>((z1 (w x.1 (u x.2)) X.1),X.2))
def al9:=amv.q0 {} func269 [pd .str] [rI] (c1 iU)
def amE:=al9.q0 {merge:=mg [(1,2)]} func301 [pf TIp] [rB] (c1 Hl)
def amq:=amE.q0 {} func287 [pf TIp] [rS,rB] (c1 vD)
def alZ:=amq.q0 {} func259 [pf TIp] [rS,rB] (c1 tC)
def alk:=alZ.q0 {merge:=mg [(2,22),(6,56)],sb:=mg [(5,5)]} func214 [pd .str] [(true,Y20),rB] (c1 xt)
def al7:=alk.q0 {merge:=mg [(1,27)]} func267 [pI,pI,pI,pI] [rS,rB] (c4 pg)
def al8:=al7.q0 {} func268 [pI] [rI] (c1 fj)
def amr:=al8.q0 {} func288 [pf Ac] [rS] (c1 qy)
def al0:=amr.q0 {merge:=mg [(8,39)]} func260 [pI,pI,pf Ac] [rS,rB] (c3 jj)
def alm:=al0.q0 {merge:=mg [(3,20),(9,44),(12,68)]} func215 [pI,pI,pI,pd .str] [(true,(.pair (.int .i64) Y20)),rB] (c4 pe)
def akr:=alm.q0 {merge:=mg [(2,20)]} func149 [pd .str] [(true,Y3),rI] (c1 ig)
abbrev Uf:SD:=⟨B::B::B::.ptr 3 0::DI::B::B::cC (iQ dG)::DI::DI::bs 10 [],Z::Z::Z::(pD (cD yO Y1))::zs 16 [],.none⟩
def aj5:=akr.q1 {mask:=mk [(2,[3,4,7,8,9])]} func119 [pd (.sl dG),pf pG] [rI] (c2 qs) Uf (λX K=>mq (λy0=>ke 0 K Uf ((z3 (u y0) X.1),X.2)) (λy0 y1=>kr K Uf ((w y0 (z2 (u y1)) X.1),X.2)) X.1.1 X.1.2.1 (q2 X) X.2.1.1) q3 (λX x=>((z3 (u x) X.1),X.2))
def ald:=aj5.q0 {} func207 [pf cU] [(true,(.pair (.int .i64) Y1))] (c1 sV)
def aks:=ald.q0 {merge:=mg [(17,82)],mv:=[16,31,51,58,67,83,132],er:=mg [(115,5)]} func150 [pd (.sl dG),pf cU] [(false,(.sl (.own none) dG))] (c2 xp)
abbrev afX:SD:=⟨cC (iQ bC)::B::DI::B::B::B::DI::B::B::B::.ptr 10 0::B::B::B::.ptr 14 0::.ptr 15 0::.ptr 16 0::B::B::.ptr 19 0::.ptr 20 0::cC (dh 258048 dG)::DI::bs 99 [],zs 10 ((some Y9)::Z::Z::Z::(pD (dh 172033 .str))::(some Y9)::(pD (js (js (js (dh 196618 (.int .i64))))))::Z::Z::(pD (dh 233473 .str))::(pD (js (js (js (dh 245770 (.int .i64))))))::zs 101 []),.none⟩
def G94:=aks.q1 {mask:=mk [(5,[0,2,6,10,14,15,16,19,20,21,22])],merge:=mg [(2,48)],mv:=[49,51,52,96,104,117,119,120],mb:=mg [(49,19),(51,20),(117,19),(119,20)],sb:=mg [(14,14),(15,15),(16,16),(19,19),(20,20)]} func94 [pd (.sl bC),pf (.sl .str),pI,pf dI,pf gZ,pd (.sl dG),pI] [(true,(.sl (.own none) .str)),(true,Y9),(true,Y8),(false,(.sl (.own none) dG)),rI] (c7 tK) afX (λX K=>ly (λy0 y1 y2 y3=>ke 0 K afX ((z3 (w y0 (u y1)) X.1),(w y2 (z4 (u y3)) X.2.1),X.2.2)) X.1.1 X.1.2.1 (q2 X) X.2.1.2.1 X.2.1.2.2.1 X.2.1.2.2.2.1 X.2.1.2.2.2.2.1) (λX=>(q3 X,q4 X,X.2.1.1,X.2.1.2.2.2.2.2.1)) (λX x=>((z3 (w x.1 (u x.2.1)) X.1),(w x.2.2.1 (z4 (u x.2.2.2)) X.2.1),X.2.2))
def e39:iZ:=jd (.pair (.sl (.own none) .str) (.pair (.sl (.own none) bC) (.pair (.pair (.pair (.int .i64) (.pair (.int .i64) (.pair (.int .i64) (.int .i64)))) (.pair (.pair (.int .i64) (.pair (.int .i64) (.pair (.int .i64) (.sl (.own none) (.int .i64))))) (.pair (.sl (.own none) hG) (.int .i64)))) (.pair (.sl (.own none) dI) (.pair (.sl (.own none) gZ) (.pair (.sl (.own none) fA) (.pair (.sl (.own none) .bool) (.pair (.pair (.int .i64) (.pair .bool (.sl (.own none) (.int .i64)))) (.pair (.pair (.sl (.own none) iI) (.pair (.sl (.own none) fW) (.pair .str (.sl (.own none) (.int .i64))))) (.pair (.sl (.own none) dG) (.pair .bool (.pair (.sl (.own none) .str) (.pair (.sl (.own none) (.int .i64)) (.pair (.sl (.own none) (.int .i64)) (.pair (.int .i64) (.pair (.int .i64) (.pair (.int .i64) (.pair (.int .i64) (.int .i64))))))))))))))))))) [pI,pI] [rI] λx a=>jX x a.1 a.2.1
theorem o39:DQ 39 e39:=gC.pq (oU (an:={mv:=[8,49,51,52],sb:=mg [(55,0),(59,0)],fm:=[19,20],eb:=mg [(56,0),(57,0)]}) (Λ:=kZ.nil) (G94.s) func39 (by kernel_rfl) (ao nF)) (λx a=>by kernel_rfl)
def G39:=G94.add o39
abbrev afY:SD:=⟨B::B::DI::B::B::B::.ptr 6 0::B::.ptr 8 0::DI::bs 20 [],zs 6 ((some Y29)::Z::(some Y28)::zs 21 []),.none⟩
def G95:=G39.q1 {mask:=mk [(5,[2,6,8,9])],mv:=[24,29]} func95 [pI,pI,pI] [(true,Y8),rB] (c3 tJ) afY (λX K=>sa (λy0 y1=>ke 0 K afY ((z1 (u y0) X.1),(z1 (u y1) X.2.1),X.2.2)) X.1.1 X.2.1.1) (λX=>(X.1.2.1,X.2.1.2.1)) (λX x=>((z1 (u x.1) X.1),(z1 (u x.2) X.2.1),X.2.2))
def G40:=G95.q0 {mv:=[3,8]} func40 [] [(true,Y16)] (λa=>Bf)
def G41:=G40.q0 {} func41 [pd (.sl bC),pf (.sl .str),pI,pI,pd .str] [(true,(.sl (.own none) .str)),rB] (c5 jg)
def G42:=G41.q0 {} func42 [pI] [rI] (c1 pS)
abbrev afS:SD:=⟨cC (.int .u8)::bs 4 (cC (dh 61440 (.int .u8))::bs 4 (DI::DI::bs 9 [])),zs 21 [],.none⟩
def G43:=G42.q1 {mask:=mk [(3,[0,5,10,11])]} func43 [pd (.int .u8),pI] [rS] (c2 nr) afS (λX K=>tV (λy0 y1=>ke 0 K afS ((z1 (w y0 (z1 (u y1))) X.1),X.2)) X.1.1 (q2 X)) (λX=>(X.1.2.1,q3 X)) (λX x=>((z1 (w x.1 (z1 (u x.2))) X.1),X.2))
def G44:=G43.q0 {mv:=[10,24],mb:=mg [(24,5)],sb:=mg [(2,2),(3,3)]} func44 [pI] [(true,Y9),(true,Y8)] (c1 uR)
def n15:An:={mask:=mk [(5,[2,3,21,22]),(10,[2,3,30,31,32]),(18,[2,3,54,55])],mv:=[18,37,88,98,121,142],sb:=mg [(90,3)]}
abbrev WR:SD:=⟨B::B::.ptr 2 0::.ptr 3 0::bs 17 (DI::DI::bs 120 []),Z::Z::(some Y2)::(some Y5)::zs 139 [],.none⟩
def age (X:SD.D WR)(K:uM R):=pa (λy0 y1=>ke 0 K WR ((z1 (u y0) X.1),(z1 (u y1) X.2.1),X.2.2)) X.1.1 X.2.1.1
abbrev OG:SD:=⟨B::B::.ptr 2 0::.ptr 3 0::bs 26 (cC (.sl .loc hG)::DI::DI::bs 110 []),Z::Z::(some Y2)::(some Y5)::zs 139 [],.none⟩
def adI (X:SD.D OG)(K:uM R):=nw (λy0 y1=>ke 2 K OG ((z2 (u y0) X.1),(z1 (u y1) X.2.1),X.2.2)) X.1.1 X.1.2.1 X.2.1.1
abbrev OH:SD:=⟨B::B::.ptr 2 0::.ptr 3 0::bs 50 (DI::DI::bs 87 []),Z::Z::(some Y2)::(some Y5)::zs 139 [],.none⟩
def adJ (X:SD.D OH)(K:uM R):=ku (λy0 y1=>ke 4 K OH ((z1 (u y0) X.1),(z1 (u y1) X.2.1),X.2.2)) X.1.1 X.2.1.1
def L15:kZ:=((kZ.nil.add 5 (yR WR age (λX=>(X.1.2.1,X.2.1.2.1)))).add 10 (yR OG adI (λX=>(q2 X,X.2.1.2.1)))).add 18 (yR OH adJ (λX=>(X.1.2.1,X.2.1.2.1)))
theorem ajo:xU E G44.g n15 L15 (cJ f15 0):=lk WR age (λX=>(X.1.2.1,X.2.1.2.1)) λX x=>((z1 (u x.1) X.1),(z1 (u x.2) X.2.1),X.2.2)
theorem ahq:xU E G44.g n15 L15 (cJ f15 1):=lk OG adI (λX=>(q2 X,X.2.1.2.1)) λX x=>((z2 (u x.1) X.1),(z1 (u x.2) X.2.1),X.2.2)
theorem ahr:xU E G44.g n15 L15 (cJ f15 2):=lk OH adJ (λX=>(X.1.2.1,X.2.1.2.1)) λX x=>((z1 (u x.1) X.1),(z1 (u x.2) X.2.1),X.2.2)
def G15:=G44.qk n15 func15 [pf dC] [(true,Y0)] (c1 pO) (cF ajo (cF ahq (cF ahr nF)))
def akI:=G15.q0 {merge:=mg [(1,20)],sb:=mg [(9,9)]} func167 [pd (.sl bC),pf (.sl .str),pI,pf sO] [rS,(true,Y1),rB] (c4 ry)
def alq:=akI.q0 {sb:=mg [(4,4)]} func219 [pd .str] [(true,(.pair (.int .i64) (.pair (.int .i64) Y1))),rB] (c1 nY)
def ams:=alq.q0 {} func289 [pI] [rS] (c1 vJ)
def al1:=ams.q0 {} func261 [pf aaP] [rS,rB] (c1 vr)
def al2:=al1.q0 {} func262 [pd .str] [rS] (c1 xr)
def alr:=al2.q0 {} func220 [pf cU] [rS,rB] (c1 gJ)
def amt:=alr.q0 {} func290 [pd .str,pI] [rI] (c2 wm)
abbrev abt:SD:=⟨cC .str::DI::B::B::B::DI::DI::bs 22 [],zs 29 [],.none⟩
def amu:=amt.q1 {mask:=mk [(5,[0,1,5,6])],merge:=mg [(1,14)]} func291 [pd .str,pI] [rI] (c2 tI) abt (λX K=>pc (λy0 y1=>ke 0 K abt ((z2 (w y0 (u y1)) X.1),X.2)) X.1.1 X.1.2.1) (λX=>(q2 X,q3 X)) (λX x=>((z2 (w x.1 (u x.2)) X.1),X.2))
abbrev abn:SD:=⟨cC .str::cC .str::B::B::B::DI::DI::bs 25 [],zs 32 [],.none⟩
def al3:=amu.q1 {mask:=mk [(5,[0,1,5,6])],merge:=mg [(1,14)]} func263 [pd .str,pd .str] [rI] (c2 tE) abn (λX K=>oY (λy0 y1=>ke 0 K abn ((z2 (w y0 (u y1)) X.1),X.2)) X.1.1 X.1.2.1) (λX=>(q2 X,q3 X)) (λX x=>((z2 (w x.1 (u x.2)) X.1),X.2))
def al4:=al3.q0 {} func264 [pf pG] [rS] (c1 tF)
def als:=al4.q0 {} func221 [pd .str,pf pG] [rI] (c2 rn)
def al5:=als.q0 {merge:=mg [(1,2)]} func265 [pf pG] [rB] (c1 lu)
def al6:=al5.q0 {merge:=mg [(1,12)]} func266 [pf pG,pI] [rS] (c2 kH)
def aip:=al6.q0 {merge:=mg [(1,22)],mv:=[26,37,41,51],mb:=mg [(41,13),(51,13)],sb:=mg [(10,10),(11,11),(13,13)]} func222 [pd (.sl bC),pf (.sl .str),pI,pf gO,pf pG] [(true,(.sl (.own none) .str)),(true,Y19),rB] (c5 nB)
def amU:iZ:=zN [pd (.sl bC),pf (.sl .str),pI,pf dI,pd .str,pd .str] [(true,(.sl (.own none) .str)),(true,Y19),rB] [(true,(.sl .arg .str)),(true,Y19),rB] rfl λa=>tX a.1 a.2.1 a.2.2.1 a.2.2.2.1 a.2.2.2.2.1 a.2.2.2.2.2.1
theorem anP:DQ 168 amU:=gC.ofAlt (Rj (an:={merge:=mg [(3,50)],sb:=mg [(12,12),(13,13),(20,20)]}) (Λ:=kZ.nil) (by rfl) (aip.s) func168 (by kernel_rfl) (ao nF)) (λa=>by kernel_rfl)
def akJ:=aip.add anP
def ajX:=akJ.q0 {merge:=mg [(1,31)],mv:=[52,66],mb:=mg [(66,16)],sb:=mg [(10,10),(11,11)]} func111 [pd (.sl bC),pf (.sl .str),pI,pf dI,pd .str] [(true,(.sl (.own none) .str)),(true,Y9)] (c5 mL)
def akM:=ajX.q0 {merge:=mg [(1,9)]} func172 [pf fA] [(true,Y12)] (c1 nH)
def aec:=akM.q0 {} func170 [pf fA] [(true,Y12)] (c1 vq)
def amO:iZ:=jd (.pair (.sl (.own none) .str) (.pair (.sl (.own none) bC) (.pair (.pair (.pair (.int .i64) (.pair (.int .i64) (.pair (.int .i64) (.int .i64)))) (.pair (.pair (.int .i64) (.pair (.int .i64) (.pair (.int .i64) (.sl (.own none) (.int .i64))))) (.pair (.sl (.own none) hG) (.int .i64)))) (.pair (.sl (.own none) dI) (.pair (.sl (.own none) gZ) (.pair (.sl (.own none) fA) (.pair (.sl (.own none) .bool) (.pair (.pair (.int .i64) (.pair .bool (.sl (.own none) (.int .i64)))) (.pair (.pair (.sl (.own none) iI) (.pair (.sl (.own none) fW) (.pair .str (.sl (.own none) (.int .i64))))) (.pair (.sl (.own none) dG) (.pair .bool (.pair (.sl (.own none) .str) (.pair (.sl (.own none) (.int .i64)) (.pair (.sl (.own none) (.int .i64)) (.pair (.int .i64) (.pair (.int .i64) (.pair (.int .i64) (.pair (.int .i64) (.int .i64))))))))))))))))))) [pI,pI] [] λx a=>ky x a.1 a.2.1
def ajC:An:={mask:=mk [(2,[0,1,7])]}
abbrev OD:SD:=⟨.ptr 0 0::DI::bs 5 (DI::bs 34 []),(pD (cD (dh 1 .str) (cD (dh 4 bC) (cD (cD Y1 (cD (js (js (js (dh 28 (.int .i64))))) (cD (dh 31 hG) yO))) (cD (dh 37 dI) (cD (dh 40 gZ) (cD (dh 43 fA) (cD (dh 46 .bool) (cD (js (cD .bool (dh 55 (.int .i64)))) (cD (cD (dh 58 iI) (cD (dh 61 fW) (cD .str (dh 67 (.int .i64))))) (cD (dh 70 dG) (cD .bool (cD (dh 76 .str) (cD (dh 79 (.int .i64)) (cD (dh 82 (.int .i64)) (cD yO Y1))))))))))))))))::zs 41 [],.ptr⟩
def adF (X:SD.D OD)(K:uM R):=pj (λy0 y1=>ke 0 K OD ((z1 (u y0) X.1),(u y1 X.2.1),X.2.2)) X.1.1
def ait:kZ:=kZ.nil.add 2 (yR OD adF (λX=>(X.1.2.1,X.2.1.1)))
theorem ahn:xU E aec.g ajC ait (cJ f112 0):=lk OD adF (λX=>(X.1.2.1,X.2.1.1)) λX x=>((z1 (u x.1) X.1),(u x.2 X.2.1),X.2.2)
theorem anJ:DQ 112 amO:=gC.pq (oU (Γ:=aec.g) (an:=ajC) (Λ:=ait) (aec.s) func112 (by kernel_rfl) (ao (cF ahn nF))) (λx a=>by kernel_rfl)
def ajY:=aec.add anJ
abbrev afU:SD:=⟨B::.ptr 1 0::.ptr 2 0::.ptr 3 0::bs 9 (DI::DI::bs 35 []),Z::(some Y4)::(some Y2)::(some Y5)::zs 46 [],.none⟩
def G57:=ajY.q1 {mask:=mk [(5,[1,2,3,13,14])],mv:=[10,17,35,49],sb:=mg [(37,3)]} func57 [pf dC] [(true,Y0)] (c1 tG) afU (λX K=>oZ (λy0 y1=>ke 0 K afU ((z1 (u y0) X.1),(z2 (u y1) X.2.1),X.2.2)) X.1.1 X.2.1.1 X.2.1.2.1) (λX=>(X.1.2.1,X.2.1.2.2.1)) (λX x=>((z1 (u x.1) X.1),(z2 (u x.2) X.2.1),X.2.2))
abbrev Up:SD:=⟨cC (iQ bC)::B::DI::B::B::.ptr 5 0::B::.ptr 7 0::cC (dh 98304 nq)::.ptr 9 0::DB::.ptr 11 0::cC (dh 147456 nq)::bs 57 [],zs 5 ((pD (iQ .str))::Z::(some Y1)::Z::(some Y1)::Z::(some Y1)::zs 58 []),.none⟩
def alu:=G57.q1 {mask:=mk [(6,[0,2,5,7,8,9,10,11,12])],merge:=mg [(1,24),(15,67)],mv:=[55,68],sb:=mg [(9,9)]} func223 [pd (.sl bC),pf (.sl .str),pI,pf sO] [(false,(.sl (.own none) nq)),(true,Y1),rB] (c4 tP) Up (λX K=>lz (λy0 y1=>ke 0 K Up ((z4 (u y0) X.1),(z1 (u y1) X.2.1),X.2.2)) (λy0 y1 y2 y3 y4=>kr K Up ((z2 (w y0 (w y1 (u y2))) X.1),(z1 (w y3 (u y4)) X.2.1),X.2.2)) X.1.1 X.1.2.1 (q2 X) (q3 X) X.2.1.1 X.2.1.2.2.1 X.2.1.2.2.2.1) (λX=>(q4 X,X.2.1.2.1)) (λX x=>((z4 (u x.1) X.1),(z1 (u x.2) X.2.1),X.2.2))
abbrev Uw:SD:=⟨cC (iQ iB)::B::DB::B::B::cC (iQ iB)::DI::DI::bs 16 [],zs 24 [],.none⟩
def aaM:=alu.q1 {mask:=mk [(2,[0,2,5,6,7])],merge:=mg [(4,19)]} func253 [pd (.sl iB)] [rB] (c1 rr) Uw (λX K=>qn (λy0=>ke 0 K Uw ((z4 (u y0) X.1),X.2)) (λy0 y1=>kr K Uw ((z1 (w y0 (z2 (u y1))) X.1),X.2)) X.1.1 X.1.2.1 (q2 X) (q3 X)) q4 (λX x=>((z4 (u x) X.1),X.2))
def am1:iZ:=zN [pd (.sl iB),pI,pI] [(false,(.sl (.own none) nq))] [(false,(.sl .nil nq))] rfl λa=>im a.1 a.2.1 a.2.2.1
def ahO:An:={mask:=mk [(5,[0,2,7,30,31,32]),(13,[6,7,54,55,56])],merge:=mg [(1,25)],nils:=[6],mv:=[49,64]}
abbrev ON:SD:=⟨cC (iQ iB)::B::DI::bs 4 (cC (dh 86016 nq)::bs 22 (cC (iQ iB)::DI::DI::bs 32 [])),zs 65 [],.none⟩
def adS (X:SD.D ON)(K:uM R):=jM (λy0 y1=>ke 0 K ON ((z2 (w y0 (z2 (u y1))) X.1),X.2)) X.1.1 X.1.2.1 (q3 X) (q4 X)
abbrev Jm:SD:=⟨bs 7 (cC (dh 86016 nq)::bs 46 (cC (.sl .loc nq)::DI::DI::bs 8 [])),zs 65 [],.none⟩
abbrev Un:SD:=⟨bs 6 (cC (.sl .nil nq)::cC (dh 86016 nq)::bs 46 (cC (.sl .loc nq)::DI::DI::bs 8 [])),zs 65 [],.none⟩
def XN (X:SD.D Jm)(K:uM R):=jl (λy0=>ke 2 K Jm ((z3 (u y0) X.1),X.2)) (λy0 y1=>kr K Un ((y0,(X.1.1,(X.1.2.1,(X.1.2.2.1,(y1,()))))),(),())) X.1.1 X.1.2.1 (q2 X)
def agB:kZ:=(kZ.nil.add 5 (yR ON adS (λX=>(q2 X,q5 X)))).add 13 (yR Jm XN q3)
theorem ahA:xU E aaM.g ahO agB (cJ f201 0):=lk ON adS (λX=>(q2 X,q5 X)) λX x=>((z2 (w x.1 (z2 (u x.2))) X.1),X.2)
theorem ae0:xU E aaM.g ahO agB (cJ f201 1):=lk Jm XN q3 λX x=>((z3 (u x) X.1),X.2)
theorem anW:DQ 201 am1:=gC.ofAlt (Rj (Γ:=aaM.g) (an:=ahO) (Λ:=agB) (by rfl) (aaM.s) func201 (by kernel_rfl) (ao (cF ahA (cF ae0 nF)))) (λa=>by kernel_rfl)
def agw:=aaM.add anW
def ahP:An:={mask:=mk [(5,[0,6,18,19,20]),(14,[0,2,3,4,5,6,9,10,11,51,52])],mv:=[24,65]}
abbrev OO:SD:=⟨cC (iQ nq)::bs 5 (cC (dh 73728 iB)::bs 11 (cC (iQ nq)::DI::DI::bs 47 [])),zs 68 [],.none⟩
def adT (X:SD.D OO)(K:uM R):=kI (λy0 y1=>ke 0 K OO ((z1 (w y0 (z2 (u y1))) X.1),X.2)) X.1.1 (q2 X) (q3 X)
abbrev Jn:SD:=⟨cC (iQ nq)::bs 5 (cC (dh 73728 iB)::B::B::DI::DI::cC (dh 135168 nq)::bs 39 (DI::DI::bs 15 [])),zs 68 [],.none⟩
abbrev Uq:SD:=⟨cC (iQ nq)::B::cC (dh 24576 iB)::DI::DI::DB::cC (dh 73728 iB)::B::B::DI::DI::cC (dh 135168 nq)::bs 39 (DI::DI::bs 15 []),zs 68 [],.none⟩
def XO (X:SD.D Jn)(K:uM R):=gh (λy0=>ke 2 K Jn ((z6 (u y0) X.1),X.2)) (λy0 y1 y2 y3 y4=>kr K Uq ((X.1.1,(y0,(y1,(y2,(y3,(X.1.2.1,(X.1.2.2.1,(X.1.2.2.2.1,(X.1.2.2.2.2.1,(X.1.2.2.2.2.2.1,(y4,()))))))))))),(),())) X.1.1 X.1.2.1 (q2 X) (q3 X) (q4 X) (q5 X)
def aiA:kZ:=(kZ.nil.add 5 (yR OO adT (λX=>(X.1.2.1,q4 X)))).add 14 (yR Jn XO q6)
theorem ahB:xU E agw.g ahP aiA (cJ f224 0):=lk OO adT (λX=>(X.1.2.1,q4 X)) λX x=>((z1 (w x.1 (z2 (u x.2))) X.1),X.2)
theorem ae1:xU E agw.g ahP aiA (cJ f224 1):=lk Jn XO q6 λX x=>((z6 (u x) X.1),X.2)
def alv:=agw.qk ahP func224 [pd (.sl nq)] [(false,(.sl (.own none) iB)),rI,rI,rB] (c1 nA) (cF ahB (cF ae1 nF))
abbrev Ur:SD:=⟨cC (iQ bC)::B::DI::B::B::.ptr 5 0::B::B::cC .str::DB::cC .str::bs 7 (cC (iQ iB)::DI::DI::bs 21 []),zs 5 ((pD (iQ .str))::zs 36 []),.none⟩
def alw:=alv.q1 {mask:=mk [(5,[0,2,5,8,9,10,18,19,20])]} func225 [pd (.sl bC),pf (.sl .str),pI,pd (.sl iB)] [rS,rB] (c4 oX) Ur (λX K=>lx (λy0 y1=>ke 0 K Ur ((z4 (w y0 (z2 (u y1))) X.1),X.2)) (λy0 y1 y2 y3=>kr K Ur ((z2 (w y0 (w y1 (w y2 (z2 (u y3))))) X.1),X.2)) X.1.1 X.1.2.1 (q2 X) (q3 X) (q5 X) (q6 X) X.2.1.1) (λX=>(q4 X,q7 X)) (λX x=>((z4 (w x.1 (z2 (u x.2))) X.1),X.2))
def alS:=alw.q0 {} func251 [pd .str] [rI,rI] (c1 pU)
def ak6:=alS.q0 {} func197 [pf cU] [rS,rB] (c1 lQ)
def alx:=ak6.q0 {merge:=mg [(3,38),(9,74),(12,84),(17,117)]} func226 [pd .str] [rS,rB] (c1 vu)
def agx:=alx.q0 {merge:=mg [(1,2)]} func204 [pf cU] [rB] (c1 lP)
def ahQ:An:={mask:=mk [(3,[0,3,4]),(7,[0,3,4,5])]}
abbrev OT:SD:=⟨cC .str::B::B::cC (.int .u32)::DI::DI::bs 28 [],zs 34 [],.none⟩
def adV (X:SD.D OT)(K:uM R):=oI (λy0 y1=>ke 2 K OT ((z1 (w y0 (z1 (u y1))) X.1),X.2)) X.1.1 (q2 X)
abbrev OS:SD:=⟨cC .str::B::B::cC (.int .u32)::DI::bs 29 [],zs 34 [],.none⟩
def adU (X:SD.D OS)(K:uM R):=rl (λy0 y1=>ke 0 K OS ((z1 (w y0 (u y1)) X.1),X.2)) X.1.1
def aiB:kZ:=(kZ.nil.add 7 (yR OT adV (λX=>(X.1.2.1,q3 X)))).add 3 (yR OS adU (λX=>(X.1.2.1,q2 X)))
theorem ahD:xU E agx.g ahQ aiB (cJ f285 1):=lk OT adV (λX=>(X.1.2.1,q3 X)) λX x=>((z1 (w x.1 (z1 (u x.2))) X.1),X.2)
theorem ahC:xU E agx.g ahQ aiB (cJ f285 0):=lk OS adU (λX=>(X.1.2.1,q2 X)) λX x=>((z1 (w x.1 (u x.2)) X.1),X.2)
def amo:=agx.qk ahQ func285 [pd .str] [rI] (c1 Bd) (cF ahC (cF ahD nF))
def alU:=amo.q0 {} func254 [pd .str] [rS] (c1 tR)
def amw:=alU.q0 {} func293 [pf cU] [rS,rB] (c1 rV)
abbrev abo:SD:=⟨B::B::B::cC (dh 36864 .str)::bs 5 (cC (iQ cU)::DI::DI::bs 15 []),zs 27 [],.none⟩
def ama:=amw.q1 {mask:=mk [(3,[3,9,10,11])],mv:=[21,26]} func270 [pd (.sl cU)] [(false,(.sl (.own none) .str))] (c1 vy) abo (λX K=>mM (λy0 y1=>ke 0 K abo ((w y0 (z2 (u y1)) X.1),X.2)) X.1.2.1 (q2 X)) (λX=>(X.1.1,q3 X)) (λX x=>((w x.1 (z2 (u x.2)) X.1),X.2))
abbrev abp:SD:=⟨B::DI::.ptr 2 0::B::B::cC .str::cC (dh 73728 cU)::DI::bs 80 [],Z::Z::(some Y3)::zs 85 [],.none⟩
def amb:=ama.q1 {mask:=mk [(8,[1,2,5,6,7])],merge:=mg [(1,17),(4,30)],mv:=[83,87]} func271 [pf cU,pI] [(false,(.sl (.own none) cU))] (c2 Be) abp (λX K=>vG (λy0 y1=>ke 0 K abp ((z2 (w y0 (u y1)) X.1),X.2)) X.1.1 X.1.2.1 X.2.1.1) (λX=>(q2 X,q3 X)) (λX x=>((z2 (w x.1 (u x.2)) X.1),X.2))
def aly:=amb.q0 {} func227 [pf cU,pI] [(false,(.sl (.own none) .str))] (c2 sc)
def akL:=aly.q0 {merge:=mg [(1,28)],sb:=mg [(8,8)]} func171 [pd (.sl bC),pf (.sl .str),pI,pf sO] [(true,Y1),(false,(.sl (.own none) .str)),rI] (c4 ph)
abbrev agL:SD:=⟨cC (iQ bC)::B::DI::B::B::.ptr 5 0::B::.ptr 7 0::.ptr 8 0::cC (dh 110592 .str)::DI::DI::cC (dh 147456 .str)::DI::DI::bs 30 [],zs 5 ((pD (iQ .str))::Z::(some Y1)::(some Y1)::zs 36 []),.none⟩
abbrev X6:SD:=⟨cC (iQ bC)::B::DI::B::B::.ptr 5 0::B::.ptr 7 0::.ptr 8 0::cC (dh 110592 .str)::DI::DI::cC (.sl .loc .str)::DI::DI::bs 30 [],zs 5 ((pD (iQ .str))::Z::(some Y1)::(some Y1)::zs 36 []),.none⟩
def ajZ:=akL.q1 {mask:=mk [(3,[0,2,5,7,8,9,10,11,12,13,14])],mv:=[35,42]} func113 [pd (.sl bC),pf (.sl .str),pI,pf sO] [(true,Y1),(false,(.sl (.own none) .str)),rI,rI] (c4 qw) agL (λX K=>mr (λy0 y1 y2 y3 y4 y5 y6 y7=>kr K X6 ((X.1.1,(X.1.2.1,(y0,(y1,(y2,(y3,(y4,(y5,())))))))),(X.2.1.1,(y6,(y7,()))),())) X.1.1 X.1.2.1 (q2 X) (q3 X) (q4 X) X.2.1.1 X.2.1.2.2.1) (λX=>(q5 X,q6 X,q7 X,X.2.1.2.1)) (λX x=>((z5 (w x.1 (w x.2.1 (u x.2.2.1))) X.1),(z1 (u x.2.2.2) X.2.1),X.2.2))
abbrev aa6:SD:=⟨B::DI::.ptr 2 0::B::.ptr 4 0::B::.ptr 6 0::cC (dh 86016 (.int .i64))::bs 20 (cC (iQ hG)::DI::DI::bs 26 []),Z::Z::(some Y24)::Z::(pD (cD Y1 (cD (js (js (js (dh 49174 (.int .i64))))) (cD (dh 49177 hG) yO))))::Z::(pD (cD Y1 (cD (js (js (js (dh 73750 (.int .i64))))) (cD (dh 73753 hG) yO))))::zs 50 [],.none⟩
def aj0:=ajZ.q1 {mask:=mk [(6,[1,2,4,6,7,28,29,30])],merge:=mg [(2,22)],mv:=[23,34,43,55,56]} func114 [pf ko,pI] [(true,Y16),(false,(.sl (.own none) (.int .i64)))] (c2 lr) aa6 (λX K=>jk (λy0 y1 y2=>ke 0 K aa6 ((z1 (w y0 (z2 (u y1))) X.1),(z2 (u y2) X.2.1),X.2.2)) X.1.1 (q2 X) (q3 X) X.2.1.1 X.2.1.2.1) (λX=>(X.1.2.1,q4 X,X.2.1.2.2.1)) (λX x=>((z1 (w x.1 (z2 (u x.2.1))) X.1),(z2 (u x.2.2) X.2.1),X.2.2))
def G58:=aj0.q0 {mv:=[15,33,37,51,54,58]} func58 [pf dC] [(true,Y0)] (c1 pb)
def aj1:=G58.q0 {merge:=mg [(1,11)]} func115 [pf fA] [(true,Y12),rB] (c1 nG)
def aj2:=aj1.q0 {} func116 [pf fA] [(true,Y12)] (c1 wk)
abbrev afV:SD:=⟨B::DI::B::B::.ptr 4 0::B::.ptr 6 0::DI::bs 17 (DI::DI::bs 53 []),zs 4 ((some Y6)::Z::(pD (cD (dh 73729 .str) (cD (dh 73732 bC) (cD (cD Y1 (cD (js (js (js (dh 73756 (.int .i64))))) (cD (dh 73759 hG) yO))) (cD (dh 73765 dI) (cD (dh 73768 gZ) (cD (dh 73771 fA) (cD (dh 73774 .bool) (cD (js (cD .bool (dh 73783 (.int .i64)))) (cD (cD (dh 73786 iI) (cD (dh 73789 fW) (cD .str (dh 73795 (.int .i64))))) (cD (dh 73798 dG) (cD .bool (cD (dh 73804 .str) (cD (dh 73807 (.int .i64)) (cD (dh 73810 (.int .i64)) (cD yO Y1))))))))))))))))::zs 73 []),.none⟩
def G59:=aj2.q1 {mask:=mk [(6,[1,4,6,7,25,26])],merge:=mg [(2,21)],mv:=[22,78]} func59 [pf dC,pI] [(true,Y0),rI] (c2 ql) afV (λX K=>mj (λy0 y1 y2=>ke 0 K afV ((z1 (w y0 (z1 (u y1))) X.1),(z1 (u y2) X.2.1),X.2.2)) X.1.1 (q2 X) X.2.1.1) (λX=>(X.1.2.1,q3 X,X.2.1.2.1)) (λX x=>((z1 (w x.1 (z1 (u x.2.1))) X.1),(z1 (u x.2.2) X.2.1),X.2.2))
def aj3:=G59.q0 {} func117 [pf fA] [(true,Y12)] (c1 sg)
abbrev afW:SD:=⟨B::B::.ptr 2 0::.ptr 3 0::bs 9 (DI::DI::bs 14 []),Z::Z::(some Y2)::(some Y5)::zs 25 [],.none⟩
def G60:=aj3.q1 {mask:=mk [(5,[2,3,13,14])],mv:=[10,28]} func60 [pf dC] [(true,Y0)] (c1 vC) afW (λX K=>qm (λy0 y1=>ke 0 K afW ((z1 (u y0) X.1),(z1 (u y1) X.2.1),X.2.2)) X.1.1 X.2.1.1) (λX=>(X.1.2.1,X.2.1.2.1)) (λX x=>((z1 (u x.1) X.1),(z1 (u x.2) X.2.1),X.2.2))
abbrev abf:SD:=⟨B::B::B::DI::B::B::B::cC (iQ hG)::DI::DI::bs 9 [],zs 19 [],.none⟩
def ak7:=G60.q1 {mask:=mk [(3,[3,7,8,9])]} func198 [pf ko] [rI] (c1 po) abf (λX K=>lA (λy0 y1=>ke 0 K abf ((w y0 (z2 (u y1)) X.1),X.2)) X.1.2.1 (q2 X)) (λX=>(X.1.1,q3 X)) (λX x=>((w x.1 (z2 (u x.2)) X.1),X.2))
def aed:=ak7.q0 {merge:=mg [(2,20)],mv:=[21,28],mb:=mg [(28,7)],sb:=mg [(4,4)]} func199 [pf gZ,pI] [(true,Y8),(false,(.sl (.own none) (.int .i64))),rB] (c2 qv)
def am0:iZ:=zN [pd (.sl bC),pf (.sl .str),pI,pf gZ,pd (.sl (.int .i64)),pd .str,pI] [(true,(.sl (.own none) .str)),(false,(.sl (.own none) iB)),rB] [(true,(.sl .arg .str)),(false,(.sl (.own none) iB)),rB] rfl λa=>mQ a.1 a.2.1 a.2.2.1 a.2.2.2.1 a.2.2.2.2.1 a.2.2.2.2.2.1 a.2.2.2.2.2.2.1
def ajF:An:={mask:=mk [(3,[0,2,5,6,8,10,14,15,16,17,24,25,26])],peel:=[3],mv:=[40,49,53,54,55,65,66],sb:=mg [(21,21)]}
abbrev OM:SD:=⟨cC (iQ bC)::B::DI::B::B::cC .str::DI::B::.ptr 8 0::B::.ptr 10 0::B::B::B::.ptr 14 0::cC (dh 184320 iB)::DB::cC (dh 208896 iB)::bs 6 (cC (iQ (.int .i64))::DI::DI::bs 40 []),zs 8 ((pD (dh 98305 .str))::Z::(some Y13)::Z::Z::Z::(pD (dh 172033 .str))::zs 52 []),.none⟩
abbrev X7:SD:=⟨cC (iQ bC)::B::DI::B::B::cC .str::DI::B::.ptr 8 0::B::.ptr 10 0::B::B::B::.ptr 14 0::cC (dh 184320 iB)::DB::cC (dh 208896 iB)::bs 6 (cC (iQ (.int .i64))::DI::DI::bs 40 []),zs 8 ((pD (.sl .loc .str))::Z::(some Y13)::Z::Z::Z::(pD (dh 172033 .str))::zs 52 []),.none⟩
def adR (X:SD.D OM)(K:uM R):=jC (λy0 y1 y2 y3=>ke 0 K OM ((z2 (w y0 (z3 (w y1 (z2 (u y2))))) X.1),(u y3 X.2.1),X.2.2)) (λy0 y1 y2 y3 y4 y5 y6=>kr K X7 ((X.1.1,(X.1.2.1,(y0,(X.1.2.2.2.1,(y1,(y2,(y3,(X.1.2.2.2.2.2.2.2.1,(X.1.2.2.2.2.2.2.2.2.1,(y4,())))))))))),(y5,(X.2.1.2.1,(y6,()))),())) X.1.1 X.1.2.1 (q3 X) (q4 X) (q5 X) (q7 X) (q8 X) X.2.1.2.1 X.2.1.2.2.1
def aiz:kZ:=kZ.nil.add 3 (yR OM adR (λX=>(q2 X,q6 X,q9 X,X.2.1.1)))
theorem ahz:xU E aed.g ajF aiz (cJ f200 0):=lk OM adR (λX=>(q2 X,q6 X,q9 X,X.2.1.1)) λX x=>((z2 (w x.1 (z3 (w x.2.1 (z2 (u x.2.2.1))))) X.1),(u x.2.2.2 X.2.1),X.2.2)
theorem anV:DQ 200 am0:=gC.ofAlt (Rj (Γ:=aed.g) (an:=ajF) (Λ:=aiz) (by rfl) (aed.s) func200 (by kernel_rfl) (ao (cF ahz nF))) (λa=>by kernel_rfl)
def ak8:=aed.add anV
abbrev Uo:SD:=⟨cC (iQ bC)::B::DI::B::B::B::.ptr 6 0::B::.ptr 8 0::B::.ptr 10 0::.ptr 11 0::DB::.ptr 13 0::.ptr 14 0::bs 6 (cC (iQ .str)::DI::DI::bs 21 []),zs 6 ((pD (iQ .str))::Z::(some Y1)::Z::(pD (dh 122881 .str))::(some Y1)::Z::(pD (dh 159745 .str))::(some Y1)::zs 30 []),.none⟩
def ak9:=ak8.q1 {mask:=mk [(3,[0,2,6,8,10,11,12,13,14,21,22,23])],mv:=[27,43],mb:=mg [(43,13)],sb:=mg [(10,10),(11,11),(13,13),(14,14)]} func202 [pd (.sl bC),pf (.sl .str),pI,pf sO,pd (.sl .str)] [(true,(.sl (.own none) .str)),(true,Y1),rB] (c5 jv) Uo (λX K=>kx (λy0 y1 y2=>ke 0 K Uo ((z5 (u y0) X.1),(z4 (w y1 (u y2)) X.2.1),X.2.2)) (λy0 y1 y2 y3 y4 y5=>kr K Uo ((z2 (w y0 (z2 (u y1))) X.1),(z2 (w y2 (w y3 (w y4 (u y5)))) X.2.1),X.2.2)) X.1.1 X.1.2.1 (q2 X) (q3 X) (q4 X) X.2.1.1 X.2.1.2.1 X.2.1.2.2.1 X.2.1.2.2.2.1) (λX=>(q5 X,X.2.1.2.2.2.2.1,X.2.1.2.2.2.2.2.1)) (λX x=>((z5 (u x.1) X.1),(z4 (w x.2.1 (u x.2.2)) X.2.1),X.2.2))
abbrev WQ:SD:=⟨cC (iQ bC)::B::DI::bs 7 (.ptr 10 0::B::B::B::.ptr 14 0::.ptr 15 0::B::.ptr 17 0::.ptr 18 0::B::B::B::.ptr 22 0::B::cC (dh 294912 (.int .i64))::B::.ptr 26 0::B::cC (dh 344064 nq)::cC (dh 356352 .str)::bs 109 (cC (.sl .loc nq)::DI::DI::bs 44 [])),zs 10 ((some Y24)::Z::Z::Z::(pD (dh 172033 .str))::(pD (cD Y1 (cD (js (js (js (dh 184342 (.int .i64))))) (cD (dh 184345 hG) yO))))::Z::(pD (dh 208897 .str))::(pD (cD Y1 (cD (js (js (js (dh 221206 (.int .i64))))) (cD (dh 221209 hG) yO))))::Z::Z::Z::(pD (cD Y1 (cD (js (js (js (dh 270358 (.int .i64))))) (cD (dh 270361 hG) yO))))::Z::Z::Z::(pD (.sl .loc .str))::zs 159 []),.none⟩
def ake:=ak9.q1 {mask:=mk [(19,[0,2,10,14,15,17,18,22,24,26,28,29,139,140,141])],merge:=mg [(2,57),(6,92),(15,135)],mv:=[58,59,93,94,97,107,108,109,122,123,136,137,145,151,164,165,169,174,184,185],mb:=mg [(58,17),(59,18),(93,17),(94,18),(107,17),(108,18),(136,17),(137,18),(164,17),(165,18),(184,26),(185,22)],sb:=mg [(14,14),(15,15),(17,17),(18,18),(26,26)]} func136 [pd (.sl bC),pf (.sl .str),pI,pf ko,pf cU,pI,pI] [(true,(.sl (.own none) .str)),(true,Y16),rB] (c7 se) WQ (λX K=>fO (λy0 y1=>ke 0 K WQ ((z4 (w y0 (z2 (u y1))) X.1),X.2)) X.1.1 X.1.2.1 (q2 X) (q3 X) (q5 X) (q6 X) X.2.1.1 X.2.1.2.1 X.2.1.2.2.1 X.2.1.2.2.2.1 X.2.1.2.2.2.2.1 X.2.1.2.2.2.2.2.1 X.2.1.2.2.2.2.2.2.1) (λX=>(q4 X,q7 X)) (λX x=>((z4 (w x.1 (z2 (u x.2))) X.1),X.2))
def G75:=ake.q0 {mv:=[19,20,34,36,38]} func75 [pf dC,pf cU,pI,pI] [(true,Y0),rB] (c4 vB)
def G76:=G75.q0 {} func76 [pd .bool] [rI] (c1 Dx)
def ala:=G76.q0 {merge:=mg [(2,17)]} func203 [pd .str] [rS,rB] (c1 vt)
def akf:=ala.q0 {} func137 [pd .str] [(true,Y3),rI] (c1 tM)
abbrev abw:SD:=⟨B::DI::B::B::DB::B::B::cC (iQ (.int .i64))::DI::DI::bs 7 [],zs 17 [],.none⟩
def G33:=akf.q1 {mask:=mk [(2,[1,4,7,8,9])]} func33 [pd (.sl (.int .i64)),pI] [rB] (c2 jW) abw (λX K=>mR (λy0=>ke 0 K abw ((z4 (u y0) X.1),X.2)) (λy0 y1=>kr K abw ((z1 (w y0 (z2 (u y1))) X.1),X.2)) X.1.1 X.1.2.1 (q2 X) (q3 X)) q4 (λX x=>((z4 (u x) X.1),X.2))
def akg:=G33.q0 {merge:=mg [(1,4)]} func138 [pf vn,pf cU] [rB] (c2 xn)
def amp:=akg.q0 {} func286 [pI,pI,pI] [rB] (c3 oe)
def alV:=amp.q0 {merge:=mg [(1,4)]} func255 [pf iI,pf cU] [rB] (c2 qo)
abbrev abg:SD:=⟨cC (iQ iI)::B::B::.ptr 3 0::B::DI::bs 5 (cC (iQ iI)::DI::DI::bs 24 []),Z::Z::Z::(some Y3)::zs 34 [],.none⟩
def alb:=alV.q1 {mask:=mk [(5,[0,3,5,11,12,13])],merge:=mg [(7,34)]} func205 [pd (.sl iI),pf cU] [rI] (c2 vx) abg (λX K=>qi (λy0 y1=>ke 0 K abg ((z1 (w y0 (z2 (u y1))) X.1),X.2)) X.1.1 (q2 X) (q3 X) X.2.1.1) (λX=>(X.1.2.1,q4 X)) (λX x=>((z1 (w x.1 (z2 (u x.2))) X.1),X.2))
def alc:=alb.q0 {} func206 [pf (.sl fW),pf pG] [rI] (c2 vw)
def alW:=alc.q0 {merge:=mg [(2,17)]} func256 [pf Db,pf pG] [rI] (c2 xq)
def ale:=alW.q0 {merge:=mg [(2,18)]} func208 [pf Db,pI,pf pG] [rI] (c3 qp)
def akh:=ale.q0 {merge:=mg [(1,17)]} func139 [pf oD,pI,pf cU] [rI] (c3 qq)
def alX:=akh.q0 {} func257 [pf cU,pf cU] [rB] (c2 vE)
def alf:=alX.q0 {merge:=mg [(1,42),(4,76),(6,4)]} func209 [pf Oj,pf cU] [rB] (c2 tD)
def alg:=alf.q0 {} func210 [pf Oj,pf cU] [(true,(.pair Y3 (.pair (.int .i64) (.int .i64))))] (c2 Dw)
def alh:=alg.q0 {} func211 [pf cU] [(true,(.pair Y3 (.pair (.int .i64) (.int .i64))))] (c1 CD)
def aki:=alh.q0 {merge:=mg [(1,30),(3,44)],mv:=[53,68,77],mb:=mg [(77,16)],sb:=mg [(14,14),(15,15)]} func140 [pd (.sl bC),pf (.sl .str),pI,pf dI,pd .str,pf cU,pd .bool] [(true,(.sl (.own none) .str)),(true,Y9)] (c7 nD)
def G77:=aki.q0 {mv:=[14,34,46,62,69,90,103],sb:=mg [(92,5)]} func77 [pf dC,pd .str] [(true,Y0)] (c2 qj)
def e30:iZ:=zN [pf dC,pf Ab] [(true,Y0),rI] [(true,Y4),rI] rfl λa=>nI a.1 a.2.1
theorem o30:DQ 30 e30:=gC.ofAlt (Rj (an:={mv:=[12,23],mb:=mg [(23,6)],sb:=mg [(4,4)]}) (Λ:=kZ.nil) (by rfl) (G77.s) func30 (by kernel_rfl) (ao nF)) (λa=>by kernel_rfl)
def aiM:iZ:=UG [pf dC,pf Ab] [(true,Y0),rI] λa=>nI a.1 a.2.1
theorem anZ:DQ 30 aiM:=o30.only
def G30:=G77.add o30
def e9:iZ:=zN [pf dC,pd (.sl Ab)] [(true,Y0),rI] [(true,Y4),rI] rfl λa=>vL a.1 a.2.1
def g9:xT:=G30.g.add 30 aiM
def n9:An:={mask:=mk [(3,[1,2,4,6,7])],peel:=[3],mv:=[24,31,33,43],sb:=mg [(8,8)]}
abbrev aer:SD:=⟨B::cC (iQ Ab)::.ptr 2 0::B::.ptr 4 0::B::DI::DI::bs 37 [],Z::Z::(some Y2)::Z::(some Y6)::zs 40 [],.none⟩
def ajM (X:SD.D aer)(K:uM R):=gR (λy0 y1 y2=>ke 0 K aer ((z1 (w y0 (u y1)) X.1),(u y2 X.2.1),X.2.2)) X.1.1 X.2.1.2.1
def L9:kZ:=kZ.nil.add 3 (yR aer ajM (λX=>(X.1.2.1,q2 X,X.2.1.1)))
theorem anI:xU E g9 n9 L9 (cJ f9 0):=lk aer ajM (λX=>(X.1.2.1,q2 X,X.2.1.1)) λX x=>((z1 (w x.1 (u x.2.1)) X.1),(u x.2.2 X.2.1),X.2.2)
theorem o9:DQ 9 e9:=gC.ofAlt (Rj (Γ:=g9) (an:=n9) (Λ:=L9) (by rfl) (G30.s.add anZ) func9 (by kernel_rfl) (ao (cF anI nF))) (λa=>by kernel_rfl)
def G9:=G30.add o9
abbrev afP:SD:=⟨B::B::.ptr 2 0::B::B::cC (dh 61440 (.int .i64))::bs 4 (cC (iQ .str)::DI::DI::bs 24 []),Z::Z::(pD (iQ .str))::zs 34 [],.none⟩
def G32:=G9.q1 {mask:=mk [(3,[2,5,10,11,12])],merge:=mg [(5,30)],mv:=[31,36]} func32 [pf (.sl .str),pf (.sl .str)] [(false,(.sl (.own none) (.int .i64)))] (c2 oW) afP (λX K=>lq (λy0 y1=>ke 0 K afP ((w y0 (z2 (u y1)) X.1),X.2)) X.1.2.1 (q2 X) X.2.1.1) (λX=>(X.1.1,q3 X)) (λX x=>((w x.1 (z2 (u x.2)) X.1),X.2))
abbrev afQ:SD:=⟨B::DI::B::B::B::cC (dh 61440 (.int .i64))::DB::B::B::B::cC (iQ (.int .i64))::DI::DI::bs 26 [],zs 39 [],.none⟩
def G34:=G32.q1 {mask:=mk [(4,[1,5,6,10,11,12])],merge:=mg [(6,22)],mv:=[23,27,34,38]} func34 [pd (.sl (.int .i64)),pI] [(false,(.sl (.own none) (.int .i64)))] (c2 od) afQ (λX K=>kz (λy0 y1 y2=>ke 0 K afQ ((z1 (w y0 (w y1 (z2 (u y2)))) X.1),X.2)) X.1.1 (q3 X) (q4 X)) (λX=>(X.1.2.1,q2 X,q5 X)) (λX x=>((z1 (w x.1 (w x.2.1 (z2 (u x.2.2)))) X.1),X.2))
abbrev afN:SD:=⟨bs 6 (.ptr 6 0::.ptr 7 0::bs 13 (cC (dh 258048 (.int .i64))::DI::DI::bs 15 [])),zs 6 ((pD (cD (dh 73729 .str) (cD (dh 73732 (.int .i64)) yO)))::(pD (cD (dh 86017 .str) (cD (dh 86020 (.int .i64)) yO)))::zs 31 []),.none⟩
def G10:=G34.q1 {mask:=mk [(3,[6,7,21,22,23])],mv:=[38],sb:=mg [(7,7)]} func10 [pf WE,pf (.sl .str),pf (.sl .str)] [(true,Y21)] (c3 kc) afN (λX K=>jB (λy0 y1=>ke 0 K afN ((z2 (u y0) X.1),(z1 (u y1) X.2.1),X.2.2)) X.1.1 X.1.2.1 X.2.1.1) (λX=>(q2 X,X.2.1.2.1)) (λX x=>((z2 (u x.1) X.1),(z1 (u x.2) X.2.1),X.2.2))
def G11:=G10.q0 {} func11 [pd (.sl (.int .u8)),pI] [rI] (c2 Ga)
abbrev afO:SD:=⟨B::B::B::.ptr 3 0::.ptr 4 0::.ptr 5 0::bs 9 (cC (iQ (.int .i64))::DI::DI::bs 36 []),Z::Z::Z::(pD (iQ .str))::(pD (cD (dh 49153 .str) (cD (dh 49156 (.int .i64)) yO)))::(some Y30)::zs 48 [],.none⟩
def G12:=G11.q1 {mask:=mk [(3,[3,4,5,15,16,17])],merge:=mg [(5,37)],mv:=[53],sb:=mg [(5,5)]} func12 [pf WE,pf (.sl .str)] [(true,Y21)] (c2 mJ) afO (λX K=>lv (λy0 y1=>ke 0 K afO ((z2 (u y0) X.1),(z2 (u y1) X.2.1),X.2.2)) X.1.1 X.1.2.1 X.2.1.1 X.2.1.2.1) (λX=>(q2 X,X.2.1.2.2.1)) (λX x=>((z2 (u x.1) X.1),(z2 (u x.2) X.2.1),X.2.2))
abbrev abx:SD:=⟨cC (iQ .str)::cC (iQ .str)::B::B::DB::bs 7 (DI::DI::bs 12 []),zs 26 [],.none⟩
def G36:=G12.q1 {mask:=mk [(4,[0,1,4,12,13])]} func36 [pd (.sl .str),pd (.sl .str)] [rB] (c2 Pu.jH) abx (λX K=>Pu.jR (λy0=>ke 0 K abx ((z4 (u y0) X.1),X.2)) (λy0 y1=>kr K abx ((z2 (w y0 (z1 (u y1))) X.1),X.2)) X.1.1 X.1.2.1 (q2 X) (q3 X)) q4 (λX x=>((z4 (u x) X.1),X.2))
def G13:=G36.q0 {late:=[15],sb:=mg [(4,4)]} func13 [pf WE,pf dC] [(true,Y0),rB] (c2 rY)
abbrev abJ:SD:=⟨cC (iQ (.int .i64))::cC (iQ (.int .i64))::B::B::DB::bs 7 (DI::DI::bs 12 []),zs 26 [],.none⟩
def G93:=G13.q1 {mask:=mk [(4,[0,1,4,12,13])]} func93 [pd (.sl (.int .i64)),pd (.sl (.int .i64))] [rB] (c2 Pu.gn) abJ (λX K=>Pu.mB (λy0=>ke 0 K abJ ((z4 (u y0) X.1),X.2)) (λy0 y1=>kr K abJ ((z2 (w y0 (z1 (u y1))) X.1),X.2)) X.1.1 X.1.2.1 (q2 X) (q3 X)) q4 (λX x=>((z4 (u x) X.1),X.2))
def G87:=G93.q0 {merge:=mg [(1,4)]} func87 [pf gZ,pf gZ] [rB] (c2 rC)
def akn:=G87.q0 {merge:=mg [(1,4)]} func145 [pf hG,pf hG] [rB] (c2 vK)
abbrev Uh:SD:=⟨B::cC (iQ hG)::.fn 145::B::B::B::DB::bs 8 (cC (iQ hG)::DI::DI::bs 14 []),zs 32 [],.none⟩
def akm:=akn.q1 {mask:=mk [(4,[1,2,6,15,16,17])]} func144 [pd (.sl hG),pd (.sl hG),.fn 145] [rB] (c2 Pu.kN) Uh (λX K=>Pu.iY (λy0=>ke 0 K Uh ((z4 (u y0) X.1),X.2)) (λy0 y1=>kr K Uh ((z1 (w y0 (z2 (u y1))) X.1),X.2)) X.1.1 X.1.2.1 (q2 X) (q3 X)) q4 (λX x=>((z4 (u x) X.1),X.2))
def G84:=akm.q0 {merge:=mg [(1,4)]} func84 [pf ko,pf ko] [rB] (c2 zt)
abbrev abE:SD:=⟨cC (iQ dI)::cC (iQ dI)::B::B::DB::bs 7 (DI::DI::bs 12 []),zs 26 [],.none⟩
def G85:=G84.q1 {mask:=mk [(4,[0,1,4,12,13])]} func85 [pd (.sl dI),pd (.sl dI)] [rB] (c2 Pu.lF) abE (λX K=>Pu.jo (λy0=>ke 0 K abE ((z4 (u y0) X.1),X.2)) (λy0 y1=>kr K abE ((z2 (w y0 (z1 (u y1))) X.1),X.2)) X.1.1 X.1.2.1 (q2 X) (q3 X)) q4 (λX x=>((z4 (u x) X.1),X.2))
abbrev abF:SD:=⟨B::cC (iQ gZ)::.fn 87::B::B::B::DB::bs 8 (cC (iQ gZ)::DI::DI::bs 14 []),zs 32 [],.none⟩
def G86:=G85.q1 {mask:=mk [(4,[1,2,6,15,16,17])]} func86 [pd (.sl gZ),pd (.sl gZ),.fn 87] [rB] (c2 Pu.kM) abF (λX K=>Pu.iX (λy0=>ke 0 K abF ((z4 (u y0) X.1),X.2)) (λy0 y1=>kr K abF ((z1 (w y0 (z2 (u y1))) X.1),X.2)) X.1.1 X.1.2.1 (q2 X) (q3 X)) q4 (λX x=>((z4 (u x) X.1),X.2))
abbrev abG:SD:=⟨cC (iQ fA)::cC (iQ fA)::B::B::DB::bs 7 (DI::DI::bs 12 []),zs 26 [],.none⟩
def G88:=G86.q1 {mask:=mk [(4,[0,1,4,12,13])]} func88 [pd (.sl fA),pd (.sl fA)] [rB] (c2 Pu.mA) abG (λX K=>Pu.jQ (λy0=>ke 0 K abG ((z4 (u y0) X.1),X.2)) (λy0 y1=>kr K abG ((z2 (w y0 (z1 (u y1))) X.1),X.2)) X.1.1 X.1.2.1 (q2 X) (q3 X)) q4 (λX x=>((z4 (u x) X.1),X.2))
abbrev abH:SD:=⟨cC (iQ .bool)::cC (iQ .bool)::B::B::DB::bs 7 (DI::DI::bs 12 []),zs 26 [],.none⟩
def G89:=G88.q1 {mask:=mk [(4,[0,1,4,12,13])]} func89 [pd (.sl .bool),pd (.sl .bool)] [rB] (c2 Pu.px) abH (λX K=>Pu.lH (λy0=>ke 0 K abH ((z4 (u y0) X.1),X.2)) (λy0 y1=>kr K abH ((z2 (w y0 (z1 (u y1))) X.1),X.2)) X.1.1 X.1.2.1 (q2 X) (q3 X)) q4 (λX x=>((z4 (u x) X.1),X.2))
def G90:=G89.q0 {merge:=mg [(1,4)]} func90 [pf vn,pf vn] [rB] (c2 sm)
abbrev Ui:SD:=⟨cC (iQ iI)::cC (iQ iI)::B::B::DB::bs 7 (DI::DI::bs 12 []),zs 26 [],.none⟩
def ako:=G90.q1 {mask:=mk [(4,[0,1,4,12,13])]} func146 [pd (.sl iI),pd (.sl iI)] [rB] (c2 Pu.pt) Ui (λX K=>Pu.lE (λy0=>ke 0 K Ui ((z4 (u y0) X.1),X.2)) (λy0 y1=>kr K Ui ((z2 (w y0 (z1 (u y1))) X.1),X.2)) X.1.1 X.1.2.1 (q2 X) (q3 X)) q4 (λX x=>((z4 (u x) X.1),X.2))
abbrev Uj:SD:=⟨cC (iQ fW)::cC (iQ fW)::B::B::DB::bs 7 (DI::DI::bs 12 []),zs 26 [],.none⟩
def akp:=ako.q1 {mask:=mk [(4,[0,1,4,12,13])]} func147 [pd (.sl fW),pd (.sl fW)] [rB] (c2 Pu.pw) Uj (λX K=>Pu.lG (λy0=>ke 0 K Uj ((z4 (u y0) X.1),X.2)) (λy0 y1=>kr K Uj ((z2 (w y0 (z1 (u y1))) X.1),X.2)) X.1.1 X.1.2.1 (q2 X) (q3 X)) q4 (λX x=>((z4 (u x) X.1),X.2))
def G91:=akp.q0 {merge:=mg [(1,4)]} func91 [pf oD,pf oD] [rB] (c2 pn)
abbrev abI:SD:=⟨cC (iQ dG)::cC (iQ dG)::B::B::DB::bs 7 (DI::DI::bs 12 []),zs 26 [],.none⟩
def G92:=G91.q1 {mask:=mk [(4,[0,1,4,12,13])]} func92 [pd (.sl dG),pd (.sl dG)] [rB] (c2 Pu.mz) abI (λX K=>Pu.jP (λy0=>ke 0 K abI ((z4 (u y0) X.1),X.2)) (λy0 y1=>kr K abI ((z2 (w y0 (z1 (u y1))) X.1),X.2)) X.1.1 X.1.2.1 (q2 X) (q3 X)) q4 (λX x=>((z4 (u x) X.1),X.2))
def G37:=G92.q0 {merge:=mg [(1,4)]} func37 [pf dC,pf dC] [rB] (c2 sk)
abbrev aba:SD:=⟨B::B::.ptr 2 0::.ptr 3 0::DB::bs 28 (cC (iQ bC)::DI::DI::bs 62 []),Z::Z::(some Y4)::(some Y4)::zs 94 [],.none⟩
def G14:=G37.q1 {mask:=mk [(4,[2,3,4,33,34,35])],merge:=mg [(1,31),(7,58),(10,96)]} func14 [pf dC,pf dC] [rB] (c2 vF) aba (λX K=>mO (λy0=>ke 0 K aba ((z3 (u y0) X.1),X.2)) (λy0 y1=>kr K aba ((w y0 (z2 (u y1)) X.1),X.2)) X.1.1 X.1.2.1 (q2 X) X.2.1.1 X.2.1.2.1) q3 (λX x=>((z3 (u x) X.1),X.2))
abbrev yI:aw PS:=[pd (.sl (.int .u8))]
def Cg:iZ:=M4 yI [rB] (c1 Bl)
def CH:An:={mask:=mk [(6,[0,2,3,4,5,6])],merge:=mg [(16,2)],mv:=[35],sb:=mg [(7,7)]}
abbrev mI:SD:=⟨cC (iQ (.int .u8))::B::DB::.ptr 3 0::cC (.sl .loc Ab)::.ptr 5 0::DI::bs 82 [],Z::Z::Z::(pD (cD (.sl .loc .str) (cD (.sl .loc bC) (cD (cD Y1 (cD (js (js (js (.sl .loc (.int .i64))))) (cD (.sl .loc hG) yO))) (cD (.sl .loc dI) (cD (.sl .loc gZ) (cD (.sl .loc fA) (cD (.sl .loc .bool) (cD (js (cD .bool (.sl .loc (.int .i64)))) (cD (cD (.sl .loc iI) (cD (.sl .loc fW) (cD .str (.sl .loc (.int .i64))))) (cD (.sl .loc dG) (cD .bool (cD (.sl .loc .str) (cD (.sl .loc (.int .i64)) (cD (.sl .loc (.int .i64)) (cD yO Y1))))))))))))))))::Z::(some Y30)::zs 83 [],.none⟩
def AG (X:SD.D mI)(K:uM R):=wQ (λy0 y1 y2=>ke 0 K mI ((z3 (u y0) X.1),(w y1 (u y2) X.2.1),X.2.2)) (λy0 y1 y2 y3=>kr K mI ((z1 (w y0 (z1 (u y1))) X.1),(w y2 (u y3) X.2.1),X.2.2)) X.1.1 X.1.2.1 (q2 X)
def BX:kZ:=kZ.nil.add 6 (yR mI AG (λX=>(q3 X,X.2.1.1,X.2.1.2.1)))
theorem Hp:xU E G14.g CH BX (cJ f3 0):=lk mI AG (λX=>(q3 X,X.2.1.1,X.2.1.2.1)) λX x=>((z3 (u x.1) X.1),(w x.2.1 (u x.2.2) X.2.1),X.2.2)
theorem K7:DQ 3 Cg:=fk CH G14.s func3 (Λ:=BX) (cF Hp nF)
end
end Go.Proofs.YtnmppgnbjfdffaaGreat.Fn
