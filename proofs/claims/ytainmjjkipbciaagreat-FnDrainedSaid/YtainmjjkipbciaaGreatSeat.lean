import Derived.Test.YtainmjjkipbciaaGreatDnSig
import Derived.Test.YtainmjjkipbciaaGreatPure
import Derived.Test.YtainmjjkipbciaaGreatRows
/- Each function of the program is its pure function (made by gen.py). -/
namespace Go.Proofs.YtainmjjkipbciaaGreat.Fn
open Go.Dn
open Go.Pu (bM rl jo jq lj gO df H3 ef gr wQ jC oZ O3 VT gZ zT qj eG dY zn xL mK iC TIp VU)
set_option maxRecDepth 100000
set_option linter.unusedVariables false
noncomputable section
variable {an:An} {Γ:eE} {Λ:eP} {f:Nat} {P:Program} {A0 A1 A2 A3 A4 A5 A6 C R σ:Type} {rs:ax (Bool×FT)} {s:ax PS}
abbrev iR (R:Type):=Ex->AS->Option R
abbrev zk:FT:=.int .i64
abbrev cX (a b:FT):FT:=.pair a b
abbrev jK (b:FT):FT:=.pair (.int .i64) b
abbrev dv (n:Nat)(t:CT):FT:=.sl (.own (some n)) t
abbrev rj (t:FT):Option FT:=some t
abbrev dA:=im Tryz.prog
abbrev B:PD:=.bot
abbrev DI:PD:=.data false (.int .i64)
abbrev DB:PD:=.data false .bool
abbrev Z:aB FT:=none
theorem nF {p:Code->Prop}:∀x∈([]:ax Code),p x:=λ_ h=>nomatch h
theorem cF {p:Code->Prop}{a:Code}{l:ax Code}(h:p a)(t:∀x∈l,p x):∀x∈a::l,p x:=List.forall_mem_cons.2 ⟨h,t⟩
theorem hF {p:Code->Prop}{l m:ax Code}(e:l=m)(h:∀x∈m,p x):∀x∈l,p x:=e▸h
theorem fk {E:Env}{F:Bj s->aB (la rs)}{fn:Func}(an:An)(hS:Sound P E Γ)(hf:P.funcs[f]?=some fn){l:ax Code}(h:∀c∈l,jh E Γ an Λ c)(hn:(fn.name== "runtime.NumGoroutine")=false:=by kernel_rfl)(hl:jm (fn.body.getD .skip)=l:=by kernel_rfl)(hcut:an.cut=[]:=by kernel_rfl)(hF:∀a,I0 E Γ an Λ fn rs (nH s a)=F a:=by intro a;kernel_rfl):im P f (aU s rs F):=im.of (aeJ hS hf hn (AR.of (Fn.hF hl h) hcut)) hF
theorem ao {E:Env}{b:Code}{l:ax Code}(h:∀c∈l,jh E Γ an Λ c)(hl:jm b=l:=by kernel_rfl)(hc:an.cut=[]:=by kernel_rfl):AR E Γ an Λ b:=AR.of (Fn.hF hl h) hc
theorem ac {E:Env}{b:Code}{l m:ax Code}(h:∀c∈l,jh E Γ an Λ c)(hc:∀c∈m,Sd E Γ an Λ c)(hl:jm b=l:=by kernel_rfl)(hm:kF an.cut b=m:=by kernel_rfl):AR E Γ an Λ b:=⟨Fn.hF hl h,Fn.hF hm hc⟩
theorem fc {E:Env}{F:Bj s->aB (la rs)}{fn:Func}(an:An)(hS:Sound P E Γ)(hf:P.funcs[f]?=some fn){l m:ax Code}(h:∀c∈l,jh E Γ an Λ c)(hc:∀c∈m,Sd E Γ an Λ c)(hn:(fn.name== "runtime.NumGoroutine")=false:=by kernel_rfl)(hl:jm (fn.body.getD .skip)=l:=by kernel_rfl)(hm:kF an.cut (fn.body.getD .skip)=m:=by kernel_rfl)(hF:∀a,I0 E Γ an Λ fn rs (nH s a)=F a:=by intro a;kernel_rfl):im P f (aU s rs F):=im.of (aeJ hS hf hn ⟨Fn.hF hl h,Fn.hF hm hc⟩) hF
abbrev pd (t:CT):PS:=.data false t
abbrev pf (t:CT):PS:=.data true t
abbrev pI:PS:=.data false (.int .i64)
abbrev rB:Bool×FT:=(false,.bool)
abbrev rI:Bool×FT:=(false,.int .i64)
abbrev rS:Bool×FT:=(false,.str)
abbrev bs:Nat->ax PD->ax PD|0,l=>l|n+1,l=> .bot::bs n l
abbrev zs:Nat->ax (aB FT)->ax (aB FT)|0,l=>l|n+1,l=>none::zs n l
def mk (l:ax (Nat×fF))(n:Nat):fF:=(l.lookup n).getD []
def mg (l:ax (Nat×Nat))(n:Nat):aB Nat:=l.lookup n
def ke (n:Nat)(K:iR R)(d:SD)(x:SD.D d):aB R:=K (.exit n) (SD.enc d x)
def kn (K:iR R)(d:SD)(x:SD.D d):aB R:=K .normal (SD.enc d x)
def kr (K:iR R)(d:SD)(x:SD.D d):aB R:=K .ret (SD.enc d x)
def jO (d:SD)(t:{R:Type}->SD.D d->(Ex->AS->aB R)->(σ->aB R)->σ->aB R)(i:SD.D d->σ):dI:=⟨d,λX K=>bm (t X K) fuel (i X)⟩
theorem lk {E:Env}{c:Code}(d:SD)(t:{R:Type}->SD.D d->(Ex->AS->aB R)->(σ->aB R)->σ->aB R)(i:SD.D d->σ)(w:SD.D d->σ->SD.D d)(h1:Λ (fY c)=jO d t i:=by kernel_rfl)(h:∀(R:Type)(X:SD.D d)(K:iR R)(m:Nat)(x:σ),Bf (an.mask (fY c)) (den E Γ an Λ c) (m+1) (SD.enc d (w X x)) K=t X K (λy=>Bf (an.mask (fY c)) (den E Γ an Λ c) m (SD.enc d (w X y)) K) x:=by intro R X K m x;kernel_rfl)(hw:∀X,w X (i X)=X:=by intro X;kernel_rfl):jh E Γ an Λ c:=lok (jO d t i) h1 fuel λR X K=>(Mb (λx=>SD.enc d (w X x)) (t X K) (h R X K) fuel (i X)).symm.trans (congrArg (λy=>Bf (an.mask (fY c)) (den E Γ an Λ c) fuel (SD.enc d y) K) (hw X))
def Xb (d:SD)(t:{R:Type}->SD.D d->(Ex->AS->aB R)->aB R):dI:=⟨d,λX K=>t X K⟩
theorem ck {E:Env}{c:Code}(d:SD)(t:{R:Type}->SD.D d->(Ex->AS->aB R)->aB R)(h1:Λ (Bq c)=Xb d t:=by kernel_rfl)(h:∀(R:Type)(X:SD.D d)(K:iR R),t X K=den E Γ an Λ c (SD.enc d X) (λe st'=>K e (st'.mask (an.mask (Bq c+1)))):=by intro R X K;kernel_rfl):Sd E Γ an Λ c:=cok (Xb d t) h1 h
def u {A B:Type}(y:A)(x:A×B):A×B:=(y,x.2)
def w {A B:Type}(y:A)(f:B->B)(x:A×B):A×B:=(y,f x.2)
def z1 {B:Type}(f:B->B)(x:A0×B):A0×B:=(x.1,f x.2)
def z2 {B:Type}(f:B->B)(x:A0×A1×B):A0×A1×B:=(x.1,x.2.1,f x.2.2)
def z3 {B:Type}(f:B->B)(x:A0×A1×A2×B):A0×A1×A2×B:=(x.1,x.2.1,x.2.2.1,f x.2.2.2)
def z4 {B:Type}(f:B->B)(x:A0×A1×A2×A3×B):A0×A1×A2×A3×B:=(x.1,x.2.1,x.2.2.1,x.2.2.2.1,f x.2.2.2.2)
def z5 {B:Type}(f:B->B)(x:A0×A1×A2×A3×A4×B):A0×A1×A2×A3×A4×B:=(x.1,x.2.1,x.2.2.1,x.2.2.2.1,x.2.2.2.2.1,f x.2.2.2.2.2)
def z6 {B:Type}(f:B->B)(x:A0×A1×A2×A3×A4×A5×B):A0×A1×A2×A3×A4×A5×B:=(x.1,x.2.1,x.2.2.1,x.2.2.2.1,x.2.2.2.2.1,x.2.2.2.2.2.1,f x.2.2.2.2.2.2)
def z7 {B:Type}(f:B->B)(x:A0×A1×A2×A3×A4×A5×A6×B):A0×A1×A2×A3×A4×A5×A6×B:=(x.1,x.2.1,x.2.2.1,x.2.2.2.1,x.2.2.2.2.1,x.2.2.2.2.2.1,x.2.2.2.2.2.2.1,f x.2.2.2.2.2.2.2)
def q2 {B:Type}(x:(A0×A1×A2×B)×C):A2:=x.1.2.2.1
def q3 {B:Type}(x:(A0×A1×A2×A3×B)×C):A3:=x.1.2.2.2.1
def q4 {B:Type}(x:(A0×A1×A2×A3×A4×B)×C):A4:=x.1.2.2.2.2.1
def q5 {B:Type}(x:(A0×A1×A2×A3×A4×A5×B)×C):A5:=x.1.2.2.2.2.2.1
def q6 {B:Type}(x:(A0×A1×A2×A3×A4×A5×A6×B)×C):A6:=x.1.2.2.2.2.2.2.1
def q7 {A7 B:Type}(x:(A0×A1×A2×A3×A4×A5×A6×A7×B)×C):A7:=x.1.2.2.2.2.2.2.2.1
def q8 {A7 A8 B:Type}(x:(A0×A1×A2×A3×A4×A5×A6×A7×A8×B)×C):A8:=x.1.2.2.2.2.2.2.2.2.1
def q9 {A7 A8 A9 B:Type}(x:(A0×A1×A2×A3×A4×A5×A6×A7×A8×A9×B)×C):A9:=x.1.2.2.2.2.2.2.2.2.2.1
def c1 {B:Type}(f:A0->R)(a:A0×B):R:=f a.1
def c2 {B:Type}(f:A0->A1->R)(a:A0×A1×B):R:=f a.1 a.2.1
def c3 {B:Type}(f:A0->A1->A2->R)(a:A0×A1×A2×B):R:=f a.1 a.2.1 a.2.2.1
def c4 {B:Type}(f:A0->A1->A2->A3->R)(a:A0×A1×A2×A3×B):R:=f a.1 a.2.1 a.2.2.1 a.2.2.2.1
def c5 {B:Type}(f:A0->A1->A2->A3->A4->R)(a:A0×A1×A2×A3×A4×B):R:=f a.1 a.2.1 a.2.2.1 a.2.2.2.1 a.2.2.2.2.1
def c6 {B:Type}(f:A0->A1->A2->A3->A4->A5->R)(a:A0×A1×A2×A3×A4×A5×B):R:=f a.1 a.2.1 a.2.2.1 a.2.2.2.1 a.2.2.2.2.1 a.2.2.2.2.2.1
def c7 {B:Type}(f:A0->A1->A2->A3->A4->A5->A6->R)(a:A0×A1×A2×A3×A4×A5×A6×B):R:=f a.1 a.2.1 a.2.2.1 a.2.2.2.1 a.2.2.2.2.1 a.2.2.2.2.2.1 a.2.2.2.2.2.2.1
theorem f0 {E:Env}{F:Bj s->aB (la rs)}{fn:Func}(an:An)(hS:Sound P E Γ)(hf:P.funcs[f]?=some fn)(hn:(fn.name== "runtime.NumGoroutine")=false:=by kernel_rfl)(hl:jm (fn.body.getD .skip)=[]:=by kernel_rfl)(hcut:an.cut=[]:=by rfl)(hF:∀a,I0 E Γ an eP.nil fn rs (nH s a)=F a:=by intro a;kernel_rfl):im P f (aU s rs F):=im.of (aeJ hS hf hn (AR.of (Fn.hF hl nF) hcut)) hF
abbrev Y20:FT:=jK (jK zk)
abbrev Y1:FT:=cX zk Y20
abbrev Y8:FT:=jK (jK (jK (.sl (.own none) (.int .i64))))
abbrev Y17:FT:=cX Y1 (cX Y8 (cX (.sl (.own none) jq) zk))
abbrev Y23:FT:=jK (cX .bool (.sl (.own none) (.int .i64)))
abbrev Y19:FT:=cX (.sl (.own none) jC) (cX (.sl (.own none) gZ) (cX .str (.sl (.own none) (.int .i64))))
abbrev Y0:FT:=cX (.sl (.own none) .str) (cX (.sl (.own none) bM) (cX Y17 (cX (.sl (.own none) ef) (cX (.sl (.own none) jo) (cX (.sl (.own none) gr) (cX (.sl (.own none) .bool) (cX Y23 (cX Y19 (cX (.sl (.own none) eG) (cX .bool (cX (.sl (.own none) .str) (cX (.sl (.own none) (.int .i64)) (cX (.sl (.own none) (.int .i64)) (cX zk Y1))))))))))))))
abbrev Y2:FT:=cX (dv 24577 .str) (cX (dv 24580 bM) (cX (cX Y1 (cX (jK (jK (jK (dv 24604 (.int .i64))))) (cX (dv 24607 jq) zk))) (cX (dv 24613 ef) (cX (dv 24616 jo) (cX (dv 24619 gr) (cX (dv 24622 .bool) (cX (jK (cX .bool (dv 24631 (.int .i64)))) (cX (cX (dv 24634 jC) (cX (dv 24637 gZ) (cX .str (dv 24643 (.int .i64))))) (cX (dv 24646 eG) (cX .bool (cX (dv 24652 .str) (cX (dv 24655 (.int .i64)) (cX (dv 24658 (.int .i64)) (cX zk Y1))))))))))))))
abbrev Y15:FT:=jK (jK (jK (jK .str)))
abbrev Y21:FT:=jK (cX zk Y15)
abbrev Y3:FT:=jK (jK (jK (jK (jK (jK (jK (jK (cX zk Y21))))))))
abbrev Y14:FT:=jK (jK (jK (.sl .arg (.int .i64))))
abbrev Y24:FT:=cX Y1 (cX Y14 (cX (.sl .arg jq) zk))
abbrev Y25:FT:=jK (cX .bool (.sl .arg (.int .i64)))
abbrev Y18:FT:=cX (.sl .arg jC) (cX (.sl .arg gZ) (cX .str (.sl .arg (.int .i64))))
abbrev Y4:FT:=cX (.sl .arg .str) (cX (.sl .arg bM) (cX Y24 (cX (.sl .arg ef) (cX (.sl .arg jo) (cX (.sl .arg gr) (cX (.sl .arg .bool) (cX Y25 (cX Y18 (cX (.sl .arg eG) (cX .bool (cX (.sl .arg .str) (cX (.sl .arg (.int .i64)) (cX (.sl .arg (.int .i64)) (cX zk Y1))))))))))))))
abbrev Y5:FT:=cX (dv 36865 .str) (cX (dv 36868 bM) (cX (cX Y1 (cX (jK (jK (jK (dv 36892 (.int .i64))))) (cX (dv 36895 jq) zk))) (cX (dv 36901 ef) (cX (dv 36904 jo) (cX (dv 36907 gr) (cX (dv 36910 .bool) (cX (jK (cX .bool (dv 36919 (.int .i64)))) (cX (cX (dv 36922 jC) (cX (dv 36925 gZ) (cX .str (dv 36931 (.int .i64))))) (cX (dv 36934 eG) (cX .bool (cX (dv 36940 .str) (cX (dv 36943 (.int .i64)) (cX (dv 36946 (.int .i64)) (cX zk Y1))))))))))))))
abbrev Y6:FT:=cX (dv 49153 .str) (cX (dv 49156 bM) (cX (cX Y1 (cX (jK (jK (jK (dv 49180 (.int .i64))))) (cX (dv 49183 jq) zk))) (cX (dv 49189 ef) (cX (dv 49192 jo) (cX (dv 49195 gr) (cX (dv 49198 .bool) (cX (jK (cX .bool (dv 49207 (.int .i64)))) (cX (cX (dv 49210 jC) (cX (dv 49213 gZ) (cX .str (dv 49219 (.int .i64))))) (cX (dv 49222 eG) (cX .bool (cX (dv 49228 .str) (cX (dv 49231 (.int .i64)) (cX (dv 49234 (.int .i64)) (cX zk Y1))))))))))))))
abbrev Y7:FT:=cX (.sl .arg0 (.int .u8)) (jK zk)
abbrev Y9:FT:=cX Y1 (cX Y20 (cX Y20 (cX (cX Y3 (jK zk)) (cX .bool zk))))
abbrev Y10:FT:=cX (dv 196609 .str) (cX (dv 196612 bM) (cX (cX Y1 (cX (jK (jK (jK (dv 196636 (.int .i64))))) (cX (dv 196639 jq) zk))) (cX (dv 196645 ef) (cX (dv 196648 jo) (cX (dv 196651 gr) (cX (dv 196654 .bool) (cX (jK (cX .bool (dv 196663 (.int .i64)))) (cX (cX (dv 196666 jC) (cX (dv 196669 gZ) (cX .str (dv 196675 (.int .i64))))) (cX (dv 196678 eG) (cX .bool (cX (dv 196684 .str) (cX (dv 196687 (.int .i64)) (cX (dv 196690 (.int .i64)) (cX zk Y1))))))))))))))
abbrev Y11:FT:=cX (dv 147457 .str) (cX (dv 147460 bM) (cX (cX Y1 (cX (jK (jK (jK (dv 147484 (.int .i64))))) (cX (dv 147487 jq) zk))) (cX (dv 147493 ef) (cX (dv 147496 jo) (cX (dv 147499 gr) (cX (dv 147502 .bool) (cX (jK (cX .bool (dv 147511 (.int .i64)))) (cX (cX (dv 147514 jC) (cX (dv 147517 gZ) (cX .str (dv 147523 (.int .i64))))) (cX (dv 147526 eG) (cX .bool (cX (dv 147532 .str) (cX (dv 147535 (.int .i64)) (cX (dv 147538 (.int .i64)) (cX zk Y1))))))))))))))
abbrev Y12:FT:=cX (dv 73729 .str) (cX (dv 73732 bM) (cX (cX Y1 (cX (jK (jK (jK (dv 73756 (.int .i64))))) (cX (dv 73759 jq) zk))) (cX (dv 73765 ef) (cX (dv 73768 jo) (cX (dv 73771 gr) (cX (dv 73774 .bool) (cX (jK (cX .bool (dv 73783 (.int .i64)))) (cX (cX (dv 73786 jC) (cX (dv 73789 gZ) (cX .str (dv 73795 (.int .i64))))) (cX (dv 73798 eG) (cX .bool (cX (dv 73804 .str) (cX (dv 73807 (.int .i64)) (cX (dv 73810 (.int .i64)) (cX zk Y1))))))))))))))
abbrev Y13:FT:=jK (jK (jK (jK (cX .bool .bool))))
abbrev Y16:FT:=cX (dv 49153 jC) (cX (dv 49156 gZ) (cX .str (dv 49162 (.int .i64))))
abbrev Y22:FT:=cX (dv 24577 jC) (cX (dv 24580 gZ) (cX .str (dv 24586 (.int .i64))))
abbrev Y26:FT:=jK (jK (jK (dv 184330 (.int .i64))))
abbrev Y27:FT:=jK (jK (jK (dv 147466 (.int .i64))))
abbrev Y28:FT:=jK (jK (jK (dv 98314 (.int .i64))))
abbrev Y29:FT:=jK (jK (jK (dv 73738 (.int .i64))))
def E:Env:={ty:=[(3,⟨false,(.int .i64),[]⟩),(4,⟨false,.bool,[]⟩),(5,⟨false,(.int .u8),[]⟩),(9,⟨false,.str,[]⟩),(22,⟨false,(.sl (.int .u8)),[(5,0)]⟩),(24,⟨false,(.sl .str),[(9,0)]⟩),(26,⟨true,(.sl .str),[(0,1)]⟩),(27,⟨false,(.sl bM),[(89,0)]⟩),(29,⟨true,rl,[(0,1),(1,1),(2,1),(3,1)]⟩),(30,⟨false,(.sl (.int .i64)),[(3,0)]⟩),(32,⟨true,jo,[(0,1),(1,1),(2,1),(3,1)]⟩),(33,⟨false,(.sl jq),[(94,0)]⟩),(35,⟨true,lj,[(0,4),(4,4),(8,1),(9,1)]⟩),(36,⟨false,(.sl ef),[(101,0)]⟩),(37,⟨false,(.sl jo),[(32,0)]⟩),(38,⟨false,(.sl gr),[(111,0)]⟩),(39,⟨false,(.sl .bool),[(4,0)]⟩),(41,⟨true,wQ,[(0,1),(1,1),(2,1)]⟩),(42,⟨false,(.sl jC),[(187,0)]⟩),(43,⟨false,(.sl gZ),[(189,0)]⟩),(45,⟨true,(.sl gZ),[(0,1)]⟩),(47,⟨true,zT,[(0,1),(1,1)]⟩),(49,⟨true,qj,[(0,1),(1,1),(2,2)]⟩),(50,⟨false,(.sl eG),[(166,0)]⟩),(52,⟨true,oZ,[(0,1),(1,1),(2,1),(3,1),(4,1)]⟩),(54,⟨true,dY,[(0,1),(1,1),(2,10),(12,1),(13,1),(14,1),(15,1),(16,3),(19,4),(23,1),(24,1),(25,1),(26,1),(27,1),(28,5)]⟩),(55,⟨false,(.sl zn),[(86,0)]⟩),(82,⟨true,xL,[(0,1),(1,1),(2,1),(3,1),(4,1),(5,1),(6,1),(7,1)]⟩),(84,⟨true,df,[(0,1),(1,1),(2,1),(3,1),(4,1),(5,1),(6,1),(7,1),(8,8)]⟩),(86,⟨true,zn,[(0,1),(1,16),(17,1),(18,1),(19,1),(20,1)]⟩),(89,⟨true,bM,[(0,1),(1,1),(2,1),(3,1)]⟩),(94,⟨true,jq,[(0,1),(1,1),(2,1)]⟩),(97,⟨true,gO,[(0,1),(1,1),(2,1)]⟩),(99,⟨true,H3,[(0,16),(16,1),(17,1)]⟩),(101,⟨true,ef,[(0,4),(4,3),(7,3),(10,18),(28,1),(29,1)]⟩),(111,⟨true,gr,[(0,1),(1,1),(2,1),(3,1),(4,1),(5,1)]⟩),(129,⟨true,(.pair (.sl (.int .u8)) (.pair (.int .i64) (.int .i64))),[(0,1),(1,1),(2,1)]⟩),(130,⟨false,(.sl df),[(84,0)]⟩),(164,⟨true,oZ,[(0,1),(1,1),(2,1),(3,1),(4,1)]⟩),(166,⟨true,eG,[(0,5),(5,1),(6,1),(7,1)]⟩),(177,⟨true,mK,[(0,1),(1,1),(2,1),(3,1),(4,1),(5,1)]⟩),(187,⟨true,jC,[(0,1),(1,1),(2,1),(3,1),(4,1),(5,1),(6,1),(7,1),(8,1)]⟩),(189,⟨true,gZ,[(0,1),(1,5),(6,1)]⟩),(201,⟨true,oZ,[(0,1),(1,1),(2,1),(3,1),(4,1)]⟩),(231,⟨false,(.sl iC),[(235,0)]⟩),(235,⟨true,iC,[(0,1),(1,1)]⟩),(259,⟨true,TIp,[(0,1),(1,1),(2,1),(3,1),(4,1),(5,1),(6,1)]⟩),(262,⟨true,VU,[(0,1),(1,1),(2,1),(3,1),(4,1)]⟩),(283,⟨false,(.sl iC),[(317,0)]⟩),(286,⟨false,(.sl mK),[(177,0)]⟩),(317,⟨true,iC,[(0,1),(1,1)]⟩),(332,⟨false,(.int .u32),[]⟩)],eqs:=[(84,[.int,.int,.int,.int,.int,.int,.int,.int,.int,.int,.int,.int,.int,.int,.int,.str]),(99,[.int,.int,.int,.int,.int,.int,.int,.int,.int,.int,.int,.int,.int,.int,.int,.str,.int,.int]),(164,[.int,.int,.int,.int,.int]),(177,[.int,.int,.int,.int,.int,.int])],fts:=[]}
theorem base:Sound Tryz.prog E eE.nil:=Sound.nil (QU (by kernel_rfl)) (QX (by kernel_rfl)) (QW (by kernel_rfl)) (by kernel_rfl)
def e7:bp:=aU [pd (.sl (.int .u8))] [rB] (c1 Pu.EK)
theorem o7:dA 7 e7:=f0 {} base Tryz.func7
def e24:bp:=SL (.pair (.sl .arg (.int .u8)) (.pair (.int .i64) (.int .i64))) [pd (.sl (.int .u8))] λa=>Pu.yM a.1
def g24:eE:=eE.nil
def n24:An:={mask:=mk [(3,[0,3,4])],merge:=mg [(3,15)]}
abbrev UH:SD:=⟨.data false (.sl .arg (.int .u8))::B::B::DI::DI::bs 27 [],zs 32 [],.none⟩
def adK (X:SD.D UH)(K:iR R):=Pu.yj (λy0 y1=>ke 0 K UH ((z1 (w y0 (u y1)) X.1),X.2)) X.1.1
def akw:dI:=jO UH adK (λX=>(X.1.2.1,q2 X))
def L24:eP:=eP.nil.add 3 akw
theorem aj2:jh E g24 n24 L24 (bl Tryz.f24 0):=lk UH adK (λX=>(X.1.2.1,q2 X)) λX x=>((z1 (w x.1 (u x.2)) X.1),X.2)
theorem o24:dA 24 e24:=im.amG (ajL (Γ:=g24) (an:=n24) (Λ:=L24) (base) Tryz.func24 (by kernel_rfl) (ao (cF aj2 nF))) (λa=>by kernel_rfl)
def aiH:bp:=jv (.pair (.sl .arg0 (.int .u8)) (.pair (.int .i64) (.int .i64))) [] [rI] λx a=>Pu.ko x
theorem alX:dA 117 aiH:=im.pA (pa (an:={}) (Λ:=eP.nil) (base) Tryz.func117 (by kernel_rfl) (ao nF)) (λx a=>by kernel_rfl)
def e63:bp:=jv (.pair (.sl .arg0 (.int .u8)) (.pair (.int .i64) (.int .i64))) [pI] [rI] λx a=>Pu.cv x a.1
theorem Xr:dA 63 e63:=im.pA (pa (an:={}) (Λ:=eP.nil) (base.add alX) Tryz.func63 (by kernel_rfl) (ao nF)) (λx a=>by kernel_rfl)
def e61:bp:=jv (.pair (.sl .arg0 (.int .u8)) (.pair (.int .i64) (.int .i64))) [pI] [rB] λx a=>Pu.gU x a.1
theorem o61:dA 61 e61:=im.pA (pa (an:={}) (Λ:=eP.nil) (base.add Xr) Tryz.func61 (by kernel_rfl) (ao nF)) (λx a=>by kernel_rfl)
def e64:bp:=jv (.pair (.sl .arg0 (.int .u8)) (.pair (.int .i64) (.int .i64))) [pI] [rS] λx a=>Pu.lP x a.1
def g64:eE:=eE.nil.add 117 aiH
def n64:An:={mask:=mk [(5,[0,1,5,6])],mv:=[15]}
abbrev UR:SD:=⟨.ptr 0 0::DI::B::B::B::.data false (dv 61440 (.int .u8))::DI::bs 16 [],(some Y7)::zs 22 [],.ptr⟩
def ad2 (X:SD.D UR)(K:iR R):=Pu.oB (λy0 y1 y2=>ke 0 K UR ((z1 (w y0 (u y1)) X.1),(u y2 X.2.1),X.2.2)) X.1.1
def akO:dI:=jO UR ad2 (λX=>(X.1.2.1,q2 X,X.2.1.1))
def L64:eP:=eP.nil.add 5 akO
theorem akk:jh E g64 n64 L64 (bl Tryz.f64 0):=lk UR ad2 (λX=>(X.1.2.1,q2 X,X.2.1.1)) λX x=>((z1 (w x.1 (u x.2.1)) X.1),(u x.2.2 X.2.1),X.2.2)
theorem o64:dA 64 e64:=im.pA (pa (Γ:=g64) (an:=n64) (Λ:=L64) (base.add alX) Tryz.func64 (by kernel_rfl) (ao (cF akk nF))) (λx a=>by kernel_rfl)
def e66:bp:=jv (.pair (.sl .arg0 (.int .u8)) (.pair (.int .i64) (.int .i64))) [pd (.sl (.int .i64))] [rI] λx a=>Pu.cE x a.1
theorem o66:dA 66 e66:=im.pA (pa (an:={}) (Λ:=eP.nil) (base.add Xr) Tryz.func66 (by kernel_rfl) (ao nF)) (λx a=>by kernel_rfl)
def amU:bp:=jv (.pair (.sl .arg0 (.int .u8)) (.pair (.int .i64) (.int .i64))) [] [rI] λx a=>Pu.qU x
theorem ahc:dA 118 amU:=im.pA (pa (an:={}) (Λ:=eP.nil) (base.add Xr) Tryz.func118 (by kernel_rfl) (ao nF)) (λx a=>by kernel_rfl)
def ano:bp:=jv (.pair (.sl .arg0 (.int .u8)) (.pair (.int .i64) (.int .i64))) [] [rI] λx a=>Pu.vI x
theorem apR:dA 175 ano:=im.pA (pa (an:={}) (Λ:=eP.nil) (base.add o66) Tryz.func175 (by kernel_rfl) (ao nF)) (λx a=>by kernel_rfl)
def amV:bp:=jv (.pair (.sl .arg0 (.int .u8)) (.pair (.int .i64) (.int .i64))) [pI] [(true,(.pair (.int .i64) Y21))] λx a=>Pu.sC x a.1
theorem apr:dA 119 amV:=im.pA (pa (an:={}) (Λ:=eP.nil) (((((base.add o61).add Xr).add o64).add o66).add apR) Tryz.func119 (by kernel_rfl) (ao nF)) (λx a=>by kernel_rfl)
def e65:bp:=jv (.pair (.sl .arg0 (.int .u8)) (.pair (.int .i64) (.int .i64))) [pI] [(true,Y3)] λx a=>Pu.kO x a.1
theorem o65:dA 65 e65:=im.pA (pa (an:={}) (Λ:=eP.nil) ((((((base.add o61).add Xr).add o64).add o66).add ahc).add apr) Tryz.func65 (by kernel_rfl) (ao nF)) (λx a=>by kernel_rfl)
def e59:bp:=jv (.pair (.sl .arg0 (.int .u8)) (.pair (.int .i64) (.int .i64))) [pI] [(false,(.sl (.own none) df))] λx a=>Pu.xj x a.1
def g59:eE:=((((eE.nil.add 61 e61).add 63 e63).add 64 e64).add 65 e65).add 66 e66
def Vn:An:={mask:=mk [(5,[0,5,6,7,8]),(1000012,[0,5,6,7,8]),(1000013,[0,5,6,7,8]),(1000014,[0,5,6,7,8]),(1000015,[0,5,6,7,8]),(1000018,[0,5,6,7,8]),(1000019,[0,5,6,7,8]),(1000022,[0,5,6,7,8]),(1000023,[0,5,6,7,8]),(1000028,[0,5,6,7,8]),(1000029,[0,5,6,7,8]),(1000034,[0,5,6,7,8,64]),(1000035,[0,5,6,7,8])],cut:=[6,7,9,11,14,17],mv:=[47,76]}
abbrev Bu:SD:=⟨.ptr 0 0::bs 4 (.data false (dv 61440 df)::.ptr 6 0::DI::DI::bs 55 (DB::bs 12 [])),(some Y7)::zs 5 ((some Y3)::zs 70 []),.ptr⟩
abbrev NM:SD:=⟨.ptr 0 0::bs 4 (.data false (dv 61440 df)::.ptr 6 0::DI::DI::bs 68 []),(some Y7)::zs 5 ((some Y3)::zs 70 []),.ptr⟩
def Hn (X:SD.D Bu)(K:iR R):aB R:=Pu.uQ (λy0=>kn K NM ((X.1.1,(X.1.2.1,(X.1.2.2.1,()))),(X.2.1.1,(y0,())),())) X.1.1 X.1.2.1 (q2 X) (q3 X) X.2.1.1 X.2.1.2.1
def QP:dI:=Xb Bu Hn
abbrev yz:SD:=⟨.ptr 0 0::bs 4 (.data false (dv 61440 df)::.ptr 6 0::DI::DI::bs 68 []),(some Y7)::zs 5 ((some Y3)::zs 70 []),.ptr⟩
def Hm (X:SD.D yz)(K:iR R):aB R:=Pu.nt (λy0 y1 y2=>kn K yz ((u y0 X.1),(w y1 (u y2) X.2.1),X.2.2)) X.1.1 X.1.2.1 (q2 X) X.2.1.1 X.2.1.2.1
def QO:dI:=Xb yz Hm
abbrev yy:SD:=⟨.ptr 0 0::bs 4 (.data false (dv 61440 df)::.ptr 6 0::DI::DI::bs 68 []),(some Y7)::zs 5 ((some Y3)::zs 70 []),.ptr⟩
def Hl (X:SD.D yy)(K:iR R):aB R:=Pu.ns (λy0 y1 y2=>kn K yy ((u y0 X.1),(w y1 (u y2) X.2.1),X.2.2)) X.1.1 X.1.2.1 (q2 X) X.2.1.1 X.2.1.2.1
def QN:dI:=Xb yy Hl
abbrev yx:SD:=⟨.ptr 0 0::bs 4 (.data false (dv 61440 df)::.ptr 6 0::DI::DI::bs 68 []),(some Y7)::zs 5 ((some Y3)::zs 70 []),.ptr⟩
def Hk (X:SD.D yx)(K:iR R):aB R:=Pu.oD (λy0 y1 y2 y3=>kn K yx ((w y0 (u y1) X.1),(w y2 (u y3) X.2.1),X.2.2)) X.1.1 X.1.2.1 (q2 X) X.2.1.1 X.2.1.2.1
def QM:dI:=Xb yx Hk
abbrev yv:SD:=⟨.ptr 0 0::bs 4 (.data false (dv 61440 df)::.ptr 6 0::DI::DI::bs 68 []),(some Y7)::zs 5 ((some Y3)::zs 70 []),.ptr⟩
def Hi (X:SD.D yv)(K:iR R):aB R:=Pu.oC (λy0=>kn K yv ((z2 (u y0) X.1),X.2)) X.1.1 X.1.2.1 (q2 X) X.2.1.1 X.2.1.2.1
def QK:dI:=Xb yv Hi
abbrev yw:SD:=⟨.ptr 0 0::bs 4 (.data false (dv 61440 df)::.ptr 6 0::DI::DI::bs 68 []),(some Y7)::zs 5 ((some Y3)::zs 70 []),.ptr⟩
def Hj (X:SD.D yw)(K:iR R):aB R:=Pu.sD (λy0 y1 y2 y3 y4=>kn K yw ((w y0 (w y1 (u y2)) X.1),(w y3 (u y4) X.2.1),X.2.2)) X.1.1 X.1.2.1 (q2 X) X.2.1.1 X.2.1.2.1
def QL:dI:=Xb yw Hj
abbrev UQ:SD:=⟨.ptr 0 0::bs 4 (.data false (dv 61440 df)::.ptr 6 0::DI::DI::bs 68 []),(some Y7)::zs 5 ((some Y3)::zs 70 []),.ptr⟩
def ad1 (X:SD.D UQ)(K:iR R):=Pu.wG (λy0 y1 y2 y3 y4=>ke 0 K UQ ((w y0 (w y1 (u y2)) X.1),(w y3 (u y4) X.2.1),X.2.2))
def akN:dI:=jO UQ ad1 (λX=>(X.1.1,X.1.2.1,q2 X,X.2.1.1,X.2.1.2.1))
def L59:eP:=((((((eP.nil.add 1000034 QP).add 1000028 QO).add 1000022 QN).add 1000018 QM).add 1000012 QK).add 1000014 QL).add 5 akN
theorem QD:Sd E g59 Vn L59 (ti Vn.cut Tryz.f59 4):=ck Bu Hn
theorem QC:Sd E g59 Vn L59 (ti Vn.cut Tryz.f59 3):=ck yz Hm
theorem QB:Sd E g59 Vn L59 (ti Vn.cut Tryz.f59 2):=ck yy Hl
theorem QA:Sd E g59 Vn L59 (ti Vn.cut Tryz.f59 1):=ck yx Hk
theorem Qy:Sd E g59 Vn L59 (ti Vn.cut Tryz.f59 5):=ck yv Hi
theorem Qz:Sd E g59 Vn L59 (ti Vn.cut Tryz.f59 0):=ck yw Hj
theorem akj:jh E g59 Vn L59 (bl Tryz.f59 0):=lk UQ ad1 (λX=>(X.1.1,X.1.2.1,q2 X,X.2.1.1,X.2.1.2.1)) λX x=>((w x.1 (w x.2.1 (u x.2.2.1)) X.1),(w x.2.2.2.1 (u x.2.2.2.2) X.2.1),X.2.2)
theorem o59:dA 59 e59:=im.pA (pa (Γ:=g59) (an:=Vn) (Λ:=L59) (((((base.add o61).add Xr).add o64).add o65).add o66) Tryz.func59 (by kernel_rfl) (ac (cF akj nF) (cF Qz (cF QA (cF QB (cF QC (cF QD (cF Qy nF)))))))) (λx a=>by kernel_rfl)
def NQ:bp:=aU [pI,pI,pI] [rB] (c3 Pu.bh)
theorem yX:dA 181 NQ:=f0 {merge:=mg [(1,6)]} base Tryz.func181
def anQ:bp:=aU [pf xL] [rB] (c1 Pu.qh)
theorem amj:dA 226 anQ:=f0 {merge:=mg [(1,18),(4,2),(5,2)]} (base.add yX) Tryz.func226
def ani:bp:=aU [pf df] [rB] (c1 Pu.qS)
theorem ahg:dA 169 ani:=f0 {merge:=mg [(1,55),(3,3),(4,2)]} ((base.add yX).add amj) Tryz.func169
def amQ:bp:=aU [pf df] [rB] (c1 Pu.rR)
theorem alV:dA 113 amQ:=f0 {merge:=mg [(1,2)]} (base.add ahg) Tryz.func113
def amT:bp:=aU [pd .str,pI,pI] [rB] (c3 Pu.nr)
theorem ahb:dA 116 amT:=f0 {merge:=mg [(1,6)]} base Tryz.func116
def e62:bp:=aU [pd .str,pI,pd .str] [rS] (c3 Pu.iB)
theorem o62:dA 62 e62:=f0 {} (base.add ahb) Tryz.func62
def anR:bp:=aU [pI] [rS] (c1 Pu.dk)
theorem Xq:dA 227 anR:=f0 {} (base.add yX) Tryz.func227
def anS:bp:=aU [pI] [rS] (c1 Pu.gj)
theorem ZU:dA 228 anS:=f0 {} (base.add yX) Tryz.func228
def anT:bp:=aU [pI,pI,pI,pI] [rS,rB] (c4 Pu.lN)
theorem aqt:dA 229 anT:=f0 {merge:=mg [(1,27)]} (((base.add yX).add Xq).add ZU) Tryz.func229
def ajD:bp:=aU [pI,pI] [rI] (c2 Pu.lM)
theorem aq4:dA 292 ajD:=f0 {merge:=mg [(1,12)]} (base.add yX) Tryz.func292
def aon:bp:=aU [pd .str] [rI] (c1 Pu.vH)
def apb:eE:=eE.nil.add 292 ajD
def alE:An:={mask:=mk [(3,[0,3,4])]}
abbrev NF:SD:=⟨.data false .str::B::B::DI::DI::bs 28 [],zs 33 [],.none⟩
def abn (X:SD.D NF)(K:iR R):=Pu.qR (λy0 y1=>ke 0 K NF ((z1 (w y0 (u y1)) X.1),X.2)) X.1.1
def agH:dI:=jO NF abn (λX=>(X.1.2.1,q2 X))
def aik:eP:=eP.nil.add 3 agH
theorem afD:jh E apb alE aik (bl Tryz.f269 0):=lk NF abn (λX=>(X.1.2.1,q2 X)) λX x=>((z1 (w x.1 (u x.2)) X.1),X.2)
theorem aqN:dA 269 aon:=fk alE (base.add aq4) Tryz.func269 (Λ:=aik) (cF afD nF)
def anU:bp:=aU [pd .str] [rI] (c1 Pu.oR)
theorem amk:dA 230 anU:=f0 {} (base.add aqN) Tryz.func230
def anj:bp:=aU [pI,pI,pf xL] [rS,rB] (c3 Pu.jH)
theorem amb:dA 170 anj:=f0 {merge:=mg [(14,82)]} ((((((base.add o62).add amj).add Xq).add ZU).add aqt).add amk) Tryz.func170
def aoo:bp:=aU [pf TIp] [rB] (c1 Pu.CG)
theorem aqO:dA 270 aoo:=f0 {merge:=mg [(1,2)]} (base.add yX) Tryz.func270
def anV:bp:=aU [pf TIp] [rS,rB] (c1 Pu.vE)
theorem aqu:dA 231 anV:=f0 {} (((((base.add o62).add Xq).add ZU).add amk).add aqO) Tryz.func231
def ank:bp:=aU [pf TIp] [rS,rB] (c1 Pu.tY)
theorem amc:dA 171 ank:=f0 {} (base.add aqu) Tryz.func171
def anW:bp:=aU [pf VU] [rB] (c1 Pu.uO)
theorem aml:dA 232 anW:=f0 {merge:=mg [(1,2)]} (base.add yX) Tryz.func232
def anX:bp:=aU [pI] [rS] (c1 Pu.iX)
theorem aqv:dA 233 anX:=f0 {} ((base.add Xq).add ZU) Tryz.func233
def anl:bp:=aU [pf VU] [rS,rB] (c1 Pu.vA)
theorem apO:dA 172 anl:=f0 {} (((base.add Xq).add aml).add aqv) Tryz.func172
def aev:bp:=aU [pI,pd (.int .u8)] [rS] (c2 Pu.iP)
def aoF:eE:=eE.nil
def ak3:An:={mask:=mk [(3,[0,1,5,6])]}
abbrev M9:SD:=⟨DI::.data false (.int .u8)::B::B::B::.data false (dv 61440 (.int .u8))::DI::bs 13 [],zs 20 [],.none⟩
def aaG (X:SD.D M9)(K:iR R):=Pu.oA (λy0 y1=>ke 0 K M9 ((z2 (w y0 (u y1)) X.1),X.2)) X.1.1 X.1.2.1
def afZ:dI:=jO M9 aaG (λX=>(q2 X,q3 X))
def ahK:eP:=eP.nil.add 3 afZ
theorem aeW:jh E aoF ak3 ahK (bl Tryz.f124 0):=lk M9 aaG (λX=>(q2 X,q3 X)) λX x=>((z2 (w x.1 (u x.2)) X.1),X.2)
theorem acM:dA 124 aev:=fk ak3 base Tryz.func124 (Λ:=ahK) (cF aeW nF)
def anm:bp:=aU [pd .str] [rS] (c1 Pu.xe)
theorem apP:dA 173 anm:=f0 {} (base.add acM) Tryz.func173
def amR:bp:=aU [pf df] [rS,rB] (c1 Pu.sr)
theorem apq:dA 114 amR:=f0 {} (((((base.add ahg).add amb).add amc).add apO).add apP) Tryz.func114
def ann:bp:=aU [pd .str] [rI] (c1 Pu.AF)
def ajP:eE:=eE.nil
def agZ:An:={mask:=mk [(3,[0,3,4]),(7,[0,3,4,5])]}
abbrev Ni:SD:=⟨.data false .str::B::B::DI::DI::DI::bs 26 [],zs 32 [],.none⟩
def aaR (X:SD.D Ni)(K:iR R):=Pu.oS (λy0 y1=>ke 2 K Ni ((z1 (w y0 (z1 (u y1))) X.1),X.2)) X.1.1 (q2 X)
def aga:dI:=jO Ni aaR (λX=>(X.1.2.1,q3 X))
abbrev Nh:SD:=⟨.data false .str::B::B::DI::DI::bs 27 [],zs 32 [],.none⟩
def aaQ (X:SD.D Nh)(K:iR R):=Pu.rN (λy0 y1=>ke 0 K Nh ((z1 (w y0 (u y1)) X.1),X.2)) X.1.1
def af9:dI:=jO Nh aaQ (λX=>(X.1.2.1,q2 X))
def aee:eP:=(eP.nil.add 7 aga).add 3 af9
theorem ae7:jh E ajP agZ aee (bl Tryz.f174 1):=lk Ni aaR (λX=>(X.1.2.1,q3 X)) λX x=>((z1 (w x.1 (z1 (u x.2))) X.1),X.2)
theorem ae6:jh E ajP agZ aee (bl Tryz.f174 0):=lk Nh aaQ (λX=>(X.1.2.1,q2 X)) λX x=>((z1 (w x.1 (u x.2)) X.1),X.2)
theorem apQ:dA 174 ann:=fk agZ base Tryz.func174 (Λ:=aee) (cF ae6 (cF ae7 nF))
def amS:bp:=aU [pd .str] [rS] (c1 Pu.uh)
theorem alW:dA 115 amS:=f0 {} (base.add apQ) Tryz.func115
def e60:bp:=aU [pf df] [rS,rB] (c1 Pu.sq)
theorem o60:dA 60 e60:=f0 {} (((base.add alV).add apq).add alW) Tryz.func60
def e25:bp:=jv (.pair (.sl .arg0 (.int .u8)) (.pair (.int .i64) (.int .i64))) [pd .bool] [(false,(.sl (.own none) zn))] λx a=>Pu.xw x a.1
def g25:eE:=(((((((eE.nil.add 59 e59).add 60 e60).add 61 e61).add 62 e62).add 63 e63).add 64 e64).add 65 e65).add 66 e66
def Yv:An:={mask:=mk [(4,[0,1,5,6,7]),(1000010,[0,1,5,6,7]),(1000011,[0,1,5,6,7]),(1000012,[0,1,5,6,7]),(1000013,[0,1,5,6,7]),(1000018,[0,1,5,6,7,8]),(1000019,[0,1,5,6,7]),(1000030,[0,1,5,6,7,43,50]),(1000031,[0,1,5,6,7]),(1000038,[0,1,5,6,7,43,57]),(1000039,[0,1,5,6,7])],cut:=[5,6,9,15,19],mv:=[37,46,53,61,70,84,91,95]}
abbrev Bt:SD:=⟨.ptr 0 0::DB::B::B::B::.data false (dv 61440 zn)::.data false (dv 73728 df)::DI::bs 35 (DI::bs 13 (DB::bs 38 [])),(some Y7)::zs 95 [],.ptr⟩
abbrev NA:SD:=⟨.ptr 0 0::DB::B::B::B::.data false (dv 61440 zn)::.data false (dv 73728 df)::DI::bs 88 [],(some Y7)::zs 95 [],.ptr⟩
def Hh (X:SD.D Bt)(K:iR R):aB R:=Pu.kD (λy0 y1=>kn K NA ((X.1.1,(y0,(X.1.2.2.1,(X.1.2.2.2.1,())))),(y1,()),())) X.1.1 X.1.2.1 (q2 X) (q3 X) (q4 X) (q5 X) X.2.1.1
def QJ:dI:=Xb Bt Hh
abbrev Bs:SD:=⟨.ptr 0 0::DB::B::B::B::.data false (dv 61440 zn)::.data false (dv 73728 df)::DI::bs 35 (DI::bs 6 (DB::bs 45 [])),(some Y7)::zs 95 [],.ptr⟩
abbrev Nz:SD:=⟨.ptr 0 0::DB::B::B::B::.data false (dv 61440 zn)::.data false (dv 73728 df)::DI::bs 88 [],(some Y7)::zs 95 [],.ptr⟩
def Hg (X:SD.D Bs)(K:iR R):aB R:=Pu.nv (λy0 y1=>kn K Nz ((X.1.1,(y0,(X.1.2.2.1,(X.1.2.2.2.1,())))),(y1,()),())) X.1.1 X.1.2.1 (q2 X) (q3 X) (q4 X) (q5 X) X.2.1.1
def QH:dI:=Xb Bs Hg
abbrev Br:SD:=⟨.ptr 0 0::DB::B::B::B::.data false (dv 61440 zn)::.data false (dv 73728 df)::DI::.data false .str::bs 87 [],(some Y7)::zs 95 [],.ptr⟩
abbrev Ny:SD:=⟨.ptr 0 0::DB::B::B::B::.data false (dv 61440 zn)::.data false (dv 73728 df)::DI::bs 88 [],(some Y7)::zs 95 [],.ptr⟩
def Hf (X:SD.D Br)(K:iR R):aB R:=Pu.oG (λy0 y1=>kn K Ny ((X.1.1,(y0,(X.1.2.2.1,(X.1.2.2.2.1,())))),(y1,()),())) X.1.1 X.1.2.1 (q2 X) (q3 X) (q4 X) X.2.1.1
def QG:dI:=Xb Br Hf
abbrev yt:SD:=⟨.ptr 0 0::DB::B::B::B::.data false (dv 61440 zn)::.data false (dv 73728 df)::DI::bs 88 [],(some Y7)::zs 95 [],.ptr⟩
def Hd (X:SD.D yt)(K:iR R):aB R:=Pu.oF (λy0=>kn K yt ((z3 (u y0) X.1),X.2)) X.1.1 X.1.2.1 (q2 X) (q3 X) X.2.1.1
def QE:dI:=Xb yt Hd
abbrev yu:SD:=⟨.ptr 0 0::DB::B::B::B::.data false (dv 61440 zn)::.data false (dv 73728 df)::DI::bs 88 [],(some Y7)::zs 95 [],.ptr⟩
def He (X:SD.D yu)(K:iR R):aB R:=Pu.sF (λy0 y1 y2=>kn K yu ((z1 (w y0 (z1 (u y1))) X.1),(u y2 X.2.1),X.2.2)) X.1.1 X.1.2.1 (q2 X) (q3 X) X.2.1.1
def QF:dI:=Xb yu He
abbrev UI:SD:=⟨.ptr 0 0::DB::B::B::B::.data false (dv 61440 zn)::.data false (dv 73728 df)::DI::bs 88 [],(some Y7)::zs 95 [],.ptr⟩
def adL (X:SD.D UI)(K:iR R):=Pu.wK (λy0 y1 y2=>ke 0 K UI ((z1 (w y0 (z1 (u y1))) X.1),(u y2 X.2.1),X.2.2)) X.1.1 (q2 X)
def akx:dI:=jO UI adL (λX=>(X.1.2.1,q3 X,X.2.1.1))
def L25:eP:=(((((eP.nil.add 1000038 QJ).add 1000030 QH).add 1000018 QG).add 1000010 QE).add 1000012 QF).add 4 akx
theorem Qx:Sd E g25 Yv L25 (ti Yv.cut Tryz.f25 3):=ck Bt Hh
theorem Qw:Sd E g25 Yv L25 (ti Yv.cut Tryz.f25 2):=ck Bs Hg
theorem Qv:Sd E g25 Yv L25 (ti Yv.cut Tryz.f25 1):=ck Br Hf
theorem Qt:Sd E g25 Yv L25 (ti Yv.cut Tryz.f25 4):=ck yt Hd
theorem Qu:Sd E g25 Yv L25 (ti Yv.cut Tryz.f25 0):=ck yu He
theorem aj3:jh E g25 Yv L25 (bl Tryz.f25 0):=lk UI adL (λX=>(X.1.2.1,q3 X,X.2.1.1)) λX x=>((z1 (w x.1 (z1 (u x.2.1))) X.1),(u x.2.2 X.2.1),X.2.2)
theorem o25:dA 25 e25:=im.pA (pa (Γ:=g25) (an:=Yv) (Λ:=L25) ((((((((base.add o59).add o60).add o61).add o62).add Xr).add o64).add o65).add o66) Tryz.func25 (by kernel_rfl) (ac (cF aj3 nF) (cF Qu (cF Qv (cF Qw (cF Qx (cF Qt nF))))))) (λx a=>by kernel_rfl)
def aeu:bp:=aU [] [(true,(.sl (.own none) gZ))] λa=>Pu.md
theorem alY:dA 123 aeu:=f0 {} base Tryz.func123
def ajm:bp:=jv (.pair (.sl .arg0 (.int .u8)) (.pair (.int .i64) (.int .i64))) [] [rS] λx a=>Pu.yN x
theorem aqw:dA 234 ajm:=im.pA (pa (an:={}) (Λ:=eP.nil) (base.add o64) Tryz.func234 (by kernel_rfl) (ao nF)) (λx a=>by kernel_rfl)
def ai1:bp:=jv (.pair (.sl .arg0 (.int .u8)) (.pair (.int .i64) (.int .i64))) [] [(true,(.pair .str (.sl (.own none) (.int .i64)))),rI] λx a=>Pu.ui x
def ajQ:eE:=((eE.nil.add 63 e63).add 66 e66).add 234 ajm
def alc:An:={mask:=mk [(4,[0,2,4,5,6])],mv:=[21,28],mb:=mg [(21,5)],sb:=mg [(22,0),(27,5)]}
abbrev Nj:SD:=⟨.ptr 0 0::B::.ptr 2 0::B::DI::.ptr 5 0::DI::bs 23 [],(some Y7)::Z::(rj (cX .str (dv 24580 (.int .i64))))::Z::Z::(rj (cX .str (dv 61444 (.int .i64))))::zs 24 [],.ptr⟩
def aaS (X:SD.D Nj)(K:iR R):=Pu.uj (λy0 y1 y2=>ke 0 K Nj ((z1 (u y0) X.1),(w y1 (z1 (u y2)) X.2.1),X.2.2)) X.1.1 X.2.1.2.1
def agb:dI:=jO Nj aaS (λX=>(X.1.2.1,X.2.1.1,X.2.1.2.2.1))
def ahT:eP:=eP.nil.add 4 agb
theorem ae8:jh E ajQ alc ahT (bl Tryz.f176 0):=lk Nj aaS (λX=>(X.1.2.1,X.2.1.1,X.2.1.2.2.1)) λX x=>((z1 (u x.1) X.1),(w x.2.1 (z1 (u x.2.2)) X.2.1),X.2.2)
theorem apS:dA 176 ai1:=im.pA (pa (Γ:=ajQ) (an:=alc) (Λ:=ahT) (((base.add Xr).add o66).add aqw) Tryz.func176 (by kernel_rfl) (ao (cF ae8 nF))) (λx a=>by kernel_rfl)
def ajn:bp:=jv (.pair (.sl .arg0 (.int .u8)) (.pair (.int .i64) (.int .i64))) [] [(true,(.pair (.int .i64) (.pair (.int .i64) (.pair (.int .i64) (.pair (.int .i64) (.pair (.int .i64) Y1))))))] λx a=>Pu.xo x
theorem aqx:dA 235 ajn:=im.pA (pa (an:={}) (Λ:=eP.nil) (((base.add Xr).add o66).add ahc) Tryz.func235 (by kernel_rfl) (ao nF)) (λx a=>by kernel_rfl)
def ai2:bp:=jv (.pair (.sl .arg0 (.int .u8)) (.pair (.int .i64) (.int .i64))) [] [(false,(.sl (.own none) jC))] λx a=>Pu.vJ x
def ajR:eE:=(eE.nil.add 63 e63).add 235 ajn
def ald:An:={mask:=mk [(3,[0,3,4])],mv:=[12,17]}
abbrev Nk:SD:=⟨.ptr 0 0::B::B::.data false (dv 36864 jC)::DI::bs 13 [],(some Y7)::zs 17 [],.ptr⟩
def aaT (X:SD.D Nk)(K:iR R):=Pu.uR (λy0 y1 y2=>ke 0 K Nk ((w y0 (u y1) X.1),(u y2 X.2.1),X.2.2))
def agc:dI:=jO Nk aaT (λX=>(X.1.1,X.1.2.1,X.2.1.1))
def ahU:eP:=eP.nil.add 3 agc
theorem ae9:jh E ajR ald ahU (bl Tryz.f177 0):=lk Nk aaT (λX=>(X.1.1,X.1.2.1,X.2.1.1)) λX x=>((w x.1 (u x.2.1) X.1),(u x.2.2 X.2.1),X.2.2)
theorem apT:dA 177 ai2:=im.pA (pa (Γ:=ajR) (an:=ald) (Λ:=ahU) ((base.add Xr).add aqx) Tryz.func177 (by kernel_rfl) (ao (cF ae9 nF))) (λx a=>by kernel_rfl)
def ajo:bp:=aU [pf (.sl gZ)] [(true,(.sl (.own none) gZ))] (c1 Pu.uk)
theorem amm:dA 236 ajo:=f0 {} base Tryz.func236
def aeC:bp:=aU [pf oZ] [rI] (c1 Pu.rP)
def ao1:eE:=eE.nil
def alu:An:={mask:=mk [(4,[3,4,5])]}
abbrev Nu:SD:=⟨B::B::B::DI::.data false (dv 49152 (.int .i64))::DI::bs 26 [],zs 32 [],.none⟩
def abd (X:SD.D Nu)(K:iR R):=Pu.nq (λy0 y1=>ke 0 K Nu ((w y0 (z1 (u y1)) X.1),X.2)) X.1.2.1
def agx:dI:=jO Nu abd (λX=>(X.1.1,q2 X))
def ah9:eP:=eP.nil.add 4 agx
theorem aft:jh E ao1 alu ah9 (bl Tryz.f239 0):=lk Nu abd (λX=>(X.1.1,q2 X)) λX x=>((w x.1 (z1 (u x.2)) X.1),X.2)
theorem amp:dA 239 aeC:=fk alu base Tryz.func239 (Λ:=ah9) (cF aft nF)
def aeB:bp:=aU [pf (.sl gZ),pf oZ] [rI] (c2 Pu.uo)
def ao0:eE:=eE.nil.add 239 aeC
def als:An:={mask:=mk [(2,[2,3,4,5])],merge:=mg [(7,39)]}
abbrev ID:SD:=⟨B::B::.ptr 2 0::.ptr 3 0::DI::DI::bs 35 [],Z::Z::(rj (.sl .arg gZ))::(rj (cX zk Y1))::zs 37 [],.none⟩
def abc (X:SD.D ID)(K:iR R):=Pu.oE (λy0=>ke 0 K ID ((z1 (u y0) X.1),X.2)) (λy0 y1=>kr K ID ((w y0 (u y1) X.1),X.2)) X.1.1 X.2.1.1 X.2.1.2.1
def agw:dI:=jO ID abc (λX=>X.1.2.1)
def ah8:eP:=eP.nil.add 2 agw
theorem afs:jh E ao0 als ah8 (bl Tryz.f238 0):=lk ID abc (λX=>X.1.2.1) λX x=>((z1 (u x) X.1),X.2)
theorem amo:dA 238 aeB:=fk als (base.add amp) Tryz.func238 (Λ:=ah8) (cF afs nF)
def aeA:bp:=aU [pf (.sl gZ)] [rB] (c1 Pu.ug)
def aoZ:eE:=(eE.nil.add 181 NQ).add 238 aeB
def alr:An:={mask:=mk [(4,[1,2,3])],merge:=mg [(7,30),(10,42)]}
abbrev IC:SD:=⟨B::.ptr 1 0::DB::DI::bs 45 [],Z::(rj (.sl .arg gZ))::zs 47 [],.none⟩
def abb (X:SD.D IC)(K:iR R):=Pu.sB (λy0=>ke 0 K IC ((z1 (u y0) X.1),X.2)) (λy0 y1=>kr K IC ((w y0 (u y1) X.1),X.2)) X.1.1 X.2.1.1
def agv:dI:=jO IC abb (λX=>X.1.2.1)
def ah7:eP:=eP.nil.add 4 agv
theorem afr:jh E aoZ alr ah7 (bl Tryz.f237 0):=lk IC abb (λX=>X.1.2.1) λX x=>((z1 (u x) X.1),X.2)
theorem amn:dA 237 aeA:=fk alr ((base.add yX).add amo) Tryz.func237 (Λ:=ah7) (cF afr nF)
def ai3:bp:=aU [pf (.sl gZ),pf oZ,pI] [(true,(.sl (.own none) gZ)),rB] (c3 Pu.xg)
def aoO:eE:=((((eE.nil.add 181 NQ).add 236 ajo).add 237 aeA).add 238 aeB).add 239 aeC
def ale:An:={mask:=mk [(6,[2,3,4,6,8,9,10])],merge:=mg [(2,21),(6,31)],mv:=[22,49,57]}
abbrev Nl:SD:=⟨B::B::DI::.ptr 3 0::.ptr 4 0::B::.ptr 6 0::B::.ptr 8 0::DI::DI::bs 47 [],Z::Z::Z::(rj (.sl .arg gZ))::(rj (cX zk Y1))::Z::(rj (dv 73729 gZ))::Z::(rj (dv 98305 gZ))::zs 49 [],.none⟩
def aaU (X:SD.D Nl)(K:iR R):=Pu.wF (λy0 y1=>ke 0 K Nl ((z1 (w y0 (u y1)) X.1),X.2)) X.1.1 X.2.1.1 X.2.1.2.1 X.2.1.2.2.1 X.2.1.2.2.2.1
def agd:dI:=jO Nl aaU (λX=>(X.1.2.1,q2 X))
def ahV:eP:=eP.nil.add 6 agd
theorem afa:jh E aoO ale ahV (bl Tryz.f178 0):=lk Nl aaU (λX=>(X.1.2.1,q2 X)) λX x=>((z1 (w x.1 (u x.2)) X.1),X.2)
theorem apU:dA 178 ai3:=fk ale (((((base.add yX).add amm).add amn).add amo).add amp) Tryz.func178 (Λ:=ahV) (cF afa nF)
def ai4:bp:=jv (.pair (.sl .arg0 (.int .u8)) (.pair (.int .i64) (.int .i64))) [] [(true,(.pair (.int .i64) Y1))] λx a=>Pu.xm x
theorem apV:dA 179 ai4:=im.pA (pa (an:={}) (Λ:=eP.nil) (((base.add Xr).add o66).add ahc) Tryz.func179 (by kernel_rfl) (ao nF)) (λx a=>by kernel_rfl)
def aiI:bp:=jv (.pair (.sl .arg0 (.int .u8)) (.pair (.int .i64) (.int .i64))) [] [(true,Y19),rI] λx a=>Pu.qV x
def aeK:eE:=((((((eE.nil.add 61 e61).add 63 e63).add 123 aeu).add 176 ai1).add 177 ai2).add 178 ai3).add 179 ai4
def agX:An:={mask:=mk [(7,[0,2,4,6,7]),(11,[0,2,4,6,8])],mv:=[11,16,49,58,61],sb:=mg [(52,0),(54,0),(60,4)]}
abbrev M7:SD:=⟨.ptr 0 0::B::.ptr 2 0::B::.ptr 4 0::B::DI::DI::bs 55 [],(some Y7)::Z::(some Y22)::Z::(some Y16)::zs 58 [],.ptr⟩
def aaE (X:SD.D M7)(K:iR R):=Pu.ka (λy0 y1=>ke 0 K M7 ((z1 (u y0) X.1),(z2 (u y1) X.2.1),X.2.2)) X.1.1 X.2.1.1 X.2.1.2.1
def afX:dI:=jO M7 aaE (λX=>(X.1.2.1,X.2.1.2.2.1))
abbrev HJ:SD:=⟨.ptr 0 0::B::.ptr 2 0::B::.ptr 4 0::B::DI::B::DI::bs 54 [],(some Y7)::Z::(some Y22)::Z::(some Y16)::zs 58 [],.ptr⟩
def VJ (X:SD.D HJ)(K:iR R):=Pu.iw (λy0 y1 y2=>ke 2 K HJ ((z1 (u y0) X.1),(w y1 (z1 (u y2)) X.2.1),X.2.2)) X.1.1 X.2.1.2.1
def acy:dI:=jO HJ VJ (λX=>(X.1.2.1,X.2.1.1,X.2.1.2.2.1))
def aec:eP:=(eP.nil.add 7 afX).add 11 acy
theorem aeU:jh E aeK agX aec (bl Tryz.f120 0):=lk M7 aaE (λX=>(X.1.2.1,X.2.1.2.2.1)) λX x=>((z1 (u x.1) X.1),(z2 (u x.2) X.2.1),X.2.2)
theorem acq:jh E aeK agX aec (bl Tryz.f120 1):=lk HJ VJ (λX=>(X.1.2.1,X.2.1.1,X.2.1.2.2.1)) λX x=>((z1 (u x.1) X.1),(w x.2.1 (z1 (u x.2.2)) X.2.1),X.2.2)
theorem aps:dA 120 aiI:=im.pA (pa (Γ:=aeK) (an:=agX) (Λ:=aec) (((((((base.add o61).add Xr).add alY).add apS).add apT).add apU).add apV) Tryz.func120 (by kernel_rfl) (ao (cF aeU (cF acq nF)))) (λx a=>by kernel_rfl)
def aop:bp:=aU [pf gr] [rB] (c1 Pu.sZ)
theorem aqP:dA 271 aop:=f0 {merge:=mg [(1,2)]} base Tryz.func271
def anY:bp:=aU [pf gr] [rB] (c1 Pu.me)
theorem aqy:dA 240 anY:=f0 {merge:=mg [(1,24),(3,2)]} ((base.add yX).add aqP) Tryz.func240
def ai5:bp:=aU [pI,pI] [(true,Y13),rB] (c2 Pu.uc)
theorem apW:dA 180 ai5:=f0 {} (base.add aqy) Tryz.func180
def ai6:bp:=aU [pf wQ] [rB] (c1 Pu.vD)
def aoP:eE:=eE.nil.add 181 NQ
def alf:An:={mask:=mk [(2,[1,2,3])],merge:=mg [(4,35),(6,2)]}
abbrev Iv:SD:=⟨B::.ptr 1 0::DB::DI::bs 41 [],Z::(some Y25)::zs 43 [],.none⟩
def aaW (X:SD.D Iv)(K:iR R):=Pu.qM (λy0=>ke 0 K Iv ((z1 (u y0) X.1),X.2)) (λy0 y1=>kr K Iv ((w y0 (u y1) X.1),X.2)) X.1.1 X.2.1.1
def agf:dI:=jO Iv aaW (λX=>X.1.2.1)
def ahW:eP:=eP.nil.add 2 agf
theorem afc:jh E aoP alf ahW (bl Tryz.f182 0):=lk Iv aaW (λX=>X.1.2.1) λX x=>((z1 (u x) X.1),X.2)
theorem apX:dA 182 ai6:=fk alf (base.add yX) Tryz.func182 (Λ:=ahW) (cF afc nF)
def ajs:bp:=aU [pf jC] [rB] (c1 Pu.lO)
theorem aqQ:dA 272 ajs:=f0 {merge:=mg [(1,33),(3,54),(5,2)]} (base.add yX) Tryz.func272
def ajp:bp:=aU [pd (.sl jC)] [rB] (c1 Pu.xi)
def ao2:eE:=eE.nil.add 272 ajs
def alv:An:={mask:=mk [(2,[0,2,3])]}
abbrev IE:SD:=⟨.data false (.sl .arg jC)::B::DB::DI::bs 15 [],zs 19 [],.none⟩
def abe (X:SD.D IE)(K:iR R):=Pu.sy (λy0=>ke 0 K IE ((z2 (u y0) X.1),X.2)) (λy0 y1=>kr K IE ((z1 (w y0 (u y1)) X.1),X.2)) X.1.1 X.1.2.1
def agy:dI:=jO IE abe q2
def aia:eP:=eP.nil.add 2 agy
theorem afu:jh E ao2 alv aia (bl Tryz.f241 0):=lk IE abe q2 λX x=>((z2 (u x) X.1),X.2)
theorem aqz:dA 241 ajp:=fk alv (base.add aqQ) Tryz.func241 (Λ:=aia) (cF afu nF)
def ajt:bp:=aU [pI] [rB] (c1 Pu.xn)
theorem aqR:dA 273 ajt:=f0 {merge:=mg [(1,2)]} base Tryz.func273
def ajq:bp:=aU [pf zT,pI] [rB] (c2 Pu.vG)
def ao3:eE:=(eE.nil.add 181 NQ).add 273 ajt
def alw:An:={mask:=mk [(4,[1,2,4,5])],merge:=mg [(1,21)]}
abbrev IG:SD:=⟨B::DI::.ptr 2 0::B::DB::DI::bs 32 [],Z::Z::(rj (cX .str (.sl .arg (.int .i64))))::zs 35 [],.none⟩
def abf (X:SD.D IG)(K:iR R):=Pu.qP (λy0=>ke 0 K IG ((z2 (u y0) X.1),X.2)) (λy0 y1=>kr K IG ((z1 (w y0 (u y1)) X.1),X.2)) X.1.1 X.1.2.1 X.2.1.1
def agz:dI:=jO IG abf q2
def aib:eP:=eP.nil.add 4 agz
theorem afv:jh E ao3 alw aib (bl Tryz.f242 0):=lk IG abf q2 λX x=>((z2 (u x) X.1),X.2)
theorem aqA:dA 242 ajq:=fk alw ((base.add yX).add aqR) Tryz.func242 (Λ:=aib) (cF afv nF)
def ai7:bp:=aU [pf qj,pI] [rB] (c2 Pu.sA)
def ajS:eE:=((eE.nil.add 237 aeA).add 241 ajp).add 242 ajq
def ag3:An:={mask:=mk [(4,[1,2,4,5]),(9,[1,2,4,6])],merge:=mg [(1,23)]}
abbrev Iw:SD:=⟨B::DI::.ptr 2 0::B::DB::DI::bs 50 [],Z::Z::(some Y18)::zs 53 [],.none⟩
def aaX (X:SD.D Iw)(K:iR R):=Pu.od (λy0=>ke 0 K Iw ((z2 (u y0) X.1),X.2)) (λy0 y1=>kr K Iw ((z1 (w y0 (u y1)) X.1),X.2)) X.1.1 X.1.2.1 X.2.1.1
def agh:dI:=jO Iw aaX q2
abbrev Ix:SD:=⟨B::DI::.ptr 2 0::B::DB::B::DI::bs 49 [],Z::Z::(some Y18)::zs 53 [],.none⟩
def aaY (X:SD.D Ix)(K:iR R):=Pu.oe (λy0=>ke 2 K Ix ((z2 (u y0) X.1),X.2)) (λy0 y1=>kr K Ix ((z1 (w y0 (u y1)) X.1),X.2)) X.1.1 X.1.2.1 X.2.1.1
def agi:dI:=jO Ix aaY q2
def aef:eP:=(eP.nil.add 4 agh).add 9 agi
theorem afd:jh E ajS ag3 aef (bl Tryz.f183 0):=lk Iw aaX q2 λX x=>((z2 (u x) X.1),X.2)
theorem afe:jh E ajS ag3 aef (bl Tryz.f183 1):=lk Ix aaY q2 λX x=>((z2 (u x) X.1),X.2)
theorem apY:dA 183 ai7:=fk ag3 (((base.add amn).add aqz).add aqA) Tryz.func183 (Λ:=aef) (cF afd (cF afe nF))
def ai8:bp:=aU [pI] [(true,(.sl (.own none) .str))] (c1 Pu.qg)
def aoQ:eE:=eE.nil.add 124 aev
def alg:An:={mask:=mk [(3,[0,2,3,4])],merge:=mg [(3,12)],mv:=[16,21],mb:=mg [(16,3)],sb:=mg [(20,3)]}
abbrev Nm:SD:=⟨DI::B::.ptr 2 0::.ptr 3 0::DI::bs 17 [],Z::Z::(rj (dv 24577 .str))::(rj (dv 36865 .str))::zs 18 [],.none⟩
def aaZ (X:SD.D Nm)(K:iR R):=Pu.pC (λy0 y1=>ke 0 K Nm ((z1 (u y0) X.1),(z1 (u y1) X.2.1),X.2.2)) X.1.1 X.2.1.1
def agj:dI:=jO Nm aaZ (λX=>(X.1.2.1,X.2.1.2.1))
def ahX:eP:=eP.nil.add 3 agj
theorem aff:jh E aoQ alg ahX (bl Tryz.f184 0):=lk Nm aaZ (λX=>(X.1.2.1,X.2.1.2.1)) λX x=>((z1 (u x.1) X.1),(z1 (u x.2) X.2.1),X.2.2)
theorem apZ:dA 184 ai8:=fk alg (base.add acM) Tryz.func184 (Λ:=ahX) (cF aff nF)
def aeE:bp:=aU [pf jo] [rB] (c1 Pu.sX)
def apc:eE:=eE.nil.add 181 NQ
def alF:An:={mask:=mk [(5,[1,2,3,4])],merge:=mg [(1,20),(7,50)]}
abbrev II:SD:=⟨B::.ptr 1 0::DB::.data false (dv 36864 .bool)::DI::bs 53 [],Z::(some Y14)::zs 56 [],.none⟩
def abo (X:SD.D II)(K:iR R):=Pu.ud (λy0 y1=>ke 0 K II ((z1 (w y0 (u y1)) X.1),X.2)) (λy0 y1 y2=>kr K II ((w y0 (w y1 (u y2)) X.1),X.2)) X.1.1 X.2.1.1
def agI:dI:=jO II abo (λX=>(X.1.2.1,q2 X))
def ail:eP:=eP.nil.add 5 agI
theorem afE:jh E apc alF ail (bl Tryz.f274 0):=lk II abo (λX=>(X.1.2.1,q2 X)) λX x=>((z1 (w x.1 (u x.2)) X.1),X.2)
theorem ahm:dA 274 aeE:=fk alF (base.add yX) Tryz.func274 (Λ:=ail) (cF afE nF)
def anZ:bp:=aU [pI,pI,pI] [(true,Y8),rB] (c3 Pu.ub)
def ao4:eE:=eE.nil.add 274 aeE
def alx:An:={mask:=mk [(3,[2,6,8,9])],merge:=mg [(3,20)],mv:=[24,33]}
abbrev Nv:SD:=⟨B::B::DI::B::B::B::.ptr 6 0::B::.ptr 8 0::DI::bs 24 [],zs 6 ((some Y29)::Z::(some Y28)::zs 25 []),.none⟩
def abg (X:SD.D Nv)(K:iR R):=Pu.oz (λy0 y1=>ke 0 K Nv ((z1 (u y0) X.1),(z1 (u y1) X.2.1),X.2.2)) X.1.1 X.2.1.1
def agA:dI:=jO Nv abg (λX=>(X.1.2.1,X.2.1.2.1))
def aic:eP:=eP.nil.add 3 agA
theorem afw:jh E ao4 alx aic (bl Tryz.f243 0):=lk Nv abg (λX=>(X.1.2.1,X.2.1.2.1)) λX x=>((z1 (u x.1) X.1),(z1 (u x.2) X.2.1),X.2.2)
theorem amq:dA 243 anZ:=fk alx (base.add ahm) Tryz.func243 (Λ:=aic) (cF afw nF)
def ai9:bp:=aU [] [(true,Y17)] λa=>Pu.vL
theorem ap0:dA 185 ai9:=f0 {mv:=[4,9]} (base.add amq) Tryz.func185
def aja:bp:=aU [pf wQ] [(true,Y23)] (c1 Pu.xu)
theorem ap1:dA 186 aja:=f0 {sb:=mg [(2,2)]} base Tryz.func186
def ajb:bp:=aU [pf qj] [(true,Y19)] (c1 Pu.xp)
theorem ap2:dA 187 ajb:=f0 {sb:=mg [(2,2)]} (base.add amm) Tryz.func187
def abZ:bp:=aU [pf (.sl .str)] [(true,(.sl (.own none) .str))] (c1 Pu.lQ)
theorem acU:dA 276 abZ:=f0 {} base Tryz.func276
def ajH:bp:=aU [pd (.sl bM)] [rB] (c1 Pu.sv)
def ajW:eE:=eE.nil.add 181 NQ
def ag7:An:={mask:=mk [(4,[0,2,3]),(10,[0,2,3,4,5])],merge:=mg [(7,34),(12,57)]}
abbrev Ed:SD:=⟨.data false (.sl .arg bM)::B::DB::DI::.ptr 4 0::DI::bs 52 [],zs 4 ((rj (jK (jK (jK .bool))))::zs 53 []),.none⟩
def VO (X:SD.D Ed)(K:iR R):=Pu.mG (λy0=>ke 2 K Ed ((z3 (u y0) X.1),X.2)) (λy0 y1=>kr K Ed ((z1 (w y0 (z1 (u y1))) X.1),X.2)) X.1.1 X.1.2.1 (q2 X) X.2.1.1
def acD:dI:=jO Ed VO q3
abbrev IK:SD:=⟨.data false (.sl .arg bM)::B::DB::DI::bs 54 [],zs 58 [],.none⟩
def abx (X:SD.D IK)(K:iR R):=Pu.oc (λy0=>ke 0 K IK ((z2 (u y0) X.1),X.2)) (λy0 y1=>kr K IK ((z1 (w y0 (u y1)) X.1),X.2)) X.1.1 X.1.2.1
def agQ:dI:=jO IK abx q2
def aej:eP:=(eP.nil.add 10 acD).add 4 agQ
theorem acw:jh E ajW ag7 aej (bl Tryz.f301 1):=lk Ed VO q3 λX x=>((z3 (u x) X.1),X.2)
theorem afM:jh E ajW ag7 aej (bl Tryz.f301 0):=lk IK abx q2 λX x=>((z2 (u x) X.1),X.2)
theorem arb:dA 301 ajH:=fk ag7 (base.add yX) Tryz.func301 (Λ:=aej) (cF afM (cF acw nF))
def ajI:bp:=aU [pf (.sl .str)] [rB] (c1 Pu.rQ)
def api:eE:=eE.nil
def alL:An:={mask:=mk [(2,[1,2,3])]}
abbrev IL:SD:=⟨B::.ptr 1 0::DB::DI::bs 18 [],Z::(rj (.sl .arg .str))::zs 20 [],.none⟩
def aby (X:SD.D IL)(K:iR R):=Pu.qN (λy0=>ke 0 K IL ((z1 (u y0) X.1),X.2)) (λy0 y1=>kr K IL ((w y0 (u y1) X.1),X.2)) X.1.1 X.2.1.1
def agR:dI:=jO IL aby (λX=>X.1.2.1)
def air:eP:=eP.nil.add 2 agR
theorem afN:jh E api alL air (bl Tryz.f302 0):=lk IL aby (λX=>X.1.2.1) λX x=>((z1 (u x) X.1),X.2)
theorem amE:dA 302 ajI:=fk alL base Tryz.func302 (Λ:=air) (cF afN nF)
def ajJ:bp:=aU [pd (.sl bM),pI,pI,pd .bool] [rI] (c4 Pu.xq)
def apj:eE:=eE.nil
def alM:An:={mask:=mk [(2,[0,1,2,3,8,9])],merge:=mg [(4,42)]}
abbrev IM:SD:=⟨.data false (.sl .arg bM)::DI::DI::DB::bs 4 (DI::DI::bs 38 []),zs 48 [],.none⟩
def abz (X:SD.D IM)(K:iR R):=Pu.sE (λy0=>ke 0 K IM ((z5 (u y0) X.1),X.2)) (λy0 y1=>kr K IM ((z4 (w y0 (u y1)) X.1),X.2)) X.1.1 X.1.2.1 (q2 X) (q3 X) (q4 X)
def agS:dI:=jO IM abz q5
def ais:eP:=eP.nil.add 2 agS
theorem afO:jh E apj alM ais (bl Tryz.f303 0):=lk IM abz q5 λX x=>((z5 (u x) X.1),X.2)
theorem arc:dA 303 ajJ:=fk alM base Tryz.func303 (Λ:=ais) (cF afO nF)
def aeG:bp:=aU [pf (.sl .str),pI,pI] [rB] (c3 Pu.nu)
theorem amF:dA 304 aeG:=f0 {merge:=mg [(2,6)]} (base.add amE) Tryz.func304
def ajE:bp:=aU [pd (.sl bM),pf (.sl .str),pI,pI,pI,pd .bool] [(false,(.sl (.own none) (.int .i64))),(false,(.sl (.own none) (.int .i64))),rB] (c6 Pu.vK)
def apg:eE:=((((eE.nil.add 181 NQ).add 301 ajH).add 302 ajI).add 303 ajJ).add 304 aeG
def alJ:An:={mask:=mk [(5,[0,2,3,4,5,7,12,13,14,15,16])],merge:=mg [(3,34),(10,57)],mv:=[35,36,64,71,81,82]}
abbrev IJ:SD:=⟨.data false (.sl .arg bM)::B::DI::DI::DI::DB::B::.ptr 7 0::bs 4 (.data false (dv 147456 (.int .i64))::.data false (dv 159744 (.int .i64))::DB::.data false (dv 184320 (.int .i64))::.data false (dv 196608 (.int .i64))::bs 66 []),zs 7 ((rj (.sl .arg .str))::zs 75 []),.none⟩
def abv (X:SD.D IJ)(K:iR R):=Pu.kC (λy0 y1 y2 y3=>ke 0 K IJ ((z2 (w y0 (w y1 (z4 (w y2 (u y3))))) X.1),X.2)) (λy0 y1 y2 y3 y4 y5 y6=>kr K IJ ((z2 (w y0 (w y1 (z1 (w y2 (w y3 (w y4 (w y5 (u y6)))))))) X.1),X.2)) X.1.1 X.1.2.1 (q4 X) (q5 X) (q6 X) (q7 X) X.2.1.1
def agO:dI:=jO IJ abv (λX=>(q2 X,q3 X,q8 X,q9 X))
def aip:eP:=eP.nil.add 5 agO
theorem afK:jh E apg alJ aip (bl Tryz.f293 0):=lk IJ abv (λX=>(q2 X,q3 X,q8 X,q9 X)) λX x=>((z2 (w x.1 (w x.2.1 (z4 (w x.2.2.1 (u x.2.2.2))))) X.1),X.2)
theorem aq5:dA 293 ajE:=fk alJ (((((base.add yX).add arb).add amE).add arc).add amF) Tryz.func293 (Λ:=aip) (cF afK nF)
def ajF:bp:=aU [pf (.sl .str),pI,pd .str] [(true,(.sl (.own none) .str)),rB] (c3 Pu.qT)
def aph:eE:=((eE.nil.add 62 e62).add 276 abZ).add 304 aeG
def alK:An:={mask:=mk [(4,[1,2,6,8])],mv:=[19,52]}
abbrev NL:SD:=⟨B::DI::.data false .str::B::B::B::.ptr 6 0::B::.ptr 8 0::bs 44 [],zs 6 ((rj (dv 73729 .str))::Z::(rj (dv 98305 .str))::zs 44 []),.none⟩
def abw (X:SD.D NL)(K:iR R):=Pu.mI (λy0 y1 y2=>ke 0 K NL ((w y0 (u y1) X.1),(z1 (u y2) X.2.1),X.2.2)) X.2.1.1
def agP:dI:=jO NL abw (λX=>(X.1.1,X.1.2.1,X.2.1.2.1))
def aiq:eP:=eP.nil.add 4 agP
theorem afL:jh E aph alK aiq (bl Tryz.f294 0):=lk NL abw (λX=>(X.1.1,X.1.2.1,X.2.1.2.1)) λX x=>((w x.1 (u x.2.1) X.1),(z1 (u x.2.2) X.2.1),X.2.2)
theorem aq6:dA 294 ajF:=fk alK (((base.add o62).add acU).add amF) Tryz.func294 (Λ:=aiq) (cF afL nF)
def aju:bp:=aU [pd (.sl bM),pf (.sl .str),pI,pI,pd .str] [(true,(.sl (.own none) .str)),rB] (c5 Pu.rO)
def apd:eE:=((eE.nil.add 276 abZ).add 293 ajE).add 294 ajF
def alG:An:={mask:=mk [(6,[4,10,12,13,15,16])],mv:=[32,39,52,60],sb:=mg [(15,15)]}
abbrev NG:SD:=⟨bs 4 (.data false .str::bs 5 (.ptr 10 0::B::.data false (.sl .loc (.int .i64))::.data false (.sl .loc (.int .i64))::B::.ptr 15 0::DI::bs 44 [])),zs 10 ((rj (dv 122881 .str))::zs 4 ((rj (dv 184321 .str))::zs 45 [])),.none⟩
def abp (X:SD.D NG)(K:iR R):=Pu.nm (λy0 y1 y2=>ke 0 K NG ((w y0 (z2 (u y1)) X.1),(z1 (u y2) X.2.1),X.2.2)) X.1.2.1 (q2 X) X.2.1.1
def agJ:dI:=jO NG abp (λX=>(X.1.1,q3 X,X.2.1.2.1))
def aim:eP:=eP.nil.add 6 agJ
theorem afF:jh E apd alG aim (bl Tryz.f275 0):=lk NG abp (λX=>(X.1.1,q3 X,X.2.1.2.1)) λX x=>((w x.1 (z2 (u x.2.1)) X.1),(z1 (u x.2.2) X.2.1),X.2.2)
theorem amz:dA 275 aju:=fk alG (((base.add acU).add aq5).add aq6) Tryz.func275 (Λ:=aim) (cF afF nF)
def an0:bp:=aU [pd (.sl bM),pf (.sl .str),pI,pI,pd .str] [(true,(.sl (.own none) .str)),rB] (c5 Pu.tZ)
def ao5:eE:=eE.nil.add 275 aju
def aly:An:={mask:=mk [(3,[0,2,3,4,6,10,12,13])],mv:=[27]}
abbrev Nw:SD:=⟨.data false (.sl .arg bM)::B::DI::DI::.data false .str::B::.ptr 6 0::B::B::B::.ptr 10 0::B::.data false (dv 147456 bM)::DI::bs 25 [],zs 6 ((rj (.sl .arg .str))::Z::Z::Z::(rj (dv 122881 .str))::zs 28 []),.none⟩
def abh (X:SD.D Nw)(K:iR R):=Pu.pB (λy0 y1=>ke 0 K Nw ((z4 (w y0 (u y1)) X.1),X.2)) X.1.1 X.1.2.1 (q2 X) (q3 X) X.2.1.1 X.2.1.2.1
def agB:dI:=jO Nw abh (λX=>(q4 X,q5 X))
def aid:eP:=eP.nil.add 3 agB
theorem afx:jh E ao5 aly aid (bl Tryz.f244 0):=lk Nw abh (λX=>(q4 X,q5 X)) λX x=>((z4 (w x.1 (u x.2)) X.1),X.2)
theorem aqB:dA 244 an0:=fk aly (base.add amz) Tryz.func244 (Λ:=aid) (cF afx nF)
def ajv:bp:=aU [pf jo] [(true,Y8)] (c1 Pu.xr)
theorem aqS:dA 277 ajv:=f0 {sb:=mg [(2,2)]} base Tryz.func277
def aow:bp:=aU [pI] [rB] (c1 Pu.uq)
theorem amC:dA 295 aow:=f0 {merge:=mg [(1,2)]} base Tryz.func295
def aox:bp:=aU [pf rl] [rI] (c1 Pu.rU)
theorem amD:dA 296 aox:=f0 {} (base.add amC) Tryz.func296
def ajw:bp:=aU [pf rl] [rB] (c1 Pu.sY)
theorem ahn:dA 278 ajw:=f0 {merge:=mg [(1,2)]} (((base.add yX).add amC).add amD) Tryz.func278
def ajx:bp:=aU [pf rl] [rI] (c1 Pu.rT)
theorem amA:dA 279 ajx:=f0 {} ((base.add ahn).add amD) Tryz.func279
def aoy:bp:=aU [pf rl,pI] [rI] (c2 Pu.qO)
theorem aq7:dA 297 aoy:=f0 {merge:=mg [(1,11)]} (base.add ahn) Tryz.func297
def ajy:bp:=aU [pd (.sl bM),pf (.sl .str),pI,pf rl,pd .str] [(true,(.sl (.own none) .str)),(true,Y1),rB] (c5 Pu.xh)
theorem aqT:dA 280 ajy:=f0 {merge:=mg [(1,22)],mv:=[26,36,51],mb:=mg [(51,13)],sb:=mg [(10,10),(11,11),(13,13)]} ((((base.add amz).add acU).add amA).add aq7) Tryz.func280
def aoz:bp:=aU [pf mK] [rB] (c1 Pu.yL)
theorem aq8:dA 298 aoz:=f0 {merge:=mg [(1,2)]} (base.add yX) Tryz.func298
def ajz:bp:=aU [pf mK] [rS] (c1 Pu.su)
theorem aqU:dA 281 ajz:=f0 {} (((base.add Xq).add ZU).add aq8) Tryz.func281
def ajA:bp:=aU [pf jo,pI] [rI] (c2 Pu.nZ)
theorem aqV:dA 282 ajA:=f0 {merge:=mg [(1,15)]} ((base.add yX).add ahm) Tryz.func282
def an1:bp:=aU [pd (.sl bM),pf (.sl .str),pI,pf rl,pf jo] [(true,(.sl (.own none) .str)),(true,Y1),(true,Y8),rI] (c5 Pu.vC)
def ao6:eE:=(((((((eE.nil.add 274 aeE).add 276 abZ).add 277 ajv).add 278 ajw).add 279 ajx).add 280 ajy).add 281 ajz).add 282 ajA
def alz:An:={mask:=mk [(6,[0,2,8,9,10,11,12,14,15,16])],merge:=mg [(4,32),(6,44)],mv:=[33,35,49,63,68,78,80],mb:=mg [(33,14),(35,15),(78,14),(80,15)],sb:=mg [(10,10),(11,11),(12,12),(18,18),(19,19)]}
abbrev Nx:SD:=⟨.data false (.sl .arg bM)::B::DI::bs 5 (.ptr 8 0::.ptr 9 0::.ptr 10 0::.ptr 11 0::.ptr 12 0::B::.ptr 14 0::.ptr 15 0::DI::bs 65 []),zs 8 ((some Y1)::(some Y14)::(rj (dv 122881 .str))::(some Y1)::(some Y27)::Z::(rj (dv 172033 .str))::(some Y26)::zs 66 []),.none⟩
def abi (X:SD.D Nx)(K:iR R):=Pu.nn (λy0 y1 y2 y3=>ke 0 K Nx ((z2 (u y0) X.1),(w y1 (z4 (w y2 (u y3))) X.2.1),X.2.2)) X.1.1 X.1.2.1 X.2.1.2.1 X.2.1.2.2.1 X.2.1.2.2.2.1 X.2.1.2.2.2.2.1
def agC:dI:=jO Nx abi (λX=>(q2 X,X.2.1.1,X.2.1.2.2.2.2.2.1,X.2.1.2.2.2.2.2.2.1))
def aie:eP:=eP.nil.add 6 agC
theorem afy:jh E ao6 alz aie (bl Tryz.f245 0):=lk Nx abi (λX=>(q2 X,X.2.1.1,X.2.1.2.2.2.2.2.1,X.2.1.2.2.2.2.2.2.1)) λX x=>((z2 (u x.1) X.1),(w x.2.1 (z4 (w x.2.2.1 (u x.2.2.2))) X.2.1),X.2.2)
theorem aqC:dA 245 an1:=fk alz ((((((((base.add ahm).add acU).add aqS).add ahn).add amA).add aqT).add aqU).add aqV) Tryz.func245 (Λ:=aie) (cF afy nF)
def ajc:bp:=jv (.pair (.sl (.own none) .str) (.pair (.sl (.own none) bM) (.pair (.pair (.pair (.int .i64) (.pair (.int .i64) (.pair (.int .i64) (.int .i64)))) (.pair (.pair (.int .i64) (.pair (.int .i64) (.pair (.int .i64) (.sl (.own none) (.int .i64))))) (.pair (.sl (.own none) jq) (.int .i64)))) (.pair (.sl (.own none) ef) (.pair (.sl (.own none) jo) (.pair (.sl (.own none) gr) (.pair (.sl (.own none) .bool) (.pair (.pair (.int .i64) (.pair .bool (.sl (.own none) (.int .i64)))) (.pair (.pair (.sl (.own none) jC) (.pair (.sl (.own none) gZ) (.pair .str (.sl (.own none) (.int .i64))))) (.pair (.sl (.own none) eG) (.pair .bool (.pair (.sl (.own none) .str) (.pair (.sl (.own none) (.int .i64)) (.pair (.sl (.own none) (.int .i64)) (.pair (.int .i64) (.pair (.int .i64) (.pair (.int .i64) (.pair (.int .i64) (.int .i64))))))))))))))))))) [pI] [] λx a=>Pu.uu x a.1
theorem ap3:dA 188 ajc:=im.pA (pa (an:={mv:=[47,51,65,67,84],mb:=mg [(84,6)],sb:=mg [(6,6),(50,0),(70,0),(71,5)]}) (Λ:=eP.nil) ((((base.add acM).add amq).add aqB).add aqC) Tryz.func188 (by kernel_rfl) (ao nF)) (λx a=>by kernel_rfl)
def aiJ:bp:=aU [pI,pf wQ,pf qj,pd .bool,pI,pI] [(true,Y0),rB] (c6 Pu.ua)
def ajO:eE:=((((((((eE.nil.add 180 ai5).add 181 NQ).add 182 ai6).add 183 ai7).add 184 ai8).add 185 ai9).add 186 aja).add 187 ajb).add 188 ajc
def agY:An:={mask:=mk [(6,[0,12,14,16,17]),(10,[0,12,14,16,18])],merge:=mg [(2,42)],mv:=[57,74,80,86,92,98],mb:=mg [(57,16)],sb:=mg [(16,16),(67,16)]}
abbrev M8:SD:=⟨DI::bs 11 (.ptr 12 0::B::.ptr 14 0::B::.ptr 16 0::DI::bs 81 []),zs 12 ((some Y11)::Z::(some Y13)::Z::(some Y10)::zs 82 []),.none⟩
def aaF (X:SD.D M8)(K:iR R):=Pu.wE (λy0 y1=>ke 0 K M8 ((z1 (u y0) X.1),(z2 (u y1) X.2.1),X.2.2)) X.1.1 X.2.1.1 X.2.1.2.1
def afY:dI:=jO M8 aaF (λX=>(X.1.2.1,X.2.1.2.2.1))
abbrev HK:SD:=⟨DI::bs 11 (.ptr 12 0::B::.ptr 14 0::B::.ptr 16 0::B::DI::bs 80 []),zs 12 ((some Y11)::Z::(some Y13)::Z::(some Y10)::zs 82 []),.none⟩
def VK (X:SD.D HK)(K:iR R):=Pu.uP (λy0 y1=>ke 2 K HK ((z1 (u y0) X.1),(z2 (u y1) X.2.1),X.2.2)) X.1.1 X.2.1.1 X.2.1.2.1
def acz:dI:=jO HK VK (λX=>(X.1.2.1,X.2.1.2.2.1))
def aed:eP:=(eP.nil.add 6 afY).add 10 acz
theorem aeV:jh E ajO agY aed (bl Tryz.f121 0):=lk M8 aaF (λX=>(X.1.2.1,X.2.1.2.2.1)) λX x=>((z1 (u x.1) X.1),(z2 (u x.2) X.2.1),X.2.2)
theorem acr:jh E ajO agY aed (bl Tryz.f121 1):=lk HK VK (λX=>(X.1.2.1,X.2.1.2.2.1)) λX x=>((z1 (u x.1) X.1),(z2 (u x.2) X.2.1),X.2.2)
theorem apt:dA 121 aiJ:=fk agY (((((((((base.add apW).add yX).add apX).add apY).add apZ).add ap0).add ap1).add ap2).add ap3) Tryz.func121 (Λ:=aed) (cF aeV (cF acr nF))
def aiK:bp:=jv (.pair (.sl .arg0 (.int .u8)) (.pair (.int .i64) (.int .i64))) [] [(true,Y23)] λx a=>Pu.ur x
theorem apu:dA 122 aiK:=im.pA (pa (an:={mv:=[11]}) (Λ:=eP.nil) (base.add o61) Tryz.func122 (by kernel_rfl) (ao nF)) (λx a=>by kernel_rfl)
def e67:bp:=jv (.pair (.sl .arg0 (.int .u8)) (.pair (.int .i64) (.int .i64))) [] [(true,Y0)] λx a=>Pu.xv x
def g67:eE:=(((((eE.nil.add 63 e63).add 120 aiI).add 121 aiJ).add 122 aiK).add 123 aeu).add 124 aev
def n67:An:={mask:=mk [(2,[0,2,3]),(6,[0,2,3,4,5,6])],mv:=[15,32,46,49,50,60],sb:=mg [(7,7),(34,0),(37,0),(40,0),(43,0)]}
abbrev US:SD:=⟨.ptr 0 0::B::.ptr 2 0::DI::.ptr 4 0::DI::DI::bs 54 [],(some Y7)::Z::(some Y2)::Z::(some Y16)::zs 56 [],.ptr⟩
def ad4 (X:SD.D US)(K:iR R):=Pu.wJ (λy0 y1=>ke 2 K US ((z2 (u y0) X.1),(z2 (u y1) X.2.1),X.2.2)) X.1.1 X.1.2.1 X.2.1.1 X.2.1.2.1
def akQ:dI:=jO US ad4 (λX=>(q2 X,X.2.1.2.2.1))
abbrev Py:SD:=⟨.ptr 0 0::B::.ptr 2 0::DI::bs 57 [],(some Y7)::Z::(some Y2)::zs 58 [],.ptr⟩
def ad3 (X:SD.D Py)(K:iR R):=Pu.wI (λy0 y1=>ke 0 K Py ((u y0 X.1),(u y1 X.2.1),X.2.2)) (λy0 y1 y2=>kr K Py ((u y0 X.1),(w y1 (u y2) X.2.1),X.2.2)) X.2.1.2.1
def akP:dI:=jO Py ad3 (λX=>(X.1.1,X.2.1.1))
def L67:eP:=(eP.nil.add 6 akQ).add 2 akP
theorem akm:jh E g67 n67 L67 (bl Tryz.f67 1):=lk US ad4 (λX=>(q2 X,X.2.1.2.2.1)) λX x=>((z2 (u x.1) X.1),(z2 (u x.2) X.2.1),X.2.2)
theorem akl:jh E g67 n67 L67 (bl Tryz.f67 0):=lk Py ad3 (λX=>(X.1.1,X.2.1.1)) λX x=>((u x.1 X.1),(u x.2 X.2.1),X.2.2)
theorem o67:dA 67 e67:=im.pA (pa (Γ:=g67) (an:=n67) (Λ:=L67) ((((((base.add Xr).add aps).add apt).add apu).add alY).add acM) Tryz.func67 (by kernel_rfl) (ao (cF akl (cF akm nF)))) (λx a=>by kernel_rfl)
def amW:bp:=aU [pd .str] [rS,rB] (c1 Pu.vB)
theorem apv:dA 125 amW:=f0 {merge:=mg [(1,16)]} (base.add alW) Tryz.func125
def an2:bp:=aU [pd .str,pI] [rI] (c2 Pu.ij)
theorem acS:dA 246 an2:=f0 {} (base.add ahb) Tryz.func246
def an3:bp:=aU [pd .str,pI] [rI] (c2 Pu.oa)
theorem ahj:dA 247 an3:=f0 {} ((base.add ahb).add acS) Tryz.func247
def anp:bp:=aU [pd .str] [(true,Y15),rB] (c1 Pu.vF)
theorem ap4:dA 189 anp:=f0 {sb:=mg [(4,4)]} (((base.add aml).add acS).add ahj) Tryz.func189
def anq:bp:=aU [pd .str] [(true,Y21),rB] (c1 Pu.xf)
theorem ap5:dA 190 anq:=f0 {merge:=mg [(2,22),(6,56)],sb:=mg [(5,5)]} (((base.add amc).add acS).add ahj) Tryz.func190
def anr:bp:=aU [pI,pI,pI,pd .str] [(true,(.pair (.int .i64) Y21)),rB] (c4 Pu.pD)
theorem ap6:dA 191 anr:=f0 {merge:=mg [(3,20),(9,44),(12,68)]} (((base.add amb).add acS).add ahj) Tryz.func191
def amX:bp:=aU [pd .str] [(true,Y3),rI] (c1 Pu.uf)
theorem apw:dA 126 amX:=f0 {merge:=mg [(2,20)]} ((((base.add ahg).add ap4).add ap5).add ap6) Tryz.func126
def e68:bp:=aU [pd .str] [(true,Y3),rI] (c1 Pu.ue)
theorem o68:dA 68 e68:=f0 {} (((base.add alV).add apv).add apw) Tryz.func68
def aiL:bp:=aU [pf df] [(true,(.pair (.int .i64) Y1))] (c1 Pu.B6)
theorem apx:dA 127 aiL:=f0 {} base Tryz.func127
def aiM:bp:=aU [pd (.sl eG),pf oZ] [rI] (c2 Pu.qQ)
def aoG:eE:=eE.nil
def ak4:An:={mask:=mk [(2,[0,3,4,5])]}
abbrev Ir:SD:=⟨.data false (.sl .arg eG)::B::B::.ptr 3 0::DI::DI::bs 14 [],Z::Z::Z::(rj (cX zk Y1))::zs 16 [],.none⟩
def aaH (X:SD.D Ir)(K:iR R):=Pu.mH (λy0=>ke 0 K Ir ((z2 (u y0) X.1),X.2)) (λy0 y1=>kr K Ir ((z1 (w y0 (u y1)) X.1),X.2)) X.1.1 X.1.2.1 X.2.1.1
def af0:dI:=jO Ir aaH q2
def ahL:eP:=eP.nil.add 2 af0
theorem aeX:jh E aoG ak4 ahL (bl Tryz.f128 0):=lk Ir aaH q2 λX x=>((z2 (u x) X.1),X.2)
theorem apy:dA 128 aiM:=fk ak4 base Tryz.func128 (Λ:=ahL) (cF aeX nF)
def e69:bp:=jv (.pair (.sl .arg0 (.int .u8)) (.pair (.int .i64) (.int .i64))) [pd (.sl df)] [(false,(.sl (.own none) eG))] λx a=>Pu.xk x a.1
def g69:eE:=(((eE.nil.add 61 e61).add 66 e66).add 127 aiL).add 128 aiM
def n69:An:={mask:=mk [(3,[0,1,5,6])],mv:=[45,52],sb:=mg [(41,0)]}
abbrev UT:SD:=⟨.ptr 0 0::.data false (.sl .arg df)::B::B::B::.data false (dv 61440 eG)::DI::bs 46 [],(some Y7)::zs 52 [],.ptr⟩
def ad5 (X:SD.D UT)(K:iR R):=Pu.wH (λy0 y1 y2=>ke 0 K UT ((z1 (w y0 (u y1)) X.1),(u y2 X.2.1),X.2.2)) X.1.1
def akR:dI:=jO UT ad5 (λX=>(X.1.2.1,q2 X,X.2.1.1))
def L69:eP:=eP.nil.add 3 akR
theorem akn:jh E g69 n69 L69 (bl Tryz.f69 0):=lk UT ad5 (λX=>(X.1.2.1,q2 X,X.2.1.1)) λX x=>((z1 (w x.1 (u x.2.1)) X.1),(u x.2.2 X.2.1),X.2.2)
theorem o69:dA 69 e69:=im.pA (pa (Γ:=g69) (an:=n69) (Λ:=L69) ((((base.add o61).add o66).add apx).add apy) Tryz.func69 (by kernel_rfl) (ao (cF akn nF))) (λx a=>by kernel_rfl)
def e26:bp:=jv (.pair (.sl .arg0 (.int .u8)) (.pair (.int .i64) (.int .i64))) [pd (.sl zn)] [(true,Y0)] λx a=>Pu.vM x a.1
def g26:eE:=((eE.nil.add 67 e67).add 68 e68).add 69 e69
def n26:An:={mask:=mk [(4,[0,1,4,5,6,7])],mv:=[30,38]}
abbrev UJ:SD:=⟨.ptr 0 0::.data false (.sl .arg zn)::B::B::.ptr 4 0::.ptr 5 0::.data false (dv 73728 df)::DI::bs 31 [],(some Y7)::Z::Z::Z::(some Y6)::(rj (cX (dv 61441 .str) (cX (dv 61444 bM) (cX (cX Y1 (cX (jK (jK (jK (dv 61468 (.int .i64))))) (cX (dv 61471 jq) zk))) (cX (dv 61477 ef) (cX (dv 61480 jo) (cX (dv 61483 gr) (cX (dv 61486 .bool) (cX (jK (cX .bool (dv 61495 (.int .i64)))) (cX (cX (dv 61498 jC) (cX (dv 61501 gZ) (cX .str (dv 61507 (.int .i64))))) (cX (dv 61510 eG) (cX .bool (cX (dv 61516 .str) (cX (dv 61519 (.int .i64)) (cX (dv 61522 (.int .i64)) (cX zk Y1))))))))))))))))::zs 33 [],.ptr⟩
def adM (X:SD.D UJ)(K:iR R):=Pu.uS (λy0 y1=>ke 0 K UJ ((z1 (w y0 (u y1)) X.1),X.2)) X.1.1 X.2.1.1 X.2.1.2.1 X.2.1.2.2.1
def aky:dI:=jO UJ adM (λX=>(X.1.2.1,q2 X))
def L26:eP:=eP.nil.add 4 aky
theorem aj4:jh E g26 n26 L26 (bl Tryz.f26 0):=lk UJ adM (λX=>(X.1.2.1,q2 X)) λX x=>((z1 (w x.1 (u x.2)) X.1),X.2)
theorem o26:dA 26 e26:=im.pA (pa (Γ:=g26) (an:=n26) (Λ:=L26) (((base.add o67).add o68).add o69) Tryz.func26 (by kernel_rfl) (ao (cF aj4 nF))) (λx a=>by kernel_rfl)
def e8:bp:=aU [pd (.sl (.int .u8))] [(true,Y0),(false,(.sl (.own none) zn))] (c1 Pu.qL)
theorem o8:dA 8 e8:=f0 {mv:=[13]} (((base.add o24).add o25).add o26) Tryz.func8
def e9:bp:=aU [pd (.sl (.int .u8)),pI] [rI] (c2 Pu.CA)
theorem o9:dA 9 e9:=f0 {} base Tryz.func9
def e40:bp:=aU [pf (.sl .str)] [rB] (c1 Pu.rC)
def g40:eE:=eE.nil
def n40:An:={mask:=mk [(2,[1,2,6,7,8])]}
abbrev Pq:SD:=⟨B::.ptr 1 0::DB::B::B::B::.data false (.sl .arg .str)::DI::DI::bs 11 [],Z::(rj (.sl .arg .str))::zs 18 [],.none⟩
def adR (X:SD.D Pq)(K:iR R):=Pu.zE (λy0=>ke 0 K Pq ((z3 (u y0) X.1),X.2)) (λy0 y1=>kr K Pq ((w y0 (z2 (u y1)) X.1),X.2)) X.1.1 X.1.2.1 (q2 X) X.2.1.1
def akD:dI:=jO Pq adR q3
def L40:eP:=eP.nil.add 2 akD
theorem aj9:jh E g40 n40 L40 (bl Tryz.f40 0):=lk Pq adR q3 λX x=>((z3 (u x) X.1),X.2)
theorem o40:dA 40 e40:=fk n40 base Tryz.func40 (Λ:=L40) (cF aj9 nF)
def e30:bp:=aU [pd (.sl bM),pI,pI] [rI] (c3 Pu.mW)
def g30:eE:=eE.nil
def n30:An:={mask:=mk [(2,[1,2,6,9,10,11])],merge:=mg [(4,25)]}
abbrev Pp:SD:=⟨B::DI::DI::B::B::B::DI::B::B::.data false (.sl .arg bM)::DI::DI::bs 16 [],zs 28 [],.none⟩
def adO (X:SD.D Pp)(K:iR R):=Pu.mC (λy0=>ke 0 K Pp ((z5 (u y0) X.1),X.2)) (λy0 y1=>kr K Pp ((z2 (w y0 (z2 (u y1))) X.1),X.2)) X.1.1 X.1.2.1 (q2 X) (q3 X) (q4 X)
def akA:dI:=jO Pp adO q5
def L30:eP:=eP.nil.add 2 akA
theorem aj6:jh E g30 n30 L30 (bl Tryz.f30 0):=lk Pp adO q5 λX x=>((z5 (u x) X.1),X.2)
theorem o30:dA 30 e30:=fk n30 base Tryz.func30 (Λ:=L30) (cF aj6 nF)
def OY:bp:=aU [pI,pI,pI] [rB] (c3 Pu.aE)
theorem Bk:dA 44 OY:=f0 {merge:=mg [(1,6)]} base Tryz.func44
def e41:bp:=aU [pd (.sl bM)] [rB] (c1 Pu.ot)
def g41:eE:=(eE.nil.add 30 e30).add 44 OY
def n41:An:={mask:=mk [(2,[0,2,5,6,7])],merge:=mg [(4,37)]}
abbrev Pr:SD:=⟨.data false (.sl .arg bM)::B::DB::B::B::.data false (.sl .arg bM)::DI::DI::bs 34 [],zs 42 [],.none⟩
def adS (X:SD.D Pr)(K:iR R):=Pu.nL (λy0=>ke 0 K Pr ((z4 (u y0) X.1),X.2)) (λy0 y1=>kr K Pr ((z1 (w y0 (z2 (u y1))) X.1),X.2)) X.1.1 X.1.2.1 (q2 X) (q3 X)
def akE:dI:=jO Pr adS q4
def L41:eP:=eP.nil.add 2 akE
theorem aka:jh E g41 n41 L41 (bl Tryz.f41 0):=lk Pr adS q4 λX x=>((z4 (u x) X.1),X.2)
theorem o41:dA 41 e41:=fk n41 ((base.add o30).add Bk) Tryz.func41 (Λ:=L41) (cF aka nF)
def e46:bp:=aU [pf jo] [rB] (c1 Pu.iV)
def g46:eE:=eE.nil.add 44 OY
def n46:An:={mask:=mk [(5,[1,2,3,26,27,28])],merge:=mg [(1,21),(7,43)]}
abbrev Pv:SD:=⟨B::.ptr 1 0::DB::.data false (dv 36864 .bool)::bs 22 (.data false (.sl .arg (.int .i64))::DI::DI::bs 19 []),Z::(some Y14)::zs 46 [],.none⟩
def adV (X:SD.D Pv)(K:iR R):=Pu.tD (λy0 y1=>ke 0 K Pv ((z1 (w y0 (z2 (u y1))) X.1),X.2)) (λy0 y1 y2=>kr K Pv ((w y0 (w y1 (z2 (u y2))) X.1),X.2)) X.1.1 (q2 X) (q3 X) X.2.1.1
def akH:dI:=jO Pv adV (λX=>(X.1.2.1,q4 X))
def L46:eP:=eP.nil.add 5 akH
theorem akd:jh E g46 n46 L46 (bl Tryz.f46 0):=lk Pv adV (λX=>(X.1.2.1,q4 X)) λX x=>((z1 (w x.1 (z2 (u x.2))) X.1),X.2)
theorem o46:dA 46 e46:=fk n46 (base.add Bk) Tryz.func46 (Λ:=L46) (cF akd nF)
def am5:bp:=aU [pI] [rB] (c1 Pu.rJ)
theorem ahd:dA 146 am5:=f0 {merge:=mg [(1,2)]} base Tryz.func146
def aey:bp:=aU [pI,pI] [rI] (c2 Pu.iW)
theorem acP:dA 162 aey:=f0 {} base Tryz.func162
def aiR:bp:=aU [pf rl] [rI] (c1 Pu.jl)
theorem ZT:dA 147 aiR:=f0 {} ((base.add ahd).add acP) Tryz.func147
def e94:bp:=aU [pf rl] [rB] (c1 Pu.jz)
theorem o94:dA 94 e94:=f0 {merge:=mg [(1,2)]} (((base.add Bk).add ahd).add ZT) Tryz.func94
def e39:bp:=aU [pd (.sl (.int .i64))] [(false,(.sl (.own none) (.int .i64)))] (c1 Pu.gw)
theorem o39:dA 39 e39:=f0 {} base Tryz.func39
def e72:bp:=aU [pf jo] [(true,Y8)] (c1 Pu.iA)
theorem o72:dA 72 e72:=f0 {mv:=[7]} (base.add o39) Tryz.func72
def e98:bp:=aU [pf jo,pd (.sl (.int .i64))] [(true,Y8),rB] (c2 Pu.gv)
theorem o98:dA 98 e98:=f0 {merge:=mg [(3,21)],mv:=[10,24]} ((base.add o46).add o72) Tryz.func98
def e42:bp:=aU [pf lj] [rB] (c1 Pu.xH)
def g42:eE:=(((eE.nil.add 44 OY).add 46 e46).add 94 e94).add 98 e98
def n42:An:={mask:=mk [(6,[1,2,3,4,30,31,32])],merge:=mg [(1,24),(8,50)],mv:=[55]}
abbrev Ps:SD:=⟨B::.ptr 1 0::DB::DI::.data false (dv 49152 (.int .i64))::bs 25 (.data false (.sl .arg jq)::DI::DI::bs 35 []),Z::(some Y24)::zs 66 [],.none⟩
def adT (X:SD.D Ps)(K:iR R):=Pu.tH (λy0 y1 y2=>ke 0 K Ps ((z1 (w y0 (w y1 (z2 (u y2)))) X.1),X.2)) (λy0 y1 y2 y3=>kr K Ps ((w y0 (w y1 (w y2 (z2 (u y3)))) X.1),X.2)) X.1.1 (q3 X) (q4 X) X.2.1.1
def akF:dI:=jO Ps adT (λX=>(X.1.2.1,q2 X,q5 X))
def L42:eP:=eP.nil.add 6 akF
theorem akb:jh E g42 n42 L42 (bl Tryz.f42 0):=lk Ps adT (λX=>(X.1.2.1,q2 X,q5 X)) λX x=>((z1 (w x.1 (w x.2.1 (z2 (u x.2.2)))) X.1),X.2)
theorem o42:dA 42 e42:=fk n42 ((((base.add Bk).add o46).add o94).add o98) Tryz.func42 (Λ:=L42) (cF akb nF)
def e43:bp:=aU [pf wQ] [rB] (c1 Pu.ry)
def g43:eE:=eE.nil.add 44 OY
def n43:An:={mask:=mk [(2,[1,2,6,7,8])],merge:=mg [(4,29),(7,2)]}
abbrev Pt:SD:=⟨B::.ptr 1 0::DB::B::B::B::.data false (.sl .arg (.int .i64))::DI::DI::bs 31 [],Z::(some Y25)::zs 38 [],.none⟩
def adU (X:SD.D Pt)(K:iR R):=Pu.qs (λy0=>ke 0 K Pt ((z3 (u y0) X.1),X.2)) (λy0 y1=>kr K Pt ((w y0 (z2 (u y1)) X.1),X.2)) X.1.1 X.1.2.1 (q2 X) X.2.1.1
def akG:dI:=jO Pt adU q3
def L43:eP:=eP.nil.add 2 akG
theorem akc:jh E g43 n43 L43 (bl Tryz.f43 0):=lk Pt adU q3 λX x=>((z3 (u x) X.1),X.2)
theorem o43:dA 43 e43:=fk n43 (base.add Bk) Tryz.func43 (Λ:=L43) (cF akc nF)
def e99:bp:=aU [pf gO] [rB] (c1 Pu.nO)
theorem o99:dA 99 e99:=f0 {merge:=mg [(1,2)]} ((base.add Bk).add ahd) Tryz.func99
def ana:bp:=aU [pf xL] [rB] (c1 Pu.pR)
theorem al4:dA 154 ana:=f0 {merge:=mg [(1,18),(5,2),(7,2)]} (base.add Bk) Tryz.func154
def anb:bp:=aU [pI] [rB] (c1 Pu.pV)
theorem al5:dA 155 anb:=f0 {merge:=mg [(1,2)]} base Tryz.func155
def aes:bp:=aU [pf df] [rB] (c1 Pu.gS)
theorem K8:dA 100 aes:=f0 {merge:=mg [(1,2)]} (((base.add Bk).add al4).add al5) Tryz.func100
def e45:bp:=aU [pf ef] [rB] (c1 Pu.sS)
theorem o45:dA 45 e45:=f0 {merge:=mg [(1,42),(5,2)]} ((((base.add Bk).add o94).add o99).add K8) Tryz.func45
def amN:bp:=aU [pf gr] [rB] (c1 Pu.zG)
theorem alO:dA 101 amN:=f0 {merge:=mg [(1,2)]} base Tryz.func101
def e47:bp:=aU [pf gr] [rB] (c1 Pu.lY)
theorem o47:dA 47 e47:=f0 {merge:=mg [(1,24),(3,2)]} ((base.add Bk).add alO) Tryz.func47
def aiU:bp:=aU [pf jC] [rB] (c1 Pu.yD)
theorem al6:dA 156 aiU:=f0 {merge:=mg [(1,33),(3,54),(5,2)]} (base.add Bk) Tryz.func156
def aet:bp:=aU [pd (.sl jC)] [rB] (c1 Pu.xa)
def aoB:eE:=eE.nil.add 156 aiU
def akY:An:={mask:=mk [(2,[0,2,5,6,7])]}
abbrev Im:SD:=⟨.data false (.sl .arg jC)::B::DB::B::B::.data false (.sl .arg jC)::DI::DI::bs 10 [],zs 18 [],.none⟩
def aay (X:SD.D Im)(K:iR R):=Pu.Be (λy0=>ke 0 K Im ((z4 (u y0) X.1),X.2)) (λy0 y1=>kr K Im ((z1 (w y0 (z2 (u y1))) X.1),X.2)) X.1.1 X.1.2.1 (q2 X) (q3 X)
def afR:dI:=jO Im aay q4
def ahF:eP:=eP.nil.add 2 afR
theorem aeO:jh E aoB akY ahF (bl Tryz.f102 0):=lk Im aay q4 λX x=>((z4 (u x) X.1),X.2)
theorem alP:dA 102 aet:=fk akY (base.add al6) Tryz.func102 (Λ:=ahF) (cF aeO nF)
def aiV:bp:=aU [pf (.sl gZ),pf oZ] [rI] (c2 Pu.vZ)
def aoM:eE:=eE.nil
def ala:An:={mask:=mk [(2,[3,4,8,9,10])],merge:=mg [(4,23)]}
abbrev It:SD:=⟨B::B::B::.ptr 3 0::DI::B::B::B::.data false (.sl .arg gZ)::DI::DI::bs 15 [],Z::Z::Z::(rj (cX zk Y1))::zs 22 [],.none⟩
def aaO (X:SD.D It)(K:iR R):=Pu.tO (λy0=>ke 0 K It ((z3 (u y0) X.1),X.2)) (λy0 y1=>kr K It ((w y0 (z2 (u y1)) X.1),X.2)) X.1.1 X.1.2.1 (q2 X) X.2.1.1
def af7:dI:=jO It aaO q3
def ahR:eP:=eP.nil.add 2 af7
theorem ae4:jh E aoM ala ahR (bl Tryz.f157 0):=lk It aaO q3 λX x=>((z3 (u x) X.1),X.2)
theorem al7:dA 157 aiV:=fk ala base Tryz.func157 (Λ:=ahR) (cF ae4 nF)
def ajk:bp:=aU [pf oZ] [rI] (c1 Pu.vj)
def aoW:eE:=eE.nil.add 162 aey
def alo:An:={mask:=mk [(3,[3,16,17,18])]}
abbrev Ns:SD:=⟨B::B::B::DI::bs 12 (.data false (dv 196608 (.int .i64))::DI::DI::bs 10 []),zs 29 [],.none⟩
def aa7 (X:SD.D Ns)(K:iR R):=Pu.mS (λy0 y1=>ke 0 K Ns ((w y0 (z2 (u y1)) X.1),X.2)) X.1.2.1 (q2 X)
def agr:dI:=jO Ns aa7 (λX=>(X.1.1,q3 X))
def ah4:eP:=eP.nil.add 3 agr
theorem afn:jh E aoW alo ah4 (bl Tryz.f214 0):=lk Ns aa7 (λX=>(X.1.1,q3 X)) λX x=>((w x.1 (z2 (u x.2)) X.1),X.2)
theorem aqm:dA 214 ajk:=fk alo (base.add acP) Tryz.func214 (Λ:=ah4) (cF afn nF)
def aiW:bp:=aU [pf oZ] [(false,(.sl (.own none) (.int .i64)))] (c1 Pu.Aq)
def aoN:eE:=eE.nil.add 214 ajk
def alb:An:={mask:=mk [(3,[1,3,4])],mv:=[10,18]}
abbrev Ng:SD:=⟨B::.ptr 1 0::B::.data false (dv 36864 (.int .i64))::DI::bs 14 [],Z::(rj (cX zk Y1))::zs 17 [],.none⟩
def aaP (X:SD.D Ng)(K:iR R):=Pu.rK (λy0 y1=>ke 0 K Ng ((w y0 (u y1) X.1),X.2)) X.2.1.1
def af8:dI:=jO Ng aaP (λX=>(X.1.1,X.1.2.1))
def ahS:eP:=eP.nil.add 3 af8
theorem ae5:jh E aoN alb ahS (bl Tryz.f158 0):=lk Ng aaP (λX=>(X.1.1,X.1.2.1)) λX x=>((w x.1 (u x.2) X.1),X.2)
theorem apI:dA 158 aiW:=fk alb (base.add aqm) Tryz.func158 (Λ:=ahS) (cF ae5 nF)
def aiz:bp:=aU [pf (.sl gZ)] [rB] (c1 Pu.qD)
def ajM:eE:=((eE.nil.add 44 OY).add 157 aiV).add 158 aiW
def agW:An:={mask:=mk [(4,[1,2,12,13,14]),(14,[1,2,3,12,13,14,49,50,51])],merge:=mg [(6,28),(9,40)]}
abbrev Ec:SD:=⟨B::.ptr 1 0::DB::DI::bs 8 (.data false (.sl .arg gZ)::DI::DI::bs 34 (.data false (dv 602112 (.int .i64))::DI::DI::bs 15 [])),Z::(rj (.sl .arg gZ))::zs 65 [],.none⟩
def VI (X:SD.D Ec)(K:iR R):=Pu.kz (λy0=>ke 2 K Ec ((z7 (u y0) X.1),X.2)) (λy0 y1=>kr K Ec ((w y0 (z6 (u y1)) X.1),X.2)) X.1.1 X.1.2.1 (q2 X) (q3 X) (q4 X) (q5 X) (q6 X) X.2.1.1
def acx:dI:=jO Ec VI q7
abbrev Io:SD:=⟨B::.ptr 1 0::DB::bs 9 (.data false (.sl .arg gZ)::DI::DI::bs 52 []),Z::(rj (.sl .arg gZ))::zs 65 [],.none⟩
def aaz (X:SD.D Io)(K:iR R):=Pu.si (λy0=>ke 0 K Io ((z3 (u y0) X.1),X.2)) (λy0 y1=>kr K Io ((w y0 (z2 (u y1)) X.1),X.2)) X.1.1 X.1.2.1 (q2 X) X.2.1.1
def afS:dI:=jO Io aaz q3
def aeb:eP:=(eP.nil.add 14 acx).add 4 afS
theorem acp:jh E ajM agW aeb (bl Tryz.f103 1):=lk Ec VI q7 λX x=>((z7 (u x) X.1),X.2)
theorem aeP:jh E ajM agW aeb (bl Tryz.f103 0):=lk Io aaz q3 λX x=>((z3 (u x) X.1),X.2)
theorem alQ:dA 103 aiz:=fk agW (((base.add Bk).add al7).add apI) Tryz.func103 (Λ:=aeb) (cF aeP (cF acp nF))
def aiX:bp:=aU [pI] [rB] (c1 Pu.BL)
theorem apJ:dA 159 aiX:=f0 {merge:=mg [(1,2)]} base Tryz.func159
def aiA:bp:=aU [pf zT,pI] [rB] (c2 Pu.vr)
def aoC:eE:=(eE.nil.add 44 OY).add 159 aiX
def akZ:An:={mask:=mk [(4,[1,4,24,25,26])],merge:=mg [(1,22)]}
abbrev Iq:SD:=⟨B::DI::B::B::DB::bs 19 (.data false (.sl .arg (.int .i64))::DI::DI::bs 9 []),zs 36 [],.none⟩
def aaA (X:SD.D Iq)(K:iR R):=Pu.zF (λy0=>ke 0 K Iq ((z4 (u y0) X.1),X.2)) (λy0 y1=>kr K Iq ((z1 (w y0 (z2 (u y1))) X.1),X.2)) X.1.1 X.1.2.1 (q2 X) (q3 X)
def afT:dI:=jO Iq aaA q4
def ahG:eP:=eP.nil.add 4 afT
theorem aeQ:jh E aoC akZ ahG (bl Tryz.f104 0):=lk Iq aaA q4 λX x=>((z4 (u x) X.1),X.2)
theorem alR:dA 104 aiA:=fk akZ ((base.add Bk).add apJ) Tryz.func104 (Λ:=ahG) (cF aeQ nF)
def e48:bp:=aU [pf qj,pI] [rB] (c2 Pu.ov)
def g48:eE:=((eE.nil.add 102 aet).add 103 aiz).add 104 aiA
def n48:An:={mask:=mk [(4,[1,2,4,27,28,29]),(10,[1,4,45,46,47])],merge:=mg [(1,25),(6,41),(12,59)]}
abbrev Pw:SD:=⟨B::DI::.ptr 2 0::B::DB::bs 22 (.data false (.sl .arg jC)::DI::DI::bs 31 []),Z::Z::(some Y18)::zs 58 [],.none⟩
def adW (X:SD.D Pw)(K:iR R):=Pu.nQ (λy0=>ke 0 K Pw ((z4 (u y0) X.1),X.2)) (λy0 y1=>kr K Pw ((z1 (w y0 (z2 (u y1))) X.1),X.2)) X.1.1 X.1.2.1 (q2 X) (q3 X) X.2.1.1
def akI:dI:=jO Pw adW q4
abbrev IP:SD:=⟨B::DI::B::B::DB::bs 40 (.data false (.sl .arg gZ)::DI::DI::bs 13 []),zs 61 [],.none⟩
def abA (X:SD.D IP)(K:iR R):=Pu.mx (λy0=>ke 2 K IP ((z4 (u y0) X.1),X.2)) (λy0 y1=>kr K IP ((z1 (w y0 (z2 (u y1))) X.1),X.2)) X.1.1 X.1.2.1 (q2 X) (q3 X)
def agT:dI:=jO IP abA q4
def L48:eP:=(eP.nil.add 4 akI).add 10 agT
theorem ake:jh E g48 n48 L48 (bl Tryz.f48 0):=lk Pw adW q4 λX x=>((z4 (u x) X.1),X.2)
theorem afP:jh E g48 n48 L48 (bl Tryz.f48 1):=lk IP abA q4 λX x=>((z4 (u x) X.1),X.2)
theorem o48:dA 48 e48:=fk n48 (((base.add alP).add alQ).add alR) Tryz.func48 (Λ:=L48) (cF ake (cF afP nF))
def e17:bp:=aU [pf dY] [rB] (c1 Pu.gI)
def g17:eE:=((((((((eE.nil.add 40 e40).add 41 e41).add 42 e42).add 43 e43).add 44 OY).add 45 e45).add 46 e46).add 47 e47).add 48 e48
def n17:An:={mask:=mk [(5,[1,2,3,61,62]),(12,[1,2,3,103,104,105])],merge:=mg [(2,58),(7,89)]}
abbrev Pn:SD:=⟨B::.ptr 1 0::DB::DI::bs 57 (DI::DI::bs 54 []),Z::(some Y4)::zs 115 [],.none⟩
def adH (X:SD.D Pn)(K:iR R):=Pu.tz (λy0=>ke 0 K Pn ((z3 (u y0) X.1),X.2)) (λy0 y1=>kr K Pn ((w y0 (z2 (u y1)) X.1),X.2)) X.1.1 X.1.2.1 (q2 X) X.2.1.1
def akt:dI:=jO Pn adH q3
abbrev Iu:SD:=⟨B::.ptr 1 0::DB::DI::bs 99 (.data false (dv 1265664 (.int .i64))::DI::DI::bs 11 []),Z::(some Y4)::zs 115 [],.none⟩
def aaV (X:SD.D Iu)(K:iR R):=Pu.rZ (λy0=>ke 2 K Iu ((z4 (u y0) X.1),X.2)) (λy0 y1=>kr K Iu ((w y0 (z3 (u y1)) X.1),X.2)) X.1.1 X.1.2.1 (q2 X) (q3 X) X.2.1.1
def age:dI:=jO Iu aaV q4
def L17:eP:=(eP.nil.add 5 akt).add 12 age
theorem ajZ:jh E g17 n17 L17 (bl Tryz.f17 0):=lk Pn adH q3 λX x=>((z3 (u x) X.1),X.2)
theorem afb:jh E g17 n17 L17 (bl Tryz.f17 1):=lk Iu aaV q4 λX x=>((z4 (u x) X.1),X.2)
theorem o17:dA 17 e17:=fk n17 (((((((((base.add o40).add o41).add o42).add o43).add Bk).add o45).add o46).add o47).add o48) Tryz.func17 (Λ:=L17) (cF ajZ (cF afb nF))
def e76:bp:=aU [pd (.sl .str)] [(false,(.sl (.own none) .str))] (c1 Pu.kB)
theorem o76:dA 76 e76:=f0 {} base Tryz.func76
def e49:bp:=aU [pf (.sl .str)] [(true,(.sl (.own none) .str))] (c1 Pu.dx)
theorem ZV:dA 49 e49:=f0 {} (base.add o76) Tryz.func49
def e70:bp:=aU [pd (.sl bM)] [(false,(.sl (.own none) bM))] (c1 Pu.tJ)
theorem o70:dA 70 e70:=f0 {} base Tryz.func70
def aiN:bp:=aU [pd (.sl jq)] [(false,(.sl (.own none) jq))] (c1 Pu.rH)
def aoH:eE:=eE.nil.add 39 e39
def ak5:An:={mask:=mk [(3,[3,7,8,9])],mv:=[13,25]}
abbrev Na:SD:=⟨B::B::B::.data false (dv 36864 jq)::B::B::B::.data false (.sl .arg jq)::DI::DI::bs 16 [],zs 26 [],.none⟩
def aaI (X:SD.D Na)(K:iR R):=Pu.qJ (λy0 y1=>ke 0 K Na ((w y0 (z2 (u y1)) X.1),X.2)) X.1.2.1 (q2 X)
def af1:dI:=jO Na aaI (λX=>(X.1.1,q3 X))
def ahM:eP:=eP.nil.add 3 af1
theorem aeY:jh E aoH ak5 ahM (bl Tryz.f129 0):=lk Na aaI (λX=>(X.1.1,q3 X)) λX x=>((w x.1 (z2 (u x.2)) X.1),X.2)
theorem alZ:dA 129 aiN:=fk ak5 (base.add o39) Tryz.func129 (Λ:=ahM) (cF aeY nF)
def e71:bp:=aU [pf lj] [(true,Y17)] (c1 Pu.pS)
theorem o71:dA 71 e71:=f0 {sb:=mg [(2,2)]} ((base.add o72).add alZ) Tryz.func71
def e73:bp:=aU [pf wQ] [(true,Y23)] (c1 Pu.sk)
theorem o73:dA 73 e73:=f0 {mv:=[7]} (base.add o39) Tryz.func73
def amY:bp:=aU [pf (.sl gZ)] [(true,(.sl (.own none) gZ))] (c1 Pu.tK)
theorem apz:dA 130 amY:=f0 {} base Tryz.func130
def amZ:bp:=aU [pf zT] [(true,(.pair .str (.sl (.own none) (.int .i64))))] (c1 Pu.sm)
theorem apA:dA 131 amZ:=f0 {sb:=mg [(2,2)]} (base.add o39) Tryz.func131
def e74:bp:=aU [pf qj] [(true,Y19)] (c1 Pu.py)
theorem o74:dA 74 e74:=f0 {sb:=mg [(2,2)]} ((base.add apz).add apA) Tryz.func74
def e75:bp:=aU [pd (.sl eG)] [(false,(.sl (.own none) eG))] (c1 Pu.kA)
theorem o75:dA 75 e75:=f0 {} base Tryz.func75
def e27:bp:=aU [pf dY] [(true,Y0)] (c1 Pu.hY)
def g27:eE:=((((((((eE.nil.add 39 e39).add 49 e49).add 70 e70).add 71 e71).add 72 e72).add 73 e73).add 74 e74).add 75 e75).add 76 e76
def n27:An:={mask:=mk [(8,[1,2,3,27,28,29])],mv:=[34,75],mb:=mg [(34,3)],sb:=mg [(39,3)]}
abbrev UK:SD:=⟨B::.ptr 1 0::.ptr 2 0::.ptr 3 0::bs 23 (.data false (.sl .arg jo)::DI::DI::bs 46 []),Z::(some Y4)::(some Y2)::(rj (cX (dv 36865 .str) (cX (dv 36868 bM) (cX (cX Y1 (cX (jK (jK (jK (dv 36892 (.int .i64))))) (cX (dv 36895 jq) zk))) (cX (dv 36901 ef) (cX (dv 36904 jo) (cX (.sl .arg gr) (cX (.sl .arg .bool) (cX Y25 (cX Y18 (cX (.sl .arg eG) (cX .bool (cX (.sl .arg .str) (cX (.sl .arg (.int .i64)) (cX (.sl .arg (.int .i64)) (cX zk Y1))))))))))))))))::zs 72 [],.none⟩
def adN (X:SD.D UK)(K:iR R):=Pu.qI (λy0 y1=>ke 0 K UK ((z2 (u y0) X.1),(z2 (u y1) X.2.1),X.2.2)) X.1.1 X.1.2.1 X.2.1.1 X.2.1.2.1
def akz:dI:=jO UK adN (λX=>(q2 X,X.2.1.2.2.1))
def L27:eP:=eP.nil.add 8 akz
theorem aj5:jh E g27 n27 L27 (bl Tryz.f27 0):=lk UK adN (λX=>(q2 X,X.2.1.2.2.1)) λX x=>((z2 (u x.1) X.1),(z2 (u x.2) X.2.1),X.2.2)
theorem o27:dA 27 e27:=fk n27 (((((((((base.add o39).add ZV).add o70).add o71).add o72).add o73).add o74).add o75).add o76) Tryz.func27 (Λ:=L27) (cF aj5 nF)
def aiS:bp:=aU [pf mK] [rB] (c1 Pu.vU)
theorem al1:dA 148 aiS:=f0 {merge:=mg [(1,2)]} (base.add Bk) Tryz.func148
def am6:bp:=aU [pI] [rS] (c1 Pu.cn)
theorem HD:dA 149 am6:=f0 {} (base.add Bk) Tryz.func149
def am7:bp:=aU [pI] [rS] (c1 Pu.gJ)
theorem TG:dA 150 am7:=f0 {} (base.add Bk) Tryz.func150
def e95:bp:=aU [pf mK] [rS] (c1 Pu.lg)
theorem o95:dA 95 e95:=f0 {} (((base.add al1).add HD).add TG) Tryz.func95
def e96:bp:=aU [pf jo,pI] [rI] (c2 Pu.gn)
theorem o96:dA 96 e96:=f0 {merge:=mg [(1,15)]} ((base.add Bk).add o46) Tryz.func96
def aiT:bp:=aU [pf rl] [rI] (c1 Pu.rF)
theorem al2:dA 151 aiT:=f0 {} ((base.add o94).add ZT) Tryz.func151
def ajj:bp:=aU [pd (.sl bM),pI,pI,pd .bool] [rI] (c4 Pu.Ap)
theorem aql:dA 212 ajj:=f0 {merge:=mg [(4,29)]} (base.add o30) Tryz.func212
def abY:bp:=aU [pf (.sl .str),pI,pI] [rB] (c3 Pu.sU)
theorem ahi:dA 213 abY:=f0 {merge:=mg [(2,6)]} (base.add o40) Tryz.func213
def aex:bp:=aU [pd (.sl bM),pf (.sl .str),pI,pI,pI,pd .bool] [(false,(.sl (.own none) iC)),rB] (c6 Pu.vY)
def aoK:eE:=((((eE.nil.add 40 e40).add 41 e41).add 44 OY).add 212 ajj).add 213 abY
def ak8:An:={mask:=mk [(8,[0,2,3,4,5,7,12,13,14])],merge:=mg [(1,29),(11,55),(16,73)],mv:=[56,74]}
abbrev Is:SD:=⟨.data false (.sl .arg bM)::B::DI::DI::DI::DB::B::.ptr 7 0::bs 4 (.data false (dv 147456 iC)::DB::.data false (dv 172032 iC)::bs 60 []),zs 7 ((rj (.sl .arg .str))::zs 67 []),.none⟩
def aaK (X:SD.D Is)(K:iR R):=Pu.pT (λy0 y1 y2=>ke 0 K Is ((z2 (w y0 (w y1 (z3 (u y2)))) X.1),X.2)) (λy0 y1 y2 y3 y4=>kr K Is ((z2 (w y0 (w y1 (z1 (w y2 (w y3 (u y4)))))) X.1),X.2)) X.1.1 X.1.2.1 (q4 X) (q5 X) (q6 X) X.2.1.1
def af3:dI:=jO Is aaK (λX=>(q2 X,q3 X,q7 X))
def ahP:eP:=eP.nil.add 8 af3
theorem ae0:jh E aoK ak8 ahP (bl Tryz.f144 0):=lk Is aaK (λX=>(q2 X,q3 X,q7 X)) λX x=>((z2 (w x.1 (w x.2.1 (z3 (u x.2.2)))) X.1),X.2)
theorem al0:dA 144 aex:=fk ak8 (((((base.add o40).add o41).add Bk).add aql).add ahi) Tryz.func144 (Λ:=ahP) (cF ae0 nF)
def aiQ:bp:=aU [pf (.sl .str),pI,pd .str] [(true,(.sl (.own none) .str)),rB] (c3 Pu.qG)
def aoL:eE:=(eE.nil.add 49 e49).add 213 abY
def ak9:An:={mask:=mk [(4,[1,2,6,8])],nest:=[33],mv:=[19,49]}
abbrev Nc:SD:=⟨B::DI::.data false .str::B::B::B::.ptr 6 0::B::.ptr 8 0::bs 41 [],zs 6 ((rj (dv 73729 .str))::Z::(rj (dv 98305 .str))::zs 41 []),.none⟩
def aaL (X:SD.D Nc)(K:iR R):=Pu.mA (λy0 y1 y2=>ke 0 K Nc ((w y0 (u y1) X.1),(z1 (u y2) X.2.1),X.2.2)) X.2.1.1
def af4:dI:=jO Nc aaL (λX=>(X.1.1,X.1.2.1,X.2.1.2.1))
def ahQ:eP:=eP.nil.add 4 af4
theorem ae1:jh E aoL ak9 ahQ (bl Tryz.f145 0):=lk Nc aaL (λX=>(X.1.1,X.1.2.1,X.2.1.2.1)) λX x=>((w x.1 (u x.2.1) X.1),(z1 (u x.2.2) X.2.1),X.2.2)
theorem apH:dA 145 aiQ:=fk ak9 ((base.add ZV).add ahi) Tryz.func145 (Λ:=ahQ) (cF ae1 nF)
def e93:bp:=aU [pd (.sl bM),pf (.sl .str),pI,pI,pd .str,pd .bool] [(true,(.sl (.own none) .str)),rB] (c6 Pu.BK)
def g93:eE:=((eE.nil.add 49 e49).add 144 aex).add 145 aiQ
def n93:An:={mask:=mk [(6,[4,12,14,35,36,37])],mv:=[34,41,50,57],sb:=mg [(14,14)]}
abbrev UX:SD:=⟨bs 4 (.data false .str::bs 7 (.ptr 12 0::B::.ptr 14 0::bs 20 (.data false (.sl .loc iC)::DI::DI::bs 20 []))),zs 12 ((rj (dv 147457 .str))::Z::(rj (dv 172033 .str))::zs 43 []),.none⟩
def ad8 (X:SD.D UX)(K:iR R):=Pu.vX (λy0 y1 y2=>ke 0 K UX ((w y0 (z2 (u y1)) X.1),(z1 (u y2) X.2.1),X.2.2)) X.1.2.1 (q2 X) X.2.1.1
def akU:dI:=jO UX ad8 (λX=>(X.1.1,q3 X,X.2.1.2.1))
def L93:eP:=eP.nil.add 6 akU
theorem akq:jh E g93 n93 L93 (bl Tryz.f93 0):=lk UX ad8 (λX=>(X.1.1,q3 X,X.2.1.2.1)) λX x=>((w x.1 (z2 (u x.2.1)) X.1),(z1 (u x.2.2) X.2.1),X.2.2)
theorem o93:dA 93 e93:=fk n93 (((base.add ZV).add al0).add apH) Tryz.func93 (Λ:=L93) (cF akq nF)
def am8:bp:=aU [pd (.sl bM),pf (.sl .str),pI,pI,pd .str] [(true,(.sl (.own none) .str)),rB] (c5 Pu.oO)
theorem ahe:dA 152 am8:=f0 {} (base.add o93) Tryz.func152
def am9:bp:=aU [pf rl,pI] [rI] (c2 Pu.mU)
theorem al3:dA 153 am9:=f0 {merge:=mg [(1,11)]} (base.add o94) Tryz.func153
def e97:bp:=aU [pd (.sl bM),pf (.sl .str),pI,pf rl,pd .str] [(true,(.sl (.own none) .str)),(true,Y1),rB] (c5 Pu.tF)
theorem o97:dA 97 e97:=f0 {merge:=mg [(1,22)],mv:=[26,36,40,50],mb:=mg [(40,13),(50,13)],sb:=mg [(10,10),(11,11),(13,13)]} ((((base.add ZV).add al2).add ahe).add al3) Tryz.func97
def e38:bp:=aU [pd (.sl bM),pf (.sl .str),pI,pf rl,pf jo] [(true,(.sl (.own none) .str)),(true,Y1),(true,Y8),rI] (c5 Pu.iz)
def g38:eE:=(((((((eE.nil.add 39 e39).add 46 e46).add 49 e49).add 72 e72).add 94 e94).add 95 e95).add 96 e96).add 97 e97
def n38:An:={mask:=mk [(6,[0,2,8,9,10,11,12,14,15,16,39,40,41])],merge:=mg [(2,34)],mv:=[35,37,53,65,76,78],mb:=mg [(35,14),(37,15),(65,20),(76,14),(78,15)],sb:=mg [(8,8),(10,10),(11,11),(12,12),(14,14),(15,15)]}
abbrev UM:SD:=⟨.data false (.sl .arg bM)::B::DI::bs 5 (.ptr 8 0::.ptr 9 0::.ptr 10 0::.ptr 11 0::.ptr 12 0::B::.ptr 14 0::.ptr 15 0::DI::bs 22 (.data false (.sl .arg (.int .i64))::DI::DI::bs 38 [])),zs 8 ((some Y1)::(some Y14)::(rj (dv 122881 .str))::(some Y1)::(some Y27)::Z::(rj (dv 172033 .str))::(some Y26)::zs 64 []),.none⟩
def adQ (X:SD.D UM)(K:iR R):=Pu.mP (λy0 y1 y2 y3=>ke 0 K UM ((z2 (w y0 (z2 (u y1))) X.1),(w y2 (z4 (u y3)) X.2.1),X.2.2)) X.1.1 X.1.2.1 (q3 X) (q4 X) X.2.1.2.1 X.2.1.2.2.1 X.2.1.2.2.2.1 X.2.1.2.2.2.2.1 X.2.1.2.2.2.2.2.2.1
def akC:dI:=jO UM adQ (λX=>(q2 X,q5 X,X.2.1.1,X.2.1.2.2.2.2.2.1))
def L38:eP:=eP.nil.add 6 akC
theorem aj8:jh E g38 n38 L38 (bl Tryz.f38 0):=lk UM adQ (λX=>(q2 X,q5 X,X.2.1.1,X.2.1.2.2.2.2.2.1)) λX x=>((z2 (w x.1 (z2 (u x.2.1))) X.1),(w x.2.2.1 (z4 (u x.2.2.2)) X.2.1),X.2.2)
theorem o38:dA 38 e38:=fk n38 ((((((((base.add o39).add o46).add ZV).add o72).add o94).add o95).add o96).add o97) Tryz.func38 (Λ:=L38) (cF aj8 nF)
def aji:bp:=aU [pf (.sl .str),pI,pI] [rS,rB] (c3 Pu.ou)
def aoU:eE:=eE.nil.add 213 abY
def alm:An:={mask:=mk [(4,[1,2,3,8])],mv:=[41]}
abbrev Nr:SD:=⟨B::DI::DI::.ptr 3 0::bs 4 (.data false (dv 98304 (.int .u8))::bs 41 []),Z::Z::Z::(rj (.sl .arg .str))::zs 46 [],.none⟩
def aa5 (X:SD.D Nr)(K:iR R):=Pu.kI (λy0 y1=>ke 0 K Nr ((w y0 (z1 (u y1)) X.1),X.2)) X.1.2.1 X.2.1.1
def agp:dI:=jO Nr aa5 (λX=>(X.1.1,q2 X))
def ah2:eP:=eP.nil.add 4 agp
theorem afl:jh E aoU alm ah2 (bl Tryz.f207 0):=lk Nr aa5 (λX=>(X.1.1,q2 X)) λX x=>((w x.1 (z1 (u x.2)) X.1),X.2)
theorem aqh:dA 207 aji:=fk alm (base.add ahi) Tryz.func207 (Λ:=ah2) (cF afl nF)
def aew:bp:=aU [pd (.sl bM),pf (.sl .str),pI,pI,pI] [rS,rB] (c5 Pu.nI)
def aoJ:eE:=(eE.nil.add 144 aex).add 207 aji
def ak7:An:={mask:=mk [(6,[6,14,30,31,32])]}
abbrev Nb:SD:=⟨bs 6 (.ptr 6 0::bs 7 (.data false .str::bs 15 (.data false (.sl .loc iC)::DI::DI::bs 17 []))),zs 6 ((rj (.sl .arg .str))::zs 43 []),.none⟩
def aaJ (X:SD.D Nb)(K:iR R):=Pu.rY (λy0 y1=>ke 0 K Nb ((w y0 (z2 (u y1)) X.1),X.2)) X.1.2.1 (q2 X) X.2.1.1
def af2:dI:=jO Nb aaJ (λX=>(X.1.1,q3 X))
def ahO:eP:=eP.nil.add 6 af2
theorem aeZ:jh E aoJ ak7 ahO (bl Tryz.f141 0):=lk Nb aaJ (λX=>(X.1.1,q3 X)) λX x=>((w x.1 (z2 (u x.2)) X.1),X.2)
theorem acN:dA 141 aew:=fk ak7 ((base.add al0).add aqh) Tryz.func141 (Λ:=ahO) (cF aeZ nF)
def anf:bp:=aU [pf gO] [rI] (c1 Pu.mX)
theorem al9:dA 166 anf:=f0 {} base Tryz.func166
def anO:bp:=aU [pd .str,pI] [rI] (c2 Pu.fI)
theorem TH:dA 224 anO:=f0 {merge:=mg [(1,13)]} base Tryz.func224
def anP:bp:=aU [pd .str,pI] [rI] (c2 Pu.iJ)
theorem Xp:dA 225 anP:=f0 {merge:=mg [(1,13)]} base Tryz.func225
def ang:bp:=aU [pd .str] [(true,(.pair (.int .i64) Y1)),rI,rB] (c1 Pu.kQ)
theorem apN:dA 167 ang:=f0 {} ((base.add TH).add Xp) Tryz.func167
def anh:bp:=aU [pf gO] [rI] (c1 Pu.tM)
theorem ama:dA 168 anh:=f0 {} base Tryz.func168
def aiG:bp:=aU [pd (.sl bM),pf (.sl .str),pI,pf gO] [(true,(.pair (.int .i64) Y1)),(true,Y20),rB] (c4 Pu.jV)
theorem alU:dA 112 aiG:=f0 {merge:=mg [(7,46)],sb:=mg [(8,8),(9,9)]} (((((base.add o99).add acN).add al9).add apN).add ama) Tryz.func112
def an9:bp:=aU [pf VU] [rB] (c1 Pu.yb)
theorem amu:dA 255 an9:=f0 {merge:=mg [(1,2)]} (base.add Bk) Tryz.func255
def anC:bp:=aU [pd .str] [(true,Y15),rB] (c1 Pu.rD)
theorem amg:dA 208 anC:=f0 {merge:=mg [(4,33)],sb:=mg [(4,4)]} (((base.add TH).add Xp).add amu) Tryz.func208
def an5:bp:=aU [pd .str,pI,pd .str] [rS] (c3 Pu.gb)
theorem acT:dA 249 an5:=f0 {merge:=mg [(1,17)]} base Tryz.func249
def ajG:bp:=aU [pI,pI] [rI] (c2 Pu.wV)
theorem ara:dA 300 ajG:=f0 {merge:=mg [(1,12)]} (base.add Bk) Tryz.func300
def aov:bp:=aU [pd .str] [rI] (c1 Pu.vu)
def apf:eE:=eE.nil.add 300 ajG
def alI:An:={mask:=mk [(3,[0,3,4])]}
abbrev NK:SD:=⟨.data false .str::B::B::DI::DI::bs 28 [],zs 33 [],.none⟩
def abu (X:SD.D NK)(K:iR R):=Pu.qC (λy0 y1=>ke 0 K NK ((z1 (w y0 (u y1)) X.1),X.2)) X.1.1
def agN:dI:=jO NK abu (λX=>(X.1.2.1,q2 X))
def aio:eP:=eP.nil.add 3 agN
theorem afJ:jh E apf alI aio (bl Tryz.f290 0):=lk NK abu (λX=>(X.1.2.1,q2 X)) λX x=>((z1 (w x.1 (u x.2)) X.1),X.2)
theorem aq2:dA 290 aov:=fk alI (base.add ara) Tryz.func290 (Λ:=aio) (cF afJ nF)
def aok:bp:=aU [pd .str] [rI] (c1 Pu.jk)
theorem ahl:dA 266 aok:=f0 {} (base.add aq2) Tryz.func266
def aoA:bp:=aU [pf TIp] [rB] (c1 Pu.FJ)
theorem aq9:dA 299 aoA:=f0 {merge:=mg [(1,2)]} (base.add Bk) Tryz.func299
def aos:bp:=aU [pf TIp] [rS,rB] (c1 Pu.vn)
theorem aqY:dA 285 aos:=f0 {} (((((base.add HD).add TG).add acT).add ahl).add aq9) Tryz.func285
def aoa:bp:=aU [pf TIp] [rS,rB] (c1 Pu.tr)
theorem amv:dA 256 aoa:=f0 {} (base.add aqY) Tryz.func256
def anD:bp:=aU [pd .str] [(true,Y21),rB] (c1 Pu.wZ)
theorem aqi:dA 209 anD:=f0 {merge:=mg [(2,22),(6,56)],sb:=mg [(5,5)]} (((base.add TH).add Xp).add amv) Tryz.func209
def aoi:bp:=aU [pI,pI,pI,pI] [rS,rB] (c4 Pu.pt)
theorem amy:dA 264 aoi:=f0 {merge:=mg [(1,27)]} (((base.add Bk).add HD).add TG) Tryz.func264
def aoj:bp:=aU [pI] [rI] (c1 Pu.fR)
theorem ahk:dA 265 aoj:=f0 {} base Tryz.func265
def aot:bp:=aU [pf xL] [rS] (c1 Pu.qH)
theorem aqZ:dA 286 aot:=f0 {} ((base.add HD).add TG) Tryz.func286
def aob:bp:=aU [pI,pI,pf xL] [rS,rB] (c3 Pu.jD)
theorem amw:dA 257 aob:=f0 {merge:=mg [(8,39)]} (((((((base.add HD).add al4).add acT).add amy).add ahk).add ahl).add aqZ) Tryz.func257
def anE:bp:=aU [pI,pI,pI,pd .str] [(true,(.pair (.int .i64) Y21)),rB] (c4 Pu.pq)
theorem aqj:dA 210 anE:=f0 {merge:=mg [(3,20),(9,44),(12,68)]} (((base.add TH).add Xp).add amw) Tryz.func210
def aiO:bp:=aU [pd .str] [(true,Y3),rI] (c1 Pu.iK)
theorem acO:dA 142 aiO:=f0 {merge:=mg [(2,20)]} ((((base.add K8).add amg).add aqi).add aqj) Tryz.func142
def anw:bp:=aU [pf df] [(true,(.pair (.int .i64) Y1))] (c1 Pu.sR)
theorem ahh:dA 202 anw:=f0 {} base Tryz.func202
def anF:bp:=aU [pd (.sl eG),pf oZ] [rI] (c2 Pu.qB)
def aoV:eE:=eE.nil
def aln:An:={mask:=mk [(2,[3,4,7,8,9])]}
abbrev Iz:SD:=⟨B::B::B::.ptr 3 0::DI::B::B::.data false (.sl .arg eG)::DI::DI::bs 10 [],Z::Z::Z::(rj (cX zk Y1))::zs 16 [],.none⟩
def aa6 (X:SD.D Iz)(K:iR R):=Pu.my (λy0=>ke 0 K Iz ((z3 (u y0) X.1),X.2)) (λy0 y1=>kr K Iz ((w y0 (z2 (u y1)) X.1),X.2)) X.1.1 X.1.2.1 (q2 X) X.2.1.1
def agq:dI:=jO Iz aa6 q3
def ah3:eP:=eP.nil.add 2 agq
theorem afm:jh E aoV aln ah3 (bl Tryz.f211 0):=lk Iz aa6 q3 λX x=>((z3 (u x) X.1),X.2)
theorem aqk:dA 211 anF:=fk aln base Tryz.func211 (Λ:=ah3) (cF afm nF)
def aiP:bp:=aU [pd (.sl eG),pf df] [(false,(.sl (.own none) eG))] (c2 Pu.wW)
theorem apG:dA 143 aiP:=f0 {merge:=mg [(17,82)],mv:=[16,31,51,58,67,83,132],er:=mg [(115,5)]} ((((((base.add o75).add K8).add HD).add acP).add ahh).add aqk) Tryz.func143
def e91:bp:=aU [pd (.sl bM),pf (.sl .str),pI,pf ef,pf jo,pd (.sl eG),pI] [(true,(.sl (.own none) .str)),(true,Y9),(true,Y8),(false,(.sl (.own none) eG)),rI] (c7 Pu.tC)
def g91:eE:=((((((((((((eE.nil.add 38 e38).add 44 OY).add 45 e45).add 46 e46).add 49 e49).add 72 e72).add 75 e75).add 96 e96).add 98 e98).add 112 aiG).add 141 aew).add 142 aiO).add 143 aiP
def n91:An:={mask:=mk [(5,[0,2,6,10,14,15,16,19,20,21,22])],merge:=mg [(2,48)],mv:=[49,51,52,96,104,117,119,120],mb:=mg [(49,19),(51,20),(117,19),(119,20)],sb:=mg [(14,14),(15,15),(16,16),(19,19),(20,20)]}
abbrev UU:SD:=⟨.data false (.sl .arg bM)::B::DI::B::B::B::DI::B::B::B::.ptr 10 0::B::B::B::.ptr 14 0::.ptr 15 0::.ptr 16 0::B::B::.ptr 19 0::.ptr 20 0::.data false (dv 258048 eG)::DI::bs 99 [],zs 10 ((some Y9)::Z::Z::Z::(rj (dv 172033 .str))::(some Y9)::(rj (jK (jK (jK (dv 196618 (.int .i64))))))::Z::Z::(rj (dv 233473 .str))::(rj (jK (jK (jK (dv 245770 (.int .i64))))))::zs 101 []),.none⟩
def ad6 (X:SD.D UU)(K:iR R):=Pu.lF (λy0 y1 y2 y3=>ke 0 K UU ((z3 (w y0 (u y1)) X.1),(w y2 (z4 (u y3)) X.2.1),X.2.2)) X.1.1 X.1.2.1 (q2 X) X.2.1.2.1 X.2.1.2.2.1 X.2.1.2.2.2.1 X.2.1.2.2.2.2.1
def akS:dI:=jO UU ad6 (λX=>(q3 X,q4 X,X.2.1.1,X.2.1.2.2.2.2.2.1))
def L91:eP:=eP.nil.add 5 akS
theorem ako:jh E g91 n91 L91 (bl Tryz.f91 0):=lk UU ad6 (λX=>(q3 X,q4 X,X.2.1.1,X.2.1.2.2.2.2.2.1)) λX x=>((z3 (w x.1 (u x.2.1)) X.1),(w x.2.2.1 (z4 (u x.2.2.2)) X.2.1),X.2.2)
theorem o91:dA 91 e91:=fk n91 (((((((((((((base.add o38).add Bk).add o45).add o46).add ZV).add o72).add o75).add o96).add o98).add alU).add acN).add acO).add apG) Tryz.func91 (Λ:=L91) (cF ako nF)
def e32:bp:=jv (.pair (.sl (.own none) .str) (.pair (.sl (.own none) bM) (.pair (.pair (.pair (.int .i64) (.pair (.int .i64) (.pair (.int .i64) (.int .i64)))) (.pair (.pair (.int .i64) (.pair (.int .i64) (.pair (.int .i64) (.sl (.own none) (.int .i64))))) (.pair (.sl (.own none) jq) (.int .i64)))) (.pair (.sl (.own none) ef) (.pair (.sl (.own none) jo) (.pair (.sl (.own none) gr) (.pair (.sl (.own none) .bool) (.pair (.pair (.int .i64) (.pair .bool (.sl (.own none) (.int .i64)))) (.pair (.pair (.sl (.own none) jC) (.pair (.sl (.own none) gZ) (.pair .str (.sl (.own none) (.int .i64))))) (.pair (.sl (.own none) eG) (.pair .bool (.pair (.sl (.own none) .str) (.pair (.sl (.own none) (.int .i64)) (.pair (.sl (.own none) (.int .i64)) (.pair (.int .i64) (.pair (.int .i64) (.pair (.int .i64) (.pair (.int .i64) (.int .i64))))))))))))))))))) [pI,pI] [rI] λx a=>Pu.ks x a.1 a.2.1
theorem o32:dA 32 e32:=im.pA (pa (an:={mv:=[8,49,51,52],sb:=mg [(55,0),(59,0)],fm:=[19,20],eb:=mg [(56,0),(57,0)]}) (Λ:=eP.nil) (base.add o91) Tryz.func32 (by kernel_rfl) (ao nF)) (λx a=>by kernel_rfl)
def e92:bp:=aU [pI,pI,pI] [(true,Y8),rB] (c3 Pu.tB)
def g92:eE:=eE.nil.add 46 e46
def n92:An:={mask:=mk [(5,[2,6,8,9])],mv:=[24,29]}
abbrev UW:SD:=⟨B::B::DI::B::B::B::.ptr 6 0::B::.ptr 8 0::DI::bs 20 [],zs 6 ((some Y29)::Z::(some Y28)::zs 21 []),.none⟩
def ad7 (X:SD.D UW)(K:iR R):=Pu.sc (λy0 y1=>ke 0 K UW ((z1 (u y0) X.1),(z1 (u y1) X.2.1),X.2.2)) X.1.1 X.2.1.1
def akT:dI:=jO UW ad7 (λX=>(X.1.2.1,X.2.1.2.1))
def L92:eP:=eP.nil.add 5 akT
theorem akp:jh E g92 n92 L92 (bl Tryz.f92 0):=lk UW ad7 (λX=>(X.1.2.1,X.2.1.2.1)) λX x=>((z1 (u x.1) X.1),(z1 (u x.2) X.2.1),X.2.2)
theorem o92:dA 92 e92:=fk n92 (base.add o46) Tryz.func92 (Λ:=L92) (cF akp nF)
def e33:bp:=aU [] [(true,Y17)] λa=>Pu.Ao
theorem o33:dA 33 e33:=f0 {mv:=[3,8]} (base.add o92) Tryz.func33
def e34:bp:=aU [pd (.sl bM),pf (.sl .str),pI,pI,pd .str] [(true,(.sl (.own none) .str)),rB] (c5 Pu.jy)
theorem o34:dA 34 e34:=f0 {} (base.add o93) Tryz.func34
def e35:bp:=aU [pI] [rI] (c1 Pu.pU)
theorem o35:dA 35 e35:=f0 {} base Tryz.func35
def e36:bp:=aU [pd (.int .u8),pI] [rS] (c2 Pu.nC)
def g36:eE:=eE.nil
def n36:An:={mask:=mk [(3,[0,5,10,11])]}
abbrev UL:SD:=⟨.data false (.int .u8)::bs 4 (.data false (dv 61440 (.int .u8))::bs 4 (DI::DI::bs 9 [])),zs 21 [],.none⟩
def adP (X:SD.D UL)(K:iR R):=Pu.tN (λy0 y1=>ke 0 K UL ((z1 (w y0 (z1 (u y1))) X.1),X.2)) X.1.1 (q2 X)
def akB:dI:=jO UL adP (λX=>(X.1.2.1,q3 X))
def L36:eP:=eP.nil.add 3 akB
theorem aj7:jh E g36 n36 L36 (bl Tryz.f36 0):=lk UL adP (λX=>(X.1.2.1,q3 X)) λX x=>((z1 (w x.1 (z1 (u x.2))) X.1),X.2)
theorem o36:dA 36 e36:=fk n36 base Tryz.func36 (Λ:=L36) (cF aj7 nF)
def e37:bp:=aU [pI] [(true,Y9),(true,Y8)] (c1 Pu.uD)
theorem o37:dA 37 e37:=f0 {mv:=[10,24],mb:=mg [(24,5)],sb:=mg [(2,2),(3,3)]} ((base.add o35).add o92) Tryz.func37
def e14:bp:=aU [pf dY] [(true,Y0)] (c1 Pu.pQ)
def g14:eE:=((((((((eE.nil.add 17 e17).add 27 e27).add 32 e32).add 33 e33).add 34 e34).add 35 e35).add 36 e36).add 37 e37).add 38 e38
def n14:An:={mask:=mk [(5,[2,3,21,22]),(10,[2,3,30,31,32]),(18,[2,3,54,55])],mv:=[18,37,88,98,121,142],sb:=mg [(90,3)]}
abbrev UF:SD:=⟨B::B::.ptr 2 0::.ptr 3 0::bs 17 (DI::DI::bs 120 []),Z::Z::(some Y2)::(some Y5)::zs 139 [],.none⟩
def adG (X:SD.D UF)(K:iR R):=Pu.pn (λy0 y1=>ke 0 K UF ((z1 (u y0) X.1),(z1 (u y1) X.2.1),X.2.2)) X.1.1 X.2.1.1
def aks:dI:=jO UF adG (λX=>(X.1.2.1,X.2.1.2.1))
abbrev Nd:SD:=⟨B::B::.ptr 2 0::.ptr 3 0::bs 26 (.data false (.sl .loc jq)::DI::DI::bs 110 []),Z::Z::(some Y2)::(some Y5)::zs 139 [],.none⟩
def aaM (X:SD.D Nd)(K:iR R):=Pu.nK (λy0 y1=>ke 2 K Nd ((z2 (u y0) X.1),(z1 (u y1) X.2.1),X.2.2)) X.1.1 X.1.2.1 X.2.1.1
def af5:dI:=jO Nd aaM (λX=>(q2 X,X.2.1.2.1))
abbrev Nf:SD:=⟨B::B::.ptr 2 0::.ptr 3 0::bs 50 (DI::DI::bs 87 []),Z::Z::(some Y2)::(some Y5)::zs 139 [],.none⟩
def aaN (X:SD.D Nf)(K:iR R):=Pu.kH (λy0 y1=>ke 4 K Nf ((z1 (u y0) X.1),(z1 (u y1) X.2.1),X.2.2)) X.1.1 X.2.1.1
def af6:dI:=jO Nf aaN (λX=>(X.1.2.1,X.2.1.2.1))
def L14:eP:=((eP.nil.add 5 aks).add 10 af5).add 18 af6
theorem ajY:jh E g14 n14 L14 (bl Tryz.f14 0):=lk UF adG (λX=>(X.1.2.1,X.2.1.2.1)) λX x=>((z1 (u x.1) X.1),(z1 (u x.2) X.2.1),X.2.2)
theorem ae2:jh E g14 n14 L14 (bl Tryz.f14 1):=lk Nd aaM (λX=>(q2 X,X.2.1.2.1)) λX x=>((z2 (u x.1) X.1),(z1 (u x.2) X.2.1),X.2.2)
theorem ae3:jh E g14 n14 L14 (bl Tryz.f14 2):=lk Nf aaN (λX=>(X.1.2.1,X.2.1.2.1)) λX x=>((z1 (u x.1) X.1),(z1 (u x.2) X.2.1),X.2.2)
theorem o14:dA 14 e14:=fk n14 (((((((((base.add o17).add o27).add o32).add o33).add o34).add o35).add o36).add o37).add o38) Tryz.func14 (Λ:=L14) (cF ajY (cF ae2 (cF ae3 nF)))
def aiY:bp:=aU [pd (.sl bM),pf (.sl .str),pI,pf rl] [rS,(true,Y1),rB] (c4 Pu.rG)
theorem al8:dA 160 aiY:=f0 {merge:=mg [(1,20)],sb:=mg [(9,9)]} ((((base.add o94).add acN).add ZT).add al3) Tryz.func160
def ajl:bp:=aU [pd .str] [(true,(.pair (.int .i64) (.pair (.int .i64) Y1))),rB] (c1 Pu.oq)
theorem amh:dA 215 ajl:=f0 {sb:=mg [(4,4)]} (((base.add o95).add TH).add Xp) Tryz.func215
def aou:bp:=aU [pI] [rS] (c1 Pu.vw)
theorem aq0:dA 287 aou:=f0 {} ((base.add HD).add TG) Tryz.func287
def aoc:bp:=aU [pf VU] [rS,rB] (c1 Pu.vc)
theorem aqG:dA 258 aoc:=f0 {} (((base.add HD).add amu).add aq0) Tryz.func258
def aod:bp:=aU [pd .str] [rS] (c1 Pu.wY)
theorem aqH:dA 259 aod:=f0 {} (base.add o36) Tryz.func259
def anG:bp:=aU [pf df] [rS,rB] (c1 Pu.ic)
theorem acR:dA 216 anG:=f0 {} (((((base.add K8).add amv).add amw).add aqG).add aqH) Tryz.func216
def aeF:bp:=aU [pd .str,pI] [rI] (c2 Pu.vW)
theorem amB:dA 288 aeF:=f0 {} base Tryz.func288
def ajB:bp:=aU [pd .str,pI] [rI] (c2 Pu.tA)
def ape:eE:=(eE.nil.add 44 OY).add 288 aeF
def alH:An:={mask:=mk [(5,[0,1,5,6])],merge:=mg [(1,14)]}
abbrev NJ:SD:=⟨.data false .str::DI::B::B::B::DI::DI::bs 22 [],zs 29 [],.none⟩
def abt (X:SD.D NJ)(K:iR R):=Pu.po (λy0 y1=>ke 0 K NJ ((z2 (w y0 (u y1)) X.1),X.2)) X.1.1 X.1.2.1
def agM:dI:=jO NJ abt (λX=>(q2 X,q3 X))
def ain:eP:=eP.nil.add 5 agM
theorem afI:jh E ape alH ain (bl Tryz.f289 0):=lk NJ abt (λX=>(q2 X,q3 X)) λX x=>((z2 (w x.1 (u x.2)) X.1),X.2)
theorem aq1:dA 289 ajB:=fk alH ((base.add Bk).add amB) Tryz.func289 (Λ:=ain) (cF afI nF)
def aoe:bp:=aU [pd .str,pd .str] [rI] (c2 Pu.tu)
def ao8:eE:=(eE.nil.add 288 aeF).add 289 ajB
def alB:An:={mask:=mk [(5,[0,1,5,6])],merge:=mg [(1,14)]}
abbrev NB:SD:=⟨.data false .str::.data false .str::B::B::B::DI::DI::bs 25 [],zs 32 [],.none⟩
def abk (X:SD.D NB)(K:iR R):=Pu.pj (λy0 y1=>ke 0 K NB ((z2 (w y0 (u y1)) X.1),X.2)) X.1.1 X.1.2.1
def agE:dI:=jO NB abk (λX=>(q2 X,q3 X))
def aih:eP:=eP.nil.add 5 agE
theorem afA:jh E ao8 alB aih (bl Tryz.f260 0):=lk NB abk (λX=>(q2 X,q3 X)) λX x=>((z2 (w x.1 (u x.2)) X.1),X.2)
theorem aqI:dA 260 aoe:=fk alB ((base.add amB).add aq1) Tryz.func260 (Λ:=aih) (cF afA nF)
def aof:bp:=aU [pf oZ] [rS] (c1 Pu.tw)
theorem aqJ:dA 261 aof:=f0 {} ((base.add HD).add TG) Tryz.func261
def anH:bp:=aU [pd .str,pf oZ] [rI] (c2 Pu.rz)
theorem ami:dA 217 anH:=f0 {} ((base.add aqI).add aqJ) Tryz.func217
def aog:bp:=aU [pf oZ] [rB] (c1 Pu.lC)
theorem amx:dA 262 aog:=f0 {merge:=mg [(1,2)]} (base.add Bk) Tryz.func262
def aoh:bp:=aU [pf oZ,pI] [rS] (c2 Pu.kR)
theorem aqK:dA 263 aoh:=f0 {merge:=mg [(1,12)]} ((((base.add Bk).add HD).add TG).add amx) Tryz.func263
def anI:bp:=aU [pd (.sl bM),pf (.sl .str),pI,pf gO,pf oZ] [(true,(.sl (.own none) .str)),(true,Y20),rB] (c5 Pu.nN)
theorem aqn:dA 218 anI:=f0 {merge:=mg [(1,22)],mv:=[26,37,41,51],mb:=mg [(41,13),(51,13)],sb:=mg [(10,10),(11,11),(13,13)]} (((((((base.add ZV).add o99).add ahe).add al9).add ama).add amx).add aqK) Tryz.func218
def anc:bp:=yT [pd (.sl bM),pf (.sl .str),pI,pf ef,pd .str,pd .str] [(true,(.sl (.own none) .str)),(true,Y20),rB] [(true,(.sl .arg .str)),(true,Y20),rB] rfl λa=>Pu.tP a.1 a.2.1 a.2.2.1 a.2.2.2.1 a.2.2.2.2.1 a.2.2.2.2.2.1
theorem apK:dA 161 anc:=im.ofAlt (PW (an:={merge:=mg [(3,50)],sb:=mg [(12,12),(13,13),(20,20)]}) (Λ:=eP.nil) (by rfl) ((((((base.add ahe).add ahh).add amh).add acR).add ami).add aqn) Tryz.func161 (by kernel_rfl) (ao nF)) (λa=>by kernel_rfl)
def aiB:bp:=aU [pd (.sl bM),pf (.sl .str),pI,pf ef,pd .str] [(true,(.sl (.own none) .str)),(true,Y9)] (c5 Pu.mQ)
theorem alS:dA 105 aiB:=f0 {merge:=mg [(1,31)],mv:=[52,66],mb:=mg [(66,16)],sb:=mg [(10,10),(11,11)]} ((((base.add o45).add ZV).add al8).add apK) Tryz.func105
def ane:bp:=aU [pf gr] [(true,Y13)] (c1 Pu.nS)
theorem ahf:dA 165 ane:=f0 {merge:=mg [(1,9)]} (base.add alO) Tryz.func165
def aiZ:bp:=aU [pf gr] [(true,Y13)] (c1 Pu.uZ)
theorem apL:dA 163 aiZ:=f0 {} ((base.add o47).add ahf) Tryz.func163
def aiC:bp:=jv (.pair (.sl (.own none) .str) (.pair (.sl (.own none) bM) (.pair (.pair (.pair (.int .i64) (.pair (.int .i64) (.pair (.int .i64) (.int .i64)))) (.pair (.pair (.int .i64) (.pair (.int .i64) (.pair (.int .i64) (.sl (.own none) (.int .i64))))) (.pair (.sl (.own none) jq) (.int .i64)))) (.pair (.sl (.own none) ef) (.pair (.sl (.own none) jo) (.pair (.sl (.own none) gr) (.pair (.sl (.own none) .bool) (.pair (.pair (.int .i64) (.pair .bool (.sl (.own none) (.int .i64)))) (.pair (.pair (.sl (.own none) jC) (.pair (.sl (.own none) gZ) (.pair .str (.sl (.own none) (.int .i64))))) (.pair (.sl (.own none) eG) (.pair .bool (.pair (.sl (.own none) .str) (.pair (.sl (.own none) (.int .i64)) (.pair (.sl (.own none) (.int .i64)) (.pair (.int .i64) (.pair (.int .i64) (.pair (.int .i64) (.pair (.int .i64) (.int .i64))))))))))))))))))) [pI,pI] [] λx a=>Pu.kK x a.1 a.2.1
def ajN:eE:=(eE.nil.add 162 aey).add 163 aiZ
def ak0:An:={mask:=mk [(2,[0,1,7])]}
abbrev M5:SD:=⟨.ptr 0 0::DI::bs 5 (DI::bs 34 []),(rj (cX (dv 1 .str) (cX (dv 4 bM) (cX (cX Y1 (cX (jK (jK (jK (dv 28 (.int .i64))))) (cX (dv 31 jq) zk))) (cX (dv 37 ef) (cX (dv 40 jo) (cX (dv 43 gr) (cX (dv 46 .bool) (cX (jK (cX .bool (dv 55 (.int .i64)))) (cX (cX (dv 58 jC) (cX (dv 61 gZ) (cX .str (dv 67 (.int .i64))))) (cX (dv 70 eG) (cX .bool (cX (dv 76 .str) (cX (dv 79 (.int .i64)) (cX (dv 82 (.int .i64)) (cX zk Y1))))))))))))))))::zs 41 [],.ptr⟩
def aaB (X:SD.D M5)(K:iR R):=Pu.px (λy0 y1=>ke 0 K M5 ((z1 (u y0) X.1),(u y1 X.2.1),X.2.2)) X.1.1
def afU:dI:=jO M5 aaB (λX=>(X.1.2.1,X.2.1.1))
def ahH:eP:=eP.nil.add 2 afU
theorem aeR:jh E ajN ak0 ahH (bl Tryz.f106 0):=lk M5 aaB (λX=>(X.1.2.1,X.2.1.1)) λX x=>((z1 (u x.1) X.1),(u x.2 X.2.1),X.2.2)
theorem alT:dA 106 aiC:=im.pA (pa (Γ:=ajN) (an:=ak0) (Λ:=ahH) ((base.add acP).add apL) Tryz.func106 (by kernel_rfl) (ao (cF aeR nF))) (λx a=>by kernel_rfl)
def e54:bp:=aU [pf dY] [(true,Y0)] (c1 Pu.pP)
def g54:eE:=(((eE.nil.add 17 e17).add 27 e27).add 105 aiB).add 106 aiC
def n54:An:={mask:=mk [(5,[1,2,3,13,14])],mv:=[10,17,35,49],sb:=mg [(37,3)]}
abbrev UN:SD:=⟨B::.ptr 1 0::.ptr 2 0::.ptr 3 0::bs 9 (DI::DI::bs 35 []),Z::(some Y4)::(some Y2)::(some Y5)::zs 46 [],.none⟩
def adY (X:SD.D UN)(K:iR R):=Pu.pk (λy0 y1=>ke 0 K UN ((z1 (u y0) X.1),(z2 (u y1) X.2.1),X.2.2)) X.1.1 X.2.1.1 X.2.1.2.1
def akK:dI:=jO UN adY (λX=>(X.1.2.1,X.2.1.2.2.1))
def L54:eP:=eP.nil.add 5 akK
theorem akg:jh E g54 n54 L54 (bl Tryz.f54 0):=lk UN adY (λX=>(X.1.2.1,X.2.1.2.2.1)) λX x=>((z1 (u x.1) X.1),(z2 (u x.2) X.2.1),X.2.2)
theorem o54:dA 54 e54:=fk n54 ((((base.add o17).add o27).add alS).add alT) Tryz.func54 (Λ:=L54) (cF akg nF)
def anJ:bp:=aU [pd (.sl bM),pf (.sl .str),pI,pf rl] [(false,(.sl (.own none) mK)),(true,Y1),rB] (c4 Pu.tG)
def aoX:eE:=(((eE.nil.add 94 e94).add 147 aiR).add 160 aiY).add 215 ajl
def alp:An:={mask:=mk [(6,[0,2,5,7,8,9,10,11,12])],merge:=mg [(1,24),(15,67)],mv:=[55,68],sb:=mg [(9,9)]}
abbrev IA:SD:=⟨.data false (.sl .arg bM)::B::DI::B::B::.ptr 5 0::B::.ptr 7 0::.data false (dv 98304 mK)::.ptr 9 0::DB::.ptr 11 0::.data false (dv 147456 mK)::bs 57 [],zs 5 ((rj (.sl .arg .str))::Z::(some Y1)::Z::(some Y1)::Z::(some Y1)::zs 58 []),.none⟩
def aa8 (X:SD.D IA)(K:iR R):=Pu.lG (λy0 y1=>ke 0 K IA ((z4 (u y0) X.1),(z1 (u y1) X.2.1),X.2.2)) (λy0 y1 y2 y3 y4=>kr K IA ((z2 (w y0 (w y1 (u y2))) X.1),(z1 (w y3 (u y4)) X.2.1),X.2.2)) X.1.1 X.1.2.1 (q2 X) (q3 X) X.2.1.1 X.2.1.2.2.1 X.2.1.2.2.2.1
def ags:dI:=jO IA aa8 (λX=>(q4 X,X.2.1.2.1))
def ah5:eP:=eP.nil.add 6 ags
theorem afo:jh E aoX alp ah5 (bl Tryz.f219 0):=lk IA aa8 (λX=>(q4 X,X.2.1.2.1)) λX x=>((z4 (u x.1) X.1),(z1 (u x.2) X.2.1),X.2.2)
theorem aqo:dA 219 anJ:=fk alp ((((base.add o94).add ZT).add al8).add amh) Tryz.func219 (Λ:=ah5) (cF afo nF)
def aeD:bp:=aU [pd (.sl iC)] [rB] (c1 Pu.rE)
def ao7:eE:=eE.nil.add 44 OY
def alA:An:={mask:=mk [(2,[0,2,5,6,7])],merge:=mg [(4,19)]}
abbrev IH:SD:=⟨.data false (.sl .arg iC)::B::DB::B::B::.data false (.sl .arg iC)::DI::DI::bs 16 [],zs 24 [],.none⟩
def abj (X:SD.D IH)(K:iR R):=Pu.qx (λy0=>ke 0 K IH ((z4 (u y0) X.1),X.2)) (λy0 y1=>kr K IH ((z1 (w y0 (z2 (u y1))) X.1),X.2)) X.1.1 X.1.2.1 (q2 X) (q3 X)
def agD:dI:=jO IH abj q4
def aif:eP:=eP.nil.add 2 agD
theorem afz:jh E ao7 alA aif (bl Tryz.f250 0):=lk IH abj q4 λX x=>((z4 (u x) X.1),X.2)
theorem ams:dA 250 aeD:=fk alA (base.add Bk) Tryz.func250 (Λ:=aif) (cF afz nF)
def aez:bp:=yT [pd (.sl iC),pI,pI] [(false,(.sl (.own none) mK))] [(false,(.sl .nil mK))] rfl λa=>Pu.iQ a.1 a.2.1 a.2.2.1
def aeL:eE:=((eE.nil.add 44 OY).add 148 aiS).add 250 aeD
def ag4:An:={mask:=mk [(5,[0,2,7,30,31,32]),(13,[6,7,54,55,56])],merge:=mg [(1,25)],nils:=[6],mv:=[49,64]}
abbrev Np:SD:=⟨.data false (.sl .arg iC)::B::DI::bs 4 (.data false (dv 86016 mK)::bs 22 (.data false (.sl .arg iC)::DI::DI::bs 32 [])),zs 65 [],.none⟩
def aa2 (X:SD.D Np)(K:iR R):=Pu.kh (λy0 y1=>ke 0 K Np ((z2 (w y0 (z2 (u y1))) X.1),X.2)) X.1.1 X.1.2.1 (q3 X) (q4 X)
def agm:dI:=jO Np aa2 (λX=>(q2 X,q5 X))
abbrev HM:SD:=⟨bs 7 (.data false (dv 86016 mK)::bs 46 (.data false (.sl .loc mK)::DI::DI::bs 8 [])),zs 65 [],.none⟩
abbrev SF:SD:=⟨bs 6 (.data false (.sl .nil mK)::.data false (dv 86016 mK)::bs 46 (.data false (.sl .loc mK)::DI::DI::bs 8 [])),zs 65 [],.none⟩
def VM (X:SD.D HM)(K:iR R):=Pu.jF (λy0=>ke 2 K HM ((z3 (u y0) X.1),X.2)) (λy0 y1=>kr K SF ((y0,(X.1.1,(X.1.2.1,(X.1.2.2.1,(y1,()))))),(),())) X.1.1 X.1.2.1 (q2 X)
def acB:dI:=jO HM VM q3
def aeg:eP:=(eP.nil.add 5 agm).add 13 acB
theorem afi:jh E aeL ag4 aeg (bl Tryz.f196 0):=lk Np aa2 (λX=>(q2 X,q5 X)) λX x=>((z2 (w x.1 (z2 (u x.2))) X.1),X.2)
theorem acu:jh E aeL ag4 aeg (bl Tryz.f196 1):=lk HM VM q3 λX x=>((z3 (u x) X.1),X.2)
theorem ame:dA 196 aez:=im.ofAlt (PW (Γ:=aeL) (an:=ag4) (Λ:=aeg) (by rfl) (((base.add Bk).add al1).add ams) Tryz.func196 (by kernel_rfl) (ao (cF afi (cF acu nF)))) (λa=>by kernel_rfl)
def anK:bp:=aU [pd (.sl mK)] [(false,(.sl (.own none) iC)),rI,rI,rB] (c1 Pu.nM)
def ajU:eE:=eE.nil.add 196 aez
def ag5:An:={mask:=mk [(5,[0,6,18,19,20]),(14,[0,2,3,4,5,6,9,10,11,51,52])],mv:=[24,65]}
abbrev Nt:SD:=⟨.data false (.sl .arg mK)::bs 5 (.data false (dv 73728 iC)::bs 11 (.data false (.sl .arg mK)::DI::DI::bs 47 [])),zs 68 [],.none⟩
def aa9 (X:SD.D Nt)(K:iR R):=Pu.kS (λy0 y1=>ke 0 K Nt ((z1 (w y0 (z2 (u y1))) X.1),X.2)) X.1.1 (q2 X) (q3 X)
def agt:dI:=jO Nt aa9 (λX=>(X.1.2.1,q4 X))
abbrev HN:SD:=⟨.data false (.sl .arg mK)::bs 5 (.data false (dv 73728 iC)::B::B::DI::DI::.data false (dv 135168 mK)::bs 39 (DI::DI::bs 15 [])),zs 68 [],.none⟩
abbrev SG:SD:=⟨.data false (.sl .arg mK)::B::.data false (dv 24576 iC)::DI::DI::DB::.data false (dv 73728 iC)::B::B::DI::DI::.data false (dv 135168 mK)::bs 39 (DI::DI::bs 15 []),zs 68 [],.none⟩
def VN (X:SD.D HN)(K:iR R):=Pu.gR (λy0=>ke 2 K HN ((z6 (u y0) X.1),X.2)) (λy0 y1 y2 y3 y4=>kr K SG ((X.1.1,(y0,(y1,(y2,(y3,(X.1.2.1,(X.1.2.2.1,(X.1.2.2.2.1,(X.1.2.2.2.2.1,(X.1.2.2.2.2.2.1,(y4,()))))))))))),(),())) X.1.1 X.1.2.1 (q2 X) (q3 X) (q4 X) (q5 X)
def acC:dI:=jO HN VN q6
def aeh:eP:=(eP.nil.add 5 agt).add 14 acC
theorem afp:jh E ajU ag5 aeh (bl Tryz.f220 0):=lk Nt aa9 (λX=>(X.1.2.1,q4 X)) λX x=>((z1 (w x.1 (z2 (u x.2))) X.1),X.2)
theorem acv:jh E ajU ag5 aeh (bl Tryz.f220 1):=lk HN VN q6 λX x=>((z6 (u x) X.1),X.2)
theorem aqp:dA 220 anK:=fk ag5 (base.add ame) Tryz.func220 (Λ:=aeh) (cF afp (cF acv nF))
def anL:bp:=aU [pd (.sl bM),pf (.sl .str),pI,pd (.sl iC)] [rS,rB] (c4 Pu.ph)
def aoY:eE:=(eE.nil.add 141 aew).add 250 aeD
def alq:An:={mask:=mk [(5,[0,2,5,8,9,10,18,19,20])]}
abbrev IB:SD:=⟨.data false (.sl .arg bM)::B::DI::B::B::.ptr 5 0::B::B::.data false .str::DB::.data false .str::bs 7 (.data false (.sl .arg iC)::DI::DI::bs 21 []),zs 5 ((rj (.sl .arg .str))::zs 36 []),.none⟩
def aba (X:SD.D IB)(K:iR R):=Pu.lD (λy0 y1=>ke 0 K IB ((z4 (w y0 (z2 (u y1))) X.1),X.2)) (λy0 y1 y2 y3=>kr K IB ((z2 (w y0 (w y1 (w y2 (z2 (u y3))))) X.1),X.2)) X.1.1 X.1.2.1 (q2 X) (q3 X) (q5 X) (q6 X) X.2.1.1
def agu:dI:=jO IB aba (λX=>(q4 X,q7 X))
def ah6:eP:=eP.nil.add 5 agu
theorem afq:jh E aoY alq ah6 (bl Tryz.f221 0):=lk IB aba (λX=>(q4 X,q7 X)) λX x=>((z4 (w x.1 (z2 (u x.2))) X.1),X.2)
theorem aqq:dA 221 anL:=fk alq ((base.add acN).add ams) Tryz.func221 (Λ:=ah6) (cF afq nF)
def an4:bp:=aU [pd .str] [rI,rI] (c1 Pu.pW)
theorem amr:dA 248 an4:=f0 {} ((base.add TH).add ahk) Tryz.func248
def ajd:bp:=aU [pf df] [rS,rB] (c1 Pu.lX)
theorem amd:dA 192 ajd:=f0 {} ((((base.add HD).add acR).add amr).add acT) Tryz.func192
def anM:bp:=aU [pd .str] [rS,rB] (c1 Pu.vf)
theorem aqr:dA 222 anM:=f0 {merge:=mg [(3,38),(9,74),(12,84),(17,117)]} ((((((((((((base.add acO).add HD).add amd).add amg).add acR).add TH).add Xp).add amr).add acT).add amy).add ahk).add ahl) Tryz.func222
def ant:bp:=aU [pf df] [rB] (c1 Pu.lW)
theorem acQ:dA 199 ant:=f0 {merge:=mg [(1,2)]} (base.add K8) Tryz.func199
def aoq:bp:=aU [pd .str] [rI] (c1 Pu.Al)
def ajV:eE:=eE.nil
def ag6:An:={mask:=mk [(3,[0,3,4]),(7,[0,3,4,5])]}
abbrev NI:SD:=⟨.data false .str::B::B::.data false (.int .u32)::DI::DI::bs 28 [],zs 34 [],.none⟩
def abr (X:SD.D NI)(K:iR R):=Pu.oN (λy0 y1=>ke 2 K NI ((z1 (w y0 (z1 (u y1))) X.1),X.2)) X.1.1 (q2 X)
def agL:dI:=jO NI abr (λX=>(X.1.2.1,q3 X))
abbrev NH:SD:=⟨.data false .str::B::B::.data false (.int .u32)::DI::bs 29 [],zs 34 [],.none⟩
def abq (X:SD.D NH)(K:iR R):=Pu.ru (λy0 y1=>ke 0 K NH ((z1 (w y0 (u y1)) X.1),X.2)) X.1.1
def agK:dI:=jO NH abq (λX=>(X.1.2.1,q2 X))
def aei:eP:=(eP.nil.add 7 agL).add 3 agK
theorem afH:jh E ajV ag6 aei (bl Tryz.f283 1):=lk NI abr (λX=>(X.1.2.1,q3 X)) λX x=>((z1 (w x.1 (z1 (u x.2))) X.1),X.2)
theorem afG:jh E ajV ag6 aei (bl Tryz.f283 0):=lk NH abq (λX=>(X.1.2.1,q2 X)) λX x=>((z1 (w x.1 (u x.2)) X.1),X.2)
theorem aqW:dA 283 aoq:=fk ag6 base Tryz.func283 (Λ:=aei) (cF afG (cF afH nF))
def an6:bp:=aU [pd .str] [rS] (c1 Pu.tI)
theorem amt:dA 251 an6:=f0 {} (base.add aqW) Tryz.func251
def ajC:bp:=aU [pf df] [rS,rB] (c1 Pu.rX)
theorem aq3:dA 291 ajC:=f0 {} (((base.add acQ).add acR).add amt) Tryz.func291
def aol:bp:=aU [pd (.sl df)] [(false,(.sl (.own none) .str))] (c1 Pu.vi)
def ao9:eE:=eE.nil.add 291 ajC
def alC:An:={mask:=mk [(3,[3,9,10,11])],mv:=[21,26]}
abbrev NC:SD:=⟨B::B::B::.data false (dv 36864 .str)::bs 5 (.data false (.sl .arg df)::DI::DI::bs 15 []),zs 27 [],.none⟩
def abl (X:SD.D NC)(K:iR R):=Pu.mR (λy0 y1=>ke 0 K NC ((w y0 (z2 (u y1)) X.1),X.2)) X.1.2.1 (q2 X)
def agF:dI:=jO NC abl (λX=>(X.1.1,q3 X))
def aii:eP:=eP.nil.add 3 agF
theorem afB:jh E ao9 alC aii (bl Tryz.f267 0):=lk NC abl (λX=>(X.1.1,q3 X)) λX x=>((w x.1 (z2 (u x.2)) X.1),X.2)
theorem aqL:dA 267 aol:=fk alC (base.add aq3) Tryz.func267 (Λ:=aii) (cF afB nF)
def aom:bp:=aU [pf df,pI] [(false,(.sl (.own none) df))] (c2 Pu.Am)
def apa:eE:=(eE.nil.add 44 OY).add 100 aes
def alD:An:={mask:=mk [(8,[1,2,5,6,7])],merge:=mg [(1,17),(4,30)],mv:=[83,87]}
abbrev ND:SD:=⟨B::DI::.ptr 2 0::B::B::.data false .str::.data false (dv 73728 df)::DI::bs 80 [],Z::Z::(some Y3)::zs 85 [],.none⟩
def abm (X:SD.D ND)(K:iR R):=Pu.vq (λy0 y1=>ke 0 K ND ((z2 (w y0 (u y1)) X.1),X.2)) X.1.1 X.1.2.1 X.2.1.1
def agG:dI:=jO ND abm (λX=>(q2 X,q3 X))
def aij:eP:=eP.nil.add 8 agG
theorem afC:jh E apa alD aij (bl Tryz.f268 0):=lk ND abm (λX=>(q2 X,q3 X)) λX x=>((z2 (w x.1 (u x.2)) X.1),X.2)
theorem aqM:dA 268 aom:=fk alD ((base.add Bk).add K8) Tryz.func268 (Λ:=aij) (cF afC nF)
def anN:bp:=aU [pf df,pI] [(false,(.sl (.own none) .str))] (c2 Pu.se)
theorem aqs:dA 223 anN:=f0 {} ((base.add aqL).add aqM) Tryz.func223
def ai0:bp:=aU [pd (.sl bM),pf (.sl .str),pI,pf rl] [(true,Y1),(false,(.sl (.own none) .str)),rI] (c4 Pu.pw)
theorem apM:dA 164 ai0:=f0 {merge:=mg [(1,28)],sb:=mg [(8,8)]} ((((((((base.add o94).add acO).add ZT).add aqo).add aqp).add aqq).add aqr).add aqs) Tryz.func164
def amO:bp:=aU [pd (.sl bM),pf (.sl .str),pI,pf rl] [(true,Y1),(false,(.sl (.own none) .str)),rI,rI] (c4 Pu.qF)
def aoD:eE:=eE.nil.add 164 ai0
def ak1:An:={mask:=mk [(3,[0,2,5,7,8,9,10,11,12,13,14])],mv:=[35,42]}
abbrev SE:SD:=⟨.data false (.sl .arg bM)::B::DI::B::B::.ptr 5 0::B::.ptr 7 0::.ptr 8 0::.data false (dv 110592 .str)::DI::DI::.data false (dv 147456 .str)::DI::DI::bs 30 [],zs 5 ((rj (.sl .arg .str))::Z::(some Y1)::(some Y1)::zs 36 []),.none⟩
abbrev V6:SD:=⟨.data false (.sl .arg bM)::B::DI::B::B::.ptr 5 0::B::.ptr 7 0::.ptr 8 0::.data false (dv 110592 .str)::DI::DI::.data false (.sl .loc .str)::DI::DI::bs 30 [],zs 5 ((rj (.sl .arg .str))::Z::(some Y1)::(some Y1)::zs 36 []),.none⟩
def aaC (X:SD.D SE)(K:iR R):=Pu.mz (λy0 y1 y2 y3 y4 y5 y6 y7=>kr K V6 ((X.1.1,(X.1.2.1,(y0,(y1,(y2,(y3,(y4,(y5,())))))))),(X.2.1.1,(y6,(y7,()))),())) X.1.1 X.1.2.1 (q2 X) (q3 X) (q4 X) X.2.1.1 X.2.1.2.2.1
def afV:dI:=jO SE aaC (λX=>(q5 X,q6 X,q7 X,X.2.1.2.1))
def ahI:eP:=eP.nil.add 3 afV
theorem aeS:jh E aoD ak1 ahI (bl Tryz.f107 0):=lk SE aaC (λX=>(q5 X,q6 X,q7 X,X.2.1.2.1)) λX x=>((z5 (w x.1 (w x.2.1 (u x.2.2.1))) X.1),(z1 (u x.2.2.2) X.2.1),X.2.2)
theorem apk:dA 107 amO:=fk ak1 (base.add apM) Tryz.func107 (Λ:=ahI) (cF aeS nF)
def amP:bp:=aU [pf lj,pI] [(true,Y17),(false,(.sl (.own none) (.int .i64)))] (c2 Pu.lB)
def aoE:eE:=((((eE.nil.add 42 e42).add 44 OY).add 71 e71).add 98 e98).add 129 aiN
def ak2:An:={mask:=mk [(6,[1,2,4,6,7,28,29,30])],merge:=mg [(2,22)],mv:=[23,34,43,55,56]}
abbrev M6:SD:=⟨B::DI::.ptr 2 0::B::.ptr 4 0::B::.ptr 6 0::.data false (dv 86016 (.int .i64))::bs 20 (.data false (.sl .arg jq)::DI::DI::bs 26 []),Z::Z::(some Y24)::Z::(rj (cX Y1 (cX (jK (jK (jK (dv 49174 (.int .i64))))) (cX (dv 49177 jq) zk))))::Z::(rj (cX Y1 (cX (jK (jK (jK (dv 73750 (.int .i64))))) (cX (dv 73753 jq) zk))))::zs 50 [],.none⟩
def aaD (X:SD.D M6)(K:iR R):=Pu.jE (λy0 y1 y2=>ke 0 K M6 ((z1 (w y0 (z2 (u y1))) X.1),(z2 (u y2) X.2.1),X.2.2)) X.1.1 (q2 X) (q3 X) X.2.1.1 X.2.1.2.1
def afW:dI:=jO M6 aaD (λX=>(X.1.2.1,q4 X,X.2.1.2.2.1))
def ahJ:eP:=eP.nil.add 6 afW
theorem aeT:jh E aoE ak2 ahJ (bl Tryz.f108 0):=lk M6 aaD (λX=>(X.1.2.1,q4 X,X.2.1.2.2.1)) λX x=>((z1 (w x.1 (z2 (u x.2.1))) X.1),(z2 (u x.2.2) X.2.1),X.2.2)
theorem apl:dA 108 amP:=fk ak2 (((((base.add o42).add Bk).add o71).add o98).add alZ) Tryz.func108 (Λ:=ahJ) (cF aeT nF)
def e55:bp:=aU [pf dY] [(true,Y0)] (c1 Pu.lE)
theorem o55:dA 55 e55:=f0 {mv:=[15,33,37,51,54,58]} ((((base.add o17).add o27).add apk).add apl) Tryz.func55
def aiD:bp:=aU [pf gr] [(true,Y13),rB] (c1 Pu.nR)
theorem apm:dA 109 aiD:=f0 {merge:=mg [(1,11)]} (base.add o47) Tryz.func109
def aiE:bp:=aU [pf gr] [(true,Y13)] (c1 Pu.vV)
theorem apn:dA 110 aiE:=f0 {} ((base.add o47).add ahf) Tryz.func110
def e56:bp:=aU [pf dY,pI] [(true,Y0),rI] (c2 Pu.mT)
def g56:eE:=(((((eE.nil.add 17 e17).add 27 e27).add 32 e32).add 44 OY).add 109 aiD).add 110 aiE
def n56:An:={mask:=mk [(6,[1,4,6,7,25,26])],merge:=mg [(2,21)],mv:=[22,78]}
abbrev UO:SD:=⟨B::DI::B::B::.ptr 4 0::B::.ptr 6 0::DI::bs 17 (DI::DI::bs 53 []),zs 4 ((some Y6)::Z::(some Y12)::zs 73 []),.none⟩
def adZ (X:SD.D UO)(K:iR R):=Pu.mw (λy0 y1 y2=>ke 0 K UO ((z1 (w y0 (z1 (u y1))) X.1),(z1 (u y2) X.2.1),X.2.2)) X.1.1 (q2 X) X.2.1.1
def akL:dI:=jO UO adZ (λX=>(X.1.2.1,q3 X,X.2.1.2.1))
def L56:eP:=eP.nil.add 6 akL
theorem akh:jh E g56 n56 L56 (bl Tryz.f56 0):=lk UO adZ (λX=>(X.1.2.1,q3 X,X.2.1.2.1)) λX x=>((z1 (w x.1 (z1 (u x.2.1))) X.1),(z1 (u x.2.2) X.2.1),X.2.2)
theorem o56:dA 56 e56:=fk n56 ((((((base.add o17).add o27).add o32).add Bk).add apm).add apn) Tryz.func56 (Λ:=L56) (cF akh nF)
def aiF:bp:=aU [pf gr] [(true,Y13)] (c1 Pu.sj)
theorem apo:dA 111 aiF:=f0 {} ((base.add o47).add ahf) Tryz.func111
def e57:bp:=aU [pf dY] [(true,Y0)] (c1 Pu.rA)
def g57:eE:=((eE.nil.add 17 e17).add 27 e27).add 111 aiF
def n57:An:={mask:=mk [(5,[2,3,13,14])],mv:=[10,28]}
abbrev UP:SD:=⟨B::B::.ptr 2 0::.ptr 3 0::bs 9 (DI::DI::bs 14 []),Z::Z::(some Y2)::(some Y5)::zs 25 [],.none⟩
def ad0 (X:SD.D UP)(K:iR R):=Pu.qv (λy0 y1=>ke 0 K UP ((z1 (u y0) X.1),(z1 (u y1) X.2.1),X.2.2)) X.1.1 X.2.1.1
def akM:dI:=jO UP ad0 (λX=>(X.1.2.1,X.2.1.2.1))
def L57:eP:=eP.nil.add 5 akM
theorem aki:jh E g57 n57 L57 (bl Tryz.f57 0):=lk UP ad0 (λX=>(X.1.2.1,X.2.1.2.1)) λX x=>((z1 (u x.1) X.1),(z1 (u x.2) X.2.1),X.2.2)
theorem o57:dA 57 e57:=fk n57 (((base.add o17).add o27).add apo) Tryz.func57 (Λ:=L57) (cF aki nF)
def aje:bp:=aU [pf lj] [rI] (c1 Pu.pz)
def aoR:eE:=eE.nil
def alh:An:={mask:=mk [(3,[3,7,8,9])]}
abbrev Nn:SD:=⟨B::B::B::DI::B::B::B::.data false (.sl .arg jq)::DI::DI::bs 9 [],zs 19 [],.none⟩
def aa0 (X:SD.D Nn)(K:iR R):=Pu.lH (λy0 y1=>ke 0 K Nn ((w y0 (z2 (u y1)) X.1),X.2)) X.1.2.1 (q2 X)
def agk:dI:=jO Nn aa0 (λX=>(X.1.1,q3 X))
def ahY:eP:=eP.nil.add 3 agk
theorem afg:jh E aoR alh ahY (bl Tryz.f193 0):=lk Nn aa0 (λX=>(X.1.1,q3 X)) λX x=>((w x.1 (z2 (u x.2)) X.1),X.2)
theorem ap7:dA 193 aje:=fk alh base Tryz.func193 (Λ:=ahY) (cF afg nF)
def ajf:bp:=aU [pf jo,pI] [(true,Y8),(false,(.sl (.own none) (.int .i64))),rB] (c2 Pu.qE)
theorem ap8:dA 194 ajf:=f0 {merge:=mg [(2,20)],mv:=[21,28],mb:=mg [(28,7)],sb:=mg [(4,4)]} ((((base.add o39).add Bk).add o46).add o72) Tryz.func194
def ajg:bp:=yT [pd (.sl bM),pf (.sl .str),pI,pf jo,pd (.sl (.int .i64)),pd .str,pI] [(true,(.sl (.own none) .str)),(false,(.sl (.own none) iC)),rB] [(true,(.sl .arg .str)),(false,(.sl (.own none) iC)),rB] rfl λa=>Pu.mV a.1 a.2.1 a.2.2.1 a.2.2.2.1 a.2.2.2.2.1 a.2.2.2.2.2.1 a.2.2.2.2.2.2.1
def ajT:eE:=(eE.nil.add 34 e34).add 96 e96
def ali:An:={mask:=mk [(3,[0,2,5,6,8,10,14,15,16,17,24,25,26])],peel:=[3],mv:=[40,49,53,54,55,65,66],sb:=mg [(21,21)]}
abbrev No:SD:=⟨.data false (.sl .arg bM)::B::DI::B::B::.data false .str::DI::B::.ptr 8 0::B::.ptr 10 0::B::B::B::.ptr 14 0::.data false (dv 184320 iC)::DB::.data false (dv 208896 iC)::bs 6 (.data false (.sl .arg (.int .i64))::DI::DI::bs 40 []),zs 8 ((rj (dv 98305 .str))::Z::(some Y14)::Z::Z::Z::(rj (dv 172033 .str))::zs 52 []),.none⟩
abbrev V7:SD:=⟨.data false (.sl .arg bM)::B::DI::B::B::.data false .str::DI::B::.ptr 8 0::B::.ptr 10 0::B::B::B::.ptr 14 0::.data false (dv 184320 iC)::DB::.data false (dv 208896 iC)::bs 6 (.data false (.sl .arg (.int .i64))::DI::DI::bs 40 []),zs 8 ((rj (.sl .loc .str))::Z::(some Y14)::Z::Z::Z::(rj (dv 172033 .str))::zs 52 []),.none⟩
def aa1 (X:SD.D No)(K:iR R):=Pu.jW (λy0 y1 y2 y3=>ke 0 K No ((z2 (w y0 (z3 (w y1 (z2 (u y2))))) X.1),(u y3 X.2.1),X.2.2)) (λy0 y1 y2 y3 y4 y5 y6=>kr K V7 ((X.1.1,(X.1.2.1,(y0,(X.1.2.2.2.1,(y1,(y2,(y3,(X.1.2.2.2.2.2.2.2.1,(X.1.2.2.2.2.2.2.2.2.1,(y4,())))))))))),(y5,(X.2.1.2.1,(y6,()))),())) X.1.1 X.1.2.1 (q3 X) (q4 X) (q5 X) (q7 X) (q8 X) X.2.1.2.1 X.2.1.2.2.1
def agl:dI:=jO No aa1 (λX=>(q2 X,q6 X,q9 X,X.2.1.1))
def ahZ:eP:=eP.nil.add 3 agl
theorem afh:jh E ajT ali ahZ (bl Tryz.f195 0):=lk No aa1 (λX=>(q2 X,q6 X,q9 X,X.2.1.1)) λX x=>((z2 (w x.1 (z3 (w x.2.1 (z2 (u x.2.2.1))))) X.1),(u x.2.2.2 X.2.1),X.2.2)
theorem ap9:dA 195 ajg:=im.ofAlt (PW (Γ:=ajT) (an:=ali) (Λ:=ahZ) (by rfl) ((base.add o34).add o96) Tryz.func195 (by kernel_rfl) (ao (cF afh nF))) (λa=>by kernel_rfl)
def ajh:bp:=aU [pd (.sl bM),pf (.sl .str),pI,pf rl,pd (.sl .str)] [(true,(.sl (.own none) .str)),(true,Y1),rB] (c5 Pu.jN)
def aoS:eE:=(eE.nil.add 49 e49).add 97 e97
def alj:An:={mask:=mk [(3,[0,2,6,8,10,11,12,13,14,21,22,23])],mv:=[27,43],mb:=mg [(43,13)],sb:=mg [(10,10),(11,11),(13,13),(14,14)]}
abbrev Iy:SD:=⟨.data false (.sl .arg bM)::B::DI::B::B::B::.ptr 6 0::B::.ptr 8 0::B::.ptr 10 0::.ptr 11 0::DB::.ptr 13 0::.ptr 14 0::bs 6 (.data false (.sl .arg .str)::DI::DI::bs 21 []),zs 6 ((rj (.sl .arg .str))::Z::(some Y1)::Z::(rj (dv 122881 .str))::(some Y1)::Z::(rj (dv 159745 .str))::(some Y1)::zs 30 []),.none⟩
def aa3 (X:SD.D Iy)(K:iR R):=Pu.kJ (λy0 y1 y2=>ke 0 K Iy ((z5 (u y0) X.1),(z4 (w y1 (u y2)) X.2.1),X.2.2)) (λy0 y1 y2 y3 y4 y5=>kr K Iy ((z2 (w y0 (z2 (u y1))) X.1),(z2 (w y2 (w y3 (w y4 (u y5)))) X.2.1),X.2.2)) X.1.1 X.1.2.1 (q2 X) (q3 X) (q4 X) X.2.1.1 X.2.1.2.1 X.2.1.2.2.1 X.2.1.2.2.2.1
def agn:dI:=jO Iy aa3 (λX=>(q5 X,X.2.1.2.2.2.2.1,X.2.1.2.2.2.2.2.1))
def ah0:eP:=eP.nil.add 3 agn
theorem afj:jh E aoS alj ah0 (bl Tryz.f197 0):=lk Iy aa3 (λX=>(q5 X,X.2.1.2.2.2.2.1,X.2.1.2.2.2.2.2.1)) λX x=>((z5 (u x.1) X.1),(z4 (w x.2.1 (u x.2.2)) X.2.1),X.2.2)
theorem aqa:dA 197 ajh:=fk alj ((base.add ZV).add o97) Tryz.func197 (Λ:=ah0) (cF afj nF)
def am0:bp:=aU [pd (.sl bM),pf (.sl .str),pI,pf lj,pf df,pI,pI] [(true,(.sl (.own none) .str)),(true,Y17),rB] (c7 Pu.sg)
def aoI:eE:=((((((((((((eE.nil.add 42 e42).add 44 OY).add 49 e49).add 71 e71).add 95 e95).add 100 aes).add 151 aiT).add 192 ajd).add 193 aje).add 194 ajf).add 195 ajg).add 196 aez).add 197 ajh
def ak6:An:={mask:=mk [(19,[0,2,10,14,15,17,18,22,24,26,28,29,139,140,141])],merge:=mg [(2,57),(6,92),(15,135)],mv:=[58,59,93,94,97,107,108,109,122,123,136,137,145,151,164,165,169,174,184,185],mb:=mg [(58,17),(59,18),(93,17),(94,18),(107,17),(108,18),(136,17),(137,18),(164,17),(165,18),(184,26),(185,22)],sb:=mg [(14,14),(15,15),(17,17),(18,18),(26,26)]}
abbrev HL:SD:=⟨.data false (.sl .arg bM)::B::DI::bs 7 (.ptr 10 0::B::B::B::.ptr 14 0::.ptr 15 0::B::.ptr 17 0::.ptr 18 0::B::B::B::.ptr 22 0::B::.data false (dv 294912 (.int .i64))::B::.ptr 26 0::B::.data false (dv 344064 mK)::.data false (dv 356352 .str)::bs 109 (.data false (.sl .loc mK)::DI::DI::bs 44 [])),zs 10 ((some Y24)::Z::Z::Z::(rj (dv 172033 .str))::(rj (cX Y1 (cX (jK (jK (jK (dv 184342 (.int .i64))))) (cX (dv 184345 jq) zk))))::Z::(rj (dv 208897 .str))::(rj (cX Y1 (cX (jK (jK (jK (dv 221206 (.int .i64))))) (cX (dv 221209 jq) zk))))::Z::Z::Z::(rj (cX Y1 (cX (jK (jK (jK (dv 270358 (.int .i64))))) (cX (dv 270361 jq) zk))))::Z::Z::Z::(rj (.sl .loc .str))::zs 159 []),.none⟩
def VL (X:SD.D HL)(K:iR R):=Pu.gy (λy0 y1=>ke 0 K HL ((z4 (w y0 (z2 (u y1))) X.1),X.2)) X.1.1 X.1.2.1 (q2 X) (q3 X) (q5 X) (q6 X) X.2.1.1 X.2.1.2.1 X.2.1.2.2.1 X.2.1.2.2.2.1 X.2.1.2.2.2.2.1 X.2.1.2.2.2.2.2.1 X.2.1.2.2.2.2.2.2.1
def acA:dI:=jO HL VL (λX=>(q4 X,q7 X))
def ahN:eP:=eP.nil.add 19 acA
theorem acs:jh E aoI ak6 ahN (bl Tryz.f132 0):=lk HL VL (λX=>(q4 X,q7 X)) λX x=>((z4 (w x.1 (z2 (u x.2))) X.1),X.2)
theorem apB:dA 132 am0:=fk ak6 (((((((((((((base.add o42).add Bk).add ZV).add o71).add o95).add K8).add al2).add amd).add ap7).add ap8).add ap9).add ame).add aqa) Tryz.func132 (Λ:=ahN) (cF acs nF)
def e78:bp:=aU [pf dY,pf df,pI,pI] [(true,Y0),rB] (c4 Pu.vm)
theorem o78:dA 78 e78:=f0 {mv:=[19,20,34,36,38]} (((base.add o17).add o27).add apB) Tryz.func78
def ans:bp:=aU [pd .str] [rS,rB] (c1 Pu.vd)
theorem aqb:dA 198 ans:=f0 {merge:=mg [(2,17)]} (base.add amt) Tryz.func198
def am1:bp:=aU [pd .str] [(true,Y3),rI] (c1 Pu.tE)
theorem apC:dA 133 am1:=f0 {} (((base.add acO).add aqb).add acQ) Tryz.func133
def e51:bp:=aU [pd (.sl (.int .i64)),pI] [rB] (c2 Pu.sT)
def g51:eE:=eE.nil
def n51:An:={mask:=mk [(2,[1,4,7,8,9])]}
abbrev Px:SD:=⟨B::DI::B::B::DB::B::B::.data false (.sl .arg (.int .i64))::DI::DI::bs 7 [],zs 17 [],.none⟩
def adX (X:SD.D Px)(K:iR R):=Pu.tL (λy0=>ke 0 K Px ((z4 (u y0) X.1),X.2)) (λy0 y1=>kr K Px ((z1 (w y0 (z2 (u y1))) X.1),X.2)) X.1.1 X.1.2.1 (q2 X) (q3 X)
def akJ:dI:=jO Px adX q4
def L51:eP:=eP.nil.add 2 akJ
theorem akf:jh E g51 n51 L51 (bl Tryz.f51 0):=lk Px adX q4 λX x=>((z4 (u x) X.1),X.2)
theorem o51:dA 51 e51:=fk n51 base Tryz.func51 (Λ:=L51) (cF akf nF)
def am2:bp:=aU [pf wQ,pf df] [rB] (c2 Pu.wU)
theorem apD:dA 134 am2:=f0 {merge:=mg [(1,4)]} ((base.add o43).add o51) Tryz.func134
def aor:bp:=aU [pI,pI,pI] [rB] (c3 Pu.ow)
theorem aqX:dA 284 aor:=f0 {} base Tryz.func284
def ajr:bp:=aU [pf jC,pf df] [rB] (c2 Pu.qy)
theorem aqD:dA 252 ajr:=f0 {merge:=mg [(1,4)]} ((((base.add Bk).add K8).add al6).add aqX) Tryz.func252
def anu:bp:=aU [pd (.sl jC),pf df] [rI] (c2 Pu.vh)
def aoT:eE:=(eE.nil.add 102 aet).add 252 ajr
def alk:An:={mask:=mk [(5,[0,3,5,11,12,13])],merge:=mg [(7,34)]}
abbrev Nq:SD:=⟨.data false (.sl .arg jC)::B::B::.ptr 3 0::B::DI::bs 5 (.data false (.sl .arg jC)::DI::DI::bs 24 []),Z::Z::Z::(some Y3)::zs 34 [],.none⟩
def aa4 (X:SD.D Nq)(K:iR R):=Pu.qt (λy0 y1=>ke 0 K Nq ((z1 (w y0 (z2 (u y1))) X.1),X.2)) X.1.1 (q2 X) (q3 X) X.2.1.1
def ago:dI:=jO Nq aa4 (λX=>(X.1.2.1,q4 X))
def ah1:eP:=eP.nil.add 5 ago
theorem afk:jh E aoT alk ah1 (bl Tryz.f200 0):=lk Nq aa4 (λX=>(X.1.2.1,q4 X)) λX x=>((z1 (w x.1 (z2 (u x.2))) X.1),X.2)
theorem aqc:dA 200 anu:=fk alk ((base.add alP).add aqD) Tryz.func200 (Λ:=ah1) (cF afk nF)
def anv:bp:=aU [pf (.sl gZ),pf oZ] [rI] (c2 Pu.vg)
theorem aqd:dA 201 anv:=f0 {} ((base.add alQ).add al7) Tryz.func201
def an7:bp:=aU [pf zT,pf oZ] [rI] (c2 Pu.wX)
theorem aqE:dA 253 an7:=f0 {merge:=mg [(2,17)]} (base.add ami) Tryz.func253
def anx:bp:=aU [pf zT,pI,pf oZ] [rI] (c3 Pu.qz)
theorem aqe:dA 203 anx:=f0 {merge:=mg [(2,18)]} ((base.add alR).add aqE) Tryz.func203
def am3:bp:=aU [pf qj,pI,pf df] [rI] (c3 Pu.qA)
theorem apE:dA 135 am3:=f0 {merge:=mg [(1,17)]} ((((((base.add o48).add K8).add aqc).add aqd).add ahh).add aqe) Tryz.func135
def an8:bp:=aU [pf df,pf df] [rB] (c2 Pu.vp)
theorem aqF:dA 254 an8:=f0 {} base Tryz.func254
def anz:bp:=aU [pf H3,pf df] [rB] (c2 Pu.tt)
theorem amf:dA 204 anz:=f0 {merge:=mg [(1,42),(4,76),(6,4)]} (((((base.add Bk).add K8).add al5).add acQ).add aqF) Tryz.func204
def anA:bp:=aU [pf H3,pf df] [(true,(.pair Y3 (.pair (.int .i64) (.int .i64))))] (c2 Pu.Cy)
theorem aqf:dA 205 anA:=f0 {} (base.add amf) Tryz.func205
def anB:bp:=aU [pf df] [(true,(.pair Y3 (.pair (.int .i64) (.int .i64))))] (c1 Pu.BJ)
theorem aqg:dA 206 anB:=f0 {} base Tryz.func206
def am4:bp:=aU [pd (.sl bM),pf (.sl .str),pI,pf ef,pd .str,pf df,pd .bool] [(true,(.sl (.own none) .str)),(true,Y9)] (c7 Pu.nP)
theorem apF:dA 136 am4:=f0 {merge:=mg [(1,30),(3,44)],mv:=[53,68,77],mb:=mg [(77,16)],sb:=mg [(14,14),(15,15)]} (((((((base.add o45).add ZV).add alS).add acQ).add amf).add aqf).add aqg) Tryz.func136
def e79:bp:=aU [pf dY,pd .str] [(true,Y0)] (c2 Pu.qu)
theorem o79:dA 79 e79:=f0 {mv:=[14,34,46,62,69,90,103],sb:=mg [(92,5)]} (((((((base.add o17).add o27).add alT).add apC).add apD).add apE).add apF) Tryz.func79
def e90:bp:=aU [pd .bool] [rI] (c1 Pu.CB)
theorem o90:dA 90 e90:=f0 {} base Tryz.func90
def e31:bp:=yT [pf dY,pf zn] [(true,Y0),rI] [(true,Y4),rI] rfl λa=>Pu.nT a.1 a.2.1
theorem o31:dA 31 e31:=im.ofAlt (PW (an:={mv:=[12,23],mb:=mg [(23,6)],sb:=mg [(4,4)]}) (Λ:=eP.nil) (by rfl) (((((((base.add o54).add o55).add o56).add o57).add o78).add o79).add o90) Tryz.func31 (by kernel_rfl) (ao nF)) (λa=>by kernel_rfl)
def ajK:bp:=SM [pf dY,pf zn] [(true,Y0),rI] λa=>Pu.nT a.1 a.2.1
theorem ard:dA 31 ajK:=o31.only
def e13:bp:=yT [pf dY,pd (.sl zn)] [(true,Y0),rI] [(true,Y4),rI] rfl λa=>Pu.vx a.1 a.2.1
def g13:eE:=(eE.nil.add 14 e14).add 31 ajK
def n13:An:={mask:=mk [(3,[1,2,4,6,7])],peel:=[3],mv:=[24,31,33,43],sb:=mg [(8,8)]}
abbrev UE:SD:=⟨B::.data false (.sl .arg zn)::.ptr 2 0::B::.ptr 4 0::B::DI::DI::bs 37 [],Z::Z::(some Y2)::Z::(some Y6)::zs 40 [],.none⟩
def adF (X:SD.D UE)(K:iR R):=Pu.ir (λy0 y1 y2=>ke 0 K UE ((z1 (w y0 (u y1)) X.1),(u y2 X.2.1),X.2.2)) X.1.1 X.2.1.2.1
def akr:dI:=jO UE adF (λX=>(X.1.2.1,q2 X,X.2.1.1))
def L13:eP:=eP.nil.add 3 akr
theorem ajX:jh E g13 n13 L13 (bl Tryz.f13 0):=lk UE adF (λX=>(X.1.2.1,q2 X,X.2.1.1)) λX x=>((z1 (w x.1 (u x.2.1)) X.1),(u x.2.2 X.2.1),X.2.2)
theorem o13:dA 13 e13:=im.ofAlt (PW (Γ:=g13) (an:=n13) (Λ:=L13) (by rfl) ((base.add o14).add ard) Tryz.func13 (by kernel_rfl) (ao (cF ajX nF))) (λa=>by kernel_rfl)
def e22:bp:=aU [pf dY,pI,pI] [(true,Y0)] (c3 Pu.mO)
def g22:eE:=((((((eE.nil.add 17 e17).add 27 e27).add 44 OY).add 54 e54).add 55 e55).add 56 e56).add 57 e57
def n22:An:={mask:=mk [(6,[1,2,6,7,8])],merge:=mg [(2,23)],mv:=[24,33,40]}
abbrev UG:SD:=⟨B::DI::DI::B::B::B::.ptr 6 0::.ptr 7 0::DI::bs 32 [],zs 6 ((some Y12)::(rj (cX (dv 86017 .str) (cX (dv 86020 bM) (cX (cX Y1 (cX (jK (jK (jK (dv 86044 (.int .i64))))) (cX (dv 86047 jq) zk))) (cX (dv 86053 ef) (cX (dv 86056 jo) (cX (dv 86059 gr) (cX (dv 86062 .bool) (cX (jK (cX .bool (dv 86071 (.int .i64)))) (cX (cX (dv 86074 jC) (cX (dv 86077 gZ) (cX .str (dv 86083 (.int .i64))))) (cX (dv 86086 eG) (cX .bool (cX (dv 86092 .str) (cX (dv 86095 (.int .i64)) (cX (dv 86098 (.int .i64)) (cX zk Y1))))))))))))))))::zs 33 []),.none⟩
def adI (X:SD.D UG)(K:iR R):=Pu.pe (λy0 y1=>ke 0 K UG ((z2 (u y0) X.1),(z1 (u y1) X.2.1),X.2.2)) X.1.1 X.1.2.1 X.2.1.1
def aku:dI:=jO UG adI (λX=>(q2 X,X.2.1.2.1))
def L22:eP:=eP.nil.add 6 aku
theorem aj0:jh E g22 n22 L22 (bl Tryz.f22 0):=lk UG adI (λX=>(q2 X,X.2.1.2.1)) λX x=>((z2 (u x.1) X.1),(z1 (u x.2) X.2.1),X.2.2)
theorem o22:dA 22 e22:=fk n22 (((((((base.add o17).add o27).add Bk).add o54).add o55).add o56).add o57) Tryz.func22 (Λ:=L22) (cF aj0 nF)
def e58:bp:=aU [pd (.sl bM),pf (.sl .str),pI,pf ef] [rB] (c4 Pu.nJ)
theorem o58:dA 58 e58:=f0 {} ((base.add o45).add alU) Tryz.func58
def e23:bp:=aU [pf dY] [rB] (c1 Pu.qw)
def g23:eE:=(eE.nil.add 17 e17).add 58 e58
def n23:An:={mask:=mk [(4,[1,2,16,17,18])],merge:=mg [(1,14),(6,31)]}
abbrev Po:SD:=⟨B::.ptr 1 0::DB::bs 13 (.data false (.sl .arg ef)::DI::DI::bs 14 []),Z::(some Y4)::zs 31 [],.none⟩
def adJ (X:SD.D Po)(K:iR R):=Pu.sa (λy0=>ke 0 K Po ((z3 (u y0) X.1),X.2)) (λy0 y1=>kr K Po ((w y0 (z2 (u y1)) X.1),X.2)) X.1.1 X.1.2.1 (q2 X) X.2.1.1
def akv:dI:=jO Po adJ q3
def L23:eP:=eP.nil.add 4 akv
theorem aj1:jh E g23 n23 L23 (bl Tryz.f23 0):=lk Po adJ q3 λX x=>((z3 (u x) X.1),X.2)
theorem o23:dA 23 e23:=fk n23 ((base.add o17).add o58) Tryz.func23 (Λ:=L23) (cF aj1 nF)
abbrev uJ:ax PS:=[pd (.sl (.int .u8))]
def zw:bp:=aU uJ [rB] (c1 Pu.yd)
theorem F0:dA 6 zw:=f0 {merge:=mg [(6,2)],sb:=mg [(7,7)]} (((((((base.add o7).add o8).add o9).add o13).add o17).add o22).add o23) Tryz.func6
end
end Go.Proofs.YtainmjjkipbciaaGreat.Fn
