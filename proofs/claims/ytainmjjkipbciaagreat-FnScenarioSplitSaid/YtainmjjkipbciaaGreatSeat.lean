import Derived.Test.YtainmjjkipbciaaGreatDnSig
import Derived.Test.YtainmjjkipbciaaGreatPure
import Derived.Test.YtainmjjkipbciaaGreatRows
/- Each function of the program is its pure function (made by gen.py). -/
namespace Go.Proofs.YtainmjjkipbciaaGreat.Fn
open Go.Dn
open Go.Pu Go.Proofs.Tryz
set_option maxRecDepth 100000
set_option linter.unusedVariables false
noncomputable section
variable {an:An} {Γ:fy} {Λ:dL} {f:Nat} {P:Program} {A0 A1 A2 A3 A4 A5 A6 C R σ:Type} {rs:aw (Bool×FT)} {s:aw PS}
abbrev gO (R:Type):=Ex->AS->Option R
abbrev Al:FT:=.int .i64
abbrev cS (a b:FT):FT:=.pair a b
abbrev jG (b:FT):FT:=.pair (.int .i64) b
abbrev dp (n:Nat)(t:CT):FT:=.sl (.own (some n)) t
abbrev rD (t:FT):Option FT:=some t
abbrev cO:=gY Tryz.prog
abbrev B:PD:=.bot
abbrev DI:PD:=.data false (.int .i64)
abbrev DB:PD:=.data false .bool
abbrev Z:ax FT:=none
theorem nF {p:Code->Prop}:∀x∈([]:aw Code),p x:=λ_ h=>nomatch h
theorem cF {p:Code->Prop}{a:Code}{l:aw Code}(h:p a)(t:∀x∈l,p x):∀x∈a::l,p x:=List.forall_mem_cons.2 ⟨h,t⟩
theorem hF {p:Code->Prop}{l m:aw Code}(e:l=m)(h:∀x∈m,p x):∀x∈l,p x:=e▸h
theorem fk {E:Env}{F:BH s->ax (kO rs)}{fn:Func}(an:An)(hS:Sound P E Γ)(hf:P.funcs[f]?=some fn){l:aw Code}(h:∀c∈l,hY E Γ an Λ c)(hn:(fn.name== "runtime.NumGoroutine")=false:=by kernel_rfl)(hl:iW (fn.body.getD .skip)=l:=by kernel_rfl)(fE:an.cut=[]:=by kernel_rfl)(hF:∀a,JY E Γ an Λ fn rs (nf s a)=F a:=by intro a;kernel_rfl):gY P f (aN s rs F):=gY.of (ahD hS hf hn (Bn.of (Fn.hF hl h) fE)) hF
theorem ao {E:Env}{b:Code}{l:aw Code}(h:∀c∈l,hY E Γ an Λ c)(hl:iW b=l:=by kernel_rfl)(hc:an.cut=[]:=by kernel_rfl):Bn E Γ an Λ b:=Bn.of (Fn.hF hl h) hc
theorem ac {E:Env}{b:Code}{l m:aw Code}(h:∀c∈l,hY E Γ an Λ c)(hc:∀c∈m,TZ E Γ an Λ c)(hl:iW b=l:=by kernel_rfl)(hm:kj an.cut b=m:=by kernel_rfl):Bn E Γ an Λ b:=⟨Fn.hF hl h,Fn.hF hm hc⟩
theorem fc {E:Env}{F:BH s->ax (kO rs)}{fn:Func}(an:An)(hS:Sound P E Γ)(hf:P.funcs[f]?=some fn){l m:aw Code}(h:∀c∈l,hY E Γ an Λ c)(hc:∀c∈m,TZ E Γ an Λ c)(hn:(fn.name== "runtime.NumGoroutine")=false:=by kernel_rfl)(hl:iW (fn.body.getD .skip)=l:=by kernel_rfl)(hm:kj an.cut (fn.body.getD .skip)=m:=by kernel_rfl)(hF:∀a,JY E Γ an Λ fn rs (nf s a)=F a:=by intro a;kernel_rfl):gY P f (aN s rs F):=gY.of (ahD hS hf hn ⟨Fn.hF hl h,Fn.hF hm hc⟩) hF
abbrev pd (t:CT):PS:=.data false t
abbrev pf (t:CT):PS:=.data true t
abbrev pI:PS:=.data false (.int .i64)
abbrev rB:Bool×FT:=(false,.bool)
abbrev rI:Bool×FT:=(false,.int .i64)
abbrev rS:Bool×FT:=(false,.str)
abbrev bs:Nat->aw PD->aw PD|0,l=>l|n+1,l=> .bot::bs n l
abbrev zs:Nat->aw (ax FT)->aw (ax FT)|0,l=>l|n+1,l=>none::zs n l
def mk (l:aw (Nat×fg))(n:Nat):fg:=(l.lookup n).getD []
def mg (l:aw (Nat×Nat))(n:Nat):ax Nat:=l.lookup n
def ke (n:Nat)(K:gO R)(d:SD)(x:SD.D d):ax R:=K (.exit n) (SD.enc d x)
def kn (K:gO R)(d:SD)(x:SD.D d):ax R:=K .normal (SD.enc d x)
def kr (K:gO R)(d:SD)(x:SD.D d):ax R:=K .ret (SD.enc d x)
def iI (d:SD)(t:{R:Type}->SD.D d->(Ex->AS->ax R)->(σ->ax R)->σ->ax R)(i:SD.D d->σ):Gr:=⟨d,λX K=>bc (t X K) fuel (i X)⟩
theorem lk {E:Env}{c:Code}(d:SD)(t:{R:Type}->SD.D d->(Ex->AS->ax R)->(σ->ax R)->σ->ax R)(i:SD.D d->σ)(w:SD.D d->σ->SD.D d)(h1:Λ (fu c)=iI d t i:=by kernel_rfl)(h:∀(R:Type)(X:SD.D d)(K:gO R)(m:Nat)(x:σ),BE (an.mask (fu c)) (den E Γ an Λ c) (m+1) (SD.enc d (w X x)) K=t X K (λy=>BE (an.mask (fu c)) (den E Γ an Λ c) m (SD.enc d (w X y)) K) x:=by intro R X K m x;kernel_rfl)(hw:∀X,w X (i X)=X:=by intro X;kernel_rfl):hY E Γ an Λ c:=lok (iI d t i) h1 fuel λR X K=>(Nr (λx=>SD.enc d (w X x)) (t X K) (h R X K) fuel (i X)).symm.trans (congrArg (λy=>BE (an.mask (fu c)) (den E Γ an Λ c) fuel (SD.enc d y) K) (hw X))
def ZB (d:SD)(t:{R:Type}->SD.D d->(Ex->AS->ax R)->ax R):Gr:=⟨d,λX K=>t X K⟩
theorem ck {E:Env}{c:Code}(d:SD)(t:{R:Type}->SD.D d->(Ex->AS->ax R)->ax R)(h1:Λ (BS c)=ZB d t:=by kernel_rfl)(h:∀(R:Type)(X:SD.D d)(K:gO R),t X K=den E Γ an Λ c (SD.enc d X) (λe bK=>K e (bK.mask (an.mask (BS c+1)))):=by intro R X K;kernel_rfl):TZ E Γ an Λ c:=cok (ZB d t) h1 h
def u {A B:Type}(y:A)(x:A×B):A×B:=(y,x.2)
def w {A B:Type}(y:A)(f:B->B)(x:A×B):A×B:=(y,f x.2)
def z1 {B:Type}(f:B->B)(x:A0×B):A0×B:=(x.1,f x.2)
def z2 {B:Type}(f:B->B)(x:A0×A1×B):A0×A1×B:=(x.1,x.2.1,f x.2.2)
def z3 {B:Type}(f:B->B)(x:A0×A1×A2×B):A0×A1×A2×B:=(x.1,x.2.1,x.2.2.1,f x.2.2.2)
def z4 {B:Type}(f:B->B)(x:A0×A1×A2×A3×B):A0×A1×A2×A3×B:=(x.1,x.2.1,x.2.2.1,x.2.2.2.1,f x.2.2.2.2)
def z5 {B:Type}(f:B->B)(x:A0×A1×A2×A3×A4×B):A0×A1×A2×A3×A4×B:=(x.1,x.2.1,x.2.2.1,x.2.2.2.1,x.2.2.2.2.1,f x.2.2.2.2.2)
def z6 {B:Type}(f:B->B)(x:A0×A1×A2×A3×A4×A5×B):A0×A1×A2×A3×A4×A5×B:=(x.1,x.2.1,x.2.2.1,x.2.2.2.1,x.2.2.2.2.1,x.2.2.2.2.2.1,f x.2.2.2.2.2.2)
def z7 {B:Type}(f:B->B)(x:A0×A1×A2×A3×A4×A5×A6×B):A0×A1×A2×A3×A4×A5×A6×B:=(x.1,x.2.1,x.2.2.1,x.2.2.2.1,x.2.2.2.2.1,x.2.2.2.2.2.1,x.2.2.2.2.2.2.1,f x.2.2.2.2.2.2.2)
def q2 {B:Type}(x:(A0×A1×A2×B)×C):A2:=x.1.2.2.1
def q3 {B:Type}(x:(A0×A1×A2×A3×B)×C):A3:=x.1.2.2.2.1
def q4 {B:Type}(x:(A0×A1×A2×A3×A4×B)×C):A4:=x.1.2.2.2.2.1
def q5 {B:Type}(x:(A0×A1×A2×A3×A4×A5×B)×C):A5:=x.1.2.2.2.2.2.1
def q6 {B:Type}(x:(A0×A1×A2×A3×A4×A5×A6×B)×C):A6:=x.1.2.2.2.2.2.2.1
def q7 {A7 B:Type}(x:(A0×A1×A2×A3×A4×A5×A6×A7×B)×C):A7:=x.1.2.2.2.2.2.2.2.1
def q8 {A7 A8 B:Type}(x:(A0×A1×A2×A3×A4×A5×A6×A7×A8×B)×C):A8:=x.1.2.2.2.2.2.2.2.2.1
def q9 {A7 A8 A9 B:Type}(x:(A0×A1×A2×A3×A4×A5×A6×A7×A8×A9×B)×C):A9:=x.1.2.2.2.2.2.2.2.2.2.1
def c1 {B:Type}(f:A0->R)(a:A0×B):R:=f a.1
def c2 {B:Type}(f:A0->A1->R)(a:A0×A1×B):R:=f a.1 a.2.1
def c3 {B:Type}(f:A0->A1->A2->R)(a:A0×A1×A2×B):R:=f a.1 a.2.1 a.2.2.1
def c4 {B:Type}(f:A0->A1->A2->A3->R)(a:A0×A1×A2×A3×B):R:=f a.1 a.2.1 a.2.2.1 a.2.2.2.1
def c5 {B:Type}(f:A0->A1->A2->A3->A4->R)(a:A0×A1×A2×A3×A4×B):R:=f a.1 a.2.1 a.2.2.1 a.2.2.2.1 a.2.2.2.2.1
def c6 {B:Type}(f:A0->A1->A2->A3->A4->A5->R)(a:A0×A1×A2×A3×A4×A5×B):R:=f a.1 a.2.1 a.2.2.1 a.2.2.2.1 a.2.2.2.2.1 a.2.2.2.2.2.1
def c7 {B:Type}(f:A0->A1->A2->A3->A4->A5->A6->R)(a:A0×A1×A2×A3×A4×A5×A6×B):R:=f a.1 a.2.1 a.2.2.1 a.2.2.2.1 a.2.2.2.2.1 a.2.2.2.2.2.1 a.2.2.2.2.2.2.1
theorem f0 {E:Env}{F:BH s->ax (kO rs)}{fn:Func}(an:An)(hS:Sound P E Γ)(hf:P.funcs[f]?=some fn)(hn:(fn.name== "runtime.NumGoroutine")=false:=by kernel_rfl)(hl:iW (fn.body.getD .skip)=[]:=by kernel_rfl)(fE:an.cut=[]:=by rfl)(hF:∀a,JY E Γ an dL.nil fn rs (nf s a)=F a:=by intro a;kernel_rfl):gY P f (aN s rs F):=gY.of (ahD hS hf hn (Bn.of (Fn.hF hl nF) fE)) hF
abbrev Y20:FT:=jG (jG Al)
abbrev Y1:FT:=cS Al Y20
abbrev Y8:FT:=jG (jG (jG (.sl (.own none) (.int .i64))))
abbrev Y17:FT:=cS Y1 (cS Y8 (cS (.sl (.own none) ia) Al))
abbrev Y23:FT:=jG (cS .bool (.sl (.own none) (.int .i64)))
abbrev Y19:FT:=cS (.sl (.own none) iP) (cS (.sl (.own none) ga) (cS .str (.sl (.own none) (.int .i64))))
abbrev Y0:FT:=cS (.sl (.own none) .str) (cS (.sl (.own none) bG) (cS Y17 (cS (.sl (.own none) dM) (cS (.sl (.own none) hZ) (cS (.sl (.own none) fz) (cS (.sl (.own none) .bool) (cS Y23 (cS Y19 (cS (.sl (.own none) dK) (cS .bool (cS (.sl (.own none) .str) (cS (.sl (.own none) (.int .i64)) (cS (.sl (.own none) (.int .i64)) (cS Al Y1))))))))))))))
abbrev Y15:FT:=jG (jG (jG (jG .str)))
abbrev Y21:FT:=jG (cS Al Y15)
abbrev Y2:FT:=jG (jG (jG (jG (jG (jG (jG (jG (cS Al Y21))))))))
abbrev Y3:FT:=cS (dp 24577 .str) (cS (dp 24580 bG) (cS (cS Y1 (cS (jG (jG (jG (dp 24604 (.int .i64))))) (cS (dp 24607 ia) Al))) (cS (dp 24613 dM) (cS (dp 24616 hZ) (cS (dp 24619 fz) (cS (dp 24622 .bool) (cS (jG (cS .bool (dp 24631 (.int .i64)))) (cS (cS (dp 24634 iP) (cS (dp 24637 ga) (cS .str (dp 24643 (.int .i64))))) (cS (dp 24646 dK) (cS .bool (cS (dp 24652 .str) (cS (dp 24655 (.int .i64)) (cS (dp 24658 (.int .i64)) (cS Al Y1))))))))))))))
abbrev Y4:FT:=cS (dp 36865 .str) (cS (dp 36868 bG) (cS (cS Y1 (cS (jG (jG (jG (dp 36892 (.int .i64))))) (cS (dp 36895 ia) Al))) (cS (dp 36901 dM) (cS (dp 36904 hZ) (cS (dp 36907 fz) (cS (dp 36910 .bool) (cS (jG (cS .bool (dp 36919 (.int .i64)))) (cS (cS (dp 36922 iP) (cS (dp 36925 ga) (cS .str (dp 36931 (.int .i64))))) (cS (dp 36934 dK) (cS .bool (cS (dp 36940 .str) (cS (dp 36943 (.int .i64)) (cS (dp 36946 (.int .i64)) (cS Al Y1))))))))))))))
abbrev Y14:FT:=jG (jG (jG (.sl .arg (.int .i64))))
abbrev Y24:FT:=cS Y1 (cS Y14 (cS (.sl .arg ia) Al))
abbrev Y25:FT:=jG (cS .bool (.sl .arg (.int .i64)))
abbrev Y18:FT:=cS (.sl .arg iP) (cS (.sl .arg ga) (cS .str (.sl .arg (.int .i64))))
abbrev Y5:FT:=cS (.sl .arg .str) (cS (.sl .arg bG) (cS Y24 (cS (.sl .arg dM) (cS (.sl .arg hZ) (cS (.sl .arg fz) (cS (.sl .arg .bool) (cS Y25 (cS Y18 (cS (.sl .arg dK) (cS .bool (cS (.sl .arg .str) (cS (.sl .arg (.int .i64)) (cS (.sl .arg (.int .i64)) (cS Al Y1))))))))))))))
abbrev Y6:FT:=cS (dp 49153 .str) (cS (dp 49156 bG) (cS (cS Y1 (cS (jG (jG (jG (dp 49180 (.int .i64))))) (cS (dp 49183 ia) Al))) (cS (dp 49189 dM) (cS (dp 49192 hZ) (cS (dp 49195 fz) (cS (dp 49198 .bool) (cS (jG (cS .bool (dp 49207 (.int .i64)))) (cS (cS (dp 49210 iP) (cS (dp 49213 ga) (cS .str (dp 49219 (.int .i64))))) (cS (dp 49222 dK) (cS .bool (cS (dp 49228 .str) (cS (dp 49231 (.int .i64)) (cS (dp 49234 (.int .i64)) (cS Al Y1))))))))))))))
abbrev Y7:FT:=cS (.sl .wy (.int .u8)) (jG Al)
abbrev Y9:FT:=cS Y1 (cS Y20 (cS Y20 (cS (cS Y2 (jG Al)) (cS .bool Al))))
abbrev Y10:FT:=cS (dp 196609 .str) (cS (dp 196612 bG) (cS (cS Y1 (cS (jG (jG (jG (dp 196636 (.int .i64))))) (cS (dp 196639 ia) Al))) (cS (dp 196645 dM) (cS (dp 196648 hZ) (cS (dp 196651 fz) (cS (dp 196654 .bool) (cS (jG (cS .bool (dp 196663 (.int .i64)))) (cS (cS (dp 196666 iP) (cS (dp 196669 ga) (cS .str (dp 196675 (.int .i64))))) (cS (dp 196678 dK) (cS .bool (cS (dp 196684 .str) (cS (dp 196687 (.int .i64)) (cS (dp 196690 (.int .i64)) (cS Al Y1))))))))))))))
abbrev Y11:FT:=cS (dp 147457 .str) (cS (dp 147460 bG) (cS (cS Y1 (cS (jG (jG (jG (dp 147484 (.int .i64))))) (cS (dp 147487 ia) Al))) (cS (dp 147493 dM) (cS (dp 147496 hZ) (cS (dp 147499 fz) (cS (dp 147502 .bool) (cS (jG (cS .bool (dp 147511 (.int .i64)))) (cS (cS (dp 147514 iP) (cS (dp 147517 ga) (cS .str (dp 147523 (.int .i64))))) (cS (dp 147526 dK) (cS .bool (cS (dp 147532 .str) (cS (dp 147535 (.int .i64)) (cS (dp 147538 (.int .i64)) (cS Al Y1))))))))))))))
abbrev Y12:FT:=cS (dp 73729 .str) (cS (dp 73732 bG) (cS (cS Y1 (cS (jG (jG (jG (dp 73756 (.int .i64))))) (cS (dp 73759 ia) Al))) (cS (dp 73765 dM) (cS (dp 73768 hZ) (cS (dp 73771 fz) (cS (dp 73774 .bool) (cS (jG (cS .bool (dp 73783 (.int .i64)))) (cS (cS (dp 73786 iP) (cS (dp 73789 ga) (cS .str (dp 73795 (.int .i64))))) (cS (dp 73798 dK) (cS .bool (cS (dp 73804 .str) (cS (dp 73807 (.int .i64)) (cS (dp 73810 (.int .i64)) (cS Al Y1))))))))))))))
abbrev Y13:FT:=jG (jG (jG (jG (cS .bool .bool))))
abbrev Y16:FT:=cS (dp 49153 iP) (cS (dp 49156 ga) (cS .str (dp 49162 (.int .i64))))
abbrev Y22:FT:=cS (dp 24577 iP) (cS (dp 24580 ga) (cS .str (dp 24586 (.int .i64))))
abbrev Y26:FT:=jG (jG (jG (dp 184330 (.int .i64))))
abbrev Y27:FT:=jG (jG (jG (dp 147466 (.int .i64))))
abbrev Y28:FT:=jG (jG (jG (dp 98314 (.int .i64))))
abbrev Y29:FT:=jG (jG (jG (dp 73738 (.int .i64))))
def E:Env:={ty:=[(3,⟨false,(.int .i64),[]⟩),(4,⟨false,.bool,[]⟩),(5,⟨false,(.int .u8),[]⟩),(9,⟨false,.str,[]⟩),(22,⟨false,(.sl (.int .u8)),[(5,0)]⟩),(24,⟨false,(.sl .str),[(9,0)]⟩),(26,⟨true,(.sl .str),[(0,1)]⟩),(27,⟨false,(.sl bG),[(89,0)]⟩),(29,⟨true,sD,[(0,1),(1,1),(2,1),(3,1)]⟩),(30,⟨false,(.sl (.int .i64)),[(3,0)]⟩),(32,⟨true,hZ,[(0,1),(1,1),(2,1),(3,1)]⟩),(33,⟨false,(.sl ia),[(94,0)]⟩),(35,⟨true,kh,[(0,4),(4,4),(8,1),(9,1)]⟩),(36,⟨false,(.sl dM),[(101,0)]⟩),(37,⟨false,(.sl hZ),[(32,0)]⟩),(38,⟨false,(.sl fz),[(111,0)]⟩),(39,⟨false,(.sl .bool),[(4,0)]⟩),(41,⟨true,uY,[(0,1),(1,1),(2,1)]⟩),(42,⟨false,(.sl iP),[(187,0)]⟩),(43,⟨false,(.sl ga),[(189,0)]⟩),(45,⟨true,(.sl ga),[(0,1)]⟩),(47,⟨true,CU,[(0,1),(1,1)]⟩),(49,⟨true,oo,[(0,1),(1,1),(2,2)]⟩),(50,⟨false,(.sl dK),[(166,0)]⟩),(52,⟨true,pn,[(0,1),(1,1),(2,1),(3,1),(4,1)]⟩),(54,⟨true,dJ,[(0,1),(1,1),(2,10),(12,1),(13,1),(14,1),(15,1),(16,3),(19,4),(23,1),(24,1),(25,1),(26,1),(27,1),(28,5)]⟩),(55,⟨false,(.sl Am),[(86,0)]⟩),(82,⟨true,zG,[(0,1),(1,1),(2,1),(3,1),(4,1),(5,1),(6,1),(7,1)]⟩),(84,⟨true,cQ,[(0,1),(1,1),(2,1),(3,1),(4,1),(5,1),(6,1),(7,1),(8,8)]⟩),(86,⟨true,Am,[(0,1),(1,16),(17,1),(18,1),(19,1),(20,1)]⟩),(89,⟨true,bG,[(0,1),(1,1),(2,1),(3,1)]⟩),(94,⟨true,ia,[(0,1),(1,1),(2,1)]⟩),(97,⟨true,gP,[(0,1),(1,1),(2,1)]⟩),(99,⟨true,N4,[(0,16),(16,1),(17,1)]⟩),(101,⟨true,dM,[(0,4),(4,3),(7,3),(10,18),(28,1),(29,1)]⟩),(111,⟨true,fz,[(0,1),(1,1),(2,1),(3,1),(4,1),(5,1)]⟩),(129,⟨true,(.pair (.sl (.int .u8)) (.pair (.int .i64) (.int .i64))),[(0,1),(1,1),(2,1)]⟩),(130,⟨false,(.sl cQ),[(84,0)]⟩),(164,⟨true,pn,[(0,1),(1,1),(2,1),(3,1),(4,1)]⟩),(166,⟨true,dK,[(0,5),(5,1),(6,1),(7,1)]⟩),(177,⟨true,na,[(0,1),(1,1),(2,1),(3,1),(4,1),(5,1)]⟩),(187,⟨true,iP,[(0,1),(1,1),(2,1),(3,1),(4,1),(5,1),(6,1),(7,1),(8,1)]⟩),(189,⟨true,ga,[(0,1),(1,5),(6,1)]⟩),(201,⟨true,pn,[(0,1),(1,1),(2,1),(3,1),(4,1)]⟩),(231,⟨false,(.sl iA),[(235,0)]⟩),(235,⟨true,iA,[(0,1),(1,1)]⟩),(259,⟨true,TIp,[(0,1),(1,1),(2,1),(3,1),(4,1),(5,1),(6,1)]⟩),(262,⟨true,aaS,[(0,1),(1,1),(2,1),(3,1),(4,1)]⟩),(283,⟨false,(.sl iA),[(317,0)]⟩),(286,⟨false,(.sl na),[(177,0)]⟩),(317,⟨true,iA,[(0,1),(1,1)]⟩),(332,⟨false,(.int .u32),[]⟩)],eqs:=[(29,[.int,.int,.int,.int]),(52,[.int,.int,.int,.int,.int]),(84,[.int,.int,.int,.int,.int,.int,.int,.int,.int,.int,.int,.int,.int,.int,.int,.str]),(99,[.int,.int,.int,.int,.int,.int,.int,.int,.int,.int,.int,.int,.int,.int,.int,.str,.int,.int]),(101,[.int,.int,.int,.int,.int,.int,.int,.int,.int,.int,.int,.int,.int,.int,.int,.int,.int,.int,.int,.int,.int,.int,.int,.int,.int,.str,.int,.int,.bool,.int]),(111,[.int,.int,.int,.int,.bool,.bool]),(164,[.int,.int,.int,.int,.int]),(166,[.int,.int,.int,.int,.int,.int,.str,.bool]),(177,[.int,.int,.int,.int,.int,.int]),(187,[.int,.int,.int,.int,.int,.int,.int,.int,.int]),(189,[.int,.int,.int,.int,.int,.int,.int])],fts:=[]}
theorem base:Sound Tryz.prog E fy.nil:=Sound.nil (SI (by kernel_rfl)) (SL (by kernel_rfl)) (SK (by kernel_rfl)) (by kernel_rfl)
def e7:bg:=aN [pd (.sl (.int .u8))] [rB] (c1 FG)
theorem o7:cO 7 e7:=f0 {} base func7
def e24:bg:=UE (.pair (.sl .arg (.int .u8)) (.pair (.int .i64) (.int .i64))) [pd (.sl (.int .u8))] λa=>yY a.1
def g24:fy:=fy.nil
def n24:An:={mask:=mk [(3,[0,3,4])],merge:=mg [(3,15)]}
abbrev WJ:SD:=⟨.data false (.sl .arg (.int .u8))::B::B::DI::DI::bs 27 [],zs 32 [],.none⟩
def agt (X:SD.D WJ)(K:gO R):=yo (λy0 y1=>ke 0 K WJ ((z1 (w y0 (u y1)) X.1),X.2)) X.1.1
def L24:dL:=dL.nil.add 3 (iI WJ agt (λX=>(X.1.2.1,q2 X)))
theorem am9:hY E g24 n24 L24 (aY f24 0):=lk WJ agt (λX=>(X.1.2.1,q2 X)) λX x=>((z1 (w x.1 (u x.2)) X.1),X.2)
theorem o24:cO 24 e24:=gY.apt (amh (Γ:=g24) (an:=n24) (Λ:=L24) (base) func24 (by kernel_rfl) (ao (cF am9 nF))) (λa=>by kernel_rfl)
def alb:bg:=jd (.pair (.sl .wy (.int .u8)) (.pair (.int .i64) (.int .i64))) [] [rI] λx a=>jQ x
theorem aoJ:cO 117 alb:=gY.oX (oI (an:={}) (Λ:=dL.nil) (base) func117 (by kernel_rfl) (ao nF)) (λx a=>by kernel_rfl)
def e63:bg:=jd (.pair (.sl .wy (.int .u8)) (.pair (.int .i64) (.int .i64))) [pI] [rI] λx a=>cg x a.1
theorem ZQ:cO 63 e63:=gY.oX (oI (an:={}) (Λ:=dL.nil) (base.add aoJ) func63 (by kernel_rfl) (ao nF)) (λx a=>by kernel_rfl)
def e61:bg:=jd (.pair (.sl .wy (.int .u8)) (.pair (.int .i64) (.int .i64))) [pI] [rB] λx a=>gr x a.1
theorem o61:cO 61 e61:=gY.oX (oI (an:={}) (Λ:=dL.nil) (base.add ZQ) func61 (by kernel_rfl) (ao nF)) (λx a=>by kernel_rfl)
def e64:bg:=jd (.pair (.sl .wy (.int .u8)) (.pair (.int .i64) (.int .i64))) [pI] [rS] λx a=>lC x a.1
def g64:fy:=fy.nil.add 117 alb
def n64:An:={mask:=mk [(5,[0,1,5,6])],mv:=[15]}
abbrev WU:SD:=⟨.ptr 0 0::DI::B::B::B::.data false (dp 61440 (.int .u8))::DI::bs 16 [],(some Y7)::zs 22 [],.ptr⟩
def agM (X:SD.D WU)(K:gO R):=nX (λy0 y1 y2=>ke 0 K WU ((z1 (w y0 (u y1)) X.1),(u y2 X.2.1),X.2.2)) X.1.1
def L64:dL:=dL.nil.add 5 (iI WU agM (λX=>(X.1.2.1,q2 X,X.2.1.1)))
theorem ant:hY E g64 n64 L64 (aY f64 0):=lk WU agM (λX=>(X.1.2.1,q2 X,X.2.1.1)) λX x=>((z1 (w x.1 (u x.2.1)) X.1),(u x.2.2 X.2.1),X.2.2)
theorem o64:cO 64 e64:=gY.oX (oI (Γ:=g64) (an:=n64) (Λ:=L64) (base.add aoJ) func64 (by kernel_rfl) (ao (cF ant nF))) (λx a=>by kernel_rfl)
def e66:bg:=jd (.pair (.sl .wy (.int .u8)) (.pair (.int .i64) (.int .i64))) [pd (.sl (.int .i64))] [rI] λx a=>cq x a.1
theorem o66:cO 66 e66:=gY.oX (oI (an:={}) (Λ:=dL.nil) (base.add ZQ) func66 (by kernel_rfl) (ao nF)) (λx a=>by kernel_rfl)
def apK:bg:=jd (.pair (.sl .wy (.int .u8)) (.pair (.int .i64) (.int .i64))) [] [rI] λx a=>qB x
theorem ajw:cO 118 apK:=gY.oX (oI (an:={}) (Λ:=dL.nil) (base.add ZQ) func118 (by kernel_rfl) (ao nF)) (λx a=>by kernel_rfl)
def aqg:bg:=jd (.pair (.sl .wy (.int .u8)) (.pair (.int .i64) (.int .i64))) [] [rI] λx a=>vM x
theorem asI:cO 175 aqg:=gY.oX (oI (an:={}) (Λ:=dL.nil) (base.add o66) func175 (by kernel_rfl) (ao nF)) (λx a=>by kernel_rfl)
def apL:bg:=jd (.pair (.sl .wy (.int .u8)) (.pair (.int .i64) (.int .i64))) [pI] [(true,(.pair (.int .i64) Y21))] λx a=>sk x a.1
theorem asd:cO 119 apL:=gY.oX (oI (an:={}) (Λ:=dL.nil) (((((base.add o61).add ZQ).add o64).add o66).add asI) func119 (by kernel_rfl) (ao nF)) (λx a=>by kernel_rfl)
def e65:bg:=jd (.pair (.sl .wy (.int .u8)) (.pair (.int .i64) (.int .i64))) [pI] [(true,Y2)] λx a=>ky x a.1
theorem o65:cO 65 e65:=gY.oX (oI (an:={}) (Λ:=dL.nil) ((((((base.add o61).add ZQ).add o64).add o66).add ajw).add asd) func65 (by kernel_rfl) (ao nF)) (λx a=>by kernel_rfl)
def e59:bg:=jd (.pair (.sl .wy (.int .u8)) (.pair (.int .i64) (.int .i64))) [pI] [(false,(.sl (.own none) cQ))] λx a=>xl x a.1
def g59:fy:=((((fy.nil.add 61 e61).add 63 e63).add 64 e64).add 65 e65).add 66 e66
def Xq:An:={mask:=mk [(5,[0,5,6,7,8]),(1000012,[0,5,6,7,8]),(1000013,[0,5,6,7,8]),(1000014,[0,5,6,7,8]),(1000015,[0,5,6,7,8]),(1000018,[0,5,6,7,8]),(1000019,[0,5,6,7,8]),(1000022,[0,5,6,7,8]),(1000023,[0,5,6,7,8]),(1000028,[0,5,6,7,8]),(1000029,[0,5,6,7,8]),(1000034,[0,5,6,7,8,64]),(1000035,[0,5,6,7,8])],cut:=[6,7,9,11,14,17],mv:=[47,76]}
abbrev BW:SD:=⟨.ptr 0 0::bs 4 (.data false (dp 61440 cQ)::.ptr 6 0::DI::DI::bs 55 (DB::bs 12 [])),(some Y7)::zs 5 ((some Y2)::zs 70 []),.ptr⟩
abbrev O1:SD:=⟨.ptr 0 0::bs 4 (.data false (dp 61440 cQ)::.ptr 6 0::DI::DI::bs 68 []),(some Y7)::zs 5 ((some Y2)::zs 70 []),.ptr⟩
def Ij (X:SD.D BW)(K:gO R):ax R:=uR (λy0=>kn K O1 ((X.1.1,(X.1.2.1,(X.1.2.2.1,()))),(X.2.1.1,(y0,())),())) X.1.1 X.1.2.1 (q2 X) (q3 X) X.2.1.1 X.2.1.2.1
abbrev yI:SD:=⟨.ptr 0 0::bs 4 (.data false (dp 61440 cQ)::.ptr 6 0::DI::DI::bs 68 []),(some Y7)::zs 5 ((some Y2)::zs 70 []),.ptr⟩
def Ii (X:SD.D yI)(K:gO R):ax R:=mT (λy0 y1 y2=>kn K yI ((u y0 X.1),(w y1 (u y2) X.2.1),X.2.2)) X.1.1 X.1.2.1 (q2 X) X.2.1.1 X.2.1.2.1
abbrev yH:SD:=⟨.ptr 0 0::bs 4 (.data false (dp 61440 cQ)::.ptr 6 0::DI::DI::bs 68 []),(some Y7)::zs 5 ((some Y2)::zs 70 []),.ptr⟩
def Ih (X:SD.D yH)(K:gO R):ax R:=mS (λy0 y1 y2=>kn K yH ((u y0 X.1),(w y1 (u y2) X.2.1),X.2.2)) X.1.1 X.1.2.1 (q2 X) X.2.1.1 X.2.1.2.1
abbrev yG:SD:=⟨.ptr 0 0::bs 4 (.data false (dp 61440 cQ)::.ptr 6 0::DI::DI::bs 68 []),(some Y7)::zs 5 ((some Y2)::zs 70 []),.ptr⟩
def Ig (X:SD.D yG)(K:gO R):ax R:=nZ (λy0 y1 y2 y3=>kn K yG ((w y0 (u y1) X.1),(w y2 (u y3) X.2.1),X.2.2)) X.1.1 X.1.2.1 (q2 X) X.2.1.1 X.2.1.2.1
abbrev yE:SD:=⟨.ptr 0 0::bs 4 (.data false (dp 61440 cQ)::.ptr 6 0::DI::DI::bs 68 []),(some Y7)::zs 5 ((some Y2)::zs 70 []),.ptr⟩
def Ic (X:SD.D yE)(K:gO R):ax R:=nY (λy0=>kn K yE ((z2 (u y0) X.1),X.2)) X.1.1 X.1.2.1 (q2 X) X.2.1.1 X.2.1.2.1
abbrev yF:SD:=⟨.ptr 0 0::bs 4 (.data false (dp 61440 cQ)::.ptr 6 0::DI::DI::bs 68 []),(some Y7)::zs 5 ((some Y2)::zs 70 []),.ptr⟩
def Ie (X:SD.D yF)(K:gO R):ax R:=sm (λy0 y1 y2 y3 y4=>kn K yF ((w y0 (w y1 (u y2)) X.1),(w y3 (u y4) X.2.1),X.2.2)) X.1.1 X.1.2.1 (q2 X) X.2.1.1 X.2.1.2.1
abbrev WT:SD:=⟨.ptr 0 0::bs 4 (.data false (dp 61440 cQ)::.ptr 6 0::DI::DI::bs 68 []),(some Y7)::zs 5 ((some Y2)::zs 70 []),.ptr⟩
def agL (X:SD.D WT)(K:gO R):=wI (λy0 y1 y2 y3 y4=>ke 0 K WT ((w y0 (w y1 (u y2)) X.1),(w y3 (u y4) X.2.1),X.2.2))
def L59:dL:=((((((dL.nil.add 1000034 (ZB BW Ij)).add 1000028 (ZB yI Ii)).add 1000022 (ZB yH Ih)).add 1000018 (ZB yG Ig)).add 1000012 (ZB yE Ic)).add 1000014 (ZB yF Ie)).add 5 (iI WT agL (λX=>(X.1.1,X.1.2.1,q2 X,X.2.1.1,X.2.1.2.1)))
theorem SG:TZ E g59 Xq L59 (ta Xq.cut f59 4):=ck BW Ij
theorem SF:TZ E g59 Xq L59 (ta Xq.cut f59 3):=ck yI Ii
theorem SE:TZ E g59 Xq L59 (ta Xq.cut f59 2):=ck yH Ih
theorem SC:TZ E g59 Xq L59 (ta Xq.cut f59 1):=ck yG Ig
theorem SA:TZ E g59 Xq L59 (ta Xq.cut f59 5):=ck yE Ic
theorem SB:TZ E g59 Xq L59 (ta Xq.cut f59 0):=ck yF Ie
theorem ans:hY E g59 Xq L59 (aY f59 0):=lk WT agL (λX=>(X.1.1,X.1.2.1,q2 X,X.2.1.1,X.2.1.2.1)) λX x=>((w x.1 (w x.2.1 (u x.2.2.1)) X.1),(w x.2.2.2.1 (u x.2.2.2.2) X.2.1),X.2.2)
theorem o59:cO 59 e59:=gY.oX (oI (Γ:=g59) (an:=Xq) (Λ:=L59) (((((base.add o61).add ZQ).add o64).add o65).add o66) func59 (by kernel_rfl) (ac (cF ans nF) (cF SB (cF SC (cF SE (cF SF (cF SG (cF SA nF)))))))) (λx a=>by kernel_rfl)
def O4:bg:=aN [pI,pI,pI] [rB] (c3 bf)
theorem zx:cO 181 O4:=f0 {merge:=mg [(1,6)]} base func181
def aqH:bg:=aN [pf zG] [rB] (c1 pN)
theorem ao5:cO 226 aqH:=f0 {merge:=mg [(1,18),(4,2),(5,2)]} (base.add zx) func226
def aqa:bg:=aN [pf cQ] [rB] (c1 qz)
theorem ajA:cO 169 aqa:=f0 {merge:=mg [(1,55),(3,3),(4,2)]} ((base.add zx).add ao5) func169
def apG:bg:=aN [pf cQ] [rB] (c1 rz)
theorem aoH:cO 113 apG:=f0 {merge:=mg [(1,2)]} (base.add ajA) func113
def apJ:bg:=aN [pd .str,pI,pI] [rB] (c3 mR)
theorem ajv:cO 116 apJ:=f0 {merge:=mg [(1,6)]} base func116
def e62:bg:=aN [pd .str,pI,pd .str] [rS] (c3 hU)
theorem o62:cO 62 e62:=f0 {} (base.add ajv) func62
def aqI:bg:=aN [pI] [rS] (c1 dh)
theorem ZP:cO 227 aqI:=f0 {} (base.add zx) func227
def aqJ:bg:=aN [pI] [rS] (c1 fO)
theorem acu:cO 228 aqJ:=f0 {} (base.add zx) func228
def aqK:bg:=aN [pI,pI,pI,pI] [rS,rB] (c4 lA)
theorem atk:cO 229 aqK:=f0 {merge:=mg [(1,27)]} (((base.add zx).add ZP).add acu) func229
def ama:bg:=aN [pI,pI] [rI] (c2 lz)
theorem atW:cO 292 ama:=f0 {merge:=mg [(1,12)]} (base.add zx) func292
def are:bg:=aN [pd .str] [rI] (c1 vL)
def aor:An:={mask:=mk [(3,[0,3,4])]}
abbrev OU:SD:=⟨.data false .str::B::B::DI::DI::bs 28 [],zs 33 [],.none⟩
def ad2 (X:SD.D OU)(K:gO R):=qy (λy0 y1=>ke 0 K OU ((z1 (w y0 (u y1)) X.1),X.2)) X.1.1
def akL:dL:=dL.nil.add 3 (iI OU ad2 (λX=>(X.1.2.1,q2 X)))
theorem ai3:hY E (fy.nil.add 292 ama) aor akL (aY f269 0):=lk OU ad2 (λX=>(X.1.2.1,q2 X)) λX x=>((z1 (w x.1 (u x.2)) X.1),X.2)
theorem atE:cO 269 are:=fk aor (base.add atW) func269 (Λ:=akL) (cF ai3 nF)
def aqL:bg:=aN [pd .str] [rI] (c1 oz)
theorem ao6:cO 230 aqL:=f0 {} (base.add atE) func230
def aqb:bg:=aN [pI,pI,pf zG] [rS,rB] (c3 jr)
theorem aoX:cO 170 aqb:=f0 {merge:=mg [(14,82)]} ((((((base.add o62).add ao5).add ZP).add acu).add atk).add ao6) func170
def arf:bg:=aN [pf TIp] [rB] (c1 Dj)
theorem atG:cO 270 arf:=f0 {merge:=mg [(1,2)]} (base.add zx) func270
def aqM:bg:=aN [pf TIp] [rS,rB] (c1 vI)
theorem atl:cO 231 aqM:=f0 {} (((((base.add o62).add ZP).add acu).add ao6).add atG) func231
def aqc:bg:=aN [pf TIp] [rS,rB] (c1 tX)
theorem aoY:cO 171 aqc:=f0 {} (base.add atl) func171
def aqN:bg:=aN [pf aaS] [rB] (c1 uP)
theorem ao7:cO 232 aqN:=f0 {merge:=mg [(1,2)]} (base.add zx) func232
def aqO:bg:=aN [pI] [rS] (c1 iy)
theorem atm:cO 233 aqO:=f0 {} ((base.add ZP).add acu) func233
def aqd:bg:=aN [pf aaS] [rS,rB] (c1 vE)
theorem asF:cO 172 aqd:=f0 {} (((base.add ZP).add ao7).add atm) func172
def ahp:bg:=aN [pI,pd (.int .u8)] [rS] (c2 im)
def anP:An:={mask:=mk [(3,[0,1,5,6])]}
abbrev On:SD:=⟨DI::.data false (.int .u8)::B::B::B::.data false (dp 61440 (.int .u8))::DI::bs 13 [],zs 20 [],.none⟩
def adi (X:SD.D On)(K:gO R):=nW (λy0 y1=>ke 0 K On ((z2 (w y0 (u y1)) X.1),X.2)) X.1.1 X.1.2.1
def aj9:dL:=dL.nil.add 3 (iI On adi (λX=>(q2 X,q3 X)))
theorem aij:hY E fy.nil anP aj9 (aY f124 0):=lk On adi (λX=>(q2 X,q3 X)) λX x=>((z2 (w x.1 (u x.2)) X.1),X.2)
theorem afp:cO 124 ahp:=fk anP base func124 (Λ:=aj9) (cF aij nF)
def aqe:bg:=aN [pd .str] [rS] (c1 xg)
theorem asG:cO 173 aqe:=f0 {} (base.add afp) func173
def apH:bg:=aN [pf cQ] [rS,rB] (c1 sc)
theorem asc:cO 114 apH:=f0 {} (((((base.add ajA).add aoX).add aoY).add asF).add asG) func114
def aqf:bg:=aN [pd .str] [rI] (c1 Bd)
def aml:fy:=fy.nil
def ajm:An:={mask:=mk [(3,[0,3,4]),(7,[0,3,4,5])]}
abbrev Oy:SD:=⟨.data false .str::B::B::DI::DI::DI::bs 26 [],zs 32 [],.none⟩
def adw (X:SD.D Oy)(K:gO R):=oA (λy0 y1=>ke 2 K Oy ((z1 (w y0 (z1 (u y1))) X.1),X.2)) X.1.1 (q2 X)
abbrev Ox:SD:=⟨.data false .str::B::B::DI::DI::bs 27 [],zs 32 [],.none⟩
def adv (X:SD.D Ox)(K:gO R):=rq (λy0 y1=>ke 0 K Ox ((z1 (w y0 (u y1)) X.1),X.2)) X.1.1
def ag7:dL:=(dL.nil.add 7 (iI Oy adw (λX=>(X.1.2.1,q3 X)))).add 3 (iI Ox adv (λX=>(X.1.2.1,q2 X)))
theorem aix:hY E aml ajm ag7 (aY f174 1):=lk Oy adw (λX=>(X.1.2.1,q3 X)) λX x=>((z1 (w x.1 (z1 (u x.2))) X.1),X.2)
theorem aiw:hY E aml ajm ag7 (aY f174 0):=lk Ox adv (λX=>(X.1.2.1,q2 X)) λX x=>((z1 (w x.1 (u x.2)) X.1),X.2)
theorem asH:cO 174 aqf:=fk ajm base func174 (Λ:=ag7) (cF aiw (cF aix nF))
def apI:bg:=aN [pd .str] [rS] (c1 ug)
theorem aoI:cO 115 apI:=f0 {} (base.add asH) func115
def e60:bg:=aN [pf cQ] [rS,rB] (c1 rZ)
theorem o60:cO 60 e60:=f0 {} (((base.add aoH).add asc).add aoI) func60
def e25:bg:=jd (.pair (.sl .wy (.int .u8)) (.pair (.int .i64) (.int .i64))) [pd .bool] [(false,(.sl (.own none) Am))] λx a=>xw x a.1
def g25:fy:=(((((((fy.nil.add 59 e59).add 60 e60).add 61 e61).add 62 e62).add 63 e63).add 64 e64).add 65 e65).add 66 e66
def n25:An:={mask:=mk [(4,[0,1,5,6,7]),(1000010,[0,1,5,6,7]),(1000011,[0,1,5,6,7]),(1000012,[0,1,5,6,7]),(1000013,[0,1,5,6,7]),(1000018,[0,1,5,6,7,8]),(1000019,[0,1,5,6,7]),(1000030,[0,1,5,6,7,43,50]),(1000031,[0,1,5,6,7]),(1000038,[0,1,5,6,7,43,57]),(1000039,[0,1,5,6,7])],cut:=[5,6,9,15,19],mv:=[37,46,53,61,70,84,91,95]}
abbrev BV:SD:=⟨.ptr 0 0::DB::B::B::B::.data false (dp 61440 Am)::.data false (dp 73728 cQ)::DI::bs 35 (DI::bs 13 (DB::bs 38 [])),(some Y7)::zs 95 [],.ptr⟩
abbrev OQ:SD:=⟨.ptr 0 0::DB::B::B::B::.data false (dp 61440 Am)::.data false (dp 73728 cQ)::DI::bs 88 [],(some Y7)::zs 95 [],.ptr⟩
def Ib (X:SD.D BV)(K:gO R):ax R:=kf (λy0 y1=>kn K OQ ((X.1.1,(y0,(X.1.2.2.1,(X.1.2.2.2.1,())))),(y1,()),())) X.1.1 X.1.2.1 (q2 X) (q3 X) (q4 X) (q5 X) X.2.1.1
abbrev BU:SD:=⟨.ptr 0 0::DB::B::B::B::.data false (dp 61440 Am)::.data false (dp 73728 cQ)::DI::bs 35 (DI::bs 6 (DB::bs 45 [])),(some Y7)::zs 95 [],.ptr⟩
abbrev OP:SD:=⟨.ptr 0 0::DB::B::B::B::.data false (dp 61440 Am)::.data false (dp 73728 cQ)::DI::bs 88 [],(some Y7)::zs 95 [],.ptr⟩
def Ia (X:SD.D BU)(K:gO R):ax R:=mV (λy0 y1=>kn K OP ((X.1.1,(y0,(X.1.2.2.1,(X.1.2.2.2.1,())))),(y1,()),())) X.1.1 X.1.2.1 (q2 X) (q3 X) (q4 X) (q5 X) X.2.1.1
abbrev BT:SD:=⟨.ptr 0 0::DB::B::B::B::.data false (dp 61440 Am)::.data false (dp 73728 cQ)::DI::.data false .str::bs 87 [],(some Y7)::zs 95 [],.ptr⟩
abbrev OO:SD:=⟨.ptr 0 0::DB::B::B::B::.data false (dp 61440 Am)::.data false (dp 73728 cQ)::DI::bs 88 [],(some Y7)::zs 95 [],.ptr⟩
def H9 (X:SD.D BT)(K:gO R):ax R:=od (λy0 y1=>kn K OO ((X.1.1,(y0,(X.1.2.2.1,(X.1.2.2.2.1,())))),(y1,()),())) X.1.1 X.1.2.1 (q2 X) (q3 X) (q4 X) X.2.1.1
abbrev yC:SD:=⟨.ptr 0 0::DB::B::B::B::.data false (dp 61440 Am)::.data false (dp 73728 cQ)::DI::bs 88 [],(some Y7)::zs 95 [],.ptr⟩
def H7 (X:SD.D yC)(K:gO R):ax R:=oc (λy0=>kn K yC ((z3 (u y0) X.1),X.2)) X.1.1 X.1.2.1 (q2 X) (q3 X) X.2.1.1
abbrev yD:SD:=⟨.ptr 0 0::DB::B::B::B::.data false (dp 61440 Am)::.data false (dp 73728 cQ)::DI::bs 88 [],(some Y7)::zs 95 [],.ptr⟩
def H8 (X:SD.D yD)(K:gO R):ax R:=so (λy0 y1 y2=>kn K yD ((z1 (w y0 (z1 (u y1))) X.1),(u y2 X.2.1),X.2.2)) X.1.1 X.1.2.1 (q2 X) (q3 X) X.2.1.1
abbrev WK:SD:=⟨.ptr 0 0::DB::B::B::B::.data false (dp 61440 Am)::.data false (dp 73728 cQ)::DI::bs 88 [],(some Y7)::zs 95 [],.ptr⟩
def agu (X:SD.D WK)(K:gO R):=wM (λy0 y1 y2=>ke 0 K WK ((z1 (w y0 (z1 (u y1))) X.1),(u y2 X.2.1),X.2.2)) X.1.1 (q2 X)
def L25:dL:=(((((dL.nil.add 1000038 (ZB BV Ib)).add 1000030 (ZB BU Ia)).add 1000018 (ZB BT H9)).add 1000010 (ZB yC H7)).add 1000012 (ZB yD H8)).add 4 (iI WK agu (λX=>(X.1.2.1,q3 X,X.2.1.1)))
theorem Sz:TZ E g25 n25 L25 (ta n25.cut f25 3):=ck BV Ib
theorem Sy:TZ E g25 n25 L25 (ta n25.cut f25 2):=ck BU Ia
theorem Sx:TZ E g25 n25 L25 (ta n25.cut f25 1):=ck BT H9
theorem Sv:TZ E g25 n25 L25 (ta n25.cut f25 4):=ck yC H7
theorem Sw:TZ E g25 n25 L25 (ta n25.cut f25 0):=ck yD H8
theorem ana:hY E g25 n25 L25 (aY f25 0):=lk WK agu (λX=>(X.1.2.1,q3 X,X.2.1.1)) λX x=>((z1 (w x.1 (z1 (u x.2.1))) X.1),(u x.2.2 X.2.1),X.2.2)
theorem o25:cO 25 e25:=gY.oX (oI (Γ:=g25) (an:=n25) (Λ:=L25) ((((((((base.add o59).add o60).add o61).add o62).add ZQ).add o64).add o65).add o66) func25 (by kernel_rfl) (ac (cF ana nF) (cF Sw (cF Sx (cF Sy (cF Sz (cF Sv nF))))))) (λx a=>by kernel_rfl)
def aho:bg:=aN [] [(true,(.sl (.own none) ga))] λa=>lL
theorem aoK:cO 123 aho:=f0 {} base func123
def alT:bg:=jd (.pair (.sl .wy (.int .u8)) (.pair (.int .i64) (.int .i64))) [] [rS] λx a=>yZ x
theorem atn:cO 234 alT:=gY.oX (oI (an:={}) (Λ:=dL.nil) (base.add o64) func234 (by kernel_rfl) (ao nF)) (λx a=>by kernel_rfl)
def aly:bg:=jd (.pair (.sl .wy (.int .u8)) (.pair (.int .i64) (.int .i64))) [] [(true,(.pair .str (.sl (.own none) (.int .i64)))),rI] λx a=>uh x
def amm:fy:=((fy.nil.add 63 e63).add 66 e66).add 234 alT
def an1:An:={mask:=mk [(4,[0,2,4,5,6])],mv:=[21,28],mb:=mg [(21,5)],sb:=mg [(22,0),(27,5)]}
abbrev Oz:SD:=⟨.ptr 0 0::B::.ptr 2 0::B::DI::.ptr 5 0::DI::bs 23 [],(some Y7)::Z::(rD (cS .str (dp 24580 (.int .i64))))::Z::Z::(rD (cS .str (dp 61444 (.int .i64))))::zs 24 [],.ptr⟩
def adx (X:SD.D Oz)(K:gO R):=ui (λy0 y1 y2=>ke 0 K Oz ((z1 (u y0) X.1),(w y1 (z1 (u y2)) X.2.1),X.2.2)) X.1.1 X.2.1.2.1
def akl:dL:=dL.nil.add 4 (iI Oz adx (λX=>(X.1.2.1,X.2.1.1,X.2.1.2.2.1)))
theorem aiy:hY E amm an1 akl (aY f176 0):=lk Oz adx (λX=>(X.1.2.1,X.2.1.1,X.2.1.2.2.1)) λX x=>((z1 (u x.1) X.1),(w x.2.1 (z1 (u x.2.2)) X.2.1),X.2.2)
theorem asJ:cO 176 aly:=gY.oX (oI (Γ:=amm) (an:=an1) (Λ:=akl) (((base.add ZQ).add o66).add atn) func176 (by kernel_rfl) (ao (cF aiy nF))) (λx a=>by kernel_rfl)
def alU:bg:=jd (.pair (.sl .wy (.int .u8)) (.pair (.int .i64) (.int .i64))) [] [(true,(.pair (.int .i64) (.pair (.int .i64) (.pair (.int .i64) (.pair (.int .i64) (.pair (.int .i64) Y1))))))] λx a=>xp x
theorem ato:cO 235 alU:=gY.oX (oI (an:={}) (Λ:=dL.nil) (((base.add ZQ).add o66).add ajw) func235 (by kernel_rfl) (ao nF)) (λx a=>by kernel_rfl)
def alz:bg:=jd (.pair (.sl .wy (.int .u8)) (.pair (.int .i64) (.int .i64))) [] [(false,(.sl (.own none) iP))] λx a=>vN x
def amn:fy:=(fy.nil.add 63 e63).add 235 alU
def an2:An:={mask:=mk [(3,[0,3,4])],mv:=[12,17]}
abbrev OA:SD:=⟨.ptr 0 0::B::B::.data false (dp 36864 iP)::DI::bs 13 [],(some Y7)::zs 17 [],.ptr⟩
def ady (X:SD.D OA)(K:gO R):=uS (λy0 y1 y2=>ke 0 K OA ((w y0 (u y1) X.1),(u y2 X.2.1),X.2.2))
def akm:dL:=dL.nil.add 3 (iI OA ady (λX=>(X.1.1,X.1.2.1,X.2.1.1)))
theorem aiz:hY E amn an2 akm (aY f177 0):=lk OA ady (λX=>(X.1.1,X.1.2.1,X.2.1.1)) λX x=>((w x.1 (u x.2.1) X.1),(u x.2.2 X.2.1),X.2.2)
theorem asK:cO 177 alz:=gY.oX (oI (Γ:=amn) (an:=an2) (Λ:=akm) ((base.add ZQ).add ato) func177 (by kernel_rfl) (ao (cF aiz nF))) (λx a=>by kernel_rfl)
def alV:bg:=aN [pf (.sl ga)] [(true,(.sl (.own none) ga))] (c1 uj)
theorem ao8:cO 236 alV:=f0 {} base func236
def ahw:bg:=aN [pf pn] [rI] (c1 ru)
def aoh:An:={mask:=mk [(4,[3,4,5])]}
abbrev OK:SD:=⟨B::B::B::DI::.data false (dp 49152 (.int .i64))::DI::bs 26 [],zs 32 [],.none⟩
def adS (X:SD.D OK)(K:gO R):=mQ (λy0 y1=>ke 0 K OK ((w y0 (z1 (u y1)) X.1),X.2)) X.1.2.1
def akB:dL:=dL.nil.add 4 (iI OK adS (λX=>(X.1.1,q2 X)))
theorem aiT:hY E fy.nil aoh akB (aY f239 0):=lk OK adS (λX=>(X.1.1,q2 X)) λX x=>((w x.1 (z1 (u x.2)) X.1),X.2)
theorem apb:cO 239 ahw:=fk aoh base func239 (Λ:=akB) (cF aiT nF)
def ahv:bg:=aN [pf (.sl ga),pf pn] [rI] (c2 uk)
def aog:An:={mask:=mk [(2,[2,3,4,5])],merge:=mg [(7,39)]}
abbrev JF:SD:=⟨B::B::.ptr 2 0::.ptr 3 0::DI::DI::bs 35 [],Z::Z::(rD (.sl .arg ga))::(rD (cS Al Y1))::zs 37 [],.none⟩
def adR (X:SD.D JF)(K:gO R):=oa (λy0=>ke 0 K JF ((z1 (u y0) X.1),X.2)) (λy0 y1=>kr K JF ((w y0 (u y1) X.1),X.2)) X.1.1 X.2.1.1 X.2.1.2.1
def akA:dL:=dL.nil.add 2 (iI JF adR (λX=>X.1.2.1))
theorem aiS:hY E (fy.nil.add 239 ahw) aog akA (aY f238 0):=lk JF adR (λX=>X.1.2.1) λX x=>((z1 (u x) X.1),X.2)
theorem apa:cO 238 ahv:=fk aog (base.add apb) func238 (Λ:=akA) (cF aiS nF)
def ahu:bg:=aN [pf (.sl ga)] [rB] (c1 uf)
def aof:An:={mask:=mk [(4,[1,2,3])],merge:=mg [(7,30),(10,42)]}
abbrev JE:SD:=⟨B::.ptr 1 0::DB::DI::bs 45 [],Z::(rD (.sl .arg ga))::zs 47 [],.none⟩
def adQ (X:SD.D JE)(K:gO R):=sj (λy0=>ke 0 K JE ((z1 (u y0) X.1),X.2)) (λy0 y1=>kr K JE ((w y0 (u y1) X.1),X.2)) X.1.1 X.2.1.1
def akz:dL:=dL.nil.add 4 (iI JE adQ (λX=>X.1.2.1))
theorem aiR:hY E ((fy.nil.add 181 O4).add 238 ahv) aof akz (aY f237 0):=lk JE adQ (λX=>X.1.2.1) λX x=>((z1 (u x) X.1),X.2)
theorem ao9:cO 237 ahu:=fk aof ((base.add zx).add apa) func237 (Λ:=akz) (cF aiR nF)
def alA:bg:=aN [pf (.sl ga),pf pn,pI] [(true,(.sl (.own none) ga)),rB] (c3 xi)
def an3:An:={mask:=mk [(6,[2,3,4,6,8,9,10])],merge:=mg [(2,21),(6,31)],mv:=[22,49,57]}
abbrev OB:SD:=⟨B::B::DI::.ptr 3 0::.ptr 4 0::B::.ptr 6 0::B::.ptr 8 0::DI::DI::bs 47 [],Z::Z::Z::(rD (.sl .arg ga))::(rD (cS Al Y1))::Z::(rD (dp 73729 ga))::Z::(rD (dp 98305 ga))::zs 49 [],.none⟩
def adz (X:SD.D OB)(K:gO R):=wH (λy0 y1=>ke 0 K OB ((z1 (w y0 (u y1)) X.1),X.2)) X.1.1 X.2.1.1 X.2.1.2.1 X.2.1.2.2.1 X.2.1.2.2.2.1
def akn:dL:=dL.nil.add 6 (iI OB adz (λX=>(X.1.2.1,q2 X)))
theorem aiA:hY E (((((fy.nil.add 181 O4).add 236 alV).add 237 ahu).add 238 ahv).add 239 ahw) an3 akn (aY f178 0):=lk OB adz (λX=>(X.1.2.1,q2 X)) λX x=>((z1 (w x.1 (u x.2)) X.1),X.2)
theorem asL:cO 178 alA:=fk an3 (((((base.add zx).add ao8).add ao9).add apa).add apb) func178 (Λ:=akn) (cF aiA nF)
def alB:bg:=jd (.pair (.sl .wy (.int .u8)) (.pair (.int .i64) (.int .i64))) [] [(true,(.pair (.int .i64) Y1))] λx a=>xn x
theorem asM:cO 179 alB:=gY.oX (oI (an:={}) (Λ:=dL.nil) (((base.add ZQ).add o66).add ajw) func179 (by kernel_rfl) (ao nF)) (λx a=>by kernel_rfl)
def alc:bg:=jd (.pair (.sl .wy (.int .u8)) (.pair (.int .i64) (.int .i64))) [] [(true,Y19),rI] λx a=>qC x
def ahE:fy:=((((((fy.nil.add 61 e61).add 63 e63).add 123 aho).add 176 aly).add 177 alz).add 178 alA).add 179 alB
def ajk:An:={mask:=mk [(7,[0,2,4,6,7]),(11,[0,2,4,6,8])],mv:=[11,16,49,58,61],sb:=mg [(52,0),(54,0),(60,4)]}
abbrev Ol:SD:=⟨.ptr 0 0::B::.ptr 2 0::B::.ptr 4 0::B::DI::DI::bs 55 [],(some Y7)::Z::(some Y22)::Z::(some Y16)::zs 58 [],.ptr⟩
def adg (X:SD.D Ol)(K:gO R):=jF (λy0 y1=>ke 0 K Ol ((z1 (u y0) X.1),(z2 (u y1) X.2.1),X.2.2)) X.1.1 X.2.1.1 X.2.1.2.1
abbrev IH:SD:=⟨.ptr 0 0::B::.ptr 2 0::B::.ptr 4 0::B::DI::B::DI::bs 54 [],(some Y7)::Z::(some Y22)::Z::(some Y16)::zs 58 [],.ptr⟩
def XN (X:SD.D IH)(K:gO R):=gT (λy0 y1 y2=>ke 2 K IH ((z1 (u y0) X.1),(w y1 (z1 (u y2)) X.2.1),X.2.2)) X.1.1 X.2.1.2.1
def ag5:dL:=(dL.nil.add 7 (iI Ol adg (λX=>(X.1.2.1,X.2.1.2.2.1)))).add 11 (iI IH XN (λX=>(X.1.2.1,X.2.1.1,X.2.1.2.2.1)))
theorem aih:hY E ahE ajk ag5 (aY f120 0):=lk Ol adg (λX=>(X.1.2.1,X.2.1.2.2.1)) λX x=>((z1 (u x.1) X.1),(z2 (u x.2) X.2.1),X.2.2)
theorem afb:hY E ahE ajk ag5 (aY f120 1):=lk IH XN (λX=>(X.1.2.1,X.2.1.1,X.2.1.2.2.1)) λX x=>((z1 (u x.1) X.1),(w x.2.1 (z1 (u x.2.2)) X.2.1),X.2.2)
theorem ase:cO 120 alc:=gY.oX (oI (Γ:=ahE) (an:=ajk) (Λ:=ag5) (((((((base.add o61).add ZQ).add aoK).add asJ).add asK).add asL).add asM) func120 (by kernel_rfl) (ao (cF aih (cF afb nF)))) (λx a=>by kernel_rfl)
def arh:bg:=aN [pf fz] [rB] (c1 sS)
theorem atH:cO 271 arh:=f0 {merge:=mg [(1,2)]} base func271
def aqP:bg:=aN [pf fz] [rB] (c1 lM)
theorem atp:cO 240 aqP:=f0 {merge:=mg [(1,24),(3,2)]} ((base.add zx).add atH) func240
def alC:bg:=aN [pI,pI] [(true,Y13),rB] (c2 ub)
theorem asN:cO 180 alC:=f0 {} (base.add atp) func180
def alD:bg:=aN [pf uY] [rB] (c1 vH)
def an4:An:={mask:=mk [(2,[1,2,3])],merge:=mg [(4,35),(6,2)]}
abbrev Jx:SD:=⟨B::.ptr 1 0::DB::DI::bs 41 [],Z::(some Y25)::zs 43 [],.none⟩
def adB (X:SD.D Jx)(K:gO R):=qt (λy0=>ke 0 K Jx ((z1 (u y0) X.1),X.2)) (λy0 y1=>kr K Jx ((w y0 (u y1) X.1),X.2)) X.1.1 X.2.1.1
def ako:dL:=dL.nil.add 2 (iI Jx adB (λX=>X.1.2.1))
theorem aiC:hY E (fy.nil.add 181 O4) an4 ako (aY f182 0):=lk Jx adB (λX=>X.1.2.1) λX x=>((z1 (u x) X.1),X.2)
theorem asO:cO 182 alD:=fk an4 (base.add zx) func182 (Λ:=ako) (cF aiC nF)
def alZ:bg:=aN [pf iP] [rB] (c1 lB)
theorem atI:cO 272 alZ:=f0 {merge:=mg [(1,33),(3,54),(5,2)]} (base.add zx) func272
def alW:bg:=aN [pd (.sl iP)] [rB] (c1 xk)
def aoi:An:={mask:=mk [(2,[0,2,3])]}
abbrev JG:SD:=⟨.data false (.sl .arg iP)::B::DB::DI::bs 15 [],zs 19 [],.none⟩
def adT (X:SD.D JG)(K:gO R):=sg (λy0=>ke 0 K JG ((z2 (u y0) X.1),X.2)) (λy0 y1=>kr K JG ((z1 (w y0 (u y1)) X.1),X.2)) X.1.1 X.1.2.1
def akC:dL:=dL.nil.add 2 (iI JG adT q2)
theorem aiU:hY E (fy.nil.add 272 alZ) aoi akC (aY f241 0):=lk JG adT q2 λX x=>((z2 (u x) X.1),X.2)
theorem atq:cO 241 alW:=fk aoi (base.add atI) func241 (Λ:=akC) (cF aiU nF)
def al0:bg:=aN [pI] [rB] (c1 xo)
theorem atJ:cO 273 al0:=f0 {merge:=mg [(1,2)]} base func273
def alX:bg:=aN [pf CU,pI] [rB] (c2 vK)
def aoj:An:={mask:=mk [(4,[1,2,4,5])],merge:=mg [(1,21)]}
abbrev JH:SD:=⟨B::DI::.ptr 2 0::B::DB::DI::bs 32 [],Z::Z::(rD (cS .str (.sl .arg (.int .i64))))::zs 35 [],.none⟩
def adU (X:SD.D JH)(K:gO R):=qw (λy0=>ke 0 K JH ((z2 (u y0) X.1),X.2)) (λy0 y1=>kr K JH ((z1 (w y0 (u y1)) X.1),X.2)) X.1.1 X.1.2.1 X.2.1.1
def akD:dL:=dL.nil.add 4 (iI JH adU q2)
theorem aiV:hY E ((fy.nil.add 181 O4).add 273 al0) aoj akD (aY f242 0):=lk JH adU q2 λX x=>((z2 (u x) X.1),X.2)
theorem atr:cO 242 alX:=fk aoj ((base.add zx).add atJ) func242 (Λ:=akD) (cF aiV nF)
def alE:bg:=aN [pf oo,pI] [rB] (c2 si)
def amo:fy:=((fy.nil.add 237 ahu).add 241 alW).add 242 alX
def ajn:An:={mask:=mk [(4,[1,2,4,5]),(9,[1,2,4,6])],merge:=mg [(1,23)]}
abbrev Jy:SD:=⟨B::DI::.ptr 2 0::B::DB::DI::bs 50 [],Z::Z::(some Y18)::zs 53 [],.none⟩
def adC (X:SD.D Jy)(K:gO R):=nE (λy0=>ke 0 K Jy ((z2 (u y0) X.1),X.2)) (λy0 y1=>kr K Jy ((z1 (w y0 (u y1)) X.1),X.2)) X.1.1 X.1.2.1 X.2.1.1
abbrev Jz:SD:=⟨B::DI::.ptr 2 0::B::DB::B::DI::bs 49 [],Z::Z::(some Y18)::zs 53 [],.none⟩
def adD (X:SD.D Jz)(K:gO R):=nG (λy0=>ke 2 K Jz ((z2 (u y0) X.1),X.2)) (λy0 y1=>kr K Jz ((z1 (w y0 (u y1)) X.1),X.2)) X.1.1 X.1.2.1 X.2.1.1
def ag8:dL:=(dL.nil.add 4 (iI Jy adC q2)).add 9 (iI Jz adD q2)
theorem aiD:hY E amo ajn ag8 (aY f183 0):=lk Jy adC q2 λX x=>((z2 (u x) X.1),X.2)
theorem aiE:hY E amo ajn ag8 (aY f183 1):=lk Jz adD q2 λX x=>((z2 (u x) X.1),X.2)
theorem asP:cO 183 alE:=fk ajn (((base.add ao9).add atq).add atr) func183 (Λ:=ag8) (cF aiD (cF aiE nF))
def alF:bg:=aN [pI] [(true,(.sl (.own none) .str))] (c1 pM)
def an5:An:={mask:=mk [(3,[0,2,3,4])],merge:=mg [(3,12)],mv:=[16,21],mb:=mg [(16,3)],sb:=mg [(20,3)]}
abbrev OC:SD:=⟨DI::B::.ptr 2 0::.ptr 3 0::DI::bs 17 [],Z::Z::(rD (dp 24577 .str))::(rD (dp 36865 .str))::zs 18 [],.none⟩
def adE (X:SD.D OC)(K:gO R):=pc (λy0 y1=>ke 0 K OC ((z1 (u y0) X.1),(z1 (u y1) X.2.1),X.2.2)) X.1.1 X.2.1.1
def akp:dL:=dL.nil.add 3 (iI OC adE (λX=>(X.1.2.1,X.2.1.2.1)))
theorem aiF:hY E (fy.nil.add 124 ahp) an5 akp (aY f184 0):=lk OC adE (λX=>(X.1.2.1,X.2.1.2.1)) λX x=>((z1 (u x.1) X.1),(z1 (u x.2) X.2.1),X.2.2)
theorem asQ:cO 184 alF:=fk an5 (base.add afp) func184 (Λ:=akp) (cF aiF nF)
def ahy:bg:=aN [pf hZ] [rB] (c1 sQ)
def aos:An:={mask:=mk [(5,[1,2,3,4])],merge:=mg [(1,20),(7,50)]}
abbrev JJ:SD:=⟨B::.ptr 1 0::DB::.data false (dp 36864 .bool)::DI::bs 53 [],Z::(some Y14)::zs 56 [],.none⟩
def ad3 (X:SD.D JJ)(K:gO R):=uc (λy0 y1=>ke 0 K JJ ((z1 (w y0 (u y1)) X.1),X.2)) (λy0 y1 y2=>kr K JJ ((w y0 (w y1 (u y2)) X.1),X.2)) X.1.1 X.2.1.1
def akM:dL:=dL.nil.add 5 (iI JJ ad3 (λX=>(X.1.2.1,q2 X)))
theorem ai4:hY E (fy.nil.add 181 O4) aos akM (aY f274 0):=lk JJ ad3 (λX=>(X.1.2.1,q2 X)) λX x=>((z1 (w x.1 (u x.2)) X.1),X.2)
theorem ajG:cO 274 ahy:=fk aos (base.add zx) func274 (Λ:=akM) (cF ai4 nF)
def aqQ:bg:=aN [pI,pI,pI] [(true,Y8),rB] (c3 ua)
def aok:An:={mask:=mk [(3,[2,6,8,9])],merge:=mg [(3,20)],mv:=[24,33]}
abbrev OL:SD:=⟨B::B::DI::B::B::B::.ptr 6 0::B::.ptr 8 0::DI::bs 24 [],zs 6 ((some Y29)::Z::(some Y28)::zs 25 []),.none⟩
def adV (X:SD.D OL)(K:gO R):=nV (λy0 y1=>ke 0 K OL ((z1 (u y0) X.1),(z1 (u y1) X.2.1),X.2.2)) X.1.1 X.2.1.1
def akE:dL:=dL.nil.add 3 (iI OL adV (λX=>(X.1.2.1,X.2.1.2.1)))
theorem aiW:hY E (fy.nil.add 274 ahy) aok akE (aY f243 0):=lk OL adV (λX=>(X.1.2.1,X.2.1.2.1)) λX x=>((z1 (u x.1) X.1),(z1 (u x.2) X.2.1),X.2.2)
theorem apc:cO 243 aqQ:=fk aok (base.add ajG) func243 (Λ:=akE) (cF aiW nF)
def alG:bg:=aN [] [(true,Y17)] λa=>vP
theorem asR:cO 185 alG:=f0 {mv:=[4,9]} (base.add apc) func185
def alH:bg:=aN [pf uY] [(true,Y23)] (c1 xu)
theorem asS:cO 186 alH:=f0 {sb:=mg [(2,2)]} base func186
def alI:bg:=aN [pf oo] [(true,Y19)] (c1 xq)
theorem asT:cO 187 alI:=f0 {sb:=mg [(2,2)]} (base.add ao8) func187
def aeG:bg:=aN [pf (.sl .str)] [(true,(.sl (.own none) .str))] (c1 lD)
theorem afx:cO 276 aeG:=f0 {} base func276
def ame:bg:=aN [pd (.sl bG)] [rB] (c1 sf)
def ams:fy:=fy.nil.add 181 O4
def ajr:An:={mask:=mk [(4,[0,2,3]),(10,[0,2,3,4,5])],merge:=mg [(7,34),(12,57)]}
abbrev E3:SD:=⟨.data false (.sl .arg bG)::B::DB::DI::.ptr 4 0::DI::bs 52 [],zs 4 ((rD (jG (jG (jG .bool))))::zs 53 []),.none⟩
def XS (X:SD.D E3)(K:gO R):=mq (λy0=>ke 2 K E3 ((z3 (u y0) X.1),X.2)) (λy0 y1=>kr K E3 ((z1 (w y0 (z1 (u y1))) X.1),X.2)) X.1.1 X.1.2.1 (q2 X) X.2.1.1
abbrev JL:SD:=⟨.data false (.sl .arg bG)::B::DB::DI::bs 54 [],zs 58 [],.none⟩
def aeb (X:SD.D JL)(K:gO R):=nD (λy0=>ke 0 K JL ((z2 (u y0) X.1),X.2)) (λy0 y1=>kr K JL ((z1 (w y0 (u y1)) X.1),X.2)) X.1.1 X.1.2.1
def ahc:dL:=(dL.nil.add 10 (iI E3 XS q3)).add 4 (iI JL aeb q2)
theorem afg:hY E ams ajr ahc (aY f301 1):=lk E3 XS q3 λX x=>((z3 (u x) X.1),X.2)
theorem ajc:hY E ams ajr ahc (aY f301 0):=lk JL aeb q2 λX x=>((z2 (u x) X.1),X.2)
theorem at3:cO 301 ame:=fk ajr (base.add zx) func301 (Λ:=ahc) (cF ajc (cF afg nF))
def amf:bg:=aN [pf (.sl .str)] [rB] (c1 ry)
def aoy:An:={mask:=mk [(2,[1,2,3])]}
abbrev JM:SD:=⟨B::.ptr 1 0::DB::DI::bs 18 [],Z::(rD (.sl .arg .str))::zs 20 [],.none⟩
def aec (X:SD.D JM)(K:gO R):=qu (λy0=>ke 0 K JM ((z1 (u y0) X.1),X.2)) (λy0 y1=>kr K JM ((w y0 (u y1) X.1),X.2)) X.1.1 X.2.1.1
def akS:dL:=dL.nil.add 2 (iI JM aec (λX=>X.1.2.1))
theorem ajd:hY E fy.nil aoy akS (aY f302 0):=lk JM aec (λX=>X.1.2.1) λX x=>((z1 (u x) X.1),X.2)
theorem apr:cO 302 amf:=fk aoy base func302 (Λ:=akS) (cF ajd nF)
def amg:bg:=aN [pd (.sl bG),pI,pI,pd .bool] [rI] (c4 xr)
def aoz:An:={mask:=mk [(2,[0,1,2,3,8,9])],merge:=mg [(4,42)]}
abbrev JN:SD:=⟨.data false (.sl .arg bG)::DI::DI::DB::bs 4 (DI::DI::bs 38 []),zs 48 [],.none⟩
def aed (X:SD.D JN)(K:gO R):=sn (λy0=>ke 0 K JN ((z5 (u y0) X.1),X.2)) (λy0 y1=>kr K JN ((z4 (w y0 (u y1)) X.1),X.2)) X.1.1 X.1.2.1 (q2 X) (q3 X) (q4 X)
def akT:dL:=dL.nil.add 2 (iI JN aed q5)
theorem aje:hY E fy.nil aoz akT (aY f303 0):=lk JN aed q5 λX x=>((z5 (u x) X.1),X.2)
theorem at4:cO 303 amg:=fk aoz base func303 (Λ:=akT) (cF aje nF)
def ahA:bg:=aN [pf (.sl .str),pI,pI] [rB] (c3 mU)
theorem aps:cO 304 ahA:=f0 {merge:=mg [(2,6)]} (base.add apr) func304
def amb:bg:=aN [pd (.sl bG),pf (.sl .str),pI,pI,pI,pd .bool] [(false,(.sl (.own none) (.int .i64))),(false,(.sl (.own none) (.int .i64))),rB] (c6 vO)
def aow:An:={mask:=mk [(5,[0,2,3,4,5,7,12,13,14,15,16])],merge:=mg [(3,34),(10,57)],mv:=[35,36,64,71,81,82]}
abbrev JK:SD:=⟨.data false (.sl .arg bG)::B::DI::DI::DI::DB::B::.ptr 7 0::bs 4 (.data false (dp 147456 (.int .i64))::.data false (dp 159744 (.int .i64))::DB::.data false (dp 184320 (.int .i64))::.data false (dp 196608 (.int .i64))::bs 66 []),zs 7 ((rD (.sl .arg .str))::zs 75 []),.none⟩
def ad9 (X:SD.D JK)(K:gO R):=kc (λy0 y1 y2 y3=>ke 0 K JK ((z2 (w y0 (w y1 (z4 (w y2 (u y3))))) X.1),X.2)) (λy0 y1 y2 y3 y4 y5 y6=>kr K JK ((z2 (w y0 (w y1 (z1 (w y2 (w y3 (w y4 (w y5 (u y6)))))))) X.1),X.2)) X.1.1 X.1.2.1 (q4 X) (q5 X) (q6 X) (q7 X) X.2.1.1
def akQ:dL:=dL.nil.add 5 (iI JK ad9 (λX=>(q2 X,q3 X,q8 X,q9 X)))
theorem aja:hY E (((((fy.nil.add 181 O4).add 301 ame).add 302 amf).add 303 amg).add 304 ahA) aow akQ (aY f293 0):=lk JK ad9 (λX=>(q2 X,q3 X,q8 X,q9 X)) λX x=>((z2 (w x.1 (w x.2.1 (z4 (w x.2.2.1 (u x.2.2.2))))) X.1),X.2)
theorem atX:cO 293 amb:=fk aow (((((base.add zx).add at3).add apr).add at4).add aps) func293 (Λ:=akQ) (cF aja nF)
def amc:bg:=aN [pf (.sl .str),pI,pd .str] [(true,(.sl (.own none) .str)),rB] (c3 qA)
def aox:An:={mask:=mk [(4,[1,2,6,8])],mv:=[19,52]}
abbrev O0:SD:=⟨B::DI::.data false .str::B::B::B::.ptr 6 0::B::.ptr 8 0::bs 44 [],zs 6 ((rD (dp 73729 .str))::Z::(rD (dp 98305 .str))::zs 44 []),.none⟩
def aea (X:SD.D O0)(K:gO R):=mu (λy0 y1 y2=>ke 0 K O0 ((w y0 (u y1) X.1),(z1 (u y2) X.2.1),X.2.2)) X.2.1.1
def akR:dL:=dL.nil.add 4 (iI O0 aea (λX=>(X.1.1,X.1.2.1,X.2.1.2.1)))
theorem ajb:hY E (((fy.nil.add 62 e62).add 276 aeG).add 304 ahA) aox akR (aY f294 0):=lk O0 aea (λX=>(X.1.1,X.1.2.1,X.2.1.2.1)) λX x=>((w x.1 (u x.2.1) X.1),(z1 (u x.2.2) X.2.1),X.2.2)
theorem atY:cO 294 amc:=fk aox (((base.add o62).add afx).add aps) func294 (Λ:=akR) (cF ajb nF)
def al1:bg:=aN [pd (.sl bG),pf (.sl .str),pI,pI,pd .str] [(true,(.sl (.own none) .str)),rB] (c5 rr)
def aot:An:={mask:=mk [(6,[4,10,12,13,15,16])],mv:=[32,39,52,60],sb:=mg [(15,15)]}
abbrev OV:SD:=⟨bs 4 (.data false .str::bs 5 (.ptr 10 0::B::.data false (.sl .loc (.int .i64))::.data false (.sl .loc (.int .i64))::B::.ptr 15 0::DI::bs 44 [])),zs 10 ((rD (dp 122881 .str))::zs 4 ((rD (dp 184321 .str))::zs 45 [])),.none⟩
def ad4 (X:SD.D OV)(K:gO R):=mO (λy0 y1 y2=>ke 0 K OV ((w y0 (z2 (u y1)) X.1),(z1 (u y2) X.2.1),X.2.2)) X.1.2.1 (q2 X) X.2.1.1
def akN:dL:=dL.nil.add 6 (iI OV ad4 (λX=>(X.1.1,q3 X,X.2.1.2.1)))
theorem ai5:hY E (((fy.nil.add 276 aeG).add 293 amb).add 294 amc) aot akN (aY f275 0):=lk OV ad4 (λX=>(X.1.1,q3 X,X.2.1.2.1)) λX x=>((w x.1 (z2 (u x.2.1)) X.1),(z1 (u x.2.2) X.2.1),X.2.2)
theorem apl:cO 275 al1:=fk aot (((base.add afx).add atX).add atY) func275 (Λ:=akN) (cF ai5 nF)
def aqR:bg:=aN [pd (.sl bG),pf (.sl .str),pI,pI,pd .str] [(true,(.sl (.own none) .str)),rB] (c5 tY)
def aol:An:={mask:=mk [(3,[0,2,3,4,6,10,12,13])],mv:=[27]}
abbrev OM:SD:=⟨.data false (.sl .arg bG)::B::DI::DI::.data false .str::B::.ptr 6 0::B::B::B::.ptr 10 0::B::.data false (dp 147456 bG)::DI::bs 25 [],zs 6 ((rD (.sl .arg .str))::Z::Z::Z::(rD (dp 122881 .str))::zs 28 []),.none⟩
def adW (X:SD.D OM)(K:gO R):=pb (λy0 y1=>ke 0 K OM ((z4 (w y0 (u y1)) X.1),X.2)) X.1.1 X.1.2.1 (q2 X) (q3 X) X.2.1.1 X.2.1.2.1
def akF:dL:=dL.nil.add 3 (iI OM adW (λX=>(q4 X,q5 X)))
theorem aiX:hY E (fy.nil.add 275 al1) aol akF (aY f244 0):=lk OM adW (λX=>(q4 X,q5 X)) λX x=>((z4 (w x.1 (u x.2)) X.1),X.2)
theorem ats:cO 244 aqR:=fk aol (base.add apl) func244 (Λ:=akF) (cF aiX nF)
def al2:bg:=aN [pf hZ] [(true,Y8)] (c1 xt)
theorem atK:cO 277 al2:=f0 {sb:=mg [(2,2)]} base func277
def arp:bg:=aN [pI] [rB] (c1 um)
theorem apo:cO 295 arp:=f0 {merge:=mg [(1,2)]} base func295
def arq:bg:=aN [pf sD] [rI] (c1 rC)
theorem apq:cO 296 arq:=f0 {} (base.add apo) func296
def al3:bg:=aN [pf sD] [rB] (c1 sR)
theorem ajH:cO 278 al3:=f0 {merge:=mg [(1,2)]} (((base.add zx).add apo).add apq) func278
def al4:bg:=aN [pf sD] [rI] (c1 rA)
theorem apm:cO 279 al4:=f0 {} ((base.add ajH).add apq) func279
def ars:bg:=aN [pf sD,pI] [rI] (c2 qv)
theorem atZ:cO 297 ars:=f0 {merge:=mg [(1,11)]} (base.add ajH) func297
def al5:bg:=aN [pd (.sl bG),pf (.sl .str),pI,pf sD,pd .str] [(true,(.sl (.own none) .str)),(true,Y1),rB] (c5 xj)
theorem atL:cO 280 al5:=f0 {merge:=mg [(1,22)],mv:=[26,36,51],mb:=mg [(51,13)],sb:=mg [(10,10),(11,11),(13,13)]} ((((base.add apl).add afx).add apm).add atZ) func280
def art:bg:=aN [pf na] [rB] (c1 yX)
theorem at0:cO 298 art:=f0 {merge:=mg [(1,2)]} (base.add zx) func298
def al6:bg:=aN [pf na] [rS] (c1 se)
theorem atM:cO 281 al6:=f0 {} (((base.add ZP).add acu).add at0) func281
def al7:bg:=aN [pf hZ,pI] [rI] (c2 nB)
theorem atN:cO 282 al7:=f0 {merge:=mg [(1,15)]} ((base.add zx).add ajG) func282
def aqS:bg:=aN [pd (.sl bG),pf (.sl .str),pI,pf sD,pf hZ] [(true,(.sl (.own none) .str)),(true,Y1),(true,Y8),rI] (c5 vG)
def aom:An:={mask:=mk [(6,[0,2,8,9,10,11,12,14,15,16])],merge:=mg [(4,32),(6,44)],mv:=[33,35,49,63,68,78,80],mb:=mg [(33,14),(35,15),(78,14),(80,15)],sb:=mg [(10,10),(11,11),(12,12),(18,18),(19,19)]}
abbrev ON:SD:=⟨.data false (.sl .arg bG)::B::DI::bs 5 (.ptr 8 0::.ptr 9 0::.ptr 10 0::.ptr 11 0::.ptr 12 0::B::.ptr 14 0::.ptr 15 0::DI::bs 65 []),zs 8 ((some Y1)::(some Y14)::(rD (dp 122881 .str))::(some Y1)::(some Y27)::Z::(rD (dp 172033 .str))::(some Y26)::zs 66 []),.none⟩
def adX (X:SD.D ON)(K:gO R):=mP (λy0 y1 y2 y3=>ke 0 K ON ((z2 (u y0) X.1),(w y1 (z4 (w y2 (u y3))) X.2.1),X.2.2)) X.1.1 X.1.2.1 X.2.1.2.1 X.2.1.2.2.1 X.2.1.2.2.2.1 X.2.1.2.2.2.2.1
def akG:dL:=dL.nil.add 6 (iI ON adX (λX=>(q2 X,X.2.1.1,X.2.1.2.2.2.2.2.1,X.2.1.2.2.2.2.2.2.1)))
theorem aiY:hY E ((((((((fy.nil.add 274 ahy).add 276 aeG).add 277 al2).add 278 al3).add 279 al4).add 280 al5).add 281 al6).add 282 al7) aom akG (aY f245 0):=lk ON adX (λX=>(q2 X,X.2.1.1,X.2.1.2.2.2.2.2.1,X.2.1.2.2.2.2.2.2.1)) λX x=>((z2 (u x.1) X.1),(w x.2.1 (z4 (w x.2.2.1 (u x.2.2.2))) X.2.1),X.2.2)
theorem att:cO 245 aqS:=fk aom ((((((((base.add ajG).add afx).add atK).add ajH).add apm).add atL).add atM).add atN) func245 (Λ:=akG) (cF aiY nF)
def alJ:bg:=jd (.pair (.sl (.own none) .str) (.pair (.sl (.own none) bG) (.pair (.pair (.pair (.int .i64) (.pair (.int .i64) (.pair (.int .i64) (.int .i64)))) (.pair (.pair (.int .i64) (.pair (.int .i64) (.pair (.int .i64) (.sl (.own none) (.int .i64))))) (.pair (.sl (.own none) ia) (.int .i64)))) (.pair (.sl (.own none) dM) (.pair (.sl (.own none) hZ) (.pair (.sl (.own none) fz) (.pair (.sl (.own none) .bool) (.pair (.pair (.int .i64) (.pair .bool (.sl (.own none) (.int .i64)))) (.pair (.pair (.sl (.own none) iP) (.pair (.sl (.own none) ga) (.pair .str (.sl (.own none) (.int .i64))))) (.pair (.sl (.own none) dK) (.pair .bool (.pair (.sl (.own none) .str) (.pair (.sl (.own none) (.int .i64)) (.pair (.sl (.own none) (.int .i64)) (.pair (.int .i64) (.pair (.int .i64) (.pair (.int .i64) (.pair (.int .i64) (.int .i64))))))))))))))))))) [pI] [] λx a=>uq x a.1
theorem asU:cO 188 alJ:=gY.oX (oI (an:={mv:=[47,51,65,67,84],mb:=mg [(84,6)],sb:=mg [(6,6),(50,0),(70,0),(71,5)]}) (Λ:=dL.nil) ((((base.add afp).add apc).add ats).add att) func188 (by kernel_rfl) (ao nF)) (λx a=>by kernel_rfl)
def ald:bg:=aN [pI,pf uY,pf oo,pd .bool,pI,pI] [(true,Y0),rB] (c6 tZ)
def amk:fy:=((((((((fy.nil.add 180 alC).add 181 O4).add 182 alD).add 183 alE).add 184 alF).add 185 alG).add 186 alH).add 187 alI).add 188 alJ
def ajl:An:={mask:=mk [(6,[0,12,14,16,17]),(10,[0,12,14,16,18])],merge:=mg [(2,42)],mv:=[57,74,80,86,92,98],mb:=mg [(57,16)],sb:=mg [(16,16),(67,16)]}
abbrev Om:SD:=⟨DI::bs 11 (.ptr 12 0::B::.ptr 14 0::B::.ptr 16 0::DI::bs 81 []),zs 12 ((some Y11)::Z::(some Y13)::Z::(some Y10)::zs 82 []),.none⟩
def adh (X:SD.D Om)(K:gO R):=wG (λy0 y1=>ke 0 K Om ((z1 (u y0) X.1),(z2 (u y1) X.2.1),X.2.2)) X.1.1 X.2.1.1 X.2.1.2.1
abbrev II:SD:=⟨DI::bs 11 (.ptr 12 0::B::.ptr 14 0::B::.ptr 16 0::B::DI::bs 80 []),zs 12 ((some Y11)::Z::(some Y13)::Z::(some Y10)::zs 82 []),.none⟩
def XO (X:SD.D II)(K:gO R):=uQ (λy0 y1=>ke 2 K II ((z1 (u y0) X.1),(z2 (u y1) X.2.1),X.2.2)) X.1.1 X.2.1.1 X.2.1.2.1
def ag6:dL:=(dL.nil.add 6 (iI Om adh (λX=>(X.1.2.1,X.2.1.2.2.1)))).add 10 (iI II XO (λX=>(X.1.2.1,X.2.1.2.2.1)))
theorem aii:hY E amk ajl ag6 (aY f121 0):=lk Om adh (λX=>(X.1.2.1,X.2.1.2.2.1)) λX x=>((z1 (u x.1) X.1),(z2 (u x.2) X.2.1),X.2.2)
theorem afc:hY E amk ajl ag6 (aY f121 1):=lk II XO (λX=>(X.1.2.1,X.2.1.2.2.1)) λX x=>((z1 (u x.1) X.1),(z2 (u x.2) X.2.1),X.2.2)
theorem asf:cO 121 ald:=fk ajl (((((((((base.add asN).add zx).add asO).add asP).add asQ).add asR).add asS).add asT).add asU) func121 (Λ:=ag6) (cF aii (cF afc nF))
def ale:bg:=jd (.pair (.sl .wy (.int .u8)) (.pair (.int .i64) (.int .i64))) [] [(true,Y23)] λx a=>uo x
theorem asg:cO 122 ale:=gY.oX (oI (an:={mv:=[11]}) (Λ:=dL.nil) (base.add o61) func122 (by kernel_rfl) (ao nF)) (λx a=>by kernel_rfl)
def e67:bg:=jd (.pair (.sl .wy (.int .u8)) (.pair (.int .i64) (.int .i64))) [] [(true,Y0)] λx a=>xv x
def g67:fy:=(((((fy.nil.add 63 e63).add 120 alc).add 121 ald).add 122 ale).add 123 aho).add 124 ahp
def n67:An:={mask:=mk [(2,[0,2,3]),(6,[0,2,3,4,5,6])],mv:=[15,32,46,49,50,60],sb:=mg [(7,7),(34,0),(37,0),(40,0),(43,0)]}
abbrev WV:SD:=⟨.ptr 0 0::B::.ptr 2 0::DI::.ptr 4 0::DI::DI::bs 54 [],(some Y7)::Z::(some Y3)::Z::(some Y16)::zs 56 [],.ptr⟩
def agO (X:SD.D WV)(K:gO R):=wL (λy0 y1=>ke 2 K WV ((z2 (u y0) X.1),(z2 (u y1) X.2.1),X.2.2)) X.1.1 X.1.2.1 X.2.1.1 X.2.1.2.1
abbrev Rd:SD:=⟨.ptr 0 0::B::.ptr 2 0::DI::bs 57 [],(some Y7)::Z::(some Y3)::zs 58 [],.ptr⟩
def agN (X:SD.D Rd)(K:gO R):=wK (λy0 y1=>ke 0 K Rd ((u y0 X.1),(u y1 X.2.1),X.2.2)) (λy0 y1 y2=>kr K Rd ((u y0 X.1),(w y1 (u y2) X.2.1),X.2.2)) X.2.1.2.1
def L67:dL:=(dL.nil.add 6 (iI WV agO (λX=>(q2 X,X.2.1.2.2.1)))).add 2 (iI Rd agN (λX=>(X.1.1,X.2.1.1)))
theorem anv:hY E g67 n67 L67 (aY f67 1):=lk WV agO (λX=>(q2 X,X.2.1.2.2.1)) λX x=>((z2 (u x.1) X.1),(z2 (u x.2) X.2.1),X.2.2)
theorem anu:hY E g67 n67 L67 (aY f67 0):=lk Rd agN (λX=>(X.1.1,X.2.1.1)) λX x=>((u x.1 X.1),(u x.2 X.2.1),X.2.2)
theorem o67:cO 67 e67:=gY.oX (oI (Γ:=g67) (an:=n67) (Λ:=L67) ((((((base.add ZQ).add ase).add asf).add asg).add aoK).add afp) func67 (by kernel_rfl) (ao (cF anu (cF anv nF)))) (λx a=>by kernel_rfl)
def apM:bg:=aN [pd .str] [rS,rB] (c1 vF)
theorem ash:cO 125 apM:=f0 {merge:=mg [(1,16)]} (base.add aoI) func125
def aqT:bg:=aN [pd .str,pI] [rI] (c2 gN)
theorem afv:cO 246 aqT:=f0 {} (base.add ajv) func246
def aqU:bg:=aN [pd .str,pI] [rI] (c2 nC)
theorem ajD:cO 247 aqU:=f0 {} ((base.add ajv).add afv) func247
def aqh:bg:=aN [pd .str] [(true,Y15),rB] (c1 vJ)
theorem asV:cO 189 aqh:=f0 {sb:=mg [(4,4)]} (((base.add ao7).add afv).add ajD) func189
def aqi:bg:=aN [pd .str] [(true,Y21),rB] (c1 xh)
theorem asW:cO 190 aqi:=f0 {merge:=mg [(2,22),(6,56)],sb:=mg [(5,5)]} (((base.add aoY).add afv).add ajD) func190
def aqj:bg:=aN [pI,pI,pI,pd .str] [(true,(.pair (.int .i64) Y21)),rB] (c4 pe)
theorem asX:cO 191 aqj:=f0 {merge:=mg [(3,20),(9,44),(12,68)]} (((base.add aoX).add afv).add ajD) func191
def apN:bg:=aN [pd .str] [(true,Y2),rI] (c1 ue)
theorem asi:cO 126 apN:=f0 {merge:=mg [(2,20)]} ((((base.add ajA).add asV).add asW).add asX) func126
def e68:bg:=aN [pd .str] [(true,Y2),rI] (c1 ud)
theorem o68:cO 68 e68:=f0 {} (((base.add aoH).add ash).add asi) func68
def alf:bg:=aN [pf cQ] [(true,(.pair (.int .i64) Y1))] (c1 CH)
theorem asj:cO 127 alf:=f0 {} base func127
def alg:bg:=aN [pd (.sl dK),pf pn] [rI] (c2 qx)
def anQ:An:={mask:=mk [(2,[0,3,4,5])]}
abbrev Jq:SD:=⟨.data false (.sl .arg dK)::B::B::.ptr 3 0::DI::DI::bs 14 [],Z::Z::Z::(rD (cS Al Y1))::zs 16 [],.none⟩
def adj (X:SD.D Jq)(K:gO R):=mr (λy0=>ke 0 K Jq ((z2 (u y0) X.1),X.2)) (λy0 y1=>kr K Jq ((z1 (w y0 (u y1)) X.1),X.2)) X.1.1 X.1.2.1 X.2.1.1
def aka:dL:=dL.nil.add 2 (iI Jq adj q2)
theorem aik:hY E fy.nil anQ aka (aY f128 0):=lk Jq adj q2 λX x=>((z2 (u x) X.1),X.2)
theorem asl:cO 128 alg:=fk anQ base func128 (Λ:=aka) (cF aik nF)
def e69:bg:=jd (.pair (.sl .wy (.int .u8)) (.pair (.int .i64) (.int .i64))) [pd (.sl cQ)] [(false,(.sl (.own none) dK))] λx a=>xm x a.1
def g69:fy:=(((fy.nil.add 61 e61).add 66 e66).add 127 alf).add 128 alg
def n69:An:={mask:=mk [(3,[0,1,5,6])],mv:=[45,52],sb:=mg [(41,0)]}
abbrev WW:SD:=⟨.ptr 0 0::.data false (.sl .arg cQ)::B::B::B::.data false (dp 61440 dK)::DI::bs 46 [],(some Y7)::zs 52 [],.ptr⟩
def agP (X:SD.D WW)(K:gO R):=wJ (λy0 y1 y2=>ke 0 K WW ((z1 (w y0 (u y1)) X.1),(u y2 X.2.1),X.2.2)) X.1.1
def L69:dL:=dL.nil.add 3 (iI WW agP (λX=>(X.1.2.1,q2 X,X.2.1.1)))
theorem anw:hY E g69 n69 L69 (aY f69 0):=lk WW agP (λX=>(X.1.2.1,q2 X,X.2.1.1)) λX x=>((z1 (w x.1 (u x.2.1)) X.1),(u x.2.2 X.2.1),X.2.2)
theorem o69:cO 69 e69:=gY.oX (oI (Γ:=g69) (an:=n69) (Λ:=L69) ((((base.add o61).add o66).add asj).add asl) func69 (by kernel_rfl) (ao (cF anw nF))) (λx a=>by kernel_rfl)
def e26:bg:=jd (.pair (.sl .wy (.int .u8)) (.pair (.int .i64) (.int .i64))) [pd (.sl Am)] [(true,Y0)] λx a=>vQ x a.1
def g26:fy:=((fy.nil.add 67 e67).add 68 e68).add 69 e69
def n26:An:={mask:=mk [(4,[0,1,4,5,6,7])],mv:=[30,38]}
abbrev WL:SD:=⟨.ptr 0 0::.data false (.sl .arg Am)::B::B::.ptr 4 0::.ptr 5 0::.data false (dp 73728 cQ)::DI::bs 31 [],(some Y7)::Z::Z::Z::(some Y6)::(rD (cS (dp 61441 .str) (cS (dp 61444 bG) (cS (cS Y1 (cS (jG (jG (jG (dp 61468 (.int .i64))))) (cS (dp 61471 ia) Al))) (cS (dp 61477 dM) (cS (dp 61480 hZ) (cS (dp 61483 fz) (cS (dp 61486 .bool) (cS (jG (cS .bool (dp 61495 (.int .i64)))) (cS (cS (dp 61498 iP) (cS (dp 61501 ga) (cS .str (dp 61507 (.int .i64))))) (cS (dp 61510 dK) (cS .bool (cS (dp 61516 .str) (cS (dp 61519 (.int .i64)) (cS (dp 61522 (.int .i64)) (cS Al Y1))))))))))))))))::zs 33 [],.ptr⟩
def agv (X:SD.D WL)(K:gO R):=uT (λy0 y1=>ke 0 K WL ((z1 (w y0 (u y1)) X.1),X.2)) X.1.1 X.2.1.1 X.2.1.2.1 X.2.1.2.2.1
def L26:dL:=dL.nil.add 4 (iI WL agv (λX=>(X.1.2.1,q2 X)))
theorem anb:hY E g26 n26 L26 (aY f26 0):=lk WL agv (λX=>(X.1.2.1,q2 X)) λX x=>((z1 (w x.1 (u x.2)) X.1),X.2)
theorem o26:cO 26 e26:=gY.oX (oI (Γ:=g26) (an:=n26) (Λ:=L26) (((base.add o67).add o68).add o69) func26 (by kernel_rfl) (ao (cF anb nF))) (λx a=>by kernel_rfl)
def e8:bg:=aN [pd (.sl (.int .u8))] [(true,Y0),(false,(.sl (.own none) Am))] (c1 qs)
theorem o8:cO 8 e8:=f0 {mv:=[13]} (((base.add o24).add o25).add o26) func8
def e9:bg:=aN [pd (.sl (.int .u8)),pI] [rI] (c2 IW)
theorem o9:cO 9 e9:=f0 {} base func9
def e40:bg:=aN [pf (.sl .str)] [rB] (c1 qX)
def n40:An:={mask:=mk [(2,[1,2,6,7,8])]}
abbrev Q5:SD:=⟨B::.ptr 1 0::DB::B::B::B::.data false (.sl .arg .str)::DI::DI::bs 11 [],Z::(rD (.sl .arg .str))::zs 18 [],.none⟩
def agA (X:SD.D Q5)(K:gO R):=zS (λy0=>ke 0 K Q5 ((z3 (u y0) X.1),X.2)) (λy0 y1=>kr K Q5 ((w y0 (z2 (u y1)) X.1),X.2)) X.1.1 X.1.2.1 (q2 X) X.2.1.1
def L40:dL:=dL.nil.add 2 (iI Q5 agA q3)
theorem anh:hY E fy.nil n40 L40 (aY f40 0):=lk Q5 agA q3 λX x=>((z3 (u x) X.1),X.2)
theorem o40:cO 40 e40:=fk n40 base func40 (Λ:=L40) (cF anh nF)
def e30:bg:=aN [pd (.sl bG),pI,pI] [rI] (c3 kb)
def n30:An:={mask:=mk [(2,[1,2,6,9,10,11])],merge:=mg [(4,25)]}
abbrev Q4:SD:=⟨B::DI::DI::B::B::B::DI::B::B::.data false (.sl .arg bG)::DI::DI::bs 16 [],zs 28 [],.none⟩
def agx (X:SD.D Q4)(K:gO R):=mf (λy0=>ke 0 K Q4 ((z5 (u y0) X.1),X.2)) (λy0 y1=>kr K Q4 ((z2 (w y0 (z2 (u y1))) X.1),X.2)) X.1.1 X.1.2.1 (q2 X) (q3 X) (q4 X)
def L30:dL:=dL.nil.add 2 (iI Q4 agx q5)
theorem ane:hY E fy.nil n30 L30 (aY f30 0):=lk Q4 agx q5 λX x=>((z5 (u x) X.1),X.2)
theorem o30:cO 30 e30:=fk n30 base func30 (Λ:=L30) (cF ane nF)
def Rp:bg:=aN [pI,pI,pI] [rB] (c3 aD)
theorem BJ:cO 44 Rp:=f0 {merge:=mg [(1,6)]} base func44
def e41:bg:=aN [pd (.sl bG)] [rB] (c1 nN)
def n41:An:={mask:=mk [(2,[0,2,5,6,7])],merge:=mg [(4,37)]}
abbrev Q6:SD:=⟨.data false (.sl .arg bG)::B::DB::B::B::.data false (.sl .arg bG)::DI::DI::bs 34 [],zs 42 [],.none⟩
def agB (X:SD.D Q6)(K:gO R):=nj (λy0=>ke 0 K Q6 ((z4 (u y0) X.1),X.2)) (λy0 y1=>kr K Q6 ((z1 (w y0 (z2 (u y1))) X.1),X.2)) X.1.1 X.1.2.1 (q2 X) (q3 X)
def L41:dL:=dL.nil.add 2 (iI Q6 agB q4)
theorem ani:hY E ((fy.nil.add 30 e30).add 44 Rp) n41 L41 (aY f41 0):=lk Q6 agB q4 λX x=>((z4 (u x) X.1),X.2)
theorem o41:cO 41 e41:=fk n41 ((base.add o30).add BJ) func41 (Λ:=L41) (cF ani nF)
def e46:bg:=aN [pf hZ] [rB] (c1 iw)
def n46:An:={mask:=mk [(5,[1,2,3,26,27,28])],merge:=mg [(1,21),(7,43)]}
abbrev Q9:SD:=⟨B::.ptr 1 0::DB::.data false (dp 36864 .bool)::bs 22 (.data false (.sl .arg (.int .i64))::DI::DI::bs 19 []),Z::(some Y14)::zs 46 [],.none⟩
def agE (X:SD.D Q9)(K:gO R):=tC (λy0 y1=>ke 0 K Q9 ((z1 (w y0 (z2 (u y1))) X.1),X.2)) (λy0 y1 y2=>kr K Q9 ((w y0 (w y1 (z2 (u y2))) X.1),X.2)) X.1.1 (q2 X) (q3 X) X.2.1.1
def L46:dL:=dL.nil.add 5 (iI Q9 agE (λX=>(X.1.2.1,q4 X)))
theorem anl:hY E (fy.nil.add 44 Rp) n46 L46 (aY f46 0):=lk Q9 agE (λX=>(X.1.2.1,q4 X)) λX x=>((z1 (w x.1 (z2 (u x.2))) X.1),X.2)
theorem o46:cO 46 e46:=fk n46 (base.add BJ) func46 (Λ:=L46) (cF anl nF)
def apY:bg:=aN [pI] [rB] (c1 rh)
theorem ajx:cO 146 apY:=f0 {merge:=mg [(1,2)]} base func146
def ahs:bg:=aN [pI,pI] [rI] (c2 ix)
theorem afs:cO 162 ahs:=f0 {} base func162
def aln:bg:=aN [pf sD] [rI] (c1 iV)
theorem acs:cO 147 aln:=f0 {} ((base.add ajx).add afs) func147
def e94:bg:=aN [pf sD] [rB] (c1 jh)
theorem o94:cO 94 e94:=f0 {merge:=mg [(1,2)]} (((base.add BJ).add ajx).add acs) func94
def e39:bg:=aN [pd (.sl (.int .i64))] [(false,(.sl (.own none) (.int .i64)))] (c1 fL)
theorem o39:cO 39 e39:=f0 {} base func39
def e72:bg:=aN [pf hZ] [(true,Y8)] (c1 hH)
theorem o72:cO 72 e72:=f0 {mv:=[7]} (base.add o39) func72
def e98:bg:=aN [pf hZ,pd (.sl (.int .i64))] [(true,Y8),rB] (c2 fK)
theorem o98:cO 98 e98:=f0 {merge:=mg [(3,21)],mv:=[10,24]} ((base.add o46).add o72) func98
def e42:bg:=aN [pf kh] [rB] (c1 xH)
def n42:An:={mask:=mk [(6,[1,2,3,4,30,31,32])],merge:=mg [(1,24),(8,50)],mv:=[55]}
abbrev Q7:SD:=⟨B::.ptr 1 0::DB::DI::.data false (dp 49152 (.int .i64))::bs 25 (.data false (.sl .arg ia)::DI::DI::bs 35 []),Z::(some Y24)::zs 66 [],.none⟩
def agC (X:SD.D Q7)(K:gO R):=tG (λy0 y1 y2=>ke 0 K Q7 ((z1 (w y0 (w y1 (z2 (u y2)))) X.1),X.2)) (λy0 y1 y2 y3=>kr K Q7 ((w y0 (w y1 (w y2 (z2 (u y3)))) X.1),X.2)) X.1.1 (q3 X) (q4 X) X.2.1.1
def L42:dL:=dL.nil.add 6 (iI Q7 agC (λX=>(X.1.2.1,q2 X,q5 X)))
theorem anj:hY E ((((fy.nil.add 44 Rp).add 46 e46).add 94 e94).add 98 e98) n42 L42 (aY f42 0):=lk Q7 agC (λX=>(X.1.2.1,q2 X,q5 X)) λX x=>((z1 (w x.1 (w x.2.1 (z2 (u x.2.2)))) X.1),X.2)
theorem o42:cO 42 e42:=fk n42 ((((base.add BJ).add o46).add o94).add o98) func42 (Λ:=L42) (cF anj nF)
def e43:bg:=aN [pf uY] [rB] (c1 qV)
def n43:An:={mask:=mk [(2,[1,2,6,7,8])],merge:=mg [(4,29),(7,2)]}
abbrev Q8:SD:=⟨B::.ptr 1 0::DB::B::B::B::.data false (.sl .arg (.int .i64))::DI::DI::bs 31 [],Z::(some Y25)::zs 38 [],.none⟩
def agD (X:SD.D Q8)(K:gO R):=pV (λy0=>ke 0 K Q8 ((z3 (u y0) X.1),X.2)) (λy0 y1=>kr K Q8 ((w y0 (z2 (u y1)) X.1),X.2)) X.1.1 X.1.2.1 (q2 X) X.2.1.1
def L43:dL:=dL.nil.add 2 (iI Q8 agD q3)
theorem ank:hY E (fy.nil.add 44 Rp) n43 L43 (aY f43 0):=lk Q8 agD q3 λX x=>((z3 (u x) X.1),X.2)
theorem o43:cO 43 e43:=fk n43 (base.add BJ) func43 (Λ:=L43) (cF ank nF)
def e99:bg:=aN [pf gP] [rB] (c1 nn)
theorem o99:cO 99 e99:=f0 {merge:=mg [(1,2)]} ((base.add BJ).add ajx) func99
def ap3:bg:=aN [pf zG] [rB] (c1 pA)
theorem aoQ:cO 154 ap3:=f0 {merge:=mg [(1,18),(5,2),(7,2)]} (base.add BJ) func154
def ap4:bg:=aN [pI] [rB] (c1 pE)
theorem aoR:cO 155 ap4:=f0 {merge:=mg [(1,2)]} base func155
def ahm:bg:=aN [pf cQ] [rB] (c1 gj)
theorem Mn:cO 100 ahm:=f0 {merge:=mg [(1,2)]} (((base.add BJ).add aoQ).add aoR) func100
def e45:bg:=aN [pf dM] [rB] (c1 uF)
theorem o45:cO 45 e45:=f0 {merge:=mg [(1,42),(5,2)]} ((((base.add BJ).add o94).add o99).add Mn) func45
def apD:bg:=aN [pf fz] [rB] (c1 zU)
theorem aoB:cO 101 apD:=f0 {merge:=mg [(1,2)]} base func101
def e47:bg:=aN [pf fz] [rB] (c1 lI)
theorem o47:cO 47 e47:=f0 {merge:=mg [(1,24),(3,2)]} ((base.add BJ).add aoB) func47
def alq:bg:=aN [pf iP] [rB] (c1 yO)
theorem aoS:cO 156 alq:=f0 {merge:=mg [(1,33),(3,54),(5,2)]} (base.add BJ) func156
def ahn:bg:=aN [pd (.sl iP)] [rB] (c1 xc)
def anK:An:={mask:=mk [(2,[0,2,5,6,7])]}
abbrev Jn:SD:=⟨.data false (.sl .arg iP)::B::DB::B::B::.data false (.sl .arg iP)::DI::DI::bs 10 [],zs 18 [],.none⟩
def ac8 (X:SD.D Jn)(K:gO R):=BD (λy0=>ke 0 K Jn ((z4 (u y0) X.1),X.2)) (λy0 y1=>kr K Jn ((z1 (w y0 (z2 (u y1))) X.1),X.2)) X.1.1 X.1.2.1 (q2 X) (q3 X)
def aj4:dL:=dL.nil.add 2 (iI Jn ac8 q4)
theorem aia:hY E (fy.nil.add 156 alq) anK aj4 (aY f102 0):=lk Jn ac8 q4 λX x=>((z4 (u x) X.1),X.2)
theorem aoC:cO 102 ahn:=fk anK (base.add aoS) func102 (Λ:=aj4) (cF aia nF)
def alr:bg:=aN [pf (.sl ga),pf pn] [rI] (c2 wb)
def anZ:An:={mask:=mk [(2,[3,4,8,9,10])],merge:=mg [(4,23)]}
abbrev Jv:SD:=⟨B::B::B::.ptr 3 0::DI::B::B::B::.data false (.sl .arg ga)::DI::DI::bs 15 [],Z::Z::Z::(rD (cS Al Y1))::zs 22 [],.none⟩
def adt (X:SD.D Jv)(K:gO R):=tN (λy0=>ke 0 K Jv ((z3 (u y0) X.1),X.2)) (λy0 y1=>kr K Jv ((w y0 (z2 (u y1)) X.1),X.2)) X.1.1 X.1.2.1 (q2 X) X.2.1.1
def akj:dL:=dL.nil.add 2 (iI Jv adt q3)
theorem aiu:hY E fy.nil anZ akj (aY f157 0):=lk Jv adt q3 λX x=>((z3 (u x) X.1),X.2)
theorem aoT:cO 157 alr:=fk anZ base func157 (Λ:=akj) (cF aiu nF)
def alR:bg:=aN [pf pn] [rI] (c1 vm)
def aoc:An:={mask:=mk [(3,[3,16,17,18])]}
abbrev OI:SD:=⟨B::B::B::DI::bs 12 (.data false (dp 196608 (.int .i64))::DI::DI::bs 10 []),zs 29 [],.none⟩
def adM (X:SD.D OI)(K:gO R):=mC (λy0 y1=>ke 0 K OI ((w y0 (z2 (u y1)) X.1),X.2)) X.1.2.1 (q2 X)
def akw:dL:=dL.nil.add 3 (iI OI adM (λX=>(X.1.1,q3 X)))
theorem aiN:hY E (fy.nil.add 162 ahs) aoc akw (aY f214 0):=lk OI adM (λX=>(X.1.1,q3 X)) λX x=>((w x.1 (z2 (u x.2)) X.1),X.2)
theorem atd:cO 214 alR:=fk aoc (base.add afs) func214 (Λ:=akw) (cF aiN nF)
def als:bg:=aN [pf pn] [(false,(.sl (.own none) (.int .i64)))] (c1 AL)
def an0:An:={mask:=mk [(3,[1,3,4])],mv:=[10,18]}
abbrev Ow:SD:=⟨B::.ptr 1 0::B::.data false (dp 36864 (.int .i64))::DI::bs 14 [],Z::(rD (cS Al Y1))::zs 17 [],.none⟩
def adu (X:SD.D Ow)(K:gO R):=rj (λy0 y1=>ke 0 K Ow ((w y0 (u y1) X.1),X.2)) X.2.1.1
def akk:dL:=dL.nil.add 3 (iI Ow adu (λX=>(X.1.1,X.1.2.1)))
theorem aiv:hY E (fy.nil.add 214 alR) an0 akk (aY f158 0):=lk Ow adu (λX=>(X.1.1,X.1.2.1)) λX x=>((w x.1 (u x.2) X.1),X.2)
theorem asz:cO 158 als:=fk an0 (base.add atd) func158 (Λ:=akk) (cF aiv nF)
def ak3:bg:=aN [pf (.sl ga)] [rB] (c1 qh)
def ami:fy:=((fy.nil.add 44 Rp).add 157 alr).add 158 als
def ajj:An:={mask:=mk [(4,[1,2,12,13,14]),(14,[1,2,3,12,13,14,49,50,51])],merge:=mg [(6,28),(9,40)]}
abbrev E2:SD:=⟨B::.ptr 1 0::DB::DI::bs 8 (.data false (.sl .arg ga)::DI::DI::bs 34 (.data false (dp 602112 (.int .i64))::DI::DI::bs 15 [])),Z::(rD (.sl .arg ga))::zs 65 [],.none⟩
def XM (X:SD.D E2)(K:gO R):=jY (λy0=>ke 2 K E2 ((z7 (u y0) X.1),X.2)) (λy0 y1=>kr K E2 ((w y0 (z6 (u y1)) X.1),X.2)) X.1.1 X.1.2.1 (q2 X) (q3 X) (q4 X) (q5 X) (q6 X) X.2.1.1
abbrev Jo:SD:=⟨B::.ptr 1 0::DB::bs 9 (.data false (.sl .arg ga)::DI::DI::bs 52 []),Z::(rD (.sl .arg ga))::zs 65 [],.none⟩
def ac9 (X:SD.D Jo)(K:gO R):=rQ (λy0=>ke 0 K Jo ((z3 (u y0) X.1),X.2)) (λy0 y1=>kr K Jo ((w y0 (z2 (u y1)) X.1),X.2)) X.1.1 X.1.2.1 (q2 X) X.2.1.1
def ag4:dL:=(dL.nil.add 14 (iI E2 XM q7)).add 4 (iI Jo ac9 q3)
theorem afa:hY E ami ajj ag4 (aY f103 1):=lk E2 XM q7 λX x=>((z7 (u x) X.1),X.2)
theorem aib:hY E ami ajj ag4 (aY f103 0):=lk Jo ac9 q3 λX x=>((z3 (u x) X.1),X.2)
theorem aoD:cO 103 ak3:=fk ajj (((base.add BJ).add aoT).add asz) func103 (Λ:=ag4) (cF aib (cF afa nF))
def alu:bg:=aN [pI] [rB] (c1 Cr)
theorem asA:cO 159 alu:=f0 {merge:=mg [(1,2)]} base func159
def ak4:bg:=aN [pf CU,pI] [rB] (c2 vu)
def anL:An:={mask:=mk [(4,[1,4,24,25,26])],merge:=mg [(1,22)]}
abbrev Jp:SD:=⟨B::DI::B::B::DB::bs 19 (.data false (.sl .arg (.int .i64))::DI::DI::bs 9 []),zs 36 [],.none⟩
def ada (X:SD.D Jp)(K:gO R):=zT (λy0=>ke 0 K Jp ((z4 (u y0) X.1),X.2)) (λy0 y1=>kr K Jp ((z1 (w y0 (z2 (u y1))) X.1),X.2)) X.1.1 X.1.2.1 (q2 X) (q3 X)
def aj5:dL:=dL.nil.add 4 (iI Jp ada q4)
theorem aic:hY E ((fy.nil.add 44 Rp).add 159 alu) anL aj5 (aY f104 0):=lk Jp ada q4 λX x=>((z4 (u x) X.1),X.2)
theorem aoE:cO 104 ak4:=fk anL ((base.add BJ).add asA) func104 (Λ:=aj5) (cF aic nF)
def e48:bg:=aN [pf oo,pI] [rB] (c2 nP)
def g48:fy:=((fy.nil.add 102 ahn).add 103 ak3).add 104 ak4
def n48:An:={mask:=mk [(4,[1,2,4,27,28,29]),(10,[1,4,45,46,47])],merge:=mg [(1,25),(6,41),(12,59)]}
abbrev Ra:SD:=⟨B::DI::.ptr 2 0::B::DB::bs 22 (.data false (.sl .arg iP)::DI::DI::bs 31 []),Z::Z::(some Y18)::zs 58 [],.none⟩
def agF (X:SD.D Ra)(K:gO R):=nq (λy0=>ke 0 K Ra ((z4 (u y0) X.1),X.2)) (λy0 y1=>kr K Ra ((z1 (w y0 (z2 (u y1))) X.1),X.2)) X.1.1 X.1.2.1 (q2 X) (q3 X) X.2.1.1
abbrev JO:SD:=⟨B::DI::B::B::DB::bs 40 (.data false (.sl .arg ga)::DI::DI::bs 13 []),zs 61 [],.none⟩
def aee (X:SD.D JO)(K:gO R):=ma (λy0=>ke 2 K JO ((z4 (u y0) X.1),X.2)) (λy0 y1=>kr K JO ((z1 (w y0 (z2 (u y1))) X.1),X.2)) X.1.1 X.1.2.1 (q2 X) (q3 X)
def L48:dL:=(dL.nil.add 4 (iI Ra agF q4)).add 10 (iI JO aee q4)
theorem anm:hY E g48 n48 L48 (aY f48 0):=lk Ra agF q4 λX x=>((z4 (u x) X.1),X.2)
theorem ajf:hY E g48 n48 L48 (aY f48 1):=lk JO aee q4 λX x=>((z4 (u x) X.1),X.2)
theorem o48:cO 48 e48:=fk n48 (((base.add aoC).add aoD).add aoE) func48 (Λ:=L48) (cF anm (cF ajf nF))
def e17:bg:=aN [pf dJ] [rB] (c1 gA)
def g17:fy:=((((((((fy.nil.add 40 e40).add 41 e41).add 42 e42).add 43 e43).add 44 Rp).add 45 e45).add 46 e46).add 47 e47).add 48 e48
def n17:An:={mask:=mk [(5,[1,2,3,61,62]),(12,[1,2,3,103,104,105])],merge:=mg [(2,58),(7,89)]}
abbrev Q3:SD:=⟨B::.ptr 1 0::DB::DI::bs 57 (DI::DI::bs 54 []),Z::(some Y5)::zs 115 [],.none⟩
def ags (X:SD.D Q3)(K:gO R):=tu (λy0=>ke 0 K Q3 ((z3 (u y0) X.1),X.2)) (λy0 y1=>kr K Q3 ((w y0 (z2 (u y1)) X.1),X.2)) X.1.1 X.1.2.1 (q2 X) X.2.1.1
abbrev Jw:SD:=⟨B::.ptr 1 0::DB::DI::bs 99 (.data false (dp 1265664 (.int .i64))::DI::DI::bs 11 []),Z::(some Y5)::zs 115 [],.none⟩
def adA (X:SD.D Jw)(K:gO R):=rL (λy0=>ke 2 K Jw ((z4 (u y0) X.1),X.2)) (λy0 y1=>kr K Jw ((w y0 (z3 (u y1)) X.1),X.2)) X.1.1 X.1.2.1 (q2 X) (q3 X) X.2.1.1
def L17:dL:=(dL.nil.add 5 (iI Q3 ags q3)).add 12 (iI Jw adA q4)
theorem am8:hY E g17 n17 L17 (aY f17 0):=lk Q3 ags q3 λX x=>((z3 (u x) X.1),X.2)
theorem aiB:hY E g17 n17 L17 (aY f17 1):=lk Jw adA q4 λX x=>((z4 (u x) X.1),X.2)
theorem o17:cO 17 e17:=fk n17 (((((((((base.add o40).add o41).add o42).add o43).add BJ).add o45).add o46).add o47).add o48) func17 (Λ:=L17) (cF am8 (cF aiB nF))
def e76:bg:=aN [pd (.sl .str)] [(false,(.sl (.own none) .str))] (c1 ka)
theorem o76:cO 76 e76:=f0 {} base func76
def e49:bg:=aN [pf (.sl .str)] [(true,(.sl (.own none) .str))] (c1 cZ)
theorem o49:cO 49 e49:=f0 {} (base.add o76) func49
def e70:bg:=aN [pd (.sl bG)] [(false,(.sl (.own none) bG))] (c1 tI)
theorem o70:cO 70 e70:=f0 {} base func70
def alh:bg:=aN [pd (.sl ia)] [(false,(.sl (.own none) ia))] (c1 rf)
def anR:An:={mask:=mk [(3,[3,7,8,9])],mv:=[13,25]}
abbrev Oo:SD:=⟨B::B::B::.data false (dp 36864 ia)::B::B::B::.data false (.sl .arg ia)::DI::DI::bs 16 [],zs 26 [],.none⟩
def adk (X:SD.D Oo)(K:gO R):=qn (λy0 y1=>ke 0 K Oo ((w y0 (z2 (u y1)) X.1),X.2)) X.1.2.1 (q2 X)
def akb:dL:=dL.nil.add 3 (iI Oo adk (λX=>(X.1.1,q3 X)))
theorem ail:hY E (fy.nil.add 39 e39) anR akb (aY f129 0):=lk Oo adk (λX=>(X.1.1,q3 X)) λX x=>((w x.1 (z2 (u x.2)) X.1),X.2)
theorem aoL:cO 129 alh:=fk anR (base.add o39) func129 (Λ:=akb) (cF ail nF)
def e71:bg:=aN [pf kh] [(true,Y17)] (c1 pB)
theorem o71:cO 71 e71:=f0 {sb:=mg [(2,2)]} ((base.add o72).add aoL) func71
def e73:bg:=aN [pf uY] [(true,Y23)] (c1 rT)
theorem o73:cO 73 e73:=f0 {mv:=[7]} (base.add o39) func73
def apO:bg:=aN [pf (.sl ga)] [(true,(.sl (.own none) ga))] (c1 tJ)
theorem asm:cO 130 apO:=f0 {} base func130
def apP:bg:=aN [pf CU] [(true,(.pair .str (.sl (.own none) (.int .i64))))] (c1 rU)
theorem asn:cO 131 apP:=f0 {sb:=mg [(2,2)]} (base.add o39) func131
def e74:bg:=aN [pf oo] [(true,Y19)] (c1 oU)
theorem o74:cO 74 e74:=f0 {sb:=mg [(2,2)]} ((base.add asm).add asn) func74
def e75:bg:=aN [pd (.sl dK)] [(false,(.sl (.own none) dK))] (c1 jZ)
theorem o75:cO 75 e75:=f0 {} base func75
def e27:bg:=aN [pf dJ] [(true,Y0)] (c1 fZ)
def n27:An:={mask:=mk [(8,[1,2,3,27,28,29])],mv:=[34,75],mb:=mg [(34,3)],sb:=mg [(39,3)]}
abbrev WM:SD:=⟨B::.ptr 1 0::.ptr 2 0::.ptr 3 0::bs 23 (.data false (.sl .arg hZ)::DI::DI::bs 46 []),Z::(some Y5)::(some Y3)::(rD (cS (dp 36865 .str) (cS (dp 36868 bG) (cS (cS Y1 (cS (jG (jG (jG (dp 36892 (.int .i64))))) (cS (dp 36895 ia) Al))) (cS (dp 36901 dM) (cS (dp 36904 hZ) (cS (.sl .arg fz) (cS (.sl .arg .bool) (cS Y25 (cS Y18 (cS (.sl .arg dK) (cS .bool (cS (.sl .arg .str) (cS (.sl .arg (.int .i64)) (cS (.sl .arg (.int .i64)) (cS Al Y1))))))))))))))))::zs 72 [],.none⟩
def agw (X:SD.D WM)(K:gO R):=qm (λy0 y1=>ke 0 K WM ((z2 (u y0) X.1),(z2 (u y1) X.2.1),X.2.2)) X.1.1 X.1.2.1 X.2.1.1 X.2.1.2.1
def L27:dL:=dL.nil.add 8 (iI WM agw (λX=>(q2 X,X.2.1.2.2.1)))
theorem anc:hY E (((((((((fy.nil.add 39 e39).add 49 e49).add 70 e70).add 71 e71).add 72 e72).add 73 e73).add 74 e74).add 75 e75).add 76 e76) n27 L27 (aY f27 0):=lk WM agw (λX=>(q2 X,X.2.1.2.2.1)) λX x=>((z2 (u x.1) X.1),(z2 (u x.2) X.2.1),X.2.2)
theorem o27:cO 27 e27:=fk n27 (((((((((base.add o39).add o49).add o70).add o71).add o72).add o73).add o74).add o75).add o76) func27 (Λ:=L27) (cF anc nF)
def alo:bg:=aN [pf na] [rB] (c1 vW)
theorem aoN:cO 148 alo:=f0 {merge:=mg [(1,2)]} (base.add BJ) func148
def apZ:bg:=aN [pI] [rS] (c1 bZ)
theorem IB:cO 149 apZ:=f0 {} (base.add BJ) func149
def ap0:bg:=aN [pI] [rS] (c1 fW)
theorem VH:cO 150 ap0:=f0 {} (base.add BJ) func150
def e95:bg:=aN [pf na] [rS] (c1 kS)
theorem o95:cO 95 e95:=f0 {} (((base.add aoN).add IB).add VH) func95
def e96:bg:=aN [pf hZ,pI] [rI] (c2 fI)
theorem o96:cO 96 e96:=f0 {merge:=mg [(1,15)]} ((base.add BJ).add o46) func96
def alp:bg:=aN [pf sD] [rI] (c1 rb)
theorem aoO:cO 151 alp:=f0 {} ((base.add o94).add acs) func151
def alQ:bg:=aN [pd (.sl bG),pI,pI,pd .bool] [rI] (c4 AK)
theorem atc:cO 212 alQ:=f0 {merge:=mg [(4,29)]} (base.add o30) func212
def aeF:bg:=aN [pf (.sl .str),pI,pI] [rB] (c3 sM)
theorem ajC:cO 213 aeF:=f0 {merge:=mg [(2,6)]} (base.add o40) func213
def ahr:bg:=aN [pd (.sl bG),pf (.sl .str),pI,pI,pI,pd .bool] [(false,(.sl (.own none) iA)),rB] (c6 wa)
def anX:An:={mask:=mk [(8,[0,2,3,4,5,7,12,13,14])],merge:=mg [(1,29),(11,55),(16,73)],mv:=[56,74]}
abbrev Ju:SD:=⟨.data false (.sl .arg bG)::B::DI::DI::DI::DB::B::.ptr 7 0::bs 4 (.data false (dp 147456 iA)::DB::.data false (dp 172032 iA)::bs 60 []),zs 7 ((rD (.sl .arg .str))::zs 67 []),.none⟩
def adp (X:SD.D Ju)(K:gO R):=pC (λy0 y1 y2=>ke 0 K Ju ((z2 (w y0 (w y1 (z3 (u y2)))) X.1),X.2)) (λy0 y1 y2 y3 y4=>kr K Ju ((z2 (w y0 (w y1 (z1 (w y2 (w y3 (u y4)))))) X.1),X.2)) X.1.1 X.1.2.1 (q4 X) (q5 X) (q6 X) X.2.1.1
def akh:dL:=dL.nil.add 8 (iI Ju adp (λX=>(q2 X,q3 X,q7 X)))
theorem aiq:hY E (((((fy.nil.add 40 e40).add 41 e41).add 44 Rp).add 212 alQ).add 213 aeF) anX akh (aY f144 0):=lk Ju adp (λX=>(q2 X,q3 X,q7 X)) λX x=>((z2 (w x.1 (w x.2.1 (z3 (u x.2.2)))) X.1),X.2)
theorem aoM:cO 144 ahr:=fk anX (((((base.add o40).add o41).add BJ).add atc).add ajC) func144 (Λ:=akh) (cF aiq nF)
def alm:bg:=aN [pf (.sl .str),pI,pd .str] [(true,(.sl (.own none) .str)),rB] (c3 qk)
def anY:An:={mask:=mk [(4,[1,2,6,8])],nest:=[33],mv:=[19,49]}
abbrev Ot:SD:=⟨B::DI::.data false .str::B::B::B::.ptr 6 0::B::.ptr 8 0::bs 41 [],zs 6 ((rD (dp 73729 .str))::Z::(rD (dp 98305 .str))::zs 41 []),.none⟩
def adq (X:SD.D Ot)(K:gO R):=me (λy0 y1 y2=>ke 0 K Ot ((w y0 (u y1) X.1),(z1 (u y2) X.2.1),X.2.2)) X.2.1.1
def aki:dL:=dL.nil.add 4 (iI Ot adq (λX=>(X.1.1,X.1.2.1,X.2.1.2.1)))
theorem air:hY E ((fy.nil.add 49 e49).add 213 aeF) anY aki (aY f145 0):=lk Ot adq (λX=>(X.1.1,X.1.2.1,X.2.1.2.1)) λX x=>((w x.1 (u x.2.1) X.1),(z1 (u x.2.2) X.2.1),X.2.2)
theorem asy:cO 145 alm:=fk anY ((base.add o49).add ajC) func145 (Λ:=aki) (cF air nF)
def e93:bg:=aN [pd (.sl bG),pf (.sl .str),pI,pI,pd .str,pd .bool] [(true,(.sl (.own none) .str)),rB] (c6 Cq)
def n93:An:={mask:=mk [(6,[4,12,14,35,36,37])],mv:=[34,41,50,57],sb:=mg [(14,14)]}
abbrev WZ:SD:=⟨bs 4 (.data false .str::bs 7 (.ptr 12 0::B::.ptr 14 0::bs 20 (.data false (.sl .loc iA)::DI::DI::bs 20 []))),zs 12 ((rD (dp 147457 .str))::Z::(rD (dp 172033 .str))::zs 43 []),.none⟩
def agY (X:SD.D WZ)(K:gO R):=vZ (λy0 y1 y2=>ke 0 K WZ ((w y0 (z2 (u y1)) X.1),(z1 (u y2) X.2.1),X.2.2)) X.1.2.1 (q2 X) X.2.1.1
def L93:dL:=dL.nil.add 6 (iI WZ agY (λX=>(X.1.1,q3 X,X.2.1.2.1)))
theorem anG:hY E (((fy.nil.add 49 e49).add 144 ahr).add 145 alm) n93 L93 (aY f93 0):=lk WZ agY (λX=>(X.1.1,q3 X,X.2.1.2.1)) λX x=>((w x.1 (z2 (u x.2.1)) X.1),(z1 (u x.2.2) X.2.1),X.2.2)
theorem o93:cO 93 e93:=fk n93 (((base.add o49).add aoM).add asy) func93 (Λ:=L93) (cF anG nF)
def ap1:bg:=aN [pd (.sl bG),pf (.sl .str),pI,pI,pd .str] [(true,(.sl (.own none) .str)),rB] (c5 ox)
theorem ajy:cO 152 ap1:=f0 {} (base.add o93) func152
def ap2:bg:=aN [pf sD,pI] [rI] (c2 mE)
theorem aoP:cO 153 ap2:=f0 {merge:=mg [(1,11)]} (base.add o94) func153
def e97:bg:=aN [pd (.sl bG),pf (.sl .str),pI,pf sD,pd .str] [(true,(.sl (.own none) .str)),(true,Y1),rB] (c5 tE)
theorem o97:cO 97 e97:=f0 {merge:=mg [(1,22)],mv:=[26,36,40,50],mb:=mg [(40,13),(50,13)],sb:=mg [(10,10),(11,11),(13,13)]} ((((base.add o49).add aoO).add ajy).add aoP) func97
def e38:bg:=aN [pd (.sl bG),pf (.sl .str),pI,pf sD,pf hZ] [(true,(.sl (.own none) .str)),(true,Y1),(true,Y8),rI] (c5 hG)
def n38:An:={mask:=mk [(6,[0,2,8,9,10,11,12,14,15,16,39,40,41])],merge:=mg [(2,34)],mv:=[35,37,53,65,76,78],mb:=mg [(35,14),(37,15),(65,20),(76,14),(78,15)],sb:=mg [(8,8),(10,10),(11,11),(12,12),(14,14),(15,15)]}
abbrev WO:SD:=⟨.data false (.sl .arg bG)::B::DI::bs 5 (.ptr 8 0::.ptr 9 0::.ptr 10 0::.ptr 11 0::.ptr 12 0::B::.ptr 14 0::.ptr 15 0::DI::bs 22 (.data false (.sl .arg (.int .i64))::DI::DI::bs 38 [])),zs 8 ((some Y1)::(some Y14)::(rD (dp 122881 .str))::(some Y1)::(some Y27)::Z::(rD (dp 172033 .str))::(some Y26)::zs 64 []),.none⟩
def agz (X:SD.D WO)(K:gO R):=mz (λy0 y1 y2 y3=>ke 0 K WO ((z2 (w y0 (z2 (u y1))) X.1),(w y2 (z4 (u y3)) X.2.1),X.2.2)) X.1.1 X.1.2.1 (q3 X) (q4 X) X.2.1.2.1 X.2.1.2.2.1 X.2.1.2.2.2.1 X.2.1.2.2.2.2.1 X.2.1.2.2.2.2.2.2.1
def L38:dL:=dL.nil.add 6 (iI WO agz (λX=>(q2 X,q5 X,X.2.1.1,X.2.1.2.2.2.2.2.1)))
theorem ang:hY E ((((((((fy.nil.add 39 e39).add 46 e46).add 49 e49).add 72 e72).add 94 e94).add 95 e95).add 96 e96).add 97 e97) n38 L38 (aY f38 0):=lk WO agz (λX=>(q2 X,q5 X,X.2.1.1,X.2.1.2.2.2.2.2.1)) λX x=>((z2 (w x.1 (z2 (u x.2.1))) X.1),(w x.2.2.1 (z4 (u x.2.2.2)) X.2.1),X.2.2)
theorem o38:cO 38 e38:=fk n38 ((((((((base.add o39).add o46).add o49).add o72).add o94).add o95).add o96).add o97) func38 (Λ:=L38) (cF ang nF)
def alP:bg:=aN [pf (.sl .str),pI,pI] [rS,rB] (c3 nO)
def aoa:An:={mask:=mk [(4,[1,2,3,8])],mv:=[41]}
abbrev OH:SD:=⟨B::DI::DI::.ptr 3 0::bs 4 (.data false (dp 98304 (.int .u8))::bs 41 []),Z::Z::Z::(rD (.sl .arg .str))::zs 46 [],.none⟩
def adK (X:SD.D OH)(K:gO R):=ko (λy0 y1=>ke 0 K OH ((w y0 (z1 (u y1)) X.1),X.2)) X.1.2.1 X.2.1.1
def aku:dL:=dL.nil.add 4 (iI OH adK (λX=>(X.1.1,q2 X)))
theorem aiL:hY E (fy.nil.add 213 aeF) aoa aku (aY f207 0):=lk OH adK (λX=>(X.1.1,q2 X)) λX x=>((w x.1 (z1 (u x.2)) X.1),X.2)
theorem as8:cO 207 alP:=fk aoa (base.add ajC) func207 (Λ:=aku) (cF aiL nF)
def ahq:bg:=aN [pd (.sl bG),pf (.sl .str),pI,pI,pI] [rS,rB] (c5 nh)
def anW:An:={mask:=mk [(6,[6,14,30,31,32])]}
abbrev Oq:SD:=⟨bs 6 (.ptr 6 0::bs 7 (.data false .str::bs 15 (.data false (.sl .loc iA)::DI::DI::bs 17 []))),zs 6 ((rD (.sl .arg .str))::zs 43 []),.none⟩
def ado (X:SD.D Oq)(K:gO R):=rK (λy0 y1=>ke 0 K Oq ((w y0 (z2 (u y1)) X.1),X.2)) X.1.2.1 (q2 X) X.2.1.1
def akg:dL:=dL.nil.add 6 (iI Oq ado (λX=>(X.1.1,q3 X)))
theorem aip:hY E ((fy.nil.add 144 ahr).add 207 alP) anW akg (aY f141 0):=lk Oq ado (λX=>(X.1.1,q3 X)) λX x=>((w x.1 (z2 (u x.2)) X.1),X.2)
theorem afq:cO 141 ahq:=fk anW ((base.add aoM).add as8) func141 (Λ:=akg) (cF aip nF)
def ap7:bg:=aN [pf gP] [rI] (c1 mG)
theorem aoV:cO 166 ap7:=f0 {} base func166
def aqF:bg:=aN [pd .str,pI] [rI] (c2 eT)
theorem VI:cO 224 aqF:=f0 {merge:=mg [(1,13)]} base func224
def aqG:bg:=aN [pd .str,pI] [rI] (c2 ig)
theorem ZO:cO 225 aqG:=f0 {merge:=mg [(1,13)]} base func225
def ap8:bg:=aN [pd .str] [(true,(.pair (.int .i64) Y1)),rI,rB] (c1 kA)
theorem asE:cO 167 ap8:=f0 {} ((base.add VI).add ZO) func167
def ap9:bg:=aN [pf gP] [rI] (c1 tL)
theorem aoW:cO 168 ap9:=f0 {} base func168
def ala:bg:=aN [pd (.sl bG),pf (.sl .str),pI,pf gP] [(true,(.pair (.int .i64) Y1)),(true,Y20),rB] (c4 lZ)
theorem asb:cO 112 ala:=f0 {merge:=mg [(7,46)],sb:=mg [(8,8),(9,9)]} (((((base.add o99).add afq).add aoV).add asE).add aoW) func112
def aq0:bg:=aN [pf aaS] [rB] (c1 ye)
theorem apg:cO 255 aq0:=f0 {merge:=mg [(1,2)]} (base.add BJ) func255
def aqt:bg:=aN [pd .str] [(true,Y15),rB] (c1 qY)
theorem ao2:cO 208 aqt:=f0 {merge:=mg [(4,33)],sb:=mg [(4,4)]} (((base.add VI).add ZO).add apg) func208
def aqW:bg:=aN [pd .str,pI,pd .str] [rS] (c3 fC)
theorem afw:cO 249 aqW:=f0 {merge:=mg [(1,17)]} base func249
def amd:bg:=aN [pI,pI] [rI] (c2 wX)
theorem at2:cO 300 amd:=f0 {merge:=mg [(1,12)]} (base.add BJ) func300
def aro:bg:=aN [pd .str] [rI] (c1 vw)
def aov:An:={mask:=mk [(3,[0,3,4])]}
abbrev OZ:SD:=⟨.data false .str::B::B::DI::DI::bs 28 [],zs 33 [],.none⟩
def ad8 (X:SD.D OZ)(K:gO R):=qg (λy0 y1=>ke 0 K OZ ((z1 (w y0 (u y1)) X.1),X.2)) X.1.1
def akP:dL:=dL.nil.add 3 (iI OZ ad8 (λX=>(X.1.2.1,q2 X)))
theorem ai9:hY E (fy.nil.add 300 amd) aov akP (aY f290 0):=lk OZ ad8 (λX=>(X.1.2.1,q2 X)) λX x=>((z1 (w x.1 (u x.2)) X.1),X.2)
theorem atU:cO 290 aro:=fk aov (base.add at2) func290 (Λ:=akP) (cF ai9 nF)
def arb:bg:=aN [pd .str] [rI] (c1 iU)
theorem ajF:cO 266 arb:=f0 {} (base.add atU) func266
def aru:bg:=aN [pf TIp] [rB] (c1 GN)
theorem at1:cO 299 aru:=f0 {merge:=mg [(1,2)]} (base.add BJ) func299
def ark:bg:=aN [pf TIp] [rS,rB] (c1 vp)
theorem atQ:cO 285 ark:=f0 {} (((((base.add IB).add VH).add afw).add ajF).add at1) func285
def aq1:bg:=aN [pf TIp] [rS,rB] (c1 tn)
theorem aph:cO 256 aq1:=f0 {} (base.add atQ) func256
def aqu:bg:=aN [pd .str] [(true,Y21),rB] (c1 xb)
theorem as9:cO 209 aqu:=f0 {merge:=mg [(2,22),(6,56)],sb:=mg [(5,5)]} (((base.add VI).add ZO).add aph) func209
def aq9:bg:=aN [pI,pI,pI,pI] [rS,rB] (c4 oR)
theorem apk:cO 264 aq9:=f0 {merge:=mg [(1,27)]} (((base.add BJ).add IB).add VH) func264
def ara:bg:=aN [pI] [rI] (c1 fb)
theorem ajE:cO 265 ara:=f0 {} base func265
def arl:bg:=aN [pf zG] [rS] (c1 ql)
theorem atR:cO 286 arl:=f0 {} ((base.add IB).add VH) func286
def aq2:bg:=aN [pI,pI,pf zG] [rS,rB] (c3 jk)
theorem api:cO 257 aq2:=f0 {merge:=mg [(8,39)]} (((((((base.add IB).add aoQ).add afw).add apk).add ajE).add ajF).add atR) func257
def aqv:bg:=aN [pI,pI,pI,pd .str] [(true,(.pair (.int .i64) Y21)),rB] (c4 oQ)
theorem ata:cO 210 aqv:=f0 {merge:=mg [(3,20),(9,44),(12,68)]} (((base.add VI).add ZO).add api) func210
def alj:bg:=aN [pd .str] [(true,Y2),rI] (c1 ij)
theorem afr:cO 142 alj:=f0 {merge:=mg [(2,20)]} ((((base.add Mn).add ao2).add as9).add ata) func142
def aqo:bg:=aN [pf cQ] [(true,(.pair (.int .i64) Y1))] (c1 sK)
theorem ajB:cO 202 aqo:=f0 {} base func202
def aqw:bg:=aN [pd (.sl dK),pf pn] [rI] (c2 qf)
def aob:An:={mask:=mk [(2,[3,4,7,8,9])]}
abbrev JB:SD:=⟨B::B::B::.ptr 3 0::DI::B::B::.data false (.sl .arg dK)::DI::DI::bs 10 [],Z::Z::Z::(rD (cS Al Y1))::zs 16 [],.none⟩
def adL (X:SD.D JB)(K:gO R):=mc (λy0=>ke 0 K JB ((z3 (u y0) X.1),X.2)) (λy0 y1=>kr K JB ((w y0 (z2 (u y1)) X.1),X.2)) X.1.1 X.1.2.1 (q2 X) X.2.1.1
def akv:dL:=dL.nil.add 2 (iI JB adL q3)
theorem aiM:hY E fy.nil aob akv (aY f211 0):=lk JB adL q3 λX x=>((z3 (u x) X.1),X.2)
theorem atb:cO 211 aqw:=fk aob base func211 (Λ:=akv) (cF aiM nF)
def alk:bg:=aN [pd (.sl dK),pf cQ] [(false,(.sl (.own none) dK))] (c2 wY)
theorem asx:cO 143 alk:=f0 {merge:=mg [(17,82)],mv:=[16,31,51,58,67,83,132],er:=mg [(115,5)]} ((((((base.add o75).add Mn).add IB).add afs).add ajB).add atb) func143
def e91:bg:=aN [pd (.sl bG),pf (.sl .str),pI,pf dM,pf hZ,pd (.sl dK),pI] [(true,(.sl (.own none) .str)),(true,Y9),(true,Y8),(false,(.sl (.own none) dK)),rI] (c7 tB)
def n91:An:={mask:=mk [(5,[0,2,6,10,14,15,16,19,20,21,22])],merge:=mg [(2,48)],mv:=[49,51,52,96,104,117,119,120],mb:=mg [(49,19),(51,20),(117,19),(119,20)],sb:=mg [(14,14),(15,15),(16,16),(19,19),(20,20)]}
abbrev WX:SD:=⟨.data false (.sl .arg bG)::B::DI::B::B::B::DI::B::B::B::.ptr 10 0::B::B::B::.ptr 14 0::.ptr 15 0::.ptr 16 0::B::B::.ptr 19 0::.ptr 20 0::.data false (dp 258048 dK)::DI::bs 99 [],zs 10 ((some Y9)::Z::Z::Z::(rD (dp 172033 .str))::(some Y9)::(rD (jG (jG (jG (dp 196618 (.int .i64))))))::Z::Z::(rD (dp 233473 .str))::(rD (jG (jG (jG (dp 245770 (.int .i64))))))::zs 101 []),.none⟩
def agW (X:SD.D WX)(K:gO R):=lj (λy0 y1 y2 y3=>ke 0 K WX ((z3 (w y0 (u y1)) X.1),(w y2 (z4 (u y3)) X.2.1),X.2.2)) X.1.1 X.1.2.1 (q2 X) X.2.1.2.1 X.2.1.2.2.1 X.2.1.2.2.2.1 X.2.1.2.2.2.2.1
def L91:dL:=dL.nil.add 5 (iI WX agW (λX=>(q3 X,q4 X,X.2.1.1,X.2.1.2.2.2.2.2.1)))
theorem anE:hY E (((((((((((((fy.nil.add 38 e38).add 44 Rp).add 45 e45).add 46 e46).add 49 e49).add 72 e72).add 75 e75).add 96 e96).add 98 e98).add 112 ala).add 141 ahq).add 142 alj).add 143 alk) n91 L91 (aY f91 0):=lk WX agW (λX=>(q3 X,q4 X,X.2.1.1,X.2.1.2.2.2.2.2.1)) λX x=>((z3 (w x.1 (u x.2.1)) X.1),(w x.2.2.1 (z4 (u x.2.2.2)) X.2.1),X.2.2)
theorem o91:cO 91 e91:=fk n91 (((((((((((((base.add o38).add BJ).add o45).add o46).add o49).add o72).add o75).add o96).add o98).add asb).add afq).add afr).add asx) func91 (Λ:=L91) (cF anE nF)
def e32:bg:=jd (.pair (.sl (.own none) .str) (.pair (.sl (.own none) bG) (.pair (.pair (.pair (.int .i64) (.pair (.int .i64) (.pair (.int .i64) (.int .i64)))) (.pair (.pair (.int .i64) (.pair (.int .i64) (.pair (.int .i64) (.sl (.own none) (.int .i64))))) (.pair (.sl (.own none) ia) (.int .i64)))) (.pair (.sl (.own none) dM) (.pair (.sl (.own none) hZ) (.pair (.sl (.own none) fz) (.pair (.sl (.own none) .bool) (.pair (.pair (.int .i64) (.pair .bool (.sl (.own none) (.int .i64)))) (.pair (.pair (.sl (.own none) iP) (.pair (.sl (.own none) ga) (.pair .str (.sl (.own none) (.int .i64))))) (.pair (.sl (.own none) dK) (.pair .bool (.pair (.sl (.own none) .str) (.pair (.sl (.own none) (.int .i64)) (.pair (.sl (.own none) (.int .i64)) (.pair (.int .i64) (.pair (.int .i64) (.pair (.int .i64) (.pair (.int .i64) (.int .i64))))))))))))))))))) [pI,pI] [rI] λx a=>jT x a.1 a.2.1
theorem o32:cO 32 e32:=gY.oX (oI (an:={mv:=[8,49,51,52],sb:=mg [(55,0),(59,0)],fm:=[19,20],eb:=mg [(56,0),(57,0)]}) (Λ:=dL.nil) (base.add o91) func32 (by kernel_rfl) (ao nF)) (λx a=>by kernel_rfl)
def e92:bg:=aN [pI,pI,pI] [(true,Y8),rB] (c3 tA)
def n92:An:={mask:=mk [(5,[2,6,8,9])],mv:=[24,29]}
abbrev WY:SD:=⟨B::B::DI::B::B::B::.ptr 6 0::B::.ptr 8 0::DI::bs 20 [],zs 6 ((some Y29)::Z::(some Y28)::zs 21 []),.none⟩
def agX (X:SD.D WY)(K:gO R):=rM (λy0 y1=>ke 0 K WY ((z1 (u y0) X.1),(z1 (u y1) X.2.1),X.2.2)) X.1.1 X.2.1.1
def L92:dL:=dL.nil.add 5 (iI WY agX (λX=>(X.1.2.1,X.2.1.2.1)))
theorem anF:hY E (fy.nil.add 46 e46) n92 L92 (aY f92 0):=lk WY agX (λX=>(X.1.2.1,X.2.1.2.1)) λX x=>((z1 (u x.1) X.1),(z1 (u x.2) X.2.1),X.2.2)
theorem o92:cO 92 e92:=fk n92 (base.add o46) func92 (Λ:=L92) (cF anF nF)
def e33:bg:=aN [] [(true,Y17)] λa=>AJ
theorem o33:cO 33 e33:=f0 {mv:=[3,8]} (base.add o92) func33
def e34:bg:=aN [pd (.sl bG),pf (.sl .str),pI,pI,pd .str] [(true,(.sl (.own none) .str)),rB] (c5 jg)
theorem o34:cO 34 e34:=f0 {} (base.add o93) func34
def e35:bg:=aN [pI] [rI] (c1 pD)
theorem o35:cO 35 e35:=f0 {} base func35
def e36:bg:=aN [pd (.int .u8),pI] [rS] (c2 nb)
def n36:An:={mask:=mk [(3,[0,5,10,11])]}
abbrev WN:SD:=⟨.data false (.int .u8)::bs 4 (.data false (dp 61440 (.int .u8))::bs 4 (DI::DI::bs 9 [])),zs 21 [],.none⟩
def agy (X:SD.D WN)(K:gO R):=tM (λy0 y1=>ke 0 K WN ((z1 (w y0 (z1 (u y1))) X.1),X.2)) X.1.1 (q2 X)
def L36:dL:=dL.nil.add 3 (iI WN agy (λX=>(X.1.2.1,q3 X)))
theorem anf:hY E fy.nil n36 L36 (aY f36 0):=lk WN agy (λX=>(X.1.2.1,q3 X)) λX x=>((z1 (w x.1 (z1 (u x.2))) X.1),X.2)
theorem o36:cO 36 e36:=fk n36 base func36 (Λ:=L36) (cF anf nF)
def e37:bg:=aN [pI] [(true,Y9),(true,Y8)] (c1 uG)
theorem o37:cO 37 e37:=f0 {mv:=[10,24],mb:=mg [(24,5)],sb:=mg [(2,2),(3,3)]} ((base.add o35).add o92) func37
def e14:bg:=aN [pf dJ] [(true,Y0)] (c1 tw)
def g14:fy:=((((((((fy.nil.add 17 e17).add 27 e27).add 32 e32).add 33 e33).add 34 e34).add 35 e35).add 36 e36).add 37 e37).add 38 e38
def n14:An:={mask:=mk [(5,[2,3,21,22]),(10,[2,3,30,31,32]),(18,[2,3,54,55])],mv:=[18,37,88,98,121,142],sb:=mg [(90,3)]}
abbrev WI:SD:=⟨B::B::.ptr 2 0::.ptr 3 0::bs 17 (DI::DI::bs 120 []),Z::Z::(some Y3)::(some Y4)::zs 139 [],.none⟩
def agr (X:SD.D WI)(K:gO R):=oN (λy0 y1=>ke 0 K WI ((z1 (u y0) X.1),(z1 (u y1) X.2.1),X.2.2)) X.1.1 X.2.1.1
abbrev Ou:SD:=⟨B::B::.ptr 2 0::.ptr 3 0::bs 26 (.data false (.sl .loc ia)::DI::DI::bs 110 []),Z::Z::(some Y3)::(some Y4)::zs 139 [],.none⟩
def adr (X:SD.D Ou)(K:gO R):=ni (λy0 y1=>ke 2 K Ou ((z2 (u y0) X.1),(z1 (u y1) X.2.1),X.2.2)) X.1.1 X.1.2.1 X.2.1.1
abbrev Ov:SD:=⟨B::B::.ptr 2 0::.ptr 3 0::bs 50 (DI::DI::bs 87 []),Z::Z::(some Y3)::(some Y4)::zs 139 [],.none⟩
def ads (X:SD.D Ov)(K:gO R):=km (λy0 y1=>ke 4 K Ov ((z1 (u y0) X.1),(z1 (u y1) X.2.1),X.2.2)) X.1.1 X.2.1.1
def L14:dL:=((dL.nil.add 5 (iI WI agr (λX=>(X.1.2.1,X.2.1.2.1)))).add 10 (iI Ou adr (λX=>(q2 X,X.2.1.2.1)))).add 18 (iI Ov ads (λX=>(X.1.2.1,X.2.1.2.1)))
theorem am7:hY E g14 n14 L14 (aY f14 0):=lk WI agr (λX=>(X.1.2.1,X.2.1.2.1)) λX x=>((z1 (u x.1) X.1),(z1 (u x.2) X.2.1),X.2.2)
theorem ais:hY E g14 n14 L14 (aY f14 1):=lk Ou adr (λX=>(q2 X,X.2.1.2.1)) λX x=>((z2 (u x.1) X.1),(z1 (u x.2) X.2.1),X.2.2)
theorem ait:hY E g14 n14 L14 (aY f14 2):=lk Ov ads (λX=>(X.1.2.1,X.2.1.2.1)) λX x=>((z1 (u x.1) X.1),(z1 (u x.2) X.2.1),X.2.2)
theorem o14:cO 14 e14:=fk n14 (((((((((base.add o17).add o27).add o32).add o33).add o34).add o35).add o36).add o37).add o38) func14 (Λ:=L14) (cF am7 (cF ais (cF ait nF)))
def alv:bg:=aN [pd (.sl bG),pf (.sl .str),pI,pf sD] [rS,(true,Y1),rB] (c4 re)
theorem aoU:cO 160 alv:=f0 {merge:=mg [(1,20)],sb:=mg [(9,9)]} ((((base.add o94).add afq).add acs).add aoP) func160
def alS:bg:=aN [pd .str] [(true,(.pair (.int .i64) (.pair (.int .i64) Y1))),rB] (c1 nM)
theorem ao3:cO 215 alS:=f0 {sb:=mg [(4,4)]} (((base.add o95).add VI).add ZO) func215
def arn:bg:=aN [pI] [rS] (c1 vx)
theorem atS:cO 287 arn:=f0 {} ((base.add IB).add VH) func287
def aq3:bg:=aN [pf aaS] [rS,rB] (c1 vf)
theorem atx:cO 258 aq3:=f0 {} (((base.add IB).add apg).add atS) func258
def aq4:bg:=aN [pd .str] [rS] (c1 xa)
theorem aty:cO 259 aq4:=f0 {} (base.add o36) func259
def aqx:bg:=aN [pf cQ] [rS,rB] (c1 gJ)
theorem afu:cO 216 aqx:=f0 {} (((((base.add Mn).add aph).add api).add atx).add aty) func216
def ahz:bg:=aN [pd .str,pI] [rI] (c2 vY)
theorem apn:cO 288 ahz:=f0 {} base func288
def al8:bg:=aN [pd .str,pI] [rI] (c2 tz)
def aou:An:={mask:=mk [(5,[0,1,5,6])],merge:=mg [(1,14)]}
abbrev OY:SD:=⟨.data false .str::DI::B::B::B::DI::DI::bs 22 [],zs 29 [],.none⟩
def ad7 (X:SD.D OY)(K:gO R):=oP (λy0 y1=>ke 0 K OY ((z2 (w y0 (u y1)) X.1),X.2)) X.1.1 X.1.2.1
def akO:dL:=dL.nil.add 5 (iI OY ad7 (λX=>(q2 X,q3 X)))
theorem ai8:hY E ((fy.nil.add 44 Rp).add 288 ahz) aou akO (aY f289 0):=lk OY ad7 (λX=>(q2 X,q3 X)) λX x=>((z2 (w x.1 (u x.2)) X.1),X.2)
theorem atT:cO 289 al8:=fk aou ((base.add BJ).add apn) func289 (Λ:=akO) (cF ai8 nF)
def aq5:bg:=aN [pd .str,pd .str] [rI] (c2 tq)
def aoo:An:={mask:=mk [(5,[0,1,5,6])],merge:=mg [(1,14)]}
abbrev OR:SD:=⟨.data false .str::.data false .str::B::B::B::DI::DI::bs 25 [],zs 32 [],.none⟩
def adZ (X:SD.D OR)(K:gO R):=oL (λy0 y1=>ke 0 K OR ((z2 (w y0 (u y1)) X.1),X.2)) X.1.1 X.1.2.1
def akI:dL:=dL.nil.add 5 (iI OR adZ (λX=>(q2 X,q3 X)))
theorem ai0:hY E ((fy.nil.add 288 ahz).add 289 al8) aoo akI (aY f260 0):=lk OR adZ (λX=>(q2 X,q3 X)) λX x=>((z2 (w x.1 (u x.2)) X.1),X.2)
theorem atz:cO 260 aq5:=fk aoo ((base.add apn).add atT) func260 (Λ:=akI) (cF ai0 nF)
def aq6:bg:=aN [pf pn] [rS] (c1 tr)
theorem atA:cO 261 aq6:=f0 {} ((base.add IB).add VH) func261
def aqy:bg:=aN [pd .str,pf pn] [rI] (c2 qW)
theorem ao4:cO 217 aqy:=f0 {} ((base.add atz).add atA) func217
def aq7:bg:=aN [pf pn] [rB] (c1 lg)
theorem apj:cO 262 aq7:=f0 {merge:=mg [(1,2)]} (base.add BJ) func262
def aq8:bg:=aN [pf pn,pI] [rS] (c2 kB)
theorem atB:cO 263 aq8:=f0 {merge:=mg [(1,12)]} ((((base.add BJ).add IB).add VH).add apj) func263
def aqz:bg:=aN [pd (.sl bG),pf (.sl .str),pI,pf gP,pf pn] [(true,(.sl (.own none) .str)),(true,Y20),rB] (c5 nm)
theorem ate:cO 218 aqz:=f0 {merge:=mg [(1,22)],mv:=[26,37,41,51],mb:=mg [(41,13),(51,13)],sb:=mg [(10,10),(11,11),(13,13)]} (((((((base.add o49).add o99).add ajy).add aoV).add aoW).add apj).add atB) func218
def ap5:bg:=B4 [pd (.sl bG),pf (.sl .str),pI,pf dM,pd .str,pd .str] [(true,(.sl (.own none) .str)),(true,Y20),rB] [(true,(.sl .arg .str)),(true,Y20),rB] rfl λa=>tO a.1 a.2.1 a.2.2.1 a.2.2.2.1 a.2.2.2.2.1 a.2.2.2.2.2.1
theorem asB:cO 161 ap5:=gY.ofAlt (abo (an:={merge:=mg [(3,50)],sb:=mg [(12,12),(13,13),(20,20)]}) (Λ:=dL.nil) (by rfl) ((((((base.add ajy).add ajB).add ao3).add afu).add ao4).add ate) func161 (by kernel_rfl) (ao nF)) (λa=>by kernel_rfl)
def ak5:bg:=aN [pd (.sl bG),pf (.sl .str),pI,pf dM,pd .str] [(true,(.sl (.own none) .str)),(true,Y9)] (c5 mA)
theorem aoF:cO 105 ak5:=f0 {merge:=mg [(1,31)],mv:=[52,66],mb:=mg [(66,16)],sb:=mg [(10,10),(11,11)]} ((((base.add o45).add o49).add aoU).add asB) func105
def ap6:bg:=aN [pf fz] [(true,Y13)] (c1 ns)
theorem ajz:cO 165 ap6:=f0 {merge:=mg [(1,9)]} (base.add aoB) func165
def alw:bg:=aN [pf fz] [(true,Y13)] (c1 vd)
theorem asC:cO 163 alw:=f0 {} ((base.add o47).add ajz) func163
def ak6:bg:=jd (.pair (.sl (.own none) .str) (.pair (.sl (.own none) bG) (.pair (.pair (.pair (.int .i64) (.pair (.int .i64) (.pair (.int .i64) (.int .i64)))) (.pair (.pair (.int .i64) (.pair (.int .i64) (.pair (.int .i64) (.sl (.own none) (.int .i64))))) (.pair (.sl (.own none) ia) (.int .i64)))) (.pair (.sl (.own none) dM) (.pair (.sl (.own none) hZ) (.pair (.sl (.own none) fz) (.pair (.sl (.own none) .bool) (.pair (.pair (.int .i64) (.pair .bool (.sl (.own none) (.int .i64)))) (.pair (.pair (.sl (.own none) iP) (.pair (.sl (.own none) ga) (.pair .str (.sl (.own none) (.int .i64))))) (.pair (.sl (.own none) dK) (.pair .bool (.pair (.sl (.own none) .str) (.pair (.sl (.own none) (.int .i64)) (.pair (.sl (.own none) (.int .i64)) (.pair (.int .i64) (.pair (.int .i64) (.pair (.int .i64) (.pair (.int .i64) (.int .i64))))))))))))))))))) [pI,pI] [] λx a=>ks x a.1 a.2.1
def amj:fy:=(fy.nil.add 162 ahs).add 163 alw
def anM:An:={mask:=mk [(2,[0,1,7])]}
abbrev Oj:SD:=⟨.ptr 0 0::DI::bs 5 (DI::bs 34 []),(rD (cS (dp 1 .str) (cS (dp 4 bG) (cS (cS Y1 (cS (jG (jG (jG (dp 28 (.int .i64))))) (cS (dp 31 ia) Al))) (cS (dp 37 dM) (cS (dp 40 hZ) (cS (dp 43 fz) (cS (dp 46 .bool) (cS (jG (cS .bool (dp 55 (.int .i64)))) (cS (cS (dp 58 iP) (cS (dp 61 ga) (cS .str (dp 67 (.int .i64))))) (cS (dp 70 dK) (cS .bool (cS (dp 76 .str) (cS (dp 79 (.int .i64)) (cS (dp 82 (.int .i64)) (cS Al Y1))))))))))))))))::zs 41 [],.ptr⟩
def adb (X:SD.D Oj)(K:gO R):=oT (λy0 y1=>ke 0 K Oj ((z1 (u y0) X.1),(u y1 X.2.1),X.2.2)) X.1.1
def aj6:dL:=dL.nil.add 2 (iI Oj adb (λX=>(X.1.2.1,X.2.1.1)))
theorem aid:hY E amj anM aj6 (aY f106 0):=lk Oj adb (λX=>(X.1.2.1,X.2.1.1)) λX x=>((z1 (u x.1) X.1),(u x.2 X.2.1),X.2.2)
theorem aoG:cO 106 ak6:=gY.oX (oI (Γ:=amj) (an:=anM) (Λ:=aj6) ((base.add afs).add asC) func106 (by kernel_rfl) (ao (cF aid nF))) (λx a=>by kernel_rfl)
def e54:bg:=aN [pf dJ] [(true,Y0)] (c1 tt)
def n54:An:={mask:=mk [(5,[1,2,3,13,14])],mv:=[10,17,35,49],sb:=mg [(37,3)]}
abbrev WQ:SD:=⟨B::.ptr 1 0::.ptr 2 0::.ptr 3 0::bs 9 (DI::DI::bs 35 []),Z::(some Y5)::(some Y3)::(some Y4)::zs 46 [],.none⟩
def agI (X:SD.D WQ)(K:gO R):=oM (λy0 y1=>ke 0 K WQ ((z1 (u y0) X.1),(z2 (u y1) X.2.1),X.2.2)) X.1.1 X.2.1.1 X.2.1.2.1
def L54:dL:=dL.nil.add 5 (iI WQ agI (λX=>(X.1.2.1,X.2.1.2.2.1)))
theorem anp:hY E ((((fy.nil.add 17 e17).add 27 e27).add 105 ak5).add 106 ak6) n54 L54 (aY f54 0):=lk WQ agI (λX=>(X.1.2.1,X.2.1.2.2.1)) λX x=>((z1 (u x.1) X.1),(z2 (u x.2) X.2.1),X.2.2)
theorem o54:cO 54 e54:=fk n54 ((((base.add o17).add o27).add aoF).add aoG) func54 (Λ:=L54) (cF anp nF)
def aqA:bg:=aN [pd (.sl bG),pf (.sl .str),pI,pf sD] [(false,(.sl (.own none) na)),(true,Y1),rB] (c4 tF)
def aod:An:={mask:=mk [(6,[0,2,5,7,8,9,10,11,12])],merge:=mg [(1,24),(15,67)],mv:=[55,68],sb:=mg [(9,9)]}
abbrev JC:SD:=⟨.data false (.sl .arg bG)::B::DI::B::B::.ptr 5 0::B::.ptr 7 0::.data false (dp 98304 na)::.ptr 9 0::DB::.ptr 11 0::.data false (dp 147456 na)::bs 57 [],zs 5 ((rD (.sl .arg .str))::Z::(some Y1)::Z::(some Y1)::Z::(some Y1)::zs 58 []),.none⟩
def adN (X:SD.D JC)(K:gO R):=ll (λy0 y1=>ke 0 K JC ((z4 (u y0) X.1),(z1 (u y1) X.2.1),X.2.2)) (λy0 y1 y2 y3 y4=>kr K JC ((z2 (w y0 (w y1 (u y2))) X.1),(z1 (w y3 (u y4)) X.2.1),X.2.2)) X.1.1 X.1.2.1 (q2 X) (q3 X) X.2.1.1 X.2.1.2.2.1 X.2.1.2.2.2.1
def akx:dL:=dL.nil.add 6 (iI JC adN (λX=>(q4 X,X.2.1.2.1)))
theorem aiO:hY E ((((fy.nil.add 94 e94).add 147 aln).add 160 alv).add 215 alS) aod akx (aY f219 0):=lk JC adN (λX=>(q4 X,X.2.1.2.1)) λX x=>((z4 (u x.1) X.1),(z1 (u x.2) X.2.1),X.2.2)
theorem atf:cO 219 aqA:=fk aod ((((base.add o94).add acs).add aoU).add ao3) func219 (Λ:=akx) (cF aiO nF)
def ahx:bg:=aN [pd (.sl iA)] [rB] (c1 qZ)
def aon:An:={mask:=mk [(2,[0,2,5,6,7])],merge:=mg [(4,19)]}
abbrev JI:SD:=⟨.data false (.sl .arg iA)::B::DB::B::B::.data false (.sl .arg iA)::DI::DI::bs 16 [],zs 24 [],.none⟩
def adY (X:SD.D JI)(K:gO R):=qa (λy0=>ke 0 K JI ((z4 (u y0) X.1),X.2)) (λy0 y1=>kr K JI ((z1 (w y0 (z2 (u y1))) X.1),X.2)) X.1.1 X.1.2.1 (q2 X) (q3 X)
def akH:dL:=dL.nil.add 2 (iI JI adY q4)
theorem aiZ:hY E (fy.nil.add 44 Rp) aon akH (aY f250 0):=lk JI adY q4 λX x=>((z4 (u x) X.1),X.2)
theorem ape:cO 250 ahx:=fk aon (base.add BJ) func250 (Λ:=akH) (cF aiZ nF)
def aht:bg:=B4 [pd (.sl iA),pI,pI] [(false,(.sl (.own none) na))] [(false,(.sl .nil na))] rfl λa=>iq a.1 a.2.1 a.2.2.1
def ahF:fy:=((fy.nil.add 44 Rp).add 148 alo).add 250 ahx
def ajo:An:={mask:=mk [(5,[0,2,7,30,31,32]),(13,[6,7,54,55,56])],merge:=mg [(1,25)],nils:=[6],mv:=[49,64]}
abbrev OF:SD:=⟨.data false (.sl .arg iA)::B::DI::bs 4 (.data false (dp 86016 na)::bs 22 (.data false (.sl .arg iA)::DI::DI::bs 32 [])),zs 65 [],.none⟩
def adH (X:SD.D OF)(K:gO R):=jK (λy0 y1=>ke 0 K OF ((z2 (w y0 (z2 (u y1))) X.1),X.2)) X.1.1 X.1.2.1 (q3 X) (q4 X)
abbrev IK:SD:=⟨bs 7 (.data false (dp 86016 na)::bs 46 (.data false (.sl .loc na)::DI::DI::bs 8 [])),zs 65 [],.none⟩
abbrev Uy:SD:=⟨bs 6 (.data false (.sl .nil na)::.data false (dp 86016 na)::bs 46 (.data false (.sl .loc na)::DI::DI::bs 8 [])),zs 65 [],.none⟩
def XQ (X:SD.D IK)(K:gO R):=jm (λy0=>ke 2 K IK ((z3 (u y0) X.1),X.2)) (λy0 y1=>kr K Uy ((y0,(X.1.1,(X.1.2.1,(X.1.2.2.1,(y1,()))))),(),())) X.1.1 X.1.2.1 (q2 X)
def ag9:dL:=(dL.nil.add 5 (iI OF adH (λX=>(q2 X,q5 X)))).add 13 (iI IK XQ q3)
theorem aiI:hY E ahF ajo ag9 (aY f196 0):=lk OF adH (λX=>(q2 X,q5 X)) λX x=>((z2 (w x.1 (z2 (u x.2))) X.1),X.2)
theorem afe:hY E ahF ajo ag9 (aY f196 1):=lk IK XQ q3 λX x=>((z3 (u x) X.1),X.2)
theorem ao0:cO 196 aht:=gY.ofAlt (abo (Γ:=ahF) (an:=ajo) (Λ:=ag9) (by rfl) (((base.add BJ).add aoN).add ape) func196 (by kernel_rfl) (ao (cF aiI (cF afe nF)))) (λa=>by kernel_rfl)
def aqB:bg:=aN [pd (.sl na)] [(false,(.sl (.own none) iA)),rI,rI,rB] (c1 nk)
def amq:fy:=fy.nil.add 196 aht
def ajp:An:={mask:=mk [(5,[0,6,18,19,20]),(14,[0,2,3,4,5,6,9,10,11,51,52])],mv:=[24,65]}
abbrev OJ:SD:=⟨.data false (.sl .arg na)::bs 5 (.data false (dp 73728 iA)::bs 11 (.data false (.sl .arg na)::DI::DI::bs 47 [])),zs 68 [],.none⟩
def adO (X:SD.D OJ)(K:gO R):=kC (λy0 y1=>ke 0 K OJ ((z1 (w y0 (z2 (u y1))) X.1),X.2)) X.1.1 (q2 X) (q3 X)
abbrev IL:SD:=⟨.data false (.sl .arg na)::bs 5 (.data false (dp 73728 iA)::B::B::DI::DI::.data false (dp 135168 na)::bs 39 (DI::DI::bs 15 [])),zs 68 [],.none⟩
abbrev Uz:SD:=⟨.data false (.sl .arg na)::B::.data false (dp 24576 iA)::DI::DI::DB::.data false (dp 73728 iA)::B::B::DI::DI::.data false (dp 135168 na)::bs 39 (DI::DI::bs 15 []),zs 68 [],.none⟩
def XR (X:SD.D IL)(K:gO R):=gi (λy0=>ke 2 K IL ((z6 (u y0) X.1),X.2)) (λy0 y1 y2 y3 y4=>kr K Uz ((X.1.1,(y0,(y1,(y2,(y3,(X.1.2.1,(X.1.2.2.1,(X.1.2.2.2.1,(X.1.2.2.2.2.1,(X.1.2.2.2.2.2.1,(y4,()))))))))))),(),())) X.1.1 X.1.2.1 (q2 X) (q3 X) (q4 X) (q5 X)
def aha:dL:=(dL.nil.add 5 (iI OJ adO (λX=>(X.1.2.1,q4 X)))).add 14 (iI IL XR q6)
theorem aiP:hY E amq ajp aha (aY f220 0):=lk OJ adO (λX=>(X.1.2.1,q4 X)) λX x=>((z1 (w x.1 (z2 (u x.2))) X.1),X.2)
theorem aff:hY E amq ajp aha (aY f220 1):=lk IL XR q6 λX x=>((z6 (u x) X.1),X.2)
theorem atg:cO 220 aqB:=fk ajp (base.add ao0) func220 (Λ:=aha) (cF aiP (cF aff nF))
def aqC:bg:=aN [pd (.sl bG),pf (.sl .str),pI,pd (.sl iA)] [rS,rB] (c4 oK)
def aoe:An:={mask:=mk [(5,[0,2,5,8,9,10,18,19,20])]}
abbrev JD:SD:=⟨.data false (.sl .arg bG)::B::DI::B::B::.ptr 5 0::B::B::.data false .str::DB::.data false .str::bs 7 (.data false (.sl .arg iA)::DI::DI::bs 21 []),zs 5 ((rD (.sl .arg .str))::zs 36 []),.none⟩
def adP (X:SD.D JD)(K:gO R):=lh (λy0 y1=>ke 0 K JD ((z4 (w y0 (z2 (u y1))) X.1),X.2)) (λy0 y1 y2 y3=>kr K JD ((z2 (w y0 (w y1 (w y2 (z2 (u y3))))) X.1),X.2)) X.1.1 X.1.2.1 (q2 X) (q3 X) (q5 X) (q6 X) X.2.1.1
def aky:dL:=dL.nil.add 5 (iI JD adP (λX=>(q4 X,q7 X)))
theorem aiQ:hY E ((fy.nil.add 141 ahq).add 250 ahx) aoe aky (aY f221 0):=lk JD adP (λX=>(q4 X,q7 X)) λX x=>((z4 (w x.1 (z2 (u x.2))) X.1),X.2)
theorem ath:cO 221 aqC:=fk aoe ((base.add afq).add ape) func221 (Λ:=aky) (cF aiQ nF)
def aqV:bg:=aN [pd .str] [rI,rI] (c1 pF)
theorem apd:cO 248 aqV:=f0 {} ((base.add VI).add ajE) func248
def alK:bg:=aN [pf cQ] [rS,rB] (c1 lH)
theorem aoZ:cO 192 alK:=f0 {} ((((base.add IB).add afu).add apd).add afw) func192
def aqD:bg:=aN [pd .str] [rS,rB] (c1 vh)
theorem ati:cO 222 aqD:=f0 {merge:=mg [(3,38),(9,74),(12,84),(17,117)]} ((((((((((((base.add afr).add IB).add aoZ).add ao2).add afu).add VI).add ZO).add apd).add afw).add apk).add ajE).add ajF) func222
def aql:bg:=aN [pf cQ] [rB] (c1 lG)
theorem aft:cO 199 aql:=f0 {merge:=mg [(1,2)]} (base.add Mn) func199
def ari:bg:=aN [pd .str] [rI] (c1 AG)
def amr:fy:=fy.nil
def ajq:An:={mask:=mk [(3,[0,3,4]),(7,[0,3,4,5])]}
abbrev OX:SD:=⟨.data false .str::B::B::.data false (.int .u32)::DI::DI::bs 28 [],zs 34 [],.none⟩
def ad6 (X:SD.D OX)(K:gO R):=ow (λy0 y1=>ke 2 K OX ((z1 (w y0 (z1 (u y1))) X.1),X.2)) X.1.1 (q2 X)
abbrev OW:SD:=⟨.data false .str::B::B::.data false (.int .u32)::DI::bs 29 [],zs 34 [],.none⟩
def ad5 (X:SD.D OW)(K:gO R):=qU (λy0 y1=>ke 0 K OW ((z1 (w y0 (u y1)) X.1),X.2)) X.1.1
def ahb:dL:=(dL.nil.add 7 (iI OX ad6 (λX=>(X.1.2.1,q3 X)))).add 3 (iI OW ad5 (λX=>(X.1.2.1,q2 X)))
theorem ai7:hY E amr ajq ahb (aY f283 1):=lk OX ad6 (λX=>(X.1.2.1,q3 X)) λX x=>((z1 (w x.1 (z1 (u x.2))) X.1),X.2)
theorem ai6:hY E amr ajq ahb (aY f283 0):=lk OW ad5 (λX=>(X.1.2.1,q2 X)) λX x=>((z1 (w x.1 (u x.2)) X.1),X.2)
theorem atO:cO 283 ari:=fk ajq base func283 (Λ:=ahb) (cF ai6 (cF ai7 nF))
def aqX:bg:=aN [pd .str] [rS] (c1 tH)
theorem apf:cO 251 aqX:=f0 {} (base.add atO) func251
def al9:bg:=aN [pf cQ] [rS,rB] (c1 rJ)
theorem atV:cO 291 al9:=f0 {} (((base.add aft).add afu).add apf) func291
def arc:bg:=aN [pd (.sl cQ)] [(false,(.sl (.own none) .str))] (c1 vk)
def aop:An:={mask:=mk [(3,[3,9,10,11])],mv:=[21,26]}
abbrev OS:SD:=⟨B::B::B::.data false (dp 36864 .str)::bs 5 (.data false (.sl .arg cQ)::DI::DI::bs 15 []),zs 27 [],.none⟩
def ad0 (X:SD.D OS)(K:gO R):=mB (λy0 y1=>ke 0 K OS ((w y0 (z2 (u y1)) X.1),X.2)) X.1.2.1 (q2 X)
def akJ:dL:=dL.nil.add 3 (iI OS ad0 (λX=>(X.1.1,q3 X)))
theorem ai1:hY E (fy.nil.add 291 al9) aop akJ (aY f267 0):=lk OS ad0 (λX=>(X.1.1,q3 X)) λX x=>((w x.1 (z2 (u x.2)) X.1),X.2)
theorem atC:cO 267 arc:=fk aop (base.add atV) func267 (Λ:=akJ) (cF ai1 nF)
def ard:bg:=aN [pf cQ,pI] [(false,(.sl (.own none) cQ))] (c2 AI)
def aoq:An:={mask:=mk [(8,[1,2,5,6,7])],merge:=mg [(1,17),(4,30)],mv:=[83,87]}
abbrev OT:SD:=⟨B::DI::.ptr 2 0::B::B::.data false .str::.data false (dp 73728 cQ)::DI::bs 80 [],Z::Z::(some Y2)::zs 85 [],.none⟩
def ad1 (X:SD.D OT)(K:gO R):=vt (λy0 y1=>ke 0 K OT ((z2 (w y0 (u y1)) X.1),X.2)) X.1.1 X.1.2.1 X.2.1.1
def akK:dL:=dL.nil.add 8 (iI OT ad1 (λX=>(q2 X,q3 X)))
theorem ai2:hY E ((fy.nil.add 44 Rp).add 100 ahm) aoq akK (aY f268 0):=lk OT ad1 (λX=>(q2 X,q3 X)) λX x=>((z2 (w x.1 (u x.2)) X.1),X.2)
theorem atD:cO 268 ard:=fk aoq ((base.add BJ).add Mn) func268 (Λ:=akK) (cF ai2 nF)
def aqE:bg:=aN [pf cQ,pI] [(false,(.sl (.own none) .str))] (c2 rO)
theorem atj:cO 223 aqE:=f0 {} ((base.add atC).add atD) func223
def alx:bg:=aN [pd (.sl bG),pf (.sl .str),pI,pf sD] [(true,Y1),(false,(.sl (.own none) .str)),rI] (c4 oS)
theorem asD:cO 164 alx:=f0 {merge:=mg [(1,28)],sb:=mg [(8,8)]} ((((((((base.add o94).add afr).add acs).add atf).add atg).add ath).add ati).add atj) func164
def apE:bg:=aN [pd (.sl bG),pf (.sl .str),pI,pf sD] [(true,Y1),(false,(.sl (.own none) .str)),rI,rI] (c4 qj)
def anN:An:={mask:=mk [(3,[0,2,5,7,8,9,10,11,12,13,14])],mv:=[35,42]}
abbrev Ux:SD:=⟨.data false (.sl .arg bG)::B::DI::B::B::.ptr 5 0::B::.ptr 7 0::.ptr 8 0::.data false (dp 110592 .str)::DI::DI::.data false (dp 147456 .str)::DI::DI::bs 30 [],zs 5 ((rD (.sl .arg .str))::Z::(some Y1)::(some Y1)::zs 36 []),.none⟩
abbrev Ya:SD:=⟨.data false (.sl .arg bG)::B::DI::B::B::.ptr 5 0::B::.ptr 7 0::.ptr 8 0::.data false (dp 110592 .str)::DI::DI::.data false (.sl .loc .str)::DI::DI::bs 30 [],zs 5 ((rD (.sl .arg .str))::Z::(some Y1)::(some Y1)::zs 36 []),.none⟩
def ade (X:SD.D Ux)(K:gO R):=md (λy0 y1 y2 y3 y4 y5 y6 y7=>kr K Ya ((X.1.1,(X.1.2.1,(y0,(y1,(y2,(y3,(y4,(y5,())))))))),(X.2.1.1,(y6,(y7,()))),())) X.1.1 X.1.2.1 (q2 X) (q3 X) (q4 X) X.2.1.1 X.2.1.2.2.1
def aj7:dL:=dL.nil.add 3 (iI Ux ade (λX=>(q5 X,q6 X,q7 X,X.2.1.2.1)))
theorem aie:hY E (fy.nil.add 164 alx) anN aj7 (aY f107 0):=lk Ux ade (λX=>(q5 X,q6 X,q7 X,X.2.1.2.1)) λX x=>((z5 (w x.1 (w x.2.1 (u x.2.2.1))) X.1),(z1 (u x.2.2.2) X.2.1),X.2.2)
theorem ar6:cO 107 apE:=fk anN (base.add asD) func107 (Λ:=aj7) (cF aie nF)
def apF:bg:=aN [pf kh,pI] [(true,Y17),(false,(.sl (.own none) (.int .i64)))] (c2 lf)
def anO:An:={mask:=mk [(6,[1,2,4,6,7,28,29,30])],merge:=mg [(2,22)],mv:=[23,34,43,55,56]}
abbrev Ok:SD:=⟨B::DI::.ptr 2 0::B::.ptr 4 0::B::.ptr 6 0::.data false (dp 86016 (.int .i64))::bs 20 (.data false (.sl .arg ia)::DI::DI::bs 26 []),Z::Z::(some Y24)::Z::(rD (cS Y1 (cS (jG (jG (jG (dp 49174 (.int .i64))))) (cS (dp 49177 ia) Al))))::Z::(rD (cS Y1 (cS (jG (jG (jG (dp 73750 (.int .i64))))) (cS (dp 73753 ia) Al))))::zs 50 [],.none⟩
def adf (X:SD.D Ok)(K:gO R):=jl (λy0 y1 y2=>ke 0 K Ok ((z1 (w y0 (z2 (u y1))) X.1),(z2 (u y2) X.2.1),X.2.2)) X.1.1 (q2 X) (q3 X) X.2.1.1 X.2.1.2.1
def aj8:dL:=dL.nil.add 6 (iI Ok adf (λX=>(X.1.2.1,q4 X,X.2.1.2.2.1)))
theorem aif:hY E (((((fy.nil.add 42 e42).add 44 Rp).add 71 e71).add 98 e98).add 129 alh) anO aj8 (aY f108 0):=lk Ok adf (λX=>(X.1.2.1,q4 X,X.2.1.2.2.1)) λX x=>((z1 (w x.1 (z2 (u x.2.1))) X.1),(z2 (u x.2.2) X.2.1),X.2.2)
theorem ar7:cO 108 apF:=fk anO (((((base.add o42).add BJ).add o71).add o98).add aoL) func108 (Λ:=aj8) (cF aif nF)
def e55:bg:=aN [pf dJ] [(true,Y0)] (c1 oO)
theorem o55:cO 55 e55:=f0 {mv:=[15,33,37,51,54,58]} ((((base.add o17).add o27).add ar6).add ar7) func55
def ak7:bg:=aN [pf fz] [(true,Y13),rB] (c1 nr)
theorem ar8:cO 109 ak7:=f0 {merge:=mg [(1,11)]} (base.add o47) func109
def ak8:bg:=aN [pf fz] [(true,Y13)] (c1 vX)
theorem ar9:cO 110 ak8:=f0 {} ((base.add o47).add ajz) func110
def e56:bg:=aN [pf dJ,pI] [(true,Y0),rI] (c2 pY)
def n56:An:={mask:=mk [(6,[1,4,6,7,25,26])],merge:=mg [(2,21)],mv:=[22,78]}
abbrev WR:SD:=⟨B::DI::B::B::.ptr 4 0::B::.ptr 6 0::DI::bs 17 (DI::DI::bs 53 []),zs 4 ((some Y6)::Z::(some Y12)::zs 73 []),.none⟩
def agJ (X:SD.D WR)(K:gO R):=lY (λy0 y1 y2=>ke 0 K WR ((z1 (w y0 (z1 (u y1))) X.1),(z1 (u y2) X.2.1),X.2.2)) X.1.1 (q2 X) X.2.1.1
def L56:dL:=dL.nil.add 6 (iI WR agJ (λX=>(X.1.2.1,q3 X,X.2.1.2.1)))
theorem anq:hY E ((((((fy.nil.add 17 e17).add 27 e27).add 32 e32).add 44 Rp).add 109 ak7).add 110 ak8) n56 L56 (aY f56 0):=lk WR agJ (λX=>(X.1.2.1,q3 X,X.2.1.2.1)) λX x=>((z1 (w x.1 (z1 (u x.2.1))) X.1),(z1 (u x.2.2) X.2.1),X.2.2)
theorem o56:cO 56 e56:=fk n56 ((((((base.add o17).add o27).add o32).add BJ).add ar8).add ar9) func56 (Λ:=L56) (cF anq nF)
def ak9:bg:=aN [pf fz] [(true,Y13)] (c1 rR)
theorem asa:cO 111 ak9:=f0 {} ((base.add o47).add ajz) func111
def e57:bg:=aN [pf dJ] [(true,Y0)] (c1 vo)
def n57:An:={mask:=mk [(5,[2,3,13,14])],mv:=[10,28]}
abbrev WS:SD:=⟨B::B::.ptr 2 0::.ptr 3 0::bs 9 (DI::DI::bs 14 []),Z::Z::(some Y3)::(some Y4)::zs 25 [],.none⟩
def agK (X:SD.D WS)(K:gO R):=pZ (λy0 y1=>ke 0 K WS ((z1 (u y0) X.1),(z1 (u y1) X.2.1),X.2.2)) X.1.1 X.2.1.1
def L57:dL:=dL.nil.add 5 (iI WS agK (λX=>(X.1.2.1,X.2.1.2.1)))
theorem anr:hY E (((fy.nil.add 17 e17).add 27 e27).add 111 ak9) n57 L57 (aY f57 0):=lk WS agK (λX=>(X.1.2.1,X.2.1.2.1)) λX x=>((z1 (u x.1) X.1),(z1 (u x.2) X.2.1),X.2.2)
theorem o57:cO 57 e57:=fk n57 (((base.add o17).add o27).add asa) func57 (Λ:=L57) (cF anr nF)
def e77:bg:=aN [pf Am] [rB] (c1 AF)
theorem o77:cO 77 e77:=f0 {merge:=mg [(1,12),(3,31),(5,2)]} (base.add BJ) func77
def alL:bg:=aN [pf kh] [rI] (c1 oW)
def an6:An:={mask:=mk [(3,[3,7,8,9])]}
abbrev OD:SD:=⟨B::B::B::DI::B::B::B::.data false (.sl .arg ia)::DI::DI::bs 9 [],zs 19 [],.none⟩
def adF (X:SD.D OD)(K:gO R):=ln (λy0 y1=>ke 0 K OD ((w y0 (z2 (u y1)) X.1),X.2)) X.1.2.1 (q2 X)
def akq:dL:=dL.nil.add 3 (iI OD adF (λX=>(X.1.1,q3 X)))
theorem aiG:hY E fy.nil an6 akq (aY f193 0):=lk OD adF (λX=>(X.1.1,q3 X)) λX x=>((w x.1 (z2 (u x.2)) X.1),X.2)
theorem asY:cO 193 alL:=fk an6 base func193 (Λ:=akq) (cF aiG nF)
def alM:bg:=aN [pf hZ,pI] [(true,Y8),(false,(.sl (.own none) (.int .i64))),rB] (c2 qi)
theorem asZ:cO 194 alM:=f0 {merge:=mg [(2,20)],mv:=[21,28],mb:=mg [(28,7)],sb:=mg [(4,4)]} ((((base.add o39).add BJ).add o46).add o72) func194
def alN:bg:=B4 [pd (.sl bG),pf (.sl .str),pI,pf hZ,pd (.sl (.int .i64)),pd .str,pI] [(true,(.sl (.own none) .str)),(false,(.sl (.own none) iA)),rB] [(true,(.sl .arg .str)),(false,(.sl (.own none) iA)),rB] rfl λa=>mF a.1 a.2.1 a.2.2.1 a.2.2.2.1 a.2.2.2.2.1 a.2.2.2.2.2.1 a.2.2.2.2.2.2.1
def amp:fy:=(fy.nil.add 34 e34).add 96 e96
def an7:An:={mask:=mk [(3,[0,2,5,6,8,10,14,15,16,17,24,25,26])],peel:=[3],mv:=[40,49,53,54,55,65,66],sb:=mg [(21,21)]}
abbrev OE:SD:=⟨.data false (.sl .arg bG)::B::DI::B::B::.data false .str::DI::B::.ptr 8 0::B::.ptr 10 0::B::B::B::.ptr 14 0::.data false (dp 184320 iA)::DB::.data false (dp 208896 iA)::bs 6 (.data false (.sl .arg (.int .i64))::DI::DI::bs 40 []),zs 8 ((rD (dp 98305 .str))::Z::(some Y14)::Z::Z::Z::(rD (dp 172033 .str))::zs 52 []),.none⟩
abbrev Yb:SD:=⟨.data false (.sl .arg bG)::B::DI::B::B::.data false .str::DI::B::.ptr 8 0::B::.ptr 10 0::B::B::B::.ptr 14 0::.data false (dp 184320 iA)::DB::.data false (dp 208896 iA)::bs 6 (.data false (.sl .arg (.int .i64))::DI::DI::bs 40 []),zs 8 ((rD (.sl .loc .str))::Z::(some Y14)::Z::Z::Z::(rD (dp 172033 .str))::zs 52 []),.none⟩
def adG (X:SD.D OE)(K:gO R):=jA (λy0 y1 y2 y3=>ke 0 K OE ((z2 (w y0 (z3 (w y1 (z2 (u y2))))) X.1),(u y3 X.2.1),X.2.2)) (λy0 y1 y2 y3 y4 y5 y6=>kr K Yb ((X.1.1,(X.1.2.1,(y0,(X.1.2.2.2.1,(y1,(y2,(y3,(X.1.2.2.2.2.2.2.2.1,(X.1.2.2.2.2.2.2.2.2.1,(y4,())))))))))),(y5,(X.2.1.2.1,(y6,()))),())) X.1.1 X.1.2.1 (q3 X) (q4 X) (q5 X) (q7 X) (q8 X) X.2.1.2.1 X.2.1.2.2.1
def akr:dL:=dL.nil.add 3 (iI OE adG (λX=>(q2 X,q6 X,q9 X,X.2.1.1)))
theorem aiH:hY E amp an7 akr (aY f195 0):=lk OE adG (λX=>(q2 X,q6 X,q9 X,X.2.1.1)) λX x=>((z2 (w x.1 (z3 (w x.2.1 (z2 (u x.2.2.1))))) X.1),(u x.2.2.2 X.2.1),X.2.2)
theorem as0:cO 195 alN:=gY.ofAlt (abo (Γ:=amp) (an:=an7) (Λ:=akr) (by rfl) ((base.add o34).add o96) func195 (by kernel_rfl) (ao (cF aiH nF))) (λa=>by kernel_rfl)
def alO:bg:=aN [pd (.sl bG),pf (.sl .str),pI,pf sD,pd (.sl .str)] [(true,(.sl (.own none) .str)),(true,Y1),rB] (c5 ju)
def an8:An:={mask:=mk [(3,[0,2,6,8,10,11,12,13,14,21,22,23])],mv:=[27,43],mb:=mg [(43,13)],sb:=mg [(10,10),(11,11),(13,13),(14,14)]}
abbrev JA:SD:=⟨.data false (.sl .arg bG)::B::DI::B::B::B::.ptr 6 0::B::.ptr 8 0::B::.ptr 10 0::.ptr 11 0::DB::.ptr 13 0::.ptr 14 0::bs 6 (.data false (.sl .arg .str)::DI::DI::bs 21 []),zs 6 ((rD (.sl .arg .str))::Z::(some Y1)::Z::(rD (dp 122881 .str))::(some Y1)::Z::(rD (dp 159745 .str))::(some Y1)::zs 30 []),.none⟩
def adI (X:SD.D JA)(K:gO R):=kq (λy0 y1 y2=>ke 0 K JA ((z5 (u y0) X.1),(z4 (w y1 (u y2)) X.2.1),X.2.2)) (λy0 y1 y2 y3 y4 y5=>kr K JA ((z2 (w y0 (z2 (u y1))) X.1),(z2 (w y2 (w y3 (w y4 (u y5)))) X.2.1),X.2.2)) X.1.1 X.1.2.1 (q2 X) (q3 X) (q4 X) X.2.1.1 X.2.1.2.1 X.2.1.2.2.1 X.2.1.2.2.2.1
def aks:dL:=dL.nil.add 3 (iI JA adI (λX=>(q5 X,X.2.1.2.2.2.2.1,X.2.1.2.2.2.2.2.1)))
theorem aiJ:hY E ((fy.nil.add 49 e49).add 97 e97) an8 aks (aY f197 0):=lk JA adI (λX=>(q5 X,X.2.1.2.2.2.2.1,X.2.1.2.2.2.2.2.1)) λX x=>((z5 (u x.1) X.1),(z4 (w x.2.1 (u x.2.2)) X.2.1),X.2.2)
theorem as1:cO 197 alO:=fk an8 ((base.add o49).add o97) func197 (Λ:=aks) (cF aiJ nF)
def apQ:bg:=aN [pd (.sl bG),pf (.sl .str),pI,pf kh,pf cQ,pI,pI] [(true,(.sl (.own none) .str)),(true,Y17),rB] (c7 rP)
def anS:An:={mask:=mk [(19,[0,2,10,14,15,17,18,22,24,26,28,29,139,140,141])],merge:=mg [(2,57),(6,92),(15,135)],mv:=[58,59,93,94,97,107,108,109,122,123,136,137,145,151,164,165,169,174,184,185],mb:=mg [(58,17),(59,18),(93,17),(94,18),(107,17),(108,18),(136,17),(137,18),(164,17),(165,18),(184,26),(185,22)],sb:=mg [(14,14),(15,15),(17,17),(18,18),(26,26)]}
abbrev IJ:SD:=⟨.data false (.sl .arg bG)::B::DI::bs 7 (.ptr 10 0::B::B::B::.ptr 14 0::.ptr 15 0::B::.ptr 17 0::.ptr 18 0::B::B::B::.ptr 22 0::B::.data false (dp 294912 (.int .i64))::B::.ptr 26 0::B::.data false (dp 344064 na)::.data false (dp 356352 .str)::bs 109 (.data false (.sl .loc na)::DI::DI::bs 44 [])),zs 10 ((some Y24)::Z::Z::Z::(rD (dp 172033 .str))::(rD (cS Y1 (cS (jG (jG (jG (dp 184342 (.int .i64))))) (cS (dp 184345 ia) Al))))::Z::(rD (dp 208897 .str))::(rD (cS Y1 (cS (jG (jG (jG (dp 221206 (.int .i64))))) (cS (dp 221209 ia) Al))))::Z::Z::Z::(rD (cS Y1 (cS (jG (jG (jG (dp 270358 (.int .i64))))) (cS (dp 270361 ia) Al))))::Z::Z::Z::(rD (.sl .loc .str))::zs 159 []),.none⟩
def XP (X:SD.D IJ)(K:gO R):=fN (λy0 y1=>ke 0 K IJ ((z4 (w y0 (z2 (u y1))) X.1),X.2)) X.1.1 X.1.2.1 (q2 X) (q3 X) (q5 X) (q6 X) X.2.1.1 X.2.1.2.1 X.2.1.2.2.1 X.2.1.2.2.2.1 X.2.1.2.2.2.2.1 X.2.1.2.2.2.2.2.1 X.2.1.2.2.2.2.2.2.1
def akc:dL:=dL.nil.add 19 (iI IJ XP (λX=>(q4 X,q7 X)))
theorem afd:hY E (((((((((((((fy.nil.add 42 e42).add 44 Rp).add 49 e49).add 71 e71).add 95 e95).add 100 ahm).add 151 alp).add 192 alK).add 193 alL).add 194 alM).add 195 alN).add 196 aht).add 197 alO) anS akc (aY f132 0):=lk IJ XP (λX=>(q4 X,q7 X)) λX x=>((z4 (w x.1 (z2 (u x.2))) X.1),X.2)
theorem aso:cO 132 apQ:=fk anS (((((((((((((base.add o42).add BJ).add o49).add o71).add o95).add Mn).add aoO).add aoZ).add asY).add asZ).add as0).add ao0).add as1) func132 (Λ:=akc) (cF afd nF)
def e78:bg:=aN [pf dJ,pf cQ,pI,pI] [(true,Y0),rB] (c4 vn)
theorem o78:cO 78 e78:=f0 {mv:=[19,20,34,36,38]} (((base.add o17).add o27).add aso) func78
def aqk:bg:=aN [pd .str] [rS,rB] (c1 vg)
theorem as2:cO 198 aqk:=f0 {merge:=mg [(2,17)]} (base.add apf) func198
def apR:bg:=aN [pd .str] [(true,Y2),rI] (c1 tD)
theorem asp:cO 133 apR:=f0 {} (((base.add afr).add as2).add aft) func133
def e51:bg:=aN [pd (.sl (.int .i64)),pI] [rB] (c2 sL)
def n51:An:={mask:=mk [(2,[1,4,7,8,9])]}
abbrev Rb:SD:=⟨B::DI::B::B::DB::B::B::.data false (.sl .arg (.int .i64))::DI::DI::bs 7 [],zs 17 [],.none⟩
def agG (X:SD.D Rb)(K:gO R):=tK (λy0=>ke 0 K Rb ((z4 (u y0) X.1),X.2)) (λy0 y1=>kr K Rb ((z1 (w y0 (z2 (u y1))) X.1),X.2)) X.1.1 X.1.2.1 (q2 X) (q3 X)
def L51:dL:=dL.nil.add 2 (iI Rb agG q4)
theorem ann:hY E fy.nil n51 L51 (aY f51 0):=lk Rb agG q4 λX x=>((z4 (u x) X.1),X.2)
theorem o51:cO 51 e51:=fk n51 base func51 (Λ:=L51) (cF ann nF)
def apS:bg:=aN [pf uY,pf cQ] [rB] (c2 wW)
theorem asq:cO 134 apS:=f0 {merge:=mg [(1,4)]} ((base.add o43).add o51) func134
def arj:bg:=aN [pI,pI,pI] [rB] (c3 nQ)
theorem atP:cO 284 arj:=f0 {} base func284
def alY:bg:=aN [pf iP,pf cQ] [rB] (c2 qb)
theorem atu:cO 252 alY:=f0 {merge:=mg [(1,4)]} ((((base.add BJ).add Mn).add aoS).add atP) func252
def aqm:bg:=aN [pd (.sl iP),pf cQ] [rI] (c2 vj)
def an9:An:={mask:=mk [(5,[0,3,5,11,12,13])],merge:=mg [(7,34)]}
abbrev OG:SD:=⟨.data false (.sl .arg iP)::B::B::.ptr 3 0::B::DI::bs 5 (.data false (.sl .arg iP)::DI::DI::bs 24 []),Z::Z::Z::(some Y2)::zs 34 [],.none⟩
def adJ (X:SD.D OG)(K:gO R):=pW (λy0 y1=>ke 0 K OG ((z1 (w y0 (z2 (u y1))) X.1),X.2)) X.1.1 (q2 X) (q3 X) X.2.1.1
def akt:dL:=dL.nil.add 5 (iI OG adJ (λX=>(X.1.2.1,q4 X)))
theorem aiK:hY E ((fy.nil.add 102 ahn).add 252 alY) an9 akt (aY f200 0):=lk OG adJ (λX=>(X.1.2.1,q4 X)) λX x=>((z1 (w x.1 (z2 (u x.2))) X.1),X.2)
theorem as3:cO 200 aqm:=fk an9 ((base.add aoC).add atu) func200 (Λ:=akt) (cF aiK nF)
def aqn:bg:=aN [pf (.sl ga),pf pn] [rI] (c2 vi)
theorem as4:cO 201 aqn:=f0 {} ((base.add aoD).add aoT) func201
def aqY:bg:=aN [pf CU,pf pn] [rI] (c2 wZ)
theorem atv:cO 253 aqY:=f0 {merge:=mg [(2,17)]} (base.add ao4) func253
def aqp:bg:=aN [pf CU,pI,pf pn] [rI] (c3 qd)
theorem as5:cO 203 aqp:=f0 {merge:=mg [(2,18)]} ((base.add aoE).add atv) func203
def apT:bg:=aN [pf oo,pI,pf cQ] [rI] (c3 qe)
theorem asr:cO 135 apT:=f0 {merge:=mg [(1,17)]} ((((((base.add o48).add Mn).add as3).add as4).add ajB).add as5) func135
def aqZ:bg:=aN [pf cQ,pf cQ] [rB] (c2 vq)
theorem atw:cO 254 aqZ:=f0 {} base func254
def aqq:bg:=aN [pf N4,pf cQ] [rB] (c2 tp)
theorem ao1:cO 204 aqq:=f0 {merge:=mg [(1,42),(4,76),(6,4)]} (((((base.add BJ).add Mn).add aoR).add aft).add atw) func204
def aqr:bg:=aN [pf N4,pf cQ] [(true,(.pair Y2 (.pair (.int .i64) (.int .i64))))] (c2 Dd)
theorem as6:cO 205 aqr:=f0 {} (base.add ao1) func205
def aqs:bg:=aN [pf cQ] [(true,(.pair Y2 (.pair (.int .i64) (.int .i64))))] (c1 Cp)
theorem as7:cO 206 aqs:=f0 {} base func206
def apU:bg:=aN [pd (.sl bG),pf (.sl .str),pI,pf dM,pd .str,pf cQ,pd .bool] [(true,(.sl (.own none) .str)),(true,Y9)] (c7 np)
theorem ass:cO 136 apU:=f0 {merge:=mg [(1,30),(3,44)],mv:=[53,68,77],mb:=mg [(77,16)],sb:=mg [(14,14),(15,15)]} (((((((base.add o45).add o49).add aoF).add aft).add ao1).add as6).add as7) func136
def e79:bg:=aN [pf dJ,pd .str] [(true,Y0)] (c2 pX)
theorem o79:cO 79 e79:=f0 {mv:=[14,34,46,62,69,90,103],sb:=mg [(92,5)]} (((((((base.add o17).add o27).add aoG).add asp).add asq).add asr).add ass) func79
def e28:bg:=aN [pf dJ,pf Am] [(true,Y0),rI] (c2 AH)
theorem o28:cO 28 e28:=f0 {merge:=mg [(1,15)],mv:=[22,34,35]} ((((((((((base.add o14).add o17).add o27).add o54).add o55).add o56).add o57).add o77).add o78).add o79) func28
def e10:bg:=aN [pf dJ,pd (.sl Am)] [(true,Y0),(false,(.sl (.own none) (.int .i64)))] (c2 qc)
def n10:An:={mask:=mk [(6,[4,6,7,24,25,26])],merge:=mg [(2,21)],mv:=[22,30,36,37,42,43]}
abbrev WH:SD:=⟨bs 4 (.ptr 4 0::B::.ptr 6 0::.data false (dp 86016 (.int .i64))::bs 16 (.data false (.sl .arg Am)::DI::DI::bs 17 [])),zs 4 ((some Y6)::Z::(some Y12)::zs 37 []),.none⟩
def ago (X:SD.D WH)(K:gO R):=rN (λy0 y1 y2=>ke 0 K WH ((w y0 (z2 (u y1)) X.1),(z1 (u y2) X.2.1),X.2.2)) X.1.2.1 (q2 X) X.2.1.1
def L10:dL:=dL.nil.add 6 (iI WH ago (λX=>(X.1.1,q3 X,X.2.1.2.1)))
theorem am4:hY E (((fy.nil.add 17 e17).add 27 e27).add 28 e28) n10 L10 (aY f10 0):=lk WH ago (λX=>(X.1.1,q3 X,X.2.1.2.1)) λX x=>((w x.1 (z2 (u x.2.1)) X.1),(z1 (u x.2.2) X.2.1),X.2.2)
theorem o10:cO 10 e10:=fk n10 (((base.add o17).add o27).add o28) func10 (Λ:=L10) (cF am4 nF)
def e53:bg:=aN [pd (.sl .str),pd (.sl .str)] [rB] (c2 Pu.mn)
def n53:An:={mask:=mk [(4,[0,1,4,12,13])]}
abbrev Rc:SD:=⟨.data false (.sl .arg .str)::.data false (.sl .arg .str)::B::B::DB::bs 7 (DI::DI::bs 12 []),zs 26 [],.none⟩
def agH (X:SD.D Rc)(K:gO R):=Pu.jP (λy0=>ke 0 K Rc ((z4 (u y0) X.1),X.2)) (λy0 y1=>kr K Rc ((z2 (w y0 (z1 (u y1))) X.1),X.2)) X.1.1 X.1.2.1 (q2 X) (q3 X)
def L53:dL:=dL.nil.add 4 (iI Rc agH q4)
theorem ano:hY E fy.nil n53 L53 (aY f53 0):=lk Rc agH q4 λX x=>((z4 (u x) X.1),X.2)
theorem o53:cO 53 e53:=fk n53 base func53 (Λ:=L53) (cF ano nF)
def e89:bg:=aN [pd (.sl (.int .i64)),pd (.sl (.int .i64))] [rB] (c2 Pu.gq)
def n89:An:={mask:=mk [(4,[0,1,4,12,13])]}
abbrev Rk:SD:=⟨.data false (.sl .arg (.int .i64))::.data false (.sl .arg (.int .i64))::B::B::DB::bs 7 (DI::DI::bs 12 []),zs 26 [],.none⟩
def agV (X:SD.D Rk)(K:gO R):=Pu.mm (λy0=>ke 0 K Rk ((z4 (u y0) X.1),X.2)) (λy0 y1=>kr K Rk ((z2 (w y0 (z1 (u y1))) X.1),X.2)) X.1.1 X.1.2.1 (q2 X) (q3 X)
def L89:dL:=dL.nil.add 4 (iI Rk agV q4)
theorem anD:hY E fy.nil n89 L89 (aY f89 0):=lk Rk agV q4 λX x=>((z4 (u x) X.1),X.2)
theorem o89:cO 89 e89:=fk n89 base func89 (Λ:=L89) (cF anD nF)
def e83:bg:=aN [pf hZ,pf hZ] [rB] (c2 ri)
theorem o83:cO 83 e83:=f0 {merge:=mg [(1,4)]} (base.add o89) func83
def ali:bg:=aN [pf ia,pf ia] [rB] (c2 vy)
theorem asu:cO 138 ali:=f0 {merge:=mg [(1,4)]} (base.add o89) func138
def apV:bg:=aN [pd (.sl ia),pd (.sl ia),.fn 138] [rB] (c2 Pu.kH)
def anT:An:={mask:=mk [(4,[1,2,6,15,16,17])]}
abbrev Jr:SD:=⟨B::.data false (.sl .arg ia)::.fn 138::B::B::B::DB::bs 8 (.data false (.sl .arg ia)::DI::DI::bs 14 []),zs 32 [],.none⟩
def adl (X:SD.D Jr)(K:gO R):=Pu.iZ (λy0=>ke 0 K Jr ((z4 (u y0) X.1),X.2)) (λy0 y1=>kr K Jr ((z1 (w y0 (z2 (u y1))) X.1),X.2)) X.1.1 X.1.2.1 (q2 X) (q3 X)
def akd:dL:=dL.nil.add 4 (iI Jr adl q4)
theorem aim:hY E (fy.nil.add 138 ali) anT akd (aY f137 0):=lk Jr adl q4 λX x=>((z4 (u x) X.1),X.2)
theorem ast:cO 137 apV:=fk anT (base.add asu) func137 (Λ:=akd) (cF aim nF)
def e80:bg:=aN [pf kh,pf kh] [rB] (c2 yP)
theorem o80:cO 80 e80:=f0 {merge:=mg [(1,4)]} ((base.add o83).add ast) func80
def e81:bg:=aN [pd (.sl dM),pd (.sl dM)] [rB] (c2 Pu.lv)
def n81:An:={mask:=mk [(4,[0,1,4,12,13])]}
abbrev Re:SD:=⟨.data false (.sl .arg dM)::.data false (.sl .arg dM)::B::B::DB::bs 7 (DI::DI::bs 12 []),zs 26 [],.none⟩
def agQ (X:SD.D Re)(K:gO R):=Pu.jq (λy0=>ke 0 K Re ((z4 (u y0) X.1),X.2)) (λy0 y1=>kr K Re ((z2 (w y0 (z1 (u y1))) X.1),X.2)) X.1.1 X.1.2.1 (q2 X) (q3 X)
def L81:dL:=dL.nil.add 4 (iI Re agQ q4)
theorem anx:hY E fy.nil n81 L81 (aY f81 0):=lk Re agQ q4 λX x=>((z4 (u x) X.1),X.2)
theorem o81:cO 81 e81:=fk n81 base func81 (Λ:=L81) (cF anx nF)
def e82:bg:=aN [pd (.sl hZ),pd (.sl hZ),.fn 83] [rB] (c2 Pu.kG)
def n82:An:={mask:=mk [(4,[1,2,6,15,16,17])]}
abbrev Rf:SD:=⟨B::.data false (.sl .arg hZ)::.fn 83::B::B::B::DB::bs 8 (.data false (.sl .arg hZ)::DI::DI::bs 14 []),zs 32 [],.none⟩
def agR (X:SD.D Rf)(K:gO R):=Pu.iY (λy0=>ke 0 K Rf ((z4 (u y0) X.1),X.2)) (λy0 y1=>kr K Rf ((z1 (w y0 (z2 (u y1))) X.1),X.2)) X.1.1 X.1.2.1 (q2 X) (q3 X)
def L82:dL:=dL.nil.add 4 (iI Rf agR q4)
theorem anz:hY E (fy.nil.add 83 e83) n82 L82 (aY f82 0):=lk Rf agR q4 λX x=>((z4 (u x) X.1),X.2)
theorem o82:cO 82 e82:=fk n82 (base.add o83) func82 (Λ:=L82) (cF anz nF)
def e84:bg:=aN [pd (.sl fz),pd (.sl fz)] [rB] (c2 Pu.mj)
def n84:An:={mask:=mk [(4,[0,1,4,12,13])]}
abbrev Rh:SD:=⟨.data false (.sl .arg fz)::.data false (.sl .arg fz)::B::B::DB::bs 7 (DI::DI::bs 12 []),zs 26 [],.none⟩
def agS (X:SD.D Rh)(K:gO R):=Pu.jO (λy0=>ke 0 K Rh ((z4 (u y0) X.1),X.2)) (λy0 y1=>kr K Rh ((z2 (w y0 (z1 (u y1))) X.1),X.2)) X.1.1 X.1.2.1 (q2 X) (q3 X)
def L84:dL:=dL.nil.add 4 (iI Rh agS q4)
theorem anA:hY E fy.nil n84 L84 (aY f84 0):=lk Rh agS q4 λX x=>((z4 (u x) X.1),X.2)
theorem o84:cO 84 e84:=fk n84 base func84 (Λ:=L84) (cF anA nF)
def e85:bg:=aN [pd (.sl .bool),pd (.sl .bool)] [rB] (c2 Pu.pa)
def n85:An:={mask:=mk [(4,[0,1,4,12,13])]}
abbrev Ri:SD:=⟨.data false (.sl .arg .bool)::.data false (.sl .arg .bool)::B::B::DB::bs 7 (DI::DI::bs 12 []),zs 26 [],.none⟩
def agT (X:SD.D Ri)(K:gO R):=Pu.ly (λy0=>ke 0 K Ri ((z4 (u y0) X.1),X.2)) (λy0 y1=>kr K Ri ((z2 (w y0 (z1 (u y1))) X.1),X.2)) X.1.1 X.1.2.1 (q2 X) (q3 X)
def L85:dL:=dL.nil.add 4 (iI Ri agT q4)
theorem anB:hY E fy.nil n85 L85 (aY f85 0):=lk Ri agT q4 λX x=>((z4 (u x) X.1),X.2)
theorem o85:cO 85 e85:=fk n85 base func85 (Λ:=L85) (cF anB nF)
def e86:bg:=aN [pf uY,pf uY] [rB] (c2 rX)
theorem o86:cO 86 e86:=f0 {merge:=mg [(1,4)]} (base.add o89) func86
def apW:bg:=aN [pd (.sl iP),pd (.sl iP)] [rB] (c2 Pu.oY)
def anU:An:={mask:=mk [(4,[0,1,4,12,13])]}
abbrev Js:SD:=⟨.data false (.sl .arg iP)::.data false (.sl .arg iP)::B::B::DB::bs 7 (DI::DI::bs 12 []),zs 26 [],.none⟩
def adm (X:SD.D Js)(K:gO R):=Pu.lu (λy0=>ke 0 K Js ((z4 (u y0) X.1),X.2)) (λy0 y1=>kr K Js ((z2 (w y0 (z1 (u y1))) X.1),X.2)) X.1.1 X.1.2.1 (q2 X) (q3 X)
def ake:dL:=dL.nil.add 4 (iI Js adm q4)
theorem ain:hY E fy.nil anU ake (aY f139 0):=lk Js adm q4 λX x=>((z4 (u x) X.1),X.2)
theorem asv:cO 139 apW:=fk anU base func139 (Λ:=ake) (cF ain nF)
def apX:bg:=aN [pd (.sl ga),pd (.sl ga)] [rB] (c2 Pu.oZ)
def anV:An:={mask:=mk [(4,[0,1,4,12,13])]}
abbrev Jt:SD:=⟨.data false (.sl .arg ga)::.data false (.sl .arg ga)::B::B::DB::bs 7 (DI::DI::bs 12 []),zs 26 [],.none⟩
def adn (X:SD.D Jt)(K:gO R):=Pu.lx (λy0=>ke 0 K Jt ((z4 (u y0) X.1),X.2)) (λy0 y1=>kr K Jt ((z2 (w y0 (z1 (u y1))) X.1),X.2)) X.1.1 X.1.2.1 (q2 X) (q3 X)
def akf:dL:=dL.nil.add 4 (iI Jt adn q4)
theorem aio:hY E fy.nil anV akf (aY f140 0):=lk Jt adn q4 λX x=>((z4 (u x) X.1),X.2)
theorem asw:cO 140 apX:=fk anV base func140 (Λ:=akf) (cF aio nF)
def e87:bg:=aN [pf oo,pf oo] [rB] (c2 oV)
theorem o87:cO 87 e87:=f0 {merge:=mg [(1,4)]} (((base.add o89).add asv).add asw) func87
def e88:bg:=aN [pd (.sl dK),pd (.sl dK)] [rB] (c2 Pu.mi)
def n88:An:={mask:=mk [(4,[0,1,4,12,13])]}
abbrev Rj:SD:=⟨.data false (.sl .arg dK)::.data false (.sl .arg dK)::B::B::DB::bs 7 (DI::DI::bs 12 []),zs 26 [],.none⟩
def agU (X:SD.D Rj)(K:gO R):=Pu.jN (λy0=>ke 0 K Rj ((z4 (u y0) X.1),X.2)) (λy0 y1=>kr K Rj ((z2 (w y0 (z1 (u y1))) X.1),X.2)) X.1.1 X.1.2.1 (q2 X) (q3 X)
def L88:dL:=dL.nil.add 4 (iI Rj agU q4)
theorem anC:hY E fy.nil n88 L88 (aY f88 0):=lk Rj agU q4 λX x=>((z4 (u x) X.1),X.2)
theorem o88:cO 88 e88:=fk n88 base func88 (Λ:=L88) (cF anC nF)
def e29:bg:=aN [pf dJ,pf dJ] [rB] (c2 rV)
theorem o29:cO 29 e29:=f0 {merge:=mg [(1,4)]} ((((((((((base.add o53).add o80).add o81).add o82).add o84).add o85).add o86).add o87).add o88).add o89) func29
def e11:bg:=aN [pf dJ,pf dJ] [rB] (c2 vr)
def n11:An:={mask:=mk [(4,[2,3,4,33,34,35])],merge:=mg [(1,31),(7,58),(10,96)]}
abbrev Q1:SD:=⟨B::B::.ptr 2 0::.ptr 3 0::DB::bs 28 (.data false (.sl .arg bG)::DI::DI::bs 62 []),Z::Z::(some Y5)::(some Y5)::zs 94 [],.none⟩
def agp (X:SD.D Q1)(K:gO R):=mD (λy0=>ke 0 K Q1 ((z3 (u y0) X.1),X.2)) (λy0 y1=>kr K Q1 ((w y0 (z2 (u y1)) X.1),X.2)) X.1.1 X.1.2.1 (q2 X) X.2.1.1 X.2.1.2.1
def L11:dL:=dL.nil.add 4 (iI Q1 agp q3)
theorem am5:hY E (((fy.nil.add 17 e17).add 29 e29).add 30 e30) n11 L11 (aY f11 0):=lk Q1 agp q3 λX x=>((z3 (u x) X.1),X.2)
theorem o11:cO 11 e11:=fk n11 (((base.add o17).add o29).add o30) func11 (Λ:=L11) (cF am5 nF)
def e12:bg:=aN [pd (.sl (.int .i64)),pd (.sl (.int .i64))] [rB] (c2 vA)
def n12:An:={mask:=mk [(4,[0,1,4,5])]}
abbrev Q2:SD:=⟨.data false (.sl .arg (.int .i64))::.data false (.sl .arg (.int .i64))::B::B::DB::DI::bs 20 [],zs 26 [],.none⟩
def agq (X:SD.D Q2)(K:gO R):=uH (λy0=>ke 0 K Q2 ((z3 (u y0) X.1),X.2)) (λy0 y1=>kr K Q2 ((z2 (w y0 (u y1)) X.1),X.2)) X.1.1 X.1.2.1 (q2 X)
def L12:dL:=dL.nil.add 4 (iI Q2 agq q3)
theorem am6:hY E fy.nil n12 L12 (aY f12 0):=lk Q2 agq q3 λX x=>((z3 (u x) X.1),X.2)
theorem o12:cO 12 e12:=fk n12 base func12 (Λ:=L12) (cF am6 nF)
abbrev nw:aw PS:=[pd (.sl (.int .u8))]
def tc:bg:=aN nw [rB] (c1 pG)
theorem AP:cO 3 tc:=f0 {mv:=[37,38,45,46],sb:=mg [(8,8),(10,10)]} ((((((base.add o7).add o8).add o9).add o10).add o11).add o12) func3
end
end Go.Proofs.YtainmjjkipbciaaGreat.Fn
