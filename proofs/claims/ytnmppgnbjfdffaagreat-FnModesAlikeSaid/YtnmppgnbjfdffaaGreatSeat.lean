import Derived.Test.YtnmppgnbjfdffaaGreatDnSig
import Derived.Test.YtnmppgnbjfdffaaGreatPure
import Derived.Test.YtnmppgnbjfdffaaGreatRows
/- Each function of the program is its pure function (made by gen.py). -/
namespace Go.Proofs.YtnmppgnbjfdffaaGreat.Fn
open Go.Dn
open Go.Pu Go.Proofs.Tryz
set_option maxRecDepth 100000
set_option linter.unusedVariables false
noncomputable section
variable {an:An} {Γ:zP} {Λ:mS} {f:Nat} {P:Program} {A0 A1 A2 A3 A4 A5 A6 C R σ:Type} {rs:ay (Bool×FT)} {s:ay PS}
abbrev wy (R:Type):=Ex->AS->Option R
abbrev Bt:FT:=.int .i64
abbrev cS (a b:FT):FT:=.pair a b
abbrev jV (b:FT):FT:=.pair (.int .i64) b
abbrev dC (n:Nat)(t:CT):FT:=.sl (.own (some n)) t
abbrev sB (t:FT):Option FT:=some t
abbrev du (t:FT):PD:=.data false t
abbrev mh (t:FT):PD:=.data true t
abbrev md (t:CT):FT:=.sl .arg t
abbrev GV:=iW Tryz.prog
abbrev B:PD:=.bot
abbrev DI:PD:=.data false (.int .i64)
abbrev DB:PD:=.data false .bool
abbrev Z:aC FT:=none
theorem nF {p:Code->Prop}:∀x∈([]:ay Code),p x:=λ_ h=>nomatch h
theorem cF {p:Code->Prop}{a:Code}{l:ay Code}(h:p a)(t:∀x∈l,p x):∀x∈a::l,p x:=List.forall_mem_cons.2 ⟨h,t⟩
theorem hF {p:Code->Prop}{l m:ay Code}(e:l=m)(h:∀x∈m,p x):∀x∈l,p x:=e▸h
theorem fk {E:Env}{F:Bu s->aC (lB rs)}{fn:Func}(an:An)(hS:Sound P E Γ)(hf:P.funcs[f]?=some fn){l:ay Code}(h:∀c∈l,yF E Γ an Λ c)(hn:(fn.name== "runtime.NumGoroutine")=false:=by kernel_rfl)(hl:ji (fn.body.getD .skip)=l:=by kernel_rfl)(gm:an.cut=[]:=by kernel_rfl)(hF:∀a,DY E Γ an Λ fn rs (me s a)=F a:=by intro a;kernel_rfl):iW P f (Pm s rs F):=iW.of (aaJ hS hf hn (zO.of (Fn.hF hl h) gm)) hF
theorem ao {E:Env}{b:Code}{l:ay Code}(h:∀c∈l,yF E Γ an Λ c)(hl:ji b=l:=by kernel_rfl)(hc:an.cut=[]:=by kernel_rfl):zO E Γ an Λ b:=zO.of (Fn.hF hl h) hc
theorem ac {E:Env}{b:Code}{l m:ay Code}(h:∀c∈l,yF E Γ an Λ c)(hc:∀c∈m,VU E Γ an Λ c)(hl:ji b=l:=by kernel_rfl)(hm:lH an.cut b=m:=by kernel_rfl):zO E Γ an Λ b:=⟨Fn.hF hl h,Fn.hF hm hc⟩
theorem fc {E:Env}{F:Bu s->aC (lB rs)}{fn:Func}(an:An)(hS:Sound P E Γ)(hf:P.funcs[f]?=some fn){l m:ay Code}(h:∀c∈l,yF E Γ an Λ c)(hc:∀c∈m,VU E Γ an Λ c)(hn:(fn.name== "runtime.NumGoroutine")=false:=by kernel_rfl)(hl:ji (fn.body.getD .skip)=l:=by kernel_rfl)(hm:lH an.cut (fn.body.getD .skip)=m:=by kernel_rfl)(hF:∀a,DY E Γ an Λ fn rs (me s a)=F a:=by intro a;kernel_rfl):iW P f (Pm s rs F):=iW.of (aaJ hS hf hn ⟨Fn.hF hl h,Fn.hF hm hc⟩) hF
abbrev pd (t:CT):PS:=.data false t
abbrev pf (t:CT):PS:=.data true t
abbrev pI:PS:=.data false (.int .i64)
abbrev rB:Bool×FT:=(false,.bool)
abbrev rI:Bool×FT:=(false,.int .i64)
abbrev rS:Bool×FT:=(false,.str)
abbrev bs:Nat->ay PD->ay PD|0,l=>l|n+1,l=> .bot::bs n l
abbrev zs:Nat->ay (aC FT)->ay (aC FT)|0,l=>l|n+1,l=>none::zs n l
def mk (l:ay (Nat×fR))(n:Nat):fR:=(l.lookup n).getD []
def mg (l:ay (Nat×Nat))(n:Nat):aC Nat:=l.lookup n
def ke (n:Nat)(K:wy R)(d:SD)(x:SD.D d):aC R:=K (.exit n) (SD.enc d x)
def kn (K:wy R)(d:SD)(x:SD.D d):aC R:=K .normal (SD.enc d x)
def kr (K:wy R)(d:SD)(x:SD.D d):aC R:=K .ret (SD.enc d x)
def Ao (d:SD)(t:{R:Type}->SD.D d->(Ex->AS->aC R)->(σ->aC R)->σ->aC R)(i:SD.D d->σ):ID:=⟨d,λX K=>bt (t X K) fuel (i X)⟩
theorem lk {E:Env}{c:Code}(d:SD)(t:{R:Type}->SD.D d->(Ex->AS->aC R)->(σ->aC R)->σ->aC R)(i:SD.D d->σ)(w:SD.D d->σ->SD.D d)(h1:Λ (fa c)=Ao d t i:=by kernel_rfl)(h:∀(R:Type)(X:SD.D d)(K:wy R)(m:Nat)(x:σ),Bg (an.mask (fa c)) (den E Γ an Λ c) (m+1) (SD.enc d (w X x)) K=t X K (λy=>Bg (an.mask (fa c)) (den E Γ an Λ c) m (SD.enc d (w X y)) K) x:=by intro R X K m x;kernel_rfl)(hw:∀X,w X (i X)=X:=by intro X;kernel_rfl):yF E Γ an Λ c:=lok (Ao d t i) h1 fuel λR X K=>(P3 (λx=>SD.enc d (w X x)) (t X K) (h R X K) fuel (i X)).symm.trans (congrArg (λy=>Bg (an.mask (fa c)) (den E Γ an Λ c) fuel (SD.enc d y) K) (hw X))
def mkc (d:SD)(t:{R:Type}->SD.D d->(Ex->AS->aC R)->aC R):ID:=⟨d,λX K=>t X K⟩
theorem ck {E:Env}{c:Code}(d:SD)(t:{R:Type}->SD.D d->(Ex->AS->aC R)->aC R)(h1:Λ (DP c)=mkc d t:=by kernel_rfl)(h:∀(R:Type)(X:SD.D d)(K:wy R),t X K=den E Γ an Λ c (SD.enc d X) (λe bX=>K e (bX.mask (an.mask (DP c+1)))):=by intro R X K;kernel_rfl):VU E Γ an Λ c:=cok (mkc d t) h1 h
def u {A B:Type}(y:A)(x:A×B):A×B:=(y,x.2)
def w {A B:Type}(y:A)(f:B->B)(x:A×B):A×B:=(y,f x.2)
def z1 {B:Type}(f:B->B)(x:A0×B):A0×B:=(x.1,f x.2)
def z2 {B:Type}(f:B->B)(x:A0×A1×B):A0×A1×B:=(x.1,x.2.1,f x.2.2)
def z3 {B:Type}(f:B->B)(x:A0×A1×A2×B):A0×A1×A2×B:=(x.1,x.2.1,x.2.2.1,f x.2.2.2)
def z4 {B:Type}(f:B->B)(x:A0×A1×A2×A3×B):A0×A1×A2×A3×B:=(x.1,x.2.1,x.2.2.1,x.2.2.2.1,f x.2.2.2.2)
def z5 {B:Type}(f:B->B)(x:A0×A1×A2×A3×A4×B):A0×A1×A2×A3×A4×B:=(x.1,x.2.1,x.2.2.1,x.2.2.2.1,x.2.2.2.2.1,f x.2.2.2.2.2)
def z6 {B:Type}(f:B->B)(x:A0×A1×A2×A3×A4×A5×B):A0×A1×A2×A3×A4×A5×B:=(x.1,x.2.1,x.2.2.1,x.2.2.2.1,x.2.2.2.2.1,x.2.2.2.2.2.1,f x.2.2.2.2.2.2)
def z7 {B:Type}(f:B->B)(x:A0×A1×A2×A3×A4×A5×A6×B):A0×A1×A2×A3×A4×A5×A6×B:=(x.1,x.2.1,x.2.2.1,x.2.2.2.1,x.2.2.2.2.1,x.2.2.2.2.2.1,x.2.2.2.2.2.2.1,f x.2.2.2.2.2.2.2)
def q2 {B:Type}(x:(A0×A1×A2×B)×C):A2:=x.1.2.2.1
def q3 {B:Type}(x:(A0×A1×A2×A3×B)×C):A3:=x.1.2.2.2.1
def q4 {B:Type}(x:(A0×A1×A2×A3×A4×B)×C):A4:=x.1.2.2.2.2.1
def q5 {B:Type}(x:(A0×A1×A2×A3×A4×A5×B)×C):A5:=x.1.2.2.2.2.2.1
def q6 {B:Type}(x:(A0×A1×A2×A3×A4×A5×A6×B)×C):A6:=x.1.2.2.2.2.2.2.1
def q7 {A7 B:Type}(x:(A0×A1×A2×A3×A4×A5×A6×A7×B)×C):A7:=x.1.2.2.2.2.2.2.2.1
def q8 {A7 A8 B:Type}(x:(A0×A1×A2×A3×A4×A5×A6×A7×A8×B)×C):A8:=x.1.2.2.2.2.2.2.2.2.1
def q9 {A7 A8 A9 B:Type}(x:(A0×A1×A2×A3×A4×A5×A6×A7×A8×A9×B)×C):A9:=x.1.2.2.2.2.2.2.2.2.2.1
def c1 {B:Type}(f:A0->R)(a:A0×B):R:=f a.1
def c2 {B:Type}(f:A0->A1->R)(a:A0×A1×B):R:=f a.1 a.2.1
def c3 {B:Type}(f:A0->A1->A2->R)(a:A0×A1×A2×B):R:=f a.1 a.2.1 a.2.2.1
def c4 {B:Type}(f:A0->A1->A2->A3->R)(a:A0×A1×A2×A3×B):R:=f a.1 a.2.1 a.2.2.1 a.2.2.2.1
def c5 {B:Type}(f:A0->A1->A2->A3->A4->R)(a:A0×A1×A2×A3×A4×B):R:=f a.1 a.2.1 a.2.2.1 a.2.2.2.1 a.2.2.2.2.1
def c6 {B:Type}(f:A0->A1->A2->A3->A4->A5->R)(a:A0×A1×A2×A3×A4×A5×B):R:=f a.1 a.2.1 a.2.2.1 a.2.2.2.1 a.2.2.2.2.1 a.2.2.2.2.2.1
def c7 {B:Type}(f:A0->A1->A2->A3->A4->A5->A6->R)(a:A0×A1×A2×A3×A4×A5×A6×B):R:=f a.1 a.2.1 a.2.2.1 a.2.2.2.1 a.2.2.2.2.1 a.2.2.2.2.2.1 a.2.2.2.2.2.2.1
theorem f0 {E:Env}{F:Bu s->aC (lB rs)}{fn:Func}(an:An)(hS:Sound P E Γ)(hf:P.funcs[f]?=some fn)(hn:(fn.name== "runtime.NumGoroutine")=false:=by kernel_rfl)(hl:ji (fn.body.getD .skip)=[]:=by kernel_rfl)(gm:an.cut=[]:=by rfl)(hF:∀a,DY E Γ an mS.nil fn rs (me s a)=F a:=by intro a;kernel_rfl):iW P f (Pm s rs F):=iW.of (aaJ hS hf hn (zO.of (Fn.hF hl nF) gm)) hF
abbrev Y21:FT:=jV (jV Bt)
abbrev Y1:FT:=cS Bt Y21
abbrev Y9:FT:=jV (jV (jV (.sl (.own none) (.int .i64))))
abbrev Y18:FT:=cS Y1 (cS Y9 (cS (.sl (.own none) jW) Bt))
abbrev Y25:FT:=jV (cS .bool (.sl (.own none) (.int .i64)))
abbrev Y20:FT:=cS (.sl (.own none) ko) (cS (.sl (.own none) iG) (cS .str (.sl (.own none) (.int .i64))))
abbrev Y0:FT:=cS (.sl (.own none) .str) (cS (.sl (.own none) bP) (cS Y18 (cS (.sl (.own none) dZ) (cS (.sl (.own none) jM) (cS (.sl (.own none) gG) (cS (.sl (.own none) .bool) (cS Y25 (cS Y20 (cS (.sl (.own none) dK) (cS .bool (cS (.sl (.own none) .str) (cS (.sl (.own none) (.int .i64)) (cS (.sl (.own none) (.int .i64)) (cS Bt Y1))))))))))))))
abbrev Y15:FT:=jV (jV (jV (jV .str)))
abbrev Y22:FT:=jV (cS Bt Y15)
abbrev Y2:FT:=jV (jV (jV (jV (jV (jV (jV (jV (cS Bt Y22))))))))
abbrev Y3:FT:=cS (dC 24577 .str) (cS (dC 24580 bP) (cS (cS Y1 (cS (jV (jV (jV (dC 24604 (.int .i64))))) (cS (dC 24607 jW) Bt))) (cS (dC 24613 dZ) (cS (dC 24616 jM) (cS (dC 24619 gG) (cS (dC 24622 .bool) (cS (jV (cS .bool (dC 24631 (.int .i64)))) (cS (cS (dC 24634 ko) (cS (dC 24637 iG) (cS .str (dC 24643 (.int .i64))))) (cS (dC 24646 dK) (cS .bool (cS (dC 24652 .str) (cS (dC 24655 (.int .i64)) (cS (dC 24658 (.int .i64)) (cS Bt Y1))))))))))))))
abbrev Y4:FT:=cS (dC 36865 .str) (cS (dC 36868 bP) (cS (cS Y1 (cS (jV (jV (jV (dC 36892 (.int .i64))))) (cS (dC 36895 jW) Bt))) (cS (dC 36901 dZ) (cS (dC 36904 jM) (cS (dC 36907 gG) (cS (dC 36910 .bool) (cS (jV (cS .bool (dC 36919 (.int .i64)))) (cS (cS (dC 36922 ko) (cS (dC 36925 iG) (cS .str (dC 36931 (.int .i64))))) (cS (dC 36934 dK) (cS .bool (cS (dC 36940 .str) (cS (dC 36943 (.int .i64)) (cS (dC 36946 (.int .i64)) (cS Bt Y1))))))))))))))
abbrev Y14:FT:=jV (jV (jV (.sl .arg (.int .i64))))
abbrev Y26:FT:=cS Y1 (cS Y14 (cS (.sl .arg jW) Bt))
abbrev Y27:FT:=jV (cS .bool (.sl .arg (.int .i64)))
abbrev Y19:FT:=cS (.sl .arg ko) (cS (.sl .arg iG) (cS .str (.sl .arg (.int .i64))))
abbrev Y5:FT:=cS (.sl .arg .str) (cS (.sl .arg bP) (cS Y26 (cS (.sl .arg dZ) (cS (.sl .arg jM) (cS (.sl .arg gG) (cS (.sl .arg .bool) (cS Y27 (cS Y19 (cS (.sl .arg dK) (cS .bool (cS (.sl .arg .str) (cS (.sl .arg (.int .i64)) (cS (.sl .arg (.int .i64)) (cS Bt Y1))))))))))))))
abbrev Y6:FT:=cS (dC 73729 .str) (cS (dC 73732 bP) (cS (cS Y1 (cS (jV (jV (jV (dC 73756 (.int .i64))))) (cS (dC 73759 jW) Bt))) (cS (dC 73765 dZ) (cS (dC 73768 jM) (cS (dC 73771 gG) (cS (dC 73774 .bool) (cS (jV (cS .bool (dC 73783 (.int .i64)))) (cS (cS (dC 73786 ko) (cS (dC 73789 iG) (cS .str (dC 73795 (.int .i64))))) (cS (dC 73798 dK) (cS .bool (cS (dC 73804 .str) (cS (dC 73807 (.int .i64)) (cS (dC 73810 (.int .i64)) (cS Bt Y1))))))))))))))
abbrev Y7:FT:=cS (dC 49153 .str) (cS (dC 49156 bP) (cS (cS Y1 (cS (jV (jV (jV (dC 49180 (.int .i64))))) (cS (dC 49183 jW) Bt))) (cS (dC 49189 dZ) (cS (dC 49192 jM) (cS (dC 49195 gG) (cS (dC 49198 .bool) (cS (jV (cS .bool (dC 49207 (.int .i64)))) (cS (cS (dC 49210 ko) (cS (dC 49213 iG) (cS .str (dC 49219 (.int .i64))))) (cS (dC 49222 dK) (cS .bool (cS (dC 49228 .str) (cS (dC 49231 (.int .i64)) (cS (dC 49234 (.int .i64)) (cS Bt Y1))))))))))))))
abbrev Y8:FT:=cS (.sl .ye (.int .u8)) (jV Bt)
abbrev Y10:FT:=cS Y1 (cS Y21 (cS Y21 (cS (cS Y2 (jV Bt)) (cS .bool Bt))))
abbrev Y11:FT:=cS (dC 196609 .str) (cS (dC 196612 bP) (cS (cS Y1 (cS (jV (jV (jV (dC 196636 (.int .i64))))) (cS (dC 196639 jW) Bt))) (cS (dC 196645 dZ) (cS (dC 196648 jM) (cS (dC 196651 gG) (cS (dC 196654 .bool) (cS (jV (cS .bool (dC 196663 (.int .i64)))) (cS (cS (dC 196666 ko) (cS (dC 196669 iG) (cS .str (dC 196675 (.int .i64))))) (cS (dC 196678 dK) (cS .bool (cS (dC 196684 .str) (cS (dC 196687 (.int .i64)) (cS (dC 196690 (.int .i64)) (cS Bt Y1))))))))))))))
abbrev Y12:FT:=cS (dC 147457 .str) (cS (dC 147460 bP) (cS (cS Y1 (cS (jV (jV (jV (dC 147484 (.int .i64))))) (cS (dC 147487 jW) Bt))) (cS (dC 147493 dZ) (cS (dC 147496 jM) (cS (dC 147499 gG) (cS (dC 147502 .bool) (cS (jV (cS .bool (dC 147511 (.int .i64)))) (cS (cS (dC 147514 ko) (cS (dC 147517 iG) (cS .str (dC 147523 (.int .i64))))) (cS (dC 147526 dK) (cS .bool (cS (dC 147532 .str) (cS (dC 147535 (.int .i64)) (cS (dC 147538 (.int .i64)) (cS Bt Y1))))))))))))))
abbrev Y13:FT:=jV (jV (jV (jV (cS .bool .bool))))
abbrev Y16:FT:=cS (.sl .loc .bool) (cS (jV (cS .bool (.sl .loc (.int .i64)))) (cS (cS (.sl .loc ko) (cS (.sl .loc iG) (cS .str (.sl .loc (.int .i64))))) (cS (.sl .loc dK) (cS .bool (cS (.sl .loc .str) (cS (.sl .loc (.int .i64)) (cS (.sl .loc (.int .i64)) (cS Bt Y1))))))))
abbrev Y17:FT:=cS (dC 49153 ko) (cS (dC 49156 iG) (cS .str (dC 49162 (.int .i64))))
abbrev Y23:FT:=cS Y1 (cS (jV (jV (jV (.sl .loc (.int .i64))))) (cS (.sl .loc jW) Bt))
abbrev Y24:FT:=cS (dC 24577 ko) (cS (dC 24580 iG) (cS .str (dC 24586 (.int .i64))))
abbrev Y28:FT:=jV (jV (jV (dC 184330 (.int .i64))))
abbrev Y29:FT:=jV (jV (jV (dC 147466 (.int .i64))))
abbrev Y30:FT:=jV (jV (jV (dC 98314 (.int .i64))))
abbrev Y31:FT:=jV (jV (jV (dC 73738 (.int .i64))))
def E:Env:={ty:=[(3,⟨false,(.int .i64),[]⟩),(4,⟨false,.bool,[]⟩),(5,⟨false,(.int .u8),[]⟩),(9,⟨false,.str,[]⟩),(22,⟨false,(.sl (.int .u8)),[(5,0)]⟩),(24,⟨false,(.sl .str),[(9,0)]⟩),(26,⟨true,(.sl .str),[(0,1)]⟩),(27,⟨false,(.sl bP),[(99,0)]⟩),(29,⟨true,ui,[(0,1),(1,1),(2,1),(3,1)]⟩),(30,⟨false,(.sl (.int .i64)),[(3,0)]⟩),(32,⟨true,jM,[(0,1),(1,1),(2,1),(3,1)]⟩),(33,⟨false,(.sl jW),[(104,0)]⟩),(35,⟨true,nJ,[(0,4),(4,4),(8,1),(9,1)]⟩),(36,⟨false,(.sl dZ),[(111,0)]⟩),(37,⟨false,(.sl jM),[(32,0)]⟩),(38,⟨false,(.sl gG),[(74,0)]⟩),(39,⟨false,(.sl .bool),[(4,0)]⟩),(41,⟨true,AJ,[(0,1),(1,1),(2,1)]⟩),(42,⟨false,(.sl ko),[(190,0)]⟩),(43,⟨false,(.sl iG),[(192,0)]⟩),(45,⟨true,(.sl iG),[(0,1)]⟩),(47,⟨true,EZ,[(0,1),(1,1)]⟩),(49,⟨true,uj,[(0,1),(1,1),(2,2)]⟩),(50,⟨false,(.sl dK),[(134,0)]⟩),(52,⟨true,qm,[(0,1),(1,1),(2,1),(3,1),(4,1)]⟩),(54,⟨true,gI,[(0,1),(1,1),(2,10),(12,1),(13,1),(14,1),(15,1),(16,3),(19,4),(23,1),(24,1),(25,1),(26,1),(27,1),(28,5)]⟩),(55,⟨false,(.sl BQ),[(92,0)]⟩),(74,⟨true,gG,[(0,1),(1,1),(2,1),(3,1),(4,1),(5,1)]⟩),(88,⟨true,BR,[(0,1),(1,1),(2,1),(3,1),(4,1),(5,1),(6,1),(7,1)]⟩),(90,⟨true,dy,[(0,1),(1,1),(2,1),(3,1),(4,1),(5,1),(6,1),(7,1),(8,8)]⟩),(92,⟨true,BQ,[(0,1),(1,16),(17,1),(18,1),(19,1),(20,1)]⟩),(99,⟨true,bP,[(0,1),(1,1),(2,1),(3,1)]⟩),(104,⟨true,jW,[(0,1),(1,1),(2,1)]⟩),(107,⟨true,iZ,[(0,1),(1,1),(2,1)]⟩),(109,⟨true,QQ,[(0,16),(16,1),(17,1)]⟩),(111,⟨true,dZ,[(0,4),(4,3),(7,3),(10,18),(28,1),(29,1)]⟩),(132,⟨true,qm,[(0,1),(1,1),(2,1),(3,1),(4,1)]⟩),(134,⟨true,dK,[(0,5),(5,1),(6,1),(7,1)]⟩),(137,⟨true,(.pair (.sl (.int .u8)) (.pair (.int .i64) (.int .i64))),[(0,1),(1,1),(2,1)]⟩),(138,⟨false,(.sl dy),[(90,0)]⟩),(180,⟨true,oF,[(0,1),(1,1),(2,1),(3,1),(4,1),(5,1)]⟩),(190,⟨true,ko,[(0,1),(1,1),(2,1),(3,1),(4,1),(5,1),(6,1),(7,1),(8,1)]⟩),(192,⟨true,iG,[(0,1),(1,5),(6,1)]⟩),(204,⟨true,qm,[(0,1),(1,1),(2,1),(3,1),(4,1)]⟩),(234,⟨false,(.sl jF),[(238,0)]⟩),(238,⟨true,jF,[(0,1),(1,1)]⟩),(262,⟨true,TIp,[(0,1),(1,1),(2,1),(3,1),(4,1),(5,1),(6,1)]⟩),(265,⟨true,ac2,[(0,1),(1,1),(2,1),(3,1),(4,1)]⟩),(285,⟨false,(.sl jF),[(319,0)]⟩),(288,⟨false,(.sl oF),[(180,0)]⟩),(319,⟨true,jF,[(0,1),(1,1)]⟩),(334,⟨false,(.int .u32),[]⟩)],eqs:=[(90,[.int,.int,.int,.int,.int,.int,.int,.int,.int,.int,.int,.int,.int,.int,.int,.str]),(109,[.int,.int,.int,.int,.int,.int,.int,.int,.int,.int,.int,.int,.int,.int,.int,.str,.int,.int]),(132,[.int,.int,.int,.int,.int]),(134,[.int,.int,.int,.int,.int,.int,.str,.bool]),(180,[.int,.int,.int,.int,.int,.int])],fts:=[]}
theorem base:Sound Tryz.prog E zP.nil:=Sound.nil (UC (by kernel_rfl)) (UF (by kernel_rfl)) (UE (by kernel_rfl)) (by kernel_rfl)
structure SG where (g:zP) (s:Sound Tryz.prog E g)
def SG.add (S:SG){F:kH}(h:GV f F):SG:=⟨S.g.add f F,S.s.add h⟩
def G0:SG:=⟨zP.nil,base⟩
def SG.q0 (S:SG){fn:Func}(an:An)(hf:Tryz.prog.funcs[f]?=some fn)(s:ay PS)(rs:ay (Bool×FT))(F:Bu s->aC (lB rs))(hn:(fn.name== "runtime.NumGoroutine")=false:=by kernel_rfl)(hl:ji (fn.body.getD .skip)=[]:=by kernel_rfl)(gm:an.cut=[]:=by rfl)(hF:∀a,DY E S.g an mS.nil fn rs (me s a)=F a:=by intro a;kernel_rfl):SG:=S.add (iW.of (aaJ S.s hf hn (zO.of (Fn.hF hl nF) gm)) hF)
def SG.qk (S:SG){fn:Func}(an:An)(hf:Tryz.prog.funcs[f]?=some fn)(s:ay PS)(rs:ay (Bool×FT))(F:Bu s->aC (lB rs)){l:ay Code}(h:∀c∈l,yF E S.g an Λ c)(hn:(fn.name== "runtime.NumGoroutine")=false:=by kernel_rfl)(hl:ji (fn.body.getD .skip)=l:=by kernel_rfl)(gm:an.cut=[]:=by kernel_rfl)(hF:∀a,DY E S.g an Λ fn rs (me s a)=F a:=by intro a;kernel_rfl):SG:=S.add (iW.of (aaJ S.s hf hn (zO.of (Fn.hF hl h) gm)) hF)
def SG.q1 (S:SG){fn:Func}(an:An)(hf:Tryz.prog.funcs[f]?=some fn)(s:ay PS)(rs:ay (Bool×FT))(F:Bu s->aC (lB rs))(d:SD)(t:{R:Type}->SD.D d->(Ex->AS->aC R)->(σ->aC R)->σ->aC R)(i:SD.D d->σ)(w:SD.D d->σ->SD.D d)(h1:(mS.nil.add (fa (dj fn 0)) (Ao d t i)) (fa (dj fn 0))=Ao d t i:=by kernel_rfl)(h:∀(R:Type)(X:SD.D d)(K:wy R)(m:Nat)(x:σ),Bg (an.mask (fa (dj fn 0))) (den E S.g an (mS.nil.add (fa (dj fn 0)) (Ao d t i)) (dj fn 0)) (m+1) (SD.enc d (w X x)) K=t X K (λy=>Bg (an.mask (fa (dj fn 0))) (den E S.g an (mS.nil.add (fa (dj fn 0)) (Ao d t i)) (dj fn 0)) m (SD.enc d (w X y)) K) x:=by intro R X K m x;kernel_rfl)(hw:∀X,w X (i X)=X:=by intro X;kernel_rfl)(hn:(fn.name== "runtime.NumGoroutine")=false:=by kernel_rfl)(hl:ji (fn.body.getD .skip)=[dj fn 0]:=by kernel_rfl)(gm:an.cut=[]:=by kernel_rfl)(hF:∀a,DY E S.g an (mS.nil.add (fa (dj fn 0)) (Ao d t i)) fn rs (me s a)=F a:=by intro a;kernel_rfl):SG:=S.add (iW.of (aaJ S.s hf hn (zO.of (Fn.hF hl (cF (lk d t i w h1 h hw) nF)) gm)) hF)
def G6:=G0.q0 {} func6 [pd (.sl (.int .u8))] [rB] (c1 HO)
def G11:=G6.q0 {} func11 [pd (.sl (.int .u8)),pI] [rI] (c2 HN)
def e26:kH:=WY (.pair (.sl .arg (.int .u8)) (.pair (.int .i64) (.int .i64))) [pd (.sl (.int .u8))] λa=>Bq a.1
def n26:An:={mask:=mk [(3,[0,3,4])],merge:=mg [(3,15)]}
abbrev Zd:SD:=⟨du (md (.int .u8))::B::B::DI::DI::bs 27 [],zs 32 [],.none⟩
def aiB (X:SD.D Zd)(K:wy R):=Aw (λy0 y1=>ke 0 K Zd ((z1 (w y0 (u y1)) X.1),X.2)) X.1.1
def L26:mS:=mS.nil.add 3 (Ao Zd aiB (λX=>(X.1.2.1,q2 X)))
theorem alE:yF E G11.g n26 L26 (dj f26 0):=lk Zd aiB (λX=>(X.1.2.1,q2 X)) λX x=>((z1 (w x.1 (u x.2)) X.1),X.2)
theorem o26:GV 26 e26:=iW.alV (akX (Γ:=G11.g) (an:=n26) (Λ:=L26) (G11.s) func26 (by kernel_rfl) (ao (cF alE nF))) (λa=>by kernel_rfl)
def G26:=G11.add o26
def ao0:kH:=ka (.pair (.sl .ye (.int .u8)) (.pair (.int .i64) (.int .i64))) [] [rI] λx a=>kZ x
theorem apT:GV 124 ao0:=iW.qA (qn (an:={}) (Λ:=mS.nil) (G26.s) func124 (by kernel_rfl) (ao nF)) (λx a=>by kernel_rfl)
def aku:=G26.add apT
def e67:kH:=ka (.pair (.sl .ye (.int .u8)) (.pair (.int .i64) (.int .i64))) [pI] [rI] λx a=>cE x a.1
theorem o67:GV 67 e67:=iW.qA (qn (an:={}) (Λ:=mS.nil) (aku.s) func67 (by kernel_rfl) (ao nF)) (λx a=>by kernel_rfl)
def G67:=aku.add o67
def e65:kH:=ka (.pair (.sl .ye (.int .u8)) (.pair (.int .i64) (.int .i64))) [pI] [rB] λx a=>ix x a.1
theorem o65:GV 65 e65:=iW.qA (qn (an:={}) (Λ:=mS.nil) (G67.s) func65 (by kernel_rfl) (ao nF)) (λx a=>by kernel_rfl)
def G65:=G67.add o65
def e68:kH:=ka (.pair (.sl .ye (.int .u8)) (.pair (.int .i64) (.int .i64))) [pI] [rS] λx a=>mO x a.1
def n68:An:={mask:=mk [(5,[0,1,5,6])],mv:=[15]}
abbrev Zh:SD:=⟨.ptr 0 0::DI::B::B::B::du (dC 61440 (.int .u8))::DI::bs 16 [],(some Y8)::zs 22 [],.ptr⟩
def aiG (X:SD.D Zh)(K:wy R):=pF (λy0 y1 y2=>ke 0 K Zh ((z1 (w y0 (u y1)) X.1),(u y2 X.2.1),X.2.2)) X.1.1
def L68:mS:=mS.nil.add 5 (Ao Zh aiG (λX=>(X.1.2.1,q2 X,X.2.1.1)))
theorem alJ:yF E G65.g n68 L68 (dj f68 0):=lk Zh aiG (λX=>(X.1.2.1,q2 X,X.2.1.1)) λX x=>((z1 (w x.1 (u x.2.1)) X.1),(u x.2.2 X.2.1),X.2.2)
theorem o68:GV 68 e68:=iW.qA (qn (Γ:=G65.g) (an:=n68) (Λ:=L68) (G65.s) func68 (by kernel_rfl) (ao (cF alJ nF))) (λx a=>by kernel_rfl)
def G68:=G65.add o68
def e70:kH:=ka (.pair (.sl .ye (.int .u8)) (.pair (.int .i64) (.int .i64))) [pd (.sl (.int .i64))] [rI] λx a=>cL x a.1
theorem o70:GV 70 e70:=iW.qA (qn (an:={}) (Λ:=mS.nil) (G68.s) func70 (by kernel_rfl) (ao nF)) (λx a=>by kernel_rfl)
def G70:=G68.add o70
def ao1:kH:=ka (.pair (.sl .ye (.int .u8)) (.pair (.int .i64) (.int .i64))) [] [rI] λx a=>sm x
theorem apU:GV 125 ao1:=iW.qA (qn (an:={}) (Λ:=mS.nil) (G70.s) func125 (by kernel_rfl) (ao nF)) (λx a=>by kernel_rfl)
def akv:=G70.add apU
def ao6:kH:=ka (.pair (.sl .ye (.int .u8)) (.pair (.int .i64) (.int .i64))) [] [rI] λx a=>xD x
theorem apZ:GV 182 ao6:=iW.qA (qn (an:={}) (Λ:=mS.nil) (akv.s) func182 (by kernel_rfl) (ao nF)) (λx a=>by kernel_rfl)
def akz:=akv.add apZ
def ao2:kH:=ka (.pair (.sl .ye (.int .u8)) (.pair (.int .i64) (.int .i64))) [pI] [(true,(.pair (.int .i64) Y22))] λx a=>tV x a.1
theorem apV:GV 126 ao2:=iW.qA (qn (an:={}) (Λ:=mS.nil) (akz.s) func126 (by kernel_rfl) (ao nF)) (λx a=>by kernel_rfl)
def akw:=akz.add apV
def e69:kH:=ka (.pair (.sl .ye (.int .u8)) (.pair (.int .i64) (.int .i64))) [pI] [(true,Y2)] λx a=>lT x a.1
theorem o69:GV 69 e69:=iW.qA (qn (an:={}) (Λ:=mS.nil) (akw.s) func69 (by kernel_rfl) (ao nF)) (λx a=>by kernel_rfl)
def G69:=akw.add o69
def e63:kH:=ka (.pair (.sl .ye (.int .u8)) (.pair (.int .i64) (.int .i64))) [pI] [(false,(.sl (.own none) dy))] λx a=>zb x a.1
def ZQ:An:={mask:=mk [(5,[0,5,6,7,8]),(1000012,[0,5,6,7,8]),(1000013,[0,5,6,7,8]),(1000014,[0,5,6,7,8]),(1000015,[0,5,6,7,8]),(1000018,[0,5,6,7,8]),(1000019,[0,5,6,7,8]),(1000022,[0,5,6,7,8]),(1000023,[0,5,6,7,8]),(1000028,[0,5,6,7,8]),(1000029,[0,5,6,7,8]),(1000034,[0,5,6,7,8,64]),(1000035,[0,5,6,7,8])],cut:=[6,7,9,11,14,17],mv:=[47,76]}
abbrev DT:SD:=⟨.ptr 0 0::bs 4 (du (dC 61440 dy)::.ptr 6 0::DI::DI::bs 55 (DB::bs 12 [])),(some Y8)::zs 5 ((some Y2)::zs 70 []),.ptr⟩
abbrev Ro:SD:=⟨.ptr 0 0::bs 4 (du (dC 61440 dy)::.ptr 6 0::DI::DI::bs 68 []),(some Y8)::zs 5 ((some Y2)::zs 70 []),.ptr⟩
def KH (X:SD.D DT)(K:wy R):aC R:=wQ (λy0=>kn K Ro ((X.1.1,(X.1.2.1,(X.1.2.2.1,()))),(X.2.1.1,(y0,())),())) X.1.1 X.1.2.1 (q2 X) (q3 X) X.2.1.1 X.2.1.2.1
abbrev AX:SD:=⟨.ptr 0 0::bs 4 (du (dC 61440 dy)::.ptr 6 0::DI::DI::bs 68 []),(some Y8)::zs 5 ((some Y2)::zs 70 []),.ptr⟩
def KG (X:SD.D AX)(K:wy R):aC R:=ow (λy0 y1 y2=>kn K AX ((u y0 X.1),(w y1 (u y2) X.2.1),X.2.2)) X.1.1 X.1.2.1 (q2 X) X.2.1.1 X.2.1.2.1
abbrev AW:SD:=⟨.ptr 0 0::bs 4 (du (dC 61440 dy)::.ptr 6 0::DI::DI::bs 68 []),(some Y8)::zs 5 ((some Y2)::zs 70 []),.ptr⟩
def KF (X:SD.D AW)(K:wy R):aC R:=ov (λy0 y1 y2=>kn K AW ((u y0 X.1),(w y1 (u y2) X.2.1),X.2.2)) X.1.1 X.1.2.1 (q2 X) X.2.1.1 X.2.1.2.1
abbrev AU:SD:=⟨.ptr 0 0::bs 4 (du (dC 61440 dy)::.ptr 6 0::DI::DI::bs 68 []),(some Y8)::zs 5 ((some Y2)::zs 70 []),.ptr⟩
def KE (X:SD.D AU)(K:wy R):aC R:=pH (λy0 y1 y2 y3=>kn K AU ((w y0 (u y1) X.1),(w y2 (u y3) X.2.1),X.2.2)) X.1.1 X.1.2.1 (q2 X) X.2.1.1 X.2.1.2.1
abbrev AQ:SD:=⟨.ptr 0 0::bs 4 (du (dC 61440 dy)::.ptr 6 0::DI::DI::bs 68 []),(some Y8)::zs 5 ((some Y2)::zs 70 []),.ptr⟩
def KC (X:SD.D AQ)(K:wy R):aC R:=pG (λy0=>kn K AQ ((z2 (u y0) X.1),X.2)) X.1.1 X.1.2.1 (q2 X) X.2.1.1 X.2.1.2.1
abbrev AR:SD:=⟨.ptr 0 0::bs 4 (du (dC 61440 dy)::.ptr 6 0::DI::DI::bs 68 []),(some Y8)::zs 5 ((some Y2)::zs 70 []),.ptr⟩
def KD (X:SD.D AR)(K:wy R):aC R:=tW (λy0 y1 y2 y3 y4=>kn K AR ((w y0 (w y1 (u y2)) X.1),(w y3 (u y4) X.2.1),X.2.2)) X.1.1 X.1.2.1 (q2 X) X.2.1.1 X.2.1.2.1
abbrev Zg:SD:=⟨.ptr 0 0::bs 4 (du (dC 61440 dy)::.ptr 6 0::DI::DI::bs 68 []),(some Y8)::zs 5 ((some Y2)::zs 70 []),.ptr⟩
def aiF (X:SD.D Zg)(K:wy R):=yt (λy0 y1 y2 y3 y4=>ke 0 K Zg ((w y0 (w y1 (u y2)) X.1),(w y3 (u y4) X.2.1),X.2.2))
def L63:mS:=((((((mS.nil.add 1000034 (mkc DT KH)).add 1000028 (mkc AX KG)).add 1000022 (mkc AW KF)).add 1000018 (mkc AU KE)).add 1000012 (mkc AQ KC)).add 1000014 (mkc AR KD)).add 5 (Ao Zg aiF (λX=>(X.1.1,X.1.2.1,q2 X,X.2.1.1,X.2.1.2.1)))
theorem Uy:VU E G69.g ZQ L63 (uR ZQ.cut f63 4):=ck DT KH
theorem Ux:VU E G69.g ZQ L63 (uR ZQ.cut f63 3):=ck AX KG
theorem Uw:VU E G69.g ZQ L63 (uR ZQ.cut f63 2):=ck AW KF
theorem Uv:VU E G69.g ZQ L63 (uR ZQ.cut f63 1):=ck AU KE
theorem Ut:VU E G69.g ZQ L63 (uR ZQ.cut f63 5):=ck AQ KC
theorem Uu:VU E G69.g ZQ L63 (uR ZQ.cut f63 0):=ck AR KD
theorem alI:yF E G69.g ZQ L63 (dj f63 0):=lk Zg aiF (λX=>(X.1.1,X.1.2.1,q2 X,X.2.1.1,X.2.1.2.1)) λX x=>((w x.1 (w x.2.1 (u x.2.2.1)) X.1),(w x.2.2.2.1 (u x.2.2.2.2) X.2.1),X.2.2)
theorem o63:GV 63 e63:=iW.qA (qn (Γ:=G69.g) (an:=ZQ) (Λ:=L63) (G69.s) func63 (by kernel_rfl) (ac (cF alI nF) (cF Uu (cF Uv (cF Uw (cF Ux (cF Uy (cF Ut nF)))))))) (λx a=>by kernel_rfl)
def G63:=G69.add o63
def al9:=G63.q0 {merge:=mg [(1,6)]} func108 [pI,pI,pI] [rB] (c3 br)
def anM:=al9.q0 {merge:=mg [(1,18),(4,2),(5,2)]} func230 [pf BR] [rB] (c1 rm)
def am1:=anM.q0 {merge:=mg [(1,55),(3,3),(4,2)]} func176 [pf dy] [rB] (c1 si)
def aml:=am1.q0 {merge:=mg [(1,2)]} func120 [pf dy] [rB] (c1 tr)
def amn:=aml.q0 {merge:=mg [(1,6)]} func123 [pd .str,pI,pI] [rB] (c3 ou)
def G66:=amn.q0 {} func66 [pd .str,pI,pd .str] [rS] (c3 jk)
def anN:=G66.q0 {} func231 [pI] [rS] (c1 dA)
def anO:=anN.q0 {} func232 [pI] [rS] (c1 gD)
def anP:=anO.q0 {merge:=mg [(1,27)]} func233 [pI,pI,pI,pI] [rS,rB] (c4 mM)
def aoI:=anP.q0 {merge:=mg [(1,12)]} func294 [pI,pI] [rI] (c2 mL)
abbrev adH:SD:=⟨du .str::B::B::DI::DI::bs 28 [],zs 33 [],.none⟩
def aon:=aoI.q1 {mask:=mk [(3,[0,3,4])]} func272 [pd .str] [rI] (c1 xC) adH (λX K=>sg (λy0 y1=>ke 0 K adH ((z1 (w y0 (u y1)) X.1),X.2)) X.1.1) (λX=>(X.1.2.1,q2 X)) (λX x=>((z1 (w x.1 (u x.2)) X.1),X.2))
def anQ:=aon.q0 {} func234 [pd .str] [rI] (c1 pY)
def am2:=anQ.q0 {merge:=mg [(14,82)]} func177 [pI,pI,pf BR] [rS,rB] (c3 kz)
def aoo:=am2.q0 {merge:=mg [(1,2)]} func273 [pf TIp] [rB] (c1 Fs)
def anR:=aoo.q0 {} func235 [pf TIp] [rS,rB] (c1 xz)
def am3:=anR.q0 {} func178 [pf TIp] [rS,rB] (c1 vM)
def anS:=am3.q0 {merge:=mg [(1,2)]} func236 [pf ac2] [rB] (c1 wO)
def anT:=anS.q0 {} func237 [pI] [rS] (c1 iS)
def am4:=anT.q0 {} func179 [pf ac2] [rS,rB] (c1 xv)
abbrev adn:SD:=⟨DI::du (.int .u8)::B::B::B::du (dC 61440 (.int .u8))::DI::bs 13 [],zs 20 [],.none⟩
def amp:=am4.q1 {mask:=mk [(3,[0,1,5,6])]} func131 [pI,pd (.int .u8)] [rS] (c2 ju) adn (λX K=>pE (λy0 y1=>ke 0 K adn ((z2 (w y0 (u y1)) X.1),X.2)) X.1.1 X.1.2.1) (λX=>(q2 X,q3 X)) (λX x=>((z2 (w x.1 (u x.2)) X.1),X.2))
def am5:=amp.q0 {} func180 [pd .str] [rS] (c1 yW)
def aiN:=am5.q0 {} func121 [pf dy] [rS,rB] (c1 tP)
def aj0:An:={mask:=mk [(3,[0,3,4]),(7,[0,3,4,5])]}
abbrev Rc:SD:=⟨du .str::B::B::DI::DI::DI::bs 26 [],zs 32 [],.none⟩
def afS (X:SD.D Rc)(K:wy R):=pZ (λy0 y1=>ke 2 K Rc ((z1 (w y0 (z1 (u y1))) X.1),X.2)) X.1.1 (q2 X)
abbrev Rb:SD:=⟨du .str::B::B::DI::DI::bs 27 [],zs 32 [],.none⟩
def afR (X:SD.D Rb)(K:wy R):=tj (λy0 y1=>ke 0 K Rb ((z1 (w y0 (u y1)) X.1),X.2)) X.1.1
def akH:mS:=(mS.nil.add 7 (Ao Rc afS (λX=>(X.1.2.1,q3 X)))).add 3 (Ao Rb afR (λX=>(X.1.2.1,q2 X)))
theorem ajH:yF E aiN.g aj0 akH (dj f181 1):=lk Rc afS (λX=>(X.1.2.1,q3 X)) λX x=>((z1 (w x.1 (z1 (u x.2))) X.1),X.2)
theorem ajG:yF E aiN.g aj0 akH (dj f181 0):=lk Rb afR (λX=>(X.1.2.1,q2 X)) λX x=>((z1 (w x.1 (u x.2)) X.1),X.2)
def am6:=aiN.qk aj0 func181 [pd .str] [rI] (c1 C9) (cF ajG (cF ajH nF))
def amm:=am6.q0 {} func122 [pd .str] [rS] (c1 vU)
def G64:=amm.q0 {} func64 [pf dy] [rS,rB] (c1 tO)
def e27:kH:=ka (.pair (.sl .ye (.int .u8)) (.pair (.int .i64) (.int .i64))) [pd .bool] [(false,(.sl (.own none) BQ))] λx a=>zw x a.1
def n27:An:={mask:=mk [(4,[0,1,5,6,7]),(1000010,[0,1,5,6,7]),(1000011,[0,1,5,6,7]),(1000012,[0,1,5,6,7]),(1000013,[0,1,5,6,7]),(1000018,[0,1,5,6,7,8]),(1000019,[0,1,5,6,7]),(1000030,[0,1,5,6,7,43,50]),(1000031,[0,1,5,6,7]),(1000038,[0,1,5,6,7,43,57]),(1000039,[0,1,5,6,7])],cut:=[5,6,9,15,19],mv:=[37,46,53,61,70,84,91,95]}
abbrev DS:SD:=⟨.ptr 0 0::DB::B::B::B::du (dC 61440 BQ)::du (dC 73728 dy)::DI::bs 35 (DI::bs 13 (DB::bs 38 [])),(some Y8)::zs 95 [],.ptr⟩
abbrev Rl:SD:=⟨.ptr 0 0::DB::B::B::B::du (dC 61440 BQ)::du (dC 73728 dy)::DI::bs 88 [],(some Y8)::zs 95 [],.ptr⟩
def KB (X:SD.D DS)(K:wy R):aC R:=lD (λy0 y1=>kn K Rl ((X.1.1,(y0,(X.1.2.2.1,(X.1.2.2.2.1,())))),(y1,()),())) X.1.1 X.1.2.1 (q2 X) (q3 X) (q4 X) (q5 X) X.2.1.1
abbrev DR:SD:=⟨.ptr 0 0::DB::B::B::B::du (dC 61440 BQ)::du (dC 73728 dy)::DI::bs 35 (DI::bs 6 (DB::bs 45 [])),(some Y8)::zs 95 [],.ptr⟩
abbrev Rk:SD:=⟨.ptr 0 0::DB::B::B::B::du (dC 61440 BQ)::du (dC 73728 dy)::DI::bs 88 [],(some Y8)::zs 95 [],.ptr⟩
def KA (X:SD.D DR)(K:wy R):aC R:=oy (λy0 y1=>kn K Rk ((X.1.1,(y0,(X.1.2.2.1,(X.1.2.2.2.1,())))),(y1,()),())) X.1.1 X.1.2.1 (q2 X) (q3 X) (q4 X) (q5 X) X.2.1.1
abbrev DQ:SD:=⟨.ptr 0 0::DB::B::B::B::du (dC 61440 BQ)::du (dC 73728 dy)::DI::du .str::bs 87 [],(some Y8)::zs 95 [],.ptr⟩
abbrev Rj:SD:=⟨.ptr 0 0::DB::B::B::B::du (dC 61440 BQ)::du (dC 73728 dy)::DI::bs 88 [],(some Y8)::zs 95 [],.ptr⟩
def Kz (X:SD.D DQ)(K:wy R):aC R:=pL (λy0 y1=>kn K Rj ((X.1.1,(y0,(X.1.2.2.1,(X.1.2.2.2.1,())))),(y1,()),())) X.1.1 X.1.2.1 (q2 X) (q3 X) (q4 X) X.2.1.1
abbrev AO:SD:=⟨.ptr 0 0::DB::B::B::B::du (dC 61440 BQ)::du (dC 73728 dy)::DI::bs 88 [],(some Y8)::zs 95 [],.ptr⟩
def Kx (X:SD.D AO)(K:wy R):aC R:=pK (λy0=>kn K AO ((z3 (u y0) X.1),X.2)) X.1.1 X.1.2.1 (q2 X) (q3 X) X.2.1.1
abbrev AP:SD:=⟨.ptr 0 0::DB::B::B::B::du (dC 61440 BQ)::du (dC 73728 dy)::DI::bs 88 [],(some Y8)::zs 95 [],.ptr⟩
def Ky (X:SD.D AP)(K:wy R):aC R:=tY (λy0 y1 y2=>kn K AP ((z1 (w y0 (z1 (u y1))) X.1),(u y2 X.2.1),X.2.2)) X.1.1 X.1.2.1 (q2 X) (q3 X) X.2.1.1
abbrev Ze:SD:=⟨.ptr 0 0::DB::B::B::B::du (dC 61440 BQ)::du (dC 73728 dy)::DI::bs 88 [],(some Y8)::zs 95 [],.ptr⟩
def aiC (X:SD.D Ze)(K:wy R):=yx (λy0 y1 y2=>ke 0 K Ze ((z1 (w y0 (z1 (u y1))) X.1),(u y2 X.2.1),X.2.2)) X.1.1 (q2 X)
def L27:mS:=(((((mS.nil.add 1000038 (mkc DS KB)).add 1000030 (mkc DR KA)).add 1000018 (mkc DQ Kz)).add 1000010 (mkc AO Kx)).add 1000012 (mkc AP Ky)).add 4 (Ao Ze aiC (λX=>(X.1.2.1,q3 X,X.2.1.1)))
theorem Us:VU E G64.g n27 L27 (uR n27.cut f27 3):=ck DS KB
theorem Ur:VU E G64.g n27 L27 (uR n27.cut f27 2):=ck DR KA
theorem Uq:VU E G64.g n27 L27 (uR n27.cut f27 1):=ck DQ Kz
theorem Uo:VU E G64.g n27 L27 (uR n27.cut f27 4):=ck AO Kx
theorem Up:VU E G64.g n27 L27 (uR n27.cut f27 0):=ck AP Ky
theorem alF:yF E G64.g n27 L27 (dj f27 0):=lk Ze aiC (λX=>(X.1.2.1,q3 X,X.2.1.1)) λX x=>((z1 (w x.1 (z1 (u x.2.1))) X.1),(u x.2.2 X.2.1),X.2.2)
theorem o27:GV 27 e27:=iW.qA (qn (Γ:=G64.g) (an:=n27) (Λ:=L27) (G64.s) func27 (by kernel_rfl) (ac (cF alF nF) (cF Up (cF Uq (cF Ur (cF Us (cF Uo nF))))))) (λx a=>by kernel_rfl)
def G27:=G64.add o27
def aky:=G27.q0 {} func130 [] [(true,(.sl (.own none) iG))] (λa=>nb)
def apd:kH:=ka (.pair (.sl .ye (.int .u8)) (.pair (.int .i64) (.int .i64))) [] [rS] λx a=>Br x
theorem ap6:GV 238 apd:=iW.qA (qn (an:={}) (Λ:=mS.nil) (aky.s) func238 (by kernel_rfl) (ao nF)) (λx a=>by kernel_rfl)
def agk:=aky.add ap6
def ao7:kH:=ka (.pair (.sl .ye (.int .u8)) (.pair (.int .i64) (.int .i64))) [] [(true,(.pair .str (.sl (.own none) (.int .i64)))),rI] λx a=>vV x
def alR:An:={mask:=mk [(4,[0,2,4,5,6])],mv:=[21,28],mb:=mg [(21,5)],sb:=mg [(22,0),(27,5)]}
abbrev Rd:SD:=⟨.ptr 0 0::B::.ptr 2 0::B::DI::.ptr 5 0::DI::bs 23 [],(some Y8)::Z::(sB (cS .str (dC 24580 (.int .i64))))::Z::Z::(sB (cS .str (dC 61444 (.int .i64))))::zs 24 [],.ptr⟩
def afT (X:SD.D Rd)(K:wy R):=vW (λy0 y1 y2=>ke 0 K Rd ((z1 (u y0) X.1),(w y1 (z1 (u y2)) X.2.1),X.2.2)) X.1.1 X.2.1.2.1
def akI:mS:=mS.nil.add 4 (Ao Rd afT (λX=>(X.1.2.1,X.2.1.1,X.2.1.2.2.1)))
theorem ajI:yF E agk.g alR akI (dj f183 0):=lk Rd afT (λX=>(X.1.2.1,X.2.1.1,X.2.1.2.2.1)) λX x=>((z1 (u x.1) X.1),(w x.2.1 (z1 (u x.2.2)) X.2.1),X.2.2)
theorem ap0:GV 183 ao7:=iW.qA (qn (Γ:=agk.g) (an:=alR) (Λ:=akI) (agk.s) func183 (by kernel_rfl) (ao (cF ajI nF))) (λx a=>by kernel_rfl)
def akA:=agk.add ap0
def ape:kH:=ka (.pair (.sl .ye (.int .u8)) (.pair (.int .i64) (.int .i64))) [] [(true,(.pair (.int .i64) (.pair (.int .i64) (.pair (.int .i64) (.pair (.int .i64) (.pair (.int .i64) Y1))))))] λx a=>zj x
theorem ap7:GV 239 ape:=iW.qA (qn (an:={}) (Λ:=mS.nil) (akA.s) func239 (by kernel_rfl) (ao nF)) (λx a=>by kernel_rfl)
def agl:=akA.add ap7
def ao8:kH:=ka (.pair (.sl .ye (.int .u8)) (.pair (.int .i64) (.int .i64))) [] [(false,(.sl (.own none) ko))] λx a=>xE x
def alS:An:={mask:=mk [(3,[0,3,4])],mv:=[12,17]}
abbrev Re:SD:=⟨.ptr 0 0::B::B::du (dC 36864 ko)::DI::bs 13 [],(some Y8)::zs 17 [],.ptr⟩
def afU (X:SD.D Re)(K:wy R):=wR (λy0 y1 y2=>ke 0 K Re ((w y0 (u y1) X.1),(u y2 X.2.1),X.2.2))
def akJ:mS:=mS.nil.add 3 (Ao Re afU (λX=>(X.1.1,X.1.2.1,X.2.1.1)))
theorem ajJ:yF E agl.g alS akJ (dj f184 0):=lk Re afU (λX=>(X.1.1,X.1.2.1,X.2.1.1)) λX x=>((w x.1 (u x.2.1) X.1),(u x.2.2 X.2.1),X.2.2)
theorem ap1:GV 184 ao8:=iW.qA (qn (Γ:=agl.g) (an:=alS) (Λ:=akJ) (agl.s) func184 (by kernel_rfl) (ao (cF ajJ nF))) (λx a=>by kernel_rfl)
def am7:=agl.add ap1
def anU:=am7.q0 {} func240 [pf (.sl iG)] [(true,(.sl (.own none) iG))] (c1 vX)
abbrev adA:SD:=⟨B::B::B::DI::du (dC 49152 (.int .i64))::DI::bs 26 [],zs 32 [],.none⟩
def anX:=anU.q1 {mask:=mk [(4,[3,4,5])]} func243 [pf qm] [rI] (c1 tp) adA (λX K=>ot (λy0 y1=>ke 0 K adA ((w y0 (z1 (u y1)) X.1),X.2)) X.1.2.1) (λX=>(X.1.1,q2 X)) (λX x=>((w x.1 (z1 (u x.2)) X.1),X.2))
abbrev WK:SD:=⟨B::B::.ptr 2 0::.ptr 3 0::DI::DI::bs 35 [],Z::Z::(sB (md iG))::(sB (cS Bt Y1))::zs 37 [],.none⟩
def anW:=anX.q1 {mask:=mk [(2,[2,3,4,5])],merge:=mg [(7,39)]} func242 [pf (.sl iG),pf qm] [rI] (c2 vY) WK (λX K=>pJ (λy0=>ke 0 K WK ((z1 (u y0) X.1),X.2)) (λy0 y1=>kr K WK ((w y0 (u y1) X.1),X.2)) X.1.1 X.2.1.1 X.2.1.2.1) (λX=>X.1.2.1) (λX x=>((z1 (u x) X.1),X.2))
abbrev WJ:SD:=⟨B::.ptr 1 0::DB::DI::bs 45 [],Z::(sB (md iG))::zs 47 [],.none⟩
def anV:=anW.q1 {mask:=mk [(4,[1,2,3])],merge:=mg [(7,30),(10,42)]} func241 [pf (.sl iG)] [rB] (c1 vT) WJ (λX K=>tU (λy0=>ke 0 K WJ ((z1 (u y0) X.1),X.2)) (λy0 y1=>kr K WJ ((w y0 (u y1) X.1),X.2)) X.1.1 X.2.1.1) (λX=>X.1.2.1) (λX x=>((z1 (u x) X.1),X.2))
abbrev ads:SD:=⟨B::B::DI::.ptr 3 0::.ptr 4 0::B::.ptr 6 0::B::.ptr 8 0::DI::DI::bs 47 [],Z::Z::Z::(sB (md iG))::(sB (cS Bt Y1))::Z::(sB (dC 73729 iG))::Z::(sB (dC 98305 iG))::zs 49 [],.none⟩
def akB:=anV.q1 {mask:=mk [(6,[2,3,4,6,8,9,10])],merge:=mg [(2,21),(6,31)],mv:=[22,49,57]} func185 [pf (.sl iG),pf qm,pI] [(true,(.sl (.own none) iG)),rB] (c3 yY) ads (λX K=>yq (λy0 y1=>ke 0 K ads ((z1 (w y0 (u y1)) X.1),X.2)) X.1.1 X.2.1.1 X.2.1.2.1 X.2.1.2.2.1 X.2.1.2.2.2.1) (λX=>(X.1.2.1,q2 X)) (λX x=>((z1 (w x.1 (u x.2)) X.1),X.2))
def ao9:kH:=ka (.pair (.sl .ye (.int .u8)) (.pair (.int .i64) (.int .i64))) [] [(true,(.pair (.int .i64) Y1))] λx a=>zg x
theorem ap2:GV 186 ao9:=iW.qA (qn (an:={}) (Λ:=mS.nil) (akB.s) func186 (by kernel_rfl) (ao nF)) (λx a=>by kernel_rfl)
def acX:=akB.add ap2
def ao3:kH:=ka (.pair (.sl .ye (.int .u8)) (.pair (.int .i64) (.int .i64))) [] [(true,Y20),rI] λx a=>sn x
def ajY:An:={mask:=mk [(7,[0,2,4,6,7]),(11,[0,2,4,6,8])],mv:=[11,16,49,58,61],sb:=mg [(52,0),(54,0),(60,4)]}
abbrev Q7:SD:=⟨.ptr 0 0::B::.ptr 2 0::B::.ptr 4 0::B::DI::DI::bs 55 [],(some Y8)::Z::(some Y24)::Z::(some Y17)::zs 58 [],.ptr⟩
def afN (X:SD.D Q7)(K:wy R):=kP (λy0 y1=>ke 0 K Q7 ((z1 (u y0) X.1),(z2 (u y1) X.2.1),X.2.2)) X.1.1 X.2.1.1 X.2.1.2.1
abbrev K9:SD:=⟨.ptr 0 0::B::.ptr 2 0::B::.ptr 4 0::B::DI::B::DI::bs 54 [],(some Y8)::Z::(some Y24)::Z::(some Y17)::zs 58 [],.ptr⟩
def aaa (X:SD.D K9)(K:wy R):=jg (λy0 y1 y2=>ke 2 K K9 ((z1 (u y0) X.1),(w y1 (z1 (u y2)) X.2.1),X.2.2)) X.1.1 X.2.1.2.1
def aiU:mS:=(mS.nil.add 7 (Ao Q7 afN (λX=>(X.1.2.1,X.2.1.2.2.1)))).add 11 (Ao K9 aaa (λX=>(X.1.2.1,X.2.1.1,X.2.1.2.2.1)))
theorem ajC:yF E acX.g ajY aiU (dj f127 0):=lk Q7 afN (λX=>(X.1.2.1,X.2.1.2.2.1)) λX x=>((z1 (u x.1) X.1),(z2 (u x.2) X.2.1),X.2.2)
theorem ag9:yF E acX.g ajY aiU (dj f127 1):=lk K9 aaa (λX=>(X.1.2.1,X.2.1.1,X.2.1.2.2.1)) λX x=>((z1 (u x.1) X.1),(w x.2.1 (z1 (u x.2.2)) X.2.1),X.2.2)
theorem apW:GV 127 ao3:=iW.qA (qn (Γ:=acX.g) (an:=ajY) (Λ:=aiU) (acX.s) func127 (by kernel_rfl) (ao (cF ajC (cF ag9 nF)))) (λx a=>by kernel_rfl)
def amo:=acX.add apW
def ama:=amo.q0 {merge:=mg [(1,2)]} func109 [pf gG] [rB] (c1 uF)
def G55:=ama.q0 {merge:=mg [(1,24),(3,2)]} func55 [pf gG] [rB] (c1 nf)
def G20:=G55.q0 {} func20 [pI,pI] [(true,Y13),rB] (c2 rl)
abbrev WC:SD:=⟨B::.ptr 1 0::DB::DI::bs 41 [],Z::(some Y27)::zs 43 [],.none⟩
def am8:=G20.q1 {mask:=mk [(2,[1,2,3])],merge:=mg [(4,35),(6,2)]} func187 [pf AJ] [rB] (c1 xy) WC (λX K=>rY (λy0=>ke 0 K WC ((z1 (u y0) X.1),X.2)) (λy0 y1=>kr K WC ((w y0 (u y1) X.1),X.2)) X.1.1 X.2.1.1) (λX=>X.1.2.1) (λX x=>((z1 (u x) X.1),X.2))
def aop:=am8.q0 {merge:=mg [(1,33),(3,54),(5,2)]} func274 [pf ko] [rB] (c1 mN)
abbrev WL:SD:=⟨du (md ko)::B::DB::DI::bs 15 [],zs 19 [],.none⟩
def anY:=aop.q1 {mask:=mk [(2,[0,2,3])]} func244 [pd (.sl ko)] [rB] (c1 za) WL (λX K=>tS (λy0=>ke 0 K WL ((z2 (u y0) X.1),X.2)) (λy0 y1=>kr K WL ((z1 (w y0 (u y1)) X.1),X.2)) X.1.1 X.1.2.1) q2 (λX x=>((z2 (u x) X.1),X.2))
def aoq:=anY.q0 {merge:=mg [(1,2)]} func275 [pI] [rB] (c1 zh)
abbrev WM:SD:=⟨B::DI::.ptr 2 0::B::DB::DI::bs 32 [],Z::Z::(sB (cS .str (md (.int .i64))))::zs 35 [],.none⟩
def aiS:=aoq.q1 {mask:=mk [(4,[1,2,4,5])],merge:=mg [(1,21)]} func245 [pf EZ,pI] [rB] (c2 xB) WM (λX K=>sc (λy0=>ke 0 K WM ((z2 (u y0) X.1),X.2)) (λy0 y1=>kr K WM ((z1 (w y0 (u y1)) X.1),X.2)) X.1.1 X.1.2.1 X.2.1.1) q2 (λX x=>((z2 (u x) X.1),X.2))
def aj1:An:={mask:=mk [(4,[1,2,4,5]),(9,[1,2,4,6])],merge:=mg [(1,23)]}
abbrev LU:SD:=⟨B::DI::.ptr 2 0::B::DB::DI::bs 50 [],Z::Z::(some Y19)::zs 53 [],.none⟩
def afV (X:SD.D LU)(K:wy R):=ph (λy0=>ke 0 K LU ((z2 (u y0) X.1),X.2)) (λy0 y1=>kr K LU ((z1 (w y0 (u y1)) X.1),X.2)) X.1.1 X.1.2.1 X.2.1.1
abbrev LV:SD:=⟨B::DI::.ptr 2 0::B::DB::B::DI::bs 49 [],Z::Z::(some Y19)::zs 53 [],.none⟩
def afW (X:SD.D LV)(K:wy R):=pj (λy0=>ke 2 K LV ((z2 (u y0) X.1),X.2)) (λy0 y1=>kr K LV ((z1 (w y0 (u y1)) X.1),X.2)) X.1.1 X.1.2.1 X.2.1.1
def akK:mS:=(mS.nil.add 4 (Ao LU afV q2)).add 9 (Ao LV afW q2)
theorem ajK:yF E aiS.g aj1 akK (dj f188 0):=lk LU afV q2 λX x=>((z2 (u x) X.1),X.2)
theorem ajL:yF E aiS.g aj1 akK (dj f188 1):=lk LV afW q2 λX x=>((z2 (u x) X.1),X.2)
def am9:=aiS.qk aj1 func188 [pf uj,pI] [rB] (c2 tT) (cF ajK (cF ajL nF))
abbrev adt:SD:=⟨DI::B::.ptr 2 0::.ptr 3 0::DI::bs 17 [],Z::Z::(sB (dC 24577 .str))::(sB (dC 36865 .str))::zs 18 [],.none⟩
def ana:=am9.q1 {mask:=mk [(3,[0,2,3,4])],merge:=mg [(3,12)],mv:=[16,21],mb:=mg [(16,3)],sb:=mg [(20,3)]} func189 [pI] [(true,(.sl (.own none) .str))] (c1 rk) adt (λX K=>qE (λy0 y1=>ke 0 K adt ((z1 (u y0) X.1),(z1 (u y1) X.2.1),X.2.2)) X.1.1 X.2.1.1) (λX=>(X.1.2.1,X.2.1.2.1)) (λX x=>((z1 (u x.1) X.1),(z1 (u x.2) X.2.1),X.2.2))
abbrev WO:SD:=⟨B::.ptr 1 0::DB::du (dC 36864 .bool)::DI::bs 53 [],Z::(some Y14)::zs 56 [],.none⟩
def aor:=ana.q1 {mask:=mk [(5,[1,2,3,4])],merge:=mg [(1,20),(7,50)]} func276 [pf jM] [rB] (c1 uD) WO (λX K=>vQ (λy0 y1=>ke 0 K WO ((z1 (w y0 (u y1)) X.1),X.2)) (λy0 y1 y2=>kr K WO ((w y0 (w y1 (u y2)) X.1),X.2)) X.1.1 X.2.1.1) (λX=>(X.1.2.1,q2 X)) (λX x=>((z1 (w x.1 (u x.2)) X.1),X.2))
abbrev adB:SD:=⟨B::B::DI::B::B::B::.ptr 6 0::B::.ptr 8 0::DI::bs 24 [],zs 6 ((some Y31)::Z::(some Y30)::zs 25 []),.none⟩
def anZ:=aor.q1 {mask:=mk [(3,[2,6,8,9])],merge:=mg [(3,20)],mv:=[24,33]} func246 [pI,pI,pI] [(true,Y9),rB] (c3 vP) adB (λX K=>pD (λy0 y1=>ke 0 K adB ((z1 (u y0) X.1),(z1 (u y1) X.2.1),X.2.2)) X.1.1 X.2.1.1) (λX=>(X.1.2.1,X.2.1.2.1)) (λX x=>((z1 (u x.1) X.1),(z1 (u x.2) X.2.1),X.2.2))
def anb:=anZ.q0 {mv:=[4,9]} func190 [] [(true,Y18)] (λa=>xG)
def anc:=anb.q0 {sb:=mg [(2,2)]} func191 [pf AJ] [(true,Y25)] (c1 zu)
def ane:=anc.q0 {sb:=mg [(2,2)]} func192 [pf uj] [(true,Y20)] (c1 zk)
def aiT:=ane.q0 {} func278 [pf (.sl .str)] [(true,(.sl (.own none) .str))] (c1 mP)
def aj5:An:={mask:=mk [(4,[0,2,3]),(10,[0,2,3,4,5])],merge:=mg [(7,34),(12,57)]}
abbrev G8:SD:=⟨du (md bP)::B::DB::DI::.ptr 4 0::DI::bs 52 [],zs 4 ((sB (jV (jV (jV .bool))))::zs 53 []),.none⟩
def aae (X:SD.D G8)(K:wy R):=nE (λy0=>ke 2 K G8 ((z3 (u y0) X.1),X.2)) (λy0 y1=>kr K G8 ((z1 (w y0 (z1 (u y1))) X.1),X.2)) X.1.1 X.1.2.1 (q2 X) X.2.1.1
abbrev LX:SD:=⟨du (md bP)::B::DB::DI::bs 54 [],zs 58 [],.none⟩
def af3 (X:SD.D LX)(K:wy R):=pe (λy0=>ke 0 K LX ((z2 (u y0) X.1),X.2)) (λy0 y1=>kr K LX ((z1 (w y0 (u y1)) X.1),X.2)) X.1.1 X.1.2.1
def akO:mS:=(mS.nil.add 10 (Ao G8 aae q3)).add 4 (Ao LX af3 q2)
theorem ahd:yF E aiT.g aj5 akO (dj f303 1):=lk G8 aae q3 λX x=>((z3 (u x) X.1),X.2)
theorem ajS:yF E aiT.g aj5 akO (dj f303 0):=lk LX af3 q2 λX x=>((z2 (u x) X.1),X.2)
def aoR:=aiT.qk aj5 func303 [pd (.sl bP)] [rB] (c1 tR) (cF ajS (cF ahd nF))
abbrev WR:SD:=⟨B::.ptr 1 0::DB::DI::bs 18 [],Z::(sB (md .str))::zs 20 [],.none⟩
def aoS:=aoR.q1 {mask:=mk [(2,[1,2,3])]} func304 [pf (.sl .str)] [rB] (c1 tq) WR (λX K=>rZ (λy0=>ke 0 K WR ((z1 (u y0) X.1),X.2)) (λy0 y1=>kr K WR ((w y0 (u y1) X.1),X.2)) X.1.1 X.2.1.1) (λX=>X.1.2.1) (λX x=>((z1 (u x) X.1),X.2))
abbrev WS:SD:=⟨du (md bP)::DI::DI::DB::bs 4 (DI::DI::bs 38 []),zs 48 [],.none⟩
def aoT:=aoS.q1 {mask:=mk [(2,[0,1,2,3,8,9])],merge:=mg [(4,42)]} func305 [pd (.sl bP),pI,pI,pd .bool] [rI] (c4 zl) WS (λX K=>tX (λy0=>ke 0 K WS ((z5 (u y0) X.1),X.2)) (λy0 y1=>kr K WS ((z4 (w y0 (u y1)) X.1),X.2)) X.1.1 X.1.2.1 (q2 X) (q3 X) (q4 X)) q5 (λX x=>((z5 (u x) X.1),X.2))
def aoU:=aoT.q0 {merge:=mg [(2,6)]} func306 [pf (.sl .str),pI,pI] [rB] (c3 ox)
abbrev WQ:SD:=⟨du (md bP)::B::DI::DI::DI::DB::B::.ptr 7 0::bs 4 (du (dC 147456 (.int .i64))::du (dC 159744 (.int .i64))::DB::du (dC 184320 (.int .i64))::du (dC 196608 (.int .i64))::bs 66 []),zs 7 ((sB (md .str))::zs 75 []),.none⟩
def aoJ:=aoU.q1 {mask:=mk [(5,[0,2,3,4,5,7,12,13,14,15,16])],merge:=mg [(3,34),(10,57)],mv:=[35,36,64,71,81,82]} func295 [pd (.sl bP),pf (.sl .str),pI,pI,pI,pd .bool] [(false,(.sl (.own none) (.int .i64))),(false,(.sl (.own none) (.int .i64))),rB] (c6 xF) WQ (λX K=>lC (λy0 y1 y2 y3=>ke 0 K WQ ((z2 (w y0 (w y1 (z4 (w y2 (u y3))))) X.1),X.2)) (λy0 y1 y2 y3 y4 y5 y6=>kr K WQ ((z2 (w y0 (w y1 (z1 (w y2 (w y3 (w y4 (w y5 (u y6)))))))) X.1),X.2)) X.1.1 X.1.2.1 (q4 X) (q5 X) (q6 X) (q7 X) X.2.1.1) (λX=>(q2 X,q3 X,q8 X,q9 X)) (λX x=>((z2 (w x.1 (w x.2.1 (z4 (w x.2.2.1 (u x.2.2.2))))) X.1),X.2))
abbrev adL:SD:=⟨B::DI::du .str::B::B::B::.ptr 6 0::B::.ptr 8 0::bs 44 [],zs 6 ((sB (dC 73729 .str))::Z::(sB (dC 98305 .str))::zs 44 []),.none⟩
def aoK:=aoJ.q1 {mask:=mk [(4,[1,2,6,8])],mv:=[19,52]} func296 [pf (.sl .str),pI,pd .str] [(true,(.sl (.own none) .str)),rB] (c3 sk) adL (λX K=>nH (λy0 y1 y2=>ke 0 K adL ((w y0 (u y1) X.1),(z1 (u y2) X.2.1),X.2.2)) X.2.1.1) (λX=>(X.1.1,X.1.2.1,X.2.1.2.1)) (λX x=>((w x.1 (u x.2.1) X.1),(z1 (u x.2.2) X.2.1),X.2.2))
abbrev adI:SD:=⟨bs 4 (du .str::bs 5 (.ptr 10 0::B::du (.sl .loc (.int .i64))::du (.sl .loc (.int .i64))::B::.ptr 15 0::DI::bs 44 [])),zs 10 ((sB (dC 122881 .str))::zs 4 ((sB (dC 184321 .str))::zs 45 [])),.none⟩
def aos:=aoK.q1 {mask:=mk [(6,[4,10,12,13,15,16])],mv:=[32,39,52,60],sb:=mg [(15,15)]} func277 [pd (.sl bP),pf (.sl .str),pI,pI,pd .str] [(true,(.sl (.own none) .str)),rB] (c5 tn) adI (λX K=>oo (λy0 y1 y2=>ke 0 K adI ((w y0 (z2 (u y1)) X.1),(z1 (u y2) X.2.1),X.2.2)) X.1.2.1 (q2 X) X.2.1.1) (λX=>(X.1.1,q3 X,X.2.1.2.1)) (λX x=>((w x.1 (z2 (u x.2.1)) X.1),(z1 (u x.2.2) X.2.1),X.2.2))
abbrev adC:SD:=⟨du (md bP)::B::DI::DI::du .str::B::.ptr 6 0::B::B::B::.ptr 10 0::B::du (dC 147456 bP)::DI::bs 25 [],zs 6 ((sB (md .str))::Z::Z::Z::(sB (dC 122881 .str))::zs 28 []),.none⟩
def an0:=aos.q1 {mask:=mk [(3,[0,2,3,4,6,10,12,13])],mv:=[27]} func247 [pd (.sl bP),pf (.sl .str),pI,pI,pd .str] [(true,(.sl (.own none) .str)),rB] (c5 vN) adC (λX K=>qD (λy0 y1=>ke 0 K adC ((z4 (w y0 (u y1)) X.1),X.2)) X.1.1 X.1.2.1 (q2 X) (q3 X) X.2.1.1 X.2.1.2.1) (λX=>(q4 X,q5 X)) (λX x=>((z4 (w x.1 (u x.2)) X.1),X.2))
def aot:=an0.q0 {sb:=mg [(2,2)]} func279 [pf jM] [(true,Y9)] (c1 zn)
def aoL:=aot.q0 {merge:=mg [(1,2)]} func297 [pI] [rB] (c1 vZ)
def aoM:=aoL.q0 {} func298 [pf ui] [rI] (c1 tu)
def aou:=aoM.q0 {merge:=mg [(1,2)]} func280 [pf ui] [rB] (c1 uE)
def aov:=aou.q0 {} func281 [pf ui] [rI] (c1 tt)
def aoN:=aov.q0 {merge:=mg [(1,11)]} func299 [pf ui,pI] [rI] (c2 sa)
def aow:=aoN.q0 {merge:=mg [(1,22)],mv:=[26,36,51],mb:=mg [(51,13)],sb:=mg [(10,10),(11,11),(13,13)]} func282 [pd (.sl bP),pf (.sl .str),pI,pf ui,pd .str] [(true,(.sl (.own none) .str)),(true,Y1),rB] (c5 yZ)
def aoO:=aow.q0 {merge:=mg [(1,2)]} func300 [pf oF] [rB] (c1 Bp)
def aox:=aoO.q0 {} func283 [pf oF] [rS] (c1 tQ)
def aoy:=aox.q0 {merge:=mg [(1,15)]} func284 [pf jM,pI] [rI] (c2 oZ)
abbrev adD:SD:=⟨du (md bP)::B::DI::bs 5 (.ptr 8 0::.ptr 9 0::.ptr 10 0::.ptr 11 0::.ptr 12 0::B::.ptr 14 0::.ptr 15 0::DI::bs 65 []),zs 8 ((some Y1)::(some Y14)::(sB (dC 122881 .str))::(some Y1)::(some Y29)::Z::(sB (dC 172033 .str))::(some Y28)::zs 66 []),.none⟩
def akD:=aoy.q1 {mask:=mk [(6,[0,2,8,9,10,11,12,14,15,16])],merge:=mg [(4,32),(6,44)],mv:=[33,35,49,63,68,78,80],mb:=mg [(33,14),(35,15),(78,14),(80,15)],sb:=mg [(10,10),(11,11),(12,12),(18,18),(19,19)]} func248 [pd (.sl bP),pf (.sl .str),pI,pf ui,pf jM] [(true,(.sl (.own none) .str)),(true,Y1),(true,Y9),rI] (c5 xx) adD (λX K=>oq (λy0 y1 y2 y3=>ke 0 K adD ((z2 (u y0) X.1),(w y1 (z4 (w y2 (u y3))) X.2.1),X.2.2)) X.1.1 X.1.2.1 X.2.1.2.1 X.2.1.2.2.1 X.2.1.2.2.2.1 X.2.1.2.2.2.2.1) (λX=>(q2 X,X.2.1.1,X.2.1.2.2.2.2.2.1,X.2.1.2.2.2.2.2.2.1)) (λX x=>((z2 (u x.1) X.1),(w x.2.1 (z4 (w x.2.2.1 (u x.2.2.2))) X.2.1),X.2.2))
def apa:kH:=ka (.pair (.sl (.own none) .str) (.pair (.sl (.own none) bP) (.pair (.pair (.pair (.int .i64) (.pair (.int .i64) (.pair (.int .i64) (.int .i64)))) (.pair (.pair (.int .i64) (.pair (.int .i64) (.pair (.int .i64) (.sl (.own none) (.int .i64))))) (.pair (.sl (.own none) jW) (.int .i64)))) (.pair (.sl (.own none) dZ) (.pair (.sl (.own none) jM) (.pair (.sl (.own none) gG) (.pair (.sl (.own none) .bool) (.pair (.pair (.int .i64) (.pair .bool (.sl (.own none) (.int .i64)))) (.pair (.pair (.sl (.own none) ko) (.pair (.sl (.own none) iG) (.pair .str (.sl (.own none) (.int .i64))))) (.pair (.sl (.own none) dK) (.pair .bool (.pair (.sl (.own none) .str) (.pair (.sl (.own none) (.int .i64)) (.pair (.sl (.own none) (.int .i64)) (.pair (.int .i64) (.pair (.int .i64) (.pair (.int .i64) (.pair (.int .i64) (.int .i64))))))))))))))))))) [pI] [] λx a=>wb x a.1
theorem ap3:GV 193 apa:=iW.qA (qn (an:={mv:=[47,51,65,67,84],mb:=mg [(84,6)],sb:=mg [(6,6),(50,0),(70,0),(71,5)]}) (Λ:=mS.nil) (akD.s) func193 (by kernel_rfl) (ao nF)) (λx a=>by kernel_rfl)
def aiP:=akD.add ap3
def ajZ:An:={mask:=mk [(6,[0,12,14,16,17]),(10,[0,12,14,16,18])],merge:=mg [(2,42)],mv:=[57,74,80,86,92,98],mb:=mg [(57,16)],sb:=mg [(16,16),(67,16)]}
abbrev Q8:SD:=⟨DI::bs 11 (.ptr 12 0::B::.ptr 14 0::B::.ptr 16 0::DI::bs 81 []),zs 12 ((some Y12)::Z::(some Y13)::Z::(some Y11)::zs 82 []),.none⟩
def afO (X:SD.D Q8)(K:wy R):=yp (λy0 y1=>ke 0 K Q8 ((z1 (u y0) X.1),(z2 (u y1) X.2.1),X.2.2)) X.1.1 X.2.1.1 X.2.1.2.1
abbrev La:SD:=⟨DI::bs 11 (.ptr 12 0::B::.ptr 14 0::B::.ptr 16 0::B::DI::bs 80 []),zs 12 ((some Y12)::Z::(some Y13)::Z::(some Y11)::zs 82 []),.none⟩
def aab (X:SD.D La)(K:wy R):=wP (λy0 y1=>ke 2 K La ((z1 (u y0) X.1),(z2 (u y1) X.2.1),X.2.2)) X.1.1 X.2.1.1 X.2.1.2.1
def akG:mS:=(mS.nil.add 6 (Ao Q8 afO (λX=>(X.1.2.1,X.2.1.2.2.1)))).add 10 (Ao La aab (λX=>(X.1.2.1,X.2.1.2.2.1)))
theorem ajD:yF E aiP.g ajZ akG (dj f128 0):=lk Q8 afO (λX=>(X.1.2.1,X.2.1.2.2.1)) λX x=>((z1 (u x.1) X.1),(z2 (u x.2) X.2.1),X.2.2)
theorem aha:yF E aiP.g ajZ akG (dj f128 1):=lk La aab (λX=>(X.1.2.1,X.2.1.2.2.1)) λX x=>((z1 (u x.1) X.1),(z2 (u x.2) X.2.1),X.2.2)
def akx:=aiP.qk ajZ func128 [pI,pf AJ,pf uj,pd .bool,pI,pI] [(true,Y0),rB] (c6 vO) (cF ajD (cF aha nF))
def ao4:kH:=ka (.pair (.sl .ye (.int .u8)) (.pair (.int .i64) (.int .i64))) [] [(true,Y25)] λx a=>wa x
theorem apX:GV 129 ao4:=iW.qA (qn (an:={mv:=[11]}) (Λ:=mS.nil) (akx.s) func129 (by kernel_rfl) (ao nF)) (λx a=>by kernel_rfl)
def acW:=akx.add apX
def e71:kH:=ka (.pair (.sl .ye (.int .u8)) (.pair (.int .i64) (.int .i64))) [] [(true,Y0)] λx a=>zv x
def n71:An:={mask:=mk [(2,[0,2,3]),(6,[0,2,3,4,5,6])],mv:=[15,32,46,49,50,60],sb:=mg [(7,7),(34,0),(37,0),(40,0),(43,0)]}
abbrev Zi:SD:=⟨.ptr 0 0::B::.ptr 2 0::DI::.ptr 4 0::DI::DI::bs 54 [],(some Y8)::Z::(some Y3)::Z::(some Y17)::zs 56 [],.ptr⟩
def aiI (X:SD.D Zi)(K:wy R):=yw (λy0 y1=>ke 2 K Zi ((z2 (u y0) X.1),(z2 (u y1) X.2.1),X.2.2)) X.1.1 X.1.2.1 X.2.1.1 X.2.1.2.1
abbrev Tj:SD:=⟨.ptr 0 0::B::.ptr 2 0::DI::bs 57 [],(some Y8)::Z::(some Y3)::zs 58 [],.ptr⟩
def aiH (X:SD.D Tj)(K:wy R):=yv (λy0 y1=>ke 0 K Tj ((u y0 X.1),(u y1 X.2.1),X.2.2)) (λy0 y1 y2=>kr K Tj ((u y0 X.1),(w y1 (u y2) X.2.1),X.2.2)) X.2.1.2.1
def L71:mS:=(mS.nil.add 6 (Ao Zi aiI (λX=>(q2 X,X.2.1.2.2.1)))).add 2 (Ao Tj aiH (λX=>(X.1.1,X.2.1.1)))
theorem alL:yF E acW.g n71 L71 (dj f71 1):=lk Zi aiI (λX=>(q2 X,X.2.1.2.2.1)) λX x=>((z2 (u x.1) X.1),(z2 (u x.2) X.2.1),X.2.2)
theorem alK:yF E acW.g n71 L71 (dj f71 0):=lk Tj aiH (λX=>(X.1.1,X.2.1.1)) λX x=>((u x.1 X.1),(u x.2 X.2.1),X.2.2)
theorem o71:GV 71 e71:=iW.qA (qn (Γ:=acW.g) (an:=n71) (Λ:=L71) (acW.s) func71 (by kernel_rfl) (ao (cF alK (cF alL nF)))) (λx a=>by kernel_rfl)
def G71:=acW.add o71
def amq:=G71.q0 {merge:=mg [(1,16)]} func132 [pd .str] [rS,rB] (c1 xw)
def an1:=amq.q0 {} func249 [pd .str,pI] [rI] (c2 iY)
def an2:=an1.q0 {} func250 [pd .str,pI] [rI] (c2 pa)
def anf:=an2.q0 {sb:=mg [(4,4)]} func194 [pd .str] [(true,Y15),rB] (c1 xA)
def ang:=anf.q0 {merge:=mg [(2,22),(6,56)],sb:=mg [(5,5)]} func195 [pd .str] [(true,Y22),rB] (c1 yX)
def anh:=ang.q0 {merge:=mg [(3,20),(9,44),(12,68)]} func196 [pI,pI,pI,pd .str] [(true,(.pair (.int .i64) Y22)),rB] (c4 qF)
def amr:=anh.q0 {merge:=mg [(2,20)]} func133 [pd .str] [(true,Y2),rI] (c1 vS)
def G72:=amr.q0 {} func72 [pd .str] [(true,Y2),rI] (c1 vR)
def ams:=G72.q0 {} func134 [pf dy] [(true,(.pair (.int .i64) Y1))] (c1 EH)
abbrev Wz:SD:=⟨du (md dK)::B::B::.ptr 3 0::DI::DI::bs 14 [],Z::Z::Z::(sB (cS Bt Y1))::zs 16 [],.none⟩
def agh:=ams.q1 {mask:=mk [(2,[0,3,4,5])]} func135 [pd (.sl dK),pf qm] [rI] (c2 se) Wz (λX K=>nG (λy0=>ke 0 K Wz ((z2 (u y0) X.1),X.2)) (λy0 y1=>kr K Wz ((z1 (w y0 (u y1)) X.1),X.2)) X.1.1 X.1.2.1 X.2.1.1) q2 (λX x=>((z2 (u x) X.1),X.2))
def e73:kH:=ka (.pair (.sl .ye (.int .u8)) (.pair (.int .i64) (.int .i64))) [pd (.sl dy)] [(false,(.sl (.own none) dK))] λx a=>ze x a.1
def n73:An:={mask:=mk [(3,[0,1,5,6])],mv:=[45,52],sb:=mg [(41,0)]}
abbrev Zj:SD:=⟨.ptr 0 0::du (md dy)::B::B::B::du (dC 61440 dK)::DI::bs 46 [],(some Y8)::zs 52 [],.ptr⟩
def aiJ (X:SD.D Zj)(K:wy R):=yu (λy0 y1 y2=>ke 0 K Zj ((z1 (w y0 (u y1)) X.1),(u y2 X.2.1),X.2.2)) X.1.1
def L73:mS:=mS.nil.add 3 (Ao Zj aiJ (λX=>(X.1.2.1,q2 X,X.2.1.1)))
theorem alM:yF E agh.g n73 L73 (dj f73 0):=lk Zj aiJ (λX=>(X.1.2.1,q2 X,X.2.1.1)) λX x=>((z1 (w x.1 (u x.2.1)) X.1),(u x.2.2 X.2.1),X.2.2)
theorem o73:GV 73 e73:=iW.qA (qn (Γ:=agh.g) (an:=n73) (Λ:=L73) (agh.s) func73 (by kernel_rfl) (ao (cF alM nF))) (λx a=>by kernel_rfl)
def G73:=agh.add o73
def e28:kH:=ka (.pair (.sl .ye (.int .u8)) (.pair (.int .i64) (.int .i64))) [pd (.sl BQ)] [(true,Y0)] λx a=>xH x a.1
def n28:An:={mask:=mk [(4,[0,1,4,5,6,7])],mv:=[30,38]}
abbrev Zf:SD:=⟨.ptr 0 0::du (md BQ)::B::B::.ptr 4 0::.ptr 5 0::du (dC 73728 dy)::DI::bs 31 [],(some Y8)::Z::Z::Z::(some Y7)::(sB (cS (dC 61441 .str) (cS (dC 61444 bP) (cS (cS Y1 (cS (jV (jV (jV (dC 61468 (.int .i64))))) (cS (dC 61471 jW) Bt))) (cS (dC 61477 dZ) (cS (dC 61480 jM) (cS (dC 61483 gG) (cS (dC 61486 .bool) (cS (jV (cS .bool (dC 61495 (.int .i64)))) (cS (cS (dC 61498 ko) (cS (dC 61501 iG) (cS .str (dC 61507 (.int .i64))))) (cS (dC 61510 dK) (cS .bool (cS (dC 61516 .str) (cS (dC 61519 (.int .i64)) (cS (dC 61522 (.int .i64)) (cS Bt Y1))))))))))))))))::zs 33 [],.ptr⟩
def aiD (X:SD.D Zf)(K:wy R):=wS (λy0 y1=>ke 0 K Zf ((z1 (w y0 (u y1)) X.1),X.2)) X.1.1 X.2.1.1 X.2.1.2.1 X.2.1.2.2.1
def L28:mS:=mS.nil.add 4 (Ao Zf aiD (λX=>(X.1.2.1,q2 X)))
theorem alG:yF E G73.g n28 L28 (dj f28 0):=lk Zf aiD (λX=>(X.1.2.1,q2 X)) λX x=>((z1 (w x.1 (u x.2)) X.1),X.2)
theorem o28:GV 28 e28:=iW.qA (qn (Γ:=G73.g) (an:=n28) (Λ:=L28) (G73.s) func28 (by kernel_rfl) (ao (cF alG nF))) (λx a=>by kernel_rfl)
def G28:=G73.add o28
def G19:=G28.q0 {mv:=[13]} func19 [pd (.sl (.int .u8))] [(true,Y0),(false,(.sl (.own none) BQ))] (c1 qC)
abbrev adO:SD:=⟨B::.ptr 1 0::DB::B::B::B::du (md .str)::DI::DI::bs 11 [],Z::(sB (md .str))::zs 18 [],.none⟩
def G46:=G19.q1 {mask:=mk [(2,[1,2,6,7,8])]} func46 [pf (.sl .str)] [rB] (c1 sT) adO (λX K=>Cd (λy0=>ke 0 K adO ((z3 (u y0) X.1),X.2)) (λy0 y1=>kr K adO ((w y0 (z2 (u y1)) X.1),X.2)) X.1.1 X.1.2.1 (q2 X) X.2.1.1) q3 (λX x=>((z3 (u x) X.1),X.2))
abbrev adN:SD:=⟨B::DI::DI::B::B::B::DI::B::B::du (md bP)::DI::DI::bs 16 [],zs 28 [],.none⟩
def G38:=G46.q1 {mask:=mk [(2,[1,2,6,9,10,11])],merge:=mg [(4,25)]} func38 [pd (.sl bP),pI,pI] [rI] (c3 nW) adN (λX K=>nB (λy0=>ke 0 K adN ((z5 (u y0) X.1),X.2)) (λy0 y1=>kr K adN ((z2 (w y0 (z2 (u y1))) X.1),X.2)) X.1.1 X.1.2.1 (q2 X) (q3 X) (q4 X)) q5 (λX x=>((z5 (u x) X.1),X.2))
def G50:=G38.q0 {merge:=mg [(1,6)]} func50 [pI,pI,pI] [rB] (c3 aI)
abbrev adP:SD:=⟨du (md bP)::B::DB::B::B::du (md bP)::DI::DI::bs 34 [],zs 42 [],.none⟩
def G47:=G50.q1 {mask:=mk [(2,[0,2,5,6,7])],merge:=mg [(4,37)]} func47 [pd (.sl bP)] [rB] (c1 py) adP (λX K=>oN (λy0=>ke 0 K adP ((z4 (u y0) X.1),X.2)) (λy0 y1=>kr K adP ((z1 (w y0 (z2 (u y1))) X.1),X.2)) X.1.1 X.1.2.1 (q2 X) (q3 X)) q4 (λX x=>((z4 (u x) X.1),X.2))
abbrev adS:SD:=⟨B::.ptr 1 0::DB::du (dC 36864 .bool)::bs 22 (du (md (.int .i64))::DI::DI::bs 19 []),Z::(some Y14)::zs 46 [],.none⟩
def G52:=G47.q1 {mask:=mk [(5,[1,2,3,26,27,28])],merge:=mg [(1,21),(7,43)]} func52 [pf jM] [rB] (c1 jC) adS (λX K=>vj (λy0 y1=>ke 0 K adS ((z1 (w y0 (z2 (u y1))) X.1),X.2)) (λy0 y1 y2=>kr K adS ((w y0 (w y1 (z2 (u y2))) X.1),X.2)) X.1.1 (q2 X) (q3 X) X.2.1.1) (λX=>(X.1.2.1,q4 X)) (λX x=>((z1 (w x.1 (z2 (u x.2))) X.1),X.2))
def amG:=G52.q0 {merge:=mg [(1,2)]} func153 [pI] [rB] (c1 sZ)
def amV:=amG.q0 {} func169 [pI,pI] [rI] (c2 jD)
def amH:=amV.q0 {} func154 [pf ui] [rI] (c1 jT)
def G97:=amH.q0 {merge:=mg [(1,2)]} func97 [pf ui] [rB] (c1 kg)
def G31:=G97.q0 {} func31 [pd (.sl (.int .i64))] [(false,(.sl (.own none) (.int .i64)))] (c1 gN)
def G80:=G31.q0 {mv:=[7]} func80 [pf jM] [(true,Y9)] (c1 jj)
def al3:=G80.q0 {merge:=mg [(3,21)],mv:=[10,24]} func101 [pf jM,pd (.sl (.int .i64))] [(true,Y9),rB] (c2 gL)
abbrev adQ:SD:=⟨B::.ptr 1 0::DB::DI::du (dC 49152 (.int .i64))::bs 25 (du (md jW)::DI::DI::bs 35 []),Z::(some Y26)::zs 66 [],.none⟩
def G48:=al3.q1 {mask:=mk [(6,[1,2,3,4,30,31,32])],merge:=mg [(1,24),(8,50)],mv:=[55]} func48 [pf nJ] [rB] (c1 zK) adQ (λX K=>vq (λy0 y1 y2=>ke 0 K adQ ((z1 (w y0 (w y1 (z2 (u y2)))) X.1),X.2)) (λy0 y1 y2 y3=>kr K adQ ((w y0 (w y1 (w y2 (z2 (u y3)))) X.1),X.2)) X.1.1 (q3 X) (q4 X) X.2.1.1) (λX=>(X.1.2.1,q2 X,q5 X)) (λX x=>((z1 (w x.1 (w x.2.1 (z2 (u x.2.2)))) X.1),X.2))
abbrev adR:SD:=⟨B::.ptr 1 0::DB::B::B::B::du (md (.int .i64))::DI::DI::bs 31 [],Z::(some Y27)::zs 38 [],.none⟩
def G49:=G48.q1 {mask:=mk [(2,[1,2,6,7,8])],merge:=mg [(4,29),(7,2)]} func49 [pf AJ] [rB] (c1 sQ) adR (λX K=>rC (λy0=>ke 0 K adR ((z3 (u y0) X.1),X.2)) (λy0 y1=>kr K adR ((w y0 (z2 (u y1)) X.1),X.2)) X.1.1 X.1.2.1 (q2 X) X.2.1.1) q3 (λX x=>((z3 (u x) X.1),X.2))
def al4:=G49.q0 {merge:=mg [(1,2)]} func102 [pf iZ] [rB] (c1 oQ)
def amO:=al4.q0 {merge:=mg [(1,18),(5,2),(7,2)]} func161 [pf BR] [rB] (c1 qU)
def amP:=amO.q0 {merge:=mg [(1,2)]} func162 [pI] [rB] (c1 qY)
def al5:=amP.q0 {merge:=mg [(1,2)]} func103 [pf dy] [rB] (c1 iv)
def G51:=al5.q0 {merge:=mg [(1,42),(5,2)]} func51 [pf dZ] [rB] (c1 ux)
def al6:=G51.q0 {merge:=mg [(1,2)]} func104 [pf gG] [rB] (c1 Cf)
def G53:=al6.q0 {merge:=mg [(1,24),(3,2)]} func53 [pf gG] [rB] (c1 mX)
def amQ:=G53.q0 {merge:=mg [(1,33),(3,54),(5,2)]} func163 [pf ko] [rB] (c1 Bd)
abbrev Ww:SD:=⟨du (md ko)::B::DB::B::B::du (md ko)::DI::DI::bs 10 [],zs 18 [],.none⟩
def al7:=amQ.q1 {mask:=mk [(2,[0,2,5,6,7])]} func105 [pd (.sl ko)] [rB] (c1 yS) Ww (λX K=>DA (λy0=>ke 0 K Ww ((z4 (u y0) X.1),X.2)) (λy0 y1=>kr K Ww ((z1 (w y0 (z2 (u y1))) X.1),X.2)) X.1.1 X.1.2.1 (q2 X) (q3 X)) q4 (λX x=>((z4 (u x) X.1),X.2))
abbrev WB:SD:=⟨B::B::B::.ptr 3 0::DI::B::B::B::du (md iG)::DI::DI::bs 15 [],Z::Z::Z::(sB (cS Bt Y1))::zs 22 [],.none⟩
def amR:=al7.q1 {mask:=mk [(2,[3,4,8,9,10])],merge:=mg [(4,23)]} func164 [pf (.sl iG),pf qm] [rI] (c2 xR) WB (λX K=>vA (λy0=>ke 0 K WB ((z3 (u y0) X.1),X.2)) (λy0 y1=>kr K WB ((w y0 (z2 (u y1)) X.1),X.2)) X.1.1 X.1.2.1 (q2 X) X.2.1.1) q3 (λX x=>((z3 (u x) X.1),X.2))
abbrev ady:SD:=⟨B::B::B::DI::bs 12 (du (dC 196608 (.int .i64))::DI::DI::bs 10 []),zs 29 [],.none⟩
def anB:=amR.q1 {mask:=mk [(3,[3,16,17,18])]} func218 [pf qm] [rI] (c1 xi) ady (λX K=>nS (λy0 y1=>ke 0 K ady ((w y0 (z2 (u y1)) X.1),X.2)) X.1.2.1 (q2 X)) (λX=>(X.1.1,q3 X)) (λX x=>((w x.1 (z2 (u x.2)) X.1),X.2))
abbrev adr:SD:=⟨B::.ptr 1 0::B::du (dC 36864 (.int .i64))::DI::bs 14 [],Z::(sB (cS Bt Y1))::zs 17 [],.none⟩
def aiO:=anB.q1 {mask:=mk [(3,[1,3,4])],mv:=[10,18]} func165 [pf qm] [(false,(.sl (.own none) (.int .i64)))] (c1 CS) adr (λX K=>ta (λy0 y1=>ke 0 K adr ((w y0 (u y1) X.1),X.2)) X.2.1.1) (λX=>(X.1.1,X.1.2.1)) (λX x=>((w x.1 (u x.2) X.1),X.2))
def ajX:An:={mask:=mk [(4,[1,2,12,13,14]),(14,[1,2,3,12,13,14,49,50,51])],merge:=mg [(6,28),(9,40)]}
abbrev G7:SD:=⟨B::.ptr 1 0::DB::DI::bs 8 (du (md iG)::DI::DI::bs 34 (du (dC 602112 (.int .i64))::DI::DI::bs 15 [])),Z::(sB (md iG))::zs 65 [],.none⟩
def Z9 (X:SD.D G7)(K:wy R):=ly (λy0=>ke 2 K G7 ((z7 (u y0) X.1),X.2)) (λy0 y1=>kr K G7 ((w y0 (z6 (u y1)) X.1),X.2)) X.1.1 X.1.2.1 (q2 X) (q3 X) (q4 X) (q5 X) (q6 X) X.2.1.1
abbrev LS:SD:=⟨B::.ptr 1 0::DB::bs 9 (du (md iG)::DI::DI::bs 52 []),Z::(sB (md iG))::zs 65 [],.none⟩
def afL (X:SD.D LS)(K:wy R):=tH (λy0=>ke 0 K LS ((z3 (u y0) X.1),X.2)) (λy0 y1=>kr K LS ((w y0 (z2 (u y1)) X.1),X.2)) X.1.1 X.1.2.1 (q2 X) X.2.1.1
def akE:mS:=(mS.nil.add 14 (Ao G7 Z9 q7)).add 4 (Ao LS afL q3)
theorem ag8:yF E aiO.g ajX akE (dj f106 1):=lk G7 Z9 q7 λX x=>((z7 (u x) X.1),X.2)
theorem ajA:yF E aiO.g ajX akE (dj f106 0):=lk LS afL q3 λX x=>((z3 (u x) X.1),X.2)
def al8:=aiO.qk ajX func106 [pf (.sl iG)] [rB] (c1 rP) (cF ajA (cF ag8 nF))
def amS:=al8.q0 {merge:=mg [(1,2)]} func166 [pI] [rB] (c1 Ep)
abbrev Wx:SD:=⟨B::DI::B::B::DB::bs 19 (du (md (.int .i64))::DI::DI::bs 9 []),zs 36 [],.none⟩
def aiM:=amS.q1 {mask:=mk [(4,[1,4,24,25,26])],merge:=mg [(1,22)]} func107 [pf EZ,pI] [rB] (c2 xo) Wx (λX K=>Ce (λy0=>ke 0 K Wx ((z4 (u y0) X.1),X.2)) (λy0 y1=>kr K Wx ((z1 (w y0 (z2 (u y1))) X.1),X.2)) X.1.1 X.1.2.1 (q2 X) (q3 X)) q4 (λX x=>((z4 (u x) X.1),X.2))
def n54:An:={mask:=mk [(4,[1,2,4,27,28,29]),(10,[1,4,45,46,47])],merge:=mg [(1,25),(6,41),(12,59)]}
abbrev Ti:SD:=⟨B::DI::.ptr 2 0::B::DB::bs 22 (du (md ko)::DI::DI::bs 31 []),Z::Z::(some Y19)::zs 58 [],.none⟩
def aiE (X:SD.D Ti)(K:wy R):=oT (λy0=>ke 0 K Ti ((z4 (u y0) X.1),X.2)) (λy0 y1=>kr K Ti ((z1 (w y0 (z2 (u y1))) X.1),X.2)) X.1.1 X.1.2.1 (q2 X) (q3 X) X.2.1.1
abbrev LY:SD:=⟨B::DI::B::B::DB::bs 40 (du (md iG)::DI::DI::bs 13 []),zs 61 [],.none⟩
def af4 (X:SD.D LY)(K:wy R):=nw (λy0=>ke 2 K LY ((z4 (u y0) X.1),X.2)) (λy0 y1=>kr K LY ((z1 (w y0 (z2 (u y1))) X.1),X.2)) X.1.1 X.1.2.1 (q2 X) (q3 X)
def L54:mS:=(mS.nil.add 4 (Ao Ti aiE q4)).add 10 (Ao LY af4 q4)
theorem alH:yF E aiM.g n54 L54 (dj f54 0):=lk Ti aiE q4 λX x=>((z4 (u x) X.1),X.2)
theorem ajT:yF E aiM.g n54 L54 (dj f54 1):=lk LY af4 q4 λX x=>((z4 (u x) X.1),X.2)
def G54:=aiM.qk n54 func54 [pf uj,pI] [rB] (c2 pA) (cF alH (cF ajT nF))
def n18:An:={mask:=mk [(5,[1,2,3,61,62]),(12,[1,2,3,103,104,105])],merge:=mg [(2,58),(7,89)]}
abbrev Tf:SD:=⟨B::.ptr 1 0::DB::DI::bs 57 (DI::DI::bs 54 []),Z::(some Y5)::zs 115 [],.none⟩
def aiy (X:SD.D Tf)(K:wy R):=vg (λy0=>ke 0 K Tf ((z3 (u y0) X.1),X.2)) (λy0 y1=>kr K Tf ((w y0 (z2 (u y1)) X.1),X.2)) X.1.1 X.1.2.1 (q2 X) X.2.1.1
abbrev LW:SD:=⟨B::.ptr 1 0::DB::DI::bs 99 (du (dC 1265664 (.int .i64))::DI::DI::bs 11 []),Z::(some Y5)::zs 115 [],.none⟩
def afX (X:SD.D LW)(K:wy R):=tC (λy0=>ke 2 K LW ((z4 (u y0) X.1),X.2)) (λy0 y1=>kr K LW ((w y0 (z3 (u y1)) X.1),X.2)) X.1.1 X.1.2.1 (q2 X) (q3 X) X.2.1.1
def L18:mS:=(mS.nil.add 5 (Ao Tf aiy q3)).add 12 (Ao LW afX q4)
theorem alB:yF E G54.g n18 L18 (dj f18 0):=lk Tf aiy q3 λX x=>((z3 (u x) X.1),X.2)
theorem ajM:yF E G54.g n18 L18 (dj f18 1):=lk LW afX q4 λX x=>((z4 (u x) X.1),X.2)
def G18:=G54.qk n18 func18 [pf gI] [rB] (c1 iH) (cF alB (cF ajM nF))
def G74:=G18.q0 {} func74 [pd (.sl .str)] [(false,(.sl (.own none) .str))] (c1 lA)
def G29:=G74.q0 {} func29 [pf (.sl .str)] [(true,(.sl (.own none) .str))] (c1 dG)
def G78:=G29.q0 {} func78 [pd (.sl bP)] [(false,(.sl (.own none) bP))] (c1 vu)
abbrev ado:SD:=⟨B::B::B::du (dC 36864 jW)::B::B::B::du (md jW)::DI::DI::bs 16 [],zs 26 [],.none⟩
def amy:=G78.q1 {mask:=mk [(3,[3,7,8,9])],mv:=[13,25]} func141 [pd (.sl jW)] [(false,(.sl (.own none) jW))] (c1 sY) ado (λX K=>rX (λy0 y1=>ke 0 K ado ((w y0 (z2 (u y1)) X.1),X.2)) X.1.2.1 (q2 X)) (λX=>(X.1.1,q3 X)) (λX x=>((w x.1 (z2 (u x.2)) X.1),X.2))
def G79:=amy.q0 {sb:=mg [(2,2)]} func79 [pf nJ] [(true,Y18)] (c1 qV)
def G81:=G79.q0 {mv:=[7]} func81 [pf AJ] [(true,Y25)] (c1 tJ)
def amz:=G81.q0 {} func142 [pf (.sl iG)] [(true,(.sl (.own none) iG))] (c1 vw)
def amA:=amz.q0 {sb:=mg [(2,2)]} func143 [pf EZ] [(true,(.pair .str (.sl (.own none) (.int .i64))))] (c1 tK)
def G82:=amA.q0 {sb:=mg [(2,2)]} func82 [pf uj] [(true,Y20)] (c1 qy)
def G83:=G82.q0 {} func83 [pd (.sl dK)] [(false,(.sl (.own none) dK))] (c1 lz)
abbrev ah7:SD:=⟨B::.ptr 1 0::.ptr 2 0::.ptr 3 0::bs 23 (du (md jM)::DI::DI::bs 46 []),Z::(some Y5)::(some Y3)::(sB (cS (dC 36865 .str) (cS (dC 36868 bP) (cS (cS Y1 (cS (jV (jV (jV (dC 36892 (.int .i64))))) (cS (dC 36895 jW) Bt))) (cS (dC 36901 dZ) (cS (dC 36904 jM) (cS (md gG) (cS (md .bool) (cS Y27 (cS Y19 (cS (md dK) (cS .bool (cS (md .str) (cS (md (.int .i64)) (cS (md (.int .i64)) (cS Bt Y1))))))))))))))))::zs 72 [],.none⟩
def G35:=G83.q1 {mask:=mk [(8,[1,2,3,27,28,29])],mv:=[34,75],mb:=mg [(34,3)],sb:=mg [(39,3)]} func35 [pf gI] [(true,Y0)] (c1 gM) ah7 (λX K=>rV (λy0 y1=>ke 0 K ah7 ((z2 (u y0) X.1),(z2 (u y1) X.2.1),X.2.2)) X.1.1 X.1.2.1 X.2.1.1 X.2.1.2.1) (λX=>(q2 X,X.2.1.2.2.1)) (λX x=>((z2 (u x.1) X.1),(z2 (u x.2) X.2.1),X.2.2))
def amI:=G35.q0 {merge:=mg [(1,2)]} func155 [pf oF] [rB] (c1 xM)
def amJ:=amI.q0 {} func156 [pI] [rS] (c1 cx)
def amK:=amJ.q0 {} func157 [pI] [rS] (c1 ie)
def G98:=amK.q0 {} func98 [pf oF] [rS] (c1 mj)
def G99:=G98.q0 {merge:=mg [(1,15)]} func99 [pf jM,pI] [rI] (c2 gH)
def amL:=G99.q0 {} func158 [pf ui] [rI] (c1 sW)
def anz:=amL.q0 {merge:=mg [(4,29)]} func216 [pd (.sl bP),pI,pI,pd .bool] [rI] (c4 CR)
def anA:=anz.q0 {merge:=mg [(2,6)]} func217 [pf (.sl .str),pI,pI] [rB] (c3 uA)
abbrev WA:SD:=⟨du (md bP)::B::DI::DI::DI::DB::B::.ptr 7 0::bs 4 (du (dC 147456 jF)::DB::du (dC 172032 jF)::bs 60 []),zs 7 ((sB (md .str))::zs 67 []),.none⟩
def amE:=anA.q1 {mask:=mk [(8,[0,2,3,4,5,7,12,13,14])],merge:=mg [(1,29),(11,55),(16,73)],mv:=[56,74]} func151 [pd (.sl bP),pf (.sl .str),pI,pI,pI,pd .bool] [(false,(.sl (.own none) jF)),rB] (c6 xQ) WA (λX K=>qW (λy0 y1 y2=>ke 0 K WA ((z2 (w y0 (w y1 (z3 (u y2)))) X.1),X.2)) (λy0 y1 y2 y3 y4=>kr K WA ((z2 (w y0 (w y1 (z1 (w y2 (w y3 (u y4)))))) X.1),X.2)) X.1.1 X.1.2.1 (q4 X) (q5 X) (q6 X) X.2.1.1) (λX=>(q2 X,q3 X,q7 X)) (λX x=>((z2 (w x.1 (w x.2.1 (z3 (u x.2.2)))) X.1),X.2))
abbrev adq:SD:=⟨B::DI::du .str::B::B::B::.ptr 6 0::B::.ptr 8 0::bs 41 [],zs 6 ((sB (dC 73729 .str))::Z::(sB (dC 98305 .str))::zs 41 []),.none⟩
def amF:=amE.q1 {mask:=mk [(4,[1,2,6,8])],nest:=[33],mv:=[19,49]} func152 [pf (.sl .str),pI,pd .str] [(true,(.sl (.own none) .str)),rB] (c3 rT) adq (λX K=>nA (λy0 y1 y2=>ke 0 K adq ((w y0 (u y1) X.1),(z1 (u y2) X.2.1),X.2.2)) X.2.1.1) (λX=>(X.1.1,X.1.2.1,X.2.1.2.1)) (λX x=>((w x.1 (u x.2.1) X.1),(z1 (u x.2.2) X.2.1),X.2.2))
abbrev aif:SD:=⟨bs 4 (du .str::bs 7 (.ptr 12 0::B::.ptr 14 0::bs 20 (du (.sl .loc jF)::DI::DI::bs 20 []))),zs 12 ((sB (dC 147457 .str))::Z::(sB (dC 172033 .str))::zs 43 []),.none⟩
def G96:=amF.q1 {mask:=mk [(6,[4,12,14,35,36,37])],mv:=[34,41,50,57],sb:=mg [(14,14)]} func96 [pd (.sl bP),pf (.sl .str),pI,pI,pd .str,pd .bool] [(true,(.sl (.own none) .str)),rB] (c6 Eo) aif (λX K=>xP (λy0 y1 y2=>ke 0 K aif ((w y0 (z2 (u y1)) X.1),(z1 (u y2) X.2.1),X.2.2)) X.1.2.1 (q2 X) X.2.1.1) (λX=>(X.1.1,q3 X,X.2.1.2.1)) (λX x=>((w x.1 (z2 (u x.2.1)) X.1),(z1 (u x.2.2) X.2.1),X.2.2))
def amM:=G96.q0 {} func159 [pd (.sl bP),pf (.sl .str),pI,pI,pd .str] [(true,(.sl (.own none) .str)),rB] (c5 pU)
def amN:=amM.q0 {merge:=mg [(1,11)]} func160 [pf ui,pI] [rI] (c2 nU)
def al2:=amN.q0 {merge:=mg [(1,22)],mv:=[26,36,40,50],mb:=mg [(40,13),(50,13)],sb:=mg [(10,10),(11,11),(13,13)]} func100 [pd (.sl bP),pf (.sl .str),pI,pf ui,pd .str] [(true,(.sl (.own none) .str)),(true,Y1),rB] (c5 vn)
abbrev ah9:SD:=⟨du (md bP)::B::DI::bs 5 (.ptr 8 0::.ptr 9 0::.ptr 10 0::.ptr 11 0::.ptr 12 0::B::.ptr 14 0::.ptr 15 0::DI::bs 22 (du (md (.int .i64))::DI::DI::bs 38 [])),zs 8 ((some Y1)::(some Y14)::(sB (dC 122881 .str))::(some Y1)::(some Y29)::Z::(sB (dC 172033 .str))::(some Y28)::zs 64 []),.none⟩
def G45:=al2.q1 {mask:=mk [(6,[0,2,8,9,10,11,12,14,15,16,39,40,41])],merge:=mg [(2,34)],mv:=[35,37,53,65,76,78],mb:=mg [(35,14),(37,15),(65,20),(76,14),(78,15)],sb:=mg [(8,8),(10,10),(11,11),(12,12),(14,14),(15,15)]} func45 [pd (.sl bP),pf (.sl .str),pI,pf ui,pf jM] [(true,(.sl (.own none) .str)),(true,Y1),(true,Y9),rI] (c5 pV) ah9 (λX K=>nP (λy0 y1 y2 y3=>ke 0 K ah9 ((z2 (w y0 (z2 (u y1))) X.1),(w y2 (z4 (u y3)) X.2.1),X.2.2)) X.1.1 X.1.2.1 (q3 X) (q4 X) X.2.1.2.1 X.2.1.2.2.1 X.2.1.2.2.2.1 X.2.1.2.2.2.2.1 X.2.1.2.2.2.2.2.2.1) (λX=>(q2 X,q5 X,X.2.1.1,X.2.1.2.2.2.2.2.1)) (λX x=>((z2 (w x.1 (z2 (u x.2.1))) X.1),(w x.2.2.1 (z4 (u x.2.2.2)) X.2.1),X.2.2))
abbrev adx:SD:=⟨B::DI::DI::.ptr 3 0::bs 4 (du (dC 98304 (.int .u8))::bs 41 []),Z::Z::Z::(sB (md .str))::zs 46 [],.none⟩
def anu:=G45.q1 {mask:=mk [(4,[1,2,3,8])],mv:=[41]} func212 [pf (.sl .str),pI,pI] [rS,rB] (c3 pz) adx (λX K=>lM (λy0 y1=>ke 0 K adx ((w y0 (z1 (u y1)) X.1),X.2)) X.1.2.1 X.2.1.1) (λX=>(X.1.1,q2 X)) (λX x=>((w x.1 (z1 (u x.2)) X.1),X.2))
abbrev adp:SD:=⟨bs 6 (.ptr 6 0::bs 7 (du .str::bs 15 (du (.sl .loc jF)::DI::DI::bs 17 []))),zs 6 ((sB (md .str))::zs 43 []),.none⟩
def amB:=anu.q1 {mask:=mk [(6,[6,14,30,31,32])]} func148 [pd (.sl bP),pf (.sl .str),pI,pI,pI] [rS,rB] (c5 oL) adp (λX K=>tB (λy0 y1=>ke 0 K adp ((w y0 (z2 (u y1)) X.1),X.2)) X.1.2.1 (q2 X) X.2.1.1) (λX=>(X.1.1,q3 X)) (λX x=>((w x.1 (z2 (u x.2)) X.1),X.2))
def amY:=amB.q0 {} func173 [pf iZ] [rI] (c1 nX)
def anK:=amY.q0 {merge:=mg [(1,13)]} func228 [pd .str,pI] [rI] (c2 fS)
def anL:=anK.q0 {merge:=mg [(1,13)]} func229 [pd .str,pI] [rI] (c2 jq)
def amZ:=anL.q0 {} func174 [pd .str] [(true,(.pair (.int .i64) Y1)),rI,rB] (c1 lW)
def am0:=amZ.q0 {} func175 [pf iZ] [rI] (c1 vy)
def amj:=am0.q0 {merge:=mg [(7,46)],sb:=mg [(8,8),(9,9)]} func118 [pd (.sl bP),pf (.sl .str),pI,pf iZ] [(true,(.pair (.int .i64) Y1)),(true,Y21),rB] (c4 kK)
def an9:=amj.q0 {merge:=mg [(1,2)]} func258 [pf ac2] [rB] (c1 Ai)
def anv:=an9.q0 {merge:=mg [(4,33)],sb:=mg [(4,4)]} func213 [pd .str] [(true,Y15),rB] (c1 sU)
def an4:=anv.q0 {merge:=mg [(1,17)]} func252 [pd .str,pI,pd .str] [rS] (c3 gB)
def aoQ:=an4.q0 {merge:=mg [(1,12)]} func302 [pI,pI] [rI] (c2 yN)
abbrev adK:SD:=⟨du .str::B::B::DI::DI::bs 28 [],zs 33 [],.none⟩
def aoG:=aoQ.q1 {mask:=mk [(3,[0,3,4])]} func292 [pd .str] [rI] (c1 xp) adK (λX K=>rO (λy0 y1=>ke 0 K adK ((z1 (w y0 (u y1)) X.1),X.2)) X.1.1) (λX=>(X.1.2.1,q2 X)) (λX x=>((z1 (w x.1 (u x.2)) X.1),X.2))
def aok:=aoG.q0 {} func269 [pd .str] [rI] (c1 jS)
def aoP:=aok.q0 {merge:=mg [(1,2)]} func301 [pf TIp] [rB] (c1 I5)
def aoB:=aoP.q0 {} func287 [pf TIp] [rS,rB] (c1 xk)
def aoa:=aoB.q0 {} func259 [pf TIp] [rS,rB] (c1 uZ)
def anw:=aoa.q0 {merge:=mg [(2,22),(6,56)],sb:=mg [(5,5)]} func214 [pd .str] [(true,Y22),rB] (c1 yR)
def aoi:=anw.q0 {merge:=mg [(1,27)]} func267 [pI,pI,pI,pI] [rS,rB] (c4 qv)
def aoj:=aoi.q0 {} func268 [pI] [rI] (c1 gn)
def aoC:=aoj.q0 {} func288 [pf BR] [rS] (c1 rU)
def aob:=aoC.q0 {merge:=mg [(8,39)]} func260 [pI,pI,pf BR] [rS,rB] (c3 kt)
def anx:=aob.q0 {merge:=mg [(3,20),(9,44),(12,68)]} func215 [pI,pI,pI,pd .str] [(true,(.pair (.int .i64) Y22)),rB] (c4 qu)
def amC:=anx.q0 {merge:=mg [(2,20)]} func149 [pd .str] [(true,Y2),rI] (c1 jr)
abbrev Wy:SD:=⟨B::B::B::.ptr 3 0::DI::B::B::du (md dK)::DI::DI::bs 10 [],Z::Z::Z::(sB (cS Bt Y1))::zs 16 [],.none⟩
def amk:=amC.q1 {mask:=mk [(2,[3,4,7,8,9])]} func119 [pd (.sl dK),pf qm] [rI] (c2 jd) Wy (λX K=>jy (λy0=>ke 0 K Wy ((z3 (u y0) X.1),X.2)) (λy0 y1=>kr K Wy ((w y0 (z2 (u y1)) X.1),X.2)) X.1.1 X.1.2.1 (q2 X) X.2.1.1) q3 (λX x=>((z3 (u x) X.1),X.2))
def anp:=amk.q0 {} func207 [pf dy] [(true,(.pair (.int .i64) Y1))] (c1 uw)
def amD:=anp.q0 {merge:=mg [(17,82)],mv:=[16,31,51,58,67,83,132],er:=mg [(115,5)]} func150 [pd (.sl dK),pf dy] [(false,(.sl (.own none) dK))] (c2 yO)
abbrev aid:SD:=⟨du (md bP)::B::DI::B::B::B::DI::B::B::B::.ptr 10 0::B::B::B::.ptr 14 0::.ptr 15 0::.ptr 16 0::B::B::.ptr 19 0::.ptr 20 0::du (dC 258048 dK)::DI::bs 99 [],zs 10 ((some Y10)::Z::Z::Z::(sB (dC 172033 .str))::(some Y10)::(sB (jV (jV (jV (dC 196618 (.int .i64))))))::Z::Z::(sB (dC 233473 .str))::(sB (jV (jV (jV (dC 245770 (.int .i64))))))::zs 101 []),.none⟩
def G94:=amD.q1 {mask:=mk [(5,[0,2,6,10,14,15,16,19,20,21,22])],merge:=mg [(2,48)],mv:=[49,51,52,96,104,117,119,120],mb:=mg [(49,19),(51,20),(117,19),(119,20)],sb:=mg [(14,14),(15,15),(16,16),(19,19),(20,20)]} func94 [pd (.sl bP),pf (.sl .str),pI,pf dZ,pf jM,pd (.sl dK),pI] [(true,(.sl (.own none) .str)),(true,Y10),(true,Y9),(false,(.sl (.own none) dK)),rI] (c7 vi) aid (λX K=>mE (λy0 y1 y2 y3=>ke 0 K aid ((z3 (w y0 (u y1)) X.1),(w y2 (z4 (u y3)) X.2.1),X.2.2)) X.1.1 X.1.2.1 (q2 X) X.2.1.2.1 X.2.1.2.2.1 X.2.1.2.2.2.1 X.2.1.2.2.2.2.1) (λX=>(q3 X,q4 X,X.2.1.1,X.2.1.2.2.2.2.2.1)) (λX x=>((z3 (w x.1 (u x.2.1)) X.1),(w x.2.2.1 (z4 (u x.2.2.2)) X.2.1),X.2.2))
def e39:kH:=ka (.pair (.sl (.own none) .str) (.pair (.sl (.own none) bP) (.pair (.pair (.pair (.int .i64) (.pair (.int .i64) (.pair (.int .i64) (.int .i64)))) (.pair (.pair (.int .i64) (.pair (.int .i64) (.pair (.int .i64) (.sl (.own none) (.int .i64))))) (.pair (.sl (.own none) jW) (.int .i64)))) (.pair (.sl (.own none) dZ) (.pair (.sl (.own none) jM) (.pair (.sl (.own none) gG) (.pair (.sl (.own none) .bool) (.pair (.pair (.int .i64) (.pair .bool (.sl (.own none) (.int .i64)))) (.pair (.pair (.sl (.own none) ko) (.pair (.sl (.own none) iG) (.pair .str (.sl (.own none) (.int .i64))))) (.pair (.sl (.own none) dK) (.pair .bool (.pair (.sl (.own none) .str) (.pair (.sl (.own none) (.int .i64)) (.pair (.sl (.own none) (.int .i64)) (.pair (.int .i64) (.pair (.int .i64) (.pair (.int .i64) (.pair (.int .i64) (.int .i64))))))))))))))))))) [pI,pI] [rI] λx a=>pW x a.1 a.2.1
theorem o39:GV 39 e39:=iW.qA (qn (an:={mv:=[8,49,51,52],sb:=mg [(55,0),(59,0)],fm:=[19,20],eb:=mg [(56,0),(57,0)]}) (Λ:=mS.nil) (G94.s) func39 (by kernel_rfl) (ao nF)) (λx a=>by kernel_rfl)
def G39:=G94.add o39
abbrev aie:SD:=⟨B::B::DI::B::B::B::.ptr 6 0::B::.ptr 8 0::DI::bs 20 [],zs 6 ((some Y31)::Z::(some Y30)::zs 21 []),.none⟩
def G95:=G39.q1 {mask:=mk [(5,[2,6,8,9])],mv:=[24,29]} func95 [pI,pI,pI] [(true,Y9),rB] (c3 CP) aie (λX K=>Dz (λy0 y1=>ke 0 K aie ((z1 (u y0) X.1),(z1 (u y1) X.2.1),X.2.2)) X.1.1 X.2.1.1) (λX=>(X.1.2.1,X.2.1.2.1)) (λX x=>((z1 (u x.1) X.1),(z1 (u x.2) X.2.1),X.2.2))
def G40:=G95.q0 {mv:=[3,8]} func40 [] [(true,Y18)] (λa=>MP)
def G41:=G40.q0 {} func41 [pd (.sl bP),pf (.sl .str),pI,pI,pd .str] [(true,(.sl (.own none) .str)),rB] (c5 lL)
def G42:=G41.q0 {} func42 [pI] [rI] (c1 Be)
abbrev ah8:SD:=⟨du (.int .u8)::bs 4 (du (dC 61440 (.int .u8))::bs 4 (DI::DI::bs 9 [])),zs 21 [],.none⟩
def G43:=G42.q1 {mask:=mk [(3,[0,5,10,11])]} func43 [pd (.int .u8),pI] [rS] (c2 uz) ah8 (λX K=>vz (λy0 y1=>ke 0 K ah8 ((z1 (w y0 (z1 (u y1))) X.1),X.2)) X.1.1 (q2 X)) (λX=>(X.1.2.1,q3 X)) (λX x=>((z1 (w x.1 (z1 (u x.2))) X.1),X.2))
def G44:=G43.q0 {mv:=[10,24],mb:=mg [(24,5)],sb:=mg [(2,2),(3,3)]} func44 [pI] [(true,Y10),(true,Y9)] (c1 Gq)
def n15:An:={mask:=mk [(5,[2,3,21,22]),(10,[2,3,30,31,32]),(18,[2,3,54,55])],mv:=[18,37,88,98,121,142],sb:=mg [(90,3)]}
abbrev Zc:SD:=⟨B::B::.ptr 2 0::.ptr 3 0::bs 17 (DI::DI::bs 120 []),Z::Z::(some Y3)::(some Y4)::zs 139 [],.none⟩
def aix (X:SD.D Zc)(K:wy R):=Bc (λy0 y1=>ke 0 K Zc ((z1 (u y0) X.1),(z1 (u y1) X.2.1),X.2.2)) X.1.1 X.2.1.1
abbrev Q9:SD:=⟨B::B::.ptr 2 0::.ptr 3 0::bs 26 (du (.sl .loc jW)::DI::DI::bs 110 []),Z::Z::(some Y3)::(some Y4)::zs 139 [],.none⟩
def afP (X:SD.D Q9)(K:wy R):=Aj (λy0 y1=>ke 2 K Q9 ((z2 (u y0) X.1),(z1 (u y1) X.2.1),X.2.2)) X.1.1 X.1.2.1 X.2.1.1
abbrev Ra:SD:=⟨B::B::.ptr 2 0::.ptr 3 0::bs 50 (DI::DI::bs 87 []),Z::Z::(some Y3)::(some Y4)::zs 139 [],.none⟩
def afQ (X:SD.D Ra)(K:wy R):=Ak (λy0 y1=>ke 4 K Ra ((z1 (u y0) X.1),(z1 (u y1) X.2.1),X.2.2)) X.1.1 X.2.1.1
def L15:mS:=((mS.nil.add 5 (Ao Zc aix (λX=>(X.1.2.1,X.2.1.2.1)))).add 10 (Ao Q9 afP (λX=>(q2 X,X.2.1.2.1)))).add 18 (Ao Ra afQ (λX=>(X.1.2.1,X.2.1.2.1)))
theorem alA:yF E G44.g n15 L15 (dj f15 0):=lk Zc aix (λX=>(X.1.2.1,X.2.1.2.1)) λX x=>((z1 (u x.1) X.1),(z1 (u x.2) X.2.1),X.2.2)
theorem ajE:yF E G44.g n15 L15 (dj f15 1):=lk Q9 afP (λX=>(q2 X,X.2.1.2.1)) λX x=>((z2 (u x.1) X.1),(z1 (u x.2) X.2.1),X.2.2)
theorem ajF:yF E G44.g n15 L15 (dj f15 2):=lk Ra afQ (λX=>(X.1.2.1,X.2.1.2.1)) λX x=>((z1 (u x.1) X.1),(z1 (u x.2) X.2.1),X.2.2)
def G15:=G44.qk n15 func15 [pf gI] [(true,Y0)] (c1 Em) (cF alA (cF ajE (cF ajF nF)))
def amT:=G15.q0 {merge:=mg [(1,20)],sb:=mg [(9,9)]} func167 [pd (.sl bP),pf (.sl .str),pI,pf ui] [rS,(true,Y1),rB] (c4 sX)
def anC:=amT.q0 {sb:=mg [(4,4)]} func219 [pd .str] [(true,(.pair (.int .i64) (.pair (.int .i64) Y1))),rB] (c1 px)
def aoD:=anC.q0 {} func289 [pI] [rS] (c1 xq)
def aoc:=aoD.q0 {} func261 [pf ac2] [rS,rB] (c1 xc)
def aod:=aoc.q0 {} func262 [pd .str] [rS] (c1 yQ)
def anD:=aod.q0 {} func220 [pf dy] [rS,rB] (c1 iQ)
def aoE:=anD.q0 {} func290 [pd .str,pI] [rI] (c2 xO)
abbrev adJ:SD:=⟨du .str::DI::B::B::B::DI::DI::bs 22 [],zs 29 [],.none⟩
def aoF:=aoE.q1 {mask:=mk [(5,[0,1,5,6])],merge:=mg [(1,14)]} func291 [pd .str,pI] [rI] (c2 vh) adJ (λX K=>qt (λy0 y1=>ke 0 K adJ ((z2 (w y0 (u y1)) X.1),X.2)) X.1.1 X.1.2.1) (λX=>(q2 X,q3 X)) (λX x=>((z2 (w x.1 (u x.2)) X.1),X.2))
abbrev adE:SD:=⟨du .str::du .str::B::B::B::DI::DI::bs 25 [],zs 32 [],.none⟩
def aoe:=aoF.q1 {mask:=mk [(5,[0,1,5,6])],merge:=mg [(1,14)]} func263 [pd .str,pd .str] [rI] (c2 vd) adE (λX K=>qq (λy0 y1=>ke 0 K adE ((z2 (w y0 (u y1)) X.1),X.2)) X.1.1 X.1.2.1) (λX=>(q2 X,q3 X)) (λX x=>((z2 (w x.1 (u x.2)) X.1),X.2))
def aof:=aoe.q0 {} func264 [pf qm] [rS] (c1 vf)
def anE:=aof.q0 {} func221 [pd .str,pf qm] [rI] (c2 sR)
def aog:=anE.q0 {merge:=mg [(1,2)]} func265 [pf qm] [rB] (c1 mA)
def aoh:=aog.q0 {merge:=mg [(1,12)]} func266 [pf qm,pI] [rS] (c2 lX)
def akC:=aoh.q0 {merge:=mg [(1,22)],mv:=[26,37,41,51],mb:=mg [(41,13),(51,13)],sb:=mg [(10,10),(11,11),(13,13)]} func222 [pd (.sl bP),pf (.sl .str),pI,pf iZ,pf qm] [(true,(.sl (.own none) .str)),(true,Y21),rB] (c5 oP)
def ao5:kH:=DW [pd (.sl bP),pf (.sl .str),pI,pf dZ,pd .str,pd .str] [(true,(.sl (.own none) .str)),(true,Y21),rB] [(true,(.sl .arg .str)),(true,Y21),rB] rfl λa=>vB a.1 a.2.1 a.2.2.1 a.2.2.2.1 a.2.2.2.2.1 a.2.2.2.2.2.1
theorem apY:GV 168 ao5:=iW.ofAlt (ad6 (an:={merge:=mg [(3,50)],sb:=mg [(12,12),(13,13),(20,20)]}) (Λ:=mS.nil) (by rfl) (akC.s) func168 (by kernel_rfl) (ao nF)) (λa=>by kernel_rfl)
def amU:=akC.add apY
def amc:=amU.q0 {merge:=mg [(1,31)],mv:=[52,66],mb:=mg [(66,16)],sb:=mg [(10,10),(11,11)]} func111 [pd (.sl bP),pf (.sl .str),pI,pf dZ,pd .str] [(true,(.sl (.own none) .str)),(true,Y10)] (c5 nQ)
def amX:=amc.q0 {merge:=mg [(1,9)]} func172 [pf gG] [(true,Y13)] (c1 oV)
def agi:=amX.q0 {} func170 [pf gG] [(true,Y13)] (c1 xb)
def aoZ:kH:=ka (.pair (.sl (.own none) .str) (.pair (.sl (.own none) bP) (.pair (.pair (.pair (.int .i64) (.pair (.int .i64) (.pair (.int .i64) (.int .i64)))) (.pair (.pair (.int .i64) (.pair (.int .i64) (.pair (.int .i64) (.sl (.own none) (.int .i64))))) (.pair (.sl (.own none) jW) (.int .i64)))) (.pair (.sl (.own none) dZ) (.pair (.sl (.own none) jM) (.pair (.sl (.own none) gG) (.pair (.sl (.own none) .bool) (.pair (.pair (.int .i64) (.pair .bool (.sl (.own none) (.int .i64)))) (.pair (.pair (.sl (.own none) ko) (.pair (.sl (.own none) iG) (.pair .str (.sl (.own none) (.int .i64))))) (.pair (.sl (.own none) dK) (.pair .bool (.pair (.sl (.own none) .str) (.pair (.sl (.own none) (.int .i64)) (.pair (.sl (.own none) (.int .i64)) (.pair (.int .i64) (.pair (.int .i64) (.pair (.int .i64) (.pair (.int .i64) (.int .i64))))))))))))))))))) [pI,pI] [] λx a=>lO x a.1 a.2.1
def alQ:An:={mask:=mk [(2,[0,1,7])]}
abbrev Q6:SD:=⟨.ptr 0 0::DI::bs 5 (DI::bs 34 []),(sB (cS (dC 1 .str) (cS (dC 4 bP) (cS (cS Y1 (cS (jV (jV (jV (dC 28 (.int .i64))))) (cS (dC 31 jW) Bt))) (cS (dC 37 dZ) (cS (dC 40 jM) (cS (dC 43 gG) (cS (dC 46 .bool) (cS (jV (cS .bool (dC 55 (.int .i64)))) (cS (cS (dC 58 ko) (cS (dC 61 iG) (cS .str (dC 67 (.int .i64))))) (cS (dC 70 dK) (cS .bool (cS (dC 76 .str) (cS (dC 79 (.int .i64)) (cS (dC 82 (.int .i64)) (cS Bt Y1))))))))))))))))::zs 41 [],.ptr⟩
def afM (X:SD.D Q6)(K:wy R):=qx (λy0 y1=>ke 0 K Q6 ((z1 (u y0) X.1),(u y1 X.2.1),X.2.2)) X.1.1
def akF:mS:=mS.nil.add 2 (Ao Q6 afM (λX=>(X.1.2.1,X.2.1.1)))
theorem ajB:yF E agi.g alQ akF (dj f112 0):=lk Q6 afM (λX=>(X.1.2.1,X.2.1.1)) λX x=>((z1 (u x.1) X.1),(u x.2 X.2.1),X.2.2)
theorem apS:GV 112 aoZ:=iW.qA (qn (Γ:=agi.g) (an:=alQ) (Λ:=akF) (agi.s) func112 (by kernel_rfl) (ao (cF ajB nF))) (λx a=>by kernel_rfl)
def amd:=agi.add apS
abbrev aia:SD:=⟨B::.ptr 1 0::.ptr 2 0::.ptr 3 0::bs 9 (DI::DI::bs 35 []),Z::(some Y5)::(some Y3)::(some Y4)::zs 46 [],.none⟩
def G57:=amd.q1 {mask:=mk [(5,[1,2,3,13,14])],mv:=[10,17,35,49],sb:=mg [(37,3)]} func57 [pf gI] [(true,Y0)] (c1 qT) aia (λX K=>qs (λy0 y1=>ke 0 K aia ((z1 (u y0) X.1),(z2 (u y1) X.2.1),X.2.2)) X.1.1 X.2.1.1 X.2.1.2.1) (λX=>(X.1.2.1,X.2.1.2.2.1)) (λX x=>((z1 (u x.1) X.1),(z2 (u x.2) X.2.1),X.2.2))
abbrev WG:SD:=⟨du (md bP)::B::DI::B::B::.ptr 5 0::B::.ptr 7 0::du (dC 98304 oF)::.ptr 9 0::DB::.ptr 11 0::du (dC 147456 oF)::bs 57 [],zs 5 ((sB (md .str))::Z::(some Y1)::Z::(some Y1)::Z::(some Y1)::zs 58 []),.none⟩
def anF:=G57.q1 {mask:=mk [(6,[0,2,5,7,8,9,10,11,12])],merge:=mg [(1,24),(15,67)],mv:=[55,68],sb:=mg [(9,9)]} func223 [pd (.sl bP),pf (.sl .str),pI,pf ui] [(false,(.sl (.own none) oF)),(true,Y1),rB] (c4 vp) WG (λX K=>mF (λy0 y1=>ke 0 K WG ((z4 (u y0) X.1),(z1 (u y1) X.2.1),X.2.2)) (λy0 y1 y2 y3 y4=>kr K WG ((z2 (w y0 (w y1 (u y2))) X.1),(z1 (w y3 (u y4)) X.2.1),X.2.2)) X.1.1 X.1.2.1 (q2 X) (q3 X) X.2.1.1 X.2.1.2.2.1 X.2.1.2.2.2.1) (λX=>(q4 X,X.2.1.2.1)) (λX x=>((z4 (u x.1) X.1),(z1 (u x.2) X.2.1),X.2.2))
abbrev WN:SD:=⟨du (md jF)::B::DB::B::B::du (md jF)::DI::DI::bs 16 [],zs 24 [],.none⟩
def acY:=anF.q1 {mask:=mk [(2,[0,2,5,6,7])],merge:=mg [(4,19)]} func253 [pd (.sl jF)] [rB] (c1 sV) WN (λX K=>rH (λy0=>ke 0 K WN ((z4 (u y0) X.1),X.2)) (λy0 y1=>kr K WN ((z1 (w y0 (z2 (u y1))) X.1),X.2)) X.1.1 X.1.2.1 (q2 X) (q3 X)) q4 (λX x=>((z4 (u x) X.1),X.2))
def apc:kH:=DW [pd (.sl jF),pI,pI] [(false,(.sl (.own none) oF))] [(false,(.sl .nil oF))] rfl λa=>jx a.1 a.2.1 a.2.2.1
def aj2:An:={mask:=mk [(5,[0,2,7,30,31,32]),(13,[6,7,54,55,56])],merge:=mg [(1,25)],nils:=[6],mv:=[49,64]}
abbrev Rh:SD:=⟨du (md jF)::B::DI::bs 4 (du (dC 86016 oF)::bs 22 (du (md jF)::DI::DI::bs 32 [])),zs 65 [],.none⟩
def afZ (X:SD.D Rh)(K:wy R):=kV (λy0 y1=>ke 0 K Rh ((z2 (w y0 (z2 (u y1))) X.1),X.2)) X.1.1 X.1.2.1 (q3 X) (q4 X)
abbrev Lb:SD:=⟨bs 7 (du (dC 86016 oF)::bs 46 (du (.sl .loc oF)::DI::DI::bs 8 [])),zs 65 [],.none⟩
abbrev WD:SD:=⟨bs 6 (du (.sl .nil oF)::du (dC 86016 oF)::bs 46 (du (.sl .loc oF)::DI::DI::bs 8 [])),zs 65 [],.none⟩
def aac (X:SD.D Lb)(K:wy R):=kv (λy0=>ke 2 K Lb ((z3 (u y0) X.1),X.2)) (λy0 y1=>kr K WD ((y0,(X.1.1,(X.1.2.1,(X.1.2.2.1,(y1,()))))),(),())) X.1.1 X.1.2.1 (q2 X)
def aiV:mS:=(mS.nil.add 5 (Ao Rh afZ (λX=>(q2 X,q5 X)))).add 13 (Ao Lb aac q3)
theorem ajO:yF E acY.g aj2 aiV (dj f201 0):=lk Rh afZ (λX=>(q2 X,q5 X)) λX x=>((z2 (w x.1 (z2 (u x.2))) X.1),X.2)
theorem ahb:yF E acY.g aj2 aiV (dj f201 1):=lk Lb aac q3 λX x=>((z3 (u x) X.1),X.2)
theorem ap5:GV 201 apc:=iW.ofAlt (ad6 (Γ:=acY.g) (an:=aj2) (Λ:=aiV) (by rfl) (acY.s) func201 (by kernel_rfl) (ao (cF ajO (cF ahb nF)))) (λa=>by kernel_rfl)
def aiQ:=acY.add ap5
def aj3:An:={mask:=mk [(5,[0,6,18,19,20]),(14,[0,2,3,4,5,6,9,10,11,51,52])],mv:=[24,65]}
abbrev Ri:SD:=⟨du (md oF)::bs 5 (du (dC 73728 jF)::bs 11 (du (md oF)::DI::DI::bs 47 [])),zs 68 [],.none⟩
def af0 (X:SD.D Ri)(K:wy R):=lY (λy0 y1=>ke 0 K Ri ((z1 (w y0 (z2 (u y1))) X.1),X.2)) X.1.1 (q2 X) (q3 X)
abbrev Lc:SD:=⟨du (md oF)::bs 5 (du (dC 73728 jF)::B::B::DI::DI::du (dC 135168 oF)::bs 39 (DI::DI::bs 15 [])),zs 68 [],.none⟩
abbrev WH:SD:=⟨du (md oF)::B::du (dC 24576 jF)::DI::DI::DB::du (dC 73728 jF)::B::B::DI::DI::du (dC 135168 oF)::bs 39 (DI::DI::bs 15 []),zs 68 [],.none⟩
def aad (X:SD.D Lc)(K:wy R):=iu (λy0=>ke 2 K Lc ((z6 (u y0) X.1),X.2)) (λy0 y1 y2 y3 y4=>kr K WH ((X.1.1,(y0,(y1,(y2,(y3,(X.1.2.1,(X.1.2.2.1,(X.1.2.2.2.1,(X.1.2.2.2.2.1,(X.1.2.2.2.2.2.1,(y4,()))))))))))),(),())) X.1.1 X.1.2.1 (q2 X) (q3 X) (q4 X) (q5 X)
def akM:mS:=(mS.nil.add 5 (Ao Ri af0 (λX=>(X.1.2.1,q4 X)))).add 14 (Ao Lc aad q6)
theorem ajP:yF E aiQ.g aj3 akM (dj f224 0):=lk Ri af0 (λX=>(X.1.2.1,q4 X)) λX x=>((z1 (w x.1 (z2 (u x.2))) X.1),X.2)
theorem ahc:yF E aiQ.g aj3 akM (dj f224 1):=lk Lc aad q6 λX x=>((z6 (u x) X.1),X.2)
def anG:=aiQ.qk aj3 func224 [pd (.sl oF)] [(false,(.sl (.own none) jF)),rI,rI,rB] (c1 oO) (cF ajP (cF ahc nF))
abbrev WI:SD:=⟨du (md bP)::B::DI::B::B::.ptr 5 0::B::B::du .str::DB::du .str::bs 7 (du (md jF)::DI::DI::bs 21 []),zs 5 ((sB (md .str))::zs 36 []),.none⟩
def anH:=anG.q1 {mask:=mk [(5,[0,2,5,8,9,10,18,19,20])]} func225 [pd (.sl bP),pf (.sl .str),pI,pd (.sl jF)] [rS,rB] (c4 qp) WI (λX K=>mC (λy0 y1=>ke 0 K WI ((z4 (w y0 (z2 (u y1))) X.1),X.2)) (λy0 y1 y2 y3=>kr K WI ((z2 (w y0 (w y1 (w y2 (z2 (u y3))))) X.1),X.2)) X.1.1 X.1.2.1 (q2 X) (q3 X) (q5 X) (q6 X) X.2.1.1) (λX=>(q4 X,q7 X)) (λX x=>((z4 (w x.1 (z2 (u x.2))) X.1),X.2))
def an3:=anH.q0 {} func251 [pd .str] [rI,rI] (c1 qZ)
def ani:=an3.q0 {} func197 [pf dy] [rS,rB] (c1 mW)
def anI:=ani.q0 {merge:=mg [(3,38),(9,74),(12,84),(17,117)]} func226 [pd .str] [rS,rB] (c1 xe)
def aiR:=anI.q0 {merge:=mg [(1,2)]} func204 [pf dy] [rB] (c1 mU)
def aj4:An:={mask:=mk [(3,[0,3,4]),(7,[0,3,4,5])]}
abbrev Rn:SD:=⟨du .str::B::B::du (.int .u32)::DI::DI::bs 28 [],zs 34 [],.none⟩
def af2 (X:SD.D Rn)(K:wy R):=pT (λy0 y1=>ke 2 K Rn ((z1 (w y0 (z1 (u y1))) X.1),X.2)) X.1.1 (q2 X)
abbrev Rm:SD:=⟨du .str::B::B::du (.int .u32)::DI::bs 29 [],zs 34 [],.none⟩
def af1 (X:SD.D Rm)(K:wy R):=sP (λy0 y1=>ke 0 K Rm ((z1 (w y0 (u y1)) X.1),X.2)) X.1.1
def akN:mS:=(mS.nil.add 7 (Ao Rn af2 (λX=>(X.1.2.1,q3 X)))).add 3 (Ao Rm af1 (λX=>(X.1.2.1,q2 X)))
theorem ajR:yF E aiR.g aj4 akN (dj f285 1):=lk Rn af2 (λX=>(X.1.2.1,q3 X)) λX x=>((z1 (w x.1 (z1 (u x.2))) X.1),X.2)
theorem ajQ:yF E aiR.g aj4 akN (dj f285 0):=lk Rm af1 (λX=>(X.1.2.1,q2 X)) λX x=>((z1 (w x.1 (u x.2)) X.1),X.2)
def aoz:=aiR.qk aj4 func285 [pd .str] [rI] (c1 CN) (cF ajQ (cF ajR nF))
def an5:=aoz.q0 {} func254 [pd .str] [rS] (c1 vr)
def aoH:=an5.q0 {} func293 [pf dy] [rS,rB] (c1 tA)
abbrev adF:SD:=⟨B::B::B::du (dC 36864 .str)::bs 5 (du (md dy)::DI::DI::bs 15 []),zs 27 [],.none⟩
def aol:=aoH.q1 {mask:=mk [(3,[3,9,10,11])],mv:=[21,26]} func270 [pd (.sl dy)] [(false,(.sl (.own none) .str))] (c1 xh) adF (λX K=>nR (λy0 y1=>ke 0 K adF ((w y0 (z2 (u y1)) X.1),X.2)) X.1.2.1 (q2 X)) (λX=>(X.1.1,q3 X)) (λX x=>((w x.1 (z2 (u x.2)) X.1),X.2))
abbrev adG:SD:=⟨B::DI::.ptr 2 0::B::B::du .str::du (dC 73728 dy)::DI::bs 80 [],Z::Z::(some Y2)::zs 85 [],.none⟩
def aom:=aol.q1 {mask:=mk [(8,[1,2,5,6,7])],merge:=mg [(1,17),(4,30)],mv:=[83,87]} func271 [pf dy,pI] [(false,(.sl (.own none) dy))] (c2 CQ) adG (λX K=>xn (λy0 y1=>ke 0 K adG ((z2 (w y0 (u y1)) X.1),X.2)) X.1.1 X.1.2.1 X.2.1.1) (λX=>(q2 X,q3 X)) (λX x=>((z2 (w x.1 (u x.2)) X.1),X.2))
def anJ:=aom.q0 {} func227 [pf dy,pI] [(false,(.sl (.own none) .str))] (c2 tF)
def amW:=anJ.q0 {merge:=mg [(1,28)],sb:=mg [(8,8)]} func171 [pd (.sl bP),pf (.sl .str),pI,pf ui] [(true,Y1),(false,(.sl (.own none) .str)),rI] (c4 qw)
abbrev ai5:SD:=⟨du (md bP)::B::DI::B::B::.ptr 5 0::B::.ptr 7 0::.ptr 8 0::du (dC 110592 .str)::DI::DI::du (dC 147456 .str)::DI::DI::bs 30 [],zs 5 ((sB (md .str))::Z::(some Y1)::(some Y1)::zs 36 []),.none⟩
abbrev aav:SD:=⟨du (md bP)::B::DI::B::B::.ptr 5 0::B::.ptr 7 0::.ptr 8 0::du (dC 110592 .str)::DI::DI::du (.sl .loc .str)::DI::DI::bs 30 [],zs 5 ((sB (md .str))::Z::(some Y1)::(some Y1)::zs 36 []),.none⟩
def ame:=amW.q1 {mask:=mk [(3,[0,2,5,7,8,9,10,11,12,13,14])],mv:=[35,42]} func113 [pd (.sl bP),pf (.sl .str),pI,pf ui] [(true,Y1),(false,(.sl (.own none) .str)),rI,rI] (c4 rR) ai5 (λX K=>nz (λy0 y1 y2 y3 y4 y5 y6 y7=>kr K aav ((X.1.1,(X.1.2.1,(y0,(y1,(y2,(y3,(y4,(y5,())))))))),(X.2.1.1,(y6,(y7,()))),())) X.1.1 X.1.2.1 (q2 X) (q3 X) (q4 X) X.2.1.1 X.2.1.2.2.1) (λX=>(q5 X,q6 X,q7 X,X.2.1.2.1)) (λX x=>((z5 (w x.1 (w x.2.1 (u x.2.2.1))) X.1),(z1 (u x.2.2.2) X.2.1),X.2.2))
abbrev adm:SD:=⟨B::DI::.ptr 2 0::B::.ptr 4 0::B::.ptr 6 0::du (dC 86016 (.int .i64))::bs 20 (du (md jW)::DI::DI::bs 26 []),Z::Z::(some Y26)::Z::(sB (cS Y1 (cS (jV (jV (jV (dC 49174 (.int .i64))))) (cS (dC 49177 jW) Bt))))::Z::(sB (cS Y1 (cS (jV (jV (jV (dC 73750 (.int .i64))))) (cS (dC 73753 jW) Bt))))::zs 50 [],.none⟩
def amf:=ame.q1 {mask:=mk [(6,[1,2,4,6,7,28,29,30])],merge:=mg [(2,22)],mv:=[23,34,43,55,56]} func114 [pf nJ,pI] [(true,Y18),(false,(.sl (.own none) (.int .i64)))] (c2 mz) adm (λX K=>ku (λy0 y1 y2=>ke 0 K adm ((z1 (w y0 (z2 (u y1))) X.1),(z2 (u y2) X.2.1),X.2.2)) X.1.1 (q2 X) (q3 X) X.2.1.1 X.2.1.2.1) (λX=>(X.1.2.1,q4 X,X.2.1.2.2.1)) (λX x=>((z1 (w x.1 (z2 (u x.2.1))) X.1),(z2 (u x.2.2) X.2.1),X.2.2))
def G58:=amf.q0 {mv:=[15,33,37,51,54,58]} func58 [pf gI] [(true,Y0)] (c1 mD)
def amg:=G58.q0 {merge:=mg [(1,11)]} func115 [pf gG] [(true,Y13),rB] (c1 oU)
def amh:=amg.q0 {} func116 [pf gG] [(true,Y13)] (c1 xN)
abbrev aib:SD:=⟨B::DI::B::B::.ptr 4 0::B::.ptr 6 0::DI::bs 17 (DI::DI::bs 53 []),zs 4 ((some Y7)::Z::(some Y6)::zs 73 []),.none⟩
def G59:=amh.q1 {mask:=mk [(6,[1,4,6,7,25,26])],merge:=mg [(2,21)],mv:=[22,78]} func59 [pf gI,pI] [(true,Y0),rI] (c2 nT) aib (λX K=>nv (λy0 y1 y2=>ke 0 K aib ((z1 (w y0 (z1 (u y1))) X.1),(z1 (u y2) X.2.1),X.2.2)) X.1.1 (q2 X) X.2.1.1) (λX=>(X.1.2.1,q3 X,X.2.1.2.1)) (λX x=>((z1 (w x.1 (z1 (u x.2.1))) X.1),(z1 (u x.2.2) X.2.1),X.2.2))
def ami:=G59.q0 {} func117 [pf gG] [(true,Y13)] (c1 tI)
abbrev aic:SD:=⟨B::B::.ptr 2 0::.ptr 3 0::bs 9 (DI::DI::bs 14 []),Z::Z::(some Y3)::(some Y4)::zs 25 [],.none⟩
def G60:=ami.q1 {mask:=mk [(5,[2,3,13,14])],mv:=[10,28]} func60 [pf gI] [(true,Y0)] (c1 sS) aic (λX K=>rF (λy0 y1=>ke 0 K aic ((z1 (u y0) X.1),(z1 (u y1) X.2.1),X.2.2)) X.1.1 X.2.1.1) (λX=>(X.1.2.1,X.2.1.2.1)) (λX x=>((z1 (u x.1) X.1),(z1 (u x.2) X.2.1),X.2.2))
abbrev adu:SD:=⟨B::B::B::DI::B::B::B::du (md jW)::DI::DI::bs 9 [],zs 19 [],.none⟩
def anj:=G60.q1 {mask:=mk [(3,[3,7,8,9])]} func198 [pf nJ] [rI] (c1 qz) adu (λX K=>mG (λy0 y1=>ke 0 K adu ((w y0 (z2 (u y1)) X.1),X.2)) X.1.2.1 (q2 X)) (λX=>(X.1.1,q3 X)) (λX x=>((w x.1 (z2 (u x.2)) X.1),X.2))
def agj:=anj.q0 {merge:=mg [(2,20)],mv:=[21,28],mb:=mg [(28,7)],sb:=mg [(4,4)]} func199 [pf jM,pI] [(true,Y9),(false,(.sl (.own none) (.int .i64))),rB] (c2 rQ)
def apb:kH:=DW [pd (.sl bP),pf (.sl .str),pI,pf jM,pd (.sl (.int .i64)),pd .str,pI] [(true,(.sl (.own none) .str)),(false,(.sl (.own none) jF)),rB] [(true,(.sl .arg .str)),(false,(.sl (.own none) jF)),rB] rfl λa=>nV a.1 a.2.1 a.2.2.1 a.2.2.2.1 a.2.2.2.2.1 a.2.2.2.2.2.1 a.2.2.2.2.2.2.1
def alT:An:={mask:=mk [(3,[0,2,5,6,8,10,14,15,16,17,24,25,26])],peel:=[3],mv:=[40,49,53,54,55,65,66],sb:=mg [(21,21)]}
abbrev Rf:SD:=⟨du (md bP)::B::DI::B::B::du .str::DI::B::.ptr 8 0::B::.ptr 10 0::B::B::B::.ptr 14 0::du (dC 184320 jF)::DB::du (dC 208896 jF)::bs 6 (du (md (.int .i64))::DI::DI::bs 40 []),zs 8 ((sB (dC 98305 .str))::Z::(some Y14)::Z::Z::Z::(sB (dC 172033 .str))::zs 52 []),.none⟩
abbrev aaw:SD:=⟨du (md bP)::B::DI::B::B::du .str::DI::B::.ptr 8 0::B::.ptr 10 0::B::B::B::.ptr 14 0::du (dC 184320 jF)::DB::du (dC 208896 jF)::bs 6 (du (md (.int .i64))::DI::DI::bs 40 []),zs 8 ((sB (.sl .loc .str))::Z::(some Y14)::Z::Z::Z::(sB (dC 172033 .str))::zs 52 []),.none⟩
def afY (X:SD.D Rf)(K:wy R):=kL (λy0 y1 y2 y3=>ke 0 K Rf ((z2 (w y0 (z3 (w y1 (z2 (u y2))))) X.1),(u y3 X.2.1),X.2.2)) (λy0 y1 y2 y3 y4 y5 y6=>kr K aaw ((X.1.1,(X.1.2.1,(y0,(X.1.2.2.2.1,(y1,(y2,(y3,(X.1.2.2.2.2.2.2.2.1,(X.1.2.2.2.2.2.2.2.2.1,(y4,())))))))))),(y5,(X.2.1.2.1,(y6,()))),())) X.1.1 X.1.2.1 (q3 X) (q4 X) (q5 X) (q7 X) (q8 X) X.2.1.2.1 X.2.1.2.2.1
def akL:mS:=mS.nil.add 3 (Ao Rf afY (λX=>(q2 X,q6 X,q9 X,X.2.1.1)))
theorem ajN:yF E agj.g alT akL (dj f200 0):=lk Rf afY (λX=>(q2 X,q6 X,q9 X,X.2.1.1)) λX x=>((z2 (w x.1 (z3 (w x.2.1 (z2 (u x.2.2.1))))) X.1),(u x.2.2.2 X.2.1),X.2.2)
theorem ap4:GV 200 apb:=iW.ofAlt (ad6 (Γ:=agj.g) (an:=alT) (Λ:=akL) (by rfl) (agj.s) func200 (by kernel_rfl) (ao (cF ajN nF))) (λa=>by kernel_rfl)
def ank:=agj.add ap4
abbrev WE:SD:=⟨du (md bP)::B::DI::B::B::B::.ptr 6 0::B::.ptr 8 0::B::.ptr 10 0::.ptr 11 0::DB::.ptr 13 0::.ptr 14 0::bs 6 (du (md .str)::DI::DI::bs 21 []),zs 6 ((sB (md .str))::Z::(some Y1)::Z::(sB (dC 122881 .str))::(some Y1)::Z::(sB (dC 159745 .str))::(some Y1)::zs 30 []),.none⟩
def anl:=ank.q1 {mask:=mk [(3,[0,2,6,8,10,11,12,13,14,21,22,23])],mv:=[27,43],mb:=mg [(43,13)],sb:=mg [(10,10),(11,11),(13,13),(14,14)]} func202 [pd (.sl bP),pf (.sl .str),pI,pf ui,pd (.sl .str)] [(true,(.sl (.own none) .str)),(true,Y1),rB] (c5 kD) WE (λX K=>lN (λy0 y1 y2=>ke 0 K WE ((z5 (u y0) X.1),(z4 (w y1 (u y2)) X.2.1),X.2.2)) (λy0 y1 y2 y3 y4 y5=>kr K WE ((z2 (w y0 (z2 (u y1))) X.1),(z2 (w y2 (w y3 (w y4 (u y5)))) X.2.1),X.2.2)) X.1.1 X.1.2.1 (q2 X) (q3 X) (q4 X) X.2.1.1 X.2.1.2.1 X.2.1.2.2.1 X.2.1.2.2.2.1) (λX=>(q5 X,X.2.1.2.2.2.2.1,X.2.1.2.2.2.2.2.1)) (λX x=>((z5 (u x.1) X.1),(z4 (w x.2.1 (u x.2.2)) X.2.1),X.2.2))
abbrev Zb:SD:=⟨du (md bP)::B::DI::bs 7 (.ptr 10 0::B::B::B::.ptr 14 0::.ptr 15 0::B::.ptr 17 0::.ptr 18 0::B::B::B::.ptr 22 0::B::du (dC 294912 (.int .i64))::B::.ptr 26 0::B::du (dC 344064 oF)::du (dC 356352 .str)::bs 109 (du (.sl .loc oF)::DI::DI::bs 44 [])),zs 10 ((some Y26)::Z::Z::Z::(sB (dC 172033 .str))::(sB (cS Y1 (cS (jV (jV (jV (dC 184342 (.int .i64))))) (cS (dC 184345 jW) Bt))))::Z::(sB (dC 208897 .str))::(sB (cS Y1 (cS (jV (jV (jV (dC 221206 (.int .i64))))) (cS (dC 221209 jW) Bt))))::Z::Z::Z::(sB (cS Y1 (cS (jV (jV (jV (dC 270358 (.int .i64))))) (cS (dC 270361 jW) Bt))))::Z::Z::Z::(sB (.sl .loc .str))::zs 159 []),.none⟩
def amt:=anl.q1 {mask:=mk [(19,[0,2,10,14,15,17,18,22,24,26,28,29,139,140,141])],merge:=mg [(2,57),(6,92),(15,135)],mv:=[58,59,93,94,97,107,108,109,122,123,136,137,145,151,164,165,169,174,184,185],mb:=mg [(58,17),(59,18),(93,17),(94,18),(107,17),(108,18),(136,17),(137,18),(164,17),(165,18),(184,26),(185,22)],sb:=mg [(14,14),(15,15),(17,17),(18,18),(26,26)]} func136 [pd (.sl bP),pf (.sl .str),pI,pf nJ,pf dy,pI,pI] [(true,(.sl (.own none) .str)),(true,Y18),rB] (c7 tG) Zb (λX K=>gQ (λy0 y1=>ke 0 K Zb ((z4 (w y0 (z2 (u y1))) X.1),X.2)) X.1.1 X.1.2.1 (q2 X) (q3 X) (q5 X) (q6 X) X.2.1.1 X.2.1.2.1 X.2.1.2.2.1 X.2.1.2.2.2.1 X.2.1.2.2.2.2.1 X.2.1.2.2.2.2.2.1 X.2.1.2.2.2.2.2.2.1) (λX=>(q4 X,q7 X)) (λX x=>((z4 (w x.1 (z2 (u x.2))) X.1),X.2))
def G75:=amt.q0 {mv:=[19,20,34,36,38]} func75 [pf gI,pf dy,pI,pI] [(true,Y0),rB] (c4 xj)
def anm:=G75.q0 {merge:=mg [(2,17)]} func203 [pd .str] [rS,rB] (c1 xd)
def amu:=anm.q0 {} func137 [pd .str] [(true,Y2),rI] (c1 vm)
abbrev adM:SD:=⟨B::DI::B::B::DB::B::B::du (md (.int .i64))::DI::DI::bs 7 [],zs 17 [],.none⟩
def G33:=amu.q1 {mask:=mk [(2,[1,4,7,8,9])]} func33 [pd (.sl (.int .i64)),pI] [rB] (c2 uy) adM (λX K=>vx (λy0=>ke 0 K adM ((z4 (u y0) X.1),X.2)) (λy0 y1=>kr K adM ((z1 (w y0 (z2 (u y1))) X.1),X.2)) X.1.1 X.1.2.1 (q2 X) (q3 X)) q4 (λX x=>((z4 (u x) X.1),X.2))
def amv:=G33.q0 {merge:=mg [(1,4)]} func138 [pf AJ,pf dy] [rB] (c2 yM)
def aoA:=amv.q0 {} func286 [pI,pI,pI] [rB] (c3 pB)
def an6:=aoA.q0 {merge:=mg [(1,4)]} func255 [pf ko,pf dy] [rB] (c2 rJ)
abbrev adw:SD:=⟨du (md ko)::B::B::.ptr 3 0::B::DI::bs 5 (du (md ko)::DI::DI::bs 24 []),Z::Z::Z::(some Y2)::zs 34 [],.none⟩
def ann:=an6.q1 {mask:=mk [(5,[0,3,5,11,12,13])],merge:=mg [(7,34)]} func205 [pd (.sl ko),pf dy] [rI] (c2 xg) adw (λX K=>rD (λy0 y1=>ke 0 K adw ((z1 (w y0 (z2 (u y1))) X.1),X.2)) X.1.1 (q2 X) (q3 X) X.2.1.1) (λX=>(X.1.2.1,q4 X)) (λX x=>((z1 (w x.1 (z2 (u x.2))) X.1),X.2))
def ano:=ann.q0 {} func206 [pf (.sl iG),pf qm] [rI] (c2 xf)
def an7:=ano.q0 {merge:=mg [(2,17)]} func256 [pf EZ,pf qm] [rI] (c2 yP)
def anq:=an7.q0 {merge:=mg [(2,18)]} func208 [pf EZ,pI,pf qm] [rI] (c3 rM)
def amw:=anq.q0 {merge:=mg [(1,17)]} func139 [pf uj,pI,pf dy] [rI] (c3 rN)
def an8:=amw.q0 {} func257 [pf dy,pf dy] [rB] (c2 xm)
def anr:=an8.q0 {merge:=mg [(1,42),(4,76),(6,4)]} func209 [pf QQ,pf dy] [rB] (c2 vc)
def ans:=anr.q0 {} func210 [pf QQ,pf dy] [(true,(.pair Y2 (.pair (.int .i64) (.int .i64))))] (c2 Fi)
def ant:=ans.q0 {} func211 [pf dy] [(true,(.pair Y2 (.pair (.int .i64) (.int .i64))))] (c1 En)
def amx:=ant.q0 {merge:=mg [(1,30),(3,44)],mv:=[53,68,77],mb:=mg [(77,16)],sb:=mg [(14,14),(15,15)]} func140 [pd (.sl bP),pf (.sl .str),pI,pf dZ,pd .str,pf dy,pd .bool] [(true,(.sl (.own none) .str)),(true,Y10)] (c7 oR)
def G77:=amx.q0 {mv:=[14,34,46,62,69,90,103],sb:=mg [(92,5)]} func77 [pf gI,pd .str] [(true,Y0)] (c2 rE)
def amb:=G77.q0 {merge:=mg [(1,12),(3,31),(5,2)]} func110 [pf BQ] [rB] (c1 CM)
def G56:=amb.q0 {merge:=mg [(1,15)],mv:=[22,34,35]} func56 [pf gI,pf BQ] [(true,Y0),rI] (c2 CO)
abbrev ah4:SD:=⟨bs 4 (.ptr 4 0::B::.ptr 6 0::du (dC 86016 (.int .i64))::bs 16 (du (md BQ)::DI::DI::bs 17 [])),zs 4 ((some Y7)::Z::(some Y6)::zs 37 []),.none⟩
def G21:=G56.q1 {mask:=mk [(6,[4,6,7,24,25,26])],merge:=mg [(2,21)],mv:=[22,30,36,37,42,43]} func21 [pf gI,pd (.sl BQ)] [(true,Y0),(false,(.sl (.own none) (.int .i64)))] (c2 oS) ah4 (λX K=>tE (λy0 y1 y2=>ke 0 K ah4 ((w y0 (z2 (u y1)) X.1),(z1 (u y2) X.2.1),X.2.2)) X.1.2.1 (q2 X) X.2.1.1) (λX=>(X.1.1,q3 X,X.2.1.2.1)) (λX x=>((w x.1 (z2 (u x.2.1)) X.1),(z1 (u x.2.2) X.2.1),X.2.2))
abbrev ah5:SD:=⟨B::DI::DI::B::B::B::.ptr 6 0::.ptr 7 0::DI::bs 32 [],zs 6 ((some Y6)::(sB (cS (dC 86017 .str) (cS (dC 86020 bP) (cS (cS Y1 (cS (jV (jV (jV (dC 86044 (.int .i64))))) (cS (dC 86047 jW) Bt))) (cS (dC 86053 dZ) (cS (dC 86056 jM) (cS (dC 86059 gG) (cS (dC 86062 .bool) (cS (jV (cS .bool (dC 86071 (.int .i64)))) (cS (cS (dC 86074 ko) (cS (dC 86077 iG) (cS .str (dC 86083 (.int .i64))))) (cS (dC 86086 dK) (cS .bool (cS (dC 86092 .str) (cS (dC 86095 (.int .i64)) (cS (dC 86098 (.int .i64)) (cS Bt Y1))))))))))))))))::zs 33 []),.none⟩
def G22:=G21.q1 {mask:=mk [(6,[1,2,6,7,8])],merge:=mg [(2,23)],mv:=[24,33,40]} func22 [pf gI,pI,pI] [(true,Y0)] (c3 kf) ah5 (λX K=>qo (λy0 y1=>ke 0 K ah5 ((z2 (u y0) X.1),(z1 (u y1) X.2.1),X.2.2)) X.1.1 X.1.2.1 X.2.1.1) (λX=>(q2 X,X.2.1.2.1)) (λX x=>((z2 (u x.1) X.1),(z1 (u x.2) X.2.1),X.2.2))
def G61:=G22.q0 {} func61 [pd (.sl bP),pf (.sl .str),pI,pf dZ] [rB] (c4 oM)
abbrev adz:SD:=⟨B::.ptr 1 0::DB::bs 13 (du (md dZ)::DI::DI::bs 14 []),Z::(some Y5)::zs 31 [],.none⟩
def G23:=G61.q1 {mask:=mk [(4,[1,2,16,17,18])],merge:=mg [(1,14),(6,31)]} func23 [pf gI] [rB] (c1 rG) adz (λX K=>tD (λy0=>ke 0 K adz ((z3 (u y0) X.1),X.2)) (λy0 y1=>kr K adz ((w y0 (z2 (u y1)) X.1),X.2)) X.1.1 X.1.2.1 (q2 X) X.2.1.1) q3 (λX x=>((z3 (u x) X.1),X.2))
abbrev ah6:SD:=⟨B::B::B::DI::B::B::B::du (md dZ)::DI::DI::bs 9 [],zs 19 [],.none⟩
def G24:=G23.q1 {mask:=mk [(3,[3,7,8,9])]} func24 [pf gI] [rI] (c1 lx) ah6 (λX K=>nu (λy0 y1=>ke 0 K ah6 ((w y0 (z2 (u y1)) X.1),X.2)) X.1.2.1 (q2 X)) (λX=>(X.1.1,q3 X)) (λX x=>((w x.1 (z2 (u x.2)) X.1),X.2))
def G62:=G24.q0 {merge:=mg [(2,6)]} func62 [pd (.sl dK),pd (.sl dK),pf qm] [rB] (c3 qX)
def n25:An:={mask:=mk [(2,[0,1,4,9,10,11]),(8,[0,1,4,22,23,24])]}
abbrev Tg:SD:=⟨du (md dK)::du (md dK)::B::B::DB::bs 4 (du (md dK)::DI::DI::bs 23 []),zs 35 [],.none⟩
def aiz (X:SD.D Tg)(K:wy R):=rK (λy0=>ke 0 K Tg ((z5 (u y0) X.1),X.2)) (λy0 y1=>kr K Tg ((z2 (w y0 (z2 (u y1))) X.1),X.2)) X.1.1 X.1.2.1 (q2 X) (q3 X) (q4 X)
abbrev Th:SD:=⟨du (md dK)::du (md dK)::B::B::DB::bs 17 (du (md dK)::DI::DI::bs 10 []),zs 35 [],.none⟩
def aiA (X:SD.D Th)(K:wy R):=rL (λy0=>ke 2 K Th ((z5 (u y0) X.1),X.2)) (λy0 y1=>kr K Th ((z2 (w y0 (z2 (u y1))) X.1),X.2)) X.1.1 X.1.2.1 (q2 X) (q3 X) (q4 X)
def L25:mS:=(mS.nil.add 2 (Ao Tg aiz q5)).add 8 (Ao Th aiA q5)
theorem alC:yF E G62.g n25 L25 (dj f25 0):=lk Tg aiz q5 λX x=>((z5 (u x) X.1),X.2)
theorem alD:yF E G62.g n25 L25 (dj f25 1):=lk Th aiA q5 λX x=>((z5 (u x) X.1),X.2)
def G25:=G62.qk n25 func25 [pd (.sl dK),pd (.sl dK)] [rB] (c2 mV) (cF alC (cF alD nF))
abbrev sG:ay PS:=[pd (.sl (.int .u8))]
def yA:kH:=Pm sG [rB] (c1 vC)
def yD:An:={mask:=mk [(9,[3,4,5,6,8])],merge:=mg [(16,76),(18,2)],mv:=[48]}
abbrev lV:SD:=⟨B::B::B::.ptr 3 0::du (.sl .loc BQ)::.ptr 5 0::.ptr 6 0::B::DI::bs 81 [],Z::Z::Z::(sB (cS (.sl .loc .str) (cS (.sl .loc bP) (cS Y23 (cS (.sl .loc dZ) (cS (.sl .loc jM) (cS (.sl .loc gG) Y16)))))))::Z::(sB (cS (.sl .loc .str) (cS (.sl .loc bP) (cS Y23 (cS (.sl .loc dZ) (cS (.sl .loc jM) (cS (dC 61483 gG) Y16)))))))::(some Y13)::zs 83 [],.none⟩
def wC (X:SD.D lV)(K:wy R):=ra (λy0 y1=>ke 0 K lV ((z1 (u y0) X.1),(z1 (u y1) X.2.1),X.2.2)) X.1.1 X.2.1.1 X.2.1.2.2.1
def yy:mS:=mS.nil.add 9 (Ao lV wC (λX=>(X.1.2.1,X.2.1.2.1)))
theorem DG:yF E G25.g yD yy (dj f5 0):=lk lV wC (λX=>(X.1.2.1,X.2.1.2.1)) λX x=>((z1 (u x.1) X.1),(z1 (u x.2) X.2.1),X.2.2)
theorem FE:GV 5 yA:=fk yD G25.s func5 (Λ:=yy) (cF DG nF)
end
end Go.Proofs.YtnmppgnbjfdffaaGreat.Fn
