import Derived.Test.YtinkcmefgciifaaGreatDnSig
import Derived.Test.YtinkcmefgciifaaGreatPure
import Derived.Test.YtinkcmefgciifaaGreatRows
/- Each function of the program is its pure function (made by gen.py). -/
namespace Go.Proofs.YtinkcmefgciifaaGreat.Fn
open Go.Dn
open Go.Pu Go.Proofs.Tryz
set_option maxRecDepth 100000
set_option linter.unusedVariables false
noncomputable section
variable {an:An} {Γ:Bx} {Λ:nq} {f:Nat} {P:Program} {A0 A1 A2 A3 A4 A5 A6 C R σ:Type} {rs:az (Bool×FT)} {s:az PS}
abbrev xV (R:Type):=Ex->AS->Option R
abbrev Dq:FT:=.int .i64
abbrev dq (a b:FT):FT:=.pair a b
abbrev kW (b:FT):FT:=.pair (.int .i64) b
abbrev dF (n:Nat)(t:CT):FT:=.sl (.own (some n)) t
abbrev ur (t:FT):Option FT:=some t
abbrev dw (t:FT):PD:=.data false t
abbrev lH (t:FT):PD:=.data true t
abbrev nn (t:CT):FT:=.sl .arg t
abbrev Ho:=jj Tryz.prog
abbrev B:PD:=.bot
abbrev DI:PD:=.data false (.int .i64)
abbrev DB:PD:=.data false .bool
abbrev Z:aC FT:=none
theorem nF {p:Code->Prop}:∀x∈([]:az Code),p x:=λ_ h=>nomatch h
theorem cF {p:Code->Prop}{a:Code}{l:az Code}(h:p a)(t:∀x∈l,p x):∀x∈a::l,p x:=List.forall_mem_cons.2 ⟨h,t⟩
theorem hF {p:Code->Prop}{l m:az Code}(e:l=m)(h:∀x∈m,p x):∀x∈l,p x:=e▸h
theorem fk {E:Env}{F:CY s->aC (mA rs)}{fn:Func}(an:An)(hS:Sound P E Γ)(hf:P.funcs[f]?=some fn){l:az Code}(h:∀c∈l,AF E Γ an Λ c)(hn:(fn.name== "runtime.NumGoroutine")=false:=by kernel_rfl)(hl:jE (fn.body.getD .skip)=l:=by kernel_rfl)(gJ:an.cut=[]:=by kernel_rfl)(hF:∀a,FL E Γ an Λ fn rs (nb s a)=F a:=by intro a;kernel_rfl):jj P f (RT s rs F):=jj.of (adm hS hf hn (BM.of (Fn.hF hl h) gJ)) hF
theorem ao {E:Env}{b:Code}{l:az Code}(h:∀c∈l,AF E Γ an Λ c)(hl:jE b=l:=by kernel_rfl)(hc:an.cut=[]:=by kernel_rfl):BM E Γ an Λ b:=BM.of (Fn.hF hl h) hc
theorem ac {E:Env}{b:Code}{l m:az Code}(h:∀c∈l,AF E Γ an Λ c)(hc:∀c∈m,YA E Γ an Λ c)(hl:jE b=l:=by kernel_rfl)(hm:mI an.cut b=m:=by kernel_rfl):BM E Γ an Λ b:=⟨Fn.hF hl h,Fn.hF hm hc⟩
theorem fc {E:Env}{F:CY s->aC (mA rs)}{fn:Func}(an:An)(hS:Sound P E Γ)(hf:P.funcs[f]?=some fn){l m:az Code}(h:∀c∈l,AF E Γ an Λ c)(hc:∀c∈m,YA E Γ an Λ c)(hn:(fn.name== "runtime.NumGoroutine")=false:=by kernel_rfl)(hl:jE (fn.body.getD .skip)=l:=by kernel_rfl)(hm:mI an.cut (fn.body.getD .skip)=m:=by kernel_rfl)(hF:∀a,FL E Γ an Λ fn rs (nb s a)=F a:=by intro a;kernel_rfl):jj P f (RT s rs F):=jj.of (adm hS hf hn ⟨Fn.hF hl h,Fn.hF hm hc⟩) hF
abbrev pd (t:CT):PS:=.data false t
abbrev pf (t:CT):PS:=.data true t
abbrev pI:PS:=.data false (.int .i64)
abbrev rB:Bool×FT:=(false,.bool)
abbrev rI:Bool×FT:=(false,.int .i64)
abbrev rS:Bool×FT:=(false,.str)
abbrev bs:Nat->az PD->az PD|0,l=>l|n+1,l=> .bot::bs n l
abbrev zs:Nat->az (aC FT)->az (aC FT)|0,l=>l|n+1,l=>none::zs n l
def mk (l:az (Nat×gk))(n:Nat):gk:=(l.lookup n).getD []
def mg (l:az (Nat×Nat))(n:Nat):aC Nat:=l.lookup n
def ke (n:Nat)(K:xV R)(d:SD)(x:SD.D d):aC R:=K (.exit n) (SD.enc d x)
def kn (K:xV R)(d:SD)(x:SD.D d):aC R:=K .normal (SD.enc d x)
def kr (K:xV R)(d:SD)(x:SD.D d):aC R:=K .ret (SD.enc d x)
def B8 (d:SD)(t:{R:Type}->SD.D d->(Ex->AS->aC R)->(σ->aC R)->σ->aC R)(i:SD.D d->σ):Kw:=⟨d,λX K=>bp (t X K) fuel (i X)⟩
theorem lk {E:Env}{c:Code}(d:SD)(t:{R:Type}->SD.D d->(Ex->AS->aC R)->(σ->aC R)->σ->aC R)(i:SD.D d->σ)(w:SD.D d->σ->SD.D d)(h1:Λ (fF c)=B8 d t i:=by kernel_rfl)(h:∀(R:Type)(X:SD.D d)(K:xV R)(m:Nat)(x:σ),CJ (an.mask (fF c)) (den E Γ an Λ c) (m+1) (SD.enc d (w X x)) K=t X K (λy=>CJ (an.mask (fF c)) (den E Γ an Λ c) m (SD.enc d (w X y)) K) x:=by intro R X K m x;kernel_rfl)(hw:∀X,w X (i X)=X:=by intro X;kernel_rfl):AF E Γ an Λ c:=lok (B8 d t i) h1 fuel λR X K=>(Sx (λx=>SD.enc d (w X x)) (t X K) (h R X K) fuel (i X)).symm.trans (congrArg (λy=>CJ (an.mask (fF c)) (den E Γ an Λ c) fuel (SD.enc d y) K) (hw X))
def mkc (d:SD)(t:{R:Type}->SD.D d->(Ex->AS->aC R)->aC R):Kw:=⟨d,λX K=>t X K⟩
theorem ck {E:Env}{c:Code}(d:SD)(t:{R:Type}->SD.D d->(Ex->AS->aC R)->aC R)(h1:Λ (FD c)=mkc d t:=by kernel_rfl)(h:∀(R:Type)(X:SD.D d)(K:xV R),t X K=den E Γ an Λ c (SD.enc d X) (λe cc=>K e (cc.mask (an.mask (FD c+1)))):=by intro R X K;kernel_rfl):YA E Γ an Λ c:=cok (mkc d t) h1 h
def u {A B:Type}(y:A)(x:A×B):A×B:=(y,x.2)
def w {A B:Type}(y:A)(f:B->B)(x:A×B):A×B:=(y,f x.2)
def z1 {B:Type}(f:B->B)(x:A0×B):A0×B:=(x.1,f x.2)
def z2 {B:Type}(f:B->B)(x:A0×A1×B):A0×A1×B:=(x.1,x.2.1,f x.2.2)
def z3 {B:Type}(f:B->B)(x:A0×A1×A2×B):A0×A1×A2×B:=(x.1,x.2.1,x.2.2.1,f x.2.2.2)
def z4 {B:Type}(f:B->B)(x:A0×A1×A2×A3×B):A0×A1×A2×A3×B:=(x.1,x.2.1,x.2.2.1,x.2.2.2.1,f x.2.2.2.2)
def z5 {B:Type}(f:B->B)(x:A0×A1×A2×A3×A4×B):A0×A1×A2×A3×A4×B:=(x.1,x.2.1,x.2.2.1,x.2.2.2.1,x.2.2.2.2.1,f x.2.2.2.2.2)
def z6 {B:Type}(f:B->B)(x:A0×A1×A2×A3×A4×A5×B):A0×A1×A2×A3×A4×A5×B:=(x.1,x.2.1,x.2.2.1,x.2.2.2.1,x.2.2.2.2.1,x.2.2.2.2.2.1,f x.2.2.2.2.2.2)
def z7 {B:Type}(f:B->B)(x:A0×A1×A2×A3×A4×A5×A6×B):A0×A1×A2×A3×A4×A5×A6×B:=(x.1,x.2.1,x.2.2.1,x.2.2.2.1,x.2.2.2.2.1,x.2.2.2.2.2.1,x.2.2.2.2.2.2.1,f x.2.2.2.2.2.2.2)
def q2 {B:Type}(x:(A0×A1×A2×B)×C):A2:=x.1.2.2.1
def q3 {B:Type}(x:(A0×A1×A2×A3×B)×C):A3:=x.1.2.2.2.1
def q4 {B:Type}(x:(A0×A1×A2×A3×A4×B)×C):A4:=x.1.2.2.2.2.1
def q5 {B:Type}(x:(A0×A1×A2×A3×A4×A5×B)×C):A5:=x.1.2.2.2.2.2.1
def q6 {B:Type}(x:(A0×A1×A2×A3×A4×A5×A6×B)×C):A6:=x.1.2.2.2.2.2.2.1
def q7 {A7 B:Type}(x:(A0×A1×A2×A3×A4×A5×A6×A7×B)×C):A7:=x.1.2.2.2.2.2.2.2.1
def q8 {A7 A8 B:Type}(x:(A0×A1×A2×A3×A4×A5×A6×A7×A8×B)×C):A8:=x.1.2.2.2.2.2.2.2.2.1
def q9 {A7 A8 A9 B:Type}(x:(A0×A1×A2×A3×A4×A5×A6×A7×A8×A9×B)×C):A9:=x.1.2.2.2.2.2.2.2.2.2.1
def c1 {B:Type}(f:A0->R)(a:A0×B):R:=f a.1
def c2 {B:Type}(f:A0->A1->R)(a:A0×A1×B):R:=f a.1 a.2.1
def c3 {B:Type}(f:A0->A1->A2->R)(a:A0×A1×A2×B):R:=f a.1 a.2.1 a.2.2.1
def c4 {B:Type}(f:A0->A1->A2->A3->R)(a:A0×A1×A2×A3×B):R:=f a.1 a.2.1 a.2.2.1 a.2.2.2.1
def c5 {B:Type}(f:A0->A1->A2->A3->A4->R)(a:A0×A1×A2×A3×A4×B):R:=f a.1 a.2.1 a.2.2.1 a.2.2.2.1 a.2.2.2.2.1
def c6 {B:Type}(f:A0->A1->A2->A3->A4->A5->R)(a:A0×A1×A2×A3×A4×A5×B):R:=f a.1 a.2.1 a.2.2.1 a.2.2.2.1 a.2.2.2.2.1 a.2.2.2.2.2.1
def c7 {B:Type}(f:A0->A1->A2->A3->A4->A5->A6->R)(a:A0×A1×A2×A3×A4×A5×A6×B):R:=f a.1 a.2.1 a.2.2.1 a.2.2.2.1 a.2.2.2.2.1 a.2.2.2.2.2.1 a.2.2.2.2.2.2.1
theorem f0 {E:Env}{F:CY s->aC (mA rs)}{fn:Func}(an:An)(hS:Sound P E Γ)(hf:P.funcs[f]?=some fn)(hn:(fn.name== "runtime.NumGoroutine")=false:=by kernel_rfl)(hl:jE (fn.body.getD .skip)=[]:=by kernel_rfl)(gJ:an.cut=[]:=by rfl)(hF:∀a,FL E Γ an nq.nil fn rs (nb s a)=F a:=by intro a;kernel_rfl):jj P f (RT s rs F):=jj.of (adm hS hf hn (BM.of (Fn.hF hl nF) gJ)) hF
abbrev Y21:FT:=kW (kW Dq)
abbrev Y1:FT:=dq Dq Y21
abbrev Y8:FT:=kW (kW (kW (.sl (.own none) (.int .i64))))
abbrev Y18:FT:=dq Y1 (dq Y8 (dq (.sl (.own none) kX) Dq))
abbrev Y25:FT:=kW (dq .bool (.sl (.own none) (.int .i64)))
abbrev Y20:FT:=dq (.sl (.own none) kj) (dq (.sl (.own none) jd) (dq .str (.sl (.own none) (.int .i64))))
abbrev Y0:FT:=dq (.sl (.own none) .str) (dq (.sl (.own none) bU) (dq Y18 (dq (.sl (.own none) eS) (dq (.sl (.own none) kI) (dq (.sl (.own none) iv) (dq (.sl (.own none) .bool) (dq Y25 (dq Y20 (dq (.sl (.own none) dH) (dq .bool (dq (.sl (.own none) .str) (dq (.sl (.own none) (.int .i64)) (dq (.sl (.own none) (.int .i64)) (dq Dq Y1))))))))))))))
abbrev Y16:FT:=kW (kW (kW (kW .str)))
abbrev Y23:FT:=kW (dq Dq Y16)
abbrev Y2:FT:=kW (kW (kW (kW (kW (kW (kW (kW (dq Dq Y23))))))))
abbrev Y3:FT:=dq (dF 24577 .str) (dq (dF 24580 bU) (dq (dq Y1 (dq (kW (kW (kW (dF 24604 (.int .i64))))) (dq (dF 24607 kX) Dq))) (dq (dF 24613 eS) (dq (dF 24616 kI) (dq (dF 24619 iv) (dq (dF 24622 .bool) (dq (kW (dq .bool (dF 24631 (.int .i64)))) (dq (dq (dF 24634 kj) (dq (dF 24637 jd) (dq .str (dF 24643 (.int .i64))))) (dq (dF 24646 dH) (dq .bool (dq (dF 24652 .str) (dq (dF 24655 (.int .i64)) (dq (dF 24658 (.int .i64)) (dq Dq Y1))))))))))))))
abbrev Y13:FT:=kW (kW (kW (.sl .arg (.int .i64))))
abbrev Y22:FT:=dq Y1 (dq Y13 (dq (.sl .arg kX) Dq))
abbrev Y26:FT:=kW (dq .bool (.sl .arg (.int .i64)))
abbrev Y19:FT:=dq (.sl .arg kj) (dq (.sl .arg jd) (dq .str (.sl .arg (.int .i64))))
abbrev Y4:FT:=dq (.sl .arg .str) (dq (.sl .arg bU) (dq Y22 (dq (.sl .arg eS) (dq (.sl .arg kI) (dq (.sl .arg iv) (dq (.sl .arg .bool) (dq Y26 (dq Y19 (dq (.sl .arg dH) (dq .bool (dq (.sl .arg .str) (dq (.sl .arg (.int .i64)) (dq (.sl .arg (.int .i64)) (dq Dq Y1))))))))))))))
abbrev Y5:FT:=dq (dF 36865 .str) (dq (dF 36868 bU) (dq (dq Y1 (dq (kW (kW (kW (dF 36892 (.int .i64))))) (dq (dF 36895 kX) Dq))) (dq (dF 36901 eS) (dq (dF 36904 kI) (dq (dF 36907 iv) (dq (dF 36910 .bool) (dq (kW (dq .bool (dF 36919 (.int .i64)))) (dq (dq (dF 36922 kj) (dq (dF 36925 jd) (dq .str (dF 36931 (.int .i64))))) (dq (dF 36934 dH) (dq .bool (dq (dF 36940 .str) (dq (dF 36943 (.int .i64)) (dq (dF 36946 (.int .i64)) (dq Dq Y1))))))))))))))
abbrev Y6:FT:=dq (dF 49153 .str) (dq (dF 49156 bU) (dq (dq Y1 (dq (kW (kW (kW (dF 49180 (.int .i64))))) (dq (dF 49183 kX) Dq))) (dq (dF 49189 eS) (dq (dF 49192 kI) (dq (dF 49195 iv) (dq (dF 49198 .bool) (dq (kW (dq .bool (dF 49207 (.int .i64)))) (dq (dq (dF 49210 kj) (dq (dF 49213 jd) (dq .str (dF 49219 (.int .i64))))) (dq (dF 49222 dH) (dq .bool (dq (dF 49228 .str) (dq (dF 49231 (.int .i64)) (dq (dF 49234 (.int .i64)) (dq Dq Y1))))))))))))))
abbrev Y7:FT:=dq (.sl .zX (.int .u8)) (kW Dq)
abbrev Y9:FT:=dq Y1 (dq Y21 (dq Y21 (dq (dq Y2 (kW Dq)) (dq .bool Dq))))
abbrev Y10:FT:=dq (dF 196609 .str) (dq (dF 196612 bU) (dq (dq Y1 (dq (kW (kW (kW (dF 196636 (.int .i64))))) (dq (dF 196639 kX) Dq))) (dq (dF 196645 eS) (dq (dF 196648 kI) (dq (dF 196651 iv) (dq (dF 196654 .bool) (dq (kW (dq .bool (dF 196663 (.int .i64)))) (dq (dq (dF 196666 kj) (dq (dF 196669 jd) (dq .str (dF 196675 (.int .i64))))) (dq (dF 196678 dH) (dq .bool (dq (dF 196684 .str) (dq (dF 196687 (.int .i64)) (dq (dF 196690 (.int .i64)) (dq Dq Y1))))))))))))))
abbrev Y11:FT:=dq (dF 147457 .str) (dq (dF 147460 bU) (dq (dq Y1 (dq (kW (kW (kW (dF 147484 (.int .i64))))) (dq (dF 147487 kX) Dq))) (dq (dF 147493 eS) (dq (dF 147496 kI) (dq (dF 147499 iv) (dq (dF 147502 .bool) (dq (kW (dq .bool (dF 147511 (.int .i64)))) (dq (dq (dF 147514 kj) (dq (dF 147517 jd) (dq .str (dF 147523 (.int .i64))))) (dq (dF 147526 dH) (dq .bool (dq (dF 147532 .str) (dq (dF 147535 (.int .i64)) (dq (dF 147538 (.int .i64)) (dq Dq Y1))))))))))))))
abbrev Y12:FT:=dq (dF 73729 .str) (dq (dF 73732 bU) (dq (dq Y1 (dq (kW (kW (kW (dF 73756 (.int .i64))))) (dq (dF 73759 kX) Dq))) (dq (dF 73765 eS) (dq (dF 73768 kI) (dq (dF 73771 iv) (dq (dF 73774 .bool) (dq (kW (dq .bool (dF 73783 (.int .i64)))) (dq (dq (dF 73786 kj) (dq (dF 73789 jd) (dq .str (dF 73795 (.int .i64))))) (dq (dF 73798 dH) (dq .bool (dq (dF 73804 .str) (dq (dF 73807 (.int .i64)) (dq (dF 73810 (.int .i64)) (dq Dq Y1))))))))))))))
abbrev Y14:FT:=kW (kW (kW (kW (dq .bool .bool))))
abbrev Y15:FT:=dq Y25 (dq Y20 (kW (dq (.sl (.own none) dH) (.sl (.own none) .str))))
abbrev Y17:FT:=dq (dF 49153 kj) (dq (dF 49156 jd) (dq .str (dF 49162 (.int .i64))))
abbrev Y24:FT:=dq (dF 24577 kj) (dq (dF 24580 jd) (dq .str (dF 24586 (.int .i64))))
abbrev Y27:FT:=kW (kW (kW (dF 184330 (.int .i64))))
abbrev Y28:FT:=kW (kW (kW (dF 147466 (.int .i64))))
abbrev Y29:FT:=kW (kW (kW (dF 98314 (.int .i64))))
abbrev Y30:FT:=kW (kW (kW (dF 73738 (.int .i64))))
def E:Env:={ty:=[(3,⟨false,(.int .i64),[]⟩),(4,⟨false,.bool,[]⟩),(5,⟨false,(.int .u8),[]⟩),(9,⟨false,.str,[]⟩),(22,⟨false,(.sl (.int .u8)),[(5,0)]⟩),(24,⟨false,(.sl .str),[(9,0)]⟩),(26,⟨true,(.sl .str),[(0,1)]⟩),(27,⟨false,(.sl bU),[(137,0)]⟩),(29,⟨true,vL,[(0,1),(1,1),(2,1),(3,1)]⟩),(30,⟨false,(.sl (.int .i64)),[(3,0)]⟩),(32,⟨true,kI,[(0,1),(1,1),(2,1),(3,1)]⟩),(33,⟨false,(.sl kX),[(107,0)]⟩),(35,⟨true,ns,[(0,4),(4,4),(8,1),(9,1)]⟩),(36,⟨false,(.sl eS),[(114,0)]⟩),(37,⟨false,(.sl kI),[(32,0)]⟩),(38,⟨false,(.sl iv),[(76,0)]⟩),(39,⟨false,(.sl .bool),[(4,0)]⟩),(41,⟨true,yz,[(0,1),(1,1),(2,1)]⟩),(42,⟨false,(.sl kj),[(198,0)]⟩),(43,⟨false,(.sl jd),[(200,0)]⟩),(45,⟨true,(.sl jd),[(0,1)]⟩),(47,⟨true,Cr,[(0,1),(1,1)]⟩),(49,⟨true,ri,[(0,1),(1,1),(2,2)]⟩),(50,⟨false,(.sl dH),[(144,0)]⟩),(52,⟨true,ot,[(0,1),(1,1),(2,1),(3,1),(4,1)]⟩),(54,⟨true,eG,[(0,1),(1,1),(2,10),(12,1),(13,1),(14,1),(15,1),(16,3),(19,4),(23,1),(24,1),(25,1),(26,1),(27,1),(28,5)]⟩),(55,⟨false,(.sl Ee),[(102,0)]⟩),(76,⟨true,iv,[(0,1),(1,1),(2,1),(3,1),(4,1),(5,1)]⟩),(85,⟨true,Ds,[(0,1),(1,1),(2,1),(3,1),(4,1),(5,1),(6,1),(7,1)]⟩),(87,⟨true,dk,[(0,1),(1,1),(2,1),(3,1),(4,1),(5,1),(6,1),(7,1),(8,8)]⟩),(94,⟨true,LL,[(0,3),(3,4),(7,1),(8,1),(9,1)]⟩),(102,⟨true,Ee,[(0,1),(1,16),(17,1),(18,1),(19,1),(20,1)]⟩),(107,⟨true,kX,[(0,1),(1,1),(2,1)]⟩),(110,⟨true,iH,[(0,1),(1,1),(2,1)]⟩),(112,⟨true,Tu,[(0,16),(16,1),(17,1)]⟩),(114,⟨true,eS,[(0,4),(4,3),(7,3),(10,18),(28,1),(29,1)]⟩),(137,⟨true,bU,[(0,1),(1,1),(2,1),(3,1)]⟩),(142,⟨true,ot,[(0,1),(1,1),(2,1),(3,1),(4,1)]⟩),(144,⟨true,dH,[(0,5),(5,1),(6,1),(7,1)]⟩),(164,⟨true,(.pair (.sl (.int .u8)) (.pair (.int .i64) (.int .i64))),[(0,1),(1,1),(2,1)]⟩),(165,⟨false,(.sl dk),[(87,0)]⟩),(189,⟨true,pU,[(0,1),(1,1),(2,1),(3,1),(4,1),(5,1)]⟩),(198,⟨true,kj,[(0,1),(1,1),(2,1),(3,1),(4,1),(5,1),(6,1),(7,1),(8,1)]⟩),(200,⟨true,jd,[(0,1),(1,5),(6,1)]⟩),(219,⟨true,ot,[(0,1),(1,1),(2,1),(3,1),(4,1)]⟩),(228,⟨true,TIp,[(0,1),(1,1),(2,1),(3,1),(4,1),(5,1),(6,1)]⟩),(231,⟨true,afF,[(0,1),(1,1),(2,1),(3,1),(4,1)]⟩),(247,⟨false,(.sl kf),[(304,0)]⟩),(250,⟨false,(.sl pU),[(189,0)]⟩),(265,⟨false,(.sl kf),[(269,0)]⟩),(269,⟨true,kf,[(0,1),(1,1)]⟩),(304,⟨true,kf,[(0,1),(1,1)]⟩),(339,⟨false,(.int .u32),[]⟩)],eqs:=[(87,[.int,.int,.int,.int,.int,.int,.int,.int,.int,.int,.int,.int,.int,.int,.int,.str]),(112,[.int,.int,.int,.int,.int,.int,.int,.int,.int,.int,.int,.int,.int,.int,.int,.str,.int,.int]),(142,[.int,.int,.int,.int,.int]),(144,[.int,.int,.int,.int,.int,.int,.str,.bool]),(189,[.int,.int,.int,.int,.int,.int])],fts:=[]}
theorem base:Sound Tryz.prog E Bx.nil:=Sound.nil (Xd (by kernel_rfl)) (Xg (by kernel_rfl)) (Xf (by kernel_rfl)) (by kernel_rfl)
structure SG where (g:Bx) (s:Sound Tryz.prog E g)
def SG.add (S:SG){F:kH}(h:Ho f F):SG:=⟨S.g.add f F,S.s.add h⟩
def G0:SG:=⟨Bx.nil,base⟩
def SG.q0 (S:SG){fn:Func}(an:An)(hf:Tryz.prog.funcs[f]?=some fn)(s:az PS)(rs:az (Bool×FT))(F:CY s->aC (mA rs))(hn:(fn.name== "runtime.NumGoroutine")=false:=by kernel_rfl)(hl:jE (fn.body.getD .skip)=[]:=by kernel_rfl)(gJ:an.cut=[]:=by rfl)(hF:∀a,FL E S.g an nq.nil fn rs (nb s a)=F a:=by intro a;kernel_rfl):SG:=S.add (jj.of (adm S.s hf hn (BM.of (Fn.hF hl nF) gJ)) hF)
def SG.qk (S:SG){fn:Func}(an:An)(hf:Tryz.prog.funcs[f]?=some fn)(s:az PS)(rs:az (Bool×FT))(F:CY s->aC (mA rs)){l:az Code}(h:∀c∈l,AF E S.g an Λ c)(hn:(fn.name== "runtime.NumGoroutine")=false:=by kernel_rfl)(hl:jE (fn.body.getD .skip)=l:=by kernel_rfl)(gJ:an.cut=[]:=by kernel_rfl)(hF:∀a,FL E S.g an Λ fn rs (nb s a)=F a:=by intro a;kernel_rfl):SG:=S.add (jj.of (adm S.s hf hn (BM.of (Fn.hF hl h) gJ)) hF)
def SG.q1 (S:SG){fn:Func}(an:An)(hf:Tryz.prog.funcs[f]?=some fn)(s:az PS)(rs:az (Bool×FT))(F:CY s->aC (mA rs))(d:SD)(t:{R:Type}->SD.D d->(Ex->AS->aC R)->(σ->aC R)->σ->aC R)(i:SD.D d->σ)(w:SD.D d->σ->SD.D d)(h1:(nq.nil.add (fF (dm fn 0)) (B8 d t i)) (fF (dm fn 0))=B8 d t i:=by kernel_rfl)(h:∀(R:Type)(X:SD.D d)(K:xV R)(m:Nat)(x:σ),CJ (an.mask (fF (dm fn 0))) (den E S.g an (nq.nil.add (fF (dm fn 0)) (B8 d t i)) (dm fn 0)) (m+1) (SD.enc d (w X x)) K=t X K (λy=>CJ (an.mask (fF (dm fn 0))) (den E S.g an (nq.nil.add (fF (dm fn 0)) (B8 d t i)) (dm fn 0)) m (SD.enc d (w X y)) K) x:=by intro R X K m x;kernel_rfl)(hw:∀X,w X (i X)=X:=by intro X;kernel_rfl)(hn:(fn.name== "runtime.NumGoroutine")=false:=by kernel_rfl)(hl:jE (fn.body.getD .skip)=[dm fn 0]:=by kernel_rfl)(gJ:an.cut=[]:=by kernel_rfl)(hF:∀a,FL E S.g an (nq.nil.add (fF (dm fn 0)) (B8 d t i)) fn rs (nb s a)=F a:=by intro a;kernel_rfl):SG:=S.add (jj.of (adm S.s hf hn (BM.of (Fn.hF hl (cF (lk d t i w h1 h hw) nF)) gJ)) hF)
def G8:=G0.q0 {} func8 [pd (.sl (.int .u8))] [rB] (c1 JE)
def e37:kH:=ZN (.pair (.sl .arg (.int .u8)) (.pair (.int .i64) (.int .i64))) [pd (.sl (.int .u8))] λa=>zP a.1
def n37:An:={mask:=mk [(3,[0,3,4])],merge:=mg [(3,15)]}
abbrev abT:SD:=⟨dw (nn (.int .u8))::B::B::DI::DI::bs 27 [],zs 32 [],.none⟩
def ak8 (X:SD.D abT)(K:xV R):=Ch (λy0 y1=>ke 0 K abT ((z1 (w y0 (u y1)) X.1),X.2)) X.1.1
def L37:nq:=nq.nil.add 3 (B8 abT ak8 (λX=>(X.1.2.1,q2 X)))
theorem aoe:AF E G8.g n37 L37 (dm f37 0):=lk abT ak8 (λX=>(X.1.2.1,q2 X)) λX x=>((z1 (w x.1 (u x.2)) X.1),X.2)
theorem o37:Ho 37 e37:=jj.aov (anA (Γ:=G8.g) (an:=n37) (Λ:=L37) (G8.s) func37 (by kernel_rfl) (ao (cF aoe nF))) (λa=>by kernel_rfl)
def G37:=G8.add o37
def aoX:=G37.q0 {merge:=mg [(1,6)]} func134 [pI,pI,pI] [rB] (c3 bh)
def aqc:=aoX.q0 {merge:=mg [(1,18),(4,2),(5,2)]} func228 [pf Ds] [rB] (c1 sY)
def ao7:=aqc.q0 {merge:=mg [(1,55),(3,3),(4,2)]} func147 [pf dk] [rB] (c1 kG)
def G75:=ao7.q0 {merge:=mg [(1,2)]} func75 [pf dk] [rB] (c1 uR)
def apJ:=G75.q0 {merge:=mg [(1,6)]} func189 [pd .str,pI,pI] [rB] (c3 pK)
def G96:=apJ.q0 {} func96 [pd .str,pI,pd .str] [rS] (c3 jI)
def apE:=G96.q0 {} func182 [pI] [rS] (c1 di)
def aqd:=apE.q0 {} func229 [pI] [rS] (c1 gE)
def aqe:=aqd.q0 {merge:=mg [(1,27)]} func230 [pI,pI,pI,pI] [rS,rB] (c4 nS)
def arp:=aqe.q0 {merge:=mg [(1,12)]} func312 [pI,pI] [rI] (c2 nR)
abbrev agc:SD:=⟨dw .str::B::B::DI::DI::bs 28 [],zs 33 [],.none⟩
def aqT:=arp.q1 {mask:=mk [(3,[0,3,4])]} func279 [pd .str] [rI] (c1 zh) agc (λX K=>tR (λy0 y1=>ke 0 K agc ((z1 (w y0 (u y1)) X.1),X.2)) X.1.1) (λX=>(X.1.2.1,q2 X)) (λX x=>((z1 (w x.1 (u x.2)) X.1),X.2))
def aqf:=aqT.q0 {} func231 [pd .str] [rI] (c1 ry)
def ao8:=aqf.q0 {merge:=mg [(14,82)]} func148 [pI,pI,pf Ds] [rS,rB] (c3 lp)
def aqU:=ao8.q0 {merge:=mg [(1,2)]} func280 [pf TIp] [rB] (c1 Hb)
def aqg:=aqU.q0 {} func232 [pf TIp] [rS,rB] (c1 ze)
def ao9:=aqg.q0 {} func149 [pf TIp] [rS,rB] (c1 xo)
def aqh:=ao9.q0 {merge:=mg [(1,2)]} func233 [pf afF] [rB] (c1 ym)
def aqi:=aqh.q0 {} func234 [pI] [rS] (c1 ju)
def apa:=aqi.q0 {} func150 [pf afF] [rS,rB] (c1 yW)
abbrev af3:SD:=⟨DI::dw (.int .u8)::B::B::B::dw (dF 61440 (.int .u8))::DI::bs 13 [],zs 20 [],.none⟩
def apL:=apa.q1 {mask:=mk [(3,[0,1,5,6])]} func195 [pI,pd (.int .u8)] [rS] (c2 jP) af3 (λX K=>qT (λy0 y1=>ke 0 K af3 ((z2 (w y0 (u y1)) X.1),X.2)) X.1.1 X.1.2.1) (λX=>(q2 X,q3 X)) (λX x=>((z2 (w x.1 (u x.2)) X.1),X.2))
def apb:=apL.q0 {} func151 [pd .str] [rS] (c1 Be)
def G76:=apb.q0 {} func76 [pf dk] [rS,rB] (c1 vp)
def amx:An:={mask:=mk [(3,[0,3,4]),(7,[0,3,4,5])]}
abbrev TN:SD:=⟨dw .str::B::B::DI::DI::DI::bs 26 [],zs 32 [],.none⟩
def aiF (X:SD.D TN)(K:xV R):=rz (λy0 y1=>ke 2 K TN ((z1 (w y0 (z1 (u y1))) X.1),X.2)) X.1.1 (q2 X)
abbrev TM:SD:=⟨dw .str::B::B::DI::DI::bs 27 [],zs 32 [],.none⟩
def aiE (X:SD.D TM)(K:xV R):=uO (λy0 y1=>ke 0 K TM ((z1 (w y0 (u y1)) X.1),X.2)) X.1.1
def ani:nq:=(nq.nil.add 7 (B8 TN aiF (λX=>(X.1.2.1,q3 X)))).add 3 (B8 TM aiE (λX=>(X.1.2.1,q2 X)))
theorem ame:AF E G76.g amx ani (dm f152 1):=lk TN aiF (λX=>(X.1.2.1,q3 X)) λX x=>((z1 (w x.1 (z1 (u x.2))) X.1),X.2)
theorem amd:AF E G76.g amx ani (dm f152 0):=lk TM aiE (λX=>(X.1.2.1,q2 X)) λX x=>((z1 (w x.1 (u x.2)) X.1),X.2)
def apc:=G76.qk amx func152 [pd .str] [rI] (c1 ET) (cF amd (cF ame nF))
def G77:=apc.q0 {} func77 [pd .str] [rS] (c1 xF)
def G31:=G77.q0 {} func31 [pf dk] [rS,rB] (c1 nm)
def ar0:kH:=kN (.pair (.sl .zX (.int .u8)) (.pair (.int .i64) (.int .i64))) [] [rI] λx a=>mc x
theorem asV:Ho 190 ar0:=jj.se (rM (an:={}) (Λ:=nq.nil) (G31.s) func190 (by kernel_rfl) (ao nF)) (λx a=>by kernel_rfl)
def am7:=G31.add asV
def e97:kH:=kN (.pair (.sl .zX (.int .u8)) (.pair (.int .i64) (.int .i64))) [pI] [rI] λx a=>cE x a.1
theorem o97:Ho 97 e97:=jj.se (rM (an:={}) (Λ:=nq.nil) (am7.s) func97 (by kernel_rfl) (ao nF)) (λx a=>by kernel_rfl)
def G97:=am7.add o97
def e95:kH:=kN (.pair (.sl .zX (.int .u8)) (.pair (.int .i64) (.int .i64))) [pI] [rB] λx a=>iR x a.1
theorem o95:Ho 95 e95:=jj.se (rM (an:={}) (Λ:=nq.nil) (G97.s) func95 (by kernel_rfl) (ao nF)) (λx a=>by kernel_rfl)
def G95:=G97.add o95
def e98:kH:=kN (.pair (.sl .zX (.int .u8)) (.pair (.int .i64) (.int .i64))) [pI] [rS] λx a=>nT x a.1
def n98:An:={mask:=mk [(5,[0,1,5,6])],mv:=[15]}
abbrev abY:SD:=⟨.ptr 0 0::DI::B::B::B::dw (dF 61440 (.int .u8))::DI::bs 16 [],(some Y7)::zs 22 [],.ptr⟩
def alf (X:SD.D abY)(K:xV R):=qU (λy0 y1 y2=>ke 0 K abY ((z1 (w y0 (u y1)) X.1),(u y2 X.2.1),X.2.2)) X.1.1
def L98:nq:=nq.nil.add 5 (B8 abY alf (λX=>(X.1.2.1,q2 X,X.2.1.1)))
theorem aol:AF E G95.g n98 L98 (dm f98 0):=lk abY alf (λX=>(X.1.2.1,q2 X,X.2.1.1)) λX x=>((z1 (w x.1 (u x.2.1)) X.1),(u x.2.2 X.2.1),X.2.2)
theorem o98:Ho 98 e98:=jj.se (rM (Γ:=G95.g) (an:=n98) (Λ:=L98) (G95.s) func98 (by kernel_rfl) (ao (cF aol nF))) (λx a=>by kernel_rfl)
def G98:=G95.add o98
def e99:kH:=kN (.pair (.sl .zX (.int .u8)) (.pair (.int .i64) (.int .i64))) [pd (.sl (.int .i64))] [rI] λx a=>cQ x a.1
theorem o99:Ho 99 e99:=jj.se (rM (an:={}) (Λ:=nq.nil) (G98.s) func99 (by kernel_rfl) (ao nF)) (λx a=>by kernel_rfl)
def G99:=G98.add o99
def arW:kH:=kN (.pair (.sl .zX (.int .u8)) (.pair (.int .i64) (.int .i64))) [] [rI] λx a=>tU x
theorem asR:Ho 145 arW:=jj.se (rM (an:={}) (Λ:=nq.nil) (G99.s) func145 (by kernel_rfl) (ao nF)) (λx a=>by kernel_rfl)
def am5:=G99.add asR
def ar4:kH:=kN (.pair (.sl .zX (.int .u8)) (.pair (.int .i64) (.int .i64))) [] [rI] λx a=>zj x
theorem asZ:Ho 227 ar4:=jj.se (rM (an:={}) (Λ:=nq.nil) (am5.s) func227 (by kernel_rfl) (ao nF)) (λx a=>by kernel_rfl)
def ana:=am5.add asZ
def arX:kH:=kN (.pair (.sl .zX (.int .u8)) (.pair (.int .i64) (.int .i64))) [pI] [(true,(.pair (.int .i64) Y23))] λx a=>vx x a.1
theorem asS:Ho 146 arX:=jj.se (rM (an:={}) (Λ:=nq.nil) (ana.s) func146 (by kernel_rfl) (ao nF)) (λx a=>by kernel_rfl)
def am6:=ana.add asS
def e74:kH:=kN (.pair (.sl .zX (.int .u8)) (.pair (.int .i64) (.int .i64))) [pI] [(true,Y2)] λx a=>kU x a.1
theorem o74:Ho 74 e74:=jj.se (rM (an:={}) (Λ:=nq.nil) (am6.s) func74 (by kernel_rfl) (ao nF)) (λx a=>by kernel_rfl)
def G74:=am6.add o74
def e94:kH:=kN (.pair (.sl .zX (.int .u8)) (.pair (.int .i64) (.int .i64))) [pI] [(false,(.sl (.own none) dk))] λx a=>Bi x a.1
def n94:An:={mask:=mk [(5,[0,5,6,7,8]),(1000012,[0,5,6,7,8]),(1000013,[0,5,6,7,8]),(1000014,[0,5,6,7,8]),(1000015,[0,5,6,7,8]),(1000018,[0,5,6,7,8]),(1000019,[0,5,6,7,8]),(1000022,[0,5,6,7,8]),(1000023,[0,5,6,7,8]),(1000028,[0,5,6,7,8]),(1000029,[0,5,6,7,8]),(1000034,[0,5,6,7,8,64]),(1000035,[0,5,6,7,8])],cut:=[6,7,9,11,14,17],mv:=[47,76]}
abbrev FH:SD:=⟨.ptr 0 0::bs 4 (dw (dF 61440 dk)::.ptr 6 0::DI::DI::bs 55 (DB::bs 12 [])),(some Y7)::zs 5 ((some Y2)::zs 70 []),.ptr⟩
abbrev T0:SD:=⟨.ptr 0 0::bs 4 (dw (dF 61440 dk)::.ptr 6 0::DI::DI::bs 68 []),(some Y7)::zs 5 ((some Y2)::zs 70 []),.ptr⟩
def MM (X:SD.D FH)(K:xV R):aC R:=yo (λy0=>kn K T0 ((X.1.1,(X.1.2.1,(X.1.2.2.1,()))),(X.2.1.1,(y0,())),())) X.1.1 X.1.2.1 (q2 X) (q3 X) X.2.1.1 X.2.1.2.1
abbrev CC:SD:=⟨.ptr 0 0::bs 4 (dw (dF 61440 dk)::.ptr 6 0::DI::DI::bs 68 []),(some Y7)::zs 5 ((some Y2)::zs 70 []),.ptr⟩
def ML (X:SD.D CC)(K:xV R):aC R:=pM (λy0 y1 y2=>kn K CC ((u y0 X.1),(w y1 (u y2) X.2.1),X.2.2)) X.1.1 X.1.2.1 (q2 X) X.2.1.1 X.2.1.2.1
abbrev CB:SD:=⟨.ptr 0 0::bs 4 (dw (dF 61440 dk)::.ptr 6 0::DI::DI::bs 68 []),(some Y7)::zs 5 ((some Y2)::zs 70 []),.ptr⟩
def MK (X:SD.D CB)(K:xV R):aC R:=pL (λy0 y1 y2=>kn K CB ((u y0 X.1),(w y1 (u y2) X.2.1),X.2.2)) X.1.1 X.1.2.1 (q2 X) X.2.1.1 X.2.1.2.1
abbrev CA:SD:=⟨.ptr 0 0::bs 4 (dw (dF 61440 dk)::.ptr 6 0::DI::DI::bs 68 []),(some Y7)::zs 5 ((some Y2)::zs 70 []),.ptr⟩
def MJ (X:SD.D CA)(K:xV R):aC R:=qW (λy0 y1 y2 y3=>kn K CA ((w y0 (u y1) X.1),(w y2 (u y3) X.2.1),X.2.2)) X.1.1 X.1.2.1 (q2 X) X.2.1.1 X.2.1.2.1
abbrev Cy:SD:=⟨.ptr 0 0::bs 4 (dw (dF 61440 dk)::.ptr 6 0::DI::DI::bs 68 []),(some Y7)::zs 5 ((some Y2)::zs 70 []),.ptr⟩
def MH (X:SD.D Cy)(K:xV R):aC R:=qV (λy0=>kn K Cy ((z2 (u y0) X.1),X.2)) X.1.1 X.1.2.1 (q2 X) X.2.1.1 X.2.1.2.1
abbrev Cz:SD:=⟨.ptr 0 0::bs 4 (dw (dF 61440 dk)::.ptr 6 0::DI::DI::bs 68 []),(some Y7)::zs 5 ((some Y2)::zs 70 []),.ptr⟩
def MI (X:SD.D Cz)(K:xV R):aC R:=vy (λy0 y1 y2 y3 y4=>kn K Cz ((w y0 (w y1 (u y2)) X.1),(w y3 (u y4) X.2.1),X.2.2)) X.1.1 X.1.2.1 (q2 X) X.2.1.1 X.2.1.2.1
abbrev abX:SD:=⟨.ptr 0 0::bs 4 (dw (dF 61440 dk)::.ptr 6 0::DI::DI::bs 68 []),(some Y7)::zs 5 ((some Y2)::zs 70 []),.ptr⟩
def ale (X:SD.D abX)(K:xV R):=Ao (λy0 y1 y2 y3 y4=>ke 0 K abX ((w y0 (w y1 (u y2)) X.1),(w y3 (u y4) X.2.1),X.2.2))
def L94:nq:=((((((nq.nil.add 1000034 (mkc FH MM)).add 1000028 (mkc CC ML)).add 1000022 (mkc CB MK)).add 1000018 (mkc CA MJ)).add 1000012 (mkc Cy MH)).add 1000014 (mkc Cz MI)).add 5 (B8 abX ale (λX=>(X.1.1,X.1.2.1,q2 X,X.2.1.1,X.2.1.2.1)))
theorem Xa:YA E G74.g n94 L94 (wz n94.cut f94 4):=ck FH MM
theorem W9:YA E G74.g n94 L94 (wz n94.cut f94 3):=ck CC ML
theorem W8:YA E G74.g n94 L94 (wz n94.cut f94 2):=ck CB MK
theorem W7:YA E G74.g n94 L94 (wz n94.cut f94 1):=ck CA MJ
theorem W5:YA E G74.g n94 L94 (wz n94.cut f94 5):=ck Cy MH
theorem W6:YA E G74.g n94 L94 (wz n94.cut f94 0):=ck Cz MI
theorem aok:AF E G74.g n94 L94 (dm f94 0):=lk abX ale (λX=>(X.1.1,X.1.2.1,q2 X,X.2.1.1,X.2.1.2.1)) λX x=>((w x.1 (w x.2.1 (u x.2.2.1)) X.1),(w x.2.2.2.1 (u x.2.2.2.2) X.2.1),X.2.2)
theorem o94:Ho 94 e94:=jj.se (rM (Γ:=G74.g) (an:=n94) (Λ:=L94) (G74.s) func94 (by kernel_rfl) (ac (cF aok nF) (cF W6 (cF W7 (cF W8 (cF W9 (cF Xa (cF W5 nF)))))))) (λx a=>by kernel_rfl)
def G94:=G74.add o94
def e38:kH:=kN (.pair (.sl .zX (.int .u8)) (.pair (.int .i64) (.int .i64))) [pd .bool] [(false,(.sl (.own none) Ee))] λx a=>Bq x a.1
def n38:An:={mask:=mk [(4,[0,1,5,6,7]),(1000010,[0,1,5,6,7]),(1000011,[0,1,5,6,7]),(1000012,[0,1,5,6,7]),(1000013,[0,1,5,6,7]),(1000018,[0,1,5,6,7,8]),(1000019,[0,1,5,6,7]),(1000030,[0,1,5,6,7,43,50]),(1000031,[0,1,5,6,7]),(1000038,[0,1,5,6,7,43,57]),(1000039,[0,1,5,6,7])],cut:=[5,6,9,15,19],mv:=[37,46,53,61,70,84,91,95]}
abbrev FG:SD:=⟨.ptr 0 0::DB::B::B::B::dw (dF 61440 Ee)::dw (dF 73728 dk)::DI::bs 35 (DI::bs 13 (DB::bs 38 [])),(some Y7)::zs 95 [],.ptr⟩
abbrev TZ:SD:=⟨.ptr 0 0::DB::B::B::B::dw (dF 61440 Ee)::dw (dF 73728 dk)::DI::bs 88 [],(some Y7)::zs 95 [],.ptr⟩
def MG (X:SD.D FG)(K:xV R):aC R:=mF (λy0 y1=>kn K TZ ((X.1.1,(y0,(X.1.2.2.1,(X.1.2.2.2.1,())))),(y1,()),())) X.1.1 X.1.2.1 (q2 X) (q3 X) (q4 X) (q5 X) X.2.1.1
abbrev FF:SD:=⟨.ptr 0 0::DB::B::B::B::dw (dF 61440 Ee)::dw (dF 73728 dk)::DI::bs 35 (DI::bs 6 (DB::bs 45 [])),(some Y7)::zs 95 [],.ptr⟩
abbrev TY:SD:=⟨.ptr 0 0::DB::B::B::B::dw (dF 61440 Ee)::dw (dF 73728 dk)::DI::bs 88 [],(some Y7)::zs 95 [],.ptr⟩
def MF (X:SD.D FF)(K:xV R):aC R:=pO (λy0 y1=>kn K TY ((X.1.1,(y0,(X.1.2.2.1,(X.1.2.2.2.1,())))),(y1,()),())) X.1.1 X.1.2.1 (q2 X) (q3 X) (q4 X) (q5 X) X.2.1.1
abbrev FE:SD:=⟨.ptr 0 0::DB::B::B::B::dw (dF 61440 Ee)::dw (dF 73728 dk)::DI::dw .str::bs 87 [],(some Y7)::zs 95 [],.ptr⟩
abbrev TX:SD:=⟨.ptr 0 0::DB::B::B::B::dw (dF 61440 Ee)::dw (dF 73728 dk)::DI::bs 88 [],(some Y7)::zs 95 [],.ptr⟩
def ME (X:SD.D FE)(K:xV R):aC R:=qZ (λy0 y1=>kn K TX ((X.1.1,(y0,(X.1.2.2.1,(X.1.2.2.2.1,())))),(y1,()),())) X.1.1 X.1.2.1 (q2 X) (q3 X) (q4 X) X.2.1.1
abbrev Cw:SD:=⟨.ptr 0 0::DB::B::B::B::dw (dF 61440 Ee)::dw (dF 73728 dk)::DI::bs 88 [],(some Y7)::zs 95 [],.ptr⟩
def MC (X:SD.D Cw)(K:xV R):aC R:=qY (λy0=>kn K Cw ((z3 (u y0) X.1),X.2)) X.1.1 X.1.2.1 (q2 X) (q3 X) X.2.1.1
abbrev Cx:SD:=⟨.ptr 0 0::DB::B::B::B::dw (dF 61440 Ee)::dw (dF 73728 dk)::DI::bs 88 [],(some Y7)::zs 95 [],.ptr⟩
def MD (X:SD.D Cx)(K:xV R):aC R:=vA (λy0 y1 y2=>kn K Cx ((z1 (w y0 (z1 (u y1))) X.1),(u y2 X.2.1),X.2.2)) X.1.1 X.1.2.1 (q2 X) (q3 X) X.2.1.1
abbrev abU:SD:=⟨.ptr 0 0::DB::B::B::B::dw (dF 61440 Ee)::dw (dF 73728 dk)::DI::bs 88 [],(some Y7)::zs 95 [],.ptr⟩
def ak9 (X:SD.D abU)(K:xV R):=Au (λy0 y1 y2=>ke 0 K abU ((z1 (w y0 (z1 (u y1))) X.1),(u y2 X.2.1),X.2.2)) X.1.1 (q2 X)
def L38:nq:=(((((nq.nil.add 1000038 (mkc FG MG)).add 1000030 (mkc FF MF)).add 1000018 (mkc FE ME)).add 1000010 (mkc Cw MC)).add 1000012 (mkc Cx MD)).add 4 (B8 abU ak9 (λX=>(X.1.2.1,q3 X,X.2.1.1)))
theorem W4:YA E G94.g n38 L38 (wz n38.cut f38 3):=ck FG MG
theorem W3:YA E G94.g n38 L38 (wz n38.cut f38 2):=ck FF MF
theorem W2:YA E G94.g n38 L38 (wz n38.cut f38 1):=ck FE ME
theorem W0:YA E G94.g n38 L38 (wz n38.cut f38 4):=ck Cw MC
theorem W1:YA E G94.g n38 L38 (wz n38.cut f38 0):=ck Cx MD
theorem aof:AF E G94.g n38 L38 (dm f38 0):=lk abU ak9 (λX=>(X.1.2.1,q3 X,X.2.1.1)) λX x=>((z1 (w x.1 (z1 (u x.2.1))) X.1),(u x.2.2 X.2.1),X.2.2)
theorem o38:Ho 38 e38:=jj.se (rM (Γ:=G94.g) (an:=n38) (Λ:=L38) (G94.s) func38 (by kernel_rfl) (ac (cF aof nF) (cF W1 (cF W2 (cF W3 (cF W4 (cF W0 nF))))))) (λx a=>by kernel_rfl)
def G38:=G94.add o38
def apv:=G38.q0 {merge:=mg [(1,16)]} func172 [pd .str] [rS,rB] (c1 yX)
def aq3:=apv.q0 {} func289 [pd .str,pI] [rI] (c2 jw)
def aq4:=aq3.q0 {} func290 [pd .str,pI] [rI] (c2 qw)
def aqt:=aq4.q0 {sb:=mg [(4,4)]} func246 [pd .str] [(true,Y16),rB] (c1 zg)
def aqu:=aqt.q0 {merge:=mg [(2,22),(6,56)],sb:=mg [(5,5)]} func247 [pd .str] [(true,Y23),rB] (c1 Bf)
def aqv:=aqu.q0 {merge:=mg [(3,20),(9,44),(12,68)]} func248 [pI,pI,pI,pd .str] [(true,(.pair (.int .i64) Y23)),rB] (c4 sr)
def apw:=aqv.q0 {merge:=mg [(2,20)]} func173 [pd .str] [(true,Y2),rI] (c1 xC)
def G85:=apw.q0 {} func85 [pd .str] [(true,Y2),rI] (c1 sX)
def am9:=G85.q0 {} func194 [] [(true,(.sl (.own none) jd))] (λa=>og)
def ar9:kH:=kN (.pair (.sl .zX (.int .u8)) (.pair (.int .i64) (.int .i64))) [] [rS] λx a=>CU x
theorem as4:Ho 299 ar9:=jj.se (rM (an:={}) (Λ:=nq.nil) (am9.s) func299 (by kernel_rfl) (ao nF)) (λx a=>by kernel_rfl)
def ai8:=am9.add as4
def ar5:kH:=kN (.pair (.sl .zX (.int .u8)) (.pair (.int .i64) (.int .i64))) [] [(true,(.pair .str (.sl (.own none) (.int .i64)))),rI] λx a=>xG x
def aos:An:={mask:=mk [(4,[0,2,4,5,6])],mv:=[21,28],mb:=mg [(21,5)],sb:=mg [(22,0),(27,5)]}
abbrev TS:SD:=⟨.ptr 0 0::B::.ptr 2 0::B::DI::.ptr 5 0::DI::bs 23 [],(some Y7)::Z::(ur (dq .str (dF 24580 (.int .i64))))::Z::Z::(ur (dq .str (dF 61444 (.int .i64))))::zs 24 [],.ptr⟩
def aiN (X:SD.D TS)(K:xV R):=xH (λy0 y1 y2=>ke 0 K TS ((z1 (u y0) X.1),(w y1 (z1 (u y2)) X.2.1),X.2.2)) X.1.1 X.2.1.2.1
def ann:nq:=nq.nil.add 4 (B8 TS aiN (λX=>(X.1.2.1,X.2.1.1,X.2.1.2.2.1)))
theorem amm:AF E ai8.g aos ann (dm f258 0):=lk TS aiN (λX=>(X.1.2.1,X.2.1.1,X.2.1.2.2.1)) λX x=>((z1 (u x.1) X.1),(w x.2.1 (z1 (u x.2.2)) X.2.1),X.2.2)
theorem as0:Ho 258 ar5:=jj.se (rM (Γ:=ai8.g) (an:=aos) (Λ:=ann) (ai8.s) func258 (by kernel_rfl) (ao (cF amm nF))) (λx a=>by kernel_rfl)
def anb:=ai8.add as0
def asa:kH:=kN (.pair (.sl .zX (.int .u8)) (.pair (.int .i64) (.int .i64))) [] [(true,(.pair (.int .i64) (.pair (.int .i64) (.pair (.int .i64) (.pair (.int .i64) (.pair (.int .i64) Y1))))))] λx a=>Bm x
theorem as5:Ho 300 asa:=jj.se (rM (an:={}) (Λ:=nq.nil) (anb.s) func300 (by kernel_rfl) (ao nF)) (λx a=>by kernel_rfl)
def ai9:=anb.add as5
def ar6:kH:=kN (.pair (.sl .zX (.int .u8)) (.pair (.int .i64) (.int .i64))) [] [(false,(.sl (.own none) kj))] λx a=>zk x
def aot:An:={mask:=mk [(3,[0,3,4])],mv:=[12,17]}
abbrev TT:SD:=⟨.ptr 0 0::B::B::dw (dF 36864 kj)::DI::bs 13 [],(some Y7)::zs 17 [],.ptr⟩
def aiO (X:SD.D TT)(K:xV R):=yp (λy0 y1 y2=>ke 0 K TT ((w y0 (u y1) X.1),(u y2 X.2.1),X.2.2))
def ano:nq:=nq.nil.add 3 (B8 TT aiO (λX=>(X.1.1,X.1.2.1,X.2.1.1)))
theorem amn:AF E ai9.g aot ano (dm f259 0):=lk TT aiO (λX=>(X.1.1,X.1.2.1,X.2.1.1)) λX x=>((w x.1 (u x.2.1) X.1),(u x.2.2 X.2.1),X.2.2)
theorem as1:Ho 259 ar6:=jj.se (rM (Γ:=ai9.g) (an:=aot) (Λ:=ano) (ai9.s) func259 (by kernel_rfl) (ao (cF amn nF))) (λx a=>by kernel_rfl)
def aqE:=ai9.add as1
def apI:=aqE.q0 {} func188 [pf (.sl jd)] [(true,(.sl (.own none) jd))] (c1 xI)
abbrev age:SD:=⟨B::B::B::DI::dw (dF 49152 (.int .i64))::DI::bs 26 [],zs 32 [],.none⟩
def aq8:=apI.q1 {mask:=mk [(4,[3,4,5])]} func294 [pf ot] [rI] (c1 uQ) age (λX K=>pJ (λy0 y1=>ke 0 K age ((w y0 (z1 (u y1)) X.1),X.2)) X.1.2.1) (λX=>(X.1.1,q2 X)) (λX x=>((w x.1 (z1 (u x.2)) X.1),X.2))
abbrev ZD:SD:=⟨B::B::.ptr 2 0::.ptr 3 0::DI::DI::bs 35 [],Z::Z::(ur (nn jd))::(ur (dq Dq Y1))::zs 37 [],.none⟩
def aqz:=aq8.q1 {mask:=mk [(2,[2,3,4,5])],merge:=mg [(7,39)]} func253 [pf (.sl jd),pf ot] [rI] (c2 tV) ZD (λX K=>qX (λy0=>ke 0 K ZD ((z1 (u y0) X.1),X.2)) (λy0 y1=>kr K ZD ((w y0 (u y1) X.1),X.2)) X.1.1 X.2.1.1 X.2.1.2.1) (λX=>X.1.2.1) (λX x=>((z1 (u x) X.1),X.2))
abbrev ZB:SD:=⟨B::.ptr 1 0::DB::DI::bs 45 [],Z::(ur (nn jd))::zs 47 [],.none⟩
def aqx:=aqz.q1 {mask:=mk [(4,[1,2,3])],merge:=mg [(7,30),(10,42)]} func250 [pf (.sl jd)] [rB] (c1 tS) ZB (λX K=>vw (λy0=>ke 0 K ZB ((z1 (u y0) X.1),X.2)) (λy0 y1=>kr K ZB ((w y0 (u y1) X.1),X.2)) X.1.1 X.2.1.1) (λX=>X.1.2.1) (λX x=>((z1 (u x) X.1),X.2))
abbrev af8:SD:=⟨B::B::DI::.ptr 3 0::.ptr 4 0::B::.ptr 6 0::B::.ptr 8 0::DI::DI::bs 47 [],Z::Z::Z::(ur (nn jd))::(ur (dq Dq Y1))::Z::(ur (dF 73729 jd))::Z::(ur (dF 98305 jd))::zs 49 [],.none⟩
def anc:=aqx.q1 {mask:=mk [(6,[2,3,4,6,8,9,10])],merge:=mg [(2,21),(6,31)],mv:=[22,49,57]} func260 [pf (.sl jd),pf ot,pI] [(true,(.sl (.own none) jd)),rB] (c3 Bg) af8 (λX K=>Am (λy0 y1=>ke 0 K af8 ((z1 (w y0 (u y1)) X.1),X.2)) X.1.1 X.2.1.1 X.2.1.2.1 X.2.1.2.2.1 X.2.1.2.2.2.1) (λX=>(X.1.2.1,q2 X)) (λX x=>((z1 (w x.1 (u x.2)) X.1),X.2))
def ar7:kH:=kN (.pair (.sl .zX (.int .u8)) (.pair (.int .i64) (.int .i64))) [] [(true,(.pair (.int .i64) Y1))] λx a=>Bk x
theorem as2:Ho 261 ar7:=jj.se (rM (an:={}) (Λ:=nq.nil) (anc.s) func261 (by kernel_rfl) (ao nF)) (λx a=>by kernel_rfl)
def afA:=anc.add as2
def ar1:kH:=kN (.pair (.sl .zX (.int .u8)) (.pair (.int .i64) (.int .i64))) [] [(true,Y20),rI] λx a=>tX x
def amB:An:={mask:=mk [(7,[0,2,4,6,7]),(11,[0,2,4,6,8])],mv:=[11,16,49,58,61],sb:=mg [(52,0),(54,0),(60,4)]}
abbrev TQ:SD:=⟨.ptr 0 0::B::.ptr 2 0::B::.ptr 4 0::B::DI::DI::bs 55 [],(some Y7)::Z::(some Y24)::Z::(some Y17)::zs 58 [],.ptr⟩
def aiL (X:SD.D TQ)(K:xV R):=lQ (λy0 y1=>ke 0 K TQ ((z1 (u y0) X.1),(z2 (u y1) X.2.1),X.2.2)) X.1.1 X.2.1.1 X.2.1.2.1
abbrev No:SD:=⟨.ptr 0 0::B::.ptr 2 0::B::.ptr 4 0::B::DI::B::DI::bs 54 [],(some Y7)::Z::(some Y24)::Z::(some Y17)::zs 58 [],.ptr⟩
def acQ (X:SD.D No)(K:xV R):=jB (λy0 y1 y2=>ke 2 K No ((z1 (u y0) X.1),(w y1 (z1 (u y2)) X.2.1),X.2.2)) X.1.1 X.2.1.2.1
def alr:nq:=(nq.nil.add 7 (B8 TQ aiL (λX=>(X.1.2.1,X.2.1.2.2.1)))).add 11 (B8 No acQ (λX=>(X.1.2.1,X.2.1.1,X.2.1.2.2.1)))
theorem amk:AF E afA.g amB alr (dm f191 0):=lk TQ aiL (λX=>(X.1.2.1,X.2.1.2.2.1)) λX x=>((z1 (u x.1) X.1),(z2 (u x.2) X.2.1),X.2.2)
theorem ajS:AF E afA.g amB alr (dm f191 1):=lk No acQ (λX=>(X.1.2.1,X.2.1.1,X.2.1.2.2.1)) λX x=>((z1 (u x.1) X.1),(w x.2.1 (z1 (u x.2.2)) X.2.1),X.2.2)
theorem asW:Ho 191 ar1:=jj.se (rM (Γ:=afA.g) (an:=amB) (Λ:=alr) (afA.s) func191 (by kernel_rfl) (ao (cF amk (cF ajS nF)))) (λx a=>by kernel_rfl)
def apK:=afA.add asW
def aoY:=apK.q0 {merge:=mg [(1,2)]} func135 [pf iv] [rB] (c1 wg)
def G66:=aoY.q0 {merge:=mg [(1,24),(3,2)]} func66 [pf iv] [rB] (c1 mn)
def G24:=G66.q0 {} func24 [pI,pI] [(true,Y14),rB] (c2 xz)
def G91:=G24.q0 {sb:=mg [(2,2)]} func91 [pf yz] [(true,Y25)] (c1 ua)
def G92:=G91.q0 {sb:=mg [(2,2)]} func92 [pf ri] [(true,Y20)] (c1 tW)
abbrev Zr:SD:=⟨B::.ptr 1 0::DB::DI::bs 41 [],Z::(some Y26)::zs 43 [],.none⟩
def apx:=G92.q1 {mask:=mk [(2,[1,2,3])],merge:=mg [(4,35),(6,2)]} func174 [pf yz] [rB] (c1 oe) Zr (λX K=>tK (λy0=>ke 0 K Zr ((z1 (u y0) X.1),X.2)) (λy0 y1=>kr K Zr ((w y0 (u y1) X.1),X.2)) X.1.1 X.2.1.1) (λX=>X.1.2.1) (λX x=>((z1 (u x) X.1),X.2))
def aq5:=apx.q0 {merge:=mg [(1,33),(3,54),(5,2)]} func291 [pf kj] [rB] (c1 mm)
abbrev ZA:SD:=⟨dw (nn kj)::B::DB::DI::bs 15 [],zs 19 [],.none⟩
def aqw:=aq5.q1 {mask:=mk [(2,[0,2,3])]} func249 [pd (.sl kj)] [rB] (c1 xD) ZA (λX K=>vu (λy0=>ke 0 K ZA ((z2 (u y0) X.1),X.2)) (λy0 y1=>kr K ZA ((z1 (w y0 (u y1)) X.1),X.2)) X.1.1 X.1.2.1) q2 (λX x=>((z2 (u x) X.1),X.2))
def aq6:=aqw.q0 {merge:=mg [(1,2)]} func292 [pI] [rB] (c1 Bl)
abbrev ZC:SD:=⟨B::DI::.ptr 2 0::B::DB::DI::bs 32 [],Z::Z::(ur (dq .str (nn (.int .i64))))::zs 35 [],.none⟩
def alm:=aq6.q1 {mask:=mk [(4,[1,2,4,5])],merge:=mg [(1,21)]} func251 [pf Cr,pI] [rB] (c2 uU) ZC (λX K=>tO (λy0=>ke 0 K ZC ((z2 (u y0) X.1),X.2)) (λy0 y1=>kr K ZC ((z1 (w y0 (u y1)) X.1),X.2)) X.1.1 X.1.2.1 X.2.1.1) q2 (λX x=>((z2 (u x) X.1),X.2))
def amz:An:={mask:=mk [(4,[1,2,4,5]),(9,[1,2,4,6])],merge:=mg [(1,23)]}
abbrev Oa:SD:=⟨B::DI::.ptr 2 0::B::DB::DI::bs 50 [],Z::Z::(some Y19)::zs 53 [],.none⟩
def aiI (X:SD.D Oa)(K:xV R):=qy (λy0=>ke 0 K Oa ((z2 (u y0) X.1),X.2)) (λy0 y1=>kr K Oa ((z1 (w y0 (u y1)) X.1),X.2)) X.1.1 X.1.2.1 X.2.1.1
abbrev Ob:SD:=⟨B::DI::.ptr 2 0::B::DB::B::DI::bs 49 [],Z::Z::(some Y19)::zs 53 [],.none⟩
def aiJ (X:SD.D Ob)(K:xV R):=qA (λy0=>ke 2 K Ob ((z2 (u y0) X.1),X.2)) (λy0 y1=>kr K Ob ((z1 (w y0 (u y1)) X.1),X.2)) X.1.1 X.1.2.1 X.2.1.1
def ank:nq:=(nq.nil.add 4 (B8 Oa aiI q2)).add 9 (B8 Ob aiJ q2)
theorem amh:AF E alm.g amz ank (dm f175 0):=lk Oa aiI q2 λX x=>((z2 (u x) X.1),X.2)
theorem ami:AF E alm.g amz ank (dm f175 1):=lk Ob aiJ q2 λX x=>((z2 (u x) X.1),X.2)
def apy:=alm.qk amz func175 [pf ri,pI] [rB] (c2 lG) (cF amh (cF ami nF))
abbrev af9:SD:=⟨DI::B::.ptr 2 0::.ptr 3 0::DI::bs 17 [],Z::Z::(ur (dF 24577 .str))::(ur (dF 36865 .str))::zs 18 [],.none⟩
def aqF:=apy.q1 {mask:=mk [(3,[0,2,3,4])],merge:=mg [(3,12)],mv:=[16,21],mb:=mg [(16,3)],sb:=mg [(20,3)]} func262 [pI] [(true,(.sl (.own none) .str))] (c1 sW) af9 (λX K=>sm (λy0 y1=>ke 0 K af9 ((z1 (u y0) X.1),(z1 (u y1) X.2.1),X.2.2)) X.1.1 X.2.1.1) (λX=>(X.1.2.1,X.2.1.2.1)) (λX x=>((z1 (u x.1) X.1),(z1 (u x.2) X.2.1),X.2.2))
abbrev Zw:SD:=⟨B::.ptr 1 0::DB::dw (dF 36864 .bool)::DI::bs 53 [],Z::(some Y13)::zs 56 [],.none⟩
def apH:=aqF.q1 {mask:=mk [(5,[1,2,3,4])],merge:=mg [(1,20),(7,50)]} func187 [pf kI] [rB] (c1 mj) Zw (λX K=>xA (λy0 y1=>ke 0 K Zw ((z1 (w y0 (u y1)) X.1),X.2)) (λy0 y1 y2=>kr K Zw ((w y0 (w y1 (u y2)) X.1),X.2)) X.1.1 X.2.1.1) (λX=>(X.1.2.1,q2 X)) (λX x=>((z1 (w x.1 (u x.2)) X.1),X.2))
abbrev agf:SD:=⟨B::B::DI::B::B::B::.ptr 6 0::B::.ptr 8 0::DI::bs 24 [],zs 6 ((some Y30)::Z::(some Y29)::zs 25 []),.none⟩
def ard:=apH.q1 {mask:=mk [(3,[2,6,8,9])],merge:=mg [(3,20)],mv:=[24,33]} func301 [pI,pI,pI] [(true,Y8),rB] (c3 xy) agf (λX K=>qS (λy0 y1=>ke 0 K agf ((z1 (u y0) X.1),(z1 (u y1) X.2.1),X.2.2)) X.1.1 X.2.1.1) (λX=>(X.1.2.1,X.2.1.2.1)) (λX x=>((z1 (u x.1) X.1),(z1 (u x.2) X.2.1),X.2.2))
def aqG:=ard.q0 {mv:=[4,9]} func263 [] [(true,Y18)] (λa=>zn)
def arx:=aqG.q0 {} func319 [pf (.sl .str)] [(true,(.sl (.own none) .str))] (c1 nU)
abbrev Zu:SD:=⟨B::.ptr 1 0::DB::DI::bs 18 [],Z::(ur (nn .str))::zs 20 [],.none⟩
def ali:=arx.q1 {mask:=mk [(2,[1,2,3])]} func183 [pf (.sl .str)] [rB] (c1 rA) Zu (λX K=>tL (λy0=>ke 0 K Zu ((z1 (u y0) X.1),X.2)) (λy0 y1=>kr K Zu ((w y0 (u y1) X.1),X.2)) X.1.1 X.2.1.1) (λX=>X.1.2.1) (λX x=>((z1 (u x) X.1),X.2))
def amA:An:={mask:=mk [(4,[0,2,3]),(10,[0,2,3,4,5])],merge:=mg [(7,34),(12,57)]}
abbrev IX:SD:=⟨dw (nn bU)::B::DB::DI::.ptr 4 0::DI::bs 52 [],zs 4 ((ur (kW (kW (kW .bool))))::zs 53 []),.none⟩
def acP (X:SD.D IX)(K:xV R):=oL (λy0=>ke 2 K IX ((z3 (u y0) X.1),X.2)) (λy0 y1=>kr K IX ((z1 (w y0 (z1 (u y1))) X.1),X.2)) X.1.1 X.1.2.1 (q2 X) X.2.1.1
abbrev Oc:SD:=⟨dw (nn bU)::B::DB::DI::bs 54 [],zs 58 [],.none⟩
def aiK (X:SD.D Oc)(K:xV R):=qx (λy0=>ke 0 K Oc ((z2 (u y0) X.1),X.2)) (λy0 y1=>kr K Oc ((z1 (w y0 (u y1)) X.1),X.2)) X.1.1 X.1.2.1
def anl:nq:=(nq.nil.add 10 (B8 IX acP q3)).add 4 (B8 Oc aiK q2)
theorem ajR:AF E ali.g amA anl (dm f184 1):=lk IX acP q3 λX x=>((z3 (u x) X.1),X.2)
theorem amj:AF E ali.g amA anl (dm f184 0):=lk Oc aiK q2 λX x=>((z2 (u x) X.1),X.2)
def apF:=ali.qk amA func184 [pd (.sl bU)] [rB] (c1 qR) (cF amj (cF ajR nF))
abbrev ZI:SD:=⟨dw (nn bU)::DI::DI::DB::bs 4 (DI::DI::bs 38 []),zs 48 [],.none⟩
def arO:=apF.q1 {mask:=mk [(2,[0,1,2,3,8,9])],merge:=mg [(4,42)]} func336 [pd (.sl bU),pI,pI,pd .bool] [rI] (c4 Bn) ZI (λX K=>vz (λy0=>ke 0 K ZI ((z5 (u y0) X.1),X.2)) (λy0 y1=>kr K ZI ((z4 (w y0 (u y1)) X.1),X.2)) X.1.1 X.1.2.1 (q2 X) (q3 X) (q4 X)) q5 (λX x=>((z5 (u x) X.1),X.2))
def arP:=arO.q0 {merge:=mg [(2,6)]} func337 [pf (.sl .str),pI,pI] [rB] (c3 pN)
abbrev ZH:SD:=⟨dw (nn bU)::B::DI::DI::DI::DB::B::.ptr 7 0::bs 4 (dw (dF 147456 (.int .i64))::dw (dF 159744 (.int .i64))::DB::dw (dF 184320 (.int .i64))::dw (dF 196608 (.int .i64))::bs 66 []),zs 7 ((ur (nn .str))::zs 75 []),.none⟩
def arJ:=arP.q1 {mask:=mk [(5,[0,2,3,4,5,7,12,13,14,15,16])],merge:=mg [(3,34),(10,57)],mv:=[35,36,64,71,81,82]} func331 [pd (.sl bU),pf (.sl .str),pI,pI,pI,pd .bool] [(false,(.sl (.own none) (.int .i64))),(false,(.sl (.own none) (.int .i64))),rB] (c6 zl) ZH (λX K=>mE (λy0 y1 y2 y3=>ke 0 K ZH ((z2 (w y0 (w y1 (z4 (w y2 (u y3))))) X.1),X.2)) (λy0 y1 y2 y3 y4 y5 y6=>kr K ZH ((z2 (w y0 (w y1 (z1 (w y2 (w y3 (w y4 (w y5 (u y6)))))))) X.1),X.2)) X.1.1 X.1.2.1 (q4 X) (q5 X) (q6 X) (q7 X) X.2.1.1) (λX=>(q2 X,q3 X,q8 X,q9 X)) (λX x=>((z2 (w x.1 (w x.2.1 (z4 (w x.2.2.1 (u x.2.2.2))))) X.1),X.2))
abbrev agr:SD:=⟨B::DI::dw .str::B::B::B::.ptr 6 0::B::.ptr 8 0::bs 44 [],zs 6 ((ur (dF 73729 .str))::Z::(ur (dF 98305 .str))::zs 44 []),.none⟩
def arK:=arJ.q1 {mask:=mk [(4,[1,2,6,8])],mv:=[19,52]} func332 [pf (.sl .str),pI,pd .str] [(true,(.sl (.own none) .str)),rB] (c3 tT) agr (λX K=>oM (λy0 y1 y2=>ke 0 K agr ((w y0 (u y1) X.1),(z1 (u y2) X.2.1),X.2.2)) X.2.1.1) (λX=>(X.1.1,X.1.2.1,X.2.1.2.1)) (λX x=>((w x.1 (u x.2.1) X.1),(z1 (u x.2.2) X.2.1),X.2.2))
abbrev agn:SD:=⟨bs 4 (dw .str::bs 5 (.ptr 10 0::B::dw (.sl .loc (.int .i64))::dw (.sl .loc (.int .i64))::B::.ptr 15 0::DI::bs 44 [])),zs 10 ((ur (dF 122881 .str))::zs 4 ((ur (dF 184321 .str))::zs 45 [])),.none⟩
def arw:=arK.q1 {mask:=mk [(6,[4,10,12,13,15,16])],mv:=[32,39,52,60],sb:=mg [(15,15)]} func318 [pd (.sl bU),pf (.sl .str),pI,pI,pd .str] [(true,(.sl (.own none) .str)),rB] (c5 uP) agn (λX K=>pE (λy0 y1 y2=>ke 0 K agn ((w y0 (z2 (u y1)) X.1),(z1 (u y2) X.2.1),X.2.2)) X.1.2.1 (q2 X) X.2.1.1) (λX=>(X.1.1,q3 X,X.2.1.2.1)) (λX x=>((w x.1 (z2 (u x.2.1)) X.1),(z1 (u x.2.2) X.2.1),X.2.2))
abbrev agh:SD:=⟨dw (nn bU)::B::DI::DI::dw .str::B::.ptr 6 0::B::B::B::.ptr 10 0::B::dw (dF 147456 bU)::DI::bs 25 [],zs 6 ((ur (nn .str))::Z::Z::Z::(ur (dF 122881 .str))::zs 28 []),.none⟩
def are:=arw.q1 {mask:=mk [(3,[0,2,3,4,6,10,12,13])],mv:=[27]} func302 [pd (.sl bU),pf (.sl .str),pI,pI,pd .str] [(true,(.sl (.own none) .str)),rB] (c5 xv) agh (λX K=>si (λy0 y1=>ke 0 K agh ((z4 (w y0 (u y1)) X.1),X.2)) X.1.1 X.1.2.1 (q2 X) (q3 X) X.2.1.1 X.2.1.2.1) (λX=>(q4 X,q5 X)) (λX x=>((z4 (w x.1 (u x.2)) X.1),X.2))
def ara:=are.q0 {merge:=mg [(1,2)]} func296 [pI] [rB] (c1 tY)
def arb:=ara.q0 {} func297 [pf vL] [rI] (c1 uT)
def aqB:=arb.q0 {merge:=mg [(1,2)]} func255 [pf vL] [rB] (c1 pZ)
def arc:=aqB.q0 {sb:=mg [(2,2)]} func298 [pf kI] [(true,Y8)] (c1 tZ)
def ary:=arc.q0 {} func320 [pf vL] [rI] (c1 uS)
def arL:=ary.q0 {merge:=mg [(1,11)]} func333 [pf vL,pI] [rI] (c2 tN)
def arz:=arL.q0 {merge:=mg [(1,22)],mv:=[26,36,51],mb:=mg [(51,13)],sb:=mg [(10,10),(11,11),(13,13)]} func321 [pd (.sl bU),pf (.sl .str),pI,pf vL,pd .str] [(true,(.sl (.own none) .str)),(true,Y1),rB] (c5 Bh)
def arM:=arz.q0 {merge:=mg [(1,2)]} func334 [pf pU] [rB] (c1 CQ)
def arA:=arM.q0 {} func322 [pf pU] [rS] (c1 vq)
def arB:=arA.q0 {merge:=mg [(1,15)]} func323 [pf kI,pI] [rI] (c2 qv)
abbrev agi:SD:=⟨dw (nn bU)::B::DI::bs 5 (.ptr 8 0::.ptr 9 0::.ptr 10 0::.ptr 11 0::.ptr 12 0::B::.ptr 14 0::.ptr 15 0::DI::bs 65 []),zs 8 ((some Y1)::(some Y13)::(ur (dF 122881 .str))::(some Y1)::(some Y28)::Z::(ur (dF 172033 .str))::(some Y27)::zs 66 []),.none⟩
def anf:=arB.q1 {mask:=mk [(6,[0,2,8,9,10,11,12,14,15,16])],merge:=mg [(4,32),(6,44)],mv:=[33,35,49,63,68,78,80],mb:=mg [(33,14),(35,15),(78,14),(80,15)],sb:=mg [(10,10),(11,11),(12,12),(18,18),(19,19)]} func303 [pd (.sl bU),pf (.sl .str),pI,pf vL,pf kI] [(true,(.sl (.own none) .str)),(true,Y1),(true,Y8),rI] (c5 yY) agi (λX K=>pG (λy0 y1 y2 y3=>ke 0 K agi ((z2 (u y0) X.1),(w y1 (z4 (w y2 (u y3))) X.2.1),X.2.2)) X.1.1 X.1.2.1 X.2.1.2.1 X.2.1.2.2.1 X.2.1.2.2.2.1 X.2.1.2.2.2.2.1) (λX=>(q2 X,X.2.1.1,X.2.1.2.2.2.2.2.1,X.2.1.2.2.2.2.2.2.1)) (λX x=>((z2 (u x.1) X.1),(w x.2.1 (z4 (w x.2.2.1 (u x.2.2.2))) X.2.1),X.2.2))
def ar8:kH:=kN (.pair (.sl (.own none) .str) (.pair (.sl (.own none) bU) (.pair (.pair (.pair (.int .i64) (.pair (.int .i64) (.pair (.int .i64) (.int .i64)))) (.pair (.pair (.int .i64) (.pair (.int .i64) (.pair (.int .i64) (.sl (.own none) (.int .i64))))) (.pair (.sl (.own none) kX) (.int .i64)))) (.pair (.sl (.own none) eS) (.pair (.sl (.own none) kI) (.pair (.sl (.own none) iv) (.pair (.sl (.own none) .bool) (.pair (.pair (.int .i64) (.pair .bool (.sl (.own none) (.int .i64)))) (.pair (.pair (.sl (.own none) kj) (.pair (.sl (.own none) jd) (.pair .str (.sl (.own none) (.int .i64))))) (.pair (.sl (.own none) dH) (.pair .bool (.pair (.sl (.own none) .str) (.pair (.sl (.own none) (.int .i64)) (.pair (.sl (.own none) (.int .i64)) (.pair (.int .i64) (.pair (.int .i64) (.pair (.int .i64) (.pair (.int .i64) (.int .i64))))))))))))))))))) [pI] [] λx a=>xL x a.1
theorem as3:Ho 264 ar8:=jj.se (rM (an:={mv:=[47,51,65,67,84],mb:=mg [(84,6)],sb:=mg [(6,6),(50,0),(70,0),(71,5)]}) (Λ:=nq.nil) (anf.s) func264 (by kernel_rfl) (ao nF)) (λx a=>by kernel_rfl)
def aln:=anf.add as3
def amC:An:={mask:=mk [(6,[0,12,14,16,17]),(10,[0,12,14,16,18])],merge:=mg [(2,42)],mv:=[57,74,80,86,92,98],mb:=mg [(57,16)],sb:=mg [(16,16),(67,16)]}
abbrev TR:SD:=⟨DI::bs 11 (.ptr 12 0::B::.ptr 14 0::B::.ptr 16 0::DI::bs 81 []),zs 12 ((some Y11)::Z::(some Y14)::Z::(some Y10)::zs 82 []),.none⟩
def aiM (X:SD.D TR)(K:xV R):=Al (λy0 y1=>ke 0 K TR ((z1 (u y0) X.1),(z2 (u y1) X.2.1),X.2.2)) X.1.1 X.2.1.1 X.2.1.2.1
abbrev Np:SD:=⟨DI::bs 11 (.ptr 12 0::B::.ptr 14 0::B::.ptr 16 0::B::DI::bs 80 []),zs 12 ((some Y11)::Z::(some Y14)::Z::(some Y10)::zs 82 []),.none⟩
def acR (X:SD.D Np)(K:xV R):=yn (λy0 y1=>ke 2 K Np ((z1 (u y0) X.1),(z2 (u y1) X.2.1),X.2.2)) X.1.1 X.2.1.1 X.2.1.2.1
def anm:nq:=(nq.nil.add 6 (B8 TR aiM (λX=>(X.1.2.1,X.2.1.2.2.1)))).add 10 (B8 Np acR (λX=>(X.1.2.1,X.2.1.2.2.1)))
theorem aml:AF E aln.g amC anm (dm f192 0):=lk TR aiM (λX=>(X.1.2.1,X.2.1.2.2.1)) λX x=>((z1 (u x.1) X.1),(z2 (u x.2) X.2.1),X.2.2)
theorem ajT:AF E aln.g amC anm (dm f192 1):=lk Np acR (λX=>(X.1.2.1,X.2.1.2.2.1)) λX x=>((z1 (u x.1) X.1),(z2 (u x.2) X.2.1),X.2.2)
def am8:=aln.qk amC func192 [pI,pf yz,pf ri,pd .bool,pI,pI] [(true,Y0),rB] (c6 xx) (cF aml (cF ajT nF))
def ar2:kH:=kN (.pair (.sl .zX (.int .u8)) (.pair (.int .i64) (.int .i64))) [] [(true,Y25)] λx a=>xJ x
theorem asX:Ho 193 ar2:=jj.se (rM (an:={mv:=[11]}) (Λ:=nq.nil) (am8.s) func193 (by kernel_rfl) (ao nF)) (λx a=>by kernel_rfl)
def afy:=am8.add asX
def arU:kH:=kN (.pair (.sl .zX (.int .u8)) (.pair (.int .i64) (.int .i64))) [] [(true,Y0)] λx a=>Bo x
def amv:An:={mask:=mk [(2,[0,2,3]),(6,[0,2,3,4,5,6])],mv:=[15,32,46,49,50,60],sb:=mg [(7,7),(34,0),(37,0),(40,0),(43,0)]}
abbrev TI:SD:=⟨.ptr 0 0::B::.ptr 2 0::DI::.ptr 4 0::DI::DI::bs 54 [],(some Y7)::Z::(some Y3)::Z::(some Y17)::zs 56 [],.ptr⟩
def aiy (X:SD.D TI)(K:xV R):=As (λy0 y1=>ke 2 K TI ((z2 (u y0) X.1),(z2 (u y1) X.2.1),X.2.2)) X.1.1 X.1.2.1 X.2.1.1 X.2.1.2.1
abbrev N7:SD:=⟨.ptr 0 0::B::.ptr 2 0::DI::bs 57 [],(some Y7)::Z::(some Y3)::zs 58 [],.ptr⟩
def aix (X:SD.D N7)(K:xV R):=Ar (λy0 y1=>ke 0 K N7 ((u y0 X.1),(u y1 X.2.1),X.2.2)) (λy0 y1 y2=>kr K N7 ((u y0 X.1),(w y1 (u y2) X.2.1),X.2.2)) X.2.1.2.1
def alp:nq:=(nq.nil.add 6 (B8 TI aiy (λX=>(q2 X,X.2.1.2.2.1)))).add 2 (B8 N7 aix (λX=>(X.1.1,X.2.1.1)))
theorem al7:AF E afy.g amv alp (dm f100 1):=lk TI aiy (λX=>(q2 X,X.2.1.2.2.1)) λX x=>((z2 (u x.1) X.1),(z2 (u x.2) X.2.1),X.2.2)
theorem al6:AF E afy.g amv alp (dm f100 0):=lk N7 aix (λX=>(X.1.1,X.2.1.1)) λX x=>((u x.1 X.1),(u x.2 X.2.1),X.2.2)
theorem asP:Ho 100 arU:=jj.se (rM (Γ:=afy.g) (an:=amv) (Λ:=alp) (afy.s) func100 (by kernel_rfl) (ao (cF al6 (cF al7 nF)))) (λx a=>by kernel_rfl)
def aoD:=afy.add asP
def apC:=aoD.q0 {} func179 [pf dk] [(true,(.pair (.int .i64) Y1))] (c1 wa)
abbrev Zt:SD:=⟨dw (nn dH)::B::B::.ptr 3 0::DI::DI::bs 14 [],Z::Z::Z::(ur (dq Dq Y1))::zs 16 [],.none⟩
def ai7:=apC.q1 {mask:=mk [(2,[0,3,4,5])]} func181 [pd (.sl dH),pf ot] [rI] (c2 iQ) Zt (λX K=>jS (λy0=>ke 0 K Zt ((z2 (u y0) X.1),X.2)) (λy0 y1=>kr K Zt ((z1 (w y0 (u y1)) X.1),X.2)) X.1.1 X.1.2.1 X.2.1.1) q2 (λX x=>((z2 (u x) X.1),X.2))
def arV:kH:=kN (.pair (.sl .zX (.int .u8)) (.pair (.int .i64) (.int .i64))) [pd (.sl dk)] [(false,(.sl (.own none) dH))] λx a=>Bj x a.1
def aoq:An:={mask:=mk [(3,[0,1,5,6])],mv:=[45,52],sb:=mg [(41,0)]}
abbrev TJ:SD:=⟨.ptr 0 0::dw (nn dk)::B::B::B::dw (dF 61440 dH)::DI::bs 46 [],(some Y7)::zs 52 [],.ptr⟩
def aiz (X:SD.D TJ)(K:xV R):=Ap (λy0 y1 y2=>ke 0 K TJ ((z1 (w y0 (u y1)) X.1),(u y2 X.2.1),X.2.2)) X.1.1
def ang:nq:=nq.nil.add 3 (B8 TJ aiz (λX=>(X.1.2.1,q2 X,X.2.1.1)))
theorem al8:AF E ai7.g aoq ang (dm f101 0):=lk TJ aiz (λX=>(X.1.2.1,q2 X,X.2.1.1)) λX x=>((z1 (w x.1 (u x.2.1)) X.1),(u x.2.2 X.2.1),X.2.2)
theorem asQ:Ho 101 arV:=jj.se (rM (Γ:=ai7.g) (an:=aoq) (Λ:=ang) (ai7.s) func101 (by kernel_rfl) (ao (cF al8 nF))) (λx a=>by kernel_rfl)
def ai4:=ai7.add asQ
def e39:kH:=kN (.pair (.sl .zX (.int .u8)) (.pair (.int .i64) (.int .i64))) [pd (.sl Ee)] [(true,Y0)] λx a=>zu x a.1
def n39:An:={mask:=mk [(4,[0,1,4,5,6,7])],mv:=[30,38]}
abbrev abV:SD:=⟨.ptr 0 0::dw (nn Ee)::B::B::.ptr 4 0::.ptr 5 0::dw (dF 73728 dk)::DI::bs 31 [],(some Y7)::Z::Z::Z::(some Y6)::(ur (dq (dF 61441 .str) (dq (dF 61444 bU) (dq (dq Y1 (dq (kW (kW (kW (dF 61468 (.int .i64))))) (dq (dF 61471 kX) Dq))) (dq (dF 61477 eS) (dq (dF 61480 kI) (dq (dF 61483 iv) (dq (dF 61486 .bool) (dq (kW (dq .bool (dF 61495 (.int .i64)))) (dq (dq (dF 61498 kj) (dq (dF 61501 jd) (dq .str (dF 61507 (.int .i64))))) (dq (dF 61510 dH) (dq .bool (dq (dF 61516 .str) (dq (dF 61519 (.int .i64)) (dq (dF 61522 (.int .i64)) (dq Dq Y1))))))))))))))))::zs 33 [],.ptr⟩
def ala (X:SD.D abV)(K:xV R):=yq (λy0 y1=>ke 0 K abV ((z1 (w y0 (u y1)) X.1),X.2)) X.1.1 X.2.1.1 X.2.1.2.1 X.2.1.2.2.1
def L39:nq:=nq.nil.add 4 (B8 abV ala (λX=>(X.1.2.1,q2 X)))
theorem aog:AF E ai4.g n39 L39 (dm f39 0):=lk abV ala (λX=>(X.1.2.1,q2 X)) λX x=>((z1 (w x.1 (u x.2)) X.1),X.2)
theorem o39:Ho 39 e39:=jj.se (rM (Γ:=ai4.g) (an:=n39) (Λ:=L39) (ai4.s) func39 (by kernel_rfl) (ao (cF aog nF))) (λx a=>by kernel_rfl)
def G39:=ai4.add o39
def G9:=G39.q0 {mv:=[13]} func9 [pd (.sl (.int .u8))] [(true,Y0),(false,(.sl (.own none) Ee))] (c1 pF)
abbrev ags:SD:=⟨B::.ptr 1 0::DB::B::B::B::dw (nn .str)::DI::DI::bs 11 [],Z::(ur (nn .str))::zs 18 [],.none⟩
def G50:=G9.q1 {mask:=mk [(2,[1,2,6,7,8])]} func50 [pf (.sl .str)] [rB] (c1 uE) ags (λX K=>DM (λy0=>ke 0 K ags ((z3 (u y0) X.1),X.2)) (λy0 y1=>kr K ags ((w y0 (z2 (u y1)) X.1),X.2)) X.1.1 X.1.2.1 (q2 X) X.2.1.1) q3 (λX x=>((z3 (u x) X.1),X.2))
def G54:=G50.q0 {merge:=mg [(1,6)]} func54 [pI,pI,pI] [rB] (c3 aK)
abbrev agy:SD:=⟨B::DI::DI::B::B::B::DI::B::B::dw (nn bU)::DI::DI::bs 16 [],zs 28 [],.none⟩
def G65:=G54.q1 {mask:=mk [(2,[1,2,6,9,10,11])],merge:=mg [(4,25)]} func65 [pd (.sl bU),pI,pI] [rI] (c3 pj) agy (λX K=>oH (λy0=>ke 0 K agy ((z5 (u y0) X.1),X.2)) (λy0 y1=>kr K agy ((z2 (w y0 (z2 (u y1))) X.1),X.2)) X.1.1 X.1.2.1 (q2 X) (q3 X) (q4 X)) q5 (λX x=>((z5 (u x) X.1),X.2))
abbrev agt:SD:=⟨dw (nn bU)::B::DB::B::B::dw (nn bU)::DI::DI::bs 34 [],zs 42 [],.none⟩
def G51:=G65.q1 {mask:=mk [(2,[0,2,5,6,7])],merge:=mg [(4,37)]} func51 [pd (.sl bU)] [rB] (c1 qJ) agt (λX K=>qh (λy0=>ke 0 K agt ((z4 (u y0) X.1),X.2)) (λy0 y1=>kr K agt ((z1 (w y0 (z2 (u y1))) X.1),X.2)) X.1.1 X.1.2.1 (q2 X) (q3 X)) q4 (λX x=>((z4 (u x) X.1),X.2))
abbrev agw:SD:=⟨B::.ptr 1 0::DB::dw (dF 36864 .bool)::bs 22 (dw (nn (.int .i64))::DI::DI::bs 19 []),Z::(some Y13)::zs 46 [],.none⟩
def G56:=G51.q1 {mask:=mk [(5,[1,2,3,26,27,28])],merge:=mg [(1,21),(7,43)]} func56 [pf kI] [rB] (c1 jY) agw (λX K=>wR (λy0 y1=>ke 0 K agw ((z1 (w y0 (z2 (u y1))) X.1),X.2)) (λy0 y1 y2=>kr K agw ((w y0 (w y1 (z2 (u y2))) X.1),X.2)) X.1.1 (q2 X) (q3 X) X.2.1.1) (λX=>(X.1.2.1,q4 X)) (λX x=>((z1 (w x.1 (z2 (u x.2))) X.1),X.2))
def apT:=G56.q0 {merge:=mg [(1,2)]} func203 [pI] [rB] (c1 uK)
def apn:=apT.q0 {} func163 [pI,pI] [rI] (c2 jZ)
def apU:=apn.q0 {} func204 [pf vL] [rI] (c1 kD)
def aoN:=apU.q0 {merge:=mg [(1,2)]} func113 [pf vL] [rB] (c1 kR)
def G49:=aoN.q0 {} func49 [pd (.sl (.int .i64))] [(false,(.sl (.own none) (.int .i64)))] (c1 ie)
def aoG:=G49.q0 {mv:=[7]} func105 [pf kI] [(true,Y8)] (c1 jH)
def aoR:=aoG.q0 {merge:=mg [(3,21)],mv:=[10,24]} func117 [pf kI,pd (.sl (.int .i64))] [(true,Y8),rB] (c2 ic)
abbrev agu:SD:=⟨B::.ptr 1 0::DB::DI::dw (dF 49152 (.int .i64))::bs 25 (dw (nn kX)::DI::DI::bs 35 []),Z::(some Y22)::zs 66 [],.none⟩
def G52:=aoR.q1 {mask:=mk [(6,[1,2,3,4,30,31,32])],merge:=mg [(1,24),(8,50)],mv:=[55]} func52 [pf ns] [rB] (c1 BG) agu (λX K=>wV (λy0 y1 y2=>ke 0 K agu ((z1 (w y0 (w y1 (z2 (u y2)))) X.1),X.2)) (λy0 y1 y2 y3=>kr K agu ((w y0 (w y1 (w y2 (z2 (u y3)))) X.1),X.2)) X.1.1 (q3 X) (q4 X) X.2.1.1) (λX=>(X.1.2.1,q2 X,q5 X)) (λX x=>((z1 (w x.1 (w x.2.1 (z2 (u x.2.2)))) X.1),X.2))
abbrev agv:SD:=⟨B::.ptr 1 0::DB::B::B::B::dw (nn (.int .i64))::DI::DI::bs 31 [],Z::(some Y26)::zs 38 [],.none⟩
def G53:=G52.q1 {mask:=mk [(2,[1,2,6,7,8])],merge:=mg [(4,29),(7,2)]} func53 [pf yz] [rB] (c1 uB) agv (λX K=>tq (λy0=>ke 0 K agv ((z3 (u y0) X.1),X.2)) (λy0 y1=>kr K agv ((w y0 (z2 (u y1)) X.1),X.2)) X.1.1 X.1.2.1 (q2 X) X.2.1.1) q3 (λX x=>((z3 (u x) X.1),X.2))
def aoS:=G53.q0 {merge:=mg [(1,2)]} func118 [pf iH] [rB] (c1 ql)
def ap0:=aoS.q0 {merge:=mg [(1,18),(5,2),(7,2)]} func210 [pf Ds] [rB] (c1 sK)
def ap1:=ap0.q0 {merge:=mg [(1,2)]} func211 [pI] [rB] (c1 sO)
def aoT:=ap1.q0 {merge:=mg [(1,2)]} func119 [pf dk] [rB] (c1 iO)
def G55:=aoT.q0 {merge:=mg [(1,42),(5,2)]} func55 [pf eS] [rB] (c1 vU)
def aoU:=G55.q0 {merge:=mg [(1,2)]} func120 [pf iv] [rB] (c1 DP)
def G57:=aoU.q0 {merge:=mg [(1,24),(3,2)]} func57 [pf iv] [rB] (c1 nZ)
def ap2:=G57.q0 {merge:=mg [(1,33),(3,54),(5,2)]} func212 [pf kj] [rB] (c1 CH)
abbrev Zm:SD:=⟨dw (nn kj)::B::DB::B::B::dw (nn kj)::DI::DI::bs 10 [],zs 18 [],.none⟩
def aoV:=ap2.q1 {mask:=mk [(2,[0,2,5,6,7])]} func121 [pd (.sl kj)] [rB] (c1 AW) Zm (λX K=>Fm (λy0=>ke 0 K Zm ((z4 (u y0) X.1),X.2)) (λy0 y1=>kr K Zm ((z1 (w y0 (z2 (u y1))) X.1),X.2)) X.1.1 X.1.2.1 (q2 X) (q3 X)) q4 (λX x=>((z4 (u x) X.1),X.2))
abbrev Zy:SD:=⟨B::B::B::.ptr 3 0::DI::B::B::B::dw (nn jd)::DI::DI::bs 15 [],Z::Z::Z::(ur (dq Dq Y1))::zs 22 [],.none⟩
def ap3:=aoV.q1 {mask:=mk [(2,[3,4,8,9,10])],merge:=mg [(4,23)]} func213 [pf (.sl jd),pf ot] [rI] (c2 zG) Zy (λX K=>xc (λy0=>ke 0 K Zy ((z3 (u y0) X.1),X.2)) (λy0 y1=>kr K Zy ((w y0 (z2 (u y1)) X.1),X.2)) X.1.1 X.1.2.1 (q2 X) X.2.1.1) q3 (λX x=>((z3 (u x) X.1),X.2))
abbrev agb:SD:=⟨B::B::B::DI::bs 12 (dw (dF 196608 (.int .i64))::DI::DI::bs 10 []),zs 29 [],.none⟩
def aqK:=ap3.q1 {mask:=mk [(3,[3,16,17,18])]} func268 [pf ot] [rI] (c1 yJ) agb (λX K=>oY (λy0 y1=>ke 0 K agb ((w y0 (z2 (u y1)) X.1),X.2)) X.1.2.1 (q2 X)) (λX=>(X.1.1,q3 X)) (λX x=>((w x.1 (z2 (u x.2)) X.1),X.2))
abbrev af7:SD:=⟨B::.ptr 1 0::B::dw (dF 36864 (.int .i64))::DI::bs 14 [],Z::(ur (dq Dq Y1))::zs 17 [],.none⟩
def alk:=aqK.q1 {mask:=mk [(3,[1,3,4])],mv:=[10,18]} func214 [pf ot] [(false,(.sl (.own none) (.int .i64)))] (c1 EB) af7 (λX K=>uL (λy0 y1=>ke 0 K af7 ((w y0 (u y1) X.1),X.2)) X.2.1.1) (λX=>(X.1.1,X.1.2.1)) (λX x=>((w x.1 (u x.2) X.1),X.2))
def amw:An:={mask:=mk [(4,[1,2,12,13,14]),(14,[1,2,3,12,13,14,49,50,51])],merge:=mg [(6,28),(9,40)]}
abbrev IW:SD:=⟨B::.ptr 1 0::DB::DI::bs 8 (dw (nn jd)::DI::DI::bs 34 (dw (dF 602112 (.int .i64))::DI::DI::bs 15 [])),Z::(ur (nn jd))::zs 65 [],.none⟩
def acN (X:SD.D IW)(K:xV R):=mx (λy0=>ke 2 K IW ((z7 (u y0) X.1),X.2)) (λy0 y1=>kr K IW ((w y0 (z6 (u y1)) X.1),X.2)) X.1.1 X.1.2.1 (q2 X) (q3 X) (q4 X) (q5 X) (q6 X) X.2.1.1
abbrev N8:SD:=⟨B::.ptr 1 0::DB::bs 9 (dw (nn jd)::DI::DI::bs 52 []),Z::(ur (nn jd))::zs 65 [],.none⟩
def aiC (X:SD.D N8)(K:xV R):=vh (λy0=>ke 0 K N8 ((z3 (u y0) X.1),X.2)) (λy0 y1=>kr K N8 ((w y0 (z2 (u y1)) X.1),X.2)) X.1.1 X.1.2.1 (q2 X) X.2.1.1
def anh:nq:=(nq.nil.add 14 (B8 IW acN q7)).add 4 (B8 N8 aiC q3)
theorem ajP:AF E alk.g amw anh (dm f122 1):=lk IW acN q7 λX x=>((z7 (u x) X.1),X.2)
theorem amb:AF E alk.g amw anh (dm f122 0):=lk N8 aiC q3 λX x=>((z3 (u x) X.1),X.2)
def aoW:=alk.qk amw func122 [pf (.sl jd)] [rB] (c1 tD) (cF amb (cF ajP nF))
def ap4:=aoW.q0 {merge:=mg [(1,2)]} func215 [pI] [rB] (c1 F8)
abbrev Zn:SD:=⟨B::DI::B::B::DB::bs 19 (dw (nn (.int .i64))::DI::DI::bs 9 []),zs 36 [],.none⟩
def alh:=ap4.q1 {mask:=mk [(4,[1,4,24,25,26])],merge:=mg [(1,22)]} func123 [pf Cr,pI] [rB] (c2 yN) Zn (λX K=>DN (λy0=>ke 0 K Zn ((z4 (u y0) X.1),X.2)) (λy0 y1=>kr K Zn ((z1 (w y0 (z2 (u y1))) X.1),X.2)) X.1.1 X.1.2.1 (q2 X) (q3 X)) q4 (λX x=>((z4 (u x) X.1),X.2))
def n58:An:={mask:=mk [(4,[1,2,4,27,28,29]),(10,[1,4,45,46,47])],merge:=mg [(1,25),(6,41),(12,59)]}
abbrev VP:SD:=⟨B::DI::.ptr 2 0::B::DB::bs 22 (dw (nn kj)::DI::DI::bs 31 []),Z::Z::(some Y19)::zs 58 [],.none⟩
def alb (X:SD.D VP)(K:xV R):=qn (λy0=>ke 0 K VP ((z4 (u y0) X.1),X.2)) (λy0 y1=>kr K VP ((z1 (w y0 (z2 (u y1))) X.1),X.2)) X.1.1 X.1.2.1 (q2 X) (q3 X) X.2.1.1
abbrev Od:SD:=⟨B::DI::B::B::DB::bs 40 (dw (nn jd)::DI::DI::bs 13 []),zs 61 [],.none⟩
def aiS (X:SD.D Od)(K:xV R):=oE (λy0=>ke 2 K Od ((z4 (u y0) X.1),X.2)) (λy0 y1=>kr K Od ((z1 (w y0 (z2 (u y1))) X.1),X.2)) X.1.1 X.1.2.1 (q2 X) (q3 X)
def L58:nq:=(nq.nil.add 4 (B8 VP alb q4)).add 10 (B8 Od aiS q4)
theorem aoh:AF E alh.g n58 L58 (dm f58 0):=lk VP alb q4 λX x=>((z4 (u x) X.1),X.2)
theorem amr:AF E alh.g n58 L58 (dm f58 1):=lk Od aiS q4 λX x=>((z4 (u x) X.1),X.2)
def G58:=alh.qk n58 func58 [pf ri,pI] [rB] (c2 qL) (cF aoh (cF amr nF))
def n14:An:={mask:=mk [(5,[1,2,3,61,62]),(12,[1,2,3,103,104,105])],merge:=mg [(2,58),(7,89)]}
abbrev VO:SD:=⟨B::.ptr 1 0::DB::DI::bs 57 (DI::DI::bs 54 []),Z::(some Y4)::zs 115 [],.none⟩
def ak7 (X:SD.D VO)(K:xV R):=wN (λy0=>ke 0 K VO ((z3 (u y0) X.1),X.2)) (λy0 y1=>kr K VO ((w y0 (z2 (u y1)) X.1),X.2)) X.1.1 X.1.2.1 (q2 X) X.2.1.1
abbrev N9:SD:=⟨B::.ptr 1 0::DB::DI::bs 99 (dw (dF 1265664 (.int .i64))::DI::DI::bs 11 []),Z::(some Y4)::zs 115 [],.none⟩
def aiD (X:SD.D N9)(K:xV R):=uZ (λy0=>ke 2 K N9 ((z4 (u y0) X.1),X.2)) (λy0 y1=>kr K N9 ((w y0 (z3 (u y1)) X.1),X.2)) X.1.1 X.1.2.1 (q2 X) (q3 X) X.2.1.1
def L14:nq:=(nq.nil.add 5 (B8 VO ak7 q3)).add 12 (B8 N9 aiD q4)
theorem aod:AF E G58.g n14 L14 (dm f14 0):=lk VO ak7 q3 λX x=>((z3 (u x) X.1),X.2)
theorem amc:AF E G58.g n14 L14 (dm f14 1):=lk N9 aiD q4 λX x=>((z4 (u x) X.1),X.2)
def G14:=G58.qk n14 func14 [pf eG] [rB] (c1 jX) (cF aod (cF amc nF))
def aoK:=G14.q0 {} func109 [pd (.sl .str)] [(false,(.sl (.own none) .str))] (c1 mz)
def G59:=aoK.q0 {} func59 [pf (.sl .str)] [(true,(.sl (.own none) .str))] (c1 dJ)
def aoE:=G59.q0 {} func103 [pd (.sl bU)] [(false,(.sl (.own none) bU))] (c1 wX)
abbrev af4:SD:=⟨B::B::B::dw (dF 36864 kX)::B::B::B::dw (nn kX)::DI::DI::bs 16 [],zs 26 [],.none⟩
def apM:=aoE.q1 {mask:=mk [(3,[3,7,8,9])],mv:=[13,25]} func196 [pd (.sl kX)] [(false,(.sl (.own none) kX))] (c1 uJ) af4 (λX K=>tJ (λy0 y1=>ke 0 K af4 ((w y0 (z2 (u y1)) X.1),X.2)) X.1.2.1 (q2 X)) (λX=>(X.1.1,q3 X)) (λX x=>((w x.1 (z2 (u x.2)) X.1),X.2))
def aoF:=apM.q0 {sb:=mg [(2,2)]} func104 [pf ns] [(true,Y18)] (c1 sL)
def aoH:=aoF.q0 {mv:=[7]} func106 [pf yz] [(true,Y25)] (c1 vj)
def apN:=aoH.q0 {} func197 [pf (.sl jd)] [(true,(.sl (.own none) jd))] (c1 wY)
def apO:=apN.q0 {sb:=mg [(2,2)]} func198 [pf Cr] [(true,(.pair .str (.sl (.own none) (.int .i64))))] (c1 vm)
def aoI:=apO.q0 {sb:=mg [(2,2)]} func107 [pf ri] [(true,Y20)] (c1 sa)
def aoJ:=aoI.q0 {} func108 [pd (.sl dH)] [(false,(.sl (.own none) dH))] (c1 my)
abbrev akI:SD:=⟨B::.ptr 1 0::.ptr 2 0::.ptr 3 0::bs 23 (dw (nn kI)::DI::DI::bs 46 []),Z::(some Y4)::(some Y3)::(ur (dq (dF 36865 .str) (dq (dF 36868 bU) (dq (dq Y1 (dq (kW (kW (kW (dF 36892 (.int .i64))))) (dq (dF 36895 kX) Dq))) (dq (dF 36901 eS) (dq (dF 36904 kI) (dq (nn iv) (dq (nn .bool) (dq Y26 (dq Y19 (dq (nn dH) (dq .bool (dq (nn .str) (dq (nn (.int .i64)) (dq (nn (.int .i64)) (dq Dq Y1))))))))))))))))::zs 72 [],.none⟩
def G41:=aoJ.q1 {mask:=mk [(8,[1,2,3,27,28,29])],mv:=[34,75],mb:=mg [(34,3)],sb:=mg [(39,3)]} func41 [pf eG] [(true,Y0)] (c1 jm) akI (λX K=>tI (λy0 y1=>ke 0 K akI ((z2 (u y0) X.1),(z2 (u y1) X.2.1),X.2.2)) X.1.1 X.1.2.1 X.2.1.1 X.2.1.2.1) (λX=>(q2 X,X.2.1.2.2.1)) (λX x=>((z2 (u x.1) X.1),(z2 (u x.2) X.2.1),X.2.2))
def apV:=G41.q0 {merge:=mg [(1,2)]} func205 [pf pU] [rB] (c1 zB)
def apW:=apV.q0 {} func206 [pI] [rS] (c1 cA)
def apX:=apW.q0 {} func207 [pI] [rS] (c1 iE)
def aoO:=apX.q0 {} func114 [pf pU] [rS] (c1 nj)
def aoP:=aoO.q0 {merge:=mg [(1,15)]} func115 [pf kI,pI] [rI] (c2 gY)
def apq:=aoP.q0 {} func166 [pf vL] [rI] (c1 uH)
def aqI:=apq.q0 {merge:=mg [(4,29)]} func266 [pd (.sl bU),pI,pI,pd .bool] [rI] (c4 EA)
def aqJ:=aqI.q0 {merge:=mg [(2,6)]} func267 [pf (.sl .str),pI,pI] [rB] (c3 vW)
abbrev Zx:SD:=⟨dw (nn bU)::B::DI::DI::DI::DB::B::.ptr 7 0::bs 4 (dw (dF 147456 kf)::DB::dw (dF 172032 kf)::bs 60 []),zs 7 ((ur (nn .str))::zs 67 []),.none⟩
def apR:=aqJ.q1 {mask:=mk [(8,[0,2,3,4,5,7,12,13,14])],merge:=mg [(1,29),(11,55),(16,73)],mv:=[56,74]} func201 [pd (.sl bU),pf (.sl .str),pI,pI,pI,pd .bool] [(false,(.sl (.own none) kf)),rB] (c6 zF) Zx (λX K=>sM (λy0 y1 y2=>ke 0 K Zx ((z2 (w y0 (w y1 (z3 (u y2)))) X.1),X.2)) (λy0 y1 y2 y3 y4=>kr K Zx ((z2 (w y0 (w y1 (z1 (w y2 (w y3 (u y4)))))) X.1),X.2)) X.1.1 X.1.2.1 (q4 X) (q5 X) (q6 X) X.2.1.1) (λX=>(q2 X,q3 X,q7 X)) (λX x=>((z2 (w x.1 (w x.2.1 (z3 (u x.2.2)))) X.1),X.2))
abbrev af6:SD:=⟨B::DI::dw .str::B::B::B::.ptr 6 0::B::.ptr 8 0::bs 41 [],zs 6 ((ur (dF 73729 .str))::Z::(ur (dF 98305 .str))::zs 41 []),.none⟩
def apS:=apR.q1 {mask:=mk [(4,[1,2,6,8])],nest:=[33],mv:=[19,49]} func202 [pf (.sl .str),pI,pd .str] [(true,(.sl (.own none) .str)),rB] (c3 tG) af6 (λX K=>oG (λy0 y1 y2=>ke 0 K af6 ((w y0 (u y1) X.1),(z1 (u y2) X.2.1),X.2.2)) X.2.1.1) (λX=>(X.1.1,X.1.2.1,X.2.1.2.1)) (λX x=>((w x.1 (u x.2.1) X.1),(z1 (u x.2.2) X.2.1),X.2.2))
abbrev afY:SD:=⟨bs 4 (dw .str::bs 7 (.ptr 12 0::B::.ptr 14 0::bs 20 (dw (.sl .loc kf)::DI::DI::bs 20 []))),zs 12 ((ur (dF 147457 .str))::Z::(ur (dF 172033 .str))::zs 43 []),.none⟩
def aoM:=apS.q1 {mask:=mk [(6,[4,12,14,35,36,37])],mv:=[34,41,50,57],sb:=mg [(14,14)]} func112 [pd (.sl bU),pf (.sl .str),pI,pI,pd .str,pd .bool] [(true,(.sl (.own none) .str)),rB] (c6 F7) afY (λX K=>zE (λy0 y1 y2=>ke 0 K afY ((w y0 (z2 (u y1)) X.1),(z1 (u y2) X.2.1),X.2.2)) X.1.2.1 (q2 X) X.2.1.1) (λX=>(X.1.1,q3 X,X.2.1.2.1)) (λX x=>((w x.1 (z2 (u x.2.1)) X.1),(z1 (u x.2.2) X.2.1),X.2.2))
def apY:=aoM.q0 {} func208 [pd (.sl bU),pf (.sl .str),pI,pI,pd .str] [(true,(.sl (.own none) .str)),rB] (c5 rp)
def apZ:=apY.q0 {merge:=mg [(1,11)]} func209 [pf vL,pI] [rI] (c2 pa)
def aoQ:=apZ.q0 {merge:=mg [(1,22)],mv:=[26,36,40,50],mb:=mg [(40,13),(50,13)],sb:=mg [(10,10),(11,11),(13,13)]} func116 [pd (.sl bU),pf (.sl .str),pI,pf vL,pd .str] [(true,(.sl (.own none) .str)),(true,Y1),rB] (c5 wT)
abbrev akK:SD:=⟨dw (nn bU)::B::DI::bs 5 (.ptr 8 0::.ptr 9 0::.ptr 10 0::.ptr 11 0::.ptr 12 0::B::.ptr 14 0::.ptr 15 0::DI::bs 22 (dw (nn (.int .i64))::DI::DI::bs 38 [])),zs 8 ((some Y1)::(some Y13)::(ur (dF 122881 .str))::(some Y1)::(some Y28)::Z::(ur (dF 172033 .str))::(some Y27)::zs 64 []),.none⟩
def G48:=aoQ.q1 {mask:=mk [(6,[0,2,8,9,10,11,12,14,15,16,39,40,41])],merge:=mg [(2,34)],mv:=[35,37,53,65,76,78],mb:=mg [(35,14),(37,15),(65,20),(76,14),(78,15)],sb:=mg [(8,8),(10,10),(11,11),(12,12),(14,14),(15,15)]} func48 [pd (.sl bU),pf (.sl .str),pI,pf vL,pf kI] [(true,(.sl (.own none) .str)),(true,Y1),(true,Y8),rI] (c5 jG) akK (λX K=>oV (λy0 y1 y2 y3=>ke 0 K akK ((z2 (w y0 (z2 (u y1))) X.1),(w y2 (z4 (u y3)) X.2.1),X.2.2)) X.1.1 X.1.2.1 (q3 X) (q4 X) X.2.1.2.1 X.2.1.2.2.1 X.2.1.2.2.2.1 X.2.1.2.2.2.2.1 X.2.1.2.2.2.2.2.2.1) (λX=>(q2 X,q5 X,X.2.1.1,X.2.1.2.2.2.2.2.1)) (λX x=>((z2 (w x.1 (z2 (u x.2.1))) X.1),(w x.2.2.1 (z4 (u x.2.2.2)) X.2.1),X.2.2))
abbrev aga:SD:=⟨B::DI::DI::.ptr 3 0::bs 4 (dw (dF 98304 (.int .u8))::bs 41 []),Z::Z::Z::(ur (nn .str))::zs 46 [],.none⟩
def aqH:=G48.q1 {mask:=mk [(4,[1,2,3,8])],mv:=[41]} func265 [pf (.sl .str),pI,pI] [rS,rB] (c3 qK) aga (λX K=>mN (λy0 y1=>ke 0 K aga ((w y0 (z1 (u y1)) X.1),X.2)) X.1.2.1 X.2.1.1) (λX=>(X.1.1,q2 X)) (λX x=>((w x.1 (z1 (u x.2)) X.1),X.2))
abbrev af5:SD:=⟨bs 6 (.ptr 6 0::bs 7 (dw .str::bs 15 (dw (.sl .loc kf)::DI::DI::bs 17 []))),zs 6 ((ur (nn .str))::zs 43 []),.none⟩
def apP:=aqH.q1 {mask:=mk [(6,[6,14,30,31,32])]} func199 [pd (.sl bU),pf (.sl .str),pI,pI,pI] [rS,rB] (c5 qc) af5 (λX K=>uY (λy0 y1=>ke 0 K af5 ((w y0 (z2 (u y1)) X.1),X.2)) X.1.2.1 (q2 X) X.2.1.1) (λX=>(X.1.1,q3 X)) (λX x=>((w x.1 (z2 (u x.2)) X.1),X.2))
def ap9:=apP.q0 {} func224 [pf iH] [rI] (c1 pn)
def aqR:=ap9.q0 {merge:=mg [(1,13)]} func277 [pd .str,pI] [rI] (c2 gu)
def aqS:=aqR.q0 {merge:=mg [(1,13)]} func278 [pd .str,pI] [rI] (c2 jL)
def aqa:=aqS.q0 {} func225 [pd .str] [(true,(.pair (.int .i64) Y1)),rI,rB] (c1 mT)
def aqb:=aqa.q0 {} func226 [pf iH] [rI] (c1 xa)
def ao5:=aqb.q0 {merge:=mg [(7,46)],sb:=mg [(8,8),(9,9)]} func143 [pd (.sl bU),pf (.sl .str),pI,pf iH] [(true,(.pair (.int .i64) Y1)),(true,Y21),rB] (c4 lK)
def aqW:=ao5.q0 {merge:=mg [(1,2)]} func282 [pf afF] [rB] (c1 B5)
def aqk:=aqW.q0 {merge:=mg [(4,33)],sb:=mg [(4,4)]} func236 [pd .str] [(true,Y16),rB] (c1 uF)
def aqs:=aqk.q0 {merge:=mg [(1,17)]} func244 [pd .str,pI,pd .str] [rS] (c3 gS)
def arN:=aqs.q0 {merge:=mg [(1,12)]} func335 [pI,pI] [rI] (c2 AO)
abbrev agp:SD:=⟨dw .str::B::B::DI::DI::bs 28 [],zs 33 [],.none⟩
def arE:=arN.q1 {mask:=mk [(3,[0,3,4])]} func326 [pd .str] [rI] (c1 yO) agp (λX K=>tC (λy0 y1=>ke 0 K agp ((z1 (w y0 (u y1)) X.1),X.2)) X.1.1) (λX=>(X.1.2.1,q2 X)) (λX x=>((z1 (w x.1 (u x.2)) X.1),X.2))
def arl:=arE.q0 {} func309 [pd .str] [rI] (c1 kC)
def arG:=arl.q0 {merge:=mg [(1,2)]} func328 [pf TIp] [rB] (c1 KX)
def arq:=arG.q0 {} func313 [pf TIp] [rS,rB] (c1 yK)
def aqX:=arq.q0 {} func283 [pf TIp] [rS,rB] (c1 wJ)
def aql:=aqX.q0 {merge:=mg [(2,22),(6,56)],sb:=mg [(5,5)]} func237 [pd .str] [(true,Y23),rB] (c1 AU)
def aq2:=aql.q0 {} func288 [pI] [rI] (c1 gK)
def ark:=aq2.q0 {merge:=mg [(1,27)]} func308 [pI,pI,pI,pI] [rS,rB] (c4 rX)
def ars:=ark.q0 {} func314 [pf Ds] [rS] (c1 tH)
def aqY:=ars.q0 {merge:=mg [(8,39)]} func284 [pI,pI,pf Ds] [rS,rB] (c3 kZ)
def aqm:=aqY.q0 {merge:=mg [(3,20),(9,44),(12,68)]} func238 [pI,pI,pI,pd .str] [(true,(.pair (.int .i64) Y23)),rB] (c4 rV)
def ape:=aqm.q0 {merge:=mg [(2,20)]} func154 [pd .str] [(true,Y2),rI] (c1 jM)
abbrev Zo:SD:=⟨B::B::B::.ptr 3 0::DI::B::B::dw (nn dH)::DI::DI::bs 10 [],Z::Z::Z::(ur (dq Dq Y1))::zs 16 [],.none⟩
def ao6:=ape.q1 {mask:=mk [(2,[3,4,7,8,9])]} func144 [pd (.sl dH),pf ot] [rI] (c2 mw) Zo (λX K=>jR (λy0=>ke 0 K Zo ((z3 (u y0) X.1),X.2)) (λy0 y1=>kr K Zo ((w y0 (z2 (u y1)) X.1),X.2)) X.1.1 X.1.2.1 (q2 X) X.2.1.1) q3 (λX x=>((z3 (u x) X.1),X.2))
def api:=ao6.q0 {} func158 [pf dk] [(true,(.pair (.int .i64) Y1))] (c1 vT)
def apQ:=api.q0 {merge:=mg [(17,82)],mv:=[16,31,51,58,67,83,132],er:=mg [(115,5)]} func200 [pd (.sl dH),pf dk] [(false,(.sl (.own none) dH))] (c2 AP)
abbrev afW:SD:=⟨dw (nn bU)::B::DI::B::B::B::DI::B::B::B::.ptr 10 0::B::B::B::.ptr 14 0::.ptr 15 0::.ptr 16 0::B::B::.ptr 19 0::.ptr 20 0::dw (dF 258048 dH)::DI::bs 99 [],zs 10 ((some Y9)::Z::Z::Z::(ur (dF 172033 .str))::(some Y9)::(ur (kW (kW (kW (dF 196618 (.int .i64))))))::Z::Z::(ur (dF 233473 .str))::(ur (kW (kW (kW (dF 245770 (.int .i64))))))::zs 101 []),.none⟩
def am4:=apQ.q1 {mask:=mk [(5,[0,2,6,10,14,15,16,19,20,21,22])],merge:=mg [(2,48)],mv:=[49,51,52,96,104,117,119,120],mb:=mg [(49,19),(51,20),(117,19),(119,20)],sb:=mg [(14,14),(15,15),(16,16),(19,19),(20,20)]} func110 [pd (.sl bU),pf (.sl .str),pI,pf eS,pf kI,pd (.sl dH),pI] [(true,(.sl (.own none) .str)),(true,Y9),(true,Y8),(false,(.sl (.own none) dH)),rI] (c7 wQ) afW (λX K=>nJ (λy0 y1 y2 y3=>ke 0 K afW ((z3 (w y0 (u y1)) X.1),(w y2 (z4 (u y3)) X.2.1),X.2.2)) X.1.1 X.1.2.1 (q2 X) X.2.1.2.1 X.2.1.2.2.1 X.2.1.2.2.2.1 X.2.1.2.2.2.2.1) (λX=>(q3 X,q4 X,X.2.1.1,X.2.1.2.2.2.2.2.1)) (λX x=>((z3 (w x.1 (u x.2.1)) X.1),(w x.2.2.1 (z4 (u x.2.2.2)) X.2.1),X.2.2))
def e42:kH:=kN (.pair (.sl (.own none) .str) (.pair (.sl (.own none) bU) (.pair (.pair (.pair (.int .i64) (.pair (.int .i64) (.pair (.int .i64) (.int .i64)))) (.pair (.pair (.int .i64) (.pair (.int .i64) (.pair (.int .i64) (.sl (.own none) (.int .i64))))) (.pair (.sl (.own none) kX) (.int .i64)))) (.pair (.sl (.own none) eS) (.pair (.sl (.own none) kI) (.pair (.sl (.own none) iv) (.pair (.sl (.own none) .bool) (.pair (.pair (.int .i64) (.pair .bool (.sl (.own none) (.int .i64)))) (.pair (.pair (.sl (.own none) kj) (.pair (.sl (.own none) jd) (.pair .str (.sl (.own none) (.int .i64))))) (.pair (.sl (.own none) dH) (.pair .bool (.pair (.sl (.own none) .str) (.pair (.sl (.own none) (.int .i64)) (.pair (.sl (.own none) (.int .i64)) (.pair (.int .i64) (.pair (.int .i64) (.pair (.int .i64) (.pair (.int .i64) (.int .i64))))))))))))))))))) [pI,pI] [rI] λx a=>me x a.1 a.2.1
theorem o42:Ho 42 e42:=jj.se (rM (an:={mv:=[8,49,51,52],sb:=mg [(55,0),(59,0)],fm:=[19,20],eb:=mg [(56,0),(57,0)]}) (Λ:=nq.nil) (am4.s) func42 (by kernel_rfl) (ao nF)) (λx a=>by kernel_rfl)
def G42:=am4.add o42
abbrev afX:SD:=⟨B::B::DI::B::B::B::.ptr 6 0::B::.ptr 8 0::DI::bs 20 [],zs 6 ((some Y30)::Z::(some Y29)::zs 21 []),.none⟩
def aoL:=G42.q1 {mask:=mk [(5,[2,6,8,9])],mv:=[24,29]} func111 [pI,pI,pI] [(true,Y8),rB] (c3 wP) afX (λX K=>vd (λy0 y1=>ke 0 K afX ((z1 (u y0) X.1),(z1 (u y1) X.2.1),X.2.2)) X.1.1 X.2.1.1) (λX=>(X.1.2.1,X.2.1.2.1)) (λX x=>((z1 (u x.1) X.1),(z1 (u x.2) X.2.1),X.2.2))
def G43:=aoL.q0 {mv:=[3,8]} func43 [] [(true,Y18)] (λa=>Ez)
def G44:=G43.q0 {} func44 [pd (.sl bU),pf (.sl .str),pI,pI,pd .str] [(true,(.sl (.own none) .str)),rB] (c5 kQ)
def G45:=G44.q0 {} func45 [pI] [rI] (c1 sN)
abbrev akJ:SD:=⟨dw (.int .u8)::bs 4 (dw (dF 61440 (.int .u8))::bs 4 (DI::DI::bs 9 [])),zs 21 [],.none⟩
def G46:=G45.q1 {mask:=mk [(3,[0,5,10,11])]} func46 [pd (.int .u8),pI] [rS] (c2 pY) akJ (λX K=>xb (λy0 y1=>ke 0 K akJ ((z1 (w y0 (z1 (u y1))) X.1),X.2)) X.1.1 (q2 X)) (λX=>(X.1.2.1,q3 X)) (λX x=>((z1 (w x.1 (z1 (u x.2))) X.1),X.2))
def G47:=G46.q0 {mv:=[10,24],mb:=mg [(24,5)],sb:=mg [(2,2),(3,3)]} func47 [pI] [(true,Y9),(true,Y8)] (c1 ye)
def n11:An:={mask:=mk [(5,[2,3,21,22]),(10,[2,3,30,31,32]),(18,[2,3,54,55])],mv:=[18,37,88,98,121,142],sb:=mg [(90,3)]}
abbrev abS:SD:=⟨B::B::.ptr 2 0::.ptr 3 0::bs 17 (DI::DI::bs 120 []),Z::Z::(some Y3)::(some Y5)::zs 139 [],.none⟩
def ak6 (X:SD.D abS)(K:xV R):=rT (λy0 y1=>ke 0 K abS ((z1 (u y0) X.1),(z1 (u y1) X.2.1),X.2.2)) X.1.1 X.2.1.1
abbrev TK:SD:=⟨B::B::.ptr 2 0::.ptr 3 0::bs 26 (dw (.sl .loc kX)::DI::DI::bs 110 []),Z::Z::(some Y3)::(some Y5)::zs 139 [],.none⟩
def aiA (X:SD.D TK)(K:xV R):=qg (λy0 y1=>ke 2 K TK ((z2 (u y0) X.1),(z1 (u y1) X.2.1),X.2.2)) X.1.1 X.1.2.1 X.2.1.1
abbrev TL:SD:=⟨B::B::.ptr 2 0::.ptr 3 0::bs 50 (DI::DI::bs 87 []),Z::Z::(some Y3)::(some Y5)::zs 139 [],.none⟩
def aiB (X:SD.D TL)(K:xV R):=mM (λy0 y1=>ke 4 K TL ((z1 (u y0) X.1),(z1 (u y1) X.2.1),X.2.2)) X.1.1 X.2.1.1
def L11:nq:=((nq.nil.add 5 (B8 abS ak6 (λX=>(X.1.2.1,X.2.1.2.1)))).add 10 (B8 TK aiA (λX=>(q2 X,X.2.1.2.1)))).add 18 (B8 TL aiB (λX=>(X.1.2.1,X.2.1.2.1)))
theorem aoc:AF E G47.g n11 L11 (dm f11 0):=lk abS ak6 (λX=>(X.1.2.1,X.2.1.2.1)) λX x=>((z1 (u x.1) X.1),(z1 (u x.2) X.2.1),X.2.2)
theorem al9:AF E G47.g n11 L11 (dm f11 1):=lk TK aiA (λX=>(q2 X,X.2.1.2.1)) λX x=>((z2 (u x.1) X.1),(z1 (u x.2) X.2.1),X.2.2)
theorem ama:AF E G47.g n11 L11 (dm f11 2):=lk TL aiB (λX=>(X.1.2.1,X.2.1.2.1)) λX x=>((z1 (u x.1) X.1),(z1 (u x.2) X.2.1),X.2.2)
def G11:=G47.qk n11 func11 [pf eG] [(true,Y0)] (c1 mL) (cF aoc (cF al9 (cF ama nF)))
def amE:An:={mask:=mk [(3,[0,3,4]),(7,[0,3,4,5])]}
abbrev TW:SD:=⟨dw .str::B::B::dw (.int .u32)::DI::DI::bs 28 [],zs 34 [],.none⟩
def aiR (X:SD.D TW)(K:xV R):=rn (λy0 y1=>ke 2 K TW ((z1 (w y0 (z1 (u y1))) X.1),X.2)) X.1.1 (q2 X)
abbrev TV:SD:=⟨dw .str::B::B::dw (.int .u32)::DI::bs 29 [],zs 34 [],.none⟩
def aiQ (X:SD.D TV)(K:xV R):=uA (λy0 y1=>ke 0 K TV ((z1 (w y0 (u y1)) X.1),X.2)) X.1.1
def anq:nq:=(nq.nil.add 7 (B8 TW aiR (λX=>(X.1.2.1,q3 X)))).add 3 (B8 TV aiQ (λX=>(X.1.2.1,q2 X)))
theorem amq:AF E G11.g amE anq (dm f281 1):=lk TW aiR (λX=>(X.1.2.1,q3 X)) λX x=>((z1 (w x.1 (z1 (u x.2))) X.1),X.2)
theorem amp:AF E G11.g amE anq (dm f281 0):=lk TV aiQ (λX=>(X.1.2.1,q2 X)) λX x=>((z1 (w x.1 (u x.2)) X.1),X.2)
def aqV:=G11.qk amE func281 [pd .str] [rI] (c1 Ew) (cF amp (cF amq nF))
def aqj:=aqV.q0 {} func235 [pd .str] [rS] (c1 wW)
def apd:=aqj.q0 {merge:=mg [(2,17)]} func153 [pd .str] [rS,rB] (c1 yE)
def apf:=apd.q0 {merge:=mg [(1,2)]} func155 [pf dk] [rB] (c1 nX)
def G78:=apf.q0 {} func78 [pd .str] [(true,Y2),rI] (c1 wS)
abbrev agx:SD:=⟨B::DI::B::B::DB::B::B::dw (nn (.int .i64))::DI::DI::bs 7 [],zs 17 [],.none⟩
def G61:=G78.q1 {mask:=mk [(2,[1,4,7,8,9])]} func61 [pd (.sl (.int .i64)),pI] [rB] (c2 vV) agx (λX K=>wZ (λy0=>ke 0 K agx ((z4 (u y0) X.1),X.2)) (λy0 y1=>kr K agx ((z1 (w y0 (z2 (u y1))) X.1),X.2)) X.1.1 X.1.2.1 (q2 X) (q3 X)) q4 (λX x=>((z4 (u x) X.1),X.2))
def G79:=G61.q0 {merge:=mg [(1,4)]} func79 [pf yz,pf dk] [rB] (c2 AN)
def aqZ:=G79.q0 {} func285 [pI,pI,pI] [rB] (c3 qM)
def aqn:=aqZ.q0 {merge:=mg [(1,4)]} func239 [pf kj,pf dk] [rB] (c2 tz)
abbrev af0:SD:=⟨dw (nn kj)::B::B::.ptr 3 0::B::DI::bs 5 (dw (nn kj)::DI::DI::bs 24 []),Z::Z::Z::(some Y2)::zs 34 [],.none⟩
def apg:=aqn.q1 {mask:=mk [(5,[0,3,5,11,12,13])],merge:=mg [(7,34)]} func156 [pd (.sl kj),pf dk] [rI] (c2 yH) af0 (λX K=>tr (λy0 y1=>ke 0 K af0 ((z1 (w y0 (z2 (u y1))) X.1),X.2)) X.1.1 (q2 X) (q3 X) X.2.1.1) (λX=>(X.1.2.1,q4 X)) (λX x=>((z1 (w x.1 (z2 (u x.2))) X.1),X.2))
def aph:=apg.q0 {} func157 [pf (.sl jd),pf ot] [rI] (c2 yG)
def arC:=aph.q0 {} func324 [pd .str,pI] [rI] (c2 zD)
abbrev ago:SD:=⟨dw .str::DI::B::B::B::DI::DI::bs 22 [],zs 29 [],.none⟩
def arD:=arC.q1 {mask:=mk [(5,[0,1,5,6])],merge:=mg [(1,14)]} func325 [pd .str,pI] [rI] (c2 wO) ago (λX K=>rU (λy0 y1=>ke 0 K ago ((z2 (w y0 (u y1)) X.1),X.2)) X.1.1 X.1.2.1) (λX=>(q2 X,q3 X)) (λX x=>((z2 (w x.1 (u x.2)) X.1),X.2))
abbrev agj:SD:=⟨dw .str::dw .str::B::B::B::DI::DI::bs 25 [],zs 32 [],.none⟩
def arf:=arD.q1 {mask:=mk [(5,[0,1,5,6])],merge:=mg [(1,14)]} func304 [pd .str,pd .str] [rI] (c2 wL) agj (λX K=>rQ (λy0 y1=>ke 0 K agj ((z2 (w y0 (u y1)) X.1),X.2)) X.1.1 X.1.2.1) (λX=>(q2 X,q3 X)) (λX x=>((z2 (w x.1 (u x.2)) X.1),X.2))
def arh:=arf.q0 {} func305 [pf ot] [rS] (c1 wM)
def aqM:=arh.q0 {} func270 [pd .str,pf ot] [rI] (c2 uC)
def aqo:=aqM.q0 {merge:=mg [(2,17)]} func240 [pf Cr,pf ot] [rI] (c2 AQ)
def apj:=aqo.q0 {merge:=mg [(2,18)]} func159 [pf Cr,pI,pf ot] [rI] (c3 tA)
def G80:=apj.q0 {merge:=mg [(1,17)]} func80 [pf ri,pI,pf dk] [rI] (c3 tB)
def ap5:=G80.q0 {merge:=mg [(1,20)],sb:=mg [(9,9)]} func220 [pd (.sl bU),pf (.sl .str),pI,pf vL] [rS,(true,Y1),rB] (c4 uI)
def art:=ap5.q0 {} func315 [pI] [rS] (c1 yP)
def aq0:=art.q0 {} func286 [pf afF] [rS,rB] (c1 yD)
def aq1:=aq0.q0 {} func287 [pd .str] [rS] (c1 AR)
def aqq:=aq1.q0 {} func242 [pf dk] [rS,rB] (c1 jr)
def aqL:=aqq.q0 {sb:=mg [(4,4)]} func269 [pd .str] [(true,(.pair (.int .i64) (.pair (.int .i64) Y1))),rB] (c1 qI)
def ari:=aqL.q0 {merge:=mg [(1,2)]} func306 [pf ot] [rB] (c1 nG)
def arj:=ari.q0 {merge:=mg [(1,12)]} func307 [pf ot,pI] [rS] (c2 mU)
def ane:=arj.q0 {merge:=mg [(1,22)],mv:=[26,37,41,51],mb:=mg [(41,13),(51,13)],sb:=mg [(10,10),(11,11),(13,13)]} func271 [pd (.sl bU),pf (.sl .str),pI,pf iH,pf ot] [(true,(.sl (.own none) .str)),(true,Y21),rB] (c5 qj)
def ar3:kH:=C6 [pd (.sl bU),pf (.sl .str),pI,pf eS,pd .str,pd .str] [(true,(.sl (.own none) .str)),(true,Y21),rB] [(true,(.sl .arg .str)),(true,Y21),rB] rfl λa=>xd a.1 a.2.1 a.2.2.1 a.2.2.2.1 a.2.2.2.2.1 a.2.2.2.2.2.1
theorem asY:Ho 221 ar3:=jj.ofAlt (Wd (an:={merge:=mg [(3,50)],sb:=mg [(12,12),(13,13),(20,20)]}) (Λ:=nq.nil) (by rfl) (ane.s) func221 (by kernel_rfl) (ao nF)) (λa=>by kernel_rfl)
def ap6:=ane.add asY
def aoZ:=ap6.q0 {merge:=mg [(1,31)],mv:=[52,66],mb:=mg [(66,16)],sb:=mg [(10,10),(11,11)]} func137 [pd (.sl bU),pf (.sl .str),pI,pf eS,pd .str] [(true,(.sl (.own none) .str)),(true,Y9)] (c5 oW)
def aqp:=aoZ.q0 {} func241 [pf dk,pf dk] [rB] (c2 yL)
def apk:=aqp.q0 {merge:=mg [(1,42),(4,76),(6,4)]} func160 [pf Tu,pf dk] [rB] (c2 wK)
def apl:=apk.q0 {} func161 [pf Tu,pf dk] [(true,(.pair Y2 (.pair (.int .i64) (.int .i64))))] (c2 G2)
def apm:=apl.q0 {} func162 [pf dk] [(true,(.pair Y2 (.pair (.int .i64) (.int .i64))))] (c1 F6)
def G81:=apm.q0 {merge:=mg [(1,30),(3,44)],mv:=[53,68,77],mb:=mg [(77,16)],sb:=mg [(14,14),(15,15)]} func81 [pd (.sl bU),pf (.sl .str),pI,pf eS,pd .str,pf dk,pd .bool] [(true,(.sl (.own none) .str)),(true,Y9)] (c7 qm)
def ap8:=G81.q0 {merge:=mg [(1,9)]} func223 [pf iv] [(true,Y14)] (c1 qp)
def ai5:=ap8.q0 {} func164 [pf iv] [(true,Y14)] (c1 yC)
def e82:kH:=kN (.pair (.sl (.own none) .str) (.pair (.sl (.own none) bU) (.pair (.pair (.pair (.int .i64) (.pair (.int .i64) (.pair (.int .i64) (.int .i64)))) (.pair (.pair (.int .i64) (.pair (.int .i64) (.pair (.int .i64) (.sl (.own none) (.int .i64))))) (.pair (.sl (.own none) kX) (.int .i64)))) (.pair (.sl (.own none) eS) (.pair (.sl (.own none) kI) (.pair (.sl (.own none) iv) (.pair (.sl (.own none) .bool) (.pair (.pair (.int .i64) (.pair .bool (.sl (.own none) (.int .i64)))) (.pair (.pair (.sl (.own none) kj) (.pair (.sl (.own none) jd) (.pair .str (.sl (.own none) (.int .i64))))) (.pair (.sl (.own none) dH) (.pair .bool (.pair (.sl (.own none) .str) (.pair (.sl (.own none) (.int .i64)) (.pair (.sl (.own none) (.int .i64)) (.pair (.int .i64) (.pair (.int .i64) (.pair (.int .i64) (.pair (.int .i64) (.int .i64))))))))))))))))))) [pI,pI] [] λx a=>mP x a.1 a.2.1
def n82:An:={mask:=mk [(2,[0,1,7])]}
abbrev abW:SD:=⟨.ptr 0 0::DI::bs 5 (DI::bs 34 []),(ur (dq (dF 1 .str) (dq (dF 4 bU) (dq (dq Y1 (dq (kW (kW (kW (dF 28 (.int .i64))))) (dq (dF 31 kX) Dq))) (dq (dF 37 eS) (dq (dF 40 kI) (dq (dF 43 iv) (dq (dF 46 .bool) (dq (kW (dq .bool (dF 55 (.int .i64)))) (dq (dq (dF 58 kj) (dq (dF 61 jd) (dq .str (dF 67 (.int .i64))))) (dq (dF 70 dH) (dq .bool (dq (dF 76 .str) (dq (dF 79 (.int .i64)) (dq (dF 82 (.int .i64)) (dq Dq Y1))))))))))))))))::zs 41 [],.ptr⟩
def alc (X:SD.D abW)(K:xV R):=rZ (λy0 y1=>ke 0 K abW ((z1 (u y0) X.1),(u y1 X.2.1),X.2.2)) X.1.1
def L82:nq:=nq.nil.add 2 (B8 abW alc (λX=>(X.1.2.1,X.2.1.1)))
theorem aoi:AF E ai5.g n82 L82 (dm f82 0):=lk abW alc (λX=>(X.1.2.1,X.2.1.1)) λX x=>((z1 (u x.1) X.1),(u x.2 X.2.1),X.2.2)
theorem o82:Ho 82 e82:=jj.se (rM (Γ:=ai5.g) (an:=n82) (Λ:=L82) (ai5.s) func82 (by kernel_rfl) (ao (cF aoi nF))) (λx a=>by kernel_rfl)
def G82:=ai5.add o82
def G32:=G82.q0 {mv:=[14,34,46,62,69,90,103],sb:=mg [(92,5)]} func32 [pf eG,pd .str] [(true,Y0)] (c2 kq)
def aqr:=G32.q0 {} func243 [pd .str] [rI,rI] (c1 sP)
def apo:=aqr.q0 {} func165 [pf dk] [rS,rB] (c1 nY)
abbrev af1:SD:=⟨B::B::B::DI::B::B::B::dw (nn kX)::DI::DI::bs 9 [],zs 19 [],.none⟩
def apr:=apo.q1 {mask:=mk [(3,[3,7,8,9])]} func167 [pf ns] [rI] (c1 sc) af1 (λX K=>nL (λy0 y1=>ke 0 K af1 ((w y0 (z2 (u y1)) X.1),X.2)) X.1.2.1 (q2 X)) (λX=>(X.1.1,q3 X)) (λX x=>((w x.1 (z2 (u x.2)) X.1),X.2))
def ai6:=apr.q0 {merge:=mg [(2,20)],mv:=[21,28],mb:=mg [(28,7)],sb:=mg [(4,4)]} func168 [pf kI,pI] [(true,Y8),(false,(.sl (.own none) (.int .i64))),rB] (c2 tE)
def arY:kH:=C6 [pd (.sl bU),pf (.sl .str),pI,pf kI,pd (.sl (.int .i64)),pd .str,pI] [(true,(.sl (.own none) .str)),(false,(.sl (.own none) kf)),rB] [(true,(.sl .arg .str)),(false,(.sl (.own none) kf)),rB] rfl λa=>pe a.1 a.2.1 a.2.2.1 a.2.2.2.1 a.2.2.2.2.1 a.2.2.2.2.2.1 a.2.2.2.2.2.2.1
def aor:An:={mask:=mk [(3,[0,2,5,6,8,10,14,15,16,17,24,25,26])],peel:=[3],mv:=[40,49,53,54,55,65,66],sb:=mg [(21,21)]}
abbrev TO:SD:=⟨dw (nn bU)::B::DI::B::B::dw .str::DI::B::.ptr 8 0::B::.ptr 10 0::B::B::B::.ptr 14 0::dw (dF 184320 kf)::DB::dw (dF 208896 kf)::bs 6 (dw (nn (.int .i64))::DI::DI::bs 40 []),zs 8 ((ur (dF 98305 .str))::Z::(some Y13)::Z::Z::Z::(ur (dF 172033 .str))::zs 52 []),.none⟩
abbrev ac8:SD:=⟨dw (nn bU)::B::DI::B::B::dw .str::DI::B::.ptr 8 0::B::.ptr 10 0::B::B::B::.ptr 14 0::dw (dF 184320 kf)::DB::dw (dF 208896 kf)::bs 6 (dw (nn (.int .i64))::DI::DI::bs 40 []),zs 8 ((ur (.sl .loc .str))::Z::(some Y13)::Z::Z::Z::(ur (dF 172033 .str))::zs 52 []),.none⟩
def aiG (X:SD.D TO)(K:xV R):=lL (λy0 y1 y2 y3=>ke 0 K TO ((z2 (w y0 (z3 (w y1 (z2 (u y2))))) X.1),(u y3 X.2.1),X.2.2)) (λy0 y1 y2 y3 y4 y5 y6=>kr K ac8 ((X.1.1,(X.1.2.1,(y0,(X.1.2.2.2.1,(y1,(y2,(y3,(X.1.2.2.2.2.2.2.2.1,(X.1.2.2.2.2.2.2.2.2.1,(y4,())))))))))),(y5,(X.2.1.2.1,(y6,()))),())) X.1.1 X.1.2.1 (q3 X) (q4 X) (q5 X) (q7 X) (q8 X) X.2.1.2.1 X.2.1.2.2.1
def anj:nq:=nq.nil.add 3 (B8 TO aiG (λX=>(q2 X,q6 X,q9 X,X.2.1.1)))
theorem amf:AF E ai6.g aor anj (dm f169 0):=lk TO aiG (λX=>(q2 X,q6 X,q9 X,X.2.1.1)) λX x=>((z2 (w x.1 (z3 (w x.2.1 (z2 (u x.2.2.1))))) X.1),(u x.2.2.2 X.2.1),X.2.2)
theorem asT:Ho 169 arY:=jj.ofAlt (Wd (Γ:=ai6.g) (an:=aor) (Λ:=anj) (by rfl) (ai6.s) func169 (by kernel_rfl) (ao (cF amf nF))) (λa=>by kernel_rfl)
def aps:=ai6.add asT
abbrev Zz:SD:=⟨dw (nn kf)::B::DB::B::B::dw (nn kf)::DI::DI::bs 16 [],zs 24 [],.none⟩
def afz:=aps.q1 {mask:=mk [(2,[0,2,5,6,7])],merge:=mg [(4,19)]} func245 [pd (.sl kf)] [rB] (c1 uG) Zz (λX K=>tw (λy0=>ke 0 K Zz ((z4 (u y0) X.1),X.2)) (λy0 y1=>kr K Zz ((z1 (w y0 (z2 (u y1))) X.1),X.2)) X.1.1 X.1.2.1 (q2 X) (q3 X)) q4 (λX x=>((z4 (u x) X.1),X.2))
def arZ:kH:=C6 [pd (.sl kf),pI,pI] [(false,(.sl (.own none) pU))] [(false,(.sl .nil pU))] rfl λa=>jQ a.1 a.2.1 a.2.2.1
def amy:An:={mask:=mk [(5,[0,2,7,30,31,32]),(13,[6,7,54,55,56])],merge:=mg [(1,25)],nils:=[6],mv:=[49,64]}
abbrev TP:SD:=⟨dw (nn kf)::B::DI::bs 4 (dw (dF 86016 pU)::bs 22 (dw (nn kf)::DI::DI::bs 32 [])),zs 65 [],.none⟩
def aiH (X:SD.D TP)(K:xV R):=lW (λy0 y1=>ke 0 K TP ((z2 (w y0 (z2 (u y1))) X.1),X.2)) X.1.1 X.1.2.1 (q3 X) (q4 X)
abbrev Nn:SD:=⟨bs 7 (dw (dF 86016 pU)::bs 46 (dw (.sl .loc pU)::DI::DI::bs 8 [])),zs 65 [],.none⟩
abbrev Zp:SD:=⟨bs 6 (dw (.sl .nil pU)::dw (dF 86016 pU)::bs 46 (dw (.sl .loc pU)::DI::DI::bs 8 [])),zs 65 [],.none⟩
def acO (X:SD.D Nn)(K:xV R):=lh (λy0=>ke 2 K Nn ((z3 (u y0) X.1),X.2)) (λy0 y1=>kr K Zp ((y0,(X.1.1,(X.1.2.1,(X.1.2.2.1,(y1,()))))),(),())) X.1.1 X.1.2.1 (q2 X)
def alq:nq:=(nq.nil.add 5 (B8 TP aiH (λX=>(q2 X,q5 X)))).add 13 (B8 Nn acO q3)
theorem amg:AF E afz.g amy alq (dm f170 0):=lk TP aiH (λX=>(q2 X,q5 X)) λX x=>((z2 (w x.1 (z2 (u x.2))) X.1),X.2)
theorem ajQ:AF E afz.g amy alq (dm f170 1):=lk Nn acO q3 λX x=>((z3 (u x) X.1),X.2)
theorem asU:Ho 170 arZ:=jj.ofAlt (Wd (Γ:=afz.g) (an:=amy) (Λ:=alq) (by rfl) (afz.s) func170 (by kernel_rfl) (ao (cF amg (cF ajQ nF)))) (λa=>by kernel_rfl)
def apt:=afz.add asU
abbrev Zq:SD:=⟨dw (nn bU)::B::DI::B::B::B::.ptr 6 0::B::.ptr 8 0::B::.ptr 10 0::.ptr 11 0::DB::.ptr 13 0::.ptr 14 0::bs 6 (dw (nn .str)::DI::DI::bs 21 []),zs 6 ((ur (nn .str))::Z::(some Y1)::Z::(ur (dF 122881 .str))::(some Y1)::Z::(ur (dF 159745 .str))::(some Y1)::zs 30 []),.none⟩
def apu:=apt.q1 {mask:=mk [(3,[0,2,6,8,10,11,12,13,14,21,22,23])],mv:=[27,43],mb:=mg [(43,13)],sb:=mg [(10,10),(11,11),(13,13),(14,14)]} func171 [pd (.sl bU),pf (.sl .str),pI,pf vL,pd (.sl .str)] [(true,(.sl (.own none) .str)),(true,Y1),rB] (c5 lC) Zq (λX K=>mO (λy0 y1 y2=>ke 0 K Zq ((z5 (u y0) X.1),(z4 (w y1 (u y2)) X.2.1),X.2.2)) (λy0 y1 y2 y3 y4 y5=>kr K Zq ((z2 (w y0 (z2 (u y1))) X.1),(z2 (w y2 (w y3 (w y4 (u y5)))) X.2.1),X.2.2)) X.1.1 X.1.2.1 (q2 X) (q3 X) (q4 X) X.2.1.1 X.2.1.2.1 X.2.1.2.2.1 X.2.1.2.2.2.1) (λX=>(q5 X,X.2.1.2.2.2.2.1,X.2.1.2.2.2.2.2.1)) (λX x=>((z5 (u x.1) X.1),(z4 (w x.2.1 (u x.2.2)) X.2.1),X.2.2))
abbrev agz:SD:=⟨dw (nn bU)::B::DI::bs 7 (.ptr 10 0::B::B::B::.ptr 14 0::.ptr 15 0::B::.ptr 17 0::.ptr 18 0::B::B::B::.ptr 22 0::B::dw (dF 294912 (.int .i64))::B::.ptr 26 0::B::dw (dF 344064 pU)::dw (dF 356352 .str)::bs 109 (dw (.sl .loc pU)::DI::DI::bs 44 [])),zs 10 ((some Y22)::Z::Z::Z::(ur (dF 172033 .str))::(ur (dq Y1 (dq (kW (kW (kW (dF 184342 (.int .i64))))) (dq (dF 184345 kX) Dq))))::Z::(ur (dF 208897 .str))::(ur (dq Y1 (dq (kW (kW (kW (dF 221206 (.int .i64))))) (dq (dF 221209 kX) Dq))))::Z::Z::Z::(ur (dq Y1 (dq (kW (kW (kW (dF 270358 (.int .i64))))) (dq (dF 270361 kX) Dq))))::Z::Z::Z::(ur (.sl .loc .str))::zs 159 []),.none⟩
def G83:=apu.q1 {mask:=mk [(19,[0,2,10,14,15,17,18,22,24,26,28,29,139,140,141])],merge:=mg [(2,57),(6,92),(15,135)],mv:=[58,59,93,94,97,107,108,109,122,123,136,137,145,151,164,165,169,174,184,185],mb:=mg [(58,17),(59,18),(93,17),(94,18),(107,17),(108,18),(136,17),(137,18),(164,17),(165,18),(184,26),(185,22)],sb:=mg [(14,14),(15,15),(17,17),(18,18),(26,26)]} func83 [pd (.sl bU),pf (.sl .str),pI,pf ns,pf dk,pI,pI] [(true,(.sl (.own none) .str)),(true,Y18),rB] (c7 vg) agz (λX K=>im (λy0 y1=>ke 0 K agz ((z4 (w y0 (z2 (u y1))) X.1),X.2)) X.1.1 X.1.2.1 (q2 X) (q3 X) (q5 X) (q6 X) X.2.1.1 X.2.1.2.1 X.2.1.2.2.1 X.2.1.2.2.2.1 X.2.1.2.2.2.2.1 X.2.1.2.2.2.2.2.1 X.2.1.2.2.2.2.2.2.1) (λX=>(q4 X,q7 X)) (λX x=>((z4 (w x.1 (z2 (u x.2))) X.1),X.2))
def G33:=G83.q0 {mv:=[19,20,34,36,38]} func33 [pf eG,pf dk,pI,pI] [(true,Y0),rB] (c4 nW)
abbrev akL:SD:=⟨B::.ptr 1 0::.ptr 2 0::.ptr 3 0::bs 9 (DI::DI::bs 35 []),Z::(some Y4)::(some Y3)::(some Y5)::zs 46 [],.none⟩
def G68:=G33.q1 {mask:=mk [(5,[1,2,3,13,14])],mv:=[10,17,35,49],sb:=mg [(37,3)]} func68 [pf eG] [(true,Y0)] (c1 sJ) akL (λX K=>rR (λy0 y1=>ke 0 K akL ((z1 (u y0) X.1),(z2 (u y1) X.2.1),X.2.2)) X.1.1 X.2.1.1 X.2.1.2.1) (λX=>(X.1.2.1,X.2.1.2.2.1)) (λX x=>((z1 (u x.1) X.1),(z2 (u x.2) X.2.1),X.2.2))
abbrev ZE:SD:=⟨dw (nn bU)::B::DI::B::B::.ptr 5 0::B::.ptr 7 0::dw (dF 98304 pU)::.ptr 9 0::DB::.ptr 11 0::dw (dF 147456 pU)::bs 57 [],zs 5 ((ur (nn .str))::Z::(some Y1)::Z::(some Y1)::Z::(some Y1)::zs 58 []),.none⟩
def alo:=G68.q1 {mask:=mk [(6,[0,2,5,7,8,9,10,11,12])],merge:=mg [(1,24),(15,67)],mv:=[55,68],sb:=mg [(9,9)]} func272 [pd (.sl bU),pf (.sl .str),pI,pf vL] [(false,(.sl (.own none) pU)),(true,Y1),rB] (c4 wU) ZE (λX K=>nK (λy0 y1=>ke 0 K ZE ((z4 (u y0) X.1),(z1 (u y1) X.2.1),X.2.2)) (λy0 y1 y2 y3 y4=>kr K ZE ((z2 (w y0 (w y1 (u y2))) X.1),(z1 (w y3 (u y4)) X.2.1),X.2.2)) X.1.1 X.1.2.1 (q2 X) (q3 X) X.2.1.1 X.2.1.2.2.1 X.2.1.2.2.2.1) (λX=>(q4 X,X.2.1.2.1)) (λX x=>((z4 (u x.1) X.1),(z1 (u x.2) X.2.1),X.2.2))
def amD:An:={mask:=mk [(5,[0,6,18,19,20]),(14,[0,2,3,4,5,6,9,10,11,51,52])],mv:=[24,65]}
abbrev TU:SD:=⟨dw (nn pU)::bs 5 (dw (dF 73728 kf)::bs 11 (dw (nn pU)::DI::DI::bs 47 [])),zs 68 [],.none⟩
def aiP (X:SD.D TU)(K:xV R):=mV (λy0 y1=>ke 0 K TU ((z1 (w y0 (z2 (u y1))) X.1),X.2)) X.1.1 (q2 X) (q3 X)
abbrev Nq:SD:=⟨dw (nn pU)::bs 5 (dw (dF 73728 kf)::B::B::DI::DI::dw (dF 135168 pU)::bs 39 (DI::DI::bs 15 [])),zs 68 [],.none⟩
abbrev ZF:SD:=⟨dw (nn pU)::B::dw (dF 24576 kf)::DI::DI::DB::dw (dF 73728 kf)::B::B::DI::DI::dw (dF 135168 pU)::bs 39 (DI::DI::bs 15 []),zs 68 [],.none⟩
def acS (X:SD.D Nq)(K:xV R):=iM (λy0=>ke 2 K Nq ((z6 (u y0) X.1),X.2)) (λy0 y1 y2 y3 y4=>kr K ZF ((X.1.1,(y0,(y1,(y2,(y3,(X.1.2.1,(X.1.2.2.1,(X.1.2.2.2.1,(X.1.2.2.2.2.1,(X.1.2.2.2.2.2.1,(y4,()))))))))))),(),())) X.1.1 X.1.2.1 (q2 X) (q3 X) (q4 X) (q5 X)
def anp:nq:=(nq.nil.add 5 (B8 TU aiP (λX=>(X.1.2.1,q4 X)))).add 14 (B8 Nq acS q6)
theorem amo:AF E alo.g amD anp (dm f273 0):=lk TU aiP (λX=>(X.1.2.1,q4 X)) λX x=>((z1 (w x.1 (z2 (u x.2))) X.1),X.2)
theorem ajU:AF E alo.g amD anp (dm f273 1):=lk Nq acS q6 λX x=>((z6 (u x) X.1),X.2)
def aqN:=alo.qk amD func273 [pd (.sl pU)] [(false,(.sl (.own none) kf)),rI,rI,rB] (c1 qi) (cF amo (cF ajU nF))
abbrev ZG:SD:=⟨dw (nn bU)::B::DI::B::B::.ptr 5 0::B::B::dw .str::DB::dw .str::bs 7 (dw (nn kf)::DI::DI::bs 21 []),zs 5 ((ur (nn .str))::zs 36 []),.none⟩
def aqO:=aqN.q1 {mask:=mk [(5,[0,2,5,8,9,10,18,19,20])]} func274 [pd (.sl bU),pf (.sl .str),pI,pd (.sl kf)] [rS,rB] (c4 rP) ZG (λX K=>nH (λy0 y1=>ke 0 K ZG ((z4 (w y0 (z2 (u y1))) X.1),X.2)) (λy0 y1 y2 y3=>kr K ZG ((z2 (w y0 (w y1 (w y2 (z2 (u y3))))) X.1),X.2)) X.1.1 X.1.2.1 (q2 X) (q3 X) (q5 X) (q6 X) X.2.1.1) (λX=>(q4 X,q7 X)) (λX x=>((z4 (w x.1 (z2 (u x.2))) X.1),X.2))
def aqP:=aqO.q0 {merge:=mg [(3,38),(9,74),(12,84),(17,117)]} func275 [pd .str] [rS,rB] (c1 yF)
def arF:=aqP.q0 {} func327 [pf dk] [rS,rB] (c1 uX)
abbrev agk:SD:=⟨B::B::B::dw (dF 36864 .str)::bs 5 (dw (nn dk)::DI::DI::bs 15 []),zs 27 [],.none⟩
def arn:=arF.q1 {mask:=mk [(3,[3,9,10,11])],mv:=[21,26]} func310 [pd (.sl dk)] [(false,(.sl (.own none) .str))] (c1 yI) agk (λX K=>oX (λy0 y1=>ke 0 K agk ((w y0 (z2 (u y1)) X.1),X.2)) X.1.2.1 (q2 X)) (λX=>(X.1.1,q3 X)) (λX x=>((w x.1 (z2 (u x.2)) X.1),X.2))
abbrev agl:SD:=⟨B::DI::.ptr 2 0::B::B::dw .str::dw (dF 73728 dk)::DI::bs 80 [],Z::Z::(some Y2)::zs 85 [],.none⟩
def aro:=arn.q1 {mask:=mk [(8,[1,2,5,6,7])],merge:=mg [(1,17),(4,30)],mv:=[83,87]} func311 [pf dk,pI] [(false,(.sl (.own none) dk))] (c2 Ey) agl (λX K=>yM (λy0 y1=>ke 0 K agl ((z2 (w y0 (u y1)) X.1),X.2)) X.1.1 X.1.2.1 X.2.1.1) (λX=>(q2 X,q3 X)) (λX x=>((z2 (w x.1 (u x.2)) X.1),X.2))
def aqQ:=aro.q0 {} func276 [pf dk,pI] [(false,(.sl (.own none) .str))] (c2 vf)
def ap7:=aqQ.q0 {merge:=mg [(1,28)],sb:=mg [(8,8)]} func222 [pd (.sl bU),pf (.sl .str),pI,pf vL] [(true,Y1),(false,(.sl (.own none) .str)),rI] (c4 rY)
abbrev alC:SD:=⟨dw (nn bU)::B::DI::B::B::.ptr 5 0::B::.ptr 7 0::.ptr 8 0::dw (dF 110592 .str)::DI::DI::dw (dF 147456 .str)::DI::DI::bs 30 [],zs 5 ((ur (nn .str))::Z::(some Y1)::(some Y1)::zs 36 []),.none⟩
abbrev ac7:SD:=⟨dw (nn bU)::B::DI::B::B::.ptr 5 0::B::.ptr 7 0::.ptr 8 0::dw (dF 110592 .str)::DI::DI::dw (.sl .loc .str)::DI::DI::bs 30 [],zs 5 ((ur (nn .str))::Z::(some Y1)::(some Y1)::zs 36 []),.none⟩
def ao0:=ap7.q1 {mask:=mk [(3,[0,2,5,7,8,9,10,11,12,13,14])],mv:=[35,42]} func138 [pd (.sl bU),pf (.sl .str),pI,pf vL] [(true,Y1),(false,(.sl (.own none) .str)),rI,rI] (c4 tF) alC (λX K=>oF (λy0 y1 y2 y3 y4 y5 y6 y7=>kr K ac7 ((X.1.1,(X.1.2.1,(y0,(y1,(y2,(y3,(y4,(y5,())))))))),(X.2.1.1,(y6,(y7,()))),())) X.1.1 X.1.2.1 (q2 X) (q3 X) (q4 X) X.2.1.1 X.2.1.2.2.1) (λX=>(q5 X,q6 X,q7 X,X.2.1.2.1)) (λX x=>((z5 (w x.1 (w x.2.1 (u x.2.2.1))) X.1),(z1 (u x.2.2.2) X.2.1),X.2.2))
abbrev afZ:SD:=⟨B::DI::.ptr 2 0::B::.ptr 4 0::B::.ptr 6 0::dw (dF 86016 (.int .i64))::bs 20 (dw (nn kX)::DI::DI::bs 26 []),Z::Z::(some Y22)::Z::(ur (dq Y1 (dq (kW (kW (kW (dF 49174 (.int .i64))))) (dq (dF 49177 kX) Dq))))::Z::(ur (dq Y1 (dq (kW (kW (kW (dF 73750 (.int .i64))))) (dq (dF 73753 kX) Dq))))::zs 50 [],.none⟩
def ao1:=ao0.q1 {mask:=mk [(6,[1,2,4,6,7,28,29,30])],merge:=mg [(2,22)],mv:=[23,34,43,55,56]} func139 [pf ns,pI] [(true,Y18),(false,(.sl (.own none) (.int .i64)))] (c2 nE) afZ (λX K=>lg (λy0 y1 y2=>ke 0 K afZ ((z1 (w y0 (z2 (u y1))) X.1),(z2 (u y2) X.2.1),X.2.2)) X.1.1 (q2 X) (q3 X) X.2.1.1 X.2.1.2.1) (λX=>(X.1.2.1,q4 X,X.2.1.2.2.1)) (λX x=>((z1 (w x.1 (z2 (u x.2.1))) X.1),(z2 (u x.2.2) X.2.1),X.2.2))
def G69:=ao1.q0 {mv:=[15,33,37,51,54,58]} func69 [pf eG] [(true,Y0)] (c1 nI)
def ao2:=G69.q0 {merge:=mg [(1,11)]} func140 [pf iv] [(true,Y14),rB] (c1 qo)
def ao3:=ao2.q0 {} func141 [pf iv] [(true,Y14)] (c1 zC)
abbrev akM:SD:=⟨B::DI::B::B::.ptr 4 0::B::.ptr 6 0::DI::bs 17 (DI::DI::bs 53 []),zs 4 ((some Y6)::Z::(some Y12)::zs 73 []),.none⟩
def G70:=ao3.q1 {mask:=mk [(6,[1,4,6,7,25,26])],merge:=mg [(2,21)],mv:=[22,78]} func70 [pf eG,pI] [(true,Y0),rI] (c2 oZ) akM (λX K=>oD (λy0 y1 y2=>ke 0 K akM ((z1 (w y0 (z1 (u y1))) X.1),(z1 (u y2) X.2.1),X.2.2)) X.1.1 (q2 X) X.2.1.1) (λX=>(X.1.2.1,q3 X,X.2.1.2.1)) (λX x=>((z1 (w x.1 (z1 (u x.2.1))) X.1),(z1 (u x.2.2) X.2.1),X.2.2))
def ao4:=G70.q0 {} func142 [pf iv] [(true,Y14)] (c1 vi)
abbrev akN:SD:=⟨B::B::.ptr 2 0::.ptr 3 0::bs 9 (DI::DI::bs 14 []),Z::Z::(some Y3)::(some Y5)::zs 25 [],.none⟩
def G71:=ao4.q1 {mask:=mk [(5,[2,3,13,14])],mv:=[10,28]} func71 [pf eG] [(true,Y0)] (c1 uD) akN (λX K=>tt (λy0 y1=>ke 0 K akN ((z1 (u y0) X.1),(z1 (u y1) X.2.1),X.2.2)) X.1.1 X.2.1.1) (λX=>(X.1.2.1,X.2.1.2.1)) (λX x=>((z1 (u x.1) X.1),(z1 (u x.2) X.2.1),X.2.2))
def am3:=G71.q0 {} func102 [pd .bool] [rI] (c1 G3)
def e40:kH:=C6 [pf eG,pf Ee] [(true,Y0),rI] [(true,Y4),rI] rfl λa=>qq a.1 a.2.1
theorem o40:Ho 40 e40:=jj.ofAlt (Wd (an:={mv:=[12,23],mb:=mg [(23,6)],sb:=mg [(4,4)]}) (Λ:=nq.nil) (by rfl) (am3.s) func40 (by kernel_rfl) (ao nF)) (λa=>by kernel_rfl)
def anz:kH:=ZO [pf eG,pf Ee] [(true,Y0),rI] λa=>qq a.1 a.2.1
theorem as6:Ho 40 anz:=o40.only
def G40:=am3.add o40
def e10:kH:=C6 [pf eG,pd (.sl Ee)] [(true,Y0),rI] [(true,Y4),rI] rfl λa=>yQ a.1 a.2.1
def g10:Bx:=G40.g.add 40 anz
def n10:An:={mask:=mk [(3,[1,2,4,6,7])],peel:=[3],mv:=[24,31,33,43],sb:=mg [(8,8)]}
abbrev abR:SD:=⟨B::dw (nn Ee)::.ptr 2 0::B::.ptr 4 0::B::DI::DI::bs 37 [],Z::Z::(some Y3)::Z::(some Y6)::zs 40 [],.none⟩
def ak5 (X:SD.D abR)(K:xV R):=jy (λy0 y1 y2=>ke 0 K abR ((z1 (w y0 (u y1)) X.1),(u y2 X.2.1),X.2.2)) X.1.1 X.2.1.2.1
def L10:nq:=nq.nil.add 3 (B8 abR ak5 (λX=>(X.1.2.1,q2 X,X.2.1.1)))
theorem aob:AF E g10 n10 L10 (dm f10 0):=lk abR ak5 (λX=>(X.1.2.1,q2 X,X.2.1.1)) λX x=>((z1 (w x.1 (u x.2.1)) X.1),(u x.2.2 X.2.1),X.2.2)
theorem o10:Ho 10 e10:=jj.ofAlt (Wd (Γ:=g10) (an:=n10) (Λ:=L10) (by rfl) (G40.s.add as6) func10 (by kernel_rfl) (ao (cF aob nF))) (λa=>by kernel_rfl)
def G10:=G40.add o10
abbrev akG:SD:=⟨B::DI::DI::B::B::B::.ptr 6 0::.ptr 7 0::DI::bs 32 [],zs 6 ((some Y12)::(ur (dq (dF 86017 .str) (dq (dF 86020 bU) (dq (dq Y1 (dq (kW (kW (kW (dF 86044 (.int .i64))))) (dq (dF 86047 kX) Dq))) (dq (dF 86053 eS) (dq (dF 86056 kI) (dq (dF 86059 iv) (dq (dF 86062 .bool) (dq (kW (dq .bool (dF 86071 (.int .i64)))) (dq (dq (dF 86074 kj) (dq (dF 86077 jd) (dq .str (dF 86083 (.int .i64))))) (dq (dF 86086 dH) (dq .bool (dq (dF 86092 .str) (dq (dF 86095 (.int .i64)) (dq (dF 86098 (.int .i64)) (dq Dq Y1))))))))))))))))::zs 33 []),.none⟩
def G26:=G10.q1 {mask:=mk [(6,[1,2,6,7,8])],merge:=mg [(2,23)],mv:=[24,33,40]} func26 [pf eG,pI,pI] [(true,Y0)] (c3 oU) akG (λX K=>rO (λy0 y1=>ke 0 K akG ((z2 (u y0) X.1),(z1 (u y1) X.2.1),X.2.2)) X.1.1 X.1.2.1 X.2.1.1) (λX=>(q2 X,X.2.1.2.1)) (λX x=>((z2 (u x.1) X.1),(z1 (u x.2) X.2.1),X.2.2))
def G72:=G26.q0 {} func72 [pd (.sl bU),pf (.sl .str),pI,pf eS] [rB] (c4 qe)
abbrev agd:SD:=⟨B::.ptr 1 0::DB::bs 13 (dw (nn eS)::DI::DI::bs 14 []),Z::(some Y4)::zs 31 [],.none⟩
def G27:=G72.q1 {mask:=mk [(4,[1,2,16,17,18])],merge:=mg [(1,14),(6,31)]} func27 [pf eG] [rB] (c1 tu) agd (λX K=>vc (λy0=>ke 0 K agd ((z3 (u y0) X.1),X.2)) (λy0 y1=>kr K agd ((w y0 (z2 (u y1)) X.1),X.2)) X.1.1 X.1.2.1 (q2 X) X.2.1.1) q3 (λX x=>((z3 (u x) X.1),X.2))
abbrev akH:SD:=⟨B::B::B::DI::B::B::B::dw (nn eS)::DI::DI::bs 9 [],zs 19 [],.none⟩
def G28:=G27.q1 {mask:=mk [(3,[3,7,8,9])]} func28 [pf eG] [rI] (c1 iL) akH (λX K=>oC (λy0 y1=>ke 0 K akH ((w y0 (z2 (u y1)) X.1),X.2)) X.1.2.1 (q2 X)) (λX=>(X.1.1,q3 X)) (λX x=>((w x.1 (z2 (u x.2)) X.1),X.2))
def G30:=G28.q0 {} func30 [pd (.sl (.int .u8))] [(true,Y2)] (c1 qQ)
def G84:=G30.q0 {sb:=mg [(2,2)]} func84 [pf LL] [(true,Y15)] (c1 Bp)
def G86:=G84.q0 {merge:=mg [(1,2)]} func86 [pf LL] [rB] (c1 CS)
abbrev Zs:SD:=⟨dw (nn (.int .i64))::DI::B::B::DB::DI::bs 12 [],zs 18 [],.none⟩
def apz:=G86.q1 {mask:=mk [(2,[0,1,4,5])]} func176 [pd (.sl (.int .i64)),pI] [rB] (c2 we) Zs (λX K=>xK (λy0=>ke 0 K Zs ((z3 (u y0) X.1),X.2)) (λy0 y1=>kr K Zs ((z2 (w y0 (u y1)) X.1),X.2)) X.1.1 X.1.2.1 (q2 X)) q3 (λX x=>((z3 (u x) X.1),X.2))
def G87:=apz.q0 {merge:=mg [(1,4)]} func87 [pf yz,pf dk] [rB] (c2 Bc)
def aq7:=G87.q0 {merge:=mg [(1,4)]} func293 [pf kj,pf dk] [rB] (c2 Aq)
def aqy:=aq7.q0 {merge:=mg [(1,4)]} func252 [pf kj,pf dk] [rB] (c2 tM)
abbrev af2:SD:=⟨dw (nn kj)::B::B::.ptr 3 0::B::DI::DI::bs 35 [],Z::Z::Z::(some Y2)::zs 38 [],.none⟩
def apA:=aqy.q1 {mask:=mk [(3,[0,3,5,6])],merge:=mg [(3,14),(5,39)]} func177 [pd (.sl kj),pf dk] [rI] (c2 za) af2 (λX K=>pH (λy0 y1=>ke 0 K af2 ((z1 (w y0 (u y1)) X.1),X.2)) X.1.1 X.2.1.1) (λX=>(X.1.2.1,q2 X)) (λX x=>((z1 (w x.1 (u x.2)) X.1),X.2))
def apB:=apA.q0 {} func178 [pf (.sl jd),pf ot] [rI] (c2 yZ)
def arH:=apB.q0 {} func329 [pd .str,pI] [rI] (c2 zQ)
abbrev agq:SD:=⟨dw .str::DI::B::B::B::DI::DI::bs 21 [],zs 28 [],.none⟩
def arI:=arH.q1 {mask:=mk [(5,[0,1,5,6])],merge:=mg [(1,14)]} func330 [pd .str,pI] [rI] (c2 xw) agq (λX K=>sk (λy0 y1=>ke 0 K agq ((z2 (w y0 (u y1)) X.1),X.2)) X.1.1 X.1.2.1) (λX=>(q2 X,q3 X)) (λX x=>((z2 (w x.1 (u x.2)) X.1),X.2))
abbrev agm:SD:=⟨dw .str::dw .str::B::B::B::DI::DI::bs 25 [],zs 32 [],.none⟩
def aru:=arI.q1 {mask:=mk [(5,[0,1,5,6])],merge:=mg [(1,14)]} func316 [pd .str,pd .str] [rI] (c2 xq) agm (λX K=>sg (λy0 y1=>ke 0 K agm ((z2 (w y0 (u y1)) X.1),X.2)) X.1.1 X.1.2.1) (λX=>(q2 X,q3 X)) (λX x=>((z2 (w x.1 (u x.2)) X.1),X.2))
def arv:=aru.q0 {} func317 [pf ot] [rS] (c1 xr)
def aq9:=arv.q0 {} func295 [pd .str,pf ot] [rI] (c2 zb)
def aqA:=aq9.q0 {merge:=mg [(2,17)]} func254 [pf Cr,pf ot] [rI] (c2 Bd)
def apD:=aqA.q0 {merge:=mg [(2,18)]} func180 [pf Cr,pI,pf ot] [rI] (c3 tP)
def G88:=apD.q0 {merge:=mg [(1,17)]} func88 [pf ri,pI,pf dk] [rI] (c3 tQ)
def G89:=G88.q0 {merge:=mg [(17,84)],mv:=[16,31,53,60,69,85,139]} func89 [pd (.sl dH),pf dk] [(false,(.sl (.own none) dH))] (c2 xp)
def G34:=G89.q0 {merge:=mg [(3,35)],mv:=[41]} func34 [pf LL,pd .str] [(true,Y15)] (c2 mD)
def aqC:=G34.q0 {merge:=mg [(3,21)],mv:=[10,24]} func256 [pf kI,pd (.sl (.int .i64))] [(true,Y8),rB] (c2 mC)
abbrev Zv:SD:=⟨B::.ptr 1 0::DB::DI::dw (dF 49152 (.int .i64))::DI::bs 68 [],Z::(some Y22)::zs 72 [],.none⟩
def apG:=aqC.q1 {mask:=mk [(6,[1,2,3,4,5])],merge:=mg [(1,24),(9,50),(14,2)],mv:=[55]} func185 [pf ns] [rB] (c1 Hd) Zv (λX K=>xE (λy0 y1 y2=>ke 0 K Zv ((z1 (w y0 (w y1 (u y2))) X.1),X.2)) (λy0 y1 y2 y3=>kr K Zv ((w y0 (w y1 (w y2 (u y3))) X.1),X.2)) X.1.1 X.2.1.1) (λX=>(X.1.2.1,q2 X,q3 X)) (λX x=>((z1 (w x.1 (w x.2.1 (u x.2.2))) X.1),X.2))
def aqD:=apG.q0 {merge:=mg [(1,2)]} func257 [pf iH] [rB] (c1 xB)
def alj:=aqD.q0 {merge:=mg [(1,42),(5,2)]} func186 [pf eS] [rB] (c1 Hc)
def n90:An:={mask:=mk [(5,[1,2,3,4]),(11,[2,5,6])],merge:=mg [(2,64),(7,94)]}
abbrev VQ:SD:=⟨B::.ptr 1 0::DB::DI::DI::bs 118 [],Z::(some Y4)::zs 121 [],.none⟩
def ald (X:SD.D VQ)(K:xV R):=xu (λy0=>ke 0 K VQ ((z2 (u y0) X.1),X.2)) (λy0 y1=>kr K VQ ((w y0 (z1 (u y1)) X.1),X.2)) X.1.1 X.1.2.1 X.2.1.1
abbrev Oe:SD:=⟨B::B::DB::B::B::dw (dF 61440 (.int .i64))::DI::bs 116 [],zs 123 [],.none⟩
def aiT (X:SD.D Oe)(K:xV R):=vr (λy0=>ke 2 K Oe ((z2 (u y0) X.1),X.2)) (λy0 y1=>kr K Oe ((w y0 (z1 (u y1)) X.1),X.2)) X.1.1 X.1.2.1
def L90:nq:=(nq.nil.add 5 (B8 VQ ald q2)).add 11 (B8 Oe aiT q2)
theorem aoj:AF E alj.g n90 L90 (dm f90 0):=lk VQ ald q2 λX x=>((z2 (u x) X.1),X.2)
theorem ams:AF E alj.g n90 L90 (dm f90 1):=lk Oe aiT q2 λX x=>((z2 (u x) X.1),X.2)
def G90:=alj.qk n90 func90 [pf eG] [rB] (c1 CR) (cF aoj (cF ams nF))
def G35:=G90.q0 {sb:=mg [(2,2)]} func35 [pf eG] [(true,Y15)] (c1 wb)
abbrev agA:SD:=⟨dw (nn dH)::dw (nn dH)::B::B::DB::DI::bs 35 [],zs 41 [],.none⟩
def G93:=G35.q1 {mask:=mk [(2,[0,1,4,5])],merge:=mg [(6,40)]} func93 [pd (.sl dH),pd (.sl dH)] [rB] (c2 sZ) agA (λX K=>su (λy0=>ke 0 K agA ((z3 (u y0) X.1),X.2)) (λy0 y1=>kr K agA ((z2 (w y0 (u y1)) X.1),X.2)) X.1.1 X.1.2.1 (q2 X)) q3 (λX x=>((z3 (u x) X.1),X.2))
def G36:=G93.q0 {merge:=mg [(1,4)]} func36 [pd (.sl dH),pd (.sl dH)] [rB] (c2 oh)
abbrev uo:az PS:=[pd (.sl (.int .u8))]
def Ax:kH:=RT uo [rB] (c1 xe)
theorem Hm:Ho 7 Ax:=f0 {merge:=mg [(13,2)]} G36.s func7
end
end Go.Proofs.YtinkcmefgciifaaGreat.Fn
