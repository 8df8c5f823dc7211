import Derived.Test.YtfbhfnniblfpbaaGreatDnSig
import Derived.Test.YtfbhfnniblfpbaaGreatPure
import Derived.Test.YtfbhfnniblfpbaaGreatRows
/- Each function of the program is its pure function (made by gen.py). -/
namespace Go.Proofs.YtfbhfnniblfpbaaGreat.Fn
open Go.Dn
open Go.Pu Go.Proofs.Tryz
set_option maxRecDepth 100000
set_option linter.unusedVariables false
noncomputable section
variable {Λ:Gs} {P:Program} {A0 A1 A2 A3 A4 A5 A6 C R σ:Type} {A:Type->Type} {rs:ar (Bool×FT)} {s:ar PS}
abbrev ZK (R:Type):=Ex->AS->Option R
abbrev zit:FT:=.int .i64
abbrev Qd (a b:FT):FT:=.pair a b
abbrev zpi (b:FT):FT:=.pair (.int .i64) b
abbrev K3 (n:Nat)(t:CT):FT:=.sl (.own (some n)) t
abbrev zsm (t:FT):Option FT:=some t
abbrev gq (t:FT):PD:=.data false t
abbrev jP (t:FT):PD:=.data true t
abbrev Uu (t:CT):FT:=.sl .arg t
abbrev zfo:=kV Tryz.prog
abbrev B:PD:=.bot
abbrev DI:PD:=.data false (.int .i64)
abbrev DB:PD:=.data false .bool
abbrev Z:aw FT:=none
theorem nF {p:Code->Prop}:∀x∈([]:ar Code),p x:=λ_ h=>nomatch h
theorem cF {p:Code->Prop}{a:Code}{l:ar Code}(h:p a)(t:∀x∈l,p x):∀x∈a::l,p x:=List.forall_mem_cons.2 ⟨h,t⟩
theorem hF {p:Code->Prop}{l m:ar Code}(e:l=m)(h:∀x∈m,p x):∀x∈l,p x:=e▸h
theorem fk {E:Env}{Γ:xO}{F:BM s->aw (ir rs)}{f:Nat}{fn:Func}(an:An)(hS:Sound P E Γ)(hf:P.funcs[f]?=some fn){l:ar Code}(h:∀c∈l,Xk E Γ an Λ c)(hn:(fn.name== "runtime.NumGoroutine")=false:=by kernel_rfl)(hl:im (fn.body.getD .skip)=l:=by kernel_rfl)(ee:an.cut=[]:=by kernel_rfl)(hF:∀a,GK E Γ an Λ fn rs (ix s a)=F a:=by intro a;kernel_rfl):kV P f (Q5 s rs F):=kV.of (abd hS hf hn (AD.of (Fn.hF hl h) ee)) hF
theorem ao {E:Env}{Γ:xO}{an:An}{b:Code}{l:ar Code}(h:∀c∈l,Xk E Γ an Λ c)(hl:im b=l:=by kernel_rfl)(hc:an.cut=[]:=by kernel_rfl):AD E Γ an Λ b:=AD.of (Fn.hF hl h) hc
theorem ac {E:Env}{Γ:xO}{an:An}{b:Code}{l m:ar Code}(h:∀c∈l,Xk E Γ an Λ c)(hc:∀c∈m,COk E Γ an Λ c)(hl:im b=l:=by kernel_rfl)(hm:ku an.cut b=m:=by kernel_rfl):AD E Γ an Λ b:=⟨Fn.hF hl h,Fn.hF hm hc⟩
theorem fc {E:Env}{Γ:xO}{F:BM s->aw (ir rs)}{f:Nat}{fn:Func}(an:An)(hS:Sound P E Γ)(hf:P.funcs[f]?=some fn){l m:ar Code}(h:∀c∈l,Xk E Γ an Λ c)(hc:∀c∈m,COk E Γ an Λ c)(hn:(fn.name== "runtime.NumGoroutine")=false:=by kernel_rfl)(hl:im (fn.body.getD .skip)=l:=by kernel_rfl)(hm:ku an.cut (fn.body.getD .skip)=m:=by kernel_rfl)(hF:∀a,GK E Γ an Λ fn rs (ix s a)=F a:=by intro a;kernel_rfl):kV P f (Q5 s rs F):=kV.of (abd hS hf hn ⟨Fn.hF hl h,Fn.hF hm hc⟩) hF
abbrev pd (t:CT):PS:=.data false t
abbrev pf (t:CT):PS:=.data true t
abbrev pI:PS:=.data false (.int .i64)
abbrev rB:Bool×FT:=(false,.bool)
abbrev rI:Bool×FT:=(false,.int .i64)
abbrev rS:Bool×FT:=(false,.str)
abbrev bs:Nat->ar PD->ar PD
 |0,l=>l
 |n+1,l=> .bot::bs n l
abbrev zs:Nat->ar (aw FT)->ar (aw FT)
 |0,l=>l
 |n+1,l=>none::zs n l
def mk (l:ar (Nat×dV))(n:Nat):dV:=(l.lookup n).getD []
def mg (l:ar (Nat×Nat))(n:Nat):aw Nat:=l.lookup n
def ke (n:Nat)(K:ZK R)(d:SD)(x:SD.D d):aw R:=K (.exit n) (SD.enc d x)
def kn (K:ZK R)(d:SD)(x:SD.D d):aw R:=K .normal (SD.enc d x)
def kr (K:ZK R)(d:SD)(x:SD.D d):aw R:=K .ret (SD.enc d x)
def mkl (d:SD)(t:{R:Type}->SD.D d->(Ex->AS->aw R)->(σ->aw R)->σ->aw R)(i:SD.D d->σ):K5:=⟨d,λX K=>aJ (t X K) fuel (i X)⟩
theorem lk {E:Env}{Γ:xO}{an:An}{c:Code}(d:SD)(t:{R:Type}->SD.D d->(Ex->AS->aw R)->(σ->aw R)->σ->aw R)(i:SD.D d->σ)(w:SD.D d->σ->SD.D d)(h1:Λ (dy c)=mkl d t i:=by kernel_rfl)(h:∀(R:Type)(X:SD.D d)(K:ZK R)(m:Nat)(x:σ),AK (an.mask (dy c)) (den E Γ an Λ c) (m+1) (SD.enc d (w X x)) K=t X K (λy=>AK (an.mask (dy c)) (den E Γ an Λ c) m (SD.enc d (w X y)) K) x:=by intro R X K m x;kernel_rfl)(hw:∀X,w X (i X)=X:=by intro X;kernel_rfl):Xk E Γ an Λ c:=lok (mkl d t i) h1 fuel λR X K=>(RI (λx=>SD.enc d (w X x)) (t X K) (h R X K) fuel (i X)).symm.trans (congrArg (λy=>AK (an.mask (dy c)) (den E Γ an Λ c) fuel (SD.enc d y) K) (hw X))
def mkc (d:SD)(t:{R:Type}->SD.D d->(Ex->AS->aw R)->aw R):K5:=⟨d,λX K=>t X K⟩
theorem ck {E:Env}{Γ:xO}{an:An}{c:Code}(d:SD)(t:{R:Type}->SD.D d->(Ex->AS->aw R)->aw R)(h1:Λ (xT c)=mkc d t:=by kernel_rfl)(h:∀(R:Type)(X:SD.D d)(K:ZK R),t X K=den E Γ an Λ c (SD.enc d X) (λe st'=>K e (st'.mask (an.mask (xT c+1)))):=by intro R X K;kernel_rfl):COk E Γ an Λ c:=cok (mkc d t) h1 h
def u {A B:Type}(y:A)(x:A×B):A×B:=(y,x.2)
def w {A B:Type}(y:A)(f:B->B)(x:A×B):A×B:=(y,f x.2)
def z1 {B:Type}(f:B->B)(x:A0×B):A0×B:=(x.1,f x.2)
def z2 {B:Type}(f:B->B)(x:A0×A1×B):A0×A1×B:=(x.1,x.2.1,f x.2.2)
def z3 {B:Type}(f:B->B)(x:A0×A1×A2×B):A0×A1×A2×B:=(x.1,x.2.1,x.2.2.1,f x.2.2.2)
def z5 {B:Type}(f:B->B)(x:A0×A1×A2×A3×A4×B):A0×A1×A2×A3×A4×B:=(x.1,x.2.1,x.2.2.1,x.2.2.2.1,x.2.2.2.2.1,f x.2.2.2.2.2)
def z6 {B:Type}(f:B->B)(x:A0×A1×A2×A3×A4×A5×B):A0×A1×A2×A3×A4×A5×B:=(x.1,x.2.1,x.2.2.1,x.2.2.2.1,x.2.2.2.2.1,x.2.2.2.2.2.1,f x.2.2.2.2.2.2)
def q2 {B:Type}(x:(A0×A1×A2×B)×C):A2:=x.1.2.2.1
def q3 {B:Type}(x:(A0×A1×A2×A3×B)×C):A3:=x.1.2.2.2.1
def q4 {B:Type}(x:(A0×A1×A2×A3×A4×B)×C):A4:=x.1.2.2.2.2.1
def q5 {B:Type}(x:(A0×A1×A2×A3×A4×A5×B)×C):A5:=x.1.2.2.2.2.2.1
def q6 {B:Type}(x:(A0×A1×A2×A3×A4×A5×A6×B)×C):A6:=x.1.2.2.2.2.2.2.1
def q7 {A7 B:Type}(x:(A0×A1×A2×A3×A4×A5×A6×A7×B)×C):A7:=x.1.2.2.2.2.2.2.2.1
def q8 {A7 A8 B:Type}(x:(A0×A1×A2×A3×A4×A5×A6×A7×A8×B)×C):A8:=x.1.2.2.2.2.2.2.2.2.1
def q9 {A7 A8 A9 B:Type}(x:(A0×A1×A2×A3×A4×A5×A6×A7×A8×A9×B)×C):A9:=x.1.2.2.2.2.2.2.2.2.2.1
def c1 {B:Type}(f:A0->R)(a:A0×B):R:=f a.1
def c2 {B:Type}(f:A0->A1->R)(a:A0×A1×B):R:=f a.1 a.2.1
def c4 {B:Type}(f:A0->A1->A2->A3->R)(a:A0×A1×A2×A3×B):R:=f a.1 a.2.1 a.2.2.1 a.2.2.2.1
theorem f0 {E:Env}{Γ:xO}{F:BM s->aw (ir rs)}{f:Nat}{fn:Func}(an:An)(hS:Sound P E Γ)(hf:P.funcs[f]?=some fn)(hn:(fn.name== "runtime.NumGoroutine")=false:=by kernel_rfl)(hl:im (fn.body.getD .skip)=[]:=by kernel_rfl)(ee:an.cut=[]:=by rfl)(hF:∀a,GK E Γ an Gs.nil fn rs (ix s a)=F a:=by intro a;kernel_rfl):kV P f (Q5 s rs F):=kV.of (abd hS hf hn (AD.of (Fn.hF hl nF) ee)) hF
abbrev Y0:FT:=zpi (zpi (zpi zit))
abbrev Y1:FT:=Qd (K3 36865 .str) (Qd (K3 36868 di) (Qd (Qd Y0 (Qd (zpi (zpi (zpi (K3 36892 (.int .i64))))) (Qd (K3 36895 kH) zit))) (Qd (K3 36901 cW) (Qd (K3 36904 fX) (Qd (.sl .arg fw) (Qd (.sl .arg .bool) (Qd (zpi (Qd .bool (.sl .arg (.int .i64)))) (Qd (Qd (.sl .arg qe) (Qd (.sl .arg kW) (Qd .str (.sl .arg (.int .i64))))) (Qd (.sl .arg dE) (Qd .bool (Qd (.sl .arg .str) (Qd (.sl .arg (.int .i64)) (Qd (.sl .arg (.int .i64)) (Qd zit Y0))))))))))))))
abbrev Y2:FT:=zpi (zpi (zpi (.sl .arg (.int .i64))))
def E:Env:={ty:=[(3,⟨false,(.int .i64),[]⟩),
 (4,⟨false,.bool,[]⟩),
 (5,⟨false,(.int .u8),[]⟩),
 (9,⟨false,.str,[]⟩),
 (22,⟨false,(.sl (.int .u8)),[(5,0)]⟩),
 (24,⟨false,(.sl .str),[(9,0)]⟩),
 (26,⟨true,(.sl .str),[(0,1)]⟩),
 (27,⟨false,(.sl di),[(254,0)]⟩),
 (29,⟨true,L1,[(0,1),(1,1),(2,1),(3,1)]⟩),
 (30,⟨false,(.sl (.int .i64)),[(3,0)]⟩),
 (32,⟨true,fX,[(0,1),(1,1),(2,1),(3,1)]⟩),
 (33,⟨false,(.sl kH),[(258,0)]⟩),
 (35,⟨true,fD,[(0,4),(4,4),(8,1),(9,1)]⟩),
 (36,⟨false,(.sl cW),[(141,0)]⟩),
 (37,⟨false,(.sl fX),[(32,0)]⟩),
 (38,⟨false,(.sl fw),[(156,0)]⟩),
 (39,⟨false,(.sl .bool),[(4,0)]⟩),
 (41,⟨true,jC,[(0,1),(1,1),(2,1)]⟩),
 (42,⟨false,(.sl qe),[(267,0)]⟩),
 (43,⟨false,(.sl kW),[(269,0)]⟩),
 (45,⟨true,(.sl kW),[(0,1)]⟩),
 (47,⟨true,uq,[(0,1),(1,1)]⟩),
 (49,⟨true,fS,[(0,1),(1,1),(2,2)]⟩),
 (50,⟨false,(.sl dE),[(146,0)]⟩),
 (52,⟨true,DZ,[(0,1),(1,1),(2,1),(3,1),(4,1)]⟩),
 (54,⟨true,cK,[(0,1),(1,1),(2,10),(12,1),(13,1),(14,1),(15,1),(16,3),(19,4),(23,1),(24,1),(25,1),(26,1),(27,1),(28,5)]⟩),
 (73,⟨true,(.sl .str),[(0,1)]⟩),
 (74,⟨false,(.sl di),[(286,0)]⟩),
 (75,⟨true,L1,[(0,1),(1,1),(2,1),(3,1)]⟩),
 (76,⟨true,fX,[(0,1),(1,1),(2,1),(3,1)]⟩),
 (77,⟨false,(.sl kH),[(365,0)]⟩),
 (79,⟨true,fD,[(0,4),(4,4),(8,1),(9,1)]⟩),
 (80,⟨false,(.sl cW),[(277,0)]⟩),
 (81,⟨false,(.sl fX),[(76,0)]⟩),
 (82,⟨false,(.sl fw),[(292,0)]⟩),
 (83,⟨true,jC,[(0,1),(1,1),(2,1)]⟩),
 (84,⟨false,(.sl qe),[(372,0)]⟩),
 (85,⟨false,(.sl kW),[(452,0)]⟩),
 (87,⟨true,(.sl kW),[(0,1)]⟩),
 (88,⟨true,uq,[(0,1),(1,1)]⟩),
 (90,⟨true,fS,[(0,1),(1,1),(2,2)]⟩),
 (91,⟨false,(.sl dE),[(284,0)]⟩),
 (92,⟨true,DZ,[(0,1),(1,1),(2,1),(3,1),(4,1)]⟩),
 (94,⟨true,cK,[(0,1),(1,1),(2,10),(12,1),(13,1),(14,1),(15,1),(16,3),(19,4),(23,1),(24,1),(25,1),(26,1),(27,1),(28,5)]⟩),
 (104,⟨true,D0,[(0,1),(1,1),(2,1),(3,1),(4,1),(5,1),(6,1),(7,1)]⟩),
 (106,⟨true,AN,[(0,1),(1,1),(2,1),(3,1),(4,1),(5,1),(6,1),(7,1),(8,8)]⟩),
 (108,⟨true,Sx,[(0,1),(1,16),(17,1),(18,1),(19,1),(20,1)]⟩),
 (112,⟨true,D0,[(0,1),(1,1),(2,1),(3,1),(4,1),(5,1),(6,1),(7,1)]⟩),
 (114,⟨true,AN,[(0,1),(1,1),(2,1),(3,1),(4,1),(5,1),(6,1),(7,1),(8,8)]⟩),
 (116,⟨true,Sx,[(0,1),(1,16),(17,1),(18,1),(19,1),(20,1)]⟩),
 (137,⟨true,kM,[(0,1),(1,1),(2,1)]⟩),
 (139,⟨true,IX,[(0,16),(16,1),(17,1)]⟩),
 (141,⟨true,cW,[(0,4),(4,3),(7,3),(10,18),(28,1),(29,1)]⟩),
 (144,⟨true,DZ,[(0,1),(1,1),(2,1),(3,1),(4,1)]⟩),
 (146,⟨true,dE,[(0,5),(5,1),(6,1),(7,1)]⟩),
 (156,⟨true,fw,[(0,1),(1,1),(2,1),(3,1),(4,1),(5,1)]⟩),
 (210,⟨false,(.sl AN),[(114,0)]⟩),
 (249,⟨true,DZ,[(0,1),(1,1),(2,1),(3,1),(4,1)]⟩),
 (254,⟨true,di,[(0,1),(1,1),(2,1),(3,1)]⟩),
 (258,⟨true,kH,[(0,1),(1,1),(2,1)]⟩),
 (267,⟨true,qe,[(0,1),(1,1),(2,1),(3,1),(4,1),(5,1),(6,1),(7,1),(8,1)]⟩),
 (269,⟨true,kW,[(0,1),(1,5),(6,1)]⟩),
 (273,⟨true,kM,[(0,1),(1,1),(2,1)]⟩),
 (275,⟨true,IX,[(0,16),(16,1),(17,1)]⟩),
 (277,⟨true,cW,[(0,4),(4,3),(7,3),(10,18),(28,1),(29,1)]⟩),
 (282,⟨true,DZ,[(0,1),(1,1),(2,1),(3,1),(4,1)]⟩),
 (284,⟨true,dE,[(0,5),(5,1),(6,1),(7,1)]⟩),
 (286,⟨true,di,[(0,1),(1,1),(2,1),(3,1)]⟩),
 (292,⟨true,fw,[(0,1),(1,1),(2,1),(3,1),(4,1),(5,1)]⟩),
 (365,⟨true,kH,[(0,1),(1,1),(2,1)]⟩),
 (372,⟨true,qe,[(0,1),(1,1),(2,1),(3,1),(4,1),(5,1),(6,1),(7,1),(8,1)]⟩),
 (385,⟨false,(.sl nu),[(387,0)]⟩),
 (387,⟨true,nu,[(0,1),(1,1)]⟩),
 (388,⟨false,(.sl xP),[(392,0)]⟩),
 (392,⟨true,xP,[(0,1),(1,1),(2,1),(3,1),(4,1),(5,1)]⟩),
 (407,⟨true,TIp,[(0,1),(1,1),(2,1),(3,1),(4,1),(5,1),(6,1)]⟩),
 (410,⟨true,apM,[(0,1),(1,1),(2,1),(3,1),(4,1)]⟩),
 (442,⟨false,(.sl nu),[(446,0)]⟩),
 (446,⟨true,nu,[(0,1),(1,1)]⟩),
 (452,⟨true,kW,[(0,1),(1,5),(6,1)]⟩),
 (472,⟨false,(.int .u32),[]⟩)],eqs:=[(114,[.int,.int,.int,.int,.int,.int,.int,.int,.int,.int,.int,.int,.int,.int,.int,.str]),(139,[.int,.int,.int,.int,.int,.int,.int,.int,.int,.int,.int,.int,.int,.int,.int,.str,.int,.int]),(144,[.int,.int,.int,.int,.int]),(392,[.int,.int,.int,.int,.int,.int])],fts:=[]}
theorem base:Sound Tryz.prog E xO.nil:=Sound.nil (VK (by kernel_rfl)) (VN (by kernel_rfl)) (VM (by kernel_rfl)) (by kernel_rfl)
structure SG where (g:xO) (s:Sound Tryz.prog E g)
def SG.add (S:SG){f:Nat}{F:Ai}(h:zfo f F):SG:=⟨S.g.add f F,S.s.add h⟩
def G0:SG:=⟨xO.nil,base⟩
def SG.qk (S:SG){f:Nat}{fn:Func}(an:An)(hf:Tryz.prog.funcs[f]?=some fn)(s:ar PS)(rs:ar (Bool×FT))(F:BM s->aw (ir rs)){l:ar Code}(h:∀c∈l,Xk E S.g an Λ c)(hn:(fn.name== "runtime.NumGoroutine")=false:=by kernel_rfl)(hl:im (fn.body.getD .skip)=l:=by kernel_rfl)(ee:an.cut=[]:=by kernel_rfl)(hF:∀a,GK E S.g an Λ fn rs (ix s a)=F a:=by intro a;kernel_rfl):SG:=S.add (kV.of (abd S.s hf hn (AD.of (Fn.hF hl h) ee)) hF)
def SG.q1 (S:SG){f:Nat}{fn:Func}(an:An)(hf:Tryz.prog.funcs[f]?=some fn)(s:ar PS)(rs:ar (Bool×FT))(F:BM s->aw (ir rs))(d:SD)(t:{R:Type}->SD.D d->(Ex->AS->aw R)->(σ->aw R)->σ->aw R)(i:SD.D d->σ)(w:SD.D d->σ->SD.D d)(h1:(Gs.nil.add (dy (gj fn 0)) (mkl d t i)) (dy (gj fn 0))=mkl d t i:=by kernel_rfl)(h:∀(R:Type)(X:SD.D d)(K:ZK R)(m:Nat)(x:σ),AK (an.mask (dy (gj fn 0))) (den E S.g an (Gs.nil.add (dy (gj fn 0)) (mkl d t i)) (gj fn 0)) (m+1) (SD.enc d (w X x)) K=t X K (λy=>AK (an.mask (dy (gj fn 0))) (den E S.g an (Gs.nil.add (dy (gj fn 0)) (mkl d t i)) (gj fn 0)) m (SD.enc d (w X y)) K) x:=by intro R X K m x;kernel_rfl)(hw:∀X,w X (i X)=X:=by intro X;kernel_rfl)(hn:(fn.name== "runtime.NumGoroutine")=false:=by kernel_rfl)(hl:im (fn.body.getD .skip)=[gj fn 0]:=by kernel_rfl)(ee:an.cut=[]:=by kernel_rfl)(hF:∀a,GK E S.g an (Gs.nil.add (dy (gj fn 0)) (mkl d t i)) fn rs (ix s a)=F a:=by intro a;kernel_rfl):SG:=S.add (kV.of (abd S.s hf hn (AD.of (Fn.hF hl (cF (lk d t i w h1 h hw) nF)) ee)) hF)
def Ty (T:Nat):Shape:=(iT E.ty T).getD ⟨false,.bool,[]⟩
def kF (k:FK):CT->FT
 | .pair a b=> .pair (kF k a) (kF k b)
 | .sl e=> .sl k e
 | .int k=> .int k
 | .bool=> .bool
 | .str=> .str
def sF:Nat->CT->FT
 |n,.pair a b=> .pair (sF n a) (sF (n+3*a.size) b)
 |n,.sl e=> .sl (.own (some n)) e
 |_,.int k=> .int k
 |_,.bool=> .bool
 |_,.str=> .str
def sg (fn:Func):ar PS:=fn.params.toList.map λT=> .data (Ty T).agg (Ty T).ct
def rz (fn:Func):ar (Bool×FT):=fn.resultTypes.toList.map λT=>((Ty T).agg,kF (.own none) (Ty T).ct)
def Cu (R:Type):ar PS->Type
 |[]=>R
 | .data _ t::r=>t.D->Cu R r
 | .fn _::r=>Cu R r
def un:(s:ar PS)->Cu R s->BM s->R
 |[],f,_=>f
 | .data _ _::r,f,a=>un r (f a.1) a.2
 | .fn _::r,f,a=>un r f a
def dT:ar PD->Nat->Type
 |[],_=>Unit
 | .data _ t::_,0=>t.ct.D
 |_::_,0=>Unit
 |_::r,n+1=>dT r n
def dG:(l:ar PD)->(n:Nat)->Fy l->dT l n
 |[],_,_=>()
 | .data _ _::_,0,x=>x.1
 | .bot::_,0,_=>()
 | .ptr _ _::_,0,_=>()
 | .fn _::_,0,_=>()
 | .data _ _::r,n+1,x=>dG r n x.2
 | .bot::r,n+1,x=>dG r n x
 | .ptr _ _::r,n+1,x=>dG r n x
 | .fn _::r,n+1,x=>dG r n x
def dP:(l:ar PD)->(n:Nat)->dT l n->Fy l->Fy l
 |[],_,_,x=>x
 | .data _ _::_,0,y,x=>(y,x.2)
 | .bot::_,0,_,x=>x
 | .ptr _ _::_,0,_,x=>x
 | .fn _::_,0,_,x=>x
 | .data _ _::r,n+1,y,x=>(x.1,dP r n y x.2)
 | .bot::r,n+1,y,x=>dP r n y x
 | .ptr _ _::r,n+1,y,x=>dP r n y x
 | .fn _::r,n+1,y,x=>dP r n y x
def bT:ar (aw FT)->Nat->Type
 |[],_=>Unit
 |some t::_,0=>t.ct.D
 |none::_,0=>Unit
 |_::r,n+1=>bT r n
def bG:(l:ar (aw FT))->(n:Nat)->EF l->bT l n
 |[],_,_=>()
 |some _::_,0,x=>x.1
 |none::_,0,_=>()
 |some _::r,n+1,x=>bG r n x.2
 |none::r,n+1,x=>bG r n x
def bP:(l:ar (aw FT))->(n:Nat)->bT l n->EF l->EF l
 |[],_,_,x=>x
 |some _::_,0,y,x=>(y,x.2)
 |none::_,0,_,x=>x
 |some _::r,n+1,y,x=>(x.1,bP r n y x.2)
 |none::r,n+1,y,x=>bP r n y x
def pk (d:SD)(i:Nat):Nat:=match nth d.slots i with
 |some (.data _ _)=>0
 |some _=>1
 |none=>2
def PK (d:SD)(i:Nat):Nat->Type
 |0=>dT d.slots i
 |1=>bT d.boxes i
 |_=>ioD d.io
abbrev PT (d:SD)(i:Nat):Type:=PK d i (pk d i)
def gK (d:SD)(i:Nat)(X:d.D):(k:Nat)->PK d i k
 |0=>dG d.slots i X.1
 |1=>bG d.boxes i X.2.1
 |_+2=>X.2.2
def pK (d:SD)(i:Nat)(X:d.D):(k:Nat)->PK d i k->d.D
 |0,y=>(dP d.slots i y X.1,X.2)
 |1,y=>(X.1,bP d.boxes i y X.2.1,X.2.2)
 |_+2,y=>(X.1,X.2.1,y)
def St (d:SD):dV->Type
 |[]=>Unit
 |[p]=>PT d p
 |p::q::r=>PT d p×St d (q::r)
def gS (d:SD)(X:d.D):(l:dV)->St d l
 |[]=>()
 |[p]=>gK d p X (pk d p)
 |p::q::r=>(gK d p X (pk d p),gS d X (q::r))
def pS (d:SD):(l:dV)->St d l->d.D->d.D
 |[],_,X=>X
 |[p],y,X=>pK d p X (pk d p) y
 |p::q::r,y,X=>pS d (q::r) y.2 (pK d p X (pk d p) y.1)
def Cv (d:SD)(R:Type):dV->Type
 |[]=>R
 |p::r=>PT d p->Cv d R r
def aV (d:SD)(X:d.D):(l:dV)->Cv d R l->R
 |[],f=>f
 |p::r,f=>aV d X r (f (gK d p X (pk d p)))
def cV (d:SD)(K:d.D->R):(l:dV)->d.D->Cv d R l
 |[],X=>K X
 |p::r,X=>λy=>cV d K r (pK d p X (pk d p) y)
def Cz (d:SD)(R:Type):dV->Type
 |[]=>Unit->R
 |p::r=>Cv d R (p::r)
def cZ (d:SD)(K:d.D->R):(l:dV)->d.D->Cz d R l
 |[],X=>λ_=>K X
 |p::r,X=>cV d K (p::r) X
def pls (d:SD):dV:=(List.range d.slots.length).filter (λi=>match nth d.slots i with|some (.data _ _)=>true|_=>false)++(List.range d.slots.length).filter (λi=>match nth d.boxes i with|some (some _)=>true|_=>false)++match d.io with| .some _=>[d.slots.length]|_=>[]
def kps (d:SD):dV:=(List.range d.slots.length).filter λi=>(match nth d.slots i with|some .bot=>false|_=>true)||match nth d.boxes i with|some (some _)=>true|_=>false
def TT (d:SD)(s:dV)(R:Type):ar (Ex×dV)->Type
 |[]=>Cv d ((St d s->aw R)->St d s->aw R) ((pls d).filter λi=> !s.contains i)
 |x::r=>Cz d (aw R) x.2->TT d s R r
def tT (d:SD)(s:dV)(X:d.D)(K:ZK R):(l:ar (Ex×dV))->TT d s R l->(St d s->aw R)->St d s->aw R
 |[],f=>aV d X _ f
 |x::r,f=>tT d s X K r (f (cZ d (λY=>K x.1 (d.enc Y)) x.2 X))
structure LS (fn:Func) where (d:SD) (σ:Type) (t:{R:Type}->d.D->(Ex->AS->Option R)->(σ->Option R)->σ->Option R) (i:d.D->σ) (w:d.D->σ->d.D)
def fo (i:Nat):Code->aw Oper
 | .region _ l _=>l.toList.find? λo=>match o.dst with|some j=>Nat.beq j i|none=>false
 | .seq a b=>match fo i a with|none=>fo i b|x=>x
 | .cond _ a b=>match fo i a with|none=>fo i b|x=>x
 | .block _ a=>fo i a
 | .loop a=>fo i a
 |_=>none
def kP (f:Nat->CT->FT)(fn:Func)(i:Nat):PD×aw FT:=match fn.params[i]?,fo i (fn.body.getD .skip)with
 |some T,_=>(.data (Ty T).agg (f (12288*i) (Ty T).ct),none)
 |_,some o=>match o.op with
  | .alloc T=>(.ptr i 0,some (f (12288*i+1) (Ty T).ct))
  | .box T _=>(.ptr i 0,some (f (12288*i+1) (Ty T).ct))
  |_=>(.data (Ty o.type).agg (f (12288*i) (Ty o.type).ct),none)
 |_,_=>(.bot,none)
def dS (fn:Func)(a b:dV)(x:ar (Nat×PD×aw FT))(io:IoD):SD:=
 let l:=(List.range fn.ntmps).map λi=>match x.lookup i with
  |some y=>y
  |none=>bif a.contains i then kP sF fn i else bif b.contains i then kP (λ_=>kF .arg) fn i else(.bot,none)
 ⟨l.map (·.1),l.map (·.2),io⟩
def ld {fn:Func}(a b s:dV)(T:∀R,A R)(l:ar (Ex×dV):=[(.exit 0,s)])(x:ar (Nat×PD×aw FT):=[])(io:IoD:=.none)(h:∀R,A R=TT (dS fn a b x io) s R l:=by intro R;kernel_rfl):LS fn:=⟨dS fn a b x io,St (dS fn a b x io) s,λ{R} X K=>tT (dS fn a b x io) s X K l (cast (h R) (T R)),λX=>gS (dS fn a b x io) X s,λX y=>pS (dS fn a b x io) s y X⟩
structure CS (fn:Func) where (d:SD) (o:List Nat) (t:{R:Type}->d.D->(Ex->AS->Option R)->Option R)
def TC (d:SD)(R:Type):ar (Ex×dV)->Type
 |[]=>Cv d (aw R) (pls d)
 |x::r=>Cz d (aw R) x.2->TC d R r
def tC (d:SD)(X:d.D)(K:ZK R):(l:ar (Ex×dV))->TC d R l->aw R
 |[],f=>aV d X _ f
 |x::r,f=>tC d X K r (f (cZ d (λY=>K x.1 (d.enc Y)) x.2 X))
def lc {fn:Func}(a b o:dV)(T:∀R,A R)(l:ar (Ex×dV))(x:ar (Nat×PD×aw FT):=[])(io:IoD:=.none)(h:∀R,A R=TC (dS fn a b x io) R l:=by intro R;kernel_rfl):CS fn:=⟨dS fn a b x io,o,λ{R} X K=>tC (dS fn a b x io) X (λe s=>K e (s.mask o)) l (cast (h R) (T R))⟩
def cu:FT:=.pair (.sl .afZ (.int .u8)) (.pair (.int .i64) (.int .i64))
def lb {fn:Func}(a b s:dV)(T:∀R,A R)(l:ar (Ex×dV):=[(.exit 0,s)])(x:ar (Nat×PD×aw FT):=[])(h:∀R,A R=TT (dS fn a b ((0,.ptr 0 0,some cu)::x) .ptr) s R l:=by intro R;kernel_rfl):LS fn:=ld a b s T l ((0,.ptr 0 0,some cu)::x) .ptr h
def lx {fn:Func}(a b o:dV)(T:∀R,A R)(l:ar (Ex×dV))(x:ar (Nat×PD×aw FT):=[])(h:∀R,A R=TC (dS fn a b ((0,.ptr 0 0,some cu)::x) .ptr) R l:=by intro R;kernel_rfl):CS fn:=lc a b o T l ((0,.ptr 0 0,some cu)::x) .ptr h
section
variable (Γ:xO) (an:An) (fn:Func)
def lac (c:dV):Nat->ar (CS fn)->Gs
 |_,[]=>Gs.nil
 |j,l::r=>(lac c (j+1) r).add (xT (CZ c fn j)) (mkc l.d l.t)
def lam (B:Gs):Nat->ar (LS fn)->Gs
 |_,[]=>B
 |k,l::r=>(lam B (k+1) r).add (dy (gj fn k)) (mkl l.d l.t l.i)
def Xf (c:dV)(n:Nat):Nat->ar (CS fn)->dV
 |_,[]=>[]
 |j,l::r=>bif Nat.beq n (xT (CZ c fn j)) then kps l.d else bif Nat.beq n (xT (CZ c fn j)+1) then l.o else Xf c n (j+1) r
def msk (c:dV)(y:ar (CS fn))(n:Nat):Nat->ar (LS fn)->dV
 |_,[]=>Xf fn c n 0 y
 |k,l::r=>bif Nat.beq n (dy (gj fn k)) then kps l.d else msk c y n (k+1) r
def wm (l:ar (LS fn))(y:ar (CS fn)):An:={an with mask:=λn=>msk fn an.cut y n 0 l}
def LL (Λ:Gs):Nat->ar (LS fn)->Prop
 |_,[]=>True
 |k,l::r=>Λ (dy (gj fn k))=mkl l.d l.t l.i/\(∀(R:Type)(X:l.d.D)(K:ZK R)(m:Nat)(x:l.σ),AK (an.mask (dy (gj fn k))) (den E Γ an Λ (gj fn k)) (m+1) (l.d.enc (l.w X x)) K=l.t X K (λy=>AK (an.mask (dy (gj fn k))) (den E Γ an Λ (gj fn k)) m (l.d.enc (l.w X y)) K) x)/\(∀X,l.w X (l.i X)=X)/\LL Λ (k+1) r
def CC (Λ:Gs):Nat->ar (CS fn)->Prop
 |_,[]=>True
 |k,l::r=>Λ (xT (CZ an.cut fn k))=mkc l.d l.t/\(∀(R:Type)(X:l.d.D)(K:ZK R),l.t X K=den E Γ an Λ (CZ an.cut fn k) (l.d.enc X) (λe st'=>K e (st'.mask (an.mask (xT (CZ an.cut fn k)+1)))))/\CC Λ (k+1) r
def OK (l:ar (LS fn))(y:ar (CS fn)):Prop:=(fn.name== "runtime.NumGoroutine")=false/\im (fn.body.getD .skip)=(List.range' 0 l.length).map (gj fn)/\ku an.cut (fn.body.getD .skip)=(List.range' 0 y.length).map (CZ an.cut fn)/\LL Γ (wm an fn l y) fn (lam fn (lac fn an.cut 0 y) 0 l) 0 l/\CC Γ (wm an fn l y) fn (lam fn (lac fn an.cut 0 y) 0 l) 0 y
end
section
variable {Γ:xO} {an:An} {fn:Func}
theorem LL.ok {Λ:Gs}:∀{r:ar (LS fn)}{k:Nat},LL Γ an fn Λ k r->∀c∈(List.range' k r.length).map (gj fn),Xk E Γ an Λ c
 |[],_,_,_,h=>nomatch h
 |l::_,k,⟨h1,h2,h3,h4⟩,c,h=>by rcases cv.1 h with e|e;rw[e];exact lk l.d l.t l.i l.w h1 h2 h3;exact h4.ok c e
theorem CC.ok {Λ:Gs}:∀{r:ar (CS fn)}{k:Nat},CC Γ an fn Λ k r->∀c∈(List.range' k r.length).map (CZ an.cut fn),COk E Γ an Λ c
 |[],_,_,_,h=>nomatch h
 |l::_,k,⟨h1,h2,h3⟩,c,h=>by rcases cv.1 h with e|e;rw[e];exact ck l.d l.t h1 h2;exact h3.ok c e
theorem OK.all {l:ar (LS fn)}{y:ar (CS fn)}(h:OK Γ an fn l y):AD E Γ (wm an fn l y) (lam fn (lac fn an.cut 0 y) 0 l) (fn.body.getD .skip):=⟨Fn.hF h.2.1 h.2.2.2.1.ok,Fn.hF h.2.2.1 h.2.2.2.2.ok⟩
end
section
variable (S:SG) {f:Nat} {fn:Func} (an:An) (hf:Tryz.prog.funcs[f]?=some fn)
variable {A:Type}
noncomputable def SG.q (F:A)(l:ar (LS fn):=[])(y:ar (CS fn):=[])(rs:ar (Bool×FT):=rz fn)(hA:A=Cu (aw (ir rs)) (sg fn):=by kernel_rfl)(h:OK S.g an fn l y:=by repeat' (first|exact trivial|apply And.intro|(intros;kernel_rfl)))(hF:∀a,GK E S.g (wm an fn l y) (lam fn (lac fn an.cut 0 y) 0 l) fn rs (ix (sg fn) a)=un (sg fn) (cast hA F) a:=by intro a;kernel_rfl):SG:=
 S.add (kV.of (F:=un (sg fn) (cast hA F)) (abd S.s hf h.1 h.all) hF)
noncomputable def SG.b (F:A)(l:ar (LS fn):=[])(y:ar (CS fn):=[])(t:FT:=cu)(rs:ar (Bool×FT):=rz fn)(hA:A=(t.ct.D->Cu (aw (ir rs×t.ct.D)) (sg fn).tail):=by kernel_rfl)(h:OK S.g an fn l y:=by repeat' (first|exact trivial|apply And.intro|(intros;kernel_rfl)))(hF:∀x a,SS E S.g (wm an fn l y) (lam fn (lac fn an.cut 0 y) 0 l) fn rs t (.val true (iW t x)::ix (sg fn).tail a)=un (sg fn).tail (cast hA F x) a:=by intro x a;kernel_rfl):SG:=
 S.add (kV.ajo (F:=λx a=>un (sg fn).tail (cast hA F x) a) (aiN S.s hf h.1 h.all) hF)
noncomputable def SG.i (F:A)(l:ar (LS fn):=[])(y:ar (CS fn):=[])(rs:ar (Bool×FT):=rz fn)(t:Nat:=fn.params.getD 0 0)(hA:A=((Ty t).ct.D->Cu (aw (ir rs×(Ty t).ct.D)) (sg fn).tail):=by kernel_rfl)(h:OK S.g an fn l y:=by repeat' (first|exact trivial|apply And.intro|(intros;kernel_rfl)))(hF:∀x a,XS E S.g (wm an fn l y) (lam fn (lac fn an.cut 0 y) 0 l) fn rs (Ty t).ct (.val (Ty t).agg (cellsOf (Ty t).ct (.own none) x)::ix (sg fn).tail a)=un (sg fn).tail (cast hA F x) a:=by intro x a;kernel_rfl):SG:=
 S.add (kV.aqw (F:=λx a=>un (sg fn).tail (cast hA F x) a) (apS S.s hf h.1 h.all) hF)
noncomputable def SG.n (F:A)(t:FT)(l:ar (LS fn):=[])(y:ar (CS fn):=[])(hA:A=Cu (aw t.ct.D) (sg fn):=by kernel_rfl)(h:OK S.g an fn l y:=by repeat' (first|exact trivial|apply And.intro|(intros;kernel_rfl)))(hF:∀a,Nl E S.g (wm an fn l y) (lam fn (lac fn an.cut 0 y) 0 l) fn t (ix (sg fn) a)=un (sg fn) (cast hA F) a:=by intro a;kernel_rfl):SG:=
 S.add (kV.ajp (F:=un (sg fn) (cast hA F)) (aiO S.s hf h.1 h.all) hF)
noncomputable def SG.v (F:A)(M4:ar (Bool×FT))(l:ar (LS fn):=[])(y:ar (CS fn):=[])(rs:ar (Bool×FT):=rz fn)(h2:ir M4=ir rs:=by kernel_rfl)(hA:A=Cu (aw (Bool×ir rs)) (sg fn):=by kernel_rfl)(h:OK S.g an fn l y:=by repeat' (first|exact trivial|apply And.intro|(intros;kernel_rfl)))(hF:∀a,evalAlt E S.g (wm an fn l y) (lam fn (lac fn an.cut 0 y) 0 l) fn rs M4 h2 (ix (sg fn) a)=un (sg fn) (cast hA F) a:=by intro a;kernel_rfl):SG:=
 S.add (kV.ofAlt (h2:=h2) (F:=un (sg fn) (cast hA F)) (adT h2 S.s hf h.1 h.all) hF)
end
variable {R:Type}
def G92:=G0.q {} func92 wZ [ld [1,4,5] [0] [1,5] @Dh [(.exit 0,[1,5]),(.ret,[1,4,5])]]
def G82:=G92.q {} func82 yU
def G83:=G82.q {} func83 Av
def G93:=G83.q {} func93 ou
def ald:=G93.q {} func219 vB
def am2:=ald.q {} func338 zS
def ale:=am2.q {} func220 Ff [ld [1,4,5] [0] [1,5] @Gd [(.exit 0,[1,5]),(.ret,[1,4,5])]]
def G84:=ale.q {} func84 xa
def alH:=G84.q {} func247 wY
def ajP:=alH.q {} func120 tQ
def am3:=ajP.q {} func339 Be
def alf:=am3.q {} func221 rk
def G85:=alf.q {} func85 Aw [ld [1,4,5] [0] [1,5] @Cp [(.exit 0,[1,5]),(.ret,[1,4,5])]]
def G86:=G85.q {} func86 Fc [ld [1,4,5] [0] [1,5] @Gc [(.exit 0,[1,5]),(.ret,[1,4,5])]]
def G87:=G86.q {} func87 Cr
def G88:=G87.q {} func88 Fb
def G89:=G88.q {} func89 yT
def alg:=G89.q {} func222 Fe
def am4:=alg.q {} func340 Fg
def alh:=am4.q {} func223 sy
def ali:=alh.q {} func224 yV
def G90:=ali.q {} func90 uO
def alj:=G90.q {} func225 tR
def G91:=alj.q {} func91 Cq [ld [1,4,5] [0] [1,5] @Dg [(.exit 0,[1,5]),(.ret,[1,4,5])]]
def G29:=G91.q {} func29 Df
def ajA:=G29.q {mv:=[21]} func104 xc [ld [3,4] [0] [3,4] @Dm]
def G94:=ajA.q {mv:=[8]} func94 tU
def alk:=G94.q {} func226 xb
def G95:=alk.q {mv:=[22]} func95 Ay [ld [3,4] [0] [3,4] @Cs]
def alm:=G95.q {} func227 Dj
def ajB:=alm.q {mv:=[21]} func105 ow [ld [3,4] [0] [3,4] @G9]
def aln:=ajB.q {mv:=[17]} func228 rl
def am5:=aln.q {mv:=[14]} func341 vC
def alo:=am5.q {mv:=[22]} func229 Fk [ld [3,4] [0] [3,4] @Gi]
def G96:=alo.q {mv:=[19]} func96 rm
def am6:=G96.q {} func342 kz
def alM:=am6.q {} func252 Cw
def ajT:=alM.q {} func124 pQ
def am7:=ajT.q {} func343 xd
def alp:=am7.q {} func230 nM
def G97:=alp.q {mv:=[22]} func97 Az [ld [3,4] [0] [3,4] @Ct]
def G98:=G97.q {mv:=[22]} func98 Fi [ld [3,4] [0] [3,4] @Gf]
def alq:=G98.q {} func231 yW
def G99:=alq.q {mv:=[22]} func99 Cy [ld [3,4] [0] [3,4] @Dp]
def ajw:=G99.q {mv:=[21]} func100 Fh [ld [3,4] [0] [3,4] @Ge]
def ajx:=ajw.q {mv:=[14]} func101 tS
def am8:=ajx.q {} func344 Dk
def alr:=am8.q {mv:=[22]} func232 Fj [ld [3,4] [0] [3,4] @Gg]
def ana:=alr.q {} func346 Di
def aoG:=ana.q {} func446 vD
def am9:=aoG.q {mv:=[22]} func345 Fl [ld [3,4] [0] [3,4] @Gj]
def als:=am9.q {mv:=[8]} func233 nL
def alu:=als.q {mv:=[11]} func234 tV
def ajy:=alu.q {mv:=[16]} func102 pt
def alv:=ajy.q {} func235 pR
def ajz:=alv.q {mv:=[22]} func103 Cx [ld [3,4] [0] [3,4] @Dl]
def ajC:=ajz.q {} func106 Ax
def G31:=ajC.q {mv:=[63]} func31 ov
def G41:=G31.q {} func41 ot [ld [4,5] [0,1] [5] @G8 [(.exit 0,[5]),(.ret,[4,5])]]
def ajN:=G41.q {} func117 wK [ld [4,5] [0,1] [5] @Dd [(.exit 0,[5]),(.ret,[4,5])]]
def ajD:=ajN.q {} func107 yO
def alw:=ajD.q {} func236 rb
def ajE:=alw.q {} func108 As [ld [4,5] [0,1] [5] @Cb [(.exit 0,[5]),(.ret,[4,5])]]
def alx:=ajE.q {} func237 zO
def aly:=alx.q {} func238 vA
def anb:=aly.q {} func347 zQ
def alz:=anb.q {} func239 E8 [ld [4,5] [0,1] [5] @Ga [(.exit 0,[5]),(.ret,[4,5])]]
def ajF:=alz.q {} func109 wL
def anc:=ajF.q {} func348 iB
def ani:=anc.q {} func353 wJ
def alG:=ani.q {} func246 yP
def ane:=alG.q {} func349 Bd
def alA:=ane.q {} func240 re
def ajG:=alA.q {} func110 Au [ld [4,5] [0,1] [5] @Cc [(.exit 0,[5]),(.ret,[4,5])]]
def ajH:=ajG.q {} func111 E6 [ld [4,5] [0,1] [5] @F8 [(.exit 0,[5]),(.ret,[4,5])]]
def alB:=ajH.q {} func241 tO
def ajI:=alB.q {} func112 Ce [ld [4,5] [0,1] [5] @De [(.exit 0,[5]),(.ret,[4,5])]]
def ajJ:=ajI.q {} func113 E5 [ld [4,5] [0,1] [5] @F7 [(.exit 0,[5]),(.ret,[4,5])]]
def ajK:=ajJ.q {} func114 yN
def anf:=ajK.q {} func350 zP
def alC:=anf.q {} func242 E7 [ld [4,5] [0,1] [5] @F9 [(.exit 0,[5]),(.ret,[4,5])]]
def anh:=alC.q {} func352 zN
def aoH:=anh.q {} func447 zR
def ang:=aoH.q {} func351 E9 [ld [4,5] [0,1] [5] @Gb [(.exit 0,[5]),(.ret,[4,5])]]
def alD:=ang.q {} func243 sn
def alE:=alD.q {} func244 yQ
def ajL:=alE.q {} func115 uH
def alF:=ajL.q {} func245 tN
def ajM:=alF.q {} func116 Cd [ld [4,5] [0,1] [5] @Dc [(.exit 0,[5]),(.ret,[4,5])]]
def ajO:=ajM.q {} func118 uG
def G33:=ajO.q {} func33 ra
def G35:=G33.q {} func35 Fa
def G63:=G35.q {merge:=mg [(1,6)]} func63 aK
def G56:=G63.q {merge:=mg [(1,12),(3,31),(5,2)]} func56 FD
def akE:=G56.q {merge:=mg [(4,35),(6,2)]} func179 uh [ld [2,3] [1] [3] @sE [(.exit 0,[3]),(.ret,[2,3])]]
def aoc:=akE.q {merge:=mg [(1,33),(3,54),(5,2)]} func416 mE
def amq:=aoc.q {} func300 xA [ld [2,3] [0] [3] @AA [(.exit 0,[3]),(.ret,[2,3])]]
def ao4:=amq.q {} func473 zh [ld [3,4,5] [] [3,5] @nW]
def aod:=ao4.q {merge:=mg [(7,39)]} func417 Br [ld [3,4,5] [2] [5] @vc [(.exit 0,[5]),(.ret,[4,5])]]
def amr:=aod.q {merge:=mg [(7,30),(10,42)]} func301 xB [ld [2,3] [1] [3] @uX [(.exit 0,[3]),(.ret,[2,3])]]
def aoe:=amr.q {merge:=mg [(1,2)]} func418 Bp
def ams:=aoe.q {merge:=mg [(1,21)]} func302 uk [ld [1,4,5] [2] [5] @sL [(.exit 0,[5]),(.ret,[4,5])]]
def akF:=ams.q {merge:=mg [(1,23)]} func180 pE [ld [1,4,5] [2] [5] @oY [(.exit 0,[5]),(.ret,[4,5])],ld [1,4,6] [2] [6] @vn [(.exit 2,[6]),(.ret,[4,6])]]
def akK:=akF.q {} func185 pW [ld [2,3] [1] [3] @sI [(.exit 0,[3]),(.ret,[2,3])]]
def akL:=akK.q {merge:=mg [(7,34),(12,57)]} func186 pB [ld [2,3] [0] [3] @oS [(.exit 0,[3]),(.ret,[2,3])],ld [2,3,4,5] [0] [5] @np [(.exit 2,[5]),(.ret,[2,5])]]
def akO:=akL.q {merge:=mg [(1,20),(7,50)]} func189 iM [ld [2,3,4] [1] [3,4] @xx [(.exit 0,[3,4]),(.ret,[2,3,4])]]
def aoi:=akO.q {merge:=mg [(1,2)]} func422 sU
def aoj:=aoi.q {} func423 ji
def amB:=aoj.q {merge:=mg [(1,2)]} func311 jz
def akT:=amB.q {sb:=mg [(2,2)]} func194 jk
def amC:=akT.q {merge:=mg [(3,21)],mv:=[10,24]} func312 gC
def akM:=amC.q {merge:=mg [(1,24),(9,50),(14,2)],mv:=[55]} func187 BK [ld [2,3,4,5] [1] [3,4,5] @xD [(.exit 0,[3,4,5]),(.ret,[2,3,4,5])]]
def aof:=akM.q {merge:=mg [(1,18),(4,2),(5,2)]} func419 rA
def amu:=aof.q {merge:=mg [(1,55),(3,3),(4,2)]} func304 hH
def amD:=amu.q {merge:=mg [(1,2)]} func313 oV
def akN:=amD.q {merge:=mg [(1,42),(5,2)]} func188 ym
def amE:=akN.q {merge:=mg [(1,2)]} func314 rC
def akP:=amE.q {merge:=mg [(1,24),(3,2)]} func190 jj
def G59:=akP.q {merge:=mg [(2,64),(7,94)]} func59 jy [ld [2,3,4] [1] [4] @xt [(.exit 0,[4]),(.ret,[2,4])],ld [2,5,6] [] [6] @uT [(.exit 2,[6]),(.ret,[2,6])]]
def G60:=G59.q {sb:=mg [(2,2)]} func60 Bv
def akQ:=G60.q {} func191 Bq
def G61:=akQ.q {sb:=mg [(2,2)]} func61 Bs
def akR:=G61.q {} func192 dp
def akS:=akR.q {mv:=[27,40],mb:=mg [(27,3)],sb:=mg [(3,3),(39,3)]} func193 jl [ld [2,3,4] [1] [4,3] @vf]
def G62:=akS.q {mv:=[34,82],mb:=mg [(34,3)],sb:=mg [(43,3)]} func62 iE [ld [2,4] [1] [4,3] @vg [(.exit 0,[4,3])] [(3,.ptr 3 0,some Y1)]]
def apq:=G62.q {merge:=mg [(4,42)]} func494 Bt [ld [1,2,3,8,9] [0] [9] @vd [(.exit 0,[9]),(.ret,[8,9])]]
def apr:=apq.q {merge:=mg [(2,6)]} func495 lp
def aov:=apr.q {merge:=mg [(3,34),(10,57)],mv:=[35,36,64,71,81,82]} func435 um [ld [2,3,4,5,12,13,14,15,16] [0,7] [3,4,15,16] @kT [(.exit 0,[3,4,15,16]),(.ret,[3,4,12,13,14,15,16])]]
def aow:=aov.q {} func436 pD [ld [1,2,8] [3] [1,2,8] @oW]
def amL:=aow.q {} func321 oQ [ld [15,16] [6] [15,16] @uS [(.exit 0,[15,16])] [(12,.data false (.sl .loc (.int .i64)),Z),(13,.data false (.sl .loc (.int .i64)),Z)]]
def aok:=amL.q {merge:=mg [(1,11)]} func424 nZ
def amF:=aok.q {merge:=mg [(1,20)],sb:=mg [(9,9)]} func315 uj
def ama:=amF.q {merge:=mg [(1,6)]} func277 oa
def akl:=ama.q {} func154 eE
def amy:=akl.q {} func308 bO
def aoL:=amy.q {} func451 ff
def aoZ:=aoL.q {merge:=mg [(1,27)]} func466 jN
def apI:=aoZ.q {merge:=mg [(1,12)]} func512 oP
def apy:=apI.q {} func502 zw [ld [0,3,4] [] [3,4] @sP]
def ao0:=apy.q {} func467 kK
def anU:=ao0.q {merge:=mg [(14,82)]} func391 jL
def apz:=anU.q {merge:=mg [(1,2)]} func503 H3
def ao1:=apz.q {} func468 zl
def anV:=ao1.q {} func392 xn
def ao2:=anV.q {merge:=mg [(1,2)]} func469 yl
def ao3:=ao2.q {} func470 iO
def anW:=ao3.q {} func393 yZ
def amb:=anW.q {} func285 sT [ld [0,1,5,6] [] [5,6] @uZ]
def anX:=amb.q {} func394 Bn
def al8:=anX.q {} func275 hG
def ame:=al8.q {} func288 vK
def aoK:=ame.q {merge:=mg [(1,2)]} func450 ru
def anp:=aoK.q {} func360 lT
def ao5:=anp.q {} func474 dR
def ao6:=ao5.q {} func475 ia
def aol:=ao6.q {sb:=mg [(4,4)]} func425 pA
def apj:=aol.q {mv:=[19,52]} func488 sS [ld [1,2,6,8] [] [1,2,8] @ns]
def aom:=apj.q {mv:=[32,39,52,60],sb:=mg [(15,15)]} func426 mS [ld [4,10,15,16] [] [4,16,15] @nR [(.exit 0,[4,16,15])] [(12,.data false (.sl .loc (.int .i64)),Z),(13,.data false (.sl .loc (.int .i64)),Z)]]
def aou:=aom.q {} func434 uo
def apk:=aou.q {merge:=mg [(1,2)]} func489 mA
def apl:=apk.q {merge:=mg [(1,12)]} func490 lB
def aon:=apl.q {merge:=mg [(1,22)],mv:=[26,44,59],mb:=mg [(59,13)],sb:=mg [(10,10),(11,11),(13,13)]} func427 oU
def apG:=aon.q {} func510 Ac
def apH:=apG.q {merge:=mg [(1,14)]} func511 xv [ld [0,1,5,6] [] [5,6] @qC]
def apm:=apH.q {merge:=mg [(1,14)]} func491 xp [ld [0,1,5,6] [] [5,6] @qy]
def apn:=apm.q {} func492 xq
def aoo:=apn.q {} func428 ui
def amG:=aoo.q {merge:=mg [(3,46)],mv:=[90],sb:=mg [(12,12),(13,13)]} func316 zy
def akU:=amG.q {merge:=mg [(1,30),(5,58)],mv:=[44,75],mb:=mg [(75,15)],sb:=mg [(10,10),(11,11)]} func195 nU
def amN:=akU.q {} func323 mV
def amH:=amN.q {} func317 yY
def akV:=amH.b {} func196 lq [ld [1,6,7] [] [7,0] @qF [(.exit 0,[7,0])] [(0,.ptr 0 0,some (sF 1 cK))] .ptr] (t:=(kF (.own none) cK))
def G64:=akV.q {merge:=mg [(3,17)],mv:=[20,35,37,53],sb:=mg [(5,5),(6,6)]} func64 xr [ld [2,3,4] [1] [4,3] @mC]
def al7:=G64.q {merge:=mg [(1,2)]} func274 mT
def anY:=al7.q {} func395 FE [ld [0,3,4] [] [3,4] @uf,ld [0,3,4,5] [] [3,5] @pV [(.exit 2,[3,5])]]
def al9:=anY.q {} func276 xE
def akk:=al9.q {} func152 uR
def amz:=akk.q {mv:=[23,27]} func309 zg [ld [3,4] [0] [3,4] @nV]
def amA:=amz.q {merge:=mg [(2,17),(5,31)],mv:=[18,32,87,91]} func310 FG [ld [1,2,5,6,7] [] [5,7] @zv]
def akJ:=amA.q {} func184 uV
def anZ:=akJ.q {sb:=mg [(4,4)]} func403 zn
def an0:=anZ.q {merge:=mg [(2,22),(6,56)],sb:=mg [(5,5)]} func404 Bo
def an1:=an0.q {merge:=mg [(3,20),(9,44),(12,68)]} func405 qD
def amd:=an1.q {merge:=mg [(2,20)]} func287 iD
def aop:=amd.q {merge:=mg [(2,25),(7,50),(12,69)],mv:=[26,57,70],sb:=mg [(9,9)]} func429 xC [ld [2,7,8,9,10,11] [0,5] [11,7] @mF [(.exit 0,[11,7]),(.ret,[8,10,11,7,9])]]
def aoJ:=aop.q {merge:=mg [(4,24)]} func449 zt [ld [2,3] [0] [3] @sJ [(.exit 0,[3]),(.ret,[2,3])]]
def ano:=aoJ.q {merge:=mg [(2,33)],mv:=[63,67],sb:=mg [(9,9)]} func359 kj [ld [2,6,7,8] [0] [7,8] @kD [(.exit 0,[7,8]),(.ret,[6,7,8])]]
def apo:=ano.q {} func493 Bu [ld [4,5] [0,1] [5] @ve [(.exit 0,[5]),(.ret,[4,5])]]
def aoq:=apo.q {merge:=mg [(6,46)],mv:=[15,48]} func430 oT [ld [6,7] [0] [6,7] @lC]
def aor:=aoq.q {} func431 qx [ld [2,8,9,10,11] [0,3,5] [10,11] @mB [(.exit 0,[10,11]),(.ret,[8,9,10,11])]]
def aoI:=aor.q {} func448 xF
def anj:=aoI.q {} func354 mU
def aos:=anj.q {merge:=mg [(2,36),(7,61),(12,98)]} func432 zb
def amI:=aos.q {merge:=mg [(2,31),(6,55),(11,85)],mv:=[33,57,87],sb:=mg [(8,8)]} func318 qE
abbrev ahL:SD:=⟨gq (Uu di)::B::DI::B::B::.ptr 5 0::B::.ptr 7 0::.ptr 8 0::gq (K3 110592 .str)::DI::DI::gq (K3 147456 .str)::DI::DI::bs 29 [],zs 5 ((zsm (Uu .str))::Z::(some Y0)::(some Y0)::zs 35 []),.none⟩
abbrev aaZ:SD:=⟨gq (Uu di)::B::DI::B::B::.ptr 5 0::B::.ptr 7 0::.ptr 8 0::gq (K3 110592 .str)::DI::DI::gq (.sl .loc .str)::DI::DI::bs 29 [],zs 5 ((zsm (Uu .str))::Z::(some Y0)::(some Y0)::zs 35 []),.none⟩
def akW:=amI.q1 {mask:=mk [(4,[0,2,5,7,8,9,10,11,12,13,14])],mv:=[31,35]} func197 [pd (.sl di),pf (.sl .str),pI,pf L1] [(true,Y0),(false,(.sl (.own none) .str)),rI,rI] (c4 sR) ahL (λX K=>nr (λy0 y1 y2 y3 y4 y5 y6 y7=>kr K aaZ ((X.1.1,(X.1.2.1,(y0,(y1,(y2,(y3,(y4,(y5,())))))))),(X.2.1.1,(y6,(y7,()))),())) X.1.1 X.1.2.1 (q2 X) (q3 X) (q4 X) X.2.1.1 X.2.1.2.2.1) (λX=>(q5 X,q6 X,q7 X,X.2.1.2.1)) (λX x=>((z5 (w x.1 (w x.2.1 (u x.2.2.1))) X.1),(z1 (u x.2.2.2) X.2.1),X.2.2))
def akX:=akW.q {merge:=mg [(3,22)],mv:=[23,24,30,39,49,53,55,57,58],sb:=mg [(51,6)]} func198 mz [ld [1,4,6,7,8] [2] [7,8,6] @jM]
def G65:=akX.q {mv:=[15,33,37,51,54,58]} func65 qA
def akY:=G65.q {merge:=mg [(1,11)]} func199 oZ
def amf:=akY.q {} func289 sO [ld [3,4,5] [0] [5] @tt [(.exit 0,[5]),(.ret,[4,5])]]
def akI:=amf.q {merge:=mg [(17,84)],mv:=[16,31,53,60,69,85,139]} func183 Bl
def aot:=akI.q {merge:=mg [(1,12)]} func433 lA
def amJ:=aot.q {merge:=mg [(5,54)],sb:=mg [(8,8),(9,9)]} func319 nq
def amK:=amJ.q {merge:=mg [(1,15)]} func320 ja
def anl:=amK.q {} func356 pX
def aox:=anl.q {merge:=mg [(1,22)],mv:=[26,36,51],mb:=mg [(51,13)],sb:=mg [(10,10),(11,11),(13,13)]} func437 xz
def amM:=aox.q {merge:=mg [(4,32),(6,44)],mv:=[33,35,49,63,68,78,80],mb:=mg [(33,14),(35,15),(78,14),(80,15)],sb:=mg [(10,10),(11,11),(12,12),(18,18),(19,19)]} func322 ug [ld [2,8,10,11,12,14,15,16] [0,9] [16,8,14,15] @nS]
def akZ:=amM.q {merge:=mg [(4,50),(14,102)],mv:=[54,55,106,114,128,130,131],mb:=mg [(54,20),(128,30),(130,20)],sb:=mg [(14,14),(15,15),(16,16)]} func200 nY [ld [2,6,10,14,15,16,19,20,21] [0,8] [19,21,10,20] @mD]
def ak0:=akZ.q {} func201 Ab
def G66:=ak0.q {merge:=mg [(3,25)],mv:=[26,66,85,87,88,90,100,102,124],sb:=mg [(11,11),(12,12),(13,13)]} func66 sH [ld [1,4,6,7,8] [2] [7,8,6] @nn]
def ak1:=G66.q {} func202 uY
def G67:=ak1.q {merge:=mg [(3,15)],mv:=[28]} func67 zk [ld [2,3,4] [1] [4,3] @nX]
def ank:=G67.q {merge:=mg [(2,21)],mv:=[22,37,38]} func355 sQ
def anm:=ank.q {} func357 zx [ld [3,4] [1] [3,4] @sV]
def ann:=anm.q {mv:=[27]} func358 ry [ld [2,3,4,10,12,13] [0,6] [12,13] @qB]
def anq:=ann.q {mv:=[26,36,44],mb:=mg [(44,13)],sb:=mg [(10,10),(11,11),(13,13),(14,14)]} func361 uU [ld [2,8,10,11,12,13,14,15] [0,4,6] [15,13,14] @ln [(.exit 0,[15,13,14]),(.ret,[12,15,10,11,13,14])]]
def alI:=anq.q {merge:=mg [(2,58),(6,102),(27,194)],mv:=[70,134,149,150,169,177,203,206,211,221,222],mb:=mg [(221,22),(222,33)],sb:=mg [(14,14),(15,15)]} func248 uW [ld [2,5,6,14,15,16,17,19,20,21,22,23,24] [0,8,10] [23,24,22] @kl [(.exit 0,[23,24,22]),(.ret,[16,23,24,14,15,22])],ld [2,14,15,19,20,21,22,29,30,31] [0,8,10] [29,31] @km [(.exit 2,[29,31])]]
def ajQ:=alI.q {mv:=[19,20,34,36,38]} func121 zj
def amc:=ajQ.q {merge:=mg [(1,16)]} func286 za
def akm:=amc.q {} func160 xy
def amt:=akm.q {} func303 vL [ld [1,4,5] [0] [5] @xG [(.exit 0,[5]),(.ret,[4,5])]]
def akG:=amt.q {merge:=mg [(1,4)]} func181 Bk
def api:=akG.q {merge:=mg [(1,4)]} func487 AB
def aog:=api.q {merge:=mg [(1,4)]} func420 sK
def amv:=aog.q {merge:=mg [(3,14),(5,39)]} func305 ze [ld [3,5,6] [0] [5,6] @nT]
def amw:=amv.q {} func306 zd
def aoh:=amw.q {merge:=mg [(2,17)]} func421 Bm
def amx:=aoh.q {merge:=mg [(2,18)]} func307 sM
def akH:=amx.q {merge:=mg [(1,17)]} func182 sN
def aoM:=akH.q {} func452 zu
def anr:=aoM.q {merge:=mg [(1,41),(4,84),(6,4)]} func362 xo
def ans:=anr.q {} func363 H4
def ant:=ans.q {} func364 Ho
def alJ:=ant.q {merge:=mg [(1,29),(3,43)],mv:=[52,67,76],mb:=mg [(76,16)],sb:=mg [(14,14),(15,15)]} func249 oX
def ajR:=alJ.q {mv:=[16,36,48,64,71,89,91,107],sb:=mg [(9,9),(10,10)]} func122 sG
def anu:=ajR.q {merge:=mg [(3,20)],mv:=[24,33]} func365 xw [ld [2,6,8,9] [] [9,8] @pC]
def alK:=anu.q {mv:=[4,9]} func250 zA
def alL:=alK.b {mv:=[47,51,65,67,84],mb:=mg [(84,6)],sb:=mg [(6,6),(50,0),(70,0),(71,5)]} func251 xH (t:=(kF (.own none) cK))
def ajS:=alL.q {mv:=[17,25,43,45,46,48,58,60,71,144],mb:=mg [(71,3)],sb:=mg [(5,5),(6,6),(7,7),(81,3)]} func123 xu [ld [2,3,4] [1] [4,3] @qz,ld [2,3,10] [1] [10,3] @oR [(.exit 2,[10,3])],ld [2,3,11] [1] [11,3] @ll [(.exit 4,[11,3])]]
def G36:=ajS.q {merge:=mg [(1,17)],mv:=[24,36,37,58,65]} func36 FF
def G37:=G36.q {} func37 vl
def G49:=G37.q {merge:=mg [(1,6)]} func49 aC
def G74:=G49.q {} func74 tH [ld [2,7,8] [1,6] [8] @Ed [(.exit 0,[8]),(.ret,[2,8])]]
def ak4:=G74.q {merge:=mg [(4,25)]} func210 nH [ld [1,2,6,10,11] [9] [11] @tj [(.exit 0,[11]),(.ret,[6,11])]]
def G75:=ak4.q {merge:=mg [(4,37)]} func75 pj [ld [2,6,7] [0,5] [7] @oD [(.exit 0,[7]),(.ret,[2,7])]]
def G79:=G75.q {merge:=mg [(1,21),(7,43)]} func79 iI [ld [2,3,27,28] [1,26] [3,28] @wu [(.exit 0,[3,28]),(.ret,[2,3,28])]]
def amU:=G79.q {merge:=mg [(1,2)]} func330 tM
def aml:=amU.q {} func295 iJ
def amV:=aml.q {} func331 jg
def ak5:=amV.q {merge:=mg [(1,2)]} func211 jv
def akv:=ak5.q {} func170 fV
def akq:=akv.q {mv:=[7]} func165 iw
def ak6:=akq.q {merge:=mg [(3,21)],mv:=[10,24]} func212 fU
def G76:=ak6.q {merge:=mg [(1,24),(8,50)],mv:=[55]} func76 BF [ld [2,3,4,31,32] [1,30] [3,4,32] @wz [(.exit 0,[3,4,32]),(.ret,[2,3,4,32])]]
def G77:=G76.q {merge:=mg [(4,29),(7,2)]} func77 tF [ld [2,7,8] [1,6] [8] @rO [(.exit 0,[8]),(.ret,[2,8])]]
def ak7:=G77.q {merge:=mg [(1,2)]} func213 oG
def amW:=ak7.q {merge:=mg [(1,18),(5,2),(7,2)]} func332 qU
def amX:=amW.q {merge:=mg [(1,2)]} func333 qY
def ak8:=amX.q {merge:=mg [(1,2)]} func214 gA
def G78:=ak8.q {merge:=mg [(1,42),(5,2)]} func78 xZ
def ak9:=G78.q {merge:=mg [(1,2)]} func215 Ef
def G80:=ak9.q {merge:=mg [(1,24),(3,2)]} func80 mL
def amY:=G80.q {merge:=mg [(1,33),(3,54),(5,2)]} func334 Da
def ala:=amY.q {} func216 Bb [ld [2,6,7] [0,5] [7] @F6 [(.exit 0,[7]),(.ret,[2,7])]]
def amZ:=ala.q {merge:=mg [(4,23)]} func335 Db [ld [3,4,9,10] [8] [10] @wG [(.exit 0,[10]),(.ret,[4,10])]]
def aoF:=amZ.q {} func445 yC [ld [3,16,17,18] [] [3,18] @nC]
def am0:=aoF.q {mv:=[10,18]} func336 Jm [ld [1,3,4] [] [3,4] @yM]
def alb:=am0.q {merge:=mg [(6,28),(9,40)]} func217 sc [ld [2,13,14] [1,12] [14] @uC [(.exit 0,[14]),(.ret,[2,14])],ld [2,3,13,14,49,50,51] [1,12] [51] @nE [(.exit 2,[51]),(.ret,[2,51])]]
def am1:=alb.q {merge:=mg [(1,2)]} func337 G7
def alc:=am1.q {merge:=mg [(1,22)]} func218 yJ [ld [1,4,25,26] [24] [26] @Ee [(.exit 0,[26]),(.ret,[4,26])]]
def G81:=alc.q {merge:=mg [(1,25),(6,41),(12,59)]} func81 po [ld [1,4,28,29] [2,27] [29] @oI [(.exit 0,[29]),(.ret,[4,29])],ld [1,4,46,47] [45] [47] @nh [(.exit 2,[47]),(.ret,[4,47])]]
def G28:=G81.q {merge:=mg [(2,58),(7,89)]} func28 jt [ld [2,3,61,62] [1] [62] @wi [(.exit 0,[62]),(.ret,[2,62])],ld [2,3,103,104,105] [1] [105] @uy [(.exit 2,[105]),(.ret,[2,105])]]
def aku:=G28.q {} func169 kR
def akn:=aku.q {} func162 dc
def ako:=akn.q {} func163 wB
def amg:=ako.q {mv:=[13,25]} func290 tL [ld [3,8,9] [7] [3,9] @sm]
def akp:=amg.q {sb:=mg [(2,2)]} func164 qV
def akr:=akp.q {mv:=[7]} func166 uE
def amh:=akr.q {} func291 wC
def ami:=amh.q {sb:=mg [(2,2)]} func292 uF
def aks:=ami.q {sb:=mg [(2,2)]} func167 qq
def akt:=aks.q {} func168 kQ
def G48:=akt.q {mv:=[34,75],mb:=mg [(34,3)],sb:=mg [(39,3)]} func48 gR [ld [2,28,29] [1,27] [29,3] @sk [(.exit 0,[29,3])] [(3,.ptr 3 0,some Y1)]]
def aps:=G48.q {merge:=mg [(4,29)]} func496 E2
def apt:=aps.q {merge:=mg [(2,6)]} func497 vz
def aoy:=apt.q {merge:=mg [(1,29),(11,55),(16,73)],mv:=[56,74]} func438 zM [ld [2,3,4,5,12,13,14] [0,7] [3,4,14] @qW [(.exit 0,[3,4,14]),(.ret,[3,4,12,13,14])]]
def aoz:=aoy.q {mv:=[41]} func439 pn [ld [1,2,8] [3] [1,8] @la]
def amO:=aoz.q {} func324 oB [ld [14,31,32] [6] [14,32] @ux [(.exit 0,[14,32])] [(30,.data false (.sl .loc nu),Z)]]
def an2:=amO.q {merge:=mg [(1,11)]} func406 nD
def amj:=an2.q {merge:=mg [(1,20)],sb:=mg [(9,9)]} func293 tK
def anJ:=amj.q {} func380 vx
def aoC:=anJ.q {} func442 cd
def aoP:=aoC.q {merge:=mg [(1,2)]} func456 zI
def aoQ:=aoP.q {} func457 gv
def anB:=aoQ.q {} func372 lR
def aoA:=anB.q {merge:=mg [(1,13)]} func440 eX
def aoB:=aoA.q {merge:=mg [(1,13)]} func441 iz
def an3:=aoB.q {sb:=mg [(4,4)]} func407 ph
def aoO:=an3.q {merge:=mg [(1,17)]} func454 fH
def apf:=aoO.q {merge:=mg [(1,27)]} func484 qn
def apg:=apf.q {} func485 ft
def apK:=apg.q {merge:=mg [(1,12)]} func514 AW
def apF:=apK.q {} func509 yK [ld [0,3,4] [] [3,4] @sa]
def aph:=apF.q {} func486 je
def apA:=aph.q {} func504 sj
def ao7:=apA.q {merge:=mg [(8,39)]} func476 jF
def apJ:=ao7.q {merge:=mg [(1,2)]} func513 Lo
def apB:=apJ.q {} func505 yF
def ao8:=apB.q {} func477 vZ
def apw:=ao8.q {merge:=mg [(1,2)]} func500 B8
def apC:=apw.q {} func506 yL
def ao9:=apC.q {} func478 yw
def alU:=ao9.q {} func261 oq [ld [0,5,10,11] [] [5,11] @wF]
def apa:=alU.q {} func479 AZ
def an4:=apa.q {} func408 gY
def aoY:=an4.q {nest:=[33],mv:=[19,49]} func465 si [ld [1,2,6,8] [] [1,2,8] @nj]
def anP:=aoY.q {mv:=[34,41,50,57],sb:=mg [(14,14)]} func386 G6 [ld [4,12,14,36,37] [] [4,37,14] @zL [(.exit 0,[4,37,14])] [(35,.data false (.sl .loc nu),Z)]]
def an5:=anP.q {} func409 pO
def apD:=an5.q {} func507 zK
def apE:=apD.q {merge:=mg [(1,14)]} func508 wk [ld [0,1,5,6] [] [5,6] @ql]
def apb:=apE.q {merge:=mg [(1,14)]} func480 we [ld [0,1,5,6] [] [5,6] @qg]
def apc:=apb.q {} func481 wg
def an6:=apc.q {} func410 tG
def amP:=an6.q {} func325 nI
def amR:=amP.q {} func327 wE
def apd:=amR.q {merge:=mg [(1,2)]} func482 me
def ape:=apd.q {merge:=mg [(1,12)]} func483 lv
def an7:=ape.q {merge:=mg [(1,22)],mv:=[26,37,41,51],mb:=mg [(41,13),(51,13)],sb:=mg [(10,10),(11,11),(13,13)]} func411 oF
def amk:=an7.v {merge:=mg [(3,50)],sb:=mg [(12,12),(13,13),(20,20)]} func294 wH [(true,(.sl .arg .str)),(true,(.pair (.int .i64) (.pair (.int .i64) (.int .i64)))),(false,.bool)]
def akw:=amk.q {merge:=mg [(1,31)],mv:=[52,66],mb:=mg [(66,16)],sb:=mg [(10,10),(11,11)]} func171 nA
def amp:=akw.q {merge:=mg [(1,9)]} func299 oK
def amm:=amp.q {} func296 yv
def akx:=amm.b {} func172 lg [ld [1,7] [] [7,0] @qp [(.exit 0,[7,0])] [(0,.ptr 0 0,some (sF 1 cK))] .ptr] (t:=(kF (.own none) cK))
def G50:=akx.q {mv:=[10,17,35,49],sb:=mg [(37,3)]} func50 wh [ld [2,3,13,14] [1] [14,3] @qh]
def anF:=G50.q {merge:=mg [(1,2)]} func376 mJ
def apv:=anF.q {} func499 EZ [ld [0,3,4] [] [3,4] @tE,ld [0,3,4,5] [] [3,5] @pN [(.exit 2,[3,5])]]
def aoR:=apv.q {} func458 wA
def apu:=aoR.q {} func498 uw
def aoD:=apu.q {mv:=[21,26]} func443 yB [ld [3,10,11] [9] [3,11] @nB]
def aoE:=aoD.q {merge:=mg [(1,17),(4,30)],mv:=[83,87]} func444 E0 [ld [1,2,5,6,7] [] [6,7] @yI]
def amT:=aoE.q {} func329 uA
def aoS:=amT.q {merge:=mg [(4,33)],sb:=mg [(4,4)]} func459 tI
def aoT:=aoS.q {merge:=mg [(2,22),(6,56)],sb:=mg [(5,5)]} func460 Ba
def aoU:=aoT.q {merge:=mg [(3,20),(9,44),(12,68)]} func461 qm
def anE:=aoU.q {merge:=mg [(2,20)]} func375 iA
def an8:=anE.q {merge:=mg [(1,24),(15,67)],mv:=[55,68],sb:=mg [(9,9)]} func412 wy [ld [2,7,8,9,10,11,12] [0,5] [12,7] @mi [(.exit 0,[12,7]),(.ret,[8,10,12,7,9])]]
def adi:=an8.q {merge:=mg [(4,19)]} func455 yG [ld [2,6,7] [0,5] [7] @rU [(.exit 0,[7]),(.ret,[2,7])]]
def apR:Ai:=I8 [pd (.sl nu),pI,pI] [(false,(.sl (.own none) xP))] [(false,(.sl .nil xP))] rfl λa=>iG a.1 a.2.1 a.2.2.1
def aik:An:={mask:=mk [(5,[0,2,7,30,31,32]),(13,[6,7,54,55,56])],merge:=mg [(1,25)],nils:=[6],mv:=[49,64]}
abbrev SM:SD:=⟨gq (Uu nu)::B::DI::bs 4 (gq (K3 86016 xP)::bs 22 (gq (Uu nu)::DI::DI::bs 32 [])),zs 65 [],.none⟩
def afL (X:SD.D SM)(K:ZK R):=ky (λy0 y1=>ke 0 K SM ((z2 (w y0 (z2 (u y1))) X.1),X.2)) X.1.1 X.1.2.1 (q3 X) (q4 X)
abbrev Ni:SD:=⟨bs 7 (gq (K3 86016 xP)::bs 46 (gq (.sl .loc xP)::DI::DI::bs 8 [])),zs 65 [],.none⟩
abbrev XG:SD:=⟨bs 6 (gq (.sl .nil xP)::gq (K3 86016 xP)::bs 46 (gq (.sl .loc xP)::DI::DI::bs 8 [])),zs 65 [],.none⟩
def aaH (X:SD.D Ni)(K:ZK R):=jH (λy0=>ke 2 K Ni ((z3 (u y0) X.1),X.2)) (λy0 y1=>kr K XG ((y0,(X.1.1,(X.1.2.1,(X.1.2.2.1,(y1,()))))),(),())) X.1.1 X.1.2.1 (q2 X)
def ahD:Gs:=(Gs.nil.add 5 (mkl SM afL (λX=>(q2 X,q5 X)))).add 13 (mkl Ni aaH q3)
theorem aii:Xk E adi.g aik ahD (gj f371 0):=lk SM afL (λX=>(q2 X,q5 X)) λX x=>((z2 (w x.1 (z2 (u x.2))) X.1),X.2)
theorem agC:Xk E adi.g aik ahD (gj f371 1):=lk Ni aaH q3 λX x=>((z3 (u x) X.1),X.2)
theorem aqv:zfo 371 apR:=kV.ofAlt (adT (Γ:=adi.g) (an:=aik) (Λ:=ahD) (by rfl) (adi.s) func371 (by kernel_rfl) (ao (cF aii (cF agC nF)))) (λa=>by kernel_rfl)
def ahC:=adi.add aqv
def ail:An:={mask:=mk [(5,[0,6,18,19,20]),(14,[0,2,3,4,5,6,9,10,11,51,52])],mv:=[24,65]}
abbrev SN:SD:=⟨gq (Uu xP)::bs 5 (gq (K3 73728 nu)::bs 11 (gq (Uu xP)::DI::DI::bs 47 [])),zs 68 [],.none⟩
def afM (X:SD.D SN)(K:ZK R):=ly (λy0 y1=>ke 0 K SN ((z1 (w y0 (z2 (u y1))) X.1),X.2)) X.1.1 (q2 X) (q3 X)
abbrev Nj:SD:=⟨gq (Uu xP)::bs 5 (gq (K3 73728 nu)::B::B::DI::DI::gq (K3 135168 xP)::bs 39 (DI::DI::bs 15 [])),zs 68 [],.none⟩
abbrev XH:SD:=⟨gq (Uu xP)::B::gq (K3 24576 nu)::DI::DI::DB::gq (K3 73728 nu)::B::B::DI::DI::gq (K3 135168 xP)::bs 39 (DI::DI::bs 15 []),zs 68 [],.none⟩
def aaI (X:SD.D Nj)(K:ZK R):=gz (λy0=>ke 2 K Nj ((z6 (u y0) X.1),X.2)) (λy0 y1 y2 y3 y4=>kr K XH ((X.1.1,(y0,(y1,(y2,(y3,(X.1.2.1,(X.1.2.2.1,(X.1.2.2.2.1,(X.1.2.2.2.2.1,(X.1.2.2.2.2.2.1,(y4,()))))))))))),(),())) X.1.1 X.1.2.1 (q2 X) (q3 X) (q4 X) (q5 X)
def aiF:Gs:=(Gs.nil.add 5 (mkl SN afM (λX=>(X.1.2.1,q4 X)))).add 14 (mkl Nj aaI q6)
theorem aij:Xk E ahC.g ail aiF (gj f413 0):=lk SN afM (λX=>(X.1.2.1,q4 X)) λX x=>((z1 (w x.1 (z2 (u x.2))) X.1),X.2)
theorem agD:Xk E ahC.g ail aiF (gj f413 1):=lk Nj aaI q6 λX x=>((z6 (u x) X.1),X.2)
def an9:=ahC.qk ail func413 [pd (.sl xP)] [(false,(.sl (.own none) nu)),rI,rI,rB] (c1 oE) (cF aij (cF agD nF))
def aoa:=an9.q {} func414 qf [ld [2,8,9,10,19,20] [0,5,18] [10,20] @mf [(.exit 0,[10,20]),(.ret,[8,9,10,20])]]
def aoN:=aoa.q {} func453 qZ
def anv:=aoN.q {} func366 mK
def aob:=anv.q {merge:=mg [(3,38),(9,74),(12,84),(17,117)]} func415 yy
def amn:=aob.q {merge:=mg [(1,28)],sb:=mg [(8,8)]} func297 qo
abbrev ahK:SD:=⟨gq (Uu di)::B::DI::B::B::.ptr 5 0::B::.ptr 7 0::.ptr 8 0::gq (K3 110592 .str)::DI::DI::gq (K3 147456 .str)::DI::DI::bs 30 [],zs 5 ((zsm (Uu .str))::Z::(some Y0)::(some Y0)::zs 36 []),.none⟩
abbrev aaY:SD:=⟨gq (Uu di)::B::DI::B::B::.ptr 5 0::B::.ptr 7 0::.ptr 8 0::gq (K3 110592 .str)::DI::DI::gq (.sl .loc .str)::DI::DI::bs 30 [],zs 5 ((zsm (Uu .str))::Z::(some Y0)::(some Y0)::zs 36 []),.none⟩
def aky:=amn.q1 {mask:=mk [(3,[0,2,5,7,8,9,10,11,12,13,14])],mv:=[35,42]} func173 [pd (.sl di),pf (.sl .str),pI,pf L1] [(true,Y0),(false,(.sl (.own none) .str)),rI,rI] (c4 sf) ahK (λX K=>ni (λy0 y1 y2 y3 y4 y5 y6 y7=>kr K aaY ((X.1.1,(X.1.2.1,(y0,(y1,(y2,(y3,(y4,(y5,())))))))),(X.2.1.1,(y6,(y7,()))),())) X.1.1 X.1.2.1 (q2 X) (q3 X) (q4 X) X.2.1.1 X.2.1.2.2.1) (λX=>(q5 X,q6 X,q7 X,X.2.1.2.1)) (λX x=>((z5 (w x.1 (w x.2.1 (u x.2.2.1))) X.1),(z1 (u x.2.2.2) X.2.1),X.2.2))
def akz:=aky.q {merge:=mg [(2,22)],mv:=[23,34,43,55,56]} func174 md [ld [1,4,6,7,29,30] [2,28] [7,30,6] @jG]
def G51:=akz.q {mv:=[15,33,37,51,54,58]} func51 qj
def akA:=G51.q {merge:=mg [(1,11)]} func175 oJ
def amQ:=akA.q {} func326 lu
def ak2:=amQ.q {merge:=mg [(7,46)],sb:=mg [(8,8),(9,9)]} func203 ng
def anQ:=ak2.q {merge:=mg [(1,15)]} func387 fN
def anw:=anQ.q {} func367 tJ
def anR:=anw.q {merge:=mg [(1,22)],mv:=[26,36,40,50],mb:=mg [(40,13),(50,13)],sb:=mg [(10,10),(11,11),(13,13)]} func388 wx
def alW:=anR.q {merge:=mg [(2,34)],mv:=[35,37,53,65,76,78],mb:=mg [(35,14),(37,15),(65,20),(76,14),(78,15)],sb:=mg [(8,8),(10,10),(11,11),(12,12),(14,14),(15,15)]} func263 jf [ld [2,8,10,11,12,14,15,16,40,41] [0,9,39] [16,41,8,14] @nz]
def ak3:=alW.q {} func204 rZ [ld [3,4,8,9] [7] [9] @ti [(.exit 0,[9]),(.ret,[4,9])]]
def amS:=ak3.q {merge:=mg [(17,82)],mv:=[16,31,51,58,67,83,132],er:=mg [(115,5)]} func328 AX
def amo:=amS.q {merge:=mg [(2,48)],mv:=[49,51,52,96,104,117,119,120],mb:=mg [(49,19),(51,20),(117,19),(119,20)],sb:=mg [(14,14),(15,15),(16,16),(19,19),(20,20)]} func298 wq [ld [2,6,10,14,15,16,19,20,21,22] [0] [21,22,10,20] @mh]
def akB:=amo.b {mv:=[8,49,51,52],sb:=mg [(55,0),(59,0)],fm:=[19,20],eb:=mg [(56,0),(57,0)]} func176 kI (t:=(kF (.own none) cK))
def akC:=akB.q {} func177 zJ
def G52:=akC.q {merge:=mg [(2,21)],mv:=[22,78]} func52 rR [ld [1,4,6,7,25,26] [] [7,26,6] @nf]
def akD:=G52.q {} func178 uD
def G53:=akD.q {mv:=[10,28]} func53 yE [ld [2,3,13,14] [] [14,3] @rT]
def G73:=G53.q {merge:=mg [(1,12),(3,31),(5,2)]} func73 EY
def anx:=G73.q {} func368 qs [ld [3,8,9] [7] [3,9] @mj]
def anz:=anx.q {merge:=mg [(2,20)],mv:=[21,28],mb:=mg [(28,7)],sb:=mg [(4,4)]} func369 se
def afU:=anz.q {} func259 ju
def apQ:Ai:=I8 [pd (.sl di),pf (.sl .str),pI,pf fX,pd (.sl (.int .i64)),pd .str,pI] [(true,(.sl (.own none) .str)),(false,(.sl (.own none) nu)),rB] [(true,(.sl .arg .str)),(false,(.sl (.own none) nu)),rB] rfl λa=>nG a.1 a.2.1 a.2.2.1 a.2.2.2.1 a.2.2.2.2.1 a.2.2.2.2.2.1 a.2.2.2.2.2.2.1
def ajl:An:={mask:=mk [(3,[0,2,5,6,8,10,14,15,16,17,24,25,26])],peel:=[3],mv:=[40,49,53,54,55,65,66],sb:=mg [(21,21)]}
abbrev SL:SD:=⟨gq (Uu di)::B::DI::B::B::gq .str::DI::B::.ptr 8 0::B::.ptr 10 0::B::B::B::.ptr 14 0::gq (K3 184320 nu)::DB::gq (K3 208896 nu)::bs 6 (gq (Uu (.int .i64))::DI::DI::bs 40 []),zs 8 ((zsm (K3 98305 .str))::Z::(some Y2)::Z::Z::Z::(zsm (K3 172033 .str))::zs 52 []),.none⟩
abbrev aa0:SD:=⟨gq (Uu di)::B::DI::B::B::gq .str::DI::B::.ptr 8 0::B::.ptr 10 0::B::B::B::.ptr 14 0::gq (K3 184320 nu)::DB::gq (K3 208896 nu)::bs 6 (gq (Uu (.int .i64))::DI::DI::bs 40 []),zs 8 ((zsm (.sl .loc .str))::Z::(some Y2)::Z::Z::Z::(zsm (K3 172033 .str))::zs 52 []),.none⟩
def afK (X:SD.D SL)(K:ZK R):=kf (λy0 y1 y2 y3=>ke 0 K SL ((z2 (w y0 (z3 (w y1 (z2 (u y2))))) X.1),(u y3 X.2.1),X.2.2)) (λy0 y1 y2 y3 y4 y5 y6=>kr K aa0 ((X.1.1,(X.1.2.1,(y0,(X.1.2.2.2.1,(y1,(y2,(y3,(X.1.2.2.2.2.2.2.2.1,(X.1.2.2.2.2.2.2.2.2.1,(y4,())))))))))),(y5,(X.2.1.2.1,(y6,()))),())) X.1.1 X.1.2.1 (q3 X) (q4 X) (q5 X) (q7 X) (q8 X) X.2.1.2.1 X.2.1.2.2.1
def aiE:Gs:=Gs.nil.add 3 (mkl SL afK (λX=>(q2 X,q6 X,q9 X,X.2.1.1)))
theorem aih:Xk E afU.g ajl aiE (gj f370 0):=lk SL afK (λX=>(q2 X,q6 X,q9 X,X.2.1.1)) λX x=>((z2 (w x.1 (z3 (w x.2.1 (z2 (u x.2.2.1))))) X.1),(u x.2.2.2 X.2.1),X.2.2)
theorem aqu:zfo 370 apQ:=kV.ofAlt (adT (Γ:=afU.g) (an:=ajl) (Λ:=aiE) (by rfl) (afU.s) func370 (by kernel_rfl) (ao (cF aih nF))) (λa=>by kernel_rfl)
def anA:=afU.add aqu
def anC:=anA.q {mv:=[27,43],mb:=mg [(43,13)],sb:=mg [(10,10),(11,11),(13,13),(14,14)]} func373 jT [ld [2,8,10,11,12,13,14,22,23] [0,6,21] [23,13,14] @lf [(.exit 0,[23,13,14]),(.ret,[12,23,10,11,13,14])]]
def alN:=anC.q {merge:=mg [(2,57),(6,92),(15,135)],mv:=[58,59,93,94,97,107,108,109,122,123,136,137,145,151,164,165,169,174,184,185],mb:=mg [(58,17),(59,18),(93,17),(94,18),(107,17),(108,18),(136,17),(137,18),(164,17),(165,18),(184,26),(185,22)],sb:=mg [(14,14),(15,15),(17,17),(18,18),(26,26)]} func253 uB [ld [2,14,15,17,18,22,24,28,29,140,141] [0,10] [29,141] @fZ [(.exit 0,[29,141])] [(26,.ptr 26 0,some (.sl .loc .str)),(139,.data false (.sl .loc xP),Z)]]
def ajU:=alN.q {mv:=[19,20,34,36,38]} func125 yD
def anD:=ajU.q {merge:=mg [(2,17)]} func374 yx
def alO:=anD.q {} func254 wv
def anG:=alO.q {} func377 vy [ld [1,4,8,9] [7] [9] @wD [(.exit 0,[9]),(.ret,[4,9])]]
def alP:=anG.q {merge:=mg [(1,4)]} func255 AU
def apx:=alP.q {} func501 pq
def aoV:=apx.q {merge:=mg [(1,4)]} func462 rV
def anH:=aoV.q {merge:=mg [(7,34)]} func378 yA [ld [3,5,12,13] [0,11] [5,13] @rP]
def anI:=anH.q {} func379 yz
def aoW:=anI.q {merge:=mg [(2,17)]} func463 AY
def anK:=aoW.q {merge:=mg [(2,18)]} func381 rX
def alQ:=anK.q {merge:=mg [(1,17)]} func256 rY
def aoX:=alQ.q {} func464 yH
def anL:=aoX.q {merge:=mg [(1,42),(4,76),(6,4)]} func382 wa
def anM:=anL.q {} func383 HP
def anN:=anM.q {} func384 G5
def alR:=anN.q {merge:=mg [(1,30),(3,44)],mv:=[53,68,77],mb:=mg [(77,16)],sb:=mg [(14,14),(15,15)]} func257 oH
def ajV:=alR.q {mv:=[14,34,46,62,69,90,103],sb:=mg [(92,5)]} func126 rQ
def anO:=ajV.q {mv:=[24,29]} func385 wo [ld [2,6,8,9] [] [9,8] @uz]
def alS:=anO.q {mv:=[3,8]} func258 E1
def alT:=alS.q {} func260 qX
def alV:=alT.q {mv:=[10,24],mb:=mg [(24,5)],sb:=mg [(2,2),(3,3)]} func262 ya
def ajW:=alV.q {mv:=[18,37,88,98,121,142],sb:=mg [(90,3)]} func127 wj [ld [2,3,21,22] [] [22,3] @qi,ld [2,3,31,32] [] [32,3] @oC [(.exit 2,[32,3])] [(30,.data false (.sl .loc kH),Z)],ld [2,3,54,55] [] [55,3] @kZ [(.exit 4,[55,3])]]
def G38:=ajW.q {merge:=mg [(1,15)],mv:=[22,34,35]} func38 B7
def G43:=G38.i {} func43 gU [ld [1,5] [] [0,1,5,19] @nK [(.exit 0,[0,1,5,19])] [(0,.data false (.sl (.lio 0 12288036864) (.int .i64)),Z)] (.some (.sl (.own (some 12288036864)) (.int .i64)))]
def akj:=G43.q {} func150 cJ [ld [0,3] [] [0,3] @su]
def aj7:=akj.i {} func138 sr [ld [1,5] [] [0,1,5,20] @kh [(.exit 0,[0,1,5,20])] [(0,.data false (.sl (.lio 0 12288036864) .str),Z)] (.some (.sl (.own (some 12288036864)) .str))]
def ajX:=aj7.i {} func128 uM
def ajY:=ajX.i {} func129 wS [ld [1,5] [] [0,1,5,43] @ri [(.exit 0,[0,1,5,43])] [(0,.data false (.sl (.lio 0 12288036864) di),Z)] (.some (.sl (.own (some 12288036864)) di))]
def alX:=ajY.i {} func264 yS
def alY:=alX.i {nest:=[30]} func265 Cn [ld [1,5] [] [0,1,5,34] @wW [(.exit 0,[0,1,5,34])] [(0,.data false (.sl (.lio 0 12288036864) kH),Z)] (.some (.sl (.own (some 12288036864)) kH))]
def ajZ:=alY.i {} func130 sv
def aj0:=ajZ.i {} func131 wV [ld [1,5] [] [0,1,5,278] @rj [(.exit 0,[0,1,5,278])] [(0,.data false (.sl (.lio 0 12288036864) cW),Z)] (.some (.sl (.own (some 12288036864)) cW))]
def aj1:=aj0.i {nest:=[37]} func132 Cl [ld [1,5] [] [0,1,5,41] @wT [(.exit 0,[0,1,5,41])] [(0,.data false (.sl (.lio 0 12288036864) fX),Z)] (.some (.sl (.own (some 12288036864)) fX))]
def aj2:=aj1.i {} func133 yf [ld [1,5] [] [0,1,5,59] @tq [(.exit 0,[0,1,5,59])] [(0,.data false (.sl (.lio 0 12288036864) fw),Z)] (.some (.sl (.own (some 12288036864)) fw))]
def aj3:=aj2.i {} func134 Ck [ld [1,5] [] [0,1,5,21] @mm [(.exit 0,[0,1,5,21])] [(0,.data false (.sl (.lio 0 12288036864) .bool),Z)] (.some (.sl (.own (some 12288036864)) .bool))]
def aj4:=aj3.i {} func135 uL
def alZ:=aj4.i {} func266 Cm [ld [1,5] [] [0,1,5,76] @wU [(.exit 0,[0,1,5,76])] [(0,.data false (.sl (.lio 0 12288036864) qe),Z)] (.some (.sl (.own (some 12288036864)) qe))]
def anS:=alZ.i {} func389 Co [ld [1,5] [] [0,1,5,67] @wX [(.exit 0,[0,1,5,67])] [(0,.data false (.sl (.lio 0 12288036864) kW),Z)] (.some (.sl (.own (some 12288036864)) kW))]
def al0:=anS.i {} func267 oM
def al1:=al0.i {} func268 uN
def aj5:=al1.i {} func136 qu
def aj6:=aj5.i {} func137 ye [ld [1,5] [] [0,1,5,77] @tp [(.exit 0,[0,1,5,77])] [(0,.data false (.sl (.lio 0 12288036864) dE),Z)] (.some (.sl (.own (some 12288036864)) dE))]
def G39:=aj6.i {} func39 tP
def G44:=G39.q {} func44 gT [ld [1,4,5] [0] [1,5] @nJ [(.exit 0,[1,5]),(.ret,[1,4,5])]]
def aki:=G44.q {} func149 so [ld [1,4,5] [0] [1,5] @kg [(.exit 0,[1,5]),(.ret,[1,4,5])]]
def aj8:=aki.q {} func139 uJ
def aj9:=aj8.q {} func140 wM [ld [1,4,5] [0] [1,5] @rf [(.exit 0,[1,5]),(.ret,[1,4,5])]]
def al2:=aj9.q {} func269 yR
def al3:=al2.q {} func270 Ci [ld [1,4,5] [0] [1,5] @wQ [(.exit 0,[1,5]),(.ret,[1,4,5])]]
def aka:=al3.q {} func141 sq
def akb:=aka.q {} func142 wP [ld [1,4,5] [0] [1,5] @rh [(.exit 0,[1,5]),(.ret,[1,4,5])]]
def akc:=akb.q {} func143 Cg [ld [1,4,5] [0] [1,5] @wN [(.exit 0,[1,5]),(.ret,[1,4,5])]]
def akd:=akc.q {} func144 yd [ld [1,4,5] [0] [1,5] @tn [(.exit 0,[1,5]),(.ret,[1,4,5])]]
def ake:=akd.q {} func145 Cf [ld [1,4,5] [0] [1,5] @ml [(.exit 0,[1,5]),(.ret,[1,4,5])]]
def akf:=ake.q {} func146 uI
def al4:=akf.q {} func271 Ch [ld [1,4,5] [0] [1,5] @wO [(.exit 0,[1,5]),(.ret,[1,4,5])]]
def anT:=al4.q {} func390 Cj [ld [1,4,5] [0] [1,5] @wR [(.exit 0,[1,5]),(.ret,[1,4,5])]]
def al5:=anT.q {} func272 oL
def al6:=al5.q {} func273 uK
def akg:=al6.q {} func147 qt
def akh:=akg.q {} func148 yc [ld [1,4,5] [0] [1,5] @tk [(.exit 0,[1,5]),(.ret,[1,4,5])]]
def G40:=akh.q {} func40 pP
abbrev tr:ar PS:=[pf cK,pf Sx]
def AG:Ai:=Q5 tr [rB] (c2 wI)
theorem Ik:zfo 6 AG:=f0 {merge:=mg [(11,51),(17,72),(28,100)],mv:=[26,32,36,41,90],sb:=mg [(6,6),(9,9),(14,14)]} G40.s func6
end
end Go.Proofs.YtfbhfnniblfpbaaGreat.Fn
