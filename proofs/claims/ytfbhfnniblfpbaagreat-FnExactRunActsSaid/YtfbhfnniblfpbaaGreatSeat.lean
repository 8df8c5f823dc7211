import Derived.Test.YtfbhfnniblfpbaaGreatDnSig
import Derived.Test.YtfbhfnniblfpbaaGreatPure
import Derived.Test.YtfbhfnniblfpbaaGreatRows
/- Each function of the program is its pure function (made by gen.py). -/
namespace Go.Proofs.YtfbhfnniblfpbaaGreat.Fn
open Go.Dn
open Go.Pu Go.Proofs.Tryz
set_option maxRecDepth 100000
set_option linter.unusedVariables false
noncomputable section
variable {Λ:GD} {P:Program} {A0 A1 A2 A3 A4 A5 A6 C R σ:Type} {A:Type->Type} {rs:aq (Bool×FT)} {s:aq PS}
abbrev Z5 (R:Type):=Ex->AS->Option R
abbrev zit:FT:=.int .i64
abbrev Qx (a b:FT):FT:=.pair a b
abbrev zpi (b:FT):FT:=.pair (.int .i64) b
abbrev Lm (n:Nat)(t:CT):FT:=.sl (.own (some n)) t
abbrev zsm (t:FT):Option FT:=some t
abbrev gr (t:FT):PD:=.data false t
abbrev jF (t:FT):PD:=.data true t
abbrev UP (t:CT):FT:=.sl .arg t
abbrev zfo:=kX Tryz.prog
abbrev B:PD:=.bot
abbrev DI:PD:=.data false (.int .i64)
abbrev DB:PD:=.data false .bool
abbrev Z:au FT:=none
theorem nF {p:Code->Prop}:∀x∈([]:aq Code),p x:=λ_ h=>nomatch h
theorem cF {p:Code->Prop}{a:Code}{l:aq Code}(h:p a)(t:∀x∈l,p x):∀x∈a::l,p x:=List.forall_mem_cons.2 ⟨h,t⟩
theorem hF {p:Code->Prop}{l m:aq Code}(e:l=m)(h:∀x∈m,p x):∀x∈l,p x:=e▸h
theorem fk {E:Env}{Γ:xV}{F:BV s->au (iu rs)}{f:Nat}{fn:Func}(an:An)(hS:Sound P E Γ)(hf:P.funcs[f]?=some fn){l:aq Code}(h:∀c∈l,XJ E Γ an Λ c)(hn:(fn.name== "runtime.NumGoroutine")=false:=by kernel_rfl)(hl:iq (fn.body.getD .skip)=l:=by kernel_rfl)(eh:an.cut=[]:=by kernel_rfl)(hF:∀a,GZ E Γ an Λ fn rs (iy s a)=F a:=by intro a;kernel_rfl):kX P f (Rp s rs F):=kX.of (abu hS hf hn (AM.of (Fn.hF hl h) eh)) hF
theorem ao {E:Env}{Γ:xV}{an:An}{b:Code}{l:aq Code}(h:∀c∈l,XJ E Γ an Λ c)(hl:iq b=l:=by kernel_rfl)(hc:an.cut=[]:=by kernel_rfl):AM E Γ an Λ b:=AM.of (Fn.hF hl h) hc
theorem ac {E:Env}{Γ:xV}{an:An}{b:Code}{l m:aq Code}(h:∀c∈l,XJ E Γ an Λ c)(hc:∀c∈m,COk E Γ an Λ c)(hl:iq b=l:=by kernel_rfl)(hm:kA an.cut b=m:=by kernel_rfl):AM E Γ an Λ b:=⟨Fn.hF hl h,Fn.hF hm hc⟩
theorem fc {E:Env}{Γ:xV}{F:BV s->au (iu rs)}{f:Nat}{fn:Func}(an:An)(hS:Sound P E Γ)(hf:P.funcs[f]?=some fn){l m:aq Code}(h:∀c∈l,XJ E Γ an Λ c)(hc:∀c∈m,COk E Γ an Λ c)(hn:(fn.name== "runtime.NumGoroutine")=false:=by kernel_rfl)(hl:iq (fn.body.getD .skip)=l:=by kernel_rfl)(hm:kA an.cut (fn.body.getD .skip)=m:=by kernel_rfl)(hF:∀a,GZ E Γ an Λ fn rs (iy s a)=F a:=by intro a;kernel_rfl):kX P f (Rp s rs F):=kX.of (abu hS hf hn ⟨Fn.hF hl h,Fn.hF hm hc⟩) hF
abbrev pd (t:CT):PS:=.data false t
abbrev pf (t:CT):PS:=.data true t
abbrev pI:PS:=.data false (.int .i64)
abbrev rB:Bool×FT:=(false,.bool)
abbrev rI:Bool×FT:=(false,.int .i64)
abbrev rS:Bool×FT:=(false,.str)
abbrev bs:Nat->aq PD->aq PD
 |0,l=>l
 |n+1,l=> .bot::bs n l
abbrev zs:Nat->aq (au FT)->aq (au FT)
 |0,l=>l
 |n+1,l=>none::zs n l
def mk (l:aq (Nat×dX))(n:Nat):dX:=(l.lookup n).getD []
def mg (l:aq (Nat×Nat))(n:Nat):au Nat:=l.lookup n
def ke (n:Nat)(K:Z5 R)(d:SD)(x:SD.D d):au R:=K (.exit n) (SD.enc d x)
def kn (K:Z5 R)(d:SD)(x:SD.D d):au R:=K .normal (SD.enc d x)
def kr (K:Z5 R)(d:SD)(x:SD.D d):au R:=K .ret (SD.enc d x)
def mkl (d:SD)(t:{R:Type}->SD.D d->(Ex->AS->au R)->(σ->au R)->σ->au R)(i:SD.D d->σ):Lo:=⟨d,λX K=>aI (t X K) fuel (i X)⟩
theorem lk {E:Env}{Γ:xV}{an:An}{c:Code}(d:SD)(t:{R:Type}->SD.D d->(Ex->AS->au R)->(σ->au R)->σ->au R)(i:SD.D d->σ)(w:SD.D d->σ->SD.D d)(h1:Λ (dz c)=mkl d t i:=by kernel_rfl)(h:∀(R:Type)(X:SD.D d)(K:Z5 R)(m:Nat)(x:σ),AU (an.mask (dz c)) (den E Γ an Λ c) (m+1) (SD.enc d (w X x)) K=t X K (λy=>AU (an.mask (dz c)) (den E Γ an Λ c) m (SD.enc d (w X y)) K) x:=by intro R X K m x;kernel_rfl)(hw:∀X,w X (i X)=X:=by intro X;kernel_rfl):XJ E Γ an Λ c:=lok (mkl d t i) h1 fuel λR X K=>(R3 (λx=>SD.enc d (w X x)) (t X K) (h R X K) fuel (i X)).symm.trans (congrArg (λy=>AU (an.mask (dz c)) (den E Γ an Λ c) fuel (SD.enc d y) K) (hw X))
def mkc (d:SD)(t:{R:Type}->SD.D d->(Ex->AS->au R)->au R):Lo:=⟨d,λX K=>t X K⟩
theorem ck {E:Env}{Γ:xV}{an:An}{c:Code}(d:SD)(t:{R:Type}->SD.D d->(Ex->AS->au R)->au R)(h1:Λ (yb c)=mkc d t:=by kernel_rfl)(h:∀(R:Type)(X:SD.D d)(K:Z5 R),t X K=den E Γ an Λ c (SD.enc d X) (λe st'=>K e (st'.mask (an.mask (yb c+1)))):=by intro R X K;kernel_rfl):COk E Γ an Λ c:=cok (mkc d t) h1 h
def u {A B:Type}(y:A)(x:A×B):A×B:=(y,x.2)
def w {A B:Type}(y:A)(f:B->B)(x:A×B):A×B:=(y,f x.2)
def z1 {B:Type}(f:B->B)(x:A0×B):A0×B:=(x.1,f x.2)
def z2 {B:Type}(f:B->B)(x:A0×A1×B):A0×A1×B:=(x.1,x.2.1,f x.2.2)
def z3 {B:Type}(f:B->B)(x:A0×A1×A2×B):A0×A1×A2×B:=(x.1,x.2.1,x.2.2.1,f x.2.2.2)
def z5 {B:Type}(f:B->B)(x:A0×A1×A2×A3×A4×B):A0×A1×A2×A3×A4×B:=(x.1,x.2.1,x.2.2.1,x.2.2.2.1,x.2.2.2.2.1,f x.2.2.2.2.2)
def z6 {B:Type}(f:B->B)(x:A0×A1×A2×A3×A4×A5×B):A0×A1×A2×A3×A4×A5×B:=(x.1,x.2.1,x.2.2.1,x.2.2.2.1,x.2.2.2.2.1,x.2.2.2.2.2.1,f x.2.2.2.2.2.2)
def q2 {B:Type}(x:(A0×A1×A2×B)×C):A2:=x.1.2.2.1
def q3 {B:Type}(x:(A0×A1×A2×A3×B)×C):A3:=x.1.2.2.2.1
def q4 {B:Type}(x:(A0×A1×A2×A3×A4×B)×C):A4:=x.1.2.2.2.2.1
def q5 {B:Type}(x:(A0×A1×A2×A3×A4×A5×B)×C):A5:=x.1.2.2.2.2.2.1
def q6 {B:Type}(x:(A0×A1×A2×A3×A4×A5×A6×B)×C):A6:=x.1.2.2.2.2.2.2.1
def q7 {A7 B:Type}(x:(A0×A1×A2×A3×A4×A5×A6×A7×B)×C):A7:=x.1.2.2.2.2.2.2.2.1
def q8 {A7 A8 B:Type}(x:(A0×A1×A2×A3×A4×A5×A6×A7×A8×B)×C):A8:=x.1.2.2.2.2.2.2.2.2.1
def q9 {A7 A8 A9 B:Type}(x:(A0×A1×A2×A3×A4×A5×A6×A7×A8×A9×B)×C):A9:=x.1.2.2.2.2.2.2.2.2.2.1
def c1 {B:Type}(f:A0->R)(a:A0×B):R:=f a.1
def c2 {B:Type}(f:A0->A1->R)(a:A0×A1×B):R:=f a.1 a.2.1
def c4 {B:Type}(f:A0->A1->A2->A3->R)(a:A0×A1×A2×A3×B):R:=f a.1 a.2.1 a.2.2.1 a.2.2.2.1
theorem f0 {E:Env}{Γ:xV}{F:BV s->au (iu rs)}{f:Nat}{fn:Func}(an:An)(hS:Sound P E Γ)(hf:P.funcs[f]?=some fn)(hn:(fn.name== "runtime.NumGoroutine")=false:=by kernel_rfl)(hl:iq (fn.body.getD .skip)=[]:=by kernel_rfl)(eh:an.cut=[]:=by rfl)(hF:∀a,GZ E Γ an GD.nil fn rs (iy s a)=F a:=by intro a;kernel_rfl):kX P f (Rp s rs F):=kX.of (abu hS hf hn (AM.of (Fn.hF hl nF) eh)) hF
abbrev Y0:FT:=zpi (zpi (zpi zit))
abbrev Y1:FT:=Qx (Lm 36865 .str) (Qx (Lm 36868 dj) (Qx (Qx Y0 (Qx (zpi (zpi (zpi (Lm 36892 (.int .i64))))) (Qx (Lm 36895 kJ) zit))) (Qx (Lm 36901 cX) (Qx (Lm 36904 fY) (Qx (.sl .arg fy) (Qx (.sl .arg .bool) (Qx (zpi (Qx .bool (.sl .arg (.int .i64)))) (Qx (Qx (.sl .arg qg) (Qx (.sl .arg kY) (Qx .str (.sl .arg (.int .i64))))) (Qx (.sl .arg dF) (Qx .bool (Qx (.sl .arg .str) (Qx (.sl .arg (.int .i64)) (Qx (.sl .arg (.int .i64)) (Qx zit Y0))))))))))))))
abbrev Y2:FT:=zpi (zpi (zpi (.sl .arg (.int .i64))))
def E:Env:={ty:=[(3,⟨false,(.int .i64),[]⟩),
 (4,⟨false,.bool,[]⟩),
 (5,⟨false,(.int .u8),[]⟩),
 (9,⟨false,.str,[]⟩),
 (22,⟨false,(.sl (.int .u8)),[(5,0)]⟩),
 (24,⟨false,(.sl .str),[(9,0)]⟩),
 (26,⟨true,(.sl .str),[(0,1)]⟩),
 (27,⟨false,(.sl dj),[(254,0)]⟩),
 (29,⟨true,Ml,[(0,1),(1,1),(2,1),(3,1)]⟩),
 (30,⟨false,(.sl (.int .i64)),[(3,0)]⟩),
 (32,⟨true,fY,[(0,1),(1,1),(2,1),(3,1)]⟩),
 (33,⟨false,(.sl kJ),[(258,0)]⟩),
 (35,⟨true,fE,[(0,4),(4,4),(8,1),(9,1)]⟩),
 (36,⟨false,(.sl cX),[(141,0)]⟩),
 (37,⟨false,(.sl fY),[(32,0)]⟩),
 (38,⟨false,(.sl fy),[(156,0)]⟩),
 (39,⟨false,(.sl .bool),[(4,0)]⟩),
 (41,⟨true,jH,[(0,1),(1,1),(2,1)]⟩),
 (42,⟨false,(.sl qg),[(267,0)]⟩),
 (43,⟨false,(.sl kY),[(269,0)]⟩),
 (45,⟨true,(.sl kY),[(0,1)]⟩),
 (47,⟨true,uu,[(0,1),(1,1)]⟩),
 (49,⟨true,fS,[(0,1),(1,1),(2,2)]⟩),
 (50,⟨false,(.sl dF),[(146,0)]⟩),
 (52,⟨true,Eb,[(0,1),(1,1),(2,1),(3,1),(4,1)]⟩),
 (54,⟨true,cI,[(0,1),(1,1),(2,10),(12,1),(13,1),(14,1),(15,1),(16,3),(19,4),(23,1),(24,1),(25,1),(26,1),(27,1),(28,5)]⟩),
 (55,⟨false,(.sl As),[(116,0)]⟩),
 (73,⟨true,(.sl .str),[(0,1)]⟩),
 (74,⟨false,(.sl dj),[(286,0)]⟩),
 (75,⟨true,Ml,[(0,1),(1,1),(2,1),(3,1)]⟩),
 (76,⟨true,fY,[(0,1),(1,1),(2,1),(3,1)]⟩),
 (77,⟨false,(.sl kJ),[(365,0)]⟩),
 (79,⟨true,fE,[(0,4),(4,4),(8,1),(9,1)]⟩),
 (80,⟨false,(.sl cX),[(277,0)]⟩),
 (81,⟨false,(.sl fY),[(76,0)]⟩),
 (82,⟨false,(.sl fy),[(292,0)]⟩),
 (83,⟨true,jH,[(0,1),(1,1),(2,1)]⟩),
 (84,⟨false,(.sl qg),[(372,0)]⟩),
 (85,⟨false,(.sl kY),[(452,0)]⟩),
 (87,⟨true,(.sl kY),[(0,1)]⟩),
 (88,⟨true,uu,[(0,1),(1,1)]⟩),
 (90,⟨true,fS,[(0,1),(1,1),(2,2)]⟩),
 (91,⟨false,(.sl dF),[(284,0)]⟩),
 (92,⟨true,Eb,[(0,1),(1,1),(2,1),(3,1),(4,1)]⟩),
 (94,⟨true,cI,[(0,1),(1,1),(2,10),(12,1),(13,1),(14,1),(15,1),(16,3),(19,4),(23,1),(24,1),(25,1),(26,1),(27,1),(28,5)]⟩),
 (95,⟨false,(.sl As),[(108,0)]⟩),
 (104,⟨true,Ec,[(0,1),(1,1),(2,1),(3,1),(4,1),(5,1),(6,1),(7,1)]⟩),
 (106,⟨true,AY,[(0,1),(1,1),(2,1),(3,1),(4,1),(5,1),(6,1),(7,1),(8,8)]⟩),
 (108,⟨true,As,[(0,1),(1,16),(17,1),(18,1),(19,1),(20,1)]⟩),
 (112,⟨true,Ec,[(0,1),(1,1),(2,1),(3,1),(4,1),(5,1),(6,1),(7,1)]⟩),
 (114,⟨true,AY,[(0,1),(1,1),(2,1),(3,1),(4,1),(5,1),(6,1),(7,1),(8,8)]⟩),
 (116,⟨true,As,[(0,1),(1,16),(17,1),(18,1),(19,1),(20,1)]⟩),
 (137,⟨true,kQ,[(0,1),(1,1),(2,1)]⟩),
 (139,⟨true,Jd,[(0,16),(16,1),(17,1)]⟩),
 (141,⟨true,cX,[(0,4),(4,3),(7,3),(10,18),(28,1),(29,1)]⟩),
 (144,⟨true,Eb,[(0,1),(1,1),(2,1),(3,1),(4,1)]⟩),
 (146,⟨true,dF,[(0,5),(5,1),(6,1),(7,1)]⟩),
 (156,⟨true,fy,[(0,1),(1,1),(2,1),(3,1),(4,1),(5,1)]⟩),
 (210,⟨false,(.sl AY),[(114,0)]⟩),
 (249,⟨true,Eb,[(0,1),(1,1),(2,1),(3,1),(4,1)]⟩),
 (254,⟨true,dj,[(0,1),(1,1),(2,1),(3,1)]⟩),
 (258,⟨true,kJ,[(0,1),(1,1),(2,1)]⟩),
 (267,⟨true,qg,[(0,1),(1,1),(2,1),(3,1),(4,1),(5,1),(6,1),(7,1),(8,1)]⟩),
 (269,⟨true,kY,[(0,1),(1,5),(6,1)]⟩),
 (273,⟨true,kQ,[(0,1),(1,1),(2,1)]⟩),
 (275,⟨true,Jd,[(0,16),(16,1),(17,1)]⟩),
 (277,⟨true,cX,[(0,4),(4,3),(7,3),(10,18),(28,1),(29,1)]⟩),
 (282,⟨true,Eb,[(0,1),(1,1),(2,1),(3,1),(4,1)]⟩),
 (284,⟨true,dF,[(0,5),(5,1),(6,1),(7,1)]⟩),
 (286,⟨true,dj,[(0,1),(1,1),(2,1),(3,1)]⟩),
 (292,⟨true,fy,[(0,1),(1,1),(2,1),(3,1),(4,1),(5,1)]⟩),
 (365,⟨true,kJ,[(0,1),(1,1),(2,1)]⟩),
 (372,⟨true,qg,[(0,1),(1,1),(2,1),(3,1),(4,1),(5,1),(6,1),(7,1),(8,1)]⟩),
 (385,⟨false,(.sl nw),[(387,0)]⟩),
 (387,⟨true,nw,[(0,1),(1,1)]⟩),
 (388,⟨false,(.sl xW),[(392,0)]⟩),
 (392,⟨true,xW,[(0,1),(1,1),(2,1),(3,1),(4,1),(5,1)]⟩),
 (407,⟨true,TIp,[(0,1),(1,1),(2,1),(3,1),(4,1),(5,1),(6,1)]⟩),
 (410,⟨true,ap8,[(0,1),(1,1),(2,1),(3,1),(4,1)]⟩),
 (442,⟨false,(.sl nw),[(446,0)]⟩),
 (446,⟨true,nw,[(0,1),(1,1)]⟩),
 (452,⟨true,kY,[(0,1),(1,5),(6,1)]⟩),
 (472,⟨false,(.int .u32),[]⟩)],eqs:=[(114,[.int,.int,.int,.int,.int,.int,.int,.int,.int,.int,.int,.int,.int,.int,.int,.str]),(139,[.int,.int,.int,.int,.int,.int,.int,.int,.int,.int,.int,.int,.int,.int,.int,.str,.int,.int]),(144,[.int,.int,.int,.int,.int]),(392,[.int,.int,.int,.int,.int,.int])],fts:=[]}
theorem base:Sound Tryz.prog E xV.nil:=Sound.nil (V7 (by kernel_rfl)) (Wa (by kernel_rfl)) (V9 (by kernel_rfl)) (by kernel_rfl)
structure SG where (g:xV) (s:Sound Tryz.prog E g)
def SG.add (S:SG){f:Nat}{F:Aq}(h:zfo f F):SG:=⟨S.g.add f F,S.s.add h⟩
def G0:SG:=⟨xV.nil,base⟩
def SG.qk (S:SG){f:Nat}{fn:Func}(an:An)(hf:Tryz.prog.funcs[f]?=some fn)(s:aq PS)(rs:aq (Bool×FT))(F:BV s->au (iu rs)){l:aq Code}(h:∀c∈l,XJ E S.g an Λ c)(hn:(fn.name== "runtime.NumGoroutine")=false:=by kernel_rfl)(hl:iq (fn.body.getD .skip)=l:=by kernel_rfl)(eh:an.cut=[]:=by kernel_rfl)(hF:∀a,GZ E S.g an Λ fn rs (iy s a)=F a:=by intro a;kernel_rfl):SG:=S.add (kX.of (abu S.s hf hn (AM.of (Fn.hF hl h) eh)) hF)
def SG.q1 (S:SG){f:Nat}{fn:Func}(an:An)(hf:Tryz.prog.funcs[f]?=some fn)(s:aq PS)(rs:aq (Bool×FT))(F:BV s->au (iu rs))(d:SD)(t:{R:Type}->SD.D d->(Ex->AS->au R)->(σ->au R)->σ->au R)(i:SD.D d->σ)(w:SD.D d->σ->SD.D d)(h1:(GD.nil.add (dz (gk fn 0)) (mkl d t i)) (dz (gk fn 0))=mkl d t i:=by kernel_rfl)(h:∀(R:Type)(X:SD.D d)(K:Z5 R)(m:Nat)(x:σ),AU (an.mask (dz (gk fn 0))) (den E S.g an (GD.nil.add (dz (gk fn 0)) (mkl d t i)) (gk fn 0)) (m+1) (SD.enc d (w X x)) K=t X K (λy=>AU (an.mask (dz (gk fn 0))) (den E S.g an (GD.nil.add (dz (gk fn 0)) (mkl d t i)) (gk fn 0)) m (SD.enc d (w X y)) K) x:=by intro R X K m x;kernel_rfl)(hw:∀X,w X (i X)=X:=by intro X;kernel_rfl)(hn:(fn.name== "runtime.NumGoroutine")=false:=by kernel_rfl)(hl:iq (fn.body.getD .skip)=[gk fn 0]:=by kernel_rfl)(eh:an.cut=[]:=by kernel_rfl)(hF:∀a,GZ E S.g an (GD.nil.add (dz (gk fn 0)) (mkl d t i)) fn rs (iy s a)=F a:=by intro a;kernel_rfl):SG:=S.add (kX.of (abu S.s hf hn (AM.of (Fn.hF hl (cF (lk d t i w h1 h hw) nF)) eh)) hF)
def Ty (T:Nat):Shape:=(iV E.ty T).getD ⟨false,.bool,[]⟩
def kF (k:FK):CT->FT
 | .pair a b=> .pair (kF k a) (kF k b)
 | .sl e=> .sl k e
 | .int k=> .int k
 | .bool=> .bool
 | .str=> .str
def sF:Nat->CT->FT
 |n,.pair a b=> .pair (sF n a) (sF (n+3*a.size) b)
 |n,.sl e=> .sl (.own (some n)) e
 |_,.int k=> .int k
 |_,.bool=> .bool
 |_,.str=> .str
def sg (fn:Func):aq PS:=fn.params.toList.map λT=> .data (Ty T).agg (Ty T).ct
def rz (fn:Func):aq (Bool×FT):=fn.resultTypes.toList.map λT=>((Ty T).agg,kF (.own none) (Ty T).ct)
def Cu (R:Type):aq PS->Type
 |[]=>R
 | .data _ t::r=>t.D->Cu R r
 | .fn _::r=>Cu R r
def un:(s:aq PS)->Cu R s->BV s->R
 |[],f,_=>f
 | .data _ _::r,f,a=>un r (f a.1) a.2
 | .fn _::r,f,a=>un r f a
def dT:aq PD->Nat->Type
 |[],_=>Unit
 | .data _ t::_,0=>t.ct.D
 |_::_,0=>Unit
 |_::r,n+1=>dT r n
def dG:(l:aq PD)->(n:Nat)->FJ l->dT l n
 |[],_,_=>()
 | .data _ _::_,0,x=>x.1
 | .bot::_,0,_=>()
 | .ptr _ _::_,0,_=>()
 | .fn _::_,0,_=>()
 | .data _ _::r,n+1,x=>dG r n x.2
 | .bot::r,n+1,x=>dG r n x
 | .ptr _ _::r,n+1,x=>dG r n x
 | .fn _::r,n+1,x=>dG r n x
def dP:(l:aq PD)->(n:Nat)->dT l n->FJ l->FJ l
 |[],_,_,x=>x
 | .data _ _::_,0,y,x=>(y,x.2)
 | .bot::_,0,_,x=>x
 | .ptr _ _::_,0,_,x=>x
 | .fn _::_,0,_,x=>x
 | .data _ _::r,n+1,y,x=>(x.1,dP r n y x.2)
 | .bot::r,n+1,y,x=>dP r n y x
 | .ptr _ _::r,n+1,y,x=>dP r n y x
 | .fn _::r,n+1,y,x=>dP r n y x
def bT:aq (au FT)->Nat->Type
 |[],_=>Unit
 |some t::_,0=>t.ct.D
 |none::_,0=>Unit
 |_::r,n+1=>bT r n
def bG:(l:aq (au FT))->(n:Nat)->ER l->bT l n
 |[],_,_=>()
 |some _::_,0,x=>x.1
 |none::_,0,_=>()
 |some _::r,n+1,x=>bG r n x.2
 |none::r,n+1,x=>bG r n x
def bP:(l:aq (au FT))->(n:Nat)->bT l n->ER l->ER l
 |[],_,_,x=>x
 |some _::_,0,y,x=>(y,x.2)
 |none::_,0,_,x=>x
 |some _::r,n+1,y,x=>(x.1,bP r n y x.2)
 |none::r,n+1,y,x=>bP r n y x
def pk (d:SD)(i:Nat):Nat:=match nth d.slots i with
 |some (.data _ _)=>0
 |some _=>1
 |none=>2
def PK (d:SD)(i:Nat):Nat->Type
 |0=>dT d.slots i
 |1=>bT d.boxes i
 |_=>ioD d.io
abbrev PT (d:SD)(i:Nat):Type:=PK d i (pk d i)
def gK (d:SD)(i:Nat)(X:d.D):(k:Nat)->PK d i k
 |0=>dG d.slots i X.1
 |1=>bG d.boxes i X.2.1
 |_+2=>X.2.2
def pK (d:SD)(i:Nat)(X:d.D):(k:Nat)->PK d i k->d.D
 |0,y=>(dP d.slots i y X.1,X.2)
 |1,y=>(X.1,bP d.boxes i y X.2.1,X.2.2)
 |_+2,y=>(X.1,X.2.1,y)
def St (d:SD):dX->Type
 |[]=>Unit
 |[p]=>PT d p
 |p::q::r=>PT d p×St d (q::r)
def gS (d:SD)(X:d.D):(l:dX)->St d l
 |[]=>()
 |[p]=>gK d p X (pk d p)
 |p::q::r=>(gK d p X (pk d p),gS d X (q::r))
def pS (d:SD):(l:dX)->St d l->d.D->d.D
 |[],_,X=>X
 |[p],y,X=>pK d p X (pk d p) y
 |p::q::r,y,X=>pS d (q::r) y.2 (pK d p X (pk d p) y.1)
def Cv (d:SD)(R:Type):dX->Type
 |[]=>R
 |p::r=>PT d p->Cv d R r
def aV (d:SD)(X:d.D):(l:dX)->Cv d R l->R
 |[],f=>f
 |p::r,f=>aV d X r (f (gK d p X (pk d p)))
def cV (d:SD)(K:d.D->R):(l:dX)->d.D->Cv d R l
 |[],X=>K X
 |p::r,X=>λy=>cV d K r (pK d p X (pk d p) y)
def Cz (d:SD)(R:Type):dX->Type
 |[]=>Unit->R
 |p::r=>Cv d R (p::r)
def cZ (d:SD)(K:d.D->R):(l:dX)->d.D->Cz d R l
 |[],X=>λ_=>K X
 |p::r,X=>cV d K (p::r) X
def pls (d:SD):dX:=(List.range d.slots.length).filter (λi=>match nth d.slots i with|some (.data _ _)=>true|_=>false)++(List.range d.slots.length).filter (λi=>match nth d.boxes i with|some (some _)=>true|_=>false)++match d.io with| .some _=>[d.slots.length]|_=>[]
def kps (d:SD):dX:=(List.range d.slots.length).filter λi=>(match nth d.slots i with|some .bot=>false|_=>true)||match nth d.boxes i with|some (some _)=>true|_=>false
def TT (d:SD)(s:dX)(R:Type):aq (Ex×dX)->Type
 |[]=>Cv d ((St d s->au R)->St d s->au R) ((pls d).filter λi=> !s.contains i)
 |x::r=>Cz d (au R) x.2->TT d s R r
def tT (d:SD)(s:dX)(X:d.D)(K:Z5 R):(l:aq (Ex×dX))->TT d s R l->(St d s->au R)->St d s->au R
 |[],f=>aV d X _ f
 |x::r,f=>tT d s X K r (f (cZ d (λY=>K x.1 (d.enc Y)) x.2 X))
structure LS (fn:Func) where (d:SD) (σ:Type) (t:{R:Type}->d.D->(Ex->AS->Option R)->(σ->Option R)->σ->Option R) (i:d.D->σ) (w:d.D->σ->d.D)
def fo (i:Nat):Code->au Oper
 | .region _ l _=>l.toList.find? λo=>match o.dst with|some j=>Nat.beq j i|none=>false
 | .seq a b=>match fo i a with|none=>fo i b|x=>x
 | .cond _ a b=>match fo i a with|none=>fo i b|x=>x
 | .block _ a=>fo i a
 | .loop a=>fo i a
 |_=>none
def kP (f:Nat->CT->FT)(fn:Func)(i:Nat):PD×au FT:=match fn.params[i]?,fo i (fn.body.getD .skip)with
 |some T,_=>(.data (Ty T).agg (f (12288*i) (Ty T).ct),none)
 |_,some o=>match o.op with
  | .alloc T=>(.ptr i 0,some (f (12288*i+1) (Ty T).ct))
  | .box T _=>(.ptr i 0,some (f (12288*i+1) (Ty T).ct))
  |_=>(.data (Ty o.type).agg (f (12288*i) (Ty o.type).ct),none)
 |_,_=>(.bot,none)
def dS (fn:Func)(a b:dX)(x:aq (Nat×PD×au FT))(io:IoD):SD:=
 let l:=(List.range fn.ntmps).map λi=>match x.lookup i with
  |some y=>y
  |none=>bif a.contains i then kP sF fn i else bif b.contains i then kP (λ_=>kF .arg) fn i else(.bot,none)
 ⟨l.map (·.1),l.map (·.2),io⟩
def ld {fn:Func}(a b s:dX)(T:∀R,A R)(l:aq (Ex×dX):=[(.exit 0,s)])(x:aq (Nat×PD×au FT):=[])(io:IoD:=.none)(h:∀R,A R=TT (dS fn a b x io) s R l:=by intro R;kernel_rfl):LS fn:=⟨dS fn a b x io,St (dS fn a b x io) s,λ{R} X K=>tT (dS fn a b x io) s X K l (cast (h R) (T R)),λX=>gS (dS fn a b x io) X s,λX y=>pS (dS fn a b x io) s y X⟩
structure CS (fn:Func) where (d:SD) (o:List Nat) (t:{R:Type}->d.D->(Ex->AS->Option R)->Option R)
def TC (d:SD)(R:Type):aq (Ex×dX)->Type
 |[]=>Cv d (au R) (pls d)
 |x::r=>Cz d (au R) x.2->TC d R r
def tC (d:SD)(X:d.D)(K:Z5 R):(l:aq (Ex×dX))->TC d R l->au R
 |[],f=>aV d X _ f
 |x::r,f=>tC d X K r (f (cZ d (λY=>K x.1 (d.enc Y)) x.2 X))
def lc {fn:Func}(a b o:dX)(T:∀R,A R)(l:aq (Ex×dX))(x:aq (Nat×PD×au FT):=[])(io:IoD:=.none)(h:∀R,A R=TC (dS fn a b x io) R l:=by intro R;kernel_rfl):CS fn:=⟨dS fn a b x io,o,λ{R} X K=>tC (dS fn a b x io) X (λe s=>K e (s.mask o)) l (cast (h R) (T R))⟩
def cu:FT:=.pair (.sl .age (.int .u8)) (.pair (.int .i64) (.int .i64))
def lb {fn:Func}(a b s:dX)(T:∀R,A R)(l:aq (Ex×dX):=[(.exit 0,s)])(x:aq (Nat×PD×au FT):=[])(h:∀R,A R=TT (dS fn a b ((0,.ptr 0 0,some cu)::x) .ptr) s R l:=by intro R;kernel_rfl):LS fn:=ld a b s T l ((0,.ptr 0 0,some cu)::x) .ptr h
def lx {fn:Func}(a b o:dX)(T:∀R,A R)(l:aq (Ex×dX))(x:aq (Nat×PD×au FT):=[])(h:∀R,A R=TC (dS fn a b ((0,.ptr 0 0,some cu)::x) .ptr) R l:=by intro R;kernel_rfl):CS fn:=lc a b o T l ((0,.ptr 0 0,some cu)::x) .ptr h
section
variable (Γ:xV) (an:An) (fn:Func)
def lac (c:dX):Nat->aq (CS fn)->GD
 |_,[]=>GD.nil
 |j,l::r=>(lac c (j+1) r).add (yb (C8 c fn j)) (mkc l.d l.t)
def lam (B:GD):Nat->aq (LS fn)->GD
 |_,[]=>B
 |k,l::r=>(lam B (k+1) r).add (dz (gk fn k)) (mkl l.d l.t l.i)
def XE (c:dX)(n:Nat):Nat->aq (CS fn)->dX
 |_,[]=>[]
 |j,l::r=>bif Nat.beq n (yb (C8 c fn j)) then kps l.d else bif Nat.beq n (yb (C8 c fn j)+1) then l.o else XE c n (j+1) r
def msk (c:dX)(y:aq (CS fn))(n:Nat):Nat->aq (LS fn)->dX
 |_,[]=>XE fn c n 0 y
 |k,l::r=>bif Nat.beq n (dz (gk fn k)) then kps l.d else msk c y n (k+1) r
def wm (l:aq (LS fn))(y:aq (CS fn)):An:={an with mask:=λn=>msk fn an.cut y n 0 l}
def LL (Λ:GD):Nat->aq (LS fn)->Prop
 |_,[]=>True
 |k,l::r=>Λ (dz (gk fn k))=mkl l.d l.t l.i/\(∀(R:Type)(X:l.d.D)(K:Z5 R)(m:Nat)(x:l.σ),AU (an.mask (dz (gk fn k))) (den E Γ an Λ (gk fn k)) (m+1) (l.d.enc (l.w X x)) K=l.t X K (λy=>AU (an.mask (dz (gk fn k))) (den E Γ an Λ (gk fn k)) m (l.d.enc (l.w X y)) K) x)/\(∀X,l.w X (l.i X)=X)/\LL Λ (k+1) r
def CC (Λ:GD):Nat->aq (CS fn)->Prop
 |_,[]=>True
 |k,l::r=>Λ (yb (C8 an.cut fn k))=mkc l.d l.t/\(∀(R:Type)(X:l.d.D)(K:Z5 R),l.t X K=den E Γ an Λ (C8 an.cut fn k) (l.d.enc X) (λe st'=>K e (st'.mask (an.mask (yb (C8 an.cut fn k)+1)))))/\CC Λ (k+1) r
def OK (l:aq (LS fn))(y:aq (CS fn)):Prop:=(fn.name== "runtime.NumGoroutine")=false/\iq (fn.body.getD .skip)=(List.range' 0 l.length).map (gk fn)/\kA an.cut (fn.body.getD .skip)=(List.range' 0 y.length).map (C8 an.cut fn)/\LL Γ (wm an fn l y) fn (lam fn (lac fn an.cut 0 y) 0 l) 0 l/\CC Γ (wm an fn l y) fn (lam fn (lac fn an.cut 0 y) 0 l) 0 y
end
section
variable {Γ:xV} {an:An} {fn:Func}
theorem LL.ok {Λ:GD}:∀{r:aq (LS fn)}{k:Nat},LL Γ an fn Λ k r->∀c∈(List.range' k r.length).map (gk fn),XJ E Γ an Λ c
 |[],_,_,_,h=>nomatch h
 |l::_,k,⟨h1,h2,h3,h4⟩,c,h=>by rcases cv.1 h with e|e;rw[e];exact lk l.d l.t l.i l.w h1 h2 h3;exact h4.ok c e
theorem CC.ok {Λ:GD}:∀{r:aq (CS fn)}{k:Nat},CC Γ an fn Λ k r->∀c∈(List.range' k r.length).map (C8 an.cut fn),COk E Γ an Λ c
 |[],_,_,_,h=>nomatch h
 |l::_,k,⟨h1,h2,h3⟩,c,h=>by rcases cv.1 h with e|e;rw[e];exact ck l.d l.t h1 h2;exact h3.ok c e
theorem OK.all {l:aq (LS fn)}{y:aq (CS fn)}(h:OK Γ an fn l y):AM E Γ (wm an fn l y) (lam fn (lac fn an.cut 0 y) 0 l) (fn.body.getD .skip):=⟨Fn.hF h.2.1 h.2.2.2.1.ok,Fn.hF h.2.2.1 h.2.2.2.2.ok⟩
end
section
variable (S:SG) {f:Nat} {fn:Func} (an:An) (hf:Tryz.prog.funcs[f]?=some fn)
variable {A:Type}
noncomputable def SG.q (F:A)(l:aq (LS fn):=[])(y:aq (CS fn):=[])(rs:aq (Bool×FT):=rz fn)(hA:A=Cu (au (iu rs)) (sg fn):=by kernel_rfl)(h:OK S.g an fn l y:=by repeat' (first|exact trivial|apply And.intro|(intros;kernel_rfl)))(hF:∀a,GZ E S.g (wm an fn l y) (lam fn (lac fn an.cut 0 y) 0 l) fn rs (iy (sg fn) a)=un (sg fn) (cast hA F) a:=by intro a;kernel_rfl):SG:=
 S.add (kX.of (F:=un (sg fn) (cast hA F)) (abu S.s hf h.1 h.all) hF)
noncomputable def SG.b (F:A)(l:aq (LS fn):=[])(y:aq (CS fn):=[])(t:FT:=cu)(rs:aq (Bool×FT):=rz fn)(hA:A=(t.ct.D->Cu (au (iu rs×t.ct.D)) (sg fn).tail):=by kernel_rfl)(h:OK S.g an fn l y:=by repeat' (first|exact trivial|apply And.intro|(intros;kernel_rfl)))(hF:∀x a,Tc E S.g (wm an fn l y) (lam fn (lac fn an.cut 0 y) 0 l) fn rs t (.val true (iY t x)::iy (sg fn).tail a)=un (sg fn).tail (cast hA F x) a:=by intro x a;kernel_rfl):SG:=
 S.add (kX.ajJ (F:=λx a=>un (sg fn).tail (cast hA F x) a) (ai8 S.s hf h.1 h.all) hF)
noncomputable def SG.i (F:A)(l:aq (LS fn):=[])(y:aq (CS fn):=[])(rs:aq (Bool×FT):=rz fn)(t:Nat:=fn.params.getD 0 0)(hA:A=((Ty t).ct.D->Cu (au (iu rs×(Ty t).ct.D)) (sg fn).tail):=by kernel_rfl)(h:OK S.g an fn l y:=by repeat' (first|exact trivial|apply And.intro|(intros;kernel_rfl)))(hF:∀x a,Yg E S.g (wm an fn l y) (lam fn (lac fn an.cut 0 y) 0 l) fn rs (Ty t).ct (.val (Ty t).agg (cellsOf (Ty t).ct (.own none) x)::iy (sg fn).tail a)=un (sg fn).tail (cast hA F x) a:=by intro x a;kernel_rfl):SG:=
 S.add (kX.aqS (F:=λx a=>un (sg fn).tail (cast hA F x) a) (aqe S.s hf h.1 h.all) hF)
noncomputable def SG.n (F:A)(t:FT)(l:aq (LS fn):=[])(y:aq (CS fn):=[])(hA:A=Cu (au t.ct.D) (sg fn):=by kernel_rfl)(h:OK S.g an fn l y:=by repeat' (first|exact trivial|apply And.intro|(intros;kernel_rfl)))(hF:∀a,NF E S.g (wm an fn l y) (lam fn (lac fn an.cut 0 y) 0 l) fn t (iy (sg fn) a)=un (sg fn) (cast hA F) a:=by intro a;kernel_rfl):SG:=
 S.add (kX.ajK (F:=un (sg fn) (cast hA F)) (ai9 S.s hf h.1 h.all) hF)
noncomputable def SG.v (F:A)(Np:aq (Bool×FT))(l:aq (LS fn):=[])(y:aq (CS fn):=[])(rs:aq (Bool×FT):=rz fn)(h2:iu Np=iu rs:=by kernel_rfl)(hA:A=Cu (au (Bool×iu rs)) (sg fn):=by kernel_rfl)(h:OK S.g an fn l y:=by repeat' (first|exact trivial|apply And.intro|(intros;kernel_rfl)))(hF:∀a,evalAlt E S.g (wm an fn l y) (lam fn (lac fn an.cut 0 y) 0 l) fn rs Np h2 (iy (sg fn) a)=un (sg fn) (cast hA F) a:=by intro a;kernel_rfl):SG:=
 S.add (kX.ofAlt (h2:=h2) (F:=un (sg fn) (cast hA F)) (ad8 h2 S.s hf h.1 h.all) hF)
end
variable {R:Type}
def G49:=G0.q {merge:=mg [(1,6)]} func49 aC
def G74:=G49.q {} func74 tJ [ld [2,7,8] [1,6] [8] @Ep [(.exit 0,[8]),(.ret,[2,8])]]
def alr:=G74.q {merge:=mg [(4,25)]} func210 nJ [ld [1,2,6,10,11] [9] [11] @tk [(.exit 0,[11]),(.ret,[6,11])]]
def G75:=alr.q {merge:=mg [(4,37)]} func75 pn [ld [2,6,7] [0,5] [7] @oF [(.exit 0,[7]),(.ret,[2,7])]]
def G79:=G75.q {merge:=mg [(1,21),(7,43)]} func79 iJ [ld [2,3,27,28] [1,26] [3,28] @wA [(.exit 0,[3,28]),(.ret,[2,3,28])]]
def anh:=G79.q {merge:=mg [(1,2)]} func330 tO
def amH:=anh.q {} func295 iK
def ani:=amH.q {} func331 jk
def als:=ani.q {merge:=mg [(1,2)]} func211 jz
def akR:=als.q {} func170 fV
def akM:=akR.q {mv:=[7]} func165 ix
def alu:=akM.q {merge:=mg [(3,21)],mv:=[10,24]} func212 fU
def G76:=alu.q {merge:=mg [(1,24),(8,50)],mv:=[55]} func76 BO [ld [2,3,4,31,32] [1,30] [3,4,32] @wF [(.exit 0,[3,4,32]),(.ret,[2,3,4,32])]]
def G77:=G76.q {merge:=mg [(4,29),(7,2)]} func77 tH [ld [2,7,8] [1,6] [8] @rT [(.exit 0,[8]),(.ret,[2,8])]]
def alv:=G77.q {merge:=mg [(1,2)]} func213 oI
def anj:=alv.q {merge:=mg [(1,18),(5,2),(7,2)]} func332 qX
def ank:=anj.q {merge:=mg [(1,2)]} func333 rb
def alw:=ank.q {merge:=mg [(1,2)]} func214 gD
def G78:=alw.q {merge:=mg [(1,42),(5,2)]} func78 yg
def alx:=G78.q {merge:=mg [(1,2)]} func215 Es
def G80:=alx.q {merge:=mg [(1,24),(3,2)]} func80 mM
def anl:=G80.q {merge:=mg [(1,33),(3,54),(5,2)]} func334 Dk
def aly:=anl.q {} func216 Bj [ld [2,6,7] [0,5] [7] @Gg [(.exit 0,[7]),(.ret,[2,7])]]
def anm:=aly.q {merge:=mg [(4,23)]} func335 Dl [ld [3,4,9,10] [8] [10] @wM [(.exit 0,[10]),(.ret,[4,10])]]
def ao1:=anm.q {} func445 yL [ld [3,16,17,18] [] [3,18] @nE]
def ann:=ao1.q {mv:=[10,18]} func336 JB [ld [1,3,4] [] [3,4] @yV]
def alz:=ann.q {merge:=mg [(6,28),(9,40)]} func217 sj [ld [2,13,14] [1,12] [14] @uF [(.exit 0,[14]),(.ret,[2,14])],ld [2,3,13,14,49,50,51] [1,12] [51] @nH [(.exit 2,[51]),(.ret,[2,51])]]
def ano:=alz.q {merge:=mg [(1,2)]} func337 Hm
def alA:=ano.q {merge:=mg [(1,22)]} func218 yS [ld [1,4,25,26] [24] [26] @Er [(.exit 0,[26]),(.ret,[4,26])]]
def G81:=alA.q {merge:=mg [(1,25),(6,41),(12,59)]} func81 pq [ld [1,4,28,29] [2,27] [29] @oK [(.exit 0,[29]),(.ret,[4,29])],ld [1,4,46,47] [45] [47] @nj [(.exit 2,[47]),(.ret,[4,47])]]
def G28:=G81.q {merge:=mg [(2,58),(7,89)]} func28 iI [ld [2,3,61,62] [1] [62] @wu [(.exit 0,[62]),(.ret,[2,62])],ld [2,3,103,104,105] [1] [105] @uA [(.exit 2,[105]),(.ret,[2,105])]]
def akQ:=G28.q {} func169 kT
def akJ:=akQ.q {} func162 de
def akK:=akJ.q {} func163 wH
def amC:=akK.q {mv:=[13,25]} func290 tN [ld [3,8,9] [7] [3,9] @sr]
def akL:=amC.q {sb:=mg [(2,2)]} func164 qY
def akN:=akL.q {mv:=[7]} func166 uH
def amD:=akN.q {} func291 wI
def amE:=amD.q {sb:=mg [(2,2)]} func292 uI
def akO:=amE.q {sb:=mg [(2,2)]} func167 qt
def akP:=akO.q {} func168 kS
def G48:=akP.q {mv:=[34,75],mb:=mg [(34,3)],sb:=mg [(39,3)]} func48 gy [ld [2,28,29] [1,27] [29,3] @sq [(.exit 0,[29,3])] [(3,.ptr 3 0,some Y1)]]
def apO:=G48.q {merge:=mg [(4,29)]} func496 Ff
def apP:=apO.q {merge:=mg [(2,6)]} func497 vC
def aoU:=apP.q {merge:=mg [(1,29),(11,55),(16,73)],mv:=[56,74]} func438 zU [ld [2,3,4,5,12,13,14] [0,7] [3,4,14] @qZ [(.exit 0,[3,4,14]),(.ret,[3,4,12,13,14])]]
def aoV:=aoU.q {mv:=[41]} func439 po [ld [1,2,8] [3] [1,8] @lg]
def ana:=aoV.q {} func324 oD [ld [14,31,32] [6] [14,32] @uz [(.exit 0,[14,32])] [(30,.data false (.sl .loc nw),Z)]]
def aoo:=ana.q {merge:=mg [(1,11)]} func406 nG
def amF:=aoo.q {merge:=mg [(1,20)],sb:=mg [(9,9)]} func293 tM
def an5:=amF.q {} func380 vA
def aoY:=an5.q {} func442 cd
def apb:=aoY.q {merge:=mg [(1,2)]} func456 zQ
def apc:=apb.q {} func457 gw
def anX:=apc.q {} func372 lU
def aoW:=anX.q {merge:=mg [(1,13)]} func440 eX
def aoX:=aoW.q {merge:=mg [(1,13)]} func441 iA
def aop:=aoX.q {sb:=mg [(4,4)]} func407 pj
def apa:=aop.q {merge:=mg [(1,17)]} func454 fH
def apC:=apa.q {merge:=mg [(1,27)]} func484 qp
def apD:=apC.q {} func485 fu
def ap6:=apD.q {merge:=mg [(1,12)]} func514 Be
def ap1:=ap6.q {} func509 yT [ld [0,3,4] [] [3,4] @si]
def apE:=ap1.q {} func486 ji
def apW:=apE.q {} func504 so
def apu:=apW.q {merge:=mg [(8,39)]} func476 jK
def ap5:=apu.q {merge:=mg [(1,2)]} func513 LH
def apX:=ap5.q {} func505 yO
def apv:=apX.q {} func477 wi
def apS:=apv.q {merge:=mg [(1,2)]} func500 Cg
def apY:=apS.q {} func506 yU
def apw:=apY.q {} func478 yF
def amg:=apw.q {} func261 ov [ld [0,5,10,11] [] [5,11] @wL]
def apx:=amg.q {} func479 Bh
def aoq:=apx.q {} func408 gY
def apk:=aoq.q {nest:=[33],mv:=[19,49]} func465 sn [ld [1,2,6,8] [] [1,2,8] @nm]
def aob:=apk.q {mv:=[34,41,50,57],sb:=mg [(14,14)]} func386 Hl [ld [4,12,14,36,37] [] [4,37,14] @zT [(.exit 0,[4,37,14])] [(35,.data false (.sl .loc nw),Z)]]
def aor:=aob.q {} func409 pP
def apZ:=aor.q {} func507 zS
def ap0:=apZ.q {merge:=mg [(1,14)]} func508 wx [ld [0,1,5,6] [] [5,6] @qn]
def apy:=ap0.q {merge:=mg [(1,14)]} func480 wk [ld [0,1,5,6] [] [5,6] @qi]
def apz:=apy.q {} func481 wo
def aos:=apz.q {} func410 tI
def anb:=aos.q {} func325 nK
def ane:=anb.q {} func327 wK
def apA:=ane.q {merge:=mg [(1,2)]} func482 mh
def apB:=apA.q {merge:=mg [(1,12)]} func483 lA
def aot:=apB.q {merge:=mg [(1,22)],mv:=[26,37,41,51],mb:=mg [(41,13),(51,13)],sb:=mg [(10,10),(11,11),(13,13)]} func411 oH
def amG:=aot.v {merge:=mg [(3,50)],sb:=mg [(12,12),(13,13),(20,20)]} func294 wN [(true,(.sl .arg .str)),(true,(.pair (.int .i64) (.pair (.int .i64) (.int .i64)))),(false,.bool)]
def akS:=amG.q {merge:=mg [(1,31)],mv:=[52,66],mb:=mg [(66,16)],sb:=mg [(10,10),(11,11)]} func171 nC
def amL:=akS.q {merge:=mg [(1,9)]} func299 oM
def amI:=amL.q {} func296 yE
def akT:=amI.b {} func172 lj [ld [1,7] [] [7,0] @qs [(.exit 0,[7,0])] [(0,.ptr 0 0,some (sF 1 cI))] .ptr] (t:=(kF (.own none) cI))
def G50:=akT.q {mv:=[10,17,35,49],sb:=mg [(37,3)]} func50 wq [ld [2,3,13,14] [1] [14,3] @qj]
def an1:=G50.q {merge:=mg [(1,2)]} func376 mK
def apR:=an1.q {} func499 Fa [ld [0,3,4] [] [3,4] @tG,ld [0,3,4,5] [] [3,5] @pO [(.exit 2,[3,5])]]
def apd:=apR.q {} func458 wG
def apQ:=apd.q {} func498 uy
def aoZ:=apQ.q {mv:=[21,26]} func443 yK [ld [3,10,11] [9] [3,11] @nD]
def ao0:=aoZ.q {merge:=mg [(1,17),(4,30)],mv:=[83,87]} func444 Fc [ld [1,2,5,6,7] [] [6,7] @yR]
def ang:=ao0.q {} func329 uD
def ape:=ang.q {merge:=mg [(4,33)],sb:=mg [(4,4)]} func459 tK
def apf:=ape.q {merge:=mg [(2,22),(6,56)],sb:=mg [(5,5)]} func460 Bi
def apg:=apf.q {merge:=mg [(3,20),(9,44),(12,68)]} func461 qo
def an0:=apg.q {merge:=mg [(2,20)]} func375 iB
def aou:=an0.q {merge:=mg [(1,24),(15,67)],mv:=[55,68],sb:=mg [(9,9)]} func412 wE [ld [2,7,8,9,10,11,12] [0,5] [12,7] @ml [(.exit 0,[12,7]),(.ret,[8,10,12,7,9])]]
def ady:=aou.q {merge:=mg [(4,19)]} func455 yP [ld [2,6,7] [0,5] [7] @rZ [(.exit 0,[7]),(.ret,[2,7])]]
def aqd:Aq:=Jn [pd (.sl nw),pI,pI] [(false,(.sl (.own none) xW))] [(false,(.sl .nil xW))] rfl λa=>iG a.1 a.2.1 a.2.2.1
def aiF:An:={mask:=mk [(5,[0,2,7,30,31,32]),(13,[6,7,54,55,56])],merge:=mg [(1,25)],nils:=[6],mv:=[49,64]}
abbrev S6:SD:=⟨gr (UP nw)::B::DI::bs 4 (gr (Lm 86016 xW)::bs 22 (gr (UP nw)::DI::DI::bs 32 [])),zs 65 [],.none⟩
def af0 (X:SD.D S6)(K:Z5 R):=kB (λy0 y1=>ke 0 K S6 ((z2 (w y0 (z2 (u y1))) X.1),X.2)) X.1.1 X.1.2.1 (q3 X) (q4 X)
abbrev NB:SD:=⟨bs 7 (gr (Lm 86016 xW)::bs 46 (gr (.sl .loc xW)::DI::DI::bs 8 [])),zs 65 [],.none⟩
abbrev X5:SD:=⟨bs 6 (gr (.sl .nil xW)::gr (Lm 86016 xW)::bs 46 (gr (.sl .loc xW)::DI::DI::bs 8 [])),zs 65 [],.none⟩
def aaY (X:SD.D NB)(K:Z5 R):=jM (λy0=>ke 2 K NB ((z3 (u y0) X.1),X.2)) (λy0 y1=>kr K X5 ((y0,(X.1.1,(X.1.2.1,(X.1.2.2.1,(y1,()))))),(),())) X.1.1 X.1.2.1 (q2 X)
def ahX:GD:=(GD.nil.add 5 (mkl S6 af0 (λX=>(q2 X,q5 X)))).add 13 (mkl NB aaY q3)
theorem aiD:XJ E ady.g aiF ahX (gk f371 0):=lk S6 af0 (λX=>(q2 X,q5 X)) λX x=>((z2 (w x.1 (z2 (u x.2))) X.1),X.2)
theorem agS:XJ E ady.g aiF ahX (gk f371 1):=lk NB aaY q3 λX x=>((z3 (u x) X.1),X.2)
theorem aqR:zfo 371 aqd:=kX.ofAlt (ad8 (Γ:=ady.g) (an:=aiF) (Λ:=ahX) (by rfl) (ady.s) func371 (by kernel_rfl) (ao (cF aiD (cF agS nF)))) (λa=>by kernel_rfl)
def ahW:=ady.add aqR
def aiG:An:={mask:=mk [(5,[0,6,18,19,20]),(14,[0,2,3,4,5,6,9,10,11,51,52])],mv:=[24,65]}
abbrev S7:SD:=⟨gr (UP xW)::bs 5 (gr (Lm 73728 nw)::bs 11 (gr (UP xW)::DI::DI::bs 47 [])),zs 68 [],.none⟩
def af1 (X:SD.D S7)(K:Z5 R):=lB (λy0 y1=>ke 0 K S7 ((z1 (w y0 (z2 (u y1))) X.1),X.2)) X.1.1 (q2 X) (q3 X)
abbrev NC:SD:=⟨gr (UP xW)::bs 5 (gr (Lm 73728 nw)::B::B::DI::DI::gr (Lm 135168 xW)::bs 39 (DI::DI::bs 15 [])),zs 68 [],.none⟩
abbrev X6:SD:=⟨gr (UP xW)::B::gr (Lm 24576 nw)::DI::DI::DB::gr (Lm 73728 nw)::B::B::DI::DI::gr (Lm 135168 xW)::bs 39 (DI::DI::bs 15 []),zs 68 [],.none⟩
def aaZ (X:SD.D NC)(K:Z5 R):=gC (λy0=>ke 2 K NC ((z6 (u y0) X.1),X.2)) (λy0 y1 y2 y3 y4=>kr K X6 ((X.1.1,(y0,(y1,(y2,(y3,(X.1.2.1,(X.1.2.2.1,(X.1.2.2.2.1,(X.1.2.2.2.2.1,(X.1.2.2.2.2.2.1,(y4,()))))))))))),(),())) X.1.1 X.1.2.1 (q2 X) (q3 X) (q4 X) (q5 X)
def ai0:GD:=(GD.nil.add 5 (mkl S7 af1 (λX=>(X.1.2.1,q4 X)))).add 14 (mkl NC aaZ q6)
theorem aiE:XJ E ahW.g aiG ai0 (gk f413 0):=lk S7 af1 (λX=>(X.1.2.1,q4 X)) λX x=>((z1 (w x.1 (z2 (u x.2))) X.1),X.2)
theorem agT:XJ E ahW.g aiG ai0 (gk f413 1):=lk NC aaZ q6 λX x=>((z6 (u x) X.1),X.2)
def aov:=ahW.qk aiG func413 [pd (.sl xW)] [(false,(.sl (.own none) nw)),rI,rI,rB] (c1 oG) (cF aiE (cF agT nF))
def aow:=aov.q {} func414 qh [ld [2,8,9,10,19,20] [0,5,18] [10,20] @mi [(.exit 0,[10,20]),(.ret,[8,9,10,20])]]
def ao9:=aow.q {} func453 re
def anS:=ao9.q {} func366 mL
def aox:=anS.q {merge:=mg [(3,38),(9,74),(12,84),(17,117)]} func415 yH
def amJ:=aox.q {merge:=mg [(1,28)],sb:=mg [(8,8)]} func297 qq
abbrev ah4:SD:=⟨gr (UP dj)::B::DI::B::B::.ptr 5 0::B::.ptr 7 0::.ptr 8 0::gr (Lm 110592 .str)::DI::DI::gr (Lm 147456 .str)::DI::DI::bs 30 [],zs 5 ((zsm (UP .str))::Z::(some Y0)::(some Y0)::zs 36 []),.none⟩
abbrev abf:SD:=⟨gr (UP dj)::B::DI::B::B::.ptr 5 0::B::.ptr 7 0::.ptr 8 0::gr (Lm 110592 .str)::DI::DI::gr (.sl .loc .str)::DI::DI::bs 30 [],zs 5 ((zsm (UP .str))::Z::(some Y0)::(some Y0)::zs 36 []),.none⟩
def akU:=amJ.q1 {mask:=mk [(3,[0,2,5,7,8,9,10,11,12,13,14])],mv:=[35,42]} func173 [pd (.sl dj),pf (.sl .str),pI,pf Ml] [(true,Y0),(false,(.sl (.own none) .str)),rI,rI] (c4 sm) ah4 (λX K=>nk (λy0 y1 y2 y3 y4 y5 y6 y7=>kr K abf ((X.1.1,(X.1.2.1,(y0,(y1,(y2,(y3,(y4,(y5,())))))))),(X.2.1.1,(y6,(y7,()))),())) X.1.1 X.1.2.1 (q2 X) (q3 X) (q4 X) X.2.1.1 X.2.1.2.2.1) (λX=>(q5 X,q6 X,q7 X,X.2.1.2.1)) (λX x=>((z5 (w x.1 (w x.2.1 (u x.2.2.1))) X.1),(z1 (u x.2.2.2) X.2.1),X.2.2))
def akV:=akU.q {merge:=mg [(2,22)],mv:=[23,34,43,55,56]} func174 mf [ld [1,4,6,7,29,30] [2,28] [7,30,6] @jL]
def G51:=akV.q {mv:=[15,33,37,51,54,58]} func51 qm
def akW:=G51.q {merge:=mg [(1,11)]} func175 oL
def anc:=akW.q {} func326 lz
def alp:=anc.q {merge:=mg [(7,46)],sb:=mg [(8,8),(9,9)]} func203 ni
def aoc:=alp.q {merge:=mg [(1,15)]} func387 fN
def anT:=aoc.q {} func367 tL
def aod:=anT.q {merge:=mg [(1,22)],mv:=[26,36,40,50],mb:=mg [(40,13),(50,13)],sb:=mg [(10,10),(11,11),(13,13)]} func388 wC
def ami:=aod.q {merge:=mg [(2,34)],mv:=[35,37,53,65,76,78],mb:=mg [(35,14),(37,15),(65,20),(76,14),(78,15)],sb:=mg [(8,8),(10,10),(11,11),(12,12),(14,14),(15,15)]} func263 jj [ld [2,8,10,11,12,14,15,16,40,41] [0,9,39] [16,41,8,14] @nB]
def alq:=ami.q {} func204 sf [ld [3,4,8,9] [7] [9] @tj [(.exit 0,[9]),(.ret,[4,9])]]
def anf:=alq.q {merge:=mg [(17,82)],mv:=[16,31,51,58,67,83,132],er:=mg [(115,5)]} func328 Bf
def amK:=anf.q {merge:=mg [(2,48)],mv:=[49,51,52,96,104,117,119,120],mb:=mg [(49,19),(51,20),(117,19),(119,20)],sb:=mg [(14,14),(15,15),(16,16),(19,19),(20,20)]} func298 wz [ld [2,6,10,14,15,16,19,20,21,22] [0] [21,22,10,20] @mj]
def akX:=amK.b {mv:=[8,49,51,52],sb:=mg [(55,0),(59,0)],fm:=[19,20],eb:=mg [(56,0),(57,0)]} func176 kK (t:=(kF (.own none) cI))
def akY:=akX.q {} func177 zR
def G52:=akY.q {merge:=mg [(2,21)],mv:=[22,78]} func52 rX [ld [1,4,6,7,25,26] [] [7,26,6] @nh]
def akZ:=G52.q {} func178 uG
def G53:=akZ.q {mv:=[10,28]} func53 yN [ld [2,3,13,14] [] [14,3] @rY]
def G73:=G53.q {merge:=mg [(1,12),(3,31),(5,2)]} func73 E9
def anU:=G73.q {} func368 qu [ld [3,8,9] [7] [3,9] @mm]
def anV:=anU.q {merge:=mg [(2,20)],mv:=[21,28],mb:=mg [(28,7)],sb:=mg [(4,4)]} func369 sk
def af9:=anV.q {} func259 jy
def aqc:Aq:=Jn [pd (.sl dj),pf (.sl .str),pI,pf fY,pd (.sl (.int .i64)),pd .str,pI] [(true,(.sl (.own none) .str)),(false,(.sl (.own none) nw)),rB] [(true,(.sl .arg .str)),(false,(.sl (.own none) nw)),rB] rfl λa=>nI a.1 a.2.1 a.2.2.1 a.2.2.2.1 a.2.2.2.2.1 a.2.2.2.2.2.1 a.2.2.2.2.2.2.1
def ajG:An:={mask:=mk [(3,[0,2,5,6,8,10,14,15,16,17,24,25,26])],peel:=[3],mv:=[40,49,53,54,55,65,66],sb:=mg [(21,21)]}
abbrev S5:SD:=⟨gr (UP dj)::B::DI::B::B::gr .str::DI::B::.ptr 8 0::B::.ptr 10 0::B::B::B::.ptr 14 0::gr (Lm 184320 nw)::DB::gr (Lm 208896 nw)::bs 6 (gr (UP (.int .i64))::DI::DI::bs 40 []),zs 8 ((zsm (Lm 98305 .str))::Z::(some Y2)::Z::Z::Z::(zsm (Lm 172033 .str))::zs 52 []),.none⟩
abbrev abh:SD:=⟨gr (UP dj)::B::DI::B::B::gr .str::DI::B::.ptr 8 0::B::.ptr 10 0::B::B::B::.ptr 14 0::gr (Lm 184320 nw)::DB::gr (Lm 208896 nw)::bs 6 (gr (UP (.int .i64))::DI::DI::bs 40 []),zs 8 ((zsm (.sl .loc .str))::Z::(some Y2)::Z::Z::Z::(zsm (Lm 172033 .str))::zs 52 []),.none⟩
def afZ (X:SD.D S5)(K:Z5 R):=kj (λy0 y1 y2 y3=>ke 0 K S5 ((z2 (w y0 (z3 (w y1 (z2 (u y2))))) X.1),(u y3 X.2.1),X.2.2)) (λy0 y1 y2 y3 y4 y5 y6=>kr K abh ((X.1.1,(X.1.2.1,(y0,(X.1.2.2.2.1,(y1,(y2,(y3,(X.1.2.2.2.2.2.2.2.1,(X.1.2.2.2.2.2.2.2.2.1,(y4,())))))))))),(y5,(X.2.1.2.1,(y6,()))),())) X.1.1 X.1.2.1 (q3 X) (q4 X) (q5 X) (q7 X) (q8 X) X.2.1.2.1 X.2.1.2.2.1
def aiZ:GD:=GD.nil.add 3 (mkl S5 afZ (λX=>(q2 X,q6 X,q9 X,X.2.1.1)))
theorem aiC:XJ E af9.g ajG aiZ (gk f370 0):=lk S5 afZ (λX=>(q2 X,q6 X,q9 X,X.2.1.1)) λX x=>((z2 (w x.1 (z3 (w x.2.1 (z2 (u x.2.2.1))))) X.1),(u x.2.2.2 X.2.1),X.2.2)
theorem aqQ:zfo 370 aqc:=kX.ofAlt (ad8 (Γ:=af9.g) (an:=ajG) (Λ:=aiZ) (by rfl) (af9.s) func370 (by kernel_rfl) (ao (cF aiC nF))) (λa=>by kernel_rfl)
def anW:=af9.add aqQ
def anY:=anW.q {mv:=[27,43],mb:=mg [(43,13)],sb:=mg [(10,10),(11,11),(13,13),(14,14)]} func373 jX [ld [2,8,10,11,12,13,14,22,23] [0,6,21] [23,13,14] @lh [(.exit 0,[23,13,14]),(.ret,[12,23,10,11,13,14])]]
def al9:=anY.q {merge:=mg [(2,57),(6,92),(15,135)],mv:=[58,59,93,94,97,107,108,109,122,123,136,137,145,151,164,165,169,174,184,185],mb:=mg [(58,17),(59,18),(93,17),(94,18),(107,17),(108,18),(136,17),(137,18),(164,17),(165,18),(184,26),(185,22)],sb:=mg [(14,14),(15,15),(17,17),(18,18),(26,26)]} func253 uE [ld [2,14,15,17,18,22,24,28,29,140,141] [0,10] [29,141] @ga [(.exit 0,[29,141])] [(26,.ptr 26 0,some (.sl .loc .str)),(139,.data false (.sl .loc xW),Z)]]
def akg:=al9.q {mv:=[19,20,34,36,38]} func125 yM
def anZ:=akg.q {merge:=mg [(2,17)]} func374 yG
def ama:=anZ.q {} func254 wB
def an2:=ama.q {} func377 vB [ld [1,4,8,9] [7] [9] @wJ [(.exit 0,[9]),(.ret,[4,9])]]
def amb:=an2.q {merge:=mg [(1,4)]} func255 Bd
def apT:=amb.q {} func501 pt
def aph:=apT.q {merge:=mg [(1,4)]} func462 sa
def an3:=aph.q {merge:=mg [(7,34)]} func378 yJ [ld [3,5,12,13] [0,11] [5,13] @rU]
def an4:=an3.q {} func379 yI
def api:=an4.q {merge:=mg [(2,17)]} func463 Bg
def an6:=api.q {merge:=mg [(2,18)]} func381 sc
def amc:=an6.q {merge:=mg [(1,17)]} func256 se
def apj:=amc.q {} func464 yQ
def an7:=apj.q {merge:=mg [(1,42),(4,76),(6,4)]} func382 wj
def an8:=an7.q {} func383 H8
def an9:=an8.q {} func384 Hk
def amd:=an9.q {merge:=mg [(1,30),(3,44)],mv:=[53,68,77],mb:=mg [(77,16)],sb:=mg [(14,14),(15,15)]} func257 oJ
def akh:=amd.q {mv:=[14,34,46,62,69,90,103],sb:=mg [(92,5)]} func126 rV
def aoa:=akh.q {mv:=[24,29]} func385 wy [ld [2,6,8,9] [] [9,8] @uB]
def ame:=aoa.q {mv:=[3,8]} func258 Fe
def amf:=ame.q {} func260 ra
def amh:=amf.q {mv:=[10,24],mb:=mg [(24,5)],sb:=mg [(2,2),(3,3)]} func262 yh
def aki:=amh.q {mv:=[18,37,88,98,121,142],sb:=mg [(90,3)]} func127 wv [ld [2,3,21,22] [] [22,3] @ql,ld [2,3,31,32] [] [32,3] @oE [(.exit 2,[32,3])] [(30,.data false (.sl .loc kJ),Z)],ld [2,3,54,55] [] [55,3] @lf [(.exit 4,[55,3])]]
def G38:=aki.q {merge:=mg [(1,15)],mv:=[22,34,35]} func38 Fb
def G10:=G38.q {merge:=mg [(2,21)],mv:=[22,30,36,37,42,43]} func10 wD [ld [4,6,7,25,26] [24] [7,26,6] @uC]
def G63:=G10.q {merge:=mg [(1,6)]} func63 aK
def G56:=G63.q {merge:=mg [(1,12),(3,31),(5,2)]} func56 FQ
def ak0:=G56.q {merge:=mg [(4,35),(6,2)]} func179 uj [ld [2,3] [1] [3] @sJ [(.exit 0,[3]),(.ret,[2,3])]]
def aoy:=ak0.q {merge:=mg [(1,33),(3,54),(5,2)]} func416 mG
def amM:=aoy.q {} func300 xF [ld [2,3] [0] [3] @AK [(.exit 0,[3]),(.ret,[2,3])]]
def apr:=amM.q {} func473 zx [ld [3,4,5] [] [3,5] @nZ]
def aoz:=apr.q {merge:=mg [(7,39)]} func417 BB [ld [3,4,5] [2] [5] @vg [(.exit 0,[5]),(.ret,[4,5])]]
def amN:=aoz.q {merge:=mg [(7,30),(10,42)]} func301 xG [ld [2,3] [1] [3] @vd [(.exit 0,[3]),(.ret,[2,3])]]
def aoA:=amN.q {merge:=mg [(1,2)]} func418 Bz
def amO:=aoA.q {merge:=mg [(1,21)]} func302 uo [ld [1,4,5] [2] [5] @sP [(.exit 0,[5]),(.ret,[4,5])]]
def ak1:=amO.q {merge:=mg [(1,23)]} func180 pF [ld [1,4,5] [2] [5] @pa [(.exit 0,[5]),(.ret,[4,5])],ld [1,4,6] [2] [6] @vq [(.exit 2,[6]),(.ret,[4,6])]]
def ak6:=ak1.q {} func185 pX [ld [2,3] [1] [3] @sM [(.exit 0,[3]),(.ret,[2,3])]]
def ak7:=ak6.q {merge:=mg [(7,34),(12,57)]} func186 pC [ld [2,3] [0] [3] @oU [(.exit 0,[3]),(.ret,[2,3])],ld [2,3,4,5] [0] [5] @nr [(.exit 2,[5]),(.ret,[2,5])]]
def ala:=ak7.q {merge:=mg [(1,20),(7,50)]} func189 iP [ld [2,3,4] [1] [3,4] @xC [(.exit 0,[3,4]),(.ret,[2,3,4])]]
def aoE:=ala.q {merge:=mg [(1,2)]} func422 sY
def aoF:=aoE.q {} func423 jn
def amX:=aoF.q {merge:=mg [(1,2)]} func311 jD
def alf:=amX.q {sb:=mg [(2,2)]} func194 jq
def amY:=alf.q {merge:=mg [(3,21)],mv:=[10,24]} func312 gF
def ak8:=amY.q {merge:=mg [(1,24),(9,50),(14,2)],mv:=[55]} func187 BT [ld [2,3,4,5] [1] [3,4,5] @xI [(.exit 0,[3,4,5]),(.ret,[2,3,4,5])]]
def aoB:=ak8.q {merge:=mg [(1,18),(4,2),(5,2)]} func419 rE
def amQ:=aoB.q {merge:=mg [(1,55),(3,3),(4,2)]} func304 hH
def amZ:=amQ.q {merge:=mg [(1,2)]} func313 oX
def ak9:=amZ.q {merge:=mg [(1,42),(5,2)]} func188 yw
def am0:=ak9.q {merge:=mg [(1,2)]} func314 rF
def alb:=am0.q {merge:=mg [(1,24),(3,2)]} func190 jo
def G59:=alb.q {merge:=mg [(2,64),(7,94)]} func59 iO [ld [2,3,4] [1] [4] @xy [(.exit 0,[4]),(.ret,[2,4])],ld [2,5,6] [] [6] @uW [(.exit 2,[6]),(.ret,[2,6])]]
def G60:=G59.q {sb:=mg [(2,2)]} func60 BF
def alc:=G60.q {} func191 BA
def G61:=alc.q {sb:=mg [(2,2)]} func61 BC
def ald:=G61.q {} func192 dq
def ale:=ald.q {mv:=[27,40],mb:=mg [(27,3)],sb:=mg [(3,3),(39,3)]} func193 jr [ld [2,3,4] [1] [4,3] @vj]
def G62:=ale.q {mv:=[34,82],mb:=mg [(34,3)],sb:=mg [(43,3)]} func62 hU [ld [2,4] [1] [4,3] @vk [(.exit 0,[4,3])] [(3,.ptr 3 0,some Y1)]]
def apM:=G62.q {merge:=mg [(4,42)]} func494 BD [ld [1,2,3,8,9] [0] [9] @vh [(.exit 0,[9]),(.ret,[8,9])]]
def apN:=apM.q {merge:=mg [(2,6)]} func495 lr
def aoR:=apN.q {merge:=mg [(3,34),(10,57)],mv:=[35,36,64,71,81,82]} func435 uq [ld [2,3,4,5,12,13,14,15,16] [0,7] [3,4,15,16] @kV [(.exit 0,[3,4,15,16]),(.ret,[3,4,12,13,14,15,16])]]
def aoS:=aoR.q {} func436 pE [ld [1,2,8] [3] [1,2,8] @oY]
def am7:=aoS.q {} func321 oS [ld [15,16] [6] [15,16] @uV [(.exit 0,[15,16])] [(12,.data false (.sl .loc (.int .i64)),Z),(13,.data false (.sl .loc (.int .i64)),Z)]]
def aoG:=am7.q {merge:=mg [(1,11)]} func424 od
def am1:=aoG.q {merge:=mg [(1,20)],sb:=mg [(9,9)]} func315 um
def amw:=am1.q {merge:=mg [(1,6)]} func277 oe
def akH:=amw.q {} func154 eH
def amU:=akH.q {} func308 bR
def ao7:=amU.q {} func451 ff
def apl:=ao7.q {merge:=mg [(1,27)]} func466 jS
def ap4:=apl.q {merge:=mg [(1,12)]} func512 oR
def apU:=ap4.q {} func502 zG [ld [0,3,4] [] [3,4] @sT]
def apm:=apU.q {} func467 kM
def aog:=apm.q {merge:=mg [(14,82)]} func391 jQ
def apV:=aog.q {merge:=mg [(1,2)]} func503 Io
def apn:=apV.q {} func468 zB
def aoh:=apn.q {} func392 xt
def apo:=aoh.q {merge:=mg [(1,2)]} func469 yv
def apq:=apo.q {} func470 iQ
def aoi:=apq.q {} func393 zl
def amx:=aoi.q {} func285 sX [ld [0,1,5,6] [] [5,6] @vf]
def aoj:=amx.q {} func394 Bv
def amu:=aoj.q {} func275 hG
def amA:=amu.q {} func288 vO
def ao6:=amA.q {merge:=mg [(1,2)]} func450 rC
def anM:=ao6.q {} func360 lW
def aps:=anM.q {} func474 dV
def apt:=aps.q {} func475 ib
def aoH:=apt.q {sb:=mg [(4,4)]} func425 pB
def apG:=aoH.q {mv:=[19,52]} func488 sW [ld [1,2,6,8] [] [1,2,8] @nu]
def aoI:=apG.q {mv:=[32,39,52,60],sb:=mg [(15,15)]} func426 mT [ld [4,10,15,16] [] [4,16,15] @nU [(.exit 0,[4,16,15])] [(12,.data false (.sl .loc (.int .i64)),Z),(13,.data false (.sl .loc (.int .i64)),Z)]]
def aoQ:=aoI.q {} func434 ur
def apH:=aoQ.q {merge:=mg [(1,2)]} func489 mC
def apI:=apH.q {merge:=mg [(1,12)]} func490 lE
def aoJ:=apI.q {merge:=mg [(1,22)],mv:=[26,44,59],mb:=mg [(59,13)],sb:=mg [(10,10),(11,11),(13,13)]} func427 oW
def ap2:=aoJ.q {} func510 Ak
def ap3:=ap2.q {merge:=mg [(1,14)]} func511 xA [ld [0,1,5,6] [] [5,6] @qE]
def apJ:=ap3.q {merge:=mg [(1,14)]} func491 xv [ld [0,1,5,6] [] [5,6] @qA]
def apK:=apJ.q {} func492 xw
def aoK:=apK.q {} func428 uk
def am2:=aoK.q {merge:=mg [(3,46)],mv:=[90],sb:=mg [(12,12),(13,13)]} func316 zI
def alg:=am2.q {merge:=mg [(1,30),(5,58)],mv:=[44,75],mb:=mg [(75,15)],sb:=mg [(10,10),(11,11)]} func195 nX
def am9:=alg.q {} func323 mW
def am3:=am9.q {} func317 zk
def alh:=am3.b {} func196 lu [ld [1,6,7] [] [7,0] @qH [(.exit 0,[7,0])] [(0,.ptr 0 0,some (sF 1 cI))] .ptr] (t:=(kF (.own none) cI))
def G64:=alh.q {merge:=mg [(3,17)],mv:=[20,35,37,53],sb:=mg [(5,5),(6,6)]} func64 xx [ld [2,3,4] [1] [4,3] @mE]
def amt:=G64.q {merge:=mg [(1,2)]} func274 mU
def aok:=amt.q {} func395 FR [ld [0,3,4] [] [3,4] @uh,ld [0,3,4,5] [] [3,5] @pW [(.exit 2,[3,5])]]
def amv:=aok.q {} func276 xJ
def akG:=amv.q {} func152 uU
def amV:=akG.q {mv:=[23,27]} func309 zw [ld [3,4] [0] [3,4] @nY]
def amW:=amV.q {merge:=mg [(2,17),(5,31)],mv:=[18,32,87,91]} func310 FV [ld [1,2,5,6,7] [] [5,7] @zF]
def ak5:=amW.q {} func184 uZ
def aol:=ak5.q {sb:=mg [(4,4)]} func403 zC
def aom:=aol.q {merge:=mg [(2,22),(6,56)],sb:=mg [(5,5)]} func404 Bw
def aon:=aom.q {merge:=mg [(3,20),(9,44),(12,68)]} func405 qF
def amz:=aon.q {merge:=mg [(2,20)]} func287 iE
def aoL:=amz.q {merge:=mg [(2,25),(7,50),(12,69)],mv:=[26,57,70],sb:=mg [(9,9)]} func429 xH [ld [2,7,8,9,10,11] [0,5] [11,7] @mH [(.exit 0,[11,7]),(.ret,[8,10,11,7,9])]]
def ao5:=aoL.q {merge:=mg [(4,24)]} func449 zD [ld [2,3] [0] [3] @sN [(.exit 0,[3]),(.ret,[2,3])]]
def anL:=ao5.q {merge:=mg [(2,33)],mv:=[63,67],sb:=mg [(9,9)]} func359 kq [ld [2,6,7,8] [0] [7,8] @kG [(.exit 0,[7,8]),(.ret,[6,7,8])]]
def apL:=anL.q {} func493 BE [ld [4,5] [0,1] [5] @vi [(.exit 0,[5]),(.ret,[4,5])]]
def aoM:=apL.q {merge:=mg [(6,46)],mv:=[15,48]} func430 oV [ld [6,7] [0] [6,7] @lF]
def aoN:=aoM.q {} func431 qz [ld [2,8,9,10,11] [0,3,5] [10,11] @mD [(.exit 0,[10,11]),(.ret,[8,9,10,11])]]
def ao4:=aoN.q {} func448 xK
def anG:=ao4.q {} func354 mV
def aoO:=anG.q {merge:=mg [(2,36),(7,61),(12,98)]} func432 zt
def am4:=aoO.q {merge:=mg [(2,31),(6,55),(11,85)],mv:=[33,57,87],sb:=mg [(8,8)]} func318 qG
abbrev ah5:SD:=⟨gr (UP dj)::B::DI::B::B::.ptr 5 0::B::.ptr 7 0::.ptr 8 0::gr (Lm 110592 .str)::DI::DI::gr (Lm 147456 .str)::DI::DI::bs 29 [],zs 5 ((zsm (UP .str))::Z::(some Y0)::(some Y0)::zs 35 []),.none⟩
abbrev abg:SD:=⟨gr (UP dj)::B::DI::B::B::.ptr 5 0::B::.ptr 7 0::.ptr 8 0::gr (Lm 110592 .str)::DI::DI::gr (.sl .loc .str)::DI::DI::bs 29 [],zs 5 ((zsm (UP .str))::Z::(some Y0)::(some Y0)::zs 35 []),.none⟩
def ali:=am4.q1 {mask:=mk [(4,[0,2,5,7,8,9,10,11,12,13,14])],mv:=[31,35]} func197 [pd (.sl dj),pf (.sl .str),pI,pf Ml] [(true,Y0),(false,(.sl (.own none) .str)),rI,rI] (c4 sV) ah5 (λX K=>nt (λy0 y1 y2 y3 y4 y5 y6 y7=>kr K abg ((X.1.1,(X.1.2.1,(y0,(y1,(y2,(y3,(y4,(y5,())))))))),(X.2.1.1,(y6,(y7,()))),())) X.1.1 X.1.2.1 (q2 X) (q3 X) (q4 X) X.2.1.1 X.2.1.2.2.1) (λX=>(q5 X,q6 X,q7 X,X.2.1.2.1)) (λX x=>((z5 (w x.1 (w x.2.1 (u x.2.2.1))) X.1),(z1 (u x.2.2.2) X.2.1),X.2.2))
def alj:=ali.q {merge:=mg [(3,22)],mv:=[23,24,30,39,49,53,55,57,58],sb:=mg [(51,6)]} func198 mB [ld [1,4,6,7,8] [2] [7,8,6] @jR]
def G65:=alj.q {mv:=[15,33,37,51,54,58]} func65 qC
def alk:=G65.q {merge:=mg [(1,11)]} func199 pb
def amB:=alk.q {} func289 sS [ld [3,4,5] [0] [5] @tu [(.exit 0,[5]),(.ret,[4,5])]]
def ak4:=amB.q {merge:=mg [(17,84)],mv:=[16,31,53,60,69,85,139]} func183 Bt
def aoP:=ak4.q {merge:=mg [(1,12)]} func433 lD
def am5:=aoP.q {merge:=mg [(5,54)],sb:=mg [(8,8),(9,9)]} func319 ns
def am6:=am5.q {merge:=mg [(1,15)]} func320 jc
def anI:=am6.q {} func356 pY
def aoT:=anI.q {merge:=mg [(1,22)],mv:=[26,36,51],mb:=mg [(51,13)],sb:=mg [(10,10),(11,11),(13,13)]} func437 xE
def am8:=aoT.q {merge:=mg [(4,32),(6,44)],mv:=[33,35,49,63,68,78,80],mb:=mg [(33,14),(35,15),(78,14),(80,15)],sb:=mg [(10,10),(11,11),(12,12),(18,18),(19,19)]} func322 ui [ld [2,8,10,11,12,14,15,16] [0,9] [16,8,14,15] @nV]
def alm:=am8.q {merge:=mg [(4,50),(14,102)],mv:=[54,55,106,114,128,130,131],mb:=mg [(54,20),(128,30),(130,20)],sb:=mg [(14,14),(15,15),(16,16)]} func200 oc [ld [2,6,10,14,15,16,19,20,21] [0,8] [19,21,10,20] @mF]
def aln:=alm.q {} func201 Aj
def G66:=aln.q {merge:=mg [(3,25)],mv:=[26,66,85,87,88,90,100,102,124],sb:=mg [(11,11),(12,12),(13,13)]} func66 sL [ld [1,4,6,7,8] [2] [7,8,6] @nq]
def alo:=G66.q {} func202 ve
def G67:=alo.q {merge:=mg [(3,15)],mv:=[28]} func67 zA [ld [2,3,4] [1] [4,3] @oa]
def anH:=G67.q {merge:=mg [(2,21)],mv:=[22,37,38]} func355 sU
def anJ:=anH.q {} func357 zH [ld [3,4] [1] [3,4] @sZ]
def anK:=anJ.q {mv:=[27]} func358 rD [ld [2,3,4,10,12,13] [0,6] [12,13] @qD]
def anN:=anK.q {mv:=[26,36,44],mb:=mg [(44,13)],sb:=mg [(10,10),(11,11),(13,13),(14,14)]} func361 uX [ld [2,8,10,11,12,13,14,15] [0,4,6] [15,13,14] @lq [(.exit 0,[15,13,14]),(.ret,[12,15,10,11,13,14])]]
def al4:=anN.q {merge:=mg [(2,58),(6,102),(27,194)],mv:=[70,134,149,150,169,177,203,206,211,221,222],mb:=mg [(221,22),(222,33)],sb:=mg [(14,14),(15,15)]} func248 vc [ld [2,5,6,14,15,16,17,19,20,21,22,23,24] [0,8,10] [23,24,22] @ks [(.exit 0,[23,24,22]),(.ret,[16,23,24,14,15,22])],ld [2,14,15,19,20,21,22,29,30,31] [0,8,10] [29,31] @kt [(.exit 2,[29,31])]]
def akc:=al4.q {mv:=[19,20,34,36,38]} func121 zy
def amy:=akc.q {merge:=mg [(1,16)]} func286 zn
def akI:=amy.q {} func160 xD
def amP:=akI.q {} func303 vP [ld [1,4,5] [0] [5] @xL [(.exit 0,[5]),(.ret,[4,5])]]
def ak2:=amP.q {merge:=mg [(1,4)]} func181 Bs
def apF:=ak2.q {merge:=mg [(1,4)]} func487 AL
def aoC:=apF.q {merge:=mg [(1,4)]} func420 sO
def amR:=aoC.q {merge:=mg [(3,14),(5,39)]} func305 zv [ld [3,5,6] [0] [5,6] @nW]
def amS:=amR.q {} func306 zu
def aoD:=amS.q {merge:=mg [(2,17)]} func421 Bu
def amT:=aoD.q {merge:=mg [(2,18)]} func307 sQ
def ak3:=amT.q {merge:=mg [(1,17)]} func182 sR
def ao8:=ak3.q {} func452 zE
def anO:=ao8.q {merge:=mg [(1,41),(4,84),(6,4)]} func362 xu
def anP:=anO.q {} func363 Iq
def anQ:=anP.q {} func364 HH
def al5:=anQ.q {merge:=mg [(1,29),(3,43)],mv:=[52,67,76],mb:=mg [(76,16)],sb:=mg [(14,14),(15,15)]} func249 oZ
def akd:=al5.q {mv:=[16,36,48,64,71,89,91,107],sb:=mg [(9,9),(10,10)]} func122 sK
def anR:=akd.q {merge:=mg [(3,20)],mv:=[24,33]} func365 xB [ld [2,6,8,9] [] [9,8] @pD]
def al6:=anR.q {mv:=[4,9]} func250 zJ
def al7:=al6.b {mv:=[47,51,65,67,84],mb:=mg [(84,6)],sb:=mg [(6,6),(50,0),(70,0),(71,5)]} func251 xM (t:=(kF (.own none) cI))
def ake:=al7.q {mv:=[17,25,43,45,46,48,58,60,71,144],mb:=mg [(71,3)],sb:=mg [(5,5),(6,6),(7,7),(81,3)]} func123 xz [ld [2,3,4] [1] [4,3] @qB,ld [2,3,10] [1] [10,3] @oT [(.exit 2,[10,3])],ld [2,3,11] [1] [11,3] @lp [(.exit 4,[11,3])]]
def G36:=ake.q {merge:=mg [(1,17)],mv:=[24,36,37,58,65]} func36 FU
def G15:=G36.q {merge:=mg [(3,21)],mv:=[22,23,30,37,39,40,44,45],sb:=mg [(9,9)]} func15 Bx [ld [4,6,7,8] [1] [7,8,6] @uY]
def G92:=G15.q {} func92 xe [ld [1,4,5] [0] [1,5] @Dt [(.exit 0,[1,5]),(.ret,[1,4,5])]]
def G82:=G92.q {} func82 zd
def G83:=G82.q {} func83 AF
def G93:=G83.q {} func93 ow
def alB:=G93.q {} func219 vE
def anp:=alB.q {} func338 Aa
def alC:=anp.q {} func220 Fs [ld [1,4,5] [0] [1,5] @Gp [(.exit 0,[1,5]),(.ret,[1,4,5])]]
def G84:=alC.q {} func84 xf
def al3:=G84.q {} func247 xd
def akb:=al3.q {} func120 tU
def anq:=akb.q {} func339 Bm
def alD:=anq.q {} func221 rn
def G85:=alD.q {} func85 AG [ld [1,4,5] [0] [1,5] @CD [(.exit 0,[1,5]),(.ret,[1,4,5])]]
def G86:=G85.q {} func86 Fp [ld [1,4,5] [0] [1,5] @Gn [(.exit 0,[1,5]),(.ret,[1,4,5])]]
def G87:=G86.q {} func87 CF
def G88:=G87.q {} func88 Fo
def G89:=G88.q {} func89 zb
def alE:=G89.q {} func222 Fq
def anr:=alE.q {} func340 Ft
def alF:=anr.q {} func223 sD
def alG:=alF.q {} func224 ze
def G90:=alG.q {} func90 uR
def alH:=G90.q {} func225 tV
def G91:=alH.q {} func91 CE [ld [1,4,5] [0] [1,5] @Ds [(.exit 0,[1,5]),(.ret,[1,4,5])]]
def G29:=G91.q {} func29 Dr
def G35:=G29.q {} func35 CB
def G30:=G35.q {} func30 Hq [ld [1,4,5] [0] [1,5] @Hr [(.exit 0,[1,5]),(.ret,[1,4,5])]]
def ajV:=G30.q {mv:=[21]} func104 xh [ld [3,4] [0] [3,4] @Dy]
def G94:=ajV.q {mv:=[8]} func94 tX
def alI:=G94.q {} func226 xg
def G95:=alI.q {mv:=[22]} func95 AI [ld [3,4] [0] [3,4] @CG]
def alJ:=G95.q {} func227 Dv
def ajW:=alJ.q {mv:=[21]} func105 oy [ld [3,4] [0] [3,4] @Ht]
def alK:=ajW.q {mv:=[17]} func228 rp
def ans:=alK.q {mv:=[14]} func341 vG
def alL:=ans.q {mv:=[22]} func229 Fx [ld [3,4] [0] [3,4] @Gt]
def G96:=alL.q {mv:=[19]} func96 rq
def ant:=G96.q {} func342 kC
def al8:=ant.q {} func252 CI
def akf:=al8.q {} func124 pR
def anu:=akf.q {} func343 xi
def alM:=anu.q {} func230 nO
def G97:=alM.q {mv:=[22]} func97 AJ [ld [3,4] [0] [3,4] @CH]
def G98:=G97.q {mv:=[22]} func98 Fv [ld [3,4] [0] [3,4] @Gr]
def alN:=G98.q {} func231 zg
def G99:=alN.q {mv:=[22]} func99 CK [ld [3,4] [0] [3,4] @Dz]
def ajR:=G99.q {mv:=[21]} func100 Fu [ld [3,4] [0] [3,4] @Gq]
def ajS:=ajR.q {mv:=[14]} func101 tW
def anv:=ajS.q {} func344 Dw
def alO:=anv.q {mv:=[22]} func232 Fw [ld [3,4] [0] [3,4] @Gs]
def anx:=alO.q {} func346 Du
def ao2:=anx.q {} func446 vH
def anw:=ao2.q {mv:=[22]} func345 Fy [ld [3,4] [0] [3,4] @Gu]
def alP:=anw.q {mv:=[8]} func233 nN
def alQ:=alP.q {mv:=[11]} func234 tY
def ajT:=alQ.q {mv:=[16]} func102 pw
def alR:=ajT.q {} func235 pT
def ajU:=alR.q {mv:=[22]} func103 CJ [ld [3,4] [0] [3,4] @Dx]
def ajX:=ajU.q {} func106 AH
def G31:=ajX.q {mv:=[63]} func31 ox
def G37:=G31.q {} func37 yo
def G32:=G37.q {mv:=[22]} func32 vF [ld [3,4] [0] [3,4] @Hs]
def G41:=G32.q {} func41 jA [ld [4,5] [0,1] [5] @Hp [(.exit 0,[5]),(.ret,[4,5])]]
def aj8:=G41.q {} func117 wP [ld [4,5] [0,1] [5] @Dp [(.exit 0,[5]),(.ret,[4,5])]]
def ajY:=aj8.q {} func107 yX
def alS:=ajY.q {} func236 rh
def ajZ:=alS.q {} func108 AD [ld [4,5] [0,1] [5] @Ck [(.exit 0,[5]),(.ret,[4,5])]]
def alT:=ajZ.q {} func237 zW
def alU:=alT.q {} func238 vD
def anz:=alU.q {} func347 zY
def alV:=anz.q {} func239 Fl [ld [4,5] [0,1] [5] @Gl [(.exit 0,[5]),(.ret,[4,5])]]
def aj0:=alV.q {} func109 wQ
def anA:=aj0.q {} func348 iC
def anF:=anA.q {} func353 wO
def al2:=anF.q {} func246 tP
def anB:=al2.q {} func349 Bl
def alW:=anB.q {} func240 ri
def aj1:=alW.q {} func110 AE [ld [4,5] [0,1] [5] @Cl [(.exit 0,[5]),(.ret,[4,5])]]
def aj2:=aj1.q {} func111 Fj [ld [4,5] [0,1] [5] @Gj [(.exit 0,[5]),(.ret,[4,5])]]
def alX:=aj2.q {} func241 tR
def aj3:=alX.q {} func112 Cn [ld [4,5] [0,1] [5] @Dq [(.exit 0,[5]),(.ret,[4,5])]]
def aj4:=aj3.q {} func113 Fi [ld [4,5] [0,1] [5] @Gi [(.exit 0,[5]),(.ret,[4,5])]]
def aj5:=aj4.q {} func114 yW
def anC:=aj5.q {} func350 zX
def alY:=anC.q {} func242 Fk [ld [4,5] [0,1] [5] @Gk [(.exit 0,[5]),(.ret,[4,5])]]
def anE:=alY.q {} func352 zV
def ao3:=anE.q {} func447 zZ
def anD:=ao3.q {} func351 Fm [ld [4,5] [0,1] [5] @Gm [(.exit 0,[5]),(.ret,[4,5])]]
def alZ:=anD.q {} func243 su
def al0:=alZ.q {} func244 yY
def aj6:=al0.q {} func115 uK
def al1:=aj6.q {} func245 tQ
def aj7:=al1.q {} func116 Cm [ld [4,5] [0,1] [5] @Dm [(.exit 0,[5]),(.ret,[4,5])]]
def aj9:=aj7.q {} func118 uJ
def G33:=aj9.q {} func33 rf
def aka:=G33.q {} func119 Cj
def G34:=aka.q {} func34 Hn [ld [4,5] [0,1] [5] @Ho [(.exit 0,[5]),(.ret,[4,5])]]
def G43:=G34.i {} func43 gz [ld [1,5] [] [0,1,5,19] @nM [(.exit 0,[0,1,5,19])] [(0,.data false (.sl (.lio 0 12288036864) (.int .i64)),Z)] (.some (.sl (.own (some 12288036864)) (.int .i64)))]
def akF:=G43.q {} func150 cA [ld [0,3] [] [0,3] @sB]
def akt:=akF.i {} func138 sA [ld [1,5] [] [0,1,5,20] @km [(.exit 0,[0,1,5,20])] [(0,.data false (.sl (.lio 0 12288036864) .str),Z)] (.some (.sl (.own (some 12288036864)) .str))]
def akj:=akt.i {} func128 uP
def akk:=akj.i {} func129 wX [ld [1,5] [] [0,1,5,43] @rl [(.exit 0,[0,1,5,43])] [(0,.data false (.sl (.lio 0 12288036864) dj),Z)] (.some (.sl (.own (some 12288036864)) dj))]
def amj:=akk.i {} func264 za
def amk:=amj.i {nest:=[30]} func265 Cy [ld [1,5] [] [0,1,5,34] @xb [(.exit 0,[0,1,5,34])] [(0,.data false (.sl (.lio 0 12288036864) kJ),Z)] (.some (.sl (.own (some 12288036864)) kJ))]
def akl:=amk.i {} func130 sC
def akm:=akl.i {} func131 xa [ld [1,5] [] [0,1,5,278] @rm [(.exit 0,[0,1,5,278])] [(0,.data false (.sl (.lio 0 12288036864) cX),Z)] (.some (.sl (.own (some 12288036864)) cX))]
def akn:=akm.i {nest:=[37]} func132 Cw [ld [1,5] [] [0,1,5,41] @wY [(.exit 0,[0,1,5,41])] [(0,.data false (.sl (.lio 0 12288036864) fY),Z)] (.some (.sl (.own (some 12288036864)) fY))]
def ako:=akn.i {} func133 yn [ld [1,5] [] [0,1,5,59] @tt [(.exit 0,[0,1,5,59])] [(0,.data false (.sl (.lio 0 12288036864) fy),Z)] (.some (.sl (.own (some 12288036864)) fy))]
def akp:=ako.i {} func134 Ct [ld [1,5] [] [0,1,5,21] @mq [(.exit 0,[0,1,5,21])] [(0,.data false (.sl (.lio 0 12288036864) .bool),Z)] (.some (.sl (.own (some 12288036864)) .bool))]
def akq:=akp.i {} func135 uO
def aml:=akq.i {} func266 Cx [ld [1,5] [] [0,1,5,76] @wZ [(.exit 0,[0,1,5,76])] [(0,.data false (.sl (.lio 0 12288036864) qg),Z)] (.some (.sl (.own (some 12288036864)) qg))]
def aoe:=aml.i {} func389 CA [ld [1,5] [] [0,1,5,67] @xc [(.exit 0,[0,1,5,67])] [(0,.data false (.sl (.lio 0 12288036864) kY),Z)] (.some (.sl (.own (some 12288036864)) kY))]
def amm:=aoe.i {} func267 oO
def amn:=amm.i {} func268 uQ
def akr:=amn.i {} func136 qw
def aks:=akr.i {} func137 ym [ld [1,5] [] [0,1,5,77] @tr [(.exit 0,[0,1,5,77])] [(0,.data false (.sl (.lio 0 12288036864) dF),Z)] (.some (.sl (.own (some 12288036864)) dF))]
def G39:=aks.i {} func39 tS
def G44:=G39.q {} func44 fW [ld [1,4,5] [0] [1,5] @nL [(.exit 0,[1,5]),(.ret,[1,4,5])]]
def akE:=G44.q {} func149 sv [ld [1,4,5] [0] [1,5] @kl [(.exit 0,[1,5]),(.ret,[1,4,5])]]
def aku:=akE.q {} func139 uM
def akv:=aku.q {} func140 wR [ld [1,4,5] [0] [1,5] @rj [(.exit 0,[1,5]),(.ret,[1,4,5])]]
def amo:=akv.q {} func269 yZ
def amp:=amo.q {} func270 Cr [ld [1,4,5] [0] [1,5] @wV [(.exit 0,[1,5]),(.ret,[1,4,5])]]
def akw:=amp.q {} func141 sy
def akx:=akw.q {} func142 wU [ld [1,4,5] [0] [1,5] @rk [(.exit 0,[1,5]),(.ret,[1,4,5])]]
def aky:=akx.q {} func143 Cp [ld [1,4,5] [0] [1,5] @wS [(.exit 0,[1,5]),(.ret,[1,4,5])]]
def akz:=aky.q {} func144 yk [ld [1,4,5] [0] [1,5] @tq [(.exit 0,[1,5]),(.ret,[1,4,5])]]
def akA:=akz.q {} func145 Co [ld [1,4,5] [0] [1,5] @mn [(.exit 0,[1,5]),(.ret,[1,4,5])]]
def akB:=akA.q {} func146 uL
def amq:=akB.q {} func271 Cq [ld [1,4,5] [0] [1,5] @wT [(.exit 0,[1,5]),(.ret,[1,4,5])]]
def aof:=amq.q {} func390 Cs [ld [1,4,5] [0] [1,5] @wW [(.exit 0,[1,5]),(.ret,[1,4,5])]]
def amr:=aof.q {} func272 oN
def ams:=amr.q {} func273 uN
def akC:=ams.q {} func147 qv
def akD:=akC.q {} func148 yj [ld [1,4,5] [0] [1,5] @tp [(.exit 0,[1,5]),(.ret,[1,4,5])]]
def G40:=akD.q {} func40 pQ
def G42:=G40.i {} func42 DW [ld [1,5] [] [0,1,5,186] @yl [(.exit 0,[0,1,5,186])] [(0,.data false (.sl (.lio 0 12288036864) As),Z)] (.some (.sl (.own (some 12288036864)) As))]
abbrev qc:aq PS:=[pf cI,pd (.sl As)]
def xX:Aq:=Rp qc [rB] (c2 tn)
theorem GK:zfo 7 xX:=f0 {merge:=mg [(12,54),(21,84),(36,121)],mv:=[27,39]} G42.s func7
end
end Go.Proofs.YtfbhfnniblfpbaaGreat.Fn
