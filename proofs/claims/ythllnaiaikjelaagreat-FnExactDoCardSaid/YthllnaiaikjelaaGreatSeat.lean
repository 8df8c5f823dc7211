import Derived.Test.YthllnaiaikjelaaGreatDnSig
import Derived.Test.YthllnaiaikjelaaGreatPure
import Derived.Test.YthllnaiaikjelaaGreatRows
/- Each function of the program is its pure function (made by gen.py). -/
namespace Go.Proofs.YthllnaiaikjelaaGreat.Fn
open Go.Dn
open Go.Pu Go.Proofs.Tryz
set_option maxRecDepth 100000
set_option linter.unusedVariables false
noncomputable section
variable {Λ:Lm} {P:Program} {A0 A1 A2 A3 A4 A5 A6 C R σ:Type} {A:Type->Type} {rs:ar (Bool×FT)} {s:ar PS}
abbrev zkk (R:Type):=Ex->AS->Option R
abbrev zit:FT:=.int .i64
abbrev WJ (a b:FT):FT:=.pair a b
abbrev zpi (b:FT):FT:=.pair (.int .i64) b
abbrev Q4 (n:Nat)(t:CT):FT:=.sl (.own (some n)) t
abbrev zsm (t:FT):Option FT:=some t
abbrev fF (t:FT):PD:=.data false t
abbrev gN (t:FT):PD:=.data true t
abbrev zsa (t:CT):FT:=.sl .arg t
abbrev zfo:=mz Tryz.prog
abbrev B:PD:=.bot
abbrev DI:PD:=.data false (.int .i64)
abbrev DB:PD:=.data false .bool
abbrev Z:au FT:=none
theorem nF {p:Code->Prop}:∀x∈([]:ar Code),p x:=λ_ h=>nomatch h
theorem cF {p:Code->Prop}{a:Code}{l:ar Code}(h:p a)(t:∀x∈l,p x):∀x∈a::l,p x:=List.forall_mem_cons.2 ⟨h,t⟩
theorem hF {p:Code->Prop}{l m:ar Code}(e:l=m)(h:∀x∈m,p x):∀x∈l,p x:=e▸h
theorem fk {E:Env}{Γ:Ci}{F:Gi s->au (jf rs)}{f:Nat}{fn:Func}(an:An)(hS:Sound P E Γ)(hf:P.funcs[f]?=some fn){l:ar Code}(h:∀c∈l,LOk E Γ an Λ c)(hn:(fn.name== "runtime.NumGoroutine")=false:=by kernel_rfl)(hl:jd (fn.body.getD .skip)=l:=by kernel_rfl)(eM:an.cut=[]:=by kernel_rfl)(hF:∀a,LI E Γ an Λ fn rs (ji s a)=F a:=by intro a;kernel_rfl):mz P f (XK s rs F):=mz.of (aiH hS hf hn (EX.of (Fn.hF hl h) eM)) hF
theorem ao {E:Env}{Γ:Ci}{an:An}{b:Code}{l:ar Code}(h:∀c∈l,LOk E Γ an Λ c)(hl:jd b=l:=by kernel_rfl)(hc:an.cut=[]:=by kernel_rfl):EX E Γ an Λ b:=EX.of (Fn.hF hl h) hc
theorem ac {E:Env}{Γ:Ci}{an:An}{b:Code}{l m:ar Code}(h:∀c∈l,LOk E Γ an Λ c)(hc:∀c∈m,COk E Γ an Λ c)(hl:jd b=l:=by kernel_rfl)(hm:lW an.cut b=m:=by kernel_rfl):EX E Γ an Λ b:=⟨Fn.hF hl h,Fn.hF hm hc⟩
theorem fc {E:Env}{Γ:Ci}{F:Gi s->au (jf rs)}{f:Nat}{fn:Func}(an:An)(hS:Sound P E Γ)(hf:P.funcs[f]?=some fn){l m:ar Code}(h:∀c∈l,LOk E Γ an Λ c)(hc:∀c∈m,COk E Γ an Λ c)(hn:(fn.name== "runtime.NumGoroutine")=false:=by kernel_rfl)(hl:jd (fn.body.getD .skip)=l:=by kernel_rfl)(hm:lW an.cut (fn.body.getD .skip)=m:=by kernel_rfl)(hF:∀a,LI E Γ an Λ fn rs (ji s a)=F a:=by intro a;kernel_rfl):mz P f (XK s rs F):=mz.of (aiH hS hf hn ⟨Fn.hF hl h,Fn.hF hm hc⟩) hF
abbrev pd (t:CT):PS:=.data false t
abbrev pf (t:CT):PS:=.data true t
abbrev pI:PS:=.data false (.int .i64)
abbrev rB:Bool×FT:=(false,.bool)
abbrev rI:Bool×FT:=(false,.int .i64)
abbrev rS:Bool×FT:=(false,.str)
abbrev bs:Nat->ar PD->ar PD
 |0,l=>l
 |n+1,l=> .bot::bs n l
abbrev zs:Nat->ar (au FT)->ar (au FT)
 |0,l=>l
 |n+1,l=>none::zs n l
def mk (l:ar (Nat×ec))(n:Nat):ec:=(l.lookup n).getD []
def mg (l:ar (Nat×Nat))(n:Nat):au Nat:=l.lookup n
def ke (n:Nat)(K:zkk R)(d:SD)(x:SD.D d):au R:=K (.exit n) (SD.enc d x)
def kn (K:zkk R)(d:SD)(x:SD.D d):au R:=K .normal (SD.enc d x)
def kr (K:zkk R)(d:SD)(x:SD.D d):au R:=K .ret (SD.enc d x)
def mkl (d:SD)(t:{R:Type}->SD.D d->(Ex->AS->au R)->(σ->au R)->σ->au R)(i:SD.D d->σ):Q6:=⟨d,λX K=>aH (t X K) fuel (i X)⟩
theorem lk {E:Env}{Γ:Ci}{an:An}{c:Code}(d:SD)(t:{R:Type}->SD.D d->(Ex->AS->au R)->(σ->au R)->σ->au R)(i:SD.D d->σ)(w:SD.D d->σ->SD.D d)(h1:Λ (dR c)=mkl d t i:=by kernel_rfl)(h:∀(R:Type)(X:SD.D d)(K:zkk R)(m:Nat)(x:σ),E3 (an.mask (dR c)) (den E Γ an Λ c) (m+1) (SD.enc d (w X x)) K=t X K (λy=>E3 (an.mask (dR c)) (den E Γ an Λ c) m (SD.enc d (w X y)) K) x:=by intro R X K m x;kernel_rfl)(hw:∀X,w X (i X)=X:=by intro X;kernel_rfl):LOk E Γ an Λ c:=lok (mkl d t i) h1 fuel λR X K=>(Yq (λx=>SD.enc d (w X x)) (t X K) (h R X K) fuel (i X)).symm.trans (congrArg (λy=>E3 (an.mask (dR c)) (den E Γ an Λ c) fuel (SD.enc d y) K) (hw X))
def mkc (d:SD)(t:{R:Type}->SD.D d->(Ex->AS->au R)->au R):Q6:=⟨d,λX K=>t X K⟩
theorem ck {E:Env}{Γ:Ci}{an:An}{c:Code}(d:SD)(t:{R:Type}->SD.D d->(Ex->AS->au R)->au R)(h1:Λ (Cp c)=mkc d t:=by kernel_rfl)(h:∀(R:Type)(X:SD.D d)(K:zkk R),t X K=den E Γ an Λ c (SD.enc d X) (λe st'=>K e (st'.mask (an.mask (Cp c+1)))):=by intro R X K;kernel_rfl):COk E Γ an Λ c:=cok (mkc d t) h1 h
def u {A B:Type}(y:A)(x:A×B):A×B:=(y,x.2)
def w {A B:Type}(y:A)(f:B->B)(x:A×B):A×B:=(y,f x.2)
def z1 {B:Type}(f:B->B)(x:A0×B):A0×B:=(x.1,f x.2)
def z2 {B:Type}(f:B->B)(x:A0×A1×B):A0×A1×B:=(x.1,x.2.1,f x.2.2)
def z3 {B:Type}(f:B->B)(x:A0×A1×A2×B):A0×A1×A2×B:=(x.1,x.2.1,x.2.2.1,f x.2.2.2)
def z5 {B:Type}(f:B->B)(x:A0×A1×A2×A3×A4×B):A0×A1×A2×A3×A4×B:=(x.1,x.2.1,x.2.2.1,x.2.2.2.1,x.2.2.2.2.1,f x.2.2.2.2.2)
def z6 {B:Type}(f:B->B)(x:A0×A1×A2×A3×A4×A5×B):A0×A1×A2×A3×A4×A5×B:=(x.1,x.2.1,x.2.2.1,x.2.2.2.1,x.2.2.2.2.1,x.2.2.2.2.2.1,f x.2.2.2.2.2.2)
def q2 {B:Type}(x:(A0×A1×A2×B)×C):A2:=x.1.2.2.1
def q3 {B:Type}(x:(A0×A1×A2×A3×B)×C):A3:=x.1.2.2.2.1
def q4 {B:Type}(x:(A0×A1×A2×A3×A4×B)×C):A4:=x.1.2.2.2.2.1
def q5 {B:Type}(x:(A0×A1×A2×A3×A4×A5×B)×C):A5:=x.1.2.2.2.2.2.1
def q6 {B:Type}(x:(A0×A1×A2×A3×A4×A5×A6×B)×C):A6:=x.1.2.2.2.2.2.2.1
def q7 {A7 B:Type}(x:(A0×A1×A2×A3×A4×A5×A6×A7×B)×C):A7:=x.1.2.2.2.2.2.2.2.1
def q8 {A7 A8 B:Type}(x:(A0×A1×A2×A3×A4×A5×A6×A7×A8×B)×C):A8:=x.1.2.2.2.2.2.2.2.2.1
def q9 {A7 A8 A9 B:Type}(x:(A0×A1×A2×A3×A4×A5×A6×A7×A8×A9×B)×C):A9:=x.1.2.2.2.2.2.2.2.2.2.1
def c1 {B:Type}(f:A0->R)(a:A0×B):R:=f a.1
def c2 {B:Type}(f:A0->A1->R)(a:A0×A1×B):R:=f a.1 a.2.1
def c4 {B:Type}(f:A0->A1->A2->A3->R)(a:A0×A1×A2×A3×B):R:=f a.1 a.2.1 a.2.2.1 a.2.2.2.1
theorem f0 {E:Env}{Γ:Ci}{F:Gi s->au (jf rs)}{f:Nat}{fn:Func}(an:An)(hS:Sound P E Γ)(hf:P.funcs[f]?=some fn)(hn:(fn.name== "runtime.NumGoroutine")=false:=by kernel_rfl)(hl:jd (fn.body.getD .skip)=[]:=by kernel_rfl)(eM:an.cut=[]:=by rfl)(hF:∀a,LI E Γ an Lm.nil fn rs (ji s a)=F a:=by intro a;kernel_rfl):mz P f (XK s rs F):=mz.of (aiH hS hf hn (EX.of (Fn.hF hl nF) eM)) hF
abbrev Y0:FT:=zpi (zpi (zpi zit))
abbrev Y1:FT:=WJ (Q4 36865 .str) (WJ (Q4 36868 eE) (WJ (WJ Y0 (WJ (zpi (zpi (zpi (Q4 36892 (.int .i64))))) (WJ (Q4 36895 kU) zit))) (WJ (Q4 36901 dN) (WJ (Q4 36904 jQ) (WJ (.sl .arg gV) (WJ (.sl .arg .bool) (WJ (zpi (WJ .bool (.sl .arg (.int .i64)))) (WJ (WJ (.sl .arg tr) (WJ (.sl .arg nj) (WJ .str (.sl .arg (.int .i64))))) (WJ (.sl .arg eu) (WJ .bool (WJ (.sl .arg .str) (WJ (.sl .arg (.int .i64)) (WJ (.sl .arg (.int .i64)) (WJ zit Y0))))))))))))))
abbrev Y2:FT:=zpi (zpi (zpi (.sl .arg (.int .i64))))
def E:Env:={ty:=[(3,⟨false,(.int .i64),[]⟩),
 (4,⟨false,.bool,[]⟩),
 (5,⟨false,(.int .u8),[]⟩),
 (9,⟨false,.str,[]⟩),
 (22,⟨false,(.sl cR),[(182,0)]⟩),
 (23,⟨false,(.sl cz),[(220,0)]⟩),
 (24,⟨false,(.sl fP),[(185,0)]⟩),
 (25,⟨false,(.sl .str),[(9,0)]⟩),
 (27,⟨true,(.sl .str),[(0,1)]⟩),
 (29,⟨true,yT,[(0,1),(1,1),(2,1),(3,1)]⟩),
 (30,⟨false,(.sl (.int .i64)),[(3,0)]⟩),
 (32,⟨true,gW,[(0,1),(1,1),(2,1),(3,1),(4,4),(8,1),(9,1)]⟩),
 (34,⟨false,(.sl cR),[(115,0)]⟩),
 (35,⟨false,(.sl cz),[(196,0)]⟩),
 (36,⟨false,(.sl fP),[(187,0)]⟩),
 (37,⟨true,(.sl .str),[(0,1)]⟩),
 (38,⟨true,yT,[(0,1),(1,1),(2,1),(3,1)]⟩),
 (40,⟨true,gW,[(0,1),(1,1),(2,1),(3,1),(4,4),(8,1),(9,1)]⟩),
 (47,⟨true,IG,[(0,1),(1,1),(2,1),(3,1),(4,1),(5,1),(6,1),(7,1)]⟩),
 (49,⟨true,E8,[(0,1),(1,1),(2,1),(3,1),(4,1),(5,1),(6,1),(7,1),(8,8)]⟩),
 (51,⟨true,aib,[(0,1),(1,16),(17,1),(18,1),(19,1),(20,1)]⟩),
 (53,⟨true,nG,[(0,1),(1,1),(2,1)]⟩),
 (55,⟨true,zV,[(0,1),(1,1),(2,21),(23,3),(26,1),(27,1)]⟩),
 (59,⟨true,IG,[(0,1),(1,1),(2,1),(3,1),(4,1),(5,1),(6,1),(7,1)]⟩),
 (61,⟨true,E8,[(0,1),(1,1),(2,1),(3,1),(4,1),(5,1),(6,1),(7,1),(8,8)]⟩),
 (63,⟨true,aib,[(0,1),(1,16),(17,1),(18,1),(19,1),(20,1)]⟩),
 (64,⟨true,nG,[(0,1),(1,1),(2,1)]⟩),
 (66,⟨true,zV,[(0,1),(1,1),(2,21),(23,3),(26,1),(27,1)]⟩),
 (88,⟨true,(.sl .str),[(0,1)]⟩),
 (89,⟨false,(.sl eE),[(359,0)]⟩),
 (91,⟨true,yT,[(0,1),(1,1),(2,1),(3,1)]⟩),
 (93,⟨true,jQ,[(0,1),(1,1),(2,1),(3,1)]⟩),
 (94,⟨false,(.sl kU),[(261,0)]⟩),
 (96,⟨true,ux,[(0,4),(4,4),(8,1),(9,1)]⟩),
 (97,⟨false,(.sl dN),[(257,0)]⟩),
 (98,⟨false,(.sl jQ),[(93,0)]⟩),
 (99,⟨false,(.sl gV),[(266,0)]⟩),
 (100,⟨false,(.sl .bool),[(4,0)]⟩),
 (102,⟨true,zW,[(0,1),(1,1),(2,1)]⟩),
 (103,⟨false,(.sl tr),[(361,0)]⟩),
 (104,⟨false,(.sl nj),[(365,0)]⟩),
 (106,⟨true,(.sl nj),[(0,1)]⟩),
 (108,⟨true,MN,[(0,1),(1,1)]⟩),
 (110,⟨true,pH,[(0,1),(1,1),(2,2)]⟩),
 (111,⟨false,(.sl eu),[(367,0)]⟩),
 (113,⟨true,IE,[(0,1),(1,1),(2,1),(3,1),(4,1)]⟩),
 (115,⟨true,cR,[(0,1),(1,1),(2,10),(12,1),(13,1),(14,1),(15,1),(16,3),(19,4),(23,1),(24,1),(25,1),(26,1),(27,1),(28,5)]⟩),
 (117,⟨false,(.sl agX),[(202,0)]⟩),
 (147,⟨false,(.sl Ud),[(249,0)]⟩),
 (161,⟨true,(.sl .str),[(0,1)]⟩),
 (162,⟨false,(.sl eE),[(432,0)]⟩),
 (163,⟨true,yT,[(0,1),(1,1),(2,1),(3,1)]⟩),
 (164,⟨true,jQ,[(0,1),(1,1),(2,1),(3,1)]⟩),
 (165,⟨false,(.sl kU),[(498,0)]⟩),
 (167,⟨true,ux,[(0,4),(4,4),(8,1),(9,1)]⟩),
 (168,⟨false,(.sl dN),[(405,0)]⟩),
 (169,⟨false,(.sl jQ),[(164,0)]⟩),
 (170,⟨false,(.sl gV),[(438,0)]⟩),
 (171,⟨true,zW,[(0,1),(1,1),(2,1)]⟩),
 (172,⟨false,(.sl tr),[(516,0)]⟩),
 (173,⟨false,(.sl nj),[(539,0)]⟩),
 (175,⟨true,(.sl nj),[(0,1)]⟩),
 (176,⟨true,MN,[(0,1),(1,1)]⟩),
 (178,⟨true,pH,[(0,1),(1,1),(2,2)]⟩),
 (179,⟨false,(.sl eu),[(412,0)]⟩),
 (180,⟨true,IE,[(0,1),(1,1),(2,1),(3,1),(4,1)]⟩),
 (182,⟨true,cR,[(0,1),(1,1),(2,10),(12,1),(13,1),(14,1),(15,1),(16,3),(19,4),(23,1),(24,1),(25,1),(26,1),(27,1),(28,5)]⟩),
 (185,⟨true,fP,[(0,3),(3,1),(4,1),(5,1)]⟩),
 (187,⟨true,fP,[(0,3),(3,1),(4,1),(5,1)]⟩),
 (194,⟨true,nG,[(0,1),(1,1),(2,1)]⟩),
 (196,⟨true,cz,[(0,1),(1,1),(2,3),(5,1),(6,1),(7,1)]⟩),
 (202,⟨true,agX,[(0,1),(1,1),(2,1),(3,1)]⟩),
 (218,⟨true,nG,[(0,1),(1,1),(2,1)]⟩),
 (220,⟨true,cz,[(0,1),(1,1),(2,3),(5,1),(6,1),(7,1)]⟩),
 (249,⟨true,Ud,[(0,1),(1,1),(2,1),(3,1)]⟩),
 (253,⟨true,nG,[(0,1),(1,1),(2,1)]⟩),
 (255,⟨true,Oo,[(0,16),(16,1),(17,1)]⟩),
 (257,⟨true,dN,[(0,4),(4,3),(7,3),(10,18),(28,1),(29,1)]⟩),
 (261,⟨true,kU,[(0,1),(1,1),(2,1)]⟩),
 (266,⟨true,gV,[(0,1),(1,1),(2,1),(3,1),(4,1),(5,1)]⟩),
 (284,⟨false,(.sl (.int .u8)),[(5,0)]⟩),
 (313,⟨true,azg,[(0,1),(1,1),(2,1),(3,1),(4,1)]⟩),
 (317,⟨true,TIp,[(0,1),(1,1),(2,1),(3,1),(4,1),(5,1),(6,1)]⟩),
 (359,⟨true,eE,[(0,1),(1,1),(2,1),(3,1)]⟩),
 (361,⟨true,tr,[(0,1),(1,1),(2,1),(3,1),(4,1),(5,1),(6,1),(7,1),(8,1)]⟩),
 (363,⟨true,IE,[(0,1),(1,1),(2,1),(3,1),(4,1)]⟩),
 (365,⟨true,nj,[(0,1),(1,5),(6,1)]⟩),
 (367,⟨true,eu,[(0,5),(5,1),(6,1),(7,1)]⟩),
 (377,⟨true,IE,[(0,1),(1,1),(2,1),(3,1),(4,1)]⟩),
 (394,⟨true,Cj,[(0,1),(1,1),(2,1),(3,1),(4,1),(5,1)]⟩),
 (401,⟨true,nG,[(0,1),(1,1),(2,1)]⟩),
 (403,⟨true,Oo,[(0,16),(16,1),(17,1)]⟩),
 (405,⟨true,dN,[(0,4),(4,3),(7,3),(10,18),(28,1),(29,1)]⟩),
 (410,⟨true,IE,[(0,1),(1,1),(2,1),(3,1),(4,1)]⟩),
 (412,⟨true,eu,[(0,5),(5,1),(6,1),(7,1)]⟩),
 (419,⟨false,(.sl Cj),[(394,0)]⟩),
 (422,⟨false,(.sl pG),[(479,0)]⟩),
 (432,⟨true,eE,[(0,1),(1,1),(2,1),(3,1)]⟩),
 (438,⟨true,gV,[(0,1),(1,1),(2,1),(3,1),(4,1),(5,1)]⟩),
 (479,⟨true,pG,[(0,1),(1,1)]⟩),
 (486,⟨false,(.sl pG),[(490,0)]⟩),
 (490,⟨true,pG,[(0,1),(1,1)]⟩),
 (498,⟨true,kU,[(0,1),(1,1),(2,1)]⟩),
 (509,⟨false,(.sl E8),[(61,0)]⟩),
 (516,⟨true,tr,[(0,1),(1,1),(2,1),(3,1),(4,1),(5,1),(6,1),(7,1),(8,1)]⟩),
 (520,⟨false,(.int .u32),[]⟩),
 (539,⟨true,nj,[(0,1),(1,5),(6,1)]⟩)],eqs:=[(61,[.int,.int,.int,.int,.int,.int,.int,.int,.int,.int,.int,.int,.int,.int,.int,.str]),(255,[.int,.int,.int,.int,.int,.int,.int,.int,.int,.int,.int,.int,.int,.int,.int,.str,.int,.int]),(363,[.int,.int,.int,.int,.int]),(394,[.int,.int,.int,.int,.int,.int])],fts:=[]}
theorem base:Sound Tryz.prog E Ci.nil:=Sound.nil (acH (by kernel_rfl)) (acK (by kernel_rfl)) (acJ (by kernel_rfl)) (by kernel_rfl)
structure SG where (g:Ci) (s:Sound Tryz.prog E g)
def SG.add (S:SG){f:Nat}{F:Ez}(h:zfo f F):SG:=⟨S.g.add f F,S.s.add h⟩
def G0:SG:=⟨Ci.nil,base⟩
def SG.qk (S:SG){f:Nat}{fn:Func}(an:An)(hf:Tryz.prog.funcs[f]?=some fn)(s:ar PS)(rs:ar (Bool×FT))(F:Gi s->au (jf rs)){l:ar Code}(h:∀c∈l,LOk E S.g an Λ c)(hn:(fn.name== "runtime.NumGoroutine")=false:=by kernel_rfl)(hl:jd (fn.body.getD .skip)=l:=by kernel_rfl)(eM:an.cut=[]:=by kernel_rfl)(hF:∀a,LI E S.g an Λ fn rs (ji s a)=F a:=by intro a;kernel_rfl):SG:=S.add (mz.of (aiH S.s hf hn (EX.of (Fn.hF hl h) eM)) hF)
def SG.q1 (S:SG){f:Nat}{fn:Func}(an:An)(hf:Tryz.prog.funcs[f]?=some fn)(s:ar PS)(rs:ar (Bool×FT))(F:Gi s->au (jf rs))(d:SD)(t:{R:Type}->SD.D d->(Ex->AS->au R)->(σ->au R)->σ->au R)(i:SD.D d->σ)(w:SD.D d->σ->SD.D d)(h1:(Lm.nil.add (dR (gJ fn 0)) (mkl d t i)) (dR (gJ fn 0))=mkl d t i:=by kernel_rfl)(h:∀(R:Type)(X:SD.D d)(K:zkk R)(m:Nat)(x:σ),E3 (an.mask (dR (gJ fn 0))) (den E S.g an (Lm.nil.add (dR (gJ fn 0)) (mkl d t i)) (gJ fn 0)) (m+1) (SD.enc d (w X x)) K=t X K (λy=>E3 (an.mask (dR (gJ fn 0))) (den E S.g an (Lm.nil.add (dR (gJ fn 0)) (mkl d t i)) (gJ fn 0)) m (SD.enc d (w X y)) K) x:=by intro R X K m x;kernel_rfl)(hw:∀X,w X (i X)=X:=by intro X;kernel_rfl)(hn:(fn.name== "runtime.NumGoroutine")=false:=by kernel_rfl)(hl:jd (fn.body.getD .skip)=[gJ fn 0]:=by kernel_rfl)(eM:an.cut=[]:=by kernel_rfl)(hF:∀a,LI E S.g an (Lm.nil.add (dR (gJ fn 0)) (mkl d t i)) fn rs (ji s a)=F a:=by intro a;kernel_rfl):SG:=S.add (mz.of (aiH S.s hf hn (EX.of (Fn.hF hl (cF (lk d t i w h1 h hw) nF)) eM)) hF)
def Ty (T:Nat):Shape:=(jR E.ty T).getD ⟨false,.bool,[]⟩
def kF (k:FK):CT->FT
 | .pair a b=> .pair (kF k a) (kF k b)
 | .sl e=> .sl k e
 | .int k=> .int k
 | .bool=> .bool
 | .str=> .str
def sF:Nat->CT->FT
 |n,.pair a b=> .pair (sF n a) (sF (n+3*a.size) b)
 |n,.sl e=> .sl (.own (some n)) e
 |_,.int k=> .int k
 |_,.bool=> .bool
 |_,.str=> .str
def sg (fn:Func):ar PS:=fn.params.toList.map λT=> .data (Ty T).agg (Ty T).ct
def rz (fn:Func):ar (Bool×FT):=fn.resultTypes.toList.map λT=>((Ty T).agg,kF (.own none) (Ty T).ct)
def Cu (R:Type):ar PS->Type
 |[]=>R
 | .data _ t::r=>t.D->Cu R r
 | .fn _::r=>Cu R r
def un:(s:ar PS)->Cu R s->Gi s->R
 |[],f,_=>f
 | .data _ _::r,f,a=>un r (f a.1) a.2
 | .fn _::r,f,a=>un r f a
def dT:ar PD->Nat->Type
 |[],_=>Unit
 | .data _ t::_,0=>t.ct.D
 |_::_,0=>Unit
 |_::r,n+1=>dT r n
def dG:(l:ar PD)->(n:Nat)->Kr l->dT l n
 |[],_,_=>()
 | .data _ _::_,0,x=>x.1
 | .bot::_,0,_=>()
 | .ptr _ _::_,0,_=>()
 | .fn _::_,0,_=>()
 | .data _ _::r,n+1,x=>dG r n x.2
 | .bot::r,n+1,x=>dG r n x
 | .ptr _ _::r,n+1,x=>dG r n x
 | .fn _::r,n+1,x=>dG r n x
def dP:(l:ar PD)->(n:Nat)->dT l n->Kr l->Kr l
 |[],_,_,x=>x
 | .data _ _::_,0,y,x=>(y,x.2)
 | .bot::_,0,_,x=>x
 | .ptr _ _::_,0,_,x=>x
 | .fn _::_,0,_,x=>x
 | .data _ _::r,n+1,y,x=>(x.1,dP r n y x.2)
 | .bot::r,n+1,y,x=>dP r n y x
 | .ptr _ _::r,n+1,y,x=>dP r n y x
 | .fn _::r,n+1,y,x=>dP r n y x
def bT:ar (au FT)->Nat->Type
 |[],_=>Unit
 |some t::_,0=>t.ct.D
 |none::_,0=>Unit
 |_::r,n+1=>bT r n
def bG:(l:ar (au FT))->(n:Nat)->Js l->bT l n
 |[],_,_=>()
 |some _::_,0,x=>x.1
 |none::_,0,_=>()
 |some _::r,n+1,x=>bG r n x.2
 |none::r,n+1,x=>bG r n x
def bP:(l:ar (au FT))->(n:Nat)->bT l n->Js l->Js l
 |[],_,_,x=>x
 |some _::_,0,y,x=>(y,x.2)
 |none::_,0,_,x=>x
 |some _::r,n+1,y,x=>(x.1,bP r n y x.2)
 |none::r,n+1,y,x=>bP r n y x
def pk (d:SD)(i:Nat):Nat:=match nth d.slots i with
 |some (.data _ _)=>0
 |some _=>1
 |none=>2
def PK (d:SD)(i:Nat):Nat->Type
 |0=>dT d.slots i
 |1=>bT d.boxes i
 |_=>ioD d.io
abbrev PT (d:SD)(i:Nat):Type:=PK d i (pk d i)
def gK (d:SD)(i:Nat)(X:d.D):(k:Nat)->PK d i k
 |0=>dG d.slots i X.1
 |1=>bG d.boxes i X.2.1
 |_+2=>X.2.2
def pK (d:SD)(i:Nat)(X:d.D):(k:Nat)->PK d i k->d.D
 |0,y=>(dP d.slots i y X.1,X.2)
 |1,y=>(X.1,bP d.boxes i y X.2.1,X.2.2)
 |_+2,y=>(X.1,X.2.1,y)
def St (d:SD):ec->Type
 |[]=>Unit
 |[p]=>PT d p
 |p::q::r=>PT d p×St d (q::r)
def gS (d:SD)(X:d.D):(l:ec)->St d l
 |[]=>()
 |[p]=>gK d p X (pk d p)
 |p::q::r=>(gK d p X (pk d p),gS d X (q::r))
def pS (d:SD):(l:ec)->St d l->d.D->d.D
 |[],_,X=>X
 |[p],y,X=>pK d p X (pk d p) y
 |p::q::r,y,X=>pS d (q::r) y.2 (pK d p X (pk d p) y.1)
def Cv (d:SD)(R:Type):ec->Type
 |[]=>R
 |p::r=>PT d p->Cv d R r
def aV (d:SD)(X:d.D):(l:ec)->Cv d R l->R
 |[],f=>f
 |p::r,f=>aV d X r (f (gK d p X (pk d p)))
def cV (d:SD)(K:d.D->R):(l:ec)->d.D->Cv d R l
 |[],X=>K X
 |p::r,X=>λy=>cV d K r (pK d p X (pk d p) y)
def Cz (d:SD)(R:Type):ec->Type
 |[]=>Unit->R
 |p::r=>Cv d R (p::r)
def cZ (d:SD)(K:d.D->R):(l:ec)->d.D->Cz d R l
 |[],X=>λ_=>K X
 |p::r,X=>cV d K (p::r) X
def pls (d:SD):ec:=(List.range d.slots.length).filter (λi=>match nth d.slots i with|some (.data _ _)=>true|_=>false)++(List.range d.slots.length).filter (λi=>match nth d.boxes i with|some (some _)=>true|_=>false)++match d.io with| .some _=>[d.slots.length]|_=>[]
def kps (d:SD):ec:=(List.range d.slots.length).filter λi=>(match nth d.slots i with|some .bot=>false|_=>true)||match nth d.boxes i with|some (some _)=>true|_=>false
def TT (d:SD)(s:ec)(R:Type):ar (Ex×ec)->Type
 |[]=>Cv d ((St d s->au R)->St d s->au R) ((pls d).filter λi=> !s.contains i)
 |x::r=>Cz d (au R) x.2->TT d s R r
def tT (d:SD)(s:ec)(X:d.D)(K:zkk R):(l:ar (Ex×ec))->TT d s R l->(St d s->au R)->St d s->au R
 |[],f=>aV d X _ f
 |x::r,f=>tT d s X K r (f (cZ d (λY=>K x.1 (d.enc Y)) x.2 X))
structure LS (fn:Func) where (d:SD) (σ:Type) (t:{R:Type}->d.D->(Ex->AS->Option R)->(σ->Option R)->σ->Option R) (i:d.D->σ) (w:d.D->σ->d.D)
def fo (i:Nat):Code->au Oper
 | .region _ l _=>l.toList.find? λo=>match o.dst with|some j=>Nat.beq j i|none=>false
 | .seq a b=>match fo i a with|none=>fo i b|x=>x
 | .cond _ a b=>match fo i a with|none=>fo i b|x=>x
 | .block _ a=>fo i a
 | .loop a=>fo i a
 |_=>none
def kP (f:Nat->CT->FT)(fn:Func)(i:Nat):PD×au FT:=match fn.params[i]?,fo i (fn.body.getD .skip)with
 |some T,_=>(.data (Ty T).agg (f (12288*i) (Ty T).ct),none)
 |_,some o=>match o.op with
  | .alloc T=>(.ptr i 0,some (f (12288*i+1) (Ty T).ct))
  | .box T _=>(.ptr i 0,some (f (12288*i+1) (Ty T).ct))
  |_=>(.data (Ty o.type).agg (f (12288*i) (Ty o.type).ct),none)
 |_,_=>(.bot,none)
def dS (fn:Func)(a b:ec)(x:ar (Nat×PD×au FT))(io:IoD):SD:=
 let l:=(List.range fn.ntmps).map λi=>match x.lookup i with
  |some y=>y
  |none=>bif a.contains i then kP sF fn i else bif b.contains i then kP (λ_=>kF .arg) fn i else(.bot,none)
 ⟨l.map (·.1),l.map (·.2),io⟩
def ld {fn:Func}(a b s:ec)(T:∀R,A R)(l:ar (Ex×ec):=[(.exit 0,s)])(x:ar (Nat×PD×au FT):=[])(io:IoD:=.none)(h:∀R,A R=TT (dS fn a b x io) s R l:=by intro R;kernel_rfl):LS fn:=⟨dS fn a b x io,St (dS fn a b x io) s,λ{R} X K=>tT (dS fn a b x io) s X K l (cast (h R) (T R)),λX=>gS (dS fn a b x io) X s,λX y=>pS (dS fn a b x io) s y X⟩
structure CS (fn:Func) where (d:SD) (o:List Nat) (t:{R:Type}->d.D->(Ex->AS->Option R)->Option R)
def TC (d:SD)(R:Type):ar (Ex×ec)->Type
 |[]=>Cv d (au R) (pls d)
 |x::r=>Cz d (au R) x.2->TC d R r
def tC (d:SD)(X:d.D)(K:zkk R):(l:ar (Ex×ec))->TC d R l->au R
 |[],f=>aV d X _ f
 |x::r,f=>tC d X K r (f (cZ d (λY=>K x.1 (d.enc Y)) x.2 X))
def lc {fn:Func}(a b o:ec)(T:∀R,A R)(l:ar (Ex×ec))(x:ar (Nat×PD×au FT):=[])(io:IoD:=.none)(h:∀R,A R=TC (dS fn a b x io) R l:=by intro R;kernel_rfl):CS fn:=⟨dS fn a b x io,o,λ{R} X K=>tC (dS fn a b x io) X (λe s=>K e (s.mask o)) l (cast (h R) (T R))⟩
def cu:FT:=.pair (.sl .anZ (.int .u8)) (.pair (.int .i64) (.int .i64))
def lb {fn:Func}(a b s:ec)(T:∀R,A R)(l:ar (Ex×ec):=[(.exit 0,s)])(x:ar (Nat×PD×au FT):=[])(h:∀R,A R=TT (dS fn a b ((0,.ptr 0 0,some cu)::x) .ptr) s R l:=by intro R;kernel_rfl):LS fn:=ld a b s T l ((0,.ptr 0 0,some cu)::x) .ptr h
def lx {fn:Func}(a b o:ec)(T:∀R,A R)(l:ar (Ex×ec))(x:ar (Nat×PD×au FT):=[])(h:∀R,A R=TC (dS fn a b ((0,.ptr 0 0,some cu)::x) .ptr) R l:=by intro R;kernel_rfl):CS fn:=lc a b o T l ((0,.ptr 0 0,some cu)::x) .ptr h
section
variable (Γ:Ci) (an:An) (fn:Func)
def lac (c:ec):Nat->ar (CS fn)->Lm
 |_,[]=>Lm.nil
 |j,l::r=>(lac c (j+1) r).add (Cp (Hw c fn j)) (mkc l.d l.t)
def lam (B:Lm):Nat->ar (LS fn)->Lm
 |_,[]=>B
 |k,l::r=>(lam B (k+1) r).add (dR (gJ fn k)) (mkl l.d l.t l.i)
def mac (c:ec)(n:Nat):Nat->ar (CS fn)->ec
 |_,[]=>[]
 |j,l::r=>bif Nat.beq n (Cp (Hw c fn j)) then kps l.d else bif Nat.beq n (Cp (Hw c fn j)+1) then l.o else mac c n (j+1) r
def msk (c:ec)(y:ar (CS fn))(n:Nat):Nat->ar (LS fn)->ec
 |_,[]=>mac fn c n 0 y
 |k,l::r=>bif Nat.beq n (dR (gJ fn k)) then kps l.d else msk c y n (k+1) r
def wm (l:ar (LS fn))(y:ar (CS fn)):An:={an with mask:=λn=>msk fn an.cut y n 0 l}
def LL (Λ:Lm):Nat->ar (LS fn)->Prop
 |_,[]=>True
 |k,l::r=>Λ (dR (gJ fn k))=mkl l.d l.t l.i/\(∀(R:Type)(X:l.d.D)(K:zkk R)(m:Nat)(x:l.σ),E3 (an.mask (dR (gJ fn k))) (den E Γ an Λ (gJ fn k)) (m+1) (l.d.enc (l.w X x)) K=l.t X K (λy=>E3 (an.mask (dR (gJ fn k))) (den E Γ an Λ (gJ fn k)) m (l.d.enc (l.w X y)) K) x)/\(∀X,l.w X (l.i X)=X)/\LL Λ (k+1) r
def CC (Λ:Lm):Nat->ar (CS fn)->Prop
 |_,[]=>True
 |k,l::r=>Λ (Cp (Hw an.cut fn k))=mkc l.d l.t/\(∀(R:Type)(X:l.d.D)(K:zkk R),l.t X K=den E Γ an Λ (Hw an.cut fn k) (l.d.enc X) (λe st'=>K e (st'.mask (an.mask (Cp (Hw an.cut fn k)+1)))))/\CC Λ (k+1) r
def OK (l:ar (LS fn))(y:ar (CS fn)):Prop:=(fn.name== "runtime.NumGoroutine")=false/\jd (fn.body.getD .skip)=(List.range' 0 l.length).map (gJ fn)/\lW an.cut (fn.body.getD .skip)=(List.range' 0 y.length).map (Hw an.cut fn)/\LL Γ (wm an fn l y) fn (lam fn (lac fn an.cut 0 y) 0 l) 0 l/\CC Γ (wm an fn l y) fn (lam fn (lac fn an.cut 0 y) 0 l) 0 y
end
section
variable {Γ:Ci} {an:An} {fn:Func}
theorem LL.ok {Λ:Lm}:∀{r:ar (LS fn)}{k:Nat},LL Γ an fn Λ k r->∀c∈(List.range' k r.length).map (gJ fn),LOk E Γ an Λ c
 |[],_,_,_,h=>nomatch h
 |l::_,k,⟨h1,h2,h3,h4⟩,c,h=>by rcases cp.1 h with e|e;rw[e];exact lk l.d l.t l.i l.w h1 h2 h3;exact h4.ok c e
theorem CC.ok {Λ:Lm}:∀{r:ar (CS fn)}{k:Nat},CC Γ an fn Λ k r->∀c∈(List.range' k r.length).map (Hw an.cut fn),COk E Γ an Λ c
 |[],_,_,_,h=>nomatch h
 |l::_,k,⟨h1,h2,h3⟩,c,h=>by rcases cp.1 h with e|e;rw[e];exact ck l.d l.t h1 h2;exact h3.ok c e
theorem OK.all {l:ar (LS fn)}{y:ar (CS fn)}(h:OK Γ an fn l y):EX E Γ (wm an fn l y) (lam fn (lac fn an.cut 0 y) 0 l) (fn.body.getD .skip):=⟨Fn.hF h.2.1 h.2.2.2.1.ok,Fn.hF h.2.2.1 h.2.2.2.2.ok⟩
end
section
variable (S:SG) {f:Nat} {fn:Func} (an:An) (hf:Tryz.prog.funcs[f]?=some fn)
variable {A:Type}
noncomputable def SG.q (F:A)(l:ar (LS fn):=[])(y:ar (CS fn):=[])(rs:ar (Bool×FT):=rz fn)(hA:A=Cu (au (jf rs)) (sg fn):=by kernel_rfl)(h:OK S.g an fn l y:=by repeat' (first|exact trivial|apply And.intro|(intros;kernel_rfl)))(hF:∀a,LI E S.g (wm an fn l y) (lam fn (lac fn an.cut 0 y) 0 l) fn rs (ji (sg fn) a)=un (sg fn) (cast hA F) a:=by intro a;kernel_rfl):SG:=
 S.add (mz.of (F:=un (sg fn) (cast hA F)) (aiH S.s hf h.1 h.all) hF)
noncomputable def SG.b (F:A)(l:ar (LS fn):=[])(y:ar (CS fn):=[])(t:FT:=cu)(rs:ar (Bool×FT):=rz fn)(hA:A=(t.ct.D->Cu (au (jf rs×t.ct.D)) (sg fn).tail):=by kernel_rfl)(h:OK S.g an fn l y:=by repeat' (first|exact trivial|apply And.intro|(intros;kernel_rfl)))(hF:∀x a,ZI E S.g (wm an fn l y) (lam fn (lac fn an.cut 0 y) 0 l) fn rs t (.val true (jT t x)::ji (sg fn).tail a)=un (sg fn).tail (cast hA F x) a:=by intro x a;kernel_rfl):SG:=
 S.add (mz.arD (F:=λx a=>un (sg fn).tail (cast hA F x) a) (aqZ S.s hf h.1 h.all) hF)
noncomputable def SG.i (F:A)(l:ar (LS fn):=[])(y:ar (CS fn):=[])(rs:ar (Bool×FT):=rz fn)(t:Nat:=fn.params.getD 0 0)(hA:A=((Ty t).ct.D->Cu (au (jf rs×(Ty t).ct.D)) (sg fn).tail):=by kernel_rfl)(h:OK S.g an fn l y:=by repeat' (first|exact trivial|apply And.intro|(intros;kernel_rfl)))(hF:∀x a,ae2 E S.g (wm an fn l y) (lam fn (lac fn an.cut 0 y) 0 l) fn rs (Ty t).ct (.val (Ty t).agg (cellsOf (Ty t).ct (.own none) x)::ji (sg fn).tail a)=un (sg fn).tail (cast hA F x) a:=by intro x a;kernel_rfl):SG:=
 S.add (mz.az4 (F:=λx a=>un (sg fn).tail (cast hA F x) a) (azn S.s hf h.1 h.all) hF)
noncomputable def SG.n (F:A)(t:FT)(l:ar (LS fn):=[])(y:ar (CS fn):=[])(hA:A=Cu (au t.ct.D) (sg fn):=by kernel_rfl)(h:OK S.g an fn l y:=by repeat' (first|exact trivial|apply And.intro|(intros;kernel_rfl)))(hF:∀a,TK E S.g (wm an fn l y) (lam fn (lac fn an.cut 0 y) 0 l) fn t (ji (sg fn) a)=un (sg fn) (cast hA F) a:=by intro a;kernel_rfl):SG:=
 S.add (mz.arE (F:=un (sg fn) (cast hA F)) (aq0 S.s hf h.1 h.all) hF)
noncomputable def SG.v (F:A)(Tt:ar (Bool×FT))(l:ar (LS fn):=[])(y:ar (CS fn):=[])(rs:ar (Bool×FT):=rz fn)(h2:jf Tt=jf rs:=by kernel_rfl)(hA:A=Cu (au (Bool×jf rs)) (sg fn):=by kernel_rfl)(h:OK S.g an fn l y:=by repeat' (first|exact trivial|apply And.intro|(intros;kernel_rfl)))(hF:∀a,evalAlt E S.g (wm an fn l y) (lam fn (lac fn an.cut 0 y) 0 l) fn rs Tt h2 (ji (sg fn) a)=un (sg fn) (cast hA F) a:=by intro a;kernel_rfl):SG:=
 S.add (mz.ofAlt (h2:=h2) (F:=un (sg fn) (cast hA F)) (alv h2 S.s hf h.1 h.all) hF)
end
variable {R:Type}
def G30:=G0.q {} func30 od
def G31:=G30.q {} func31 ql [ld [1,4,5] [0] [1,5] @HP [(.exit 0,[1,5]),(.ret,[1,4,5])]]
def atx:=G31.q {} func210 Dr
def aty:=atx.q {} func211 EO
def avN:=aty.q {} func348 zD
def axU:=avN.q {} func481 Ee
def avO:=axU.q {} func349 J5 [ld [1,4,5] [0] [1,5] @K7 [(.exit 0,[1,5]),(.ret,[1,4,5])]]
def atz:=avO.q {} func212 Bv
def au8:=atz.q {} func307 Bu
def asX:=au8.q {} func172 xM
def axV:=asX.q {} func482 Fx
def avP:=axV.q {} func350 vg
def atA:=avP.q {} func213 EP [ld [1,4,5] [0] [1,5] @GS [(.exit 0,[1,5]),(.ret,[1,4,5])]]
def atB:=atA.q {} func214 J3 [ld [1,4,5] [0] [1,5] @K6 [(.exit 0,[1,5]),(.ret,[1,4,5])]]
def atC:=atB.q {} func215 GV
def atD:=atC.q {} func216 J1
def atE:=atD.q {} func217 xL
def avQ:=atE.q {} func351 J4
def axW:=avQ.q {} func483 J6
def avR:=axW.q {} func352 wy
def avS:=avR.q {} func353 Ds
def atG:=avS.q {} func218 yy
def avT:=atG.q {} func354 xN
def atH:=avT.q {} func219 GU [ld [1,4,5] [0] [1,5] @HO [(.exit 0,[1,5]),(.ret,[1,4,5])]]
def G99:=atH.q {} func99 Ed
def G26:=G99.q {} func26 J2 [ld [1,4,5] [0] [1,5] @K5 [(.exit 0,[1,5]),(.ret,[1,4,5])]]
def G27:=G26.q {} func27 qm
def arM:=G27.q {} func100 vf
def G28:=arM.q {} func28 EN [ld [1,4,5] [0] [1,5] @GR [(.exit 0,[1,5]),(.ret,[1,4,5])]]
def G29:=G28.q {} func29 Fw
def G6:=G29.q {} func6 HN
def G44:=G6.q {mv:=[21]} func44 oe [ld [3,4] [0] [3,4] @Mf]
def G45:=G44.q {mv:=[21]} func45 qq [ld [3,4] [0] [3,4] @HU]
def aua:=G45.q {mv:=[8]} func248 xO
def awh:=aua.q {} func378 Bx
def aub:=awh.q {mv:=[22]} func249 ET [ld [3,4] [0] [3,4] @GY]
def awi:=aub.q {} func379 HR
def awj:=awi.q {mv:=[17]} func380 vh
def ax9:=awj.q {mv:=[14]} func496 zF
def awk:=ax9.q {mv:=[22]} func381 Kc [ld [3,4] [0] [3,4] @Lc]
def auc:=awk.q {mv:=[19]} func250 vi
def aya:=auc.q {} func497 lY
def avv:=aya.q {} func330 G2
def atd:=avv.q {} func188 sS
def ayb:=atd.q {} func498 Bz
def awl:=ayb.q {} func382 qp
def aud:=awl.q {mv:=[22]} func251 EU [ld [3,4] [0] [3,4] @G1]
def aue:=aud.q {mv:=[22]} func252 Ka [ld [3,4] [0] [3,4] @La]
def awm:=aue.q {} func383 Dt
def auf:=awm.q {mv:=[22]} func253 G4 [ld [3,4] [0] [3,4] @HV]
def aug:=auf.q {mv:=[21]} func254 J7 [ld [3,4] [0] [3,4] @K8]
def auh:=aug.q {mv:=[14]} func255 sR
def ayc:=auh.q {} func499 HS
def awn:=ayc.q {mv:=[22]} func384 Kb [ld [3,4] [0] [3,4] @Lb]
def aye:=awn.q {} func501 HQ
def ayX:=aye.q {} func547 zG
def ayd:=ayX.q {mv:=[22]} func500 Kd [ld [3,4] [0] [3,4] @Ld]
def awo:=ayd.q {mv:=[8]} func385 qn
def awp:=awo.q {mv:=[11]} func386 xP
def aui:=awp.q {mv:=[16]} func256 sv
def awq:=aui.q {} func387 sT
def auj:=awq.q {mv:=[22]} func257 G3 [ld [3,4] [0] [3,4] @HT]
def auk:=auj.q {} func258 ER
def ar7:=auk.q {mv:=[63]} func121 zE
def G39:=ar7.q {mv:=[22]} func39 J9 [ld [3,4] [0] [3,4] @K9]
def aul:=G39.q {} func259 Il
def ar8:=aul.q {} func122 il
def G40:=ar8.q {mv:=[22]} func40 qs [ld [3,4] [0] [3,4] @vj]
def ar9:=G40.q {mv:=[17]} func123 qo
def G41:=ar9.q {mv:=[22]} func41 ES [ld [3,4] [0] [3,4] @GX]
def G42:=G41.q {mv:=[8]} func42 Bw
def G43:=G42.q {} func43 J8
def G8:=G43.q {mv:=[32]} func8 ra
def G21:=G8.q {} func21 nZ [ld [4,5] [0,1] [5] @Me [(.exit 0,[5]),(.ret,[4,5])]]
def G60:=G21.q {} func60 qg [ld [4,5] [0,1] [5] @HL [(.exit 0,[5]),(.ret,[4,5])]]
def auW:=G60.q {} func295 Dm
def aw1:=auW.q {} func424 uU
def auX:=aw1.q {} func296 EL [ld [4,5] [0,1] [5] @GL [(.exit 0,[5]),(.ret,[4,5])]]
def aw2:=auX.q {} func425 D9
def aw3:=aw2.q {} func426 zC
def ays:=aw3.q {} func516 Eb
def aw4:=ays.q {} func427 JY [ld [4,5] [0,1] [5] @K3 [(.exit 0,[5]),(.ret,[4,5])]]
def auY:=aw4.q {} func297 AR
def ayt:=auY.q {} func517 jn
def axT:=ayt.q {} func480 AQ
def avM:=axT.q {} func347 Dp
def ayu:=avM.q {} func518 Fv
def aw5:=ayu.q {} func428 uV
def auZ:=aw5.q {} func298 EM [ld [4,5] [0,1] [5] @GM [(.exit 0,[5]),(.ret,[4,5])]]
def au0:=auZ.q {} func299 JW [ld [4,5] [0,1] [5] @K1 [(.exit 0,[5]),(.ret,[4,5])]]
def aw6:=au0.q {} func429 xJ
def au1:=aw6.q {} func300 GO [ld [4,5] [0,1] [5] @HM [(.exit 0,[5]),(.ret,[4,5])]]
def au2:=au1.q {} func301 JU [ld [4,5] [0,1] [5] @KZ [(.exit 0,[5]),(.ret,[4,5])]]
def au3:=au2.q {} func302 xH
def ayv:=au3.q {} func519 Ea
def aw7:=ayv.q {} func430 JX [ld [4,5] [0,1] [5] @K2 [(.exit 0,[5]),(.ret,[4,5])]]
def ayx:=aw7.q {} func521 D7
def ay1:=ayx.q {} func551 Ec
def ayw:=ay1.q {} func520 JZ [ld [4,5] [0,1] [5] @K4 [(.exit 0,[5]),(.ret,[4,5])]]
def aw8:=ayw.q {} func431 wk
def aw9:=aw8.q {} func432 Dq
def au4:=aw9.q {} func303 yx
def axa:=au4.q {} func433 xI
def au5:=axa.q {} func304 GN [ld [4,5] [0,1] [5] @HK [(.exit 0,[5]),(.ret,[4,5])]]
def au6:=au5.q {} func305 yw
def asC:=au6.q {} func151 D8
def G55:=asC.q {} func55 JV [ld [4,5] [0,1] [5] @K0 [(.exit 0,[5]),(.ret,[4,5])]]
def au7:=G55.q {} func306 Dl
def asD:=au7.q {} func152 jo
def G56:=asD.q {} func56 qh [ld [4,5] [0,1] [5] @uW [(.exit 0,[5]),(.ret,[4,5])]]
def asE:=G56.q {} func153 uT
def G57:=asE.q {} func57 EK [ld [4,5] [0,1] [5] @GK [(.exit 0,[5]),(.ret,[4,5])]]
def G58:=G57.q {} func58 Fu
def G59:=G58.q {} func59 Ft
def G10:=G59.q {} func10 uS
def G24:=G10.i {} func24 eC [ld [1,5] [] [0,1,5,19] @qj [(.exit 0,[0,1,5,19])] [(0,.data false (.sl (.lio 0 12288036864) (.int .i64)),Z)] (.some (.sl (.own (some 12288036864)) (.int .i64)))]
def G98:=G24.q {} func98 cn [ld [0,3] [] [0,3] @wv]
def G65:=G98.i {} func65 iY [ld [1,5] [] [0,1,5,20] @lM [(.exit 0,[0,1,5,20])] [(0,.data false (.sl (.lio 0 12288036864) .str),Z)] (.some (.sl (.own (some 12288036864)) .str))]
def asF:=G65.i {} func154 tS [ld [1,5] [] [0,1,5,43] @vd [(.exit 0,[0,1,5,43])] [(0,.data false (.sl (.lio 0 12288036864) eE),Z)] (.some (.sl (.own (some 12288036864)) eE))]
def asG:=asF.i {nest:=[30]} func155 Bp [ld [1,5] [] [0,1,5,34] @Bq [(.exit 0,[0,1,5,34])] [(0,.data false (.sl (.lio 0 12288036864) kU),Z)] (.some (.sl (.own (some 12288036864)) kU))]
def asH:=asG.i {} func156 tU [ld [1,5] [] [0,1,5,278] @ve [(.exit 0,[0,1,5,278])] [(0,.data false (.sl (.lio 0 12288036864) dN),Z)] (.some (.sl (.own (some 12288036864)) dN))]
def asI:=asH.i {nest:=[37]} func157 Bl [ld [1,5] [] [0,1,5,41] @Bm [(.exit 0,[0,1,5,41])] [(0,.data false (.sl (.lio 0 12288036864) jQ),Z)] (.some (.sl (.own (some 12288036864)) jQ))]
def asJ:=asI.i {} func158 wx [ld [1,5] [] [0,1,5,59] @xm [(.exit 0,[0,1,5,59])] [(0,.data false (.sl (.lio 0 12288036864) gV),Z)] (.some (.sl (.own (some 12288036864)) gV))]
def asK:=asJ.i {} func159 Bh [ld [1,5] [] [0,1,5,21] @oc [(.exit 0,[0,1,5,21])] [(0,.data false (.sl (.lio 0 12288036864) .bool),Z)] (.some (.sl (.own (some 12288036864)) .bool))]
def asL:=asK.i {} func160 Bn [ld [1,5] [] [0,1,5,76] @Bo [(.exit 0,[0,1,5,76])] [(0,.data false (.sl (.lio 0 12288036864) tr),Z)] (.some (.sl (.own (some 12288036864)) tr))]
def asM:=asL.i {} func161 Br [ld [1,5] [] [0,1,5,67] @Bs [(.exit 0,[0,1,5,67])] [(0,.data false (.sl (.lio 0 12288036864) nj),Z)] (.some (.sl (.own (some 12288036864)) nj))]
def asN:=asM.i {} func162 wu [ld [1,5] [] [0,1,5,77] @xl [(.exit 0,[0,1,5,77])] [(0,.data false (.sl (.lio 0 12288036864) eu),Z)] (.some (.sl (.own (some 12288036864)) eu))]
def G61:=asN.i {nest:=[17,24,96,104,119,126,133,140,166,174,183,202,209,225,232,239]} func61 GQ [ld [1,5] [] [0,1,5,283] @Bj [(.exit 0,[0,1,5,283])] [(0,.data false (.sl (.lio 0 12288036864) cR),Z)] (.some (.sl (.own (some 12288036864)) cR))]
def G62:=G61.i {} func62 np [ld [1,5] [] [0,1,5,74] @ly [(.exit 0,[0,1,5,74])] [(0,.data false (.sl (.lio 0 12288036864) cz),Z)] (.some (.sl (.own (some 12288036864)) cz))]
def G63:=G62.i {nest:=[35]} func63 Bk [ld [1,5] [] [0,1,5,60] @vc [(.exit 0,[0,1,5,60])] [(0,.data false (.sl (.lio 0 12288036864) fP),Z)] (.some (.sl (.own (some 12288036864)) fP))]
def G64:=G63.i {} func64 Bi
def G11:=G64.i {} func11 xK
def G25:=G11.q {} func25 ez [ld [1,4,5] [0] [1,5] @qi [(.exit 0,[1,5]),(.ret,[1,4,5])]]
def G70:=G25.q {} func70 iX [ld [1,4,5] [0] [1,5] @lL [(.exit 0,[1,5]),(.ret,[1,4,5])]]
def asO:=G70.q {} func163 tQ [ld [1,4,5] [0] [1,5] @uY [(.exit 0,[1,5]),(.ret,[1,4,5])]]
def asP:=asO.q {} func164 Bd [ld [1,4,5] [0] [1,5] @Be [(.exit 0,[1,5]),(.ret,[1,4,5])]]
def asQ:=asP.q {} func165 tR [ld [1,4,5] [0] [1,5] @uZ [(.exit 0,[1,5]),(.ret,[1,4,5])]]
def asR:=asQ.q {} func166 AZ [ld [1,4,5] [0] [1,5] @Ba [(.exit 0,[1,5]),(.ret,[1,4,5])]]
def asS:=asR.q {} func167 wq [ld [1,4,5] [0] [1,5] @xk [(.exit 0,[1,5]),(.ret,[1,4,5])]]
def asT:=asS.q {} func168 AU [ld [1,4,5] [0] [1,5] @oa [(.exit 0,[1,5]),(.ret,[1,4,5])]]
def asU:=asT.q {} func169 Bb [ld [1,4,5] [0] [1,5] @Bc [(.exit 0,[1,5]),(.ret,[1,4,5])]]
def asV:=asU.q {} func170 Bf [ld [1,4,5] [0] [1,5] @Bg [(.exit 0,[1,5]),(.ret,[1,4,5])]]
def asW:=asV.q {} func171 wo [ld [1,4,5] [0] [1,5] @xj [(.exit 0,[1,5]),(.ret,[1,4,5])]]
def G66:=asW.q {} func66 GP [ld [1,4,5] [0] [1,5] @AX [(.exit 0,[1,5]),(.ret,[1,4,5])]]
def G67:=G66.q {} func67 nn [ld [1,4,5] [0] [1,5] @lv [(.exit 0,[1,5]),(.ret,[1,4,5])]]
def G68:=G67.q {} func68 AY [ld [1,4,5] [0] [1,5] @uX [(.exit 0,[1,5]),(.ret,[1,4,5])]]
def G69:=G68.q {} func69 AW
def G12:=G69.q {} func12 sQ
def G71:=G12.q {} func71 J0
def G13:=G71.q {} func13 Bt
def asZ:=G13.q {sb:=mg [(2,2)]} func174 gM
def atI:=asZ.q {} func220 dF
def atK:=atI.q {sb:=mg [(2,2)]} func222 ky
def atJ:=atK.q {mv:=[27,40],mb:=mg [(27,3)],sb:=mg [(3,3),(39,3)]} func221 kz [ld [2,3,4] [1] [4,3] @yN]
def avU:=atJ.q {} func355 FP
def atL:=avU.q {sb:=mg [(2,2)]} func223 FR
def arN:=atL.q {mv:=[34,82],mb:=mg [(34,3)],sb:=mg [(43,3)]} func101 iP [ld [2,4] [1] [4,3] @yP [(.exit 0,[4,3])] [(3,.ptr 3 0,some Y1)]]
def arO:=arN.q {mv:=[7]} func102 rZ
def G32:=arO.q {mv:=[35,53,63],mb:=mg [(35,3),(53,3)],sb:=mg [(3,3),(44,3),(62,3)]} func32 oG [ld [2,3,4] [1] [4,3] @yR,ld [2,3,5] [1] [5,3] @yS [(.exit 2,[5,3])]]
def G73:=G32.q {merge:=mg [(1,6)]} func73 aI
def atQ:=G73.q {merge:=mg [(4,35),(6,2)]} func228 gx [ld [2,3] [1] [3] @wG [(.exit 0,[3]),(.ret,[2,3])]]
def arW:=atQ.q {merge:=mg [(1,2)]} func110 vw
def atY:=arW.q {} func236 ja [ld [1,4,5] [0] [5] @B7 [(.exit 0,[5]),(.ret,[4,5])]]
def arX:=atY.q {merge:=mg [(7,37)],mv:=[55]} func111 yg [ld [5,6] [1] [5,6] @qS,ld [5,6,7] [1] [7] @xa [(.exit 2,[7])]]
def arY:=arX.q {} func112 oB [ld [2,3] [0] [3] @yD [(.exit 0,[3]),(.ret,[2,3])],ld [2,3,4] [0] [4] @yE [(.exit 2,[4]),(.ret,[2,4])]]
def G35:=arY.q {mv:=[41,63]} func35 rP [ld [2,3,4,5] [0] [4,5] @sG [(.exit 0,[4,5]),(.ret,[2,3,4,5])]]
def atM:=G35.q {merge:=mg [(1,2)]} func224 sZ
def arP:=atM.q {merge:=mg [(7,51),(12,74)]} func103 qK [ld [4,5] [0,1] [5] @pz [(.exit 0,[5]),(.ret,[4,5])],ld [4,5,6,7] [0,1] [7] @ow [(.exit 2,[7]),(.ret,[4,7])]]
def as1:=arP.q {merge:=mg [(1,2)]} func176 wH
def axc:=as1.q {merge:=mg [(1,6)]} func435 qR
def av8:=axc.q {} func369 eH
def avd:=av8.q {} func312 gG
def av7:=avd.q {} func368 Hj [ld [0,3,4] [] [3,4] @xY,ld [0,3,4,5] [] [3,5] @ta [(.exit 2,[3,5])]]
def awc:=av7.q {} func373 eR
def ave:=awc.q {merge:=mg [(1,15)]} func313 BS
def as2:=ave.q {merge:=mg [(2,17),(5,37)]} func177 jr
def arQ:=as2.q {merge:=mg [(5,23)]} func104 sY
def arR:=arQ.q {merge:=mg [(1,2)]} func105 wE
def atN:=arR.q {} func225 tc [ld [2,3] [1] [3] @wL [(.exit 0,[3]),(.ret,[2,3])]]
def atO:=atN.q {merge:=mg [(7,34),(12,57)]} func226 sD [ld [2,3] [0] [3] @rN [(.exit 0,[3]),(.ret,[2,3])],ld [2,3,4,5] [0] [5] @pB [(.exit 2,[5]),(.ret,[2,5])]]
def atT:=atO.q {merge:=mg [(1,20),(7,50)]} func231 jG [ld [2,3,4] [1] [3,4] @BU [(.exit 0,[3,4]),(.ret,[2,3,4])]]
def atX:=atT.q {merge:=mg [(3,21)],mv:=[10,24]} func235 ir
def axX:=atX.q {merge:=mg [(1,2)]} func484 wY
def av1:=axX.q {} func362 kv
def avV:=av1.q {merge:=mg [(1,2)]} func356 kQ
def atP:=avV.q {merge:=mg [(1,24),(9,50),(14,2)],mv:=[55]} func227 Ge [ld [2,3,4,5] [1] [3,4,5] @B4 [(.exit 0,[3,4,5]),(.ret,[2,3,4,5])]]
def axY:=atP.q {merge:=mg [(1,33),(3,54),(5,2)]} func485 oC
def avW:=axY.q {} func357 BW [ld [2,3] [0] [3] @EV [(.exit 0,[3]),(.ret,[2,3])]]
def ayV:=avW.q {} func545 DE [ld [3,4,5] [] [3,5] @qL]
def axZ:=ayV.q {merge:=mg [(7,39)]} func486 FQ [ld [3,4,5] [2] [5] @yK [(.exit 0,[5]),(.ret,[4,5])]]
def avX:=axZ.q {merge:=mg [(7,30),(10,42)]} func358 BZ [ld [2,3] [1] [3] @yI [(.exit 0,[3]),(.ret,[2,3])]]
def ax0:=avX.q {merge:=mg [(1,2)]} func487 FO
def avY:=ax0.q {merge:=mg [(1,21)]} func359 yd [ld [1,4,5] [2] [5] @wP [(.exit 0,[5]),(.ret,[4,5])]]
def atR:=avY.q {merge:=mg [(1,23)]} func229 sI [ld [1,4,5] [2] [5] @rV [(.exit 0,[5]),(.ret,[4,5])],ld [1,4,6] [2] [6] @zb [(.exit 2,[6]),(.ret,[4,6])]]
def awa:=atR.q {merge:=mg [(1,18),(4,2),(5,2)]} func371 vx
def at3:=awa.q {merge:=mg [(1,55),(3,3),(4,2)]} func241 gL
def avZ:=at3.q {merge:=mg [(1,2)]} func360 rR
def atS:=avZ.q {merge:=mg [(1,42),(5,2)]} func230 CP
def av0:=atS.q {merge:=mg [(1,2)]} func361 vy
def atU:=av0.q {merge:=mg [(1,24),(3,2)]} func232 kx
def arS:=atU.q {merge:=mg [(2,64),(7,94)]} func106 jF [ld [2,3,4] [1] [4] @BQ [(.exit 0,[4]),(.ret,[2,4])],ld [2,5,6] [] [6] @yC [(.exit 2,[6]),(.ret,[2,6])]]
def atV:=arS.q {} func233 QM [ld [4,5] [0,1] [5] @Lj [(.exit 0,[5]),(.ret,[4,5])]]
def arT:=atV.q {merge:=mg [(1,4)]} func107 zd
def G33:=arT.q {merge:=mg [(3,50),(8,99)]} func33 rf [ld [2,5,6] [1] [6] @BM [(.exit 0,[6]),(.ret,[2,6])]]
def av9:=G33.q {merge:=mg [(1,2)]} func370 CO
def at0:=av9.q {sb:=mg [(4,4)]} func238 DH
def avb:=at0.q {} func310 eD
def awb:=avb.q {} func372 ch
def ayW:=awb.q {merge:=mg [(1,12)]} func546 rH
def ax7:=ayW.q {} func494 DN [ld [0,3,4] [] [3,4] @wT]
def awe:=ax7.q {} func375 mj
def ax8:=awe.q {merge:=mg [(1,2)]} func495 Nq
def awf:=ax8.q {} func376 DG
def at5:=awf.q {} func243 BK
def at1:=at5.q {merge:=mg [(2,22),(6,56)],sb:=mg [(5,5)]} func239 FN
def awd:=at1.q {merge:=mg [(1,27)]} func374 lj
def at4:=awd.q {merge:=mg [(14,82)]} func242 lg
def at2:=at4.q {merge:=mg [(3,20),(9,44),(12,68)]} func240 ue
def ar0:=at2.q {merge:=mg [(2,20)]} func114 js
def ayA:=ar0.q {merge:=mg [(4,42)]} func524 FU [ld [1,2,3,8,9] [0] [9] @yL [(.exit 0,[9]),(.ret,[8,9])]]
def ayB:=ayA.q {merge:=mg [(2,6)]} func525 mQ
def axf:=ayB.q {merge:=mg [(3,34),(10,57)],mv:=[35,36,64,71,81,82]} func438 ye [ld [2,3,4,5,12,13,14,15,16] [0,7] [3,4,15,16] @mx [(.exit 0,[3,4,15,16]),(.ret,[3,4,12,13,14,15,16])]]
def axg:=axf.q {} func439 sH [ld [1,2,8] [3] [1,2,8] @rT]
def avh:=axg.q {} func316 rK [ld [15,16] [6] [15,16] @yB [(.exit 0,[15,16])] [(12,.data false (.sl .loc (.int .i64)),Z),(13,.data false (.sl .loc (.int .i64)),Z)]]
def ayC:=avh.q {merge:=mg [(1,11)]} func526 qQ
def axz:=ayC.q {merge:=mg [(1,20)],sb:=mg [(9,9)]} func458 yc
def ayD:=axz.q {merge:=mg [(1,2)]} func527 vq
def axl:=ayD.q {} func444 nD
def ax1:=axl.q {sb:=mg [(4,4)]} func488 sC
def av2:=ax1.q {merge:=mg [(2,25),(7,50),(12,69)],mv:=[26,57,70],sb:=mg [(9,9)]} func363 B0 [ld [2,7,8,9,10,11] [0,5] [11,7] @oF [(.exit 0,[11,7]),(.ret,[8,10,11,7,9])]]
def ax3:=av2.q {merge:=mg [(4,24)]} func490 DJ [ld [2,3] [0] [3] @wM [(.exit 0,[3]),(.ret,[2,3])]]
def axq:=ax3.q {merge:=mg [(2,33)],mv:=[63,67],sb:=mg [(9,9)]} func449 lO [ld [2,6,7,8] [0] [7,8] @mc [(.exit 0,[7,8]),(.ret,[6,7,8])]]
def ax2:=axq.q {} func489 FV [ld [4,5] [0,1] [5] @yM [(.exit 0,[5]),(.ret,[4,5])]]
def av3:=ax2.q {merge:=mg [(6,46)],mv:=[15,48]} func364 rO [ld [6,7] [0] [6,7] @nb]
def av4:=av3.q {} func365 tZ [ld [2,8,9,10,11] [0,3,5] [10,11] @ox [(.exit 0,[10,11]),(.ret,[8,9,10,11])]]
def awg:=av4.q {} func377 jH
def at6:=awg.q {} func244 Dw
def avc:=at6.q {} func311 md [ld [0,1,5,6] [] [5,6] @nE]
def at7:=avc.q {} func245 FL
def ar2:=at7.q {} func116 hZ
def ax4:=ar2.q {} func491 B6
def axn:=ax4.q {} func446 oR
def av5:=axn.q {merge:=mg [(2,36),(7,61),(12,98)]} func366 Dz
def ar1:=av5.q {merge:=mg [(1,2)]} func115 ku
def atZ:=ar1.q {} func237 B5
def at8:=atZ.q {} func246 sB
def ax5:=at8.q {mv:=[23,27]} func492 DD [ld [3,4] [0] [3,4] @qJ]
def ax6:=ax5.q {merge:=mg [(2,17),(5,31)],mv:=[18,32,87,91]} func493 Kx [ld [1,2,5,6,7] [] [5,7] @DM]
def av6:=ax6.q {} func367 yG
def atW:=av6.q {merge:=mg [(2,31),(6,55),(11,85)],mv:=[33,57,87],sb:=mg [(8,8)]} func234 ui
abbrev apP:SD:=⟨fF (zsa eE)::B::DI::B::B::.ptr 5 0::B::.ptr 7 0::.ptr 8 0::fF (Q4 110592 .str)::DI::DI::fF (Q4 147456 .str)::DI::DI::bs 29 [],zs 5 ((zsm (zsa .str))::Z::(some Y0)::(some Y0)::zs 35 []),.none⟩
abbrev aiq:SD:=⟨fF (zsa eE)::B::DI::B::B::.ptr 5 0::B::.ptr 7 0::.ptr 8 0::fF (Q4 110592 .str)::DI::DI::fF (.sl .loc .str)::DI::DI::bs 29 [],zs 5 ((zsm (zsa .str))::Z::(some Y0)::(some Y0)::zs 35 []),.none⟩
def arU:=atW.q1 {mask:=mk [(4,[0,2,5,7,8,9,10,11,12,13,14])],mv:=[31,35]} func108 [pd (.sl eE),pf (.sl .str),pI,pf yT] [(true,Y0),(false,(.sl (.own none) .str)),rI,rI] (c4 wV) apP (λX K=>pD (λy0 y1 y2 y3 y4 y5 y6 y7=>kr K aiq ((X.1.1,(X.1.2.1,(y0,(y1,(y2,(y3,(y4,(y5,())))))))),(X.2.1.1,(y6,(y7,()))),())) X.1.1 X.1.2.1 (q2 X) (q3 X) (q4 X) X.2.1.1 X.2.1.2.2.1) (λX=>(q5 X,q6 X,q7 X,X.2.1.2.1)) (λX x=>((z5 (w x.1 (w x.2.1 (u x.2.2.1))) X.1),(z1 (u x.2.2.2) X.2.1),X.2.2))
def arV:=arU.q {merge:=mg [(3,22)],mv:=[23,24,30,39,49,53,55,57,58],sb:=mg [(51,6)]} func109 ou [ld [1,4,6,7,8] [2] [7,8,6] @lh]
def G34:=arV.q {mv:=[15,33,37,51,54,58]} func34 oz
def arZ:=G34.q {merge:=mg [(1,16)]} func113 Dx
def G36:=arZ.q {} func36 qP
def ar3:=G36.q {merge:=mg [(1,15)]} func117 wO
def ar4:=ar3.q {merge:=mg [(1,23),(6,61)]} func118 qF
def ar5:=ar4.q {merge:=mg [(14,62)],mv:=[19,63,67]} func119 oD [ld [1,5,7,8,9,10] [0] [9,10] @oE,ld [1,5,7,8,9,11] [0] [7,11] @nd [(.exit 2,[7,11])]]
def G37:=ar5.q {merge:=mg [(2,37),(6,76)],mv:=[38,87,104]} func37 DL
def avo:=G37.q {merge:=mg [(1,4)]} func323 FF
def axh:=avo.q {} func440 zO
def ay2:=axh.q {merge:=mg [(1,4)]} func552 EW
def ayF:=ay2.q {merge:=mg [(1,4)]} func529 wN
def axs:=ayF.q {merge:=mg [(3,14),(5,39)]} func451 DC [ld [3,5,6] [0] [5,6] @qH]
def axt:=axs.q {} func452 DA
def azb:=axt.q {} func561 Ep
def azc:=azb.q {merge:=mg [(1,14)]} func562 BR [ld [0,1,5,6] [] [5,6] @ud]
def ay5:=azc.q {merge:=mg [(1,14)]} func555 BN [ld [0,1,5,6] [] [5,6] @ua]
def ay6:=ay5.q {} func556 BO
def ayJ:=ay6.q {} func533 ya
def ayG:=ayJ.q {merge:=mg [(2,17)]} func530 FJ
def axu:=ayG.q {merge:=mg [(2,18)]} func453 wQ
def avp:=axu.q {merge:=mg [(1,17)]} func324 wR
def ayE:=avp.q {mv:=[19,52]} func528 wX [ld [1,2,6,8] [] [1,2,8] @pE]
def axm:=ayE.q {mv:=[32,39,52,60],sb:=mg [(15,15)]} func445 oQ [ld [4,10,15,16] [] [4,16,15] @qD [(.exit 0,[4,16,15])] [(12,.data false (.sl .loc (.int .i64)),Z),(13,.data false (.sl .loc (.int .i64)),Z)]]
def axe:=axm.q {} func437 yf
def ay3:=axe.q {merge:=mg [(1,2)]} func553 ov
def ay4:=ay3.q {merge:=mg [(1,12)]} func554 na
def ayI:=ay4.q {merge:=mg [(1,22)],mv:=[26,44,59],mb:=mg [(59,13)],sb:=mg [(10,10),(11,11),(13,13)]} func532 rQ
def axA:=ayI.q {merge:=mg [(3,46)],mv:=[90],sb:=mg [(12,12),(13,13)]} func459 DQ
def avs:=axA.q {merge:=mg [(1,30),(5,58)],mv:=[44,75],mb:=mg [(75,15)],sb:=mg [(10,10),(11,11)]} func327 qI
def ayH:=avs.q {} func531 DK
def axv:=ayH.q {merge:=mg [(1,41),(4,84),(6,4)]} func454 BL
def axw:=axv.q {} func455 Nr
def axx:=axw.q {} func456 MA
def avq:=axx.q {merge:=mg [(1,29),(3,43)],mv:=[52,67,76],mb:=mg [(76,16)],sb:=mg [(14,14),(15,15)]} func325 rU
def avm:=avq.q {} func321 oS
def axy:=avm.q {} func457 Dv
def avr:=axy.b {} func326 mR [ld [1,6,7] [] [7,0] @uj [(.exit 0,[7,0])] [(0,.ptr 0 0,some (sF 1 cR))] .ptr] (t:=(kF (.own none) cR))
def ata:=avr.q {mv:=[16,36,48,64,71,89,91,107],sb:=mg [(9,9),(10,10)]} func185 qM
def at9:=ata.q {merge:=mg [(1,34)]} func247 wK
def ar6:=at9.b {mv:=[13,56]} func120 vz [ld [5,6,8,9,10] [] [10,0] @oH [(.exit 0,[10,0])] [(0,.ptr 0 0,some (sF 1 gW))] .ptr] (t:=(kF (.own none) gW))
def G38:=ar6.q {merge:=mg [(2,15)],mv:=[19]} func38 yA
def G7:=G38.q {merge:=mg [(2,31)],mv:=[32,80,90,98]} func7 tY [ld [1,4,5,7,10] [] [10,5] @kO [(.exit 0,[10,5])] [(8,.data false (.sl .loc agX),Z)]]
def G72:=G7.q {merge:=mg [(1,12),(3,31),(5,2)]} func72 CN
def ayy:=G72.q {merge:=mg [(3,23),(6,48)],mv:=[51],sb:=mg [(40,6)]} func522 FG [ld [1,4,6,7] [2] [7] @sA]
def ayz:=ayy.q {merge:=mg [(2,19)],mv:=[20,38,47],mb:=mg [(38,6)],sb:=mg [(46,6)]} func523 Dy [ld [1,4,6,7] [2] [7,6] @wF]
def axb:=ayz.q {mv:=[21,30,39,46],mb:=mg [(39,6)],sb:=mg [(4,4)]} func434 yO
def au9:=axb.q {merge:=mg [(6,33)],mv:=[12,18,34,35,51],mb:=mg [(18,6),(51,6)],sb:=mg [(4,4)],fm:=[53]} func308 rL
def asY:=au9.q {mv:=[21,29,36,40,48,78],sb:=mg [(10,10)]} func173 yQ [ld [1,5,8,9] [0] [8,9] @sa]
def G74:=asY.q {merge:=mg [(2,26)],mv:=[27,28,36,49]} func74 rJ
def ava:=G74.q {merge:=mg [(4,2),(5,2)]} func309 wI
def as0:=ava.q {merge:=mg [(2,26)],mv:=[27,47,82]} func175 qE [ld [2,4,6,7,8,9] [] [8,9] @py]
def G75:=as0.q {merge:=mg [(2,21),(5,31)],mv:=[22,50],sb:=mg [(9,9)]} func75 BX [ld [2,3,8,9,10] [1] [10,9] @uh]
def G76:=G75.q {merge:=mg [(2,21)],mv:=[22,26,37,51]} func76 wW [ld [1,5,6,7] [] [5,7] @jw]
def axd:=G76.q {merge:=mg [(1,12)]} func436 mZ
def avf:=axd.q {merge:=mg [(5,54)],sb:=mg [(8,8),(9,9)]} func314 pC
def avg:=avf.q {merge:=mg [(1,15)]} func315 ka
def axi:=avg.q {} func441 wS [ld [3,4,5] [0] [5] @xo [(.exit 0,[5]),(.ret,[4,5])]]
def avi:=axi.q {merge:=mg [(17,84)],mv:=[16,31,53,60,69,85,139]} func317 FI
def axj:=avi.q {} func442 td
def axk:=axj.q {merge:=mg [(1,22)],mv:=[26,36,51],mb:=mg [(51,13)],sb:=mg [(10,10),(11,11),(13,13)]} func443 BV
def avj:=axk.q {merge:=mg [(4,32),(6,44)],mv:=[33,35,49,63,68,78,80],mb:=mg [(33,14),(35,15),(78,14),(80,15)],sb:=mg [(10,10),(11,11),(12,12),(18,18),(19,19)]} func318 xZ [ld [2,8,10,11,12,14,15,16] [0,9] [16,8,14,15] @qG]
def as3:=avj.q {merge:=mg [(4,50),(14,102)],mv:=[54,55,106,114,128,130,131],mb:=mg [(54,20),(128,30),(130,20)],sb:=mg [(14,14),(15,15),(16,16)]} func178 qO [ld [2,6,10,14,15,16,19,20,21] [0,8] [19,21,10,20] @oA]
def avk:=as3.q {merge:=mg [(3,20)],mv:=[24,33]} func319 BT [ld [2,6,8,9] [] [9,8] @sE]
def as4:=avk.q {mv:=[4,9]} func179 DR
def avl:=as4.q {mv:=[27]} func320 vu [ld [2,3,4,10,12,13] [0,6] [12,13] @uc]
def as5:=avl.b {mv:=[47,51,65,67,84],mb:=mg [(84,6)],sb:=mg [(6,6),(50,0),(70,0),(71,5)]} func180 B8 (t:=(kF (.own none) cR))
def G77:=as5.q {mv:=[17,25,43,45,46,48,58,60,71,144],mb:=mg [(71,3)],sb:=mg [(5,5),(6,6),(7,7),(81,3)]} func77 vt [ld [2,3,4] [1] [4,3] @ub,ld [2,3,10] [1] [10,3] @rM [(.exit 2,[10,3])],ld [2,3,11] [1] [11,3] @mO [(.exit 4,[11,3])]]
def G78:=G77.q {} func78 qC
def G79:=G78.q {mv:=[13,15,31]} func79 wD
def as6:=G79.q {} func181 yJ
def G80:=as6.q {merge:=mg [(3,15)],mv:=[28]} func80 yb [ld [2,3,4] [1] [4,3] @qN]
def as7:=G80.q {merge:=mg [(1,12)]} func182 ug
def G81:=as7.q {mv:=[27]} func81 rY [ld [1,5,6] [] [5,6] @nf]
def as8:=G81.q {} func183 FW
def G82:=as8.q {merge:=mg [(1,14)]} func82 tX
def axo:=G82.q {merge:=mg [(2,21)],mv:=[22,37,38]} func447 wU
def axp:=axo.q {} func448 DP [ld [3,4] [1] [3,4] @wZ]
def axr:=axp.q {mv:=[26,36,44],mb:=mg [(44,13)],sb:=mg [(10,10),(11,11),(13,13),(14,14)]} func450 yF [ld [2,8,10,11,12,13,14,15] [0,4,6] [15,13,14] @mP [(.exit 0,[15,13,14]),(.ret,[12,15,10,11,13,14])]]
def avn:=axr.q {merge:=mg [(2,58),(6,102),(27,194)],mv:=[70,134,149,150,169,177,203,206,211,221,222],mb:=mg [(221,22),(222,33)],sb:=mg [(14,14),(15,15)]} func322 yH [ld [2,5,6,14,15,16,17,19,20,21,22,23,24] [0,8,10] [23,24,22] @lP [(.exit 0,[23,24,22]),(.ret,[16,23,24,14,15,22])],ld [2,14,15,19,20,21,22,29,30,31] [0,8,10] [29,31] @lQ [(.exit 2,[29,31])]]
def as9:=avn.q {mv:=[19,20,34,36,38]} func184 DF
def atb:=as9.q {merge:=mg [(3,17)],mv:=[20,35,37,53],sb:=mg [(5,5),(6,6)]} func186 BP [ld [2,3,4] [1] [4,3] @oy]
def avt:=atb.q {merge:=mg [(1,11)]} func328 rX
def avu:=avt.q {} func329 Eo
def atc:=avu.q {merge:=mg [(3,25)],mv:=[26,66,85,87,88,90,100,102,124],sb:=mg [(11,11),(12,12),(13,13)]} func187 wJ [ld [1,4,6,7,8] [2] [7,8,6] @pA]
def G83:=atc.q {merge:=mg [(1,17)],mv:=[24,36,37,58,65]} func83 Kw
def G14:=G83.q {merge:=mg [(2,48)],late:=[97],mv:=[49,54,63,150,151,161,167,169],sb:=mg [(4,4),(11,11),(79,6)]} func14 H9 [ld [4,6,9] [2] [9,6] @nB [(.exit 1,[9,6])],ld [4,6,10] [2] [10,6] @nC [(.exit 3,[10,6])]]
def G84:=G14.q {} func84 GW
def G85:=G84.q {} func85 GZ
def G15:=G85.q {} func15 mK
def G51:=G15.q {} func51 ik
def asa:=G51.q {} func124 jW
def asd:=asa.q {} func127 gb
def atg:=asd.q {mv:=[7]} func191 fb
def aum:=atg.q {mv:=[7]} func260 mr
def asb:=aum.q {mv:=[13,19]} func125 uM [ld [3,8,9] [7] [3,9] @tN]
def asc:=asb.q {} func126 mJ
def aun:=asc.q {} func261 dx
def auo:=aun.q {} func262 AH
def auq:=auo.q {mv:=[7]} func264 jh
def auI:=auq.q {mv:=[13,25]} func281 xE [ld [3,8,9] [7] [3,9] @wj]
def aup:=auI.q {sb:=mg [(2,2)]} func263 uN
def awr:=aup.q {} func388 AI
def aws:=awr.q {sb:=mg [(2,2)]} func389 yu
def aur:=aws.q {sb:=mg [(2,2)]} func265 tO
def aus:=aur.q {} func266 mu
def ase:=aus.q {mv:=[34,75],mb:=mg [(34,3)],sb:=mg [(39,3)]} func128 hY [ld [2,28,29] [1,27] [29,3] @wi [(.exit 0,[29,3])] [(3,.ptr 3 0,some Y1)]]
def G46:=ase.q {mv:=[32,39],mb:=mg [(32,3)],sb:=mg [(3,3),(37,3)]} func46 mf [ld [2,3,26,27] [25] [27,3] @wh]
def G48:=G46.q {merge:=mg [(1,6)]} func48 aB
def auw:=G48.q {merge:=mg [(4,29),(7,2)]} func270 iJ [ld [2,7,8] [1,6] [8] @vK [(.exit 0,[8]),(.ret,[2,8])]]
def asm:=auw.q {merge:=mg [(1,2)]} func135 uK
def asn:=asm.q {} func136 gB [ld [1,4,8,9] [7] [9] @AJ [(.exit 0,[9]),(.ret,[4,9])]]
def aso:=asn.q {merge:=mg [(6,22)],mv:=[23,27,34,38]} func137 lu [ld [1,5,6,11,12] [10] [5,6,12] @mI]
def auE:=aso.q {} func277 Ij (rs:=[(true,(kF .arg zW))])
def auF:=auE.q {merge:=mg [(4,21)]} func278 xF [ld [1,4,8,9] [7] [9] @qe [(.exit 0,[9]),(.ret,[4,9])]]
def asp:=auF.q {merge:=mg [(6,27),(8,37)]} func138 nV [ld [2,10,11] [0,9] [11] @yo [(.exit 0,[11]),(.ret,[2,11])]]
def G49:=asp.q {mv:=[53,57,63,69]} func49 rq [ld [2,3,4,5,19,20] [18] [4,5,20] @so [(.exit 0,[4,5,20]),(.ret,[2,3,4,5,20])],ld [2,3,4,5,8,19,20,32,33,34] [7,18] [5,8,34] @mq [(.exit 2,[5,8,34])]]
def aut:=G49.q {} func267 xA [ld [2,7,8] [1,6] [8] @IX [(.exit 0,[8]),(.ret,[2,8])]]
def awt:=aut.q {merge:=mg [(4,25)]} func390 qd [ld [1,2,6,10,11] [9] [11] @xi [(.exit 0,[11]),(.ret,[6,11])]]
def auu:=awt.q {merge:=mg [(4,37)]} func268 sn [ld [2,6,7] [0,5] [7] @rn [(.exit 0,[7]),(.ret,[2,7])]]
def auz:=auu.q {merge:=mg [(1,21),(7,43)]} func272 jA [ld [2,3,27,28] [1,26] [3,28] @Az [(.exit 0,[3,28]),(.ret,[2,3,28])]]
def auH:=auz.q {merge:=mg [(3,21)],mv:=[10,24]} func280 gw
def awZ:=auH.q {} func422 jB
def axI:=awZ.q {merge:=mg [(1,2)]} func467 xG
def awz:=axI.q {} func396 ko
def avD:=awz.q {merge:=mg [(1,2)]} func338 kK
def auv:=avD.q {merge:=mg [(1,24),(8,50)],mv:=[55]} func269 F6 [ld [2,3,4,31,32] [1,30] [3,4,32] @AE [(.exit 0,[3,4,32]),(.ret,[2,3,4,32])]]
def awI:=auv.q {merge:=mg [(1,18),(5,2),(7,2)]} func405 uL
def awJ:=awI.q {merge:=mg [(1,2)]} func406 uQ
def auN:=awJ.q {merge:=mg [(1,2)]} func286 gk
def awu:=auN.q {merge:=mg [(1,2)]} func391 ru
def auy:=awu.q {merge:=mg [(1,42),(5,2)]} func271 CA
def awv:=auy.q {merge:=mg [(1,2)]} func392 IZ
def auA:=awv.q {merge:=mg [(1,24),(3,2)]} func273 oK
def ayf:=auA.q {merge:=mg [(1,33),(3,54),(5,2)]} func502 HI
def aww:=ayf.q {} func393 Fp [ld [2,6,7] [0,5] [7] @KY [(.exit 0,[7]),(.ret,[2,7])]]
def ayg:=aww.q {merge:=mg [(4,23)]} func503 HJ [ld [3,4,9,10] [8] [10] @AO [(.exit 0,[10]),(.ret,[4,10])]]
def ayY:=ayg.q {} func548 Da [ld [3,16,17,18] [] [3,18] @pX]
def ayh:=ayY.q {mv:=[10,18]} func504 OT [ld [1,3,4] [] [3,4] @Dk]
def awx:=ayh.q {merge:=mg [(6,28),(9,40)]} func394 vX [ld [2,13,14] [1,12] [14] @yr [(.exit 0,[14]),(.ret,[2,14])],ld [2,3,13,14,49,50,51] [1,12] [51] @qb [(.exit 2,[51]),(.ret,[2,51])]]
def ayi:=awx.q {merge:=mg [(1,2)]} func505 Md
def awy:=ayi.q {merge:=mg [(1,22)]} func395 Dh [ld [1,4,25,26] [24] [26] @IY [(.exit 0,[26]),(.ret,[4,26])]]
def auB:=awy.q {merge:=mg [(1,25),(6,41),(12,59)]} func274 sr [ld [1,4,28,29] [2,27] [29] @rA [(.exit 0,[29]),(.ret,[4,29])],ld [1,4,46,47] [45] [47] @pj [(.exit 2,[47]),(.ret,[4,47])]]
def asf:=auB.q {merge:=mg [(2,58),(7,89)]} func129 jz [ld [2,3,61,62] [1] [62] @Au [(.exit 0,[62]),(.ret,[2,62])],ld [2,3,103,104,105] [1] [105] @ym [(.exit 2,[105]),(.ret,[2,105])]]
def auC:=asf.q {} func275 Pu.wB [ld [4,12,13] [0,1] [13] @Pu.px [(.exit 0,[13]),(.ret,[4,13])]]
def asg:=auC.q {merge:=mg [(1,4)]} func130 yv
def auD:=asg.q {merge:=mg [(1,2)]} func276 xw
def ash:=auD.q {merge:=mg [(6,49),(11,69)]} func131 pW [ld [4,13,14] [0,1,12] [14] @pc [(.exit 0,[14]),(.ret,[4,14])],ld [4,6,13,14,53,54] [0,1,12,52] [54] @pe [(.exit 2,[54]),(.ret,[4,54])]]
def asi:=ash.q {merge:=mg [(4,22)]} func132 AK [ld [2,6,7] [5] [7] @AL [(.exit 0,[7]),(.ret,[2,7])]]
def ati:=asi.q {merge:=mg [(1,2)]} func193 Ap
def avy:=ati.q {merge:=mg [(1,13)]} func333 iB
def awF:=avy.q {} func402 GG [ld [0,3,4] [] [3,4] @xx,ld [0,3,4,5] [] [3,5] @sO [(.exit 2,[3,5])]]
def axC:=awF.q {} func461 fR
def avz:=axC.q {merge:=mg [(1,15)]} func334 Aw
def atj:=avz.q {merge:=mg [(2,19),(5,38)]} func194 jl
def asj:=atj.q {merge:=mg [(4,18)]} func133 sN
def asl:=asj.q {merge:=mg [(1,2)]} func134 Ao
def G47:=asl.q {merge:=mg [(2,32),(7,55),(10,2)]} func47 qY [ld [2,35,36] [1,34] [36] @Am [(.exit 0,[36]),(.ret,[2,36])] [(3,.data false (.sl .loc agX),Z)]]
def awG:=G47.q {merge:=mg [(1,13)]} func403 fE
def awH:=awG.q {merge:=mg [(1,2)]} func404 GH
def auK:=awH.q {merge:=mg [(4,33)],sb:=mg [(4,4)]} func283 xB
def ayZ:=auK.q {merge:=mg [(1,12)]} func549 Fi
def ayn:=ayZ.q {} func511 Di [ld [0,3,4] [] [3,4] @vW]
def awM:=ayn.q {} func409 kj
def awN:=awM.q {merge:=mg [(1,17)]} func410 ga
def awP:=awN.q {} func412 cG
def ayo:=awP.q {merge:=mg [(1,2)]} func512 Rx
def awQ:=ayo.q {} func413 Dc
def auP:=awQ.q {} func288 Ak
def auL:=auP.q {merge:=mg [(2,22),(6,56)],sb:=mg [(5,5)]} func284 Fo
def awK:=auL.q {} func407 wg
def awL:=awK.q {merge:=mg [(1,27)]} func408 tH
def awO:=awL.q {} func411 fM
def auO:=awO.q {merge:=mg [(8,39)]} func287 kY
def auM:=auO.q {merge:=mg [(3,20),(9,44),(12,68)]} func285 tG
def ast:=auM.q {merge:=mg [(2,20)]} func142 jm
def ayR:=ast.q {merge:=mg [(4,29)]} func541 JR
def ayS:=ayR.q {merge:=mg [(2,6)]} func542 zB
def axG:=ayS.q {merge:=mg [(1,29),(11,55),(16,73)],mv:=[56,74]} func465 D6 [ld [2,3,4,5,12,13,14] [0,7] [3,4,14] @uO [(.exit 0,[3,4,14]),(.ret,[3,4,12,13,14])]]
def ayP:=axG.q {mv:=[41]} func539 sq [ld [1,2,8] [3] [1,8] @mF]
def axE:=ayP.q {} func463 rk [ld [14,31,32] [6] [14,32] @yl [(.exit 0,[14,32])] [(30,.data false (.sl .loc pG),Z)]]
def axM:=axE.q {merge:=mg [(1,11)]} func471 qa
def axR:=axM.q {merge:=mg [(1,20)],sb:=mg [(9,9)]} func478 xD
def axJ:=axR.q {merge:=mg [(1,2)]} func468 D1
def avE:=axJ.q {} func339 nz
def ayj:=avE.q {sb:=mg [(4,4)]} func506 sj
def awA:=ayj.q {merge:=mg [(1,24),(15,67)],mv:=[55,68],sb:=mg [(9,9)]} func397 AD [ld [2,7,8,9,10,11,12] [0,5] [12,7] @nX [(.exit 0,[12,7]),(.ret,[8,10,12,7,9])]]
def akN:=awA.q {merge:=mg [(4,19)]} func507 Dd [ld [2,6,7] [0,5] [7] @vQ [(.exit 0,[7]),(.ret,[2,7])]]
def azm:Ez:=OC [pd (.sl pG),pI,pI] [(false,(.sl (.own none) Cj))] [(false,(.sl .nil Cj))] rfl λa=>ju a.1 a.2.1 a.2.2.1
def aqs:An:={mask:=mk [(5,[0,2,7,30,31,32]),(13,[6,7,54,55,56])],merge:=mg [(1,25)],nils:=[6],mv:=[49,64]}
abbrev ZD:SD:=⟨fF (zsa pG)::B::DI::bs 4 (fF (Q4 86016 Cj)::bs 22 (fF (zsa pG)::DI::DI::bs 32 [])),zs 65 [],.none⟩
def anI (X:SD.D ZD)(K:zkk R):=lX (λy0 y1=>ke 0 K ZD ((z2 (w y0 (z2 (u y1))) X.1),X.2)) X.1.1 X.1.2.1 (q3 X) (q4 X)
abbrev TI:SD:=⟨bs 7 (fF (Q4 86016 Cj)::bs 46 (fF (.sl .loc Cj)::DI::DI::bs 8 [])),zs 65 [],.none⟩
abbrev aeP:SD:=⟨bs 6 (fF (.sl .nil Cj)::fF (Q4 86016 Cj)::bs 46 (fF (.sl .loc Cj)::DI::DI::bs 8 [])),zs 65 [],.none⟩
def ah4 (X:SD.D TI)(K:zkk R):=la (λy0=>ke 2 K TI ((z3 (u y0) X.1),X.2)) (λy0 y1=>kr K aeP ((y0,(X.1.1,(X.1.2.1,(X.1.2.2.1,(y1,()))))),(),())) X.1.1 X.1.2.1 (q2 X)
def apH:Lm:=(Lm.nil.add 5 (mkl ZD anI (λX=>(q2 X,q5 X)))).add 13 (mkl TI ah4 q3)
theorem aqp:LOk E akN.g aqs apH (gJ f476 0):=lk ZD anI (λX=>(q2 X,q5 X)) λX x=>((z2 (w x.1 (z2 (u x.2))) X.1),X.2)
theorem aoF:LOk E akN.g aqs apH (gJ f476 1):=lk TI ah4 q3 λX x=>((z3 (u x) X.1),X.2)
theorem az3:zfo 476 azm:=mz.ofAlt (alv (Γ:=akN.g) (an:=aqs) (Λ:=apH) (by rfl) (akN.s) func476 (by kernel_rfl) (ao (cF aqp (cF aoF nF)))) (λa=>by kernel_rfl)
def apG:=akN.add az3
def aqr:An:={mask:=mk [(5,[0,6,18,19,20]),(14,[0,2,3,4,5,6,9,10,11,51,52])],mv:=[24,65]}
abbrev ZB:SD:=⟨fF (zsa Cj)::bs 5 (fF (Q4 73728 pG)::bs 11 (fF (zsa Cj)::DI::DI::bs 47 [])),zs 68 [],.none⟩
def anG (X:SD.D ZB)(K:zkk R):=mV (λy0 y1=>ke 0 K ZB ((z1 (w y0 (z2 (u y1))) X.1),X.2)) X.1.1 (q2 X) (q3 X)
abbrev TH:SD:=⟨fF (zsa Cj)::bs 5 (fF (Q4 73728 pG)::B::B::DI::DI::fF (Q4 135168 Cj)::bs 39 (DI::DI::bs 15 [])),zs 68 [],.none⟩
abbrev aeO:SD:=⟨fF (zsa Cj)::B::fF (Q4 24576 pG)::DI::DI::DB::fF (Q4 73728 pG)::B::B::DI::DI::fF (Q4 135168 Cj)::bs 39 (DI::DI::bs 15 []),zs 68 [],.none⟩
def ah3 (X:SD.D TH)(K:zkk R):=ij (λy0=>ke 2 K TH ((z6 (u y0) X.1),X.2)) (λy0 y1 y2 y3 y4=>kr K aeO ((X.1.1,(y0,(y1,(y2,(y3,(X.1.2.1,(X.1.2.2.1,(X.1.2.2.2.1,(X.1.2.2.2.2.1,(X.1.2.2.2.2.2.1,(y4,()))))))))))),(),())) X.1.1 X.1.2.1 (q2 X) (q3 X) (q4 X) (q5 X)
def aqM:Lm:=(Lm.nil.add 5 (mkl ZB anG (λX=>(X.1.2.1,q4 X)))).add 14 (mkl TH ah3 q6)
theorem aqn:LOk E apG.g aqr aqM (gJ f398 0):=lk ZB anG (λX=>(X.1.2.1,q4 X)) λX x=>((z1 (w x.1 (z2 (u x.2))) X.1),X.2)
theorem aoE:LOk E apG.g aqr aqM (gJ f398 1):=lk TH ah3 q6 λX x=>((z6 (u x) X.1),X.2)
def awB:=apG.qk aqr func398 [pd (.sl Cj)] [(false,(.sl (.own none) pG)),rI,rI,rB] (c1 rp) (cF aqn (cF aoE nF))
def awC:=awB.q {} func399 tA [ld [2,8,9,10,19,20] [0,5,18] [10,20] @nS [(.exit 0,[10,20]),(.ret,[8,9,10,20])]]
def awR:=awC.q {} func414 Dj
def auQ:=awR.q {} func289 C3
def ato:=auQ.q {} func199 qZ [ld [0,5,10,11] [] [5,11] @AN]
def auR:=ato.q {} func290 Fm
def asv:=auR.q {} func144 hH
def ayk:=asv.q {} func508 uR
def axN:=ayk.q {} func472 oJ
def awD:=axN.q {merge:=mg [(3,38),(9,74),(12,84),(17,117)]} func400 C6
def asu:=awD.q {merge:=mg [(1,2)]} func143 km
def auJ:=asu.q {} func282 AF
def asz:=auJ.q {} func148 sf
def ayl:=asz.q {mv:=[21,26]} func509 C9 [ld [3,10,11] [9] [3,11] @pV]
def aym:=ayl.q {merge:=mg [(1,17),(4,30)],mv:=[83,87]} func510 JP [ld [1,2,5,6,7] [] [6,7] @Dg]
def awE:=aym.q {} func401 yp
def auG:=awE.q {merge:=mg [(1,28)],sb:=mg [(8,8)]} func279 tK
abbrev apQ:SD:=⟨fF (zsa eE)::B::DI::B::B::.ptr 5 0::B::.ptr 7 0::.ptr 8 0::fF (Q4 110592 .str)::DI::DI::fF (Q4 147456 .str)::DI::DI::bs 30 [],zs 5 ((zsm (zsa .str))::Z::(some Y0)::(some Y0)::zs 36 []),.none⟩
abbrev air:SD:=⟨fF (zsa eE)::B::DI::B::B::.ptr 5 0::B::.ptr 7 0::.ptr 8 0::fF (Q4 110592 .str)::DI::DI::fF (.sl .loc .str)::DI::DI::bs 30 [],zs 5 ((zsm (zsa .str))::Z::(some Y0)::(some Y0)::zs 36 []),.none⟩
def asq:=auG.q1 {mask:=mk [(3,[0,2,5,7,8,9,10,11,12,13,14])],mv:=[35,42]} func139 [pd (.sl eE),pf (.sl .str),pI,pf yT] [(true,Y0),(false,(.sl (.own none) .str)),rI,rI] (c4 vZ) apQ (λX K=>pn (λy0 y1 y2 y3 y4 y5 y6 y7=>kr K air ((X.1.1,(X.1.2.1,(y0,(y1,(y2,(y3,(y4,(y5,())))))))),(X.2.1.1,(y6,(y7,()))),())) X.1.1 X.1.2.1 (q2 X) (q3 X) (q4 X) X.2.1.1 X.2.1.2.2.1) (λX=>(q5 X,q6 X,q7 X,X.2.1.2.1)) (λX x=>((z5 (w x.1 (w x.2.1 (u x.2.2.1))) X.1),(z1 (u x.2.2.2) X.2.1),X.2.2))
def asr:=asq.q {merge:=mg [(2,22)],mv:=[23,34,43,55,56]} func140 nP [ld [1,4,6,7,29,30] [2,28] [7,30,6] @kZ]
def G50:=asr.q {mv:=[15,33,37,51,54,58]} func50 nT
def ass:=G50.q {merge:=mg [(2,17)]} func141 C4
def G52:=ass.q {} func52 pZ
def asw:=G52.q {merge:=mg [(1,15)]} func145 vS
def asx:=asw.q {merge:=mg [(1,24),(7,54)]} func146 pR
def asy:=asx.q {merge:=mg [(19,60)],mv:=[37,61,66]} func147 nW [ld [1,7,8,33,34] [0] [8,34] @mW,ld [1,7,11,44,45] [0] [11,45] @gE [(.exit 2,[11,45])] [(43,.data false (.sl .loc (.int .i64)),Z)]]
def G53:=asy.q {merge:=mg [(2,35),(7,73)],late:=[93],mv:=[36,81],er:=mg [(98,11)]} func53 Df
def asA:=G53.q {merge:=mg [(1,34)]} func149 vP
def auS:=asA.q {merge:=mg [(1,4)]} func291 Fh
def ay0:=auS.q {} func550 su
def ayp:=ay0.q {merge:=mg [(1,4)]} func513 vR
def awS:=ayp.q {merge:=mg [(7,34)]} func415 C8 [ld [3,5,12,13] [0,11] [5,13] @vL]
def awT:=awS.q {} func416 C7
def awU:=awT.q {} func417 zA
def azd:=awU.q {} func563 D4
def aze:=azd.q {merge:=mg [(1,14)]} func564 Av [ld [0,1,5,6] [] [5,6] @tF]
def ay7:=aze.q {merge:=mg [(1,14)]} func557 Aq [ld [0,1,5,6] [] [5,6] @tB]
def ay8:=ay7.q {} func558 Ar
def ayT:=ay8.q {} func543 xy
def ayq:=ayT.q {merge:=mg [(2,17)]} func514 Fl
def awV:=ayq.q {merge:=mg [(2,18)]} func418 vT
def auT:=awV.q {merge:=mg [(1,17)]} func292 vU
def axH:=auT.q {nest:=[33],mv:=[19,49]} func466 we [ld [1,2,6,8] [] [1,2,8] @po]
def avC:=axH.q {mv:=[34,41,50,57],sb:=mg [(14,14)]} func337 Mc [ld [4,12,14,36,37] [] [4,37,14] @D5 [(.exit 0,[4,37,14])] [(35,.data false (.sl .loc pG),Z)]]
def axL:=avC.q {} func470 sP
def ayM:=axL.q {} func536 qf
def ayO:=ayM.q {} func538 AM
def ay9:=ayO.q {merge:=mg [(1,2)]} func559 nQ
def aza:=ay9.q {merge:=mg [(1,12)]} func560 mU
def ayU:=aza.q {merge:=mg [(1,22)],mv:=[26,37,41,51],mb:=mg [(41,13),(51,13)],sb:=mg [(10,10),(11,11),(13,13)]} func544 rr
def axS:=ayU.v {merge:=mg [(3,50)],sb:=mg [(12,12),(13,13),(20,20)]} func479 AP [(true,(.sl .arg .str)),(true,(.pair (.int .i64) (.pair (.int .i64) (.int .i64)))),(false,.bool)]
def avJ:=axS.q {merge:=mg [(1,31)],mv:=[52,66],mb:=mg [(66,16)],sb:=mg [(10,10),(11,11)]} func344 pU
def ayr:=avJ.q {} func515 De
def awW:=ayr.q {merge:=mg [(1,42),(4,76),(6,4)]} func419 Al
def awX:=awW.q {} func420 M9
def awY:=awX.q {} func421 Mb
def auU:=awY.q {merge:=mg [(1,30),(3,44)],mv:=[53,68,77],mb:=mg [(77,16)],sb:=mg [(14,14),(15,15)]} func293 ry
def avH:=auU.q {merge:=mg [(1,9)]} func342 rE
def aw0:=avH.q {} func423 C2
def auV:=aw0.b {} func294 mH [ld [1,7] [] [7,0] @tL [(.exit 0,[7,0])] [(0,.ptr 0 0,some (sF 1 cR))] .ptr] (t:=(kF (.own none) cR))
def asB:=auV.q {mv:=[14,34,46,62,69,90,103],sb:=mg [(92,5)]} func150 pY
def G54:=asB.q {merge:=mg [(2,24)],mv:=[25,26,57,76]} func54 si [ld [5,6,7,8,10,39,40,41] [] [41,7] @mD]
def G9:=G54.q {merge:=mg [(2,29)],mv:=[30,31,75,85,94]} func9 tz [ld [1,4,5,6,63,64] [] [64,5] @kI [(.exit 0,[64,5])] [(62,.data false (.sl .loc .str),Z)]]
def ate:=G9.q {merge:=mg [(1,12),(3,31),(5,2)]} func189 GF
def G86:=ate.q {merge:=mg [(1,4)]} func86 AG
def ayK:=G86.q {merge:=mg [(2,17)],mv:=[18,29]} func534 Fj
def ayL:=ayK.q {merge:=mg [(2,20)],mv:=[21,35,41]} func535 C5 [ld [1,4,6,26,27] [25] [27,6] @vJ]
def axB:=ayL.q {mv:=[21,30,39,46],mb:=mg [(39,6)],sb:=mg [(4,4)]} func460 Fq
def avw:=axB.q {mv:=[13,20,30,31,47],mb:=mg [(20,6),(47,6)],sb:=mg [(4,4)],fm:=[49]} func331 rl
def atf:=avw.q {mv:=[14,23,32,60],es:=mg [(25,8)]} func190 tM
def G87:=atf.q {merge:=mg [(2,24)],mv:=[25,26,34,47]} func87 rj
def avx:=G87.q {merge:=mg [(5,2),(7,2)]} func332 vM
def ath:=avx.q {merge:=mg [(2,24)],mv:=[25,74]} func192 pQ [ld [2,4,6,7,8,9] [] [8,9] @pb,ld [2,4,6,7,8,10] [] [8,10] @nR [(.exit 2,[8,10])]]
def G88:=ath.q {merge:=mg [(2,18),(5,28)],mv:=[19,48],sb:=mg [(9,9)]} func88 AB [ld [2,3,8,9,10] [1] [10,9] @tJ]
def G89:=G88.q {merge:=mg [(1,20)],mv:=[33,47]} func89 wa [ld [1,5,6,7] [] [6,7] @jv]
def avF:=G89.q {merge:=mg [(1,15)]} func340 gj
def axK:=avF.q {} func469 xC
def avG:=axK.q {merge:=mg [(1,22)],mv:=[26,36,40,50],mb:=mg [(40,13),(50,13)],sb:=mg [(10,10),(11,11),(13,13)]} func341 AA
def atq:=avG.q {merge:=mg [(2,34)],mv:=[35,37,53,65,76,78],mb:=mg [(35,14),(37,15),(65,20),(76,14),(78,15)],sb:=mg [(8,8),(10,10),(11,11),(12,12),(14,14),(15,15)]} func201 kl [ld [2,8,10,11,12,14,15,16,40,41] [0,9,39] [16,41,8,14] @pT]
def ayN:=atq.q {} func537 mT
def axD:=ayN.q {merge:=mg [(7,46)],sb:=mg [(8,8),(9,9)]} func462 ph
def ayQ:=axD.q {} func540 vV [ld [3,4,8,9] [7] [9] @xh [(.exit 0,[9]),(.ret,[4,9])]]
def axF:=ayQ.q {merge:=mg [(17,82)],mv:=[16,31,51,58,67,83,132],er:=mg [(115,5)]} func464 Fk
def avA:=axF.q {merge:=mg [(2,48)],mv:=[49,51,52,96,104,117,119,120],mb:=mg [(49,19),(51,20),(117,19),(119,20)],sb:=mg [(14,14),(15,15),(16,16),(19,19),(20,20)]} func335 Ay [ld [2,6,10,14,15,16,19,20,21,22] [0] [21,22,10,20] @nU]
def atk:=avA.b {mv:=[8,49,51,52],sb:=mg [(55,0),(59,0)],fm:=[19,20],eb:=mg [(56,0),(57,0)]} func195 mh (t:=(kF (.own none) cR))
def avB:=atk.q {mv:=[24,29]} func336 Ax [ld [2,6,8,9] [] [9,8] @yn]
def atl:=avB.q {mv:=[3,8]} func196 JQ
def atm:=atl.q {} func197 kJ
def atn:=atm.q {} func198 uP
def atp:=atn.q {mv:=[10,24],mb:=mg [(24,5)],sb:=mg [(2,2),(3,3)]} func200 CB
def G90:=atp.q {mv:=[18,37,88,98,121,142],sb:=mg [(90,3)]} func90 uJ [ld [2,3,21,22] [] [22,3] @tE,ld [2,3,31,32] [] [32,3] @rm [(.exit 2,[32,3])] [(30,.data false (.sl .loc kU),Z)],ld [2,3,54,55] [] [55,3] @mE [(.exit 4,[55,3])]]
def G91:=G90.q {} func91 pP
def G92:=G91.q {mv:=[13,15,32]} func92 vI
def atr:=G92.q {} func202 yt
def G93:=atr.q {mv:=[10,28]} func93 xz [ld [2,3,13,14] [] [14,3] @vO]
def ats:=G93.q {merge:=mg [(1,10)]} func203 tI
def G94:=ats.q {mv:=[26]} func94 rD [ld [1,5,10,11] [] [5,11] @mX]
def att:=G94.q {} func204 Ry
def G95:=att.q {merge:=mg [(1,14)]} func95 tw
def axO:=G95.q {} func473 tP [ld [3,8,9] [7] [3,9] @nY]
def anT:=axO.q {merge:=mg [(2,20)],mv:=[21,28],mb:=mg [(28,7)],sb:=mg [(4,4)]} func474 vY
def azl:Ez:=OC [pd (.sl eE),pf (.sl .str),pI,pf jQ,pd (.sl (.int .i64)),pd .str,pI] [(true,(.sl (.own none) .str)),(false,(.sl (.own none) pG)),rB] [(true,(.sl .arg .str)),(false,(.sl (.own none) pG)),rB] rfl λa=>qc a.1 a.2.1 a.2.2.1 a.2.2.2.1 a.2.2.2.2.1 a.2.2.2.2.2.1 a.2.2.2.2.2.2.1
def arA:An:={mask:=mk [(3,[0,2,5,6,8,10,14,15,16,17,24,25,26])],peel:=[3],mv:=[40,49,53,54,55,65,66],sb:=mg [(21,21)]}
abbrev ZC:SD:=⟨fF (zsa eE)::B::DI::B::B::fF .str::DI::B::.ptr 8 0::B::.ptr 10 0::B::B::B::.ptr 14 0::fF (Q4 184320 pG)::DB::fF (Q4 208896 pG)::bs 6 (fF (zsa (.int .i64))::DI::DI::bs 40 []),zs 8 ((zsm (Q4 98305 .str))::Z::(some Y2)::Z::Z::Z::(zsm (Q4 172033 .str))::zs 52 []),.none⟩
abbrev ais:SD:=⟨fF (zsa eE)::B::DI::B::B::fF .str::DI::B::.ptr 8 0::B::.ptr 10 0::B::B::B::.ptr 14 0::fF (Q4 184320 pG)::DB::fF (Q4 208896 pG)::bs 6 (fF (zsa (.int .i64))::DI::DI::bs 40 []),zs 8 ((zsm (.sl .loc .str))::Z::(some Y2)::Z::Z::Z::(zsm (Q4 172033 .str))::zs 52 []),.none⟩
def anH (X:SD.D ZC)(K:zkk R):=lK (λy0 y1 y2 y3=>ke 0 K ZC ((z2 (w y0 (z3 (w y1 (z2 (u y2))))) X.1),(u y3 X.2.1),X.2.2)) (λy0 y1 y2 y3 y4 y5 y6=>kr K ais ((X.1.1,(X.1.2.1,(y0,(X.1.2.2.2.1,(y1,(y2,(y3,(X.1.2.2.2.2.2.2.2.1,(X.1.2.2.2.2.2.2.2.2.1,(y4,())))))))))),(y5,(X.2.1.2.1,(y6,()))),())) X.1.1 X.1.2.1 (q3 X) (q4 X) (q5 X) (q7 X) (q8 X) X.2.1.2.1 X.2.1.2.2.1
def aqN:Lm:=Lm.nil.add 3 (mkl ZC anH (λX=>(q2 X,q6 X,q9 X,X.2.1.1)))
theorem aqo:LOk E anT.g arA aqN (gJ f475 0):=lk ZC anH (λX=>(q2 X,q6 X,q9 X,X.2.1.1)) λX x=>((z2 (w x.1 (z3 (w x.2.1 (z2 (u x.2.2.1))))) X.1),(u x.2.2.2 X.2.1),X.2.2)
theorem az2:zfo 475 azl:=mz.ofAlt (alv (Γ:=anT.g) (an:=arA) (Λ:=aqN) (by rfl) (anT.s) func475 (by kernel_rfl) (ao (cF aqo nF))) (λa=>by kernel_rfl)
def axP:=anT.add az2
def axQ:=axP.q {mv:=[27,43],mb:=mg [(43,13)],sb:=mg [(10,10),(11,11),(13,13),(14,14)]} func477 lr [ld [2,8,10,11,12,13,14,22,23] [0,6,21] [23,13,14] @mG [(.exit 0,[23,13,14]),(.ret,[12,23,10,11,13,14])]]
def avI:=axQ.q {merge:=mg [(2,57),(6,92),(15,135)],mv:=[58,59,93,94,97,107,108,109,122,123,136,137,145,151,164,165,169,174,184,185],mb:=mg [(58,17),(59,18),(93,17),(94,18),(107,17),(108,18),(136,17),(137,18),(164,17),(165,18),(184,26),(185,22)],sb:=mg [(14,14),(15,15),(17,17),(18,18),(26,26)]} func343 yq [ld [2,14,15,17,18,22,24,28,29,140,141] [0,10] [29,141] @gA [(.exit 0,[29,141])] [(26,.ptr 26 0,some (.sl .loc .str)),(139,.data false (.sl .loc Cj),Z)]]
def atu:=avI.q {mv:=[19,20,34,36,38]} func205 Db
def atv:=atu.q {mv:=[10,17,35,49],sb:=mg [(37,3)]} func206 As [ld [2,3,13,14] [1] [14,3] @tD]
def avK:=atv.q {merge:=mg [(1,11)]} func345 rC
def avL:=avK.q {} func346 D3
def atw:=avL.q {merge:=mg [(2,21)],mv:=[22,78]} func207 vN [ld [1,4,6,7,25,26] [] [7,26,6] @pg]
def G96:=atw.q {merge:=mg [(1,15)],mv:=[22,34,35]} func96 JO
def G16:=G96.q {merge:=mg [(2,23)],late:=[67],mv:=[24,114,115,125,131,133],sb:=mg [(4,4),(9,9),(49,6)]} func16 D2 [ld [4,6,52,53] [] [53,6] @sk [(.exit 1,[53,6])],ld [4,6,91,92] [] [92,6] @sm [(.exit 4,[92,6])]]
abbrev vo:ar PS:=[pf gW,pf zV]
def DZ:Ez:=XK vo [rB] (c2 yY)
theorem Mk:zfo 4 DZ:=f0 {merge:=mg [(11,51),(17,72),(28,100)],mv:=[26,32,36,41,90],sb:=mg [(6,6),(9,9),(14,14)]} G16.s func4
end
end Go.Proofs.YthllnaiaikjelaaGreat.Fn
