import Derived.Test.YthllnaiaikjelaaGreatDnSig
import Derived.Test.YthllnaiaikjelaaGreatPure
import Derived.Test.YthllnaiaikjelaaGreatRows
/- Each function of the program is its pure function (made by gen.py). -/
namespace Go.Proofs.YthllnaiaikjelaaGreat.Fn
open Go.Dn
open Go.Pu Go.Proofs.Tryz
set_option maxRecDepth 100000
set_option linter.unusedVariables false
noncomputable section
variable {Λ:F0} {P:Program} {A0 A1 A2 A3 A4 A5 C R σ:Type} {A:Type->Type} {rs:aq (Bool×FT)} {s:aq PS}
abbrev zkk (R:Type):=Ex->AS->Option R
abbrev zit:FT:=.int .i64
abbrev PN (a b:FT):FT:=.pair a b
abbrev zpi (b:FT):FT:=.pair (.int .i64) b
abbrev Qt (n:Nat)(t:CT):FT:=.sl (.own (some n)) t
abbrev zsm (t:FT):Option FT:=some t
abbrev gZ (t:FT):PD:=.data false t
abbrev jh (t:FT):PD:=.data true t
abbrev zsa (t:CT):FT:=.sl .arg t
abbrev B:PD:=.bot
abbrev DI:PD:=.data false (.int .i64)
abbrev DB:PD:=.data false .bool
abbrev Z:ar FT:=none
theorem nF {p:Code->Prop}:∀x∈([]:aq Code),p x:=λ_ h=>nomatch h
theorem cF {p:Code->Prop}{a:Code}{l:aq Code}(h:p a)(t:∀x∈l,p x):∀x∈a::l,p x:=List.forall_mem_cons.2 ⟨h,t⟩
theorem hF {p:Code->Prop}{l m:aq Code}(e:l=m)(h:∀x∈m,p x):∀x∈l,p x:=e▸h
theorem fk {E:Env}{Γ:xf}{F:Be s->ar (hY rs)}{f:Nat}{fn:Func}(an:An)(hS:Sound P E Γ)(hf:P.funcs[f]?=some fn){l:aq Code}(h:∀c∈l,Y6 E Γ an Λ c)(hn:(fn.name== "runtime.NumGoroutine")=false:=by kernel_rfl)(hl:gY (fn.body.getD .skip)=l:=by kernel_rfl)(dU:an.cut=[]:=by kernel_rfl)(hF:∀a,F8 E Γ an Λ fn rs (ib s a)=F a:=by intro a;kernel_rfl):kh P f (QI s rs F):=kh.of (aaC hS hf hn (zP.of (Fn.hF hl h) dU)) hF
theorem ao {E:Env}{Γ:xf}{an:An}{b:Code}{l:aq Code}(h:∀c∈l,Y6 E Γ an Λ c)(hl:gY b=l:=by kernel_rfl)(hc:an.cut=[]:=by kernel_rfl):zP E Γ an Λ b:=zP.of (Fn.hF hl h) hc
theorem ac {E:Env}{Γ:xf}{an:An}{b:Code}{l m:aq Code}(h:∀c∈l,Y6 E Γ an Λ c)(hc:∀c∈m,COk E Γ an Λ c)(hl:gY b=l:=by kernel_rfl)(hm:jU an.cut b=m:=by kernel_rfl):zP E Γ an Λ b:=⟨Fn.hF hl h,Fn.hF hm hc⟩
theorem fc {E:Env}{Γ:xf}{F:Be s->ar (hY rs)}{f:Nat}{fn:Func}(an:An)(hS:Sound P E Γ)(hf:P.funcs[f]?=some fn){l m:aq Code}(h:∀c∈l,Y6 E Γ an Λ c)(hc:∀c∈m,COk E Γ an Λ c)(hn:(fn.name== "runtime.NumGoroutine")=false:=by kernel_rfl)(hl:gY (fn.body.getD .skip)=l:=by kernel_rfl)(hm:jU an.cut (fn.body.getD .skip)=m:=by kernel_rfl)(hF:∀a,F8 E Γ an Λ fn rs (ib s a)=F a:=by intro a;kernel_rfl):kh P f (QI s rs F):=kh.of (aaC hS hf hn ⟨Fn.hF hl h,Fn.hF hm hc⟩) hF
abbrev pd (t:CT):PS:=.data false t
abbrev pf (t:CT):PS:=.data true t
abbrev pI:PS:=.data false (.int .i64)
abbrev rB:Bool×FT:=(false,.bool)
abbrev rI:Bool×FT:=(false,.int .i64)
abbrev rS:Bool×FT:=(false,.str)
abbrev bs:Nat->aq PD->aq PD
 |0,l=>l
 |n+1,l=> .bot::bs n l
abbrev zs:Nat->aq (ar FT)->aq (ar FT)
 |0,l=>l
 |n+1,l=>none::zs n l
def mk (l:aq (Nat×dy))(n:Nat):dy:=(l.lookup n).getD []
def mg (l:aq (Nat×Nat))(n:Nat):ar Nat:=l.lookup n
def ke (n:Nat)(K:zkk R)(d:SD)(x:SD.D d):ar R:=K (.exit n) (SD.enc d x)
def kn (K:zkk R)(d:SD)(x:SD.D d):ar R:=K .normal (SD.enc d x)
def kr (K:zkk R)(d:SD)(x:SD.D d):ar R:=K .ret (SD.enc d x)
def mkl (d:SD)(t:{R:Type}->SD.D d->(Ex->AS->ar R)->(σ->ar R)->σ->ar R)(i:SD.D d->σ):KU:=⟨d,λX K=>aJ (t X K) fuel (i X)⟩
theorem lk {E:Env}{Γ:xf}{an:An}{c:Code}(d:SD)(t:{R:Type}->SD.D d->(Ex->AS->ar R)->(σ->ar R)->σ->ar R)(i:SD.D d->σ)(w:SD.D d->σ->SD.D d)(h1:Λ (du c)=mkl d t i:=by kernel_rfl)(h:∀(R:Type)(X:SD.D d)(K:zkk R)(m:Nat)(x:σ),zV (an.mask (du c)) (den E Γ an Λ c) (m+1) (SD.enc d (w X x)) K=t X K (λy=>zV (an.mask (du c)) (den E Γ an Λ c) m (SD.enc d (w X y)) K) x:=by intro R X K m x;kernel_rfl)(hw:∀X,w X (i X)=X:=by intro X;kernel_rfl):Y6 E Γ an Λ c:=lok (mkl d t i) h1 fuel λR X K=>(Rf (λx=>SD.enc d (w X x)) (t X K) (h R X K) fuel (i X)).symm.trans (congrArg (λy=>zV (an.mask (du c)) (den E Γ an Λ c) fuel (SD.enc d y) K) (hw X))
def mkc (d:SD)(t:{R:Type}->SD.D d->(Ex->AS->ar R)->ar R):KU:=⟨d,λX K=>t X K⟩
theorem ck {E:Env}{Γ:xf}{an:An}{c:Code}(d:SD)(t:{R:Type}->SD.D d->(Ex->AS->ar R)->ar R)(h1:Λ (xl c)=mkc d t:=by kernel_rfl)(h:∀(R:Type)(X:SD.D d)(K:zkk R),t X K=den E Γ an Λ c (SD.enc d X) (λe st'=>K e (st'.mask (an.mask (xl c+1)))):=by intro R X K;kernel_rfl):COk E Γ an Λ c:=cok (mkc d t) h1 h
def u {A B:Type}(y:A)(x:A×B):A×B:=(y,x.2)
def w {A B:Type}(y:A)(f:B->B)(x:A×B):A×B:=(y,f x.2)
def z1 {B:Type}(f:B->B)(x:A0×B):A0×B:=(x.1,f x.2)
def z2 {B:Type}(f:B->B)(x:A0×A1×B):A0×A1×B:=(x.1,x.2.1,f x.2.2)
def z3 {B:Type}(f:B->B)(x:A0×A1×A2×B):A0×A1×A2×B:=(x.1,x.2.1,x.2.2.1,f x.2.2.2)
def z5 {B:Type}(f:B->B)(x:A0×A1×A2×A3×A4×B):A0×A1×A2×A3×A4×B:=(x.1,x.2.1,x.2.2.1,x.2.2.2.1,x.2.2.2.2.1,f x.2.2.2.2.2)
def z6 {B:Type}(f:B->B)(x:A0×A1×A2×A3×A4×A5×B):A0×A1×A2×A3×A4×A5×B:=(x.1,x.2.1,x.2.2.1,x.2.2.2.1,x.2.2.2.2.1,x.2.2.2.2.2.1,f x.2.2.2.2.2.2)
def q2 {B:Type}(x:(A0×A1×A2×B)×C):A2:=x.1.2.2.1
def q3 {B:Type}(x:(A0×A1×A2×A3×B)×C):A3:=x.1.2.2.2.1
def q4 {B:Type}(x:(A0×A1×A2×A3×A4×B)×C):A4:=x.1.2.2.2.2.1
def q5 {B:Type}(x:(A0×A1×A2×A3×A4×A5×B)×C):A5:=x.1.2.2.2.2.2.1
def q6 {A6 B:Type}(x:(A0×A1×A2×A3×A4×A5×A6×B)×C):A6:=x.1.2.2.2.2.2.2.1
def q7 {A6 A7 B:Type}(x:(A0×A1×A2×A3×A4×A5×A6×A7×B)×C):A7:=x.1.2.2.2.2.2.2.2.1
def c1 {B:Type}(f:A0->R)(a:A0×B):R:=f a.1
def c2 {B:Type}(f:A0->A1->R)(a:A0×A1×B):R:=f a.1 a.2.1
def c4 {B:Type}(f:A0->A1->A2->A3->R)(a:A0×A1×A2×A3×B):R:=f a.1 a.2.1 a.2.2.1 a.2.2.2.1
theorem f0 {E:Env}{Γ:xf}{F:Be s->ar (hY rs)}{f:Nat}{fn:Func}(an:An)(hS:Sound P E Γ)(hf:P.funcs[f]?=some fn)(hn:(fn.name== "runtime.NumGoroutine")=false:=by kernel_rfl)(hl:gY (fn.body.getD .skip)=[]:=by kernel_rfl)(dU:an.cut=[]:=by rfl)(hF:∀a,F8 E Γ an F0.nil fn rs (ib s a)=F a:=by intro a;kernel_rfl):kh P f (QI s rs F):=kh.of (aaC hS hf hn (zP.of (Fn.hF hl nF) dU)) hF
abbrev Y0:FT:=zpi (zpi (zpi zit))
abbrev Y1:FT:=PN (Qt 36865 .str) (PN (Qt 36868 eL) (PN (PN Y0 (PN (zpi (zpi (zpi (Qt 36892 (.int .i64))))) (PN (Qt 36895 mj) zit))) (PN (Qt 36901 dQ) (PN (Qt 36904 mi) (PN (.sl .arg gz) (PN (.sl .arg .bool) (PN (zpi (PN .bool (.sl .arg (.int .i64)))) (PN (PN (.sl .arg pn) (PN (.sl .arg kM) (PN .str (.sl .arg (.int .i64))))) (PN (.sl .arg gb) (PN .bool (PN (.sl .arg .str) (PN (.sl .arg (.int .i64)) (PN (.sl .arg (.int .i64)) (PN zit Y0))))))))))))))
def E:Env:={ty:=[(3,⟨false,(.int .i64),[]⟩),
 (4,⟨false,.bool,[]⟩),
 (5,⟨false,(.int .u8),[]⟩),
 (9,⟨false,.str,[]⟩),
 (22,⟨false,(.sl fF),[(182,0)]⟩),
 (23,⟨false,(.sl bS),[(220,0)]⟩),
 (24,⟨false,(.sl eV),[(185,0)]⟩),
 (25,⟨false,(.sl .str),[(9,0)]⟩),
 (27,⟨true,(.sl .str),[(0,1)]⟩),
 (29,⟨true,ui,[(0,1),(1,1),(2,1),(3,1)]⟩),
 (30,⟨false,(.sl (.int .i64)),[(3,0)]⟩),
 (32,⟨true,iB,[(0,1),(1,1),(2,1),(3,1),(4,4),(8,1),(9,1)]⟩),
 (34,⟨false,(.sl fF),[(115,0)]⟩),
 (35,⟨false,(.sl bS),[(196,0)]⟩),
 (36,⟨false,(.sl eV),[(187,0)]⟩),
 (37,⟨true,(.sl .str),[(0,1)]⟩),
 (38,⟨true,ui,[(0,1),(1,1),(2,1),(3,1)]⟩),
 (40,⟨true,iB,[(0,1),(1,1),(2,1),(3,1),(4,4),(8,1),(9,1)]⟩),
 (47,⟨true,Dd,[(0,1),(1,1),(2,1),(3,1),(4,1),(5,1),(6,1),(7,1)]⟩),
 (49,⟨true,B9,[(0,1),(1,1),(2,1),(3,1),(4,1),(5,1),(6,1),(7,1),(8,8)]⟩),
 (59,⟨true,Dd,[(0,1),(1,1),(2,1),(3,1),(4,1),(5,1),(6,1),(7,1)]⟩),
 (61,⟨true,B9,[(0,1),(1,1),(2,1),(3,1),(4,1),(5,1),(6,1),(7,1),(8,8)]⟩),
 (88,⟨true,(.sl .str),[(0,1)]⟩),
 (89,⟨false,(.sl eL),[(359,0)]⟩),
 (91,⟨true,ui,[(0,1),(1,1),(2,1),(3,1)]⟩),
 (93,⟨true,mi,[(0,1),(1,1),(2,1),(3,1)]⟩),
 (94,⟨false,(.sl mj),[(261,0)]⟩),
 (96,⟨true,uV,[(0,4),(4,4),(8,1),(9,1)]⟩),
 (97,⟨false,(.sl dQ),[(257,0)]⟩),
 (98,⟨false,(.sl mi),[(93,0)]⟩),
 (99,⟨false,(.sl gz),[(266,0)]⟩),
 (100,⟨false,(.sl .bool),[(4,0)]⟩),
 (102,⟨true,zZ,[(0,1),(1,1),(2,1)]⟩),
 (103,⟨false,(.sl pn),[(361,0)]⟩),
 (104,⟨false,(.sl kM),[(365,0)]⟩),
 (106,⟨true,(.sl kM),[(0,1)]⟩),
 (108,⟨true,G3,[(0,1),(1,1)]⟩),
 (110,⟨true,xi,[(0,1),(1,1),(2,2)]⟩),
 (111,⟨false,(.sl gb),[(367,0)]⟩),
 (113,⟨true,Dc,[(0,1),(1,1),(2,1),(3,1),(4,1)]⟩),
 (115,⟨true,fF,[(0,1),(1,1),(2,10),(12,1),(13,1),(14,1),(15,1),(16,3),(19,4),(23,1),(24,1),(25,1),(26,1),(27,1),(28,5)]⟩),
 (117,⟨false,(.sl Y7),[(202,0)]⟩),
 (161,⟨true,(.sl .str),[(0,1)]⟩),
 (162,⟨false,(.sl eL),[(432,0)]⟩),
 (163,⟨true,ui,[(0,1),(1,1),(2,1),(3,1)]⟩),
 (164,⟨true,mi,[(0,1),(1,1),(2,1),(3,1)]⟩),
 (165,⟨false,(.sl mj),[(498,0)]⟩),
 (167,⟨true,uV,[(0,4),(4,4),(8,1),(9,1)]⟩),
 (168,⟨false,(.sl dQ),[(405,0)]⟩),
 (169,⟨false,(.sl mi),[(164,0)]⟩),
 (170,⟨false,(.sl gz),[(438,0)]⟩),
 (171,⟨true,zZ,[(0,1),(1,1),(2,1)]⟩),
 (172,⟨false,(.sl pn),[(516,0)]⟩),
 (173,⟨false,(.sl kM),[(539,0)]⟩),
 (175,⟨true,(.sl kM),[(0,1)]⟩),
 (176,⟨true,G3,[(0,1),(1,1)]⟩),
 (178,⟨true,xi,[(0,1),(1,1),(2,2)]⟩),
 (179,⟨false,(.sl gb),[(412,0)]⟩),
 (180,⟨true,Dc,[(0,1),(1,1),(2,1),(3,1),(4,1)]⟩),
 (182,⟨true,fF,[(0,1),(1,1),(2,10),(12,1),(13,1),(14,1),(15,1),(16,3),(19,4),(23,1),(24,1),(25,1),(26,1),(27,1),(28,5)]⟩),
 (185,⟨true,eV,[(0,3),(3,1),(4,1),(5,1)]⟩),
 (187,⟨true,eV,[(0,3),(3,1),(4,1),(5,1)]⟩),
 (194,⟨true,qT,[(0,1),(1,1),(2,1)]⟩),
 (196,⟨true,bS,[(0,1),(1,1),(2,3),(5,1),(6,1),(7,1)]⟩),
 (202,⟨true,Y7,[(0,1),(1,1),(2,1),(3,1)]⟩),
 (218,⟨true,qT,[(0,1),(1,1),(2,1)]⟩),
 (220,⟨true,bS,[(0,1),(1,1),(2,3),(5,1),(6,1),(7,1)]⟩),
 (253,⟨true,qT,[(0,1),(1,1),(2,1)]⟩),
 (255,⟨true,Ix,[(0,16),(16,1),(17,1)]⟩),
 (257,⟨true,dQ,[(0,4),(4,3),(7,3),(10,18),(28,1),(29,1)]⟩),
 (261,⟨true,mj,[(0,1),(1,1),(2,1)]⟩),
 (266,⟨true,gz,[(0,1),(1,1),(2,1),(3,1),(4,1),(5,1)]⟩),
 (284,⟨false,(.sl (.int .u8)),[(5,0)]⟩),
 (313,⟨true,apd,[(0,1),(1,1),(2,1),(3,1),(4,1)]⟩),
 (317,⟨true,TIp,[(0,1),(1,1),(2,1),(3,1),(4,1),(5,1),(6,1)]⟩),
 (359,⟨true,eL,[(0,1),(1,1),(2,1),(3,1)]⟩),
 (361,⟨true,pn,[(0,1),(1,1),(2,1),(3,1),(4,1),(5,1),(6,1),(7,1),(8,1)]⟩),
 (363,⟨true,Dc,[(0,1),(1,1),(2,1),(3,1),(4,1)]⟩),
 (365,⟨true,kM,[(0,1),(1,5),(6,1)]⟩),
 (367,⟨true,gb,[(0,5),(5,1),(6,1),(7,1)]⟩),
 (377,⟨true,Dc,[(0,1),(1,1),(2,1),(3,1),(4,1)]⟩),
 (394,⟨true,yE,[(0,1),(1,1),(2,1),(3,1),(4,1),(5,1)]⟩),
 (401,⟨true,qT,[(0,1),(1,1),(2,1)]⟩),
 (403,⟨true,Ix,[(0,16),(16,1),(17,1)]⟩),
 (405,⟨true,dQ,[(0,4),(4,3),(7,3),(10,18),(28,1),(29,1)]⟩),
 (410,⟨true,Dc,[(0,1),(1,1),(2,1),(3,1),(4,1)]⟩),
 (412,⟨true,gb,[(0,5),(5,1),(6,1),(7,1)]⟩),
 (419,⟨false,(.sl yE),[(394,0)]⟩),
 (422,⟨false,(.sl uU),[(479,0)]⟩),
 (432,⟨true,eL,[(0,1),(1,1),(2,1),(3,1)]⟩),
 (438,⟨true,gz,[(0,1),(1,1),(2,1),(3,1),(4,1),(5,1)]⟩),
 (479,⟨true,uU,[(0,1),(1,1)]⟩),
 (486,⟨false,(.sl uU),[(490,0)]⟩),
 (490,⟨true,uU,[(0,1),(1,1)]⟩),
 (498,⟨true,mj,[(0,1),(1,1),(2,1)]⟩),
 (509,⟨false,(.sl B9),[(61,0)]⟩),
 (516,⟨true,pn,[(0,1),(1,1),(2,1),(3,1),(4,1),(5,1),(6,1),(7,1),(8,1)]⟩),
 (520,⟨false,(.int .u32),[]⟩),
 (539,⟨true,kM,[(0,1),(1,5),(6,1)]⟩)],eqs:=[(61,[.int,.int,.int,.int,.int,.int,.int,.int,.int,.int,.int,.int,.int,.int,.int,.str]),(255,[.int,.int,.int,.int,.int,.int,.int,.int,.int,.int,.int,.int,.int,.int,.int,.str,.int,.int]),(363,[.int,.int,.int,.int,.int]),(394,[.int,.int,.int,.int,.int,.int])],fts:=[]}
theorem base:Sound Tryz.prog E xf.nil:=Sound.nil (Vd (by kernel_rfl)) (Vg (by kernel_rfl)) (Vf (by kernel_rfl)) (by kernel_rfl)
structure SG where (g:xf) (s:Sound Tryz.prog E g)
def SG.add (S:SG){f:Nat}{F:zY}(h:kh Tryz.prog f F):SG:=⟨S.g.add f F,S.s.add h⟩
def G0:SG:=⟨xf.nil,base⟩
def SG.qk (S:SG){f:Nat}{fn:Func}(an:An)(hf:Tryz.prog.funcs[f]?=some fn)(s:aq PS)(rs:aq (Bool×FT))(F:Be s->ar (hY rs)){l:aq Code}(h:∀c∈l,Y6 E S.g an Λ c)(hn:(fn.name== "runtime.NumGoroutine")=false:=by kernel_rfl)(hl:gY (fn.body.getD .skip)=l:=by kernel_rfl)(dU:an.cut=[]:=by kernel_rfl)(hF:∀a,F8 E S.g an Λ fn rs (ib s a)=F a:=by intro a;kernel_rfl):SG:=S.add (kh.of (aaC S.s hf hn (zP.of (Fn.hF hl h) dU)) hF)
def SG.q1 (S:SG){f:Nat}{fn:Func}(an:An)(hf:Tryz.prog.funcs[f]?=some fn)(s:aq PS)(rs:aq (Bool×FT))(F:Be s->ar (hY rs))(d:SD)(t:{R:Type}->SD.D d->(Ex->AS->ar R)->(σ->ar R)->σ->ar R)(i:SD.D d->σ)(w:SD.D d->σ->SD.D d)(h1:(F0.nil.add (du (fU fn 0)) (mkl d t i)) (du (fU fn 0))=mkl d t i:=by kernel_rfl)(h:∀(R:Type)(X:SD.D d)(K:zkk R)(m:Nat)(x:σ),zV (an.mask (du (fU fn 0))) (den E S.g an (F0.nil.add (du (fU fn 0)) (mkl d t i)) (fU fn 0)) (m+1) (SD.enc d (w X x)) K=t X K (λy=>zV (an.mask (du (fU fn 0))) (den E S.g an (F0.nil.add (du (fU fn 0)) (mkl d t i)) (fU fn 0)) m (SD.enc d (w X y)) K) x:=by intro R X K m x;kernel_rfl)(hw:∀X,w X (i X)=X:=by intro X;kernel_rfl)(hn:(fn.name== "runtime.NumGoroutine")=false:=by kernel_rfl)(hl:gY (fn.body.getD .skip)=[fU fn 0]:=by kernel_rfl)(dU:an.cut=[]:=by kernel_rfl)(hF:∀a,F8 E S.g an (F0.nil.add (du (fU fn 0)) (mkl d t i)) fn rs (ib s a)=F a:=by intro a;kernel_rfl):SG:=S.add (kh.of (aaC S.s hf hn (zP.of (Fn.hF hl (cF (lk d t i w h1 h hw) nF)) dU)) hF)
def Ty (T:Nat):Shape:=(iC E.ty T).getD ⟨false,.bool,[]⟩
def kF (k:FK):CT->FT
 | .pair a b=> .pair (kF k a) (kF k b)
 | .sl e=> .sl k e
 | .int k=> .int k
 | .bool=> .bool
 | .str=> .str
def sF:Nat->CT->FT
 |n,.pair a b=> .pair (sF n a) (sF (n+3*a.size) b)
 |n,.sl e=> .sl (.own (some n)) e
 |_,.int k=> .int k
 |_,.bool=> .bool
 |_,.str=> .str
def sg (fn:Func):aq PS:=fn.params.toList.map λT=> .data (Ty T).agg (Ty T).ct
def rz (fn:Func):aq (Bool×FT):=fn.resultTypes.toList.map λT=>((Ty T).agg,kF (.own none) (Ty T).ct)
def Cu (R:Type):aq PS->Type
 |[]=>R
 | .data _ t::r=>t.D->Cu R r
 | .fn _::r=>Cu R r
def un:(s:aq PS)->Cu R s->Be s->R
 |[],f,_=>f
 | .data _ _::r,f,a=>un r (f a.1) a.2
 | .fn _::r,f,a=>un r f a
def dT:aq PD->Nat->Type
 |[],_=>Unit
 | .data _ t::_,0=>t.ct.D
 |_::_,0=>Unit
 |_::r,n+1=>dT r n
def dG:(l:aq PD)->(n:Nat)->E0 l->dT l n
 |[],_,_=>()
 | .data _ _::_,0,x=>x.1
 | .bot::_,0,_=>()
 | .ptr _ _::_,0,_=>()
 | .fn _::_,0,_=>()
 | .data _ _::r,n+1,x=>dG r n x.2
 | .bot::r,n+1,x=>dG r n x
 | .ptr _ _::r,n+1,x=>dG r n x
 | .fn _::r,n+1,x=>dG r n x
def dP:(l:aq PD)->(n:Nat)->dT l n->E0 l->E0 l
 |[],_,_,x=>x
 | .data _ _::_,0,y,x=>(y,x.2)
 | .bot::_,0,_,x=>x
 | .ptr _ _::_,0,_,x=>x
 | .fn _::_,0,_,x=>x
 | .data _ _::r,n+1,y,x=>(x.1,dP r n y x.2)
 | .bot::r,n+1,y,x=>dP r n y x
 | .ptr _ _::r,n+1,y,x=>dP r n y x
 | .fn _::r,n+1,y,x=>dP r n y x
def bT:aq (ar FT)->Nat->Type
 |[],_=>Unit
 |some t::_,0=>t.ct.D
 |none::_,0=>Unit
 |_::r,n+1=>bT r n
def bG:(l:aq (ar FT))->(n:Nat)->D7 l->bT l n
 |[],_,_=>()
 |some _::_,0,x=>x.1
 |none::_,0,_=>()
 |some _::r,n+1,x=>bG r n x.2
 |none::r,n+1,x=>bG r n x
def bP:(l:aq (ar FT))->(n:Nat)->bT l n->D7 l->D7 l
 |[],_,_,x=>x
 |some _::_,0,y,x=>(y,x.2)
 |none::_,0,_,x=>x
 |some _::r,n+1,y,x=>(x.1,bP r n y x.2)
 |none::r,n+1,y,x=>bP r n y x
def pk (d:SD)(i:Nat):Nat:=match nth d.slots i with
 |some (.data _ _)=>0
 |some _=>1
 |none=>2
def PK (d:SD)(i:Nat):Nat->Type
 |0=>dT d.slots i
 |1=>bT d.boxes i
 |_=>ioD d.io
abbrev PT (d:SD)(i:Nat):Type:=PK d i (pk d i)
def gK (d:SD)(i:Nat)(X:d.D):(k:Nat)->PK d i k
 |0=>dG d.slots i X.1
 |1=>bG d.boxes i X.2.1
 |_+2=>X.2.2
def pK (d:SD)(i:Nat)(X:d.D):(k:Nat)->PK d i k->d.D
 |0,y=>(dP d.slots i y X.1,X.2)
 |1,y=>(X.1,bP d.boxes i y X.2.1,X.2.2)
 |_+2,y=>(X.1,X.2.1,y)
def St (d:SD):dy->Type
 |[]=>Unit
 |[p]=>PT d p
 |p::q::r=>PT d p×St d (q::r)
def gS (d:SD)(X:d.D):(l:dy)->St d l
 |[]=>()
 |[p]=>gK d p X (pk d p)
 |p::q::r=>(gK d p X (pk d p),gS d X (q::r))
def pS (d:SD):(l:dy)->St d l->d.D->d.D
 |[],_,X=>X
 |[p],y,X=>pK d p X (pk d p) y
 |p::q::r,y,X=>pS d (q::r) y.2 (pK d p X (pk d p) y.1)
def Cv (d:SD)(R:Type):dy->Type
 |[]=>R
 |p::r=>PT d p->Cv d R r
def aV (d:SD)(X:d.D):(l:dy)->Cv d R l->R
 |[],f=>f
 |p::r,f=>aV d X r (f (gK d p X (pk d p)))
def cV (d:SD)(K:d.D->R):(l:dy)->d.D->Cv d R l
 |[],X=>K X
 |p::r,X=>λy=>cV d K r (pK d p X (pk d p) y)
def Cz (d:SD)(R:Type):dy->Type
 |[]=>Unit->R
 |p::r=>Cv d R (p::r)
def cZ (d:SD)(K:d.D->R):(l:dy)->d.D->Cz d R l
 |[],X=>λ_=>K X
 |p::r,X=>cV d K (p::r) X
def pls (d:SD):dy:=(List.range d.slots.length).filter (λi=>match nth d.slots i with|some (.data _ _)=>true|_=>false)++(List.range d.slots.length).filter (λi=>match nth d.boxes i with|some (some _)=>true|_=>false)++match d.io with| .some _=>[d.slots.length]|_=>[]
def kps (d:SD):dy:=(List.range d.slots.length).filter λi=>(match nth d.slots i with|some .bot=>false|_=>true)||match nth d.boxes i with|some (some _)=>true|_=>false
def TT (d:SD)(s:dy)(R:Type):aq (Ex×dy)->Type
 |[]=>Cv d ((St d s->ar R)->St d s->ar R) ((pls d).filter λi=> !s.contains i)
 |x::r=>Cz d (ar R) x.2->TT d s R r
def tT (d:SD)(s:dy)(X:d.D)(K:zkk R):(l:aq (Ex×dy))->TT d s R l->(St d s->ar R)->St d s->ar R
 |[],f=>aV d X _ f
 |x::r,f=>tT d s X K r (f (cZ d (λY=>K x.1 (d.enc Y)) x.2 X))
structure LS (fn:Func) where (d:SD) (σ:Type) (t:{R:Type}->d.D->(Ex->AS->Option R)->(σ->Option R)->σ->Option R) (i:d.D->σ) (w:d.D->σ->d.D)
def fo (i:Nat):Code->ar Oper
 | .region _ l _=>l.toList.find? λo=>match o.dst with|some j=>Nat.beq j i|none=>false
 | .seq a b=>match fo i a with|none=>fo i b|x=>x
 | .cond _ a b=>match fo i a with|none=>fo i b|x=>x
 | .block _ a=>fo i a
 | .loop a=>fo i a
 |_=>none
def kP (f:Nat->CT->FT)(fn:Func)(i:Nat):PD×ar FT:=match fn.params[i]?,fo i (fn.body.getD .skip)with
 |some T,_=>(.data (Ty T).agg (f (12288*i) (Ty T).ct),none)
 |_,some o=>match o.op with
  | .alloc T=>(.ptr i 0,some (f (12288*i+1) (Ty T).ct))
  | .box T _=>(.ptr i 0,some (f (12288*i+1) (Ty T).ct))
  |_=>(.data (Ty o.type).agg (f (12288*i) (Ty o.type).ct),none)
 |_,_=>(.bot,none)
def dS (fn:Func)(a b:dy)(x:aq (Nat×PD×ar FT))(io:IoD):SD:=
 let l:=(List.range fn.ntmps).map λi=>match x.lookup i with
  |some y=>y
  |none=>bif a.contains i then kP sF fn i else bif b.contains i then kP (λ_=>kF .arg) fn i else(.bot,none)
 ⟨l.map (·.1),l.map (·.2),io⟩
def ld {fn:Func}(a b s:dy)(T:∀R,A R)(l:aq (Ex×dy):=[(.exit 0,s)])(x:aq (Nat×PD×ar FT):=[])(io:IoD:=.none)(h:∀R,A R=TT (dS fn a b x io) s R l:=by intro R;kernel_rfl):LS fn:=⟨dS fn a b x io,St (dS fn a b x io) s,λ{R} X K=>tT (dS fn a b x io) s X K l (cast (h R) (T R)),λX=>gS (dS fn a b x io) X s,λX y=>pS (dS fn a b x io) s y X⟩
structure CS (fn:Func) where (d:SD) (o:List Nat) (t:{R:Type}->d.D->(Ex->AS->Option R)->Option R)
def TC (d:SD)(R:Type):aq (Ex×dy)->Type
 |[]=>Cv d (ar R) (pls d)
 |x::r=>Cz d (ar R) x.2->TC d R r
def tC (d:SD)(X:d.D)(K:zkk R):(l:aq (Ex×dy))->TC d R l->ar R
 |[],f=>aV d X _ f
 |x::r,f=>tC d X K r (f (cZ d (λY=>K x.1 (d.enc Y)) x.2 X))
def lc {fn:Func}(a b o:dy)(T:∀R,A R)(l:aq (Ex×dy))(x:aq (Nat×PD×ar FT):=[])(io:IoD:=.none)(h:∀R,A R=TC (dS fn a b x io) R l:=by intro R;kernel_rfl):CS fn:=⟨dS fn a b x io,o,λ{R} X K=>tC (dS fn a b x io) X (λe s=>K e (s.mask o)) l (cast (h R) (T R))⟩
def cu:FT:=.pair (.sl .afg (.int .u8)) (.pair (.int .i64) (.int .i64))
def lb {fn:Func}(a b s:dy)(T:∀R,A R)(l:aq (Ex×dy):=[(.exit 0,s)])(x:aq (Nat×PD×ar FT):=[])(h:∀R,A R=TT (dS fn a b ((0,.ptr 0 0,some cu)::x) .ptr) s R l:=by intro R;kernel_rfl):LS fn:=ld a b s T l ((0,.ptr 0 0,some cu)::x) .ptr h
def lx {fn:Func}(a b o:dy)(T:∀R,A R)(l:aq (Ex×dy))(x:aq (Nat×PD×ar FT):=[])(h:∀R,A R=TC (dS fn a b ((0,.ptr 0 0,some cu)::x) .ptr) R l:=by intro R;kernel_rfl):CS fn:=lc a b o T l ((0,.ptr 0 0,some cu)::x) .ptr h
section
variable (Γ:xf) (an:An) (fn:Func)
def lac (c:dy):Nat->aq (CS fn)->F0
 |_,[]=>F0.nil
 |j,l::r=>(lac c (j+1) r).add (xl (Cd c fn j)) (mkc l.d l.t)
def lam (B:F0):Nat->aq (LS fn)->F0
 |_,[]=>B
 |k,l::r=>(lam B (k+1) r).add (du (fU fn k)) (mkl l.d l.t l.i)
def WL (c:dy)(n:Nat):Nat->aq (CS fn)->dy
 |_,[]=>[]
 |j,l::r=>bif Nat.beq n (xl (Cd c fn j)) then kps l.d else bif Nat.beq n (xl (Cd c fn j)+1) then l.o else WL c n (j+1) r
def msk (c:dy)(y:aq (CS fn))(n:Nat):Nat->aq (LS fn)->dy
 |_,[]=>WL fn c n 0 y
 |k,l::r=>bif Nat.beq n (du (fU fn k)) then kps l.d else msk c y n (k+1) r
def wm (l:aq (LS fn))(y:aq (CS fn)):An:={an with mask:=λn=>msk fn an.cut y n 0 l}
def LL (Λ:F0):Nat->aq (LS fn)->Prop
 |_,[]=>True
 |k,l::r=>Λ (du (fU fn k))=mkl l.d l.t l.i/\(∀(R:Type)(X:l.d.D)(K:zkk R)(m:Nat)(x:l.σ),zV (an.mask (du (fU fn k))) (den E Γ an Λ (fU fn k)) (m+1) (l.d.enc (l.w X x)) K=l.t X K (λy=>zV (an.mask (du (fU fn k))) (den E Γ an Λ (fU fn k)) m (l.d.enc (l.w X y)) K) x)/\(∀X,l.w X (l.i X)=X)/\LL Λ (k+1) r
def CC (Λ:F0):Nat->aq (CS fn)->Prop
 |_,[]=>True
 |k,l::r=>Λ (xl (Cd an.cut fn k))=mkc l.d l.t/\(∀(R:Type)(X:l.d.D)(K:zkk R),l.t X K=den E Γ an Λ (Cd an.cut fn k) (l.d.enc X) (λe st'=>K e (st'.mask (an.mask (xl (Cd an.cut fn k)+1)))))/\CC Λ (k+1) r
def OK (l:aq (LS fn))(y:aq (CS fn)):Prop:=(fn.name== "runtime.NumGoroutine")=false/\gY (fn.body.getD .skip)=(List.range' 0 l.length).map (fU fn)/\jU an.cut (fn.body.getD .skip)=(List.range' 0 y.length).map (Cd an.cut fn)/\LL Γ (wm an fn l y) fn (lam fn (lac fn an.cut 0 y) 0 l) 0 l/\CC Γ (wm an fn l y) fn (lam fn (lac fn an.cut 0 y) 0 l) 0 y
end
section
variable {Γ:xf} {an:An} {fn:Func}
theorem LL.ok {Λ:F0}:∀{r:aq (LS fn)}{k:Nat},LL Γ an fn Λ k r->∀c∈(List.range' k r.length).map (fU fn),Y6 E Γ an Λ c
 |[],_,_,_,h=>nomatch h
 |l::_,k,⟨h1,h2,h3,h4⟩,c,h=>by rcases bU.1 h with e|e;rw[e];exact lk l.d l.t l.i l.w h1 h2 h3;exact h4.ok c e
theorem CC.ok {Λ:F0}:∀{r:aq (CS fn)}{k:Nat},CC Γ an fn Λ k r->∀c∈(List.range' k r.length).map (Cd an.cut fn),COk E Γ an Λ c
 |[],_,_,_,h=>nomatch h
 |l::_,k,⟨h1,h2,h3⟩,c,h=>by rcases bU.1 h with e|e;rw[e];exact ck l.d l.t h1 h2;exact h3.ok c e
theorem OK.all {l:aq (LS fn)}{y:aq (CS fn)}(h:OK Γ an fn l y):zP E Γ (wm an fn l y) (lam fn (lac fn an.cut 0 y) 0 l) (fn.body.getD .skip):=⟨Fn.hF h.2.1 h.2.2.2.1.ok,Fn.hF h.2.2.1 h.2.2.2.2.ok⟩
end
section
variable (S:SG) {f:Nat} {fn:Func} (an:An) (hf:Tryz.prog.funcs[f]?=some fn)
variable {A:Type}
noncomputable def SG.q (F:A)(l:aq (LS fn):=[])(y:aq (CS fn):=[])(rs:aq (Bool×FT):=rz fn)(hA:A=Cu (ar (hY rs)) (sg fn):=by kernel_rfl)(h:OK S.g an fn l y:=by repeat' (first|exact trivial|apply And.intro|(intros;kernel_rfl)))(hF:∀a,F8 E S.g (wm an fn l y) (lam fn (lac fn an.cut 0 y) 0 l) fn rs (ib (sg fn) a)=un (sg fn) (cast hA F) a:=by intro a;kernel_rfl):SG:=
 S.add (kh.of (F:=un (sg fn) (cast hA F)) (aaC S.s hf h.1 h.all) hF)
noncomputable def SG.b (F:A)(l:aq (LS fn):=[])(y:aq (CS fn):=[])(t:FT:=cu)(rs:aq (Bool×FT):=rz fn)(hA:A=(t.ct.D->Cu (ar (hY rs×t.ct.D)) (sg fn).tail):=by kernel_rfl)(h:OK S.g an fn l y:=by repeat' (first|exact trivial|apply And.intro|(intros;kernel_rfl)))(hF:∀x a,Sn E S.g (wm an fn l y) (lam fn (lac fn an.cut 0 y) 0 l) fn rs t (.val true (iH t x)::ib (sg fn).tail a)=un (sg fn).tail (cast hA F x) a:=by intro x a;kernel_rfl):SG:=
 S.add (kh.aiG (F:=λx a=>un (sg fn).tail (cast hA F x) a) (ah6 S.s hf h.1 h.all) hF)
noncomputable def SG.i (F:A)(l:aq (LS fn):=[])(y:aq (CS fn):=[])(rs:aq (Bool×FT):=rz fn)(t:Nat:=fn.params.getD 0 0)(hA:A=((Ty t).ct.D->Cu (ar (hY rs×(Ty t).ct.D)) (sg fn).tail):=by kernel_rfl)(h:OK S.g an fn l y:=by repeat' (first|exact trivial|apply And.intro|(intros;kernel_rfl)))(hF:∀x a,Xn E S.g (wm an fn l y) (lam fn (lac fn an.cut 0 y) 0 l) fn rs (Ty t).ct (.val (Ty t).agg (cellsOf (Ty t).ct (.own none) x)::ib (sg fn).tail a)=un (sg fn).tail (cast hA F x) a:=by intro x a;kernel_rfl):SG:=
 S.add (kh.apY (F:=λx a=>un (sg fn).tail (cast hA F x) a) (apj S.s hf h.1 h.all) hF)
noncomputable def SG.n (F:A)(t:FT)(l:aq (LS fn):=[])(y:aq (CS fn):=[])(hA:A=Cu (ar t.ct.D) (sg fn):=by kernel_rfl)(h:OK S.g an fn l y:=by repeat' (first|exact trivial|apply And.intro|(intros;kernel_rfl)))(hF:∀a,MW E S.g (wm an fn l y) (lam fn (lac fn an.cut 0 y) 0 l) fn t (ib (sg fn) a)=un (sg fn) (cast hA F) a:=by intro a;kernel_rfl):SG:=
 S.add (kh.aiH (F:=un (sg fn) (cast hA F)) (ah7 S.s hf h.1 h.all) hF)
noncomputable def SG.v (F:A)(MI:aq (Bool×FT))(l:aq (LS fn):=[])(y:aq (CS fn):=[])(rs:aq (Bool×FT):=rz fn)(h2:hY MI=hY rs:=by kernel_rfl)(hA:A=Cu (ar (Bool×hY rs)) (sg fn):=by kernel_rfl)(h:OK S.g an fn l y:=by repeat' (first|exact trivial|apply And.intro|(intros;kernel_rfl)))(hF:∀a,evalAlt E S.g (wm an fn l y) (lam fn (lac fn an.cut 0 y) 0 l) fn rs MI h2 (ib (sg fn) a)=un (sg fn) (cast hA F) a:=by intro a;kernel_rfl):SG:=
 S.add (kh.ofAlt (h2:=h2) (F:=un (sg fn) (cast hA F)) (agA h2 S.s hf h.1 h.all) hF)
end
variable {R:Type}
def G30:=G0.q {} func30 lC
def G31:=G30.q {} func31 nf [ld [1,4,5] [0] [1,5] @Cw [(.exit 0,[1,5]),(.ret,[1,4,5])]]
def aj7:=G31.q {} func210 yd
def aj8:=aj7.q {} func211 zG
def al3:=aj8.q {} func348 uH
def anX:=al3.q {} func481 yV
def al4:=anX.q {} func349 EH [ld [1,4,5] [0] [1,5] @FD [(.exit 0,[1,5]),(.ret,[1,4,5])]]
def aj9:=al4.q {} func212 wj
def alI:=aj9.q {} func307 wi
def ajX:=alI.q {} func172 ye
def anY:=ajX.q {} func482 Au
def al5:=anY.q {} func350 qC
def aka:=al5.q {} func213 zH [ld [1,4,5] [0] [1,5] @BH [(.exit 0,[1,5]),(.ret,[1,4,5])]]
def akb:=aka.q {} func214 EF [ld [1,4,5] [0] [1,5] @FC [(.exit 0,[1,5]),(.ret,[1,4,5])]]
def akc:=akb.q {} func215 BJ
def akd:=akc.q {} func216 ED
def ake:=akd.q {} func217 sX
def al6:=ake.q {} func351 EG
def anZ:=al6.q {} func483 EI
def al7:=anZ.q {} func352 rM
def al8:=al7.q {} func353 yf
def akf:=al8.q {} func218 tP
def al9:=akf.q {} func354 sY
def akg:=al9.q {} func219 BI [ld [1,4,5] [0] [1,5] @Ct [(.exit 0,[1,5]),(.ret,[1,4,5])]]
def G99:=akg.q {} func99 yU
def G26:=G99.q {} func26 EE [ld [1,4,5] [0] [1,5] @FB [(.exit 0,[1,5]),(.ret,[1,4,5])]]
def G27:=G26.q {} func27 ng
def aiN:=G27.q {} func100 qB
def G28:=aiN.q {} func28 zF [ld [1,4,5] [0] [1,5] @BG [(.exit 0,[1,5]),(.ret,[1,4,5])]]
def G29:=G28.q {} func29 As
def G6:=G29.q {} func6 Cs
def ajY:=G6.q {sb:=mg [(2,2)]} func174 wT
def akh:=ajY.q {} func220 fO
def akj:=akh.q {sb:=mg [(2,2)]} func222 od
def aki:=akj.q {mv:=[27,40],mb:=mg [(27,3)],sb:=mg [(3,3),(39,3)]} func221 wR [ld [2,3,4] [1] [4,3] @ud]
def ama:=aki.q {} func355 AI
def akk:=ama.q {sb:=mg [(2,2)]} func223 AK
def aiO:=akk.q {mv:=[34,82],mb:=mg [(34,3)],sb:=mg [(43,3)]} func101 sn [ld [2,4] [1] [4,3] @ue [(.exit 0,[4,3])] [(3,.ptr 3 0,some Y1)]]
def aiP:=aiO.q {mv:=[7]} func102 AN
def G32:=aiP.q {mv:=[35,53,63],mb:=mg [(35,3),(53,3)],sb:=mg [(3,3),(44,3),(62,3)]} func32 wV [ld [2,3,4] [1] [4,3] @ug,ld [2,3,5] [1] [5,3] @uh [(.exit 2,[5,3])]]
def G73:=G32.q {merge:=mg [(1,6)]} func73 aE
def akp:=G73.q {merge:=mg [(4,35),(6,2)]} func228 me [ld [2,3] [1] [3] @rP [(.exit 0,[3]),(.ret,[2,3])]]
def aiX:=akp.q {merge:=mg [(1,2)]} func110 wJ
def akx:=aiX.q {} func236 iu [ld [1,4,5] [0] [5] @wU [(.exit 0,[5]),(.ret,[4,5])]]
def aiY:=akx.q {merge:=mg [(7,37)],mv:=[55]} func111 tw [ld [5,6] [1] [5,6] @nC,ld [5,6,7] [1] [7] @so [(.exit 2,[7])]]
def aiZ:=aiY.q {} func112 lO [ld [2,3] [0] [3] @tV [(.exit 0,[3]),(.ret,[2,3])],ld [2,3,4] [0] [4] @tW [(.exit 2,[4]),(.ret,[2,4])]]
def G35:=aiZ.q {mv:=[41,63]} func35 rV [ld [2,3,4,5] [0] [4,5] @oD [(.exit 0,[4,5]),(.ret,[2,3,4,5])]]
def akl:=G35.q {merge:=mg [(1,2)]} func224 tk
def aiQ:=akl.q {merge:=mg [(7,51),(12,74)]} func103 ny [ld [4,5] [0,1] [5] @mH [(.exit 0,[5]),(.ret,[4,5])],ld [4,5,6,7] [0,1] [7] @lL [(.exit 2,[7]),(.ret,[4,7])]]
def ajZ:=aiQ.q {merge:=mg [(1,2)]} func176 AD
def ans:=ajZ.q {merge:=mg [(1,6)]} func435 nA
def amo:=ans.q {} func369 eO
def alL:=amo.q {} func312 gN
def amn:=alL.q {} func368 BX [ld [0,3,4] [] [3,4] @tn,ld [0,3,4,5] [] [3,5] @oV [(.exit 2,[3,5])]]
def ams:=amn.q {} func373 dW
def alM:=ams.q {merge:=mg [(1,15)]} func313 wK
def aj0:=alM.q {merge:=mg [(2,17),(5,37)]} func177 lN
def aiR:=aj0.q {merge:=mg [(5,23)]} func104 yj
def aiS:=aiR.q {merge:=mg [(1,2)]} func105 AA
def akm:=aiS.q {} func225 oW [ld [2,3] [1] [3] @rT [(.exit 0,[3]),(.ret,[2,3])]]
def akn:=akm.q {merge:=mg [(7,34),(12,57)]} func226 oC [ld [2,3] [0] [3] @nW [(.exit 0,[3]),(.ret,[2,3])],ld [2,3,4,5] [0] [5] @mI [(.exit 2,[5]),(.ret,[2,5])]]
def aks:=akn.q {merge:=mg [(1,20),(7,50)]} func231 qM [ld [2,3,4] [1] [3,4] @wL [(.exit 0,[3,4]),(.ret,[2,3,4])]]
def akw:=aks.q {merge:=mg [(3,21)],mv:=[10,24]} func235 iM
def an0:=akw.q {merge:=mg [(1,2)]} func484 sm
def amh:=an0.q {} func362 kg
def amb:=amh.q {merge:=mg [(1,2)]} func356 lP
def ako:=amb.q {merge:=mg [(1,24),(9,50),(14,2)],mv:=[55]} func227 DX [ld [2,3,4,5] [1] [3,4,5] @wP [(.exit 0,[3,4,5]),(.ret,[2,3,4,5])]]
def an1:=ako.q {merge:=mg [(1,33),(3,54),(5,2)]} func485 lQ
def amc:=an1.q {} func357 wM [ld [2,3] [0] [3] @zN [(.exit 0,[3]),(.ret,[2,3])]]
def aoS:=amc.q {} func545 yq [ld [3,4,5] [] [3,5] @nz]
def an2:=aoS.q {merge:=mg [(7,39)]} func486 AJ [ld [3,4,5] [2] [5] @ua [(.exit 0,[5]),(.ret,[4,5])]]
def amd:=an2.q {merge:=mg [(7,30),(10,42)]} func358 wN [ld [2,3] [1] [3] @tY [(.exit 0,[3]),(.ret,[2,3])]]
def an3:=amd.q {merge:=mg [(1,2)]} func487 AH
def ame:=an3.q {merge:=mg [(1,21)]} func359 tt [ld [1,4,5] [2] [5] @sc [(.exit 0,[5]),(.ret,[4,5])]]
def akq:=ame.q {merge:=mg [(1,23)]} func229 oF [ld [1,4,5] [2] [5] @oc [(.exit 0,[5]),(.ret,[4,5])],ld [1,4,6] [2] [6] @uu [(.exit 2,[6]),(.ret,[4,6])]]
def amq:=akq.q {merge:=mg [(1,18),(4,2),(5,2)]} func371 qO
def akC:=amq.q {merge:=mg [(1,55),(3,3),(4,2)]} func241 gq
def amf:=akC.q {merge:=mg [(1,2)]} func360 rX
def akr:=amf.q {merge:=mg [(1,42),(5,2)]} func230 Bc
def amg:=akr.q {merge:=mg [(1,2)]} func361 qP
def akt:=amg.q {merge:=mg [(1,24),(3,2)]} func232 oY
def aiT:=akt.q {merge:=mg [(2,64),(7,94)]} func106 uO [ld [2,3,4] [1] [4] @wH [(.exit 0,[4]),(.ret,[2,4])],ld [2,5,6] [] [6] @tU [(.exit 2,[6]),(.ret,[2,6])]]
def aku:=aiT.q {} func233 KC [ld [4,5] [0,1] [5] @FR [(.exit 0,[5]),(.ret,[4,5])]]
def aiU:=aku.q {merge:=mg [(1,4)]} func107 uv
def G33:=aiU.q {merge:=mg [(3,50),(8,99)]} func33 zi [ld [2,5,6] [1] [6] @wD [(.exit 0,[6]),(.ret,[2,6])]]
def amp:=G33.q {merge:=mg [(1,2)]} func370 xw
def akz:=amp.q {sb:=mg [(4,4)]} func238 yt
def alJ:=akz.q {} func310 ei
def amr:=alJ.q {} func372 bN
def aoT:=amr.q {merge:=mg [(1,12)]} func546 nV
def aoa:=aoT.q {} func494 yy [ld [0,3,4] [] [3,4] @si]
def amu:=aoa.q {} func375 kf
def aob:=amu.q {merge:=mg [(1,2)]} func495 HB
def amv:=aob.q {} func376 yr
def akE:=amv.q {} func243 wB
def akA:=akE.q {merge:=mg [(2,22),(6,56)],sb:=mg [(5,5)]} func239 AF
def amt:=akA.q {merge:=mg [(1,27)]} func374 jt
def akD:=amt.q {merge:=mg [(14,82)]} func242 jr
def akB:=akD.q {merge:=mg [(3,20),(9,44),(12,68)]} func240 pP
def ai1:=akB.q {merge:=mg [(2,20)]} func114 jg
def aoB:=ai1.q {merge:=mg [(4,42)]} func524 AL [ld [1,2,3,8,9] [0] [9] @ub [(.exit 0,[9]),(.ret,[8,9])]]
def aoC:=aoB.q {merge:=mg [(2,6)]} func525 kA
def anu:=aoC.q {merge:=mg [(3,34),(10,57)],mv:=[35,36,64,71,81,82]} func438 tu [ld [2,3,4,5,12,13,14,15,16] [0,7] [3,4,15,16] @ko [(.exit 0,[3,4,15,16]),(.ret,[3,4,12,13,14,15,16])]]
def anv:=anu.q {} func439 oE [ld [1,2,8] [3] [1,2,8] @nZ]
def alN:=anv.q {} func316 wE [ld [15,16] [6] [15,16] @tR [(.exit 0,[15,16])] [(12,.data false (.sl .loc (.int .i64)),Z),(13,.data false (.sl .loc (.int .i64)),Z)]]
def aoD:=alN.q {merge:=mg [(1,11)]} func526 rZ
def anJ:=aoD.q {merge:=mg [(1,20)],sb:=mg [(9,9)]} func458 tr
def aoE:=anJ.q {merge:=mg [(1,2)]} func527 qK
def anx:=aoE.q {} func444 tS
def an4:=anx.q {sb:=mg [(4,4)]} func488 oB
def ami:=an4.q {merge:=mg [(2,25),(7,50),(12,69)],mv:=[26,57,70],sb:=mg [(9,9)]} func363 wO [ld [2,7,8,9,10,11] [0,5] [11,7] @lT [(.exit 0,[11,7]),(.ret,[8,10,11,7,9])]]
def an6:=ami.q {merge:=mg [(4,24)]} func490 yu [ld [2,3] [0] [3] @rU [(.exit 0,[3]),(.ret,[2,3])]]
def anB:=an6.q {merge:=mg [(2,33)],mv:=[63,67],sb:=mg [(9,9)]} func449 mG [ld [2,6,7,8] [0] [7,8] @jZ [(.exit 0,[7,8]),(.ret,[6,7,8])]]
def an5:=anB.q {} func489 AM [ld [4,5] [0,1] [5] @uc [(.exit 0,[5]),(.ret,[4,5])]]
def amj:=an5.q {merge:=mg [(6,46)],mv:=[15,48]} func364 nX [ld [6,7] [0] [6,7] @kH]
def amk:=amj.q {} func365 pL [ld [2,8,9,10,11] [0,3,5] [10,11] @lM [(.exit 0,[10,11]),(.ret,[8,9,10,11])]]
def amw:=amk.q {} func377 ir
def akF:=amw.q {} func244 yk
def alK:=akF.q {} func311 AG [ld [0,1,5,6] [] [5,6] @tZ]
def akG:=alK.q {} func245 AE
def ai3:=akG.q {} func116 fX
def an7:=ai3.q {} func491 wS
def anA:=an7.q {} func446 oX
def aml:=anA.q {merge:=mg [(2,36),(7,61),(12,98)]} func366 ym
def ai2:=aml.q {merge:=mg [(1,2)]} func115 iU
def aky:=ai2.q {} func237 wQ
def akH:=aky.q {} func246 oA
def an8:=akH.q {mv:=[23,27]} func492 yp [ld [3,4] [0] [3,4] @nw]
def an9:=an8.q {merge:=mg [(2,17),(5,31)],mv:=[18,32,87,91]} func493 E6 [ld [1,2,5,6,7] [] [5,7] @yx]
def amm:=an9.q {} func367 tX
def akv:=amm.q {merge:=mg [(2,31),(6,55),(11,85)],mv:=[33,57,87],sb:=mg [(8,8)]} func234 pQ
abbrev agZ:SD:=⟨gZ (zsa eL)::B::DI::B::B::.ptr 5 0::B::.ptr 7 0::.ptr 8 0::gZ (Qt 110592 .str)::DI::DI::gZ (Qt 147456 .str)::DI::DI::bs 29 [],zs 5 ((zsm (zsa .str))::Z::(some Y0)::(some Y0)::zs 35 []),.none⟩
abbrev aap:SD:=⟨gZ (zsa eL)::B::DI::B::B::.ptr 5 0::B::.ptr 7 0::.ptr 8 0::gZ (Qt 110592 .str)::DI::DI::gZ (.sl .loc .str)::DI::DI::bs 29 [],zs 5 ((zsm (zsa .str))::Z::(some Y0)::(some Y0)::zs 35 []),.none⟩
def aiV:=akv.q1 {mask:=mk [(4,[0,2,5,7,8,9,10,11,12,13,14])],mv:=[31,35]} func108 [pd (.sl eL),pf (.sl .str),pI,pf ui] [(true,Y0),(false,(.sl (.own none) .str)),rI,rI] (c4 sj) agZ (λX K=>mJ (λy0 y1 y2 y3 y4 y5 y6 y7=>kr K aap ((X.1.1,(X.1.2.1,(y0,(y1,(y2,(y3,(y4,(y5,())))))))),(X.2.1.1,(y6,(y7,()))),())) X.1.1 X.1.2.1 (q2 X) (q3 X) (q4 X) X.2.1.1 X.2.1.2.2.1) (λX=>(q5 X,q6 X,q7 X,X.2.1.2.1)) (λX x=>((z5 (w x.1 (w x.2.1 (u x.2.2.1))) X.1),(z1 (u x.2.2.2) X.2.1),X.2.2))
def aiW:=aiV.q {merge:=mg [(3,22)],mv:=[23,24,30,39,49,53,55,57,58],sb:=mg [(51,6)]} func109 lJ [ld [1,4,6,7,8] [2] [7,8,6] @js]
def G34:=aiW.q {mv:=[15,33,37,51,54,58]} func34 pN
def ai0:=G34.q {merge:=mg [(1,16)]} func113 yl
def G36:=ai0.q {} func36 qN
def ai4:=G36.q {merge:=mg [(1,15)]} func117 sa
def ai5:=ai4.q {merge:=mg [(1,23),(6,61)]} func118 nu
def ai6:=ai5.q {merge:=mg [(14,62)],mv:=[19,63,67]} func119 lR [ld [1,5,7,8,9,10] [0] [9,10] @lS,ld [1,5,7,8,9,11] [0] [7,11] @kI [(.exit 2,[7,11])]]
def G37:=ai6.q {merge:=mg [(2,37),(6,76)],mv:=[38,87,104]} func37 yw
def alP:=G37.q {merge:=mg [(1,4)]} func323 Az
def anw:=alP.q {} func440 zj
def aoZ:=anw.q {merge:=mg [(1,4)]} func552 zO
def aoG:=aoZ.q {merge:=mg [(1,4)]} func529 rY
def anC:=aoG.q {merge:=mg [(3,14),(5,39)]} func451 yo [ld [3,5,6] [0] [5,6] @nv]
def anD:=anC.q {} func452 yn
def ao8:=anD.q {} func561 zk
def ao9:=ao8.q {merge:=mg [(1,14)]} func562 wI [ld [0,1,5,6] [] [5,6] @pO]
def ao2:=ao9.q {merge:=mg [(1,14)]} func555 wF [ld [0,1,5,6] [] [5,6] @pM]
def ao3:=ao2.q {} func556 wG
def aoK:=ao3.q {} func533 tq
def aoH:=aoK.q {merge:=mg [(2,17)]} func530 AB
def anE:=aoH.q {merge:=mg [(2,18)]} func453 se
def alQ:=anE.q {merge:=mg [(1,17)]} func324 sf
def aoF:=alQ.q {mv:=[19,52]} func528 sk [ld [1,2,6,8] [] [1,2,8] @mK]
def anz:=aoF.q {mv:=[32,39,52,60],sb:=mg [(15,15)]} func445 tp [ld [4,10,15,16] [] [4,16,15] @nt [(.exit 0,[4,16,15])] [(12,.data false (.sl .loc (.int .i64)),Z),(13,.data false (.sl .loc (.int .i64)),Z)]]
def ant:=anz.q {} func437 yz
def ao0:=ant.q {merge:=mg [(1,2)]} func553 lK
def ao1:=ao0.q {merge:=mg [(1,12)]} func554 kG
def aoJ:=ao1.q {merge:=mg [(1,22)],mv:=[26,44,59],mb:=mg [(59,13)],sb:=mg [(10,10),(11,11),(13,13)]} func532 nY
def anK:=aoJ.q {merge:=mg [(3,46)],mv:=[90],sb:=mg [(12,12),(13,13)]} func459 yA
def alT:=anK.q {merge:=mg [(1,30),(5,58)],mv:=[44,75],mb:=mg [(75,15)],sb:=mg [(10,10),(11,11)]} func327 qL
def aoI:=alT.q {} func531 yv
def anF:=aoI.q {merge:=mg [(1,41),(4,84),(6,4)]} func454 wC
def anG:=anF.q {} func455 HC
def anH:=anG.q {} func456 GQ
def alR:=anH.q {merge:=mg [(1,29),(3,43)],mv:=[52,67,76],mb:=mg [(76,16)],sb:=mg [(14,14),(15,15)]} func325 oa
def alO:=alR.q {} func321 yB
def anI:=alO.q {} func457 yi
def alS:=anI.b {} func326 nB [ld [1,6,7] [] [7,0] @pR [(.exit 0,[7,0])] [(0,.ptr 0 0,some (sF 1 fF))] .ptr] (t:=(kF (.own none) fF))
def aj1:=alS.q {mv:=[16,36,48,64,71,89,91,107],sb:=mg [(9,9),(10,10)]} func185 rQ
def akI:=aj1.q {merge:=mg [(1,34)]} func247 rR
def ai7:=akI.b {mv:=[13,56]} func120 wW [ld [5,6,8,9,10] [] [10,0] @lU [(.exit 0,[10,0])] [(0,.ptr 0 0,some (sF 1 iB))] .ptr] (t:=(kF (.own none) iB))
def G38:=ai7.q {merge:=mg [(2,15)],mv:=[19]} func38 tQ
def G7:=G38.q {merge:=mg [(2,31)],mv:=[32,80,90,98]} func7 pJ [ld [1,4,5,7,10] [] [10,5] @jf [(.exit 0,[10,5])] [(8,.data false (.sl .loc Y7),Z)]]
def G44:=G7.q {mv:=[21]} func44 lD [ld [3,4] [0] [3,4] @Gz]
def G45:=G44.q {mv:=[21]} func45 nk [ld [3,4] [0] [3,4] @CD]
def akJ:=G45.q {mv:=[8]} func248 sZ
def amx:=akJ.q {} func378 wo
def akK:=amx.q {mv:=[22]} func249 zK [ld [3,4] [0] [3,4] @BL]
def amy:=akK.q {} func379 Cy
def amz:=amy.q {mv:=[17]} func380 qD
def aoc:=amz.q {mv:=[14]} func496 uJ
def amA:=aoc.q {mv:=[22]} func381 EO [ld [3,4] [0] [3,4] @FJ]
def akL:=amA.q {mv:=[19]} func250 qE
def aod:=akL.q {} func497 jW
def alU:=aod.q {} func330 BN
def aj2:=alU.q {} func188 ta
def aoe:=aj2.q {} func498 wq
def amB:=aoe.q {} func382 nj
def akM:=amB.q {mv:=[22]} func251 zL [ld [3,4] [0] [3,4] @BM]
def akN:=akM.q {mv:=[22]} func252 EM [ld [3,4] [0] [3,4] @FG]
def amC:=akN.q {} func383 yg
def akO:=amC.q {mv:=[22]} func253 BP [ld [3,4] [0] [3,4] @CE]
def akP:=akO.q {mv:=[21]} func254 EJ [ld [3,4] [0] [3,4] @FE]
def akQ:=akP.q {mv:=[14]} func255 oQ
def aof:=akQ.q {} func499 CA
def amD:=aof.q {mv:=[22]} func384 EN [ld [3,4] [0] [3,4] @FI]
def aoh:=amD.q {} func501 Cx
def aoU:=aoh.q {} func547 uK
def aog:=aoU.q {mv:=[22]} func500 EP [ld [3,4] [0] [3,4] @FL]
def amE:=aog.q {mv:=[8]} func385 nh
def amF:=amE.q {mv:=[11]} func386 tc
def akR:=amF.q {mv:=[16]} func256 oy
def amG:=akR.q {} func387 oR
def akS:=amG.q {mv:=[22]} func257 BO [ld [3,4] [0] [3,4] @CB]
def akT:=akS.q {} func258 zI
def ai8:=akT.q {mv:=[63]} func121 uI
def G39:=ai8.q {mv:=[22]} func39 EL [ld [3,4] [0] [3,4] @FF]
def akU:=G39.q {} func259 CX
def ai9:=akU.q {} func122 gm
def G40:=ai9.q {mv:=[22]} func40 nm [ld [3,4] [0] [3,4] @qF]
def aja:=G40.q {mv:=[17]} func123 ni
def G41:=aja.q {mv:=[22]} func41 zJ [ld [3,4] [0] [3,4] @BK]
def G42:=G41.q {mv:=[8]} func42 wk
def G43:=G42.q {} func43 EK
def G8:=G43.q {mv:=[32]} func8 nJ
def G51:=G8.q {} func51 gk
def ajb:=G51.q {} func124 kx
def aje:=ajb.q {} func127 ia
def aj3:=aje.q {mv:=[7]} func191 ow
def akV:=aj3.q {mv:=[7]} func260 rA
def ajc:=akV.q {mv:=[13,19]} func125 vu [ld [3,8,9] [7] [3,9] @pB]
def ajd:=ajc.q {} func126 Bv
def akW:=ajd.q {} func261 eP
def akX:=akW.q {} func262 vw
def akZ:=akX.q {mv:=[7]} func264 lX
def alg:=akZ.q {mv:=[13,25]} func281 sQ [ld [3,8,9] [7] [3,9] @rC]
def akY:=alg.q {sb:=mg [(2,2)]} func263 yK
def amH:=akY.q {} func388 vx
def amI:=amH.q {sb:=mg [(2,2)]} func389 tL
def ak0:=amI.q {sb:=mg [(2,2)]} func265 pC
def ak1:=ak0.q {} func266 rD
def ajf:=ak1.q {mv:=[34,75],mb:=mg [(34,3)],sb:=mg [(39,3)]} func128 oO [ld [2,28,29] [1,27] [29,3] @ry [(.exit 0,[29,3])] [(3,.ptr 3 0,some Y1)]]
def G46:=ajf.q {mv:=[32,39],mb:=mg [(32,3)],sb:=mg [(3,3),(37,3)]} func46 sP [ld [2,3,26,27] [25] [27,3] @ru]
def G48:=G46.q {merge:=mg [(1,6)]} func48 az
def ak5:=G48.q {merge:=mg [(4,29),(7,2)]} func270 lW [ld [2,7,8] [1,6] [8] @qX [(.exit 0,[8]),(.ret,[2,8])]]
def ajm:=ak5.q {merge:=mg [(1,2)]} func135 vm
def ajn:=ajm.q {} func136 gB [ld [1,4,8,9] [7] [9] @vy [(.exit 0,[9]),(.ret,[4,9])]]
def ajo:=ajn.q {merge:=mg [(6,22)],mv:=[23,27,34,38]} func137 kU [ld [1,5,6,11,12] [10] [5,6,12] @kv]
def alc:=ajo.q {} func277 CV (rs:=[(true,(kF .arg zZ))])
def ald:=alc.q {merge:=mg [(4,21)]} func278 sR [ld [1,4,8,9] [7] [9] @mY [(.exit 0,[9]),(.ret,[4,9])]]
def ajp:=ald.q {merge:=mg [(6,27),(8,37)]} func138 lr [ld [2,10,11] [0,9] [11] @tI [(.exit 0,[11]),(.ret,[2,11])]]
def G49:=ajp.q {mv:=[53,57,63,69]} func49 re [ld [2,3,4,5,19,20] [18] [4,5,20] @ot [(.exit 0,[4,5,20]),(.ret,[2,3,4,5,20])],ld [2,3,4,5,8,19,20,32,33,34] [7,18] [5,8,34] @kl [(.exit 2,[5,8,34])]]
def ak2:=G49.q {} func267 sM [ld [2,7,8] [1,6] [8] @Dy [(.exit 0,[8]),(.ret,[2,8])]]
def amJ:=ak2.q {merge:=mg [(4,25)]} func390 mX [ld [1,2,6,10,11] [9] [11] @sv [(.exit 0,[11]),(.ret,[6,11])]]
def ak3:=amJ.q {merge:=mg [(4,37)]} func268 oq [ld [2,6,7] [0,5] [7] @nN [(.exit 0,[7]),(.ret,[2,7])]]
def ak7:=ak3.q {merge:=mg [(1,21),(7,43)]} func272 qi [ld [2,3,27,28] [1,26] [3,28] @vo [(.exit 0,[3,28]),(.ret,[2,3,28])]]
def alf:=ak7.q {merge:=mg [(3,21)],mv:=[10,24]} func280 iI
def ang:=alf.q {} func422 kc
def anP:=ang.q {merge:=mg [(1,2)]} func467 sS
def amP:=anP.q {} func396 kb
def alY:=amP.q {merge:=mg [(1,2)]} func338 lu
def ak4:=alY.q {merge:=mg [(1,24),(8,50)],mv:=[55]} func269 DA [ld [2,3,4,31,32] [1,30] [3,4,32] @vq [(.exit 0,[3,4,32]),(.ret,[2,3,4,32])]]
def amY:=ak4.q {merge:=mg [(1,18),(5,2),(7,2)]} func405 ql
def amZ:=amY.q {merge:=mg [(1,2)]} func406 qn
def alm:=amZ.q {merge:=mg [(1,2)]} func286 gj
def amK:=alm.q {merge:=mg [(1,2)]} func391 rf
def ak6:=amK.q {merge:=mg [(1,42),(5,2)]} func271 A9
def amL:=ak6.q {merge:=mg [(1,2)]} func392 DC
def ak8:=amL.q {merge:=mg [(1,24),(3,2)]} func273 xW
def aoi:=ak8.q {merge:=mg [(1,33),(3,54),(5,2)]} func502 Cm
def amM:=aoi.q {} func393 Ak [ld [2,6,7] [0,5] [7] @Fu [(.exit 0,[7]),(.ret,[2,7])]]
def aoj:=amM.q {merge:=mg [(4,23)]} func503 Co [ld [3,4,9,10] [8] [10] @vC [(.exit 0,[10]),(.ret,[4,10])]]
def aoV:=aoj.q {} func548 xO [ld [3,16,17,18] [] [3,18] @mU]
def aok:=aoV.q {mv:=[10,18]} func504 IX [ld [1,3,4] [] [3,4] @xY]
def amN:=aok.q {merge:=mg [(6,28),(9,40)]} func394 rn [ld [2,13,14] [1,12] [14] @tK [(.exit 0,[14]),(.ret,[2,14])],ld [2,3,13,14,49,50,51] [1,12] [51] @mV [(.exit 2,[51]),(.ret,[2,51])]]
def aol:=amN.q {merge:=mg [(1,2)]} func505 Gx
def amO:=aol.q {merge:=mg [(1,22)]} func395 xU [ld [1,4,25,26] [24] [26] @Dz [(.exit 0,[26]),(.ret,[4,26])]]
def ak9:=amO.q {merge:=mg [(1,25),(6,41),(12,59)]} func274 ov [ld [1,4,28,29] [2,27] [29] @nR [(.exit 0,[29]),(.ret,[4,29])],ld [1,4,46,47] [45] [47] @mA [(.exit 2,[47]),(.ret,[4,47])]]
def ajg:=ak9.q {merge:=mg [(2,58),(7,89)]} func129 uE [ld [2,3,61,62] [1] [62] @vk [(.exit 0,[62]),(.ret,[2,62])],ld [2,3,103,104,105] [1] [105] @tH [(.exit 2,[105]),(.ret,[2,105])]]
def ala:=ajg.q {} func275 Pu.rO [ld [4,12,13] [0,1] [13] @Pu.mF [(.exit 0,[13]),(.ret,[4,13])]]
def ajh:=ala.q {merge:=mg [(1,4)]} func130 tM
def alb:=ajh.q {merge:=mg [(1,2)]} func276 xH
def aji:=alb.q {merge:=mg [(6,49),(11,69)]} func131 mT [ld [4,13,14] [0,1,12] [14] @my [(.exit 0,[14]),(.ret,[4,14])],ld [4,6,13,14,53,54] [0,1,12,52] [54] @mz [(.exit 2,[54]),(.ret,[4,54])]]
def ajj:=aji.q {merge:=mg [(4,22)]} func132 vz [ld [2,6,7] [5] [7] @vA [(.exit 0,[7]),(.ret,[2,7])]]
def aj4:=ajj.q {merge:=mg [(1,2)]} func193 Er
def alV:=aj4.q {merge:=mg [(1,13)]} func333 ie
def amV:=alV.q {} func402 Bt [ld [0,3,4] [] [3,4] @sJ,ld [0,3,4,5] [] [3,5] @oM [(.exit 2,[3,5])]]
def anL:=amV.q {} func461 eZ
def alW:=anL.q {merge:=mg [(1,15)]} func334 vn
def aj5:=alW.q {merge:=mg [(2,19),(5,38)]} func194 lq
def ajk:=aj5.q {merge:=mg [(4,18)]} func133 xG
def ajl:=ajk.q {merge:=mg [(1,2)]} func134 Ep
def G47:=ajl.q {merge:=mg [(2,32),(7,55),(10,2)]} func47 yH [ld [2,35,36] [1,34] [36] @vg [(.exit 0,[36]),(.ret,[2,36])] [(3,.data false (.sl .loc Y7),Z)]]
def amW:=G47.q {merge:=mg [(1,13)]} func403 fJ
def amX:=amW.q {merge:=mg [(1,2)]} func404 Bu
def ali:=amX.q {merge:=mg [(4,33)],sb:=mg [(4,4)]} func283 sN
def aoW:=ali.q {merge:=mg [(1,12)]} func549 Ag
def aoq:=aoW.q {} func511 xV [ld [0,3,4] [] [3,4] @rm]
def am2:=aoq.q {} func409 iR
def am3:=am2.q {merge:=mg [(1,17)]} func410 ft
def am5:=am3.q {} func412 cd
def aor:=am5.q {merge:=mg [(1,2)]} func512 Lb
def am6:=aor.q {} func413 xP
def alo:=am6.q {} func288 ve
def alj:=alo.q {merge:=mg [(2,22),(6,56)],sb:=mg [(5,5)]} func284 Aj
def am0:=alj.q {} func407 rr
def am1:=am0.q {merge:=mg [(1,27)]} func408 py
def am4:=am1.q {} func411 eU
def aln:=am4.q {merge:=mg [(8,39)]} func287 jm
def alk:=aln.q {merge:=mg [(3,20),(9,44),(12,68)]} func285 px
def ajt:=alk.q {merge:=mg [(2,20)]} func142 jc
def aoO:=ajt.q {merge:=mg [(4,29)]} func541 Et
def aoP:=aoO.q {merge:=mg [(2,6)]} func542 uF
def anN:=aoP.q {merge:=mg [(1,29),(11,55),(16,73)],mv:=[56,74]} func465 yN [ld [2,3,4,5,12,13,14] [0,7] [3,4,14] @qm [(.exit 0,[3,4,14]),(.ret,[3,4,12,13,14])]]
def aoN:=anN.q {mv:=[41]} func539 ou [ld [1,2,8] [3] [1,8] @ku]
def anM:=aoN.q {} func463 vh [ld [14,31,32] [6] [14,32] @tF [(.exit 0,[14,32])] [(30,.data false (.sl .loc uU),Z)]]
def anS:=anM.q {merge:=mg [(1,11)]} func471 ri
def anU:=anS.q {merge:=mg [(1,20)],sb:=mg [(9,9)]} func478 sO
def anQ:=anU.q {merge:=mg [(1,2)]} func468 yI
def alZ:=anQ.q {} func339 tG
def aom:=alZ.q {sb:=mg [(4,4)]} func506 oo
def amQ:=aom.q {merge:=mg [(1,24),(15,67)],mv:=[55,68],sb:=mg [(9,9)]} func397 vp [ld [2,7,8,9,10,11,12] [0,5] [12,7] @ly [(.exit 0,[12,7]),(.ret,[8,10,12,7,9])]]
def acr:=amQ.q {merge:=mg [(4,19)]} func507 xQ [ld [2,6,7] [0,5] [7] @rb [(.exit 0,[7]),(.ret,[2,7])]]
def api:zY:=K0 [pd (.sl uU),pI,pI] [(false,(.sl (.own none) yE))] [(false,(.sl .nil yE))] rfl λa=>mx a.1 a.2.1 a.2.2.1
def ahF:An:={mask:=mk [(5,[0,2,7,30,31,32]),(13,[6,7,54,55,56])],merge:=mg [(1,25)],nils:=[6],mv:=[49,64]}
abbrev Sj:SD:=⟨gZ (zsa uU)::B::DI::bs 4 (gZ (Qt 86016 yE)::bs 22 (gZ (zsa uU)::DI::DI::bs 32 [])),zs 65 [],.none⟩
def ae8 (X:SD.D Sj)(K:zkk R):=jV (λy0 y1=>ke 0 K Sj ((z2 (w y0 (z2 (u y1))) X.1),X.2)) X.1.1 X.1.2.1 (q3 X) (q4 X)
abbrev MU:SD:=⟨bs 7 (gZ (Qt 86016 yE)::bs 46 (gZ (.sl .loc yE)::DI::DI::bs 8 [])),zs 65 [],.none⟩
abbrev Xb:SD:=⟨bs 6 (gZ (.sl .nil yE)::gZ (Qt 86016 yE)::bs 46 (gZ (.sl .loc yE)::DI::DI::bs 8 [])),zs 65 [],.none⟩
def aaa (X:SD.D MU)(K:zkk R):=jo (λy0=>ke 2 K MU ((z3 (u y0) X.1),X.2)) (λy0 y1=>kr K Xb ((y0,(X.1.1,(X.1.2.1,(X.1.2.2.1,(y1,()))))),(),())) X.1.1 X.1.2.1 (q2 X)
def agR:F0:=(F0.nil.add 5 (mkl Sj ae8 (λX=>(q2 X,q5 X)))).add 13 (mkl MU aaa q3)
theorem ahB:Y6 E acr.g ahF agR (fU f476 0):=lk Sj ae8 (λX=>(q2 X,q5 X)) λX x=>((z2 (w x.1 (z2 (u x.2))) X.1),X.2)
theorem afT:Y6 E acr.g ahF agR (fU f476 1):=lk MU aaa q3 λX x=>((z3 (u x) X.1),X.2)
theorem apX:kh Tryz.prog 476 api:=kh.ofAlt (agA (Γ:=acr.g) (an:=ahF) (Λ:=agR) (by rfl) (acr.s) func476 (by kernel_rfl) (ao (cF ahB (cF afT nF)))) (λa=>by kernel_rfl)
def agQ:=acr.add apX
def ahE:An:={mask:=mk [(5,[0,6,18,19,20]),(14,[0,2,3,4,5,6,9,10,11,51,52])],mv:=[24,65]}
abbrev Si:SD:=⟨gZ (zsa yE)::bs 5 (gZ (Qt 73728 uU)::bs 11 (gZ (zsa yE)::DI::DI::bs 47 [])),zs 68 [],.none⟩
def ae7 (X:SD.D Si)(K:zkk R):=kD (λy0 y1=>ke 0 K Si ((z1 (w y0 (z2 (u y1))) X.1),X.2)) X.1.1 (q2 X) (q3 X)
abbrev MT:SD:=⟨gZ (zsa yE)::bs 5 (gZ (Qt 73728 uU)::B::B::DI::DI::gZ (Qt 135168 yE)::bs 39 (DI::DI::bs 15 [])),zs 68 [],.none⟩
abbrev Xa:SD:=⟨gZ (zsa yE)::B::gZ (Qt 24576 uU)::DI::DI::DB::gZ (Qt 73728 uU)::B::B::DI::DI::gZ (Qt 135168 yE)::bs 39 (DI::DI::bs 15 []),zs 68 [],.none⟩
def Z9 (X:SD.D MT)(K:zkk R):=gi (λy0=>ke 2 K MT ((z6 (u y0) X.1),X.2)) (λy0 y1 y2 y3 y4=>kr K Xa ((X.1.1,(y0,(y1,(y2,(y3,(X.1.2.1,(X.1.2.2.1,(X.1.2.2.2.1,(X.1.2.2.2.2.1,(X.1.2.2.2.2.2.1,(y4,()))))))))))),(),())) X.1.1 X.1.2.1 (q2 X) (q3 X) (q4 X) (q5 X)
def ahX:F0:=(F0.nil.add 5 (mkl Si ae7 (λX=>(X.1.2.1,q4 X)))).add 14 (mkl MT Z9 q6)
theorem ahA:Y6 E agQ.g ahE ahX (fU f398 0):=lk Si ae7 (λX=>(X.1.2.1,q4 X)) λX x=>((z1 (w x.1 (z2 (u x.2))) X.1),X.2)
theorem afS:Y6 E agQ.g ahE ahX (fU f398 1):=lk MT Z9 q6 λX x=>((z6 (u x) X.1),X.2)
def amR:=agQ.qk ahE func398 [pd (.sl yE)] [(false,(.sl (.own none) uU)),rI,rI,rB] (c1 nO) (cF ahA (cF afS nF))
def amS:=amR.q {} func399 po [ld [2,8,9,10,19,20] [0,5,18] [10,20] @lp [(.exit 0,[10,20]),(.ret,[8,9,10,20])]]
def am7:=amS.q {} func414 xX
def alp:=am7.q {} func289 xI
def aj6:=alp.q {} func199 Cn [ld [0,5,10,11] [] [5,11] @vB]
def alq:=aj6.q {} func290 Ai
def ajv:=alq.q {} func144 fW
def aon:=ajv.q {} func508 qo
def anT:=aon.q {} func472 oN
def amT:=anT.q {merge:=mg [(3,38),(9,74),(12,84),(17,117)]} func400 xK
def aju:=amT.q {merge:=mg [(1,2)]} func143 iS
def alh:=aju.q {} func282 vt
def ajz:=alh.q {} func148 om
def aoo:=ajz.q {mv:=[21,26]} func509 xN [ld [3,10,11] [9] [3,11] @mS]
def aop:=aoo.q {merge:=mg [(1,17),(4,30)],mv:=[83,87]} func510 Es [ld [1,2,5,6,7] [] [6,7] @xT]
def amU:=aop.q {} func401 tJ
def ale:=amU.q {merge:=mg [(1,28)],sb:=mg [(8,8)]} func279 pz
abbrev ag3:SD:=⟨gZ (zsa eL)::B::DI::B::B::.ptr 5 0::B::.ptr 7 0::.ptr 8 0::gZ (Qt 110592 .str)::DI::DI::gZ (Qt 147456 .str)::DI::DI::bs 30 [],zs 5 ((zsm (zsa .str))::Z::(some Y0)::(some Y0)::zs 36 []),.none⟩
abbrev aaq:SD:=⟨gZ (zsa eL)::B::DI::B::B::.ptr 5 0::B::.ptr 7 0::.ptr 8 0::gZ (Qt 110592 .str)::DI::DI::gZ (.sl .loc .str)::DI::DI::bs 30 [],zs 5 ((zsm (zsa .str))::Z::(some Y0)::(some Y0)::zs 36 []),.none⟩
def ajq:=ale.q1 {mask:=mk [(3,[0,2,5,7,8,9,10,11,12,13,14])],mv:=[35,42]} func139 [pd (.sl eL),pf (.sl .str),pI,pf ui] [(true,Y0),(false,(.sl (.own none) .str)),rI,rI] (c4 rp) ag3 (λX K=>mB (λy0 y1 y2 y3 y4 y5 y6 y7=>kr K aaq ((X.1.1,(X.1.2.1,(y0,(y1,(y2,(y3,(y4,(y5,())))))))),(X.2.1.1,(y6,(y7,()))),())) X.1.1 X.1.2.1 (q2 X) (q3 X) (q4 X) X.2.1.1 X.2.1.2.2.1) (λX=>(q5 X,q6 X,q7 X,X.2.1.2.1)) (λX x=>((z5 (w x.1 (w x.2.1 (u x.2.2.1))) X.1),(z1 (u x.2.2.2) X.2.1),X.2.2))
def ajr:=ajq.q {merge:=mg [(2,22)],mv:=[23,34,43,55,56]} func140 ll [ld [1,4,6,7,29,30] [2,28] [7,30,6] @jn]
def G50:=ajr.q {mv:=[15,33,37,51,54,58]} func50 pt
def ajs:=G50.q {merge:=mg [(2,17)]} func141 xJ
def G52:=ajs.q {} func52 qj
def ajw:=G52.q {merge:=mg [(1,15)]} func145 rj
def ajx:=ajw.q {merge:=mg [(1,24),(7,54)]} func146 mR
def ajy:=ajx.q {merge:=mg [(19,60)],mv:=[37,61,66]} func147 lv [ld [1,7,8,33,34] [0] [8,34] @kE,ld [1,7,11,44,45] [0] [11,45] @fK [(.exit 2,[11,45])] [(43,.data false (.sl .loc (.int .i64)),Z)]]
def G53:=ajy.q {merge:=mg [(2,35),(7,73)],late:=[93],mv:=[36,81],er:=mg [(98,11)]} func53 xS
def ajA:=G53.q {merge:=mg [(1,34)]} func149 ra
def alr:=ajA.q {merge:=mg [(1,4)]} func291 Af
def aoX:=alr.q {} func550 ox
def aos:=aoX.q {merge:=mg [(1,4)]} func513 rh
def am8:=aos.q {merge:=mg [(7,34)]} func415 xM [ld [3,5,12,13] [0,11] [5,13] @qY]
def am9:=am8.q {} func416 xL
def ana:=am9.q {} func417 yJ
def apa:=ana.q {} func563 yL
def apb:=apa.q {merge:=mg [(1,14)]} func564 vl [ld [0,1,5,6] [] [5,6] @pw]
def ao4:=apb.q {merge:=mg [(1,14)]} func557 vi [ld [0,1,5,6] [] [5,6] @pq]
def ao5:=ao4.q {} func558 vj
def aoQ:=ao5.q {} func543 sL
def aot:=aoQ.q {merge:=mg [(2,17)]} func514 Ah
def anb:=aot.q {merge:=mg [(2,18)]} func418 rk
def als:=anb.q {merge:=mg [(1,17)]} func292 rl
def anO:=als.q {nest:=[33],mv:=[19,49]} func466 rq [ld [1,2,6,8] [] [1,2,8] @mC]
def alX:=anO.q {mv:=[34,41,50,57],sb:=mg [(14,14)]} func337 J3 [ld [4,12,14,36,37] [] [4,37,14] @yM [(.exit 0,[4,37,14])] [(35,.data false (.sl .loc uU),Z)]]
def anR:=alX.q {} func470 sK
def aoL:=anR.q {} func536 rE
def aoM:=aoL.q {} func538 Am
def ao6:=aoM.q {merge:=mg [(1,2)]} func559 ln
def ao7:=ao6.q {merge:=mg [(1,12)]} func560 kC
def aoR:=ao7.q {merge:=mg [(1,22)],mv:=[26,37,41,51],mb:=mg [(41,13),(51,13)],sb:=mg [(10,10),(11,11),(13,13)]} func544 nP
def anV:=aoR.v {merge:=mg [(3,50)],sb:=mg [(12,12),(13,13),(20,20)]} func479 vD [(true,(.sl .arg .str)),(true,(.pair (.int .i64) (.pair (.int .i64) (.int .i64)))),(false,.bool)]
def al1:=anV.q {merge:=mg [(1,31)],mv:=[52,66],mb:=mg [(66,16)],sb:=mg [(10,10),(11,11)]} func344 qh
def aou:=al1.q {} func515 xR
def anc:=aou.q {merge:=mg [(1,42),(4,76),(6,4)]} func419 vf
def ane:=anc.q {} func420 Hn
def anf:=ane.q {} func421 Gw
def alu:=anf.q {merge:=mg [(1,30),(3,44)],mv:=[53,68,77],mb:=mg [(77,16)],sb:=mg [(14,14),(15,15)]} func293 nQ
def al0:=alu.q {merge:=mg [(1,9)]} func342 Al
def anh:=al0.q {} func423 xF
def alv:=anh.b {} func294 mW [ld [1,7] [] [7,0] @pA [(.exit 0,[7,0])] [(0,.ptr 0 0,some (sF 1 fF))] .ptr] (t:=(kF (.own none) fF))
def ajB:=alv.q {mv:=[14,34,46,62,69,90,103],sb:=mg [(92,5)]} func150 qZ
def G54:=ajB.q {merge:=mg [(2,24)],mv:=[25,26,57,76]} func54 tE [ld [5,6,7,8,10,39,40,41] [] [41,7] @kt]
def G9:=G54.q {merge:=mg [(2,29)],mv:=[30,31,75,85,94]} func9 lj [ld [1,4,5,6,63,64] [] [64,5] @jb [(.exit 0,[64,5])] [(62,.data false (.sl .loc .str),Z)]]
def G21:=G9.q {} func21 lz [ld [4,5] [0,1] [5] @Gy [(.exit 0,[5]),(.ret,[4,5])]]
def G60:=G21.q {} func60 mZ [ld [4,5] [0,1] [5] @Cq [(.exit 0,[5]),(.ret,[4,5])]]
def alw:=G60.q {} func295 ya
def ani:=alw.q {} func424 qs
def alx:=ani.q {} func296 zD [ld [4,5] [0,1] [5] @BA [(.exit 0,[5]),(.ret,[4,5])]]
def anj:=alx.q {} func425 yQ
def ank:=anj.q {} func426 uG
def aov:=ank.q {} func516 yS
def anl:=aov.q {} func427 EB [ld [4,5] [0,1] [5] @Fz [(.exit 0,[5]),(.ret,[4,5])]]
def aly:=anl.q {} func297 vF
def aow:=aly.q {} func517 ig
def anW:=aow.q {} func480 vE
def al2:=anW.q {} func347 yb
def aox:=al2.q {} func518 Ar
def anm:=aox.q {} func428 qt
def alz:=anm.q {} func298 zE [ld [4,5] [0,1] [5] @BB [(.exit 0,[5]),(.ret,[4,5])]]
def alA:=alz.q {} func299 Ez [ld [4,5] [0,1] [5] @Fx [(.exit 0,[5]),(.ret,[4,5])]]
def ann:=alA.q {} func429 sV
def alB:=ann.q {} func300 BD [ld [4,5] [0,1] [5] @Cr [(.exit 0,[5]),(.ret,[4,5])]]
def alC:=alB.q {} func301 Ew [ld [4,5] [0,1] [5] @Fv [(.exit 0,[5]),(.ret,[4,5])]]
def alD:=alC.q {} func302 sT
def aoy:=alD.q {} func519 yR
def ano:=aoy.q {} func430 EA [ld [4,5] [0,1] [5] @Fy [(.exit 0,[5]),(.ret,[4,5])]]
def aoA:=ano.q {} func521 yO
def aoY:=aoA.q {} func551 yT
def aoz:=aoY.q {} func520 EC [ld [4,5] [0,1] [5] @FA [(.exit 0,[5]),(.ret,[4,5])]]
def anp:=aoz.q {} func431 rF
def anq:=anp.q {} func432 yc
def alE:=anq.q {} func303 tO
def anr:=alE.q {} func433 sU
def alF:=anr.q {} func304 BC [ld [4,5] [0,1] [5] @Cp [(.exit 0,[5]),(.ret,[4,5])]]
def alG:=alF.q {} func305 tN
def ajC:=alG.q {} func151 yP
def G55:=ajC.q {} func55 Ey [ld [4,5] [0,1] [5] @Fw [(.exit 0,[5]),(.ret,[4,5])]]
def alH:=G55.q {} func306 xZ
def ajD:=alH.q {} func152 ij
def G56:=ajD.q {} func56 na [ld [4,5] [0,1] [5] @qu [(.exit 0,[5]),(.ret,[4,5])]]
def ajE:=G56.q {} func153 qq
def G57:=ajE.q {} func57 zC [ld [4,5] [0,1] [5] @Bz [(.exit 0,[5]),(.ret,[4,5])]]
def G58:=G57.q {} func58 Aq
def G59:=G58.q {} func59 Ap
def G10:=G59.q {} func10 qp
def G24:=G10.i {} func24 dK [ld [1,5] [] [0,1,5,19] @nd [(.exit 0,[0,1,5,19])] [(0,.data false (.sl (.WK 0 12288036864) (.int .i64)),Z)] (.some (.sl (.own (some 12288036864)) (.int .i64)))]
def G98:=G24.q {} func98 bL [ld [0,3] [] [0,3] @rK]
def G65:=G98.i {} func65 gU [ld [1,5] [] [0,1,5,20] @jO [(.exit 0,[0,1,5,20])] [(0,.data false (.sl (.WK 0 12288036864) .str),Z)] (.some (.sl (.own (some 12288036864)) .str))]
def ajF:=G65.i {} func154 pF [ld [1,5] [] [0,1,5,43] @qz [(.exit 0,[0,1,5,43])] [(0,.data false (.sl (.WK 0 12288036864) eL),Z)] (.some (.sl (.own (some 12288036864)) eL))]
def ajG:=ajF.i {nest:=[30]} func155 wa [ld [1,5] [] [0,1,5,34] @we [(.exit 0,[0,1,5,34])] [(0,.data false (.sl (.WK 0 12288036864) mj),Z)] (.some (.sl (.own (some 12288036864)) mj))]
def ajH:=ajG.i {} func156 pG [ld [1,5] [] [0,1,5,278] @qA [(.exit 0,[0,1,5,278])] [(0,.data false (.sl (.WK 0 12288036864) dQ),Z)] (.some (.sl (.own (some 12288036864)) dQ))]
def ajI:=ajH.i {nest:=[37]} func157 vW [ld [1,5] [] [0,1,5,41] @vX [(.exit 0,[0,1,5,41])] [(0,.data false (.sl (.WK 0 12288036864) mi),Z)] (.some (.sl (.own (some 12288036864)) mi))]
def ajJ:=ajI.i {} func158 rL [ld [1,5] [] [0,1,5,59] @sC [(.exit 0,[0,1,5,59])] [(0,.data false (.sl (.WK 0 12288036864) gz),Z)] (.some (.sl (.own (some 12288036864)) gz))]
def ajK:=ajJ.i {} func159 vS [ld [1,5] [] [0,1,5,21] @lB [(.exit 0,[0,1,5,21])] [(0,.data false (.sl (.WK 0 12288036864) .bool),Z)] (.some (.sl (.own (some 12288036864)) .bool))]
def ajL:=ajK.i {} func160 vY [ld [1,5] [] [0,1,5,76] @vZ [(.exit 0,[0,1,5,76])] [(0,.data false (.sl (.WK 0 12288036864) pn),Z)] (.some (.sl (.own (some 12288036864)) pn))]
def ajM:=ajL.i {} func161 wg [ld [1,5] [] [0,1,5,67] @wh [(.exit 0,[0,1,5,67])] [(0,.data false (.sl (.WK 0 12288036864) kM),Z)] (.some (.sl (.own (some 12288036864)) kM))]
def ajN:=ajM.i {} func162 rJ [ld [1,5] [] [0,1,5,77] @sB [(.exit 0,[0,1,5,77])] [(0,.data false (.sl (.WK 0 12288036864) gb),Z)] (.some (.sl (.own (some 12288036864)) gb))]
def G61:=ajN.i {nest:=[17,24,96,104,119,126,133,140,166,174,183,202,209,225,232,239]} func61 BF [ld [1,5] [] [0,1,5,283] @vU [(.exit 0,[0,1,5,283])] [(0,.data false (.sl (.WK 0 12288036864) fF),Z)] (.some (.sl (.own (some 12288036864)) fF))]
def G62:=G61.i {} func62 kR [ld [1,5] [] [0,1,5,74] @jA [(.exit 0,[0,1,5,74])] [(0,.data false (.sl (.WK 0 12288036864) bS),Z)] (.some (.sl (.own (some 12288036864)) bS))]
def G63:=G62.i {nest:=[35]} func63 vV [ld [1,5] [] [0,1,5,60] @qy [(.exit 0,[0,1,5,60])] [(0,.data false (.sl (.WK 0 12288036864) eV),Z)] (.some (.sl (.own (some 12288036864)) eV))]
def G64:=G63.i {} func64 vT
def G11:=G64.i {} func11 sW
def G25:=G11.q {} func25 dJ [ld [1,4,5] [0] [1,5] @nb [(.exit 0,[1,5]),(.ret,[1,4,5])]]
def G70:=G25.q {} func70 gT [ld [1,4,5] [0] [1,5] @jN [(.exit 0,[1,5]),(.ret,[1,4,5])]]
def ajO:=G70.q {} func163 pD [ld [1,4,5] [0] [1,5] @qw [(.exit 0,[1,5]),(.ret,[1,4,5])]]
def ajP:=ajO.q {} func164 vO [ld [1,4,5] [0] [1,5] @vP [(.exit 0,[1,5]),(.ret,[1,4,5])]]
def ajQ:=ajP.q {} func165 pE [ld [1,4,5] [0] [1,5] @qx [(.exit 0,[1,5]),(.ret,[1,4,5])]]
def ajR:=ajQ.q {} func166 vK [ld [1,4,5] [0] [1,5] @vL [(.exit 0,[1,5]),(.ret,[1,4,5])]]
def ajS:=ajR.q {} func167 rH [ld [1,4,5] [0] [1,5] @sA [(.exit 0,[1,5]),(.ret,[1,4,5])]]
def ajT:=ajS.q {} func168 vG [ld [1,4,5] [0] [1,5] @lA [(.exit 0,[1,5]),(.ret,[1,4,5])]]
def ajU:=ajT.q {} func169 vM [ld [1,4,5] [0] [1,5] @vN [(.exit 0,[1,5]),(.ret,[1,4,5])]]
def ajV:=ajU.q {} func170 vQ [ld [1,4,5] [0] [1,5] @vR [(.exit 0,[1,5]),(.ret,[1,4,5])]]
def ajW:=ajV.q {} func171 rG [ld [1,4,5] [0] [1,5] @sy [(.exit 0,[1,5]),(.ret,[1,4,5])]]
def G66:=ajW.q {} func66 BE [ld [1,4,5] [0] [1,5] @vI [(.exit 0,[1,5]),(.ret,[1,4,5])]]
def G67:=G66.q {} func67 kQ [ld [1,4,5] [0] [1,5] @jz [(.exit 0,[1,5]),(.ret,[1,4,5])]]
def G68:=G67.q {} func68 vJ [ld [1,4,5] [0] [1,5] @qv [(.exit 0,[1,5]),(.ret,[1,4,5])]]
def G69:=G68.q {} func69 vH
def G12:=G69.q {} func12 oP
abbrev kz:aq PS:=[pf iB,pI]
def qb:zY:=QI kz [rB] (c2 lZ)
theorem BS:kh Tryz.prog 3 qb:=f0 {merge:=mg [(14,46)]} G12.s func3
end
end Go.Proofs.YthllnaiaikjelaaGreat.Fn
