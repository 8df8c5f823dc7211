import Derived.Test.YthllnaiaikjelaaGreatDnSig
import Derived.Test.YthllnaiaikjelaaGreatPure
import Derived.Test.YthllnaiaikjelaaGreatRows
/- Each function of the program is its pure function (made by gen.py). -/
namespace Go.Proofs.YthllnaiaikjelaaGreat.Fn
open Go.Dn
open Go.Pu Go.Proofs.Tryz
set_option maxRecDepth 100000
set_option linter.unusedVariables false
noncomputable section
variable {Λ:LG} {P:Program} {A0 A1 A2 A3 A4 A5 A6 C R σ:Type} {A:Type->Type} {rs:ar (Bool×FT)} {s:ar PS}
abbrev zkk (R:Type):=Ex->AS->Option R
abbrev zit:FT:=.int .i64
abbrev W3 (a b:FT):FT:=.pair a b
abbrev zpi (b:FT):FT:=.pair (.int .i64) b
abbrev Rp (n:Nat)(t:CT):FT:=.sl (.own (some n)) t
abbrev zsm (t:FT):Option FT:=some t
abbrev fG (t:FT):PD:=.data false t
abbrev gL (t:FT):PD:=.data true t
abbrev zsa (t:CT):FT:=.sl .arg t
abbrev zfo:=mD Tryz.prog
abbrev B:PD:=.bot
abbrev DI:PD:=.data false (.int .i64)
abbrev DB:PD:=.data false .bool
abbrev Z:au FT:=none
theorem nF {p:Code->Prop}:∀x∈([]:ar Code),p x:=λ_ h=>nomatch h
theorem cF {p:Code->Prop}{a:Code}{l:ar Code}(h:p a)(t:∀x∈l,p x):∀x∈a::l,p x:=List.forall_mem_cons.2 ⟨h,t⟩
theorem hF {p:Code->Prop}{l m:ar Code}(e:l=m)(h:∀x∈m,p x):∀x∈l,p x:=e▸h
theorem fk {E:Env}{Γ:Cr}{F:Gu s->au (jh rs)}{f:Nat}{fn:Func}(an:An)(hS:Sound P E Γ)(hf:P.funcs[f]?=some fn){l:ar Code}(h:∀c∈l,LOk E Γ an Λ c)(hn:(fn.name== "runtime.NumGoroutine")=false:=by kernel_rfl)(hl:jf (fn.body.getD .skip)=l:=by kernel_rfl)(eP:an.cut=[]:=by kernel_rfl)(hF:∀a,L8 E Γ an Λ fn rs (jk s a)=F a:=by intro a;kernel_rfl):mD P f (X3 s rs F):=mD.of (ai5 hS hf hn (E8.of (Fn.hF hl h) eP)) hF
theorem ao {E:Env}{Γ:Cr}{an:An}{b:Code}{l:ar Code}(h:∀c∈l,LOk E Γ an Λ c)(hl:jf b=l:=by kernel_rfl)(hc:an.cut=[]:=by kernel_rfl):E8 E Γ an Λ b:=E8.of (Fn.hF hl h) hc
theorem ac {E:Env}{Γ:Cr}{an:An}{b:Code}{l m:ar Code}(h:∀c∈l,LOk E Γ an Λ c)(hc:∀c∈m,COk E Γ an Λ c)(hl:jf b=l:=by kernel_rfl)(hm:mc an.cut b=m:=by kernel_rfl):E8 E Γ an Λ b:=⟨Fn.hF hl h,Fn.hF hm hc⟩
theorem fc {E:Env}{Γ:Cr}{F:Gu s->au (jh rs)}{f:Nat}{fn:Func}(an:An)(hS:Sound P E Γ)(hf:P.funcs[f]?=some fn){l m:ar Code}(h:∀c∈l,LOk E Γ an Λ c)(hc:∀c∈m,COk E Γ an Λ c)(hn:(fn.name== "runtime.NumGoroutine")=false:=by kernel_rfl)(hl:jf (fn.body.getD .skip)=l:=by kernel_rfl)(hm:mc an.cut (fn.body.getD .skip)=m:=by kernel_rfl)(hF:∀a,L8 E Γ an Λ fn rs (jk s a)=F a:=by intro a;kernel_rfl):mD P f (X3 s rs F):=mD.of (ai5 hS hf hn ⟨Fn.hF hl h,Fn.hF hm hc⟩) hF
abbrev pd (t:CT):PS:=.data false t
abbrev pf (t:CT):PS:=.data true t
abbrev pI:PS:=.data false (.int .i64)
abbrev rB:Bool×FT:=(false,.bool)
abbrev rI:Bool×FT:=(false,.int .i64)
abbrev rS:Bool×FT:=(false,.str)
abbrev bs:Nat->ar PD->ar PD
 |0,l=>l
 |n+1,l=> .bot::bs n l
abbrev zs:Nat->ar (au FT)->ar (au FT)
 |0,l=>l
 |n+1,l=>none::zs n l
def mk (l:ar (Nat×ei))(n:Nat):ei:=(l.lookup n).getD []
def mg (l:ar (Nat×Nat))(n:Nat):au Nat:=l.lookup n
def ke (n:Nat)(K:zkk R)(d:SD)(x:SD.D d):au R:=K (.exit n) (SD.enc d x)
def kn (K:zkk R)(d:SD)(x:SD.D d):au R:=K .normal (SD.enc d x)
def kr (K:zkk R)(d:SD)(x:SD.D d):au R:=K .ret (SD.enc d x)
def mkl (d:SD)(t:{R:Type}->SD.D d->(Ex->AS->au R)->(σ->au R)->σ->au R)(i:SD.D d->σ):Rr:=⟨d,λX K=>aH (t X K) fuel (i X)⟩
theorem lk {E:Env}{Γ:Cr}{an:An}{c:Code}(d:SD)(t:{R:Type}->SD.D d->(Ex->AS->au R)->(σ->au R)->σ->au R)(i:SD.D d->σ)(w:SD.D d->σ->SD.D d)(h1:Λ (dV c)=mkl d t i:=by kernel_rfl)(h:∀(R:Type)(X:SD.D d)(K:zkk R)(m:Nat)(x:σ),Ff (an.mask (dV c)) (den E Γ an Λ c) (m+1) (SD.enc d (w X x)) K=t X K (λy=>Ff (an.mask (dV c)) (den E Γ an Λ c) m (SD.enc d (w X y)) K) x:=by intro R X K m x;kernel_rfl)(hw:∀X,w X (i X)=X:=by intro X;kernel_rfl):LOk E Γ an Λ c:=lok (mkl d t i) h1 fuel λR X K=>(YL (λx=>SD.enc d (w X x)) (t X K) (h R X K) fuel (i X)).symm.trans (congrArg (λy=>Ff (an.mask (dV c)) (den E Γ an Λ c) fuel (SD.enc d y) K) (hw X))
def mkc (d:SD)(t:{R:Type}->SD.D d->(Ex->AS->au R)->au R):Rr:=⟨d,λX K=>t X K⟩
theorem ck {E:Env}{Γ:Cr}{an:An}{c:Code}(d:SD)(t:{R:Type}->SD.D d->(Ex->AS->au R)->au R)(h1:Λ (CD c)=mkc d t:=by kernel_rfl)(h:∀(R:Type)(X:SD.D d)(K:zkk R),t X K=den E Γ an Λ c (SD.enc d X) (λe st'=>K e (st'.mask (an.mask (CD c+1)))):=by intro R X K;kernel_rfl):COk E Γ an Λ c:=cok (mkc d t) h1 h
def u {A B:Type}(y:A)(x:A×B):A×B:=(y,x.2)
def w {A B:Type}(y:A)(f:B->B)(x:A×B):A×B:=(y,f x.2)
def z1 {B:Type}(f:B->B)(x:A0×B):A0×B:=(x.1,f x.2)
def z2 {B:Type}(f:B->B)(x:A0×A1×B):A0×A1×B:=(x.1,x.2.1,f x.2.2)
def z3 {B:Type}(f:B->B)(x:A0×A1×A2×B):A0×A1×A2×B:=(x.1,x.2.1,x.2.2.1,f x.2.2.2)
def z5 {B:Type}(f:B->B)(x:A0×A1×A2×A3×A4×B):A0×A1×A2×A3×A4×B:=(x.1,x.2.1,x.2.2.1,x.2.2.2.1,x.2.2.2.2.1,f x.2.2.2.2.2)
def z6 {B:Type}(f:B->B)(x:A0×A1×A2×A3×A4×A5×B):A0×A1×A2×A3×A4×A5×B:=(x.1,x.2.1,x.2.2.1,x.2.2.2.1,x.2.2.2.2.1,x.2.2.2.2.2.1,f x.2.2.2.2.2.2)
def q2 {B:Type}(x:(A0×A1×A2×B)×C):A2:=x.1.2.2.1
def q3 {B:Type}(x:(A0×A1×A2×A3×B)×C):A3:=x.1.2.2.2.1
def q4 {B:Type}(x:(A0×A1×A2×A3×A4×B)×C):A4:=x.1.2.2.2.2.1
def q5 {B:Type}(x:(A0×A1×A2×A3×A4×A5×B)×C):A5:=x.1.2.2.2.2.2.1
def q6 {B:Type}(x:(A0×A1×A2×A3×A4×A5×A6×B)×C):A6:=x.1.2.2.2.2.2.2.1
def q7 {A7 B:Type}(x:(A0×A1×A2×A3×A4×A5×A6×A7×B)×C):A7:=x.1.2.2.2.2.2.2.2.1
def q8 {A7 A8 B:Type}(x:(A0×A1×A2×A3×A4×A5×A6×A7×A8×B)×C):A8:=x.1.2.2.2.2.2.2.2.2.1
def q9 {A7 A8 A9 B:Type}(x:(A0×A1×A2×A3×A4×A5×A6×A7×A8×A9×B)×C):A9:=x.1.2.2.2.2.2.2.2.2.2.1
def c1 {B:Type}(f:A0->R)(a:A0×B):R:=f a.1
def c2 {B:Type}(f:A0->A1->R)(a:A0×A1×B):R:=f a.1 a.2.1
def c4 {B:Type}(f:A0->A1->A2->A3->R)(a:A0×A1×A2×A3×B):R:=f a.1 a.2.1 a.2.2.1 a.2.2.2.1
theorem f0 {E:Env}{Γ:Cr}{F:Gu s->au (jh rs)}{f:Nat}{fn:Func}(an:An)(hS:Sound P E Γ)(hf:P.funcs[f]?=some fn)(hn:(fn.name== "runtime.NumGoroutine")=false:=by kernel_rfl)(hl:jf (fn.body.getD .skip)=[]:=by kernel_rfl)(eP:an.cut=[]:=by rfl)(hF:∀a,L8 E Γ an LG.nil fn rs (jk s a)=F a:=by intro a;kernel_rfl):mD P f (X3 s rs F):=mD.of (ai5 hS hf hn (E8.of (Fn.hF hl nF) eP)) hF
abbrev Y0:FT:=zpi (zpi (zpi zit))
abbrev Y1:FT:=W3 (Rp 36865 .str) (W3 (Rp 36868 eG) (W3 (W3 Y0 (W3 (zpi (zpi (zpi (Rp 36892 (.int .i64))))) (W3 (Rp 36895 kZ) zit))) (W3 (Rp 36901 dR) (W3 (Rp 36904 jT) (W3 (.sl .arg gZ) (W3 (.sl .arg .bool) (W3 (zpi (W3 .bool (.sl .arg (.int .i64)))) (W3 (W3 (.sl .arg tu) (W3 (.sl .arg np) (W3 .str (.sl .arg (.int .i64))))) (W3 (.sl .arg eD) (W3 .bool (W3 (.sl .arg .str) (W3 (.sl .arg (.int .i64)) (W3 (.sl .arg (.int .i64)) (W3 zit Y0))))))))))))))
abbrev Y2:FT:=zpi (zpi (zpi (.sl .arg (.int .i64))))
def E:Env:={ty:=[(3,⟨false,(.int .i64),[]⟩),
 (4,⟨false,.bool,[]⟩),
 (5,⟨false,(.int .u8),[]⟩),
 (9,⟨false,.str,[]⟩),
 (22,⟨false,(.sl cS),[(182,0)]⟩),
 (23,⟨false,(.sl cA),[(220,0)]⟩),
 (24,⟨false,(.sl fQ),[(185,0)]⟩),
 (25,⟨false,(.sl .str),[(9,0)]⟩),
 (27,⟨true,(.sl .str),[(0,1)]⟩),
 (29,⟨true,zg,[(0,1),(1,1),(2,1),(3,1)]⟩),
 (30,⟨false,(.sl (.int .i64)),[(3,0)]⟩),
 (32,⟨true,gB,[(0,1),(1,1),(2,1),(3,1),(4,4),(8,1),(9,1)]⟩),
 (34,⟨false,(.sl cS),[(115,0)]⟩),
 (35,⟨false,(.sl cA),[(196,0)]⟩),
 (36,⟨false,(.sl fQ),[(187,0)]⟩),
 (37,⟨true,(.sl .str),[(0,1)]⟩),
 (38,⟨true,zg,[(0,1),(1,1),(2,1),(3,1)]⟩),
 (40,⟨true,gB,[(0,1),(1,1),(2,1),(3,1),(4,4),(8,1),(9,1)]⟩),
 (47,⟨true,I0,[(0,1),(1,1),(2,1),(3,1),(4,1),(5,1),(6,1),(7,1)]⟩),
 (49,⟨true,Fk,[(0,1),(1,1),(2,1),(3,1),(4,1),(5,1),(6,1),(7,1),(8,8)]⟩),
 (51,⟨true,aeQ,[(0,1),(1,16),(17,1),(18,1),(19,1),(20,1)]⟩),
 (53,⟨true,mW,[(0,1),(1,1),(2,1)]⟩),
 (55,⟨true,gn,[(0,1),(1,1),(2,21),(23,3),(26,1),(27,1)]⟩),
 (59,⟨true,I0,[(0,1),(1,1),(2,1),(3,1),(4,1),(5,1),(6,1),(7,1)]⟩),
 (61,⟨true,Fk,[(0,1),(1,1),(2,1),(3,1),(4,1),(5,1),(6,1),(7,1),(8,8)]⟩),
 (63,⟨true,aeQ,[(0,1),(1,16),(17,1),(18,1),(19,1),(20,1)]⟩),
 (64,⟨true,mW,[(0,1),(1,1),(2,1)]⟩),
 (66,⟨true,gn,[(0,1),(1,1),(2,21),(23,3),(26,1),(27,1)]⟩),
 (69,⟨false,(.sl gn),[(55,0)]⟩),
 (73,⟨false,(.sl gn),[(66,0)]⟩),
 (88,⟨true,(.sl .str),[(0,1)]⟩),
 (89,⟨false,(.sl eG),[(359,0)]⟩),
 (91,⟨true,zg,[(0,1),(1,1),(2,1),(3,1)]⟩),
 (93,⟨true,jT,[(0,1),(1,1),(2,1),(3,1)]⟩),
 (94,⟨false,(.sl kZ),[(261,0)]⟩),
 (96,⟨true,uz,[(0,4),(4,4),(8,1),(9,1)]⟩),
 (97,⟨false,(.sl dR),[(257,0)]⟩),
 (98,⟨false,(.sl jT),[(93,0)]⟩),
 (99,⟨false,(.sl gZ),[(266,0)]⟩),
 (100,⟨false,(.sl .bool),[(4,0)]⟩),
 (102,⟨true,Ag,[(0,1),(1,1),(2,1)]⟩),
 (103,⟨false,(.sl tu),[(361,0)]⟩),
 (104,⟨false,(.sl np),[(365,0)]⟩),
 (106,⟨true,(.sl np),[(0,1)]⟩),
 (108,⟨true,M7,[(0,1),(1,1)]⟩),
 (110,⟨true,pN,[(0,1),(1,1),(2,2)]⟩),
 (111,⟨false,(.sl eD),[(367,0)]⟩),
 (113,⟨true,IZ,[(0,1),(1,1),(2,1),(3,1),(4,1)]⟩),
 (115,⟨true,cS,[(0,1),(1,1),(2,10),(12,1),(13,1),(14,1),(15,1),(16,3),(19,4),(23,1),(24,1),(25,1),(26,1),(27,1),(28,5)]⟩),
 (117,⟨false,(.sl ahq),[(202,0)]⟩),
 (147,⟨false,(.sl Uy),[(249,0)]⟩),
 (161,⟨true,(.sl .str),[(0,1)]⟩),
 (162,⟨false,(.sl eG),[(432,0)]⟩),
 (163,⟨true,zg,[(0,1),(1,1),(2,1),(3,1)]⟩),
 (164,⟨true,jT,[(0,1),(1,1),(2,1),(3,1)]⟩),
 (165,⟨false,(.sl kZ),[(498,0)]⟩),
 (167,⟨true,uz,[(0,4),(4,4),(8,1),(9,1)]⟩),
 (168,⟨false,(.sl dR),[(405,0)]⟩),
 (169,⟨false,(.sl jT),[(164,0)]⟩),
 (170,⟨false,(.sl gZ),[(438,0)]⟩),
 (171,⟨true,Ag,[(0,1),(1,1),(2,1)]⟩),
 (172,⟨false,(.sl tu),[(516,0)]⟩),
 (173,⟨false,(.sl np),[(539,0)]⟩),
 (175,⟨true,(.sl np),[(0,1)]⟩),
 (176,⟨true,M7,[(0,1),(1,1)]⟩),
 (178,⟨true,pN,[(0,1),(1,1),(2,2)]⟩),
 (179,⟨false,(.sl eD),[(412,0)]⟩),
 (180,⟨true,IZ,[(0,1),(1,1),(2,1),(3,1),(4,1)]⟩),
 (182,⟨true,cS,[(0,1),(1,1),(2,10),(12,1),(13,1),(14,1),(15,1),(16,3),(19,4),(23,1),(24,1),(25,1),(26,1),(27,1),(28,5)]⟩),
 (185,⟨true,fQ,[(0,3),(3,1),(4,1),(5,1)]⟩),
 (187,⟨true,fQ,[(0,3),(3,1),(4,1),(5,1)]⟩),
 (194,⟨true,mW,[(0,1),(1,1),(2,1)]⟩),
 (196,⟨true,cA,[(0,1),(1,1),(2,3),(5,1),(6,1),(7,1)]⟩),
 (202,⟨true,ahq,[(0,1),(1,1),(2,1),(3,1)]⟩),
 (218,⟨true,mW,[(0,1),(1,1),(2,1)]⟩),
 (220,⟨true,cA,[(0,1),(1,1),(2,3),(5,1),(6,1),(7,1)]⟩),
 (249,⟨true,Uy,[(0,1),(1,1),(2,1),(3,1)]⟩),
 (253,⟨true,mW,[(0,1),(1,1),(2,1)]⟩),
 (255,⟨true,OI,[(0,16),(16,1),(17,1)]⟩),
 (257,⟨true,dR,[(0,4),(4,3),(7,3),(10,18),(28,1),(29,1)]⟩),
 (261,⟨true,kZ,[(0,1),(1,1),(2,1)]⟩),
 (266,⟨true,gZ,[(0,1),(1,1),(2,1),(3,1),(4,1),(5,1)]⟩),
 (284,⟨false,(.sl (.int .u8)),[(5,0)]⟩),
 (313,⟨true,azI,[(0,1),(1,1),(2,1),(3,1),(4,1)]⟩),
 (317,⟨true,TIp,[(0,1),(1,1),(2,1),(3,1),(4,1),(5,1),(6,1)]⟩),
 (359,⟨true,eG,[(0,1),(1,1),(2,1),(3,1)]⟩),
 (361,⟨true,tu,[(0,1),(1,1),(2,1),(3,1),(4,1),(5,1),(6,1),(7,1),(8,1)]⟩),
 (363,⟨true,IZ,[(0,1),(1,1),(2,1),(3,1),(4,1)]⟩),
 (365,⟨true,np,[(0,1),(1,5),(6,1)]⟩),
 (367,⟨true,eD,[(0,5),(5,1),(6,1),(7,1)]⟩),
 (377,⟨true,IZ,[(0,1),(1,1),(2,1),(3,1),(4,1)]⟩),
 (394,⟨true,Cs,[(0,1),(1,1),(2,1),(3,1),(4,1),(5,1)]⟩),
 (401,⟨true,mW,[(0,1),(1,1),(2,1)]⟩),
 (403,⟨true,OI,[(0,16),(16,1),(17,1)]⟩),
 (405,⟨true,dR,[(0,4),(4,3),(7,3),(10,18),(28,1),(29,1)]⟩),
 (410,⟨true,IZ,[(0,1),(1,1),(2,1),(3,1),(4,1)]⟩),
 (412,⟨true,eD,[(0,5),(5,1),(6,1),(7,1)]⟩),
 (419,⟨false,(.sl Cs),[(394,0)]⟩),
 (422,⟨false,(.sl pM),[(479,0)]⟩),
 (432,⟨true,eG,[(0,1),(1,1),(2,1),(3,1)]⟩),
 (438,⟨true,gZ,[(0,1),(1,1),(2,1),(3,1),(4,1),(5,1)]⟩),
 (479,⟨true,pM,[(0,1),(1,1)]⟩),
 (486,⟨false,(.sl pM),[(490,0)]⟩),
 (490,⟨true,pM,[(0,1),(1,1)]⟩),
 (498,⟨true,kZ,[(0,1),(1,1),(2,1)]⟩),
 (509,⟨false,(.sl Fk),[(61,0)]⟩),
 (516,⟨true,tu,[(0,1),(1,1),(2,1),(3,1),(4,1),(5,1),(6,1),(7,1),(8,1)]⟩),
 (520,⟨false,(.int .u32),[]⟩),
 (539,⟨true,np,[(0,1),(1,5),(6,1)]⟩)],eqs:=[(61,[.int,.int,.int,.int,.int,.int,.int,.int,.int,.int,.int,.int,.int,.int,.int,.str]),(255,[.int,.int,.int,.int,.int,.int,.int,.int,.int,.int,.int,.int,.int,.int,.int,.str,.int,.int]),(363,[.int,.int,.int,.int,.int]),(394,[.int,.int,.int,.int,.int,.int])],fts:=[]}
theorem base:Sound Tryz.prog E Cr.nil:=Sound.nil (ac1 (by kernel_rfl)) (ac4 (by kernel_rfl)) (ac3 (by kernel_rfl)) (by kernel_rfl)
structure SG where (g:Cr) (s:Sound Tryz.prog E g)
def SG.add (S:SG){f:Nat}{F:EI}(h:zfo f F):SG:=⟨S.g.add f F,S.s.add h⟩
def G0:SG:=⟨Cr.nil,base⟩
def SG.qk (S:SG){f:Nat}{fn:Func}(an:An)(hf:Tryz.prog.funcs[f]?=some fn)(s:ar PS)(rs:ar (Bool×FT))(F:Gu s->au (jh rs)){l:ar Code}(h:∀c∈l,LOk E S.g an Λ c)(hn:(fn.name== "runtime.NumGoroutine")=false:=by kernel_rfl)(hl:jf (fn.body.getD .skip)=l:=by kernel_rfl)(eP:an.cut=[]:=by kernel_rfl)(hF:∀a,L8 E S.g an Λ fn rs (jk s a)=F a:=by intro a;kernel_rfl):SG:=S.add (mD.of (ai5 S.s hf hn (E8.of (Fn.hF hl h) eP)) hF)
def SG.q1 (S:SG){f:Nat}{fn:Func}(an:An)(hf:Tryz.prog.funcs[f]?=some fn)(s:ar PS)(rs:ar (Bool×FT))(F:Gu s->au (jh rs))(d:SD)(t:{R:Type}->SD.D d->(Ex->AS->au R)->(σ->au R)->σ->au R)(i:SD.D d->σ)(w:SD.D d->σ->SD.D d)(h1:(LG.nil.add (dV (gO fn 0)) (mkl d t i)) (dV (gO fn 0))=mkl d t i:=by kernel_rfl)(h:∀(R:Type)(X:SD.D d)(K:zkk R)(m:Nat)(x:σ),Ff (an.mask (dV (gO fn 0))) (den E S.g an (LG.nil.add (dV (gO fn 0)) (mkl d t i)) (gO fn 0)) (m+1) (SD.enc d (w X x)) K=t X K (λy=>Ff (an.mask (dV (gO fn 0))) (den E S.g an (LG.nil.add (dV (gO fn 0)) (mkl d t i)) (gO fn 0)) m (SD.enc d (w X y)) K) x:=by intro R X K m x;kernel_rfl)(hw:∀X,w X (i X)=X:=by intro X;kernel_rfl)(hn:(fn.name== "runtime.NumGoroutine")=false:=by kernel_rfl)(hl:jf (fn.body.getD .skip)=[gO fn 0]:=by kernel_rfl)(eP:an.cut=[]:=by kernel_rfl)(hF:∀a,L8 E S.g an (LG.nil.add (dV (gO fn 0)) (mkl d t i)) fn rs (jk s a)=F a:=by intro a;kernel_rfl):SG:=S.add (mD.of (ai5 S.s hf hn (E8.of (Fn.hF hl (cF (lk d t i w h1 h hw) nF)) eP)) hF)
def Ty (T:Nat):Shape:=(jU E.ty T).getD ⟨false,.bool,[]⟩
def kF (k:FK):CT->FT
 | .pair a b=> .pair (kF k a) (kF k b)
 | .sl e=> .sl k e
 | .int k=> .int k
 | .bool=> .bool
 | .str=> .str
def sF:Nat->CT->FT
 |n,.pair a b=> .pair (sF n a) (sF (n+3*a.size) b)
 |n,.sl e=> .sl (.own (some n)) e
 |_,.int k=> .int k
 |_,.bool=> .bool
 |_,.str=> .str
def sg (fn:Func):ar PS:=fn.params.toList.map λT=> .data (Ty T).agg (Ty T).ct
def rz (fn:Func):ar (Bool×FT):=fn.resultTypes.toList.map λT=>((Ty T).agg,kF (.own none) (Ty T).ct)
def Cu (R:Type):ar PS->Type
 |[]=>R
 | .data _ t::r=>t.D->Cu R r
 | .fn _::r=>Cu R r
def un:(s:ar PS)->Cu R s->Gu s->R
 |[],f,_=>f
 | .data _ _::r,f,a=>un r (f a.1) a.2
 | .fn _::r,f,a=>un r f a
def dT:ar PD->Nat->Type
 |[],_=>Unit
 | .data _ t::_,0=>t.ct.D
 |_::_,0=>Unit
 |_::r,n+1=>dT r n
def dG:(l:ar PD)->(n:Nat)->KJ l->dT l n
 |[],_,_=>()
 | .data _ _::_,0,x=>x.1
 | .bot::_,0,_=>()
 | .ptr _ _::_,0,_=>()
 | .fn _::_,0,_=>()
 | .data _ _::r,n+1,x=>dG r n x.2
 | .bot::r,n+1,x=>dG r n x
 | .ptr _ _::r,n+1,x=>dG r n x
 | .fn _::r,n+1,x=>dG r n x
def dP:(l:ar PD)->(n:Nat)->dT l n->KJ l->KJ l
 |[],_,_,x=>x
 | .data _ _::_,0,y,x=>(y,x.2)
 | .bot::_,0,_,x=>x
 | .ptr _ _::_,0,_,x=>x
 | .fn _::_,0,_,x=>x
 | .data _ _::r,n+1,y,x=>(x.1,dP r n y x.2)
 | .bot::r,n+1,y,x=>dP r n y x
 | .ptr _ _::r,n+1,y,x=>dP r n y x
 | .fn _::r,n+1,y,x=>dP r n y x
def bT:ar (au FT)->Nat->Type
 |[],_=>Unit
 |some t::_,0=>t.ct.D
 |none::_,0=>Unit
 |_::r,n+1=>bT r n
def bG:(l:ar (au FT))->(n:Nat)->JJ l->bT l n
 |[],_,_=>()
 |some _::_,0,x=>x.1
 |none::_,0,_=>()
 |some _::r,n+1,x=>bG r n x.2
 |none::r,n+1,x=>bG r n x
def bP:(l:ar (au FT))->(n:Nat)->bT l n->JJ l->JJ l
 |[],_,_,x=>x
 |some _::_,0,y,x=>(y,x.2)
 |none::_,0,_,x=>x
 |some _::r,n+1,y,x=>(x.1,bP r n y x.2)
 |none::r,n+1,y,x=>bP r n y x
def pk (d:SD)(i:Nat):Nat:=match nth d.slots i with
 |some (.data _ _)=>0
 |some _=>1
 |none=>2
def PK (d:SD)(i:Nat):Nat->Type
 |0=>dT d.slots i
 |1=>bT d.boxes i
 |_=>ioD d.io
abbrev PT (d:SD)(i:Nat):Type:=PK d i (pk d i)
def gK (d:SD)(i:Nat)(X:d.D):(k:Nat)->PK d i k
 |0=>dG d.slots i X.1
 |1=>bG d.boxes i X.2.1
 |_+2=>X.2.2
def pK (d:SD)(i:Nat)(X:d.D):(k:Nat)->PK d i k->d.D
 |0,y=>(dP d.slots i y X.1,X.2)
 |1,y=>(X.1,bP d.boxes i y X.2.1,X.2.2)
 |_+2,y=>(X.1,X.2.1,y)
def St (d:SD):ei->Type
 |[]=>Unit
 |[p]=>PT d p
 |p::q::r=>PT d p×St d (q::r)
def gS (d:SD)(X:d.D):(l:ei)->St d l
 |[]=>()
 |[p]=>gK d p X (pk d p)
 |p::q::r=>(gK d p X (pk d p),gS d X (q::r))
def pS (d:SD):(l:ei)->St d l->d.D->d.D
 |[],_,X=>X
 |[p],y,X=>pK d p X (pk d p) y
 |p::q::r,y,X=>pS d (q::r) y.2 (pK d p X (pk d p) y.1)
def Cv (d:SD)(R:Type):ei->Type
 |[]=>R
 |p::r=>PT d p->Cv d R r
def aV (d:SD)(X:d.D):(l:ei)->Cv d R l->R
 |[],f=>f
 |p::r,f=>aV d X r (f (gK d p X (pk d p)))
def cV (d:SD)(K:d.D->R):(l:ei)->d.D->Cv d R l
 |[],X=>K X
 |p::r,X=>λy=>cV d K r (pK d p X (pk d p) y)
def Cz (d:SD)(R:Type):ei->Type
 |[]=>Unit->R
 |p::r=>Cv d R (p::r)
def cZ (d:SD)(K:d.D->R):(l:ei)->d.D->Cz d R l
 |[],X=>λ_=>K X
 |p::r,X=>cV d K (p::r) X
def pls (d:SD):ei:=(List.range d.slots.length).filter (λi=>match nth d.slots i with|some (.data _ _)=>true|_=>false)++(List.range d.slots.length).filter (λi=>match nth d.boxes i with|some (some _)=>true|_=>false)++match d.io with| .some _=>[d.slots.length]|_=>[]
def kps (d:SD):ei:=(List.range d.slots.length).filter λi=>(match nth d.slots i with|some .bot=>false|_=>true)||match nth d.boxes i with|some (some _)=>true|_=>false
def TT (d:SD)(s:ei)(R:Type):ar (Ex×ei)->Type
 |[]=>Cv d ((St d s->au R)->St d s->au R) ((pls d).filter λi=> !s.contains i)
 |x::r=>Cz d (au R) x.2->TT d s R r
def tT (d:SD)(s:ei)(X:d.D)(K:zkk R):(l:ar (Ex×ei))->TT d s R l->(St d s->au R)->St d s->au R
 |[],f=>aV d X _ f
 |x::r,f=>tT d s X K r (f (cZ d (λY=>K x.1 (d.enc Y)) x.2 X))
structure LS (fn:Func) where (d:SD) (σ:Type) (t:{R:Type}->d.D->(Ex->AS->Option R)->(σ->Option R)->σ->Option R) (i:d.D->σ) (w:d.D->σ->d.D)
def fo (i:Nat):Code->au Oper
 | .region _ l _=>l.toList.find? λo=>match o.dst with|some j=>Nat.beq j i|none=>false
 | .seq a b=>match fo i a with|none=>fo i b|x=>x
 | .cond _ a b=>match fo i a with|none=>fo i b|x=>x
 | .block _ a=>fo i a
 | .loop a=>fo i a
 |_=>none
def kP (f:Nat->CT->FT)(fn:Func)(i:Nat):PD×au FT:=match fn.params[i]?,fo i (fn.body.getD .skip)with
 |some T,_=>(.data (Ty T).agg (f (12288*i) (Ty T).ct),none)
 |_,some o=>match o.op with
  | .alloc T=>(.ptr i 0,some (f (12288*i+1) (Ty T).ct))
  | .box T _=>(.ptr i 0,some (f (12288*i+1) (Ty T).ct))
  |_=>(.data (Ty o.type).agg (f (12288*i) (Ty o.type).ct),none)
 |_,_=>(.bot,none)
def dS (fn:Func)(a b:ei)(x:ar (Nat×PD×au FT))(io:IoD):SD:=
 let l:=(List.range fn.ntmps).map λi=>match x.lookup i with
  |some y=>y
  |none=>bif a.contains i then kP sF fn i else bif b.contains i then kP (λ_=>kF .arg) fn i else(.bot,none)
 ⟨l.map (·.1),l.map (·.2),io⟩
def ld {fn:Func}(a b s:ei)(T:∀R,A R)(l:ar (Ex×ei):=[(.exit 0,s)])(x:ar (Nat×PD×au FT):=[])(io:IoD:=.none)(h:∀R,A R=TT (dS fn a b x io) s R l:=by intro R;kernel_rfl):LS fn:=⟨dS fn a b x io,St (dS fn a b x io) s,λ{R} X K=>tT (dS fn a b x io) s X K l (cast (h R) (T R)),λX=>gS (dS fn a b x io) X s,λX y=>pS (dS fn a b x io) s y X⟩
structure CS (fn:Func) where (d:SD) (o:List Nat) (t:{R:Type}->d.D->(Ex->AS->Option R)->Option R)
def TC (d:SD)(R:Type):ar (Ex×ei)->Type
 |[]=>Cv d (au R) (pls d)
 |x::r=>Cz d (au R) x.2->TC d R r
def tC (d:SD)(X:d.D)(K:zkk R):(l:ar (Ex×ei))->TC d R l->au R
 |[],f=>aV d X _ f
 |x::r,f=>tC d X K r (f (cZ d (λY=>K x.1 (d.enc Y)) x.2 X))
def lc {fn:Func}(a b o:ei)(T:∀R,A R)(l:ar (Ex×ei))(x:ar (Nat×PD×au FT):=[])(io:IoD:=.none)(h:∀R,A R=TC (dS fn a b x io) R l:=by intro R;kernel_rfl):CS fn:=⟨dS fn a b x io,o,λ{R} X K=>tC (dS fn a b x io) X (λe s=>K e (s.mask o)) l (cast (h R) (T R))⟩
def cu:FT:=.pair (.sl .aoo (.int .u8)) (.pair (.int .i64) (.int .i64))
def lb {fn:Func}(a b s:ei)(T:∀R,A R)(l:ar (Ex×ei):=[(.exit 0,s)])(x:ar (Nat×PD×au FT):=[])(h:∀R,A R=TT (dS fn a b ((0,.ptr 0 0,some cu)::x) .ptr) s R l:=by intro R;kernel_rfl):LS fn:=ld a b s T l ((0,.ptr 0 0,some cu)::x) .ptr h
def lx {fn:Func}(a b o:ei)(T:∀R,A R)(l:ar (Ex×ei))(x:ar (Nat×PD×au FT):=[])(h:∀R,A R=TC (dS fn a b ((0,.ptr 0 0,some cu)::x) .ptr) R l:=by intro R;kernel_rfl):CS fn:=lc a b o T l ((0,.ptr 0 0,some cu)::x) .ptr h
section
variable (Γ:Cr) (an:An) (fn:Func)
def lac (c:ei):Nat->ar (CS fn)->LG
 |_,[]=>LG.nil
 |j,l::r=>(lac c (j+1) r).add (CD (HK c fn j)) (mkc l.d l.t)
def lam (B:LG):Nat->ar (LS fn)->LG
 |_,[]=>B
 |k,l::r=>(lam B (k+1) r).add (dV (gO fn k)) (mkl l.d l.t l.i)
def mac (c:ei)(n:Nat):Nat->ar (CS fn)->ei
 |_,[]=>[]
 |j,l::r=>bif Nat.beq n (CD (HK c fn j)) then kps l.d else bif Nat.beq n (CD (HK c fn j)+1) then l.o else mac c n (j+1) r
def msk (c:ei)(y:ar (CS fn))(n:Nat):Nat->ar (LS fn)->ei
 |_,[]=>mac fn c n 0 y
 |k,l::r=>bif Nat.beq n (dV (gO fn k)) then kps l.d else msk c y n (k+1) r
def wm (l:ar (LS fn))(y:ar (CS fn)):An:={an with mask:=λn=>msk fn an.cut y n 0 l}
def LL (Λ:LG):Nat->ar (LS fn)->Prop
 |_,[]=>True
 |k,l::r=>Λ (dV (gO fn k))=mkl l.d l.t l.i/\(∀(R:Type)(X:l.d.D)(K:zkk R)(m:Nat)(x:l.σ),Ff (an.mask (dV (gO fn k))) (den E Γ an Λ (gO fn k)) (m+1) (l.d.enc (l.w X x)) K=l.t X K (λy=>Ff (an.mask (dV (gO fn k))) (den E Γ an Λ (gO fn k)) m (l.d.enc (l.w X y)) K) x)/\(∀X,l.w X (l.i X)=X)/\LL Λ (k+1) r
def CC (Λ:LG):Nat->ar (CS fn)->Prop
 |_,[]=>True
 |k,l::r=>Λ (CD (HK an.cut fn k))=mkc l.d l.t/\(∀(R:Type)(X:l.d.D)(K:zkk R),l.t X K=den E Γ an Λ (HK an.cut fn k) (l.d.enc X) (λe st'=>K e (st'.mask (an.mask (CD (HK an.cut fn k)+1)))))/\CC Λ (k+1) r
def OK (l:ar (LS fn))(y:ar (CS fn)):Prop:=(fn.name== "runtime.NumGoroutine")=false/\jf (fn.body.getD .skip)=(List.range' 0 l.length).map (gO fn)/\mc an.cut (fn.body.getD .skip)=(List.range' 0 y.length).map (HK an.cut fn)/\LL Γ (wm an fn l y) fn (lam fn (lac fn an.cut 0 y) 0 l) 0 l/\CC Γ (wm an fn l y) fn (lam fn (lac fn an.cut 0 y) 0 l) 0 y
end
section
variable {Γ:Cr} {an:An} {fn:Func}
theorem LL.ok {Λ:LG}:∀{r:ar (LS fn)}{k:Nat},LL Γ an fn Λ k r->∀c∈(List.range' k r.length).map (gO fn),LOk E Γ an Λ c
 |[],_,_,_,h=>nomatch h
 |l::_,k,⟨h1,h2,h3,h4⟩,c,h=>by rcases cq.1 h with e|e;rw[e];exact lk l.d l.t l.i l.w h1 h2 h3;exact h4.ok c e
theorem CC.ok {Λ:LG}:∀{r:ar (CS fn)}{k:Nat},CC Γ an fn Λ k r->∀c∈(List.range' k r.length).map (HK an.cut fn),COk E Γ an Λ c
 |[],_,_,_,h=>nomatch h
 |l::_,k,⟨h1,h2,h3⟩,c,h=>by rcases cq.1 h with e|e;rw[e];exact ck l.d l.t h1 h2;exact h3.ok c e
theorem OK.all {l:ar (LS fn)}{y:ar (CS fn)}(h:OK Γ an fn l y):E8 E Γ (wm an fn l y) (lam fn (lac fn an.cut 0 y) 0 l) (fn.body.getD .skip):=⟨Fn.hF h.2.1 h.2.2.2.1.ok,Fn.hF h.2.2.1 h.2.2.2.2.ok⟩
end
section
variable (S:SG) {f:Nat} {fn:Func} (an:An) (hf:Tryz.prog.funcs[f]?=some fn)
variable {A:Type}
noncomputable def SG.q (F:A)(l:ar (LS fn):=[])(y:ar (CS fn):=[])(rs:ar (Bool×FT):=rz fn)(hA:A=Cu (au (jh rs)) (sg fn):=by kernel_rfl)(h:OK S.g an fn l y:=by repeat' (first|exact trivial|apply And.intro|(intros;kernel_rfl)))(hF:∀a,L8 E S.g (wm an fn l y) (lam fn (lac fn an.cut 0 y) 0 l) fn rs (jk (sg fn) a)=un (sg fn) (cast hA F) a:=by intro a;kernel_rfl):SG:=
 S.add (mD.of (F:=un (sg fn) (cast hA F)) (ai5 S.s hf h.1 h.all) hF)
noncomputable def SG.b (F:A)(l:ar (LS fn):=[])(y:ar (CS fn):=[])(t:FT:=cu)(rs:ar (Bool×FT):=rz fn)(hA:A=(t.ct.D->Cu (au (jh rs×t.ct.D)) (sg fn).tail):=by kernel_rfl)(h:OK S.g an fn l y:=by repeat' (first|exact trivial|apply And.intro|(intros;kernel_rfl)))(hF:∀x a,Z3 E S.g (wm an fn l y) (lam fn (lac fn an.cut 0 y) 0 l) fn rs t (.val true (jW t x)::jk (sg fn).tail a)=un (sg fn).tail (cast hA F x) a:=by intro x a;kernel_rfl):SG:=
 S.add (mD.ar3 (F:=λx a=>un (sg fn).tail (cast hA F x) a) (ars S.s hf h.1 h.all) hF)
noncomputable def SG.i (F:A)(l:ar (LS fn):=[])(y:ar (CS fn):=[])(rs:ar (Bool×FT):=rz fn)(t:Nat:=fn.params.getD 0 0)(hA:A=((Ty t).ct.D->Cu (au (jh rs×(Ty t).ct.D)) (sg fn).tail):=by kernel_rfl)(h:OK S.g an fn l y:=by repeat' (first|exact trivial|apply And.intro|(intros;kernel_rfl)))(hF:∀x a,afs E S.g (wm an fn l y) (lam fn (lac fn an.cut 0 y) 0 l) fn rs (Ty t).ct (.val (Ty t).agg (cellsOf (Ty t).ct (.own none) x)::jk (sg fn).tail a)=un (sg fn).tail (cast hA F x) a:=by intro x a;kernel_rfl):SG:=
 S.add (mD.aAw (F:=λx a=>un (sg fn).tail (cast hA F x) a) (azP S.s hf h.1 h.all) hF)
noncomputable def SG.n (F:A)(t:FT)(l:ar (LS fn):=[])(y:ar (CS fn):=[])(hA:A=Cu (au t.ct.D) (sg fn):=by kernel_rfl)(h:OK S.g an fn l y:=by repeat' (first|exact trivial|apply And.intro|(intros;kernel_rfl)))(hF:∀a,T7 E S.g (wm an fn l y) (lam fn (lac fn an.cut 0 y) 0 l) fn t (jk (sg fn) a)=un (sg fn) (cast hA F) a:=by intro a;kernel_rfl):SG:=
 S.add (mD.ar4 (F:=un (sg fn) (cast hA F)) (art S.s hf h.1 h.all) hF)
noncomputable def SG.v (F:A)(TP:ar (Bool×FT))(l:ar (LS fn):=[])(y:ar (CS fn):=[])(rs:ar (Bool×FT):=rz fn)(h2:jh TP=jh rs:=by kernel_rfl)(hA:A=Cu (au (Bool×jh rs)) (sg fn):=by kernel_rfl)(h:OK S.g an fn l y:=by repeat' (first|exact trivial|apply And.intro|(intros;kernel_rfl)))(hF:∀a,evalAlt E S.g (wm an fn l y) (lam fn (lac fn an.cut 0 y) 0 l) fn rs TP h2 (jk (sg fn) a)=un (sg fn) (cast hA F) a:=by intro a;kernel_rfl):SG:=
 S.add (mD.ofAlt (h2:=h2) (F:=un (sg fn) (cast hA F)) (alU h2 S.s hf h.1 h.all) hF)
end
variable {R:Type}
def G30:=G0.q {} func30 oh
def G31:=G30.q {} func31 qp [ld [1,4,5] [0] [1,5] @H6 [(.exit 0,[1,5]),(.ret,[1,4,5])]]
def at0:=G31.q {} func210 DC
def at1:=at0.q {} func211 E0
def awf:=at1.q {} func348 zN
def aym:=awf.q {} func481 En
def awg:=aym.q {} func349 Km [ld [1,4,5] [0] [1,5] @Lq [(.exit 0,[1,5]),(.ret,[1,4,5])]]
def at2:=awg.q {} func212 BH
def avA:=at2.q {} func307 BG
def atn:=avA.q {} func172 xU
def ayn:=atn.q {} func482 FI
def awh:=ayn.q {} func350 vl
def at3:=awh.q {} func213 E1 [ld [1,4,5] [0] [1,5] @Hb [(.exit 0,[1,5]),(.ret,[1,4,5])]]
def at4:=at3.q {} func214 Kk [ld [1,4,5] [0] [1,5] @Lp [(.exit 0,[1,5]),(.ret,[1,4,5])]]
def at5:=at4.q {} func215 Hd
def at6:=at5.q {} func216 Ki
def at7:=at6.q {} func217 xT
def awi:=at7.q {} func351 Kl
def ayo:=awi.q {} func483 Kn
def awj:=ayo.q {} func352 wD
def awk:=awj.q {} func353 DD
def at8:=awk.q {} func218 yI
def awl:=at8.q {} func354 xV
def at9:=awl.q {} func219 Hc [ld [1,4,5] [0] [1,5] @H5 [(.exit 0,[1,5]),(.ret,[1,4,5])]]
def G99:=at9.q {} func99 Em
def G26:=G99.q {} func26 Kj [ld [1,4,5] [0] [1,5] @Lo [(.exit 0,[1,5]),(.ret,[1,4,5])]]
def G27:=G26.q {} func27 qq
def asc:=G27.q {} func100 vk
def G28:=asc.q {} func28 EZ [ld [1,4,5] [0] [1,5] @Ha [(.exit 0,[1,5]),(.ret,[1,4,5])]]
def G29:=G28.q {} func29 FG
def G6:=G29.q {} func6 H4
def G44:=G6.q {mv:=[21]} func44 om [ld [3,4] [0] [3,4] @Mz]
def G45:=G44.q {mv:=[21]} func45 qw [ld [3,4] [0] [3,4] @Ib]
def auD:=G45.q {mv:=[8]} func248 xW
def awJ:=auD.q {} func378 BJ
def auE:=awJ.q {mv:=[22]} func249 E4 [ld [3,4] [0] [3,4] @Hh]
def awK:=auE.q {} func379 H8
def awL:=awK.q {mv:=[17]} func380 vm
def ayB:=awL.q {mv:=[14]} func496 zP
def awM:=ayB.q {mv:=[22]} func381 Ku [ld [3,4] [0] [3,4] @Lv]
def auF:=awM.q {mv:=[19]} func250 vn
def ayC:=auF.q {} func497 me
def avX:=ayC.q {} func330 Hk
def atD:=avX.q {} func188 sV
def ayD:=atD.q {} func498 BK
def awN:=ayD.q {} func382 qv
def auG:=awN.q {mv:=[22]} func251 E5 [ld [3,4] [0] [3,4] @Hj]
def auH:=auG.q {mv:=[22]} func252 Ks [ld [3,4] [0] [3,4] @Lt]
def awO:=auH.q {} func383 DE
def auI:=awO.q {mv:=[22]} func253 Hm [ld [3,4] [0] [3,4] @Ic]
def auJ:=auI.q {mv:=[21]} func254 Ko [ld [3,4] [0] [3,4] @Lr]
def auK:=auJ.q {mv:=[14]} func255 sU
def ayE:=auK.q {} func499 H9
def awP:=ayE.q {mv:=[22]} func384 Kt [ld [3,4] [0] [3,4] @Lu]
def ayG:=awP.q {} func501 H7
def azp:=ayG.q {} func547 zQ
def ayF:=azp.q {mv:=[22]} func500 Kv [ld [3,4] [0] [3,4] @Lw]
def awQ:=ayF.q {mv:=[8]} func385 qt
def awR:=awQ.q {mv:=[11]} func386 xX
def auL:=awR.q {mv:=[16]} func256 sB
def awS:=auL.q {} func387 sW
def auM:=awS.q {mv:=[22]} func257 Hl [ld [3,4] [0] [3,4] @Ia]
def auN:=auM.q {} func258 E2
def asy:=auN.q {mv:=[63]} func121 zO
def G39:=asy.q {mv:=[22]} func39 Kr [ld [3,4] [0] [3,4] @Ls]
def auO:=G39.q {} func259 IE
def asz:=auO.q {} func122 iu
def G40:=asz.q {mv:=[22]} func40 qx [ld [3,4] [0] [3,4] @vo]
def asA:=G40.q {mv:=[17]} func123 qu
def G41:=asA.q {mv:=[22]} func41 E3 [ld [3,4] [0] [3,4] @Hg]
def G42:=G41.q {mv:=[8]} func42 BI
def G43:=G42.q {} func43 Kq
def G8:=G43.q {mv:=[32]} func8 rf
def G21:=G8.q {} func21 jG [ld [4,5] [0,1] [5] @My [(.exit 0,[5]),(.ret,[4,5])]]
def G60:=G21.q {} func60 ql [ld [4,5] [0,1] [5] @H2 [(.exit 0,[5]),(.ret,[4,5])]]
def avo:=G60.q {} func295 Dz
def axt:=avo.q {} func424 uX
def avp:=axt.q {} func296 EW [ld [4,5] [0,1] [5] @GY [(.exit 0,[5]),(.ret,[4,5])]]
def axu:=avp.q {} func425 Ei
def axv:=axu.q {} func426 zM
def ayU:=axv.q {} func516 Ek
def axw:=ayU.q {} func427 Kf [ld [4,5] [0,1] [5] @Lm [(.exit 0,[5]),(.ret,[4,5])]]
def avq:=axw.q {} func297 Bf
def ayV:=avq.q {} func517 jq
def ayl:=ayV.q {} func480 Be
def awe:=ayl.q {} func347 xP
def ayW:=awe.q {} func518 FF
def axx:=ayW.q {} func428 uY
def avr:=axx.q {} func298 EX [ld [4,5] [0,1] [5] @GZ [(.exit 0,[5]),(.ret,[4,5])]]
def avs:=avr.q {} func299 Kd [ld [4,5] [0,1] [5] @Lk [(.exit 0,[5]),(.ret,[4,5])]]
def axy:=avs.q {} func429 xR
def avt:=axy.q {} func300 G2 [ld [4,5] [0,1] [5] @H3 [(.exit 0,[5]),(.ret,[4,5])]]
def avu:=avt.q {} func301 Kb [ld [4,5] [0,1] [5] @Li [(.exit 0,[5]),(.ret,[4,5])]]
def avv:=avu.q {} func302 xO
def ayX:=avv.q {} func519 Ej
def axz:=ayX.q {} func430 Ke [ld [4,5] [0,1] [5] @Ll [(.exit 0,[5]),(.ret,[4,5])]]
def ayZ:=axz.q {} func521 Eg
def azt:=ayZ.q {} func551 El
def ayY:=azt.q {} func520 Kg [ld [4,5] [0,1] [5] @Ln [(.exit 0,[5]),(.ret,[4,5])]]
def axA:=ayY.q {} func431 wx
def axB:=axA.q {} func432 DA
def avw:=axB.q {} func303 yH
def axC:=avw.q {} func433 xQ
def avx:=axC.q {} func304 G1 [ld [4,5] [0,1] [5] @H0 [(.exit 0,[5]),(.ret,[4,5])]]
def avy:=avx.q {} func305 yG
def as2:=avy.q {} func151 Eh
def G55:=as2.q {} func55 Kc [ld [4,5] [0,1] [5] @Lj [(.exit 0,[5]),(.ret,[4,5])]]
def avz:=G55.q {} func306 Dy
def as3:=avz.q {} func152 jr
def G56:=as3.q {} func56 qm [ld [4,5] [0,1] [5] @uZ [(.exit 0,[5]),(.ret,[4,5])]]
def as4:=G56.q {} func153 uW
def G57:=as4.q {} func57 EV [ld [4,5] [0,1] [5] @GX [(.exit 0,[5]),(.ret,[4,5])]]
def G58:=G57.q {} func58 FE
def G59:=G58.q {} func59 FD
def G10:=G59.q {} func10 uU
def G24:=G10.i {} func24 ed [ld [1,5] [] [0,1,5,19] @qo [(.exit 0,[0,1,5,19])] [(0,.data false (.sl (.lio 0 12288036864) (.int .i64)),Z)] (.some (.sl (.own (some 12288036864)) (.int .i64)))]
def G98:=G24.q {} func98 cf [ld [0,3] [] [0,3] @wB]
def G65:=G98.i {} func65 ja [ld [1,5] [] [0,1,5,20] @lR [(.exit 0,[0,1,5,20])] [(0,.data false (.sl (.lio 0 12288036864) .str),Z)] (.some (.sl (.own (some 12288036864)) .str))]
def as5:=G65.i {} func154 tU [ld [1,5] [] [0,1,5,43] @vh [(.exit 0,[0,1,5,43])] [(0,.data false (.sl (.lio 0 12288036864) eG),Z)] (.some (.sl (.own (some 12288036864)) eG))]
def as6:=as5.i {nest:=[30]} func155 BC [ld [1,5] [] [0,1,5,34] @BD [(.exit 0,[0,1,5,34])] [(0,.data false (.sl (.lio 0 12288036864) kZ),Z)] (.some (.sl (.own (some 12288036864)) kZ))]
def as7:=as6.i {} func156 tV [ld [1,5] [] [0,1,5,278] @vi [(.exit 0,[0,1,5,278])] [(0,.data false (.sl (.lio 0 12288036864) dR),Z)] (.some (.sl (.own (some 12288036864)) dR))]
def as8:=as7.i {nest:=[37]} func157 Bx [ld [1,5] [] [0,1,5,41] @Bz [(.exit 0,[0,1,5,41])] [(0,.data false (.sl (.lio 0 12288036864) jT),Z)] (.some (.sl (.own (some 12288036864)) jT))]
def as9:=as8.i {} func158 wC [ld [1,5] [] [0,1,5,59] @xu [(.exit 0,[0,1,5,59])] [(0,.data false (.sl (.lio 0 12288036864) gZ),Z)] (.some (.sl (.own (some 12288036864)) gZ))]
def ata:=as9.i {} func159 Bs [ld [1,5] [] [0,1,5,21] @og [(.exit 0,[0,1,5,21])] [(0,.data false (.sl (.lio 0 12288036864) .bool),Z)] (.some (.sl (.own (some 12288036864)) .bool))]
def atb:=ata.i {} func160 BA [ld [1,5] [] [0,1,5,76] @BB [(.exit 0,[0,1,5,76])] [(0,.data false (.sl (.lio 0 12288036864) tu),Z)] (.some (.sl (.own (some 12288036864)) tu))]
def atc:=atb.i {} func161 BE [ld [1,5] [] [0,1,5,67] @BF [(.exit 0,[0,1,5,67])] [(0,.data false (.sl (.lio 0 12288036864) np),Z)] (.some (.sl (.own (some 12288036864)) np))]
def atd:=atc.i {} func162 wA [ld [1,5] [] [0,1,5,77] @xt [(.exit 0,[0,1,5,77])] [(0,.data false (.sl (.lio 0 12288036864) eD),Z)] (.some (.sl (.own (some 12288036864)) eD))]
def G61:=atd.i {nest:=[17,24,96,104,119,126,133,140,166,174,183,202,209,225,232,239]} func61 G4 [ld [1,5] [] [0,1,5,283] @Bv [(.exit 0,[0,1,5,283])] [(0,.data false (.sl (.lio 0 12288036864) cS),Z)] (.some (.sl (.own (some 12288036864)) cS))]
def G62:=G61.i {} func62 nt [ld [1,5] [] [0,1,5,74] @lE [(.exit 0,[0,1,5,74])] [(0,.data false (.sl (.lio 0 12288036864) cA),Z)] (.some (.sl (.own (some 12288036864)) cA))]
def G63:=G62.i {nest:=[35]} func63 Bw [ld [1,5] [] [0,1,5,60] @vg [(.exit 0,[0,1,5,60])] [(0,.data false (.sl (.lio 0 12288036864) fQ),Z)] (.some (.sl (.own (some 12288036864)) fQ))]
def G64:=G63.i {} func64 Bu
def G11:=G64.i {} func11 xS
def G25:=G11.q {} func25 dQ [ld [1,4,5] [0] [1,5] @qn [(.exit 0,[1,5]),(.ret,[1,4,5])]]
def G70:=G25.q {} func70 iZ [ld [1,4,5] [0] [1,5] @lQ [(.exit 0,[1,5]),(.ret,[1,4,5])]]
def ate:=G70.q {} func163 tR [ld [1,4,5] [0] [1,5] @vd [(.exit 0,[1,5]),(.ret,[1,4,5])]]
def atf:=ate.q {} func164 Bo [ld [1,4,5] [0] [1,5] @Bp [(.exit 0,[1,5]),(.ret,[1,4,5])]]
def atg:=atf.q {} func165 tS [ld [1,4,5] [0] [1,5] @ve [(.exit 0,[1,5]),(.ret,[1,4,5])]]
def ath:=atg.q {} func166 Bk [ld [1,4,5] [0] [1,5] @Bl [(.exit 0,[1,5]),(.ret,[1,4,5])]]
def ati:=ath.q {} func167 wz [ld [1,4,5] [0] [1,5] @xr [(.exit 0,[1,5]),(.ret,[1,4,5])]]
def atj:=ati.q {} func168 Bg [ld [1,4,5] [0] [1,5] @oe [(.exit 0,[1,5]),(.ret,[1,4,5])]]
def atk:=atj.q {} func169 Bm [ld [1,4,5] [0] [1,5] @Bn [(.exit 0,[1,5]),(.ret,[1,4,5])]]
def atl:=atk.q {} func170 Bq [ld [1,4,5] [0] [1,5] @Br [(.exit 0,[1,5]),(.ret,[1,4,5])]]
def atm:=atl.q {} func171 wy [ld [1,4,5] [0] [1,5] @xq [(.exit 0,[1,5]),(.ret,[1,4,5])]]
def G66:=atm.q {} func66 G3 [ld [1,4,5] [0] [1,5] @Bi [(.exit 0,[1,5]),(.ret,[1,4,5])]]
def G67:=G66.q {} func67 ns [ld [1,4,5] [0] [1,5] @lD [(.exit 0,[1,5]),(.ret,[1,4,5])]]
def G68:=G67.q {} func68 Bj [ld [1,4,5] [0] [1,5] @vc [(.exit 0,[1,5]),(.ret,[1,4,5])]]
def G69:=G68.q {} func69 Bh
def G12:=G69.q {} func12 sT
def G71:=G12.q {} func71 Kh
def G13:=G71.q {} func13 vj
def G17:=G13.q {} func17 EY [ld [1,4,5] [0] [1,5] @G5 [(.exit 0,[1,5]),(.ret,[1,4,5])]]
def atp:=G17.q {sb:=mg [(2,2)]} func174 gQ
def aua:=atp.q {} func220 dH
def auc:=aua.q {sb:=mg [(2,2)]} func222 kD
def aub:=auc.q {mv:=[27,40],mb:=mg [(27,3)],sb:=mg [(3,3),(39,3)]} func221 kE [ld [2,3,4] [1] [4,3] @yY]
def awm:=aub.q {} func355 F1
def aud:=awm.q {sb:=mg [(2,2)]} func223 F3
def asd:=aud.q {mv:=[34,82],mb:=mg [(34,3)],sb:=mg [(43,3)]} func101 iR [ld [2,4] [1] [4,3] @za [(.exit 0,[4,3])] [(3,.ptr 3 0,some Y1)]]
def ase:=asd.q {mv:=[7]} func102 sc
def G32:=ase.q {mv:=[35,53,63],mb:=mg [(35,3),(53,3)],sb:=mg [(3,3),(44,3),(62,3)]} func32 ml [ld [2,3,4] [1] [4,3] @zd,ld [2,3,5] [1] [5,3] @ze [(.exit 2,[5,3])]]
def G73:=G32.q {merge:=mg [(1,6)]} func73 aI
def aui:=G73.q {merge:=mg [(4,35),(6,2)]} func228 gz [ld [2,3] [1] [3] @wM [(.exit 0,[3]),(.ret,[2,3])]]
def asn:=aui.q {merge:=mg [(1,2)]} func110 vA
def auq:=asn.q {} func236 jc [ld [1,4,5] [0] [5] @Cg [(.exit 0,[5]),(.ret,[4,5])]]
def aso:=auq.q {merge:=mg [(7,37)],mv:=[55]} func111 yp [ld [5,6] [1] [5,6] @qX,ld [5,6,7] [1] [7] @xg [(.exit 2,[7])]]
def asp:=aso.q {} func112 oF [ld [2,3] [0] [3] @yN [(.exit 0,[3]),(.ret,[2,3])],ld [2,3,4] [0] [4] @yO [(.exit 2,[4]),(.ret,[2,4])]]
def G35:=asp.q {mv:=[41,63]} func35 rR [ld [2,3,4,5] [0] [4,5] @sJ [(.exit 0,[4,5]),(.ret,[2,3,4,5])]]
def aue:=G35.q {merge:=mg [(1,2)]} func224 ta
def asf:=aue.q {merge:=mg [(7,51),(12,74)]} func103 qP [ld [4,5] [0,1] [5] @pC [(.exit 0,[5]),(.ret,[4,5])],ld [4,5,6,7] [0,1] [7] @oA [(.exit 2,[7]),(.ret,[4,7])]]
def atr:=asf.q {merge:=mg [(1,2)]} func176 wN
def axE:=atr.q {merge:=mg [(1,6)]} func435 qW
def awA:=axE.q {} func369 eJ
def avF:=awA.q {} func312 gJ
def awz:=avF.q {} func368 Hx [ld [0,3,4] [] [3,4] @yh,ld [0,3,4,5] [] [3,5] @tc [(.exit 2,[3,5])]]
def awE:=awz.q {} func373 eT
def avG:=awE.q {merge:=mg [(1,15)]} func313 B5
def ats:=avG.q {merge:=mg [(2,17),(5,37)]} func177 jt
def asg:=ats.q {merge:=mg [(5,23)]} func104 sZ
def ash:=asg.q {merge:=mg [(1,2)]} func105 wK
def auf:=ash.q {} func225 td [ld [2,3] [1] [3] @wR [(.exit 0,[3]),(.ret,[2,3])]]
def aug:=auf.q {merge:=mg [(7,34),(12,57)]} func226 sH [ld [2,3] [0] [3] @rP [(.exit 0,[3]),(.ret,[2,3])],ld [2,3,4,5] [0] [5] @pE [(.exit 2,[5]),(.ret,[2,5])]]
def aul:=aug.q {merge:=mg [(1,20),(7,50)]} func231 jK [ld [2,3,4] [1] [3,4] @B7 [(.exit 0,[3,4]),(.ret,[2,3,4])]]
def aup:=aul.q {merge:=mg [(3,21)],mv:=[10,24]} func235 iy
def ayp:=aup.q {merge:=mg [(1,2)]} func484 xe
def awt:=ayp.q {} func362 kB
def awn:=awt.q {merge:=mg [(1,2)]} func356 kV
def auh:=awn.q {merge:=mg [(1,24),(9,50),(14,2)],mv:=[55]} func227 Gr [ld [2,3,4,5] [1] [3,4,5] @Cd [(.exit 0,[3,4,5]),(.ret,[2,3,4,5])]]
def ayq:=auh.q {merge:=mg [(1,33),(3,54),(5,2)]} func485 oG
def awo:=ayq.q {} func357 B9 [ld [2,3] [0] [3] @E6 [(.exit 0,[3]),(.ret,[2,3])]]
def azn:=awo.q {} func545 DR [ld [3,4,5] [] [3,5] @qQ]
def ayr:=azn.q {merge:=mg [(7,39)]} func486 F2 [ld [3,4,5] [2] [5] @yV [(.exit 0,[5]),(.ret,[4,5])]]
def awp:=ayr.q {merge:=mg [(7,30),(10,42)]} func358 Cb [ld [2,3] [1] [3] @yT [(.exit 0,[3]),(.ret,[2,3])]]
def ays:=awp.q {merge:=mg [(1,2)]} func487 F0
def awq:=ays.q {merge:=mg [(1,21)]} func359 ym [ld [1,4,5] [2] [5] @wV [(.exit 0,[5]),(.ret,[4,5])]]
def auj:=awq.q {merge:=mg [(1,23)]} func229 sL [ld [1,4,5] [2] [5] @rY [(.exit 0,[5]),(.ret,[4,5])],ld [1,4,6] [2] [6] @zx [(.exit 2,[6]),(.ret,[4,6])]]
def awC:=auj.q {merge:=mg [(1,18),(4,2),(5,2)]} func371 vB
def auv:=awC.q {merge:=mg [(1,55),(3,3),(4,2)]} func241 gP
def awr:=auv.q {merge:=mg [(1,2)]} func360 rU
def auk:=awr.q {merge:=mg [(1,42),(5,2)]} func230 C1
def aws:=auk.q {merge:=mg [(1,2)]} func361 vC
def aum:=aws.q {merge:=mg [(1,24),(3,2)]} func232 kC
def asi:=aum.q {merge:=mg [(2,64),(7,94)]} func106 jJ [ld [2,3,4] [1] [4] @B0 [(.exit 0,[4]),(.ret,[2,4])],ld [2,5,6] [] [6] @yM [(.exit 2,[6]),(.ret,[2,6])]]
def aun:=asi.q {} func233 Q5 [ld [4,5] [0,1] [5] @LC [(.exit 0,[5]),(.ret,[4,5])]]
def asj:=aun.q {merge:=mg [(1,4)]} func107 zy
def G33:=asj.q {merge:=mg [(3,50),(8,99)]} func33 ox [ld [2,5,6] [1] [6] @BV [(.exit 0,[6]),(.ret,[2,6])]]
def awB:=G33.q {merge:=mg [(1,2)]} func370 C0
def aus:=awB.q {sb:=mg [(4,4)]} func238 DU
def avD:=aus.q {} func310 eF
def awD:=avD.q {} func372 cj
def azo:=awD.q {merge:=mg [(1,12)]} func546 rK
def ayz:=azo.q {} func494 DZ [ld [0,3,4] [] [3,4] @wZ]
def awG:=ayz.q {} func375 mu
def ayA:=awG.q {merge:=mg [(1,2)]} func495 NI
def awH:=ayA.q {} func376 DT
def auy:=awH.q {} func243 BT
def aut:=auy.q {merge:=mg [(2,22),(6,56)],sb:=mg [(5,5)]} func239 FY
def awF:=aut.q {merge:=mg [(1,27)]} func374 lr
def auw:=awF.q {merge:=mg [(14,82)]} func242 lp
def auu:=auw.q {merge:=mg [(3,20),(9,44),(12,68)]} func240 uh
def asr:=auu.q {merge:=mg [(2,20)]} func114 ju
def ay2:=asr.q {merge:=mg [(4,42)]} func524 F4 [ld [1,2,3,8,9] [0] [9] @yW [(.exit 0,[9]),(.ret,[8,9])]]
def ay3:=ay2.q {merge:=mg [(2,6)]} func525 mT
def axH:=ay3.q {merge:=mg [(3,34),(10,57)],mv:=[35,36,64,71,81,82]} func438 yn [ld [2,3,4,5,12,13,14,15,16] [0,7] [3,4,15,16] @mC [(.exit 0,[3,4,15,16]),(.ret,[3,4,12,13,14,15,16])]]
def axI:=axH.q {} func439 sK [ld [1,2,8] [3] [1,2,8] @rV]
def avJ:=axI.q {} func316 rM [ld [15,16] [6] [15,16] @yL [(.exit 0,[15,16])] [(12,.data false (.sl .loc (.int .i64)),Z),(13,.data false (.sl .loc (.int .i64)),Z)]]
def ay4:=avJ.q {merge:=mg [(1,11)]} func526 qV
def ax1:=ay4.q {merge:=mg [(1,20)],sb:=mg [(9,9)]} func458 yl
def ay5:=ax1.q {merge:=mg [(1,2)]} func527 vx
def axN:=ay5.q {} func444 nJ
def ayt:=axN.q {sb:=mg [(4,4)]} func488 sG
def awu:=ayt.q {merge:=mg [(2,25),(7,50),(12,69)],mv:=[26,57,70],sb:=mg [(9,9)]} func363 Cc [ld [2,7,8,9,10,11] [0,5] [11,7] @oJ [(.exit 0,[11,7]),(.ret,[8,10,11,7,9])]]
def ayv:=awu.q {merge:=mg [(4,24)]} func490 DV [ld [2,3] [0] [3] @wS [(.exit 0,[3]),(.ret,[2,3])]]
def axS:=ayv.q {merge:=mg [(2,33)],mv:=[63,67],sb:=mg [(9,9)]} func449 lT [ld [2,6,7,8] [0] [7,8] @mi [(.exit 0,[7,8]),(.ret,[6,7,8])]]
def ayu:=axS.q {} func489 F5 [ld [4,5] [0,1] [5] @yX [(.exit 0,[5]),(.ret,[4,5])]]
def awv:=ayu.q {merge:=mg [(6,46)],mv:=[15,48]} func364 rQ [ld [6,7] [0] [6,7] @nh]
def aww:=awv.q {} func365 ub [ld [2,8,9,10,11] [0,3,5] [10,11] @oB [(.exit 0,[10,11]),(.ret,[8,9,10,11])]]
def awI:=aww.q {} func377 jL
def auz:=awI.q {} func244 DJ
def avE:=auz.q {} func311 mj [ld [0,1,5,6] [] [5,6] @nK]
def auA:=avE.q {} func245 FX
def ast:=auA.q {} func116 ic
def ayw:=ast.q {} func491 Cf
def axP:=ayw.q {} func446 oU
def awx:=axP.q {merge:=mg [(2,36),(7,61),(12,98)]} func366 DM
def ass:=awx.q {merge:=mg [(1,2)]} func115 kA
def aur:=ass.q {} func237 Ce
def auB:=aur.q {} func246 sE
def ayx:=auB.q {mv:=[23,27]} func492 DQ [ld [3,4] [0] [3,4] @qO]
def ayy:=ayx.q {merge:=mg [(2,17),(5,31)],mv:=[18,32,87,91]} func493 KP [ld [1,2,5,6,7] [] [5,7] @DY]
def awy:=ayy.q {} func367 yR
def auo:=awy.q {merge:=mg [(2,31),(6,55),(11,85)],mv:=[33,57,87],sb:=mg [(8,8)]} func234 uk
abbrev aqe:SD:=⟨fG (zsa eG)::B::DI::B::B::.ptr 5 0::B::.ptr 7 0::.ptr 8 0::fG (Rp 110592 .str)::DI::DI::fG (Rp 147456 .str)::DI::DI::bs 29 [],zs 5 ((zsm (zsa .str))::Z::(some Y0)::(some Y0)::zs 35 []),.none⟩
abbrev aiP:SD:=⟨fG (zsa eG)::B::DI::B::B::.ptr 5 0::B::.ptr 7 0::.ptr 8 0::fG (Rp 110592 .str)::DI::DI::fG (.sl .loc .str)::DI::DI::bs 29 [],zs 5 ((zsm (zsa .str))::Z::(some Y0)::(some Y0)::zs 35 []),.none⟩
def asl:=auo.q1 {mask:=mk [(4,[0,2,5,7,8,9,10,11,12,13,14])],mv:=[31,35]} func108 [pd (.sl eG),pf (.sl .str),pI,pf zg] [(true,Y0),(false,(.sl (.own none) .str)),rI,rI] (c4 xb) aqe (λX K=>pG (λy0 y1 y2 y3 y4 y5 y6 y7=>kr K aiP ((X.1.1,(X.1.2.1,(y0,(y1,(y2,(y3,(y4,(y5,())))))))),(X.2.1.1,(y6,(y7,()))),())) X.1.1 X.1.2.1 (q2 X) (q3 X) (q4 X) X.2.1.1 X.2.1.2.2.1) (λX=>(q5 X,q6 X,q7 X,X.2.1.2.1)) (λX x=>((z5 (w x.1 (w x.2.1 (u x.2.2.1))) X.1),(z1 (u x.2.2.2) X.2.1),X.2.2))
def asm:=asl.q {merge:=mg [(3,22)],mv:=[23,24,30,39,49,53,55,57,58],sb:=mg [(51,6)]} func109 oy [ld [1,4,6,7,8] [2] [7,8,6] @lq]
def G34:=asm.q {mv:=[15,33,37,51,54,58]} func34 oD
def asq:=G34.q {merge:=mg [(1,16)]} func113 DK
def G36:=asq.q {} func36 qU
def asu:=G36.q {merge:=mg [(1,15)]} func117 wU
def asv:=asu.q {merge:=mg [(1,23),(6,61)]} func118 qK
def asw:=asv.q {merge:=mg [(14,62)],mv:=[19,63,67]} func119 oH [ld [1,5,7,8,9,10] [0] [9,10] @oI,ld [1,5,7,8,9,11] [0] [7,11] @ni [(.exit 2,[7,11])]]
def G37:=asw.q {merge:=mg [(2,37),(6,76)],mv:=[38,87,104]} func37 DX
def avQ:=G37.q {merge:=mg [(1,4)]} func323 FR
def axJ:=avQ.q {} func440 zZ
def azu:=axJ.q {merge:=mg [(1,4)]} func552 E7
def ay7:=azu.q {merge:=mg [(1,4)]} func529 wT
def axU:=ay7.q {merge:=mg [(3,14),(5,39)]} func451 DP [ld [3,5,6] [0] [5,6] @qM]
def axV:=axU.q {} func452 DN
def azD:=axV.q {} func561 EA
def azE:=azD.q {merge:=mg [(1,14)]} func562 B4 [ld [0,1,5,6] [] [5,6] @ug]
def azx:=azE.q {merge:=mg [(1,14)]} func555 BW [ld [0,1,5,6] [] [5,6] @uc]
def azy:=azx.q {} func556 BX
def azb:=azy.q {} func533 yj
def ay8:=azb.q {merge:=mg [(2,17)]} func530 FW
def axW:=ay8.q {merge:=mg [(2,18)]} func453 wW
def avR:=axW.q {merge:=mg [(1,17)]} func324 wX
def ay6:=avR.q {mv:=[19,52]} func528 xd [ld [1,2,6,8] [] [1,2,8] @pH]
def axO:=ay6.q {mv:=[32,39,52,60],sb:=mg [(15,15)]} func445 oT [ld [4,10,15,16] [] [4,16,15] @qI [(.exit 0,[4,16,15])] [(12,.data false (.sl .loc (.int .i64)),Z),(13,.data false (.sl .loc (.int .i64)),Z)]]
def axG:=axO.q {} func437 yo
def azv:=axG.q {merge:=mg [(1,2)]} func553 oz
def azw:=azv.q {merge:=mg [(1,12)]} func554 ng
def aza:=azw.q {merge:=mg [(1,22)],mv:=[26,44,59],mb:=mg [(59,13)],sb:=mg [(10,10),(11,11),(13,13)]} func532 rT
def ax2:=aza.q {merge:=mg [(3,46)],mv:=[90],sb:=mg [(12,12),(13,13)]} func459 D1
def avU:=ax2.q {merge:=mg [(1,30),(5,58)],mv:=[44,75],mb:=mg [(75,15)],sb:=mg [(10,10),(11,11)]} func327 qN
def ay9:=avU.q {} func531 DW
def axX:=ay9.q {merge:=mg [(1,41),(4,84),(6,4)]} func454 BU
def axY:=axX.q {} func455 NJ
def axZ:=axY.q {} func456 MS
def avS:=axZ.q {merge:=mg [(1,29),(3,43)],mv:=[52,67,76],mb:=mg [(76,16)],sb:=mg [(14,14),(15,15)]} func325 rX
def avO:=avS.q {} func321 oV
def ax0:=avO.q {} func457 DH
def avT:=ax0.b {} func326 mU [ld [1,6,7] [] [7,0] @um [(.exit 0,[7,0])] [(0,.ptr 0 0,some (sF 1 cS))] .ptr] (t:=(kF (.own none) cS))
def atA:=avT.q {mv:=[16,36,48,64,71,89,91,107],sb:=mg [(9,9),(10,10)]} func185 qR
def auC:=atA.q {merge:=mg [(1,34)]} func247 wQ
def asx:=auC.b {mv:=[13,56]} func120 vD [ld [5,6,8,9,10] [] [10,0] @oK [(.exit 0,[10,0])] [(0,.ptr 0 0,some (sF 1 gB))] .ptr] (t:=(kF (.own none) gB))
def G38:=asx.q {merge:=mg [(2,15)],mv:=[19]} func38 yK
def G7:=G38.q {merge:=mg [(2,31)],mv:=[32,80,90,98]} func7 ua [ld [1,4,5,7,10] [] [10,5] @kU [(.exit 0,[10,5])] [(8,.data false (.sl .loc ahq),Z)]]
def G72:=G7.q {merge:=mg [(1,12),(3,31),(5,2)]} func72 CZ
def ay0:=G72.q {merge:=mg [(3,23),(6,48)],mv:=[51],sb:=mg [(40,6)]} func522 FU [ld [1,4,6,7] [2] [7] @sD]
def ay1:=ay0.q {merge:=mg [(2,19)],mv:=[20,38,47],mb:=mg [(38,6)],sb:=mg [(46,6)]} func523 DL [ld [1,4,6,7] [2] [7,6] @wL]
def axD:=ay1.q {mv:=[21,30,39,46],mb:=mg [(39,6)],sb:=mg [(4,4)]} func434 yZ
def avB:=axD.q {merge:=mg [(6,33)],mv:=[12,18,34,35,51],mb:=mg [(18,6),(51,6)],sb:=mg [(4,4)],fm:=[53]} func308 rN
def ato:=avB.q {mv:=[21,29,36,40,48,78],sb:=mg [(10,10)]} func173 zb [ld [1,5,8,9] [0] [8,9] @se]
def G74:=ato.q {merge:=mg [(2,26)],mv:=[27,28,36,49]} func74 rL
def avC:=G74.q {merge:=mg [(4,2),(5,2)]} func309 wO
def atq:=avC.q {merge:=mg [(2,26)],mv:=[27,47,82]} func175 qJ [ld [2,4,6,7,8,9] [] [8,9] @pB]
def G75:=atq.q {merge:=mg [(2,21),(5,31)],mv:=[22,50],sb:=mg [(9,9)]} func75 Ca [ld [2,3,8,9,10] [1] [10,9] @uj]
def G76:=G75.q {merge:=mg [(2,21)],mv:=[22,26,37,51]} func76 xc [ld [1,5,6,7] [] [5,7] @jz]
def axF:=G76.q {merge:=mg [(1,12)]} func436 nf
def avH:=axF.q {merge:=mg [(5,54)],sb:=mg [(8,8),(9,9)]} func314 pF
def avI:=avH.q {merge:=mg [(1,15)]} func315 kg
def axK:=avI.q {} func441 wY [ld [3,4,5] [0] [5] @xw [(.exit 0,[5]),(.ret,[4,5])]]
def avK:=axK.q {merge:=mg [(17,84)],mv:=[16,31,53,60,69,85,139]} func317 FV
def axL:=avK.q {} func442 tf
def axM:=axL.q {merge:=mg [(1,22)],mv:=[26,36,51],mb:=mg [(51,13)],sb:=mg [(10,10),(11,11),(13,13)]} func443 B8
def avL:=axM.q {merge:=mg [(4,32),(6,44)],mv:=[33,35,49,63,68,78,80],mb:=mg [(33,14),(35,15),(78,14),(80,15)],sb:=mg [(10,10),(11,11),(12,12),(18,18),(19,19)]} func318 yi [ld [2,8,10,11,12,14,15,16] [0,9] [16,8,14,15] @qL]
def att:=avL.q {merge:=mg [(4,50),(14,102)],mv:=[54,55,106,114,128,130,131],mb:=mg [(54,20),(128,30),(130,20)],sb:=mg [(14,14),(15,15),(16,16)]} func178 qT [ld [2,6,10,14,15,16,19,20,21] [0,8] [19,21,10,20] @oE]
def avM:=att.q {merge:=mg [(3,20)],mv:=[24,33]} func319 B6 [ld [2,6,8,9] [] [9,8] @sI]
def atu:=avM.q {mv:=[4,9]} func179 D2
def avN:=atu.q {mv:=[27]} func320 vz [ld [2,3,4,10,12,13] [0,6] [12,13] @ue]
def atv:=avN.b {mv:=[47,51,65,67,84],mb:=mg [(84,6)],sb:=mg [(6,6),(50,0),(70,0),(71,5)]} func180 Ch (t:=(kF (.own none) cS))
def G77:=atv.q {mv:=[17,25,43,45,46,48,58,60,71,144],mb:=mg [(71,3)],sb:=mg [(5,5),(6,6),(7,7),(81,3)]} func77 vy [ld [2,3,4] [1] [4,3] @ud,ld [2,3,10] [1] [10,3] @rO [(.exit 2,[10,3])],ld [2,3,11] [1] [11,3] @mR [(.exit 4,[11,3])]]
def G78:=G77.q {} func78 qH
def G79:=G78.q {mv:=[13,15,31]} func79 wJ
def atw:=G79.q {} func181 yU
def G80:=atw.q {merge:=mg [(3,15)],mv:=[28]} func80 yk [ld [2,3,4] [1] [4,3] @qS]
def atx:=G80.q {merge:=mg [(1,12)]} func182 ui
def G81:=atx.q {mv:=[27]} func81 sa [ld [1,5,6] [] [5,6] @nj]
def aty:=G81.q {} func183 F6
def G82:=aty.q {merge:=mg [(1,14)]} func82 tZ
def axQ:=G82.q {merge:=mg [(2,21)],mv:=[22,37,38]} func447 xa
def axR:=axQ.q {} func448 D0 [ld [3,4] [1] [3,4] @xf]
def axT:=axR.q {mv:=[26,36,44],mb:=mg [(44,13)],sb:=mg [(10,10),(11,11),(13,13),(14,14)]} func450 yP [ld [2,8,10,11,12,13,14,15] [0,4,6] [15,13,14] @mS [(.exit 0,[15,13,14]),(.ret,[12,15,10,11,13,14])]]
def avP:=axT.q {merge:=mg [(2,58),(6,102),(27,194)],mv:=[70,134,149,150,169,177,203,206,211,221,222],mb:=mg [(221,22),(222,33)],sb:=mg [(14,14),(15,15)]} func322 yS [ld [2,5,6,14,15,16,17,19,20,21,22,23,24] [0,8,10] [23,24,22] @lU [(.exit 0,[23,24,22]),(.ret,[16,23,24,14,15,22])],ld [2,14,15,19,20,21,22,29,30,31] [0,8,10] [29,31] @lV [(.exit 2,[29,31])]]
def atz:=avP.q {mv:=[19,20,34,36,38]} func184 DS
def atB:=atz.q {merge:=mg [(3,17)],mv:=[20,35,37,53],sb:=mg [(5,5),(6,6)]} func186 BZ [ld [2,3,4] [1] [4,3] @oC]
def avV:=atB.q {merge:=mg [(1,11)]} func328 rZ
def avW:=avV.q {} func329 Ez
def atC:=avW.q {merge:=mg [(3,25)],mv:=[26,66,85,87,88,90,100,102,124],sb:=mg [(11,11),(12,12),(13,13)]} func187 wP [ld [1,4,6,7,8] [2] [7,8,6] @pD]
def G83:=atC.q {merge:=mg [(1,17)],mv:=[24,36,37,58,65]} func83 KO
def G14:=G83.q {merge:=mg [(2,48)],late:=[97],mv:=[49,54,63,150,151,161,167,169],sb:=mg [(4,4),(11,11),(79,6)]} func14 It [ld [4,6,9] [2] [9,6] @nH [(.exit 1,[9,6])],ld [4,6,10] [2] [10,6] @nI [(.exit 3,[10,6])]]
def G18:=G14.q {merge:=mg [(3,21)],mv:=[22,23,30,37,39,40,44,45],sb:=mg [(9,9)]} func18 FZ [ld [4,6,7,8] [1] [7,8,6] @yQ]
def G84:=G18.q {} func84 He
def G85:=G84.q {} func85 Hi
def G15:=G85.q {} func15 qs
def G19:=G15.q {mv:=[22]} func19 nE [ld [3,4] [0] [3,4] @Hf]
def G51:=G19.q {} func51 ir
def asB:=G51.q {} func124 ka
def asE:=asB.q {} func127 gh
def atH:=asE.q {mv:=[7]} func191 ff
def auP:=atH.q {mv:=[7]} func260 mz
def asC:=auP.q {mv:=[13,19]} func125 uO [ld [3,8,9] [7] [3,9] @tO]
def asD:=asC.q {} func126 mN
def auQ:=asD.q {} func261 dz
def auR:=auQ.q {} func262 AR
def auT:=auR.q {mv:=[7]} func264 jj
def ava:=auT.q {mv:=[13,25]} func281 xL [ld [3,8,9] [7] [3,9] @wv]
def auS:=ava.q {sb:=mg [(2,2)]} func263 uP
def awT:=auS.q {} func388 AU
def awU:=awT.q {sb:=mg [(2,2)]} func389 yE
def auU:=awU.q {sb:=mg [(2,2)]} func265 tP
def auV:=auU.q {} func266 mA
def asF:=auV.q {mv:=[34,75],mb:=mg [(34,3)],sb:=mg [(39,3)]} func128 ib [ld [2,28,29] [1,27] [29,3] @wu [(.exit 0,[29,3])] [(3,.ptr 3 0,some Y1)]]
def G46:=asF.q {mv:=[32,39],mb:=mg [(32,3)],sb:=mg [(3,3),(37,3)]} func46 kx [ld [2,3,26,27] [25] [27,3] @wq]
def G48:=G46.q {merge:=mg [(1,6)]} func48 aB
def auZ:=G48.q {merge:=mg [(4,29),(7,2)]} func270 iM [ld [2,7,8] [1,6] [8] @vP [(.exit 0,[8]),(.ret,[2,8])]]
def asM:=auZ.q {merge:=mg [(1,2)]} func135 uM
def asN:=asM.q {} func136 gE [ld [1,4,8,9] [7] [9] @AW [(.exit 0,[9]),(.ret,[4,9])]]
def asO:=asN.q {merge:=mg [(6,22)],mv:=[23,27,34,38]} func137 lC [ld [1,5,6,11,12] [10] [5,6,12] @mM]
def au6:=asO.q {} func277 IC (rs:=[(true,(kF .arg Ag))])
def au7:=au6.q {merge:=mg [(4,21)]} func278 xM [ld [1,4,8,9] [7] [9] @qi [(.exit 0,[9]),(.ret,[4,9])]]
def asP:=au7.q {merge:=mg [(6,27),(8,37)]} func138 nZ [ld [2,10,11] [0,9] [11] @yy [(.exit 0,[11]),(.ret,[2,11])]]
def G49:=asP.q {mv:=[53,57,63,69]} func49 ru [ld [2,3,4,5,19,20] [18] [4,5,20] @su [(.exit 0,[4,5,20]),(.ret,[2,3,4,5,20])],ld [2,3,4,5,8,19,20,32,33,34] [7,18] [5,8,34] @my [(.exit 2,[5,8,34])]]
def auW:=G49.q {} func267 xH [ld [2,7,8] [1,6] [8] @Jf [(.exit 0,[8]),(.ret,[2,8])]]
def awV:=auW.q {merge:=mg [(4,25)]} func390 qh [ld [1,2,6,10,11] [9] [11] @xo [(.exit 0,[11]),(.ret,[6,11])]]
def auX:=awV.q {merge:=mg [(4,37)]} func268 sr [ld [2,6,7] [0,5] [7] @rq [(.exit 0,[7]),(.ret,[2,7])]]
def au1:=auX.q {merge:=mg [(1,21),(7,43)]} func272 jD [ld [2,3,27,28] [1,26] [3,28] @AJ [(.exit 0,[3,28]),(.ret,[2,3,28])]]
def au9:=au1.q {merge:=mg [(3,21)],mv:=[10,24]} func280 gy
def axr:=au9.q {} func422 jE
def aya:=axr.q {merge:=mg [(1,2)]} func467 xN
def aw1:=aya.q {} func396 kv
def av5:=aw1.q {merge:=mg [(1,2)]} func338 kR
def auY:=av5.q {merge:=mg [(1,24),(8,50)],mv:=[55]} func269 Gg [ld [2,3,4,31,32] [1,30] [3,4,32] @AO [(.exit 0,[3,4,32]),(.ret,[2,3,4,32])]]
def axa:=auY.q {merge:=mg [(1,18),(5,2),(7,2)]} func405 uN
def axb:=axa.q {merge:=mg [(1,2)]} func406 uS
def avf:=axb.q {merge:=mg [(1,2)]} func286 gm
def awW:=avf.q {merge:=mg [(1,2)]} func391 rA
def au0:=awW.q {merge:=mg [(1,42),(5,2)]} func271 CL
def awX:=au0.q {merge:=mg [(1,2)]} func392 Jh
def au2:=awX.q {merge:=mg [(1,24),(3,2)]} func273 oN
def ayH:=au2.q {merge:=mg [(1,33),(3,54),(5,2)]} func502 HY
def awY:=ayH.q {} func393 FA [ld [2,6,7] [0,5] [7] @Lh [(.exit 0,[7]),(.ret,[2,7])]]
def ayI:=awY.q {merge:=mg [(4,23)]} func503 HZ [ld [3,4,9,10] [8] [10] @Bb [(.exit 0,[10]),(.ret,[4,10])]]
def azq:=ayI.q {} func548 Dl [ld [3,16,17,18] [] [3,18] @qb]
def ayJ:=azq.q {mv:=[10,18]} func504 Pa [ld [1,3,4] [] [3,4] @Dx]
def awZ:=ayJ.q {merge:=mg [(6,28),(9,40)]} func394 wg [ld [2,13,14] [1,12] [14] @yC [(.exit 0,[14]),(.ret,[2,14])],ld [2,3,13,14,49,50,51] [1,12] [51] @qf [(.exit 2,[51]),(.ret,[2,51])]]
def ayK:=awZ.q {merge:=mg [(1,2)]} func505 Mx
def aw0:=ayK.q {merge:=mg [(1,22)]} func395 Du [ld [1,4,25,26] [24] [26] @Jg [(.exit 0,[26]),(.ret,[4,26])]]
def au3:=aw0.q {merge:=mg [(1,25),(6,41),(12,59)]} func274 sy [ld [1,4,28,29] [2,27] [29] @rD [(.exit 0,[29]),(.ret,[4,29])],ld [1,4,46,47] [45] [47] @pq [(.exit 2,[47]),(.ret,[4,47])]]
def asG:=au3.q {merge:=mg [(2,58),(7,89)]} func129 jC [ld [2,3,61,62] [1] [62] @AE [(.exit 0,[62]),(.ret,[2,62])],ld [2,3,103,104,105] [1] [105] @yw [(.exit 2,[105]),(.ret,[2,105])]]
def au4:=asG.q {} func275 Pu.wG [ld [4,12,13] [0,1] [13] @Pu.pA [(.exit 0,[13]),(.ret,[4,13])]]
def asH:=au4.q {merge:=mg [(1,4)]} func130 yF
def au5:=asH.q {merge:=mg [(1,2)]} func276 xD
def asI:=au5.q {merge:=mg [(6,49),(11,69)]} func131 qa [ld [4,13,14] [0,1,12] [14] @ph [(.exit 0,[14]),(.ret,[4,14])],ld [4,6,13,14,53,54] [0,1,12,52] [54] @pj [(.exit 2,[54]),(.ret,[4,54])]]
def asJ:=asI.q {merge:=mg [(4,22)]} func132 AX [ld [2,6,7] [5] [7] @AY [(.exit 0,[7]),(.ret,[2,7])]]
def atJ:=asJ.q {merge:=mg [(1,2)]} func193 Az
def av0:=atJ.q {merge:=mg [(1,13)]} func333 iE
def aw7:=av0.q {} func402 GR [ld [0,3,4] [] [3,4] @xE,ld [0,3,4,5] [] [3,5] @sR [(.exit 2,[3,5])]]
def ax4:=aw7.q {} func461 fS
def av1:=ax4.q {merge:=mg [(1,15)]} func334 AG
def atK:=av1.q {merge:=mg [(2,19),(5,38)]} func194 jn
def asK:=atK.q {merge:=mg [(4,18)]} func133 sQ
def asL:=asK.q {merge:=mg [(1,2)]} func134 Ay
def G47:=asL.q {merge:=mg [(2,32),(7,55),(10,2)]} func47 nS [ld [2,35,36] [1,34] [36] @Ax [(.exit 0,[36]),(.ret,[2,36])] [(3,.data false (.sl .loc ahq),Z)]]
def aw8:=G47.q {merge:=mg [(1,13)]} func403 fF
def aw9:=aw8.q {merge:=mg [(1,2)]} func404 GS
def avc:=aw9.q {merge:=mg [(4,33)],sb:=mg [(4,4)]} func283 xI
def azr:=avc.q {merge:=mg [(1,12)]} func549 Fu
def ayP:=azr.q {} func511 Dv [ld [0,3,4] [] [3,4] @we]
def axe:=ayP.q {} func409 kq
def axf:=axe.q {merge:=mg [(1,17)]} func410 gb
def axh:=axf.q {} func412 cH
def ayQ:=axh.q {merge:=mg [(1,2)]} func512 RS
def axi:=ayQ.q {} func413 Dp
def avh:=axi.q {} func288 Av
def avd:=avh.q {merge:=mg [(2,22),(6,56)],sb:=mg [(5,5)]} func284 Fz
def axc:=avd.q {} func407 wo
def axd:=axc.q {merge:=mg [(1,27)]} func408 tI
def axg:=axd.q {} func411 fN
def avg:=axg.q {merge:=mg [(8,39)]} func287 lh
def ave:=avg.q {merge:=mg [(3,20),(9,44),(12,68)]} func285 tH
def asT:=ave.q {merge:=mg [(2,20)]} func142 jo
def azj:=asT.q {merge:=mg [(4,29)]} func541 J7
def azk:=azj.q {merge:=mg [(2,6)]} func542 zL
def ax8:=azk.q {merge:=mg [(1,29),(11,55),(16,73)],mv:=[56,74]} func465 Ef [ld [2,3,4,5,12,13,14] [0,7] [3,4,14] @uQ [(.exit 0,[3,4,14]),(.ret,[3,4,12,13,14])]]
def azh:=ax8.q {mv:=[41]} func539 sv [ld [1,2,8] [3] [1,8] @mJ]
def ax6:=azh.q {} func463 rm [ld [14,31,32] [6] [14,32] @yv [(.exit 0,[14,32])] [(30,.data false (.sl .loc pM),Z)]]
def aye:=ax6.q {merge:=mg [(1,11)]} func471 qe
def ayj:=aye.q {merge:=mg [(1,20)],sb:=mg [(9,9)]} func478 xK
def ayb:=ayj.q {merge:=mg [(1,2)]} func468 Eb
def av6:=ayb.q {} func339 nD
def ayL:=av6.q {sb:=mg [(4,4)]} func506 sn
def aw2:=ayL.q {merge:=mg [(1,24),(15,67)],mv:=[55,68],sb:=mg [(9,9)]} func397 AN [ld [2,7,8,9,10,11,12] [0,5] [12,7] @oc [(.exit 0,[12,7]),(.ret,[8,10,12,7,9])]]
def alc:=aw2.q {merge:=mg [(4,19)]} func507 Dq [ld [2,6,7] [0,5] [7] @vV [(.exit 0,[7]),(.ret,[2,7])]]
def azO:EI:=OU [pd (.sl pM),pI,pI] [(false,(.sl (.own none) Cs))] [(false,(.sl .nil Cs))] rfl λa=>jx a.1 a.2.1 a.2.2.1
def aqS:An:={mask:=mk [(5,[0,2,7,30,31,32]),(13,[6,7,54,55,56])],merge:=mg [(1,25)],nils:=[6],mv:=[49,64]}
abbrev ZY:SD:=⟨fG (zsa pM)::B::DI::bs 4 (fG (Rp 86016 Cs)::bs 22 (fG (zsa pM)::DI::DI::bs 32 [])),zs 65 [],.none⟩
def an7 (X:SD.D ZY)(K:zkk R):=md (λy0 y1=>ke 0 K ZY ((z2 (w y0 (z2 (u y1))) X.1),X.2)) X.1.1 X.1.2.1 (q3 X) (q4 X)
abbrev T5:SD:=⟨bs 7 (fG (Rp 86016 Cs)::bs 46 (fG (.sl .loc Cs)::DI::DI::bs 8 [])),zs 65 [],.none⟩
abbrev afd:SD:=⟨bs 6 (fG (.sl .nil Cs)::fG (Rp 86016 Cs)::bs 46 (fG (.sl .loc Cs)::DI::DI::bs 8 [])),zs 65 [],.none⟩
def aiv (X:SD.D T5)(K:zkk R):=ll (λy0=>ke 2 K T5 ((z3 (u y0) X.1),X.2)) (λy0 y1=>kr K afd ((y0,(X.1.1,(X.1.2.1,(X.1.2.2.1,(y1,()))))),(),())) X.1.1 X.1.2.1 (q2 X)
def ap6:LG:=(LG.nil.add 5 (mkl ZY an7 (λX=>(q2 X,q5 X)))).add 13 (mkl T5 aiv q3)
theorem aqP:LOk E alc.g aqS ap6 (gO f476 0):=lk ZY an7 (λX=>(q2 X,q5 X)) λX x=>((z2 (w x.1 (z2 (u x.2))) X.1),X.2)
theorem ao3:LOk E alc.g aqS ap6 (gO f476 1):=lk T5 aiv q3 λX x=>((z3 (u x) X.1),X.2)
theorem aAv:zfo 476 azO:=mD.ofAlt (alU (Γ:=alc.g) (an:=aqS) (Λ:=ap6) (by rfl) (alc.s) func476 (by kernel_rfl) (ao (cF aqP (cF ao3 nF)))) (λa=>by kernel_rfl)
def ap5:=alc.add aAv
def aqR:An:={mask:=mk [(5,[0,6,18,19,20]),(14,[0,2,3,4,5,6,9,10,11,51,52])],mv:=[24,65]}
abbrev ZW:SD:=⟨fG (zsa Cs)::bs 5 (fG (Rp 73728 pM)::bs 11 (fG (zsa Cs)::DI::DI::bs 47 [])),zs 68 [],.none⟩
def an5 (X:SD.D ZW)(K:zkk R):=mZ (λy0 y1=>ke 0 K ZW ((z1 (w y0 (z2 (u y1))) X.1),X.2)) X.1.1 (q2 X) (q3 X)
abbrev T4:SD:=⟨fG (zsa Cs)::bs 5 (fG (Rp 73728 pM)::B::B::DI::DI::fG (Rp 135168 Cs)::bs 39 (DI::DI::bs 15 [])),zs 68 [],.none⟩
abbrev afc:SD:=⟨fG (zsa Cs)::B::fG (Rp 24576 pM)::DI::DI::DB::fG (Rp 73728 pM)::B::B::DI::DI::fG (Rp 135168 Cs)::bs 39 (DI::DI::bs 15 []),zs 68 [],.none⟩
def aiu (X:SD.D T4)(K:zkk R):=iq (λy0=>ke 2 K T4 ((z6 (u y0) X.1),X.2)) (λy0 y1 y2 y3 y4=>kr K afc ((X.1.1,(y0,(y1,(y2,(y3,(X.1.2.1,(X.1.2.2.1,(X.1.2.2.2.1,(X.1.2.2.2.2.1,(X.1.2.2.2.2.2.1,(y4,()))))))))))),(),())) X.1.1 X.1.2.1 (q2 X) (q3 X) (q4 X) (q5 X)
def arc:LG:=(LG.nil.add 5 (mkl ZW an5 (λX=>(X.1.2.1,q4 X)))).add 14 (mkl T4 aiu q6)
theorem aqN:LOk E ap5.g aqR arc (gO f398 0):=lk ZW an5 (λX=>(X.1.2.1,q4 X)) λX x=>((z1 (w x.1 (z2 (u x.2))) X.1),X.2)
theorem ao2:LOk E ap5.g aqR arc (gO f398 1):=lk T4 aiu q6 λX x=>((z6 (u x) X.1),X.2)
def aw3:=ap5.qk aqR func398 [pd (.sl Cs)] [(false,(.sl (.own none) pM)),rI,rI,rB] (c1 rr) (cF aqN (cF ao2 nF))
def aw4:=aw3.q {} func399 tB [ld [2,8,9,10,19,20] [0,5,18] [10,20] @nW [(.exit 0,[10,20]),(.ret,[8,9,10,20])]]
def axj:=aw4.q {} func414 Dw
def avi:=axj.q {} func289 De
def atP:=avi.q {} func199 re [ld [0,5,10,11] [] [5,11] @Ba]
def avj:=atP.q {} func290 Fy
def asV:=avj.q {} func144 ia
def ayM:=asV.q {} func508 uT
def ayf:=ayM.q {} func472 oM
def aw5:=ayf.q {merge:=mg [(3,38),(9,74),(12,84),(17,117)]} func400 Dh
def asU:=aw5.q {merge:=mg [(1,2)]} func143 ku
def avb:=asU.q {} func282 AP
def asZ:=avb.q {} func148 sk
def ayN:=asZ.q {mv:=[21,26]} func509 Dk [ld [3,10,11] [9] [3,11] @pZ]
def ayO:=ayN.q {merge:=mg [(1,17),(4,30)],mv:=[83,87]} func510 J5 [ld [1,2,5,6,7] [] [6,7] @Dt]
def aw6:=ayO.q {} func401 yA
def au8:=aw6.q {merge:=mg [(1,28)],sb:=mg [(8,8)]} func279 tL
abbrev aqf:SD:=⟨fG (zsa eG)::B::DI::B::B::.ptr 5 0::B::.ptr 7 0::.ptr 8 0::fG (Rp 110592 .str)::DI::DI::fG (Rp 147456 .str)::DI::DI::bs 30 [],zs 5 ((zsm (zsa .str))::Z::(some Y0)::(some Y0)::zs 36 []),.none⟩
abbrev aiQ:SD:=⟨fG (zsa eG)::B::DI::B::B::.ptr 5 0::B::.ptr 7 0::.ptr 8 0::fG (Rp 110592 .str)::DI::DI::fG (.sl .loc .str)::DI::DI::bs 30 [],zs 5 ((zsm (zsa .str))::Z::(some Y0)::(some Y0)::zs 36 []),.none⟩
def asQ:=au8.q1 {mask:=mk [(3,[0,2,5,7,8,9,10,11,12,13,14])],mv:=[35,42]} func139 [pd (.sl eG),pf (.sl .str),pI,pf zg] [(true,Y0),(false,(.sl (.own none) .str)),rI,rI] (c4 wi) aqf (λX K=>pt (λy0 y1 y2 y3 y4 y5 y6 y7=>kr K aiQ ((X.1.1,(X.1.2.1,(y0,(y1,(y2,(y3,(y4,(y5,())))))))),(X.2.1.1,(y6,(y7,()))),())) X.1.1 X.1.2.1 (q2 X) (q3 X) (q4 X) X.2.1.1 X.2.1.2.2.1) (λX=>(q5 X,q6 X,q7 X,X.2.1.2.1)) (λX x=>((z5 (w x.1 (w x.2.1 (u x.2.2.1))) X.1),(z1 (u x.2.2.2) X.2.1),X.2.2))
def asR:=asQ.q {merge:=mg [(2,22)],mv:=[23,34,43,55,56]} func140 nT [ld [1,4,6,7,29,30] [2,28] [7,30,6] @lj]
def G50:=asR.q {mv:=[15,33,37,51,54,58]} func50 nX
def asS:=G50.q {merge:=mg [(2,17)]} func141 Df
def G52:=asS.q {} func52 qd
def asW:=G52.q {merge:=mg [(1,15)]} func145 vX
def asX:=asW.q {merge:=mg [(1,24),(7,54)]} func146 pW
def asY:=asX.q {merge:=mg [(19,60)],mv:=[37,61,66]} func147 oa [ld [1,7,8,33,34] [0] [8,34] @na,ld [1,7,11,44,45] [0] [11,45] @gH [(.exit 2,[11,45])] [(43,.data false (.sl .loc (.int .i64)),Z)]]
def G53:=asY.q {merge:=mg [(2,35),(7,73)],late:=[93],mv:=[36,81],er:=mg [(98,11)]} func53 Ds
def as0:=G53.q {merge:=mg [(1,34)]} func149 vU
def avk:=as0.q {merge:=mg [(1,4)]} func291 Ft
def azs:=avk.q {} func550 sA
def ayR:=azs.q {merge:=mg [(1,4)]} func513 vW
def axk:=ayR.q {merge:=mg [(7,34)]} func415 Dj [ld [3,5,12,13] [0,11] [5,13] @vQ]
def axl:=axk.q {} func416 Di
def axm:=axl.q {} func417 zK
def azF:=axm.q {} func563 Ed
def azG:=azF.q {merge:=mg [(1,14)]} func564 AF [ld [0,1,5,6] [] [5,6] @tG]
def azz:=azG.q {merge:=mg [(1,14)]} func557 AA [ld [0,1,5,6] [] [5,6] @tD]
def azA:=azz.q {} func558 AB
def azl:=azA.q {} func543 xF
def ayS:=azl.q {merge:=mg [(2,17)]} func514 Fx
def axn:=ayS.q {merge:=mg [(2,18)]} func418 vY
def avl:=axn.q {merge:=mg [(1,17)]} func292 vZ
def ax9:=avl.q {nest:=[33],mv:=[19,49]} func466 wk [ld [1,2,6,8] [] [1,2,8] @pw]
def av4:=ax9.q {mv:=[34,41,50,57],sb:=mg [(14,14)]} func337 Mw [ld [4,12,14,36,37] [] [4,37,14] @Ee [(.exit 0,[4,37,14])] [(35,.data false (.sl .loc pM),Z)]]
def ayd:=av4.q {} func470 sS
def aze:=ayd.q {} func536 qj
def azg:=aze.q {} func538 AZ
def azB:=azg.q {merge:=mg [(1,2)]} func559 nU
def azC:=azB.q {merge:=mg [(1,12)]} func560 mY
def azm:=azC.q {merge:=mg [(1,22)],mv:=[26,37,41,51],mb:=mg [(41,13),(51,13)],sb:=mg [(10,10),(11,11),(13,13)]} func544 ry
def ayk:=azm.v {merge:=mg [(3,50)],sb:=mg [(12,12),(13,13),(20,20)]} func479 Bc [(true,(.sl .arg .str)),(true,(.pair (.int .i64) (.pair (.int .i64) (.int .i64)))),(false,.bool)]
def awb:=ayk.q {merge:=mg [(1,31)],mv:=[52,66],mb:=mg [(66,16)],sb:=mg [(10,10),(11,11)]} func344 pY
def ayT:=awb.q {} func515 Dr
def axo:=ayT.q {merge:=mg [(1,42),(4,76),(6,4)]} func419 Aw
def axp:=axo.q {} func420 Ns
def axq:=axp.q {} func421 Mv
def avm:=axq.q {merge:=mg [(1,30),(3,44)],mv:=[53,68,77],mb:=mg [(77,16)],sb:=mg [(14,14),(15,15)]} func293 rC
def av9:=avm.q {merge:=mg [(1,9)]} func342 rG
def axs:=av9.q {} func423 Dd
def avn:=axs.b {} func294 mL [ld [1,7] [] [7,0] @tM [(.exit 0,[7,0])] [(0,.ptr 0 0,some (sF 1 cS))] .ptr] (t:=(kF (.own none) cS))
def as1:=avn.q {mv:=[14,34,46,62,69,90,103],sb:=mg [(92,5)]} func150 qc
def G54:=as1.q {merge:=mg [(2,24)],mv:=[25,26,57,76]} func54 sm [ld [5,6,7,8,10,39,40,41] [] [41,7] @mH]
def G9:=G54.q {merge:=mg [(2,29)],mv:=[30,31,75,85,94]} func9 tA [ld [1,4,5,6,63,64] [] [64,5] @kO [(.exit 0,[64,5])] [(62,.data false (.sl .loc .str),Z)]]
def atE:=G9.q {merge:=mg [(1,12),(3,31),(5,2)]} func189 GQ
def G86:=atE.q {merge:=mg [(1,4)]} func86 AQ
def azc:=G86.q {merge:=mg [(2,17)],mv:=[18,29]} func534 Fv
def azd:=azc.q {merge:=mg [(2,20)],mv:=[21,35,41]} func535 Dg [ld [1,4,6,26,27] [25] [27,6] @vO]
def ax3:=azd.q {mv:=[21,30,39,46],mb:=mg [(39,6)],sb:=mg [(4,4)]} func460 FB
def avY:=ax3.q {mv:=[13,20,30,31,47],mb:=mg [(20,6),(47,6)],sb:=mg [(4,4)],fm:=[49]} func331 rn
def atG:=avY.q {mv:=[14,23,32,60],es:=mg [(25,8)]} func190 tN
def G87:=atG.q {merge:=mg [(2,24)],mv:=[25,26,34,47]} func87 rl
def avZ:=G87.q {merge:=mg [(5,2),(7,2)]} func332 vR
def atI:=avZ.q {merge:=mg [(2,24)],mv:=[25,74]} func192 pV [ld [2,4,6,7,8,9] [] [8,9] @pg,ld [2,4,6,7,8,10] [] [8,10] @nV [(.exit 2,[8,10])]]
def G88:=atI.q {merge:=mg [(2,18),(5,28)],mv:=[19,48],sb:=mg [(9,9)]} func88 AM [ld [2,3,8,9,10] [1] [10,9] @tK]
def G89:=G88.q {merge:=mg [(1,20)],mv:=[33,47]} func89 wj [ld [1,5,6,7] [] [6,7] @jy]
def av7:=G89.q {merge:=mg [(1,15)]} func340 gk
def ayc:=av7.q {} func469 xJ
def av8:=ayc.q {merge:=mg [(1,22)],mv:=[26,36,40,50],mb:=mg [(40,13),(50,13)],sb:=mg [(10,10),(11,11),(13,13)]} func341 AK
def atR:=av8.q {merge:=mg [(2,34)],mv:=[35,37,53,65,76,78],mb:=mg [(35,14),(37,15),(65,20),(76,14),(78,15)],sb:=mg [(8,8),(10,10),(11,11),(12,12),(14,14),(15,15)]} func201 kt [ld [2,8,10,11,12,14,15,16,40,41] [0,9,39] [16,41,8,14] @pX]
def azf:=atR.q {} func537 mX
def ax5:=azf.q {merge:=mg [(7,46)],sb:=mg [(8,8),(9,9)]} func462 po
def azi:=ax5.q {} func540 wa [ld [3,4,8,9] [7] [9] @xn [(.exit 0,[9]),(.ret,[4,9])]]
def ax7:=azi.q {merge:=mg [(17,82)],mv:=[16,31,51,58,67,83,132],er:=mg [(115,5)]} func464 Fw
def av2:=ax7.q {merge:=mg [(2,48)],mv:=[49,51,52,96,104,117,119,120],mb:=mg [(49,19),(51,20),(117,19),(119,20)],sb:=mg [(14,14),(15,15),(16,16),(19,19),(20,20)]} func335 AI [ld [2,6,10,14,15,16,19,20,21,22] [0] [21,22,10,20] @nY]
def atL:=av2.b {mv:=[8,49,51,52],sb:=mg [(55,0),(59,0)],fm:=[19,20],eb:=mg [(56,0),(57,0)]} func195 mq (t:=(kF (.own none) cS))
def av3:=atL.q {mv:=[24,29]} func336 AH [ld [2,6,8,9] [] [9,8] @yx]
def atM:=av3.q {mv:=[3,8]} func196 J6
def atN:=atM.q {} func197 kQ
def atO:=atN.q {} func198 uR
def atQ:=atO.q {mv:=[10,24],mb:=mg [(24,5)],sb:=mg [(2,2),(3,3)]} func200 CM
def G90:=atQ.q {mv:=[18,37,88,98,121,142],sb:=mg [(90,3)]} func90 uL [ld [2,3,21,22] [] [22,3] @tF,ld [2,3,31,32] [] [32,3] @rp [(.exit 2,[32,3])] [(30,.data false (.sl .loc kZ),Z)],ld [2,3,54,55] [] [55,3] @mI [(.exit 4,[55,3])]]
def G91:=G90.q {} func91 pU
def G92:=G91.q {mv:=[13,15,32]} func92 vN
def atS:=G92.q {} func202 yD
def G93:=atS.q {mv:=[10,28]} func93 xG [ld [2,3,13,14] [] [14,3] @vT]
def atT:=G93.q {merge:=mg [(1,10)]} func203 tJ
def G94:=atT.q {mv:=[26]} func94 rF [ld [1,5,10,11] [] [5,11] @nb]
def atU:=G94.q {} func204 RT
def G95:=atU.q {merge:=mg [(1,14)]} func95 tz
def ayg:=G95.q {} func473 tQ [ld [3,8,9] [7] [3,9] @od]
def aoi:=ayg.q {merge:=mg [(2,20)],mv:=[21,28],mb:=mg [(28,7)],sb:=mg [(4,4)]} func474 wh
def azN:EI:=OU [pd (.sl eG),pf (.sl .str),pI,pf jT,pd (.sl (.int .i64)),pd .str,pI] [(true,(.sl (.own none) .str)),(false,(.sl (.own none) pM)),rB] [(true,(.sl .arg .str)),(false,(.sl (.own none) pM)),rB] rfl λa=>qg a.1 a.2.1 a.2.2.1 a.2.2.2.1 a.2.2.2.2.1 a.2.2.2.2.2.1 a.2.2.2.2.2.2.1
def ar0:An:={mask:=mk [(3,[0,2,5,6,8,10,14,15,16,17,24,25,26])],peel:=[3],mv:=[40,49,53,54,55,65,66],sb:=mg [(21,21)]}
abbrev ZX:SD:=⟨fG (zsa eG)::B::DI::B::B::fG .str::DI::B::.ptr 8 0::B::.ptr 10 0::B::B::B::.ptr 14 0::fG (Rp 184320 pM)::DB::fG (Rp 208896 pM)::bs 6 (fG (zsa (.int .i64))::DI::DI::bs 40 []),zs 8 ((zsm (Rp 98305 .str))::Z::(some Y2)::Z::Z::Z::(zsm (Rp 172033 .str))::zs 52 []),.none⟩
abbrev aiR:SD:=⟨fG (zsa eG)::B::DI::B::B::fG .str::DI::B::.ptr 8 0::B::.ptr 10 0::B::B::B::.ptr 14 0::fG (Rp 184320 pM)::DB::fG (Rp 208896 pM)::bs 6 (fG (zsa (.int .i64))::DI::DI::bs 40 []),zs 8 ((zsm (.sl .loc .str))::Z::(some Y2)::Z::Z::Z::(zsm (Rp 172033 .str))::zs 52 []),.none⟩
def an6 (X:SD.D ZX)(K:zkk R):=lP (λy0 y1 y2 y3=>ke 0 K ZX ((z2 (w y0 (z3 (w y1 (z2 (u y2))))) X.1),(u y3 X.2.1),X.2.2)) (λy0 y1 y2 y3 y4 y5 y6=>kr K aiR ((X.1.1,(X.1.2.1,(y0,(X.1.2.2.2.1,(y1,(y2,(y3,(X.1.2.2.2.2.2.2.2.1,(X.1.2.2.2.2.2.2.2.2.1,(y4,())))))))))),(y5,(X.2.1.2.1,(y6,()))),())) X.1.1 X.1.2.1 (q3 X) (q4 X) (q5 X) (q7 X) (q8 X) X.2.1.2.1 X.2.1.2.2.1
def ard:LG:=LG.nil.add 3 (mkl ZX an6 (λX=>(q2 X,q6 X,q9 X,X.2.1.1)))
theorem aqO:LOk E aoi.g ar0 ard (gO f475 0):=lk ZX an6 (λX=>(q2 X,q6 X,q9 X,X.2.1.1)) λX x=>((z2 (w x.1 (z3 (w x.2.1 (z2 (u x.2.2.1))))) X.1),(u x.2.2.2 X.2.1),X.2.2)
theorem aAu:zfo 475 azN:=mD.ofAlt (alU (Γ:=aoi.g) (an:=ar0) (Λ:=ard) (by rfl) (aoi.s) func475 (by kernel_rfl) (ao (cF aqO nF))) (λa=>by kernel_rfl)
def ayh:=aoi.add aAu
def ayi:=ayh.q {mv:=[27,43],mb:=mg [(43,13)],sb:=mg [(10,10),(11,11),(13,13),(14,14)]} func477 lB [ld [2,8,10,11,12,13,14,22,23] [0,6,21] [23,13,14] @mK [(.exit 0,[23,13,14]),(.ret,[12,23,10,11,13,14])]]
def awa:=ayi.q {merge:=mg [(2,57),(6,92),(15,135)],mv:=[58,59,93,94,97,107,108,109,122,123,136,137,145,151,164,165,169,174,184,185],mb:=mg [(58,17),(59,18),(93,17),(94,18),(107,17),(108,18),(136,17),(137,18),(164,17),(165,18),(184,26),(185,22)],sb:=mg [(14,14),(15,15),(17,17),(18,18),(26,26)]} func343 yB [ld [2,14,15,17,18,22,24,28,29,140,141] [0,10] [29,141] @gD [(.exit 0,[29,141])] [(26,.ptr 26 0,some (.sl .loc .str)),(139,.data false (.sl .loc Cs),Z)]]
def atV:=awa.q {mv:=[19,20,34,36,38]} func205 Dm
def atW:=atV.q {mv:=[10,17,35,49],sb:=mg [(37,3)]} func206 AD [ld [2,3,13,14] [1] [14,3] @tE]
def awc:=atW.q {merge:=mg [(1,11)]} func345 rE
def awd:=awc.q {} func346 Ec
def atX:=awd.q {merge:=mg [(2,21)],mv:=[22,78]} func207 vS [ld [1,4,6,7,25,26] [] [7,26,6] @pn]
def G96:=atX.q {merge:=mg [(1,15)],mv:=[22,34,35]} func96 J4
def G16:=G96.q {merge:=mg [(2,23)],late:=[67],mv:=[24,114,115,125,131,133],sb:=mg [(4,4),(9,9),(49,6)]} func16 HX [ld [4,6,52,53] [] [53,6] @so [(.exit 1,[53,6])],ld [4,6,91,92] [] [92,6] @sq [(.exit 4,[92,6])]]
def G20:=G16.q {merge:=mg [(2,21)],mv:=[22,30,36,37,42,43]} func20 AL [ld [4,6,7,25,26] [24] [7,26,6] @yz]
def atY:=G20.q {} func208 Ka
def atZ:=atY.q {} func209 Bd
def G97:=atZ.q {} func97 uV
def G22:=G97.q {} func22 EU [ld [4,5] [0,1] [5] @GW [(.exit 0,[5]),(.ret,[4,5])]]
def G23:=G22.i {} func23 Bt [ld [1,5] [] [0,1,5,260] @vf [(.exit 0,[0,1,5,260])] [(0,.data false (.sl (.lio 0 12288036864) gn),Z)] (.some (.sl (.own (some 12288036864)) gn))]
abbrev tk:ar PS:=[pf gB,pd (.sl gn)]
def Ct:EI:=X3 tk [rB] (c2 xp)
theorem LO:zfo 5 Ct:=f0 {merge:=mg [(12,54),(21,84),(36,121)],mv:=[27,39]} G23.s func5
end
end Go.Proofs.YthllnaiaikjelaaGreat.Fn
