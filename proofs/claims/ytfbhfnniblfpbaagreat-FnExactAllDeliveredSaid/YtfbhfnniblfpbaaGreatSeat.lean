import Derived.Test.YtfbhfnniblfpbaaGreatDnSig
import Derived.Test.YtfbhfnniblfpbaaGreatPure
import Derived.Test.YtfbhfnniblfpbaaGreatRows
/- Each function of the program is its pure function (made by gen.py). -/
namespace Go.Proofs.YtfbhfnniblfpbaaGreat.Fn
open Go.Dn
open Go.Pu Go.Proofs.Tryz
set_option maxRecDepth 100000
set_option linter.unusedVariables false
noncomputable section
variable {Λ:FL} {P:Program} {A0 A1 A2 A3 A4 A5 A6 C R σ:Type} {A:Type->Type} {rs:au (Bool×FT)} {s:au PS}
abbrev Y9 (R:Type):=Ex->AS->Option R
abbrev zit:FT:=.int .i64
abbrev PU (a b:FT):FT:=.pair a b
abbrev zpi (b:FT):FT:=.pair (.int .i64) b
abbrev KE (n:Nat)(t:CT):FT:=.sl (.own (some n)) t
abbrev zsm (t:FT):Option FT:=some t
abbrev fO (t:FT):PD:=.data false t
abbrev jo (t:FT):PD:=.data true t
abbrev T1 (t:CT):FT:=.sl .arg t
abbrev zfo:=kB Tryz.prog
abbrev B:PD:=.bot
abbrev DI:PD:=.data false (.int .i64)
abbrev DB:PD:=.data false .bool
abbrev Z:aw FT:=none
theorem nF {p:Code->Prop}:∀x∈([]:au Code),p x:=λ_ h=>nomatch h
theorem cF {p:Code->Prop}{a:Code}{l:au Code}(h:p a)(t:∀x∈l,p x):∀x∈a::l,p x:=List.forall_mem_cons.2 ⟨h,t⟩
theorem hF {p:Code->Prop}{l m:au Code}(e:l=m)(h:∀x∈m,p x):∀x∈l,p x:=e▸h
theorem fk {E:Env}{Γ:xg}{F:Bb s->aw (hH rs)}{f:Nat}{fn:Func}(an:An)(hS:Sound P E Γ)(hf:P.funcs[f]?=some fn){l:au Code}(h:∀c∈l,WS E Γ an Λ c)(hn:(fn.name== "runtime.NumGoroutine")=false:=by kernel_rfl)(hl:gZ (fn.body.getD .skip)=l:=by kernel_rfl)(dM:an.cut=[]:=by kernel_rfl)(hF:∀a,F5 E Γ an Λ fn rs (ia s a)=F a:=by intro a;kernel_rfl):kB P f (QL s rs F):=kB.of (aaF hS hf hn (zS.of (Fn.hF hl h) dM)) hF
theorem ao {E:Env}{Γ:xg}{an:An}{b:Code}{l:au Code}(h:∀c∈l,WS E Γ an Λ c)(hl:gZ b=l:=by kernel_rfl)(hc:an.cut=[]:=by kernel_rfl):zS E Γ an Λ b:=zS.of (Fn.hF hl h) hc
theorem ac {E:Env}{Γ:xg}{an:An}{b:Code}{l m:au Code}(h:∀c∈l,WS E Γ an Λ c)(hc:∀c∈m,COk E Γ an Λ c)(hl:gZ b=l:=by kernel_rfl)(hm:kf an.cut b=m:=by kernel_rfl):zS E Γ an Λ b:=⟨Fn.hF hl h,Fn.hF hm hc⟩
theorem fc {E:Env}{Γ:xg}{F:Bb s->aw (hH rs)}{f:Nat}{fn:Func}(an:An)(hS:Sound P E Γ)(hf:P.funcs[f]?=some fn){l m:au Code}(h:∀c∈l,WS E Γ an Λ c)(hc:∀c∈m,COk E Γ an Λ c)(hn:(fn.name== "runtime.NumGoroutine")=false:=by kernel_rfl)(hl:gZ (fn.body.getD .skip)=l:=by kernel_rfl)(hm:kf an.cut (fn.body.getD .skip)=m:=by kernel_rfl)(hF:∀a,F5 E Γ an Λ fn rs (ia s a)=F a:=by intro a;kernel_rfl):kB P f (QL s rs F):=kB.of (aaF hS hf hn ⟨Fn.hF hl h,Fn.hF hm hc⟩) hF
abbrev pd (t:CT):PS:=.data false t
abbrev pf (t:CT):PS:=.data true t
abbrev pI:PS:=.data false (.int .i64)
abbrev rB:Bool×FT:=(false,.bool)
abbrev rI:Bool×FT:=(false,.int .i64)
abbrev rS:Bool×FT:=(false,.str)
abbrev bs:Nat->au PD->au PD
 |0,l=>l
 |n+1,l=> .bot::bs n l
abbrev zs:Nat->au (aw FT)->au (aw FT)
 |0,l=>l
 |n+1,l=>none::zs n l
def mk (l:au (Nat×dI))(n:Nat):dI:=(l.lookup n).getD []
def mg (l:au (Nat×Nat))(n:Nat):aw Nat:=l.lookup n
def ke (n:Nat)(K:Y9 R)(d:SD)(x:SD.D d):aw R:=K (.exit n) (SD.enc d x)
def kn (K:Y9 R)(d:SD)(x:SD.D d):aw R:=K .normal (SD.enc d x)
def kr (K:Y9 R)(d:SD)(x:SD.D d):aw R:=K .ret (SD.enc d x)
def ZO (d:SD)(t:{R:Type}->SD.D d->(Ex->AS->aw R)->(σ->aw R)->σ->aw R)(i:SD.D d->σ):KG:=⟨d,λX K=>aL (t X K) fuel (i X)⟩
theorem lk {E:Env}{Γ:xg}{an:An}{c:Code}(d:SD)(t:{R:Type}->SD.D d->(Ex->AS->aw R)->(σ->aw R)->σ->aw R)(i:SD.D d->σ)(w:SD.D d->σ->SD.D d)(h1:Λ (dp c)=ZO d t i:=by kernel_rfl)(h:∀(R:Type)(X:SD.D d)(K:Y9 R)(m:Nat)(x:σ),zZ (an.mask (dp c)) (den E Γ an Λ c) (m+1) (SD.enc d (w X x)) K=t X K (λy=>zZ (an.mask (dp c)) (den E Γ an Λ c) m (SD.enc d (w X y)) K) x:=by intro R X K m x;kernel_rfl)(hw:∀X,w X (i X)=X:=by intro X;kernel_rfl):WS E Γ an Λ c:=lok (ZO d t i) h1 fuel λR X K=>(Ro (λx=>SD.enc d (w X x)) (t X K) (h R X K) fuel (i X)).symm.trans (congrArg (λy=>zZ (an.mask (dp c)) (den E Γ an Λ c) fuel (SD.enc d y) K) (hw X))
def mkc (d:SD)(t:{R:Type}->SD.D d->(Ex->AS->aw R)->aw R):KG:=⟨d,λX K=>t X K⟩
theorem ck {E:Env}{Γ:xg}{an:An}{c:Code}(d:SD)(t:{R:Type}->SD.D d->(Ex->AS->aw R)->aw R)(h1:Λ (xo c)=mkc d t:=by kernel_rfl)(h:∀(R:Type)(X:SD.D d)(K:Y9 R),t X K=den E Γ an Λ c (SD.enc d X) (λe st'=>K e (st'.mask (an.mask (xo c+1)))):=by intro R X K;kernel_rfl):COk E Γ an Λ c:=cok (mkc d t) h1 h
def u {A B:Type}(y:A)(x:A×B):A×B:=(y,x.2)
def w {A B:Type}(y:A)(f:B->B)(x:A×B):A×B:=(y,f x.2)
def z1 {B:Type}(f:B->B)(x:A0×B):A0×B:=(x.1,f x.2)
def z2 {B:Type}(f:B->B)(x:A0×A1×B):A0×A1×B:=(x.1,x.2.1,f x.2.2)
def z3 {B:Type}(f:B->B)(x:A0×A1×A2×B):A0×A1×A2×B:=(x.1,x.2.1,x.2.2.1,f x.2.2.2)
def z5 {B:Type}(f:B->B)(x:A0×A1×A2×A3×A4×B):A0×A1×A2×A3×A4×B:=(x.1,x.2.1,x.2.2.1,x.2.2.2.1,x.2.2.2.2.1,f x.2.2.2.2.2)
def z6 {B:Type}(f:B->B)(x:A0×A1×A2×A3×A4×A5×B):A0×A1×A2×A3×A4×A5×B:=(x.1,x.2.1,x.2.2.1,x.2.2.2.1,x.2.2.2.2.1,x.2.2.2.2.2.1,f x.2.2.2.2.2.2)
def q2 {B:Type}(x:(A0×A1×A2×B)×C):A2:=x.1.2.2.1
def q3 {B:Type}(x:(A0×A1×A2×A3×B)×C):A3:=x.1.2.2.2.1
def q4 {B:Type}(x:(A0×A1×A2×A3×A4×B)×C):A4:=x.1.2.2.2.2.1
def q5 {B:Type}(x:(A0×A1×A2×A3×A4×A5×B)×C):A5:=x.1.2.2.2.2.2.1
def q6 {B:Type}(x:(A0×A1×A2×A3×A4×A5×A6×B)×C):A6:=x.1.2.2.2.2.2.2.1
def q7 {A7 B:Type}(x:(A0×A1×A2×A3×A4×A5×A6×A7×B)×C):A7:=x.1.2.2.2.2.2.2.2.1
def q8 {A7 A8 B:Type}(x:(A0×A1×A2×A3×A4×A5×A6×A7×A8×B)×C):A8:=x.1.2.2.2.2.2.2.2.2.1
def q9 {A7 A8 A9 B:Type}(x:(A0×A1×A2×A3×A4×A5×A6×A7×A8×A9×B)×C):A9:=x.1.2.2.2.2.2.2.2.2.2.1
def c1 {B:Type}(f:A0->R)(a:A0×B):R:=f a.1
def c2 {B:Type}(f:A0->A1->R)(a:A0×A1×B):R:=f a.1 a.2.1
def c4 {B:Type}(f:A0->A1->A2->A3->R)(a:A0×A1×A2×A3×B):R:=f a.1 a.2.1 a.2.2.1 a.2.2.2.1
theorem f0 {E:Env}{Γ:xg}{F:Bb s->aw (hH rs)}{f:Nat}{fn:Func}(an:An)(hS:Sound P E Γ)(hf:P.funcs[f]?=some fn)(hn:(fn.name== "runtime.NumGoroutine")=false:=by kernel_rfl)(hl:gZ (fn.body.getD .skip)=[]:=by kernel_rfl)(dM:an.cut=[]:=by rfl)(hF:∀a,F5 E Γ an FL.nil fn rs (ia s a)=F a:=by intro a;kernel_rfl):kB P f (QL s rs F):=kB.of (aaF hS hf hn (zS.of (Fn.hF hl nF) dM)) hF
abbrev Y0:FT:=zpi (zpi (zpi zit))
abbrev Y1:FT:=PU (KE 36865 .str) (PU (KE 36868 gB) (PU (PU Y0 (PU (zpi (zpi (zpi (KE 36892 (.int .i64))))) (PU (KE 36895 xi) zit))) (PU (KE 36901 fA) (PU (KE 36904 vu) (PU (.sl .arg pN) (PU (.sl .arg .bool) (PU (zpi (PU .bool (.sl .arg (.int .i64)))) (PU (PU (.sl .arg Fe) (PU (.sl .arg xj) (PU .str (.sl .arg (.int .i64))))) (PU (.sl .arg fi) (PU .bool (PU (.sl .arg .str) (PU (.sl .arg (.int .i64)) (PU (.sl .arg (.int .i64)) (PU zit Y0))))))))))))))
abbrev Y2:FT:=zpi (zpi (zpi (.sl .arg (.int .i64))))
def E:Env:={ty:=[(3,⟨false,(.int .i64),[]⟩),
 (4,⟨false,.bool,[]⟩),
 (5,⟨false,(.int .u8),[]⟩),
 (9,⟨false,.str,[]⟩),
 (22,⟨false,(.sl (.int .u8)),[(5,0)]⟩),
 (24,⟨false,(.sl .str),[(9,0)]⟩),
 (26,⟨true,(.sl .str),[(0,1)]⟩),
 (27,⟨false,(.sl gB),[(254,0)]⟩),
 (29,⟨true,LA,[(0,1),(1,1),(2,1),(3,1)]⟩),
 (30,⟨false,(.sl (.int .i64)),[(3,0)]⟩),
 (32,⟨true,vu,[(0,1),(1,1),(2,1),(3,1)]⟩),
 (33,⟨false,(.sl xi),[(258,0)]⟩),
 (35,⟨true,qv,[(0,4),(4,4),(8,1),(9,1)]⟩),
 (36,⟨false,(.sl fA),[(141,0)]⟩),
 (37,⟨false,(.sl vu),[(32,0)]⟩),
 (38,⟨false,(.sl pN),[(156,0)]⟩),
 (39,⟨false,(.sl .bool),[(4,0)]⟩),
 (41,⟨true,Ca,[(0,1),(1,1),(2,1)]⟩),
 (42,⟨false,(.sl Fe),[(267,0)]⟩),
 (43,⟨false,(.sl xj),[(269,0)]⟩),
 (45,⟨true,(.sl xj),[(0,1)]⟩),
 (47,⟨true,GZ,[(0,1),(1,1)]⟩),
 (49,⟨true,uM,[(0,1),(1,1),(2,2)]⟩),
 (50,⟨false,(.sl fi),[(146,0)]⟩),
 (52,⟨true,Di,[(0,1),(1,1),(2,1),(3,1),(4,1)]⟩),
 (54,⟨true,da,[(0,1),(1,1),(2,10),(12,1),(13,1),(14,1),(15,1),(16,3),(19,4),(23,1),(24,1),(25,1),(26,1),(27,1),(28,5)]⟩),
 (55,⟨false,(.sl CV),[(116,0)]⟩),
 (63,⟨true,lC,[(0,3),(3,4),(7,1),(8,1),(9,1)]⟩),
 (73,⟨true,(.sl .str),[(0,1)]⟩),
 (74,⟨false,(.sl gB),[(286,0)]⟩),
 (75,⟨true,LA,[(0,1),(1,1),(2,1),(3,1)]⟩),
 (76,⟨true,vu,[(0,1),(1,1),(2,1),(3,1)]⟩),
 (77,⟨false,(.sl xi),[(365,0)]⟩),
 (79,⟨true,qv,[(0,4),(4,4),(8,1),(9,1)]⟩),
 (80,⟨false,(.sl fA),[(277,0)]⟩),
 (81,⟨false,(.sl vu),[(76,0)]⟩),
 (82,⟨false,(.sl pN),[(292,0)]⟩),
 (83,⟨true,Ca,[(0,1),(1,1),(2,1)]⟩),
 (84,⟨false,(.sl Fe),[(372,0)]⟩),
 (85,⟨false,(.sl xj),[(452,0)]⟩),
 (87,⟨true,(.sl xj),[(0,1)]⟩),
 (88,⟨true,GZ,[(0,1),(1,1)]⟩),
 (90,⟨true,uM,[(0,1),(1,1),(2,2)]⟩),
 (91,⟨false,(.sl fi),[(284,0)]⟩),
 (92,⟨true,Di,[(0,1),(1,1),(2,1),(3,1),(4,1)]⟩),
 (94,⟨true,da,[(0,1),(1,1),(2,10),(12,1),(13,1),(14,1),(15,1),(16,3),(19,4),(23,1),(24,1),(25,1),(26,1),(27,1),(28,5)]⟩),
 (95,⟨false,(.sl CV),[(108,0)]⟩),
 (104,⟨true,Dj,[(0,1),(1,1),(2,1),(3,1),(4,1),(5,1),(6,1),(7,1)]⟩),
 (106,⟨true,Ac,[(0,1),(1,1),(2,1),(3,1),(4,1),(5,1),(6,1),(7,1),(8,8)]⟩),
 (108,⟨true,CV,[(0,1),(1,16),(17,1),(18,1),(19,1),(20,1)]⟩),
 (112,⟨true,Dj,[(0,1),(1,1),(2,1),(3,1),(4,1),(5,1),(6,1),(7,1)]⟩),
 (114,⟨true,Ac,[(0,1),(1,1),(2,1),(3,1),(4,1),(5,1),(6,1),(7,1),(8,8)]⟩),
 (116,⟨true,CV,[(0,1),(1,16),(17,1),(18,1),(19,1),(20,1)]⟩),
 (137,⟨true,kv,[(0,1),(1,1),(2,1)]⟩),
 (139,⟨true,Ii,[(0,16),(16,1),(17,1)]⟩),
 (141,⟨true,fA,[(0,4),(4,3),(7,3),(10,18),(28,1),(29,1)]⟩),
 (144,⟨true,Di,[(0,1),(1,1),(2,1),(3,1),(4,1)]⟩),
 (146,⟨true,fi,[(0,5),(5,1),(6,1),(7,1)]⟩),
 (156,⟨true,pN,[(0,1),(1,1),(2,1),(3,1),(4,1),(5,1)]⟩),
 (210,⟨false,(.sl Ac),[(114,0)]⟩),
 (249,⟨true,Di,[(0,1),(1,1),(2,1),(3,1),(4,1)]⟩),
 (254,⟨true,gB,[(0,1),(1,1),(2,1),(3,1)]⟩),
 (258,⟨true,xi,[(0,1),(1,1),(2,1)]⟩),
 (267,⟨true,Fe,[(0,1),(1,1),(2,1),(3,1),(4,1),(5,1),(6,1),(7,1),(8,1)]⟩),
 (269,⟨true,xj,[(0,1),(1,5),(6,1)]⟩),
 (273,⟨true,kv,[(0,1),(1,1),(2,1)]⟩),
 (275,⟨true,Ii,[(0,16),(16,1),(17,1)]⟩),
 (277,⟨true,fA,[(0,4),(4,3),(7,3),(10,18),(28,1),(29,1)]⟩),
 (282,⟨true,Di,[(0,1),(1,1),(2,1),(3,1),(4,1)]⟩),
 (284,⟨true,fi,[(0,5),(5,1),(6,1),(7,1)]⟩),
 (286,⟨true,gB,[(0,1),(1,1),(2,1),(3,1)]⟩),
 (292,⟨true,pN,[(0,1),(1,1),(2,1),(3,1),(4,1),(5,1)]⟩),
 (365,⟨true,xi,[(0,1),(1,1),(2,1)]⟩),
 (372,⟨true,Fe,[(0,1),(1,1),(2,1),(3,1),(4,1),(5,1),(6,1),(7,1),(8,1)]⟩),
 (385,⟨false,(.sl nd),[(387,0)]⟩),
 (387,⟨true,nd,[(0,1),(1,1)]⟩),
 (388,⟨false,(.sl xh),[(392,0)]⟩),
 (392,⟨true,xh,[(0,1),(1,1),(2,1),(3,1),(4,1),(5,1)]⟩),
 (407,⟨true,TIp,[(0,1),(1,1),(2,1),(3,1),(4,1),(5,1),(6,1)]⟩),
 (410,⟨true,aos,[(0,1),(1,1),(2,1),(3,1),(4,1)]⟩),
 (442,⟨false,(.sl nd),[(446,0)]⟩),
 (446,⟨true,nd,[(0,1),(1,1)]⟩),
 (452,⟨true,xj,[(0,1),(1,5),(6,1)]⟩),
 (472,⟨false,(.int .u32),[]⟩)],eqs:=[(114,[.int,.int,.int,.int,.int,.int,.int,.int,.int,.int,.int,.int,.int,.int,.int,.str]),(139,[.int,.int,.int,.int,.int,.int,.int,.int,.int,.int,.int,.int,.int,.int,.int,.str,.int,.int]),(144,[.int,.int,.int,.int,.int]),(146,[.int,.int,.int,.int,.int,.int,.str,.bool]),(392,[.int,.int,.int,.int,.int,.int])],fts:=[]}
theorem base:Sound Tryz.prog E xg.nil:=Sound.nil (Vi (by kernel_rfl)) (Vl (by kernel_rfl)) (Vk (by kernel_rfl)) (by kernel_rfl)
structure SG where (g:xg) (s:Sound Tryz.prog E g)
def SG.add (S:SG){f:Nat}{F:zy}(h:zfo f F):SG:=⟨S.g.add f F,S.s.add h⟩
def G0:SG:=⟨xg.nil,base⟩
def SG.qk (S:SG){f:Nat}{fn:Func}(an:An)(hf:Tryz.prog.funcs[f]?=some fn)(s:au PS)(rs:au (Bool×FT))(F:Bb s->aw (hH rs)){l:au Code}(h:∀c∈l,WS E S.g an Λ c)(hn:(fn.name== "runtime.NumGoroutine")=false:=by kernel_rfl)(hl:gZ (fn.body.getD .skip)=l:=by kernel_rfl)(dM:an.cut=[]:=by kernel_rfl)(hF:∀a,F5 E S.g an Λ fn rs (ia s a)=F a:=by intro a;kernel_rfl):SG:=S.add (kB.of (aaF S.s hf hn (zS.of (Fn.hF hl h) dM)) hF)
def SG.q1 (S:SG){f:Nat}{fn:Func}(an:An)(hf:Tryz.prog.funcs[f]?=some fn)(s:au PS)(rs:au (Bool×FT))(F:Bb s->aw (hH rs))(d:SD)(t:{R:Type}->SD.D d->(Ex->AS->aw R)->(σ->aw R)->σ->aw R)(i:SD.D d->σ)(w:SD.D d->σ->SD.D d)(h1:(FL.nil.add (dp (fN fn 0)) (ZO d t i)) (dp (fN fn 0))=ZO d t i:=by kernel_rfl)(h:∀(R:Type)(X:SD.D d)(K:Y9 R)(m:Nat)(x:σ),zZ (an.mask (dp (fN fn 0))) (den E S.g an (FL.nil.add (dp (fN fn 0)) (ZO d t i)) (fN fn 0)) (m+1) (SD.enc d (w X x)) K=t X K (λy=>zZ (an.mask (dp (fN fn 0))) (den E S.g an (FL.nil.add (dp (fN fn 0)) (ZO d t i)) (fN fn 0)) m (SD.enc d (w X y)) K) x:=by intro R X K m x;kernel_rfl)(hw:∀X,w X (i X)=X:=by intro X;kernel_rfl)(hn:(fn.name== "runtime.NumGoroutine")=false:=by kernel_rfl)(hl:gZ (fn.body.getD .skip)=[fN fn 0]:=by kernel_rfl)(dM:an.cut=[]:=by kernel_rfl)(hF:∀a,F5 E S.g an (FL.nil.add (dp (fN fn 0)) (ZO d t i)) fn rs (ia s a)=F a:=by intro a;kernel_rfl):SG:=S.add (kB.of (aaF S.s hf hn (zS.of (Fn.hF hl (cF (lk d t i w h1 h hw) nF)) dM)) hF)
def Ty (T:Nat):Shape:=(iH E.ty T).getD ⟨false,.bool,[]⟩
def kF (k:FK):CT->FT
 | .pair a b=> .pair (kF k a) (kF k b)
 | .sl e=> .sl k e
 | .int k=> .int k
 | .bool=> .bool
 | .str=> .str
def sF:Nat->CT->FT
 |n,.pair a b=> .pair (sF n a) (sF (n+3*a.size) b)
 |n,.sl e=> .sl (.own (some n)) e
 |_,.int k=> .int k
 |_,.bool=> .bool
 |_,.str=> .str
def sg (fn:Func):au PS:=fn.params.toList.map λT=> .data (Ty T).agg (Ty T).ct
def rz (fn:Func):au (Bool×FT):=fn.resultTypes.toList.map λT=>((Ty T).agg,kF (.own none) (Ty T).ct)
def Cu (R:Type):au PS->Type
 |[]=>R
 | .data _ t::r=>t.D->Cu R r
 | .fn _::r=>Cu R r
def un:(s:au PS)->Cu R s->Bb s->R
 |[],f,_=>f
 | .data _ _::r,f,a=>un r (f a.1) a.2
 | .fn _::r,f,a=>un r f a
def dT:au PD->Nat->Type
 |[],_=>Unit
 | .data _ t::_,0=>t.ct.D
 |_::_,0=>Unit
 |_::r,n+1=>dT r n
def dG:(l:au PD)->(n:Nat)->EP l->dT l n
 |[],_,_=>()
 | .data _ _::_,0,x=>x.1
 | .bot::_,0,_=>()
 | .ptr _ _::_,0,_=>()
 | .fn _::_,0,_=>()
 | .data _ _::r,n+1,x=>dG r n x.2
 | .bot::r,n+1,x=>dG r n x
 | .ptr _ _::r,n+1,x=>dG r n x
 | .fn _::r,n+1,x=>dG r n x
def dP:(l:au PD)->(n:Nat)->dT l n->EP l->EP l
 |[],_,_,x=>x
 | .data _ _::_,0,y,x=>(y,x.2)
 | .bot::_,0,_,x=>x
 | .ptr _ _::_,0,_,x=>x
 | .fn _::_,0,_,x=>x
 | .data _ _::r,n+1,y,x=>(x.1,dP r n y x.2)
 | .bot::r,n+1,y,x=>dP r n y x
 | .ptr _ _::r,n+1,y,x=>dP r n y x
 | .fn _::r,n+1,y,x=>dP r n y x
def bT:au (aw FT)->Nat->Type
 |[],_=>Unit
 |some t::_,0=>t.ct.D
 |none::_,0=>Unit
 |_::r,n+1=>bT r n
def bG:(l:au (aw FT))->(n:Nat)->D0 l->bT l n
 |[],_,_=>()
 |some _::_,0,x=>x.1
 |none::_,0,_=>()
 |some _::r,n+1,x=>bG r n x.2
 |none::r,n+1,x=>bG r n x
def bP:(l:au (aw FT))->(n:Nat)->bT l n->D0 l->D0 l
 |[],_,_,x=>x
 |some _::_,0,y,x=>(y,x.2)
 |none::_,0,_,x=>x
 |some _::r,n+1,y,x=>(x.1,bP r n y x.2)
 |none::r,n+1,y,x=>bP r n y x
def pk (d:SD)(i:Nat):Nat:=match nth d.slots i with
 |some (.data _ _)=>0
 |some _=>1
 |none=>2
def PK (d:SD)(i:Nat):Nat->Type
 |0=>dT d.slots i
 |1=>bT d.boxes i
 |_=>ioD d.io
abbrev PT (d:SD)(i:Nat):Type:=PK d i (pk d i)
def gK (d:SD)(i:Nat)(X:d.D):(k:Nat)->PK d i k
 |0=>dG d.slots i X.1
 |1=>bG d.boxes i X.2.1
 |_+2=>X.2.2
def pK (d:SD)(i:Nat)(X:d.D):(k:Nat)->PK d i k->d.D
 |0,y=>(dP d.slots i y X.1,X.2)
 |1,y=>(X.1,bP d.boxes i y X.2.1,X.2.2)
 |_+2,y=>(X.1,X.2.1,y)
def St (d:SD):dI->Type
 |[]=>Unit
 |[p]=>PT d p
 |p::q::r=>PT d p×St d (q::r)
def gS (d:SD)(X:d.D):(l:dI)->St d l
 |[]=>()
 |[p]=>gK d p X (pk d p)
 |p::q::r=>(gK d p X (pk d p),gS d X (q::r))
def pS (d:SD):(l:dI)->St d l->d.D->d.D
 |[],_,X=>X
 |[p],y,X=>pK d p X (pk d p) y
 |p::q::r,y,X=>pS d (q::r) y.2 (pK d p X (pk d p) y.1)
def Cv (d:SD)(R:Type):dI->Type
 |[]=>R
 |p::r=>PT d p->Cv d R r
def aV (d:SD)(X:d.D):(l:dI)->Cv d R l->R
 |[],f=>f
 |p::r,f=>aV d X r (f (gK d p X (pk d p)))
def cV (d:SD)(K:d.D->R):(l:dI)->d.D->Cv d R l
 |[],X=>K X
 |p::r,X=>λy=>cV d K r (pK d p X (pk d p) y)
def Cz (d:SD)(R:Type):dI->Type
 |[]=>Unit->R
 |p::r=>Cv d R (p::r)
def cZ (d:SD)(K:d.D->R):(l:dI)->d.D->Cz d R l
 |[],X=>λ_=>K X
 |p::r,X=>cV d K (p::r) X
def pls (d:SD):dI:=(List.range d.slots.length).filter (λi=>match nth d.slots i with|some (.data _ _)=>true|_=>false)++(List.range d.slots.length).filter (λi=>match nth d.boxes i with|some (some _)=>true|_=>false)++match d.io with| .some _=>[d.slots.length]|_=>[]
def kps (d:SD):dI:=(List.range d.slots.length).filter λi=>(match nth d.slots i with|some .bot=>false|_=>true)||match nth d.boxes i with|some (some _)=>true|_=>false
def TT (d:SD)(s:dI)(R:Type):au (Ex×dI)->Type
 |[]=>Cv d ((St d s->aw R)->St d s->aw R) ((pls d).filter λi=> !s.contains i)
 |x::r=>Cz d (aw R) x.2->TT d s R r
def tT (d:SD)(s:dI)(X:d.D)(K:Y9 R):(l:au (Ex×dI))->TT d s R l->(St d s->aw R)->St d s->aw R
 |[],f=>aV d X _ f
 |x::r,f=>tT d s X K r (f (cZ d (λY=>K x.1 (d.enc Y)) x.2 X))
structure LS (fn:Func) where (d:SD) (σ:Type) (t:{R:Type}->d.D->(Ex->AS->Option R)->(σ->Option R)->σ->Option R) (i:d.D->σ) (w:d.D->σ->d.D)
def fo (i:Nat):Code->aw Oper
 | .region _ l _=>l.toList.find? λo=>match o.dst with|some j=>Nat.beq j i|none=>false
 | .seq a b=>match fo i a with|none=>fo i b|x=>x
 | .cond _ a b=>match fo i a with|none=>fo i b|x=>x
 | .block _ a=>fo i a
 | .loop a=>fo i a
 |_=>none
def kP (f:Nat->CT->FT)(fn:Func)(i:Nat):PD×aw FT:=match fn.params[i]?,fo i (fn.body.getD .skip)with
 |some T,_=>(.data (Ty T).agg (f (12288*i) (Ty T).ct),none)
 |_,some o=>match o.op with
  | .alloc T=>(.ptr i 0,some (f (12288*i+1) (Ty T).ct))
  | .box T _=>(.ptr i 0,some (f (12288*i+1) (Ty T).ct))
  |_=>(.data (Ty o.type).agg (f (12288*i) (Ty o.type).ct),none)
 |_,_=>(.bot,none)
def dS (fn:Func)(a b:dI)(x:au (Nat×PD×aw FT))(io:IoD):SD:=
 let l:=(List.range fn.ntmps).map λi=>match x.lookup i with
  |some y=>y
  |none=>bif a.contains i then kP sF fn i else bif b.contains i then kP (λ_=>kF .arg) fn i else(.bot,none)
 ⟨l.map (·.1),l.map (·.2),io⟩
def ld {fn:Func}(a b s:dI)(T:∀R,A R)(l:au (Ex×dI):=[(.exit 0,s)])(x:au (Nat×PD×aw FT):=[])(io:IoD:=.none)(h:∀R,A R=TT (dS fn a b x io) s R l:=by intro R;kernel_rfl):LS fn:=⟨dS fn a b x io,St (dS fn a b x io) s,λ{R} X K=>tT (dS fn a b x io) s X K l (cast (h R) (T R)),λX=>gS (dS fn a b x io) X s,λX y=>pS (dS fn a b x io) s y X⟩
structure CS (fn:Func) where (d:SD) (o:List Nat) (t:{R:Type}->d.D->(Ex->AS->Option R)->Option R)
def TC (d:SD)(R:Type):au (Ex×dI)->Type
 |[]=>Cv d (aw R) (pls d)
 |x::r=>Cz d (aw R) x.2->TC d R r
def tC (d:SD)(X:d.D)(K:Y9 R):(l:au (Ex×dI))->TC d R l->aw R
 |[],f=>aV d X _ f
 |x::r,f=>tC d X K r (f (cZ d (λY=>K x.1 (d.enc Y)) x.2 X))
def lc {fn:Func}(a b o:dI)(T:∀R,A R)(l:au (Ex×dI))(x:au (Nat×PD×aw FT):=[])(io:IoD:=.none)(h:∀R,A R=TC (dS fn a b x io) R l:=by intro R;kernel_rfl):CS fn:=⟨dS fn a b x io,o,λ{R} X K=>tC (dS fn a b x io) X (λe s=>K e (s.mask o)) l (cast (h R) (T R))⟩
def cu:FT:=.pair (.sl .ae6 (.int .u8)) (.pair (.int .i64) (.int .i64))
def lb {fn:Func}(a b s:dI)(T:∀R,A R)(l:au (Ex×dI):=[(.exit 0,s)])(x:au (Nat×PD×aw FT):=[])(h:∀R,A R=TT (dS fn a b ((0,.ptr 0 0,some cu)::x) .ptr) s R l:=by intro R;kernel_rfl):LS fn:=ld a b s T l ((0,.ptr 0 0,some cu)::x) .ptr h
def lx {fn:Func}(a b o:dI)(T:∀R,A R)(l:au (Ex×dI))(x:au (Nat×PD×aw FT):=[])(h:∀R,A R=TC (dS fn a b ((0,.ptr 0 0,some cu)::x) .ptr) R l:=by intro R;kernel_rfl):CS fn:=lc a b o T l ((0,.ptr 0 0,some cu)::x) .ptr h
section
variable (Γ:xg) (an:An) (fn:Func)
def lac (c:dI):Nat->au (CS fn)->FL
 |_,[]=>FL.nil
 |j,l::r=>(lac c (j+1) r).add (xo (Ce c fn j)) (mkc l.d l.t)
def lam (B:FL):Nat->au (LS fn)->FL
 |_,[]=>B
 |k,l::r=>(lam B (k+1) r).add (dp (fN fn k)) (ZO l.d l.t l.i)
def WQ (c:dI)(n:Nat):Nat->au (CS fn)->dI
 |_,[]=>[]
 |j,l::r=>bif Nat.beq n (xo (Ce c fn j)) then kps l.d else bif Nat.beq n (xo (Ce c fn j)+1) then l.o else WQ c n (j+1) r
def msk (c:dI)(y:au (CS fn))(n:Nat):Nat->au (LS fn)->dI
 |_,[]=>WQ fn c n 0 y
 |k,l::r=>bif Nat.beq n (dp (fN fn k)) then kps l.d else msk c y n (k+1) r
def wm (l:au (LS fn))(y:au (CS fn)):An:={an with mask:=λn=>msk fn an.cut y n 0 l}
def LL (Λ:FL):Nat->au (LS fn)->Prop
 |_,[]=>True
 |k,l::r=>Λ (dp (fN fn k))=ZO l.d l.t l.i/\(∀(R:Type)(X:l.d.D)(K:Y9 R)(m:Nat)(x:l.σ),zZ (an.mask (dp (fN fn k))) (den E Γ an Λ (fN fn k)) (m+1) (l.d.enc (l.w X x)) K=l.t X K (λy=>zZ (an.mask (dp (fN fn k))) (den E Γ an Λ (fN fn k)) m (l.d.enc (l.w X y)) K) x)/\(∀X,l.w X (l.i X)=X)/\LL Λ (k+1) r
def CC (Λ:FL):Nat->au (CS fn)->Prop
 |_,[]=>True
 |k,l::r=>Λ (xo (Ce an.cut fn k))=mkc l.d l.t/\(∀(R:Type)(X:l.d.D)(K:Y9 R),l.t X K=den E Γ an Λ (Ce an.cut fn k) (l.d.enc X) (λe st'=>K e (st'.mask (an.mask (xo (Ce an.cut fn k)+1)))))/\CC Λ (k+1) r
def OK (l:au (LS fn))(y:au (CS fn)):Prop:=(fn.name== "runtime.NumGoroutine")=false/\gZ (fn.body.getD .skip)=(List.range' 0 l.length).map (fN fn)/\kf an.cut (fn.body.getD .skip)=(List.range' 0 y.length).map (Ce an.cut fn)/\LL Γ (wm an fn l y) fn (lam fn (lac fn an.cut 0 y) 0 l) 0 l/\CC Γ (wm an fn l y) fn (lam fn (lac fn an.cut 0 y) 0 l) 0 y
end
section
variable {Γ:xg} {an:An} {fn:Func}
theorem LL.ok {Λ:FL}:∀{r:au (LS fn)}{k:Nat},LL Γ an fn Λ k r->∀c∈(List.range' k r.length).map (fN fn),WS E Γ an Λ c
 |[],_,_,_,h=>nomatch h
 |l::_,k,⟨h1,h2,h3,h4⟩,c,h=>by rcases cg.1 h with e|e;rw[e];exact lk l.d l.t l.i l.w h1 h2 h3;exact h4.ok c e
theorem CC.ok {Λ:FL}:∀{r:au (CS fn)}{k:Nat},CC Γ an fn Λ k r->∀c∈(List.range' k r.length).map (Ce an.cut fn),COk E Γ an Λ c
 |[],_,_,_,h=>nomatch h
 |l::_,k,⟨h1,h2,h3⟩,c,h=>by rcases cg.1 h with e|e;rw[e];exact ck l.d l.t h1 h2;exact h3.ok c e
theorem OK.all {l:au (LS fn)}{y:au (CS fn)}(h:OK Γ an fn l y):zS E Γ (wm an fn l y) (lam fn (lac fn an.cut 0 y) 0 l) (fn.body.getD .skip):=⟨Fn.hF h.2.1 h.2.2.2.1.ok,Fn.hF h.2.2.1 h.2.2.2.2.ok⟩
end
section
variable (S:SG) {f:Nat} {fn:Func} (an:An) (hf:Tryz.prog.funcs[f]?=some fn)
variable {A:Type}
noncomputable def SG.q (F:A)(l:au (LS fn):=[])(y:au (CS fn):=[])(rs:au (Bool×FT):=rz fn)(hA:A=Cu (aw (hH rs)) (sg fn):=by kernel_rfl)(h:OK S.g an fn l y:=by repeat' (first|exact trivial|apply And.intro|(intros;kernel_rfl)))(hF:∀a,F5 E S.g (wm an fn l y) (lam fn (lac fn an.cut 0 y) 0 l) fn rs (ia (sg fn) a)=un (sg fn) (cast hA F) a:=by intro a;kernel_rfl):SG:=
 S.add (kB.of (F:=un (sg fn) (cast hA F)) (aaF S.s hf h.1 h.all) hF)
noncomputable def SG.b (F:A)(l:au (LS fn):=[])(y:au (CS fn):=[])(t:FT:=cu)(rs:au (Bool×FT):=rz fn)(hA:A=(t.ct.D->Cu (aw (hH rs×t.ct.D)) (sg fn).tail):=by kernel_rfl)(h:OK S.g an fn l y:=by repeat' (first|exact trivial|apply And.intro|(intros;kernel_rfl)))(hF:∀x a,Ss E S.g (wm an fn l y) (lam fn (lac fn an.cut 0 y) 0 l) fn rs t (.val true (iK t x)::ia (sg fn).tail a)=un (sg fn).tail (cast hA F x) a:=by intro x a;kernel_rfl):SG:=
 S.add (kB.aix (F:=λx a=>un (sg fn).tail (cast hA F x) a) (ahV S.s hf h.1 h.all) hF)
noncomputable def SG.i (F:A)(l:au (LS fn):=[])(y:au (CS fn):=[])(rs:au (Bool×FT):=rz fn)(t:Nat:=fn.params.getD 0 0)(hA:A=((Ty t).ct.D->Cu (aw (hH rs×(Ty t).ct.D)) (sg fn).tail):=by kernel_rfl)(h:OK S.g an fn l y:=by repeat' (first|exact trivial|apply And.intro|(intros;kernel_rfl)))(hF:∀x a,Xp E S.g (wm an fn l y) (lam fn (lac fn an.cut 0 y) 0 l) fn rs (Ty t).ct (.val (Ty t).agg (cellsOf (Ty t).ct (.own none) x)::ia (sg fn).tail a)=un (sg fn).tail (cast hA F x) a:=by intro x a;kernel_rfl):SG:=
 S.add (kB.apd (F:=λx a=>un (sg fn).tail (cast hA F x) a) (aoz S.s hf h.1 h.all) hF)
noncomputable def SG.n (F:A)(t:FT)(l:au (LS fn):=[])(y:au (CS fn):=[])(hA:A=Cu (aw t.ct.D) (sg fn):=by kernel_rfl)(h:OK S.g an fn l y:=by repeat' (first|exact trivial|apply And.intro|(intros;kernel_rfl)))(hF:∀a,MX E S.g (wm an fn l y) (lam fn (lac fn an.cut 0 y) 0 l) fn t (ia (sg fn) a)=un (sg fn) (cast hA F) a:=by intro a;kernel_rfl):SG:=
 S.add (kB.aiy (F:=un (sg fn) (cast hA F)) (ahW S.s hf h.1 h.all) hF)
noncomputable def SG.v (F:A)(MK:au (Bool×FT))(l:au (LS fn):=[])(y:au (CS fn):=[])(rs:au (Bool×FT):=rz fn)(h2:hH MK=hH rs:=by kernel_rfl)(hA:A=Cu (aw (Bool×hH rs)) (sg fn):=by kernel_rfl)(h:OK S.g an fn l y:=by repeat' (first|exact trivial|apply And.intro|(intros;kernel_rfl)))(hF:∀a,evalAlt E S.g (wm an fn l y) (lam fn (lac fn an.cut 0 y) 0 l) fn rs MK h2 (ia (sg fn) a)=un (sg fn) (cast hA F) a:=by intro a;kernel_rfl):SG:=
 S.add (kB.ofAlt (h2:=h2) (F:=un (sg fn) (cast hA F)) (ada h2 S.s hf h.1 h.all) hF)
end
variable {R:Type}
def G49:=G0.q {merge:=mg [(1,6)]} func49 aC
def G74:=G49.q {} func74 tc [ld [2,7,8] [1,6] [8] @Dy [(.exit 0,[8]),(.ret,[2,8])]]
def ajX:=G74.q {merge:=mg [(4,25)]} func210 nu [ld [1,2,6,10,11] [9] [11] @sP [(.exit 0,[11]),(.ret,[6,11])]]
def G75:=ajX.q {merge:=mg [(4,37)]} func75 oP [ld [2,6,7] [0,5] [7] @om [(.exit 0,[7]),(.ret,[2,7])]]
def G79:=G75.q {merge:=mg [(1,21),(7,43)]} func79 iu [ld [2,3,27,28] [1,26] [3,28] @vQ [(.exit 0,[3,28]),(.ret,[2,3,28])]]
def alD:=G79.q {merge:=mg [(1,2)]} func330 tj
def ak2:=alD.q {} func295 iw
def alE:=ak2.q {} func331 iZ
def ajY:=alE.q {merge:=mg [(1,2)]} func211 jk
def ajj:=ajY.q {} func170 fI
def aje:=ajj.q {mv:=[7]} func165 hZ
def ajZ:=aje.q {merge:=mg [(3,21)],mv:=[10,24]} func212 fG
def G76:=ajZ.q {merge:=mg [(1,24),(8,50)],mv:=[55]} func76 AW [ld [2,3,4,31,32] [1,30] [3,4,32] @vT [(.exit 0,[3,4,32]),(.ret,[2,3,4,32])]]
def G77:=G76.q {merge:=mg [(4,29),(7,2)]} func77 pt [ld [2,7,8] [1,6] [8] @rD [(.exit 0,[8]),(.ret,[2,8])]]
def aj0:=G77.q {merge:=mg [(1,2)]} func213 ot
def alF:=aj0.q {merge:=mg [(1,18),(5,2),(7,2)]} func332 qK
def alG:=alF.q {merge:=mg [(1,2)]} func333 qP
def aj1:=alG.q {merge:=mg [(1,2)]} func214 ga
def G78:=aj1.q {merge:=mg [(1,42),(5,2)]} func78 xu
def aj2:=G78.q {merge:=mg [(1,2)]} func215 DA
def G80:=aj2.q {merge:=mg [(1,24),(3,2)]} func80 mm
def alH:=G80.q {merge:=mg [(1,33),(3,54),(5,2)]} func334 Co
def aj3:=alH.q {} func216 Ao [ld [2,6,7] [0,5] [7] @Fp [(.exit 0,[7]),(.ret,[2,7])]]
def alI:=aj3.q {merge:=mg [(4,23)]} func335 Cq [ld [3,4,9,10] [8] [10] @wa [(.exit 0,[10]),(.ret,[4,10])]]
def anl:=alI.q {} func445 xU [ld [3,16,17,18] [] [3,18] @nm]
def alJ:=anl.q {mv:=[10,18]} func336 IJ [ld [1,3,4] [] [3,4] @yf]
def aj4:=alJ.q {merge:=mg [(6,28),(9,40)]} func217 rP [ld [2,13,14] [1,12] [14] @ue [(.exit 0,[14]),(.ret,[2,14])],ld [2,3,13,14,49,50,51] [1,12] [51] @ns [(.exit 2,[51]),(.ret,[2,51])]]
def alK:=aj4.q {merge:=mg [(1,2)]} func337 Gu
def aj5:=alK.q {merge:=mg [(1,22)]} func218 yc [ld [1,4,25,26] [24] [26] @Dz [(.exit 0,[26]),(.ret,[4,26])]]
def G81:=aj5.q {merge:=mg [(1,25),(6,41),(12,59)]} func81 lv [ld [1,4,28,29] [2,27] [29] @ov [(.exit 0,[29]),(.ret,[4,29])],ld [1,4,46,47] [45] [47] @mQ [(.exit 2,[47]),(.ret,[4,47])]]
def G28:=G81.q {merge:=mg [(2,58),(7,89)]} func28 fT [ld [2,3,61,62] [1] [62] @vL [(.exit 0,[62]),(.ret,[2,62])],ld [2,3,103,104,105] [1] [105] @tZ [(.exit 2,[105]),(.ret,[2,105])]]
def aji:=G28.q {} func169 iM
def ajb:=aji.q {} func162 cW
def ajc:=ajb.q {} func163 vV
def akX:=ajc.q {mv:=[13,25]} func290 ti [ld [3,8,9] [7] [3,9] @rX]
def ajd:=akX.q {sb:=mg [(2,2)]} func164 qL
def ajf:=ajd.q {mv:=[7]} func166 oS
def akY:=ajf.q {} func291 vW
def akZ:=akY.q {sb:=mg [(2,2)]} func292 ug
def ajg:=akZ.q {sb:=mg [(2,2)]} func167 lO
def ajh:=ajg.q {} func168 iL
def G48:=ajh.q {mv:=[34,75],mb:=mg [(34,3)],sb:=mg [(39,3)]} func48 fH [ld [2,28,29] [1,27] [29,3] @rV [(.exit 0,[29,3])] [(3,.ptr 3 0,some Y1)]]
def an8:=G48.q {merge:=mg [(4,29)]} func496 El
def an9:=an8.q {merge:=mg [(2,6)]} func497 uW
def ane:=an9.q {merge:=mg [(1,29),(11,55),(16,73)],mv:=[56,74]} func438 yR [ld [2,3,4,5,12,13,14] [0,7] [3,4,14] @qM [(.exit 0,[3,4,14]),(.ret,[3,4,12,13,14])]]
def anf:=ane.q {mv:=[41]} func439 oQ [ld [1,2,8] [3] [1,8] @kG]
def alx:=anf.q {} func324 og [ld [14,31,32] [6] [14,32] @tY [(.exit 0,[14,32])] [(30,.data false (.sl .loc nd),Z)]]
def amH:=alx.q {merge:=mg [(1,11)]} func406 nq
def ak0:=amH.q {merge:=mg [(1,20)],sb:=mg [(9,9)]} func293 th
def amq:=ak0.q {} func380 uT
def ani:=amq.q {} func442 bX
def anv:=ani.q {merge:=mg [(1,2)]} func456 yN
def anw:=anv.q {} func457 fU
def ami:=anw.q {} func372 lu
def ang:=ami.q {merge:=mg [(1,13)]} func440 eK
def anh:=ang.q {merge:=mg [(1,13)]} func441 ie
def amI:=anh.q {sb:=mg [(4,4)]} func407 oO
def anu:=amI.q {merge:=mg [(1,17)]} func454 fj
def anW:=anu.q {merge:=mg [(1,27)]} func484 pX
def anX:=anW.q {} func485 eV
def aoq:=anX.q {merge:=mg [(1,12)]} func514 Aj
def aol:=aoq.q {} func509 yd [ld [0,3,4] [] [3,4] @rO]
def anY:=aol.q {} func486 iX
def aog:=anY.q {} func504 rU
def anO:=aog.q {merge:=mg [(8,39)]} func476 ju
def aop:=anO.q {merge:=mg [(1,2)]} func513 KY
def aoh:=aop.q {} func505 xW
def anP:=aoh.q {} func477 vG
def aoc:=anP.q {merge:=mg [(1,2)]} func500 Bs
def aoi:=aoc.q {} func506 ye
def anQ:=aoi.q {} func478 xO
def akL:=anQ.q {} func261 nX [ld [0,5,10,11] [] [5,11] @vZ]
def anR:=akL.q {} func479 Al
def amJ:=anR.q {} func408 gF
def anF:=amJ.q {nest:=[33],mv:=[19,49]} func465 rT [ld [1,2,6,8] [] [1,2,8] @mS]
def amw:=anF.q {mv:=[34,41,50,57],sb:=mg [(14,14)]} func386 Gt [ld [4,12,14,36,37] [] [4,37,14] @yQ [(.exit 0,[4,37,14])] [(35,.data false (.sl .loc nd),Z)]]
def amK:=amw.q {} func409 pq
def aoj:=amK.q {} func507 yP
def aok:=aoj.q {merge:=mg [(1,14)]} func508 vN [ld [0,1,5,6] [] [5,6] @pV]
def anS:=aok.q {merge:=mg [(1,14)]} func480 vJ [ld [0,1,5,6] [] [5,6] @pR]
def anT:=anS.q {} func481 vK
def amL:=anT.q {} func410 sZ
def aly:=amL.q {} func325 nv
def alA:=aly.q {} func327 vY
def anU:=alA.q {merge:=mg [(1,2)]} func482 lJ
def anV:=anU.q {merge:=mg [(1,12)]} func483 kU
def amM:=anV.q {merge:=mg [(1,22)],mv:=[26,37,41,51],mb:=mg [(41,13),(51,13)],sb:=mg [(10,10),(11,11),(13,13)]} func411 oq
def ak1:=amM.v {merge:=mg [(3,50)],sb:=mg [(12,12),(13,13),(20,20)]} func294 we [(true,(.sl .arg .str)),(true,(.pair (.int .i64) (.pair (.int .i64) (.int .i64)))),(false,.bool)]
def ajk:=ak1.q {merge:=mg [(1,31)],mv:=[52,66],mb:=mg [(66,16)],sb:=mg [(10,10),(11,11)]} func171 nj
def ak6:=ajk.q {merge:=mg [(1,9)]} func299 ox
def ak3:=ak6.q {} func296 xN
def ajl:=ak3.b {} func172 kI [ld [1,7] [] [7,0] @pZ [(.exit 0,[7,0])] [(0,.ptr 0 0,some (sF 1 da))] .ptr] (t:=(kF (.own none) da))
def G50:=ajl.q {mv:=[10,17,35,49],sb:=mg [(37,3)]} func50 qI [ld [2,3,13,14] [1] [14,3] @pT]
def amm:=G50.q {merge:=mg [(1,2)]} func376 mj
def aob:=amm.q {} func499 Eh [ld [0,3,4] [] [3,4] @sY,ld [0,3,4,5] [] [3,5] @po [(.exit 2,[3,5])]]
def anx:=aob.q {} func458 vU
def aoa:=anx.q {} func498 tX
def anj:=aoa.q {mv:=[21,26]} func443 xT [ld [3,10,11] [9] [3,11] @nk]
def ank:=anj.q {merge:=mg [(1,17),(4,30)],mv:=[83,87]} func444 Ej [ld [1,2,5,6,7] [] [6,7] @yb]
def alC:=ank.q {} func329 oR
def anz:=alC.q {merge:=mg [(4,33)],sb:=mg [(4,4)]} func459 td
def anA:=anz.q {merge:=mg [(2,22),(6,56)],sb:=mg [(5,5)]} func460 Am
def anB:=anA.q {merge:=mg [(3,20),(9,44),(12,68)]} func461 pW
def aml:=anB.q {merge:=mg [(2,20)]} func375 ig
def amN:=aml.q {merge:=mg [(1,24),(15,67)],mv:=[55,68],sb:=mg [(9,9)]} func412 vS [ld [2,7,8,9,10,11,12] [0,5] [12,7] @lN [(.exit 0,[12,7]),(.ret,[8,10,12,7,9])]]
def acC:=amN.q {merge:=mg [(4,19)]} func455 xX [ld [2,6,7] [0,5] [7] @rH [(.exit 0,[7]),(.ret,[2,7])]]
def aoy:zy:=Iu [pd (.sl nd),pI,pI] [(false,(.sl (.own none) xh))] [(false,(.sl .nil xh))] rfl λa=>iq a.1 a.2.1 a.2.2.1
def ahs:An:={mask:=mk [(5,[0,2,7,30,31,32]),(13,[6,7,54,55,56])],merge:=mg [(1,25)],nils:=[6],mv:=[49,64]}
abbrev Sn:SD:=⟨fO (T1 nd)::B::DI::bs 4 (fO (KE 86016 xh)::bs 22 (fO (T1 nd)::DI::DI::bs 32 [])),zs 65 [],.none⟩
def aeT (X:SD.D Sn)(K:Y9 R):=kg (λy0 y1=>ke 0 K Sn ((z2 (w y0 (z2 (u y1))) X.1),X.2)) X.1.1 X.1.2.1 (q3 X) (q4 X)
abbrev MU:SD:=⟨bs 7 (fO (KE 86016 xh)::bs 46 (fO (.sl .loc xh)::DI::DI::bs 8 [])),zs 65 [],.none⟩
abbrev Xe:SD:=⟨bs 6 (fO (.sl .nil xh)::fO (KE 86016 xh)::bs 46 (fO (.sl .loc xh)::DI::DI::bs 8 [])),zs 65 [],.none⟩
def aab (X:SD.D MU)(K:Y9 R):=jw (λy0=>ke 2 K MU ((z3 (u y0) X.1),X.2)) (λy0 y1=>kr K Xe ((y0,(X.1.1,(X.1.2.1,(X.1.2.2.1,(y1,()))))),(),())) X.1.1 X.1.2.1 (q2 X)
def agI:FL:=(FL.nil.add 5 (ZO Sn aeT (λX=>(q2 X,q5 X)))).add 13 (ZO MU aab q3)
theorem ahq:WS E acC.g ahs agI (fN f371 0):=lk Sn aeT (λX=>(q2 X,q5 X)) λX x=>((z2 (w x.1 (z2 (u x.2))) X.1),X.2)
theorem afH:WS E acC.g ahs agI (fN f371 1):=lk MU aab q3 λX x=>((z3 (u x) X.1),X.2)
theorem apc:zfo 371 aoy:=kB.ofAlt (ada (Γ:=acC.g) (an:=ahs) (Λ:=agI) (by rfl) (acC.s) func371 (by kernel_rfl) (ao (cF ahq (cF afH nF)))) (λa=>by kernel_rfl)
def agH:=acC.add apc
def aht:An:={mask:=mk [(5,[0,6,18,19,20]),(14,[0,2,3,4,5,6,9,10,11,51,52])],mv:=[24,65]}
abbrev So:SD:=⟨fO (T1 xh)::bs 5 (fO (KE 73728 nd)::bs 11 (fO (T1 xh)::DI::DI::bs 47 [])),zs 68 [],.none⟩
def aeU (X:SD.D So)(K:Y9 R):=kV (λy0 y1=>ke 0 K So ((z1 (w y0 (z2 (u y1))) X.1),X.2)) X.1.1 (q2 X) (q3 X)
abbrev MV:SD:=⟨fO (T1 xh)::bs 5 (fO (KE 73728 nd)::B::B::DI::DI::fO (KE 135168 xh)::bs 39 (DI::DI::bs 15 [])),zs 68 [],.none⟩
abbrev Xf:SD:=⟨fO (T1 xh)::B::fO (KE 24576 nd)::DI::DI::DB::fO (KE 73728 nd)::B::B::DI::DI::fO (KE 135168 xh)::bs 39 (DI::DI::bs 15 []),zs 68 [],.none⟩
def aac (X:SD.D MV)(K:Y9 R):=fZ (λy0=>ke 2 K MV ((z6 (u y0) X.1),X.2)) (λy0 y1 y2 y3 y4=>kr K Xf ((X.1.1,(y0,(y1,(y2,(y3,(X.1.2.1,(X.1.2.2.1,(X.1.2.2.2.1,(X.1.2.2.2.2.1,(X.1.2.2.2.2.2.1,(y4,()))))))))))),(),())) X.1.1 X.1.2.1 (q2 X) (q3 X) (q4 X) (q5 X)
def ahN:FL:=(FL.nil.add 5 (ZO So aeU (λX=>(X.1.2.1,q4 X)))).add 14 (ZO MV aac q6)
theorem ahr:WS E agH.g aht ahN (fN f413 0):=lk So aeU (λX=>(X.1.2.1,q4 X)) λX x=>((z1 (w x.1 (z2 (u x.2))) X.1),X.2)
theorem afI:WS E agH.g aht ahN (fN f413 1):=lk MV aac q6 λX x=>((z6 (u x) X.1),X.2)
def amO:=agH.qk aht func413 [pd (.sl xh)] [(false,(.sl (.own none) nd)),rI,rI,rB] (c1 oo) (cF ahr (cF afI nF))
def amP:=amO.q {} func414 pQ [ld [2,8,9,10,19,20] [0,5,18] [10,20] @lK [(.exit 0,[10,20]),(.ret,[8,9,10,20])]]
def ant:=amP.q {} func453 qQ
def amd:=ant.q {} func366 ml
def amQ:=amd.q {merge:=mg [(3,38),(9,74),(12,84),(17,117)]} func415 xQ
def ak4:=amQ.q {merge:=mg [(1,28)],sb:=mg [(8,8)]} func297 pY
abbrev agP:SD:=⟨fO (T1 gB)::B::DI::B::B::.ptr 5 0::B::.ptr 7 0::.ptr 8 0::fO (KE 110592 .str)::DI::DI::fO (KE 147456 .str)::DI::DI::bs 30 [],zs 5 ((zsm (T1 .str))::Z::(some Y0)::(some Y0)::zs 36 []),.none⟩
abbrev aas:SD:=⟨fO (T1 gB)::B::DI::B::B::.ptr 5 0::B::.ptr 7 0::.ptr 8 0::fO (KE 110592 .str)::DI::DI::fO (.sl .loc .str)::DI::DI::bs 30 [],zs 5 ((zsm (T1 .str))::Z::(some Y0)::(some Y0)::zs 36 []),.none⟩
def ajm:=ak4.q1 {mask:=mk [(3,[0,2,5,7,8,9,10,11,12,13,14])],mv:=[35,42]} func173 [pd (.sl gB),pf (.sl .str),pI,pf LA] [(true,Y0),(false,(.sl (.own none) .str)),rI,rI] (c4 rR) agP (λX K=>mR (λy0 y1 y2 y3 y4 y5 y6 y7=>kr K aas ((X.1.1,(X.1.2.1,(y0,(y1,(y2,(y3,(y4,(y5,())))))))),(X.2.1.1,(y6,(y7,()))),())) X.1.1 X.1.2.1 (q2 X) (q3 X) (q4 X) X.2.1.1 X.2.1.2.2.1) (λX=>(q5 X,q6 X,q7 X,X.2.1.2.1)) (λX x=>((z5 (w x.1 (w x.2.1 (u x.2.2.1))) X.1),(z1 (u x.2.2.2) X.2.1),X.2.2))
def ajn:=ajm.q {merge:=mg [(2,22)],mv:=[23,34,43,55,56]} func174 lI [ld [1,4,6,7,29,30] [2,28] [7,30,6] @jv]
def G51:=ajn.q {mv:=[15,33,37,51,54,58]} func51 lL
def ajo:=G51.q {merge:=mg [(1,11)]} func175 ow
def alz:=ajo.q {} func326 kT
def ajQ:=alz.q {merge:=mg [(7,46)],sb:=mg [(8,8),(9,9)]} func203 mP
def amx:=ajQ.q {merge:=mg [(1,15)]} func387 fz
def ame:=amx.q {} func367 tf
def amy:=ame.q {merge:=mg [(1,22)],mv:=[26,36,40,50],mb:=mg [(40,13),(50,13)],sb:=mg [(10,10),(11,11),(13,13)]} func388 vR
def akN:=amy.q {merge:=mg [(2,34)],mv:=[35,37,53,65,76,78],mb:=mg [(35,14),(37,15),(65,20),(76,14),(78,15)],sb:=mg [(8,8),(10,10),(11,11),(12,12),(14,14),(15,15)]} func263 iY [ld [2,8,10,11,12,14,15,16,40,41] [0,9,39] [16,41,8,14] @ni]
def ajR:=akN.q {} func204 gU [ld [3,4,8,9] [7] [9] @jR [(.exit 0,[9]),(.ret,[4,9])]]
def alB:=ajR.q {merge:=mg [(17,82)],mv:=[16,31,51,58,67,83,132],er:=mg [(115,5)]} func328 rC
def ak5:=alB.q {merge:=mg [(2,48)],mv:=[49,51,52,96,104,117,119,120],mb:=mg [(49,19),(51,20),(117,19),(119,20)],sb:=mg [(14,14),(15,15),(16,16),(19,19),(20,20)]} func298 vP [ld [2,6,10,14,15,16,19,20,21,22] [0] [21,22,10,20] @lM]
def ajp:=ak5.b {mv:=[8,49,51,52],sb:=mg [(55,0),(59,0)],fm:=[19,20],eb:=mg [(56,0),(57,0)]} func176 kq (t:=(kF (.own none) da))
def ajq:=ajp.q {} func177 yO
def G52:=ajq.q {merge:=mg [(2,21)],mv:=[22,78]} func52 np [ld [1,4,6,7,25,26] [] [7,26,6] @mO]
def ajr:=G52.q {} func178 uf
def G53:=ajr.q {mv:=[10,28]} func53 ta [ld [2,3,13,14] [] [14,3] @rG]
def G73:=G53.q {merge:=mg [(1,12),(3,31),(5,2)]} func73 Br
def amf:=G73.q {} func368 qa [ld [3,8,9] [7] [3,9] @lP]
def amg:=amf.q {merge:=mg [(2,20)],mv:=[21,28],mb:=mg [(28,7)],sb:=mg [(4,4)]} func369 rQ
def ae1:=amg.q {} func259 jj
def aox:zy:=Iu [pd (.sl gB),pf (.sl .str),pI,pf vu,pd (.sl (.int .i64)),pd .str,pI] [(true,(.sl (.own none) .str)),(false,(.sl (.own none) nd)),rB] [(true,(.sl .arg .str)),(false,(.sl (.own none) nd)),rB] rfl λa=>nt a.1 a.2.1 a.2.2.1 a.2.2.2.1 a.2.2.2.2.1 a.2.2.2.2.2.1 a.2.2.2.2.2.2.1
def aiu:An:={mask:=mk [(3,[0,2,5,6,8,10,14,15,16,17,24,25,26])],peel:=[3],mv:=[40,49,53,54,55,65,66],sb:=mg [(21,21)]}
abbrev Sm:SD:=⟨fO (T1 gB)::B::DI::B::B::fO .str::DI::B::.ptr 8 0::B::.ptr 10 0::B::B::B::.ptr 14 0::fO (KE 184320 nd)::DB::fO (KE 208896 nd)::bs 6 (fO (T1 (.int .i64))::DI::DI::bs 40 []),zs 8 ((zsm (KE 98305 .str))::Z::(some Y2)::Z::Z::Z::(zsm (KE 172033 .str))::zs 52 []),.none⟩
abbrev aau:SD:=⟨fO (T1 gB)::B::DI::B::B::fO .str::DI::B::.ptr 8 0::B::.ptr 10 0::B::B::B::.ptr 14 0::fO (KE 184320 nd)::DB::fO (KE 208896 nd)::bs 6 (fO (T1 (.int .i64))::DI::DI::bs 40 []),zs 8 ((zsm (.sl .loc .str))::Z::(some Y2)::Z::Z::Z::(zsm (KE 172033 .str))::zs 52 []),.none⟩
def aeS (X:SD.D Sm)(K:Y9 R):=jS (λy0 y1 y2 y3=>ke 0 K Sm ((z2 (w y0 (z3 (w y1 (z2 (u y2))))) X.1),(u y3 X.2.1),X.2.2)) (λy0 y1 y2 y3 y4 y5 y6=>kr K aau ((X.1.1,(X.1.2.1,(y0,(X.1.2.2.2.1,(y1,(y2,(y3,(X.1.2.2.2.2.2.2.2.1,(X.1.2.2.2.2.2.2.2.2.1,(y4,())))))))))),(y5,(X.2.1.2.1,(y6,()))),())) X.1.1 X.1.2.1 (q3 X) (q4 X) (q5 X) (q7 X) (q8 X) X.2.1.2.1 X.2.1.2.2.1
def ahM:FL:=FL.nil.add 3 (ZO Sm aeS (λX=>(q2 X,q6 X,q9 X,X.2.1.1)))
theorem ahp:WS E ae1.g aiu ahM (fN f370 0):=lk Sm aeS (λX=>(q2 X,q6 X,q9 X,X.2.1.1)) λX x=>((z2 (w x.1 (z3 (w x.2.1 (z2 (u x.2.2.1))))) X.1),(u x.2.2.2 X.2.1),X.2.2)
theorem apb:zfo 370 aox:=kB.ofAlt (ada (Γ:=ae1.g) (an:=aiu) (Λ:=ahM) (by rfl) (ae1.s) func370 (by kernel_rfl) (ao (cF ahp nF))) (λa=>by kernel_rfl)
def amh:=ae1.add apb
def amj:=amh.q {mv:=[27,43],mb:=mg [(43,13)],sb:=mg [(10,10),(11,11),(13,13),(14,14)]} func373 jH [ld [2,8,10,11,12,13,14,22,23] [0,6,21] [23,13,14] @kH [(.exit 0,[23,13,14]),(.ret,[12,23,10,11,13,14])]]
def akE:=amj.q {merge:=mg [(2,57),(6,92),(15,135)],mv:=[58,59,93,94,97,107,108,109,122,123,136,137,145,151,164,165,169,174,184,185],mb:=mg [(58,17),(59,18),(93,17),(94,18),(107,17),(108,18),(136,17),(137,18),(164,17),(165,18),(184,26),(185,22)],sb:=mg [(14,14),(15,15),(17,17),(18,18),(26,26)]} func253 ud [ld [2,14,15,17,18,22,24,28,29,140,141] [0,10] [29,141] @fK [(.exit 0,[29,141])] [(26,.ptr 26 0,some (.sl .loc .str)),(139,.data false (.sl .loc xh),Z)]]
def ai5:=akE.q {mv:=[19,20,34,36,38]} func125 xV
def amk:=ai5.q {merge:=mg [(2,17)]} func374 xP
def akF:=amk.q {} func254 qJ
def amn:=akF.q {} func377 uV [ld [1,4,8,9] [7] [9] @vX [(.exit 0,[9]),(.ret,[4,9])]]
def akG:=amn.q {merge:=mg [(1,4)]} func255 vF
def aod:=akG.q {} func501 oT
def anC:=aod.q {merge:=mg [(1,4)]} func462 rJ
def amo:=anC.q {merge:=mg [(7,34)]} func378 xS [ld [3,5,12,13] [0,11] [5,13] @rE]
def amp:=amo.q {} func379 xR
def anD:=amp.q {merge:=mg [(2,17)]} func463 Ak
def amr:=anD.q {merge:=mg [(2,18)]} func381 rN
def akH:=amr.q {merge:=mg [(1,17)]} func256 nr
def anE:=akH.q {} func464 xZ
def ams:=anE.q {merge:=mg [(1,42),(4,76),(6,4)]} func382 vH
def amt:=ams.q {} func383 Hk
def amu:=amt.q {} func384 Gs
def akI:=amu.q {merge:=mg [(1,30),(3,44)],mv:=[53,68,77],mb:=mg [(77,16)],sb:=mg [(14,14),(15,15)]} func257 ou
def ai6:=akI.q {mv:=[14,34,46,62,69,90,103],sb:=mg [(92,5)]} func126 rF
def amv:=ai6.q {mv:=[24,29]} func385 vO [ld [2,6,8,9] [] [9,8] @ua]
def akJ:=amv.q {mv:=[3,8]} func258 Ek
def akK:=akJ.q {} func260 qN
def akM:=akK.q {mv:=[10,24],mb:=mg [(24,5)],sb:=mg [(2,2),(3,3)]} func262 xv
def ai7:=akM.q {mv:=[18,37,88,98,121,142],sb:=mg [(90,3)]} func127 vM [ld [2,3,21,22] [] [22,3] @pU,ld [2,3,31,32] [] [32,3] @oh [(.exit 2,[32,3])] [(30,.data false (.sl .loc xi),Z)],ld [2,3,54,55] [] [55,3] @kE [(.exit 4,[55,3])]]
def G38:=ai7.q {merge:=mg [(1,15)],mv:=[22,34,35]} func38 Ei
def G10:=G38.q {merge:=mg [(2,21)],mv:=[22,30,36,37,42,43]} func10 Ap [ld [4,6,7,25,26] [24] [7,26,6] @ub]
def G11:=G10.q {merge:=mg [(2,23)],mv:=[24,33,40]} func11 vI [ld [1,2,6,7,8] [] [8,7] @pP]
def G19:=G11.q {} func19 nn [ld [3,8,9] [7] [3,9] @mN]
def G69:=G19.q {merge:=mg [(2,6)]} func69 qO
def G22:=G69.q {} func22 xY [ld [4,10,11] [0,1,9] [11] @rK [(.exit 0,[11]),(.ret,[4,11])],ld [4,23,24] [0,1,22] [24] @rL [(.exit 2,[24]),(.ret,[4,24])]]
def ajS:=G22.q {sb:=mg [(2,2)]} func205 mn
def ajT:=ajS.q {merge:=mg [(1,2)]} func206 uU
def ajU:=ajT.q {merge:=mg [(3,35)],mv:=[41]} func207 rM
def ajV:=ajU.q {mv:=[13,19],mb:=mg [(13,7)],sb:=mg [(18,7)]} func208 ya
def G70:=ajV.q {merge:=mg [(2,26),(10,47)],mv:=[27,65]} func70 Aq [ld [6,7,29,30] [2,28] [30,7] @uc]
def G71:=G70.q {} func71 Cp
def G24:=G71.q {merge:=mg [(1,16),(6,4)]} func24 pO
def G60:=G24.q {sb:=mg [(2,2)]} func60 sH
def ajE:=G60.q {} func191 AH
def G61:=ajE.q {sb:=mg [(2,2)]} func61 sD
def G54:=G61.q {sb:=mg [(2,2)]} func54 sI
def G63:=G54.q {merge:=mg [(1,6)]} func63 aI
def ajs:=G63.q {merge:=mg [(4,35),(6,2)]} func179 pC [ld [2,3] [1] [3] @sj [(.exit 0,[3]),(.ret,[2,3])]]
def amR:=ajs.q {merge:=mg [(1,33),(3,54),(5,2)]} func416 mf
def ak7:=amR.q {} func300 wR [ld [2,3] [0] [3] @zQ [(.exit 0,[3]),(.ret,[2,3])]]
def anL:=ak7.q {} func473 yw [ld [3,4,5] [] [3,5] @nJ]
def amS:=anL.q {merge:=mg [(7,39)]} func417 AI [ld [3,4,5] [2] [5] @uA [(.exit 0,[5]),(.ret,[4,5])]]
def ak8:=amS.q {merge:=mg [(7,30),(10,42)]} func301 wS [ld [2,3] [1] [3] @ux [(.exit 0,[3]),(.ret,[2,3])]]
def amT:=ak8.q {merge:=mg [(1,2)]} func418 AG
def ak9:=amT.q {merge:=mg [(1,21)]} func302 tP [ld [1,4,5] [2] [5] @sr [(.exit 0,[5]),(.ret,[4,5])]]
def ajt:=ak9.q {merge:=mg [(1,23)]} func180 lA [ld [1,4,5] [2] [5] @oJ [(.exit 0,[5]),(.ret,[4,5])],ld [1,4,6] [2] [6] @uK [(.exit 2,[6]),(.ret,[4,6])]]
def G55:=ajt.q {merge:=mg [(1,2)]} func55 vl
def G56:=G55.q {merge:=mg [(1,12),(3,31),(5,2)]} func56 BV
def amU:=G56.q {merge:=mg [(1,18),(4,2),(5,2)]} func419 ri
def alb:=amU.q {merge:=mg [(1,55),(3,3),(4,2)]} func304 gI
def akO:=alb.q {merge:=mg [(1,2)]} func274 mB
def amD:=akO.q {} func395 EX [ld [0,3,4] [] [3,4] @tJ,ld [0,3,4,5] [] [3,5] @pB [(.exit 2,[3,5])]]
def akQ:=amD.q {} func276 wV
def akT:=akQ.q {merge:=mg [(1,16)]} func286 yq
def anJ:=akT.q {merge:=mg [(1,2)]} func469 xF
def akR:=anJ.q {merge:=mg [(1,6)]} func277 nQ
def anM:=akR.q {} func474 dF
def anN:=anM.q {} func475 gN
def amE:=anN.q {sb:=mg [(4,4)]} func403 yz
def ai9:=amE.q {} func154 ee
def alf:=ai9.q {} func308 bS
def anr:=alf.q {} func451 eR
def aoo:=anr.q {merge:=mg [(1,12)]} func512 oA
def aoe:=aoo.q {} func502 yE [ld [0,3,4] [] [3,4] @sv]
def anH:=aoe.q {} func467 kt
def aof:=anH.q {merge:=mg [(1,2)]} func503 Hx
def anI:=aof.q {} func468 yy
def amA:=anI.q {} func392 wG
def amF:=amA.q {merge:=mg [(2,22),(6,56)],sb:=mg [(5,5)]} func404 AD
def anG:=amF.q {merge:=mg [(1,27)]} func466 jC
def amz:=anG.q {merge:=mg [(14,82)]} func391 jA
def amG:=amz.q {merge:=mg [(3,20),(9,44),(12,68)]} func405 ql
def akU:=amG.q {merge:=mg [(2,20)]} func287 im
def aja:=akU.q {} func160 rh
def ala:=aja.q {} func303 vm [ld [1,4,5] [0] [5] @wX [(.exit 0,[5]),(.ret,[4,5])]]
def aju:=ala.q {merge:=mg [(1,4)]} func181 wF
def akV:=aju.q {} func288 vk
def anZ:=akV.q {merge:=mg [(1,4)]} func487 zR
def amV:=anZ.q {merge:=mg [(1,4)]} func420 so
def alc:=amV.q {merge:=mg [(3,14),(5,39)]} func305 yu [ld [3,5,6] [0] [5,6] @nG]
def ald:=alc.q {} func306 yt
def aom:=ald.q {} func510 zl
def aon:=aom.q {merge:=mg [(1,14)]} func511 wN [ld [0,1,5,6] [] [5,6] @qj]
def an3:=aon.q {merge:=mg [(1,14)]} func491 wJ [ld [0,1,5,6] [] [5,6] @qg]
def an4:=an3.q {} func492 wK
def am3:=an4.q {} func428 tL
def amW:=am3.q {merge:=mg [(2,17)]} func421 AA
def ale:=amW.q {merge:=mg [(2,18)]} func307 su
def ajv:=ale.q {merge:=mg [(1,17)]} func182 nP
def akW:=ajv.q {} func289 gW [ld [3,4,5] [0] [5] @jY [(.exit 0,[5]),(.ret,[4,5])]]
def ajw:=akW.q {merge:=mg [(17,84)],mv:=[16,31,53,60,69,85,139]} func183 si
def G57:=ajw.q {merge:=mg [(3,35)],mv:=[41]} func57 sq
def anK:=G57.q {} func470 iA
def amB:=anK.q {} func393 yp
def akS:=amB.q {} func285 sC [ld [0,1,5,6] [] [5,6] @uz]
def amC:=akS.q {} func394 AB
def akP:=amC.q {} func275 gH
def ai8:=akP.q {} func152 um
def alg:=ai8.q {mv:=[23,27]} func309 yv [ld [3,4] [0] [3,4] @nI]
def alh:=alg.q {merge:=mg [(2,17),(5,31)],mv:=[18,32,87,91]} func310 EZ [ld [1,2,5,6,7] [] [5,7] @yD]
def ajx:=alh.q {} func184 pb
def G58:=ajx.q {mv:=[13,19],mb:=mg [(13,7)],sb:=mg [(18,7)]} func58 tO
def G13:=G58.q {merge:=mg [(2,25),(10,64)],mv:=[26,77],sb:=mg [(7,7)]} func13 AF [ld [6,7,8] [1,2] [8,7] @uv]
def ajy:=G13.q {} func185 pD [ld [2,3] [1] [3] @sm [(.exit 0,[3]),(.ret,[2,3])]]
def ajz:=ajy.q {merge:=mg [(7,34),(12,57)]} func186 oY [ld [2,3] [0] [3] @oD [(.exit 0,[3]),(.ret,[2,3])],ld [2,3,4,5] [0] [5] @mX [(.exit 2,[5]),(.ret,[2,5])]]
def ajC:=ajz.q {merge:=mg [(1,20),(7,50)]} func189 iz [ld [2,3,4] [1] [3,4] @wP [(.exit 0,[3,4]),(.ret,[2,3,4])]]
def amX:=ajC.q {merge:=mg [(1,2)]} func422 sE
def amY:=amX.q {} func423 jb
def ali:=amY.q {merge:=mg [(1,2)]} func311 jn
def ajH:=ali.q {sb:=mg [(2,2)]} func194 jd
def alj:=ajH.q {merge:=mg [(3,21)],mv:=[10,24]} func312 gh
def ajA:=alj.q {merge:=mg [(1,24),(9,50),(14,2)],mv:=[55]} func187 Ba [ld [2,3,4,5] [1] [3,4,5] @wU [(.exit 0,[3,4,5]),(.ret,[2,3,4,5])]]
def alk:=ajA.q {merge:=mg [(1,2)]} func313 oG
def ajB:=alk.q {merge:=mg [(1,42),(5,2)]} func188 xG
def alm:=ajB.q {merge:=mg [(1,2)]} func314 rj
def ajD:=alm.q {merge:=mg [(1,24),(3,2)]} func190 jc
def G59:=ajD.q {merge:=mg [(2,64),(7,94)]} func59 fV [ld [2,3,4] [1] [4] @wL [(.exit 0,[4]),(.ret,[2,4])],ld [2,5,6] [] [6] @uq [(.exit 2,[6]),(.ret,[2,6])]]
def G14:=G59.q {sb:=mg [(2,2)]} func14 CR
def ajF:=G14.q {} func192 de
def ajG:=ajF.q {mv:=[27,40],mb:=mg [(27,3)],sb:=mg [(3,3),(39,3)]} func193 je [ld [2,3,4] [1] [4,3] @uD]
def G62:=ajG.q {mv:=[34,82],mb:=mg [(34,3)],sb:=mg [(43,3)]} func62 gi [ld [2,4] [1] [4,3] @uE [(.exit 0,[4,3])] [(3,.ptr 3 0,some Y1)]]
def an6:=G62.q {merge:=mg [(4,42)]} func494 AJ [ld [1,2,3,8,9] [0] [9] @uB [(.exit 0,[9]),(.ret,[8,9])]]
def an7:=an6.q {merge:=mg [(2,6)]} func495 kQ
def ana:=an7.q {merge:=mg [(3,34),(10,57)],mv:=[35,36,64,71,81,82]} func435 tQ [ld [2,3,4,5,12,13,14,15,16] [0,7] [3,4,15,16] @kz [(.exit 0,[3,4,15,16]),(.ret,[3,4,12,13,14,15,16])]]
def anb:=ana.q {} func436 pa [ld [1,2,8] [3] [1,2,8] @oH]
def alu:=anb.q {} func321 oB [ld [15,16] [6] [15,16] @uo [(.exit 0,[15,16])] [(12,.data false (.sl .loc (.int .i64)),Z),(13,.data false (.sl .loc (.int .i64)),Z)]]
def amZ:=alu.q {merge:=mg [(1,11)]} func424 nO
def aln:=amZ.q {merge:=mg [(1,20)],sb:=mg [(9,9)]} func315 tN
def anq:=aln.q {merge:=mg [(1,2)]} func450 rb
def al7:=anq.q {} func360 lz
def am0:=al7.q {sb:=mg [(4,4)]} func425 oX
def an0:=am0.q {mv:=[19,52]} func488 sB [ld [1,2,6,8] [] [1,2,8] @na]
def am1:=an0.q {mv:=[32,39,52,60],sb:=mg [(15,15)]} func426 mA [ld [4,10,15,16] [] [4,16,15] @nD [(.exit 0,[4,16,15])] [(12,.data false (.sl .loc (.int .i64)),Z),(13,.data false (.sl .loc (.int .i64)),Z)]]
def am9:=am1.q {} func434 tR
def an1:=am9.q {merge:=mg [(1,2)]} func489 lZ
def an2:=an1.q {merge:=mg [(1,12)]} func490 kY
def am2:=an2.q {merge:=mg [(1,22)],mv:=[26,44,59],mb:=mg [(59,13)],sb:=mg [(10,10),(11,11),(13,13)]} func427 oF
def alo:=am2.q {merge:=mg [(3,46)],mv:=[90],sb:=mg [(12,12),(13,13)]} func316 yG
def ajI:=alo.q {merge:=mg [(1,30),(5,58)],mv:=[44,75],mb:=mg [(75,15)],sb:=mg [(10,10),(11,11)]} func195 nH
def alw:=ajI.q {} func323 mD
def alp:=alw.q {} func317 yo
def ajJ:=alp.b {} func196 kR [ld [1,6,7] [] [7,0] @qn [(.exit 0,[7,0])] [(0,.ptr 0 0,some (sF 1 da))] .ptr] (t:=(kF (.own none) da))
def G64:=ajJ.q {merge:=mg [(3,17)],mv:=[20,35,37,53],sb:=mg [(5,5),(6,6)]} func64 re [ld [2,3,4] [1] [4,3] @mc]
def am4:=G64.q {merge:=mg [(2,25),(7,50),(12,69)],mv:=[26,57,70],sb:=mg [(9,9)]} func429 wT [ld [2,7,8,9,10,11] [0,5] [11,7] @mh [(.exit 0,[11,7]),(.ret,[8,10,11,7,9])]]
def anp:=am4.q {merge:=mg [(4,24)]} func449 yA [ld [2,3] [0] [3] @sn [(.exit 0,[3]),(.ret,[2,3])]]
def al6:=anp.q {merge:=mg [(2,33)],mv:=[63,67],sb:=mg [(9,9)]} func359 jV [ld [2,6,7,8] [0] [7,8] @kl [(.exit 0,[7,8]),(.ret,[6,7,8])]]
def an5:=al6.q {} func493 AK [ld [4,5] [0,1] [5] @uC [(.exit 0,[5]),(.ret,[4,5])]]
def am5:=an5.q {merge:=mg [(6,46)],mv:=[15,48]} func430 oE [ld [6,7] [0] [6,7] @kZ]
def am6:=am5.q {} func431 qf [ld [2,8,9,10,11] [0,3,5] [10,11] @ma [(.exit 0,[10,11]),(.ret,[8,9,10,11])]]
def ano:=am6.q {} func448 wW
def al1:=ano.q {} func354 mC
def am7:=al1.q {merge:=mg [(2,36),(7,61),(12,98)]} func432 yr
def alq:=am7.q {merge:=mg [(2,31),(6,55),(11,85)],mv:=[33,57,87],sb:=mg [(8,8)]} func318 qm
abbrev agQ:SD:=⟨fO (T1 gB)::B::DI::B::B::.ptr 5 0::B::.ptr 7 0::.ptr 8 0::fO (KE 110592 .str)::DI::DI::fO (KE 147456 .str)::DI::DI::bs 29 [],zs 5 ((zsm (T1 .str))::Z::(some Y0)::(some Y0)::zs 35 []),.none⟩
abbrev aat:SD:=⟨fO (T1 gB)::B::DI::B::B::.ptr 5 0::B::.ptr 7 0::.ptr 8 0::fO (KE 110592 .str)::DI::DI::fO (.sl .loc .str)::DI::DI::bs 29 [],zs 5 ((zsm (T1 .str))::Z::(some Y0)::(some Y0)::zs 35 []),.none⟩
def ajK:=alq.q1 {mask:=mk [(4,[0,2,5,7,8,9,10,11,12,13,14])],mv:=[31,35]} func197 [pd (.sl gB),pf (.sl .str),pI,pf LA] [(true,Y0),(false,(.sl (.own none) .str)),rI,rI] (c4 sA) agQ (λX K=>mZ (λy0 y1 y2 y3 y4 y5 y6 y7=>kr K aat ((X.1.1,(X.1.2.1,(y0,(y1,(y2,(y3,(y4,(y5,())))))))),(X.2.1.1,(y6,(y7,()))),())) X.1.1 X.1.2.1 (q2 X) (q3 X) (q4 X) X.2.1.1 X.2.1.2.2.1) (λX=>(q5 X,q6 X,q7 X,X.2.1.2.1)) (λX x=>((z5 (w x.1 (w x.2.1 (u x.2.2.1))) X.1),(z1 (u x.2.2.2) X.2.1),X.2.2))
def ajL:=ajK.q {merge:=mg [(3,22)],mv:=[23,24,30,39,49,53,55,57,58],sb:=mg [(51,6)]} func198 lY [ld [1,4,6,7,8] [2] [7,8,6] @jB]
def G65:=ajL.q {mv:=[15,33,37,51,54,58]} func65 md
def ajM:=G65.q {merge:=mg [(1,11)]} func199 oK
def am8:=ajM.q {merge:=mg [(1,12)]} func433 kX
def alr:=am8.q {merge:=mg [(5,54)],sb:=mg [(8,8),(9,9)]} func319 mY
def als:=alr.q {merge:=mg [(1,15)]} func320 iR
def al3:=als.q {} func356 pE
def anc:=al3.q {merge:=mg [(1,22)],mv:=[26,36,51],mb:=mg [(51,13)],sb:=mg [(10,10),(11,11),(13,13)]} func437 wQ
def alv:=anc.q {merge:=mg [(4,32),(6,44)],mv:=[33,35,49,63,68,78,80],mb:=mg [(33,14),(35,15),(78,14),(80,15)],sb:=mg [(10,10),(11,11),(12,12),(18,18),(19,19)]} func322 tK [ld [2,8,10,11,12,14,15,16] [0,9] [16,8,14,15] @nE]
def ajN:=alv.q {merge:=mg [(4,50),(14,102)],mv:=[54,55,106,114,128,130,131],mb:=mg [(54,20),(128,30),(130,20)],sb:=mg [(14,14),(15,15),(16,16)]} func200 nN [ld [2,6,10,14,15,16,19,20,21] [0,8] [19,21,10,20] @me]
def ajO:=ajN.q {} func201 zk
def G66:=ajO.q {merge:=mg [(3,25)],mv:=[26,66,85,87,88,90,100,102,124],sb:=mg [(11,11),(12,12),(13,13)]} func66 nL [ld [1,4,6,7,8] [2] [7,8,6] @mW]
def ajP:=G66.q {} func202 uy
def G67:=ajP.q {merge:=mg [(3,15)],mv:=[28]} func67 tM [ld [2,3,4] [1] [4,3] @nM]
def al2:=G67.q {merge:=mg [(2,21)],mv:=[22,37,38]} func355 sy
def al4:=al2.q {} func357 yF [ld [3,4] [1] [3,4] @sG]
def al5:=al4.q {mv:=[27]} func358 rf [ld [2,3,4,10,12,13] [0,6] [12,13] @qi]
def al8:=al5.q {mv:=[26,36,44],mb:=mg [(44,13)],sb:=mg [(10,10),(11,11),(13,13),(14,14)]} func361 ur [ld [2,8,10,11,12,13,14,15] [0,4,6] [15,13,14] @kO [(.exit 0,[15,13,14]),(.ret,[12,15,10,11,13,14])]]
def akz:=al8.q {merge:=mg [(2,58),(6,102),(27,194)],mv:=[70,134,149,150,169,177,203,206,211,221,222],mb:=mg [(221,22),(222,33)],sb:=mg [(14,14),(15,15)]} func248 uw [ld [2,5,6,14,15,16,17,19,20,21,22,23,24] [0,8,10] [23,24,22] @jW [(.exit 0,[23,24,22]),(.ret,[16,23,24,14,15,22])],ld [2,14,15,19,20,21,22,29,30,31] [0,8,10] [29,31] @jX [(.exit 2,[29,31])]]
def ai1:=akz.q {mv:=[19,20,34,36,38]} func121 yx
def ans:=ai1.q {} func452 yC
def al9:=ans.q {merge:=mg [(1,41),(4,84),(6,4)]} func362 wH
def ama:=al9.q {} func363 Hy
def amb:=ama.q {} func364 GP
def akA:=amb.q {merge:=mg [(1,29),(3,43)],mv:=[52,67,76],mb:=mg [(76,16)],sb:=mg [(14,14),(15,15)]} func249 oI
def ai2:=akA.q {mv:=[16,36,48,64,71,89,91,107],sb:=mg [(9,9),(10,10)]} func122 sk
def amc:=ai2.q {merge:=mg [(3,20)],mv:=[24,33]} func365 wO [ld [2,6,8,9] [] [9,8] @oZ]
def akB:=amc.q {mv:=[4,9]} func250 yH
def akC:=akB.b {mv:=[47,51,65,67,84],mb:=mg [(84,6)],sb:=mg [(6,6),(50,0),(70,0),(71,5)]} func251 wY (t:=(kF (.own none) da))
def ai3:=akC.q {mv:=[17,25,43,45,46,48,58,60,71,144],mb:=mg [(71,3)],sb:=mg [(5,5),(6,6),(7,7),(81,3)]} func123 wM [ld [2,3,4] [1] [4,3] @qh,ld [2,3,10] [1] [10,3] @oC [(.exit 2,[10,3])],ld [2,3,11] [1] [11,3] @kM [(.exit 4,[11,3])]]
def G36:=ai3.q {merge:=mg [(1,17)],mv:=[24,36,37,58,65]} func36 EY
def G15:=G36.q {merge:=mg [(3,21)],mv:=[22,23,30,37,39,40,44,45],sb:=mg [(9,9)]} func15 AE [ld [4,6,7,8] [1] [7,8,6] @uu]
def G16:=G15.q {} func16 nK [ld [3,4] [1] [3,4] @mV]
def G17:=G16.q {merge:=mg [(1,23)],mv:=[34,41,42]} func17 wI [ld [1,2,6,7,8] [] [8,7] @qe]
def ajW:=G17.q {merge:=mg [(6,40)]} func209 rk [ld [4,5] [0,1] [5] @qo [(.exit 0,[5]),(.ret,[4,5])]]
def G72:=ajW.q {merge:=mg [(1,4)]} func72 yB
def G25:=G72.q {merge:=mg [(1,16),(6,4)]} func25 qd
def G92:=G25.q {} func92 wk [ld [1,4,5] [0] [1,5] @CA [(.exit 0,[1,5]),(.ret,[1,4,5])]]
def G82:=G92.q {} func82 yk
def G83:=G82.q {} func83 zK
def G93:=G83.q {} func93 nZ
def aj6:=G93.q {} func219 uY
def alL:=aj6.q {} func338 yX
def aj7:=alL.q {} func220 Ey [ld [1,4,5] [0] [1,5] @Fx [(.exit 0,[1,5]),(.ret,[1,4,5])]]
def G84:=aj7.q {} func84 wo
def aky:=G84.q {} func247 wj
def ai0:=aky.q {} func120 tq
def alM:=ai0.q {} func339 Au
def aj8:=alM.q {} func221 qT
def G85:=aj8.q {} func85 zL [ld [1,4,5] [0] [1,5] @BC [(.exit 0,[1,5]),(.ret,[1,4,5])]]
def G86:=G85.q {} func86 Ev [ld [1,4,5] [0] [1,5] @Fw [(.exit 0,[1,5]),(.ret,[1,4,5])]]
def G87:=G86.q {} func87 BE
def G88:=G87.q {} func88 Eu
def G89:=G88.q {} func89 yj
def aj9:=G89.q {} func222 Ew
def alN:=aj9.q {} func340 Ez
def aka:=alN.q {} func223 rZ
def akb:=aka.q {} func224 yl
def G90:=akb.q {} func90 uj
def akc:=G90.q {} func225 tr
def G91:=akc.q {} func91 BD [ld [1,4,5] [0] [1,5] @Cy [(.exit 0,[1,5]),(.ret,[1,4,5])]]
def G29:=G91.q {} func29 Cx
def G35:=G29.q {} func35 BB
def G30:=G35.q {} func30 Gy [ld [1,4,5] [0] [1,5] @Gz [(.exit 0,[1,5]),(.ret,[1,4,5])]]
def aiK:=G30.q {mv:=[21]} func104 wu [ld [3,4] [0] [3,4] @CG]
def G94:=aiK.q {mv:=[8]} func94 tu
def akd:=G94.q {} func226 wq
def G95:=akd.q {mv:=[22]} func95 zN [ld [3,4] [0] [3,4] @BF]
def ake:=G95.q {} func227 CD
def aiL:=ake.q {mv:=[21]} func105 oa [ld [3,4] [0] [3,4] @GB]
def akf:=aiL.q {mv:=[17]} func228 qV
def alO:=akf.q {mv:=[14]} func341 uZ
def akg:=alO.q {mv:=[22]} func229 ED [ld [3,4] [0] [3,4] @FB]
def G96:=akg.q {mv:=[19]} func96 qW
def alP:=G96.q {} func342 kh
def akD:=alP.q {} func252 BH
def ai4:=akD.q {} func124 pw
def alQ:=ai4.q {} func343 wv
def akh:=alQ.q {} func230 ny
def G97:=akh.q {mv:=[22]} func97 zO [ld [3,4] [0] [3,4] @BG]
def G98:=G97.q {mv:=[22]} func98 EB [ld [3,4] [0] [3,4] @Fz]
def aki:=G98.q {} func231 ym
def G99:=aki.q {mv:=[22]} func99 BJ [ld [3,4] [0] [3,4] @CH]
def aiG:=G99.q {mv:=[21]} func100 EA [ld [3,4] [0] [3,4] @Fy]
def aiH:=aiG.q {mv:=[14]} func101 tt
def alR:=aiH.q {} func344 CE
def akj:=alR.q {mv:=[22]} func232 EC [ld [3,4] [0] [3,4] @FA]
def alT:=akj.q {} func346 CB
def anm:=alT.q {} func446 vc
def alS:=anm.q {mv:=[22]} func345 EE [ld [3,4] [0] [3,4] @FC]
def akk:=alS.q {mv:=[8]} func233 nw
def akl:=akk.q {mv:=[11]} func234 tw
def aiI:=akl.q {mv:=[16]} func102 oU
def akm:=aiI.q {} func235 px
def aiJ:=akm.q {mv:=[22]} func103 BI [ld [3,4] [0] [3,4] @CF]
def aiM:=aiJ.q {} func106 zM
def G31:=aiM.q {mv:=[63]} func31 qU
def G37:=G31.q {} func37 xy
def G32:=G37.q {mv:=[22]} func32 yY [ld [3,4] [0] [3,4] @GA]
def G41:=G32.q {} func41 nY [ld [4,5] [0,1] [5] @Gx [(.exit 0,[5]),(.ret,[4,5])]]
def aiX:=G41.q {} func117 wh [ld [4,5] [0,1] [5] @Ct [(.exit 0,[5]),(.ret,[4,5])]]
def aiN:=aiX.q {} func107 yh
def akn:=aiN.q {} func236 qR
def aiO:=akn.q {} func108 zI [ld [4,5] [0,1] [5] @Bw [(.exit 0,[5]),(.ret,[4,5])]]
def ako:=aiO.q {} func237 yT
def akp:=ako.q {} func238 uX
def alU:=akp.q {} func347 yV
def akq:=alU.q {} func239 Es [ld [4,5] [0,1] [5] @Fu [(.exit 0,[5]),(.ret,[4,5])]]
def aiP:=akq.q {} func109 wi
def alV:=aiP.q {} func348 ij
def al0:=alV.q {} func353 wg
def akx:=al0.q {} func246 tk
def alW:=akx.q {} func349 As
def akr:=alW.q {} func240 qS
def aiQ:=akr.q {} func110 zJ [ld [4,5] [0,1] [5] @Bx [(.exit 0,[5]),(.ret,[4,5])]]
def aiR:=aiQ.q {} func111 Ep [ld [4,5] [0,1] [5] @Fs [(.exit 0,[5]),(.ret,[4,5])]]
def aks:=aiR.q {} func241 tp
def aiS:=aks.q {} func112 BA [ld [4,5] [0,1] [5] @Cw [(.exit 0,[5]),(.ret,[4,5])]]
def aiT:=aiS.q {} func113 Eo [ld [4,5] [0,1] [5] @Fq [(.exit 0,[5]),(.ret,[4,5])]]
def aiU:=aiT.q {} func114 yg
def alX:=aiU.q {} func350 yU
def akt:=alX.q {} func242 Er [ld [4,5] [0,1] [5] @Ft [(.exit 0,[5]),(.ret,[4,5])]]
def alZ:=akt.q {} func352 yS
def ann:=alZ.q {} func447 yW
def alY:=ann.q {} func351 Et [ld [4,5] [0,1] [5] @Fv [(.exit 0,[5]),(.ret,[4,5])]]
def aku:=alY.q {} func243 rY
def akv:=aku.q {} func244 yi
def aiV:=akv.q {} func115 ui
def akw:=aiV.q {} func245 tn
def aiW:=akw.q {} func116 Bz [ld [4,5] [0,1] [5] @Cs [(.exit 0,[5]),(.ret,[4,5])]]
def aiY:=aiW.q {} func118 uh
def G33:=aiY.q {} func33 Cr
def aiZ:=G33.q {} func119 Bv
def G34:=aiZ.q {} func34 Gv [ld [4,5] [0,1] [5] @Gw [(.exit 0,[5]),(.ret,[4,5])]]
abbrev kL:au PS:=[pf da,pd (.sl CV)]
def qB:zy:=QL kL [rB] (c2 mr)
theorem BL:zfo 5 qB:=f0 {} G34.s func5
end
end Go.Proofs.YtfbhfnniblfpbaaGreat.Fn
