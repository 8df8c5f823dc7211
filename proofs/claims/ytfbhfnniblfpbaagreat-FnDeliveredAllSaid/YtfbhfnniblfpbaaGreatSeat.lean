import Derived.Test.YtfbhfnniblfpbaaGreatDnSig
import Derived.Test.YtfbhfnniblfpbaaGreatPure
import Derived.Test.YtfbhfnniblfpbaaGreatRows
/- Each function of the program is its pure function (made by gen.py). -/
namespace Go.Proofs.YtfbhfnniblfpbaaGreat.Fn
open Go.Dn
open Go.Pu Go.Proofs.Tryz
set_option maxRecDepth 100000
set_option linter.unusedVariables false
noncomputable section
variable {Λ:ET} {P:Program} {A0 A1 A2 A3 A4 A5 A6 C R σ:Type} {A:Type->Type} {rs:au (Bool×FT)} {s:au PS}
abbrev YY (R:Type):=Ex->AS->Option R
abbrev zit:FT:=.int .i64
abbrev Pk (a b:FT):FT:=.pair a b
abbrev zpi (b:FT):FT:=.pair (.int .i64) b
abbrev J4 (n:Nat)(t:CT):FT:=.sl (.own (some n)) t
abbrev zsm (t:FT):Option FT:=some t
abbrev fT (t:FT):PD:=.data false t
abbrev jy (t:FT):PD:=.data true t
abbrev TH (t:CT):FT:=.sl .arg t
abbrev zfo:=lH Tryz.prog
abbrev B:PD:=.bot
abbrev DI:PD:=.data false (.int .i64)
abbrev DB:PD:=.data false .bool
abbrev Z:ax FT:=none
theorem nF {p:Code->Prop}:∀x∈([]:au Code),p x:=λ_ h=>nomatch h
theorem cF {p:Code->Prop}{a:Code}{l:au Code}(h:p a)(t:∀x∈l,p x):∀x∈a::l,p x:=List.forall_mem_cons.2 ⟨h,t⟩
theorem hF {p:Code->Prop}{l m:au Code}(e:l=m)(h:∀x∈m,p x):∀x∈l,p x:=e▸h
theorem fk {E:Env}{Γ:xu}{F:Bo s->ax (ij rs)}{f:Nat}{fn:Func}(an:An)(hS:Sound P E Γ)(hf:P.funcs[f]?=some fn){l:au Code}(h:∀c∈l,WE E Γ an Λ c)(hn:(fn.name== "runtime.NumGoroutine")=false:=by kernel_rfl)(hl:ia (fn.body.getD .skip)=l:=by kernel_rfl)(eR:an.cut=[]:=by kernel_rfl)(hF:∀a,Fa E Γ an Λ fn rs (im s a)=F a:=by intro a;kernel_rfl):lH P f (Qk s rs F):=lH.of (aav hS hf hn (Aa.of (Fn.hF hl h) eR)) hF
theorem ao {E:Env}{Γ:xu}{an:An}{b:Code}{l:au Code}(h:∀c∈l,WE E Γ an Λ c)(hl:ia b=l:=by kernel_rfl)(hc:an.cut=[]:=by kernel_rfl):Aa E Γ an Λ b:=Aa.of (Fn.hF hl h) hc
theorem ac {E:Env}{Γ:xu}{an:An}{b:Code}{l m:au Code}(h:∀c∈l,WE E Γ an Λ c)(hc:∀c∈m,COk E Γ an Λ c)(hl:ia b=l:=by kernel_rfl)(hm:ky an.cut b=m:=by kernel_rfl):Aa E Γ an Λ b:=⟨Fn.hF hl h,Fn.hF hm hc⟩
theorem fc {E:Env}{Γ:xu}{F:Bo s->ax (ij rs)}{f:Nat}{fn:Func}(an:An)(hS:Sound P E Γ)(hf:P.funcs[f]?=some fn){l m:au Code}(h:∀c∈l,WE E Γ an Λ c)(hc:∀c∈m,COk E Γ an Λ c)(hn:(fn.name== "runtime.NumGoroutine")=false:=by kernel_rfl)(hl:ia (fn.body.getD .skip)=l:=by kernel_rfl)(hm:ky an.cut (fn.body.getD .skip)=m:=by kernel_rfl)(hF:∀a,Fa E Γ an Λ fn rs (im s a)=F a:=by intro a;kernel_rfl):lH P f (Qk s rs F):=lH.of (aav hS hf hn ⟨Fn.hF hl h,Fn.hF hm hc⟩) hF
abbrev pd (t:CT):PS:=.data false t
abbrev pf (t:CT):PS:=.data true t
abbrev pI:PS:=.data false (.int .i64)
abbrev rB:Bool×FT:=(false,.bool)
abbrev rI:Bool×FT:=(false,.int .i64)
abbrev rS:Bool×FT:=(false,.str)
abbrev bs:Nat->au PD->au PD
 |0,l=>l
 |n+1,l=> .bot::bs n l
abbrev zs:Nat->au (ax FT)->au (ax FT)
 |0,l=>l
 |n+1,l=>none::zs n l
def mk (l:au (Nat×eo))(n:Nat):eo:=(l.lookup n).getD []
def mg (l:au (Nat×Nat))(n:Nat):ax Nat:=l.lookup n
def ke (n:Nat)(K:YY R)(d:SD)(x:SD.D d):ax R:=K (.exit n) (SD.enc d x)
def kn (K:YY R)(d:SD)(x:SD.D d):ax R:=K .normal (SD.enc d x)
def kr (K:YY R)(d:SD)(x:SD.D d):ax R:=K .ret (SD.enc d x)
def ZE (d:SD)(t:{R:Type}->SD.D d->(Ex->AS->ax R)->(σ->ax R)->σ->ax R)(i:SD.D d->σ):J6:=⟨d,λX K=>aM (t X K) fuel (i X)⟩
theorem lk {E:Env}{Γ:xu}{an:An}{c:Code}(d:SD)(t:{R:Type}->SD.D d->(Ex->AS->ax R)->(σ->ax R)->σ->ax R)(i:SD.D d->σ)(w:SD.D d->σ->SD.D d)(h1:Λ (dC c)=ZE d t i:=by kernel_rfl)(h:∀(R:Type)(X:SD.D d)(K:YY R)(m:Nat)(x:σ),Ah (an.mask (dC c)) (den E Γ an Λ c) (m+1) (SD.enc d (w X x)) K=t X K (λy=>Ah (an.mask (dC c)) (den E Γ an Λ c) m (SD.enc d (w X y)) K) x:=by intro R X K m x;kernel_rfl)(hw:∀X,w X (i X)=X:=by intro X;kernel_rfl):WE E Γ an Λ c:=lok (ZE d t i) h1 fuel λR X K=>(QZ (λx=>SD.enc d (w X x)) (t X K) (h R X K) fuel (i X)).symm.trans (congrArg (λy=>Ah (an.mask (dC c)) (den E Γ an Λ c) fuel (SD.enc d y) K) (hw X))
def mkc (d:SD)(t:{R:Type}->SD.D d->(Ex->AS->ax R)->ax R):J6:=⟨d,λX K=>t X K⟩
theorem ck {E:Env}{Γ:xu}{an:An}{c:Code}(d:SD)(t:{R:Type}->SD.D d->(Ex->AS->ax R)->ax R)(h1:Λ (xC c)=mkc d t:=by kernel_rfl)(h:∀(R:Type)(X:SD.D d)(K:YY R),t X K=den E Γ an Λ c (SD.enc d X) (λe bM=>K e (bM.mask (an.mask (xC c+1)))):=by intro R X K;kernel_rfl):COk E Γ an Λ c:=cok (mkc d t) h1 h
def u {A B:Type}(y:A)(x:A×B):A×B:=(y,x.2)
def w {A B:Type}(y:A)(f:B->B)(x:A×B):A×B:=(y,f x.2)
def z1 {B:Type}(f:B->B)(x:A0×B):A0×B:=(x.1,f x.2)
def z2 {B:Type}(f:B->B)(x:A0×A1×B):A0×A1×B:=(x.1,x.2.1,f x.2.2)
def z3 {B:Type}(f:B->B)(x:A0×A1×A2×B):A0×A1×A2×B:=(x.1,x.2.1,x.2.2.1,f x.2.2.2)
def z5 {B:Type}(f:B->B)(x:A0×A1×A2×A3×A4×B):A0×A1×A2×A3×A4×B:=(x.1,x.2.1,x.2.2.1,x.2.2.2.1,x.2.2.2.2.1,f x.2.2.2.2.2)
def z6 {B:Type}(f:B->B)(x:A0×A1×A2×A3×A4×A5×B):A0×A1×A2×A3×A4×A5×B:=(x.1,x.2.1,x.2.2.1,x.2.2.2.1,x.2.2.2.2.1,x.2.2.2.2.2.1,f x.2.2.2.2.2.2)
def q2 {B:Type}(x:(A0×A1×A2×B)×C):A2:=x.1.2.2.1
def q3 {B:Type}(x:(A0×A1×A2×A3×B)×C):A3:=x.1.2.2.2.1
def q4 {B:Type}(x:(A0×A1×A2×A3×A4×B)×C):A4:=x.1.2.2.2.2.1
def q5 {B:Type}(x:(A0×A1×A2×A3×A4×A5×B)×C):A5:=x.1.2.2.2.2.2.1
def q6 {B:Type}(x:(A0×A1×A2×A3×A4×A5×A6×B)×C):A6:=x.1.2.2.2.2.2.2.1
def q7 {A7 B:Type}(x:(A0×A1×A2×A3×A4×A5×A6×A7×B)×C):A7:=x.1.2.2.2.2.2.2.2.1
def q8 {A7 A8 B:Type}(x:(A0×A1×A2×A3×A4×A5×A6×A7×A8×B)×C):A8:=x.1.2.2.2.2.2.2.2.2.1
def q9 {A7 A8 A9 B:Type}(x:(A0×A1×A2×A3×A4×A5×A6×A7×A8×A9×B)×C):A9:=x.1.2.2.2.2.2.2.2.2.2.1
def c1 {B:Type}(f:A0->R)(a:A0×B):R:=f a.1
def c4 {B:Type}(f:A0->A1->A2->A3->R)(a:A0×A1×A2×A3×B):R:=f a.1 a.2.1 a.2.2.1 a.2.2.2.1
theorem f0 {E:Env}{Γ:xu}{F:Bo s->ax (ij rs)}{f:Nat}{fn:Func}(an:An)(hS:Sound P E Γ)(hf:P.funcs[f]?=some fn)(hn:(fn.name== "runtime.NumGoroutine")=false:=by kernel_rfl)(hl:ia (fn.body.getD .skip)=[]:=by kernel_rfl)(eR:an.cut=[]:=by rfl)(hF:∀a,Fa E Γ an ET.nil fn rs (im s a)=F a:=by intro a;kernel_rfl):lH P f (Qk s rs F):=lH.of (aav hS hf hn (Aa.of (Fn.hF hl nF) eR)) hF
abbrev Y0:FT:=zpi (zpi (zpi zit))
abbrev Y1:FT:=Pk (J4 36865 .str) (Pk (J4 36868 nr) (Pk (Pk Y0 (Pk (zpi (zpi (zpi (J4 36892 (.int .i64))))) (Pk (J4 36895 MH) zit))) (Pk (J4 36901 lO) (Pk (J4 36904 K3) (Pk (.sl .arg F9) (Pk (.sl .arg .bool) (Pk (zpi (Pk .bool (.sl .arg (.int .i64)))) (Pk (Pk (.sl .arg Y3) (Pk (.sl .arg TK) (Pk .str (.sl .arg (.int .i64))))) (Pk (.sl .arg jo) (Pk .bool (Pk (.sl .arg .str) (Pk (.sl .arg (.int .i64)) (Pk (.sl .arg (.int .i64)) (Pk zit Y0))))))))))))))
abbrev Y2:FT:=zpi (zpi (zpi (.sl .arg (.int .i64))))
def E:Env:={ty:=[(3,⟨false,(.int .i64),[]⟩),
 (4,⟨false,.bool,[]⟩),
 (5,⟨false,(.int .u8),[]⟩),
 (9,⟨false,.str,[]⟩),
 (22,⟨false,(.sl (.int .u8)),[(5,0)]⟩),
 (24,⟨false,(.sl .str),[(9,0)]⟩),
 (26,⟨true,(.sl .str),[(0,1)]⟩),
 (27,⟨false,(.sl nr),[(254,0)]⟩),
 (29,⟨true,TJ,[(0,1),(1,1),(2,1),(3,1)]⟩),
 (30,⟨false,(.sl (.int .i64)),[(3,0)]⟩),
 (32,⟨true,K3,[(0,1),(1,1),(2,1),(3,1)]⟩),
 (33,⟨false,(.sl MH),[(258,0)]⟩),
 (35,⟨true,CZ,[(0,4),(4,4),(8,1),(9,1)]⟩),
 (36,⟨false,(.sl lO),[(141,0)]⟩),
 (37,⟨false,(.sl K3),[(32,0)]⟩),
 (38,⟨false,(.sl F9),[(156,0)]⟩),
 (39,⟨false,(.sl .bool),[(4,0)]⟩),
 (41,⟨true,RR,[(0,1),(1,1),(2,1)]⟩),
 (42,⟨false,(.sl Y3),[(267,0)]⟩),
 (43,⟨false,(.sl TK),[(269,0)]⟩),
 (45,⟨true,(.sl TK),[(0,1)]⟩),
 (47,⟨true,ae4,[(0,1),(1,1)]⟩),
 (49,⟨true,J7,[(0,1),(1,1),(2,2)]⟩),
 (50,⟨false,(.sl jo),[(146,0)]⟩),
 (52,⟨true,MG,[(0,1),(1,1),(2,1),(3,1),(4,1)]⟩),
 (54,⟨true,dF,[(0,1),(1,1),(2,10),(12,1),(13,1),(14,1),(15,1),(16,3),(19,4),(23,1),(24,1),(25,1),(26,1),(27,1),(28,5)]⟩),
 (55,⟨false,(.sl WH),[(116,0)]⟩),
 (63,⟨true,lP,[(0,3),(3,4),(7,1),(8,1),(9,1)]⟩),
 (112,⟨true,acG,[(0,1),(1,1),(2,1),(3,1),(4,1),(5,1),(6,1),(7,1)]⟩),
 (114,⟨true,Ml,[(0,1),(1,1),(2,1),(3,1),(4,1),(5,1),(6,1),(7,1),(8,8)]⟩),
 (116,⟨true,WH,[(0,1),(1,16),(17,1),(18,1),(19,1),(20,1)]⟩),
 (137,⟨true,xy,[(0,1),(1,1),(2,1)]⟩),
 (139,⟨true,acH,[(0,16),(16,1),(17,1)]⟩),
 (141,⟨true,lO,[(0,4),(4,3),(7,3),(10,18),(28,1),(29,1)]⟩),
 (144,⟨true,MG,[(0,1),(1,1),(2,1),(3,1),(4,1)]⟩),
 (146,⟨true,jo,[(0,5),(5,1),(6,1),(7,1)]⟩),
 (156,⟨true,F9,[(0,1),(1,1),(2,1),(3,1),(4,1),(5,1)]⟩),
 (209,⟨true,(.pair (.sl (.int .u8)) (.pair (.int .i64) (.int .i64))),[(0,1),(1,1),(2,1)]⟩),
 (210,⟨false,(.sl Ml),[(114,0)]⟩),
 (249,⟨true,MG,[(0,1),(1,1),(2,1),(3,1),(4,1)]⟩),
 (254,⟨true,nr,[(0,1),(1,1),(2,1),(3,1)]⟩),
 (258,⟨true,MH,[(0,1),(1,1),(2,1)]⟩),
 (267,⟨true,Y3,[(0,1),(1,1),(2,1),(3,1),(4,1),(5,1),(6,1),(7,1),(8,1)]⟩),
 (269,⟨true,TK,[(0,1),(1,5),(6,1)]⟩),
 (385,⟨false,(.sl ns),[(387,0)]⟩),
 (387,⟨true,ns,[(0,1),(1,1)]⟩),
 (388,⟨false,(.sl xv),[(392,0)]⟩),
 (392,⟨true,xv,[(0,1),(1,1),(2,1),(3,1),(4,1),(5,1)]⟩),
 (407,⟨true,TIp,[(0,1),(1,1),(2,1),(3,1),(4,1),(5,1),(6,1)]⟩),
 (410,⟨true,an0,[(0,1),(1,1),(2,1),(3,1),(4,1)]⟩),
 (442,⟨false,(.sl ns),[(446,0)]⟩),
 (446,⟨true,ns,[(0,1),(1,1)]⟩),
 (472,⟨false,(.int .u32),[]⟩)],eqs:=[(114,[.int,.int,.int,.int,.int,.int,.int,.int,.int,.int,.int,.int,.int,.int,.int,.str]),(139,[.int,.int,.int,.int,.int,.int,.int,.int,.int,.int,.int,.int,.int,.int,.int,.str,.int,.int]),(144,[.int,.int,.int,.int,.int]),(146,[.int,.int,.int,.int,.int,.int,.str,.bool]),(392,[.int,.int,.int,.int,.int,.int])],fts:=[]}
theorem base:Sound Tryz.prog E xu.nil:=Sound.nil (U7 (by kernel_rfl)) (Va (by kernel_rfl)) (U9 (by kernel_rfl)) (by kernel_rfl)
structure SG where (g:xu) (s:Sound Tryz.prog E g)
def SG.add (S:SG){f:Nat}{F:zH}(h:zfo f F):SG:=⟨S.g.add f F,S.s.add h⟩
def G0:SG:=⟨xu.nil,base⟩
def SG.qk (S:SG){f:Nat}{fn:Func}(an:An)(hf:Tryz.prog.funcs[f]?=some fn)(s:au PS)(rs:au (Bool×FT))(F:Bo s->ax (ij rs)){l:au Code}(h:∀c∈l,WE E S.g an Λ c)(hn:(fn.name== "runtime.NumGoroutine")=false:=by kernel_rfl)(hl:ia (fn.body.getD .skip)=l:=by kernel_rfl)(eR:an.cut=[]:=by kernel_rfl)(hF:∀a,Fa E S.g an Λ fn rs (im s a)=F a:=by intro a;kernel_rfl):SG:=S.add (lH.of (aav S.s hf hn (Aa.of (Fn.hF hl h) eR)) hF)
def SG.q1 (S:SG){f:Nat}{fn:Func}(an:An)(hf:Tryz.prog.funcs[f]?=some fn)(s:au PS)(rs:au (Bool×FT))(F:Bo s->ax (ij rs))(d:SD)(t:{R:Type}->SD.D d->(Ex->AS->ax R)->(σ->ax R)->σ->ax R)(i:SD.D d->σ)(w:SD.D d->σ->SD.D d)(h1:(ET.nil.add (dC (fV fn 0)) (ZE d t i)) (dC (fV fn 0))=ZE d t i:=by kernel_rfl)(h:∀(R:Type)(X:SD.D d)(K:YY R)(m:Nat)(x:σ),Ah (an.mask (dC (fV fn 0))) (den E S.g an (ET.nil.add (dC (fV fn 0)) (ZE d t i)) (fV fn 0)) (m+1) (SD.enc d (w X x)) K=t X K (λy=>Ah (an.mask (dC (fV fn 0))) (den E S.g an (ET.nil.add (dC (fV fn 0)) (ZE d t i)) (fV fn 0)) m (SD.enc d (w X y)) K) x:=by intro R X K m x;kernel_rfl)(hw:∀X,w X (i X)=X:=by intro X;kernel_rfl)(hn:(fn.name== "runtime.NumGoroutine")=false:=by kernel_rfl)(hl:ia (fn.body.getD .skip)=[fV fn 0]:=by kernel_rfl)(eR:an.cut=[]:=by kernel_rfl)(hF:∀a,Fa E S.g an (ET.nil.add (dC (fV fn 0)) (ZE d t i)) fn rs (im s a)=F a:=by intro a;kernel_rfl):SG:=S.add (lH.of (aav S.s hf hn (Aa.of (Fn.hF hl (cF (lk d t i w h1 h hw) nF)) eR)) hF)
def Ty (T:Nat):Shape:=(iY E.ty T).getD ⟨false,.bool,[]⟩
def kF (k:FK):CT->FT
 | .pair a b=> .pair (kF k a) (kF k b)
 | .sl e=> .sl k e
 | .int k=> .int k
 | .bool=> .bool
 | .str=> .str
def sF:Nat->CT->FT
 |n,.pair a b=> .pair (sF n a) (sF (n+3*a.size) b)
 |n,.sl e=> .sl (.own (some n)) e
 |_,.int k=> .int k
 |_,.bool=> .bool
 |_,.str=> .str
def sg (fn:Func):au PS:=fn.params.toList.map λT=> .data (Ty T).agg (Ty T).ct
def rz (fn:Func):au (Bool×FT):=fn.resultTypes.toList.map λT=>((Ty T).agg,kF (.own none) (Ty T).ct)
def Cu (R:Type):au PS->Type
 |[]=>R
 | .data _ t::r=>t.D->Cu R r
 | .fn _::r=>Cu R r
def un:(s:au PS)->Cu R s->Bo s->R
 |[],f,_=>f
 | .data _ _::r,f,a=>un r (f a.1) a.2
 | .fn _::r,f,a=>un r f a
def dT:au PD->Nat->Type
 |[],_=>Unit
 | .data _ t::_,0=>t.ct.D
 |_::_,0=>Unit
 |_::r,n+1=>dT r n
def dG:(l:au PD)->(n:Nat)->Eg l->dT l n
 |[],_,_=>()
 | .data _ _::_,0,x=>x.1
 | .bot::_,0,_=>()
 | .ptr _ _::_,0,_=>()
 | .fn _::_,0,_=>()
 | .data _ _::r,n+1,x=>dG r n x.2
 | .bot::r,n+1,x=>dG r n x
 | .ptr _ _::r,n+1,x=>dG r n x
 | .fn _::r,n+1,x=>dG r n x
def dP:(l:au PD)->(n:Nat)->dT l n->Eg l->Eg l
 |[],_,_,x=>x
 | .data _ _::_,0,y,x=>(y,x.2)
 | .bot::_,0,_,x=>x
 | .ptr _ _::_,0,_,x=>x
 | .fn _::_,0,_,x=>x
 | .data _ _::r,n+1,y,x=>(x.1,dP r n y x.2)
 | .bot::r,n+1,y,x=>dP r n y x
 | .ptr _ _::r,n+1,y,x=>dP r n y x
 | .fn _::r,n+1,y,x=>dP r n y x
def bT:au (ax FT)->Nat->Type
 |[],_=>Unit
 |some t::_,0=>t.ct.D
 |none::_,0=>Unit
 |_::r,n+1=>bT r n
def bG:(l:au (ax FT))->(n:Nat)->DK l->bT l n
 |[],_,_=>()
 |some _::_,0,x=>x.1
 |none::_,0,_=>()
 |some _::r,n+1,x=>bG r n x.2
 |none::r,n+1,x=>bG r n x
def bP:(l:au (ax FT))->(n:Nat)->bT l n->DK l->DK l
 |[],_,_,x=>x
 |some _::_,0,y,x=>(y,x.2)
 |none::_,0,_,x=>x
 |some _::r,n+1,y,x=>(x.1,bP r n y x.2)
 |none::r,n+1,y,x=>bP r n y x
def pk (d:SD)(i:Nat):Nat:=match nth d.slots i with
 |some (.data _ _)=>0
 |some _=>1
 |none=>2
def PK (d:SD)(i:Nat):Nat->Type
 |0=>dT d.slots i
 |1=>bT d.boxes i
 |_=>ioD d.io
abbrev PT (d:SD)(i:Nat):Type:=PK d i (pk d i)
def gK (d:SD)(i:Nat)(X:d.D):(k:Nat)->PK d i k
 |0=>dG d.slots i X.1
 |1=>bG d.boxes i X.2.1
 |_+2=>X.2.2
def pK (d:SD)(i:Nat)(X:d.D):(k:Nat)->PK d i k->d.D
 |0,y=>(dP d.slots i y X.1,X.2)
 |1,y=>(X.1,bP d.boxes i y X.2.1,X.2.2)
 |_+2,y=>(X.1,X.2.1,y)
def St (d:SD):eo->Type
 |[]=>Unit
 |[p]=>PT d p
 |p::q::r=>PT d p×St d (q::r)
def gS (d:SD)(X:d.D):(l:eo)->St d l
 |[]=>()
 |[p]=>gK d p X (pk d p)
 |p::q::r=>(gK d p X (pk d p),gS d X (q::r))
def pS (d:SD):(l:eo)->St d l->d.D->d.D
 |[],_,X=>X
 |[p],y,X=>pK d p X (pk d p) y
 |p::q::r,y,X=>pS d (q::r) y.2 (pK d p X (pk d p) y.1)
def Cv (d:SD)(R:Type):eo->Type
 |[]=>R
 |p::r=>PT d p->Cv d R r
def aV (d:SD)(X:d.D):(l:eo)->Cv d R l->R
 |[],f=>f
 |p::r,f=>aV d X r (f (gK d p X (pk d p)))
def cV (d:SD)(K:d.D->R):(l:eo)->d.D->Cv d R l
 |[],X=>K X
 |p::r,X=>λy=>cV d K r (pK d p X (pk d p) y)
def Cz (d:SD)(R:Type):eo->Type
 |[]=>Unit->R
 |p::r=>Cv d R (p::r)
def cZ (d:SD)(K:d.D->R):(l:eo)->d.D->Cz d R l
 |[],X=>λ_=>K X
 |p::r,X=>cV d K (p::r) X
def pls (d:SD):eo:=(List.range d.slots.length).filter (λi=>match nth d.slots i with|some (.data _ _)=>true|_=>false)++(List.range d.slots.length).filter (λi=>match nth d.boxes i with|some (some _)=>true|_=>false)++match d.io with| .some _=>[d.slots.length]|_=>[]
def kps (d:SD):eo:=(List.range d.slots.length).filter λi=>(match nth d.slots i with|some .bot=>false|_=>true)||match nth d.boxes i with|some (some _)=>true|_=>false
def TT (d:SD)(s:eo)(R:Type):au (Ex×eo)->Type
 |[]=>Cv d ((St d s->ax R)->St d s->ax R) ((pls d).filter λi=> !s.contains i)
 |x::r=>Cz d (ax R) x.2->TT d s R r
def tT (d:SD)(s:eo)(X:d.D)(K:YY R):(l:au (Ex×eo))->TT d s R l->(St d s->ax R)->St d s->ax R
 |[],f=>aV d X _ f
 |x::r,f=>tT d s X K r (f (cZ d (λY=>K x.1 (d.enc Y)) x.2 X))
structure LS (fn:Func) where (d:SD) (σ:Type) (t:{R:Type}->d.D->(Ex->AS->Option R)->(σ->Option R)->σ->Option R) (i:d.D->σ) (w:d.D->σ->d.D)
def fo (i:Nat):Code->ax Oper
 | .region _ l _=>l.toList.find? λo=>match o.dst with|some j=>Nat.beq j i|none=>false
 | .seq a b=>match fo i a with|none=>fo i b|x=>x
 | .cond _ a b=>match fo i a with|none=>fo i b|x=>x
 | .block _ a=>fo i a
 | .loop a=>fo i a
 |_=>none
def kP (f:Nat->CT->FT)(fn:Func)(i:Nat):PD×ax FT:=match fn.params[i]?,fo i (fn.body.getD .skip)with
 |some T,_=>(.data (Ty T).agg (f (12288*i) (Ty T).ct),none)
 |_,some o=>match o.op with
  | .alloc T=>(.ptr i 0,some (f (12288*i+1) (Ty T).ct))
  | .box T _=>(.ptr i 0,some (f (12288*i+1) (Ty T).ct))
  |_=>(.data (Ty o.type).agg (f (12288*i) (Ty o.type).ct),none)
 |_,_=>(.bot,none)
def dS (fn:Func)(a b:eo)(x:au (Nat×PD×ax FT))(io:IoD):SD:=
 let l:=(List.range fn.ntmps).map λi=>match x.lookup i with
  |some y=>y
  |none=>bif a.contains i then kP sF fn i else bif b.contains i then kP (λ_=>kF .arg) fn i else(.bot,none)
 ⟨l.map (·.1),l.map (·.2),io⟩
def ld {fn:Func}(a b s:eo)(T:∀R,A R)(l:au (Ex×eo):=[(.exit 0,s)])(x:au (Nat×PD×ax FT):=[])(io:IoD:=.none)(h:∀R,A R=TT (dS fn a b x io) s R l:=by intro R;kernel_rfl):LS fn:=⟨dS fn a b x io,St (dS fn a b x io) s,λ{R} X K=>tT (dS fn a b x io) s X K l (cast (h R) (T R)),λX=>gS (dS fn a b x io) X s,λX y=>pS (dS fn a b x io) s y X⟩
structure CS (fn:Func) where (d:SD) (o:List Nat) (t:{R:Type}->d.D->(Ex->AS->Option R)->Option R)
def TC (d:SD)(R:Type):au (Ex×eo)->Type
 |[]=>Cv d (ax R) (pls d)
 |x::r=>Cz d (ax R) x.2->TC d R r
def tC (d:SD)(X:d.D)(K:YY R):(l:au (Ex×eo))->TC d R l->ax R
 |[],f=>aV d X _ f
 |x::r,f=>tC d X K r (f (cZ d (λY=>K x.1 (d.enc Y)) x.2 X))
def lc {fn:Func}(a b o:eo)(T:∀R,A R)(l:au (Ex×eo))(x:au (Nat×PD×ax FT):=[])(io:IoD:=.none)(h:∀R,A R=TC (dS fn a b x io) R l:=by intro R;kernel_rfl):CS fn:=⟨dS fn a b x io,o,λ{R} X K=>tC (dS fn a b x io) X (λe s=>K e (s.mask o)) l (cast (h R) (T R))⟩
def cu:FT:=.pair (.sl .ae9 (.int .u8)) (.pair (.int .i64) (.int .i64))
def lb {fn:Func}(a b s:eo)(T:∀R,A R)(l:au (Ex×eo):=[(.exit 0,s)])(x:au (Nat×PD×ax FT):=[])(h:∀R,A R=TT (dS fn a b ((0,.ptr 0 0,some cu)::x) .ptr) s R l:=by intro R;kernel_rfl):LS fn:=ld a b s T l ((0,.ptr 0 0,some cu)::x) .ptr h
def lx {fn:Func}(a b o:eo)(T:∀R,A R)(l:au (Ex×eo))(x:au (Nat×PD×ax FT):=[])(h:∀R,A R=TC (dS fn a b ((0,.ptr 0 0,some cu)::x) .ptr) R l:=by intro R;kernel_rfl):CS fn:=lc a b o T l ((0,.ptr 0 0,some cu)::x) .ptr h
section
variable (Γ:xu) (an:An) (fn:Func)
def lac (c:eo):Nat->au (CS fn)->ET
 |_,[]=>ET.nil
 |j,l::r=>(lac c (j+1) r).add (xC (Cb c fn j)) (mkc l.d l.t)
def lam (B:ET):Nat->au (LS fn)->ET
 |_,[]=>B
 |k,l::r=>(lam B (k+1) r).add (dC (fV fn k)) (ZE l.d l.t l.i)
def WC (c:eo)(n:Nat):Nat->au (CS fn)->eo
 |_,[]=>[]
 |j,l::r=>bif Nat.beq n (xC (Cb c fn j)) then kps l.d else bif Nat.beq n (xC (Cb c fn j)+1) then l.o else WC c n (j+1) r
def msk (c:eo)(y:au (CS fn))(n:Nat):Nat->au (LS fn)->eo
 |_,[]=>WC fn c n 0 y
 |k,l::r=>bif Nat.beq n (dC (fV fn k)) then kps l.d else msk c y n (k+1) r
def wm (l:au (LS fn))(y:au (CS fn)):An:={an with mask:=λn=>msk fn an.cut y n 0 l}
def LL (Λ:ET):Nat->au (LS fn)->Prop
 |_,[]=>True
 |k,l::r=>Λ (dC (fV fn k))=ZE l.d l.t l.i/\(∀(R:Type)(X:l.d.D)(K:YY R)(m:Nat)(x:l.σ),Ah (an.mask (dC (fV fn k))) (den E Γ an Λ (fV fn k)) (m+1) (l.d.enc (l.w X x)) K=l.t X K (λy=>Ah (an.mask (dC (fV fn k))) (den E Γ an Λ (fV fn k)) m (l.d.enc (l.w X y)) K) x)/\(∀X,l.w X (l.i X)=X)/\LL Λ (k+1) r
def CC (Λ:ET):Nat->au (CS fn)->Prop
 |_,[]=>True
 |k,l::r=>Λ (xC (Cb an.cut fn k))=mkc l.d l.t/\(∀(R:Type)(X:l.d.D)(K:YY R),l.t X K=den E Γ an Λ (Cb an.cut fn k) (l.d.enc X) (λe bM=>K e (bM.mask (an.mask (xC (Cb an.cut fn k)+1)))))/\CC Λ (k+1) r
def OK (l:au (LS fn))(y:au (CS fn)):Prop:=(fn.name== "runtime.NumGoroutine")=false/\ia (fn.body.getD .skip)=(List.range' 0 l.length).map (fV fn)/\ky an.cut (fn.body.getD .skip)=(List.range' 0 y.length).map (Cb an.cut fn)/\LL Γ (wm an fn l y) fn (lam fn (lac fn an.cut 0 y) 0 l) 0 l/\CC Γ (wm an fn l y) fn (lam fn (lac fn an.cut 0 y) 0 l) 0 y
end
section
variable {Γ:xu} {an:An} {fn:Func}
theorem LL.ok {Λ:ET}:∀{r:au (LS fn)}{k:Nat},LL Γ an fn Λ k r->∀c∈(List.range' k r.length).map (fV fn),WE E Γ an Λ c
 |[],_,_,_,h=>nomatch h
 |l::_,k,⟨h1,h2,h3,h4⟩,c,h=>by rcases cg.1 h with e|e;rw[e];exact lk l.d l.t l.i l.w h1 h2 h3;exact h4.ok c e
theorem CC.ok {Λ:ET}:∀{r:au (CS fn)}{k:Nat},CC Γ an fn Λ k r->∀c∈(List.range' k r.length).map (Cb an.cut fn),COk E Γ an Λ c
 |[],_,_,_,h=>nomatch h
 |l::_,k,⟨h1,h2,h3⟩,c,h=>by rcases cg.1 h with e|e;rw[e];exact ck l.d l.t h1 h2;exact h3.ok c e
theorem OK.all {l:au (LS fn)}{y:au (CS fn)}(h:OK Γ an fn l y):Aa E Γ (wm an fn l y) (lam fn (lac fn an.cut 0 y) 0 l) (fn.body.getD .skip):=⟨Fn.hF h.2.1 h.2.2.2.1.ok,Fn.hF h.2.2.1 h.2.2.2.2.ok⟩
end
section
variable (S:SG) {f:Nat} {fn:Func} (an:An) (hf:Tryz.prog.funcs[f]?=some fn)
variable {A:Type}
noncomputable def SG.q (F:A)(l:au (LS fn):=[])(y:au (CS fn):=[])(rs:au (Bool×FT):=rz fn)(hA:A=Cu (ax (ij rs)) (sg fn):=by kernel_rfl)(h:OK S.g an fn l y:=by repeat' (first|exact trivial|apply And.intro|(intros;kernel_rfl)))(hF:∀a,Fa E S.g (wm an fn l y) (lam fn (lac fn an.cut 0 y) 0 l) fn rs (im (sg fn) a)=un (sg fn) (cast hA F) a:=by intro a;kernel_rfl):SG:=
 S.add (lH.of (F:=un (sg fn) (cast hA F)) (aav S.s hf h.1 h.all) hF)
noncomputable def SG.b (F:A)(l:au (LS fn):=[])(y:au (CS fn):=[])(t:FT:=cu)(rs:au (Bool×FT):=rz fn)(hA:A=(t.ct.D->Cu (ax (ij rs×t.ct.D)) (sg fn).tail):=by kernel_rfl)(h:OK S.g an fn l y:=by repeat' (first|exact trivial|apply And.intro|(intros;kernel_rfl)))(hF:∀x a,R8 E S.g (wm an fn l y) (lam fn (lac fn an.cut 0 y) 0 l) fn rs t (.val true (jc t x)::im (sg fn).tail a)=un (sg fn).tail (cast hA F x) a:=by intro x a;kernel_rfl):SG:=
 S.add (lH.aiQ (F:=λx a=>un (sg fn).tail (cast hA F x) a) (ah8 S.s hf h.1 h.all) hF)
noncomputable def SG.i (F:A)(l:au (LS fn):=[])(y:au (CS fn):=[])(rs:au (Bool×FT):=rz fn)(t:Nat:=fn.params.getD 0 0)(hA:A=((Ty t).ct.D->Cu (ax (ij rs×(Ty t).ct.D)) (sg fn).tail):=by kernel_rfl)(h:OK S.g an fn l y:=by repeat' (first|exact trivial|apply And.intro|(intros;kernel_rfl)))(hF:∀x a,Xd E S.g (wm an fn l y) (lam fn (lac fn an.cut 0 y) 0 l) fn rs (Ty t).ct (.val (Ty t).agg (cellsOf (Ty t).ct (.own none) x)::im (sg fn).tail a)=un (sg fn).tail (cast hA F x) a:=by intro x a;kernel_rfl):SG:=
 S.add (lH.aoK (F:=λx a=>un (sg fn).tail (cast hA F x) a) (an7 S.s hf h.1 h.all) hF)
noncomputable def SG.n (F:A)(t:FT)(l:au (LS fn):=[])(y:au (CS fn):=[])(hA:A=Cu (ax t.ct.D) (sg fn):=by kernel_rfl)(h:OK S.g an fn l y:=by repeat' (first|exact trivial|apply And.intro|(intros;kernel_rfl)))(hF:∀a,Mq E S.g (wm an fn l y) (lam fn (lac fn an.cut 0 y) 0 l) fn t (im (sg fn) a)=un (sg fn) (cast hA F) a:=by intro a;kernel_rfl):SG:=
 S.add (lH.aiR (F:=un (sg fn) (cast hA F)) (ah9 S.s hf h.1 h.all) hF)
noncomputable def SG.v (F:A)(Mc:au (Bool×FT))(l:au (LS fn):=[])(y:au (CS fn):=[])(rs:au (Bool×FT):=rz fn)(h2:ij Mc=ij rs:=by kernel_rfl)(hA:A=Cu (ax (Bool×ij rs)) (sg fn):=by kernel_rfl)(h:OK S.g an fn l y:=by repeat' (first|exact trivial|apply And.intro|(intros;kernel_rfl)))(hF:∀a,evalAlt E S.g (wm an fn l y) (lam fn (lac fn an.cut 0 y) 0 l) fn rs Mc h2 (im (sg fn) a)=un (sg fn) (cast hA F) a:=by intro a;kernel_rfl):SG:=
 S.add (lH.ofAlt (h2:=h2) (F:=un (sg fn) (cast hA F)) (ac9 h2 S.s hf h.1 h.all) hF)
end
variable {R:Type}
def G8:=G0.q {} func8 Jb
def G49:=G8.q {merge:=mg [(1,6)]} func49 aC
def G74:=G49.q {} func74 tN [ld [2,7,8] [1,6] [8] @Dg [(.exit 0,[8]),(.ret,[2,8])]]
def aj1:=G74.q {merge:=mg [(4,25)]} func210 nK [ld [1,2,6,10,11] [9] [11] @tz [(.exit 0,[11]),(.ret,[6,11])]]
def G75:=aj1.q {merge:=mg [(4,37)]} func75 pD [ld [2,6,7] [0,5] [7] @oO [(.exit 0,[7]),(.ret,[2,7])]]
def G79:=G75.q {merge:=mg [(1,21),(7,43)]} func79 iI [ld [2,3,27,28] [1,26] [3,28] @wj [(.exit 0,[3,28]),(.ret,[2,3,28])]]
def ali:=G79.q {merge:=mg [(1,2)]} func330 tS
def akJ:=ali.q {} func295 iJ
def alj:=akJ.q {} func331 js
def aj2:=alj.q {merge:=mg [(1,2)]} func211 jD
def ajn:=aj2.q {} func170 fN
def aji:=ajn.q {mv:=[7]} func165 ik
def aj3:=aji.q {merge:=mg [(3,21)],mv:=[10,24]} func212 fL
def G76:=aj3.q {merge:=mg [(1,24),(8,50)],mv:=[55]} func76 Bj [ld [2,3,4,31,32] [1,30] [3,4,32] @wu [(.exit 0,[3,4,32]),(.ret,[2,3,4,32])]]
def G77:=G76.q {merge:=mg [(4,29),(7,2)]} func77 qi [ld [2,7,8] [1,6] [8] @si [(.exit 0,[8]),(.ret,[2,8])]]
def aj4:=G77.q {merge:=mg [(1,2)]} func213 oR
def alk:=aj4.q {merge:=mg [(1,18),(5,2),(7,2)]} func332 rA
def alm:=alk.q {merge:=mg [(1,2)]} func333 rG
def aj5:=alm.q {merge:=mg [(1,2)]} func214 gk
def G78:=aj5.q {merge:=mg [(1,42),(5,2)]} func78 xG
def aj6:=G78.q {merge:=mg [(1,2)]} func215 Di
def G80:=aj6.q {merge:=mg [(1,24),(3,2)]} func80 mE
def aln:=G80.q {merge:=mg [(1,33),(3,54),(5,2)]} func334 Ci
def aj7:=aln.q {} func216 AA [ld [2,6,7] [0,5] [7] @EN [(.exit 0,[7]),(.ret,[2,7])]]
def alo:=aj7.q {merge:=mg [(4,23)]} func335 Ck [ld [3,4,9,10] [8] [10] @wC [(.exit 0,[10]),(.ret,[4,10])]]
def amS:=alo.q {} func445 ym [ld [3,16,17,18] [] [3,18] @nD]
def alp:=amS.q {mv:=[10,18]} func336 HT [ld [1,3,4] [] [3,4] @yy]
def aj8:=alp.q {merge:=mg [(6,28),(9,40)]} func217 sB [ld [2,13,14] [1,12] [14] @uD [(.exit 0,[14]),(.ret,[2,14])],ld [2,3,13,14,49,50,51] [1,12] [51] @nI [(.exit 2,[51]),(.ret,[2,51])]]
def alq:=aj8.q {merge:=mg [(1,2)]} func337 FD
def aj9:=alq.q {merge:=mg [(1,22)]} func218 yv [ld [1,4,25,26] [24] [26] @Dh [(.exit 0,[26]),(.ret,[4,26])]]
def G81:=aj9.q {merge:=mg [(1,25),(6,41),(12,59)]} func81 lL [ld [1,4,28,29] [2,27] [29] @oT [(.exit 0,[29]),(.ret,[4,29])],ld [1,4,46,47] [45] [47] @nf [(.exit 2,[47]),(.ret,[4,47])]]
def G28:=G81.q {merge:=mg [(2,58),(7,89)]} func28 fC [ld [2,3,61,62] [1] [62] @wa [(.exit 0,[62]),(.ret,[2,62])],ld [2,3,103,104,105] [1] [105] @uy [(.exit 2,[105]),(.ret,[2,105])]]
def ajm:=G28.q {} func169 jf
def ajf:=ajm.q {} func162 dh
def ajg:=ajf.q {} func163 wx
def akE:=ajg.q {mv:=[13,25]} func290 tR [ld [3,8,9] [7] [3,9] @sI]
def ajh:=akE.q {sb:=mg [(2,2)]} func164 rC
def ajj:=ajh.q {mv:=[7]} func166 pG
def akF:=ajj.q {} func291 wy
def akG:=akF.q {sb:=mg [(2,2)]} func292 uF
def ajk:=akG.q {sb:=mg [(2,2)]} func167 lZ
def ajl:=ajk.q {} func168 je
def G48:=ajl.q {mv:=[34,75],mb:=mg [(34,3)],sb:=mg [(39,3)]} func48 fM [ld [2,28,29] [1,27] [29,3] @sH [(.exit 0,[29,3])] [(3,.ptr 3 0,some Y1)]]
def anG:=G48.q {merge:=mg [(4,29)]} func496 D3
def anH:=anG.q {merge:=mg [(2,6)]} func497 vt
def amL:=anH.q {merge:=mg [(1,29),(11,55),(16,73)],mv:=[56,74]} func438 zn [ld [2,3,4,5,12,13,14] [0,7] [3,4,14] @rD [(.exit 0,[3,4,14]),(.ret,[3,4,12,13,14])]]
def amM:=amL.q {mv:=[41]} func439 pE [ld [1,2,8] [3] [1,8] @kV]
def alc:=amM.q {} func324 oM [ld [14,31,32] [6] [14,32] @ux [(.exit 0,[14,32])] [(30,.data false (.sl .loc ns),Z)]]
def amf:=alc.q {merge:=mg [(1,11)]} func406 nG
def akH:=amf.q {merge:=mg [(1,20)],sb:=mg [(9,9)]} func293 tQ
def alR:=akH.q {} func380 vp
def amP:=alR.q {} func442 ch
def am0:=amP.q {merge:=mg [(1,2)]} func456 zh
def am1:=am0.q {} func457 fZ
def alJ:=am1.q {} func372 lK
def amN:=alJ.q {merge:=mg [(1,13)]} func440 eU
def amO:=amN.q {merge:=mg [(1,13)]} func441 iw
def amg:=amO.q {sb:=mg [(4,4)]} func407 pC
def amZ:=amg.q {merge:=mg [(1,17)]} func454 fz
def ant:=amZ.q {merge:=mg [(1,27)]} func484 qI
def anu:=ant.q {} func485 ff
def anY:=anu.q {merge:=mg [(1,12)]} func514 Aw
def anT:=anY.q {} func509 yw [ld [0,3,4] [] [3,4] @sA]
def anv:=anT.q {} func486 jq
def anO:=anv.q {} func504 sG
def anl:=anO.q {merge:=mg [(8,39)]} func476 jM
def anX:=anl.q {merge:=mg [(1,2)]} func513 Ks
def anP:=anX.q {} func505 yo
def anm:=anP.q {} func477 vW
def anK:=anm.q {merge:=mg [(1,2)]} func500 BH
def anQ:=anK.q {} func506 yx
def ann:=anQ.q {} func478 yg
def akl:=ann.q {} func261 oF [ld [0,5,10,11] [] [5,11] @wB]
def ano:=akl.q {} func479 Ay
def amh:=ano.q {} func408 gM
def am9:=amh.q {nest:=[33],mv:=[19,49]} func465 sE [ld [1,2,6,8] [] [1,2,8] @nh]
def alX:=am9.q {mv:=[34,41,50,57],sb:=mg [(14,14)]} func386 FC [ld [4,12,14,36,37] [] [4,37,14] @zl [(.exit 0,[4,37,14])] [(35,.data false (.sl .loc ns),Z)]]
def ami:=alX.q {} func409 qh
def anR:=ami.q {} func507 zk
def anS:=anR.q {merge:=mg [(1,14)]} func508 wg [ld [0,1,5,6] [] [5,6] @qG]
def anp:=anS.q {merge:=mg [(1,14)]} func480 vY [ld [0,1,5,6] [] [5,6] @qD]
def anq:=anp.q {} func481 vZ
def amj:=anq.q {} func410 tL
def ald:=amj.q {} func325 nL
def alf:=ald.q {} func327 wA
def anr:=alf.q {merge:=mg [(1,2)]} func482 lU
def ans:=anr.q {merge:=mg [(1,12)]} func483 lq
def amk:=ans.q {merge:=mg [(1,22)],mv:=[26,37,41,51],mb:=mg [(41,13),(51,13)],sb:=mg [(10,10),(11,11),(13,13)]} func411 oQ
def akI:=amk.v {merge:=mg [(3,50)],sb:=mg [(12,12),(13,13),(20,20)]} func294 wD [(true,(.sl .arg .str)),(true,(.pair (.int .i64) (.pair (.int .i64) (.int .i64)))),(false,.bool)]
def ajo:=akI.q {merge:=mg [(1,31)],mv:=[52,66],mb:=mg [(66,16)],sb:=mg [(10,10),(11,11)]} func171 nB
def akN:=ajo.q {merge:=mg [(1,9)]} func299 oV
def akK:=akN.q {} func296 yf
def ajp:=akK.b {} func172 kX [ld [1,7] [] [7,0] @qK [(.exit 0,[7,0])] [(0,.ptr 0 0,some (sF 1 dF))] .ptr] (t:=(kF (.own none) dF))
def G50:=ajp.q {mv:=[10,17,35,49],sb:=mg [(37,3)]} func50 ru [ld [2,3,13,14] [1] [14,3] @qE]
def alN:=G50.q {merge:=mg [(1,2)]} func376 mC
def anJ:=alN.q {} func499 DZ [ld [0,3,4] [] [3,4] @tJ,ld [0,3,4,5] [] [3,5] @qg [(.exit 2,[3,5])]]
def am2:=anJ.q {} func458 wv
def anI:=am2.q {} func498 uw
def amQ:=anI.q {mv:=[21,26]} func443 yl [ld [3,10,11] [9] [3,11] @nC]
def amR:=amQ.q {merge:=mg [(1,17),(4,30)],mv:=[83,87]} func444 D1 [ld [1,2,5,6,7] [] [6,7] @yu]
def alh:=amR.q {} func329 pF
def am3:=alh.q {merge:=mg [(4,33)],sb:=mg [(4,4)]} func459 tO
def am4:=am3.q {merge:=mg [(2,22),(6,56)],sb:=mg [(5,5)]} func460 Az
def am5:=am4.q {merge:=mg [(3,20),(9,44),(12,68)]} func461 qH
def alM:=am5.q {merge:=mg [(2,20)]} func375 ix
def aml:=alM.q {merge:=mg [(1,24),(15,67)],mv:=[55,68],sb:=mg [(9,9)]} func412 wq [ld [2,7,8,9,10,11,12] [0,5] [12,7] @lY [(.exit 0,[12,7]),(.ret,[8,10,12,7,9])]]
def acC:=aml.q {merge:=mg [(4,19)]} func455 yp [ld [2,6,7] [0,5] [7] @so [(.exit 0,[7]),(.ret,[2,7])]]
def an6:zH:=HD [pd (.sl ns),pI,pI] [(false,(.sl (.own none) xv))] [(false,(.sl .nil xv))] rfl λa=>iE a.1 a.2.1 a.2.2.1
def ahA:An:={mask:=mk [(5,[0,2,7,30,31,32]),(13,[6,7,54,55,56])],merge:=mg [(1,25)],nils:=[6],mv:=[49,64]}
abbrev R4:SD:=⟨fT (TH ns)::B::DI::bs 4 (fT (J4 86016 xv)::bs 22 (fT (TH ns)::DI::DI::bs 32 [])),zs 65 [],.none⟩
def aeR (X:SD.D R4)(K:YY R):=kA (λy0 y1=>ke 0 K R4 ((z2 (w y0 (z2 (u y1))) X.1),X.2)) X.1.1 X.1.2.1 (q3 X) (q4 X)
abbrev Mo:SD:=⟨bs 7 (fT (J4 86016 xv)::bs 46 (fT (.sl .loc xv)::DI::DI::bs 8 [])),zs 65 [],.none⟩
abbrev W8:SD:=⟨bs 6 (fT (.sl .nil xv)::fT (J4 86016 xv)::bs 46 (fT (.sl .loc xv)::DI::DI::bs 8 [])),zs 65 [],.none⟩
def Z1 (X:SD.D Mo)(K:YY R):=jO (λy0=>ke 2 K Mo ((z3 (u y0) X.1),X.2)) (λy0 y1=>kr K W8 ((y0,(X.1.1,(X.1.2.1,(X.1.2.2.1,(y1,()))))),(),())) X.1.1 X.1.2.1 (q2 X)
def agO:ET:=(ET.nil.add 5 (ZE R4 aeR (λX=>(q2 X,q5 X)))).add 13 (ZE Mo Z1 q3)
theorem ahw:WE E acC.g ahA agO (fV f371 0):=lk R4 aeR (λX=>(q2 X,q5 X)) λX x=>((z2 (w x.1 (z2 (u x.2))) X.1),X.2)
theorem afI:WE E acC.g ahA agO (fV f371 1):=lk Mo Z1 q3 λX x=>((z3 (u x) X.1),X.2)
theorem aoJ:zfo 371 an6:=lH.ofAlt (ac9 (Γ:=acC.g) (an:=ahA) (Λ:=agO) (by rfl) (acC.s) func371 (by kernel_rfl) (ao (cF ahw (cF afI nF)))) (λa=>by kernel_rfl)
def agN:=acC.add aoJ
def ahB:An:={mask:=mk [(5,[0,6,18,19,20]),(14,[0,2,3,4,5,6,9,10,11,51,52])],mv:=[24,65]}
abbrev R5:SD:=⟨fT (TH xv)::bs 5 (fT (J4 73728 ns)::bs 11 (fT (TH xv)::DI::DI::bs 47 [])),zs 68 [],.none⟩
def aeS (X:SD.D R5)(K:YY R):=lr (λy0 y1=>ke 0 K R5 ((z1 (w y0 (z2 (u y1))) X.1),X.2)) X.1.1 (q2 X) (q3 X)
abbrev Mp:SD:=⟨fT (TH xv)::bs 5 (fT (J4 73728 ns)::B::B::DI::DI::fT (J4 135168 xv)::bs 39 (DI::DI::bs 15 [])),zs 68 [],.none⟩
abbrev W9:SD:=⟨fT (TH xv)::B::fT (J4 24576 ns)::DI::DI::DB::fT (J4 73728 ns)::B::B::DI::DI::fT (J4 135168 xv)::bs 39 (DI::DI::bs 15 []),zs 68 [],.none⟩
def Z2 (X:SD.D Mp)(K:YY R):=gj (λy0=>ke 2 K Mp ((z6 (u y0) X.1),X.2)) (λy0 y1 y2 y3 y4=>kr K W9 ((X.1.1,(y0,(y1,(y2,(y3,(X.1.2.1,(X.1.2.2.1,(X.1.2.2.2.1,(X.1.2.2.2.2.1,(X.1.2.2.2.2.2.1,(y4,()))))))))))),(),())) X.1.1 X.1.2.1 (q2 X) (q3 X) (q4 X) (q5 X)
def ahZ:ET:=(ET.nil.add 5 (ZE R5 aeS (λX=>(X.1.2.1,q4 X)))).add 14 (ZE Mp Z2 q6)
theorem ahx:WE E agN.g ahB ahZ (fV f413 0):=lk R5 aeS (λX=>(X.1.2.1,q4 X)) λX x=>((z1 (w x.1 (z2 (u x.2))) X.1),X.2)
theorem afJ:WE E agN.g ahB ahZ (fV f413 1):=lk Mp Z2 q6 λX x=>((z6 (u x) X.1),X.2)
def amm:=agN.qk ahB func413 [pd (.sl xv)] [(false,(.sl (.own none) ns)),rI,rI,rB] (c1 oP) (cF ahx (cF afJ nF))
def amn:=amm.q {} func414 qC [ld [2,8,9,10,19,20] [0,5,18] [10,20] @lV [(.exit 0,[10,20]),(.ret,[8,9,10,20])]]
def amY:=amn.q {} func453 rH
def alE:=amY.q {} func366 mD
def amo:=alE.q {merge:=mg [(3,38),(9,74),(12,84),(17,117)]} func415 yi
def akL:=amo.q {merge:=mg [(1,28)],sb:=mg [(8,8)]} func297 qJ
abbrev agX:SD:=⟨fT (TH nr)::B::DI::B::B::.ptr 5 0::B::.ptr 7 0::.ptr 8 0::fT (J4 110592 .str)::DI::DI::fT (J4 147456 .str)::DI::DI::bs 30 [],zs 5 ((zsm (TH .str))::Z::(some Y0)::(some Y0)::zs 36 []),.none⟩
abbrev aal:SD:=⟨fT (TH nr)::B::DI::B::B::.ptr 5 0::B::.ptr 7 0::.ptr 8 0::fT (J4 110592 .str)::DI::DI::fT (.sl .loc .str)::DI::DI::bs 30 [],zs 5 ((zsm (TH .str))::Z::(some Y0)::(some Y0)::zs 36 []),.none⟩
def ajq:=akL.q1 {mask:=mk [(3,[0,2,5,7,8,9,10,11,12,13,14])],mv:=[35,42]} func173 [pd (.sl nr),pf (.sl .str),pI,pf TJ] [(true,Y0),(false,(.sl (.own none) .str)),rI,rI] (c4 sD) agX (λX K=>ng (λy0 y1 y2 y3 y4 y5 y6 y7=>kr K aal ((X.1.1,(X.1.2.1,(y0,(y1,(y2,(y3,(y4,(y5,())))))))),(X.2.1.1,(y6,(y7,()))),())) X.1.1 X.1.2.1 (q2 X) (q3 X) (q4 X) X.2.1.1 X.2.1.2.2.1) (λX=>(q5 X,q6 X,q7 X,X.2.1.2.1)) (λX x=>((z5 (w x.1 (w x.2.1 (u x.2.2.1))) X.1),(z1 (u x.2.2.2) X.2.1),X.2.2))
def ajr:=ajq.q {merge:=mg [(2,22)],mv:=[23,34,43,55,56]} func174 lT [ld [1,4,6,7,29,30] [2,28] [7,30,6] @jN]
def G51:=ajr.q {mv:=[15,33,37,51,54,58]} func51 lW
def ajs:=G51.q {merge:=mg [(1,11)]} func175 oU
def ale:=ajs.q {} func326 lp
def ajU:=ale.q {merge:=mg [(7,46)],sb:=mg [(8,8),(9,9)]} func203 nd
def alY:=ajU.q {merge:=mg [(1,15)]} func387 fH
def alF:=alY.q {} func367 tP
def alZ:=alF.q {merge:=mg [(1,22)],mv:=[26,36,40,50],mb:=mg [(40,13),(50,13)],sb:=mg [(10,10),(11,11),(13,13)]} func388 wk
def akn:=alZ.q {merge:=mg [(2,34)],mv:=[35,37,53,65,76,78],mb:=mg [(35,14),(37,15),(65,20),(76,14),(78,15)],sb:=mg [(8,8),(10,10),(11,11),(12,12),(14,14),(15,15)]} func263 jr [ld [2,8,10,11,12,14,15,16,40,41] [0,9,39] [16,41,8,14] @nA]
def ajV:=akn.q {} func204 gY [ld [3,4,8,9] [7] [9] @kj [(.exit 0,[9]),(.ret,[4,9])]]
def alg:=ajV.q {merge:=mg [(17,82)],mv:=[16,31,51,58,67,83,132],er:=mg [(115,5)]} func328 sf
def akM:=alg.q {merge:=mg [(2,48)],mv:=[49,51,52,96,104,117,119,120],mb:=mg [(49,19),(51,20),(117,19),(119,20)],sb:=mg [(14,14),(15,15),(16,16),(19,19),(20,20)]} func298 wi [ld [2,6,10,14,15,16,19,20,21,22] [0] [21,22,10,20] @lX]
def ajt:=akM.b {mv:=[8,49,51,52],sb:=mg [(55,0),(59,0)],fm:=[19,20],eb:=mg [(56,0),(57,0)]} func176 kI (t:=(kF (.own none) dF))
def aju:=ajt.q {} func177 zj
def G52:=aju.q {merge:=mg [(2,21)],mv:=[22,78]} func52 nE [ld [1,4,6,7,25,26] [] [7,26,6] @nb]
def ajv:=G52.q {} func178 uE
def G53:=ajv.q {mv:=[10,28]} func53 tM [ld [2,3,13,14] [] [14,3] @sn]
def G73:=G53.q {merge:=mg [(1,12),(3,31),(5,2)]} func73 vc
def alG:=G73.q {} func368 qL [ld [3,8,9] [7] [3,9] @ma]
def alH:=alG.q {merge:=mg [(2,20)],mv:=[21,28],mb:=mg [(28,7)],sb:=mg [(4,4)]} func369 sC
def ae3:=alH.q {} func259 jC
def an5:zH:=HD [pd (.sl nr),pf (.sl .str),pI,pf K3,pd (.sl (.int .i64)),pd .str,pI] [(true,(.sl (.own none) .str)),(false,(.sl (.own none) ns)),rB] [(true,(.sl .arg .str)),(false,(.sl (.own none) ns)),rB] rfl λa=>nJ a.1 a.2.1 a.2.2.1 a.2.2.2.1 a.2.2.2.2.1 a.2.2.2.2.2.1 a.2.2.2.2.2.2.1
def aiO:An:={mask:=mk [(3,[0,2,5,6,8,10,14,15,16,17,24,25,26])],peel:=[3],mv:=[40,49,53,54,55,65,66],sb:=mg [(21,21)]}
abbrev R3:SD:=⟨fT (TH nr)::B::DI::B::B::fT .str::DI::B::.ptr 8 0::B::.ptr 10 0::B::B::B::.ptr 14 0::fT (J4 184320 ns)::DB::fT (J4 208896 ns)::bs 6 (fT (TH (.int .i64))::DI::DI::bs 40 []),zs 8 ((zsm (J4 98305 .str))::Z::(some Y2)::Z::Z::Z::(zsm (J4 172033 .str))::zs 52 []),.none⟩
abbrev aan:SD:=⟨fT (TH nr)::B::DI::B::B::fT .str::DI::B::.ptr 8 0::B::.ptr 10 0::B::B::B::.ptr 14 0::fT (J4 184320 ns)::DB::fT (J4 208896 ns)::bs 6 (fT (TH (.int .i64))::DI::DI::bs 40 []),zs 8 ((zsm (.sl .loc .str))::Z::(some Y2)::Z::Z::Z::(zsm (J4 172033 .str))::zs 52 []),.none⟩
def aeQ (X:SD.D R3)(K:YY R):=kl (λy0 y1 y2 y3=>ke 0 K R3 ((z2 (w y0 (z3 (w y1 (z2 (u y2))))) X.1),(u y3 X.2.1),X.2.2)) (λy0 y1 y2 y3 y4 y5 y6=>kr K aan ((X.1.1,(X.1.2.1,(y0,(X.1.2.2.2.1,(y1,(y2,(y3,(X.1.2.2.2.2.2.2.2.1,(X.1.2.2.2.2.2.2.2.2.1,(y4,())))))))))),(y5,(X.2.1.2.1,(y6,()))),())) X.1.1 X.1.2.1 (q3 X) (q4 X) (q5 X) (q7 X) (q8 X) X.2.1.2.1 X.2.1.2.2.1
def ahY:ET:=ET.nil.add 3 (ZE R3 aeQ (λX=>(q2 X,q6 X,q9 X,X.2.1.1)))
theorem ahv:WE E ae3.g aiO ahY (fV f370 0):=lk R3 aeQ (λX=>(q2 X,q6 X,q9 X,X.2.1.1)) λX x=>((z2 (w x.1 (z3 (w x.2.1 (z2 (u x.2.2.1))))) X.1),(u x.2.2.2 X.2.1),X.2.2)
theorem aoI:zfo 370 an5:=lH.ofAlt (ac9 (Γ:=ae3.g) (an:=aiO) (Λ:=ahY) (by rfl) (ae3.s) func370 (by kernel_rfl) (ao (cF ahv nF))) (λa=>by kernel_rfl)
def alI:=ae3.add aoI
def alK:=alI.q {mv:=[27,43],mb:=mg [(43,13)],sb:=mg [(10,10),(11,11),(13,13),(14,14)]} func373 jZ [ld [2,8,10,11,12,13,14,22,23] [0,6,21] [23,13,14] @kW [(.exit 0,[23,13,14]),(.ret,[12,23,10,11,13,14])]]
def ake:=alK.q {merge:=mg [(2,57),(6,92),(15,135)],mv:=[58,59,93,94,97,107,108,109,122,123,136,137,145,151,164,165,169,174,184,185],mb:=mg [(58,17),(59,18),(93,17),(94,18),(107,17),(108,18),(136,17),(137,18),(164,17),(165,18),(184,26),(185,22)],sb:=mg [(14,14),(15,15),(17,17),(18,18),(26,26)]} func253 uC [ld [2,14,15,17,18,22,24,28,29,140,141] [0,10] [29,141] @fO [(.exit 0,[29,141])] [(26,.ptr 26 0,some (.sl .loc .str)),(139,.data false (.sl .loc xv),Z)]]
def ai1:=ake.q {mv:=[19,20,34,36,38]} func125 yn
def alL:=ai1.q {merge:=mg [(2,17)]} func374 yh
def akf:=alL.q {} func254 ry
def alO:=akf.q {} func377 vr [ld [1,4,8,9] [7] [9] @wz [(.exit 0,[9]),(.ret,[4,9])]]
def akg:=alO.q {merge:=mg [(1,4)]} func255 vV
def anL:=akg.q {} func501 pH
def am6:=anL.q {merge:=mg [(1,4)]} func462 sq
def alP:=am6.q {merge:=mg [(7,34)]} func378 yk [ld [3,5,12,13] [0,11] [5,13] @sj]
def alQ:=alP.q {} func379 yj
def am7:=alQ.q {merge:=mg [(2,17)]} func463 Ax
def alS:=am7.q {merge:=mg [(2,18)]} func381 sy
def akh:=alS.q {merge:=mg [(1,17)]} func256 nH
def am8:=akh.q {} func464 yr
def alT:=am8.q {merge:=mg [(1,42),(4,76),(6,4)]} func382 vX
def alU:=alT.q {} func383 Gv
def alV:=alU.q {} func384 FB
def aki:=alV.q {merge:=mg [(1,30),(3,44)],mv:=[53,68,77],mb:=mg [(77,16)],sb:=mg [(14,14),(15,15)]} func257 oS
def ai2:=aki.q {mv:=[14,34,46,62,69,90,103],sb:=mg [(92,5)]} func126 sm
def alW:=ai2.q {mv:=[24,29]} func385 wh [ld [2,6,8,9] [] [9,8] @uz]
def akj:=alW.q {mv:=[3,8]} func258 D2
def akk:=akj.q {} func260 rE
def akm:=akk.q {mv:=[10,24],mb:=mg [(24,5)],sb:=mg [(2,2),(3,3)]} func262 xH
def ai3:=akm.q {mv:=[18,37,88,98,121,142],sb:=mg [(90,3)]} func127 we [ld [2,3,21,22] [] [22,3] @qF,ld [2,3,31,32] [] [32,3] @oN [(.exit 2,[32,3])] [(30,.data false (.sl .loc MH),Z)],ld [2,3,54,55] [] [55,3] @kU [(.exit 4,[55,3])]]
def G38:=ai3.q {merge:=mg [(1,15)],mv:=[22,34,35]} func38 D0
def G10:=G38.q {merge:=mg [(2,21)],mv:=[22,30,36,37,42,43]} func10 wo [ld [4,6,7,25,26] [24] [7,26,6] @uA]
def G11:=G10.q {merge:=mg [(2,23)],mv:=[24,33,40]} func11 rr [ld [1,2,6,7,8] [] [8,7] @qB]
def G19:=G11.q {} func19 jd [ld [3,8,9] [7] [3,9] @na]
def G45:=G19.n {merge:=mg [(3,15)]} func45 Cy (kF .arg (.pair (.sl (.int .u8)) (.pair (.int .i64) (.int .i64)))) [ld [3,4] [0] [3,4] @BT]
def aks:=G45.b {} func278 kE
def ai8:=aks.b {} func155 cr
def ai6:=ai8.b {} func153 gv
def ai9:=ai6.b {mv:=[15]} func156 mA [lb [1,5,6] [] [5,6,0] @pU]
def ajb:=ai9.b {} func158 cy
def akt:=ajb.b {} func279 tf
def al5:=akt.b {} func396 yS
def aku:=al5.b {} func280 uO
def aja:=aku.b {} func157 lh
def ai4:=aja.b {mv:=[47,76],cut:=[6,7,9,11,14,17]} func151 AP [lb [5,6,7,8] [] [5,7,8,0,6] @zT] [lx [5,6,7,8] [] [0,5,6,7,8] @uP [(.normal,[5,7,8,0,6])],lx [5,6,7,8] [] [0,5,6,7,8] @pW [(.normal,[5,7,0,6])],lx [5,6,7,8] [] [0,5,6,7,8] @oo [(.normal,[5,0,6])],lx [5,6,7,8] [] [0,5,6,7,8] @oq [(.normal,[5,0,6])],lx [5,6,7,8,64] [] [0,5,6,7,8] @xV [(.normal,[6])],lx [5,6,7,8] [] [0,5,6,7,8] @pV [(.normal,[8])]]
def G63:=ai4.q {merge:=mg [(1,6)]} func63 aI
def ams:=G63.q {merge:=mg [(1,18),(4,2),(5,2)]} func419 rU
def akS:=ams.q {merge:=mg [(1,55),(3,3),(4,2)]} func304 gP
def ako:=akS.q {merge:=mg [(1,2)]} func274 mM
def akr:=ako.q {merge:=mg [(1,6)]} func277 om
def ai7:=akr.q {} func154 ee
def akW:=ai7.q {} func308 bU
def amW:=akW.q {} func451 eZ
def ana:=amW.q {merge:=mg [(1,27)]} func466 jT
def anW:=ana.q {merge:=mg [(1,12)]} func512 pa
def anM:=anW.q {} func502 yR [ld [0,3,4] [] [3,4] @sY]
def anb:=anM.q {} func467 kK
def al0:=anb.q {merge:=mg [(14,82)]} func391 jR
def anN:=al0.q {merge:=mg [(1,2)]} func503 GI
def anc:=anN.q {} func468 yL
def al1:=anc.q {} func392 wM
def ane:=al1.q {merge:=mg [(1,2)]} func469 xS
def anf:=ane.q {} func470 iM
def al2:=anf.q {} func393 yE
def akz:=al2.q {} func285 iD [ld [0,1,5,6] [] [5,6] @pT]
def al3:=akz.q {} func394 AK
def akp:=al3.q {} func275 gO
def al4:=akp.q {} func395 Em [ld [0,3,4] [] [3,4] @tY,ld [0,3,4,5] [] [3,5] @qn [(.exit 2,[3,5])]]
def akq:=al4.q {} func276 xc
def ai5:=akq.q {} func152 pM
def G46:=ai5.b {mv:=[37,46,53,61,70,84,91,95],cut:=[5,6,9,15,19]} func46 Ba [lb [1,5,6,7] [] [5,7,0] @zY] [lx [1,5,6,7] [] [0,1,5,6,7] @uV [(.normal,[5,7,0])],lx [1,5,6,7,8] [] [0,1,5,6,7] @pY [(.normal,[5,0])],lx [1,5,6,7,43,50] [] [0,1,5,6,7] @ot [(.normal,[5,0])],lx [1,5,6,7,43,57] [] [0,1,5,6,7] @kQ [(.normal,[5,0])],lx [1,5,6,7] [] [0,1,5,6,7] @pX [(.normal,[7])]]
def aky:=G46.q {} func284 qp
def ang:=aky.b {} func471 CA
def al6:=ang.b {mv:=[21,28],mb:=mg [(21,5)],sb:=mg [(22,0),(27,5)]} func397 xd [lb [2,4,5,6] [] [6,0,5] @xe]
def anh:=al6.b {} func472 AW
def al7:=anh.b {mv:=[12,17]} func398 yT [lb [3,4] [] [3,4,0] @xW]
def ajI:=al7.q {} func191 xf
def ani:=ajI.q {} func473 uc [ld [3,4,5] [] [3,5] @nY]
def amq:=ani.q {merge:=mg [(7,39)]} func417 xg [ld [3,4,5] [2] [5] @uQ [(.exit 0,[5]),(.ret,[4,5])]]
def akP:=amq.q {merge:=mg [(7,30),(10,42)]} func301 sZ [ld [2,3] [1] [3] @uM [(.exit 0,[3]),(.ret,[2,3])]]
def al8:=akP.q {merge:=mg [(2,21),(6,31)],mv:=[22,49,57]} func399 AM [ld [2,4,6,8,9,10] [3] [9,10] @zR]
def al9:=al8.b {} func400 AR
def akv:=al9.b {mv:=[11,16,49,58,61],sb:=mg [(52,0),(54,0),(60,4)]} func281 th [lb [2,4,6,7] [] [7,4] @ku,lb [2,4,6,8] [] [8,0,4] @hY [(.exit 2,[8,0,4])]]
def G60:=akv.q {sb:=mg [(2,2)]} func60 px
def G61:=G60.q {sb:=mg [(2,2)]} func61 pw
def ajw:=G61.q {merge:=mg [(4,35),(6,2)]} func179 mL [ld [2,3] [1] [3] @sP [(.exit 0,[3]),(.ret,[2,3])]]
def amp:=ajw.q {merge:=mg [(1,33),(3,54),(5,2)]} func416 my
def akO:=amp.q {} func300 wZ [ld [2,3] [0] [3] @zS [(.exit 0,[3]),(.ret,[2,3])]]
def amr:=akO.q {merge:=mg [(1,2)]} func418 AU
def akQ:=amr.q {merge:=mg [(1,21)]} func302 ug [ld [1,4,5] [2] [5] @sW [(.exit 0,[5]),(.ret,[4,5])]]
def ajx:=akQ.q {merge:=mg [(1,23)]} func180 kf [ld [1,4,5] [2] [5] @pq [(.exit 0,[5]),(.ret,[4,5])],ld [1,4,6] [2] [6] @vh [(.exit 2,[6]),(.ret,[4,6])]]
def ajG:=ajx.q {merge:=mg [(1,20),(7,50)]} func189 iL [ld [2,3,4] [1] [3,4] @wX [(.exit 0,[3,4]),(.ret,[2,3,4])]]
def alD:=ajG.q {merge:=mg [(3,20)],mv:=[24,33]} func365 wV [ld [2,6,8,9] [] [9,8] @pP]
def akc:=alD.q {mv:=[4,9]} func250 uj
def ajJ:=akc.q {} func192 dv
def ajL:=ajJ.q {sb:=mg [(2,2)]} func194 jw
def amv:=ajL.q {merge:=mg [(1,2)]} func422 ti
def amw:=amv.q {} func423 jv
def akZ:=amw.q {merge:=mg [(1,2)]} func311 jH
def ak8:=akZ.q {merge:=mg [(1,15)]} func320 jj
def alu:=ak8.q {} func356 qq
def amV:=alu.q {merge:=mg [(1,2)]} func450 rO
def aly:=amV.q {} func360 lN
def amx:=aly.q {merge:=mg [(1,11)]} func424 og
def ajC:=amx.q {} func185 qo [ld [2,3] [1] [3] @sS [(.exit 0,[3]),(.ret,[2,3])]]
def ajD:=ajC.q {merge:=mg [(7,34),(12,57)]} func186 pO [ld [2,3] [0] [3] @pe [(.exit 0,[3]),(.ret,[2,3])],ld [2,3,4,5] [0] [5] @nm [(.exit 2,[5]),(.ret,[2,5])]]
def anE:=ajD.q {merge:=mg [(4,42)]} func494 AX [ld [1,2,3,8,9] [0] [9] @uR [(.exit 0,[9]),(.ret,[8,9])]]
def anF:=anE.q {merge:=mg [(2,6)]} func495 lj
def amI:=anF.q {merge:=mg [(3,34),(10,57)],mv:=[35,36,64,71,81,82]} func435 uh [ld [2,3,4,5,12,13,14,15,16] [0,7] [3,4,15,16] @kO [(.exit 0,[3,4,15,16]),(.ret,[3,4,12,13,14,15,16])]]
def anx:=amI.q {mv:=[19,52]} func488 td [ld [1,2,6,8] [] [1,2,8] @nq]
def amz:=anx.q {mv:=[32,39,52,60],sb:=mg [(15,15)]} func426 mK [ld [4,10,15,16] [] [4,16,15] @nS [(.exit 0,[4,16,15])] [(12,.data false (.sl .loc (.int .i64)),Z),(13,.data false (.sl .loc (.int .i64)),Z)]]
def amK:=amz.q {merge:=mg [(1,22)],mv:=[26,36,51],mb:=mg [(51,13)],sb:=mg [(10,10),(11,11),(13,13)]} func437 wY
def ala:=amK.q {merge:=mg [(4,32),(6,44)],mv:=[33,35,49,63,68,78,80],mb:=mg [(33,14),(35,15),(78,14),(80,15)],sb:=mg [(10,10),(11,11),(12,12),(18,18),(19,19)]} func322 tZ [ld [2,8,10,11,12,14,15,16] [0,9] [16,8,14,15] @nU]
def alw:=ala.q {mv:=[27]} func358 rR [ld [2,3,4,10,12,13] [0,6] [12,13] @qS]
def akd:=alw.b {mv:=[47,51,65,67,84],mb:=mg [(84,6)],sb:=mg [(6,6),(50,0),(70,0),(71,5)]} func251 py (t:=(kF (.own none) dF))
def ak2:=akd.q {merge:=mg [(1,2)]} func314 rV
def ajH:=ak2.q {merge:=mg [(1,24),(3,2)]} func190 gI
def ama:=ajH.q {} func401 wW
def amb:=ama.q {merge:=mg [(3,12)],mv:=[16,21],mb:=mg [(16,3)],sb:=mg [(20,3)]} func402 rT [ld [0,2,3,4] [] [4,3] @qU]
def akw:=amb.q {merge:=mg [(2,42)],mv:=[57,74,80,86,92,98],mb:=mg [(57,16)],sb:=mg [(16,16),(67,16)]} func282 wU [ld [0,12,14,16,17] [] [17,16] @zQ,ld [0,12,14,16,18] [] [18,16] @xT [(.exit 2,[18,16])]]
def akx:=akw.b {mv:=[11]} func283 xi
def ajc:=akx.b {mv:=[15,32,46,49,50,60],sb:=mg [(7,7),(34,0),(37,0),(40,0),(43,0)]} func159 AZ [lb [2,3] [] [3,0] @zW [(.exit 0,[3,0]),(.ret,[3,0,2])],lb [2,3,4,5,6] [] [6,4] @zX [(.exit 2,[6,4])]]
def akA:=ajc.q {merge:=mg [(1,16)]} func286 yF
def anj:=akA.q {} func474 dV
def ank:=anj.q {} func475 gV
def amc:=ank.q {sb:=mg [(4,4)]} func403 yM
def amd:=amc.q {merge:=mg [(2,22),(6,56)],sb:=mg [(5,5)]} func404 AL
def ame:=amd.q {merge:=mg [(3,20),(9,44),(12,68)]} func405 qV
def akB:=ame.q {merge:=mg [(2,20)]} func287 iC
def ajd:=akB.q {} func160 oe
def akC:=ajd.q {} func288 rP
def akD:=akC.q {} func289 gu [ld [3,4,5] [0] [5] @kt [(.exit 0,[5]),(.ret,[4,5])]]
def aje:=akD.b {mv:=[45,52],sb:=mg [(41,0)]} func161 AQ [lb [5,6] [1] [5,6,0] @zU]
def G47:=aje.b {mv:=[30,38]} func47 yW [lb [4,5,6,7] [1] [6,7] @xX]
def G23:=G47.q {mv:=[13]} func23 nT
def G69:=G23.q {merge:=mg [(2,6)]} func69 rF
def G22:=G69.q {} func22 yq [ld [4,10,11] [0,1,9] [11] @sr [(.exit 0,[11]),(.ret,[4,11])],ld [4,23,24] [0,1,22] [24] @su [(.exit 2,[24]),(.ret,[4,24])]]
def ajW:=G22.q {sb:=mg [(2,2)]} func205 mF
def ajX:=ajW.q {merge:=mg [(1,2)]} func206 vq
def ajY:=ajX.q {merge:=mg [(3,35)],mv:=[41]} func207 sv
def ajZ:=ajY.q {mv:=[13,19],mb:=mg [(13,7)],sb:=mg [(18,7)]} func208 yt
def G70:=ajZ.q {merge:=mg [(2,26),(10,47)],mv:=[27,65]} func70 AB [ld [6,7,29,30] [2,28] [30,7] @uB]
def G71:=G70.q {} func71 Cj
def G24:=G71.q {merge:=mg [(1,16),(6,4)]} func24 qA
def G54:=G24.q {sb:=mg [(2,2)]} func54 tk
def G55:=G54.q {merge:=mg [(1,2)]} func55 vD
def G56:=G55.q {merge:=mg [(1,12),(3,31),(5,2)]} func56 mJ
def akR:=G56.q {} func303 vE [ld [1,4,5] [0] [5] @xj [(.exit 0,[5]),(.ret,[4,5])]]
def ajy:=akR.q {merge:=mg [(1,4)]} func181 wL
def anw:=ajy.q {merge:=mg [(1,4)]} func487 zV
def amt:=anw.q {merge:=mg [(1,4)]} func420 sU
def akT:=amt.q {merge:=mg [(3,14),(5,39)]} func305 yI [ld [3,5,6] [0] [5,6] @nV]
def akU:=akT.q {} func306 yH
def anU:=akU.q {} func510 zD
def anV:=anU.q {merge:=mg [(1,14)]} func511 wT [ld [0,1,5,6] [] [5,6] @qT]
def anB:=anV.q {merge:=mg [(1,14)]} func491 wP [ld [0,1,5,6] [] [5,6] @qQ]
def anC:=anB.q {} func492 wQ
def amB:=anC.q {} func428 ub
def amu:=amB.q {merge:=mg [(2,17)]} func421 AJ
def akV:=amu.q {merge:=mg [(2,18)]} func307 sX
def ajz:=akV.q {merge:=mg [(1,17)]} func182 oh
def ajA:=ajz.q {merge:=mg [(17,84)],mv:=[16,31,53,60,69,85,139]} func183 sO
def G57:=ajA.q {merge:=mg [(3,35)],mv:=[41]} func57 sV
def akX:=G57.q {mv:=[23,27]} func309 yJ [ld [3,4] [0] [3,4] @nX]
def akY:=akX.q {merge:=mg [(2,17),(5,31)],mv:=[18,32,87,91]} func310 Eo [ld [1,2,5,6,7] [] [5,7] @yQ]
def ajB:=akY.q {} func184 pR
def G58:=ajB.q {mv:=[13,19],mb:=mg [(13,7)],sb:=mg [(18,7)]} func58 uf
def G13:=G58.q {merge:=mg [(2,25),(10,64)],mv:=[26,77],sb:=mg [(7,7)]} func13 AO [ld [6,7,8] [1,2] [8,7] @uK]
def ak0:=G13.q {merge:=mg [(3,21)],mv:=[10,24]} func312 gr
def ajE:=ak0.q {merge:=mg [(1,24),(9,50),(14,2)],mv:=[55]} func187 Bn [ld [2,3,4,5] [1] [3,4,5] @xb [(.exit 0,[3,4,5]),(.ret,[2,3,4,5])]]
def ak1:=ajE.q {merge:=mg [(1,2)]} func313 pj
def ajF:=ak1.q {merge:=mg [(1,42),(5,2)]} func188 xU
def G59:=ajF.q {merge:=mg [(2,64),(7,94)]} func59 ga [ld [2,3,4] [1] [4] @wR [(.exit 0,[4]),(.ret,[2,4])],ld [2,5,6] [] [6] @uH [(.exit 2,[6]),(.ret,[2,6])]]
def G14:=G59.q {sb:=mg [(2,2)]} func14 Cx
def ajK:=G14.q {mv:=[27,40],mb:=mg [(27,3)],sb:=mg [(3,3),(39,3)]} func193 jx [ld [2,3,4] [1] [4,3] @uT]
def G62:=ajK.q {mv:=[34,82],mb:=mg [(34,3)],sb:=mg [(43,3)]} func62 gw [ld [2,4] [1] [4,3] @uU [(.exit 0,[4,3])] [(3,.ptr 3 0,some Y1)]]
def amJ:=G62.q {} func436 pQ [ld [1,2,8] [3] [1,2,8] @pn]
def ak9:=amJ.q {} func321 pb [ld [15,16] [6] [15,16] @uG [(.exit 0,[15,16])] [(12,.data false (.sl .loc (.int .i64)),Z),(13,.data false (.sl .loc (.int .i64)),Z)]]
def ak3:=ak9.q {merge:=mg [(1,20)],sb:=mg [(9,9)]} func315 ue
def amy:=ak3.q {sb:=mg [(4,4)]} func425 pN
def amH:=amy.q {} func434 ui
def anz:=amH.q {merge:=mg [(1,2)]} func489 mq
def anA:=anz.q {merge:=mg [(1,12)]} func490 lB
def amA:=anA.q {merge:=mg [(1,22)],mv:=[26,44,59],mb:=mg [(59,13)],sb:=mg [(10,10),(11,11),(13,13)]} func427 ph
def ak4:=amA.q {merge:=mg [(3,46)],mv:=[90],sb:=mg [(12,12),(13,13)]} func316 yV
def ajM:=ak4.q {merge:=mg [(1,30),(5,58)],mv:=[44,75],mb:=mg [(75,15)],sb:=mg [(10,10),(11,11)]} func195 nW
def alb:=ajM.q {} func323 mO
def ak5:=alb.q {} func317 yD
def ajN:=ak5.b {} func196 ll [ld [1,6,7] [] [7,0] @qX [(.exit 0,[7,0])] [(0,.ptr 0 0,some (sF 1 dF))] .ptr] (t:=(kF (.own none) dF))
def G64:=ajN.q {merge:=mg [(3,17)],mv:=[20,35,37,53],sb:=mg [(5,5),(6,6)]} func64 rQ [ld [2,3,4] [1] [4,3] @mu]
def amC:=G64.q {merge:=mg [(2,25),(7,50),(12,69)],mv:=[26,57,70],sb:=mg [(9,9)]} func429 xa [ld [2,7,8,9,10,11] [0,5] [11,7] @mz [(.exit 0,[11,7]),(.ret,[8,10,11,7,9])]]
def amU:=amC.q {merge:=mg [(4,24)]} func449 yN [ld [2,3] [0] [3] @sT [(.exit 0,[3]),(.ret,[2,3])]]
def alx:=amU.q {merge:=mg [(2,33)],mv:=[63,67],sb:=mg [(9,9)]} func359 ko [ld [2,6,7,8] [0] [7,8] @kD [(.exit 0,[7,8]),(.ret,[6,7,8])]]
def anD:=alx.q {} func493 AY [ld [4,5] [0,1] [5] @uS [(.exit 0,[5]),(.ret,[4,5])]]
def amD:=anD.q {merge:=mg [(6,46)],mv:=[15,48]} func430 pg [ld [6,7] [0] [6,7] @lC]
def amE:=amD.q {} func431 qP [ld [2,8,9,10,11] [0,3,5] [10,11] @mr [(.exit 0,[10,11]),(.ret,[8,9,10,11])]]
def amT:=amE.q {} func448 xh
def alr:=amT.q {} func354 mN
def amF:=alr.q {merge:=mg [(2,36),(7,61),(12,98)]} func432 yG
def ak6:=amF.q {merge:=mg [(2,31),(6,55),(11,85)],mv:=[33,57,87],sb:=mg [(8,8)]} func318 qW
abbrev agY:SD:=⟨fT (TH nr)::B::DI::B::B::.ptr 5 0::B::.ptr 7 0::.ptr 8 0::fT (J4 110592 .str)::DI::DI::fT (J4 147456 .str)::DI::DI::bs 29 [],zs 5 ((zsm (TH .str))::Z::(some Y0)::(some Y0)::zs 35 []),.none⟩
abbrev aam:SD:=⟨fT (TH nr)::B::DI::B::B::.ptr 5 0::B::.ptr 7 0::.ptr 8 0::fT (J4 110592 .str)::DI::DI::fT (.sl .loc .str)::DI::DI::bs 29 [],zs 5 ((zsm (TH .str))::Z::(some Y0)::(some Y0)::zs 35 []),.none⟩
def ajO:=ak6.q1 {mask:=mk [(4,[0,2,5,7,8,9,10,11,12,13,14])],mv:=[31,35]} func197 [pd (.sl nr),pf (.sl .str),pI,pf TJ] [(true,Y0),(false,(.sl (.own none) .str)),rI,rI] (c4 tc) agY (λX K=>np (λy0 y1 y2 y3 y4 y5 y6 y7=>kr K aam ((X.1.1,(X.1.2.1,(y0,(y1,(y2,(y3,(y4,(y5,())))))))),(X.2.1.1,(y6,(y7,()))),())) X.1.1 X.1.2.1 (q2 X) (q3 X) (q4 X) X.2.1.1 X.2.1.2.2.1) (λX=>(q5 X,q6 X,q7 X,X.2.1.2.1)) (λX x=>((z5 (w x.1 (w x.2.1 (u x.2.2.1))) X.1),(z1 (u x.2.2.2) X.2.1),X.2.2))
def ajP:=ajO.q {merge:=mg [(3,22)],mv:=[23,24,30,39,49,53,55,57,58],sb:=mg [(51,6)]} func198 mn [ld [1,4,6,7,8] [2] [7,8,6] @jS]
def G65:=ajP.q {mv:=[15,33,37,51,54,58]} func65 mw
def ajQ:=G65.q {merge:=mg [(1,11)]} func199 pt
def amG:=ajQ.q {merge:=mg [(1,12)]} func433 lA
def ak7:=amG.q {merge:=mg [(5,54)],sb:=mg [(8,8),(9,9)]} func319 nn
def ajR:=ak7.q {merge:=mg [(4,50),(14,102)],mv:=[54,55,106,114,128,130,131],mb:=mg [(54,20),(128,30),(130,20)],sb:=mg [(14,14),(15,15),(16,16)]} func200 od [ld [2,6,10,14,15,16,19,20,21] [0,8] [19,21,10,20] @mx]
def ajS:=ajR.q {} func201 zC
def G66:=ajS.q {merge:=mg [(3,25)],mv:=[26,66,85,87,88,90,100,102,124],sb:=mg [(11,11),(12,12),(13,13)]} func66 oa [ld [1,4,6,7,8] [2] [7,8,6] @nk]
def ajT:=G66.q {} func202 uN
def G67:=ajT.q {merge:=mg [(3,15)],mv:=[28]} func67 ud [ld [2,3,4] [1] [4,3] @oc]
def als:=G67.q {merge:=mg [(2,21)],mv:=[22,37,38]} func355 ta
def alv:=als.q {} func357 yU [ld [3,4] [1] [3,4] @tj]
def alz:=alv.q {mv:=[26,36,44],mb:=mg [(44,13)],sb:=mg [(10,10),(11,11),(13,13),(14,14)]} func361 uI [ld [2,8,10,11,12,13,14,15] [0,4,6] [15,13,14] @lg [(.exit 0,[15,13,14]),(.ret,[12,15,10,11,13,14])]]
def aka:=alz.q {merge:=mg [(2,58),(6,102),(27,194)],mv:=[70,134,149,150,169,177,203,206,211,221,222],mb:=mg [(221,22),(222,33)],sb:=mg [(14,14),(15,15)]} func248 uL [ld [2,5,6,14,15,16,17,19,20,21,22,23,24] [0,8,10] [23,24,22] @kq [(.exit 0,[23,24,22]),(.ret,[16,23,24,14,15,22])],ld [2,14,15,19,20,21,22,29,30,31] [0,8,10] [29,31] @ks [(.exit 2,[29,31])]]
def aiY:=aka.q {mv:=[19,20,34,36,38]} func121 yK
def amX:=aiY.q {} func452 yP
def alA:=amX.q {merge:=mg [(1,41),(4,84),(6,4)]} func362 wN
def alB:=alA.q {} func363 GJ
def alC:=alB.q {} func364 FZ
def akb:=alC.q {merge:=mg [(1,29),(3,43)],mv:=[52,67,76],mb:=mg [(76,16)],sb:=mg [(14,14),(15,15)]} func249 po
def aiZ:=akb.q {mv:=[16,36,48,64,71,89,91,107],sb:=mg [(9,9),(10,10)]} func122 sR
def ai0:=aiZ.q {mv:=[17,25,43,45,46,48,58,60,71,144],mb:=mg [(71,3)],sb:=mg [(5,5),(6,6),(7,7),(81,3)]} func123 wS [ld [2,3,4] [1] [4,3] @qR,ld [2,3,10] [1] [10,3] @pc [(.exit 2,[10,3])],ld [2,3,11] [1] [11,3] @lf [(.exit 4,[11,3])]]
def G36:=ai0.q {merge:=mg [(1,17)],mv:=[24,36,37,58,65]} func36 En
def G15:=G36.q {merge:=mg [(3,21)],mv:=[22,23,30,37,39,40,44,45],sb:=mg [(9,9)]} func15 AN [ld [4,6,7,8] [1] [7,8,6] @uJ]
def G16:=G15.q {} func16 nZ [ld [3,4] [1] [3,4] @nj]
def G17:=G16.q {merge:=mg [(1,23)],mv:=[34,41,42]} func17 wO [ld [1,2,6,7,8] [] [8,7] @qO]
def aj0:=G17.q {merge:=mg [(6,40)]} func209 rX [ld [4,5] [0,1] [5] @qY [(.exit 0,[5]),(.ret,[4,5])]]
def G72:=aj0.q {merge:=mg [(1,4)]} func72 yO
def G25:=G72.q {merge:=mg [(1,16),(6,4)]} func25 qN
def G26:=G25.q {merge:=mg [(4,17)]} func26 tK [ld [2,6,7] [5] [7] @sk [(.exit 0,[7]),(.ret,[2,7])]]
def G27:=G26.q {merge:=mg [(4,22)]} func27 ua [ld [2,3] [0] [3] @sQ [(.exit 0,[3]),(.ret,[2,3])]]
abbrev qu:au PS:=[pd (.sl (.int .u8))]
def xw:zH:=Qk qu [rB] (c1 tA)
theorem EZ:zfo 4 xw:=f0 {merge:=mg [(7,2)]} G27.s func4
end
end Go.Proofs.YtfbhfnniblfpbaaGreat.Fn
