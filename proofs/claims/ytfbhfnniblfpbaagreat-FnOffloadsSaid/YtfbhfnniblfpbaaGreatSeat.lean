import Derived.Test.YtfbhfnniblfpbaaGreatDnSig
import Derived.Test.YtfbhfnniblfpbaaGreatPure
import Derived.Test.YtfbhfnniblfpbaaGreatRows
/- Each function of the program is its pure function (made by gen.py). -/
namespace Go.Proofs.YtfbhfnniblfpbaaGreat.Fn
open Go.Dn
open Go.Pu Go.Proofs.Tryz
set_option maxRecDepth 100000
set_option linter.unusedVariables false
noncomputable section
variable {Λ:Hg} {P:Program} {A0 A1 A2 A3 A4 A5 A6 C R σ:Type} {A:Type->Type} {rs:ax (Bool×FT)} {s:ax PS}
abbrev zkk (R:Type):=Ex->AS->Option R
abbrev zit:FT:=.int .i64
abbrev SF (a b:FT):FT:=.pair a b
abbrev zpi (b:FT):FT:=.pair (.int .i64) b
abbrev MG (n:Nat)(t:CT):FT:=.sl (.own (some n)) t
abbrev zsm (t:FT):Option FT:=some t
abbrev ie (t:FT):PD:=.data false t
abbrev kW (t:FT):PD:=.data true t
abbrev Xc (t:CT):FT:=.sl .arg t
abbrev zfo:=nn Tryz.prog
abbrev B:PD:=.bot
abbrev DI:PD:=.data false (.int .i64)
abbrev DB:PD:=.data false .bool
abbrev Z:aA FT:=none
theorem nF {p:Code->Prop}:∀x∈([]:ax Code),p x:=λ_ h=>nomatch h
theorem cF {p:Code->Prop}{a:Code}{l:ax Code}(h:p a)(t:∀x∈l,p x):∀x∈a::l,p x:=List.forall_mem_cons.2 ⟨h,t⟩
theorem hF {p:Code->Prop}{l m:ax Code}(e:l=m)(h:∀x∈m,p x):∀x∈l,p x:=e▸h
theorem fk {E:Env}{Γ:zu}{F:De s->aA (jK rs)}{f:Nat}{fn:Func}(an:An)(hS:Sound P E Γ)(hf:P.funcs[f]?=some fn){l:ax Code}(h:∀c∈l,LOk E Γ an Λ c)(hn:(fn.name== "runtime.NumGoroutine")=false:=by kernel_rfl)(hl:jD (fn.body.getD .skip)=l:=by kernel_rfl)(gb:an.cut=[]:=by kernel_rfl)(hF:∀a,HB E Γ an Λ fn rs (jM s a)=F a:=by intro a;kernel_rfl):nn P f (TN s rs F):=nn.of (aee hS hf hn (BV.of (Fn.hF hl h) gb)) hF
theorem ao {E:Env}{Γ:zu}{an:An}{b:Code}{l:ax Code}(h:∀c∈l,LOk E Γ an Λ c)(hl:jD b=l:=by kernel_rfl)(hc:an.cut=[]:=by kernel_rfl):BV E Γ an Λ b:=BV.of (Fn.hF hl h) hc
theorem ac {E:Env}{Γ:zu}{an:An}{b:Code}{l m:ax Code}(h:∀c∈l,LOk E Γ an Λ c)(hc:∀c∈m,COk E Γ an Λ c)(hl:jD b=l:=by kernel_rfl)(hm:lZ an.cut b=m:=by kernel_rfl):BV E Γ an Λ b:=⟨Fn.hF hl h,Fn.hF hm hc⟩
theorem fc {E:Env}{Γ:zu}{F:De s->aA (jK rs)}{f:Nat}{fn:Func}(an:An)(hS:Sound P E Γ)(hf:P.funcs[f]?=some fn){l m:ax Code}(h:∀c∈l,LOk E Γ an Λ c)(hc:∀c∈m,COk E Γ an Λ c)(hn:(fn.name== "runtime.NumGoroutine")=false:=by kernel_rfl)(hl:jD (fn.body.getD .skip)=l:=by kernel_rfl)(hm:lZ an.cut (fn.body.getD .skip)=m:=by kernel_rfl)(hF:∀a,HB E Γ an Λ fn rs (jM s a)=F a:=by intro a;kernel_rfl):nn P f (TN s rs F):=nn.of (aee hS hf hn ⟨Fn.hF hl h,Fn.hF hm hc⟩) hF
abbrev pd (t:CT):PS:=.data false t
abbrev pf (t:CT):PS:=.data true t
abbrev pI:PS:=.data false (.int .i64)
abbrev rB:Bool×FT:=(false,.bool)
abbrev rI:Bool×FT:=(false,.int .i64)
abbrev rS:Bool×FT:=(false,.str)
abbrev bs:Nat->ax PD->ax PD
 |0,l=>l
 |n+1,l=> .bot::bs n l
abbrev zs:Nat->ax (aA FT)->ax (aA FT)
 |0,l=>l
 |n+1,l=>none::zs n l
def mk (l:ax (Nat×fi))(n:Nat):fi:=(l.lookup n).getD []
def mg (l:ax (Nat×Nat))(n:Nat):aA Nat:=l.lookup n
def ke (n:Nat)(K:zkk R)(d:SD)(x:SD.D d):aA R:=K (.exit n) (SD.enc d x)
def kn (K:zkk R)(d:SD)(x:SD.D d):aA R:=K .normal (SD.enc d x)
def kr (K:zkk R)(d:SD)(x:SD.D d):aA R:=K .ret (SD.enc d x)
def mkl (d:SD)(t:{R:Type}->SD.D d->(Ex->AS->aA R)->(σ->aA R)->σ->aA R)(i:SD.D d->σ):MI:=⟨d,λX K=>aZ (t X K) fuel (i X)⟩
theorem lk {E:Env}{Γ:zu}{an:An}{c:Code}(d:SD)(t:{R:Type}->SD.D d->(Ex->AS->aA R)->(σ->aA R)->σ->aA R)(i:SD.D d->σ)(w:SD.D d->σ->SD.D d)(h1:Λ (eP c)=mkl d t i:=by kernel_rfl)(h:∀(R:Type)(X:SD.D d)(K:zkk R)(m:Nat)(x:σ),B7 (an.mask (eP c)) (den E Γ an Λ c) (m+1) (SD.enc d (w X x)) K=t X K (λy=>B7 (an.mask (eP c)) (den E Γ an Λ c) m (SD.enc d (w X y)) K) x:=by intro R X K m x;kernel_rfl)(hw:∀X,w X (i X)=X:=by intro X;kernel_rfl):LOk E Γ an Λ c:=lok (mkl d t i) h1 fuel λR X K=>(Uz (λx=>SD.enc d (w X x)) (t X K) (h R X K) fuel (i X)).symm.trans (congrArg (λy=>B7 (an.mask (eP c)) (den E Γ an Λ c) fuel (SD.enc d y) K) (hw X))
def mkc (d:SD)(t:{R:Type}->SD.D d->(Ex->AS->aA R)->aA R):MI:=⟨d,λX K=>t X K⟩
theorem ck {E:Env}{Γ:zu}{an:An}{c:Code}(d:SD)(t:{R:Type}->SD.D d->(Ex->AS->aA R)->aA R)(h1:Λ (zG c)=mkc d t:=by kernel_rfl)(h:∀(R:Type)(X:SD.D d)(K:zkk R),t X K=den E Γ an Λ c (SD.enc d X) (λe cp=>K e (cp.mask (an.mask (zG c+1)))):=by intro R X K;kernel_rfl):COk E Γ an Λ c:=cok (mkc d t) h1 h
def u {A B:Type}(y:A)(x:A×B):A×B:=(y,x.2)
def w {A B:Type}(y:A)(f:B->B)(x:A×B):A×B:=(y,f x.2)
def z1 {B:Type}(f:B->B)(x:A0×B):A0×B:=(x.1,f x.2)
def z2 {B:Type}(f:B->B)(x:A0×A1×B):A0×A1×B:=(x.1,x.2.1,f x.2.2)
def z3 {B:Type}(f:B->B)(x:A0×A1×A2×B):A0×A1×A2×B:=(x.1,x.2.1,x.2.2.1,f x.2.2.2)
def z5 {B:Type}(f:B->B)(x:A0×A1×A2×A3×A4×B):A0×A1×A2×A3×A4×B:=(x.1,x.2.1,x.2.2.1,x.2.2.2.1,x.2.2.2.2.1,f x.2.2.2.2.2)
def z6 {B:Type}(f:B->B)(x:A0×A1×A2×A3×A4×A5×B):A0×A1×A2×A3×A4×A5×B:=(x.1,x.2.1,x.2.2.1,x.2.2.2.1,x.2.2.2.2.1,x.2.2.2.2.2.1,f x.2.2.2.2.2.2)
def q2 {B:Type}(x:(A0×A1×A2×B)×C):A2:=x.1.2.2.1
def q3 {B:Type}(x:(A0×A1×A2×A3×B)×C):A3:=x.1.2.2.2.1
def q4 {B:Type}(x:(A0×A1×A2×A3×A4×B)×C):A4:=x.1.2.2.2.2.1
def q5 {B:Type}(x:(A0×A1×A2×A3×A4×A5×B)×C):A5:=x.1.2.2.2.2.2.1
def q6 {B:Type}(x:(A0×A1×A2×A3×A4×A5×A6×B)×C):A6:=x.1.2.2.2.2.2.2.1
def q7 {A7 B:Type}(x:(A0×A1×A2×A3×A4×A5×A6×A7×B)×C):A7:=x.1.2.2.2.2.2.2.2.1
def q8 {A7 A8 B:Type}(x:(A0×A1×A2×A3×A4×A5×A6×A7×A8×B)×C):A8:=x.1.2.2.2.2.2.2.2.2.1
def q9 {A7 A8 A9 B:Type}(x:(A0×A1×A2×A3×A4×A5×A6×A7×A8×A9×B)×C):A9:=x.1.2.2.2.2.2.2.2.2.2.1
def c1 {B:Type}(f:A0->R)(a:A0×B):R:=f a.1
def c4 {B:Type}(f:A0->A1->A2->A3->R)(a:A0×A1×A2×A3×B):R:=f a.1 a.2.1 a.2.2.1 a.2.2.2.1
theorem f0 {E:Env}{Γ:zu}{F:De s->aA (jK rs)}{f:Nat}{fn:Func}(an:An)(hS:Sound P E Γ)(hf:P.funcs[f]?=some fn)(hn:(fn.name== "runtime.NumGoroutine")=false:=by kernel_rfl)(hl:jD (fn.body.getD .skip)=[]:=by kernel_rfl)(gb:an.cut=[]:=by rfl)(hF:∀a,HB E Γ an Hg.nil fn rs (jM s a)=F a:=by intro a;kernel_rfl):nn P f (TN s rs F):=nn.of (aee hS hf hn (BV.of (Fn.hF hl nF) gb)) hF
abbrev Y0:FT:=zpi (zpi (zpi zit))
abbrev Y1:FT:=SF (MG 36865 .str) (SF (MG 36868 pe) (SF (SF Y0 (SF (zpi (zpi (zpi (MG 36892 (.int .i64))))) (SF (MG 36895 PR) zit))) (SF (MG 36901 nB) (SF (MG 36904 NQ) (SF (.sl .arg Iz) (SF (.sl .arg .bool) (SF (zpi (SF .bool (.sl .arg (.int .i64)))) (SF (SF (.sl .arg acF) (SF (.sl .arg Xi) (SF .str (.sl .arg (.int .i64))))) (SF (.sl .arg kY) (SF .bool (SF (.sl .arg .str) (SF (.sl .arg (.int .i64)) (SF (.sl .arg (.int .i64)) (SF zit Y0))))))))))))))
abbrev Y2:FT:=zpi (zpi (zpi (.sl .arg (.int .i64))))
def E:Env:={ty:=[(3,⟨false,(.int .i64),[]⟩),
 (4,⟨false,.bool,[]⟩),
 (5,⟨false,(.int .u8),[]⟩),
 (9,⟨false,.str,[]⟩),
 (22,⟨false,(.sl (.int .u8)),[(5,0)]⟩),
 (24,⟨false,(.sl .str),[(9,0)]⟩),
 (26,⟨true,(.sl .str),[(0,1)]⟩),
 (27,⟨false,(.sl pe),[(254,0)]⟩),
 (29,⟨true,Xh,[(0,1),(1,1),(2,1),(3,1)]⟩),
 (30,⟨false,(.sl (.int .i64)),[(3,0)]⟩),
 (32,⟨true,NQ,[(0,1),(1,1),(2,1),(3,1)]⟩),
 (33,⟨false,(.sl PR),[(258,0)]⟩),
 (35,⟨true,Fb,[(0,4),(4,4),(8,1),(9,1)]⟩),
 (36,⟨false,(.sl nB),[(141,0)]⟩),
 (37,⟨false,(.sl NQ),[(32,0)]⟩),
 (38,⟨false,(.sl Iz),[(156,0)]⟩),
 (39,⟨false,(.sl .bool),[(4,0)]⟩),
 (41,⟨true,Vu,[(0,1),(1,1),(2,1)]⟩),
 (42,⟨false,(.sl acF),[(267,0)]⟩),
 (43,⟨false,(.sl Xi),[(269,0)]⟩),
 (45,⟨true,(.sl Xi),[(0,1)]⟩),
 (47,⟨true,ajj,[(0,1),(1,1)]⟩),
 (49,⟨true,MJ,[(0,1),(1,1),(2,2)]⟩),
 (50,⟨false,(.sl kY),[(146,0)]⟩),
 (52,⟨true,PO,[(0,1),(1,1),(2,1),(3,1),(4,1)]⟩),
 (54,⟨true,gY,[(0,1),(1,1),(2,10),(12,1),(13,1),(14,1),(15,1),(16,3),(19,4),(23,1),(24,1),(25,1),(26,1),(27,1),(28,5)]⟩),
 (55,⟨false,(.sl agF),[(116,0)]⟩),
 (63,⟨true,vj,[(0,3),(3,4),(7,1),(8,1),(9,1)]⟩),
 (112,⟨true,agG,[(0,1),(1,1),(2,1),(3,1),(4,1),(5,1),(6,1),(7,1)]⟩),
 (114,⟨true,Ph,[(0,1),(1,1),(2,1),(3,1),(4,1),(5,1),(6,1),(7,1),(8,8)]⟩),
 (116,⟨true,agF,[(0,1),(1,16),(17,1),(18,1),(19,1),(20,1)]⟩),
 (137,⟨true,zB,[(0,1),(1,1),(2,1)]⟩),
 (139,⟨true,agH,[(0,16),(16,1),(17,1)]⟩),
 (141,⟨true,nB,[(0,4),(4,3),(7,3),(10,18),(28,1),(29,1)]⟩),
 (144,⟨true,PO,[(0,1),(1,1),(2,1),(3,1),(4,1)]⟩),
 (146,⟨true,kY,[(0,5),(5,1),(6,1),(7,1)]⟩),
 (156,⟨true,Iz,[(0,1),(1,1),(2,1),(3,1),(4,1),(5,1)]⟩),
 (209,⟨true,(.pair (.sl (.int .u8)) (.pair (.int .i64) (.int .i64))),[(0,1),(1,1),(2,1)]⟩),
 (210,⟨false,(.sl Ph),[(114,0)]⟩),
 (249,⟨true,PO,[(0,1),(1,1),(2,1),(3,1),(4,1)]⟩),
 (254,⟨true,pe,[(0,1),(1,1),(2,1),(3,1)]⟩),
 (258,⟨true,PR,[(0,1),(1,1),(2,1)]⟩),
 (267,⟨true,acF,[(0,1),(1,1),(2,1),(3,1),(4,1),(5,1),(6,1),(7,1),(8,1)]⟩),
 (269,⟨true,Xi,[(0,1),(1,5),(6,1)]⟩),
 (385,⟨false,(.sl ph),[(387,0)]⟩),
 (387,⟨true,ph,[(0,1),(1,1)]⟩),
 (388,⟨false,(.sl zv),[(392,0)]⟩),
 (392,⟨true,zv,[(0,1),(1,1),(2,1),(3,1),(4,1),(5,1)]⟩),
 (407,⟨true,TIp,[(0,1),(1,1),(2,1),(3,1),(4,1),(5,1),(6,1)]⟩),
 (410,⟨true,asm,[(0,1),(1,1),(2,1),(3,1),(4,1)]⟩),
 (442,⟨false,(.sl ph),[(446,0)]⟩),
 (446,⟨true,ph,[(0,1),(1,1)]⟩),
 (472,⟨false,(.int .u32),[]⟩)],eqs:=[(114,[.int,.int,.int,.int,.int,.int,.int,.int,.int,.int,.int,.int,.int,.int,.int,.str]),(139,[.int,.int,.int,.int,.int,.int,.int,.int,.int,.int,.int,.int,.int,.int,.int,.str,.int,.int]),(144,[.int,.int,.int,.int,.int]),(146,[.int,.int,.int,.int,.int,.int,.str,.bool]),(392,[.int,.int,.int,.int,.int,.int])],fts:=[]}
theorem base:Sound Tryz.prog E zu.nil:=Sound.nil (YD (by kernel_rfl)) (YG (by kernel_rfl)) (YF (by kernel_rfl)) (by kernel_rfl)
structure SG where (g:zu) (s:Sound Tryz.prog E g)
def SG.add (S:SG){f:Nat}{F:BC}(h:zfo f F):SG:=⟨S.g.add f F,S.s.add h⟩
def G0:SG:=⟨zu.nil,base⟩
def SG.qk (S:SG){f:Nat}{fn:Func}(an:An)(hf:Tryz.prog.funcs[f]?=some fn)(s:ax PS)(rs:ax (Bool×FT))(F:De s->aA (jK rs)){l:ax Code}(h:∀c∈l,LOk E S.g an Λ c)(hn:(fn.name== "runtime.NumGoroutine")=false:=by kernel_rfl)(hl:jD (fn.body.getD .skip)=l:=by kernel_rfl)(gb:an.cut=[]:=by kernel_rfl)(hF:∀a,HB E S.g an Λ fn rs (jM s a)=F a:=by intro a;kernel_rfl):SG:=S.add (nn.of (aee S.s hf hn (BV.of (Fn.hF hl h) gb)) hF)
def SG.q1 (S:SG){f:Nat}{fn:Func}(an:An)(hf:Tryz.prog.funcs[f]?=some fn)(s:ax PS)(rs:ax (Bool×FT))(F:De s->aA (jK rs))(d:SD)(t:{R:Type}->SD.D d->(Ex->AS->aA R)->(σ->aA R)->σ->aA R)(i:SD.D d->σ)(w:SD.D d->σ->SD.D d)(h1:(Hg.nil.add (eP (iy fn 0)) (mkl d t i)) (eP (iy fn 0))=mkl d t i:=by kernel_rfl)(h:∀(R:Type)(X:SD.D d)(K:zkk R)(m:Nat)(x:σ),B7 (an.mask (eP (iy fn 0))) (den E S.g an (Hg.nil.add (eP (iy fn 0)) (mkl d t i)) (iy fn 0)) (m+1) (SD.enc d (w X x)) K=t X K (λy=>B7 (an.mask (eP (iy fn 0))) (den E S.g an (Hg.nil.add (eP (iy fn 0)) (mkl d t i)) (iy fn 0)) m (SD.enc d (w X y)) K) x:=by intro R X K m x;kernel_rfl)(hw:∀X,w X (i X)=X:=by intro X;kernel_rfl)(hn:(fn.name== "runtime.NumGoroutine")=false:=by kernel_rfl)(hl:jD (fn.body.getD .skip)=[iy fn 0]:=by kernel_rfl)(gb:an.cut=[]:=by kernel_rfl)(hF:∀a,HB E S.g an (Hg.nil.add (eP (iy fn 0)) (mkl d t i)) fn rs (jM s a)=F a:=by intro a;kernel_rfl):SG:=S.add (nn.of (aee S.s hf hn (BV.of (Fn.hF hl (cF (lk d t i w h1 h hw) nF)) gb)) hF)
def Ty (T:Nat):Shape:=(kl E.ty T).getD ⟨false,.bool,[]⟩
def kF (k:FK):CT->FT
 | .pair a b=> .pair (kF k a) (kF k b)
 | .sl e=> .sl k e
 | .int k=> .int k
 | .bool=> .bool
 | .str=> .str
def sF:Nat->CT->FT
 |n,.pair a b=> .pair (sF n a) (sF (n+3*a.size) b)
 |n,.sl e=> .sl (.own (some n)) e
 |_,.int k=> .int k
 |_,.bool=> .bool
 |_,.str=> .str
def sg (fn:Func):ax PS:=fn.params.toList.map λT=> .data (Ty T).agg (Ty T).ct
def rz (fn:Func):ax (Bool×FT):=fn.resultTypes.toList.map λT=>((Ty T).agg,kF (.own none) (Ty T).ct)
def Cu (R:Type):ax PS->Type
 |[]=>R
 | .data _ t::r=>t.D->Cu R r
 | .fn _::r=>Cu R r
def un:(s:ax PS)->Cu R s->De s->R
 |[],f,_=>f
 | .data _ _::r,f,a=>un r (f a.1) a.2
 | .fn _::r,f,a=>un r f a
def dT:ax PD->Nat->Type
 |[],_=>Unit
 | .data _ t::_,0=>t.ct.D
 |_::_,0=>Unit
 |_::r,n+1=>dT r n
def dG:(l:ax PD)->(n:Nat)->GD l->dT l n
 |[],_,_=>()
 | .data _ _::_,0,x=>x.1
 | .bot::_,0,_=>()
 | .ptr _ _::_,0,_=>()
 | .fn _::_,0,_=>()
 | .data _ _::r,n+1,x=>dG r n x.2
 | .bot::r,n+1,x=>dG r n x
 | .ptr _ _::r,n+1,x=>dG r n x
 | .fn _::r,n+1,x=>dG r n x
def dP:(l:ax PD)->(n:Nat)->dT l n->GD l->GD l
 |[],_,_,x=>x
 | .data _ _::_,0,y,x=>(y,x.2)
 | .bot::_,0,_,x=>x
 | .ptr _ _::_,0,_,x=>x
 | .fn _::_,0,_,x=>x
 | .data _ _::r,n+1,y,x=>(x.1,dP r n y x.2)
 | .bot::r,n+1,y,x=>dP r n y x
 | .ptr _ _::r,n+1,y,x=>dP r n y x
 | .fn _::r,n+1,y,x=>dP r n y x
def bT:ax (aA FT)->Nat->Type
 |[],_=>Unit
 |some t::_,0=>t.ct.D
 |none::_,0=>Unit
 |_::r,n+1=>bT r n
def bG:(l:ax (aA FT))->(n:Nat)->F5 l->bT l n
 |[],_,_=>()
 |some _::_,0,x=>x.1
 |none::_,0,_=>()
 |some _::r,n+1,x=>bG r n x.2
 |none::r,n+1,x=>bG r n x
def bP:(l:ax (aA FT))->(n:Nat)->bT l n->F5 l->F5 l
 |[],_,_,x=>x
 |some _::_,0,y,x=>(y,x.2)
 |none::_,0,_,x=>x
 |some _::r,n+1,y,x=>(x.1,bP r n y x.2)
 |none::r,n+1,y,x=>bP r n y x
def pk (d:SD)(i:Nat):Nat:=match nth d.slots i with
 |some (.data _ _)=>0
 |some _=>1
 |none=>2
def PK (d:SD)(i:Nat):Nat->Type
 |0=>dT d.slots i
 |1=>bT d.boxes i
 |_=>ioD d.io
abbrev PT (d:SD)(i:Nat):Type:=PK d i (pk d i)
def gK (d:SD)(i:Nat)(X:d.D):(k:Nat)->PK d i k
 |0=>dG d.slots i X.1
 |1=>bG d.boxes i X.2.1
 |_+2=>X.2.2
def pK (d:SD)(i:Nat)(X:d.D):(k:Nat)->PK d i k->d.D
 |0,y=>(dP d.slots i y X.1,X.2)
 |1,y=>(X.1,bP d.boxes i y X.2.1,X.2.2)
 |_+2,y=>(X.1,X.2.1,y)
def St (d:SD):fi->Type
 |[]=>Unit
 |[p]=>PT d p
 |p::q::r=>PT d p×St d (q::r)
def gS (d:SD)(X:d.D):(l:fi)->St d l
 |[]=>()
 |[p]=>gK d p X (pk d p)
 |p::q::r=>(gK d p X (pk d p),gS d X (q::r))
def pS (d:SD):(l:fi)->St d l->d.D->d.D
 |[],_,X=>X
 |[p],y,X=>pK d p X (pk d p) y
 |p::q::r,y,X=>pS d (q::r) y.2 (pK d p X (pk d p) y.1)
def Cv (d:SD)(R:Type):fi->Type
 |[]=>R
 |p::r=>PT d p->Cv d R r
def aV (d:SD)(X:d.D):(l:fi)->Cv d R l->R
 |[],f=>f
 |p::r,f=>aV d X r (f (gK d p X (pk d p)))
def cV (d:SD)(K:d.D->R):(l:fi)->d.D->Cv d R l
 |[],X=>K X
 |p::r,X=>λy=>cV d K r (pK d p X (pk d p) y)
def Cz (d:SD)(R:Type):fi->Type
 |[]=>Unit->R
 |p::r=>Cv d R (p::r)
def cZ (d:SD)(K:d.D->R):(l:fi)->d.D->Cz d R l
 |[],X=>λ_=>K X
 |p::r,X=>cV d K (p::r) X
def pls (d:SD):fi:=(List.range d.slots.length).filter (λi=>match nth d.slots i with|some (.data _ _)=>true|_=>false)++(List.range d.slots.length).filter (λi=>match nth d.boxes i with|some (some _)=>true|_=>false)++match d.io with| .some _=>[d.slots.length]|_=>[]
def kps (d:SD):fi:=(List.range d.slots.length).filter λi=>(match nth d.slots i with|some .bot=>false|_=>true)||match nth d.boxes i with|some (some _)=>true|_=>false
def TT (d:SD)(s:fi)(R:Type):ax (Ex×fi)->Type
 |[]=>Cv d ((St d s->aA R)->St d s->aA R) ((pls d).filter λi=> !s.contains i)
 |x::r=>Cz d (aA R) x.2->TT d s R r
def tT (d:SD)(s:fi)(X:d.D)(K:zkk R):(l:ax (Ex×fi))->TT d s R l->(St d s->aA R)->St d s->aA R
 |[],f=>aV d X _ f
 |x::r,f=>tT d s X K r (f (cZ d (λY=>K x.1 (d.enc Y)) x.2 X))
structure LS (fn:Func) where (d:SD) (σ:Type) (t:{R:Type}->d.D->(Ex->AS->Option R)->(σ->Option R)->σ->Option R) (i:d.D->σ) (w:d.D->σ->d.D)
def fo (i:Nat):Code->aA Oper
 | .region _ l _=>l.toList.find? λo=>match o.dst with|some j=>Nat.beq j i|none=>false
 | .seq a b=>match fo i a with|none=>fo i b|x=>x
 | .cond _ a b=>match fo i a with|none=>fo i b|x=>x
 | .block _ a=>fo i a
 | .loop a=>fo i a
 |_=>none
def kP (f:Nat->CT->FT)(fn:Func)(i:Nat):PD×aA FT:=match fn.params[i]?,fo i (fn.body.getD .skip)with
 |some T,_=>(.data (Ty T).agg (f (12288*i) (Ty T).ct),none)
 |_,some o=>match o.op with
  | .alloc T=>(.ptr i 0,some (f (12288*i+1) (Ty T).ct))
  | .box T _=>(.ptr i 0,some (f (12288*i+1) (Ty T).ct))
  |_=>(.data (Ty o.type).agg (f (12288*i) (Ty o.type).ct),none)
 |_,_=>(.bot,none)
def dS (fn:Func)(a b:fi)(x:ax (Nat×PD×aA FT))(io:IoD):SD:=
 let l:=(List.range fn.ntmps).map λi=>match x.lookup i with
  |some y=>y
  |none=>bif a.contains i then kP sF fn i else bif b.contains i then kP (λ_=>kF .arg) fn i else(.bot,none)
 ⟨l.map (·.1),l.map (·.2),io⟩
def ld {fn:Func}(a b s:fi)(T:∀R,A R)(l:ax (Ex×fi):=[(.exit 0,s)])(x:ax (Nat×PD×aA FT):=[])(io:IoD:=.none)(h:∀R,A R=TT (dS fn a b x io) s R l:=by intro R;kernel_rfl):LS fn:=⟨dS fn a b x io,St (dS fn a b x io) s,λ{R} X K=>tT (dS fn a b x io) s X K l (cast (h R) (T R)),λX=>gS (dS fn a b x io) X s,λX y=>pS (dS fn a b x io) s y X⟩
structure CS (fn:Func) where (d:SD) (o:List Nat) (t:{R:Type}->d.D->(Ex->AS->Option R)->Option R)
def TC (d:SD)(R:Type):ax (Ex×fi)->Type
 |[]=>Cv d (aA R) (pls d)
 |x::r=>Cz d (aA R) x.2->TC d R r
def tC (d:SD)(X:d.D)(K:zkk R):(l:ax (Ex×fi))->TC d R l->aA R
 |[],f=>aV d X _ f
 |x::r,f=>tC d X K r (f (cZ d (λY=>K x.1 (d.enc Y)) x.2 X))
def lc {fn:Func}(a b o:fi)(T:∀R,A R)(l:ax (Ex×fi))(x:ax (Nat×PD×aA FT):=[])(io:IoD:=.none)(h:∀R,A R=TC (dS fn a b x io) R l:=by intro R;kernel_rfl):CS fn:=⟨dS fn a b x io,o,λ{R} X K=>tC (dS fn a b x io) X (λe s=>K e (s.mask o)) l (cast (h R) (T R))⟩
def cu:FT:=.pair (.sl .ajo (.int .u8)) (.pair (.int .i64) (.int .i64))
def lb {fn:Func}(a b s:fi)(T:∀R,A R)(l:ax (Ex×fi):=[(.exit 0,s)])(x:ax (Nat×PD×aA FT):=[])(h:∀R,A R=TT (dS fn a b ((0,.ptr 0 0,some cu)::x) .ptr) s R l:=by intro R;kernel_rfl):LS fn:=ld a b s T l ((0,.ptr 0 0,some cu)::x) .ptr h
def lx {fn:Func}(a b o:fi)(T:∀R,A R)(l:ax (Ex×fi))(x:ax (Nat×PD×aA FT):=[])(h:∀R,A R=TC (dS fn a b ((0,.ptr 0 0,some cu)::x) .ptr) R l:=by intro R;kernel_rfl):CS fn:=lc a b o T l ((0,.ptr 0 0,some cu)::x) .ptr h
section
variable (Γ:zu) (an:An) (fn:Func)
def lac (c:fi):Nat->ax (CS fn)->Hg
 |_,[]=>Hg.nil
 |j,l::r=>(lac c (j+1) r).add (zG (Ec c fn j)) (mkc l.d l.t)
def lam (B:Hg):Nat->ax (LS fn)->Hg
 |_,[]=>B
 |k,l::r=>(lam B (k+1) r).add (eP (iy fn k)) (mkl l.d l.t l.i)
def xJ (c:fi)(n:Nat):Nat->ax (CS fn)->fi
 |_,[]=>[]
 |j,l::r=>bif Nat.beq n (zG (Ec c fn j)) then kps l.d else bif Nat.beq n (zG (Ec c fn j)+1) then l.o else xJ c n (j+1) r
def msk (c:fi)(y:ax (CS fn))(n:Nat):Nat->ax (LS fn)->fi
 |_,[]=>xJ fn c n 0 y
 |k,l::r=>bif Nat.beq n (eP (iy fn k)) then kps l.d else msk c y n (k+1) r
def wm (l:ax (LS fn))(y:ax (CS fn)):An:={an with mask:=λn=>msk fn an.cut y n 0 l}
def LL (Λ:Hg):Nat->ax (LS fn)->Prop
 |_,[]=>True
 |k,l::r=>Λ (eP (iy fn k))=mkl l.d l.t l.i/\(∀(R:Type)(X:l.d.D)(K:zkk R)(m:Nat)(x:l.σ),B7 (an.mask (eP (iy fn k))) (den E Γ an Λ (iy fn k)) (m+1) (l.d.enc (l.w X x)) K=l.t X K (λy=>B7 (an.mask (eP (iy fn k))) (den E Γ an Λ (iy fn k)) m (l.d.enc (l.w X y)) K) x)/\(∀X,l.w X (l.i X)=X)/\LL Λ (k+1) r
def CC (Λ:Hg):Nat->ax (CS fn)->Prop
 |_,[]=>True
 |k,l::r=>Λ (zG (Ec an.cut fn k))=mkc l.d l.t/\(∀(R:Type)(X:l.d.D)(K:zkk R),l.t X K=den E Γ an Λ (Ec an.cut fn k) (l.d.enc X) (λe cp=>K e (cp.mask (an.mask (zG (Ec an.cut fn k)+1)))))/\CC Λ (k+1) r
def OK (l:ax (LS fn))(y:ax (CS fn)):Prop:=(fn.name== "runtime.NumGoroutine")=false/\jD (fn.body.getD .skip)=(List.range' 0 l.length).map (iy fn)/\lZ an.cut (fn.body.getD .skip)=(List.range' 0 y.length).map (Ec an.cut fn)/\LL Γ (wm an fn l y) fn (lam fn (lac fn an.cut 0 y) 0 l) 0 l/\CC Γ (wm an fn l y) fn (lam fn (lac fn an.cut 0 y) 0 l) 0 y
end
section
variable {Γ:zu} {an:An} {fn:Func}
theorem LL.ok {Λ:Hg}:∀{r:ax (LS fn)}{k:Nat},LL Γ an fn Λ k r->∀c∈(List.range' k r.length).map (iy fn),LOk E Γ an Λ c
 |[],_,_,_,h=>nomatch h
 |l::_,k,⟨h1,h2,h3,h4⟩,c,h=>by rcases cy.1 h with e|e;rw[e];exact lk l.d l.t l.i l.w h1 h2 h3;exact h4.ok c e
theorem CC.ok {Λ:Hg}:∀{r:ax (CS fn)}{k:Nat},CC Γ an fn Λ k r->∀c∈(List.range' k r.length).map (Ec an.cut fn),COk E Γ an Λ c
 |[],_,_,_,h=>nomatch h
 |l::_,k,⟨h1,h2,h3⟩,c,h=>by rcases cy.1 h with e|e;rw[e];exact ck l.d l.t h1 h2;exact h3.ok c e
theorem OK.all {l:ax (LS fn)}{y:ax (CS fn)}(h:OK Γ an fn l y):BV E Γ (wm an fn l y) (lam fn (lac fn an.cut 0 y) 0 l) (fn.body.getD .skip):=⟨Fn.hF h.2.1 h.2.2.2.1.ok,Fn.hF h.2.2.1 h.2.2.2.2.ok⟩
end
section
variable (S:SG) {f:Nat} {fn:Func} (an:An) (hf:Tryz.prog.funcs[f]?=some fn)
variable {A:Type}
noncomputable def SG.q (F:A)(l:ax (LS fn):=[])(y:ax (CS fn):=[])(rs:ax (Bool×FT):=rz fn)(hA:A=Cu (aA (jK rs)) (sg fn):=by kernel_rfl)(h:OK S.g an fn l y:=by repeat' (first|exact trivial|apply And.intro|(intros;kernel_rfl)))(hF:∀a,HB E S.g (wm an fn l y) (lam fn (lac fn an.cut 0 y) 0 l) fn rs (jM (sg fn) a)=un (sg fn) (cast hA F) a:=by intro a;kernel_rfl):SG:=
 S.add (nn.of (F:=un (sg fn) (cast hA F)) (aee S.s hf h.1 h.all) hF)
noncomputable def SG.b (F:A)(l:ax (LS fn):=[])(y:ax (CS fn):=[])(t:FT:=cu)(rs:ax (Bool×FT):=rz fn)(hA:A=(t.ct.D->Cu (aA (jK rs×t.ct.D)) (sg fn).tail):=by kernel_rfl)(h:OK S.g an fn l y:=by repeat' (first|exact trivial|apply And.intro|(intros;kernel_rfl)))(hF:∀x a,VK E S.g (wm an fn l y) (lam fn (lac fn an.cut 0 y) 0 l) fn rs t (.val true (ks t x)::jM (sg fn).tail a)=un (sg fn).tail (cast hA F x) a:=by intro x a;kernel_rfl):SG:=
 S.add (nn.ane (F:=λx a=>un (sg fn).tail (cast hA F x) a) (amx S.s hf h.1 h.all) hF)
noncomputable def SG.i (F:A)(l:ax (LS fn):=[])(y:ax (CS fn):=[])(rs:ax (Bool×FT):=rz fn)(t:Nat:=fn.params.getD 0 0)(hA:A=((Ty t).ct.D->Cu (aA (jK rs×(Ty t).ct.D)) (sg fn).tail):=by kernel_rfl)(h:OK S.g an fn l y:=by repeat' (first|exact trivial|apply And.intro|(intros;kernel_rfl)))(hF:∀x a,aaH E S.g (wm an fn l y) (lam fn (lac fn an.cut 0 y) 0 l) fn rs (Ty t).ct (.val (Ty t).agg (cellsOf (Ty t).ct (.own none) x)::jM (sg fn).tail a)=un (sg fn).tail (cast hA F x) a:=by intro x a;kernel_rfl):SG:=
 S.add (nn.as6 (F:=λx a=>un (sg fn).tail (cast hA F x) a) (ass S.s hf h.1 h.all) hF)
noncomputable def SG.n (F:A)(t:FT)(l:ax (LS fn):=[])(y:ax (CS fn):=[])(hA:A=Cu (aA t.ct.D) (sg fn):=by kernel_rfl)(h:OK S.g an fn l y:=by repeat' (first|exact trivial|apply And.intro|(intros;kernel_rfl)))(hF:∀a,Pr E S.g (wm an fn l y) (lam fn (lac fn an.cut 0 y) 0 l) fn t (jM (sg fn) a)=un (sg fn) (cast hA F) a:=by intro a;kernel_rfl):SG:=
 S.add (nn.anf (F:=un (sg fn) (cast hA F)) (amy S.s hf h.1 h.all) hF)
noncomputable def SG.v (F:A)(O6:ax (Bool×FT))(l:ax (LS fn):=[])(y:ax (CS fn):=[])(rs:ax (Bool×FT):=rz fn)(h2:jK O6=jK rs:=by kernel_rfl)(hA:A=Cu (aA (Bool×jK rs)) (sg fn):=by kernel_rfl)(h:OK S.g an fn l y:=by repeat' (first|exact trivial|apply And.intro|(intros;kernel_rfl)))(hF:∀a,evalAlt E S.g (wm an fn l y) (lam fn (lac fn an.cut 0 y) 0 l) fn rs O6 h2 (jM (sg fn) a)=un (sg fn) (cast hA F) a:=by intro a;kernel_rfl):SG:=
 S.add (nn.ofAlt (h2:=h2) (F:=un (sg fn) (cast hA F)) (ahe h2 S.s hf h.1 h.all) hF)
end
variable {R:Type}
def G8:=G0.q {} func8 Ly
def G45:=G8.n {merge:=mg [(3,15)]} func45 EJ (kF .arg (.pair (.sl (.int .u8)) (.pair (.int .i64) (.int .i64)))) [ld [3,4] [0] [3,4] @DU]
def aoN:=G45.b {} func278 mm
def anx:=aoN.b {} func155 cO
def anv:=anx.b {} func153 iT
def anz:=anv.b {mv:=[15]} func156 oh [lb [1,5,6] [] [5,6,0] @rJ]
def anB:=anz.b {} func158 cY
def aoO:=anB.b {} func279 uZ
def aqp:=aoO.b {} func396 AW
def aoP:=aqp.b {} func280 wR
def anA:=aoP.b {} func157 mU
def ant:=anA.b {mv:=[47,76],cut:=[6,7,9,11,14,17]} func151 CG [lb [5,6,7,8] [] [5,7,8,0,6] @BP] [lx [5,6,7,8] [] [0,5,6,7,8] @wS [(.normal,[5,7,8,0,6])],lx [5,6,7,8] [] [0,5,6,7,8] @rL [(.normal,[5,7,0,6])],lx [5,6,7,8] [] [0,5,6,7,8] @qh [(.normal,[5,0,6])],lx [5,6,7,8] [] [0,5,6,7,8] @qi [(.normal,[5,0,6])],lx [5,6,7,8,64] [] [0,5,6,7,8] @zV [(.normal,[6])],lx [5,6,7,8] [] [0,5,6,7,8] @rK [(.normal,[8])]]
def G63:=ant.q {merge:=mg [(1,6)]} func63 aQ
def aqM:=G63.q {merge:=mg [(1,18),(4,2),(5,2)]} func419 ub
def apd:=aqM.q {merge:=mg [(1,55),(3,3),(4,2)]} func304 jo
def aoJ:=apd.q {merge:=mg [(1,2)]} func274 oC
def aoM:=aoJ.q {merge:=mg [(1,6)]} func277 qg
def anw:=aoM.q {} func154 fH
def aph:=anw.q {} func308 cv
def arh:=aph.q {} func451 fX
def arx:=arh.q {merge:=mg [(1,27)]} func466 lu
def ash:=arx.q {merge:=mg [(1,12)]} func512 qM
def ar7:=ash.q {} func502 AU [ld [0,3,4] [] [3,4] @uU]
def ary:=ar7.q {} func467 mu
def aqk:=ary.q {merge:=mg [(14,82)]} func391 lq
def ar8:=aqk.q {merge:=mg [(1,2)]} func503 Jb
def arz:=ar8.q {} func468 AN
def aql:=arz.q {} func392 yz
def arA:=aql.q {merge:=mg [(1,2)]} func469 zS
def arB:=arA.q {} func470 jq
def aqm:=arB.q {} func393 AG
def aoU:=aqm.q {} func285 jT [ld [0,1,5,6] [] [5,6] @rH]
def aqn:=aoU.q {} func394 CA
def aoK:=aqn.q {} func275 jn
def aqo:=aoK.q {} func395 GK [ld [0,3,4] [] [3,4] @vU,ld [0,3,4,5] [] [3,5] @sr [(.exit 2,[3,5])]]
def aoL:=aqo.q {} func276 yO
def anu:=aoL.q {} func152 rA
def G46:=anu.b {mv:=[37,46,53,61,70,84,91,95],cut:=[5,6,9,15,19]} func46 CO [lb [1,5,6,7] [] [5,7,0] @BU] [lx [1,5,6,7] [] [0,1,5,6,7] @wY [(.normal,[5,7,0])],lx [1,5,6,7,8] [] [0,1,5,6,7] @rN [(.normal,[5,0])],lx [1,5,6,7,43,50] [] [0,1,5,6,7] @qj [(.normal,[5,0])],lx [1,5,6,7,43,57] [] [0,1,5,6,7] @mC [(.normal,[5,0])],lx [1,5,6,7] [] [0,1,5,6,7] @rM [(.normal,[7])]]
def aoT:=G46.q {} func284 sv
def arC:=aoT.b {} func471 EK
def aqq:=arC.b {mv:=[21,28],mb:=mg [(21,5)],sb:=mg [(22,0),(27,5)]} func397 yP [lb [2,4,5,6] [] [6,0,5] @yQ]
def arD:=aqq.b {} func472 CK
def aqr:=arD.b {mv:=[12,17]} func398 AX [lb [3,4] [] [3,4,0] @zW]
def an8:=aqr.q {} func191 yR
def arE:=an8.q {} func473 vX [ld [3,4,5] [] [3,5] @pV]
def aqK:=arE.q {merge:=mg [(7,39)]} func417 yS [ld [3,4,5] [2] [5] @wT [(.exit 0,[5]),(.ret,[4,5])]]
def apa:=aqK.q {merge:=mg [(7,30),(10,42)]} func301 uV [ld [2,3] [1] [3] @wP [(.exit 0,[3]),(.ret,[2,3])]]
def aqs:=apa.q {merge:=mg [(2,21),(6,31)],mv:=[22,49,57]} func399 CD [ld [2,4,6,8,9,10] [3] [9,10] @BN]
def aqt:=aqs.b {} func400 CI
def aoQ:=aqt.b {mv:=[11,16,49,58,61],sb:=mg [(52,0),(54,0),(60,4)]} func281 vc [lb [2,4,6,7] [] [7,4] @lU,lb [2,4,6,8] [] [8,0,4] @jA [(.exit 2,[8,0,4])]]
def G60:=aoQ.q {sb:=mg [(2,2)]} func60 qX
def G61:=G60.q {sb:=mg [(2,2)]} func61 qW
def anW:=G61.q {merge:=mg [(4,35),(6,2)]} func179 oB [ld [2,3] [1] [3] @uL [(.exit 0,[3]),(.ret,[2,3])]]
def aqJ:=anW.q {merge:=mg [(1,33),(3,54),(5,2)]} func416 oe
def ao9:=aqJ.q {} func300 yL [ld [2,3] [0] [3] @BO [(.exit 0,[3]),(.ret,[2,3])]]
def aqL:=ao9.q {merge:=mg [(1,2)]} func418 CJ
def apb:=aqL.q {merge:=mg [(1,21)]} func302 wg [ld [1,4,5] [2] [5] @uS [(.exit 0,[5]),(.ret,[4,5])]]
def anX:=apb.q {merge:=mg [(1,23)]} func180 lG [ld [1,4,5] [2] [5] @qU [(.exit 0,[5]),(.ret,[4,5])],ld [1,4,6] [2] [6] @xh [(.exit 2,[6]),(.ret,[4,6])]]
def an6:=anX.q {merge:=mg [(1,20),(7,50)]} func189 kc [ld [2,3,4] [1] [3,4] @yJ [(.exit 0,[3,4]),(.ret,[2,3,4])]]
def apX:=an6.q {merge:=mg [(3,20)],mv:=[24,33]} func365 yH [ld [2,6,8,9] [] [9,8] @rE]
def aox:=apX.q {mv:=[4,9]} func250 wj
def an9:=aox.q {} func192 ee
def aob:=an9.q {sb:=mg [(2,2)]} func194 kN
def aqP:=aob.q {merge:=mg [(1,2)]} func422 vd
def aqQ:=aqP.q {} func423 kM
def apk:=aqQ.q {merge:=mg [(1,2)]} func311 kU
def apu:=apk.q {merge:=mg [(1,15)]} func320 ky
def apO:=apu.q {} func356 sy
def arf:=apO.q {merge:=mg [(1,2)]} func450 tW
def apS:=arf.q {} func360 nA
def aqR:=apS.q {merge:=mg [(1,11)]} func424 qa
def an2:=aqR.q {} func185 su [ld [2,3] [1] [3] @uO [(.exit 0,[3]),(.ret,[2,3])]]
def an3:=an2.q {merge:=mg [(7,34),(12,57)]} func186 rD [ld [2,3] [0] [3] @qO [(.exit 0,[3]),(.ret,[2,3])],ld [2,3,4,5] [0] [5] @oX [(.exit 2,[5]),(.ret,[2,5])]]
def arZ:=an3.q {merge:=mg [(4,42)]} func494 CL [ld [1,2,3,8,9] [0] [9] @wU [(.exit 0,[9]),(.ret,[8,9])]]
def ar0:=arZ.q {merge:=mg [(2,6)]} func495 mV
def aq2:=ar0.q {merge:=mg [(3,34),(10,57)],mv:=[35,36,64,71,81,82]} func435 wh [ld [2,3,4,5,12,13,14,15,16] [0,7] [3,4,15,16] @mA [(.exit 0,[3,4,15,16]),(.ret,[3,4,12,13,14,15,16])]]
def arT:=aq2.q {mv:=[19,52]} func488 uY [ld [1,2,6,8] [] [1,2,8] @pa]
def aqT:=arT.q {mv:=[32,39,52,60],sb:=mg [(15,15)]} func426 oA [ld [4,10,15,16] [] [4,16,15] @pP [(.exit 0,[4,16,15])] [(12,.data false (.sl .loc (.int .i64)),Z),(13,.data false (.sl .loc (.int .i64)),Z)]]
def aq4:=aqT.q {merge:=mg [(1,22)],mv:=[26,36,51],mb:=mg [(51,13)],sb:=mg [(10,10),(11,11),(13,13)]} func437 yK
def apw:=aq4.q {merge:=mg [(4,32),(6,44)],mv:=[33,35,49,63,68,78,80],mb:=mg [(33,14),(35,15),(78,14),(80,15)],sb:=mg [(10,10),(11,11),(12,12),(18,18),(19,19)]} func322 vV [ld [2,8,10,11,12,14,15,16] [0,9] [16,8,14,15] @pQ]
def apQ:=apw.q {mv:=[27]} func358 tZ [ld [2,3,4,10,12,13] [0,6] [12,13] @tf]
def aoy:=apQ.b {mv:=[47,51,65,67,84],mb:=mg [(84,6)],sb:=mg [(6,6),(50,0),(70,0),(71,5)]} func251 qY (t:=(kF (.own none) gY))
def apn:=aoy.q {merge:=mg [(1,2)]} func314 uc
def an7:=apn.q {merge:=mg [(1,24),(3,2)]} func190 ji
def aqu:=an7.q {} func401 yI
def aqv:=aqu.q {merge:=mg [(3,12)],mv:=[16,21],mb:=mg [(16,3)],sb:=mg [(20,3)]} func402 ua [ld [0,2,3,4] [] [4,3] @ti]
def aoR:=aqv.q {merge:=mg [(2,42)],mv:=[57,74,80,86,92,98],mb:=mg [(57,16)],sb:=mg [(16,16),(67,16)]} func282 yG [ld [0,12,14,16,17] [] [17,16] @BM,ld [0,12,14,16,18] [] [18,16] @zT [(.exit 2,[18,16])]]
def aoS:=aoR.b {mv:=[11]} func283 yU
def anC:=aoS.b {mv:=[15,32,46,49,50,60],sb:=mg [(7,7),(34,0),(37,0),(40,0),(43,0)]} func159 CN [lb [2,3] [] [3,0] @BS [(.exit 0,[3,0]),(.ret,[3,0,2])],lb [2,3,4,5,6] [] [6,4] @BT [(.exit 2,[6,4])]]
def aoV:=anC.q {merge:=mg [(1,16)]} func286 AH
def arF:=aoV.q {} func474 fg
def arG:=arF.q {} func475 jv
def aqw:=arG.q {sb:=mg [(4,4)]} func403 AO
def aqx:=aqw.q {merge:=mg [(2,22),(6,56)],sb:=mg [(5,5)]} func404 CB
def aqy:=aqx.q {merge:=mg [(3,20),(9,44),(12,68)]} func405 tj
def aoW:=aqy.q {merge:=mg [(2,20)]} func287 jS
def anD:=aoW.q {} func160 pZ
def aoX:=anD.q {} func288 tX
def aoY:=aoX.q {} func289 qc [ld [3,4,5] [0] [5] @vA [(.exit 0,[5]),(.ret,[4,5])]]
def anE:=aoY.b {mv:=[45,52],sb:=mg [(41,0)]} func161 CH [lb [5,6] [1] [5,6,0] @BQ]
def G47:=anE.b {mv:=[30,38]} func47 Ba [lb [4,5,6,7] [1] [6,7] @zX]
def G9:=G47.q {mv:=[13]} func9 sZ
def G49:=G9.q {merge:=mg [(1,6)]} func49 aJ
def G74:=G49.q {} func74 vL [ld [2,7,8] [1,6] [8] @Fy [(.exit 0,[8]),(.ret,[2,8])]]
def aom:=G74.q {merge:=mg [(4,25)]} func210 pD [ld [1,2,6,10,11] [9] [11] @vy [(.exit 0,[11]),(.ret,[6,11])]]
def G75:=aom.q {merge:=mg [(4,37)]} func75 rk [ld [2,6,7] [0,5] [7] @qA [(.exit 0,[7]),(.ret,[2,7])]]
def G79:=G75.q {merge:=mg [(1,21),(7,43)]} func79 ka [ld [2,3,27,28] [1,26] [3,28] @ya [(.exit 0,[3,28]),(.ret,[2,3,28])]]
def apE:=G79.q {merge:=mg [(1,2)]} func330 vQ
def ao4:=apE.q {} func295 kb
def apF:=ao4.q {} func331 kI
def aon:=apF.q {merge:=mg [(1,2)]} func211 kR
def anN:=aon.q {} func170 ic
def anI:=anN.q {mv:=[7]} func165 jL
def aoo:=anI.q {merge:=mg [(3,21)],mv:=[10,24]} func212 hZ
def G76:=aoo.q {merge:=mg [(1,24),(8,50)],mv:=[55]} func76 C5 [ld [2,3,4,31,32] [1,30] [3,4,32] @ye [(.exit 0,[3,4,32]),(.ret,[2,3,4,32])]]
def G77:=G76.q {merge:=mg [(4,29),(7,2)]} func77 vI [ld [2,7,8] [1,6] [8] @ui [(.exit 0,[8]),(.ret,[2,8])]]
def aop:=G77.q {merge:=mg [(1,2)]} func213 qD
def apG:=aop.q {merge:=mg [(1,18),(5,2),(7,2)]} func332 tG
def apH:=apG.q {merge:=mg [(1,2)]} func333 tK
def aoq:=apH.q {merge:=mg [(1,2)]} func214 iQ
def G78:=aoq.q {merge:=mg [(1,42),(5,2)]} func78 xt
def aor:=G78.q {merge:=mg [(1,2)]} func215 FA
def G80:=aor.q {merge:=mg [(1,24),(3,2)]} func80 ox
def apI:=G80.q {merge:=mg [(1,33),(3,54),(5,2)]} func334 Ep
def aos:=apI.q {} func216 Cp [ld [2,6,7] [0,5] [7] @He [(.exit 0,[7]),(.ret,[2,7])]]
def apJ:=aos.q {merge:=mg [(4,23)]} func335 Es [ld [3,4,9,10] [8] [10] @yl [(.exit 0,[10]),(.ret,[4,10])]]
def arc:=apJ.q {} func445 Ap [ld [3,16,17,18] [] [3,18] @py]
def apK:=arc.q {mv:=[10,18]} func336 Km [ld [1,3,4] [] [3,4] @Az]
def aot:=apK.q {merge:=mg [(6,28),(9,40)]} func217 uA [ld [2,13,14] [1,12] [14] @wF [(.exit 0,[14]),(.ret,[2,14])],ld [2,3,13,14,49,50,51] [1,12] [51] @pB [(.exit 2,[51]),(.ret,[2,51])]]
def apL:=aot.q {merge:=mg [(1,2)]} func337 HX
def aou:=apL.q {merge:=mg [(1,22)]} func218 Aw [ld [1,4,25,26] [24] [26] @Fz [(.exit 0,[26]),(.ret,[4,26])]]
def G81:=aou.q {merge:=mg [(1,25),(6,41),(12,59)]} func81 rm [ld [1,4,28,29] [2,27] [29] @qF [(.exit 0,[29]),(.ret,[4,29])],ld [1,4,46,47] [45] [47] @oQ [(.exit 2,[47]),(.ret,[4,47])]]
def G28:=G81.q {merge:=mg [(2,58),(7,89)]} func28 jc [ld [2,3,61,62] [1] [62] @xX [(.exit 0,[62]),(.ret,[2,62])],ld [2,3,103,104,105] [1] [105] @wA [(.exit 2,[105]),(.ret,[2,105])]]
def anM:=G28.q {} func169 mz
def anF:=anM.q {} func162 dN
def anG:=anF.q {} func163 yg
def aoZ:=anG.q {mv:=[13,25]} func290 vP [ld [3,8,9] [7] [3,9] @uG]
def anH:=aoZ.q {sb:=mg [(2,2)]} func164 tH
def anJ:=anH.q {mv:=[7]} func166 wH
def ao0:=anJ.q {} func291 yh
def ao1:=ao0.q {sb:=mg [(2,2)]} func292 wI
def anK:=ao1.q {sb:=mg [(2,2)]} func167 sS
def anL:=anK.q {} func168 my
def G48:=anL.q {mv:=[34,75],mb:=mg [(34,3)],sb:=mg [(39,3)]} func48 ia [ld [2,28,29] [1,27] [29,3] @uF [(.exit 0,[29,3])] [(3,.ptr 3 0,some Y1)]]
def ar1:=G48.q {merge:=mg [(4,29)]} func496 Gp
def ar2:=ar1.q {merge:=mg [(2,6)]} func497 xw
def aq5:=ar2.q {merge:=mg [(1,29),(11,55),(16,73)],mv:=[56,74]} func438 Bl [ld [2,3,4,5,12,13,14] [0,7] [3,4,14] @tI [(.exit 0,[3,4,14]),(.ret,[3,4,12,13,14])]]
def aq6:=aq5.q {mv:=[41]} func439 rl [ld [1,2,8] [3] [1,8] @mL]
def apy:=aq6.q {} func324 qy [ld [14,31,32] [6] [14,32] @wz [(.exit 0,[14,32])] [(30,.data false (.sl .loc ph),Z)]]
def aqz:=apy.q {merge:=mg [(1,11)]} func406 pA
def ao2:=aqz.q {merge:=mg [(1,20)],sb:=mg [(9,9)]} func293 vO
def aqb:=ao2.q {} func380 xr
def aq9:=aqb.q {} func442 cI
def arl:=aq9.q {merge:=mg [(1,2)]} func456 Bh
def arn:=arl.q {} func457 iJ
def ap3:=arn.q {} func372 nw
def aq7:=ap3.q {merge:=mg [(1,13)]} func440 gk
def aq8:=aq7.q {merge:=mg [(1,13)]} func441 jP
def aqA:=aq8.q {sb:=mg [(4,4)]} func407 rj
def ark:=aqA.q {merge:=mg [(1,17)]} func454 gO
def arP:=ark.q {merge:=mg [(1,27)]} func484 sP
def arQ:=arP.q {} func485 gz
def asj:=arQ.q {merge:=mg [(1,12)]} func514 Cj
def ase:=asj.q {} func509 Ax [ld [0,3,4] [] [3,4] @uz]
def arR:=ase.q {} func486 kH
def ar9:=arR.q {} func504 uE
def arH:=ar9.q {merge:=mg [(8,39)]} func476 lg
def asi:=arH.q {merge:=mg [(1,2)]} func513 M9
def asa:=asi.q {} func505 Ar
def arI:=asa.q {} func477 xS
def ar5:=arI.q {merge:=mg [(1,2)]} func500 Dz
def asb:=ar5.q {} func506 Ay
def arJ:=asb.q {} func478 Ah
def aoG:=arJ.q {} func261 xv [ld [0,5,10,11] [] [5,11] @yk]
def arK:=aoG.q {} func479 Cn
def aqB:=arK.q {} func408 jl
def arw:=aqB.q {nest:=[33],mv:=[19,49]} func465 uD [ld [1,2,6,8] [] [1,2,8] @oS]
def aqh:=arw.q {mv:=[34,41,50,57],sb:=mg [(14,14)]} func386 HW [ld [4,12,14,36,37] [] [4,37,14] @Bk [(.exit 0,[4,37,14])] [(35,.data false (.sl .loc ph),Z)]]
def aqC:=aqh.q {} func409 se
def asc:=aqC.q {} func507 Bj
def asd:=asc.q {merge:=mg [(1,14)]} func508 xY [ld [0,1,5,6] [] [5,6] @sN]
def arL:=asd.q {merge:=mg [(1,14)]} func480 xV [ld [0,1,5,6] [] [5,6] @sL]
def arM:=arL.q {} func481 xW
def aqD:=arM.q {} func410 vJ
def apz:=aqD.q {} func325 pE
def apB:=apz.q {} func327 yj
def arN:=apB.q {merge:=mg [(1,2)]} func482 nL
def arO:=arN.q {merge:=mg [(1,12)]} func483 na
def aqE:=arO.q {merge:=mg [(1,22)],mv:=[26,37,41,51],mb:=mg [(41,13),(51,13)],sb:=mg [(10,10),(11,11),(13,13)]} func411 qC
def ao3:=aqE.v {merge:=mg [(3,50)],sb:=mg [(12,12),(13,13),(20,20)]} func294 ym [(true,(.sl .arg .str)),(true,(.pair (.int .i64) (.pair (.int .i64) (.int .i64)))),(false,.bool)]
def anO:=ao3.q {merge:=mg [(1,31)],mv:=[52,66],mb:=mg [(66,16)],sb:=mg [(10,10),(11,11)]} func171 pw
def ao8:=anO.q {merge:=mg [(1,9)]} func299 qH
def ao5:=ao8.q {} func296 Ag
def anP:=ao5.b {} func172 mN [ld [1,7] [] [7,0] @sR [(.exit 0,[7,0])] [(0,.ptr 0 0,some (sF 1 gY))] .ptr] (t:=(kF (.own none) gY))
def G50:=anP.q {mv:=[10,17,35,49],sb:=mg [(37,3)]} func50 tF [ld [2,3,13,14] [1] [14,3] @sM]
def ap7:=G50.q {merge:=mg [(1,2)]} func376 ou
def ar4:=ap7.q {} func499 Gk [ld [0,3,4] [] [3,4] @vH,ld [0,3,4,5] [] [3,5] @sc [(.exit 2,[3,5])]]
def aro:=ar4.q {} func458 yf
def ar3:=aro.q {} func498 wy
def ara:=ar3.q {mv:=[21,26]} func443 Ao [ld [3,10,11] [9] [3,11] @px]
def arb:=ara.q {merge:=mg [(1,17),(4,30)],mv:=[83,87]} func444 Gn [ld [1,2,5,6,7] [] [6,7] @Av]
def apD:=arb.q {} func329 wD
def arp:=apD.q {merge:=mg [(4,33)],sb:=mg [(4,4)]} func459 vM
def arq:=arp.q {merge:=mg [(2,22),(6,56)],sb:=mg [(5,5)]} func460 Co
def ars:=arq.q {merge:=mg [(3,20),(9,44),(12,68)]} func461 sO
def ap6:=ars.q {merge:=mg [(2,20)]} func375 jQ
def aqF:=ap6.q {merge:=mg [(1,24),(15,67)],mv:=[55,68],sb:=mg [(9,9)]} func412 yd [ld [2,7,8,9,10,11,12] [0,5] [12,7] @nP [(.exit 0,[12,7]),(.ret,[8,10,12,7,9])]]
def agB:=aqF.q {merge:=mg [(4,19)]} func455 As [ld [2,6,7] [0,5] [7] @ur [(.exit 0,[7]),(.ret,[2,7])]]
def asr:BC:=J6 [pd (.sl ph),pI,pI] [(false,(.sl (.own none) zv))] [(false,(.sl .nil zv))] rfl λa=>jU a.1 a.2.1 a.2.2.1
def alV:An:={mask:=mk [(5,[0,2,7,30,31,32]),(13,[6,7,54,55,56])],merge:=mg [(1,25)],nils:=[6],mv:=[49,64]}
abbrev VH:SD:=⟨ie (Xc ph)::B::DI::bs 4 (ie (MG 86016 zv)::bs 22 (ie (Xc ph)::DI::DI::bs 32 [])),zs 65 [],.none⟩
def ai7 (X:SD.D VH)(K:zkk R):=mc (λy0 y1=>ke 0 K VH ((z2 (w y0 (z2 (u y1))) X.1),X.2)) X.1.1 X.1.2.1 (q3 X) (q4 X)
abbrev Po:SD:=⟨bs 7 (ie (MG 86016 zv)::bs 46 (ie (.sl .loc zv)::DI::DI::bs 8 [])),zs 65 [],.none⟩
abbrev aaB:SD:=⟨bs 6 (ie (.sl .nil zv)::ie (MG 86016 zv)::bs 46 (ie (.sl .loc zv)::DI::DI::bs 8 [])),zs 65 [],.none⟩
def adE (X:SD.D Po)(K:zkk R):=lj (λy0=>ke 2 K Po ((z3 (u y0) X.1),X.2)) (λy0 y1=>kr K aaB ((y0,(X.1.1,(X.1.2.1,(X.1.2.2.1,(y1,()))))),(),())) X.1.1 X.1.2.1 (q2 X)
def ala:Hg:=(Hg.nil.add 5 (mkl VH ai7 (λX=>(q2 X,q5 X)))).add 13 (mkl Po adE q3)
theorem alR:LOk E agB.g alV ala (iy f371 0):=lk VH ai7 (λX=>(q2 X,q5 X)) λX x=>((z2 (w x.1 (z2 (u x.2))) X.1),X.2)
theorem ajZ:LOk E agB.g alV ala (iy f371 1):=lk Po adE q3 λX x=>((z3 (u x) X.1),X.2)
theorem as5:zfo 371 asr:=nn.ofAlt (ahe (Γ:=agB.g) (an:=alV) (Λ:=ala) (by rfl) (agB.s) func371 (by kernel_rfl) (ao (cF alR (cF ajZ nF)))) (λa=>by kernel_rfl)
def ak9:=agB.add as5
def alW:An:={mask:=mk [(5,[0,6,18,19,20]),(14,[0,2,3,4,5,6,9,10,11,51,52])],mv:=[24,65]}
abbrev VI:SD:=⟨ie (Xc zv)::bs 5 (ie (MG 73728 ph)::bs 11 (ie (Xc zv)::DI::DI::bs 47 [])),zs 68 [],.none⟩
def ai8 (X:SD.D VI)(K:zkk R):=nb (λy0 y1=>ke 0 K VI ((z1 (w y0 (z2 (u y1))) X.1),X.2)) X.1.1 (q2 X) (q3 X)
abbrev Pp:SD:=⟨ie (Xc zv)::bs 5 (ie (MG 73728 ph)::B::B::DI::DI::ie (MG 135168 zv)::bs 39 (DI::DI::bs 15 [])),zs 68 [],.none⟩
abbrev aaC:SD:=⟨ie (Xc zv)::B::ie (MG 24576 ph)::DI::DI::DB::ie (MG 73728 ph)::B::B::DI::DI::ie (MG 135168 zv)::bs 39 (DI::DI::bs 15 []),zs 68 [],.none⟩
def adF (X:SD.D Pp)(K:zkk R):=iP (λy0=>ke 2 K Pp ((z6 (u y0) X.1),X.2)) (λy0 y1 y2 y3 y4=>kr K aaC ((X.1.1,(y0,(y1,(y2,(y3,(X.1.2.1,(X.1.2.2.1,(X.1.2.2.2.1,(X.1.2.2.2.2.1,(X.1.2.2.2.2.2.1,(y4,()))))))))))),(),())) X.1.1 X.1.2.1 (q2 X) (q3 X) (q4 X) (q5 X)
def amm:Hg:=(Hg.nil.add 5 (mkl VI ai8 (λX=>(X.1.2.1,q4 X)))).add 14 (mkl Pp adF q6)
theorem alS:LOk E ak9.g alW amm (iy f413 0):=lk VI ai8 (λX=>(X.1.2.1,q4 X)) λX x=>((z1 (w x.1 (z2 (u x.2))) X.1),X.2)
theorem aj0:LOk E ak9.g alW amm (iy f413 1):=lk Pp adF q6 λX x=>((z6 (u x) X.1),X.2)
def aqG:=ak9.qk alW func413 [pd (.sl zv)] [(false,(.sl (.own none) ph)),rI,rI,rB] (c1 qB) (cF alS (cF aj0 nF))
def aqH:=aqG.q {} func414 sK [ld [2,8,9,10,19,20] [0,5,18] [10,20] @nM [(.exit 0,[10,20]),(.ret,[8,9,10,20])]]
def arj:=aqH.q {} func453 tL
def apY:=arj.q {} func366 ow
def aqI:=apY.q {merge:=mg [(3,38),(9,74),(12,84),(17,117)]} func415 Aj
def ao6:=aqI.q {merge:=mg [(1,28)],sb:=mg [(8,8)]} func297 sQ
abbrev alk:SD:=⟨ie (Xc pe)::B::DI::B::B::.ptr 5 0::B::.ptr 7 0::.ptr 8 0::ie (MG 110592 .str)::DI::DI::ie (MG 147456 .str)::DI::DI::bs 30 [],zs 5 ((zsm (Xc .str))::Z::(some Y0)::(some Y0)::zs 36 []),.none⟩
abbrev adZ:SD:=⟨ie (Xc pe)::B::DI::B::B::.ptr 5 0::B::.ptr 7 0::.ptr 8 0::ie (MG 110592 .str)::DI::DI::ie (.sl .loc .str)::DI::DI::bs 30 [],zs 5 ((zsm (Xc .str))::Z::(some Y0)::(some Y0)::zs 36 []),.none⟩
def anQ:=ao6.q1 {mask:=mk [(3,[0,2,5,7,8,9,10,11,12,13,14])],mv:=[35,42]} func173 [pd (.sl pe),pf (.sl .str),pI,pf Xh] [(true,Y0),(false,(.sl (.own none) .str)),rI,rI] (c4 uC) alk (λX K=>oR (λy0 y1 y2 y3 y4 y5 y6 y7=>kr K adZ ((X.1.1,(X.1.2.1,(y0,(y1,(y2,(y3,(y4,(y5,())))))))),(X.2.1.1,(y6,(y7,()))),())) X.1.1 X.1.2.1 (q2 X) (q3 X) (q4 X) X.2.1.1 X.2.1.2.2.1) (λX=>(q5 X,q6 X,q7 X,X.2.1.2.1)) (λX x=>((z5 (w x.1 (w x.2.1 (u x.2.2.1))) X.1),(z1 (u x.2.2.2) X.2.1),X.2.2))
def anR:=anQ.q {merge:=mg [(2,22)],mv:=[23,34,43,55,56]} func174 nK [ld [1,4,6,7,29,30] [2,28] [7,30,6] @lh]
def G51:=anR.q {mv:=[15,33,37,51,54,58]} func51 nN
def anS:=G51.q {merge:=mg [(1,11)]} func175 qG
def apA:=anS.q {} func326 mZ
def aok:=apA.q {merge:=mg [(7,46)],sb:=mg [(8,8),(9,9)]} func203 lN
def aqi:=aok.q {merge:=mg [(1,15)]} func387 gX
def apZ:=aqi.q {} func367 vN
def aqj:=apZ.q {merge:=mg [(1,22)],mv:=[26,36,40,50],mb:=mg [(40,13),(50,13)],sb:=mg [(10,10),(11,11),(13,13)]} func388 yc
def aoI:=aqj.q {merge:=mg [(2,34)],mv:=[35,37,53,65,76,78],mb:=mg [(35,14),(37,15),(65,20),(76,14),(78,15)],sb:=mg [(8,8),(10,10),(11,11),(12,12),(14,14),(15,15)]} func263 si [ld [2,8,10,11,12,14,15,16,40,41] [0,9,39] [16,41,8,14] @pt]
def aol:=aoI.q {} func204 jy [ld [3,4,8,9] [7] [9] @lO [(.exit 0,[9]),(.ret,[4,9])]]
def apC:=aol.q {merge:=mg [(17,82)],mv:=[16,31,51,58,67,83,132],er:=mg [(115,5)]} func328 Ck
def ao7:=apC.q {merge:=mg [(2,48)],mv:=[49,51,52,96,104,117,119,120],mb:=mg [(49,19),(51,20),(117,19),(119,20)],sb:=mg [(14,14),(15,15),(16,16),(19,19),(20,20)]} func298 xZ [ld [2,6,10,14,15,16,19,20,21,22] [0] [21,22,10,20] @nO]
def anT:=ao7.b {mv:=[8,49,51,52],sb:=mg [(55,0),(59,0)],fm:=[19,20],eb:=mg [(56,0),(57,0)]} func176 sk (t:=(kF (.own none) gY))
def anU:=anT.q {} func177 Bi
def G52:=anU.q {merge:=mg [(2,21)],mv:=[22,78]} func52 pz [ld [1,4,6,7,25,26] [] [7,26,6] @oP]
def anV:=G52.q {} func178 wG
def G53:=anV.q {mv:=[10,28]} func53 vK [ld [2,3,13,14] [] [14,3] @uq]
def G73:=G53.q {merge:=mg [(1,12),(3,31),(5,2)]} func73 Gj
def ap0:=G73.q {} func368 sT [ld [3,8,9] [7] [3,9] @nQ]
def ap1:=ap0.q {merge:=mg [(2,20)],mv:=[21,28],mb:=mg [(28,7)],sb:=mg [(4,4)]} func369 uB
def aji:=ap1.q {} func259 mK
def asq:BC:=J6 [pd (.sl pe),pf (.sl .str),pI,pf NQ,pd (.sl (.int .i64)),pd .str,pI] [(true,(.sl (.own none) .str)),(false,(.sl (.own none) ph)),rB] [(true,(.sl .arg .str)),(false,(.sl (.own none) ph)),rB] rfl λa=>pC a.1 a.2.1 a.2.2.1 a.2.2.2.1 a.2.2.2.2.1 a.2.2.2.2.2.1 a.2.2.2.2.2.2.1
def anb:An:={mask:=mk [(3,[0,2,5,6,8,10,14,15,16,17,24,25,26])],peel:=[3],mv:=[40,49,53,54,55,65,66],sb:=mg [(21,21)]}
abbrev VG:SD:=⟨ie (Xc pe)::B::DI::B::B::ie .str::DI::B::.ptr 8 0::B::.ptr 10 0::B::B::B::.ptr 14 0::ie (MG 184320 ph)::DB::ie (MG 208896 ph)::bs 6 (ie (Xc (.int .i64))::DI::DI::bs 40 []),zs 8 ((zsm (MG 98305 .str))::Z::(some Y2)::Z::Z::Z::(zsm (MG 172033 .str))::zs 52 []),.none⟩
abbrev ad1:SD:=⟨ie (Xc pe)::B::DI::B::B::ie .str::DI::B::.ptr 8 0::B::.ptr 10 0::B::B::B::.ptr 14 0::ie (MG 184320 ph)::DB::ie (MG 208896 ph)::bs 6 (ie (Xc (.int .i64))::DI::DI::bs 40 []),zs 8 ((zsm (.sl .loc .str))::Z::(some Y2)::Z::Z::Z::(zsm (MG 172033 .str))::zs 52 []),.none⟩
def ai6 (X:SD.D VG)(K:zkk R):=lP (λy0 y1 y2 y3=>ke 0 K VG ((z2 (w y0 (z3 (w y1 (z2 (u y2))))) X.1),(u y3 X.2.1),X.2.2)) (λy0 y1 y2 y3 y4 y5 y6=>kr K ad1 ((X.1.1,(X.1.2.1,(y0,(X.1.2.2.2.1,(y1,(y2,(y3,(X.1.2.2.2.2.2.2.2.1,(X.1.2.2.2.2.2.2.2.2.1,(y4,())))))))))),(y5,(X.2.1.2.1,(y6,()))),())) X.1.1 X.1.2.1 (q3 X) (q4 X) (q5 X) (q7 X) (q8 X) X.2.1.2.1 X.2.1.2.2.1
def aml:Hg:=Hg.nil.add 3 (mkl VG ai6 (λX=>(q2 X,q6 X,q9 X,X.2.1.1)))
theorem alQ:LOk E aji.g anb aml (iy f370 0):=lk VG ai6 (λX=>(q2 X,q6 X,q9 X,X.2.1.1)) λX x=>((z2 (w x.1 (z3 (w x.2.1 (z2 (u x.2.2.1))))) X.1),(u x.2.2.2 X.2.1),X.2.2)
theorem as4:zfo 370 asq:=nn.ofAlt (ahe (Γ:=aji.g) (an:=anb) (Λ:=aml) (by rfl) (aji.s) func370 (by kernel_rfl) (ao (cF alQ nF))) (λa=>by kernel_rfl)
def ap2:=aji.add as4
def ap4:=ap2.q {mv:=[27,43],mb:=mg [(43,13)],sb:=mg [(10,10),(11,11),(13,13),(14,14)]} func373 lC [ld [2,8,10,11,12,13,14,22,23] [0,6,21] [23,13,14] @mM [(.exit 0,[23,13,14]),(.ret,[12,23,10,11,13,14])]]
def aoz:=ap4.q {merge:=mg [(2,57),(6,92),(15,135)],mv:=[58,59,93,94,97,107,108,109,122,123,136,137,145,151,164,165,169,174,184,185],mb:=mg [(58,17),(59,18),(93,17),(94,18),(107,17),(108,18),(136,17),(137,18),(164,17),(165,18),(184,26),(185,22)],sb:=mg [(14,14),(15,15),(17,17),(18,18),(26,26)]} func253 wE [ld [2,14,15,17,18,22,24,28,29,140,141] [0,10] [29,141] @ik [(.exit 0,[29,141])] [(26,.ptr 26 0,some (.sl .loc .str)),(139,.data false (.sl .loc zv),Z)]]
def anp:=aoz.q {mv:=[19,20,34,36,38]} func125 Aq
def ap5:=anp.q {merge:=mg [(2,17)]} func374 Ai
def aoA:=ap5.q {} func254 yb
def ap8:=aoA.q {} func377 xu [ld [1,4,8,9] [7] [9] @yi [(.exit 0,[9]),(.ret,[4,9])]]
def aoB:=ap8.q {merge:=mg [(1,4)]} func255 Ci
def ar6:=aoB.q {} func501 rn
def art:=ar6.q {merge:=mg [(1,4)]} func462 uu
def ap9:=art.q {merge:=mg [(7,34)]} func378 Am [ld [3,5,12,13] [0,11] [5,13] @uj]
def aqa:=ap9.q {} func379 Ak
def aru:=aqa.q {merge:=mg [(2,17)]} func463 Cl
def aqc:=aru.q {merge:=mg [(2,18)]} func381 ux
def aoC:=aqc.q {merge:=mg [(1,17)]} func256 uy
def arv:=aoC.q {} func464 Au
def aqd:=arv.q {merge:=mg [(1,42),(4,76),(6,4)]} func382 xT
def aqe:=aqd.q {} func383 IW
def aqf:=aqe.q {} func384 HV
def aoD:=aqf.q {merge:=mg [(1,30),(3,44)],mv:=[53,68,77],mb:=mg [(77,16)],sb:=mg [(14,14),(15,15)]} func257 qE
def anq:=aoD.q {mv:=[14,34,46,62,69,90,103],sb:=mg [(92,5)]} func126 uo
def aqg:=anq.q {mv:=[24,29]} func385 Gm [ld [2,6,8,9] [] [9,8] @Hd]
def aoE:=aqg.q {mv:=[3,8]} func258 Rb
def aoF:=aoE.q {} func260 Er
def aoH:=aoF.q {mv:=[10,24],mb:=mg [(24,5)],sb:=mg [(2,2),(3,3)]} func262 Kl
def anr:=aoH.q {mv:=[18,37,88,98,121,142],sb:=mg [(90,3)]} func127 HU [ld [2,3,21,22] [] [22,3] @Eo,ld [2,3,31,32] [] [32,3] @DA [(.exit 2,[32,3])] [(30,.data false (.sl .loc PR),Z)],ld [2,3,54,55] [] [55,3] @DC [(.exit 4,[55,3])]]
def G38:=anr.q {merge:=mg [(1,15)],mv:=[22,34,35]} func38 Gl
def G10:=G38.q {merge:=mg [(2,21)],mv:=[22,30,36,37,42,43]} func10 Cq [ld [4,6,7,25,26] [24] [7,26,6] @wC]
def G11:=G10.q {merge:=mg [(2,23)],mv:=[24,33,40]} func11 xU [ld [1,2,6,7,8] [] [8,7] @sJ]
def G12:=G11.q {} func12 Lx
def G54:=G12.q {sb:=mg [(2,2)]} func54 vg
def G55:=G54.q {merge:=mg [(1,2)]} func55 xC
def G56:=G55.q {merge:=mg [(1,12),(3,31),(5,2)]} func56 DR
def apc:=G56.q {} func303 xD [ld [1,4,5] [0] [5] @yV [(.exit 0,[5]),(.ret,[4,5])]]
def anY:=apc.q {merge:=mg [(1,4)]} func181 yy
def arS:=anY.q {merge:=mg [(1,4)]} func487 BR
def aqN:=arS.q {merge:=mg [(1,4)]} func420 uQ
def ape:=aqN.q {merge:=mg [(3,14),(5,39)]} func305 AK [ld [3,5,6] [0] [5,6] @pR]
def apf:=ape.q {} func306 AJ
def asf:=apf.q {} func510 Bw
def asg:=asf.q {merge:=mg [(1,14)]} func511 yF [ld [0,1,5,6] [] [5,6] @th]
def arW:=asg.q {merge:=mg [(1,14)]} func491 yC [ld [0,1,5,6] [] [5,6] @td]
def arX:=arW.q {} func492 yD
def aqV:=arX.q {} func428 vW
def aqO:=aqV.q {merge:=mg [(2,17)]} func421 Cy
def apg:=aqO.q {merge:=mg [(2,18)]} func307 uT
def anZ:=apg.q {merge:=mg [(1,17)]} func182 qb
def an0:=anZ.q {merge:=mg [(17,84)],mv:=[16,31,53,60,69,85,139]} func183 uK
def G57:=an0.q {merge:=mg [(3,35)],mv:=[41]} func57 uR
def api:=G57.q {mv:=[23,27]} func309 AL [ld [3,4] [0] [3,4] @pU]
def apj:=api.q {merge:=mg [(2,17),(5,31)],mv:=[18,32,87,91]} func310 GM [ld [1,2,5,6,7] [] [5,7] @AR]
def an1:=apj.q {} func184 rG
def G58:=an1.q {mv:=[13,19],mb:=mg [(13,7)],sb:=mg [(18,7)]} func58 we
def G13:=G58.q {merge:=mg [(2,25),(10,64)],mv:=[26,77],sb:=mg [(7,7)]} func13 CF [ld [6,7,8] [1,2] [8,7] @wN]
def apl:=G13.q {merge:=mg [(3,21)],mv:=[10,24]} func312 iS
def an4:=apl.q {merge:=mg [(1,24),(9,50),(14,2)],mv:=[55]} func187 Db [ld [2,3,4,5] [1] [3,4,5] @yN [(.exit 0,[3,4,5]),(.ret,[2,3,4,5])]]
def apm:=an4.q {merge:=mg [(1,2)]} func313 qR
def an5:=apm.q {merge:=mg [(1,42),(5,2)]} func188 zU
def G59:=an5.q {merge:=mg [(2,64),(7,94)]} func59 jd [ld [2,3,4] [1] [4] @yE [(.exit 0,[4]),(.ret,[2,4])],ld [2,5,6] [] [6] @wK [(.exit 2,[6]),(.ret,[2,6])]]
def G14:=G59.q {sb:=mg [(2,2)]} func14 EI
def aoa:=G14.q {mv:=[27,40],mb:=mg [(27,3)],sb:=mg [(3,3),(39,3)]} func193 kO [ld [2,3,4] [1] [4,3] @wW]
def G62:=aoa.q {mv:=[34,82],mb:=mg [(34,3)],sb:=mg [(43,3)]} func62 iU [ld [2,4] [1] [4,3] @wX [(.exit 0,[4,3])] [(3,.ptr 3 0,some Y1)]]
def aq3:=G62.q {} func436 rF [ld [1,2,8] [3] [1,2,8] @qS]
def apv:=aq3.q {} func321 qN [ld [15,16] [6] [15,16] @wJ [(.exit 0,[15,16])] [(12,.data false (.sl .loc (.int .i64)),Z),(13,.data false (.sl .loc (.int .i64)),Z)]]
def apo:=apv.q {merge:=mg [(1,20)],sb:=mg [(9,9)]} func315 vZ
def aqS:=apo.q {sb:=mg [(4,4)]} func425 rC
def aq1:=aqS.q {} func434 wi
def arU:=aq1.q {merge:=mg [(1,2)]} func489 nY
def arV:=arU.q {merge:=mg [(1,12)]} func490 ni
def aqU:=arV.q {merge:=mg [(1,22)],mv:=[26,44,59],mb:=mg [(59,13)],sb:=mg [(10,10),(11,11),(13,13)]} func427 qQ
def apq:=aqU.q {merge:=mg [(3,46)],mv:=[90],sb:=mg [(12,12),(13,13)]} func316 AZ
def aoc:=apq.q {merge:=mg [(1,30),(5,58)],mv:=[44,75],mb:=mg [(75,15)],sb:=mg [(10,10),(11,11)]} func195 pT
def apx:=aoc.q {} func323 oE
def apr:=apx.q {} func317 AF
def aod:=apr.b {} func196 mW [ld [1,6,7] [] [7,0] @tp [(.exit 0,[7,0])] [(0,.ptr 0 0,some (sF 1 gY))] .ptr] (t:=(kF (.own none) gY))
def G64:=aod.q {merge:=mg [(3,17)],mv:=[20,35,37,53],sb:=mg [(5,5),(6,6)]} func64 tY [ld [2,3,4] [1] [4,3] @oa]
def aqW:=G64.q {merge:=mg [(2,25),(7,50),(12,69)],mv:=[26,57,70],sb:=mg [(9,9)]} func429 yM [ld [2,7,8,9,10,11] [0,5] [11,7] @og [(.exit 0,[11,7]),(.ret,[8,10,11,7,9])]]
def are:=aqW.q {merge:=mg [(4,24)]} func449 AP [ld [2,3] [0] [3] @uP [(.exit 0,[3]),(.ret,[2,3])]]
def apR:=are.q {merge:=mg [(2,33)],mv:=[63,67],sb:=mg [(9,9)]} func359 lR [ld [2,6,7,8] [0] [7,8] @mj [(.exit 0,[7,8]),(.ret,[6,7,8])]]
def arY:=apR.q {} func493 CM [ld [4,5] [0,1] [5] @wV [(.exit 0,[5]),(.ret,[4,5])]]
def aqX:=arY.q {merge:=mg [(6,46)],mv:=[15,48]} func430 qP [ld [6,7] [0] [6,7] @nj]
def aqY:=aqX.q {} func431 ta [ld [2,8,9,10,11] [0,3,5] [10,11] @nZ [(.exit 0,[10,11]),(.ret,[8,9,10,11])]]
def ard:=aqY.q {} func448 yT
def apM:=ard.q {} func354 oD
def aqZ:=apM.q {merge:=mg [(2,36),(7,61),(12,98)]} func432 AI
def aps:=aqZ.q {merge:=mg [(2,31),(6,55),(11,85)],mv:=[33,57,87],sb:=mg [(8,8)]} func318 tn
abbrev alm:SD:=⟨ie (Xc pe)::B::DI::B::B::.ptr 5 0::B::.ptr 7 0::.ptr 8 0::ie (MG 110592 .str)::DI::DI::ie (MG 147456 .str)::DI::DI::bs 29 [],zs 5 ((zsm (Xc .str))::Z::(some Y0)::(some Y0)::zs 35 []),.none⟩
abbrev ad0:SD:=⟨ie (Xc pe)::B::DI::B::B::.ptr 5 0::B::.ptr 7 0::.ptr 8 0::ie (MG 110592 .str)::DI::DI::ie (.sl .loc .str)::DI::DI::bs 29 [],zs 5 ((zsm (Xc .str))::Z::(some Y0)::(some Y0)::zs 35 []),.none⟩
def aoe:=aps.q1 {mask:=mk [(4,[0,2,5,7,8,9,10,11,12,13,14])],mv:=[31,35]} func197 [pd (.sl pe),pf (.sl .str),pI,pf Xh] [(true,Y0),(false,(.sl (.own none) .str)),rI,rI] (c4 uX) alm (λX K=>oZ (λy0 y1 y2 y3 y4 y5 y6 y7=>kr K ad0 ((X.1.1,(X.1.2.1,(y0,(y1,(y2,(y3,(y4,(y5,())))))))),(X.2.1.1,(y6,(y7,()))),())) X.1.1 X.1.2.1 (q2 X) (q3 X) (q4 X) X.2.1.1 X.2.1.2.2.1) (λX=>(q5 X,q6 X,q7 X,X.2.1.2.1)) (λX x=>((z5 (w x.1 (w x.2.1 (u x.2.2.1))) X.1),(z1 (u x.2.2.2) X.2.1),X.2.2))
def aof:=aoe.q {merge:=mg [(3,22)],mv:=[23,24,30,39,49,53,55,57,58],sb:=mg [(51,6)]} func198 nX [ld [1,4,6,7,8] [2] [7,8,6] @lr]
def G65:=aof.q {mv:=[15,33,37,51,54,58]} func65 oc
def aog:=G65.q {merge:=mg [(1,11)]} func199 qV
def aq0:=aog.q {merge:=mg [(1,12)]} func433 nh
def apt:=aq0.q {merge:=mg [(5,54)],sb:=mg [(8,8),(9,9)]} func319 oY
def aoh:=apt.q {merge:=mg [(4,50),(14,102)],mv:=[54,55,106,114,128,130,131],mb:=mg [(54,20),(128,30),(130,20)],sb:=mg [(14,14),(15,15),(16,16)]} func200 pY [ld [2,6,10,14,15,16,19,20,21] [0,8] [19,21,10,20] @od]
def aoi:=aoh.q {} func201 Bv
def G66:=aoi.q {merge:=mg [(3,25)],mv:=[26,66,85,87,88,90,100,102,124],sb:=mg [(11,11),(12,12),(13,13)]} func66 pW [ld [1,4,6,7,8] [2] [7,8,6] @oW]
def aoj:=G66.q {} func202 wQ
def G67:=aoj.q {merge:=mg [(3,15)],mv:=[28]} func67 vY [ld [2,3,4] [1] [4,3] @pX]
def apN:=G67.q {merge:=mg [(2,21)],mv:=[22,37,38]} func355 uW
def apP:=apN.q {} func357 AY [ld [3,4] [1] [3,4] @vf]
def apT:=apP.q {mv:=[26,36,44],mb:=mg [(44,13)],sb:=mg [(10,10),(11,11),(13,13),(14,14)]} func361 wL [ld [2,8,10,11,12,13,14,15] [0,4,6] [15,13,14] @mT [(.exit 0,[15,13,14]),(.ret,[12,15,10,11,13,14])]]
def aov:=apT.q {merge:=mg [(2,58),(6,102),(27,194)],mv:=[70,134,149,150,169,177,203,206,211,221,222],mb:=mg [(221,22),(222,33)],sb:=mg [(14,14),(15,15)]} func248 wO [ld [2,5,6,14,15,16,17,19,20,21,22,23,24] [0,8,10] [23,24,22] @lS [(.exit 0,[23,24,22]),(.ret,[16,23,24,14,15,22])],ld [2,14,15,19,20,21,22,29,30,31] [0,8,10] [29,31] @lT [(.exit 2,[29,31])]]
def anm:=aov.q {mv:=[19,20,34,36,38]} func121 AM
def ari:=anm.q {} func452 AQ
def apU:=ari.q {merge:=mg [(1,41),(4,84),(6,4)]} func362 yA
def apV:=apU.q {} func363 Jc
def apW:=apV.q {} func364 Il
def aow:=apW.q {merge:=mg [(1,29),(3,43)],mv:=[52,67,76],mb:=mg [(76,16)],sb:=mg [(14,14),(15,15)]} func249 qT
def ann:=aow.q {mv:=[16,36,48,64,71,89,91,107],sb:=mg [(9,9),(10,10)]} func122 uN
def ano:=ann.q {mv:=[17,25,43,45,46,48,58,60,71,144],mb:=mg [(71,3)],sb:=mg [(5,5),(6,6),(7,7),(81,3)]} func123 Ik [ld [2,3,4] [1] [4,3] @EH,ld [2,3,10] [1] [10,3] @DS [(.exit 2,[10,3])],ld [2,3,11] [1] [11,3] @DT [(.exit 4,[11,3])]]
def G36:=ano.q {merge:=mg [(1,17)],mv:=[24,36,37,58,65]} func36 GL
def G15:=G36.q {merge:=mg [(3,21)],mv:=[22,23,30,37,39,40,44,45],sb:=mg [(9,9)]} func15 CE [ld [4,6,7,8] [1] [7,8,6] @wM]
def G16:=G15.q {} func16 uM [ld [3,4] [1] [3,4] @oV]
def G17:=G16.q {merge:=mg [(1,23)],mv:=[34,41,42]} func17 yB [ld [1,2,6,7,8] [] [8,7] @sW]
def G18:=G17.q {} func18 AA [ld [4,5] [0,1] [5] @zM [(.exit 0,[5]),(.ret,[4,5])]]
def G19:=G18.q {} func19 uk [ld [3,8,9] [7] [3,9] @oO]
def G20:=G19.q {} func20 pF [ld [4,5] [0,1] [5] @yo [(.exit 0,[5]),(.ret,[4,5])]]
def G68:=G20.q {} func68 qz
def G21:=G68.q {merge:=mg [(1,14),(6,31)]} func21 Cm [ld [2,17,18] [1,16] [18] @wB [(.exit 0,[18]),(.ret,[2,18])]]
def G69:=G21.q {merge:=mg [(2,6)]} func69 tJ
def G22:=G69.q {} func22 ov [ld [4,10,11] [0,1,9] [11] @uv [(.exit 0,[11]),(.ret,[4,11])],ld [4,23,24] [0,1,22] [24] @uw [(.exit 2,[24]),(.ret,[4,24])]]
abbrev yw:ax PS:=[pd (.sl (.int .u8))]
def Ee:BC:=TN yw [rB] (c1 BI)
theorem LF:zfo 3 Ee:=f0 {merge:=mg [(9,66),(11,2)],sb:=mg [(7,7)]} G22.s func3
end
end Go.Proofs.YtfbhfnniblfpbaaGreat.Fn
