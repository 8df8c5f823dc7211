import Derived.Test.YtehfjiddofkdnaaGreatDnSig
import Derived.Test.YtehfjiddofkdnaaGreatPure
import Derived.Test.YtehfjiddofkdnaaGreatRows
/- Each function of the program is its pure function (made by gen.py). -/
open Bool renaming false->G,true->O
open Option renaming none->W,some->I
namespace Go.Proofs.YtehfjiddofkdnaaGreat.Fn
open Go.Dn
open Go.Pu Go.Proofs.Tryz
set_option maxRecDepth 100000
set_option linter.unusedVariables false
noncomputable section
variable {Λ:Qn} {P:Program} {Y X T Q N M L C R σ:Type} {A:Type->Type} {rs:Z (Bool×FT)} {s:Z PS}
abbrev zkk (R:Type):=Ex->AS->Option R
abbrev zit:FT:=.int .i64
abbrev OM (a b:FT):FT:=.pair a b
abbrev zpi (b:FT):FT:=.pair (.int .i64) b
abbrev L5 (n:Nat)(t:CT):FT:=.sl (.own (I n)) t
abbrev zsm (t:FT):Option FT:=I t
abbrev ga (t:FT):PD:=.data G t
abbrev iG (t:FT):PD:=.data O t
abbrev zsa (t:CT):FT:=.sl .arg t
abbrev zfo:=rC Tryz.prog
abbrev B:PD:=.bot
abbrev DI:PD:=.data G (.int .i64)
abbrev DB:PD:=.data G .bool
abbrev Z':aS FT:=W
theorem nF {p:Code->Prop}:∀x∈([]:Z Code),p x:=λ_ h=>nomatch h
theorem cF {p:Code->Prop}{a:Code}{l:Z Code}(h:p a)(t:∀x∈l,p x):∀x∈a::l,p x:=List.forall_mem_cons.2 ⟨h,t⟩
theorem hF {p:Code->Prop}{l m:Z Code}(e:l=m)(h:∀x∈m,p x):∀x∈l,p x:=e▸h
theorem fk {E:Env}{Γ:IY}{F:OH s->aS (xY rs)}{f:Nat}{fn:Func}(an:An)(b:Sound P E Γ)(hf:P.funcs[f]?=I fn){l:Z Code}(h:∀c∈l,LOk E Γ an Λ c)(g:(fn.name== "runtime.NumGoroutine")=false:=by kernel_rfl)(e:kT (fn.body.getD .skip)=l:=by kernel_rfl)(d:an.cut=[]:=by kernel_rfl)(hF:∀a,ML E Γ an Λ fn rs (lh s a)=F a:=by intro a;kernel_rfl):rC P f (ZT s rs F):=rC.of (alZ b hf g (Gu.of (Fn.hF e h) d)) hF
theorem ao {E:Env}{Γ:IY}{an:An}{b:Code}{l:Z Code}(h:∀c∈l,LOk E Γ an Λ c)(d:kT b=l:=by kernel_rfl)(a:an.cut=[]:=by kernel_rfl):Gu E Γ an Λ b:=Gu.of (Fn.hF d h) a
theorem ac {E:Env}{Γ:IY}{an:An}{b:Code}{l m:Z Code}(h:∀c∈l,LOk E Γ an Λ c)(a:∀c∈m,COk E Γ an Λ c)(d:kT b=l:=by kernel_rfl)(e:nV an.cut b=m:=by kernel_rfl):Gu E Γ an Λ b:=⟨Fn.hF d h,Fn.hF e a⟩
theorem fc {E:Env}{Γ:IY}{F:OH s->aS (xY rs)}{f:Nat}{fn:Func}(an:An)(b:Sound P E Γ)(hf:P.funcs[f]?=I fn){l m:Z Code}(h:∀c∈l,LOk E Γ an Λ c)(d:∀c∈m,COk E Γ an Λ c)(i:(fn.name== "runtime.NumGoroutine")=false:=by kernel_rfl)(e:kT (fn.body.getD .skip)=l:=by kernel_rfl)(g:nV an.cut (fn.body.getD .skip)=m:=by kernel_rfl)(hF:∀a,ML E Γ an Λ fn rs (lh s a)=F a:=by intro a;kernel_rfl):rC P f (ZT s rs F):=rC.of (alZ b hf i ⟨Fn.hF e h,Fn.hF g d⟩) hF
abbrev pd (t:CT):PS:=.data G t
abbrev pf (t:CT):PS:=.data O t
abbrev pI:PS:=.data G (.int .i64)
abbrev rB:Bool×FT:=(G,.bool)
abbrev rI:Bool×FT:=(G,.int .i64)
abbrev rS:Bool×FT:=(G,.str)
abbrev bs:Nat->Z PD->Z PD
 |0,l=>l
 |n+1,l=> .bot::bs n l
abbrev zs:Nat->Z (aS FT)->Z (aS FT)
 |0,l=>l
 |n+1,l=>W::zs n l
def mk (l:Z (Nat×gw))(n:Nat):gw:=(l.lookup n).getD []
def mg (l:Z (Nat×Nat))(n:Nat):aS Nat:=l.lookup n
def ke (n:Nat)(K:zkk R)(d:SD)(x:SD.D d):aS R:=K (.exit n) (SD.enc d x)
def kn (K:zkk R)(d:SD)(x:SD.D d):aS R:=K .normal (SD.enc d x)
def kr (K:zkk R)(d:SD)(x:SD.D d):aS R:=K .ret (SD.enc d x)
def mkl (d:SD)(t:{R:Type}->SD.D d->(Ex->AS->aS R)->(σ->aS R)->σ->aS R)(i:SD.D d->σ):VL:=⟨d,λX K=>aQ (t X K) fuel (i X)⟩
theorem lk {E:Env}{Γ:IY}{an:An}{c:Code}(d:SD)(t:{R:Type}->SD.D d->(Ex->AS->aS R)->(σ->aS R)->σ->aS R)(i:SD.D d->σ)(w:SD.D d->σ->SD.D d)(a:Λ (fG c)=mkl d t i:=by kernel_rfl)(h:∀(R:Type)(X:SD.D d)(K:zkk R)(m:Nat)(x:σ),GF (an.mask (fG c)) (den E Γ an Λ c) (m+1) (SD.enc d (w X x)) K=t X K (λy=>GF (an.mask (fG c)) (den E Γ an Λ c) m (SD.enc d (w X y)) K) x:=by intro R X K m x;kernel_rfl)(b:∀X,w X (i X)=X:=by intro X;kernel_rfl):LOk E Γ an Λ c:=lok (mkl d t i) a fuel λR X K=>(aaE (λx=>SD.enc d (w X x)) (t X K) (h R X K) fuel (i X)).symm.trans (congrArg (λy=>GF (an.mask (fG c)) (den E Γ an Λ c) fuel (SD.enc d y) K) (b X))
def mkc (d:SD)(t:{R:Type}->SD.D d->(Ex->AS->aS R)->aS R):VL:=⟨d,λX K=>t X K⟩
theorem ck {E:Env}{Γ:IY}{an:An}{c:Code}(d:SD)(t:{R:Type}->SD.D d->(Ex->AS->aS R)->aS R)(b:Λ (Ef c)=mkc d t:=by kernel_rfl)(h:∀(R:Type)(X:SD.D d)(K:zkk R),t X K=den E Γ an Λ c (SD.enc d X) (λe a=>K e (a.mask (an.mask (Ef c+1)))):=by intro R X K;kernel_rfl):COk E Γ an Λ c:=cok (mkc d t) b h
def u {A B:Type}(y:A)(x:A×B):A×B:=(y,x.2)
def w {A B:Type}(y:A)(f:B->B)(x:A×B):A×B:=(y,f x.2)
def z1 {B:Type}(f:B->B)(x:Y×B):Y×B:=(x.1,f x.2)
def z2 {B:Type}(f:B->B)(x:Y×X×B):Y×X×B:=(x.1,x.2.1,f x.2.2)
def z3 {B:Type}(f:B->B)(x:Y×X×T×B):Y×X×T×B:=(x.1,x.2.1,x.2.2.1,f x.2.2.2)
def z5 {B:Type}(f:B->B)(x:Y×X×T×Q×N×B):Y×X×T×Q×N×B:=(x.1,x.2.1,x.2.2.1,x.2.2.2.1,x.2.2.2.2.1,f x.2.2.2.2.2)
def z6 {B:Type}(f:B->B)(x:Y×X×T×Q×N×M×B):Y×X×T×Q×N×M×B:=(x.1,x.2.1,x.2.2.1,x.2.2.2.1,x.2.2.2.2.1,x.2.2.2.2.2.1,f x.2.2.2.2.2.2)
def q2 {B:Type}(x:(Y×X×T×B)×C):T:=x.1.2.2.1
def q3 {B:Type}(x:(Y×X×T×Q×B)×C):Q:=x.1.2.2.2.1
def q4 {B:Type}(x:(Y×X×T×Q×N×B)×C):N:=x.1.2.2.2.2.1
def q5 {B:Type}(x:(Y×X×T×Q×N×M×B)×C):M:=x.1.2.2.2.2.2.1
def q6 {B:Type}(x:(Y×X×T×Q×N×M×L×B)×C):L:=x.1.2.2.2.2.2.2.1
def q7 {a B:Type}(x:(Y×X×T×Q×N×M×L×a×B)×C):a:=x.1.2.2.2.2.2.2.2.1
def q8 {b a B:Type}(x:(Y×X×T×Q×N×M×L×b×a×B)×C):a:=x.1.2.2.2.2.2.2.2.2.1
def q9 {b c a B:Type}(x:(Y×X×T×Q×N×M×L×b×c×a×B)×C):a:=x.1.2.2.2.2.2.2.2.2.2.1
def c1 {B:Type}(f:Y->R)(a:Y×B):R:=f a.1
def c4 {B:Type}(f:Y->X->T->Q->R)(a:Y×X×T×Q×B):R:=f a.1 a.2.1 a.2.2.1 a.2.2.2.1
theorem f0 {E:Env}{Γ:IY}{F:OH s->aS (xY rs)}{f:Nat}{fn:Func}(an:An)(b:Sound P E Γ)(hf:P.funcs[f]?=I fn)(e:(fn.name== "runtime.NumGoroutine")=false:=by kernel_rfl)(d:kT (fn.body.getD .skip)=[]:=by kernel_rfl)(c:an.cut=[]:=by rfl)(hF:∀a,ML E Γ an Qn.nil fn rs (lh s a)=F a:=by intro a;kernel_rfl):rC P f (ZT s rs F):=rC.of (alZ b hf e (Gu.of (Fn.hF d nF) c)) hF
abbrev Y0:FT:=zpi (zpi (zpi zit))
abbrev Y1:FT:=OM (L5 36865 .str) (OM (L5 36868 sr) (OM (OM Y0 (OM (zpi (zpi (zpi (L5 36892 (.int .i64))))) (OM (L5 36895 VO) zit))) (OM (L5 36901 qe) (OM (L5 36904 TM) (OM (.sl .arg NS) (OM (.sl .arg .bool) (OM (zpi (OM .bool (.sl .arg (.int .i64)))) (OM (OM (.sl .arg ajX) (OM (.sl .arg adz) (OM .str (.sl .arg (.int .i64))))) (OM (.sl .arg mV) (OM .bool (OM (.sl .arg .str) (OM (.sl .arg (.int .i64)) (OM (.sl .arg (.int .i64)) (OM zit Y0))))))))))))))
abbrev Y2:CT:=.pair (.sl (.int .u8)) (.pair (.int .i64) (.int .i64))
abbrev Y3:FT:=zpi (zpi (zpi (.sl .arg (.int .i64))))
def E:Env:={ty:=[(3,⟨G,(.int .i64),[]⟩),
 (4,⟨G,.bool,[]⟩),
 (5,⟨G,(.int .u8),[]⟩),
 (9,⟨G,.str,[]⟩),
 (22,⟨G,(.sl (.int .u8)),[(5,0)]⟩),
 (24,⟨G,(.sl fC),[(106,0)]⟩),
 (25,⟨G,(.sl lW),[(54,0)]⟩),
 (26,⟨G,(.sl J8),[(58,0)]⟩),
 (27,⟨G,(.sl .str),[(9,0)]⟩),
 (29,⟨O,(.sl .str),[(0,1)]⟩),
 (31,⟨O,Mu,[(0,1),(1,1),(2,1),(3,1)]⟩),
 (32,⟨G,(.sl (.int .i64)),[(3,0)]⟩),
 (34,⟨O,xz,[(0,1),(1,1),(2,1),(3,1),(4,4),(8,1),(9,1)]⟩),
 (35,⟨G,(.sl Mt),[(76,0)]⟩),
 (43,⟨G,(.sl Mv),[(119,0)]⟩),
 (44,⟨G,(.sl (.sl .str)),[(27,0)]⟩),
 (46,⟨O,iZ,[(0,1),(1,1),(2,1),(3,1),(4,1)]⟩),
 (52,⟨O,GJ,[(0,1),(1,1),(2,1)]⟩),
 (54,⟨O,lW,[(0,1),(1,1),(2,3),(5,1),(6,1),(7,1)]⟩),
 (56,⟨O,Qo,[(0,1),(1,1),(2,1)]⟩),
 (58,⟨O,J8,[(0,3),(3,1),(4,1),(5,1)]⟩),
 (66,⟨G,(.sl Vl),[(70,0)]⟩),
 (68,⟨O,aoC,[(0,1),(1,1),(2,1),(3,1),(4,1),(5,1),(6,1),(7,1)]⟩),
 (70,⟨O,Vl,[(0,1),(1,1),(2,1),(3,1),(4,1),(5,1),(6,1),(7,1),(8,8)]⟩),
 (72,⟨O,aue,[(0,1),(1,16),(17,1),(18,1),(19,1),(20,1)]⟩),
 (74,⟨O,GJ,[(0,1),(1,1),(2,1)]⟩),
 (76,⟨O,Mt,[(0,1),(1,1),(2,21),(23,3),(26,1),(27,1)]⟩),
 (79,⟨G,(.sl mV),[(160,0)]⟩),
 (82,⟨O,(.sl .str),[(0,1)]⟩),
 (83,⟨G,(.sl sr),[(297,0)]⟩),
 (85,⟨O,Mu,[(0,1),(1,1),(2,1),(3,1)]⟩),
 (87,⟨O,TM,[(0,1),(1,1),(2,1),(3,1)]⟩),
 (88,⟨G,(.sl VO),[(250,0)]⟩),
 (90,⟨O,J9,[(0,4),(4,4),(8,1),(9,1)]⟩),
 (91,⟨G,(.sl qe),[(181,0)]⟩),
 (92,⟨G,(.sl TM),[(87,0)]⟩),
 (93,⟨G,(.sl NS),[(187,0)]⟩),
 (94,⟨G,(.sl .bool),[(4,0)]⟩),
 (95,⟨G,(.sl ajX),[(139,0)]⟩),
 (96,⟨G,(.sl adz),[(305,0)]⟩),
 (98,⟨O,(.sl adz),[(0,1)]⟩),
 (100,⟨O,arp,[(0,1),(1,1)]⟩),
 (102,⟨O,Sr,[(0,1),(1,1),(2,2)]⟩),
 (104,⟨O,VN,[(0,1),(1,1),(2,1),(3,1),(4,1)]⟩),
 (106,⟨O,fC,[(0,1),(1,1),(2,10),(12,1),(13,1),(14,1),(15,1),(16,3),(19,4),(23,1),(24,1),(25,1),(26,1),(27,1),(28,5)]⟩),
 (119,⟨O,Mv,[(0,3),(3,4),(7,1),(8,1),(9,1)]⟩),
 (122,⟨G,(.sl ZE),[(206,0)]⟩),
 (134,⟨O,(.pair (.sl (.int .u8)) (.pair (.int .i64) (.int .i64))),[(0,1),(1,1),(2,1)]⟩),
 (139,⟨O,ajX,[(0,1),(1,1),(2,1),(3,1),(4,1),(5,1),(6,1),(7,1),(8,1)]⟩),
 (156,⟨O,VN,[(0,1),(1,1),(2,1),(3,1),(4,1)]⟩),
 (160,⟨O,mV,[(0,5),(5,1),(6,1),(7,1)]⟩),
 (169,⟨G,(.sl VM),[(248,0)]⟩),
 (177,⟨O,GJ,[(0,1),(1,1),(2,1)]⟩),
 (179,⟨O,aoD,[(0,16),(16,1),(17,1)]⟩),
 (181,⟨O,qe,[(0,4),(4,3),(7,3),(10,18),(28,1),(29,1)]⟩),
 (187,⟨O,NS,[(0,1),(1,1),(2,1),(3,1),(4,1),(5,1)]⟩),
 (206,⟨O,ZE,[(0,1),(1,1),(2,1),(3,1)]⟩),
 (232,⟨O,aAM,[(0,1),(1,1),(2,1),(3,1),(4,1)]⟩),
 (236,⟨O,TIp,[(0,1),(1,1),(2,1),(3,1),(4,1),(5,1),(6,1)]⟩),
 (248,⟨O,VM,[(0,1),(1,1),(2,1),(3,1)]⟩),
 (250,⟨O,VO,[(0,1),(1,1),(2,1)]⟩),
 (276,⟨O,VN,[(0,1),(1,1),(2,1),(3,1),(4,1)]⟩),
 (297,⟨O,sr,[(0,1),(1,1),(2,1),(3,1)]⟩),
 (305,⟨O,adz,[(0,1),(1,5),(6,1)]⟩),
 (323,⟨O,D8,[(0,1),(1,1),(2,1),(3,1),(4,1),(5,1)]⟩),
 (359,⟨G,(.sl su),[(363,0)]⟩),
 (363,⟨O,su,[(0,1),(1,1)]⟩),
 (371,⟨G,(.sl su),[(388,0)]⟩),
 (374,⟨G,(.sl D8),[(323,0)]⟩),
 (388,⟨O,su,[(0,1),(1,1)]⟩),
 (394,⟨G,(.int .u32),[]⟩)],eqs:=[(54,[.int,.int,.int,.int,.int,.bool,.int,.int]),(70,[.int,.int,.int,.int,.int,.int,.int,.int,.int,.int,.int,.int,.int,.int,.int,.str]),(156,[.int,.int,.int,.int,.int]),(160,[.int,.int,.int,.int,.int,.int,.str,.bool]),(179,[.int,.int,.int,.int,.int,.int,.int,.int,.int,.int,.int,.int,.int,.int,.int,.str,.int,.int]),(323,[.int,.int,.int,.int,.int,.int])],fts:=[]}
theorem base:Sound Tryz.prog E IY.nil:=Sound.nil (afc (by kernel_rfl)) (aff (by kernel_rfl)) (afe (by kernel_rfl)) (by kernel_rfl)
structure SG where (g:IY) (s:Sound Tryz.prog E g)
def SG.add (S:SG){f:Nat}{F:JD}(h:zfo f F):SG:=⟨S.g.add f F,S.s.add h⟩
def G0:SG:=⟨IY.nil,base⟩
def SG.qk (S:SG){f:Nat}{fn:Func}(an:An)(hf:Tryz.prog.funcs[f]?=I fn)(s:Z PS)(rs:Z (Bool×FT))(F:OH s->aS (xY rs)){l:Z Code}(h:∀c∈l,LOk E S.g an Λ c)(e:(fn.name== "runtime.NumGoroutine")=false:=by kernel_rfl)(d:kT (fn.body.getD .skip)=l:=by kernel_rfl)(b:an.cut=[]:=by kernel_rfl)(hF:∀a,ML E S.g an Λ fn rs (lh s a)=F a:=by intro a;kernel_rfl):SG:=S.add (rC.of (alZ S.s hf e (Gu.of (Fn.hF d h) b)) hF)
def SG.q1 (S:SG){f:Nat}{fn:Func}(an:An)(hf:Tryz.prog.funcs[f]?=I fn)(s:Z PS)(rs:Z (Bool×FT))(F:OH s->aS (xY rs))(d:SD)(t:{R:Type}->SD.D d->(Ex->AS->aS R)->(σ->aS R)->σ->aS R)(i:SD.D d->σ)(w:SD.D d->σ->SD.D d)(b:(Qn.nil.add (fG (jh fn 0)) (mkl d t i)) (fG (jh fn 0))=mkl d t i:=by kernel_rfl)(h:∀(R:Type)(X:SD.D d)(K:zkk R)(m:Nat)(x:σ),GF (an.mask (fG (jh fn 0))) (den E S.g an (Qn.nil.add (fG (jh fn 0)) (mkl d t i)) (jh fn 0)) (m+1) (SD.enc d (w X x)) K=t X K (λy=>GF (an.mask (fG (jh fn 0))) (den E S.g an (Qn.nil.add (fG (jh fn 0)) (mkl d t i)) (jh fn 0)) m (SD.enc d (w X y)) K) x:=by intro R X K m x;kernel_rfl)(k:∀X,w X (i X)=X:=by intro X;kernel_rfl)(j:(fn.name== "runtime.NumGoroutine")=false:=by kernel_rfl)(e:kT (fn.body.getD .skip)=[jh fn 0]:=by kernel_rfl)(c:an.cut=[]:=by kernel_rfl)(hF:∀a,ML E S.g an (Qn.nil.add (fG (jh fn 0)) (mkl d t i)) fn rs (lh s a)=F a:=by intro a;kernel_rfl):SG:=S.add (rC.of (alZ S.s hf j (Gu.of (Fn.hF e (cF (lk d t i w b h k) nF)) c)) hF)
def Ty (T:Nat):Shape:=(lV E.ty T).getD ⟨G,.bool,[]⟩
def kF (k:FK):CT->FT
 | .pair a b=> .pair (kF k a) (kF k b)
 | .sl e=> .sl k e
 | .int k=> .int k
 | .bool=> .bool
 | .str=> .str
def sF:Nat->CT->FT
 |n,.pair a b=> .pair (sF n a) (sF (n+3*a.size) b)
 |n,.sl e=> .sl (.own (I n)) e
 |_,.int k=> .int k
 |_,.bool=> .bool
 |_,.str=> .str
def sg (fn:Func):Z PS:=fn.params.toList.map λT=> .data (Ty T).agg (Ty T).ct
def rz (fn:Func):Z (Bool×FT):=fn.resultTypes.toList.map λT=>((Ty T).agg,kF (.own W) (Ty T).ct)
def Cu (R:Type):Z PS->Type
 |[]=>R
 | .data _ t::r=>t.D->Cu R r
 | .fn _::r=>Cu R r
def un:(s:Z PS)->Cu R s->OH s->R
 |[],f,_=>f
 | .data _ _::r,f,a=>un r (f a.1) a.2
 | .fn _::r,f,a=>un r f a
def dT:Z PD->Nat->Type
 |[],_=>Unit
 | .data _ t::_,0=>t.ct.D
 |_::_,0=>Unit
 |_::r,n+1=>dT r n
def dG:(l:Z PD)->(n:Nat)->LG l->dT l n
 |[],_,_=>()
 | .data _ _::_,0,x=>x.1
 | .bot::_,0,_=>()
 | .ptr _ _::_,0,_=>()
 | .fn _::_,0,_=>()
 | .data _ _::r,n+1,x=>dG r n x.2
 | .bot::r,n+1,x=>dG r n x
 | .ptr _ _::r,n+1,x=>dG r n x
 | .fn _::r,n+1,x=>dG r n x
def dP:(l:Z PD)->(n:Nat)->dT l n->LG l->LG l
 |[],_,_,x=>x
 | .data _ _::_,0,y,x=>(y,x.2)
 | .bot::_,0,_,x=>x
 | .ptr _ _::_,0,_,x=>x
 | .fn _::_,0,_,x=>x
 | .data _ _::r,n+1,y,x=>(x.1,dP r n y x.2)
 | .bot::r,n+1,y,x=>dP r n y x
 | .ptr _ _::r,n+1,y,x=>dP r n y x
 | .fn _::r,n+1,y,x=>dP r n y x
def bT:Z (aS FT)->Nat->Type
 |[],_=>Unit
 |some t::_,0=>t.ct.D
 |none::_,0=>Unit
 |_::r,n+1=>bT r n
def bG:(l:Z (aS FT))->(n:Nat)->K0 l->bT l n
 |[],_,_=>()
 |some _::_,0,x=>x.1
 |none::_,0,_=>()
 |some _::r,n+1,x=>bG r n x.2
 |none::r,n+1,x=>bG r n x
def bP:(l:Z (aS FT))->(n:Nat)->bT l n->K0 l->K0 l
 |[],_,_,x=>x
 |some _::_,0,y,x=>(y,x.2)
 |none::_,0,_,x=>x
 |some _::r,n+1,y,x=>(x.1,bP r n y x.2)
 |none::r,n+1,y,x=>bP r n y x
def pk (d:SD)(i:Nat):Nat:=match nth d.slots i with
 |some (.data _ _)=>0
 |some _=>1
 |none=>2
def PK (d:SD)(i:Nat):Nat->Type
 |0=>dT d.slots i
 |1=>bT d.boxes i
 |_=>ioD d.io
abbrev PT (d:SD)(i:Nat):Type:=PK d i (pk d i)
def gK (d:SD)(i:Nat)(X:d.D):(k:Nat)->PK d i k
 |0=>dG d.slots i X.1
 |1=>bG d.boxes i X.2.1
 |_+2=>X.2.2
def pK (d:SD)(i:Nat)(X:d.D):(k:Nat)->PK d i k->d.D
 |0,y=>(dP d.slots i y X.1,X.2)
 |1,y=>(X.1,bP d.boxes i y X.2.1,X.2.2)
 |_+2,y=>(X.1,X.2.1,y)
def St (d:SD):gw->Type
 |[]=>Unit
 |[p]=>PT d p
 |p::q::r=>PT d p×St d (q::r)
def gS (d:SD)(X:d.D):(l:gw)->St d l
 |[]=>()
 |[p]=>gK d p X (pk d p)
 |p::q::r=>(gK d p X (pk d p),gS d X (q::r))
def pS (d:SD):(l:gw)->St d l->d.D->d.D
 |[],_,X=>X
 |[p],y,X=>pK d p X (pk d p) y
 |p::q::r,y,X=>pS d (q::r) y.2 (pK d p X (pk d p) y.1)
def Cv (d:SD)(R:Type):gw->Type
 |[]=>R
 |p::r=>PT d p->Cv d R r
def aV (d:SD)(X:d.D):(l:gw)->Cv d R l->R
 |[],f=>f
 |p::r,f=>aV d X r (f (gK d p X (pk d p)))
def cV (d:SD)(K:d.D->R):(l:gw)->d.D->Cv d R l
 |[],X=>K X
 |p::r,X=>λy=>cV d K r (pK d p X (pk d p) y)
def Cz (d:SD)(R:Type):gw->Type
 |[]=>Unit->R
 |p::r=>Cv d R (p::r)
def cZ (d:SD)(K:d.D->R):(l:gw)->d.D->Cz d R l
 |[],X=>λ_=>K X
 |p::r,X=>cV d K (p::r) X
def pls (d:SD):gw:=(List.range d.slots.length).filter (λi=>match nth d.slots i with|some (.data _ _)=>O|_=>G)++(List.range d.slots.length).filter (λi=>match nth d.boxes i with|some (I _)=>O|_=>G)++match d.io with| .some _=>[d.slots.length]|_=>[]
def kps (d:SD):gw:=(List.range d.slots.length).filter λi=>(match nth d.slots i with|some .bot=>G|_=>O)||match nth d.boxes i with|some (I _)=>O|_=>G
def TT (d:SD)(s:gw)(R:Type):Z (Ex×gw)->Type
 |[]=>Cv d ((St d s->aS R)->St d s->aS R) ((pls d).filter λi=> !s.contains i)
 |x::r=>Cz d (aS R) x.2->TT d s R r
def tT (d:SD)(s:gw)(X:d.D)(K:zkk R):(l:Z (Ex×gw))->TT d s R l->(St d s->aS R)->St d s->aS R
 |[],f=>aV d X _ f
 |x::r,f=>tT d s X K r (f (cZ d (λY=>K x.1 (d.enc Y)) x.2 X))
structure LS (fn:Func) where (d:SD) (σ:Type) (t:{R:Type}->d.D->(Ex->AS->Option R)->(σ->Option R)->σ->Option R) (i:d.D->σ) (w:d.D->σ->d.D)
def fo (i:Nat):Code->aS Oper
 | .region _ l _=>l.toList.find? λo=>match o.dst with|some j=>Nat.beq j i|none=>G
 | .seq a b=>match fo i a with|none=>fo i b|x=>x
 | .cond _ a b=>match fo i a with|none=>fo i b|x=>x
 | .block _ a=>fo i a
 | .loop a=>fo i a
 |_=>W
def kP (f:Nat->CT->FT)(fn:Func)(i:Nat):PD×aS FT:=match fn.params[i]?,fo i (fn.body.getD .skip)with
 |some T,_=>(.data (Ty T).agg (f (12288*i) (Ty T).ct),W)
 |_,I o=>match o.op with
  | .alloc T=>(.ptr i 0,I (f (12288*i+1) (Ty T).ct))
  | .box T _=>(.ptr i 0,I (f (12288*i+1) (Ty T).ct))
  |_=>(.data (Ty o.type).agg (f (12288*i) (Ty o.type).ct),W)
 |_,_=>(.bot,W)
def dS (fn:Func)(a b:gw)(x:Z (Nat×PD×aS FT))(io:IoD):SD:=
 let l:=(List.range fn.ntmps).map λi=>match x.lookup i with
  |some y=>y
  |none=>bif a.contains i then kP sF fn i else bif b.contains i then kP (λ_=>kF .arg) fn i else(.bot,W)
 ⟨l.map (·.1),l.map (·.2),io⟩
def ld {fn:Func}(a b s:gw)(T:∀R,A R)(l:Z (Ex×gw):=[(.exit 0,s)])(x:Z (Nat×PD×aS FT):=[])(io:IoD:=.none)(h:∀R,A R=TT (dS fn a b x io) s R l:=by intro R;kernel_rfl):LS fn:=⟨dS fn a b x io,St (dS fn a b x io) s,λ{R} X K=>tT (dS fn a b x io) s X K l (cast (h R) (T R)),λX=>gS (dS fn a b x io) X s,λX y=>pS (dS fn a b x io) s y X⟩
structure CS (fn:Func) where (d:SD) (o:List Nat) (t:{R:Type}->d.D->(Ex->AS->Option R)->Option R)
def TC (d:SD)(R:Type):Z (Ex×gw)->Type
 |[]=>Cv d (aS R) (pls d)
 |x::r=>Cz d (aS R) x.2->TC d R r
def tC (d:SD)(X:d.D)(K:zkk R):(l:Z (Ex×gw))->TC d R l->aS R
 |[],f=>aV d X _ f
 |x::r,f=>tC d X K r (f (cZ d (λY=>K x.1 (d.enc Y)) x.2 X))
def lc {fn:Func}(a b o:gw)(T:∀R,A R)(l:Z (Ex×gw))(x:Z (Nat×PD×aS FT):=[])(io:IoD:=.none)(h:∀R,A R=TC (dS fn a b x io) R l:=by intro R;kernel_rfl):CS fn:=⟨dS fn a b x io,o,λ{R} X K=>tC (dS fn a b x io) X (λe s=>K e (s.mask o)) l (cast (h R) (T R))⟩
def cu:FT:=.pair (.sl .arv (.int .u8)) (.pair (.int .i64) (.int .i64))
def lb {fn:Func}(a b s:gw)(T:∀R,A R)(l:Z (Ex×gw):=[(.exit 0,s)])(x:Z (Nat×PD×aS FT):=[])(h:∀R,A R=TT (dS fn a b ((0,.ptr 0 0,I cu)::x) .ptr) s R l:=by intro R;kernel_rfl):LS fn:=ld a b s T l ((0,.ptr 0 0,I cu)::x) .ptr h
def lx {fn:Func}(a b o:gw)(T:∀R,A R)(l:Z (Ex×gw))(x:Z (Nat×PD×aS FT):=[])(h:∀R,A R=TC (dS fn a b ((0,.ptr 0 0,I cu)::x) .ptr) R l:=by intro R;kernel_rfl):CS fn:=lc a b o T l ((0,.ptr 0 0,I cu)::x) .ptr h
section
variable (Γ:IY) (an:An) (fn:Func)
def lac (c:gw):Nat->Z (CS fn)->Qn
 |_,[]=>Qn.nil
 |j,l::r=>(lac c (j+1) r).add (Ef (I5 c fn j)) (mkc l.d l.t)
def lam (B:Qn):Nat->Z (LS fn)->Qn
 |_,[]=>B
 |k,l::r=>(lam B (k+1) r).add (fG (jh fn k)) (mkl l.d l.t l.i)
def Cq (c:gw)(n:Nat):Nat->Z (CS fn)->gw
 |_,[]=>[]
 |j,l::r=>bif Nat.beq n (Ef (I5 c fn j)) then kps l.d else bif Nat.beq n (Ef (I5 c fn j)+1) then l.o else Cq c n (j+1) r
def msk (c:gw)(y:Z (CS fn))(n:Nat):Nat->Z (LS fn)->gw
 |_,[]=>Cq fn c n 0 y
 |k,l::r=>bif Nat.beq n (fG (jh fn k)) then kps l.d else msk c y n (k+1) r
def wm (l:Z (LS fn))(y:Z (CS fn)):An:={an with mask:=λn=>msk fn an.cut y n 0 l}
def LL (Λ:Qn):Nat->Z (LS fn)->Prop
 |_,[]=>True
 |k,l::r=>Λ (fG (jh fn k))=mkl l.d l.t l.i/\(∀(R:Type)(X:l.d.D)(K:zkk R)(m:Nat)(x:l.σ),GF (an.mask (fG (jh fn k))) (den E Γ an Λ (jh fn k)) (m+1) (l.d.enc (l.w X x)) K=l.t X K (λy=>GF (an.mask (fG (jh fn k))) (den E Γ an Λ (jh fn k)) m (l.d.enc (l.w X y)) K) x)/\(∀X,l.w X (l.i X)=X)/\LL Λ (k+1) r
def CC (Λ:Qn):Nat->Z (CS fn)->Prop
 |_,[]=>True
 |k,l::r=>Λ (Ef (I5 an.cut fn k))=mkc l.d l.t/\(∀(R:Type)(X:l.d.D)(K:zkk R),l.t X K=den E Γ an Λ (I5 an.cut fn k) (l.d.enc X) (λe a=>K e (a.mask (an.mask (Ef (I5 an.cut fn k)+1)))))/\CC Λ (k+1) r
def OK (l:Z (LS fn))(y:Z (CS fn)):Prop:=(fn.name== "runtime.NumGoroutine")=G/\kT (fn.body.getD .skip)=(List.range' 0 l.length).map (jh fn)/\nV an.cut (fn.body.getD .skip)=(List.range' 0 y.length).map (I5 an.cut fn)/\LL Γ (wm an fn l y) fn (lam fn (lac fn an.cut 0 y) 0 l) 0 l/\CC Γ (wm an fn l y) fn (lam fn (lac fn an.cut 0 y) 0 l) 0 y
end
section
variable {Γ:IY} {an:An} {fn:Func}
theorem LL.ok {Λ:Qn}:∀{r:Z (LS fn)}{k:Nat},LL Γ an fn Λ k r->∀c∈(List.range' k r.length).map (jh fn),LOk E Γ an Λ c
 |[],_,_,_,h=>nomatch h
 |l::_,k,⟨a,b,f,g⟩,c,h=>by rcases bW.1 h with e|e;rw[e];exact lk l.d l.t l.i l.w a b f;exact g.ok c e
theorem CC.ok {Λ:Qn}:∀{r:Z (CS fn)}{k:Nat},CC Γ an fn Λ k r->∀c∈(List.range' k r.length).map (I5 an.cut fn),COk E Γ an Λ c
 |[],_,_,_,h=>nomatch h
 |l::_,k,⟨a,b,f⟩,c,h=>by rcases bW.1 h with e|e;rw[e];exact ck l.d l.t a b;exact f.ok c e
theorem OK.all {l:Z (LS fn)}{y:Z (CS fn)}(h:OK Γ an fn l y):Gu E Γ (wm an fn l y) (lam fn (lac fn an.cut 0 y) 0 l) (fn.body.getD .skip):=⟨Fn.hF h.2.1 h.2.2.2.1.ok,Fn.hF h.2.2.1 h.2.2.2.2.ok⟩
end
section
variable (S:SG) {f:Nat} {fn:Func} (an:An) (hf:Tryz.prog.funcs[f]?=I fn)
variable {A:Type}
noncomputable def SG.q (F:A)(l:Z (LS fn):=[])(y:Z (CS fn):=[])(rs:Z (Bool×FT):=rz fn)(b:A=Cu (aS (xY rs)) (sg fn):=by kernel_rfl)(h:OK S.g an fn l y:=by repeat' (first|exact trivial|apply And.intro|(intros;kernel_rfl)))(hF:∀a,ML E S.g (wm an fn l y) (lam fn (lac fn an.cut 0 y) 0 l) fn rs (lh (sg fn) a)=un (sg fn) (cast b F) a:=by intro a;kernel_rfl):SG:=
 S.add (rC.of (F:=un (sg fn) (cast b F)) (alZ S.s hf h.1 h.all) hF)
noncomputable def SG.b (F:A)(l:Z (LS fn):=[])(y:Z (CS fn):=[])(t:FT:=cu)(rs:Z (Bool×FT):=rz fn)(c:A=(t.ct.D->Cu (aS (xY rs×t.ct.D)) (sg fn).tail):=by kernel_rfl)(h:OK S.g an fn l y:=by repeat' (first|exact trivial|apply And.intro|(intros;kernel_rfl)))(hF:∀x a,ab5 E S.g (wm an fn l y) (lam fn (lac fn an.cut 0 y) 0 l) fn rs t (.val O (lY t x)::lh (sg fn).tail a)=un (sg fn).tail (cast c F x) a:=by intro x a;kernel_rfl):SG:=
 S.add (rC.auP (F:=λx a=>un (sg fn).tail (cast c F x) a) (auk S.s hf h.1 h.all) hF)
noncomputable def SG.i (F:A)(l:Z (LS fn):=[])(y:Z (CS fn):=[])(rs:Z (Bool×FT):=rz fn)(t:Nat:=fn.params.getD 0 0)(b:A=((Ty t).ct.D->Cu (aS (xY rs×(Ty t).ct.D)) (sg fn).tail):=by kernel_rfl)(h:OK S.g an fn l y:=by repeat' (first|exact trivial|apply And.intro|(intros;kernel_rfl)))(hF:∀x a,ahB E S.g (wm an fn l y) (lam fn (lac fn an.cut 0 y) 0 l) fn rs (Ty t).ct (.val (Ty t).agg (cellsOf (Ty t).ct (.own W) x)::lh (sg fn).tail a)=un (sg fn).tail (cast b F x) a:=by intro x a;kernel_rfl):SG:=
 S.add (rC.aBp (F:=λx a=>un (sg fn).tail (cast b F x) a) (aAT S.s hf h.1 h.all) hF)
noncomputable def SG.n (F:A)(t:FT)(l:Z (LS fn):=[])(y:Z (CS fn):=[])(b:A=Cu (aS t.ct.D) (sg fn):=by kernel_rfl)(h:OK S.g an fn l y:=by repeat' (first|exact trivial|apply And.intro|(intros;kernel_rfl)))(hF:∀a,Vu E S.g (wm an fn l y) (lam fn (lac fn an.cut 0 y) 0 l) fn t (lh (sg fn) a)=un (sg fn) (cast b F) a:=by intro a;kernel_rfl):SG:=
 S.add (rC.auQ (F:=un (sg fn) (cast b F)) (aul S.s hf h.1 h.all) hF)
noncomputable def SG.v (F:A)(b:Z (Bool×FT))(l:Z (LS fn):=[])(y:Z (CS fn):=[])(rs:Z (Bool×FT):=rz fn)(h2:xY b=xY rs:=by kernel_rfl)(c:A=Cu (aS (Bool×xY rs)) (sg fn):=by kernel_rfl)(h:OK S.g an fn l y:=by repeat' (first|exact trivial|apply And.intro|(intros;kernel_rfl)))(hF:∀a,evalAlt E S.g (wm an fn l y) (lam fn (lac fn an.cut 0 y) 0 l) fn rs b h2 (lh (sg fn) a)=un (sg fn) (cast c F) a:=by intro a;kernel_rfl):SG:=
 S.add (rC.ofAlt (h2:=h2) (F:=un (sg fn) (cast c F)) (api h2 S.s hf h.1 h.all) hF)
end
variable {R:Type}
def G4:=G0.q {} func4 Rd
def G19:=G4.n {merge:=mg [(3,15)]} func19 Jz (kF .arg Y2) [ld [3,4] [0] [3,4] @ID]
def G69:=G19.b {} func69 oh
def G22:=G69.b {} func22 dH
def G55:=G22.q {} func55 Fy
def avN:=G55.b {mv:=[15]} func149 om [lb [1,5,6] [] [5,6,0] @vR]
def G56:=avN.b {} func56 JA
def G57:=G56.b {} func57 iJ
def G58:=G57.b {} func58 dJ
def avp:=G58.q {sb:=mg [(2,2)]} func125 gP
def G43:=avp.q {mv:=[7]} func43 mJ
def G35:=G43.q {merge:=mg [(1,6)]} func35 aN
def awG:=G35.q {merge:=mg [(4,35),(6,2)]} func204 iy [ld [2,3] [1] [3] @zg [(.exit 0,[3]),(.ret,[2,3])]]
def awy:=awG.q {merge:=mg [(1,2)]} func196 yh
def ayg:=awy.q {} func302 kO [ld [1,4,5] [0] [5] @DT [(.exit 0,[5]),(.ret,[4,5])]]
def awz:=ayg.q {merge:=mg [(7,37)],mv:=[55]} func197 AM [ld [5,6] [1] [5,6] @tV,ld [5,6,7] [1] [7] @zR [(.exit 2,[7])]]
def awA:=awz.q {} func198 qO [ld [2,3] [0] [3] @Bk [(.exit 0,[3]),(.ret,[2,3])],ld [2,3,4] [0] [4] @Bl [(.exit 2,[4]),(.ret,[2,4])]]
def G99:=awA.q {mv:=[41,63]} func99 lz [ld [2,3,4,5] [0] [4,5] @vO [(.exit 0,[4,5]),(.ret,[2,3,4,5])]]
def awB:=G99.q {merge:=mg [(1,2)]} func199 zj
def avR:=awB.q {} func153 fT
def avS:=avR.q {} func154 IC [ld [0,3,4] [] [3,4] @AD,ld [0,3,4,5] [] [3,5] @wu [(.exit 2,[3,5])]]
def G62:=avS.q {merge:=mg [(1,15)]} func62 tJ
def ay1:=G62.q {merge:=mg [(1,6)]} func349 tQ
def axD:=ay1.q {} func263 fS
def axE:=axD.q {} func264 jw
def awC:=axE.q {merge:=mg [(2,17),(5,37)]} func200 lv
def au1:=awC.q {merge:=mg [(5,23)]} func101 rf
def au2:=au1.q {merge:=mg [(1,2)]} func102 uO
def avO:=au2.q {merge:=mg [(1,2)]} func150 rh
def axf:=avO.q {} func239 Hr
def avt:=axf.q {sb:=mg [(2,2)]} func129 vd
def azB:=avt.q {merge:=mg [(1,33),(3,54),(5,2)]} func387 qP
def ayi:=azB.q {} func304 DK [ld [2,3] [0] [3] @Gp [(.exit 0,[3]),(.ret,[2,3])]]
def aAq:=ayi.q {} func439 Fv [ld [3,4,5] [] [3,5] @tE]
def azC:=aAq.q {merge:=mg [(7,39)]} func388 Hs [ld [3,4,5] [2] [5] @Bt [(.exit 0,[5]),(.ret,[4,5])]]
def ayj:=azC.q {merge:=mg [(7,30),(10,42)]} func305 DM [ld [2,3] [1] [3] @Bp [(.exit 0,[3]),(.ret,[2,3])]]
def azD:=ayj.q {merge:=mg [(1,2)]} func389 Hq
def ayk:=azD.q {merge:=mg [(1,21)]} func306 AI [ld [1,4,5] [2] [5] @zG [(.exit 0,[5]),(.ret,[4,5])]]
def awH:=ayk.q {merge:=mg [(1,23)]} func205 nA [ld [1,4,5] [2] [5] @uZ [(.exit 0,[5]),(.ret,[4,5])],ld [1,4,6] [2] [6] @BV [(.exit 2,[6]),(.ret,[4,6])]]
def awJ:=awH.q {merge:=mg [(1,20),(7,50)]} func207 lP [ld [2,3,4] [1] [3,4] @DH [(.exit 0,[3,4]),(.ret,[2,3,4])]]
def ayp:=awJ.q {merge:=mg [(3,20)],mv:=[24,33]} func311 DF [ld [2,6,8,9] [] [9,8] @vN]
def awN:=ayp.q {mv:=[4,9]} func211 AL
def G63:=awN.q {} func63 gO [ld [0,1,5,6] [] [5,6] @nB]
def awv:=G63.q {} func193 eZ
def awx:=awv.q {sb:=mg [(2,2)]} func195 mH
def aw1:=awx.q {merge:=mg [(1,15)]} func225 md
def azA:=aw1.q {merge:=mg [(1,2)]} func386 zO
def ayy:=azA.q {} func320 mG
def ayh:=ayy.q {merge:=mg [(1,2)]} func303 mT
def ayJ:=ayh.q {} func331 wy
def ayz:=ayJ.q {merge:=mg [(1,11)]} func321 tN
def awD:=ayz.q {} func201 wx [ld [2,3] [1] [3] @zw [(.exit 0,[3]),(.ret,[2,3])]]
def awE:=awD.q {merge:=mg [(7,34),(12,57)]} func202 vL [ld [2,3] [0] [3] @uT [(.exit 0,[3]),(.ret,[2,3])],ld [2,3,4,5] [0] [5] @sa [(.exit 2,[5]),(.ret,[2,5])]]
def azV:=awE.q {merge:=mg [(4,42)]} func407 Ht [ld [1,2,3,8,9] [0] [9] @Bu [(.exit 0,[9]),(.ret,[8,9])]]
def azW:=azV.q {merge:=mg [(2,6)]} func408 pw
def ayG:=azW.q {merge:=mg [(3,34),(10,57)],mv:=[35,36,64,71,81,82]} func328 AJ [ld [2,3,4,5,12,13,14,15,16] [0,7] [3,4,15,16] @oH [(.exit 0,[3,4,15,16]),(.ret,[3,4,12,13,14,15,16])]]
def ayo:=ayG.q {} func310 fQ
def azQ:=ayo.q {mv:=[19,52]} func402 zM [ld [1,2,6,8] [] [1,2,8] @si]
def ayB:=azQ.q {mv:=[32,39,52,60],sb:=mg [(15,15)]} func323 rj [ld [4,10,15,16] [] [4,16,15] @tt [(.exit 0,[4,16,15])] [(12,.data G (.sl .loc (.int .i64)),Z'),(13,.data G (.sl .loc (.int .i64)),Z')]]
def ayK:=ayB.q {merge:=mg [(1,22)],mv:=[26,36,51],mb:=mg [(51,13)],sb:=mg [(10,10),(11,11),(13,13)]} func332 DJ
def ayI:=ayK.q {} func330 cO
def azX:=ayI.q {merge:=mg [(1,2)]} func409 yc
def ayL:=azX.q {} func333 qd
def aw5:=ayL.q {merge:=mg [(4,32),(6,44)],mv:=[33,35,49,63,68,78,80],mb:=mg [(33,14),(35,15),(78,14),(80,15)],sb:=mg [(10,10),(11,11),(12,12),(18,18),(19,19)]} func229 AE [ld [2,8,10,11,12,14,15,16] [0,9] [16,8,14,15] @tz]
def ayq:=aw5.q {mv:=[27]} func312 yg [ld [2,3,4,10,12,13] [0,6] [12,13] @xi]
def awO:=ayq.b {mv:=[47,51,65,67,84],mb:=mg [(84,6)],sb:=mg [(6,6),(50,0),(70,0),(71,5)]} func212 vf (t:=(kF (.own W) fC))
def aym:=awO.q {merge:=mg [(1,2)]} func308 yj
def awK:=aym.q {merge:=mg [(1,24),(3,2)]} func208 kt
def axu:=awK.q {} func254 DG
def axv:=axu.q {merge:=mg [(3,12)],mv:=[16,21],mb:=mg [(16,3)],sb:=mg [(20,3)]} func255 tL [ld [0,2,3,4] [] [4,3] @xk]
def avP:=axv.q {merge:=mg [(2,42)],mv:=[57,74,80,86,92,98],mb:=mg [(57,16)],sb:=mg [(16,16),(67,16)]} func151 zA [ld [0,12,14,16,17] [] [17,16] @vM,ld [0,12,14,16,18] [] [18,16] @tK [(.exit 2,[18,16])]]
def G59:=avP.q {merge:=mg [(3,50)],mv:=[58,67,73,74,79,89,98],mb:=mg [(89,16)],sb:=mg [(18,18),(97,16)]} func59 zx [ld [2,9,12,13,16,17] [0,7] [17,16] @Bj [(.exit 0,[17,16]),(.ret,[13,17,12,16])]]
def axw:=G59.b {mv:=[11]} func256 DS
def avQ:=axw.b {} func152 NA
def G60:=avQ.b {mv:=[22,23,26]} func60 JX [lb [3,4] [] [3,4,0] @KQ]
def G68:=G60.b {} func68 FI
def G61:=G68.b {mv:=[18,28],mb:=mg [(18,3)],sb:=mg [(27,3)]} func61 JW [lb [2,3,4] [] [4,0,3] @KP]
def G20:=G61.b {mv:=[35,49,52,66,80,82],sb:=mg [(6,6),(11,11),(36,0),(39,0),(43,0),(45,0)],cut:=[3,4,7]} func20 NB [lb [2,3] [] [3,0] @NC [(.exit 0,[3,0]),(.ret,[3,0,2])]] [lx [2,3] [] [0,2,3] @IE [(.normal,[3,0]),(.ret,[0,2])],lx [2,3,4] [] [0,2,3] @DV [(.normal,[0]),(.ret,[0,2])],lx [2,3] [] [0,2,3] @yk [(.normal,[3])]]
def axx:=G20.b {} func257 Hn
def ayW:=axx.b {} func344 FF
def axy:=ayW.b {} func258 Br
def avT:=axy.b {} func155 tR
def G64:=avT.b {mv:=[47,76],cut:=[6,7,9,11,14,17]} func64 Ho [lb [5,6,7,8] [] [5,7,8,0,6] @Gq] [lx [5,6,7,8] [] [0,5,6,7,8] @Bs [(.normal,[5,7,8,0,6])],lx [5,6,7,8] [] [0,5,6,7,8] @vT [(.normal,[5,7,0,6])],lx [5,6,7,8] [] [0,5,6,7,8] @tS [(.normal,[5,0,6])],lx [5,6,7,8] [] [0,5,6,7,8] @tU [(.normal,[5,0,6])],lx [5,6,7,8,64] [] [0,5,6,7,8] @EL [(.normal,[6])],lx [5,6,7,8] [] [0,5,6,7,8] @vS [(.normal,[8])]]
def axG:=G64.q {merge:=mg [(1,18),(4,2),(5,2)]} func266 yi
def avZ:=axG.q {merge:=mg [(1,55),(3,3),(4,2)]} func161 jz
def G72:=avZ.q {merge:=mg [(1,2)]} func72 lg
def ayX:=G72.q {merge:=mg [(1,27)]} func345 ni
def aAC:=ayX.q {merge:=mg [(1,12)]} func451 uM
def az1:=aAC.q {} func413 FE [ld [0,3,4] [] [3,4] @zI]
def ayY:=az1.q {} func346 oy
def axz:=ayY.q {merge:=mg [(14,82)]} func259 ng
def az2:=axz.q {merge:=mg [(1,2)]} func414 Oz
def ayZ:=az2.q {} func347 Fx
def axA:=ayZ.q {} func260 Du
def axF:=axA.q {merge:=mg [(1,2)]} func265 EJ
def ay0:=axF.q {} func348 kC
def axB:=ay0.q {} func261 Fk
def axC:=axB.q {} func262 Hk
def avU:=axC.q {} func156 jP
def avV:=avU.q {} func157 DQ
def G65:=avV.q {} func65 nz
def G66:=G65.b {} func66 yl
def G67:=G66.b {} func67 Bx
def G21:=G67.b {merge:=mg [(44,158)],mv:=[83,110,116,124,164],cut:=[5,6,19,25,37,43,44,45]} func21 Hw [lb [1,2,7,8,9] [] [7,9,0] @Gt,lb [7,14] [] [7,14] @EO [(.exit 3,[7,14])]] [lx [1,2,7,8,9] [] [0,1,2,7,8,9] @BB [(.normal,[7,9,0])],lx [1,2,7,8,9,10,11,30,46] [] [0,1,2,7,8,9,11] @oI [(.normal,[7,0,11])],lx [1,2,7,8,9,10,11,30,63] [] [0,1,2,7,8,9,11] @me [(.normal,[7,0,11])],lx [1,2,7,8,9,11] [] [0,1,2,7,8,9] @oJ [(.normal,[7,0])],lx [1,2,7,8,9] [] [0,1,2,7,8,9] @vU [(.normal,[9])],lx [7,14] [] [0,7,14] @EM [(.normal,[7,14])],lx [7,14,158] [] [0,7,14] @EN [(.normal,[7])],lx [7,14] [] [0,7,14] @zQ [(.normal,[14])]]
def G70:=G21.q {merge:=mg [(1,16)]} func70 Fo
def avW:=G70.q {sb:=mg [(4,4)]} func158 Fz
def avX:=avW.q {merge:=mg [(2,22),(6,56)],sb:=mg [(5,5)]} func159 Hl
def avY:=avX.q {merge:=mg [(3,20),(9,44),(12,68)]} func160 xm
def G71:=avY.q {merge:=mg [(2,20)]} func71 lA
def G23:=G71.q {} func23 kq
def G73:=G23.q {} func73 yd
def G74:=G73.q {} func74 tP [ld [3,4,5] [0] [5] @Ad [(.exit 0,[5]),(.ret,[4,5])]]
def G24:=G74.b {mv:=[45,52],sb:=mg [(41,0)]} func24 Hp [lb [5,6] [1] [5,6,0] @Gr]
def G5:=G24.q {merge:=mg [(8,45)],mv:=[46,67,86,87],sb:=mg [(16,13),(20,13),(81,13)],er:=mg [(83,7)],cut:=[7,8,9,10,16]} func5 Dx [ld [2,5,6,7,8] [] [7,8] @xe [(.exit 0,[7,8])] [(4,.ptr 13 0,Z'),(13,.ptr 13 0,I (kF .arg Y2))],ld [2,5,6,7,11] [] [11,5,13] @BU [(.exit 2,[11,5,13])] [(4,.ptr 13 0,Z'),(13,.ptr 13 0,I (kF .arg Y2))]] [lc [2,5,6,7,8] [] [2,4,5,6,7,8,13] @Dy [(.normal,[7,8])] [(4,.ptr 13 0,Z'),(13,.ptr 13 0,I (kF .arg Y2))],lc [2,5,6,7,8,45] [] [2,4,5,6,7,8,13] @Dz [(.normal,[7])] [(4,.ptr 13 0,Z'),(13,.ptr 13 0,I (kF .arg Y2))],lc [2,5,6,7,8] [] [2,4,5,6,7,8,13] @uQ [(.normal,[7])] [(4,.ptr 13 0,Z'),(13,.ptr 13 0,I (kF .arg Y2))],lc [2,5,6,7,8] [] [2,4,5,6,7,8,13] @xd [(.normal,[8])] [(4,.ptr 13 0,Z'),(13,.ptr 13 0,I (kF .arg Y2))],lc [2,5,6,7,11] [] [2,4,5,6,7,11,13] @BT [(.normal,[11,5,13])] [(4,.ptr 13 0,Z'),(13,.ptr 13 0,I (kF .arg Y2))]]
def G27:=G5.q {merge:=mg [(1,6)]} func27 aE
def avB:=G27.q {merge:=mg [(4,29),(7,2)]} func137 jL [ld [2,7,8] [1,6] [8] @yy [(.exit 0,[8]),(.ret,[2,8])]]
def avu:=avB.q {merge:=mg [(1,2)]} func130 xH
def avv:=avu.q {} func131 jo [ld [1,4,8,9] [7] [9] @C8 [(.exit 0,[9]),(.ret,[4,9])]]
def avw:=avv.q {merge:=mg [(6,22)],mv:=[23,27,34,38]} func132 nq [ld [1,5,6,11,12] [10] [5,6,12] @oX]
def axg:=avw.q {} func240 JN (rs:=[(O,(kF .arg Qo))])
def axh:=axg.q {merge:=mg [(4,21)]} func241 Aw [ld [1,4,8,9] [7] [9] @sU [(.exit 0,[9]),(.ret,[4,9])]]
def avx:=axh.q {merge:=mg [(6,27),(8,37)]} func133 qx [ld [2,10,11] [0,9] [11] @AX [(.exit 0,[11]),(.ret,[2,11])]]
def G45:=avx.q {mv:=[53,57,63,69]} func45 qw [ld [2,3,4,5,19,20] [18] [4,5,20] @vz [(.exit 0,[4,5,20]),(.ret,[2,3,4,5,20])],ld [2,3,4,5,8,19,20,32,33,34] [7,18] [5,8,34] @oD [(.exit 2,[5,8,34])]]
def avy:=G45.q {} func134 Aq [ld [2,7,8] [1,6] [8] @Ko [(.exit 0,[8]),(.ret,[2,8])]]
def axi:=avy.q {merge:=mg [(4,25)]} func242 sT [ld [1,2,6,10,11] [9] [11] @Ab [(.exit 0,[11]),(.ret,[6,11])]]
def avz:=axi.q {merge:=mg [(4,37)]} func135 vy [ld [2,6,7] [0,5] [7] @uv [(.exit 0,[7]),(.ret,[2,7])]]
def avD:=avz.q {merge:=mg [(1,21),(7,43)]} func139 lN [ld [2,3,27,28] [1,26] [3,28] @CV [(.exit 0,[3,28]),(.ret,[2,3,28])]]
def awr:=avD.q {} func189 lO
def ayN:=awr.q {merge:=mg [(1,2)]} func335 Ax
def ax6:=ayN.q {} func292 mz
def axj:=ax6.q {merge:=mg [(1,2)]} func243 mO
def G78:=axj.q {} func78 iT
def av4:=G78.q {mv:=[7]} func166 kZ
def axk:=av4.q {merge:=mg [(3,21)],mv:=[10,24]} func244 jl
def avA:=axk.q {merge:=mg [(1,24),(8,50)],mv:=[55]} func136 HG [ld [2,3,4,31,32] [1,30] [3,4,32] @C1 [(.exit 0,[3,4,32]),(.ret,[2,3,4,32])]]
def axl:=avA.q {merge:=mg [(1,2)]} func245 uy
def ayO:=axl.q {merge:=mg [(1,18),(5,2),(7,2)]} func336 xI
def ayP:=ayO.q {merge:=mg [(1,2)]} func337 xP
def axm:=ayP.q {merge:=mg [(1,2)]} func246 je
def avC:=axm.q {merge:=mg [(1,42),(5,2)]} func138 Er
def axn:=avC.q {merge:=mg [(1,2)]} func247 Kr
def avE:=axn.q {merge:=mg [(1,24),(3,2)]} func140 qX
def ayQ:=avE.q {merge:=mg [(1,33),(3,54),(5,2)]} func338 Jg
def axo:=ayQ.q {} func248 G2 [ld [2,6,7] [0,5] [7] @Mf [(.exit 0,[7]),(.ret,[2,7])]]
def ayR:=axo.q {merge:=mg [(4,23)]} func339 Ji [ld [3,4,9,10] [8] [10] @Dc [(.exit 0,[10]),(.ret,[4,10])]]
def az0:=ayR.q {} func412 E5 [ld [3,16,17,18] [] [3,18] @sM]
def ayS:=az0.q {mv:=[10,18]} func340 P5 [ld [1,3,4] [] [3,4] @Fh]
def axp:=ayS.q {merge:=mg [(6,28),(9,40)]} func249 yL [ld [2,13,14] [1,12] [14] @Bb [(.exit 0,[14]),(.ret,[2,14])],ld [2,3,13,14,49,50,51] [1,12] [51] @sR [(.exit 2,[51]),(.ret,[2,51])]]
def ayT:=axp.q {merge:=mg [(1,2)]} func341 M8
def axq:=ayT.q {merge:=mg [(1,22)]} func250 Fe [ld [1,4,25,26] [24] [26] @Kq [(.exit 0,[26]),(.ret,[4,26])]]
def avF:=axq.q {merge:=mg [(1,25),(6,41),(12,59)]} func141 pZ [ld [1,4,28,29] [2,27] [29] @uB [(.exit 0,[29]),(.ret,[4,29])],ld [1,4,46,47] [45] [47] @rN [(.exit 2,[47]),(.ret,[4,47])]]
def G46:=avF.q {merge:=mg [(2,58),(7,89)]} func46 lM [ld [2,3,61,62] [1] [62] @CO [(.exit 0,[62]),(.ret,[2,62])],ld [2,3,103,104,105] [1] [105] @AR [(.exit 2,[105]),(.ret,[2,105])]]
def avG:=G46.q {} func142 Pu.yX [ld [4,12,13] [0,1] [13] @Pu.rT [(.exit 0,[13]),(.ret,[4,13])]]
def G47:=avG.q {merge:=mg [(1,4)]} func47 vB
def avH:=G47.q {merge:=mg [(1,2)]} func143 Am
def G48:=avH.q {merge:=mg [(6,49),(11,69)]} func48 oC [ld [4,13,14] [0,1,12] [14] @rJ [(.exit 0,[14]),(.ret,[4,14])],ld [4,6,13,14,53,54] [0,1,12,52] [54] @rK [(.exit 2,[54]),(.ret,[4,54])]]
def G49:=G48.q {merge:=mg [(4,22)]} func49 xL [ld [2,6,7] [5] [7] @C9 [(.exit 0,[7]),(.ret,[2,7])]]
def avI:=G49.q {merge:=mg [(1,2)]} func144 CL
def axr:=avI.q {merge:=mg [(1,13)]} func251 ka
def ayU:=axr.q {} func342 iH
def ayV:=ayU.q {} func343 Ie [ld [0,3,4] [] [3,4] @Ao,ld [0,3,4,5] [] [3,5] @wj [(.exit 2,[3,5])]]
def axs:=ayV.q {merge:=mg [(1,15)]} func252 CQ
def avJ:=axs.q {merge:=mg [(2,19),(5,38)]} func145 lp
def G50:=avJ.q {merge:=mg [(4,18)]} func50 wi
def G51:=G50.q {merge:=mg [(1,2)]} func51 CK
def G17:=G51.q {merge:=mg [(2,32),(7,55),(10,2)]} func17 lL [ld [2,35,36] [1,34] [36] @CJ [(.exit 0,[36]),(.ret,[2,36])] [(3,.data G (.sl .loc ZE),Z')]]
def G75:=G17.q {} func75 lZ
def av5:=G75.q {mv:=[7]} func167 gF
def av0:=av5.q {mv:=[7]} func162 oE
def G76:=av0.q {mv:=[13,19]} func76 xJ [ld [3,8,9] [7] [3,9] @wW]
def G79:=G76.q {} func79 jU
def G77:=G79.q {} func77 oY
def av1:=G77.q {} func163 eO
def av2:=av1.q {} func164 C6
def axH:=av2.q {mv:=[13,25]} func267 Av [ld [3,8,9] [7] [3,9] @yT]
def av3:=axH.q {sb:=mg [(2,2)]} func165 xK
def axI:=av3.q {} func268 C7
def axJ:=axI.q {sb:=mg [(2,2)]} func269 Bd
def av6:=axJ.q {sb:=mg [(2,2)]} func168 wX
def av7:=av6.q {} func169 oF
def G80:=av7.q {mv:=[34,75],mb:=mg [(34,3)],sb:=mg [(39,3)]} func80 jM [ld [2,28,29] [1,27] [29,3] @yS [(.exit 0,[29,3])] [(3,.ptr 3 0,I Y1)]]
def G25:=G80.q {mv:=[32,39],mb:=mg [(32,3)],sb:=mg [(3,3),(37,3)]} func25 kY [ld [2,3,26,27] [25] [27,3] @yR]
def awu:=G25.q {merge:=mg [(1,9)]} func192 uE
def G97:=awu.q {} func97 Bc
def G30:=G97.q {mv:=[10,28]} func30 wo [ld [2,3,13,14] [] [14,3] @yB]
def av8:=G30.q {merge:=mg [(1,12),(3,31),(5,2)]} func170 Ic
def G81:=av8.q {merge:=mg [(1,4)]} func81 C5
def az3:=G81.q {merge:=mg [(2,17)],mv:=[18,29]} func415 GV
def az4:=az3.q {merge:=mg [(2,20)],mv:=[21,35,41]} func416 E0 [ld [1,4,6,26,27] [25] [27,6] @yx]
def ay2:=az4.q {mv:=[21,30,39,46],mb:=mg [(39,6)],sb:=mg [(4,4)]} func350 Ha
def axK:=ay2.q {mv:=[13,20,30,31,47],mb:=mg [(20,6),(47,6)],sb:=mg [(4,4)],fm:=[49]} func270 ur
def av9:=axK.q {mv:=[14,23,32,60],es:=mg [(25,8)]} func171 wV
def G82:=av9.q {merge:=mg [(2,24)],mv:=[25,26,34,47]} func82 uo
def axL:=G82.q {merge:=mg [(5,2),(7,2)]} func271 yA
def awa:=axL.q {merge:=mg [(2,24)],mv:=[25,74]} func172 sH [ld [2,4,6,7,8,9] [] [8,9] @rH,ld [2,4,6,7,8,10] [] [8,10] @qq [(.exit 2,[8,10])]]
def G83:=awa.q {merge:=mg [(2,18),(5,28)],mv:=[19,48],sb:=mg [(9,9)]} func83 CY [ld [2,3,8,9,10] [1] [10,9] @wR]
def G84:=G83.q {merge:=mg [(1,20)],mv:=[33,47]} func84 yO [ld [1,5,6,7] [] [6,7] @lE]
def ay5:=G84.q {merge:=mg [(1,2)]} func353 FU
def ay6:=ay5.q {} func354 dk
def axO:=ay6.q {} func274 pY
def axP:=axO.q {merge:=mg [(1,15)]} func275 jd
def ax8:=axP.q {merge:=mg [(1,11)]} func294 sQ
def az5:=ax8.q {merge:=mg [(4,29)]} func417 Ln
def az6:=az5.q {merge:=mg [(2,6)]} func418 Cd
def ay3:=az6.q {merge:=mg [(1,29),(11,55),(16,73)],mv:=[56,74]} func351 FY [ld [2,3,4,5,12,13,14] [0,7] [3,4,14] @xM [(.exit 0,[3,4,14]),(.ret,[3,4,12,13,14])]]
def ay4:=ay3.q {nest:=[33],mv:=[19,49]} func352 yP [ld [1,2,6,8] [] [1,2,8] @rP]
def axN:=ay4.q {mv:=[34,41,50,57],sb:=mg [(14,14)]} func273 M7 [ld [4,12,14,36,37] [] [4,37,14] @FX [(.exit 0,[4,37,14])] [(35,.data G (.sl .loc su),Z')]]
def aya:=axN.q {} func296 wk
def ay7:=aya.q {} func355 As
def axQ:=ay7.q {merge:=mg [(1,22)],mv:=[26,36,40,50],mb:=mg [(40,13),(50,13)],sb:=mg [(10,10),(11,11),(13,13)]} func276 CX
def awg:=axQ.q {merge:=mg [(2,34)],mv:=[35,37,53,65,76,78],mb:=mg [(35,14),(37,15),(65,20),(76,14),(78,15)],sb:=mg [(8,8),(10,10),(11,11),(12,12),(14,14),(15,15)]} func178 mx [ld [2,8,10,11,12,14,15,16,40,41] [0,9,39] [16,41,8,14] @sJ]
def azs:=awg.q {merge:=mg [(1,13)]} func378 ia
def aAc:=azs.q {merge:=mg [(1,2)]} func424 Ig
def aza:=aAc.q {merge:=mg [(4,33)],sb:=mg [(4,4)]} func358 Ar
def aAK:=aza.q {merge:=mg [(1,12)]} func459 GU
def aAF:=aAK.q {} func454 Ff [ld [0,3,4] [] [3,4] @yK]
def aAf:=aAF.q {} func427 mw
def aAg:=aAf.q {merge:=mg [(1,17)]} func428 iS
def aAG:=aAg.q {merge:=mg [(1,2)]} func455 SY
def aAi:=aAG.q {} func430 E7
def aze:=aAi.q {} func362 CH
def azb:=aze.q {merge:=mg [(2,22),(6,56)],sb:=mg [(5,5)]} func359 G1
def aAd:=azb.q {} func425 yQ
def aAe:=aAd.q {merge:=mg [(1,27)]} func426 wP
def aAh:=aAe.q {} func429 ix
def azd:=aAh.q {merge:=mg [(8,39)]} func361 mW
def azc:=azd.q {merge:=mg [(3,20),(9,44),(12,68)]} func360 wO
def axU:=azc.q {merge:=mg [(2,20)]} func280 lq
def azr:=axU.q {mv:=[41]} func377 vA [ld [1,2,8] [3] [1,8] @oU]
def ax7:=azr.q {} func293 uq [ld [14,31,32] [6] [14,32] @AQ [(.exit 0,[14,32])] [(30,.data G (.sl .loc su),Z')]]
def azw:=ax7.q {} func382 sV
def azy:=azw.q {} func384 Da
def azz:=azy.q {} func385 pA
def aye:=azz.q {merge:=mg [(7,46)],sb:=mg [(8,8),(9,9)]} func300 rM
def axt:=aye.q {} func253 kK [ld [3,4,8,9] [7] [9] @nI [(.exit 0,[9]),(.ret,[4,9])]]
def ayc:=axt.q {} func298 Cc
def ayf:=ayc.q {merge:=mg [(17,82)],mv:=[16,31,51,58,67,83,132],er:=mg [(115,5)]} func301 GW
def awt:=ayf.q {merge:=mg [(2,48)],mv:=[49,51,52,96,104,117,119,120],mb:=mg [(49,19),(51,20),(117,19),(119,20)],sb:=mg [(14,14),(15,15),(16,16),(19,19),(20,20)]} func191 CU [ld [2,6,10,14,15,16,19,20,21,22] [0] [21,22,10,20] @qv]
def G95:=awt.b {mv:=[8,49,51,52],sb:=mg [(55,0),(59,0)],fm:=[19,20],eb:=mg [(56,0),(57,0)]} func95 ov (t:=(kF (.own W) fC))
def axM:=G95.q {mv:=[24,29]} func272 CR [ld [2,6,8,9] [] [9,8] @AW]
def awb:=axM.q {mv:=[3,8]} func173 Lm
def awc:=awb.q {} func174 mN
def awd:=awc.q {} func175 xN
def awe:=awd.q {} func176 ue [ld [0,5,10,11] [] [5,11] @Db]
def awf:=awe.q {mv:=[10,24],mb:=mg [(24,5)],sb:=mg [(2,2),(3,3)]} func177 Es
def G85:=awf.q {mv:=[18,37,88,98,121,142],sb:=mg [(90,3)]} func85 xG [ld [2,3,21,22] [] [22,3] @wM,ld [2,3,31,32] [] [32,3] @uu [(.exit 2,[32,3])] [(30,.data G (.sl .loc VO),Z')],ld [2,3,54,55] [] [55,3] @oT [(.exit 4,[55,3])]]
def G86:=G85.q {} func86 sD
def awp:=G86.q {merge:=mg [(1,20)],sb:=mg [(9,9)]} func187 Au
def ax9:=awp.q {sb:=mg [(4,4)]} func295 vu
def az7:=ax9.q {merge:=mg [(1,24),(15,67)],mv:=[55,68],sb:=mg [(9,9)]} func419 C0 [ld [2,7,8,9,10,11,12] [0,5] [12,7] @qz [(.exit 0,[12,7]),(.ret,[8,10,12,7,9])]]
def aox:=az7.q {merge:=mg [(4,19)]} func433 E8 [ld [2,6,7] [0,5] [7] @yD [(.exit 0,[7]),(.ret,[2,7])]]
def aAS:JD:=ab4 [pd (.sl su),pI,pI] [(G,(.sl (.own W) D8))] [(G,(.sl .nil D8))] rfl λa=>lD a.1 a.2.1 a.2.2.1
def atM:An:={mask:=mk [(5,[0,2,7,30,31,32]),(13,[6,7,54,55,56])],merge:=mg [(1,25)],nils:=[6],mv:=[49,64]}
abbrev ab0:SD:=⟨ga (zsa su)::B::DI::bs 4 (ga (L5 86016 D8)::bs 22 (ga (zsa su)::DI::DI::bs 32 [])),zs 65 [],.none⟩
def aq3 (X:SD.D ab0)(K:zkk R):=nW (λa b=>ke 0 K ab0 ((z2 (w a (z2 (u b))) X.1),X.2)) X.1.1 X.1.2.1 (q3 X) (q4 X)
abbrev Vr:SD:=⟨bs 7 (ga (L5 86016 D8)::bs 46 (ga (.sl .loc D8)::DI::DI::bs 8 [])),zs 65 [],.none⟩
abbrev aht:SD:=⟨bs 6 (ga (.sl .nil D8)::ga (L5 86016 D8)::bs 46 (ga (.sl .loc D8)::DI::DI::bs 8 [])),zs 65 [],.none⟩
def alb (X:SD.D Vr)(K:zkk R):=mY (λa=>ke 2 K Vr ((z3 (u a) X.1),X.2)) (λa b=>kr K aht ((a,(X.1.1,(X.1.2.1,(X.1.2.2.1,(b,()))))),(),())) X.1.1 X.1.2.1 (q2 X)
def atf:Qn:=(Qn.nil.add 5 (mkl ab0 aq3 (λX=>(q2 X,q5 X)))).add 13 (mkl Vr alb q3)
theorem atE:LOk E aox.g atM atf (jh f369 0):=lk ab0 aq3 (λX=>(q2 X,q5 X)) λX x=>((z2 (w x.1 (z2 (u x.2))) X.1),X.2)
theorem ar6:LOk E aox.g atM atf (jh f369 1):=lk Vr alb q3 λX x=>((z3 (u x) X.1),X.2)
theorem aBo:zfo 369 aAS:=rC.ofAlt (api (Γ:=aox.g) (an:=atM) (Λ:=atf) (by rfl) (aox.s) func369 (by kernel_rfl) (ao (cF atE (cF ar6 nF)))) (λa=>by kernel_rfl)
def ate:=aox.add aBo
def atN:An:={mask:=mk [(5,[0,6,18,19,20]),(14,[0,2,3,4,5,6,9,10,11,51,52])],mv:=[24,65]}
abbrev ab1:SD:=⟨ga (zsa D8)::bs 5 (ga (L5 73728 su)::bs 11 (ga (zsa D8)::DI::DI::bs 47 [])),zs 68 [],.none⟩
def aq4 (X:SD.D ab1)(K:zkk R):=pC (λa b=>ke 0 K ab1 ((z1 (w a (z2 (u b))) X.1),X.2)) X.1.1 (q2 X) (q3 X)
abbrev Vs:SD:=⟨ga (zsa D8)::bs 5 (ga (L5 73728 su)::B::B::DI::DI::ga (L5 135168 D8)::bs 39 (DI::DI::bs 15 [])),zs 68 [],.none⟩
abbrev ahu:SD:=⟨ga (zsa D8)::B::ga (L5 24576 su)::DI::DI::DB::ga (L5 73728 su)::B::B::DI::DI::ga (L5 135168 D8)::bs 39 (DI::DI::bs 15 []),zs 68 [],.none⟩
def alc (X:SD.D Vs)(K:zkk R):=jT (λa=>ke 2 K Vs ((z6 (u a) X.1),X.2)) (λa b c d e=>kr K ahu ((X.1.1,(a,(b,(c,(d,(X.1.2.1,(X.1.2.2.1,(X.1.2.2.2.1,(X.1.2.2.2.2.1,(X.1.2.2.2.2.2.1,(e,()))))))))))),(),())) X.1.1 X.1.2.1 (q2 X) (q3 X) (q4 X) (q5 X)
def aub:Qn:=(Qn.nil.add 5 (mkl ab1 aq4 (λX=>(X.1.2.1,q4 X)))).add 14 (mkl Vs alc q6)
theorem atG:LOk E ate.g atN aub (jh f420 0):=lk ab1 aq4 (λX=>(X.1.2.1,q4 X)) λX x=>((z1 (w x.1 (z2 (u x.2))) X.1),X.2)
theorem ar7:LOk E ate.g atN aub (jh f420 1):=lk Vs alc q6 λX x=>((z6 (u x) X.1),X.2)
def az8:=ate.qk atN func420 [pd (.sl D8)] [(G,(.sl (.own W) su)),rI,rI,rB] (c1 uw) (cF atG (cF ar7 nF))
def az9:=az8.q {} func421 wJ [ld [2,8,9,10,19,20] [0,5,18] [10,20] @qt [(.exit 0,[10,20]),(.ret,[8,9,10,20])]]
def aAj:=az9.q {} func431 Fg
def azf:=aAj.q {} func363 EX
def azg:=azf.q {} func364 GZ
def axW:=azg.q {} func282 jK
def aAk:=axW.q {} func432 xQ
def azh:=aAk.q {} func365 qW
def aAa:=azh.q {merge:=mg [(3,38),(9,74),(12,84),(17,117)]} func422 E1
def axV:=aAa.q {merge:=mg [(1,2)]} func281 my
def ay9:=axV.q {} func357 C3
def ax0:=ay9.q {} func286 vq
def aAD:=ax0.q {mv:=[21,26]} func452 E4 [ld [3,10,11] [9] [3,11] @sL]
def aAE:=aAD.q {merge:=mg [(1,17),(4,30)],mv:=[83,87]} func453 Ll [ld [1,2,5,6,7] [] [6,7] @Fc]
def aAb:=aAE.q {} func423 AZ
def ay8:=aAb.q {merge:=mg [(1,28)],sb:=mg [(8,8)]} func356 wT
abbrev atq:SD:=⟨ga (zsa sr)::B::DI::B::B::.ptr 5 0::B::.ptr 7 0::.ptr 8 0::ga (L5 110592 .str)::DI::DI::ga (L5 147456 .str)::DI::DI::bs 30 [],zs 5 ((zsm (zsa .str))::Z'::(I Y0)::(I Y0)::zs 36 []),.none⟩
abbrev alI:SD:=⟨ga (zsa sr)::B::DI::B::B::.ptr 5 0::B::.ptr 7 0::.ptr 8 0::ga (L5 110592 .str)::DI::DI::ga (.sl .loc .str)::DI::DI::bs 30 [],zs 5 ((zsm (zsa .str))::Z'::(I Y0)::(I Y0)::zs 36 []),.none⟩
def axR:=ay8.q1 {mask:=mk [(3,[0,2,5,7,8,9,10,11,12,13,14])],mv:=[35,42]} func277 [pd (.sl sr),pf (.sl .str),pI,pf Mu] [(O,Y0),(G,(.sl (.own W) .str)),rI,rI] (c4 yN) atq (λX K=>rO (λa b c d e f g h=>kr K alI ((X.1.1,(X.1.2.1,(a,(b,(c,(d,(e,(f,())))))))),(X.2.1.1,(g,(h,()))),())) X.1.1 X.1.2.1 (q2 X) (q3 X) (q4 X) X.2.1.1 X.2.1.2.2.1) (λX=>(q5 X,q6 X,q7 X,X.2.1.2.1)) (λX x=>((z5 (w x.1 (w x.2.1 (u x.2.2.1))) X.1),(z1 (u x.2.2.2) X.2.1),X.2.2))
def axS:=axR.q {merge:=mg [(2,22)],mv:=[23,34,43,55,56]} func278 qo [ld [1,4,6,7,29,30] [2,28] [7,30,6] @mX]
def awh:=axS.q {mv:=[15,33,37,51,54,58]} func179 qu
def axT:=awh.q {merge:=mg [(2,17)]} func279 EZ
def awi:=axT.q {} func180 sP
def axX:=awi.q {merge:=mg [(1,15)]} func283 yH
def axY:=axX.q {merge:=mg [(1,24),(7,54)]} func284 sI
def axZ:=axY.q {merge:=mg [(19,60)],mv:=[37,61,66]} func285 qy [ld [1,7,8,33,34] [0] [8,34] @pD,ld [1,7,11,44,45] [0] [11,45] @jt [(.exit 2,[11,45])] [(43,.data G (.sl .loc (.int .i64)),Z')]]
def awj:=axZ.q {merge:=mg [(2,35),(7,73)],late:=[93],mv:=[36,81],er:=mg [(98,11)]} func181 Fb
def aws:=awj.q {} func190 EW
def G93:=aws.b {} func93 oW [ld [1,7] [] [7,0] @wU [(.exit 0,[7,0])] [(0,.ptr 0 0,I (sF 1 fC))] .ptr] (t:=(kF (.own W) fC))
def ax3:=G93.q {merge:=mg [(1,4)]} func289 GS
def aAH:=ax3.q {} func456 vC
def aAl:=aAH.q {merge:=mg [(1,4)]} func434 yE
def azl:=aAl.q {merge:=mg [(7,34)]} func371 E3 [ld [3,5,12,13] [0,11] [5,13] @yz]
def azm:=azl.q {} func372 E2
def aAo:=azm.q {} func437 FW
def aAp:=aAo.q {merge:=mg [(1,14)]} func438 CP [ld [0,1,5,6] [] [5,6] @wN]
def azt:=aAp.q {merge:=mg [(1,14)]} func379 CM [ld [0,1,5,6] [] [5,6] @wK]
def azu:=azt.q {} func380 CN
def ayb:=azu.q {} func297 Ap
def aAm:=ayb.q {merge:=mg [(2,17)]} func435 GX
def azn:=aAm.q {merge:=mg [(2,18)]} func373 yI
def ax4:=azn.q {merge:=mg [(1,17)]} func290 yJ
def azv:=ax4.q {merge:=mg [(1,2)]} func381 qp
def azx:=azv.q {merge:=mg [(1,12)]} func383 pB
def ayd:=azx.q {merge:=mg [(1,22)],mv:=[26,37,41,51],mb:=mg [(41,13),(51,13)],sb:=mg [(10,10),(11,11),(13,13)]} func299 ux
def awq:=ayd.v {merge:=mg [(3,50)],sb:=mg [(12,12),(13,13),(20,20)]} func188 Dd [(O,(.sl .arg .str)),(O,(.pair (.int .i64) (.pair (.int .i64) (.int .i64)))),(G,.bool)]
def G92:=awq.q {merge:=mg [(1,31)],mv:=[52,66],mb:=mg [(66,16)],sb:=mg [(10,10),(11,11)]} func92 sK
def aAn:=G92.q {} func436 Fa
def azo:=aAn.q {merge:=mg [(1,42),(4,76),(6,4)]} func374 CI
def azp:=azo.q {} func375 Oe
def azq:=azp.q {} func376 M6
def ax5:=azq.q {merge:=mg [(1,30),(3,44)],mv:=[53,68,77],mb:=mg [(77,16)],sb:=mg [(14,14),(15,15)]} func291 uz
def awo:=ax5.q {mv:=[14,34,46,62,69,90,103],sb:=mg [(92,5)]} func186 sN
def ax1:=awo.q {merge:=mg [(1,34)]} func287 yC
def awk:=ax1.q {merge:=mg [(2,24)],mv:=[25,26,57,76]} func182 vr [ld [5,6,7,8,10,39,40,41] [] [41,7] @oS]
def G87:=awk.q {merge:=mg [(2,29)],mv:=[30,31,75,85,94]} func87 wI [ld [1,4,5,6,63,64] [] [64,5] @mM [(.exit 0,[64,5])] [(62,.data G (.sl .loc .str),Z')]]
def G88:=G87.q {mv:=[13,15,32]} func88 yw
def awl:=G88.q {merge:=mg [(1,10)]} func183 wQ
def G89:=awl.q {mv:=[26]} func89 uD [ld [1,5,10,11] [] [5,11] @pE]
def awm:=G89.q {} func184 SZ
def G90:=awm.q {merge:=mg [(1,14)]} func90 wH
def G28:=G90.q {mv:=[10,17,35,49],sb:=mg [(37,3)]} func28 xF [ld [2,3,13,14] [1] [14,3] @wL]
def G94:=G28.q {merge:=mg [(1,11)]} func94 uC
def G96:=G94.q {} func96 FV
def G29:=G96.q {merge:=mg [(2,21)],mv:=[22,78]} func29 sO [ld [1,4,6,7,25,26] [] [7,26,6] @rL]
def azi:=G29.q {} func366 wY [ld [3,8,9] [7] [3,9] @qA]
def aro:=azi.q {merge:=mg [(2,20)],mv:=[21,28],mb:=mg [(28,7)],sb:=mg [(4,4)]} func367 yM
def aAR:JD:=ab4 [pd (.sl sr),pf (.sl .str),pI,pf TM,pd (.sl (.int .i64)),pd .str,pI] [(O,(.sl (.own W) .str)),(G,(.sl (.own W) su)),rB] [(O,(.sl .arg .str)),(G,(.sl (.own W) su)),rB] rfl λa=>sS a.1 a.2.1 a.2.2.1 a.2.2.2.1 a.2.2.2.2.1 a.2.2.2.2.2.1 a.2.2.2.2.2.2.1
def auM:An:={mask:=mk [(3,[0,2,5,6,8,10,14,15,16,17,24,25,26])],peel:=[3],mv:=[40,49,53,54,55,65,66],sb:=mg [(21,21)]}
abbrev abZ:SD:=⟨ga (zsa sr)::B::DI::B::B::ga .str::DI::B::.ptr 8 0::B::.ptr 10 0::B::B::B::.ptr 14 0::ga (L5 184320 su)::DB::ga (L5 208896 su)::bs 6 (ga (zsa (.int .i64))::DI::DI::bs 40 []),zs 8 ((zsm (L5 98305 .str))::Z'::(I Y3)::Z'::Z'::Z'::(zsm (L5 172033 .str))::zs 52 []),.none⟩
abbrev alK:SD:=⟨ga (zsa sr)::B::DI::B::B::ga .str::DI::B::.ptr 8 0::B::.ptr 10 0::B::B::B::.ptr 14 0::ga (L5 184320 su)::DB::ga (L5 208896 su)::bs 6 (ga (zsa (.int .i64))::DI::DI::bs 40 []),zs 8 ((zsm (.sl .loc .str))::Z'::(I Y3)::Z'::Z'::Z'::(zsm (L5 172033 .str))::zs 52 []),.none⟩
def aq2 (X:SD.D abZ)(K:zkk R):=nJ (λa b c d=>ke 0 K abZ ((z2 (w a (z3 (w b (z2 (u c))))) X.1),(u d X.2.1),X.2.2)) (λa b c d e f g=>kr K alK ((X.1.1,(X.1.2.1,(a,(X.1.2.2.2.1,(b,(c,(d,(X.1.2.2.2.2.2.2.2.1,(X.1.2.2.2.2.2.2.2.2.1,(e,())))))))))),(f,(X.2.1.2.1,(g,()))),())) X.1.1 X.1.2.1 (q3 X) (q4 X) (q5 X) (q7 X) (q8 X) X.2.1.2.1 X.2.1.2.2.1
def aua:Qn:=Qn.nil.add 3 (mkl abZ aq2 (λX=>(q2 X,q6 X,q9 X,X.2.1.1)))
theorem atD:LOk E aro.g auM aua (jh f368 0):=lk abZ aq2 (λX=>(q2 X,q6 X,q9 X,X.2.1.1)) λX x=>((z2 (w x.1 (z3 (w x.2.1 (z2 (u x.2.2.1))))) X.1),(u x.2.2.2 X.2.1),X.2.2)
theorem aBn:zfo 368 aAR:=rC.ofAlt (api (Γ:=aro.g) (an:=auM) (Λ:=aua) (by rfl) (aro.s) func368 (by kernel_rfl) (ao (cF atD nF))) (λa=>by kernel_rfl)
def azj:=aro.add aBn
def azk:=azj.q {mv:=[27,43],mb:=mg [(43,13)],sb:=mg [(10,10),(11,11),(13,13),(14,14)]} func370 nn [ld [2,8,10,11,12,13,14,22,23] [0,6,21] [23,13,14] @oV [(.exit 0,[23,13,14]),(.ret,[12,23,10,11,13,14])]]
def ax2:=azk.q {merge:=mg [(2,57),(6,92),(15,135)],mv:=[58,59,93,94,97,107,108,109,122,123,136,137,145,151,164,165,169,174,184,185],mb:=mg [(58,17),(59,18),(93,17),(94,18),(107,17),(108,18),(136,17),(137,18),(164,17),(165,18),(184,26),(185,22)],sb:=mg [(14,14),(15,15),(17,17),(18,18),(26,26)]} func288 Ba [ld [2,14,15,17,18,22,24,28,29,140,141] [0,10] [29,141] @jn [(.exit 0,[29,141])] [(26,.ptr 26 0,I (.sl .loc .str)),(139,.data G (.sl .loc D8),Z')]]
def awn:=ax2.q {mv:=[19,20,34,36,38]} func185 E6
def G91:=awn.q {merge:=mg [(1,15)],mv:=[22,34,35]} func91 Lk
def G26:=G91.q {merge:=mg [(2,23)],late:=[67],mv:=[24,114,115,125,131,133],sb:=mg [(4,4),(9,9),(49,6)]} func26 Jf [ld [4,6,52,53] [] [53,6] @vw [(.exit 1,[53,6])],ld [4,6,91,92] [] [92,6] @vx [(.exit 4,[92,6])]]
def G6:=G26.q {merge:=mg [(2,21)],mv:=[22,30,36,37,42,43]} func6 G3 [ld [4,6,7,25,26] [24] [7,26,6] @AY]
def G7:=G6.q {merge:=mg [(2,25)],mv:=[26,44,54,57]} func7 EY [ld [1,2,6,7,29,30] [] [30,7] @yv,ld [1,2,6,7,8,9,10,29,30] [] [10,9] @sE [(.exit 2,[10,9])]]
def G8:=G7.q {} func8 Rc
def aww:=G8.q {mv:=[27,40],mb:=mg [(27,3)],sb:=mg [(3,3),(39,3)]} func194 mI [ld [2,3,4] [1] [4,3] @Bw]
def G98:=aww.q {mv:=[34,82],mb:=mg [(34,3)],sb:=mg [(43,3)]} func98 kD [ld [2,4] [1] [4,3] @BA [(.exit 0,[4,3])] [(3,.ptr 3 0,I Y1)]]
def G31:=G98.q {mv:=[35,53,63],mb:=mg [(35,3),(53,3)],sb:=mg [(3,3),(44,3),(62,3)]} func31 mK [ld [2,3,4] [1] [4,3] @BC,ld [2,3,5] [1] [5,3] @BD [(.exit 2,[5,3])]]
def au0:=G31.q {merge:=mg [(7,51),(12,74)]} func100 oG [ld [4,5] [0,1] [5] @rX [(.exit 0,[5]),(.ret,[4,5])],ld [4,5,6,7] [0,1] [7] @qJ [(.exit 2,[7]),(.ret,[4,7])]]
def aw4:=au0.q {merge:=mg [(3,21)],mv:=[10,24]} func228 jW
def awF:=aw4.q {merge:=mg [(1,24),(9,50),(14,2)],mv:=[55]} func203 HL [ld [2,3,4,5] [1] [3,4,5] @DP [(.exit 0,[3,4,5]),(.ret,[2,3,4,5])]]
def ayl:=awF.q {merge:=mg [(1,2)]} func307 uW
def awI:=ayl.q {merge:=mg [(1,42),(5,2)]} func206 EK
def au3:=awI.q {merge:=mg [(2,64),(7,94)]} func103 kM [ld [2,3,4] [1] [4] @DD [(.exit 0,[4]),(.ret,[2,4])],ld [2,5,6] [] [6] @Bg [(.exit 2,[6]),(.ret,[2,6])]]
def awL:=au3.q {} func209 R4 [ld [4,5] [0,1] [5] @Mj [(.exit 0,[5]),(.ret,[4,5])]]
def au4:=awL.q {merge:=mg [(1,4)]} func104 vh
def G32:=au4.q {merge:=mg [(3,50),(8,99)]} func32 mR [ld [2,5,6] [1] [6] @Dw [(.exit 0,[6]),(.ret,[2,6])]]
def aw6:=G32.q {} func230 rl
def avl:=aw6.q {} func121 Bq
def G38:=avl.q {merge:=mg [(3,15)],mv:=[28]} func38 wv [ld [2,3,4] [1] [4,3] @tH]
def au5:=G38.q {merge:=mg [(1,12),(3,31),(5,2)]} func105 BS
def azY:=au5.q {merge:=mg [(3,23),(6,48)],mv:=[51],sb:=mg [(40,6)]} func410 Hg [ld [1,4,6,7] [2] [7] @vJ]
def azZ:=azY.q {merge:=mg [(2,19)],mv:=[20,38,47],mb:=mg [(38,6)],sb:=mg [(46,6)]} func411 Fp [ld [1,4,6,7] [2] [7,6] @ze]
def ayM:=azZ.q {mv:=[21,30,39,46],mb:=mg [(39,6)],sb:=mg [(4,4)]} func334 Bz
def aw7:=ayM.q {merge:=mg [(6,33)],mv:=[12,18,34,35,51],mb:=mg [(18,6),(51,6)],sb:=mg [(4,4)],fm:=[53]} func231 uR
def avo:=aw7.q {mv:=[21,29,36,40,48,78],sb:=mg [(10,10)]} func124 vV [ld [1,5,8,9] [0] [8,9] @vg]
def au6:=avo.q {merge:=mg [(2,26)],mv:=[27,28,36,49]} func106 uN
def ayn:=au6.q {merge:=mg [(4,2),(5,2)]} func309 zk
def awM:=ayn.q {merge:=mg [(2,26)],mv:=[27,47,82]} func210 tu [ld [2,4,6,7,8,9] [] [8,9] @rV]
def au7:=awM.q {merge:=mg [(2,21),(5,31)],mv:=[22,50],sb:=mg [(9,9)]} func107 DL [ld [2,3,8,9,10] [1] [10,9] @xo]
def au8:=au7.q {merge:=mg [(2,21)],mv:=[22,26,37,51]} func108 zL [ld [1,5,6,7] [] [5,7] @lH]
def ayH:=au8.q {} func329 vP [ld [1,2,8] [3] [1,2,8] @uX]
def aw2:=ayH.q {} func226 uP [ld [15,16] [6] [15,16] @Bf [(.exit 0,[15,16])] [(12,.data G (.sl .loc (.int .i64)),Z'),(13,.data G (.sl .loc (.int .i64)),Z')]]
def ayE:=aw2.q {merge:=mg [(1,12)]} func326 pG
def ayF:=ayE.q {} func327 AK
def aw0:=ayF.q {merge:=mg [(5,54)],sb:=mg [(8,8),(9,9)]} func224 sc
def aw3:=aw0.q {merge:=mg [(17,84)],mv:=[16,31,53,60,69,85,139]} func227 zd
def avj:=aw3.q {merge:=mg [(4,50),(14,102)],mv:=[54,55,106,114,128,130,131],mb:=mg [(54,20),(128,30),(130,20)],sb:=mg [(14,14),(15,15),(16,16)]} func119 tM [ld [2,6,10,14,15,16,19,20,21] [0,8] [19,21,10,20] @qN]
def au9:=avj.q {mv:=[17,25,43,45,46,48,58,60,71,144],mb:=mg [(71,3)],sb:=mg [(5,5),(6,6),(7,7),(81,3)]} func109 yf [ld [2,3,4] [1] [4,3] @xh,ld [2,3,10] [1] [10,3] @uS [(.exit 2,[10,3])],ld [2,3,11] [1] [11,3] @po [(.exit 4,[11,3])]]
def ava:=au9.q {} func110 tq
def aw8:=ava.q {mv:=[23,27]} func232 Fu [ld [3,4] [0] [3,4] @tD]
def aw9:=aw8.q {merge:=mg [(2,17),(5,31)],mv:=[18,32,87,91]} func233 LO [ld [1,2,5,6,7] [] [5,7] @FD]
def avq:=aw9.q {} func126 vQ
def awX:=avq.q {merge:=mg [(1,20)],sb:=mg [(9,9)]} func221 AG
def ayA:=awX.q {sb:=mg [(4,4)]} func322 vK
def aAr:=ayA.q {merge:=mg [(2,25),(7,50),(12,69)],mv:=[26,57,70],sb:=mg [(9,9)]} func440 DN [ld [2,7,8,9,10,11] [0,5] [11,7] @qR [(.exit 0,[11,7]),(.ret,[8,10,11,7,9])]]
def aAw:=aAr.q {merge:=mg [(4,24)]} func445 FA [ld [2,3] [0] [3] @zB [(.exit 0,[3]),(.ret,[2,3])]]
def azI:=aAw.q {merge:=mg [(2,33)],mv:=[63,67],sb:=mg [(9,9)]} func394 nL [ld [2,6,7,8] [0] [7,8] @og [(.exit 0,[7,8]),(.ret,[6,7,8])]]
def aAI:=azI.q {} func457 Hu [ld [4,5] [0,1] [5] @Bv [(.exit 0,[5]),(.ret,[4,5])]]
def aAs:=aAI.q {merge:=mg [(6,46)],mv:=[15,48]} func441 uU [ld [6,7] [0] [6,7] @pJ]
def aAt:=aAs.q {} func442 xf [ld [2,8,9,10,11] [0,3,5] [10,11] @qK [(.exit 0,[10,11]),(.ret,[8,9,10,11])]]
def aAv:=aAt.q {} func444 DR
def azF:=aAv.q {} func391 rk
def aAu:=azF.q {merge:=mg [(2,36),(7,61),(12,98)]} func443 Fq
def azE:=aAu.q {merge:=mg [(2,31),(6,55),(11,85)],mv:=[33,57,87],sb:=mg [(8,8)]} func390 xp
abbrev atr:SD:=⟨ga (zsa sr)::B::DI::B::B::.ptr 5 0::B::.ptr 7 0::.ptr 8 0::ga (L5 110592 .str)::DI::DI::ga (L5 147456 .str)::DI::DI::bs 29 [],zs 5 ((zsm (zsa .str))::Z'::(I Y0)::(I Y0)::zs 35 []),.none⟩
abbrev alJ:SD:=⟨ga (zsa sr)::B::DI::B::B::.ptr 5 0::B::.ptr 7 0::.ptr 8 0::ga (L5 110592 .str)::DI::DI::ga (.sl .loc .str)::DI::DI::bs 29 [],zs 5 ((zsm (zsa .str))::Z'::(I Y0)::(I Y0)::zs 35 []),.none⟩
def ayr:=azE.q1 {mask:=mk [(4,[0,2,5,7,8,9,10,11,12,13,14])],mv:=[31,35]} func313 [pd (.sl sr),pf (.sl .str),pI,pf Mu] [(O,Y0),(G,(.sl (.own W) .str)),rI,rI] (c4 zK) atr (λX K=>se (λa b c d e f g h=>kr K alJ ((X.1.1,(X.1.2.1,(a,(b,(c,(d,(e,(f,())))))))),(X.2.1.1,(g,(h,()))),())) X.1.1 X.1.2.1 (q2 X) (q3 X) (q4 X) X.2.1.1 X.2.1.2.2.1) (λX=>(q5 X,q6 X,q7 X,X.2.1.2.1)) (λX x=>((z5 (w x.1 (w x.2.1 (u x.2.2.1))) X.1),(z1 (u x.2.2.2) X.2.1),X.2.2))
def ays:=ayr.q {merge:=mg [(3,22)],mv:=[23,24,30,39,49,53,55,57,58],sb:=mg [(51,6)]} func314 qH [ld [1,4,6,7,8] [2] [7,8,6] @nh]
def awP:=ays.q {mv:=[15,33,37,51,54,58]} func213 qM
def axc:=awP.q {merge:=mg [(1,23),(6,61)]} func236 pj
def axb:=axc.q {merge:=mg [(14,62)],mv:=[19,63,67]} func235 nj [ld [1,5,7,8,9,10] [0] [9,10] @qQ,ld [1,5,7,8,9,11] [0] [7,11] @pL [(.exit 2,[7,11])]]
def ayt:=axb.q {merge:=mg [(1,15)]} func315 zF
def awQ:=ayt.q {merge:=mg [(2,37),(6,76)],mv:=[38,87,104]} func214 AH
def awZ:=awQ.q {} func223 Fj
def avh:=awZ.b {} func117 px [ld [1,6,7] [] [7,0] @xq [(.exit 0,[7,0])] [(0,.ptr 0 0,I (sF 1 fC))] .ptr] (t:=(kF (.own W) fC))
def ayv:=avh.q {merge:=mg [(1,4)]} func317 Dt
def aAJ:=ayv.q {merge:=mg [(1,4)]} func458 Gs
def aAx:=aAJ.q {merge:=mg [(1,4)]} func446 zC
def azK:=aAx.q {merge:=mg [(3,14),(5,39)]} func396 Ft [ld [3,5,6] [0] [5,6] @tA]
def azL:=azK.q {} func397 Fs
def aAA:=azL.q {} func449 Gc
def aAB:=aAA.q {merge:=mg [(1,14)]} func450 DE [ld [0,1,5,6] [] [5,6] @xj]
def azT:=aAB.q {merge:=mg [(1,14)]} func405 DA [ld [0,1,5,6] [] [5,6] @xg]
def azU:=azT.q {} func406 DC
def ayD:=azU.q {} func325 AF
def aAy:=ayD.q {merge:=mg [(2,17)]} func447 Hi
def azM:=aAy.q {merge:=mg [(2,18)]} func398 zH
def ayw:=azM.q {merge:=mg [(1,17)]} func318 tO
def azR:=ayw.q {merge:=mg [(1,2)]} func403 qI
def azS:=azR.q {merge:=mg [(1,12)]} func404 pH
def ayC:=azS.q {merge:=mg [(1,22)],mv:=[26,44,59],mb:=mg [(59,13)],sb:=mg [(10,10),(11,11),(13,13)]} func324 uV
def awY:=ayC.q {merge:=mg [(3,46)],mv:=[90],sb:=mg [(12,12),(13,13)]} func222 FH
def avg:=awY.q {merge:=mg [(1,30),(5,58)],mv:=[44,75],mb:=mg [(75,15)],sb:=mg [(10,10),(11,11)]} func116 tB
def aAz:=avg.q {} func448 FC
def azN:=aAz.q {merge:=mg [(1,41),(4,84),(6,4)]} func399 Dv
def azO:=azN.q {} func400 OA
def azP:=azO.q {} func401 Nz
def ayx:=azP.q {merge:=mg [(1,29),(3,43)],mv:=[52,67,76],mb:=mg [(76,16)],sb:=mg [(14,14),(15,15)]} func319 uY
def awW:=ayx.q {mv:=[16,36,48,64,71,89,91,107],sb:=mg [(9,9),(10,10)]} func220 tF
def axd:=awW.q {merge:=mg [(1,34)]} func237 tI
def awS:=axd.b {mv:=[13,56]} func216 ym [ld [5,6,8,9,10] [] [10,0] @qS [(.exit 0,[10,0])] [(0,.ptr 0 0,I (sF 1 xz))] .ptr] (t:=(kF (.own W) xz))
def awR:=awS.q {merge:=mg [(2,15)],mv:=[19]} func215 Be
def avb:=awR.q {merge:=mg [(2,31)],mv:=[32,80,90,98]} func111 xc [ld [1,4,5,7,10] [] [10,5] @mS [(.exit 0,[10,5])] [(8,.data G (.sl .loc ZE),Z')]]
def avc:=avb.q {mv:=[13,15,31]} func112 zb
def awT:=avc.q {merge:=mg [(1,12)]} func217 xn
def avd:=awT.q {mv:=[27]} func113 pt [ld [1,5,6] [] [5,6] @pM]
def awU:=avd.q {} func218 Hv
def ave:=awU.q {merge:=mg [(1,14)]} func114 xb
def G36:=ave.q {merge:=mg [(3,17)],mv:=[20,35,37,53],sb:=mg [(5,5),(6,6)]} func36 ye [ld [2,3,4] [1] [4,3] @qL]
def avi:=G36.q {merge:=mg [(1,11)]} func118 vc
def avk:=avi.q {} func120 Gb
def G37:=avk.q {merge:=mg [(3,25)],mv:=[26,66,85,87,88,90,100,102,124],sb:=mg [(11,11),(12,12),(13,13)]} func37 tG [ld [1,4,6,7,8] [2] [7,8,6] @rZ]
def azG:=G37.q {merge:=mg [(2,21)],mv:=[22,37,38]} func392 zJ
def azH:=azG.q {} func393 FG [ld [3,4] [1] [3,4] @zP]
def azJ:=azH.q {mv:=[26,36,44],mb:=mg [(44,13)],sb:=mg [(10,10),(11,11),(13,13),(14,14)]} func395 Bm [ld [2,8,10,11,12,13,14,15] [0,4,6] [15,13,14] @pq [(.exit 0,[15,13,14]),(.ret,[12,15,10,11,13,14])]]
def ayu:=azJ.q {merge:=mg [(2,58),(6,102),(27,194)],mv:=[70,134,149,150,169,177,203,206,211,221,222],mb:=mg [(221,22),(222,33)],sb:=mg [(14,14),(15,15)]} func316 Bo [ld [2,5,6,14,15,16,17,19,20,21,22,23,24] [0,8,10] [23,24,22] @nM [(.exit 0,[23,24,22]),(.ret,[16,23,24,14,15,22])],ld [2,14,15,19,20,21,22,29,30,31] [0,8,10] [29,31] @nN [(.exit 2,[29,31])]]
def awV:=ayu.q {mv:=[19,20,34,36,38]} func219 Fw
def avf:=awV.q {merge:=mg [(1,17)],mv:=[24,36,37,58,65]} func115 LN
def G33:=avf.q {merge:=mg [(2,48)],late:=[97],mv:=[49,54,63,150,151,161,167,169],sb:=mg [(4,4),(11,11),(79,6)]} func33 Jx [ld [4,6,9] [2] [9,6] @qb [(.exit 1,[9,6])],ld [4,6,10] [2] [10,6] @qc [(.exit 3,[10,6])]]
def G9:=G33.q {merge:=mg [(3,21)],mv:=[22,23,30,37,39,40,44,45],sb:=mg [(9,9)]} func9 Hm [ld [4,6,7,8] [1] [7,8,6] @Bn]
def G34:=G9.q {} func34 zn [ld [3,4] [1] [3,4] @rY]
def G10:=G34.q {} func10 za [ld [3,4] [1] [3,4] @rU]
def G11:=G10.q {merge:=mg [(2,27)],mv:=[28,47,54,58,60]} func11 Fm [ld [1,2,6,7,8] [3] [8,7] @yZ,ld [1,2,6,7,8,9,10] [3] [10,9] @tr [(.exit 2,[10,9])]]
def avm:=G11.q {sb:=mg [(2,2)]} func122 DU
def G39:=avm.q {mv:=[24,42,61,71],mb:=mg [(24,3),(42,3),(61,3)],sb:=mg [(3,3),(33,3),(52,3),(70,3)]} func39 zS [ld [2,3,4] [1] [4,3] @BE,ld [2,3,5] [1] [5,3] @BF [(.exit 2,[5,3])],ld [2,3,6] [1] [6,3] @zT [(.exit 4,[6,3])]]
def avn:=G39.q {merge:=mg [(1,2)]} func123 Ga
def G40:=avn.q {merge:=mg [(3,45),(8,94)]} func40 zu [ld [2,5,6] [1] [6] @Bi [(.exit 0,[6]),(.ret,[2,6])]]
def axe:=G40.q {merge:=mg [(3,35)],mv:=[41]} func238 zE
def avs:=axe.b {mv:=[13,56]} func128 tW [ld [5,6,8,9,10] [] [10,0] @qT [(.exit 0,[10,0])] [(0,.ptr 0 0,I (sF 1 iZ))] .ptr] (t:=(kF (.own W) iZ))
def axa:=avs.q {merge:=mg [(2,15)],mv:=[19]} func234 zv
def avr:=axa.b {mv:=[19,49,58,59,62],sb:=mg [(74,0)]} func127 zU [ld [1,4,7] [] [7,0] @nO [(.exit 0,[7,0])] [(0,.ptr 0 0,I (sF 1 iZ)),(5,.data G (.sl .loc ZE),Z')] .ptr] (t:=(kF (.own W) iZ))
def G41:=avr.q {merge:=mg [(3,49)],mv:=[50,54,63,76,92,107,147],sb:=mg [(100,7)],eb:=mg [(106,7)]} func41 Hh [ld [6,7,11] [] [11,7] @tw]
def G12:=G41.q {merge:=mg [(2,25)],mv:=[26,43],sb:=mg [(7,7)]} func12 FB [ld [6,7,8] [1,2] [8,7] @zD]
def G42:=G12.q {sb:=mg [(2,2)]} func42 Jy
def G13:=G42.q {mv:=[26,37,43,53],mb:=mg [(26,3),(43,3)],sb:=mg [(3,3),(35,3),(52,3)]} func13 Hj [ld [2,3,4] [1] [4,3] @Bh]
def G14:=G13.q {} func14 Ay [ld [4,5] [0,1] [5] @Eu [(.exit 0,[5]),(.ret,[4,5])]]
def G44:=G14.q {} func44 Kn [ld [3,8,9] [7] [3,9] @GC]
def G15:=G44.q {} func15 Ep [ld [3,8,9] [7] [3,9] @GB]
def G16:=G15.q {} func16 xR [ld [4,5] [0,1] [5] @Df [(.exit 0,[5]),(.ret,[4,5])]]
def avK:=G16.q {merge:=mg [(1,2)]} func146 Jh
def G52:=avK.q {merge:=mg [(3,39),(8,62),(11,2)]} func52 GY [ld [2,42,43] [1,41] [43] @AU [(.exit 0,[43]),(.ret,[2,43])] [(3,.data G (.sl .loc ZE),Z')]]
def avL:=G52.q {} func147 Pu.kB [ld [4,12,13] [0,1] [13] @Pu.jE [(.exit 0,[13]),(.ret,[4,13])]]
def G53:=avL.q {} func53 BO
def avM:=G53.q {merge:=mg [(2,6)]} func148 xO
def G54:=avM.q {} func54 E9 [ld [4,10,11] [0,1,9] [11] @yF [(.exit 0,[11]),(.ret,[4,11])],ld [4,23,24] [0,1,22] [24] @yG [(.exit 2,[24]),(.ret,[4,24])]]
def G18:=G54.q {merge:=mg [(1,33)]} func18 CZ [ld [4,36,37] [2,3,35] [37] @wS [(.exit 0,[37]),(.ret,[4,37])],ld [4,52,53] [3,51] [53] @uA [(.exit 2,[53]),(.ret,[4,53])]]
abbrev LD:Z PS:=[pd (.sl (.int .u8))]
def QE:JD:=ZT LD [rB] (c1 P6)
def Rk:An:={mask:=mk [(12,[2,7,10,11,12])],merge:=mg [(9,85),(14,168),(16,2)],sb:=mg [(7,7)]}
abbrev vj:SD:=⟨B::B::DB::bs 4 (.ptr 7 0::B::B::DI::.ptr 11 0::DI::bs 167 []),zs 7 ((zsm (OM (L5 86017 fC) (OM (L5 86020 lW) (OM (L5 86023 J8) (OM (L5 86026 .str) (OM Y0 (OM (L5 86041 (.int .i64)) (L5 86044 .str))))))))::Z'::Z'::Z'::(zsm (OM (L5 135169 Mv) (OM (L5 135172 (.sl .str)) (OM (L5 135175 lW) (OM (L5 135178 J8) (L5 135181 .str))))))::zs 168 []),.none⟩
def Ml (X:SD.D vj)(K:zkk R):=Ij (λa=>ke 0 K vj ((z2 (u a) X.1),X.2)) (λa b=>kr K vj ((w a (z1 (u b)) X.1),X.2)) X.1.1 X.1.2.1 X.2.1.1 X.2.1.2.1
def Qm:Qn:=Qn.nil.add 12 (mkl vj Ml q2)
theorem U4:LOk E G18.g Rk Qm (jh f3 0):=lk vj Ml q2 λX x=>((z2 (u x) X.1),X.2)
theorem acL:zfo 3 QE:=fk Rk G18.s func3 (Λ:=Qm) (cF U4 nF)
end
end Go.Proofs.YtehfjiddofkdnaaGreat.Fn
