import Derived.Test.YthjhpjjgcfedbaaGreatDnSig
import Derived.Test.YthjhpjjgcfedbaaGreatPure
import Derived.Test.YthjhpjjgcfedbaaGreatRows
/- Each function of the program is its pure function (made by gen.py). -/
namespace Go.Proofs.YthjhpjjgcfedbaaGreat.Fn
open Go.Dn
open Go.Pu (cB rD kq mH qA gI ca Fs fS fT lF eN ij Ij dR oq gJ bF rY rX pe tr Kc NW Hj)
set_option maxRecDepth 100000
set_option linter.unusedVariables false
noncomputable section
abbrev B:PD:=.bot
abbrev DI:PD:=.data false (.int .i64)
abbrev DB:PD:=.data false .bool
abbrev Z:Option FT:=none
theorem nF {p:Code→Prop}:∀x∈([]:List Code),p x:=λ_ h=>nomatch h
theorem cF {p:Code→Prop}{a:Code}{l:List Code}(h:p a)(t:∀x∈l,p x):∀x∈a::l,p x:=List.forall_mem_cons.2 ⟨h,t⟩
theorem hF {p:Code→Prop}{l m:List Code}(e:l=m)(h:∀x∈m,p x):∀x∈l,p x:=e▸h
theorem fk {P:Program}{E:Env}{Γ:cD}{s:List PS}{rs:List (Bool×FT)}{F:rR s→Option (fG rs)}{f:Nat}{fn:Func}(an:An)(hS:Sound P E Γ)(hf:P.funcs[f]?=some fn){Λ:cY}{l:List Code}(h:∀c∈l,g7 E Γ an Λ c)(hn:(fn.name== "runtime.NumGoroutine")=false:=by kernel_rfl)(hl:eF (fn.body.getD .skip)=l:=by kernel_rfl)(hcut:an.cut=[]:=by kernel_rfl)(hF:∀a,xU E Γ an Λ fn rs (fK s a)=F a:=by intro a;kernel_rfl):aP P f (aN s rs F):=aP.of (Pb hS hf hn (qz.of (Fn.hF hl h) hcut)) hF
theorem ao {E:Env}{Γ:cD}{an:An}{Λ:cY}{b:Code}{l:List Code}(h:∀c∈l,g7 E Γ an Λ c)(hl:eF b=l:=by kernel_rfl)(hc:an.cut=[]:=by kernel_rfl):qz E Γ an Λ b:=qz.of (Fn.hF hl h) hc
theorem ac {E:Env}{Γ:cD}{an:An}{Λ:cY}{b:Code}{l m:List Code}(h:∀c∈l,g7 E Γ an Λ c)(hc:∀c∈m,Fk E Γ an Λ c)(hl:eF b=l:=by kernel_rfl)(hm:fE an.cut b=m:=by kernel_rfl):qz E Γ an Λ b:=⟨Fn.hF hl h,Fn.hF hm hc⟩
theorem fc {P:Program}{E:Env}{Γ:cD}{s:List PS}{rs:List (Bool×FT)}{F:rR s→Option (fG rs)}{f:Nat}{fn:Func}(an:An)(hS:Sound P E Γ)(hf:P.funcs[f]?=some fn){Λ:cY}{l m:List Code}(h:∀c∈l,g7 E Γ an Λ c)(hc:∀c∈m,Fk E Γ an Λ c)(hn:(fn.name== "runtime.NumGoroutine")=false:=by kernel_rfl)(hl:eF (fn.body.getD .skip)=l:=by kernel_rfl)(hm:fE an.cut (fn.body.getD .skip)=m:=by kernel_rfl)(hF:∀a,xU E Γ an Λ fn rs (fK s a)=F a:=by intro a;kernel_rfl):aP P f (aN s rs F):=aP.of (Pb hS hf hn ⟨Fn.hF hl h,Fn.hF hm hc⟩) hF
abbrev pd (t:CT):PS:=.data false t
abbrev pf (t:CT):PS:=.data true t
abbrev pI:PS:=.data false (.int .i64)
abbrev rB:Bool×FT:=(false,.bool)
abbrev rI:Bool×FT:=(false,.int .i64)
abbrev rS:Bool×FT:=(false,.str)
abbrev bs:Nat→List PD→List PD|0,l=>l|n+1,l=> .bot::bs n l
abbrev zs:Nat→List (Option FT)→List (Option FT)|0,l=>l|n+1,l=>none::zs n l
def mk (l:List (Nat×List Nat))(n:Nat):List Nat:=(l.lookup n).getD []
def mg (l:List (Nat×Nat))(n:Nat):Option Nat:=l.lookup n
def ke {R:Type}(n:Nat)(K:Ex→AS→Option R)(d:SD)(x:SD.D d):Option R:=K (.exit n) (SD.enc d x)
def kn {R:Type}(K:Ex→AS→Option R)(d:SD)(x:SD.D d):Option R:=K .normal (SD.enc d x)
def kr {R:Type}(K:Ex→AS→Option R)(d:SD)(x:SD.D d):Option R:=K .ret (SD.enc d x)
def iO {σ:Type}(d:SD)(t:{R:Type}→SD.D d→(Ex→AS→Option R)→(σ→Option R)→σ→Option R)(i:SD.D d→σ):cA:=⟨d,λX K=>aZ (t X K) fuel (i X)⟩
theorem lk {E:Env}{Γ:cD}{an:An}{Λ:cY}{c:Code}{σ:Type}(d:SD)(t:{R:Type}→SD.D d→(Ex→AS→Option R)→(σ→Option R)→σ→Option R)(i:SD.D d→σ)(w:SD.D d→σ→SD.D d)(h1:Λ (db c)=iO d t i:=by kernel_rfl)(h:∀(R:Type)(X:SD.D d)(K:Ex→AS→Option R)(m:Nat)(x:σ),rN (an.mask (db c)) (den E Γ an Λ c) (m+1) (SD.enc d (w X x)) K=t X K (λy=>rN (an.mask (db c)) (den E Γ an Λ c) m (SD.enc d (w X y)) K) x:=by intro R X K m x;kernel_rfl)(hw:∀X,w X (i X)=X:=by intro X;kernel_rfl):g7 E Γ an Λ c:=lok (iO d t i) h1 fuel λR X K=>(AF (λx=>SD.enc d (w X x)) (t X K) (h R X K) fuel (i X)).symm.trans (congrArg (λy=>rN (an.mask (db c)) (den E Γ an Λ c) fuel (SD.enc d y) K) (hw X))
def I5 (d:SD)(t:{R:Type}→SD.D d→(Ex→AS→Option R)→Option R):cA:=⟨d,λX K=>t X K⟩
theorem ck {E:Env}{Γ:cD}{an:An}{Λ:cY}{c:Code}(d:SD)(t:{R:Type}→SD.D d→(Ex→AS→Option R)→Option R)(h1:Λ (se c)=I5 d t:=by kernel_rfl)(h:∀(R:Type)(X:SD.D d)(K:Ex→AS→Option R),t X K=den E Γ an Λ c (SD.enc d X) (λe st'=>K e (st'.mask (an.mask (se c+1)))):=by intro R X K;kernel_rfl):Fk E Γ an Λ c:=cok (I5 d t) h1 h
def u {A B:Type}(y:A)(x:A×B):A×B:=(y,x.2)
def w {A B:Type}(y:A)(f:B→B)(x:A×B):A×B:=(y,f x.2)
def z1 {A0 B:Type}(f:B→B)(x:A0×B):A0×B:=(x.1,f x.2)
def z2 {A0 A1 B:Type}(f:B→B)(x:A0×A1×B):A0×A1×B:=(x.1,x.2.1,f x.2.2)
def z3 {A0 A1 A2 B:Type}(f:B→B)(x:A0×A1×A2×B):A0×A1×A2×B:=(x.1,x.2.1,x.2.2.1,f x.2.2.2)
def z4 {A0 A1 A2 A3 B:Type}(f:B→B)(x:A0×A1×A2×A3×B):A0×A1×A2×A3×B:=(x.1,x.2.1,x.2.2.1,x.2.2.2.1,f x.2.2.2.2)
def z5 {A0 A1 A2 A3 A4 B:Type}(f:B→B)(x:A0×A1×A2×A3×A4×B):A0×A1×A2×A3×A4×B:=(x.1,x.2.1,x.2.2.1,x.2.2.2.1,x.2.2.2.2.1,f x.2.2.2.2.2)
def z6 {A0 A1 A2 A3 A4 A5 B:Type}(f:B→B)(x:A0×A1×A2×A3×A4×A5×B):A0×A1×A2×A3×A4×A5×B:=(x.1,x.2.1,x.2.2.1,x.2.2.2.1,x.2.2.2.2.1,x.2.2.2.2.2.1,f x.2.2.2.2.2.2)
def z7 {A0 A1 A2 A3 A4 A5 A6 B:Type}(f:B→B)(x:A0×A1×A2×A3×A4×A5×A6×B):A0×A1×A2×A3×A4×A5×A6×B:=(x.1,x.2.1,x.2.2.1,x.2.2.2.1,x.2.2.2.2.1,x.2.2.2.2.2.1,x.2.2.2.2.2.2.1,f x.2.2.2.2.2.2.2)
def q2 {A0 A1 A2 B C:Type}(x:(A0×A1×A2×B)×C):A2:=x.1.2.2.1
def q3 {A0 A1 A2 A3 B C:Type}(x:(A0×A1×A2×A3×B)×C):A3:=x.1.2.2.2.1
def q4 {A0 A1 A2 A3 A4 B C:Type}(x:(A0×A1×A2×A3×A4×B)×C):A4:=x.1.2.2.2.2.1
def q5 {A0 A1 A2 A3 A4 A5 B C:Type}(x:(A0×A1×A2×A3×A4×A5×B)×C):A5:=x.1.2.2.2.2.2.1
def q6 {A0 A1 A2 A3 A4 A5 A6 B C:Type}(x:(A0×A1×A2×A3×A4×A5×A6×B)×C):A6:=x.1.2.2.2.2.2.2.1
def q7 {A0 A1 A2 A3 A4 A5 A6 A7 B C:Type}(x:(A0×A1×A2×A3×A4×A5×A6×A7×B)×C):A7:=x.1.2.2.2.2.2.2.2.1
def q8 {A0 A1 A2 A3 A4 A5 A6 A7 A8 B C:Type}(x:(A0×A1×A2×A3×A4×A5×A6×A7×A8×B)×C):A8:=x.1.2.2.2.2.2.2.2.2.1
def q9 {A0 A1 A2 A3 A4 A5 A6 A7 A8 A9 B C:Type}(x:(A0×A1×A2×A3×A4×A5×A6×A7×A8×A9×B)×C):A9:=x.1.2.2.2.2.2.2.2.2.2.1
def c1 {A0 B R:Type}(f:A0→R)(a:A0×B):R:=f a.1
def c2 {A0 A1 B R:Type}(f:A0→A1→R)(a:A0×A1×B):R:=f a.1 a.2.1
def c3 {A0 A1 A2 B R:Type}(f:A0→A1→A2→R)(a:A0×A1×A2×B):R:=f a.1 a.2.1 a.2.2.1
def c4 {A0 A1 A2 A3 B R:Type}(f:A0→A1→A2→A3→R)(a:A0×A1×A2×A3×B):R:=f a.1 a.2.1 a.2.2.1 a.2.2.2.1
def c5 {A0 A1 A2 A3 A4 B R:Type}(f:A0→A1→A2→A3→A4→R)(a:A0×A1×A2×A3×A4×B):R:=f a.1 a.2.1 a.2.2.1 a.2.2.2.1 a.2.2.2.2.1
def c6 {A0 A1 A2 A3 A4 A5 B R:Type}(f:A0→A1→A2→A3→A4→A5→R)(a:A0×A1×A2×A3×A4×A5×B):R:=f a.1 a.2.1 a.2.2.1 a.2.2.2.1 a.2.2.2.2.1 a.2.2.2.2.2.1
theorem f0 {P:Program}{E:Env}{Γ:cD}{s:List PS}{rs:List (Bool×FT)}{F:rR s→Option (fG rs)}{f:Nat}{fn:Func}(an:An)(hS:Sound P E Γ)(hf:P.funcs[f]?=some fn)(hn:(fn.name== "runtime.NumGoroutine")=false:=by kernel_rfl)(hl:eF (fn.body.getD .skip)=[]:=by kernel_rfl)(hcut:an.cut=[]:=by rfl)(hF:∀a,xU E Γ an cY.nil fn rs (fK s a)=F a:=by intro a;kernel_rfl):aP P f (aN s rs F):=aP.of (Pb hS hf hn (qz.of (Fn.hF hl nF) hcut)) hF
abbrev Y9:FT:=.pair (.int .i64) (.pair (.int .i64) (.pair (.int .i64) (.pair (.int .i64) .str)))
abbrev Ra:FT:=.pair (.int .i64) (.pair (.int .i64) Y9)
abbrev Y0:FT:=.pair (.int .i64) (.pair (.int .i64) (.pair (.int .i64) (.pair (.int .i64) (.pair (.int .i64) (.pair (.int .i64) (.pair (.int .i64) (.pair (.int .i64) (.pair (.int .i64) Ra))))))))
abbrev Y1:FT:=.pair (.int .i64) (.pair (.int .i64) (.pair (.int .i64) (.int .i64)))
abbrev OT:FT:=.pair (.int .i64) (.pair (.int .i64) (.pair (.int .i64) (.sl (.own none) (.int .i64))))
abbrev RQ:FT:=.pair (.int .i64) (.pair .bool (.sl (.own none) (.int .i64)))
abbrev RP:FT:=.pair (.sl (.own none) eN) (.pair (.sl (.own none) dR) (.pair .str (.sl (.own none) (.int .i64))))
abbrev Y2:FT:=.pair (.sl (.own none) .str) (.pair (.sl (.own none) cB) (.pair (.pair Y1 (.pair OT (.pair (.sl (.own none) mH) (.int .i64)))) (.pair (.sl (.own none) fS) (.pair (.sl (.own none) kq) (.pair (.sl (.own none) fT) (.pair (.sl (.own none) .bool) (.pair RQ (.pair RP (.pair (.sl (.own none) bF) (.pair .bool (.pair (.sl (.own none) .str) (.pair (.sl (.own none) (.int .i64)) (.pair (.sl (.own none) (.int .i64)) (.pair (.int .i64) Y1))))))))))))))
abbrev Y3:FT:=.pair (.sl .arg0 (.int .u8)) (.pair (.int .i64) (.int .i64))
abbrev Y4:FT:=.pair (.sl (.own (some 196609)) .str) (.pair (.sl (.own (some 196612)) cB) (.pair (.pair Y1 (.pair (.pair (.int .i64) (.pair (.int .i64) (.pair (.int .i64) (.sl (.own (some 196636)) (.int .i64))))) (.pair (.sl (.own (some 196639)) mH) (.int .i64)))) (.pair (.sl (.own (some 196645)) fS) (.pair (.sl (.own (some 196648)) kq) (.pair (.sl (.own (some 196651)) fT) (.pair (.sl (.own (some 196654)) .bool) (.pair (.pair (.int .i64) (.pair .bool (.sl (.own (some 196663)) (.int .i64)))) (.pair (.pair (.sl (.own (some 196666)) eN) (.pair (.sl (.own (some 196669)) dR) (.pair .str (.sl (.own (some 196675)) (.int .i64))))) (.pair (.sl (.own (some 196678)) bF) (.pair .bool (.pair (.sl (.own (some 196684)) .str) (.pair (.sl (.own (some 196687)) (.int .i64)) (.pair (.sl (.own (some 196690)) (.int .i64)) (.pair (.int .i64) Y1))))))))))))))
abbrev Y5:FT:=.pair (.sl (.own (some 147457)) .str) (.pair (.sl (.own (some 147460)) cB) (.pair (.pair Y1 (.pair (.pair (.int .i64) (.pair (.int .i64) (.pair (.int .i64) (.sl (.own (some 147484)) (.int .i64))))) (.pair (.sl (.own (some 147487)) mH) (.int .i64)))) (.pair (.sl (.own (some 147493)) fS) (.pair (.sl (.own (some 147496)) kq) (.pair (.sl (.own (some 147499)) fT) (.pair (.sl (.own (some 147502)) .bool) (.pair (.pair (.int .i64) (.pair .bool (.sl (.own (some 147511)) (.int .i64)))) (.pair (.pair (.sl (.own (some 147514)) eN) (.pair (.sl (.own (some 147517)) dR) (.pair .str (.sl (.own (some 147523)) (.int .i64))))) (.pair (.sl (.own (some 147526)) bF) (.pair .bool (.pair (.sl (.own (some 147532)) .str) (.pair (.sl (.own (some 147535)) (.int .i64)) (.pair (.sl (.own (some 147538)) (.int .i64)) (.pair (.int .i64) Y1))))))))))))))
abbrev Y6:FT:=.pair (.sl (.own (some 24577)) .str) (.pair (.sl (.own (some 24580)) cB) (.pair (.pair Y1 (.pair (.pair (.int .i64) (.pair (.int .i64) (.pair (.int .i64) (.sl (.own (some 24604)) (.int .i64))))) (.pair (.sl (.own (some 24607)) mH) (.int .i64)))) (.pair (.sl (.own (some 24613)) fS) (.pair (.sl (.own (some 24616)) kq) (.pair (.sl (.own (some 24619)) fT) (.pair (.sl (.own (some 24622)) .bool) (.pair (.pair (.int .i64) (.pair .bool (.sl (.own (some 24631)) (.int .i64)))) (.pair (.pair (.sl (.own (some 24634)) eN) (.pair (.sl (.own (some 24637)) dR) (.pair .str (.sl (.own (some 24643)) (.int .i64))))) (.pair (.sl (.own (some 24646)) bF) (.pair .bool (.pair (.sl (.own (some 24652)) .str) (.pair (.sl (.own (some 24655)) (.int .i64)) (.pair (.sl (.own (some 24658)) (.int .i64)) (.pair (.int .i64) Y1))))))))))))))
abbrev RO:FT:=.pair (.int .i64) (.pair (.int .i64) (.pair (.int .i64) (.sl .arg (.int .i64))))
abbrev U2:FT:=.pair (.sl .arg eN) (.pair (.sl .arg dR) (.pair .str (.sl .arg (.int .i64))))
abbrev Y7:FT:=.pair (.sl .arg .str) (.pair (.sl .arg cB) (.pair (.pair Y1 (.pair RO (.pair (.sl .arg mH) (.int .i64)))) (.pair (.sl .arg fS) (.pair (.sl .arg kq) (.pair (.sl .arg fT) (.pair (.sl .arg .bool) (.pair (.pair (.int .i64) (.pair .bool (.sl .arg (.int .i64)))) (.pair U2 (.pair (.sl .arg bF) (.pair .bool (.pair (.sl .arg .str) (.pair (.sl .arg (.int .i64)) (.pair (.sl .arg (.int .i64)) (.pair (.int .i64) Y1))))))))))))))
abbrev Y8:FT:=.pair RQ (.pair RP (.pair (.int .i64) (.pair (.sl (.own none) bF) (.sl (.own none) .str))))
abbrev Ve:FT:=.pair (.sl (.own (some 49153)) eN) (.pair (.sl (.own (some 49156)) dR) (.pair .str (.sl (.own (some 49162)) (.int .i64))))
abbrev Vf:FT:=.pair (.int .i64) (.pair (.int .i64) (.pair (.int .i64) (.pair (.int .i64) (.pair .bool .bool))))
abbrev YS:FT:=.pair (.sl (.own (some 24577)) eN) (.pair (.sl (.own (some 24580)) dR) (.pair .str (.sl (.own (some 24586)) (.int .i64))))
def E:Env:={ty:=[(3,⟨false,(.int .i64),[]⟩),(4,⟨false,.bool,[]⟩),(5,⟨false,(.int .u8),[]⟩),(9,⟨false,.str,[]⟩),(22,⟨false,(.sl (.int .u8)),[(5,0)]⟩),(24,⟨false,(.sl .str),[(9,0)]⟩),(26,⟨true,(.sl .str),[(0,1)]⟩),(27,⟨false,(.sl cB),[(175,0)]⟩),(29,⟨true,rD,[(0,1),(1,1),(2,1),(3,1)]⟩),(30,⟨false,(.sl (.int .i64)),[(3,0)]⟩),(32,⟨true,kq,[(0,1),(1,1),(2,1),(3,1)]⟩),(33,⟨false,(.sl mH),[(179,0)]⟩),(35,⟨true,qA,[(0,4),(4,4),(8,1),(9,1)]⟩),(36,⟨false,(.sl fS),[(136,0)]⟩),(37,⟨false,(.sl kq),[(32,0)]⟩),(38,⟨false,(.sl fT),[(140,0)]⟩),(39,⟨false,(.sl .bool),[(4,0)]⟩),(41,⟨true,lF,[(0,1),(1,1),(2,1)]⟩),(42,⟨false,(.sl eN),[(99,0)]⟩),(43,⟨false,(.sl dR),[(105,0)]⟩),(45,⟨true,(.sl dR),[(0,1)]⟩),(47,⟨true,oq,[(0,1),(1,1)]⟩),(49,⟨true,gJ,[(0,1),(1,1),(2,2)]⟩),(50,⟨false,(.sl bF),[(108,0)]⟩),(52,⟨true,ij,[(0,1),(1,1),(2,1),(3,1),(4,1)]⟩),(54,⟨true,rY,[(0,1),(1,1),(2,10),(12,1),(13,1),(14,1),(15,1),(16,3),(19,4),(23,1),(24,1),(25,1),(26,1),(27,1),(28,5)]⟩),(55,⟨false,(.sl rX),[(72,0)]⟩),(59,⟨true,pe,[(0,1),(1,1),(2,1),(3,1),(4,1),(5,1),(6,1),(7,1)]⟩),(61,⟨true,ca,[(0,1),(1,1),(2,1),(3,1),(4,1),(5,1),(6,1),(7,1),(8,8)]⟩),(65,⟨true,tr,[(0,3),(3,4),(7,1),(8,1),(9,1)]⟩),(70,⟨false,(.sl ca),[(61,0)]⟩),(72,⟨true,rX,[(0,1),(1,16),(17,1),(18,1),(19,1),(20,1)]⟩),(99,⟨true,eN,[(0,1),(1,1),(2,1),(3,1),(4,1),(5,1),(6,1),(7,1),(8,1)]⟩),(102,⟨true,ij,[(0,1),(1,1),(2,1),(3,1),(4,1)]⟩),(105,⟨true,dR,[(0,1),(1,5),(6,1)]⟩),(108,⟨true,bF,[(0,5),(5,1),(6,1),(7,1)]⟩),(111,⟨true,(.pair (.sl (.int .u8)) (.pair (.int .i64) (.int .i64))),[(0,1),(1,1),(2,1)]⟩),(132,⟨true,gI,[(0,1),(1,1),(2,1)]⟩),(134,⟨true,Fs,[(0,16),(16,1),(17,1)]⟩),(136,⟨true,fS,[(0,4),(4,3),(7,3),(10,18),(28,1),(29,1)]⟩),(140,⟨true,fT,[(0,1),(1,1),(2,1),(3,1),(4,1),(5,1)]⟩),(147,⟨true,Kc,[(0,1),(1,1),(2,1),(3,1),(4,1)]⟩),(151,⟨true,NW,[(0,1),(1,1),(2,1),(3,1),(4,1),(5,1),(6,1)]⟩),(175,⟨true,cB,[(0,1),(1,1),(2,1),(3,1)]⟩),(179,⟨true,mH,[(0,1),(1,1),(2,1)]⟩),(218,⟨false,(.int .u32),[]⟩),(228,⟨true,Hj,[(0,1),(1,1),(2,1),(3,1),(4,1),(5,1)]⟩)],eqs:=[(102,[.int,.int,.int,.int,.int]),(108,[.int,.int,.int,.int,.int,.int,.str,.bool]),(134,[.int,.int,.int,.int,.int,.int,.int,.int,.int,.int,.int,.int,.int,.int,.int,.str,.int,.int])],fts:=[]}
theorem base:Sound Tryz.prog E cD.nil:=Sound.nil (Ei (by kernel_rfl)) (El (by kernel_rfl)) (Ek (by kernel_rfl)) (by kernel_rfl)
def e5:aW:=aN [pd (.sl (.int .u8))] [rB] (c1 Pu.uK)
theorem o5:aP Tryz.prog 5 e5:=f0 {} base Tryz.func5
def e20:aW:=FV (.pair (.sl .arg (.int .u8)) (.pair (.int .i64) (.int .i64))) [pd (.sl (.int .u8))] λa=>Pu.qg a.1
def ZA:cD:=cD.nil
def ZK:An:={mask:=mk [(3,[0,3,4])],merge:=mg [(3,15)]}
abbrev Hr:SD:=⟨.data false (.sl .arg (.int .u8))::B::B::DI::DI::bs 27 [],zs 32 [],.none⟩
def Oc {R:Type}(X:SD.D Hr)(K:Ex→AS→Option R):=Pu.pF (λy0 y1=>ke 0 K Hr ((z1 (w y0 (u y1)) X.1),X.2)) X.1.1
def Tt:cA:=iO Hr Oc (λX=>(X.1.2.1,q2 X))
def Yx:cY:=(cY.nil).add 3 Tt
theorem SW:g7 E ZA ZK Yx (aX Tryz.f20 0):=lk Hr Oc (λX=>(X.1.2.1,q2 X)) λX x=>((z1 (w x.1 (u x.2)) X.1),X.2)
theorem o20:aP Tryz.prog 20 e20:=aP.UQ (SI (Γ:=ZA) (an:=ZK) (Λ:=Yx) (base) Tryz.func20 (by kernel_rfl) (ao (cF SW nF))) (λa=>by kernel_rfl)
def Zl:aW:=fb (.pair (.sl .arg0 (.int .u8)) (.pair (.int .i64) (.int .i64))) [] [rI] λx a=>Pu.fi x
theorem o59:aP Tryz.prog 59 Zl:=aP.kl (kk (an:={}) (Λ:=cY.nil) (base) Tryz.func59 (by kernel_rfl) (ao nF)) (λx a=>by kernel_rfl)
def O9:aW:=fb (.pair (.sl .arg0 (.int .u8)) (.pair (.int .i64) (.int .i64))) [pI] [rI] λx a=>Pu.bj x a.1
theorem Jj:aP Tryz.prog 24 O9:=aP.kl (kk (an:={}) (Λ:=cY.nil) (base.add o59) Tryz.func24 (by kernel_rfl) (ao nF)) (λx a=>by kernel_rfl)
def SF:aW:=fb (.pair (.sl .arg0 (.int .u8)) (.pair (.int .i64) (.int .i64))) [pI] [rB] λx a=>Pu.dz x a.1
theorem QT:aP Tryz.prog 51 SF:=aP.kl (kk (an:={}) (Λ:=cY.nil) (base.add Jj) Tryz.func51 (by kernel_rfl) (ao nF)) (λx a=>by kernel_rfl)
def Wo:aW:=fb (.pair (.sl .arg0 (.int .u8)) (.pair (.int .i64) (.int .i64))) [pI] [rS] λx a=>Pu.gj x a.1
def ZF:cD:=cD.nil.add 59 Zl
def ZQ:An:={mask:=mk [(5,[0,1,5,6])],mv:=[15]}
abbrev Hw:SD:=⟨.ptr 0 0::DI::B::B::B::.data false (.sl (.own (some 61440)) (.int .u8))::DI::bs 16 [],(some Y3)::zs 22 [],.ptr⟩
def Oo {R:Type}(X:SD.D Hw)(K:Ex→AS→Option R):=Pu.ix (λy0 y1 y2=>ke 0 K Hw ((z1 (w y0 (u y1)) X.1),(u y2 X.2.1),X.2.2)) X.1.1
def TF:cA:=iO Hw Oo (λX=>(X.1.2.1,q2 X,X.2.1.1))
def YD:cY:=(cY.nil).add 5 TF
theorem S8:g7 E ZF ZQ YD (aX Tryz.f53 0):=lk Hw Oo (λX=>(X.1.2.1,q2 X,X.2.1.1)) λX x=>((z1 (w x.1 (u x.2.1)) X.1),(u x.2.2 X.2.1),X.2.2)
theorem UP:aP Tryz.prog 53 Wo:=aP.kl (kk (Γ:=ZF) (an:=ZQ) (Λ:=YD) (base.add o59) Tryz.func53 (by kernel_rfl) (ao (cF S8 nF))) (λx a=>by kernel_rfl)
def SG:aW:=fb (.pair (.sl .arg0 (.int .u8)) (.pair (.int .i64) (.int .i64))) [pd (.sl (.int .i64))] [rI] λx a=>Pu.bq x a.1
theorem Np:aP Tryz.prog 54 SG:=aP.kl (kk (an:={}) (Λ:=cY.nil) (base.add Jj) Tryz.func54 (by kernel_rfl) (ao nF)) (λx a=>by kernel_rfl)
def e57:aW:=fb (.pair (.sl .arg0 (.int .u8)) (.pair (.int .i64) (.int .i64))) [] [rI] λx a=>Pu.kg x
theorem Ym:aP Tryz.prog 57 e57:=aP.kl (kk (an:={}) (Λ:=cY.nil) (base.add Jj) Tryz.func57 (by kernel_rfl) (ao nF)) (λx a=>by kernel_rfl)
def Vk:aW:=fb (.pair (.sl .arg0 (.int .u8)) (.pair (.int .i64) (.int .i64))) [] [rI] λx a=>Pu.nB x
theorem W5:aP Tryz.prog 109 Vk:=aP.kl (kk (an:={}) (Λ:=cY.nil) (base.add Np) Tryz.func109 (by kernel_rfl) (ao nF)) (λx a=>by kernel_rfl)
def e58:aW:=fb (.pair (.sl .arg0 (.int .u8)) (.pair (.int .i64) (.int .i64))) [pI] [(true,(.pair (.int .i64) Ra))] λx a=>Pu.k9 x a.1
theorem o58:aP Tryz.prog 58 e58:=aP.kl (kk (an:={}) (Λ:=cY.nil) (((((base.add Jj).add QT).add UP).add Np).add W5) Tryz.func58 (by kernel_rfl) (ao nF)) (λx a=>by kernel_rfl)
def Wm:aW:=fb (.pair (.sl .arg0 (.int .u8)) (.pair (.int .i64) (.int .i64))) [pI] [(true,Y0)] λx a=>Pu.fH x a.1
theorem Z7:aP Tryz.prog 23 Wm:=aP.kl (kk (an:={}) (Λ:=cY.nil) ((((((base.add Jj).add QT).add UP).add Np).add Ym).add o58) Tryz.func23 (by kernel_rfl) (ao nF)) (λx a=>by kernel_rfl)
def Zh:aW:=fb (.pair (.sl .arg0 (.int .u8)) (.pair (.int .i64) (.int .i64))) [pI] [(false,(.sl (.own none) ca))] λx a=>Pu.oM x a.1
def N1:cD:=((((cD.nil.add 23 Wm).add 24 O9).add 51 SF).add 53 Wo).add 54 SG
def HP:An:={mask:=mk [(5,[0,5,6,7,8]),(1000012,[0,5,6,7,8]),(1000013,[0,5,6,7,8]),(1000014,[0,5,6,7,8]),(1000015,[0,5,6,7,8]),(1000018,[0,5,6,7,8]),(1000019,[0,5,6,7,8]),(1000022,[0,5,6,7,8]),(1000023,[0,5,6,7,8]),(1000028,[0,5,6,7,8]),(1000029,[0,5,6,7,8]),(1000034,[0,5,6,7,8,64]),(1000035,[0,5,6,7,8])],cut:=[6,7,9,11,14,17],mv:=[47,76]}
abbrev sk:SD:=⟨.ptr 0 0::bs 4 (.data false (.sl (.own (some 61440)) ca)::.ptr 6 0::DI::DI::bs 55 (DB::bs 12 [])),(some Y3)::zs 5 ((some Y0)::zs 70 []),.ptr⟩
abbrev BU:SD:=⟨.ptr 0 0::bs 4 (.data false (.sl (.own (some 61440)) ca)::.ptr 6 0::DI::DI::bs 68 []),(some Y3)::zs 5 ((some Y0)::zs 70 []),.ptr⟩
def wV {R:Type}(X:SD.D sk)(K:Ex→AS→Option R):Option R:=Pu.mR (λy0=>kn K BU ((X.1.1,(X.1.2.1,(X.1.2.2.1,()))),(X.2.1.1,(y0,())),())) X.1.1 X.1.2.1 (q2 X) (q3 X) X.2.1.1 X.2.1.2.1
def Eg:cA:=I5 sk wV
abbrev pS:SD:=⟨.ptr 0 0::bs 4 (.data false (.sl (.own (some 61440)) ca)::.ptr 6 0::DI::DI::bs 68 []),(some Y3)::zs 5 ((some Y0)::zs 70 []),.ptr⟩
def wU {R:Type}(X:SD.D pS)(K:Ex→AS→Option R):Option R:=Pu.gZ (λy0 y1 y2=>kn K pS ((u y0 X.1),(w y1 (u y2) X.2.1),X.2.2)) X.1.1 X.1.2.1 (q2 X) X.2.1.1 X.2.1.2.1
def Ef:cA:=I5 pS wU
abbrev pR:SD:=⟨.ptr 0 0::bs 4 (.data false (.sl (.own (some 61440)) ca)::.ptr 6 0::DI::DI::bs 68 []),(some Y3)::zs 5 ((some Y0)::zs 70 []),.ptr⟩
def wT {R:Type}(X:SD.D pR)(K:Ex→AS→Option R):Option R:=Pu.gY (λy0 y1 y2=>kn K pR ((u y0 X.1),(w y1 (u y2) X.2.1),X.2.2)) X.1.1 X.1.2.1 (q2 X) X.2.1.1 X.2.1.2.1
def Ee:cA:=I5 pR wT
abbrev pQ:SD:=⟨.ptr 0 0::bs 4 (.data false (.sl (.own (some 61440)) ca)::.ptr 6 0::DI::DI::bs 68 []),(some Y3)::zs 5 ((some Y0)::zs 70 []),.ptr⟩
def wS {R:Type}(X:SD.D pQ)(K:Ex→AS→Option R):Option R:=Pu.iz (λy0 y1 y2 y3=>kn K pQ ((w y0 (u y1) X.1),(w y2 (u y3) X.2.1),X.2.2)) X.1.1 X.1.2.1 (q2 X) X.2.1.1 X.2.1.2.1
def Ed:cA:=I5 pQ wS
abbrev pO:SD:=⟨.ptr 0 0::bs 4 (.data false (.sl (.own (some 61440)) ca)::.ptr 6 0::DI::DI::bs 68 []),(some Y3)::zs 5 ((some Y0)::zs 70 []),.ptr⟩
def wQ {R:Type}(X:SD.D pO)(K:Ex→AS→Option R):Option R:=Pu.iy (λy0=>kn K pO ((z2 (u y0) X.1),X.2)) X.1.1 X.1.2.1 (q2 X) X.2.1.1 X.2.1.2.1
def Eb:cA:=I5 pO wQ
abbrev pP:SD:=⟨.ptr 0 0::bs 4 (.data false (.sl (.own (some 61440)) ca)::.ptr 6 0::DI::DI::bs 68 []),(some Y3)::zs 5 ((some Y0)::zs 70 []),.ptr⟩
def wR {R:Type}(X:SD.D pP)(K:Ex→AS→Option R):Option R:=Pu.la (λy0 y1 y2 y3 y4=>kn K pP ((w y0 (w y1 (u y2)) X.1),(w y3 (u y4) X.2.1),X.2.2)) X.1.1 X.1.2.1 (q2 X) X.2.1.1 X.2.1.2.1
def Ec:cA:=I5 pP wR
abbrev Hv:SD:=⟨.ptr 0 0::bs 4 (.data false (.sl (.own (some 61440)) ca)::.ptr 6 0::DI::DI::bs 68 []),(some Y3)::zs 5 ((some Y0)::zs 70 []),.ptr⟩
def On {R:Type}(X:SD.D Hv)(K:Ex→AS→Option R):=Pu.n9 (λy0 y1 y2 y3 y4=>ke 0 K Hv ((w y0 (w y1 (u y2)) X.1),(w y3 (u y4) X.2.1),X.2.2))
def TE:cA:=iO Hv On (λX=>(X.1.1,X.1.2.1,q2 X,X.2.1.1,X.2.1.2.1))
def NU:cY:=(((((((cY.nil).add 1000034 Eg).add 1000028 Ef).add 1000022 Ee).add 1000018 Ed).add 1000012 Eb).add 1000014 Ec).add 5 TE
theorem D5:Fk E N1 HP NU (lJ HP.cut Tryz.f49 4):=ck sk wV
theorem D4:Fk E N1 HP NU (lJ HP.cut Tryz.f49 3):=ck pS wU
theorem D3:Fk E N1 HP NU (lJ HP.cut Tryz.f49 2):=ck pR wT
theorem D2:Fk E N1 HP NU (lJ HP.cut Tryz.f49 1):=ck pQ wS
theorem D0:Fk E N1 HP NU (lJ HP.cut Tryz.f49 5):=ck pO wQ
theorem D1:Fk E N1 HP NU (lJ HP.cut Tryz.f49 0):=ck pP wR
theorem S7:g7 E N1 HP NU (aX Tryz.f49 0):=lk Hv On (λX=>(X.1.1,X.1.2.1,q2 X,X.2.1.1,X.2.1.2.1)) λX x=>((w x.1 (w x.2.1 (u x.2.2.1)) X.1),(w x.2.2.2.1 (u x.2.2.2.2) X.2.1),X.2.2)
theorem o49:aP Tryz.prog 49 Zh:=aP.kl (kk (Γ:=N1) (an:=HP) (Λ:=NU) (((((base.add Z7).add Jj).add QT).add UP).add Np) Tryz.func49 (by kernel_rfl) (ac (cF S7 nF) (cF D1 (cF D2 (cF D3 (cF D4 (cF D5 (cF D0 nF)))))))) (λx a=>by kernel_rfl)
def My:aW:=aN [pI,pI,pI] [rB] (c3 Pu.aH)
theorem yH:aP Tryz.prog 73 My:=f0 {merge:=mg [(1,6)]} base Tryz.func73
def e93:aW:=aN [pf pe] [rB] (c1 Pu.jz)
theorem o93:aP Tryz.prog 93 e93:=f0 {merge:=mg [(1,18),(4,2),(5,2)]} (base.add yH) Tryz.func93
def e40:aW:=aN [pf ca] [rB] (c1 Pu.fg)
theorem Re:aP Tryz.prog 40 e40:=f0 {merge:=mg [(1,55),(3,3),(4,2)]} ((base.add yH).add o93) Tryz.func40
def e36:aW:=aN [pf ca] [rB] (c1 Pu.kO)
theorem Z9:aP Tryz.prog 36 e36:=f0 {merge:=mg [(1,2)]} (base.add Re) Tryz.func36
def Vx:aW:=aN [pd .str] [rI] (c1 Pu.rq)
def SL:cD:=cD.nil
def QG:An:={mask:=mk [(3,[0,3,4]),(7,[0,3,4,5])]}
abbrev Bv:SD:=⟨.data false .str::B::B::DI::DI::DI::bs 26 [],zs 32 [],.none⟩
def LV {R:Type}(X:SD.D Bv)(K:Ex→AS→Option R):=Pu.iQ (λy0 y1=>ke 2 K Bv ((z1 (w y0 (z1 (u y1))) X.1),X.2)) X.1.1 (q2 X)
def P8:cA:=iO Bv LV (λX=>(X.1.2.1,q3 X))
abbrev Bu:SD:=⟨.data false .str::B::B::DI::DI::bs 27 [],zs 32 [],.none⟩
def LU {R:Type}(X:SD.D Bu)(K:Ex→AS→Option R):=Pu.kJ (λy0 y1=>ke 0 K Bu ((z1 (w y0 (u y1)) X.1),X.2)) X.1.1
def P7:cA:=iO Bu LU (λX=>(X.1.2.1,q2 X))
def OP:cY:=((cY.nil).add 7 P8).add 3 P7
theorem Pt:g7 E SL QG OP (aX Tryz.f128 1):=lk Bv LV (λX=>(X.1.2.1,q3 X)) λX x=>((z1 (w x.1 (z1 (u x.2))) X.1),X.2)
theorem Ps:g7 E SL QG OP (aX Tryz.f128 0):=lk Bu LU (λX=>(X.1.2.1,q2 X)) λX x=>((z1 (w x.1 (u x.2)) X.1),X.2)
theorem Xj:aP Tryz.prog 128 Vx:=fk QG base Tryz.func128 (Λ:=OP) (cF Ps (cF Pt nF))
def e86:aW:=aN [pd .str] [rS] (c1 Pu.my)
theorem o86:aP Tryz.prog 86 e86:=f0 {} (base.add Xj) Tryz.func86
def Vj:aW:=aN [pd .str,pI,pI] [rB] (c3 Pu.gX)
theorem QL:aP Tryz.prog 103 Vj:=f0 {merge:=mg [(1,6)]} base Tryz.func103
def Wn:aW:=aN [pd .str,pI,pd .str] [rS] (c3 Pu.ec)
theorem U5:aP Tryz.prog 52 Wn:=f0 {} (base.add QL) Tryz.func52
def e98:aW:=aN [pI] [rS] (c1 Pu.bE)
theorem N4:aP Tryz.prog 98 e98:=f0 {} (base.add yH) Tryz.func98
def VU:aW:=aN [pI] [rS] (c1 Pu.cX)
theorem Ji:aP Tryz.prog 167 VU:=f0 {} (base.add yH) Tryz.func167
def Sx:aW:=aN [pI,pI] [rI] (c2 Pu.gh)
theorem Yb:aP Tryz.prog 212 Sx:=f0 {merge:=mg [(1,12)]} (base.add yH) Tryz.func212
def Wd:aW:=aN [pd .str] [rI] (c1 Pu.nA)
def WJ:cD:=cD.nil.add 212 Sx
def Ue:An:={mask:=mk [(3,[0,3,4])]}
abbrev BL:SD:=⟨.data false .str::B::B::DI::DI::bs 28 [],zs 33 [],.none⟩
def Mb {R:Type}(X:SD.D BL)(K:Ex→AS→Option R):=Pu.kb (λy0 y1=>ke 0 K BL ((z1 (w y0 (u y1)) X.1),X.2)) X.1.1
def Qn:cA:=iO BL Mb (λX=>(X.1.2.1,q2 X))
def RB:cY:=(cY.nil).add 3 Qn
theorem PK:g7 E WJ Ue RB (aX Tryz.f192 0):=lk BL Mb (λX=>(X.1.2.1,q2 X)) λX x=>((z1 (w x.1 (u x.2)) X.1),X.2)
theorem X1:aP Tryz.prog 192 Wd:=fk Ue (base.add Yb) Tryz.func192 (Λ:=RB) (cF PK nF)
def VW:aW:=aN [pd .str] [rI] (c1 Pu.iP)
theorem UC:aP Tryz.prog 169 VW:=f0 {} (base.add X1) Tryz.func169
def Wc:aW:=aN [pf NW] [rB] (c1 Pu.th)
theorem X0:aP Tryz.prog 191 Wc:=f0 {merge:=mg [(1,2)]} (base.add yH) Tryz.func191
def VT:aW:=aN [pf NW] [rS,rB] (c1 Pu.nw)
theorem XJ:aP Tryz.prog 166 VT:=f0 {} (((((base.add U5).add N4).add Ji).add UC).add X0) Tryz.func166
def VC:aW:=aN [pf NW] [rS,rB] (c1 Pu.me)
theorem Ux:aP Tryz.prog 132 VC:=f0 {} (base.add XJ) Tryz.func132
def VV:aW:=aN [pI,pI,pI,pI] [rS,rB] (c4 Pu.gi)
theorem XK:aP Tryz.prog 168 VV:=f0 {merge:=mg [(1,27)]} (((base.add yH).add N4).add Ji) Tryz.func168
def VD:aW:=aN [pI,pI,pf pe] [rS,rB] (c3 Pu.eQ)
theorem Uy:aP Tryz.prog 133 VD:=f0 {merge:=mg [(14,82)]} ((((((base.add U5).add o93).add N4).add Ji).add XK).add UC) Tryz.func133
def VB:aW:=aN [pf Kc] [rB] (c1 Pu.mP)
theorem Uw:aP Tryz.prog 131 VB:=f0 {merge:=mg [(1,2)]} (base.add yH) Tryz.func131
def VZ:aW:=aN [pI] [rS] (c1 Pu.eX)
theorem XO:aP Tryz.prog 173 VZ:=f0 {} ((base.add N4).add Ji) Tryz.func173
def VG:aW:=aN [pf Kc] [rS,rB] (c1 Pu.nq)
theorem Xp:aP Tryz.prog 142 VG:=f0 {} (((base.add N4).add Uw).add XO) Tryz.func142
def O3:aW:=aN [pI,pd (.int .u8)] [rS] (c2 Pu.eh)
def Wv:cD:=cD.nil
def TY:An:={mask:=mk [(3,[0,1,5,6])]}
abbrev Bt:SD:=⟨DI::.data false (.int .u8)::B::B::B::.data false (.sl (.own (some 61440)) (.int .u8))::DI::bs 13 [],zs 20 [],.none⟩
def LQ {R:Type}(X:SD.D Bt)(K:Ex→AS→Option R):=Pu.iw (λy0 y1=>ke 0 K Bt ((z2 (w y0 (u y1)) X.1),X.2)) X.1.1 X.1.2.1
def P4:cA:=iO Bt LQ (λX=>(q2 X,q3 X))
def Rl:cY:=(cY.nil).add 3 P4
theorem Pp:g7 E Wv TY Rl (aX Tryz.f108 0):=lk Bt LQ (λX=>(q2 X,q3 X)) λX x=>((z2 (w x.1 (u x.2)) X.1),X.2)
theorem Nl:aP Tryz.prog 108 O3:=fk TY base Tryz.func108 (Λ:=Rl) (cF Pp nF)
def VH:aW:=aN [pd .str] [rS] (c1 Pu.oI)
theorem Xq:aP Tryz.prog 143 VH:=f0 {} (base.add Nl) Tryz.func143
def Vi:aW:=aN [pf ca] [rS,rB] (c1 Pu.kZ)
theorem W1:aP Tryz.prog 102 Vi:=f0 {} (((((base.add Re).add Ux).add Uy).add Xp).add Xq) Tryz.func102
def Zi:aW:=aN [pf ca] [rS,rB] (c1 Pu.kY)
theorem o50:aP Tryz.prog 50 Zi:=f0 {} (((base.add Z9).add o86).add W1) Tryz.func50
def e21:aW:=fb (.pair (.sl .arg0 (.int .u8)) (.pair (.int .i64) (.int .i64))) [pd .bool] [(false,(.sl (.own none) rX))] λx a=>Pu.oW x a.1
def Pd:cD:=(((((((cD.nil.add 23 Wm).add 24 O9).add 49 Zh).add 50 Zi).add 51 SF).add 52 Wn).add 53 Wo).add 54 SG
def J7:An:={mask:=mk [(4,[0,1,5,6,7]),(1000010,[0,1,5,6,7]),(1000011,[0,1,5,6,7]),(1000012,[0,1,5,6,7]),(1000013,[0,1,5,6,7]),(1000018,[0,1,5,6,7,8]),(1000019,[0,1,5,6,7]),(1000030,[0,1,5,6,7,43,50]),(1000031,[0,1,5,6,7]),(1000038,[0,1,5,6,7,43,57]),(1000039,[0,1,5,6,7])],cut:=[5,6,9,15,19],mv:=[37,46,53,61,70,84,91,95]}
abbrev sj:SD:=⟨.ptr 0 0::DB::B::B::B::.data false (.sl (.own (some 61440)) rX)::.data false (.sl (.own (some 73728)) ca)::DI::bs 35 (DI::bs 13 (DB::bs 38 [])),(some Y3)::zs 95 [],.ptr⟩
abbrev BT:SD:=⟨.ptr 0 0::DB::B::B::B::.data false (.sl (.own (some 61440)) rX)::.data false (.sl (.own (some 73728)) ca)::DI::bs 88 [],(some Y3)::zs 95 [],.ptr⟩
def wP {R:Type}(X:SD.D sj)(K:Ex→AS→Option R):Option R:=Pu.fC (λy0 y1=>kn K BT ((X.1.1,(y0,(X.1.2.2.1,(X.1.2.2.2.1,())))),(y1,()),())) X.1.1 X.1.2.1 (q2 X) (q3 X) (q4 X) (q5 X) X.2.1.1
def Ea:cA:=I5 sj wP
abbrev si:SD:=⟨.ptr 0 0::DB::B::B::B::.data false (.sl (.own (some 61440)) rX)::.data false (.sl (.own (some 73728)) ca)::DI::bs 35 (DI::bs 6 (DB::bs 45 [])),(some Y3)::zs 95 [],.ptr⟩
abbrev BS:SD:=⟨.ptr 0 0::DB::B::B::B::.data false (.sl (.own (some 61440)) rX)::.data false (.sl (.own (some 73728)) ca)::DI::bs 88 [],(some Y3)::zs 95 [],.ptr⟩
def wO {R:Type}(X:SD.D si)(K:Ex→AS→Option R):Option R:=Pu.g6 (λy0 y1=>kn K BS ((X.1.1,(y0,(X.1.2.2.1,(X.1.2.2.2.1,())))),(y1,()),())) X.1.1 X.1.2.1 (q2 X) (q3 X) (q4 X) (q5 X) X.2.1.1
def D9:cA:=I5 si wO
abbrev sg:SD:=⟨.ptr 0 0::DB::B::B::B::.data false (.sl (.own (some 61440)) rX)::.data false (.sl (.own (some 73728)) ca)::DI::.data false .str::bs 87 [],(some Y3)::zs 95 [],.ptr⟩
abbrev BR:SD:=⟨.ptr 0 0::DB::B::B::B::.data false (.sl (.own (some 61440)) rX)::.data false (.sl (.own (some 73728)) ca)::DI::bs 88 [],(some Y3)::zs 95 [],.ptr⟩
def wN {R:Type}(X:SD.D sg)(K:Ex→AS→Option R):Option R:=Pu.iC (λy0 y1=>kn K BR ((X.1.1,(y0,(X.1.2.2.1,(X.1.2.2.2.1,())))),(y1,()),())) X.1.1 X.1.2.1 (q2 X) (q3 X) (q4 X) X.2.1.1
def D8:cA:=I5 sg wN
abbrev pM:SD:=⟨.ptr 0 0::DB::B::B::B::.data false (.sl (.own (some 61440)) rX)::.data false (.sl (.own (some 73728)) ca)::DI::bs 88 [],(some Y3)::zs 95 [],.ptr⟩
def wL {R:Type}(X:SD.D pM)(K:Ex→AS→Option R):Option R:=Pu.iB (λy0=>kn K pM ((z3 (u y0) X.1),X.2)) X.1.1 X.1.2.1 (q2 X) (q3 X) X.2.1.1
def D6:cA:=I5 pM wL
abbrev pN:SD:=⟨.ptr 0 0::DB::B::B::B::.data false (.sl (.own (some 61440)) rX)::.data false (.sl (.own (some 73728)) ca)::DI::bs 88 [],(some Y3)::zs 95 [],.ptr⟩
def wM {R:Type}(X:SD.D pN)(K:Ex→AS→Option R):Option R:=Pu.ld (λy0 y1 y2=>kn K pN ((z1 (w y0 (z1 (u y1))) X.1),(u y2 X.2.1),X.2.2)) X.1.1 X.1.2.1 (q2 X) (q3 X) X.2.1.1
def D7:cA:=I5 pN wM
abbrev Hs:SD:=⟨.ptr 0 0::DB::B::B::B::.data false (.sl (.own (some 61440)) rX)::.data false (.sl (.own (some 73728)) ca)::DI::bs 88 [],(some Y3)::zs 95 [],.ptr⟩
def Od {R:Type}(X:SD.D Hs)(K:Ex→AS→Option R):=Pu.og (λy0 y1 y2=>ke 0 K Hs ((z1 (w y0 (z1 (u y1))) X.1),(u y2 X.2.1),X.2.2)) X.1.1 (q2 X)
def Tu:cA:=iO Hs Od (λX=>(X.1.2.1,q3 X,X.2.1.1))
def OR:cY:=((((((cY.nil).add 1000038 Ea).add 1000030 D9).add 1000018 D8).add 1000010 D6).add 1000012 D7).add 4 Tu
theorem DZ:Fk E Pd J7 OR (lJ J7.cut Tryz.f21 3):=ck sj wP
theorem DY:Fk E Pd J7 OR (lJ J7.cut Tryz.f21 2):=ck si wO
theorem DX:Fk E Pd J7 OR (lJ J7.cut Tryz.f21 1):=ck sg wN
theorem DV:Fk E Pd J7 OR (lJ J7.cut Tryz.f21 4):=ck pM wL
theorem DW:Fk E Pd J7 OR (lJ J7.cut Tryz.f21 0):=ck pN wM
theorem SX:g7 E Pd J7 OR (aX Tryz.f21 0):=lk Hs Od (λX=>(X.1.2.1,q3 X,X.2.1.1)) λX x=>((z1 (w x.1 (z1 (u x.2.1))) X.1),(u x.2.2 X.2.1),X.2.2)
theorem o21:aP Tryz.prog 21 e21:=aP.kl (kk (Γ:=Pd) (an:=J7) (Λ:=OR) ((((((((base.add Z7).add Jj).add o49).add o50).add QT).add U5).add UP).add Np) Tryz.func21 (by kernel_rfl) (ac (cF SX nF) (cF DW (cF DX (cF DY (cF DZ (cF DV nF))))))) (λx a=>by kernel_rfl)
def e34:aW:=aN [pd .str] [rS,rB] (c1 Pu.nr)
theorem o34:aP Tryz.prog 34 e34:=f0 {merge:=mg [(1,16)]} (base.add o86) Tryz.func34
def Vy:aW:=aN [pd .str,pI] [rI] (c2 Pu.dP)
theorem Nm:aP Tryz.prog 129 Vy:=f0 {} (base.add QL) Tryz.func129
def VA:aW:=aN [pd .str,pI] [rI] (c2 Pu.ib)
theorem QN:aP Tryz.prog 130 VA:=f0 {} ((base.add QL).add Nm) Tryz.func130
def e87:aW:=aN [pd .str] [(true,Y9),rB] (c1 Pu.nz)
theorem o87:aP Tryz.prog 87 e87:=f0 {sb:=mg [(4,4)]} (((base.add Nm).add QN).add Uw) Tryz.func87
def e88:aW:=aN [pd .str] [(true,Ra),rB] (c1 Pu.oJ)
theorem o88:aP Tryz.prog 88 e88:=f0 {merge:=mg [(2,22),(6,56)],sb:=mg [(5,5)]} (((base.add Nm).add QN).add Ux) Tryz.func88
def e89:aW:=aN [pI,pI,pI,pd .str] [(true,(.pair (.int .i64) Ra)),rB] (c4 Pu.jg)
theorem o89:aP Tryz.prog 89 e89:=f0 {merge:=mg [(3,20),(9,44),(12,68)]} (((base.add Nm).add QN).add Uy) Tryz.func89
def e35:aW:=aN [pd .str] [(true,Y0),rI] (c1 Pu.mw)
theorem o35:aP Tryz.prog 35 e35:=f0 {merge:=mg [(2,20)]} ((((base.add Re).add o87).add o88).add o89) Tryz.func35
def Vz:aW:=aN [pd .str] [(true,Y0),rI] (c1 Pu.jy)
theorem Z5:aP Tryz.prog 13 Vz:=f0 {} (((base.add o34).add o35).add Z9) Tryz.func13
def O2:aW:=aN [] [(true,(.sl (.own none) dR))] λa=>Pu.gu
theorem Us:aP Tryz.prog 107 O2:=f0 {} base Tryz.func107
def Sl:aW:=fb (.pair (.sl .arg0 (.int .u8)) (.pair (.int .i64) (.int .i64))) [] [rS] λx a=>Pu.qh x
theorem XP:aP Tryz.prog 174 Sl:=aP.kl (kk (an:={}) (Λ:=cY.nil) (base.add UP) Tryz.func174 (by kernel_rfl) (ao nF)) (λx a=>by kernel_rfl)
def Sa:aW:=fb (.pair (.sl .arg0 (.int .u8)) (.pair (.int .i64) (.int .i64))) [] [(true,(.pair .str (.sl (.own none) (.int .i64)))),rI] λx a=>Pu.mz x
def SM:cD:=((cD.nil.add 24 O9).add 54 SG).add 174 Sl
def T4:An:={mask:=mk [(4,[0,2,4,5,6])],mv:=[21,28],mb:=mg [(21,5)],sb:=mg [(22,0),(27,5)]}
abbrev Bz:SD:=⟨.ptr 0 0::B::.ptr 2 0::B::DI::.ptr 5 0::DI::bs 23 [],(some Y3)::Z::(some (.pair .str (.sl (.own (some 24580)) (.int .i64))))::Z::Z::(some (.pair .str (.sl (.own (some 61444)) (.int .i64))))::zs 24 [],.ptr⟩
def LY {R:Type}(X:SD.D Bz)(K:Ex→AS→Option R):=Pu.mA (λy0 y1 y2=>ke 0 K Bz ((z1 (u y0) X.1),(w y1 (z1 (u y2)) X.2.1),X.2.2)) X.1.1 X.2.1.2.1
def Qb:cA:=iO Bz LY (λX=>(X.1.2.1,X.2.1.1,X.2.1.2.2.1))
def Rq:cY:=(cY.nil).add 4 Qb
theorem Px:g7 E SM T4 Rq (aX Tryz.f144 0):=lk Bz LY (λX=>(X.1.2.1,X.2.1.1,X.2.1.2.2.1)) λX x=>((z1 (u x.1) X.1),(w x.2.1 (z1 (u x.2.2)) X.2.1),X.2.2)
theorem Xr:aP Tryz.prog 144 Sa:=aP.kl (kk (Γ:=SM) (an:=T4) (Λ:=Rq) (((base.add Jj).add Np).add XP) Tryz.func144 (by kernel_rfl) (ao (cF Px nF))) (λx a=>by kernel_rfl)
def Sm:aW:=fb (.pair (.sl .arg0 (.int .u8)) (.pair (.int .i64) (.int .i64))) [] [(true,(.pair (.int .i64) (.pair (.int .i64) (.pair (.int .i64) (.pair (.int .i64) (.pair (.int .i64) Y1))))))] λx a=>Pu.oQ x
theorem XQ:aP Tryz.prog 175 Sm:=aP.kl (kk (an:={}) (Λ:=cY.nil) (((base.add Jj).add Np).add Ym) Tryz.func175 (by kernel_rfl) (ao nF)) (λx a=>by kernel_rfl)
def Sb:aW:=fb (.pair (.sl .arg0 (.int .u8)) (.pair (.int .i64) (.int .i64))) [] [(false,(.sl (.own none) eN))] λx a=>Pu.nC x
def SN:cD:=(cD.nil.add 24 O9).add 175 Sm
def T5:An:={mask:=mk [(3,[0,3,4])],mv:=[12,17]}
abbrev BA:SD:=⟨.ptr 0 0::B::B::.data false (.sl (.own (some 36864)) eN)::DI::bs 13 [],(some Y3)::zs 17 [],.ptr⟩
def LZ {R:Type}(X:SD.D BA)(K:Ex→AS→Option R):=Pu.mS (λy0 y1 y2=>ke 0 K BA ((w y0 (u y1) X.1),(u y2 X.2.1),X.2.2))
def Qc:cA:=iO BA LZ (λX=>(X.1.1,X.1.2.1,X.2.1.1))
def Rr:cY:=(cY.nil).add 3 Qc
theorem Py:g7 E SN T5 Rr (aX Tryz.f145 0):=lk BA LZ (λX=>(X.1.1,X.1.2.1,X.2.1.1)) λX x=>((w x.1 (u x.2.1) X.1),(u x.2.2 X.2.1),X.2.2)
theorem Xs:aP Tryz.prog 145 Sb:=aP.kl (kk (Γ:=SN) (an:=T5) (Λ:=Rr) ((base.add Jj).add XQ) Tryz.func145 (by kernel_rfl) (ao (cF Py nF))) (λx a=>by kernel_rfl)
def O4:aW:=aN [pf ij] [rI] (c1 Pu.kM)
def Wy:cD:=cD.nil
def T1:An:={mask:=mk [(4,[3,4,5])]}
abbrev Bw:SD:=⟨B::B::B::DI::.data false (.sl (.own (some 49152)) (.int .i64))::DI::bs 26 [],zs 32 [],.none⟩
def LW {R:Type}(X:SD.D Bw)(K:Ex→AS→Option R):=Pu.gV (λy0 y1=>ke 0 K Bw ((w y0 (z1 (u y1)) X.1),X.2)) X.1.2.1
def P9:cA:=iO Bw LW (λX=>(X.1.1,q2 X))
def Ro:cY:=(cY.nil).add 4 P9
theorem Pv:g7 E Wy T1 Ro (aX Tryz.f137 0):=lk Bw LW (λX=>(X.1.1,q2 X)) λX x=>((w x.1 (z1 (u x.2)) X.1),X.2)
theorem UA:aP Tryz.prog 137 O4:=fk T1 base Tryz.func137 (Λ:=Ro) (cF Pv nF)
def Ws:aW:=aN [pf (.sl dR),pf ij] [rI] (c2 Pu.kh)
def g95:cD:=cD.nil.add 137 O4
def Z2:An:={mask:=mk [(2,[2,3,4,5])],merge:=mg [(7,39)]}
abbrev Dk:SD:=⟨B::B::.ptr 2 0::.ptr 3 0::DI::DI::bs 35 [],Z::Z::(some (.sl .arg dR))::(some (.pair (.int .i64) Y1))::zs 37 [],.none⟩
def OF {R:Type}(X:SD.D Dk)(K:Ex→AS→Option R):=Pu.iA (λy0=>ke 0 K Dk ((z1 (u y0) X.1),X.2)) (λy0 y1=>kr K Dk ((w y0 (u y1) X.1),X.2)) X.1.1 X.2.1.1 X.2.1.2.1
def TT:cA:=iO Dk OF (λX=>X.1.2.1)
def YP:cY:=(cY.nil).add 2 TT
theorem Tm:g7 E g95 Z2 YP (aX Tryz.f95 0):=lk Dk OF (λX=>X.1.2.1) λX x=>((z1 (u x) X.1),X.2)
theorem Yq:aP Tryz.prog 95 Ws:=fk Z2 (base.add UA) Tryz.func95 (Λ:=YP) (cF Tm nF)
def Wr:aW:=aN [pf (.sl dR)] [rB] (c1 Pu.kc)
def g91:cD:=(cD.nil.add 73 My).add 95 Ws
def Z0:An:={mask:=mk [(4,[1,2,3])],merge:=mg [(7,30),(10,42)]}
abbrev Di:SD:=⟨B::.ptr 1 0::DB::DI::bs 45 [],Z::(some (.sl .arg dR))::zs 47 [],.none⟩
def OD {R:Type}(X:SD.D Di)(K:Ex→AS→Option R):=Pu.k8 (λy0=>ke 0 K Di ((z1 (u y0) X.1),X.2)) (λy0 y1=>kr K Di ((w y0 (u y1) X.1),X.2)) X.1.1 X.2.1.1
def TR:cA:=iO Di OD (λX=>X.1.2.1)
def YN:cY:=(cY.nil).add 4 TR
theorem Tk:g7 E g91 Z0 YN (aX Tryz.f91 0):=lk Di OD (λX=>X.1.2.1) λX x=>((z1 (u x) X.1),X.2)
theorem Yp:aP Tryz.prog 91 Wr:=fk Z0 ((base.add yH).add Yq) Tryz.func91 (Λ:=YN) (cF Tk nF)
def Sn:aW:=aN [pf (.sl dR)] [(true,(.sl (.own none) dR))] (c1 Pu.mB)
theorem UD:aP Tryz.prog 176 Sn:=f0 {} base Tryz.func176
def Sc:aW:=aN [pf (.sl dR),pf ij,pI] [(true,(.sl (.own none) dR)),rB] (c3 Pu.oK)
def WA:cD:=((((cD.nil.add 73 My).add 91 Wr).add 95 Ws).add 137 O4).add 176 Sn
def T6:An:={mask:=mk [(6,[2,3,4,6,8,9,10])],merge:=mg [(2,21),(6,31)],mv:=[22,49,57]}
abbrev BB:SD:=⟨B::B::DI::.ptr 3 0::.ptr 4 0::B::.ptr 6 0::B::.ptr 8 0::DI::DI::bs 47 [],Z::Z::Z::(some (.sl .arg dR))::(some (.pair (.int .i64) Y1))::Z::(some (.sl (.own (some 73729)) dR))::Z::(some (.sl (.own (some 98305)) dR))::zs 49 [],.none⟩
def L1 {R:Type}(X:SD.D BB)(K:Ex→AS→Option R):=Pu.n8 (λy0 y1=>ke 0 K BB ((z1 (w y0 (u y1)) X.1),X.2)) X.1.1 X.2.1.1 X.2.1.2.1 X.2.1.2.2.1 X.2.1.2.2.2.1
def Qd:cA:=iO BB L1 (λX=>(X.1.2.1,q2 X))
def Rs:cY:=(cY.nil).add 6 Qd
theorem Pz:g7 E WA T6 Rs (aX Tryz.f146 0):=lk BB L1 (λX=>(X.1.2.1,q2 X)) λX x=>((z1 (w x.1 (u x.2)) X.1),X.2)
theorem Xt:aP Tryz.prog 146 Sc:=fk T6 (((((base.add yH).add Yp).add Yq).add UA).add UD) Tryz.func146 (Λ:=Rs) (cF Pz nF)
def Sd:aW:=fb (.pair (.sl .arg0 (.int .u8)) (.pair (.int .i64) (.int .i64))) [] [(true,(.pair (.int .i64) Y1))] λx a=>Pu.oO x
theorem Xu:aP Tryz.prog 147 Sd:=aP.kl (kk (an:={}) (Λ:=cY.nil) (((base.add Jj).add Np).add Ym) Tryz.func147 (by kernel_rfl) (ao nF)) (λx a=>by kernel_rfl)
def RX:aW:=fb (.pair (.sl .arg0 (.int .u8)) (.pair (.int .i64) (.int .i64))) [] [(true,RP),rI] λx a=>Pu.ki x
def Pc:cD:=((((((cD.nil.add 24 O9).add 51 SF).add 107 O2).add 144 Sa).add 145 Sb).add 146 Sc).add 147 Sd
def QE:An:={mask:=mk [(7,[0,2,4,6,7]),(11,[0,2,4,6,8])],mv:=[11,16,49,58,61],sb:=mg [(52,0),(54,0),(60,4)]}
abbrev Br:SD:=⟨.ptr 0 0::B::.ptr 2 0::B::.ptr 4 0::B::DI::DI::bs 55 [],(some Y3)::Z::(some YS)::Z::(some Ve)::zs 58 [],.ptr⟩
def LO {R:Type}(X:SD.D Br)(K:Ex→AS→Option R):=Pu.e7 (λy0 y1=>ke 0 K Br ((z1 (u y0) X.1),(z2 (u y1) X.2.1),X.2.2)) X.1.1 X.2.1.1 X.2.1.2.1
def P2:cA:=iO Br LO (λX=>(X.1.2.1,X.2.1.2.2.1))
abbrev xd:SD:=⟨.ptr 0 0::B::.ptr 2 0::B::.ptr 4 0::B::DI::B::DI::bs 54 [],(some Y3)::Z::(some YS)::Z::(some Ve)::zs 58 [],.ptr⟩
def Ib {R:Type}(X:SD.D xd)(K:Ex→AS→Option R):=Pu.dW (λy0 y1 y2=>ke 2 K xd ((z1 (u y0) X.1),(w y1 (z1 (u y2)) X.2.1),X.2.2)) X.1.1 X.2.1.2.1
def M8:cA:=iO xd Ib (λX=>(X.1.2.1,X.2.1.1,X.2.1.2.2.1))
def ON:cY:=((cY.nil).add 7 P2).add 11 M8
theorem Pn:g7 E Pc QE ON (aX Tryz.f104 0):=lk Br LO (λX=>(X.1.2.1,X.2.1.2.2.1)) λX x=>((z1 (u x.1) X.1),(z2 (u x.2) X.2.1),X.2.2)
theorem M4:g7 E Pc QE ON (aX Tryz.f104 1):=lk xd Ib (λX=>(X.1.2.1,X.2.1.1,X.2.1.2.2.1)) λX x=>((z1 (u x.1) X.1),(w x.2.1 (z1 (u x.2.2)) X.2.1),X.2.2)
theorem W2:aP Tryz.prog 104 RX:=aP.kl (kk (Γ:=Pc) (an:=QE) (Λ:=ON) (((((((base.add Jj).add QT).add Us).add Xr).add Xs).add Xt).add Xu) Tryz.func104 (by kernel_rfl) (ao (cF Pn (cF M4 nF)))) (λx a=>by kernel_rfl)
def Za:aW:=aN [pf lF] [rB] (c1 Pu.kL)
def g37:cD:=cD.nil.add 73 My
def ZM:An:={mask:=mk [(2,[1,2,3])],merge:=mg [(4,35),(6,2)]}
abbrev C4:SD:=⟨B::.ptr 1 0::DB::DI::bs 41 [],Z::(some (.pair (.int .i64) (.pair .bool (.sl .arg (.int .i64)))))::zs 43 [],.none⟩
def Og {R:Type}(X:SD.D C4)(K:Ex→AS→Option R):=Pu.jU (λy0=>ke 0 K C4 ((z1 (u y0) X.1),X.2)) (λy0 y1=>kr K C4 ((w y0 (u y1) X.1),X.2)) X.1.1 X.2.1.1
def Tx:cA:=iO C4 Og (λX=>X.1.2.1)
def Yz:cY:=(cY.nil).add 2 Tx
theorem S0:g7 E g37 ZM Yz (aX Tryz.f37 0):=lk C4 Og (λX=>X.1.2.1) λX x=>((z1 (u x) X.1),X.2)
theorem o37:aP Tryz.prog 37 Za:=fk ZM (base.add yH) Tryz.func37 (Λ:=Yz) (cF S0 nF)
def R5:aW:=aN [pf eN] [rB] (c1 Pu.fw)
theorem Uz:aP Tryz.prog 134 R5:=f0 {merge:=mg [(1,33),(3,54),(5,2)]} (base.add yH) Tryz.func134
def Wq:aW:=aN [pd (.sl eN)] [rB] (c1 Pu.mx)
def g90:cD:=cD.nil.add 134 R5
def ZZ:An:={mask:=mk [(2,[0,2,3])]}
abbrev Dh:SD:=⟨.data false (.sl .arg eN)::B::DB::DI::bs 15 [],zs 19 [],.none⟩
def OC {R:Type}(X:SD.D Dh)(K:Ex→AS→Option R):=Pu.k7 (λy0=>ke 0 K Dh ((z2 (u y0) X.1),X.2)) (λy0 y1=>kr K Dh ((z1 (w y0 (u y1)) X.1),X.2)) X.1.1 X.1.2.1
def TQ:cA:=iO Dh OC q2
def YM:cY:=(cY.nil).add 2 TQ
theorem Tj:g7 E g90 ZZ YM (aX Tryz.f90 0):=lk Dh OC q2 λX x=>((z2 (u x) X.1),X.2)
theorem o90:aP Tryz.prog 90 Wq:=fk ZZ (base.add Uz) Tryz.func90 (Λ:=YM) (cF Tj nF)
def R6:aW:=aN [pI] [rB] (c1 Pu.oP)
theorem Xk:aP Tryz.prog 135 R6:=f0 {merge:=mg [(1,2)]} base Tryz.func135
def Zs:aW:=aN [pf oq,pI] [rB] (c2 Pu.kR)
def g92:cD:=(cD.nil.add 73 My).add 135 R6
def Z1:An:={mask:=mk [(4,[1,2,4,5])],merge:=mg [(1,21)]}
abbrev Dj:SD:=⟨B::DI::.ptr 2 0::B::DB::DI::bs 32 [],Z::Z::(some (.pair .str (.sl .arg (.int .i64))))::zs 35 [],.none⟩
def OE {R:Type}(X:SD.D Dj)(K:Ex→AS→Option R):=Pu.jY (λy0=>ke 0 K Dj ((z2 (u y0) X.1),X.2)) (λy0 y1=>kr K Dj ((z1 (w y0 (u y1)) X.1),X.2)) X.1.1 X.1.2.1 X.2.1.1
def TS:cA:=iO Dj OE q2
def YO:cY:=(cY.nil).add 4 TS
theorem Tl:g7 E g92 Z1 YO (aX Tryz.f92 0):=lk Dj OE q2 λX x=>((z2 (u x) X.1),X.2)
theorem o92:aP Tryz.prog 92 Zs:=fk Z1 ((base.add yH).add Xk) Tryz.func92 (Λ:=YO) (cF Tl nF)
def Zb:aW:=aN [pf gJ,pI] [rB] (c2 Pu.iv)
def ZD:cD:=((cD.nil.add 90 Wq).add 91 Wr).add 92 Zs
def WY:An:={mask:=mk [(4,[1,2,4,5]),(9,[1,2,4,6])],merge:=mg [(1,23)]}
abbrev C6:SD:=⟨B::DI::.ptr 2 0::B::DB::DI::bs 50 [],Z::Z::(some U2)::zs 53 [],.none⟩
def Oi {R:Type}(X:SD.D C6)(K:Ex→AS→Option R):=Pu.ie (λy0=>ke 0 K C6 ((z2 (u y0) X.1),X.2)) (λy0 y1=>kr K C6 ((z1 (w y0 (u y1)) X.1),X.2)) X.1.1 X.1.2.1 X.2.1.1
def Tz:cA:=iO C6 Oi q2
abbrev C7:SD:=⟨B::DI::.ptr 2 0::B::DB::B::DI::bs 49 [],Z::Z::(some U2)::zs 53 [],.none⟩
def Oj {R:Type}(X:SD.D C7)(K:Ex→AS→Option R):=Pu.ig (λy0=>ke 2 K C7 ((z2 (u y0) X.1),X.2)) (λy0 y1=>kr K C7 ((z1 (w y0 (u y1)) X.1),X.2)) X.1.1 X.1.2.1 X.2.1.1
def TA:cA:=iO C7 Oj q2
def Va:cY:=((cY.nil).add 4 Tz).add 9 TA
theorem S2:g7 E ZD WY Va (aX Tryz.f39 0):=lk C6 Oi q2 λX x=>((z2 (u x) X.1),X.2)
theorem S3:g7 E ZD WY Va (aX Tryz.f39 1):=lk C7 Oj q2 λX x=>((z2 (u x) X.1),X.2)
theorem o39:aP Tryz.prog 39 Zb:=fk WY (((base.add o90).add Yp).add o92) Tryz.func39 (Λ:=Va) (cF S2 (cF S3 nF))
def We:aW:=aN [pf fT] [rB] (c1 Pu.qi)
theorem X3:aP Tryz.prog 195 We:=f0 {merge:=mg [(1,2)]} base Tryz.func195
def V0:aW:=aN [pf fT] [rB] (c1 Pu.iR)
theorem XR:aP Tryz.prog 177 V0:=f0 {merge:=mg [(1,24),(3,2)]} ((base.add yH).add X3) Tryz.func177
def Se:aW:=aN [pI,pI] [(true,Vf),rB] (c2 Pu.mr)
theorem Xv:aP Tryz.prog 148 Se:=f0 {} (base.add XR) Tryz.func148
def Sf:aW:=aN [pI] [(true,(.sl (.own none) .str))] (c1 Pu.jx)
def WB:cD:=cD.nil.add 108 O3
def T7:An:={mask:=mk [(3,[0,2,3,4])],merge:=mg [(3,12)],mv:=[16,21],mb:=mg [(16,3)],sb:=mg [(20,3)]}
abbrev BC:SD:=⟨DI::B::.ptr 2 0::.ptr 3 0::DI::bs 17 [],Z::Z::(some (.sl (.own (some 24577)) .str))::(some (.sl (.own (some 36865)) .str))::zs 18 [],.none⟩
def L2 {R:Type}(X:SD.D BC)(K:Ex→AS→Option R):=Pu.jf (λy0 y1=>ke 0 K BC ((z1 (u y0) X.1),(z1 (u y1) X.2.1),X.2.2)) X.1.1 X.2.1.1
def Qe:cA:=iO BC L2 (λX=>(X.1.2.1,X.2.1.2.1))
def Rt:cY:=(cY.nil).add 3 Qe
theorem PA:g7 E WB T7 Rt (aX Tryz.f149 0):=lk BC L2 (λX=>(X.1.2.1,X.2.1.2.1)) λX x=>((z1 (u x.1) X.1),(z1 (u x.2) X.2.1),X.2.2)
theorem Xw:aP Tryz.prog 149 Sf:=fk T7 (base.add Nl) Tryz.func149 (Λ:=Rt) (cF PA nF)
def O6:aW:=aN [pf kq] [rB] (c1 Pu.lB)
def WL:cD:=cD.nil.add 73 My
def Ug:An:={mask:=mk [(5,[1,2,3,4])],merge:=mg [(1,20),(7,50)]}
abbrev xG:SD:=⟨B::.ptr 1 0::DB::.data false (.sl (.own (some 36864)) .bool)::DI::bs 53 [],Z::(some RO)::zs 56 [],.none⟩
def Md {R:Type}(X:SD.D xG)(K:Ex→AS→Option R):=Pu.mu (λy0 y1=>ke 0 K xG ((z1 (w y0 (u y1)) X.1),X.2)) (λy0 y1 y2=>kr K xG ((w y0 (w y1 (u y2)) X.1),X.2)) X.1.1 X.2.1.1
def Qp:cA:=iO xG Md (λX=>(X.1.2.1,q2 X))
def RE:cY:=(cY.nil).add 5 Qp
theorem PM:g7 E WL Ug RE (aX Tryz.f196 0):=lk xG Md (λX=>(X.1.2.1,q2 X)) λX x=>((z1 (w x.1 (u x.2)) X.1),X.2)
theorem QR:aP Tryz.prog 196 O6:=fk Ug (base.add yH) Tryz.func196 (Λ:=RE) (cF PM nF)
def V1:aW:=aN [pI,pI,pI] [(true,OT),rB] (c3 Pu.mq)
def WE:cD:=cD.nil.add 196 O6
def Ua:An:={mask:=mk [(3,[2,6,8,9])],merge:=mg [(3,20)],mv:=[24,33]}
abbrev BH:SD:=⟨B::B::DI::B::B::B::.ptr 6 0::B::.ptr 8 0::DI::bs 24 [],zs 6 ((some (.pair (.int .i64) (.pair (.int .i64) (.pair (.int .i64) (.sl (.own (some 73738)) (.int .i64))))))::Z::(some (.pair (.int .i64) (.pair (.int .i64) (.pair (.int .i64) (.sl (.own (some 98314)) (.int .i64))))))::zs 25 []),.none⟩
def L7 {R:Type}(X:SD.D BH)(K:Ex→AS→Option R):=Pu.iu (λy0 y1=>ke 0 K BH ((z1 (u y0) X.1),(z1 (u y1) X.2.1),X.2.2)) X.1.1 X.2.1.1
def Qj:cA:=iO BH L7 (λX=>(X.1.2.1,X.2.1.2.1))
def Rx:cY:=(cY.nil).add 3 Qj
theorem PG:g7 E WE Ua Rx (aX Tryz.f178 0):=lk BH L7 (λX=>(X.1.2.1,X.2.1.2.1)) λX x=>((z1 (u x.1) X.1),(z1 (u x.2) X.2.1),X.2.2)
theorem UE:aP Tryz.prog 178 V1:=fk Ua (base.add QR) Tryz.func178 (Λ:=Rx) (cF PG nF)
def Sg:aW:=aN [] [(true,(.pair Y1 (.pair OT (.pair (.sl (.own none) mH) (.int .i64)))))] λa=>Pu.nE
theorem Xx:aP Tryz.prog 150 Sg:=f0 {mv:=[4,9]} (base.add UE) Tryz.func150
def Sh:aW:=aN [pf lF] [(true,RQ)] (c1 Pu.oU)
theorem Xy:aP Tryz.prog 151 Sh:=f0 {sb:=mg [(2,2)]} base Tryz.func151
def Si:aW:=aN [pf gJ] [(true,RP)] (c1 Pu.oR)
theorem Xz:aP Tryz.prog 152 Si:=f0 {sb:=mg [(2,2)]} (base.add UD) Tryz.func152
def MM:aW:=aN [pf (.sl .str)] [(true,(.sl (.own none) .str))] (c1 Pu.gk)
theorem Nn:aP Tryz.prog 198 MM:=f0 {} base Tryz.func198
def SB:aW:=aN [pd (.sl cB)] [rB] (c1 Pu.k6)
def SP:cD:=cD.nil.add 73 My
def QI:An:={mask:=mk [(4,[0,2,3]),(10,[0,2,3,4,5])],merge:=mg [(7,34),(12,57)]}
abbrev uv:SD:=⟨.data false (.sl .arg cB)::B::DB::DI::.ptr 4 0::DI::bs 52 [],zs 4 ((some (.pair (.int .i64) (.pair (.int .i64) (.pair (.int .i64) .bool))))::zs 53 []),.none⟩
def Ie {R:Type}(X:SD.D uv)(K:Ex→AS→Option R):=Pu.gE (λy0=>ke 2 K uv ((z3 (u y0) X.1),X.2)) (λy0 y1=>kr K uv ((z1 (w y0 (z1 (u y1))) X.1),X.2)) X.1.1 X.1.2.1 (q2 X) X.2.1.1
def Na:cA:=iO uv Ie q3
abbrev xI:SD:=⟨.data false (.sl .arg cB)::B::DB::DI::bs 54 [],zs 58 [],.none⟩
def Mj {R:Type}(X:SD.D xI)(K:Ex→AS→Option R):=Pu.ic (λy0=>ke 0 K xI ((z2 (u y0) X.1),X.2)) (λy0 y1=>kr K xI ((z1 (w y0 (u y1)) X.1),X.2)) X.1.1 X.1.2.1
def Qv:cA:=iO xI Mj q2
def OS:cY:=((cY.nil).add 10 Na).add 4 Qv
theorem M6:g7 E SP QI OS (aX Tryz.f220 1):=lk uv Ie q3 λX x=>((z3 (u x) X.1),X.2)
theorem PU:g7 E SP QI OS (aX Tryz.f220 0):=lk xI Mj q2 λX x=>((z2 (u x) X.1),X.2)
theorem Yh:aP Tryz.prog 220 SB:=fk QI (base.add yH) Tryz.func220 (Λ:=OS) (cF PU (cF M6 nF))
def SC:aW:=aN [pf (.sl .str)] [rB] (c1 Pu.kN)
def WS:cD:=cD.nil
def Um:An:={mask:=mk [(2,[1,2,3])]}
abbrev xJ:SD:=⟨B::.ptr 1 0::DB::DI::bs 18 [],Z::(some (.sl .arg .str))::zs 20 [],.none⟩
def Mk {R:Type}(X:SD.D xJ)(K:Ex→AS→Option R):=Pu.jV (λy0=>ke 0 K xJ ((z1 (u y0) X.1),X.2)) (λy0 y1=>kr K xJ ((w y0 (u y1) X.1),X.2)) X.1.1 X.2.1.1
def Qw:cA:=iO xJ Mk (λX=>X.1.2.1)
def RK:cY:=(cY.nil).add 2 Qw
theorem PV:g7 E WS Um RK (aX Tryz.f221 0):=lk xJ Mk (λX=>X.1.2.1) λX x=>((z1 (u x) X.1),X.2)
theorem UN:aP Tryz.prog 221 SC:=fk Um base Tryz.func221 (Λ:=RK) (cF PV nF)
def SE:aW:=aN [pd (.sl cB),pI,pI,pd .bool] [rI] (c4 Pu.oS)
def WT:cD:=cD.nil
def Un:An:={mask:=mk [(2,[0,1,2,3,8,9])],merge:=mg [(4,42)]}
abbrev xK:SD:=⟨.data false (.sl .arg cB)::DI::DI::DB::bs 4 (DI::DI::bs 38 []),zs 48 [],.none⟩
def Ml {R:Type}(X:SD.D xK)(K:Ex→AS→Option R):=Pu.lb (λy0=>ke 0 K xK ((z5 (u y0) X.1),X.2)) (λy0 y1=>kr K xK ((z4 (w y0 (u y1)) X.1),X.2)) X.1.1 X.1.2.1 (q2 X) (q3 X) (q4 X)
def Qx:cA:=iO xK Ml q5
def RL:cY:=(cY.nil).add 2 Qx
theorem PW:g7 E WT Un RL (aX Tryz.f222 0):=lk xK Ml q5 λX x=>((z5 (u x) X.1),X.2)
theorem Yi:aP Tryz.prog 222 SE:=fk Un base Tryz.func222 (Λ:=RL) (cF PW nF)
def O8:aW:=aN [pf (.sl .str),pI,pI] [rB] (c3 Pu.g5)
theorem UO:aP Tryz.prog 223 O8:=f0 {merge:=mg [(2,6)]} (base.add UN) Tryz.func223
def Sy:aW:=aN [pd (.sl cB),pf (.sl .str),pI,pI,pI,pd .bool] [(false,(.sl (.own none) (.int .i64))),(false,(.sl (.own none) (.int .i64))),rB] (c6 Pu.nD)
def WQ:cD:=((((cD.nil.add 73 My).add 220 SB).add 221 SC).add 222 SE).add 223 O8
def Uk:An:={mask:=mk [(5,[0,2,3,4,5,7,12,13,14,15,16])],merge:=mg [(3,34),(10,57)],mv:=[35,36,64,71,81,82]}
abbrev xH:SD:=⟨.data false (.sl .arg cB)::B::DI::DI::DI::DB::B::.ptr 7 0::bs 4 (.data false (.sl (.own (some 147456)) (.int .i64))::.data false (.sl (.own (some 159744)) (.int .i64))::DB::.data false (.sl (.own (some 184320)) (.int .i64))::.data false (.sl (.own (some 196608)) (.int .i64))::bs 66 []),zs 7 ((some (.sl .arg .str))::zs 75 []),.none⟩
def Mh {R:Type}(X:SD.D xH)(K:Ex→AS→Option R):=Pu.fB (λy0 y1 y2 y3=>ke 0 K xH ((z2 (w y0 (w y1 (z4 (w y2 (u y3))))) X.1),X.2)) (λy0 y1 y2 y3 y4 y5 y6=>kr K xH ((z2 (w y0 (w y1 (z1 (w y2 (w y3 (w y4 (w y5 (u y6)))))))) X.1),X.2)) X.1.1 X.1.2.1 (q4 X) (q5 X) (q6 X) (q7 X) X.2.1.1
def Qt:cA:=iO xH Mh (λX=>(q2 X,q3 X,q8 X,q9 X))
def RI:cY:=(cY.nil).add 5 Qt
theorem PR:g7 E WQ Uk RI (aX Tryz.f213 0):=lk xH Mh (λX=>(q2 X,q3 X,q8 X,q9 X)) λX x=>((z2 (w x.1 (w x.2.1 (z4 (w x.2.2.1 (u x.2.2.2))))) X.1),X.2)
theorem Yc:aP Tryz.prog 213 Sy:=fk Uk (((((base.add yH).add Yh).add UN).add Yi).add UO) Tryz.func213 (Λ:=RI) (cF PR nF)
def Sz:aW:=aN [pf (.sl .str),pI,pd .str] [(true,(.sl (.own none) .str)),rB] (c3 Pu.kf)
def WR:cD:=((cD.nil.add 52 Wn).add 198 MM).add 223 O8
def Ul:An:={mask:=mk [(4,[1,2,6,8])],mv:=[19,52]}
abbrev BQ:SD:=⟨B::DI::.data false .str::B::B::B::.ptr 6 0::B::.ptr 8 0::bs 44 [],zs 6 ((some (.sl (.own (some 73729)) .str))::Z::(some (.sl (.own (some 98305)) .str))::zs 44 []),.none⟩
def Mi {R:Type}(X:SD.D BQ)(K:Ex→AS→Option R):=Pu.gG (λy0 y1 y2=>ke 0 K BQ ((w y0 (u y1) X.1),(z1 (u y2) X.2.1),X.2.2)) X.2.1.1
def Qu:cA:=iO BQ Mi (λX=>(X.1.1,X.1.2.1,X.2.1.2.1))
def RJ:cY:=(cY.nil).add 4 Qu
theorem PT:g7 E WR Ul RJ (aX Tryz.f214 0):=lk BQ Mi (λX=>(X.1.1,X.1.2.1,X.2.1.2.1)) λX x=>((w x.1 (u x.2.1) X.1),(z1 (u x.2.2) X.2.1),X.2.2)
theorem Yd:aP Tryz.prog 214 Sz:=fk Ul (((base.add U5).add Nn).add UO) Tryz.func214 (Λ:=RJ) (cF PT nF)
def Sp:aW:=aN [pd (.sl cB),pf (.sl .str),pI,pI,pd .str] [(true,(.sl (.own none) .str)),rB] (c5 Pu.kK)
def WM:cD:=((cD.nil.add 198 MM).add 213 Sy).add 214 Sz
def Uh:An:={mask:=mk [(6,[4,10,12,13,15,16])],mv:=[32,39,52,60],sb:=mg [(15,15)]}
abbrev BN:SD:=⟨bs 4 (.data false .str::bs 5 (.ptr 10 0::B::.data false (.sl .loc (.int .i64))::.data false (.sl .loc (.int .i64))::B::.ptr 15 0::DI::bs 44 [])),zs 10 ((some (.sl (.own (some 122881)) .str))::zs 4 ((some (.sl (.own (some 184321)) .str))::zs 45 [])),.none⟩
def Me {R:Type}(X:SD.D BN)(K:Ex→AS→Option R):=Pu.gS (λy0 y1 y2=>ke 0 K BN ((w y0 (z2 (u y1)) X.1),(z1 (u y2) X.2.1),X.2.2)) X.1.2.1 (q2 X) X.2.1.1
def Qq:cA:=iO BN Me (λX=>(X.1.1,q3 X,X.2.1.2.1))
def RF:cY:=(cY.nil).add 6 Qq
theorem PN:g7 E WM Uh RF (aX Tryz.f197 0):=lk BN Me (λX=>(X.1.1,q3 X,X.2.1.2.1)) λX x=>((w x.1 (z2 (u x.2.1)) X.1),(z1 (u x.2.2) X.2.1),X.2.2)
theorem UI:aP Tryz.prog 197 Sp:=fk Uh (((base.add Nn).add Yc).add Yd) Tryz.func197 (Λ:=RF) (cF PN nF)
def V2:aW:=aN [pd (.sl cB),pf (.sl .str),pI,pI,pd .str] [(true,(.sl (.own none) .str)),rB] (c5 Pu.mj)
def WG:cD:=cD.nil.add 197 Sp
def Ub:An:={mask:=mk [(3,[0,2,3,4,6,10,12,13])],mv:=[27]}
abbrev BI:SD:=⟨.data false (.sl .arg cB)::B::DI::DI::.data false .str::B::.ptr 6 0::B::B::B::.ptr 10 0::B::.data false (.sl (.own (some 147456)) cB)::DI::bs 25 [],zs 6 ((some (.sl .arg .str))::Z::Z::Z::(some (.sl (.own (some 122881)) .str))::zs 28 []),.none⟩
def L8 {R:Type}(X:SD.D BI)(K:Ex→AS→Option R):=Pu.jd (λy0 y1=>ke 0 K BI ((z4 (w y0 (u y1)) X.1),X.2)) X.1.1 X.1.2.1 (q2 X) (q3 X) X.2.1.1 X.2.1.2.1
def Qk:cA:=iO BI L8 (λX=>(q4 X,q5 X))
def Ry:cY:=(cY.nil).add 3 Qk
theorem PH:g7 E WG Ub Ry (aX Tryz.f179 0):=lk BI L8 (λX=>(q4 X,q5 X)) λX x=>((z4 (w x.1 (u x.2)) X.1),X.2)
theorem XS:aP Tryz.prog 179 V2:=fk Ub (base.add UI) Tryz.func179 (Λ:=Ry) (cF PH nF)
def Sq:aW:=aN [pf kq] [(true,OT)] (c1 Pu.oT)
theorem X4:aP Tryz.prog 199 Sq:=f0 {sb:=mg [(2,2)]} base Tryz.func199
def Wi:aW:=aN [pI] [rB] (c1 Pu.mC)
theorem UL:aP Tryz.prog 215 Wi:=f0 {merge:=mg [(1,2)]} base Tryz.func215
def Wj:aW:=aN [pf rD] [rI] (c1 Pu.kQ)
theorem UM:aP Tryz.prog 216 Wj:=f0 {} (base.add UL) Tryz.func216
def Sr:aW:=aN [pf rD] [rB] (c1 Pu.lC)
theorem QS:aP Tryz.prog 200 Sr:=f0 {merge:=mg [(1,2)]} (((base.add yH).add UL).add UM) Tryz.func200
def Ss:aW:=aN [pf rD] [rI] (c1 Pu.kP)
theorem UJ:aP Tryz.prog 201 Ss:=f0 {} ((base.add QS).add UM) Tryz.func201
def Wk:aW:=aN [pf rD,pI] [rI] (c2 Pu.jX)
theorem Ye:aP Tryz.prog 217 Wk:=f0 {merge:=mg [(1,11)]} (base.add QS) Tryz.func217
def St:aW:=aN [pd (.sl cB),pf (.sl .str),pI,pf rD,pd .str] [(true,(.sl (.own none) .str)),(true,Y1),rB] (c5 Pu.oL)
theorem X5:aP Tryz.prog 202 St:=f0 {merge:=mg [(1,22)],mv:=[26,36,51],mb:=mg [(51,13)],sb:=mg [(10,10),(11,11),(13,13)]} ((((base.add UI).add Nn).add UJ).add Ye) Tryz.func202
def Wl:aW:=aN [pf Hj] [rB] (c1 Pu.qf)
theorem Yf:aP Tryz.prog 218 Wl:=f0 {merge:=mg [(1,2)]} (base.add yH) Tryz.func218
def Su:aW:=aN [pf Hj] [rS] (c1 Pu.k5)
theorem X6:aP Tryz.prog 203 Su:=f0 {} (((base.add N4).add Ji).add Yf) Tryz.func203
def Sv:aW:=aN [pf kq,pI] [rI] (c2 Pu.ia)
theorem X7:aP Tryz.prog 204 Sv:=f0 {merge:=mg [(1,15)]} ((base.add yH).add QR) Tryz.func204
def V3:aW:=aN [pd (.sl cB),pf (.sl .str),pI,pf rD,pf kq] [(true,(.sl (.own none) .str)),(true,Y1),(true,OT),rI] (c5 Pu.ns)
def WH:cD:=(((((((cD.nil.add 196 O6).add 198 MM).add 199 Sq).add 200 Sr).add 201 Ss).add 202 St).add 203 Su).add 204 Sv
def Uc:An:={mask:=mk [(6,[0,2,8,9,10,11,12,14,15,16])],merge:=mg [(4,32),(6,44)],mv:=[33,35,49,63,68,78,80],mb:=mg [(33,14),(35,15),(78,14),(80,15)],sb:=mg [(10,10),(11,11),(12,12),(18,18),(19,19)]}
abbrev BJ:SD:=⟨.data false (.sl .arg cB)::B::DI::bs 5 (.ptr 8 0::.ptr 9 0::.ptr 10 0::.ptr 11 0::.ptr 12 0::B::.ptr 14 0::.ptr 15 0::DI::bs 65 []),zs 8 ((some Y1)::(some RO)::(some (.sl (.own (some 122881)) .str))::(some Y1)::(some (.pair (.int .i64) (.pair (.int .i64) (.pair (.int .i64) (.sl (.own (some 147466)) (.int .i64))))))::Z::(some (.sl (.own (some 172033)) .str))::(some (.pair (.int .i64) (.pair (.int .i64) (.pair (.int .i64) (.sl (.own (some 184330)) (.int .i64))))))::zs 66 []),.none⟩
def L9 {R:Type}(X:SD.D BJ)(K:Ex→AS→Option R):=Pu.gT (λy0 y1 y2 y3=>ke 0 K BJ ((z2 (u y0) X.1),(w y1 (z4 (w y2 (u y3))) X.2.1),X.2.2)) X.1.1 X.1.2.1 X.2.1.2.1 X.2.1.2.2.1 X.2.1.2.2.2.1 X.2.1.2.2.2.2.1
def Ql:cA:=iO BJ L9 (λX=>(q2 X,X.2.1.1,X.2.1.2.2.2.2.2.1,X.2.1.2.2.2.2.2.2.1))
def Rz:cY:=(cY.nil).add 6 Ql
theorem PI:g7 E WH Uc Rz (aX Tryz.f180 0):=lk BJ L9 (λX=>(q2 X,X.2.1.1,X.2.1.2.2.2.2.2.1,X.2.1.2.2.2.2.2.2.1)) λX x=>((z2 (u x.1) X.1),(w x.2.1 (z4 (w x.2.2.1 (u x.2.2.2))) X.2.1),X.2.2)
theorem XT:aP Tryz.prog 180 V3:=fk Uc ((((((((base.add QR).add Nn).add X4).add QS).add UJ).add X5).add X6).add X7) Tryz.func180 (Λ:=Rz) (cF PI nF)
def Sj:aW:=fb (.pair (.sl (.own none) .str) (.pair (.sl (.own none) cB) (.pair (.pair (.pair (.int .i64) (.pair (.int .i64) (.pair (.int .i64) (.int .i64)))) (.pair (.pair (.int .i64) (.pair (.int .i64) (.pair (.int .i64) (.sl (.own none) (.int .i64))))) (.pair (.sl (.own none) mH) (.int .i64)))) (.pair (.sl (.own none) fS) (.pair (.sl (.own none) kq) (.pair (.sl (.own none) fT) (.pair (.sl (.own none) .bool) (.pair (.pair (.int .i64) (.pair .bool (.sl (.own none) (.int .i64)))) (.pair (.pair (.sl (.own none) eN) (.pair (.sl (.own none) dR) (.pair .str (.sl (.own none) (.int .i64))))) (.pair (.sl (.own none) bF) (.pair .bool (.pair (.sl (.own none) .str) (.pair (.sl (.own none) (.int .i64)) (.pair (.sl (.own none) (.int .i64)) (.pair (.int .i64) (.pair (.int .i64) (.pair (.int .i64) (.pair (.int .i64) (.int .i64))))))))))))))))))) [pI] [] λx a=>Pu.mF x a.1
theorem XA:aP Tryz.prog 153 Sj:=aP.kl (kk (an:={mv:=[47,51,65,67,84],mb:=mg [(84,6)],sb:=mg [(6,6),(50,0),(70,0),(71,5)]}) (Λ:=cY.nil) ((((base.add Nl).add UE).add XS).add XT) Tryz.func153 (by kernel_rfl) (ao nF)) (λx a=>by kernel_rfl)
def RY:aW:=aN [pI,pf lF,pf gJ,pd .bool,pI,pI] [(true,Y2),rB] (c6 Pu.mn)
def SK:cD:=((((((((cD.nil.add 37 Za).add 39 Zb).add 73 My).add 148 Se).add 149 Sf).add 150 Sg).add 151 Sh).add 152 Si).add 153 Sj
def QF:An:={mask:=mk [(6,[0,12,14,16,17]),(10,[0,12,14,16,18])],merge:=mg [(2,42)],mv:=[57,74,80,86,92,98],mb:=mg [(57,16)],sb:=mg [(16,16),(67,16)]}
abbrev Bs:SD:=⟨DI::bs 11 (.ptr 12 0::B::.ptr 14 0::B::.ptr 16 0::DI::bs 81 []),zs 12 ((some Y5)::Z::(some Vf)::Z::(some Y4)::zs 82 []),.none⟩
def LP {R:Type}(X:SD.D Bs)(K:Ex→AS→Option R):=Pu.n7 (λy0 y1=>ke 0 K Bs ((z1 (u y0) X.1),(z2 (u y1) X.2.1),X.2.2)) X.1.1 X.2.1.1 X.2.1.2.1
def P3:cA:=iO Bs LP (λX=>(X.1.2.1,X.2.1.2.2.1))
abbrev xe:SD:=⟨DI::bs 11 (.ptr 12 0::B::.ptr 14 0::B::.ptr 16 0::B::DI::bs 80 []),zs 12 ((some Y5)::Z::(some Vf)::Z::(some Y4)::zs 82 []),.none⟩
def Ic {R:Type}(X:SD.D xe)(K:Ex→AS→Option R):=Pu.mQ (λy0 y1=>ke 2 K xe ((z1 (u y0) X.1),(z2 (u y1) X.2.1),X.2.2)) X.1.1 X.2.1.1 X.2.1.2.1
def M9:cA:=iO xe Ic (λX=>(X.1.2.1,X.2.1.2.2.1))
def OO:cY:=((cY.nil).add 6 P3).add 10 M9
theorem Po:g7 E SK QF OO (aX Tryz.f105 0):=lk Bs LP (λX=>(X.1.2.1,X.2.1.2.2.1)) λX x=>((z1 (u x.1) X.1),(z2 (u x.2) X.2.1),X.2.2)
theorem M5:g7 E SK QF OO (aX Tryz.f105 1):=lk xe Ic (λX=>(X.1.2.1,X.2.1.2.2.1)) λX x=>((z1 (u x.1) X.1),(z2 (u x.2) X.2.1),X.2.2)
theorem W3:aP Tryz.prog 105 RY:=fk QF (((((((((base.add o37).add o39).add yH).add Xv).add Xw).add Xx).add Xy).add Xz).add XA) Tryz.func105 (Λ:=OO) (cF Po (cF M5 nF))
def RZ:aW:=fb (.pair (.sl .arg0 (.int .u8)) (.pair (.int .i64) (.int .i64))) [] [(true,RQ)] λx a=>Pu.mD x
theorem W4:aP Tryz.prog 106 RZ:=aP.kl (kk (an:={mv:=[11]}) (Λ:=cY.nil) (base.add QT) Tryz.func106 (by kernel_rfl) (ao nF)) (λx a=>by kernel_rfl)
def Zj:aW:=fb (.pair (.sl .arg0 (.int .u8)) (.pair (.int .i64) (.int .i64))) [] [(true,Y2)] λx a=>Pu.oV x
def WU:cD:=(((((cD.nil.add 24 O9).add 104 RX).add 105 RY).add 106 RZ).add 107 O2).add 108 O3
def W0:An:={mask:=mk [(2,[0,2,3]),(6,[0,2,3,4,5,6])],mv:=[15,32,46,49,50,60],sb:=mg [(7,7),(34,0),(37,0),(40,0),(43,0)]}
abbrev Hx:SD:=⟨.ptr 0 0::B::.ptr 2 0::DI::.ptr 4 0::DI::DI::bs 54 [],(some Y3)::Z::(some Y6)::Z::(some Ve)::zs 56 [],.ptr⟩
def Ot {R:Type}(X:SD.D Hx)(K:Ex→AS→Option R):=Pu.oe (λy0 y1=>ke 2 K Hx ((z2 (u y0) X.1),(z2 (u y1) X.2.1),X.2.2)) X.1.1 X.1.2.1 X.2.1.1 X.2.1.2.1
def TH:cA:=iO Hx Ot (λX=>(q2 X,X.2.1.2.2.1))
abbrev Da:SD:=⟨.ptr 0 0::B::.ptr 2 0::DI::bs 57 [],(some Y3)::Z::(some Y6)::zs 58 [],.ptr⟩
def Oq {R:Type}(X:SD.D Da)(K:Ex→AS→Option R):=Pu.od (λy0 y1=>ke 0 K Da ((u y0 X.1),(u y1 X.2.1),X.2.2)) (λy0 y1 y2=>kr K Da ((u y0 X.1),(w y1 (u y2) X.2.1),X.2.2)) X.2.1.2.1
def TG:cA:=iO Da Oq (λX=>(X.1.1,X.2.1.1))
def Vc:cY:=((cY.nil).add 6 TH).add 2 TG
theorem Ta:g7 E WU W0 Vc (aX Tryz.f55 1):=lk Hx Ot (λX=>(q2 X,X.2.1.2.2.1)) λX x=>((z2 (u x.1) X.1),(z2 (u x.2) X.2.1),X.2.2)
theorem S9:g7 E WU W0 Vc (aX Tryz.f55 0):=lk Da Oq (λX=>(X.1.1,X.2.1.1)) λX x=>((u x.1 X.1),(u x.2 X.2.1),X.2.2)
theorem o55:aP Tryz.prog 55 Zj:=aP.kl (kk (Γ:=WU) (an:=W0) (Λ:=Vc) ((((((base.add Jj).add W2).add W3).add W4).add Us).add Nl) Tryz.func55 (by kernel_rfl) (ao (cF S9 (cF Ta nF)))) (λx a=>by kernel_rfl)
def Zc:aW:=aN [pf ca] [(true,(.pair (.int .i64) Y1))] (c1 Pu.lA)
theorem Yj:aP Tryz.prog 43 Zc:=f0 {} base Tryz.func43
def Zu:aW:=aN [pd (.sl bF),pf ij] [rI] (c2 Pu.gW)
def g97:cD:=cD.nil
def Z3:An:={mask:=mk [(2,[0,3,4,5])]}
abbrev Dl:SD:=⟨.data false (.sl .arg bF)::B::B::.ptr 3 0::DI::DI::bs 14 [],Z::Z::Z::(some (.pair (.int .i64) Y1))::zs 16 [],.none⟩
def OG {R:Type}(X:SD.D Dl)(K:Ex→AS→Option R):=Pu.gF (λy0=>ke 0 K Dl ((z2 (u y0) X.1),X.2)) (λy0 y1=>kr K Dl ((z1 (w y0 (u y1)) X.1),X.2)) X.1.1 X.1.2.1 X.2.1.1
def TU:cA:=iO Dl OG q2
def YQ:cY:=(cY.nil).add 2 TU
theorem Tn:g7 E g97 Z3 YQ (aX Tryz.f97 0):=lk Dl OG q2 λX x=>((z2 (u x) X.1),X.2)
theorem o97:aP Tryz.prog 97 Zu:=fk Z3 base Tryz.func97 (Λ:=YQ) (cF Tn nF)
def Zk:aW:=fb (.pair (.sl .arg0 (.int .u8)) (.pair (.int .i64) (.int .i64))) [pd (.sl ca)] [(false,(.sl (.own none) bF))] λx a=>Pu.oN x a.1
def ZG:cD:=(((cD.nil.add 43 Zc).add 51 SF).add 54 SG).add 97 Zu
def ZR:An:={mask:=mk [(3,[0,1,5,6])],mv:=[45,52],sb:=mg [(41,0)]}
abbrev Hy:SD:=⟨.ptr 0 0::.data false (.sl .arg ca)::B::B::B::.data false (.sl (.own (some 61440)) bF)::DI::bs 46 [],(some Y3)::zs 52 [],.ptr⟩
def Ou {R:Type}(X:SD.D Hy)(K:Ex→AS→Option R):=Pu.oa (λy0 y1 y2=>ke 0 K Hy ((z1 (w y0 (u y1)) X.1),(u y2 X.2.1),X.2.2)) X.1.1
def TI:cA:=iO Hy Ou (λX=>(X.1.2.1,q2 X,X.2.1.1))
def YE:cY:=(cY.nil).add 3 TI
theorem Tb:g7 E ZG ZR YE (aX Tryz.f56 0):=lk Hy Ou (λX=>(X.1.2.1,q2 X,X.2.1.1)) λX x=>((z1 (w x.1 (u x.2.1)) X.1),(u x.2.2 X.2.1),X.2.2)
theorem o56:aP Tryz.prog 56 Zk:=aP.kl (kk (Γ:=ZG) (an:=ZR) (Λ:=YE) ((((base.add Yj).add QT).add Np).add o97) Tryz.func56 (by kernel_rfl) (ao (cF Tb nF))) (λx a=>by kernel_rfl)
def e22:aW:=fb (.pair (.sl .arg0 (.int .u8)) (.pair (.int .i64) (.int .i64))) [pd (.sl rX)] [(true,Y2)] λx a=>Pu.nG x a.1
def ZB:cD:=((cD.nil.add 13 Vz).add 55 Zj).add 56 Zk
def ZL:An:={mask:=mk [(4,[0,1,4,5,6,7])],mv:=[30,38]}
abbrev Ht:SD:=⟨.ptr 0 0::.data false (.sl .arg rX)::B::B::.ptr 4 0::.ptr 5 0::.data false (.sl (.own (some 73728)) ca)::DI::bs 31 [],(some Y3)::Z::Z::Z::(some (.pair (.sl (.own (some 49153)) .str) (.pair (.sl (.own (some 49156)) cB) (.pair (.pair Y1 (.pair (.pair (.int .i64) (.pair (.int .i64) (.pair (.int .i64) (.sl (.own (some 49180)) (.int .i64))))) (.pair (.sl (.own (some 49183)) mH) (.int .i64)))) (.pair (.sl (.own (some 49189)) fS) (.pair (.sl (.own (some 49192)) kq) (.pair (.sl (.own (some 49195)) fT) (.pair (.sl (.own (some 49198)) .bool) (.pair (.pair (.int .i64) (.pair .bool (.sl (.own (some 49207)) (.int .i64)))) (.pair (.pair (.sl (.own (some 49210)) eN) (.pair (.sl (.own (some 49213)) dR) (.pair .str (.sl (.own (some 49219)) (.int .i64))))) (.pair (.sl (.own (some 49222)) bF) (.pair .bool (.pair (.sl (.own (some 49228)) .str) (.pair (.sl (.own (some 49231)) (.int .i64)) (.pair (.sl (.own (some 49234)) (.int .i64)) (.pair (.int .i64) Y1))))))))))))))))::(some (.pair (.sl (.own (some 61441)) .str) (.pair (.sl (.own (some 61444)) cB) (.pair (.pair Y1 (.pair (.pair (.int .i64) (.pair (.int .i64) (.pair (.int .i64) (.sl (.own (some 61468)) (.int .i64))))) (.pair (.sl (.own (some 61471)) mH) (.int .i64)))) (.pair (.sl (.own (some 61477)) fS) (.pair (.sl (.own (some 61480)) kq) (.pair (.sl (.own (some 61483)) fT) (.pair (.sl (.own (some 61486)) .bool) (.pair (.pair (.int .i64) (.pair .bool (.sl (.own (some 61495)) (.int .i64)))) (.pair (.pair (.sl (.own (some 61498)) eN) (.pair (.sl (.own (some 61501)) dR) (.pair .str (.sl (.own (some 61507)) (.int .i64))))) (.pair (.sl (.own (some 61510)) bF) (.pair .bool (.pair (.sl (.own (some 61516)) .str) (.pair (.sl (.own (some 61519)) (.int .i64)) (.pair (.sl (.own (some 61522)) (.int .i64)) (.pair (.int .i64) Y1))))))))))))))))::zs 33 [],.ptr⟩
def Oe {R:Type}(X:SD.D Ht)(K:Ex→AS→Option R):=Pu.mT (λy0 y1=>ke 0 K Ht ((z1 (w y0 (u y1)) X.1),X.2)) X.1.1 X.2.1.1 X.2.1.2.1 X.2.1.2.2.1
def Tv:cA:=iO Ht Oe (λX=>(X.1.2.1,q2 X))
def Yy:cY:=(cY.nil).add 4 Tv
theorem SY:g7 E ZB ZL Yy (aX Tryz.f22 0):=lk Ht Oe (λX=>(X.1.2.1,q2 X)) λX x=>((z1 (w x.1 (u x.2)) X.1),X.2)
theorem o22:aP Tryz.prog 22 e22:=aP.kl (kk (Γ:=ZB) (an:=ZL) (Λ:=Yy) (((base.add Z5).add o55).add o56) Tryz.func22 (by kernel_rfl) (ao (cF SY nF))) (λx a=>by kernel_rfl)
def e6:aW:=aN [pd (.sl (.int .u8))] [(true,Y2),(false,(.sl (.own none) rX))] (c1 Pu.jb)
theorem o6:aP Tryz.prog 6 e6:=f0 {mv:=[13]} (((base.add o20).add o21).add o22) Tryz.func6
def Vl:aW:=aN [pd (.sl (.int .i64))] [(false,(.sl (.own none) (.int .i64)))] (c1 Pu.iL)
theorem QM:aP Tryz.prog 110 Vl:=f0 {} base Tryz.func110
def e60:aW:=aN [pf lF] [(true,RQ)] (c1 Pu.kW)
theorem o60:aP Tryz.prog 60 e60:=f0 {mv:=[7]} (base.add QM) Tryz.func60
def Vm:aW:=aN [pf (.sl dR)] [(true,(.sl (.own none) dR))] (c1 Pu.lZ)
theorem W6:aP Tryz.prog 111 Vm:=f0 {} base Tryz.func111
def Vn:aW:=aN [pf oq] [(true,(.pair .str (.sl (.own none) (.int .i64))))] (c1 Pu.kX)
theorem W7:aP Tryz.prog 112 Vn:=f0 {sb:=mg [(2,2)]} (base.add QM) Tryz.func112
def e61:aW:=aN [pf gJ] [(true,RP)] (c1 Pu.ja)
theorem o61:aP Tryz.prog 61 e61:=f0 {sb:=mg [(2,2)]} ((base.add W6).add W7) Tryz.func61
def e62:aW:=aN [pd (.sl bF)] [(false,(.sl (.own none) bF))] (c1 Pu.gN)
theorem o62:aP Tryz.prog 62 e62:=f0 {} base Tryz.func62
def e63:aW:=aN [pd (.sl .str)] [(false,(.sl (.own none) .str))] (c1 Pu.jP)
theorem o63:aP Tryz.prog 63 e63:=f0 {} base Tryz.func63
def e25:aW:=aN [pf tr] [(true,Y8)] (c1 Pu.kB)
theorem Z8:aP Tryz.prog 25 e25:=f0 {sb:=mg [(2,2)]} ((((base.add o60).add o61).add o62).add o63) Tryz.func25
def MN:aW:=aN [pI,pI,pI] [rB] (c3 Pu.ay)
theorem zE:aP Tryz.prog 69 MN:=f0 {merge:=mg [(1,6)]} base Tryz.func69
def Ze:aW:=aN [pf lF] [rB] (c1 Pu.iJ)
def g46:cD:=cD.nil.add 69 MN
def ZP:An:={mask:=mk [(2,[1,2,6,7,8])],merge:=mg [(4,29),(7,2)]}
abbrev C8:SD:=⟨B::.ptr 1 0::DB::B::B::B::.data false (.sl .arg (.int .i64))::DI::DI::bs 31 [],Z::(some (.pair (.int .i64) (.pair .bool (.sl .arg (.int .i64)))))::zs 38 [],.none⟩
def Ol {R:Type}(X:SD.D C8)(K:Ex→AS→Option R):=Pu.jE (λy0=>ke 0 K C8 ((z3 (u y0) X.1),X.2)) (λy0 y1=>kr K C8 ((w y0 (z2 (u y1)) X.1),X.2)) X.1.1 X.1.2.1 (q2 X) X.2.1.1
def TC:cA:=iO C8 Ol q3
def YC:cY:=(cY.nil).add 2 TC
theorem S5:g7 E g46 ZP YC (aX Tryz.f46 0):=lk C8 Ol q3 λX x=>((z3 (u x) X.1),X.2)
theorem Yk:aP Tryz.prog 46 Ze:=fk ZP (base.add zE) Tryz.func46 (Λ:=YC) (cF S5 nF)
def R7:aW:=aN [pf eN] [rB] (c1 Pu.pY)
theorem UB:aP Tryz.prog 139 R7:=f0 {merge:=mg [(1,33),(3,54),(5,2)]} (base.add zE) Tryz.func139
def Wt:aW:=aN [pd (.sl eN)] [rB] (c1 Pu.oB)
def g99:cD:=cD.nil.add 139 R7
def Z4:An:={mask:=mk [(2,[0,2,5,6,7])]}
abbrev Dm:SD:=⟨.data false (.sl .arg eN)::B::DB::B::B::.data false (.sl .arg eN)::DI::DI::bs 10 [],zs 18 [],.none⟩
def OH {R:Type}(X:SD.D Dm)(K:Ex→AS→Option R):=Pu.rM (λy0=>ke 0 K Dm ((z4 (u y0) X.1),X.2)) (λy0 y1=>kr K Dm ((z1 (w y0 (z2 (u y1))) X.1),X.2)) X.1.1 X.1.2.1 (q2 X) (q3 X)
def TV:cA:=iO Dm OH q4
def YR:cY:=(cY.nil).add 2 TV
theorem To:g7 E g99 Z4 YR (aX Tryz.f99 0):=lk Dm OH q4 λX x=>((z4 (u x) X.1),X.2)
theorem o99:aP Tryz.prog 99 Wt:=fk Z4 (base.add UB) Tryz.func99 (Λ:=YR) (cF To nF)
def R4:aW:=aN [pf (.sl dR),pf ij] [rI] (c2 Pu.nQ)
def Wx:cD:=cD.nil
def T0:An:={mask:=mk [(2,[3,4,8,9,10])],merge:=mg [(4,23)]}
abbrev xF:SD:=⟨B::B::B::.ptr 3 0::DI::B::B::B::.data false (.sl .arg dR)::DI::DI::bs 15 [],Z::Z::Z::(some (.pair (.int .i64) Y1))::zs 22 [],.none⟩
def LS {R:Type}(X:SD.D xF)(K:Ex→AS→Option R):=Pu.l0 (λy0=>ke 0 K xF ((z3 (u y0) X.1),X.2)) (λy0 y1=>kr K xF ((w y0 (z2 (u y1)) X.1),X.2)) X.1.1 X.1.2.1 (q2 X) X.2.1.1
def P6:cA:=iO xF LS q3
def Rn:cY:=(cY.nil).add 2 P6
theorem Pr:g7 E Wx T0 Rn (aX Tryz.f126 0):=lk xF LS q3 λX x=>((z3 (u x) X.1),X.2)
theorem Uv:aP Tryz.prog 126 R4:=fk T0 base Tryz.func126 (Λ:=Rn) (cF Pr nF)
def Zr:aW:=aN [pI,pI] [rI] (c2 Pu.eK)
theorem Yo:aP Tryz.prog 85 Zr:=f0 {} base Tryz.func85
def Sk:aW:=aN [pf ij] [rI] (c1 Pu.nf)
def WD:cD:=cD.nil.add 85 Zr
def T9:An:={mask:=mk [(3,[3,16,17,18])]}
abbrev BG:SD:=⟨B::B::B::DI::bs 12 (.data false (.sl (.own (some 196608)) (.int .i64))::DI::DI::bs 10 []),zs 29 [],.none⟩
def L6 {R:Type}(X:SD.D BG)(K:Ex→AS→Option R):=Pu.gM (λy0 y1=>ke 0 K BG ((w y0 (z2 (u y1)) X.1),X.2)) X.1.2.1 (q2 X)
def Qi:cA:=iO BG L6 (λX=>(X.1.1,q3 X))
def Rv:cY:=(cY.nil).add 3 Qi
theorem PF:g7 E WD T9 Rv (aX Tryz.f172 0):=lk BG L6 (λX=>(X.1.1,q3 X)) λX x=>((w x.1 (z2 (u x.2)) X.1),X.2)
theorem XN:aP Tryz.prog 172 Sk:=fk T9 (base.add Yo) Tryz.func172 (Λ:=Rv) (cF PF nF)
def R8:aW:=aN [pf ij] [(false,(.sl (.own none) (.int .i64)))] (c1 Pu.rb)
def Wz:cD:=cD.nil.add 172 Sk
def T3:An:={mask:=mk [(3,[1,3,4])],mv:=[10,18]}
abbrev Bx:SD:=⟨B::.ptr 1 0::B::.data false (.sl (.own (some 36864)) (.int .i64))::DI::bs 14 [],Z::(some (.pair (.int .i64) Y1))::zs 17 [],.none⟩
def LX {R:Type}(X:SD.D Bx)(K:Ex→AS→Option R):=Pu.kE (λy0 y1=>ke 0 K Bx ((w y0 (u y1) X.1),X.2)) X.2.1.1
def Qa:cA:=iO Bx LX (λX=>(X.1.1,X.1.2.1))
def Rp:cY:=(cY.nil).add 3 Qa
theorem Pw:g7 E Wz T3 Rp (aX Tryz.f140 0):=lk Bx LX (λX=>(X.1.1,X.1.2.1)) λX x=>((w x.1 (u x.2) X.1),X.2)
theorem Xn:aP Tryz.prog 140 R8:=fk T3 (base.add XN) Tryz.func140 (Λ:=Rp) (cF Pw nF)
def RU:aW:=aN [pf (.sl dR)] [rB] (c1 Pu.jN)
def SJ:cD:=((cD.nil.add 69 MN).add 126 R4).add 140 R8
def QD:An:={mask:=mk [(4,[1,2,12,13,14]),(14,[1,2,3,12,13,14,49,50,51])],merge:=mg [(6,28),(9,40)]}
abbrev uu:SD:=⟨B::.ptr 1 0::DB::DI::bs 8 (.data false (.sl .arg dR)::DI::DI::bs 34 (.data false (.sl (.own (some 602112)) (.int .i64))::DI::DI::bs 15 [])),Z::(some (.sl .arg dR))::zs 65 [],.none⟩
def Ia {R:Type}(X:SD.D uu)(K:Ex→AS→Option R):=Pu.fA (λy0=>ke 2 K uu ((z7 (u y0) X.1),X.2)) (λy0 y1=>kr K uu ((w y0 (z6 (u y1)) X.1),X.2)) X.1.1 X.1.2.1 (q2 X) (q3 X) (q4 X) (q5 X) (q6 X) X.2.1.1
def M7:cA:=iO uu Ia q7
abbrev xC:SD:=⟨B::.ptr 1 0::DB::bs 9 (.data false (.sl .arg dR)::DI::DI::bs 52 []),Z::(some (.sl .arg dR))::zs 65 [],.none⟩
def LM {R:Type}(X:SD.D xC)(K:Ex→AS→Option R):=Pu.kV (λy0=>ke 0 K xC ((z3 (u y0) X.1),X.2)) (λy0 y1=>kr K xC ((w y0 (z2 (u y1)) X.1),X.2)) X.1.1 X.1.2.1 (q2 X) X.2.1.1
def P0:cA:=iO xC LM q3
def OM:cY:=((cY.nil).add 14 M7).add 4 P0
theorem M3:g7 E SJ QD OM (aX Tryz.f100 1):=lk uu Ia q7 λX x=>((z7 (u x) X.1),X.2)
theorem Pk:g7 E SJ QD OM (aX Tryz.f100 0):=lk xC LM q3 λX x=>((z3 (u x) X.1),X.2)
theorem Uq:aP Tryz.prog 100 RU:=fk QD (((base.add zE).add Uv).add Xn) Tryz.func100 (Λ:=OM) (cF Pk (cF M3 nF))
def R9:aW:=aN [pI] [rB] (c1 Pu.sy)
theorem Xo:aP Tryz.prog 141 R9:=f0 {merge:=mg [(1,2)]} base Tryz.func141
def RV:aW:=aN [pf oq,pI] [rB] (c2 Pu.nk)
def Wu:cD:=(cD.nil.add 69 MN).add 141 R9
def TX:An:={mask:=mk [(4,[1,4,24,25,26])],merge:=mg [(1,22)]}
abbrev xD:SD:=⟨B::DI::B::B::DB::bs 19 (.data false (.sl .arg (.int .i64))::DI::DI::bs 9 []),zs 36 [],.none⟩
def LN {R:Type}(X:SD.D xD)(K:Ex→AS→Option R):=Pu.qH (λy0=>ke 0 K xD ((z4 (u y0) X.1),X.2)) (λy0 y1=>kr K xD ((z1 (w y0 (z2 (u y1))) X.1),X.2)) X.1.1 X.1.2.1 (q2 X) (q3 X)
def P1:cA:=iO xD LN q4
def Rk:cY:=(cY.nil).add 4 P1
theorem Pm:g7 E Wu TX Rk (aX Tryz.f101 0):=lk xD LN q4 λX x=>((z4 (u x) X.1),X.2)
theorem Ur:aP Tryz.prog 101 RV:=fk TX ((base.add zE).add Xo) Tryz.func101 (Λ:=Rk) (cF Pm nF)
def Zf:aW:=aN [pf gJ,pI] [rB] (c2 Pu.fP)
def ZE:cD:=((cD.nil.add 99 Wt).add 100 RU).add 101 RV
def WZ:An:={mask:=mk [(4,[1,2,4,27,28,29]),(10,[1,4,45,46,47])],merge:=mg [(1,25),(6,41),(12,59)]}
abbrev C9:SD:=⟨B::DI::.ptr 2 0::B::DB::bs 22 (.data false (.sl .arg eN)::DI::DI::bs 31 []),Z::Z::(some U2)::zs 58 [],.none⟩
def Om {R:Type}(X:SD.D C9)(K:Ex→AS→Option R):=Pu.hR (λy0=>ke 0 K C9 ((z4 (u y0) X.1),X.2)) (λy0 y1=>kr K C9 ((z1 (w y0 (z2 (u y1))) X.1),X.2)) X.1.1 X.1.2.1 (q2 X) (q3 X) X.2.1.1
def TD:cA:=iO C9 Om q4
abbrev xM:SD:=⟨B::DI::B::B::DB::bs 40 (.data false (.sl .arg dR)::DI::DI::bs 13 []),zs 61 [],.none⟩
def Mn {R:Type}(X:SD.D xM)(K:Ex→AS→Option R):=Pu.gB (λy0=>ke 2 K xM ((z4 (u y0) X.1),X.2)) (λy0 y1=>kr K xM ((z1 (w y0 (z2 (u y1))) X.1),X.2)) X.1.1 X.1.2.1 (q2 X) (q3 X)
def Qz:cA:=iO xM Mn q4
def Vb:cY:=((cY.nil).add 4 TD).add 10 Qz
theorem S6:g7 E ZE WZ Vb (aX Tryz.f47 0):=lk C9 Om q4 λX x=>((z4 (u x) X.1),X.2)
theorem PY:g7 E ZE WZ Vb (aX Tryz.f47 1):=lk xM Mn q4 λX x=>((z4 (u x) X.1),X.2)
theorem Yl:aP Tryz.prog 47 Zf:=fk WZ (((base.add o99).add Uq).add Ur) Tryz.func47 (Λ:=Vb) (cF S6 (cF PY nF))
def Zm:aW:=aN [pf (.sl .str)] [rB] (c1 Pu.qn)
def g66:cD:=cD.nil
def ZS:An:={mask:=mk [(2,[1,2,6,7,8])]}
abbrev Db:SD:=⟨B::.ptr 1 0::DB::B::B::B::.data false (.sl .arg .str)::DI::DI::bs 11 [],Z::(some (.sl .arg .str))::zs 18 [],.none⟩
def Ov {R:Type}(X:SD.D Db)(K:Ex→AS→Option R):=Pu.qG (λy0=>ke 0 K Db ((z3 (u y0) X.1),X.2)) (λy0 y1=>kr K Db ((w y0 (z2 (u y1)) X.1),X.2)) X.1.1 X.1.2.1 (q2 X) X.2.1.1
def TJ:cA:=iO Db Ov q3
def YF:cY:=(cY.nil).add 2 TJ
theorem Tc:g7 E g66 ZS YF (aX Tryz.f66 0):=lk Db Ov q3 λX x=>((z3 (u x) X.1),X.2)
theorem o66:aP Tryz.prog 66 Zm:=fk ZS base Tryz.func66 (Λ:=YF) (cF Tc nF)
def R0:aW:=aN [pd (.sl cB),pI,pI] [rI] (c3 Pu.jQ)
def Ww:cD:=cD.nil
def TZ:An:={mask:=mk [(2,[1,2,6,9,10,11])],merge:=mg [(4,25)]}
abbrev xE:SD:=⟨B::DI::DI::B::B::B::DI::B::B::.data false (.sl .arg cB)::DI::DI::bs 16 [],zs 28 [],.none⟩
def LR {R:Type}(X:SD.D xE)(K:Ex→AS→Option R):=Pu.gC (λy0=>ke 0 K xE ((z5 (u y0) X.1),X.2)) (λy0 y1=>kr K xE ((z2 (w y0 (z2 (u y1))) X.1),X.2)) X.1.1 X.1.2.1 (q2 X) (q3 X) (q4 X)
def P5:cA:=iO xE LR q5
def Rm:cY:=(cY.nil).add 2 P5
theorem Pq:g7 E Ww TZ Rm (aX Tryz.f114 0):=lk xE LR q5 λX x=>((z5 (u x) X.1),X.2)
theorem W8:aP Tryz.prog 114 R0:=fk TZ base Tryz.func114 (Λ:=Rm) (cF Pq nF)
def Zn:aW:=aN [pd (.sl cB)] [rB] (c1 Pu.kU)
def g67:cD:=(cD.nil.add 69 MN).add 114 R0
def ZT:An:={mask:=mk [(2,[0,2,5,6,7])],merge:=mg [(4,37)]}
abbrev Dc:SD:=⟨.data false (.sl .arg cB)::B::DB::B::B::.data false (.sl .arg cB)::DI::DI::bs 34 [],zs 42 [],.none⟩
def Ow {R:Type}(X:SD.D Dc)(K:Ex→AS→Option R):=Pu.hH (λy0=>ke 0 K Dc ((z4 (u y0) X.1),X.2)) (λy0 y1=>kr K Dc ((z1 (w y0 (z2 (u y1))) X.1),X.2)) X.1.1 X.1.2.1 (q2 X) (q3 X)
def TK:cA:=iO Dc Ow q4
def YG:cY:=(cY.nil).add 2 TK
theorem Td:g7 E g67 ZT YG (aX Tryz.f67 0):=lk Dc Ow q4 λX x=>((z4 (u x) X.1),X.2)
theorem o67:aP Tryz.prog 67 Zn:=fk ZT ((base.add zE).add W8) Tryz.func67 (Λ:=YG) (cF Td nF)
def Wp:aW:=aN [pf kq] [rB] (c1 Pu.jq)
def g71:cD:=cD.nil.add 69 MN
def ZV:An:={mask:=mk [(5,[1,2,3,26,27,28])],merge:=mg [(1,21),(7,43)]}
abbrev De:SD:=⟨B::.ptr 1 0::DB::.data false (.sl (.own (some 36864)) .bool)::bs 22 (.data false (.sl .arg (.int .i64))::DI::DI::bs 19 []),Z::(some RO)::zs 46 [],.none⟩
def Oy {R:Type}(X:SD.D De)(K:Ex→AS→Option R):=Pu.lT (λy0 y1=>ke 0 K De ((z1 (w y0 (z2 (u y1))) X.1),X.2)) (λy0 y1 y2=>kr K De ((w y0 (w y1 (z2 (u y2))) X.1),X.2)) X.1.1 (q2 X) (q3 X) X.2.1.1
def TM:cA:=iO De Oy (λX=>(X.1.2.1,q4 X))
def YI:cY:=(cY.nil).add 5 TM
theorem Tf:g7 E g71 ZV YI (aX Tryz.f71 0):=lk De Oy (λX=>(X.1.2.1,q4 X)) λX x=>((z1 (w x.1 (z2 (u x.2))) X.1),X.2)
theorem Yn:aP Tryz.prog 71 Wp:=fk ZV (base.add zE) Tryz.func71 (Λ:=YI) (cF Tf nF)
def VI:aW:=aN [pI] [rB] (c1 Pu.kC)
theorem QO:aP Tryz.prog 155 VI:=f0 {merge:=mg [(1,2)]} base Tryz.func155
def VJ:aW:=aN [pf rD] [rI] (c1 Pu.nj)
theorem XB:aP Tryz.prog 156 VJ:=f0 {} ((base.add Yo).add QO) Tryz.func156
def R1:aW:=aN [pf rD] [rB] (c1 Pu.nM)
theorem Ut:aP Tryz.prog 115 R1:=f0 {merge:=mg [(1,2)]} (((base.add zE).add QO).add XB) Tryz.func115
def VK:aW:=aN [pf kq] [(true,OT)] (c1 Pu.kA)
theorem XC:aP Tryz.prog 157 VK:=f0 {mv:=[7]} (base.add QM) Tryz.func157
def R2:aW:=aN [pf kq,pd (.sl (.int .i64))] [(true,OT),rB] (c2 Pu.fz)
theorem W9:aP Tryz.prog 116 R2:=f0 {merge:=mg [(3,21)],mv:=[10,24]} ((base.add Yn).add XC) Tryz.func116
def Zo:aW:=aN [pf qA] [rB] (c1 Pu.s9)
def g68:cD:=(((cD.nil.add 69 MN).add 71 Wp).add 115 R1).add 116 R2
def ZU:An:={mask:=mk [(6,[1,2,3,4,30,31,32])],merge:=mg [(1,24),(8,50)],mv:=[55]}
abbrev Dd:SD:=⟨B::.ptr 1 0::DB::DI::.data false (.sl (.own (some 49152)) (.int .i64))::bs 25 (.data false (.sl .arg mH)::DI::DI::bs 35 []),Z::(some (.pair Y1 (.pair RO (.pair (.sl .arg mH) (.int .i64)))))::zs 66 [],.none⟩
def Ox {R:Type}(X:SD.D Dd)(K:Ex→AS→Option R):=Pu.lY (λy0 y1 y2=>ke 0 K Dd ((z1 (w y0 (w y1 (z2 (u y2)))) X.1),X.2)) (λy0 y1 y2 y3=>kr K Dd ((w y0 (w y1 (w y2 (z2 (u y3)))) X.1),X.2)) X.1.1 (q3 X) (q4 X) X.2.1.1
def TL:cA:=iO Dd Ox (λX=>(X.1.2.1,q2 X,q5 X))
def YH:cY:=(cY.nil).add 6 TL
theorem Te:g7 E g68 ZU YH (aX Tryz.f68 0):=lk Dd Ox (λX=>(X.1.2.1,q2 X,q5 X)) λX x=>((z1 (w x.1 (w x.2.1 (z2 (u x.2.2)))) X.1),X.2)
theorem o68:aP Tryz.prog 68 Zo:=fk ZU ((((base.add zE).add Yn).add Ut).add W9) Tryz.func68 (Λ:=YH) (cF Te nF)
def Vu:aW:=aN [pf pe] [rB] (c1 Pu.jr)
theorem Uu:aP Tryz.prog 123 Vu:=f0 {merge:=mg [(1,18),(5,2),(7,2)]} (base.add zE) Tryz.func123
def Vv:aW:=aN [pI] [rB] (c1 Pu.l5)
theorem Xg:aP Tryz.prog 124 Vv:=f0 {merge:=mg [(1,2)]} base Tryz.func124
def e78:aW:=aN [pf ca] [rB] (c1 Pu.fe)
theorem Rf:aP Tryz.prog 78 e78:=f0 {merge:=mg [(1,2)]} (((base.add zE).add Uu).add Xg) Tryz.func78
def Vo:aW:=aN [pf gI] [rB] (c1 Pu.lV)
theorem Xa:aP Tryz.prog 117 Vo:=f0 {merge:=mg [(1,2)]} ((base.add zE).add QO) Tryz.func117
def Zp:aW:=aN [pf fS] [rB] (c1 Pu.s8)
theorem o70:aP Tryz.prog 70 Zp:=f0 {merge:=mg [(1,42),(5,2)]} ((((base.add zE).add Rf).add Ut).add Xa) Tryz.func70
def Vp:aW:=aN [pf fT] [rB] (c1 Pu.yl)
theorem Xb:aP Tryz.prog 118 Vp:=f0 {merge:=mg [(1,2)]} base Tryz.func118
def Zq:aW:=aN [pf fT] [rB] (c1 Pu.qo)
theorem o72:aP Tryz.prog 72 Zq:=f0 {merge:=mg [(1,24),(3,2)]} ((base.add zE).add Xb) Tryz.func72
def e27:aW:=aN [pf rY] [rB] (c1 Pu.pX)
def ZC:cD:=((((((((cD.nil.add 46 Ze).add 47 Zf).add 66 Zm).add 67 Zn).add 68 Zo).add 69 MN).add 70 Zp).add 71 Wp).add 72 Zq
def WX:An:={mask:=mk [(5,[1,2,3,61,62]),(12,[1,2,3,103,104,105])],merge:=mg [(2,58),(7,89)]}
abbrev C3:SD:=⟨B::.ptr 1 0::DB::DI::bs 57 (DI::DI::bs 54 []),Z::(some Y7)::zs 115 [],.none⟩
def Of {R:Type}(X:SD.D C3)(K:Ex→AS→Option R):=Pu.lR (λy0=>ke 0 K C3 ((z3 (u y0) X.1),X.2)) (λy0 y1=>kr K C3 ((w y0 (z2 (u y1)) X.1),X.2)) X.1.1 X.1.2.1 (q2 X) X.2.1.1
def Tw:cA:=iO C3 Of q3
abbrev xL:SD:=⟨B::.ptr 1 0::DB::DI::bs 99 (.data false (.sl (.own (some 1265664)) (.int .i64))::DI::DI::bs 11 []),Z::(some Y7)::zs 115 [],.none⟩
def Mm {R:Type}(X:SD.D xL)(K:Ex→AS→Option R):=Pu.kT (λy0=>ke 2 K xL ((z4 (u y0) X.1),X.2)) (λy0 y1=>kr K xL ((w y0 (z3 (u y1)) X.1),X.2)) X.1.1 X.1.2.1 (q2 X) (q3 X) X.2.1.1
def Qy:cA:=iO xL Mm q4
def U9:cY:=((cY.nil).add 5 Tw).add 12 Qy
theorem SZ:g7 E ZC WX U9 (aX Tryz.f27 0):=lk C3 Of q3 λX x=>((z3 (u x) X.1),X.2)
theorem PX:g7 E ZC WX U9 (aX Tryz.f27 1):=lk xL Mm q4 λX x=>((z4 (u x) X.1),X.2)
theorem o27:aP Tryz.prog 27 e27:=fk WX (((((((((base.add Yk).add Yl).add o66).add o67).add o68).add zE).add o70).add Yn).add o72) Tryz.func27 (Λ:=U9) (cF SZ (cF PX nF))
def e9:aW:=aN [pf rY] [(true,Y8)] (c1 Pu.pZ)
theorem o9:aP Tryz.prog 9 e9:=f0 {} ((base.add Z8).add o27) Tryz.func9
def YY:aW:=aN [pf tr] [rB] (c1 Pu.nN)
theorem Z6:aP Tryz.prog 18 YY:=f0 {merge:=mg [(1,2)]} ((base.add Yk).add Yl) Tryz.func18
def VL:aW:=aN [pd .str] [rI] (c1 Pu.qZ)
def SO:cD:=cD.nil
def QH:An:={mask:=mk [(3,[0,3,4]),(7,[0,3,4,5])]}
abbrev BE:SD:=⟨.data false .str::B::B::.data false (.int .u32)::DI::DI::bs 28 [],zs 34 [],.none⟩
def L4 {R:Type}(X:SD.D BE)(K:Ex→AS→Option R):=Pu.iI (λy0 y1=>ke 2 K BE ((z1 (w y0 (z1 (u y1))) X.1),X.2)) X.1.1 (q2 X)
def Qg:cA:=iO BE L4 (λX=>(X.1.2.1,q3 X))
abbrev BD:SD:=⟨.data false .str::B::B::.data false (.int .u32)::DI::bs 29 [],zs 34 [],.none⟩
def L3 {R:Type}(X:SD.D BD)(K:Ex→AS→Option R):=Pu.ky (λy0 y1=>ke 0 K BD ((z1 (w y0 (u y1)) X.1),X.2)) X.1.1
def Qf:cA:=iO BD L3 (λX=>(X.1.2.1,q2 X))
def OQ:cY:=((cY.nil).add 7 Qg).add 3 Qf
theorem PC:g7 E SO QH OQ (aX Tryz.f158 1):=lk BE L4 (λX=>(X.1.2.1,q3 X)) λX x=>((z1 (w x.1 (z1 (u x.2))) X.1),X.2)
theorem PB:g7 E SO QH OQ (aX Tryz.f158 0):=lk BD L3 (λX=>(X.1.2.1,q2 X)) λX x=>((z1 (w x.1 (u x.2)) X.1),X.2)
theorem XD:aP Tryz.prog 158 VL:=fk QH base Tryz.func158 (Λ:=OQ) (cF PB (cF PC nF))
def Vq:aW:=aN [pd .str] [rS] (c1 Pu.oC)
theorem Xc:aP Tryz.prog 119 Vq:=f0 {} (base.add XD) Tryz.func119
def e74:aW:=aN [pd .str] [rS,rB] (c1 Pu.mZ)
theorem o74:aP Tryz.prog 74 e74:=f0 {merge:=mg [(2,17)]} (base.add Xc) Tryz.func74
def VM:aW:=aN [pd .str,pI] [rI] (c2 Pu.ez)
theorem QP:aP Tryz.prog 159 VM:=f0 {merge:=mg [(1,13)]} base Tryz.func159
def VN:aW:=aN [pd .str,pI] [rI] (c2 Pu.hG)
theorem QQ:aP Tryz.prog 160 VN:=f0 {merge:=mg [(1,13)]} base Tryz.func160
def VO:aW:=aN [pf Kc] [rB] (c1 Pu.ra)
theorem XE:aP Tryz.prog 161 VO:=f0 {merge:=mg [(1,2)]} (base.add zE) Tryz.func161
def Vr:aW:=aN [pd .str] [(true,Y9),rB] (c1 Pu.ni)
theorem Xd:aP Tryz.prog 120 Vr:=f0 {merge:=mg [(4,33)],sb:=mg [(4,4)]} (((base.add QP).add QQ).add XE) Tryz.func120
def e84:aW:=aN [pI] [rS] (c1 Pu.cC)
theorem Rh:aP Tryz.prog 84 e84:=f0 {} (base.add zE) Tryz.func84
def SA:aW:=aN [pI,pI] [rI] (c2 Pu.ox)
theorem Yg:aP Tryz.prog 219 SA:=f0 {merge:=mg [(1,12)]} (base.add zE) Tryz.func219
def Wh:aW:=aN [pd .str] [rI] (c1 Pu.nm)
def WN:cD:=cD.nil.add 219 SA
def Ui:An:={mask:=mk [(3,[0,3,4])]}
abbrev BO:SD:=⟨.data false .str::B::B::DI::DI::bs 28 [],zs 33 [],.none⟩
def Mf {R:Type}(X:SD.D BO)(K:Ex→AS→Option R):=Pu.jM (λy0 y1=>ke 0 K BO ((z1 (w y0 (u y1)) X.1),X.2)) X.1.1
def Qr:cA:=iO BO Mf (λX=>(X.1.2.1,q2 X))
def RG:cY:=(cY.nil).add 3 Qr
theorem PO:g7 E WN Ui RG (aX Tryz.f209 0):=lk BO Mf (λX=>(X.1.2.1,q2 X)) λX x=>((z1 (w x.1 (u x.2)) X.1),X.2)
theorem X9:aP Tryz.prog 209 Wh:=fk Ui (base.add Yg) Tryz.func209 (Λ:=RG) (cF PO nF)
def V7:aW:=aN [pd .str] [rI] (c1 Pu.kx)
theorem UF:aP Tryz.prog 186 V7:=f0 {} (base.add X9) Tryz.func186
def V8:aW:=aN [pd .str,pI,pd .str] [rS] (c3 Pu.iK)
theorem UG:aP Tryz.prog 187 V8:=f0 {merge:=mg [(1,17)]} base Tryz.func187
def Wf:aW:=aN [pf NW] [rB] (c1 Pu.vF)
theorem X8:aP Tryz.prog 207 Wf:=f0 {merge:=mg [(1,2)]} (base.add zE) Tryz.func207
def Wg:aW:=aN [pI] [rS] (c1 Pu.fu)
theorem No:aP Tryz.prog 208 Wg:=f0 {} (base.add zE) Tryz.func208
def V4:aW:=aN [pf NW] [rS,rB] (c1 Pu.ng)
theorem XU:aP Tryz.prog 183 V4:=f0 {} (((((base.add Rh).add UF).add UG).add X8).add No) Tryz.func183
def VP:aW:=aN [pf NW] [rS,rB] (c1 Pu.oy)
theorem XF:aP Tryz.prog 162 VP:=f0 {} (base.add XU) Tryz.func162
def Vs:aW:=aN [pd .str] [(true,Ra),rB] (c1 Pu.oA)
theorem Xe:aP Tryz.prog 121 Vs:=f0 {merge:=mg [(2,22),(6,56)],sb:=mg [(5,5)]} (((base.add QP).add QQ).add XF) Tryz.func121
def V5:aW:=aN [pf pe] [rS] (c1 Pu.jO)
theorem XV:aP Tryz.prog 184 V5:=f0 {} ((base.add Rh).add No) Tryz.func184
def V6:aW:=aN [pI,pI,pI,pI] [rS,rB] (c4 Pu.lU)
theorem XW:aP Tryz.prog 185 V6:=f0 {merge:=mg [(1,27)]} (((base.add zE).add Rh).add No) Tryz.func185
def V9:aW:=aN [pI] [rI] (c1 Pu.kD)
theorem XX:aP Tryz.prog 188 V9:=f0 {} base Tryz.func188
def VQ:aW:=aN [pI,pI,pf pe] [rS,rB] (c3 Pu.fZ)
theorem XG:aP Tryz.prog 163 VQ:=f0 {merge:=mg [(8,39)]} (((((((base.add Rh).add Uu).add XV).add XW).add UF).add UG).add XX) Tryz.func163
def Vt:aW:=aN [pI,pI,pI,pd .str] [(true,(.pair (.int .i64) Ra)),rB] (c4 Pu.iZ)
theorem Xf:aP Tryz.prog 122 Vt:=f0 {merge:=mg [(3,20),(9,44),(12,68)]} (((base.add QP).add QQ).add XG) Tryz.func122
def e75:aW:=aN [pd .str] [(true,Y0),rI] (c1 Pu.lX)
theorem o75:aP Tryz.prog 75 e75:=f0 {merge:=mg [(2,20)]} ((((base.add Rf).add Xd).add Xe).add Xf) Tryz.func75
def e76:aW:=aN [pf ca] [rB] (c1 Pu.nh)
theorem o76:aP Tryz.prog 76 e76:=f0 {merge:=mg [(1,2)]} (base.add Rf) Tryz.func76
def e30:aW:=aN [pd .str] [(true,Y0),rI] (c1 Pu.lW)
theorem o30:aP Tryz.prog 30 e30:=f0 {} (((base.add o74).add o75).add o76) Tryz.func30
def e77:aW:=aN [pd (.sl (.int .i64)),pI] [rB] (c2 Pu.nO)
def g77:cD:=cD.nil
def ZW:An:={mask:=mk [(2,[1,4,7,8,9])]}
abbrev Df:SD:=⟨B::DI::B::B::DB::B::B::.data false (.sl .arg (.int .i64))::DI::DI::bs 7 [],zs 17 [],.none⟩
def Oz {R:Type}(X:SD.D Df)(K:Ex→AS→Option R):=Pu.sv (λy0=>ke 0 K Df ((z4 (u y0) X.1),X.2)) (λy0 y1=>kr K Df ((z1 (w y0 (z2 (u y1))) X.1),X.2)) X.1.1 X.1.2.1 (q2 X) (q3 X)
def TN:cA:=iO Df Oz q4
def YJ:cY:=(cY.nil).add 2 TN
theorem Tg:g7 E g77 ZW YJ (aX Tryz.f77 0):=lk Df Oz q4 λX x=>((z4 (u x) X.1),X.2)
theorem o77:aP Tryz.prog 77 e77:=fk ZW base Tryz.func77 (Λ:=YJ) (cF Tg nF)
def e31:aW:=aN [pf lF,pf ca] [rB] (c2 Pu.ow)
theorem o31:aP Tryz.prog 31 e31:=f0 {merge:=mg [(1,4)]} ((base.add Yk).add o77) Tryz.func31
def VR:aW:=aN [pI,pI,pI] [rB] (c3 Pu.il)
theorem XH:aP Tryz.prog 164 VR:=f0 {} base Tryz.func164
def R3:aW:=aN [pf eN,pf ca] [rB] (c2 Pu.jG)
theorem Xh:aP Tryz.prog 125 R3:=f0 {merge:=mg [(1,4)]} ((((base.add zE).add Rf).add UB).add XH) Tryz.func125
def e79:aW:=aN [pd (.sl eN),pf ca] [rI] (c2 Pu.nb)
def g79:cD:=(cD.nil.add 99 Wt).add 125 R3
def ZX:An:={mask:=mk [(5,[0,3,5,11,12,13])],merge:=mg [(7,34)]}
abbrev Hz:SD:=⟨.data false (.sl .arg eN)::B::B::.ptr 3 0::B::DI::bs 5 (.data false (.sl .arg eN)::DI::DI::bs 24 []),Z::Z::Z::(some Y0)::zs 34 [],.none⟩
def OA {R:Type}(X:SD.D Hz)(K:Ex→AS→Option R):=Pu.jF (λy0 y1=>ke 0 K Hz ((z1 (w y0 (z2 (u y1))) X.1),X.2)) X.1.1 (q2 X) (q3 X) X.2.1.1
def TO:cA:=iO Hz OA (λX=>(X.1.2.1,q4 X))
def YK:cY:=(cY.nil).add 5 TO
theorem Th:g7 E g79 ZX YK (aX Tryz.f79 0):=lk Hz OA (λX=>(X.1.2.1,q4 X)) λX x=>((z1 (w x.1 (z2 (u x.2))) X.1),X.2)
theorem o79:aP Tryz.prog 79 e79:=fk ZX ((base.add o99).add Xh) Tryz.func79 (Λ:=YK) (cF Th nF)
def e80:aW:=aN [pf (.sl dR),pf ij] [rI] (c2 Pu.na)
theorem o80:aP Tryz.prog 80 e80:=f0 {} ((base.add Uq).add Uv) Tryz.func80
def e81:aW:=aN [pf ca] [(true,(.pair (.int .i64) Y1))] (c1 Pu.nL)
theorem o81:aP Tryz.prog 81 e81:=f0 {} base Tryz.func81
def O7:aW:=aN [pd .str,pI] [rI] (c2 Pu.nP)
theorem UK:aP Tryz.prog 210 O7:=f0 {} base Tryz.func210
def Sw:aW:=aN [pd .str,pI] [rI] (c2 Pu.lS)
def WO:cD:=(cD.nil.add 69 MN).add 210 O7
def Uj:An:={mask:=mk [(5,[0,1,5,6])],merge:=mg [(1,14)]}
abbrev BP:SD:=⟨.data false .str::DI::B::B::B::DI::DI::bs 22 [],zs 29 [],.none⟩
def Mg {R:Type}(X:SD.D BP)(K:Ex→AS→Option R):=Pu.iY (λy0 y1=>ke 0 K BP ((z2 (w y0 (u y1)) X.1),X.2)) X.1.1 X.1.2.1
def Qs:cA:=iO BP Mg (λX=>(q2 X,q3 X))
def RH:cY:=(cY.nil).add 5 Qs
theorem PQ:g7 E WO Uj RH (aX Tryz.f211 0):=lk BP Mg (λX=>(q2 X,q3 X)) λX x=>((z2 (w x.1 (u x.2)) X.1),X.2)
theorem Ya:aP Tryz.prog 211 Sw:=fk Uj ((base.add zE).add UK) Tryz.func211 (Λ:=RH) (cF PQ nF)
def Wa:aW:=aN [pd .str,pd .str] [rI] (c2 Pu.lP)
def WI:cD:=(cD.nil.add 210 O7).add 211 Sw
def Ud:An:={mask:=mk [(5,[0,1,5,6])],merge:=mg [(1,14)]}
abbrev BK:SD:=⟨.data false .str::.data false .str::B::B::B::DI::DI::bs 25 [],zs 32 [],.none⟩
def Ma {R:Type}(X:SD.D BK)(K:Ex→AS→Option R):=Pu.iX (λy0 y1=>ke 0 K BK ((z2 (w y0 (u y1)) X.1),X.2)) X.1.1 X.1.2.1
def Qm:cA:=iO BK Ma (λX=>(q2 X,q3 X))
def RA:cY:=(cY.nil).add 5 Qm
theorem PJ:g7 E WI Ud RA (aX Tryz.f189 0):=lk BK Ma (λX=>(q2 X,q3 X)) λX x=>((z2 (w x.1 (u x.2)) X.1),X.2)
theorem XY:aP Tryz.prog 189 Wa:=fk Ud ((base.add UK).add Ya) Tryz.func189 (Λ:=RA) (cF PJ nF)
def Wb:aW:=aN [pf ij] [rS] (c1 Pu.lQ)
theorem XZ:aP Tryz.prog 190 Wb:=f0 {} ((base.add Rh).add No) Tryz.func190
def VS:aW:=aN [pd .str,pf ij] [rI] (c2 Pu.nd)
theorem XI:aP Tryz.prog 165 VS:=f0 {} ((base.add XY).add XZ) Tryz.func165
def Vw:aW:=aN [pf oq,pf ij] [rI] (c2 Pu.oz)
theorem Xi:aP Tryz.prog 127 Vw:=f0 {merge:=mg [(2,17)]} (base.add XI) Tryz.func127
def e82:aW:=aN [pf oq,pI,pf ij] [rI] (c3 Pu.jK)
theorem o82:aP Tryz.prog 82 e82:=f0 {merge:=mg [(2,18)]} ((base.add Ur).add Xi) Tryz.func82
def e32:aW:=aN [pf gJ,pI,pf ca] [rI] (c3 Pu.jL)
theorem o32:aP Tryz.prog 32 e32:=f0 {merge:=mg [(1,17)]} ((((((base.add Yl).add Rf).add o79).add o80).add o81).add o82) Tryz.func32
def e83:aW:=aN [pd (.sl bF),pf ij] [rI] (c2 Pu.dT)
def g83:cD:=cD.nil
def ZY:An:={mask:=mk [(2,[3,4,7,8,9])]}
abbrev Dg:SD:=⟨B::B::B::.ptr 3 0::DI::B::B::.data false (.sl .arg bF)::DI::DI::bs 10 [],Z::Z::Z::(some (.pair (.int .i64) Y1))::zs 16 [],.none⟩
def OB {R:Type}(X:SD.D Dg)(K:Ex→AS→Option R):=Pu.ei (λy0=>ke 0 K Dg ((z3 (u y0) X.1),X.2)) (λy0 y1=>kr K Dg ((w y0 (z2 (u y1)) X.1),X.2)) X.1.1 X.1.2.1 (q2 X) X.2.1.1
def TP:cA:=iO Dg OB q3
def YL:cY:=(cY.nil).add 2 TP
theorem Ti:g7 E g83 ZY YL (aX Tryz.f83 0):=lk Dg OB q3 λX x=>((z3 (u x) X.1),X.2)
theorem o83:aP Tryz.prog 83 e83:=fk ZY base Tryz.func83 (Λ:=YL) (cF Ti nF)
def e33:aW:=aN [pd (.sl bF),pf ca] [(false,(.sl (.own none) bF))] (c2 Pu.lO)
theorem o33:aP Tryz.prog 33 e33:=f0 {merge:=mg [(17,82)],mv:=[16,31,51,58,67,83,132],er:=mg [(115,5)]} ((((((base.add o62).add Rf).add o81).add o83).add Rh).add Yo) Tryz.func33
def YT:aW:=aN [pf tr,pd .str] [(true,Y8)] (c2 Pu.jJ)
theorem o12:aP Tryz.prog 12 YT:=f0 {merge:=mg [(3,35)],mv:=[41]} ((((((base.add Z6).add Z8).add o30).add o31).add o32).add o33) Tryz.func12
def e38:aW:=aN [pd (.sl (.int .i64)),pI] [rB] (c2 Pu.lD)
def g38:cD:=cD.nil
def ZN:An:={mask:=mk [(2,[0,1,4,5])]}
abbrev C5:SD:=⟨.data false (.sl .arg (.int .i64))::DI::B::B::DB::DI::bs 12 [],zs 18 [],.none⟩
def Oh {R:Type}(X:SD.D C5)(K:Ex→AS→Option R):=Pu.mE (λy0=>ke 0 K C5 ((z3 (u y0) X.1),X.2)) (λy0 y1=>kr K C5 ((z2 (w y0 (u y1)) X.1),X.2)) X.1.1 X.1.2.1 (q2 X)
def Ty:cA:=iO C5 Oh q3
def YA:cY:=(cY.nil).add 2 Ty
theorem S1:g7 E g38 ZN YA (aX Tryz.f38 0):=lk C5 Oh q3 λX x=>((z3 (u x) X.1),X.2)
theorem o38:aP Tryz.prog 38 e38:=fk ZN base Tryz.func38 (Λ:=YA) (cF S1 nF)
def YU:aW:=aN [pf lF,pf ca] [rB] (c2 Pu.oG)
theorem o14:aP Tryz.prog 14 YU:=f0 {merge:=mg [(1,4)]} ((base.add o37).add o38) Tryz.func14
def VE:aW:=aN [pf eN,pf ca] [rB] (c2 Pu.oc)
theorem Xl:aP Tryz.prog 136 VE:=f0 {merge:=mg [(1,4)]} (base.add yH) Tryz.func136
def Zt:aW:=aN [pf eN,pf ca] [rB] (c2 Pu.jW)
theorem o94:aP Tryz.prog 94 Zt:=f0 {merge:=mg [(1,4)]} (((base.add Re).add Uz).add Xl) Tryz.func94
def e41:aW:=aN [pd (.sl eN),pf ca] [rI] (c2 Pu.nu)
def g41:cD:=(cD.nil.add 90 Wq).add 94 Zt
def ZO:An:={mask:=mk [(3,[0,3,5,6])],merge:=mg [(3,14),(5,39)]}
abbrev Hu:SD:=⟨.data false (.sl .arg eN)::B::B::.ptr 3 0::B::DI::DI::bs 35 [],Z::Z::Z::(some Y0)::zs 38 [],.none⟩
def Ok {R:Type}(X:SD.D Hu)(K:Ex→AS→Option R):=Pu.gU (λy0 y1=>ke 0 K Hu ((z1 (w y0 (u y1)) X.1),X.2)) X.1.1 X.2.1.1
def TB:cA:=iO Hu Ok (λX=>(X.1.2.1,q2 X))
def YB:cY:=(cY.nil).add 3 TB
theorem S4:g7 E g41 ZO YB (aX Tryz.f41 0):=lk Hu Ok (λX=>(X.1.2.1,q2 X)) λX x=>((z1 (w x.1 (u x.2)) X.1),X.2)
theorem o41:aP Tryz.prog 41 e41:=fk ZO ((base.add o90).add o94) Tryz.func41 (Λ:=YB) (cF S4 nF)
def e42:aW:=aN [pf (.sl dR),pf ij] [rI] (c2 Pu.nt)
theorem o42:aP Tryz.prog 42 e42:=f0 {} ((base.add Yp).add Yq) Tryz.func42
def O5:aW:=aN [pd .str,pI] [rI] (c2 Pu.nV)
theorem UH:aP Tryz.prog 193 O5:=f0 {} base Tryz.func193
def So:aW:=aN [pd .str,pI] [rI] (c2 Pu.mm)
def WK:cD:=(cD.nil.add 73 My).add 193 O5
def Uf:An:={mask:=mk [(5,[0,1,5,6])],merge:=mg [(1,14)]}
abbrev BM:SD:=⟨.data false .str::DI::B::B::B::DI::DI::bs 21 [],zs 28 [],.none⟩
def Mc {R:Type}(X:SD.D BM)(K:Ex→AS→Option R):=Pu.je (λy0 y1=>ke 0 K BM ((z2 (w y0 (u y1)) X.1),X.2)) X.1.1 X.1.2.1
def Qo:cA:=iO BM Mc (λX=>(q2 X,q3 X))
def RD:cY:=(cY.nil).add 5 Qo
theorem PL:g7 E WK Uf RD (aX Tryz.f194 0):=lk BM Mc (λX=>(q2 X,q3 X)) λX x=>((z2 (w x.1 (u x.2)) X.1),X.2)
theorem X2:aP Tryz.prog 194 So:=fk Uf ((base.add yH).add UH) Tryz.func194 (Λ:=RD) (cF PL nF)
def VX:aW:=aN [pd .str,pd .str] [rI] (c2 Pu.mh)
def WC:cD:=(cD.nil.add 193 O5).add 194 So
def T8:An:={mask:=mk [(5,[0,1,5,6])],merge:=mg [(1,14)]}
abbrev BF:SD:=⟨.data false .str::.data false .str::B::B::B::DI::DI::bs 25 [],zs 32 [],.none⟩
def L5 {R:Type}(X:SD.D BF)(K:Ex→AS→Option R):=Pu.jc (λy0 y1=>ke 0 K BF ((z2 (w y0 (u y1)) X.1),X.2)) X.1.1 X.1.2.1
def Qh:cA:=iO BF L5 (λX=>(q2 X,q3 X))
def Ru:cY:=(cY.nil).add 5 Qh
theorem PE:g7 E WC T8 Ru (aX Tryz.f170 0):=lk BF L5 (λX=>(q2 X,q3 X)) λX x=>((z2 (w x.1 (u x.2)) X.1),X.2)
theorem XL:aP Tryz.prog 170 VX:=fk T8 ((base.add UH).add X2) Tryz.func170 (Λ:=Ru) (cF PE nF)
def VY:aW:=aN [pf ij] [rS] (c1 Pu.mi)
theorem XM:aP Tryz.prog 171 VY:=f0 {} ((base.add N4).add Ji) Tryz.func171
def VF:aW:=aN [pd .str,pf ij] [rI] (c2 Pu.nv)
theorem Xm:aP Tryz.prog 138 VF:=f0 {} ((base.add XL).add XM) Tryz.func138
def e96:aW:=aN [pf oq,pf ij] [rI] (c2 Pu.oH)
theorem o96:aP Tryz.prog 96 e96:=f0 {merge:=mg [(2,17)]} (base.add Xm) Tryz.func96
def e44:aW:=aN [pf oq,pI,pf ij] [rI] (c3 Pu.jZ)
theorem o44:aP Tryz.prog 44 e44:=f0 {merge:=mg [(2,18)]} ((base.add o92).add o96) Tryz.func44
def YV:aW:=aN [pf gJ,pI,pf ca] [rI] (c3 Pu.ka)
theorem o15:aP Tryz.prog 15 YV:=f0 {merge:=mg [(1,17)]} ((((((base.add o39).add Re).add o41).add o42).add Yj).add o44) Tryz.func15
def YW:aW:=aN [pd (.sl bF),pd (.sl bF)] [rB] (c2 Pu.jR)
def g16:cD:=cD.nil
def ZI:An:={mask:=mk [(4,[0,1,4,5])]}
abbrev C0:SD:=⟨.data false (.sl .arg bF)::.data false (.sl .arg bF)::B::B::DB::DI::bs 20 [],zs 26 [],.none⟩
def N8 {R:Type}(X:SD.D C0)(K:Ex→AS→Option R):=Pu.ko (λy0=>ke 0 K C0 ((z3 (u y0) X.1),X.2)) (λy0 y1=>kr K C0 ((z2 (w y0 (u y1)) X.1),X.2)) X.1.1 X.1.2.1 (q2 X)
def Tp:cA:=iO C0 N8 q3
def Yv:cY:=(cY.nil).add 4 Tp
theorem SR:g7 E g16 ZI Yv (aX Tryz.f16 0):=lk C0 N8 q3 λX x=>((z3 (u x) X.1),X.2)
theorem o16:aP Tryz.prog 16 YW:=fk ZI base Tryz.func16 (Λ:=Yv) (cF SR nF)
def Zd:aW:=aN [pd (.sl bF),pf ca] [(false,(.sl (.own none) bF))] (c2 Pu.mf)
theorem o45:aP Tryz.prog 45 Zd:=f0 {merge:=mg [(17,84)],mv:=[16,31,53,60,69,85,139]} ((((base.add Re).add Yj).add o97).add N4) Tryz.func45
def YX:aW:=aN [pd (.sl bF),pd (.sl ca)] [(false,(.sl (.own none) bF))] (c2 Pu.ir)
def g17:cD:=cD.nil.add 45 Zd
def ZJ:An:={mask:=mk [(3,[1,5,6])],mv:=[22]}
abbrev Hq:SD:=⟨B::.data false (.sl .arg ca)::B::B::B::.data false (.sl (.own (some 61440)) bF)::DI::bs 16 [],zs 23 [],.none⟩
def N9 {R:Type}(X:SD.D Hq)(K:Ex→AS→Option R):=Pu.ln (λy0 y1=>ke 0 K Hq ((z1 (w y0 (u y1)) X.1),X.2)) X.1.1
def Tq:cA:=iO Hq N9 (λX=>(X.1.2.1,q2 X))
def Yw:cY:=(cY.nil).add 3 Tq
theorem SS:g7 E g17 ZJ Yw (aX Tryz.f17 0):=lk Hq N9 (λX=>(X.1.2.1,q2 X)) λX x=>((z1 (w x.1 (u x.2)) X.1),X.2)
theorem o17:aP Tryz.prog 17 YX:=fk ZJ (base.add o45) Tryz.func17 (Λ:=Yw) (cF SS nF)
def Zg:aW:=aN [pd (.sl bF),pd (.sl bF),pf ij] [rB] (c3 Pu.js)
theorem o48:aP Tryz.prog 48 Zg:=f0 {merge:=mg [(2,6)]} (base.add o83) Tryz.func48
def YZ:aW:=aN [pd (.sl bF),pd (.sl bF)] [rB] (c2 Pu.kz)
def Zz:cD:=cD.nil.add 48 Zg
def WW:An:={mask:=mk [(2,[0,1,4,9,10,11]),(8,[0,1,4,22,23,24])]}
abbrev C1:SD:=⟨.data false (.sl .arg bF)::.data false (.sl .arg bF)::B::B::DB::bs 4 (.data false (.sl .arg bF)::DI::DI::bs 23 []),zs 35 [],.none⟩
def Oa {R:Type}(X:SD.D C1)(K:Ex→AS→Option R):=Pu.jH (λy0=>ke 0 K C1 ((z5 (u y0) X.1),X.2)) (λy0 y1=>kr K C1 ((z2 (w y0 (z2 (u y1))) X.1),X.2)) X.1.1 X.1.2.1 (q2 X) (q3 X) (q4 X)
def Tr:cA:=iO C1 Oa q5
abbrev C2:SD:=⟨.data false (.sl .arg bF)::.data false (.sl .arg bF)::B::B::DB::bs 17 (.data false (.sl .arg bF)::DI::DI::bs 10 []),zs 35 [],.none⟩
def Ob {R:Type}(X:SD.D C2)(K:Ex→AS→Option R):=Pu.jI (λy0=>ke 2 K C2 ((z5 (u y0) X.1),X.2)) (λy0 y1=>kr K C2 ((z2 (w y0 (z2 (u y1))) X.1),X.2)) X.1.1 X.1.2.1 (q2 X) (q3 X) (q4 X)
def Ts:cA:=iO C2 Ob q5
def U8:cY:=((cY.nil).add 2 Tr).add 8 Ts
theorem SU:g7 E Zz WW U8 (aX Tryz.f19 0):=lk C1 Oa q5 λX x=>((z5 (u x) X.1),X.2)
theorem SV:g7 E Zz WW U8 (aX Tryz.f19 1):=lk C2 Ob q5 λX x=>((z5 (u x) X.1),X.2)
theorem o19:aP Tryz.prog 19 YZ:=fk WW (base.add o48) Tryz.func19 (Λ:=U8) (cF SU (cF SV nF))
abbrev ll:List PS:=[pd (.sl (.int .u8))]
def pg:aW:=aN ll [rB] (c1 Pu.mK)
def tS:cD:=((((((((((cD.nil.add 5 e5).add 6 e6).add 9 e9).add 12 YT).add 13 Vz).add 14 YU).add 15 YV).add 16 YW).add 17 YX).add 18 YY).add 19 YZ
def pz:An:={mask:=mk [(7,[3,4,5,6,7])],merge:=mg [(12,65),(14,2)],mv:=[66],sb:=mg [(5,5)]}
abbrev fX:SD:=⟨B::B::B::.ptr 3 0::.data false (.sl .loc rX)::.ptr 5 0::.data false (.sl (.own (some 73728)) ca)::DI::bs 80 [],Z::Z::Z::(some (.pair (.sl .loc .str) (.pair (.sl .loc cB) (.pair (.pair Y1 (.pair (.pair (.int .i64) (.pair (.int .i64) (.pair (.int .i64) (.sl .loc (.int .i64))))) (.pair (.sl .loc mH) (.int .i64)))) (.pair (.sl .loc fS) (.pair (.sl .loc kq) (.pair (.sl .loc fT) (.pair (.sl .loc .bool) (.pair (.pair (.int .i64) (.pair .bool (.sl .loc (.int .i64)))) (.pair (.pair (.sl .loc eN) (.pair (.sl .loc dR) (.pair .str (.sl .loc (.int .i64))))) (.pair (.sl .loc bF) (.pair .bool (.pair (.sl .loc .str) (.pair (.sl .loc (.int .i64)) (.pair (.sl .loc (.int .i64)) (.pair (.int .i64) Y1))))))))))))))))::Z::(some (.pair (.pair (.int .i64) (.pair .bool (.sl (.own (some 61447)) (.int .i64)))) (.pair (.pair (.sl (.own (some 61450)) eN) (.pair (.sl (.own (some 61453)) dR) (.pair .str (.sl (.own (some 61459)) (.int .i64))))) (.pair (.int .i64) (.pair (.sl (.own (some 61465)) bF) (.sl (.own (some 61468)) .str))))))::zs 82 [],.none⟩
def nX {R:Type}(X:SD.D fX)(K:Ex→AS→Option R):=Pu.km (λy0 y1 y2=>ke 0 K fX ((z1 (w y0 (u y1)) X.1),(z1 (u y2) X.2.1),X.2.2)) X.1.1 X.2.1.1
def sB:cA:=iO fX nX (λX=>(X.1.2.1,q2 X,X.2.1.2.1))
def pc:cY:=(cY.nil).add 7 sB
theorem sA:g7 E tS pz pc (aX Tryz.f4 0):=lk fX nX (λX=>(X.1.2.1,q2 X,X.2.1.2.1)) λX x=>((z1 (w x.1 (u x.2.1)) X.1),(z1 (u x.2.2) X.2.1),X.2.2)
theorem tX:aP Tryz.prog 4 pg:=fk pz (((((((((((base.add o5).add o6).add o9).add o12).add Z5).add o14).add o15).add o16).add o17).add Z6).add o19) Tryz.func4 (Λ:=pc) (cF sA nF)
end
end Go.Proofs.YthjhpjjgcfedbaaGreat.Fn
