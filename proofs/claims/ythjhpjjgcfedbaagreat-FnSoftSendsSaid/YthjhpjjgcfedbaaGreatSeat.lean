import Derived.Test.YthjhpjjgcfedbaaGreatDnSig
import Derived.Test.YthjhpjjgcfedbaaGreatPure
import Derived.Test.YthjhpjjgcfedbaaGreatRows
/- Each function of the program is its pure function (made by gen.py). -/
namespace Go.Proofs.YthjhpjjgcfedbaaGreat.Fn
open Go.Dn
open Go.Pu (cv qg kA mB oY gi bR Di gj fT mW iq oX Gb ec sH iR eD qy rK nL qh Gc LL E8)
set_option maxRecDepth 100000
set_option linter.unusedVariables false
noncomputable section
abbrev B:PD:=.bot
abbrev DI:PD:=.data false (.int .i64)
abbrev DB:PD:=.data false .bool
abbrev Z:Option FT:=none
theorem nF {p:Code→Prop}:∀x∈([]:List Code),p x:=λ_ h=>nomatch h
theorem cF {p:Code→Prop}{a:Code}{l:List Code}(h:p a)(t:∀x∈l,p x):∀x∈a::l,p x:=List.forall_mem_cons.2 ⟨h,t⟩
theorem hF {p:Code→Prop}{l m:List Code}(e:l=m)(h:∀x∈m,p x):∀x∈l,p x:=e▸h
theorem fk {P:Program}{E:Env}{Γ:cH}{s:List PS}{rs:List (Bool×FT)}{F:qv s→Option (fa rs)}{f:Nat}{fn:Func}(an:An)(hS:Sound P E Γ)(hf:P.funcs[f]?=some fn){Λ:cZ}{l:List Code}(h:∀c∈l,im E Γ an Λ c)(hn:(fn.name== "runtime.NumGoroutine")=false:=by kernel_rfl)(hl:eo (fn.body.getD .skip)=l:=by kernel_rfl)(hcut:an.cut=[]:=by kernel_rfl)(hF:∀a,wv E Γ an Λ fn rs (fg s a)=F a:=by intro a;kernel_rfl):aP P f (aO s rs F):=aP.of (MU hS hf hn (oW.of (Fn.hF hl h) hcut)) hF
theorem ao {E:Env}{Γ:cH}{an:An}{Λ:cZ}{b:Code}{l:List Code}(h:∀c∈l,im E Γ an Λ c)(hl:eo b=l:=by kernel_rfl)(hc:an.cut=[]:=by kernel_rfl):oW E Γ an Λ b:=oW.of (Fn.hF hl h) hc
theorem ac {E:Env}{Γ:cH}{an:An}{Λ:cZ}{b:Code}{l m:List Code}(h:∀c∈l,im E Γ an Λ c)(hc:∀c∈m,Dc E Γ an Λ c)(hl:eo b=l:=by kernel_rfl)(hm:eZ an.cut b=m:=by kernel_rfl):oW E Γ an Λ b:=⟨Fn.hF hl h,Fn.hF hm hc⟩
theorem fc {P:Program}{E:Env}{Γ:cH}{s:List PS}{rs:List (Bool×FT)}{F:qv s→Option (fa rs)}{f:Nat}{fn:Func}(an:An)(hS:Sound P E Γ)(hf:P.funcs[f]?=some fn){Λ:cZ}{l m:List Code}(h:∀c∈l,im E Γ an Λ c)(hc:∀c∈m,Dc E Γ an Λ c)(hn:(fn.name== "runtime.NumGoroutine")=false:=by kernel_rfl)(hl:eo (fn.body.getD .skip)=l:=by kernel_rfl)(hm:eZ an.cut (fn.body.getD .skip)=m:=by kernel_rfl)(hF:∀a,wv E Γ an Λ fn rs (fg s a)=F a:=by intro a;kernel_rfl):aP P f (aO s rs F):=aP.of (MU hS hf hn ⟨Fn.hF hl h,Fn.hF hm hc⟩) hF
abbrev pd (t:CT):PS:=.data false t
abbrev pf (t:CT):PS:=.data true t
abbrev pI:PS:=.data false (.int .i64)
abbrev rB:Bool×FT:=(false,.bool)
abbrev rI:Bool×FT:=(false,.int .i64)
abbrev rS:Bool×FT:=(false,.str)
abbrev bs:Nat→List PD→List PD|0,l=>l|n+1,l=> .bot::bs n l
abbrev zs:Nat→List (Option FT)→List (Option FT)|0,l=>l|n+1,l=>none::zs n l
def mk (l:List (Nat×List Nat))(n:Nat):List Nat:=(l.lookup n).getD []
def mg (l:List (Nat×Nat))(n:Nat):Option Nat:=l.lookup n
def ke {R:Type}(n:Nat)(K:Ex→AS→Option R)(d:SD)(x:SD.D d):Option R:=K (.exit n) (SD.enc d x)
def kn {R:Type}(K:Ex→AS→Option R)(d:SD)(x:SD.D d):Option R:=K .normal (SD.enc d x)
def kr {R:Type}(K:Ex→AS→Option R)(d:SD)(x:SD.D d):Option R:=K .ret (SD.enc d x)
def js {σ:Type}(d:SD)(t:{R:Type}→SD.D d→(Ex→AS→Option R)→(σ→Option R)→σ→Option R)(i:SD.D d→σ):cI:=⟨d,λX K=>bc (t X K) fuel (i X)⟩
theorem lk {E:Env}{Γ:cH}{an:An}{Λ:cZ}{c:Code}{σ:Type}(d:SD)(t:{R:Type}→SD.D d→(Ex→AS→Option R)→(σ→Option R)→σ→Option R)(i:SD.D d→σ)(w:SD.D d→σ→SD.D d)(h1:Λ (cS c)=js d t i:=by kernel_rfl)(h:∀(R:Type)(X:SD.D d)(K:Ex→AS→Option R)(m:Nat)(x:σ),qp (an.mask (cS c)) (den E Γ an Λ c) (m+1) (SD.enc d (w X x)) K=t X K (λy=>qp (an.mask (cS c)) (den E Γ an Λ c) m (SD.enc d (w X y)) K) x:=by intro R X K m x;kernel_rfl)(hw:∀X,w X (i X)=X:=by intro X;kernel_rfl):im E Γ an Λ c:=X3 (js d t i) h1 fuel λR X K=>(yR (λx=>SD.enc d (w X x)) (t X K) (h R X K) fuel (i X)).symm.trans (congrArg (λy=>qp (an.mask (cS c)) (den E Γ an Λ c) fuel (SD.enc d y) K) (hw X))
def GW (d:SD)(t:{R:Type}→SD.D d→(Ex→AS→Option R)→Option R):cI:=⟨d,λX K=>t X K⟩
theorem ck {E:Env}{Γ:cH}{an:An}{Λ:cZ}{c:Code}(d:SD)(t:{R:Type}→SD.D d→(Ex→AS→Option R)→Option R)(h1:Λ (qB c)=GW d t:=by kernel_rfl)(h:∀(R:Type)(X:SD.D d)(K:Ex→AS→Option R),t X K=den E Γ an Λ c (SD.enc d X) (λe st'=>K e (st'.mask (an.mask (qB c+1)))):=by intro R X K;kernel_rfl):Dc E Γ an Λ c:=WT (GW d t) h1 h
def u {A B:Type}(y:A)(x:A×B):A×B:=(y,x.2)
def w {A B:Type}(y:A)(f:B→B)(x:A×B):A×B:=(y,f x.2)
def z1 {A0 B:Type}(f:B→B)(x:A0×B):A0×B:=(x.1,f x.2)
def z2 {A0 A1 B:Type}(f:B→B)(x:A0×A1×B):A0×A1×B:=(x.1,x.2.1,f x.2.2)
def z3 {A0 A1 A2 B:Type}(f:B→B)(x:A0×A1×A2×B):A0×A1×A2×B:=(x.1,x.2.1,x.2.2.1,f x.2.2.2)
def z4 {A0 A1 A2 A3 B:Type}(f:B→B)(x:A0×A1×A2×A3×B):A0×A1×A2×A3×B:=(x.1,x.2.1,x.2.2.1,x.2.2.2.1,f x.2.2.2.2)
def z5 {A0 A1 A2 A3 A4 B:Type}(f:B→B)(x:A0×A1×A2×A3×A4×B):A0×A1×A2×A3×A4×B:=(x.1,x.2.1,x.2.2.1,x.2.2.2.1,x.2.2.2.2.1,f x.2.2.2.2.2)
def z6 {A0 A1 A2 A3 A4 A5 B:Type}(f:B→B)(x:A0×A1×A2×A3×A4×A5×B):A0×A1×A2×A3×A4×A5×B:=(x.1,x.2.1,x.2.2.1,x.2.2.2.1,x.2.2.2.2.1,x.2.2.2.2.2.1,f x.2.2.2.2.2.2)
def z7 {A0 A1 A2 A3 A4 A5 A6 B:Type}(f:B→B)(x:A0×A1×A2×A3×A4×A5×A6×B):A0×A1×A2×A3×A4×A5×A6×B:=(x.1,x.2.1,x.2.2.1,x.2.2.2.1,x.2.2.2.2.1,x.2.2.2.2.2.1,x.2.2.2.2.2.2.1,f x.2.2.2.2.2.2.2)
def q2 {A0 A1 A2 B C:Type}(x:(A0×A1×A2×B)×C):A2:=x.1.2.2.1
def q3 {A0 A1 A2 A3 B C:Type}(x:(A0×A1×A2×A3×B)×C):A3:=x.1.2.2.2.1
def q4 {A0 A1 A2 A3 A4 B C:Type}(x:(A0×A1×A2×A3×A4×B)×C):A4:=x.1.2.2.2.2.1
def q5 {A0 A1 A2 A3 A4 A5 B C:Type}(x:(A0×A1×A2×A3×A4×A5×B)×C):A5:=x.1.2.2.2.2.2.1
def q6 {A0 A1 A2 A3 A4 A5 A6 B C:Type}(x:(A0×A1×A2×A3×A4×A5×A6×B)×C):A6:=x.1.2.2.2.2.2.2.1
def q7 {A0 A1 A2 A3 A4 A5 A6 A7 B C:Type}(x:(A0×A1×A2×A3×A4×A5×A6×A7×B)×C):A7:=x.1.2.2.2.2.2.2.2.1
def q8 {A0 A1 A2 A3 A4 A5 A6 A7 A8 B C:Type}(x:(A0×A1×A2×A3×A4×A5×A6×A7×A8×B)×C):A8:=x.1.2.2.2.2.2.2.2.2.1
def q9 {A0 A1 A2 A3 A4 A5 A6 A7 A8 A9 B C:Type}(x:(A0×A1×A2×A3×A4×A5×A6×A7×A8×A9×B)×C):A9:=x.1.2.2.2.2.2.2.2.2.2.1
def c1 {A0 B R:Type}(f:A0→R)(a:A0×B):R:=f a.1
def c2 {A0 A1 B R:Type}(f:A0→A1→R)(a:A0×A1×B):R:=f a.1 a.2.1
def c3 {A0 A1 A2 B R:Type}(f:A0→A1→A2→R)(a:A0×A1×A2×B):R:=f a.1 a.2.1 a.2.2.1
def c4 {A0 A1 A2 A3 B R:Type}(f:A0→A1→A2→A3→R)(a:A0×A1×A2×A3×B):R:=f a.1 a.2.1 a.2.2.1 a.2.2.2.1
def c5 {A0 A1 A2 A3 A4 B R:Type}(f:A0→A1→A2→A3→A4→R)(a:A0×A1×A2×A3×A4×B):R:=f a.1 a.2.1 a.2.2.1 a.2.2.2.1 a.2.2.2.2.1
def c6 {A0 A1 A2 A3 A4 A5 B R:Type}(f:A0→A1→A2→A3→A4→A5→R)(a:A0×A1×A2×A3×A4×A5×B):R:=f a.1 a.2.1 a.2.2.1 a.2.2.2.1 a.2.2.2.2.1 a.2.2.2.2.2.1
theorem f0 {P:Program}{E:Env}{Γ:cH}{s:List PS}{rs:List (Bool×FT)}{F:qv s→Option (fa rs)}{f:Nat}{fn:Func}(an:An)(hS:Sound P E Γ)(hf:P.funcs[f]?=some fn)(hn:(fn.name== "runtime.NumGoroutine")=false:=by kernel_rfl)(hl:eo (fn.body.getD .skip)=[]:=by kernel_rfl)(hcut:an.cut=[]:=by rfl)(hF:∀a,wv E Γ an cZ.nil fn rs (fg s a)=F a:=by intro a;kernel_rfl):aP P f (aO s rs F):=aP.of (MU hS hf hn (oW.of (Fn.hF hl nF) hcut)) hF
abbrev VI:FT:=.pair (.int .i64) (.pair (.int .i64) (.pair (.int .i64) (.pair (.int .i64) .str)))
abbrev Se:FT:=.pair (.int .i64) (.pair (.int .i64) VI)
abbrev Y0:FT:=.pair (.int .i64) (.pair (.int .i64) (.pair (.int .i64) (.pair (.int .i64) (.pair (.int .i64) (.pair (.int .i64) (.pair (.int .i64) (.pair (.int .i64) (.pair (.int .i64) Se))))))))
abbrev Y1:FT:=.pair (.int .i64) (.pair (.int .i64) (.pair (.int .i64) (.int .i64)))
abbrev Y9:FT:=.pair (.int .i64) (.pair (.int .i64) (.pair (.int .i64) (.sl (.own none) (.int .i64))))
abbrev Pg:FT:=.pair (.int .i64) (.pair .bool (.sl (.own none) (.int .i64)))
abbrev Pf:FT:=.pair (.sl (.own none) iq) (.pair (.sl (.own none) ec) (.pair .str (.sl (.own none) (.int .i64))))
abbrev Y2:FT:=.pair (.sl (.own none) .str) (.pair (.sl (.own none) cv) (.pair (.pair Y1 (.pair Y9 (.pair (.sl (.own none) mB) (.int .i64)))) (.pair (.sl (.own none) gj) (.pair (.sl (.own none) kA) (.pair (.sl (.own none) fT) (.pair (.sl (.own none) .bool) (.pair Pg (.pair Pf (.pair (.sl (.own none) eD) (.pair .bool (.pair (.sl (.own none) .str) (.pair (.sl (.own none) (.int .i64)) (.pair (.sl (.own none) (.int .i64)) (.pair (.int .i64) Y1))))))))))))))
abbrev Y3:FT:=.pair (.sl .arg0 (.int .u8)) (.pair (.int .i64) (.int .i64))
abbrev Y4:FT:=.pair (.sl (.own (some 196609)) .str) (.pair (.sl (.own (some 196612)) cv) (.pair (.pair Y1 (.pair (.pair (.int .i64) (.pair (.int .i64) (.pair (.int .i64) (.sl (.own (some 196636)) (.int .i64))))) (.pair (.sl (.own (some 196639)) mB) (.int .i64)))) (.pair (.sl (.own (some 196645)) gj) (.pair (.sl (.own (some 196648)) kA) (.pair (.sl (.own (some 196651)) fT) (.pair (.sl (.own (some 196654)) .bool) (.pair (.pair (.int .i64) (.pair .bool (.sl (.own (some 196663)) (.int .i64)))) (.pair (.pair (.sl (.own (some 196666)) iq) (.pair (.sl (.own (some 196669)) ec) (.pair .str (.sl (.own (some 196675)) (.int .i64))))) (.pair (.sl (.own (some 196678)) eD) (.pair .bool (.pair (.sl (.own (some 196684)) .str) (.pair (.sl (.own (some 196687)) (.int .i64)) (.pair (.sl (.own (some 196690)) (.int .i64)) (.pair (.int .i64) Y1))))))))))))))
abbrev Y5:FT:=.pair (.sl (.own (some 147457)) .str) (.pair (.sl (.own (some 147460)) cv) (.pair (.pair Y1 (.pair (.pair (.int .i64) (.pair (.int .i64) (.pair (.int .i64) (.sl (.own (some 147484)) (.int .i64))))) (.pair (.sl (.own (some 147487)) mB) (.int .i64)))) (.pair (.sl (.own (some 147493)) gj) (.pair (.sl (.own (some 147496)) kA) (.pair (.sl (.own (some 147499)) fT) (.pair (.sl (.own (some 147502)) .bool) (.pair (.pair (.int .i64) (.pair .bool (.sl (.own (some 147511)) (.int .i64)))) (.pair (.pair (.sl (.own (some 147514)) iq) (.pair (.sl (.own (some 147517)) ec) (.pair .str (.sl (.own (some 147523)) (.int .i64))))) (.pair (.sl (.own (some 147526)) eD) (.pair .bool (.pair (.sl (.own (some 147532)) .str) (.pair (.sl (.own (some 147535)) (.int .i64)) (.pair (.sl (.own (some 147538)) (.int .i64)) (.pair (.int .i64) Y1))))))))))))))
abbrev Y6:FT:=.pair (.sl (.own (some 24577)) .str) (.pair (.sl (.own (some 24580)) cv) (.pair (.pair Y1 (.pair (.pair (.int .i64) (.pair (.int .i64) (.pair (.int .i64) (.sl (.own (some 24604)) (.int .i64))))) (.pair (.sl (.own (some 24607)) mB) (.int .i64)))) (.pair (.sl (.own (some 24613)) gj) (.pair (.sl (.own (some 24616)) kA) (.pair (.sl (.own (some 24619)) fT) (.pair (.sl (.own (some 24622)) .bool) (.pair (.pair (.int .i64) (.pair .bool (.sl (.own (some 24631)) (.int .i64)))) (.pair (.pair (.sl (.own (some 24634)) iq) (.pair (.sl (.own (some 24637)) ec) (.pair .str (.sl (.own (some 24643)) (.int .i64))))) (.pair (.sl (.own (some 24646)) eD) (.pair .bool (.pair (.sl (.own (some 24652)) .str) (.pair (.sl (.own (some 24655)) (.int .i64)) (.pair (.sl (.own (some 24658)) (.int .i64)) (.pair (.int .i64) Y1))))))))))))))
abbrev Pe:FT:=.pair (.int .i64) (.pair (.int .i64) (.pair (.int .i64) (.sl .arg (.int .i64))))
abbrev Sd:FT:=.pair (.sl .arg iq) (.pair (.sl .arg ec) (.pair .str (.sl .arg (.int .i64))))
abbrev Y7:FT:=.pair (.sl .arg .str) (.pair (.sl .arg cv) (.pair (.pair Y1 (.pair Pe (.pair (.sl .arg mB) (.int .i64)))) (.pair (.sl .arg gj) (.pair (.sl .arg kA) (.pair (.sl .arg fT) (.pair (.sl .arg .bool) (.pair (.pair (.int .i64) (.pair .bool (.sl .arg (.int .i64)))) (.pair Sd (.pair (.sl .arg eD) (.pair .bool (.pair (.sl .arg .str) (.pair (.sl .arg (.int .i64)) (.pair (.sl .arg (.int .i64)) (.pair (.int .i64) Y1))))))))))))))
abbrev Y8:FT:=.pair Pg (.pair Pf (.pair (.int .i64) (.pair (.sl (.own none) eD) (.sl (.own none) .str))))
abbrev Sr:FT:=.pair (.sl (.own (some 49153)) iq) (.pair (.sl (.own (some 49156)) ec) (.pair .str (.sl (.own (some 49162)) (.int .i64))))
abbrev Ss:FT:=.pair (.int .i64) (.pair (.int .i64) (.pair (.int .i64) (.pair (.int .i64) (.pair .bool .bool))))
abbrev VJ:FT:=.pair (.sl (.own (some 24577)) iq) (.pair (.sl (.own (some 24580)) ec) (.pair .str (.sl (.own (some 24586)) (.int .i64))))
def E:Env:={ty:=[(3,⟨false,(.int .i64),[]⟩),(4,⟨false,.bool,[]⟩),(5,⟨false,(.int .u8),[]⟩),(9,⟨false,.str,[]⟩),(22,⟨false,(.sl (.int .u8)),[(5,0)]⟩),(24,⟨false,(.sl .str),[(9,0)]⟩),(26,⟨true,(.sl .str),[(0,1)]⟩),(27,⟨false,(.sl cv),[(175,0)]⟩),(29,⟨true,qg,[(0,1),(1,1),(2,1),(3,1)]⟩),(30,⟨false,(.sl (.int .i64)),[(3,0)]⟩),(32,⟨true,kA,[(0,1),(1,1),(2,1),(3,1)]⟩),(33,⟨false,(.sl mB),[(179,0)]⟩),(35,⟨true,oY,[(0,4),(4,4),(8,1),(9,1)]⟩),(36,⟨false,(.sl gj),[(136,0)]⟩),(37,⟨false,(.sl kA),[(32,0)]⟩),(38,⟨false,(.sl fT),[(140,0)]⟩),(39,⟨false,(.sl .bool),[(4,0)]⟩),(41,⟨true,mW,[(0,1),(1,1),(2,1)]⟩),(42,⟨false,(.sl iq),[(99,0)]⟩),(43,⟨false,(.sl ec),[(105,0)]⟩),(45,⟨true,(.sl ec),[(0,1)]⟩),(47,⟨true,sH,[(0,1),(1,1)]⟩),(49,⟨true,iR,[(0,1),(1,1),(2,2)]⟩),(50,⟨false,(.sl eD),[(108,0)]⟩),(52,⟨true,oX,[(0,1),(1,1),(2,1),(3,1),(4,1)]⟩),(54,⟨true,qy,[(0,1),(1,1),(2,10),(12,1),(13,1),(14,1),(15,1),(16,3),(19,4),(23,1),(24,1),(25,1),(26,1),(27,1),(28,5)]⟩),(55,⟨false,(.sl rK),[(72,0)]⟩),(59,⟨true,nL,[(0,1),(1,1),(2,1),(3,1),(4,1),(5,1),(6,1),(7,1)]⟩),(61,⟨true,bR,[(0,1),(1,1),(2,1),(3,1),(4,1),(5,1),(6,1),(7,1),(8,8)]⟩),(65,⟨true,qh,[(0,3),(3,4),(7,1),(8,1),(9,1)]⟩),(70,⟨false,(.sl bR),[(61,0)]⟩),(72,⟨true,rK,[(0,1),(1,16),(17,1),(18,1),(19,1),(20,1)]⟩),(99,⟨true,iq,[(0,1),(1,1),(2,1),(3,1),(4,1),(5,1),(6,1),(7,1),(8,1)]⟩),(102,⟨true,oX,[(0,1),(1,1),(2,1),(3,1),(4,1)]⟩),(105,⟨true,ec,[(0,1),(1,5),(6,1)]⟩),(108,⟨true,eD,[(0,5),(5,1),(6,1),(7,1)]⟩),(111,⟨true,(.pair (.sl (.int .u8)) (.pair (.int .i64) (.int .i64))),[(0,1),(1,1),(2,1)]⟩),(132,⟨true,gi,[(0,1),(1,1),(2,1)]⟩),(134,⟨true,Di,[(0,16),(16,1),(17,1)]⟩),(136,⟨true,gj,[(0,4),(4,3),(7,3),(10,18),(28,1),(29,1)]⟩),(140,⟨true,fT,[(0,1),(1,1),(2,1),(3,1),(4,1),(5,1)]⟩),(147,⟨true,Gc,[(0,1),(1,1),(2,1),(3,1),(4,1)]⟩),(151,⟨true,LL,[(0,1),(1,1),(2,1),(3,1),(4,1),(5,1),(6,1)]⟩),(175,⟨true,cv,[(0,1),(1,1),(2,1),(3,1)]⟩),(179,⟨true,mB,[(0,1),(1,1),(2,1)]⟩),(218,⟨false,(.int .u32),[]⟩),(228,⟨true,E8,[(0,1),(1,1),(2,1),(3,1),(4,1),(5,1)]⟩)],eqs:=[(102,[.int,.int,.int,.int,.int]),(134,[.int,.int,.int,.int,.int,.int,.int,.int,.int,.int,.int,.int,.int,.int,.int,.str,.int,.int])],fts:=[]}
theorem base:Sound Tryz.prog E cH.nil:=Sound.nil (Ch (by kernel_rfl)) (Ck (by kernel_rfl)) (Cj (by kernel_rfl)) (by kernel_rfl)
def e5:aZ:=aO [pd (.sl (.int .u8))] [rB] (c1 Pu.ta)
theorem o5:aP Tryz.prog 5 e5:=f0 {} base Tryz.func5
def WX:aZ:=DM (.pair (.sl .arg (.int .u8)) (.pair (.int .i64) (.int .i64))) [pd (.sl (.int .u8))] λa=>Pu.mI a.1
def Wa:cH:=cH.nil
def Wj:An:={mask:=mk [(3,[0,3,4])],merge:=mg [(3,15)]}
abbrev Fg:SD:=⟨.data false (.sl .arg (.int .u8))::B::B::DI::DI::bs 27 [],zs 32 [],.none⟩
def LZ {R:Type}(X:SD.D Fg)(K:Ex→AS→Option R):=Pu.nZ (λy0 y1=>ke 0 K Fg ((z1 (w y0 (u y1)) X.1),X.2)) X.1.1
def QO:cI:=js Fg LZ (λX=>(X.1.2.1,q2 X))
def Vo:cZ:=(cZ.nil).add 3 QO
theorem Ql:im E Wa Wj Vo (aY Tryz.f20 0):=lk Fg LZ (λX=>(X.1.2.1,q2 X)) λX x=>((z1 (w x.1 (u x.2)) X.1),X.2)
theorem WD:aP Tryz.prog 20 WX:=aP.R3 (Qb (Γ:=Wa) (an:=Wj) (Λ:=Vo) (base) Tryz.func20 (by kernel_rfl) (ao (cF Ql nF))) (λa=>by kernel_rfl)
def VU:aZ:=eP (.pair (.sl .arg0 (.int .u8)) (.pair (.int .i64) (.int .i64))) [] [rI] λx a=>Pu.eR x
theorem WK:aP Tryz.prog 59 VU:=aP.jt (jq (an:={}) (Λ:=cZ.nil) (base) Tryz.func59 (by kernel_rfl) (ao nF)) (λx a=>by kernel_rfl)
def MR:aZ:=eP (.pair (.sl .arg0 (.int .u8)) (.pair (.int .i64) (.int .i64))) [pI] [rI] λx a=>Pu.bd x a.1
theorem FJ:aP Tryz.prog 24 MR:=aP.jt (jq (an:={}) (Λ:=cZ.nil) (base.add WK) Tryz.func24 (by kernel_rfl) (ao nF)) (λx a=>by kernel_rfl)
def P9:aZ:=eP (.pair (.sl .arg0 (.int .u8)) (.pair (.int .i64) (.int .i64))) [pI] [rB] λx a=>Pu.dn x a.1
theorem On:aP Tryz.prog 51 P9:=aP.jt (jq (an:={}) (Λ:=cZ.nil) (base.add FJ) Tryz.func51 (by kernel_rfl) (ao nF)) (λx a=>by kernel_rfl)
def Tu:aZ:=eP (.pair (.sl .arg0 (.int .u8)) (.pair (.int .i64) (.int .i64))) [pI] [rS] λx a=>Pu.fI x a.1
def Wf:cH:=cH.nil.add 59 VU
def Wp:An:={mask:=mk [(5,[0,1,5,6])],mv:=[15]}
abbrev Fm:SD:=⟨.ptr 0 0::DI::B::B::B::.data false (.sl (.own (some 61440)) (.int .u8))::DI::bs 16 [],(some Y3)::zs 22 [],.ptr⟩
def Mc {R:Type}(X:SD.D Fm)(K:Ex→AS→Option R):=Pu.gZ (λy0 y1 y2=>ke 0 K Fm ((z1 (w y0 (u y1)) X.1),(u y2 X.2.1),X.2.2)) X.1.1
def Q0:cI:=js Fm Mc (λX=>(X.1.2.1,q2 X,X.2.1.1))
def Vu:cZ:=(cZ.nil).add 5 Q0
theorem Qx:im E Wf Wp Vu (aY Tryz.f53 0):=lk Fm Mc (λX=>(X.1.2.1,q2 X,X.2.1.1)) λX x=>((z1 (w x.1 (u x.2.1)) X.1),(u x.2.2 X.2.1),X.2.2)
theorem R2:aP Tryz.prog 53 Tu:=aP.jt (jq (Γ:=Wf) (an:=Wp) (Λ:=Vu) (base.add WK) Tryz.func53 (by kernel_rfl) (ao (cF Qx nF))) (λx a=>by kernel_rfl)
def Qa:aZ:=eP (.pair (.sl .arg0 (.int .u8)) (.pair (.int .i64) (.int .i64))) [pd (.sl (.int .i64))] [rI] λx a=>Pu.bm x a.1
theorem Lf:aP Tryz.prog 54 Qa:=aP.jt (jq (an:={}) (Λ:=cZ.nil) (base.add FJ) Tryz.func54 (by kernel_rfl) (ao nF)) (λx a=>by kernel_rfl)
def W8:aZ:=eP (.pair (.sl .arg0 (.int .u8)) (.pair (.int .i64) (.int .i64))) [] [rI] λx a=>Pu.jl x
theorem Vg:aP Tryz.prog 57 W8:=aP.jt (jq (an:={}) (Λ:=cZ.nil) (base.add FJ) Tryz.func57 (by kernel_rfl) (ao nF)) (λx a=>by kernel_rfl)
def Sx:aZ:=eP (.pair (.sl .arg0 (.int .u8)) (.pair (.int .i64) (.int .i64))) [] [rI] λx a=>Pu.mu x
theorem T6:aP Tryz.prog 109 Sx:=aP.jt (jq (an:={}) (Λ:=cZ.nil) (base.add Lf) Tryz.func109 (by kernel_rfl) (ao nF)) (λx a=>by kernel_rfl)
def W9:aZ:=eP (.pair (.sl .arg0 (.int .u8)) (.pair (.int .i64) (.int .i64))) [pI] [(true,(.pair (.int .i64) Se))] λx a=>Pu.kk x a.1
theorem Ym:aP Tryz.prog 58 W9:=aP.jt (jq (an:={}) (Λ:=cZ.nil) (((((base.add FJ).add On).add R2).add Lf).add T6) Tryz.func58 (by kernel_rfl) (ao nF)) (λx a=>by kernel_rfl)
def Tr:aZ:=eP (.pair (.sl .arg0 (.int .u8)) (.pair (.int .i64) (.int .i64))) [pI] [(true,Y0)] λx a=>Pu.eB x a.1
theorem Vf:aP Tryz.prog 23 Tr:=aP.jt (jq (an:={}) (Λ:=cZ.nil) ((((((base.add FJ).add On).add R2).add Lf).add Vg).add Ym) Tryz.func23 (by kernel_rfl) (ao nF)) (λx a=>by kernel_rfl)
def VR:aZ:=eP (.pair (.sl .arg0 (.int .u8)) (.pair (.int .i64) (.int .i64))) [pI] [(false,(.sl (.own none) bR))] λx a=>Pu.np x a.1
def LP:cH:=((((cH.nil.add 23 Tr).add 24 MR).add 51 P9).add 53 Tu).add 54 Qa
def FG:An:={mask:=mk [(5,[0,5,6,7,8]),(1000012,[0,5,6,7,8]),(1000013,[0,5,6,7,8]),(1000014,[0,5,6,7,8]),(1000015,[0,5,6,7,8]),(1000018,[0,5,6,7,8]),(1000019,[0,5,6,7,8]),(1000022,[0,5,6,7,8]),(1000023,[0,5,6,7,8]),(1000028,[0,5,6,7,8]),(1000029,[0,5,6,7,8]),(1000034,[0,5,6,7,8,64]),(1000035,[0,5,6,7,8])],cut:=[6,7,9,11,14,17],mv:=[47,76]}
abbrev qF:SD:=⟨.ptr 0 0::bs 4 (.data false (.sl (.own (some 61440)) bR)::.ptr 6 0::DI::DI::bs 55 (DB::bs 12 [])),(some Y3)::zs 5 ((some Y0)::zs 70 []),.ptr⟩
abbrev z0:SD:=⟨.ptr 0 0::bs 4 (.data false (.sl (.own (some 61440)) bR)::.ptr 6 0::DI::DI::bs 68 []),(some Y3)::zs 5 ((some Y0)::zs 70 []),.ptr⟩
def vh {R:Type}(X:SD.D qF)(K:Ex→AS→Option R):Option R:=Pu.lP (λy0=>kn K z0 ((X.1.1,(X.1.2.1,(X.1.2.2.1,()))),(X.2.1.1,(y0,())),())) X.1.1 X.1.2.1 (q2 X) (q3 X) X.2.1.1 X.2.1.2.1
def Cf:cI:=GW qF vh
abbrev oh:SD:=⟨.ptr 0 0::bs 4 (.data false (.sl (.own (some 61440)) bR)::.ptr 6 0::DI::DI::bs 68 []),(some Y3)::zs 5 ((some Y0)::zs 70 []),.ptr⟩
def vg {R:Type}(X:SD.D oh)(K:Ex→AS→Option R):Option R:=Pu.gC (λy0 y1 y2=>kn K oh ((u y0 X.1),(w y1 (u y2) X.2.1),X.2.2)) X.1.1 X.1.2.1 (q2 X) X.2.1.1 X.2.1.2.1
def Ce:cI:=GW oh vg
abbrev og:SD:=⟨.ptr 0 0::bs 4 (.data false (.sl (.own (some 61440)) bR)::.ptr 6 0::DI::DI::bs 68 []),(some Y3)::zs 5 ((some Y0)::zs 70 []),.ptr⟩
def vf {R:Type}(X:SD.D og)(K:Ex→AS→Option R):Option R:=Pu.gB (λy0 y1 y2=>kn K og ((u y0 X.1),(w y1 (u y2) X.2.1),X.2.2)) X.1.1 X.1.2.1 (q2 X) X.2.1.1 X.2.1.2.1
def Cd:cI:=GW og vf
abbrev oe:SD:=⟨.ptr 0 0::bs 4 (.data false (.sl (.own (some 61440)) bR)::.ptr 6 0::DI::DI::bs 68 []),(some Y3)::zs 5 ((some Y0)::zs 70 []),.ptr⟩
def ve {R:Type}(X:SD.D oe)(K:Ex→AS→Option R):Option R:=Pu.g6 (λy0 y1 y2 y3=>kn K oe ((w y0 (u y1) X.1),(w y2 (u y3) X.2.1),X.2.2)) X.1.1 X.1.2.1 (q2 X) X.2.1.1 X.2.1.2.1
def Cc:cI:=GW oe ve
abbrev oc:SD:=⟨.ptr 0 0::bs 4 (.data false (.sl (.own (some 61440)) bR)::.ptr 6 0::DI::DI::bs 68 []),(some Y3)::zs 5 ((some Y0)::zs 70 []),.ptr⟩
def vc {R:Type}(X:SD.D oc)(K:Ex→AS→Option R):Option R:=Pu.g5 (λy0=>kn K oc ((z2 (u y0) X.1),X.2)) X.1.1 X.1.2.1 (q2 X) X.2.1.1 X.2.1.2.1
def Ca:cI:=GW oc vc
abbrev od:SD:=⟨.ptr 0 0::bs 4 (.data false (.sl (.own (some 61440)) bR)::.ptr 6 0::DI::DI::bs 68 []),(some Y3)::zs 5 ((some Y0)::zs 70 []),.ptr⟩
def vd {R:Type}(X:SD.D od)(K:Ex→AS→Option R):Option R:=Pu.kl (λy0 y1 y2 y3 y4=>kn K od ((w y0 (w y1 (u y2)) X.1),(w y3 (u y4) X.2.1),X.2.2)) X.1.1 X.1.2.1 (q2 X) X.2.1.1 X.2.1.2.1
def Cb:cI:=GW od vd
abbrev Fl:SD:=⟨.ptr 0 0::bs 4 (.data false (.sl (.own (some 61440)) bR)::.ptr 6 0::DI::DI::bs 68 []),(some Y3)::zs 5 ((some Y0)::zs 70 []),.ptr⟩
def Mb {R:Type}(X:SD.D Fl)(K:Ex→AS→Option R):=Pu.mO (λy0 y1 y2 y3 y4=>ke 0 K Fl ((w y0 (w y1 (u y2)) X.1),(w y3 (u y4) X.2.1),X.2.2))
def QZ:cI:=js Fl Mb (λX=>(X.1.1,X.1.2.1,q2 X,X.2.1.1,X.2.1.2.1))
def LI:cZ:=(((((((cZ.nil).add 1000034 Cf).add 1000028 Ce).add 1000022 Cd).add 1000018 Cc).add 1000012 Ca).add 1000014 Cb).add 5 QZ
theorem B4:Dc E LP FG LI (kQ FG.cut Tryz.f49 4):=ck qF vh
theorem B3:Dc E LP FG LI (kQ FG.cut Tryz.f49 3):=ck oh vg
theorem B2:Dc E LP FG LI (kQ FG.cut Tryz.f49 2):=ck og vf
theorem B1:Dc E LP FG LI (kQ FG.cut Tryz.f49 1):=ck oe ve
theorem BZ:Dc E LP FG LI (kQ FG.cut Tryz.f49 5):=ck oc vc
theorem B0:Dc E LP FG LI (kQ FG.cut Tryz.f49 0):=ck od vd
theorem Qw:im E LP FG LI (aY Tryz.f49 0):=lk Fl Mb (λX=>(X.1.1,X.1.2.1,q2 X,X.2.1.1,X.2.1.2.1)) λX x=>((w x.1 (w x.2.1 (u x.2.2.1)) X.1),(w x.2.2.2.1 (u x.2.2.2.2) X.2.1),X.2.2)
theorem Yj:aP Tryz.prog 49 VR:=aP.jt (jq (Γ:=LP) (an:=FG) (Λ:=LI) (((((base.add Vf).add FJ).add On).add R2).add Lf) Tryz.func49 (by kernel_rfl) (ac (cF Qw nF) (cF B0 (cF B1 (cF B2 (cF B3 (cF B4 (cF BZ nF)))))))) (λx a=>by kernel_rfl)
def Kl:aZ:=aO [pI,pI,pI] [rB] (c3 Pu.aG)
theorem xS:aP Tryz.prog 73 Kl:=f0 {merge:=mg [(1,6)]} base Tryz.func73
def Xm:aZ:=aO [pf nL] [rB] (c1 Pu.iP)
theorem WO:aP Tryz.prog 93 Xm:=f0 {merge:=mg [(1,18),(4,2),(5,2)]} (base.add xS) Tryz.func93
def VN:aZ:=aO [pf bR] [rB] (c1 Pu.gS)
theorem Sh:aP Tryz.prog 40 VN:=f0 {merge:=mg [(1,55),(3,3),(4,2)]} ((base.add xS).add WO) Tryz.func40
def W7:aZ:=aO [pf bR] [rB] (c1 Pu.jP)
theorem WG:aP Tryz.prog 36 W7:=f0 {merge:=mg [(1,2)]} (base.add Sh) Tryz.func36
def SH:aZ:=aO [pd .str] [rI] (c1 Pu.pW)
def Qe:cH:=cH.nil
def Od:An:={mask:=mk [(3,[0,3,4]),(7,[0,3,4,5])]}
abbrev zF:SD:=⟨.data false .str::B::B::DI::DI::DI::bs 26 [],zs 32 [],.none⟩
def JP {R:Type}(X:SD.D zF)(K:Ex→AS→Option R):=Pu.ib (λy0 y1=>ke 2 K zF ((z1 (w y0 (z1 (u y1))) X.1),X.2)) X.1.1 (q2 X)
def NK:cI:=js zF JP (λX=>(X.1.2.1,q3 X))
abbrev zE:SD:=⟨.data false .str::B::B::DI::DI::bs 27 [],zs 32 [],.none⟩
def JO {R:Type}(X:SD.D zE)(K:Ex→AS→Option R):=Pu.jL (λy0 y1=>ke 0 K zE ((z1 (w y0 (u y1)) X.1),X.2)) X.1.1
def NJ:cI:=js zE JO (λX=>(X.1.2.1,q2 X))
def MA:cZ:=((cZ.nil).add 7 NK).add 3 NJ
theorem Na:im E Qe Od MA (aY Tryz.f128 1):=lk zF JP (λX=>(X.1.2.1,q3 X)) λX x=>((z1 (w x.1 (z1 (u x.2))) X.1),X.2)
theorem M9:im E Qe Od MA (aY Tryz.f128 0):=lk zE JO (λX=>(X.1.2.1,q2 X)) λX x=>((z1 (w x.1 (u x.2)) X.1),X.2)
theorem Uh:aP Tryz.prog 128 SH:=fk Od base Tryz.func128 (Λ:=MA) (cF M9 (cF Na nF))
def Xi:aZ:=aO [pd .str] [rS] (c1 Pu.lz)
theorem WM:aP Tryz.prog 86 Xi:=f0 {} (base.add Uh) Tryz.func86
def Sw:aZ:=aO [pd .str,pI,pI] [rB] (c3 Pu.gA)
theorem Oh:aP Tryz.prog 103 Sw:=f0 {merge:=mg [(1,6)]} base Tryz.func103
def Tt:aZ:=aO [pd .str,pI,pd .str] [rS] (c3 Pu.dQ)
theorem Si:aP Tryz.prog 52 Tt:=f0 {} (base.add Oh) Tryz.func52
def Xn:aZ:=aO [pI] [rS] (c1 Pu.bJ)
theorem OM:aP Tryz.prog 98 Xn:=f0 {} (base.add xS) Tryz.func98
def SZ:aZ:=aO [pI] [rS] (c1 Pu.c9)
theorem I2:aP Tryz.prog 167 SZ:=f0 {} (base.add xS) Tryz.func167
def P2:aZ:=aO [pI,pI] [rI] (c2 Pu.fG)
theorem U7:aP Tryz.prog 212 P2:=f0 {merge:=mg [(1,12)]} (base.add xS) Tryz.func212
def Tg:aZ:=aO [pd .str] [rI] (c1 Pu.mr)
def TK:cH:=cH.nil.add 212 P2
def Rx:An:={mask:=mk [(3,[0,3,4])]}
abbrev zS:SD:=⟨.data false .str::B::B::DI::DI::bs 28 [],zs 33 [],.none⟩
def J2 {R:Type}(X:SD.D zS)(K:Ex→AS→Option R):=Pu.jj (λy0 y1=>ke 0 K zS ((z1 (w y0 (u y1)) X.1),X.2)) X.1.1
def NX:cI:=js zS J2 (λX=>(X.1.2.1,q2 X))
def O3:cZ:=(cZ.nil).add 3 NX
theorem No:im E TK Rx O3 (aY Tryz.f192 0):=lk zS J2 (λX=>(X.1.2.1,q2 X)) λX x=>((z1 (w x.1 (u x.2)) X.1),X.2)
theorem UX:aP Tryz.prog 192 Tg:=fk Rx (base.add U7) Tryz.func192 (Λ:=O3) (cF No nF)
def S1:aZ:=aO [pd .str] [rI] (c1 Pu.ia)
theorem RQ:aP Tryz.prog 169 S1:=f0 {} (base.add UX) Tryz.func169
def Tf:aZ:=aO [pf LL] [rB] (c1 Pu.rE)
theorem UW:aP Tryz.prog 191 Tf:=f0 {merge:=mg [(1,2)]} (base.add xS) Tryz.func191
def SY:aZ:=aO [pf LL] [rS,rB] (c1 Pu.mj)
theorem UG:aP Tryz.prog 166 SY:=f0 {} (((((base.add Si).add OM).add I2).add RQ).add UW) Tryz.func166
def SL:aZ:=aO [pf LL] [rS,rB] (c1 Pu.lj)
theorem RN:aP Tryz.prog 132 SL:=f0 {} (base.add UG) Tryz.func132
def S0:aZ:=aO [pI,pI,pI,pI] [rS,rB] (c4 Pu.fH)
theorem UH:aP Tryz.prog 168 S0:=f0 {merge:=mg [(1,27)]} (((base.add xS).add OM).add I2) Tryz.func168
def SM:aZ:=aO [pI,pI,pf nL] [rS,rB] (c3 Pu.eF)
theorem RO:aP Tryz.prog 133 SM:=f0 {merge:=mg [(14,82)]} ((((((base.add Si).add WO).add OM).add I2).add UH).add RQ) Tryz.func133
def SK:aZ:=aO [pf Gc] [rB] (c1 Pu.lN)
theorem RM:aP Tryz.prog 131 SK:=f0 {merge:=mg [(1,2)]} (base.add xS) Tryz.func131
def S2:aZ:=aO [pI] [rS] (c1 Pu.eK)
theorem UJ:aP Tryz.prog 173 S2:=f0 {} ((base.add OM).add I2) Tryz.func173
def SN:aZ:=aO [pf Gc] [rS,rB] (c1 Pu.md)
theorem Un:aP Tryz.prog 142 SN:=f0 {} (((base.add OM).add RM).add UJ) Tryz.func142
def MN:aZ:=aO [pI,pd (.int .u8)] [rS] (c2 Pu.dU)
def Tz:cH:=cH.nil
def Rj:An:={mask:=mk [(3,[0,1,5,6])]}
abbrev zD:SD:=⟨DI::.data false (.int .u8)::B::B::B::.data false (.sl (.own (some 61440)) (.int .u8))::DI::bs 13 [],zs 20 [],.none⟩
def JL {R:Type}(X:SD.D zD)(K:Ex→AS→Option R):=Pu.gY (λy0 y1=>ke 0 K zD ((z2 (w y0 (u y1)) X.1),X.2)) X.1.1 X.1.2.1
def NG:cI:=js zD JL (λX=>(q2 X,q3 X))
def OQ:cZ:=(cZ.nil).add 3 NG
theorem M6:im E Tz Rj OQ (aY Tryz.f108 0):=lk zD JL (λX=>(q2 X,q3 X)) λX x=>((z2 (w x.1 (u x.2)) X.1),X.2)
theorem La:aP Tryz.prog 108 MN:=fk Rj base Tryz.func108 (Λ:=OQ) (cF M6 nF)
def SO:aZ:=aO [pd .str] [rS] (c1 Pu.ni)
theorem Uo:aP Tryz.prog 143 SO:=f0 {} (base.add La) Tryz.func143
def Sv:aZ:=aO [pf bR] [rS,rB] (c1 Pu.kb)
theorem T1:aP Tryz.prog 102 Sv:=f0 {} (((((base.add Sh).add RN).add RO).add Un).add Uo) Tryz.func102
def Ts:aZ:=aO [pf bR] [rS,rB] (c1 Pu.gW)
theorem WJ:aP Tryz.prog 50 Ts:=f0 {} (((base.add WG).add WM).add T1) Tryz.func50
def WY:aZ:=eP (.pair (.sl .arg0 (.int .u8)) (.pair (.int .i64) (.int .i64))) [pd .bool] [(false,(.sl (.own none) rK))] λx a=>Pu.nB x a.1
def MW:cH:=(((((((cH.nil.add 23 Tr).add 24 MR).add 49 VR).add 50 Ts).add 51 P9).add 52 Tt).add 53 Tu).add 54 Qa
def HS:An:={mask:=mk [(4,[0,1,5,6,7]),(1000010,[0,1,5,6,7]),(1000011,[0,1,5,6,7]),(1000012,[0,1,5,6,7]),(1000013,[0,1,5,6,7]),(1000018,[0,1,5,6,7,8]),(1000019,[0,1,5,6,7]),(1000030,[0,1,5,6,7,43,50]),(1000031,[0,1,5,6,7]),(1000038,[0,1,5,6,7,43,57]),(1000039,[0,1,5,6,7])],cut:=[5,6,9,15,19],mv:=[37,46,53,61,70,84,91,95]}
abbrev qE:SD:=⟨.ptr 0 0::DB::B::B::B::.data false (.sl (.own (some 61440)) rK)::.data false (.sl (.own (some 73728)) bR)::DI::bs 35 (DI::bs 13 (DB::bs 38 [])),(some Y3)::zs 95 [],.ptr⟩
abbrev zZ:SD:=⟨.ptr 0 0::DB::B::B::B::.data false (.sl (.own (some 61440)) rK)::.data false (.sl (.own (some 73728)) bR)::DI::bs 88 [],(some Y3)::zs 95 [],.ptr⟩
def u9 {R:Type}(X:SD.D qE)(K:Ex→AS→Option R):Option R:=Pu.eX (λy0 y1=>kn K zZ ((X.1.1,(y0,(X.1.2.2.1,(X.1.2.2.2.1,())))),(y1,()),())) X.1.1 X.1.2.1 (q2 X) (q3 X) (q4 X) (q5 X) X.2.1.1
def B9:cI:=GW qE u9
abbrev qD:SD:=⟨.ptr 0 0::DB::B::B::B::.data false (.sl (.own (some 61440)) rK)::.data false (.sl (.own (some 73728)) bR)::DI::bs 35 (DI::bs 6 (DB::bs 45 [])),(some Y3)::zs 95 [],.ptr⟩
abbrev zY:SD:=⟨.ptr 0 0::DB::B::B::B::.data false (.sl (.own (some 61440)) rK)::.data false (.sl (.own (some 73728)) bR)::DI::bs 88 [],(some Y3)::zs 95 [],.ptr⟩
def u7 {R:Type}(X:SD.D qD)(K:Ex→AS→Option R):Option R:=Pu.gE (λy0 y1=>kn K zY ((X.1.1,(y0,(X.1.2.2.1,(X.1.2.2.2.1,())))),(y1,()),())) X.1.1 X.1.2.1 (q2 X) (q3 X) (q4 X) (q5 X) X.2.1.1
def B8:cI:=GW qD u7
abbrev qC:SD:=⟨.ptr 0 0::DB::B::B::B::.data false (.sl (.own (some 61440)) rK)::.data false (.sl (.own (some 73728)) bR)::DI::.data false .str::bs 87 [],(some Y3)::zs 95 [],.ptr⟩
abbrev zX:SD:=⟨.ptr 0 0::DB::B::B::B::.data false (.sl (.own (some 61440)) rK)::.data false (.sl (.own (some 73728)) bR)::DI::bs 88 [],(some Y3)::zs 95 [],.ptr⟩
def u6 {R:Type}(X:SD.D qC)(K:Ex→AS→Option R):Option R:=Pu.g9 (λy0 y1=>kn K zX ((X.1.1,(y0,(X.1.2.2.1,(X.1.2.2.2.1,())))),(y1,()),())) X.1.1 X.1.2.1 (q2 X) (q3 X) (q4 X) X.2.1.1
def B7:cI:=GW qC u6
abbrev n9:SD:=⟨.ptr 0 0::DB::B::B::B::.data false (.sl (.own (some 61440)) rK)::.data false (.sl (.own (some 73728)) bR)::DI::bs 88 [],(some Y3)::zs 95 [],.ptr⟩
def u4 {R:Type}(X:SD.D n9)(K:Ex→AS→Option R):Option R:=Pu.g8 (λy0=>kn K n9 ((z3 (u y0) X.1),X.2)) X.1.1 X.1.2.1 (q2 X) (q3 X) X.2.1.1
def B5:cI:=GW n9 u4
abbrev oa:SD:=⟨.ptr 0 0::DB::B::B::B::.data false (.sl (.own (some 61440)) rK)::.data false (.sl (.own (some 73728)) bR)::DI::bs 88 [],(some Y3)::zs 95 [],.ptr⟩
def u5 {R:Type}(X:SD.D oa)(K:Ex→AS→Option R):Option R:=Pu.ko (λy0 y1 y2=>kn K oa ((z1 (w y0 (z1 (u y1))) X.1),(u y2 X.2.1),X.2.2)) X.1.1 X.1.2.1 (q2 X) (q3 X) X.2.1.1
def B6:cI:=GW oa u5
abbrev Fh:SD:=⟨.ptr 0 0::DB::B::B::B::.data false (.sl (.own (some 61440)) rK)::.data false (.sl (.own (some 73728)) bR)::DI::bs 88 [],(some Y3)::zs 95 [],.ptr⟩
def L1 {R:Type}(X:SD.D Fh)(K:Ex→AS→Option R):=Pu.mS (λy0 y1 y2=>ke 0 K Fh ((z1 (w y0 (z1 (u y1))) X.1),(u y2 X.2.1),X.2.2)) X.1.1 (q2 X)
def QP:cI:=js Fh L1 (λX=>(X.1.2.1,q3 X,X.2.1.1))
def MC:cZ:=((((((cZ.nil).add 1000038 B9).add 1000030 B8).add 1000018 B7).add 1000010 B5).add 1000012 B6).add 4 QP
theorem BX:Dc E MW HS MC (kQ HS.cut Tryz.f21 3):=ck qE u9
theorem BW:Dc E MW HS MC (kQ HS.cut Tryz.f21 2):=ck qD u7
theorem BV:Dc E MW HS MC (kQ HS.cut Tryz.f21 1):=ck qC u6
theorem BT:Dc E MW HS MC (kQ HS.cut Tryz.f21 4):=ck n9 u4
theorem BU:Dc E MW HS MC (kQ HS.cut Tryz.f21 0):=ck oa u5
theorem Qm:im E MW HS MC (aY Tryz.f21 0):=lk Fh L1 (λX=>(X.1.2.1,q3 X,X.2.1.1)) λX x=>((z1 (w x.1 (z1 (u x.2.1))) X.1),(u x.2.2 X.2.1),X.2.2)
theorem X8:aP Tryz.prog 21 WY:=aP.jt (jq (Γ:=MW) (an:=HS) (Λ:=MC) ((((((((base.add Vf).add FJ).add Yj).add WJ).add On).add Si).add R2).add Lf) Tryz.func21 (by kernel_rfl) (ac (cF Qm nF) (cF BU (cF BV (cF BW (cF BX (cF BT nF))))))) (λx a=>by kernel_rfl)
def W5:aZ:=aO [pd .str] [rS,rB] (c1 Pu.me)
theorem Ye:aP Tryz.prog 34 W5:=f0 {merge:=mg [(1,16)]} (base.add WM) Tryz.func34
def SI:aZ:=aO [pd .str,pI] [rI] (c2 Pu.dG)
theorem Lb:aP Tryz.prog 129 SI:=f0 {} (base.add Oh) Tryz.func129
def SJ:aZ:=aO [pd .str,pI] [rI] (c2 Pu.gO)
theorem Oj:aP Tryz.prog 130 SJ:=f0 {} ((base.add Oh).add Lb) Tryz.func130
def Xj:aZ:=aO [pd .str] [(true,VI),rB] (c1 Pu.mm)
theorem Yz:aP Tryz.prog 87 Xj:=f0 {sb:=mg [(4,4)]} (((base.add Lb).add Oj).add RM) Tryz.func87
def Xk:aZ:=aO [pd .str] [(true,Se),rB] (c1 Pu.nj)
theorem YA:aP Tryz.prog 88 Xk:=f0 {merge:=mg [(2,22),(6,56)],sb:=mg [(5,5)]} (((base.add Lb).add Oj).add RN) Tryz.func88
def Xl:aZ:=aO [pI,pI,pI,pd .str] [(true,(.pair (.int .i64) Se)),rB] (c4 Pu.iy)
theorem YB:aP Tryz.prog 89 Xl:=f0 {merge:=mg [(3,20),(9,44),(12,68)]} (((base.add Lb).add Oj).add RO) Tryz.func89
def W6:aZ:=aO [pd .str] [(true,Y0),rI] (c1 Pu.lx)
theorem Yf:aP Tryz.prog 35 W6:=f0 {merge:=mg [(2,20)]} ((((base.add Sh).add Yz).add YA).add YB) Tryz.func35
def VK:aZ:=aO [pd .str] [(true,Y0),rI] (c1 Pu.lv)
theorem X6:aP Tryz.prog 13 VK:=f0 {} (((base.add Ye).add Yf).add WG) Tryz.func13
def MM:aZ:=aO [] [(true,(.sl (.own none) ec))] λa=>Pu.fP
theorem RJ:aP Tryz.prog 107 MM:=f0 {} base Tryz.func107
def PR:aZ:=eP (.pair (.sl .arg0 (.int .u8)) (.pair (.int .i64) (.int .i64))) [] [rS] λx a=>Pu.oH x
theorem UK:aP Tryz.prog 174 PR:=aP.jt (jq (an:={}) (Λ:=cZ.nil) (base.add R2) Tryz.func174 (by kernel_rfl) (ao nF)) (λx a=>by kernel_rfl)
def PF:aZ:=eP (.pair (.sl .arg0 (.int .u8)) (.pair (.int .i64) (.int .i64))) [] [(true,(.pair .str (.sl (.own none) (.int .i64)))),rI] λx a=>Pu.lA x
def Qf:cH:=((cH.nil.add 24 MR).add 54 Qa).add 174 PR
def Ro:An:={mask:=mk [(4,[0,2,4,5,6])],mv:=[21,28],mb:=mg [(21,5)],sb:=mg [(22,0),(27,5)]}
abbrev zI:SD:=⟨.ptr 0 0::B::.ptr 2 0::B::DI::.ptr 5 0::DI::bs 23 [],(some Y3)::Z::(some (.pair .str (.sl (.own (some 24580)) (.int .i64))))::Z::Z::(some (.pair .str (.sl (.own (some 61444)) (.int .i64))))::zs 24 [],.ptr⟩
def JS {R:Type}(X:SD.D zI)(K:Ex→AS→Option R):=Pu.lB (λy0 y1 y2=>ke 0 K zI ((z1 (u y0) X.1),(w y1 (z1 (u y2)) X.2.1),X.2.2)) X.1.1 X.2.1.2.1
def NN:cI:=js zI JS (λX=>(X.1.2.1,X.2.1.1,X.2.1.2.2.1))
def OV:cZ:=(cZ.nil).add 4 NN
theorem Nd:im E Qf Ro OV (aY Tryz.f144 0):=lk zI JS (λX=>(X.1.2.1,X.2.1.1,X.2.1.2.2.1)) λX x=>((z1 (u x.1) X.1),(w x.2.1 (z1 (u x.2.2)) X.2.1),X.2.2)
theorem Up:aP Tryz.prog 144 PF:=aP.jt (jq (Γ:=Qf) (an:=Ro) (Λ:=OV) (((base.add FJ).add Lf).add UK) Tryz.func144 (by kernel_rfl) (ao (cF Nd nF))) (λx a=>by kernel_rfl)
def PT:aZ:=eP (.pair (.sl .arg0 (.int .u8)) (.pair (.int .i64) (.int .i64))) [] [(true,(.pair (.int .i64) (.pair (.int .i64) (.pair (.int .i64) (.pair (.int .i64) (.pair (.int .i64) Y1))))))] λx a=>Pu.nt x
theorem UL:aP Tryz.prog 175 PT:=aP.jt (jq (an:={}) (Λ:=cZ.nil) (((base.add FJ).add Lf).add Vg) Tryz.func175 (by kernel_rfl) (ao nF)) (λx a=>by kernel_rfl)
def PG:aZ:=eP (.pair (.sl .arg0 (.int .u8)) (.pair (.int .i64) (.int .i64))) [] [(false,(.sl (.own none) iq))] λx a=>Pu.mw x
def Qg:cH:=(cH.nil.add 24 MR).add 175 PT
def Rp:An:={mask:=mk [(3,[0,3,4])],mv:=[12,17]}
abbrev zJ:SD:=⟨.ptr 0 0::B::B::.data false (.sl (.own (some 36864)) iq)::DI::bs 13 [],(some Y3)::zs 17 [],.ptr⟩
def JT {R:Type}(X:SD.D zJ)(K:Ex→AS→Option R):=Pu.lQ (λy0 y1 y2=>ke 0 K zJ ((w y0 (u y1) X.1),(u y2 X.2.1),X.2.2))
def NO:cI:=js zJ JT (λX=>(X.1.1,X.1.2.1,X.2.1.1))
def OW:cZ:=(cZ.nil).add 3 NO
theorem Nf:im E Qg Rp OW (aY Tryz.f145 0):=lk zJ JT (λX=>(X.1.1,X.1.2.1,X.2.1.1)) λX x=>((w x.1 (u x.2.1) X.1),(u x.2.2 X.2.1),X.2.2)
theorem Uq:aP Tryz.prog 145 PG:=aP.jt (jq (Γ:=Qg) (an:=Rp) (Λ:=OW) ((base.add FJ).add UL) Tryz.func145 (by kernel_rfl) (ao (cF Nf nF))) (λx a=>by kernel_rfl)
def MO:aZ:=aO [pf oX] [rI] (c1 Pu.jN)
def TC:cH:=cH.nil
def Rm:An:={mask:=mk [(4,[3,4,5])]}
abbrev zG:SD:=⟨B::B::B::DI::.data false (.sl (.own (some 49152)) (.int .i64))::DI::bs 26 [],zs 32 [],.none⟩
def JQ {R:Type}(X:SD.D zG)(K:Ex→AS→Option R):=Pu.gz (λy0 y1=>ke 0 K zG ((w y0 (z1 (u y1)) X.1),X.2)) X.1.2.1
def NL:cI:=js zG JQ (λX=>(X.1.1,q2 X))
def OT:cZ:=(cZ.nil).add 4 NL
theorem Nb:im E TC Rm OT (aY Tryz.f137 0):=lk zG JQ (λX=>(X.1.1,q2 X)) λX x=>((w x.1 (z1 (u x.2)) X.1),X.2)
theorem RP:aP Tryz.prog 137 MO:=fk Rm base Tryz.func137 (Λ:=OT) (cF Nb nF)
def Tx:aZ:=aO [pf (.sl ec),pf oX] [rI] (c2 Pu.lD)
def XD:cH:=cH.nil.add 137 MO
def WA:An:={mask:=mk [(2,[2,3,4,5])],merge:=mg [(7,39)]}
abbrev Bs:SD:=⟨B::B::.ptr 2 0::.ptr 3 0::DI::DI::bs 35 [],Z::Z::(some (.sl .arg ec))::(some (.pair (.int .i64) Y1))::zs 37 [],.none⟩
def Mp {R:Type}(X:SD.D Bs)(K:Ex→AS→Option R):=Pu.g7 (λy0=>ke 0 K Bs ((z1 (u y0) X.1),X.2)) (λy0 y1=>kr K Bs ((w y0 (u y1) X.1),X.2)) X.1.1 X.2.1.1 X.2.1.2.1
def Rd:cI:=js Bs Mp (λX=>X.1.2.1)
def VF:cZ:=(cZ.nil).add 2 Rd
theorem QK:im E XD WA VF (aY Tryz.f95 0):=lk Bs Mp (λX=>X.1.2.1) λX x=>((z1 (u x) X.1),X.2)
theorem WQ:aP Tryz.prog 95 Tx:=fk WA (base.add RP) Tryz.func95 (Λ:=VF) (cF QK nF)
def Tw:aZ:=aO [pf (.sl ec)] [rB] (c1 Pu.ly)
def XB:cH:=(cH.nil.add 73 Kl).add 95 Tx
def Wy:An:={mask:=mk [(4,[1,2,3])],merge:=mg [(7,30),(10,42)]}
abbrev Bq:SD:=⟨B::.ptr 1 0::DB::DI::bs 45 [],Z::(some (.sl .arg ec))::zs 47 [],.none⟩
def Mn {R:Type}(X:SD.D Bq)(K:Ex→AS→Option R):=Pu.kj (λy0=>ke 0 K Bq ((z1 (u y0) X.1),X.2)) (λy0 y1=>kr K Bq ((w y0 (u y1) X.1),X.2)) X.1.1 X.2.1.1
def Rb:cI:=js Bq Mn (λX=>X.1.2.1)
def VD:cZ:=(cZ.nil).add 4 Rb
theorem QI:im E XB Wy VD (aY Tryz.f91 0):=lk Bq Mn (λX=>X.1.2.1) λX x=>((z1 (u x) X.1),X.2)
theorem WN:aP Tryz.prog 91 Tw:=fk Wy ((base.add xS).add WQ) Tryz.func91 (Λ:=VD) (cF QI nF)
def PU:aZ:=aO [pf (.sl ec)] [(true,(.sl (.own none) ec))] (c1 Pu.lC)
theorem RR:aP Tryz.prog 176 PU:=f0 {} base Tryz.func176
def PH:aZ:=aO [pf (.sl ec),pf oX,pI] [(true,(.sl (.own none) ec)),rB] (c3 Pu.nk)
def TE:cH:=((((cH.nil.add 73 Kl).add 91 Tw).add 95 Tx).add 137 MO).add 176 PU
def Rq:An:={mask:=mk [(6,[2,3,4,6,8,9,10])],merge:=mg [(2,21),(6,31)],mv:=[22,49,57]}
abbrev zK:SD:=⟨B::B::DI::.ptr 3 0::.ptr 4 0::B::.ptr 6 0::B::.ptr 8 0::DI::DI::bs 47 [],Z::Z::Z::(some (.sl .arg ec))::(some (.pair (.int .i64) Y1))::Z::(some (.sl (.own (some 73729)) ec))::Z::(some (.sl (.own (some 98305)) ec))::zs 49 [],.none⟩
def JU {R:Type}(X:SD.D zK)(K:Ex→AS→Option R):=Pu.mN (λy0 y1=>ke 0 K zK ((z1 (w y0 (u y1)) X.1),X.2)) X.1.1 X.2.1.1 X.2.1.2.1 X.2.1.2.2.1 X.2.1.2.2.2.1
def NP:cI:=js zK JU (λX=>(X.1.2.1,q2 X))
def OX:cZ:=(cZ.nil).add 6 NP
theorem Ng:im E TE Rq OX (aY Tryz.f146 0):=lk zK JU (λX=>(X.1.2.1,q2 X)) λX x=>((z1 (w x.1 (u x.2)) X.1),X.2)
theorem Ur:aP Tryz.prog 146 PH:=fk Rq (((((base.add xS).add WN).add WQ).add RP).add RR) Tryz.func146 (Λ:=OX) (cF Ng nF)
def PI:aZ:=eP (.pair (.sl .arg0 (.int .u8)) (.pair (.int .i64) (.int .i64))) [] [(true,(.pair (.int .i64) Y1))] λx a=>Pu.nr x
theorem Us:aP Tryz.prog 147 PI:=aP.jt (jq (an:={}) (Λ:=cZ.nil) (((base.add FJ).add Lf).add Vg) Tryz.func147 (by kernel_rfl) (ao nF)) (λx a=>by kernel_rfl)
def Pq:aZ:=eP (.pair (.sl .arg0 (.int .u8)) (.pair (.int .i64) (.int .i64))) [] [(true,Pf),rI] λx a=>Pu.jm x
def MV:cH:=((((((cH.nil.add 24 MR).add 51 P9).add 107 MM).add 144 PF).add 145 PG).add 146 PH).add 147 PI
def Ob:An:={mask:=mk [(7,[0,2,4,6,7]),(11,[0,2,4,6,8])],mv:=[11,16,49,58,61],sb:=mg [(52,0),(54,0),(60,4)]}
abbrev zB:SD:=⟨.ptr 0 0::B::.ptr 2 0::B::.ptr 4 0::B::DI::DI::bs 55 [],(some Y3)::Z::(some VJ)::Z::(some Sr)::zs 58 [],.ptr⟩
def JJ {R:Type}(X:SD.D zB)(K:Ex→AS→Option R):=Pu.eN (λy0 y1=>ke 0 K zB ((z1 (u y0) X.1),(z2 (u y1) X.2.1),X.2.2)) X.1.1 X.2.1.1 X.2.1.2.1
def ND:cI:=js zB JJ (λX=>(X.1.2.1,X.2.1.2.2.1))
abbrev vy:SD:=⟨.ptr 0 0::B::.ptr 2 0::B::.ptr 4 0::B::DI::B::DI::bs 54 [],(some Y3)::Z::(some VJ)::Z::(some Sr)::zs 58 [],.ptr⟩
def F7 {R:Type}(X:SD.D vy)(K:Ex→AS→Option R):=Pu.dL (λy0 y1 y2=>ke 2 K vy ((z1 (u y0) X.1),(w y1 (z1 (u y2)) X.2.1),X.2.2)) X.1.1 X.2.1.2.1
def KY:cI:=js vy F7 (λX=>(X.1.2.1,X.2.1.1,X.2.1.2.2.1))
def My:cZ:=((cZ.nil).add 7 ND).add 11 KY
theorem M4:im E MV Ob My (aY Tryz.f104 0):=lk zB JJ (λX=>(X.1.2.1,X.2.1.2.2.1)) λX x=>((z1 (u x.1) X.1),(z2 (u x.2) X.2.1),X.2.2)
theorem KU:im E MV Ob My (aY Tryz.f104 1):=lk vy F7 (λX=>(X.1.2.1,X.2.1.1,X.2.1.2.2.1)) λX x=>((z1 (u x.1) X.1),(w x.2.1 (z1 (u x.2.2)) X.2.1),X.2.2)
theorem T3:aP Tryz.prog 104 Pq:=aP.jt (jq (Γ:=MV) (an:=Ob) (Λ:=My) (((((((base.add FJ).add On).add RJ).add Up).add Uq).add Ur).add Us) Tryz.func104 (by kernel_rfl) (ao (cF M4 (cF KU nF)))) (λx a=>by kernel_rfl)
def VL:aZ:=aO [pf mW] [rB] (c1 Pu.mh)
def Xs:cH:=cH.nil.add 73 Kl
def Wn:An:={mask:=mk [(2,[1,2,3])],merge:=mg [(4,35),(6,2)]}
abbrev Bf:SD:=⟨B::.ptr 1 0::DB::DI::bs 41 [],Z::(some (.pair (.int .i64) (.pair .bool (.sl .arg (.int .i64)))))::zs 43 [],.none⟩
def L6 {R:Type}(X:SD.D Bf)(K:Ex→AS→Option R):=Pu.je (λy0=>ke 0 K Bf ((z1 (u y0) X.1),X.2)) (λy0 y1=>kr K Bf ((w y0 (u y1) X.1),X.2)) X.1.1 X.2.1.1
def QU:cI:=js Bf L6 (λX=>X.1.2.1)
def Vs:cZ:=(cZ.nil).add 2 QU
theorem Qr:im E Xs Wn Vs (aY Tryz.f37 0):=lk Bf L6 (λX=>X.1.2.1) λX x=>((z1 (u x) X.1),X.2)
theorem Yg:aP Tryz.prog 37 VL:=fk Wn (base.add xS) Tryz.func37 (Λ:=Vs) (cF Qr nF)
def Pz:aZ:=aO [pf iq] [rB] (c1 Pu.iO)
theorem Ui:aP Tryz.prog 134 Pz:=f0 {merge:=mg [(1,33),(3,54),(5,2)]} (base.add xS) Tryz.func134
def V2:aZ:=aO [pd (.sl iq)] [rB] (c1 Pu.nn)
def XA:cH:=cH.nil.add 134 Pz
def Wx:An:={mask:=mk [(2,[0,2,3])]}
abbrev Bp:SD:=⟨.data false (.sl .arg iq)::B::DB::DI::bs 15 [],zs 19 [],.none⟩
def Mm {R:Type}(X:SD.D Bp)(K:Ex→AS→Option R):=Pu.kg (λy0=>ke 0 K Bp ((z2 (u y0) X.1),X.2)) (λy0 y1=>kr K Bp ((z1 (w y0 (u y1)) X.1),X.2)) X.1.1 X.1.2.1
def Ra:cI:=js Bp Mm q2
def VC:cZ:=(cZ.nil).add 2 Ra
theorem QH:im E XA Wx VC (aY Tryz.f90 0):=lk Bp Mm q2 λX x=>((z2 (u x) X.1),X.2)
theorem YC:aP Tryz.prog 90 V2:=fk Wx (base.add Ui) Tryz.func90 (Λ:=VC) (cF QH nF)
def PA:aZ:=aO [pI] [rB] (c1 Pu.ns)
theorem Uj:aP Tryz.prog 135 PA:=f0 {merge:=mg [(1,2)]} base Tryz.func135
def V3:aZ:=aO [pf sH,pI] [rB] (c2 Pu.mq)
def XC:cH:=(cH.nil.add 73 Kl).add 135 PA
def Wz:An:={mask:=mk [(4,[1,2,4,5])],merge:=mg [(1,21)]}
abbrev Br:SD:=⟨B::DI::.ptr 2 0::B::DB::DI::bs 32 [],Z::Z::(some (.pair .str (.sl .arg (.int .i64))))::zs 35 [],.none⟩
def Mo {R:Type}(X:SD.D Br)(K:Ex→AS→Option R):=Pu.jh (λy0=>ke 0 K Br ((z2 (u y0) X.1),X.2)) (λy0 y1=>kr K Br ((z1 (w y0 (u y1)) X.1),X.2)) X.1.1 X.1.2.1 X.2.1.1
def Rc:cI:=js Br Mo q2
def VE:cZ:=(cZ.nil).add 4 Rc
theorem QJ:im E XC Wz VE (aY Tryz.f92 0):=lk Br Mo q2 λX x=>((z2 (u x) X.1),X.2)
theorem YD:aP Tryz.prog 92 V3:=fk Wz ((base.add xS).add Uj) Tryz.func92 (Λ:=VE) (cF QJ nF)
def VM:aZ:=aO [pf iR,pI] [rB] (c2 Pu.ki)
def Wd:cH:=((cH.nil.add 90 V2).add 91 Tw).add 92 V3
def TW:An:={mask:=mk [(4,[1,2,4,5]),(9,[1,2,4,6])],merge:=mg [(1,23)]}
abbrev Bg:SD:=⟨B::DI::.ptr 2 0::B::DB::DI::bs 50 [],Z::Z::(some Sd)::zs 53 [],.none⟩
def L7 {R:Type}(X:SD.D Bg)(K:Ex→AS→Option R):=Pu.gQ (λy0=>ke 0 K Bg ((z2 (u y0) X.1),X.2)) (λy0 y1=>kr K Bg ((z1 (w y0 (u y1)) X.1),X.2)) X.1.1 X.1.2.1 X.2.1.1
def QV:cI:=js Bg L7 q2
abbrev Bh:SD:=⟨B::DI::.ptr 2 0::B::DB::B::DI::bs 49 [],Z::Z::(some Sd)::zs 53 [],.none⟩
def L8 {R:Type}(X:SD.D Bh)(K:Ex→AS→Option R):=Pu.gR (λy0=>ke 2 K Bh ((z2 (u y0) X.1),X.2)) (λy0 y1=>kr K Bh ((z1 (w y0 (u y1)) X.1),X.2)) X.1.1 X.1.2.1 X.2.1.1
def QW:cI:=js Bh L8 q2
def Sn:cZ:=((cZ.nil).add 4 QV).add 9 QW
theorem Qs:im E Wd TW Sn (aY Tryz.f39 0):=lk Bg L7 q2 λX x=>((z2 (u x) X.1),X.2)
theorem Qt:im E Wd TW Sn (aY Tryz.f39 1):=lk Bh L8 q2 λX x=>((z2 (u x) X.1),X.2)
theorem Yh:aP Tryz.prog 39 VM:=fk TW (((base.add YC).add WN).add YD) Tryz.func39 (Λ:=Sn) (cF Qs (cF Qt nF))
def Th:aZ:=aO [pf fT] [rB] (c1 Pu.oI)
theorem UY:aP Tryz.prog 195 Th:=f0 {merge:=mg [(1,2)]} base Tryz.func195
def S3:aZ:=aO [pf fT] [rB] (c1 Pu.ic)
theorem UM:aP Tryz.prog 177 S3:=f0 {merge:=mg [(1,24),(3,2)]} ((base.add xS).add UY) Tryz.func177
def PJ:aZ:=aO [pI,pI] [(true,Ss),rB] (c2 Pu.lr)
theorem Ut:aP Tryz.prog 148 PJ:=f0 {} (base.add UM) Tryz.func148
def PK:aZ:=aO [pI] [(true,(.sl (.own none) .str))] (c1 Pu.iM)
def TF:cH:=cH.nil.add 108 MN
def Rr:An:={mask:=mk [(3,[0,2,3,4])],merge:=mg [(3,12)],mv:=[16,21],mb:=mg [(16,3)],sb:=mg [(20,3)]}
abbrev zL:SD:=⟨DI::B::.ptr 2 0::.ptr 3 0::DI::bs 17 [],Z::Z::(some (.sl (.own (some 24577)) .str))::(some (.sl (.own (some 36865)) .str))::zs 18 [],.none⟩
def JV {R:Type}(X:SD.D zL)(K:Ex→AS→Option R):=Pu.ix (λy0 y1=>ke 0 K zL ((z1 (u y0) X.1),(z1 (u y1) X.2.1),X.2.2)) X.1.1 X.2.1.1
def NQ:cI:=js zL JV (λX=>(X.1.2.1,X.2.1.2.1))
def OY:cZ:=(cZ.nil).add 3 NQ
theorem Nh:im E TF Rr OY (aY Tryz.f149 0):=lk zL JV (λX=>(X.1.2.1,X.2.1.2.1)) λX x=>((z1 (u x.1) X.1),(z1 (u x.2) X.2.1),X.2.2)
theorem Uu:aP Tryz.prog 149 PK:=fk Rr (base.add La) Tryz.func149 (Λ:=OY) (cF Nh nF)
def MP:aZ:=aO [pf kA] [rB] (c1 Pu.kI)
def TL:cH:=cH.nil.add 73 Kl
def Ry:An:={mask:=mk [(5,[1,2,3,4])],merge:=mg [(1,20),(7,50)]}
abbrev vZ:SD:=⟨B::.ptr 1 0::DB::.data false (.sl (.own (some 36864)) .bool)::DI::bs 53 [],Z::(some Pe)::zs 56 [],.none⟩
def J3 {R:Type}(X:SD.D vZ)(K:Ex→AS→Option R):=Pu.lu (λy0 y1=>ke 0 K vZ ((z1 (w y0 (u y1)) X.1),X.2)) (λy0 y1 y2=>kr K vZ ((w y0 (w y1 (u y2)) X.1),X.2)) X.1.1 X.2.1.1
def NY:cI:=js vZ J3 (λX=>(X.1.2.1,q2 X))
def O4:cZ:=(cZ.nil).add 5 NY
theorem Np:im E TL Ry O4 (aY Tryz.f196 0):=lk vZ J3 (λX=>(X.1.2.1,q2 X)) λX x=>((z1 (w x.1 (u x.2)) X.1),X.2)
theorem Ol:aP Tryz.prog 196 MP:=fk Ry (base.add xS) Tryz.func196 (Λ:=O4) (cF Np nF)
def S4:aZ:=aO [pI,pI,pI] [(true,Y9),rB] (c3 Pu.lq)
def TH:cH:=cH.nil.add 196 MP
def Rt:An:={mask:=mk [(3,[2,6,8,9])],merge:=mg [(3,20)],mv:=[24,33]}
abbrev zP:SD:=⟨B::B::DI::B::B::B::.ptr 6 0::B::.ptr 8 0::DI::bs 24 [],zs 6 ((some (.pair (.int .i64) (.pair (.int .i64) (.pair (.int .i64) (.sl (.own (some 73738)) (.int .i64))))))::Z::(some (.pair (.int .i64) (.pair (.int .i64) (.pair (.int .i64) (.sl (.own (some 98314)) (.int .i64))))))::zs 25 []),.none⟩
def JZ {R:Type}(X:SD.D zP)(K:Ex→AS→Option R):=Pu.gX (λy0 y1=>ke 0 K zP ((z1 (u y0) X.1),(z1 (u y1) X.2.1),X.2.2)) X.1.1 X.2.1.1
def NU:cI:=js zP JZ (λX=>(X.1.2.1,X.2.1.2.1))
def O0:cZ:=(cZ.nil).add 3 NU
theorem Nl:im E TH Rt O0 (aY Tryz.f178 0):=lk zP JZ (λX=>(X.1.2.1,X.2.1.2.1)) λX x=>((z1 (u x.1) X.1),(z1 (u x.2) X.2.1),X.2.2)
theorem RS:aP Tryz.prog 178 S4:=fk Rt (base.add Ol) Tryz.func178 (Λ:=O0) (cF Nl nF)
def PL:aZ:=aO [] [(true,(.pair Y1 (.pair Y9 (.pair (.sl (.own none) mB) (.int .i64)))))] λa=>Pu.my
theorem Uv:aP Tryz.prog 150 PL:=f0 {mv:=[4,9]} (base.add RS) Tryz.func150
def PM:aZ:=aO [pf mW] [(true,Pg)] (c1 Pu.nz)
theorem Uw:aP Tryz.prog 151 PM:=f0 {sb:=mg [(2,2)]} base Tryz.func151
def PN:aZ:=aO [pf iR] [(true,Pf)] (c1 Pu.nu)
theorem Ux:aP Tryz.prog 152 PN:=f0 {sb:=mg [(2,2)]} (base.add RR) Tryz.func152
def KC:aZ:=aO [pf (.sl .str)] [(true,(.sl (.own none) .str))] (c1 Pu.fJ)
theorem Lc:aP Tryz.prog 198 KC:=f0 {} base Tryz.func198
def P6:aZ:=aO [pd (.sl cv)] [rB] (c1 Pu.kf)
def Qi:cH:=cH.nil.add 73 Kl
def Of:An:={mask:=mk [(4,[0,2,3]),(10,[0,2,3,4,5])],merge:=mg [(7,34),(12,57)]}
abbrev sS:SD:=⟨.data false (.sl .arg cv)::B::DB::DI::.ptr 4 0::DI::bs 52 [],zs 4 ((some (.pair (.int .i64) (.pair (.int .i64) (.pair (.int .i64) .bool))))::zs 53 []),.none⟩
def F9 {R:Type}(X:SD.D sS)(K:Ex→AS→Option R):=Pu.fZ (λy0=>ke 2 K sS ((z3 (u y0) X.1),X.2)) (λy0 y1=>kr K sS ((z1 (w y0 (z1 (u y1))) X.1),X.2)) X.1.1 X.1.2.1 (q2 X) X.2.1.1
def K0:cI:=js sS F9 q3
abbrev wb:SD:=⟨.data false (.sl .arg cv)::B::DB::DI::bs 54 [],zs 58 [],.none⟩
def J9 {R:Type}(X:SD.D wb)(K:Ex→AS→Option R):=Pu.gP (λy0=>ke 0 K wb ((z2 (u y0) X.1),X.2)) (λy0 y1=>kr K wb ((z1 (w y0 (u y1)) X.1),X.2)) X.1.1 X.1.2.1
def N4:cI:=js wb J9 q2
def MD:cZ:=((cZ.nil).add 10 K0).add 4 N4
theorem KW:im E Qi Of MD (aY Tryz.f220 1):=lk sS F9 q3 λX x=>((z3 (u x) X.1),X.2)
theorem Nv:im E Qi Of MD (aY Tryz.f220 0):=lk wb J9 q2 λX x=>((z2 (u x) X.1),X.2)
theorem Vd:aP Tryz.prog 220 P6:=fk Of (base.add xS) Tryz.func220 (Λ:=MD) (cF Nv (cF KW nF))
def P7:aZ:=aO [pf (.sl .str)] [rB] (c1 Pu.jO)
def TR:cH:=cH.nil
def RF:An:={mask:=mk [(2,[1,2,3])]}
abbrev wc:SD:=⟨B::.ptr 1 0::DB::DI::bs 18 [],Z::(some (.sl .arg .str))::zs 20 [],.none⟩
def Ka {R:Type}(X:SD.D wc)(K:Ex→AS→Option R):=Pu.jf (λy0=>ke 0 K wc ((z1 (u y0) X.1),X.2)) (λy0 y1=>kr K wc ((w y0 (u y1) X.1),X.2)) X.1.1 X.2.1.1
def N5:cI:=js wc Ka (λX=>X.1.2.1)
def Pa:cZ:=(cZ.nil).add 2 N5
theorem Nw:im E TR RF Pa (aY Tryz.f221 0):=lk wc Ka (λX=>X.1.2.1) λX x=>((z1 (u x) X.1),X.2)
theorem R0:aP Tryz.prog 221 P7:=fk RF base Tryz.func221 (Λ:=Pa) (cF Nw nF)
def P8:aZ:=aO [pd (.sl cv),pI,pI,pd .bool] [rI] (c4 Pu.nv)
def TS:cH:=cH.nil
def RG:An:={mask:=mk [(2,[0,1,2,3,8,9])],merge:=mg [(4,42)]}
abbrev we:SD:=⟨.data false (.sl .arg cv)::DI::DI::DB::bs 4 (DI::DI::bs 38 []),zs 48 [],.none⟩
def Kb {R:Type}(X:SD.D we)(K:Ex→AS→Option R):=Pu.km (λy0=>ke 0 K we ((z5 (u y0) X.1),X.2)) (λy0 y1=>kr K we ((z4 (w y0 (u y1)) X.1),X.2)) X.1.1 X.1.2.1 (q2 X) (q3 X) (q4 X)
def N6:cI:=js we Kb q5
def Pb:cZ:=(cZ.nil).add 2 N6
theorem Nx:im E TS RG Pb (aY Tryz.f222 0):=lk we Kb q5 λX x=>((z5 (u x) X.1),X.2)
theorem Ve:aP Tryz.prog 222 P8:=fk RG base Tryz.func222 (Λ:=Pb) (cF Nx nF)
def MQ:aZ:=aO [pf (.sl .str),pI,pI] [rB] (c3 Pu.gD)
theorem R1:aP Tryz.prog 223 MQ:=f0 {merge:=mg [(2,6)]} (base.add R0) Tryz.func223
def P3:aZ:=aO [pd (.sl cv),pf (.sl .str),pI,pI,pI,pd .bool] [(false,(.sl (.own none) (.int .i64))),(false,(.sl (.own none) (.int .i64))),rB] (c6 Pu.mx)
def TP:cH:=((((cH.nil.add 73 Kl).add 220 P6).add 221 P7).add 222 P8).add 223 MQ
def RD:An:={mask:=mk [(5,[0,2,3,4,5,7,12,13,14,15,16])],merge:=mg [(3,34),(10,57)],mv:=[35,36,64,71,81,82]}
abbrev wa:SD:=⟨.data false (.sl .arg cv)::B::DI::DI::DI::DB::B::.ptr 7 0::bs 4 (.data false (.sl (.own (some 147456)) (.int .i64))::.data false (.sl (.own (some 159744)) (.int .i64))::DB::.data false (.sl (.own (some 184320)) (.int .i64))::.data false (.sl (.own (some 196608)) (.int .i64))::bs 66 []),zs 7 ((some (.sl .arg .str))::zs 75 []),.none⟩
def J7 {R:Type}(X:SD.D wa)(K:Ex→AS→Option R):=Pu.eW (λy0 y1 y2 y3=>ke 0 K wa ((z2 (w y0 (w y1 (z4 (w y2 (u y3))))) X.1),X.2)) (λy0 y1 y2 y3 y4 y5 y6=>kr K wa ((z2 (w y0 (w y1 (z1 (w y2 (w y3 (w y4 (w y5 (u y6)))))))) X.1),X.2)) X.1.1 X.1.2.1 (q4 X) (q5 X) (q6 X) (q7 X) X.2.1.1
def N2:cI:=js wa J7 (λX=>(q2 X,q3 X,q8 X,q9 X))
def O8:cZ:=(cZ.nil).add 5 N2
theorem Nt:im E TP RD O8 (aY Tryz.f213 0):=lk wa J7 (λX=>(q2 X,q3 X,q8 X,q9 X)) λX x=>((z2 (w x.1 (w x.2.1 (z4 (w x.2.2.1 (u x.2.2.2))))) X.1),X.2)
theorem U8:aP Tryz.prog 213 P3:=fk RD (((((base.add xS).add Vd).add R0).add Ve).add R1) Tryz.func213 (Λ:=O8) (cF Nt nF)
def P4:aZ:=aO [pf (.sl .str),pI,pd .str] [(true,(.sl (.own none) .str)),rB] (c3 Pu.jk)
def TQ:cH:=((cH.nil.add 52 Tt).add 198 KC).add 223 MQ
def RE:An:={mask:=mk [(4,[1,2,6,8])],mv:=[19,52]}
abbrev zW:SD:=⟨B::DI::.data false .str::B::B::B::.ptr 6 0::B::.ptr 8 0::bs 44 [],zs 6 ((some (.sl (.own (some 73729)) .str))::Z::(some (.sl (.own (some 98305)) .str))::zs 44 []),.none⟩
def J8 {R:Type}(X:SD.D zW)(K:Ex→AS→Option R):=Pu.gb (λy0 y1 y2=>ke 0 K zW ((w y0 (u y1) X.1),(z1 (u y2) X.2.1),X.2.2)) X.2.1.1
def N3:cI:=js zW J8 (λX=>(X.1.1,X.1.2.1,X.2.1.2.1))
def O9:cZ:=(cZ.nil).add 4 N3
theorem Nu:im E TQ RE O9 (aY Tryz.f214 0):=lk zW J8 (λX=>(X.1.1,X.1.2.1,X.2.1.2.1)) λX x=>((w x.1 (u x.2.1) X.1),(z1 (u x.2.2) X.2.1),X.2.2)
theorem U9:aP Tryz.prog 214 P4:=fk RE (((base.add Si).add Lc).add R1) Tryz.func214 (Λ:=O9) (cF Nu nF)
def PV:aZ:=aO [pd (.sl cv),pf (.sl .str),pI,pI,pd .str] [(true,(.sl (.own none) .str)),rB] (c5 Pu.jM)
def TM:cH:=((cH.nil.add 198 KC).add 213 P3).add 214 P4
def Rz:An:={mask:=mk [(6,[4,10,12,13,15,16])],mv:=[32,39,52,60],sb:=mg [(15,15)]}
abbrev zT:SD:=⟨bs 4 (.data false .str::bs 5 (.ptr 10 0::B::.data false (.sl .loc (.int .i64))::.data false (.sl .loc (.int .i64))::B::.ptr 15 0::DI::bs 44 [])),zs 10 ((some (.sl (.own (some 122881)) .str))::zs 4 ((some (.sl (.own (some 184321)) .str))::zs 45 [])),.none⟩
def J4 {R:Type}(X:SD.D zT)(K:Ex→AS→Option R):=Pu.gw (λy0 y1 y2=>ke 0 K zT ((w y0 (z2 (u y1)) X.1),(z1 (u y2) X.2.1),X.2.2)) X.1.2.1 (q2 X) X.2.1.1
def NZ:cI:=js zT J4 (λX=>(X.1.1,q3 X,X.2.1.2.1))
def O5:cZ:=(cZ.nil).add 6 NZ
theorem Nq:im E TM Rz O5 (aY Tryz.f197 0):=lk zT J4 (λX=>(X.1.1,q3 X,X.2.1.2.1)) λX x=>((w x.1 (z2 (u x.2.1)) X.1),(z1 (u x.2.2) X.2.1),X.2.2)
theorem RV:aP Tryz.prog 197 PV:=fk Rz (((base.add Lc).add U8).add U9) Tryz.func197 (Λ:=O5) (cF Nq nF)
def S5:aZ:=aO [pd (.sl cv),pf (.sl .str),pI,pI,pd .str] [(true,(.sl (.own none) .str)),rB] (c5 Pu.ln)
def TI:cH:=cH.nil.add 197 PV
def Ru:An:={mask:=mk [(3,[0,2,3,4,6,10,12,13])],mv:=[27]}
abbrev zQ:SD:=⟨.data false (.sl .arg cv)::B::DI::DI::.data false .str::B::.ptr 6 0::B::B::B::.ptr 10 0::B::.data false (.sl (.own (some 147456)) cv)::DI::bs 25 [],zs 6 ((some (.sl .arg .str))::Z::Z::Z::(some (.sl (.own (some 122881)) .str))::zs 28 []),.none⟩
def J0 {R:Type}(X:SD.D zQ)(K:Ex→AS→Option R):=Pu.iw (λy0 y1=>ke 0 K zQ ((z4 (w y0 (u y1)) X.1),X.2)) X.1.1 X.1.2.1 (q2 X) (q3 X) X.2.1.1 X.2.1.2.1
def NV:cI:=js zQ J0 (λX=>(q4 X,q5 X))
def O1:cZ:=(cZ.nil).add 3 NV
theorem Nm:im E TI Ru O1 (aY Tryz.f179 0):=lk zQ J0 (λX=>(q4 X,q5 X)) λX x=>((z4 (w x.1 (u x.2)) X.1),X.2)
theorem UN:aP Tryz.prog 179 S5:=fk Ru (base.add RV) Tryz.func179 (Λ:=O1) (cF Nm nF)
def PW:aZ:=aO [pf kA] [(true,Y9)] (c1 Pu.nw)
theorem UZ:aP Tryz.prog 199 PW:=f0 {sb:=mg [(2,2)]} base Tryz.func199
def Tn:aZ:=aO [pI] [rB] (c1 Pu.lE)
theorem RY:aP Tryz.prog 215 Tn:=f0 {merge:=mg [(1,2)]} base Tryz.func215
def To:aZ:=aO [pf qg] [rI] (c1 Pu.jR)
theorem RZ:aP Tryz.prog 216 To:=f0 {} (base.add RY) Tryz.func216
def PX:aZ:=aO [pf qg] [rB] (c1 Pu.kJ)
theorem Om:aP Tryz.prog 200 PX:=f0 {merge:=mg [(1,2)]} (((base.add xS).add RY).add RZ) Tryz.func200
def PY:aZ:=aO [pf qg] [rI] (c1 Pu.jQ)
theorem RX:aP Tryz.prog 201 PY:=f0 {} ((base.add Om).add RZ) Tryz.func201
def Tp:aZ:=aO [pf qg,pI] [rI] (c2 Pu.jg)
theorem Va:aP Tryz.prog 217 Tp:=f0 {merge:=mg [(1,11)]} (base.add Om) Tryz.func217
def PZ:aZ:=aO [pd (.sl cv),pf (.sl .str),pI,pf qg,pd .str] [(true,(.sl (.own none) .str)),(true,Y1),rB] (c5 Pu.nm)
theorem U0:aP Tryz.prog 202 PZ:=f0 {merge:=mg [(1,22)],mv:=[26,36,51],mb:=mg [(51,13)],sb:=mg [(10,10),(11,11),(13,13)]} ((((base.add RV).add Lc).add RX).add Va) Tryz.func202
def Tq:aZ:=aO [pf E8] [rB] (c1 Pu.oG)
theorem Vb:aP Tryz.prog 218 Tq:=f0 {merge:=mg [(1,2)]} (base.add xS) Tryz.func218
def P0:aZ:=aO [pf E8] [rS] (c1 Pu.kc)
theorem U1:aP Tryz.prog 203 P0:=f0 {} (((base.add OM).add I2).add Vb) Tryz.func203
def P1:aZ:=aO [pf kA,pI] [rI] (c2 Pu.gN)
theorem U2:aP Tryz.prog 204 P1:=f0 {merge:=mg [(1,15)]} ((base.add xS).add Ol) Tryz.func204
def S6:aZ:=aO [pd (.sl cv),pf (.sl .str),pI,pf qg,pf kA] [(true,(.sl (.own none) .str)),(true,Y1),(true,Y9),rI] (c5 Pu.mf)
def TJ:cH:=(((((((cH.nil.add 196 MP).add 198 KC).add 199 PW).add 200 PX).add 201 PY).add 202 PZ).add 203 P0).add 204 P1
def Rv:An:={mask:=mk [(6,[0,2,8,9,10,11,12,14,15,16])],merge:=mg [(4,32),(6,44)],mv:=[33,35,49,63,68,78,80],mb:=mg [(33,14),(35,15),(78,14),(80,15)],sb:=mg [(10,10),(11,11),(12,12),(18,18),(19,19)]}
abbrev zR:SD:=⟨.data false (.sl .arg cv)::B::DI::bs 5 (.ptr 8 0::.ptr 9 0::.ptr 10 0::.ptr 11 0::.ptr 12 0::B::.ptr 14 0::.ptr 15 0::DI::bs 65 []),zs 8 ((some Y1)::(some Pe)::(some (.sl (.own (some 122881)) .str))::(some Y1)::(some (.pair (.int .i64) (.pair (.int .i64) (.pair (.int .i64) (.sl (.own (some 147466)) (.int .i64))))))::Z::(some (.sl (.own (some 172033)) .str))::(some (.pair (.int .i64) (.pair (.int .i64) (.pair (.int .i64) (.sl (.own (some 184330)) (.int .i64))))))::zs 66 []),.none⟩
def J1 {R:Type}(X:SD.D zR)(K:Ex→AS→Option R):=Pu.gx (λy0 y1 y2 y3=>ke 0 K zR ((z2 (u y0) X.1),(w y1 (z4 (w y2 (u y3))) X.2.1),X.2.2)) X.1.1 X.1.2.1 X.2.1.2.1 X.2.1.2.2.1 X.2.1.2.2.2.1 X.2.1.2.2.2.2.1
def NW:cI:=js zR J1 (λX=>(q2 X,X.2.1.1,X.2.1.2.2.2.2.2.1,X.2.1.2.2.2.2.2.2.1))
def O2:cZ:=(cZ.nil).add 6 NW
theorem Nn:im E TJ Rv O2 (aY Tryz.f180 0):=lk zR J1 (λX=>(q2 X,X.2.1.1,X.2.1.2.2.2.2.2.1,X.2.1.2.2.2.2.2.2.1)) λX x=>((z2 (u x.1) X.1),(w x.2.1 (z4 (w x.2.2.1 (u x.2.2.2))) X.2.1),X.2.2)
theorem UO:aP Tryz.prog 180 S6:=fk Rv ((((((((base.add Ol).add Lc).add UZ).add Om).add RX).add U0).add U1).add U2) Tryz.func180 (Λ:=O2) (cF Nn nF)
def PO:aZ:=eP (.pair (.sl (.own none) .str) (.pair (.sl (.own none) cv) (.pair (.pair (.pair (.int .i64) (.pair (.int .i64) (.pair (.int .i64) (.int .i64)))) (.pair (.pair (.int .i64) (.pair (.int .i64) (.pair (.int .i64) (.sl (.own none) (.int .i64))))) (.pair (.sl (.own none) mB) (.int .i64)))) (.pair (.sl (.own none) gj) (.pair (.sl (.own none) kA) (.pair (.sl (.own none) fT) (.pair (.sl (.own none) .bool) (.pair (.pair (.int .i64) (.pair .bool (.sl (.own none) (.int .i64)))) (.pair (.pair (.sl (.own none) iq) (.pair (.sl (.own none) ec) (.pair .str (.sl (.own none) (.int .i64))))) (.pair (.sl (.own none) eD) (.pair .bool (.pair (.sl (.own none) .str) (.pair (.sl (.own none) (.int .i64)) (.pair (.sl (.own none) (.int .i64)) (.pair (.int .i64) (.pair (.int .i64) (.pair (.int .i64) (.pair (.int .i64) (.int .i64))))))))))))))))))) [pI] [] λx a=>Pu.lG x a.1
theorem Uy:aP Tryz.prog 153 PO:=aP.jt (jq (an:={mv:=[47,51,65,67,84],mb:=mg [(84,6)],sb:=mg [(6,6),(50,0),(70,0),(71,5)]}) (Λ:=cZ.nil) ((((base.add La).add RS).add UN).add UO) Tryz.func153 (by kernel_rfl) (ao nF)) (λx a=>by kernel_rfl)
def Pr:aZ:=aO [pI,pf mW,pf iR,pd .bool,pI,pI] [(true,Y2),rB] (c6 Pu.lp)
def Qd:cH:=((((((((cH.nil.add 37 VL).add 39 VM).add 73 Kl).add 148 PJ).add 149 PK).add 150 PL).add 151 PM).add 152 PN).add 153 PO
def Oc:An:={mask:=mk [(6,[0,12,14,16,17]),(10,[0,12,14,16,18])],merge:=mg [(2,42)],mv:=[57,74,80,86,92,98],mb:=mg [(57,16)],sb:=mg [(16,16),(67,16)]}
abbrev zC:SD:=⟨DI::bs 11 (.ptr 12 0::B::.ptr 14 0::B::.ptr 16 0::DI::bs 81 []),zs 12 ((some Y5)::Z::(some Ss)::Z::(some Y4)::zs 82 []),.none⟩
def JK {R:Type}(X:SD.D zC)(K:Ex→AS→Option R):=Pu.mM (λy0 y1=>ke 0 K zC ((z1 (u y0) X.1),(z2 (u y1) X.2.1),X.2.2)) X.1.1 X.2.1.1 X.2.1.2.1
def NF:cI:=js zC JK (λX=>(X.1.2.1,X.2.1.2.2.1))
abbrev vz:SD:=⟨DI::bs 11 (.ptr 12 0::B::.ptr 14 0::B::.ptr 16 0::B::DI::bs 80 []),zs 12 ((some Y5)::Z::(some Ss)::Z::(some Y4)::zs 82 []),.none⟩
def F8 {R:Type}(X:SD.D vz)(K:Ex→AS→Option R):=Pu.lO (λy0 y1=>ke 2 K vz ((z1 (u y0) X.1),(z2 (u y1) X.2.1),X.2.2)) X.1.1 X.2.1.1 X.2.1.2.1
def KZ:cI:=js vz F8 (λX=>(X.1.2.1,X.2.1.2.2.1))
def Mz:cZ:=((cZ.nil).add 6 NF).add 10 KZ
theorem M5:im E Qd Oc Mz (aY Tryz.f105 0):=lk zC JK (λX=>(X.1.2.1,X.2.1.2.2.1)) λX x=>((z1 (u x.1) X.1),(z2 (u x.2) X.2.1),X.2.2)
theorem KV:im E Qd Oc Mz (aY Tryz.f105 1):=lk vz F8 (λX=>(X.1.2.1,X.2.1.2.2.1)) λX x=>((z1 (u x.1) X.1),(z2 (u x.2) X.2.1),X.2.2)
theorem T4:aP Tryz.prog 105 Pr:=fk Oc (((((((((base.add Yg).add Yh).add xS).add Ut).add Uu).add Uv).add Uw).add Ux).add Uy) Tryz.func105 (Λ:=Mz) (cF M5 (cF KV nF))
def Ps:aZ:=eP (.pair (.sl .arg0 (.int .u8)) (.pair (.int .i64) (.int .i64))) [] [(true,Pg)] λx a=>Pu.lF x
theorem T5:aP Tryz.prog 106 Ps:=aP.jt (jq (an:={mv:=[11]}) (Λ:=cZ.nil) (base.add On) Tryz.func106 (by kernel_rfl) (ao nF)) (λx a=>by kernel_rfl)
def VS:aZ:=eP (.pair (.sl .arg0 (.int .u8)) (.pair (.int .i64) (.int .i64))) [] [(true,Y2)] λx a=>Pu.nA x
def TT:cH:=(((((cH.nil.add 24 MR).add 104 Pq).add 105 Pr).add 106 Ps).add 107 MM).add 108 MN
def TY:An:={mask:=mk [(2,[0,2,3]),(6,[0,2,3,4,5,6])],mv:=[15,32,46,49,50,60],sb:=mg [(7,7),(34,0),(37,0),(40,0),(43,0)]}
abbrev Fo:SD:=⟨.ptr 0 0::B::.ptr 2 0::DI::.ptr 4 0::DI::DI::bs 54 [],(some Y3)::Z::(some Y6)::Z::(some Sr)::zs 56 [],.ptr⟩
def Me {R:Type}(X:SD.D Fo)(K:Ex→AS→Option R):=Pu.mR (λy0 y1=>ke 2 K Fo ((z2 (u y0) X.1),(z2 (u y1) X.2.1),X.2.2)) X.1.1 X.1.2.1 X.2.1.1 X.2.1.2.1
def Q2:cI:=js Fo Me (λX=>(q2 X,X.2.1.2.2.1))
abbrev Bk:SD:=⟨.ptr 0 0::B::.ptr 2 0::DI::bs 57 [],(some Y3)::Z::(some Y6)::zs 58 [],.ptr⟩
def Md {R:Type}(X:SD.D Bk)(K:Ex→AS→Option R):=Pu.mQ (λy0 y1=>ke 0 K Bk ((u y0 X.1),(u y1 X.2.1),X.2.2)) (λy0 y1 y2=>kr K Bk ((u y0 X.1),(w y1 (u y2) X.2.1),X.2.2)) X.2.1.2.1
def Q1:cI:=js Bk Md (λX=>(X.1.1,X.2.1.1))
def Sp:cZ:=((cZ.nil).add 6 Q2).add 2 Q1
theorem Qz:im E TT TY Sp (aY Tryz.f55 1):=lk Fo Me (λX=>(q2 X,X.2.1.2.2.1)) λX x=>((z2 (u x.1) X.1),(z2 (u x.2) X.2.1),X.2.2)
theorem Qy:im E TT TY Sp (aY Tryz.f55 0):=lk Bk Md (λX=>(X.1.1,X.2.1.1)) λX x=>((u x.1 X.1),(u x.2 X.2.1),X.2.2)
theorem Yk:aP Tryz.prog 55 VS:=aP.jt (jq (Γ:=TT) (an:=TY) (Λ:=Sp) ((((((base.add FJ).add T3).add T4).add T5).add RJ).add La) Tryz.func55 (by kernel_rfl) (ao (cF Qy (cF Qz nF)))) (λx a=>by kernel_rfl)
def VO:aZ:=aO [pf bR] [(true,(.pair (.int .i64) Y1))] (c1 Pu.qW)
theorem Yi:aP Tryz.prog 43 VO:=f0 {} base Tryz.func43
def V4:aZ:=aO [pd (.sl eD),pf oX] [rI] (c2 Pu.ji)
def XE:cH:=cH.nil
def WB:An:={mask:=mk [(2,[0,3,4,5])]}
abbrev Bt:SD:=⟨.data false (.sl .arg eD)::B::B::.ptr 3 0::DI::DI::bs 14 [],Z::Z::Z::(some (.pair (.int .i64) Y1))::zs 16 [],.none⟩
def Mq {R:Type}(X:SD.D Bt)(K:Ex→AS→Option R):=Pu.ga (λy0=>ke 0 K Bt ((z2 (u y0) X.1),X.2)) (λy0 y1=>kr K Bt ((z1 (w y0 (u y1)) X.1),X.2)) X.1.1 X.1.2.1 X.2.1.1
def Re:cI:=js Bt Mq q2
def VG:cZ:=(cZ.nil).add 2 Re
theorem QL:im E XE WB VG (aY Tryz.f97 0):=lk Bt Mq q2 λX x=>((z2 (u x) X.1),X.2)
theorem YE:aP Tryz.prog 97 V4:=fk WB base Tryz.func97 (Λ:=VG) (cF QL nF)
def VT:aZ:=eP (.pair (.sl .arg0 (.int .u8)) (.pair (.int .i64) (.int .i64))) [pd (.sl bR)] [(false,(.sl (.own none) eD))] λx a=>Pu.nq x a.1
def Wg:cH:=(((cH.nil.add 43 VO).add 51 P9).add 54 Qa).add 97 V4
def Wq:An:={mask:=mk [(3,[0,1,5,6])],mv:=[45,52],sb:=mg [(41,0)]}
abbrev Fp:SD:=⟨.ptr 0 0::.data false (.sl .arg bR)::B::B::B::.data false (.sl (.own (some 61440)) eD)::DI::bs 46 [],(some Y3)::zs 52 [],.ptr⟩
def Mf {R:Type}(X:SD.D Fp)(K:Ex→AS→Option R):=Pu.mP (λy0 y1 y2=>ke 0 K Fp ((z1 (w y0 (u y1)) X.1),(u y2 X.2.1),X.2.2)) X.1.1
def Q3:cI:=js Fp Mf (λX=>(X.1.2.1,q2 X,X.2.1.1))
def Vv:cZ:=(cZ.nil).add 3 Q3
theorem QA:im E Wg Wq Vv (aY Tryz.f56 0):=lk Fp Mf (λX=>(X.1.2.1,q2 X,X.2.1.1)) λX x=>((z1 (w x.1 (u x.2.1)) X.1),(u x.2.2 X.2.1),X.2.2)
theorem Yl:aP Tryz.prog 56 VT:=aP.jt (jq (Γ:=Wg) (an:=Wq) (Λ:=Vv) ((((base.add Yi).add On).add Lf).add YE) Tryz.func56 (by kernel_rfl) (ao (cF QA nF))) (λx a=>by kernel_rfl)
def WZ:aZ:=eP (.pair (.sl .arg0 (.int .u8)) (.pair (.int .i64) (.int .i64))) [pd (.sl rK)] [(true,Y2)] λx a=>Pu.mz x a.1
def Wb:cH:=((cH.nil.add 13 VK).add 55 VS).add 56 VT
def Wk:An:={mask:=mk [(4,[0,1,4,5,6,7])],mv:=[30,38]}
abbrev Fi:SD:=⟨.ptr 0 0::.data false (.sl .arg rK)::B::B::.ptr 4 0::.ptr 5 0::.data false (.sl (.own (some 73728)) bR)::DI::bs 31 [],(some Y3)::Z::Z::Z::(some (.pair (.sl (.own (some 49153)) .str) (.pair (.sl (.own (some 49156)) cv) (.pair (.pair Y1 (.pair (.pair (.int .i64) (.pair (.int .i64) (.pair (.int .i64) (.sl (.own (some 49180)) (.int .i64))))) (.pair (.sl (.own (some 49183)) mB) (.int .i64)))) (.pair (.sl (.own (some 49189)) gj) (.pair (.sl (.own (some 49192)) kA) (.pair (.sl (.own (some 49195)) fT) (.pair (.sl (.own (some 49198)) .bool) (.pair (.pair (.int .i64) (.pair .bool (.sl (.own (some 49207)) (.int .i64)))) (.pair (.pair (.sl (.own (some 49210)) iq) (.pair (.sl (.own (some 49213)) ec) (.pair .str (.sl (.own (some 49219)) (.int .i64))))) (.pair (.sl (.own (some 49222)) eD) (.pair .bool (.pair (.sl (.own (some 49228)) .str) (.pair (.sl (.own (some 49231)) (.int .i64)) (.pair (.sl (.own (some 49234)) (.int .i64)) (.pair (.int .i64) Y1))))))))))))))))::(some (.pair (.sl (.own (some 61441)) .str) (.pair (.sl (.own (some 61444)) cv) (.pair (.pair Y1 (.pair (.pair (.int .i64) (.pair (.int .i64) (.pair (.int .i64) (.sl (.own (some 61468)) (.int .i64))))) (.pair (.sl (.own (some 61471)) mB) (.int .i64)))) (.pair (.sl (.own (some 61477)) gj) (.pair (.sl (.own (some 61480)) kA) (.pair (.sl (.own (some 61483)) fT) (.pair (.sl (.own (some 61486)) .bool) (.pair (.pair (.int .i64) (.pair .bool (.sl (.own (some 61495)) (.int .i64)))) (.pair (.pair (.sl (.own (some 61498)) iq) (.pair (.sl (.own (some 61501)) ec) (.pair .str (.sl (.own (some 61507)) (.int .i64))))) (.pair (.sl (.own (some 61510)) eD) (.pair .bool (.pair (.sl (.own (some 61516)) .str) (.pair (.sl (.own (some 61519)) (.int .i64)) (.pair (.sl (.own (some 61522)) (.int .i64)) (.pair (.int .i64) Y1))))))))))))))))::zs 33 [],.ptr⟩
def L2 {R:Type}(X:SD.D Fi)(K:Ex→AS→Option R):=Pu.lR (λy0 y1=>ke 0 K Fi ((z1 (w y0 (u y1)) X.1),X.2)) X.1.1 X.2.1.1 X.2.1.2.1 X.2.1.2.2.1
def QQ:cI:=js Fi L2 (λX=>(X.1.2.1,q2 X))
def Vp:cZ:=(cZ.nil).add 4 QQ
theorem Qn:im E Wb Wk Vp (aY Tryz.f22 0):=lk Fi L2 (λX=>(X.1.2.1,q2 X)) λX x=>((z1 (w x.1 (u x.2)) X.1),X.2)
theorem X9:aP Tryz.prog 22 WZ:=aP.jt (jq (Γ:=Wb) (an:=Wk) (Λ:=Vp) (((base.add X6).add Yk).add Yl) Tryz.func22 (by kernel_rfl) (ao (cF Qn nF))) (λx a=>by kernel_rfl)
def e6:aZ:=aO [pd (.sl (.int .u8))] [(true,Y2),(false,(.sl (.own none) rK))] (c1 Pu.iv)
theorem o6:aP Tryz.prog 6 e6:=f0 {mv:=[13]} (((base.add WD).add X8).add X9) Tryz.func6
def e7:aZ:=aO [pd (.sl (.int .u8))] [(true,Y0),rI] (c1 Pu.ll)
theorem o7:aP Tryz.prog 7 e7:=f0 {sb:=mg [(2,2),(11,7)]} (((base.add WD).add Vf).add FJ) Tryz.func7
def KD:aZ:=aO [pI,pI,pI] [rB] (c3 Pu.ax)
theorem yj:aP Tryz.prog 69 KD:=f0 {merge:=mg [(1,6)]} base Tryz.func69
def VP:aZ:=aO [pf mW] [rB] (c1 Pu.jB)
def Xt:cH:=cH.nil.add 69 KD
def Wo:An:={mask:=mk [(2,[1,2,6,7,8])],merge:=mg [(4,29),(7,2)]}
abbrev Bi:SD:=⟨B::.ptr 1 0::DB::B::B::B::.data false (.sl .arg (.int .i64))::DI::DI::bs 31 [],Z::(some (.pair (.int .i64) (.pair .bool (.sl .arg (.int .i64)))))::zs 38 [],.none⟩
def L9 {R:Type}(X:SD.D Bi)(K:Ex→AS→Option R):=Pu.iW (λy0=>ke 0 K Bi ((z3 (u y0) X.1),X.2)) (λy0 y1=>kr K Bi ((w y0 (z2 (u y1)) X.1),X.2)) X.1.1 X.1.2.1 (q2 X) X.2.1.1
def QX:cI:=js Bi L9 q3
def Vt:cZ:=(cZ.nil).add 2 QX
theorem Qu:im E Xt Wo Vt (aY Tryz.f46 0):=lk Bi L9 q3 λX x=>((z3 (u x) X.1),X.2)
theorem WH:aP Tryz.prog 46 VP:=fk Wo (base.add yj) Tryz.func46 (Λ:=Vt) (cF Qu nF)
def PB:aZ:=aO [pf iq] [rB] (c1 Pu.uS)
theorem Uk:aP Tryz.prog 139 PB:=f0 {merge:=mg [(1,33),(3,54),(5,2)]} (base.add yj) Tryz.func139
def V5:aZ:=aO [pd (.sl iq)] [rB] (c1 Pu.pJ)
def XF:cH:=cH.nil.add 139 PB
def WC:An:={mask:=mk [(2,[0,2,5,6,7])]}
abbrev Bu:SD:=⟨.data false (.sl .arg iq)::B::DB::B::B::.data false (.sl .arg iq)::DI::DI::bs 10 [],zs 18 [],.none⟩
def Mr {R:Type}(X:SD.D Bu)(K:Ex→AS→Option R):=Pu.qo (λy0=>ke 0 K Bu ((z4 (u y0) X.1),X.2)) (λy0 y1=>kr K Bu ((z1 (w y0 (z2 (u y1))) X.1),X.2)) X.1.1 X.1.2.1 (q2 X) (q3 X)
def Rf:cI:=js Bu Mr q4
def VH:cZ:=(cZ.nil).add 2 Rf
theorem QM:im E XF WC VH (aY Tryz.f99 0):=lk Bu Mr q4 λX x=>((z4 (u x) X.1),X.2)
theorem YF:aP Tryz.prog 99 V5:=fk WC (base.add Uk) Tryz.func99 (Λ:=VH) (cF QM nF)
def Py:aZ:=aO [pf (.sl ec),pf oX] [rI] (c2 Pu.oy)
def TB:cH:=cH.nil
def Rl:An:={mask:=mk [(2,[3,4,8,9,10])],merge:=mg [(4,23)]}
abbrev vY:SD:=⟨B::B::B::.ptr 3 0::DI::B::B::B::.data false (.sl .arg ec)::DI::DI::bs 15 [],Z::Z::Z::(some (.pair (.int .i64) Y1))::zs 22 [],.none⟩
def JN {R:Type}(X:SD.D vY)(K:Ex→AS→Option R):=Pu.k6 (λy0=>ke 0 K vY ((z3 (u y0) X.1),X.2)) (λy0 y1=>kr K vY ((w y0 (z2 (u y1)) X.1),X.2)) X.1.1 X.1.2.1 (q2 X) X.2.1.1
def NI:cI:=js vY JN q3
def OS:cZ:=(cZ.nil).add 2 NI
theorem M8:im E TB Rl OS (aY Tryz.f126 0):=lk vY JN q3 λX x=>((z3 (u x) X.1),X.2)
theorem Ug:aP Tryz.prog 126 Py:=fk Rl base Tryz.func126 (Λ:=OS) (cF M8 nF)
def V1:aZ:=aO [pI,pI] [rI] (c2 Pu.fD)
theorem WL:aP Tryz.prog 85 V1:=f0 {} base Tryz.func85
def PQ:aZ:=aO [pf oX] [rI] (c1 Pu.lZ)
def TG:cH:=cH.nil.add 85 V1
def Rs:An:={mask:=mk [(3,[3,16,17,18])]}
abbrev zO:SD:=⟨B::B::B::DI::bs 12 (.data false (.sl (.own (some 196608)) (.int .i64))::DI::DI::bs 10 []),zs 29 [],.none⟩
def JY {R:Type}(X:SD.D zO)(K:Ex→AS→Option R):=Pu.gq (λy0 y1=>ke 0 K zO ((w y0 (z2 (u y1)) X.1),X.2)) X.1.2.1 (q2 X)
def NT:cI:=js zO JY (λX=>(X.1.1,q3 X))
def OZ:cZ:=(cZ.nil).add 3 NT
theorem Nk:im E TG Rs OZ (aY Tryz.f172 0):=lk zO JY (λX=>(X.1.1,q3 X)) λX x=>((w x.1 (z2 (u x.2)) X.1),X.2)
theorem UI:aP Tryz.prog 172 PQ:=fk Rs (base.add WL) Tryz.func172 (Λ:=OZ) (cF Nk nF)
def PC:aZ:=aO [pf oX] [(false,(.sl (.own none) (.int .i64)))] (c1 Pu.pL)
def TD:cH:=cH.nil.add 172 PQ
def Rn:An:={mask:=mk [(3,[1,3,4])],mv:=[10,18]}
abbrev zH:SD:=⟨B::.ptr 1 0::B::.data false (.sl (.own (some 36864)) (.int .i64))::DI::bs 14 [],Z::(some (.pair (.int .i64) Y1))::zs 17 [],.none⟩
def JR {R:Type}(X:SD.D zH)(K:Ex→AS→Option R):=Pu.jH (λy0 y1=>ke 0 K zH ((w y0 (u y1) X.1),X.2)) X.2.1.1
def NM:cI:=js zH JR (λX=>(X.1.1,X.1.2.1))
def OU:cZ:=(cZ.nil).add 3 NM
theorem Nc:im E TD Rn OU (aY Tryz.f140 0):=lk zH JR (λX=>(X.1.1,X.1.2.1)) λX x=>((w x.1 (u x.2) X.1),X.2)
theorem Ul:aP Tryz.prog 140 PC:=fk Rn (base.add UI) Tryz.func140 (Λ:=OU) (cF Nc nF)
def Po:aZ:=aO [pf (.sl ec)] [rB] (c1 Pu.kX)
def Qc:cH:=((cH.nil.add 69 KD).add 126 Py).add 140 PC
def Oa:An:={mask:=mk [(4,[1,2,12,13,14]),(14,[1,2,3,12,13,14,49,50,51])],merge:=mg [(6,28),(9,40)]}
abbrev sR:SD:=⟨B::.ptr 1 0::DB::DI::bs 8 (.data false (.sl .arg ec)::DI::DI::bs 34 (.data false (.sl (.own (some 602112)) (.int .i64))::DI::DI::bs 15 [])),Z::(some (.sl .arg ec))::zs 65 [],.none⟩
def F6 {R:Type}(X:SD.D sR)(K:Ex→AS→Option R):=Pu.eV (λy0=>ke 2 K sR ((z7 (u y0) X.1),X.2)) (λy0 y1=>kr K sR ((w y0 (z6 (u y1)) X.1),X.2)) X.1.1 X.1.2.1 (q2 X) (q3 X) (q4 X) (q5 X) (q6 X) X.2.1.1
def KX:cI:=js sR F6 q7
abbrev vV:SD:=⟨B::.ptr 1 0::DB::bs 9 (.data false (.sl .arg ec)::DI::DI::bs 52 []),Z::(some (.sl .arg ec))::zs 65 [],.none⟩
def JH {R:Type}(X:SD.D vV)(K:Ex→AS→Option R):=Pu.jY (λy0=>ke 0 K vV ((z3 (u y0) X.1),X.2)) (λy0 y1=>kr K vV ((w y0 (z2 (u y1)) X.1),X.2)) X.1.1 X.1.2.1 (q2 X) X.2.1.1
def NB:cI:=js vV JH q3
def Mx:cZ:=((cZ.nil).add 14 KX).add 4 NB
theorem KT:im E Qc Oa Mx (aY Tryz.f100 1):=lk sR F6 q7 λX x=>((z7 (u x) X.1),X.2)
theorem M1:im E Qc Oa Mx (aY Tryz.f100 0):=lk vV JH q3 λX x=>((z3 (u x) X.1),X.2)
theorem TZ:aP Tryz.prog 100 Po:=fk Oa (((base.add yj).add Ug).add Ul) Tryz.func100 (Λ:=Mx) (cF M1 (cF KT nF))
def PE:aZ:=aO [pI] [rB] (c1 Pu.qK)
theorem Um:aP Tryz.prog 141 PE:=f0 {merge:=mg [(1,2)]} base Tryz.func141
def Pp:aZ:=aO [pf sH,pI] [rB] (c2 Pu.oN)
def Ty:cH:=(cH.nil.add 69 KD).add 141 PE
def Ri:An:={mask:=mk [(4,[1,4,24,25,26])],merge:=mg [(1,22)]}
abbrev vW:SD:=⟨B::DI::B::B::DB::bs 19 (.data false (.sl .arg (.int .i64))::DI::DI::bs 9 []),zs 36 [],.none⟩
def JI {R:Type}(X:SD.D vW)(K:Ex→AS→Option R):=Pu.ph (λy0=>ke 0 K vW ((z4 (u y0) X.1),X.2)) (λy0 y1=>kr K vW ((z1 (w y0 (z2 (u y1))) X.1),X.2)) X.1.1 X.1.2.1 (q2 X) (q3 X)
def NC:cI:=js vW JI q4
def OP:cZ:=(cZ.nil).add 4 NC
theorem M3:im E Ty Ri OP (aY Tryz.f101 0):=lk vW JI q4 λX x=>((z4 (u x) X.1),X.2)
theorem T0:aP Tryz.prog 101 Pp:=fk Ri ((base.add yj).add Um) Tryz.func101 (Λ:=OP) (cF M3 nF)
def VQ:aZ:=aO [pf iR,pI] [rB] (c2 Pu.gT)
def We:cH:=((cH.nil.add 99 V5).add 100 Po).add 101 Pp
def TX:An:={mask:=mk [(4,[1,2,4,27,28,29]),(10,[1,4,45,46,47])],merge:=mg [(1,25),(6,41),(12,59)]}
abbrev Bj:SD:=⟨B::DI::.ptr 2 0::B::DB::bs 22 (.data false (.sl .arg iq)::DI::DI::bs 31 []),Z::Z::(some Sd)::zs 58 [],.none⟩
def Ma {R:Type}(X:SD.D Bj)(K:Ex→AS→Option R):=Pu.gI (λy0=>ke 0 K Bj ((z4 (u y0) X.1),X.2)) (λy0 y1=>kr K Bj ((z1 (w y0 (z2 (u y1))) X.1),X.2)) X.1.1 X.1.2.1 (q2 X) (q3 X) X.2.1.1
def QY:cI:=js Bj Ma q4
abbrev wh:SD:=⟨B::DI::B::B::DB::bs 40 (.data false (.sl .arg ec)::DI::DI::bs 13 []),zs 61 [],.none⟩
def Kd {R:Type}(X:SD.D wh)(K:Ex→AS→Option R):=Pu.fV (λy0=>ke 2 K wh ((z4 (u y0) X.1),X.2)) (λy0 y1=>kr K wh ((z1 (w y0 (z2 (u y1))) X.1),X.2)) X.1.1 X.1.2.1 (q2 X) (q3 X)
def N8:cI:=js wh Kd q4
def So:cZ:=((cZ.nil).add 4 QY).add 10 N8
theorem Qv:im E We TX So (aY Tryz.f47 0):=lk Bj Ma q4 λX x=>((z4 (u x) X.1),X.2)
theorem Nz:im E We TX So (aY Tryz.f47 1):=lk wh Kd q4 λX x=>((z4 (u x) X.1),X.2)
theorem WI:aP Tryz.prog 47 VQ:=fk TX (((base.add YF).add TZ).add T0) Tryz.func47 (Λ:=So) (cF Qv (cF Nz nF))
def WW:aZ:=aO [pf qh] [rB] (c1 Pu.ow)
theorem X7:aP Tryz.prog 18 WW:=f0 {merge:=mg [(1,2)]} ((base.add WH).add WI) Tryz.func18
def Sy:aZ:=aO [pd (.sl (.int .i64))] [(false,(.sl (.own none) (.int .i64)))] (c1 Pu.hY)
theorem Oi:aP Tryz.prog 110 Sy:=f0 {} base Tryz.func110
def Xa:aZ:=aO [pf mW] [(true,Pg)] (c1 Pu.jZ)
theorem Yn:aP Tryz.prog 60 Xa:=f0 {mv:=[7]} (base.add Oi) Tryz.func60
def Sz:aZ:=aO [pf (.sl ec)] [(true,(.sl (.own none) ec))] (c1 Pu.kZ)
theorem T7:aP Tryz.prog 111 Sz:=f0 {} base Tryz.func111
def SA:aZ:=aO [pf sH] [(true,(.pair .str (.sl (.own none) (.int .i64))))] (c1 Pu.ka)
theorem T8:aP Tryz.prog 112 SA:=f0 {sb:=mg [(2,2)]} (base.add Oi) Tryz.func112
def Xb:aZ:=aO [pf iR] [(true,Pf)] (c1 Pu.iu)
theorem Yo:aP Tryz.prog 61 Xb:=f0 {sb:=mg [(2,2)]} ((base.add T7).add T8) Tryz.func61
def Xc:aZ:=aO [pd (.sl eD)] [(false,(.sl (.own none) eD))] (c1 Pu.iZ)
theorem Yp:aP Tryz.prog 62 Xc:=f0 {} base Tryz.func62
def Xd:aZ:=aO [pd (.sl .str)] [(false,(.sl (.own none) .str))] (c1 Pu.ja)
theorem Yq:aP Tryz.prog 63 Xd:=f0 {} base Tryz.func63
def W0:aZ:=aO [pf qh] [(true,Y8)] (c1 Pu.jE)
theorem WE:aP Tryz.prog 25 W0:=f0 {sb:=mg [(2,2)]} ((((base.add Yn).add Yo).add Yp).add Yq) Tryz.func25
def SF:aZ:=aO [pf nL] [rB] (c1 Pu.iH)
theorem RL:aP Tryz.prog 123 SF:=f0 {merge:=mg [(1,18),(5,2),(7,2)]} (base.add yj) Tryz.func123
def SG:aZ:=aO [pI] [rB] (c1 Pu.k7)
theorem Uf:aP Tryz.prog 124 SG:=f0 {merge:=mg [(1,2)]} base Tryz.func124
def V0:aZ:=aO [pf bR] [rB] (c1 Pu.gJ)
theorem Sj:aP Tryz.prog 78 V0:=f0 {merge:=mg [(1,2)]} (((base.add yj).add RL).add Uf) Tryz.func78
def Xg:aZ:=aO [pf bR] [rB] (c1 Pu.l5)
theorem Yy:aP Tryz.prog 76 Xg:=f0 {merge:=mg [(1,2)]} (base.add Sj) Tryz.func76
def SU:aZ:=aO [pd .str] [rI] (c1 Pu.pH)
def Qh:cH:=cH.nil
def Oe:An:={mask:=mk [(3,[0,3,4]),(7,[0,3,4,5])]}
abbrev zN:SD:=⟨.data false .str::B::B::.data false (.int .u32)::DI::DI::bs 28 [],zs 34 [],.none⟩
def JX {R:Type}(X:SD.D zN)(K:Ex→AS→Option R):=Pu.hR (λy0 y1=>ke 2 K zN ((z1 (w y0 (z1 (u y1))) X.1),X.2)) X.1.1 (q2 X)
def NS:cI:=js zN JX (λX=>(X.1.2.1,q3 X))
abbrev zM:SD:=⟨.data false .str::B::B::.data false (.int .u32)::DI::bs 29 [],zs 34 [],.none⟩
def JW {R:Type}(X:SD.D zM)(K:Ex→AS→Option R):=Pu.jA (λy0 y1=>ke 0 K zM ((z1 (w y0 (u y1)) X.1),X.2)) X.1.1
def NR:cI:=js zM JW (λX=>(X.1.2.1,q2 X))
def MB:cZ:=((cZ.nil).add 7 NS).add 3 NR
theorem Nj:im E Qh Oe MB (aY Tryz.f158 1):=lk zN JX (λX=>(X.1.2.1,q3 X)) λX x=>((z1 (w x.1 (z1 (u x.2))) X.1),X.2)
theorem Ni:im E Qh Oe MB (aY Tryz.f158 0):=lk zM JW (λX=>(X.1.2.1,q2 X)) λX x=>((z1 (w x.1 (u x.2)) X.1),X.2)
theorem UC:aP Tryz.prog 158 SU:=fk Oe base Tryz.func158 (Λ:=MB) (cF Ni (cF Nj nF))
def SE:aZ:=aO [pd .str] [rS] (c1 Pu.nf)
theorem Ue:aP Tryz.prog 119 SE:=f0 {} (base.add UC) Tryz.func119
def Xh:aZ:=aO [pI] [rS] (c1 Pu.cl)
theorem OL:aP Tryz.prog 84 Xh:=f0 {} (base.add yj) Tryz.func84
def P5:aZ:=aO [pI,pI] [rI] (c2 Pu.na)
theorem Vc:aP Tryz.prog 219 P5:=f0 {merge:=mg [(1,12)]} (base.add yj) Tryz.func219
def Tm:aZ:=aO [pd .str] [rI] (c1 Pu.l8)
def TO:cH:=cH.nil.add 219 P5
def RB:An:={mask:=mk [(3,[0,3,4])]}
abbrev zV:SD:=⟨.data false .str::B::B::DI::DI::bs 28 [],zs 33 [],.none⟩
def J6 {R:Type}(X:SD.D zV)(K:Ex→AS→Option R):=Pu.iX (λy0 y1=>ke 0 K zV ((z1 (w y0 (u y1)) X.1),X.2)) X.1.1
def N1:cI:=js zV J6 (λX=>(X.1.2.1,q2 X))
def O7:cZ:=(cZ.nil).add 3 N1
theorem Ns:im E TO RB O7 (aY Tryz.f209 0):=lk zV J6 (λX=>(X.1.2.1,q2 X)) λX x=>((z1 (w x.1 (u x.2)) X.1),X.2)
theorem U6:aP Tryz.prog 209 Tm:=fk RB (base.add Vc) Tryz.func209 (Λ:=O7) (cF Ns nF)
def Tc:aZ:=aO [pd .str] [rI] (c1 Pu.jz)
theorem RT:aP Tryz.prog 186 Tc:=f0 {} (base.add U6) Tryz.func186
def Td:aZ:=aO [pd .str,pI,pd .str] [rS] (c3 Pu.hU)
theorem RU:aP Tryz.prog 187 Td:=f0 {merge:=mg [(1,17)]} base Tryz.func187
def Tk:aZ:=aO [pf LL] [rB] (c1 Pu.ue)
theorem U5:aP Tryz.prog 207 Tk:=f0 {merge:=mg [(1,2)]} (base.add yj) Tryz.func207
def Tl:aZ:=aO [pI] [rS] (c1 Pu.fC)
theorem Ld:aP Tryz.prog 208 Tl:=f0 {} (base.add yj) Tryz.func208
def S9:aZ:=aO [pf LL] [rS,rB] (c1 Pu.l0)
theorem UR:aP Tryz.prog 183 S9:=f0 {} (((((base.add OL).add RT).add RU).add U5).add Ld) Tryz.func183
def SW:aZ:=aO [pf LL] [rS,rB] (c1 Pu.nb)
theorem UE:aP Tryz.prog 162 SW:=f0 {} (base.add UR) Tryz.func162
def Ta:aZ:=aO [pf nL] [rS] (c1 Pu.iY)
theorem US:aP Tryz.prog 184 Ta:=f0 {} ((base.add OL).add Ld) Tryz.func184
def Tb:aZ:=aO [pI,pI,pI,pI] [rS,rB] (c4 Pu.kV)
theorem UT:aP Tryz.prog 185 Tb:=f0 {merge:=mg [(1,27)]} (((base.add yj).add OL).add Ld) Tryz.func185
def Te:aZ:=aO [pI] [rI] (c1 Pu.jG)
theorem UU:aP Tryz.prog 188 Te:=f0 {} base Tryz.func188
def SX:aZ:=aO [pI,pI,pf nL] [rS,rB] (c3 Pu.ir)
theorem UF:aP Tryz.prog 163 SX:=f0 {merge:=mg [(8,39)]} (((((((base.add OL).add RL).add US).add UT).add RT).add RU).add UU) Tryz.func163
def SV:aZ:=aO [pf Gc] [rB] (c1 Pu.so)
theorem UD:aP Tryz.prog 161 SV:=f0 {merge:=mg [(1,2)]} (base.add yj) Tryz.func161
def Ti:aZ:=aO [pI] [rS] (c1 Pu.l9)
theorem U3:aP Tryz.prog 205 Ti:=f0 {} ((base.add OL).add Ld) Tryz.func205
def S7:aZ:=aO [pf Gc] [rS,rB] (c1 Pu.lX)
theorem UP:aP Tryz.prog 181 S7:=f0 {} (((base.add OL).add UD).add U3) Tryz.func181
def Tj:aZ:=aO [pd (.int .u8),pI] [rS] (c2 Pu.ox)
def TN:cH:=cH.nil
def RA:An:={mask:=mk [(3,[0,5,10,11])]}
abbrev zU:SD:=⟨.data false (.int .u8)::bs 4 (.data false (.sl (.own (some 61440)) (.int .u8))::bs 4 (DI::DI::bs 9 [])),zs 21 [],.none⟩
def J5 {R:Type}(X:SD.D zU)(K:Ex→AS→Option R):=Pu.k5 (λy0 y1=>ke 0 K zU ((z1 (w y0 (z1 (u y1))) X.1),X.2)) X.1.1 (q2 X)
def N0:cI:=js zU J5 (λX=>(X.1.2.1,q3 X))
def O6:cZ:=(cZ.nil).add 3 N0
theorem Nr:im E TN RA O6 (aY Tryz.f206 0):=lk zU J5 (λX=>(X.1.2.1,q3 X)) λX x=>((z1 (w x.1 (z1 (u x.2))) X.1),X.2)
theorem U4:aP Tryz.prog 206 Tj:=fk RA base Tryz.func206 (Λ:=O6) (cF Nr nF)
def S8:aZ:=aO [pd .str] [rS] (c1 Pu.nd)
theorem UQ:aP Tryz.prog 182 S8:=f0 {} (base.add U4) Tryz.func182
def SP:aZ:=aO [pf bR] [rS,rB] (c1 Pu.jU)
theorem Uz:aP Tryz.prog 154 SP:=f0 {} (((((base.add Sj).add UE).add UF).add UP).add UQ) Tryz.func154
def Pt:aZ:=aO [pf bR] [rS,rB] (c1 Pu.jT)
theorem T9:aP Tryz.prog 113 Pt:=f0 {} (((base.add Yy).add Ue).add Uz) Tryz.func113
def Xe:aZ:=aO [pd (.sl bR)] [(false,(.sl (.own none) .str))] (c1 Pu.lY)
def Xu:cH:=cH.nil.add 113 Pt
def Wr:An:={mask:=mk [(3,[3,9,10,11])],mv:=[21,26]}
abbrev Fq:SD:=⟨B::B::B::.data false (.sl (.own (some 36864)) .str)::bs 5 (.data false (.sl .arg bR)::DI::DI::bs 15 []),zs 27 [],.none⟩
def Mg {R:Type}(X:SD.D Fq)(K:Ex→AS→Option R):=Pu.gp (λy0 y1=>ke 0 K Fq ((w y0 (z2 (u y1)) X.1),X.2)) X.1.2.1 (q2 X)
def Q4:cI:=js Fq Mg (λX=>(X.1.1,q3 X))
def Vw:cZ:=(cZ.nil).add 3 Q4
theorem QB:im E Xu Wr Vw (aY Tryz.f64 0):=lk Fq Mg (λX=>(X.1.1,q3 X)) λX x=>((w x.1 (z2 (u x.2)) X.1),X.2)
theorem Yr:aP Tryz.prog 64 Xe:=fk Wr (base.add T9) Tryz.func64 (Λ:=Vw) (cF QB nF)
def Xf:aZ:=aO [pf bR,pI] [(false,(.sl (.own none) bR))] (c2 Pu.pK)
def Xv:cH:=(cH.nil.add 69 KD).add 78 V0
def Ws:An:={mask:=mk [(8,[1,2,5,6,7])],merge:=mg [(1,17),(4,30)],mv:=[83,87]}
abbrev Fs:SD:=⟨B::DI::.ptr 2 0::B::B::.data false .str::.data false (.sl (.own (some 73728)) bR)::DI::bs 80 [],Z::Z::(some Y0)::zs 85 [],.none⟩
def Mh {R:Type}(X:SD.D Fs)(K:Ex→AS→Option R):=Pu.l7 (λy0 y1=>ke 0 K Fs ((z2 (w y0 (u y1)) X.1),X.2)) X.1.1 X.1.2.1 X.2.1.1
def Q5:cI:=js Fs Mh (λX=>(q2 X,q3 X))
def Vx:cZ:=(cZ.nil).add 8 Q5
theorem QC:im E Xv Ws Vx (aY Tryz.f65 0):=lk Fs Mh (λX=>(q2 X,q3 X)) λX x=>((z2 (w x.1 (u x.2)) X.1),X.2)
theorem Ys:aP Tryz.prog 65 Xf:=fk Ws ((base.add yj).add Sj) Tryz.func65 (Λ:=Vx) (cF QC nF)
def W1:aZ:=aO [pf bR,pI] [(false,(.sl (.own none) .str))] (c2 Pu.jX)
theorem Ya:aP Tryz.prog 26 W1:=f0 {} ((base.add Yr).add Ys) Tryz.func26
def e8:aZ:=aO [pf qh,pf bR,pI] [(true,Y8)] (c3 Pu.jC)
theorem o8:aP Tryz.prog 8 e8:=f0 {mv:=[13,19],mb:=mg [(13,7)],sb:=mg [(18,7)]} (((base.add X7).add WE).add Ya) Tryz.func8
def VV:aZ:=aO [pf (.sl .str)] [rB] (c1 Pu.oM)
def Xw:cH:=cH.nil
def Wt:An:={mask:=mk [(2,[1,2,6,7,8])]}
abbrev Bl:SD:=⟨B::.ptr 1 0::DB::B::B::B::.data false (.sl .arg .str)::DI::DI::bs 11 [],Z::(some (.sl .arg .str))::zs 18 [],.none⟩
def Mi {R:Type}(X:SD.D Bl)(K:Ex→AS→Option R):=Pu.pg (λy0=>ke 0 K Bl ((z3 (u y0) X.1),X.2)) (λy0 y1=>kr K Bl ((w y0 (z2 (u y1)) X.1),X.2)) X.1.1 X.1.2.1 (q2 X) X.2.1.1
def Q6:cI:=js Bl Mi q3
def Vy:cZ:=(cZ.nil).add 2 Q6
theorem QD:im E Xw Wt Vy (aY Tryz.f66 0):=lk Bl Mi q3 λX x=>((z3 (u x) X.1),X.2)
theorem Yt:aP Tryz.prog 66 VV:=fk Wt base Tryz.func66 (Λ:=Vy) (cF QD nF)
def Pv:aZ:=aO [pd (.sl cv),pI,pI] [rI] (c3 Pu.jb)
def TA:cH:=cH.nil
def Rk:An:={mask:=mk [(2,[1,2,6,9,10,11])],merge:=mg [(4,25)]}
abbrev vX:SD:=⟨B::DI::DI::B::B::B::DI::B::B::.data false (.sl .arg cv)::DI::DI::bs 16 [],zs 28 [],.none⟩
def JM {R:Type}(X:SD.D vX)(K:Ex→AS→Option R):=Pu.fW (λy0=>ke 0 K vX ((z5 (u y0) X.1),X.2)) (λy0 y1=>kr K vX ((z2 (w y0 (z2 (u y1))) X.1),X.2)) X.1.1 X.1.2.1 (q2 X) (q3 X) (q4 X)
def NH:cI:=js vX JM q5
def OR:cZ:=(cZ.nil).add 2 NH
theorem M7:im E TA Rk OR (aY Tryz.f114 0):=lk vX JM q5 λX x=>((z5 (u x) X.1),X.2)
theorem Ua:aP Tryz.prog 114 Pv:=fk Rk base Tryz.func114 (Λ:=OR) (cF M7 nF)
def VW:aZ:=aO [pd (.sl cv)] [rB] (c1 Pu.jW)
def Xx:cH:=(cH.nil.add 69 KD).add 114 Pv
def Wu:An:={mask:=mk [(2,[0,2,5,6,7])],merge:=mg [(4,37)]}
abbrev Bm:SD:=⟨.data false (.sl .arg cv)::B::DB::B::B::.data false (.sl .arg cv)::DI::DI::bs 34 [],zs 42 [],.none⟩
def Mj {R:Type}(X:SD.D Bm)(K:Ex→AS→Option R):=Pu.gH (λy0=>ke 0 K Bm ((z4 (u y0) X.1),X.2)) (λy0 y1=>kr K Bm ((z1 (w y0 (z2 (u y1))) X.1),X.2)) X.1.1 X.1.2.1 (q2 X) (q3 X)
def Q7:cI:=js Bm Mj q4
def Vz:cZ:=(cZ.nil).add 2 Q7
theorem QE:im E Xx Wu Vz (aY Tryz.f67 0):=lk Bm Mj q4 λX x=>((z4 (u x) X.1),X.2)
theorem Yu:aP Tryz.prog 67 VW:=fk Wu ((base.add yj).add Ua) Tryz.func67 (Λ:=Vz) (cF QE nF)
def Tv:aZ:=aO [pf kA] [rB] (c1 Pu.iG)
def Xz:cH:=cH.nil.add 69 KD
def Ww:An:={mask:=mk [(5,[1,2,3,26,27,28])],merge:=mg [(1,21),(7,43)]}
abbrev Bo:SD:=⟨B::.ptr 1 0::DB::.data false (.sl (.own (some 36864)) .bool)::bs 22 (.data false (.sl .arg (.int .i64))::DI::DI::bs 19 []),Z::(some Pe)::zs 46 [],.none⟩
def Ml {R:Type}(X:SD.D Bo)(K:Ex→AS→Option R):=Pu.kU (λy0 y1=>ke 0 K Bo ((z1 (w y0 (z2 (u y1))) X.1),X.2)) (λy0 y1 y2=>kr K Bo ((w y0 (w y1 (z2 (u y2))) X.1),X.2)) X.1.1 (q2 X) (q3 X) X.2.1.1
def Q9:cI:=js Bo Ml (λX=>(X.1.2.1,q4 X))
def VB:cZ:=(cZ.nil).add 5 Q9
theorem QG:im E Xz Ww VB (aY Tryz.f71 0):=lk Bo Ml (λX=>(X.1.2.1,q4 X)) λX x=>((z1 (w x.1 (z2 (u x.2))) X.1),X.2)
theorem Vh:aP Tryz.prog 71 Tv:=fk Ww (base.add yj) Tryz.func71 (Λ:=VB) (cF QG nF)
def SQ:aZ:=aO [pI] [rB] (c1 Pu.jF)
theorem Ok:aP Tryz.prog 155 SQ:=f0 {merge:=mg [(1,2)]} base Tryz.func155
def SR:aZ:=aO [pf qg] [rI] (c1 Pu.l6)
theorem UA:aP Tryz.prog 156 SR:=f0 {} ((base.add WL).add Ok) Tryz.func156
def Pw:aZ:=aO [pf qg] [rB] (c1 Pu.mD)
theorem RK:aP Tryz.prog 115 Pw:=f0 {merge:=mg [(1,2)]} (((base.add yj).add Ok).add UA) Tryz.func115
def SS:aZ:=aO [pf kA] [(true,Y9)] (c1 Pu.jD)
theorem UB:aP Tryz.prog 157 SS:=f0 {mv:=[7]} (base.add Oi) Tryz.func157
def Px:aZ:=aO [pf kA,pd (.sl (.int .i64))] [(true,Y9),rB] (c2 Pu.eU)
theorem Ub:aP Tryz.prog 116 Px:=f0 {merge:=mg [(3,21)],mv:=[10,24]} ((base.add Vh).add UB) Tryz.func116
def VX:aZ:=aO [pf oY] [rB] (c1 Pu.rr)
def Xy:cH:=(((cH.nil.add 69 KD).add 71 Tv).add 115 Pw).add 116 Px
def Wv:An:={mask:=mk [(6,[1,2,3,4,30,31,32])],merge:=mg [(1,24),(8,50)],mv:=[55]}
abbrev Bn:SD:=⟨B::.ptr 1 0::DB::DI::.data false (.sl (.own (some 49152)) (.int .i64))::bs 25 (.data false (.sl .arg mB)::DI::DI::bs 35 []),Z::(some (.pair Y1 (.pair Pe (.pair (.sl .arg mB) (.int .i64)))))::zs 66 [],.none⟩
def Mk {R:Type}(X:SD.D Bn)(K:Ex→AS→Option R):=Pu.kY (λy0 y1 y2=>ke 0 K Bn ((z1 (w y0 (w y1 (z2 (u y2)))) X.1),X.2)) (λy0 y1 y2 y3=>kr K Bn ((w y0 (w y1 (w y2 (z2 (u y3)))) X.1),X.2)) X.1.1 (q3 X) (q4 X) X.2.1.1
def Q8:cI:=js Bn Mk (λX=>(X.1.2.1,q2 X,q5 X))
def VA:cZ:=(cZ.nil).add 6 Q8
theorem QF:im E Xy Wv VA (aY Tryz.f68 0):=lk Bn Mk (λX=>(X.1.2.1,q2 X,q5 X)) λX x=>((z1 (w x.1 (w x.2.1 (z2 (u x.2.2)))) X.1),X.2)
theorem Yv:aP Tryz.prog 68 VX:=fk Wv ((((base.add yj).add Vh).add RK).add Ub) Tryz.func68 (Λ:=VA) (cF QF nF)
def SB:aZ:=aO [pf gi] [rB] (c1 Pu.kW)
theorem Uc:aP Tryz.prog 117 SB:=f0 {merge:=mg [(1,2)]} ((base.add yj).add Ok) Tryz.func117
def VY:aZ:=aO [pf gj] [rB] (c1 Pu.rq)
theorem Yw:aP Tryz.prog 70 VY:=f0 {merge:=mg [(1,42),(5,2)]} ((((base.add yj).add Sj).add RK).add Uc) Tryz.func70
def SC:aZ:=aO [pf fT] [rB] (c1 Pu.wM)
theorem Ud:aP Tryz.prog 118 SC:=f0 {merge:=mg [(1,2)]} base Tryz.func118
def VZ:aZ:=aO [pf fT] [rB] (c1 Pu.oO)
theorem Yx:aP Tryz.prog 72 VZ:=f0 {merge:=mg [(1,24),(3,2)]} ((base.add yj).add Ud) Tryz.func72
def W2:aZ:=aO [pf qy] [rB] (c1 Pu.ou)
def Wc:cH:=((((((((cH.nil.add 46 VP).add 47 VQ).add 66 VV).add 67 VW).add 68 VX).add 69 KD).add 70 VY).add 71 Tv).add 72 VZ
def TV:An:={mask:=mk [(5,[1,2,3,61,62]),(12,[1,2,3,103,104,105])],merge:=mg [(2,58),(7,89)]}
abbrev Be:SD:=⟨B::.ptr 1 0::DB::DI::bs 57 (DI::DI::bs 54 []),Z::(some Y7)::zs 115 [],.none⟩
def L3 {R:Type}(X:SD.D Be)(K:Ex→AS→Option R):=Pu.kT (λy0=>ke 0 K Be ((z3 (u y0) X.1),X.2)) (λy0 y1=>kr K Be ((w y0 (z2 (u y1)) X.1),X.2)) X.1.1 X.1.2.1 (q2 X) X.2.1.1
def QR:cI:=js Be L3 q3
abbrev wg:SD:=⟨B::.ptr 1 0::DB::DI::bs 99 (.data false (.sl (.own (some 1265664)) (.int .i64))::DI::DI::bs 11 []),Z::(some Y7)::zs 115 [],.none⟩
def Kc {R:Type}(X:SD.D wg)(K:Ex→AS→Option R):=Pu.jV (λy0=>ke 2 K wg ((z4 (u y0) X.1),X.2)) (λy0 y1=>kr K wg ((w y0 (z3 (u y1)) X.1),X.2)) X.1.1 X.1.2.1 (q2 X) (q3 X) X.2.1.1
def N7:cI:=js wg Kc q4
def Sm:cZ:=((cZ.nil).add 5 QR).add 12 N7
theorem Qo:im E Wc TV Sm (aY Tryz.f27 0):=lk Be L3 q3 λX x=>((z3 (u x) X.1),X.2)
theorem Ny:im E Wc TV Sm (aY Tryz.f27 1):=lk wg Kc q4 λX x=>((z4 (u x) X.1),X.2)
theorem Yb:aP Tryz.prog 27 W2:=fk TV (((((((((base.add WH).add WI).add Yt).add Yu).add Yv).add yj).add Yw).add Vh).add Yx) Tryz.func27 (Λ:=Sm) (cF Qo (cF Ny nF))
def e9:aZ:=aO [pf qy] [(true,Y8)] (c1 Pu.ov)
theorem o9:aP Tryz.prog 9 e9:=f0 {} ((base.add WE).add Yb) Tryz.func9
def W3:aZ:=aO [pd (.sl bR)] [(false,(.sl (.own none) .str))] (c1 Pu.mi)
def Xq:cH:=cH.nil.add 50 Ts
def Wl:An:={mask:=mk [(3,[0,3,4])],mv:=[23,27]}
abbrev Fj:SD:=⟨.data false (.sl .arg bR)::B::B::.data false (.sl (.own (some 36864)) .str)::DI::bs 23 [],zs 28 [],.none⟩
def L4 {R:Type}(X:SD.D Fj)(K:Ex→AS→Option R):=Pu.gy (λy0 y1=>ke 0 K Fj ((z1 (w y0 (u y1)) X.1),X.2)) X.1.1
def QS:cI:=js Fj L4 (λX=>(X.1.2.1,q2 X))
def Vq:cZ:=(cZ.nil).add 3 QS
theorem Qp:im E Xq Wl Vq (aY Tryz.f28 0):=lk Fj L4 (λX=>(X.1.2.1,q2 X)) λX x=>((z1 (w x.1 (u x.2)) X.1),X.2)
theorem Yc:aP Tryz.prog 28 W3:=fk Wl (base.add WJ) Tryz.func28 (Λ:=Vq) (cF Qp nF)
def W4:aZ:=aO [pf bR,pI] [(false,(.sl (.own none) bR))] (c2 Pu.pX)
def Xr:cH:=(cH.nil.add 40 VN).add 73 Kl
def Wm:An:={mask:=mk [(8,[1,2,5,6,7])],merge:=mg [(2,17),(5,31)],mv:=[18,32,87,91]}
abbrev Fk:SD:=⟨B::DI::.ptr 2 0::B::B::.data false (.sl (.own (some 61440)) bR)::DI::DI::bs 84 [],Z::Z::(some Y0)::zs 89 [],.none⟩
def L5 {R:Type}(X:SD.D Fk)(K:Ex→AS→Option R):=Pu.mn (λy0 y1=>ke 0 K Fk ((z1 (w y0 (z1 (u y1))) X.1),X.2)) X.1.1 (q2 X) X.2.1.1
def QT:cI:=js Fk L5 (λX=>(X.1.2.1,q3 X))
def Vr:cZ:=(cZ.nil).add 8 QT
theorem Qq:im E Xr Wm Vr (aY Tryz.f29 0):=lk Fk L5 (λX=>(X.1.2.1,q3 X)) λX x=>((z1 (w x.1 (z1 (u x.2))) X.1),X.2)
theorem Yd:aP Tryz.prog 29 W4:=fk Wm ((base.add Sh).add xS) Tryz.func29 (Λ:=Vr) (cF Qq nF)
def WU:aZ:=aO [pf bR,pI] [(false,(.sl (.own none) .str))] (c2 Pu.kh)
theorem X4:aP Tryz.prog 10 WU:=f0 {} ((base.add Yc).add Yd) Tryz.func10
def WV:aZ:=aO [pd (.sl .str),pd (.sl .str)] [rB] (c2 Pu.k8)
def Xp:cH:=cH.nil
def Wi:An:={mask:=mk [(4,[0,1,4,5])]}
abbrev Bd:SD:=⟨.data false (.sl .arg .str)::.data false (.sl .arg .str)::B::B::DB::DI::bs 20 [],zs 26 [],.none⟩
def LY {R:Type}(X:SD.D Bd)(K:Ex→AS→Option R):=Pu.k9 (λy0=>ke 0 K Bd ((z3 (u y0) X.1),X.2)) (λy0 y1=>kr K Bd ((z2 (w y0 (u y1)) X.1),X.2)) X.1.1 X.1.2.1 (q2 X)
def QN:cI:=js Bd LY q3
def Vn:cZ:=(cZ.nil).add 4 QN
theorem Qk:im E Xp Wi Vn (aY Tryz.f11 0):=lk Bd LY q3 λX x=>((z3 (u x) X.1),X.2)
theorem X5:aP Tryz.prog 11 WV:=fk Wi base Tryz.func11 (Λ:=Vn) (cF Qk nF)
abbrev kx:List PS:=[pd (.sl (.int .u8))]
def nM:aZ:=aO kx [rB] (c1 Pu.lK)
theorem su:aP Tryz.prog 3 nM:=f0 {sb:=mg [(7,7)]} (((((((base.add o5).add o6).add o7).add o8).add o9).add X4).add X5) Tryz.func3
end
end Go.Proofs.YthjhpjjgcfedbaaGreat.Fn
