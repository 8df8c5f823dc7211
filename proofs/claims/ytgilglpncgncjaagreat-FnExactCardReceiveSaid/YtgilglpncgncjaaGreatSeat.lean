import Derived.Test.YtgilglpncgncjaaGreatDnSig
import Derived.Test.YtgilglpncgncjaaGreatPure
import Derived.Test.YtgilglpncgncjaaGreatRows
/- Each function of the program is its pure function (made by gen.py). -/
namespace Go.Proofs.YtgilglpncgncjaaGreat.Fn
open Go.Dn
open Go.Pu (aB cS afg bN bJ dw cr AZ a8 lM aG aZ dc bH cW J2 Qr bn cH a9 ba ak aE bU dZ de eR XQ Qs Gi)
set_option maxRecDepth 100000
set_option linter.unusedVariables false
noncomputable section
abbrev B:PD:= .bot
abbrev DI:PD:= .data false (.int .i64)
abbrev DB:PD:= .data false .bool
abbrev Z:Option FT:=none
theorem nF {p:Code→Prop}:∀x∈([]:List Code),p x:=fun _ h=>nomatch h
theorem cF {p:Code→Prop}{a:Code}{l:List Code}(h:p a)(t:∀x∈l,p x):∀x∈a::l,p x:=List.forall_mem_cons.2 ⟨h,t⟩
theorem hF {p:Code→Prop}{l m:List Code}(e:l=m)(h:∀x∈m,p x):∀x∈l,p x:=e▸h
theorem fk {P:Program}{E:Env}{Γ:aJ}{s:List PS}{rs:List (Bool×FT)}{F:yJ s→Option (fb rs)}{f:Nat}{fn:Func}(an:An)(hS:Sound P E Γ)(hf:P.funcs[f]?=some fn){Λ:aN}{l:List Code}(h:∀c∈l,bT E Γ an Λ c)(hn:(fn.name== "runtime.NumGoroutine")=false:=by kernel_rfl)(hl:dz (fn.body.getD .skip)=l:=by kernel_rfl)(hF:∀a,IZ E Γ an Λ fn rs (hY s a)=F a:=by intro a;kernel_rfl):ai P f (ae s rs F):=ai.of (agV hS hf hn (Fn.hF hl h)) hF
@[reducible] def pd (t:CT):PS:= .data false t
@[reducible] def pf (t:CT):PS:= .data true t
@[reducible] def pI:PS:= .data false (.int .i64)
@[reducible] def rB:Bool×FT:=(false,.bool)
@[reducible] def rI:Bool×FT:=(false,.int .i64)
@[reducible] def rS:Bool×FT:=(false,.str)
@[reducible] def bs:Nat→List PD→List PD|0,l=>l|n+1,l=> .bot::bs n l
@[reducible] def zs:Nat→List (Option FT)→List (Option FT)|0,l=>l|n+1,l=>none::zs n l
def mk (l:List (Nat×List Nat))(n:Nat):List Nat:=(l.lookup n).getD []
def mg (l:List (Nat×Nat))(n:Nat):Option Nat:=l.lookup n
def ke {R:Type}(n:Nat)(K:Ex→AS→Option R)(d:SD)(x:SD.D d):Option R:=K (.exit n) (SD.enc d x)
def kr {R:Type}(K:Ex→AS→Option R)(d:SD)(x:SD.D d):Option R:=K .ret (SD.enc d x)
def bX {σ:Type}(d:SD)(t:{R:Type}→SD.D d→(Ex→AS→Option R)→(σ→Option R)→σ→Option R)(i:SD.D d→σ):aI:=⟨d,fun X K=>ar (t X K) fuel (i X)⟩
theorem lk {E:Env}{Γ:aJ}{an:An}{Λ:aN}{c:Code}{σ:Type}(d:SD)(t:{R:Type}→SD.D d→(Ex→AS→Option R)→(σ→Option R)→σ→Option R)(i:SD.D d→σ)(w:SD.D d→σ→SD.D d)(h1:Λ (cX c)=bX d t i:=by kernel_rfl)(h:∀(R:Type)(X:SD.D d)(K:Ex→AS→Option R)(m:Nat)(x:σ),wO (an.mask (cX c)) (den E Γ an Λ c) (m+1) (SD.enc d (w X x)) K=t X K (fun y=>wO (an.mask (cX c)) (den E Γ an Λ c) m (SD.enc d (w X y)) K) x:=by intro R X K m x;kernel_rfl)(hw:∀X,w X (i X)=X:=by intro X;kernel_rfl):bT E Γ an Λ c:=lok (bX d t i) h1 fuel fun R X K=>(GW (fun x=>SD.enc d (w X x)) (t X K) (h R X K) fuel (i X)).symm.trans (congrArg (fun y=>wO (an.mask (cX c)) (den E Γ an Λ c) fuel (SD.enc d y) K) (hw X))
def u {A B:Type}(y:A)(x:A×B):A×B:=(y,x.2)
def w {A B:Type}(y:A)(f:B→B)(x:A×B):A×B:=(y,f x.2)
def z1 {A0 B:Type}(f:B→B)(x:A0×B):A0×B:=(x.1,f x.2)
def z2 {A0 A1 B:Type}(f:B→B)(x:A0×A1×B):A0×A1×B:=(x.1,x.2.1,f x.2.2)
def z3 {A0 A1 A2 B:Type}(f:B→B)(x:A0×A1×A2×B):A0×A1×A2×B:=(x.1,x.2.1,x.2.2.1,f x.2.2.2)
def z4 {A0 A1 A2 A3 B:Type}(f:B→B)(x:A0×A1×A2×A3×B):A0×A1×A2×A3×B:=(x.1,x.2.1,x.2.2.1,x.2.2.2.1,f x.2.2.2.2)
def z5 {A0 A1 A2 A3 A4 B:Type}(f:B→B)(x:A0×A1×A2×A3×A4×B):A0×A1×A2×A3×A4×B:=(x.1,x.2.1,x.2.2.1,x.2.2.2.1,x.2.2.2.2.1,f x.2.2.2.2.2)
def z6 {A0 A1 A2 A3 A4 A5 B:Type}(f:B→B)(x:A0×A1×A2×A3×A4×A5×B):A0×A1×A2×A3×A4×A5×B:=(x.1,x.2.1,x.2.2.1,x.2.2.2.1,x.2.2.2.2.1,x.2.2.2.2.2.1,f x.2.2.2.2.2.2)
def z7 {A0 A1 A2 A3 A4 A5 A6 B:Type}(f:B→B)(x:A0×A1×A2×A3×A4×A5×A6×B):A0×A1×A2×A3×A4×A5×A6×B:=(x.1,x.2.1,x.2.2.1,x.2.2.2.1,x.2.2.2.2.1,x.2.2.2.2.2.1,x.2.2.2.2.2.2.1,f x.2.2.2.2.2.2.2)
def z8 {A0 A1 A2 A3 A4 A5 A6 A7 B:Type}(f:B→B)(x:A0×A1×A2×A3×A4×A5×A6×A7×B):A0×A1×A2×A3×A4×A5×A6×A7×B:=(x.1,x.2.1,x.2.2.1,x.2.2.2.1,x.2.2.2.2.1,x.2.2.2.2.2.1,x.2.2.2.2.2.2.1,x.2.2.2.2.2.2.2.1,f x.2.2.2.2.2.2.2.2)
def q2 {A0 A1 A2 B C:Type}(x:(A0×A1×A2×B)×C):A2:=x.1.2.2.1
def q3 {A0 A1 A2 A3 B C:Type}(x:(A0×A1×A2×A3×B)×C):A3:=x.1.2.2.2.1
def q4 {A0 A1 A2 A3 A4 B C:Type}(x:(A0×A1×A2×A3×A4×B)×C):A4:=x.1.2.2.2.2.1
def q5 {A0 A1 A2 A3 A4 A5 B C:Type}(x:(A0×A1×A2×A3×A4×A5×B)×C):A5:=x.1.2.2.2.2.2.1
def q6 {A0 A1 A2 A3 A4 A5 A6 B C:Type}(x:(A0×A1×A2×A3×A4×A5×A6×B)×C):A6:=x.1.2.2.2.2.2.2.1
def q7 {A0 A1 A2 A3 A4 A5 A6 A7 B C:Type}(x:(A0×A1×A2×A3×A4×A5×A6×A7×B)×C):A7:=x.1.2.2.2.2.2.2.2.1
def q8 {A0 A1 A2 A3 A4 A5 A6 A7 A8 B C:Type}(x:(A0×A1×A2×A3×A4×A5×A6×A7×A8×B)×C):A8:=x.1.2.2.2.2.2.2.2.2.1
def q9 {A0 A1 A2 A3 A4 A5 A6 A7 A8 A9 B C:Type}(x:(A0×A1×A2×A3×A4×A5×A6×A7×A8×A9×B)×C):A9:=x.1.2.2.2.2.2.2.2.2.2.1
def MY {A0 A1 A2 A3 A4 A5 A6 A7 A8 A9 A10 B C:Type}(x:(A0×A1×A2×A3×A4×A5×A6×A7×A8×A9×A10×B)×C):A10:=x.1.2.2.2.2.2.2.2.2.2.2.1
def c1 {A0 B R:Type}(f:A0→R)(a:A0×B):R:=f a.1
def c2 {A0 A1 B R:Type}(f:A0→A1→R)(a:A0×A1×B):R:=f a.1 a.2.1
def c3 {A0 A1 A2 B R:Type}(f:A0→A1→A2→R)(a:A0×A1×A2×B):R:=f a.1 a.2.1 a.2.2.1
def c4 {A0 A1 A2 A3 B R:Type}(f:A0→A1→A2→A3→R)(a:A0×A1×A2×A3×B):R:=f a.1 a.2.1 a.2.2.1 a.2.2.2.1
def c5 {A0 A1 A2 A3 A4 B R:Type}(f:A0→A1→A2→A3→A4→R)(a:A0×A1×A2×A3×A4×B):R:=f a.1 a.2.1 a.2.2.1 a.2.2.2.1 a.2.2.2.2.1
def c6 {A0 A1 A2 A3 A4 A5 B R:Type}(f:A0→A1→A2→A3→A4→A5→R)(a:A0×A1×A2×A3×A4×A5×B):R:=f a.1 a.2.1 a.2.2.1 a.2.2.2.1 a.2.2.2.2.1 a.2.2.2.2.2.1
def c7 {A0 A1 A2 A3 A4 A5 A6 B R:Type}(f:A0→A1→A2→A3→A4→A5→A6→R)(a:A0×A1×A2×A3×A4×A5×A6×B):R:=f a.1 a.2.1 a.2.2.1 a.2.2.2.1 a.2.2.2.2.1 a.2.2.2.2.2.1 a.2.2.2.2.2.2.1
theorem f0 {P:Program}{E:Env}{Γ:aJ}{s:List PS}{rs:List (Bool×FT)}{F:yJ s→Option (fb rs)}{f:Nat}{fn:Func}(an:An)(hS:Sound P E Γ)(hf:P.funcs[f]?=some fn)(hn:(fn.name== "runtime.NumGoroutine")=false:=by kernel_rfl)(hl:dz (fn.body.getD .skip)=[]:=by kernel_rfl)(hF:∀a,IZ E Γ an aN.nil fn rs (hY s a)=F a:=by intro a;kernel_rfl):ai P f (ae s rs F):=ai.of (agV hS hf hn (Fn.hF hl nF)) hF
@[reducible] def Y13:FT:= .pair (.int .i64) (.pair (.int .i64) (.pair (.int .i64) (.pair (.int .i64) .str)))
@[reducible] def Y22:FT:= .pair (.int .i64) (.pair (.int .i64) Y13)
@[reducible] def Y0:FT:= .pair (.int .i64) (.pair (.int .i64) (.pair (.int .i64) (.pair (.int .i64) (.pair (.int .i64) (.pair (.int .i64) (.pair (.int .i64) (.pair (.int .i64) (.pair (.int .i64) Y22))))))))
@[reducible] def Y4:FT:= .pair (.int .i64) (.pair (.int .i64) (.int .i64))
@[reducible] def Y1:FT:= .pair (.int .i64) Y4
@[reducible] def Y9:FT:= .pair (.int .i64) (.pair (.int .i64) (.pair (.int .i64) (.sl (.own none) (.int .i64))))
@[reducible] def Y24:FT:= .pair Y1 (.pair Y9 (.pair (.sl (.own none) bJ) (.int .i64)))
@[reducible] def YS:FT:= .pair (.int .i64) (.pair .bool (.sl (.own none) (.int .i64)))
@[reducible] def Y18:FT:= .pair (.sl (.own none) bH) (.pair (.sl (.own none) bn) (.pair .str (.sl (.own none) (.int .i64))))
@[reducible] def Y2:FT:= .pair (.sl (.own none) .str) (.pair (.sl (.own none) aB) (.pair Y24 (.pair (.sl (.own none) aG) (.pair (.sl (.own none) bN) (.pair (.sl (.own none) aZ) (.pair (.sl (.own none) .bool) (.pair YS (.pair Y18 (.pair (.sl (.own none) a9) (.pair .bool (.pair (.sl (.own none) .str) (.pair (.sl (.own none) (.int .i64)) (.pair (.sl (.own none) (.int .i64)) (.pair (.int .i64) Y1))))))))))))))
@[reducible] def Y16:FT:= .pair (.int .i64) (.pair (.int .i64) (.pair (.int .i64) (.sl .arg (.int .i64))))
@[reducible] def Y25:FT:= .pair Y1 (.pair Y16 (.pair (.sl .arg bJ) (.int .i64)))
@[reducible] def Y21:FT:= .pair (.int .i64) (.pair .bool (.sl .arg (.int .i64)))
@[reducible] def Y20:FT:= .pair (.sl .arg bH) (.pair (.sl .arg bn) (.pair .str (.sl .arg (.int .i64))))
@[reducible] def Y3:FT:= .pair (.sl .arg .str) (.pair (.sl .arg aB) (.pair Y25 (.pair (.sl .arg aG) (.pair (.sl .arg bN) (.pair (.sl .arg aZ) (.pair (.sl .arg .bool) (.pair Y21 (.pair Y20 (.pair (.sl .arg a9) (.pair .bool (.pair (.sl .arg .str) (.pair (.sl .arg (.int .i64)) (.pair (.sl .arg (.int .i64)) (.pair (.int .i64) Y1))))))))))))))
@[reducible] def Y5:FT:= .pair (.sl (.own none) ba) (.pair (.sl (.own none) ak) (.pair (.sl (.own none) aE) (.pair (.sl (.own none) .str) (.pair Y1 (.pair (.sl (.own none) (.int .i64)) (.sl (.own none) .str))))))
@[reducible] def Y6:FT:= .pair (.sl (.own (some 24577)) .str) (.pair (.sl (.own (some 24580)) aB) (.pair (.pair Y1 (.pair (.pair (.int .i64) (.pair (.int .i64) (.pair (.int .i64) (.sl (.own (some 24604)) (.int .i64))))) (.pair (.sl (.own (some 24607)) bJ) (.int .i64)))) (.pair (.sl (.own (some 24613)) aG) (.pair (.sl (.own (some 24616)) bN) (.pair (.sl (.own (some 24619)) aZ) (.pair (.sl (.own (some 24622)) .bool) (.pair (.pair (.int .i64) (.pair .bool (.sl (.own (some 24631)) (.int .i64)))) (.pair (.pair (.sl (.own (some 24634)) bH) (.pair (.sl (.own (some 24637)) bn) (.pair .str (.sl (.own (some 24643)) (.int .i64))))) (.pair (.sl (.own (some 24646)) a9) (.pair .bool (.pair (.sl (.own (some 24652)) .str) (.pair (.sl (.own (some 24655)) (.int .i64)) (.pair (.sl (.own (some 24658)) (.int .i64)) (.pair (.int .i64) Y1))))))))))))))
@[reducible] def Y7:FT:= .pair (.sl (.own (some 1)) .str) (.pair (.sl (.own (some 4)) aB) (.pair (.pair Y1 (.pair (.pair (.int .i64) (.pair (.int .i64) (.pair (.int .i64) (.sl (.own (some 28)) (.int .i64))))) (.pair (.sl (.own (some 31)) bJ) (.int .i64)))) (.pair (.sl (.own (some 37)) aG) (.pair (.sl (.own (some 40)) bN) (.pair (.sl (.own (some 43)) aZ) (.pair (.sl (.own (some 46)) .bool) (.pair (.pair (.int .i64) (.pair .bool (.sl (.own (some 55)) (.int .i64)))) (.pair (.pair (.sl (.own (some 58)) bH) (.pair (.sl (.own (some 61)) bn) (.pair .str (.sl (.own (some 67)) (.int .i64))))) (.pair (.sl (.own (some 70)) a9) (.pair .bool (.pair (.sl (.own (some 76)) .str) (.pair (.sl (.own (some 79)) (.int .i64)) (.pair (.sl (.own (some 82)) (.int .i64)) (.pair (.int .i64) Y1))))))))))))))
@[reducible] def Y8:FT:= .pair (.sl (.own (some 36865)) .str) (.pair (.sl (.own (some 36868)) aB) (.pair (.pair Y1 (.pair (.pair (.int .i64) (.pair (.int .i64) (.pair (.int .i64) (.sl (.own (some 36892)) (.int .i64))))) (.pair (.sl (.own (some 36895)) bJ) (.int .i64)))) (.pair (.sl (.own (some 36901)) aG) (.pair (.sl (.own (some 36904)) bN) (.pair (.sl .arg aZ) (.pair (.sl .arg .bool) (.pair Y21 (.pair Y20 (.pair (.sl .arg a9) (.pair .bool (.pair (.sl .arg .str) (.pair (.sl .arg (.int .i64)) (.pair (.sl .arg (.int .i64)) (.pair (.int .i64) Y1))))))))))))))
@[reducible] def Y10:FT:= .pair (.sl (.own (some 36865)) ba) (.pair (.sl (.own (some 36868)) ak) (.pair (.sl (.own (some 36871)) aE) (.pair (.sl (.own (some 36874)) .str) (.pair Y1 (.pair (.sl (.own (some 36889)) (.int .i64)) (.sl (.own (some 36892)) .str))))))
@[reducible] def Y11:FT:= .pair (.sl (.own (some 24577)) ba) (.pair (.sl (.own (some 24580)) ak) (.pair (.sl (.own (some 24583)) aE) (.pair (.sl (.own (some 24586)) .str) (.pair Y1 (.pair (.sl (.own (some 24601)) (.int .i64)) (.sl (.own (some 24604)) .str))))))
@[reducible] def Y12:FT:= .pair (.sl .arg ba) (.pair (.sl .arg ak) (.pair (.sl .arg aE) (.pair (.sl .arg .str) (.pair Y1 (.pair (.sl .arg (.int .i64)) (.sl .arg .str))))))
@[reducible] def Y23:FT:= .pair Y0 (.pair (.int .i64) (.int .i64))
@[reducible] def Y14:FT:= .pair Y1 (.pair Y4 (.pair Y4 (.pair Y23 (.pair .bool (.int .i64)))))
@[reducible] def Y15:FT:= .pair (.int .i64) (.pair (.int .i64) (.pair (.int .i64) (.pair (.int .i64) (.pair .bool .bool))))
@[reducible] def Y19:FT:= .pair (.int .i64) (.pair (.int .i64) (.pair Y4 (.pair .bool (.pair (.int .i64) (.int .i64)))))
@[reducible] def Y26:FT:= .pair (.int .i64) (.pair (.int .i64) Y1)
@[reducible] def Y27:FT:= .pair (.int .i64) (.pair (.int .i64) (.pair (.int .i64) .bool))
def E:Env:={ty:=[(3,⟨false,(.int .i64),[]⟩),(4,⟨false,.bool,[]⟩),(5,⟨false,(.int .u8),[]⟩),(9,⟨false,.str,[]⟩),(22,⟨false,(.sl ba),[(150,0)]⟩),(23,⟨false,(.sl ak),[(171,0)]⟩),(24,⟨false,(.sl aE),[(153,0)]⟩),(25,⟨false,(.sl .str),[(9,0)]⟩),(27,⟨true,(.sl .str),[(0,1)]⟩),(29,⟨true,cS,[(0,1),(1,1),(2,1),(3,1)]⟩),(30,⟨false,(.sl (.int .i64)),[(3,0)]⟩),(32,⟨true,bU,[(0,1),(1,1),(2,1),(3,1),(4,4),(8,1),(9,1)]⟩),(34,⟨true,dZ,[(0,1),(1,1),(2,1),(3,1),(4,1),(5,1),(6,1),(7,1)]⟩),(36,⟨true,a8,[(0,1),(1,1),(2,1),(3,1),(4,1),(5,1),(6,1),(7,1),(8,8)]⟩),(39,⟨false,(.sl ba),[(113,0)]⟩),(40,⟨false,(.sl ak),[(166,0)]⟩),(41,⟨false,(.sl aE),[(156,0)]⟩),(42,⟨true,(.sl .str),[(0,1)]⟩),(43,⟨true,cS,[(0,1),(1,1),(2,1),(3,1)]⟩),(45,⟨true,bU,[(0,1),(1,1),(2,1),(3,1),(4,4),(8,1),(9,1)]⟩),(48,⟨true,dZ,[(0,1),(1,1),(2,1),(3,1),(4,1),(5,1),(6,1),(7,1)]⟩),(50,⟨true,a8,[(0,1),(1,1),(2,1),(3,1),(4,1),(5,1),(6,1),(7,1),(8,8)]⟩),(77,⟨false,(.sl de),[(179,0)]⟩),(86,⟨true,(.sl .str),[(0,1)]⟩),(87,⟨false,(.sl aB),[(294,0)]⟩),(89,⟨true,cS,[(0,1),(1,1),(2,1),(3,1)]⟩),(91,⟨true,bN,[(0,1),(1,1),(2,1),(3,1)]⟩),(92,⟨false,(.sl bJ),[(296,0)]⟩),(94,⟨true,dw,[(0,4),(4,4),(8,1),(9,1)]⟩),(95,⟨false,(.sl aG),[(193,0)]⟩),(96,⟨false,(.sl bN),[(91,0)]⟩),(97,⟨false,(.sl aZ),[(239,0)]⟩),(98,⟨false,(.sl .bool),[(4,0)]⟩),(100,⟨true,dc,[(0,1),(1,1),(2,1)]⟩),(101,⟨false,(.sl bH),[(268,0)]⟩),(102,⟨false,(.sl bn),[(274,0)]⟩),(104,⟨true,(.sl bn),[(0,1)]⟩),(106,⟨true,eR,[(0,1),(1,1)]⟩),(108,⟨true,cH,[(0,1),(1,1),(2,2)]⟩),(109,⟨false,(.sl a9),[(298,0)]⟩),(111,⟨true,cW,[(0,1),(1,1),(2,1),(3,1),(4,1)]⟩),(113,⟨true,ba,[(0,1),(1,1),(2,10),(12,1),(13,1),(14,1),(15,1),(16,3),(19,4),(23,1),(24,1),(25,1),(26,1),(27,1),(28,5)]⟩),(129,⟨true,(.sl .str),[(0,1)]⟩),(130,⟨false,(.sl aB),[(331,0)]⟩),(131,⟨true,cS,[(0,1),(1,1),(2,1),(3,1)]⟩),(132,⟨true,bN,[(0,1),(1,1),(2,1),(3,1)]⟩),(133,⟨false,(.sl bJ),[(370,0)]⟩),(135,⟨true,dw,[(0,4),(4,4),(8,1),(9,1)]⟩),(136,⟨false,(.sl aG),[(312,0)]⟩),(137,⟨false,(.sl bN),[(132,0)]⟩),(138,⟨false,(.sl aZ),[(337,0)]⟩),(139,⟨true,dc,[(0,1),(1,1),(2,1)]⟩),(140,⟨false,(.sl bH),[(381,0)]⟩),(141,⟨false,(.sl bn),[(407,0)]⟩),(143,⟨true,(.sl bn),[(0,1)]⟩),(144,⟨true,eR,[(0,1),(1,1)]⟩),(146,⟨true,cH,[(0,1),(1,1),(2,2)]⟩),(147,⟨false,(.sl a9),[(319,0)]⟩),(148,⟨true,cW,[(0,1),(1,1),(2,1),(3,1),(4,1)]⟩),(150,⟨true,ba,[(0,1),(1,1),(2,10),(12,1),(13,1),(14,1),(15,1),(16,3),(19,4),(23,1),(24,1),(25,1),(26,1),(27,1),(28,5)]⟩),(153,⟨true,aE,[(0,3),(3,1),(4,1),(5,1)]⟩),(156,⟨true,aE,[(0,3),(3,1),(4,1),(5,1)]⟩),(164,⟨true,cr,[(0,1),(1,1),(2,1)]⟩),(166,⟨true,ak,[(0,1),(1,1),(2,3),(5,1),(6,1),(7,1)]⟩),(169,⟨true,cr,[(0,1),(1,1),(2,1)]⟩),(171,⟨true,ak,[(0,1),(1,1),(2,3),(5,1),(6,1),(7,1)]⟩),(179,⟨true,de,[(0,1),(1,1),(2,1),(3,1)]⟩),(189,⟨true,cr,[(0,1),(1,1),(2,1)]⟩),(191,⟨true,lM,[(0,16),(16,1),(17,1)]⟩),(193,⟨true,aG,[(0,4),(4,3),(7,3),(10,18),(28,1),(29,1)]⟩),(239,⟨true,aZ,[(0,1),(1,1),(2,1),(3,1),(4,1),(5,1)]⟩),(260,⟨true,XQ,[(0,1),(1,1),(2,1),(3,1),(4,1),(5,1),(6,1)]⟩),(263,⟨true,Qs,[(0,1),(1,1),(2,1),(3,1),(4,1)]⟩),(265,⟨false,(.sl (.int .u8)),[(5,0)]⟩),(268,⟨true,bH,[(0,1),(1,1),(2,1),(3,1),(4,1),(5,1),(6,1),(7,1),(8,1)]⟩),(271,⟨true,cW,[(0,1),(1,1),(2,1),(3,1),(4,1)]⟩),(274,⟨true,bn,[(0,1),(1,5),(6,1)]⟩),(294,⟨true,aB,[(0,1),(1,1),(2,1),(3,1)]⟩),(296,⟨true,bJ,[(0,1),(1,1),(2,1)]⟩),(298,⟨true,a9,[(0,5),(5,1),(6,1),(7,1)]⟩),(308,⟨true,cr,[(0,1),(1,1),(2,1)]⟩),(310,⟨true,lM,[(0,16),(16,1),(17,1)]⟩),(312,⟨true,aG,[(0,4),(4,3),(7,3),(10,18),(28,1),(29,1)]⟩),(317,⟨true,cW,[(0,1),(1,1),(2,1),(3,1),(4,1)]⟩),(319,⟨true,a9,[(0,5),(5,1),(6,1),(7,1)]⟩),(331,⟨true,aB,[(0,1),(1,1),(2,1),(3,1)]⟩),(337,⟨true,aZ,[(0,1),(1,1),(2,1),(3,1),(4,1),(5,1)]⟩),(351,⟨false,(.int .u32),[]⟩),(370,⟨true,bJ,[(0,1),(1,1),(2,1)]⟩),(381,⟨true,bH,[(0,1),(1,1),(2,1),(3,1),(4,1),(5,1),(6,1),(7,1),(8,1)]⟩),(390,⟨true,Gi,[(0,1),(1,1),(2,1),(3,1),(4,1),(5,1)]⟩),(396,⟨true,cW,[(0,1),(1,1),(2,1),(3,1),(4,1)]⟩),(407,⟨true,bn,[(0,1),(1,5),(6,1)]⟩),(410,⟨false,(.sl (.pair (.int .i64) (.int .i64))),[(414,0)]⟩),(414,⟨true,(.pair (.int .i64) (.int .i64)),[(0,1),(1,1)]⟩)],eqs:=[(50,[.int,.int,.int,.int,.int,.int,.int,.int,.int,.int,.int,.int,.int,.int,.int,.str]),(191,[.int,.int,.int,.int,.int,.int,.int,.int,.int,.int,.int,.int,.int,.int,.int,.str,.int,.int]),(271,[.int,.int,.int,.int,.int])],fts:=[]}
theorem base:Sound Tryz.prog E aJ.nil:=Sound.nil (Lv (by kernel_rfl)) (Ly (by kernel_rfl)) (Lx (by kernel_rfl)) (by kernel_rfl)
def e20:al:=ae [pd (.sl (.int .i64)),pI] [rI] (c2 Pu.fI)
theorem o20:ai Tryz.prog 20 e20:=f0 {} base Tryz.func20
def e21:al:=ae [pd (.sl .str),pI] [rI] (c2 Pu.gL)
def g21:aJ:=aJ.nil
def n21:An:={mask:=mk [(5,[0,1,4,5])]}
@[reducible] def Kh:SD:=⟨.data false (.sl .arg .str)::DI::B::B::DI::DI::bs 22 [],zs 28 [],.none⟩
def X3 {R:Type}(X:SD.D Kh)(K:Ex→AS→Option R):=Pu.tZ (fun y0 y1=>ke 0 K Kh ((z1 (w y0 (z1 (u y1))) X.1),X.2)) (fun y0 y1 y2=>kr K Kh ((z1 (w y0 (w y1 (u y2))) X.1),X.2)) X.1.1 (q2 X)
def ah3:aI:=bX Kh X3 (fun X=>(X.1.2.1,q3 X))
def L21:aN:=(aN.nil).add 5 ah3
theorem ahm:bT E g21 n21 L21 (ah Tryz.f21 0):=lk Kh X3 (fun X=>(X.1.2.1,q3 X)) fun X x=>((z1 (w x.1 (z1 (u x.2))) X.1),X.2)
theorem o21:ai Tryz.prog 21 e21:=fk n21 base Tryz.func21 (Λ:=L21) (cF ahm nF)
def alE:al:=ae [pf (.sl .str),pI] [rI] (c2 Pu.qg)
theorem aqx:ai Tryz.prog 135 alE:=f0 {} (base.add o21) Tryz.func135
def alF:al:=ae [pd (.sl aB),pI] [rI] (c2 Pu.rn)
theorem aqy:ai Tryz.prog 136 alF:=f0 {} base Tryz.func136
def af3:al:=ae [pf bN,pI] [rI] (c2 Pu.ns)
theorem akB:ai Tryz.prog 242 af3:=f0 {} (base.add o20) Tryz.func242
def agt:al:=ae [pf bJ,pI] [rI] (c2 Pu.qR)
theorem asy:ai Tryz.prog 326 agt:=f0 {} (base.add o20) Tryz.func326
def amK:al:=ae [pd (.sl bJ),pI] [rI] (c2 Pu.vK)
def apq:aJ:=aJ.nil.add 326 agt
def ajz:An:={mask:=mk [(5,[0,1,4,5])]}
@[reducible] def DP:SD:=⟨.data false (.sl .arg bJ)::DI::B::B::DI::DI::bs 21 [],zs 27 [],.none⟩
def Vw {R:Type}(X:SD.D DP)(K:Ex→AS→Option R):=Pu.wG (fun y0 y1=>ke 0 K DP ((z1 (w y0 (z1 (u y1))) X.1),X.2)) (fun y0 y1 y2=>kr K DP ((z1 (w y0 (w y1 (u y2))) X.1),X.2)) X.1.1 (q2 X)
def acn:aI:=bX DP Vw (fun X=>(X.1.2.1,q3 X))
def aeB:aN:=(aN.nil).add 5 acn
theorem aaw:bT E apq ajz aeB (ah Tryz.f243 0):=lk DP Vw (fun X=>(X.1.2.1,q3 X)) fun X x=>((z1 (w x.1 (z1 (u x.2))) X.1),X.2)
theorem arI:ai Tryz.prog 243 amK:=fk ajz (base.add asy) Tryz.func243 (Λ:=aeB) (cF aaw nF)
def alG:al:=ae [pf dw,pI] [rI] (c2 Pu.oL)
theorem aqz:ai Tryz.prog 137 alG:=f0 {} ((base.add akB).add arI) Tryz.func137
def e22:al:=ae [pf dZ,pI] [rI] (c2 Pu.oK)
theorem o22:ai Tryz.prog 22 e22:=f0 {} base Tryz.func22
def e6:al:=ae [pf a8,pI] [rI] (c2 Pu.qh)
theorem o6:ai Tryz.prog 6 e6:=f0 {} (base.add o22) Tryz.func6
def anH:al:=ae [pf lM,pI] [rI] (c2 Pu.sa)
theorem asz:ai Tryz.prog 327 anH:=f0 {} (base.add o6) Tryz.func327
def af4:al:=ae [pf aG,pI] [rI] (c2 Pu.km)
theorem arJ:ai Tryz.prog 244 af4:=f0 {} (base.add asz) Tryz.func244
def alH:al:=ae [pd (.sl aG),pI] [rI] (c2 Pu.rp)
def aoW:aJ:=aJ.nil.add 244 af4
def ai5:An:={mask:=mk [(5,[0,1,4,5])]}
@[reducible] def Dj:SD:=⟨.data false (.sl .arg aG)::DI::B::B::DI::DI::bs 21 [],zs 27 [],.none⟩
def UR {R:Type}(X:SD.D Dj)(K:Ex→AS→Option R):=Pu.tc (fun y0 y1=>ke 0 K Dj ((z1 (w y0 (z1 (u y1))) X.1),X.2)) (fun y0 y1 y2=>kr K Dj ((z1 (w y0 (w y1 (u y2))) X.1),X.2)) X.1.1 (q2 X)
def abH:aI:=bX Dj UR (fun X=>(X.1.2.1,q3 X))
def ad7:aN:=(aN.nil).add 5 abH
theorem ZS:bT E aoW ai5 ad7 (ah Tryz.f138 0):=lk Dj UR (fun X=>(X.1.2.1,q3 X)) fun X x=>((z1 (w x.1 (z1 (u x.2))) X.1),X.2)
theorem aqA:ai Tryz.prog 138 alH:=fk ai5 (base.add arJ) Tryz.func138 (Λ:=ad7) (cF ZS nF)
def alI:al:=ae [pd (.sl bN),pI] [rI] (c2 Pu.vI)
def aoX:aJ:=aJ.nil.add 242 af3
def ai6:An:={mask:=mk [(5,[0,1,4,5])]}
@[reducible] def Dk:SD:=⟨.data false (.sl .arg bN)::DI::B::B::DI::DI::bs 21 [],zs 27 [],.none⟩
def US {R:Type}(X:SD.D Dk)(K:Ex→AS→Option R):=Pu.wF (fun y0 y1=>ke 0 K Dk ((z1 (w y0 (z1 (u y1))) X.1),X.2)) (fun y0 y1 y2=>kr K Dk ((z1 (w y0 (w y1 (u y2))) X.1),X.2)) X.1.1 (q2 X)
def abI:aI:=bX Dk US (fun X=>(X.1.2.1,q3 X))
def ad8:aN:=(aN.nil).add 5 abI
theorem ZT:bT E aoX ai6 ad8 (ah Tryz.f139 0):=lk Dk US (fun X=>(X.1.2.1,q3 X)) fun X x=>((z1 (w x.1 (z1 (u x.2))) X.1),X.2)
theorem aqB:ai Tryz.prog 139 alI:=fk ai6 (base.add akB) Tryz.func139 (Λ:=ad8) (cF ZT nF)
def alJ:al:=ae [pd (.sl aZ),pI] [rI] (c2 Pu.tf)
theorem aqC:ai Tryz.prog 140 alJ:=f0 {} base Tryz.func140
def alK:al:=ae [pd (.sl .bool),pI] [rI] (c2 Pu.vG)
theorem aqD:ai Tryz.prog 141 alK:=f0 {} base Tryz.func141
def alL:al:=ae [pf dc,pI] [rI] (c2 Pu.mf)
theorem akg:ai Tryz.prog 142 alL:=f0 {} (base.add o20) Tryz.func142
def amL:al:=ae [pd (.sl bH),pI] [rI] (c2 Pu.vJ)
theorem arK:ai Tryz.prog 245 amL:=f0 {} base Tryz.func245
def anI:al:=ae [pd (.sl bn),pI] [rI] (c2 Pu.vL)
theorem asA:ai Tryz.prog 328 anI:=f0 {} base Tryz.func328
def amM:al:=ae [pf (.sl bn),pI] [rI] (c2 Pu.lh)
theorem arL:ai Tryz.prog 246 amM:=f0 {} (base.add asA) Tryz.func246
def amN:al:=ae [pf eR,pI] [rI] (c2 Pu.qi)
theorem arM:ai Tryz.prog 247 amN:=f0 {} (base.add o20) Tryz.func247
def alM:al:=ae [pf cH,pI] [rI] (c2 Pu.mO)
theorem aqE:ai Tryz.prog 143 alM:=f0 {} (((base.add arK).add arL).add arM) Tryz.func143
def af5:al:=ae [pf a9,pI] [rI] (c2 Pu.mh)
theorem arN:ai Tryz.prog 248 af5:=f0 {} base Tryz.func248
def alN:al:=ae [pd (.sl a9),pI] [rI] (c2 Pu.td)
def aoY:aJ:=aJ.nil.add 248 af5
def ai7:An:={mask:=mk [(5,[0,1,4,5])]}
@[reducible] def Dl:SD:=⟨.data false (.sl .arg a9)::DI::B::B::DI::DI::bs 21 [],zs 27 [],.none⟩
def UT {R:Type}(X:SD.D Dl)(K:Ex→AS→Option R):=Pu.tY (fun y0 y1=>ke 0 K Dl ((z1 (w y0 (z1 (u y1))) X.1),X.2)) (fun y0 y1 y2=>kr K Dl ((z1 (w y0 (w y1 (u y2))) X.1),X.2)) X.1.1 (q2 X)
def abJ:aI:=bX Dl UT (fun X=>(X.1.2.1,q3 X))
def ad9:aN:=(aN.nil).add 5 abJ
theorem ZU:bT E aoY ai7 ad9 (ah Tryz.f144 0):=lk Dl UT (fun X=>(X.1.2.1,q3 X)) fun X x=>((z1 (w x.1 (z1 (u x.2))) X.1),X.2)
theorem aqF:ai Tryz.prog 144 alN:=fk ai7 (base.add arN) Tryz.func144 (Λ:=ad9) (cF ZU nF)
def e65:al:=ae [pf ba,pI] [rI] (c2 Pu.qQ)
theorem o65:ai Tryz.prog 65 e65:=f0 {} ((((((((((((base.add o20).add o21).add aqx).add aqy).add aqz).add aqA).add aqB).add aqC).add aqD).add akg).add aqE).add aqF) Tryz.func65
def e16:al:=ae [pd (.sl ba),pI] [rI] (c2 Pu.vH)
def g16:aJ:=aJ.nil.add 65 e65
def n16:An:={mask:=mk [(5,[0,1,4,5])]}
@[reducible] def Kf:SD:=⟨.data false (.sl .arg ba)::DI::B::B::DI::DI::bs 21 [],zs 27 [],.none⟩
def X1 {R:Type}(X:SD.D Kf)(K:Ex→AS→Option R):=Pu.wE (fun y0 y1=>ke 0 K Kf ((z1 (w y0 (z1 (u y1))) X.1),X.2)) (fun y0 y1 y2=>kr K Kf ((z1 (w y0 (w y1 (u y2))) X.1),X.2)) X.1.1 (q2 X)
def ah1:aI:=bX Kf X1 (fun X=>(X.1.2.1,q3 X))
def L16:aN:=(aN.nil).add 5 ah1
theorem ahk:bT E g16 n16 L16 (ah Tryz.f16 0):=lk Kf X1 (fun X=>(X.1.2.1,q3 X)) fun X x=>((z1 (w x.1 (z1 (u x.2))) X.1),X.2)
theorem o16:ai Tryz.prog 16 e16:=fk n16 (base.add o65) Tryz.func16 (Λ:=L16) (cF ahk nF)
def e17:al:=ae [pd (.sl ak),pI] [rI] (c2 Pu.gM)
theorem o17:ai Tryz.prog 17 e17:=f0 {} base Tryz.func17
def e66:al:=ae [pf aE,pI] [rI] (c2 Pu.kl)
theorem o66:ai Tryz.prog 66 e66:=f0 {} (base.add akg) Tryz.func66
def e18:al:=ae [pd (.sl aE),pI] [rI] (c2 Pu.rm)
def g18:aJ:=aJ.nil.add 66 e66
def n18:An:={mask:=mk [(5,[0,1,4,5])]}
@[reducible] def Kg:SD:=⟨.data false (.sl .arg aE)::DI::B::B::DI::DI::bs 21 [],zs 27 [],.none⟩
def X2 {R:Type}(X:SD.D Kg)(K:Ex→AS→Option R):=Pu.ta (fun y0 y1=>ke 0 K Kg ((z1 (w y0 (z1 (u y1))) X.1),X.2)) (fun y0 y1 y2=>kr K Kg ((z1 (w y0 (w y1 (u y2))) X.1),X.2)) X.1.1 (q2 X)
def ah2:aI:=bX Kg X2 (fun X=>(X.1.2.1,q3 X))
def L18:aN:=(aN.nil).add 5 ah2
theorem ahl:bT E g18 n18 L18 (ah Tryz.f18 0):=lk Kg X2 (fun X=>(X.1.2.1,q3 X)) fun X x=>((z1 (w x.1 (z1 (u x.2))) X.1),X.2)
theorem o18:ai Tryz.prog 18 e18:=fk n18 (base.add o66) Tryz.func18 (Λ:=L18) (cF ahl nF)
def e19:al:=ae [pf (.sl .str),pI] [rI] (c2 Pu.rZ)
theorem o19:ai Tryz.prog 19 e19:=f0 {} (base.add o21) Tryz.func19
def e5:al:=ae [pf bU,pI] [rI] (c2 Pu.tX)
theorem o5:ai Tryz.prog 5 e5:=f0 {} ((((((base.add o16).add o17).add o18).add o19).add o20).add o21) Tryz.func5
def e32:al:=ae [pd (.sl (.int .i64))] [(false,(.sl (.own none) (.int .i64)))] (c1 Pu.fJ)
def g32:aJ:=aJ.nil
def n32:An:={mask:=mk [(3,[0,3,4])],mv:=[21]}
@[reducible] def Pa:SD:=⟨.data false (.sl .arg (.int .i64))::B::B::.data false (.sl (.own (some 36864)) (.int .i64))::DI::bs 17 [],zs 22 [],.none⟩
def Yb {R:Type}(X:SD.D Pa)(K:Ex→AS→Option R):=Pu.xe (fun y0 y1=>ke 0 K Pa ((z1 (w y0 (u y1)) X.1),X.2)) X.1.1
def aib:aI:=bX Pa Yb (fun X=>(X.1.2.1,q2 X))
def L32:aN:=(aN.nil).add 3 aib
theorem ahu:bT E g32 n32 L32 (ah Tryz.f32 0):=lk Pa Yb (fun X=>(X.1.2.1,q2 X)) fun X x=>((z1 (w x.1 (u x.2)) X.1),X.2)
theorem o32:ai Tryz.prog 32 e32:=fk n32 base Tryz.func32 (Λ:=L32) (cF ahu nF)
def e33:al:=ae [pd (.sl .str)] [(false,(.sl (.own none) .str))] (c1 Pu.gQ)
def g33:aJ:=aJ.nil
def n33:An:={mask:=mk [(3,[0,3,4])],mv:=[21]}
@[reducible] def Pb:SD:=⟨.data false (.sl .arg .str)::B::B::.data false (.sl (.own (some 36864)) .str)::DI::bs 17 [],zs 22 [],.none⟩
def Yc {R:Type}(X:SD.D Pb)(K:Ex→AS→Option R):=Pu.ue (fun y0 y1=>ke 0 K Pb ((z1 (w y0 (u y1)) X.1),X.2)) X.1.1
def aic:aI:=bX Pb Yc (fun X=>(X.1.2.1,q2 X))
def L33:aN:=(aN.nil).add 3 aic
theorem ahv:bT E g33 n33 L33 (ah Tryz.f33 0):=lk Pb Yc (fun X=>(X.1.2.1,q2 X)) fun X x=>((z1 (w x.1 (u x.2)) X.1),X.2)
theorem o33:ai Tryz.prog 33 e33:=fk n33 base Tryz.func33 (Λ:=L33) (cF ahv nF)
def alY:al:=ae [pf (.sl .str)] [(true,(.sl (.own none) .str))] (c1 Pu.mi)
theorem aqT:ai Tryz.prog 174 alY:=f0 {mv:=[8]} (base.add o33) Tryz.func174
def agb:al:=ae [pf aB] [(true,Y27)] (c1 Pu.oN)
theorem ar0:ai Tryz.prog 273 agb:=f0 {} base Tryz.func273
def alZ:al:=ae [pd (.sl aB)] [(false,(.sl (.own none) aB))] (c1 Pu.ru)
def ao6:aJ:=aJ.nil.add 273 agb
def ajg:An:={mask:=mk [(3,[0,3,4])],mv:=[22]}
@[reducible] def H8:SD:=⟨.data false (.sl .arg aB)::B::B::.data false (.sl (.own (some 36864)) aB)::DI::bs 18 [],zs 23 [],.none⟩
def Va {R:Type}(X:SD.D H8)(K:Ex→AS→Option R):=Pu.ti (fun y0 y1=>ke 0 K H8 ((z1 (w y0 (u y1)) X.1),X.2)) X.1.1
def abZ:aI:=bX H8 Va (fun X=>(X.1.2.1,q2 X))
def aei:aN:=(aN.nil).add 3 abZ
theorem aaa:bT E ao6 ajg aei (ah Tryz.f175 0):=lk H8 Va (fun X=>(X.1.2.1,q2 X)) fun X x=>((z1 (w x.1 (u x.2)) X.1),X.2)
theorem aqU:ai Tryz.prog 175 alZ:=fk ajg (base.add ar0) Tryz.func175 (Λ:=aei) (cF aaa nF)
def am6:al:=ae [pf cS] [(true,Y1)] (c1 Pu.ub)
theorem akM:ai Tryz.prog 274 am6:=f0 {} base Tryz.func274
def agc:al:=ae [pf bN] [(true,Y9)] (c1 Pu.kn)
theorem akN:ai Tryz.prog 275 agc:=f0 {mv:=[17]} (base.add o32) Tryz.func275
def agz:al:=ae [pf bJ] [(true,(.pair (.int .i64) (.pair (.int .i64) (.sl (.own none) (.int .i64)))))] (c1 Pu.nu)
theorem asM:ai Tryz.prog 349 agz:=f0 {mv:=[14]} (base.add o32) Tryz.func349
def am7:al:=ae [pd (.sl bJ)] [(false,(.sl (.own none) bJ))] (c1 Pu.vR)
def apv:aJ:=aJ.nil.add 349 agz
def ajE:An:={mask:=mk [(3,[0,3,4])],mv:=[22]}
@[reducible] def Im:SD:=⟨.data false (.sl .arg bJ)::B::B::.data false (.sl (.own (some 36864)) bJ)::DI::bs 18 [],zs 23 [],.none⟩
def VD {R:Type}(X:SD.D Im)(K:Ex→AS→Option R):=Pu.wL (fun y0 y1=>ke 0 K Im ((z1 (w y0 (u y1)) X.1),X.2)) X.1.1
def acv:aI:=bX Im VD (fun X=>(X.1.2.1,q2 X))
def aeG:aN:=(aN.nil).add 3 acv
theorem aaD:bT E apv ajE aeG (ah Tryz.f276 0):=lk Im VD (fun X=>(X.1.2.1,q2 X)) fun X x=>((z1 (w x.1 (u x.2)) X.1),X.2)
theorem ar1:ai Tryz.prog 276 am7:=fk ajE (base.add asM) Tryz.func276 (Λ:=aeG) (cF aaD nF)
def al0:al:=ae [pf dw] [(true,Y24)] (c1 Pu.ko)
theorem aqV:ai Tryz.prog 176 al0:=f0 {mv:=[19]} (((base.add akM).add akN).add ar1) Tryz.func176
def anY:al:=ae [pf cr] [(true,Y4)] (c1 Pu.eh)
theorem asN:ai Tryz.prog 350 anY:=f0 {} base Tryz.func350
def e34:al:=ae [pf dZ] [(true,(.pair (.int .i64) Y22))] (c1 Pu.tk)
theorem o34:ai Tryz.prog 34 e34:=f0 {} base Tryz.func34
def e9:al:=ae [pf a8] [(true,Y0)] (c1 Pu.mj)
theorem o9:ai Tryz.prog 9 e9:=f0 {} (base.add o34) Tryz.func9
def anZ:al:=ae [pf lM] [(true,Y23)] (c1 Pu.oO)
theorem asO:ai Tryz.prog 351 anZ:=f0 {} (base.add o9) Tryz.func351
def agd:al:=ae [pf aG] [(true,Y14)] (c1 Pu.gP)
theorem ar2:ai Tryz.prog 277 agd:=f0 {} (((base.add akM).add asN).add asO) Tryz.func277
def al1:al:=ae [pd (.sl aG)] [(false,(.sl (.own none) aG))] (c1 Pu.ry)
def ao7:aJ:=aJ.nil.add 277 agd
def ajh:An:={mask:=mk [(3,[0,3,4])],mv:=[22]}
@[reducible] def H9:SD:=⟨.data false (.sl .arg aG)::B::B::.data false (.sl (.own (some 36864)) aG)::DI::bs 18 [],zs 23 [],.none⟩
def Vb {R:Type}(X:SD.D H9)(K:Ex→AS→Option R):=Pu.tj (fun y0 y1=>ke 0 K H9 ((z1 (w y0 (u y1)) X.1),X.2)) X.1.1
def ab0:aI:=bX H9 Vb (fun X=>(X.1.2.1,q2 X))
def aej:aN:=(aN.nil).add 3 ab0
theorem aab:bT E ao7 ajh aej (ah Tryz.f177 0):=lk H9 Vb (fun X=>(X.1.2.1,q2 X)) fun X x=>((z1 (w x.1 (u x.2)) X.1),X.2)
theorem aqW:ai Tryz.prog 177 al1:=fk ajh (base.add ar2) Tryz.func177 (Λ:=aej) (cF aab nF)
def al2:al:=ae [pd (.sl bN)] [(false,(.sl (.own none) bN))] (c1 Pu.vP)
def ao8:aJ:=aJ.nil.add 275 agc
def aji:An:={mask:=mk [(3,[0,3,4])],mv:=[22]}
@[reducible] def Ia:SD:=⟨.data false (.sl .arg bN)::B::B::.data false (.sl (.own (some 36864)) bN)::DI::bs 18 [],zs 23 [],.none⟩
def Vc {R:Type}(X:SD.D Ia)(K:Ex→AS→Option R):=Pu.wJ (fun y0 y1=>ke 0 K Ia ((z1 (w y0 (u y1)) X.1),X.2)) X.1.1
def ab1:aI:=bX Ia Vc (fun X=>(X.1.2.1,q2 X))
def aek:aN:=(aN.nil).add 3 ab1
theorem aac:bT E ao8 aji aek (ah Tryz.f178 0):=lk Ia Vc (fun X=>(X.1.2.1,q2 X)) fun X x=>((z1 (w x.1 (u x.2)) X.1),X.2)
theorem aqX:ai Tryz.prog 178 al2:=fk aji (base.add akN) Tryz.func178 (Λ:=aek) (cF aac nF)
def age:al:=ae [pf aZ] [(true,Y15)] (c1 Pu.qj)
theorem ar3:ai Tryz.prog 278 age:=f0 {} base Tryz.func278
def al3:al:=ae [pd (.sl aZ)] [(false,(.sl (.own none) aZ))] (c1 Pu.tp)
def ao9:aJ:=aJ.nil.add 278 age
def ajj:An:={mask:=mk [(3,[0,3,4])],mv:=[22]}
@[reducible] def Ib:SD:=⟨.data false (.sl .arg aZ)::B::B::.data false (.sl (.own (some 36864)) aZ)::DI::bs 18 [],zs 23 [],.none⟩
def Vd {R:Type}(X:SD.D Ib)(K:Ex→AS→Option R):=Pu.uf (fun y0 y1=>ke 0 K Ib ((z1 (w y0 (u y1)) X.1),X.2)) X.1.1
def ab2:aI:=bX Ib Vd (fun X=>(X.1.2.1,q2 X))
def ael:aN:=(aN.nil).add 3 ab2
theorem aad:bT E ao9 ajj ael (ah Tryz.f179 0):=lk Ib Vd (fun X=>(X.1.2.1,q2 X)) fun X x=>((z1 (w x.1 (u x.2)) X.1),X.2)
theorem aqY:ai Tryz.prog 179 al3:=fk ajj (base.add ar3) Tryz.func179 (Λ:=ael) (cF aad nF)
def al4:al:=ae [pd (.sl .bool)] [(false,(.sl (.own none) .bool))] (c1 Pu.vM)
def apa:aJ:=aJ.nil
def ajk:An:={mask:=mk [(3,[0,3,4])],mv:=[21]}
@[reducible] def Ic:SD:=⟨.data false (.sl .arg .bool)::B::B::.data false (.sl (.own (some 36864)) .bool)::DI::bs 17 [],zs 22 [],.none⟩
def Ve {R:Type}(X:SD.D Ic)(K:Ex→AS→Option R):=Pu.wH (fun y0 y1=>ke 0 K Ic ((z1 (w y0 (u y1)) X.1),X.2)) X.1.1
def ab3:aI:=bX Ic Ve (fun X=>(X.1.2.1,q2 X))
def aem:aN:=(aN.nil).add 3 ab3
theorem aae:bT E apa ajk aem (ah Tryz.f180 0):=lk Ic Ve (fun X=>(X.1.2.1,q2 X)) fun X x=>((z1 (w x.1 (u x.2)) X.1),X.2)
theorem aqZ:ai Tryz.prog 180 al4:=fk ajk base Tryz.func180 (Λ:=aem) (cF aae nF)
def al5:al:=ae [pf dc] [(true,YS)] (c1 Pu.ja)
theorem ako:ai Tryz.prog 181 al5:=f0 {mv:=[14]} (base.add o32) Tryz.func181
def agA:al:=ae [pf bH] [(true,(.pair (.int .i64) (.pair (.int .i64) (.pair (.int .i64) Y26))))] (c1 Pu.uc)
theorem asP:ai Tryz.prog 352 agA:=f0 {} base Tryz.func352
def am8:al:=ae [pd (.sl bH)] [(false,(.sl (.own none) bH))] (c1 Pu.vQ)
def apw:aJ:=aJ.nil.add 352 agA
def ajF:An:={mask:=mk [(3,[0,3,4])],mv:=[22]}
@[reducible] def Io:SD:=⟨.data false (.sl .arg bH)::B::B::.data false (.sl (.own (some 36864)) bH)::DI::bs 18 [],zs 23 [],.none⟩
def VE {R:Type}(X:SD.D Io)(K:Ex→AS→Option R):=Pu.wK (fun y0 y1=>ke 0 K Io ((z1 (w y0 (u y1)) X.1),X.2)) X.1.1
def acw:aI:=bX Io VE (fun X=>(X.1.2.1,q2 X))
def aeH:aN:=(aN.nil).add 3 acw
theorem aaE:bT E apw ajF aeH (ah Tryz.f279 0):=lk Io VE (fun X=>(X.1.2.1,q2 X)) fun X x=>((z1 (w x.1 (u x.2)) X.1),X.2)
theorem ar4:ai Tryz.prog 279 am8:=fk ajF (base.add asP) Tryz.func279 (Λ:=aeH) (cF aaE nF)
def an1:al:=ae [pf cW] [(true,(.pair (.int .i64) Y1))] (c1 Pu.ua)
theorem ak5:ai Tryz.prog 354 an1:=f0 {} base Tryz.func354
def agH:al:=ae [pf bn] [(true,(.pair (.int .i64) (.pair (.pair (.int .i64) Y1) (.int .i64))))] (c1 Pu.nv)
theorem atd:ai Tryz.prog 386 agH:=f0 {} (base.add ak5) Tryz.func386
def an0:al:=ae [pd (.sl bn)] [(false,(.sl (.own none) bn))] (c1 Pu.vS)
def apH:aJ:=aJ.nil.add 386 agH
def ajQ:An:={mask:=mk [(3,[0,3,4])],mv:=[22]}
@[reducible] def It:SD:=⟨.data false (.sl .arg bn)::B::B::.data false (.sl (.own (some 36864)) bn)::DI::bs 18 [],zs 23 [],.none⟩
def VQ {R:Type}(X:SD.D It)(K:Ex→AS→Option R):=Pu.wM (fun y0 y1=>ke 0 K It ((z1 (w y0 (u y1)) X.1),X.2)) X.1.1
def acI:aI:=bX It VQ (fun X=>(X.1.2.1,q2 X))
def aeS:aN:=(aN.nil).add 3 acI
theorem aaQ:bT E apH ajQ aeS (ah Tryz.f353 0):=lk It VQ (fun X=>(X.1.2.1,q2 X)) fun X x=>((z1 (w x.1 (u x.2)) X.1),X.2)
theorem asQ:ai Tryz.prog 353 an0:=fk ajQ (base.add atd) Tryz.func353 (Λ:=aeS) (cF aaQ nF)
def am9:al:=ae [pf (.sl bn)] [(true,(.sl (.own none) bn))] (c1 Pu.gN)
theorem ar5:ai Tryz.prog 280 am9:=f0 {mv:=[8]} (base.add asQ) Tryz.func280
def ana:al:=ae [pf eR] [(true,(.pair .str (.sl (.own none) (.int .i64))))] (c1 Pu.ml)
theorem ar6:ai Tryz.prog 281 ana:=f0 {mv:=[11]} (base.add o32) Tryz.func281
def al6:al:=ae [pf cH] [(true,Y18)] (c1 Pu.iK)
theorem aq0:ai Tryz.prog 182 al6:=f0 {mv:=[16]} (((base.add ar4).add ar5).add ar6) Tryz.func182
def agf:al:=ae [pf a9] [(true,(.pair (.pair (.int .i64) Y1) (.pair (.int .i64) (.pair .str .bool))))] (c1 Pu.jb)
theorem ar7:ai Tryz.prog 282 agf:=f0 {} (base.add ak5) Tryz.func282
def al7:al:=ae [pd (.sl a9)] [(false,(.sl (.own none) a9))] (c1 Pu.tn)
def apb:aJ:=aJ.nil.add 282 agf
def ajl:An:={mask:=mk [(3,[0,3,4])],mv:=[22]}
@[reducible] def Ie:SD:=⟨.data false (.sl .arg a9)::B::B::.data false (.sl (.own (some 36864)) a9)::DI::bs 18 [],zs 23 [],.none⟩
def Vf {R:Type}(X:SD.D Ie)(K:Ex→AS→Option R):=Pu.ud (fun y0 y1=>ke 0 K Ie ((z1 (w y0 (u y1)) X.1),X.2)) X.1.1
def ab4:aI:=bX Ie Vf (fun X=>(X.1.2.1,q2 X))
def aen:aN:=(aN.nil).add 3 ab4
theorem aaf:bT E apb ajl aen (ah Tryz.f183 0):=lk Ie Vf (fun X=>(X.1.2.1,q2 X)) fun X x=>((z1 (w x.1 (u x.2)) X.1),X.2)
theorem aq1:ai Tryz.prog 183 al7:=fk ajl (base.add ar7) Tryz.func183 (Λ:=aen) (cF aaf nF)
def al8:al:=ae [pf cW] [(true,(.pair (.int .i64) Y1))] (c1 Pu.rq)
theorem aq2:ai Tryz.prog 184 al8:=f0 {} base Tryz.func184
def e81:al:=ae [pf ba] [(true,Y2)] (c1 Pu.nt)
theorem o81:ai Tryz.prog 81 e81:=f0 {mv:=[63]} (((((((((((((base.add o32).add o33).add aqT).add aqU).add aqV).add aqW).add aqX).add aqY).add aqZ).add ako).add aq0).add aq1).add aq2) Tryz.func81
def e27:al:=ae [pd (.sl ba)] [(false,(.sl (.own none) ba))] (c1 Pu.vO)
def g27:aJ:=aJ.nil.add 81 e81
def n27:An:={mask:=mk [(3,[0,3,4])],mv:=[22]}
@[reducible] def O7:SD:=⟨.data false (.sl .arg ba)::B::B::.data false (.sl (.own (some 36864)) ba)::DI::bs 18 [],zs 23 [],.none⟩
def X8 {R:Type}(X:SD.D O7)(K:Ex→AS→Option R):=Pu.wI (fun y0 y1=>ke 0 K O7 ((z1 (w y0 (u y1)) X.1),X.2)) X.1.1
def ah8:aI:=bX O7 X8 (fun X=>(X.1.2.1,q2 X))
def L27:aN:=(aN.nil).add 3 ah8
theorem ahr:bT E g27 n27 L27 (ah Tryz.f27 0):=lk O7 X8 (fun X=>(X.1.2.1,q2 X)) fun X x=>((z1 (w x.1 (u x.2)) X.1),X.2)
theorem o27:ai Tryz.prog 27 e27:=fk n27 (base.add o81) Tryz.func27 (Λ:=L27) (cF ahr nF)
def al9:al:=ae [pf cr] [(true,Y4)] (c1 Pu.uA)
theorem aq3:ai Tryz.prog 185 al9:=f0 {} base Tryz.func185
def e82:al:=ae [pf ak] [(true,Y19)] (c1 Pu.cy)
theorem o82:ai Tryz.prog 82 e82:=f0 {} (base.add aq3) Tryz.func82
def e28:al:=ae [pd (.sl ak)] [(false,(.sl (.own none) ak))] (c1 Pu.gR)
def g28:aJ:=aJ.nil.add 82 e82
def n28:An:={mask:=mk [(3,[0,3,4])],mv:=[22]}
@[reducible] def O8:SD:=⟨.data false (.sl .arg ak)::B::B::.data false (.sl (.own (some 36864)) ak)::DI::bs 18 [],zs 23 [],.none⟩
def X9 {R:Type}(X:SD.D O8)(K:Ex→AS→Option R):=Pu.kq (fun y0 y1=>ke 0 K O8 ((z1 (w y0 (u y1)) X.1),X.2)) X.1.1
def ah9:aI:=bX O8 X9 (fun X=>(X.1.2.1,q2 X))
def L28:aN:=(aN.nil).add 3 ah9
theorem ahs:bT E g28 n28 L28 (ah Tryz.f28 0):=lk O8 X9 (fun X=>(X.1.2.1,q2 X)) fun X x=>((z1 (w x.1 (u x.2)) X.1),X.2)
theorem o28:ai Tryz.prog 28 e28:=fk n28 (base.add o82) Tryz.func28 (Λ:=L28) (cF ahs nF)
def e83:al:=ae [pf aE] [(true,(.pair YS Y4))] (c1 Pu.gO)
theorem o83:ai Tryz.prog 83 e83:=f0 {mv:=[17]} (base.add ako) Tryz.func83
def e29:al:=ae [pd (.sl aE)] [(false,(.sl (.own none) aE))] (c1 Pu.rr)
def g29:aJ:=aJ.nil.add 83 e83
def n29:An:={mask:=mk [(3,[0,3,4])],mv:=[22]}
@[reducible] def O9:SD:=⟨.data false (.sl .arg aE)::B::B::.data false (.sl (.own (some 36864)) aE)::DI::bs 18 [],zs 23 [],.none⟩
def Ya {R:Type}(X:SD.D O9)(K:Ex→AS→Option R):=Pu.th (fun y0 y1=>ke 0 K O9 ((z1 (w y0 (u y1)) X.1),X.2)) X.1.1
def aia:aI:=bX O9 Ya (fun X=>(X.1.2.1,q2 X))
def L29:aN:=(aN.nil).add 3 aia
theorem aht:bT E g29 n29 L29 (ah Tryz.f29 0):=lk O9 Ya (fun X=>(X.1.2.1,q2 X)) fun X x=>((z1 (w x.1 (u x.2)) X.1),X.2)
theorem o29:ai Tryz.prog 29 e29:=fk n29 (base.add o83) Tryz.func29 (Λ:=L29) (cF aht nF)
def e30:al:=ae [pf (.sl .str)] [(true,(.sl (.own none) .str))] (c1 Pu.oM)
theorem o30:ai Tryz.prog 30 e30:=f0 {mv:=[8]} (base.add o33) Tryz.func30
def e31:al:=ae [pf cS] [(true,Y1)] (c1 Pu.vN)
theorem o31:ai Tryz.prog 31 e31:=f0 {} base Tryz.func31
def e8:al:=ae [pf bU] [(true,Y5)] (c1 Pu.g9)
theorem o8:ai Tryz.prog 8 e8:=f0 {mv:=[32]} (((((((base.add o27).add o28).add o29).add o30).add o31).add o32).add o33) Tryz.func8
def e49:al:=ae [pd (.sl (.int .i64)),pd (.sl (.int .i64))] [rB] (c2 Pu.fF)
def g49:aJ:=aJ.nil
def n49:An:={mask:=mk [(4,[0,1,4,5])]}
@[reducible] def Ko:SD:=⟨.data false (.sl .arg (.int .i64))::.data false (.sl .arg (.int .i64))::B::B::DB::DI::bs 20 [],zs 26 [],.none⟩
def Yj {R:Type}(X:SD.D Ko)(K:Ex→AS→Option R):=Pu.xd (fun y0=>ke 0 K Ko ((z3 (u y0) X.1),X.2)) (fun y0 y1=>kr K Ko ((z2 (w y0 (u y1)) X.1),X.2)) X.1.1 X.1.2.1 (q2 X)
def aik:aI:=bX Ko Yj q3
def L49:aN:=(aN.nil).add 4 aik
theorem ahC:bT E g49 n49 L49 (ah Tryz.f49 0):=lk Ko Yj q3 fun X x=>((z3 (u x) X.1),X.2)
theorem o49:ai Tryz.prog 49 e49:=fk n49 base Tryz.func49 (Λ:=L49) (cF ahC nF)
def e50:al:=ae [pd (.sl .str),pd (.sl .str)] [rB] (c2 Pu.gH)
def g50:aJ:=aJ.nil
def n50:An:={mask:=mk [(4,[0,1,4,5])]}
@[reducible] def Kq:SD:=⟨.data false (.sl .arg .str)::.data false (.sl .arg .str)::B::B::DB::DI::bs 20 [],zs 26 [],.none⟩
def Yk {R:Type}(X:SD.D Kq)(K:Ex→AS→Option R):=Pu.tV (fun y0=>ke 0 K Kq ((z3 (u y0) X.1),X.2)) (fun y0 y1=>kr K Kq ((z2 (w y0 (u y1)) X.1),X.2)) X.1.1 X.1.2.1 (q2 X)
def ail:aI:=bX Kq Yk q3
def L50:aN:=(aN.nil).add 4 ail
theorem ahD:bT E g50 n50 L50 (ah Tryz.f50 0):=lk Kq Yk q3 fun X x=>((z3 (u x) X.1),X.2)
theorem o50:ai Tryz.prog 50 e50:=fk n50 base Tryz.func50 (Λ:=L50) (cF ahD nF)
def ams:al:=ae [pf (.sl .str),pf (.sl .str)] [rB] (c2 Pu.qd)
theorem arq:ai Tryz.prog 224 ams:=f0 {} (base.add o50) Tryz.func224
def ago:al:=ae [pf aB,pf aB] [rB] (c2 Pu.jZ)
theorem asq:ai Tryz.prog 313 ago:=f0 {} base Tryz.func313
def amt:al:=ae [pd (.sl aB),pd (.sl aB)] [rB] (c2 Pu.rk)
def apj:aJ:=aJ.nil.add 313 ago
def ajt:An:={mask:=mk [(4,[0,1,4,5])]}
@[reducible] def DH:SD:=⟨.data false (.sl .arg aB)::.data false (.sl .arg aB)::B::B::DB::DI::bs 21 [],zs 27 [],.none⟩
def Vq {R:Type}(X:SD.D DH)(K:Ex→AS→Option R):=Pu.s4 (fun y0=>ke 0 K DH ((z3 (u y0) X.1),X.2)) (fun y0 y1=>kr K DH ((z2 (w y0 (u y1)) X.1),X.2)) X.1.1 X.1.2.1 (q2 X)
def acg:aI:=bX DH Vq q3
def aev:aN:=(aN.nil).add 4 acg
theorem aaq:bT E apj ajt aev (ah Tryz.f225 0):=lk DH Vq q3 fun X x=>((z3 (u x) X.1),X.2)
theorem ars:ai Tryz.prog 225 amt:=fk ajt (base.add asq) Tryz.func225 (Λ:=aev) (cF aaq nF)
def anz:al:=ae [pf cS,pf cS] [rB] (c2 Pu.qM)
theorem akY:ai Tryz.prog 314 anz:=f0 {} base Tryz.func314
def agp:al:=ae [pf bN,pf bN] [rB] (c2 Pu.nr)
theorem akZ:ai Tryz.prog 315 agp:=f0 {} (base.add o49) Tryz.func315
def agE:al:=ae [pf bJ,pf bJ] [rB] (c2 Pu.qO)
theorem as0:ai Tryz.prog 370 agE:=f0 {} (base.add o49) Tryz.func370
def anA:al:=ae [pd (.sl bJ),pd (.sl bJ)] [rB] (c2 Pu.vE)
def apD:aJ:=aJ.nil.add 370 agE
def ajM:An:={mask:=mk [(4,[0,1,4,5])]}
@[reducible] def DY:SD:=⟨.data false (.sl .arg bJ)::.data false (.sl .arg bJ)::B::B::DB::DI::bs 21 [],zs 27 [],.none⟩
def VM {R:Type}(X:SD.D DY)(K:Ex→AS→Option R):=Pu.wC (fun y0=>ke 0 K DY ((z3 (u y0) X.1),X.2)) (fun y0 y1=>kr K DY ((z2 (w y0 (u y1)) X.1),X.2)) X.1.1 X.1.2.1 (q2 X)
def acE:aI:=bX DY VM q3
def aeO:aN:=(aN.nil).add 4 acE
theorem aaM:bT E apD ajM aeO (ah Tryz.f316 0):=lk DY VM q3 fun X x=>((z3 (u x) X.1),X.2)
theorem asr:ai Tryz.prog 316 anA:=fk ajM (base.add as0) Tryz.func316 (Λ:=aeO) (cF aaM nF)
def amu:al:=ae [pf dw,pf dw] [rB] (c2 Pu.oc)
theorem art:ai Tryz.prog 226 amu:=f0 {} (((base.add akY).add akZ).add asr) Tryz.func226
def aoe:al:=ae [pf cr,pf cr] [rB] (c2 Pu.df)
theorem as1:ai Tryz.prog 371 aoe:=f0 {} base Tryz.func371
def aoH:al:=ae [pf dZ,pf dZ] [rB] (c2 Pu.oa)
theorem atC:ai Tryz.prog 417 aoH:=f0 {} base Tryz.func417
def aoz:al:=ae [pf a8,pf a8] [rB] (c2 Pu.qe)
theorem ato:ai Tryz.prog 399 aoz:=f0 {} (base.add atC) Tryz.func399
def aof:al:=ae [pf lM,pf lM] [rB] (c2 Pu.rY)
theorem as2:ai Tryz.prog 372 aof:=f0 {} (base.add ato) Tryz.func372
def agq:al:=ae [pf aG,pf aG] [rB] (c2 Pu.ka)
theorem ass:ai Tryz.prog 317 agq:=f0 {} (((base.add akY).add as1).add as2) Tryz.func317
def amv:al:=ae [pd (.sl aG),pd (.sl aG)] [rB] (c2 Pu.rl)
def apk:aJ:=aJ.nil.add 317 agq
def aju:An:={mask:=mk [(4,[0,1,4,5])]}
@[reducible] def DJ:SD:=⟨.data false (.sl .arg aG)::.data false (.sl .arg aG)::B::B::DB::DI::bs 21 [],zs 27 [],.none⟩
def Vr {R:Type}(X:SD.D DJ)(K:Ex→AS→Option R):=Pu.s5 (fun y0=>ke 0 K DJ ((z3 (u y0) X.1),X.2)) (fun y0 y1=>kr K DJ ((z2 (w y0 (u y1)) X.1),X.2)) X.1.1 X.1.2.1 (q2 X)
def ach:aI:=bX DJ Vr q3
def aew:aN:=(aN.nil).add 4 ach
theorem aar:bT E apk aju aew (ah Tryz.f227 0):=lk DJ Vr q3 fun X x=>((z3 (u x) X.1),X.2)
theorem aru:ai Tryz.prog 227 amv:=fk aju (base.add ass) Tryz.func227 (Λ:=aew) (cF aar nF)
def amw:al:=ae [pd (.sl bN),pd (.sl bN)] [rB] (c2 Pu.vC)
def apl:aJ:=aJ.nil.add 315 agp
def ajv:An:={mask:=mk [(4,[0,1,4,5])]}
@[reducible] def DK:SD:=⟨.data false (.sl .arg bN)::.data false (.sl .arg bN)::B::B::DB::DI::bs 21 [],zs 27 [],.none⟩
def Vs {R:Type}(X:SD.D DK)(K:Ex→AS→Option R):=Pu.wA (fun y0=>ke 0 K DK ((z3 (u y0) X.1),X.2)) (fun y0 y1=>kr K DK ((z2 (w y0 (u y1)) X.1),X.2)) X.1.1 X.1.2.1 (q2 X)
def aci:aI:=bX DK Vs q3
def aex:aN:=(aN.nil).add 4 aci
theorem aas:bT E apl ajv aex (ah Tryz.f228 0):=lk DK Vs q3 fun X x=>((z3 (u x) X.1),X.2)
theorem arv:ai Tryz.prog 228 amw:=fk ajv (base.add akZ) Tryz.func228 (Λ:=aex) (cF aas nF)
def agr:al:=ae [pf aZ,pf aZ] [rB] (c2 Pu.md)
theorem ast:ai Tryz.prog 318 agr:=f0 {} base Tryz.func318
def amx:al:=ae [pd (.sl aZ),pd (.sl aZ)] [rB] (c2 Pu.s7)
def apm:aJ:=aJ.nil.add 318 agr
def ajw:An:={mask:=mk [(4,[0,1,4,5])]}
@[reducible] def DL:SD:=⟨.data false (.sl .arg aZ)::.data false (.sl .arg aZ)::B::B::DB::DI::bs 21 [],zs 27 [],.none⟩
def Vt {R:Type}(X:SD.D DL)(K:Ex→AS→Option R):=Pu.tW (fun y0=>ke 0 K DL ((z3 (u y0) X.1),X.2)) (fun y0 y1=>kr K DL ((z2 (w y0 (u y1)) X.1),X.2)) X.1.1 X.1.2.1 (q2 X)
def acj:aI:=bX DL Vt q3
def aey:aN:=(aN.nil).add 4 acj
theorem aat:bT E apm ajw aey (ah Tryz.f229 0):=lk DL Vt q3 fun X x=>((z3 (u x) X.1),X.2)
theorem arw:ai Tryz.prog 229 amx:=fk ajw (base.add ast) Tryz.func229 (Λ:=aey) (cF aat nF)
def amy:al:=ae [pd (.sl .bool),pd (.sl .bool)] [rB] (c2 Pu.vA)
def apn:aJ:=aJ.nil
def ajx:An:={mask:=mk [(4,[0,1,4,5])]}
@[reducible] def DM:SD:=⟨.data false (.sl .arg .bool)::.data false (.sl .arg .bool)::B::B::DB::DI::bs 20 [],zs 26 [],.none⟩
def Vu {R:Type}(X:SD.D DM)(K:Ex→AS→Option R):=Pu.wy (fun y0=>ke 0 K DM ((z3 (u y0) X.1),X.2)) (fun y0 y1=>kr K DM ((z2 (w y0 (u y1)) X.1),X.2)) X.1.1 X.1.2.1 (q2 X)
def ack:aI:=bX DM Vu q3
def aez:aN:=(aN.nil).add 4 ack
theorem aau:bT E apn ajx aez (ah Tryz.f230 0):=lk DM Vu q3 fun X x=>((z3 (u x) X.1),X.2)
theorem arx:ai Tryz.prog 230 amy:=fk ajx base Tryz.func230 (Λ:=aez) (cF aau nF)
def amz:al:=ae [pf dc,pf dc] [rB] (c2 Pu.ma)
theorem akA:ai Tryz.prog 231 amz:=f0 {} (base.add o49) Tryz.func231
def agF:al:=ae [pf bH,pf bH] [rB] (c2 Pu.qN)
theorem as3:ai Tryz.prog 373 agF:=f0 {} base Tryz.func373
def anB:al:=ae [pd (.sl bH),pd (.sl bH)] [rB] (c2 Pu.vD)
def apE:aJ:=aJ.nil.add 373 agF
def ajN:An:={mask:=mk [(4,[0,1,4,5])]}
@[reducible] def DZ:SD:=⟨.data false (.sl .arg bH)::.data false (.sl .arg bH)::B::B::DB::DI::bs 21 [],zs 27 [],.none⟩
def VN {R:Type}(X:SD.D DZ)(K:Ex→AS→Option R):=Pu.wB (fun y0=>ke 0 K DZ ((z3 (u y0) X.1),X.2)) (fun y0 y1=>kr K DZ ((z2 (w y0 (u y1)) X.1),X.2)) X.1.1 X.1.2.1 (q2 X)
def acF:aI:=bX DZ VN q3
def aeP:aN:=(aN.nil).add 4 acF
theorem aaN:bT E apE ajN aeP (ah Tryz.f319 0):=lk DZ VN q3 fun X x=>((z3 (u x) X.1),X.2)
theorem asu:ai Tryz.prog 319 anB:=fk ajN (base.add as3) Tryz.func319 (Λ:=aeP) (cF aaN nF)
def aoh:al:=ae [pf cW,pf cW] [rB] (c2 Pu.qK)
theorem ala:ai Tryz.prog 375 aoh:=f0 {} base Tryz.func375
def agL:al:=ae [pf bn,pf bn] [rB] (c2 Pu.qP)
theorem atp:ai Tryz.prog 400 agL:=f0 {} (base.add ala) Tryz.func400
def aog:al:=ae [pd (.sl bn),pd (.sl bn)] [rB] (c2 Pu.vF)
def apL:aJ:=aJ.nil.add 400 agL
def ajU:An:={mask:=mk [(4,[0,1,4,5])]}
@[reducible] def D1:SD:=⟨.data false (.sl .arg bn)::.data false (.sl .arg bn)::B::B::DB::DI::bs 21 [],zs 27 [],.none⟩
def VU {R:Type}(X:SD.D D1)(K:Ex→AS→Option R):=Pu.wD (fun y0=>ke 0 K D1 ((z3 (u y0) X.1),X.2)) (fun y0 y1=>kr K D1 ((z2 (w y0 (u y1)) X.1),X.2)) X.1.1 X.1.2.1 (q2 X)
def acM:aI:=bX D1 VU q3
def aeW:aN:=(aN.nil).add 4 acM
theorem aaU:bT E apL ajU aeW (ah Tryz.f374 0):=lk D1 VU q3 fun X x=>((z3 (u x) X.1),X.2)
theorem as4:ai Tryz.prog 374 aog:=fk ajU (base.add atp) Tryz.func374 (Λ:=aeW) (cF aaU nF)
def anC:al:=ae [pf (.sl bn),pf (.sl bn)] [rB] (c2 Pu.k9)
theorem asv:ai Tryz.prog 320 anC:=f0 {} (base.add as4) Tryz.func320
def anD:al:=ae [pf eR,pf eR] [rB] (c2 Pu.qf)
theorem asw:ai Tryz.prog 321 anD:=f0 {} (base.add o49) Tryz.func321
def amA:al:=ae [pf cH,pf cH] [rB] (c2 Pu.mN)
theorem ary:ai Tryz.prog 232 amA:=f0 {} (((base.add asu).add asv).add asw) Tryz.func232
def ags:al:=ae [pf a9,pf a9] [rB] (c2 Pu.mc)
theorem asx:ai Tryz.prog 322 ags:=f0 {} (base.add ala) Tryz.func322
def amB:al:=ae [pd (.sl a9),pd (.sl a9)] [rB] (c2 Pu.s6)
def apo:aJ:=aJ.nil.add 322 ags
def ajy:An:={mask:=mk [(4,[0,1,4,5])]}
@[reducible] def DN:SD:=⟨.data false (.sl .arg a9)::.data false (.sl .arg a9)::B::B::DB::DI::bs 21 [],zs 27 [],.none⟩
def Vv {R:Type}(X:SD.D DN)(K:Ex→AS→Option R):=Pu.tU (fun y0=>ke 0 K DN ((z3 (u y0) X.1),X.2)) (fun y0 y1=>kr K DN ((z2 (w y0 (u y1)) X.1),X.2)) X.1.1 X.1.2.1 (q2 X)
def acm:aI:=bX DN Vv q3
def aeA:aN:=(aN.nil).add 4 acm
theorem aav:bT E apo ajy aeA (ah Tryz.f233 0):=lk DN Vv q3 fun X x=>((z3 (u x) X.1),X.2)
theorem arz:ai Tryz.prog 233 amB:=fk ajy (base.add asx) Tryz.func233 (Λ:=aeA) (cF aav nF)
def amC:al:=ae [pf cW,pf cW] [rB] (c2 Pu.mM)
theorem arA:ai Tryz.prog 234 amC:=f0 {} base Tryz.func234
def afk:al:=ae [pf ba,pf ba] [rB] (c2 Pu.qL)
theorem ap8:ai Tryz.prog 109 afk:=f0 {} (((((((((((((base.add o49).add o50).add arq).add ars).add art).add aru).add arv).add arw).add arx).add akA).add ary).add arz).add arA) Tryz.func109
def e44:al:=ae [pd (.sl ba),pd (.sl ba)] [rB] (c2 Pu.vB)
def g44:aJ:=aJ.nil.add 109 afk
def n44:An:={mask:=mk [(4,[0,1,4,5])]}
@[reducible] def Kl:SD:=⟨.data false (.sl .arg ba)::.data false (.sl .arg ba)::B::B::DB::DI::bs 21 [],zs 27 [],.none⟩
def Yg {R:Type}(X:SD.D Kl)(K:Ex→AS→Option R):=Pu.wz (fun y0=>ke 0 K Kl ((z3 (u y0) X.1),X.2)) (fun y0 y1=>kr K Kl ((z2 (w y0 (u y1)) X.1),X.2)) X.1.1 X.1.2.1 (q2 X)
def aih:aI:=bX Kl Yg q3
def L44:aN:=(aN.nil).add 4 aih
theorem ahz:bT E g44 n44 L44 (ah Tryz.f44 0):=lk Kl Yg q3 fun X x=>((z3 (u x) X.1),X.2)
theorem o44:ai Tryz.prog 44 e44:=fk n44 (base.add ap8) Tryz.func44 (Λ:=L44) (cF ahz nF)
def amD:al:=ae [pf cr,pf cr] [rB] (c2 Pu.qc)
theorem arB:ai Tryz.prog 235 amD:=f0 {} base Tryz.func235
def afl:al:=ae [pf ak,pf ak] [rB] (c2 Pu.dg)
theorem ap9:ai Tryz.prog 110 afl:=f0 {} (base.add arB) Tryz.func110
def e45:al:=ae [pd (.sl ak),pd (.sl ak)] [rB] (c2 Pu.gI)
def g45:aJ:=aJ.nil.add 110 afl
def n45:An:={mask:=mk [(4,[0,1,4,5])]}
@[reducible] def Km:SD:=⟨.data false (.sl .arg ak)::.data false (.sl .arg ak)::B::B::DB::DI::bs 21 [],zs 27 [],.none⟩
def Yh {R:Type}(X:SD.D Km)(K:Ex→AS→Option R):=Pu.kb (fun y0=>ke 0 K Km ((z3 (u y0) X.1),X.2)) (fun y0 y1=>kr K Km ((z2 (w y0 (u y1)) X.1),X.2)) X.1.1 X.1.2.1 (q2 X)
def aii:aI:=bX Km Yh q3
def L45:aN:=(aN.nil).add 4 aii
theorem ahA:bT E g45 n45 L45 (ah Tryz.f45 0):=lk Km Yh q3 fun X x=>((z3 (u x) X.1),X.2)
theorem o45:ai Tryz.prog 45 e45:=fk n45 (base.add ap9) Tryz.func45 (Λ:=L45) (cF ahA nF)
def afm:al:=ae [pf aE,pf aE] [rB] (c2 Pu.jY)
theorem aqa:ai Tryz.prog 111 afm:=f0 {} (base.add akA) Tryz.func111
def e46:al:=ae [pd (.sl aE),pd (.sl aE)] [rB] (c2 Pu.rj)
def g46:aJ:=aJ.nil.add 111 afm
def n46:An:={mask:=mk [(4,[0,1,4,5])]}
@[reducible] def Kn:SD:=⟨.data false (.sl .arg aE)::.data false (.sl .arg aE)::B::B::DB::DI::bs 21 [],zs 27 [],.none⟩
def Yi {R:Type}(X:SD.D Kn)(K:Ex→AS→Option R):=Pu.sZ (fun y0=>ke 0 K Kn ((z3 (u y0) X.1),X.2)) (fun y0 y1=>kr K Kn ((z2 (w y0 (u y1)) X.1),X.2)) X.1.1 X.1.2.1 (q2 X)
def aij:aI:=bX Kn Yi q3
def L46:aN:=(aN.nil).add 4 aij
theorem ahB:bT E g46 n46 L46 (ah Tryz.f46 0):=lk Kn Yi q3 fun X x=>((z3 (u x) X.1),X.2)
theorem o46:ai Tryz.prog 46 e46:=fk n46 (base.add aqa) Tryz.func46 (Λ:=L46) (cF ahB nF)
def e47:al:=ae [pf (.sl .str),pf (.sl .str)] [rB] (c2 Pu.rX)
theorem o47:ai Tryz.prog 47 e47:=f0 {} (base.add o50) Tryz.func47
def e48:al:=ae [pf cS,pf cS] [rB] (c2 Pu.rV)
theorem o48:ai Tryz.prog 48 e48:=f0 {} base Tryz.func48
def e11:al:=ae [pf bU,pf bU] [rB] (c2 Pu.jX)
theorem o11:ai Tryz.prog 11 e11:=f0 {} (((((((base.add o44).add o45).add o46).add o47).add o48).add o49).add o50) Tryz.func11
def e55:al:=pA (.sl (.int .i64)) false [pI] [rI] fun x a=>Pu.bl x a.1
def g55:aJ:=aJ.nil
def n55:An:={mask:=mk [(2,[0,1,5])]}
@[reducible] def Pg:SD:=⟨.data false (.sl (.lio 0 12288036864) (.int .i64))::DI::B::B::B::DI::bs 13 [],zs 19 [],.some (.sl (.own (some 12288036864)) (.int .i64))⟩
def Yo {R:Type}(X:SD.D Pg)(K:Ex→AS→Option R):=Pu.gK (fun y0 y1 y2 y3=>ke 0 K Pg ((w y0 (w y1 (u y2)) X.1),X.2.1,y3))
def aip:aI:=bX Pg Yo (fun X=>(X.1.1,X.1.2.1,q2 X,X.2.2))
def L55:aN:=(aN.nil).add 2 aip
theorem ahH:bT E g55 n55 L55 (ah Tryz.f55 0):=lk Pg Yo (fun X=>(X.1.1,X.1.2.1,q2 X,X.2.2)) fun X x=>((w x.1 (w x.2.1 (u x.2.2.1)) X.1),X.2.1,x.2.2.2)
theorem o55:ai Tryz.prog 55 e55:=ai.yn (yk (Γ:=g55) (an:=n55) (Λ:=L55) (base) Tryz.func55 (by kernel_rfl) (hF (by kernel_rfl) (cF ahH nF))) (fun x a=>by kernel_rfl)
def IU:al:=ae [pI] [rS] (c1 Pu.aH)
def aoM:aJ:=aJ.nil
def aiU:An:={mask:=mk [(4,[0,3])]}
@[reducible] def H2:SD:=⟨DI::B::B::.data false .str::bs 16 [],zs 20 [],.none⟩
def UG {R:Type}(X:SD.D H2)(K:Ex→AS→Option R):=Pu.lf (fun y0 y1=>ke 0 K H2 ((w y0 (u y1) X.1),X.2))
def abw:aI:=bX H2 UG (fun X=>(X.1.1,X.1.2.1))
def adW:aN:=(aN.nil).add 4 abw
theorem ZH:bT E aoM aiU adW (ah Tryz.f120 0):=lk H2 UG (fun X=>(X.1.1,X.1.2.1)) fun X x=>((w x.1 (u x.2) X.1),X.2)
theorem LR:ai Tryz.prog 120 IU:=fk aiU base Tryz.func120 (Λ:=adW) (cF ZH nF)
def e56:al:=pA (.sl .str) false [pI] [rI] fun x a=>Pu.c9 x a.1
def g56:aJ:=aJ.nil.add 120 IU
def n56:An:={mask:=mk [(2,[0,1,5])]}
@[reducible] def Ph:SD:=⟨.data false (.sl (.lio 0 12288036864) .str)::DI::B::B::B::DI::bs 14 [],zs 20 [],.some (.sl (.own (some 12288036864)) .str)⟩
def Yp {R:Type}(X:SD.D Ph)(K:Ex→AS→Option R):=Pu.ef (fun y0 y1 y2 y3=>ke 0 K Ph ((w y0 (w y1 (u y2)) X.1),X.2.1,y3))
def aiq:aI:=bX Ph Yp (fun X=>(X.1.1,X.1.2.1,q2 X,X.2.2))
def L56:aN:=(aN.nil).add 2 aiq
theorem ahI:bT E g56 n56 L56 (ah Tryz.f56 0):=lk Ph Yp (fun X=>(X.1.1,X.1.2.1,q2 X,X.2.2)) fun X x=>((w x.1 (w x.2.1 (u x.2.2.1)) X.1),X.2.1,x.2.2.2)
theorem o56:ai Tryz.prog 56 e56:=ai.yn (yk (Γ:=g56) (an:=n56) (Λ:=L56) (base.add LR) Tryz.func56 (by kernel_rfl) (hF (by kernel_rfl) (cF ahI nF))) (fun x a=>by kernel_rfl)
def afn:al:=pA (.sl aB) false [pI] [rI] fun x a=>Pu.jz x a.1
def agX:aJ:=aJ.nil
def aiM:An:={mask:=mk [(2,[0,1,5])]}
@[reducible] def HT:SD:=⟨.data false (.sl (.lio 0 12288036864) aB)::DI::B::B::B::DI::bs 37 [],zs 43 [],.some (.sl (.own (some 12288036864)) aB)⟩
def Uy {R:Type}(X:SD.D HT)(K:Ex→AS→Option R):=Pu.ki (fun y0 y1 y2 y3=>ke 0 K HT ((w y0 (w y1 (u y2)) X.1),X.2.1,y3))
def abn:aI:=bX HT Uy (fun X=>(X.1.1,X.1.2.1,q2 X,X.2.2))
def adO:aN:=(aN.nil).add 2 abn
theorem Zz:bT E agX aiM adO (ah Tryz.f112 0):=lk HT Uy (fun X=>(X.1.1,X.1.2.1,q2 X,X.2.2)) fun X x=>((w x.1 (w x.2.1 (u x.2.2.1)) X.1),X.2.1,x.2.2.2)
theorem aqb:ai Tryz.prog 112 afn:=ai.yn (yk (Γ:=agX) (an:=aiM) (Λ:=adO) (base) Tryz.func112 (by kernel_rfl) (hF (by kernel_rfl) (cF Zz nF))) (fun x a=>by kernel_rfl)
def afo:al:=pA (.sl bJ) false [pI] [rI] fun x a=>Pu.oG x a.1
def agY:aJ:=aJ.nil.add 55 e55
def aiN:An:={mask:=mk [(2,[0,1,5])],nest:=[30]}
@[reducible] def HU:SD:=⟨.data false (.sl (.lio 0 12288036864) bJ)::DI::B::B::B::DI::bs 28 [],zs 34 [],.some (.sl (.own (some 12288036864)) bJ)⟩
def Uz {R:Type}(X:SD.D HU)(K:Ex→AS→Option R):=Pu.oH (fun y0 y1 y2 y3=>ke 0 K HU ((w y0 (w y1 (u y2)) X.1),X.2.1,y3))
def abo:aI:=bX HU Uz (fun X=>(X.1.1,X.1.2.1,q2 X,X.2.2))
def adP:aN:=(aN.nil).add 2 abo
theorem ZA:bT E agY aiN adP (ah Tryz.f113 0):=lk HU Uz (fun X=>(X.1.1,X.1.2.1,q2 X,X.2.2)) fun X x=>((w x.1 (w x.2.1 (u x.2.2.1)) X.1),X.2.1,x.2.2.2)
theorem aqc:ai Tryz.prog 113 afo:=ai.yn (yk (Γ:=agY) (an:=aiN) (Λ:=adP) (base.add o55) Tryz.func113 (by kernel_rfl) (hF (by kernel_rfl) (cF ZA nF))) (fun x a=>by kernel_rfl)
def afp:al:=pA (.sl aG) false [pI] [rI] fun x a=>Pu.jA x a.1
def agZ:aJ:=aJ.nil.add 120 IU
def aiO:An:={mask:=mk [(2,[0,1,5])]}
@[reducible] def HV:SD:=⟨.data false (.sl (.lio 0 12288036864) aG)::DI::B::B::B::DI::bs 272 [],zs 278 [],.some (.sl (.own (some 12288036864)) aG)⟩
def UA {R:Type}(X:SD.D HV)(K:Ex→AS→Option R):=Pu.kj (fun y0 y1 y2 y3=>ke 0 K HV ((w y0 (w y1 (u y2)) X.1),X.2.1,y3))
def abp:aI:=bX HV UA (fun X=>(X.1.1,X.1.2.1,q2 X,X.2.2))
def adQ:aN:=(aN.nil).add 2 abp
theorem ZB:bT E agZ aiO adQ (ah Tryz.f114 0):=lk HV UA (fun X=>(X.1.1,X.1.2.1,q2 X,X.2.2)) fun X x=>((w x.1 (w x.2.1 (u x.2.2.1)) X.1),X.2.1,x.2.2.2)
theorem aqd:ai Tryz.prog 114 afp:=ai.yn (yk (Γ:=agZ) (an:=aiO) (Λ:=adQ) (base.add LR) Tryz.func114 (by kernel_rfl) (hF (by kernel_rfl) (cF ZB nF))) (fun x a=>by kernel_rfl)
def afq:al:=pA (.sl bN) false [pI] [rI] fun x a=>Pu.oC x a.1
def ag3:aJ:=aJ.nil.add 55 e55
def aiP:An:={mask:=mk [(2,[0,1,5])],nest:=[37]}
@[reducible] def HW:SD:=⟨.data false (.sl (.lio 0 12288036864) bN)::DI::B::B::B::DI::bs 35 [],zs 41 [],.some (.sl (.own (some 12288036864)) bN)⟩
def UB {R:Type}(X:SD.D HW)(K:Ex→AS→Option R):=Pu.oD (fun y0 y1 y2 y3=>ke 0 K HW ((w y0 (w y1 (u y2)) X.1),X.2.1,y3))
def abq:aI:=bX HW UB (fun X=>(X.1.1,X.1.2.1,q2 X,X.2.2))
def adR:aN:=(aN.nil).add 2 abq
theorem ZC:bT E ag3 aiP adR (ah Tryz.f115 0):=lk HW UB (fun X=>(X.1.1,X.1.2.1,q2 X,X.2.2)) fun X x=>((w x.1 (w x.2.1 (u x.2.2.1)) X.1),X.2.1,x.2.2.2)
theorem aqe:ai Tryz.prog 115 afq:=ai.yn (yk (Γ:=ag3) (an:=aiP) (Λ:=adR) (base.add o55) Tryz.func115 (by kernel_rfl) (hF (by kernel_rfl) (cF ZC nF))) (fun x a=>by kernel_rfl)
def afr:al:=pA (.sl aZ) false [pI] [rI] fun x a=>Pu.lg x a.1
def ag4:aJ:=aJ.nil
def aiQ:An:={mask:=mk [(2,[0,1,5])]}
@[reducible] def HX:SD:=⟨.data false (.sl (.lio 0 12288036864) aZ)::DI::B::B::B::DI::bs 53 [],zs 59 [],.some (.sl (.own (some 12288036864)) aZ)⟩
def UC {R:Type}(X:SD.D HX)(K:Ex→AS→Option R):=Pu.lQ (fun y0 y1 y2 y3=>ke 0 K HX ((w y0 (w y1 (u y2)) X.1),X.2.1,y3))
def abr:aI:=bX HX UC (fun X=>(X.1.1,X.1.2.1,q2 X,X.2.2))
def adS:aN:=(aN.nil).add 2 abr
theorem ZD:bT E ag4 aiQ adS (ah Tryz.f116 0):=lk HX UC (fun X=>(X.1.1,X.1.2.1,q2 X,X.2.2)) fun X x=>((w x.1 (w x.2.1 (u x.2.2.1)) X.1),X.2.1,x.2.2.2)
theorem aqf:ai Tryz.prog 116 afr:=ai.yn (yk (Γ:=ag4) (an:=aiQ) (Λ:=adS) (base) Tryz.func116 (by kernel_rfl) (hF (by kernel_rfl) (cF ZD nF))) (fun x a=>by kernel_rfl)
def afs:al:=pA (.sl .bool) false [pI] [rI] fun x a=>Pu.oy x a.1
def ag5:aJ:=aJ.nil
def aiR:An:={mask:=mk [(2,[0,1,5])]}
@[reducible] def HY:SD:=⟨.data false (.sl (.lio 0 12288036864) .bool)::DI::B::B::B::DI::bs 15 [],zs 21 [],.some (.sl (.own (some 12288036864)) .bool)⟩
def UD {R:Type}(X:SD.D HY)(K:Ex→AS→Option R):=Pu.fH (fun y0 y1 y2 y3=>ke 0 K HY ((w y0 (w y1 (u y2)) X.1),X.2.1,y3))
def abt:aI:=bX HY UD (fun X=>(X.1.1,X.1.2.1,q2 X,X.2.2))
def adT:aN:=(aN.nil).add 2 abt
theorem ZE:bT E ag5 aiR adT (ah Tryz.f117 0):=lk HY UD (fun X=>(X.1.1,X.1.2.1,q2 X,X.2.2)) fun X x=>((w x.1 (w x.2.1 (u x.2.2.1)) X.1),X.2.1,x.2.2.2)
theorem aqg:ai Tryz.prog 117 afs:=ai.yn (yk (Γ:=ag5) (an:=aiR) (Λ:=adT) (base) Tryz.func117 (by kernel_rfl) (hF (by kernel_rfl) (cF ZE nF))) (fun x a=>by kernel_rfl)
def aft:al:=pA (.sl bH) false [pI] [rI] fun x a=>Pu.oE x a.1
def ag6:aJ:=aJ.nil
def aiS:An:={mask:=mk [(2,[0,1,5])]}
@[reducible] def HZ:SD:=⟨.data false (.sl (.lio 0 12288036864) bH)::DI::B::B::B::DI::bs 70 [],zs 76 [],.some (.sl (.own (some 12288036864)) bH)⟩
def UE {R:Type}(X:SD.D HZ)(K:Ex→AS→Option R):=Pu.oF (fun y0 y1 y2 y3=>ke 0 K HZ ((w y0 (w y1 (u y2)) X.1),X.2.1,y3))
def abu:aI:=bX HZ UE (fun X=>(X.1.1,X.1.2.1,q2 X,X.2.2))
def adU:aN:=(aN.nil).add 2 abu
theorem ZF:bT E ag6 aiS adU (ah Tryz.f118 0):=lk HZ UE (fun X=>(X.1.1,X.1.2.1,q2 X,X.2.2)) fun X x=>((w x.1 (w x.2.1 (u x.2.2.1)) X.1),X.2.1,x.2.2.2)
theorem aqh:ai Tryz.prog 118 aft:=ai.yn (yk (Γ:=ag6) (an:=aiS) (Λ:=adU) (base) Tryz.func118 (by kernel_rfl) (hF (by kernel_rfl) (cF ZF nF))) (fun x a=>by kernel_rfl)
def afu:al:=pA (.sl bn) false [pI] [rI] fun x a=>Pu.oI x a.1
def ag7:aJ:=aJ.nil
def aiT:An:={mask:=mk [(2,[0,1,5])]}
@[reducible] def H0:SD:=⟨.data false (.sl (.lio 0 12288036864) bn)::DI::B::B::B::DI::bs 61 [],zs 67 [],.some (.sl (.own (some 12288036864)) bn)⟩
def UF {R:Type}(X:SD.D H0)(K:Ex→AS→Option R):=Pu.oJ (fun y0 y1 y2 y3=>ke 0 K H0 ((w y0 (w y1 (u y2)) X.1),X.2.1,y3))
def abv:aI:=bX H0 UF (fun X=>(X.1.1,X.1.2.1,q2 X,X.2.2))
def adV:aN:=(aN.nil).add 2 abv
theorem ZG:bT E ag7 aiT adV (ah Tryz.f119 0):=lk H0 UF (fun X=>(X.1.1,X.1.2.1,q2 X,X.2.2)) fun X x=>((w x.1 (w x.2.1 (u x.2.2.1)) X.1),X.2.1,x.2.2.2)
theorem aqi:ai Tryz.prog 119 afu:=ai.yn (yk (Γ:=ag7) (an:=aiT) (Λ:=adV) (base) Tryz.func119 (by kernel_rfl) (hF (by kernel_rfl) (cF ZG nF))) (fun x a=>by kernel_rfl)
def afv:al:=pA (.sl a9) false [pI] [rI] fun x a=>Pu.ld x a.1
def ag8:aJ:=aJ.nil.add 120 IU
def aiV:An:={mask:=mk [(2,[0,1,5])]}
@[reducible] def H3:SD:=⟨.data false (.sl (.lio 0 12288036864) a9)::DI::B::B::B::DI::bs 71 [],zs 77 [],.some (.sl (.own (some 12288036864)) a9)⟩
def UH {R:Type}(X:SD.D H3)(K:Ex→AS→Option R):=Pu.lP (fun y0 y1 y2 y3=>ke 0 K H3 ((w y0 (w y1 (u y2)) X.1),X.2.1,y3))
def abx:aI:=bX H3 UH (fun X=>(X.1.1,X.1.2.1,q2 X,X.2.2))
def adX:aN:=(aN.nil).add 2 abx
theorem ZI:bT E ag8 aiV adX (ah Tryz.f121 0):=lk H3 UH (fun X=>(X.1.1,X.1.2.1,q2 X,X.2.2)) fun X x=>((w x.1 (w x.2.1 (u x.2.2.1)) X.1),X.2.1,x.2.2.2)
theorem aqj:ai Tryz.prog 121 afv:=ai.yn (yk (Γ:=ag8) (an:=aiV) (Λ:=adX) (base.add LR) Tryz.func121 (by kernel_rfl) (hF (by kernel_rfl) (cF ZI nF))) (fun x a=>by kernel_rfl)
def e51:al:=pA (.sl ba) false [pI] [rI] fun x a=>Pu.s9 x a.1
def g51:aJ:=(((((((((((aJ.nil.add 55 e55).add 56 e56).add 112 afn).add 113 afo).add 114 afp).add 115 afq).add 116 afr).add 117 afs).add 118 aft).add 119 afu).add 120 IU).add 121 afv
def n51:An:={mask:=mk [(2,[0,1,5])],nest:=[17,24,96,104,119,126,133,140,166,174,183,202,209,225,232,239]}
@[reducible] def Pd:SD:=⟨.data false (.sl (.lio 0 12288036864) ba)::DI::B::B::B::DI::bs 277 [],zs 283 [],.some (.sl (.own (some 12288036864)) ba)⟩
def Yl {R:Type}(X:SD.D Pd)(K:Ex→AS→Option R):=Pu.oA (fun y0 y1 y2 y3=>ke 0 K Pd ((w y0 (w y1 (u y2)) X.1),X.2.1,y3))
def aim:aI:=bX Pd Yl (fun X=>(X.1.1,X.1.2.1,q2 X,X.2.2))
def L51:aN:=(aN.nil).add 2 aim
theorem ahE:bT E g51 n51 L51 (ah Tryz.f51 0):=lk Pd Yl (fun X=>(X.1.1,X.1.2.1,q2 X,X.2.2)) fun X x=>((w x.1 (w x.2.1 (u x.2.2.1)) X.1),X.2.1,x.2.2.2)
theorem o51:ai Tryz.prog 51 e51:=ai.yn (yk (Γ:=g51) (an:=n51) (Λ:=L51) ((((((((((((base.add o55).add o56).add aqb).add aqc).add aqd).add aqe).add aqf).add aqg).add aqh).add aqi).add LR).add aqj) Tryz.func51 (by kernel_rfl) (hF (by kernel_rfl) (cF ahE nF))) (fun x a=>by kernel_rfl)
def e52:al:=pA (.sl ak) false [pI] [rI] fun x a=>Pu.e7 x a.1
def g52:aJ:=aJ.nil
def n52:An:={mask:=mk [(2,[0,1,5])]}
@[reducible] def Pe:SD:=⟨.data false (.sl (.lio 0 12288036864) ak)::DI::B::B::B::DI::bs 68 [],zs 74 [],.some (.sl (.own (some 12288036864)) ak)⟩
def Ym {R:Type}(X:SD.D Pe)(K:Ex→AS→Option R):=Pu.dS (fun y0 y1 y2 y3=>ke 0 K Pe ((w y0 (w y1 (u y2)) X.1),X.2.1,y3))
def ain:aI:=bX Pe Ym (fun X=>(X.1.1,X.1.2.1,q2 X,X.2.2))
def L52:aN:=(aN.nil).add 2 ain
theorem ahF:bT E g52 n52 L52 (ah Tryz.f52 0):=lk Pe Ym (fun X=>(X.1.1,X.1.2.1,q2 X,X.2.2)) fun X x=>((w x.1 (w x.2.1 (u x.2.2.1)) X.1),X.2.1,x.2.2.2)
theorem o52:ai Tryz.prog 52 e52:=ai.yn (yk (Γ:=g52) (an:=n52) (Λ:=L52) (base) Tryz.func52 (by kernel_rfl) (hF (by kernel_rfl) (cF ahF nF))) (fun x a=>by kernel_rfl)
def e53:al:=pA (.sl aE) false [pI] [rI] fun x a=>Pu.oB x a.1
def g53:aJ:=aJ.nil.add 55 e55
def n53:An:={mask:=mk [(2,[0,1,5])],nest:=[35]}
@[reducible] def Pf:SD:=⟨.data false (.sl (.lio 0 12288036864) aE)::DI::B::B::B::DI::bs 54 [],zs 60 [],.some (.sl (.own (some 12288036864)) aE)⟩
def Yn {R:Type}(X:SD.D Pf)(K:Ex→AS→Option R):=Pu.kh (fun y0 y1 y2 y3=>ke 0 K Pf ((w y0 (w y1 (u y2)) X.1),X.2.1,y3))
def aio:aI:=bX Pf Yn (fun X=>(X.1.1,X.1.2.1,q2 X,X.2.2))
def L53:aN:=(aN.nil).add 2 aio
theorem ahG:bT E g53 n53 L53 (ah Tryz.f53 0):=lk Pf Yn (fun X=>(X.1.1,X.1.2.1,q2 X,X.2.2)) fun X x=>((w x.1 (w x.2.1 (u x.2.2.1)) X.1),X.2.1,x.2.2.2)
theorem o53:ai Tryz.prog 53 e53:=ai.yn (yk (Γ:=g53) (an:=n53) (Λ:=L53) (base.add o55) Tryz.func53 (by kernel_rfl) (hF (by kernel_rfl) (cF ahG nF))) (fun x a=>by kernel_rfl)
def e54:al:=pA (.sl .str) true [pI] [rI] fun x a=>Pu.oz x a.1
theorem o54:ai Tryz.prog 54 e54:=ai.yn (yk (an:={}) (Λ:=aN.nil) (base.add o56) Tryz.func54 (by kernel_rfl) (hF (by kernel_rfl) nF)) (fun x a=>by kernel_rfl)
def e12:al:=pA bU true [pI] [rI] fun x a=>Pu.me x a.1
theorem o12:ai Tryz.prog 12 e12:=ai.yn (yk (an:={}) (Λ:=aN.nil) ((((((base.add o51).add o52).add o53).add o54).add o55).add o56) Tryz.func12 (by kernel_rfl) (hF (by kernel_rfl) nF)) (fun x a=>by kernel_rfl)
def e61:al:=ae [pd (.sl (.int .i64)),pI] [rI] (c2 Pu.bk)
def g61:aJ:=aJ.nil
def n61:An:={mask:=mk [(2,[0,1,4,5])]}
@[reducible] def Ku:SD:=⟨.data false (.sl .arg (.int .i64))::DI::B::B::DI::DI::bs 15 [],zs 21 [],.none⟩
def Yt {R:Type}(X:SD.D Ku)(K:Ex→AS→Option R):=Pu.gJ (fun y0 y1=>ke 0 K Ku ((z1 (w y0 (z1 (u y1))) X.1),X.2)) (fun y0 y1 y2=>kr K Ku ((z1 (w y0 (w y1 (u y2))) X.1),X.2)) X.1.1 (q2 X)
def aiu:aI:=bX Ku Yt (fun X=>(X.1.2.1,q3 X))
def L61:aN:=(aN.nil).add 2 aiu
theorem ahM:bT E g61 n61 L61 (ah Tryz.f61 0):=lk Ku Yt (fun X=>(X.1.2.1,q3 X)) fun X x=>((z1 (w x.1 (z1 (u x.2))) X.1),X.2)
theorem o61:ai Tryz.prog 61 e61:=fk n61 base Tryz.func61 (Λ:=L61) (cF ahM nF)
def e62:al:=ae [pd (.sl .str),pI] [rI] (c2 Pu.c8)
def g62:aJ:=aJ.nil.add 120 IU
def n62:An:={mask:=mk [(2,[0,1,4,5])]}
@[reducible] def Kv:SD:=⟨.data false (.sl .arg .str)::DI::B::B::DI::DI::bs 16 [],zs 22 [],.none⟩
def Yu {R:Type}(X:SD.D Kv)(K:Ex→AS→Option R):=Pu.ee (fun y0 y1=>ke 0 K Kv ((z1 (w y0 (z1 (u y1))) X.1),X.2)) (fun y0 y1 y2=>kr K Kv ((z1 (w y0 (w y1 (u y2))) X.1),X.2)) X.1.1 (q2 X)
def aiv:aI:=bX Kv Yu (fun X=>(X.1.2.1,q3 X))
def L62:aN:=(aN.nil).add 2 aiv
theorem ahN:bT E g62 n62 L62 (ah Tryz.f62 0):=lk Kv Yu (fun X=>(X.1.2.1,q3 X)) fun X x=>((z1 (w x.1 (z1 (u x.2))) X.1),X.2)
theorem o62:ai Tryz.prog 62 e62:=fk n62 (base.add LR) Tryz.func62 (Λ:=L62) (cF ahN nF)
def afw:al:=ae [pd (.sl aB),pI] [rI] (c2 Pu.jx)
def aoN:aJ:=aJ.nil
def aiW:An:={mask:=mk [(2,[0,1,4,5])]}
@[reducible] def Da:SD:=⟨.data false (.sl .arg aB)::DI::B::B::DI::DI::bs 45 [],zs 51 [],.none⟩
def UI {R:Type}(X:SD.D Da)(K:Ex→AS→Option R):=Pu.kf (fun y0 y1=>ke 0 K Da ((z1 (w y0 (z1 (u y1))) X.1),X.2)) (fun y0 y1 y2=>kr K Da ((z1 (w y0 (w y1 (u y2))) X.1),X.2)) X.1.1 (q2 X)
def aby:aI:=bX Da UI (fun X=>(X.1.2.1,q3 X))
def adY:aN:=(aN.nil).add 2 aby
theorem ZJ:bT E aoN aiW adY (ah Tryz.f122 0):=lk Da UI (fun X=>(X.1.2.1,q3 X)) fun X x=>((z1 (w x.1 (z1 (u x.2))) X.1),X.2)
theorem aqk:ai Tryz.prog 122 afw:=fk aiW base Tryz.func122 (Λ:=adY) (cF ZJ nF)
def afx:al:=ae [pd (.sl bJ),pI] [rI] (c2 Pu.ou)
def aoO:aJ:=aJ.nil.add 61 e61
def aiX:An:={mask:=mk [(2,[0,1,4,5])]}
@[reducible] def Db:SD:=⟨.data false (.sl .arg bJ)::DI::B::B::DI::DI::bs 34 [],zs 40 [],.none⟩
def UJ {R:Type}(X:SD.D Db)(K:Ex→AS→Option R):=Pu.ov (fun y0 y1=>ke 0 K Db ((z1 (w y0 (z1 (u y1))) X.1),X.2)) (fun y0 y1 y2=>kr K Db ((z1 (w y0 (w y1 (u y2))) X.1),X.2)) X.1.1 (q2 X)
def abz:aI:=bX Db UJ (fun X=>(X.1.2.1,q3 X))
def adZ:aN:=(aN.nil).add 2 abz
theorem ZK:bT E aoO aiX adZ (ah Tryz.f123 0):=lk Db UJ (fun X=>(X.1.2.1,q3 X)) fun X x=>((z1 (w x.1 (z1 (u x.2))) X.1),X.2)
theorem aql:ai Tryz.prog 123 afx:=fk aiX (base.add o61) Tryz.func123 (Λ:=adZ) (cF ZK nF)
def afy:al:=ae [pd (.sl aG),pI] [rI] (c2 Pu.jy)
def aoP:aJ:=aJ.nil.add 120 IU
def aiY:An:={mask:=mk [(2,[0,1,4,5])]}
@[reducible] def Dc:SD:=⟨.data false (.sl .arg aG)::DI::B::B::DI::DI::bs 332 [],zs 338 [],.none⟩
def UK {R:Type}(X:SD.D Dc)(K:Ex→AS→Option R):=Pu.kg (fun y0 y1=>ke 0 K Dc ((z1 (w y0 (z1 (u y1))) X.1),X.2)) (fun y0 y1 y2=>kr K Dc ((z1 (w y0 (w y1 (u y2))) X.1),X.2)) X.1.1 (q2 X)
def abA:aI:=bX Dc UK (fun X=>(X.1.2.1,q3 X))
def ad0:aN:=(aN.nil).add 2 abA
theorem ZL:bT E aoP aiY ad0 (ah Tryz.f124 0):=lk Dc UK (fun X=>(X.1.2.1,q3 X)) fun X x=>((z1 (w x.1 (z1 (u x.2))) X.1),X.2)
theorem aqm:ai Tryz.prog 124 afy:=fk aiY (base.add LR) Tryz.func124 (Λ:=ad0) (cF ZL nF)
def afz:al:=ae [pd (.sl bN),pI] [rI] (c2 Pu.om)
def aoQ:aJ:=aJ.nil.add 61 e61
def aiZ:An:={mask:=mk [(2,[0,1,4,5])]}
@[reducible] def Dd:SD:=⟨.data false (.sl .arg bN)::DI::B::B::DI::DI::bs 43 [],zs 49 [],.none⟩
def UL {R:Type}(X:SD.D Dd)(K:Ex→AS→Option R):=Pu.oo (fun y0 y1=>ke 0 K Dd ((z1 (w y0 (z1 (u y1))) X.1),X.2)) (fun y0 y1 y2=>kr K Dd ((z1 (w y0 (w y1 (u y2))) X.1),X.2)) X.1.1 (q2 X)
def abB:aI:=bX Dd UL (fun X=>(X.1.2.1,q3 X))
def ad1:aN:=(aN.nil).add 2 abB
theorem ZM:bT E aoQ aiZ ad1 (ah Tryz.f125 0):=lk Dd UL (fun X=>(X.1.2.1,q3 X)) fun X x=>((z1 (w x.1 (z1 (u x.2))) X.1),X.2)
theorem aqn:ai Tryz.prog 125 afz:=fk aiZ (base.add o61) Tryz.func125 (Λ:=ad1) (cF ZM nF)
def afA:al:=ae [pd (.sl aZ),pI] [rI] (c2 Pu.lb)
def aoR:aJ:=aJ.nil
def ai0:An:={mask:=mk [(2,[0,1,4,5])]}
@[reducible] def De:SD:=⟨.data false (.sl .arg aZ)::DI::B::B::DI::DI::bs 65 [],zs 71 [],.none⟩
def UM {R:Type}(X:SD.D De)(K:Ex→AS→Option R):=Pu.lO (fun y0 y1=>ke 0 K De ((z1 (w y0 (z1 (u y1))) X.1),X.2)) (fun y0 y1 y2=>kr K De ((z1 (w y0 (w y1 (u y2))) X.1),X.2)) X.1.1 (q2 X)
def abC:aI:=bX De UM (fun X=>(X.1.2.1,q3 X))
def ad2:aN:=(aN.nil).add 2 abC
theorem ZN:bT E aoR ai0 ad2 (ah Tryz.f126 0):=lk De UM (fun X=>(X.1.2.1,q3 X)) fun X x=>((z1 (w x.1 (z1 (u x.2))) X.1),X.2)
theorem aqo:ai Tryz.prog 126 afA:=fk ai0 base Tryz.func126 (Λ:=ad2) (cF ZN nF)
def afB:al:=ae [pd (.sl .bool),pI] [rI] (c2 Pu.od)
def aoS:aJ:=aJ.nil
def ai1:An:={mask:=mk [(2,[0,1,4,5])]}
@[reducible] def Df:SD:=⟨.data false (.sl .arg .bool)::DI::B::B::DI::DI::bs 17 [],zs 23 [],.none⟩
def UN {R:Type}(X:SD.D Df)(K:Ex→AS→Option R):=Pu.fG (fun y0 y1=>ke 0 K Df ((z1 (w y0 (z1 (u y1))) X.1),X.2)) (fun y0 y1 y2=>kr K Df ((z1 (w y0 (w y1 (u y2))) X.1),X.2)) X.1.1 (q2 X)
def abD:aI:=bX Df UN (fun X=>(X.1.2.1,q3 X))
def ad3:aN:=(aN.nil).add 2 abD
theorem ZO:bT E aoS ai1 ad3 (ah Tryz.f127 0):=lk Df UN (fun X=>(X.1.2.1,q3 X)) fun X x=>((z1 (w x.1 (z1 (u x.2))) X.1),X.2)
theorem aqp:ai Tryz.prog 127 afB:=fk ai1 base Tryz.func127 (Λ:=ad3) (cF ZO nF)
def afC:al:=ae [pd (.sl bH),pI] [rI] (c2 Pu.oq)
def aoT:aJ:=aJ.nil
def ai2:An:={mask:=mk [(2,[0,1,4,5])]}
@[reducible] def Dg:SD:=⟨.data false (.sl .arg bH)::DI::B::B::DI::DI::bs 88 [],zs 94 [],.none⟩
def UO {R:Type}(X:SD.D Dg)(K:Ex→AS→Option R):=Pu.ot (fun y0 y1=>ke 0 K Dg ((z1 (w y0 (z1 (u y1))) X.1),X.2)) (fun y0 y1 y2=>kr K Dg ((z1 (w y0 (w y1 (u y2))) X.1),X.2)) X.1.1 (q2 X)
def abE:aI:=bX Dg UO (fun X=>(X.1.2.1,q3 X))
def ad4:aN:=(aN.nil).add 2 abE
theorem ZP:bT E aoT ai2 ad4 (ah Tryz.f128 0):=lk Dg UO (fun X=>(X.1.2.1,q3 X)) fun X x=>((z1 (w x.1 (z1 (u x.2))) X.1),X.2)
theorem aqq:ai Tryz.prog 128 afC:=fk ai2 base Tryz.func128 (Λ:=ad4) (cF ZP nF)
def afD:al:=ae [pd (.sl bn),pI] [rI] (c2 Pu.ow)
def aoU:aJ:=aJ.nil
def ai3:An:={mask:=mk [(2,[0,1,4,5])]}
@[reducible] def Dh:SD:=⟨.data false (.sl .arg bn)::DI::B::B::DI::DI::bs 75 [],zs 81 [],.none⟩
def UP {R:Type}(X:SD.D Dh)(K:Ex→AS→Option R):=Pu.ox (fun y0 y1=>ke 0 K Dh ((z1 (w y0 (z1 (u y1))) X.1),X.2)) (fun y0 y1 y2=>kr K Dh ((z1 (w y0 (w y1 (u y2))) X.1),X.2)) X.1.1 (q2 X)
def abF:aI:=bX Dh UP (fun X=>(X.1.2.1,q3 X))
def ad5:aN:=(aN.nil).add 2 abF
theorem ZQ:bT E aoU ai3 ad5 (ah Tryz.f129 0):=lk Dh UP (fun X=>(X.1.2.1,q3 X)) fun X x=>((z1 (w x.1 (z1 (u x.2))) X.1),X.2)
theorem aqr:ai Tryz.prog 129 afD:=fk ai3 base Tryz.func129 (Λ:=ad5) (cF ZQ nF)
def afE:al:=ae [pd (.sl a9),pI] [rI] (c2 Pu.la)
def aoV:aJ:=aJ.nil.add 120 IU
def ai4:An:={mask:=mk [(2,[0,1,4,5])]}
@[reducible] def Di:SD:=⟨.data false (.sl .arg a9)::DI::B::B::DI::DI::bs 87 [],zs 93 [],.none⟩
def UQ {R:Type}(X:SD.D Di)(K:Ex→AS→Option R):=Pu.lN (fun y0 y1=>ke 0 K Di ((z1 (w y0 (z1 (u y1))) X.1),X.2)) (fun y0 y1 y2=>kr K Di ((z1 (w y0 (w y1 (u y2))) X.1),X.2)) X.1.1 (q2 X)
def abG:aI:=bX Di UQ (fun X=>(X.1.2.1,q3 X))
def ad6:aN:=(aN.nil).add 2 abG
theorem ZR:bT E aoV ai4 ad6 (ah Tryz.f130 0):=lk Di UQ (fun X=>(X.1.2.1,q3 X)) fun X x=>((z1 (w x.1 (z1 (u x.2))) X.1),X.2)
theorem aqs:ai Tryz.prog 130 afE:=fk ai4 (base.add LR) Tryz.func130 (Λ:=ad6) (cF ZR nF)
def e57:al:=ae [pd (.sl ba),pI] [rI] (c2 Pu.s8)
def g57:aJ:=(((((((((((aJ.nil.add 61 e61).add 62 e62).add 120 IU).add 122 afw).add 123 afx).add 124 afy).add 125 afz).add 126 afA).add 127 afB).add 128 afC).add 129 afD).add 130 afE
def n57:An:={mask:=mk [(2,[0,1,4,5])]}
@[reducible] def Kr:SD:=⟨.data false (.sl .arg ba)::DI::B::B::DI::DI::bs 343 [],zs 349 [],.none⟩
def Yq {R:Type}(X:SD.D Kr)(K:Ex→AS→Option R):=Pu.og (fun y0 y1=>ke 0 K Kr ((z1 (w y0 (z1 (u y1))) X.1),X.2)) (fun y0 y1 y2=>kr K Kr ((z1 (w y0 (w y1 (u y2))) X.1),X.2)) X.1.1 (q2 X)
def air:aI:=bX Kr Yq (fun X=>(X.1.2.1,q3 X))
def L57:aN:=(aN.nil).add 2 air
theorem ahJ:bT E g57 n57 L57 (ah Tryz.f57 0):=lk Kr Yq (fun X=>(X.1.2.1,q3 X)) fun X x=>((z1 (w x.1 (z1 (u x.2))) X.1),X.2)
theorem o57:ai Tryz.prog 57 e57:=fk n57 ((((((((((((base.add o61).add o62).add LR).add aqk).add aql).add aqm).add aqn).add aqo).add aqp).add aqq).add aqr).add aqs) Tryz.func57 (Λ:=L57) (cF ahJ nF)
def e58:al:=ae [pd (.sl ak),pI] [rI] (c2 Pu.eZ)
def g58:aJ:=aJ.nil
def n58:An:={mask:=mk [(2,[0,1,4,5])]}
@[reducible] def Ks:SD:=⟨.data false (.sl .arg ak)::DI::B::B::DI::DI::bs 84 [],zs 90 [],.none⟩
def Yr {R:Type}(X:SD.D Ks)(K:Ex→AS→Option R):=Pu.dR (fun y0 y1=>ke 0 K Ks ((z1 (w y0 (z1 (u y1))) X.1),X.2)) (fun y0 y1 y2=>kr K Ks ((z1 (w y0 (w y1 (u y2))) X.1),X.2)) X.1.1 (q2 X)
def ais:aI:=bX Ks Yr (fun X=>(X.1.2.1,q3 X))
def L58:aN:=(aN.nil).add 2 ais
theorem ahK:bT E g58 n58 L58 (ah Tryz.f58 0):=lk Ks Yr (fun X=>(X.1.2.1,q3 X)) fun X x=>((z1 (w x.1 (z1 (u x.2))) X.1),X.2)
theorem o58:ai Tryz.prog 58 e58:=fk n58 base Tryz.func58 (Λ:=L58) (cF ahK nF)
def e59:al:=ae [pd (.sl aE),pI] [rI] (c2 Pu.oh)
def g59:aJ:=aJ.nil.add 61 e61
def n59:An:={mask:=mk [(2,[0,1,4,5])]}
@[reducible] def Kt:SD:=⟨.data false (.sl .arg aE)::DI::B::B::DI::DI::bs 66 [],zs 72 [],.none⟩
def Ys {R:Type}(X:SD.D Kt)(K:Ex→AS→Option R):=Pu.kc (fun y0 y1=>ke 0 K Kt ((z1 (w y0 (z1 (u y1))) X.1),X.2)) (fun y0 y1 y2=>kr K Kt ((z1 (w y0 (w y1 (u y2))) X.1),X.2)) X.1.1 (q2 X)
def ait:aI:=bX Kt Ys (fun X=>(X.1.2.1,q3 X))
def L59:aN:=(aN.nil).add 2 ait
theorem ahL:bT E g59 n59 L59 (ah Tryz.f59 0):=lk Kt Ys (fun X=>(X.1.2.1,q3 X)) fun X x=>((z1 (w x.1 (z1 (u x.2))) X.1),X.2)
theorem o59:ai Tryz.prog 59 e59:=fk n59 (base.add o61) Tryz.func59 (Λ:=L59) (cF ahL nF)
def e60:al:=ae [pf (.sl .str),pI] [rI] (c2 Pu.oe)
theorem o60:ai Tryz.prog 60 e60:=f0 {} (base.add o62) Tryz.func60
def e13:al:=ae [pf bU,pI] [rI] (c2 Pu.iZ)
theorem o13:ai Tryz.prog 13 e13:=f0 {} ((((((base.add o57).add o58).add o59).add o60).add o61).add o62) Tryz.func13
def Wz:al:=ae [pf (.sl .str)] [(true,(.sl (.own none) .str))] (c1 Pu.cm)
theorem Of:ai Tryz.prog 145 Wz:=f0 {} base Tryz.func145
def Za:al:=ae [pf bN] [(true,Y9)] (c1 Pu.ix)
theorem adl:ai Tryz.prog 147 Za:=f0 {sb:=mg [(2,2)]} base Tryz.func147
def afF:al:=ae [pf dw] [(true,Y24)] (c1 Pu.sy)
def aoZ:aJ:=aJ.nil.add 147 Za
def ai8:An:={mask:=mk [(3,[1,2,3,4])],mv:=[27,40],mb:=mg [(27,3)],sb:=mg [(3,3),(39,3)]}
@[reducible] def H4:SD:=⟨B::.ptr 1 0::.ptr 2 0::.ptr 3 0::DI::bs 36 [],Z::(some Y25)::(some (.pair Y1 (.pair (.pair (.int .i64) (.pair (.int .i64) (.pair (.int .i64) (.sl (.own (some 24598)) (.int .i64))))) (.pair (.sl (.own (some 24601)) bJ) (.int .i64)))))::(some (.pair Y1 (.pair (.pair (.int .i64) (.pair (.int .i64) (.pair (.int .i64) (.sl (.own (some 36886)) (.int .i64))))) (.pair (.sl (.own (some 36889)) bJ) (.int .i64)))))::zs 37 [],.none⟩
def UU {R:Type}(X:SD.D H4)(K:Ex→AS→Option R):=Pu.mZ (fun y0 y1=>ke 0 K H4 ((u y0 X.1),(z2 (u y1) X.2.1),X.2.2)) X.2.1.1 X.2.1.2.1
def abK:aI:=bX H4 UU (fun X=>(X.1.1,X.2.1.2.2.1))
def aea:aN:=(aN.nil).add 3 abK
theorem ZV:bT E aoZ ai8 aea (ah Tryz.f146 0):=lk H4 UU (fun X=>(X.1.1,X.2.1.2.2.1)) fun X x=>((u x.1 X.1),(z2 (u x.2) X.2.1),X.2.2)
theorem aqG:ai Tryz.prog 146 afF:=fk ai8 (base.add adl) Tryz.func146 (Λ:=aea) (cF ZV nF)
def afG:al:=ae [pf dc] [(true,YS)] (c1 Pu.pq)
theorem akh:ai Tryz.prog 148 afG:=f0 {sb:=mg [(2,2)]} base Tryz.func148
def amO:al:=ae [pf (.sl bn)] [(true,(.sl (.own none) bn))] (c1 Pu.sr)
theorem arO:ai Tryz.prog 249 amO:=f0 {} base Tryz.func249
def afH:al:=ae [pf cH] [(true,Y18)] (c1 Pu.su)
theorem aqH:ai Tryz.prog 149 afH:=f0 {sb:=mg [(2,2)]} (base.add arO) Tryz.func149
def e67:al:=ae [pf ba] [(true,Y2)] (c1 Pu.pt)
def g67:aJ:=((((aJ.nil.add 145 Wz).add 146 afF).add 147 Za).add 148 afG).add 149 afH
def n67:An:={mask:=mk [(8,[1,2,3,4])],mv:=[34,82],mb:=mg [(34,3)],sb:=mg [(43,3)]}
@[reducible] def Pj:SD:=⟨B::.ptr 1 0::.ptr 2 0::.ptr 3 0::DI::bs 78 [],Z::(some Y3)::(some Y6)::(some Y8)::zs 79 [],.none⟩
def Yv {R:Type}(X:SD.D Pj)(K:Ex→AS→Option R):=Pu.m5 (fun y0 y1=>ke 0 K Pj ((u y0 X.1),(z2 (u y1) X.2.1),X.2.2)) X.2.1.1 X.2.1.2.1
def aiw:aI:=bX Pj Yv (fun X=>(X.1.1,X.2.1.2.2.1))
def L67:aN:=(aN.nil).add 8 aiw
theorem ahO:bT E g67 n67 L67 (ah Tryz.f67 0):=lk Pj Yv (fun X=>(X.1.1,X.2.1.2.2.1)) fun X x=>((u x.1 X.1),(z2 (u x.2) X.2.1),X.2.2)
theorem o67:ai Tryz.prog 67 e67:=fk n67 (((((base.add Of).add aqG).add adl).add akh).add aqH) Tryz.func67 (Λ:=L67) (cF ahO nF)
def e68:al:=ae [pf aE] [(true,(.pair YS Y4))] (c1 Pu.sA)
theorem o68:ai Tryz.prog 68 e68:=f0 {mv:=[7]} (base.add akh) Tryz.func68
def e23:al:=ae [pf bU] [(true,Y5)] (c1 Pu.sB)
def g23:aJ:=(aJ.nil.add 67 e67).add 68 e68
def n23:An:={mask:=mk [(3,[1,2,3,4]),(7,[1,2,3,5])],mv:=[35,53,63],mb:=mg [(35,3),(53,3)],sb:=mg [(3,3),(44,3),(62,3)]}
@[reducible] def O4:SD:=⟨B::.ptr 1 0::.ptr 2 0::.ptr 3 0::DI::bs 59 [],Z::(some Y12)::(some Y11)::(some Y10)::zs 60 [],.none⟩
def X4 {R:Type}(X:SD.D O4)(K:Ex→AS→Option R):=Pu.m6 (fun y0 y1=>ke 0 K O4 ((u y0 X.1),(z2 (u y1) X.2.1),X.2.2)) X.2.1.1 X.2.1.2.1
def ah4:aI:=bX O4 X4 (fun X=>(X.1.1,X.2.1.2.2.1))
@[reducible] def O5:SD:=⟨B::.ptr 1 0::.ptr 2 0::.ptr 3 0::B::DI::bs 58 [],Z::(some Y12)::(some Y11)::(some Y10)::zs 60 [],.none⟩
def X5 {R:Type}(X:SD.D O5)(K:Ex→AS→Option R):=Pu.m7 (fun y0 y1=>ke 2 K O5 ((u y0 X.1),(z2 (u y1) X.2.1),X.2.2)) X.2.1.1 X.2.1.2.1
def ah5:aI:=bX O5 X5 (fun X=>(X.1.1,X.2.1.2.2.1))
def L23:aN:=((aN.nil).add 3 ah4).add 7 ah5
theorem ahn:bT E g23 n23 L23 (ah Tryz.f23 0):=lk O4 X4 (fun X=>(X.1.1,X.2.1.2.2.1)) fun X x=>((u x.1 X.1),(z2 (u x.2) X.2.1),X.2.2)
theorem aho:bT E g23 n23 L23 (ah Tryz.f23 1):=lk O5 X5 (fun X=>(X.1.1,X.2.1.2.2.1)) fun X x=>((u x.1 X.1),(z2 (u x.2) X.2.1),X.2.2)
theorem o23:ai Tryz.prog 23 e23:=fk n23 ((base.add o67).add o68) Tryz.func23 (Λ:=L23) (cF ahn (cF aho nF))
def Bf:al:=ae [pI,pI,pI] [rB] (c3 Pu.aj)
theorem ji:ai Tryz.prog 150 Bf:=f0 {merge:=mg [(1,6)]} base Tryz.func150
def Ze:al:=ae [pf dc] [rB] (c1 Pu.fZ)
def ao2:aJ:=aJ.nil.add 150 Bf
def ajb:An:={mask:=mk [(2,[1,2,3])],merge:=mg [(4,35),(6,2)]}
@[reducible] def Dt:SD:=⟨B::.ptr 1 0::DB::DI::bs 41 [],Z::(some Y21)::zs 43 [],.none⟩
def U3 {R:Type}(X:SD.D Dt)(K:Ex→AS→Option R):=Pu.lp (fun y0=>ke 0 K Dt ((z1 (u y0) X.1),X.2)) (fun y0 y1=>kr K Dt ((w y0 (u y1) X.1),X.2)) X.1.1 X.2.1.1
def abS:aI:=bX Dt U3 (fun X=>X.1.2.1)
def aed:aN:=(aN.nil).add 2 abS
theorem Z3:bT E ao2 ajb aed (ah Tryz.f160 0):=lk Dt U3 (fun X=>X.1.2.1) fun X x=>((z1 (u x) X.1),X.2)
theorem Xe:ai Tryz.prog 160 Ze:=fk ajb (base.add ji) Tryz.func160 (Λ:=aed) (cF Z3 nF)
def afI:al:=ae [pf aE] [rB] (c1 Pu.pa)
theorem aqI:ai Tryz.prog 151 afI:=f0 {merge:=mg [(1,2)]} ((base.add ji).add Xe) Tryz.func151
def WA:al:=ae [pd (.sl (.int .i64)),pI] [rB] (c2 Pu.dn)
def ao5:aJ:=aJ.nil
def aje:An:={mask:=mk [(2,[0,1,4,5])]}
@[reducible] def Dy:SD:=⟨.data false (.sl .arg (.int .i64))::DI::B::B::DB::DI::bs 12 [],zs 18 [],.none⟩
def U8 {R:Type}(X:SD.D Dy)(K:Ex→AS→Option R):=Pu.pr (fun y0=>ke 0 K Dy ((z3 (u y0) X.1),X.2)) (fun y0 y1=>kr K Dy ((z2 (w y0 (u y1)) X.1),X.2)) X.1.1 X.1.2.1 (q2 X)
def abX:aI:=bX Dy U8 q3
def aeg:aN:=(aN.nil).add 2 abX
theorem Z8:bT E ao5 aje aeg (ah Tryz.f167 0):=lk Dy U8 q3 fun X x=>((z3 (u x) X.1),X.2)
theorem Ro:ai Tryz.prog 167 WA:=fk aje base Tryz.func167 (Λ:=aeg) (cF Z8 nF)
def afJ:al:=ae [pd (.sl (.int .i64)),pd (.sl (.int .i64))] [(false,(.sl (.own none) (.int .i64)))] (c2 Pu.mC)
def ag9:aJ:=aJ.nil.add 167 WA
def adb:An:={mask:=mk [(3,[1,5,6]),(7,[1,5,6,7])],merge:=mg [(7,37)],mv:=[55]}
@[reducible] def H6:SD:=⟨B::.data false (.sl .arg (.int .i64))::B::B::B::.data false (.sl (.own (some 61440)) (.int .i64))::DI::DI::bs 48 [],zs 56 [],.none⟩
def UX {R:Type}(X:SD.D H6)(K:Ex→AS→Option R):=Pu.lG (fun y0=>ke 2 K H6 ((z3 (u y0) X.1),X.2)) X.1.1 X.1.2.1 (q2 X)
def abM:aI:=bX H6 UX q3
@[reducible] def H5:SD:=⟨B::.data false (.sl .arg (.int .i64))::B::B::B::.data false (.sl (.own (some 61440)) (.int .i64))::DI::bs 49 [],zs 56 [],.none⟩
def UW {R:Type}(X:SD.D H5)(K:Ex→AS→Option R):=Pu.g7 (fun y0 y1=>ke 0 K H5 ((z1 (w y0 (u y1)) X.1),X.2)) X.1.1
def abL:aI:=bX H5 UW (fun X=>(X.1.2.1,q2 X))
def YJ:aN:=((aN.nil).add 7 abM).add 3 abL
theorem ZX:bT E ag9 adb YJ (ah Tryz.f152 1):=lk H6 UX q3 fun X x=>((z3 (u x) X.1),X.2)
theorem ZW:bT E ag9 adb YJ (ah Tryz.f152 0):=lk H5 UW (fun X=>(X.1.2.1,q2 X)) fun X x=>((z1 (w x.1 (u x.2)) X.1),X.2)
theorem aqJ:ai Tryz.prog 152 afJ:=fk adb (base.add Ro) Tryz.func152 (Λ:=YJ) (cF ZW (cF ZX nF))
def Zb:al:=ae [pd (.sl de)] [rB] (c1 Pu.fN)
def aha:aJ:=((aJ.nil.add 150 Bf).add 160 Ze).add 167 WA
def ade:An:={mask:=mk [(4,[0,2,3]),(9,[0,2,3,4])]}
@[reducible] def Dp:SD:=⟨.data false (.sl .arg de)::B::DB::DI::DI::bs 53 [],zs 58 [],.none⟩
def UZ {R:Type}(X:SD.D Dp)(K:Ex→AS→Option R):=Pu.mU (fun y0=>ke 2 K Dp ((z3 (u y0) X.1),X.2)) (fun y0 y1=>kr K Dp ((z1 (w y0 (z1 (u y1))) X.1),X.2)) X.1.1 X.1.2.1 (q2 X)
def abO:aI:=bX Dp UZ q3
@[reducible] def Dm:SD:=⟨.data false (.sl .arg de)::B::DB::DI::bs 54 [],zs 58 [],.none⟩
def UY {R:Type}(X:SD.D Dm)(K:Ex→AS→Option R):=Pu.mT (fun y0=>ke 0 K Dm ((z2 (u y0) X.1),X.2)) (fun y0 y1=>kr K Dm ((z1 (w y0 (u y1)) X.1),X.2)) X.1.1 X.1.2.1
def abN:aI:=bX Dm UY q2
def YK:aN:=((aN.nil).add 9 abO).add 4 abN
theorem ZZ:bT E aha ade YK (ah Tryz.f153 1):=lk Dp UZ q3 fun X x=>((z3 (u x) X.1),X.2)
theorem ZY:bT E aha ade YK (ah Tryz.f153 0):=lk Dm UY q2 fun X x=>((z2 (u x) X.1),X.2)
theorem Xd:ai Tryz.prog 153 Zb:=fk ade (((base.add ji).add Xe).add Ro) Tryz.func153 (Λ:=YK) (cF ZY (cF ZZ nF))
def e69:al:=ae [pd (.sl aE)] [(false,(.sl (.own none) de)),rB] (c1 Pu.pe)
def g69:aJ:=(((aJ.nil.add 150 Bf).add 151 afI).add 152 afJ).add 153 Zb
def n69:An:={mask:=mk [(5,[0,2,3,4,5])],mv:=[41,63]}
@[reducible] def Kw:SD:=⟨.data false (.sl .arg aE)::B::.data false (.sl (.own (some 24576)) de)::DB::.data false (.sl (.own (some 49152)) de)::DI::bs 58 [],zs 64 [],.none⟩
def Yw {R:Type}(X:SD.D Kw)(K:Ex→AS→Option R):=Pu.iP (fun y0 y1=>ke 0 K Kw ((z3 (w y0 (u y1)) X.1),X.2)) (fun y0 y1 y2 y3=>kr K Kw ((z1 (w y0 (w y1 (w y2 (u y3)))) X.1),X.2)) X.1.1 X.1.2.1 (q2 X)
def aix:aI:=bX Kw Yw (fun X=>(q3 X,q4 X))
def L69:aN:=(aN.nil).add 5 aix
theorem ahP:bT E g69 n69 L69 (ah Tryz.f69 0):=lk Kw Yw (fun X=>(q3 X,q4 X)) fun X x=>((z3 (w x.1 (u x.2)) X.1),X.2)
theorem o69:ai Tryz.prog 69 e69:=fk n69 ((((base.add ji).add aqI).add aqJ).add Xd) Tryz.func69 (Λ:=L69) (cF ahP nF)
def afK:al:=ae [pf cr] [rB] (c1 Pu.qn)
theorem aqK:ai Tryz.prog 154 afK:=f0 {merge:=mg [(1,2)]} (base.add ji) Tryz.func154
def e70:al:=ae [pd (.sl ak),pd (.sl de)] [rB] (c2 Pu.lq)
def g70:aJ:=((aJ.nil.add 150 Bf).add 153 Zb).add 154 afK
def n70:An:={mask:=mk [(4,[0,1,4,5]),(10,[0,1,4,5,6,7])],merge:=mg [(7,51),(12,74)]}
@[reducible] def D5:SD:=⟨.data false (.sl .arg ak)::.data false (.sl .arg de)::B::B::DB::DI::.ptr 6 0::DI::bs 67 [],zs 6 ((some Y19)::zs 68 []),.none⟩
def Wf {R:Type}(X:SD.D D5)(K:Ex→AS→Option R):=Pu.fL (fun y0=>ke 2 K D5 ((z4 (u y0) X.1),X.2)) (fun y0 y1=>kr K D5 ((z2 (w y0 (z1 (u y1))) X.1),X.2)) X.1.1 X.1.2.1 (q2 X) (q3 X) X.2.1.1
def ac7:aI:=bX D5 Wf q4
@[reducible] def Kx:SD:=⟨.data false (.sl .arg ak)::.data false (.sl .arg de)::B::B::DB::DI::bs 69 [],zs 75 [],.none⟩
def Yx {R:Type}(X:SD.D Kx)(K:Ex→AS→Option R):=Pu.gx (fun y0=>ke 0 K Kx ((z3 (u y0) X.1),X.2)) (fun y0 y1=>kr K Kx ((z2 (w y0 (u y1)) X.1),X.2)) X.1.1 X.1.2.1 (q2 X)
def aiy:aI:=bX Kx Yx q3
def L70:aN:=((aN.nil).add 10 ac7).add 4 aiy
theorem abf:bT E g70 n70 L70 (ah Tryz.f70 1):=lk D5 Wf q4 fun X x=>((z4 (u x) X.1),X.2)
theorem ahQ:bT E g70 n70 L70 (ah Tryz.f70 0):=lk Kx Yx q3 fun X x=>((z3 (u x) X.1),X.2)
theorem o70:ai Tryz.prog 70 e70:=fk n70 (((base.add ji).add Xd).add aqK) Tryz.func70 (Λ:=L70) (cF ahQ (cF abf nF))
def alO:al:=ae [pf (.sl .str)] [rB] (c1 Pu.sk)
theorem aqL:ai Tryz.prog 155 alO:=f0 {merge:=mg [(1,2)]} base Tryz.func155
def anJ:al:=ae [pd .str,pI,pI] [rB] (c3 Pu.g5)
theorem adu:ai Tryz.prog 329 anJ:=f0 {merge:=mg [(1,6)]} base Tryz.func329
def anE:al:=ae [pd .str,pI] [rI] (c2 Pu.cl)
theorem TL:ai Tryz.prog 323 anE:=f0 {} (base.add adu) Tryz.func323
def amP:al:=ae [pd .str,pI] [rI] (c2 Pu.dx)
theorem TJ:ai Tryz.prog 250 amP:=f0 {} ((base.add TL).add adu) Tryz.func250
def amX:al:=ae [pd .str] [rI] (c1 Pu.tG)
def ahg:aJ:=aJ.nil
def adj:An:={mask:=mk [(3,[0,3,4]),(7,[0,3,4,5])]}
@[reducible] def Ik:SD:=⟨.data false .str::B::B::DI::DI::DI::bs 26 [],zs 32 [],.none⟩
def VB {R:Type}(X:SD.D Ik)(K:Ex→AS→Option R):=Pu.je (fun y0 y1=>ke 2 K Ik ((z1 (w y0 (z1 (u y1))) X.1),X.2)) X.1.1 (q2 X)
def acs:aI:=bX Ik VB (fun X=>(X.1.2.1,q3 X))
@[reducible] def Ij:SD:=⟨.data false .str::B::B::DI::DI::bs 27 [],zs 32 [],.none⟩
def VA {R:Type}(X:SD.D Ij)(K:Ex→AS→Option R):=Pu.mr (fun y0 y1=>ke 0 K Ij ((z1 (w y0 (u y1)) X.1),X.2)) X.1.1
def acr:aI:=bX Ij VA (fun X=>(X.1.2.1,q2 X))
def YP:aN:=((aN.nil).add 7 acs).add 3 acr
theorem aaB:bT E ahg adj YP (ah Tryz.f263 1):=lk Ik VB (fun X=>(X.1.2.1,q3 X)) fun X x=>((z1 (w x.1 (z1 (u x.2))) X.1),X.2)
theorem aaA:bT E ahg adj YP (ah Tryz.f263 0):=lk Ij VA (fun X=>(X.1.2.1,q2 X)) fun X x=>((z1 (w x.1 (u x.2)) X.1),X.2)
theorem akJ:ai Tryz.prog 263 amX:=fk adj base Tryz.func263 (Λ:=YP) (cF aaA (cF aaB nF))
def anK:al:=ae [pI] [rS] (c1 Pu.bq)
theorem LS:ai Tryz.prog 330 anK:=f0 {} (base.add ji) Tryz.func330
def amQ:al:=ae [pI,pd .str] [rS,rB] (c2 Pu.pb)
theorem arP:ai Tryz.prog 251 amQ:=f0 {merge:=mg [(1,15)]} (((base.add ji).add akJ).add LS) Tryz.func251
def alP:al:=ae [pd .str] [rI] (c1 Pu.fM)
theorem aqM:ai Tryz.prog 156 alP:=f0 {merge:=mg [(2,17),(5,37)]} (((base.add ji).add TJ).add arP) Tryz.func156
def e71:al:=ae [pf (.sl .str)] [rI] (c1 Pu.qm)
theorem o71:ai Tryz.prog 71 e71:=f0 {merge:=mg [(5,23)]} ((base.add aqL).add aqM) Tryz.func71
def e72:al:=ae [pf cS] [rB] (c1 Pu.sg)
theorem o72:ai Tryz.prog 72 e72:=f0 {merge:=mg [(1,2)]} (base.add ji) Tryz.func72
def Zc:al:=ae [pf (.sl .str)] [rB] (c1 Pu.jf)
def ao0:aJ:=aJ.nil
def ai9:An:={mask:=mk [(2,[1,2,3])]}
@[reducible] def Dq:SD:=⟨B::.ptr 1 0::DB::DI::bs 18 [],Z::(some (.sl .arg .str))::zs 20 [],.none⟩
def U0 {R:Type}(X:SD.D Dq)(K:Ex→AS→Option R):=Pu.lv (fun y0=>ke 0 K Dq ((z1 (u y0) X.1),X.2)) (fun y0 y1=>kr K Dq ((w y0 (u y1) X.1),X.2)) X.1.1 X.2.1.1
def abP:aI:=bX Dq U0 (fun X=>X.1.2.1)
def aeb:aN:=(aN.nil).add 2 abP
theorem Z0:bT E ao0 ai9 aeb (ah Tryz.f157 0):=lk Dq U0 (fun X=>X.1.2.1) fun X x=>((z1 (u x) X.1),X.2)
theorem adm:ai Tryz.prog 157 Zc:=fk ai9 base Tryz.func157 (Λ:=aeb) (cF Z0 nF)
def Zd:al:=ae [pd (.sl aB)] [rB] (c1 Pu.iO)
def ahb:aJ:=aJ.nil.add 150 Bf
def adf:An:={mask:=mk [(4,[0,2,3]),(10,[0,2,3,4,5])],merge:=mg [(7,34),(12,57)]}
@[reducible] def zD:SD:=⟨.data false (.sl .arg aB)::B::DB::DI::.ptr 4 0::DI::bs 52 [],zs 4 ((some Y27)::zs 53 []),.none⟩
def Qj {R:Type}(X:SD.D zD)(K:Ex→AS→Option R):=Pu.gy (fun y0=>ke 2 K zD ((z3 (u y0) X.1),X.2)) (fun y0 y1=>kr K zD ((z1 (w y0 (z1 (u y1))) X.1),X.2)) X.1.1 X.1.2.1 (q2 X) X.2.1.1
def W5:aI:=bX zD Qj q3
@[reducible] def Dr:SD:=⟨.data false (.sl .arg aB)::B::DB::DI::bs 54 [],zs 58 [],.none⟩
def U1 {R:Type}(X:SD.D Dr)(K:Ex→AS→Option R):=Pu.iq (fun y0=>ke 0 K Dr ((z2 (u y0) X.1),X.2)) (fun y0 y1=>kr K Dr ((z1 (w y0 (u y1)) X.1),X.2)) X.1.1 X.1.2.1
def abQ:aI:=bX Dr U1 q2
def YL:aN:=((aN.nil).add 10 W5).add 4 abQ
theorem W2:bT E ahb adf YL (ah Tryz.f158 1):=lk zD Qj q3 fun X x=>((z3 (u x) X.1),X.2)
theorem Z1:bT E ahb adf YL (ah Tryz.f158 0):=lk Dr U1 q2 fun X x=>((z2 (u x) X.1),X.2)
theorem aki:ai Tryz.prog 158 Zd:=fk adf (base.add ji) Tryz.func158 (Λ:=YL) (cF Z1 (cF W2 nF))
def Zf:al:=ae [pf bN] [rB] (c1 Pu.kA)
def ao3:aJ:=aJ.nil.add 150 Bf
def ajc:An:={mask:=mk [(5,[1,2,3,4])],merge:=mg [(1,20),(7,50)]}
@[reducible] def Dw:SD:=⟨B::.ptr 1 0::DB::.data false (.sl (.own (some 36864)) .bool)::DI::bs 53 [],Z::(some Y16)::zs 56 [],.none⟩
def U6 {R:Type}(X:SD.D Dw)(K:Ex→AS→Option R):=Pu.pc (fun y0 y1=>ke 0 K Dw ((z1 (w y0 (u y1)) X.1),X.2)) (fun y0 y1 y2=>kr K Dw ((w y0 (w y1 (u y2)) X.1),X.2)) X.1.1 X.2.1.1
def abV:aI:=bX Dw U6 (fun X=>(X.1.2.1,q2 X))
def aee:aN:=(aN.nil).add 5 abV
theorem Z6:bT E ao3 ajc aee (ah Tryz.f163 0):=lk Dw U6 (fun X=>(X.1.2.1,q2 X)) fun X x=>((z1 (w x.1 (u x.2)) X.1),X.2)
theorem ado:ai Tryz.prog 163 Zf:=fk ajc (base.add ji) Tryz.func163 (Λ:=aee) (cF Z6 nF)
def anL:al:=ae [pI] [rB] (c1 Pu.lF)
theorem adv:ai Tryz.prog 331 anL:=f0 {merge:=mg [(1,2)]} base Tryz.func331
def anM:al:=ae [pf cS] [rI] (c1 Pu.my)
theorem ak1:ai Tryz.prog 332 anM:=f0 {} (base.add adv) Tryz.func332
def af6:al:=ae [pf cS] [rB] (c1 Pu.kC)
theorem Xg:ai Tryz.prog 252 af6:=f0 {merge:=mg [(1,2)]} (((base.add ji).add adv).add ak1) Tryz.func252
def af7:al:=ae [pf bN,pd (.sl (.int .i64))] [(true,Y9),rB] (c2 Pu.eG)
theorem arQ:ai Tryz.prog 253 af7:=f0 {merge:=mg [(3,21)],mv:=[10,24]} ((base.add adl).add ado) Tryz.func253
def afL:al:=ae [pf dw] [rB] (c1 Pu.ya)
def ao1:aJ:=(((aJ.nil.add 150 Bf).add 163 Zf).add 252 af6).add 253 af7
def aja:An:={mask:=mk [(6,[1,2,3,4,5])],merge:=mg [(1,24),(9,50),(14,2)],mv:=[55]}
@[reducible] def Ds:SD:=⟨B::.ptr 1 0::DB::DI::.data false (.sl (.own (some 49152)) (.int .i64))::DI::bs 68 [],Z::(some Y25)::zs 72 [],.none⟩
def U2 {R:Type}(X:SD.D Ds)(K:Ex→AS→Option R):=Pu.pk (fun y0 y1 y2=>ke 0 K Ds ((z1 (w y0 (w y1 (u y2))) X.1),X.2)) (fun y0 y1 y2 y3=>kr K Ds ((w y0 (w y1 (w y2 (u y3))) X.1),X.2)) X.1.1 X.2.1.1
def abR:aI:=bX Ds U2 (fun X=>(X.1.2.1,q2 X,q3 X))
def aec:aN:=(aN.nil).add 6 abR
theorem Z2:bT E ao1 aja aec (ah Tryz.f159 0):=lk Ds U2 (fun X=>(X.1.2.1,q2 X,q3 X)) fun X x=>((z1 (w x.1 (w x.2.1 (u x.2.2))) X.1),X.2)
theorem aqN:ai Tryz.prog 159 afL:=fk aja ((((base.add ji).add ado).add Xg).add arQ) Tryz.func159 (Λ:=aec) (cF Z2 nF)
def agu:al:=ae [pf bH] [rB] (c1 Pu.eA)
theorem ak2:ai Tryz.prog 333 agu:=f0 {merge:=mg [(1,33),(3,54),(5,2)]} (base.add ji) Tryz.func333
def Zl:al:=ae [pd (.sl bH)] [rB] (c1 Pu.ph)
def apr:aJ:=aJ.nil.add 333 agu
def ajA:An:={mask:=mk [(2,[0,2,3])]}
@[reducible] def DQ:SD:=⟨.data false (.sl .arg bH)::B::DB::DI::bs 15 [],zs 19 [],.none⟩
def Vx {R:Type}(X:SD.D DQ)(K:Ex→AS→Option R):=Pu.mV (fun y0=>ke 0 K DQ ((z2 (u y0) X.1),X.2)) (fun y0 y1=>kr K DQ ((z1 (w y0 (u y1)) X.1),X.2)) X.1.1 X.1.2.1
def aco:aI:=bX DQ Vx q2
def aeC:aN:=(aN.nil).add 2 aco
theorem aax:bT E apr ajA aeC (ah Tryz.f254 0):=lk DQ Vx q2 fun X x=>((z2 (u x) X.1),X.2)
theorem akC:ai Tryz.prog 254 Zl:=fk ajA (base.add ak2) Tryz.func254 (Λ:=aeC) (cF aax nF)
def agG:al:=ae [pf cW] [rI] (c1 Pu.qt)
def apM:aJ:=aJ.nil
def ajV:An:={mask:=mk [(4,[3,4,5])]}
@[reducible] def Ix:SD:=⟨B::B::B::DI::.data false (.sl (.own (some 49152)) (.int .i64))::DI::bs 26 [],zs 32 [],.none⟩
def VV {R:Type}(X:SD.D Ix)(K:Ex→AS→Option R):=Pu.g4 (fun y0 y1=>ke 0 K Ix ((w y0 (z1 (u y1)) X.1),X.2)) X.1.2.1
def acN:aI:=bX Ix VV (fun X=>(X.1.1,q2 X))
def aeX:aN:=(aN.nil).add 4 acN
theorem aaV:bT E apM ajV aeX (ah Tryz.f376 0):=lk Ix VV (fun X=>(X.1.1,q2 X)) fun X x=>((w x.1 (z1 (u x.2)) X.1),X.2)
theorem as5:ai Tryz.prog 376 agG:=fk ajV base Tryz.func376 (Λ:=aeX) (cF aaV nF)
def agv:al:=ae [pf (.sl bn),pf cW] [rI] (c2 Pu.po)
def apF:aJ:=aJ.nil.add 376 agG
def ajO:An:={mask:=mk [(2,[2,3,4,5])],merge:=mg [(7,39)]}
@[reducible] def D0:SD:=⟨B::B::.ptr 2 0::.ptr 3 0::DI::DI::bs 35 [],Z::Z::(some (.sl .arg bn))::(some (.pair (.int .i64) Y1))::zs 37 [],.none⟩
def VO {R:Type}(X:SD.D D0)(K:Ex→AS→Option R):=Pu.iS (fun y0=>ke 0 K D0 ((z1 (u y0) X.1),X.2)) (fun y0 y1=>kr K D0 ((w y0 (u y1) X.1),X.2)) X.1.1 X.2.1.1 X.2.1.2.1
def acG:aI:=bX D0 VO (fun X=>X.1.2.1)
def aeQ:aN:=(aN.nil).add 2 acG
theorem aaO:bT E apF ajO aeQ (ah Tryz.f334 0):=lk D0 VO (fun X=>X.1.2.1) fun X x=>((z1 (u x) X.1),X.2)
theorem ak3:ai Tryz.prog 334 agv:=fk ajO (base.add as5) Tryz.func334 (Λ:=aeQ) (cF aaO nF)
def af8:al:=ae [pf (.sl bn)] [rB] (c1 Pu.pj)
def aps:aJ:=(aJ.nil.add 150 Bf).add 334 agv
def ajB:An:={mask:=mk [(4,[1,2,3])],merge:=mg [(7,30),(10,42)]}
@[reducible] def DR:SD:=⟨B::.ptr 1 0::DB::DI::bs 45 [],Z::(some (.sl .arg bn))::zs 47 [],.none⟩
def Vy {R:Type}(X:SD.D DR)(K:Ex→AS→Option R):=Pu.mW (fun y0=>ke 0 K DR ((z1 (u y0) X.1),X.2)) (fun y0 y1=>kr K DR ((w y0 (u y1) X.1),X.2)) X.1.1 X.2.1.1
def acp:aI:=bX DR Vy (fun X=>X.1.2.1)
def aeD:aN:=(aN.nil).add 4 acp
theorem aay:bT E aps ajB aeD (ah Tryz.f255 0):=lk DR Vy (fun X=>X.1.2.1) fun X x=>((z1 (u x) X.1),X.2)
theorem akD:ai Tryz.prog 255 af8:=fk ajB ((base.add ji).add ak3) Tryz.func255 (Λ:=aeD) (cF aay nF)
def agw:al:=ae [pI] [rB] (c1 Pu.sq)
theorem asB:ai Tryz.prog 335 agw:=f0 {merge:=mg [(1,2)]} base Tryz.func335
def af9:al:=ae [pf eR,pI] [rB] (c2 Pu.mA)
def apt:aJ:=(aJ.nil.add 150 Bf).add 335 agw
def ajC:An:={mask:=mk [(4,[1,2,4,5])],merge:=mg [(1,21)]}
@[reducible] def DS:SD:=⟨B::DI::.ptr 2 0::B::DB::DI::bs 32 [],Z::Z::(some (.pair .str (.sl .arg (.int .i64))))::zs 35 [],.none⟩
def Vz {R:Type}(X:SD.D DS)(K:Ex→AS→Option R):=Pu.lA (fun y0=>ke 0 K DS ((z2 (u y0) X.1),X.2)) (fun y0 y1=>kr K DS ((z1 (w y0 (u y1)) X.1),X.2)) X.1.1 X.1.2.1 X.2.1.1
def acq:aI:=bX DS Vz q2
def aeE:aN:=(aN.nil).add 4 acq
theorem aaz:bT E apt ajC aeE (ah Tryz.f256 0):=lk DS Vz q2 fun X x=>((z2 (u x) X.1),X.2)
theorem akE:ai Tryz.prog 256 af9:=fk ajC ((base.add ji).add asB) Tryz.func256 (Λ:=aeE) (cF aaz nF)
def afM:al:=ae [pf cH,pI] [rB] (c2 Pu.iR)
def ahc:aJ:=((aJ.nil.add 254 Zl).add 255 af8).add 256 af9
def adg:An:={mask:=mk [(4,[1,2,4,5]),(9,[1,2,4,6])],merge:=mg [(1,23)]}
@[reducible] def Du:SD:=⟨B::DI::.ptr 2 0::B::DB::DI::bs 50 [],Z::Z::(some Y20)::zs 53 [],.none⟩
def U4 {R:Type}(X:SD.D Du)(K:Ex→AS→Option R):=Pu.iv (fun y0=>ke 0 K Du ((z2 (u y0) X.1),X.2)) (fun y0 y1=>kr K Du ((z1 (w y0 (u y1)) X.1),X.2)) X.1.1 X.1.2.1 X.2.1.1
def abT:aI:=bX Du U4 q2
@[reducible] def Dv:SD:=⟨B::DI::.ptr 2 0::B::DB::B::DI::bs 49 [],Z::Z::(some Y20)::zs 53 [],.none⟩
def U5 {R:Type}(X:SD.D Dv)(K:Ex→AS→Option R):=Pu.iw (fun y0=>ke 2 K Dv ((z2 (u y0) X.1),X.2)) (fun y0 y1=>kr K Dv ((z1 (w y0 (u y1)) X.1),X.2)) X.1.1 X.1.2.1 X.2.1.1
def abU:aI:=bX Dv U5 q2
def YM:aN:=((aN.nil).add 4 abT).add 9 abU
theorem Z4:bT E ahc adg YM (ah Tryz.f161 0):=lk Du U4 q2 fun X x=>((z2 (u x) X.1),X.2)
theorem Z5:bT E ahc adg YM (ah Tryz.f161 1):=lk Dv U5 q2 fun X x=>((z2 (u x) X.1),X.2)
theorem akj:ai Tryz.prog 161 afM:=fk adg (((base.add akC).add akD).add akE) Tryz.func161 (Λ:=YM) (cF Z4 (cF Z5 nF))
def alR:al:=ae [pf dZ] [rB] (c1 Pu.kD)
theorem akl:ai Tryz.prog 166 alR:=f0 {merge:=mg [(1,18),(4,2),(5,2)]} (base.add ji) Tryz.func166
def e75:al:=ae [pf a8] [rB] (c1 Pu.cR)
theorem Xj:ai Tryz.prog 75 e75:=f0 {merge:=mg [(1,55),(3,3),(4,2)]} ((base.add ji).add akl) Tryz.func75
def amR:al:=ae [pf cr] [rB] (c1 Pu.lx)
theorem akF:ai Tryz.prog 257 amR:=f0 {merge:=mg [(1,2)]} ((base.add ji).add adv) Tryz.func257
def afN:al:=ae [pf aG] [rB] (c1 Pu.sJ)
theorem adn:ai Tryz.prog 162 afN:=f0 {merge:=mg [(1,42),(5,2)]} ((((base.add Xj).add ji).add Xg).add akF) Tryz.func162
def amS:al:=ae [pf aZ] [rB] (c1 Pu.nC)
theorem akG:ai Tryz.prog 258 amS:=f0 {merge:=mg [(1,2)]} base Tryz.func258
def afO:al:=ae [pf aZ] [rB] (c1 Pu.gb)
theorem akk:ai Tryz.prog 164 afO:=f0 {merge:=mg [(1,24),(3,2)]} ((base.add ji).add akG) Tryz.func164
def e73:al:=ae [pf ba] [rB] (c1 Pu.qW)
def g73:aJ:=((((((((aJ.nil.add 150 Bf).add 157 Zc).add 158 Zd).add 159 afL).add 160 Ze).add 161 afM).add 162 afN).add 163 Zf).add 164 afO
def n73:An:={mask:=mk [(5,[1,2,3,4]),(11,[2,5,6])],merge:=mg [(2,64),(7,94)]}
@[reducible] def Ky:SD:=⟨B::.ptr 1 0::DB::DI::DI::bs 118 [],Z::(some Y3)::zs 121 [],.none⟩
def Yy {R:Type}(X:SD.D Ky)(K:Ex→AS→Option R):=Pu.o4 (fun y0=>ke 0 K Ky ((z2 (u y0) X.1),X.2)) (fun y0 y1=>kr K Ky ((w y0 (z1 (u y1)) X.1),X.2)) X.1.1 X.1.2.1 X.2.1.1
def aiz:aI:=bX Ky Yy q2
@[reducible] def D6:SD:=⟨B::B::DB::B::B::.data false (.sl (.own (some 61440)) (.int .i64))::DI::bs 116 [],zs 123 [],.none⟩
def Wg {R:Type}(X:SD.D D6)(K:Ex→AS→Option R):=Pu.mS (fun y0=>ke 2 K D6 ((z2 (u y0) X.1),X.2)) (fun y0 y1=>kr K D6 ((w y0 (z1 (u y1)) X.1),X.2)) X.1.1 X.1.2.1
def ac8:aI:=bX D6 Wg q2
def L73:aN:=((aN.nil).add 5 aiz).add 11 ac8
theorem ahR:bT E g73 n73 L73 (ah Tryz.f73 0):=lk Ky Yy q2 fun X x=>((z2 (u x) X.1),X.2)
theorem abg:bT E g73 n73 L73 (ah Tryz.f73 1):=lk D6 Wg q2 fun X x=>((z2 (u x) X.1),X.2)
theorem o73:ai Tryz.prog 73 e73:=fk n73 (((((((((base.add ji).add adm).add aki).add aqN).add Xe).add akj).add adn).add ado).add akk) Tryz.func73 (Λ:=L73) (cF ahR (cF abg nF))
def alQ:al:=ae [pd (.sl (.int .i64)),pd (.sl (.int .i64))] [rB] (c2 Pu.AK)
def ao4:aJ:=aJ.nil
def ajd:An:={mask:=mk [(4,[0,1,4,5])]}
@[reducible] def Dx:SD:=⟨.data false (.sl .arg (.int .i64))::.data false (.sl .arg (.int .i64))::B::B::DB::DI::bs 20 [],zs 26 [],.none⟩
def U7 {R:Type}(X:SD.D Dx)(K:Ex→AS→Option R):=Pu.wQ (fun y0=>ke 0 K Dx ((z3 (u y0) X.1),X.2)) (fun y0 y1=>kr K Dx ((z2 (w y0 (u y1)) X.1),X.2)) X.1.1 X.1.2.1 (q2 X)
def abW:aI:=bX Dx U7 q3
def aef:aN:=(aN.nil).add 4 abW
theorem Z7:bT E ao4 ajd aef (ah Tryz.f165 0):=lk Dx U7 q3 fun X x=>((z3 (u x) X.1),X.2)
theorem aqO:ai Tryz.prog 165 alQ:=fk ajd base Tryz.func165 (Λ:=aef) (cF Z7 nF)
def e74:al:=ae [pf dc,pf dc] [rB] (c2 Pu.nh)
theorem o74:ai Tryz.prog 74 e74:=f0 {merge:=mg [(1,4)]} (base.add aqO) Tryz.func74
def e24:al:=ae [pf bU] [rB] (c1 Pu.um)
def g24:aJ:=(((((aJ.nil.add 69 e69).add 70 e70).add 71 e71).add 72 e72).add 73 e73).add 74 e74
def n24:An:={mask:=mk [(6,[1,2,5,6])],merge:=mg [(3,50),(8,99)]}
@[reducible] def Ki:SD:=⟨B::.ptr 1 0::DB::B::B::DI::DI::bs 93 [],Z::(some Y12)::zs 98 [],.none⟩
def X6 {R:Type}(X:SD.D Ki)(K:Ex→AS→Option R):=Pu.oY (fun y0=>ke 0 K Ki ((z2 (u y0) X.1),X.2)) (fun y0 y1=>kr K Ki ((w y0 (z1 (u y1)) X.1),X.2)) X.1.1 X.1.2.1 X.2.1.1
def ah6:aI:=bX Ki X6 q2
def L24:aN:=(aN.nil).add 6 ah6
theorem ahp:bT E g24 n24 L24 (ah Tryz.f24 0):=lk Ki X6 q2 fun X x=>((z2 (u x) X.1),X.2)
theorem o24:ai Tryz.prog 24 e24:=fk n24 ((((((base.add o69).add o70).add o71).add o72).add o73).add o74) Tryz.func24 (Λ:=L24) (cF ahp nF)
def e77:al:=ae [pd (.sl de),pI,pf a8] [rI] (c3 Pu.ky)
theorem o77:ai Tryz.prog 77 e77:=f0 {merge:=mg [(1,23),(6,61)]} ((((base.add Xj).add ji).add Xd).add Ro) Tryz.func77
def e76:al:=ae [pd (.sl de),pI,pf a8] [(false,(.sl (.own none) (.int .i64)))] (c3 Pu.jF)
def g76:aJ:=(aJ.nil.add 77 e77).add 167 WA
def n76:An:={mask:=mk [(7,[0,1,5,7,8,9,10]),(12,[0,1,5,7,8,9,11])],merge:=mg [(14,62)],mv:=[19,63,67]}
@[reducible] def Pk:SD:=⟨.data false (.sl .arg de)::DI::B::B::B::.ptr 5 0::B::.data false (.sl (.own (some 86016)) (.int .i64))::DI::DI::DI::bs 57 [],zs 5 ((some Y0)::zs 62 []),.none⟩
def Yz {R:Type}(X:SD.D Pk)(K:Ex→AS→Option R):=Pu.fP (fun y0 y1=>ke 0 K Pk ((z4 (w y0 (u y1)) X.1),X.2)) X.1.1 X.1.2.1 (q2 X) (q3 X) X.2.1.1
def aiA:aI:=bX Pk Yz (fun X=>(q4 X,q5 X))
@[reducible] def IS:SD:=⟨.data false (.sl .arg de)::DI::B::B::B::.ptr 5 0::B::.data false (.sl (.own (some 86016)) (.int .i64))::DI::DI::B::DI::bs 56 [],zs 5 ((some Y0)::zs 62 []),.none⟩
def Wh {R:Type}(X:SD.D IS)(K:Ex→AS→Option R):=Pu.eU (fun y0 y1=>ke 2 K IS ((z2 (w y0 (z2 (u y1))) X.1),X.2)) X.1.1 X.1.2.1 (q3 X) (q4 X) X.2.1.1
def ac9:aI:=bX IS Wh (fun X=>(q2 X,q5 X))
def L76:aN:=((aN.nil).add 7 aiA).add 12 ac9
theorem ahS:bT E g76 n76 L76 (ah Tryz.f76 0):=lk Pk Yz (fun X=>(q4 X,q5 X)) fun X x=>((z4 (w x.1 (u x.2)) X.1),X.2)
theorem abh:bT E g76 n76 L76 (ah Tryz.f76 1):=lk IS Wh (fun X=>(q2 X,q5 X)) fun X x=>((z2 (w x.1 (z2 (u x.2))) X.1),X.2)
theorem o76:ai Tryz.prog 76 e76:=fk n76 ((base.add o77).add Ro) Tryz.func76 (Λ:=L76) (cF ahS (cF abh nF))
def e25:al:=ae [pf a8] [rB] (c1 Pu.ga)
theorem o25:ai Tryz.prog 25 e25:=f0 {merge:=mg [(1,2)]} (base.add Xj) Tryz.func25
def anN:al:=ae [pI] [rS] (c1 Pu.aL)
theorem LU:ai Tryz.prog 336 anN:=f0 {} (base.add ji) Tryz.func336
def anO:al:=ae [pI,pI,pI,pI] [rS,rB] (c4 Pu.fO)
theorem asC:ai Tryz.prog 337 anO:=f0 {merge:=mg [(1,27)]} (((base.add ji).add LS).add LU) Tryz.func337
def agM:al:=ae [pI,pI] [rI] (c2 Pu.fK)
theorem atq:ai Tryz.prog 401 agM:=f0 {merge:=mg [(1,12)]} (base.add ji) Tryz.func401
def aoi:al:=ae [pd .str] [rI] (c1 Pu.qw)
def apN:aJ:=aJ.nil.add 401 agM
def ajW:An:={mask:=mk [(3,[0,3,4])]}
@[reducible] def Iy:SD:=⟨.data false .str::B::B::DI::DI::bs 28 [],zs 33 [],.none⟩
def VW {R:Type}(X:SD.D Iy)(K:Ex→AS→Option R):=Pu.lD (fun y0 y1=>ke 0 K Iy ((z1 (w y0 (u y1)) X.1),X.2)) X.1.1
def acO:aI:=bX Iy VW (fun X=>(X.1.2.1,q2 X))
def aeY:aN:=(aN.nil).add 3 acO
theorem aaW:bT E apN ajW aeY (ah Tryz.f377 0):=lk Iy VW (fun X=>(X.1.2.1,q2 X)) fun X x=>((z1 (w x.1 (u x.2)) X.1),X.2)
theorem as6:ai Tryz.prog 377 aoi:=fk ajW (base.add atq) Tryz.func377 (Λ:=aeY) (cF aaW nF)
def anP:al:=ae [pd .str] [rI] (c1 Pu.jd)
theorem ak4:ai Tryz.prog 338 anP:=f0 {} (base.add as6) Tryz.func338
def agx:al:=ae [pd .str,pI,pd .str] [rS] (c3 Pu.dB)
theorem adw:ai Tryz.prog 339 agx:=f0 {} (base.add adu) Tryz.func339
def amT:al:=ae [pI,pI,pf dZ] [rS,rB] (c3 Pu.dM)
theorem akH:ai Tryz.prog 259 amT:=f0 {merge:=mg [(14,82)]} ((((((base.add akl).add LS).add LU).add asC).add ak4).add adw) Tryz.func259
def aoj:al:=ae [pf XQ] [rB] (c1 Pu.xZ)
theorem as7:ai Tryz.prog 378 aoj:=f0 {merge:=mg [(1,2)]} (base.add ji) Tryz.func378
def anQ:al:=ae [pf XQ] [rS,rB] (c1 Pu.qu)
theorem asD:ai Tryz.prog 340 anQ:=f0 {} (((((base.add LS).add LU).add ak4).add adw).add as7) Tryz.func340
def amU:al:=ae [pf XQ] [rS,rB] (c1 Pu.oW)
theorem akI:ai Tryz.prog 260 amU:=f0 {} (base.add asD) Tryz.func260
def anF:al:=ae [pf Qs] [rB] (c1 Pu.pL)
theorem ak0:ai Tryz.prog 324 anF:=f0 {merge:=mg [(1,2)]} (base.add ji) Tryz.func324
def anR:al:=ae [pI] [rS] (c1 Pu.dU)
theorem asE:ai Tryz.prog 341 anR:=f0 {} ((base.add LS).add LU) Tryz.func341
def amV:al:=ae [pf Qs] [rS,rB] (c1 Pu.qo)
theorem arR:ai Tryz.prog 261 amV:=f0 {} (((base.add ak0).add LU).add asE) Tryz.func261
def anS:al:=ae [pI,pd (.int .u8)] [rS] (c2 Pu.so)
def apG:aJ:=aJ.nil
def ajP:An:={mask:=mk [(3,[0,1,5,6])]}
@[reducible] def Is:SD:=⟨DI::.data false (.int .u8)::B::B::B::.data false (.sl (.own (some 61440)) (.int .u8))::DI::bs 13 [],zs 20 [],.none⟩
def VP {R:Type}(X:SD.D Is)(K:Ex→AS→Option R):=Pu.mX (fun y0 y1=>ke 0 K Is ((z2 (w y0 (u y1)) X.1),X.2)) X.1.1 X.1.2.1
def acH:aI:=bX Is VP (fun X=>(q2 X,q3 X))
def aeR:aN:=(aN.nil).add 3 acH
theorem aaP:bT E apG ajP aeR (ah Tryz.f342 0):=lk Is VP (fun X=>(q2 X,q3 X)) fun X x=>((z2 (w x.1 (u x.2)) X.1),X.2)
theorem asF:ai Tryz.prog 342 anS:=fk ajP base Tryz.func342 (Λ:=aeR) (cF aaP nF)
def amW:al:=ae [pd .str] [rS] (c1 Pu.sm)
theorem arS:ai Tryz.prog 262 amW:=f0 {} (base.add asF) Tryz.func262
def alS:al:=ae [pf a8] [rS,rB] (c1 Pu.iL)
theorem akm:ai Tryz.prog 168 alS:=f0 {} (((((base.add Xj).add akH).add akI).add arR).add arS) Tryz.func168
def alT:al:=ae [pd .str] [rS] (c1 Pu.pn)
theorem akn:ai Tryz.prog 169 alT:=f0 {} (base.add akJ) Tryz.func169
def e78:al:=ae [pf a8] [rS,rB] (c1 Pu.mP)
theorem o78:ai Tryz.prog 78 e78:=f0 {} (((base.add o25).add akm).add akn) Tryz.func78
def e79:al:=ae [pd (.sl de),pI,pI,pf a8] [(true,Y0)] (c4 Pu.lu)
theorem o79:ai Tryz.prog 79 e79:=f0 {merge:=mg [(1,34)]} ((((base.add Xj).add ji).add Xd).add Ro) Tryz.func79
def alA:al:=ae [pd .str] [rS,rB] (c1 Pu.qp)
theorem aqt:ai Tryz.prog 131 alA:=f0 {merge:=mg [(1,16)]} (base.add akn) Tryz.func131
def amE:al:=ae [pd .str] [(true,Y13),rB] (c1 Pu.qv)
theorem arC:ai Tryz.prog 236 amE:=f0 {sb:=mg [(4,4)]} (((base.add TJ).add TL).add ak0) Tryz.func236
def amF:al:=ae [pd .str] [(true,Y22),rB] (c1 Pu.sn)
theorem arD:ai Tryz.prog 237 amF:=f0 {merge:=mg [(2,22),(6,56)],sb:=mg [(5,5)]} (((base.add TJ).add akI).add TL) Tryz.func237
def amG:al:=ae [pI,pI,pI,pd .str] [(true,(.pair (.int .i64) Y22)),rB] (c4 Pu.jE)
theorem arE:ai Tryz.prog 238 amG:=f0 {merge:=mg [(3,20),(9,44),(12,68)]} (((base.add TJ).add akH).add TL) Tryz.func238
def alB:al:=ae [pd .str] [(true,Y0),rI] (c1 Pu.pg)
theorem aqu:ai Tryz.prog 132 alB:=f0 {merge:=mg [(2,20)]} ((((base.add Xj).add arC).add arD).add arE) Tryz.func132
def e63:al:=ae [pd .str] [(true,Y0),rI] (c1 Pu.kB)
theorem o63:ai Tryz.prog 63 e63:=f0 {} (((base.add o25).add aqt).add aqu) Tryz.func63
def alU:al:=ae [pf dc,pf a8] [rB] (c2 Pu.sf)
theorem aqP:ai Tryz.prog 170 alU:=f0 {merge:=mg [(1,4)]} ((base.add Xe).add Ro) Tryz.func170
def aok:al:=ae [pf bH,pf a8] [rB] (c2 Pu.rA)
theorem as8:ai Tryz.prog 379 aok:=f0 {merge:=mg [(1,4)]} (base.add ji) Tryz.func379
def agy:al:=ae [pf bH,pf a8] [rB] (c2 Pu.ly)
theorem asG:ai Tryz.prog 343 agy:=f0 {merge:=mg [(1,4)]} (((base.add Xj).add ak2).add as8) Tryz.func343
def amY:al:=ae [pd (.sl bH),pf a8] [rI] (c2 Pu.qs)
def apu:aJ:=(aJ.nil.add 254 Zl).add 343 agy
def ajD:An:={mask:=mk [(3,[0,3,5,6])],merge:=mg [(3,14),(5,39)]}
@[reducible] def Il:SD:=⟨.data false (.sl .arg bH)::B::B::.ptr 3 0::B::DI::DI::bs 35 [],Z::Z::Z::(some Y0)::zs 38 [],.none⟩
def VC {R:Type}(X:SD.D Il)(K:Ex→AS→Option R):=Pu.gZ (fun y0 y1=>ke 0 K Il ((z1 (w y0 (u y1)) X.1),X.2)) X.1.1 X.2.1.1
def acu:aI:=bX Il VC (fun X=>(X.1.2.1,q2 X))
def aeF:aN:=(aN.nil).add 3 acu
theorem aaC:bT E apu ajD aeF (ah Tryz.f264 0):=lk Il VC (fun X=>(X.1.2.1,q2 X)) fun X x=>((z1 (w x.1 (u x.2)) X.1),X.2)
theorem arT:ai Tryz.prog 264 amY:=fk ajD ((base.add akC).add asG) Tryz.func264 (Λ:=aeF) (cF aaC nF)
def amZ:al:=ae [pf (.sl bn),pf cW] [rI] (c2 Pu.qq)
theorem arU:ai Tryz.prog 265 amZ:=f0 {} ((base.add akD).add ak3) Tryz.func265
def am0:al:=ae [pf a8] [(true,(.pair (.int .i64) Y1))] (c1 Pu.qV)
theorem akK:ai Tryz.prog 266 am0:=f0 {} base Tryz.func266
def Zq:al:=ae [pd .str,pI] [rI] (c2 Pu.qX)
theorem ali:ai Tryz.prog 418 Zq:=f0 {} base Tryz.func418
def agS:al:=ae [pd .str,pI] [rI] (c2 Pu.o7)
def ap1:aJ:=(aJ.nil.add 150 Bf).add 418 Zq
def aka:An:={mask:=mk [(5,[0,1,5,6])],merge:=mg [(1,14)]}
@[reducible] def IQ:SD:=⟨.data false .str::DI::B::B::B::DI::DI::bs 21 [],zs 28 [],.none⟩
def Wd {R:Type}(X:SD.D IQ)(K:Ex→AS→Option R):=Pu.jD (fun y0 y1=>ke 0 K IQ ((z2 (w y0 (u y1)) X.1),X.2)) X.1.1 X.1.2.1
def ac5:aI:=bX IQ Wd (fun X=>(q2 X,q3 X))
def afc:aN:=(aN.nil).add 5 ac5
theorem abd:bT E ap1 aka afc (ah Tryz.f419 0):=lk IQ Wd (fun X=>(q2 X,q3 X)) fun X x=>((z2 (w x.1 (u x.2)) X.1),X.2)
theorem atD:ai Tryz.prog 419 agS:=fk aka ((base.add ji).add ali) Tryz.func419 (Λ:=afc) (cF abd nF)
def aoA:al:=ae [pd .str,pd .str] [rI] (c2 Pu.oZ)
def apV:aJ:=(aJ.nil.add 418 Zq).add 419 agS
def aj4:An:={mask:=mk [(5,[0,1,5,6])],merge:=mg [(1,14)]}
@[reducible] def IH:SD:=⟨.data false .str::.data false .str::B::B::B::DI::DI::bs 25 [],zs 32 [],.none⟩
def V5 {R:Type}(X:SD.D IH)(K:Ex→AS→Option R):=Pu.jC (fun y0 y1=>ke 0 K IH ((z2 (w y0 (u y1)) X.1),X.2)) X.1.1 X.1.2.1
def acX:aI:=bX IH V5 (fun X=>(q2 X,q3 X))
def ae6:aN:=(aN.nil).add 5 acX
theorem aa5:bT E apV aj4 ae6 (ah Tryz.f402 0):=lk IH V5 (fun X=>(q2 X,q3 X)) fun X x=>((z2 (w x.1 (u x.2)) X.1),X.2)
theorem atr:ai Tryz.prog 402 aoA:=fk aj4 ((base.add ali).add atD) Tryz.func402 (Λ:=ae6) (cF aa5 nF)
def aoB:al:=ae [pf cW] [rS] (c1 Pu.o3)
theorem ats:ai Tryz.prog 403 aoB:=f0 {} ((base.add LS).add LU) Tryz.func403
def aol:al:=ae [pd .str,pf cW] [rI] (c2 Pu.mw)
theorem alb:ai Tryz.prog 380 aol:=f0 {} ((base.add atr).add ats) Tryz.func380
def anT:al:=ae [pf eR,pf cW] [rI] (c2 Pu.sj)
theorem asH:ai Tryz.prog 344 anT:=f0 {merge:=mg [(2,17)]} (base.add alb) Tryz.func344
def am1:al:=ae [pf eR,pI,pf cW] [rI] (c3 Pu.lB)
theorem arV:ai Tryz.prog 267 am1:=f0 {merge:=mg [(2,18)]} ((base.add akE).add asH) Tryz.func267
def alV:al:=ae [pf cH,pI,pf a8] [rI] (c3 Pu.lC)
theorem aqQ:ai Tryz.prog 171 alV:=f0 {merge:=mg [(1,17)]} ((((((base.add Xj).add akj).add arT).add arU).add akK).add arV) Tryz.func171
def anU:al:=ae [pf a8,pf a8] [rB] (c2 Pu.mz)
theorem asI:ai Tryz.prog 345 anU:=f0 {} base Tryz.func345
def am2:al:=ae [pf lM,pf a8] [rB] (c2 Pu.oX)
theorem akL:ai Tryz.prog 268 am2:=f0 {merge:=mg [(1,41),(4,84),(6,4)]} ((((base.add o25).add Xj).add ji).add asI) Tryz.func268
def am3:al:=ae [pf lM,pf a8] [(true,Y23)] (c2 Pu.u6)
theorem arW:ai Tryz.prog 269 am3:=f0 {} (base.add akL) Tryz.func269
def agT:al:=ae [pd (.sl aB),pI,pI,pd .bool] [rI] (c4 Pu.sv)
def ap2:aJ:=aJ.nil
def akb:An:={mask:=mk [(2,[0,1,2,3,8,9])],merge:=mg [(4,42)]}
@[reducible] def D4:SD:=⟨.data false (.sl .arg aB)::DI::DI::DB::bs 4 (DI::DI::bs 38 []),zs 48 [],.none⟩
def We {R:Type}(X:SD.D D4)(K:Ex→AS→Option R):=Pu.mY (fun y0=>ke 0 K D4 ((z5 (u y0) X.1),X.2)) (fun y0 y1=>kr K D4 ((z4 (w y0 (u y1)) X.1),X.2)) X.1.1 X.1.2.1 (q2 X) (q3 X) (q4 X)
def ac6:aI:=bX D4 We q5
def afd:aN:=(aN.nil).add 2 ac6
theorem abe:bT E ap2 akb afd (ah Tryz.f420 0):=lk D4 We q5 fun X x=>((z5 (u x) X.1),X.2)
theorem atE:ai Tryz.prog 420 agT:=fk akb base Tryz.func420 (Λ:=afd) (cF abe nF)
def WD:al:=ae [pf (.sl .str),pI,pI] [rB] (c3 Pu.eP)
theorem adz:ai Tryz.prog 421 WD:=f0 {merge:=mg [(2,6)]} (base.add adm) Tryz.func421
def Zo:al:=ae [pd (.sl aB),pf (.sl .str),pI,pI,pI,pd .bool] [(false,(.sl (.own none) (.int .i64))),(false,(.sl (.own none) (.int .i64))),rB] (c6 Pu.mB)
def apW:aJ:=((((aJ.nil.add 150 Bf).add 157 Zc).add 158 Zd).add 420 agT).add 421 WD
def aj5:An:={mask:=mk [(5,[0,2,3,4,5,7,12,13,14,15,16])],merge:=mg [(3,34),(10,57)],mv:=[35,36,64,71,81,82]}
@[reducible] def D3:SD:=⟨.data false (.sl .arg aB)::B::DI::DI::DI::DB::B::.ptr 7 0::bs 4 (.data false (.sl (.own (some 147456)) (.int .i64))::.data false (.sl (.own (some 159744)) (.int .i64))::DB::.data false (.sl (.own (some 184320)) (.int .i64))::.data false (.sl (.own (some 196608)) (.int .i64))::bs 66 []),zs 7 ((some (.sl .arg .str))::zs 75 []),.none⟩
def V6 {R:Type}(X:SD.D D3)(K:Ex→AS→Option R):=Pu.eH (fun y0 y1 y2 y3=>ke 0 K D3 ((z2 (w y0 (w y1 (z4 (w y2 (u y3))))) X.1),X.2)) (fun y0 y1 y2 y3 y4 y5 y6=>kr K D3 ((z2 (w y0 (w y1 (z1 (w y2 (w y3 (w y4 (w y5 (u y6)))))))) X.1),X.2)) X.1.1 X.1.2.1 (q4 X) (q5 X) (q6 X) (q7 X) X.2.1.1
def acY:aI:=bX D3 V6 (fun X=>(q2 X,q3 X,q8 X,q9 X))
def ae7:aN:=(aN.nil).add 5 acY
theorem aa6:bT E apW aj5 ae7 (ah Tryz.f404 0):=lk D3 V6 (fun X=>(q2 X,q3 X,q8 X,q9 X)) fun X x=>((z2 (w x.1 (w x.2.1 (z4 (w x.2.2.1 (u x.2.2.2))))) X.1),X.2)
theorem alf:ai Tryz.prog 404 Zo:=fk aj5 (((((base.add ji).add adm).add aki).add atE).add adz) Tryz.func404 (Λ:=ae7) (cF aa6 nF)
def agN:al:=ae [pf (.sl .str),pI,pI] [rS,rB] (c3 Pu.iQ)
def apX:aJ:=aJ.nil.add 421 WD
def aj6:An:={mask:=mk [(4,[1,2,3,8])]}
@[reducible] def II:SD:=⟨B::DI::DI::.ptr 3 0::bs 4 (.data false .str::bs 35 []),Z::Z::Z::(some (.sl .arg .str))::zs 40 [],.none⟩
def V7 {R:Type}(X:SD.D II)(K:Ex→AS→Option R):=Pu.eO (fun y0 y1 y2=>ke 0 K II ((w y0 (w y1 (u y2)) X.1),X.2)) X.2.1.1
def acZ:aI:=bX II V7 (fun X=>(X.1.1,X.1.2.1,q2 X))
def ae8:aN:=(aN.nil).add 4 acZ
theorem aa7:bT E apX aj6 ae8 (ah Tryz.f405 0):=lk II V7 (fun X=>(X.1.1,X.1.2.1,q2 X)) fun X x=>((w x.1 (w x.2.1 (u x.2.2)) X.1),X.2)
theorem att:ai Tryz.prog 405 agN:=fk aj6 (base.add adz) Tryz.func405 (Λ:=ae8) (cF aa7 nF)
def aom:al:=ae [pd (.sl aB),pf (.sl .str),pI,pI,pI] [rS,rB] (c5 Pu.si)
def apO:aJ:=(aJ.nil.add 404 Zo).add 405 agN
def ajX:An:={mask:=mk [(6,[6,12,13,15,16])]}
@[reducible] def Iz:SD:=⟨bs 6 (.ptr 6 0::bs 5 (.data false (.sl .loc (.int .i64))::.data false (.sl .loc (.int .i64))::B::.data false .str::DI::bs 37 [])),zs 6 ((some (.sl .arg .str))::zs 47 []),.none⟩
def VX {R:Type}(X:SD.D Iz)(K:Ex→AS→Option R):=Pu.mQ (fun y0 y1=>ke 0 K Iz ((z2 (w y0 (u y1)) X.1),X.2)) X.1.1 X.1.2.1 X.2.1.1
def acP:aI:=bX Iz VX (fun X=>(q2 X,q3 X))
def aeZ:aN:=(aN.nil).add 6 acP
theorem aaX:bT E apO ajX aeZ (ah Tryz.f381 0):=lk Iz VX (fun X=>(q2 X,q3 X)) fun X x=>((z2 (w x.1 (u x.2)) X.1),X.2)
theorem as9:ai Tryz.prog 381 aom:=fk ajX ((base.add alf).add att) Tryz.func381 (Λ:=aeZ) (cF aaX nF)
def aon:al:=ae [pf cS,pI] [rI] (c2 Pu.lz)
theorem ata:ai Tryz.prog 382 aon:=f0 {merge:=mg [(1,11)]} (base.add Xg) Tryz.func382
def anV:al:=ae [pd (.sl aB),pf (.sl .str),pI,pf cS] [rS,(true,Y1),rB] (c4 Pu.mx)
theorem asJ:ai Tryz.prog 346 anV:=f0 {merge:=mg [(1,20)],sb:=mg [(9,9)]} ((((base.add Xg).add ak1).add as9).add ata) Tryz.func346
def aoI:al:=ae [pf Gi] [rB] (c1 Pu.uo)
theorem atF:ai Tryz.prog 422 aoI:=f0 {merge:=mg [(1,2)]} (base.add ji) Tryz.func422
def aoC:al:=ae [pf Gi] [rS] (c1 Pu.mR)
theorem atu:ai Tryz.prog 406 aoC:=f0 {} (((base.add LS).add LU).add atF) Tryz.func406
def aoo:al:=ae [pd .str] [(true,Y26),rB] (c1 Pu.iM)
theorem atb:ai Tryz.prog 383 aoo:=f0 {sb:=mg [(4,4)]} (((base.add TJ).add TL).add atu) Tryz.func383
def agO:al:=ae [pf (.sl .str),pI,pd .str] [(true,(.sl (.own none) .str)),rB] (c3 Pu.lE)
def apY:aJ:=((aJ.nil.add 145 Wz).add 339 agx).add 421 WD
def aj7:An:={mask:=mk [(4,[1,2,6,8])],mv:=[19,52]}
@[reducible] def IJ:SD:=⟨B::DI::.data false .str::B::B::B::.ptr 6 0::B::.ptr 8 0::bs 44 [],zs 6 ((some (.sl (.own (some 73729)) .str))::Z::(some (.sl (.own (some 98305)) .str))::zs 44 []),.none⟩
def V8 {R:Type}(X:SD.D IJ)(K:Ex→AS→Option R):=Pu.gz (fun y0 y1 y2=>ke 0 K IJ ((w y0 (u y1) X.1),(z1 (u y2) X.2.1),X.2.2)) X.2.1.1
def ac0:aI:=bX IJ V8 (fun X=>(X.1.1,X.1.2.1,X.2.1.2.1))
def ae9:aN:=(aN.nil).add 4 ac0
theorem aa8:bT E apY aj7 ae9 (ah Tryz.f407 0):=lk IJ V8 (fun X=>(X.1.1,X.1.2.1,X.2.1.2.1)) fun X x=>((w x.1 (u x.2.1) X.1),(z1 (u x.2.2) X.2.1),X.2.2)
theorem atv:ai Tryz.prog 407 agO:=fk aj7 (((base.add Of).add adw).add adz) Tryz.func407 (Λ:=ae9) (cF aa8 nF)
def aop:al:=ae [pd (.sl aB),pf (.sl .str),pI,pI,pd .str] [(true,(.sl (.own none) .str)),rB] (c5 Pu.mu)
def apP:aJ:=((aJ.nil.add 145 Wz).add 404 Zo).add 407 agO
def ajY:An:={mask:=mk [(6,[4,10,12,13,15,16])],mv:=[32,39,52,60],sb:=mg [(15,15)]}
@[reducible] def IA:SD:=⟨bs 4 (.data false .str::bs 5 (.ptr 10 0::B::.data false (.sl .loc (.int .i64))::.data false (.sl .loc (.int .i64))::B::.ptr 15 0::DI::bs 44 [])),zs 10 ((some (.sl (.own (some 122881)) .str))::zs 4 ((some (.sl (.own (some 184321)) .str))::zs 45 [])),.none⟩
def VY {R:Type}(X:SD.D IA)(K:Ex→AS→Option R):=Pu.gY (fun y0 y1 y2=>ke 0 K IA ((w y0 (z2 (u y1)) X.1),(z1 (u y2) X.2.1),X.2.2)) X.1.2.1 (q2 X) X.2.1.1
def acQ:aI:=bX IA VY (fun X=>(X.1.1,q3 X,X.2.1.2.1))
def ae0:aN:=(aN.nil).add 6 acQ
theorem aaY:bT E apP ajY ae0 (ah Tryz.f384 0):=lk IA VY (fun X=>(X.1.1,q3 X,X.2.1.2.1)) fun X x=>((w x.1 (z2 (u x.2.1)) X.1),(z1 (u x.2.2) X.2.1),X.2.2)
theorem alc:ai Tryz.prog 384 aop:=fk ajY (((base.add Of).add alf).add atv) Tryz.func384 (Λ:=ae0) (cF aaY nF)
def aoD:al:=ae [pf cW] [rB] (c1 Pu.jB)
theorem alg:ai Tryz.prog 408 aoD:=f0 {merge:=mg [(1,2)]} (base.add ji) Tryz.func408
def aoE:al:=ae [pf cW,pI] [rS] (c2 Pu.jm)
theorem atw:ai Tryz.prog 409 aoE:=f0 {merge:=mg [(1,12)]} ((((base.add ji).add LS).add LU).add alg) Tryz.func409
def aoF:al:=ae [pf cr] [rI] (c1 Pu.qx)
theorem atx:ai Tryz.prog 410 aoF:=f0 {} base Tryz.func410
def aoq:al:=ae [pd (.sl aB),pf (.sl .str),pI,pf cr,pf cW] [(true,(.sl (.own none) .str)),(true,Y4),rB] (c5 Pu.ir)
theorem atc:ai Tryz.prog 385 aoq:=f0 {merge:=mg [(1,22)],mv:=[26,44,59],mb:=mg [(59,13)],sb:=mg [(10,10),(11,11),(13,13)]} ((((((base.add Of).add akF).add alc).add alg).add atw).add atx) Tryz.func385
def anW:al:=ae [pd (.sl aB),pf (.sl .str),pI,pf aG,pd .str,pd .str] [(true,(.sl (.own none) .str)),(true,Y4),rB] (c6 Pu.qy)
theorem asK:ai Tryz.prog 347 anW:=f0 {merge:=mg [(3,46)],mv:=[90],sb:=mg [(12,12),(13,13)]} (((((((base.add Of).add akm).add akK).add alb).add atb).add alc).add atc) Tryz.func347
def am4:al:=ae [pd (.sl aB),pf (.sl .str),pI,pf aG,pd .str] [(true,(.sl (.own none) .str)),(true,Y14)] (c5 Pu.kz)
theorem arX:ai Tryz.prog 270 am4:=f0 {merge:=mg [(1,30),(5,58)],mv:=[44,75],mb:=mg [(75,15)],sb:=mg [(10,10),(11,11)]} ((((base.add Of).add adn).add asJ).add asK) Tryz.func270
def am5:al:=ae [pf a8] [(true,Y23)] (c1 Pu.xt)
theorem arY:ai Tryz.prog 271 am5:=f0 {} base Tryz.func271
def alW:al:=ae [pd (.sl aB),pf (.sl .str),pI,pf aG,pd .str,pf a8,pd .bool] [(true,(.sl (.own none) .str)),(true,Y14)] (c7 Pu.iu)
theorem aqR:ai Tryz.prog 172 alW:=f0 {merge:=mg [(1,29),(3,43)],mv:=[52,67,76],mb:=mg [(76,16)],sb:=mg [(14,14),(15,15)]} (((((((base.add o25).add Of).add adn).add akL).add arW).add arX).add arY) Tryz.func172
def anX:al:=ae [pf aZ] [(true,Y15)] (c1 Pu.qz)
theorem asL:ai Tryz.prog 348 anX:=f0 {} (base.add akG) Tryz.func348
def aga:al:=ae [pf aZ] [(true,Y15)] (c1 Pu.ql)
theorem arZ:ai Tryz.prog 272 aga:=f0 {} ((base.add akk).add asL) Tryz.func272
def alX:al:=Ed ba [pI,pI] [] fun x a=>Pu.g6 x a.1 a.2.1
def ahd:aJ:=aJ.nil.add 272 aga
def ajf:An:={mask:=mk [(2,[0,1,6,7])]}
@[reducible] def H7:SD:=⟨.ptr 0 0::DI::bs 4 (DI::DI::bs 42 []),(some Y7)::zs 49 [],.ptr⟩
def U9 {R:Type}(X:SD.D H7)(K:Ex→AS→Option R):=Pu.jG (fun y0 y1=>ke 0 K H7 ((z2 (u y0) X.1),(u y1 X.2.1),X.2.2)) X.1.1 X.1.2.1
def abY:aI:=bX H7 U9 (fun X=>(q2 X,X.2.1.1))
def aeh:aN:=(aN.nil).add 2 abY
theorem Z9:bT E ahd ajf aeh (ah Tryz.f173 0):=lk H7 U9 (fun X=>(q2 X,X.2.1.1)) fun X x=>((z2 (u x.1) X.1),(u x.2 X.2.1),X.2.2)
theorem aqS:ai Tryz.prog 173 alX:=ai.TM (SQ (Γ:=ahd) (an:=ajf) (Λ:=aeh) (base.add arZ) Tryz.func173 (by kernel_rfl) (hF (by kernel_rfl) (cF Z9 nF))) (fun x a=>by kernel_rfl)
def e80:al:=ae [pf ba,pd .str] [(true,Y2)] (c2 Pu.lr)
theorem o80:ai Tryz.prog 80 e80:=f0 {mv:=[16,36,48,64,71,89,91,107],sb:=mg [(9,9),(10,10)]} (((((((base.add o63).add o67).add o73).add aqP).add aqQ).add aqR).add aqS) Tryz.func80
def e26:al:=Ed bU [pI,pf a8] [] fun x a=>Pu.kE x a.1 a.2.1
def g26:aJ:=(((((aJ.nil.add 69 e69).add 76 e76).add 77 e77).add 78 e78).add 79 e79).add 80 e80
def n26:An:={mask:=mk [(5,[0,5,6,8,9,10])],mv:=[13,56]}
@[reducible] def O6:SD:=⟨.ptr 0 0::bs 4 (.ptr 5 0::.data false (.sl (.own (some 73728)) de)::B::.data false (.sl (.own (some 98304)) (.int .i64))::DI::DI::bs 74 []),(some (.pair (.sl (.own (some 1)) ba) (.pair (.sl (.own (some 4)) ak) (.pair (.sl (.own (some 7)) aE) (.pair (.sl (.own (some 10)) .str) (.pair Y1 (.pair (.sl (.own (some 25)) (.int .i64)) (.sl (.own (some 28)) .str))))))))::zs 4 ((some Y0)::zs 79 []),.ptr⟩
def X7 {R:Type}(X:SD.D O6)(K:Ex→AS→Option R):=Pu.fQ (fun y0 y1=>ke 0 K O6 ((z3 (u y0) X.1),(u y1 X.2.1),X.2.2)) X.1.1 X.1.2.1 (q2 X) X.2.1.2.1
def ah7:aI:=bX O6 X7 (fun X=>(q3 X,X.2.1.1))
def L26:aN:=(aN.nil).add 5 ah7
theorem ahq:bT E g26 n26 L26 (ah Tryz.f26 0):=lk O6 X7 (fun X=>(q3 X,X.2.1.1)) fun X x=>((z3 (u x.1) X.1),(u x.2 X.2.1),X.2.2)
theorem o26:ai Tryz.prog 26 e26:=ai.TM (SQ (Γ:=g26) (an:=n26) (Λ:=L26) ((((((base.add o69).add o76).add o77).add o78).add o79).add o80) Tryz.func26 (by kernel_rfl) (hF (by kernel_rfl) (cF ahq nF))) (fun x a=>by kernel_rfl)
def e14:al:=ae [pf bU,pd .str] [(true,Y5)] (c2 Pu.ln)
theorem o14:ai Tryz.prog 14 e14:=f0 {mv:=[13,15,31]} ((((base.add o23).add o24).add o26).add o63) Tryz.func14
def e84:al:=ae [pd (.sl ak)] [(false,(.sl (.own none) ak))] (c1 Pu.ig)
theorem o84:ai Tryz.prog 84 e84:=f0 {} base Tryz.func84
def e87:al:=ae [pd (.sl (.int .i64))] [(false,(.sl (.own none) (.int .i64)))] (c1 Pu.da)
theorem o87:ai Tryz.prog 87 e87:=f0 {} base Tryz.func87
def afT:al:=ae [pf dc] [(true,YS)] (c1 Pu.iI)
theorem akp:ai Tryz.prog 191 afT:=f0 {mv:=[7]} (base.add o87) Tryz.func191
def afP:al:=ae [pf aE] [(true,(.pair YS Y4))] (c1 Pu.k5)
theorem aq4:ai Tryz.prog 186 afP:=f0 {mv:=[7]} (base.add akp) Tryz.func186
def e85:al:=ae [pd (.sl aE)] [(false,(.sl (.own none) aE))] (c1 Pu.n0)
def g85:aJ:=aJ.nil.add 186 afP
def n85:An:={mask:=mk [(3,[3,7,8,9])],mv:=[13,19]}
@[reducible] def Pm:SD:=⟨B::B::B::.data false (.sl (.own (some 36864)) aE)::B::B::B::.data false (.sl .arg aE)::DI::DI::bs 10 [],zs 20 [],.none⟩
def YA {R:Type}(X:SD.D Pm)(K:Ex→AS→Option R):=Pu.ju (fun y0 y1=>ke 0 K Pm ((w y0 (z2 (u y1)) X.1),X.2)) X.1.2.1 (q2 X)
def aiB:aI:=bX Pm YA (fun X=>(X.1.1,q3 X))
def L85:aN:=(aN.nil).add 3 aiB
theorem ahT:bT E g85 n85 L85 (ah Tryz.f85 0):=lk Pm YA (fun X=>(X.1.1,q3 X)) fun X x=>((w x.1 (z2 (u x.2)) X.1),X.2)
theorem o85:ai Tryz.prog 85 e85:=fk n85 (base.add aq4) Tryz.func85 (Λ:=L85) (cF ahT nF)
def e88:al:=ae [pd (.sl .str)] [(false,(.sl (.own none) .str))] (c1 Pu.cY)
theorem o88:ai Tryz.prog 88 e88:=f0 {} base Tryz.func88
def e86:al:=ae [pf (.sl .str)] [(true,(.sl (.own none) .str))] (c1 Pu.sW)
theorem o86:ai Tryz.prog 86 e86:=f0 {} (base.add o88) Tryz.func86
def WB:al:=ae [pf (.sl .str)] [(true,(.sl (.own none) .str))] (c1 Pu.bF)
theorem Rp:ai Tryz.prog 187 WB:=f0 {} (base.add o88) Tryz.func187
def afQ:al:=ae [pd (.sl aB)] [(false,(.sl (.own none) aB))] (c1 Pu.n4)
theorem aq5:ai Tryz.prog 188 afQ:=f0 {} base Tryz.func188
def afS:al:=ae [pf bN] [(true,Y9)] (c1 Pu.fU)
theorem adp:ai Tryz.prog 190 afS:=f0 {mv:=[7]} (base.add o87) Tryz.func190
def anb:al:=ae [pd (.sl bJ)] [(false,(.sl (.own none) bJ))] (c1 Pu.qa)
def apx:aJ:=aJ.nil.add 87 e87
def ajG:An:={mask:=mk [(3,[3,7,8,9])],mv:=[13,25]}
@[reducible] def Iq:SD:=⟨B::B::B::.data false (.sl (.own (some 36864)) bJ)::B::B::B::.data false (.sl .arg bJ)::DI::DI::bs 16 [],zs 26 [],.none⟩
def VF {R:Type}(X:SD.D Iq)(K:Ex→AS→Option R):=Pu.k6 (fun y0 y1=>ke 0 K Iq ((w y0 (z2 (u y1)) X.1),X.2)) X.1.2.1 (q2 X)
def acx:aI:=bX Iq VF (fun X=>(X.1.1,q3 X))
def aeI:aN:=(aN.nil).add 3 acx
theorem aaF:bT E apx ajG aeI (ah Tryz.f283 0):=lk Iq VF (fun X=>(X.1.1,q3 X)) fun X x=>((w x.1 (z2 (u x.2)) X.1),X.2)
theorem ar8:ai Tryz.prog 283 anb:=fk ajG (base.add o87) Tryz.func283 (Λ:=aeI) (cF aaF nF)
def afR:al:=ae [pf dw] [(true,Y24)] (c1 Pu.tS)
theorem aq6:ai Tryz.prog 189 afR:=f0 {sb:=mg [(2,2)]} ((base.add adp).add ar8) Tryz.func189
def anc:al:=ae [pf (.sl bn)] [(true,(.sl (.own none) bn))] (c1 Pu.n5)
theorem ar9:ai Tryz.prog 284 anc:=f0 {} base Tryz.func284
def ane:al:=ae [pf eR] [(true,(.pair .str (.sl (.own none) (.int .i64))))] (c1 Pu.mK)
theorem asa:ai Tryz.prog 285 ane:=f0 {sb:=mg [(2,2)]} (base.add o87) Tryz.func285
def afU:al:=ae [pf cH] [(true,Y18)] (c1 Pu.jv)
theorem aq7:ai Tryz.prog 192 afU:=f0 {sb:=mg [(2,2)]} ((base.add ar9).add asa) Tryz.func192
def afV:al:=ae [pd (.sl a9)] [(false,(.sl (.own none) a9))] (c1 Pu.k7)
theorem aq8:ai Tryz.prog 193 afV:=f0 {} base Tryz.func193
def e89:al:=ae [pf ba] [(true,Y2)] (c1 Pu.l5)
def g89:aJ:=((((((((aJ.nil.add 87 e87).add 88 e88).add 187 WB).add 188 afQ).add 189 afR).add 190 afS).add 191 afT).add 192 afU).add 193 afV
def n89:An:={mask:=mk [(8,[1,2,3,27,28,29])],mv:=[34,75],mb:=mg [(34,3)],sb:=mg [(39,3)]}
@[reducible] def Pn:SD:=⟨B::.ptr 1 0::.ptr 2 0::.ptr 3 0::bs 23 (.data false (.sl .arg bN)::DI::DI::bs 46 []),Z::(some Y3)::(some Y6)::(some Y8)::zs 72 [],.none⟩
def YB {R:Type}(X:SD.D Pn)(K:Ex→AS→Option R):=Pu.kZ (fun y0 y1=>ke 0 K Pn ((z2 (u y0) X.1),(z2 (u y1) X.2.1),X.2.2)) X.1.1 X.1.2.1 X.2.1.1 X.2.1.2.1
def aiC:aI:=bX Pn YB (fun X=>(q2 X,X.2.1.2.2.1))
def L89:aN:=(aN.nil).add 8 aiC
theorem ahU:bT E g89 n89 L89 (ah Tryz.f89 0):=lk Pn YB (fun X=>(q2 X,X.2.1.2.2.1)) fun X x=>((z2 (u x.1) X.1),(z2 (u x.2) X.2.1),X.2.2)
theorem o89:ai Tryz.prog 89 e89:=fk n89 (((((((((base.add o87).add o88).add Rp).add aq5).add aq6).add adp).add akp).add aq7).add aq8) Tryz.func89 (Λ:=L89) (cF ahU nF)
def e35:al:=ae [pf bU] [(true,Y5)] (c1 Pu.l4)
def g35:aJ:=(((((aJ.nil.add 84 e84).add 85 e85).add 86 e86).add 87 e87).add 88 e88).add 89 e89
def n35:An:={mask:=mk [(3,[2,3,25,26,27])],mv:=[32,39],mb:=mg [(32,3)],sb:=mg [(3,3),(37,3)]}
@[reducible] def Pc:SD:=⟨B::B::.ptr 2 0::.ptr 3 0::bs 21 (.data false (.sl .arg ba)::DI::DI::bs 12 []),Z::Z::(some Y11)::(some Y10)::zs 36 [],.none⟩
def Yd {R:Type}(X:SD.D Pc)(K:Ex→AS→Option R):=Pu.kY (fun y0 y1=>ke 0 K Pc ((z2 (u y0) X.1),(z1 (u y1) X.2.1),X.2.2)) X.1.1 X.1.2.1 X.2.1.1
def aid:aI:=bX Pc Yd (fun X=>(q2 X,X.2.1.2.1))
def L35:aN:=(aN.nil).add 3 aid
theorem ahw:bT E g35 n35 L35 (ah Tryz.f35 0):=lk Pc Yd (fun X=>(q2 X,X.2.1.2.1)) fun X x=>((z2 (u x.1) X.1),(z1 (u x.2) X.2.1),X.2.2)
theorem o35:ai Tryz.prog 35 e35:=fk n35 ((((((base.add o84).add o85).add o86).add o87).add o88).add o89) Tryz.func35 (Λ:=L35) (cF ahw nF)
def QD:al:=ae [pI,pI,pI] [rB] (c3 Pu.af)
theorem wR:ai Tryz.prog 97 QD:=f0 {merge:=mg [(1,6)]} base Tryz.func97
def Zi:al:=ae [pf dc] [rB] (c1 Pu.fT)
def apf:aJ:=aJ.nil.add 97 QD
def ajp:An:={mask:=mk [(2,[1,2,6,7,8])],merge:=mg [(4,29),(7,2)]}
@[reducible] def DD:SD:=⟨B::.ptr 1 0::DB::B::B::B::.data false (.sl .arg (.int .i64))::DI::DI::bs 31 [],Z::(some Y21)::zs 38 [],.none⟩
def Vj {R:Type}(X:SD.D DD)(K:Ex→AS→Option R):=Pu.kK (fun y0=>ke 0 K DD ((z3 (u y0) X.1),X.2)) (fun y0 y1=>kr K DD ((w y0 (z2 (u y1)) X.1),X.2)) X.1.1 X.1.2.1 (q2 X) X.2.1.1
def ab8:aI:=bX DD Vj q3
def aer:aN:=(aN.nil).add 2 ab8
theorem aaj:bT E apf ajp aer (ah Tryz.f197 0):=lk DD Vj q3 fun X x=>((z3 (u x) X.1),X.2)
theorem Xf:ai Tryz.prog 197 Zi:=fk ajp (base.add wR) Tryz.func197 (Λ:=aer) (cF aaj nF)
def e98:al:=ae [pf aE] [rB] (c1 Pu.nS)
theorem o98:ai Tryz.prog 98 e98:=f0 {merge:=mg [(1,2)]} ((base.add wR).add Xf) Tryz.func98
def e99:al:=ae [pd (.sl (.int .i64)),pI] [rB] (c2 Pu.cZ)
def g99:aJ:=aJ.nil
def n99:An:={mask:=mk [(2,[1,4,7,8,9])]}
@[reducible] def KD:SD:=⟨B::DI::B::B::DB::B::B::.data false (.sl .arg (.int .i64))::DI::DI::bs 7 [],zs 17 [],.none⟩
def YG {R:Type}(X:SD.D KD)(K:Ex→AS→Option R):=Pu.xb (fun y0=>ke 0 K KD ((z4 (u y0) X.1),X.2)) (fun y0 y1=>kr K KD ((z1 (w y0 (z2 (u y1))) X.1),X.2)) X.1.1 X.1.2.1 (q2 X) (q3 X)
def aiH:aI:=bX KD YG q4
def L99:aN:=(aN.nil).add 2 aiH
theorem ahZ:bT E g99 n99 L99 (ah Tryz.f99 0):=lk KD YG q4 fun X x=>((z4 (u x) X.1),X.2)
theorem o99:ai Tryz.prog 99 e99:=fk n99 base Tryz.func99 (Λ:=L99) (cF ahZ nF)
def afj:al:=ae [pd (.sl (.int .i64)),pI] [(false,(.sl (.own none) (.int .i64)))] (c2 Pu.fe)
def aoJ:aJ:=aJ.nil
def aiI:An:={mask:=mk [(4,[1,5,6,10,11,12])],merge:=mg [(6,22)],mv:=[23,27,34,38]}
@[reducible] def HR:SD:=⟨B::DI::B::B::B::.data false (.sl (.own (some 61440)) (.int .i64))::DB::B::B::B::.data false (.sl .arg (.int .i64))::DI::DI::bs 26 [],zs 39 [],.none⟩
def Uu {R:Type}(X:SD.D HR)(K:Ex→AS→Option R):=Pu.eL (fun y0 y1 y2=>ke 0 K HR ((z1 (w y0 (w y1 (z2 (u y2)))) X.1),X.2)) X.1.1 (q3 X) (q4 X)
def abj:aI:=bX HR Uu (fun X=>(X.1.2.1,q2 X,q5 X))
def adK:aN:=(aN.nil).add 4 abj
theorem Zv:bT E aoJ aiI adK (ah Tryz.f100 0):=lk HR Uu (fun X=>(X.1.2.1,q2 X,q5 X)) fun X x=>((z1 (w x.1 (w x.2.1 (z2 (u x.2.2)))) X.1),X.2)
theorem ap3:ai Tryz.prog 100 afj:=fk aiI base Tryz.func100 (Λ:=adK) (cF Zv nF)
def YZ:al:=ae [pd (.sl de),pI] [rI] (c2 Pu.l6)
def aoL:aJ:=aJ.nil
def aiK:An:={mask:=mk [(2,[1,4,7,8,9])],merge:=mg [(4,21)]}
@[reducible] def C9:SD:=⟨B::DI::B::B::DI::B::B::.data false (.sl .arg de)::DI::DI::bs 14 [],zs 24 [],.none⟩
def Uw {R:Type}(X:SD.D C9)(K:Ex→AS→Option R):=Pu.gF (fun y0=>ke 0 K C9 ((z4 (u y0) X.1),X.2)) (fun y0 y1=>kr K C9 ((z1 (w y0 (z2 (u y1))) X.1),X.2)) X.1.1 X.1.2.1 (q2 X) (q3 X)
def abl:aI:=bX C9 Uw q4
def adM:aN:=(aN.nil).add 2 abl
theorem Zx:bT E aoL aiK adM (ah Tryz.f102 0):=lk C9 Uw q4 fun X x=>((z4 (u x) X.1),X.2)
theorem akd:ai Tryz.prog 102 YZ:=fk aiK base Tryz.func102 (Λ:=adM) (cF Zx nF)
def af1:al:=ae [pf de] [(true,Y21)] (c1 Pu.uy)
theorem are:ai Tryz.prog 208 af1:=f0 {} base Tryz.func208
def YY:al:=ae [pd (.sl de)] [rB] (c1 Pu.fE)
def aoK:aJ:=((((aJ.nil.add 97 QD).add 99 e99).add 102 YZ).add 197 Zi).add 208 af1
def aiJ:An:={mask:=mk [(4,[0,2,9,10,11])],merge:=mg [(6,27),(8,37)]}
@[reducible] def C8:SD:=⟨.data false (.sl .arg de)::B::DB::bs 6 (.data false (.sl .arg de)::DI::DI::bs 27 []),zs 39 [],.none⟩
def Uv {R:Type}(X:SD.D C8)(K:Ex→AS→Option R):=Pu.mI (fun y0=>ke 0 K C8 ((z4 (u y0) X.1),X.2)) (fun y0 y1=>kr K C8 ((z1 (w y0 (z2 (u y1))) X.1),X.2)) X.1.1 X.1.2.1 (q2 X) (q3 X)
def abk:aI:=bX C8 Uv q4
def adL:aN:=(aN.nil).add 4 abk
theorem Zw:bT E aoK aiJ adL (ah Tryz.f101 0):=lk C8 Uv q4 fun X x=>((z4 (u x) X.1),X.2)
theorem Xc:ai Tryz.prog 101 YY:=fk aiJ (((((base.add wR).add o99).add akd).add Xf).add are) Tryz.func101 (Λ:=adL) (cF Zw nF)
def e38:al:=ae [pd (.sl aE)] [(false,(.sl (.own none) de)),rB] (c1 Pu.nV)
def g38:aJ:=((((aJ.nil.add 97 QD).add 98 e98).add 99 e99).add 100 afj).add 101 YY
def n38:An:={mask:=mk [(6,[2,3,4,5,18,19,20]),(12,[2,3,4,5,7,8,18,19,20,32,33,34])],mv:=[53,57,63,69]}
@[reducible] def ID:SD:=⟨B::B::.data false (.sl (.own (some 24576)) de)::DB::.data false (.sl (.own (some 49152)) de)::.data false (.sl (.own (some 61440)) (.int .i64))::B::.ptr 7 0::.data false (.sl (.own (some 98304)) (.int .i64))::bs 9 (.data false (.sl .arg aE)::DI::DI::bs 11 (.data false (.sl (.own (some 393216)) (.int .i64))::DI::DI::bs 35 [])),zs 7 ((some (.pair Y21 Y4))::zs 62 []),.none⟩
def V1 {R:Type}(X:SD.D ID)(K:Ex→AS→Option R):=Pu.eD (fun y0 y1 y2=>ke 2 K ID ((z3 (w y0 (w y1 (z5 (u y2)))) X.1),X.2)) X.1.1 X.1.2.1 (q2 X) (q5 X) (q6 X) (q7 X) (q8 X) (q9 X) X.2.1.1
def acT:aI:=bX ID V1 (fun X=>(q3 X,q4 X,MY X))
@[reducible] def Kk:SD:=⟨B::B::.data false (.sl (.own (some 24576)) de)::DB::.data false (.sl (.own (some 49152)) de)::.data false (.sl (.own (some 61440)) (.int .i64))::bs 12 (.data false (.sl .arg aE)::DI::DI::bs 49 []),zs 70 [],.none⟩
def Yf {R:Type}(X:SD.D Kk)(K:Ex→AS→Option R):=Pu.iE (fun y0 y1 y2=>ke 0 K Kk ((z2 (w y0 (w y1 (z2 (u y2)))) X.1),X.2)) (fun y0 y1 y2 y3 y4=>kr K Kk ((w y0 (w y1 (w y2 (w y3 (z2 (u y4))))) X.1),X.2)) X.1.1 X.1.2.1 (q4 X) (q5 X)
def aif:aI:=bX Kk Yf (fun X=>(q2 X,q3 X,q6 X))
def L38:aN:=((aN.nil).add 12 acT).add 6 aif
theorem aa1:bT E g38 n38 L38 (ah Tryz.f38 1):=lk ID V1 (fun X=>(q3 X,q4 X,MY X)) fun X x=>((z3 (w x.1 (w x.2.1 (z5 (u x.2.2)))) X.1),X.2)
theorem ahy:bT E g38 n38 L38 (ah Tryz.f38 0):=lk Kk Yf (fun X=>(q2 X,q3 X,q6 X)) fun X x=>((z2 (w x.1 (w x.2.1 (z2 (u x.2.2)))) X.1),X.2)
theorem o38:ai Tryz.prog 38 e38:=fk n38 (((((base.add wR).add o98).add o99).add ap3).add Xc) Tryz.func38 (Λ:=L38) (cF ahy (cF aa1 nF))
def Zg:al:=ae [pf (.sl .str)] [rB] (c1 Pu.lY)
def apc:aJ:=aJ.nil
def ajm:An:={mask:=mk [(2,[1,2,6,7,8])]}
@[reducible] def Dz:SD:=⟨B::.ptr 1 0::DB::B::B::B::.data false (.sl .arg .str)::DI::DI::bs 11 [],Z::(some (.sl .arg .str))::zs 18 [],.none⟩
def Vg {R:Type}(X:SD.D Dz)(K:Ex→AS→Option R):=Pu.uQ (fun y0=>ke 0 K Dz ((z3 (u y0) X.1),X.2)) (fun y0 y1=>kr K Dz ((w y0 (z2 (u y1)) X.1),X.2)) X.1.1 X.1.2.1 (q2 X) X.2.1.1
def ab5:aI:=bX Dz Vg q3
def aeo:aN:=(aN.nil).add 2 ab5
theorem aag:bT E apc ajm aeo (ah Tryz.f194 0):=lk Dz Vg q3 fun X x=>((z3 (u x) X.1),X.2)
theorem adq:ai Tryz.prog 194 Zg:=fk ajm base Tryz.func194 (Λ:=aeo) (cF aag nF)
def agh:al:=ae [pd (.sl aB),pI,pI] [rI] (c3 Pu.gE)
def apy:aJ:=aJ.nil
def ajH:An:={mask:=mk [(2,[1,2,6,9,10,11])],merge:=mg [(4,25)]}
@[reducible] def DT:SD:=⟨B::DI::DI::B::B::B::DI::B::B::.data false (.sl .arg aB)::DI::DI::bs 16 [],zs 28 [],.none⟩
def VG {R:Type}(X:SD.D DT)(K:Ex→AS→Option R):=Pu.gu (fun y0=>ke 0 K DT ((z5 (u y0) X.1),X.2)) (fun y0 y1=>kr K DT ((z2 (w y0 (z2 (u y1))) X.1),X.2)) X.1.1 X.1.2.1 (q2 X) (q3 X) (q4 X)
def acy:aI:=bX DT VG q5
def aeJ:aN:=(aN.nil).add 2 acy
theorem aaG:bT E apy ajH aeJ (ah Tryz.f286 0):=lk DT VG q5 fun X x=>((z5 (u x) X.1),X.2)
theorem akO:ai Tryz.prog 286 agh:=fk ajH base Tryz.func286 (Λ:=aeJ) (cF aaG nF)
def Zh:al:=ae [pd (.sl aB)] [rB] (c1 Pu.iD)
def apd:aJ:=(aJ.nil.add 97 QD).add 286 agh
def ajn:An:={mask:=mk [(2,[0,2,5,6,7])],merge:=mg [(4,37)]}
@[reducible] def DA:SD:=⟨.data false (.sl .arg aB)::B::DB::B::B::.data false (.sl .arg aB)::DI::DI::bs 34 [],zs 42 [],.none⟩
def Vh {R:Type}(X:SD.D DA)(K:Ex→AS→Option R):=Pu.ia (fun y0=>ke 0 K DA ((z4 (u y0) X.1),X.2)) (fun y0 y1=>kr K DA ((z1 (w y0 (z2 (u y1))) X.1),X.2)) X.1.1 X.1.2.1 (q2 X) (q3 X)
def ab6:aI:=bX DA Vh q4
def aep:aN:=(aN.nil).add 2 ab6
theorem aah:bT E apd ajn aep (ah Tryz.f195 0):=lk DA Vh q4 fun X x=>((z4 (u x) X.1),X.2)
theorem akq:ai Tryz.prog 195 Zh:=fk ajn ((base.add wR).add akO) Tryz.func195 (Λ:=aep) (cF aah nF)
def Zj:al:=ae [pf bN] [rB] (c1 Pu.jR)
def apg:aJ:=aJ.nil.add 97 QD
def ajq:An:={mask:=mk [(5,[1,2,3,26,27,28])],merge:=mg [(1,21),(7,43)]}
@[reducible] def DE:SD:=⟨B::.ptr 1 0::DB::.data false (.sl (.own (some 36864)) .bool)::bs 22 (.data false (.sl .arg (.int .i64))::DI::DI::bs 19 []),Z::(some Y16)::zs 46 [],.none⟩
def Vk {R:Type}(X:SD.D DE)(K:Ex→AS→Option R):=Pu.nU (fun y0 y1=>ke 0 K DE ((z1 (w y0 (z2 (u y1))) X.1),X.2)) (fun y0 y1 y2=>kr K DE ((w y0 (w y1 (z2 (u y2))) X.1),X.2)) X.1.1 (q2 X) (q3 X) X.2.1.1
def ab9:aI:=bX DE Vk (fun X=>(X.1.2.1,q4 X))
def aes:aN:=(aN.nil).add 5 ab9
theorem aak:bT E apg ajq aes (ah Tryz.f199 0):=lk DE Vk (fun X=>(X.1.2.1,q4 X)) fun X x=>((z1 (w x.1 (z2 (u x.2))) X.1),X.2)
theorem ads:ai Tryz.prog 199 Zj:=fk ajq (base.add wR) Tryz.func199 (Λ:=aes) (cF aak nF)
def an2:al:=ae [pI] [rB] (c1 Pu.l7)
theorem adx:ai Tryz.prog 355 an2:=f0 {merge:=mg [(1,2)]} base Tryz.func355
def Zk:al:=ae [pI,pI] [rI] (c2 Pu.ew)
theorem adt:ai Tryz.prog 222 Zk:=f0 {} base Tryz.func222
def an3:al:=ae [pf cS] [rI] (c1 Pu.lZ)
theorem ak6:ai Tryz.prog 356 an3:=f0 {} ((base.add adt).add adx) Tryz.func356
def agi:al:=ae [pf cS] [rB] (c1 Pu.jT)
theorem Xh:ai Tryz.prog 287 agi:=f0 {merge:=mg [(1,2)]} (((base.add wR).add adx).add ak6) Tryz.func287
def agj:al:=ae [pf bN,pd (.sl (.int .i64))] [(true,Y9),rB] (c2 Pu.eC)
theorem asb:ai Tryz.prog 288 agj:=f0 {merge:=mg [(3,21)],mv:=[10,24]} ((base.add adp).add ads) Tryz.func288
def afW:al:=ae [pf dw] [rB] (c1 Pu.xO)
def ape:aJ:=(((aJ.nil.add 97 QD).add 199 Zj).add 287 agi).add 288 agj
def ajo:An:={mask:=mk [(6,[1,2,3,4,30,31,32])],merge:=mg [(1,24),(8,50)],mv:=[55]}
@[reducible] def DC:SD:=⟨B::.ptr 1 0::DB::DI::.data false (.sl (.own (some 49152)) (.int .i64))::bs 25 (.data false (.sl .arg bJ)::DI::DI::bs 35 []),Z::(some Y25)::zs 66 [],.none⟩
def Vi {R:Type}(X:SD.D DC)(K:Ex→AS→Option R):=Pu.nY (fun y0 y1 y2=>ke 0 K DC ((z1 (w y0 (w y1 (z2 (u y2)))) X.1),X.2)) (fun y0 y1 y2 y3=>kr K DC ((w y0 (w y1 (w y2 (z2 (u y3)))) X.1),X.2)) X.1.1 (q3 X) (q4 X) X.2.1.1
def ab7:aI:=bX DC Vi (fun X=>(X.1.2.1,q2 X,q5 X))
def aeq:aN:=(aN.nil).add 6 ab7
theorem aai:bT E ape ajo aeq (ah Tryz.f196 0):=lk DC Vi (fun X=>(X.1.2.1,q2 X,q5 X)) fun X x=>((z1 (w x.1 (w x.2.1 (z2 (u x.2.2)))) X.1),X.2)
theorem aq9:ai Tryz.prog 196 afW:=fk ajo ((((base.add wR).add ads).add Xh).add asb) Tryz.func196 (Λ:=aeq) (cF aai nF)
def amd:al:=ae [pf dZ] [rB] (c1 Pu.jU)
theorem akt:ai Tryz.prog 206 amd:=f0 {merge:=mg [(1,18),(5,2),(7,2)]} (base.add wR) Tryz.func206
def ame:al:=ae [pI] [rB] (c1 Pu.jW)
theorem aku:ai Tryz.prog 207 ame:=f0 {merge:=mg [(1,2)]} base Tryz.func207
def e96:al:=ae [pf a8] [rB] (c1 Pu.cO)
theorem Xk:ai Tryz.prog 96 e96:=f0 {merge:=mg [(1,2)]} (((base.add wR).add akt).add aku) Tryz.func96
def anf:al:=ae [pf cr] [rB] (c1 Pu.kP)
theorem akP:ai Tryz.prog 289 anf:=f0 {merge:=mg [(1,2)]} ((base.add wR).add adx) Tryz.func289
def afX:al:=ae [pf aG] [rB] (c1 Pu.sG)
theorem adr:ai Tryz.prog 198 afX:=f0 {merge:=mg [(1,42),(5,2)]} ((((base.add Xk).add wR).add Xh).add akP) Tryz.func198
def ang:al:=ae [pf aZ] [rB] (c1 Pu.uS)
theorem akQ:ai Tryz.prog 290 ang:=f0 {merge:=mg [(1,2)]} base Tryz.func290
def afY:al:=ae [pf aZ] [rB] (c1 Pu.p9)
theorem akr:ai Tryz.prog 200 afY:=f0 {merge:=mg [(1,24),(3,2)]} ((base.add wR).add akQ) Tryz.func200
def agB:al:=ae [pf bH] [rB] (c1 Pu.tR)
theorem ak7:ai Tryz.prog 357 agB:=f0 {merge:=mg [(1,33),(3,54),(5,2)]} (base.add wR) Tryz.func357
def Zm:al:=ae [pd (.sl bH)] [rB] (c1 Pu.rQ)
def apz:aJ:=aJ.nil.add 357 agB
def ajI:An:={mask:=mk [(2,[0,2,5,6,7])]}
@[reducible] def DU:SD:=⟨.data false (.sl .arg bH)::B::DB::B::B::.data false (.sl .arg bH)::DI::DI::bs 10 [],zs 18 [],.none⟩
def VH {R:Type}(X:SD.D DU)(K:Ex→AS→Option R):=Pu.wx (fun y0=>ke 0 K DU ((z4 (u y0) X.1),X.2)) (fun y0 y1=>kr K DU ((z1 (w y0 (z2 (u y1))) X.1),X.2)) X.1.1 X.1.2.1 (q2 X) (q3 X)
def acz:aI:=bX DU VH q4
def aeK:aN:=(aN.nil).add 2 acz
theorem aaH:bT E apz ajI aeK (ah Tryz.f291 0):=lk DU VH q4 fun X x=>((z4 (u x) X.1),X.2)
theorem akR:ai Tryz.prog 291 Zm:=fk ajI (base.add ak7) Tryz.func291 (Λ:=aeK) (cF aaH nF)
def agn:al:=ae [pf (.sl bn),pf cW] [rI] (c2 Pu.qJ)
def apC:aJ:=aJ.nil
def ajL:An:={mask:=mk [(2,[3,4,8,9,10])],merge:=mg [(4,23)]}
@[reducible] def DX:SD:=⟨B::B::B::.ptr 3 0::DI::B::B::B::.data false (.sl .arg bn)::DI::DI::bs 15 [],Z::Z::Z::(some (.pair (.int .i64) Y1))::zs 22 [],.none⟩
def VL {R:Type}(X:SD.D DX)(K:Ex→AS→Option R):=Pu.n8 (fun y0=>ke 0 K DX ((z3 (u y0) X.1),X.2)) (fun y0 y1=>kr K DX ((w y0 (z2 (u y1)) X.1),X.2)) X.1.1 X.1.2.1 (q2 X) X.2.1.1
def acD:aI:=bX DX VL q3
def aeN:aN:=(aN.nil).add 2 acD
theorem aaL:bT E apC ajL aeN (ah Tryz.f307 0):=lk DX VL q3 fun X x=>((z3 (u x) X.1),X.2)
theorem akX:ai Tryz.prog 307 agn:=fk ajL base Tryz.func307 (Λ:=aeN) (cF aaL nF)
def agI:al:=ae [pf cW] [rI] (c1 Pu.pY)
def apQ:aJ:=aJ.nil.add 222 Zk
def ajZ:An:={mask:=mk [(3,[3,16,17,18])]}
@[reducible] def IB:SD:=⟨B::B::B::DI::bs 12 (.data false (.sl (.own (some 196608)) (.int .i64))::DI::DI::bs 10 []),zs 29 [],.none⟩
def VZ {R:Type}(X:SD.D IB)(K:Ex→AS→Option R):=Pu.gC (fun y0 y1=>ke 0 K IB ((w y0 (z2 (u y1)) X.1),X.2)) X.1.2.1 (q2 X)
def acR:aI:=bX IB VZ (fun X=>(X.1.1,q3 X))
def ae1:aN:=(aN.nil).add 3 acR
theorem aaZ:bT E apQ ajZ ae1 (ah Tryz.f387 0):=lk IB VZ (fun X=>(X.1.1,q3 X)) fun X x=>((w x.1 (z2 (u x.2)) X.1),X.2)
theorem ate:ai Tryz.prog 387 agI:=fk ajZ (base.add adt) Tryz.func387 (Λ:=ae1) (cF aaZ nF)
def agC:al:=ae [pf cW] [(false,(.sl (.own none) (.int .i64)))] (c1 Pu.vy)
def apI:aJ:=aJ.nil.add 387 agI
def ajR:An:={mask:=mk [(3,[1,3,4])],mv:=[10,18]}
@[reducible] def Iu:SD:=⟨B::.ptr 1 0::B::.data false (.sl (.own (some 36864)) (.int .i64))::DI::bs 14 [],Z::(some (.pair (.int .i64) Y1))::zs 17 [],.none⟩
def VR {R:Type}(X:SD.D Iu)(K:Ex→AS→Option R):=Pu.l9 (fun y0 y1=>ke 0 K Iu ((w y0 (u y1) X.1),X.2)) X.2.1.1
def acJ:aI:=bX Iu VR (fun X=>(X.1.1,X.1.2.1))
def aeT:aN:=(aN.nil).add 3 acJ
theorem aaR:bT E apI ajR aeT (ah Tryz.f358 0):=lk Iu VR (fun X=>(X.1.1,X.1.2.1)) fun X x=>((w x.1 (u x.2) X.1),X.2)
theorem asR:ai Tryz.prog 358 agC:=fk ajR (base.add ate) Tryz.func358 (Λ:=aeT) (cF aaR nF)
def agk:al:=ae [pf (.sl bn)] [rB] (c1 Pu.kV)
def ahh:aJ:=((aJ.nil.add 97 QD).add 307 agn).add 358 agC
def adk:An:={mask:=mk [(4,[1,2,12,13,14]),(14,[1,2,3,12,13,14,49,50,51])],merge:=mg [(6,28),(9,40)]}
@[reducible] def zF:SD:=⟨B::.ptr 1 0::DB::DI::bs 8 (.data false (.sl .arg bn)::DI::DI::bs 34 (.data false (.sl (.own (some 602112)) (.int .i64))::DI::DI::bs 15 [])),Z::(some (.sl .arg bn))::zs 65 [],.none⟩
def Ql {R:Type}(X:SD.D zF)(K:Ex→AS→Option R):=Pu.eE (fun y0=>ke 2 K zF ((z7 (u y0) X.1),X.2)) (fun y0 y1=>kr K zF ((w y0 (z6 (u y1)) X.1),X.2)) X.1.1 X.1.2.1 (q2 X) (q3 X) (q4 X) (q5 X) (q6 X) X.2.1.1
def W7:aI:=bX zF Ql q7
@[reducible] def DV:SD:=⟨B::.ptr 1 0::DB::bs 9 (.data false (.sl .arg bn)::DI::DI::bs 52 []),Z::(some (.sl .arg bn))::zs 65 [],.none⟩
def VI {R:Type}(X:SD.D DV)(K:Ex→AS→Option R):=Pu.mJ (fun y0=>ke 0 K DV ((z3 (u y0) X.1),X.2)) (fun y0 y1=>kr K DV ((w y0 (z2 (u y1)) X.1),X.2)) X.1.1 X.1.2.1 (q2 X) X.2.1.1
def acA:aI:=bX DV VI q3
def YQ:aN:=((aN.nil).add 14 W7).add 4 acA
theorem W4:bT E ahh adk YQ (ah Tryz.f292 1):=lk zF Ql q7 fun X x=>((z7 (u x) X.1),X.2)
theorem aaI:bT E ahh adk YQ (ah Tryz.f292 0):=lk DV VI q3 fun X x=>((z3 (u x) X.1),X.2)
theorem akS:ai Tryz.prog 292 agk:=fk adk (((base.add wR).add akX).add asR) Tryz.func292 (Λ:=YQ) (cF aaI (cF W4 nF))
def agD:al:=ae [pI] [rB] (c1 Pu.xc)
theorem asS:ai Tryz.prog 359 agD:=f0 {merge:=mg [(1,2)]} base Tryz.func359
def agl:al:=ae [pf eR,pI] [rB] (c2 Pu.p7)
def apA:aJ:=(aJ.nil.add 97 QD).add 359 agD
def ajJ:An:={mask:=mk [(4,[1,4,24,25,26])],merge:=mg [(1,22)]}
@[reducible] def DW:SD:=⟨B::DI::B::B::DB::bs 19 (.data false (.sl .arg (.int .i64))::DI::DI::bs 9 []),zs 36 [],.none⟩
def VJ {R:Type}(X:SD.D DW)(K:Ex→AS→Option R):=Pu.uR (fun y0=>ke 0 K DW ((z4 (u y0) X.1),X.2)) (fun y0 y1=>kr K DW ((z1 (w y0 (z2 (u y1))) X.1),X.2)) X.1.1 X.1.2.1 (q2 X) (q3 X)
def acB:aI:=bX DW VJ q4
def aeL:aN:=(aN.nil).add 4 acB
theorem aaJ:bT E apA ajJ aeL (ah Tryz.f293 0):=lk DW VJ q4 fun X x=>((z4 (u x) X.1),X.2)
theorem akT:ai Tryz.prog 293 agl:=fk ajJ ((base.add wR).add asS) Tryz.func293 (Λ:=aeL) (cF aaJ nF)
def afZ:al:=ae [pf cH,pI] [rB] (c2 Pu.iH)
def ahe:aJ:=((aJ.nil.add 291 Zm).add 292 agk).add 293 agl
def adh:An:={mask:=mk [(4,[1,2,4,27,28,29]),(10,[1,4,45,46,47])],merge:=mg [(1,25),(6,41),(12,59)]}
@[reducible] def DF:SD:=⟨B::DI::.ptr 2 0::B::DB::bs 22 (.data false (.sl .arg bH)::DI::DI::bs 31 []),Z::Z::(some Y20)::zs 58 [],.none⟩
def Vl {R:Type}(X:SD.D DF)(K:Ex→AS→Option R):=Pu.ie (fun y0=>ke 0 K DF ((z4 (u y0) X.1),X.2)) (fun y0 y1=>kr K DF ((z1 (w y0 (z2 (u y1))) X.1),X.2)) X.1.1 X.1.2.1 (q2 X) (q3 X) X.2.1.1
def aca:aI:=bX DF Vl q4
@[reducible] def zE:SD:=⟨B::DI::B::B::DB::bs 40 (.data false (.sl .arg bn)::DI::DI::bs 13 []),zs 61 [],.none⟩
def Qk {R:Type}(X:SD.D zE)(K:Ex→AS→Option R):=Pu.gq (fun y0=>ke 2 K zE ((z4 (u y0) X.1),X.2)) (fun y0 y1=>kr K zE ((z1 (w y0 (z2 (u y1))) X.1),X.2)) X.1.1 X.1.2.1 (q2 X) (q3 X)
def W6:aI:=bX zE Qk q4
def YN:aN:=((aN.nil).add 4 aca).add 10 W6
theorem aal:bT E ahe adh YN (ah Tryz.f201 0):=lk DF Vl q4 fun X x=>((z4 (u x) X.1),X.2)
theorem W3:bT E ahe adh YN (ah Tryz.f201 1):=lk zE Qk q4 fun X x=>((z4 (u x) X.1),X.2)
theorem aks:ai Tryz.prog 201 afZ:=fk adh (((base.add akR).add akS).add akT) Tryz.func201 (Λ:=YN) (cF aal (cF W3 nF))
def e90:al:=ae [pf ba] [rB] (c1 Pu.qF)
def g90:aJ:=((((((((aJ.nil.add 97 QD).add 194 Zg).add 195 Zh).add 196 afW).add 197 Zi).add 198 afX).add 199 Zj).add 200 afY).add 201 afZ
def n90:An:={mask:=mk [(5,[1,2,3,61,62]),(12,[1,2,3,103,104,105])],merge:=mg [(2,58),(7,89)]}
@[reducible] def Kz:SD:=⟨B::.ptr 1 0::DB::DI::bs 57 (DI::DI::bs 54 []),Z::(some Y3)::zs 115 [],.none⟩
def YC {R:Type}(X:SD.D Kz)(K:Ex→AS→Option R):=Pu.nQ (fun y0=>ke 0 K Kz ((z3 (u y0) X.1),X.2)) (fun y0 y1=>kr K Kz ((w y0 (z2 (u y1)) X.1),X.2)) X.1.1 X.1.2.1 (q2 X) X.2.1.1
def aiD:aI:=bX Kz YC q3
@[reducible] def D7:SD:=⟨B::.ptr 1 0::DB::DI::bs 99 (.data false (.sl (.own (some 1265664)) (.int .i64))::DI::DI::bs 11 []),Z::(some Y3)::zs 115 [],.none⟩
def Wi {R:Type}(X:SD.D D7)(K:Ex→AS→Option R):=Pu.mH (fun y0=>ke 2 K D7 ((z4 (u y0) X.1),X.2)) (fun y0 y1=>kr K D7 ((w y0 (z3 (u y1)) X.1),X.2)) X.1.1 X.1.2.1 (q2 X) (q3 X) X.2.1.1
def ada:aI:=bX D7 Wi q4
def L90:aN:=((aN.nil).add 5 aiD).add 12 ada
theorem ahV:bT E g90 n90 L90 (ah Tryz.f90 0):=lk Kz YC q3 fun X x=>((z3 (u x) X.1),X.2)
theorem abi:bT E g90 n90 L90 (ah Tryz.f90 1):=lk D7 Wi q4 fun X x=>((z4 (u x) X.1),X.2)
theorem o90:ai Tryz.prog 90 e90:=fk n90 (((((((((base.add wR).add adq).add akq).add aq9).add Xf).add adr).add ads).add akr).add aks) Tryz.func90 (Λ:=L90) (cF ahV (cF abi nF))
def ama:al:=ae [pd (.sl (.int .i64)),pd (.sl (.int .i64))] [rB] (c2 Pu.lj)
def aph:aJ:=aJ.nil
def ajr:An:={mask:=mk [(4,[0,1,4,12,13])]}
@[reducible] def DG:SD:=⟨.data false (.sl .arg (.int .i64))::.data false (.sl .arg (.int .i64))::B::B::DB::bs 7 (DI::DI::bs 12 []),zs 26 [],.none⟩
def Vm {R:Type}(X:SD.D DG)(K:Ex→AS→Option R):=Pu.gw (fun y0=>ke 0 K DG ((z4 (u y0) X.1),X.2)) (fun y0 y1=>kr K DG ((z2 (w y0 (z1 (u y1))) X.1),X.2)) X.1.1 X.1.2.1 (q2 X) (q3 X)
def acb:aI:=bX DG Vm q4
def aet:aN:=(aN.nil).add 4 acb
theorem aam:bT E aph ajr aet (ah Tryz.f202 0):=lk DG Vm q4 fun X x=>((z4 (u x) X.1),X.2)
theorem ara:ai Tryz.prog 202 ama:=fk ajr base Tryz.func202 (Λ:=aet) (cF aam nF)
def e91:al:=ae [pf dc,pf dc] [rB] (c2 Pu.mL)
theorem o91:ai Tryz.prog 91 e91:=f0 {merge:=mg [(1,4)]} (base.add ara) Tryz.func91
def af0:al:=ae [pf cr] [rB] (c1 Pu.ux)
theorem arb:ai Tryz.prog 203 af0:=f0 {merge:=mg [(1,2)]} (base.add wR) Tryz.func203
def e92:al:=ae [pd (.sl ak),pd (.sl de)] [rB] (c2 Pu.kM)
def g92:aJ:=((aJ.nil.add 97 QD).add 101 YY).add 203 af0
def n92:An:={mask:=mk [(4,[0,1,4,12,13,14]),(9,[0,1,4,6,12,13,14,52,53,54])],merge:=mg [(6,49),(11,69)]}
@[reducible] def KB:SD:=⟨.data false (.sl .arg ak)::.data false (.sl .arg de)::B::B::DB::B::.ptr 6 0::bs 5 (.data false (.sl .arg ak)::DI::DI::bs 37 (.data false (.sl .arg ak)::DI::DI::bs 17 [])),zs 6 ((some Y19)::zs 65 []),.none⟩
def YE {R:Type}(X:SD.D KB)(K:Ex→AS→Option R):=Pu.gp (fun y0=>ke 2 K KB ((z8 (u y0) X.1),X.2)) (fun y0 y1=>kr K KB ((z2 (w y0 (z5 (u y1))) X.1),X.2)) X.1.1 X.1.2.1 (q2 X) (q3 X) (q4 X) (q5 X) (q6 X) (q7 X) X.2.1.1
def aiF:aI:=bX KB YE q8
@[reducible] def KA:SD:=⟨.data false (.sl .arg ak)::.data false (.sl .arg de)::B::B::DB::bs 7 (.data false (.sl .arg ak)::DI::DI::bs 57 []),zs 72 [],.none⟩
def YD {R:Type}(X:SD.D KA)(K:Ex→AS→Option R):=Pu.gn (fun y0=>ke 0 K KA ((z5 (u y0) X.1),X.2)) (fun y0 y1=>kr K KA ((z2 (w y0 (z2 (u y1))) X.1),X.2)) X.1.1 X.1.2.1 (q2 X) (q3 X) (q4 X)
def aiE:aI:=bX KA YD q5
def L92:aN:=((aN.nil).add 9 aiF).add 4 aiE
theorem ahX:bT E g92 n92 L92 (ah Tryz.f92 1):=lk KB YE q8 fun X x=>((z8 (u x) X.1),X.2)
theorem ahW:bT E g92 n92 L92 (ah Tryz.f92 0):=lk KA YD q5 fun X x=>((z5 (u x) X.1),X.2)
theorem o92:ai Tryz.prog 92 e92:=fk n92 (((base.add wR).add Xc).add arb) Tryz.func92 (Λ:=L92) (cF ahW (cF ahX nF))
def e93:al:=ae [pd (.sl ak)] [rB] (c1 Pu.n6)
def g93:aJ:=aJ.nil
def n93:An:={mask:=mk [(2,[2,5,6,7])],merge:=mg [(4,22)]}
@[reducible] def KC:SD:=⟨B::B::DB::B::B::.data false (.sl .arg ak)::DI::DI::bs 16 [],zs 24 [],.none⟩
def YF {R:Type}(X:SD.D KC)(K:Ex→AS→Option R):=Pu.jw (fun y0=>ke 0 K KC ((z3 (u y0) X.1),X.2)) (fun y0 y1=>kr K KC ((w y0 (z2 (u y1)) X.1),X.2)) X.1.1 X.1.2.1 (q2 X)
def aiG:aI:=bX KC YF q3
def L93:aN:=(aN.nil).add 2 aiG
theorem ahY:bT E g93 n93 L93 (ah Tryz.f93 0):=lk KC YF q3 fun X x=>((z3 (u x) X.1),X.2)
theorem o93:ai Tryz.prog 93 e93:=fk n93 base Tryz.func93 (Λ:=L93) (cF ahY nF)
def amb:al:=ae [pf (.sl .str)] [rB] (c1 Pu.vw)
theorem arc:ai Tryz.prog 204 amb:=f0 {merge:=mg [(1,2)]} base Tryz.func204
def anh:al:=ae [pd .str,pI] [rI] (c2 Pu.dQ)
theorem TK:ai Tryz.prog 294 anh:=f0 {merge:=mg [(1,13)]} base Tryz.func294
def amj:al:=ae [pd .str] [rI] (c1 Pu.sU)
def ahf:aJ:=aJ.nil
def adi:An:={mask:=mk [(3,[0,3,4]),(7,[0,3,4,5])]}
@[reducible] def Ih:SD:=⟨.data false .str::B::B::.data false (.int .u32)::DI::DI::bs 28 [],zs 34 [],.none⟩
def Vo {R:Type}(X:SD.D Ih)(K:Ex→AS→Option R):=Pu.iX (fun y0 y1=>ke 2 K Ih ((z1 (w y0 (z1 (u y1))) X.1),X.2)) X.1.1 (q2 X)
def ace:aI:=bX Ih Vo (fun X=>(X.1.2.1,q3 X))
@[reducible] def Ig:SD:=⟨.data false .str::B::B::.data false (.int .u32)::DI::bs 29 [],zs 34 [],.none⟩
def Vn {R:Type}(X:SD.D Ig)(K:Ex→AS→Option R):=Pu.lV (fun y0 y1=>ke 0 K Ig ((z1 (w y0 (u y1)) X.1),X.2)) X.1.1
def acd:aI:=bX Ig Vn (fun X=>(X.1.2.1,q2 X))
def YO:aN:=((aN.nil).add 7 ace).add 3 acd
theorem aao:bT E ahf adi YO (ah Tryz.f213 1):=lk Ih Vo (fun X=>(X.1.2.1,q3 X)) fun X x=>((z1 (w x.1 (z1 (u x.2))) X.1),X.2)
theorem aan:bT E ahf adi YO (ah Tryz.f213 0):=lk Ig Vn (fun X=>(X.1.2.1,q2 X)) fun X x=>((z1 (w x.1 (u x.2)) X.1),X.2)
theorem akx:ai Tryz.prog 213 amj:=fk adi base Tryz.func213 (Λ:=YO) (cF aan (cF aao nF))
def an4:al:=ae [pI] [rS] (c1 Pu.bP)
theorem LV:ai Tryz.prog 360 an4:=f0 {} (base.add wR) Tryz.func360
def ani:al:=ae [pI,pd .str] [rS,rB] (c2 Pu.nT)
theorem asc:ai Tryz.prog 295 ani:=f0 {merge:=mg [(1,15)]} (((base.add wR).add akx).add LV) Tryz.func295
def amc:al:=ae [pd .str] [rI] (c1 Pu.fD)
theorem ard:ai Tryz.prog 205 amc:=f0 {merge:=mg [(2,19),(5,38)]} ((base.add TK).add asc) Tryz.func205
def e94:al:=ae [pf (.sl .str)] [rI] (c1 Pu.pT)
theorem o94:ai Tryz.prog 94 e94:=f0 {merge:=mg [(4,18)]} ((base.add arc).add ard) Tryz.func94
def e95:al:=ae [pf cS] [rB] (c1 Pu.vu)
theorem o95:ai Tryz.prog 95 e95:=f0 {merge:=mg [(1,2)]} (base.add wR) Tryz.func95
def e36:al:=ae [pf bU] [rB] (c1 Pu.qD)
def g36:aJ:=((((((aJ.nil.add 38 e38).add 90 e90).add 91 e91).add 92 e92).add 93 e93).add 94 e94).add 95 e95
def n36:An:={mask:=mk [(5,[1,2,3,34,35,36])],merge:=mg [(2,32),(7,55),(10,2)]}
@[reducible] def Kj:SD:=⟨B::.ptr 1 0::DB::.data false (.sl .loc de)::bs 30 (.data false (.sl .arg ba)::DI::DI::bs 40 []),Z::(some Y12)::zs 75 [],.none⟩
def Ye {R:Type}(X:SD.D Kj)(K:Ex→AS→Option R):=Pu.nN (fun y0=>ke 0 K Kj ((z4 (u y0) X.1),X.2)) (fun y0 y1=>kr K Kj ((w y0 (z3 (u y1)) X.1),X.2)) X.1.1 X.1.2.1 (q2 X) (q3 X) X.2.1.1
def aie:aI:=bX Kj Ye q4
def L36:aN:=(aN.nil).add 5 aie
theorem ahx:bT E g36 n36 L36 (ah Tryz.f36 0):=lk Kj Ye q4 fun X x=>((z4 (u x) X.1),X.2)
theorem o36:ai Tryz.prog 36 e36:=fk n36 (((((((base.add o38).add o90).add o91).add o92).add o93).add o94).add o95) Tryz.func36 (Λ:=L36) (cF ahx nF)
def e37:al:=ae [pf a8] [rB] (c1 Pu.eu)
theorem o37:ai Tryz.prog 37 e37:=f0 {merge:=mg [(1,2)]} (base.add Xk) Tryz.func37
def e39:al:=ae [pd (.sl de),pI,pf a8] [rI] (c3 Pu.jP)
theorem o39:ai Tryz.prog 39 e39:=f0 {merge:=mg [(1,24),(7,54)]} ((((base.add Xk).add wR).add o99).add Xc) Tryz.func39
def e40:al:=ae [pd (.sl de),pI,pf a8] [(false,(.sl (.own none) (.int .i64)))] (c3 Pu.js)
def g40:aJ:=((aJ.nil.add 39 e39).add 99 e99).add 102 YZ
def n40:An:={mask:=mk [(11,[0,1,7,8,33,34]),(17,[0,1,7,11,43,44,45])],merge:=mg [(19,60)],mv:=[37,61,66]}
@[reducible] def IL:SD:=⟨.data false (.sl .arg de)::DI::bs 5 (DI::B::B::B::.data false (.sl (.own (some 135168)) (.int .i64))::bs 31 (.data false (.sl .loc (.int .i64))::DI::DI::bs 21 [])),zs 67 [],.none⟩
def Wa {R:Type}(X:SD.D IL)(K:Ex→AS→Option R):=Pu.cj (fun y0 y1=>ke 2 K IL ((z3 (w y0 (z2 (u y1))) X.1),X.2)) X.1.1 X.1.2.1 (q2 X) (q4 X) (q5 X)
def ac2:aI:=bX IL Wa (fun X=>(q3 X,q6 X))
@[reducible] def IK:SD:=⟨.data false (.sl .arg de)::DI::bs 5 (DI::.data false (.sl (.own (some 98304)) (.int .i64))::bs 24 (DI::DI::bs 32 [])),zs 67 [],.none⟩
def V9 {R:Type}(X:SD.D IK)(K:Ex→AS→Option R):=Pu.eT (fun y0 y1=>ke 0 K IK ((z3 (w y0 (z1 (u y1))) X.1),X.2)) X.1.1 X.1.2.1 (q2 X) (q4 X)
def ac1:aI:=bX IK V9 (fun X=>(q3 X,q5 X))
def L40:aN:=((aN.nil).add 17 ac2).add 11 ac1
theorem aba:bT E g40 n40 L40 (ah Tryz.f40 1):=lk IL Wa (fun X=>(q3 X,q6 X)) fun X x=>((z3 (w x.1 (z2 (u x.2))) X.1),X.2)
theorem aa9:bT E g40 n40 L40 (ah Tryz.f40 0):=lk IK V9 (fun X=>(q3 X,q5 X)) fun X x=>((z3 (w x.1 (z1 (u x.2))) X.1),X.2)
theorem o40:ai Tryz.prog 40 e40:=fk n40 (((base.add o39).add o99).add akd) Tryz.func40 (Λ:=L40) (cF aa9 (cF aba nF))
def ano:al:=ae [pI] [rS] (c1 Pu.aS)
theorem Jj:ai Tryz.prog 301 ano:=f0 {} (base.add wR) Tryz.func301
def anj:al:=ae [pf dZ] [rS] (c1 Pu.kX)
theorem asd:ai Tryz.prog 296 anj:=f0 {} ((base.add Jj).add LV) Tryz.func296
def ank:al:=ae [pI,pI,pI,pI] [rS,rB] (c4 Pu.nW)
theorem ase:ai Tryz.prog 297 ank:=f0 {merge:=mg [(1,27)]} (((base.add wR).add Jj).add LV) Tryz.func297
def agJ:al:=ae [pI,pI] [rI] (c2 Pu.rL)
theorem atf:ai Tryz.prog 388 agJ:=f0 {merge:=mg [(1,12)]} (base.add wR) Tryz.func388
def an5:al:=ae [pd .str] [rI] (c1 Pu.p8)
def apJ:aJ:=aJ.nil.add 388 agJ
def ajS:An:={mask:=mk [(3,[0,3,4])]}
@[reducible] def Iv:SD:=⟨.data false .str::B::B::DI::DI::bs 28 [],zs 33 [],.none⟩
def VS {R:Type}(X:SD.D Iv)(K:Ex→AS→Option R):=Pu.kU (fun y0 y1=>ke 0 K Iv ((z1 (w y0 (u y1)) X.1),X.2)) X.1.1
def acK:aI:=bX Iv VS (fun X=>(X.1.2.1,q2 X))
def aeU:aN:=(aN.nil).add 3 acK
theorem aaS:bT E apJ ajS aeU (ah Tryz.f361 0):=lk Iv VS (fun X=>(X.1.2.1,q2 X)) fun X x=>((z1 (w x.1 (u x.2)) X.1),X.2)
theorem asT:ai Tryz.prog 361 an5:=fk ajS (base.add atf) Tryz.func361 (Λ:=aeU) (cF aaS nF)
def anl:al:=ae [pd .str] [rI] (c1 Pu.lU)
theorem akU:ai Tryz.prog 298 anl:=f0 {} (base.add asT) Tryz.func298
def anm:al:=ae [pd .str,pI,pd .str] [rS] (c3 Pu.iY)
theorem akV:ai Tryz.prog 299 anm:=f0 {merge:=mg [(1,17)]} base Tryz.func299
def ann:al:=ae [pI] [rI] (c1 Pu.l8)
theorem asf:ai Tryz.prog 300 ann:=f0 {} base Tryz.func300
def amf:al:=ae [pI,pI,pf dZ] [rS,rB] (c3 Pu.dK)
theorem akv:ai Tryz.prog 209 amf:=f0 {merge:=mg [(8,39)]} (((((((base.add akt).add asd).add ase).add akU).add akV).add asf).add Jj) Tryz.func209
def an6:al:=ae [pf XQ] [rB] (c1 Pu.Bn)
theorem asU:ai Tryz.prog 362 an6:=f0 {merge:=mg [(1,2)]} (base.add wR) Tryz.func362
def anp:al:=ae [pf XQ] [rS,rB] (c1 Pu.pZ)
theorem asg:ai Tryz.prog 302 anp:=f0 {} (((((base.add akU).add akV).add Jj).add LV).add asU) Tryz.func302
def amg:al:=ae [pf XQ] [rS,rB] (c1 Pu.nL)
theorem akw:ai Tryz.prog 210 amg:=f0 {} (base.add asg) Tryz.func210
def anq:al:=ae [pf Qs] [rB] (c1 Pu.sV)
theorem akW:ai Tryz.prog 303 anq:=f0 {merge:=mg [(1,2)]} (base.add wR) Tryz.func303
def anr:al:=ae [pI] [rS] (c1 Pu.qb)
theorem ash:ai Tryz.prog 304 anr:=f0 {} ((base.add Jj).add LV) Tryz.func304
def amh:al:=ae [pf Qs] [rS,rB] (c1 Pu.pU)
theorem arf:ai Tryz.prog 211 amh:=f0 {} (((base.add Jj).add akW).add ash) Tryz.func211
def ans:al:=ae [pd (.int .u8),pI] [rS] (c2 Pu.tT)
def apB:aJ:=aJ.nil
def ajK:An:={mask:=mk [(3,[0,5,10,11])]}
@[reducible] def Ir:SD:=⟨.data false (.int .u8)::bs 4 (.data false (.sl (.own (some 61440)) (.int .u8))::bs 4 (DI::DI::bs 9 [])),zs 21 [],.none⟩
def VK {R:Type}(X:SD.D Ir)(K:Ex→AS→Option R):=Pu.n7 (fun y0 y1=>ke 0 K Ir ((z1 (w y0 (z1 (u y1))) X.1),X.2)) X.1.1 (q2 X)
def acC:aI:=bX Ir VK (fun X=>(X.1.2.1,q3 X))
def aeM:aN:=(aN.nil).add 3 acC
theorem aaK:bT E apB ajK aeM (ah Tryz.f305 0):=lk Ir VK (fun X=>(X.1.2.1,q3 X)) fun X x=>((z1 (w x.1 (z1 (u x.2))) X.1),X.2)
theorem asi:ai Tryz.prog 305 ans:=fk ajK base Tryz.func305 (Λ:=aeM) (cF aaK nF)
def ami:al:=ae [pd .str] [rS] (c1 Pu.rO)
theorem arh:ai Tryz.prog 212 ami:=f0 {} (base.add asi) Tryz.func212
def alu:al:=ae [pf a8] [rS,rB] (c1 Pu.iB)
theorem ake:ai Tryz.prog 103 alu:=f0 {} (((((base.add Xk).add akv).add akw).add arf).add arh) Tryz.func103
def alv:al:=ae [pd .str] [rS] (c1 Pu.nZ)
theorem akf:ai Tryz.prog 104 alv:=f0 {} (base.add akx) Tryz.func104
def e41:al:=ae [pf a8] [rS,rB] (c1 Pu.mD)
theorem o41:ai Tryz.prog 41 e41:=f0 {} (((base.add o37).add ake).add akf) Tryz.func41
def e42:al:=ae [pd (.sl de),pI,pI,pf a8] [(true,Y0)] (c4 Pu.kO)
theorem o42:ai Tryz.prog 42 e42:=f0 {merge:=mg [(1,34)]} ((((base.add Xk).add wR).add o99).add Xc) Tryz.func42
def alC:al:=ae [pd .str] [rS,rB] (c1 Pu.pV)
theorem aqv:ai Tryz.prog 133 alC:=f0 {merge:=mg [(2,17)]} (base.add akf) Tryz.func133
def anG:al:=ae [pd .str,pI] [rI] (c2 Pu.cE)
theorem Xi:ai Tryz.prog 325 anG:=f0 {merge:=mg [(1,13)]} base Tryz.func325
def amH:al:=ae [pd .str] [(true,Y13),rB] (c1 Pu.p4)
theorem arF:ai Tryz.prog 239 amH:=f0 {merge:=mg [(4,33)],sb:=mg [(4,4)]} (((base.add TK).add akW).add Xi) Tryz.func239
def amI:al:=ae [pd .str] [(true,Y22),rB] (c1 Pu.rP)
theorem arG:ai Tryz.prog 240 amI:=f0 {merge:=mg [(2,22),(6,56)],sb:=mg [(5,5)]} (((base.add akw).add TK).add Xi) Tryz.func240
def amJ:al:=ae [pI,pI,pI,pd .str] [(true,(.pair (.int .i64) Y22)),rB] (c4 Pu.jr)
theorem arH:ai Tryz.prog 241 amJ:=f0 {merge:=mg [(3,20),(9,44),(12,68)]} (((base.add akv).add TK).add Xi) Tryz.func241
def alD:al:=ae [pd .str] [(true,Y0),rI] (c1 Pu.nX)
theorem aqw:ai Tryz.prog 134 alD:=f0 {merge:=mg [(2,20)]} ((((base.add Xk).add arF).add arG).add arH) Tryz.func134
def e64:al:=ae [pd .str] [(true,Y0),rI] (c1 Pu.jS)
theorem o64:ai Tryz.prog 64 e64:=f0 {} (((base.add o37).add aqv).add aqw) Tryz.func64
def alw:al:=ae [pf dc,pf a8] [rB] (c2 Pu.rK)
theorem ap4:ai Tryz.prog 105 alw:=f0 {merge:=mg [(1,4)]} ((base.add o99).add Xf) Tryz.func105
def an7:al:=ae [pI,pI,pI] [rB] (c3 Pu.iJ)
theorem asV:ai Tryz.prog 363 an7:=f0 {} base Tryz.func363
def agm:al:=ae [pf bH,pf a8] [rB] (c2 Pu.kQ)
theorem asj:ai Tryz.prog 306 agm:=f0 {merge:=mg [(1,4)]} ((((base.add Xk).add wR).add ak7).add asV) Tryz.func306
def amk:al:=ae [pd (.sl bH),pf a8] [rI] (c2 Pu.pX)
def api:aJ:=(aJ.nil.add 291 Zm).add 306 agm
def ajs:An:={mask:=mk [(5,[0,3,5,11,12,13])],merge:=mg [(7,34)]}
@[reducible] def Ii:SD:=⟨.data false (.sl .arg bH)::B::B::.ptr 3 0::B::DI::bs 5 (.data false (.sl .arg bH)::DI::DI::bs 24 []),Z::Z::Z::(some Y0)::zs 34 [],.none⟩
def Vp {R:Type}(X:SD.D Ii)(K:Ex→AS→Option R):=Pu.kL (fun y0 y1=>ke 0 K Ii ((z1 (w y0 (z2 (u y1))) X.1),X.2)) X.1.1 (q2 X) (q3 X) X.2.1.1
def acf:aI:=bX Ii Vp (fun X=>(X.1.2.1,q4 X))
def aeu:aN:=(aN.nil).add 5 acf
theorem aap:bT E api ajs aeu (ah Tryz.f214 0):=lk Ii Vp (fun X=>(X.1.2.1,q4 X)) fun X x=>((z1 (w x.1 (z2 (u x.2))) X.1),X.2)
theorem ari:ai Tryz.prog 214 amk:=fk ajs ((base.add akR).add asj) Tryz.func214 (Λ:=aeu) (cF aap nF)
def aml:al:=ae [pf (.sl bn),pf cW] [rI] (c2 Pu.pW)
theorem arj:ai Tryz.prog 215 aml:=f0 {} ((base.add akS).add akX) Tryz.func215
def amm:al:=ae [pf a8] [(true,(.pair (.int .i64) Y1))] (c1 Pu.qE)
theorem aky:ai Tryz.prog 216 amm:=f0 {} base Tryz.func216
def Zp:al:=ae [pd .str,pI] [rI] (c2 Pu.qG)
theorem alh:ai Tryz.prog 411 Zp:=f0 {} base Tryz.func411
def agP:al:=ae [pd .str,pI] [rI] (c2 Pu.nR)
def apZ:aJ:=(aJ.nil.add 97 QD).add 411 Zp
def aj8:An:={mask:=mk [(5,[0,1,5,6])],merge:=mg [(1,14)]}
@[reducible] def IM:SD:=⟨.data false .str::DI::B::B::B::DI::DI::bs 22 [],zs 29 [],.none⟩
def Wb {R:Type}(X:SD.D IM)(K:Ex→AS→Option R):=Pu.jq (fun y0 y1=>ke 0 K IM ((z2 (w y0 (u y1)) X.1),X.2)) X.1.1 X.1.2.1
def ac3:aI:=bX IM Wb (fun X=>(q2 X,q3 X))
def afa:aN:=(aN.nil).add 5 ac3
theorem abb:bT E apZ aj8 afa (ah Tryz.f412 0):=lk IM Wb (fun X=>(q2 X,q3 X)) fun X x=>((z2 (w x.1 (u x.2)) X.1),X.2)
theorem aty:ai Tryz.prog 412 agP:=fk aj8 ((base.add wR).add alh) Tryz.func412 (Λ:=afa) (cF abb nF)
def aor:al:=ae [pd .str,pd .str] [rI] (c2 Pu.nO)
def apR:aJ:=(aJ.nil.add 411 Zp).add 412 agP
def aj0:An:={mask:=mk [(5,[0,1,5,6])],merge:=mg [(1,14)]}
@[reducible] def IC:SD:=⟨.data false .str::.data false .str::B::B::B::DI::DI::bs 25 [],zs 32 [],.none⟩
def V0 {R:Type}(X:SD.D IC)(K:Ex→AS→Option R):=Pu.jo (fun y0 y1=>ke 0 K IC ((z2 (w y0 (u y1)) X.1),X.2)) X.1.1 X.1.2.1
def acS:aI:=bX IC V0 (fun X=>(q2 X,q3 X))
def ae2:aN:=(aN.nil).add 5 acS
theorem aa0:bT E apR aj0 ae2 (ah Tryz.f389 0):=lk IC V0 (fun X=>(q2 X,q3 X)) fun X x=>((z2 (w x.1 (u x.2)) X.1),X.2)
theorem atg:ai Tryz.prog 389 aor:=fk aj0 ((base.add alh).add aty) Tryz.func389 (Λ:=ae2) (cF aa0 nF)
def aos:al:=ae [pf cW] [rS] (c1 Pu.nP)
theorem ath:ai Tryz.prog 390 aos:=f0 {} ((base.add Jj).add LV) Tryz.func390
def an8:al:=ae [pd .str,pf cW] [rI] (c2 Pu.lX)
theorem ak8:ai Tryz.prog 364 an8:=f0 {} ((base.add atg).add ath) Tryz.func364
def ant:al:=ae [pf eR,pf cW] [rI] (c2 Pu.rN)
theorem asl:ai Tryz.prog 308 ant:=f0 {merge:=mg [(2,17)]} (base.add ak8) Tryz.func308
def amn:al:=ae [pf eR,pI,pf cW] [rI] (c3 Pu.kS)
theorem ark:ai Tryz.prog 217 amn:=f0 {merge:=mg [(2,18)]} ((base.add akT).add asl) Tryz.func217
def alx:al:=ae [pf cH,pI,pf a8] [rI] (c3 Pu.kT)
theorem ap5:ai Tryz.prog 106 alx:=f0 {merge:=mg [(1,17)]} ((((((base.add Xk).add aks).add ari).add arj).add aky).add ark) Tryz.func106
def anu:al:=ae [pf a8,pf a8] [rB] (c2 Pu.p6)
theorem asm:ai Tryz.prog 309 anu:=f0 {} base Tryz.func309
def amo:al:=ae [pf lM,pf a8] [rB] (c2 Pu.nM)
theorem akz:ai Tryz.prog 218 amo:=f0 {merge:=mg [(1,42),(4,76),(6,4)]} (((((base.add o37).add Xk).add wR).add aku).add asm) Tryz.func218
def amp:al:=ae [pf lM,pf a8] [(true,Y23)] (c2 Pu.xN)
theorem arl:ai Tryz.prog 219 amp:=f0 {} (base.add akz) Tryz.func219
def agQ:al:=ae [pd (.sl aB),pI,pI,pd .bool] [rI] (c4 Pu.vx)
theorem atz:ai Tryz.prog 413 agQ:=f0 {merge:=mg [(4,29)]} (base.add akO) Tryz.func413
def WC:al:=ae [pf (.sl .str),pI,pI] [rB] (c3 Pu.nq)
theorem ady:ai Tryz.prog 414 WC:=f0 {merge:=mg [(2,6)]} (base.add adq) Tryz.func414
def Zn:al:=ae [pd (.sl aB),pf (.sl .str),pI,pI,pI,pd .bool] [(false,(.sl (.own none) (.pair (.int .i64) (.int .i64)))),rB] (c6 Pu.qI)
def apS:aJ:=((((aJ.nil.add 97 QD).add 194 Zg).add 195 Zh).add 413 agQ).add 414 WC
def aj1:An:={mask:=mk [(8,[0,2,3,4,5,7,12,13,14])],merge:=mg [(1,29),(11,55),(16,73)],mv:=[56,74]}
@[reducible] def D2:SD:=⟨.data false (.sl .arg aB)::B::DI::DI::DI::DB::B::.ptr 7 0::bs 4 (.data false (.sl (.own (some 147456)) (.pair (.int .i64) (.int .i64)))::DB::.data false (.sl (.own (some 172032)) (.pair (.int .i64) (.int .i64)))::bs 60 []),zs 7 ((some (.sl .arg .str))::zs 67 []),.none⟩
def V2 {R:Type}(X:SD.D D2)(K:Ex→AS→Option R):=Pu.jV (fun y0 y1 y2=>ke 0 K D2 ((z2 (w y0 (w y1 (z3 (u y2)))) X.1),X.2)) (fun y0 y1 y2 y3 y4=>kr K D2 ((z2 (w y0 (w y1 (z1 (w y2 (w y3 (u y4)))))) X.1),X.2)) X.1.1 X.1.2.1 (q4 X) (q5 X) (q6 X) X.2.1.1
def acU:aI:=bX D2 V2 (fun X=>(q2 X,q3 X,q7 X))
def ae3:aN:=(aN.nil).add 8 acU
theorem aa2:bT E apS aj1 ae3 (ah Tryz.f391 0):=lk D2 V2 (fun X=>(q2 X,q3 X,q7 X)) fun X x=>((z2 (w x.1 (w x.2.1 (z3 (u x.2.2)))) X.1),X.2)
theorem ald:ai Tryz.prog 391 Zn:=fk aj1 (((((base.add wR).add adq).add akq).add atz).add ady) Tryz.func391 (Λ:=ae3) (cF aa2 nF)
def agK:al:=ae [pf (.sl .str),pI,pI] [rS,rB] (c3 Pu.iG)
def apT:aJ:=aJ.nil.add 414 WC
def aj2:An:={mask:=mk [(4,[1,2,3,8])],mv:=[41]}
@[reducible] def IE:SD:=⟨B::DI::DI::.ptr 3 0::bs 4 (.data false (.sl (.own (some 98304)) (.int .u8))::bs 41 []),Z::Z::Z::(some (.sl .arg .str))::zs 46 [],.none⟩
def V3 {R:Type}(X:SD.D IE)(K:Ex→AS→Option R):=Pu.eK (fun y0 y1=>ke 0 K IE ((w y0 (z1 (u y1)) X.1),X.2)) X.1.2.1 X.2.1.1
def acV:aI:=bX IE V3 (fun X=>(X.1.1,q2 X))
def ae4:aN:=(aN.nil).add 4 acV
theorem aa3:bT E apT aj2 ae4 (ah Tryz.f392 0):=lk IE V3 (fun X=>(X.1.1,q2 X)) fun X x=>((w x.1 (z1 (u x.2)) X.1),X.2)
theorem ati:ai Tryz.prog 392 agK:=fk aj2 (base.add ady) Tryz.func392 (Λ:=ae4) (cF aa3 nF)
def an9:al:=ae [pd (.sl aB),pf (.sl .str),pI,pI,pI] [rS,rB] (c5 Pu.rM)
def apK:aJ:=(aJ.nil.add 391 Zn).add 392 agK
def ajT:An:={mask:=mk [(6,[6,14,30,31,32])]}
@[reducible] def Iw:SD:=⟨bs 6 (.ptr 6 0::bs 7 (.data false .str::bs 15 (.data false (.sl .loc (.pair (.int .i64) (.int .i64)))::DI::DI::bs 17 []))),zs 6 ((some (.sl .arg .str))::zs 43 []),.none⟩
def VT {R:Type}(X:SD.D Iw)(K:Ex→AS→Option R):=Pu.mF (fun y0 y1=>ke 0 K Iw ((w y0 (z2 (u y1)) X.1),X.2)) X.1.2.1 (q2 X) X.2.1.1
def acL:aI:=bX Iw VT (fun X=>(X.1.1,q3 X))
def aeV:aN:=(aN.nil).add 6 acL
theorem aaT:bT E apK ajT aeV (ah Tryz.f365 0):=lk Iw VT (fun X=>(X.1.1,q3 X)) fun X x=>((w x.1 (z2 (u x.2)) X.1),X.2)
theorem asW:ai Tryz.prog 365 an9:=fk ajT ((base.add ald).add ati) Tryz.func365 (Λ:=aeV) (cF aaT nF)
def aoa:al:=ae [pf cS,pI] [rI] (c2 Pu.kR)
theorem asX:ai Tryz.prog 366 aoa:=f0 {merge:=mg [(1,11)]} (base.add Xh) Tryz.func366
def anv:al:=ae [pd (.sl aB),pf (.sl .str),pI,pf cS] [rS,(true,Y1),rB] (c4 Pu.p5)
theorem asn:ai Tryz.prog 310 anv:=f0 {merge:=mg [(1,20)],sb:=mg [(9,9)]} ((((base.add Xh).add ak6).add asW).add asX) Tryz.func310
def aoG:al:=ae [pf Gi] [rB] (c1 Pu.tQ)
theorem atA:ai Tryz.prog 415 aoG:=f0 {merge:=mg [(1,2)]} (base.add wR) Tryz.func415
def aot:al:=ae [pf Gi] [rS] (c1 Pu.mG)
theorem atj:ai Tryz.prog 393 aot:=f0 {} (((base.add Jj).add LV).add atA) Tryz.func393
def aob:al:=ae [pd .str] [(true,Y26),rB] (c1 Pu.mE)
theorem asY:ai Tryz.prog 367 aob:=f0 {sb:=mg [(4,4)]} (((base.add TK).add Xi).add atj) Tryz.func367
def agR:al:=ae [pf (.sl .str),pI,pd .str] [(true,(.sl (.own none) .str)),rB] (c3 Pu.kW)
def ap0:aJ:=(aJ.nil.add 187 WB).add 414 WC
def aj9:An:={mask:=mk [(4,[1,2,6,8])],nest:=[33],mv:=[19,49]}
@[reducible] def IP:SD:=⟨B::DI::.data false .str::B::B::B::.ptr 6 0::B::.ptr 8 0::bs 41 [],zs 6 ((some (.sl (.own (some 73729)) .str))::Z::(some (.sl (.own (some 98305)) .str))::zs 41 []),.none⟩
def Wc {R:Type}(X:SD.D IP)(K:Ex→AS→Option R):=Pu.gr (fun y0 y1 y2=>ke 0 K IP ((w y0 (u y1) X.1),(z1 (u y2) X.2.1),X.2.2)) X.2.1.1
def ac4:aI:=bX IP Wc (fun X=>(X.1.1,X.1.2.1,X.2.1.2.1))
def afb:aN:=(aN.nil).add 4 ac4
theorem abc:bT E ap0 aj9 afb (ah Tryz.f416 0):=lk IP Wc (fun X=>(X.1.1,X.1.2.1,X.2.1.2.1)) fun X x=>((w x.1 (u x.2.1) X.1),(z1 (u x.2.2) X.2.1),X.2.2)
theorem atB:ai Tryz.prog 416 agR:=fk aj9 ((base.add Rp).add ady) Tryz.func416 (Λ:=afb) (cF abc nF)
def aou:al:=ae [pd (.sl aB),pf (.sl .str),pI,pI,pd .str,pd .bool] [(true,(.sl (.own none) .str)),rB] (c6 Pu.Ab)
def apU:aJ:=((aJ.nil.add 187 WB).add 391 Zn).add 416 agR
def aj3:An:={mask:=mk [(6,[4,12,14,35,36,37])],mv:=[34,41,50,57],sb:=mg [(14,14)]}
@[reducible] def IG:SD:=⟨bs 4 (.data false .str::bs 7 (.ptr 12 0::B::.ptr 14 0::bs 20 (.data false (.sl .loc (.pair (.int .i64) (.int .i64)))::DI::DI::bs 20 []))),zs 12 ((some (.sl (.own (some 147457)) .str))::Z::(some (.sl (.own (some 172033)) .str))::zs 43 []),.none⟩
def V4 {R:Type}(X:SD.D IG)(K:Ex→AS→Option R):=Pu.qH (fun y0 y1 y2=>ke 0 K IG ((w y0 (z2 (u y1)) X.1),(z1 (u y2) X.2.1),X.2.2)) X.1.2.1 (q2 X) X.2.1.1
def acW:aI:=bX IG V4 (fun X=>(X.1.1,q3 X,X.2.1.2.1))
def ae5:aN:=(aN.nil).add 6 acW
theorem aa4:bT E apU aj3 ae5 (ah Tryz.f394 0):=lk IG V4 (fun X=>(X.1.1,q3 X,X.2.1.2.1)) fun X x=>((w x.1 (z2 (u x.2.1)) X.1),(z1 (u x.2.2) X.2.1),X.2.2)
theorem atk:ai Tryz.prog 394 aou:=fk aj3 (((base.add Rp).add ald).add atB) Tryz.func394 (Λ:=ae5) (cF aa4 nF)
def aoc:al:=ae [pd (.sl aB),pf (.sl .str),pI,pI,pd .str] [(true,(.sl (.own none) .str)),rB] (c5 Pu.lW)
theorem ak9:ai Tryz.prog 368 aoc:=f0 {} (base.add atk) Tryz.func368
def aov:al:=ae [pf cW] [rB] (c1 Pu.fC)
theorem ale:ai Tryz.prog 395 aov:=f0 {merge:=mg [(1,2)]} (base.add wR) Tryz.func395
def aow:al:=ae [pf cr] [rI] (c1 Pu.k8)
theorem atl:ai Tryz.prog 396 aow:=f0 {} base Tryz.func396
def aox:al:=ae [pf cW,pI] [rS] (c2 Pu.eS)
theorem atm:ai Tryz.prog 397 aox:=f0 {merge:=mg [(1,12)]} ((((base.add wR).add Jj).add LV).add ale) Tryz.func397
def aoy:al:=ae [pf cr] [rI] (c1 Pu.rT)
theorem atn:ai Tryz.prog 398 aoy:=f0 {} base Tryz.func398
def aod:al:=ae [pd (.sl aB),pf (.sl .str),pI,pf cr,pf cW] [(true,(.sl (.own none) .str)),(true,Y4),rB] (c5 Pu.ib)
theorem asZ:ai Tryz.prog 369 aod:=f0 {merge:=mg [(1,22)],mv:=[26,37,41,51],mb:=mg [(41,13),(51,13)],sb:=mg [(10,10),(11,11),(13,13)]} (((((((base.add Rp).add akP).add ak9).add ale).add atl).add atm).add atn) Tryz.func369
def anw:al:=Nm [pd (.sl aB),pf (.sl .str),pI,pf aG,pd .str,pd .str] [(true,(.sl (.own none) .str)),(true,Y4),rB] [(true,(.sl .arg .str)),(true,Y4),rB] rfl fun a=>Pu.n9 a.1 a.2.1 a.2.2.1 a.2.2.2.1 a.2.2.2.2.1 a.2.2.2.2.2.1
theorem aso:ai Tryz.prog 311 anw:=ai.ofAlt (agU (an:={merge:=mg [(3,50)],sb:=mg [(12,12),(13,13),(20,20)]}) (Λ:=aN.nil) (by rfl) ((((((base.add ake).add aky).add ak8).add asY).add ak9).add asZ) Tryz.func311 (by kernel_rfl) (hF (by kernel_rfl) nF)) (fun a=>by kernel_rfl)
def amq:al:=ae [pd (.sl aB),pf (.sl .str),pI,pf aG,pd .str] [(true,(.sl (.own none) .str)),(true,Y14)] (c5 Pu.jQ)
theorem arn:ai Tryz.prog 220 amq:=f0 {merge:=mg [(1,31)],mv:=[52,66],mb:=mg [(66,16)],sb:=mg [(10,10),(11,11)]} ((((base.add Rp).add adr).add asn).add aso) Tryz.func220
def amr:al:=ae [pf a8] [(true,Y23)] (c1 Pu.xa)
theorem aro:ai Tryz.prog 221 amr:=f0 {} base Tryz.func221
def aly:al:=ae [pd (.sl aB),pf (.sl .str),pI,pf aG,pd .str,pf a8,pd .bool] [(true,(.sl (.own none) .str)),(true,Y14)] (c7 Pu.ic)
theorem ap6:ai Tryz.prog 107 aly:=f0 {merge:=mg [(1,30),(3,44)],mv:=[53,68,77],mb:=mg [(77,16)],sb:=mg [(14,14),(15,15)]} (((((((base.add o37).add Rp).add adr).add akz).add arl).add arn).add aro) Tryz.func107
def anx:al:=ae [pf aZ] [(true,Y15)] (c1 Pu.rR)
theorem asp:ai Tryz.prog 312 anx:=f0 {merge:=mg [(1,9)]} (base.add akQ) Tryz.func312
def af2:al:=ae [pf aZ] [(true,Y15)] (c1 Pu.pS)
theorem arp:ai Tryz.prog 223 af2:=f0 {} ((base.add akr).add asp) Tryz.func223
def alz:al:=Ed ba [pI,pI] [] fun x a=>Pu.gD x a.1 a.2.1
def agW:aJ:=(aJ.nil.add 222 Zk).add 223 af2
def aiL:An:={mask:=mk [(2,[0,1,7])]}
@[reducible] def HS:SD:=⟨.ptr 0 0::DI::bs 5 (DI::bs 34 []),(some Y7)::zs 41 [],.ptr⟩
def Ux {R:Type}(X:SD.D HS)(K:Ex→AS→Option R):=Pu.jt (fun y0 y1=>ke 0 K HS ((z1 (u y0) X.1),(u y1 X.2.1),X.2.2)) X.1.1
def abm:aI:=bX HS Ux (fun X=>(X.1.2.1,X.2.1.1))
def adN:aN:=(aN.nil).add 2 abm
theorem Zy:bT E agW aiL adN (ah Tryz.f108 0):=lk HS Ux (fun X=>(X.1.2.1,X.2.1.1)) fun X x=>((z1 (u x.1) X.1),(u x.2 X.2.1),X.2.2)
theorem ap7:ai Tryz.prog 108 alz:=ai.TM (SQ (Γ:=agW) (an:=aiL) (Λ:=adN) ((base.add adt).add arp) Tryz.func108 (by kernel_rfl) (hF (by kernel_rfl) (cF Zy nF))) (fun x a=>by kernel_rfl)
def e43:al:=ae [pf ba,pd .str] [(true,Y2)] (c2 Pu.kN)
theorem o43:ai Tryz.prog 43 e43:=f0 {mv:=[14,34,46,62,69,90,103],sb:=mg [(92,5)]} (((((((base.add o64).add o89).add o90).add ap4).add ap5).add ap6).add ap7) Tryz.func43
def e10:al:=ae [pf bU,pI,pf a8] [(true,Y5)] (c3 Pu.iC)
def g10:aJ:=((((((((aJ.nil.add 35 e35).add 36 e36).add 37 e37).add 38 e38).add 39 e39).add 40 e40).add 41 e41).add 42 e42).add 43 e43
def n10:An:={mask:=mk [(7,[5,6,7,8,10,39,40,41])],merge:=mg [(2,24)],mv:=[25,26,57,76]}
@[reducible] def O3:SD:=⟨bs 5 (.ptr 5 0::.ptr 6 0::.ptr 7 0::.data false (.sl (.own (some 98304)) de)::B::DI::bs 28 (.data false (.sl (.own (some 479232)) (.int .i64))::DI::DI::bs 35 [])),zs 5 ((some Y0)::(some (.pair (.sl (.own (some 73729)) ba) (.pair (.sl (.own (some 73732)) ak) (.pair (.sl (.own (some 73735)) aE) (.pair (.sl (.own (some 73738)) .str) (.pair Y1 (.pair (.sl (.own (some 73753)) (.int .i64)) (.sl (.own (some 73756)) .str))))))))::(some (.pair (.sl (.own (some 86017)) ba) (.pair (.sl (.own (some 86020)) ak) (.pair (.sl (.own (some 86023)) aE) (.pair (.sl (.own (some 86026)) .str) (.pair Y1 (.pair (.sl (.own (some 86041)) (.int .i64)) (.sl (.own (some 86044)) .str))))))))::zs 69 []),.none⟩
def X0 {R:Type}(X:SD.D O3)(K:Ex→AS→Option R):=Pu.eJ (fun y0 y1=>ke 0 K O3 ((z4 (u y0) X.1),(z2 (u y1) X.2.1),X.2.2)) X.1.1 X.1.2.1 (q2 X) (q3 X) X.2.1.1 X.2.1.2.1
def ah0:aI:=bX O3 X0 (fun X=>(q4 X,X.2.1.2.2.1))
def L10:aN:=(aN.nil).add 7 ah0
theorem ahj:bT E g10 n10 L10 (ah Tryz.f10 0):=lk O3 X0 (fun X=>(q4 X,X.2.1.2.2.1)) fun X x=>((z4 (u x.1) X.1),(z2 (u x.2) X.2.1),X.2.2)
theorem o10:ai Tryz.prog 10 e10:=fk n10 (((((((((base.add o35).add o36).add o37).add o38).add o39).add o40).add o41).add o42).add o43) Tryz.func10 (Λ:=L10) (cF ahj nF)
def e15:al:=ae [pf bU,pd .str] [(true,Y5)] (c2 Pu.gB)
theorem o15:ai Tryz.prog 15 e15:=f0 {mv:=[13,15,32]} ((((base.add o10).add o35).add o36).add o64) Tryz.func15
@[reducible] def fc:List PS:=[pf bU,pd .str]
def lI:al:=ae fc [rB] (c2 Pu.gG)
theorem tK:ai Tryz.prog 4 lI:=f0 {merge:=mg [(16,49)]} (((((((base.add o5).add o8).add o11).add o12).add o13).add o14).add o15) Tryz.func4
end
end Go.Proofs.YtgilglpncgncjaaGreat.Fn
