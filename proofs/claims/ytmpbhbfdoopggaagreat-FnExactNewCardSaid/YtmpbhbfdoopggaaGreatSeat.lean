import Derived.Test.YtmpbhbfdoopggaaGreatDnSig
import Derived.Test.YtmpbhbfdoopggaaGreatPure
import Derived.Test.YtmpbhbfdoopggaaGreatRows
/- Each function of the program is its pure function (made by gen.py). -/
namespace Go.Proofs.YtmpbhbfdoopggaaGreat.Fn
open Go.Dn
open Go.Pu (cn aw bt jN He aQ cK aK cm ur aB cu SI cc df iK rQ uu ba bh bd bB ao mN jO qW yR)
set_option maxRecDepth 100000
set_option linter.unusedVariables false
noncomputable section
abbrev B:PD:= .bot
abbrev DI:PD:= .data false (.int .i64)
abbrev DB:PD:= .data false .bool
abbrev Z:Option FT:=none
theorem nF {p:Code→Prop}:∀x∈([]:List Code),p x:=fun _ h=>nomatch h
theorem cF {p:Code→Prop}{a:Code}{l:List Code}(h:p a)(t:∀x∈l,p x):∀x∈a::l,p x:=List.forall_mem_cons.2 ⟨h,t⟩
theorem hF {p:Code→Prop}{l m:List Code}(e:l=m)(h:∀x∈m,p x):∀x∈l,p x:=e▸h
theorem fk {P:Program}{E:Env}{Γ:aJ}{s:List PS}{rs:List (Bool×FT)}{F:sQ s→Option (dB rs)}{f:Nat}{fn:Func}(an:An)(hS:Sound P E Γ)(hf:P.funcs[f]?=some fn){Λ:aO}{l:List Code}(h:∀c∈l,bZ E Γ an Λ c)(hn:(fn.name== "runtime.NumGoroutine")=false:=by kernel_rfl)(hl:cy (fn.body.getD .skip)=l:=by kernel_rfl)(hF:∀a,AW E Γ an Λ fn rs (fe s a)=F a:=by intro a;kernel_rfl):ak P f (ah s rs F):=ak.of (Uk hS hf hn (Fn.hF hl h)) hF
@[reducible] def pd (t:CT):PS:= .data false t
@[reducible] def pf (t:CT):PS:= .data true t
@[reducible] def pI:PS:= .data false (.int .i64)
@[reducible] def rB:Bool×FT:=(false,.bool)
@[reducible] def rI:Bool×FT:=(false,.int .i64)
@[reducible] def rS:Bool×FT:=(false,.str)
@[reducible] def bs:Nat→List PD→List PD|0,l=>l|n+1,l=> .bot::bs n l
@[reducible] def zs:Nat→List (Option FT)→List (Option FT)|0,l=>l|n+1,l=>none::zs n l
def mk (l:List (Nat×List Nat))(n:Nat):List Nat:=(l.lookup n).getD []
def mg (l:List (Nat×Nat))(n:Nat):Option Nat:=l.lookup n
def ke {R:Type}(n:Nat)(K:Ex→AS→Option R)(d:SD)(x:SD.D d):Option R:=K (.exit n) (SD.enc d x)
def kr {R:Type}(K:Ex→AS→Option R)(d:SD)(x:SD.D d):Option R:=K .ret (SD.enc d x)
def cj {σ:Type}(d:SD)(t:{R:Type}→SD.D d→(Ex→AS→Option R)→(σ→Option R)→σ→Option R)(i:SD.D d→σ):aL:=⟨d,fun X K=>aj (t X K) fuel (i X)⟩
theorem lk {E:Env}{Γ:aJ}{an:An}{Λ:aO}{c:Code}{σ:Type}(d:SD)(t:{R:Type}→SD.D d→(Ex→AS→Option R)→(σ→Option R)→σ→Option R)(i:SD.D d→σ)(w:SD.D d→σ→SD.D d)(h1:Λ (bU c)=cj d t i:=by kernel_rfl)(h:∀(R:Type)(X:SD.D d)(K:Ex→AS→Option R)(m:Nat)(x:σ),qT (an.mask (bU c)) (den E Γ an Λ c) (m+1) (SD.enc d (w X x)) K=t X K (fun y=>qT (an.mask (bU c)) (den E Γ an Λ c) m (SD.enc d (w X y)) K) x:=by intro R X K m x;kernel_rfl)(hw:∀X,w X (i X)=X:=by intro X;kernel_rfl):bZ E Γ an Λ c:=lok (cj d t i) h1 fuel fun R X K=>(zt (fun x=>SD.enc d (w X x)) (t X K) (h R X K) fuel (i X)).symm.trans (congrArg (fun y=>qT (an.mask (bU c)) (den E Γ an Λ c) fuel (SD.enc d y) K) (hw X))
def u {A B:Type}(y:A)(x:A×B):A×B:=(y,x.2)
def w {A B:Type}(y:A)(f:B→B)(x:A×B):A×B:=(y,f x.2)
def z1 {A0 B:Type}(f:B→B)(x:A0×B):A0×B:=(x.1,f x.2)
def z2 {A0 A1 B:Type}(f:B→B)(x:A0×A1×B):A0×A1×B:=(x.1,x.2.1,f x.2.2)
def z3 {A0 A1 A2 B:Type}(f:B→B)(x:A0×A1×A2×B):A0×A1×A2×B:=(x.1,x.2.1,x.2.2.1,f x.2.2.2)
def z4 {A0 A1 A2 A3 B:Type}(f:B→B)(x:A0×A1×A2×A3×B):A0×A1×A2×A3×B:=(x.1,x.2.1,x.2.2.1,x.2.2.2.1,f x.2.2.2.2)
def z5 {A0 A1 A2 A3 A4 B:Type}(f:B→B)(x:A0×A1×A2×A3×A4×B):A0×A1×A2×A3×A4×B:=(x.1,x.2.1,x.2.2.1,x.2.2.2.1,x.2.2.2.2.1,f x.2.2.2.2.2)
def z6 {A0 A1 A2 A3 A4 A5 B:Type}(f:B→B)(x:A0×A1×A2×A3×A4×A5×B):A0×A1×A2×A3×A4×A5×B:=(x.1,x.2.1,x.2.2.1,x.2.2.2.1,x.2.2.2.2.1,x.2.2.2.2.2.1,f x.2.2.2.2.2.2)
def z7 {A0 A1 A2 A3 A4 A5 A6 B:Type}(f:B→B)(x:A0×A1×A2×A3×A4×A5×A6×B):A0×A1×A2×A3×A4×A5×A6×B:=(x.1,x.2.1,x.2.2.1,x.2.2.2.1,x.2.2.2.2.1,x.2.2.2.2.2.1,x.2.2.2.2.2.2.1,f x.2.2.2.2.2.2.2)
def q2 {A0 A1 A2 B C:Type}(x:(A0×A1×A2×B)×C):A2:=x.1.2.2.1
def q3 {A0 A1 A2 A3 B C:Type}(x:(A0×A1×A2×A3×B)×C):A3:=x.1.2.2.2.1
def q4 {A0 A1 A2 A3 A4 B C:Type}(x:(A0×A1×A2×A3×A4×B)×C):A4:=x.1.2.2.2.2.1
def q5 {A0 A1 A2 A3 A4 A5 B C:Type}(x:(A0×A1×A2×A3×A4×A5×B)×C):A5:=x.1.2.2.2.2.2.1
def q6 {A0 A1 A2 A3 A4 A5 A6 B C:Type}(x:(A0×A1×A2×A3×A4×A5×A6×B)×C):A6:=x.1.2.2.2.2.2.2.1
def q7 {A0 A1 A2 A3 A4 A5 A6 A7 B C:Type}(x:(A0×A1×A2×A3×A4×A5×A6×A7×B)×C):A7:=x.1.2.2.2.2.2.2.2.1
def q8 {A0 A1 A2 A3 A4 A5 A6 A7 A8 B C:Type}(x:(A0×A1×A2×A3×A4×A5×A6×A7×A8×B)×C):A8:=x.1.2.2.2.2.2.2.2.2.1
def q9 {A0 A1 A2 A3 A4 A5 A6 A7 A8 A9 B C:Type}(x:(A0×A1×A2×A3×A4×A5×A6×A7×A8×A9×B)×C):A9:=x.1.2.2.2.2.2.2.2.2.2.1
def Ru {A0 A1 A2 A3 A4 A5 A6 A7 A8 A9 A10 B C:Type}(x:(A0×A1×A2×A3×A4×A5×A6×A7×A8×A9×A10×B)×C):A10:=x.1.2.2.2.2.2.2.2.2.2.2.1
def c1 {A0 B R:Type}(f:A0→R)(a:A0×B):R:=f a.1
def c2 {A0 A1 B R:Type}(f:A0→A1→R)(a:A0×A1×B):R:=f a.1 a.2.1
def c3 {A0 A1 A2 B R:Type}(f:A0→A1→A2→R)(a:A0×A1×A2×B):R:=f a.1 a.2.1 a.2.2.1
def c4 {A0 A1 A2 A3 B R:Type}(f:A0→A1→A2→A3→R)(a:A0×A1×A2×A3×B):R:=f a.1 a.2.1 a.2.2.1 a.2.2.2.1
def c5 {A0 A1 A2 A3 A4 B R:Type}(f:A0→A1→A2→A3→A4→R)(a:A0×A1×A2×A3×A4×B):R:=f a.1 a.2.1 a.2.2.1 a.2.2.2.1 a.2.2.2.2.1
def c6 {A0 A1 A2 A3 A4 A5 B R:Type}(f:A0→A1→A2→A3→A4→A5→R)(a:A0×A1×A2×A3×A4×A5×B):R:=f a.1 a.2.1 a.2.2.1 a.2.2.2.1 a.2.2.2.2.1 a.2.2.2.2.2.1
theorem f0 {P:Program}{E:Env}{Γ:aJ}{s:List PS}{rs:List (Bool×FT)}{F:sQ s→Option (dB rs)}{f:Nat}{fn:Func}(an:An)(hS:Sound P E Γ)(hf:P.funcs[f]?=some fn)(hn:(fn.name== "runtime.NumGoroutine")=false:=by kernel_rfl)(hl:cy (fn.body.getD .skip)=[]:=by kernel_rfl)(hF:∀a,AW E Γ an aO.nil fn rs (fe s a)=F a:=by intro a;kernel_rfl):ak P f (ah s rs F):=ak.of (Uk hS hf hn (Fn.hF hl nF)) hF
@[reducible] def Y6:FT:= .pair (.int .i64) (.pair (.int .i64) (.int .i64))
@[reducible] def Y2:FT:= .pair (.int .i64) Y6
@[reducible] def Y0:FT:= .pair (.sl (.own (some 196609)) .str) (.pair (.sl (.own (some 196612)) aB) (.pair (.pair Y2 (.pair (.pair (.int .i64) (.pair (.int .i64) (.pair (.int .i64) (.sl (.own (some 196636)) (.int .i64))))) (.pair (.sl (.own (some 196639)) df) (.int .i64)))) (.pair (.sl (.own (some 196645)) ba) (.pair (.sl (.own (some 196648)) cc) (.pair (.sl (.own (some 196651)) bh) (.pair (.sl (.own (some 196654)) .bool) (.pair (.pair (.int .i64) (.pair .bool (.sl (.own (some 196663)) (.int .i64)))) (.pair (.pair (.sl (.own (some 196666)) bt) (.pair (.sl (.own (some 196669)) aQ) (.pair .str (.sl (.own (some 196675)) (.int .i64))))) (.pair (.sl (.own (some 196678)) bd) (.pair .bool (.pair (.sl (.own (some 196684)) .str) (.pair (.sl (.own (some 196687)) (.int .i64)) (.pair (.sl (.own (some 196690)) (.int .i64)) (.pair (.int .i64) Y2))))))))))))))
@[reducible] def Y1:FT:= .pair (.sl (.own (some 147457)) .str) (.pair (.sl (.own (some 147460)) aB) (.pair (.pair Y2 (.pair (.pair (.int .i64) (.pair (.int .i64) (.pair (.int .i64) (.sl (.own (some 147484)) (.int .i64))))) (.pair (.sl (.own (some 147487)) df) (.int .i64)))) (.pair (.sl (.own (some 147493)) ba) (.pair (.sl (.own (some 147496)) cc) (.pair (.sl (.own (some 147499)) bh) (.pair (.sl (.own (some 147502)) .bool) (.pair (.pair (.int .i64) (.pair .bool (.sl (.own (some 147511)) (.int .i64)))) (.pair (.pair (.sl (.own (some 147514)) bt) (.pair (.sl (.own (some 147517)) aQ) (.pair .str (.sl (.own (some 147523)) (.int .i64))))) (.pair (.sl (.own (some 147526)) bd) (.pair .bool (.pair (.sl (.own (some 147532)) .str) (.pair (.sl (.own (some 147535)) (.int .i64)) (.pair (.sl (.own (some 147538)) (.int .i64)) (.pair (.int .i64) Y2))))))))))))))
@[reducible] def Y3:FT:= .pair (.int .i64) (.pair (.int .i64) (.pair (.int .i64) (.sl (.own none) (.int .i64))))
@[reducible] def Yj:FT:= .pair Y2 (.pair Y3 (.pair (.sl (.own none) df) (.int .i64)))
@[reducible] def Y8:FT:= .pair (.int .i64) (.pair .bool (.sl (.own none) (.int .i64)))
@[reducible] def XM:FT:= .pair (.sl (.own none) bt) (.pair (.sl (.own none) aQ) (.pair .str (.sl (.own none) (.int .i64))))
@[reducible] def Y4:FT:= .pair (.sl (.own none) .str) (.pair (.sl (.own none) aB) (.pair Yj (.pair (.sl (.own none) ba) (.pair (.sl (.own none) cc) (.pair (.sl (.own none) bh) (.pair (.sl (.own none) .bool) (.pair Y8 (.pair XM (.pair (.sl (.own none) bd) (.pair .bool (.pair (.sl (.own none) .str) (.pair (.sl (.own none) (.int .i64)) (.pair (.sl (.own none) (.int .i64)) (.pair (.int .i64) Y2))))))))))))))
@[reducible] def Y5:FT:= .pair (.int .i64) (.pair (.int .i64) (.pair (.int .i64) (.pair (.int .i64) (.pair .bool .bool))))
@[reducible] def Y7:FT:= .pair (.sl .arg bt) (.pair (.sl .arg aQ) (.pair .str (.sl .arg (.int .i64))))
@[reducible] def Y9:FT:= .pair (.sl (.own (some 147457)) bB) (.pair (.sl (.own (some 147460)) ao) (.pair (.sl (.own (some 147463)) aw) (.pair (.sl (.own (some 147466)) .str) (.pair Y2 (.pair (.sl (.own (some 147481)) (.int .i64)) (.sl (.own (some 147484)) .str))))))
@[reducible] def XL:FT:= .pair (.int .i64) (.pair (.int .i64) (.pair (.int .i64) (.sl .arg (.int .i64))))
@[reducible] def Y11:FT:= .pair (.sl (.own none) bB) (.pair (.sl (.own none) ao) (.pair (.sl (.own none) aw) (.pair (.sl (.own none) .str) (.pair Y2 (.pair (.sl (.own none) (.int .i64)) (.sl (.own none) .str))))))
@[reducible] def XN:FT:= .pair (.int .i64) (.pair .bool (.sl .arg (.int .i64)))
@[reducible] def Y14:FT:= .pair (.int .i64) (.pair (.int .i64) (.pair (.int .i64) (.sl (.own (some 184330)) (.int .i64))))
@[reducible] def Y15:FT:= .pair (.int .i64) (.pair (.int .i64) (.pair (.int .i64) (.sl (.own (some 147466)) (.int .i64))))
@[reducible] def Y16:FT:= .pair (.int .i64) (.pair (.int .i64) (.pair (.int .i64) (.sl (.own (some 98314)) (.int .i64))))
@[reducible] def Y17:FT:= .pair (.int .i64) (.pair (.int .i64) (.pair (.int .i64) (.sl (.own (some 73738)) (.int .i64))))
def E:Env:={ty:=[(3,⟨false,(.int .i64),[]⟩),(4,⟨false,.bool,[]⟩),(5,⟨false,(.int .u8),[]⟩),(9,⟨false,.str,[]⟩),(22,⟨false,(.sl aw),[(75,0)]⟩),(23,⟨false,(.sl bt),[(173,0)]⟩),(24,⟨false,(.sl aQ),[(216,0)]⟩),(26,⟨true,(.sl aQ),[(0,1)]⟩),(27,⟨false,(.sl (.int .i64)),[(3,0)]⟩),(29,⟨true,cK,[(0,1),(1,1)]⟩),(31,⟨true,aK,[(0,1),(1,1),(2,2)]⟩),(33,⟨true,cm,[(0,1),(1,1),(2,1)]⟩),(34,⟨false,(.sl .str),[(9,0)]⟩),(36,⟨true,(.sl .str),[(0,1)]⟩),(40,⟨false,(.sl bB),[(105,0)]⟩),(41,⟨false,(.sl ao),[(111,0)]⟩),(42,⟨false,(.sl aw),[(109,0)]⟩),(43,⟨true,(.sl .str),[(0,1)]⟩),(45,⟨true,cu,[(0,1),(1,1),(2,1),(3,1)]⟩),(47,⟨true,mN,[(0,1),(1,1),(2,1),(3,1),(4,4),(8,1),(9,1)]⟩),(51,⟨false,(.sl bt),[(171,0)]⟩),(52,⟨false,(.sl aQ),[(206,0)]⟩),(54,⟨true,(.sl aQ),[(0,1)]⟩),(55,⟨true,cK,[(0,1),(1,1)]⟩),(57,⟨true,aK,[(0,1),(1,1),(2,2)]⟩),(59,⟨true,cm,[(0,1),(1,1),(2,1)]⟩),(73,⟨true,cn,[(0,1),(1,1),(2,1)]⟩),(75,⟨true,aw,[(0,3),(3,1),(4,1),(5,1)]⟩),(80,⟨false,(.sl jO),[(139,0)]⟩),(87,⟨true,(.sl .str),[(0,1)]⟩),(88,⟨false,(.sl aB),[(156,0)]⟩),(90,⟨true,cu,[(0,1),(1,1),(2,1),(3,1)]⟩),(92,⟨true,cc,[(0,1),(1,1),(2,1),(3,1)]⟩),(93,⟨false,(.sl df),[(245,0)]⟩),(95,⟨true,iK,[(0,4),(4,4),(8,1),(9,1)]⟩),(96,⟨false,(.sl ba),[(166,0)]⟩),(97,⟨false,(.sl cc),[(92,0)]⟩),(98,⟨false,(.sl bh),[(146,0)]⟩),(99,⟨false,(.sl .bool),[(4,0)]⟩),(100,⟨true,cn,[(0,1),(1,1),(2,1)]⟩),(101,⟨false,(.sl bd),[(247,0)]⟩),(103,⟨true,jN,[(0,1),(1,1),(2,1),(3,1),(4,1)]⟩),(105,⟨true,bB,[(0,1),(1,1),(2,10),(12,1),(13,1),(14,1),(15,1),(16,3),(19,4),(23,1),(24,1),(25,1),(26,1),(27,1),(28,5)]⟩),(109,⟨true,aw,[(0,3),(3,1),(4,1),(5,1)]⟩),(111,⟨true,ao,[(0,1),(1,1),(2,3),(5,1),(6,1),(7,1)]⟩),(139,⟨true,jO,[(0,1),(1,1),(2,1),(3,1)]⟩),(146,⟨true,bh,[(0,1),(1,1),(2,1),(3,1),(4,1),(5,1)]⟩),(156,⟨true,aB,[(0,1),(1,1),(2,1),(3,1)]⟩),(158,⟨true,cm,[(0,1),(1,1),(2,1)]⟩),(160,⟨true,qW,[(0,1),(1,1),(2,1),(3,1),(4,1),(5,1),(6,1),(7,1)]⟩),(162,⟨true,rQ,[(0,1),(1,1),(2,1),(3,1),(4,1),(5,1),(6,1),(7,1),(8,8)]⟩),(164,⟨true,uu,[(0,16),(16,1),(17,1)]⟩),(166,⟨true,ba,[(0,4),(4,3),(7,3),(10,18),(28,1),(29,1)]⟩),(171,⟨true,bt,[(0,1),(1,1),(2,1),(3,1),(4,1),(5,1),(6,1),(7,1),(8,1)]⟩),(173,⟨true,bt,[(0,1),(1,1),(2,1),(3,1),(4,1),(5,1),(6,1),(7,1),(8,1)]⟩),(204,⟨true,jN,[(0,1),(1,1),(2,1),(3,1),(4,1)]⟩),(206,⟨true,aQ,[(0,1),(1,5),(6,1)]⟩),(214,⟨true,jN,[(0,1),(1,1),(2,1),(3,1),(4,1)]⟩),(216,⟨true,aQ,[(0,1),(1,5),(6,1)]⟩),(229,⟨true,yR,[(0,1),(1,1),(2,1),(3,1),(4,1),(5,1)]⟩),(243,⟨false,(.sl (.int .u8)),[(5,0)]⟩),(245,⟨true,df,[(0,1),(1,1),(2,1)]⟩),(247,⟨true,bd,[(0,5),(5,1),(6,1),(7,1)]⟩),(270,⟨false,(.int .u32),[]⟩),(281,⟨false,(.sl (.pair (.int .i64) (.int .i64))),[(285,0)]⟩),(285,⟨true,(.pair (.int .i64) (.int .i64)),[(0,1),(1,1)]⟩)],eqs:=[(204,[.int,.int,.int,.int,.int])],fts:=[]}
theorem base:Sound Tryz.prog E aJ.nil:=Sound.nil (Df (by kernel_rfl)) (Di (by kernel_rfl)) (Dh (by kernel_rfl)) (by kernel_rfl)
def e69:aq:=ah [pd (.sl (.int .i64)),pI] [rI] (c2 Pu.oF)
theorem o69:ak Tryz.prog 69 e69:=f0 {} base Tryz.func69
def e67:aq:=ah [pf cn,pI] [rI] (c2 Pu.lX)
theorem o67:ak Tryz.prog 67 e67:=f0 {} (base.add o69) Tryz.func67
def e22:aq:=ah [pf aw,pI] [rI] (c2 Pu.gX)
theorem o22:ak Tryz.prog 22 e22:=f0 {} (base.add o67) Tryz.func22
def e4:aq:=ah [pd (.sl aw),pI] [rI] (c2 Pu.mM)
def g4:aJ:=aJ.nil.add 22 e22
def n4:An:={mask:=mk [(5,[0,1,4,5])]}
@[reducible] def I3:SD:=⟨.data false (.sl .arg aw)::DI::B::B::DI::DI::bs 21 [],zs 27 [],.none⟩
def XE {R:Type}(X:SD.D I3)(K:Ex→AS→Option R):=Pu.nT (fun y0 y1=>ke 0 K I3 ((z1 (w y0 (z1 (u y1))) X.1),X.2)) (fun y0 y1 y2=>kr K I3 ((z1 (w y0 (w y1 (u y2))) X.1),X.2)) X.1.1 (q2 X)
def aaq:aL:=cj I3 XE (fun X=>(X.1.2.1,q3 X))
def L4:aO:=(aO.nil).add 5 aaq
theorem aan:bZ E g4 n4 L4 (af Tryz.f4 0):=lk I3 XE (fun X=>(X.1.2.1,q3 X)) fun X x=>((z1 (w x.1 (z1 (u x.2))) X.1),X.2)
theorem o4:ak Tryz.prog 4 e4:=fk n4 (base.add o22) Tryz.func4 (Λ:=L4) (cF aan nF)
def e23:aq:=ah [pd (.sl bt),pI] [rI] (c2 Pu.qj)
theorem o23:ak Tryz.prog 23 e23:=f0 {} base Tryz.func23
def e68:aq:=ah [pd (.sl aQ),pI] [rI] (c2 Pu.qk)
theorem o68:ak Tryz.prog 68 e68:=f0 {} base Tryz.func68
def e24:aq:=ah [pf (.sl aQ),pI] [rI] (c2 Pu.iq)
theorem o24:ak Tryz.prog 24 e24:=f0 {} (base.add o68) Tryz.func24
def e25:aq:=ah [pf cK,pI] [rI] (c2 Pu.lY)
theorem o25:ak Tryz.prog 25 e25:=f0 {} (base.add o69) Tryz.func25
def e5:aq:=ah [pf aK,pI] [rI] (c2 Pu.jv)
theorem o5:ak Tryz.prog 5 e5:=f0 {} (((base.add o23).add o24).add o25) Tryz.func5
def e26:aq:=ah [pd (.sl .str),pI] [rI] (c2 Pu.nU)
def g26:aJ:=aJ.nil
def n26:An:={mask:=mk [(5,[0,1,4,5])]}
@[reducible] def Ch:SD:=⟨.data false (.sl .arg .str)::DI::B::B::DI::DI::bs 22 [],zs 28 [],.none⟩
def Nu {R:Type}(X:SD.D Ch)(K:Ex→AS→Option R):=Pu.oG (fun y0 y1=>ke 0 K Ch ((z1 (w y0 (z1 (u y1))) X.1),X.2)) (fun y0 y1 y2=>kr K Ch ((z1 (w y0 (w y1 (u y2))) X.1),X.2)) X.1.1 (q2 X)
def Vp:aL:=cj Ch Nu (fun X=>(X.1.2.1,q3 X))
def L26:aO:=(aO.nil).add 5 Vp
theorem UJ:bZ E g26 n26 L26 (af Tryz.f26 0):=lk Ch Nu (fun X=>(X.1.2.1,q3 X)) fun X x=>((z1 (w x.1 (z1 (u x.2))) X.1),X.2)
theorem o26:ak Tryz.prog 26 e26:=fk n26 base Tryz.func26 (Λ:=L26) (cF UJ nF)
def e6:aq:=ah [pf (.sl .str),pI] [rI] (c2 Pu.mY)
theorem o6:ak Tryz.prog 6 e6:=f0 {} (base.add o26) Tryz.func6
def Ma:aq:=ah [pI,pI,pI] [rB] (c3 Pu.ay)
theorem yE:ak Tryz.prog 70 Ma:=f0 {merge:=mg [(1,6)]} base Tryz.func70
def Zr:aq:=ah [pf cn] [rB] (c1 Pu.fU)
def g77:aJ:=aJ.nil.add 70 Ma
def n77:An:={mask:=mk [(2,[1,2,3])],merge:=mg [(4,35),(6,2)]}
@[reducible] def Cw:SD:=⟨B::.ptr 1 0::DB::DI::bs 41 [],Z::(some XN)::zs 43 [],.none⟩
def NW {R:Type}(X:SD.D Cw)(K:Ex→AS→Option R):=Pu.iu (fun y0=>ke 0 K Cw ((z1 (u y0) X.1),X.2)) (fun y0 y1=>kr K Cw ((w y0 (u y1) X.1),X.2)) X.1.1 X.2.1.1
def VQ:aL:=cj Cw NW (fun X=>X.1.2.1)
def L77:aO:=(aO.nil).add 2 VQ
theorem Vb:bZ E g77 n77 L77 (af Tryz.f77 0):=lk Cw NW (fun X=>X.1.2.1) fun X x=>((z1 (u x) X.1),X.2)
theorem o77:ak Tryz.prog 77 Zr:=fk n77 (base.add yE) Tryz.func77 (Λ:=L77) (cF Vb nF)
def e71:aq:=ah [pf aw] [rB] (c1 Pu.k9)
theorem o71:ak Tryz.prog 71 e71:=f0 {merge:=mg [(1,2)]} ((base.add yE).add o77) Tryz.func71
def Oo:aq:=ah [pd (.sl (.int .i64)),pI] [rB] (c2 Pu.mF)
def ZJ:aJ:=aJ.nil
def Wn:An:={mask:=mk [(2,[0,1,4,5])]}
@[reducible] def wx:SD:=⟨.data false (.sl .arg (.int .i64))::DI::B::B::DB::DI::bs 12 [],zs 18 [],.none⟩
def K6 {R:Type}(X:SD.D wx)(K:Ex→AS→Option R):=Pu.ln (fun y0=>ke 0 K wx ((z3 (u y0) X.1),X.2)) (fun y0 y1=>kr K wx ((z2 (w y0 (u y1)) X.1),X.2)) X.1.1 X.1.2.1 (q2 X)
def P7:aL:=cj wx K6 q3
def R3:aO:=(aO.nil).add 2 P7
theorem OU:bZ E ZJ Wn R3 (af Tryz.f129 0):=lk wx K6 q3 fun X x=>((z3 (u x) X.1),X.2)
theorem W7:ak Tryz.prog 129 Oo:=fk Wn base Tryz.func129 (Λ:=R3) (cF OU nF)
def e72:aq:=ah [pd (.sl (.int .i64)),pd (.sl (.int .i64))] [(false,(.sl (.own none) (.int .i64)))] (c2 Pu.jg)
def g72:aJ:=aJ.nil.add 129 Oo
def n72:An:={mask:=mk [(3,[1,5,6]),(7,[1,5,6,7])],merge:=mg [(7,37)],mv:=[55]}
@[reducible] def Gw:SD:=⟨B::.data false (.sl .arg (.int .i64))::B::B::B::.data false (.sl (.own (some 61440)) (.int .i64))::DI::DI::bs 48 [],zs 56 [],.none⟩
def NT {R:Type}(X:SD.D Gw)(K:Ex→AS→Option R):=Pu.iA (fun y0=>ke 2 K Gw ((z3 (u y0) X.1),X.2)) X.1.1 X.1.2.1 (q2 X)
def VN:aL:=cj Gw NT q3
@[reducible] def Gv:SD:=⟨B::.data false (.sl .arg (.int .i64))::B::B::B::.data false (.sl (.own (some 61440)) (.int .i64))::DI::bs 49 [],zs 56 [],.none⟩
def NS {R:Type}(X:SD.D Gv)(K:Ex→AS→Option R):=Pu.eX (fun y0 y1=>ke 0 K Gv ((z1 (w y0 (u y1)) X.1),X.2)) X.1.1
def VM:aL:=cj Gv NS (fun X=>(X.1.2.1,q2 X))
def Yc:aO:=((aO.nil).add 7 VN).add 3 VM
theorem U8:bZ E g72 n72 Yc (af Tryz.f72 1):=lk Gw NT q3 fun X x=>((z3 (u x) X.1),X.2)
theorem U7:bZ E g72 n72 Yc (af Tryz.f72 0):=lk Gv NS (fun X=>(X.1.2.1,q2 X)) fun X x=>((z1 (w x.1 (u x.2)) X.1),X.2)
theorem o72:ak Tryz.prog 72 e72:=fk n72 (base.add W7) Tryz.func72 (Λ:=Yc) (cF U7 (cF U8 nF))
def e73:aq:=ah [pd (.sl jO)] [rB] (c1 Pu.lg)
def g73:aJ:=((aJ.nil.add 70 Ma).add 77 Zr).add 129 Oo
def n73:An:={mask:=mk [(4,[0,2,3]),(9,[0,2,3,4])]}
@[reducible] def Cv:SD:=⟨.data false (.sl .arg jO)::B::DB::DI::DI::bs 53 [],zs 58 [],.none⟩
def NV {R:Type}(X:SD.D Cv)(K:Ex→AS→Option R):=Pu.jB (fun y0=>ke 2 K Cv ((z3 (u y0) X.1),X.2)) (fun y0 y1=>kr K Cv ((z1 (w y0 (z1 (u y1))) X.1),X.2)) X.1.1 X.1.2.1 (q2 X)
def VP:aL:=cj Cv NV q3
@[reducible] def Cu:SD:=⟨.data false (.sl .arg jO)::B::DB::DI::bs 54 [],zs 58 [],.none⟩
def NU {R:Type}(X:SD.D Cu)(K:Ex→AS→Option R):=Pu.jA (fun y0=>ke 0 K Cu ((z2 (u y0) X.1),X.2)) (fun y0 y1=>kr K Cu ((z1 (w y0 (u y1)) X.1),X.2)) X.1.1 X.1.2.1
def VO:aL:=cj Cu NU q2
def Yd:aO:=((aO.nil).add 9 VP).add 4 VO
theorem Va:bZ E g73 n73 Yd (af Tryz.f73 1):=lk Cv NV q3 fun X x=>((z3 (u x) X.1),X.2)
theorem U9:bZ E g73 n73 Yd (af Tryz.f73 0):=lk Cu NU q2 fun X x=>((z2 (u x) X.1),X.2)
theorem o73:ak Tryz.prog 73 e73:=fk n73 (((base.add yE).add o77).add W7) Tryz.func73 (Λ:=Yd) (cF U9 (cF Va nF))
def e27:aq:=ah [pd (.sl aw)] [(false,(.sl (.own none) jO)),rB] (c1 Pu.m9)
def g27:aJ:=(((aJ.nil.add 70 Ma).add 71 e71).add 72 e72).add 73 e73
def n27:An:={mask:=mk [(5,[0,2,3,4,5])],mv:=[41,63]}
@[reducible] def Ci:SD:=⟨.data false (.sl .arg aw)::B::.data false (.sl (.own (some 24576)) jO)::DB::.data false (.sl (.own (some 49152)) jO)::DI::bs 58 [],zs 64 [],.none⟩
def Nv {R:Type}(X:SD.D Ci)(K:Ex→AS→Option R):=Pu.fI (fun y0 y1=>ke 0 K Ci ((z3 (w y0 (u y1)) X.1),X.2)) (fun y0 y1 y2 y3=>kr K Ci ((z1 (w y0 (w y1 (w y2 (u y3)))) X.1),X.2)) X.1.1 X.1.2.1 (q2 X)
def Vq:aL:=cj Ci Nv (fun X=>(q3 X,q4 X))
def L27:aO:=(aO.nil).add 5 Vq
theorem UK:bZ E g27 n27 L27 (af Tryz.f27 0):=lk Ci Nv (fun X=>(q3 X,q4 X)) fun X x=>((z3 (w x.1 (u x.2)) X.1),X.2)
theorem o27:ak Tryz.prog 27 e27:=fk n27 ((((base.add yE).add o71).add o72).add o73) Tryz.func27 (Λ:=L27) (cF UK nF)
def e28:aq:=ah [pf cm] [rB] (c1 Pu.l9)
theorem o28:ak Tryz.prog 28 e28:=f0 {merge:=mg [(1,2)]} (base.add yE) Tryz.func28
def e74:aq:=ah [pf (.sl .str)] [rB] (c1 Pu.m6)
theorem o74:ak Tryz.prog 74 e74:=f0 {merge:=mg [(1,2)]} base Tryz.func74
def YO:aq:=ah [pd .str,pI,pI] [rB] (c3 Pu.eV)
theorem Q1:ak Tryz.prog 174 YO:=f0 {merge:=mg [(1,6)]} base Tryz.func174
def YP:aq:=ah [pd .str,pI] [rI] (c2 Pu.oa)
theorem abx:ak Tryz.prog 175 YP:=f0 {} (base.add Q1) Tryz.func175
def Yq:aq:=ah [pd .str,pI] [rI] (c2 Pu.lC)
theorem aaV:ak Tryz.prog 130 Yq:=f0 {} ((base.add Q1).add abx) Tryz.func130
def YQ:aq:=ah [pI] [rS] (c1 Pu.cG)
theorem Xb:ak Tryz.prog 176 YQ:=f0 {} (base.add yE) Tryz.func176
def YR:aq:=ah [pd .str] [rI] (c1 Pu.qv)
def Uv:aJ:=aJ.nil
def QW:An:={mask:=mk [(3,[0,3,4]),(7,[0,3,4,5])]}
@[reducible] def Ay:SD:=⟨.data false .str::B::B::DI::DI::DI::bs 26 [],zs 32 [],.none⟩
def Lt {R:Type}(X:SD.D Ay)(K:Ex→AS→Option R):=Pu.fT (fun y0 y1=>ke 2 K Ay ((z1 (w y0 (z1 (u y1))) X.1),X.2)) X.1.1 (q2 X)
def Qt:aL:=cj Ay Lt (fun X=>(X.1.2.1,q3 X))
@[reducible] def Ax:SD:=⟨.data false .str::B::B::DI::DI::bs 27 [],zs 32 [],.none⟩
def Ls {R:Type}(X:SD.D Ax)(K:Ex→AS→Option R):=Pu.jb (fun y0 y1=>ke 0 K Ax ((z1 (w y0 (u y1)) X.1),X.2)) X.1.1
def Qs:aL:=cj Ax Ls (fun X=>(X.1.2.1,q2 X))
def Oa:aO:=((aO.nil).add 7 Qt).add 3 Qs
theorem Pg:bZ E Uv QW Oa (af Tryz.f177 1):=lk Ay Lt (fun X=>(X.1.2.1,q3 X)) fun X x=>((z1 (w x.1 (z1 (u x.2))) X.1),X.2)
theorem Pf:bZ E Uv QW Oa (af Tryz.f177 0):=lk Ax Ls (fun X=>(X.1.2.1,q2 X)) fun X x=>((z1 (w x.1 (u x.2)) X.1),X.2)
theorem aby:ak Tryz.prog 177 YR:=fk QW base Tryz.func177 (Λ:=Oa) (cF Pf (cF Pg nF))
def Yr:aq:=ah [pI,pd .str] [rS,rB] (c2 Pu.la)
theorem aaW:ak Tryz.prog 131 Yr:=f0 {merge:=mg [(1,15)]} (((base.add yE).add Xb).add aby) Tryz.func131
def e75:aq:=ah [pd .str] [rI] (c1 Pu.dT)
theorem o75:ak Tryz.prog 75 e75:=f0 {merge:=mg [(2,17),(5,37)]} (((base.add yE).add aaV).add aaW) Tryz.func75
def e29:aq:=ah [pf (.sl .str)] [rI] (c1 Pu.l8)
theorem o29:ak Tryz.prog 29 e29:=f0 {merge:=mg [(5,23)]} ((base.add o74).add o75) Tryz.func29
def e30:aq:=ah [pf cu] [rB] (c1 Pu.mZ)
theorem o30:ak Tryz.prog 30 e30:=f0 {merge:=mg [(1,2)]} (base.add yE) Tryz.func30
def YS:aq:=ah [pf bh] [rB] (c1 Pu.oP)
theorem abz:ak Tryz.prog 178 YS:=f0 {merge:=mg [(1,2)]} base Tryz.func178
def Ys:aq:=ah [pf bh] [rB] (c1 Pu.fV)
theorem aaX:ak Tryz.prog 132 Ys:=f0 {merge:=mg [(1,24),(3,2)]} ((base.add yE).add abz) Tryz.func132
def e76:aq:=ah [pI,pI] [(true,Y5),rB] (c2 Pu.ld)
theorem o76:ak Tryz.prog 76 e76:=f0 {} (base.add aaX) Tryz.func76
def TD:aq:=ah [pf bt] [rB] (c1 Pu.fb)
theorem abA:ak Tryz.prog 179 TD:=f0 {merge:=mg [(1,33),(3,54),(5,2)]} (base.add yE) Tryz.func179
def Tl:aq:=ah [pd (.sl bt)] [rB] (c1 Pu.nb)
def ZK:aJ:=aJ.nil.add 179 TD
def Wo:An:={mask:=mk [(2,[0,2,3])]}
@[reducible] def wy:SD:=⟨.data false (.sl .arg bt)::B::DB::DI::bs 15 [],zs 19 [],.none⟩
def K7 {R:Type}(X:SD.D wy)(K:Ex→AS→Option R):=Pu.jC (fun y0=>ke 0 K wy ((z2 (u y0) X.1),X.2)) (fun y0 y1=>kr K wy ((z1 (w y0 (u y1)) X.1),X.2)) X.1.1 X.1.2.1
def P8:aL:=cj wy K7 q2
def R4:aO:=(aO.nil).add 2 P8
theorem OV:bZ E ZK Wo R4 (af Tryz.f133 0):=lk wy K7 q2 fun X x=>((z2 (u x) X.1),X.2)
theorem aaY:ak Tryz.prog 133 Tl:=fk Wo (base.add abA) Tryz.func133 (Λ:=R4) (cF OV nF)
def TW:aq:=ah [pf jN] [rI] (c1 Pu.mc)
def Z9:aJ:=aJ.nil
def WO:An:={mask:=mk [(4,[3,4,5])]}
@[reducible] def AE:SD:=⟨B::B::B::DI::.data false (.sl (.own (some 49152)) (.int .i64))::DI::bs 26 [],zs 32 [],.none⟩
def LC {R:Type}(X:SD.D AE)(K:Ex→AS→Option R):=Pu.eU (fun y0 y1=>ke 0 K AE ((w y0 (z1 (u y1)) X.1),X.2)) X.1.2.1
def QC:aL:=cj AE LC (fun X=>(X.1.1,q2 X))
def St:aO:=(aO.nil).add 4 QC
theorem Pr:bZ E Z9 WO St (af Tryz.f214 0):=lk AE LC (fun X=>(X.1.1,q2 X)) fun X x=>((w x.1 (z1 (u x.2)) X.1),X.2)
theorem abY:ak Tryz.prog 214 TW:=fk WO base Tryz.func214 (Λ:=St) (cF Pr nF)
def TE:aq:=ah [pf (.sl aQ),pf jN] [rI] (c2 Pu.ng)
def Z3:aJ:=aJ.nil.add 214 TW
def WI:An:={mask:=mk [(2,[2,3,4,5])],merge:=mg [(7,39)]}
@[reducible] def wM:SD:=⟨B::B::.ptr 2 0::.ptr 3 0::DI::DI::bs 35 [],Z::Z::(some (.sl .arg aQ))::(some (.pair (.int .i64) Y2))::zs 37 [],.none⟩
def Lu {R:Type}(X:SD.D wM)(K:Ex→AS→Option R):=Pu.fJ (fun y0=>ke 0 K wM ((z1 (u y0) X.1),X.2)) (fun y0 y1=>kr K wM ((w y0 (u y1) X.1),X.2)) X.1.1 X.2.1.1 X.2.1.2.1
def Qu:aL:=cj wM Lu (fun X=>X.1.2.1)
def Sn:aO:=(aO.nil).add 2 Qu
theorem Ph:bZ E Z3 WI Sn (af Tryz.f180 0):=lk wM Lu (fun X=>X.1.2.1) fun X x=>((z1 (u x) X.1),X.2)
theorem abB:ak Tryz.prog 180 TE:=fk WI (base.add abY) Tryz.func180 (Λ:=Sn) (cF Ph nF)
def Tm:aq:=ah [pf (.sl aQ)] [rB] (c1 Pu.nd)
def ZL:aJ:=(aJ.nil.add 70 Ma).add 180 TE
def Wp:An:={mask:=mk [(4,[1,2,3])],merge:=mg [(7,30),(10,42)]}
@[reducible] def wz:SD:=⟨B::.ptr 1 0::DB::DI::bs 45 [],Z::(some (.sl .arg aQ))::zs 47 [],.none⟩
def K8 {R:Type}(X:SD.D wz)(K:Ex→AS→Option R):=Pu.jE (fun y0=>ke 0 K wz ((z1 (u y0) X.1),X.2)) (fun y0 y1=>kr K wz ((w y0 (u y1) X.1),X.2)) X.1.1 X.2.1.1
def P9:aL:=cj wz K8 (fun X=>X.1.2.1)
def R5:aO:=(aO.nil).add 4 P9
theorem OW:bZ E ZL Wp R5 (af Tryz.f134 0):=lk wz K8 (fun X=>X.1.2.1) fun X x=>((z1 (u x) X.1),X.2)
theorem aaZ:ak Tryz.prog 134 Tm:=fk Wp ((base.add yE).add abB) Tryz.func134 (Λ:=R5) (cF OW nF)
def TF:aq:=ah [pI] [rB] (c1 Pu.lh)
theorem abC:ak Tryz.prog 181 TF:=f0 {merge:=mg [(1,2)]} base Tryz.func181
def Tn:aq:=ah [pf cK,pI] [rB] (c2 Pu.me)
def ZM:aJ:=(aJ.nil.add 70 Ma).add 181 TF
def Wq:An:={mask:=mk [(4,[1,2,4,5])],merge:=mg [(1,21)]}
@[reducible] def wA:SD:=⟨B::DI::.ptr 2 0::B::DB::DI::bs 32 [],Z::Z::(some (.pair .str (.sl .arg (.int .i64))))::zs 35 [],.none⟩
def K9 {R:Type}(X:SD.D wA)(K:Ex→AS→Option R):=Pu.iy (fun y0=>ke 0 K wA ((z2 (u y0) X.1),X.2)) (fun y0 y1=>kr K wA ((z1 (w y0 (u y1)) X.1),X.2)) X.1.1 X.1.2.1 X.2.1.1
def Qa:aL:=cj wA K9 q2
def R6:aO:=(aO.nil).add 4 Qa
theorem OX:bZ E ZM Wq R6 (af Tryz.f135 0):=lk wA K9 q2 fun X x=>((z2 (u x) X.1),X.2)
theorem aa0:ak Tryz.prog 135 Tn:=fk Wq ((base.add yE).add abC) Tryz.func135 (Λ:=R6) (cF OX nF)
def e78:aq:=ah [pf aK,pI] [rB] (c2 Pu.jD)
def g78:aJ:=((aJ.nil.add 133 Tl).add 134 Tm).add 135 Tn
def n78:An:={mask:=mk [(4,[1,2,4,5]),(9,[1,2,4,6])],merge:=mg [(1,23)]}
@[reducible] def Cx:SD:=⟨B::DI::.ptr 2 0::B::DB::DI::bs 50 [],Z::Z::(some Y7)::zs 53 [],.none⟩
def NX {R:Type}(X:SD.D Cx)(K:Ex→AS→Option R):=Pu.fA (fun y0=>ke 0 K Cx ((z2 (u y0) X.1),X.2)) (fun y0 y1=>kr K Cx ((z1 (w y0 (u y1)) X.1),X.2)) X.1.1 X.1.2.1 X.2.1.1
def VR:aL:=cj Cx NX q2
@[reducible] def Cy:SD:=⟨B::DI::.ptr 2 0::B::DB::B::DI::bs 49 [],Z::Z::(some Y7)::zs 53 [],.none⟩
def NY {R:Type}(X:SD.D Cy)(K:Ex→AS→Option R):=Pu.fB (fun y0=>ke 2 K Cy ((z2 (u y0) X.1),X.2)) (fun y0 y1=>kr K Cy ((z1 (w y0 (u y1)) X.1),X.2)) X.1.1 X.1.2.1 X.2.1.1
def VS:aL:=cj Cy NY q2
def Ye:aO:=((aO.nil).add 4 VR).add 9 VS
theorem Vc:bZ E g78 n78 Ye (af Tryz.f78 0):=lk Cx NX q2 fun X x=>((z2 (u x) X.1),X.2)
theorem Vd:bZ E g78 n78 Ye (af Tryz.f78 1):=lk Cy NY q2 fun X x=>((z2 (u x) X.1),X.2)
theorem o78:ak Tryz.prog 78 e78:=fk n78 (((base.add aaY).add aaZ).add aa0) Tryz.func78 (Λ:=Ye) (cF Vc (cF Vd nF))
def To:aq:=ah [pI,pd (.int .u8)] [rS] (c2 Pu.fC)
def ZN:aJ:=aJ.nil
def Wr:An:={mask:=mk [(3,[0,1,5,6])]}
@[reducible] def Aq:SD:=⟨DI::.data false (.int .u8)::B::B::B::.data false (.sl (.own (some 61440)) (.int .u8))::DI::bs 13 [],zs 20 [],.none⟩
def La {R:Type}(X:SD.D Aq)(K:Ex→AS→Option R):=Pu.jF (fun y0 y1=>ke 0 K Aq ((z2 (w y0 (u y1)) X.1),X.2)) X.1.1 X.1.2.1
def Qb:aL:=cj Aq La (fun X=>(q2 X,q3 X))
def R7:aO:=(aO.nil).add 3 Qb
theorem OY:bZ E ZN Wr R7 (af Tryz.f136 0):=lk Aq La (fun X=>(q2 X,q3 X)) fun X x=>((z2 (w x.1 (u x.2)) X.1),X.2)
theorem W8:ak Tryz.prog 136 To:=fk Wr base Tryz.func136 (Λ:=R7) (cF OY nF)
def e79:aq:=ah [pI] [(true,(.sl (.own none) .str))] (c1 Pu.hC)
def g79:aJ:=aJ.nil.add 136 To
def n79:An:={mask:=mk [(3,[0,2,3,4])],merge:=mg [(3,12)],mv:=[16,21],mb:=mg [(16,3)],sb:=mg [(20,3)]}
@[reducible] def Gx:SD:=⟨DI::B::.ptr 2 0::.ptr 3 0::DI::bs 17 [],Z::Z::(some (.sl (.own (some 24577)) .str))::(some (.sl (.own (some 36865)) .str))::zs 18 [],.none⟩
def NZ {R:Type}(X:SD.D Gx)(K:Ex→AS→Option R):=Pu.gA (fun y0 y1=>ke 0 K Gx ((z1 (u y0) X.1),(z1 (u y1) X.2.1),X.2.2)) X.1.1 X.2.1.1
def VT:aL:=cj Gx NZ (fun X=>(X.1.2.1,X.2.1.2.1))
def L79:aO:=(aO.nil).add 3 VT
theorem Ve:bZ E g79 n79 L79 (af Tryz.f79 0):=lk Gx NZ (fun X=>(X.1.2.1,X.2.1.2.1)) fun X x=>((z1 (u x.1) X.1),(z1 (u x.2) X.2.1),X.2.2)
theorem o79:ak Tryz.prog 79 e79:=fk n79 (base.add W8) Tryz.func79 (Λ:=L79) (cF Ve nF)
def Ot:aq:=ah [pf cc] [rB] (c1 Pu.kc)
def Z4:aJ:=aJ.nil.add 70 Ma
def WJ:An:={mask:=mk [(5,[1,2,3,4])],merge:=mg [(1,20),(7,50)]}
@[reducible] def wN:SD:=⟨B::.ptr 1 0::DB::.data false (.sl (.own (some 36864)) .bool)::DI::bs 53 [],Z::(some XL)::zs 56 [],.none⟩
def Lv {R:Type}(X:SD.D wN)(K:Ex→AS→Option R):=Pu.lf (fun y0 y1=>ke 0 K wN ((z1 (w y0 (u y1)) X.1),X.2)) (fun y0 y1 y2=>kr K wN ((w y0 (w y1 (u y2)) X.1),X.2)) X.1.1 X.2.1.1
def Qv:aL:=cj wN Lv (fun X=>(X.1.2.1,q2 X))
def So:aO:=(aO.nil).add 5 Qv
theorem Pj:bZ E Z4 WJ So (af Tryz.f182 0):=lk wN Lv (fun X=>(X.1.2.1,q2 X)) fun X x=>((z1 (w x.1 (u x.2)) X.1),X.2)
theorem Q2:ak Tryz.prog 182 Ot:=fk WJ (base.add yE) Tryz.func182 (Λ:=So) (cF Pj nF)
def Yt:aq:=ah [pI,pI,pI] [(true,Y3),rB] (c3 Pu.lb)
def ZO:aJ:=aJ.nil.add 182 Ot
def Ws:An:={mask:=mk [(3,[2,6,8,9])],merge:=mg [(3,20)],mv:=[24,33]}
@[reducible] def Ar:SD:=⟨B::B::DI::B::B::B::.ptr 6 0::B::.ptr 8 0::DI::bs 24 [],zs 6 ((some Y17)::Z::(some Y16)::zs 25 []),.none⟩
def Lb {R:Type}(X:SD.D Ar)(K:Ex→AS→Option R):=Pu.fH (fun y0 y1=>ke 0 K Ar ((z1 (u y0) X.1),(z1 (u y1) X.2.1),X.2.2)) X.1.1 X.2.1.1
def Qc:aL:=cj Ar Lb (fun X=>(X.1.2.1,X.2.1.2.1))
def R8:aO:=(aO.nil).add 3 Qc
theorem OZ:bZ E ZO Ws R8 (af Tryz.f137 0):=lk Ar Lb (fun X=>(X.1.2.1,X.2.1.2.1)) fun X x=>((z1 (u x.1) X.1),(z1 (u x.2) X.2.1),X.2.2)
theorem W9:ak Tryz.prog 137 Yt:=fk Ws (base.add Q2) Tryz.func137 (Λ:=R8) (cF OZ nF)
def e80:aq:=ah [] [(true,Yj)] fun a=>Pu.mh
theorem o80:ak Tryz.prog 80 e80:=f0 {mv:=[4,9]} (base.add W9) Tryz.func80
def e81:aq:=ah [pf cn] [(true,Y8)] (c1 Pu.ll)
theorem o81:ak Tryz.prog 81 e81:=f0 {sb:=mg [(2,2)]} base Tryz.func81
def Yu:aq:=ah [pf (.sl aQ)] [(true,(.sl (.own none) aQ))] (c1 Pu.nf)
theorem aa1:ak Tryz.prog 138 Yu:=f0 {} base Tryz.func138
def e82:aq:=ah [pf aK] [(true,XM)] (c1 Pu.nh)
theorem o82:ak Tryz.prog 82 e82:=f0 {sb:=mg [(2,2)]} (base.add aa1) Tryz.func82
def Mn:aq:=ah [pf (.sl .str)] [(true,(.sl (.own none) .str))] (c1 Pu.dV)
theorem MR:ak Tryz.prog 184 Mn:=f0 {} base Tryz.func184
def T3:aq:=ah [pd (.sl aB)] [rB] (c1 Pu.jx)
def Ux:aJ:=aJ.nil.add 70 Ma
def QY:An:={mask:=mk [(4,[0,2,3]),(10,[0,2,3,4,5])],merge:=mg [(7,34),(12,57)]}
@[reducible] def tB:SD:=⟨.data false (.sl .arg aB)::B::DB::DI::.ptr 4 0::DI::bs 52 [],zs 4 ((some (.pair (.int .i64) (.pair (.int .i64) (.pair (.int .i64) .bool))))::zs 53 []),.none⟩
def G8 {R:Type}(X:SD.D tB)(K:Ex→AS→Option R):=Pu.ev (fun y0=>ke 2 K tB ((z3 (u y0) X.1),X.2)) (fun y0 y1=>kr K tB ((z1 (w y0 (z1 (u y1))) X.1),X.2)) X.1.1 X.1.2.1 (q2 X) X.2.1.1
def MI:aL:=cj tB G8 q3
@[reducible] def wR:SD:=⟨.data false (.sl .arg aB)::B::DB::DI::bs 54 [],zs 58 [],.none⟩
def LI {R:Type}(X:SD.D wR)(K:Ex→AS→Option R):=Pu.fz (fun y0=>ke 0 K wR ((z2 (u y0) X.1),X.2)) (fun y0 y1=>kr K wR ((z1 (w y0 (u y1)) X.1),X.2)) X.1.1 X.1.2.1
def QH:aL:=cj wR LI q2
def Oc:aO:=((aO.nil).add 10 MI).add 4 QH
theorem MG:bZ E Ux QY Oc (af Tryz.f228 1):=lk tB G8 q3 fun X x=>((z3 (u x) X.1),X.2)
theorem Px:bZ E Ux QY Oc (af Tryz.f228 0):=lk wR LI q2 fun X x=>((z2 (u x) X.1),X.2)
theorem ab9:ak Tryz.prog 228 T3:=fk QY (base.add yE) Tryz.func228 (Λ:=Oc) (cF Px (cF MG nF))
def T4:aq:=ah [pf (.sl .str)] [rB] (c1 Pu.jd)
def aae:aJ:=aJ.nil
def WU:An:={mask:=mk [(2,[1,2,3])]}
@[reducible] def wS:SD:=⟨B::.ptr 1 0::DB::DI::bs 18 [],Z::(some (.sl .arg .str))::zs 20 [],.none⟩
def LJ {R:Type}(X:SD.D wS)(K:Ex→AS→Option R):=Pu.iv (fun y0=>ke 0 K wS ((z1 (u y0) X.1),X.2)) (fun y0 y1=>kr K wS ((w y0 (u y1) X.1),X.2)) X.1.1 X.2.1.1
def QI:aL:=cj wS LJ (fun X=>X.1.2.1)
def Sy:aO:=(aO.nil).add 2 QI
theorem Py:bZ E aae WU Sy (af Tryz.f229 0):=lk wS LJ (fun X=>X.1.2.1) fun X x=>((z1 (u x) X.1),X.2)
theorem Xn:ak Tryz.prog 229 T4:=fk WU base Tryz.func229 (Λ:=Sy) (cF Py nF)
def T5:aq:=ah [pd (.sl aB),pI,pI,pd .bool] [rI] (c4 Pu.ni)
def aaf:aJ:=aJ.nil
def WV:An:={mask:=mk [(2,[0,1,2,3,8,9])],merge:=mg [(4,42)]}
@[reducible] def wT:SD:=⟨.data false (.sl .arg aB)::DI::DI::DB::bs 4 (DI::DI::bs 38 []),zs 48 [],.none⟩
def LL {R:Type}(X:SD.D wT)(K:Ex→AS→Option R):=Pu.jG (fun y0=>ke 0 K wT ((z5 (u y0) X.1),X.2)) (fun y0 y1=>kr K wT ((z4 (w y0 (u y1)) X.1),X.2)) X.1.1 X.1.2.1 (q2 X) (q3 X) (q4 X)
def QJ:aL:=cj wT LL q5
def Sz:aO:=(aO.nil).add 2 QJ
theorem Pz:bZ E aaf WV Sz (af Tryz.f230 0):=lk wT LL q5 fun X x=>((z5 (u x) X.1),X.2)
theorem aca:ak Tryz.prog 230 T5:=fk WV base Tryz.func230 (Λ:=Sz) (cF Pz nF)
def Ou:aq:=ah [pf (.sl .str),pI,pI] [rB] (c3 Pu.eW)
theorem Xo:ak Tryz.prog 231 Ou:=f0 {merge:=mg [(2,6)]} (base.add Xn) Tryz.func231
def TX:aq:=ah [pd (.sl aB),pf (.sl .str),pI,pI,pI,pd .bool] [(false,(.sl (.own none) (.int .i64))),(false,(.sl (.own none) (.int .i64))),rB] (c6 Pu.mf)
def aaa:aJ:=((((aJ.nil.add 70 Ma).add 228 T3).add 229 T4).add 230 T5).add 231 Ou
def WQ:An:={mask:=mk [(5,[0,2,3,4,5,7,12,13,14,15,16])],merge:=mg [(3,34),(10,57)],mv:=[35,36,64,71,81,82]}
@[reducible] def wQ:SD:=⟨.data false (.sl .arg aB)::B::DI::DI::DI::DB::B::.ptr 7 0::bs 4 (.data false (.sl (.own (some 147456)) (.int .i64))::.data false (.sl (.own (some 159744)) (.int .i64))::DB::.data false (.sl (.own (some 184320)) (.int .i64))::.data false (.sl (.own (some 196608)) (.int .i64))::bs 66 []),zs 7 ((some (.sl .arg .str))::zs 75 []),.none⟩
def LD {R:Type}(X:SD.D wQ)(K:Ex→AS→Option R):=Pu.dn (fun y0 y1 y2 y3=>ke 0 K wQ ((z2 (w y0 (w y1 (z4 (w y2 (u y3))))) X.1),X.2)) (fun y0 y1 y2 y3 y4 y5 y6=>kr K wQ ((z2 (w y0 (w y1 (z1 (w y2 (w y3 (w y4 (w y5 (u y6)))))))) X.1),X.2)) X.1.1 X.1.2.1 (q4 X) (q5 X) (q6 X) (q7 X) X.2.1.1
def QD:aL:=cj wQ LD (fun X=>(q2 X,q3 X,q8 X,q9 X))
def Su:aO:=(aO.nil).add 5 QD
theorem Ps:bZ E aaa WQ Su (af Tryz.f215 0):=lk wQ LD (fun X=>(q2 X,q3 X,q8 X,q9 X)) fun X x=>((z2 (w x.1 (w x.2.1 (z4 (w x.2.2.1 (u x.2.2.2))))) X.1),X.2)
theorem abZ:ak Tryz.prog 215 TX:=fk WQ (((((base.add yE).add ab9).add Xn).add aca).add Xo) Tryz.func215 (Λ:=Su) (cF Ps nF)
def T6:aq:=ah [pd .str,pI,pd .str] [rS] (c3 Pu.md)
theorem acb:ak Tryz.prog 232 T6:=f0 {} (base.add Q1) Tryz.func232
def TY:aq:=ah [pf (.sl .str),pI,pd .str] [(true,(.sl (.own none) .str)),rB] (c3 Pu.iz)
def aab:aJ:=((aJ.nil.add 184 Mn).add 231 Ou).add 232 T6
def WR:An:={mask:=mk [(4,[1,2,6,8])],mv:=[19,52]}
@[reducible] def AF:SD:=⟨B::DI::.data false .str::B::B::B::.ptr 6 0::B::.ptr 8 0::bs 44 [],zs 6 ((some (.sl (.own (some 73729)) .str))::Z::(some (.sl (.own (some 98305)) .str))::zs 44 []),.none⟩
def LF {R:Type}(X:SD.D AF)(K:Ex→AS→Option R):=Pu.ew (fun y0 y1 y2=>ke 0 K AF ((w y0 (u y1) X.1),(z1 (u y2) X.2.1),X.2.2)) X.2.1.1
def QE:aL:=cj AF LF (fun X=>(X.1.1,X.1.2.1,X.2.1.2.1))
def Sv:aO:=(aO.nil).add 4 QE
theorem Pt:bZ E aab WR Sv (af Tryz.f216 0):=lk AF LF (fun X=>(X.1.1,X.1.2.1,X.2.1.2.1)) fun X x=>((w x.1 (u x.2.1) X.1),(z1 (u x.2.2) X.2.1),X.2.2)
theorem ab0:ak Tryz.prog 216 TY:=fk WR (((base.add MR).add Xo).add acb) Tryz.func216 (Λ:=Sv) (cF Pt nF)
def TG:aq:=ah [pd (.sl aB),pf (.sl .str),pI,pI,pd .str] [(true,(.sl (.own none) .str)),rB] (c5 Pu.jc)
def Z5:aJ:=((aJ.nil.add 184 Mn).add 215 TX).add 216 TY
def WK:An:={mask:=mk [(6,[4,10,12,13,15,16])],mv:=[32,39,52,60],sb:=mg [(15,15)]}
@[reducible] def Az:SD:=⟨bs 4 (.data false .str::bs 5 (.ptr 10 0::B::.data false (.sl .loc (.int .i64))::.data false (.sl .loc (.int .i64))::B::.ptr 15 0::DI::bs 44 [])),zs 10 ((some (.sl (.own (some 122881)) .str))::zs 4 ((some (.sl (.own (some 184321)) .str))::zs 45 [])),.none⟩
def Lw {R:Type}(X:SD.D Az)(K:Ex→AS→Option R):=Pu.eS (fun y0 y1 y2=>ke 0 K Az ((w y0 (z2 (u y1)) X.1),(z1 (u y2) X.2.1),X.2.2)) X.1.2.1 (q2 X) X.2.1.1
def Qw:aL:=cj Az Lw (fun X=>(X.1.1,q3 X,X.2.1.2.1))
def Sp:aO:=(aO.nil).add 6 Qw
theorem Pk:bZ E Z5 WK Sp (af Tryz.f183 0):=lk Az Lw (fun X=>(X.1.1,q3 X,X.2.1.2.1)) fun X x=>((w x.1 (z2 (u x.2.1)) X.1),(z1 (u x.2.2) X.2.1),X.2.2)
theorem Xc:ak Tryz.prog 183 TG:=fk WK (((base.add MR).add abZ).add ab0) Tryz.func183 (Λ:=Sp) (cF Pk nF)
def Yv:aq:=ah [pd (.sl aB),pf (.sl .str),pI,pI,pd .str] [(true,(.sl (.own none) .str)),rB] (c5 Pu.k8)
def ZP:aJ:=aJ.nil.add 183 TG
def Wt:An:={mask:=mk [(3,[0,2,3,4,6,10,12,13])],mv:=[27]}
@[reducible] def As:SD:=⟨.data false (.sl .arg aB)::B::DI::DI::.data false .str::B::.ptr 6 0::B::B::B::.ptr 10 0::B::.data false (.sl (.own (some 147456)) aB)::DI::bs 25 [],zs 6 ((some (.sl .arg .str))::Z::Z::Z::(some (.sl (.own (some 122881)) .str))::zs 28 []),.none⟩
def Lc {R:Type}(X:SD.D As)(K:Ex→AS→Option R):=Pu.gz (fun y0 y1=>ke 0 K As ((z4 (w y0 (u y1)) X.1),X.2)) X.1.1 X.1.2.1 (q2 X) (q3 X) X.2.1.1 X.2.1.2.1
def Qd:aL:=cj As Lc (fun X=>(q4 X,q5 X))
def R9:aO:=(aO.nil).add 3 Qd
theorem O0:bZ E ZP Wt R9 (af Tryz.f139 0):=lk As Lc (fun X=>(q4 X,q5 X)) fun X x=>((z4 (w x.1 (u x.2)) X.1),X.2)
theorem aa2:ak Tryz.prog 139 Yv:=fk Wt (base.add Xc) Tryz.func139 (Λ:=R9) (cF O0 nF)
def TH:aq:=ah [pf cc] [(true,Y3)] (c1 Pu.nj)
theorem abD:ak Tryz.prog 185 TH:=f0 {sb:=mg [(2,2)]} base Tryz.func185
def Zh:aq:=ah [pI] [rB] (c1 Pu.lj)
theorem Xk:ak Tryz.prog 217 Zh:=f0 {merge:=mg [(1,2)]} base Tryz.func217
def Zi:aq:=ah [pf cu] [rI] (c1 Pu.jf)
theorem Xl:ak Tryz.prog 218 Zi:=f0 {} (base.add Xk) Tryz.func218
def TI:aq:=ah [pf cu] [rB] (c1 Pu.kf)
theorem Q3:ak Tryz.prog 186 TI:=f0 {merge:=mg [(1,2)]} (((base.add yE).add Xk).add Xl) Tryz.func186
def TJ:aq:=ah [pf cu] [rI] (c1 Pu.je)
theorem Xd:ak Tryz.prog 187 TJ:=f0 {} ((base.add Q3).add Xl) Tryz.func187
def Zj:aq:=ah [pf cu,pI] [rI] (c2 Pu.ix)
theorem ab1:ak Tryz.prog 219 Zj:=f0 {merge:=mg [(1,11)]} (base.add Q3) Tryz.func219
def TK:aq:=ah [pd (.sl aB),pf (.sl .str),pI,pf cu,pd .str] [(true,(.sl (.own none) .str)),(true,Y2),rB] (c5 Pu.na)
theorem abE:ak Tryz.prog 188 TK:=f0 {merge:=mg [(1,22)],mv:=[26,36,51],mb:=mg [(51,13)],sb:=mg [(10,10),(11,11),(13,13)]} ((((base.add Xc).add MR).add Xd).add ab1) Tryz.func188
def Zk:aq:=ah [pf yR] [rB] (c1 Pu.oO)
theorem ab2:ak Tryz.prog 220 Zk:=f0 {merge:=mg [(1,2)]} (base.add yE) Tryz.func220
def Zl:aq:=ah [pI] [rS] (c1 Pu.dU)
theorem ab3:ak Tryz.prog 221 Zl:=f0 {} (base.add yE) Tryz.func221
def TL:aq:=ah [pf yR] [rS] (c1 Pu.jw)
theorem abF:ak Tryz.prog 189 TL:=f0 {} (((base.add Xb).add ab2).add ab3) Tryz.func189
def TM:aq:=ah [pf cc,pI] [rI] (c2 Pu.fy)
theorem abG:ak Tryz.prog 190 TM:=f0 {merge:=mg [(1,15)]} ((base.add yE).add Q2) Tryz.func190
def Yw:aq:=ah [pd (.sl aB),pf (.sl .str),pI,pf cu,pf cc] [(true,(.sl (.own none) .str)),(true,Y2),(true,Y3),rI] (c5 Pu.ma)
def ZQ:aJ:=(((((((aJ.nil.add 182 Ot).add 184 Mn).add 185 TH).add 186 TI).add 187 TJ).add 188 TK).add 189 TL).add 190 TM
def Wu:An:={mask:=mk [(6,[0,2,8,9,10,11,12,14,15,16])],merge:=mg [(4,32),(6,44)],mv:=[33,35,49,63,68,78,80],mb:=mg [(33,14),(35,15),(78,14),(80,15)],sb:=mg [(10,10),(11,11),(12,12),(18,18),(19,19)]}
@[reducible] def Au:SD:=⟨.data false (.sl .arg aB)::B::DI::bs 5 (.ptr 8 0::.ptr 9 0::.ptr 10 0::.ptr 11 0::.ptr 12 0::B::.ptr 14 0::.ptr 15 0::DI::bs 65 []),zs 8 ((some Y2)::(some XL)::(some (.sl (.own (some 122881)) .str))::(some Y2)::(some Y15)::Z::(some (.sl (.own (some 172033)) .str))::(some Y14)::zs 66 []),.none⟩
def Ld {R:Type}(X:SD.D Au)(K:Ex→AS→Option R):=Pu.eT (fun y0 y1 y2 y3=>ke 0 K Au ((z2 (u y0) X.1),(w y1 (z4 (w y2 (u y3))) X.2.1),X.2.2)) X.1.1 X.1.2.1 X.2.1.2.1 X.2.1.2.2.1 X.2.1.2.2.2.1 X.2.1.2.2.2.2.1
def Qe:aL:=cj Au Ld (fun X=>(q2 X,X.2.1.1,X.2.1.2.2.2.2.2.1,X.2.1.2.2.2.2.2.2.1))
def Sa:aO:=(aO.nil).add 6 Qe
theorem O1:bZ E ZQ Wu Sa (af Tryz.f140 0):=lk Au Ld (fun X=>(q2 X,X.2.1.1,X.2.1.2.2.2.2.2.1,X.2.1.2.2.2.2.2.2.1)) fun X x=>((z2 (u x.1) X.1),(w x.2.1 (z4 (w x.2.2.1 (u x.2.2.2))) X.2.1),X.2.2)
theorem aa3:ak Tryz.prog 140 Yw:=fk Wu ((((((((base.add Q2).add MR).add abD).add Q3).add Xd).add abE).add abF).add abG) Tryz.func140 (Λ:=Sa) (cF O1 nF)
def e83:aq:=EL bB [pI] [] fun x a=>Pu.nm x a.1
theorem o83:ak Tryz.prog 83 e83:=ak.Xt (Ui (an:={mv:=[47,51,65,67,84],mb:=mg [(84,6)],sb:=mg [(6,6),(50,0),(70,0),(71,5)]}) (Λ:=aO.nil) ((((base.add W8).add W9).add aa2).add aa3) Tryz.func83 (by kernel_rfl) (hF (by kernel_rfl) nF)) (fun x a=>by kernel_rfl)
def e31:aq:=ah [pI,pf cn,pf aK,pd .bool,pI,pI] [(true,Y4),rB] (c6 Pu.m8)
def g31:aJ:=((((((((aJ.nil.add 70 Ma).add 76 e76).add 77 Zr).add 78 e78).add 79 e79).add 80 e80).add 81 e81).add 82 e82).add 83 e83
def n31:An:={mask:=mk [(6,[0,12,14,16,17]),(10,[0,12,14,16,18])],merge:=mg [(2,42)],mv:=[57,74,80,86,92,98],mb:=mg [(57,16)],sb:=mg [(16,16),(67,16)]}
@[reducible] def Gk:SD:=⟨DI::bs 11 (.ptr 12 0::B::.ptr 14 0::B::.ptr 16 0::DI::bs 81 []),zs 12 ((some Y1)::Z::(some Y5)::Z::(some Y0)::zs 82 []),.none⟩
def Nw {R:Type}(X:SD.D Gk)(K:Ex→AS→Option R):=Pu.jz (fun y0 y1=>ke 0 K Gk ((z1 (u y0) X.1),(z2 (u y1) X.2.1),X.2.2)) X.1.1 X.2.1.1 X.2.1.2.1
def Vr:aL:=cj Gk Nw (fun X=>(X.1.2.1,X.2.1.2.2.1))
@[reducible] def AJ:SD:=⟨DI::bs 11 (.ptr 12 0::B::.ptr 14 0::B::.ptr 16 0::B::DI::bs 80 []),zs 12 ((some Y1)::Z::(some Y5)::Z::(some Y0)::zs 82 []),.none⟩
def LR {R:Type}(X:SD.D AJ)(K:Ex→AS→Option R):=Pu.iw (fun y0 y1=>ke 2 K AJ ((z1 (u y0) X.1),(z2 (u y1) X.2.1),X.2.2)) X.1.1 X.2.1.1 X.2.1.2.1
def QP:aL:=cj AJ LR (fun X=>(X.1.2.1,X.2.1.2.2.1))
def X9:aO:=((aO.nil).add 6 Vr).add 10 QP
theorem UL:bZ E g31 n31 X9 (af Tryz.f31 0):=lk Gk Nw (fun X=>(X.1.2.1,X.2.1.2.2.1)) fun X x=>((z1 (u x.1) X.1),(z2 (u x.2) X.2.1),X.2.2)
theorem PG:bZ E g31 n31 X9 (af Tryz.f31 1):=lk AJ LR (fun X=>(X.1.2.1,X.2.1.2.2.1)) fun X x=>((z1 (u x.1) X.1),(z2 (u x.2) X.2.1),X.2.2)
theorem o31:ak Tryz.prog 31 e31:=fk n31 (((((((((base.add yE).add o76).add o77).add o78).add o79).add o80).add o81).add o82).add o83) Tryz.func31 (Λ:=X9) (cF UL (cF PG nF))
def e32:aq:=ah [pf aw] [(true,(.pair Y8 Y6))] (c1 Pu.nk)
theorem o32:ak Tryz.prog 32 e32:=f0 {mv:=[7]} (base.add o81) Tryz.func32
def e7:aq:=ah [pd (.sl aw),pf aK,pd .bool,pf cm,pf (.sl .str),pI] [(true,Y11),rB] (c6 Pu.m7)
def g7:aJ:=(((((aJ.nil.add 27 e27).add 28 e28).add 29 e29).add 30 e30).add 31 e31).add 32 e32
def n7:An:={mask:=mk [(6,[0,2,7,9,12,13,16,17])],merge:=mg [(3,50)],mv:=[58,67,73,74,79,89,98],mb:=mg [(89,16)],sb:=mg [(18,18),(97,16)]}
@[reducible] def I4:SD:=⟨.data false (.sl .arg aw)::B::DB::bs 4 (.ptr 7 0::B::.ptr 9 0::B::B::.ptr 12 0::DB::B::B::.ptr 16 0::DI::bs 81 []),zs 7 ((some Y7)::Z::(some Y6)::Z::Z::(some Y9)::Z::Z::Z::(some (.pair (.sl (.own (some 196609)) bB) (.pair (.sl (.own (some 196612)) ao) (.pair (.sl (.own (some 196615)) aw) (.pair (.sl (.own (some 196618)) .str) (.pair Y2 (.pair (.sl (.own (some 196633)) (.int .i64)) (.sl (.own (some 196636)) .str))))))))::zs 82 []),.none⟩
def XF {R:Type}(X:SD.D I4)(K:Ex→AS→Option R):=Pu.jy (fun y0 y1=>ke 0 K I4 ((z3 (u y0) X.1),(z3 (u y1) X.2.1),X.2.2)) (fun y0 y1 y2 y3=>kr K I4 ((z2 (w y0 (u y1)) X.1),(z2 (w y2 (u y3)) X.2.1),X.2.2)) X.1.1 X.1.2.1 (q2 X) X.2.1.1 X.2.1.2.1 X.2.1.2.2.1
def aar:aL:=cj I4 XF (fun X=>(q3 X,X.2.1.2.2.2.1))
def L7:aO:=(aO.nil).add 6 aar
theorem aao:bZ E g7 n7 L7 (af Tryz.f7 0):=lk I4 XF (fun X=>(q3 X,X.2.1.2.2.2.1)) fun X x=>((z3 (u x.1) X.1),(z3 (u x.2) X.2.1),X.2.2)
theorem o7:ak Tryz.prog 7 e7:=fk n7 ((((((base.add o27).add o28).add o29).add o30).add o31).add o32) Tryz.func7 (Λ:=L7) (cF aao nF)
def e87:aq:=ah [pd (.sl (.int .i64))] [(false,(.sl (.own none) (.int .i64)))] (c1 Pu.oH)
def g87:aJ:=aJ.nil
def n87:An:={mask:=mk [(3,[0,3,4])],mv:=[21]}
@[reducible] def Gz:SD:=⟨.data false (.sl .arg (.int .i64))::B::B::.data false (.sl (.own (some 36864)) (.int .i64))::DI::bs 17 [],zs 22 [],.none⟩
def N1 {R:Type}(X:SD.D Gz)(K:Ex→AS→Option R):=Pu.rp (fun y0 y1=>ke 0 K Gz ((z1 (w y0 (u y1)) X.1),X.2)) X.1.1
def VV:aL:=cj Gz N1 (fun X=>(X.1.2.1,q2 X))
def L87:aO:=(aO.nil).add 3 VV
theorem Vg:bZ E g87 n87 L87 (af Tryz.f87 0):=lk Gz N1 (fun X=>(X.1.2.1,q2 X)) fun X x=>((z1 (w x.1 (u x.2)) X.1),X.2)
theorem o87:ak Tryz.prog 87 e87:=fk n87 base Tryz.func87 (Λ:=L87) (cF Vg nF)
def e84:aq:=ah [pf cn] [(true,Y8)] (c1 Pu.iW)
theorem o84:ak Tryz.prog 84 e84:=f0 {mv:=[14]} (base.add o87) Tryz.func84
def e33:aq:=ah [pf aw] [(true,(.pair Y8 Y6))] (c1 Pu.eL)
theorem o33:ak Tryz.prog 33 e33:=f0 {mv:=[17]} (base.add o84) Tryz.func33
def e8:aq:=ah [pd (.sl aw)] [(false,(.sl (.own none) aw))] (c1 Pu.dD)
def g8:aJ:=aJ.nil.add 33 e33
def n8:An:={mask:=mk [(3,[0,3,4])],mv:=[22]}
@[reducible] def Mk:SD:=⟨.data false (.sl .arg aw)::B::B::.data false (.sl (.own (some 36864)) aw)::DI::bs 18 [],zs 23 [],.none⟩
def XG {R:Type}(X:SD.D Mk)(K:Ex→AS→Option R):=Pu.nV (fun y0 y1=>ke 0 K Mk ((z1 (w y0 (u y1)) X.1),X.2)) X.1.1
def aas:aL:=cj Mk XG (fun X=>(X.1.2.1,q2 X))
def L8:aO:=(aO.nil).add 3 aas
theorem aap:bZ E g8 n8 L8 (af Tryz.f8 0):=lk Mk XG (fun X=>(X.1.2.1,q2 X)) fun X x=>((z1 (w x.1 (u x.2)) X.1),X.2)
theorem o8:ak Tryz.prog 8 e8:=fk n8 (base.add o33) Tryz.func8 (Λ:=L8) (cF aap nF)
def e85:aq:=ah [pf bt] [(true,(.pair (.int .i64) (.pair (.int .i64) (.pair (.int .i64) (.pair (.int .i64) (.pair (.int .i64) Y2))))))] (c1 Pu.oI)
theorem o85:ak Tryz.prog 85 e85:=f0 {} base Tryz.func85
def e34:aq:=ah [pd (.sl bt)] [(false,(.sl (.own none) bt))] (c1 Pu.ql)
def g34:aJ:=aJ.nil.add 85 e85
def n34:An:={mask:=mk [(3,[0,3,4])],mv:=[22]}
@[reducible] def Gl:SD:=⟨.data false (.sl .arg bt)::B::B::.data false (.sl (.own (some 36864)) bt)::DI::bs 18 [],zs 23 [],.none⟩
def Nx {R:Type}(X:SD.D Gl)(K:Ex→AS→Option R):=Pu.qR (fun y0 y1=>ke 0 K Gl ((z1 (w y0 (u y1)) X.1),X.2)) X.1.1
def Vs:aL:=cj Gl Nx (fun X=>(X.1.2.1,q2 X))
def L34:aO:=(aO.nil).add 3 Vs
theorem UM:bZ E g34 n34 L34 (af Tryz.f34 0):=lk Gl Nx (fun X=>(X.1.2.1,q2 X)) fun X x=>((z1 (w x.1 (u x.2)) X.1),X.2)
theorem o34:ak Tryz.prog 34 e34:=fk n34 (base.add o85) Tryz.func34 (Λ:=L34) (cF UM nF)
def YT:aq:=ah [pf jN] [(true,(.pair (.int .i64) Y2))] (c1 Pu.rn)
theorem abH:ak Tryz.prog 191 YT:=f0 {} base Tryz.func191
def Tp:aq:=ah [pf aQ] [(true,(.pair (.int .i64) (.pair (.pair (.int .i64) Y2) (.int .i64))))] (c1 Pu.jX)
theorem aa4:ak Tryz.prog 141 Tp:=f0 {} (base.add abH) Tryz.func141
def e86:aq:=ah [pd (.sl aQ)] [(false,(.sl (.own none) aQ))] (c1 Pu.qm)
def g86:aJ:=aJ.nil.add 141 Tp
def n86:An:={mask:=mk [(3,[0,3,4])],mv:=[22]}
@[reducible] def Gy:SD:=⟨.data false (.sl .arg aQ)::B::B::.data false (.sl (.own (some 36864)) aQ)::DI::bs 18 [],zs 23 [],.none⟩
def N0 {R:Type}(X:SD.D Gy)(K:Ex→AS→Option R):=Pu.qS (fun y0 y1=>ke 0 K Gy ((z1 (w y0 (u y1)) X.1),X.2)) X.1.1
def VU:aL:=cj Gy N0 (fun X=>(X.1.2.1,q2 X))
def L86:aO:=(aO.nil).add 3 VU
theorem Vf:bZ E g86 n86 L86 (af Tryz.f86 0):=lk Gy N0 (fun X=>(X.1.2.1,q2 X)) fun X x=>((z1 (w x.1 (u x.2)) X.1),X.2)
theorem o86:ak Tryz.prog 86 e86:=fk n86 (base.add aa4) Tryz.func86 (Λ:=L86) (cF Vf nF)
def e35:aq:=ah [pf (.sl aQ)] [(true,(.sl (.own none) aQ))] (c1 Pu.eK)
theorem o35:ak Tryz.prog 35 e35:=f0 {mv:=[8]} (base.add o86) Tryz.func35
def e36:aq:=ah [pf cK] [(true,(.pair .str (.sl (.own none) (.int .i64))))] (c1 Pu.iX)
theorem o36:ak Tryz.prog 36 e36:=f0 {mv:=[11]} (base.add o87) Tryz.func36
def e9:aq:=ah [pf aK] [(true,XM)] (c1 Pu.ck)
theorem o9:ak Tryz.prog 9 e9:=f0 {mv:=[16]} (((base.add o34).add o35).add o36) Tryz.func9
def e10:aq:=ah [pf cm] [(true,Y6)] (c1 Pu.fR)
theorem o10:ak Tryz.prog 10 e10:=f0 {} base Tryz.func10
def e37:aq:=ah [pd (.sl .str)] [(false,(.sl (.own none) .str))] (c1 Pu.nW)
def g37:aJ:=aJ.nil
def n37:An:={mask:=mk [(3,[0,3,4])],mv:=[21]}
@[reducible] def Gm:SD:=⟨.data false (.sl .arg .str)::B::B::.data false (.sl (.own (some 36864)) .str)::DI::bs 17 [],zs 22 [],.none⟩
def Ny {R:Type}(X:SD.D Gm)(K:Ex→AS→Option R):=Pu.oJ (fun y0 y1=>ke 0 K Gm ((z1 (w y0 (u y1)) X.1),X.2)) X.1.1
def Vt:aL:=cj Gm Ny (fun X=>(X.1.2.1,q2 X))
def L37:aO:=(aO.nil).add 3 Vt
theorem UN:bZ E g37 n37 L37 (af Tryz.f37 0):=lk Gm Ny (fun X=>(X.1.2.1,q2 X)) fun X x=>((z1 (w x.1 (u x.2)) X.1),X.2)
theorem o37:ak Tryz.prog 37 e37:=fk n37 base Tryz.func37 (Λ:=L37) (cF UN nF)
def e11:aq:=ah [pf (.sl .str)] [(true,(.sl (.own none) .str))] (c1 Pu.dS)
theorem o11:ak Tryz.prog 11 e11:=f0 {mv:=[8]} (base.add o37) Tryz.func11
def Tw:aq:=ah [pd (.sl (.int .i64))] [(false,(.sl (.own none) (.int .i64)))] (c1 Pu.dg)
theorem MP:ak Tryz.prog 152 Tw:=f0 {} base Tryz.func152
def SX:aq:=ah [pf cn] [(true,Y8)] (c1 Pu.fF)
theorem W4:ak Tryz.prog 102 SX:=f0 {mv:=[7]} (base.add MP) Tryz.func102
def e88:aq:=ah [pf aw] [(true,(.pair Y8 Y6))] (c1 Pu.ic)
theorem o88:ak Tryz.prog 88 e88:=f0 {mv:=[7]} (base.add W4) Tryz.func88
def e38:aq:=ah [pd (.sl aw)] [(false,(.sl (.own none) aw))] (c1 Pu.ku)
def g38:aJ:=aJ.nil.add 88 e88
def n38:An:={mask:=mk [(3,[3,7,8,9])],mv:=[13,19]}
@[reducible] def Gn:SD:=⟨B::B::B::.data false (.sl (.own (some 36864)) aw)::B::B::B::.data false (.sl .arg aw)::DI::DI::bs 10 [],zs 20 [],.none⟩
def Nz {R:Type}(X:SD.D Gn)(K:Ex→AS→Option R):=Pu.gn (fun y0 y1=>ke 0 K Gn ((w y0 (z2 (u y1)) X.1),X.2)) X.1.2.1 (q2 X)
def Vu:aL:=cj Gn Nz (fun X=>(X.1.1,q3 X))
def L38:aO:=(aO.nil).add 3 Vu
theorem UO:bZ E g38 n38 L38 (af Tryz.f38 0):=lk Gn Nz (fun X=>(X.1.1,q3 X)) fun X x=>((w x.1 (z2 (u x.2)) X.1),X.2)
theorem o38:ak Tryz.prog 38 e38:=fk n38 (base.add o88) Tryz.func38 (Λ:=L38) (cF UO nF)
def e89:aq:=ah [pd (.sl .str)] [(false,(.sl (.own none) .str))] (c1 Pu.dk)
theorem o89:ak Tryz.prog 89 e89:=f0 {} base Tryz.func89
def e39:aq:=ah [pf (.sl .str)] [(true,(.sl (.own none) .str))] (c1 Pu.nH)
theorem o39:ak Tryz.prog 39 e39:=f0 {} (base.add o89) Tryz.func39
def I6:aq:=ah [pI,pI,pI] [rB] (c3 Pu.al)
theorem yF:ak Tryz.prog 90 I6:=f0 {merge:=mg [(1,6)]} base Tryz.func90
def Zt:aq:=ah [pf cn] [rB] (c1 Pu.fP)
def g98:aJ:=aJ.nil.add 90 I6
def n98:An:={mask:=mk [(2,[1,2,6,7,8])],merge:=mg [(4,29),(7,2)]}
@[reducible] def CB:SD:=⟨B::.ptr 1 0::DB::B::B::B::.data false (.sl .arg (.int .i64))::DI::DI::bs 31 [],Z::(some XN)::zs 38 [],.none⟩
def N5 {R:Type}(X:SD.D CB)(K:Ex→AS→Option R):=Pu.hZ (fun y0=>ke 0 K CB ((z3 (u y0) X.1),X.2)) (fun y0 y1=>kr K CB ((w y0 (z2 (u y1)) X.1),X.2)) X.1.1 X.1.2.1 (q2 X) X.2.1.1
def VZ:aL:=cj CB N5 q3
def L98:aO:=(aO.nil).add 2 VZ
theorem Vk:bZ E g98 n98 L98 (af Tryz.f98 0):=lk CB N5 q3 fun X x=>((z3 (u x) X.1),X.2)
theorem o98:ak Tryz.prog 98 Zt:=fk n98 (base.add yF) Tryz.func98 (Λ:=L98) (cF Vk nF)
def e91:aq:=ah [pf aw] [rB] (c1 Pu.kk)
theorem o91:ak Tryz.prog 91 e91:=f0 {merge:=mg [(1,2)]} ((base.add yF).add o98) Tryz.func91
def Zs:aq:=ah [pd (.sl (.int .i64)),pI] [rB] (c2 Pu.jU)
def g92:aJ:=aJ.nil
def n92:An:={mask:=mk [(2,[1,4,7,8,9])]}
@[reducible] def Cz:SD:=⟨B::DI::B::B::DB::B::B::.data false (.sl .arg (.int .i64))::DI::DI::bs 7 [],zs 17 [],.none⟩
def N2 {R:Type}(X:SD.D Cz)(K:Ex→AS→Option R):=Pu.rl (fun y0=>ke 0 K Cz ((z4 (u y0) X.1),X.2)) (fun y0 y1=>kr K Cz ((z1 (w y0 (z2 (u y1))) X.1),X.2)) X.1.1 X.1.2.1 (q2 X) (q3 X)
def VW:aL:=cj Cz N2 q4
def L92:aO:=(aO.nil).add 2 VW
theorem Vh:bZ E g92 n92 L92 (af Tryz.f92 0):=lk Cz N2 q4 fun X x=>((z4 (u x) X.1),X.2)
theorem o92:ak Tryz.prog 92 Zs:=fk n92 base Tryz.func92 (Λ:=L92) (cF Vh nF)
def e93:aq:=ah [pd (.sl (.int .i64)),pI] [(false,(.sl (.own none) (.int .i64)))] (c2 Pu.dC)
def g93:aJ:=aJ.nil
def n93:An:={mask:=mk [(4,[1,5,6,10,11,12])],merge:=mg [(6,22)],mv:=[23,27,34,38]}
@[reducible] def GA:SD:=⟨B::DI::B::B::B::.data false (.sl (.own (some 61440)) (.int .i64))::DB::B::B::B::.data false (.sl .arg (.int .i64))::DI::DI::bs 26 [],zs 39 [],.none⟩
def N3 {R:Type}(X:SD.D GA)(K:Ex→AS→Option R):=Pu.dq (fun y0 y1 y2=>ke 0 K GA ((z1 (w y0 (w y1 (z2 (u y2)))) X.1),X.2)) X.1.1 (q3 X) (q4 X)
def VX:aL:=cj GA N3 (fun X=>(X.1.2.1,q2 X,q5 X))
def L93:aO:=(aO.nil).add 4 VX
theorem Vi:bZ E g93 n93 L93 (af Tryz.f93 0):=lk GA N3 (fun X=>(X.1.2.1,q2 X,q5 X)) fun X x=>((z1 (w x.1 (w x.2.1 (z2 (u x.2.2)))) X.1),X.2)
theorem o93:ak Tryz.prog 93 e93:=fk n93 base Tryz.func93 (Λ:=L93) (cF Vi nF)
def Tq:aq:=ah [pf jO] [(true,XN)] (c1 Pu.oW)
theorem aa5:ak Tryz.prog 142 Tq:=f0 {} base Tryz.func142
def Tr:aq:=ah [pd (.sl jO),pI] [rI] (c2 Pu.lQ)
def ZR:aJ:=aJ.nil
def Wv:An:={mask:=mk [(2,[1,4,7,8,9])],merge:=mg [(4,21)]}
@[reducible] def wB:SD:=⟨B::DI::B::B::DI::B::B::.data false (.sl .arg jO)::DI::DI::bs 14 [],zs 24 [],.none⟩
def Lf {R:Type}(X:SD.D wB)(K:Ex→AS→Option R):=Pu.eF (fun y0=>ke 0 K wB ((z4 (u y0) X.1),X.2)) (fun y0 y1=>kr K wB ((z1 (w y0 (z2 (u y1))) X.1),X.2)) X.1.1 X.1.2.1 (q2 X) (q3 X)
def Qf:aL:=cj wB Lf q4
def Sb:aO:=(aO.nil).add 2 Qf
theorem O2:bZ E ZR Wv Sb (af Tryz.f143 0):=lk wB Lf q4 fun X x=>((z4 (u x) X.1),X.2)
theorem aa6:ak Tryz.prog 143 Tr:=fk Wv base Tryz.func143 (Λ:=Sb) (cF O2 nF)
def e94:aq:=ah [pd (.sl jO)] [rB] (c1 Pu.ks)
def g94:aJ:=((((aJ.nil.add 90 I6).add 92 Zs).add 98 Zt).add 142 Tq).add 143 Tr
def n94:An:={mask:=mk [(4,[0,2,9,10,11])],merge:=mg [(6,27),(8,37)]}
@[reducible] def CA:SD:=⟨.data false (.sl .arg jO)::B::DB::bs 6 (.data false (.sl .arg jO)::DI::DI::bs 27 []),zs 39 [],.none⟩
def N4 {R:Type}(X:SD.D CA)(K:Ex→AS→Option R):=Pu.jn (fun y0=>ke 0 K CA ((z4 (u y0) X.1),X.2)) (fun y0 y1=>kr K CA ((z1 (w y0 (z2 (u y1))) X.1),X.2)) X.1.1 X.1.2.1 (q2 X) (q3 X)
def VY:aL:=cj CA N4 q4
def L94:aO:=(aO.nil).add 4 VY
theorem Vj:bZ E g94 n94 L94 (af Tryz.f94 0):=lk CA N4 q4 fun X x=>((z4 (u x) X.1),X.2)
theorem o94:ak Tryz.prog 94 e94:=fk n94 (((((base.add yF).add o92).add o98).add aa5).add aa6) Tryz.func94 (Λ:=L94) (cF Vj nF)
def e40:aq:=ah [pd (.sl aw)] [(false,(.sl (.own none) jO)),rB] (c1 Pu.mT)
def g40:aJ:=((((aJ.nil.add 90 I6).add 91 e91).add 92 Zs).add 93 e93).add 94 e94
def n40:An:={mask:=mk [(6,[2,3,4,5,18,19,20]),(12,[2,3,4,5,7,8,18,19,20,32,33,34])],mv:=[53,57,63,69]}
@[reducible] def AK:SD:=⟨B::B::.data false (.sl (.own (some 24576)) jO)::DB::.data false (.sl (.own (some 49152)) jO)::.data false (.sl (.own (some 61440)) (.int .i64))::B::.ptr 7 0::.data false (.sl (.own (some 98304)) (.int .i64))::bs 9 (.data false (.sl .arg aw)::DI::DI::bs 11 (.data false (.sl (.own (some 393216)) (.int .i64))::DI::DI::bs 35 [])),zs 7 ((some (.pair XN Y6))::zs 62 []),.none⟩
def LS {R:Type}(X:SD.D AK)(K:Ex→AS→Option R):=Pu.di (fun y0 y1 y2=>ke 2 K AK ((z3 (w y0 (w y1 (z5 (u y2)))) X.1),X.2)) X.1.1 X.1.2.1 (q2 X) (q5 X) (q6 X) (q7 X) (q8 X) (q9 X) X.2.1.1
def QQ:aL:=cj AK LS (fun X=>(q3 X,q4 X,Ru X))
@[reducible] def Cj:SD:=⟨B::B::.data false (.sl (.own (some 24576)) jO)::DB::.data false (.sl (.own (some 49152)) jO)::.data false (.sl (.own (some 61440)) (.int .i64))::bs 12 (.data false (.sl .arg aw)::DI::DI::bs 49 []),zs 70 [],.none⟩
def NA {R:Type}(X:SD.D Cj)(K:Ex→AS→Option R):=Pu.fE (fun y0 y1 y2=>ke 0 K Cj ((z2 (w y0 (w y1 (z2 (u y2)))) X.1),X.2)) (fun y0 y1 y2 y3 y4=>kr K Cj ((w y0 (w y1 (w y2 (w y3 (z2 (u y4))))) X.1),X.2)) X.1.1 X.1.2.1 (q4 X) (q5 X)
def Vv:aL:=cj Cj NA (fun X=>(q2 X,q3 X,q6 X))
def Ya:aO:=((aO.nil).add 12 QQ).add 6 Vv
theorem PH:bZ E g40 n40 Ya (af Tryz.f40 1):=lk AK LS (fun X=>(q3 X,q4 X,Ru X)) fun X x=>((z3 (w x.1 (w x.2.1 (z5 (u x.2.2)))) X.1),X.2)
theorem UP:bZ E g40 n40 Ya (af Tryz.f40 0):=lk Cj NA (fun X=>(q2 X,q3 X,q6 X)) fun X x=>((z2 (w x.1 (w x.2.1 (z2 (u x.2.2)))) X.1),X.2)
theorem o40:ak Tryz.prog 40 e40:=fk n40 (((((base.add yF).add o91).add o92).add o93).add o94) Tryz.func40 (Λ:=Ya) (cF UP (cF PH nF))
def e41:aq:=ah [pf cm] [rB] (c1 Pu.oT)
theorem o41:ak Tryz.prog 41 e41:=f0 {merge:=mg [(1,2)]} (base.add yF) Tryz.func41
def e95:aq:=ah [pf (.sl .str)] [rB] (c1 Pu.p7)
theorem o95:ak Tryz.prog 95 e95:=f0 {merge:=mg [(1,2)]} base Tryz.func95
def Yx:aq:=ah [pd .str,pI] [rI] (c2 Pu.nG)
theorem aa7:ak Tryz.prog 144 Yx:=f0 {merge:=mg [(1,13)]} base Tryz.func144
def YU:aq:=ah [pI] [rS] (c1 Pu.gI)
theorem Xe:ak Tryz.prog 192 YU:=f0 {} (base.add yF) Tryz.func192
def YV:aq:=ah [pd .str] [rI] (c1 Pu.p6)
def Uw:aJ:=aJ.nil
def QX:An:={mask:=mk [(3,[0,3,4]),(7,[0,3,4,5])]}
@[reducible] def AB:SD:=⟨.data false .str::B::B::.data false (.int .u32)::DI::DI::bs 28 [],zs 34 [],.none⟩
def Ly {R:Type}(X:SD.D AB)(K:Ex→AS→Option R):=Pu.fN (fun y0 y1=>ke 2 K AB ((z1 (w y0 (z1 (u y1))) X.1),X.2)) X.1.1 (q2 X)
def Qy:aL:=cj AB Ly (fun X=>(X.1.2.1,q3 X))
@[reducible] def AA:SD:=⟨.data false .str::B::B::.data false (.int .u32)::DI::bs 29 [],zs 34 [],.none⟩
def Lx {R:Type}(X:SD.D AA)(K:Ex→AS→Option R):=Pu.iQ (fun y0 y1=>ke 0 K AA ((z1 (w y0 (u y1)) X.1),X.2)) X.1.1
def Qx:aL:=cj AA Lx (fun X=>(X.1.2.1,q2 X))
def Ob:aO:=((aO.nil).add 7 Qy).add 3 Qx
theorem Pn:bZ E Uw QX Ob (af Tryz.f193 1):=lk AB Ly (fun X=>(X.1.2.1,q3 X)) fun X x=>((z1 (w x.1 (z1 (u x.2))) X.1),X.2)
theorem Pm:bZ E Uw QX Ob (af Tryz.f193 0):=lk AA Lx (fun X=>(X.1.2.1,q2 X)) fun X x=>((z1 (w x.1 (u x.2)) X.1),X.2)
theorem abI:ak Tryz.prog 193 YV:=fk QX base Tryz.func193 (Λ:=Ob) (cF Pm (cF Pn nF))
def Yy:aq:=ah [pI,pd .str] [rS,rB] (c2 Pu.kl)
theorem aa8:ak Tryz.prog 145 Yy:=f0 {merge:=mg [(1,15)]} (((base.add yF).add Xe).add abI) Tryz.func145
def e96:aq:=ah [pd .str] [rI] (c1 Pu.dM)
theorem o96:ak Tryz.prog 96 e96:=f0 {merge:=mg [(2,19),(5,38)]} ((base.add aa7).add aa8) Tryz.func96
def e42:aq:=ah [pf (.sl .str)] [rI] (c1 Pu.lK)
theorem o42:ak Tryz.prog 42 e42:=f0 {merge:=mg [(4,18)]} ((base.add o95).add o96) Tryz.func42
def e43:aq:=ah [pf cu] [rB] (c1 Pu.pZ)
theorem o43:ak Tryz.prog 43 e43:=f0 {merge:=mg [(1,2)]} (base.add yF) Tryz.func43
def YW:aq:=ah [pf bh] [rB] (c1 Pu.xm)
theorem abJ:ak Tryz.prog 194 YW:=f0 {merge:=mg [(1,2)]} base Tryz.func194
def Yz:aq:=ah [pf bh] [rB] (c1 Pu.oV)
theorem aa9:ak Tryz.prog 146 Yz:=f0 {merge:=mg [(1,24),(3,2)]} ((base.add yF).add abJ) Tryz.func146
def e97:aq:=ah [pI,pI] [(true,Y5),rB] (c2 Pu.ko)
theorem o97:ak Tryz.prog 97 e97:=f0 {} (base.add aa9) Tryz.func97
def TN:aq:=ah [pf bt] [rB] (c1 Pu.rk)
theorem abK:ak Tryz.prog 195 TN:=f0 {merge:=mg [(1,33),(3,54),(5,2)]} (base.add yF) Tryz.func195
def Ts:aq:=ah [pd (.sl bt)] [rB] (c1 Pu.p8)
def ZS:aJ:=aJ.nil.add 195 TN
def Ww:An:={mask:=mk [(2,[0,2,5,6,7])]}
@[reducible] def wC:SD:=⟨.data false (.sl .arg bt)::B::DB::B::B::.data false (.sl .arg bt)::DI::DI::bs 10 [],zs 18 [],.none⟩
def Lg {R:Type}(X:SD.D wC)(K:Ex→AS→Option R):=Pu.qK (fun y0=>ke 0 K wC ((z4 (u y0) X.1),X.2)) (fun y0 y1=>kr K wC ((z1 (w y0 (z2 (u y1))) X.1),X.2)) X.1.1 X.1.2.1 (q2 X) (q3 X)
def Qg:aL:=cj wC Lg q4
def Sc:aO:=(aO.nil).add 2 Qg
theorem O3:bZ E ZS Ww Sc (af Tryz.f147 0):=lk wC Lg q4 fun X x=>((z4 (u x) X.1),X.2)
theorem aba:ak Tryz.prog 147 Ts:=fk Ww (base.add abK) Tryz.func147 (Λ:=Sc) (cF O3 nF)
def TO:aq:=ah [pf (.sl aQ),pf jN] [rI] (c2 Pu.oB)
def Z6:aJ:=aJ.nil
def WL:An:={mask:=mk [(2,[3,4,8,9,10])],merge:=mg [(4,23)]}
@[reducible] def wO:SD:=⟨B::B::B::.ptr 3 0::DI::B::B::B::.data false (.sl .arg aQ)::DI::DI::bs 15 [],Z::Z::Z::(some (.pair (.int .i64) Y2))::zs 22 [],.none⟩
def Lz {R:Type}(X:SD.D wO)(K:Ex→AS→Option R):=Pu.ky (fun y0=>ke 0 K wO ((z3 (u y0) X.1),X.2)) (fun y0 y1=>kr K wO ((w y0 (z2 (u y1)) X.1),X.2)) X.1.1 X.1.2.1 (q2 X) X.2.1.1
def Qz:aL:=cj wO Lz q3
def Sq:aO:=(aO.nil).add 2 Qz
theorem Po:bZ E Z6 WL Sq (af Tryz.f196 0):=lk wO Lz q3 fun X x=>((z3 (u x) X.1),X.2)
theorem abL:ak Tryz.prog 196 TO:=fk WL base Tryz.func196 (Λ:=Sq) (cF Po nF)
def T0:aq:=ah [pI,pI] [rI] (c2 Pu.dN)
theorem Xm:ak Tryz.prog 223 T0:=f0 {} base Tryz.func223
def TZ:aq:=ah [pf jN] [rI] (c1 Pu.lM)
def aac:aJ:=aJ.nil.add 223 T0
def WS:An:={mask:=mk [(3,[3,16,17,18])]}
@[reducible] def AG:SD:=⟨B::B::B::DI::bs 12 (.data false (.sl (.own (some 196608)) (.int .i64))::DI::DI::bs 10 []),zs 29 [],.none⟩
def LG {R:Type}(X:SD.D AG)(K:Ex→AS→Option R):=Pu.eD (fun y0 y1=>ke 0 K AG ((w y0 (z2 (u y1)) X.1),X.2)) X.1.2.1 (q2 X)
def QF:aL:=cj AG LG (fun X=>(X.1.1,q3 X))
def Sw:aO:=(aO.nil).add 3 QF
theorem Pv:bZ E aac WS Sw (af Tryz.f222 0):=lk AG LG (fun X=>(X.1.1,q3 X)) fun X x=>((w x.1 (z2 (u x.2)) X.1),X.2)
theorem ab4:ak Tryz.prog 222 TZ:=fk WS (base.add Xm) Tryz.func222 (Λ:=Sw) (cF Pv nF)
def TP:aq:=ah [pf jN] [(false,(.sl (.own none) (.int .i64)))] (c1 Pu.qb)
def Z7:aJ:=aJ.nil.add 222 TZ
def WM:An:={mask:=mk [(3,[1,3,4])],mv:=[10,18]}
@[reducible] def AD:SD:=⟨B::.ptr 1 0::B::.data false (.sl (.own (some 36864)) (.int .i64))::DI::bs 14 [],Z::(some (.pair (.int .i64) Y2))::zs 17 [],.none⟩
def LA {R:Type}(X:SD.D AD)(K:Ex→AS→Option R):=Pu.iS (fun y0 y1=>ke 0 K AD ((w y0 (u y1) X.1),X.2)) X.2.1.1
def QA:aL:=cj AD LA (fun X=>(X.1.1,X.1.2.1))
def Sr:aO:=(aO.nil).add 3 QA
theorem Pp:bZ E Z7 WM Sr (af Tryz.f197 0):=lk AD LA (fun X=>(X.1.1,X.1.2.1)) fun X x=>((w x.1 (u x.2) X.1),X.2)
theorem abM:ak Tryz.prog 197 TP:=fk WM (base.add ab4) Tryz.func197 (Λ:=Sr) (cF Pp nF)
def Tt:aq:=ah [pf (.sl aQ)] [rB] (c1 Pu.kt)
def Uu:aJ:=((aJ.nil.add 90 I6).add 196 TO).add 197 TP
def QV:An:={mask:=mk [(4,[1,2,12,13,14]),(14,[1,2,3,12,13,14,49,50,51])],merge:=mg [(6,28),(9,40)]}
@[reducible] def tA:SD:=⟨B::.ptr 1 0::DB::DI::bs 8 (.data false (.sl .arg aQ)::DI::DI::bs 34 (.data false (.sl (.own (some 602112)) (.int .i64))::DI::DI::bs 15 [])),Z::(some (.sl .arg aQ))::zs 65 [],.none⟩
def G7 {R:Type}(X:SD.D tA)(K:Ex→AS→Option R):=Pu.dj (fun y0=>ke 2 K tA ((z7 (u y0) X.1),X.2)) (fun y0 y1=>kr K tA ((w y0 (z6 (u y1)) X.1),X.2)) X.1.1 X.1.2.1 (q2 X) (q3 X) (q4 X) (q5 X) (q6 X) X.2.1.1
def MH:aL:=cj tA G7 q7
@[reducible] def wD:SD:=⟨B::.ptr 1 0::DB::bs 9 (.data false (.sl .arg aQ)::DI::DI::bs 52 []),Z::(some (.sl .arg aQ))::zs 65 [],.none⟩
def Lh {R:Type}(X:SD.D wD)(K:Ex→AS→Option R):=Pu.jq (fun y0=>ke 0 K wD ((z3 (u y0) X.1),X.2)) (fun y0 y1=>kr K wD ((w y0 (z2 (u y1)) X.1),X.2)) X.1.1 X.1.2.1 (q2 X) X.2.1.1
def Qh:aL:=cj wD Lh q3
def N9:aO:=((aO.nil).add 14 MH).add 4 Qh
theorem MF:bZ E Uu QV N9 (af Tryz.f148 1):=lk tA G7 q7 fun X x=>((z7 (u x) X.1),X.2)
theorem O4:bZ E Uu QV N9 (af Tryz.f148 0):=lk wD Lh q3 fun X x=>((z3 (u x) X.1),X.2)
theorem abb:ak Tryz.prog 148 Tt:=fk QV (((base.add yF).add abL).add abM) Tryz.func148 (Λ:=N9) (cF O4 (cF MF nF))
def TQ:aq:=ah [pI] [rB] (c1 Pu.nJ)
theorem abN:ak Tryz.prog 198 TQ:=f0 {merge:=mg [(1,2)]} base Tryz.func198
def Tu:aq:=ah [pf cK,pI] [rB] (c2 Pu.oU)
def ZT:aJ:=(aJ.nil.add 90 I6).add 198 TQ
def Wx:An:={mask:=mk [(4,[1,4,24,25,26])],merge:=mg [(1,22)]}
@[reducible] def wE:SD:=⟨B::DI::B::B::DB::bs 19 (.data false (.sl .arg (.int .i64))::DI::DI::bs 9 []),zs 36 [],.none⟩
def Li {R:Type}(X:SD.D wE)(K:Ex→AS→Option R):=Pu.pq (fun y0=>ke 0 K wE ((z4 (u y0) X.1),X.2)) (fun y0 y1=>kr K wE ((z1 (w y0 (z2 (u y1))) X.1),X.2)) X.1.1 X.1.2.1 (q2 X) (q3 X)
def Qi:aL:=cj wE Li q4
def Sd:aO:=(aO.nil).add 4 Qi
theorem O5:bZ E ZT Wx Sd (af Tryz.f149 0):=lk wE Li q4 fun X x=>((z4 (u x) X.1),X.2)
theorem abc:ak Tryz.prog 149 Tu:=fk Wx ((base.add yF).add abN) Tryz.func149 (Λ:=Sd) (cF O5 nF)
def e99:aq:=ah [pf aK,pI] [rB] (c2 Pu.jo)
def g99:aJ:=((aJ.nil.add 147 Ts).add 148 Tt).add 149 Tu
def n99:An:={mask:=mk [(4,[1,2,4,27,28,29]),(10,[1,4,45,46,47])],merge:=mg [(1,25),(6,41),(12,59)]}
@[reducible] def CC:SD:=⟨B::DI::.ptr 2 0::B::DB::bs 22 (.data false (.sl .arg bt)::DI::DI::bs 31 []),Z::Z::(some Y7)::zs 58 [],.none⟩
def N6 {R:Type}(X:SD.D CC)(K:Ex→AS→Option R):=Pu.ft (fun y0=>ke 0 K CC ((z4 (u y0) X.1),X.2)) (fun y0 y1=>kr K CC ((z1 (w y0 (z2 (u y1))) X.1),X.2)) X.1.1 X.1.2.1 (q2 X) (q3 X) X.2.1.1
def V0:aL:=cj CC N6 q4
@[reducible] def wY:SD:=⟨B::DI::B::B::DB::bs 40 (.data false (.sl .arg aQ)::DI::DI::bs 13 []),zs 61 [],.none⟩
def LV {R:Type}(X:SD.D wY)(K:Ex→AS→Option R):=Pu.ej (fun y0=>ke 2 K wY ((z4 (u y0) X.1),X.2)) (fun y0 y1=>kr K wY ((z1 (w y0 (z2 (u y1))) X.1),X.2)) X.1.1 X.1.2.1 (q2 X) (q3 X)
def QS:aL:=cj wY LV q4
def Yf:aO:=((aO.nil).add 4 V0).add 10 QS
theorem Vl:bZ E g99 n99 Yf (af Tryz.f99 0):=lk CC N6 q4 fun X x=>((z4 (u x) X.1),X.2)
theorem PJ:bZ E g99 n99 Yf (af Tryz.f99 1):=lk wY LV q4 fun X x=>((z4 (u x) X.1),X.2)
theorem o99:ak Tryz.prog 99 e99:=fk n99 (((base.add aba).add abb).add abc) Tryz.func99 (Λ:=Yf) (cF Vl (cF PJ nF))
def Tv:aq:=ah [pd (.int .u8),pI] [rS] (c2 Pu.mq)
def ZU:aJ:=aJ.nil
def Wy:An:={mask:=mk [(3,[0,5,10,11])]}
@[reducible] def Av:SD:=⟨.data false (.int .u8)::bs 4 (.data false (.sl (.own (some 61440)) (.int .u8))::bs 4 (DI::DI::bs 9 [])),zs 21 [],.none⟩
def Lj {R:Type}(X:SD.D Av)(K:Ex→AS→Option R):=Pu.kx (fun y0 y1=>ke 0 K Av ((z1 (w y0 (z1 (u y1))) X.1),X.2)) X.1.1 (q2 X)
def Qj:aL:=cj Av Lj (fun X=>(X.1.2.1,q3 X))
def Se:aO:=(aO.nil).add 3 Qj
theorem O6:bZ E ZU Wy Se (af Tryz.f150 0):=lk Av Lj (fun X=>(X.1.2.1,q3 X)) fun X x=>((z1 (w x.1 (z1 (u x.2))) X.1),X.2)
theorem abd:ak Tryz.prog 150 Tv:=fk Wy base Tryz.func150 (Λ:=Se) (cF O6 nF)
def SV:aq:=ah [pI] [(true,(.sl (.own none) .str))] (c1 Pu.gH)
def Zw:aJ:=(aJ.nil.add 90 I6).add 150 Tv
def V2:An:={mask:=mk [(5,[0,2,3,4])],mv:=[10,17,22],mb:=mg [(17,3)],sb:=mg [(21,3)]}
@[reducible] def Ae:SD:=⟨DI::B::.ptr 2 0::.ptr 3 0::DI::bs 18 [],Z::Z::(some (.sl (.own (some 24577)) .str))::(some (.sl (.own (some 36865)) .str))::zs 19 [],.none⟩
def KL {R:Type}(X:SD.D Ae)(K:Ex→AS→Option R):=Pu.gm (fun y0 y1=>ke 0 K Ae ((z1 (u y0) X.1),(z1 (u y1) X.2.1),X.2.2)) X.1.1 X.2.1.1
def PK:aL:=cj Ae KL (fun X=>(X.1.2.1,X.2.1.2.1))
def RH:aO:=(aO.nil).add 5 PK
theorem Oz:bZ E Zw V2 RH (af Tryz.f100 0):=lk Ae KL (fun X=>(X.1.2.1,X.2.1.2.1)) fun X x=>((z1 (u x.1) X.1),(z1 (u x.2) X.2.1),X.2.2)
theorem aaw:ak Tryz.prog 100 SV:=fk V2 ((base.add yF).add abd) Tryz.func100 (Λ:=RH) (cF Oz nF)
def Oq:aq:=ah [pf cc] [rB] (c1 Pu.jS)
def ZW:aJ:=aJ.nil.add 90 I6
def WA:An:={mask:=mk [(5,[1,2,3,26,27,28])],merge:=mg [(1,21),(7,43)]}
@[reducible] def wF:SD:=⟨B::.ptr 1 0::DB::.data false (.sl (.own (some 36864)) .bool)::bs 22 (.data false (.sl .arg (.int .i64))::DI::DI::bs 19 []),Z::(some XL)::zs 46 [],.none⟩
def Ll {R:Type}(X:SD.D wF)(K:Ex→AS→Option R):=Pu.kq (fun y0 y1=>ke 0 K wF ((z1 (w y0 (z2 (u y1))) X.1),X.2)) (fun y0 y1 y2=>kr K wF ((w y0 (w y1 (z2 (u y2))) X.1),X.2)) X.1.1 (q2 X) (q3 X) X.2.1.1
def Ql:aL:=cj wF Ll (fun X=>(X.1.2.1,q4 X))
def Sg:aO:=(aO.nil).add 5 Ql
theorem O8:bZ E ZW WA Sg (af Tryz.f159 0):=lk wF Ll (fun X=>(X.1.2.1,q4 X)) fun X x=>((z1 (w x.1 (z2 (u x.2))) X.1),X.2)
theorem Q0:ak Tryz.prog 159 Oq:=fk WA (base.add yF) Tryz.func159 (Λ:=Sg) (cF O8 nF)
def YA:aq:=ah [pI,pI,pI] [(true,Y3),rB] (c3 Pu.kn)
def ZV:aJ:=aJ.nil.add 159 Oq
def Wz:An:={mask:=mk [(5,[2,6,8,9])],mv:=[24,29]}
@[reducible] def Aw:SD:=⟨B::B::DI::B::B::B::.ptr 6 0::B::.ptr 8 0::DI::bs 20 [],zs 6 ((some Y17)::Z::(some Y16)::zs 21 []),.none⟩
def Lk {R:Type}(X:SD.D Aw)(K:Ex→AS→Option R):=Pu.jm (fun y0 y1=>ke 0 K Aw ((z1 (u y0) X.1),(z1 (u y1) X.2.1),X.2.2)) X.1.1 X.2.1.1
def Qk:aL:=cj Aw Lk (fun X=>(X.1.2.1,X.2.1.2.1))
def Sf:aO:=(aO.nil).add 5 Qk
theorem O7:bZ E ZV Wz Sf (af Tryz.f151 0):=lk Aw Lk (fun X=>(X.1.2.1,X.2.1.2.1)) fun X x=>((z1 (u x.1) X.1),(z1 (u x.2) X.2.1),X.2.2)
theorem Xa:ak Tryz.prog 151 YA:=fk Wz (base.add Q0) Tryz.func151 (Λ:=Sf) (cF O7 nF)
def SW:aq:=ah [] [(true,Yj)] fun a=>Pu.p9
theorem aax:ak Tryz.prog 101 SW:=f0 {mv:=[3,8]} (base.add Xa) Tryz.func101
def YB:aq:=ah [pf (.sl aQ)] [(true,(.sl (.own none) aQ))] (c1 Pu.kv)
theorem abe:ak Tryz.prog 153 YB:=f0 {} base Tryz.func153
def YC:aq:=ah [pf cK] [(true,(.pair .str (.sl (.own none) (.int .i64))))] (c1 Pu.jr)
theorem abf:ak Tryz.prog 154 YC:=f0 {sb:=mg [(2,2)]} (base.add MP) Tryz.func154
def SY:aq:=ah [pf aK] [(true,XM)] (c1 Pu.gp)
theorem aay:ak Tryz.prog 103 SY:=f0 {sb:=mg [(2,2)]} ((base.add abe).add abf) Tryz.func103
def YD:aq:=ah [pI] [rI] (c1 Pu.oA)
theorem abg:ak Tryz.prog 155 YD:=f0 {} base Tryz.func155
def SZ:aq:=ah [pI] [(true,(.pair Y2 (.pair Y6 (.pair Y6 (.pair (.pair (.pair (.int .i64) (.pair (.int .i64) (.pair (.int .i64) (.pair (.int .i64) (.pair (.int .i64) (.pair (.int .i64) (.pair (.int .i64) (.pair (.int .i64) (.pair (.int .i64) (.pair (.int .i64) (.pair (.int .i64) (.pair (.int .i64) (.pair (.int .i64) (.pair (.int .i64) (.pair (.int .i64) .str))))))))))))))) (.pair (.int .i64) (.int .i64))) (.pair .bool (.int .i64))))))),(true,Y3)] (c1 Pu.nI)
theorem aaz:ak Tryz.prog 104 SZ:=f0 {mv:=[10,24],mb:=mg [(24,5)],sb:=mg [(2,2),(3,3)]} ((base.add Xa).add abg) Tryz.func104
def Mm:aq:=ah [pf (.sl .str)] [(true,(.sl (.own none) .str))] (c1 Pu.cQ)
theorem MQ:ak Tryz.prog 156 Mm:=f0 {} (base.add o89) Tryz.func156
def Tx:aq:=ah [pf cc] [(true,Y3)] (c1 Pu.lP)
theorem abh:ak Tryz.prog 157 Tx:=f0 {mv:=[7]} (base.add MP) Tryz.func157
def YX:aq:=ah [pI] [rB] (c1 Pu.lR)
theorem Xf:ak Tryz.prog 199 YX:=f0 {merge:=mg [(1,2)]} base Tryz.func199
def YY:aq:=ah [pf cu] [rI] (c1 Pu.iR)
theorem Xg:ak Tryz.prog 200 YY:=f0 {} ((base.add Xf).add Xm) Tryz.func200
def Ty:aq:=ah [pf cu] [rB] (c1 Pu.jT)
theorem QZ:ak Tryz.prog 158 Ty:=f0 {merge:=mg [(1,2)]} (((base.add yF).add Xf).add Xg) Tryz.func158
def YZ:aq:=ah [pf yR] [rB] (c1 Pu.oy)
theorem abO:ak Tryz.prog 201 YZ:=f0 {merge:=mg [(1,2)]} (base.add yF) Tryz.func201
def Za:aq:=ah [pI] [rS] (c1 Pu.mm)
theorem abP:ak Tryz.prog 202 Za:=f0 {} (base.add yF) Tryz.func202
def Tz:aq:=ah [pf yR] [rS] (c1 Pu.ji)
theorem abi:ak Tryz.prog 160 Tz:=f0 {} (((base.add Xe).add abO).add abP) Tryz.func160
def TA:aq:=ah [pf cc,pI] [rI] (c2 Pu.fi)
theorem abj:ak Tryz.prog 161 TA:=f0 {merge:=mg [(1,15)]} ((base.add yF).add Q0) Tryz.func161
def Zb:aq:=ah [pf cu] [rI] (c1 Pu.lO)
theorem abQ:ak Tryz.prog 203 Zb:=f0 {} ((base.add QZ).add Xg) Tryz.func203
def Uc:aq:=ah [pd (.sl aB),pI,pI] [rI] (c3 Pu.eE)
def aak:aJ:=aJ.nil
def W0:An:={mask:=mk [(2,[1,2,6,9,10,11])],merge:=mg [(4,25)]}
@[reducible] def wX:SD:=⟨B::DI::DI::B::B::B::DI::B::B::.data false (.sl .arg aB)::DI::DI::bs 16 [],zs 28 [],.none⟩
def LQ {R:Type}(X:SD.D wX)(K:Ex→AS→Option R):=Pu.eo (fun y0=>ke 0 K wX ((z5 (u y0) X.1),X.2)) (fun y0 y1=>kr K wX ((z2 (w y0 (z2 (u y1))) X.1),X.2)) X.1.1 X.1.2.1 (q2 X) (q3 X) (q4 X)
def QO:aL:=cj wX LQ q5
def SF:aO:=(aO.nil).add 2 QO
theorem PF:bZ E aak W0 SF (af Tryz.f241 0):=lk wX LQ q5 fun X x=>((z5 (u x) X.1),X.2)
theorem Xr:ak Tryz.prog 241 Uc:=fk W0 base Tryz.func241 (Λ:=SF) (cF PF nF)
def T9:aq:=ah [pd (.sl aB)] [rB] (c1 Pu.jj)
def aai:aJ:=(aJ.nil.add 90 I6).add 241 Uc
def WY:An:={mask:=mk [(2,[0,2,5,6,7])],merge:=mg [(4,37)]}
@[reducible] def wV:SD:=⟨.data false (.sl .arg aB)::B::DB::B::B::.data false (.sl .arg aB)::DI::DI::bs 34 [],zs 42 [],.none⟩
def LO {R:Type}(X:SD.D wV)(K:Ex→AS→Option R):=Pu.fj (fun y0=>ke 0 K wV ((z4 (u y0) X.1),X.2)) (fun y0 y1=>kr K wV ((z1 (w y0 (z2 (u y1))) X.1),X.2)) X.1.1 X.1.2.1 (q2 X) (q3 X)
def QM:aL:=cj wV LO q4
def SC:aO:=(aO.nil).add 2 QM
theorem PC:bZ E aai WY SC (af Tryz.f236 0):=lk wV LO q4 fun X x=>((z4 (u x) X.1),X.2)
theorem acg:ak Tryz.prog 236 T9:=fk WY ((base.add yF).add Xr) Tryz.func236 (Λ:=SC) (cF PC nF)
def Ua:aq:=ah [pf (.sl .str)] [rB] (c1 Pu.lN)
def aaj:aJ:=aJ.nil
def WZ:An:={mask:=mk [(2,[1,2,6,7,8])]}
@[reducible] def wW:SD:=⟨B::.ptr 1 0::DB::B::B::B::.data false (.sl .arg .str)::DI::DI::bs 11 [],Z::(some (.sl .arg .str))::zs 18 [],.none⟩
def LP {R:Type}(X:SD.D wW)(K:Ex→AS→Option R):=Pu.po (fun y0=>ke 0 K wW ((z3 (u y0) X.1),X.2)) (fun y0 y1=>kr K wW ((w y0 (z2 (u y1)) X.1),X.2)) X.1.1 X.1.2.1 (q2 X) X.2.1.1
def QN:aL:=cj wW LP q3
def SE:aO:=(aO.nil).add 2 QN
theorem PE:bZ E aaj WZ SE (af Tryz.f237 0):=lk wW LP q3 fun X x=>((z3 (u x) X.1),X.2)
theorem Xp:ak Tryz.prog 237 Ua:=fk WZ base Tryz.func237 (Λ:=SE) (cF PE nF)
def Ub:aq:=ah [pd (.sl aB),pI,pI,pd .bool] [rI] (c4 Pu.qa)
theorem ach:ak Tryz.prog 238 Ub:=f0 {merge:=mg [(4,29)]} (base.add Xr) Tryz.func238
def Ov:aq:=ah [pf (.sl .str),pI,pI] [rB] (c3 Pu.mr)
theorem Xq:ak Tryz.prog 239 Ov:=f0 {merge:=mg [(2,6)]} (base.add Xp) Tryz.func239
def T7:aq:=ah [pd (.sl aB),pf (.sl .str),pI,pI,pI,pd .bool] [(false,(.sl (.own none) (.pair (.int .i64) (.int .i64)))),rB] (c6 Pu.oz)
def aag:aJ:=((((aJ.nil.add 90 I6).add 236 T9).add 237 Ua).add 238 Ub).add 239 Ov
def WW:An:={mask:=mk [(8,[0,2,3,4,5,7,12,13,14])],merge:=mg [(1,29),(11,55),(16,73)],mv:=[56,74]}
@[reducible] def wU:SD:=⟨.data false (.sl .arg aB)::B::DI::DI::DI::DB::B::.ptr 7 0::bs 4 (.data false (.sl (.own (some 147456)) (.pair (.int .i64) (.int .i64)))::DB::.data false (.sl (.own (some 172032)) (.pair (.int .i64) (.int .i64)))::bs 60 []),zs 7 ((some (.sl .arg .str))::zs 67 []),.none⟩
def LM {R:Type}(X:SD.D wU)(K:Ex→AS→Option R):=Pu.gJ (fun y0 y1 y2=>ke 0 K wU ((z2 (w y0 (w y1 (z3 (u y2)))) X.1),X.2)) (fun y0 y1 y2 y3 y4=>kr K wU ((z2 (w y0 (w y1 (z1 (w y2 (w y3 (u y4)))))) X.1),X.2)) X.1.1 X.1.2.1 (q4 X) (q5 X) (q6 X) X.2.1.1
def QK:aL:=cj wU LM (fun X=>(q2 X,q3 X,q7 X))
def SA:aO:=(aO.nil).add 8 QK
theorem PA:bZ E aag WW SA (af Tryz.f233 0):=lk wU LM (fun X=>(q2 X,q3 X,q7 X)) fun X x=>((z2 (w x.1 (w x.2.1 (z3 (u x.2.2)))) X.1),X.2)
theorem acd:ak Tryz.prog 233 T7:=fk WW (((((base.add yF).add acg).add Xp).add ach).add Xq) Tryz.func233 (Λ:=SA) (cF PA nF)
def T8:aq:=ah [pf (.sl .str),pI,pd .str] [(true,(.sl (.own none) .str)),rB] (c3 Pu.ib)
def aah:aJ:=(aJ.nil.add 156 Mm).add 239 Ov
def WX:An:={mask:=mk [(4,[1,2,6,8])],nest:=[33],mv:=[19,49]}
@[reducible] def AI:SD:=⟨B::DI::.data false .str::B::B::B::.ptr 6 0::B::.ptr 8 0::bs 41 [],zs 6 ((some (.sl (.own (some 73729)) .str))::Z::(some (.sl (.own (some 98305)) .str))::zs 41 []),.none⟩
def LN {R:Type}(X:SD.D AI)(K:Ex→AS→Option R):=Pu.ek (fun y0 y1 y2=>ke 0 K AI ((w y0 (u y1) X.1),(z1 (u y2) X.2.1),X.2.2)) X.2.1.1
def QL:aL:=cj AI LN (fun X=>(X.1.1,X.1.2.1,X.2.1.2.1))
def SB:aO:=(aO.nil).add 4 QL
theorem PB:bZ E aah WX SB (af Tryz.f234 0):=lk AI LN (fun X=>(X.1.1,X.1.2.1,X.2.1.2.1)) fun X x=>((w x.1 (u x.2.1) X.1),(z1 (u x.2.2) X.2.1),X.2.2)
theorem ace:ak Tryz.prog 234 T8:=fk WX ((base.add MQ).add Xq) Tryz.func234 (Λ:=SB) (cF PB nF)
def Zm:aq:=ah [pd (.sl aB),pf (.sl .str),pI,pI,pd .str,pd .bool] [(true,(.sl (.own none) .str)),rB] (c6 Pu.tK)
def aad:aJ:=((aJ.nil.add 156 Mm).add 233 T7).add 234 T8
def WT:An:={mask:=mk [(6,[4,12,14,35,36,37])],mv:=[34,41,50,57],sb:=mg [(14,14)]}
@[reducible] def AH:SD:=⟨bs 4 (.data false .str::bs 7 (.ptr 12 0::B::.ptr 14 0::bs 20 (.data false (.sl .loc (.pair (.int .i64) (.int .i64)))::DI::DI::bs 20 []))),zs 12 ((some (.sl (.own (some 147457)) .str))::Z::(some (.sl (.own (some 172033)) .str))::zs 43 []),.none⟩
def LH {R:Type}(X:SD.D AH)(K:Ex→AS→Option R):=Pu.mn (fun y0 y1 y2=>ke 0 K AH ((w y0 (z2 (u y1)) X.1),(z1 (u y2) X.2.1),X.2.2)) X.1.2.1 (q2 X) X.2.1.1
def QG:aL:=cj AH LH (fun X=>(X.1.1,q3 X,X.2.1.2.1))
def Sx:aO:=(aO.nil).add 6 QG
theorem Pw:bZ E aad WT Sx (af Tryz.f224 0):=lk AH LH (fun X=>(X.1.1,q3 X,X.2.1.2.1)) fun X x=>((w x.1 (z2 (u x.2.1)) X.1),(z1 (u x.2.2) X.2.1),X.2.2)
theorem ab5:ak Tryz.prog 224 Zm:=fk WT (((base.add MQ).add acd).add ace) Tryz.func224 (Λ:=Sx) (cF Pw nF)
def Zc:aq:=ah [pd (.sl aB),pf (.sl .str),pI,pI,pd .str] [(true,(.sl (.own none) .str)),rB] (c5 Pu.lL)
theorem abR:ak Tryz.prog 204 Zc:=f0 {} (base.add ab5) Tryz.func204
def Zd:aq:=ah [pf cu,pI] [rI] (c2 Pu.ia)
theorem abS:ak Tryz.prog 205 Zd:=f0 {merge:=mg [(1,11)]} (base.add QZ) Tryz.func205
def TB:aq:=ah [pd (.sl aB),pf (.sl .str),pI,pf cu,pd .str] [(true,(.sl (.own none) .str)),(true,Y2),rB] (c5 Pu.mU)
theorem abk:ak Tryz.prog 162 TB:=f0 {merge:=mg [(1,22)],mv:=[26,36,40,50],mb:=mg [(40,13),(50,13)],sb:=mg [(10,10),(11,11),(13,13)]} ((((base.add MQ).add abQ).add abR).add abS) Tryz.func162
def S0:aq:=ah [pd (.sl aB),pf (.sl .str),pI,pf cu,pf cc] [(true,(.sl (.own none) .str)),(true,Y2),(true,Y3),rI] (c5 Pu.fO)
def Zx:aJ:=(((((((aJ.nil.add 152 Tw).add 156 Mm).add 157 Tx).add 158 Ty).add 159 Oq).add 160 Tz).add 161 TA).add 162 TB
def V3:An:={mask:=mk [(6,[0,2,8,9,10,11,12,14,15,16,39,40,41])],merge:=mg [(2,34)],mv:=[35,37,53,65,76,78],mb:=mg [(35,14),(37,15),(65,20),(76,14),(78,15)],sb:=mg [(8,8),(10,10),(11,11),(12,12),(14,14),(15,15)]}
@[reducible] def Af:SD:=⟨.data false (.sl .arg aB)::B::DI::bs 5 (.ptr 8 0::.ptr 9 0::.ptr 10 0::.ptr 11 0::.ptr 12 0::B::.ptr 14 0::.ptr 15 0::DI::bs 22 (.data false (.sl .arg (.int .i64))::DI::DI::bs 38 [])),zs 8 ((some Y2)::(some XL)::(some (.sl (.own (some 122881)) .str))::(some Y2)::(some Y15)::Z::(some (.sl (.own (some 172033)) .str))::(some Y14)::zs 64 []),.none⟩
def KM {R:Type}(X:SD.D Af)(K:Ex→AS→Option R):=Pu.eC (fun y0 y1 y2 y3=>ke 0 K Af ((z2 (w y0 (z2 (u y1))) X.1),(w y2 (z4 (u y3)) X.2.1),X.2.2)) X.1.1 X.1.2.1 (q3 X) (q4 X) X.2.1.2.1 X.2.1.2.2.1 X.2.1.2.2.2.1 X.2.1.2.2.2.2.1 X.2.1.2.2.2.2.2.2.1
def PL:aL:=cj Af KM (fun X=>(q2 X,q5 X,X.2.1.1,X.2.1.2.2.2.2.2.1))
def RI:aO:=(aO.nil).add 6 PL
theorem OA:bZ E Zx V3 RI (af Tryz.f105 0):=lk Af KM (fun X=>(q2 X,q5 X,X.2.1.1,X.2.1.2.2.2.2.2.1)) fun X x=>((z2 (w x.1 (z2 (u x.2.1))) X.1),(w x.2.2.1 (z4 (u x.2.2.2)) X.2.1),X.2.2)
theorem aaA:ak Tryz.prog 105 S0:=fk V3 ((((((((base.add MP).add MQ).add abh).add QZ).add Q0).add abi).add abj).add abk) Tryz.func105 (Λ:=RI) (cF OA nF)
def e44:aq:=ah [pI,pf cn,pf aK,pd .bool,pI,pI] [(true,Y4),rB] (c6 Pu.mS)
def g44:aJ:=(((((((((aJ.nil.add 90 I6).add 97 e97).add 98 Zt).add 99 e99).add 100 SV).add 101 SW).add 102 SX).add 103 SY).add 104 SZ).add 105 S0
def n44:An:={mask:=mk [(6,[0,12,14,16,17]),(10,[0,12,14,16,18])],merge:=mg [(2,44)],mv:=[59,80,96,102,103,108,114,118],mb:=mg [(59,16)],sb:=mg [(16,16),(69,16)]}
@[reducible] def Gp:SD:=⟨DI::bs 11 (.ptr 12 0::B::.ptr 14 0::B::.ptr 16 0::DI::bs 101 []),zs 12 ((some Y1)::Z::(some Y5)::Z::(some Y0)::zs 102 []),.none⟩
def NB {R:Type}(X:SD.D Gp)(K:Ex→AS→Option R):=Pu.jl (fun y0 y1=>ke 0 K Gp ((z1 (u y0) X.1),(z2 (u y1) X.2.1),X.2.2)) X.1.1 X.2.1.1 X.2.1.2.1
def Vw:aL:=cj Gp NB (fun X=>(X.1.2.1,X.2.1.2.2.1))
@[reducible] def AL:SD:=⟨DI::bs 11 (.ptr 12 0::B::.ptr 14 0::B::.ptr 16 0::B::DI::bs 100 []),zs 12 ((some Y1)::Z::(some Y5)::Z::(some Y0)::zs 102 []),.none⟩
def LU {R:Type}(X:SD.D AL)(K:Ex→AS→Option R):=Pu.h9 (fun y0 y1=>ke 2 K AL ((z1 (u y0) X.1),(z2 (u y1) X.2.1),X.2.2)) X.1.1 X.2.1.1 X.2.1.2.1
def QR:aL:=cj AL LU (fun X=>(X.1.2.1,X.2.1.2.2.1))
def Yb:aO:=((aO.nil).add 6 Vw).add 10 QR
theorem UQ:bZ E g44 n44 Yb (af Tryz.f44 0):=lk Gp NB (fun X=>(X.1.2.1,X.2.1.2.2.1)) fun X x=>((z1 (u x.1) X.1),(z2 (u x.2) X.2.1),X.2.2)
theorem PI:bZ E g44 n44 Yb (af Tryz.f44 1):=lk AL LU (fun X=>(X.1.2.1,X.2.1.2.2.1)) fun X x=>((z1 (u x.1) X.1),(z2 (u x.2) X.2.1),X.2.2)
theorem o44:ak Tryz.prog 44 e44:=fk n44 ((((((((((base.add yF).add o97).add o98).add o99).add aaw).add aax).add W4).add aay).add aaz).add aaA) Tryz.func44 (Λ:=Yb) (cF UQ (cF PI nF))
def e12:aq:=ah [pd (.sl aw),pf aK,pd .bool,pf cm,pf (.sl .str),pI] [(true,Y11),rB] (c6 Pu.km)
def g12:aJ:=((((((aJ.nil.add 38 e38).add 39 e39).add 40 e40).add 41 e41).add 42 e42).add 43 e43).add 44 e44
def n12:An:={mask:=mk [(6,[2,7,9,12,13,14,52,53,54])],merge:=mg [(3,50)],mv:=[59,71,72,77,87],sb:=mg [(14,14)]}
@[reducible] def Cf:SD:=⟨B::B::DB::bs 4 (.ptr 7 0::B::.ptr 9 0::B::B::.ptr 12 0::DB::.ptr 14 0::bs 37 (.data false (.sl .arg aw)::DI::DI::bs 33 [])),zs 7 ((some Y7)::Z::(some Y6)::Z::Z::(some Y9)::Z::(some (.pair (.sl (.own (some 172033)) bB) (.pair (.sl (.own (some 172036)) ao) (.pair (.sl (.own (some 172039)) aw) (.pair (.sl (.own (some 172042)) .str) (.pair Y2 (.pair (.sl (.own (some 172057)) (.int .i64)) (.sl (.own (some 172060)) .str))))))))::zs 73 []),.none⟩
def Nr {R:Type}(X:SD.D Cf)(K:Ex→AS→Option R):=Pu.jk (fun y0 y1=>ke 0 K Cf ((z4 (u y0) X.1),(z3 (u y1) X.2.1),X.2.2)) (fun y0 y1 y2 y3=>kr K Cf ((z1 (w y0 (z2 (u y1))) X.1),(z2 (w y2 (u y3)) X.2.1),X.2.2)) X.1.1 X.1.2.1 (q2 X) (q3 X) X.2.1.1 X.2.1.2.1 X.2.1.2.2.1
def Vm:aL:=cj Cf Nr (fun X=>(q4 X,X.2.1.2.2.2.1))
def L12:aO:=(aO.nil).add 6 Vm
theorem UG:bZ E g12 n12 L12 (af Tryz.f12 0):=lk Cf Nr (fun X=>(q4 X,X.2.1.2.2.2.1)) fun X x=>((z4 (u x.1) X.1),(z3 (u x.2) X.2.1),X.2.2)
theorem o12:ak Tryz.prog 12 e12:=fk n12 (((((((base.add o38).add o39).add o40).add o41).add o42).add o43).add o44) Tryz.func12 (Λ:=L12) (cF UG nF)
def e48:aq:=ah [pd (.sl (.int .i64)),pd (.sl (.int .i64))] [rB] (c2 Pu.dP)
def g48:aJ:=aJ.nil
def n48:An:={mask:=mk [(4,[0,1,4,5])]}
@[reducible] def Cm:SD:=⟨.data false (.sl .arg (.int .i64))::.data false (.sl .arg (.int .i64))::B::B::DB::DI::bs 20 [],zs 26 [],.none⟩
def NF {R:Type}(X:SD.D Cm)(K:Ex→AS→Option R):=Pu.rm (fun y0=>ke 0 K Cm ((z3 (u y0) X.1),X.2)) (fun y0 y1=>kr K Cm ((z2 (w y0 (u y1)) X.1),X.2)) X.1.1 X.1.2.1 (q2 X)
def Vz:aL:=cj Cm NF q3
def L48:aO:=(aO.nil).add 4 Vz
theorem UT:bZ E g48 n48 L48 (af Tryz.f48 0):=lk Cm NF q3 fun X x=>((z3 (u x) X.1),X.2)
theorem Ro:ak Tryz.prog 48 e48:=fk n48 base Tryz.func48 (Λ:=L48) (cF UT nF)
def Yo:aq:=ah [pf cn,pf cn] [rB] (c2 Pu.iT)
theorem W5:ak Tryz.prog 108 Yo:=f0 {} (base.add Ro) Tryz.func108
def e50:aq:=ah [pf aw,pf aw] [rB] (c2 Pu.gK)
theorem o50:ak Tryz.prog 50 e50:=f0 {} (base.add W5) Tryz.func50
def e14:aq:=ah [pd (.sl aw),pd (.sl aw)] [rB] (c2 Pu.jt)
def g14:aJ:=aJ.nil.add 50 e50
def n14:An:={mask:=mk [(4,[0,1,4,5])]}
@[reducible] def Cg:SD:=⟨.data false (.sl .arg aw)::.data false (.sl .arg aw)::B::B::DB::DI::bs 21 [],zs 27 [],.none⟩
def Ns {R:Type}(X:SD.D Cg)(K:Ex→AS→Option R):=Pu.nM (fun y0=>ke 0 K Cg ((z3 (u y0) X.1),X.2)) (fun y0 y1=>kr K Cg ((z2 (w y0 (u y1)) X.1),X.2)) X.1.1 X.1.2.1 (q2 X)
def Vn:aL:=cj Cg Ns q3
def L14:aO:=(aO.nil).add 4 Vn
theorem UH:bZ E g14 n14 L14 (af Tryz.f14 0):=lk Cg Ns q3 fun X x=>((z3 (u x) X.1),X.2)
theorem o14:ak Tryz.prog 14 e14:=fk n14 (base.add o50) Tryz.func14 (Λ:=L14) (cF UH nF)
def e49:aq:=ah [pd (.sl .str),pd (.sl .str)] [rB] (c2 Pu.eG)
def g49:aJ:=aJ.nil
def n49:An:={mask:=mk [(4,[0,1,4,5])]}
@[reducible] def Cn:SD:=⟨.data false (.sl .arg .str)::.data false (.sl .arg .str)::B::B::DB::DI::bs 20 [],zs 26 [],.none⟩
def NG {R:Type}(X:SD.D Cn)(K:Ex→AS→Option R):=Pu.oD (fun y0=>ke 0 K Cn ((z3 (u y0) X.1),X.2)) (fun y0 y1=>kr K Cn ((z2 (w y0 (u y1)) X.1),X.2)) X.1.1 X.1.2.1 (q2 X)
def VA:aL:=cj Cn NG q3
def L49:aO:=(aO.nil).add 4 VA
theorem UU:bZ E g49 n49 L49 (af Tryz.f49 0):=lk Cn NG q3 fun X x=>((z3 (u x) X.1),X.2)
theorem XY:ak Tryz.prog 49 e49:=fk n49 base Tryz.func49 (Λ:=L49) (cF UU nF)
def e16:aq:=ah [pf (.sl .str),pf (.sl .str)] [rB] (c2 Pu.kz)
theorem o16:ak Tryz.prog 16 e16:=f0 {} (base.add XY) Tryz.func16
def S3:aq:=ah [pf bt,pf bt] [rB] (c2 Pu.my)
theorem aaD:ak Tryz.prog 109 S3:=f0 {} base Tryz.func109
def e51:aq:=ah [pd (.sl bt),pd (.sl bt)] [rB] (c2 Pu.qg)
def g51:aJ:=aJ.nil.add 109 S3
def n51:An:={mask:=mk [(4,[0,1,4,5])]}
@[reducible] def Co:SD:=⟨.data false (.sl .arg bt)::.data false (.sl .arg bt)::B::B::DB::DI::bs 21 [],zs 27 [],.none⟩
def NH {R:Type}(X:SD.D Co)(K:Ex→AS→Option R):=Pu.qO (fun y0=>ke 0 K Co ((z3 (u y0) X.1),X.2)) (fun y0 y1=>kr K Co ((z2 (w y0 (u y1)) X.1),X.2)) X.1.1 X.1.2.1 (q2 X)
def VB:aL:=cj Co NH q3
def L51:aO:=(aO.nil).add 4 VB
theorem UW:bZ E g51 n51 L51 (af Tryz.f51 0):=lk Co NH q3 fun X x=>((z3 (u x) X.1),X.2)
theorem o51:ak Tryz.prog 51 e51:=fk n51 (base.add aaD) Tryz.func51 (Λ:=L51) (cF UW nF)
def Zg:aq:=ah [pf jN,pf jN] [rB] (c2 Pu.mu)
theorem Xj:ak Tryz.prog 213 Zg:=f0 {} base Tryz.func213
def TC:aq:=ah [pf aQ,pf aQ] [rB] (c2 Pu.mA)
theorem abw:ak Tryz.prog 173 TC:=f0 {} (base.add Xj) Tryz.func173
def Yp:aq:=ah [pd (.sl aQ),pd (.sl aQ)] [rB] (c2 Pu.qi)
def Zy:aJ:=aJ.nil.add 173 TC
def V4:An:={mask:=mk [(4,[0,1,4,5])]}
@[reducible] def wg:SD:=⟨.data false (.sl .arg aQ)::.data false (.sl .arg aQ)::B::B::DB::DI::bs 21 [],zs 27 [],.none⟩
def KN {R:Type}(X:SD.D wg)(K:Ex→AS→Option R):=Pu.qQ (fun y0=>ke 0 K wg ((z3 (u y0) X.1),X.2)) (fun y0 y1=>kr K wg ((z2 (w y0 (u y1)) X.1),X.2)) X.1.1 X.1.2.1 (q2 X)
def PM:aL:=cj wg KN q3
def RJ:aO:=(aO.nil).add 4 PM
theorem OB:bZ E Zy V4 RJ (af Tryz.f110 0):=lk wg KN q3 fun X x=>((z3 (u x) X.1),X.2)
theorem aaE:ak Tryz.prog 110 Yp:=fk V4 (base.add abw) Tryz.func110 (Λ:=RJ) (cF OB nF)
def e52:aq:=ah [pf (.sl aQ),pf (.sl aQ)] [rB] (c2 Pu.ie)
theorem o52:ak Tryz.prog 52 e52:=f0 {} (base.add aaE) Tryz.func52
def e53:aq:=ah [pf cK,pf cK] [rB] (c2 Pu.lV)
theorem o53:ak Tryz.prog 53 e53:=f0 {} (base.add Ro) Tryz.func53
def e15:aq:=ah [pf aK,pf aK] [rB] (c2 Pu.fG)
theorem o15:ak Tryz.prog 15 e15:=f0 {} (((base.add o51).add o52).add o53) Tryz.func15
def YE:aq:=ah [pf (.sl .str),pf (.sl .str)] [rB] (c2 Pu.lT)
theorem abl:ak Tryz.prog 163 YE:=f0 {} (base.add XY) Tryz.func163
def TR:aq:=ah [pf aB,pf aB] [rB] (c2 Pu.gL)
theorem abT:ak Tryz.prog 206 TR:=f0 {} base Tryz.func206
def YF:aq:=ah [pd (.sl aB),pd (.sl aB)] [rB] (c2 Pu.mK)
def ZX:aJ:=aJ.nil.add 206 TR
def WB:An:={mask:=mk [(4,[0,1,4,5])]}
@[reducible] def wG:SD:=⟨.data false (.sl .arg aB)::.data false (.sl .arg aB)::B::B::DB::DI::bs 21 [],zs 27 [],.none⟩
def Lm {R:Type}(X:SD.D wG)(K:Ex→AS→Option R):=Pu.nN (fun y0=>ke 0 K wG ((z3 (u y0) X.1),X.2)) (fun y0 y1=>kr K wG ((z2 (w y0 (u y1)) X.1),X.2)) X.1.1 X.1.2.1 (q2 X)
def Qm:aL:=cj wG Lm q3
def Sh:aO:=(aO.nil).add 4 Qm
theorem O9:bZ E ZX WB Sh (af Tryz.f164 0):=lk wG Lm q3 fun X x=>((z3 (u x) X.1),X.2)
theorem abm:ak Tryz.prog 164 YF:=fk WB (base.add abT) Tryz.func164 (Λ:=Sh) (cF O9 nF)
def Ze:aq:=ah [pf cu,pf cu] [rB] (c2 Pu.mx)
theorem Xh:ak Tryz.prog 207 Ze:=f0 {} base Tryz.func207
def TS:aq:=ah [pf cc,pf cc] [rB] (c2 Pu.jW)
theorem Xi:ak Tryz.prog 208 TS:=f0 {} (base.add Ro) Tryz.func208
def T1:aq:=ah [pf df,pf df] [rB] (c2 Pu.mz)
theorem ab6:ak Tryz.prog 225 T1:=f0 {} (base.add Ro) Tryz.func225
def Zf:aq:=ah [pd (.sl df),pd (.sl df)] [rB] (c2 Pu.qh)
def Z8:aJ:=aJ.nil.add 225 T1
def WN:An:={mask:=mk [(4,[0,1,4,5])]}
@[reducible] def wP:SD:=⟨.data false (.sl .arg df)::.data false (.sl .arg df)::B::B::DB::DI::bs 21 [],zs 27 [],.none⟩
def LB {R:Type}(X:SD.D wP)(K:Ex→AS→Option R):=Pu.qP (fun y0=>ke 0 K wP ((z3 (u y0) X.1),X.2)) (fun y0 y1=>kr K wP ((z2 (w y0 (u y1)) X.1),X.2)) X.1.1 X.1.2.1 (q2 X)
def QB:aL:=cj wP LB q3
def Ss:aO:=(aO.nil).add 4 QB
theorem Pq:bZ E Z8 WN Ss (af Tryz.f209 0):=lk wP LB q3 fun X x=>((z3 (u x) X.1),X.2)
theorem abU:ak Tryz.prog 209 Zf:=fk WN (base.add ab6) Tryz.func209 (Λ:=Ss) (cF Pq nF)
def YG:aq:=ah [pf iK,pf iK] [rB] (c2 Pu.kB)
theorem abn:ak Tryz.prog 165 YG:=f0 {} (((base.add Xh).add Xi).add abU) Tryz.func165
def Zn:aq:=ah [pf cm,pf cm] [rB] (c2 Pu.cd)
theorem ab7:ak Tryz.prog 226 Zn:=f0 {} base Tryz.func226
def Zq:aq:=ah [pf qW,pf qW] [rB] (c2 Pu.kA)
theorem aci:ak Tryz.prog 240 Zq:=f0 {} base Tryz.func240
def Zp:aq:=ah [pf rQ,pf rQ] [rB] (c2 Pu.lU)
theorem acf:ak Tryz.prog 235 Zp:=f0 {} (base.add aci) Tryz.func235
def Zo:aq:=ah [pf uu,pf uu] [rB] (c2 Pu.mX)
theorem ab8:ak Tryz.prog 227 Zo:=f0 {} (base.add acf) Tryz.func227
def TT:aq:=ah [pf ba,pf ba] [rB] (c2 Pu.gM)
theorem abV:ak Tryz.prog 210 TT:=f0 {} (((base.add Xh).add ab7).add ab8) Tryz.func210
def YH:aq:=ah [pd (.sl ba),pd (.sl ba)] [rB] (c2 Pu.mL)
def ZY:aJ:=aJ.nil.add 210 TT
def WC:An:={mask:=mk [(4,[0,1,4,5])]}
@[reducible] def wH:SD:=⟨.data false (.sl .arg ba)::.data false (.sl .arg ba)::B::B::DB::DI::bs 21 [],zs 27 [],.none⟩
def Ln {R:Type}(X:SD.D wH)(K:Ex→AS→Option R):=Pu.nO (fun y0=>ke 0 K wH ((z3 (u y0) X.1),X.2)) (fun y0 y1=>kr K wH ((z2 (w y0 (u y1)) X.1),X.2)) X.1.1 X.1.2.1 (q2 X)
def Qn:aL:=cj wH Ln q3
def Si:aO:=(aO.nil).add 4 Qn
theorem Pa:bZ E ZY WC Si (af Tryz.f166 0):=lk wH Ln q3 fun X x=>((z3 (u x) X.1),X.2)
theorem abo:ak Tryz.prog 166 YH:=fk WC (base.add abV) Tryz.func166 (Λ:=Si) (cF Pa nF)
def YI:aq:=ah [pd (.sl cc),pd (.sl cc)] [rB] (c2 Pu.qf)
def ZZ:aJ:=aJ.nil.add 208 TS
def WD:An:={mask:=mk [(4,[0,1,4,5])]}
@[reducible] def wI:SD:=⟨.data false (.sl .arg cc)::.data false (.sl .arg cc)::B::B::DB::DI::bs 21 [],zs 27 [],.none⟩
def Lo {R:Type}(X:SD.D wI)(K:Ex→AS→Option R):=Pu.qN (fun y0=>ke 0 K wI ((z3 (u y0) X.1),X.2)) (fun y0 y1=>kr K wI ((z2 (w y0 (u y1)) X.1),X.2)) X.1.1 X.1.2.1 (q2 X)
def Qo:aL:=cj wI Lo q3
def Sj:aO:=(aO.nil).add 4 Qo
theorem Pb:bZ E ZZ WD Sj (af Tryz.f167 0):=lk wI Lo q3 fun X x=>((z3 (u x) X.1),X.2)
theorem abp:ak Tryz.prog 167 YI:=fk WD (base.add Xi) Tryz.func167 (Λ:=Sj) (cF Pb nF)
def TU:aq:=ah [pf bh,pf bh] [rB] (c2 Pu.iV)
theorem abW:ak Tryz.prog 211 TU:=f0 {} base Tryz.func211
def YJ:aq:=ah [pd (.sl bh),pd (.sl bh)] [rB] (c2 Pu.nQ)
def Z0:aJ:=aJ.nil.add 211 TU
def WE:An:={mask:=mk [(4,[0,1,4,5])]}
@[reducible] def wJ:SD:=⟨.data false (.sl .arg bh)::.data false (.sl .arg bh)::B::B::DB::DI::bs 21 [],zs 27 [],.none⟩
def Lp {R:Type}(X:SD.D wJ)(K:Ex→AS→Option R):=Pu.oE (fun y0=>ke 0 K wJ ((z3 (u y0) X.1),X.2)) (fun y0 y1=>kr K wJ ((z2 (w y0 (u y1)) X.1),X.2)) X.1.1 X.1.2.1 (q2 X)
def Qp:aL:=cj wJ Lp q3
def Sk:aO:=(aO.nil).add 4 Qp
theorem Pc:bZ E Z0 WE Sk (af Tryz.f168 0):=lk wJ Lp q3 fun X x=>((z3 (u x) X.1),X.2)
theorem abq:ak Tryz.prog 168 YJ:=fk WE (base.add abW) Tryz.func168 (Λ:=Sk) (cF Pc nF)
def YK:aq:=ah [pd (.sl .bool),pd (.sl .bool)] [rB] (c2 Pu.qd)
def Z1:aJ:=aJ.nil
def WG:An:={mask:=mk [(4,[0,1,4,5])]}
@[reducible] def wK:SD:=⟨.data false (.sl .arg .bool)::.data false (.sl .arg .bool)::B::B::DB::DI::bs 20 [],zs 26 [],.none⟩
def Lq {R:Type}(X:SD.D wK)(K:Ex→AS→Option R):=Pu.qL (fun y0=>ke 0 K wK ((z3 (u y0) X.1),X.2)) (fun y0 y1=>kr K wK ((z2 (w y0 (u y1)) X.1),X.2)) X.1.1 X.1.2.1 (q2 X)
def Qq:aL:=cj wK Lq q3
def Sl:aO:=(aO.nil).add 4 Qq
theorem Pd:bZ E Z1 WG Sl (af Tryz.f169 0):=lk wK Lq q3 fun X x=>((z3 (u x) X.1),X.2)
theorem abr:ak Tryz.prog 169 YK:=fk WG base Tryz.func169 (Λ:=Sl) (cF Pd nF)
def TV:aq:=ah [pf bd,pf bd] [rB] (c2 Pu.iU)
theorem abX:ak Tryz.prog 212 TV:=f0 {} (base.add Xj) Tryz.func212
def YL:aq:=ah [pd (.sl bd),pd (.sl bd)] [rB] (c2 Pu.nP)
def Z2:aJ:=aJ.nil.add 212 TV
def WH:An:={mask:=mk [(4,[0,1,4,5])]}
@[reducible] def wL:SD:=⟨.data false (.sl .arg bd)::.data false (.sl .arg bd)::B::B::DB::DI::bs 21 [],zs 27 [],.none⟩
def Lr {R:Type}(X:SD.D wL)(K:Ex→AS→Option R):=Pu.oC (fun y0=>ke 0 K wL ((z3 (u y0) X.1),X.2)) (fun y0 y1=>kr K wL ((z2 (w y0 (u y1)) X.1),X.2)) X.1.1 X.1.2.1 (q2 X)
def Qr:aL:=cj wL Lr q3
def Sm:aO:=(aO.nil).add 4 Qr
theorem Pe:bZ E Z2 WH Sm (af Tryz.f170 0):=lk wL Lr q3 fun X x=>((z3 (u x) X.1),X.2)
theorem abt:ak Tryz.prog 170 YL:=fk WH (base.add abX) Tryz.func170 (Λ:=Sm) (cF Pe nF)
def YM:aq:=ah [pf jN,pf jN] [rB] (c2 Pu.js)
theorem abu:ak Tryz.prog 171 YM:=f0 {} base Tryz.func171
def S1:aq:=ah [pf bB,pf bB] [rB] (c2 Pu.mw)
theorem aaB:ak Tryz.prog 106 S1:=f0 {} (((((((((((((base.add o15).add Ro).add XY).add W5).add abl).add abm).add abn).add abo).add abp).add abq).add abr).add abt).add abu) Tryz.func106
def e45:aq:=ah [pd (.sl bB),pd (.sl bB)] [rB] (c2 Pu.qe)
def g45:aJ:=aJ.nil.add 106 S1
def n45:An:={mask:=mk [(4,[0,1,4,5])]}
@[reducible] def Ck:SD:=⟨.data false (.sl .arg bB)::.data false (.sl .arg bB)::B::B::DB::DI::bs 21 [],zs 27 [],.none⟩
def NC {R:Type}(X:SD.D Ck)(K:Ex→AS→Option R):=Pu.qM (fun y0=>ke 0 K Ck ((z3 (u y0) X.1),X.2)) (fun y0 y1=>kr K Ck ((z2 (w y0 (u y1)) X.1),X.2)) X.1.1 X.1.2.1 (q2 X)
def Vx:aL:=cj Ck NC q3
def L45:aO:=(aO.nil).add 4 Vx
theorem UR:bZ E g45 n45 L45 (af Tryz.f45 0):=lk Ck NC q3 fun X x=>((z3 (u x) X.1),X.2)
theorem o45:ak Tryz.prog 45 e45:=fk n45 (base.add aaB) Tryz.func45 (Λ:=L45) (cF UR nF)
def YN:aq:=ah [pf cm,pf cm] [rB] (c2 Pu.lS)
theorem abv:ak Tryz.prog 172 YN:=f0 {} base Tryz.func172
def S2:aq:=ah [pf ao,pf ao] [rB] (c2 Pu.cf)
theorem aaC:ak Tryz.prog 107 S2:=f0 {} (base.add abv) Tryz.func107
def e46:aq:=ah [pd (.sl ao),pd (.sl ao)] [rB] (c2 Pu.eH)
def g46:aJ:=aJ.nil.add 107 S2
def n46:An:={mask:=mk [(4,[0,1,4,5])]}
@[reducible] def Cl:SD:=⟨.data false (.sl .arg ao)::.data false (.sl .arg ao)::B::B::DB::DI::bs 21 [],zs 27 [],.none⟩
def ND {R:Type}(X:SD.D Cl)(K:Ex→AS→Option R):=Pu.gN (fun y0=>ke 0 K Cl ((z3 (u y0) X.1),X.2)) (fun y0 y1=>kr K Cl ((z2 (w y0 (u y1)) X.1),X.2)) X.1.1 X.1.2.1 (q2 X)
def Vy:aL:=cj Cl ND q3
def L46:aO:=(aO.nil).add 4 Vy
theorem US:bZ E g46 n46 L46 (af Tryz.f46 0):=lk Cl ND q3 fun X x=>((z3 (u x) X.1),X.2)
theorem o46:ak Tryz.prog 46 e46:=fk n46 (base.add aaC) Tryz.func46 (Λ:=L46) (cF US nF)
def e47:aq:=ah [pf cu,pf cu] [rB] (c2 Pu.mW)
theorem o47:ak Tryz.prog 47 e47:=f0 {} base Tryz.func47
def e13:aq:=ah [pf mN,pf mN] [rB] (c2 Pu.jV)
theorem o13:ak Tryz.prog 13 e13:=f0 {} (((((((base.add o14).add o16).add o45).add o46).add o47).add Ro).add XY) Tryz.func13
def Ud:aq:=iP (.sl (.int .i64)) false [pI] [rI] fun x a=>Pu.aP x a.1
def g54:aJ:=aJ.nil
def n54:An:={mask:=mk [(2,[0,1,5])]}
@[reducible] def Gq:SD:=⟨.data false (.sl (.lio 0 12288036864) (.int .i64))::DI::B::B::B::DI::bs 13 [],zs 19 [],.some (.sl (.own (some 12288036864)) (.int .i64))⟩
def NI {R:Type}(X:SD.D Gq)(K:Ex→AS→Option R):=Pu.eJ (fun y0 y1 y2 y3=>ke 0 K Gq ((w y0 (w y1 (u y2)) X.1),X.2.1,y3))
def VC:aL:=cj Gq NI (fun X=>(X.1.1,X.1.2.1,q2 X,X.2.2))
def L54:aO:=(aO.nil).add 2 VC
theorem UX:bZ E g54 n54 L54 (af Tryz.f54 0):=lk Gq NI (fun X=>(X.1.1,X.1.2.1,q2 X,X.2.2)) fun X x=>((w x.1 (w x.2.1 (u x.2.2.1)) X.1),X.2.1,x.2.2.2)
theorem Rp:ak Tryz.prog 54 Ud:=ak.qo (pX (Γ:=g54) (an:=n54) (Λ:=L54) (base) Tryz.func54 (by kernel_rfl) (hF (by kernel_rfl) (cF UX nF))) (fun x a=>by kernel_rfl)
def e17:aq:=iP (.sl aw) false [pI] [rI] fun x a=>Pu.gu x a.1
def g17:aJ:=aJ.nil.add 54 Ud
def n17:An:={mask:=mk [(2,[0,1,5])],nest:=[35]}
@[reducible] def Gj:SD:=⟨.data false (.sl (.lio 0 12288036864) aw)::DI::B::B::B::DI::bs 54 [],zs 60 [],.some (.sl (.own (some 12288036864)) aw)⟩
def Nt {R:Type}(X:SD.D Gj)(K:Ex→AS→Option R):=Pu.gS (fun y0 y1 y2 y3=>ke 0 K Gj ((w y0 (w y1 (u y2)) X.1),X.2.1,y3))
def Vo:aL:=cj Gj Nt (fun X=>(X.1.1,X.1.2.1,q2 X,X.2.2))
def L17:aO:=(aO.nil).add 2 Vo
theorem UI:bZ E g17 n17 L17 (af Tryz.f17 0):=lk Gj Nt (fun X=>(X.1.1,X.1.2.1,q2 X,X.2.2)) fun X x=>((w x.1 (w x.2.1 (u x.2.2.1)) X.1),X.2.1,x.2.2.2)
theorem o17:ak Tryz.prog 17 e17:=ak.qo (pX (Γ:=g17) (an:=n17) (Λ:=L17) (base.add Rp) Tryz.func17 (by kernel_rfl) (hF (by kernel_rfl) (cF UI nF))) (fun x a=>by kernel_rfl)
def e55:aq:=iP (.sl bt) false [pI] [rI] fun x a=>Pu.gU x a.1
def g55:aJ:=aJ.nil
def n55:An:={mask:=mk [(2,[0,1,5])]}
@[reducible] def Gr:SD:=⟨.data false (.sl (.lio 0 12288036864) bt)::DI::B::B::B::DI::bs 70 [],zs 76 [],.some (.sl (.own (some 12288036864)) bt)⟩
def NJ {R:Type}(X:SD.D Gr)(K:Ex→AS→Option R):=Pu.kS (fun y0 y1 y2 y3=>ke 0 K Gr ((w y0 (w y1 (u y2)) X.1),X.2.1,y3))
def VD:aL:=cj Gr NJ (fun X=>(X.1.1,X.1.2.1,q2 X,X.2.2))
def L55:aO:=(aO.nil).add 2 VD
theorem UY:bZ E g55 n55 L55 (af Tryz.f55 0):=lk Gr NJ (fun X=>(X.1.1,X.1.2.1,q2 X,X.2.2)) fun X x=>((w x.1 (w x.2.1 (u x.2.2.1)) X.1),X.2.1,x.2.2.2)
theorem o55:ak Tryz.prog 55 e55:=ak.qo (pX (Γ:=g55) (an:=n55) (Λ:=L55) (base) Tryz.func55 (by kernel_rfl) (hF (by kernel_rfl) (cF UY nF))) (fun x a=>by kernel_rfl)
def S4:aq:=iP (.sl aQ) false [pI] [rI] fun x a=>Pu.gW x a.1
def Um:aJ:=aJ.nil
def V5:An:={mask:=mk [(2,[0,1,5])]}
@[reducible] def Ag:SD:=⟨.data false (.sl (.lio 0 12288036864) aQ)::DI::B::B::B::DI::bs 61 [],zs 67 [],.some (.sl (.own (some 12288036864)) aQ)⟩
def KO {R:Type}(X:SD.D Ag)(K:Ex→AS→Option R):=Pu.kV (fun y0 y1 y2 y3=>ke 0 K Ag ((w y0 (w y1 (u y2)) X.1),X.2.1,y3))
def PN:aL:=cj Ag KO (fun X=>(X.1.1,X.1.2.1,q2 X,X.2.2))
def RK:aO:=(aO.nil).add 2 PN
theorem OC:bZ E Um V5 RK (af Tryz.f111 0):=lk Ag KO (fun X=>(X.1.1,X.1.2.1,q2 X,X.2.2)) fun X x=>((w x.1 (w x.2.1 (u x.2.2.1)) X.1),X.2.1,x.2.2.2)
theorem W6:ak Tryz.prog 111 S4:=ak.qo (pX (Γ:=Um) (an:=V5) (Λ:=RK) (base) Tryz.func111 (by kernel_rfl) (hF (by kernel_rfl) (cF OC nF))) (fun x a=>by kernel_rfl)
def e56:aq:=iP (.sl aQ) true [pI] [rI] fun x a=>Pu.fu x a.1
theorem o56:ak Tryz.prog 56 e56:=ak.qo (pX (an:={}) (Λ:=aO.nil) (base.add W6) Tryz.func56 (by kernel_rfl) (hF (by kernel_rfl) nF)) (fun x a=>by kernel_rfl)
def e57:aq:=iP cK true [pI] [rI] fun x a=>Pu.ju x a.1
theorem o57:ak Tryz.prog 57 e57:=ak.qo (pX (an:={}) (Λ:=aO.nil) (base.add Rp) Tryz.func57 (by kernel_rfl) (hF (by kernel_rfl) nF)) (fun x a=>by kernel_rfl)
def e18:aq:=iP aK true [pI] [rI] fun x a=>Pu.gx x a.1
theorem o18:ak Tryz.prog 18 e18:=ak.qo (pX (an:={}) (Λ:=aO.nil) (((base.add o55).add o56).add o57) Tryz.func18 (by kernel_rfl) (hF (by kernel_rfl) nF)) (fun x a=>by kernel_rfl)
def AO:aq:=ah [pI] [rS] (c1 Pu.az)
def Zz:aJ:=aJ.nil
def V6:An:={mask:=mk [(4,[0,3])]}
@[reducible] def Ah:SD:=⟨DI::B::B::.data false .str::bs 16 [],zs 20 [],.none⟩
def KP {R:Type}(X:SD.D Ah)(K:Ex→AS→Option R):=Pu.il (fun y0 y1=>ke 0 K Ah ((w y0 (u y1) X.1),X.2))
def PO:aL:=cj Ah KP (fun X=>(X.1.1,X.1.2.1))
def RL:aO:=(aO.nil).add 4 PO
theorem OD:bZ E Zz V6 RL (af Tryz.f112 0):=lk Ah KP (fun X=>(X.1.1,X.1.2.1)) fun X x=>((w x.1 (u x.2) X.1),X.2)
theorem DA:ak Tryz.prog 112 AO:=fk V6 base Tryz.func112 (Λ:=RL) (cF OD nF)
def e58:aq:=iP (.sl .str) false [pI] [rI] fun x a=>Pu.bW x a.1
def g58:aJ:=aJ.nil.add 112 AO
def n58:An:={mask:=mk [(2,[0,1,5])]}
@[reducible] def Gs:SD:=⟨.data false (.sl (.lio 0 12288036864) .str)::DI::B::B::B::DI::bs 14 [],zs 20 [],.some (.sl (.own (some 12288036864)) .str)⟩
def NK {R:Type}(X:SD.D Gs)(K:Ex→AS→Option R):=Pu.cZ (fun y0 y1 y2 y3=>ke 0 K Gs ((w y0 (w y1 (u y2)) X.1),X.2.1,y3))
def VE:aL:=cj Gs NK (fun X=>(X.1.1,X.1.2.1,q2 X,X.2.2))
def L58:aO:=(aO.nil).add 2 VE
theorem UZ:bZ E g58 n58 L58 (af Tryz.f58 0):=lk Gs NK (fun X=>(X.1.1,X.1.2.1,q2 X,X.2.2)) fun X x=>((w x.1 (w x.2.1 (u x.2.2.1)) X.1),X.2.1,x.2.2.2)
theorem o58:ak Tryz.prog 58 e58:=ak.qo (pX (Γ:=g58) (an:=n58) (Λ:=L58) (base.add DA) Tryz.func58 (by kernel_rfl) (hF (by kernel_rfl) (cF UZ nF))) (fun x a=>by kernel_rfl)
def e19:aq:=iP (.sl .str) true [pI] [rI] fun x a=>Pu.gR x a.1
theorem o19:ak Tryz.prog 19 e19:=ak.qo (pX (an:={}) (Λ:=aO.nil) (base.add o58) Tryz.func19 (by kernel_rfl) (hF (by kernel_rfl) nF)) (fun x a=>by kernel_rfl)
def S5:aq:=iP (.sl aB) false [pI] [rI] fun x a=>Pu.gv x a.1
def Un:aJ:=aJ.nil
def V7:An:={mask:=mk [(2,[0,1,5])]}
@[reducible] def Ai:SD:=⟨.data false (.sl (.lio 0 12288036864) aB)::DI::B::B::B::DI::bs 37 [],zs 43 [],.some (.sl (.own (some 12288036864)) aB)⟩
def KQ {R:Type}(X:SD.D Ai)(K:Ex→AS→Option R):=Pu.gT (fun y0 y1 y2 y3=>ke 0 K Ai ((w y0 (w y1 (u y2)) X.1),X.2.1,y3))
def PQ:aL:=cj Ai KQ (fun X=>(X.1.1,X.1.2.1,q2 X,X.2.2))
def RM:aO:=(aO.nil).add 2 PQ
theorem OE:bZ E Un V7 RM (af Tryz.f113 0):=lk Ai KQ (fun X=>(X.1.1,X.1.2.1,q2 X,X.2.2)) fun X x=>((w x.1 (w x.2.1 (u x.2.2.1)) X.1),X.2.1,x.2.2.2)
theorem aaF:ak Tryz.prog 113 S5:=ak.qo (pX (Γ:=Un) (an:=V7) (Λ:=RM) (base) Tryz.func113 (by kernel_rfl) (hF (by kernel_rfl) (cF OE nF))) (fun x a=>by kernel_rfl)
def S6:aq:=iP (.sl df) false [pI] [rI] fun x a=>Pu.kT x a.1
def Uo:aJ:=aJ.nil.add 54 Ud
def V8:An:={mask:=mk [(2,[0,1,5])],nest:=[30]}
@[reducible] def Aj:SD:=⟨.data false (.sl (.lio 0 12288036864) df)::DI::B::B::B::DI::bs 28 [],zs 34 [],.some (.sl (.own (some 12288036864)) df)⟩
def KR {R:Type}(X:SD.D Aj)(K:Ex→AS→Option R):=Pu.kU (fun y0 y1 y2 y3=>ke 0 K Aj ((w y0 (w y1 (u y2)) X.1),X.2.1,y3))
def PR:aL:=cj Aj KR (fun X=>(X.1.1,X.1.2.1,q2 X,X.2.2))
def RN:aO:=(aO.nil).add 2 PR
theorem OF:bZ E Uo V8 RN (af Tryz.f114 0):=lk Aj KR (fun X=>(X.1.1,X.1.2.1,q2 X,X.2.2)) fun X x=>((w x.1 (w x.2.1 (u x.2.2.1)) X.1),X.2.1,x.2.2.2)
theorem aaG:ak Tryz.prog 114 S6:=ak.qo (pX (Γ:=Uo) (an:=V8) (Λ:=RN) (base.add Rp) Tryz.func114 (by kernel_rfl) (hF (by kernel_rfl) (cF OF nF))) (fun x a=>by kernel_rfl)
def S7:aq:=iP (.sl ba) false [pI] [rI] fun x a=>Pu.gw x a.1
def Up:aJ:=aJ.nil.add 112 AO
def V9:An:={mask:=mk [(2,[0,1,5])]}
@[reducible] def Ak:SD:=⟨.data false (.sl (.lio 0 12288036864) ba)::DI::B::B::B::DI::bs 272 [],zs 278 [],.some (.sl (.own (some 12288036864)) ba)⟩
def KS {R:Type}(X:SD.D Ak)(K:Ex→AS→Option R):=Pu.gV (fun y0 y1 y2 y3=>ke 0 K Ak ((w y0 (w y1 (u y2)) X.1),X.2.1,y3))
def PT:aL:=cj Ak KS (fun X=>(X.1.1,X.1.2.1,q2 X,X.2.2))
def RO:aO:=(aO.nil).add 2 PT
theorem OG:bZ E Up V9 RO (af Tryz.f115 0):=lk Ak KS (fun X=>(X.1.1,X.1.2.1,q2 X,X.2.2)) fun X x=>((w x.1 (w x.2.1 (u x.2.2.1)) X.1),X.2.1,x.2.2.2)
theorem aaH:ak Tryz.prog 115 S7:=ak.qo (pX (Γ:=Up) (an:=V9) (Λ:=RO) (base.add DA) Tryz.func115 (by kernel_rfl) (hF (by kernel_rfl) (cF OG nF))) (fun x a=>by kernel_rfl)
def S8:aq:=iP (.sl cc) false [pI] [rI] fun x a=>Pu.kQ x a.1
def Uq:aJ:=aJ.nil.add 54 Ud
def Wa:An:={mask:=mk [(2,[0,1,5])],nest:=[37]}
@[reducible] def Al:SD:=⟨.data false (.sl (.lio 0 12288036864) cc)::DI::B::B::B::DI::bs 35 [],zs 41 [],.some (.sl (.own (some 12288036864)) cc)⟩
def KT {R:Type}(X:SD.D Al)(K:Ex→AS→Option R):=Pu.kR (fun y0 y1 y2 y3=>ke 0 K Al ((w y0 (w y1 (u y2)) X.1),X.2.1,y3))
def PU:aL:=cj Al KT (fun X=>(X.1.1,X.1.2.1,q2 X,X.2.2))
def RP:aO:=(aO.nil).add 2 PU
theorem OH:bZ E Uq Wa RP (af Tryz.f116 0):=lk Al KT (fun X=>(X.1.1,X.1.2.1,q2 X,X.2.2)) fun X x=>((w x.1 (w x.2.1 (u x.2.2.1)) X.1),X.2.1,x.2.2.2)
theorem aaI:ak Tryz.prog 116 S8:=ak.qo (pX (Γ:=Uq) (an:=Wa) (Λ:=RP) (base.add Rp) Tryz.func116 (by kernel_rfl) (hF (by kernel_rfl) (cF OH nF))) (fun x a=>by kernel_rfl)
def S9:aq:=iP (.sl bh) false [pI] [rI] fun x a=>Pu.im x a.1
def Ur:aJ:=aJ.nil
def Wb:An:={mask:=mk [(2,[0,1,5])]}
@[reducible] def Am:SD:=⟨.data false (.sl (.lio 0 12288036864) bh)::DI::B::B::B::DI::bs 53 [],zs 59 [],.some (.sl (.own (some 12288036864)) bh)⟩
def KU {R:Type}(X:SD.D Am)(K:Ex→AS→Option R):=Pu.iJ (fun y0 y1 y2 y3=>ke 0 K Am ((w y0 (w y1 (u y2)) X.1),X.2.1,y3))
def PV:aL:=cj Am KU (fun X=>(X.1.1,X.1.2.1,q2 X,X.2.2))
def RQ:aO:=(aO.nil).add 2 PV
theorem OI:bZ E Ur Wb RQ (af Tryz.f117 0):=lk Am KU (fun X=>(X.1.1,X.1.2.1,q2 X,X.2.2)) fun X x=>((w x.1 (w x.2.1 (u x.2.2.1)) X.1),X.2.1,x.2.2.2)
theorem aaJ:ak Tryz.prog 117 S9:=ak.qo (pX (Γ:=Ur) (an:=Wb) (Λ:=RQ) (base) Tryz.func117 (by kernel_rfl) (hF (by kernel_rfl) (cF OI nF))) (fun x a=>by kernel_rfl)
def Ta:aq:=iP (.sl .bool) false [pI] [rI] fun x a=>Pu.kO x a.1
def Us:aJ:=aJ.nil
def Wc:An:={mask:=mk [(2,[0,1,5])]}
@[reducible] def Ao:SD:=⟨.data false (.sl (.lio 0 12288036864) .bool)::DI::B::B::B::DI::bs 15 [],zs 21 [],.some (.sl (.own (some 12288036864)) .bool)⟩
def KV {R:Type}(X:SD.D Ao)(K:Ex→AS→Option R):=Pu.dR (fun y0 y1 y2 y3=>ke 0 K Ao ((w y0 (w y1 (u y2)) X.1),X.2.1,y3))
def PW:aL:=cj Ao KV (fun X=>(X.1.1,X.1.2.1,q2 X,X.2.2))
def RR:aO:=(aO.nil).add 2 PW
theorem OJ:bZ E Us Wc RR (af Tryz.f118 0):=lk Ao KV (fun X=>(X.1.1,X.1.2.1,q2 X,X.2.2)) fun X x=>((w x.1 (w x.2.1 (u x.2.2.1)) X.1),X.2.1,x.2.2.2)
theorem aaK:ak Tryz.prog 118 Ta:=ak.qo (pX (Γ:=Us) (an:=Wc) (Λ:=RR) (base) Tryz.func118 (by kernel_rfl) (hF (by kernel_rfl) (cF OJ nF))) (fun x a=>by kernel_rfl)
def Tb:aq:=iP (.sl bd) false [pI] [rI] fun x a=>Pu.ik x a.1
def Ut:aJ:=aJ.nil.add 112 AO
def Wd:An:={mask:=mk [(2,[0,1,5])]}
@[reducible] def Ap:SD:=⟨.data false (.sl (.lio 0 12288036864) bd)::DI::B::B::B::DI::bs 71 [],zs 77 [],.some (.sl (.own (some 12288036864)) bd)⟩
def KW {R:Type}(X:SD.D Ap)(K:Ex→AS→Option R):=Pu.iI (fun y0 y1 y2 y3=>ke 0 K Ap ((w y0 (w y1 (u y2)) X.1),X.2.1,y3))
def PX:aL:=cj Ap KW (fun X=>(X.1.1,X.1.2.1,q2 X,X.2.2))
def RS:aO:=(aO.nil).add 2 PX
theorem OK:bZ E Ut Wd RS (af Tryz.f119 0):=lk Ap KW (fun X=>(X.1.1,X.1.2.1,q2 X,X.2.2)) fun X x=>((w x.1 (w x.2.1 (u x.2.2.1)) X.1),X.2.1,x.2.2.2)
theorem aaL:ak Tryz.prog 119 Tb:=ak.qo (pX (Γ:=Ut) (an:=Wd) (Λ:=RS) (base.add DA) Tryz.func119 (by kernel_rfl) (hF (by kernel_rfl) (cF OK nF))) (fun x a=>by kernel_rfl)
def e59:aq:=iP (.sl bB) false [pI] [rI] fun x a=>Pu.nS x a.1
def g59:aJ:=(((((((((((aJ.nil.add 54 Ud).add 55 e55).add 58 e58).add 111 S4).add 112 AO).add 113 S5).add 114 S6).add 115 S7).add 116 S8).add 117 S9).add 118 Ta).add 119 Tb
def n59:An:={mask:=mk [(2,[0,1,5])],nest:=[17,24,96,104,119,126,133,140,166,174,183,202,209,225,232,239]}
@[reducible] def Gt:SD:=⟨.data false (.sl (.lio 0 12288036864) bB)::DI::B::B::B::DI::bs 277 [],zs 283 [],.some (.sl (.own (some 12288036864)) bB)⟩
def NL {R:Type}(X:SD.D Gt)(K:Ex→AS→Option R):=Pu.kP (fun y0 y1 y2 y3=>ke 0 K Gt ((w y0 (w y1 (u y2)) X.1),X.2.1,y3))
def VF:aL:=cj Gt NL (fun X=>(X.1.1,X.1.2.1,q2 X,X.2.2))
def L59:aO:=(aO.nil).add 2 VF
theorem U0:bZ E g59 n59 L59 (af Tryz.f59 0):=lk Gt NL (fun X=>(X.1.1,X.1.2.1,q2 X,X.2.2)) fun X x=>((w x.1 (w x.2.1 (u x.2.2.1)) X.1),X.2.1,x.2.2.2)
theorem o59:ak Tryz.prog 59 e59:=ak.qo (pX (Γ:=g59) (an:=n59) (Λ:=L59) ((((((((((((base.add Rp).add o55).add o58).add W6).add DA).add aaF).add aaG).add aaH).add aaI).add aaJ).add aaK).add aaL) Tryz.func59 (by kernel_rfl) (hF (by kernel_rfl) (cF U0 nF))) (fun x a=>by kernel_rfl)
def e60:aq:=iP (.sl ao) false [pI] [rI] fun x a=>Pu.dz x a.1
def g60:aJ:=aJ.nil
def n60:An:={mask:=mk [(2,[0,1,5])]}
@[reducible] def Gu:SD:=⟨.data false (.sl (.lio 0 12288036864) ao)::DI::B::B::B::DI::bs 68 [],zs 74 [],.some (.sl (.own (some 12288036864)) ao)⟩
def NM {R:Type}(X:SD.D Gu)(K:Ex→AS→Option R):=Pu.cS (fun y0 y1 y2 y3=>ke 0 K Gu ((w y0 (w y1 (u y2)) X.1),X.2.1,y3))
def VG:aL:=cj Gu NM (fun X=>(X.1.1,X.1.2.1,q2 X,X.2.2))
def L60:aO:=(aO.nil).add 2 VG
theorem U1:bZ E g60 n60 L60 (af Tryz.f60 0):=lk Gu NM (fun X=>(X.1.1,X.1.2.1,q2 X,X.2.2)) fun X x=>((w x.1 (w x.2.1 (u x.2.2.1)) X.1),X.2.1,x.2.2.2)
theorem o60:ak Tryz.prog 60 e60:=ak.qo (pX (Γ:=g60) (an:=n60) (Λ:=L60) (base) Tryz.func60 (by kernel_rfl) (hF (by kernel_rfl) (cF U1 nF))) (fun x a=>by kernel_rfl)
def e20:aq:=iP mN true [pI] [rI] fun x a=>Pu.lW x a.1
theorem o20:ak Tryz.prog 20 e20:=ak.qo (pX (an:={}) (Λ:=aO.nil) ((((((base.add o17).add o19).add Rp).add o58).add o59).add o60) Tryz.func20 (by kernel_rfl) (hF (by kernel_rfl) nF)) (fun x a=>by kernel_rfl)
def Ue:aq:=ah [pd (.sl (.int .i64)),pI] [rI] (c2 Pu.aS)
def g65:aJ:=aJ.nil
def n65:An:={mask:=mk [(2,[0,1,4,5])]}
@[reducible] def Cs:SD:=⟨.data false (.sl .arg (.int .i64))::DI::B::B::DI::DI::bs 15 [],zs 21 [],.none⟩
def NQ {R:Type}(X:SD.D Cs)(K:Ex→AS→Option R):=Pu.eI (fun y0 y1=>ke 0 K Cs ((z1 (w y0 (z1 (u y1))) X.1),X.2)) (fun y0 y1 y2=>kr K Cs ((z1 (w y0 (w y1 (u y2))) X.1),X.2)) X.1.1 (q2 X)
def VK:aL:=cj Cs NQ (fun X=>(X.1.2.1,q3 X))
def L65:aO:=(aO.nil).add 2 VK
theorem U5:bZ E g65 n65 L65 (af Tryz.f65 0):=lk Cs NQ (fun X=>(X.1.2.1,q3 X)) fun X x=>((z1 (w x.1 (z1 (u x.2))) X.1),X.2)
theorem Xs:ak Tryz.prog 65 Ue:=fk n65 base Tryz.func65 (Λ:=L65) (cF U5 nF)
def e66:aq:=ah [pd (.sl .str),pI] [rI] (c2 Pu.bV)
def g66:aJ:=aJ.nil.add 112 AO
def n66:An:={mask:=mk [(2,[0,1,4,5])]}
@[reducible] def Ct:SD:=⟨.data false (.sl .arg .str)::DI::B::B::DI::DI::bs 16 [],zs 22 [],.none⟩
def NR {R:Type}(X:SD.D Ct)(K:Ex→AS→Option R):=Pu.cY (fun y0 y1=>ke 0 K Ct ((z1 (w y0 (z1 (u y1))) X.1),X.2)) (fun y0 y1 y2=>kr K Ct ((z1 (w y0 (w y1 (u y2))) X.1),X.2)) X.1.1 (q2 X)
def VL:aL:=cj Ct NR (fun X=>(X.1.2.1,q3 X))
def L66:aO:=(aO.nil).add 2 VL
theorem U6:bZ E g66 n66 L66 (af Tryz.f66 0):=lk Ct NR (fun X=>(X.1.2.1,q3 X)) fun X x=>((z1 (w x.1 (z1 (u x.2))) X.1),X.2)
theorem o66:ak Tryz.prog 66 e66:=fk n66 (base.add DA) Tryz.func66 (Λ:=L66) (cF U6 nF)
def Tc:aq:=ah [pd (.sl aB),pI] [rI] (c2 Pu.gq)
def ZA:aJ:=aJ.nil
def We:An:={mask:=mk [(2,[0,1,4,5])]}
@[reducible] def wh:SD:=⟨.data false (.sl .arg aB)::DI::B::B::DI::DI::bs 45 [],zs 51 [],.none⟩
def KX {R:Type}(X:SD.D wh)(K:Ex→AS→Option R):=Pu.gP (fun y0 y1=>ke 0 K wh ((z1 (w y0 (z1 (u y1))) X.1),X.2)) (fun y0 y1 y2=>kr K wh ((z1 (w y0 (w y1 (u y2))) X.1),X.2)) X.1.1 (q2 X)
def PY:aL:=cj wh KX (fun X=>(X.1.2.1,q3 X))
def RT:aO:=(aO.nil).add 2 PY
theorem OL:bZ E ZA We RT (af Tryz.f120 0):=lk wh KX (fun X=>(X.1.2.1,q3 X)) fun X x=>((z1 (w x.1 (z1 (u x.2))) X.1),X.2)
theorem aaM:ak Tryz.prog 120 Tc:=fk We base Tryz.func120 (Λ:=RT) (cF OL nF)
def Td:aq:=ah [pd (.sl df),pI] [rI] (c2 Pu.kK)
def ZB:aJ:=aJ.nil.add 65 Ue
def Wf:An:={mask:=mk [(2,[0,1,4,5])]}
@[reducible] def wi:SD:=⟨.data false (.sl .arg df)::DI::B::B::DI::DI::bs 34 [],zs 40 [],.none⟩
def KY {R:Type}(X:SD.D wi)(K:Ex→AS→Option R):=Pu.kL (fun y0 y1=>ke 0 K wi ((z1 (w y0 (z1 (u y1))) X.1),X.2)) (fun y0 y1 y2=>kr K wi ((z1 (w y0 (w y1 (u y2))) X.1),X.2)) X.1.1 (q2 X)
def PZ:aL:=cj wi KY (fun X=>(X.1.2.1,q3 X))
def RU:aO:=(aO.nil).add 2 PZ
theorem OM:bZ E ZB Wf RU (af Tryz.f121 0):=lk wi KY (fun X=>(X.1.2.1,q3 X)) fun X x=>((z1 (w x.1 (z1 (u x.2))) X.1),X.2)
theorem aaN:ak Tryz.prog 121 Td:=fk Wf (base.add Xs) Tryz.func121 (Λ:=RU) (cF OM nF)
def Te:aq:=ah [pd (.sl ba),pI] [rI] (c2 Pu.gr)
def ZC:aJ:=aJ.nil.add 112 AO
def Wg:An:={mask:=mk [(2,[0,1,4,5])]}
@[reducible] def wj:SD:=⟨.data false (.sl .arg ba)::DI::B::B::DI::DI::bs 332 [],zs 338 [],.none⟩
def KZ {R:Type}(X:SD.D wj)(K:Ex→AS→Option R):=Pu.gQ (fun y0 y1=>ke 0 K wj ((z1 (w y0 (z1 (u y1))) X.1),X.2)) (fun y0 y1 y2=>kr K wj ((z1 (w y0 (w y1 (u y2))) X.1),X.2)) X.1.1 (q2 X)
def P0:aL:=cj wj KZ (fun X=>(X.1.2.1,q3 X))
def RV:aO:=(aO.nil).add 2 P0
theorem ON:bZ E ZC Wg RV (af Tryz.f122 0):=lk wj KZ (fun X=>(X.1.2.1,q3 X)) fun X x=>((z1 (w x.1 (z1 (u x.2))) X.1),X.2)
theorem aaO:ak Tryz.prog 122 Te:=fk Wg (base.add DA) Tryz.func122 (Λ:=RV) (cF ON nF)
def Tf:aq:=ah [pd (.sl cc),pI] [rI] (c2 Pu.kG)
def ZD:aJ:=aJ.nil.add 65 Ue
def Wh:An:={mask:=mk [(2,[0,1,4,5])]}
@[reducible] def wk:SD:=⟨.data false (.sl .arg cc)::DI::B::B::DI::DI::bs 43 [],zs 49 [],.none⟩
def K0 {R:Type}(X:SD.D wk)(K:Ex→AS→Option R):=Pu.kH (fun y0 y1=>ke 0 K wk ((z1 (w y0 (z1 (u y1))) X.1),X.2)) (fun y0 y1 y2=>kr K wk ((z1 (w y0 (w y1 (u y2))) X.1),X.2)) X.1.1 (q2 X)
def P1:aL:=cj wk K0 (fun X=>(X.1.2.1,q3 X))
def RX:aO:=(aO.nil).add 2 P1
theorem OO:bZ E ZD Wh RX (af Tryz.f123 0):=lk wk K0 (fun X=>(X.1.2.1,q3 X)) fun X x=>((z1 (w x.1 (z1 (u x.2))) X.1),X.2)
theorem aaP:ak Tryz.prog 123 Tf:=fk Wh (base.add Xs) Tryz.func123 (Λ:=RX) (cF OO nF)
def Tg:aq:=ah [pd (.sl bh),pI] [rI] (c2 Pu.ij)
def ZE:aJ:=aJ.nil
def Wi:An:={mask:=mk [(2,[0,1,4,5])]}
@[reducible] def wm:SD:=⟨.data false (.sl .arg bh)::DI::B::B::DI::DI::bs 65 [],zs 71 [],.none⟩
def K1 {R:Type}(X:SD.D wm)(K:Ex→AS→Option R):=Pu.iH (fun y0 y1=>ke 0 K wm ((z1 (w y0 (z1 (u y1))) X.1),X.2)) (fun y0 y1 y2=>kr K wm ((z1 (w y0 (w y1 (u y2))) X.1),X.2)) X.1.1 (q2 X)
def P2:aL:=cj wm K1 (fun X=>(X.1.2.1,q3 X))
def RY:aO:=(aO.nil).add 2 P2
theorem OP:bZ E ZE Wi RY (af Tryz.f124 0):=lk wm K1 (fun X=>(X.1.2.1,q3 X)) fun X x=>((z1 (w x.1 (z1 (u x.2))) X.1),X.2)
theorem aaQ:ak Tryz.prog 124 Tg:=fk Wi base Tryz.func124 (Λ:=RY) (cF OP nF)
def Th:aq:=ah [pd (.sl .bool),pI] [rI] (c2 Pu.kC)
def ZF:aJ:=aJ.nil
def Wj:An:={mask:=mk [(2,[0,1,4,5])]}
@[reducible] def wo:SD:=⟨.data false (.sl .arg .bool)::DI::B::B::DI::DI::bs 17 [],zs 23 [],.none⟩
def K2 {R:Type}(X:SD.D wo)(K:Ex→AS→Option R):=Pu.dQ (fun y0 y1=>ke 0 K wo ((z1 (w y0 (z1 (u y1))) X.1),X.2)) (fun y0 y1 y2=>kr K wo ((z1 (w y0 (w y1 (u y2))) X.1),X.2)) X.1.1 (q2 X)
def P3:aL:=cj wo K2 (fun X=>(X.1.2.1,q3 X))
def RZ:aO:=(aO.nil).add 2 P3
theorem OQ:bZ E ZF Wj RZ (af Tryz.f125 0):=lk wo K2 (fun X=>(X.1.2.1,q3 X)) fun X x=>((z1 (w x.1 (z1 (u x.2))) X.1),X.2)
theorem aaR:ak Tryz.prog 125 Th:=fk Wj base Tryz.func125 (Λ:=RZ) (cF OQ nF)
def Ti:aq:=ah [pd (.sl bt),pI] [rI] (c2 Pu.kI)
def ZG:aJ:=aJ.nil
def Wk:An:={mask:=mk [(2,[0,1,4,5])]}
@[reducible] def wq:SD:=⟨.data false (.sl .arg bt)::DI::B::B::DI::DI::bs 88 [],zs 94 [],.none⟩
def K3 {R:Type}(X:SD.D wq)(K:Ex→AS→Option R):=Pu.kJ (fun y0 y1=>ke 0 K wq ((z1 (w y0 (z1 (u y1))) X.1),X.2)) (fun y0 y1 y2=>kr K wq ((z1 (w y0 (w y1 (u y2))) X.1),X.2)) X.1.1 (q2 X)
def P4:aL:=cj wq K3 (fun X=>(X.1.2.1,q3 X))
def R0:aO:=(aO.nil).add 2 P4
theorem OR:bZ E ZG Wk R0 (af Tryz.f126 0):=lk wq K3 (fun X=>(X.1.2.1,q3 X)) fun X x=>((z1 (w x.1 (z1 (u x.2))) X.1),X.2)
theorem aaS:ak Tryz.prog 126 Ti:=fk Wk base Tryz.func126 (Λ:=R0) (cF OR nF)
def Tj:aq:=ah [pd (.sl aQ),pI] [rI] (c2 Pu.kM)
def ZH:aJ:=aJ.nil
def Wl:An:={mask:=mk [(2,[0,1,4,5])]}
@[reducible] def wu:SD:=⟨.data false (.sl .arg aQ)::DI::B::B::DI::DI::bs 75 [],zs 81 [],.none⟩
def K4 {R:Type}(X:SD.D wu)(K:Ex→AS→Option R):=Pu.kN (fun y0 y1=>ke 0 K wu ((z1 (w y0 (z1 (u y1))) X.1),X.2)) (fun y0 y1 y2=>kr K wu ((z1 (w y0 (w y1 (u y2))) X.1),X.2)) X.1.1 (q2 X)
def P5:aL:=cj wu K4 (fun X=>(X.1.2.1,q3 X))
def R1:aO:=(aO.nil).add 2 P5
theorem OS:bZ E ZH Wl R1 (af Tryz.f127 0):=lk wu K4 (fun X=>(X.1.2.1,q3 X)) fun X x=>((z1 (w x.1 (z1 (u x.2))) X.1),X.2)
theorem aaT:ak Tryz.prog 127 Tj:=fk Wl base Tryz.func127 (Λ:=R1) (cF OS nF)
def Tk:aq:=ah [pd (.sl bd),pI] [rI] (c2 Pu.ig)
def ZI:aJ:=aJ.nil.add 112 AO
def Wm:An:={mask:=mk [(2,[0,1,4,5])]}
@[reducible] def wv:SD:=⟨.data false (.sl .arg bd)::DI::B::B::DI::DI::bs 87 [],zs 93 [],.none⟩
def K5 {R:Type}(X:SD.D wv)(K:Ex→AS→Option R):=Pu.iG (fun y0 y1=>ke 0 K wv ((z1 (w y0 (z1 (u y1))) X.1),X.2)) (fun y0 y1 y2=>kr K wv ((z1 (w y0 (w y1 (u y2))) X.1),X.2)) X.1.1 (q2 X)
def P6:aL:=cj wv K5 (fun X=>(X.1.2.1,q3 X))
def R2:aO:=(aO.nil).add 2 P6
theorem OT:bZ E ZI Wm R2 (af Tryz.f128 0):=lk wv K5 (fun X=>(X.1.2.1,q3 X)) fun X x=>((z1 (w x.1 (z1 (u x.2))) X.1),X.2)
theorem aaU:ak Tryz.prog 128 Tk:=fk Wm (base.add DA) Tryz.func128 (Λ:=R2) (cF OT nF)
def e61:aq:=ah [pd (.sl bB),pI] [rI] (c2 Pu.nR)
def g61:aJ:=(((((((((((aJ.nil.add 65 Ue).add 66 e66).add 112 AO).add 120 Tc).add 121 Td).add 122 Te).add 123 Tf).add 124 Tg).add 125 Th).add 126 Ti).add 127 Tj).add 128 Tk
def n61:An:={mask:=mk [(2,[0,1,4,5])]}
@[reducible] def Cp:SD:=⟨.data false (.sl .arg bB)::DI::B::B::DI::DI::bs 343 [],zs 349 [],.none⟩
def NN {R:Type}(X:SD.D Cp)(K:Ex→AS→Option R):=Pu.kE (fun y0 y1=>ke 0 K Cp ((z1 (w y0 (z1 (u y1))) X.1),X.2)) (fun y0 y1 y2=>kr K Cp ((z1 (w y0 (w y1 (u y2))) X.1),X.2)) X.1.1 (q2 X)
def VH:aL:=cj Cp NN (fun X=>(X.1.2.1,q3 X))
def L61:aO:=(aO.nil).add 2 VH
theorem U2:bZ E g61 n61 L61 (af Tryz.f61 0):=lk Cp NN (fun X=>(X.1.2.1,q3 X)) fun X x=>((z1 (w x.1 (z1 (u x.2))) X.1),X.2)
theorem o61:ak Tryz.prog 61 e61:=fk n61 ((((((((((((base.add Xs).add o66).add DA).add aaM).add aaN).add aaO).add aaP).add aaQ).add aaR).add aaS).add aaT).add aaU) Tryz.func61 (Λ:=L61) (cF U2 nF)
def e62:aq:=ah [pd (.sl ao),pI] [rI] (c2 Pu.dy)
def g62:aJ:=aJ.nil
def n62:An:={mask:=mk [(2,[0,1,4,5])]}
@[reducible] def Cq:SD:=⟨.data false (.sl .arg ao)::DI::B::B::DI::DI::bs 84 [],zs 90 [],.none⟩
def NO {R:Type}(X:SD.D Cq)(K:Ex→AS→Option R):=Pu.cR (fun y0 y1=>ke 0 K Cq ((z1 (w y0 (z1 (u y1))) X.1),X.2)) (fun y0 y1 y2=>kr K Cq ((z1 (w y0 (w y1 (u y2))) X.1),X.2)) X.1.1 (q2 X)
def VI:aL:=cj Cq NO (fun X=>(X.1.2.1,q3 X))
def L62:aO:=(aO.nil).add 2 VI
theorem U3:bZ E g62 n62 L62 (af Tryz.f62 0):=lk Cq NO (fun X=>(X.1.2.1,q3 X)) fun X x=>((z1 (w x.1 (z1 (u x.2))) X.1),X.2)
theorem o62:ak Tryz.prog 62 e62:=fk n62 base Tryz.func62 (Λ:=L62) (cF U3 nF)
def e63:aq:=ah [pd (.sl aw),pI] [rI] (c2 Pu.kF)
def g63:aJ:=aJ.nil.add 65 Ue
def n63:An:={mask:=mk [(2,[0,1,4,5])]}
@[reducible] def Cr:SD:=⟨.data false (.sl .arg aw)::DI::B::B::DI::DI::bs 66 [],zs 72 [],.none⟩
def NP {R:Type}(X:SD.D Cr)(K:Ex→AS→Option R):=Pu.gO (fun y0 y1=>ke 0 K Cr ((z1 (w y0 (z1 (u y1))) X.1),X.2)) (fun y0 y1 y2=>kr K Cr ((z1 (w y0 (w y1 (u y2))) X.1),X.2)) X.1.1 (q2 X)
def VJ:aL:=cj Cr NP (fun X=>(X.1.2.1,q3 X))
def L63:aO:=(aO.nil).add 2 VJ
theorem U4:bZ E g63 n63 L63 (af Tryz.f63 0):=lk Cr NP (fun X=>(X.1.2.1,q3 X)) fun X x=>((z1 (w x.1 (z1 (u x.2))) X.1),X.2)
theorem o63:ak Tryz.prog 63 e63:=fk n63 (base.add Xs) Tryz.func63 (Λ:=L63) (cF U4 nF)
def e64:aq:=ah [pf (.sl .str),pI] [rI] (c2 Pu.kD)
theorem o64:ak Tryz.prog 64 e64:=f0 {} (base.add o66) Tryz.func64
def e21:aq:=ah [pf mN,pI] [rI] (c2 Pu.fQ)
theorem o21:ak Tryz.prog 21 e21:=f0 {} ((((((base.add o61).add o62).add o63).add o64).add Xs).add o66) Tryz.func21
@[reducible] def gi:List PS:=[pd (.sl aw),pf aK,pd .bool,pf cm,pf (.sl .str),pI]
def lq:aq:=ah gi [rB] (c6 Pu.iE)
theorem qV:ak Tryz.prog 3 lq:=f0 {merge:=mg [(16,80),(28,117),(39,151)],mv:=[41,53,61,70,141],sb:=mg [(14,14),(19,19),(24,24)]} ((((((((((((((((((base.add o4).add o5).add o6).add o7).add o8).add o9).add o10).add o11).add o12).add o13).add o14).add o15).add o16).add o17).add o18).add o19).add o20).add o21) Tryz.func3
end
end Go.Proofs.YtmpbhbfdoopggaaGreat.Fn
