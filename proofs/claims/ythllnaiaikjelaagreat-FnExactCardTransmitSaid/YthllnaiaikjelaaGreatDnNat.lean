import Derived.Test.YthllnaiaikjelaaGreatDnBase
/- The abstract steps, without their continuations. -/
namespace Go.Dn
variable {R:Type} {E:Env} {Γ:xf} {an:An} {o:Oper} {st:AS}
theorem No {α β:Type}{x:ar α}{k:α->ar β}{z:β}(h:aa x k=some z):∃y,x=some y/\k y=some z:=by cases x with|none=>cases h|some y=>exact⟨y,rfl,h⟩
theorem fS {α β:Type}(x:ar α)(k:α->ar β)(K:β->ar R):(aa x k).bind K=aa x λy=>(k y).bind K:=by cases x<;>rfl
theorem DP {β:Type}(n:Nat)(k:ar β)(K:β->ar R):(room n k).bind K=room n (k.bind K):=by unfold room;split<;>rfl
theorem qV {β:Type}(b:Bool)(x y:ar β)(K:β->ar R):(cond b x y).bind K=cond b (x.bind K) (y.bind K):=by cases b<;>rfl
theorem Yb (x:Operand)(K:AS->ar R):DH an o x st K=(DH an o x st some).bind K:=by unfold DH;split;split<;>rfl;rfl
theorem X2 (x:Operand)(K:AS->ar R):Rb o x st K=(Rb o x st some).bind K:=by unfold Rb;split<;>rfl
theorem MP (T:TypeId)(p x:Operand)(K:AS->ar R):xz E T p x st K=(xz E T p x st some).bind K:=by unfold xz;split;split;split;split;split<;>rfl;rfl;rfl;rfl;rfl
theorem R8 (x:Operand)(K:AS->ar R):uW E an o x st K=(uW E an o x st some).bind K:=by unfold uW;split;split<;>rfl;rfl
theorem Ym (c x y:Operand)(K:AS->ar R):GD o c x y st K=(GD o c x y st some).bind K:=by unfold GD;split;split;rfl;rw[qV];rfl;rfl
theorem TU (T:TypeId)(K:AS->ar R):D5 E o T st K=(D5 E o T st some).bind K:=by unfold D5;split;split<;>rfl;rfl
theorem aak (x:Operand)(K:AS->ar R):Sa o x st K=(Sa o x st some).bind K:=by unfold Sa;split;split;split<;>rfl;rfl;rfl
theorem V3 (sh:Shape)(fl:pW)(e:CT)(i:Int)(off:Nat)(K:AS->ar R):E7 o sh fl e i off st K=(E7 o sh fl e i off st some).bind K:=by unfold E7;split;split;split;split;rw[fS];rfl;rfl;rfl;rfl;rfl
theorem Qq (sh:Shape)(fl:pW)(e:CT)(i:Int)(off:Nat)(K:AS->ar R):zn o sh fl e i off st K=(zn o sh fl e i off st some).bind K:=by unfold zn;split;split;split;split;rw[fS];rfl;rfl;rfl;rfl;rfl
theorem X5 (T:TypeId)(p:Operand)(K:AS->ar R):oz E an o T p st K=(oz E an o T p st some).bind K:=by unfold oz;split;split;split;split;split<;>rfl;rfl;rfl;rfl;split;exact Qq _ _ _ _ _ K;split;split<;>rfl;exact V3 _ _ _ _ _ K;rfl
theorem Qn (r:jR)(t:Nat)(e:CT)(i:Int)(off:Nat)(vs:aq AC)(K:AS->ar R):st.oG r t e i off vs K=(st.oG r t e i off vs some).bind K:=by unfold AS.oG;split;split;split;rw[fS];congr 1;funext y;split<;>rfl;rfl;rfl;split;split;rw[fS];congr 1;funext y;split<;>rfl;rfl;rfl;rfl
theorem V6 (T:TypeId)(p x:Operand)(K:AS->ar R):xy E T p x st K=(xy E T p x st some).bind K:=by unfold xy;split;split;split;split;split<;>rfl;rfl;rfl;rfl;split;split;rw[Qn];rfl;rfl;rfl
theorem Un (S:TypeId)(p:Operand)(f:Nat)(K:AS->ar R):Bk E o S p f st K=(Bk E o S p f st some).bind K:=by unfold Bk;split;split<;>rfl;split<;>rfl;rfl
theorem ME (T:TypeId)(x i:Operand)(K:AS->ar R):lY E o T x i st K=(lY E o T x i st some).bind K:=by unfold lY;split;split;rw[fS];rfl;rfl;rfl
theorem Va (T:TypeId)(x i:Operand)(K:AS->ar R):CW E o T x i st K=(CW E o T x i st some).bind K:=by unfold CW;split;split;rw[fS];rfl;rfl;rfl
theorem T3 (T:TypeId)(ps:aq (Nat×Operand))(K:AS->ar R):CP E o T ps st K=(CP E o T ps st some).bind K:=by unfold CP;split;split;split<;>rfl;rfl
theorem KW (T:TypeId)(n:Nat)(ps:aq (Nat×Operand))(K:AS->ar R):kX E o T n ps st K=(kX E o T n ps st some).bind K:=by unfold kX;split;split;split;split<;>rfl;rfl;rfl
theorem MF (T:TypeId)(n c:Operand)(K:AS->ar R):nS E o T n c st K=(nS E o T n c st some).bind K:=by unfold nS;split;split;rw[DP];rfl;rfl;rfl
theorem Jr {β:Type}(lo hi:ar Operand)(n:Nat)(k:Int->Int->ar β)(K:β->ar R):(mw st lo hi n k).bind K=mw st lo hi n λx y=>(k x y).bind K:=by unfold mw;split<;>rfl
theorem MM (T:TypeId)(x:Operand)(lo hi:ar Operand)(K:AS->ar R):xt E o T x lo hi st K=(xt E o T x lo hi st some).bind K:=by unfold xt;split;split;rw[fS];rfl;rfl;rfl
theorem VR (T:TypeId)(x:Operand)(lo hi:ar Operand)(K:AS->ar R):BW E an o T x lo hi st K=(BW E an o T x lo hi st some).bind K:=by unfold BW;split;exact MM T x lo hi K;split;split;rw[Jr];congr 1;funext p q;rw[fS];rfl;rfl;split;rw[Jr];congr 1;funext p q;rw[fS];rfl;rfl;rfl
theorem PR (src dst:TypeId)(x:Operand)(K:AS->ar R):la E o src dst x st K=(la E o src dst x st some).bind K:=by unfold la;split;rfl;rfl;split;rw[DP];rfl;rfl;split<;>rfl;rfl
theorem PV (t i:Nat)(K:AS->ar R):lf o t i st K=(lf o t i st some).bind K:=by unfold lf;split;split<;>rfl;rfl
theorem abd (ts:aq TypeId)(args:aq Operand)(K:AS->ar R):Ox E o ts args st K=(Ox E o ts args st some).bind K:=by unfold Ox;split;split<;>rfl;split<;>rfl;rfl
theorem abj (args:aq Operand)(K:AS->ar R):Qa o args st K=(Qa o args st some).bind K:=by unfold Qa;split<;>rfl
theorem abi (args:aq Operand)(K:AS->ar R):P9 o args st K=(P9 o args st some).bind K:=by unfold P9;split<;>rfl
theorem W8 (ts:aq TypeId)(args:aq Operand)(K:AS->ar R):QB E o ts args st K=(QB E o ts args st some).bind K:=by unfold QB;split;split;split;split<;>rfl;rfl;rfl;rfl
theorem Sp (S:TypeId)(t f:Nat)(K:AS->ar R):Hb E o S t f st K=(Hb E o S t f st some).bind K:=by unfold Hb;split;split;split<;>rfl;rfl;rfl
theorem R6 (ts:aq TypeId)(args:aq Operand)(K:AS->ar R):xC E o ts args st K=(xC E o ts args st some).bind K:=by unfold xC;split;split;split;split;split;rw[DP];rfl;rfl;rfl;split;split;rw[DP];rfl;rfl;rfl;rfl;rfl;rfl
theorem Yi (f:Nat)(g:Bool)(cs:aq AC)(xs:aq Operand)(K:AS->ar R):Rm Γ o f g cs xs st K=(Rm Γ o f g cs xs st some).bind K:=by unfold Rm;split;split;split;rw[qV,fS];congr 1;congr 1;funext x;split;rw[fS];congr 1;funext y;split;split;cases ((Γ f).av y).fT<;>rfl;rfl;rfl;rfl;rfl;rfl;rfl
theorem adW (f:Nat)(args:aq Operand)(K:AS->ar R):ioC Γ o f args st K=(ioC Γ o f args st some).bind K:=by unfold ioC;split;split;split;split;split;rw[qV,fS];congr 1;congr 1;funext y;split;cases ((Γ f).av y).fT<;>rfl;rfl;rfl;rfl;exact Yi f _ _ _ K;rfl;rfl
theorem PQ (f:Nat)(args:aq Operand)(K:AS->ar R):uX Γ o f args st K=(uX Γ o f args st some).bind K:=by unfold uX;split;split;split;rw[qV,fS];congr 1;congr 1;funext y;rw[qV,qV];rfl;rfl;rfl;rfl
theorem abv (f:Nat)(args:aq Operand)(K:AS->ar R):abu Γ o f args st K=(abu Γ o f args st some).bind K:=by unfold abu;split;split;rw[qV,fS];congr 1;congr 1;funext y;rw[qV];rfl;rfl;rfl
theorem W5 (f:Operand)(args:aq Operand)(K:AS->ar R):Fm Γ o f args st K=(Fm Γ o f args st some).bind K:=by
 unfold Fm;split
 ·rename_i k hk
  cases (Γ k).bx with
  |true=>exact PQ k args K
  |false=>
  simp only[ae]
  cases (Γ k).pr with
  |true=>exact abv k args K
  |false=>
  simp only[ae]
  cases (Γ k).io with
  |true=>exact adW k args K
  |false=>simp only[ae];rw[fS];congr 1;funext y;rw[qV];rfl
 rfl
theorem XU {β:Type}(op:BinOp)(k:IntKind)(x y:Int)(c:AC->ar β)(K:β->ar R):(J6 op k x y c).bind K=J6 op k x y λz=>(c z).bind K:=by unfold J6;split<;>(try rfl)<;>(split<;>rfl)
theorem YM {β:Type}(op:BinOp)(x y:aq UInt8)(c:AC->ar β)(K:β->ar R):(Mn op x y c).bind K=Mn op x y λz=>(c z).bind K:=by unfold Mn;split<;>(try rfl);rw[DP]
theorem Ha {β:Type}(op:BinOp)(x y:AV)(c:AC->ar β)(K:β->ar R):(HL op x y c).bind K=HL op x y λz=>(c z).bind K:=by unfold HL;split;split;split<;>rfl;split<;>rfl;split;rw[XU];rfl;rw[YM];split<;>rfl;split;rw[fS];rw[fS];rfl;rfl
theorem Wp {β:Type}(op:UnOp)(x:AV)(c:AC->ar β)(K:β->ar R):(unC op x c).bind K=unC op x λz=>(c z).bind K:=by unfold unC;split<;>rfl
theorem NK {β:Type}(op:BinOp)(b:Bool)(c:AC->ar β)(K:β->ar R):(Fp op b c).bind K=Fp op b λz=>(c z).bind K:=by unfold Fp;split<;>rfl
theorem WZ (op:BinOp)(T:TypeId)(x y:Operand)(K:AS->ar R):Cb E o op T x y st K=(Cb E o op T x y st some).bind K:=by unfold Cb;split;split;rw[Ha];rfl;rfl;split;split;rw[Ha];rfl;rfl;rfl;split;split;rfl;rw[NK];rfl;rfl;split;rw[NK];rfl;rfl;rw[Ha];rfl
theorem Pe (K:AS->ar R):cO E Γ an o st K=(cO E Γ an o st some).bind K:=by unfold cO;split;exact Yb _ K;split;exact X2 _ K;exact R8 _ K;exact Ym _ _ _ K;exact TU _ K;exact aak _ K;exact X5 _ _ K;split;split;exact MP _ _ _ K;exact V6 _ _ _ K;rfl;split<;>rfl;exact WZ _ _ _ _ K;rw[Wp];rfl;exact Un _ _ _ K;exact ME _ _ _ K;exact Va _ _ _ K;exact T3 _ _ K;exact KW _ _ _ K;exact MF _ _ _ K;exact VR _ _ _ _ K;exact Sp _ _ _ K;exact W8 _ _ K;exact PR _ _ _ K;exact PV _ _ K;exact abd _ _ K;exact abj _ K;exact abi _ K;exact R6 _ _ K;exact W5 _ _ K;rfl
theorem qc (ops:aq Oper)(K:AS->ar R):gh E Γ an ops o st K=(gh E Γ an ops o st some).bind K:=by
 unfold gh;split;exact Pe K;rename_i j Ji hg;split;rename_i d hd;split;rename_i b hb
 have Zr:∀t:Bool,(if(t==Ji)=true then cO E Γ an o (st.put (some d) (.one (.bool t))) K else K ((st.put (some d) (.one (.bool t))).put o.dst (.one .un)))=
  (if(t==Ji)=true then cO E Γ an o (st.put (some d) (.one (.bool t))) some else some ((st.put (some d) (.one (.bool t))).put o.dst (.one .un))).bind K:=by
  intro t
  split
  ·exact Pe K
  ·rfl
 cases b with|true=>exact Zr true|false=>exact Zr false
 rfl;rfl;rfl
theorem Rn (ops:aq Oper):∀(l:aq Oper)(st:AS)(K:AS->ar R),S2 E Γ an ops l st K=(S2 E Γ an ops l st some).bind K
 |[],st,K=>rfl
 |o::l,st,K=>by simp only[S2];rw[qc,qc (K:=λst'=>S2 E Γ an ops l st' some),Option.bind_assoc];congr 1;funext st';exact Rn ops l st' K
end Go.Dn
