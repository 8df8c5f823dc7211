import Derived.Test.YtfbhfnniblfpbaaGreatDnBase
/- The abstract steps, without their continuations. -/
namespace Go.Dn
variable {R:Type} {E:Env} {Γ:xV} {an:An} {o:Oper} {st:AS}
theorem N3 {α β:Type}{x:au α}{k:α->au β}{z:β}(h:aa x k=some z):∃y,x=some y/\k y=some z:=by cases x with|none=>cases h|some y=>exact⟨y,rfl,h⟩
theorem gu {α β:Type}(x:au α)(k:α->au β)(K:β->au R):(aa x k).bind K=aa x λy=>(k y).bind K:=by cases x<;>rfl
theorem EE {β:Type}(n:Nat)(k:au β)(K:β->au R):(room n k).bind K=room n (k.bind K):=by unfold room;split<;>rfl
theorem rO {β:Type}(b:Bool)(x y:au β)(K:β->au R):(cond b x y).bind K=cond b (x.bind K) (y.bind K):=by cases b<;>rfl
theorem Y9 (x:Operand)(K:AS->au R):Ew an o x st K=(Ew an o x st some).bind K:=by unfold Ew;split;split<;>rfl;rfl
theorem YY (x:Operand)(K:AS->au R):RZ o x st K=(RZ o x st some).bind K:=by unfold RZ;split<;>rfl
theorem Nt (T:TypeId)(p x:Operand)(K:AS->au R):yz E T p x st K=(yz E T p x st some).bind K:=by unfold yz;split;split;split;split;split<;>rfl;rfl;rfl;rfl;rfl
theorem SW (x:Operand)(K:AS->au R):vV E an o x st K=(vV E an o x st some).bind K:=by unfold vV;split;split<;>rfl;rfl
theorem Zm (c x y:Operand)(K:AS->au R):Hv o c x y st K=(Hv o c x y st some).bind K:=by unfold Hv;split;split;rfl;rw[rO];rfl;rfl
theorem UU (T:TypeId)(K:AS->au R):EO E o T st K=(EO E o T st some).bind K:=by unfold EO;split;split<;>rfl;rfl
theorem aa9 (x:Operand)(K:AS->au R):SY o x st K=(SY o x st some).bind K:=by unfold SY;split;split;split<;>rfl;rfl;rfl
theorem W4 (sh:Shape)(fl:qL)(e:CT)(i:Int)(off:Nat)(K:AS->au R):FW o sh fl e i off st K=(FW o sh fl e i off st some).bind K:=by unfold FW;split;split;split;split;rw[gu];rfl;rfl;rfl;rfl;rfl
theorem Ra (sh:Shape)(fl:qL)(e:CT)(i:Int)(off:Nat)(K:AS->au R):Am o sh fl e i off st K=(Am o sh fl e i off st some).bind K:=by unfold Am;split;split;split;split;rw[gu];rfl;rfl;rfl;rfl;rfl
theorem Y4 (T:TypeId)(p:Operand)(K:AS->au R):py E an o T p st K=(py E an o T p st some).bind K:=by unfold py;split;split;split;split;split<;>rfl;rfl;rfl;rfl;split;exact Ra _ _ _ _ _ K;split;split<;>rfl;exact W4 _ _ _ _ _ K;rfl
theorem Q7 (r:kv)(t:Nat)(e:CT)(i:Int)(off:Nat)(vs:aq AC)(K:AS->au R):st.pG r t e i off vs K=(st.pG r t e i off vs some).bind K:=by unfold AS.pG;split;split;split;rw[gu];congr 1;funext y;split<;>rfl;rfl;rfl;split;split;rw[gu];congr 1;funext y;split<;>rfl;rfl;rfl;rfl
theorem W6 (T:TypeId)(p x:Operand)(K:AS->au R):yy E T p x st K=(yy E T p x st some).bind K:=by unfold yy;split;split;split;split;split<;>rfl;rfl;rfl;rfl;split;split;rw[Q7];rfl;rfl;rfl
theorem Vj (S:TypeId)(p:Operand)(f:Nat)(K:AS->au R):B4 E o S p f st K=(B4 E o S p f st some).bind K:=by unfold B4;split;split<;>rfl;split<;>rfl;rfl
theorem Nl (T:TypeId)(x i:Operand)(K:AS->au R):mN E o T x i st K=(mN E o T x i st some).bind K:=by unfold mN;split;split;rw[gu];rfl;rfl;rfl
theorem V4 (T:TypeId)(x i:Operand)(K:AS->au R):DV E o T x i st K=(DV E o T x i st some).bind K:=by unfold DV;split;split;rw[gu];rfl;rfl;rfl
theorem U3 (T:TypeId)(ps:aq (Nat×Operand))(K:AS->au R):DP E o T ps st K=(DP E o T ps st some).bind K:=by unfold DP;split;split;split<;>rfl;rfl
theorem Lr (T:TypeId)(n:Nat)(ps:aq (Nat×Operand))(K:AS->au R):lY E o T n ps st K=(lY E o T n ps st some).bind K:=by unfold lY;split;split;split;split<;>rfl;rfl;rfl
theorem Nm (T:TypeId)(n c:Operand)(K:AS->au R):oP E o T n c st K=(oP E o T n c st some).bind K:=by unfold oP;split;split;rw[EE];rfl;rfl;rfl
theorem JX {β:Type}(lo hi:au Operand)(n:Nat)(k:Int->Int->au β)(K:β->au R):(ng st lo hi n k).bind K=ng st lo hi n λx y=>(k x y).bind K:=by unfold ng;split<;>rfl
theorem Nr (T:TypeId)(x:Operand)(lo hi:au Operand)(K:AS->au R):yr E o T x lo hi st K=(yr E o T x lo hi st some).bind K:=by unfold yr;split;split;rw[gu];rfl;rfl;rfl
theorem WQ (T:TypeId)(x:Operand)(lo hi:au Operand)(K:AS->au R):CQ E an o T x lo hi st K=(CQ E an o T x lo hi st some).bind K:=by unfold CQ;split;exact Nr T x lo hi K;split;split;rw[JX];congr 1;funext p q;rw[gu];rfl;rfl;split;rw[JX];congr 1;funext p q;rw[gu];rfl;rfl;rfl
theorem QA (src dst:TypeId)(x:Operand)(K:AS->au R):mc E o src dst x st K=(mc E o src dst x st some).bind K:=by unfold mc;split;rfl;rfl;split;rw[EE];rfl;rfl;split<;>rfl;rfl
theorem QC (t i:Nat)(K:AS->au R):md o t i st K=(md o t i st some).bind K:=by unfold md;split;split<;>rfl;rfl
theorem aca (ts:aq TypeId)(args:aq Operand)(K:AS->au R):Pa E o ts args st K=(Pa E o ts args st some).bind K:=by unfold Pa;split;split<;>rfl;split<;>rfl;rfl
theorem acg (args:aq Operand)(K:AS->au R):QS o args st K=(QS o args st some).bind K:=by unfold QS;split<;>rfl
theorem acf (args:aq Operand)(K:AS->au R):QR o args st K=(QR o args st some).bind K:=by unfold QR;split<;>rfl
theorem X3 (ts:aq TypeId)(args:aq Operand)(K:AS->au R):Ri E o ts args st K=(Ri E o ts args st some).bind K:=by unfold Ri;split;split;split;split<;>rfl;rfl;rfl;rfl
theorem Tg (S:TypeId)(t f:Nat)(K:AS->au R):HV E o S t f st K=(HV E o S t f st some).bind K:=by unfold HV;split;split;split<;>rfl;rfl;rfl
theorem SU (ts:aq TypeId)(args:aq Operand)(K:AS->au R):yC E o ts args st K=(yC E o ts args st some).bind K:=by unfold yC;split;split;split;split;split;rw[EE];rfl;rfl;rfl;split;split;rw[EE];rfl;rfl;rfl;rfl;rfl;rfl
theorem Zh (f:Nat)(g:Bool)(cs:aq AC)(xs:aq Operand)(K:AS->au R):Sb Γ o f g cs xs st K=(Sb Γ o f g cs xs st some).bind K:=by unfold Sb;split;split;split;rw[rO,gu];congr 1;congr 1;funext x;split;rw[gu];congr 1;funext y;split;split;cases ((Γ f).av y).gv<;>rfl;rfl;rfl;rfl;rfl;rfl;rfl
theorem aeW (f:Nat)(args:aq Operand)(K:AS->au R):ioC Γ o f args st K=(ioC Γ o f args st some).bind K:=by unfold ioC;split;split;split;split;split;rw[rO,gu];congr 1;congr 1;funext y;split;cases ((Γ f).av y).gv<;>rfl;rfl;rfl;rfl;exact Zh f _ _ _ K;rfl;rfl
theorem Qz (f:Nat)(args:aq Operand)(K:AS->au R):vW Γ o f args st K=(vW Γ o f args st some).bind K:=by unfold vW;split;split;split;rw[rO,gu];congr 1;congr 1;funext y;rw[rO,rO];rfl;rfl;rfl;rfl
theorem acv (f:Nat)(args:aq Operand)(K:AS->au R):acu Γ o f args st K=(acu Γ o f args st some).bind K:=by unfold acu;split;split;rw[rO,gu];congr 1;congr 1;funext y;rw[rO];rfl;rfl;rfl
theorem X0 (f:Operand)(args:aq Operand)(K:AS->au R):Gb Γ o f args st K=(Gb Γ o f args st some).bind K:=by
 unfold Gb;split
 ·rename_i k hk
  cases (Γ k).bx with
  |true=>exact Qz k args K
  |false=>
  simp only[ae]
  cases (Γ k).pr with
  |true=>exact acv k args K
  |false=>
  simp only[ae]
  cases (Γ k).io with
  |true=>exact aeW k args K
  |false=>simp only[ae];rw[gu];congr 1;funext y;rw[rO];rfl
 rfl
theorem YQ {β:Type}(op:BinOp)(k:IntKind)(x y:Int)(c:AC->au β)(K:β->au R):(Kx op k x y c).bind K=Kx op k x y λz=>(c z).bind K:=by unfold Kx;split<;>(try rfl)<;>(split<;>rfl)
theorem ZR {β:Type}(op:BinOp)(x y:aq UInt8)(c:AC->au β)(K:β->au R):(MY op x y c).bind K=MY op x y λz=>(c z).bind K:=by unfold MY;split<;>(try rfl);rw[EE]
theorem HR {β:Type}(op:BinOp)(x y:AV)(c:AC->au β)(K:β->au R):(Iy op x y c).bind K=Iy op x y λz=>(c z).bind K:=by unfold Iy;split;split;split<;>rfl;split<;>rfl;split;rw[YQ];rfl;rw[ZR];split<;>rfl;split;rw[gu];rw[gu];rfl;rfl
theorem Xn {β:Type}(op:UnOp)(x:AV)(c:AC->au β)(K:β->au R):(unC op x c).bind K=unC op x λz=>(c z).bind K:=by unfold unC;split<;>rfl
theorem Om {β:Type}(op:BinOp)(b:Bool)(c:AC->au β)(K:β->au R):(Gd op b c).bind K=Gd op b λz=>(c z).bind K:=by unfold Gd;split<;>rfl
theorem XU (op:BinOp)(T:TypeId)(x y:Operand)(K:AS->au R):C5 E o op T x y st K=(C5 E o op T x y st some).bind K:=by unfold C5;split;split;rw[HR];rfl;rfl;split;split;rw[HR];rfl;rfl;rfl;split;split;rfl;rw[Om];rfl;rfl;split;rw[Om];rfl;rfl;rw[HR];rfl
theorem P0 (K:AS->au R):dc E Γ an o st K=(dc E Γ an o st some).bind K:=by unfold dc;split;exact Y9 _ K;split;exact YY _ K;exact SW _ K;exact Zm _ _ _ K;exact UU _ K;exact aa9 _ K;exact Y4 _ _ K;split;split;exact Nt _ _ _ K;exact W6 _ _ _ K;rfl;split<;>rfl;exact XU _ _ _ _ K;rw[Xn];rfl;exact Vj _ _ _ K;exact Nl _ _ _ K;exact V4 _ _ _ K;exact U3 _ _ K;exact Lr _ _ _ K;exact Nm _ _ _ K;exact WQ _ _ _ _ K;exact Tg _ _ _ K;exact X3 _ _ K;exact QA _ _ _ K;exact QC _ _ K;exact aca _ _ K;exact acg _ K;exact acf _ K;exact SU _ _ K;exact X0 _ _ K;rfl
theorem qS (ops:aq Oper)(K:AS->au R):gB E Γ an ops o st K=(gB E Γ an ops o st some).bind K:=by
 unfold gB;split;exact P0 K;rename_i j JP hg;split;rename_i d hd;split;rename_i b hb
 have hgo:∀t:Bool,(if(t==JP)=true then dc E Γ an o (st.put (some d) (.one (.bool t))) K else K ((st.put (some d) (.one (.bool t))).put o.dst (.one .un)))=
  (if(t==JP)=true then dc E Γ an o (st.put (some d) (.one (.bool t))) some else some ((st.put (some d) (.one (.bool t))).put o.dst (.one .un))).bind K:=by
  intro t
  split
  ·exact P0 K
  ·rfl
 cases b with|true=>exact hgo true|false=>exact hgo false
 rfl;rfl;rfl
theorem Sd (ops:aq Oper):∀(l:aq Oper)(st:AS)(K:AS->au R),T0 E Γ an ops l st K=(T0 E Γ an ops l st some).bind K
 |[],st,K=>rfl
 |o::l,st,K=>by simp only[T0];rw[qS,qS (K:=λst'=>T0 E Γ an ops l st' some),Option.bind_assoc];congr 1;funext st';exact Sd ops l st' K
end Go.Dn
