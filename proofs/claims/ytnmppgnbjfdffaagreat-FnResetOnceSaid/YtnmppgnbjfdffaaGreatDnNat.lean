import Derived.Test.YtnmppgnbjfdffaaGreatDnBase
/- The abstract steps, without their continuations. -/
namespace Go.Dn
variable {R:Type} {E:Env} {Γ:xl} {an:An} {o:Oper} {st:AS}
theorem IW {α β:Type}{x:ay α}{k:α->ay β}{z:β}(h:aa x k=some z):∃y,x=some y/\k y=some z:=by cases x with|none=>cases h|some y=>exact⟨y,rfl,h⟩
theorem ib {α β:Type}(x:ay α)(k:α->ay β)(K:β->ay R):(aa x k).bind K=aa x λy=>(k y).bind K:=by cases x<;>rfl
theorem zK {β:Type}(n:Nat)(k:ay β)(K:β->ay R):(room n k).bind K=room n (k.bind K):=by unfold room;split<;>rfl
theorem ud {β:Type}(b:Bool)(x y:ay β)(K:β->ay R):(cond b x y).bind K=cond b (x.bind K) (y.bind K):=by cases b<;>rfl
theorem Us (x:Operand)(K:AS->ay R):zG an o x st K=(zG an o x st some).bind K:=by unfold zG;split;split<;>rfl;rfl
theorem Uf (x:Operand)(K:AS->ay R):MG o x st K=(MG o x st some).bind K:=by unfold MG;split<;>rfl
theorem Ir (T:TypeId)(p x:Operand)(K:AS->ay R):uD E T p x st K=(uD E T p x st some).bind K:=by unfold uD;split;split;split;split;split<;>rfl;rfl;rfl;rfl;rfl
theorem Nq (x:Operand)(K:AS->ay R):sD E an o x st K=(sD E an o x st some).bind K:=by unfold sD;split;split<;>rfl;rfl
theorem UC (c x y:Operand)(K:AS->ay R):B0 o c x y st K=(B0 o c x y st some).bind K:=by unfold B0;split;split;rfl;rw[ud];rfl;rfl
theorem Pz (T:TypeId)(K:AS->ay R):zS E o T st K=(zS E o T st some).bind K:=by unfold zS;split;split<;>rfl;rfl
theorem WE (x:Operand)(K:AS->ay R):Nt o x st K=(Nt o x st some).bind K:=by unfold Nt;split;split;split<;>rfl;rfl;rfl
theorem Sb (sh:Shape)(fl:oP)(e:CT)(i:Int)(off:Nat)(K:AS->ay R):AB o sh fl e i off st K=(AB o sh fl e i off st some).bind K:=by unfold AB;split;split;split;split;rw[ib];rfl;rfl;rfl;rfl;rfl
theorem LR (sh:Shape)(fl:oP)(e:CT)(i:Int)(off:Nat)(K:AS->ay R):vP o sh fl e i off st K=(vP o sh fl e i off st some).bind K:=by unfold vP;split;split;split;split;rw[ib];rfl;rfl;rfl;rfl;rfl
theorem Um (T:TypeId)(p:Operand)(K:AS->ay R):nI E an o T p st K=(nI E an o T p st some).bind K:=by unfold nI;split;split;split;split;split<;>rfl;rfl;rfl;rfl;split;exact LR _ _ _ _ _ K;split;split<;>rfl;exact Sb _ _ _ _ _ K;rfl
theorem LO (r:jU)(t:Nat)(e:CT)(i:Int)(off:Nat)(vs:aw AC)(K:AS->ay R):st.nT r t e i off vs K=(st.nT r t e i off vs some).bind K:=by unfold AS.nT;split;split;split;rw[ib];congr 1;funext y;split<;>rfl;rfl;rfl;split;split;rw[ib];congr 1;funext y;split<;>rfl;rfl;rfl;rfl
theorem Sc (T:TypeId)(p x:Operand)(K:AS->ay R):uC E T p x st K=(uC E T p x st some).bind K:=by unfold uC;split;split;split;split;split<;>rfl;rfl;rfl;rfl;split;split;rw[LO];rfl;rfl;rfl
theorem P1 (S:TypeId)(p:Operand)(f:Nat)(K:AS->ay R):xC E o S p f st K=(xC E o S p f st some).bind K:=by unfold xC;split;split<;>rfl;split<;>rfl;rfl
theorem Ih (T:TypeId)(x i:Operand)(K:AS->ay R):lx E o T x i st K=(lx E o T x i st some).bind K:=by unfold lx;split;split;rw[ib];rfl;rfl;rfl
theorem QU (T:TypeId)(x i:Operand)(K:AS->ay R):yW E o T x i st K=(yW E o T x i st some).bind K:=by unfold yW;split;split;rw[ib];rfl;rfl;rfl
theorem PL (T:TypeId)(ps:aw (Nat×Operand))(K:AS->ay R):yM E o T ps st K=(yM E o T ps st some).bind K:=by unfold yM;split;split;split<;>rfl;rfl
theorem Gc (T:TypeId)(n:Nat)(ps:aw (Nat×Operand))(K:AS->ay R):kP E o T n ps st K=(kP E o T n ps st some).bind K:=by unfold kP;split;split;split;split<;>rfl;rfl;rfl
theorem Ii (T:TypeId)(n c:Operand)(K:AS->ay R):ni E o T n c st K=(ni E o T n c st some).bind K:=by unfold ni;split;split;rw[zK];rfl;rfl;rfl
theorem ED {β:Type}(lo hi:ay Operand)(n:Nat)(k:Int->Int->ay β)(K:β->ay R):(lK st lo hi n k).bind K=lK st lo hi n λx y=>(k x y).bind K:=by unfold lK;split<;>rfl
theorem Iq (T:TypeId)(x:Operand)(lo hi:ay Operand)(K:AS->ay R):uu E o T x lo hi st K=(uu E o T x lo hi st some).bind K:=by unfold uu;split;split;rw[ib];rfl;rfl;rfl
theorem R3 (T:TypeId)(x:Operand)(lo hi:ay Operand)(K:AS->ay R):xX E an o T x lo hi st K=(xX E an o T x lo hi st some).bind K:=by unfold xX;split;exact Iq T x lo hi K;split;split;rw[ED];congr 1;funext p q;rw[ib];rfl;rfl;split;rw[ED];congr 1;funext p q;rw[ib];rfl;rfl;rfl
theorem Lg (src dst:TypeId)(x:Operand)(K:AS->ay R):kR E o src dst x st K=(kR E o src dst x st some).bind K:=by unfold kR;split;rfl;rfl;split;rw[zK];rfl;rfl;split<;>rfl;rfl
theorem Lh (t i:Nat)(K:AS->ay R):kS o t i st K=(kS o t i st some).bind K:=by unfold kS;split;split<;>rfl;rfl
theorem XM (ts:aw TypeId)(args:aw Operand)(K:AS->ay R):J5 E o ts args st K=(J5 E o ts args st some).bind K:=by unfold J5;split;split<;>rfl;split<;>rfl;rfl
theorem XW (args:aw Operand)(K:AS->ay R):Lz o args st K=(Lz o args st some).bind K:=by unfold Lz;split<;>rfl
theorem XS (args:aw Operand)(K:AS->ay R):Ly o args st K=(Ly o args st some).bind K:=by unfold Ly;split<;>rfl
theorem S3 (ts:aw TypeId)(args:aw Operand)(K:AS->ay R):L3 E o ts args st K=(L3 E o ts args st some).bind K:=by unfold L3;split;split;split;split<;>rfl;rfl;rfl;rfl
theorem N0 (S:TypeId)(t f:Nat)(K:AS->ay R):Cz E o S t f st K=(Cz E o S t f st some).bind K:=by unfold Cz;split;split;split<;>rfl;rfl;rfl
theorem No (ts:aw TypeId)(args:aw Operand)(K:AS->ay R):uG E o ts args st K=(uG E o ts args st some).bind K:=by unfold uG;split;split;split;split;split;rw[zK];rfl;rfl;rfl;split;split;rw[zK];rfl;rfl;rfl;rfl;rfl;rfl
theorem Lf (f:Nat)(args:aw Operand)(K:AS->ay R):sE Γ o f args st K=(sE Γ o f args st some).bind K:=by unfold sE;split;split;split;rw[ud,ib];congr 1;congr 1;funext y;rw[ud,ud];rfl;rfl;rfl;rfl
theorem X8 (f:Nat)(args:aw Operand)(K:AS->ay R):X7 Γ o f args st K=(X7 Γ o f args st some).bind K:=by unfold X7;split;split;rw[ud,ib];congr 1;congr 1;funext y;rw[ud];rfl;rfl;rfl
theorem SY (f:Operand)(args:aw Operand)(K:AS->ay R):AP Γ o f args st K=(AP Γ o f args st some).bind K:=by
 unfold AP;split
 ·rename_i k hk
  cases (Γ k).bx with
  |true=>exact Lf k args K
  |false=>
  simp only[af]
  cases (Γ k).pr with
  |true=>exact X8 k args K
  |false=>
  simp only[af]
  cases (Γ k).io with
  |true=>rfl
  |false=>simp only[af];rw[ib];congr 1;funext y;rw[ud];rfl
 rfl
theorem T6 {β:Type}(op:BinOp)(k:IntKind)(x y:Int)(c:AC->ay β)(K:β->ay R):(Fi op k x y c).bind K=Fi op k x y λz=>(c z).bind K:=by unfold Fi;split<;>(try rfl)<;>(split<;>rfl)
theorem U8 {β:Type}(op:BinOp)(x y:aw UInt8)(c:AC->ay β)(K:β->ay R):(HS op x y c).bind K=HS op x y λz=>(c z).bind K:=by unfold HS;split<;>(try rfl);rw[zK]
theorem Cw {β:Type}(op:BinOp)(x y:AV)(c:AC->ay β)(K:β->ay R):(C2 op x y c).bind K=C2 op x y λz=>(c z).bind K:=by unfold C2;split;split;split<;>rfl;split<;>rfl;split;rw[T6];rfl;rw[U8];split<;>rfl;split;rw[ib];rw[ib];rfl;rfl
theorem Sn {β:Type}(op:UnOp)(x:AV)(c:AC->ay β)(K:β->ay R):(unC op x c).bind K=unC op x λz=>(c z).bind K:=by unfold unC;split<;>rfl
theorem Jh {β:Type}(op:BinOp)(b:Bool)(c:AC->ay β)(K:β->ay R):(AQ op b c).bind K=AQ op b λz=>(c z).bind K:=by unfold AQ;split<;>rfl
theorem SQ (op:BinOp)(T:TypeId)(x y:Operand)(K:AS->ay R):yi E o op T x y st K=(yi E o op T x y st some).bind K:=by unfold yi;split;split;rw[Cw];rfl;rfl;split;split;rw[Cw];rfl;rfl;rfl;split;split;rfl;rw[Jh];rfl;rfl;split;rw[Jh];rfl;rfl;rw[Cw];rfl
theorem KQ (K:AS->ay R):cU E Γ an o st K=(cU E Γ an o st some).bind K:=by unfold cU;split;exact Us _ K;split;exact Uf _ K;exact Nq _ K;exact UC _ _ _ K;exact Pz _ K;exact WE _ K;exact Um _ _ K;split;split;exact Ir _ _ _ K;exact Sc _ _ _ K;rfl;split<;>rfl;exact SQ _ _ _ _ K;rw[Sn];rfl;exact P1 _ _ _ K;exact Ih _ _ _ K;exact QU _ _ _ K;exact PL _ _ K;exact Gc _ _ _ K;exact Ii _ _ _ K;exact R3 _ _ _ _ K;exact N0 _ _ _ K;exact S3 _ _ K;exact Lg _ _ _ K;exact Lh _ _ K;exact XM _ _ K;exact XW _ K;exact XS _ K;exact No _ _ K;exact SY _ _ K;rfl
theorem oV (ops:aw Oper)(K:AS->ay R):fZ E Γ an ops o st K=(fZ E Γ an ops o st some).bind K:=by
 unfold fZ;split;exact KQ K;rename_i j Ei hg;split;rename_i d hd;split;rename_i b hb
 have W9:∀t:Bool,(if(t==Ei)=true then cU E Γ an o (st.put (some d) (.one (.bool t))) K else K ((st.put (some d) (.one (.bool t))).put o.dst (.one .un)))=
  (if(t==Ei)=true then cU E Γ an o (st.put (some d) (.one (.bool t))) some else some ((st.put (some d) (.one (.bool t))).put o.dst (.one .un))).bind K:=by
  intro t
  split
  ·exact KQ K
  ·rfl
 cases b with|true=>exact W9 true|false=>exact W9 false
 rfl;rfl;rfl
theorem MS (ops:aw Oper):∀(l:aw Oper)(st:AS)(K:AS->ay R),OI E Γ an ops l st K=(OI E Γ an ops l st some).bind K
 |[],st,K=>rfl
 |o::l,st,K=>by simp only[OI];rw[oV,oV (K:=λbI=>OI E Γ an ops l bI some),Option.bind_assoc];congr 1;funext bI;exact MS ops l bI K
end Go.Dn
