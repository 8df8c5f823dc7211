import Derived.Test.YtainmjjkipbciaaGreatDnBase
/- The abstract steps, without their continuations. -/
namespace Go.Dn
variable {R:Type} {E:Env} {Γ:fy} {an:An} {o:Oper} {st:AS}
theorem Jd {α β:Type}{x:ax α}{k:α->ax β}{z:β}(h:aa x k=some z):∃y,x=some y/\k y=some z:=by cases x with|none=>cases h|some y=>exact⟨y,rfl,h⟩
theorem ib {α β:Type}(x:ax α)(k:α->ax β)(K:β->ax R):(aa x k).bind K=aa x λy=>(k y).bind K:=by cases x<;>rfl
theorem Ad {β:Type}(n:Nat)(k:ax β)(K:β->ax R):(room n k).bind K=room n (k.bind K):=by unfold room;split<;>rfl
theorem uD {β:Type}(b:Bool)(x y:ax β)(K:β->ax R):(cond b x y).bind K=cond b (x.bind K) (y.bind K):=by cases b<;>rfl
theorem Vz (x:Operand)(K:AS->ax R):zZ an o x st K=(zZ an o x st some).bind K:=by unfold zZ;split;split<;>rfl;rfl
theorem Vq (x:Operand)(K:AS->ax R):Nn o x st K=(Nn o x st some).bind K:=by unfold Nn;split<;>rfl
theorem IE (T:TypeId)(p x:Operand)(K:AS->ax R):uV E T p x st K=(uV E T p x st some).bind K:=by unfold uV;split;split;split;split;split<;>rfl;rfl;rfl;rfl;rfl
theorem N9 (x:Operand)(K:AS->ax R):sX E an o x st K=(sX E an o x st some).bind K:=by unfold sX;split;split<;>rfl;rfl
theorem VL (c x y:Operand)(K:AS->ax R):Ct o c x y st K=(Ct o c x y st some).bind K:=by unfold Ct;split;split;rfl;rw[uD];rfl;rfl
theorem QK (T:TypeId)(K:AS->ax R):Ao E o T st K=(Ao E o T st some).bind K:=by unfold Ao;split;split<;>rfl;rfl
theorem X3 (x:Operand)(K:AS->ax R):Oc o x st K=(Oc o x st some).bind K:=by unfold Oc;split;split;split<;>rfl;rfl;rfl
theorem TD (sh:Shape)(fl:pj)(e:CT)(i:Int)(off:Nat)(K:AS->ax R):Be o sh fl e i off st K=(Be o sh fl e i off st some).bind K:=by unfold Be;split;split;split;split;rw[ib];rfl;rfl;rfl;rfl;rfl
theorem MA (sh:Shape)(fl:pj)(e:CT)(i:Int)(off:Nat)(K:AS->ax R):wq o sh fl e i off st K=(wq o sh fl e i off st some).bind K:=by unfold wq;split;split;split;split;rw[ib];rfl;rfl;rfl;rfl;rfl
theorem Vt (T:TypeId)(p:Operand)(K:AS->ax R):nS E an o T p st K=(nS E an o T p st some).bind K:=by unfold nS;split;split;split;split;split<;>rfl;rfl;rfl;rfl;split;exact MA _ _ _ _ _ K;split;split<;>rfl;exact TD _ _ _ _ _ K;rfl
theorem Mx (r:jW)(t:Nat)(e:CT)(i:Int)(off:Nat)(vs:aw AC)(K:AS->ax R):st.oe r t e i off vs K=(st.oe r t e i off vs some).bind K:=by unfold AS.oe;split;split;split;rw[ib];congr 1;funext y;split<;>rfl;rfl;rfl;split;split;rw[ib];congr 1;funext y;split<;>rfl;rfl;rfl;rfl
theorem TF (T:TypeId)(p x:Operand)(K:AS->ax R):uU E T p x st K=(uU E T p x st some).bind K:=by unfold uU;split;split;split;split;split<;>rfl;rfl;rfl;rfl;split;split;rw[Mx];rfl;rfl;rfl
theorem Ru (S:TypeId)(p:Operand)(f:Nat)(K:AS->ax R):xS E o S p f st K=(xS E o S p f st some).bind K:=by unfold xS;split;split<;>rfl;split<;>rfl;rfl
theorem Iw (T:TypeId)(x i:Operand)(K:AS->ax R):lJ E o T x i st K=(lJ E o T x i st some).bind K:=by unfold lJ;split;split;rw[ib];rfl;rfl;rfl
theorem St (T:TypeId)(x i:Operand)(K:AS->ax R):zv E o T x i st K=(zv E o T x i st some).bind K:=by unfold zv;split;split;rw[ib];rfl;rfl;rfl
theorem QW (T:TypeId)(ps:aw (Nat×Operand))(K:AS->ax R):zh E o T ps st K=(zh E o T ps st some).bind K:=by unfold zh;split;split;split<;>rfl;rfl
theorem Gv (T:TypeId)(n:Nat)(ps:aw (Nat×Operand))(K:AS->ax R):kV E o T n ps st K=(kV E o T n ps st some).bind K:=by unfold kV;split;split;split;split<;>rfl;rfl;rfl
theorem Ix (T:TypeId)(n c:Operand)(K:AS->ax R):nt E o T n c st K=(nt E o T n c st some).bind K:=by unfold nt;split;split;rw[Ad];rfl;rfl;rfl
theorem EX {β:Type}(lo hi:ax Operand)(n:Nat)(k:Int->Int->ax β)(K:β->ax R):(lU st lo hi n k).bind K=lU st lo hi n λx y=>(k x y).bind K:=by unfold lU;split<;>rfl
theorem ID (T:TypeId)(x:Operand)(lo hi:ax Operand)(K:AS->ax R):uN E o T x lo hi st K=(uN E o T x lo hi st some).bind K:=by unfold uN;split;split;rw[ib];rfl;rfl;rfl
theorem Tv (T:TypeId)(x:Operand)(lo hi:ax Operand)(K:AS->ax R):yn E an o T x lo hi st K=(yn E an o T x lo hi st some).bind K:=by unfold yn;split;exact ID T x lo hi K;split;split;rw[EX];congr 1;funext p q;rw[ib];rfl;rfl;split;rw[EX];congr 1;funext p q;rw[ib];rfl;rfl;rfl
theorem LY (src dst:TypeId)(x:Operand)(K:AS->ax R):kX E o src dst x st K=(kX E o src dst x st some).bind K:=by unfold kX;split;rfl;rfl;split;rw[Ad];rfl;rfl;split<;>rfl;rfl
theorem LZ (t i:Nat)(K:AS->ax R):kZ o t i st K=(kZ o t i st some).bind K:=by unfold kZ;split;split<;>rfl;rfl
theorem Zp (ts:aw TypeId)(args:aw Operand)(K:AS->ax R):KL E o ts args st K=(KL E o ts args st some).bind K:=by unfold KL;split;split<;>rfl;split<;>rfl;rfl
theorem ZA (args:aw Operand)(K:AS->ax R):Mi o args st K=(Mi o args st some).bind K:=by unfold Mi;split<;>rfl
theorem Zw (args:aw Operand)(K:AS->ax R):Mh o args st K=(Mh o args st some).bind K:=by unfold Mh;split<;>rfl
theorem Uu (ts:aw TypeId)(args:aw Operand)(K:AS->ax R):MJ E o ts args st K=(MJ E o ts args st some).bind K:=by unfold MJ;split;split;split;split<;>rfl;rfl;rfl;rfl
theorem Pb (S:TypeId)(t f:Nat)(K:AS->ax R):CZ E o S t f st K=(CZ E o S t f st some).bind K:=by unfold CZ;split;split;split<;>rfl;rfl;rfl
theorem N7 (ts:aw TypeId)(args:aw Operand)(K:AS->ax R):uZ E o ts args st K=(uZ E o ts args st some).bind K:=by unfold uZ;split;split;split;split;split;rw[Ad];rfl;rfl;rfl;split;split;rw[Ad];rfl;rfl;rfl;rfl;rfl;rfl
theorem LX (f:Nat)(args:aw Operand)(K:AS->ax R):sY Γ o f args st K=(sY Γ o f args st some).bind K:=by unfold sY;split;split;split;rw[uD,ib];congr 1;congr 1;funext y;rw[uD,uD];rfl;rfl;rfl;rfl
theorem ZM (f:Nat)(args:aw Operand)(K:AS->ax R):ZL Γ o f args st K=(ZL Γ o f args st some).bind K:=by unfold ZL;split;split;rw[uD,ib];congr 1;congr 1;funext y;rw[uD];rfl;rfl;rfl
theorem Up (f:Operand)(args:aw Operand)(K:AS->ax R):Bt Γ o f args st K=(Bt Γ o f args st some).bind K:=by
 unfold Bt;split
 ·rename_i k hk
  cases (Γ k).bx with
  |true=>exact LX k args K
  |false=>
  simp only[af]
  cases (Γ k).pr with
  |true=>exact ZM k args K
  |false=>
  simp only[af]
  cases (Γ k).io with
  |true=>rfl
  |false=>simp only[af];rw[ib];congr 1;funext y;rw[uD];rfl
 rfl
theorem Vh {β:Type}(op:BinOp)(k:IntKind)(x y:Int)(c:AC->ax β)(K:β->ax R):(FB op k x y c).bind K=FB op k x y λz=>(c z).bind K:=by unfold FB;split<;>(try rfl)<;>(split<;>rfl)
theorem Wk {β:Type}(op:BinOp)(x y:aw UInt8)(c:AC->ax β)(K:β->ax R):(H6 op x y c).bind K=H6 op x y λz=>(c z).bind K:=by unfold H6;split<;>(try rfl);rw[Ad]
theorem CW {β:Type}(op:BinOp)(x y:AV)(c:AC->ax β)(K:β->ax R):(Dq op x y c).bind K=Dq op x y λz=>(c z).bind K:=by unfold Dq;split;split;split<;>rfl;split<;>rfl;split;rw[Vh];rfl;rw[Wk];split<;>rfl;split;rw[ib];rw[ib];rfl;rfl
theorem TQ {β:Type}(op:UnOp)(x:AV)(c:AC->ax β)(K:β->ax R):(unC op x c).bind K=unC op x λz=>(c z).bind K:=by unfold unC;split<;>rfl
theorem JU {β:Type}(op:BinOp)(b:Bool)(c:AC->ax β)(K:β->ax R):(Bu op b c).bind K=Bu op b λz=>(c z).bind K:=by unfold Bu;split<;>rfl
theorem Ui (op:BinOp)(T:TypeId)(x y:Operand)(K:AS->ax R):yA E o op T x y st K=(yA E o op T x y st some).bind K:=by unfold yA;split;split;rw[CW];rfl;rfl;split;split;rw[CW];rfl;rfl;rfl;split;split;rfl;rw[JU];rfl;rfl;split;rw[JU];rfl;rfl;rw[CW];rfl
theorem Lv (K:AS->ax R):cX E Γ an o st K=(cX E Γ an o st some).bind K:=by unfold cX;split;exact Vz _ K;split;exact Vq _ K;exact N9 _ K;exact VL _ _ _ K;exact QK _ K;exact X3 _ K;exact Vt _ _ K;split;split;exact IE _ _ _ K;exact TF _ _ _ K;rfl;split<;>rfl;exact Ui _ _ _ _ K;rw[TQ];rfl;exact Ru _ _ _ K;exact Iw _ _ _ K;exact St _ _ _ K;exact QW _ _ K;exact Gv _ _ _ K;exact Ix _ _ _ K;exact Tv _ _ _ _ K;exact Pb _ _ _ K;exact Uu _ _ K;exact LY _ _ _ K;exact LZ _ _ K;exact Zp _ _ K;exact ZA _ K;exact Zw _ K;exact N7 _ _ K;exact Up _ _ K;rfl
theorem px (ops:aw Oper)(K:AS->ax R):gh E Γ an ops o st K=(gh E Γ an ops o st some).bind K:=by
 unfold gh;split;exact Lv K;rename_i j EH hg;split;rename_i d hd;split;rename_i b hb
 have Yz:∀t:Bool,(if(t==EH)=true then cX E Γ an o (st.put (some d) (.one (.bool t))) K else K ((st.put (some d) (.one (.bool t))).put o.dst (.one .un)))=
  (if(t==EH)=true then cX E Γ an o (st.put (some d) (.one (.bool t))) some else some ((st.put (some d) (.one (.bool t))).put o.dst (.one .un))).bind K:=by
  intro t
  split
  ·exact Lv K
  ·rfl
 cases b with|true=>exact Yz true|false=>exact Yz false
 rfl;rfl;rfl
theorem Ny (ops:aw Oper):∀(l:aw Oper)(st:AS)(K:AS->ax R),PW E Γ an ops l st K=(PW E Γ an ops l st some).bind K
 |[],st,K=>rfl
 |o::l,st,K=>by simp only[PW];rw[px,px (K:=λbK=>PW E Γ an ops l bK some),Option.bind_assoc];congr 1;funext bK;exact Ny ops l bK K
end Go.Dn
