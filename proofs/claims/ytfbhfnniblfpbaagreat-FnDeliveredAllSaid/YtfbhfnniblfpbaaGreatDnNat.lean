import Derived.Test.YtfbhfnniblfpbaaGreatDnBase
/- The abstract steps, without their continuations. -/
namespace Go.Dn
variable {R:Type} {E:Env} {Γ:xu} {an:An} {o:Oper} {st:AS}
theorem MP {α β:Type}{x:ax α}{k:α->ax β}{z:β}(h:aa x k=some z):∃y,x=some y/\k y=some z:=by cases x with|none=>cases h|some y=>exact⟨y,rfl,h⟩
theorem iq {α β:Type}(x:ax α)(k:α->ax β)(K:β->ax R):(aa x k).bind K=aa x λy=>(k y).bind K:=by cases x<;>rfl
theorem Dt {β:Type}(n:Nat)(k:ax β)(K:β->ax R):(room n k).bind K=room n (k.bind K):=by unfold room;split<;>rfl
theorem xB {β:Type}(b:Bool)(x y:ax β)(K:β->ax R):(cond b x y).bind K=cond b (x.bind K) (y.bind K):=by cases b<;>rfl
theorem X2 (x:Operand)(K:AS->ax R):Dp an o x st K=(Dp an o x st some).bind K:=by unfold Dp;split;split<;>rfl;rfl
theorem XT (x:Operand)(K:AS->ax R):QV o x st K=(QV o x st some).bind K:=by unfold QV;split<;>rfl
theorem Mg (T:TypeId)(p x:Operand)(K:AS->ax R):xZ E T p x st K=(xZ E T p x st some).bind K:=by unfold xZ;split;split;split;split;split<;>rfl;rfl;rfl;rfl;rfl
theorem RU (x:Operand)(K:AS->ax R):vJ E an o x st K=(vJ E an o x st some).bind K:=by unfold vJ;split;split<;>rfl;rfl
theorem Yc (c x y:Operand)(K:AS->ax R):FG o c x y st K=(FG o c x y st some).bind K:=by unfold FG;split;split;rfl;rw[xB];rfl;rfl
theorem TM (T:TypeId)(K:AS->ax R):DH E o T st K=(DH E o T st some).bind K:=by unfold DH;split;split<;>rfl;rfl
theorem aaf (x:Operand)(K:AS->ax R):RX o x st K=(RX o x st some).bind K:=by unfold RX;split;split;split<;>rfl;rfl;rfl
theorem V9 (sh:Shape)(fl:rj)(e:CT)(i:Int)(off:Nat)(K:AS->ax R):Ep o sh fl e i off st K=(Ep o sh fl e i off st some).bind K:=by unfold Ep;split;split;split;split;rw[iq];rfl;rfl;rfl;rfl;rfl
theorem P4 (sh:Shape)(fl:rj)(e:CT)(i:Int)(off:Nat)(K:AS->ax R):zF o sh fl e i off st K=(zF o sh fl e i off st some).bind K:=by unfold zF;split;split;split;split;rw[iq];rfl;rfl;rfl;rfl;rfl
theorem XW (T:TypeId)(p:Operand)(K:AS->ax R):pL E an o T p st K=(pL E an o T p st some).bind K:=by unfold pL;split;split;split;split;split<;>rfl;rfl;rfl;rfl;split;exact P4 _ _ _ _ _ K;split;split<;>rfl;exact V9 _ _ _ _ _ K;rfl
theorem P1 (r:kL)(t:Nat)(e:CT)(i:Int)(off:Nat)(vs:au AC)(K:AS->ax R):st.pZ r t e i off vs K=(st.pZ r t e i off vs some).bind K:=by unfold AS.pZ;split;split;split;rw[iq];congr 1;funext y;split<;>rfl;rfl;rfl;split;split;rw[iq];congr 1;funext y;split<;>rfl;rfl;rfl;rfl
theorem Wd (T:TypeId)(p x:Operand)(K:AS->ax R):xY E T p x st K=(xY E T p x st some).bind K:=by unfold xY;split;split;split;split;split<;>rfl;rfl;rfl;rfl;split;split;rw[P1];rfl;rfl;rfl
theorem T8 (S:TypeId)(p:Operand)(f:Nat)(K:AS->ax R):Bu E o S p f st K=(Bu E o S p f st some).bind K:=by unfold Bu;split;split<;>rfl;split<;>rfl;rfl
theorem L6 (T:TypeId)(x i:Operand)(K:AS->ax R):mG E o T x i st K=(mG E o T x i st some).bind K:=by unfold mG;split;split;rw[iq];rfl;rfl;rfl
theorem U4 (T:TypeId)(x i:Operand)(K:AS->ax R):CL E o T x i st K=(CL E o T x i st some).bind K:=by unfold CL;split;split;rw[iq];rfl;rfl;rfl
theorem TW (T:TypeId)(ps:au (Nat×Operand))(K:AS->ax R):CE E o T ps st K=(CE E o T ps st some).bind K:=by unfold CE;split;split;split<;>rfl;rfl
theorem Ka (T:TypeId)(n:Nat)(ps:au (Nat×Operand))(K:AS->ax R):lQ E o T n ps st K=(lQ E o T n ps st some).bind K:=by unfold lQ;split;split;split;split<;>rfl;rfl;rfl
theorem L7 (T:TypeId)(n c:Operand)(K:AS->ax R):oW E o T n c st K=(oW E o T n c st some).bind K:=by unfold oW;split;split;rw[Dt];rfl;rfl;rfl
theorem Im {β:Type}(lo hi:ax Operand)(n:Nat)(k:Int->Int->ax β)(K:β->ax R):(mZ st lo hi n k).bind K=mZ st lo hi n λx y=>(k x y).bind K:=by unfold mZ;split<;>rfl
theorem Me (T:TypeId)(x:Operand)(lo hi:ax Operand)(K:AS->ax R):xP E o T x lo hi st K=(xP E o T x lo hi st some).bind K:=by unfold xP;split;split;rw[iq];rfl;rfl;rfl
theorem VT (T:TypeId)(x:Operand)(lo hi:ax Operand)(K:AS->ax R):BQ E an o T x lo hi st K=(BQ E an o T x lo hi st some).bind K:=by unfold BQ;split;exact Me T x lo hi K;split;split;rw[Im];congr 1;funext p q;rw[iq];rfl;rfl;split;rw[Im];congr 1;funext p q;rw[iq];rfl;rfl;rfl
theorem Po (src dst:TypeId)(x:Operand)(K:AS->ax R):lR E o src dst x st K=(lR E o src dst x st some).bind K:=by unfold lR;split;rfl;rfl;split;rw[Dt];rfl;rfl;split<;>rfl;rfl
theorem Pq (t i:Nat)(K:AS->ax R):lS o t i st K=(lS o t i st some).bind K:=by unfold lS;split;split<;>rfl;rfl
theorem abc (ts:au TypeId)(args:au Operand)(K:AS->ax R):N1 E o ts args st K=(N1 E o ts args st some).bind K:=by unfold N1;split;split<;>rfl;split<;>rfl;rfl
theorem abl (args:au Operand)(K:AS->ax R):PH o args st K=(PH o args st some).bind K:=by unfold PH;split<;>rfl
theorem abh (args:au Operand)(K:AS->ax R):PG o args st K=(PG o args st some).bind K:=by unfold PG;split<;>rfl
theorem W6 (ts:au TypeId)(args:au Operand)(K:AS->ax R):Qd E o ts args st K=(Qd E o ts args st some).bind K:=by unfold Qd;split;split;split;split<;>rfl;rfl;rfl;rfl
theorem Sc (S:TypeId)(t f:Nat)(K:AS->ax R):Gf E o S t f st K=(Gf E o S t f st some).bind K:=by unfold Gf;split;split;split<;>rfl;rfl;rfl
theorem RS (ts:au TypeId)(args:au Operand)(K:AS->ax R):yd E o ts args st K=(yd E o ts args st some).bind K:=by unfold yd;split;split;split;split;split;rw[Dt];rfl;rfl;rfl;split;split;rw[Dt];rfl;rfl;rfl;rfl;rfl;rfl
theorem Pn (f:Nat)(args:au Operand)(K:AS->ax R):vK Γ o f args st K=(vK Γ o f args st some).bind K:=by unfold vK;split;split;split;rw[xB,iq];congr 1;congr 1;funext y;rw[xB,xB];rfl;rfl;rfl;rfl
theorem abx (f:Nat)(args:au Operand)(K:AS->ax R):abw Γ o f args st K=(abw Γ o f args st some).bind K:=by unfold abw;split;split;rw[xB,iq];congr 1;congr 1;funext y;rw[xB];rfl;rfl;rfl
theorem W1 (f:Operand)(args:au Operand)(K:AS->ax R):EE Γ o f args st K=(EE Γ o f args st some).bind K:=by
 unfold EE;split
 ·rename_i k hk
  cases (Γ k).bx with
  |true=>exact Pn k args K
  |false=>
  simp only[ae]
  cases (Γ k).pr with
  |true=>exact abx k args K
  |false=>
  simp only[ae]
  cases (Γ k).io with
  |true=>rfl
  |false=>simp only[ae];rw[iq];congr 1;funext y;rw[xB];rfl
 rfl
theorem XK {β:Type}(op:BinOp)(k:IntKind)(x y:Int)(c:AC->ax β)(K:β->ax R):(I6 op k x y c).bind K=I6 op k x y λz=>(c z).bind K:=by unfold I6;split<;>(try rfl)<;>(split<;>rfl)
theorem YO {β:Type}(op:BinOp)(x y:au UInt8)(c:AC->ax β)(K:β->ax R):(LW op x y c).bind K=LW op x y λz=>(c z).bind K:=by unfold LW;split<;>(try rfl);rw[Dt]
theorem Gb {β:Type}(op:BinOp)(x y:AV)(c:AC->ax β)(K:β->ax R):(GQ op x y c).bind K=GQ op x y λz=>(c z).bind K:=by unfold GQ;split;split;split<;>rfl;split<;>rfl;split;rw[XK];rfl;rw[YO];split<;>rfl;split;rw[iq];rw[iq];rfl;rfl
theorem Wm {β:Type}(op:UnOp)(x:AV)(c:AC->ax β)(K:β->ax R):(unC op x c).bind K=unC op x λz=>(c z).bind K:=by unfold unC;split<;>rfl
theorem Nb {β:Type}(op:BinOp)(b:Bool)(c:AC->ax β)(K:β->ax R):(EG op b c).bind K=EG op b λz=>(c z).bind K:=by unfold EG;split<;>rfl
theorem WV (op:BinOp)(T:TypeId)(x y:Operand)(K:AS->ax R):B9 E o op T x y st K=(B9 E o op T x y st some).bind K:=by unfold B9;split;split;rw[Gb];rfl;rfl;split;split;rw[Gb];rfl;rfl;rfl;split;split;rfl;rw[Nb];rfl;rfl;split;rw[Nb];rfl;rfl;rw[Gb];rfl
theorem OU (K:AS->ax R):dg E Γ an o st K=(dg E Γ an o st some).bind K:=by unfold dg;split;exact X2 _ K;split;exact XT _ K;exact RU _ K;exact Yc _ _ _ K;exact TM _ K;exact aaf _ K;exact XW _ _ K;split;split;exact Mg _ _ _ K;exact Wd _ _ _ K;rfl;split<;>rfl;exact WV _ _ _ _ K;rw[Wm];rfl;exact T8 _ _ _ K;exact L6 _ _ _ K;exact U4 _ _ _ K;exact TW _ _ K;exact Ka _ _ _ K;exact L7 _ _ _ K;exact VT _ _ _ _ K;exact Sc _ _ _ K;exact W6 _ _ K;exact Po _ _ _ K;exact Pq _ _ K;exact abc _ _ K;exact abl _ K;exact abh _ K;exact RS _ _ K;exact W1 _ _ K;rfl
theorem rp (ops:au Oper)(K:AS->ax R):gi E Γ an ops o st K=(gi E Γ an ops o st some).bind K:=by
 unfold gi;split;exact OU K;rename_i j H4 hg;split;rename_i d hd;split;rename_i b hb
 have hgo:∀t:Bool,(if(t==H4)=true then dg E Γ an o (st.put (some d) (.one (.bool t))) K else K ((st.put (some d) (.one (.bool t))).put o.dst (.one .un)))=
  (if(t==H4)=true then dg E Γ an o (st.put (some d) (.one (.bool t))) some else some ((st.put (some d) (.one (.bool t))).put o.dst (.one .un))).bind K:=by
  intro t
  split
  ·exact OU K
  ·rfl
 cases b with|true=>exact hgo true|false=>exact hgo false
 rfl;rfl;rfl
theorem Q6 (ops:au Oper):∀(l:au Oper)(st:AS)(K:AS->ax R),SV E Γ an ops l st K=(SV E Γ an ops l st some).bind K
 |[],st,K=>rfl
 |o::l,st,K=>by simp only[SV];rw[rp,rp (K:=λbM=>SV E Γ an ops l bM some),Option.bind_assoc];congr 1;funext bM;exact Q6 ops l bM K
end Go.Dn
