import Derived.Test.YtainmjjkipbciaaGreatDnBase
/- The abstract steps, without their continuations. -/
namespace Go.Dn
variable {R:Type} {E:Env} {Γ:eE} {an:An} {o:Oper} {st:AS}
theorem H9 {α β:Type}{x:aB α}{k:α->aB β}{z:β}(h:aa x k=some z):∃y,x=some y/\k y=some z:=by cases x with|none=>cases h|some y=>exact⟨y,rfl,h⟩
theorem iD {α β:Type}(x:aB α)(k:α->aB β)(K:β->aB R):(aa x k).bind K=aa x λy=>(k y).bind K:=by cases x<;>rfl
theorem zN {β:Type}(n:Nat)(k:aB β)(K:β->aB R):(room n k).bind K=room n (k.bind K):=by unfold room;split<;>rfl
theorem uA {β:Type}(b:Bool)(x y:aB β)(K:β->aB R):(cond b x y).bind K=cond b (x.bind K) (y.bind K):=by cases b<;>rfl
theorem Ty (x:Operand)(K:AS->aB R):zK an o x st K=(zK an o x st some).bind K:=by unfold zK;split;split<;>rfl;rfl
theorem Tm (x:Operand)(K:AS->aB R):L6 o x st K=(L6 o x st some).bind K:=by unfold L6;split<;>rfl
theorem HG (T:TypeId)(p x:Operand)(K:AS->aB R):uU E T p x st K=(uU E T p x st some).bind K:=by unfold uU;split;split;split;split;split<;>rfl;rfl;rfl;rfl;rfl
theorem MS (x:Operand)(K:AS->aB R):tf E an o x st K=(tf E an o x st some).bind K:=by unfold tf;split;split<;>rfl;rfl
theorem TK (c x y:Operand)(K:AS->aB R):BO o c x y st K=(BO o c x y st some).bind K:=by unfold BO;split;split;rfl;rw[uA];rfl;rfl
theorem O5 (T:TypeId)(K:AS->aB R):zU E o T st K=(zU E o T st some).bind K:=by unfold zU;split;split<;>rfl;rfl
theorem VZ (x:Operand)(K:AS->aB R):MV o x st K=(MV o x st some).bind K:=by unfold MV;split;split;split<;>rfl;rfl;rfl
theorem RS (sh:Shape)(fl:pH)(e:CT)(i:Int)(off:Nat)(K:AS->aB R):AG o sh fl e i off st K=(AG o sh fl e i off st some).bind K:=by unfold AG;split;split;split;split;rw[iD];rfl;rfl;rfl;rfl;rfl
theorem Lk (sh:Shape)(fl:pH)(e:CT)(i:Int)(off:Nat)(K:AS->aB R):wo o sh fl e i off st K=(wo o sh fl e i off st some).bind K:=by unfold wo;split;split;split;split;rw[iD];rfl;rfl;rfl;rfl;rfl
theorem Ts (T:TypeId)(p:Operand)(K:AS->aB R):oy E an o T p st K=(oy E an o T p st some).bind K:=by unfold oy;split;split;split;split;split<;>rfl;rfl;rfl;rfl;split;exact Lk _ _ _ _ _ K;split;split<;>rfl;exact RS _ _ _ _ _ K;rfl
theorem Lh (r:kv)(t:Nat)(e:CT)(i:Int)(off:Nat)(vs:ax AC)(K:AS->aB R):st.oH r t e i off vs K=(st.oH r t e i off vs some).bind K:=by unfold AS.oH;split;split;split;rw[iD];congr 1;funext y;split<;>rfl;rfl;rfl;split;split;rw[iD];congr 1;funext y;split<;>rfl;rfl;rfl;rfl
theorem RT (T:TypeId)(p x:Operand)(K:AS->aB R):uT E T p x st K=(uT E T p x st some).bind K:=by unfold uT;split;split;split;split;split<;>rfl;rfl;rfl;rfl;split;split;rw[Lh];rfl;rfl;rfl
theorem PI (S:TypeId)(p:Operand)(f:Nat)(K:AS->aB R):xQ E o S p f st K=(xQ E o S p f st some).bind K:=by unfold xQ;split;split<;>rfl;split<;>rfl;rfl
theorem Hx (T:TypeId)(x i:Operand)(K:AS->aB R):lZ E o T x i st K=(lZ E o T x i st some).bind K:=by unfold lZ;split;split;rw[iD];rfl;rfl;rfl
theorem Qr (T:TypeId)(x i:Operand)(K:AS->aB R):yV E o T x i st K=(yV E o T x i st some).bind K:=by unfold yV;split;split;rw[iD];rfl;rfl;rfl
theorem Ph (T:TypeId)(ps:ax (Nat×Operand))(K:AS->aB R):yR E o T ps st K=(yR E o T ps st some).bind K:=by unfold yR;split;split;split<;>rfl;rfl
theorem Fu (T:TypeId)(n:Nat)(ps:ax (Nat×Operand))(K:AS->aB R):ll E o T n ps st K=(ll E o T n ps st some).bind K:=by unfold ll;split;split;split;split<;>rfl;rfl;rfl
theorem Hy (T:TypeId)(n c:Operand)(K:AS->aB R):nU E o T n c st K=(nU E o T n c st some).bind K:=by unfold nU;split;split;rw[zN];rfl;rfl;rfl
theorem D6 {β:Type}(lo hi:aB Operand)(n:Nat)(k:Int->Int->aB β)(K:β->aB R):(mr st lo hi n k).bind K=mr st lo hi n λx y=>(k x y).bind K:=by unfold mr;split<;>rfl
theorem HF (T:TypeId)(x:Operand)(lo hi:aB Operand)(K:AS->aB R):uM E o T x lo hi st K=(uM E o T x lo hi st some).bind K:=by unfold uM;split;split;rw[iD];rfl;rfl;rfl
theorem RK (T:TypeId)(x:Operand)(lo hi:aB Operand)(K:AS->aB R):yi E an o T x lo hi st K=(yi E an o T x lo hi st some).bind K:=by unfold yi;split;exact HF T x lo hi K;split;split;rw[D6];congr 1;funext p q;rw[iD];rfl;rfl;split;rw[D6];congr 1;funext p q;rw[iD];rfl;rfl;rfl
theorem KS (src dst:TypeId)(x:Operand)(K:AS->aB R):lq E o src dst x st K=(lq E o src dst x st some).bind K:=by unfold lq;split;rfl;rfl;split;rw[zN];rfl;rfl;split<;>rfl;rfl
theorem KT (t i:Nat)(K:AS->aB R):lu o t i st K=(lu o t i st some).bind K:=by unfold lu;split;split<;>rfl;rfl
theorem WW (ts:ax TypeId)(args:ax Operand)(K:AS->aB R):JF E o ts args st K=(JF E o ts args st some).bind K:=by unfold JF;split;split<;>rfl;split<;>rfl;rfl
theorem Xa (args:ax Operand)(K:AS->aB R):K3 o args st K=(K3 o args st some).bind K:=by unfold K3;split<;>rfl
theorem W6 (args:ax Operand)(K:AS->aB R):K2 o args st K=(K2 o args st some).bind K:=by unfold K2;split<;>rfl
theorem SA (ts:ax TypeId)(args:ax Operand)(K:AS->aB R):Lv E o ts args st K=(Lv E o ts args st some).bind K:=by unfold Lv;split;split;split;split<;>rfl;rfl;rfl;rfl
theorem NU (S:TypeId)(t f:Nat)(K:AS->aB R):Cn E o S t f st K=(Cn E o S t f st some).bind K:=by unfold Cn;split;split;split<;>rfl;rfl;rfl
theorem MQ (ts:ax TypeId)(args:ax Operand)(K:AS->aB R):uY E o ts args st K=(uY E o ts args st some).bind K:=by unfold uY;split;split;split;split;split;rw[zN];rfl;rfl;rfl;split;split;rw[zN];rfl;rfl;rfl;rfl;rfl;rfl
theorem KR (f:Nat)(args:ax Operand)(K:AS->aB R):th Γ o f args st K=(th Γ o f args st some).bind K:=by unfold th;split;split;split;rw[uA,iD];congr 1;congr 1;funext y;rw[uA,uA];rfl;rfl;rfl;rfl
theorem Xm (f:Nat)(args:ax Operand)(K:AS->aB R):Xl Γ o f args st K=(Xl Γ o f args st some).bind K:=by unfold Xl;split;split;rw[uA,iD];congr 1;congr 1;funext y;rw[uA];rfl;rfl;rfl
theorem Sw (f:Operand)(args:ax Operand)(K:AS->aB R):Ba Γ o f args st K=(Ba Γ o f args st some).bind K:=by
 unfold Ba;split
 ·rename_i k hk
  cases (Γ k).bx with
  |true=>exact KR k args K
  |false=>
  simp only[af]
  cases (Γ k).pr with
  |true=>exact Xm k args K
  |false=>
  simp only[af]
  cases (Γ k).io with
  |true=>rfl
  |false=>simp only[af];rw[iD];congr 1;funext y;rw[uA];rfl
 rfl
theorem Te {β:Type}(op:BinOp)(k:IntKind)(x y:Int)(c:AC->aB β)(K:β->aB R):(EF op k x y c).bind K=EF op k x y λz=>(c z).bind K:=by unfold EF;split<;>(try rfl)<;>(split<;>rfl)
theorem Ui {β:Type}(op:BinOp)(x y:ax UInt8)(c:AC->aB β)(K:β->aB R):(Hc op x y c).bind K=Hc op x y λz=>(c z).bind K:=by unfold Hc;split<;>(try rfl);rw[zN]
theorem Cl {β:Type}(op:BinOp)(x y:AV)(c:AC->aB β)(K:β->aB R):(CN op x y c).bind K=CN op x y λz=>(c z).bind K:=by unfold CN;split;split;split<;>rfl;split<;>rfl;split;rw[Te];rfl;rw[Ui];split<;>rfl;split;rw[iD];rw[iD];rfl;rfl
theorem R5 {β:Type}(op:UnOp)(x:AV)(c:AC->aB β)(K:β->aB R):(unC op x c).bind K=unC op x λz=>(c z).bind K:=by unfold unC;split<;>rfl
theorem IW {β:Type}(op:BinOp)(b:Bool)(c:AC->aB β)(K:β->aB R):(Bc op b c).bind K=Bc op b λz=>(c z).bind K:=by unfold Bc;split<;>rfl
theorem Sp (op:BinOp)(T:TypeId)(x y:Operand)(K:AS->aB R):yq E o op T x y st K=(yq E o op T x y st some).bind K:=by unfold yq;split;split;rw[Cl];rfl;rfl;split;split;rw[Cl];rfl;rfl;rfl;split;split;rfl;rw[IW];rfl;rfl;split;rw[IW];rfl;rfl;rw[Cl];rfl
theorem Kv (K:AS->aB R):dq E Γ an o st K=(dq E Γ an o st some).bind K:=by unfold dq;split;exact Ty _ K;split;exact Tm _ K;exact MS _ K;exact TK _ _ _ K;exact O5 _ K;exact VZ _ K;exact Ts _ _ K;split;split;exact HG _ _ _ K;exact RT _ _ _ K;rfl;split<;>rfl;exact Sp _ _ _ _ K;rw[R5];rfl;exact PI _ _ _ K;exact Hx _ _ _ K;exact Qr _ _ _ K;exact Ph _ _ K;exact Fu _ _ _ K;exact Hy _ _ _ K;exact RK _ _ _ _ K;exact NU _ _ _ K;exact SA _ _ K;exact KS _ _ _ K;exact KT _ _ K;exact WW _ _ K;exact Xa _ K;exact W6 _ K;exact MQ _ _ K;exact Sw _ _ K;rfl
theorem pN (ops:ax Oper)(K:AS->aB R):gQ E Γ an ops o st K=(gQ E Γ an ops o st some).bind K:=by
 unfold gQ;split;exact Kv K;rename_i j want hg;split;rename_i d hd;split;rename_i b hb
 have hgo:∀t:Bool,(if(t==want)=true then dq E Γ an o (st.put (some d) (.one (.bool t))) K else K ((st.put (some d) (.one (.bool t))).put o.dst (.one .un)))=
  (if(t==want)=true then dq E Γ an o (st.put (some d) (.one (.bool t))) some else some ((st.put (some d) (.one (.bool t))).put o.dst (.one .un))).bind K:=by
  intro t
  split
  ·exact Kv K
  ·rfl
 cases b with|true=>exact hgo true|false=>exact hgo false
 rfl;rfl;rfl
theorem Mk (ops:ax Oper):∀(l:ax Oper)(st:AS)(K:AS->aB R),Oi E Γ an ops l st K=(Oi E Γ an ops l st some).bind K
 |[],st,K=>rfl
 |o::l,st,K=>by simp only[Oi];rw[pN,pN (K:=λst'=>Oi E Γ an ops l st' some),Option.bind_assoc];congr 1;funext st';exact Mk ops l st' K
end Go.Dn
