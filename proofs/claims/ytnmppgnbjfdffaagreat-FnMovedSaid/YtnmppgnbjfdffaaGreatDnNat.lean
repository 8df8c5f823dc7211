import Derived.Test.YtnmppgnbjfdffaaGreatDnBase
/- The abstract steps, without their continuations. -/
namespace Go.Dn
variable {R:Type} {E:Env} {Γ:xT} {an:An} {o:Oper} {st:AS}
theorem JL {α β:Type}{x:ax α}{k:α->ax β}{z:β}(h:aa x k=some z):∃y,x=some y/\k y=some z:=by cases x with|none=>cases h|some y=>exact⟨y,rfl,h⟩
theorem ia {α β:Type}(x:ax α)(k:α->ax β)(K:β->ax R):(aa x k).bind K=aa x λy=>(k y).bind K:=by cases x<;>rfl
theorem AD {β:Type}(n:Nat)(k:ax β)(K:β->ax R):(room n k).bind K=room n (k.bind K):=by unfold room;split<;>rfl
theorem uO {β:Type}(b:Bool)(x y:ax β)(K:β->ax R):(cond b x y).bind K=cond b (x.bind K) (y.bind K):=by cases b<;>rfl
theorem VE (x:Operand)(K:AS->ax R):Ay an o x st K=(Ay an o x st some).bind K:=by unfold Ay;split;split<;>rfl;rfl
theorem Vv (x:Operand)(K:AS->ax R):NB o x st K=(NB o x st some).bind K:=by unfold NB;split<;>rfl
theorem Ji (T:TypeId)(p x:Operand)(K:AS->ax R):vj E T p x st K=(vj E T p x st some).bind K:=by unfold vj;split;split;split;split;split<;>rfl;rfl;rfl;rfl;rfl
theorem Oo (x:Operand)(K:AS->ax R):tk E an o x st K=(tk E an o x st some).bind K:=by unfold tk;split;split<;>rfl;rfl
theorem VQ (c x y:Operand)(K:AS->ax R):CI o c x y st K=(CI o c x y st some).bind K:=by unfold CI;split;split;rfl;rw[uO];rfl;rfl
theorem QE (T:TypeId)(K:AS->ax R):AK E o T st K=(AK E o T st some).bind K:=by unfold AK;split;split<;>rfl;rfl
theorem XZ (x:Operand)(K:AS->ax R):Ou o x st K=(Ou o x st some).bind K:=by unfold Ou;split;split;split<;>rfl;rfl;rfl
theorem Tk (sh:Shape)(fl:pE)(e:CT)(i:Int)(off:Nat)(K:AS->ax R):Bw o sh fl e i off st K=(Bw o sh fl e i off st some).bind K:=by unfold Bw;split;split;split;split;rw[ia];rfl;rfl;rfl;rfl;rfl
theorem MM (sh:Shape)(fl:pE)(e:CT)(i:Int)(off:Nat)(K:AS->ax R):wF o sh fl e i off st K=(wF o sh fl e i off st some).bind K:=by unfold wF;split;split;split;split;rw[ia];rfl;rfl;rfl;rfl;rfl
theorem Vy (T:TypeId)(p:Operand)(K:AS->ax R):oh E an o T p st K=(oh E an o T p st some).bind K:=by unfold oh;split;split;split;split;split<;>rfl;rfl;rfl;rfl;split;exact MM _ _ _ _ _ K;split;split<;>rfl;exact Tk _ _ _ _ _ K;rfl
theorem MJ (r:ka)(t:Nat)(e:CT)(i:Int)(off:Nat)(vs:aw AC)(K:AS->ax R):st.oz r t e i off vs K=(st.oz r t e i off vs some).bind K:=by unfold AS.oz;split;split;split;rw[ia];congr 1;funext y;split<;>rfl;rfl;rfl;split;split;rw[ia];congr 1;funext y;split<;>rfl;rfl;rfl;rfl
theorem Tl (T:TypeId)(p x:Operand)(K:AS->ax R):vi E T p x st K=(vi E T p x st some).bind K:=by unfold vi;split;split;split;split;split<;>rfl;rfl;rfl;rfl;split;split;rw[MJ];rfl;rfl;rfl
theorem Q6 (S:TypeId)(p:Operand)(f:Nat)(K:AS->ax R):ym E o S p f st K=(ym E o S p f st some).bind K:=by unfold ym;split;split<;>rfl;split<;>rfl;rfl
theorem Jb (T:TypeId)(x i:Operand)(K:AS->ax R):lS E o T x i st K=(lS E o T x i st some).bind K:=by unfold lS;split;split;rw[ia];rfl;rfl;rfl
theorem R6 (T:TypeId)(x i:Operand)(K:AS->ax R):zS E o T x i st K=(zS E o T x i st some).bind K:=by unfold zS;split;split;rw[ia];rfl;rfl;rfl
theorem QQ (T:TypeId)(ps:aw (Nat×Operand))(K:AS->ax R):zJ E o T ps st K=(zJ E o T ps st some).bind K:=by unfold zJ;split;split;split<;>rfl;rfl
theorem GZ (T:TypeId)(n:Nat)(ps:aw (Nat×Operand))(K:AS->ax R):lf E o T n ps st K=(lf E o T n ps st some).bind K:=by unfold lf;split;split;split;split<;>rfl;rfl;rfl
theorem Jc (T:TypeId)(n c:Operand)(K:AS->ax R):nJ E o T n c st K=(nJ E o T n c st some).bind K:=by unfold nJ;split;split;rw[AD];rfl;rfl;rfl
theorem Fp {β:Type}(lo hi:ax Operand)(n:Nat)(k:Int->Int->ax β)(K:β->ax R):(me st lo hi n k).bind K=me st lo hi n λx y=>(k x y).bind K:=by unfold me;split<;>rfl
theorem Jh (T:TypeId)(x:Operand)(lo hi:ax Operand)(K:AS->ax R):uX E o T x lo hi st K=(uX E o T x lo hi st some).bind K:=by unfold uX;split;split;rw[ia];rfl;rfl;rfl
theorem Tc (T:TypeId)(x:Operand)(lo hi:ax Operand)(K:AS->ax R):yJ E an o T x lo hi st K=(yJ E an o T x lo hi st some).bind K:=by unfold yJ;split;exact Jh T x lo hi K;split;split;rw[Fp];congr 1;funext p q;rw[ia];rfl;rfl;split;rw[Fp];congr 1;funext p q;rw[ia];rfl;rfl;rfl
theorem Md (src dst:TypeId)(x:Operand)(K:AS->ax R):lh E o src dst x st K=(lh E o src dst x st some).bind K:=by unfold lh;split;rfl;rfl;split;rw[AD];rfl;rfl;split<;>rfl;rfl
theorem Me (t i:Nat)(K:AS->ax R):ll o t i st K=(ll o t i st some).bind K:=by unfold ll;split;split<;>rfl;rfl
theorem Zj (ts:aw TypeId)(args:aw Operand)(K:AS->ax R):KU E o ts args st K=(KU E o ts args st some).bind K:=by unfold KU;split;split<;>rfl;split<;>rfl;rfl
theorem Zv (args:aw Operand)(K:AS->ax R):Mw o args st K=(Mw o args st some).bind K:=by unfold Mw;split<;>rfl
theorem Zq (args:aw Operand)(K:AS->ax R):Mv o args st K=(Mv o args st some).bind K:=by unfold Mv;split<;>rfl
theorem Ua (ts:aw TypeId)(args:aw Operand)(K:AS->ax R):MV E o ts args st K=(MV E o ts args st some).bind K:=by unfold MV;split;split;split;split<;>rfl;rfl;rfl;rfl
theorem O2 (S:TypeId)(t f:Nat)(K:AS->ax R):Dg E o S t f st K=(Dg E o S t f st some).bind K:=by unfold Dg;split;split;split<;>rfl;rfl;rfl
theorem Om (ts:aw TypeId)(args:aw Operand)(K:AS->ax R):vo E o ts args st K=(vo E o ts args st some).bind K:=by unfold vo;split;split;split;split;split;rw[AD];rfl;rfl;rfl;split;split;rw[AD];rfl;rfl;rfl;rfl;rfl;rfl
theorem Mc (f:Nat)(args:aw Operand)(K:AS->ax R):tn Γ o f args st K=(tn Γ o f args st some).bind K:=by unfold tn;split;split;split;rw[uO,ia];congr 1;congr 1;funext y;rw[uO,uO];rfl;rfl;rfl;rfl
theorem ZH (f:Nat)(args:aw Operand)(K:AS->ax R):ZG Γ o f args st K=(ZG Γ o f args st some).bind K:=by unfold ZG;split;split;rw[uO,ia];congr 1;congr 1;funext y;rw[uO];rfl;rfl;rfl
theorem T5 (f:Operand)(args:aw Operand)(K:AS->ax R):BK Γ o f args st K=(BK Γ o f args st some).bind K:=by
 unfold BK;split
 ·rename_i k hk
  cases (Γ k).bx with
  |true=>exact Mc k args K
  |false=>
  simp only[af]
  cases (Γ k).pr with
  |true=>exact ZH k args K
  |false=>
  simp only[af]
  cases (Γ k).io with
  |true=>rfl
  |false=>simp only[af];rw[ia];congr 1;funext y;rw[uO];rfl
 rfl
theorem Vm {β:Type}(op:BinOp)(k:IntKind)(x y:Int)(c:AC->ax β)(K:β->ax R):(F5 op k x y c).bind K=F5 op k x y λz=>(c z).bind K:=by unfold F5;split<;>(try rfl)<;>(split<;>rfl)
theorem Wq {β:Type}(op:BinOp)(x y:aw UInt8)(c:AC->ax β)(K:β->ax R):(IM op x y c).bind K=IM op x y λz=>(c z).bind K:=by unfold IM;split<;>(try rfl);rw[AD]
theorem Dd {β:Type}(op:BinOp)(x y:AV)(c:AC->ax β)(K:β->ax R):(DM op x y c).bind K=DM op x y λz=>(c z).bind K:=by unfold DM;split;split;split<;>rfl;split<;>rfl;split;rw[Vm];rfl;rw[Wq];split<;>rfl;split;rw[ia];rw[ia];rfl;rfl
theorem Tw {β:Type}(op:UnOp)(x:AV)(c:AC->ax β)(K:β->ax R):(unC op x c).bind K=unC op x λz=>(c z).bind K:=by unfold unC;split<;>rfl
theorem J6 {β:Type}(op:BinOp)(b:Bool)(c:AC->ax β)(K:β->ax R):(BL op b c).bind K=BL op b λz=>(c z).bind K:=by unfold BL;split<;>rfl
theorem TX (op:BinOp)(T:TypeId)(x y:Operand)(K:AS->ax R):yV E o op T x y st K=(yV E o op T x y st some).bind K:=by unfold yV;split;split;rw[Dd];rfl;rfl;split;split;rw[Dd];rfl;rfl;rfl;split;split;rfl;rw[J6];rfl;rfl;split;rw[J6];rfl;rfl;rw[Dd];rfl
theorem LL (K:AS->ax R):cY E Γ an o st K=(cY E Γ an o st some).bind K:=by unfold cY;split;exact VE _ K;split;exact Vv _ K;exact Oo _ K;exact VQ _ _ _ K;exact QE _ K;exact XZ _ K;exact Vy _ _ K;split;split;exact Ji _ _ _ K;exact Tl _ _ _ K;rfl;split<;>rfl;exact TX _ _ _ _ K;rw[Tw];rfl;exact Q6 _ _ _ K;exact Jb _ _ _ K;exact R6 _ _ _ K;exact QQ _ _ K;exact GZ _ _ _ K;exact Jc _ _ _ K;exact Tc _ _ _ _ K;exact O2 _ _ _ K;exact Ua _ _ K;exact Md _ _ _ K;exact Me _ _ K;exact Zj _ _ K;exact Zv _ K;exact Zq _ K;exact Om _ _ K;exact T5 _ _ K;rfl
theorem pM (ops:aw Oper)(K:AS->ax R):gb E Γ an ops o st K=(gb E Γ an ops o st some).bind K:=by
 unfold gb;split;exact LL K;rename_i j E5 hg;split;rename_i d hd;split;rename_i b hb
 have Yu:∀t:Bool,(if(t==E5)=true then cY E Γ an o (st.put (some d) (.one (.bool t))) K else K ((st.put (some d) (.one (.bool t))).put o.dst (.one .un)))=
  (if(t==E5)=true then cY E Γ an o (st.put (some d) (.one (.bool t))) some else some ((st.put (some d) (.one (.bool t))).put o.dst (.one .un))).bind K:=by
  intro t
  split
  ·exact LL K
  ·rfl
 cases b with|true=>exact Yu true|false=>exact Yu false
 rfl;rfl;rfl
theorem NS (ops:aw Oper):∀(l:aw Oper)(st:AS)(K:AS->ax R),PN E Γ an ops l st K=(PN E Γ an ops l st some).bind K
 |[],st,K=>rfl
 |o::l,st,K=>by simp only[PN];rw[pM,pM (K:=λbH=>PN E Γ an ops l bH some),Option.bind_assoc];congr 1;funext bH;exact NS ops l bH K
end Go.Dn
