import Derived.Test.YtbebkmajekhclaaGreatDnBase
/- The abstract steps, without their continuations. -/
namespace Go.Dn
variable {R:Type} {E:Env} {Γ:BA} {an:An} {o:Oper} {st:AS}
theorem N4 {α β:Type}{x:ay α}{k:α->ay β}{z:β}(h:aa x k=some z):∃y,x=some y/\k y=some z:=by cases x with|none=>cases h|some y=>exact⟨y,rfl,h⟩
theorem iX {α β:Type}(x:ay α)(k:α->ay β)(K:β->ay R):(aa x k).bind K=aa x λy=>(k y).bind K:=by cases x<;>rfl
theorem D1 {β:Type}(n:Nat)(k:ay β)(K:β->ay R):(room n k).bind K=room n (k.bind K):=by unfold room;split<;>rfl
theorem xN {β:Type}(b:Bool)(x y:ay β)(K:β->ay R):(cond b x y).bind K=cond b (x.bind K) (y.bind K):=by cases b<;>rfl
theorem abV (x:Operand)(K:AS->ay R):DW an o x st K=(DW an o x st some).bind K:=by unfold DW;split;split<;>rfl;rfl
theorem abM (x:Operand)(K:AS->ay R):Sw o x st K=(Sw o x st some).bind K:=by unfold Sw;split<;>rfl
theorem Nv (T:TypeId)(p x:Operand)(K:AS->ay R):yo E T p x st K=(yo E T p x st some).bind K:=by unfold yo;split;split;split;split;split<;>rfl;rfl;rfl;rfl;rfl
theorem TB (x:Operand)(K:AS->ay R):wb E an o x st K=(wb E an o x st some).bind K:=by unfold wb;split;split<;>rfl;rfl
theorem ab6 (c x y:Operand)(K:AS->ay R):Ga o c x y st K=(Ga o c x y st some).bind K:=by unfold Ga;split;split;rfl;rw[xN];rfl;rfl
theorem VV (T:TypeId)(K:AS->ay R):Ea E o T st K=(Ea E o T st some).bind K:=by unfold Ea;split;split<;>rfl;rfl
theorem aex (x:Operand)(K:AS->ay R):TF o x st K=(TF o x st some).bind K:=by unfold TF;split;split;split<;>rfl;rfl;rfl
theorem Zd (sh:Shape)(fl:rE)(e:CT)(i:Int)(off:Nat)(K:AS->ay R):EJ o sh fl e i off st K=(EJ o sh fl e i off st some).bind K:=by unfold EJ;split;split;split;split;rw[iX];rfl;rfl;rfl;rfl;rfl
theorem Ru (sh:Shape)(fl:rE)(e:CT)(i:Int)(off:Nat)(K:AS->ay R):zU o sh fl e i off st K=(zU o sh fl e i off st some).bind K:=by unfold zU;split;split;split;split;rw[iX];rfl;rfl;rfl;rfl;rfl
theorem abP (T:TypeId)(p:Operand)(K:AS->ay R):qj E an o T p st K=(qj E an o T p st some).bind K:=by unfold qj;split;split;split;split;split<;>rfl;rfl;rfl;rfl;split;exact Ru _ _ _ _ _ K;split;split<;>rfl;exact Zd _ _ _ _ _ K;rfl
theorem Rq (r:lh)(t:Nat)(e:CT)(i:Int)(off:Nat)(vs:aw AC)(K:AS->ay R):st.qx r t e i off vs K=(st.qx r t e i off vs some).bind K:=by unfold AS.qx;split;split;split;rw[iX];congr 1;funext y;split<;>rfl;rfl;rfl;split;split;rw[iX];congr 1;funext y;split<;>rfl;rfl;rfl;rfl
theorem Zg (T:TypeId)(p x:Operand)(K:AS->ay R):yn E T p x st K=(yn E T p x st some).bind K:=by unfold yn;split;split;split;split;split<;>rfl;rfl;rfl;rfl;split;split;rw[Rq];rfl;rfl;rfl
theorem Wx (S:TypeId)(p:Operand)(f:Nat)(K:AS->ay R):BJ E o S p f st K=(BJ E o S p f st some).bind K:=by unfold BJ;split;split<;>rfl;split<;>rfl;rfl
theorem Nl (T:TypeId)(x i:Operand)(K:AS->ay R):np E o T x i st K=(np E o T x i st some).bind K:=by unfold np;split;split;rw[iX];rfl;rfl;rfl
theorem XI (T:TypeId)(x i:Operand)(K:AS->ay R):Dk E o T x i st K=(Dk E o T x i st some).bind K:=by unfold Dk;split;split;rw[iX];rfl;rfl;rfl
theorem V7 (T:TypeId)(ps:aw (Nat×Operand))(K:AS->ay R):C9 E o T ps st K=(C9 E o T ps st some).bind K:=by unfold C9;split;split;split<;>rfl;rfl
theorem KQ (T:TypeId)(n:Nat)(ps:aw (Nat×Operand))(K:AS->ay R):mF E o T n ps st K=(mF E o T n ps st some).bind K:=by unfold mF;split;split;split;split<;>rfl;rfl;rfl
theorem Nm (T:TypeId)(n c:Operand)(K:AS->ay R):pK E o T n c st K=(pK E o T n c st some).bind K:=by unfold pK;split;split;rw[D1];rfl;rfl;rfl
theorem I7 {β:Type}(lo hi:ay Operand)(n:Nat)(k:Int->Int->ay β)(K:β->ay R):(nE st lo hi n k).bind K=nE st lo hi n λx y=>(k x y).bind K:=by unfold nE;split<;>rfl
theorem Nt (T:TypeId)(x:Operand)(lo hi:ay Operand)(K:AS->ay R):ye E o T x lo hi st K=(ye E o T x lo hi st some).bind K:=by unfold ye;split;split;rw[iX];rfl;rfl;rfl
theorem YS (T:TypeId)(x:Operand)(lo hi:ay Operand)(K:AS->ay R):Ce E an o T x lo hi st K=(Ce E an o T x lo hi st some).bind K:=by unfold Ce;split;exact Nt T x lo hi K;split;split;rw[I7];congr 1;funext p q;rw[iX];rfl;rfl;split;rw[I7];congr 1;funext p q;rw[iX];rfl;rfl;rfl
theorem QT (src dst:TypeId)(x:Operand)(K:AS->ay R):mI E o src dst x st K=(mI E o src dst x st some).bind K:=by unfold mI;split;rfl;rfl;split;rw[D1];rfl;rfl;split<;>rfl;rfl
theorem QU (t i:Nat)(K:AS->ay R):mM o t i st K=(mM o t i st some).bind K:=by unfold mM;split;split<;>rfl;rfl
theorem afC (ts:aw TypeId)(args:aw Operand)(K:AS->ay R):Pt E o ts args st K=(Pt E o ts args st some).bind K:=by unfold Pt;split;split<;>rfl;split<;>rfl;rfl
theorem afM (args:aw Operand)(K:AS->ay R):Ra o args st K=(Ra o args st some).bind K:=by unfold Ra;split<;>rfl
theorem afI (args:aw Operand)(K:AS->ay R):Q9 o args st K=(Q9 o args st some).bind K:=by unfold Q9;split<;>rfl
theorem aaf (ts:aw TypeId)(args:aw Operand)(K:AS->ay R):RF E o ts args st K=(RF E o ts args st some).bind K:=by unfold RF;split;split;split;split<;>rfl;rfl;rfl;rfl
theorem Uj (S:TypeId)(t f:Nat)(K:AS->ay R):GM E o S t f st K=(GM E o S t f st some).bind K:=by unfold GM;split;split;split<;>rfl;rfl;rfl
theorem Tz (ts:aw TypeId)(args:aw Operand)(K:AS->ay R):yr E o ts args st K=(yr E o ts args st some).bind K:=by unfold yr;split;split;split;split;split;rw[D1];rfl;rfl;rfl;split;split;rw[D1];rfl;rfl;rfl;rfl;rfl;rfl
theorem QP (f:Nat)(args:aw Operand)(K:AS->ay R):wc Γ o f args st K=(wc Γ o f args st some).bind K:=by unfold wc;split;split;split;rw[xN,iX];congr 1;congr 1;funext y;rw[xN,xN];rfl;rfl;rfl;rfl
theorem afX (f:Nat)(args:aw Operand)(K:AS->ay R):afW Γ o f args st K=(afW Γ o f args st some).bind K:=by unfold afW;split;split;rw[xN,iX];congr 1;congr 1;funext y;rw[xN];rfl;rfl;rfl
theorem Z7 (f:Operand)(args:aw Operand)(K:AS->ay R):E4 Γ o f args st K=(E4 Γ o f args st some).bind K:=by
 unfold E4;split
 ·rename_i k hk
  cases (Γ k).bx with
  |true=>exact QP k args K
  |false=>
  simp only[af]
  cases (Γ k).pr with
  |true=>exact afX k args K
  |false=>
  simp only[af]
  cases (Γ k).io with
  |true=>rfl
  |false=>simp only[af];rw[iX];congr 1;funext y;rw[xN];rfl
 rfl
theorem abD {β:Type}(op:BinOp)(k:IntKind)(x y:Int)(c:AC->ay β)(K:β->ay R):(JT op k x y c).bind K=JT op k x y λz=>(c z).bind K:=by unfold JT;split<;>(try rfl)<;>(split<;>rfl)
theorem acM {β:Type}(op:BinOp)(x y:aw UInt8)(c:AC->ay β)(K:β->ay R):(MK op x y c).bind K=MK op x y λz=>(c z).bind K:=by unfold MK;split<;>(try rfl);rw[D1]
theorem GJ {β:Type}(op:BinOp)(x y:AV)(c:AC->ay β)(K:β->ay R):(Hm op x y c).bind K=Hm op x y λz=>(c z).bind K:=by unfold Hm;split;split;split<;>rfl;split<;>rfl;split;rw[abD];rfl;rw[acM];split<;>rfl;split;rw[iX];rw[iX];rfl;rfl
theorem Zt {β:Type}(op:UnOp)(x:AV)(c:AC->ay β)(K:β->ay R):(unC op x c).bind K=unC op x λz=>(c z).bind K:=by unfold unC;split<;>rfl
theorem Oy {β:Type}(op:BinOp)(b:Bool)(c:AC->ay β)(K:β->ay R):(E5 op b c).bind K=E5 op b λz=>(c z).bind K:=by unfold E5;split<;>rfl
theorem ZX (op:BinOp)(T:TypeId)(x y:Operand)(K:AS->ay R):Cz E o op T x y st K=(Cz E o op T x y st some).bind K:=by unfold Cz;split;split;rw[GJ];rfl;rfl;split;split;rw[GJ];rfl;rfl;rfl;split;split;rfl;rw[Oy];rfl;rfl;split;rw[Oy];rfl;rfl;rw[GJ];rfl
theorem Qm (K:AS->ay R):cW E Γ an o st K=(cW E Γ an o st some).bind K:=by unfold cW;split;exact abV _ K;split;exact abM _ K;exact TB _ K;exact ab6 _ _ _ K;exact VV _ K;exact aex _ K;exact abP _ _ K;split;split;exact Nv _ _ _ K;exact Zg _ _ _ K;rfl;split<;>rfl;exact ZX _ _ _ _ K;rw[Zt];rfl;exact Wx _ _ _ K;exact Nl _ _ _ K;exact XI _ _ _ K;exact V7 _ _ K;exact KQ _ _ _ K;exact Nm _ _ _ K;exact YS _ _ _ _ K;exact Uj _ _ _ K;exact aaf _ _ K;exact QT _ _ _ K;exact QU _ _ K;exact afC _ _ K;exact afM _ K;exact afI _ K;exact Tz _ _ K;exact Z7 _ _ K;rfl
theorem rO (ops:aw Oper)(K:AS->ay R):gX E Γ an ops o st K=(gX E Γ an ops o st some).bind K:=by
 unfold gX;split;exact Qm K;rename_i j IM hg;split;rename_i d hd;split;rename_i b hb
 have hgo:∀t:Bool,(if(t==IM)=true then cW E Γ an o (st.put (some d) (.one (.bool t))) K else K ((st.put (some d) (.one (.bool t))).put o.dst (.one .un)))=
  (if(t==IM)=true then cW E Γ an o (st.put (some d) (.one (.bool t))) some else some ((st.put (some d) (.one (.bool t))).put o.dst (.one .un))).bind K:=by
  intro t
  split
  ·exact Qm K
  ·rfl
 cases b with|true=>exact hgo true|false=>exact hgo false
 rfl;rfl;rfl
theorem SL (ops:aw Oper):∀(l:aw Oper)(st:AS)(K:AS->ay R),U6 E Γ an ops l st K=(U6 E Γ an ops l st some).bind K
 |[],st,K=>rfl
 |o::l,st,K=>by simp only[U6];rw[rO,rO (K:=λbU=>U6 E Γ an ops l bU some),Option.bind_assoc];congr 1;funext bU;exact SL ops l bU K
end Go.Dn
