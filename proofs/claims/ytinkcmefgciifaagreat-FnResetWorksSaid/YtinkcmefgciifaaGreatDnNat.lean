import Derived.Test.YtinkcmefgciifaaGreatDnBase
/- The abstract steps, without their continuations. -/
namespace Go.Dn
variable {R:Type} {E:Env} {Γ:Bx} {an:An} {o:Oper} {st:AS}
theorem NT {α β:Type}{x:aC α}{k:α->aC β}{z:β}(h:aa x k=some z):∃y,x=some y/\k y=some z:=by cases x with|none=>cases h|some y=>exact⟨y,rfl,h⟩
theorem jJ {α β:Type}(x:aC α)(k:α->aC β)(K:β->aC R):(aa x k).bind K=aa x λy=>(k y).bind K:=by cases x<;>rfl
theorem DZ {β:Type}(n:Nat)(k:aC β)(K:β->aC R):(room n k).bind K=room n (k.bind K):=by unfold room;split<;>rfl
theorem yb {β:Type}(b:Bool)(x y:aC β)(K:β->aC R):(cond b x y).bind K=cond b (x.bind K) (y.bind K):=by cases b<;>rfl
theorem aaM (x:Operand)(K:AS->aC R):DT an o x st K=(DT an o x st some).bind K:=by unfold DT;split;split<;>rfl;rfl
theorem aay (x:Operand)(K:AS->aC R):Sq o x st K=(Sq o x st some).bind K:=by unfold Sq;split<;>rfl
theorem Nj (T:TypeId)(p x:Operand)(K:AS->aC R):yu E T p x st K=(yu E T p x st some).bind K:=by unfold yu;split;split;split;split;split<;>rfl;rfl;rfl;rfl;rfl
theorem Ty (x:Operand)(K:AS->aC R):wx E an o x st K=(wx E an o x st some).bind K:=by unfold wx;split;split<;>rfl;rfl
theorem aaW (c x y:Operand)(K:AS->aC R):Ge o c x y st K=(Ge o c x y st some).bind K:=by unfold Ge;split;split;rfl;rw[yb];rfl;rfl
theorem Vy (T:TypeId)(K:AS->aC R):Ef E o T st K=(Ef E o T st some).bind K:=by unfold Ef;split;split<;>rfl;rfl
theorem ac0 (x:Operand)(K:AS->aC R):Tz o x st K=(Tz o x st some).bind K:=by unfold Tz;split;split;split<;>rfl;rfl;rfl
theorem Ye (sh:Shape)(fl:sC)(e:CT)(i:Int)(off:Nat)(K:AS->aC R):EU o sh fl e i off st K=(EU o sh fl e i off st some).bind K:=by unfold EU;split;split;split;split;rw[jJ];rfl;rfl;rfl;rfl;rfl
theorem Ru (sh:Shape)(fl:sC)(e:CT)(i:Int)(off:Nat)(K:AS->aC R):zS o sh fl e i off st K=(zS o sh fl e i off st some).bind K:=by unfold zS;split;split;split;split;rw[jJ];rfl;rfl;rfl;rfl;rfl
theorem aaG (T:TypeId)(p:Operand)(K:AS->aC R):qO E an o T p st K=(qO E an o T p st some).bind K:=by unfold qO;split;split;split;split;split<;>rfl;rfl;rfl;rfl;split;exact Ru _ _ _ _ _ K;split;split<;>rfl;exact Ye _ _ _ _ _ K;rfl
theorem Rr (r:mq)(t:Nat)(e:CT)(i:Int)(off:Nat)(vs:az AC)(K:AS->aC R):st.rb r t e i off vs K=(st.rb r t e i off vs some).bind K:=by unfold AS.rb;split;split;split;rw[jJ];congr 1;funext y;split<;>rfl;rfl;rfl;split;split;rw[jJ];congr 1;funext y;split<;>rfl;rfl;rfl;rfl
theorem Yf (T:TypeId)(p x:Operand)(K:AS->aC R):yt E T p x st K=(yt E T p x st some).bind K:=by unfold yt;split;split;split;split;split<;>rfl;rfl;rfl;rfl;split;split;rw[Rr];rfl;rfl;rfl
theorem VY (S:TypeId)(p:Operand)(f:Nat)(K:AS->aC R):BP E o S p f st K=(BP E o S p f st some).bind K:=by unfold BP;split;split<;>rfl;split<;>rfl;rfl
theorem M7 (T:TypeId)(x i:Operand)(K:AS->aC R):oa E o T x i st K=(oa E o T x i st some).bind K:=by unfold oa;split;split;rw[jJ];rfl;rfl;rfl
theorem WY (T:TypeId)(x i:Operand)(K:AS->aC R):Dc E o T x i st K=(Dc E o T x i st some).bind K:=by unfold Dc;split;split;rw[jJ];rfl;rfl;rfl
theorem VK (T:TypeId)(ps:az (Nat×Operand))(K:AS->aC R):C1 E o T ps st K=(C1 E o T ps st some).bind K:=by unfold C1;split;split;split<;>rfl;rfl
theorem KA (T:TypeId)(n:Nat)(ps:az (Nat×Operand))(K:AS->aC R):nt E o T n ps st K=(nt E o T n ps st some).bind K:=by unfold nt;split;split;split;split<;>rfl;rfl;rfl
theorem M8 (T:TypeId)(n c:Operand)(K:AS->aC R):qs E o T n c st K=(qs E o T n c st some).bind K:=by unfold qs;split;split;rw[DZ];rfl;rfl;rfl
theorem IQ {β:Type}(lo hi:aC Operand)(n:Nat)(k:Int->Int->aC β)(K:β->aC R):(oA st lo hi n k).bind K=oA st lo hi n λx y=>(k x y).bind K:=by unfold oA;split<;>rfl
theorem Ni (T:TypeId)(x:Operand)(lo hi:aC Operand)(K:AS->aC R):yj E o T x lo hi st K=(yj E o T x lo hi st some).bind K:=by unfold yj;split;split;rw[jJ];rfl;rfl;rfl
theorem X3 (T:TypeId)(x:Operand)(lo hi:aC Operand)(K:AS->aC R):Cf E an o T x lo hi st K=(Cf E an o T x lo hi st some).bind K:=by unfold Cf;split;exact Ni T x lo hi K;split;split;rw[IQ];congr 1;funext p q;rw[jJ];rfl;rfl;split;rw[IQ];congr 1;funext p q;rw[jJ];rfl;rfl;rfl
theorem QQ (src dst:TypeId)(x:Operand)(K:AS->aC R):nw E o src dst x st K=(nw E o src dst x st some).bind K:=by unfold nw;split;rfl;rfl;split;rw[DZ];rfl;rfl;split<;>rfl;rfl
theorem QT (t i:Nat)(K:AS->aC R):nA o t i st K=(nA o t i st some).bind K:=by unfold nA;split;split<;>rfl;rfl
theorem ad7 (ts:az TypeId)(args:az Operand)(K:AS->aC R):Pq E o ts args st K=(Pq E o ts args st some).bind K:=by unfold Pq;split;split<;>rfl;split<;>rfl;rfl
theorem aek (args:az Operand)(K:AS->aC R):Re o args st K=(Re o args st some).bind K:=by unfold Re;split<;>rfl
theorem aeg (args:az Operand)(K:AS->aC R):Rd o args st K=(Rd o args st some).bind K:=by unfold Rd;split<;>rfl
theorem Zj (ts:az TypeId)(args:az Operand)(K:AS->aC R):RJ E o ts args st K=(RJ E o ts args st some).bind K:=by unfold RJ;split;split;split;split<;>rfl;rfl;rfl;rfl
theorem T7 (S:TypeId)(t f:Nat)(K:AS->aC R):GM E o S t f st K=(GM E o S t f st some).bind K:=by unfold GM;split;split;split<;>rfl;rfl;rfl
theorem Tw (ts:az TypeId)(args:az Operand)(K:AS->aC R):yA E o ts args st K=(yA E o ts args st some).bind K:=by unfold yA;split;split;split;split;split;rw[DZ];rfl;rfl;rfl;split;split;rw[DZ];rfl;rfl;rfl;rfl;rfl;rfl
theorem QP (f:Nat)(args:az Operand)(K:AS->aC R):wy Γ o f args st K=(wy Γ o f args st some).bind K:=by unfold wy;split;split;split;rw[yb,jJ];congr 1;congr 1;funext y;rw[yb,yb];rfl;rfl;rfl;rfl
theorem aev (f:Nat)(args:az Operand)(K:AS->aC R):aeu Γ o f args st K=(aeu Γ o f args st some).bind K:=by unfold aeu;split;split;rw[yb,jJ];congr 1;congr 1;funext y;rw[yb];rfl;rfl;rfl
theorem Ze (f:Operand)(args:az Operand)(K:AS->aC R):Fa Γ o f args st K=(Fa Γ o f args st some).bind K:=by
 unfold Fa;split
 ·rename_i k hk
  cases (Γ k).bx with
  |true=>exact QP k args K
  |false=>
  simp only[af]
  cases (Γ k).pr with
  |true=>exact aev k args K
  |false=>
  simp only[af]
  cases (Γ k).io with
  |true=>rfl
  |false=>simp only[af];rw[jJ];congr 1;funext y;rw[yb];rfl
 rfl
theorem aar {β:Type}(op:BinOp)(k:IntKind)(x y:Int)(c:AC->aC β)(K:β->aC R):(Jy op k x y c).bind K=Jy op k x y λz=>(c z).bind K:=by unfold Jy;split<;>(try rfl)<;>(split<;>rfl)
theorem abw {β:Type}(op:BinOp)(x y:az UInt8)(c:AC->aC β)(K:β->aC R):(MB op x y c).bind K=MB op x y λz=>(c z).bind K:=by unfold MB;split<;>(try rfl);rw[DZ]
theorem GK {β:Type}(op:BinOp)(x y:AV)(c:AC->aC β)(K:β->aC R):(Hi op x y c).bind K=Hi op x y λz=>(c z).bind K:=by unfold Hi;split;split;split<;>rfl;split<;>rfl;split;rw[aar];rfl;rw[abw];split<;>rfl;split;rw[jJ];rw[jJ];rfl;rfl
theorem Yr {β:Type}(op:UnOp)(x:AV)(c:AC->aC β)(K:β->aC R):(unC op x c).bind K=unC op x λz=>(c z).bind K:=by unfold unC;split<;>rfl
theorem Om {β:Type}(op:BinOp)(b:Bool)(c:AC->aC β)(K:β->aC R):(Fc op b c).bind K=Fc op b λz=>(c z).bind K:=by unfold Fc;split<;>rfl
theorem YY (op:BinOp)(T:TypeId)(x y:Operand)(K:AS->aC R):Ct E o op T x y st K=(Ct E o op T x y st some).bind K:=by unfold Ct;split;split;rw[GK];rfl;rfl;split;split;rw[GK];rfl;rfl;rfl;split;split;rfl;rw[Om];rfl;rfl;split;rw[Om];rfl;rfl;rw[GK];rfl
theorem Qo (K:AS->aC R):dG E Γ an o st K=(dG E Γ an o st some).bind K:=by unfold dG;split;exact aaM _ K;split;exact aay _ K;exact Ty _ K;exact aaW _ _ _ K;exact Vy _ K;exact ac0 _ K;exact aaG _ _ K;split;split;exact Nj _ _ _ K;exact Yf _ _ _ K;rfl;split<;>rfl;exact YY _ _ _ _ K;rw[Yr];rfl;exact VY _ _ _ K;exact M7 _ _ _ K;exact WY _ _ _ K;exact VK _ _ K;exact KA _ _ _ K;exact M8 _ _ _ K;exact X3 _ _ _ _ K;exact T7 _ _ _ K;exact Zj _ _ K;exact QQ _ _ _ K;exact QT _ _ K;exact ad7 _ _ K;exact aek _ K;exact aeg _ K;exact Tw _ _ K;exact Ze _ _ K;rfl
theorem sH (ops:az Oper)(K:AS->aC R):iK E Γ an ops o st K=(iK E Γ an ops o st some).bind K:=by
 unfold iK;split;exact Qo K;rename_i j Iz hg;split;rename_i d hd;split;rename_i b hb
 have hgo:∀t:Bool,(if(t==Iz)=true then dG E Γ an o (st.put (some d) (.one (.bool t))) K else K ((st.put (some d) (.one (.bool t))).put o.dst (.one .un)))=
  (if(t==Iz)=true then dG E Γ an o (st.put (some d) (.one (.bool t))) some else some ((st.put (some d) (.one (.bool t))).put o.dst (.one .un))).bind K:=by
  intro t
  split
  ·exact Qo K
  ·rfl
 cases b with|true=>exact hgo true|false=>exact hgo false
 rfl;rfl;rfl
theorem SH (ops:az Oper):∀(l:az Oper)(st:AS)(K:AS->aC R),UI E Γ an ops l st K=(UI E Γ an ops l st some).bind K
 |[],st,K=>rfl
 |o::l,st,K=>by simp only[UI];rw[sH,sH (K:=λcc=>UI E Γ an ops l cc some),Option.bind_assoc];congr 1;funext cc;exact SH ops l cc K
end Go.Dn
