import Derived.Test.YtgbaemfepmabgaaGreatDnBase
/- The abstract steps, without their continuations. -/
namespace Go.Dn
variable {R:Type} {E:Env} {Γ:dm} {an:An} {o:Oper} {st:AS}
theorem JF {α β:Type}{x:aw α}{k:α->aw β}{z:β}(h:aa x k=some z):∃y,x=some y/\k y=some z:=by cases x with|none=>cases h|some y=>exact⟨y,rfl,h⟩
theorem hG {α β:Type}(x:aw α)(k:α->aw β)(K:β->aw R):(aa x k).bind K=aa x λy=>(k y).bind K:=by cases x<;>rfl
theorem Av {β:Type}(n:Nat)(k:aw β)(K:β->aw R):(room n k).bind K=room n (k.bind K):=by unfold room;split<;>rfl
theorem uR {β:Type}(b:Bool)(x y:aw β)(K:β->aw R):(cond b x y).bind K=cond b (x.bind K) (y.bind K):=by cases b<;>rfl
theorem Wv (x:Operand)(K:AS->aw R):Ap an o x st K=(Ap an o x st some).bind K:=by unfold Ap;split;split<;>rfl;rfl
theorem Wm (x:Operand)(K:AS->aw R):NK o x st K=(NK o x st some).bind K:=by unfold NK;split<;>rfl
theorem Ja (T:TypeId)(p x:Operand)(K:AS->aw R):vo E T p x st K=(vo E T p x st some).bind K:=by unfold vo;split;split;split;split;split<;>rfl;rfl;rfl;rfl;rfl
theorem OJ (x:Operand)(K:AS->aw R):tt E an o x st K=(tt E an o x st some).bind K:=by unfold tt;split;split<;>rfl;rfl
theorem WK (c x y:Operand)(K:AS->aw R):Cx o c x y st K=(Cx o c x y st some).bind K:=by unfold Cx;split;split;rfl;rw[uR];rfl;rfl
theorem Ra (T:TypeId)(K:AS->aw R):AD E o T st K=(AD E o T st some).bind K:=by unfold AD;split;split<;>rfl;rfl
theorem Zs (x:Operand)(K:AS->aw R):OM o x st K=(OM o x st some).bind K:=by unfold OM;split;split;split<;>rfl;rfl;rfl
theorem UB (sh:Shape)(fl:pq)(e:CT)(i:Int)(off:Nat)(K:AS->aw R):Bi o sh fl e i off st K=(Bi o sh fl e i off st some).bind K:=by unfold Bi;split;split;split;split;rw[hG];rfl;rfl;rfl;rfl;rfl
theorem MU (sh:Shape)(fl:pq)(e:CT)(i:Int)(off:Nat)(K:AS->aw R):wJ o sh fl e i off st K=(wJ o sh fl e i off st some).bind K:=by unfold wJ;split;split;split;split;rw[hG];rfl;rfl;rfl;rfl;rfl
theorem Wp (T:TypeId)(p:Operand)(K:AS->aw R):n9 E an o T p st K=(n9 E an o T p st some).bind K:=by unfold n9;split;split;split;split;split<;>rfl;rfl;rfl;rfl;split;exact MU _ _ _ _ _ K;split;split<;>rfl;exact UB _ _ _ _ _ K;rfl
theorem MQ (r:jQ)(t:Nat)(e:CT)(i:Int)(off:Nat)(vs:au AC)(K:AS->aw R):st.ot r t e i off vs K=(st.ot r t e i off vs some).bind K:=by unfold AS.ot;split;split;split;rw[hG];congr 1;funext y;split<;>rfl;rfl;rfl;split;split;rw[hG];congr 1;funext y;split<;>rfl;rfl;rfl;rfl
theorem UF (T:TypeId)(p x:Operand)(K:AS->aw R):vn E T p x st K=(vn E T p x st some).bind K:=by unfold vn;split;split;split;split;split<;>rfl;rfl;rfl;rfl;split;split;rw[MQ];rfl;rfl;rfl
theorem RY (S:TypeId)(p:Operand)(f:Nat)(K:AS->aw R):ya E o S p f st K=(ya E o S p f st some).bind K:=by unfold ya;split;split<;>rfl;split<;>rfl;rfl
theorem IY (T:TypeId)(x i:Operand)(K:AS->aw R):lM E o T x i st K=(lM E o T x i st some).bind K:=by unfold lM;split;split;rw[hG];rfl;rfl;rfl
theorem SX (T:TypeId)(x i:Operand)(K:AS->aw R):zO E o T x i st K=(zO E o T x i st some).bind K:=by unfold zO;split;split;rw[hG];rfl;rfl;rfl
theorem Rn (T:TypeId)(ps:au (Nat×Operand))(K:AS->aw R):zJ E o T ps st K=(zJ E o T ps st some).bind K:=by unfold zJ;split;split;split<;>rfl;rfl
theorem GJ (T:TypeId)(n:Nat)(ps:au (Nat×Operand))(K:AS->aw R):k8 E o T n ps st K=(k8 E o T n ps st some).bind K:=by unfold k8;split;split;split;split<;>rfl;rfl;rfl
theorem IZ (T:TypeId)(n c:Operand)(K:AS->aw R):nI E o T n c st K=(nI E o T n c st some).bind K:=by unfold nI;split;split;rw[Av];rfl;rfl;rfl
theorem E2 {β:Type}(lo hi:aw Operand)(n:Nat)(k:Int->Int->aw β)(K:β->aw R):(lW st lo hi n k).bind K=lW st lo hi n λx y=>(k x y).bind K:=by unfold lW;split<;>rfl
theorem I8 (T:TypeId)(x:Operand)(lo hi:aw Operand)(K:AS->aw R):vc E o T x lo hi st K=(vc E o T x lo hi st some).bind K:=by unfold vc;split;split;rw[hG];rfl;rfl;rfl
theorem Us (T:TypeId)(x:Operand)(lo hi:aw Operand)(K:AS->aw R):yy E an o T x lo hi st K=(yy E an o T x lo hi st some).bind K:=by unfold yy;split;exact I8 T x lo hi K;split;split;rw[E2];congr 1;funext p q;rw[hG];rfl;rfl;split;rw[E2];congr 1;funext p q;rw[hG];rfl;rfl;rfl
theorem Mq (src dst:TypeId)(x:Operand)(K:AS->aw R):lb E o src dst x st K=(lb E o src dst x st some).bind K:=by unfold lb;split;rfl;rfl;split;rw[Av];rfl;rfl;split<;>rfl;rfl
theorem Mt (t i:Nat)(K:AS->aw R):lf o t i st K=(lf o t i st some).bind K:=by unfold lf;split;split<;>rfl;rfl
theorem aaq (ts:au TypeId)(args:au Operand)(K:AS->aw R):K9 E o ts args st K=(K9 E o ts args st some).bind K:=by unfold K9;split;split<;>rfl;split<;>rfl;rfl
theorem aaz (args:au Operand)(K:AS->aw R):MC o args st K=(MC o args st some).bind K:=by unfold MC;split<;>rfl
theorem aav (args:au Operand)(K:AS->aw R):MB o args st K=(MB o args st some).bind K:=by unfold MB;split<;>rfl
theorem Vp (ts:au TypeId)(args:au Operand)(K:AS->aw R):M4 E o ts args st K=(M4 E o ts args st some).bind K:=by unfold M4;split;split;split;split<;>rfl;rfl;rfl;rfl
theorem P0 (S:TypeId)(t f:Nat)(K:AS->aw R):C6 E o S t f st K=(C6 E o S t f st some).bind K:=by unfold C6;split;split;split<;>rfl;rfl;rfl
theorem OH (ts:au TypeId)(args:au Operand)(K:AS->aw R):vr E o ts args st K=(vr E o ts args st some).bind K:=by unfold vr;split;split;split;split;split;rw[Av];rfl;rfl;rfl;split;split;rw[Av];rfl;rfl;rfl;rfl;rfl;rfl
theorem Mn (f:Nat)(args:au Operand)(K:AS->aw R):tu Γ o f args st K=(tu Γ o f args st some).bind K:=by unfold tu;split;split;split;rw[uR,hG];congr 1;congr 1;funext y;rw[uR,uR];rfl;rfl;rfl;rfl
theorem aaK (f:Nat)(args:au Operand)(K:AS->aw R):aaJ Γ o f args st K=(aaJ Γ o f args st some).bind K:=by unfold aaJ;split;split;rw[uR,hG];congr 1;congr 1;funext y;rw[uR];rfl;rfl;rfl
theorem Vi (f:Operand)(args:au Operand)(K:AS->aw R):BE Γ o f args st K=(BE Γ o f args st some).bind K:=by
 unfold BE;split
 ·rename_i k hk
  cases (Γ k).bx with
  |true=>exact Mn k args K
  |false=>
  simp only[af]
  cases (Γ k).pr with
  |true=>exact aaK k args K
  |false=>
  simp only[af]
  cases (Γ k).io with
  |true=>rfl
  |false=>simp only[af];rw[hG];congr 1;funext y;rw[uR];rfl
 rfl
theorem Wc {β:Type}(op:BinOp)(k:IntKind)(x y:Int)(c:AC->aw β)(K:β->aw R):(FJ op k x y c).bind K=FJ op k x y λz=>(c z).bind K:=by unfold FJ;split<;>(try rfl)<;>(split<;>rfl)
theorem Xl {β:Type}(op:BinOp)(x y:au UInt8)(c:AC->aw β)(K:β->aw R):(It op x y c).bind K=It op x y λz=>(c z).bind K:=by unfold It;split<;>(try rfl);rw[Av]
theorem C2 {β:Type}(op:BinOp)(x y:AV)(c:AC->aw β)(K:β->aw R):(Dw op x y c).bind K=Dw op x y λz=>(c z).bind K:=by unfold Dw;split;split;split<;>rfl;split<;>rfl;split;rw[Wc];rfl;rw[Xl];split<;>rfl;split;rw[hG];rw[hG];rfl;rfl
theorem UR {β:Type}(op:UnOp)(x:AV)(c:AC->aw β)(K:β->aw R):(unC op x c).bind K=unC op x λz=>(c z).bind K:=by unfold unC;split<;>rfl
theorem Ko {β:Type}(op:BinOp)(b:Bool)(c:AC->aw β)(K:β->aw R):(BG op b c).bind K=BG op b λz=>(c z).bind K:=by unfold BG;split<;>rfl
theorem U8 (op:BinOp)(T:TypeId)(x y:Operand)(K:AS->aw R):yQ E o op T x y st K=(yQ E o op T x y st some).bind K:=by unfold yQ;split;split;rw[C2];rfl;rfl;split;split;rw[C2];rfl;rfl;rfl;split;split;rfl;rw[Ko];rfl;rfl;split;rw[Ko];rfl;rfl;rw[C2];rfl
theorem L1 (K:AS->aw R):cG E Γ an o st K=(cG E Γ an o st some).bind K:=by unfold cG;split;exact Wv _ K;split;exact Wm _ K;exact OJ _ K;exact WK _ _ _ K;exact Ra _ K;exact Zs _ K;exact Wp _ _ K;split;split;exact Ja _ _ _ K;exact UF _ _ _ K;rfl;split<;>rfl;exact U8 _ _ _ _ K;rw[UR];rfl;exact RY _ _ _ K;exact IY _ _ _ K;exact SX _ _ _ K;exact Rn _ _ K;exact GJ _ _ _ K;exact IZ _ _ _ K;exact Us _ _ _ _ K;exact P0 _ _ _ K;exact Vp _ _ K;exact Mq _ _ _ K;exact Mt _ _ K;exact aaq _ _ K;exact aaz _ K;exact aav _ K;exact OH _ _ K;exact Vi _ _ K;rfl
theorem pC (ops:au Oper)(K:AS->aw R):gb E Γ an ops o st K=(gb E Γ an ops o st some).bind K:=by
 unfold gb;split;exact L1 K;rename_i j want hg;split;rename_i d hd;split;rename_i b hb
 have hgo:∀t:Bool,(if(t==want)=true then cG E Γ an o (st.put (some d) (.one (.bool t))) K else K ((st.put (some d) (.one (.bool t))).put o.dst (.one .un)))=
  (if(t==want)=true then cG E Γ an o (st.put (some d) (.one (.bool t))) some else some ((st.put (some d) (.one (.bool t))).put o.dst (.one .un))).bind K:=by
  intro t
  split
  ·exact L1 K
  ·rfl
 cases b with|true=>exact hgo true|false=>exact hgo false
 rfl;rfl;rfl
theorem NX (ops:au Oper):∀(l:au Oper)(st:AS)(K:AS->aw R),Qx E Γ an ops l st K=(Qx E Γ an ops l st some).bind K
 |[],st,K=>rfl
 |o::l,st,K=>by simp only[Qx];rw[pC,pC (K:=λst'=>Qx E Γ an ops l st' some),Option.bind_assoc];congr 1;funext st';exact NX ops l st' K
end Go.Dn
