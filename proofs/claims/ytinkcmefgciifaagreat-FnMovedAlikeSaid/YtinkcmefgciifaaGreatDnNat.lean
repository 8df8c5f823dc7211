import Derived.Test.YtinkcmefgciifaaGreatDnBase
/- The abstract steps, without their continuations. -/
namespace Go.Dn
variable {R:Type} {E:Env} {Γ:yk} {an:An} {o:Oper} {st:AS}
theorem J5 {α β:Type}{x:ay α}{k:α->ay β}{z:β}(h:aa x k=some z):∃y,x=some y/\k y=some z:=by cases x with|none=>cases h|some y=>exact⟨y,rfl,h⟩
theorem iu {α β:Type}(x:ay α)(k:α->ay β)(K:β->ay R):(aa x k).bind K=aa x λy=>(k y).bind K:=by cases x<;>rfl
theorem AM {β:Type}(n:Nat)(k:ay β)(K:β->ay R):(room n k).bind K=room n (k.bind K):=by unfold room;split<;>rfl
theorem vh {β:Type}(b:Bool)(x y:ay β)(K:β->ay R):(cond b x y).bind K=cond b (x.bind K) (y.bind K):=by cases b<;>rfl
theorem We (x:Operand)(K:AS->ay R):AI an o x st K=(AI an o x st some).bind K:=by unfold AI;split;split<;>rfl;rfl
theorem V0 (x:Operand)(K:AS->ay R):NV o x st K=(NV o x st some).bind K:=by unfold NV;split<;>rfl
theorem JC (T:TypeId)(p x:Operand)(K:AS->ay R):vC E T p x st K=(vC E T p x st some).bind K:=by unfold vC;split;split;split;split;split<;>rfl;rfl;rfl;rfl;rfl
theorem OL (x:Operand)(K:AS->ay R):tJ E an o x st K=(tJ E an o x st some).bind K:=by unfold tJ;split;split<;>rfl;rfl
theorem Wq (c x y:Operand)(K:AS->ay R):CV o c x y st K=(CV o c x y st some).bind K:=by unfold CV;split;split;rfl;rw[vh];rfl;rfl
theorem QS (T:TypeId)(K:AS->ay R):AY E o T st K=(AY E o T st some).bind K:=by unfold AY;split;split<;>rfl;rfl
theorem YC (x:Operand)(K:AS->ay R):OO o x st K=(OO o x st some).bind K:=by unfold OO;split;split;split<;>rfl;rfl;rfl
theorem TE (sh:Shape)(fl:qd)(e:CT)(i:Int)(off:Nat)(K:AS->ay R):BD o sh fl e i off st K=(BD o sh fl e i off st some).bind K:=by unfold BD;split;split;split;split;rw[iu];rfl;rfl;rfl;rfl;rfl
theorem M3 (sh:Shape)(fl:qd)(e:CT)(i:Int)(off:Nat)(K:AS->ay R):wV o sh fl e i off st K=(wV o sh fl e i off st some).bind K:=by unfold wV;split;split;split;split;rw[iu];rfl;rfl;rfl;rfl;rfl
theorem V3 (T:TypeId)(p:Operand)(K:AS->ay R):oG E an o T p st K=(oG E an o T p st some).bind K:=by unfold oG;split;split;split;split;split<;>rfl;rfl;rfl;rfl;split;exact M3 _ _ _ _ _ K;split;split<;>rfl;exact TE _ _ _ _ _ K;rfl
theorem MY (r:ky)(t:Nat)(e:CT)(i:Int)(off:Nat)(vs:ax AC)(K:AS->ay R):st.oR r t e i off vs K=(st.oR r t e i off vs some).bind K:=by unfold AS.oR;split;split;split;rw[iu];congr 1;funext y;split<;>rfl;rfl;rfl;split;split;rw[iu];congr 1;funext y;split<;>rfl;rfl;rfl;rfl
theorem TF (T:TypeId)(p x:Operand)(K:AS->ay R):vB E T p x st K=(vB E T p x st some).bind K:=by unfold vB;split;split;split;split;split<;>rfl;rfl;rfl;rfl;split;split;rw[MY];rfl;rfl;rfl
theorem Rl (S:TypeId)(p:Operand)(f:Nat)(K:AS->ay R):yA E o S p f st K=(yA E o S p f st some).bind K:=by unfold yA;split;split<;>rfl;split<;>rfl;rfl
theorem Ju (T:TypeId)(x i:Operand)(K:AS->ay R):mn E o T x i st K=(mn E o T x i st some).bind K:=by unfold mn;split;split;rw[iu];rfl;rfl;rfl
theorem Sm (T:TypeId)(x i:Operand)(K:AS->ay R):Ad E o T x i st K=(Ad E o T x i st some).bind K:=by unfold Ad;split;split;rw[iu];rfl;rfl;rfl
theorem Q4 (T:TypeId)(ps:ax (Nat×Operand))(K:AS->ay R):zV E o T ps st K=(zV E o T ps st some).bind K:=by unfold zV;split;split;split<;>rfl;rfl
theorem Hm (T:TypeId)(n:Nat)(ps:ax (Nat×Operand))(K:AS->ay R):lD E o T n ps st K=(lD E o T n ps st some).bind K:=by unfold lD;split;split;split;split<;>rfl;rfl;rfl
theorem Jv (T:TypeId)(n c:Operand)(K:AS->ay R):nZ E o T n c st K=(nZ E o T n c st some).bind K:=by unfold nZ;split;split;rw[AM];rfl;rfl;rfl
theorem Fz {β:Type}(lo hi:ay Operand)(n:Nat)(k:Int->Int->ay β)(K:β->ay R):(mD st lo hi n k).bind K=mD st lo hi n λx y=>(k x y).bind K:=by unfold mD;split<;>rfl
theorem JB (T:TypeId)(x:Operand)(lo hi:ay Operand)(K:AS->ay R):vq E o T x lo hi st K=(vq E o T x lo hi st some).bind K:=by unfold vq;split;split;rw[iu];rfl;rfl;rfl
theorem Tw (T:TypeId)(x:Operand)(lo hi:ay Operand)(K:AS->ay R):yV E an o T x lo hi st K=(yV E an o T x lo hi st some).bind K:=by unfold yV;split;exact JB T x lo hi K;split;split;rw[Fz];congr 1;funext p q;rw[iu];rfl;rfl;split;rw[Fz];congr 1;funext p q;rw[iu];rfl;rfl;rfl
theorem Mr (src dst:TypeId)(x:Operand)(K:AS->ay R):lF E o src dst x st K=(lF E o src dst x st some).bind K:=by unfold lF;split;rfl;rfl;split;rw[AM];rfl;rfl;split<;>rfl;rfl
theorem Ms (t i:Nat)(K:AS->ay R):lH o t i st K=(lH o t i st some).bind K:=by unfold lH;split;split<;>rfl;rfl
theorem ZX (ts:ax TypeId)(args:ax Operand)(K:AS->ay R):Lg E o ts args st K=(Lg E o ts args st some).bind K:=by unfold Lg;split;split<;>rfl;split<;>rfl;rfl
theorem Z7 (args:ax Operand)(K:AS->ay R):ML o args st K=(ML o args st some).bind K:=by unfold ML;split<;>rfl
theorem Z3 (args:ax Operand)(K:AS->ay R):MK o args st K=(MK o args st some).bind K:=by unfold MK;split<;>rfl
theorem Uy (ts:ax TypeId)(args:ax Operand)(K:AS->ay R):Nc E o ts args st K=(Nc E o ts args st some).bind K:=by unfold Nc;split;split;split;split<;>rfl;rfl;rfl;rfl
theorem Pn (S:TypeId)(t f:Nat)(K:AS->ay R):Ds E o S t f st K=(Ds E o S t f st some).bind K:=by unfold Ds;split;split;split<;>rfl;rfl;rfl
theorem OJ (ts:ax TypeId)(args:ax Operand)(K:AS->ay R):vG E o ts args st K=(vG E o ts args st some).bind K:=by unfold vG;split;split;split;split;split;rw[AM];rfl;rfl;rfl;split;split;rw[AM];rfl;rfl;rfl;rfl;rfl;rfl
theorem Mq (f:Nat)(args:ax Operand)(K:AS->ay R):tK Γ o f args st K=(tK Γ o f args st some).bind K:=by unfold tK;split;split;split;rw[vh,iu];congr 1;congr 1;funext y;rw[vh,vh];rfl;rfl;rfl;rfl
theorem aaj (f:Nat)(args:ax Operand)(K:AS->ay R):aai Γ o f args st K=(aai Γ o f args st some).bind K:=by unfold aai;split;split;rw[vh,iu];congr 1;congr 1;funext y;rw[vh];rfl;rfl;rfl
theorem Ut (f:Operand)(args:ax Operand)(K:AS->ay R):BR Γ o f args st K=(BR Γ o f args st some).bind K:=by
 unfold BR;split
 ·rename_i k hk
  cases (Γ k).bx with
  |true=>exact Mq k args K
  |false=>
  simp only[af]
  cases (Γ k).pr with
  |true=>exact aaj k args K
  |false=>
  simp only[af]
  cases (Γ k).io with
  |true=>rfl
  |false=>simp only[af];rw[iu];congr 1;funext y;rw[vh];rfl
 rfl
theorem VR {β:Type}(op:BinOp)(k:IntKind)(x y:Int)(c:AC->ay β)(K:β->ay R):(Gg op k x y c).bind K=Gg op k x y λz=>(c z).bind K:=by unfold Gg;split<;>(try rfl)<;>(split<;>rfl)
theorem W7 {β:Type}(op:BinOp)(x y:ax UInt8)(c:AC->ay β)(K:β->ay R):(I6 op x y c).bind K=I6 op x y λz=>(c z).bind K:=by unfold I6;split<;>(try rfl);rw[AM]
theorem Dp {β:Type}(op:BinOp)(x y:AV)(c:AC->ay β)(K:β->ay R):(DY op x y c).bind K=DY op x y λz=>(c z).bind K:=by unfold DY;split;split;split<;>rfl;split<;>rfl;split;rw[VR];rfl;rw[W7];split<;>rfl;split;rw[iu];rw[iu];rfl;rfl
theorem TQ {β:Type}(op:UnOp)(x:AV)(c:AC->ay β)(K:β->ay R):(unC op x c).bind K=unC op x λz=>(c z).bind K:=by unfold unC;split<;>rfl
theorem Kt {β:Type}(op:BinOp)(b:Bool)(c:AC->ay β)(K:β->ay R):(BS op b c).bind K=BS op b λz=>(c z).bind K:=by unfold BS;split<;>rfl
theorem Um (op:BinOp)(T:TypeId)(x y:Operand)(K:AS->ay R):zj E o op T x y st K=(zj E o op T x y st some).bind K:=by unfold zj;split;split;rw[Dp];rfl;rfl;split;split;rw[Dp];rfl;rfl;rfl;split;split;rfl;rw[Kt];rfl;rfl;split;rw[Kt];rfl;rfl;rw[Dp];rfl
theorem L0 (K:AS->ay R):da E Γ an o st K=(da E Γ an o st some).bind K:=by unfold da;split;exact We _ K;split;exact V0 _ K;exact OL _ K;exact Wq _ _ _ K;exact QS _ K;exact YC _ K;exact V3 _ _ K;split;split;exact JC _ _ _ K;exact TF _ _ _ K;rfl;split<;>rfl;exact Um _ _ _ _ K;rw[TQ];rfl;exact Rl _ _ _ K;exact Ju _ _ _ K;exact Sm _ _ _ K;exact Q4 _ _ K;exact Hm _ _ _ K;exact Jv _ _ _ K;exact Tw _ _ _ _ K;exact Pn _ _ _ K;exact Uy _ _ K;exact Mr _ _ _ K;exact Ms _ _ K;exact ZX _ _ K;exact Z7 _ K;exact Z3 _ K;exact OJ _ _ K;exact Ut _ _ K;rfl
theorem ql (ops:ax Oper)(K:AS->ay R):gu E Γ an ops o st K=(gu E Γ an ops o st some).bind K:=by
 unfold gu;split;exact L0 K;rename_i j Fg hg;split;rename_i d hd;split;rename_i b hb
 have Zg:∀t:Bool,(if(t==Fg)=true then da E Γ an o (st.put (some d) (.one (.bool t))) K else K ((st.put (some d) (.one (.bool t))).put o.dst (.one .un)))=
  (if(t==Fg)=true then da E Γ an o (st.put (some d) (.one (.bool t))) some else some ((st.put (some d) (.one (.bool t))).put o.dst (.one .un))).bind K:=by
  intro t
  split
  ·exact L0 K
  ·rfl
 cases b with|true=>exact Zg true|false=>exact Zg false
 rfl;rfl;rfl
theorem N7 (ops:ax Oper):∀(l:ax Oper)(st:AS)(K:AS->ay R),P6 E Γ an ops l st K=(P6 E Γ an ops l st some).bind K
 |[],st,K=>rfl
 |o::l,st,K=>by simp only[P6];rw[ql,ql (K:=λbN=>P6 E Γ an ops l bN some),Option.bind_assoc];congr 1;funext bN;exact N7 ops l bN K
end Go.Dn
