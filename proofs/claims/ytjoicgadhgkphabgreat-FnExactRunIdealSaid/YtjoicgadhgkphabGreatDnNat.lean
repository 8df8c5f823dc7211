import Derived.Test.YtjoicgadhgkphabGreatDnBase
/- The abstract steps, without their continuations. -/
namespace Go.Dn
variable {R:Type} {E:Env} {Γ:bL} {an:An} {o:Oper} {st:AS}
theorem BE {α β:Type}{x:Option α}{k:α→Option β}{z:β}(h:aa x k=some z):∃y,x=some y∧k y=some z:=by cases x with|none=>cases h|some y=>exact⟨y,rfl,h⟩
theorem dU {α β:Type}(x:Option α)(k:α→Option β)(K:β→Option R):(aa x k).bind K=aa x λy=>(k y).bind K:=by cases x<;>rfl
theorem uy {β:Type}(n:Nat)(k:Option β)(K:β→Option R):(room n k).bind K=room n (k.bind K):=by unfold room;split<;>rfl
theorem lQ {β:Type}(b:Bool)(x y:Option β)(K:β→Option R):(cond b x y).bind K=cond b (x.bind K) (y.bind K):=by cases b<;>rfl
theorem Lc (x:Operand)(K:AS→Option R):uw an o x st K=(uw an o x st some).bind K:=by unfold uw;split;split<;>rfl;rfl
theorem K5 (x:Operand)(K:AS→Option R):EK o x st K=(EK o x st some).bind K:=by unfold EK;split<;>rfl
theorem Ba (T:TypeId)(p x:Operand)(K:AS→Option R):pH E T p x st K=(pH E T p x st some).bind K:=by unfold pH;split;split;split;split;split<;>rfl;rfl;rfl;rfl;rfl
theorem Fq (x:Operand)(K:AS→Option R):oa E an o x st K=(oa E an o x st some).bind K:=by unfold oa;split;split<;>rfl;rfl
theorem Lr (c x y:Operand)(K:AS→Option R):wa o c x y st K=(wa o c x y st some).bind K:=by unfold wa;split;split;rfl;rw[lQ];rfl;rfl
theorem Hr (T:TypeId)(K:AS→Option R):uE E o T st K=(uE E o T st some).bind K:=by unfold uE;split;split<;>rfl;rfl
theorem Nw (x:Operand)(K:AS→Option R):Ft o x st K=(Ft o x st some).bind K:=by unfold Ft;split;split;split<;>rfl;rfl;rfl
theorem JN (sh:Shape)(fl:kN)(e:CT)(i:Int)(off:Nat)(K:AS→Option R):vh o sh fl e i off st K=(vh o sh fl e i off st some).bind K:=by unfold vh;split;split;split;split;rw[dU];rfl;rfl;rfl;rfl;rfl
theorem Ed (sh:Shape)(fl:kN)(e:CT)(i:Int)(off:Nat)(K:AS→Option R):qN o sh fl e i off st K=(qN o sh fl e i off st some).bind K:=by unfold qN;split;split;split;split;rw[dU];rfl;rfl;rfl;rfl;rfl
theorem K8 (T:TypeId)(p:Operand)(K:AS→Option R):ks E an o T p st K=(ks E an o T p st some).bind K:=by unfold ks;split;split;split;split;split<;>rfl;rfl;rfl;rfl;split;exact Ed _ _ _ _ _ K;split;split<;>rfl;exact JN _ _ _ _ _ K;rfl
theorem Ea (r:fT)(t:Nat)(e:CT)(i:Int)(off:Nat)(vs:List AC)(K:AS→Option R):st.kA r t e i off vs K=(st.kA r t e i off vs some).bind K:=by unfold AS.kA;split;split;split;rw[dU];congr 1;funext y;split<;>rfl;rfl;rfl;split;split;rw[dU];congr 1;funext y;split<;>rfl;rfl;rfl;rfl
theorem JQ (T:TypeId)(p x:Operand)(K:AS→Option R):pG E T p x st K=(pG E T p x st some).bind K:=by unfold pG;split;split;split;split;split<;>rfl;rfl;rfl;rfl;split;split;rw[Ea];rfl;rfl;rfl
theorem Ih (S:TypeId)(p:Operand)(f:Nat)(K:AS→Option R):sn E o S p f st K=(sn E o S p f st some).bind K:=by unfold sn;split;split<;>rfl;split<;>rfl;rfl
theorem AO (T:TypeId)(x i:Operand)(K:AS→Option R):im E o T x i st K=(im E o T x i st some).bind K:=by unfold im;split;split;rw[dU];rfl;rfl;rfl
theorem IT (T:TypeId)(x i:Operand)(K:AS→Option R):tS E o T x i st K=(tS E o T x i st some).bind K:=by unfold tS;split;split;rw[dU];rfl;rfl;rfl
theorem HA (T:TypeId)(ps:List (Nat×Operand))(K:AS→Option R):tO E o T ps st K=(tO E o T ps st some).bind K:=by unfold tO;split;split;split<;>rfl;rfl
theorem zw (T:TypeId)(n:Nat)(ps:List (Nat×Operand))(K:AS→Option R):gV E o T n ps st K=(gV E o T n ps st some).bind K:=by unfold gV;split;split;split;split<;>rfl;rfl;rfl
theorem AP (T:TypeId)(n c:Operand)(K:AS→Option R):jR E o T n c st K=(jR E o T n c st some).bind K:=by unfold jR;split;split;rw[uy];rfl;rfl;rfl
theorem yj {β:Type}(lo hi:Option Operand)(n:Nat)(k:Int→Int→Option β)(K:β→Option R):(iz st lo hi n k).bind K=iz st lo hi n λx y=>(k x y).bind K:=by unfold iz;split<;>rfl
theorem AY (T:TypeId)(x:Operand)(lo hi:Option Operand)(K:AS→Option R):pD E o T x lo hi st K=(pD E o T x lo hi st some).bind K:=by unfold pD;split;split;rw[dU];rfl;rfl;rfl
theorem Jx (T:TypeId)(x:Operand)(lo hi:Option Operand)(K:AS→Option R):sZ E an o T x lo hi st K=(sZ E an o T x lo hi st some).bind K:=by unfold sZ;split;exact AY T x lo hi K;split;split;rw[yj];congr 1;funext p q;rw[dU];rfl;rfl;split;rw[yj];congr 1;funext p q;rw[dU];rfl;rfl;rfl
theorem DN (src dst:TypeId)(x:Operand)(K:AS→Option R):gY E o src dst x st K=(gY E o src dst x st some).bind K:=by unfold gY;split;rfl;rfl;split;rw[uy];rfl;rfl;split<;>rfl;rfl
theorem DP (t i:Nat)(K:AS→Option R):gZ o t i st K=(gZ o t i st some).bind K:=by unfold gZ;split;split<;>rfl;rfl
theorem N3 (ts:List TypeId)(args:List Operand)(K:AS→Option R):CR E o ts args st K=(CR E o ts args st some).bind K:=by unfold CR;split;split<;>rfl;split<;>rfl;rfl
theorem N8 (args:List Operand)(K:AS→Option R):DY o args st K=(DY o args st some).bind K:=by unfold DY;split<;>rfl
theorem N7 (args:List Operand)(K:AS→Option R):DX o args st K=(DX o args st some).bind K:=by unfold DX;split<;>rfl
theorem Kt (ts:List TypeId)(args:List Operand)(K:AS→Option R):Ep E o ts args st K=(Ep E o ts args st some).bind K:=by unfold Ep;split;split;split;split<;>rfl;rfl;rfl;rfl
theorem Gp (S:TypeId)(t f:Nat)(K:AS→Option R):wE E o S t f st K=(wE E o S t f st some).bind K:=by unfold wE;split;split;split<;>rfl;rfl;rfl
theorem Fo (ts:List TypeId)(args:List Operand)(K:AS→Option R):pK E o ts args st K=(pK E o ts args st some).bind K:=by unfold pK;split;split;split;split;split;rw[uy];rfl;rfl;rfl;split;split;rw[uy];rfl;rfl;rfl;rfl;rfl;rfl
theorem Lk (f:Nat)(g:Bool)(cs:List AC)(xs:List Operand)(K:AS→Option R):EU Γ o f g cs xs st K=(EU Γ o f g cs xs st some).bind K:=by unfold EU;split;split;split;rw[lQ,dU];congr 1;congr 1;funext x;split;rw[dU];congr 1;funext y;split;split;cases ((Γ f).av y).dV<;>rfl;rfl;rfl;rfl;rfl;rfl;rfl
theorem PX (f:Nat)(args:List Operand)(K:AS→Option R):XU Γ o f args st K=(XU Γ o f args st some).bind K:=by unfold XU;split;split;split;split;split;rw[lQ,dU];congr 1;congr 1;funext y;split;cases ((Γ f).av y).dV<;>rfl;rfl;rfl;rfl;exact Lk f _ _ _ K;rfl;rfl
theorem DM (f:Nat)(args:List Operand)(K:AS→Option R):oc Γ o f args st K=(oc Γ o f args st some).bind K:=by unfold oc;split;split;split;rw[lQ,dU];congr 1;congr 1;funext y;rw[lQ,lQ];rfl;rfl;rfl;rfl
theorem Ok (f:Nat)(args:List Operand)(K:AS→Option R):Oj Γ o f args st K=(Oj Γ o f args st some).bind K:=by unfold Oj;split;split;rw[lQ,dU];congr 1;congr 1;funext y;rw[lQ];rfl;rfl;rfl
theorem Ko (f:Operand)(args:List Operand)(K:AS→Option R):vq Γ o f args st K=(vq Γ o f args st some).bind K:=by
 unfold vq;split
 ·rename_i k hk
  cases (Γ k).bx with
  |true=>exact DM k args K
  |false=>
  simp only[af]
  cases (Γ k).pr with
  |true=>exact Ok k args K
  |false=>
  simp only[af]
  cases (Γ k).io with
  |true=>exact PX k args K
  |false=>simp only[af];rw[dU];congr 1;funext y;rw[lQ];rfl
 rfl
theorem KX {β:Type}(op:BinOp)(k:IntKind)(x y:Int)(c:AC→Option β)(K:β→Option R):(yC op k x y c).bind K=yC op k x y λz=>(c z).bind K:=by unfold yC;split<;>(try rfl)<;>(split<;>rfl)
theorem LM {β:Type}(op:BinOp)(x y:List UInt8)(c:AC→Option β)(K:β→Option R):(AH op x y c).bind K=AH op x y λz=>(c z).bind K:=by unfold AH;split<;>(try rfl);rw[uy]
theorem wB {β:Type}(op:BinOp)(x y:AV)(c:AC→Option β)(K:β→Option R):(w6 op x y c).bind K=w6 op x y λz=>(c z).bind K:=by unfold w6;split;split;split<;>rfl;split<;>rfl;split;rw[KX];rfl;rw[LM];split<;>rfl;split;rw[dU];rw[dU];rfl;rfl
theorem J1 {β:Type}(op:UnOp)(x:AV)(c:AC→Option β)(K:β→Option R):(R0 op x c).bind K=R0 op x λz=>(c z).bind K:=by unfold R0;split<;>rfl
theorem Cq {β:Type}(op:BinOp)(b:Bool)(c:AC→Option β)(K:β→Option R):(vt op b c).bind K=vt op b λz=>(c z).bind K:=by unfold vt;split<;>rfl
theorem Ki (op:BinOp)(T:TypeId)(x y:Operand)(K:AS→Option R):s9 E o op T x y st K=(s9 E o op T x y st some).bind K:=by unfold s9;split;split;rw[wB];rfl;rfl;split;split;rw[wB];rfl;rfl;rfl;split;split;rfl;rw[Cq];rfl;rfl;split;rw[Cq];rfl;rfl;rw[wB];rfl
theorem Dp (K:AS→Option R):bX E Γ an o st K=(bX E Γ an o st some).bind K:=by unfold bX;split;exact Lc _ K;split;exact K5 _ K;exact Fq _ K;exact Lr _ _ _ K;exact Hr _ K;exact Nw _ K;exact K8 _ _ K;split;split;exact Ba _ _ _ K;exact JQ _ _ _ K;rfl;split<;>rfl;exact Ki _ _ _ _ K;rw[J1];rfl;exact Ih _ _ _ K;exact AO _ _ _ K;exact IT _ _ _ K;exact HA _ _ K;exact zw _ _ _ K;exact AP _ _ _ K;exact Jx _ _ _ _ K;exact Gp _ _ _ K;exact Kt _ _ K;exact DN _ _ _ K;exact DP _ _ K;exact N3 _ _ K;exact N8 _ K;exact N7 _ K;exact Fo _ _ K;exact Ko _ _ K;rfl
theorem lq (ops:List Oper)(K:AS→Option R):dZ E Γ an ops o st K=(dZ E Γ an ops o st some).bind K:=by
 unfold dZ;split;exact Dp K;rename_i j want hg;split;rename_i d hd;split;rename_i b hb
 have hgo:∀t:Bool,(if(t==want)=true then bX E Γ an o (st.put (some d) (.one (.bool t))) K else K ((st.put (some d) (.one (.bool t))).put o.dst (.one .un)))=
  (if(t==want)=true then bX E Γ an o (st.put (some d) (.one (.bool t))) some else some ((st.put (some d) (.one (.bool t))).put o.dst (.one .un))).bind K:=by
  intro t
  split
  ·exact Dp K
  ·rfl
 cases b with|true=>exact hgo true|false=>exact hgo false
 rfl;rfl;rfl
theorem EV (ops:List Oper):∀(l:List Oper)(st:AS)(K:AS→Option R),GM E Γ an ops l st K=(GM E Γ an ops l st some).bind K
 |[],st,K=>rfl
 |o::l,st,K=>by simp only[GM];rw[lq,lq (K:=λst'=>GM E Γ an ops l st' some),Option.bind_assoc];congr 1;funext st';exact EV ops l st' K
end Go.Dn
