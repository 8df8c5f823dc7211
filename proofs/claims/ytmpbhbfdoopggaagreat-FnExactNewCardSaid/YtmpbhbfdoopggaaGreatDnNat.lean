import Derived.Test.YtmpbhbfdoopggaaGreatDnBase
/- The abstract steps, without their continuations. -/
namespace Go.Dn
variable {R:Type} {E:Env} {Γ:aJ} {an:An} {o:Oper} {st:AS}
theorem vZ {α β:Type}{x:Option α}{k:α→Option β}{z:β}(h:aa x k=some z):∃y,x=some y∧k y=some z:=by
 cases x with
 |none=>cases h
 |some y=>exact ⟨y,rfl,h⟩
theorem bO {α β:Type}(x:Option α)(k:α→Option β)(K:β→Option R):(aa x k).bind K=aa x fun y=>(k y).bind K:=by cases x<;>rfl
theorem pG {β:Type}(n:Nat)(k:Option β)(K:β→Option R):(room n k).bind K=room n (k.bind K):=by unfold room;split<;>rfl
theorem ns {β:Type}(b:Bool)(x y:Option β)(K:β→Option R):(cond b x y).bind K=cond b (x.bind K) (y.bind K):=by cases b<;>rfl
theorem Fu (x:Operand)(K:AS→Option R):pA an o x st K=(pA an o x st some).bind K:=by
 unfold pA;split
 ·split<;>rfl
 ·rfl
theorem Fk (x:Operand)(K:AS→Option R):zo o x st K=(zo o x st some).bind K:=by
 unfold zo;split<;>rfl
theorem vI (T:TypeId)(p x:Operand)(K:AS→Option R):lE E T p x st K=(lE E T p x st some).bind K:=by
 unfold lE;split
 ·split
  ·split
   ·split
    ·split<;>rfl
    ·rfl
   ·rfl
  ·rfl
 ·rfl
theorem z8 (x:Operand)(K:AS→Option R):kg E an o x st K=(kg E an o x st some).bind K:=by
 unfold kg;split
 ·split<;>rfl
 ·rfl
theorem FG (c x y:Operand)(K:AS→Option R):rz o c x y st K=(rz o c x y st some).bind K:=by
 unfold rz;split
 ·split
  ·rfl
  ·rw [ns];rfl
 ·rfl
theorem B5 (T:TypeId)(K:AS→Option R):pP E o T st K=(pP E o T st some).bind K:=by
 unfold pP;split
 ·split<;>rfl
 ·rfl
theorem Hi (x:Operand)(K:AS→Option R):z9 o x st K=(z9 o x st some).bind K:=by
 unfold z9;split
 ·split
  ·split<;>rfl
  ·rfl
 ·rfl
theorem D4 (sh:Shape)(fl:fY)(e:CT)(i:Int)(off:Nat)(K:AS→Option R):qw o sh fl e i off st K=(qw o sh fl e i off st some).bind K:=by
 unfold qw;split
 ·split
  ·split
   ·split
    ·rw [bO];rfl
    ·rfl
   ·rfl
  ·rfl
 ·rfl
theorem yP (sh:Shape)(fl:fY)(e:CT)(i:Int)(off:Nat)(K:AS→Option R):pK o sh fl e i off st K=(pK o sh fl e i off st some).bind K:=by
 unfold pK;split
 ·split
  ·split
   ·split
    ·rw [bO];rfl
    ·rfl
   ·rfl
  ·rfl
 ·rfl
theorem Fo (T:TypeId)(p:Operand)(K:AS→Option R):kW E an o T p st K=(kW E an o T p st some).bind K:=by
 unfold kW;split
 ·split
  ·split
   ·split
    ·split<;>rfl
    ·rfl
   ·rfl
  ·rfl
 ·split
  ·exact yP _ _ _ _ _ K
  split
  ·split<;>rfl
  ·exact D4 _ _ _ _ _ K
 ·rfl
theorem yN (r:cV)(t:Nat)(e:CT)(i:Int)(off:Nat)(vs:List AC)(K:AS→Option R):st.fK r t e i off vs K=(st.fK r t e i off vs some).bind K:=by
 unfold AS.fK;split
 ·split
  ·split
   ·rw [bO]
    congr 1
    funext y
    split<;>rfl
   ·rfl
  ·rfl
 ·split
  ·split
   ·rw [bO]
    congr 1
    funext y
    split<;>rfl
   ·rfl
  ·rfl
 ·rfl
theorem D7 (T:TypeId)(p x:Operand)(K:AS→Option R):lD E T p x st K=(lD E T p x st some).bind K:=by
 unfold lD;split
 ·split
  ·split
   ·split
    ·split<;>rfl
    ·rfl
   ·rfl
  ·rfl
 ·split
  ·split
   ·rw [yN]
   ·rfl
  ·rfl
 ·rfl
theorem CL (S:TypeId)(p:Operand)(f:Nat)(K:AS→Option R):nB E o S p f st K=(nB E o S p f st some).bind K:=by
 unfold nB;split
 ·split<;>rfl
 ·split<;>rfl
 ·rfl
theorem vz (T:TypeId)(x i:Operand)(K:AS→Option R):dX E o T x i st K=(dX E o T x i st some).bind K:=by
 unfold dX;split
 ·split
  ·rw [bO];rfl
  ·rfl
 ·rfl
theorem Da (T:TypeId)(x i:Operand)(K:AS→Option R):oX E o T x i st K=(oX E o T x i st some).bind K:=by
 unfold oX;split
 ·split
  ·rw [bO];rfl
  ·rfl
 ·rfl
theorem Cb (T:TypeId)(ps:List (Nat×Operand))(K:AS→Option R):oR E o T ps st K=(oR E o T ps st some).bind K:=by
 unfold oR;split
 ·split;split<;>rfl
 ·rfl
theorem ux (T:TypeId)(n:Nat)(ps:List (Nat×Operand))(K:AS→Option R):dG E o T n ps st K=(dG E o T n ps st some).bind K:=by
 unfold dG;split
 ·split
  ·split;split<;>rfl
  ·rfl
 ·rfl
theorem vA (T:TypeId)(n c:Operand)(K:AS→Option R):fw E o T n c st K=(fw E o T n c st some).bind K:=by
 unfold fw;split
 ·split
  ·rw [pG];rfl
  ·rfl
 ·rfl
theorem tt {β:Type}(lo hi:Option Operand)(n:Nat)(k:Int→Int→Option β)(K:β→Option R):(eh st lo hi n k).bind K=eh st lo hi n fun x y=>(k x y).bind K:=by
 unfold eh;split<;>rfl
theorem vG (T:TypeId)(x:Operand)(lo hi:Option Operand)(K:AS→Option R):lB E o T x lo hi st K=(lB E o T x lo hi st some).bind K:=by
 unfold lB;split
 ·split
  ·rw [bO];rfl
  ·rfl
 ·rfl
theorem DV (T:TypeId)(x:Operand)(lo hi:Option Operand)(K:AS→Option R):n5 E an o T x lo hi st K=(n5 E an o T x lo hi st some).bind K:=by
 unfold n5;split
 ·exact vG T x lo hi K
 split
 ·split
  ·rw [tt];congr 1;funext p q;rw [bO];rfl
  ·rfl
 ·split
  ·rw [tt];congr 1;funext p q;rw [bO];rfl
  ·rfl
 ·rfl
theorem yq (src dst:TypeId)(x:Operand)(K:AS→Option R):dJ E o src dst x st K=(dJ E o src dst x st some).bind K:=by
 unfold dJ;split
 ·rfl
 ·rfl
 ·split
  ·rw [pG];rfl
  ·rfl
 ·split<;>rfl
 ·rfl
theorem yr (t i:Nat)(K:AS→Option R):dL o t i st K=(dL o t i st some).bind K:=by
 unfold dL;split
 ·split<;>rfl
 ·rfl
theorem HT (ts:List TypeId)(args:List Operand)(K:AS→Option R):xq E o ts args st K=(xq E o ts args st some).bind K:=by
 unfold xq;split
 ·split<;>rfl
 ·split<;>rfl
 ·rfl
theorem HZ (args:List Operand)(K:AS→Option R):yA o args st K=(yA o args st some).bind K:=by unfold yA;split<;>rfl
theorem HX (args:List Operand)(K:AS→Option R):yz o args st K=(yz o args st some).bind K:=by unfold yz;split<;>rfl
theorem EG (ts:List TypeId)(args:List Operand)(K:AS→Option R):yX E o ts args st K=(yX E o ts args st some).bind K:=by
 unfold yX;split
 ·split
  ·split
   ·split<;>rfl
   ·rfl
  ·rfl
 ·rfl
theorem AY (S:TypeId)(t f:Nat)(K:AS→Option R):rY E o S t f st K=(rY E o S t f st some).bind K:=by
 unfold rY;split
 ·split
  ·split<;>rfl
  ·rfl
 ·rfl
theorem z0 (ts:List TypeId)(args:List Operand)(K:AS→Option R):lI E o ts args st K=(lI E o ts args st some).bind K:=by
 unfold lI;split
 ·split
  ·split
   ·split
    ·split
     ·rw [pG];rfl
     ·rfl
    ·rfl
   ·split
    ·split
     ·rw [pG];rfl
     ·rfl
    ·rfl
   ·rfl
  ·rfl
 ·rfl
theorem FB (f:Nat)(g:Bool)(cs:List AC)(xs:List Operand)(K:AS→Option R):zy Γ o f g cs xs st K=(zy Γ o f g cs xs st some).bind K:=by
 unfold zy
 split
 ·split
  ·split
   ·rw [ns,bO]
    congr 1
    congr 1
    funext x
    split
    ·rw [bO]
     congr 1
     funext y
     split
     ·split
      ·cases ((Γ f).av y).bJ<;>rfl
      ·rfl
     ·rfl
    ·rfl
   ·rfl
  ·rfl
 ·rfl
theorem JO (f:Nat)(args:List Operand)(K:AS→Option R):Rm Γ o f args st K=(Rm Γ o f args st some).bind K:=by
 unfold Rm
 split
 ·split
  ·split
   ·split
    ·split
     ·rw [ns,bO]
      congr 1
      congr 1
      funext y
      split
      ·cases ((Γ f).av y).bJ<;>rfl
      ·rfl
     ·rfl
    ·rfl
   ·exact FB f _ _ _ K
  ·rfl
 ·rfl
theorem yp (f:Nat)(args:List Operand)(K:AS→Option R):pc Γ o f args st K=(pc Γ o f args st some).bind K:=by
 unfold pc
 split
 ·split
  ·split
   ·rw [ns,bO]
    congr 1
    congr 1
    funext y
    rw [ns];rfl
   ·rfl
  ·rfl
 ·rfl
theorem EC (f:Operand)(args:List Operand)(K:AS→Option R):qY Γ o f args st K=(qY Γ o f args st some).bind K:=by
 unfold qY;split
 ·rename_i k hk
  cases (Γ k).bx with
  |true=>exact yp k args K
  |false=>
  simp only [cond_false]
  cases (Γ k).io with
  |true=>exact JO k args K
  |false=>simp only [cond_false];rw [bO];congr 1;funext y;rw [ns];rfl
 ·rfl
theorem Fc {β:Type}(op:BinOp)(k:IntKind)(x y:Int)(c:AC→Option β)(K:β→Option R):(tN op k x y c).bind K=tN op k x y fun z=>(c z).bind K:=by
 unfold tN;split<;>(try rfl)<;>(split<;>rfl)
theorem F0 {β:Type}(op:BinOp)(x y:List UInt8)(c:AC→Option β)(K:β→Option R):(vt op x y c).bind K=vt op x y fun z=>(c z).bind K:=by
 unfold vt;split<;>(try rfl);rw [pG]
theorem rT {β:Type}(op:BinOp)(x y:AV)(c:AC→Option β)(K:β→Option R):(sw op x y c).bind K=sw op x y fun z=>(c z).bind K:=by
 unfold sw;split
 ·split
  ·split<;>rfl
  ·split<;>rfl
  ·split
   ·rw [Fc]
   ·rfl
 ·rw [F0]
 ·split<;>rfl
 ·split
  ·rw [bO]
  ·rw [bO]
  ·rfl
 ·rfl
theorem Ei {β:Type}(op:UnOp)(x:AV)(c:AC→Option β)(K:β→Option R):(L1 op x c).bind K=L1 op x fun z=>(c z).bind K:=by
 unfold L1;split<;>rfl
theorem w7 {β:Type}(op:BinOp)(b:Bool)(c:AC→Option β)(K:β→Option R):(qH op b c).bind K=qH op b fun z=>(c z).bind K:=by
 unfold qH;split<;>rfl
theorem Ey (op:BinOp)(T:TypeId)(x y:Operand)(K:AS→Option R):oo E o op T x y st K=(oo E o op T x y st some).bind K:=by
 unfold oo;split
 ·split
  ·rw [rT];rfl
  ·rfl
 ·split
  ·split
   ·rw [rT];rfl
   ·rfl
  ·rfl
 ·split
  ·split
   ·rfl
   ·rw [w7];rfl
  ·rfl
 ·split
  ·rw [w7];rfl
  ·rfl
 ·rw [rT];rfl
theorem xY (K:AS→Option R):aI E Γ an o st K=(aI E Γ an o st some).bind K:=by
 unfold aI;split
 ·exact Fu _ K
 ·split
  ·exact Fk _ K
  ·exact z8 _ K
 ·exact FG _ _ _ K
 ·exact B5 _ K
 ·exact Hi _ K
 ·exact Fo _ _ K
 ·split
  ·split
   ·exact vI _ _ _ K
   ·exact D7 _ _ _ K
  ·rfl
 ·split<;>rfl
 ·exact Ey _ _ _ _ K
 ·rw [Ei];rfl
 ·exact CL _ _ _ K
 ·exact vz _ _ _ K
 ·exact Da _ _ _ K
 ·exact Cb _ _ K
 ·exact ux _ _ _ K
 ·exact vA _ _ _ K
 ·exact DV _ _ _ _ K
 ·exact AY _ _ _ K
 ·exact EG _ _ K
 ·exact yq _ _ _ K
 ·exact yr _ _ K
 ·exact HT _ _ K
 ·exact HZ _ K
 ·exact HX _ K
 ·exact z0 _ _ K
 ·exact EC _ _ K
 ·rfl
theorem gG (ops:List Oper)(K:AS→Option R):bT E Γ an ops o st K=(bT E Γ an ops o st some).bind K:=by
 unfold bT;split
 ·exact xY K
 ·rename_i j want hg
  split
  ·rename_i d hd
   split
   ·rename_i b hb
    have hgo:∀t:Bool,(if (t==want)=true then aI E Γ an o (st.put (some d) (.one (.bool t))) K else K ((st.put (some d) (.one (.bool t))).put o.dst (.one .un)))=
     (if (t==want)=true then aI E Γ an o (st.put (some d) (.one (.bool t))) some else some ((st.put (some d) (.one (.bool t))).put o.dst (.one .un))).bind K:=by
     intro t
     split
     ·exact xY K
     ·rfl
    cases b with
    |true=>exact hgo true
    |false=>exact hgo false
   ·rfl
   ·rfl
  ·rfl
theorem zA (ops:List Oper):∀(l:List Oper)(st:AS)(K:AS→Option R),Bv E Γ an ops l st K=(Bv E Γ an ops l st some).bind K
 |[],st,K=>rfl
 |o::l,st,K=>by
  simp only [Bv]
  rw [gG,gG (K:=fun st'=>Bv E Γ an ops l st' some),Option.bind_assoc]
  congr 1
  funext st'
  exact zA ops l st' K
end Go.Dn
