import Derived.Test.YtmpbhbfdoopggabGreatDnBase
/- The abstract steps, without their continuations. -/
namespace Go.Dn
variable {R:Type} {E:Env} {Γ:aM} {an:An} {o:Oper} {st:AS}
theorem yr {α β:Type}{x:Option α}{k:α→Option β}{z:β}(h:aa x k=some z):∃y,x=some y∧k y=some z:=by
 cases x with
 |none=>cases h
 |some y=>exact ⟨y,rfl,h⟩
theorem cm {α β:Type}(x:Option α)(k:α→Option β)(K:β→Option R):(aa x k).bind K=aa x fun y=>(k y).bind K:=by cases x<;>rfl
theorem qY {β:Type}(n:Nat)(k:Option β)(K:β→Option R):(room n k).bind K=room n (k.bind K):=by unfold room;split<;>rfl
theorem oO {β:Type}(b:Bool)(x y:Option β)(K:β→Option R):(cond b x y).bind K=cond b (x.bind K) (y.bind K):=by cases b<;>rfl
theorem HT (x:Operand)(K:AS→Option R):qS an o x st K=(qS an o x st some).bind K:=by
 unfold qS;split
 ·split<;>rfl
 ·rfl
theorem HL (x:Operand)(K:AS→Option R):BT o x st K=(BT o x st some).bind K:=by
 unfold BT;split<;>rfl
theorem xT (T:TypeId)(p x:Operand)(K:AS→Option R):mP E T p x st K=(mP E T p x st some).bind K:=by
 unfold mP;split
 ·split
  ·split
   ·split
    ·split<;>rfl
    ·rfl
   ·rfl
  ·rfl
 ·rfl
theorem CE (x:Operand)(K:AS→Option R):ld E an o x st K=(ld E an o x st some).bind K:=by
 unfold ld;split
 ·split<;>rfl
 ·rfl
theorem H8 (c x y:Operand)(K:AS→Option R):tk o c x y st K=(tk o c x y st some).bind K:=by
 unfold tk;split
 ·split
  ·rfl
  ·rw [oO];rfl
 ·rfl
theorem Er (T:TypeId)(K:AS→Option R):rh E o T st K=(rh E o T st some).bind K:=by
 unfold rh;split
 ·split<;>rfl
 ·rfl
theorem Ka (x:Operand)(K:AS→Option R):CG o x st K=(CG o x st some).bind K:=by
 unfold CG;split
 ·split
  ·split<;>rfl
  ·rfl
 ·rfl
theorem Gr (sh:Shape)(fl:gZ)(e:CT)(i:Int)(off:Nat)(K:AS→Option R):sm o sh fl e i off st K=(sm o sh fl e i off st some).bind K:=by
 unfold sm;split
 ·split
  ·split
   ·split
    ·rw [cm];rfl
    ·rfl
   ·rfl
  ·rfl
 ·rfl
theorem Bv (sh:Shape)(fl:gZ)(e:CT)(i:Int)(off:Nat)(K:AS→Option R):ra o sh fl e i off st K=(ra o sh fl e i off st some).bind K:=by
 unfold ra;split
 ·split
  ·split
   ·split
    ·rw [cm];rfl
    ·rfl
   ·rfl
  ·rfl
 ·rfl
theorem HO (T:TypeId)(p:Operand)(K:AS→Option R):l5 E an o T p st K=(l5 E an o T p st some).bind K:=by
 unfold l5;split
 ·split
  ·split
   ·split
    ·split<;>rfl
    ·rfl
   ·rfl
  ·rfl
 ·split
  ·exact Bv _ _ _ _ _ K
  split
  ·split<;>rfl
  ·exact Gr _ _ _ _ _ K
 ·rfl
theorem Bt (r:dm)(t:Nat)(e:CT)(i:Int)(off:Nat)(vs:List AC)(K:AS→Option R):st.gN r t e i off vs K=(st.gN r t e i off vs some).bind K:=by
 unfold AS.gN;split
 ·split
  ·split
   ·rw [cm]
    congr 1
    funext y
    split<;>rfl
   ·rfl
  ·rfl
 ·split
  ·split
   ·rw [cm]
    congr 1
    funext y
    split<;>rfl
   ·rfl
  ·rfl
 ·rfl
theorem Gt (T:TypeId)(p x:Operand)(K:AS→Option R):mO E T p x st K=(mO E T p x st some).bind K:=by
 unfold mO;split
 ·split
  ·split
   ·split
    ·split<;>rfl
    ·rfl
   ·rfl
  ·rfl
 ·split
  ·split
   ·rw [Bt]
   ·rfl
  ·rfl
 ·rfl
theorem E7 (S:TypeId)(p:Operand)(f:Nat)(K:AS→Option R):oW E o S p f st K=(oW E o S p f st some).bind K:=by
 unfold oW;split
 ·split<;>rfl
 ·split<;>rfl
 ·rfl
theorem xM (T:TypeId)(x i:Operand)(K:AS→Option R):eQ E o T x i st K=(eQ E o T x i st some).bind K:=by
 unfold eQ;split
 ·split
  ·rw [cm];rfl
  ·rfl
 ·rfl
theorem Fy (T:TypeId)(x i:Operand)(K:AS→Option R):qD E o T x i st K=(qD E o T x i st some).bind K:=by
 unfold qD;split
 ·split
  ·rw [cm];rfl
  ·rfl
 ·rfl
theorem Ew (T:TypeId)(ps:List (Nat×Operand))(K:AS→Option R):qz E o T ps st K=(qz E o T ps st some).bind K:=by
 unfold qz;split
 ·split;split<;>rfl
 ·rfl
theorem wC (T:TypeId)(n:Nat)(ps:List (Nat×Operand))(K:AS→Option R):ez E o T n ps st K=(ez E o T n ps st some).bind K:=by
 unfold ez;split
 ·split
  ·split;split<;>rfl
  ·rfl
 ·rfl
theorem xN (T:TypeId)(n c:Operand)(K:AS→Option R):gp E o T n c st K=(gp E o T n c st some).bind K:=by
 unfold gp;split
 ·split
  ·rw [qY];rfl
  ·rfl
 ·rfl
theorem ve {β:Type}(lo hi:Option Operand)(n:Nat)(k:Int→Int→Option β)(K:β→Option R):(eX st lo hi n k).bind K=eX st lo hi n fun x y=>(k x y).bind K:=by
 unfold eX;split<;>rfl
theorem xS (T:TypeId)(x:Operand)(lo hi:Option Operand)(K:AS→Option R):mM E o T x lo hi st K=(mM E o T x lo hi st some).bind K:=by
 unfold mM;split
 ·split
  ·rw [cm];rfl
  ·rfl
 ·rfl
theorem Ge (T:TypeId)(x:Operand)(lo hi:Option Operand)(K:AS→Option R):pP E an o T x lo hi st K=(pP E an o T x lo hi st some).bind K:=by
 unfold pP;split
 ·exact xS T x lo hi K
 split
 ·split
  ·rw [ve];congr 1;funext p q;rw [cm];rfl
  ·rfl
 ·split
  ·rw [ve];congr 1;funext p q;rw [cm];rfl
  ·rfl
 ·rfl
theorem AQ (src dst:TypeId)(x:Operand)(K:AS→Option R):eC E o src dst x st K=(eC E o src dst x st some).bind K:=by
 unfold eC;split
 ·rfl
 ·rfl
 ·split
  ·rw [qY];rfl
  ·rfl
 ·split<;>rfl
 ·rfl
theorem AW (t i:Nat)(K:AS→Option R):eE o t i st K=(eE o t i st some).bind K:=by
 unfold eE;split
 ·split<;>rfl
 ·rfl
theorem KM (ts:List TypeId)(args:List Operand)(K:AS→Option R):zQ E o ts args st K=(zQ E o ts args st some).bind K:=by
 unfold zQ;split
 ·split<;>rfl
 ·split<;>rfl
 ·rfl
theorem KR (args:List Operand)(K:AS→Option R):Bh o args st K=(Bh o args st some).bind K:=by unfold Bh;split<;>rfl
theorem KP (args:List Operand)(K:AS→Option R):Bg o args st K=(Bg o args st some).bind K:=by unfold Bg;split<;>rfl
theorem G6 (ts:List TypeId)(args:List Operand)(K:AS→Option R):BD E o ts args st K=(BD E o ts args st some).bind K:=by
 unfold BD;split
 ·split
  ·split
   ·split<;>rfl
   ·rfl
  ·rfl
 ·rfl
theorem Dl (S:TypeId)(t f:Nat)(K:AS→Option R):tP E o S t f st K=(tP E o S t f st some).bind K:=by
 unfold tP;split
 ·split
  ·split<;>rfl
  ·rfl
 ·rfl
theorem CD (ts:List TypeId)(args:List Operand)(K:AS→Option R):mS E o ts args st K=(mS E o ts args st some).bind K:=by
 unfold mS;split
 ·split
  ·split
   ·split
    ·split
     ·rw [qY];rfl
     ·rfl
    ·rfl
   ·split
    ·split
     ·rw [qY];rfl
     ·rfl
    ·rfl
   ·rfl
  ·rfl
 ·rfl
theorem H2 (f:Nat)(g:Bool)(cs:List AC)(xs:List Operand)(K:AS→Option R):B9 Γ o f g cs xs st K=(B9 Γ o f g cs xs st some).bind K:=by
 unfold B9
 split
 ·split
  ·split
   ·rw [oO,cm]
    congr 1
    congr 1
    funext x
    split
    ·rw [cm]
     congr 1
     funext y
     split
     ·split
      ·cases ((Γ f).av y).b5<;>rfl
      ·rfl
     ·rfl
    ·rfl
   ·rfl
  ·rfl
 ·rfl
theorem MM (f:Nat)(args:List Operand)(K:AS→Option R):UE Γ o f args st K=(UE Γ o f args st some).bind K:=by
 unfold UE
 split
 ·split
  ·split
   ·split
    ·split
     ·rw [oO,cm]
      congr 1
      congr 1
      funext y
      split
      ·cases ((Γ f).av y).b5<;>rfl
      ·rfl
     ·rfl
    ·rfl
   ·exact H2 f _ _ _ K
  ·rfl
 ·rfl
theorem AP (f:Nat)(args:List Operand)(K:AS→Option R):qJ Γ o f args st K=(qJ Γ o f args st some).bind K:=by
 unfold qJ
 split
 ·split
  ·split
   ·rw [oO,cm]
    congr 1
    congr 1
    funext y
    rw [oO];rfl
   ·rfl
  ·rfl
 ·rfl
theorem G0 (f:Operand)(args:List Operand)(K:AS→Option R):sU Γ o f args st K=(sU Γ o f args st some).bind K:=by
 unfold sU;split
 ·rename_i k hk
  cases (Γ k).bx with
  |true=>exact AP k args K
  |false=>
  simp only [cond_false]
  cases (Γ k).io with
  |true=>exact MM k args K
  |false=>simp only [cond_false];rw [cm];congr 1;funext y;rw [oO];rfl
 ·rfl
theorem HE {β:Type}(op:BinOp)(k:IntKind)(x y:Int)(c:AC→Option β)(K:β→Option R):(vJ op k x y c).bind K=vJ op k x y fun z=>(c z).bind K:=by
 unfold vJ;split<;>(try rfl)<;>(split<;>rfl)
theorem Iw {β:Type}(op:BinOp)(x y:List UInt8)(c:AC→Option β)(K:β→Option R):(xC op x y c).bind K=xC op x y fun z=>(c z).bind K:=by
 unfold xC;split<;>(try rfl);rw [qY]
theorem tL {β:Type}(op:BinOp)(x y:AV)(c:AC→Option β)(K:β→Option R):(um op x y c).bind K=um op x y fun z=>(c z).bind K:=by
 unfold um;split
 ·split
  ·split<;>rfl
  ·split<;>rfl
  ·split
   ·rw [HE]
   ·rfl
 ·rw [Iw]
 ·split<;>rfl
 ·split
  ·rw [cm]
  ·rw [cm]
  ·rfl
 ·rfl
theorem GH {β:Type}(op:UnOp)(x:AV)(c:AC→Option β)(K:β→Option R):(OU op x c).bind K=OU op x fun z=>(c z).bind K:=by
 unfold OU;split<;>rfl
theorem zt {β:Type}(op:BinOp)(b:Bool)(c:AC→Option β)(K:β→Option R):(sC op b c).bind K=sC op b fun z=>(c z).bind K:=by
 unfold sC;split<;>rfl
theorem GY (op:BinOp)(T:TypeId)(x y:Operand)(K:AS→Option R):pY E o op T x y st K=(pY E o op T x y st some).bind K:=by
 unfold pY;split
 ·split
  ·rw [tL];rfl
  ·rfl
 ·split
  ·split
   ·rw [tL];rfl
   ·rfl
  ·rfl
 ·split
  ·split
   ·rfl
   ·rw [zt];rfl
  ·rfl
 ·split
  ·rw [zt];rfl
  ·rfl
 ·rw [tL];rfl
theorem Au (K:AS→Option R):aN E Γ an o st K=(aN E Γ an o st some).bind K:=by
 unfold aN;split
 ·exact HT _ K
 ·split
  ·exact HL _ K
  ·exact CE _ K
 ·exact H8 _ _ _ K
 ·exact Er _ K
 ·exact Ka _ K
 ·exact HO _ _ K
 ·split
  ·split
   ·exact xT _ _ _ K
   ·exact Gt _ _ _ K
  ·rfl
 ·split<;>rfl
 ·exact GY _ _ _ _ K
 ·rw [GH];rfl
 ·exact E7 _ _ _ K
 ·exact xM _ _ _ K
 ·exact Fy _ _ _ K
 ·exact Ew _ _ K
 ·exact wC _ _ _ K
 ·exact xN _ _ _ K
 ·exact Ge _ _ _ _ K
 ·exact Dl _ _ _ K
 ·exact G6 _ _ K
 ·exact AQ _ _ _ K
 ·exact AW _ _ K
 ·exact KM _ _ K
 ·exact KR _ K
 ·exact KP _ K
 ·exact CD _ _ K
 ·exact G0 _ _ K
 ·rfl
theorem im (ops:List Oper)(K:AS→Option R):cz E Γ an ops o st K=(cz E Γ an ops o st some).bind K:=by
 unfold cz;split
 ·exact Au K
 ·rename_i j want hg
  split
  ·rename_i d hd
   split
   ·rename_i b hb
    have hgo:∀t:Bool,(if (t==want)=true then aN E Γ an o (st.put (some d) (.one (.bool t))) K else K ((st.put (some d) (.one (.bool t))).put o.dst (.one .un)))=
     (if (t==want)=true then aN E Γ an o (st.put (some d) (.one (.bool t))) some else some ((st.put (some d) (.one (.bool t))).put o.dst (.one .un))).bind K:=by
     intro t
     split
     ·exact Au K
     ·rfl
    cases b with
    |true=>exact hgo true
    |false=>exact hgo false
   ·rfl
   ·rfl
  ·rfl
theorem Ca (ops:List Oper):∀(l:List Oper)(st:AS)(K:AS→Option R),DM E Γ an ops l st K=(DM E Γ an ops l st some).bind K
 |[],st,K=>rfl
 |o::l,st,K=>by
  simp only [DM]
  rw [im,im (K:=fun st'=>DM E Γ an ops l st' some),Option.bind_assoc]
  congr 1
  funext st'
  exact Ca ops l st' K
end Go.Dn
