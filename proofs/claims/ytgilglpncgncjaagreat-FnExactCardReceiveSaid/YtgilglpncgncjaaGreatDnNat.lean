import Derived.Test.YtgilglpncgncjaaGreatDnBase
/- The abstract steps, without their continuations. -/
namespace Go.Dn
variable {R:Type} {E:Env} {Γ:aJ} {an:An} {o:Oper} {st:AS}
theorem CY {α β:Type}{x:Option α}{k:α→Option β}{z:β}(h:aa x k=some z):∃y,x=some y∧k y=some z:=by
 cases x with
 |none=>cases h
 |some y=>exact ⟨y,rfl,h⟩
theorem cD {α β:Type}(x:Option α)(k:α→Option β)(K:β→Option R):(aa x k).bind K=aa x fun y=>(k y).bind K:=by cases x<;>rfl
theorem u1 {β:Type}(n:Nat)(k:Option β)(K:β→Option R):(room n k).bind K=room n (k.bind K):=by unfold room;split<;>rfl
theorem sE {β:Type}(b:Bool)(x y:Option β)(K:β→Option R):(cond b x y).bind K=cond b (x.bind K) (y.bind K):=by cases b<;>rfl
theorem N6 (x:Operand)(K:AS→Option R):uW an o x st K=(uW an o x st some).bind K:=by
 unfold uW;split
 ·split<;>rfl
 ·rfl
theorem NY (x:Operand)(K:AS→Option R):GQ o x st K=(GQ o x st some).bind K:=by
 unfold GQ;split<;>rfl
theorem CA (T:TypeId)(p x:Operand)(K:AS→Option R):pO E T p x st K=(pO E T p x st some).bind K:=by
 unfold pO;split
 ·split
  ·split
   ·split
    ·split<;>rfl
    ·rfl
   ·rfl
  ·rfl
 ·rfl
theorem HJ (x:Operand)(K:AS→Option R):nG E an o x st K=(nG E an o x st some).bind K:=by
 unfold nG;split
 ·split<;>rfl
 ·rfl
theorem Oi (c x y:Operand)(K:AS→Option R):xj o c x y st K=(xj o c x y st some).bind K:=by
 unfold xj;split
 ·split
  ·rfl
  ·rw [sE];rfl
 ·rfl
theorem J3 (T:TypeId)(K:AS→Option R):ve E o T st K=(ve E o T st some).bind K:=by
 unfold ve;split
 ·split<;>rfl
 ·rfl
theorem Qx (x:Operand)(K:AS→Option R):HL o x st K=(HL o x st some).bind K:=by
 unfold HL;split
 ·split
  ·split<;>rfl
  ·rfl
 ·rfl
theorem Mv (sh:Shape)(fl:jg)(e:CT)(i:Int)(off:Nat)(K:AS→Option R):we o sh fl e i off st K=(we o sh fl e i off st some).bind K:=by
 unfold we;split
 ·split
  ·split
   ·split
    ·rw [cD];rfl
    ·rfl
   ·rfl
  ·rfl
 ·rfl
theorem Ge (sh:Shape)(fl:jg)(e:CT)(i:Int)(off:Nat)(K:AS→Option R):u7 o sh fl e i off st K=(u7 o sh fl e i off st some).bind K:=by
 unfold u7;split
 ·split
  ·split
   ·split
    ·rw [cD];rfl
    ·rfl
   ·rfl
  ·rfl
 ·rfl
theorem N1 (T:TypeId)(p:Operand)(K:AS→Option R):oP E an o T p st K=(oP E an o T p st some).bind K:=by
 unfold oP;split
 ·split
  ·split
   ·split
    ·split<;>rfl
    ·rfl
   ·rfl
  ·rfl
 ·split
  ·exact Ge _ _ _ _ _ K
  split
  ·split<;>rfl
  ·exact Mv _ _ _ _ _ K
 ·rfl
theorem Gb (r:dX)(t:Nat)(e:CT)(i:Int)(off:Nat)(vs:List AC)(K:AS→Option R):st.iT r t e i off vs K=(st.iT r t e i off vs some).bind K:=by
 unfold AS.iT;split
 ·split
  ·split
   ·rw [cD]
    congr 1
    funext y
    split<;>rfl
   ·rfl
  ·rfl
 ·split
  ·split
   ·rw [cD]
    congr 1
    funext y
    split<;>rfl
   ·rfl
  ·rfl
 ·rfl
theorem My (T:TypeId)(p x:Operand)(K:AS→Option R):pN E T p x st K=(pN E T p x st some).bind K:=by
 unfold pN;split
 ·split
  ·split
   ·split
    ·split<;>rfl
    ·rfl
   ·rfl
  ·rfl
 ·split
  ·split
   ·rw [Gb]
   ·rfl
  ·rfl
 ·rfl
theorem KP (S:TypeId)(p:Operand)(f:Nat)(K:AS→Option R):sO E o S p f st K=(sO E o S p f st some).bind K:=by
 unfold sO;split
 ·split<;>rfl
 ·split<;>rfl
 ·rfl
theorem Cr (T:TypeId)(x i:Operand)(K:AS→Option R):fV E o T x i st K=(fV E o T x i st some).bind K:=by
 unfold fV;split
 ·split
  ·rw [cD];rfl
  ·rfl
 ·rfl
theorem Lr (T:TypeId)(x i:Operand)(K:AS→Option R):uz E o T x i st K=(uz E o T x i st some).bind K:=by
 unfold uz;split
 ·split
  ·rw [cD];rfl
  ·rfl
 ·rfl
theorem Ka (T:TypeId)(ps:List (Nat×Operand))(K:AS→Option R):uu E o T ps st K=(uu E o T ps st some).bind K:=by
 unfold uu;split
 ·split;split<;>rfl
 ·rfl
theorem Bc (T:TypeId)(n:Nat)(ps:List (Nat×Operand))(K:AS→Option R):fj E o T n ps st K=(fj E o T n ps st some).bind K:=by
 unfold fj;split
 ·split
  ·split;split<;>rfl
  ·rfl
 ·rfl
theorem Cs (T:TypeId)(n c:Operand)(K:AS→Option R):ij E o T n c st K=(ij E o T n c st some).bind K:=by
 unfold ij;split
 ·split
  ·rw [u1];rfl
  ·rfl
 ·rfl
theorem zy {β:Type}(lo hi:Option Operand)(n:Nat)(k:Int→Int→Option β)(K:β→Option R):(gm st lo hi n k).bind K=gm st lo hi n fun x y=>(k x y).bind K:=by
 unfold gm;split<;>rfl
theorem Cx (T:TypeId)(x:Operand)(lo hi:Option Operand)(K:AS→Option R):pH E o T x lo hi st K=(pH E o T x lo hi st some).bind K:=by
 unfold pH;split
 ·split
  ·rw [cD];rfl
  ·rfl
 ·rfl
theorem Mj (T:TypeId)(x:Operand)(lo hi:Option Operand)(K:AS→Option R):tD E an o T x lo hi st K=(tD E an o T x lo hi st some).bind K:=by
 unfold tD;split
 ·exact Cx T x lo hi K
 split
 ·split
  ·rw [zy];congr 1;funext p q;rw [cD];rfl
  ·rfl
 ·split
  ·rw [zy];congr 1;funext p q;rw [cD];rfl
  ·rfl
 ·rfl
theorem FJ (src dst:TypeId)(x:Operand)(K:AS→Option R):fy E o src dst x st K=(fy E o src dst x st some).bind K:=by
 unfold fy;split
 ·rfl
 ·rfl
 ·split
  ·rw [u1];rfl
  ·rfl
 ·split<;>rfl
 ·rfl
theorem FO (t i:Nat)(K:AS→Option R):fA o t i st K=(fA o t i st some).bind K:=by
 unfold fA;split
 ·split<;>rfl
 ·rfl
theorem Rb (ts:List TypeId)(args:List Operand)(K:AS→Option R):EM E o ts args st K=(EM E o ts args st some).bind K:=by
 unfold EM;split
 ·split<;>rfl
 ·split<;>rfl
 ·rfl
theorem Rf (args:List Operand)(K:AS→Option R):F0 o args st K=(F0 o args st some).bind K:=by unfold F0;split<;>rfl
theorem Re (args:List Operand)(K:AS→Option R):FZ o args st K=(FZ o args st some).bind K:=by unfold FZ;split<;>rfl
theorem Ni (ts:List TypeId)(args:List Operand)(K:AS→Option R):Gq E o ts args st K=(Gq E o ts args st some).bind K:=by
 unfold Gq;split
 ·split
  ·split
   ·split<;>rfl
   ·rfl
  ·rfl
 ·rfl
theorem I1 (S:TypeId)(t f:Nat)(K:AS→Option R):xG E o S t f st K=(xG E o S t f st some).bind K:=by
 unfold xG;split
 ·split
  ·split<;>rfl
  ·rfl
 ·rfl
theorem HI (ts:List TypeId)(args:List Operand)(K:AS→Option R):pR E o ts args st K=(pR E o ts args st some).bind K:=by
 unfold pR;split
 ·split
  ·split
   ·split
    ·split
     ·rw [u1];rfl
     ·rfl
    ·rfl
   ·split
    ·split
     ·rw [u1];rfl
     ·rfl
    ·rfl
   ·rfl
  ·rfl
 ·rfl
theorem Od (f:Nat)(g:Bool)(cs:List AC)(xs:List Operand)(K:AS→Option R):G1 Γ o f g cs xs st K=(G1 Γ o f g cs xs st some).bind K:=by
 unfold G1
 split
 ·split
  ·split
   ·rw [sE,cD]
    congr 1
    congr 1
    funext x
    split
    ·rw [cD]
     congr 1
     funext y
     split
     ·split
      ·cases ((Γ f).av y).cv<;>rfl
      ·rfl
     ·rfl
    ·rfl
   ·rfl
  ·rfl
 ·rfl
theorem Tn (f:Nat)(args:List Operand)(K:AS→Option R):ioC Γ o f args st K=(ioC Γ o f args st some).bind K:=by
 unfold ioC
 split
 ·split
  ·split
   ·split
    ·split
     ·rw [sE,cD]
      congr 1
      congr 1
      funext y
      split
      ·cases ((Γ f).av y).cv<;>rfl
      ·rfl
     ·rfl
    ·rfl
   ·exact Od f _ _ _ K
  ·rfl
 ·rfl
theorem FI (f:Nat)(args:List Operand)(K:AS→Option R):uK Γ o f args st K=(uK Γ o f args st some).bind K:=by
 unfold uK
 split
 ·split
  ·split
   ·rw [sE,cD]
    congr 1
    congr 1
    funext y
    rw [sE];rfl
   ·rfl
  ·rfl
 ·rfl
theorem Nd (f:Operand)(args:List Operand)(K:AS→Option R):wT Γ o f args st K=(wT Γ o f args st some).bind K:=by
 unfold wT;split
 ·rename_i k hk
  cases (Γ k).bx with
  |true=>exact FI k args K
  |false=>
  simp only [cond_false]
  cases (Γ k).io with
  |true=>exact Tn k args K
  |false=>simp only [cond_false];rw [cD];congr 1;funext y;rw [sE];rfl
 ·rfl
theorem NR {β:Type}(op:BinOp)(k:IntKind)(x y:Int)(c:AC→Option β)(K:β→Option R):(Ae op k x y c).bind K=Ae op k x y fun z=>(c z).bind K:=by
 unfold Ae;split<;>(try rfl)<;>(split<;>rfl)
theorem OE {β:Type}(op:BinOp)(x y:List UInt8)(c:AC→Option β)(K:β→Option R):(Cc op x y c).bind K=Cc op x y fun z=>(c z).bind K:=by
 unfold Cc;split<;>(try rfl);rw [u1]
theorem xD {β:Type}(op:BinOp)(x y:AV)(c:AC→Option β)(K:β→Option R):(yi op x y c).bind K=yi op x y fun z=>(c z).bind K:=by
 unfold yi;split
 ·split
  ·split<;>rfl
  ·split<;>rfl
  ·split
   ·rw [NR]
   ·rfl
 ·rw [OE]
 ·split<;>rfl
 ·split
  ·rw [cD]
  ·rw [cD]
  ·rfl
 ·rfl
theorem MQ {β:Type}(op:UnOp)(x:AV)(c:AC→Option β)(K:β→Option R):(Wm op x c).bind K=Wm op x fun z=>(c z).bind K:=by
 unfold Wm;split<;>rfl
theorem Ee {β:Type}(op:BinOp)(b:Bool)(c:AC→Option β)(K:β→Option R):(wu op b c).bind K=wu op b fun z=>(c z).bind K:=by
 unfold wu;split<;>rfl
theorem Nb (op:BinOp)(T:TypeId)(x y:Operand)(K:AS→Option R):tM E o op T x y st K=(tM E o op T x y st some).bind K:=by
 unfold tM;split
 ·split
  ·rw [xD];rfl
  ·rfl
 ·split
  ·split
   ·rw [xD];rfl
   ·rfl
  ·rfl
 ·split
  ·split
   ·rfl
   ·rw [Ee];rfl
  ·rfl
 ·split
  ·rw [Ee];rfl
  ·rfl
 ·rw [xD];rfl
theorem Fj (K:AS→Option R):aV E Γ an o st K=(aV E Γ an o st some).bind K:=by
 unfold aV;split
 ·exact N6 _ K
 ·split
  ·exact NY _ K
  ·exact HJ _ K
 ·exact Oi _ _ _ K
 ·exact J3 _ K
 ·exact Qx _ K
 ·exact N1 _ _ K
 ·split
  ·split
   ·exact CA _ _ _ K
   ·exact My _ _ _ K
  ·rfl
 ·split<;>rfl
 ·exact Nb _ _ _ _ K
 ·rw [MQ];rfl
 ·exact KP _ _ _ K
 ·exact Cr _ _ _ K
 ·exact Lr _ _ _ K
 ·exact Ka _ _ K
 ·exact Bc _ _ _ K
 ·exact Cs _ _ _ K
 ·exact Mj _ _ _ _ K
 ·exact I1 _ _ _ K
 ·exact Ni _ _ K
 ·exact FJ _ _ _ K
 ·exact FO _ _ K
 ·exact Rb _ _ K
 ·exact Rf _ K
 ·exact Re _ K
 ·exact HI _ _ K
 ·exact Nd _ _ K
 ·rfl
theorem jN (ops:List Oper)(K:AS→Option R):cU E Γ an ops o st K=(cU E Γ an ops o st some).bind K:=by
 unfold cU;split
 ·exact Fj K
 ·rename_i j want hg
  split
  ·rename_i d hd
   split
   ·rename_i b hb
    have hgo:∀t:Bool,(if (t==want)=true then aV E Γ an o (st.put (some d) (.one (.bool t))) K else K ((st.put (some d) (.one (.bool t))).put o.dst (.one .un)))=
     (if (t==want)=true then aV E Γ an o (st.put (some d) (.one (.bool t))) some else some ((st.put (some d) (.one (.bool t))).put o.dst (.one .un))).bind K:=by
     intro t
     split
     ·exact Fj K
     ·rfl
    cases b with
    |true=>exact hgo true
    |false=>exact hgo false
   ·rfl
   ·rfl
  ·rfl
theorem G2 (ops:List Oper):∀(l:List Oper)(st:AS)(K:AS→Option R),Jl E Γ an ops l st K=(Jl E Γ an ops l st some).bind K
 |[],st,K=>rfl
 |o::l,st,K=>by
  simp only [Jl]
  rw [jN,jN (K:=fun st'=>Jl E Γ an ops l st' some),Option.bind_assoc]
  congr 1
  funext st'
  exact G2 ops l st' K
end Go.Dn
