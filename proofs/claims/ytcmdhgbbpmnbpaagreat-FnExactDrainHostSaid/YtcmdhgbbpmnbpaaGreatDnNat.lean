import Derived.Test.YtcmdhgbbpmnbpaaGreatDnBase
/- The abstract steps, without their continuations. -/
namespace Go.Dn
variable {R:Type} {E:Env} {Γ:aO} {an:An} {o:Oper} {st:AS}
theorem DH {α β:Type}{x:Option α}{k:α→Option β}{z:β}(h:aa x k=some z):∃y,x=some y∧k y=some z:=by
 cases x with
 |none=>cases h
 |some y=>exact ⟨y,rfl,h⟩
theorem cQ {α β:Type}(x:Option α)(k:α→Option β)(K:β→Option R):(aa x k).bind K=aa x fun y=>(k y).bind K:=by cases x<;>rfl
theorem vB {β:Type}(n:Nat)(k:Option β)(K:β→Option R):(room n k).bind K=room n (k.bind K):=by unfold room;split<;>rfl
theorem sT {β:Type}(b:Bool)(x y:Option β)(K:β→Option R):(cond b x y).bind K=cond b (x.bind K) (y.bind K):=by cases b<;>rfl
theorem NS (x:Operand)(K:AS→Option R):vt an o x st K=(vt an o x st some).bind K:=by
 unfold vt;split
 ·split<;>rfl
 ·rfl
theorem NK (x:Operand)(K:AS→Option R):Hb o x st K=(Hb o x st some).bind K:=by
 unfold Hb;split<;>rfl
theorem C9 (T:TypeId)(p x:Operand)(K:AS→Option R):qf E T p x st K=(qf E T p x st some).bind K:=by
 unfold qf;split
 ·split
  ·split
   ·split
    ·split<;>rfl
    ·rfl
   ·rfl
  ·rfl
 ·rfl
theorem HO (x:Operand)(K:AS→Option R):og E an o x st K=(og E an o x st some).bind K:=by
 unfold og;split
 ·split<;>rfl
 ·rfl
theorem N7 (c x y:Operand)(K:AS→Option R):xT o c x y st K=(xT o c x y st some).bind K:=by
 unfold xT;split
 ·split
  ·rfl
  ·rw [sT];rfl
 ·rfl
theorem J6 (T:TypeId)(K:AS→Option R):vL E o T st K=(vL E o T st some).bind K:=by
 unfold vL;split
 ·split<;>rfl
 ·rfl
theorem P9 (x:Operand)(K:AS→Option R):HQ o x st K=(HQ o x st some).bind K:=by
 unfold HQ;split
 ·split
  ·split<;>rfl
  ·rfl
 ·rfl
theorem Mi (sh:Shape)(fl:kj)(e:CT)(i:Int)(off:Nat)(K:AS→Option R):wZ o sh fl e i off st K=(wZ o sh fl e i off st some).bind K:=by
 unfold wZ;split
 ·split
  ·split
   ·split
    ·rw [cQ];rfl
    ·rfl
   ·rfl
  ·rfl
 ·rfl
theorem GM (sh:Shape)(fl:kj)(e:CT)(i:Int)(off:Nat)(K:AS→Option R):vG o sh fl e i off st K=(vG o sh fl e i off st some).bind K:=by
 unfold vG;split
 ·split
  ·split
   ·split
    ·rw [cQ];rfl
    ·rfl
   ·rfl
  ·rfl
 ·rfl
theorem NN (T:TypeId)(p:Operand)(K:AS→Option R):po E an o T p st K=(po E an o T p st some).bind K:=by
 unfold po;split
 ·split
  ·split
   ·split
    ·split<;>rfl
    ·rfl
   ·rfl
  ·rfl
 ·split
  ·exact GM _ _ _ _ _ K
  split
  ·split<;>rfl
  ·exact Mi _ _ _ _ _ K
 ·rfl
theorem GK (r:eE)(t:Nat)(e:CT)(i:Int)(off:Nat)(vs:List AC)(K:AS→Option R):st.jS r t e i off vs K=(st.jS r t e i off vs some).bind K:=by
 unfold AS.jS;split
 ·split
  ·split
   ·rw [cQ]
    congr 1
    funext y
    split<;>rfl
   ·rfl
  ·rfl
 ·split
  ·split
   ·rw [cQ]
    congr 1
    funext y
    split<;>rfl
   ·rfl
  ·rfl
 ·rfl
theorem Mk (T:TypeId)(p x:Operand)(K:AS→Option R):qe E T p x st K=(qe E T p x st some).bind K:=by
 unfold qe;split
 ·split
  ·split
   ·split
    ·split<;>rfl
    ·rfl
   ·rfl
  ·rfl
 ·split
  ·split
   ·rw [GK]
   ·rfl
  ·rfl
 ·rfl
theorem KT (S:TypeId)(p:Operand)(f:Nat)(K:AS→Option R):tf E o S p f st K=(tf E o S p f st some).bind K:=by
 unfold tf;split
 ·split<;>rfl
 ·split<;>rfl
 ·rfl
theorem C0 (T:TypeId)(x i:Operand)(K:AS→Option R):gP E o T x i st K=(gP E o T x i st some).bind K:=by
 unfold gP;split
 ·split
  ·rw [cQ];rfl
  ·rfl
 ·rfl
theorem Lo (T:TypeId)(x i:Operand)(K:AS→Option R):uV E o T x i st K=(uV E o T x i st some).bind K:=by
 unfold uV;split
 ·split
  ·rw [cQ];rfl
  ·rfl
 ·rfl
theorem Kc (T:TypeId)(ps:List (Nat×Operand))(K:AS→Option R):uS E o T ps st K=(uS E o T ps st some).bind K:=by
 unfold uS;split
 ·split;split<;>rfl
 ·rfl
theorem BA (T:TypeId)(n:Nat)(ps:List (Nat×Operand))(K:AS→Option R):gi E o T n ps st K=(gi E o T n ps st some).bind K:=by
 unfold gi;split
 ·split
  ·split;split<;>rfl
  ·rfl
 ·rfl
theorem C1 (T:TypeId)(n c:Operand)(K:AS→Option R):jq E o T n c st K=(jq E o T n c st some).bind K:=by
 unfold jq;split
 ·split
  ·rw [vB];rfl
  ·rfl
 ·rfl
theorem Ah {β:Type}(lo hi:Option Operand)(n:Nat)(k:Int→Int→Option β)(K:β→Option R):(gX st lo hi n k).bind K=gX st lo hi n fun x y=>(k x y).bind K:=by
 unfold gX;split<;>rfl
theorem C7 (T:TypeId)(x:Operand)(lo hi:Option Operand)(K:AS→Option R):qa E o T x lo hi st K=(qa E o T x lo hi st some).bind K:=by
 unfold qa;split
 ·split
  ·rw [cQ];rfl
  ·rfl
 ·rfl
theorem Ma (T:TypeId)(x:Operand)(lo hi:Option Operand)(K:AS→Option R):tY E an o T x lo hi st K=(tY E an o T x lo hi st some).bind K:=by
 unfold tY;split
 ·exact C7 T x lo hi K
 split
 ·split
  ·rw [Ah];congr 1;funext p q;rw [cQ];rfl
  ·rfl
 ·split
  ·rw [Ah];congr 1;funext p q;rw [cQ];rfl
  ·rfl
 ·rfl
theorem Gm (src dst:TypeId)(x:Operand)(K:AS→Option R):gr E o src dst x st K=(gr E o src dst x st some).bind K:=by
 unfold gr;split
 ·rfl
 ·rfl
 ·split
  ·rw [vB];rfl
  ·rfl
 ·split<;>rfl
 ·rfl
theorem Gp (t i:Nat)(K:AS→Option R):gu o t i st K=(gu o t i st some).bind K:=by
 unfold gu;split
 ·split<;>rfl
 ·rfl
theorem QY (ts:List TypeId)(args:List Operand)(K:AS→Option R):E7 E o ts args st K=(E7 E o ts args st some).bind K:=by
 unfold E7;split
 ·split<;>rfl
 ·split<;>rfl
 ·rfl
theorem Q3 (args:List Operand)(K:AS→Option R):Gy o args st K=(Gy o args st some).bind K:=by unfold Gy;split<;>rfl
theorem Q2 (args:List Operand)(K:AS→Option R):Gx o args st K=(Gx o args st some).bind K:=by unfold Gx;split<;>rfl
theorem MV (ts:List TypeId)(args:List Operand)(K:AS→Option R):GR E o ts args st K=(GR E o ts args st some).bind K:=by
 unfold GR;split
 ·split
  ·split
   ·split<;>rfl
   ·rfl
  ·rfl
 ·rfl
theorem IZ (S:TypeId)(t f:Nat)(K:AS→Option R):yu E o S t f st K=(yu E o S t f st some).bind K:=by
 unfold yu;split
 ·split
  ·split<;>rfl
  ·rfl
 ·rfl
theorem HN (ts:List TypeId)(args:List Operand)(K:AS→Option R):qh E o ts args st K=(qh E o ts args st some).bind K:=by
 unfold qh;split
 ·split
  ·split
   ·split
    ·split
     ·rw [vB];rfl
     ·rfl
    ·rfl
   ·split
    ·split
     ·rw [vB];rfl
     ·rfl
    ·rfl
   ·rfl
  ·rfl
 ·rfl
theorem N0 (f:Nat)(g:Bool)(cs:List AC)(xs:List Operand)(K:AS→Option R):Hn Γ o f g cs xs st K=(Hn Γ o f g cs xs st some).bind K:=by
 unfold Hn
 split
 ·split
  ·split
   ·rw [sT,cQ]
    congr 1
    congr 1
    funext x
    split
    ·rw [cQ]
     congr 1
     funext y
     split
     ·split
      ·cases ((Γ f).av y).cH<;>rfl
      ·rfl
     ·rfl
    ·rfl
   ·rfl
  ·rfl
 ·rfl
theorem Te (f:Nat)(args:List Operand)(K:AS→Option R):ioC Γ o f args st K=(ioC Γ o f args st some).bind K:=by
 unfold ioC
 split
 ·split
  ·split
   ·split
    ·split
     ·rw [sT,cQ]
      congr 1
      congr 1
      funext y
      split
      ·cases ((Γ f).av y).cH<;>rfl
      ·rfl
     ·rfl
    ·rfl
   ·exact N0 f _ _ _ K
  ·rfl
 ·rfl
theorem Gl (f:Nat)(args:List Operand)(K:AS→Option R):u7 Γ o f args st K=(u7 Γ o f args st some).bind K:=by
 unfold u7
 split
 ·split
  ·split
   ·rw [sT,cQ]
    congr 1
    congr 1
    funext y
    rw [sT];rfl
   ·rfl
  ·rfl
 ·rfl
theorem MS (f:Operand)(args:List Operand)(K:AS→Option R):xC Γ o f args st K=(xC Γ o f args st some).bind K:=by
 unfold xC;split
 ·rename_i k hk
  cases (Γ k).bx with
  |true=>exact Gl k args K
  |false=>
  simp only [cond_false]
  cases (Γ k).io with
  |true=>exact Te k args K
  |false=>simp only [cond_false];rw [cQ];congr 1;funext y;rw [sT];rfl
 ·rfl
theorem NC {β:Type}(op:BinOp)(k:IntKind)(x y:Int)(c:AC→Option β)(K:β→Option R):(AK op k x y c).bind K=AK op k x y fun z=>(c z).bind K:=by
 unfold AK;split<;>(try rfl)<;>(split<;>rfl)
theorem Ox {β:Type}(op:BinOp)(x y:List UInt8)(c:AC→Option β)(K:β→Option R):(CO op x y c).bind K=CO op x y fun z=>(c z).bind K:=by
 unfold CO;split<;>(try rfl);rw [vB]
theorem yo {β:Type}(op:BinOp)(x y:AV)(c:AC→Option β)(K:β→Option R):(yT op x y c).bind K=yT op x y fun z=>(c z).bind K:=by
 unfold yT;split
 ·split
  ·split<;>rfl
  ·split<;>rfl
  ·split
   ·rw [NC]
   ·rfl
 ·rw [Ox]
 ·split<;>rfl
 ·split
  ·rw [cQ]
  ·rw [cQ]
  ·rfl
 ·rfl
theorem Mx {β:Type}(op:UnOp)(x:AV)(c:AC→Option β)(K:β→Option R):(VQ op x c).bind K=VQ op x fun z=>(c z).bind K:=by
 unfold VQ;split<;>rfl
theorem ED {β:Type}(op:BinOp)(b:Bool)(c:AC→Option β)(K:β→Option R):(xh op b c).bind K=xh op b fun z=>(c z).bind K:=by
 unfold xh;split<;>rfl
theorem MQ (op:BinOp)(T:TypeId)(x y:Operand)(K:AS→Option R):ui E o op T x y st K=(ui E o op T x y st some).bind K:=by
 unfold ui;split
 ·split
  ·rw [yo];rfl
  ·rfl
 ·split
  ·split
   ·rw [yo];rfl
   ·rfl
  ·rfl
 ·split
  ·split
   ·rfl
   ·rw [ED];rfl
  ·rfl
 ·split
  ·rw [ED];rfl
  ·rfl
 ·rw [yo];rfl
theorem FU (K:AS→Option R):bg E Γ an o st K=(bg E Γ an o st some).bind K:=by
 unfold bg;split
 ·exact NS _ K
 ·split
  ·exact NK _ K
  ·exact HO _ K
 ·exact N7 _ _ _ K
 ·exact J6 _ K
 ·exact P9 _ K
 ·exact NN _ _ K
 ·split
  ·split
   ·exact C9 _ _ _ K
   ·exact Mk _ _ _ K
  ·rfl
 ·split<;>rfl
 ·exact MQ _ _ _ _ K
 ·rw [Mx];rfl
 ·exact KT _ _ _ K
 ·exact C0 _ _ _ K
 ·exact Lo _ _ _ K
 ·exact Kc _ _ K
 ·exact BA _ _ _ K
 ·exact C1 _ _ _ K
 ·exact Ma _ _ _ _ K
 ·exact IZ _ _ _ K
 ·exact MV _ _ K
 ·exact Gm _ _ _ K
 ·exact Gp _ _ K
 ·exact QY _ _ K
 ·exact Q3 _ K
 ·exact Q2 _ K
 ·exact HN _ _ K
 ·exact MS _ _ K
 ·rfl
theorem kX (ops:List Oper)(K:AS→Option R):de E Γ an ops o st K=(de E Γ an ops o st some).bind K:=by
 unfold de;split
 ·exact FU K
 ·rename_i j want hg
  split
  ·rename_i d hd
   split
   ·rename_i b hb
    have hgo:∀t:Bool,(if (t==want)=true then bg E Γ an o (st.put (some d) (.one (.bool t))) K else K ((st.put (some d) (.one (.bool t))).put o.dst (.one .un)))=
     (if (t==want)=true then bg E Γ an o (st.put (some d) (.one (.bool t))) some else some ((st.put (some d) (.one (.bool t))).put o.dst (.one .un))).bind K:=by
     intro t
     split
     ·exact FU K
     ·rfl
    cases b with
    |true=>exact hgo true
    |false=>exact hgo false
   ·rfl
   ·rfl
  ·rfl
theorem Ho (ops:List Oper):∀(l:List Oper)(st:AS)(K:AS→Option R),Jm E Γ an ops l st K=(Jm E Γ an ops l st some).bind K
 |[],st,K=>rfl
 |o::l,st,K=>by
  simp only [Jm]
  rw [kX,kX (K:=fun st'=>Jm E Γ an ops l st' some),Option.bind_assoc]
  congr 1
  funext st'
  exact Ho ops l st' K
end Go.Dn
