import Derived.Test.YthjhpjjgcfedbaaGreatDnBase
/- The abstract steps, without their continuations. -/
namespace Go.Dn
variable {R:Type} {E:Env} {Γ:cD} {an:An} {o:Oper} {st:AS}
theorem xt {α β:Type}{x:Option α}{k:α→Option β}{z:β}(h:aa x k=some z):∃y,x=some y∧k y=some z:=by cases x with|none=>cases h|some y=>exact⟨y,rfl,h⟩
theorem dr {α β:Type}(x:Option α)(k:α→Option β)(K:β→Option R):(aa x k).bind K=aa x λy=>(k y).bind K:=by cases x<;>rfl
theorem qO {β:Type}(n:Nat)(k:Option β)(K:β→Option R):(room n k).bind K=room n (k.bind K):=by unfold room;split<;>rfl
theorem jB {β:Type}(b:Bool)(x y:Option β)(K:β→Option R):(cond b x y).bind K=cond b (x.bind K) (y.bind K):=by cases b<;>rfl
theorem GC (x:Operand)(K:AS→Option R):qM an o x st K=(qM an o x st some).bind K:=by unfold qM;split;split<;>rfl;rfl
theorem Gt (x:Operand)(K:AS→Option R):AA o x st K=(AA o x st some).bind K:=by unfold AA;split<;>rfl
theorem xb (T:TypeId)(p x:Operand)(K:AS→Option R):mV E T p x st K=(mV E T p x st some).bind K:=by unfold mV;split;split;split;split;split<;>rfl;rfl;rfl;rfl;rfl
theorem Bk (x:Operand)(K:AS→Option R):lH E an o x st K=(lH E an o x st some).bind K:=by unfold lH;split;split<;>rfl;rfl
theorem GO (c x y:Operand)(K:AS→Option R):sE o c x y st K=(sE o c x y st some).bind K:=by unfold sE;split;split;rfl;rw[jB];rfl;rfl
theorem CM (T:TypeId)(K:AS→Option R):qU E o T st K=(qU E o T st some).bind K:=by unfold qU;split;split<;>rfl;rfl
theorem Io (x:Operand)(K:AS→Option R):Bm o x st K=(Bm o x st some).bind K:=by unfold Bm;split;split;split<;>rfl;rfl;rfl
theorem Fb (sh:Shape)(fl:iS)(e:CT)(i:Int)(off:Nat)(K:AS→Option R):rr o sh fl e i off st K=(rr o sh fl e i off st some).bind K:=by unfold rr;split;split;split;split;rw[dr];rfl;rfl;rfl;rfl;rfl
theorem Ab (sh:Shape)(fl:iS)(e:CT)(i:Int)(off:Nat)(K:AS→Option R):nY o sh fl e i off st K=(nY o sh fl e i off st some).bind K:=by unfold nY;split;split;split;split;rw[dr];rfl;rfl;rfl;rfl;rfl
theorem Gw (T:TypeId)(p:Operand)(K:AS→Option R):im E an o T p st K=(im E an o T p st some).bind K:=by unfold im;split;split;split;split;split<;>rfl;rfl;rfl;rfl;split;exact Ab _ _ _ _ _ K;split;split<;>rfl;exact Fb _ _ _ _ _ K;rfl
theorem z0 (r:eY)(t:Nat)(e:CT)(i:Int)(off:Nat)(vs:List AC)(K:AS→Option R):st.iD r t e i off vs K=(st.iD r t e i off vs some).bind K:=by unfold AS.iD;split;split;split;rw[dr];congr 1;funext y;split<;>rfl;rfl;rfl;split;split;rw[dr];congr 1;funext y;split<;>rfl;rfl;rfl;rfl
theorem Fe (T:TypeId)(p x:Operand)(K:AS→Option R):mU E T p x st K=(mU E T p x st some).bind K:=by unfold mU;split;split;split;split;split<;>rfl;rfl;rfl;rfl;split;split;rw[z0];rfl;rfl;rfl
theorem Du (S:TypeId)(p:Operand)(f:Nat)(K:AS→Option R):pj E o S p f st K=(pj E o S p f st some).bind K:=by unfold pj;split;split<;>rfl;split<;>rfl;rfl
theorem w4 (T:TypeId)(x i:Operand)(K:AS→Option R):gn E o T x i st K=(gn E o T x i st some).bind K:=by unfold gn;split;split;rw[dr];rfl;rfl;rfl
theorem DS (T:TypeId)(x i:Operand)(K:AS→Option R):qp E o T x i st K=(qp E o T x i st some).bind K:=by unfold qp;split;split;rw[dr];rfl;rfl;rfl
theorem CW (T:TypeId)(ps:List (Nat×Operand))(K:AS→Option R):ql E o T ps st K=(ql E o T ps st some).bind K:=by unfold ql;split;split;split<;>rfl;rfl
theorem vt (T:TypeId)(n:Nat)(ps:List (Nat×Operand))(K:AS→Option R):fU E o T n ps st K=(fU E o T n ps st some).bind K:=by unfold fU;split;split;split;split<;>rfl;rfl;rfl
theorem w5 (T:TypeId)(n c:Operand)(K:AS→Option R):hU E o T n c st K=(hU E o T n c st some).bind K:=by unfold hU;split;split;rw[qO];rfl;rfl;rfl
theorem um {β:Type}(lo hi:Option Operand)(n:Nat)(k:Int→Int→Option β)(K:β→Option R):(gz st lo hi n k).bind K=gz st lo hi n λx y=>(k x y).bind K:=by unfold gz;split<;>rfl
theorem xa (T:TypeId)(x:Operand)(lo hi:Option Operand)(K:AS→Option R):mN E o T x lo hi st K=(mN E o T x lo hi st some).bind K:=by unfold mN;split;split;rw[dr];rfl;rfl;rfl
theorem E0 (T:TypeId)(x:Operand)(lo hi:Option Operand)(K:AS→Option R):pE E an o T x lo hi st K=(pE E an o T x lo hi st some).bind K:=by unfold pE;split;exact xa T x lo hi K;split;split;rw[um];congr 1;funext p q;rw[dr];rfl;rfl;split;rw[um];congr 1;funext p q;rw[dr];rfl;rfl;rfl
theorem zG (src dst:TypeId)(x:Operand)(K:AS→Option R):fV E o src dst x st K=(fV E o src dst x st some).bind K:=by unfold fV;split;rfl;rfl;split;rw[qO];rfl;rfl;split<;>rfl;rfl
theorem zI (t i:Nat)(K:AS→Option R):fY o t i st K=(fY o t i st some).bind K:=by unfold fY;split;split<;>rfl;rfl
theorem IW (ts:List TypeId)(args:List Operand)(K:AS→Option R):yt E o ts args st K=(yt E o ts args st some).bind K:=by unfold yt;split;split<;>rfl;split<;>rfl;rfl
theorem I4 (args:List Operand)(K:AS→Option R):zQ o args st K=(zQ o args st some).bind K:=by unfold zQ;split<;>rfl
theorem I2 (args:List Operand)(K:AS→Option R):zP o args st K=(zP o args st some).bind K:=by unfold zP;split<;>rfl
theorem FO (ts:List TypeId)(args:List Operand)(K:AS→Option R):Al E o ts args st K=(Al E o ts args st some).bind K:=by unfold Al;split;split;split;split<;>rfl;rfl;rfl;rfl
theorem B0 (S:TypeId)(t f:Nat)(K:AS→Option R):sX E o S t f st K=(sX E o S t f st some).bind K:=by unfold sX;split;split;split<;>rfl;rfl;rfl
theorem Bi (ts:List TypeId)(args:List Operand)(K:AS→Option R):mY E o ts args st K=(mY E o ts args st some).bind K:=by unfold mY;split;split;split;split;split;rw[qO];rfl;rfl;rfl;split;split;rw[qO];rfl;rfl;rfl;rfl;rfl;rfl
theorem GK (f:Nat)(g:Bool)(cs:List AC)(xs:List Operand)(K:AS→Option R):AJ Γ o f g cs xs st K=(AJ Γ o f g cs xs st some).bind K:=by unfold AJ;split;split;split;rw[jB,dr];congr 1;congr 1;funext x;split;rw[dr];congr 1;funext y;split;split;cases ((Γ f).av y).du<;>rfl;rfl;rfl;rfl;rfl;rfl;rfl
theorem KQ (f:Nat)(args:List Operand)(K:AS→Option R):Rd Γ o f args st K=(Rd Γ o f args st some).bind K:=by unfold Rd;split;split;split;split;split;rw[jB,dr];congr 1;congr 1;funext y;split;cases ((Γ f).av y).du<;>rfl;rfl;rfl;rfl;exact GK f _ _ _ K;rfl;rfl
theorem zF (f:Nat)(args:List Operand)(K:AS→Option R):lI Γ o f args st K=(lI Γ o f args st some).bind K:=by unfold lI;split;split;split;rw[jB,dr];congr 1;congr 1;funext y;rw[jB,jB];rfl;rfl;rfl;rfl
theorem Jg (f:Nat)(args:List Operand)(K:AS→Option R):Jf Γ o f args st K=(Jf Γ o f args st some).bind K:=by unfold Jf;split;split;rw[jB,dr];congr 1;congr 1;funext y;rw[jB];rfl;rfl;rfl
theorem FI (f:Operand)(args:List Operand)(K:AS→Option R):rH Γ o f args st K=(rH Γ o f args st some).bind K:=by
 unfold rH;split
 ·rename_i k hk
  cases (Γ k).bx with
  |true=>exact zF k args K
  |false=>
  simp only[ai]
  cases (Γ k).pr with
  |true=>exact Jg k args K
  |false=>
  simp only[ai]
  cases (Γ k).io with
  |true=>exact KQ k args K
  |false=>simp only[ai];rw[dr];congr 1;funext y;rw[jB];rfl
 rfl
theorem Gg {β:Type}(op:BinOp)(k:IntKind)(x y:Int)(c:AC→Option β)(K:β→Option R):(uF op k x y c).bind K=uF op k x y λz=>(c z).bind K:=by unfold uF;split<;>(try rfl)<;>(split<;>rfl)
theorem G7 {β:Type}(op:BinOp)(x y:List UInt8)(c:AC→Option β)(K:β→Option R):(wK op x y c).bind K=wK op x y λz=>(c z).bind K:=by unfold wK;split<;>(try rfl);rw[qO]
theorem sV {β:Type}(op:BinOp)(x y:AV)(c:AC→Option β)(K:β→Option R):(tq op x y c).bind K=tq op x y λz=>(c z).bind K:=by unfold tq;split;split;split<;>rfl;split<;>rfl;split;rw[Gg];rfl;rw[G7];split<;>rfl;split;rw[dr];rw[dr];rfl;rfl
theorem Ff {β:Type}(op:UnOp)(x:AV)(c:AC→Option β)(K:β→Option R):(Mr op x c).bind K=Mr op x λz=>(c z).bind K:=by unfold Mr;split<;>rfl
theorem xR {β:Type}(op:BinOp)(b:Bool)(c:AC→Option β)(K:β→Option R):(rJ op b c).bind K=rJ op b λz=>(c z).bind K:=by unfold rJ;split<;>rfl
theorem FB (op:BinOp)(T:TypeId)(x y:Operand)(K:AS→Option R):pL E o op T x y st K=(pL E o op T x y st some).bind K:=by unfold pL;split;split;rw[sV];rfl;rfl;split;split;rw[sV];rfl;rfl;rfl;split;split;rfl;rw[xR];rfl;rfl;split;rw[xR];rfl;rfl;rw[sV];rfl
theorem zm (K:AS→Option R):bN E Γ an o st K=(bN E Γ an o st some).bind K:=by unfold bN;split;exact GC _ K;split;exact Gt _ K;exact Bk _ K;exact GO _ _ _ K;exact CM _ K;exact Io _ K;exact Gw _ _ K;split;split;exact xb _ _ _ K;exact Fe _ _ _ K;rfl;split<;>rfl;exact FB _ _ _ _ K;rw[Ff];rfl;exact Du _ _ _ K;exact w4 _ _ _ K;exact DS _ _ _ K;exact CW _ _ K;exact vt _ _ _ K;exact w5 _ _ _ K;exact E0 _ _ _ _ K;exact B0 _ _ _ K;exact FO _ _ K;exact zG _ _ _ K;exact zI _ _ K;exact IW _ _ K;exact I4 _ K;exact I2 _ K;exact Bi _ _ K;exact FI _ _ K;rfl
theorem jn (ops:List Oper)(K:AS→Option R):dx E Γ an ops o st K=(dx E Γ an ops o st some).bind K:=by
 unfold dx;split;exact zm K;rename_i j want hg;split;rename_i d hd;split;rename_i b hb
 have hgo:∀t:Bool,(if(t==want)=true then bN E Γ an o (st.put (some d) (.one (.bool t))) K else K ((st.put (some d) (.one (.bool t))).put o.dst (.one .un)))=
  (if(t==want)=true then bN E Γ an o (st.put (some d) (.one (.bool t))) some else some ((st.put (some d) (.one (.bool t))).put o.dst (.one .un))).bind K:=by
  intro t
  split
  ·exact zm K
  ·rfl
 cases b with|true=>exact hgo true|false=>exact hgo false
 rfl;rfl;rfl
theorem AK (ops:List Oper):∀(l:List Oper)(st:AS)(K:AS→Option R),Ch E Γ an ops l st K=(Ch E Γ an ops l st some).bind K
 |[],st,K=>rfl
 |o::l,st,K=>by simp only[Ch];rw[jn,jn (K:=λst'=>Ch E Γ an ops l st' some),Option.bind_assoc];congr 1;funext st';exact AK ops l st' K
end Go.Dn
