import Derived.Test.YthjhpjjgcfedbaaGreatDnBase
/- The abstract steps, without their continuations. -/
namespace Go.Dn
variable {R:Type} {E:Env} {Γ:cH} {an:An} {o:Oper} {st:AS}
theorem vP {α β:Type}{x:Option α}{k:α→Option β}{z:β}(h:ab x k=some z):∃y,x=some y∧k y=some z:=by cases x with|none=>cases h|some y=>exact⟨y,rfl,h⟩
theorem df {α β:Type}(x:Option α)(k:α→Option β)(K:β→Option R):(ab x k).bind K=ab x λy=>(k y).bind K:=by cases x<;>rfl
theorem px {β:Type}(n:Nat)(k:Option β)(K:β→Option R):(room n k).bind K=room n (k.bind K):=by unfold room;split<;>rfl
theorem iS {β:Type}(b:Bool)(x y:Option β)(K:β→Option R):(cond b x y).bind K=cond b (x.bind K) (y.bind K):=by cases b<;>rfl
theorem Er (x:Operand)(K:AS→Option R):pq an o x st K=(pq an o x st some).bind K:=by unfold pq;split;split<;>rfl;rfl
theorem Eh (x:Operand)(K:AS→Option R):yN o x st K=(yN o x st some).bind K:=by unfold yN;split<;>rfl
theorem vx (T:TypeId)(p x:Operand)(K:AS→Option R):lT E T p x st K=(lT E T p x st some).bind K:=by unfold lT;split;split;split;split;split<;>rfl;rfl;rfl;rfl;rfl
theorem zu (x:Operand)(K:AS→Option R):kO E an o x st K=(kO E an o x st some).bind K:=by unfold kO;split;split<;>rfl;rfl
theorem ED (c x y:Operand)(K:AS→Option R):qN o c x y st K=(qN o c x y st some).bind K:=by unfold qN;split;split;rfl;rw[iS];rfl;rfl
theorem AP (T:TypeId)(K:AS→Option R):pC E o T st K=(pC E o T st some).bind K:=by unfold pC;split;split<;>rfl;rfl
theorem Gg (x:Operand)(K:AS→Option R):zw o x st K=(zw o x st some).bind K:=by unfold zw;split;split;split<;>rfl;rfl;rfl
theorem C5 (sh:Shape)(fl:ie)(e:CT)(i:Int)(off:Nat)(K:AS→Option R):pY o sh fl e i off st K=(pY o sh fl e i off st some).bind K:=by unfold pY;split;split;split;split;rw[df];rfl;rfl;rfl;rfl;rfl
theorem yu (sh:Shape)(fl:ie)(e:CT)(i:Int)(off:Nat)(K:AS→Option R):mK o sh fl e i off st K=(mK o sh fl e i off st some).bind K:=by unfold mK;split;split;split;split;rw[df];rfl;rfl;rfl;rfl;rfl
theorem Ek (T:TypeId)(p:Operand)(K:AS→Option R):gU E an o T p st K=(gU E an o T p st some).bind K:=by unfold gU;split;split;split;split;split<;>rfl;rfl;rfl;rfl;split;exact yu _ _ _ _ _ K;split;split<;>rfl;exact C5 _ _ _ _ _ K;rfl
theorem yq (r:eL)(t:Nat)(e:CT)(i:Int)(off:Nat)(vs:List AC)(K:AS→Option R):st.hC r t e i off vs K=(st.hC r t e i off vs some).bind K:=by unfold AS.hC;split;split;split;rw[df];congr 1;funext y;split<;>rfl;rfl;rfl;split;split;rw[df];congr 1;funext y;split<;>rfl;rfl;rfl;rfl
theorem C7 (T:TypeId)(p x:Operand)(K:AS→Option R):lS E T p x st K=(lS E T p x st some).bind K:=by unfold lS;split;split;split;split;split<;>rfl;rfl;rfl;rfl;split;split;rw[yq];rfl;rfl;rfl
theorem BB (S:TypeId)(p:Operand)(f:Nat)(K:AS→Option R):nO E o S p f st K=(nO E o S p f st some).bind K:=by unfold nO;split;split<;>rfl;split<;>rfl;rfl
theorem vn (T:TypeId)(x i:Operand)(K:AS→Option R):fM E o T x i st K=(fM E o T x i st some).bind K:=by unfold fM;split;split;rw[df];rfl;rfl;rfl
theorem BQ (T:TypeId)(x i:Operand)(K:AS→Option R):oP E o T x i st K=(oP E o T x i st some).bind K:=by unfold oP;split;split;rw[df];rfl;rfl;rfl
theorem AZ (T:TypeId)(ps:List (Nat×Operand))(K:AS→Option R):oK E o T ps st K=(oK E o T ps st some).bind K:=by unfold oK;split;split;split<;>rfl;rfl
theorem tV (T:TypeId)(n:Nat)(ps:List (Nat×Operand))(K:AS→Option R):fy E o T n ps st K=(fy E o T n ps st some).bind K:=by unfold fy;split;split;split;split<;>rfl;rfl;rfl
theorem vo (T:TypeId)(n c:Operand)(K:AS→Option R):gK E o T n c st K=(gK E o T n c st some).bind K:=by unfold gK;split;split;rw[px];rfl;rfl;rfl
theorem sN {β:Type}(lo hi:Option Operand)(n:Nat)(k:Int→Int→Option β)(K:β→Option R):(fU st lo hi n k).bind K=fU st lo hi n λx y=>(k x y).bind K:=by unfold fU;split<;>rfl
theorem vw (T:TypeId)(x:Operand)(lo hi:Option Operand)(K:AS→Option R):lM E o T x lo hi st K=(lM E o T x lo hi st some).bind K:=by unfold lM;split;split;rw[df];rfl;rfl;rfl
theorem CW (T:TypeId)(x:Operand)(lo hi:Option Operand)(K:AS→Option R):nY E an o T x lo hi st K=(nY E an o T x lo hi st some).bind K:=by unfold nY;split;exact vw T x lo hi K;split;split;rw[sN];congr 1;funext p q;rw[df];rfl;rfl;split;rw[sN];congr 1;funext p q;rw[df];rfl;rfl;rfl
theorem xU (src dst:TypeId)(x:Operand)(K:AS→Option R):fz E o src dst x st K=(fz E o src dst x st some).bind K:=by unfold fz;split;rfl;rfl;split;rw[px];rfl;rfl;split<;>rfl;rfl
theorem xV (t i:Nat)(K:AS→Option R):fB o t i st K=(fB o t i st some).bind K:=by unfold fB;split;split<;>rfl;rfl
theorem GM (ts:List TypeId)(args:List Operand)(K:AS→Option R):wT E o ts args st K=(wT E o ts args st some).bind K:=by unfold wT;split;split<;>rfl;split<;>rfl;rfl
theorem GV (args:List Operand)(K:AS→Option R):ye o args st K=(ye o args st some).bind K:=by unfold ye;split<;>rfl
theorem GS (args:List Operand)(K:AS→Option R):yd o args st K=(yd o args st some).bind K:=by unfold yd;split<;>rfl
theorem DG (ts:List TypeId)(args:List Operand)(K:AS→Option R):yC E o ts args st K=(yC E o ts args st some).bind K:=by unfold yC;split;split;split;split<;>rfl;rfl;rfl;rfl
theorem Ab (S:TypeId)(t f:Nat)(K:AS→Option R):rk E o S t f st K=(rk E o S t f st some).bind K:=by unfold rk;split;split;split<;>rfl;rfl;rfl
theorem zr (ts:List TypeId)(args:List Operand)(K:AS→Option R):lW E o ts args st K=(lW E o ts args st some).bind K:=by unfold lW;split;split;split;split;split;rw[px];rfl;rfl;rfl;split;split;rw[px];rfl;rfl;rfl;rfl;rfl;rfl
theorem Ez (f:Nat)(g:Bool)(cs:List AC)(xs:List Operand)(K:AS→Option R):yU Γ o f g cs xs st K=(yU Γ o f g cs xs st some).bind K:=by unfold yU;split;split;split;rw[iS,df];congr 1;congr 1;funext x;split;rw[df];congr 1;funext y;split;split;cases ((Γ f).av y).dg<;>rfl;rfl;rfl;rfl;rfl;rfl;rfl
theorem IH (f:Nat)(args:List Operand)(K:AS→Option R):OK Γ o f args st K=(OK Γ o f args st some).bind K:=by unfold OK;split;split;split;split;split;rw[iS,df];congr 1;congr 1;funext y;split;cases ((Γ f).av y).dg<;>rfl;rfl;rfl;rfl;exact Ez f _ _ _ K;rfl;rfl
theorem xT (f:Nat)(args:List Operand)(K:AS→Option R):kP Γ o f args st K=(kP Γ o f args st some).bind K:=by unfold kP;split;split;split;rw[iS,df];congr 1;congr 1;funext y;rw[iS,iS];rfl;rfl;rfl;rfl
theorem G8 (f:Nat)(args:List Operand)(K:AS→Option R):G7 Γ o f args st K=(G7 Γ o f args st some).bind K:=by unfold G7;split;split;rw[iS,df];congr 1;congr 1;funext y;rw[iS];rfl;rfl;rfl
theorem DA (f:Operand)(args:List Operand)(K:AS→Option R):ql Γ o f args st K=(ql Γ o f args st some).bind K:=by
 unfold ql;split
 ·rename_i k hk
  cases (Γ k).bx with
  |true=>exact xT k args K
  |false=>
  simp only[al]
  cases (Γ k).pr with
  |true=>exact G8 k args K
  |false=>
  simp only[al]
  cases (Γ k).io with
  |true=>exact IH k args K
  |false=>simp only[al];rw[df];congr 1;funext y;rw[iS];rfl
 rfl
theorem D7 {β:Type}(op:BinOp)(k:IntKind)(x y:Int)(c:AC→Option β)(K:β→Option R):(s6 op k x y c).bind K=s6 op k x y λz=>(c z).bind K:=by unfold s6;split<;>(try rfl)<;>(split<;>rfl)
theorem EY {β:Type}(op:BinOp)(x y:List UInt8)(c:AC→Option β)(K:β→Option R):(u3 op x y c).bind K=u3 op x y λz=>(c z).bind K:=by unfold u3;split<;>(try rfl);rw[px]
theorem ri {β:Type}(op:BinOp)(x y:AV)(c:AC→Option β)(K:β→Option R):(rL op x y c).bind K=rL op x y λz=>(c z).bind K:=by unfold rL;split;split;split<;>rfl;split<;>rfl;split;rw[D7];rfl;rw[EY];split<;>rfl;split;rw[df];rw[df];rfl;rfl
theorem C8 {β:Type}(op:UnOp)(x:AV)(c:AC→Option β)(K:β→Option R):(Kh op x c).bind K=Kh op x λz=>(c z).bind K:=by unfold Kh;split<;>rfl
theorem wo {β:Type}(op:BinOp)(b:Bool)(c:AC→Option β)(K:β→Option R):(qm op b c).bind K=qm op b λz=>(c z).bind K:=by unfold qm;split<;>rfl
theorem Du (op:BinOp)(T:TypeId)(x y:Operand)(K:AS→Option R):n8 E o op T x y st K=(n8 E o op T x y st some).bind K:=by unfold n8;split;split;rw[ri];rfl;rfl;split;split;rw[ri];rfl;rfl;rfl;split;split;rfl;rw[wo];rfl;rfl;split;rw[wo];rfl;rfl;rw[ri];rfl
theorem xC (K:AS→Option R):bG E Γ an o st K=(bG E Γ an o st some).bind K:=by unfold bG;split;exact Er _ K;split;exact Eh _ K;exact zu _ K;exact ED _ _ _ K;exact AP _ K;exact Gg _ K;exact Ek _ _ K;split;split;exact vx _ _ _ K;exact C7 _ _ _ K;rfl;split<;>rfl;exact Du _ _ _ _ K;rw[C8];rfl;exact BB _ _ _ K;exact vn _ _ _ K;exact BQ _ _ _ K;exact AZ _ _ K;exact tV _ _ _ K;exact vo _ _ _ K;exact CW _ _ _ _ K;exact Ab _ _ _ K;exact DG _ _ K;exact xU _ _ _ K;exact xV _ _ K;exact GM _ _ K;exact GV _ K;exact GS _ K;exact zr _ _ K;exact DA _ _ K;rfl
theorem iD (ops:List Oper)(K:AS→Option R):dj E Γ an ops o st K=(dj E Γ an ops o st some).bind K:=by
 unfold dj;split;exact xC K;rename_i j want hg;split;rename_i d hd;split;rename_i b hb
 have hgo:∀t:Bool,(if(t==want)=true then bG E Γ an o (st.put (some d) (.one (.bool t))) K else K ((st.put (some d) (.one (.bool t))).put o.dst (.one .un)))=
  (if(t==want)=true then bG E Γ an o (st.put (some d) (.one (.bool t))) some else some ((st.put (some d) (.one (.bool t))).put o.dst (.one .un))).bind K:=by
  intro t
  split
  ·exact xC K
  ·rfl
 cases b with|true=>exact hgo true|false=>exact hgo false
 rfl;rfl;rfl
theorem yV (ops:List Oper):∀(l:List Oper)(st:AS)(K:AS→Option R),Ao E Γ an ops l st K=(Ao E Γ an ops l st some).bind K
 |[],st,K=>rfl
 |o::l,st,K=>by simp only[Ao];rw[iD,iD (K:=λst'=>Ao E Γ an ops l st' some),Option.bind_assoc];congr 1;funext st';exact yV ops l st' K
end Go.Dn
