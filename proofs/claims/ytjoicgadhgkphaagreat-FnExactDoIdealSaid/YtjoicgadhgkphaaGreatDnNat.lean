import Derived.Test.YtjoicgadhgkphaaGreatDnBase
/- The abstract steps, without their continuations. -/
namespace Go.Dn
variable {R:Type} {E:Env} {Γ:bN} {an:An} {o:Oper} {st:AS}
theorem Ba {α β:Type}{x:Option α}{k:α→Option β}{z:β}(h:aa x k=some z):∃y,x=some y∧k y=some z:=by cases x with|none=>cases h|some y=>exact⟨y,rfl,h⟩
theorem dQ {α β:Type}(x:Option α)(k:α→Option β)(K:β→Option R):(aa x k).bind K=aa x λy=>(k y).bind K:=by cases x<;>rfl
theorem tT {β:Type}(n:Nat)(k:Option β)(K:β→Option R):(room n k).bind K=room n (k.bind K):=by unfold room;split<;>rfl
theorem lI {β:Type}(b:Bool)(x y:Option β)(K:β→Option R):(cond b x y).bind K=cond b (x.bind K) (y.bind K):=by cases b<;>rfl
theorem KC (x:Operand)(K:AS→Option R):tR an o x st K=(tR an o x st some).bind K:=by unfold tR;split;split<;>rfl;rfl
theorem Kv (x:Operand)(K:AS→Option R):Ee o x st K=(Ee o x st some).bind K:=by unfold Ee;split<;>rfl
theorem As (T:TypeId)(p x:Operand)(K:AS→Option R):pk E T p x st K=(pk E T p x st some).bind K:=by unfold pk;split;split;split;split;split<;>rfl;rfl;rfl;rfl;rfl
theorem EX (x:Operand)(K:AS→Option R):nP E an o x st K=(nP E an o x st some).bind K:=by unfold nP;split;split<;>rfl;rfl
theorem KQ (c x y:Operand)(K:AS→Option R):vC o c x y st K=(vC o c x y st some).bind K:=by unfold vC;split;split;rfl;rw[lI];rfl;rfl
theorem GZ (T:TypeId)(K:AS→Option R):tZ E o T st K=(tZ E o T st some).bind K:=by unfold tZ;split;split<;>rfl;rfl
theorem MS (x:Operand)(K:AS→Option R):EZ o x st K=(EZ o x st some).bind K:=by unfold EZ;split;split;split<;>rfl;rfl;rfl
theorem Jh (sh:Shape)(fl:kH)(e:CT)(i:Int)(off:Nat)(K:AS→Option R):uN o sh fl e i off st K=(uN o sh fl e i off st some).bind K:=by unfold uN;split;split;split;split;rw[dQ];rfl;rfl;rfl;rfl;rfl
theorem DH (sh:Shape)(fl:kH)(e:CT)(i:Int)(off:Nat)(K:AS→Option R):qt o sh fl e i off st K=(qt o sh fl e i off st some).bind K:=by unfold qt;split;split;split;split;rw[dQ];rfl;rfl;rfl;rfl;rfl
theorem Ky (T:TypeId)(p:Operand)(K:AS→Option R):kj E an o T p st K=(kj E an o T p st some).bind K:=by unfold kj;split;split;split;split;split<;>rfl;rfl;rfl;rfl;split;exact DH _ _ _ _ _ K;split;split<;>rfl;exact Jh _ _ _ _ _ K;rfl
theorem DE (r:fR)(t:Nat)(e:CT)(i:Int)(off:Nat)(vs:List AC)(K:AS→Option R):st.kt r t e i off vs K=(st.kt r t e i off vs some).bind K:=by unfold AS.kt;split;split;split;rw[dQ];congr 1;funext y;split<;>rfl;rfl;rfl;split;split;rw[dQ];congr 1;funext y;split<;>rfl;rfl;rfl;rfl
theorem Jk (T:TypeId)(p x:Operand)(K:AS→Option R):pj E T p x st K=(pj E T p x st some).bind K:=by unfold pj;split;split;split;split;split<;>rfl;rfl;rfl;rfl;split;split;rw[DE];rfl;rfl;rfl
theorem HJ (S:TypeId)(p:Operand)(f:Nat)(K:AS→Option R):rJ E o S p f st K=(rJ E o S p f st some).bind K:=by unfold rJ;split;split<;>rfl;split<;>rfl;rfl
theorem Aj (T:TypeId)(x i:Operand)(K:AS→Option R):ij E o T x i st K=(ij E o T x i st some).bind K:=by unfold ij;split;split;rw[dQ];rfl;rfl;rfl
theorem Ii (T:TypeId)(x i:Operand)(K:AS→Option R):tr E o T x i st K=(tr E o T x i st some).bind K:=by unfold tr;split;split;rw[dQ];rfl;rfl;rfl
theorem G8 (T:TypeId)(ps:List (Nat×Operand))(K:AS→Option R):tj E o T ps st K=(tj E o T ps st some).bind K:=by unfold tj;split;split;split<;>rfl;rfl
theorem yT (T:TypeId)(n:Nat)(ps:List (Nat×Operand))(K:AS→Option R):gT E o T n ps st K=(gT E o T n ps st some).bind K:=by unfold gT;split;split;split;split<;>rfl;rfl;rfl
theorem Ak (T:TypeId)(n c:Operand)(K:AS→Option R):jO E o T n c st K=(jO E o T n c st some).bind K:=by unfold jO;split;split;rw[tT];rfl;rfl;rfl
theorem xL {β:Type}(lo hi:Option Operand)(n:Nat)(k:Int→Int→Option β)(K:β→Option R):(iw st lo hi n k).bind K=iw st lo hi n λx y=>(k x y).bind K:=by unfold iw;split<;>rfl
theorem Aq (T:TypeId)(x:Operand)(lo hi:Option Operand)(K:AS→Option R):pe E o T x lo hi st K=(pe E o T x lo hi st some).bind K:=by unfold pe;split;split;rw[dQ];rfl;rfl;rfl
theorem I1 (T:TypeId)(x:Operand)(lo hi:Option Operand)(K:AS→Option R):sy E an o T x lo hi st K=(sy E an o T x lo hi st some).bind K:=by unfold sy;split;exact Aq T x lo hi K;split;split;rw[xL];congr 1;funext p q;rw[dQ];rfl;rfl;split;rw[xL];congr 1;funext p q;rw[dQ];rfl;rfl;rfl
theorem De (src dst:TypeId)(x:Operand)(K:AS→Option R):gW E o src dst x st K=(gW E o src dst x st some).bind K:=by unfold gW;split;rfl;rfl;split;rw[tT];rfl;rfl;split<;>rfl;rfl
theorem Df (t i:Nat)(K:AS→Option R):gY o t i st K=(gY o t i st some).bind K:=by unfold gY;split;split<;>rfl;rfl
theorem Np (ts:List TypeId)(args:List Operand)(K:AS→Option R):Co E o ts args st K=(Co E o ts args st some).bind K:=by unfold Co;split;split<;>rfl;split<;>rfl;rfl
theorem Nu (args:List Operand)(K:AS→Option R):Dr o args st K=(Dr o args st some).bind K:=by unfold Dr;split<;>rfl
theorem Nt (args:List Operand)(K:AS→Option R):Dq o args st K=(Dq o args st some).bind K:=by unfold Dq;split<;>rfl
theorem JU (ts:List TypeId)(args:List Operand)(K:AS→Option R):DU E o ts args st K=(DU E o ts args st some).bind K:=by unfold DU;split;split;split;split<;>rfl;rfl;rfl;rfl
theorem FW (S:TypeId)(t f:Nat)(K:AS→Option R):vX E o S t f st K=(vX E o S t f st some).bind K:=by unfold vX;split;split;split<;>rfl;rfl;rfl
theorem EV (ts:List TypeId)(args:List Operand)(K:AS→Option R):po E o ts args st K=(po E o ts args st some).bind K:=by unfold po;split;split;split;split;split;rw[tT];rfl;rfl;rfl;split;split;rw[tT];rfl;rfl;rfl;rfl;rfl;rfl
theorem KJ (f:Nat)(g:Bool)(cs:List AC)(xs:List Operand)(K:AS→Option R):Eo Γ o f g cs xs st K=(Eo Γ o f g cs xs st some).bind K:=by unfold Eo;split;split;split;rw[lI,dQ];congr 1;congr 1;funext x;split;rw[dQ];congr 1;funext y;split;split;cases ((Γ f).av y).dR<;>rfl;rfl;rfl;rfl;rfl;rfl;rfl
theorem Pd (f:Nat)(args:List Operand)(K:AS→Option R):W6 Γ o f args st K=(W6 Γ o f args st some).bind K:=by unfold W6;split;split;split;split;split;rw[lI,dQ];congr 1;congr 1;funext y;split;cases ((Γ f).av y).dR<;>rfl;rfl;rfl;rfl;exact KJ f _ _ _ K;rfl;rfl
theorem Dd (f:Nat)(args:List Operand)(K:AS→Option R):nQ Γ o f args st K=(nQ Γ o f args st some).bind K:=by unfold nQ;split;split;split;rw[lI,dQ];congr 1;congr 1;funext y;rw[lI,lI];rfl;rfl;rfl;rfl
theorem NH (f:Nat)(args:List Operand)(K:AS→Option R):NG Γ o f args st K=(NG Γ o f args st some).bind K:=by unfold NG;split;split;rw[lI,dQ];congr 1;congr 1;funext y;rw[lI];rfl;rfl;rfl
theorem JQ (f:Operand)(args:List Operand)(K:AS→Option R):uW Γ o f args st K=(uW Γ o f args st some).bind K:=by
 unfold uW;split
 ·rename_i k hk
  cases (Γ k).bx with
  |true=>exact Dd k args K
  |false=>
  simp only[af]
  cases (Γ k).pr with
  |true=>exact NH k args K
  |false=>
  simp only[af]
  cases (Γ k).io with
  |true=>exact Pd k args K
  |false=>simp only[af];rw[dQ];congr 1;funext y;rw[lI];rfl
 rfl
theorem Km {β:Type}(op:BinOp)(k:IntKind)(x y:Int)(c:AC→Option β)(K:β→Option R):(yd op k x y c).bind K=yd op k x y λz=>(c z).bind K:=by unfold yd;split<;>(try rfl)<;>(split<;>rfl)
theorem K9 {β:Type}(op:BinOp)(x y:List UInt8)(c:AC→Option β)(K:β→Option R):(Ac op x y c).bind K=Ac op x y λz=>(c z).bind K:=by unfold Ac;split<;>(try rfl);rw[tT]
theorem vU {β:Type}(op:BinOp)(x y:AV)(c:AC→Option β)(K:β→Option R):(wF op x y c).bind K=wF op x y λz=>(c z).bind K:=by unfold wF;split;split;split<;>rfl;split<;>rfl;split;rw[Km];rfl;rw[K9];split<;>rfl;split;rw[dQ];rw[dQ];rfl;rfl
theorem Jt {β:Type}(op:UnOp)(x:AV)(c:AC→Option β)(K:β→Option R):(Rj op x c).bind K=Rj op x λz=>(c z).bind K:=by unfold Rj;split<;>rfl
theorem BX {β:Type}(op:BinOp)(b:Bool)(c:AC→Option β)(K:β→Option R):(uY op b c).bind K=uY op b λz=>(c z).bind K:=by unfold uY;split<;>rfl
theorem JK (op:BinOp)(T:TypeId)(x y:Operand)(K:AS→Option R):sD E o op T x y st K=(sD E o op T x y st some).bind K:=by unfold sD;split;split;rw[vU];rfl;rfl;split;split;rw[vU];rfl;rfl;rfl;split;split;rfl;rw[BX];rfl;rfl;split;rw[BX];rfl;rfl;rw[vU];rfl
theorem CR (K:AS→Option R):bS E Γ an o st K=(bS E Γ an o st some).bind K:=by unfold bS;split;exact KC _ K;split;exact Kv _ K;exact EX _ K;exact KQ _ _ _ K;exact GZ _ K;exact MS _ K;exact Ky _ _ K;split;split;exact As _ _ _ K;exact Jk _ _ _ K;rfl;split<;>rfl;exact JK _ _ _ _ K;rw[Jt];rfl;exact HJ _ _ _ K;exact Aj _ _ _ K;exact Ii _ _ _ K;exact G8 _ _ K;exact yT _ _ _ K;exact Ak _ _ _ K;exact I1 _ _ _ _ K;exact FW _ _ _ K;exact JU _ _ K;exact De _ _ _ K;exact Df _ _ K;exact Np _ _ K;exact Nu _ K;exact Nt _ K;exact EV _ _ K;exact JQ _ _ K;rfl
theorem lh (ops:List Oper)(K:AS→Option R):dX E Γ an ops o st K=(dX E Γ an ops o st some).bind K:=by
 unfold dX;split;exact CR K;rename_i j want hg;split;rename_i d hd;split;rename_i b hb
 have hgo:∀t:Bool,(if(t==want)=true then bS E Γ an o (st.put (some d) (.one (.bool t))) K else K ((st.put (some d) (.one (.bool t))).put o.dst (.one .un)))=
  (if(t==want)=true then bS E Γ an o (st.put (some d) (.one (.bool t))) some else some ((st.put (some d) (.one (.bool t))).put o.dst (.one .un))).bind K:=by
  intro t
  split
  ·exact CR K
  ·rfl
 cases b with|true=>exact hgo true|false=>exact hgo false
 rfl;rfl;rfl
theorem Ep (ops:List Oper):∀(l:List Oper)(st:AS)(K:AS→Option R),Gj E Γ an ops l st K=(Gj E Γ an ops l st some).bind K
 |[],st,K=>rfl
 |o::l,st,K=>by simp only[Gj];rw[lh,lh (K:=λst'=>Gj E Γ an ops l st' some),Option.bind_assoc];congr 1;funext st';exact Ep ops l st' K
end Go.Dn
