import Derived.Test.YtnmppgnbjfdffaaGreatDnBase
/- The abstract steps, without their continuations. -/
namespace Go.Dn
variable {R:Type} {E:Env} {Γ:zP} {an:An} {o:Oper} {st:AS}
theorem LF {α β:Type}{x:aC α}{k:α->aC β}{z:β}(h:aa x k=some z):∃y,x=some y/\k y=some z:=by cases x with|none=>cases h|some y=>exact⟨y,rfl,h⟩
theorem jm {α β:Type}(x:aC α)(k:α->aC β)(K:β->aC R):(aa x k).bind K=aa x λy=>(k y).bind K:=by cases x<;>rfl
theorem Cp {β:Type}(n:Nat)(k:aC β)(K:β->aC R):(room n k).bind K=room n (k.bind K):=by unfold room;split<;>rfl
theorem wF {β:Type}(b:Bool)(x y:aC β)(K:β->aC R):(cond b x y).bind K=cond b (x.bind K) (y.bind K):=by cases b<;>rfl
theorem X0 (x:Operand)(K:AS->aC R):Cl an o x st K=(Cl an o x st some).bind K:=by unfold Cl;split;split<;>rfl;rfl
theorem XO (x:Operand)(K:AS->aC R):PW o x st K=(PW o x st some).bind K:=by unfold PW;split<;>rfl
theorem K5 (T:TypeId)(p x:Operand)(K:AS->aC R):wU E T p x st K=(wU E T p x st some).bind K:=by unfold wU;split;split;split;split;split<;>rfl;rfl;rfl;rfl;rfl
theorem QV (x:Operand)(K:AS->aC R):uO E an o x st K=(uO E an o x st some).bind K:=by unfold uO;split;split<;>rfl;rfl
theorem Ya (c x y:Operand)(K:AS->aC R):Et o c x y st K=(Et o c x y st some).bind K:=by unfold Et;split;split;rfl;rw[wF];rfl;rfl
theorem SZ (T:TypeId)(K:AS->aC R):Cz E o T st K=(Cz E o T st some).bind K:=by unfold Cz;split;split<;>rfl;rfl
theorem aao (x:Operand)(K:AS->aC R):QX o x st K=(QX o x st some).bind K:=by unfold QX;split;split;split<;>rfl;rfl;rfl
theorem VA (sh:Shape)(fl:qL)(e:CT)(i:Int)(off:Nat)(K:AS->aC R):Da o sh fl e i off st K=(Da o sh fl e i off st some).bind K:=by unfold Da;split;split;split;split;rw[jm];rfl;rfl;rfl;rfl;rfl
theorem OY (sh:Shape)(fl:qL)(e:CT)(i:Int)(off:Nat)(K:AS->aC R):ya o sh fl e i off st K=(ya o sh fl e i off st some).bind K:=by unfold ya;split;split;split;split;rw[jm];rfl;rfl;rfl;rfl;rfl
theorem XT (T:TypeId)(p:Operand)(K:AS->aC R):pC E an o T p st K=(pC E an o T p st some).bind K:=by unfold pC;split;split;split;split;split<;>rfl;rfl;rfl;rfl;split;exact OY _ _ _ _ _ K;split;split<;>rfl;exact VA _ _ _ _ _ K;rfl
theorem OU (r:lq)(t:Nat)(e:CT)(i:Int)(off:Nat)(vs:ay AC)(K:AS->aC R):st.pM r t e i off vs K=(st.pM r t e i off vs some).bind K:=by unfold AS.pM;split;split;split;rw[jm];congr 1;funext y;split<;>rfl;rfl;rfl;split;split;rw[jm];congr 1;funext y;split<;>rfl;rfl;rfl;rfl
theorem VB (T:TypeId)(p x:Operand)(K:AS->aC R):wT E T p x st K=(wT E T p x st some).bind K:=by unfold wT;split;split;split;split;split<;>rfl;rfl;rfl;rfl;split;split;rw[OU];rfl;rfl;rfl
theorem Tr (S:TypeId)(p:Operand)(f:Nat)(K:AS->aC R):zT E o S p f st K=(zT E o S p f st some).bind K:=by unfold zT;split;split<;>rfl;split<;>rfl;rfl
theorem KV (T:TypeId)(x i:Operand)(K:AS->aC R):mY E o T x i st K=(mY E o T x i st some).bind K:=by unfold mY;split;split;rw[jm];rfl;rfl;rfl
theorem Um (T:TypeId)(x i:Operand)(K:AS->aC R):BF E o T x i st K=(BF E o T x i st some).bind K:=by unfold BF;split;split;rw[jm];rfl;rfl;rfl
theorem Ta (T:TypeId)(ps:ay (Nat×Operand))(K:AS->aC R):Bw E o T ps st K=(Bw E o T ps st some).bind K:=by unfold Bw;split;split;split<;>rfl;rfl
theorem II (T:TypeId)(n:Nat)(ps:ay (Nat×Operand))(K:AS->aC R):mn E o T n ps st K=(mn E o T n ps st some).bind K:=by unfold mn;split;split;split;split<;>rfl;rfl;rfl
theorem KW (T:TypeId)(n c:Operand)(K:AS->aC R):oW E o T n c st K=(oW E o T n c st some).bind K:=by unfold oW;split;split;rw[Cp];rfl;rfl;rfl
theorem G1 {β:Type}(lo hi:aC Operand)(n:Nat)(k:Int->Int->aC β)(K:β->aC R):(nr st lo hi n k).bind K=nr st lo hi n λx y=>(k x y).bind K:=by unfold nr;split<;>rfl
theorem K4 (T:TypeId)(x:Operand)(lo hi:aC Operand)(K:AS->aC R):wM E o T x lo hi st K=(wM E o T x lo hi st some).bind K:=by unfold wM;split;split;rw[jm];rfl;rfl;rfl
theorem Vs (T:TypeId)(x:Operand)(lo hi:aC Operand)(K:AS->aC R):Av E an o T x lo hi st K=(Av E an o T x lo hi st some).bind K:=by unfold Av;split;exact K4 T x lo hi K;split;split;rw[G1];congr 1;funext p q;rw[jm];rfl;rfl;split;rw[G1];congr 1;funext p q;rw[jm];rfl;rfl;rfl
theorem Oi (src dst:TypeId)(x:Operand)(K:AS->aC R):mr E o src dst x st K=(mr E o src dst x st some).bind K:=by unfold mr;split;rfl;rfl;split;rw[Cp];rfl;rfl;split<;>rfl;rfl
theorem Oj (t i:Nat)(K:AS->aC R):mw o t i st K=(mw o t i st some).bind K:=by unfold mw;split;split<;>rfl;rfl
theorem abq (ts:ay TypeId)(args:ay Operand)(K:AS->aC R):MX E o ts args st K=(MX E o ts args st some).bind K:=by unfold MX;split;split<;>rfl;split<;>rfl;rfl
theorem abE (args:ay Operand)(K:AS->aC R):OG o args st K=(OG o args st some).bind K:=by unfold OG;split<;>rfl
theorem abA (args:ay Operand)(K:AS->aC R):OF o args st K=(OF o args st some).bind K:=by unfold OF;split<;>rfl
theorem Wt (ts:ay TypeId)(args:ay Operand)(K:AS->aC R):Pa E o ts args st K=(Pa E o ts args st some).bind K:=by unfold Pa;split;split;split;split<;>rfl;rfl;rfl;rfl
theorem Ru (S:TypeId)(t f:Nat)(K:AS->aC R):E3 E o S t f st K=(E3 E o S t f st some).bind K:=by unfold E3;split;split;split<;>rfl;rfl;rfl
theorem QT (ts:ay TypeId)(args:ay Operand)(K:AS->aC R):xa E o ts args st K=(xa E o ts args st some).bind K:=by unfold xa;split;split;split;split;split;rw[Cp];rfl;rfl;rfl;split;split;rw[Cp];rfl;rfl;rfl;rfl;rfl;rfl
theorem Oh (f:Nat)(args:ay Operand)(K:AS->aC R):uQ Γ o f args st K=(uQ Γ o f args st some).bind K:=by unfold uQ;split;split;split;rw[wF,jm];congr 1;congr 1;funext y;rw[wF,wF];rfl;rfl;rfl;rfl
theorem abP (f:Nat)(args:ay Operand)(K:AS->aC R):abO Γ o f args st K=(abO Γ o f args st some).bind K:=by unfold abO;split;split;rw[wF,jm];congr 1;congr 1;funext y;rw[wF];rfl;rfl;rfl
theorem Wo (f:Operand)(args:ay Operand)(K:AS->aC R):Dt Γ o f args st K=(Dt Γ o f args st some).bind K:=by
 unfold Dt;split
 ·rename_i k hk
  cases (Γ k).bx with
  |true=>exact Oh k args K
  |false=>
  simp only[af]
  cases (Γ k).pr with
  |true=>exact abP k args K
  |false=>
  simp only[af]
  cases (Γ k).io with
  |true=>rfl
  |false=>simp only[af];rw[jm];congr 1;funext y;rw[wF];rfl
 rfl
theorem XE {β:Type}(op:BinOp)(k:IntKind)(x y:Int)(c:AC->aC β)(K:β->aC R):(HH op k x y c).bind K=HH op k x y λz=>(c z).bind K:=by unfold HH;split<;>(try rfl)<;>(split<;>rfl)
theorem YE {β:Type}(op:BinOp)(x y:ay UInt8)(c:AC->aC β)(K:β->aC R):(Kw op x y c).bind K=Kw op x y λz=>(c z).bind K:=by unfold Kw;split<;>(try rfl);rw[Cp]
theorem E1 {β:Type}(op:BinOp)(x y:AV)(c:AC->aC β)(K:β->aC R):(FA op x y c).bind K=FA op x y λz=>(c z).bind K:=by unfold FA;split;split;split<;>rfl;split<;>rfl;split;rw[XE];rfl;rw[YE];split<;>rfl;split;rw[jm];rw[jm];rfl;rfl
theorem VM {β:Type}(op:UnOp)(x:AV)(c:AC->aC β)(K:β->aC R):(unC op x c).bind K=unC op x λz=>(c z).bind K:=by unfold unC;split<;>rfl
theorem L4 {β:Type}(op:BinOp)(b:Bool)(c:AC->aC β)(K:β->aC R):(Du op b c).bind K=Du op b λz=>(c z).bind K:=by unfold Du;split<;>rfl
theorem Wh (op:BinOp)(T:TypeId)(x y:Operand)(K:AS->aC R):AM E o op T x y st K=(AM E o op T x y st some).bind K:=by unfold AM;split;split;rw[E1];rfl;rfl;split;split;rw[E1];rfl;rfl;rfl;split;split;rfl;rw[L4];rfl;rfl;split;rw[L4];rfl;rfl;rw[E1];rfl
theorem NP (K:AS->aC R):dD E Γ an o st K=(dD E Γ an o st some).bind K:=by unfold dD;split;exact X0 _ K;split;exact XO _ K;exact QV _ K;exact Ya _ _ _ K;exact SZ _ K;exact aao _ K;exact XT _ _ K;split;split;exact K5 _ _ _ K;exact VB _ _ _ K;rfl;split<;>rfl;exact Wh _ _ _ _ K;rw[VM];rfl;exact Tr _ _ _ K;exact KV _ _ _ K;exact Um _ _ _ K;exact Ta _ _ K;exact II _ _ _ K;exact KW _ _ _ K;exact Vs _ _ _ _ K;exact Ru _ _ _ K;exact Wt _ _ K;exact Oi _ _ _ K;exact Oj _ _ K;exact abq _ _ K;exact abE _ K;exact abA _ K;exact QT _ _ K;exact Wo _ _ K;rfl
theorem qR (ops:ay Oper)(K:AS->aC R):iq E Γ an ops o st K=(iq E Γ an ops o st some).bind K:=by
 unfold iq;split;exact NP K;rename_i j GK hg;split;rename_i d hd;split;rename_i b hb
 have hgo:∀t:Bool,(if(t==GK)=true then dD E Γ an o (st.put (some d) (.one (.bool t))) K else K ((st.put (some d) (.one (.bool t))).put o.dst (.one .un)))=
  (if(t==GK)=true then dD E Γ an o (st.put (some d) (.one (.bool t))) some else some ((st.put (some d) (.one (.bool t))).put o.dst (.one .un))).bind K:=by
  intro t
  split
  ·exact NP K
  ·rfl
 cases b with|true=>exact hgo true|false=>exact hgo false
 rfl;rfl;rfl
theorem Qb (ops:ay Oper):∀(l:ay Oper)(st:AS)(K:AS->aC R),Sa E Γ an ops l st K=(Sa E Γ an ops l st some).bind K
 |[],st,K=>rfl
 |o::l,st,K=>by simp only[Sa];rw[qR,qR (K:=λbX=>Sa E Γ an ops l bX some),Option.bind_assoc];congr 1;funext bX;exact Qb ops l bX K
end Go.Dn
