import Derived.Test.YtgbaemfepmabgaaGreatDnBase
/- The abstract steps, without their continuations. -/
namespace Go.Dn
variable {R:Type} {E:Env} {Γ:dK} {an:An} {o:Oper} {st:AS}
theorem KI {α β:Type}{x:az α}{k:α->az β}{z:β}(h:aa x k=some z):∃y,x=some y/\k y=some z:=by cases x with|none=>cases h|some y=>exact⟨y,rfl,h⟩
theorem iJ {α β:Type}(x:az α)(k:α->az β)(K:β->az R):(aa x k).bind K=aa x λy=>(k y).bind K:=by cases x<;>rfl
theorem BR {β:Type}(n:Nat)(k:az β)(K:β->az R):(room n k).bind K=room n (k.bind K):=by unfold room;split<;>rfl
theorem wc {β:Type}(b:Bool)(x y:az β)(K:β->az R):(cond b x y).bind K=cond b (x.bind K) (y.bind K):=by cases b<;>rfl
theorem XB (x:Operand)(K:AS->az R):BM an o x st K=(BM an o x st some).bind K:=by unfold BM;split;split<;>rfl;rfl
theorem Xs (x:Operand)(K:AS->az R):OR o x st K=(OR o x st some).bind K:=by unfold OR;split<;>rfl
theorem Kb (T:TypeId)(p x:Operand)(K:AS->az R):wL E T p x st K=(wL E T p x st some).bind K:=by unfold wL;split;split;split;split;split<;>rfl;rfl;rfl;rfl;rfl
theorem PT (x:Operand)(K:AS->az R):uI E an o x st K=(uI E an o x st some).bind K:=by unfold uI;split;split<;>rfl;rfl
theorem XO (c x y:Operand)(K:AS->az R):DH o c x y st K=(DH o c x y st some).bind K:=by unfold DH;split;split;rfl;rw[wc];rfl;rfl
theorem Sk (T:TypeId)(K:AS->az R):BZ E o T st K=(BZ E o T st some).bind K:=by unfold BZ;split;split<;>rfl;rfl
theorem aap (x:Operand)(K:AS->az R):PW o x st K=(PW o x st some).bind K:=by unfold PW;split;split;split<;>rfl;rfl;rfl
theorem VI (sh:Shape)(fl:qv)(e:CT)(i:Int)(off:Nat)(K:AS->az R):Cw o sh fl e i off st K=(Cw o sh fl e i off st some).bind K:=by unfold Cw;split;split;split;split;rw[iJ];rfl;rfl;rfl;rfl;rfl
theorem N1 (sh:Shape)(fl:qv)(e:CT)(i:Int)(off:Nat)(K:AS->az R):xY o sh fl e i off st K=(xY o sh fl e i off st some).bind K:=by unfold xY;split;split;split;split;rw[iJ];rfl;rfl;rfl;rfl;rfl
theorem Xv (T:TypeId)(p:Operand)(K:AS->az R):ph E an o T p st K=(ph E an o T p st some).bind K:=by unfold ph;split;split;split;split;split<;>rfl;rfl;rfl;rfl;split;exact N1 _ _ _ _ _ K;split;split<;>rfl;exact VI _ _ _ _ _ K;rfl
theorem NX (r:kG)(t:Nat)(e:CT)(i:Int)(off:Nat)(vs:aw AC)(K:AS->az R):st.pz r t e i off vs K=(st.pz r t e i off vs some).bind K:=by unfold AS.pz;split;split;split;rw[iJ];congr 1;funext y;split<;>rfl;rfl;rfl;split;split;rw[iJ];congr 1;funext y;split<;>rfl;rfl;rfl;rfl
theorem VL (T:TypeId)(p x:Operand)(K:AS->az R):wK E T p x st K=(wK E T p x st some).bind K:=by unfold wK;split;split;split;split;split<;>rfl;rfl;rfl;rfl;split;split;rw[NX];rfl;rfl;rfl
theorem S6 (S:TypeId)(p:Operand)(f:Nat)(K:AS->az R):zH E o S p f st K=(zH E o S p f st some).bind K:=by unfold zH;split;split<;>rfl;split<;>rfl;rfl
theorem J0 (T:TypeId)(x i:Operand)(K:AS->az R):mE E o T x i st K=(mE E o T x i st some).bind K:=by unfold mE;split;split;rw[iJ];rfl;rfl;rfl
theorem T3 (T:TypeId)(x i:Operand)(K:AS->az R):Bm E o T x i st K=(Bm E o T x i st some).bind K:=by unfold Bm;split;split;rw[iJ];rfl;rfl;rfl
theorem Sw (T:TypeId)(ps:aw (Nat×Operand))(K:AS->az R):Bh E o T ps st K=(Bh E o T ps st some).bind K:=by unfold Bh;split;split;split<;>rfl;rfl
theorem HN (T:TypeId)(n:Nat)(ps:aw (Nat×Operand))(K:AS->az R):lR E o T n ps st K=(lR E o T n ps st some).bind K:=by unfold lR;split;split;split;split<;>rfl;rfl;rfl
theorem J1 (T:TypeId)(n c:Operand)(K:AS->az R):oG E o T n c st K=(oG E o T n c st some).bind K:=by unfold oG;split;split;rw[BR];rfl;rfl;rfl
theorem Gd {β:Type}(lo hi:az Operand)(n:Nat)(k:Int->Int->az β)(K:β->az R):(mO st lo hi n k).bind K=mO st lo hi n λx y=>(k x y).bind K:=by unfold mO;split<;>rfl
theorem J9 (T:TypeId)(x:Operand)(lo hi:az Operand)(K:AS->az R):wB E o T x lo hi st K=(wB E o T x lo hi st some).bind K:=by unfold wB;split;split;rw[iJ];rfl;rfl;rfl
theorem Vy (T:TypeId)(x:Operand)(lo hi:az Operand)(K:AS->az R):Af E an o T x lo hi st K=(Af E an o T x lo hi st some).bind K:=by unfold Af;split;exact J9 T x lo hi K;split;split;rw[Gd];congr 1;funext p q;rw[iJ];rfl;rfl;split;rw[Gd];congr 1;funext p q;rw[iJ];rfl;rfl;rfl
theorem Nw (src dst:TypeId)(x:Operand)(K:AS->az R):lU E o src dst x st K=(lU E o src dst x st some).bind K:=by unfold lU;split;rfl;rfl;split;rw[BR];rfl;rfl;split<;>rfl;rfl
theorem Nz (t i:Nat)(K:AS->az R):lW o t i st K=(lW o t i st some).bind K:=by unfold lW;split;split<;>rfl;rfl
theorem abm (ts:aw TypeId)(args:aw Operand)(K:AS->az R):Mg E o ts args st K=(Mg E o ts args st some).bind K:=by unfold Mg;split;split<;>rfl;split<;>rfl;rfl
theorem abw (args:aw Operand)(K:AS->az R):NJ o args st K=(NJ o args st some).bind K:=by unfold NJ;split<;>rfl
theorem abr (args:aw Operand)(K:AS->az R):NI o args st K=(NI o args st some).bind K:=by unfold NI;split<;>rfl
theorem Wu (ts:aw TypeId)(args:aw Operand)(K:AS->az R):N9 E o ts args st K=(N9 E o ts args st some).bind K:=by unfold N9;split;split;split;split<;>rfl;rfl;rfl;rfl
theorem Q4 (S:TypeId)(t f:Nat)(K:AS->az R):Eh E o S t f st K=(Eh E o S t f st some).bind K:=by unfold Eh;split;split;split<;>rfl;rfl;rfl
theorem PQ (ts:aw TypeId)(args:aw Operand)(K:AS->az R):wO E o ts args st K=(wO E o ts args st some).bind K:=by unfold wO;split;split;split;split;split;rw[BR];rfl;rfl;rfl;split;split;rw[BR];rfl;rfl;rfl;rfl;rfl;rfl
theorem Nt (f:Nat)(args:aw Operand)(K:AS->az R):uJ Γ o f args st K=(uJ Γ o f args st some).bind K:=by unfold uJ;split;split;split;rw[wc,iJ];congr 1;congr 1;funext y;rw[wc,wc];rfl;rfl;rfl;rfl
theorem abH (f:Nat)(args:aw Operand)(K:AS->az R):abG Γ o f args st K=(abG Γ o f args st some).bind K:=by unfold abG;split;split;rw[wc,iJ];congr 1;congr 1;funext y;rw[wc];rfl;rfl;rfl
theorem Wn (f:Operand)(args:aw Operand)(K:AS->az R):CR Γ o f args st K=(CR Γ o f args st some).bind K:=by
 unfold CR;split
 ·rename_i k hk
  cases (Γ k).bx with
  |true=>exact Nt k args K
  |false=>
  simp only[af]
  cases (Γ k).pr with
  |true=>exact abH k args K
  |false=>
  simp only[af]
  cases (Γ k).io with
  |true=>rfl
  |false=>simp only[af];rw[iJ];congr 1;funext y;rw[wc];rfl
 rfl
theorem Xj {β:Type}(op:BinOp)(k:IntKind)(x y:Int)(c:AC->az β)(K:β->az R):(GV op k x y c).bind K=GV op k x y λz=>(c z).bind K:=by unfold GV;split<;>(try rfl)<;>(split<;>rfl)
theorem Ym {β:Type}(op:BinOp)(x y:aw UInt8)(c:AC->az β)(K:β->az R):(JA op x y c).bind K=JA op x y λz=>(c z).bind K:=by unfold JA;split<;>(try rfl);rw[BR]
theorem Ed {β:Type}(op:BinOp)(x y:AV)(c:AC->az β)(K:β->az R):(EH op x y c).bind K=EH op x y λz=>(c z).bind K:=by unfold EH;split;split;split<;>rfl;split<;>rfl;split;rw[Xj];rfl;rw[Ym];split<;>rfl;split;rw[iJ];rw[iJ];rfl;rfl
theorem VX {β:Type}(op:UnOp)(x:AV)(c:AC->az β)(K:β->az R):(unC op x c).bind K=unC op x λz=>(c z).bind K:=by unfold unC;split<;>rfl
theorem Ls {β:Type}(op:BinOp)(b:Bool)(c:AC->az β)(K:β->az R):(CS op b c).bind K=CS op b λz=>(c z).bind K:=by unfold CS;split<;>rfl
theorem Wd (op:BinOp)(T:TypeId)(x y:Operand)(K:AS->az R):Ay E o op T x y st K=(Ay E o op T x y st some).bind K:=by unfold Ay;split;split;rw[Ed];rfl;rfl;split;split;rw[Ed];rfl;rfl;rfl;split;split;rfl;rw[Ls];rfl;rfl;split;rw[Ls];rfl;rfl;rw[Ed];rfl
theorem M6 (K:AS->az R):cW E Γ an o st K=(cW E Γ an o st some).bind K:=by unfold cW;split;exact XB _ K;split;exact Xs _ K;exact PT _ K;exact XO _ _ _ K;exact Sk _ K;exact aap _ K;exact Xv _ _ K;split;split;exact Kb _ _ _ K;exact VL _ _ _ K;rfl;split<;>rfl;exact Wd _ _ _ _ K;rw[VX];rfl;exact S6 _ _ _ K;exact J0 _ _ _ K;exact T3 _ _ _ K;exact Sw _ _ K;exact HN _ _ _ K;exact J1 _ _ _ K;exact Vy _ _ _ _ K;exact Q4 _ _ _ K;exact Wu _ _ K;exact Nw _ _ _ K;exact Nz _ _ K;exact abm _ _ K;exact abw _ K;exact abr _ K;exact PQ _ _ K;exact Wn _ _ K;rfl
theorem qC (ops:aw Oper)(K:AS->az R):gP E Γ an ops o st K=(gP E Γ an ops o st some).bind K:=by
 unfold gP;split;exact M6 K;rename_i j want hg;split;rename_i d hd;split;rename_i b hb
 have hgo:∀t:Bool,(if(t==want)=true then cW E Γ an o (st.put (some d) (.one (.bool t))) K else K ((st.put (some d) (.one (.bool t))).put o.dst (.one .un)))=
  (if(t==want)=true then cW E Γ an o (st.put (some d) (.one (.bool t))) some else some ((st.put (some d) (.one (.bool t))).put o.dst (.one .un))).bind K:=by
  intro t
  split
  ·exact M6 K
  ·rfl
 cases b with|true=>exact hgo true|false=>exact hgo false
 rfl;rfl;rfl
theorem O4 (ops:aw Oper):∀(l:aw Oper)(st:AS)(K:AS->az R),RF E Γ an ops l st K=(RF E Γ an ops l st some).bind K
 |[],st,K=>rfl
 |o::l,st,K=>by simp only[RF];rw[qC,qC (K:=λst'=>RF E Γ an ops l st' some),Option.bind_assoc];congr 1;funext st';exact O4 ops l st' K
end Go.Dn
