import Derived.Test.YtfbhfnniblfpbaaGreatDnBase
/- The abstract steps, without their continuations. -/
namespace Go.Dn
variable {R:Type} {E:Env} {Γ:xg} {an:An} {o:Oper} {st:AS}
theorem No {α β:Type}{x:aw α}{k:α->aw β}{z:β}(h:aa x k=some z):∃y,x=some y/\k y=some z:=by cases x with|none=>cases h|some y=>exact⟨y,rfl,h⟩
theorem fR {α β:Type}(x:aw α)(k:α->aw β)(K:β->aw R):(aa x k).bind K=aa x λy=>(k y).bind K:=by cases x<;>rfl
theorem DM {β:Type}(n:Nat)(k:aw β)(K:β->aw R):(room n k).bind K=room n (k.bind K):=by unfold room;split<;>rfl
theorem ru {β:Type}(b:Bool)(x y:aw β)(K:β->aw R):(cond b x y).bind K=cond b (x.bind K) (y.bind K):=by cases b<;>rfl
theorem Ya (x:Operand)(K:AS->aw R):DF an o x st K=(DF an o x st some).bind K:=by unfold DF;split;split<;>rfl;rfl
theorem X4 (x:Operand)(K:AS->aw R):Rk o x st K=(Rk o x st some).bind K:=by unfold Rk;split<;>rfl
theorem MO (T:TypeId)(p x:Operand)(K:AS->aw R):xI E T p x st K=(xI E T p x st some).bind K:=by unfold xI;split;split;split;split;split<;>rfl;rfl;rfl;rfl;rfl
theorem Se (x:Operand)(K:AS->aw R):vw E an o x st K=(vw E an o x st some).bind K:=by unfold vw;split;split<;>rfl;rfl
theorem Ym (c x y:Operand)(K:AS->aw R):GD o c x y st K=(GD o c x y st some).bind K:=by unfold GD;split;split;rfl;rw[ru];rfl;rfl
theorem T5 (T:TypeId)(K:AS->aw R):DY E o T st K=(DY E o T st some).bind K:=by unfold DY;split;split<;>rfl;rfl
theorem aam (x:Operand)(K:AS->aw R):Sg o x st K=(Sg o x st some).bind K:=by unfold Sg;split;split;split<;>rfl;rfl;rfl
theorem Wd (sh:Shape)(fl:qt)(e:CT)(i:Int)(off:Nat)(K:AS->aw R):E0 o sh fl e i off st K=(E0 o sh fl e i off st some).bind K:=by unfold E0;split;split;split;split;rw[fR];rfl;rfl;rfl;rfl;rfl
theorem Qv (sh:Shape)(fl:qt)(e:CT)(i:Int)(off:Nat)(K:AS->aw R):zu o sh fl e i off st K=(zu o sh fl e i off st some).bind K:=by unfold zu;split;split;split;split;rw[fR];rfl;rfl;rfl;rfl;rfl
theorem X7 (T:TypeId)(p:Operand)(K:AS->aw R):oW E an o T p st K=(oW E an o T p st some).bind K:=by unfold oW;split;split;split;split;split<;>rfl;rfl;rfl;rfl;split;exact Qv _ _ _ _ _ K;split;split<;>rfl;exact Wd _ _ _ _ _ K;rfl
theorem Qs (r:ka)(t:Nat)(e:CT)(i:Int)(off:Nat)(vs:au AC)(K:AS->aw R):st.pc r t e i off vs K=(st.pc r t e i off vs some).bind K:=by unfold AS.pc;split;split;split;rw[fR];congr 1;funext y;split<;>rfl;rfl;rfl;split;split;rw[fR];congr 1;funext y;split<;>rfl;rfl;rfl;rfl
theorem Wg (T:TypeId)(p x:Operand)(K:AS->aw R):xH E T p x st K=(xH E T p x st some).bind K:=by unfold xH;split;split;split;split;split<;>rfl;rfl;rfl;rfl;split;split;rw[Qs];rfl;rfl;rfl
theorem Ut (S:TypeId)(p:Operand)(f:Nat)(K:AS->aw R):Bf E o S p f st K=(Bf E o S p f st some).bind K:=by unfold Bf;split;split<;>rfl;split<;>rfl;rfl
theorem MG (T:TypeId)(x i:Operand)(K:AS->aw R):mq E o T x i st K=(mq E o T x i st some).bind K:=by unfold mq;split;split;rw[fR];rfl;rfl;rfl
theorem Vf (T:TypeId)(x i:Operand)(K:AS->aw R):C2 E o T x i st K=(C2 E o T x i st some).bind K:=by unfold C2;split;split;rw[fR];rfl;rfl;rfl
theorem Ud (T:TypeId)(ps:au (Nat×Operand))(K:AS->aw R):CW E o T ps st K=(CW E o T ps st some).bind K:=by unfold CW;split;split;split<;>rfl;rfl
theorem KJ (T:TypeId)(n:Nat)(ps:au (Nat×Operand))(K:AS->aw R):lE E o T n ps st K=(lE E o T n ps st some).bind K:=by unfold lE;split;split;split;split<;>rfl;rfl;rfl
theorem MH (T:TypeId)(n c:Operand)(K:AS->aw R):oy E o T n c st K=(oy E o T n c st some).bind K:=by unfold oy;split;split;rw[DM];rfl;rfl;rfl
theorem I9 {β:Type}(lo hi:aw Operand)(n:Nat)(k:Int->Int->aw β)(K:β->aw R):(mM st lo hi n k).bind K=mM st lo hi n λx y=>(k x y).bind K:=by unfold mM;split<;>rfl
theorem MM (T:TypeId)(x:Operand)(lo hi:aw Operand)(K:AS->aw R):xB E o T x lo hi st K=(xB E o T x lo hi st some).bind K:=by unfold xB;split;split;rw[fR];rfl;rfl;rfl
theorem VW (T:TypeId)(x:Operand)(lo hi:aw Operand)(K:AS->aw R):BR E an o T x lo hi st K=(BR E an o T x lo hi st some).bind K:=by unfold BR;split;exact MM T x lo hi K;split;split;rw[I9];congr 1;funext p q;rw[fR];rfl;rfl;split;rw[I9];congr 1;funext p q;rw[fR];rfl;rfl;rfl
theorem PX (src dst:TypeId)(x:Operand)(K:AS->aw R):lF E o src dst x st K=(lF E o src dst x st some).bind K:=by unfold lF;split;rfl;rfl;split;rw[DM];rfl;rfl;split<;>rfl;rfl
theorem PZ (t i:Nat)(K:AS->aw R):lG o t i st K=(lG o t i st some).bind K:=by unfold lG;split;split<;>rfl;rfl
theorem abi (ts:au TypeId)(args:au Operand)(K:AS->aw R):Oy E o ts args st K=(Oy E o ts args st some).bind K:=by unfold Oy;split;split<;>rfl;split<;>rfl;rfl
theorem abn (args:au Operand)(K:AS->aw R):Qd o args st K=(Qd o args st some).bind K:=by unfold Qd;split<;>rfl
theorem abm (args:au Operand)(K:AS->aw R):Qc o args st K=(Qc o args st some).bind K:=by unfold Qc;split<;>rfl
theorem Xc (ts:au TypeId)(args:au Operand)(K:AS->aw R):QD E o ts args st K=(QD E o ts args st some).bind K:=by unfold QD;split;split;split;split<;>rfl;rfl;rfl;rfl
theorem Sx (S:TypeId)(t f:Nat)(K:AS->aw R):G6 E o S t f st K=(G6 E o S t f st some).bind K:=by unfold G6;split;split;split<;>rfl;rfl;rfl
theorem Sc (ts:au TypeId)(args:au Operand)(K:AS->aw R):xL E o ts args st K=(xL E o ts args st some).bind K:=by unfold xL;split;split;split;split;split;rw[DM];rfl;rfl;rfl;split;split;rw[DM];rfl;rfl;rfl;rfl;rfl;rfl
theorem Yh (f:Nat)(g:Bool)(cs:au AC)(xs:au Operand)(K:AS->aw R):Rs Γ o f g cs xs st K=(Rs Γ o f g cs xs st some).bind K:=by unfold Rs;split;split;split;rw[ru,fR];congr 1;congr 1;funext x;split;rw[fR];congr 1;funext y;split;split;cases ((Γ f).av y).fS<;>rfl;rfl;rfl;rfl;rfl;rfl;rfl
theorem adU (f:Nat)(args:au Operand)(K:AS->aw R):ioC Γ o f args st K=(ioC Γ o f args st some).bind K:=by unfold ioC;split;split;split;split;split;rw[ru,fR];congr 1;congr 1;funext y;split;cases ((Γ f).av y).fS<;>rfl;rfl;rfl;rfl;exact Yh f _ _ _ K;rfl;rfl
theorem PW (f:Nat)(args:au Operand)(K:AS->aw R):vx Γ o f args st K=(vx Γ o f args st some).bind K:=by unfold vx;split;split;split;rw[ru,fR];congr 1;congr 1;funext y;rw[ru,ru];rfl;rfl;rfl;rfl
theorem abz (f:Nat)(args:au Operand)(K:AS->aw R):aby Γ o f args st K=(aby Γ o f args st some).bind K:=by unfold aby;split;split;rw[ru,fR];congr 1;congr 1;funext y;rw[ru];rfl;rfl;rfl
theorem W9 (f:Operand)(args:au Operand)(K:AS->aw R):Fh Γ o f args st K=(Fh Γ o f args st some).bind K:=by
 unfold Fh;split
 ·rename_i k hk
  cases (Γ k).bx with
  |true=>exact PW k args K
  |false=>
  simp only[ae]
  cases (Γ k).pr with
  |true=>exact abz k args K
  |false=>
  simp only[ae]
  cases (Γ k).io with
  |true=>exact adU k args K
  |false=>simp only[ae];rw[fR];congr 1;funext y;rw[ru];rfl
 rfl
theorem XW {β:Type}(op:BinOp)(k:IntKind)(x y:Int)(c:AC->aw β)(K:β->aw R):(JL op k x y c).bind K=JL op k x y λz=>(c z).bind K:=by unfold JL;split<;>(try rfl)<;>(split<;>rfl)
theorem YS {β:Type}(op:BinOp)(x y:au UInt8)(c:AC->aw β)(K:β->aw R):(Mn op x y c).bind K=Mn op x y λz=>(c z).bind K:=by unfold Mn;split<;>(try rfl);rw[DM]
theorem G2 {β:Type}(op:BinOp)(x y:AV)(c:AC->aw β)(K:β->aw R):(HG op x y c).bind K=HG op x y λz=>(c z).bind K:=by unfold HG;split;split;split<;>rfl;split<;>rfl;split;rw[XW];rfl;rw[YS];split<;>rfl;split;rw[fR];rw[fR];rfl;rfl
theorem Wx {β:Type}(op:UnOp)(x:AV)(c:AC->aw β)(K:β->aw R):(unC op x c).bind K=unC op x λz=>(c z).bind K:=by unfold unC;split<;>rfl
theorem NJ {β:Type}(op:BinOp)(b:Bool)(c:AC->aw β)(K:β->aw R):(Fj op b c).bind K=Fj op b λz=>(c z).bind K:=by unfold Fj;split<;>rfl
theorem W3 (op:BinOp)(T:TypeId)(x y:Operand)(K:AS->aw R):Cc E o op T x y st K=(Cc E o op T x y st some).bind K:=by unfold Cc;split;split;rw[G2];rfl;rfl;split;split;rw[G2];rfl;rfl;rfl;split;split;rfl;rw[NJ];rfl;rfl;split;rw[NJ];rfl;rfl;rw[G2];rfl
theorem Pj (K:AS->aw R):cU E Γ an o st K=(cU E Γ an o st some).bind K:=by unfold cU;split;exact Ya _ K;split;exact X4 _ K;exact Se _ K;exact Ym _ _ _ K;exact T5 _ K;exact aam _ K;exact X7 _ _ K;split;split;exact MO _ _ _ K;exact Wg _ _ _ K;rfl;split<;>rfl;exact W3 _ _ _ _ K;rw[Wx];rfl;exact Ut _ _ _ K;exact MG _ _ _ K;exact Vf _ _ _ K;exact Ud _ _ K;exact KJ _ _ _ K;exact MH _ _ _ K;exact VW _ _ _ _ K;exact Sx _ _ _ K;exact Xc _ _ K;exact PX _ _ _ K;exact PZ _ _ K;exact abi _ _ K;exact abn _ K;exact abm _ K;exact Sc _ _ K;exact W9 _ _ K;rfl
theorem qD (ops:au Oper)(K:AS->aw R):fY E Γ an ops o st K=(fY E Γ an ops o st some).bind K:=by
 unfold fY;split;exact Pj K;rename_i j I0 hg;split;rename_i d hd;split;rename_i b hb
 have hgo:∀t:Bool,(if(t==I0)=true then cU E Γ an o (st.put (some d) (.one (.bool t))) K else K ((st.put (some d) (.one (.bool t))).put o.dst (.one .un)))=
  (if(t==I0)=true then cU E Γ an o (st.put (some d) (.one (.bool t))) some else some ((st.put (some d) (.one (.bool t))).put o.dst (.one .un))).bind K:=by
  intro t
  split
  ·exact Pj K
  ·rfl
 cases b with|true=>exact hgo true|false=>exact hgo false
 rfl;rfl;rfl
theorem Ru (ops:au Oper):∀(l:au Oper)(st:AS)(K:AS->aw R),Tc E Γ an ops l st K=(Tc E Γ an ops l st some).bind K
 |[],st,K=>rfl
 |o::l,st,K=>by simp only[Tc];rw[qD,qD (K:=λst'=>Tc E Γ an ops l st' some),Option.bind_assoc];congr 1;funext st';exact Ru ops l st' K
end Go.Dn
