import Derived.Test.YtgbaemfepmabgaaGreatDnBase
/- The abstract steps, without their continuations. -/
namespace Go.Dn
variable {R:Type} {E:Env} {Γ:cG} {an:An} {o:Oper} {st:AS}
theorem xB {α β:Type}{x:Option α}{k:α→Option β}{z:β}(h:aa x k=some z):∃y,x=some y∧k y=some z:=by cases x with|none=>cases h|some y=>exact⟨y,rfl,h⟩
theorem dE {α β:Type}(x:Option α)(k:α→Option β)(K:β→Option R):(aa x k).bind K=aa x λy=>(k y).bind K:=by cases x<;>rfl
theorem qX {β:Type}(n:Nat)(k:Option β)(K:β→Option R):(room n k).bind K=room n (k.bind K):=by unfold room;split<;>rfl
theorem jZ {β:Type}(b:Bool)(x y:Option β)(K:β→Option R):(cond b x y).bind K=cond b (x.bind K) (y.bind K):=by cases b<;>rfl
theorem Hk (x:Operand)(K:AS→Option R):qW an o x st K=(qW an o x st some).bind K:=by unfold qW;split;split<;>rfl;rfl
theorem Hb (x:Operand)(K:AS→Option R):AW o x st K=(AW o x st some).bind K:=by unfold AW;split<;>rfl
theorem xm (T:TypeId)(p x:Operand)(K:AS→Option R):nv E T p x st K=(nv E T p x st some).bind K:=by unfold nv;split;split;split;split;split<;>rfl;rfl;rfl;rfl;rfl
theorem BH (x:Operand)(K:AS→Option R):mc E an o x st K=(mc E an o x st some).bind K:=by unfold mc;split;split<;>rfl;rfl
theorem Hx (c x y:Operand)(K:AS→Option R):sN o c x y st K=(sN o c x y st some).bind K:=by unfold sN;split;split;rfl;rw[jZ];rfl;rfl
theorem De (T:TypeId)(K:AS→Option R):rh E o T st K=(rh E o T st some).bind K:=by unfold rh;split;split<;>rfl;rfl
theorem Ja (x:Operand)(K:AS→Option R):BI o x st K=(BI o x st some).bind K:=by unfold BI;split;split;split<;>rfl;rfl;rfl
theorem FZ (sh:Shape)(fl:jg)(e:CT)(i:Int)(off:Nat)(K:AS→Option R):rM o sh fl e i off st K=(rM o sh fl e i off st some).bind K:=by unfold rM;split;split;split;split;rw[dE];rfl;rfl;rfl;rfl;rfl
theorem Ax (sh:Shape)(fl:jg)(e:CT)(i:Int)(off:Nat)(K:AS→Option R):oo o sh fl e i off st K=(oo o sh fl e i off st some).bind K:=by unfold oo;split;split;split;split;rw[dE];rfl;rfl;rfl;rfl;rfl
theorem He (T:TypeId)(p:Operand)(K:AS→Option R):iL E an o T p st K=(iL E an o T p st some).bind K:=by unfold iL;split;split;split;split;split<;>rfl;rfl;rfl;rfl;split;exact Ax _ _ _ _ _ K;split;split<;>rfl;exact FZ _ _ _ _ _ K;rfl
theorem As (r:fg)(t:Nat)(e:CT)(i:Int)(off:Nat)(vs:List AC)(K:AS→Option R):st.iV r t e i off vs K=(st.iV r t e i off vs some).bind K:=by unfold AS.iV;split;split;split;rw[dE];congr 1;funext y;split<;>rfl;rfl;rfl;split;split;rw[dE];congr 1;funext y;split<;>rfl;rfl;rfl;rfl
theorem F2 (T:TypeId)(p x:Operand)(K:AS→Option R):nu E T p x st K=(nu E T p x st some).bind K:=by unfold nu;split;split;split;split;split<;>rfl;rfl;rfl;rfl;split;split;rw[As];rfl;rfl;rfl
theorem DV (S:TypeId)(p:Operand)(f:Nat)(K:AS→Option R):pj E o S p f st K=(pj E o S p f st some).bind K:=by unfold pj;split;split<;>rfl;split<;>rfl;rfl
theorem xf (T:TypeId)(x i:Operand)(K:AS→Option R):gw E o T x i st K=(gw E o T x i st some).bind K:=by unfold gw;split;split;rw[dE];rfl;rfl;rfl
theorem El (T:TypeId)(x i:Operand)(K:AS→Option R):qE E o T x i st K=(qE E o T x i st some).bind K:=by unfold qE;split;split;rw[dE];rfl;rfl;rfl
theorem Dm (T:TypeId)(ps:List (Nat×Operand))(K:AS→Option R):qw E o T ps st K=(qw E o T ps st some).bind K:=by unfold qw;split;split;split<;>rfl;rfl
theorem vA (T:TypeId)(n:Nat)(ps:List (Nat×Operand))(K:AS→Option R):fW E o T n ps st K=(fW E o T n ps st some).bind K:=by unfold fW;split;split;split;split<;>rfl;rfl;rfl
theorem xg (T:TypeId)(n c:Operand)(K:AS→Option R):iy E o T n c st K=(iy E o T n c st some).bind K:=by unfold iy;split;split;rw[qX];rfl;rfl;rfl
theorem uu {β:Type}(lo hi:Option Operand)(n:Nat)(k:Int→Int→Option β)(K:β→Option R):(gF st lo hi n k).bind K=gF st lo hi n λx y=>(k x y).bind K:=by unfold gF;split<;>rfl
theorem xk (T:TypeId)(x:Operand)(lo hi:Option Operand)(K:AS→Option R):nj E o T x lo hi st K=(nj E o T x lo hi st some).bind K:=by unfold nj;split;split;rw[dE];rfl;rfl;rfl
theorem FO (T:TypeId)(x:Operand)(lo hi:Option Operand)(K:AS→Option R):pH E an o T x lo hi st K=(pH E an o T x lo hi st some).bind K:=by unfold pH;split;exact xk T x lo hi K;split;split;rw[uu];congr 1;funext p q;rw[dE];rfl;rfl;split;rw[uu];congr 1;funext p q;rw[dE];rfl;rfl;rfl
theorem zT (src dst:TypeId)(x:Operand)(K:AS→Option R):fY E o src dst x st K=(fY E o src dst x st some).bind K:=by unfold fY;split;rfl;rfl;split;rw[qX];rfl;rfl;split<;>rfl;rfl
theorem zW (t i:Nat)(K:AS→Option R):gb o t i st K=(gb o t i st some).bind K:=by unfold gb;split;split<;>rfl;rfl
theorem JE (ts:List TypeId)(args:List Operand)(K:AS→Option R):yB E o ts args st K=(yB E o ts args st some).bind K:=by unfold yB;split;split<;>rfl;split<;>rfl;rfl
theorem JM (args:List Operand)(K:AS→Option R):Ad o args st K=(Ad o args st some).bind K:=by unfold Ad;split<;>rfl
theorem JK (args:List Operand)(K:AS→Option R):Ac o args st K=(Ac o args st some).bind K:=by unfold Ac;split<;>rfl
theorem GC (ts:List TypeId)(args:List Operand)(K:AS→Option R):AF E o ts args st K=(AF E o ts args st some).bind K:=by unfold AF;split;split;split;split<;>rfl;rfl;rfl;rfl
theorem Ck (S:TypeId)(t f:Nat)(K:AS→Option R):s9 E o S t f st K=(s9 E o S t f st some).bind K:=by unfold s9;split;split;split<;>rfl;rfl;rfl
theorem BF (ts:List TypeId)(args:List Operand)(K:AS→Option R):nz E o ts args st K=(nz E o ts args st some).bind K:=by unfold nz;split;split;split;split;split;rw[qX];rfl;rfl;rfl;split;split;rw[qX];rfl;rfl;rfl;rfl;rfl;rfl
theorem Hr (f:Nat)(g:Bool)(cs:List AC)(xs:List Operand)(K:AS→Option R):Be Γ o f g cs xs st K=(Be Γ o f g cs xs st some).bind K:=by unfold Be;split;split;split;rw[jZ,dE];congr 1;congr 1;funext x;split;rw[dE];congr 1;funext y;split;split;cases ((Γ f).av y).dF<;>rfl;rfl;rfl;rfl;rfl;rfl;rfl
theorem LP (f:Nat)(args:List Operand)(K:AS→Option R):SM Γ o f args st K=(SM Γ o f args st some).bind K:=by unfold SM;split;split;split;split;split;rw[jZ,dE];congr 1;congr 1;funext y;split;cases ((Γ f).av y).dF<;>rfl;rfl;rfl;rfl;exact Hr f _ _ _ K;rfl;rfl
theorem zR (f:Nat)(args:List Operand)(K:AS→Option R):md Γ o f args st K=(md Γ o f args st some).bind K:=by unfold md;split;split;split;rw[jZ,dE];congr 1;congr 1;funext y;rw[jZ,jZ];rfl;rfl;rfl;rfl
theorem JY (f:Nat)(args:List Operand)(K:AS→Option R):JX Γ o f args st K=(JX Γ o f args st some).bind K:=by unfold JX;split;split;rw[jZ,dE];congr 1;congr 1;funext y;rw[jZ];rfl;rfl;rfl
theorem Gy (f:Operand)(args:List Operand)(K:AS→Option R):sa Γ o f args st K=(sa Γ o f args st some).bind K:=by
 unfold sa;split
 ·rename_i k hk
  cases (Γ k).bx with
  |true=>exact zR k args K
  |false=>
  simp only[ak]
  cases (Γ k).pr with
  |true=>exact JY k args K
  |false=>
  simp only[ak]
  cases (Γ k).io with
  |true=>exact LP k args K
  |false=>simp only[ak];rw[dE];congr 1;funext y;rw[jZ];rfl
 rfl
theorem G2 {β:Type}(op:BinOp)(k:IntKind)(x y:Int)(c:AC→Option β)(K:β→Option R):(uM op k x y c).bind K=uM op k x y λz=>(c z).bind K:=by unfold uM;split<;>(try rfl)<;>(split<;>rfl)
theorem HN {β:Type}(op:BinOp)(x y:List UInt8)(c:AC→Option β)(K:β→Option R):(wN op x y c).bind K=wN op x y λz=>(c z).bind K:=by unfold wN;split<;>(try rfl);rw[qX]
theorem s6 {β:Type}(op:BinOp)(x y:AV)(c:AC→Option β)(K:β→Option R):(tw op x y c).bind K=tw op x y λz=>(c z).bind K:=by unfold tw;split;split;split<;>rfl;split<;>rfl;split;rw[G2];rfl;rw[HN];split<;>rfl;split;rw[dE];rw[dE];rfl;rfl
theorem F5 {β:Type}(op:UnOp)(x:AV)(c:AC→Option β)(K:β→Option R):(NH op x c).bind K=NH op x λz=>(c z).bind K:=by unfold NH;split<;>rfl
theorem yi {β:Type}(op:BinOp)(b:Bool)(c:AC→Option β)(K:β→Option R):(sc op b c).bind K=sc op b λz=>(c z).bind K:=by unfold sc;split<;>rfl
theorem Gn (op:BinOp)(T:TypeId)(x y:Operand)(K:AS→Option R):pT E o op T x y st K=(pT E o op T x y st some).bind K:=by unfold pT;split;split;rw[s6];rfl;rfl;split;split;rw[s6];rfl;rfl;rfl;split;split;rfl;rw[yi];rfl;rfl;split;rw[yi];rfl;rfl;rw[s6];rfl
theorem zx (K:AS→Option R):bT E Γ an o st K=(bT E Γ an o st some).bind K:=by unfold bT;split;exact Hk _ K;split;exact Hb _ K;exact BH _ K;exact Hx _ _ _ K;exact De _ K;exact Ja _ K;exact He _ _ K;split;split;exact xm _ _ _ K;exact F2 _ _ _ K;rfl;split<;>rfl;exact Gn _ _ _ _ K;rw[F5];rfl;exact DV _ _ _ K;exact xf _ _ _ K;exact El _ _ _ K;exact Dm _ _ K;exact vA _ _ _ K;exact xg _ _ _ K;exact FO _ _ _ _ K;exact Ck _ _ _ K;exact GC _ _ K;exact zT _ _ _ K;exact zW _ _ K;exact JE _ _ K;exact JM _ K;exact JK _ K;exact BF _ _ K;exact Gy _ _ K;rfl
theorem jJ (ops:List Oper)(K:AS→Option R):dH E Γ an ops o st K=(dH E Γ an ops o st some).bind K:=by
 unfold dH;split;exact zx K;rename_i j want hg;split;rename_i d hd;split;rename_i b hb
 have hgo:∀t:Bool,(if(t==want)=true then bT E Γ an o (st.put (some d) (.one (.bool t))) K else K ((st.put (some d) (.one (.bool t))).put o.dst (.one .un)))=
  (if(t==want)=true then bT E Γ an o (st.put (some d) (.one (.bool t))) some else some ((st.put (some d) (.one (.bool t))).put o.dst (.one .un))).bind K:=by
  intro t
  split
  ·exact zx K
  ·rfl
 cases b with|true=>exact hgo true|false=>exact hgo false
 rfl;rfl;rfl
theorem Bg (ops:List Oper):∀(l:List Oper)(st:AS)(K:AS→Option R),CI E Γ an ops l st K=(CI E Γ an ops l st some).bind K
 |[],st,K=>rfl
 |o::l,st,K=>by simp only[CI];rw[jJ,jJ (K:=λst'=>CI E Γ an ops l st' some),Option.bind_assoc];congr 1;funext st';exact Bg ops l st' K
end Go.Dn
