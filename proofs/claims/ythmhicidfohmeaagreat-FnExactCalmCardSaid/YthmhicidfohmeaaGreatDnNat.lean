import Derived.Test.YthmhicidfohmeaaGreatDnBase
/- The abstract steps, without their continuations. -/
namespace Go.Dn
variable {R:Type} {E:Env} {Γ:bH} {an:An} {o:Oper} {st:AS}
theorem EK {α β:Type}{x:Option α}{k:α→Option β}{z:β}(h:aa x k=some z):∃y,x=some y∧k y=some z:=by cases x with|none=>cases h|some y=>exact⟨y,rfl,h⟩
theorem eJ {α β:Type}(x:Option α)(k:α→Option β)(K:β→Option R):(aa x k).bind K=aa x λy=>(k y).bind K:=by cases x<;>rfl
theorem xg {β:Type}(n:Nat)(k:Option β)(K:β→Option R):(room n k).bind K=room n (k.bind K):=by unfold room;split<;>rfl
theorem uK {β:Type}(b:Bool)(x y:Option β)(K:β→Option R):(cond b x y).bind K=cond b (x.bind K) (y.bind K):=by cases b<;>rfl
theorem Px (x:Operand)(K:AS→Option R):xb an o x st K=(xb an o x st some).bind K:=by unfold xb;split;split<;>rfl;rfl
theorem Po (x:Operand)(K:AS→Option R):Iw o x st K=(Iw o x st some).bind K:=by unfold Iw;split<;>rfl
theorem El (T:TypeId)(p x:Operand)(K:AS→Option R):rY E T p x st K=(rY E T p x st some).bind K:=by unfold rY;split;split;split;split;split<;>rfl;rfl;rfl;rfl;rfl
theorem Jh (x:Operand)(K:AS→Option R):pS E an o x st K=(pS E an o x st some).bind K:=by unfold pS;split;split<;>rfl;rfl
theorem PJ (c x y:Operand)(K:AS→Option R):zH o c x y st K=(zH o c x y st some).bind K:=by unfold zH;split;split;rfl;rw[uK];rfl;rfl
theorem Lt (T:TypeId)(K:AS→Option R):xr E o T st K=(xr E o T st some).bind K:=by unfold xr;split;split<;>rfl;rfl
theorem R0 (x:Operand)(K:AS→Option R):Jj o x st K=(Jj o x st some).bind K:=by unfold Jj;split;split;split<;>rfl;rfl;rfl
theorem NO (sh:Shape)(fl:lK)(e:CT)(i:Int)(off:Nat)(K:AS→Option R):yt o sh fl e i off st K=(yt o sh fl e i off st some).bind K:=by unfold yt;split;split;split;split;rw[eJ];rfl;rfl;rfl;rfl;rfl
theorem HY (sh:Shape)(fl:lK)(e:CT)(i:Int)(off:Nat)(K:AS→Option R):xm o sh fl e i off st K=(xm o sh fl e i off st some).bind K:=by unfold xm;split;split;split;split;rw[eJ];rfl;rfl;rfl;rfl;rfl
theorem Pr (T:TypeId)(p:Operand)(K:AS→Option R):qZ E an o T p st K=(qZ E an o T p st some).bind K:=by unfold qZ;split;split;split;split;split<;>rfl;rfl;rfl;rfl;split;exact HY _ _ _ _ _ K;split;split<;>rfl;exact NO _ _ _ _ _ K;rfl
theorem HV (r:gE)(t:Nat)(e:CT)(i:Int)(off:Nat)(vs:List AC)(K:AS→Option R):st.lq r t e i off vs K=(st.lq r t e i off vs some).bind K:=by unfold AS.lq;split;split;split;rw[eJ];congr 1;funext y;split<;>rfl;rfl;rfl;split;split;rw[eJ];congr 1;funext y;split<;>rfl;rfl;rfl;rfl
theorem NR (T:TypeId)(p x:Operand)(K:AS→Option R):rX E T p x st K=(rX E T p x st some).bind K:=by unfold rX;split;split;split;split;split<;>rfl;rfl;rfl;rfl;split;split;rw[HV];rfl;rfl;rfl
theorem Mk (S:TypeId)(p:Operand)(f:Nat)(K:AS→Option R):uW E o S p f st K=(uW E o S p f st some).bind K:=by unfold uW;split;split<;>rfl;split<;>rfl;rfl
theorem Ee (T:TypeId)(x i:Operand)(K:AS→Option R):jb E o T x i st K=(jb E o T x i st some).bind K:=by unfold jb;split;split;rw[eJ];rfl;rfl;rfl
theorem MO (T:TypeId)(x i:Operand)(K:AS→Option R):wH E o T x i st K=(wH E o T x i st some).bind K:=by unfold wH;split;split;rw[eJ];rfl;rfl;rfl
theorem LA (T:TypeId)(ps:List (Nat×Operand))(K:AS→Option R):wC E o T ps st K=(wC E o T ps st some).bind K:=by unfold wC;split;split;split<;>rfl;rfl
theorem C1 (T:TypeId)(n:Nat)(ps:List (Nat×Operand))(K:AS→Option R):ix E o T n ps st K=(ix E o T n ps st some).bind K:=by unfold ix;split;split;split;split<;>rfl;rfl;rfl
theorem Ef (T:TypeId)(n c:Operand)(K:AS→Option R):kN E o T n c st K=(kN E o T n c st some).bind K:=by unfold kN;split;split;rw[xg];rfl;rfl;rfl
theorem BO {β:Type}(lo hi:Option Operand)(n:Nat)(k:Int→Int→Option β)(K:β→Option R):(jm st lo hi n k).bind K=jm st lo hi n λx y=>(k x y).bind K:=by unfold jm;split<;>rfl
theorem Ej (T:TypeId)(x:Operand)(lo hi:Option Operand)(K:AS→Option R):rR E o T x lo hi st K=(rR E o T x lo hi st some).bind K:=by unfold rR;split;split;rw[eJ];rfl;rfl;rfl
theorem NC (T:TypeId)(x:Operand)(lo hi:Option Operand)(K:AS→Option R):vE E an o T x lo hi st K=(vE E an o T x lo hi st some).bind K:=by unfold vE;split;exact Ej T x lo hi K;split;split;rw[BO];congr 1;funext p q;rw[eJ];rfl;rfl;split;rw[BO];congr 1;funext p q;rw[eJ];rfl;rfl;rfl
theorem Hw (src dst:TypeId)(x:Operand)(K:AS→Option R):iC E o src dst x st K=(iC E o src dst x st some).bind K:=by unfold iC;split;rfl;rfl;split;rw[xg];rfl;rfl;split<;>rfl;rfl
theorem Hy (t i:Nat)(K:AS→Option R):iD o t i st K=(iD o t i st some).bind K:=by unfold iD;split;split<;>rfl;rfl
theorem SK (ts:List TypeId)(args:List Operand)(K:AS→Option R):Gw E o ts args st K=(Gw E o ts args st some).bind K:=by unfold Gw;split;split<;>rfl;split<;>rfl;rfl
theorem SO (args:List Operand)(K:AS→Option R):HJ o args st K=(HJ o args st some).bind K:=by unfold HJ;split<;>rfl
theorem SN (args:List Operand)(K:AS→Option R):HI o args st K=(HI o args st some).bind K:=by unfold HI;split<;>rfl
theorem OE (ts:List TypeId)(args:List Operand)(K:AS→Option R):H8 E o ts args st K=(H8 E o ts args st some).bind K:=by unfold H8;split;split;split;split<;>rfl;rfl;rfl;rfl
theorem Kj (S:TypeId)(t f:Nat)(K:AS→Option R):Ad E o S t f st K=(Ad E o S t f st some).bind K:=by unfold Ad;split;split;split<;>rfl;rfl;rfl
theorem Jg (ts:List TypeId)(args:List Operand)(K:AS→Option R):sa E o ts args st K=(sa E o ts args st some).bind K:=by unfold sa;split;split;split;split;split;rw[xg];rfl;rfl;rfl;split;split;rw[xg];rfl;rfl;rfl;rfl;rfl;rfl
theorem PF (f:Nat)(g:Bool)(cs:List AC)(xs:List Operand)(K:AS→Option R):IE Γ o f g cs xs st K=(IE Γ o f g cs xs st some).bind K:=by unfold IE;split;split;split;rw[uK,eJ];congr 1;congr 1;funext x;split;rw[eJ];congr 1;funext y;split;split;cases ((Γ f).av y).ew<;>rfl;rfl;rfl;rfl;rfl;rfl;rfl
theorem U8 (f:Nat)(args:List Operand)(K:AS→Option R):ioC Γ o f args st K=(ioC Γ o f args st some).bind K:=by unfold ioC;split;split;split;split;split;rw[uK,eJ];congr 1;congr 1;funext y;split;cases ((Γ f).av y).ew<;>rfl;rfl;rfl;rfl;exact PF f _ _ _ K;rfl;rfl
theorem Hu (f:Nat)(args:List Operand)(K:AS→Option R):wS Γ o f args st K=(wS Γ o f args st some).bind K:=by unfold wS;split;split;split;rw[uK,eJ];congr 1;congr 1;funext y;rw[uK];rfl;rfl;rfl;rfl
theorem OA (f:Operand)(args:List Operand)(K:AS→Option R):zd Γ o f args st K=(zd Γ o f args st some).bind K:=by
 unfold zd;split
 ·rename_i k hk
  cases (Γ k).bx with
  |true=>exact Hu k args K
  |false=>
  simp only[af]
  cases (Γ k).io with
  |true=>exact U8 k args K
  |false=>simp only[af];rw[eJ];congr 1;funext y;rw[uK];rfl
 rfl
theorem Pe {β:Type}(op:BinOp)(k:IntKind)(x y:Int)(c:AC→Option β)(K:β→Option R):(Ck op k x y c).bind K=Ck op k x y λz=>(c z).bind K:=by unfold Ck;split<;>(try rfl)<;>(split<;>rfl)
theorem P5 {β:Type}(op:BinOp)(x y:List UInt8)(c:AC→Option β)(K:β→Option R):(D2 op x y c).bind K=D2 op x y λz=>(c z).bind K:=by unfold D2;split<;>(try rfl);rw[xg]
theorem z9 {β:Type}(op:BinOp)(x y:AV)(c:AC→Option β)(K:β→Option R):(AD op x y c).bind K=AD op x y λz=>(c z).bind K:=by unfold AD;split;split;split<;>rfl;split<;>rfl;split;rw[Pe];rfl;rw[P5];split<;>rfl;split;rw[eJ];rw[eJ];rfl;rfl
theorem N9 {β:Type}(op:UnOp)(x:AV)(c:AC→Option β)(K:β→Option R):(Ya op x c).bind K=Ya op x λz=>(c z).bind K:=by unfold Ya;split<;>rfl
theorem F5 {β:Type}(op:BinOp)(b:Bool)(c:AC→Option β)(K:β→Option R):(yD op b c).bind K=yD op b λz=>(c z).bind K:=by unfold yD;split<;>rfl
theorem Oy (op:BinOp)(T:TypeId)(x y:Operand)(K:AS→Option R):vM E o op T x y st K=(vM E o op T x y st some).bind K:=by unfold vM;split;split;rw[z9];rfl;rfl;split;split;rw[z9];rfl;rfl;rfl;split;split;rfl;rw[F5];rfl;rfl;split;rw[F5];rfl;rfl;rw[z9];rfl
theorem G6 (K:AS→Option R):cj E Γ an o st K=(cj E Γ an o st some).bind K:=by unfold cj;split;exact Px _ K;split;exact Po _ K;exact Jh _ K;exact PJ _ _ _ K;exact Lt _ K;exact R0 _ K;exact Pr _ _ K;split;split;exact El _ _ _ K;exact NR _ _ _ K;rfl;split<;>rfl;exact Oy _ _ _ _ K;rw[N9];rfl;exact Mk _ _ _ K;exact Ee _ _ _ K;exact MO _ _ _ K;exact LA _ _ K;exact C1 _ _ _ K;exact Ef _ _ _ K;exact NC _ _ _ _ K;exact Kj _ _ _ K;exact OE _ _ K;exact Hw _ _ _ K;exact Hy _ _ K;exact SK _ _ K;exact SO _ K;exact SN _ K;exact Jg _ _ K;exact OA _ _ K;rfl
theorem ml (ops:List Oper)(K:AS→Option R):eX E Γ an ops o st K=(eX E Γ an ops o st some).bind K:=by
 unfold eX;split;exact G6 K;rename_i j want hg;split;rename_i d hd;split;rename_i b hb
 have hgo:∀t:Bool,(if(t==want)=true then cj E Γ an o (st.put (some d) (.one (.bool t))) K else K ((st.put (some d) (.one (.bool t))).put o.dst (.one .un)))=
  (if(t==want)=true then cj E Γ an o (st.put (some d) (.one (.bool t))) some else some ((st.put (some d) (.one (.bool t))).put o.dst (.one .un))).bind K:=by
  intro t
  split
  ·exact G6 K
  ·rfl
 cases b with|true=>exact hgo true|false=>exact hgo false
 rfl;rfl;rfl
theorem IG (ops:List Oper):∀(l:List Oper)(st:AS)(K:AS→Option R),KH E Γ an ops l st K=(KH E Γ an ops l st some).bind K
 |[],st,K=>rfl
 |o::l,st,K=>by simp only[KH];rw[ml,ml (K:=λst'=>KH E Γ an ops l st' some),Option.bind_assoc];congr 1;funext st';exact IG ops l st' K
end Go.Dn
