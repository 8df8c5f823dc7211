import Derived.Test.YthllnaiaikjelaaGreatDnBase
/- The abstract steps, without their continuations. -/
namespace Go.Dn
variable {R:Type} {E:Env} {Γ:Ci} {an:An} {o:Oper} {st:AS}
theorem Uj {α β:Type}{x:au α}{k:α->au β}{z:β}(h:aa x k=some z):∃y,x=some y/\k y=some z:=by cases x with|none=>cases h|some y=>exact⟨y,rfl,h⟩
theorem gY {α β:Type}(x:au α)(k:α->au β)(K:β->au R):(aa x k).bind K=aa x λy=>(k y).bind K:=by cases x<;>rfl
theorem Ja {β:Type}(n:Nat)(k:au β)(K:β->au R):(room n k).bind K=room n (k.bind K):=by unfold room;split<;>rfl
theorem vF {β:Type}(b:Bool)(x y:au β)(K:β->au R):(cond b x y).bind K=cond b (x.bind K) (y.bind K):=by cases b<;>rfl
theorem afS (x:Operand)(K:AS->au R):I5 an o x st K=(I5 an o x st some).bind K:=by unfold I5;split;split<;>rfl;rfl
theorem afK (x:Operand)(K:AS->au R):Ym o x st K=(Ym o x st some).bind K:=by unfold Ym;split<;>rfl
theorem TB (T:TypeId)(p x:Operand)(K:AS->au R):CU E T p x st K=(CU E T p x st some).bind K:=by unfold CU;split;split;split;split;split<;>rfl;rfl;rfl;rfl;rfl
theorem Zp (x:Operand)(K:AS->au R):zY E an o x st K=(zY E an o x st some).bind K:=by unfold zY;split;split<;>rfl;rfl
theorem af3 (c x y:Operand)(K:AS->au R):Ml o c x y st K=(Ml o c x y st some).bind K:=by unfold Ml;split;split;rfl;rw[vF];rfl;rfl
theorem aa8 (T:TypeId)(K:AS->au R):Jq E o T st K=(Jq E o T st some).bind K:=by unfold Jq;split;split<;>rfl;rfl
theorem aij (x:Operand)(K:AS->au R):Zr o x st K=(Zr o x st some).bind K:=by unfold Zr;split;split;split<;>rfl;rfl;rfl
theorem adT (sh:Shape)(fl:uv)(e:CT)(i:Int)(off:Nat)(K:AS->au R):Ky o sh fl e i off st K=(Ky o sh fl e i off st some).bind K:=by unfold Ky;split;split;split;split;rw[gY];rfl;rfl;rfl;rfl;rfl
theorem Xn (sh:Shape)(fl:uv)(e:CT)(i:Int)(off:Nat)(K:AS->au R):Et o sh fl e i off st K=(Et o sh fl e i off st some).bind K:=by unfold Et;split;split;split;split;rw[gY];rfl;rfl;rfl;rfl;rfl
theorem afN (T:TypeId)(p:Operand)(K:AS->au R):sy E an o T p st K=(sy E an o T p st some).bind K:=by unfold sy;split;split;split;split;split<;>rfl;rfl;rfl;rfl;split;exact Xn _ _ _ _ _ K;split;split<;>rfl;exact adT _ _ _ _ _ K;rfl
theorem Xk (r:lS)(t:Nat)(e:CT)(i:Int)(off:Nat)(vs:ar AC)(K:AS->au R):st.sJ r t e i off vs K=(st.sJ r t e i off vs some).bind K:=by unfold AS.sJ;split;split;split;rw[gY];congr 1;funext y;split<;>rfl;rfl;rfl;split;split;rw[gY];congr 1;funext y;split<;>rfl;rfl;rfl;rfl
theorem adX (T:TypeId)(p x:Operand)(K:AS->au R):CR E T p x st K=(CR E T p x st some).bind K:=by unfold CR;split;split;split;split;split<;>rfl;rfl;rfl;rfl;split;split;rw[Xk];rfl;rfl;rfl
theorem abG (S:TypeId)(p:Operand)(f:Nat)(K:AS->au R):Gr E o S p f st K=(Gr E o S p f st some).bind K:=by unfold Gr;split;split<;>rfl;split<;>rfl;rfl
theorem To (T:TypeId)(x i:Operand)(K:AS->au R):oL E o T x i st K=(oL E o T x i st some).bind K:=by unfold oL;split;split;rw[gY];rfl;rfl;rfl
theorem acE (T:TypeId)(x i:Operand)(K:AS->au R):Ik E o T x i st K=(Ik E o T x i st some).bind K:=by unfold Ik;split;split;rw[gY];rfl;rfl;rfl
theorem abh (T:TypeId)(ps:ar (Nat×Operand))(K:AS->au R):Ib E o T ps st K=(Ib E o T ps st some).bind K:=by unfold Ib;split;split;split<;>rfl;rfl
theorem Ra (T:TypeId)(n:Nat)(ps:ar (Nat×Operand))(K:AS->au R):nH E o T n ps st K=(nH E o T n ps st some).bind K:=by unfold nH;split;split;split;split<;>rfl;rfl;rfl
theorem Tp (T:TypeId)(n c:Operand)(K:AS->au R):rF E o T n c st K=(rF E o T n c st some).bind K:=by unfold rF;split;split;rw[Ja];rfl;rfl;rfl
theorem Pm {β:Type}(lo hi:au Operand)(n:Nat)(k:Int->Int->au β)(K:β->au R):(pa st lo hi n k).bind K=pa st lo hi n λx y=>(k x y).bind K:=by unfold pa;split<;>rfl
theorem Tw (T:TypeId)(x:Operand)(lo hi:au Operand)(K:AS->au R):CI E o T x lo hi st K=(CI E o T x lo hi st some).bind K:=by unfold CI;split;split;rw[gY];rfl;rfl;rfl
theorem adw (T:TypeId)(x:Operand)(lo hi:au Operand)(K:AS->au R):Hg E an o T x lo hi st K=(Hg E an o T x lo hi st some).bind K:=by unfold Hg;split;exact Tw T x lo hi K;split;split;rw[Pm];congr 1;funext p q;rw[gY];rfl;rfl;split;rw[Pm];congr 1;funext p q;rw[gY];rfl;rfl;rfl
theorem WN (src dst:TypeId)(x:Operand)(K:AS->au R):nL E o src dst x st K=(nL E o src dst x st some).bind K:=by unfold nL;split;rfl;rfl;split;rw[Ja];rfl;rfl;split<;>rfl;rfl
theorem WQ (t i:Nat)(K:AS->au R):nN o t i st K=(nN o t i st some).bind K:=by unfold nN;split;split<;>rfl;rfl
theorem ajo (ts:ar TypeId)(args:ar Operand)(K:AS->au R):Vt E o ts args st K=(Vt E o ts args st some).bind K:=by unfold Vt;split;split<;>rfl;split<;>rfl;rfl
theorem ajt (args:ar Operand)(K:AS->au R):W5 o args st K=(W5 o args st some).bind K:=by unfold W5;split<;>rfl
theorem ajs (args:ar Operand)(K:AS->au R):W4 o args st K=(W4 o args st some).bind K:=by unfold W4;split<;>rfl
theorem aeM (ts:ar TypeId)(args:ar Operand)(K:AS->au R):XC E o ts args st K=(XC E o ts args st some).bind K:=by unfold XC;split;split;split;split<;>rfl;rfl;rfl;rfl
theorem ZL (S:TypeId)(t f:Nat)(K:AS->au R):MT E o S t f st K=(MT E o S t f st some).bind K:=by unfold MT;split;split;split<;>rfl;rfl;rfl
theorem Zn (ts:ar TypeId)(args:ar Operand)(K:AS->au R):CY E o ts args st K=(CY E o ts args st some).bind K:=by unfold CY;split;split;split;split;split;rw[Ja];rfl;rfl;rfl;split;split;rw[Ja];rfl;rfl;rfl;rfl;rfl;rfl
theorem afZ (f:Nat)(g:Bool)(cs:ar AC)(xs:ar Operand)(K:AS->au R):Yv Γ o f g cs xs st K=(Yv Γ o f g cs xs st some).bind K:=by unfold Yv;split;split;split;rw[vF,gY];congr 1;congr 1;funext x;split;rw[gY];congr 1;funext y;split;split;cases ((Γ f).av y).gZ<;>rfl;rfl;rfl;rfl;rfl;rfl;rfl
theorem amo (f:Nat)(args:ar Operand)(K:AS->au R):ioC Γ o f args st K=(ioC Γ o f args st some).bind K:=by unfold ioC;split;split;split;split;split;rw[vF,gY];congr 1;congr 1;funext y;split;cases ((Γ f).av y).gZ<;>rfl;rfl;rfl;rfl;exact afZ f _ _ _ K;rfl;rfl
theorem WM (f:Nat)(args:ar Operand)(K:AS->au R):zZ Γ o f args st K=(zZ Γ o f args st some).bind K:=by unfold zZ;split;split;split;rw[vF,gY];congr 1;congr 1;funext y;rw[vF,vF];rfl;rfl;rfl;rfl
theorem ajE (f:Nat)(args:ar Operand)(K:AS->au R):ajD Γ o f args st K=(ajD Γ o f args st some).bind K:=by unfold ajD;split;split;rw[vF,gY];congr 1;congr 1;funext y;rw[vF];rfl;rfl;rfl
theorem aeI (f:Operand)(args:ar Operand)(K:AS->au R):KS Γ o f args st K=(KS Γ o f args st some).bind K:=by
 unfold KS;split
 ·rename_i k hk
  cases (Γ k).bx with
  |true=>exact WM k args K
  |false=>
  simp only[ae]
  cases (Γ k).pr with
  |true=>exact ajE k args K
  |false=>
  simp only[ae]
  cases (Γ k).io with
  |true=>exact amo k args K
  |false=>simp only[ae];rw[gY];congr 1;funext y;rw[vF];rfl
 rfl
theorem afC {β:Type}(op:BinOp)(k:IntKind)(x y:Int)(c:AC->au β)(K:β->au R):(Qc op k x y c).bind K=Qc op k x y λz=>(c z).bind K:=by unfold Qc;split<;>(try rfl)<;>(split<;>rfl)
theorem agE {β:Type}(op:BinOp)(x y:ar UInt8)(c:AC->au β)(K:β->au R):(S2 op x y c).bind K=S2 op x y λz=>(c z).bind K:=by unfold S2;split<;>(try rfl);rw[Ja]
theorem MQ {β:Type}(op:BinOp)(x y:AV)(c:AC->au β)(K:β->au R):(Ny op x y c).bind K=Ny op x y λz=>(c z).bind K:=by unfold Ny;split;split;split<;>rfl;split<;>rfl;split;rw[afC];rfl;rw[agE];split<;>rfl;split;rw[gY];rw[gY];rfl;rfl
theorem aej {β:Type}(op:UnOp)(x:AV)(c:AC->au β)(K:β->au R):(unC op x c).bind K=unC op x λz=>(c z).bind K:=by unfold unC;split<;>rfl
theorem UD {β:Type}(op:BinOp)(b:Bool)(c:AC->au β)(K:β->au R):(KU op b c).bind K=KU op b λz=>(c z).bind K:=by unfold KU;split<;>rfl
theorem aeB (op:BinOp)(T:TypeId)(x y:Operand)(K:AS->au R):Hu E o op T x y st K=(Hu E o op T x y st some).bind K:=by unfold Hu;split;split;rw[MQ];rfl;rfl;split;split;rw[MQ];rfl;rfl;rfl;split;split;rfl;rw[UD];rfl;rfl;split;rw[UD];rfl;rfl;rw[MQ];rfl
theorem Wc (K:AS->au R):db E Γ an o st K=(db E Γ an o st some).bind K:=by unfold db;split;exact afS _ K;split;exact afK _ K;exact Zp _ K;exact af3 _ _ _ K;exact aa8 _ K;exact aij _ K;exact afN _ _ K;split;split;exact TB _ _ _ K;exact adX _ _ _ K;rfl;split<;>rfl;exact aeB _ _ _ _ K;rw[aej];rfl;exact abG _ _ _ K;exact To _ _ _ K;exact acE _ _ _ K;exact abh _ _ K;exact Ra _ _ _ K;exact Tp _ _ _ K;exact adw _ _ _ _ K;exact ZL _ _ _ K;exact aeM _ _ K;exact WN _ _ _ K;exact WQ _ _ K;exact ajo _ _ K;exact ajt _ K;exact ajs _ K;exact Zn _ _ K;exact aeI _ _ K;rfl
theorem uD (ops:ar Oper)(K:AS->au R):ig E Γ an ops o st K=(ig E Γ an ops o st some).bind K:=by
 unfold ig;split;exact Wc K;rename_i j O9 hg;split;rename_i d hd;split;rename_i b hb
 have hgo:∀t:Bool,(if(t==O9)=true then db E Γ an o (st.put (some d) (.one (.bool t))) K else K ((st.put (some d) (.one (.bool t))).put o.dst (.one .un)))=
  (if(t==O9)=true then db E Γ an o (st.put (some d) (.one (.bool t))) some else some ((st.put (some d) (.one (.bool t))).put o.dst (.one .un))).bind K:=by
  intro t
  split
  ·exact Wc K
  ·rfl
 cases b with|true=>exact hgo true|false=>exact hgo false
 rfl;rfl;rfl
theorem Yx (ops:ar Oper):∀(l:ar Oper)(st:AS)(K:AS->au R),aap E Γ an ops l st K=(aap E Γ an ops l st some).bind K
 |[],st,K=>rfl
 |o::l,st,K=>by simp only[aap];rw[uD,uD (K:=λst'=>aap E Γ an ops l st' some),Option.bind_assoc];congr 1;funext st';exact Yx ops l st' K
end Go.Dn
