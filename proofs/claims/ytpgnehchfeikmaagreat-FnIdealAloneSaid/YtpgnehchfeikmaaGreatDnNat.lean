import Derived.Test.YtpgnehchfeikmaaGreatDnBase
/- The abstract steps, without their continuations. -/
namespace Go.Dn
variable {R:Type} {E:Env} {Γ:cG} {an:An} {o:Oper} {st:AS}
theorem Bv {α β:Type}{x:Option α}{k:α→Option β}{z:β}(h:aa x k=some z):∃y,x=some y∧k y=some z:=by cases x with|none=>cases h|some y=>exact⟨y,rfl,h⟩
theorem dV {α β:Type}(x:Option α)(k:α→Option β)(K:β→Option R):(aa x k).bind K=aa x λy=>(k y).bind K:=by cases x<;>rfl
theorem tR {β:Type}(n:Nat)(k:Option β)(K:β→Option R):(room n k).bind K=room n (k.bind K):=by unfold room;split<;>rfl
theorem k9 {β:Type}(b:Bool)(x y:Option β)(K:β→Option R):(cond b x y).bind K=cond b (x.bind K) (y.bind K):=by cases b<;>rfl
theorem Lq (x:Operand)(K:AS→Option R):tQ an o x st K=(tQ an o x st some).bind K:=by unfold tQ;split;split<;>rfl;rfl
theorem Lh (x:Operand)(K:AS→Option R):EE o x st K=(EE o x st some).bind K:=by unfold EE;split<;>rfl
theorem Bd (T:TypeId)(p x:Operand)(K:AS→Option R):pz E T p x st K=(pz E T p x st some).bind K:=by unfold pz;split;split;split;split;split<;>rfl;rfl;rfl;rfl;rfl
theorem Fj (x:Operand)(K:AS→Option R):nJ E an o x st K=(nJ E an o x st some).bind K:=by unfold nJ;split;split<;>rfl;rfl
theorem LC (c x y:Operand)(K:AS→Option R):vH o c x y st K=(vH o c x y st some).bind K:=by unfold vH;split;split;rfl;rw[k9];rfl;rfl
theorem Ha (T:TypeId)(K:AS→Option R):tZ E o T st K=(tZ E o T st some).bind K:=by unfold tZ;split;split<;>rfl;rfl
theorem NH (x:Operand)(K:AS→Option R):Fm o x st K=(Fm o x st some).bind K:=by unfold Fm;split;split;split<;>rfl;rfl;rfl
theorem JX (sh:Shape)(fl:kf)(e:CT)(i:Int)(off:Nat)(K:AS→Option R):uJ o sh fl e i off st K=(uJ o sh fl e i off st some).bind K:=by unfold uJ;split;split;split;split;rw[dV];rfl;rfl;rfl;rfl;rfl
theorem Ed (sh:Shape)(fl:kf)(e:CT)(i:Int)(off:Nat)(K:AS→Option R):qw o sh fl e i off st K=(qw o sh fl e i off st some).bind K:=by unfold qw;split;split;split;split;rw[dV];rfl;rfl;rfl;rfl;rfl
theorem Lk (T:TypeId)(p:Operand)(K:AS→Option R):jF E an o T p st K=(jF E an o T p st some).bind K:=by unfold jF;split;split;split;split;split<;>rfl;rfl;rfl;rfl;split;exact Ed _ _ _ _ _ K;split;split<;>rfl;exact JX _ _ _ _ _ K;rfl
theorem D9 (r:fV)(t:Nat)(e:CT)(i:Int)(off:Nat)(vs:List AC)(K:AS→Option R):st.jQ r t e i off vs K=(st.jQ r t e i off vs some).bind K:=by unfold AS.jQ;split;split;split;rw[dV];congr 1;funext y;split<;>rfl;rfl;rfl;split;split;rw[dV];congr 1;funext y;split<;>rfl;rfl;rfl;rfl
theorem J0 (T:TypeId)(p x:Operand)(K:AS→Option R):py E T p x st K=(py E T p x st some).bind K:=by unfold py;split;split;split;split;split<;>rfl;rfl;rfl;rfl;split;split;rw[D9];rfl;rfl;rfl
theorem HO (S:TypeId)(p:Operand)(f:Nat)(K:AS→Option R):rK E o S p f st K=(rK E o S p f st some).bind K:=by unfold rK;split;split<;>rfl;split<;>rfl;rfl
theorem AX (T:TypeId)(x i:Operand)(K:AS→Option R):hZ E o T x i st K=(hZ E o T x i st some).bind K:=by unfold hZ;split;split;rw[dV];rfl;rfl;rfl
theorem Ij (T:TypeId)(x i:Operand)(K:AS→Option R):tr E o T x i st K=(tr E o T x i st some).bind K:=by unfold tr;split;split;rw[dV];rfl;rfl;rfl
theorem Hi (T:TypeId)(ps:List (Nat×Operand))(K:AS→Option R):tj E o T ps st K=(tj E o T ps st some).bind K:=by unfold tj;split;split;split<;>rfl;rfl
theorem za (T:TypeId)(n:Nat)(ps:List (Nat×Operand))(K:AS→Option R):gQ E o T n ps st K=(gQ E o T n ps st some).bind K:=by unfold gQ;split;split;split;split<;>rfl;rfl;rfl
theorem AY (T:TypeId)(n c:Operand)(K:AS→Option R):jq E o T n c st K=(jq E o T n c st some).bind K:=by unfold jq;split;split;rw[tR];rfl;rfl;rfl
theorem xD {β:Type}(lo hi:Option Operand)(n:Nat)(k:Int→Int→Option β)(K:β→Option R):(im st lo hi n k).bind K=im st lo hi n λx y=>(k x y).bind K:=by unfold im;split<;>rfl
theorem Bc (T:TypeId)(x:Operand)(lo hi:Option Operand)(K:AS→Option R):ph E o T x lo hi st K=(ph E o T x lo hi st some).bind K:=by unfold ph;split;split;rw[dV];rfl;rfl;rfl
theorem JJ (T:TypeId)(x:Operand)(lo hi:Option Operand)(K:AS→Option R):sk E an o T x lo hi st K=(sk E an o T x lo hi st some).bind K:=by unfold sk;split;exact Bc T x lo hi K;split;split;rw[xD];congr 1;funext p q;rw[dV];rfl;rfl;split;rw[xD];congr 1;funext p q;rw[dV];rfl;rfl;rfl
theorem DG (src dst:TypeId)(x:Operand)(K:AS→Option R):gR E o src dst x st K=(gR E o src dst x st some).bind K:=by unfold gR;split;rfl;rfl;split;rw[tR];rfl;rfl;split<;>rfl;rfl
theorem DH (t i:Nat)(K:AS→Option R):gS o t i st K=(gS o t i st some).bind K:=by unfold gS;split;split<;>rfl;rfl
theorem Oh (ts:List TypeId)(args:List Operand)(K:AS→Option R):CD E o ts args st K=(CD E o ts args st some).bind K:=by unfold CD;split;split<;>rfl;split<;>rfl;rfl
theorem Oq (args:List Operand)(K:AS→Option R):DU o args st K=(DU o args st some).bind K:=by unfold DU;split<;>rfl
theorem On (args:List Operand)(K:AS→Option R):DT o args st K=(DT o args st some).bind K:=by unfold DT;split<;>rfl
theorem Ky (ts:List TypeId)(args:List Operand)(K:AS→Option R):Ek E o ts args st K=(Ek E o ts args st some).bind K:=by unfold Ek;split;split;split;split<;>rfl;rfl;rfl;rfl
theorem F7 (S:TypeId)(t f:Nat)(K:AS→Option R):wg E o S t f st K=(wg E o S t f st some).bind K:=by unfold wg;split;split;split<;>rfl;rfl;rfl
theorem Fh (ts:List TypeId)(args:List Operand)(K:AS→Option R):pB E o ts args st K=(pB E o ts args st some).bind K:=by unfold pB;split;split;split;split;split;rw[tR];rfl;rfl;rfl;split;split;rw[tR];rfl;rfl;rfl;rfl;rfl;rfl
theorem Lx (f:Nat)(g:Bool)(cs:List AC)(xs:List Operand)(K:AS→Option R):EM Γ o f g cs xs st K=(EM Γ o f g cs xs st some).bind K:=by unfold EM;split;split;split;rw[k9,dV];congr 1;congr 1;funext x;split;rw[dV];congr 1;funext y;split;split;cases ((Γ f).av y).dW<;>rfl;rfl;rfl;rfl;rfl;rfl;rfl
theorem QD (f:Nat)(args:List Operand)(K:AS→Option R):X4 Γ o f args st K=(X4 Γ o f args st some).bind K:=by unfold X4;split;split;split;split;split;rw[k9,dV];congr 1;congr 1;funext y;split;cases ((Γ f).av y).dW<;>rfl;rfl;rfl;rfl;exact Lx f _ _ _ K;rfl;rfl
theorem DE (f:Nat)(args:List Operand)(K:AS→Option R):nL Γ o f args st K=(nL Γ o f args st some).bind K:=by unfold nL;split;split;split;rw[k9,dV];congr 1;congr 1;funext y;rw[k9,k9];rfl;rfl;rfl;rfl
theorem OE (f:Nat)(args:List Operand)(K:AS→Option R):OD Γ o f args st K=(OD Γ o f args st some).bind K:=by unfold OD;split;split;rw[k9,dV];congr 1;congr 1;funext y;rw[k9];rfl;rfl;rfl
theorem Kt (f:Operand)(args:List Operand)(K:AS→Option R):uV Γ o f args st K=(uV Γ o f args st some).bind K:=by
 unfold uV;split
 ·rename_i k hk
  cases (Γ k).bx with
  |true=>exact DE k args K
  |false=>
  simp only[ai]
  cases (Γ k).pr with
  |true=>exact OE k args K
  |false=>
  simp only[ai]
  cases (Γ k).io with
  |true=>exact QD k args K
  |false=>simp only[ai];rw[dV];congr 1;funext y;rw[k9];rfl
 rfl
theorem KX {β:Type}(op:BinOp)(k:IntKind)(x y:Int)(c:AC→Option β)(K:β→Option R):(yd op k x y c).bind K=yd op k x y λz=>(c z).bind K:=by unfold yd;split<;>(try rfl)<;>(split<;>rfl)
theorem LX {β:Type}(op:BinOp)(x y:List UInt8)(c:AC→Option β)(K:β→Option R):(As op x y c).bind K=As op x y λz=>(c z).bind K:=by unfold As;split<;>(try rfl);rw[tR]
theorem wc {β:Type}(op:BinOp)(x y:AV)(c:AC→Option β)(K:β→Option R):(wG op x y c).bind K=wG op x y λz=>(c z).bind K:=by unfold wG;split;split;split<;>rfl;split<;>rfl;split;rw[KX];rfl;rw[LX];split<;>rfl;split;rw[dV];rw[dV];rfl;rfl
theorem J4 {β:Type}(op:UnOp)(x:AV)(c:AC→Option β)(K:β→Option R):(SB op x c).bind K=SB op x λz=>(c z).bind K:=by unfold SB;split<;>rfl
theorem B7 {β:Type}(op:BinOp)(b:Bool)(c:AC→Option β)(K:β→Option R):(uW op b c).bind K=uW op b λz=>(c z).bind K:=by unfold uW;split<;>rfl
theorem Kl (op:BinOp)(T:TypeId)(x y:Operand)(K:AS→Option R):sE E o op T x y st K=(sE E o op T x y st some).bind K:=by unfold sE;split;split;rw[wc];rfl;rfl;split;split;rw[wc];rfl;rfl;rfl;split;split;rfl;rw[B7];rfl;rfl;split;rw[B7];rfl;rfl;rw[wc];rfl
theorem Df (K:AS→Option R):cf E Γ an o st K=(cf E Γ an o st some).bind K:=by unfold cf;split;exact Lq _ K;split;exact Lh _ K;exact Fj _ K;exact LC _ _ _ K;exact Ha _ K;exact NH _ K;exact Lk _ _ K;split;split;exact Bd _ _ _ K;exact J0 _ _ _ K;rfl;split<;>rfl;exact Kl _ _ _ _ K;rw[J4];rfl;exact HO _ _ _ K;exact AX _ _ _ K;exact Ij _ _ _ K;exact Hi _ _ K;exact za _ _ _ K;exact AY _ _ _ K;exact JJ _ _ _ _ K;exact F7 _ _ _ K;exact Ky _ _ K;exact DG _ _ _ K;exact DH _ _ K;exact Oh _ _ K;exact Oq _ K;exact On _ K;exact Fh _ _ K;exact Kt _ _ K;rfl
theorem kP (ops:List Oper)(K:AS→Option R):ec E Γ an ops o st K=(ec E Γ an ops o st some).bind K:=by
 unfold ec;split;exact Df K;rename_i j want hg;split;rename_i d hd;split;rename_i b hb
 have hgo:∀t:Bool,(if(t==want)=true then cf E Γ an o (st.put (some d) (.one (.bool t))) K else K ((st.put (some d) (.one (.bool t))).put o.dst (.one .un)))=
  (if(t==want)=true then cf E Γ an o (st.put (some d) (.one (.bool t))) some else some ((st.put (some d) (.one (.bool t))).put o.dst (.one .un))).bind K:=by
  intro t
  split
  ·exact Df K
  ·rfl
 cases b with|true=>exact hgo true|false=>exact hgo false
 rfl;rfl;rfl
theorem EP (ops:List Oper):∀(l:List Oper)(st:AS)(K:AS→Option R),Gw E Γ an ops l st K=(Gw E Γ an ops l st some).bind K
 |[],st,K=>rfl
 |o::l,st,K=>by simp only[Gw];rw[kP,kP (K:=λst'=>Gw E Γ an ops l st' some),Option.bind_assoc];congr 1;funext st';exact EP ops l st' K
end Go.Dn
