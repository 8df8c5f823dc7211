import Derived.Test.YtfbhfnniblfpbaaGreatDnBase
/- The abstract steps, without their continuations. -/
namespace Go.Dn
variable {R:Type} {E:Env} {Γ:xO} {an:An} {o:Oper} {st:AS}
theorem NK {α β:Type}{x:aw α}{k:α->aw β}{z:β}(h:aa x k=some z):∃y,x=some y/\k y=some z:=by cases x with|none=>cases h|some y=>exact⟨y,rfl,h⟩
theorem gr {α β:Type}(x:aw α)(k:α->aw β)(K:β->aw R):(aa x k).bind K=aa x λy=>(k y).bind K:=by cases x<;>rfl
theorem Er {β:Type}(n:Nat)(k:aw β)(K:β->aw R):(room n k).bind K=room n (k.bind K):=by unfold room;split<;>rfl
theorem rK {β:Type}(b:Bool)(x y:aw β)(K:β->aw R):(cond b x y).bind K=cond b (x.bind K) (y.bind K):=by cases b<;>rfl
theorem YI (x:Operand)(K:AS->aw R):Ej an o x st K=(Ej an o x st some).bind K:=by unfold Ej;split;split<;>rfl;rfl
theorem YA (x:Operand)(K:AS->aw R):RE o x st K=(RE o x st some).bind K:=by unfold RE;split<;>rfl
theorem M8 (T:TypeId)(p x:Operand)(K:AS->aw R):yp E T p x st K=(yp E T p x st some).bind K:=by unfold yp;split;split;split;split;split<;>rfl;rfl;rfl;rfl;rfl
theorem SA (x:Operand)(K:AS->aw R):vR E an o x st K=(vR E an o x st some).bind K:=by unfold vR;split;split<;>rfl;rfl
theorem YV (c x y:Operand)(K:AS->aw R):Hb o c x y st K=(Hb o c x y st some).bind K:=by unfold Hb;split;split;rfl;rw[rK];rfl;rfl
theorem Uy (T:TypeId)(K:AS->aw R):ED E o T st K=(ED E o T st some).bind K:=by unfold ED;split;split<;>rfl;rfl
theorem aaS (x:Operand)(K:AS->aw R):SC o x st K=(SC o x st some).bind K:=by unfold SC;split;split;split<;>rfl;rfl;rfl
theorem WD (sh:Shape)(fl:qI)(e:CT)(i:Int)(off:Nat)(K:AS->aw R):FI o sh fl e i off st K=(FI o sh fl e i off st some).bind K:=by unfold FI;split;split;split;split;rw[gr];rfl;rfl;rfl;rfl;rfl
theorem QR (sh:Shape)(fl:qI)(e:CT)(i:Int)(off:Nat)(K:AS->aw R):Ae o sh fl e i off st K=(Ae o sh fl e i off st some).bind K:=by unfold Ae;split;split;split;split;rw[gr];rfl;rfl;rfl;rfl;rfl
theorem YD (T:TypeId)(p:Operand)(K:AS->aw R):px E an o T p st K=(px E an o T p st some).bind K:=by unfold px;split;split;split;split;split<;>rfl;rfl;rfl;rfl;split;exact QR _ _ _ _ _ K;split;split<;>rfl;exact WD _ _ _ _ _ K;rfl
theorem QO (r:kq)(t:Nat)(e:CT)(i:Int)(off:Nat)(vs:ar AC)(K:AS->aw R):st.pF r t e i off vs K=(st.pF r t e i off vs some).bind K:=by unfold AS.pF;split;split;split;rw[gr];congr 1;funext y;split<;>rfl;rfl;rfl;split;split;rw[gr];congr 1;funext y;split<;>rfl;rfl;rfl;rfl
theorem WG (T:TypeId)(p x:Operand)(K:AS->aw R):yo E T p x st K=(yo E T p x st some).bind K:=by unfold yo;split;split;split;split;split<;>rfl;rfl;rfl;rfl;split;split;rw[QO];rfl;rfl;rfl
theorem UX (S:TypeId)(p:Operand)(f:Nat)(K:AS->aw R):BR E o S p f st K=(BR E o S p f st some).bind K:=by unfold BR;split;split<;>rfl;split<;>rfl;rfl
theorem MX (T:TypeId)(x i:Operand)(K:AS->aw R):mM E o T x i st K=(mM E o T x i st some).bind K:=by unfold mM;split;split;rw[gr];rfl;rfl;rfl
theorem VH (T:TypeId)(x i:Operand)(K:AS->aw R):DJ E o T x i st K=(DJ E o T x i st some).bind K:=by unfold DJ;split;split;rw[gr];rfl;rfl;rfl
theorem UG (T:TypeId)(ps:ar (Nat×Operand))(K:AS->aw R):DC E o T ps st K=(DC E o T ps st some).bind K:=by unfold DC;split;split;split<;>rfl;rfl
theorem K8 (T:TypeId)(n:Nat)(ps:ar (Nat×Operand))(K:AS->aw R):lV E o T n ps st K=(lV E o T n ps st some).bind K:=by unfold lV;split;split;split;split<;>rfl;rfl;rfl
theorem MY (T:TypeId)(n c:Operand)(K:AS->aw R):oN E o T n c st K=(oN E o T n c st some).bind K:=by unfold oN;split;split;rw[Er];rfl;rfl;rfl
theorem JJ {β:Type}(lo hi:aw Operand)(n:Nat)(k:Int->Int->aw β)(K:β->aw R):(nd st lo hi n k).bind K=nd st lo hi n λx y=>(k x y).bind K:=by unfold nd;split<;>rfl
theorem M6 (T:TypeId)(x:Operand)(lo hi:aw Operand)(K:AS->aw R):yi E o T x lo hi st K=(yi E o T x lo hi st some).bind K:=by unfold yi;split;split;rw[gr];rfl;rfl;rfl
theorem Wq (T:TypeId)(x:Operand)(lo hi:aw Operand)(K:AS->aw R):CG E an o T x lo hi st K=(CG E an o T x lo hi st some).bind K:=by unfold CG;split;exact M6 T x lo hi K;split;split;rw[JJ];congr 1;funext p q;rw[gr];rfl;rfl;split;rw[JJ];congr 1;funext p q;rw[gr];rfl;rfl;rfl
theorem Qh (src dst:TypeId)(x:Operand)(K:AS->aw R):lZ E o src dst x st K=(lZ E o src dst x st some).bind K:=by unfold lZ;split;rfl;rfl;split;rw[Er];rfl;rfl;split<;>rfl;rfl
theorem Qj (t i:Nat)(K:AS->aw R):ma o t i st K=(ma o t i st some).bind K:=by unfold ma;split;split<;>rfl;rfl
theorem abU (ts:ar TypeId)(args:ar Operand)(K:AS->aw R):OR E o ts args st K=(OR E o ts args st some).bind K:=by unfold OR;split;split<;>rfl;split<;>rfl;rfl
theorem abZ (args:ar Operand)(K:AS->aw R):Qz o args st K=(Qz o args st some).bind K:=by unfold Qz;split<;>rfl
theorem abY (args:ar Operand)(K:AS->aw R):Qy o args st K=(Qy o args st some).bind K:=by unfold Qy;split<;>rfl
theorem XE (ts:ar TypeId)(args:ar Operand)(K:AS->aw R):QY E o ts args st K=(QY E o ts args st some).bind K:=by unfold QY;split;split;split;split<;>rfl;rfl;rfl;rfl
theorem SW (S:TypeId)(t f:Nat)(K:AS->aw R):HD E o S t f st K=(HD E o S t f st some).bind K:=by unfold HD;split;split;split<;>rfl;rfl;rfl
theorem Sy (ts:ar TypeId)(args:ar Operand)(K:AS->aw R):yt E o ts args st K=(yt E o ts args st some).bind K:=by unfold yt;split;split;split;split;split;rw[Er];rfl;rfl;rfl;split;split;rw[Er];rfl;rfl;rfl;rfl;rfl;rfl
theorem YQ (f:Nat)(g:Bool)(cs:ar AC)(xs:ar Operand)(K:AS->aw R):RQ Γ o f g cs xs st K=(RQ Γ o f g cs xs st some).bind K:=by unfold RQ;split;split;split;rw[rK,gr];congr 1;congr 1;funext x;split;rw[gr];congr 1;funext y;split;split;cases ((Γ f).av y).gu<;>rfl;rfl;rfl;rfl;rfl;rfl;rfl
theorem aeH (f:Nat)(args:ar Operand)(K:AS->aw R):ioC Γ o f args st K=(ioC Γ o f args st some).bind K:=by unfold ioC;split;split;split;split;split;rw[rK,gr];congr 1;congr 1;funext y;split;cases ((Γ f).av y).gu<;>rfl;rfl;rfl;rfl;exact YQ f _ _ _ K;rfl;rfl
theorem Qg (f:Nat)(args:ar Operand)(K:AS->aw R):vS Γ o f args st K=(vS Γ o f args st some).bind K:=by unfold vS;split;split;split;rw[rK,gr];congr 1;congr 1;funext y;rw[rK,rK];rfl;rfl;rfl;rfl
theorem acd (f:Nat)(args:ar Operand)(K:AS->aw R):acb Γ o f args st K=(acb Γ o f args st some).bind K:=by unfold acb;split;split;rw[rK,gr];congr 1;congr 1;funext y;rw[rK];rfl;rfl;rfl
theorem XB (f:Operand)(args:ar Operand)(K:AS->aw R):F1 Γ o f args st K=(F1 Γ o f args st some).bind K:=by
 unfold F1;split
 ·rename_i k hk
  cases (Γ k).bx with
  |true=>exact Qg k args K
  |false=>
  simp only[ae]
  cases (Γ k).pr with
  |true=>exact acd k args K
  |false=>
  simp only[ae]
  cases (Γ k).io with
  |true=>exact aeH k args K
  |false=>simp only[ae];rw[gr];congr 1;funext y;rw[rK];rfl
 rfl
theorem Ys {β:Type}(op:BinOp)(k:IntKind)(x y:Int)(c:AC->aw β)(K:β->aw R):(Ki op k x y c).bind K=Ki op k x y λz=>(c z).bind K:=by unfold Ki;split<;>(try rfl)<;>(split<;>rfl)
theorem Zw {β:Type}(op:BinOp)(x y:ar UInt8)(c:AC->aw β)(K:β->aw R):(MF op x y c).bind K=MF op x y λz=>(c z).bind K:=by unfold MF;split<;>(try rfl);rw[Er]
theorem Hy {β:Type}(op:BinOp)(x y:AV)(c:AC->aw β)(K:β->aw R):(Ic op x y c).bind K=Ic op x y λz=>(c z).bind K:=by unfold Ic;split;split;split<;>rfl;split<;>rfl;split;rw[Ys];rfl;rw[Zw];split<;>rfl;split;rw[gr];rw[gr];rfl;rfl
theorem WY {β:Type}(op:UnOp)(x:AV)(c:AC->aw β)(K:β->aw R):(unC op x c).bind K=unC op x λz=>(c z).bind K:=by unfold unC;split<;>rfl
theorem N3 {β:Type}(op:BinOp)(b:Bool)(c:AC->aw β)(K:β->aw R):(F3 op b c).bind K=F3 op b λz=>(c z).bind K:=by unfold F3;split<;>rfl
theorem Xv (op:BinOp)(T:TypeId)(x y:Operand)(K:AS->aw R):CW E o op T x y st K=(CW E o op T x y st some).bind K:=by unfold CW;split;split;rw[Hy];rfl;rfl;split;split;rw[Hy];rfl;rfl;rfl;split;split;rfl;rw[N3];rfl;rfl;split;rw[N3];rfl;rfl;rw[Hy];rfl
theorem PC (K:AS->aw R):db E Γ an o st K=(db E Γ an o st some).bind K:=by unfold db;split;exact YI _ K;split;exact YA _ K;exact SA _ K;exact YV _ _ _ K;exact Uy _ K;exact aaS _ K;exact YD _ _ K;split;split;exact M8 _ _ _ K;exact WG _ _ _ K;rfl;split<;>rfl;exact Xv _ _ _ _ K;rw[WY];rfl;exact UX _ _ _ K;exact MX _ _ _ K;exact VH _ _ _ K;exact UG _ _ K;exact K8 _ _ _ K;exact MY _ _ _ K;exact Wq _ _ _ _ K;exact SW _ _ _ K;exact XE _ _ K;exact Qh _ _ _ K;exact Qj _ _ K;exact abU _ _ K;exact abZ _ K;exact abY _ K;exact Sy _ _ K;exact XB _ _ K;rfl
theorem qP (ops:ar Oper)(K:AS->aw R):gy E Γ an ops o st K=(gy E Γ an ops o st some).bind K:=by
 unfold gy;split;exact PC K;rename_i j JA hg;split;rename_i d hd;split;rename_i b hb
 have hgo:∀t:Bool,(if(t==JA)=true then db E Γ an o (st.put (some d) (.one (.bool t))) K else K ((st.put (some d) (.one (.bool t))).put o.dst (.one .un)))=
  (if(t==JA)=true then db E Γ an o (st.put (some d) (.one (.bool t))) some else some ((st.put (some d) (.one (.bool t))).put o.dst (.one .un))).bind K:=by
  intro t
  split
  ·exact PC K
  ·rfl
 cases b with|true=>exact hgo true|false=>exact hgo false
 rfl;rfl;rfl
theorem RS (ops:ar Oper):∀(l:ar Oper)(st:AS)(K:AS->aw R),TF E Γ an ops l st K=(TF E Γ an ops l st some).bind K
 |[],st,K=>rfl
 |o::l,st,K=>by simp only[TF];rw[qP,qP (K:=λst'=>TF E Γ an ops l st' some),Option.bind_assoc];congr 1;funext st';exact RS ops l st' K
end Go.Dn
