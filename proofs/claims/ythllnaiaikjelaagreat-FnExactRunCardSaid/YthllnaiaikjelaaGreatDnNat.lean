import Derived.Test.YthllnaiaikjelaaGreatDnBase
/- The abstract steps, without their continuations. -/
namespace Go.Dn
variable {R:Type} {E:Env} {Γ:Cr} {an:An} {o:Oper} {st:AS}
theorem UE {α β:Type}{x:au α}{k:α->au β}{z:β}(h:aa x k=some z):∃y,x=some y/\k y=some z:=by cases x with|none=>cases h|some y=>exact⟨y,rfl,h⟩
theorem hH {α β:Type}(x:au α)(k:α->au β)(K:β->au R):(aa x k).bind K=aa x λy=>(k y).bind K:=by cases x<;>rfl
theorem Js {β:Type}(n:Nat)(k:au β)(K:β->au R):(room n k).bind K=room n (k.bind K):=by unfold room;split<;>rfl
theorem vJ {β:Type}(b:Bool)(x y:au β)(K:β->au R):(cond b x y).bind K=cond b (x.bind K) (y.bind K):=by cases b<;>rfl
theorem agj (x:Operand)(K:AS->au R):Jn an o x st K=(Jn an o x st some).bind K:=by unfold Jn;split;split<;>rfl;rfl
theorem aga (x:Operand)(K:AS->au R):YH o x st K=(YH o x st some).bind K:=by unfold YH;split<;>rfl
theorem TX (T:TypeId)(p x:Operand)(K:AS->au R):C4 E T p x st K=(C4 E T p x st some).bind K:=by unfold C4;split;split;split;split;split<;>rfl;rfl;rfl;rfl;rfl
theorem ZK (x:Operand)(K:AS->au R):Ai E an o x st K=(Ai E an o x st some).bind K:=by unfold Ai;split;split<;>rfl;rfl
theorem agu (c x y:Operand)(K:AS->au R):MD o c x y st K=(MD o c x y st some).bind K:=by unfold MD;split;split;rfl;rw[vJ];rfl;rfl
theorem abu (T:TypeId)(K:AS->au R):JH E o T st K=(JH E o T st some).bind K:=by unfold JH;split;split<;>rfl;rfl
theorem aiI (x:Operand)(K:AS->au R):ZM o x st K=(ZM o x st some).bind K:=by unfold ZM;split;split;split<;>rfl;rfl;rfl
theorem aee (sh:Shape)(fl:ux)(e:CT)(i:Int)(off:Nat)(K:AS->au R):KQ o sh fl e i off st K=(KQ o sh fl e i off st some).bind K:=by unfold KQ;split;split;split;split;rw[hH];rfl;rfl;rfl;rfl;rfl
theorem XG (sh:Shape)(fl:ux)(e:CT)(i:Int)(off:Nat)(K:AS->au R):ED o sh fl e i off st K=(ED o sh fl e i off st some).bind K:=by unfold ED;split;split;split;split;rw[hH];rfl;rfl;rfl;rfl;rfl
theorem agd (T:TypeId)(p:Operand)(K:AS->au R):sC E an o T p st K=(sC E an o T p st some).bind K:=by unfold sC;split;split;split;split;split<;>rfl;rfl;rfl;rfl;split;exact XG _ _ _ _ _ K;split;split<;>rfl;exact aee _ _ _ _ _ K;rfl
theorem XD (r:lW)(t:Nat)(e:CT)(i:Int)(off:Nat)(vs:ar AC)(K:AS->au R):st.sM r t e i off vs K=(st.sM r t e i off vs some).bind K:=by unfold AS.sM;split;split;split;rw[hH];congr 1;funext y;split<;>rfl;rfl;rfl;split;split;rw[hH];congr 1;funext y;split<;>rfl;rfl;rfl;rfl
theorem aei (T:TypeId)(p x:Operand)(K:AS->au R):C3 E T p x st K=(C3 E T p x st some).bind K:=by unfold C3;split;split;split;split;split<;>rfl;rfl;rfl;rfl;split;split;rw[XD];rfl;rfl;rfl
theorem ab0 (S:TypeId)(p:Operand)(f:Nat)(K:AS->au R):GC E o S p f st K=(GC E o S p f st some).bind K:=by unfold GC;split;split<;>rfl;split<;>rfl;rfl
theorem TK (T:TypeId)(x i:Operand)(K:AS->au R):oO E o T x i st K=(oO E o T x i st some).bind K:=by unfold oO;split;split;rw[hH];rfl;rfl;rfl
theorem acY (T:TypeId)(x i:Operand)(K:AS->au R):ID E o T x i st K=(ID E o T x i st some).bind K:=by unfold ID;split;split;rw[hH];rfl;rfl;rfl
theorem abD (T:TypeId)(ps:ar (Nat×Operand))(K:AS->au R):Iw E o T ps st K=(Iw E o T ps st some).bind K:=by unfold Iw;split;split;split<;>rfl;rfl
theorem Rv (T:TypeId)(n:Nat)(ps:ar (Nat×Operand))(K:AS->au R):nL E o T n ps st K=(nL E o T n ps st some).bind K:=by unfold nL;split;split;split;split<;>rfl;rfl;rfl
theorem TL (T:TypeId)(n c:Operand)(K:AS->au R):rH E o T n c st K=(rH E o T n c st some).bind K:=by unfold rH;split;split;rw[Js];rfl;rfl;rfl
theorem PG {β:Type}(lo hi:au Operand)(n:Nat)(k:Int->Int->au β)(K:β->au R):(pe st lo hi n k).bind K=pe st lo hi n λx y=>(k x y).bind K:=by unfold pe;split<;>rfl
theorem TS (T:TypeId)(x:Operand)(lo hi:au Operand)(K:AS->au R):CU E o T x lo hi st K=(CU E o T x lo hi st some).bind K:=by unfold CU;split;split;rw[hH];rfl;rfl;rfl
theorem adR (T:TypeId)(x:Operand)(lo hi:au Operand)(K:AS->au R):Hu E an o T x lo hi st K=(Hu E an o T x lo hi st some).bind K:=by unfold Hu;split;exact TS T x lo hi K;split;split;rw[PG];congr 1;funext p q;rw[hH];rfl;rfl;split;rw[PG];congr 1;funext p q;rw[hH];rfl;rfl;rfl
theorem W7 (src dst:TypeId)(x:Operand)(K:AS->au R):nO E o src dst x st K=(nO E o src dst x st some).bind K:=by unfold nO;split;rfl;rfl;split;rw[Js];rfl;rfl;split<;>rfl;rfl
theorem W9 (t i:Nat)(K:AS->au R):nQ o t i st K=(nQ o t i st some).bind K:=by unfold nQ;split;split<;>rfl;rfl
theorem ajM (ts:ar TypeId)(args:ar Operand)(K:AS->au R):VN E o ts args st K=(VN E o ts args st some).bind K:=by unfold VN;split;split<;>rfl;split<;>rfl;rfl
theorem ajR (args:ar Operand)(K:AS->au R):Xo o args st K=(Xo o args st some).bind K:=by unfold Xo;split<;>rfl
theorem ajQ (args:ar Operand)(K:AS->au R):Xn o args st K=(Xn o args st some).bind K:=by unfold Xn;split<;>rfl
theorem afa (ts:ar TypeId)(args:ar Operand)(K:AS->au R):XV E o ts args st K=(XV E o ts args st some).bind K:=by unfold XV;split;split;split;split<;>rfl;rfl;rfl;rfl
theorem Z7 (S:TypeId)(t f:Nat)(K:AS->au R):Nd E o S t f st K=(Nd E o S t f st some).bind K:=by unfold Nd;split;split;split<;>rfl;rfl;rfl
theorem ZI (ts:ar TypeId)(args:ar Operand)(K:AS->au R):C7 E o ts args st K=(C7 E o ts args st some).bind K:=by unfold C7;split;split;split;split;split;rw[Js];rfl;rfl;rfl;split;split;rw[Js];rfl;rfl;rfl;rfl;rfl;rfl
theorem agq (f:Nat)(g:Bool)(cs:ar AC)(xs:ar Operand)(K:AS->au R):YQ Γ o f g cs xs st K=(YQ Γ o f g cs xs st some).bind K:=by unfold YQ;split;split;split;rw[vJ,hH];congr 1;congr 1;funext x;split;rw[hH];congr 1;funext y;split;split;cases ((Γ f).av y).hY<;>rfl;rfl;rfl;rfl;rfl;rfl;rfl
theorem amN (f:Nat)(args:ar Operand)(K:AS->au R):ioC Γ o f args st K=(ioC Γ o f args st some).bind K:=by unfold ioC;split;split;split;split;split;rw[vJ,hH];congr 1;congr 1;funext y;split;cases ((Γ f).av y).hY<;>rfl;rfl;rfl;rfl;exact agq f _ _ _ K;rfl;rfl
theorem W6 (f:Nat)(args:ar Operand)(K:AS->au R):Aj Γ o f args st K=(Aj Γ o f args st some).bind K:=by unfold Aj;split;split;split;rw[vJ,hH];congr 1;congr 1;funext y;rw[vJ,vJ];rfl;rfl;rfl;rfl
theorem aj2 (f:Nat)(args:ar Operand)(K:AS->au R):aj1 Γ o f args st K=(aj1 Γ o f args st some).bind K:=by unfold aj1;split;split;rw[vJ,hH];congr 1;congr 1;funext y;rw[vJ];rfl;rfl;rfl
theorem ae6 (f:Operand)(args:ar Operand)(K:AS->au R):La Γ o f args st K=(La Γ o f args st some).bind K:=by
 unfold La;split
 ·rename_i k hk
  cases (Γ k).bx with
  |true=>exact W6 k args K
  |false=>
  simp only[ae]
  cases (Γ k).pr with
  |true=>exact aj2 k args K
  |false=>
  simp only[ae]
  cases (Γ k).io with
  |true=>exact amN k args K
  |false=>simp only[ae];rw[hH];congr 1;funext y;rw[vJ];rfl
 rfl
theorem af2 {β:Type}(op:BinOp)(k:IntKind)(x y:Int)(c:AC->au β)(K:β->au R):(Qu op k x y c).bind K=Qu op k x y λz=>(c z).bind K:=by unfold Qu;split<;>(try rfl)<;>(split<;>rfl)
theorem ag7 {β:Type}(op:BinOp)(x y:ar UInt8)(c:AC->au β)(K:β->au R):(Tm op x y c).bind K=Tm op x y λz=>(c z).bind K:=by unfold Tm;split<;>(try rfl);rw[Js]
theorem Na {β:Type}(op:BinOp)(x y:AV)(c:AC->au β)(K:β->au R):(NQ op x y c).bind K=NQ op x y λz=>(c z).bind K:=by unfold NQ;split;split;split<;>rfl;split<;>rfl;split;rw[af2];rfl;rw[ag7];split<;>rfl;split;rw[hH];rw[hH];rfl;rfl
theorem aeG {β:Type}(op:UnOp)(x:AV)(c:AC->au β)(K:β->au R):(unC op x c).bind K=unC op x λz=>(c z).bind K:=by unfold unC;split<;>rfl
theorem UZ {β:Type}(op:BinOp)(b:Bool)(c:AC->au β)(K:β->au R):(Lc op b c).bind K=Lc op b λz=>(c z).bind K:=by unfold Lc;split<;>rfl
theorem aeZ (op:BinOp)(T:TypeId)(x y:Operand)(K:AS->au R):HI E o op T x y st K=(HI E o op T x y st some).bind K:=by unfold HI;split;split;rw[Na];rfl;rfl;split;split;rw[Na];rfl;rfl;rfl;split;split;rfl;rw[UZ];rfl;rfl;split;rw[UZ];rfl;rfl;rw[Na];rfl
theorem Wv (K:AS->au R):df E Γ an o st K=(df E Γ an o st some).bind K:=by unfold df;split;exact agj _ K;split;exact aga _ K;exact ZK _ K;exact agu _ _ _ K;exact abu _ K;exact aiI _ K;exact agd _ _ K;split;split;exact TX _ _ _ K;exact aei _ _ _ K;rfl;split<;>rfl;exact aeZ _ _ _ _ K;rw[aeG];rfl;exact ab0 _ _ _ K;exact TK _ _ _ K;exact acY _ _ _ K;exact abD _ _ K;exact Rv _ _ _ K;exact TL _ _ _ K;exact adR _ _ _ _ K;exact Z7 _ _ _ K;exact afa _ _ K;exact W7 _ _ _ K;exact W9 _ _ K;exact ajM _ _ K;exact ajR _ K;exact ajQ _ K;exact ZI _ _ K;exact ae6 _ _ K;rfl
theorem uF (ops:ar Oper)(K:AS->au R):im E Γ an ops o st K=(im E Γ an ops o st some).bind K:=by
 unfold im;split;exact Wv K;rename_i j Pt hg;split;rename_i d hd;split;rename_i b hb
 have hgo:∀t:Bool,(if(t==Pt)=true then df E Γ an o (st.put (some d) (.one (.bool t))) K else K ((st.put (some d) (.one (.bool t))).put o.dst (.one .un)))=
  (if(t==Pt)=true then df E Γ an o (st.put (some d) (.one (.bool t))) some else some ((st.put (some d) (.one (.bool t))).put o.dst (.one .un))).bind K:=by
  intro t
  split
  ·exact Wv K
  ·rfl
 cases b with|true=>exact hgo true|false=>exact hgo false
 rfl;rfl;rfl
theorem YS (ops:ar Oper):∀(l:ar Oper)(st:AS)(K:AS->au R),aaH E Γ an ops l st K=(aaH E Γ an ops l st some).bind K
 |[],st,K=>rfl
 |o::l,st,K=>by simp only[aaH];rw[uF,uF (K:=λst'=>aaH E Γ an ops l st' some),Option.bind_assoc];congr 1;funext st';exact YS ops l st' K
end Go.Dn
