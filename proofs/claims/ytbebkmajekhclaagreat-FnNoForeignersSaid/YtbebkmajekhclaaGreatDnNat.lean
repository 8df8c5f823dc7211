import Derived.Test.YtbebkmajekhclaaGreatDnBase
/- The abstract steps, without their continuations. -/
namespace Go.Dn
variable {R:Type} {E:Env} {Γ:BV} {an:An} {o:Oper} {st:AS}
theorem OQ {α β:Type}{x:az α}{k:α->az β}{z:β}(h:aa x k=some z):∃y,x=some y/\k y=some z:=by cases x with|none=>cases h|some y=>exact⟨y,rfl,h⟩
theorem ji {α β:Type}(x:az α)(k:α->az β)(K:β->az R):(aa x k).bind K=aa x λy=>(k y).bind K:=by cases x<;>rfl
theorem Es {β:Type}(n:Nat)(k:az β)(K:β->az R):(room n k).bind K=room n (k.bind K):=by unfold room;split<;>rfl
theorem yv {β:Type}(b:Bool)(x y:az β)(K:β->az R):(cond b x y).bind K=cond b (x.bind K) (y.bind K):=by cases b<;>rfl
theorem acm (x:Operand)(K:AS->az R):El an o x st K=(El an o x st some).bind K:=by unfold El;split;split<;>rfl;rfl
theorem ab7 (x:Operand)(K:AS->az R):Tl o x st K=(Tl o x st some).bind K:=by unfold Tl;split<;>rfl
theorem Oa (T:TypeId)(p x:Operand)(K:AS->az R):yP E T p x st K=(yP E T p x st some).bind K:=by unfold yP;split;split;split;split;split<;>rfl;rfl;rfl;rfl;rfl
theorem Uo (x:Operand)(K:AS->az R):wQ E an o x st K=(wQ E an o x st some).bind K:=by unfold wQ;split;split<;>rfl;rfl
theorem acA (c x y:Operand)(K:AS->az R):GD o c x y st K=(GD o c x y st some).bind K:=by unfold GD;split;split;rfl;rw[yv];rfl;rfl
theorem WD (T:TypeId)(K:AS->az R):EH E o T st K=(EH E o T st some).bind K:=by unfold EH;split;split<;>rfl;rfl
theorem ae0 (x:Operand)(K:AS->az R):Uq o x st K=(Uq o x st some).bind K:=by unfold Uq;split;split;split<;>rfl;rfl;rfl
theorem ZN (sh:Shape)(fl:sj)(e:CT)(i:Int)(off:Nat)(K:AS->az R):Fc o sh fl e i off st K=(Fc o sh fl e i off st some).bind K:=by unfold Fc;split;split;split;split;rw[ji];rfl;rfl;rfl;rfl;rfl
theorem Sp (sh:Shape)(fl:sj)(e:CT)(i:Int)(off:Nat)(K:AS->az R):Aq o sh fl e i off st K=(Aq o sh fl e i off st some).bind K:=by unfold Aq;split;split;split;split;rw[ji];rfl;rfl;rfl;rfl;rfl
theorem acf (T:TypeId)(p:Operand)(K:AS->az R):qK E an o T p st K=(qK E an o T p st some).bind K:=by unfold qK;split;split;split;split;split<;>rfl;rfl;rfl;rfl;split;exact Sp _ _ _ _ _ K;split;split<;>rfl;exact ZN _ _ _ _ _ K;rfl
theorem Sl (r:lQ)(t:Nat)(e:CT)(i:Int)(off:Nat)(vs:ax AC)(K:AS->az R):st.qU r t e i off vs K=(st.qU r t e i off vs some).bind K:=by unfold AS.qU;split;split;split;rw[ji];congr 1;funext y;split<;>rfl;rfl;rfl;split;split;rw[ji];congr 1;funext y;split<;>rfl;rfl;rfl;rfl
theorem ZQ (T:TypeId)(p x:Operand)(K:AS->az R):yO E T p x st K=(yO E T p x st some).bind K:=by unfold yO;split;split;split;split;split<;>rfl;rfl;rfl;rfl;split;split;rw[Sl];rfl;rfl;rfl
theorem Xb (S:TypeId)(p:Operand)(f:Nat)(K:AS->az R):B7 E o S p f st K=(B7 E o S p f st some).bind K:=by unfold B7;split;split<;>rfl;split<;>rfl;rfl
theorem N1 (T:TypeId)(x i:Operand)(K:AS->az R):nO E o T x i st K=(nO E o T x i st some).bind K:=by unfold nO;split;split;rw[ji];rfl;rfl;rfl
theorem Yi (T:TypeId)(x i:Operand)(K:AS->az R):DH E o T x i st K=(DH E o T x i st some).bind K:=by unfold DH;split;split;rw[ji];rfl;rfl;rfl
theorem WR (T:TypeId)(ps:ax (Nat×Operand))(K:AS->az R):Dv E o T ps st K=(Dv E o T ps st some).bind K:=by unfold Dv;split;split;split<;>rfl;rfl
theorem Lr (T:TypeId)(n:Nat)(ps:ax (Nat×Operand))(K:AS->az R):mY E o T n ps st K=(mY E o T n ps st some).bind K:=by unfold mY;split;split;split;split<;>rfl;rfl;rfl
theorem N2 (T:TypeId)(n c:Operand)(K:AS->az R):qj E o T n c st K=(qj E o T n c st some).bind K:=by unfold qj;split;split;rw[Es];rfl;rfl;rfl
theorem Jz {β:Type}(lo hi:az Operand)(n:Nat)(k:Int->Int->az β)(K:β->az R):(od st lo hi n k).bind K=od st lo hi n λx y=>(k x y).bind K:=by unfold od;split<;>rfl
theorem N8 (T:TypeId)(x:Operand)(lo hi:az Operand)(K:AS->az R):yF E o T x lo hi st K=(yF E o T x lo hi st some).bind K:=by unfold yF;split;split;rw[ji];rfl;rfl;rfl
theorem ZE (T:TypeId)(x:Operand)(lo hi:az Operand)(K:AS->az R):Cz E an o T x lo hi st K=(Cz E an o T x lo hi st some).bind K:=by unfold Cz;split;exact N8 T x lo hi K;split;split;rw[Jz];congr 1;funext p q;rw[ji];rfl;rfl;split;rw[Jz];congr 1;funext p q;rw[ji];rfl;rfl;rfl
theorem RL (src dst:TypeId)(x:Operand)(K:AS->az R):nb E o src dst x st K=(nb E o src dst x st some).bind K:=by unfold nb;split;rfl;rfl;split;rw[Es];rfl;rfl;split<;>rfl;rfl
theorem RM (t i:Nat)(K:AS->az R):ng o t i st K=(ng o t i st some).bind K:=by unfold ng;split;split<;>rfl;rfl
theorem af9 (ts:ax TypeId)(args:ax Operand)(K:AS->az R):Qi E o ts args st K=(Qi E o ts args st some).bind K:=by unfold Qi;split;split<;>rfl;split<;>rfl;rfl
theorem agj (args:ax Operand)(K:AS->az R):R5 o args st K=(R5 o args st some).bind K:=by unfold R5;split<;>rfl
theorem age (args:ax Operand)(K:AS->az R):R4 o args st K=(R4 o args st some).bind K:=by unfold R4;split<;>rfl
theorem aaB (ts:ax TypeId)(args:ax Operand)(K:AS->az R):Sw E o ts args st K=(Sw E o ts args st some).bind K:=by unfold Sw;split;split;split;split<;>rfl;rfl;rfl;rfl
theorem U6 (S:TypeId)(t f:Nat)(K:AS->az R):Hh E o S t f st K=(Hh E o S t f st some).bind K:=by unfold Hh;split;split;split<;>rfl;rfl;rfl
theorem Um (ts:ax TypeId)(args:ax Operand)(K:AS->az R):yS E o ts args st K=(yS E o ts args st some).bind K:=by unfold yS;split;split;split;split;split;rw[Es];rfl;rfl;rfl;split;split;rw[Es];rfl;rfl;rfl;rfl;rfl;rfl
theorem RH (f:Nat)(args:ax Operand)(K:AS->az R):wR Γ o f args st K=(wR Γ o f args st some).bind K:=by unfold wR;split;split;split;rw[yv,ji];congr 1;congr 1;funext y;rw[yv,yv];rfl;rfl;rfl;rfl
theorem agu (f:Nat)(args:ax Operand)(K:AS->az R):agt Γ o f args st K=(agt Γ o f args st some).bind K:=by unfold agt;split;split;rw[yv,ji];congr 1;congr 1;funext y;rw[yv];rfl;rfl;rfl
theorem aau (f:Operand)(args:ax Operand)(K:AS->az R):Fy Γ o f args st K=(Fy Γ o f args st some).bind K:=by
 unfold Fy;split
 ·rename_i k hk
  cases (Γ k).bx with
  |true=>exact RH k args K
  |false=>
  simp only[af]
  cases (Γ k).pr with
  |true=>exact agu k args K
  |false=>
  simp only[af]
  cases (Γ k).io with
  |true=>rfl
  |false=>simp only[af];rw[ji];congr 1;funext y;rw[yv];rfl
 rfl
theorem abX {β:Type}(op:BinOp)(k:IntKind)(x y:Int)(c:AC->az β)(K:β->az R):(Kl op k x y c).bind K=Kl op k x y λz=>(c z).bind K:=by unfold Kl;split<;>(try rfl)<;>(split<;>rfl)
theorem ac8 {β:Type}(op:BinOp)(x y:ax UInt8)(c:AC->az β)(K:β->az R):(Ns op x y c).bind K=Ns op x y λz=>(c z).bind K:=by unfold Ns;split<;>(try rfl);rw[Es]
theorem Hd {β:Type}(op:BinOp)(x y:AV)(c:AC->az β)(K:β->az R):(HP op x y c).bind K=HP op x y λz=>(c z).bind K:=by unfold HP;split;split;split<;>rfl;split<;>rfl;split;rw[abX];rfl;rw[ac8];split<;>rfl;split;rw[ji];rw[ji];rfl;rfl
theorem Z2 {β:Type}(op:UnOp)(x:AV)(c:AC->az β)(K:β->az R):(unC op x c).bind K=unC op x λz=>(c z).bind K:=by unfold unC;split<;>rfl
theorem Pg {β:Type}(op:BinOp)(b:Bool)(c:AC->az β)(K:β->az R):(Fz op b c).bind K=Fz op b λz=>(c z).bind K:=by unfold Fz;split<;>rfl
theorem aak (op:BinOp)(T:TypeId)(x y:Operand)(K:AS->az R):CU E o op T x y st K=(CU E o op T x y st some).bind K:=by unfold CU;split;split;rw[Hd];rfl;rfl;split;split;rw[Hd];rfl;rfl;rfl;split;split;rfl;rw[Pg];rfl;rfl;split;rw[Pg];rfl;rfl;rw[Hd];rfl
theorem Q7 (K:AS->az R):cX E Γ an o st K=(cX E Γ an o st some).bind K:=by unfold cX;split;exact acm _ K;split;exact ab7 _ K;exact Uo _ K;exact acA _ _ _ K;exact WD _ K;exact ae0 _ K;exact acf _ _ K;split;split;exact Oa _ _ _ K;exact ZQ _ _ _ K;rfl;split<;>rfl;exact aak _ _ _ _ K;rw[Z2];rfl;exact Xb _ _ _ K;exact N1 _ _ _ K;exact Yi _ _ _ K;exact WR _ _ K;exact Lr _ _ _ K;exact N2 _ _ _ K;exact ZE _ _ _ _ K;exact U6 _ _ _ K;exact aaB _ _ K;exact RL _ _ _ K;exact RM _ _ K;exact af9 _ _ K;exact agj _ K;exact age _ K;exact Um _ _ K;exact aau _ _ K;rfl
theorem sA (ops:ax Oper)(K:AS->az R):ig E Γ an ops o st K=(ig E Γ an ops o st some).bind K:=by
 unfold ig;split;exact Q7 K;rename_i j Jl hg;split;rename_i d hd;split;rename_i b hb
 have hgo:∀t:Bool,(if(t==Jl)=true then cX E Γ an o (st.put (some d) (.one (.bool t))) K else K ((st.put (some d) (.one (.bool t))).put o.dst (.one .un)))=
  (if(t==Jl)=true then cX E Γ an o (st.put (some d) (.one (.bool t))) some else some ((st.put (some d) (.one (.bool t))).put o.dst (.one .un))).bind K:=by
  intro t
  split
  ·exact Q7 K
  ·rfl
 cases b with|true=>exact hgo true|false=>exact hgo false
 rfl;rfl;rfl
theorem Tz (ops:ax Oper):∀(l:ax Oper)(st:AS)(K:AS->az R),VS E Γ an ops l st K=(VS E Γ an ops l st some).bind K
 |[],st,K=>rfl
 |o::l,st,K=>by simp only[VS];rw[sA,sA (K:=λbZ=>VS E Γ an ops l bZ some),Option.bind_assoc];congr 1;funext bZ;exact Tz ops l bZ K
end Go.Dn
