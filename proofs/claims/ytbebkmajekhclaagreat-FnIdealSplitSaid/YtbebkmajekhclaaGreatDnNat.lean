import Derived.Test.YtbebkmajekhclaaGreatDnBase
/- The abstract steps, without their continuations. -/
namespace Go.Dn
variable {R:Type} {E:Env} {Γ:Dy} {an:An} {o:Oper} {st:AS}
theorem P0 {α β:Type}{x:az α}{k:α->az β}{z:β}(h:aa x k=some z):∃y,x=some y/\k y=some z:=by cases x with|none=>cases h|some y=>exact⟨y,rfl,h⟩
theorem iY {α β:Type}(x:az α)(k:α->az β)(K:β->az R):(aa x k).bind K=aa x λy=>(k y).bind K:=by cases x<;>rfl
theorem Fx {β:Type}(n:Nat)(k:az β)(K:β->az R):(room n k).bind K=room n (k.bind K):=by unfold room;split<;>rfl
theorem yQ {β:Type}(b:Bool)(x y:az β)(K:β->az R):(cond b x y).bind K=cond b (x.bind K) (y.bind K):=by cases b<;>rfl
theorem adR (x:Operand)(K:AS->az R):Fs an o x st K=(Fs an o x st some).bind K:=by unfold Fs;split;split<;>rfl;rfl
theorem adI (x:Operand)(K:AS->az R):UO o x st K=(UO o x st some).bind K:=by unfold UO;split<;>rfl
theorem Ph (T:TypeId)(p x:Operand)(K:AS->az R):zD E T p x st K=(zD E T p x st some).bind K:=by unfold zD;split;split;split;split;split<;>rfl;rfl;rfl;rfl;rfl
theorem VT (x:Operand)(K:AS->az R):xg E an o x st K=(xg E an o x st some).bind K:=by unfold xg;split;split<;>rfl;rfl
theorem ad3 (c x y:Operand)(K:AS->az R):HO o c x y st K=(HO o c x y st some).bind K:=by unfold HO;split;split;rfl;rw[yQ];rfl;rfl
theorem X7 (T:TypeId)(K:AS->az R):FI E o T st K=(FI E o T st some).bind K:=by unfold FI;split;split<;>rfl;rfl
theorem agD (x:Operand)(K:AS->az R):VV o x st K=(VV o x st some).bind K:=by unfold VV;split;split;split<;>rfl;rfl;rfl
theorem abu (sh:Shape)(fl:sn)(e:CT)(i:Int)(off:Nat)(K:AS->az R):Gz o sh fl e i off st K=(Gz o sh fl e i off st some).bind K:=by unfold Gz;split;split;split;split;rw[iY];rfl;rfl;rfl;rfl;rfl
theorem TJ (sh:Shape)(fl:sn)(e:CT)(i:Int)(off:Nat)(K:AS->az R):Bh o sh fl e i off st K=(Bh o sh fl e i off st some).bind K:=by unfold Bh;split;split;split;split;rw[iY];rfl;rfl;rfl;rfl;rfl
theorem adL (T:TypeId)(p:Operand)(K:AS->az R):qv E an o T p st K=(qv E an o T p st some).bind K:=by unfold qv;split;split;split;split;split<;>rfl;rfl;rfl;rfl;split;exact TJ _ _ _ _ _ K;split;split<;>rfl;exact abu _ _ _ _ _ K;rfl
theorem TF (r:lx)(t:Nat)(e:CT)(i:Int)(off:Nat)(vs:aw AC)(K:AS->az R):st.qL r t e i off vs K=(st.qL r t e i off vs some).bind K:=by unfold AS.qL;split;split;split;rw[iY];congr 1;funext y;split<;>rfl;rfl;rfl;split;split;rw[iY];congr 1;funext y;split<;>rfl;rfl;rfl;rfl
theorem abw (T:TypeId)(p x:Operand)(K:AS->az R):zC E T p x st K=(zC E T p x st some).bind K:=by unfold zC;split;split;split;split;split<;>rfl;rfl;rfl;rfl;split;split;rw[TF];rfl;rfl;rfl
theorem YD (S:TypeId)(p:Operand)(f:Nat)(K:AS->az R):CO E o S p f st K=(CO E o S p f st some).bind K:=by unfold CO;split;split<;>rfl;split<;>rfl;rfl
theorem O9 (T:TypeId)(x i:Operand)(K:AS->az R):np E o T x i st K=(np E o T x i st some).bind K:=by unfold np;split;split;rw[iY];rfl;rfl;rfl
theorem ZT (T:TypeId)(x i:Operand)(K:AS->az R):EH E o T x i st K=(EH E o T x i st some).bind K:=by unfold EH;split;split;rw[iY];rfl;rfl;rfl
theorem Yi (T:TypeId)(ps:aw (Nat×Operand))(K:AS->az R):Eu E o T ps st K=(Eu E o T ps st some).bind K:=by unfold Eu;split;split;split<;>rfl;rfl
theorem MK (T:TypeId)(n:Nat)(ps:aw (Nat×Operand))(K:AS->az R):mG E o T n ps st K=(mG E o T n ps st some).bind K:=by unfold mG;split;split;split;split<;>rfl;rfl;rfl
theorem Pa (T:TypeId)(n c:Operand)(K:AS->az R):pK E o T n c st K=(pK E o T n c st some).bind K:=by unfold pK;split;split;rw[Fx];rfl;rfl;rfl
theorem KY {β:Type}(lo hi:az Operand)(n:Nat)(k:Int->Int->az β)(K:β->az R):(nK st lo hi n k).bind K=nK st lo hi n λx y=>(k x y).bind K:=by unfold nK;split<;>rfl
theorem Pe (T:TypeId)(x:Operand)(lo hi:az Operand)(K:AS->az R):zd E o T x lo hi st K=(zd E o T x lo hi st some).bind K:=by unfold zd;split;split;rw[iY];rfl;rfl;rfl
theorem aba (T:TypeId)(x:Operand)(lo hi:az Operand)(K:AS->az R):Dh E an o T x lo hi st K=(Dh E an o T x lo hi st some).bind K:=by unfold Dh;split;exact Pe T x lo hi K;split;split;rw[KY];congr 1;funext p q;rw[iY];rfl;rfl;split;rw[KY];congr 1;funext p q;rw[iY];rfl;rfl;rfl
theorem S5 (src dst:TypeId)(x:Operand)(K:AS->az R):mI E o src dst x st K=(mI E o src dst x st some).bind K:=by unfold mI;split;rfl;rfl;split;rw[Fx];rfl;rfl;split<;>rfl;rfl
theorem S6 (t i:Nat)(K:AS->az R):mJ o t i st K=(mJ o t i st some).bind K:=by unfold mJ;split;split<;>rfl;rfl
theorem ahy (ts:aw TypeId)(args:aw Operand)(K:AS->az R):Rt E o ts args st K=(Rt E o ts args st some).bind K:=by unfold Rt;split;split<;>rfl;split<;>rfl;rfl
theorem ahJ (args:aw Operand)(K:AS->az R):Tq o args st K=(Tq o args st some).bind K:=by unfold Tq;split<;>rfl
theorem ahE (args:aw Operand)(K:AS->az R):Tp o args st K=(Tp o args st some).bind K:=by unfold Tp;split<;>rfl
theorem ab5 (ts:aw TypeId)(args:aw Operand)(K:AS->az R):TX E o ts args st K=(TX E o ts args st some).bind K:=by unfold TX;split;split;split;split<;>rfl;rfl;rfl;rfl
theorem Wv (S:TypeId)(t f:Nat)(K:AS->az R):Iy E o S t f st K=(Iy E o S t f st some).bind K:=by unfold Iy;split;split;split<;>rfl;rfl;rfl
theorem VR (ts:aw TypeId)(args:aw Operand)(K:AS->az R):zF E o ts args st K=(zF E o ts args st some).bind K:=by unfold zF;split;split;split;split;split;rw[Fx];rfl;rfl;rfl;split;split;rw[Fx];rfl;rfl;rfl;rfl;rfl;rfl
theorem S3 (f:Nat)(args:aw Operand)(K:AS->az R):xh Γ o f args st K=(xh Γ o f args st some).bind K:=by unfold xh;split;split;split;rw[yQ,iY];congr 1;congr 1;funext y;rw[yQ,yQ];rfl;rfl;rfl;rfl
theorem ahU (f:Nat)(args:aw Operand)(K:AS->az R):ahT Γ o f args st K=(ahT Γ o f args st some).bind K:=by unfold ahT;split;split;rw[yQ,iY];congr 1;congr 1;funext y;rw[yQ];rfl;rfl;rfl
theorem abY (f:Operand)(args:aw Operand)(K:AS->az R):GO Γ o f args st K=(GO Γ o f args st some).bind K:=by
 unfold GO;split
 ·rename_i k hk
  cases (Γ k).bx with
  |true=>exact S3 k args K
  |false=>
  simp only[ae]
  cases (Γ k).pr with
  |true=>exact ahU k args K
  |false=>
  simp only[ae]
  cases (Γ k).io with
  |true=>rfl
  |false=>simp only[ae];rw[iY];congr 1;funext y;rw[yQ];rfl
 rfl
theorem adz {β:Type}(op:BinOp)(k:IntKind)(x y:Int)(c:AC->az β)(K:β->az R):(LA op k x y c).bind K=LA op k x y λz=>(c z).bind K:=by unfold LA;split<;>(try rfl)<;>(split<;>rfl)
theorem aeK {β:Type}(op:BinOp)(x y:aw UInt8)(c:AC->az β)(K:β->az R):(Ow op x y c).bind K=Ow op x y λz=>(c z).bind K:=by unfold Ow;split<;>(try rfl);rw[Fx]
theorem It {β:Type}(op:BinOp)(x y:AV)(c:AC->az β)(K:β->az R):(Jc op x y c).bind K=Jc op x y λz=>(c z).bind K:=by unfold Jc;split;split;split<;>rfl;split<;>rfl;split;rw[adz];rfl;rw[aeK];split<;>rfl;split;rw[iY];rw[iY];rfl;rfl
theorem abD {β:Type}(op:UnOp)(x:AV)(c:AC->az β)(K:β->az R):(unC op x c).bind K=unC op x λz=>(c z).bind K:=by unfold unC;split<;>rfl
theorem Qx {β:Type}(op:BinOp)(b:Bool)(c:AC->az β)(K:β->az R):(GP op b c).bind K=GP op b λz=>(c z).bind K:=by unfold GP;split<;>rfl
theorem abS (op:BinOp)(T:TypeId)(x y:Operand)(K:AS->az R):DK E o op T x y st K=(DK E o op T x y st some).bind K:=by unfold DK;split;split;rw[It];rfl;rfl;split;split;rw[It];rfl;rfl;rfl;split;split;rfl;rw[Qx];rfl;rfl;split;rw[Qx];rfl;rfl;rw[It];rfl
theorem Sr (K:AS->az R):dp E Γ an o st K=(dp E Γ an o st some).bind K:=by unfold dp;split;exact adR _ K;split;exact adI _ K;exact VT _ K;exact ad3 _ _ _ K;exact X7 _ K;exact agD _ K;exact adL _ _ K;split;split;exact Ph _ _ _ K;exact abw _ _ _ K;rfl;split<;>rfl;exact abS _ _ _ _ K;rw[abD];rfl;exact YD _ _ _ K;exact O9 _ _ _ K;exact ZT _ _ _ K;exact Yi _ _ K;exact MK _ _ _ K;exact Pa _ _ _ K;exact aba _ _ _ _ K;exact Wv _ _ _ K;exact ab5 _ _ K;exact S5 _ _ _ K;exact S6 _ _ K;exact ahy _ _ K;exact ahJ _ K;exact ahE _ K;exact VR _ _ K;exact abY _ _ K;rfl
theorem sH (ops:aw Oper)(K:AS->az R):ia E Γ an ops o st K=(ia E Γ an ops o st some).bind K:=by
 unfold ia;split;exact Sr K;rename_i j KI hg;split;rename_i d hd;split;rename_i b hb
 have hgo:∀t:Bool,(if(t==KI)=true then dp E Γ an o (st.put (some d) (.one (.bool t))) K else K ((st.put (some d) (.one (.bool t))).put o.dst (.one .un)))=
  (if(t==KI)=true then dp E Γ an o (st.put (some d) (.one (.bool t))) some else some ((st.put (some d) (.one (.bool t))).put o.dst (.one .un))).bind K:=by
  intro t
  split
  ·exact Sr K
  ·rfl
 cases b with|true=>exact hgo true|false=>exact hgo false
 rfl;rfl;rfl
theorem U2 (ops:aw Oper):∀(l:aw Oper)(st:AS)(K:AS->az R),Xf E Γ an ops l st K=(Xf E Γ an ops l st some).bind K
 |[],st,K=>rfl
 |o::l,st,K=>by simp only[Xf];rw[sH,sH (K:=λcp=>Xf E Γ an ops l cp some),Option.bind_assoc];congr 1;funext cp;exact U2 ops l cp K
end Go.Dn
