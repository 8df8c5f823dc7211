import Derived.Test.YtbebkmajekhclaaGreatDnBase
/- The abstract steps, without their continuations. -/
namespace Go.Dn
variable {R:Type} {E:Env} {Γ:Cn} {an:An} {o:Oper} {st:AS}
theorem PH {α β:Type}{x:aB α}{k:α->aB β}{z:β}(h:aa x k=some z):∃y,x=some y/\k y=some z:=by cases x with|none=>cases h|some y=>exact⟨y,rfl,h⟩
theorem jy {α β:Type}(x:aB α)(k:α->aB β)(K:β->aB R):(aa x k).bind K=aa x λy=>(k y).bind K:=by cases x<;>rfl
theorem EP {β:Type}(n:Nat)(k:aB β)(K:β->aB R):(room n k).bind K=room n (k.bind K):=by unfold room;split<;>rfl
theorem yO {β:Type}(b:Bool)(x y:aB β)(K:β->aB R):(cond b x y).bind K=cond b (x.bind K) (y.bind K):=by cases b<;>rfl
theorem adP (x:Operand)(K:AS->aB R):EM an o x st K=(EM an o x st some).bind K:=by unfold EM;split;split<;>rfl;rfl
theorem adC (x:Operand)(K:AS->aB R):UE o x st K=(UE o x st some).bind K:=by unfold UE;split<;>rfl
theorem O0 (T:TypeId)(p x:Operand)(K:AS->aB R):zx E T p x st K=(zx E T p x st some).bind K:=by unfold zx;split;split;split;split;split<;>rfl;rfl;rfl;rfl;rfl
theorem VO (x:Operand)(K:AS->aB R):xr E an o x st K=(xr E an o x st some).bind K:=by unfold xr;split;split<;>rfl;rfl
theorem ad0 (c x y:Operand)(K:AS->aB R):Hd o c x y st K=(Hd o c x y st some).bind K:=by unfold Hd;split;split;rfl;rw[yO];rfl;rfl
theorem X4 (T:TypeId)(K:AS->aB R):E2 E o T st K=(E2 E o T st some).bind K:=by unfold E2;split;split<;>rfl;rfl
theorem ags (x:Operand)(K:AS->aB R):VR o x st K=(VR o x st some).bind K:=by unfold VR;split;split;split<;>rfl;rfl;rfl
theorem abd (sh:Shape)(fl:sO)(e:CT)(i:Int)(off:Nat)(K:AS->aB R):FD o sh fl e i off st K=(FD o sh fl e i off st some).bind K:=by unfold FD;split;split;split;split;rw[jy];rfl;rfl;rfl;rfl;rfl
theorem TD (sh:Shape)(fl:sO)(e:CT)(i:Int)(off:Nat)(K:AS->aB R):AK o sh fl e i off st K=(AK o sh fl e i off st some).bind K:=by unfold AK;split;split;split;split;rw[jy];rfl;rfl;rfl;rfl;rfl
theorem adJ (T:TypeId)(p:Operand)(K:AS->aB R):rf E an o T p st K=(rf E an o T p st some).bind K:=by unfold rf;split;split;split;split;split<;>rfl;rfl;rfl;rfl;split;exact TD _ _ _ _ _ K;split;split<;>rfl;exact abd _ _ _ _ _ K;rfl
theorem Tz (r:mi)(t:Nat)(e:CT)(i:Int)(off:Nat)(vs:aw AC)(K:AS->aB R):st.rr r t e i off vs K=(st.rr r t e i off vs some).bind K:=by unfold AS.rr;split;split;split;rw[jy];congr 1;funext y;split<;>rfl;rfl;rfl;split;split;rw[jy];congr 1;funext y;split<;>rfl;rfl;rfl;rfl
theorem abh (T:TypeId)(p x:Operand)(K:AS->aB R):zw E T p x st K=(zw E T p x st some).bind K:=by unfold zw;split;split;split;split;split<;>rfl;rfl;rfl;rfl;split;split;rw[Tz];rfl;rfl;rfl
theorem YA (S:TypeId)(p:Operand)(f:Nat)(K:AS->aB R):Cw E o S p f st K=(Cw E o S p f st some).bind K:=by unfold Cw;split;split<;>rfl;split<;>rfl;rfl
theorem OR (T:TypeId)(x i:Operand)(K:AS->aB R):om E o T x i st K=(om E o T x i st some).bind K:=by unfold om;split;split;rw[jy];rfl;rfl;rfl
theorem ZN (T:TypeId)(x i:Operand)(K:AS->aB R):Eb E o T x i st K=(Eb E o T x i st some).bind K:=by unfold Eb;split;split;rw[jy];rfl;rfl;rfl
theorem Yg (T:TypeId)(ps:aw (Nat×Operand))(K:AS->aB R):D1 E o T ps st K=(D1 E o T ps st some).bind K:=by unfold D1;split;split;split<;>rfl;rfl
theorem L9 (T:TypeId)(n:Nat)(ps:aw (Nat×Operand))(K:AS->aB R):nz E o T n ps st K=(nz E o T n ps st some).bind K:=by unfold nz;split;split;split;split<;>rfl;rfl;rfl
theorem OT (T:TypeId)(n c:Operand)(K:AS->aB R):qB E o T n c st K=(qB E o T n c st some).bind K:=by unfold qB;split;split;rw[EP];rfl;rfl;rfl
theorem Kc {β:Type}(lo hi:aB Operand)(n:Nat)(k:Int->Int->aB β)(K:β->aB R):(oB st lo hi n k).bind K=oB st lo hi n λx y=>(k x y).bind K:=by unfold oB;split<;>rfl
theorem OY (T:TypeId)(x:Operand)(lo hi:aB Operand)(K:AS->aB R):yZ E o T x lo hi st K=(yZ E o T x lo hi st some).bind K:=by unfold yZ;split;split;rw[jy];rfl;rfl;rfl
theorem aa4 (T:TypeId)(x:Operand)(lo hi:aB Operand)(K:AS->aB R):CZ E an o T x lo hi st K=(CZ E an o T x lo hi st some).bind K:=by unfold CZ;split;exact OY T x lo hi K;split;split;rw[Kc];congr 1;funext p q;rw[jy];rfl;rfl;split;rw[Kc];congr 1;funext p q;rw[jy];rfl;rfl;rfl
theorem SV (src dst:TypeId)(x:Operand)(K:AS->aB R):nC E o src dst x st K=(nC E o src dst x st some).bind K:=by unfold nC;split;rfl;rfl;split;rw[EP];rfl;rfl;split<;>rfl;rfl
theorem SW (t i:Nat)(K:AS->aB R):nE o t i st K=(nE o t i st some).bind K:=by unfold nE;split;split<;>rfl;rfl
theorem ahE (ts:aw TypeId)(args:aw Operand)(K:AS->aB R):Ri E o ts args st K=(Ri E o ts args st some).bind K:=by unfold Ri;split;split<;>rfl;split<;>rfl;rfl
theorem ahQ (args:aw Operand)(K:AS->aB R):Th o args st K=(Th o args st some).bind K:=by unfold Th;split<;>rfl
theorem ahM (args:aw Operand)(K:AS->aB R):Tg o args st K=(Tg o args st some).bind K:=by unfold Tg;split<;>rfl
theorem ab3 (ts:aw TypeId)(args:aw Operand)(K:AS->aB R):TO E o ts args st K=(TO E o ts args st some).bind K:=by unfold TO;split;split;split;split<;>rfl;rfl;rfl;rfl
theorem Wv (S:TypeId)(t f:Nat)(K:AS->aB R):HM E o S t f st K=(HM E o S t f st some).bind K:=by unfold HM;split;split;split<;>rfl;rfl;rfl
theorem VM (ts:aw TypeId)(args:aw Operand)(K:AS->aB R):zD E o ts args st K=(zD E o ts args st some).bind K:=by unfold zD;split;split;split;split;split;rw[EP];rfl;rfl;rfl;split;split;rw[EP];rfl;rfl;rfl;rfl;rfl;rfl
theorem SQ (f:Nat)(args:aw Operand)(K:AS->aB R):xu Γ o f args st K=(xu Γ o f args st some).bind K:=by unfold xu;split;split;split;rw[yO,jy];congr 1;congr 1;funext y;rw[yO,yO];rfl;rfl;rfl;rfl
theorem ah1 (f:Nat)(args:aw Operand)(K:AS->aB R):ah0 Γ o f args st K=(ah0 Γ o f args st some).bind K:=by unfold ah0;split;split;rw[yO,jy];congr 1;congr 1;funext y;rw[yO];rfl;rfl;rfl
theorem abU (f:Operand)(args:aw Operand)(K:AS->aB R):F1 Γ o f args st K=(F1 Γ o f args st some).bind K:=by
 unfold F1;split
 ·rename_i k hk
  cases (Γ k).bx with
  |true=>exact SQ k args K
  |false=>
  simp only[af]
  cases (Γ k).pr with
  |true=>exact ah1 k args K
  |false=>
  simp only[af]
  cases (Γ k).io with
  |true=>rfl
  |false=>simp only[af];rw[jy];congr 1;funext y;rw[yO];rfl
 rfl
theorem ads {β:Type}(op:BinOp)(k:IntKind)(x y:Int)(c:AC->aB β)(K:β->aB R):(K2 op k x y c).bind K=K2 op k x y λz=>(c z).bind K:=by unfold K2;split<;>(try rfl)<;>(split<;>rfl)
theorem aeA {β:Type}(op:BinOp)(x y:aw UInt8)(c:AC->aB β)(K:β->aB R):(Oi op x y c).bind K=Oi op x y λz=>(c z).bind K:=by unfold Oi;split<;>(try rfl);rw[EP]
theorem HJ {β:Type}(op:BinOp)(x y:AV)(c:AC->aB β)(K:β->aB R):(Iq op x y c).bind K=Iq op x y λz=>(c z).bind K:=by unfold Iq;split;split;split<;>rfl;split<;>rfl;split;rw[ads];rfl;rw[aeA];split<;>rfl;split;rw[jy];rw[jy];rfl;rfl
theorem abu {β:Type}(op:UnOp)(x:AV)(c:AC->aB β)(K:β->aB R):(unC op x c).bind K=unC op x λz=>(c z).bind K:=by unfold unC;split<;>rfl
theorem Qc {β:Type}(op:BinOp)(b:Bool)(c:AC->aB β)(K:β->aB R):(F3 op b c).bind K=F3 op b λz=>(c z).bind K:=by unfold F3;split<;>rfl
theorem abL (op:BinOp)(T:TypeId)(x y:Operand)(K:AS->aB R):Dm E o op T x y st K=(Dm E o op T x y st some).bind K:=by unfold Dm;split;split;rw[HJ];rfl;rfl;split;split;rw[HJ];rfl;rfl;rfl;split;split;rfl;rw[Qc];rfl;rfl;split;rw[Qc];rfl;rfl;rw[HJ];rfl
theorem Sh (K:AS->aB R):dp E Γ an o st K=(dp E Γ an o st some).bind K:=by unfold dp;split;exact adP _ K;split;exact adC _ K;exact VO _ K;exact ad0 _ _ _ K;exact X4 _ K;exact ags _ K;exact adJ _ _ K;split;split;exact O0 _ _ _ K;exact abh _ _ _ K;rfl;split<;>rfl;exact abL _ _ _ _ K;rw[abu];rfl;exact YA _ _ _ K;exact OR _ _ _ K;exact ZN _ _ _ K;exact Yg _ _ K;exact L9 _ _ _ K;exact OT _ _ _ K;exact aa4 _ _ _ _ K;exact Wv _ _ _ K;exact ab3 _ _ K;exact SV _ _ _ K;exact SW _ _ K;exact ahE _ _ K;exact ahQ _ K;exact ahM _ K;exact VM _ _ K;exact abU _ _ K;rfl
theorem sX (ops:aw Oper)(K:AS->aB R):iI E Γ an ops o st K=(iI E Γ an ops o st some).bind K:=by
 unfold iI;split;exact Sh K;rename_i j JZ hg;split;rename_i d hd;split;rename_i b hb
 have hgo:∀t:Bool,(if(t==JZ)=true then dp E Γ an o (st.put (some d) (.one (.bool t))) K else K ((st.put (some d) (.one (.bool t))).put o.dst (.one .un)))=
  (if(t==JZ)=true then dp E Γ an o (st.put (some d) (.one (.bool t))) some else some ((st.put (some d) (.one (.bool t))).put o.dst (.one .un))).bind K:=by
  intro t
  split
  ·exact Sh K
  ·rfl
 cases b with|true=>exact hgo true|false=>exact hgo false
 rfl;rfl;rfl
theorem UT (ops:aw Oper):∀(l:aw Oper)(st:AS)(K:AS->aB R),Xj E Γ an ops l st K=(Xj E Γ an ops l st some).bind K
 |[],st,K=>rfl
 |o::l,st,K=>by simp only[Xj];rw[sX,sX (K:=λcj=>Xj E Γ an ops l cj some),Option.bind_assoc];congr 1;funext cj;exact UT ops l cj K
end Go.Dn
