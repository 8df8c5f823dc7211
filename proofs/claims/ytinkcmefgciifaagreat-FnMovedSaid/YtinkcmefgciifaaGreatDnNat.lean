import Derived.Test.YtinkcmefgciifaaGreatDnBase
/- The abstract steps, without their continuations. -/
namespace Go.Dn
variable {R:Type} {E:Env} {Γ:xU} {an:An} {o:Oper} {st:AS}
theorem JJ {α β:Type}{x:ax α}{k:α->ax β}{z:β}(h:aa x k=some z):∃y,x=some y/\k y=some z:=by cases x with|none=>cases h|some y=>exact⟨y,rfl,h⟩
theorem ic {α β:Type}(x:ax α)(k:α->ax β)(K:β->ax R):(aa x k).bind K=aa x λy=>(k y).bind K:=by cases x<;>rfl
theorem AD {β:Type}(n:Nat)(k:ax β)(K:β->ax R):(room n k).bind K=room n (k.bind K):=by unfold room;split<;>rfl
theorem uP {β:Type}(b:Bool)(x y:ax β)(K:β->ax R):(cond b x y).bind K=cond b (x.bind K) (y.bind K):=by cases b<;>rfl
theorem VI (x:Operand)(K:AS->ax R):Ay an o x st K=(Ay an o x st some).bind K:=by unfold Ay;split;split<;>rfl;rfl
theorem Vz (x:Operand)(K:AS->ax R):Nz o x st K=(Nz o x st some).bind K:=by unfold Nz;split<;>rfl
theorem Jg (T:TypeId)(p x:Operand)(K:AS->ax R):vk E T p x st K=(vk E T p x st some).bind K:=by unfold vk;split;split;split;split;split<;>rfl;rfl;rfl;rfl;rfl
theorem Om (x:Operand)(K:AS->ax R):tk E an o x st K=(tk E an o x st some).bind K:=by unfold tk;split;split<;>rfl;rfl
theorem VU (c x y:Operand)(K:AS->ax R):CJ o c x y st K=(CJ o c x y st some).bind K:=by unfold CJ;split;split;rfl;rw[uP];rfl;rfl
theorem QD (T:TypeId)(K:AS->ax R):AK E o T st K=(AK E o T st some).bind K:=by unfold AK;split;split<;>rfl;rfl
theorem X2 (x:Operand)(K:AS->ax R):Oq o x st K=(Oq o x st some).bind K:=by unfold Oq;split;split;split<;>rfl;rfl;rfl
theorem Ti (sh:Shape)(fl:pE)(e:CT)(i:Int)(off:Nat)(K:AS->ax R):Bw o sh fl e i off st K=(Bw o sh fl e i off st some).bind K:=by unfold Bw;split;split;split;split;rw[ic];rfl;rfl;rfl;rfl;rfl
theorem MK (sh:Shape)(fl:pE)(e:CT)(i:Int)(off:Nat)(K:AS->ax R):wF o sh fl e i off st K=(wF o sh fl e i off st some).bind K:=by unfold wF;split;split;split;split;rw[ic];rfl;rfl;rfl;rfl;rfl
theorem VC (T:TypeId)(p:Operand)(K:AS->ax R):oh E an o T p st K=(oh E an o T p st some).bind K:=by unfold oh;split;split;split;split;split<;>rfl;rfl;rfl;rfl;split;exact MK _ _ _ _ _ K;split;split<;>rfl;exact Ti _ _ _ _ _ K;rfl
theorem MH (r:ka)(t:Nat)(e:CT)(i:Int)(off:Nat)(vs:aw AC)(K:AS->ax R):st.oz r t e i off vs K=(st.oz r t e i off vs some).bind K:=by unfold AS.oz;split;split;split;rw[ic];congr 1;funext y;split<;>rfl;rfl;rfl;split;split;rw[ic];congr 1;funext y;split<;>rfl;rfl;rfl;rfl
theorem Tj (T:TypeId)(p x:Operand)(K:AS->ax R):vj E T p x st K=(vj E T p x st some).bind K:=by unfold vj;split;split;split;split;split<;>rfl;rfl;rfl;rfl;split;split;rw[MH];rfl;rfl;rfl
theorem Q4 (S:TypeId)(p:Operand)(f:Nat)(K:AS->ax R):ym E o S p f st K=(ym E o S p f st some).bind K:=by unfold ym;split;split<;>rfl;split<;>rfl;rfl
theorem I9 (T:TypeId)(x i:Operand)(K:AS->ax R):lS E o T x i st K=(lS E o T x i st some).bind K:=by unfold lS;split;split;rw[ic];rfl;rfl;rfl
theorem R4 (T:TypeId)(x i:Operand)(K:AS->ax R):zS E o T x i st K=(zS E o T x i st some).bind K:=by unfold zS;split;split;rw[ic];rfl;rfl;rfl
theorem QP (T:TypeId)(ps:aw (Nat×Operand))(K:AS->ax R):zJ E o T ps st K=(zJ E o T ps st some).bind K:=by unfold zJ;split;split;split<;>rfl;rfl
theorem G1 (T:TypeId)(n:Nat)(ps:aw (Nat×Operand))(K:AS->ax R):lf E o T n ps st K=(lf E o T n ps st some).bind K:=by unfold lf;split;split;split;split<;>rfl;rfl;rfl
theorem Ja (T:TypeId)(n c:Operand)(K:AS->ax R):nJ E o T n c st K=(nJ E o T n c st some).bind K:=by unfold nJ;split;split;rw[AD];rfl;rfl;rfl
theorem Fq {β:Type}(lo hi:ax Operand)(n:Nat)(k:Int->Int->ax β)(K:β->ax R):(me st lo hi n k).bind K=me st lo hi n λx y=>(k x y).bind K:=by unfold me;split<;>rfl
theorem Jf (T:TypeId)(x:Operand)(lo hi:ax Operand)(K:AS->ax R):uY E o T x lo hi st K=(uY E o T x lo hi st some).bind K:=by unfold uY;split;split;rw[ic];rfl;rfl;rfl
theorem Ta (T:TypeId)(x:Operand)(lo hi:ax Operand)(K:AS->ax R):yJ E an o T x lo hi st K=(yJ E an o T x lo hi st some).bind K:=by unfold yJ;split;exact Jf T x lo hi K;split;split;rw[Fq];congr 1;funext p q;rw[ic];rfl;rfl;split;rw[Fq];congr 1;funext p q;rw[ic];rfl;rfl;rfl
theorem Mb (src dst:TypeId)(x:Operand)(K:AS->ax R):lh E o src dst x st K=(lh E o src dst x st some).bind K:=by unfold lh;split;rfl;rfl;split;rw[AD];rfl;rfl;split<;>rfl;rfl
theorem Mc (t i:Nat)(K:AS->ax R):ll o t i st K=(ll o t i st some).bind K:=by unfold ll;split;split<;>rfl;rfl
theorem Zm (ts:aw TypeId)(args:aw Operand)(K:AS->ax R):KT E o ts args st K=(KT E o ts args st some).bind K:=by unfold KT;split;split<;>rfl;split<;>rfl;rfl
theorem Zy (args:aw Operand)(K:AS->ax R):Mu o args st K=(Mu o args st some).bind K:=by unfold Mu;split<;>rfl
theorem Zt (args:aw Operand)(K:AS->ax R):Mt o args st K=(Mt o args st some).bind K:=by unfold Mt;split<;>rfl
theorem T8 (ts:aw TypeId)(args:aw Operand)(K:AS->ax R):MT E o ts args st K=(MT E o ts args st some).bind K:=by unfold MT;split;split;split;split<;>rfl;rfl;rfl;rfl
theorem O1 (S:TypeId)(t f:Nat)(K:AS->ax R):Dh E o S t f st K=(Dh E o S t f st some).bind K:=by unfold Dh;split;split;split<;>rfl;rfl;rfl
theorem Ok (ts:aw TypeId)(args:aw Operand)(K:AS->ax R):vp E o ts args st K=(vp E o ts args st some).bind K:=by unfold vp;split;split;split;split;split;rw[AD];rfl;rfl;rfl;split;split;rw[AD];rfl;rfl;rfl;rfl;rfl;rfl
theorem Ma (f:Nat)(args:aw Operand)(K:AS->ax R):tn Γ o f args st K=(tn Γ o f args st some).bind K:=by unfold tn;split;split;split;rw[uP,ic];congr 1;congr 1;funext y;rw[uP,uP];rfl;rfl;rfl;rfl
theorem ZK (f:Nat)(args:aw Operand)(K:AS->ax R):ZJ Γ o f args st K=(ZJ Γ o f args st some).bind K:=by unfold ZJ;split;split;rw[uP,ic];congr 1;congr 1;funext y;rw[uP];rfl;rfl;rfl
theorem T3 (f:Operand)(args:aw Operand)(K:AS->ax R):BK Γ o f args st K=(BK Γ o f args st some).bind K:=by
 unfold BK;split
 ·rename_i k hk
  cases (Γ k).bx with
  |true=>exact Ma k args K
  |false=>
  simp only[af]
  cases (Γ k).pr with
  |true=>exact ZK k args K
  |false=>
  simp only[af]
  cases (Γ k).io with
  |true=>rfl
  |false=>simp only[af];rw[ic];congr 1;funext y;rw[uP];rfl
 rfl
theorem Vq {β:Type}(op:BinOp)(k:IntKind)(x y:Int)(c:AC->ax β)(K:β->ax R):(F6 op k x y c).bind K=F6 op k x y λz=>(c z).bind K:=by unfold F6;split<;>(try rfl)<;>(split<;>rfl)
theorem Wu {β:Type}(op:BinOp)(x y:aw UInt8)(c:AC->ax β)(K:β->ax R):(IK op x y c).bind K=IK op x y λz=>(c z).bind K:=by unfold IK;split<;>(try rfl);rw[AD]
theorem De {β:Type}(op:BinOp)(x y:AV)(c:AC->ax β)(K:β->ax R):(DN op x y c).bind K=DN op x y λz=>(c z).bind K:=by unfold DN;split;split;split<;>rfl;split<;>rfl;split;rw[Vq];rfl;rw[Wu];split<;>rfl;split;rw[ic];rw[ic];rfl;rfl
theorem Tu {β:Type}(op:UnOp)(x:AV)(c:AC->ax β)(K:β->ax R):(unC op x c).bind K=unC op x λz=>(c z).bind K:=by unfold unC;split<;>rfl
theorem J5 {β:Type}(op:BinOp)(b:Bool)(c:AC->ax β)(K:β->ax R):(BL op b c).bind K=BL op b λz=>(c z).bind K:=by unfold BL;split<;>rfl
theorem TV (op:BinOp)(T:TypeId)(x y:Operand)(K:AS->ax R):yV E o op T x y st K=(yV E o op T x y st some).bind K:=by unfold yV;split;split;rw[De];rfl;rfl;split;split;rw[De];rfl;rfl;rfl;split;split;rfl;rw[J5];rfl;rfl;split;rw[J5];rfl;rfl;rw[De];rfl
theorem LJ (K:AS->ax R):cY E Γ an o st K=(cY E Γ an o st some).bind K:=by unfold cY;split;exact VI _ K;split;exact Vz _ K;exact Om _ K;exact VU _ _ _ K;exact QD _ K;exact X2 _ K;exact VC _ _ K;split;split;exact Jg _ _ _ K;exact Tj _ _ _ K;rfl;split<;>rfl;exact TV _ _ _ _ K;rw[Tu];rfl;exact Q4 _ _ _ K;exact I9 _ _ _ K;exact R4 _ _ _ K;exact QP _ _ K;exact G1 _ _ _ K;exact Ja _ _ _ K;exact Ta _ _ _ _ K;exact O1 _ _ _ K;exact T8 _ _ K;exact Mb _ _ _ K;exact Mc _ _ K;exact Zm _ _ K;exact Zy _ K;exact Zt _ K;exact Ok _ _ K;exact T3 _ _ K;rfl
theorem pM (ops:aw Oper)(K:AS->ax R):gb E Γ an ops o st K=(gb E Γ an ops o st some).bind K:=by
 unfold gb;split;exact LJ K;rename_i j E6 hg;split;rename_i d hd;split;rename_i b hb
 have Yx:∀t:Bool,(if(t==E6)=true then cY E Γ an o (st.put (some d) (.one (.bool t))) K else K ((st.put (some d) (.one (.bool t))).put o.dst (.one .un)))=
  (if(t==E6)=true then cY E Γ an o (st.put (some d) (.one (.bool t))) some else some ((st.put (some d) (.one (.bool t))).put o.dst (.one .un))).bind K:=by
  intro t
  split
  ·exact LJ K
  ·rfl
 cases b with|true=>exact Yx true|false=>exact Yx false
 rfl;rfl;rfl
theorem NQ (ops:aw Oper):∀(l:aw Oper)(st:AS)(K:AS->ax R),PM E Γ an ops l st K=(PM E Γ an ops l st some).bind K
 |[],st,K=>rfl
 |o::l,st,K=>by simp only[PM];rw[pM,pM (K:=λbH=>PM E Γ an ops l bH some),Option.bind_assoc];congr 1;funext bH;exact NQ ops l bH K
end Go.Dn
