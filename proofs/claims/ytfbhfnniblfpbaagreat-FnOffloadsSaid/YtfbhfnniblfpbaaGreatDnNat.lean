import Derived.Test.YtfbhfnniblfpbaaGreatDnBase
/- The abstract steps, without their continuations. -/
namespace Go.Dn
variable {R:Type} {E:Env} {Γ:zu} {an:An} {o:Oper} {st:AS}
theorem P3 {α β:Type}{x:aA α}{k:α->aA β}{z:β}(h:aa x k=some z):∃y,x=some y/\k y=some z:=by cases x with|none=>cases h|some y=>exact⟨y,rfl,h⟩
theorem jN {α β:Type}(x:aA α)(k:α->aA β)(K:β->aA R):(aa x k).bind K=aa x λy=>(k y).bind K:=by cases x<;>rfl
theorem FL {β:Type}(n:Nat)(k:aA β)(K:β->aA R):(room n k).bind K=room n (k.bind K):=by unfold room;split<;>rfl
theorem zF {β:Type}(b:Bool)(x y:aA β)(K:β->aA R):(cond b x y).bind K=cond b (x.bind K) (y.bind K):=by cases b<;>rfl
theorem abF (x:Operand)(K:AS->aA R):FF an o x st K=(FF an o x st some).bind K:=by unfold FF;split;split<;>rfl;rfl
theorem abt (x:Operand)(K:AS->aA R):Us o x st K=(Us o x st some).bind K:=by unfold Us;split<;>rfl
theorem Pd (T:TypeId)(p x:Operand)(K:AS->aA R):zZ E T p x st K=(zZ E T p x st some).bind K:=by unfold zZ;split;split;split;split;split<;>rfl;rfl;rfl;rfl;rfl
theorem Vx (x:Operand)(K:AS->aA R):xK E an o x st K=(xK E an o x st some).bind K:=by unfold xK;split;split<;>rfl;rfl
theorem abQ (c x y:Operand)(K:AS->aA R):H4 o c x y st K=(H4 o c x y st some).bind K:=by unfold H4;split;split;rfl;rw[zF];rfl;rfl
theorem Xk (T:TypeId)(K:AS->aA R):F2 E o T st K=(F2 E o T st some).bind K:=by unfold F2;split;split<;>rfl;rfl
theorem adS (x:Operand)(K:AS->aA R):Vy o x st K=(Vy o x st some).bind K:=by unfold Vy;split;split;split<;>rfl;rfl;rfl
theorem ZN (sh:Shape)(fl:tu)(e:CT)(i:Int)(off:Nat)(K:AS->aA R):GO o sh fl e i off st K=(GO o sh fl e i off st some).bind K:=by unfold GO;split;split;split;split;rw[jN];rfl;rfl;rfl;rfl;rfl
theorem To (sh:Shape)(fl:tu)(e:CT)(i:Int)(off:Nat)(K:AS->aA R):Bz o sh fl e i off st K=(Bz o sh fl e i off st some).bind K:=by unfold Bz;split;split;split;split;rw[jN];rfl;rfl;rfl;rfl;rfl
theorem aby (T:TypeId)(p:Operand)(K:AS->aA R):rp E an o T p st K=(rp E an o T p st some).bind K:=by unfold rp;split;split;split;split;split<;>rfl;rfl;rfl;rfl;split;exact To _ _ _ _ _ K;split;split<;>rfl;exact ZN _ _ _ _ _ K;rfl
theorem Tl (r:mw)(t:Nat)(e:CT)(i:Int)(off:Nat)(vs:ax AC)(K:AS->aA R):st.rO r t e i off vs K=(st.rO r t e i off vs some).bind K:=by unfold AS.rO;split;split;split;rw[jN];congr 1;funext y;split<;>rfl;rfl;rfl;split;split;rw[jN];congr 1;funext y;split<;>rfl;rfl;rfl;rfl
theorem ZP (T:TypeId)(p x:Operand)(K:AS->aA R):zY E T p x st K=(zY E T p x st some).bind K:=by unfold zY;split;split;split;split;split<;>rfl;rfl;rfl;rfl;split;split;rw[Tl];rfl;rfl;rfl
theorem XD (S:TypeId)(p:Operand)(f:Nat)(K:AS->aA R):Di E o S p f st K=(Di E o S p f st some).bind K:=by unfold Di;split;split<;>rfl;split<;>rfl;rfl
theorem O0 (T:TypeId)(x i:Operand)(K:AS->aA R):oy E o T x i st K=(oy E o T x i st some).bind K:=by unfold oy;split;split;rw[jN];rfl;rfl;rfl
theorem Yy (T:TypeId)(x i:Operand)(K:AS->aA R):EX E o T x i st K=(EX E o T x i st some).bind K:=by unfold EX;split;split;rw[jN];rfl;rfl;rfl
theorem Xt (T:TypeId)(ps:ax (Nat×Operand))(K:AS->aA R):EO E o T ps st K=(EO E o T ps st some).bind K:=by unfold EO;split;split;split<;>rfl;rfl
theorem MN (T:TypeId)(n:Nat)(ps:ax (Nat×Operand))(K:AS->aA R):nC E o T n ps st K=(nC E o T n ps st some).bind K:=by unfold nC;split;split;split;split<;>rfl;rfl;rfl
theorem O1 (T:TypeId)(n c:Operand)(K:AS->aA R):qJ E o T n c st K=(qJ E o T n c st some).bind K:=by unfold qJ;split;split;rw[FL];rfl;rfl;rfl
theorem KS {β:Type}(lo hi:aA Operand)(n:Nat)(k:Int->Int->aA β)(K:β->aA R):(oN st lo hi n k).bind K=oN st lo hi n λx y=>(k x y).bind K:=by unfold oN;split<;>rfl
theorem Pa (T:TypeId)(x:Operand)(lo hi:aA Operand)(K:AS->aA R):zQ E o T x lo hi st K=(zQ E o T x lo hi st some).bind K:=by unfold zQ;split;split;rw[jN];rfl;rfl;rfl
theorem Zz (T:TypeId)(x:Operand)(lo hi:aA Operand)(K:AS->aA R):DN E an o T x lo hi st K=(DN E an o T x lo hi st some).bind K:=by unfold DN;split;exact Pa T x lo hi K;split;split;rw[KS];congr 1;funext p q;rw[jN];rfl;rfl;split;rw[KS];congr 1;funext p q;rw[jN];rfl;rfl;rfl
theorem SK (src dst:TypeId)(x:Operand)(K:AS->aA R):nD E o src dst x st K=(nD E o src dst x st some).bind K:=by unfold nD;split;rfl;rfl;split;rw[FL];rfl;rfl;split<;>rfl;rfl
theorem SM (t i:Nat)(K:AS->aA R):nG o t i st K=(nG o t i st some).bind K:=by unfold nG;split;split<;>rfl;rfl
theorem aeW (ts:ax TypeId)(args:ax Operand)(K:AS->aA R):Rj E o ts args st K=(Rj E o ts args st some).bind K:=by unfold Rj;split;split<;>rfl;split<;>rfl;rfl
theorem ae9 (args:ax Operand)(K:AS->aA R):S6 o args st K=(S6 o args st some).bind K:=by unfold S6;split<;>rfl
theorem ae5 (args:ax Operand)(K:AS->aA R):S5 o args st K=(S5 o args st some).bind K:=by unfold S5;split<;>rfl
theorem aaz (ts:ax TypeId)(args:ax Operand)(K:AS->aA R):TE E o ts args st K=(TE E o ts args st some).bind K:=by unfold TE;split;split;split;split<;>rfl;rfl;rfl;rfl
theorem VM (S:TypeId)(t f:Nat)(K:AS->aA R):IG E o S t f st K=(IG E o S t f st some).bind K:=by unfold IG;split;split;split<;>rfl;rfl;rfl
theorem Vv (ts:ax TypeId)(args:ax Operand)(K:AS->aA R):Af E o ts args st K=(Af E o ts args st some).bind K:=by unfold Af;split;split;split;split;split;rw[FL];rfl;rfl;rfl;split;split;rw[FL];rfl;rfl;rfl;rfl;rfl;rfl
theorem SJ (f:Nat)(args:ax Operand)(K:AS->aA R):xL Γ o f args st K=(xL Γ o f args st some).bind K:=by unfold xL;split;split;split;rw[zF,jN];congr 1;congr 1;funext y;rw[zF,zF];rfl;rfl;rfl;rfl
theorem afl (f:Nat)(args:ax Operand)(K:AS->aA R):afk Γ o f args st K=(afk Γ o f args st some).bind K:=by unfold afk;split;split;rw[zF,jN];congr 1;congr 1;funext y;rw[zF];rfl;rfl;rfl
theorem aau (f:Operand)(args:ax Operand)(K:AS->aA R):G4 Γ o f args st K=(G4 Γ o f args st some).bind K:=by
 unfold G4;split
 ·rename_i k hk
  cases (Γ k).bx with
  |true=>exact SJ k args K
  |false=>
  simp only[ae]
  cases (Γ k).pr with
  |true=>exact afl k args K
  |false=>
  simp only[ae]
  cases (Γ k).io with
  |true=>rfl
  |false=>simp only[ae];rw[jN];congr 1;funext y;rw[zF];rfl
 rfl
theorem abh {β:Type}(op:BinOp)(k:IntKind)(x y:Int)(c:AC->aA β)(K:β->aA R):(Ls op k x y c).bind K=Ls op k x y λz=>(c z).bind K:=by unfold Ls;split<;>(try rfl)<;>(split<;>rfl)
theorem acu {β:Type}(op:BinOp)(x y:ax UInt8)(c:AC->aA β)(K:β->aA R):(OH op x y c).bind K=OH op x y λz=>(c z).bind K:=by unfold OH;split<;>(try rfl);rw[FL]
theorem IB {β:Type}(op:BinOp)(x y:AV)(c:AC->aA β)(K:β->aA R):(Jj op x y c).bind K=Jj op x y λz=>(c z).bind K:=by unfold Jj;split;split;split<;>rfl;split<;>rfl;split;rw[abh];rfl;rw[acu];split<;>rfl;split;rw[jN];rw[jN];rfl;rfl
theorem ZZ {β:Type}(op:UnOp)(x:AV)(c:AC->aA β)(K:β->aA R):(unC op x c).bind K=unC op x λz=>(c z).bind K:=by unfold unC;split<;>rfl
theorem Qr {β:Type}(op:BinOp)(b:Bool)(c:AC->aA β)(K:β->aA R):(G6 op b c).bind K=G6 op b λz=>(c z).bind K:=by unfold G6;split<;>rfl
theorem aao (op:BinOp)(T:TypeId)(x y:Operand)(K:AS->aA R):D9 E o op T x y st K=(D9 E o op T x y st some).bind K:=by unfold D9;split;split;rw[IB];rfl;rfl;split;split;rw[IB];rfl;rfl;rfl;split;split;rfl;rw[Qr];rfl;rfl;split;rw[Qr];rfl;rfl;rw[IB];rfl
theorem Sc (K:AS->aA R):dM E Γ an o st K=(dM E Γ an o st some).bind K:=by unfold dM;split;exact abF _ K;split;exact abt _ K;exact Vx _ K;exact abQ _ _ _ K;exact Xk _ K;exact adS _ K;exact aby _ _ K;split;split;exact Pd _ _ _ K;exact ZP _ _ _ K;rfl;split<;>rfl;exact aao _ _ _ _ K;rw[ZZ];rfl;exact XD _ _ _ K;exact O0 _ _ _ K;exact Yy _ _ _ K;exact Xt _ _ K;exact MN _ _ _ K;exact O1 _ _ _ K;exact Zz _ _ _ _ K;exact VM _ _ _ K;exact aaz _ _ K;exact SK _ _ _ K;exact SM _ _ K;exact aeW _ _ K;exact ae9 _ K;exact ae5 _ K;exact Vv _ _ K;exact aau _ _ K;rfl
theorem tB (ops:ax Oper)(K:AS->aA R):iO E Γ an ops o st K=(iO E Γ an ops o st some).bind K:=by
 unfold iO;split;exact Sc K;rename_i j KE hg;split;rename_i d hd;split;rename_i b hb
 have hgo:∀t:Bool,(if(t==KE)=true then dM E Γ an o (st.put (some d) (.one (.bool t))) K else K ((st.put (some d) (.one (.bool t))).put o.dst (.one .un)))=
  (if(t==KE)=true then dM E Γ an o (st.put (some d) (.one (.bool t))) some else some ((st.put (some d) (.one (.bool t))).put o.dst (.one .un))).bind K:=by
  intro t
  split
  ·exact Sc K
  ·rfl
 cases b with|true=>exact hgo true|false=>exact hgo false
 rfl;rfl;rfl
theorem UF (ops:ax Oper):∀(l:ax Oper)(st:AS)(K:AS->aA R),Wq E Γ an ops l st K=(Wq E Γ an ops l st some).bind K
 |[],st,K=>rfl
 |o::l,st,K=>by simp only[Wq];rw[tB,tB (K:=λcp=>Wq E Γ an ops l cp some),Option.bind_assoc];congr 1;funext cp;exact UF ops l cp K
end Go.Dn
