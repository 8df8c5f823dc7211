import Derived.Test.YtjoicgadhgkphacGreatDnBase
/- The abstract steps, without their continuations. -/
namespace Go.Dn
variable {R:Type} {E:Env} {Γ:bH} {an:An} {o:Oper} {st:AS}
theorem ED {α β:Type}{x:Option α}{k:α→Option β}{z:β}(h:aa x k=some z):∃y,x=some y∧k y=some z:=by cases x with|none=>cases h|some y=>exact⟨y,rfl,h⟩
theorem eI {α β:Type}(x:Option α)(k:α→Option β)(K:β→Option R):(aa x k).bind K=aa x λy=>(k y).bind K:=by cases x<;>rfl
theorem w8 {β:Type}(n:Nat)(k:Option β)(K:β→Option R):(room n k).bind K=room n (k.bind K):=by unfold room;split<;>rfl
theorem uG {β:Type}(b:Bool)(x y:Option β)(K:β→Option R):(cond b x y).bind K=cond b (x.bind K) (y.bind K):=by cases b<;>rfl
theorem PJ (x:Operand)(K:AS→Option R):wZ an o x st K=(wZ an o x st some).bind K:=by unfold wZ;split;split<;>rfl;rfl
theorem PA (x:Operand)(K:AS→Option R):Iv o x st K=(Iv o x st some).bind K:=by unfold Iv;split<;>rfl
theorem Ee (T:TypeId)(p x:Operand)(K:AS→Option R):rQ E T p x st K=(rQ E T p x st some).bind K:=by unfold rQ;split;split;split;split;split<;>rfl;rfl;rfl;rfl;rfl
theorem Jp (x:Operand)(K:AS→Option R):pJ E an o x st K=(pJ E an o x st some).bind K:=by unfold pJ;split;split<;>rfl;rfl
theorem PX (c x y:Operand)(K:AS→Option R):zn o c x y st K=(zn o c x y st some).bind K:=by unfold zn;split;split;rfl;rw[uG];rfl;rfl
theorem Lz (T:TypeId)(K:AS→Option R):xh E o T st K=(xh E o T st some).bind K:=by unfold xh;split;split<;>rfl;rfl
theorem R6 (x:Operand)(K:AS→Option R):Jr o x st K=(Jr o x st some).bind K:=by unfold Jr;split;split;split<;>rfl;rfl;rfl
theorem N3 (sh:Shape)(fl:lh)(e:CT)(i:Int)(off:Nat)(K:AS→Option R):ye o sh fl e i off st K=(ye o sh fl e i off st some).bind K:=by unfold ye;split;split;split;split;rw[eI];rfl;rfl;rfl;rfl;rfl
theorem HS (sh:Shape)(fl:lh)(e:CT)(i:Int)(off:Nat)(K:AS→Option R):xd o sh fl e i off st K=(xd o sh fl e i off st some).bind K:=by unfold xd;split;split;split;split;rw[eI];rfl;rfl;rfl;rfl;rfl
theorem PE (T:TypeId)(p:Operand)(K:AS→Option R):qL E an o T p st K=(qL E an o T p st some).bind K:=by unfold qL;split;split;split;split;split<;>rfl;rfl;rfl;rfl;split;exact HS _ _ _ _ _ K;split;split<;>rfl;exact N3 _ _ _ _ _ K;rfl
theorem HP (r:gC)(t:Nat)(e:CT)(i:Int)(off:Nat)(vs:List AC)(K:AS→Option R):st.kX r t e i off vs K=(st.kX r t e i off vs some).bind K:=by unfold AS.kX;split;split;split;rw[eI];congr 1;funext y;split<;>rfl;rfl;rfl;split;split;rw[eI];congr 1;funext y;split<;>rfl;rfl;rfl;rfl
theorem N6 (T:TypeId)(p x:Operand)(K:AS→Option R):rP E T p x st K=(rP E T p x st some).bind K:=by unfold rP;split;split;split;split;split<;>rfl;rfl;rfl;rfl;split;split;rw[HP];rfl;rfl;rfl
theorem Mr (S:TypeId)(p:Operand)(f:Nat)(K:AS→Option R):uQ E o S p f st K=(uQ E o S p f st some).bind K:=by unfold uQ;split;split<;>rfl;split<;>rfl;rfl
theorem D6 (T:TypeId)(x i:Operand)(K:AS→Option R):ja E o T x i st K=(ja E o T x i st some).bind K:=by unfold ja;split;split;rw[eI];rfl;rfl;rfl
theorem M1 (T:TypeId)(x i:Operand)(K:AS→Option R):wA E o T x i st K=(wA E o T x i st some).bind K:=by unfold wA;split;split;rw[eI];rfl;rfl;rfl
theorem LH (T:TypeId)(ps:List (Nat×Operand))(K:AS→Option R):wu E o T ps st K=(wu E o T ps st some).bind K:=by unfold wu;split;split;split<;>rfl;rfl
theorem CP (T:TypeId)(n:Nat)(ps:List (Nat×Operand))(K:AS→Option R):ix E o T n ps st K=(ix E o T n ps st some).bind K:=by unfold ix;split;split;split;split<;>rfl;rfl;rfl
theorem D7 (T:TypeId)(n c:Operand)(K:AS→Option R):ku E o T n c st K=(ku E o T n c st some).bind K:=by unfold ku;split;split;rw[w8];rfl;rfl;rfl
theorem BA {β:Type}(lo hi:Option Operand)(n:Nat)(k:Int→Int→Option β)(K:β→Option R):(jl st lo hi n k).bind K=jl st lo hi n λx y=>(k x y).bind K:=by unfold jl;split<;>rfl
theorem Ec (T:TypeId)(x:Operand)(lo hi:Option Operand)(K:AS→Option R):rK E o T x lo hi st K=(rK E o T x lo hi st some).bind K:=by unfold rK;split;split;rw[eI];rfl;rfl;rfl
theorem NR (T:TypeId)(x:Operand)(lo hi:Option Operand)(K:AS→Option R):vy E an o T x lo hi st K=(vy E an o T x lo hi st some).bind K:=by unfold vy;split;exact Ec T x lo hi K;split;split;rw[BA];congr 1;funext p q;rw[eI];rfl;rfl;split;rw[BA];congr 1;funext p q;rw[eI];rfl;rfl;rfl
theorem Hs (src dst:TypeId)(x:Operand)(K:AS→Option R):iB E o src dst x st K=(iB E o src dst x st some).bind K:=by unfold iB;split;rfl;rfl;split;rw[w8];rfl;rfl;split<;>rfl;rfl
theorem Hu (t i:Nat)(K:AS→Option R):iD o t i st K=(iD o t i st some).bind K:=by unfold iD;split;split<;>rfl;rfl
theorem SO (ts:List TypeId)(args:List Operand)(K:AS→Option R):Gu E o ts args st K=(Gu E o ts args st some).bind K:=by unfold Gu;split;split<;>rfl;split<;>rfl;rfl
theorem SS (args:List Operand)(K:AS→Option R):HE o args st K=(HE o args st some).bind K:=by unfold HE;split<;>rfl
theorem SR (args:List Operand)(K:AS→Option R):HD o args st K=(HD o args st some).bind K:=by unfold HD;split<;>rfl
theorem OS (ts:List TypeId)(args:List Operand)(K:AS→Option R):H3 E o ts args st K=(H3 E o ts args st some).bind K:=by unfold H3;split;split;split;split<;>rfl;rfl;rfl;rfl
theorem Ky (S:TypeId)(t f:Nat)(K:AS→Option R):zL E o S t f st K=(zL E o S t f st some).bind K:=by unfold zL;split;split;split<;>rfl;rfl;rfl
theorem Jo (ts:List TypeId)(args:List Operand)(K:AS→Option R):rU E o ts args st K=(rU E o ts args st some).bind K:=by unfold rU;split;split;split;split;split;rw[w8];rfl;rfl;rfl;split;split;rw[w8];rfl;rfl;rfl;rfl;rfl;rfl
theorem PR (f:Nat)(g:Bool)(cs:List AC)(xs:List Operand)(K:AS→Option R):IE Γ o f g cs xs st K=(IE Γ o f g cs xs st some).bind K:=by unfold IE;split;split;split;rw[uG,eI];congr 1;congr 1;funext x;split;rw[eI];congr 1;funext y;split;split;cases ((Γ f).av y).eA<;>rfl;rfl;rfl;rfl;rfl;rfl;rfl
theorem UZ (f:Nat)(args:List Operand)(K:AS→Option R):ioC Γ o f args st K=(ioC Γ o f args st some).bind K:=by unfold ioC;split;split;split;split;split;rw[uG,eI];congr 1;congr 1;funext y;split;cases ((Γ f).av y).eA<;>rfl;rfl;rfl;rfl;exact PR f _ _ _ K;rfl;rfl
theorem Hr (f:Nat)(args:List Operand)(K:AS→Option R):wM Γ o f args st K=(wM Γ o f args st some).bind K:=by unfold wM;split;split;split;rw[uG,eI];congr 1;congr 1;funext y;rw[uG];rfl;rfl;rfl;rfl
theorem OO (f:Operand)(args:List Operand)(K:AS→Option R):yN Γ o f args st K=(yN Γ o f args st some).bind K:=by
 unfold yN;split
 ·rename_i k hk
  cases (Γ k).bx with
  |true=>exact Hr k args K
  |false=>
  simp only[af]
  cases (Γ k).io with
  |true=>exact UZ k args K
  |false=>simp only[af];rw[eI];congr 1;funext y;rw[uG];rfl
 rfl
theorem Ps {β:Type}(op:BinOp)(k:IntKind)(x y:Int)(c:AC→Option β)(K:β→Option R):(B7 op k x y c).bind K=B7 op k x y λz=>(c z).bind K:=by unfold B7;split<;>(try rfl)<;>(split<;>rfl)
theorem Qg {β:Type}(op:BinOp)(x y:List UInt8)(c:AC→Option β)(K:β→Option R):(DR op x y c).bind K=DR op x y λz=>(c z).bind K:=by unfold DR;split<;>(try rfl);rw[w8]
theorem zI {β:Type}(op:BinOp)(x y:AV)(c:AC→Option β)(K:β→Option R):(Al op x y c).bind K=Al op x y λz=>(c z).bind K:=by unfold Al;split;split;split<;>rfl;split<;>rfl;split;rw[Ps];rfl;rw[Qg];split<;>rfl;split;rw[eI];rw[eI];rfl;rfl
theorem Oq {β:Type}(op:UnOp)(x:AV)(c:AC→Option β)(K:β→Option R):(XV op x c).bind K=XV op x λz=>(c z).bind K:=by unfold XV;split<;>rfl
theorem FW {β:Type}(op:BinOp)(b:Bool)(c:AC→Option β)(K:β→Option R):(yo op b c).bind K=yo op b λz=>(c z).bind K:=by unfold yo;split<;>rfl
theorem OM (op:BinOp)(T:TypeId)(x y:Operand)(K:AS→Option R):vI E o op T x y st K=(vI E o op T x y st some).bind K:=by unfold vI;split;split;rw[zI];rfl;rfl;split;split;rw[zI];rfl;rfl;rfl;split;split;rfl;rw[FW];rfl;rfl;split;rw[FW];rfl;rfl;rw[zI];rfl
theorem G4 (K:AS→Option R):cf E Γ an o st K=(cf E Γ an o st some).bind K:=by unfold cf;split;exact PJ _ K;split;exact PA _ K;exact Jp _ K;exact PX _ _ _ K;exact Lz _ K;exact R6 _ K;exact PE _ _ K;split;split;exact Ee _ _ _ K;exact N6 _ _ _ K;rfl;split<;>rfl;exact OM _ _ _ _ K;rw[Oq];rfl;exact Mr _ _ _ K;exact D6 _ _ _ K;exact M1 _ _ _ K;exact LH _ _ K;exact CP _ _ _ K;exact D7 _ _ _ K;exact NR _ _ _ _ K;exact Ky _ _ _ K;exact OS _ _ K;exact Hs _ _ _ K;exact Hu _ _ K;exact SO _ _ K;exact SS _ K;exact SR _ K;exact Jo _ _ K;exact OO _ _ K;rfl
theorem lU (ops:List Oper)(K:AS→Option R):eZ E Γ an ops o st K=(eZ E Γ an ops o st some).bind K:=by
 unfold eZ;split;exact G4 K;rename_i j want hg;split;rename_i d hd;split;rename_i b hb
 have hgo:∀t:Bool,(if(t==want)=true then cf E Γ an o (st.put (some d) (.one (.bool t))) K else K ((st.put (some d) (.one (.bool t))).put o.dst (.one .un)))=
  (if(t==want)=true then cf E Γ an o (st.put (some d) (.one (.bool t))) some else some ((st.put (some d) (.one (.bool t))).put o.dst (.one .un))).bind K:=by
  intro t
  split
  ·exact G4 K
  ·rfl
 cases b with|true=>exact hgo true|false=>exact hgo false
 rfl;rfl;rfl
theorem IG (ops:List Oper):∀(l:List Oper)(st:AS)(K:AS→Option R),KT E Γ an ops l st K=(KT E Γ an ops l st some).bind K
 |[],st,K=>rfl
 |o::l,st,K=>by simp only[KT];rw[lU,lU (K:=λst'=>KT E Γ an ops l st' some),Option.bind_assoc];congr 1;funext st';exact IG ops l st' K
end Go.Dn
