import Derived.Test.YtehfjiddofkdnaaGreatDnBase
/- The abstract steps, without their continuations. -/
open Option renaming some->I
namespace Go.Dn
variable {R:Type} {E:Env} {Y:IY} {X:An} {o:Oper} {st:AS}
theorem VY {α β x}{k:α->aS β}{z}(h:U x k=I z):∃y,x=I y/\k y=I z:=by cases x with|none=>cases h|some y=>exact⟨y,rfl,h⟩
theorem lj {α β}x(k:α->aS β)(K:β->aS R):(U x k).bind K=U x λy=>(k y).bind K:=by cases x<;>rfl
theorem KE {β}n k(K:β->aS R):(room n k).bind K=room n (k.bind K):=by unfold room;split<;>rfl
theorem Ee {β:Type}b(x y:aS β)(K:β->aS R):(cond b x y).bind K=cond b (x.bind K) (y.bind K):=by cases b<;>rfl
theorem aiH x(K:AS->aS R):Ky X o x st K=(Ky X o x st I).bind K:=by unfold Ky;split;split<;>rfl;rfl
theorem aiw x(K:AS->aS R):aax o x st K=(aax o x st I).bind K:=by unfold aax;split<;>rfl
theorem Vh T p x(K:AS->aS R):ER E T p x st K=(ER E T p x st I).bind K:=by unfold ER;split;split;split;split;split<;>rfl;rfl;rfl;rfl;rfl
theorem abN x(K:AS->aS R):Cs E X o x st K=(Cs E X o x st I).bind K:=by unfold Cs;split;split<;>rfl;rfl
theorem aiU c x y(K:AS->aS R):Nh o c x y st K=(Nh o c x y st I).bind K:=by unfold Nh;split;split;rfl;rw[Ee];rfl;rfl
theorem adC T(K:AS->aS R):KY E o T st K=(KY E o T st I).bind K:=by unfold KY;split;split<;>rfl;rfl
theorem alz x(K:AS->aS R):abO o x st K=(abO o x st I).bind K:=by unfold abO;split;split;split<;>rfl;rfl;rfl
theorem agy c b e i a(K:AS->aS R):LQ o c b e i a st K=(LQ o c b e i a st I).bind K:=by unfold LQ;split;split;split;split;rw[lj];rfl;rfl;rfl;rfl;rfl
theorem Zu c b e i a(K:AS->aS R):Ge o c b e i a st K=(Ge o c b e i a st I).bind K:=by unfold Ge;split;split;split;split;rw[lj];rfl;rfl;rfl;rfl;rfl
theorem aiB T p(K:AS->aS R):vD E X o T p st K=(vD E X o T p st I).bind K:=by unfold vD;split;split;split;split;split<;>rfl;rfl;rfl;rfl;split;exact Zu _ _ _ _ _ K;split;split<;>rfl;exact agy _ _ _ _ _ K;rfl
theorem Zr r t e i a b(K:AS->aS R):st.vW r t e i a b K=(st.vW r t e i a b I).bind K:=by unfold AS.vW;split;split;split;rw[lj];congr 1;funext y;split<;>rfl;rfl;rfl;split;split;rw[lj];congr 1;funext y;split<;>rfl;rfl;rfl;rfl
theorem agC T p x(K:AS->aS R):EP E T p x st K=(EP E T p x st I).bind K:=by unfold EP;split;split;split;split;split<;>rfl;rfl;rfl;rfl;split;split;rw[Zr];rfl;rfl;rfl
theorem ad5 S p f(K:AS->aS R):HY E o S p f st K=(HY E o S p f st I).bind K:=by unfold HY;split;split<;>rfl;split<;>rfl;rfl
theorem U3 T x i(K:AS->aS R):qY E o T x i st K=(qY E o T x i st I).bind K:=by unfold qY;split;split;rw[lj];rfl;rfl;rfl
theorem ae7 T x i(K:AS->aS R):JO E o T x i st K=(JO E o T x i st I).bind K:=by unfold JO;split;split;rw[lj];rfl;rfl;rfl
theorem adO T a(K:AS->aS R):JF E o T a st K=(JF E o T a st I).bind K:=by unfold JF;split;split;split<;>rfl;rfl
theorem Sw T n a(K:AS->aS R):qg E o T n a st K=(qg E o T n a st I).bind K:=by unfold qg;split;split;split;split<;>rfl;rfl;rfl
theorem U5 T n c(K:AS->aS R):uF E o T n c st K=(uF E o T n c st I).bind K:=by unfold uF;split;split;rw[KE];rfl;rfl;rfl
theorem Qv {β}b a n k(K:β->aS R):(rG st b a n k).bind K=rG st b a n λx y=>(k x y).bind K:=by unfold rG;split<;>rfl
theorem Vb T x b a(K:AS->aS R):EF E o T x b a st K=(EF E o T x b a st I).bind K:=by unfold EF;split;split;rw[lj];rfl;rfl;rfl
theorem af8 T x b a(K:AS->aS R):Ix E X o T x b a st K=(Ix E X o T x b a st I).bind K:=by unfold Ix;split;exact Vb T x b a K;split;split;rw[Qv];congr 1;funext p q;rw[lj];rfl;rfl;split;rw[Qv];congr 1;funext p q;rw[lj];rfl;rfl;rfl
theorem YQ src dst x(K:AS->aS R):qi E o src dst x st K=(qi E o src dst x st I).bind K:=by unfold qi;split;rfl;rfl;split;rw[KE];rfl;rfl;split<;>rfl;rfl
theorem YS t i(K:AS->aS R):qm o t i st K=(qm o t i st I).bind K:=by unfold qm;split;split<;>rfl;rfl
theorem amJ b a(K:AS->aS R):Xj E o b a st K=(Xj E o b a st I).bind K:=by unfold Xj;split;split<;>rfl;split<;>rfl;rfl
theorem amW a(K:AS->aS R):Zc o a st K=(Zc o a st I).bind K:=by unfold Zc;split<;>rfl
theorem amS a(K:AS->aS R):Zb o a st K=(Zb o a st I).bind K:=by unfold Zb;split<;>rfl
theorem ahr b a(K:AS->aS R):ZJ E o b a st K=(ZJ E o b a st I).bind K:=by unfold ZJ;split;split;split;split<;>rfl;rfl;rfl;rfl
theorem ab9 S t f(K:AS->aS R):NZ E o S t f st K=(NZ E o S t f st I).bind K:=by unfold NZ;split;split;split<;>rfl;rfl;rfl
theorem abL b a(K:AS->aS R):EV E o b a st K=(EV E o b a st I).bind K:=by unfold EV;split;split;split;split;split;rw[KE];rfl;rfl;rfl;split;split;rw[KE];rfl;rfl;rfl;rfl;rfl;rfl
theorem YM f a(K:AS->aS R):Ct Y o f a st K=(Ct Y o f a st I).bind K:=by unfold Ct;split;split;split;rw[Ee,lj];congr 1;congr 1;funext y;rw[Ee,Ee];rfl;rfl;rfl;rfl
theorem am8 f a(K:AS->aS R):am7 Y o f a st K=(am7 Y o f a st I).bind K:=by unfold am7;split;split;rw[Ee,lj];congr 1;congr 1;funext y;rw[Ee];rfl;rfl;rfl
theorem ahl f a(K:AS->aS R):Ma Y o f a st K=(Ma Y o f a st I).bind K:=by
 unfold Ma;split
 ·rename_i k b
  cases (Y k).bx with
  |true=>exact YM k a K
  |false=>
  simp only[ab]
  cases (Y k).pr with
  |true=>exact am8 k a K
  |false=>
  simp only[ab]
  cases (Y k).io with
  |true=>rfl
  |false=>simp only[ab];rw[lj];congr 1;funext y;rw[Ee];rfl
 rfl
theorem ail {β}op k x y c(K:β->aS R):(Q7 op k x y c).bind K=Q7 op k x y λz=>(c z).bind K:=by unfold Q7;split<;>(try rfl)<;>(split<;>rfl)
theorem ajK {β}op x y c(K:β->aS R):(UM op x y c).bind K=UM op x y λz=>(c z).bind K:=by unfold UM;split<;>(try rfl);rw[KE]
theorem NV {β}op x y c(K:β->aS R):(OI op x y c).bind K=OI op x y λz=>(c z).bind K:=by unfold OI;split;split;split<;>rfl;split<;>rfl;split;rw[ail];rfl;rw[ajK];split<;>rfl;split;rw[lj];rw[lj];rfl;rfl
theorem agM {β}op x c(K:β->aS R):(unC op x c).bind K=unC op x λz=>(c z).bind K:=by unfold unC;split<;>rfl
theorem Wl {β}op b c(K:β->aS R):(Mc op b c).bind K=Mc op b λz=>(c z).bind K:=by unfold Mc;split<;>rfl
theorem ahd op T x y(K:AS->aS R):I3 E o op T x y st K=(I3 E o op T x y st I).bind K:=by unfold I3;split;split;rw[NV];rfl;rfl;split;split;rw[NV];rfl;rfl;rfl;split;split;rfl;rw[Wl];rfl;rfl;split;rw[Wl];rfl;rfl;rw[NV];rfl
theorem Yi (K:AS->aS R):dM E Y X o st K=(dM E Y X o st I).bind K:=by unfold dM;split;exact aiH _ K;split;exact aiw _ K;exact abN _ K;exact aiU _ _ _ K;exact adC _ K;exact alz _ K;exact aiB _ _ K;split;split;exact Vh _ _ _ K;exact agC _ _ _ K;rfl;split<;>rfl;exact ahd _ _ _ _ K;rw[agM];rfl;exact ad5 _ _ _ K;exact U3 _ _ _ K;exact ae7 _ _ _ K;exact adO _ _ K;exact Sw _ _ _ K;exact U5 _ _ _ K;exact af8 _ _ _ _ K;exact ab9 _ _ _ K;exact ahr _ _ K;exact YQ _ _ _ K;exact YS _ _ K;exact amJ _ _ K;exact amW _ K;exact amS _ K;exact abL _ _ K;exact ahl _ _ K;rfl
theorem xC c(K:AS->aS R):jS E Y X c o st K=(jS E Y X c o st I).bind K:=by
 unfold jS;split;exact Yi K;rename_i j e h;split;rename_i d g;split;rename_i b f
 have a:∀t:Bool,(if(t==e)=true then dM E Y X o (st.put (I d) (.one (.bool t))) K else K ((st.put (I d) (.one (.bool t))).put o.dst (.one .un)))=
  (if(t==e)=true then dM E Y X o (st.put (I d) (.one (.bool t))) I else I ((st.put (I d) (.one (.bool t))).put o.dst (.one .un))).bind K:=by
  intro t
  split
  ·exact Yi K
  ·rfl
 cases b with|true=>exact a true|false=>exact a false
 rfl;rfl;rfl
theorem aaM (a:Z Oper):∀(l:Z Oper)(st:AS)(K:AS->aS R),acM E Y X a l st K=(acM E Y X a l st I).bind K
 |[],st,K=>rfl
 |o::l,st,K=>by simp only[acM];rw[xC,xC (K:=λb=>acM E Y X a l b I),Option.bind_assoc];congr 1;funext b;exact aaM a l b K
end Go.Dn
