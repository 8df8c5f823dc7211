import Derived.Test.YthjhpjjgcfedbaaGreatDnUpd
/- Operations that are apart may change places. -/
namespace Go.Dn
variable {E:Env} {Γ:cD} {an:An} {ops:List Oper}
def stepG (E:Env)(Γ:cD)(an:An)(ops:List Oper)(X:List Nat)(o:Oper)(st:AS):Option AS:=
 bif bU E an X o st then dx E Γ an ops o st some else none
structure Be (an:An) (ops:List Oper) (X:List Nat) (o:Oper) (st st2:AS):Prop where
 base:dI an X o st st2
 gd:∀t∈sr an ops o,st2.get t=st.get t
theorem EL {st:AS}{d:Nat}{b:Bool}(h:st.get d=.val false [.bool b]):st.put (some d) (.one (.bool b))=st:=by cases st with|mk slots boxes ep iss io=>simp only[AS.put,AS.mk.injEq,dS];rw[cP];apply List.ext_getElem?;intro i;rw[List.getElem?_set];split;rename_i hd;subst hd;simp only[AS.get,cg]at h;split;rename_i hlt;rw[List.getElem?_eq_getElem hlt]at h⊢;simp only[cZ]at h;rw[h];rename_i hge;rw[List.getElem?_eq_none (Nat.le_of_not_lt hge)];rfl
theorem B1 {T:TypeId}{st st2:AS}{s off:Nat}(h:nth st2.boxes s=nth st.boxes s):sq E T st2 s off=sq E T st s off:=by unfold sq;rw[h]
theorem tR {X:List Nat}{o:Oper}{st st2:AS}(ha:dI an X o st st2):bU E an X o st2=bU E an X o st:=by
 unfold bU;split;rename_i ho;rw[ha.rd (λt ht=>by simpa[bZ,ho]using ht)];rename_i T p ho;rw[ha.rd (λt ht=>by simp[bZ,ho,ht]),ha.ep];rename_i ho;rw[ha.rd (λt ht=>by simp[bZ,ho,ht]),ha.ep];rename_i f args ts ho;have hcur:kS an X (J5 an o) st2 args.toList=kS an X (J5 an o) st args.toList:=by
  have hl:∀x∈args.toList,∀t∈tm x,t∈bZ o:=by intro x hx t ht;simp only[bZ,ho,al,Ac,List.mem_flatMap];exact .inr ⟨x,hx,ht⟩
  generalize args.toList=l at hl;cases l with
  |nil=>rfl
  |cons x xs=>
   have hself:xs.all (uZ (J5 an o) st2)=xs.all (uZ (J5 an o) st):=by
    rw[bT];simp only[az];have e:∀y∈xs,uZ (J5 an o) st2 y=uZ (J5 an o) st y:=by intro y hy;cases y with|tmp t=>have hg:=ha.get t (hl (.tmp t) (by simp[hy]) t (by simp[tm]));simp only[uZ,hg]|const v=>rfl|func v=>rfl|global v=>rfl
    exact⟨λg y hy=>by rw[←e y hy];exact g y hy,λg y hy=>by rw[e y hy];exact g y hy⟩
   have hr:=ha.rd (hl x (by simp));cases x with
   |tmp q=>
    simp only[kS,hr];generalize st.rd (.tmp q)=v;unfold Ko;rw[hself];split;rename_i s off;cases hX:X.contains s with|true=>simp|false=>rw[ha.box s hX]
    rfl
   |const v=>simp only[kS,hr]
   |func v=>simp only[kS,hr]
   |global v=>simp only[kS,hr]
 rw[hcur];congr 1;rw[bT];simp only[az];constructor;intro hx x hm;have:=hx x hm;rwa[ha.rd (λt ht=>by simp only[bZ,ho,al,Ac,List.mem_flatMap];exact .inr ⟨x,hm,ht⟩),ha.ep]at this;intro hx x hm;rw[ha.rd (λt ht=>by simp only[bZ,ho,al,Ac,List.mem_flatMap];exact .inr ⟨x,hm,ht⟩),ha.ep];exact hx x hm;rename_i ho;rw[ha.rd (λt ht=>by simpa[bZ,ho]using ht),ha.ep];split;rename_i s off _;cases hX:X.contains s with|true=>rfl|false=>rw[B1 (ha.box s hX)]
 rfl;rfl;rename_i ho;rw[ha.rd (λt ht=>by simp only[bZ,ho,al];exact .inl ht)];rename_i ho;rw[ha.get _ (by simp[bZ,ho])];rfl
theorem wJ (hΓ:∀f,(Γ f).io=false∧((Γ f).bx=true→(Γ f).cur=true)∧(Γ f).pr=false){X:List Nat}{o:Oper}{st st':AS}(hm:gQ an o=true)(h:stepG E Γ an ops X o st=some st'): ∃u:vn,u.tK an o∧st'=u.apply st∧∀st2,Be an ops X o st st2→stepG E Γ an ops X o st2=some (u.apply st2):=by
 unfold stepG at h;cases hf:bU E an X o st with
 |false=>rw[hf]at h;cases h
 |true=>
  rw[hf]at h;simp only[ah]at h;unfold dx at h;split at h;rename_i hg;obtain⟨u,h1,h2,h3⟩:=zn (X:=X) hΓ hm hf h;refine⟨u,h1,h2,λst2 ha=>?_⟩;unfold stepG;rw[tR ha.base,hf];simp only[ah,dx,hg];exact h3 st2 ha.base;rename_i j want hg;split at h;rename_i d hd;have hin:d∈sr an ops o:=by simp[sr,hg,hd]
  split at h;rename_i b hb;have hgo:(if(b==want)=true then bN E Γ an o st some else some (st.put o.dst (.one .un)))=some st':=by cases b<;>simpa only[ah,ai,EL hb]using h
  have h2g:∀st2,Be an ops X o st st2→stepG E Γ an ops X o st2=(if(b==want)=true then bN E Γ an o st2 some else some (st2.put o.dst (.one .un))):=by
   intro st2 ha;have hb2:st2.get d=.val false [.bool b]:=by rw[ha.gd d hin];exact hb
   unfold stepG;rw[tR ha.base,hf];simp only[ah,dx,hg,hd,hb2];cases b<;>simp only[ah,ai,EL hb2]
  split at hgo;rename_i hw;obtain⟨u,h1,h2,h3⟩:=zn (X:=X) hΓ hm hf hgo;exact⟨u,h1,h2,λst2 ha=>by rw[h2g st2 ha,au hw];exact h3 st2 ha.base⟩;rename_i hw;cases hgo;exact⟨rA o (.one .un),qx _,by rw[kj],λst2 ha=>by rw[h2g st2 ha,aq hw,kj]⟩;rename_i hb;cases h;refine⟨rA o (.one .un),qx _,by rw[kj],λst2 ha=>?_⟩;have hb2:st2.get d=.val false [.un]:=by rw[ha.gd d hin];exact hb
  unfold stepG;rw[tR ha.base,hf,kj];simp only[ah,dx,hg,hd,hb2];cases h;cases h
theorem eB {α:Type}(l:List α){i j:Nat}(h:i≠j)(v w:α):dM (dM l i v) j w=dM (dM l j w) i v:=by rw[cP,cP,cP,cP,List.set_comm _ _ h]
theorem GR (l:List AV)(a:List (Nat×AV)){i:Nat}(v:AV)(h:∀x∈a,x.1≠i):eV (dM l i v) a=dM (eV l a) i v:=by induction a generalizing l with|nil=>rfl|cons x a ih=>simp only[eV];rw[eB _ (bC (h x (by simp))),ih _ (λy hy=>h y (by simp[hy]))]
theorem EI (l:List AV)(a b:List (Nat×AV))(h:∀x∈a,∀y∈b,x.1≠y.1):eV (eV l a) b=eV (eV l b) a:=by induction b generalizing l with|nil=>rfl|cons y b ih=>simp only[eV];rw[←GR l a y.2 (λx hx=>h x hx y (by simp)),ih _ (λx hx z hz=>h x hx z (by simp[hz]))]
theorem zV (l:List AV)(a:List (Nat×AV)){t:Nat}(h:∀x∈a,x.1≠t):nth (eV l a) t=nth l t:=by induction a generalizing l with|nil=>rfl|cons x a ih=>rw[eV,ih _ (λy hy=>h y (by simp[hy])),eL,aq (h x (by simp))]
theorem gb {a b:List Nat}(h:meets a b=false):∀x∈a,x∉b:=by intro x hx hb;unfold meets at h;rw[List.any_eq_false]at h;exact h x hx (by simpa using hb)
theorem vn.pJ {u:vn}{o p:Oper}{Y:List Nat}{st:AS}(hw:u.tK an o)(h1:∀x∈writes an o,x∉bZ p++sr an ops p++writes an p)(h2:∀d∈sQ an o,Y.contains d=true)(h3:∀d∈sQ an o,p.dst≠some d): Be an ops Y p (u.apply st) st∧Be an ops Y p st (u.apply st):=by
 have hget:∀t,t∈bZ p++sr an ops p++writes an p→(u.apply st).get t=st.get t:=by intro t ht;unfold AS.get;have:nth (u.apply st).slots t=nth st.slots t:=zV _ _ (λx hx he=>h1 _ (hw.slots x hx) (by rw[he];exact ht));rw[this]
 have hdst:∀d,p.dst=some d→nth (u.apply st).iss d=nth st.iss d∧nth (u.apply st).boxes d=nth st.boxes d:=by
  intro d hd;have hd':d∈bZ p++sr an ops p++writes an p:=by simp[writes,hd]
  have hne:o.dst≠some d:=λhe=>h1 d (by simp[writes,he]) hd';constructor;unfold vn.apply;cases hi:u.iss with|none=>rfl|some k=>simp only;rw[eL,aq];rintro rfl;exact hne (hw.iss _ hi)
  unfold vn.apply;cases hi:u.box with|none=>rfl|some k=>simp only;rw[eL,aq];intro he;exact h3 _ (hw.box k hi) (by rw[he];exact hd)
 have hbox:∀s,Y.contains s=false→nth (u.apply st).boxes s=nth st.boxes s:=by intro s hs;unfold vn.apply;cases hi:u.box with|none=>rfl|some k=>simp only;rw[eL,aq];rintro rfl;have:=h2 k.1 (hw.box k hi);rw[this]at hs;cases hs
 have hlen:(u.apply st).slots.length=st.slots.length:=yN _ _;exact⟨⟨⟨hlen.symm,λt ht=>(hget t (by simp[ht])).symm,rfl,λd hd=>⟨((hdst d hd).1).symm,((hdst d hd).2).symm⟩,λs hs=>(hbox s hs).symm,λt ht=>(hget t (by simp[sr,ht])).symm⟩,λt ht=>(hget t (by simp[ht])).symm⟩,⟨⟨hlen,λt ht=>hget t (by simp[ht]),rfl,hdst,hbox,λt ht=>hget t (by simp[sr,ht])⟩,λt ht=>hget t (by simp[ht])⟩⟩
theorem Fy {u v:vn}{o p:Oper}{st:AS}(hu:u.tK an o)(hv:v.tK an p)(h:∀x∈writes an o,x∉writes an p)(hb:∀x∈sQ an o,x∉sQ an p):v.apply (u.apply st)=u.apply (v.apply st):=by
 have hdd:∀a b,o.dst=some a→p.dst=some b→a≠b:=λa b ha hb he=>h a (by simp[writes,ha]) (by simp[writes,hb,he]);have hs:=EI st.slots u.slots v.slots (λx hx y hy he=>h _ (hu.slots x hx) (by rw[he];exact hv.slots y hy));simp only[vn.apply,AS.mk.injEq,true_and,dS];refine⟨hs,?_,?_⟩;cases hub:u.box with|none=>cases v.box<;>rfl|some k=>cases hvb:v.box with|none=>rfl|some l=>exact eB _ (λhe=>hb _ (hu.box k hub) (by rw[he];exact hv.box l hvb)) _ _
 cases hui:u.iss with|none=>cases v.iss<;>rfl|some k=>cases hvi:v.iss with|none=>rfl|some l=>exact eB _ (hdd _ _ (hu.iss k hui) (hv.iss l hvi)) _ _
theorem G4 (hΓ:∀f,(Γ f).io=false∧((Γ f).bx=true→(Γ f).cur=true)∧(Γ f).pr=false){X Y:List Nat}{o p:Oper}{st s1 s2:AS}(ha:Fw an ops X Y o p=true)(h1:stepG E Γ an ops X o st=some s1)(h2:stepG E Γ an ops Y p s1=some s2): ∃t1,stepG E Γ an ops Y p st=some t1∧stepG E Γ an ops X o t1=some s2:=by
 simp only[Fw,ab,aA,az]at ha;obtain⟨⟨⟨⟨⟨⟨⟨mo,mp⟩,w1⟩,w2⟩,b1⟩,b2⟩,b3⟩,b4⟩:=ha;have w1:=gb w1;have w2:=gb w2;have b3:=gb b3;have b4:=gb b4;obtain⟨u,hu,rfl,hu2⟩:=wJ hΓ mo h1;obtain⟨v,hv,rfl,hv2⟩:=wJ hΓ mp h2;have ag1:=vn.pJ (ops:=ops) (p:=p) (Y:=Y) (st:=st) hu w1 b1 (λd hd he=>b3 d hd (by simp[he]));have hww:∀x∈writes an p,x∉bZ o++sr an ops o++writes an o:=by intro x hx hm;rcases al.1 hm with hm|hm;exact w2 x hx hm;exact w1 x hm (by simp[hx])
 have ag2:=vn.pJ (ops:=ops) (p:=o) (Y:=X) (st:=st) hv hww b2 (λd hd he=>b4 d hd (by simp[he]));refine⟨v.apply st,hv2 st ag1.1,?_⟩;rw[hu2 _ ag2.2,Fy hu hv (λx hx hm=>w1 x hx (by simp[hm])) (λx hx hm=>b3 x hx (by simp[hm]))]
theorem uz {st:AS}{t:Nat}{v w:AV}(h:st.get t=v)(hv:v≠ .bot):(st.put (some t) w).get t=w:=by
 unfold AS.get at h;cases hn:nth st.slots t with
 |none=>rw[hn]at h;exact absurd h.symm hv
 |some q=>
  have hl:t<st.slots.length:=by rw[cg]at hn;exact(List.getElem?_eq_some_iff.1 hn).1
  unfold AS.get AS.put;simp only[cg,cP];rw[List.getElem?_set_self hl];rfl
theorem lh {st:AS}{t d:Nat}{w:AV}(h:d≠t):(st.put (some d) w).get t=st.get t:=by unfold AS.get AS.put;simp only[eL,aq h]
theorem qC {X:List Nat}{o:Oper}{st s:AS}{t i d:Nat}(ho:o.op=.extract (.tmp t) i)(hd:o.dst=some d)(hg:o.guard=none):stepG E Γ an ops X o st=some s↔ ∃vs g cs,st.get t=.tup vs∧nth vs i=some (g,cs)∧(cs.all AC.du||an.mv.contains d)=true∧s=(st.put (some t) (.tup (dM vs i (g,aC 0 cs)))).put (some d) (.val g cs):=by
 unfold stepG;simp only[bU,ho,hd];constructor;intro h;cases hv:st.get t with|val g cs=>simp only[hv,ah,dx,hg,bN,ho,fY]at h;cases h|tup vs=>simp only[hv]at h;cases hn:nth vs i with|none=>simp only[hn,ah,dx,hg,bN,ho,fY,hv]at h;cases h|some x=>obtain⟨g,cs⟩:=x;simp only[hn]at h;cases hf:(cs.all AC.du||an.mv.contains d)with|false=>rw[hf]at h;cases h|true=>rw[hf]at h;simp only[ah,dx,hg,bN,ho,fY,hv,hn,hd]at h;cases h;exact⟨vs,g,cs,rfl,hn,hf,rfl⟩
 rintro⟨vs,g,cs,hv,hn,hf,rfl⟩;simp only[hv,hn,hf,ah,dx,hg,bN,ho,fY,hd]
theorem JH {α:Type}(l:List α)(i:Nat)(v w:α):dM (dM l i v) i w=dM l i w:=by rw[cP,cP,cP,List.set_set]
theorem Kx {X Y:List Nat}{o p:Oper}{st s1 s2:AS}(ha:FW o p=true)(h1:stepG E Γ an ops X o st=some s1)(h2:stepG E Γ an ops Y p s1=some s2): ∃t1,stepG E Γ an ops Y p st=some t1∧stepG E Γ an ops X o t1=some s2:=by
 unfold FW at ha;split at ha;rename_i t i t' j d d' ho hp hd hd' hg hg';simp only[ab,aQ,aA,dj,ne_eq]at ha;obtain⟨⟨⟨⟨rfl,hij⟩,hdd⟩,hdt⟩,hdt'⟩:=ha;obtain⟨vs,g,cs,hv,hn,hf,rfl⟩:=(qC ho hd hg).1 h1;obtain⟨vs2,g2,cs2,hv2,hn2,hf2,rfl⟩:=(qC hp hd' hg').1 h2;have hq:((st.put (some t) (.tup (dM vs i (g,aC 0 cs)))).put (some d) (.val g cs)).get t=.tup (dM vs i (g,aC 0 cs)):=by rw[lh hdt,uz hv (by simp)]
 rw[hq]at hv2;cases hv2;rw[eL,aq hij]at hn2;refine⟨_,(qC hp hd' hg').2 ⟨vs,g2,cs2,hv,hn2,hf2,rfl⟩,(qC ho hd hg).2 ⟨dM vs j (g2,aC 0 cs2),g,cs,?_,?_,hf,?_⟩⟩;rw[lh hdt',uz hv (by simp)];rw[eL,aq (bC hij)];exact hn;have e:=eB vs hij (g,aC 0 cs) (g2,aC 0 cs2);have a:∀(A B:AV)(q:Nat)(v:AV),q≠t→dM (dM (dM st.slots t A) q v) t B=dM (dM st.slots t B) q v:=λA B q v hq=>by rw[eB _ hq,JH]
 simp only[AS.put,AS.mk.injEq,dS];rw[a _ _ _ _ hdt,a _ _ _ _ hdt',e,eB _ hdd];cases ha
theorem HS (s:AS)(t:Nat):s.put (some t) (s.get t)=s:=by cases s with|mk slots boxes ep iss io=>simp only[AS.put,AS.mk.injEq,dS];rw[cP];apply List.ext_getElem?;intro i;rw[List.getElem?_set];split;rename_i hd;subst hd;simp only[AS.get,cg];split;rename_i hlt;rw[List.getElem?_eq_getElem hlt];rfl;rename_i hge;rw[List.getElem?_eq_none (Nat.le_of_not_lt hge)];rfl
theorem EY {X:List Nat}{o:Oper}{st s:AS}{d t:Nat}(hd:o.dst=some d)(hg:o.guard=none)(ho:(o.op=.move (.tmp t)∧an.mv.contains d=false∧an.fm.contains d=true)∨∃i,o.op=.extract (.tmp t) i)(_hdt:d≠t)(h:stepG E Γ an ops X o st=some s): ∃tv v,s=(st.put (some t) tv).put (some d) v∧∀st2:AS,st2.get t=st.get t→stepG E Γ an ops X o st2=some ((st2.put (some t) tv).put (some d) v):=by
 rcases ho with⟨ho,hmv,hfm⟩|⟨i,ho⟩;have hrd:∀st2:AS,st2.get t=st.get t→(st.rd (.tmp t)).fI=true→st2.rd (.tmp t)=st.get t:=by
  intro st2 hq hs;simp only[AS.rd,hq]at hs⊢;cases hv:st.get t with
  |tup vs=>rw[hv]at hs;simp[AV.borrow,AV.fI]at hs
  |val g cs=>
   rw[hv]at hs;simp only[AV.borrow,AV.fI]at hs⊢;congr 1;have key:∀(cs:List AC)(j:Nat),(ee st.ep (λj=>eY.slot t j) j cs).all AC.fI=true→ee st2.ep (λj=>eY.slot t j) j cs=cs:=by
    intro cs;induction cs with
    |nil=>intro j _;rfl
    |cons c cs ih=>
     intro j h;simp only[ee,ba,ab]at h⊢;rw[ih (j+1) h.2];congr 1;cases c with
     |sl fl e xs=>cases fl with|holed _ _ ep=>cases ep<;>simp[AC.borrow,AC.fI]at h|_=>simp[AC.borrow,AC.fI]at h
     |_=>rfl
   exact key cs 0 hs
 unfold stepG at h;have hst:(st.rd (.tmp t)).fI=true:=by cases hs:(st.rd (.tmp t)).fI with|true=>rfl|false=>simp only[bU,ho,Fl,hd,hfm,hs]at h;cases h
 refine⟨st.get t,st.get t,?_,λst2 hq=>?_⟩;simp only[bU,ho,Fl,hd,hfm,hst,Bool.or_true,ah,dx,hg,bN,qM,hmv,aD,bf]at h;cases h;rw[hrd st rfl hst];congr 1;exact(HS st t).symm;unfold stepG;have e1:=hrd st2 hq hst;have hst2:(st2.rd (.tmp t)).fI=true:=by rw[e1,←hrd st rfl hst];exact hst
 simp only[bU,ho,Fl,hd,hfm,hst2,Bool.or_true,ah,dx,hg,bN,qM,hmv,aD,bf];rw[e1,←hq,HS];obtain⟨vs,g,cs,hv,hn,hf,rfl⟩:=(qC ho hd hg).1 h;refine⟨_,_,rfl,λst2 hq=>(qC ho hd hg).2 ⟨vs,g,cs,by rw[hq,hv],hn,hf,rfl⟩⟩
theorem MP {Y:List Nat}{p:Oper}{T:TypeId}{q x:Nat}(hp:p.op=.store T (.tmp q) (.tmp x))(hd:p.dst=none)(hg:p.guard=none)(heb:(an.eb q).isSome=true)(hes:(an.es q).isNone=true)(hsb:(an.sb q).isNone=true)(hl:px an p=false){st s:AS}(h:stepG E Γ an ops Y p st=some s): ∃B,s=⟨dM st.slots x ((st.get x).aC st.ep),B,st.ep+1,st.iss,st.io⟩∧ ∀st2:AS,st2.get q=st.get q→st2.get x=st.get x→st2.boxes=st.boxes→st2.ep=st.ep→st2.iss=st.iss→st2.io=st.io→ stepG E Γ an ops Y p st2=some ⟨dM st2.slots x ((st.get x).aC st.ep),B,st.ep+1,st.iss,st.io⟩:=by
 have hfree:∀st2:AS,st2.get q=st.get q→st2.ep=st.ep→bU E an Y p st2=bU E an Y p st:=by intro st2 h1 h2;simp only[bU,hp,AS.rd,h1,h2]
 unfold stepG at h;cases hf:bU E an Y p st with
 |false=>rw[hf]at h;cases h
 |true=>
  rw[hf]at h;simp only[ah,dx,hg,bN,hp,hd,hl,aD,bf]at h;have hfr:=hf;simp only[bU,hp]at hfr;have hnn:((an.sb q).isNone&&(an.eb q).isNone&&(an.es q).isNone)=false:=by cases he:an.eb q with|none=>rw[he]at heb;cases heb|some _=>simp
  rw[hnn,cE]at hfr;unfold mU at h;split at h;rename_i hrd;rw[hrd]at hfr;simp only[ab,aQ]at hfr;rw[hfr.2]at hsb;cases hsb;rename_i sh ep0 r tg e y i off hT hrd;rw[hrd]at hfr;cases r with
  |slot _ _=>simp only[ab,aQ]at hfr;rw[hfr.1.1]at hes;cases hes
  |io _=>simp at hfr
  |box b j=>
   split at h;rename_i gg vs st1 htk;have e1:(st.get x)=.val gg vs:=by have:=congrArg Prod.fst htk;exact this
   have e2:st1=⟨dM st.slots x ((st.get x).aC st.ep),st.boxes,st.ep,st.iss,st.io⟩:=by have:=congrArg Prod.snd htk;exact this.symm
   split at h;rename_i hlen;have main:∃B,∀sl:List AV,(⟨sl,st.boxes,st.ep,st.iss,st.io⟩:AS).iD (.box b j) tg e i off vs some=some ⟨sl,B,st.ep+1,st.iss,st.io⟩:=by
    subst e2;simp only[AS.iD,AS.cJ,AS.cO,AS.cz]at h⊢;cases hb:(nth st.boxes b).getD none with
    |none=>rw[hb]at h;simp at h
    |some cs=>
     rw[hb]at h;simp only[cx]at h⊢;split at h;rename_i t' e' xs hn;split at h;rename_i he;simp only[dif_pos he];generalize (he▸xs:List e.D)=zs at h⊢;split at h;rename_i ht;simp only[au ht];cases hi:idx zs i with|none=>rw[hi]at h;simp[aa]at h|some y0=>simp only[hi,aa]at h⊢;split at h;exact⟨_,λsl=>rfl⟩;cases h
     cases h;cases h;rename_i t' i' q0 e' xs hn;split at h;rename_i he;simp only[dif_pos he];generalize (he▸xs:List e.D)=zs at h⊢;split at h;rename_i ht;simp only[au ht];cases hi:F4 zs i' i with|none=>rw[hi]at h;simp[aa]at h|some y0=>simp only[hi,aa]at h⊢;split at h;exact⟨_,λsl=>rfl⟩;cases h
     cases h;cases h;cases h
   obtain⟨B,hB⟩:=main;refine⟨B,?_,λst2 h1 h2 h3 h4 h5 h6=>?_⟩;subst e2;rw[hB]at h;exact(cc h).symm;unfold stepG;rw[hfree st2 h1 h4,hf];have r2:st2.rd (.tmp q)=st.rd (.tmp q):=by simp only[AS.rd,h1,h4]
   have t2:st2.take (.tmp x)=(.val gg vs,⟨dM st2.slots x ((st.get x).aC st.ep),st.boxes,st.ep,st.iss,st.io⟩):=by simp only[AS.take,AS.put,h2,h3,h4,h5,h6,e1]
   simp only[ah,dx,hg,bN,hp,hd,hl,aD,bf,mU,hT,r2,hrd,t2];rw[au hlen];exact hB _;cases h;cases h
  cases h
theorem Kr {Y:List Nat}{p:Oper}{T:TypeId}{q x:Nat}(hp:p.op=.store T (.tmp q) (.tmp x))(hd:p.dst=none)(hg:p.guard=none){b:Nat}(hes:an.es q=some b)(heb:(an.eb q).isNone=true)(hbx:b≠x)(hsb:(an.sb q).isNone=true)(hl:px an p=false){st s:AS}(h:stepG E Γ an ops Y p st=some s): ∃B,s=⟨dM (dM st.slots x ((st.get x).aC st.ep)) b B,st.boxes,st.ep+1,st.iss,st.io⟩∧ ∀st2:AS,st2.get q=st.get q→st2.get x=st.get x→nth st2.slots b=nth st.slots b→st2.boxes=st.boxes→st2.ep=st.ep→st2.iss=st.iss→st2.io=st.io→ stepG E Γ an ops Y p st2=some ⟨dM (dM st2.slots x ((st.get x).aC st.ep)) b B,st.boxes,st.ep+1,st.iss,st.io⟩:=by
 have hfree:∀st2:AS,st2.get q=st.get q→st2.ep=st.ep→bU E an Y p st2=bU E an Y p st:=by intro st2 h1 h2;simp only[bU,hp,AS.rd,h1,h2]
 unfold stepG at h;cases hf:bU E an Y p st with
 |false=>rw[hf]at h;cases h
 |true=>
  rw[hf]at h;simp only[ah,dx,hg,bN,hp,hd,hl,aD,bf]at h;have hfr:=hf;simp only[bU,hp]at hfr;have hnn:((an.sb q).isNone&&(an.eb q).isNone&&(an.es q).isNone)=false:=by rw[hes];simp
  rw[hnn,cE]at hfr;unfold mU at h;split at h;rename_i hrd;rw[hrd]at hfr;simp only[ab,aQ]at hfr;rw[hfr.2]at hsb;cases hsb;rename_i sh ep0 r tg e y i off hT hrd;rw[hrd]at hfr;cases r with
  |box _ _=>simp only[ab,aQ]at hfr;rw[hfr.1.1]at heb;cases heb
  |io _=>simp at hfr
  |slot b' j=>
   simp only[ab,aQ]at hfr;have hbb:b'=b:=cc (hfr.1.1.symm.trans hes);subst hbb;split at h;rename_i gg vs st1 htk;have e1:(st.get x)=.val gg vs:=by have:=congrArg Prod.fst htk;exact this
   have e2:st1=⟨dM st.slots x ((st.get x).aC st.ep),st.boxes,st.ep,st.iss,st.io⟩:=by have:=congrArg Prod.snd htk;exact this.symm
   split at h;rename_i hlen;have main:∃B,∀sl:List AV,nth sl b'=nth st.slots b'→(⟨sl,st.boxes,st.ep,st.iss,st.io⟩:AS).iD (.slot b' j) tg e i off vs some=some ⟨dM sl b' B,st.boxes,st.ep+1,st.iss,st.io⟩:=by
    subst e2;have hget:∀sl:List AV,nth sl b'=nth st.slots b'→(⟨sl,st.boxes,st.ep,st.iss,st.io⟩:AS).get b'=st.get b':=λsl hq=>by unfold AS.get;rw[hq]
    have hq0:nth (dM st.slots x ((st.get x).aC st.ep)) b'=nth st.slots b':=by rw[eL,aq (bC hbx)]
    simp only[AS.iD,AS.cJ,AS.cO,hget _ hq0]at h;cases hb:st.get b' with
    |tup _=>rw[hb]at h;simp at h
    |val g0 cs=>
     rw[hb]at h;simp only at h;split at h;rename_i t' e' xs hn;split at h;rename_i he;split at h;rename_i ht;cases hi:idx (he▸xs:List e.D) i with|none=>rw[hi]at h;simp[aa]at h|some y0=>simp only[hi,aa]at h;split at h;rename_i x' hx';refine⟨.val g0 (dM cs j (.sl (.own (some t')) e ((he▸xs:List e.D).set i.toNat x'))),λsl hq=>?_⟩;simp only[AS.iD,AS.cJ,AS.cO,hget _ hq,hb,hn,dif_pos he,au ht,hi,aa,hx',AS.put];cases h
     cases h;cases h;rename_i t' i' q0 e' xs hn;split at h;rename_i he;split at h;rename_i ht;cases hi:F4 (he▸xs:List e.D) i' i with|none=>rw[hi]at h;simp[aa]at h|some y0=>simp only[hi,aa]at h;split at h;rename_i x' hx';refine⟨.val g0 (dM cs j (.sl (.own (some t')) e ((he▸xs:List e.D).set i.toNat x'))),λsl hq=>?_⟩;simp only[AS.iD,AS.cJ,AS.cO,hget _ hq,hb,hn,dif_pos he,au ht,hi,aa,hx',AS.put];cases h
     cases h;cases h;cases h
   obtain⟨B,hB⟩:=main;refine⟨B,?_,λst2 h1 h2 hnb h3 h4 h5 h6=>?_⟩;subst e2;rw[hB _ (by rw[eL,aq (bC hbx)])]at h;exact(cc h).symm;unfold stepG;rw[hfree st2 h1 h4,hf];have r2:st2.rd (.tmp q)=st.rd (.tmp q):=by simp only[AS.rd,h1,h4]
   have t2:st2.take (.tmp x)=(.val gg vs,⟨dM st2.slots x ((st.get x).aC st.ep),st.boxes,st.ep,st.iss,st.io⟩):=by simp only[AS.take,AS.put,h2,h3,h4,h5,h6,e1]
   simp only[ah,dx,hg,bN,hp,hd,hl,aD,bf,mU,hT,r2,hrd,t2];rw[au hlen];exact hB _ (by rw[eL,aq (bC hbx)];exact hnb);cases h;cases h
  cases h
theorem MO {X Y:List Nat}{o p:Oper}{st s1 s2:AS}(ha:FU an o p=true)(h1:stepG E Γ an ops X o st=some s1)(h2:stepG E Γ an ops Y p s1=some s2): ∃t1,stepG E Γ an ops Y p st=some t1∧stepG E Γ an ops X o t1=some s2:=by
 unfold FU at ha;split at ha;rename_i T q x hp hpd hpg;simp only[ab,aA]at ha;obtain⟨⟨⟨heb,hsb⟩,hl⟩,ha⟩:=ha;have hcore:∃d t,o.dst=some d∧o.guard=none∧((o.op=.move (.tmp t)∧an.mv.contains d=false∧an.fm.contains d=true)∨∃i,o.op=.extract (.tmp t) i)∧d≠q∧d≠x∧t≠x∧d≠t∧t≠q:=by split at ha;rename_i t d ho hd hg;simp only[ab,aA,dj]at ha;exact⟨d,t,hd,hg,.inl ⟨ho,ha.1.1.1.1.1.1,ha.1.1.1.1.1.2⟩,ha.1.1.1.1.2,ha.1.1.1.2,ha.1.1.2,ha.2,ha.1.2⟩;rename_i t i d ho hd hg;simp only[ab,aA,dj]at ha;exact⟨d,t,hd,hg,.inr ⟨i,ho⟩,ha.1.1.1.1,ha.1.1.1.2,ha.1.1.2,ha.2,ha.1.2⟩;cases ha
 obtain⟨d,t,hd,hg,ho,hdq,hdx,htx,hdt,htq⟩:=hcore;obtain⟨tv,v,rfl,hrun⟩:=EY hd hg ho hdt h1;have hq:((st.put (some t) tv).put (some d) v).get q=st.get q:=by rw[lh hdq];exact lh htq
 have hx:((st.put (some t) tv).put (some d) v).get x=st.get x:=by rw[lh hdx,lh htx]
 simp only[bH,ab]at heb;rcases heb with⟨heb,hes⟩|hes;obtain⟨B,rfl,hgo⟩:=MP hp hpd hpg heb hes hsb hl h2;have k1:=hgo st hq.symm hx.symm rfl rfl rfl rfl;refine⟨_,k1,?_⟩;have hg2:(⟨dM st.slots x ((((st.put (some t) tv).put (some d) v).get x).aC ((st.put (some t) tv).put (some d) v).ep),B,((st.put (some t) tv).put (some d) v).ep+1,((st.put (some t) tv).put (some d) v).iss,((st.put (some t) tv).put (some d) v).io⟩:AS).get t=st.get t:=by simp only[AS.get,eL,aq (bC htx)]
 rw[hrun _ hg2];simp only[AS.put,aJ,AS.mk.injEq,dS];rw[eB _ (bC htx),eB _ (bC hdx)];cases hb:an.es q with
 |none=>rw[hb]at hes;cases hes
 |some b=>
  rw[hb]at hes;simp only[ab,aA,dj]at hes;obtain⟨⟨⟨heb,hbx⟩,_⟩,hbw⟩:=hes;have hbw:=gb hbw b (by simp);have hbd:b≠d:=λe=>hbw (by simp[hd,e]);have hbt:b≠t:=λe=>hbw (by refine al.2 (.inr ?_);rcases ho with⟨ho,_⟩|⟨i,ho⟩<;>simp[bZ,ho,tm,e]);obtain⟨B,rfl,hgo⟩:=Kr hp hpd hpg hb heb hbx hsb hl h2;have hnb:nth st.slots b=nth ((st.put (some t) tv).put (some d) v).slots b:=by simp only[AS.put,eL,aq (bC hbd),aq (bC hbt)]
  have k1:=hgo st hq.symm hx.symm hnb rfl rfl rfl rfl;refine⟨_,k1,?_⟩;have hg2:(⟨dM (dM st.slots x ((((st.put (some t) tv).put (some d) v).get x).aC ((st.put (some t) tv).put (some d) v).ep)) b B,((st.put (some t) tv).put (some d) v).boxes,((st.put (some t) tv).put (some d) v).ep+1,((st.put (some t) tv).put (some d) v).iss,((st.put (some t) tv).put (some d) v).io⟩:AS).get t=st.get t:=by simp only[AS.get,eL,aq (bC htx),aq hbt]
  rw[hrun _ hg2];simp only[AS.put,aJ,AS.mk.injEq,dS];rw[eB _ hbt,eB _ hbd,eB _ (bC htx),eB _ (bC hdx)]
 cases ha
theorem CC {c:AC}{ep:Nat}(h:c.fI=true∨(c.borrow ep none).fI=true):c.borrow ep none=c:=by
 cases c with
 |sl fl e xs=>exfalso;cases fl with|holed _ _ ep=>cases ep<;>simp[AC.borrow,AC.fI]at h|_=>simp[AC.borrow,AC.fI]at h
 |_=>rfl
theorem zl {cs:List AC}{off n ep:Nat}(hfit:off+n≤cs.length)(k:Nat):(bM cs off (aC ep ((cs.drop off).take n)))[k]?=(cs[k]?).map λc=>if off≤k∧k<off+n then c.borrow ep none else c:=by
 have hl:(aC ep ((cs.drop off).take n)).length=n:=by simp[aC];omega
 unfold bM;rw[hl];by_cases h1:k<off;rw[aB,List.getElem?_append_left (by simp;omega),List.getElem?_take_of_lt h1];have:(λc:AC=>if off≤k∧k<off+n then c.borrow ep none else c)=id:=by funext c;rw[aq (by omega)];rfl
 rw[this,Option.map_id];rfl;by_cases h2:k<off+n;rw[List.getElem?_append_left (by simp[hl];omega),List.getElem?_append_right (by simp;omega)];have e:k-(cs.take off).length=k-off:=by simp;omega
 rw[e,aC,List.getElem?_map,List.getElem?_take_of_lt (by omega),List.getElem?_drop,show off+(k-off)=k by omega];congr 1;funext c;rw[au (by omega)];rw[List.getElem?_append_right (by simp[hl];omega)];have e:k-(cs.take off++aC ep ((cs.drop off).take n)).length=k-(off+n):=by simp[hl];omega
 rw[e,List.getElem?_drop,show off+n+(k-(off+n))=k by omega];have:(λc:AC=>if off≤k∧k<off+n then c.borrow ep none else c)=id:=by funext c;rw[aq (by omega)];rfl
 rw[this,Option.map_id];rfl
theorem vd {cs:List AC}{off n ep o2 n2:Nat}(hfit:off+n≤cs.length)(h:((cs.drop o2).take n2).all AC.fI=true∨(((bM cs off (aC ep ((cs.drop off).take n))).drop o2).take n2).all AC.fI=true): ((bM cs off (aC ep ((cs.drop off).take n))).drop o2).take n2=(cs.drop o2).take n2:=by
 apply List.ext_getElem?;intro k;by_cases hk:k<n2;rw[List.getElem?_take_of_lt hk,List.getElem?_take_of_lt hk,List.getElem?_drop,List.getElem?_drop,zl hfit];cases hc:cs[o2+k]? with|none=>rfl|some c=>simp only[bQ];split;rename_i hin;refine congrArg some (CC ?_);rcases h with h|h;left;refine az.1 h c (List.mem_of_getElem? (i:=k) ?_);rw[List.getElem?_take_of_lt hk,List.getElem?_drop,hc];right;refine az.1 h _ (List.mem_of_getElem? (i:=k) ?_);rw[List.getElem?_take_of_lt hk,List.getElem?_drop,zl hfit,hc,bQ,au hin];rfl
 rw[List.getElem?_eq_none (by simp;omega),List.getElem?_eq_none (by simp;omega)]
theorem wh {b ep:Nat}:∀{cs:List AC}{j:Nat},cs.all AC.fI=true→ee ep (.box b) j cs=cs
 |[],_,_=>rfl
 |c::cs,j,h=>by simp only[ba,ab]at h;rw[ee,wh h.2];congr 1;cases c<;>first|rfl|(simp[AC.fI]at h)
theorem zu {o:Oper}(h:qw an o=true):∃T q d,o.op=.load T (.tmp q)∧o.dst=some d∧o.guard=none∧an.mv.contains d=true∧(an.mb d).isSome=true:=by unfold qw at h;split at h;rename_i T q d ho hd hg;simp only[ab]at h;exact⟨T,q,d,ho,hd,hg,h.1,h.2⟩;cases h
theorem yb {o:Oper}(h:ya an o=true):∃T q d,o.op=.load T (.tmp q)∧o.dst=some d∧o.guard=none∧an.mv.contains d=false∧an.fm.contains d=true:=by unfold ya at h;split at h;rename_i T q d ho hd hg;simp only[ab,aA]at h;exact⟨T,q,d,ho,hd,hg,h.1,h.2⟩;cases h
theorem tn {X:List Nat}{o:Oper}{T:TypeId}{q d:Nat}(ht:qw an o=true)(ho:o.op=.load T (.tmp q))(hd:o.dst=some d)(hg:o.guard=none)(hmv:an.mv.contains d=true){st s:AS}:stepG E Γ an ops X o st=some s↔ ∃sh b off cs,eD E.ty T=some sh∧st.rd (.tmp q)=.val false [.ptr b off]∧(nth st.boxes b).getD none=some cs∧off+sh.ct.size≤cs.length∧X.contains b=false∧an.mb d=some b∧(Fl an o=true→sq E T st b off=true)∧ s=(st.cz b (some (bM cs off (aC st.ep ((cs.drop off).take sh.ct.size))))).put (some d) (.val sh.agg ((cs.drop off).take sh.ct.size)):=by
 have key:bU E an X o st=true→∀r,bN E Γ an o st some=some r→∃b off,st.rd (.tmp q)=.val false [.ptr b off]:=by intro hf r hr;simp only[bN,ho,im]at hr;split at hr;rename_i hp;exact⟨_,_,hp⟩;rename_i hp;simp only[bU,ho,hp,ht,Bool.or_true,aw,eO,dE]at hf;cases hf;cases hr
 unfold stepG;constructor;intro h;cases hf:bU E an X o st with|false=>rw[hf]at h;cases h|true=>rw[hf]at h;simp only[ah,dx,hg]at h;obtain⟨b,off,hp⟩:=key hf s h;simp only[bU,ho,hp,hd,hmv,aw,cE,ab,aA,aQ,bH]at hf;simp only[bN,ho,im,hp]at h;cases hT:eD E.ty T with|none=>rw[hT]at h;cases h|some sh=>rw[hT]at h;simp only at h;cases hb:(nth st.boxes b).getD none with|none=>rw[hb]at h;cases h|some cs=>rw[hb]at h;simp only at h;split at h;rename_i hfit;simp only[hd,hmv,aY]at h;cases h;refine⟨sh,b,off,cs,rfl,hp,hb,hfit,hf.1.1,hf.1.2,λhm=>?_,rfl⟩;rcases hf.2 with g|g;rw[hm]at g;cases g;exact g;cases h
 rintro⟨sh,b,off,cs,hT,hp,hb,hfit,hX,hmb,hfm,rfl⟩;have hf:bU E an X o st=true:=by simp only[bU,ho,hp,hd,hmv,hX,hmb,aw,cE,ab,aA,aQ,bH];refine⟨⟨trivial,trivial⟩,?_⟩;cases hm:Fl an o with|false=>exact .inl rfl|true=>exact .inr (hfm hm)
 rw[hf];simp only[ah,dx,hg,bN,ho,im,hp,hT,hb,au hfit,hd,hmv,aY]
theorem s5 {X:List Nat}{o:Oper}{T:TypeId}{q d:Nat}(ho:o.op=.load T (.tmp q))(hd:o.dst=some d)(hg:o.guard=none)(hmv:an.mv.contains d=false)(hfm:an.fm.contains d=true){st s:AS}:stepG E Γ an ops X o st=some s↔ ∃sh b off cs,eD E.ty T=some sh∧st.rd (.tmp q)=.val false [.ptr b off]∧(nth st.boxes b).getD none=some cs∧off+sh.ct.size≤cs.length∧X.contains b=false∧((cs.drop off).take sh.ct.size).all AC.fI=true∧ s=st.put (some d) (.val sh.agg ((cs.drop off).take sh.ct.size)):=by
 have hfb:Fl an o=true:=by simp only[Fl,hd,hfm]
 have key:bU E an X o st=true→∀r,bN E Γ an o st some=some r→∃b off,st.rd (.tmp q)=.val false [.ptr b off]:=by intro hf r hr;simp only[bN,ho,im]at hr;split at hr;rename_i hp;exact⟨_,_,hp⟩;rename_i hp;simp only[bU,ho,hp,hfb,eT,aw,eO,dE]at hf;cases hf;cases hr
 unfold stepG;constructor;intro h;cases hf:bU E an X o st with
 |false=>rw[hf]at h;cases h
 |true=>
  rw[hf]at h;simp only[ah,dx,hg]at h;obtain⟨b,off,hp⟩:=key hf s h;simp only[bU,ho,hp,hd,hmv,hfb,aw,de,eT,cE,Bool.and_true,ab,aA]at hf;simp only[bN,ho,im,hp]at h;cases hT:eD E.ty T with
  |none=>rw[hT]at h;cases h
  |some sh=>
   rw[hT]at h;simp only at h;cases hb:(nth st.boxes b).getD none with
   |none=>rw[hb]at h;cases h
   |some cs=>
    rw[hb]at h;simp only at h;split at h;rename_i hfit;have hst:((cs.drop off).take sh.ct.size).all AC.fI=true:=by have:=hf.2;unfold sq at this;rw[hT,hb]at this;exact this
    simp only[hd,hmv,aD,bf,wh hst]at h;cases h;exact⟨sh,b,off,cs,rfl,hp,hb,hfit,hf.1,hst,rfl⟩;cases h
 rintro⟨sh,b,off,cs,hT,hp,hb,hfit,hX,hst,rfl⟩;have hf:bU E an X o st=true:=by simp only[bU,ho,hp,hd,hmv,hX,hfb,sq,hT,hb,hst];rfl
 rw[hf];simp only[ah,dx,hg,bN,ho,im,hp,hT,hb,au hfit,hd,hmv,aD,bf,wh hst]
theorem AQ {st:AS}{q d:Nat}{v:AV}(h:d≠q):(st.put (some d) v).rd (.tmp q)=st.rd (.tmp q):=by simp only[AS.rd,lh h];rfl
theorem Ln {st:AS}{q b:Nat}{cs:Option (List AC)}:(st.cz b cs).rd (.tmp q)=st.rd (.tmp q):=rfl
theorem FD {st:AS}{b:Nat}{cs x:List AC}(h:(nth st.boxes b).getD none=some cs):(nth (dM st.boxes b (some x)) b).getD none=some x:=by
 rw[eL,au rfl];cases hn:nth st.boxes b with
 |none=>rw[hn]at h;cases h
 |some _=>
  have:b<st.boxes.length:=by rw[cg]at hn;exact(List.getElem?_eq_some_iff.1 hn).1
  rw[au this];rfl
theorem FE {st:AS}{b b2:Nat}{x:List AC}(h:b≠b2):nth (dM st.boxes b (some x)) b2=nth st.boxes b2:=by rw[eL,aq h]
theorem Nb {X Y:List Nat}{o p:Oper}{st s1 s2:AS}(ha:Gu an o p=true)(h1:stepG E Γ an ops X o st=some s1)(h2:stepG E Γ an ops Y p s1=some s2): ∃t1,stepG E Γ an ops Y p st=some t1∧stepG E Γ an ops X o t1=some s2:=by
 simp only[Gu,ab,bH,aA]at ha;obtain⟨⟨ha,m1⟩,m2⟩:=ha;have m1:=gb m1;have m2:=gb m2;rcases ha with⟨ht,hf⟩|⟨hf,ht⟩;obtain⟨T,q,d,ho,hd,hg,hmv,hmb⟩:=zu ht;obtain⟨T2,q2,d2,hp,hd2,hg2,hmv2,hfm2⟩:=yb hf;have n1:d≠d2:=λe=>m1 d (by simp[hd]) (by simp[hd2,e]);have n2:d≠q2:=λe=>m1 d (by simp[hd]) (by simp[bZ,hp,tm,e]);have n3:d2≠q:=λe=>m2 d2 (by simp[hd2]) (by simp[bZ,ho,tm,e]);obtain⟨sh,b,off,cs,hT,hr,hb,hfit,hX,hmbe,hfm,rfl⟩:=(tn ht ho hd hg hmv).1 h1;obtain⟨sh2,b2,off2,cs2,hT2,hr2,hb2,hfit2,hX2,hst2,rfl⟩:=(s5 hp hd2 hg2 hmv2 hfm2).1 h2;rw[AQ n2,Ln]at hr2;have hbx:(nth (dM st.boxes b (some (bM cs off (aC st.ep ((cs.drop off).take sh.ct.size))))) b2).getD none=some cs2:=hb2;have hfin:∃cs0,(nth st.boxes b2).getD none=some cs0∧off2+sh2.ct.size≤cs0.length∧(cs2.drop off2).take sh2.ct.size=(cs0.drop off2).take sh2.ct.size:=by
  by_cases hbb:b=b2;subst hbb;rw[FD hb]at hbx;cases hbx;have hlen:(bM cs off (aC st.ep ((cs.drop off).take sh.ct.size))).length=cs.length:=by simp only[bM,aC,aj,List.length_map,bp,bc];omega
  exact⟨cs,hb,by omega,vd hfit (.inr hst2)⟩;rw[FE hbb]at hbx;exact⟨cs2,hbx,hfit2,rfl⟩
 obtain⟨cs0,hb0,hfit0,he⟩:=hfin;rw[he]at hst2⊢;refine⟨_,(s5 hp hd2 hg2 hmv2 hfm2).2 ⟨sh2,b2,off2,cs0,hT2,hr2,hb0,hfit0,hX2,hst2,rfl⟩,(tn ht ho hd hg hmv).2 ⟨sh,b,off,cs,hT,by rw[AQ n3];exact hr,hb,hfit,hX,hmbe,λhm=>?_,?_⟩⟩;have:=hfm hm;unfold sq at this⊢;exact this;simp only[AS.put,AS.cz,AS.mk.injEq,dS];exact eB _ n1 _ _;obtain⟨T,q,d,ho,hd,hg,hmv,hfm⟩:=yb hf;obtain⟨T2,q2,d2,hp,hd2,hg2,hmv2,hmb2⟩:=zu ht;have n1:d≠d2:=λe=>m1 d (by simp[hd]) (by simp[hd2,e]);have n2:d≠q2:=λe=>m1 d (by simp[hd]) (by simp[bZ,hp,tm,e]);have n3:d2≠q:=λe=>m2 d2 (by simp[hd2]) (by simp[bZ,ho,tm,e]);obtain⟨sh,b,off,cs,hT,hr,hb,hfit,hX,hst,rfl⟩:=(s5 ho hd hg hmv hfm).1 h1;obtain⟨sh2,b2,off2,cs2,hT2,hr2,hb2,hfit2,hX2,hmbe,hfm2,rfl⟩:=(tn ht hp hd2 hg2 hmv2).1 h2;rw[AQ n2]at hr2;refine⟨_,(tn ht hp hd2 hg2 hmv2).2 ⟨sh2,b2,off2,cs2,hT2,hr2,hb2,hfit2,hX2,hmbe,λhm=>hfm2 hm,rfl⟩,?_⟩;have hfin:∃cs0,(nth (dM st.boxes b2 (some (bM cs2 off2 (aC st.ep ((cs2.drop off2).take sh2.ct.size))))) b).getD none=some cs0∧off+sh.ct.size≤cs0.length∧(cs0.drop off).take sh.ct.size=(cs.drop off).take sh.ct.size:=by
  by_cases hbb:b2=b;subst hbb;have hcs:cs2=cs:=cc (hb2.symm.trans hb);subst hcs;have hlen:(bM cs2 off2 (aC st.ep ((cs2.drop off2).take sh2.ct.size))).length=cs2.length:=by simp only[bM,aC,aj,List.length_map,bp,bc];omega
  exact⟨_,FD hb,by omega,vd hfit2 (.inl hst)⟩;exact⟨cs,by rw[FE hbb];exact hb,hfit,rfl⟩
 obtain⟨cs0,hb0,hfit0,he⟩:=hfin;refine(s5 ho hd hg hmv hfm).2 ⟨sh,b,off,cs0,hT,by rw[AQ n3,Ln];exact hr,hb0,hfit0,hX,by rw[he];exact hst,?_⟩;rw[he];simp only[AS.put,AS.cz,AS.mk.injEq,dS];exact eB _ n1 _ _
theorem zt {X:List Nat}{o:Oper}{T:TypeId}{q d:Nat}(ht:sN an o=true)(ho:o.op=.load T (.tmp q))(hd:o.dst=some d)(hg:o.guard=none)(hmv:an.mv.contains d=true)(hmb:an.mb d=none){st s:AS}:stepG E Γ an ops X o st=some s↔ ∃(g:Bool)(e:CT)(offs:List (Nat×Nat))(b j t ep0:Nat)(x:e.D)(i:Int)(cs:List AC)(ys:List e.D)(y:e.D),eD E.ty T=some ⟨g,e,offs⟩∧st.rd (.tmp q)=.val false [.elt (.loc ep0 (some (.box b j,t))) e x i 0]∧(nth st.boxes b).getD none=some cs∧nth cs j=some (.sl (.own (some t)) e ys)∧idx ys i=some y∧ X.contains b=false∧an.eb q=some b∧Fl an o=false∧s=(vi st b j t e i cs ys).put (some d) (.val g (cellsOf e (.own none) y)):=by rw[←zr ht ho hd hmv hmb];unfold stepG;cases bU E an X o st with|false=>simp|true=>simp only[ah,dx,hg,bN,ho,true_and]
theorem Jv {o:Oper}(h:qb an o=true):∃T q d,o.op=.load T (.tmp q)∧o.dst=some d∧o.guard=none∧an.mv.contains d=false∧Fl an o=false:=by unfold qb at h;split at h;rename_i T q d ho hd hg;simp only[ab,aA]at h;exact⟨T,q,d,ho,hd,hg,h.1.1,by simp only[Fl,hd];exact h.1.2⟩;cases h
theorem yM {X:List Nat}{o:Oper}{T:TypeId}{q d:Nat}(hpl:qb an o=true)(ho:o.op=.load T (.tmp q))(hd:o.dst=some d)(hg:o.guard=none)(hmv:an.mv.contains d=false)(hfm:Fl an o=false){st s:AS}:stepG E Γ an ops X o st=some s↔ ∃sh b off cs,eD E.ty T=some sh∧st.rd (.tmp q)=.val false [.ptr b off]∧(nth st.boxes b).getD none=some cs∧off+sh.ct.size≤cs.length∧X.contains b=false∧ s=st.put (some d) (.val sh.agg (ee st.ep (.box b) off ((cs.drop off).take sh.ct.size))):=by
 unfold stepG;constructor;intro h;cases hf:bU E an X o st with|false=>rw[hf]at h;cases h|true=>rw[hf]at h;simp only[ah,dx,hg,bN,ho]at h;unfold im at h;split at h;rename_i sh b off hT hp;simp only[bU,ho,hp,hd,hmv,hfm,de,eT,Bool.and_true,aA]at hf;split at h;rename_i cs hb;split at h;rename_i hfit;simp only[hd,hmv,aD,bf]at h;cases h;exact⟨sh,b,off,cs,hT,hp,hb,hfit,hf,rfl⟩;cases h;cases h;rename_i hp;simp only[bU,ho,hp,hpl,aw,eO,dE]at hf;cases hf;cases h
 rintro⟨sh,b,off,cs,hT,hp,hb,hfit,hX,rfl⟩;have hf:bU E an X o st=true:=by simp only[bU,ho,hp,hd,hmv,hX,hfm];rfl
 rw[hf];simp only[ah,dx,hg,bN,ho,im,hp,hT,hb,au hfit,hd,hmv,aD,bf]
theorem xx {ep b:Nat}:∀(cs:List AC)(p k:Nat)(c':AC),(∀c,cs[k]?=some c→∀r,c'.borrow ep (some r)=c.borrow ep (some r))→ee ep (.box b) p (cs.set k c')=ee ep (.box b) p cs
 |[],_,_,_,_=>rfl
 |c::cs,p,0,c',h=>by simp only[List.set_cons_zero,ee,h c rfl]
 |c::cs,p,k+1,c',h=>by simp only[List.set_cons_succ,ee];rw[xx cs (p+1) k c' (λc hc=>h c (by simpa using hc))]
theorem CV {ep b j t off n:Nat}{e:CT}{i:Int}{ys:List e.D}{cs:List AC}(hj:nth cs j=some (.sl (.own (some t)) e ys)): ee ep (.box b) off (((dM cs j (.sl (.holed (some t) i (some ep)) e ys)).drop off).take n)=ee ep (.box b) off ((cs.drop off).take n):=by rw[cP,List.drop_set];split;rfl;rename_i hlt;rw[List.take_set];refine xx _ _ _ _ λc hc r=>?_;by_cases hn:j-off<n;rw[List.getElem?_take_of_lt hn,List.getElem?_drop,show off+(j-off)=j by omega,←cg,hj]at hc;cases hc;rfl;rw[List.getElem?_eq_none (by simp;omega)]at hc;cases hc
theorem MH {X Y:List Nat}{o p:Oper}{st s1 s2:AS}(ha:FG an o p=true)(h1:stepG E Γ an ops X o st=some s1)(h2:stepG E Γ an ops Y p s1=some s2): ∃t1,stepG E Γ an ops Y p st=some t1∧stepG E Γ an ops X o t1=some s2:=by
 simp only[FG,ab,aA]at ha;obtain⟨⟨⟨hpl,ht⟩,m1⟩,m2⟩:=ha;have m1:=gb m1;have m2:=gb m2;obtain⟨T,q,d,ho,hd,hg,hmv,hfm⟩:=Jv hpl;obtain⟨T2,q2,d2,hp,hd2,hg2,hmv2,hmb2⟩:=AZ ht;have n1:d≠d2:=λe=>m1 d (by simp[hd]) (by simp[hd2,e]);have n2:d≠q2:=λe=>m1 d (by simp[hd]) (by simp[bZ,hp,tm,e]);have n3:d2≠q:=λe=>m2 d2 (by simp[hd2]) (by simp[bZ,ho,tm,e]);obtain⟨sh,b,off,cs,hT,hr,hb,hfit,hX,rfl⟩:=(yM hpl ho hd hg hmv hfm).1 h1;obtain⟨g,e,offs,b2,j,t,ep0,x,i,cs2,ys,y,hT2,hr2,hb2,hj,hi,hX2,heb,hfm2,rfl⟩:=(zt ht hp hd2 hg2 hmv2 hmb2).1 h2;rw[AQ n2]at hr2;have hb2':(nth st.boxes b2).getD none=some cs2:=hb2;refine⟨_,(zt ht hp hd2 hg2 hmv2 hmb2).2 ⟨g,e,offs,b2,j,t,ep0,x,i,cs2,ys,y,hT2,hr2,hb2',hj,hi,hX2,heb,hfm2,rfl⟩,?_⟩;have hfin:∃cs0,(nth (dM st.boxes b2 (some (dM cs2 j (.sl (.holed (some t) i (some st.ep)) e ys)))) b).getD none=some cs0∧off+sh.ct.size≤cs0.length∧ee st.ep (.box b) off ((cs0.drop off).take sh.ct.size)=ee st.ep (.box b) off ((cs.drop off).take sh.ct.size):=by by_cases hbb:b2=b;subst hbb;have hcs:cs2=cs:=cc (hb2'.symm.trans hb);subst hcs;exact⟨_,FD hb,by rw[cP,aO];exact hfit,CV hj⟩;exact⟨cs,by rw[FE hbb];exact hb,hfit,rfl⟩
 obtain⟨cs0,hb0,hfit0,he⟩:=hfin;refine(yM hpl ho hd hg hmv hfm).2 ⟨sh,b,off,cs0,hT,by rw[AQ n3];exact hr,hb0,hfit0,hX,?_⟩;show _=((vi st b2 j t e i cs2 ys).put (some d2) _).put (some d) (.val sh.agg (ee st.ep (.box b) off ((cs0.drop off).take sh.ct.size)));rw[he];simp only[AS.put,vi,AS.cz,AS.mk.injEq,dS];exact eB _ n1 _ _
def zW (E:Env)(Γ:cD)(an:An)(ops:List Oper)(X:Nat→List Nat):List Nat→AS→Option AS
 |[],st=>some st
 |i::r,st=>match nth ops i with
  |some o=>(stepG E Γ an ops (X i) o st).bind (zW E Γ an ops X r)
  |none=>none
theorem yX (hΓ:∀f,(Γ f).io=false∧((Γ f).bx=true→(Γ f).cur=true)∧(Γ f).pr=false){X:Nat→List Nat}{i:Nat}{oi:Oper}(hi:nth ops i=some oi):∀(pre post:List Nat)(st r:AS),(∀j∈pre,∀oj,nth ops j=some oj→xq an ops (X j) (X i) oj oi=true)→
 zW E Γ an ops X (pre++i::post) st=some r→zW E Γ an ops X (i::(pre++post)) st=some r
 |[],post,st,r,_,h=>h
 |j::pre,post,st,r,ha,h=>by
  simp only[List.cons_append,zW]at h;cases hj:nth ops j with
  |none=>rw[hj]at h;cases h
  |some oj=>
   rw[hj]at h;simp only at h;obtain⟨s1,h1,h2⟩:=ax.1 h;have h3:=yX hΓ hi pre post s1 r (λk hk=>ha k (by simp[hk])) h2;simp only[zW,hi]at h3;obtain⟨s2,h4,h5⟩:=ax.1 h3;have hap:=ha j (by simp) oj hj;obtain⟨t1,k1,k2⟩:∃t1,stepG E Γ an ops (X i) oi st=some t1∧stepG E Γ an ops (X j) oj t1=some s2:=by cases hx:Li an oj oi with|false=>rw[xq,hx,cE]at hap;exact G4 hΓ hap h1 h4|true=>simp only[Li,bH]at hx;rcases hx with((hx|hx)|hx)|hx;exact Kx hx h1 h4;exact MO hx h1 h4;exact Nb hx h1 h4;exact MH hx h1 h4
   simp only[zW,hi,k1,cx,List.cons_append,hj,k2];exact h5
end Go.Dn
