import Derived.Test.YtgbaemfepmabgaaGreatDnUpd
/- Operations that are apart may change places. -/
namespace Go.Dn
variable {E:Env} {Γ:cG} {an:An} {ops:List Oper}
def stepG (E:Env)(Γ:cG)(an:An)(ops:List Oper)(X:List Nat)(o:Oper)(st:AS):Option AS:=
 bif bX E an X o st then dH E Γ an ops o st some else none
structure BB (an:An) (ops:List Oper) (X:List Nat) (o:Oper) (st st2:AS):Prop where
 base:dR an X o st st2
 gd:∀t∈sH an ops o,st2.get t=st.get t
theorem FB {st:AS}{d:Nat}{b:Bool}(h:st.get d=.val false [.bool b]):st.put (some d) (.one (.bool b))=st:=by cases st with|mk slots boxes ep iss io=>simp only[AS.put,AS.mk.injEq,dY];rw[cS];apply List.ext_getElem?;intro i;rw[List.getElem?_set];split;rename_i hd;subst hd;simp only[AS.get,cf]at h;split;rename_i hlt;rw[List.getElem?_eq_getElem hlt]at h⊢;simp only[dv]at h;rw[h];rename_i hge;rw[List.getElem?_eq_none (Nat.le_of_not_lt hge)];rfl
theorem Cl {T:TypeId}{st st2:AS}{s off:Nat}(h:nth st2.boxes s=nth st.boxes s):sG E T st2 s off=sG E T st s off:=by unfold sG;rw[h]
theorem tX {X:List Nat}{o:Oper}{st st2:AS}(ha:dR an X o st st2):bX E an X o st2=bX E an X o st:=by
 unfold bX;split;rename_i ho;rw[ha.rd (λt ht=>by simpa[b8,ho]using ht)];rename_i T p ho;rw[ha.rd (λt ht=>by simp[b8,ho,ht]),ha.ep];rename_i ho;rw[ha.rd (λt ht=>by simp[b8,ho,ht]),ha.ep];rename_i f args ts ho;have hcur:la an X (KQ an o) st2 args.toList=la an X (KQ an o) st args.toList:=by
  have hl:∀x∈args.toList,∀t∈tm x,t∈b8 o:=by intro x hx t ht;simp only[b8,ho,al,Ay,List.mem_flatMap];exact .inr ⟨x,hx,ht⟩
  generalize args.toList=l at hl;cases l with
  |nil=>rfl
  |cons x xs=>
   have hself:xs.all (u5 (KQ an o) st2)=xs.all (u5 (KQ an o) st):=by
    rw[bE];simp only[ay];have e:∀y∈xs,u5 (KQ an o) st2 y=u5 (KQ an o) st y:=by intro y hy;cases y with|tmp t=>have hg:=ha.get t (hl (.tmp t) (by simp[hy]) t (by simp[tm]));simp only[u5,hg]|const v=>rfl|func v=>rfl|global v=>rfl
    exact⟨λg y hy=>by rw[←e y hy];exact g y hy,λg y hy=>by rw[e y hy];exact g y hy⟩
   have hr:=ha.rd (hl x (by simp));cases x with
   |tmp q=>
    simp only[la,hr];generalize st.rd (.tmp q)=v;unfold Lf;rw[hself];split;rename_i s off;cases hX:X.contains s with|true=>simp|false=>rw[ha.box s hX]
    rfl
   |const v=>simp only[la,hr]
   |func v=>simp only[la,hr]
   |global v=>simp only[la,hr]
 rw[hcur];congr 1;rw[bE];simp only[ay];constructor;intro hx x hm;have:=hx x hm;rwa[ha.rd (λt ht=>by simp only[b8,ho,al,Ay,List.mem_flatMap];exact .inr ⟨x,hm,ht⟩),ha.ep]at this;intro hx x hm;rw[ha.rd (λt ht=>by simp only[b8,ho,al,Ay,List.mem_flatMap];exact .inr ⟨x,hm,ht⟩),ha.ep];exact hx x hm;rename_i ho;rw[ha.rd (λt ht=>by simpa[b8,ho]using ht),ha.ep];split;rename_i s off _;cases hX:X.contains s with|true=>rfl|false=>rw[Cl (ha.box s hX)]
 rfl;rfl;rename_i ho;rw[ha.rd (λt ht=>by simp only[b8,ho,al];exact .inl ht)];rename_i ho;rw[ha.get _ (by simp[b8,ho])];rfl
theorem wM (hΓ:∀f,(Γ f).io=false∧((Γ f).bx=true→(Γ f).cur=true)∧(Γ f).pr=false){X:List Nat}{o:Oper}{st st':AS}(hm:gW an o=true)(h:stepG E Γ an ops X o st=some st'): ∃u:vt,u.tO an o∧st'=u.apply st∧∀st2,BB an ops X o st st2→stepG E Γ an ops X o st2=some (u.apply st2):=by
 unfold stepG at h;cases hf:bX E an X o st with
 |false=>rw[hf]at h;cases h
 |true=>
  rw[hf]at h;simp only[ah]at h;unfold dH at h;split at h;rename_i hg;obtain⟨u,h1,h2,h3⟩:=zB (X:=X) hΓ hm hf h;refine⟨u,h1,h2,λst2 ha=>?_⟩;unfold stepG;rw[tX ha.base,hf];simp only[ah,dH,hg];exact h3 st2 ha.base;rename_i j want hg;split at h;rename_i d hd;have hin:d∈sH an ops o:=by simp[sH,hg,hd]
  split at h;rename_i b hb;have hgo:(if(b==want)=true then bT E Γ an o st some else some (st.put o.dst (.one .un)))=some st':=by cases b<;>simpa only[ah,ak,FB hb]using h
  have h2g:∀st2,BB an ops X o st st2→stepG E Γ an ops X o st2=(if(b==want)=true then bT E Γ an o st2 some else some (st2.put o.dst (.one .un))):=by
   intro st2 ha;have hb2:st2.get d=.val false [.bool b]:=by rw[ha.gd d hin];exact hb
   unfold stepG;rw[tX ha.base,hf];simp only[ah,dH,hg,hd,hb2];cases b<;>simp only[ah,ak,FB hb2]
  split at hgo;rename_i hw;obtain⟨u,h1,h2,h3⟩:=zB (X:=X) hΓ hm hf hgo;exact⟨u,h1,h2,λst2 ha=>by rw[h2g st2 ha,ar hw];exact h3 st2 ha.base⟩;rename_i hw;cases hgo;exact⟨rR o (.one .un),qJ _,by rw[kF],λst2 ha=>by rw[h2g st2 ha,aq hw,kF]⟩;rename_i hb;cases h;refine⟨rR o (.one .un),qJ _,by rw[kF],λst2 ha=>?_⟩;have hb2:st2.get d=.val false [.un]:=by rw[ha.gd d hin];exact hb
  unfold stepG;rw[tX ha.base,hf,kF];simp only[ah,dH,hg,hd,hb2];cases h;cases h
theorem eF {α:Type}(l:List α){i j:Nat}(h:i≠j)(v w:α):dW (dW l i v) j w=dW (dW l j w) i v:=by rw[cS,cS,cS,cS,List.set_comm _ _ h]
theorem HB (l:List AV)(a:List (Nat×AV)){i:Nat}(v:AV)(h:∀x∈a,x.1≠i):fe (dW l i v) a=dW (fe l a) i v:=by induction a generalizing l with|nil=>rfl|cons x a ih=>simp only[fe];rw[eF _ (bF (h x (by simp))),ih _ (λy hy=>h y (by simp[hy]))]
theorem Fy (l:List AV)(a b:List (Nat×AV))(h:∀x∈a,∀y∈b,x.1≠y.1):fe (fe l a) b=fe (fe l b) a:=by induction b generalizing l with|nil=>rfl|cons y b ih=>simp only[fe];rw[←HB l a y.2 (λx hx=>h x hx y (by simp)),ih _ (λx hx z hz=>h x hx z (by simp[hz]))]
theorem Ak (l:List AV)(a:List (Nat×AV)){t:Nat}(h:∀x∈a,x.1≠t):nth (fe l a) t=nth l t:=by induction a generalizing l with|nil=>rfl|cons x a ih=>rw[fe,ih _ (λy hy=>h y (by simp[hy])),eS,aq (h x (by simp))]
theorem gm {a b:List Nat}(h:meets a b=false):∀x∈a,x∉b:=by intro x hx hb;unfold meets at h;rw[List.any_eq_false]at h;exact h x hx (by simpa using hb)
theorem vt.K2 {u:vt}{o p:Oper}{Y:List Nat}{st:AS}(hw:u.tO an o)(h1:∀x∈writes an o,x∉b8 p++sH an ops p++writes an p)(h2:∀d∈sZ an o,Y.contains d=true)(h3:∀d∈sZ an o,p.dst≠some d): BB an ops Y p (u.apply st) st∧BB an ops Y p st (u.apply st):=by
 have hget:∀t,t∈b8 p++sH an ops p++writes an p→(u.apply st).get t=st.get t:=by intro t ht;unfold AS.get;have:nth (u.apply st).slots t=nth st.slots t:=Ak _ _ (λx hx he=>h1 _ (hw.slots x hx) (by rw[he];exact ht));rw[this]
 have hdst:∀d,p.dst=some d→nth (u.apply st).iss d=nth st.iss d∧nth (u.apply st).boxes d=nth st.boxes d:=by
  intro d hd;have hd':d∈b8 p++sH an ops p++writes an p:=by simp[writes,hd]
  have hne:o.dst≠some d:=λhe=>h1 d (by simp[writes,he]) hd';constructor;unfold vt.apply;cases hi:u.iss with|none=>rfl|some k=>simp only;rw[eS,aq];rintro rfl;exact hne (hw.iss _ hi)
  unfold vt.apply;cases hi:u.box with|none=>rfl|some k=>simp only;rw[eS,aq];intro he;exact h3 _ (hw.box k hi) (by rw[he];exact hd)
 have hbox:∀s,Y.contains s=false→nth (u.apply st).boxes s=nth st.boxes s:=by intro s hs;unfold vt.apply;cases hi:u.box with|none=>rfl|some k=>simp only;rw[eS,aq];rintro rfl;have:=h2 k.1 (hw.box k hi);rw[this]at hs;cases hs
 have hlen:(u.apply st).slots.length=st.slots.length:=yV _ _;exact⟨⟨⟨hlen.symm,λt ht=>(hget t (by simp[ht])).symm,rfl,λd hd=>⟨((hdst d hd).1).symm,((hdst d hd).2).symm⟩,λs hs=>(hbox s hs).symm,λt ht=>(hget t (by simp[sH,ht])).symm⟩,λt ht=>(hget t (by simp[ht])).symm⟩,⟨⟨hlen,λt ht=>hget t (by simp[ht]),rfl,hdst,hbox,λt ht=>hget t (by simp[sH,ht])⟩,λt ht=>hget t (by simp[ht])⟩⟩
theorem Gk {u v:vt}{o p:Oper}{st:AS}(hu:u.tO an o)(hv:v.tO an p)(h:∀x∈writes an o,x∉writes an p)(hb:∀x∈sZ an o,x∉sZ an p):v.apply (u.apply st)=u.apply (v.apply st):=by
 have hdd:∀a b,o.dst=some a→p.dst=some b→a≠b:=λa b ha hb he=>h a (by simp[writes,ha]) (by simp[writes,hb,he]);have hs:=Fy st.slots u.slots v.slots (λx hx y hy he=>h _ (hu.slots x hx) (by rw[he];exact hv.slots y hy));simp only[vt.apply,AS.mk.injEq,true_and,dY];refine⟨hs,?_,?_⟩;cases hub:u.box with|none=>cases v.box<;>rfl|some k=>cases hvb:v.box with|none=>rfl|some l=>exact eF _ (λhe=>hb _ (hu.box k hub) (by rw[he];exact hv.box l hvb)) _ _
 cases hui:u.iss with|none=>cases v.iss<;>rfl|some k=>cases hvi:v.iss with|none=>rfl|some l=>exact eF _ (hdd _ _ (hu.iss k hui) (hv.iss l hvi)) _ _
theorem HK (hΓ:∀f,(Γ f).io=false∧((Γ f).bx=true→(Γ f).cur=true)∧(Γ f).pr=false){X Y:List Nat}{o p:Oper}{st s1 s2:AS}(ha:Gi an ops X Y o p=true)(h1:stepG E Γ an ops X o st=some s1)(h2:stepG E Γ an ops Y p s1=some s2): ∃t1,stepG E Γ an ops Y p st=some t1∧stepG E Γ an ops X o t1=some s2:=by
 simp only[Gi,ab,aA,ay]at ha;obtain⟨⟨⟨⟨⟨⟨⟨mo,mp⟩,w1⟩,w2⟩,b1⟩,b2⟩,b3⟩,b4⟩:=ha;have w1:=gm w1;have w2:=gm w2;have b3:=gm b3;have b4:=gm b4;obtain⟨u,hu,rfl,hu2⟩:=wM hΓ mo h1;obtain⟨v,hv,rfl,hv2⟩:=wM hΓ mp h2;have ag1:=vt.K2 (ops:=ops) (p:=p) (Y:=Y) (st:=st) hu w1 b1 (λd hd he=>b3 d hd (by simp[he]));have hww:∀x∈writes an p,x∉b8 o++sH an ops o++writes an o:=by intro x hx hm;rcases al.1 hm with hm|hm;exact w2 x hx hm;exact w1 x hm (by simp[hx])
 have ag2:=vt.K2 (ops:=ops) (p:=o) (Y:=X) (st:=st) hv hww b2 (λd hd he=>b4 d hd (by simp[he]));refine⟨v.apply st,hv2 st ag1.1,?_⟩;rw[hu2 _ ag2.2,Gk hu hv (λx hx hm=>w1 x hx (by simp[hm])) (λx hx hm=>b3 x hx (by simp[hm]))]
theorem uE {st:AS}{t:Nat}{v w:AV}(h:st.get t=v)(hv:v≠ .bot):(st.put (some t) w).get t=w:=by
 unfold AS.get at h;cases hn:nth st.slots t with
 |none=>rw[hn]at h;exact absurd h.symm hv
 |some q=>
  have hl:t<st.slots.length:=by rw[cf]at hn;exact(List.getElem?_eq_some_iff.1 hn).1
  unfold AS.get AS.put;simp only[cf,cS];rw[List.getElem?_set_self hl];rfl
theorem lK {st:AS}{t d:Nat}{w:AV}(h:d≠t):(st.put (some d) w).get t=st.get t:=by unfold AS.get AS.put;simp only[eS,aq h]
theorem qN {X:List Nat}{o:Oper}{st s:AS}{t i d:Nat}(ho:o.op=.extract (.tmp t) i)(hd:o.dst=some d)(hg:o.guard=none):stepG E Γ an ops X o st=some s↔ ∃vs g cs,st.get t=.tup vs∧nth vs i=some (g,cs)∧(cs.all AC.dF||an.mv.contains d)=true∧s=(st.put (some t) (.tup (dW vs i (g,aB 0 cs)))).put (some d) (.val g cs):=by
 unfold stepG;simp only[bX,ho,hd];constructor;intro h;cases hv:st.get t with|val g cs=>simp only[hv,ah,dH,hg,bT,ho,gb]at h;cases h|tup vs=>simp only[hv]at h;cases hn:nth vs i with|none=>simp only[hn,ah,dH,hg,bT,ho,gb,hv]at h;cases h|some x=>obtain⟨g,cs⟩:=x;simp only[hn]at h;cases hf:(cs.all AC.dF||an.mv.contains d)with|false=>rw[hf]at h;cases h|true=>rw[hf]at h;simp only[ah,dH,hg,bT,ho,gb,hv,hn,hd]at h;cases h;exact⟨vs,g,cs,rfl,hn,hf,rfl⟩
 rintro⟨vs,g,cs,hv,hn,hf,rfl⟩;simp only[hv,hn,hf,ah,dH,hg,bT,ho,gb,hd]
theorem Ku {α:Type}(l:List α)(i:Nat)(v w:α):dW (dW l i v) i w=dW l i w:=by rw[cS,cS,cS,List.set_set]
theorem Lq {X Y:List Nat}{o p:Oper}{st s1 s2:AS}(ha:GJ o p=true)(h1:stepG E Γ an ops X o st=some s1)(h2:stepG E Γ an ops Y p s1=some s2): ∃t1,stepG E Γ an ops Y p st=some t1∧stepG E Γ an ops X o t1=some s2:=by
 unfold GJ at ha;split at ha;rename_i t i t' j d d' ho hp hd hd' hg hg';simp only[ab,aM,aA,cU,ne_eq]at ha;obtain⟨⟨⟨⟨rfl,hij⟩,hdd⟩,hdt⟩,hdt'⟩:=ha;obtain⟨vs,g,cs,hv,hn,hf,rfl⟩:=(qN ho hd hg).1 h1;obtain⟨vs2,g2,cs2,hv2,hn2,hf2,rfl⟩:=(qN hp hd' hg').1 h2;have hq:((st.put (some t) (.tup (dW vs i (g,aB 0 cs)))).put (some d) (.val g cs)).get t=.tup (dW vs i (g,aB 0 cs)):=by rw[lK hdt,uE hv (by simp)]
 rw[hq]at hv2;cases hv2;rw[eS,aq hij]at hn2;refine⟨_,(qN hp hd' hg').2 ⟨vs,g2,cs2,hv,hn2,hf2,rfl⟩,(qN ho hd hg).2 ⟨dW vs j (g2,aB 0 cs2),g,cs,?_,?_,hf,?_⟩⟩;rw[lK hdt',uE hv (by simp)];rw[eS,aq (bF hij)];exact hn;have e:=eF vs hij (g,aB 0 cs) (g2,aB 0 cs2);have a:∀(A B:AV)(q:Nat)(v:AV),q≠t→dW (dW (dW st.slots t A) q v) t B=dW (dW st.slots t B) q v:=λA B q v hq=>by rw[eF _ hq,Ku]
 simp only[AS.put,AS.mk.injEq,dY];rw[a _ _ _ _ hdt,a _ _ _ _ hdt',e,eF _ hdd];cases ha
theorem IE (s:AS)(t:Nat):s.put (some t) (s.get t)=s:=by cases s with|mk slots boxes ep iss io=>simp only[AS.put,AS.mk.injEq,dY];rw[cS];apply List.ext_getElem?;intro i;rw[List.getElem?_set];split;rename_i hd;subst hd;simp only[AS.get,cf];split;rename_i hlt;rw[List.getElem?_eq_getElem hlt];rfl;rename_i hge;rw[List.getElem?_eq_none (Nat.le_of_not_lt hge)];rfl
theorem FL {X:List Nat}{o:Oper}{st s:AS}{d t:Nat}(hd:o.dst=some d)(hg:o.guard=none)(ho:(o.op=.move (.tmp t)∧an.mv.contains d=false∧an.fm.contains d=true)∨∃i,o.op=.extract (.tmp t) i)(_hdt:d≠t)(h:stepG E Γ an ops X o st=some s): ∃tv v,s=(st.put (some t) tv).put (some d) v∧∀st2:AS,st2.get t=st.get t→stepG E Γ an ops X o st2=some ((st2.put (some t) tv).put (some d) v):=by
 rcases ho with⟨ho,hmv,hfm⟩|⟨i,ho⟩;have hrd:∀st2:AS,st2.get t=st.get t→(st.rd (.tmp t)).fN=true→st2.rd (.tmp t)=st.get t:=by
  intro st2 hq hs;simp only[AS.rd,hq]at hs⊢;cases hv:st.get t with
  |tup vs=>rw[hv]at hs;simp[AV.borrow,AV.fN]at hs
  |val g cs=>
   rw[hv]at hs;simp only[AV.borrow,AV.fN]at hs⊢;congr 1;have key:∀(cs:List AC)(j:Nat),(ek st.ep (λj=>fg.slot t j) j cs).all AC.fN=true→ek st2.ep (λj=>fg.slot t j) j cs=cs:=by
    intro cs;induction cs with
    |nil=>intro j _;rfl
    |cons c cs ih=>
     intro j h;simp only[ek,a6,ab]at h⊢;rw[ih (j+1) h.2];congr 1;cases c with
     |sl fl e xs=>cases fl with|holed _ _ ep=>cases ep<;>simp[AC.borrow,AC.fN]at h|_=>simp[AC.borrow,AC.fN]at h
     |_=>rfl
   exact key cs 0 hs
 unfold stepG at h;have hst:(st.rd (.tmp t)).fN=true:=by cases hs:(st.rd (.tmp t)).fN with|true=>rfl|false=>simp only[bX,ho,F8,hd,hfm,hs]at h;cases h
 refine⟨st.get t,st.get t,?_,λst2 hq=>?_⟩;simp only[bX,ho,F8,hd,hfm,hst,Bool.or_true,ah,dH,hg,bT,qW,hmv,aD,bp]at h;cases h;rw[hrd st rfl hst];congr 1;exact(IE st t).symm;unfold stepG;have e1:=hrd st2 hq hst;have hst2:(st2.rd (.tmp t)).fN=true:=by rw[e1,←hrd st rfl hst];exact hst
 simp only[bX,ho,F8,hd,hfm,hst2,Bool.or_true,ah,dH,hg,bT,qW,hmv,aD,bp];rw[e1,←hq,IE];obtain⟨vs,g,cs,hv,hn,hf,rfl⟩:=(qN ho hd hg).1 h;refine⟨_,_,rfl,λst2 hq=>(qN ho hd hg).2 ⟨vs,g,cs,by rw[hq,hv],hn,hf,rfl⟩⟩
theorem N6 {Y:List Nat}{p:Oper}{T:TypeId}{q x:Nat}(hp:p.op=.store T (.tmp q) (.tmp x))(hd:p.dst=none)(hg:p.guard=none)(heb:(an.eb q).isSome=true)(hes:(an.es q).isNone=true)(hsb:(an.sb q).isNone=true)(hl:pz an p=false){st s:AS}(h:stepG E Γ an ops Y p st=some s): ∃B,s=⟨dW st.slots x ((st.get x).aB st.ep),B,st.ep+1,st.iss,st.io⟩∧ ∀st2:AS,st2.get q=st.get q→st2.get x=st.get x→st2.boxes=st.boxes→st2.ep=st.ep→st2.iss=st.iss→st2.io=st.io→ stepG E Γ an ops Y p st2=some ⟨dW st2.slots x ((st.get x).aB st.ep),B,st.ep+1,st.iss,st.io⟩:=by
 have hfree:∀st2:AS,st2.get q=st.get q→st2.ep=st.ep→bX E an Y p st2=bX E an Y p st:=by intro st2 h1 h2;simp only[bX,hp,AS.rd,h1,h2]
 unfold stepG at h;cases hf:bX E an Y p st with
 |false=>rw[hf]at h;cases h
 |true=>
  rw[hf]at h;simp only[ah,dH,hg,bT,hp,hd,hl,aD,bp]at h;have hfr:=hf;simp only[bX,hp]at hfr;have hnn:((an.sb q).isNone&&(an.eb q).isNone&&(an.es q).isNone)=false:=by cases he:an.eb q with|none=>rw[he]at heb;cases heb|some _=>simp
  rw[hnn,cH]at hfr;unfold nu at h;split at h;rename_i hrd;rw[hrd]at hfr;simp only[ab,aM]at hfr;rw[hfr.2]at hsb;cases hsb;rename_i sh ep0 r tg e y i off hT hrd;rw[hrd]at hfr;cases r with
  |slot _ _=>simp only[ab,aM]at hfr;rw[hfr.1.1]at hes;cases hes
  |io _=>simp at hfr
  |box b j=>
   split at h;rename_i gg vs st1 htk;have e1:(st.get x)=.val gg vs:=by have:=congrArg Prod.fst htk;exact this
   have e2:st1=⟨dW st.slots x ((st.get x).aB st.ep),st.boxes,st.ep,st.iss,st.io⟩:=by have:=congrArg Prod.snd htk;exact this.symm
   split at h;rename_i hlen;have main:∃B,∀sl:List AV,(⟨sl,st.boxes,st.ep,st.iss,st.io⟩:AS).iV (.box b j) tg e i off vs some=some ⟨sl,B,st.ep+1,st.iss,st.io⟩:=by
    subst e2;simp only[AS.iV,AS.cM,AS.cR,AS.cC]at h⊢;cases hb:(nth st.boxes b).getD none with
    |none=>rw[hb]at h;simp at h
    |some cs=>
     rw[hb]at h;simp only[cA]at h⊢;split at h;rename_i t' e' xs hn;split at h;rename_i he;simp only[dif_pos he];generalize (he▸xs:List e.D)=zs at h⊢;split at h;rename_i ht;simp only[ar ht];cases hi:idx zs i with|none=>rw[hi]at h;simp[aa]at h|some y0=>simp only[hi,aa]at h⊢;split at h;exact⟨_,λsl=>rfl⟩;cases h
     cases h;cases h;rename_i t' i' q0 e' xs hn;split at h;rename_i he;simp only[dif_pos he];generalize (he▸xs:List e.D)=zs at h⊢;split at h;rename_i ht;simp only[ar ht];cases hi:GR zs i' i with|none=>rw[hi]at h;simp[aa]at h|some y0=>simp only[hi,aa]at h⊢;split at h;exact⟨_,λsl=>rfl⟩;cases h
     cases h;cases h;cases h
   obtain⟨B,hB⟩:=main;refine⟨B,?_,λst2 h1 h2 h3 h4 h5 h6=>?_⟩;subst e2;rw[hB]at h;exact(bu h).symm;unfold stepG;rw[hfree st2 h1 h4,hf];have r2:st2.rd (.tmp q)=st.rd (.tmp q):=by simp only[AS.rd,h1,h4]
   have t2:st2.take (.tmp x)=(.val gg vs,⟨dW st2.slots x ((st.get x).aB st.ep),st.boxes,st.ep,st.iss,st.io⟩):=by simp only[AS.take,AS.put,h2,h3,h4,h5,h6,e1]
   simp only[ah,dH,hg,bT,hp,hd,hl,aD,bp,nu,hT,r2,hrd,t2];rw[ar hlen];exact hB _;cases h;cases h
  cases h
theorem Lj {Y:List Nat}{p:Oper}{T:TypeId}{q x:Nat}(hp:p.op=.store T (.tmp q) (.tmp x))(hd:p.dst=none)(hg:p.guard=none){b:Nat}(hes:an.es q=some b)(heb:(an.eb q).isNone=true)(hbx:b≠x)(hsb:(an.sb q).isNone=true)(hl:pz an p=false){st s:AS}(h:stepG E Γ an ops Y p st=some s): ∃B,s=⟨dW (dW st.slots x ((st.get x).aB st.ep)) b B,st.boxes,st.ep+1,st.iss,st.io⟩∧ ∀st2:AS,st2.get q=st.get q→st2.get x=st.get x→nth st2.slots b=nth st.slots b→st2.boxes=st.boxes→st2.ep=st.ep→st2.iss=st.iss→st2.io=st.io→ stepG E Γ an ops Y p st2=some ⟨dW (dW st2.slots x ((st.get x).aB st.ep)) b B,st.boxes,st.ep+1,st.iss,st.io⟩:=by
 have hfree:∀st2:AS,st2.get q=st.get q→st2.ep=st.ep→bX E an Y p st2=bX E an Y p st:=by intro st2 h1 h2;simp only[bX,hp,AS.rd,h1,h2]
 unfold stepG at h;cases hf:bX E an Y p st with
 |false=>rw[hf]at h;cases h
 |true=>
  rw[hf]at h;simp only[ah,dH,hg,bT,hp,hd,hl,aD,bp]at h;have hfr:=hf;simp only[bX,hp]at hfr;have hnn:((an.sb q).isNone&&(an.eb q).isNone&&(an.es q).isNone)=false:=by rw[hes];simp
  rw[hnn,cH]at hfr;unfold nu at h;split at h;rename_i hrd;rw[hrd]at hfr;simp only[ab,aM]at hfr;rw[hfr.2]at hsb;cases hsb;rename_i sh ep0 r tg e y i off hT hrd;rw[hrd]at hfr;cases r with
  |box _ _=>simp only[ab,aM]at hfr;rw[hfr.1.1]at heb;cases heb
  |io _=>simp at hfr
  |slot b' j=>
   simp only[ab,aM]at hfr;have hbb:b'=b:=bu (hfr.1.1.symm.trans hes);subst hbb;split at h;rename_i gg vs st1 htk;have e1:(st.get x)=.val gg vs:=by have:=congrArg Prod.fst htk;exact this
   have e2:st1=⟨dW st.slots x ((st.get x).aB st.ep),st.boxes,st.ep,st.iss,st.io⟩:=by have:=congrArg Prod.snd htk;exact this.symm
   split at h;rename_i hlen;have main:∃B,∀sl:List AV,nth sl b'=nth st.slots b'→(⟨sl,st.boxes,st.ep,st.iss,st.io⟩:AS).iV (.slot b' j) tg e i off vs some=some ⟨dW sl b' B,st.boxes,st.ep+1,st.iss,st.io⟩:=by
    subst e2;have hget:∀sl:List AV,nth sl b'=nth st.slots b'→(⟨sl,st.boxes,st.ep,st.iss,st.io⟩:AS).get b'=st.get b':=λsl hq=>by unfold AS.get;rw[hq]
    have hq0:nth (dW st.slots x ((st.get x).aB st.ep)) b'=nth st.slots b':=by rw[eS,aq (bF hbx)]
    simp only[AS.iV,AS.cM,AS.cR,hget _ hq0]at h;cases hb:st.get b' with
    |tup _=>rw[hb]at h;simp at h
    |val g0 cs=>
     rw[hb]at h;simp only at h;split at h;rename_i t' e' xs hn;split at h;rename_i he;split at h;rename_i ht;cases hi:idx (he▸xs:List e.D) i with|none=>rw[hi]at h;simp[aa]at h|some y0=>simp only[hi,aa]at h;split at h;rename_i x' hx';refine⟨.val g0 (dW cs j (.sl (.own (some t')) e ((he▸xs:List e.D).set i.toNat x'))),λsl hq=>?_⟩;simp only[AS.iV,AS.cM,AS.cR,hget _ hq,hb,hn,dif_pos he,ar ht,hi,aa,hx',AS.put];cases h
     cases h;cases h;rename_i t' i' q0 e' xs hn;split at h;rename_i he;split at h;rename_i ht;cases hi:GR (he▸xs:List e.D) i' i with|none=>rw[hi]at h;simp[aa]at h|some y0=>simp only[hi,aa]at h;split at h;rename_i x' hx';refine⟨.val g0 (dW cs j (.sl (.own (some t')) e ((he▸xs:List e.D).set i.toNat x'))),λsl hq=>?_⟩;simp only[AS.iV,AS.cM,AS.cR,hget _ hq,hb,hn,dif_pos he,ar ht,hi,aa,hx',AS.put];cases h
     cases h;cases h;cases h
   obtain⟨B,hB⟩:=main;refine⟨B,?_,λst2 h1 h2 hnb h3 h4 h5 h6=>?_⟩;subst e2;rw[hB _ (by rw[eS,aq (bF hbx)])]at h;exact(bu h).symm;unfold stepG;rw[hfree st2 h1 h4,hf];have r2:st2.rd (.tmp q)=st.rd (.tmp q):=by simp only[AS.rd,h1,h4]
   have t2:st2.take (.tmp x)=(.val gg vs,⟨dW st2.slots x ((st.get x).aB st.ep),st.boxes,st.ep,st.iss,st.io⟩):=by simp only[AS.take,AS.put,h2,h3,h4,h5,h6,e1]
   simp only[ah,dH,hg,bT,hp,hd,hl,aD,bp,nu,hT,r2,hrd,t2];rw[ar hlen];exact hB _ (by rw[eS,aq (bF hbx)];exact hnb);cases h;cases h
  cases h
theorem N5 {X Y:List Nat}{o p:Oper}{st s1 s2:AS}(ha:GH an o p=true)(h1:stepG E Γ an ops X o st=some s1)(h2:stepG E Γ an ops Y p s1=some s2): ∃t1,stepG E Γ an ops Y p st=some t1∧stepG E Γ an ops X o t1=some s2:=by
 unfold GH at ha;split at ha;rename_i T q x hp hpd hpg;simp only[ab,aA]at ha;obtain⟨⟨⟨heb,hsb⟩,hl⟩,ha⟩:=ha;have hcore:∃d t,o.dst=some d∧o.guard=none∧((o.op=.move (.tmp t)∧an.mv.contains d=false∧an.fm.contains d=true)∨∃i,o.op=.extract (.tmp t) i)∧d≠q∧d≠x∧t≠x∧d≠t∧t≠q:=by split at ha;rename_i t d ho hd hg;simp only[ab,aA,cU]at ha;exact⟨d,t,hd,hg,.inl ⟨ho,ha.1.1.1.1.1.1,ha.1.1.1.1.1.2⟩,ha.1.1.1.1.2,ha.1.1.1.2,ha.1.1.2,ha.2,ha.1.2⟩;rename_i t i d ho hd hg;simp only[ab,aA,cU]at ha;exact⟨d,t,hd,hg,.inr ⟨i,ho⟩,ha.1.1.1.1,ha.1.1.1.2,ha.1.1.2,ha.2,ha.1.2⟩;cases ha
 obtain⟨d,t,hd,hg,ho,hdq,hdx,htx,hdt,htq⟩:=hcore;obtain⟨tv,v,rfl,hrun⟩:=FL hd hg ho hdt h1;have hq:((st.put (some t) tv).put (some d) v).get q=st.get q:=by rw[lK hdq];exact lK htq
 have hx:((st.put (some t) tv).put (some d) v).get x=st.get x:=by rw[lK hdx,lK htx]
 simp only[bU,ab]at heb;rcases heb with⟨heb,hes⟩|hes;obtain⟨B,rfl,hgo⟩:=N6 hp hpd hpg heb hes hsb hl h2;have k1:=hgo st hq.symm hx.symm rfl rfl rfl rfl;refine⟨_,k1,?_⟩;have hg2:(⟨dW st.slots x ((((st.put (some t) tv).put (some d) v).get x).aB ((st.put (some t) tv).put (some d) v).ep),B,((st.put (some t) tv).put (some d) v).ep+1,((st.put (some t) tv).put (some d) v).iss,((st.put (some t) tv).put (some d) v).io⟩:AS).get t=st.get t:=by simp only[AS.get,eS,aq (bF htx)]
 rw[hrun _ hg2];simp only[AS.put,aH,AS.mk.injEq,dY];rw[eF _ (bF htx),eF _ (bF hdx)];cases hb:an.es q with
 |none=>rw[hb]at hes;cases hes
 |some b=>
  rw[hb]at hes;simp only[ab,aA,cU]at hes;obtain⟨⟨⟨heb,hbx⟩,_⟩,hbw⟩:=hes;have hbw:=gm hbw b (by simp);have hbd:b≠d:=λe=>hbw (by simp[hd,e]);have hbt:b≠t:=λe=>hbw (by refine al.2 (.inr ?_);rcases ho with⟨ho,_⟩|⟨i,ho⟩<;>simp[b8,ho,tm,e]);obtain⟨B,rfl,hgo⟩:=Lj hp hpd hpg hb heb hbx hsb hl h2;have hnb:nth st.slots b=nth ((st.put (some t) tv).put (some d) v).slots b:=by simp only[AS.put,eS,aq (bF hbd),aq (bF hbt)]
  have k1:=hgo st hq.symm hx.symm hnb rfl rfl rfl rfl;refine⟨_,k1,?_⟩;have hg2:(⟨dW (dW st.slots x ((((st.put (some t) tv).put (some d) v).get x).aB ((st.put (some t) tv).put (some d) v).ep)) b B,((st.put (some t) tv).put (some d) v).boxes,((st.put (some t) tv).put (some d) v).ep+1,((st.put (some t) tv).put (some d) v).iss,((st.put (some t) tv).put (some d) v).io⟩:AS).get t=st.get t:=by simp only[AS.get,eS,aq (bF htx),aq hbt]
  rw[hrun _ hg2];simp only[AS.put,aH,AS.mk.injEq,dY];rw[eF _ hbt,eF _ hbd,eF _ (bF htx),eF _ (bF hdx)]
 cases ha
theorem C1 {c:AC}{ep:Nat}(h:c.fN=true∨(c.borrow ep none).fN=true):c.borrow ep none=c:=by
 cases c with
 |sl fl e xs=>exfalso;cases fl with|holed _ _ ep=>cases ep<;>simp[AC.borrow,AC.fN]at h|_=>simp[AC.borrow,AC.fN]at h
 |_=>rfl
theorem zw {cs:List AC}{off n ep:Nat}(hfit:off+n≤cs.length)(k:Nat):(bS cs off (aB ep ((cs.drop off).take n)))[k]?=(cs[k]?).map λc=>if off≤k∧k<off+n then c.borrow ep none else c:=by
 have hl:(aB ep ((cs.drop off).take n)).length=n:=by simp[aB];omega
 unfold bS;rw[hl];by_cases h1:k<off;rw[aE,List.getElem?_append_left (by simp;omega),List.getElem?_take_of_lt h1];have:(λc:AC=>if off≤k∧k<off+n then c.borrow ep none else c)=id:=by funext c;rw[aq (by omega)];rfl
 rw[this,Option.map_id];rfl;by_cases h2:k<off+n;rw[List.getElem?_append_left (by simp[hl];omega),List.getElem?_append_right (by simp;omega)];have e:k-(cs.take off).length=k-off:=by simp;omega
 rw[e,aB,List.getElem?_map,List.getElem?_take_of_lt (by omega),List.getElem?_drop,show off+(k-off)=k by omega];congr 1;funext c;rw[ar (by omega)];rw[List.getElem?_append_right (by simp[hl];omega)];have e:k-(cs.take off++aB ep ((cs.drop off).take n)).length=k-(off+n):=by simp[hl];omega
 rw[e,List.getElem?_drop,show off+n+(k-(off+n))=k by omega];have:(λc:AC=>if off≤k∧k<off+n then c.borrow ep none else c)=id:=by funext c;rw[aq (by omega)];rfl
 rw[this,Option.map_id];rfl
theorem vg {cs:List AC}{off n ep o2 n2:Nat}(hfit:off+n≤cs.length)(h:((cs.drop o2).take n2).all AC.fN=true∨(((bS cs off (aB ep ((cs.drop off).take n))).drop o2).take n2).all AC.fN=true): ((bS cs off (aB ep ((cs.drop off).take n))).drop o2).take n2=(cs.drop o2).take n2:=by
 apply List.ext_getElem?;intro k;by_cases hk:k<n2;rw[List.getElem?_take_of_lt hk,List.getElem?_take_of_lt hk,List.getElem?_drop,List.getElem?_drop,zw hfit];cases hc:cs[o2+k]? with|none=>rfl|some c=>simp only[bV];split;rename_i hin;refine congrArg some (C1 ?_);rcases h with h|h;left;refine ay.1 h c (List.mem_of_getElem? (i:=k) ?_);rw[List.getElem?_take_of_lt hk,List.getElem?_drop,hc];right;refine ay.1 h _ (List.mem_of_getElem? (i:=k) ?_);rw[List.getElem?_take_of_lt hk,List.getElem?_drop,zw hfit,hc,bV,ar hin];rfl
 rw[List.getElem?_eq_none (by simp;omega),List.getElem?_eq_none (by simp;omega)]
theorem wg {b ep:Nat}:∀{cs:List AC}{j:Nat},cs.all AC.fN=true→ek ep (.box b) j cs=cs
 |[],_,_=>rfl
 |c::cs,j,h=>by simp only[a6,ab]at h;rw[ek,wg h.2];congr 1;cases c<;>first|rfl|(simp[AC.fN]at h)
theorem zH {o:Oper}(h:qI an o=true):∃T q d,o.op=.load T (.tmp q)∧o.dst=some d∧o.guard=none∧an.mv.contains d=true∧(an.mb d).isSome=true:=by unfold qI at h;split at h;rename_i T q d ho hd hg;simp only[ab]at h;exact⟨T,q,d,ho,hd,hg,h.1,h.2⟩;cases h
theorem yp {o:Oper}(h:yo an o=true):∃T q d,o.op=.load T (.tmp q)∧o.dst=some d∧o.guard=none∧an.mv.contains d=false∧an.fm.contains d=true:=by unfold yo at h;split at h;rename_i T q d ho hd hg;simp only[ab,aA]at h;exact⟨T,q,d,ho,hd,hg,h.1,h.2⟩;cases h
theorem tr {X:List Nat}{o:Oper}{T:TypeId}{q d:Nat}(ht:qI an o=true)(ho:o.op=.load T (.tmp q))(hd:o.dst=some d)(hg:o.guard=none)(hmv:an.mv.contains d=true){st s:AS}:stepG E Γ an ops X o st=some s↔ ∃sh b off cs,eK E.ty T=some sh∧st.rd (.tmp q)=.val false [.ptr b off]∧(nth st.boxes b).getD none=some cs∧off+sh.ct.size≤cs.length∧X.contains b=false∧an.mb d=some b∧(F8 an o=true→sG E T st b off=true)∧ s=(st.cC b (some (bS cs off (aB st.ep ((cs.drop off).take sh.ct.size))))).put (some d) (.val sh.agg ((cs.drop off).take sh.ct.size)):=by
 have key:bX E an X o st=true→∀r,bT E Γ an o st some=some r→∃b off,st.rd (.tmp q)=.val false [.ptr b off]:=by intro hf r hr;simp only[bT,ho,iL]at hr;split at hr;rename_i hp;exact⟨_,_,hp⟩;rename_i hp;simp only[bX,ho,hp,ht,Bool.or_true,ax,eU,dx]at hf;cases hf;cases hr
 unfold stepG;constructor;intro h;cases hf:bX E an X o st with|false=>rw[hf]at h;cases h|true=>rw[hf]at h;simp only[ah,dH,hg]at h;obtain⟨b,off,hp⟩:=key hf s h;simp only[bX,ho,hp,hd,hmv,ax,cH,ab,aA,aM,bU]at hf;simp only[bT,ho,iL,hp]at h;cases hT:eK E.ty T with|none=>rw[hT]at h;cases h|some sh=>rw[hT]at h;simp only at h;cases hb:(nth st.boxes b).getD none with|none=>rw[hb]at h;cases h|some cs=>rw[hb]at h;simp only at h;split at h;rename_i hfit;simp only[hd,hmv,aX]at h;cases h;refine⟨sh,b,off,cs,rfl,hp,hb,hfit,hf.1.1,hf.1.2,λhm=>?_,rfl⟩;rcases hf.2 with g|g;rw[hm]at g;cases g;exact g;cases h
 rintro⟨sh,b,off,cs,hT,hp,hb,hfit,hX,hmb,hfm,rfl⟩;have hf:bX E an X o st=true:=by simp only[bX,ho,hp,hd,hmv,hX,hmb,ax,cH,ab,aA,aM,bU];refine⟨⟨trivial,trivial⟩,?_⟩;cases hm:F8 an o with|false=>exact .inl rfl|true=>exact .inr (hfm hm)
 rw[hf];simp only[ah,dH,hg,bT,ho,iL,hp,hT,hb,ar hfit,hd,hmv,aX]
theorem td {X:List Nat}{o:Oper}{T:TypeId}{q d:Nat}(ho:o.op=.load T (.tmp q))(hd:o.dst=some d)(hg:o.guard=none)(hmv:an.mv.contains d=false)(hfm:an.fm.contains d=true){st s:AS}:stepG E Γ an ops X o st=some s↔ ∃sh b off cs,eK E.ty T=some sh∧st.rd (.tmp q)=.val false [.ptr b off]∧(nth st.boxes b).getD none=some cs∧off+sh.ct.size≤cs.length∧X.contains b=false∧((cs.drop off).take sh.ct.size).all AC.fN=true∧ s=st.put (some d) (.val sh.agg ((cs.drop off).take sh.ct.size)):=by
 have hfb:F8 an o=true:=by simp only[F8,hd,hfm]
 have key:bX E an X o st=true→∀r,bT E Γ an o st some=some r→∃b off,st.rd (.tmp q)=.val false [.ptr b off]:=by intro hf r hr;simp only[bT,ho,iL]at hr;split at hr;rename_i hp;exact⟨_,_,hp⟩;rename_i hp;simp only[bX,ho,hp,hfb,eY,ax,eU,dx]at hf;cases hf;cases hr
 unfold stepG;constructor;intro h;cases hf:bX E an X o st with
 |false=>rw[hf]at h;cases h
 |true=>
  rw[hf]at h;simp only[ah,dH,hg]at h;obtain⟨b,off,hp⟩:=key hf s h;simp only[bX,ho,hp,hd,hmv,hfb,ax,bZ,eY,cH,eB,ab,aA]at hf;simp only[bT,ho,iL,hp]at h;cases hT:eK E.ty T with
  |none=>rw[hT]at h;cases h
  |some sh=>
   rw[hT]at h;simp only at h;cases hb:(nth st.boxes b).getD none with
   |none=>rw[hb]at h;cases h
   |some cs=>
    rw[hb]at h;simp only at h;split at h;rename_i hfit;have hst:((cs.drop off).take sh.ct.size).all AC.fN=true:=by have:=hf.2;unfold sG at this;rw[hT,hb]at this;exact this
    simp only[hd,hmv,aD,bp,wg hst]at h;cases h;exact⟨sh,b,off,cs,rfl,hp,hb,hfit,hf.1,hst,rfl⟩;cases h
 rintro⟨sh,b,off,cs,hT,hp,hb,hfit,hX,hst,rfl⟩;have hf:bX E an X o st=true:=by simp only[bX,ho,hp,hd,hmv,hX,hfb,sG,hT,hb,hst];rfl
 rw[hf];simp only[ah,dH,hg,bT,ho,iL,hp,hT,hb,ar hfit,hd,hmv,aD,bp,wg hst]
theorem Bl {st:AS}{q d:Nat}{v:AV}(h:d≠q):(st.put (some d) v).rd (.tmp q)=st.rd (.tmp q):=by simp only[AS.rd,lK h];rfl
theorem Mq {st:AS}{q b:Nat}{cs:Option (List AC)}:(st.cC b cs).rd (.tmp q)=st.rd (.tmp q):=rfl
theorem Gq {st:AS}{b:Nat}{cs x:List AC}(h:(nth st.boxes b).getD none=some cs):(nth (dW st.boxes b (some x)) b).getD none=some x:=by
 rw[eS,ar rfl];cases hn:nth st.boxes b with
 |none=>rw[hn]at h;cases h
 |some _=>
  have:b<st.boxes.length:=by rw[cf]at hn;exact(List.getElem?_eq_some_iff.1 hn).1
  rw[ar this];rfl
theorem Gr {st:AS}{b b2:Nat}{x:List AC}(h:b≠b2):nth (dW st.boxes b (some x)) b2=nth st.boxes b2:=by rw[eS,aq h]
theorem Oq {X Y:List Nat}{o p:Oper}{st s1 s2:AS}(ha:Hc an o p=true)(h1:stepG E Γ an ops X o st=some s1)(h2:stepG E Γ an ops Y p s1=some s2): ∃t1,stepG E Γ an ops Y p st=some t1∧stepG E Γ an ops X o t1=some s2:=by
 simp only[Hc,ab,bU,aA]at ha;obtain⟨⟨ha,m1⟩,m2⟩:=ha;have m1:=gm m1;have m2:=gm m2;rcases ha with⟨ht,hf⟩|⟨hf,ht⟩;obtain⟨T,q,d,ho,hd,hg,hmv,hmb⟩:=zH ht;obtain⟨T2,q2,d2,hp,hd2,hg2,hmv2,hfm2⟩:=yp hf;have n1:d≠d2:=λe=>m1 d (by simp[hd]) (by simp[hd2,e]);have n2:d≠q2:=λe=>m1 d (by simp[hd]) (by simp[b8,hp,tm,e]);have n3:d2≠q:=λe=>m2 d2 (by simp[hd2]) (by simp[b8,ho,tm,e]);obtain⟨sh,b,off,cs,hT,hr,hb,hfit,hX,hmbe,hfm,rfl⟩:=(tr ht ho hd hg hmv).1 h1;obtain⟨sh2,b2,off2,cs2,hT2,hr2,hb2,hfit2,hX2,hst2,rfl⟩:=(td hp hd2 hg2 hmv2 hfm2).1 h2;rw[Bl n2,Mq]at hr2;have hbx:(nth (dW st.boxes b (some (bS cs off (aB st.ep ((cs.drop off).take sh.ct.size))))) b2).getD none=some cs2:=hb2;have hfin:∃cs0,(nth st.boxes b2).getD none=some cs0∧off2+sh2.ct.size≤cs0.length∧(cs2.drop off2).take sh2.ct.size=(cs0.drop off2).take sh2.ct.size:=by
  by_cases hbb:b=b2;subst hbb;rw[Gq hb]at hbx;cases hbx;have hlen:(bS cs off (aB st.ep ((cs.drop off).take sh.ct.size))).length=cs.length:=by simp only[bS,aB,aj,List.length_map,bh,aZ];omega
  exact⟨cs,hb,by omega,vg hfit (.inr hst2)⟩;rw[Gr hbb]at hbx;exact⟨cs2,hbx,hfit2,rfl⟩
 obtain⟨cs0,hb0,hfit0,he⟩:=hfin;rw[he]at hst2⊢;refine⟨_,(td hp hd2 hg2 hmv2 hfm2).2 ⟨sh2,b2,off2,cs0,hT2,hr2,hb0,hfit0,hX2,hst2,rfl⟩,(tr ht ho hd hg hmv).2 ⟨sh,b,off,cs,hT,by rw[Bl n3];exact hr,hb,hfit,hX,hmbe,λhm=>?_,?_⟩⟩;have:=hfm hm;unfold sG at this⊢;exact this;simp only[AS.put,AS.cC,AS.mk.injEq,dY];exact eF _ n1 _ _;obtain⟨T,q,d,ho,hd,hg,hmv,hfm⟩:=yp hf;obtain⟨T2,q2,d2,hp,hd2,hg2,hmv2,hmb2⟩:=zH ht;have n1:d≠d2:=λe=>m1 d (by simp[hd]) (by simp[hd2,e]);have n2:d≠q2:=λe=>m1 d (by simp[hd]) (by simp[b8,hp,tm,e]);have n3:d2≠q:=λe=>m2 d2 (by simp[hd2]) (by simp[b8,ho,tm,e]);obtain⟨sh,b,off,cs,hT,hr,hb,hfit,hX,hst,rfl⟩:=(td ho hd hg hmv hfm).1 h1;obtain⟨sh2,b2,off2,cs2,hT2,hr2,hb2,hfit2,hX2,hmbe,hfm2,rfl⟩:=(tr ht hp hd2 hg2 hmv2).1 h2;rw[Bl n2]at hr2;refine⟨_,(tr ht hp hd2 hg2 hmv2).2 ⟨sh2,b2,off2,cs2,hT2,hr2,hb2,hfit2,hX2,hmbe,λhm=>hfm2 hm,rfl⟩,?_⟩;have hfin:∃cs0,(nth (dW st.boxes b2 (some (bS cs2 off2 (aB st.ep ((cs2.drop off2).take sh2.ct.size))))) b).getD none=some cs0∧off+sh.ct.size≤cs0.length∧(cs0.drop off).take sh.ct.size=(cs.drop off).take sh.ct.size:=by
  by_cases hbb:b2=b;subst hbb;have hcs:cs2=cs:=bu (hb2.symm.trans hb);subst hcs;have hlen:(bS cs2 off2 (aB st.ep ((cs2.drop off2).take sh2.ct.size))).length=cs2.length:=by simp only[bS,aB,aj,List.length_map,bh,aZ];omega
  exact⟨_,Gq hb,by omega,vg hfit2 (.inl hst)⟩;exact⟨cs,by rw[Gr hbb];exact hb,hfit,rfl⟩
 obtain⟨cs0,hb0,hfit0,he⟩:=hfin;refine(td ho hd hg hmv hfm).2 ⟨sh,b,off,cs0,hT,by rw[Bl n3,Mq];exact hr,hb0,hfit0,hX,by rw[he];exact hst,?_⟩;rw[he];simp only[AS.put,AS.cC,AS.mk.injEq,dY];exact eF _ n1 _ _
theorem zG {X:List Nat}{o:Oper}{T:TypeId}{q d:Nat}(ht:sW an o=true)(ho:o.op=.load T (.tmp q))(hd:o.dst=some d)(hg:o.guard=none)(hmv:an.mv.contains d=true)(hmb:an.mb d=none){st s:AS}:stepG E Γ an ops X o st=some s↔ ∃(g:Bool)(e:CT)(offs:List (Nat×Nat))(b j t ep0:Nat)(x:e.D)(i:Int)(cs:List AC)(ys:List e.D)(y:e.D),eK E.ty T=some ⟨g,e,offs⟩∧st.rd (.tmp q)=.val false [.elt (.loc ep0 (some (.box b j,t))) e x i 0]∧(nth st.boxes b).getD none=some cs∧nth cs j=some (.sl (.own (some t)) e ys)∧idx ys i=some y∧ X.contains b=false∧an.eb q=some b∧F8 an o=false∧s=(vm st b j t e i cs ys).put (some d) (.val g (cellsOf e (.own none) y)):=by rw[←zF ht ho hd hmv hmb];unfold stepG;cases bX E an X o st with|false=>simp|true=>simp only[ah,dH,hg,bT,ho,true_and]
theorem Kf {o:Oper}(h:ql an o=true):∃T q d,o.op=.load T (.tmp q)∧o.dst=some d∧o.guard=none∧an.mv.contains d=false∧F8 an o=false:=by unfold ql at h;split at h;rename_i T q d ho hd hg;simp only[ab,aA]at h;exact⟨T,q,d,ho,hd,hg,h.1.1,by simp only[F8,hd];exact h.1.2⟩;cases h
theorem yT {X:List Nat}{o:Oper}{T:TypeId}{q d:Nat}(hpl:ql an o=true)(ho:o.op=.load T (.tmp q))(hd:o.dst=some d)(hg:o.guard=none)(hmv:an.mv.contains d=false)(hfm:F8 an o=false){st s:AS}:stepG E Γ an ops X o st=some s↔ ∃sh b off cs,eK E.ty T=some sh∧st.rd (.tmp q)=.val false [.ptr b off]∧(nth st.boxes b).getD none=some cs∧off+sh.ct.size≤cs.length∧X.contains b=false∧ s=st.put (some d) (.val sh.agg (ek st.ep (.box b) off ((cs.drop off).take sh.ct.size))):=by
 unfold stepG;constructor;intro h;cases hf:bX E an X o st with|false=>rw[hf]at h;cases h|true=>rw[hf]at h;simp only[ah,dH,hg,bT,ho]at h;unfold iL at h;split at h;rename_i sh b off hT hp;simp only[bX,ho,hp,hd,hmv,hfm,bZ,eY,eB,aA]at hf;split at h;rename_i cs hb;split at h;rename_i hfit;simp only[hd,hmv,aD,bp]at h;cases h;exact⟨sh,b,off,cs,hT,hp,hb,hfit,hf,rfl⟩;cases h;cases h;rename_i hp;simp only[bX,ho,hp,hpl,ax,eU,dx]at hf;cases hf;cases h
 rintro⟨sh,b,off,cs,hT,hp,hb,hfit,hX,rfl⟩;have hf:bX E an X o st=true:=by simp only[bX,ho,hp,hd,hmv,hX,hfm];rfl
 rw[hf];simp only[ah,dH,hg,bT,ho,iL,hp,hT,hb,ar hfit,hd,hmv,aD,bp]
theorem xD {ep b:Nat}:∀(cs:List AC)(p k:Nat)(c':AC),(∀c,cs[k]?=some c→∀r,c'.borrow ep (some r)=c.borrow ep (some r))→ek ep (.box b) p (cs.set k c')=ek ep (.box b) p cs
 |[],_,_,_,_=>rfl
 |c::cs,p,0,c',h=>by simp only[List.set_cons_zero,ek,h c rfl]
 |c::cs,p,k+1,c',h=>by simp only[List.set_cons_succ,ek];rw[xD cs (p+1) k c' (λc hc=>h c (by simpa using hc))]
theorem Dl {ep b j t off n:Nat}{e:CT}{i:Int}{ys:List e.D}{cs:List AC}(hj:nth cs j=some (.sl (.own (some t)) e ys)): ek ep (.box b) off (((dW cs j (.sl (.holed (some t) i (some ep)) e ys)).drop off).take n)=ek ep (.box b) off ((cs.drop off).take n):=by rw[cS,List.drop_set];split;rfl;rename_i hlt;rw[List.take_set];refine xD _ _ _ _ λc hc r=>?_;by_cases hn:j-off<n;rw[List.getElem?_take_of_lt hn,List.getElem?_drop,show off+(j-off)=j by omega,←cf,hj]at hc;cases hc;rfl;rw[List.getElem?_eq_none (by simp;omega)]at hc;cases hc
theorem NZ {X Y:List Nat}{o p:Oper}{st s1 s2:AS}(ha:Gw an o p=true)(h1:stepG E Γ an ops X o st=some s1)(h2:stepG E Γ an ops Y p s1=some s2): ∃t1,stepG E Γ an ops Y p st=some t1∧stepG E Γ an ops X o t1=some s2:=by
 simp only[Gw,ab,aA]at ha;obtain⟨⟨⟨hpl,ht⟩,m1⟩,m2⟩:=ha;have m1:=gm m1;have m2:=gm m2;obtain⟨T,q,d,ho,hd,hg,hmv,hfm⟩:=Kf hpl;obtain⟨T2,q2,d2,hp,hd2,hg2,hmv2,hmb2⟩:=Bx ht;have n1:d≠d2:=λe=>m1 d (by simp[hd]) (by simp[hd2,e]);have n2:d≠q2:=λe=>m1 d (by simp[hd]) (by simp[b8,hp,tm,e]);have n3:d2≠q:=λe=>m2 d2 (by simp[hd2]) (by simp[b8,ho,tm,e]);obtain⟨sh,b,off,cs,hT,hr,hb,hfit,hX,rfl⟩:=(yT hpl ho hd hg hmv hfm).1 h1;obtain⟨g,e,offs,b2,j,t,ep0,x,i,cs2,ys,y,hT2,hr2,hb2,hj,hi,hX2,heb,hfm2,rfl⟩:=(zG ht hp hd2 hg2 hmv2 hmb2).1 h2;rw[Bl n2]at hr2;have hb2':(nth st.boxes b2).getD none=some cs2:=hb2;refine⟨_,(zG ht hp hd2 hg2 hmv2 hmb2).2 ⟨g,e,offs,b2,j,t,ep0,x,i,cs2,ys,y,hT2,hr2,hb2',hj,hi,hX2,heb,hfm2,rfl⟩,?_⟩;have hfin:∃cs0,(nth (dW st.boxes b2 (some (dW cs2 j (.sl (.holed (some t) i (some st.ep)) e ys)))) b).getD none=some cs0∧off+sh.ct.size≤cs0.length∧ek st.ep (.box b) off ((cs0.drop off).take sh.ct.size)=ek st.ep (.box b) off ((cs.drop off).take sh.ct.size):=by by_cases hbb:b2=b;subst hbb;have hcs:cs2=cs:=bu (hb2'.symm.trans hb);subst hcs;exact⟨_,Gq hb,by rw[cS,aG];exact hfit,Dl hj⟩;exact⟨cs,by rw[Gr hbb];exact hb,hfit,rfl⟩
 obtain⟨cs0,hb0,hfit0,he⟩:=hfin;refine(yT hpl ho hd hg hmv hfm).2 ⟨sh,b,off,cs0,hT,by rw[Bl n3];exact hr,hb0,hfit0,hX,?_⟩;show _=((vm st b2 j t e i cs2 ys).put (some d2) _).put (some d) (.val sh.agg (ek st.ep (.box b) off ((cs0.drop off).take sh.ct.size)));rw[he];simp only[AS.put,vm,AS.cC,AS.mk.injEq,dY];exact eF _ n1 _ _
def Ao (E:Env)(Γ:cG)(an:An)(ops:List Oper)(X:Nat→List Nat):List Nat→AS→Option AS
 |[],st=>some st
 |i::r,st=>match nth ops i with
  |some o=>(stepG E Γ an ops (X i) o st).bind (Ao E Γ an ops X r)
  |none=>none
theorem zj (hΓ:∀f,(Γ f).io=false∧((Γ f).bx=true→(Γ f).cur=true)∧(Γ f).pr=false){X:Nat→List Nat}{i:Nat}{oi:Oper}(hi:nth ops i=some oi):∀(pre post:List Nat)(st r:AS),(∀j∈pre,∀oj,nth ops j=some oj→xA an ops (X j) (X i) oj oi=true)→
 Ao E Γ an ops X (pre++i::post) st=some r→Ao E Γ an ops X (i::(pre++post)) st=some r
 |[],post,st,r,_,h=>h
 |j::pre,post,st,r,ha,h=>by
  simp only[List.cons_append,Ao]at h;cases hj:nth ops j with
  |none=>rw[hj]at h;cases h
  |some oj=>
   rw[hj]at h;simp only at h;obtain⟨s1,h1,h2⟩:=au.1 h;have h3:=zj hΓ hi pre post s1 r (λk hk=>ha k (by simp[hk])) h2;simp only[Ao,hi]at h3;obtain⟨s2,h4,h5⟩:=au.1 h3;have hap:=ha j (by simp) oj hj;obtain⟨t1,k1,k2⟩:∃t1,stepG E Γ an ops (X i) oi st=some t1∧stepG E Γ an ops (X j) oj t1=some s2:=by cases hx:Mi an oj oi with|false=>rw[xA,hx,cH]at hap;exact HK hΓ hap h1 h4|true=>simp only[Mi,bU]at hx;rcases hx with((hx|hx)|hx)|hx;exact Lq hx h1 h4;exact N5 hx h1 h4;exact Oq hx h1 h4;exact NZ hx h1 h4
   simp only[Ao,hi,k1,cA,List.cons_append,hj,k2];exact h5
end Go.Dn
