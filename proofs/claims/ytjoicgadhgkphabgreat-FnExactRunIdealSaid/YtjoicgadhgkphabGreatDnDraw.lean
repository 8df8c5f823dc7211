import Derived.Test.YtjoicgadhgkphabGreatDnUpd
/- Operations that are apart may change places. -/
namespace Go.Dn
variable {E:Env} {Γ:bL} {an:An} {ops:List Oper}
def stepG (E:Env)(Γ:bL)(an:An)(ops:List Oper)(X:List Nat)(o:Oper)(st:AS):Option AS:=
 bif cj E an X o st then dZ E Γ an ops o st some else none
structure Fi (an:An) (ops:List Oper) (X:List Nat) (o:Oper) (st st2:AS):Prop where
 base:ei an X o st st2
 gd:∀t∈vR an ops o,st2.get t=st.get t
theorem Jq {st:AS}{d:Nat}{b:Bool}(h:st.get d=.val false [.bool b]):st.put (some d) (.one (.bool b))=st:=by cases st with|mk slots boxes ep iss io=>simp only[AS.put,AS.mk.injEq,eG];rw[dg];apply List.ext_getElem?;intro i;rw[List.getElem?_set];split;rename_i hd;subst hd;simp only[AS.get,cy]at h;split;rename_i hlt;rw[List.getElem?_eq_getElem hlt]at h⊢;simp only[dH]at h;rw[h];rename_i hge;rw[List.getElem?_eq_none (fV hge)];rfl
theorem Gq {T:TypeId}{st st2:AS}{s off:Nat}(h:nth st2.boxes s=nth st.boxes s):vQ E T st2 s off=vQ E T st s off:=by unfold vQ;rw[h]
theorem xI {X:List Nat}{o:Oper}{st st2:AS}(ha:ei an X o st st2):cj E an X o st2=cj E an X o st:=by
 unfold cj;split;rename_i ho;rw[ha.rd (λt ht=>by simpa[cq,ho]using ht)];rename_i T p ho;rw[ha.rd (λt ht=>by simp[cq,ho,ht]),ha.ep];rename_i ho;rw[ha.rd (λt ht=>by simp[cq,ho,ht]),ha.ep];rename_i f args ts ho;have hcur:nq an X (OX an o) st2 args.toList=nq an X (OX an o) st args.toList:=by
  have hl:∀x∈args.toList,∀t∈tm x,t∈cq o:=by intro x hx t ht;simp only[cq,ho,aq,Ee,List.mem_flatMap];exact .inr ⟨x,hx,ht⟩
  generalize args.toList=l at hl;cases l with
  |nil=>rfl
  |cons x xs=>
   have hself:xs.all (yU (OX an o) st2)=xs.all (yU (OX an o) st):=by
    rw[bK];simp only[a7];have e:∀y∈xs,yU (OX an o) st2 y=yU (OX an o) st y:=by intro y hy;cases y with|tmp t=>have hg:=ha.get t (hl (.tmp t) (by simp[hy]) t (by simp[tm]));simp only[yU,hg]|const v=>rfl|func v=>rfl|global v=>rfl
    exact⟨λg y hy=>by rw[←e y hy];exact g y hy,λg y hy=>by rw[e y hy];exact g y hy⟩
   have hr:=ha.rd (hl x (by simp));cases x with
   |tmp q=>
    simp only[nq,hr];generalize st.rd (.tmp q)=v;unfold Pj;rw[hself];split;rename_i s off;cases hX:X.contains s with|true=>simp|false=>rw[ha.box s hX]
    rfl
   |const v=>simp only[nq,hr]
   |func v=>simp only[nq,hr]
   |global v=>simp only[nq,hr]
 rw[hcur];congr 1;rw[bK];simp only[a7];constructor;intro hx x hm;have:=hx x hm;rwa[ha.rd (λt ht=>by simp only[cq,ho,aq,Ee,List.mem_flatMap];exact .inr ⟨x,hm,ht⟩),ha.ep]at this;intro hx x hm;rw[ha.rd (λt ht=>by simp only[cq,ho,aq,Ee,List.mem_flatMap];exact .inr ⟨x,hm,ht⟩),ha.ep];exact hx x hm;rename_i ho;rw[ha.rd (λt ht=>by simpa[cq,ho]using ht),ha.ep];split;rename_i s off _;cases hX:X.contains s with|true=>rfl|false=>rw[Gq (ha.box s hX)]
 rfl;rfl;rename_i ho;rw[ha.rd (λt ht=>by simp only[cq,ho,aq];exact .inl ht)];rename_i ho;rw[ha.get _ (by simp[cq,ho])];rfl
theorem AG (hΓ:∀f,(Γ f).io=false∧((Γ f).bx=true→(Γ f).cur=true)∧(Γ f).pr=false){X:List Nat}{o:Oper}{st st':AS}(hm:jq an o=true)(h:stepG E Γ an ops X o st=some st'): ∃u:zq,u.xy an o∧st'=u.apply st∧∀st2,Fi an ops X o st st2→stepG E Γ an ops X o st2=some (u.apply st2):=by
 unfold stepG at h;cases hf:cj E an X o st with
 |false=>rw[hf]at h;cases h
 |true=>
  rw[hf]at h;simp only[ae]at h;unfold dZ at h;split at h;rename_i hg;obtain⟨u,h1,h2,h3⟩:=Dr (X:=X) hΓ hm hf h;refine⟨u,h1,h2,λst2 ha=>?_⟩;unfold stepG;rw[xI ha.base,hf];simp only[ae,dZ,hg];exact h3 st2 ha.base;rename_i j want hg;split at h;rename_i d hd;have hin:d∈vR an ops o:=by simp[vR,hg,hd]
  split at h;rename_i b hb;have hgo:(if(b==want)=true then bX E Γ an o st some else some (st.put o.dst (.one .un)))=some st':=by cases b<;>simpa only[ae,af,Jq hb]using h
  have h2g:∀st2,Fi an ops X o st st2→stepG E Γ an ops X o st2=(if(b==want)=true then bX E Γ an o st2 some else some (st2.put o.dst (.one .un))):=by
   intro st2 ha;have hb2:st2.get d=.val false [.bool b]:=by rw[ha.gd d hin];exact hb
   unfold stepG;rw[xI ha.base,hf];simp only[ae,dZ,hg,hd,hb2];cases b<;>simp only[ae,af,Jq hb2]
  split at hgo;rename_i hw;obtain⟨u,h1,h2,h3⟩:=Dr (X:=X) hΓ hm hf hgo;exact⟨u,h1,h2,λst2 ha=>by rw[h2g st2 ha,az hw];exact h3 st2 ha.base⟩;rename_i hw;cases hgo;exact⟨vm o (.one .un),ud _,by rw[mM],λst2 ha=>by rw[h2g st2 ha,ar hw,mM]⟩;rename_i hb;cases h;refine⟨vm o (.one .un),ud _,by rw[mM],λst2 ha=>?_⟩;have hb2:st2.get d=.val false [.un]:=by rw[ha.gd d hin];exact hb
  unfold stepG;rw[xI ha.base,hf,mM];simp only[ae,dZ,hg,hd,hb2];cases h;cases h
theorem eZ {α:Type}(l:List α){i j:Nat}(h:i≠j)(v w:α):eC (eC l i v) j w=eC (eC l j w) i v:=by rw[dg,dg,dg,dg,List.set_comm _ _ h]
theorem Lu (l:List AV)(a:List (Nat×AV)){i:Nat}(v:AV)(h:∀x∈a,x.1≠i):fR (eC l i v) a=eC (fR l a) i v:=by induction a generalizing l with|nil=>rfl|cons x a ih=>simp only[fR];rw[eZ _ (bI (h x (by simp))),ih _ (λy hy=>h y (by simp[hy]))]
theorem Jo (l:List AV)(a b:List (Nat×AV))(h:∀x∈a,∀y∈b,x.1≠y.1):fR (fR l a) b=fR (fR l b) a:=by induction b generalizing l with|nil=>rfl|cons y b ih=>simp only[fR];rw[←Lu l a y.2 (λx hx=>h x hx y (by simp)),ih _ (λx hx z hz=>h x hx z (by simp[hz]))]
theorem D3 (l:List AV)(a:List (Nat×AV)){t:Nat}(h:∀x∈a,x.1≠t):nth (fR l a) t=nth l t:=by induction a generalizing l with|nil=>rfl|cons x a ih=>rw[fR,ih _ (λy hy=>h y (by simp[hy])),fF,ar (h x (by simp))]
theorem hH {a b:List Nat}(h:meets a b=false):∀x∈a,x∉b:=by intro x hx hb;unfold meets at h;rw[List.any_eq_false]at h;exact h x hx (by simpa using hb)
theorem zq.Tv {u:zq}{o p:Oper}{Y:List Nat}{st:AS}(hw:u.xy an o)(h1:∀x∈writes an o,x∉cq p++vR an ops p++writes an p)(h2:∀d∈wy an o,Y.contains d=true)(h3:∀d∈wy an o,p.dst≠some d): Fi an ops Y p (u.apply st) st∧Fi an ops Y p st (u.apply st):=by
 have hget:∀t,t∈cq p++vR an ops p++writes an p→(u.apply st).get t=st.get t:=by intro t ht;unfold AS.get;have:nth (u.apply st).slots t=nth st.slots t:=D3 _ _ (λx hx he=>h1 _ (hw.slots x hx) (by rw[he];exact ht));rw[this]
 have hdst:∀d,p.dst=some d→nth (u.apply st).iss d=nth st.iss d∧nth (u.apply st).boxes d=nth st.boxes d:=by
  intro d hd;have hd':d∈cq p++vR an ops p++writes an p:=by simp[writes,hd]
  have hne:o.dst≠some d:=λhe=>h1 d (by simp[writes,he]) hd';constructor;unfold zq.apply;cases hi:u.iss with|none=>rfl|some k=>simp only;rw[fF,ar];rintro rfl;exact hne (hw.iss _ hi)
  unfold zq.apply;cases hi:u.box with|none=>rfl|some k=>simp only;rw[fF,ar];intro he;exact h3 _ (hw.box k hi) (by rw[he];exact hd)
 have hbox:∀s,Y.contains s=false→nth (u.apply st).boxes s=nth st.boxes s:=by intro s hs;unfold zq.apply;cases hi:u.box with|none=>rfl|some k=>simp only;rw[fF,ar];rintro rfl;have:=h2 k.1 (hw.box k hi);rw[this]at hs;cases hs
 have hlen:(u.apply st).slots.length=st.slots.length:=C8 _ _;exact⟨⟨⟨hlen.symm,λt ht=>(hget t (by simp[ht])).symm,rfl,λd hd=>⟨((hdst d hd).1).symm,((hdst d hd).2).symm⟩,λs hs=>(hbox s hs).symm,λt ht=>(hget t (by simp[vR,ht])).symm⟩,λt ht=>(hget t (by simp[ht])).symm⟩,⟨⟨hlen,λt ht=>hget t (by simp[ht]),rfl,hdst,hbox,λt ht=>hget t (by simp[vR,ht])⟩,λt ht=>hget t (by simp[ht])⟩⟩
theorem Kf {u v:zq}{o p:Oper}{st:AS}(hu:u.xy an o)(hv:v.xy an p)(h:∀x∈writes an o,x∉writes an p)(hb:∀x∈wy an o,x∉wy an p):v.apply (u.apply st)=u.apply (v.apply st):=by
 have hdd:∀a b,o.dst=some a→p.dst=some b→a≠b:=λa b ha hb he=>h a (by simp[writes,ha]) (by simp[writes,hb,he]);have hs:=Jo st.slots u.slots v.slots (λx hx y hy he=>h _ (hu.slots x hx) (by rw[he];exact hv.slots y hy));simp only[zq.apply,AS.mk.injEq,true_and,eG];refine⟨hs,?_,?_⟩;cases hub:u.box with|none=>cases v.box<;>rfl|some k=>cases hvb:v.box with|none=>rfl|some l=>exact eZ _ (λhe=>hb _ (hu.box k hub) (by rw[he];exact hv.box l hvb)) _ _
 cases hui:u.iss with|none=>cases v.iss<;>rfl|some k=>cases hvi:v.iss with|none=>rfl|some l=>exact eZ _ (hdd _ _ (hu.iss k hui) (hv.iss l hvi)) _ _
theorem LI (hΓ:∀f,(Γ f).io=false∧((Γ f).bx=true→(Γ f).cur=true)∧(Γ f).pr=false){X Y:List Nat}{o p:Oper}{st s1 s2:AS}(ha:Kd an ops X Y o p=true)(h1:stepG E Γ an ops X o st=some s1)(h2:stepG E Γ an ops Y p s1=some s2): ∃t1,stepG E Γ an ops Y p st=some t1∧stepG E Γ an ops X o t1=some s2:=by
 simp only[Kd,ai,aJ,a7]at ha;obtain⟨⟨⟨⟨⟨⟨⟨mo,mp⟩,w1⟩,w2⟩,b1⟩,b2⟩,b3⟩,b4⟩:=ha;have w1:=hH w1;have w2:=hH w2;have b3:=hH b3;have b4:=hH b4;obtain⟨u,hu,rfl,hu2⟩:=AG hΓ mo h1;obtain⟨v,hv,rfl,hv2⟩:=AG hΓ mp h2;have ag1:=zq.Tv (ops:=ops) (p:=p) (Y:=Y) (st:=st) hu w1 b1 (λd hd he=>b3 d hd (by simp[he]));have hww:∀x∈writes an p,x∉cq o++vR an ops o++writes an o:=by intro x hx hm;rcases aq.1 hm with hm|hm;exact w2 x hx hm;exact w1 x hm (by simp[hx])
 have ag2:=zq.Tv (ops:=ops) (p:=o) (Y:=X) (st:=st) hv hww b2 (λd hd he=>b4 d hd (by simp[he]));refine⟨v.apply st,hv2 st ag1.1,?_⟩;rw[hu2 _ ag2.2,Kf hu hv (λx hx hm=>w1 x hx (by simp[hm])) (λx hx hm=>b3 x hx (by simp[hm]))]
theorem yv {st:AS}{t:Nat}{v w:AV}(h:st.get t=v)(hv:v≠ .bot):(st.put (some t) w).get t=w:=by
 unfold AS.get at h;cases hn:nth st.slots t with
 |none=>rw[hn]at h;exact absurd h.symm hv
 |some q=>
  have hl:t<st.slots.length:=by rw[cy]at hn;exact(List.getElem?_eq_some_iff.1 hn).1
  unfold AS.get AS.put;simp only[cy,dg];rw[List.getElem?_set_self hl];rfl
theorem nO {st:AS}{t d:Nat}{w:AV}(h:d≠t):(st.put (some d) w).get t=st.get t:=by unfold AS.get AS.put;simp only[fF,ar h]
theorem ui {X:List Nat}{o:Oper}{st s:AS}{t i d:Nat}(ho:o.op=.extract (.tmp t) i)(hd:o.dst=some d)(hg:o.guard=none):stepG E Γ an ops X o st=some s↔ ∃vs g cs,st.get t=.tup vs∧nth vs i=some (g,cs)∧(cs.all AC.dV||an.mv.contains d)=true∧s=(st.put (some t) (.tup (eC vs i (g,aH 0 cs)))).put (some d) (.val g cs):=by
 unfold stepG;simp only[cj,ho,hd];constructor;intro h;cases hv:st.get t with|val g cs=>simp only[hv,ae,dZ,hg,bX,ho,gZ]at h;cases h|tup vs=>simp only[hv]at h;cases hn:nth vs i with|none=>simp only[hn,ae,dZ,hg,bX,ho,gZ,hv]at h;cases h|some x=>obtain⟨g,cs⟩:=x;simp only[hn]at h;cases hf:(cs.all AC.dV||an.mv.contains d)with|false=>rw[hf]at h;cases h|true=>rw[hf]at h;simp only[ae,dZ,hg,bX,ho,gZ,hv,hn,hd]at h;cases h;exact⟨vs,g,cs,rfl,hn,hf,rfl⟩
 rintro⟨vs,g,cs,hv,hn,hf,rfl⟩;simp only[hv,hn,hf,ae,dZ,hg,bX,ho,gZ,hd]
theorem OA {α:Type}(l:List α)(i:Nat)(v w:α):eC (eC l i v) i w=eC l i w:=by rw[dg,dg,dg,c7]
theorem PE {X Y:List Nat}{o p:Oper}{st s1 s2:AS}(ha:KE o p=true)(h1:stepG E Γ an ops X o st=some s1)(h2:stepG E Γ an ops Y p s1=some s2): ∃t1,stepG E Γ an ops Y p st=some t1∧stepG E Γ an ops X o t1=some s2:=by
 unfold KE at ha;split at ha;rename_i t i t' j d d' ho hp hd hd' hg hg';simp only[ai,aS,aJ,cW,ne_eq]at ha;obtain⟨⟨⟨⟨rfl,hij⟩,hdd⟩,hdt⟩,hdt'⟩:=ha;obtain⟨vs,g,cs,hv,hn,hf,rfl⟩:=(ui ho hd hg).1 h1;obtain⟨vs2,g2,cs2,hv2,hn2,hf2,rfl⟩:=(ui hp hd' hg').1 h2;have hq:((st.put (some t) (.tup (eC vs i (g,aH 0 cs)))).put (some d) (.val g cs)).get t=.tup (eC vs i (g,aH 0 cs)):=by rw[nO hdt,yv hv (by simp)]
 rw[hq]at hv2;cases hv2;rw[fF,ar hij]at hn2;refine⟨_,(ui hp hd' hg').2 ⟨vs,g2,cs2,hv,hn2,hf2,rfl⟩,(ui ho hd hg).2 ⟨eC vs j (g2,aH 0 cs2),g,cs,?_,?_,hf,?_⟩⟩;rw[nO hdt',yv hv (by simp)];rw[fF,ar (bI hij)];exact hn;have e:=eZ vs hij (g,aH 0 cs) (g2,aH 0 cs2);have a:∀(A B:AV)(q:Nat)(v:AV),q≠t→eC (eC (eC st.slots t A) q v) t B=eC (eC st.slots t B) q v:=λA B q v hq=>by rw[eZ _ hq,OA]
 simp only[AS.put,AS.mk.injEq,eG];rw[a _ _ _ _ hdt,a _ _ _ _ hdt',e,eZ _ hdd];cases ha
theorem MY (s:AS)(t:Nat):s.put (some t) (s.get t)=s:=by cases s with|mk slots boxes ep iss io=>simp only[AS.put,AS.mk.injEq,eG];rw[dg];apply List.ext_getElem?;intro i;rw[List.getElem?_set];split;rename_i hd;subst hd;simp only[AS.get,cy];split;rename_i hlt;rw[List.getElem?_eq_getElem hlt];rfl;rename_i hge;rw[List.getElem?_eq_none (fV hge)];rfl
theorem Jv {X:List Nat}{o:Oper}{st s:AS}{d t:Nat}(hd:o.dst=some d)(hg:o.guard=none)(ho:(o.op=.move (.tmp t)∧an.mv.contains d=false∧an.fm.contains d=true)∨∃i,o.op=.extract (.tmp t) i)(_hdt:d≠t)(h:stepG E Γ an ops X o st=some s): ∃tv v,s=(st.put (some t) tv).put (some d) v∧∀st2:AS,st2.get t=st.get t→stepG E Γ an ops X o st2=some ((st2.put (some t) tv).put (some d) v):=by
 rcases ho with⟨ho,hmv,hfm⟩|⟨i,ho⟩;have hrd:∀st2:AS,st2.get t=st.get t→(st.rd (.tmp t)).gE=true→st2.rd (.tmp t)=st.get t:=by
  intro st2 hq hs;simp only[AS.rd,hq]at hs⊢;cases hv:st.get t with
  |tup vs=>rw[hv]at hs;simp[AV.borrow,AV.gE]at hs
  |val g cs=>
   rw[hv]at hs;simp only[AV.borrow,AV.gE]at hs⊢;congr 1;have key:∀(cs:List AC)(j:Nat),(eL st.ep (λj=>fT.slot t j) j cs).all AC.gE=true→eL st2.ep (λj=>fT.slot t j) j cs=cs:=by
    intro cs;induction cs with
    |nil=>intro j _;rfl
    |cons c cs ih=>
     intro j h;simp only[eL,bg,ai]at h⊢;rw[ih (j+1) h.2];congr 1;cases c with
     |sl fl e xs=>cases fl with|holed _ _ ep=>cases ep<;>simp[AC.borrow,AC.gE]at h|_=>simp[AC.borrow,AC.gE]at h
     |_=>rfl
   exact key cs 0 hs
 unfold stepG at h;have hst:(st.rd (.tmp t)).gE=true:=by cases hs:(st.rd (.tmp t)).gE with|true=>rfl|false=>simp only[cj,ho,J5,hd,hfm,hs]at h;cases h
 refine⟨st.get t,st.get t,?_,λst2 hq=>?_⟩;simp only[cj,ho,J5,hd,hfm,hst,Bool.or_true,ae,dZ,hg,bX,uw,hmv,aK,bj]at h;cases h;rw[hrd st rfl hst];congr 1;exact(MY st t).symm;unfold stepG;have e1:=hrd st2 hq hst;have hst2:(st2.rd (.tmp t)).gE=true:=by rw[e1,←hrd st rfl hst];exact hst
 simp only[cj,ho,J5,hd,hfm,hst2,Bool.or_true,ae,dZ,hg,bX,uw,hmv,aK,bj];rw[e1,←hq,MY];obtain⟨vs,g,cs,hv,hn,hf,rfl⟩:=(ui ho hd hg).1 h;refine⟨_,_,rfl,λst2 hq=>(ui ho hd hg).2 ⟨vs,g,cs,by rw[hq,hv],hn,hf,rfl⟩⟩
theorem Sl {Y:List Nat}{p:Oper}{T:TypeId}{q x:Nat}(hp:p.op=.store T (.tmp q) (.tmp x))(hd:p.dst=none)(hg:p.guard=none)(heb:(an.eb q).isSome=true)(hes:(an.es q).isNone=true)(hsb:(an.sb q).isNone=true)(hl:sA an p=false){st s:AS}(h:stepG E Γ an ops Y p st=some s): ∃B,s=⟨eC st.slots x ((st.get x).aH st.ep),B,st.ep+1,st.iss,st.io⟩∧ ∀st2:AS,st2.get q=st.get q→st2.get x=st.get x→st2.boxes=st.boxes→st2.ep=st.ep→st2.iss=st.iss→st2.io=st.io→ stepG E Γ an ops Y p st2=some ⟨eC st2.slots x ((st.get x).aH st.ep),B,st.ep+1,st.iss,st.io⟩:=by
 have hfree:∀st2:AS,st2.get q=st.get q→st2.ep=st.ep→cj E an Y p st2=cj E an Y p st:=by intro st2 h1 h2;simp only[cj,hp,AS.rd,h1,h2]
 unfold stepG at h;cases hf:cj E an Y p st with
 |false=>rw[hf]at h;cases h
 |true=>
  rw[hf]at h;simp only[ae,dZ,hg,bX,hp,hd,hl,aK,bj]at h;have hfr:=hf;simp only[cj,hp]at hfr;have hnn:((an.sb q).isNone&&(an.eb q).isNone&&(an.es q).isNone)=false:=by cases he:an.eb q with|none=>rw[he]at heb;cases heb|some _=>simp
  rw[hnn,cZ]at hfr;unfold pG at h;split at h;rename_i hrd;rw[hrd]at hfr;simp only[ai,aS]at hfr;rw[hfr.2]at hsb;cases hsb;rename_i sh ep0 r tg e y i off hT hrd;rw[hrd]at hfr;cases r with
  |slot _ _=>simp only[ai,aS]at hfr;rw[hfr.1.1]at hes;cases hes
  |io _=>simp at hfr
  |box b j=>
   split at h;rename_i gg vs st1 htk;have e1:(st.get x)=.val gg vs:=by have:=congrArg Prod.fst htk;exact this
   have e2:st1=⟨eC st.slots x ((st.get x).aH st.ep),st.boxes,st.ep,st.iss,st.io⟩:=by have:=congrArg Prod.snd htk;exact this.symm
   split at h;rename_i hlen;have main:∃B,∀sl:List AV,(⟨sl,st.boxes,st.ep,st.iss,st.io⟩:AS).kA (.box b j) tg e i off vs some=some ⟨sl,B,st.ep+1,st.iss,st.io⟩:=by
    subst e2;simp only[AS.kA,AS.db,AS.df,AS.cY]at h⊢;cases hb:(nth st.boxes b).getD none with
    |none=>rw[hb]at h;simp at h
    |some cs=>
     rw[hb]at h;simp only[cU]at h⊢;split at h;rename_i t' e' xs hn;split at h;rename_i he;simp only[dif_pos he];generalize (he▸xs:List e.D)=zs at h⊢;split at h;rename_i ht;simp only[az ht];cases hi:idx zs i with|none=>rw[hi]at h;simp[aa]at h|some y0=>simp only[hi,aa]at h⊢;split at h;exact⟨_,λsl=>rfl⟩;cases h
     cases h;cases h;rename_i t' i' q0 e' xs hn;split at h;rename_i he;simp only[dif_pos he];generalize (he▸xs:List e.D)=zs at h⊢;split at h;rename_i ht;simp only[az ht];cases hi:DR zs i' i with|none=>rw[hi]at h;simp[aa]at h|some y0=>simp only[hi,aa]at h⊢;split at h;exact⟨_,λsl=>rfl⟩;cases h
     cases h;cases h;cases h
   obtain⟨B,hB⟩:=main;refine⟨B,?_,λst2 h1 h2 h3 h4 h5 h6=>?_⟩;subst e2;rw[hB]at h;exact(cw h).symm;unfold stepG;rw[hfree st2 h1 h4,hf];have r2:st2.rd (.tmp q)=st.rd (.tmp q):=by simp only[AS.rd,h1,h4]
   have t2:st2.take (.tmp x)=(.val gg vs,⟨eC st2.slots x ((st.get x).aH st.ep),st.boxes,st.ep,st.iss,st.io⟩):=by simp only[AS.take,AS.put,h2,h3,h4,h5,h6,e1]
   simp only[ae,dZ,hg,bX,hp,hd,hl,aK,bj,pG,hT,r2,hrd,t2];rw[az hlen];exact hB _;cases h;cases h
  cases h
theorem Pp {Y:List Nat}{p:Oper}{T:TypeId}{q x:Nat}(hp:p.op=.store T (.tmp q) (.tmp x))(hd:p.dst=none)(hg:p.guard=none){b:Nat}(hes:an.es q=some b)(heb:(an.eb q).isNone=true)(hbx:b≠x)(hsb:(an.sb q).isNone=true)(hl:sA an p=false){st s:AS}(h:stepG E Γ an ops Y p st=some s): ∃B,s=⟨eC (eC st.slots x ((st.get x).aH st.ep)) b B,st.boxes,st.ep+1,st.iss,st.io⟩∧ ∀st2:AS,st2.get q=st.get q→st2.get x=st.get x→nth st2.slots b=nth st.slots b→st2.boxes=st.boxes→st2.ep=st.ep→st2.iss=st.iss→st2.io=st.io→ stepG E Γ an ops Y p st2=some ⟨eC (eC st2.slots x ((st.get x).aH st.ep)) b B,st.boxes,st.ep+1,st.iss,st.io⟩:=by
 have hfree:∀st2:AS,st2.get q=st.get q→st2.ep=st.ep→cj E an Y p st2=cj E an Y p st:=by intro st2 h1 h2;simp only[cj,hp,AS.rd,h1,h2]
 unfold stepG at h;cases hf:cj E an Y p st with
 |false=>rw[hf]at h;cases h
 |true=>
  rw[hf]at h;simp only[ae,dZ,hg,bX,hp,hd,hl,aK,bj]at h;have hfr:=hf;simp only[cj,hp]at hfr;have hnn:((an.sb q).isNone&&(an.eb q).isNone&&(an.es q).isNone)=false:=by rw[hes];simp
  rw[hnn,cZ]at hfr;unfold pG at h;split at h;rename_i hrd;rw[hrd]at hfr;simp only[ai,aS]at hfr;rw[hfr.2]at hsb;cases hsb;rename_i sh ep0 r tg e y i off hT hrd;rw[hrd]at hfr;cases r with
  |box _ _=>simp only[ai,aS]at hfr;rw[hfr.1.1]at heb;cases heb
  |io _=>simp at hfr
  |slot b' j=>
   simp only[ai,aS]at hfr;have hbb:b'=b:=cw (hfr.1.1.symm.trans hes);subst hbb;split at h;rename_i gg vs st1 htk;have e1:(st.get x)=.val gg vs:=by have:=congrArg Prod.fst htk;exact this
   have e2:st1=⟨eC st.slots x ((st.get x).aH st.ep),st.boxes,st.ep,st.iss,st.io⟩:=by have:=congrArg Prod.snd htk;exact this.symm
   split at h;rename_i hlen;have main:∃B,∀sl:List AV,nth sl b'=nth st.slots b'→(⟨sl,st.boxes,st.ep,st.iss,st.io⟩:AS).kA (.slot b' j) tg e i off vs some=some ⟨eC sl b' B,st.boxes,st.ep+1,st.iss,st.io⟩:=by
    subst e2;have hget:∀sl:List AV,nth sl b'=nth st.slots b'→(⟨sl,st.boxes,st.ep,st.iss,st.io⟩:AS).get b'=st.get b':=λsl hq=>by unfold AS.get;rw[hq]
    have hq0:nth (eC st.slots x ((st.get x).aH st.ep)) b'=nth st.slots b':=by rw[fF,ar (bI hbx)]
    simp only[AS.kA,AS.db,AS.df,hget _ hq0]at h;cases hb:st.get b' with
    |tup _=>rw[hb]at h;simp at h
    |val g0 cs=>
     rw[hb]at h;simp only at h;split at h;rename_i t' e' xs hn;split at h;rename_i he;split at h;rename_i ht;cases hi:idx (he▸xs:List e.D) i with|none=>rw[hi]at h;simp[aa]at h|some y0=>simp only[hi,aa]at h;split at h;rename_i x' hx';refine⟨.val g0 (eC cs j (.sl (.own (some t')) e ((he▸xs:List e.D).set i.toNat x'))),λsl hq=>?_⟩;simp only[AS.kA,AS.db,AS.df,hget _ hq,hb,hn,dif_pos he,az ht,hi,aa,hx',AS.put];cases h
     cases h;cases h;rename_i t' i' q0 e' xs hn;split at h;rename_i he;split at h;rename_i ht;cases hi:DR (he▸xs:List e.D) i' i with|none=>rw[hi]at h;simp[aa]at h|some y0=>simp only[hi,aa]at h;split at h;rename_i x' hx';refine⟨.val g0 (eC cs j (.sl (.own (some t')) e ((he▸xs:List e.D).set i.toNat x'))),λsl hq=>?_⟩;simp only[AS.kA,AS.db,AS.df,hget _ hq,hb,hn,dif_pos he,az ht,hi,aa,hx',AS.put];cases h
     cases h;cases h;cases h
   obtain⟨B,hB⟩:=main;refine⟨B,?_,λst2 h1 h2 hnb h3 h4 h5 h6=>?_⟩;subst e2;rw[hB _ (by rw[fF,ar (bI hbx)])]at h;exact(cw h).symm;unfold stepG;rw[hfree st2 h1 h4,hf];have r2:st2.rd (.tmp q)=st.rd (.tmp q):=by simp only[AS.rd,h1,h4]
   have t2:st2.take (.tmp x)=(.val gg vs,⟨eC st2.slots x ((st.get x).aH st.ep),st.boxes,st.ep,st.iss,st.io⟩):=by simp only[AS.take,AS.put,h2,h3,h4,h5,h6,e1]
   simp only[ae,dZ,hg,bX,hp,hd,hl,aK,bj,pG,hT,r2,hrd,t2];rw[az hlen];exact hB _ (by rw[fF,ar (bI hbx)];exact hnb);cases h;cases h
  cases h
theorem Sk {X Y:List Nat}{o p:Oper}{st s1 s2:AS}(ha:Kx an o p=true)(h1:stepG E Γ an ops X o st=some s1)(h2:stepG E Γ an ops Y p s1=some s2): ∃t1,stepG E Γ an ops Y p st=some t1∧stepG E Γ an ops X o t1=some s2:=by
 unfold Kx at ha;split at ha;rename_i T q x hp hpd hpg;simp only[ai,aJ]at ha;obtain⟨⟨⟨heb,hsb⟩,hl⟩,ha⟩:=ha;have hcore:∃d t,o.dst=some d∧o.guard=none∧((o.op=.move (.tmp t)∧an.mv.contains d=false∧an.fm.contains d=true)∨∃i,o.op=.extract (.tmp t) i)∧d≠q∧d≠x∧t≠x∧d≠t∧t≠q:=by split at ha;rename_i t d ho hd hg;simp only[ai,aJ,cW]at ha;exact⟨d,t,hd,hg,.inl ⟨ho,ha.1.1.1.1.1.1,ha.1.1.1.1.1.2⟩,ha.1.1.1.1.2,ha.1.1.1.2,ha.1.1.2,ha.2,ha.1.2⟩;rename_i t i d ho hd hg;simp only[ai,aJ,cW]at ha;exact⟨d,t,hd,hg,.inr ⟨i,ho⟩,ha.1.1.1.1,ha.1.1.1.2,ha.1.1.2,ha.2,ha.1.2⟩;cases ha
 obtain⟨d,t,hd,hg,ho,hdq,hdx,htx,hdt,htq⟩:=hcore;obtain⟨tv,v,rfl,hrun⟩:=Jv hd hg ho hdt h1;have hq:((st.put (some t) tv).put (some d) v).get q=st.get q:=by rw[nO hdq];exact nO htq
 have hx:((st.put (some t) tv).put (some d) v).get x=st.get x:=by rw[nO hdx,nO htx]
 simp only[bZ,ai]at heb;rcases heb with⟨heb,hes⟩|hes;obtain⟨B,rfl,hgo⟩:=Sl hp hpd hpg heb hes hsb hl h2;have k1:=hgo st hq.symm hx.symm rfl rfl rfl rfl;refine⟨_,k1,?_⟩;have hg2:(⟨eC st.slots x ((((st.put (some t) tv).put (some d) v).get x).aH ((st.put (some t) tv).put (some d) v).ep),B,((st.put (some t) tv).put (some d) v).ep+1,((st.put (some t) tv).put (some d) v).iss,((st.put (some t) tv).put (some d) v).io⟩:AS).get t=st.get t:=by simp only[AS.get,fF,ar (bI htx)]
 rw[hrun _ hg2];simp only[AS.put,aU,AS.mk.injEq,eG];rw[eZ _ (bI htx),eZ _ (bI hdx)];cases hb:an.es q with
 |none=>rw[hb]at hes;cases hes
 |some b=>
  rw[hb]at hes;simp only[ai,aJ,cW]at hes;obtain⟨⟨⟨heb,hbx⟩,_⟩,hbw⟩:=hes;have hbw:=hH hbw b (by simp);have hbd:b≠d:=λe=>hbw (by simp[hd,e]);have hbt:b≠t:=λe=>hbw (by refine aq.2 (.inr ?_);rcases ho with⟨ho,_⟩|⟨i,ho⟩<;>simp[cq,ho,tm,e]);obtain⟨B,rfl,hgo⟩:=Pp hp hpd hpg hb heb hbx hsb hl h2;have hnb:nth st.slots b=nth ((st.put (some t) tv).put (some d) v).slots b:=by simp only[AS.put,fF,ar (bI hbd),ar (bI hbt)]
  have k1:=hgo st hq.symm hx.symm hnb rfl rfl rfl rfl;refine⟨_,k1,?_⟩;have hg2:(⟨eC (eC st.slots x ((((st.put (some t) tv).put (some d) v).get x).aH ((st.put (some t) tv).put (some d) v).ep)) b B,((st.put (some t) tv).put (some d) v).boxes,((st.put (some t) tv).put (some d) v).ep+1,((st.put (some t) tv).put (some d) v).iss,((st.put (some t) tv).put (some d) v).io⟩:AS).get t=st.get t:=by simp only[AS.get,fF,ar (bI htx),ar hbt]
  rw[hrun _ hg2];simp only[AS.put,aU,AS.mk.injEq,eG];rw[eZ _ hbt,eZ _ hbd,eZ _ (bI htx),eZ _ (bI hdx)]
 cases ha
theorem Hd {c:AC}{ep:Nat}(h:c.gE=true∨(c.borrow ep none).gE=true):c.borrow ep none=c:=by
 cases c with
 |sl fl e xs=>exfalso;cases fl with|holed _ _ ep=>cases ep<;>simp[AC.borrow,AC.gE]at h|_=>simp[AC.borrow,AC.gE]at h
 |_=>rfl
theorem Dm {cs:List AC}{off n ep:Nat}(hfit:off+n≤cs.length)(k:Nat):(bW cs off (aH ep ((cs.drop off).take n)))[k]?=(cs[k]?).map λc=>if off≤k∧k<off+n then c.borrow ep none else c:=by
 have hl:(aH ep ((cs.drop off).take n)).length=n:=by simp[aH];omega
 unfold bW;rw[hl];by_cases h1:k<off;rw[aF,List.getElem?_append_left (by simp;omega),List.getElem?_take_of_lt h1];have:(λc:AC=>if off≤k∧k<off+n then c.borrow ep none else c)=id:=by funext c;rw[ar (by omega)];rfl
 rw[this,Option.map_id];rfl;by_cases h2:k<off+n;rw[List.getElem?_append_left (by simp[hl];omega),List.getElem?_append_right (by simp;omega)];have e:k-(cs.take off).length=k-off:=by simp;omega
 rw[e,aH,List.getElem?_map,List.getElem?_take_of_lt (by omega),List.getElem?_drop,show off+(k-off)=k by omega];congr 1;funext c;rw[az (by omega)];rw[List.getElem?_append_right (by simp[hl];omega)];have e:k-(cs.take off++aH ep ((cs.drop off).take n)).length=k-(off+n):=by simp[hl];omega
 rw[e,List.getElem?_drop,show off+n+(k-(off+n))=k by omega];have:(λc:AC=>if off≤k∧k<off+n then c.borrow ep none else c)=id:=by funext c;rw[ar (by omega)];rfl
 rw[this,Option.map_id];rfl
theorem zb {cs:List AC}{off n ep o2 n2:Nat}(hfit:off+n≤cs.length)(h:((cs.drop o2).take n2).all AC.gE=true∨(((bW cs off (aH ep ((cs.drop off).take n))).drop o2).take n2).all AC.gE=true): ((bW cs off (aH ep ((cs.drop off).take n))).drop o2).take n2=(cs.drop o2).take n2:=by
 apply List.ext_getElem?;intro k;by_cases hk:k<n2;rw[List.getElem?_take_of_lt hk,List.getElem?_take_of_lt hk,List.getElem?_drop,List.getElem?_drop,Dm hfit];cases hc:cs[o2+k]? with|none=>rfl|some c=>simp only[cc];split;rename_i hin;refine congrArg some (Hd ?_);rcases h with h|h;left;refine a7.1 h c (List.mem_of_getElem? (i:=k) ?_);rw[List.getElem?_take_of_lt hk,List.getElem?_drop,hc];right;refine a7.1 h _ (List.mem_of_getElem? (i:=k) ?_);rw[List.getElem?_take_of_lt hk,List.getElem?_drop,Dm hfit,hc,cc,az hin];rfl
 rw[List.getElem?_eq_none (by simp;omega),List.getElem?_eq_none (by simp;omega)]
theorem Ak {b ep:Nat}:∀{cs:List AC}{j:Nat},cs.all AC.gE=true→eL ep (.box b) j cs=cs
 |[],_,_=>rfl
 |c::cs,j,h=>by simp only[bg,ai]at h;rw[eL,Ak h.2];congr 1;cases c<;>first|rfl|(simp[AC.gE]at h)
theorem Dy {o:Oper}(h:uc an o=true):∃T q d,o.op=.load T (.tmp q)∧o.dst=some d∧o.guard=none∧an.mv.contains d=true∧(an.mb d).isSome=true:=by unfold uc at h;split at h;rename_i T q d ho hd hg;simp only[ai]at h;exact⟨T,q,d,ho,hd,hg,h.1,h.2⟩;cases h
theorem Cx {o:Oper}(h:Cw an o=true):∃T q d,o.op=.load T (.tmp q)∧o.dst=some d∧o.guard=none∧an.mv.contains d=false∧an.fm.contains d=true:=by unfold Cw at h;split at h;rename_i T q d ho hd hg;simp only[ai,aJ]at h;exact⟨T,q,d,ho,hd,hg,h.1,h.2⟩;cases h
theorem w4 {X:List Nat}{o:Oper}{T:TypeId}{q d:Nat}(ht:uc an o=true)(ho:o.op=.load T (.tmp q))(hd:o.dst=some d)(hg:o.guard=none)(hmv:an.mv.contains d=true){st s:AS}:stepG E Γ an ops X o st=some s↔ ∃sh b off cs,ff E.ty T=some sh∧st.rd (.tmp q)=.val false [.ptr b off]∧(nth st.boxes b).getD none=some cs∧off+sh.ct.size≤cs.length∧X.contains b=false∧an.mb d=some b∧(J5 an o=true→vQ E T st b off=true)∧ s=(st.cY b (some (bW cs off (aH st.ep ((cs.drop off).take sh.ct.size))))).put (some d) (.val sh.agg ((cs.drop off).take sh.ct.size)):=by
 have key:cj E an X o st=true→∀r,bX E Γ an o st some=some r→∃b off,st.rd (.tmp q)=.val false [.ptr b off]:=by intro hf r hr;simp only[bX,ho,ks]at hr;split at hr;rename_i hp;exact⟨_,_,hp⟩;rename_i hp;simp only[cj,ho,hp,ht,Bool.or_true,au,eK,cD]at hf;cases hf;cases hr
 unfold stepG;constructor;intro h;cases hf:cj E an X o st with|false=>rw[hf]at h;cases h|true=>rw[hf]at h;simp only[ae,dZ,hg]at h;obtain⟨b,off,hp⟩:=key hf s h;simp only[cj,ho,hp,hd,hmv,au,cZ,ai,aJ,aS,bZ]at hf;simp only[bX,ho,ks,hp]at h;cases hT:ff E.ty T with|none=>rw[hT]at h;cases h|some sh=>rw[hT]at h;simp only at h;cases hb:(nth st.boxes b).getD none with|none=>rw[hb]at h;cases h|some cs=>rw[hb]at h;simp only at h;split at h;rename_i hfit;simp only[hd,hmv,bd]at h;cases h;refine⟨sh,b,off,cs,rfl,hp,hb,hfit,hf.1.1,hf.1.2,λhm=>?_,rfl⟩;rcases hf.2 with g|g;rw[hm]at g;cases g;exact g;cases h
 rintro⟨sh,b,off,cs,hT,hp,hb,hfit,hX,hmb,hfm,rfl⟩;have hf:cj E an X o st=true:=by simp only[cj,ho,hp,hd,hmv,hX,hmb,au,cZ,ai,aJ,aS,bZ];refine⟨⟨trivial,trivial⟩,?_⟩;cases hm:J5 an o with|false=>exact .inl rfl|true=>exact .inr (hfm hm)
 rw[hf];simp only[ae,dZ,hg,bX,ho,ks,hp,hT,hb,az hfit,hd,hmv,bd]
theorem wI {X:List Nat}{o:Oper}{T:TypeId}{q d:Nat}(ho:o.op=.load T (.tmp q))(hd:o.dst=some d)(hg:o.guard=none)(hmv:an.mv.contains d=false)(hfm:an.fm.contains d=true){st s:AS}:stepG E Γ an ops X o st=some s↔ ∃sh b off cs,ff E.ty T=some sh∧st.rd (.tmp q)=.val false [.ptr b off]∧(nth st.boxes b).getD none=some cs∧off+sh.ct.size≤cs.length∧X.contains b=false∧((cs.drop off).take sh.ct.size).all AC.gE=true∧ s=st.put (some d) (.val sh.agg ((cs.drop off).take sh.ct.size)):=by
 have hfb:J5 an o=true:=by simp only[J5,hd,hfm]
 have key:cj E an X o st=true→∀r,bX E Γ an o st some=some r→∃b off,st.rd (.tmp q)=.val false [.ptr b off]:=by intro hf r hr;simp only[bX,ho,ks]at hr;split at hr;rename_i hp;exact⟨_,_,hp⟩;rename_i hp;simp only[cj,ho,hp,hfb,Bool.true_or,au,eK,cD]at hf;cases hf;cases hr
 unfold stepG;constructor;intro h;cases hf:cj E an X o st with
 |false=>rw[hf]at h;cases h
 |true=>
  rw[hf]at h;simp only[ae,dZ,hg]at h;obtain⟨b,off,hp⟩:=key hf s h;simp only[cj,ho,hp,hd,hmv,hfb,au,bq,Bool.true_or,cZ,gp,ai,aJ]at hf;simp only[bX,ho,ks,hp]at h;cases hT:ff E.ty T with
  |none=>rw[hT]at h;cases h
  |some sh=>
   rw[hT]at h;simp only at h;cases hb:(nth st.boxes b).getD none with
   |none=>rw[hb]at h;cases h
   |some cs=>
    rw[hb]at h;simp only at h;split at h;rename_i hfit;have hst:((cs.drop off).take sh.ct.size).all AC.gE=true:=by have:=hf.2;unfold vQ at this;rw[hT,hb]at this;exact this
    simp only[hd,hmv,aK,bj,Ak hst]at h;cases h;exact⟨sh,b,off,cs,rfl,hp,hb,hfit,hf.1,hst,rfl⟩;cases h
 rintro⟨sh,b,off,cs,hT,hp,hb,hfit,hX,hst,rfl⟩;have hf:cj E an X o st=true:=by simp only[cj,ho,hp,hd,hmv,hX,hfb,vQ,hT,hb,hst];rfl
 rw[hf];simp only[ae,dZ,hg,bX,ho,ks,hp,hT,hb,az hfit,hd,hmv,aK,bj,Ak hst]
theorem EZ {st:AS}{q d:Nat}{v:AV}(h:d≠q):(st.put (some d) v).rd (.tmp q)=st.rd (.tmp q):=by simp only[AS.rd,nO h];rfl
theorem Qp {st:AS}{q b:Nat}{cs:Option (List AC)}:(st.cY b cs).rd (.tmp q)=st.rd (.tmp q):=rfl
theorem Kk {st:AS}{b:Nat}{cs x:List AC}(h:(nth st.boxes b).getD none=some cs):(nth (eC st.boxes b (some x)) b).getD none=some x:=by
 rw[fF,az rfl];cases hn:nth st.boxes b with
 |none=>rw[hn]at h;cases h
 |some _=>
  have:b<st.boxes.length:=by rw[cy]at hn;exact(List.getElem?_eq_some_iff.1 hn).1
  rw[az this];rfl
theorem Kl {st:AS}{b b2:Nat}{x:List AC}(h:b≠b2):nth (eC st.boxes b (some x)) b2=nth st.boxes b2:=by rw[fF,ar h]
theorem SP {X Y:List Nat}{o p:Oper}{st s1 s2:AS}(ha:K6 an o p=true)(h1:stepG E Γ an ops X o st=some s1)(h2:stepG E Γ an ops Y p s1=some s2): ∃t1,stepG E Γ an ops Y p st=some t1∧stepG E Γ an ops X o t1=some s2:=by
 simp only[K6,ai,bZ,aJ]at ha;obtain⟨⟨ha,m1⟩,m2⟩:=ha;have m1:=hH m1;have m2:=hH m2;rcases ha with⟨ht,hf⟩|⟨hf,ht⟩;obtain⟨T,q,d,ho,hd,hg,hmv,hmb⟩:=Dy ht;obtain⟨T2,q2,d2,hp,hd2,hg2,hmv2,hfm2⟩:=Cx hf;have n1:d≠d2:=λe=>m1 d (by simp[hd]) (by simp[hd2,e]);have n2:d≠q2:=λe=>m1 d (by simp[hd]) (by simp[cq,hp,tm,e]);have n3:d2≠q:=λe=>m2 d2 (by simp[hd2]) (by simp[cq,ho,tm,e]);obtain⟨sh,b,off,cs,hT,hr,hb,hfit,hX,hmbe,hfm,rfl⟩:=(w4 ht ho hd hg hmv).1 h1;obtain⟨sh2,b2,off2,cs2,hT2,hr2,hb2,hfit2,hX2,hst2,rfl⟩:=(wI hp hd2 hg2 hmv2 hfm2).1 h2;rw[EZ n2,Qp]at hr2;have hbx:(nth (eC st.boxes b (some (bW cs off (aH st.ep ((cs.drop off).take sh.ct.size))))) b2).getD none=some cs2:=hb2;have hfin:∃cs0,(nth st.boxes b2).getD none=some cs0∧off2+sh2.ct.size≤cs0.length∧(cs2.drop off2).take sh2.ct.size=(cs0.drop off2).take sh2.ct.size:=by
  by_cases hbb:b=b2;subst hbb;rw[Kk hb]at hbx;cases hbx;have hlen:(bW cs off (aH st.ep ((cs.drop off).take sh.ct.size))).length=cs.length:=by simp only[bW,aH,ak,ch,bt,bN];omega
  exact⟨cs,hb,by omega,zb hfit (.inr hst2)⟩;rw[Kl hbb]at hbx;exact⟨cs2,hbx,hfit2,rfl⟩
 obtain⟨cs0,hb0,hfit0,he⟩:=hfin;rw[he]at hst2⊢;refine⟨_,(wI hp hd2 hg2 hmv2 hfm2).2 ⟨sh2,b2,off2,cs0,hT2,hr2,hb0,hfit0,hX2,hst2,rfl⟩,(w4 ht ho hd hg hmv).2 ⟨sh,b,off,cs,hT,by rw[EZ n3];exact hr,hb,hfit,hX,hmbe,λhm=>?_,?_⟩⟩;have:=hfm hm;unfold vQ at this⊢;exact this;simp only[AS.put,AS.cY,AS.mk.injEq,eG];exact eZ _ n1 _ _;obtain⟨T,q,d,ho,hd,hg,hmv,hfm⟩:=Cx hf;obtain⟨T2,q2,d2,hp,hd2,hg2,hmv2,hmb2⟩:=Dy ht;have n1:d≠d2:=λe=>m1 d (by simp[hd]) (by simp[hd2,e]);have n2:d≠q2:=λe=>m1 d (by simp[hd]) (by simp[cq,hp,tm,e]);have n3:d2≠q:=λe=>m2 d2 (by simp[hd2]) (by simp[cq,ho,tm,e]);obtain⟨sh,b,off,cs,hT,hr,hb,hfit,hX,hst,rfl⟩:=(wI ho hd hg hmv hfm).1 h1;obtain⟨sh2,b2,off2,cs2,hT2,hr2,hb2,hfit2,hX2,hmbe,hfm2,rfl⟩:=(w4 ht hp hd2 hg2 hmv2).1 h2;rw[EZ n2]at hr2;refine⟨_,(w4 ht hp hd2 hg2 hmv2).2 ⟨sh2,b2,off2,cs2,hT2,hr2,hb2,hfit2,hX2,hmbe,λhm=>hfm2 hm,rfl⟩,?_⟩;have hfin:∃cs0,(nth (eC st.boxes b2 (some (bW cs2 off2 (aH st.ep ((cs2.drop off2).take sh2.ct.size))))) b).getD none=some cs0∧off+sh.ct.size≤cs0.length∧(cs0.drop off).take sh.ct.size=(cs.drop off).take sh.ct.size:=by
  by_cases hbb:b2=b;subst hbb;have hcs:cs2=cs:=cw (hb2.symm.trans hb);subst hcs;have hlen:(bW cs2 off2 (aH st.ep ((cs2.drop off2).take sh2.ct.size))).length=cs2.length:=by simp only[bW,aH,ak,ch,bt,bN];omega
  exact⟨_,Kk hb,by omega,zb hfit2 (.inl hst)⟩;exact⟨cs,by rw[Kl hbb];exact hb,hfit,rfl⟩
 obtain⟨cs0,hb0,hfit0,he⟩:=hfin;refine(wI ho hd hg hmv hfm).2 ⟨sh,b,off,cs0,hT,by rw[EZ n3,Qp];exact hr,hb0,hfit0,hX,by rw[he];exact hst,?_⟩;rw[he];simp only[AS.put,AS.cY,AS.mk.injEq,eG];exact eZ _ n1 _ _
theorem Dx {X:List Nat}{o:Oper}{T:TypeId}{q d:Nat}(ht:wu an o=true)(ho:o.op=.load T (.tmp q))(hd:o.dst=some d)(hg:o.guard=none)(hmv:an.mv.contains d=true)(hmb:an.mb d=none){st s:AS}:stepG E Γ an ops X o st=some s↔ ∃(g:Bool)(e:CT)(offs:List (Nat×Nat))(b j t ep0:Nat)(x:e.D)(i:Int)(cs:List AC)(ys:List e.D)(y:e.D),ff E.ty T=some ⟨g,e,offs⟩∧st.rd (.tmp q)=.val false [.elt (.loc ep0 (some (.box b j,t))) e x i 0]∧(nth st.boxes b).getD none=some cs∧nth cs j=some (.sl (.own (some t)) e ys)∧idx ys i=some y∧ X.contains b=false∧an.eb q=some b∧J5 an o=false∧s=(zj st b j t e i cs ys).put (some d) (.val g (cellsOf e (.own none) y)):=by rw[←Dw ht ho hd hmv hmb];unfold stepG;cases cj E an X o st with|false=>simp|true=>simp only[ae,dZ,hg,bX,ho,true_and]
theorem Ow {o:Oper}(h:tC an o=true):∃T q d,o.op=.load T (.tmp q)∧o.dst=some d∧o.guard=none∧an.mv.contains d=false∧J5 an o=false:=by unfold tC at h;split at h;rename_i T q d ho hd hg;simp only[ai,aJ]at h;exact⟨T,q,d,ho,hd,hg,h.1.1,by simp only[J5,hd];exact h.1.2⟩;cases h
theorem C7 {X:List Nat}{o:Oper}{T:TypeId}{q d:Nat}(hpl:tC an o=true)(ho:o.op=.load T (.tmp q))(hd:o.dst=some d)(hg:o.guard=none)(hmv:an.mv.contains d=false)(hfm:J5 an o=false){st s:AS}:stepG E Γ an ops X o st=some s↔ ∃sh b off cs,ff E.ty T=some sh∧st.rd (.tmp q)=.val false [.ptr b off]∧(nth st.boxes b).getD none=some cs∧off+sh.ct.size≤cs.length∧X.contains b=false∧ s=st.put (some d) (.val sh.agg (eL st.ep (.box b) off ((cs.drop off).take sh.ct.size))):=by
 unfold stepG;constructor;intro h;cases hf:cj E an X o st with|false=>rw[hf]at h;cases h|true=>rw[hf]at h;simp only[ae,dZ,hg,bX,ho]at h;unfold ks at h;split at h;rename_i sh b off hT hp;simp only[cj,ho,hp,hd,hmv,hfm,bq,Bool.true_or,gp,aJ]at hf;split at h;rename_i cs hb;split at h;rename_i hfit;simp only[hd,hmv,aK,bj]at h;cases h;exact⟨sh,b,off,cs,hT,hp,hb,hfit,hf,rfl⟩;cases h;cases h;rename_i hp;simp only[cj,ho,hp,hpl,au,eK,cD]at hf;cases hf;cases h
 rintro⟨sh,b,off,cs,hT,hp,hb,hfit,hX,rfl⟩;have hf:cj E an X o st=true:=by simp only[cj,ho,hp,hd,hmv,hX,hfm];rfl
 rw[hf];simp only[ae,dZ,hg,bX,ho,ks,hp,hT,hb,az hfit,hd,hmv,aK,bj]
theorem BI {ep b:Nat}:∀(cs:List AC)(p k:Nat)(c':AC),(∀c,cs[k]?=some c→∀r,c'.borrow ep (some r)=c.borrow ep (some r))→eL ep (.box b) p (cs.set k c')=eL ep (.box b) p cs
 |[],_,_,_,_=>rfl
 |c::cs,p,0,c',h=>by simp only[List.set_cons_zero,eL,h c rfl]
 |c::cs,p,k+1,c',h=>by simp only[List.set_cons_succ,eL];rw[BI cs (p+1) k c' (λc hc=>h c (by simpa using hc))]
theorem Hz {ep b j t off n:Nat}{e:CT}{i:Int}{ys:List e.D}{cs:List AC}(hj:nth cs j=some (.sl (.own (some t)) e ys)): eL ep (.box b) off (((eC cs j (.sl (.holed (some t) i (some ep)) e ys)).drop off).take n)=eL ep (.box b) off ((cs.drop off).take n):=by rw[dg,List.drop_set];split;rfl;rename_i hlt;rw[List.take_set];refine BI _ _ _ _ λc hc r=>?_;by_cases hn:j-off<n;rw[List.getElem?_take_of_lt hn,List.getElem?_drop,show off+(j-off)=j by omega,←cy,hj]at hc;cases hc;rfl;rw[List.getElem?_eq_none (by simp;omega)]at hc;cases hc
theorem Sa {X Y:List Nat}{o p:Oper}{st s1 s2:AS}(ha:Kn an o p=true)(h1:stepG E Γ an ops X o st=some s1)(h2:stepG E Γ an ops Y p s1=some s2): ∃t1,stepG E Γ an ops Y p st=some t1∧stepG E Γ an ops X o t1=some s2:=by
 simp only[Kn,ai,aJ]at ha;obtain⟨⟨⟨hpl,ht⟩,m1⟩,m2⟩:=ha;have m1:=hH m1;have m2:=hH m2;obtain⟨T,q,d,ho,hd,hg,hmv,hfm⟩:=Ow hpl;obtain⟨T2,q2,d2,hp,hd2,hg2,hmv2,hmb2⟩:=Fa ht;have n1:d≠d2:=λe=>m1 d (by simp[hd]) (by simp[hd2,e]);have n2:d≠q2:=λe=>m1 d (by simp[hd]) (by simp[cq,hp,tm,e]);have n3:d2≠q:=λe=>m2 d2 (by simp[hd2]) (by simp[cq,ho,tm,e]);obtain⟨sh,b,off,cs,hT,hr,hb,hfit,hX,rfl⟩:=(C7 hpl ho hd hg hmv hfm).1 h1;obtain⟨g,e,offs,b2,j,t,ep0,x,i,cs2,ys,y,hT2,hr2,hb2,hj,hi,hX2,heb,hfm2,rfl⟩:=(Dx ht hp hd2 hg2 hmv2 hmb2).1 h2;rw[EZ n2]at hr2;have hb2':(nth st.boxes b2).getD none=some cs2:=hb2;refine⟨_,(Dx ht hp hd2 hg2 hmv2 hmb2).2 ⟨g,e,offs,b2,j,t,ep0,x,i,cs2,ys,y,hT2,hr2,hb2',hj,hi,hX2,heb,hfm2,rfl⟩,?_⟩;have hfin:∃cs0,(nth (eC st.boxes b2 (some (eC cs2 j (.sl (.holed (some t) i (some st.ep)) e ys)))) b).getD none=some cs0∧off+sh.ct.size≤cs0.length∧eL st.ep (.box b) off ((cs0.drop off).take sh.ct.size)=eL st.ep (.box b) off ((cs.drop off).take sh.ct.size):=by by_cases hbb:b2=b;subst hbb;have hcs:cs2=cs:=cw (hb2'.symm.trans hb);subst hcs;exact⟨_,Kk hb,by rw[dg,aO];exact hfit,Hz hj⟩;exact⟨cs,by rw[Kl hbb];exact hb,hfit,rfl⟩
 obtain⟨cs0,hb0,hfit0,he⟩:=hfin;refine(C7 hpl ho hd hg hmv hfm).2 ⟨sh,b,off,cs0,hT,by rw[EZ n3];exact hr,hb0,hfit0,hX,?_⟩;show _=((zj st b2 j t e i cs2 ys).put (some d2) _).put (some d) (.val sh.agg (eL st.ep (.box b) off ((cs0.drop off).take sh.ct.size)));rw[he];simp only[AS.put,zj,AS.cY,AS.mk.injEq,eG];exact eZ _ n1 _ _
def D5 (E:Env)(Γ:bL)(an:An)(ops:List Oper)(X:Nat→List Nat):List Nat→AS→Option AS
 |[],st=>some st
 |i::r,st=>match nth ops i with
  |some o=>(stepG E Γ an ops (X i) o st).bind (D5 E Γ an ops X r)
  |none=>none
theorem Dj (hΓ:∀f,(Γ f).io=false∧((Γ f).bx=true→(Γ f).cur=true)∧(Γ f).pr=false){X:Nat→List Nat}{i:Nat}{oi:Oper}(hi:nth ops i=some oi):∀(pre post:List Nat)(st r:AS),(∀j∈pre,∀oj,nth ops j=some oj→BC an ops (X j) (X i) oj oi=true)→
 D5 E Γ an ops X (pre++i::post) st=some r→D5 E Γ an ops X (i::(pre++post)) st=some r
 |[],post,st,r,_,h=>h
 |j::pre,post,st,r,ha,h=>by
  simp only[List.cons_append,D5]at h;cases hj:nth ops j with
  |none=>rw[hj]at h;cases h
  |some oj=>
   rw[hj]at h;simp only at h;obtain⟨s1,h1,h2⟩:=aB.1 h;have h3:=Dj hΓ hi pre post s1 r (λk hk=>ha k (by simp[hk])) h2;simp only[D5,hi]at h3;obtain⟨s2,h4,h5⟩:=aB.1 h3;have hap:=ha j (by simp) oj hj;obtain⟨t1,k1,k2⟩:∃t1,stepG E Γ an ops (X i) oi st=some t1∧stepG E Γ an ops (X j) oj t1=some s2:=by cases hx:Ql an oj oi with|false=>rw[BC,hx,cZ]at hap;exact LI hΓ hap h1 h4|true=>simp only[Ql,bZ]at hx;rcases hx with((hx|hx)|hx)|hx;exact PE hx h1 h4;exact Sk hx h1 h4;exact SP hx h1 h4;exact Sa hx h1 h4
   simp only[D5,hi,k1,cU,List.cons_append,hj,k2];exact h5
end Go.Dn
