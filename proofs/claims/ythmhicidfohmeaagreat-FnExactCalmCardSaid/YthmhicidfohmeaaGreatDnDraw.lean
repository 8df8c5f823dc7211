import Derived.Test.YthmhicidfohmeaaGreatDnUpd
/- Operations that are apart may change places. -/
namespace Go.Dn
variable {E:Env} {Γ:bH} {an:An} {ops:List Oper}
def stepG (E:Env)(Γ:bH)(an:An)(ops:List Oper)(X:List Nat)(o:Oper)(st:AS):Option AS:=
 bif c9 E an X o st then eX E Γ an ops o st some else none
structure Jc (an:An) (ops:List Oper) (X:List Nat) (o:Oper) (st st2:AS):Prop where
 base:eP an X o st st2
 gd:∀t∈zo an ops o,st2.get t=st.get t
theorem Nr {st:AS}{d:Nat}{b:Bool}(h:st.get d=.val false [.bool b]):st.put (some d) (.one (.bool b))=st:=by cases st with|mk slots boxes ep iss io=>simp only[AS.put,AS.mk.injEq,fG];rw[dz];apply List.ext_getElem?;intro i;rw[List.getElem?_set];split;rename_i hd;subst hd;simp only[AS.get,cR]at h;split;rename_i hlt;rw[List.getElem?_eq_getElem hlt]at h⊢;simp only[dZ]at h;rw[h];rename_i hge;rw[List.getElem?_eq_none (Nat.le_of_not_lt hge)];rfl
theorem Kk {T:TypeId}{st st2:AS}{s off:Nat}(h:nth st2.boxes s=nth st.boxes s):zl E T st2 s off=zl E T st s off:=by unfold zl;rw[h]
theorem Bq {X:List Nat}{o:Oper}{st st2:AS}(ha:eP an X o st st2):c9 E an X o st2=c9 E an X o st:=by
 unfold c9;split;rename_i ho;rw[ha.rd (λt ht=>by simpa[cU,ho]using ht)];rename_i T p ho;rw[ha.rd (λt ht=>by simp[cU,ho,ht]),ha.ep];rename_i ho;rw[ha.rd (λt ht=>by simp[cU,ho,ht]),ha.ep];rename_i f args ts ho;rw[cm];simp only[bd];constructor;intro hx x hm;have:=hx x hm;rwa[ha.rd (λt ht=>by simp only[cU,ho,ar,Lg,List.mem_flatMap];exact .inr ⟨x,hm,ht⟩),ha.ep]at this;intro hx x hm;rw[ha.rd (λt ht=>by simp only[cU,ho,ar,Lg,List.mem_flatMap];exact .inr ⟨x,hm,ht⟩),ha.ep];exact hx x hm;rename_i ho;rw[ha.rd (λt ht=>by simpa[cU,ho]using ht),ha.ep];split;rename_i s off _;cases hX:X.contains s with|true=>rfl|false=>rw[Kk (ha.box s hX)]
 rfl;rfl;rename_i ho;rw[ha.rd (λt ht=>by simp only[cU,ho,ar];exact .inl ht)];rename_i ho;rw[ha.get _ (by simp[cU,ho])];rfl
theorem D1 (hΓ:∀f,(Γ f).io=false∧(Γ f).bx=false){X:List Nat}{o:Oper}{st st':AS}(hm:kb an o=true)(h:stepG E Γ an ops X o st=some st'): ∃u:DL,u.Bg an o∧st'=u.apply st∧∀st2,Jc an ops X o st st2→stepG E Γ an ops X o st2=some (u.apply st2):=by
 unfold stepG at h;cases hf:c9 E an X o st with
 |false=>rw[hf]at h;cases h
 |true=>
  rw[hf]at h;simp only[ah]at h;unfold eX at h;split at h;rename_i hg;obtain⟨u,h1,h2,h3⟩:=G8 (X:=X) hΓ hm hf h;refine⟨u,h1,h2,λst2 ha=>?_⟩;unfold stepG;rw[Bq ha.base,hf];simp only[ah,eX,hg];exact h3 st2 ha.base;rename_i j want hg;split at h;rename_i d hd;have hin:d∈zo an ops o:=by simp[zo,hg,hd]
  split at h;rename_i b hb;have hgo:(if(b==want)=true then cj E Γ an o st some else some (st.put o.dst (.one .un)))=some st':=by cases b<;>simpa only[ah,af,Nr hb]using h
  have h2g:∀st2,Jc an ops X o st st2→stepG E Γ an ops X o st2=(if(b==want)=true then cj E Γ an o st2 some else some (st2.put o.dst (.one .un))):=by
   intro st2 ha;have hb2:st2.get d=.val false [.bool b]:=by rw[ha.gd d hin];exact hb
   unfold stepG;rw[Bq ha.base,hf];simp only[ah,eX,hg,hd,hb2];cases b<;>simp only[ah,af,Nr hb2]
  split at hgo;rename_i hw;obtain⟨u,h1,h2,h3⟩:=G8 (X:=X) hΓ hm hf hgo;exact⟨u,h1,h2,λst2 ha=>by rw[h2g st2 ha,ay hw];exact h3 st2 ha.base⟩;rename_i hw;cases hgo;exact⟨yA o (.one .un),wP _,by rw[nO],λst2 ha=>by rw[h2g st2 ha,aq hw,nO]⟩;rename_i hb;cases h;refine⟨yA o (.one .un),wP _,by rw[nO],λst2 ha=>?_⟩;have hb2:st2.get d=.val false [.un]:=by rw[ha.gd d hin];exact hb
  unfold stepG;rw[Bq ha.base,hf,nO];simp only[ah,eX,hg,hd,hb2];cases h;cases h
theorem gr {α:Type}(l:List α){i j:Nat}(h:i≠j)(v w:α):fD (fD l i v) j w=fD (fD l j w) i v:=by rw[dz,dz,dz,dz,List.set_comm _ _ h]
theorem PL (l:List AV)(a:List (Nat×AV)){i:Nat}(v:AV)(h:∀x∈a,x.1≠i):gz (fD l i v) a=fD (gz l a) i v:=by induction a generalizing l with|nil=>rfl|cons x a ih=>simp only[gz];rw[gr _ (bT (h x (by simp))),ih _ (λy hy=>h y (by simp[hy]))]
theorem Nn (l:List AV)(a b:List (Nat×AV))(h:∀x∈a,∀y∈b,x.1≠y.1):gz (gz l a) b=gz (gz l b) a:=by induction b generalizing l with|nil=>rfl|cons y b ih=>simp only[gz];rw[←PL l a y.2 (λx hx=>h x hx y (by simp)),ih _ (λx hx z hz=>h x hx z (by simp[hz]))]
theorem HO (l:List AV)(a:List (Nat×AV)){t:Nat}(h:∀x∈a,x.1≠t):nth (gz l a) t=nth l t:=by induction a generalizing l with|nil=>rfl|cons x a ih=>rw[gz,ih _ (λy hy=>h y (by simp[hy])),fV,aq (h x (by simp))]
theorem mN {a b:List Nat}(h:meets a b=false):∀x∈a,x∉b:=by intro x hx hb;unfold meets at h;rw[List.any_eq_false]at h;exact h x hx (by simpa using hb)
theorem DL.ZL {u:DL}{o p:Oper}{Y:List Nat}{st:AS}(hw:u.Bg an o)(h1:∀x∈writes an o,x∉cU p++zo an ops p++writes an p)(h2:∀d∈BK an o,Y.contains d=true)(h3:∀d∈BK an o,p.dst≠some d): Jc an ops Y p (u.apply st) st∧Jc an ops Y p st (u.apply st):=by
 have hget:∀t,t∈cU p++zo an ops p++writes an p→(u.apply st).get t=st.get t:=by intro t ht;unfold AS.get;have:nth (u.apply st).slots t=nth st.slots t:=HO _ _ (λx hx he=>h1 _ (hw.slots x hx) (by rw[he];exact ht));rw[this]
 have hdst:∀d,p.dst=some d→nth (u.apply st).iss d=nth st.iss d∧nth (u.apply st).boxes d=nth st.boxes d:=by
  intro d hd;have hd':d∈cU p++zo an ops p++writes an p:=by simp[writes,hd]
  have hne:o.dst≠some d:=λhe=>h1 d (by simp[writes,he]) hd';constructor;unfold DL.apply;cases hi:u.iss with|none=>rfl|some k=>simp only;rw[fV,aq];rintro rfl;exact hne (hw.iss _ hi)
  unfold DL.apply;cases hi:u.box with|none=>rfl|some k=>simp only;rw[fV,aq];intro he;exact h3 _ (hw.box k hi) (by rw[he];exact hd)
 have hbox:∀s,Y.contains s=false→nth (u.apply st).boxes s=nth st.boxes s:=by intro s hs;unfold DL.apply;cases hi:u.box with|none=>rfl|some k=>simp only;rw[fV,aq];rintro rfl;have:=h2 k.1 (hw.box k hi);rw[this]at hs;cases hs
 have hlen:(u.apply st).slots.length=st.slots.length:=GN _ _;exact⟨⟨⟨hlen.symm,λt ht=>(hget t (by simp[ht])).symm,rfl,λd hd=>⟨((hdst d hd).1).symm,((hdst d hd).2).symm⟩,λs hs=>(hbox s hs).symm,λt ht=>(hget t (by simp[zo,ht])).symm⟩,λt ht=>(hget t (by simp[ht])).symm⟩,⟨⟨hlen,λt ht=>hget t (by simp[ht]),rfl,hdst,hbox,λt ht=>hget t (by simp[zo,ht])⟩,λt ht=>hget t (by simp[ht])⟩⟩
theorem Ov {u v:DL}{o p:Oper}{st:AS}(hu:u.Bg an o)(hv:v.Bg an p)(h:∀x∈writes an o,x∉writes an p)(hb:∀x∈BK an o,x∉BK an p):v.apply (u.apply st)=u.apply (v.apply st):=by
 have hdd:∀a b,o.dst=some a→p.dst=some b→a≠b:=λa b ha hb he=>h a (by simp[writes,ha]) (by simp[writes,hb,he]);have hs:=Nn st.slots u.slots v.slots (λx hx y hy he=>h _ (hu.slots x hx) (by rw[he];exact hv.slots y hy));simp only[DL.apply,AS.mk.injEq,true_and,fG];refine⟨hs,?_,?_⟩;cases hub:u.box with|none=>cases v.box<;>rfl|some k=>cases hvb:v.box with|none=>rfl|some l=>exact gr _ (λhe=>hb _ (hu.box k hub) (by rw[he];exact hv.box l hvb)) _ _
 cases hui:u.iss with|none=>cases v.iss<;>rfl|some k=>cases hvi:v.iss with|none=>rfl|some l=>exact gr _ (hdd _ _ (hu.iss k hui) (hv.iss l hvi)) _ _
theorem P3 (hΓ:∀f,(Γ f).io=false∧(Γ f).bx=false){X Y:List Nat}{o p:Oper}{st s1 s2:AS}(ha:Ot an ops X Y o p=true)(h1:stepG E Γ an ops X o st=some s1)(h2:stepG E Γ an ops Y p s1=some s2): ∃t1,stepG E Γ an ops Y p st=some t1∧stepG E Γ an ops X o t1=some s2:=by
 simp only[Ot,aj,aY,bd]at ha;obtain⟨⟨⟨⟨⟨⟨⟨mo,mp⟩,w1⟩,w2⟩,b1⟩,b2⟩,b3⟩,b4⟩:=ha;have w1:=mN w1;have w2:=mN w2;have b3:=mN b3;have b4:=mN b4;obtain⟨u,hu,rfl,hu2⟩:=D1 hΓ mo h1;obtain⟨v,hv,rfl,hv2⟩:=D1 hΓ mp h2;have ag1:=DL.ZL (ops:=ops) (p:=p) (Y:=Y) (st:=st) hu w1 b1 (λd hd he=>b3 d hd (by simp[he]));have hww:∀x∈writes an p,x∉cU o++zo an ops o++writes an o:=by intro x hx hm;rcases ar.1 hm with hm|hm;exact w2 x hx hm;exact w1 x hm (by simp[hx])
 have ag2:=DL.ZL (ops:=ops) (p:=o) (Y:=X) (st:=st) hv hww b2 (λd hd he=>b4 d hd (by simp[he]));refine⟨v.apply st,hv2 st ag1.1,?_⟩;rw[hu2 _ ag2.2,Ov hu hv (λx hx hm=>w1 x hx (by simp[hm])) (λx hx hm=>b3 x hx (by simp[hm]))]
theorem B8 {st:AS}{t:Nat}{v w:AV}(h:st.get t=v)(hv:v≠ .bot):(st.put (some t) w).get t=w:=by
 unfold AS.get at h;cases hn:nth st.slots t with
 |none=>rw[hn]at h;exact absurd h.symm hv
 |some q=>
  have hl:t<st.slots.length:=by rw[cR]at hn;exact(List.getElem?_eq_some_iff.1 hn).1
  unfold AS.get AS.put;simp only[cR,dz];rw[List.getElem?_set_self hl];rfl
theorem pn {st:AS}{t d:Nat}{w:AV}(h:d≠t):(st.put (some d) w).get t=st.get t:=by unfold AS.get AS.put;simp only[fV,aq h]
theorem wX {X:List Nat}{o:Oper}{st s:AS}{t i d:Nat}(ho:o.op=.extract (.tmp t) i)(hd:o.dst=some d)(hg:o.guard=none):stepG E Γ an ops X o st=some s↔ ∃vs g cs,st.get t=.tup vs∧nth vs i=some (g,cs)∧(cs.all AC.ew||an.mv.contains d)=true∧s=(st.put (some t) (.tup (fD vs i (g,aN 0 cs)))).put (some d) (.val g cs):=by
 unfold stepG;simp only[c9,ho,hd];constructor;intro h;cases hv:st.get t with|val g cs=>simp only[hv,ah,eX,hg,cj,ho,iD]at h;cases h|tup vs=>simp only[hv]at h;cases hn:nth vs i with|none=>simp only[hn,ah,eX,hg,cj,ho,iD,hv]at h;cases h|some x=>obtain⟨g,cs⟩:=x;simp only[hn]at h;cases hf:(cs.all AC.ew||an.mv.contains d)with|false=>rw[hf]at h;cases h|true=>rw[hf]at h;simp only[ah,eX,hg,cj,ho,iD,hv,hn,hd]at h;cases h;exact⟨vs,g,cs,rfl,hn,hf,rfl⟩
 rintro⟨vs,g,cs,hv,hn,hf,rfl⟩;simp only[hv,hn,hf,ah,eX,hg,cj,ho,iD,hd]
theorem Tm {α:Type}(l:List α)(i:Nat)(v w:α):fD (fD l i v) i w=fD l i w:=by rw[dz,dz,dz,dh]
theorem Uo {X Y:List Nat}{o p:Oper}{st s1 s2:AS}(ha:OQ o p=true)(h1:stepG E Γ an ops X o st=some s1)(h2:stepG E Γ an ops Y p s1=some s2): ∃t1,stepG E Γ an ops Y p st=some t1∧stepG E Γ an ops X o t1=some s2:=by
 unfold OQ at ha;split at ha;rename_i t i t' j d d' ho hp hd hd' hg hg';simp only[aj,bj,aY,beq_eq_false_iff_ne,ne_eq]at ha;obtain⟨⟨⟨⟨rfl,hij⟩,hdd⟩,hdt⟩,hdt'⟩:=ha;obtain⟨vs,g,cs,hv,hn,hf,rfl⟩:=(wX ho hd hg).1 h1;obtain⟨vs2,g2,cs2,hv2,hn2,hf2,rfl⟩:=(wX hp hd' hg').1 h2;have hq:((st.put (some t) (.tup (fD vs i (g,aN 0 cs)))).put (some d) (.val g cs)).get t=.tup (fD vs i (g,aN 0 cs)):=by rw[pn hdt,B8 hv (by simp)]
 rw[hq]at hv2;cases hv2;rw[fV,aq hij]at hn2;refine⟨_,(wX hp hd' hg').2 ⟨vs,g2,cs2,hv,hn2,hf2,rfl⟩,(wX ho hd hg).2 ⟨fD vs j (g2,aN 0 cs2),g,cs,?_,?_,hf,?_⟩⟩;rw[pn hdt',B8 hv (by simp)];rw[fV,aq (bT hij)];exact hn;have e:=gr vs hij (g,aN 0 cs) (g2,aN 0 cs2);have a:∀(A B:AV)(q:Nat)(v:AV),q≠t→fD (fD (fD st.slots t A) q v) t B=fD (fD st.slots t B) q v:=λA B q v hq=>by rw[gr _ hq,Tm]
 simp only[AS.put,AS.mk.injEq,fG];rw[a _ _ _ _ hdt,a _ _ _ _ hdt',e,gr _ hdd];cases ha
theorem Rr (s:AS)(t:Nat):s.put (some t) (s.get t)=s:=by cases s with|mk slots boxes ep iss io=>simp only[AS.put,AS.mk.injEq,fG];rw[dz];apply List.ext_getElem?;intro i;rw[List.getElem?_set];split;rename_i hd;subst hd;simp only[AS.get,cR];split;rename_i hlt;rw[List.getElem?_eq_getElem hlt];rfl;rename_i hge;rw[List.getElem?_eq_none (Nat.le_of_not_lt hge)];rfl
theorem NA {X:List Nat}{o:Oper}{st s:AS}{d t:Nat}(hd:o.dst=some d)(hg:o.guard=none)(ho:(o.op=.move (.tmp t)∧an.mv.contains d=false∧an.fm.contains d=true)∨∃i,o.op=.extract (.tmp t) i)(_hdt:d≠t)(h:stepG E Γ an ops X o st=some s): ∃tv v,s=(st.put (some t) tv).put (some d) v∧∀st2:AS,st2.get t=st.get t→stepG E Γ an ops X o st2=some ((st2.put (some t) tv).put (some d) v):=by
 rcases ho with⟨ho,hmv,hfm⟩|⟨i,ho⟩;have hrd:∀st2:AS,st2.get t=st.get t→(st.rd (.tmp t)).ib=true→st2.rd (.tmp t)=st.get t:=by
  intro st2 hq hs;simp only[AS.rd,hq]at hs⊢;cases hv:st.get t with
  |tup vs=>rw[hv]at hs;simp[AV.borrow,AV.ib]at hs
  |val g cs=>
   rw[hv]at hs;simp only[AV.borrow,AV.ib]at hs⊢;congr 1;have key:∀(cs:List AC)(j:Nat),(pT st.ep (λj=>gE.slot t j) j cs).all AC.ib=true→pT st2.ep (λj=>gE.slot t j) j cs=cs:=by
    intro cs;induction cs with
    |nil=>intro j _;rfl
    |cons c cs ih=>
     intro j h;simp only[pT,bD,aj]at h⊢;rw[ih (j+1) h.2];congr 1;cases c with
     |sl fl e xs=>cases fl with|holed _ _ ep=>cases ep<;>simp[AC.borrow,AC.ib]at h|_=>simp[AC.borrow,AC.ib]at h
     |_=>rfl
   exact key cs 0 hs
 unfold stepG at h;have hst:(st.rd (.tmp t)).ib=true:=by cases hs:(st.rd (.tmp t)).ib with|true=>rfl|false=>simp only[c9,ho,Ut,hd,hfm,hs]at h;cases h
 refine⟨st.get t,st.get t,?_,λst2 hq=>?_⟩;simp only[c9,ho,Ut,hd,hfm,hst,Bool.or_true,ah,eX,hg,cj,xb,hmv,aQ,bF]at h;cases h;rw[hrd st rfl hst];congr 1;exact(Rr st t).symm;unfold stepG;have e1:=hrd st2 hq hst;have hst2:(st2.rd (.tmp t)).ib=true:=by rw[e1,←hrd st rfl hst];exact hst
 simp only[c9,ho,Ut,hd,hfm,hst2,Bool.or_true,ah,eX,hg,cj,xb,hmv,aQ,bF];rw[e1,←hq,Rr];obtain⟨vs,g,cs,hv,hn,hf,rfl⟩:=(wX ho hd hg).1 h;refine⟨_,_,rfl,λst2 hq=>(wX ho hd hg).2 ⟨vs,g,cs,by rw[hq,hv],hn,hf,rfl⟩⟩
theorem Yu {Y:List Nat}{p:Oper}{T:TypeId}{q x:Nat}(hp:p.op=.store T (.tmp q) (.tmp x))(hd:p.dst=none)(hg:p.guard=none)(heb:(an.eb q).isSome=true)(hes:(an.es q).isNone=true)(hsb:(an.sb q).isNone=true)(hl:u9 an p=false){st s:AS}(h:stepG E Γ an ops Y p st=some s): ∃B,s=⟨fD st.slots x ((st.get x).aN st.ep),B,st.ep+1,st.iss,st.io⟩∧ ∀st2:AS,st2.get q=st.get q→st2.get x=st.get x→st2.boxes=st.boxes→st2.ep=st.ep→st2.iss=st.iss→st2.io=st.io→ stepG E Γ an ops Y p st2=some ⟨fD st2.slots x ((st.get x).aN st.ep),B,st.ep+1,st.iss,st.io⟩:=by
 have hfree:∀st2:AS,st2.get q=st.get q→st2.ep=st.ep→c9 E an Y p st2=c9 E an Y p st:=by intro st2 h1 h2;simp only[c9,hp,AS.rd,h1,h2]
 unfold stepG at h;cases hf:c9 E an Y p st with
 |false=>rw[hf]at h;cases h
 |true=>
  rw[hf]at h;simp only[ah,eX,hg,cj,hp,hd,hl,aQ,bF]at h;have hfr:=hf;simp only[c9,hp]at hfr;have hnn:((an.sb q).isNone&&(an.eb q).isNone&&(an.es q).isNone)=false:=by cases he:an.eb q with|none=>rw[he]at heb;cases heb|some _=>simp
  rw[hnn,cB]at hfr;unfold rX at h;split at h;rename_i hrd;rw[hrd]at hfr;simp only[aj,bj]at hfr;rw[hfr.2]at hsb;cases hsb;rename_i sh ep0 r tg e y i off hT hrd;rw[hrd]at hfr;cases r with
  |slot _ _=>simp only[aj,bj]at hfr;rw[hfr.1.1]at hes;cases hes
  |io _=>simp at hfr
  |box b j=>
   split at h;rename_i gg vs st1 htk;have e1:(st.get x)=.val gg vs:=by have:=congrArg Prod.fst htk;exact this
   have e2:st1=⟨fD st.slots x ((st.get x).aN st.ep),st.boxes,st.ep,st.iss,st.io⟩:=by have:=congrArg Prod.snd htk;exact this.symm
   split at h;rename_i hlen;have main:∃B,∀sl:List AV,(⟨sl,st.boxes,st.ep,st.iss,st.io⟩:AS).lq (.box b j) tg e i off vs some=some ⟨sl,B,st.ep+1,st.iss,st.io⟩:=by
    subst e2;simp only[AS.lq,AS.dU,AS.dy,AS.dB]at h⊢;cases hb:(nth st.boxes b).getD none with
    |none=>rw[hb]at h;simp at h
    |some cs=>
     rw[hb]at h;simp only[dq]at h⊢;split at h;rename_i t' e' xs hn;split at h;rename_i he;simp only[dif_pos he];generalize (he▸xs:List e.D)=zs at h⊢;split at h;rename_i ht;simp only[ay ht];cases hi:idx zs i with|none=>rw[hi]at h;simp[aa]at h|some y0=>simp only[hi,aa]at h⊢;split at h;exact⟨_,λsl=>rfl⟩;cases h
     cases h;cases h;rename_i t' i' q0 e' xs hn;split at h;rename_i he;simp only[dif_pos he];generalize (he▸xs:List e.D)=zs at h⊢;split at h;rename_i ht;simp only[ay ht];cases hi:idx zs i with|none=>rw[hi]at h;simp[aa]at h|some y0=>simp only[hi,aa]at h⊢;split at h;exact⟨_,λsl=>rfl⟩;cases h
     cases h;cases h;cases h
   obtain⟨B,hB⟩:=main;refine⟨B,?_,λst2 h1 h2 h3 h4 h5 h6=>?_⟩;subst e2;rw[hB]at h;exact(cp h).symm;unfold stepG;rw[hfree st2 h1 h4,hf];have r2:st2.rd (.tmp q)=st.rd (.tmp q):=by simp only[AS.rd,h1,h4]
   have t2:st2.take (.tmp x)=(.val gg vs,⟨fD st2.slots x ((st.get x).aN st.ep),st.boxes,st.ep,st.iss,st.io⟩):=by simp only[AS.take,AS.put,h2,h3,h4,h5,h6,e1]
   simp only[ah,eX,hg,cj,hp,hd,hl,aQ,bF,rX,hT,r2,hrd,t2];rw[ay hlen];exact hB _;cases h;cases h
  cases h
theorem T6 {Y:List Nat}{p:Oper}{T:TypeId}{q x:Nat}(hp:p.op=.store T (.tmp q) (.tmp x))(hd:p.dst=none)(hg:p.guard=none){b:Nat}(hes:an.es q=some b)(heb:(an.eb q).isNone=true)(hbx:b≠x)(hsb:(an.sb q).isNone=true)(hl:u9 an p=false){st s:AS}(h:stepG E Γ an ops Y p st=some s): ∃B,s=⟨fD (fD st.slots x ((st.get x).aN st.ep)) b B,st.boxes,st.ep+1,st.iss,st.io⟩∧ ∀st2:AS,st2.get q=st.get q→st2.get x=st.get x→nth st2.slots b=nth st.slots b→st2.boxes=st.boxes→st2.ep=st.ep→st2.iss=st.iss→st2.io=st.io→ stepG E Γ an ops Y p st2=some ⟨fD (fD st2.slots x ((st.get x).aN st.ep)) b B,st.boxes,st.ep+1,st.iss,st.io⟩:=by
 have hfree:∀st2:AS,st2.get q=st.get q→st2.ep=st.ep→c9 E an Y p st2=c9 E an Y p st:=by intro st2 h1 h2;simp only[c9,hp,AS.rd,h1,h2]
 unfold stepG at h;cases hf:c9 E an Y p st with
 |false=>rw[hf]at h;cases h
 |true=>
  rw[hf]at h;simp only[ah,eX,hg,cj,hp,hd,hl,aQ,bF]at h;have hfr:=hf;simp only[c9,hp]at hfr;have hnn:((an.sb q).isNone&&(an.eb q).isNone&&(an.es q).isNone)=false:=by rw[hes];simp
  rw[hnn,cB]at hfr;unfold rX at h;split at h;rename_i hrd;rw[hrd]at hfr;simp only[aj,bj]at hfr;rw[hfr.2]at hsb;cases hsb;rename_i sh ep0 r tg e y i off hT hrd;rw[hrd]at hfr;cases r with
  |box _ _=>simp only[aj,bj]at hfr;rw[hfr.1.1]at heb;cases heb
  |io _=>simp at hfr
  |slot b' j=>
   simp only[aj,bj]at hfr;have hbb:b'=b:=cp (hfr.1.1.symm.trans hes);subst hbb;split at h;rename_i gg vs st1 htk;have e1:(st.get x)=.val gg vs:=by have:=congrArg Prod.fst htk;exact this
   have e2:st1=⟨fD st.slots x ((st.get x).aN st.ep),st.boxes,st.ep,st.iss,st.io⟩:=by have:=congrArg Prod.snd htk;exact this.symm
   split at h;rename_i hlen;have main:∃B,∀sl:List AV,nth sl b'=nth st.slots b'→(⟨sl,st.boxes,st.ep,st.iss,st.io⟩:AS).lq (.slot b' j) tg e i off vs some=some ⟨fD sl b' B,st.boxes,st.ep+1,st.iss,st.io⟩:=by
    subst e2;have hget:∀sl:List AV,nth sl b'=nth st.slots b'→(⟨sl,st.boxes,st.ep,st.iss,st.io⟩:AS).get b'=st.get b':=λsl hq=>by unfold AS.get;rw[hq]
    have hq0:nth (fD st.slots x ((st.get x).aN st.ep)) b'=nth st.slots b':=by rw[fV,aq (bT hbx)]
    simp only[AS.lq,AS.dU,AS.dy,hget _ hq0]at h;cases hb:st.get b' with
    |tup _=>rw[hb]at h;simp at h
    |val g0 cs=>
     rw[hb]at h;simp only at h;split at h;rename_i t' e' xs hn;split at h;rename_i he;split at h;rename_i ht;cases hi:idx (he▸xs:List e.D) i with|none=>rw[hi]at h;simp[aa]at h|some y0=>simp only[hi,aa]at h;split at h;rename_i x' hx';refine⟨.val g0 (fD cs j (.sl (.own (some t')) e ((he▸xs:List e.D).set i.toNat x'))),λsl hq=>?_⟩;simp only[AS.lq,AS.dU,AS.dy,hget _ hq,hb,hn,dif_pos he,ay ht,hi,aa,hx',AS.put];cases h
     cases h;cases h;rename_i t' i' q0 e' xs hn;split at h;rename_i he;split at h;rename_i ht;cases hi:idx (he▸xs:List e.D) i with|none=>rw[hi]at h;simp[aa]at h|some y0=>simp only[hi,aa]at h;split at h;rename_i x' hx';refine⟨.val g0 (fD cs j (.sl (.own (some t')) e ((he▸xs:List e.D).set i.toNat x'))),λsl hq=>?_⟩;simp only[AS.lq,AS.dU,AS.dy,hget _ hq,hb,hn,dif_pos he,ay ht,hi,aa,hx',AS.put];cases h
     cases h;cases h;cases h
   obtain⟨B,hB⟩:=main;refine⟨B,?_,λst2 h1 h2 hnb h3 h4 h5 h6=>?_⟩;subst e2;rw[hB _ (by rw[fV,aq (bT hbx)])]at h;exact(cp h).symm;unfold stepG;rw[hfree st2 h1 h4,hf];have r2:st2.rd (.tmp q)=st.rd (.tmp q):=by simp only[AS.rd,h1,h4]
   have t2:st2.take (.tmp x)=(.val gg vs,⟨fD st2.slots x ((st.get x).aN st.ep),st.boxes,st.ep,st.iss,st.io⟩):=by simp only[AS.take,AS.put,h2,h3,h4,h5,h6,e1]
   simp only[ah,eX,hg,cj,hp,hd,hl,aQ,bF,rX,hT,r2,hrd,t2];rw[ay hlen];exact hB _ (by rw[fV,aq (bT hbx)];exact hnb);cases h;cases h
  cases h
theorem Yt {X Y:List Nat}{o p:Oper}{st s1 s2:AS}(ha:OH an o p=true)(h1:stepG E Γ an ops X o st=some s1)(h2:stepG E Γ an ops Y p s1=some s2): ∃t1,stepG E Γ an ops Y p st=some t1∧stepG E Γ an ops X o t1=some s2:=by
 unfold OH at ha;split at ha;rename_i T q x hp hpd hpg;simp only[aj,aY]at ha;obtain⟨⟨⟨heb,hsb⟩,hl⟩,ha⟩:=ha;have hcore:∃d t,o.dst=some d∧o.guard=none∧((o.op=.move (.tmp t)∧an.mv.contains d=false∧an.fm.contains d=true)∨∃i,o.op=.extract (.tmp t) i)∧d≠q∧d≠x∧t≠x∧d≠t∧t≠q:=by split at ha;rename_i t d ho hd hg;simp only[aj,aY,beq_eq_false_iff_ne]at ha;exact⟨d,t,hd,hg,.inl ⟨ho,ha.1.1.1.1.1.1,ha.1.1.1.1.1.2⟩,ha.1.1.1.1.2,ha.1.1.1.2,ha.1.1.2,ha.2,ha.1.2⟩;rename_i t i d ho hd hg;simp only[aj,aY,beq_eq_false_iff_ne]at ha;exact⟨d,t,hd,hg,.inr ⟨i,ho⟩,ha.1.1.1.1,ha.1.1.1.2,ha.1.1.2,ha.2,ha.1.2⟩;cases ha
 obtain⟨d,t,hd,hg,ho,hdq,hdx,htx,hdt,htq⟩:=hcore;obtain⟨tv,v,rfl,hrun⟩:=NA hd hg ho hdt h1;have hq:((st.put (some t) tv).put (some d) v).get q=st.get q:=by rw[pn hdq];exact pn htq
 have hx:((st.put (some t) tv).put (some d) v).get x=st.get x:=by rw[pn hdx,pn htx]
 simp only[cn,aj]at heb;rcases heb with⟨heb,hes⟩|hes;obtain⟨B,rfl,hgo⟩:=Yu hp hpd hpg heb hes hsb hl h2;have k1:=hgo st hq.symm hx.symm rfl rfl rfl rfl;refine⟨_,k1,?_⟩;have hg2:(⟨fD st.slots x ((((st.put (some t) tv).put (some d) v).get x).aN ((st.put (some t) tv).put (some d) v).ep),B,((st.put (some t) tv).put (some d) v).ep+1,((st.put (some t) tv).put (some d) v).iss,((st.put (some t) tv).put (some d) v).io⟩:AS).get t=st.get t:=by simp only[AS.get,fV,aq (bT htx)]
 rw[hrun _ hg2];simp only[AS.put,aS,AS.mk.injEq,fG];rw[gr _ (bT htx),gr _ (bT hdx)];cases hb:an.es q with
 |none=>rw[hb]at hes;cases hes
 |some b=>
  rw[hb]at hes;simp only[aj,aY,beq_eq_false_iff_ne]at hes;obtain⟨⟨⟨heb,hbx⟩,_⟩,hbw⟩:=hes;have hbw:=mN hbw b (by simp);have hbd:b≠d:=λe=>hbw (by simp[hd,e]);have hbt:b≠t:=λe=>hbw (by refine ar.2 (.inr ?_);rcases ho with⟨ho,_⟩|⟨i,ho⟩<;>simp[cU,ho,tm,e]);obtain⟨B,rfl,hgo⟩:=T6 hp hpd hpg hb heb hbx hsb hl h2;have hnb:nth st.slots b=nth ((st.put (some t) tv).put (some d) v).slots b:=by simp only[AS.put,fV,aq (bT hbd),aq (bT hbt)]
  have k1:=hgo st hq.symm hx.symm hnb rfl rfl rfl rfl;refine⟨_,k1,?_⟩;have hg2:(⟨fD (fD st.slots x ((((st.put (some t) tv).put (some d) v).get x).aN ((st.put (some t) tv).put (some d) v).ep)) b B,((st.put (some t) tv).put (some d) v).boxes,((st.put (some t) tv).put (some d) v).ep+1,((st.put (some t) tv).put (some d) v).iss,((st.put (some t) tv).put (some d) v).io⟩:AS).get t=st.get t:=by simp only[AS.get,fV,aq (bT htx),aq hbt]
  rw[hrun _ hg2];simp only[AS.put,aS,AS.mk.injEq,fG];rw[gr _ hbt,gr _ hbd,gr _ (bT htx),gr _ (bT hdx)]
 cases ha
theorem La {c:AC}{ep:Nat}(h:c.ib=true∨(c.borrow ep none).ib=true):c.borrow ep none=c:=by
 cases c with
 |sl fl e xs=>exfalso;cases fl with|holed _ _ ep=>cases ep<;>simp[AC.borrow,AC.ib]at h|_=>simp[AC.borrow,AC.ib]at h
 |_=>rfl
theorem G5 {cs:List AC}{off n ep:Nat}(hfit:off+n≤cs.length)(k:Nat):(cf cs off (aN ep ((cs.drop off).take n)))[k]?=(cs[k]?).map λc=>if off≤k∧k<off+n then c.borrow ep none else c:=by
 have hl:(aN ep ((cs.drop off).take n)).length=n:=by simp[aN];omega
 unfold cf;rw[hl];by_cases h1:k<off;rw[aE,List.getElem?_append_left (by simp;omega),List.getElem?_take_of_lt h1];have:(λc:AC=>if off≤k∧k<off+n then c.borrow ep none else c)=id:=by funext c;rw[aq (by omega)];rfl
 rw[this,Option.map_id];rfl;by_cases h2:k<off+n;rw[List.getElem?_append_left (by simp[hl];omega),List.getElem?_append_right (by simp;omega)];have e:k-(cs.take off).length=k-off:=by simp;omega
 rw[e,aN,List.getElem?_map,List.getElem?_take_of_lt (by omega),List.getElem?_drop,show off+(k-off)=k by omega];congr 1;funext c;rw[ay (by omega)];rw[List.getElem?_append_right (by simp[hl];omega)];have e:k-(cs.take off++aN ep ((cs.drop off).take n)).length=k-(off+n):=by simp[hl];omega
 rw[e,List.getElem?_drop,show off+n+(k-(off+n))=k by omega];have:(λc:AC=>if off≤k∧k<off+n then c.borrow ep none else c)=id:=by funext c;rw[aq (by omega)];rfl
 rw[this,Option.map_id];rfl
theorem CL {cs:List AC}{off n ep o2 n2:Nat}(hfit:off+n≤cs.length)(h:((cs.drop o2).take n2).all AC.ib=true∨(((cf cs off (aN ep ((cs.drop off).take n))).drop o2).take n2).all AC.ib=true): ((cf cs off (aN ep ((cs.drop off).take n))).drop o2).take n2=(cs.drop o2).take n2:=by
 apply List.ext_getElem?;intro k;by_cases hk:k<n2;rw[List.getElem?_take_of_lt hk,List.getElem?_take_of_lt hk,List.getElem?_drop,List.getElem?_drop,G5 hfit];cases hc:cs[o2+k]? with|none=>rfl|some c=>simp only[cg];split;rename_i hin;refine congrArg some (La ?_);rcases h with h|h;left;refine bd.1 h c (List.mem_of_getElem? (i:=k) ?_);rw[List.getElem?_take_of_lt hk,List.getElem?_drop,hc];right;refine bd.1 h _ (List.mem_of_getElem? (i:=k) ?_);rw[List.getElem?_take_of_lt hk,List.getElem?_drop,G5 hfit,hc,cg,ay hin];rfl
 rw[List.getElem?_eq_none (by simp;omega),List.getElem?_eq_none (by simp;omega)]
theorem DH {b ep:Nat}:∀{cs:List AC}{j:Nat},cs.all AC.ib=true→pT ep (.box b) j cs=cs
 |[],_,_=>rfl
 |c::cs,j,h=>by simp only[bD,aj]at h;rw[pT,DH h.2];congr 1;cases c<;>first|rfl|(simp[AC.ib]at h)
theorem Hc {o:Oper}(h:zV an o=true):∃T q d,o.op=.load T (.tmp q)∧o.dst=some d∧o.guard=none∧an.mv.contains d=true∧(an.mb d).isSome=true:=by unfold zV at h;split at h;rename_i T q d ho hd hg;simp only[aj]at h;exact⟨T,q,d,ho,hd,hg,h.1,h.2⟩;cases h
theorem Gb {o:Oper}(h:Ga an o=true):∃T q d,o.op=.load T (.tmp q)∧o.dst=some d∧o.guard=none∧an.mv.contains d=false∧an.fm.contains d=true:=by unfold Ga at h;split at h;rename_i T q d ho hd hg;simp only[aj,aY]at h;exact⟨T,q,d,ho,hd,hg,h.1,h.2⟩;cases h
theorem AA {X:List Nat}{o:Oper}{T:TypeId}{q d:Nat}(ht:zV an o=true)(ho:o.op=.load T (.tmp q))(hd:o.dst=some d)(hg:o.guard=none)(hmv:an.mv.contains d=true){st s:AS}:stepG E Γ an ops X o st=some s↔ ∃sh b off cs,gK E.ty T=some sh∧st.rd (.tmp q)=.val false [.ptr b off]∧(nth st.boxes b).getD none=some cs∧off+sh.ct.size≤cs.length∧X.contains b=false∧an.mb d=some b∧(Ut an o=true→zl E T st b off=true)∧ s=(st.dB b (some (cf cs off (aN st.ep ((cs.drop off).take sh.ct.size))))).put (some d) (.val sh.agg ((cs.drop off).take sh.ct.size)):=by
 have key:c9 E an X o st=true→∀r,cj E Γ an o st some=some r→∃b off,st.rd (.tmp q)=.val false [.ptr b off]:=by intro hf r hr;simp only[cj,ho,qZ]at hr;split at hr;rename_i hp;exact⟨_,_,hp⟩;rename_i hp;simp only[c9,ho,hp,ht,Bool.or_true,al,gh]at hf;cases hf;cases hr
 unfold stepG;constructor;intro h;cases hf:c9 E an X o st with|false=>rw[hf]at h;cases h|true=>rw[hf]at h;simp only[ah,eX,hg]at h;obtain⟨b,off,hp⟩:=key hf s h;simp only[c9,ho,hp,hd,hmv,al,cB,aj,aY,bj,cn]at hf;simp only[cj,ho,qZ,hp]at h;cases hT:gK E.ty T with|none=>rw[hT]at h;cases h|some sh=>rw[hT]at h;simp only at h;cases hb:(nth st.boxes b).getD none with|none=>rw[hb]at h;cases h|some cs=>rw[hb]at h;simp only at h;split at h;rename_i hfit;simp only[hd,hmv,bl]at h;cases h;refine⟨sh,b,off,cs,rfl,hp,hb,hfit,hf.1.1,hf.1.2,λhm=>?_,rfl⟩;rcases hf.2 with g|g;rw[hm]at g;cases g;exact g;cases h
 rintro⟨sh,b,off,cs,hT,hp,hb,hfit,hX,hmb,hfm,rfl⟩;have hf:c9 E an X o st=true:=by simp only[c9,ho,hp,hd,hmv,hX,hmb,al,cB,aj,aY,bj,cn];refine⟨⟨trivial,trivial⟩,?_⟩;cases hm:Ut an o with|false=>exact .inl rfl|true=>exact .inr (hfm hm)
 rw[hf];simp only[ah,eX,hg,cj,ho,qZ,hp,hT,hb,ay hfit,hd,hmv,bl]
theorem Ah {X:List Nat}{o:Oper}{T:TypeId}{q d:Nat}(ho:o.op=.load T (.tmp q))(hd:o.dst=some d)(hg:o.guard=none)(hmv:an.mv.contains d=false)(hfm:an.fm.contains d=true){st s:AS}:stepG E Γ an ops X o st=some s↔ ∃sh b off cs,gK E.ty T=some sh∧st.rd (.tmp q)=.val false [.ptr b off]∧(nth st.boxes b).getD none=some cs∧off+sh.ct.size≤cs.length∧X.contains b=false∧((cs.drop off).take sh.ct.size).all AC.ib=true∧ s=st.put (some d) (.val sh.agg ((cs.drop off).take sh.ct.size)):=by
 have hfb:Ut an o=true:=by simp only[Ut,hd,hfm]
 have key:c9 E an X o st=true→∀r,cj E Γ an o st some=some r→∃b off,st.rd (.tmp q)=.val false [.ptr b off]:=by intro hf r hr;simp only[cj,ho,qZ]at hr;split at hr;rename_i hp;exact⟨_,_,hp⟩;rename_i hp;simp only[c9,ho,hp,hfb,Bool.true_or,al,gh]at hf;cases hf;cases hr
 unfold stepG;constructor;intro h;cases hf:c9 E an X o st with
 |false=>rw[hf]at h;cases h
 |true=>
  rw[hf]at h;simp only[ah,eX,hg]at h;obtain⟨b,off,hp⟩:=key hf s h;simp only[c9,ho,hp,hd,hmv,hfb,al,cA,Bool.true_or,cB,Bool.and_true,aj,aY]at hf;simp only[cj,ho,qZ,hp]at h;cases hT:gK E.ty T with
  |none=>rw[hT]at h;cases h
  |some sh=>
   rw[hT]at h;simp only at h;cases hb:(nth st.boxes b).getD none with
   |none=>rw[hb]at h;cases h
   |some cs=>
    rw[hb]at h;simp only at h;split at h;rename_i hfit;have hst:((cs.drop off).take sh.ct.size).all AC.ib=true:=by have:=hf.2;unfold zl at this;rw[hT,hb]at this;exact this
    simp only[hd,hmv,aQ,bF,DH hst]at h;cases h;exact⟨sh,b,off,cs,rfl,hp,hb,hfit,hf.1,hst,rfl⟩;cases h
 rintro⟨sh,b,off,cs,hT,hp,hb,hfit,hX,hst,rfl⟩;have hf:c9 E an X o st=true:=by simp only[c9,ho,hp,hd,hmv,hX,hfb,zl,hT,hb,hst];rfl
 rw[hf];simp only[ah,eX,hg,cj,ho,qZ,hp,hT,hb,ay hfit,hd,hmv,aQ,bF,DH hst]
theorem Rt {st:AS}{q d:Nat}{v:AV}(h:d≠q):(st.put (some d) v).rd (.tmp q)=st.rd (.tmp q):=by simp only[AS.rd,pn h];rfl
theorem VI {st:AS}{q b:Nat}{cs:Option (List AC)}:(st.dB b cs).rd (.tmp q)=st.rd (.tmp q):=rfl
theorem TW {st:AS}{b:Nat}{cs x:List AC}(h:(nth st.boxes b).getD none=some cs):(nth (fD st.boxes b (some x)) b).getD none=some x:=by
 rw[fV,ay rfl];cases hn:nth st.boxes b with
 |none=>rw[hn]at h;cases h
 |some _=>
  have:b<st.boxes.length:=by rw[cR]at hn;exact(List.getElem?_eq_some_iff.1 hn).1
  rw[ay this];rfl
theorem TY {st:AS}{b b2:Nat}{x:List AC}(h:b≠b2):nth (fD st.boxes b (some x)) b2=nth st.boxes b2:=by rw[fV,aq h]
theorem YV {X Y:List Nat}{o p:Oper}{st s1 s2:AS}(ha:Pp an o p=true)(h1:stepG E Γ an ops X o st=some s1)(h2:stepG E Γ an ops Y p s1=some s2): ∃t1,stepG E Γ an ops Y p st=some t1∧stepG E Γ an ops X o t1=some s2:=by
 simp only[Pp,aj,cn,aY]at ha;obtain⟨⟨ha,m1⟩,m2⟩:=ha;have m1:=mN m1;have m2:=mN m2;rcases ha with⟨ht,hf⟩|⟨hf,ht⟩;obtain⟨T,q,d,ho,hd,hg,hmv,hmb⟩:=Hc ht;obtain⟨T2,q2,d2,hp,hd2,hg2,hmv2,hfm2⟩:=Gb hf;have n1:d≠d2:=λe=>m1 d (by simp[hd]) (by simp[hd2,e]);have n2:d≠q2:=λe=>m1 d (by simp[hd]) (by simp[cU,hp,tm,e]);have n3:d2≠q:=λe=>m2 d2 (by simp[hd2]) (by simp[cU,ho,tm,e]);obtain⟨sh,b,off,cs,hT,hr,hb,hfit,hX,hmbe,hfm,rfl⟩:=(AA ht ho hd hg hmv).1 h1;obtain⟨sh2,b2,off2,cs2,hT2,hr2,hb2,hfit2,hX2,hst2,rfl⟩:=(Ah hp hd2 hg2 hmv2 hfm2).1 h2;rw[Rt n2,VI]at hr2;have hbx:(nth (fD st.boxes b (some (cf cs off (aN st.ep ((cs.drop off).take sh.ct.size))))) b2).getD none=some cs2:=hb2;have hfin:∃cs0,(nth st.boxes b2).getD none=some cs0∧off2+sh2.ct.size≤cs0.length∧(cs2.drop off2).take sh2.ct.size=(cs0.drop off2).take sh2.ct.size:=by
  by_cases hbb:b=b2;subst hbb;rw[TW hb]at hbx;cases hbx;have hlen:(cf cs off (aN st.ep ((cs.drop off).take sh.ct.size))).length=cs.length:=by simp only[cf,aN,ak,cL,bt,aV];omega
  exact⟨cs,hb,by omega,CL hfit (.inr hst2)⟩;rw[TY hbb]at hbx;exact⟨cs2,hbx,hfit2,rfl⟩
 obtain⟨cs0,hb0,hfit0,he⟩:=hfin;rw[he]at hst2⊢;refine⟨_,(Ah hp hd2 hg2 hmv2 hfm2).2 ⟨sh2,b2,off2,cs0,hT2,hr2,hb0,hfit0,hX2,hst2,rfl⟩,(AA ht ho hd hg hmv).2 ⟨sh,b,off,cs,hT,by rw[Rt n3];exact hr,hb,hfit,hX,hmbe,λhm=>?_,?_⟩⟩;have:=hfm hm;unfold zl at this⊢;exact this;simp only[AS.put,AS.dB,AS.mk.injEq,fG];exact gr _ n1 _ _;obtain⟨T,q,d,ho,hd,hg,hmv,hfm⟩:=Gb hf;obtain⟨T2,q2,d2,hp,hd2,hg2,hmv2,hmb2⟩:=Hc ht;have n1:d≠d2:=λe=>m1 d (by simp[hd]) (by simp[hd2,e]);have n2:d≠q2:=λe=>m1 d (by simp[hd]) (by simp[cU,hp,tm,e]);have n3:d2≠q:=λe=>m2 d2 (by simp[hd2]) (by simp[cU,ho,tm,e]);obtain⟨sh,b,off,cs,hT,hr,hb,hfit,hX,hst,rfl⟩:=(Ah ho hd hg hmv hfm).1 h1;obtain⟨sh2,b2,off2,cs2,hT2,hr2,hb2,hfit2,hX2,hmbe,hfm2,rfl⟩:=(AA ht hp hd2 hg2 hmv2).1 h2;rw[Rt n2]at hr2;refine⟨_,(AA ht hp hd2 hg2 hmv2).2 ⟨sh2,b2,off2,cs2,hT2,hr2,hb2,hfit2,hX2,hmbe,λhm=>hfm2 hm,rfl⟩,?_⟩;have hfin:∃cs0,(nth (fD st.boxes b2 (some (cf cs2 off2 (aN st.ep ((cs2.drop off2).take sh2.ct.size))))) b).getD none=some cs0∧off+sh.ct.size≤cs0.length∧(cs0.drop off).take sh.ct.size=(cs.drop off).take sh.ct.size:=by
  by_cases hbb:b2=b;subst hbb;have hcs:cs2=cs:=cp (hb2.symm.trans hb);subst hcs;have hlen:(cf cs2 off2 (aN st.ep ((cs2.drop off2).take sh2.ct.size))).length=cs2.length:=by simp only[cf,aN,ak,cL,bt,aV];omega
  exact⟨_,TW hb,by omega,CL hfit2 (.inl hst)⟩;exact⟨cs,by rw[TY hbb];exact hb,hfit,rfl⟩
 obtain⟨cs0,hb0,hfit0,he⟩:=hfin;refine(Ah ho hd hg hmv hfm).2 ⟨sh,b,off,cs0,hT,by rw[Rt n3,VI];exact hr,hb0,hfit0,hX,by rw[he];exact hst,?_⟩;rw[he];simp only[AS.put,AS.dB,AS.mk.injEq,fG];exact gr _ n1 _ _
def HQ (E:Env)(Γ:bH)(an:An)(ops:List Oper)(X:Nat→List Nat):List Nat→AS→Option AS
 |[],st=>some st
 |i::r,st=>match nth ops i with
  |some o=>(stepG E Γ an ops (X i) o st).bind (HQ E Γ an ops X r)
  |none=>none
theorem G0 (hΓ:∀f,(Γ f).io=false∧(Γ f).bx=false){X:Nat→List Nat}{i:Nat}{oi:Oper}(hi:nth ops i=some oi):∀(pre post:List Nat)(st r:AS),(∀j∈pre,∀oj,nth ops j=some oj→EI an ops (X j) (X i) oj oi=true)→
 HQ E Γ an ops X (pre++i::post) st=some r→HQ E Γ an ops X (i::(pre++post)) st=some r
 |[],post,st,r,_,h=>h
 |j::pre,post,st,r,ha,h=>by
  simp only[List.cons_append,HQ]at h;cases hj:nth ops j with
  |none=>rw[hj]at h;cases h
  |some oj=>
   rw[hj]at h;simp only at h;obtain⟨s1,h1,h2⟩:=aI.1 h;have h3:=G0 hΓ hi pre post s1 r (λk hk=>ha k (by simp[hk])) h2;simp only[HQ,hi]at h3;obtain⟨s2,h4,h5⟩:=aI.1 h3;have hap:=ha j (by simp) oj hj;obtain⟨t1,k1,k2⟩:∃t1,stepG E Γ an ops (X i) oi st=some t1∧stepG E Γ an ops (X j) oj t1=some s2:=by cases hx:VE an oj oi with|false=>rw[EI,hx,cB]at hap;exact P3 hΓ hap h1 h4|true=>simp only[VE,cn]at hx;rcases hx with(hx|hx)|hx;exact Uo hx h1 h4;exact Yt hx h1 h4;exact YV hx h1 h4
   simp only[HQ,hi,k1,dq,List.cons_append,hj,k2];exact h5
end Go.Dn
