import Derived.Test.YtjoicgadhgkphacGreatDnUpd
/- Operations that are apart may change places. -/
namespace Go.Dn
variable {E:Env} {Γ:bH} {an:An} {ops:List Oper}
def stepG (E:Env)(Γ:bH)(an:An)(ops:List Oper)(X:List Nat)(o:Oper)(st:AS):Option AS:=
 bif da E an X o st then eZ E Γ an ops o st some else none
structure Jj (an:An) (ops:List Oper) (X:List Nat) (o:Oper) (st st2:AS):Prop where
 base:eN an X o st st2
 gd:∀t∈yX an ops o,st2.get t=st.get t
theorem NG {st:AS}{d:Nat}{b:Bool}(h:st.get d=.val false [.bool b]):st.put (some d) (.one (.bool b))=st:=by cases st with|mk slots boxes ep iss io=>simp only[AS.put,AS.mk.injEq,fH];rw[dD];apply List.ext_getElem?;intro i;rw[List.getElem?_set];split;rename_i hd;subst hd;simp only[AS.get,cR]at h;split;rename_i hlt;rw[List.getElem?_eq_getElem hlt]at h⊢;simp only[dq]at h;rw[h];rename_i hge;rw[List.getElem?_eq_none (Nat.le_of_not_lt hge)];rfl
theorem Kz {T:TypeId}{st st2:AS}{s off:Nat}(h:nth st2.boxes s=nth st.boxes s):yW E T st2 s off=yW E T st s off:=by unfold yW;rw[h]
theorem Ba {X:List Nat}{o:Oper}{st st2:AS}(ha:eN an X o st st2):da E an X o st2=da E an X o st:=by
 unfold da;split;rename_i ho;rw[ha.rd (λt ht=>by simpa[cW,ho]using ht)];rename_i T p ho;rw[ha.rd (λt ht=>by simp[cW,ho,ht]),ha.ep];rename_i ho;rw[ha.rd (λt ht=>by simp[cW,ho,ht]),ha.ep];rename_i f args ts ho;rw[bX];simp only[aU];constructor;intro hx x hm;have:=hx x hm;rwa[ha.rd (λt ht=>by simp only[cW,ho,ar,Lo,List.mem_flatMap];exact .inr ⟨x,hm,ht⟩),ha.ep]at this;intro hx x hm;rw[ha.rd (λt ht=>by simp only[cW,ho,ar,Lo,List.mem_flatMap];exact .inr ⟨x,hm,ht⟩),ha.ep];exact hx x hm;rename_i ho;rw[ha.rd (λt ht=>by simpa[cW,ho]using ht),ha.ep];split;rename_i s off _;cases hX:X.contains s with|true=>rfl|false=>rw[Kz (ha.box s hX)]
 rfl;rfl;rename_i ho;rw[ha.rd (λt ht=>by simp only[cW,ho,ar];exact .inl ht)];rename_i ho;rw[ha.get _ (by simp[cW,ho])];rfl
theorem DQ (hΓ:∀f,(Γ f).io=false∧(Γ f).bx=false){X:List Nat}{o:Oper}{st st':AS}(hm:jQ an o=true)(h:stepG E Γ an ops X o st=some st'): ∃u:Dt,u.AP an o∧st'=u.apply st∧∀st2,Jj an ops X o st st2→stepG E Γ an ops X o st2=some (u.apply st2):=by
 unfold stepG at h;cases hf:da E an X o st with
 |false=>rw[hf]at h;cases h
 |true=>
  rw[hf]at h;simp only[ai]at h;unfold eZ at h;split at h;rename_i hg;obtain⟨u,h1,h2,h3⟩:=G6 (X:=X) hΓ hm hf h;refine⟨u,h1,h2,λst2 ha=>?_⟩;unfold stepG;rw[Ba ha.base,hf];simp only[ai,eZ,hg];exact h3 st2 ha.base;rename_i j want hg;split at h;rename_i d hd;have hin:d∈yX an ops o:=by simp[yX,hg,hd]
  split at h;rename_i b hb;have hgo:(if(b==want)=true then cf E Γ an o st some else some (st.put o.dst (.one .un)))=some st':=by cases b<;>simpa only[ai,af,NG hb]using h
  have h2g:∀st2,Jj an ops X o st st2→stepG E Γ an ops X o st2=(if(b==want)=true then cf E Γ an o st2 some else some (st2.put o.dst (.one .un))):=by
   intro st2 ha;have hb2:st2.get d=.val false [.bool b]:=by rw[ha.gd d hin];exact hb
   unfold stepG;rw[Ba ha.base,hf];simp only[ai,eZ,hg,hd,hb2];cases b<;>simp only[ai,af,NG hb2]
  split at hgo;rename_i hw;obtain⟨u,h1,h2,h3⟩:=G6 (X:=X) hΓ hm hf hgo;exact⟨u,h1,h2,λst2 ha=>by rw[h2g st2 ha,ay hw];exact h3 st2 ha.base⟩;rename_i hw;cases hgo;exact⟨yl o (.one .un),wK _,by rw[nA],λst2 ha=>by rw[h2g st2 ha,ao hw,nA]⟩;rename_i hb;cases h;refine⟨yl o (.one .un),wK _,by rw[nA],λst2 ha=>?_⟩;have hb2:st2.get d=.val false [.un]:=by rw[ha.gd d hin];exact hb
  unfold stepG;rw[Ba ha.base,hf,nA];simp only[ai,eZ,hg,hd,hb2];cases h;cases h
theorem gn {α:Type}(l:List α){i j:Nat}(h:i≠j)(v w:α):fD (fD l i v) j w=fD (fD l j w) i v:=by rw[dD,dD,dD,dD,List.set_comm _ _ h]
theorem PZ (l:List AV)(a:List (Nat×AV)){i:Nat}(v:AV)(h:∀x∈a,x.1≠i):gy (fD l i v) a=fD (gy l a) i v:=by induction a generalizing l with|nil=>rfl|cons x a ih=>simp only[gy];rw[gn _ (bR (h x (by simp))),ih _ (λy hy=>h y (by simp[hy]))]
theorem NA (l:List AV)(a b:List (Nat×AV))(h:∀x∈a,∀y∈b,x.1≠y.1):gy (gy l a) b=gy (gy l b) a:=by induction b generalizing l with|nil=>rfl|cons y b ih=>simp only[gy];rw[←PZ l a y.2 (λx hx=>h x hx y (by simp)),ih _ (λx hx z hz=>h x hx z (by simp[hz]))]
theorem HI (l:List AV)(a:List (Nat×AV)){t:Nat}(h:∀x∈a,x.1≠t):nth (gy l a) t=nth l t:=by induction a generalizing l with|nil=>rfl|cons x a ih=>rw[gy,ih _ (λy hy=>h y (by simp[hy])),fY,ao (h x (by simp))]
theorem mu {a b:List Nat}(h:meets a b=false):∀x∈a,x∉b:=by intro x hx hb;unfold meets at h;rw[List.any_eq_false]at h;exact h x hx (by simpa using hb)
theorem Dt.Zx {u:Dt}{o p:Oper}{Y:List Nat}{st:AS}(hw:u.AP an o)(h1:∀x∈writes an o,x∉cW p++yX an ops p++writes an p)(h2:∀d∈Bv an o,Y.contains d=true)(h3:∀d∈Bv an o,p.dst≠some d): Jj an ops Y p (u.apply st) st∧Jj an ops Y p st (u.apply st):=by
 have hget:∀t,t∈cW p++yX an ops p++writes an p→(u.apply st).get t=st.get t:=by intro t ht;unfold AS.get;have:nth (u.apply st).slots t=nth st.slots t:=HI _ _ (λx hx he=>h1 _ (hw.slots x hx) (by rw[he];exact ht));rw[this]
 have hdst:∀d,p.dst=some d→nth (u.apply st).iss d=nth st.iss d∧nth (u.apply st).boxes d=nth st.boxes d:=by
  intro d hd;have hd':d∈cW p++yX an ops p++writes an p:=by simp[writes,hd]
  have hne:o.dst≠some d:=λhe=>h1 d (by simp[writes,he]) hd';constructor;unfold Dt.apply;cases hi:u.iss with|none=>rfl|some k=>simp only;rw[fY,ao];rintro rfl;exact hne (hw.iss _ hi)
  unfold Dt.apply;cases hi:u.box with|none=>rfl|some k=>simp only;rw[fY,ao];intro he;exact h3 _ (hw.box k hi) (by rw[he];exact hd)
 have hbox:∀s,Y.contains s=false→nth (u.apply st).boxes s=nth st.boxes s:=by intro s hs;unfold Dt.apply;cases hi:u.box with|none=>rfl|some k=>simp only;rw[fY,ao];rintro rfl;have:=h2 k.1 (hw.box k hi);rw[this]at hs;cases hs
 have hlen:(u.apply st).slots.length=st.slots.length:=GK _ _;exact⟨⟨⟨hlen.symm,λt ht=>(hget t (by simp[ht])).symm,rfl,λd hd=>⟨((hdst d hd).1).symm,((hdst d hd).2).symm⟩,λs hs=>(hbox s hs).symm,λt ht=>(hget t (by simp[yX,ht])).symm⟩,λt ht=>(hget t (by simp[ht])).symm⟩,⟨⟨hlen,λt ht=>hget t (by simp[ht]),rfl,hdst,hbox,λt ht=>hget t (by simp[yX,ht])⟩,λt ht=>hget t (by simp[ht])⟩⟩
theorem OJ {u v:Dt}{o p:Oper}{st:AS}(hu:u.AP an o)(hv:v.AP an p)(h:∀x∈writes an o,x∉writes an p)(hb:∀x∈Bv an o,x∉Bv an p):v.apply (u.apply st)=u.apply (v.apply st):=by
 have hdd:∀a b,o.dst=some a→p.dst=some b→a≠b:=λa b ha hb he=>h a (by simp[writes,ha]) (by simp[writes,hb,he]);have hs:=NA st.slots u.slots v.slots (λx hx y hy he=>h _ (hu.slots x hx) (by rw[he];exact hv.slots y hy));simp only[Dt.apply,AS.mk.injEq,true_and,fH];refine⟨hs,?_,?_⟩;cases hub:u.box with|none=>cases v.box<;>rfl|some k=>cases hvb:v.box with|none=>rfl|some l=>exact gn _ (λhe=>hb _ (hu.box k hub) (by rw[he];exact hv.box l hvb)) _ _
 cases hui:u.iss with|none=>cases v.iss<;>rfl|some k=>cases hvi:v.iss with|none=>rfl|some l=>exact gn _ (hdd _ _ (hu.iss k hui) (hv.iss l hvi)) _ _
theorem Qe (hΓ:∀f,(Γ f).io=false∧(Γ f).bx=false){X Y:List Nat}{o p:Oper}{st s1 s2:AS}(ha:OH an ops X Y o p=true)(h1:stepG E Γ an ops X o st=some s1)(h2:stepG E Γ an ops Y p s1=some s2): ∃t1,stepG E Γ an ops Y p st=some t1∧stepG E Γ an ops X o t1=some s2:=by
 simp only[OH,aj,aR,aU]at ha;obtain⟨⟨⟨⟨⟨⟨⟨mo,mp⟩,w1⟩,w2⟩,b1⟩,b2⟩,b3⟩,b4⟩:=ha;have w1:=mu w1;have w2:=mu w2;have b3:=mu b3;have b4:=mu b4;obtain⟨u,hu,rfl,hu2⟩:=DQ hΓ mo h1;obtain⟨v,hv,rfl,hv2⟩:=DQ hΓ mp h2;have ag1:=Dt.Zx (ops:=ops) (p:=p) (Y:=Y) (st:=st) hu w1 b1 (λd hd he=>b3 d hd (by simp[he]));have hww:∀x∈writes an p,x∉cW o++yX an ops o++writes an o:=by intro x hx hm;rcases ar.1 hm with hm|hm;exact w2 x hx hm;exact w1 x hm (by simp[hx])
 have ag2:=Dt.Zx (ops:=ops) (p:=o) (Y:=X) (st:=st) hv hww b2 (λd hd he=>b4 d hd (by simp[he]));refine⟨v.apply st,hv2 st ag1.1,?_⟩;rw[hu2 _ ag2.2,OJ hu hv (λx hx hm=>w1 x hx (by simp[hm])) (λx hx hm=>b3 x hx (by simp[hm]))]
theorem BQ {st:AS}{t:Nat}{v w:AV}(h:st.get t=v)(hv:v≠ .bot):(st.put (some t) w).get t=w:=by
 unfold AS.get at h;cases hn:nth st.slots t with
 |none=>rw[hn]at h;exact absurd h.symm hv
 |some q=>
  have hl:t<st.slots.length:=by rw[cR]at hn;exact(List.getElem?_eq_some_iff.1 hn).1
  unfold AS.get AS.put;simp only[cR,dD];rw[List.getElem?_set_self hl];rfl
theorem o3 {st:AS}{t d:Nat}{w:AV}(h:d≠t):(st.put (some d) w).get t=st.get t:=by unfold AS.get AS.put;simp only[fY,ao h]
theorem wQ {X:List Nat}{o:Oper}{st s:AS}{t i d:Nat}(ho:o.op=.extract (.tmp t) i)(hd:o.dst=some d)(hg:o.guard=none):stepG E Γ an ops X o st=some s↔ ∃vs g cs,st.get t=.tup vs∧nth vs i=some (g,cs)∧(cs.all AC.eA||an.mv.contains d)=true∧s=(st.put (some t) (.tup (fD vs i (g,aI 0 cs)))).put (some d) (.val g cs):=by
 unfold stepG;simp only[da,ho,hd];constructor;intro h;cases hv:st.get t with|val g cs=>simp only[hv,ai,eZ,hg,cf,ho,iD]at h;cases h|tup vs=>simp only[hv]at h;cases hn:nth vs i with|none=>simp only[hn,ai,eZ,hg,cf,ho,iD,hv]at h;cases h|some x=>obtain⟨g,cs⟩:=x;simp only[hn]at h;cases hf:(cs.all AC.eA||an.mv.contains d)with|false=>rw[hf]at h;cases h|true=>rw[hf]at h;simp only[ai,eZ,hg,cf,ho,iD,hv,hn,hd]at h;cases h;exact⟨vs,g,cs,rfl,hn,hf,rfl⟩
 rintro⟨vs,g,cs,hv,hn,hf,rfl⟩;simp only[hv,hn,hf,ai,eZ,hg,cf,ho,iD,hd]
theorem Tl {α:Type}(l:List α)(i:Nat)(v w:α):fD (fD l i v) i w=fD l i w:=by rw[dD,dD,dD,List.set_set]
theorem Uo {X Y:List Nat}{o p:Oper}{st s1 s2:AS}(ha:O5 o p=true)(h1:stepG E Γ an ops X o st=some s1)(h2:stepG E Γ an ops Y p s1=some s2): ∃t1,stepG E Γ an ops Y p st=some t1∧stepG E Γ an ops X o t1=some s2:=by
 unfold O5 at ha;split at ha;rename_i t i t' j d d' ho hp hd hd' hg hg';simp only[aj,aW,aR,ch,ne_eq]at ha;obtain⟨⟨⟨⟨rfl,hij⟩,hdd⟩,hdt⟩,hdt'⟩:=ha;obtain⟨vs,g,cs,hv,hn,hf,rfl⟩:=(wQ ho hd hg).1 h1;obtain⟨vs2,g2,cs2,hv2,hn2,hf2,rfl⟩:=(wQ hp hd' hg').1 h2;have hq:((st.put (some t) (.tup (fD vs i (g,aI 0 cs)))).put (some d) (.val g cs)).get t=.tup (fD vs i (g,aI 0 cs)):=by rw[o3 hdt,BQ hv (by simp)]
 rw[hq]at hv2;cases hv2;rw[fY,ao hij]at hn2;refine⟨_,(wQ hp hd' hg').2 ⟨vs,g2,cs2,hv,hn2,hf2,rfl⟩,(wQ ho hd hg).2 ⟨fD vs j (g2,aI 0 cs2),g,cs,?_,?_,hf,?_⟩⟩;rw[o3 hdt',BQ hv (by simp)];rw[fY,ao (bR hij)];exact hn;have e:=gn vs hij (g,aI 0 cs) (g2,aI 0 cs2);have a:∀(A B:AV)(q:Nat)(v:AV),q≠t→fD (fD (fD st.slots t A) q v) t B=fD (fD st.slots t B) q v:=λA B q v hq=>by rw[gn _ hq,Tl]
 simp only[AS.put,AS.mk.injEq,fH];rw[a _ _ _ _ hdt,a _ _ _ _ hdt',e,gn _ hdd];cases ha
theorem Ry (s:AS)(t:Nat):s.put (some t) (s.get t)=s:=by cases s with|mk slots boxes ep iss io=>simp only[AS.put,AS.mk.injEq,fH];rw[dD];apply List.ext_getElem?;intro i;rw[List.getElem?_set];split;rename_i hd;subst hd;simp only[AS.get,cR];split;rename_i hlt;rw[List.getElem?_eq_getElem hlt];rfl;rename_i hge;rw[List.getElem?_eq_none (Nat.le_of_not_lt hge)];rfl
theorem NP {X:List Nat}{o:Oper}{st s:AS}{d t:Nat}(hd:o.dst=some d)(hg:o.guard=none)(ho:(o.op=.move (.tmp t)∧an.mv.contains d=false∧an.fm.contains d=true)∨∃i,o.op=.extract (.tmp t) i)(_hdt:d≠t)(h:stepG E Γ an ops X o st=some s): ∃tv v,s=(st.put (some t) tv).put (some d) v∧∀st2:AS,st2.get t=st.get t→stepG E Γ an ops X o st2=some ((st2.put (some t) tv).put (some d) v):=by
 rcases ho with⟨ho,hmv,hfm⟩|⟨i,ho⟩;have hrd:∀st2:AS,st2.get t=st.get t→(st.rd (.tmp t)).h9=true→st2.rd (.tmp t)=st.get t:=by
  intro st2 hq hs;simp only[AS.rd,hq]at hs⊢;cases hv:st.get t with
  |tup vs=>rw[hv]at hs;simp[AV.borrow,AV.h9]at hs
  |val g cs=>
   rw[hv]at hs;simp only[AV.borrow,AV.h9]at hs⊢;congr 1;have key:∀(cs:List AC)(j:Nat),(pK st.ep (λj=>gC.slot t j) j cs).all AC.h9=true→pK st2.ep (λj=>gC.slot t j) j cs=cs:=by
    intro cs;induction cs with
    |nil=>intro j _;rfl
    |cons c cs ih=>
     intro j h;simp only[pK,bD,aj]at h⊢;rw[ih (j+1) h.2];congr 1;cases c with
     |sl fl e xs=>cases fl with|holed _ _ ep=>cases ep<;>simp[AC.borrow,AC.h9]at h|_=>simp[AC.borrow,AC.h9]at h
     |_=>rfl
   exact key cs 0 hs
 unfold stepG at h;have hst:(st.rd (.tmp t)).h9=true:=by cases hs:(st.rd (.tmp t)).h9 with|true=>rfl|false=>simp only[da,ho,Uq,hd,hfm,hs]at h;cases h
 refine⟨st.get t,st.get t,?_,λst2 hq=>?_⟩;simp only[da,ho,Uq,hd,hfm,hst,Bool.or_true,ai,eZ,hg,cf,wZ,hmv,aP,bB]at h;cases h;rw[hrd st rfl hst];congr 1;exact(Ry st t).symm;unfold stepG;have e1:=hrd st2 hq hst;have hst2:(st2.rd (.tmp t)).h9=true:=by rw[e1,←hrd st rfl hst];exact hst
 simp only[da,ho,Uq,hd,hfm,hst2,Bool.or_true,ai,eZ,hg,cf,wZ,hmv,aP,bB];rw[e1,←hq,Ry];obtain⟨vs,g,cs,hv,hn,hf,rfl⟩:=(wQ ho hd hg).1 h;refine⟨_,_,rfl,λst2 hq=>(wQ ho hd hg).2 ⟨vs,g,cs,by rw[hq,hv],hn,hf,rfl⟩⟩
theorem Ye {Y:List Nat}{p:Oper}{T:TypeId}{q x:Nat}(hp:p.op=.store T (.tmp q) (.tmp x))(hd:p.dst=none)(hg:p.guard=none)(heb:(an.eb q).isSome=true)(hes:(an.es q).isNone=true)(hsb:(an.sb q).isNone=true)(hl:u0 an p=false){st s:AS}(h:stepG E Γ an ops Y p st=some s): ∃B,s=⟨fD st.slots x ((st.get x).aI st.ep),B,st.ep+1,st.iss,st.io⟩∧ ∀st2:AS,st2.get q=st.get q→st2.get x=st.get x→st2.boxes=st.boxes→st2.ep=st.ep→st2.iss=st.iss→st2.io=st.io→ stepG E Γ an ops Y p st2=some ⟨fD st2.slots x ((st.get x).aI st.ep),B,st.ep+1,st.iss,st.io⟩:=by
 have hfree:∀st2:AS,st2.get q=st.get q→st2.ep=st.ep→da E an Y p st2=da E an Y p st:=by intro st2 h1 h2;simp only[da,hp,AS.rd,h1,h2]
 unfold stepG at h;cases hf:da E an Y p st with
 |false=>rw[hf]at h;cases h
 |true=>
  rw[hf]at h;simp only[ai,eZ,hg,cf,hp,hd,hl,aP,bB]at h;have hfr:=hf;simp only[da,hp]at hfr;have hnn:((an.sb q).isNone&&(an.eb q).isNone&&(an.es q).isNone)=false:=by cases he:an.eb q with|none=>rw[he]at heb;cases heb|some _=>simp
  rw[hnn,cY]at hfr;unfold rP at h;split at h;rename_i hrd;rw[hrd]at hfr;simp only[aj,aW]at hfr;rw[hfr.2]at hsb;cases hsb;rename_i sh ep0 r tg e y i off hT hrd;rw[hrd]at hfr;cases r with
  |slot _ _=>simp only[aj,aW]at hfr;rw[hfr.1.1]at hes;cases hes
  |io _=>simp at hfr
  |box b j=>
   split at h;rename_i gg vs st1 htk;have e1:(st.get x)=.val gg vs:=by have:=congrArg Prod.fst htk;exact this
   have e2:st1=⟨fD st.slots x ((st.get x).aI st.ep),st.boxes,st.ep,st.iss,st.io⟩:=by have:=congrArg Prod.snd htk;exact this.symm
   split at h;rename_i hlen;have main:∃B,∀sl:List AV,(⟨sl,st.boxes,st.ep,st.iss,st.io⟩:AS).kX (.box b j) tg e i off vs some=some ⟨sl,B,st.ep+1,st.iss,st.io⟩:=by
    subst e2;simp only[AS.kX,AS.dV,AS.dC,AS.dG]at h⊢;cases hb:(nth st.boxes b).getD none with
    |none=>rw[hb]at h;simp at h
    |some cs=>
     rw[hb]at h;simp only[dp]at h⊢;split at h;rename_i t' e' xs hn;split at h;rename_i he;simp only[dif_pos he];generalize (he▸xs:List e.D)=zs at h⊢;split at h;rename_i ht;simp only[ay ht];cases hi:idx zs i with|none=>rw[hi]at h;simp[aa]at h|some y0=>simp only[hi,aa]at h⊢;split at h;exact⟨_,λsl=>rfl⟩;cases h
     cases h;cases h;rename_i t' i' q0 e' xs hn;split at h;rename_i he;simp only[dif_pos he];generalize (he▸xs:List e.D)=zs at h⊢;split at h;rename_i ht;simp only[ay ht];cases hi:idx zs i with|none=>rw[hi]at h;simp[aa]at h|some y0=>simp only[hi,aa]at h⊢;split at h;exact⟨_,λsl=>rfl⟩;cases h
     cases h;cases h;cases h
   obtain⟨B,hB⟩:=main;refine⟨B,?_,λst2 h1 h2 h3 h4 h5 h6=>?_⟩;subst e2;rw[hB]at h;exact(cL h).symm;unfold stepG;rw[hfree st2 h1 h4,hf];have r2:st2.rd (.tmp q)=st.rd (.tmp q):=by simp only[AS.rd,h1,h4]
   have t2:st2.take (.tmp x)=(.val gg vs,⟨fD st2.slots x ((st.get x).aI st.ep),st.boxes,st.ep,st.iss,st.io⟩):=by simp only[AS.take,AS.put,h2,h3,h4,h5,h6,e1]
   simp only[ai,eZ,hg,cf,hp,hd,hl,aP,bB,rP,hT,r2,hrd,t2];rw[ay hlen];exact hB _;cases h;cases h
  cases h
theorem T6 {Y:List Nat}{p:Oper}{T:TypeId}{q x:Nat}(hp:p.op=.store T (.tmp q) (.tmp x))(hd:p.dst=none)(hg:p.guard=none){b:Nat}(hes:an.es q=some b)(heb:(an.eb q).isNone=true)(hbx:b≠x)(hsb:(an.sb q).isNone=true)(hl:u0 an p=false){st s:AS}(h:stepG E Γ an ops Y p st=some s): ∃B,s=⟨fD (fD st.slots x ((st.get x).aI st.ep)) b B,st.boxes,st.ep+1,st.iss,st.io⟩∧ ∀st2:AS,st2.get q=st.get q→st2.get x=st.get x→nth st2.slots b=nth st.slots b→st2.boxes=st.boxes→st2.ep=st.ep→st2.iss=st.iss→st2.io=st.io→ stepG E Γ an ops Y p st2=some ⟨fD (fD st2.slots x ((st.get x).aI st.ep)) b B,st.boxes,st.ep+1,st.iss,st.io⟩:=by
 have hfree:∀st2:AS,st2.get q=st.get q→st2.ep=st.ep→da E an Y p st2=da E an Y p st:=by intro st2 h1 h2;simp only[da,hp,AS.rd,h1,h2]
 unfold stepG at h;cases hf:da E an Y p st with
 |false=>rw[hf]at h;cases h
 |true=>
  rw[hf]at h;simp only[ai,eZ,hg,cf,hp,hd,hl,aP,bB]at h;have hfr:=hf;simp only[da,hp]at hfr;have hnn:((an.sb q).isNone&&(an.eb q).isNone&&(an.es q).isNone)=false:=by rw[hes];simp
  rw[hnn,cY]at hfr;unfold rP at h;split at h;rename_i hrd;rw[hrd]at hfr;simp only[aj,aW]at hfr;rw[hfr.2]at hsb;cases hsb;rename_i sh ep0 r tg e y i off hT hrd;rw[hrd]at hfr;cases r with
  |box _ _=>simp only[aj,aW]at hfr;rw[hfr.1.1]at heb;cases heb
  |io _=>simp at hfr
  |slot b' j=>
   simp only[aj,aW]at hfr;have hbb:b'=b:=cL (hfr.1.1.symm.trans hes);subst hbb;split at h;rename_i gg vs st1 htk;have e1:(st.get x)=.val gg vs:=by have:=congrArg Prod.fst htk;exact this
   have e2:st1=⟨fD st.slots x ((st.get x).aI st.ep),st.boxes,st.ep,st.iss,st.io⟩:=by have:=congrArg Prod.snd htk;exact this.symm
   split at h;rename_i hlen;have main:∃B,∀sl:List AV,nth sl b'=nth st.slots b'→(⟨sl,st.boxes,st.ep,st.iss,st.io⟩:AS).kX (.slot b' j) tg e i off vs some=some ⟨fD sl b' B,st.boxes,st.ep+1,st.iss,st.io⟩:=by
    subst e2;have hget:∀sl:List AV,nth sl b'=nth st.slots b'→(⟨sl,st.boxes,st.ep,st.iss,st.io⟩:AS).get b'=st.get b':=λsl hq=>by unfold AS.get;rw[hq]
    have hq0:nth (fD st.slots x ((st.get x).aI st.ep)) b'=nth st.slots b':=by rw[fY,ao (bR hbx)]
    simp only[AS.kX,AS.dV,AS.dC,hget _ hq0]at h;cases hb:st.get b' with
    |tup _=>rw[hb]at h;simp at h
    |val g0 cs=>
     rw[hb]at h;simp only at h;split at h;rename_i t' e' xs hn;split at h;rename_i he;split at h;rename_i ht;cases hi:idx (he▸xs:List e.D) i with|none=>rw[hi]at h;simp[aa]at h|some y0=>simp only[hi,aa]at h;split at h;rename_i x' hx';refine⟨.val g0 (fD cs j (.sl (.own (some t')) e ((he▸xs:List e.D).set i.toNat x'))),λsl hq=>?_⟩;simp only[AS.kX,AS.dV,AS.dC,hget _ hq,hb,hn,dif_pos he,ay ht,hi,aa,hx',AS.put];cases h
     cases h;cases h;rename_i t' i' q0 e' xs hn;split at h;rename_i he;split at h;rename_i ht;cases hi:idx (he▸xs:List e.D) i with|none=>rw[hi]at h;simp[aa]at h|some y0=>simp only[hi,aa]at h;split at h;rename_i x' hx';refine⟨.val g0 (fD cs j (.sl (.own (some t')) e ((he▸xs:List e.D).set i.toNat x'))),λsl hq=>?_⟩;simp only[AS.kX,AS.dV,AS.dC,hget _ hq,hb,hn,dif_pos he,ay ht,hi,aa,hx',AS.put];cases h
     cases h;cases h;cases h
   obtain⟨B,hB⟩:=main;refine⟨B,?_,λst2 h1 h2 hnb h3 h4 h5 h6=>?_⟩;subst e2;rw[hB _ (by rw[fY,ao (bR hbx)])]at h;exact(cL h).symm;unfold stepG;rw[hfree st2 h1 h4,hf];have r2:st2.rd (.tmp q)=st.rd (.tmp q):=by simp only[AS.rd,h1,h4]
   have t2:st2.take (.tmp x)=(.val gg vs,⟨fD st2.slots x ((st.get x).aI st.ep),st.boxes,st.ep,st.iss,st.io⟩):=by simp only[AS.take,AS.put,h2,h3,h4,h5,h6,e1]
   simp only[ai,eZ,hg,cf,hp,hd,hl,aP,bB,rP,hT,r2,hrd,t2];rw[ay hlen];exact hB _ (by rw[fY,ao (bR hbx)];exact hnb);cases h;cases h
  cases h
theorem Yd {X Y:List Nat}{o p:Oper}{st s1 s2:AS}(ha:OV an o p=true)(h1:stepG E Γ an ops X o st=some s1)(h2:stepG E Γ an ops Y p s1=some s2): ∃t1,stepG E Γ an ops Y p st=some t1∧stepG E Γ an ops X o t1=some s2:=by
 unfold OV at ha;split at ha;rename_i T q x hp hpd hpg;simp only[aj,aR]at ha;obtain⟨⟨⟨heb,hsb⟩,hl⟩,ha⟩:=ha;have hcore:∃d t,o.dst=some d∧o.guard=none∧((o.op=.move (.tmp t)∧an.mv.contains d=false∧an.fm.contains d=true)∨∃i,o.op=.extract (.tmp t) i)∧d≠q∧d≠x∧t≠x∧d≠t∧t≠q:=by split at ha;rename_i t d ho hd hg;simp only[aj,aR,ch]at ha;exact⟨d,t,hd,hg,.inl ⟨ho,ha.1.1.1.1.1.1,ha.1.1.1.1.1.2⟩,ha.1.1.1.1.2,ha.1.1.1.2,ha.1.1.2,ha.2,ha.1.2⟩;rename_i t i d ho hd hg;simp only[aj,aR,ch]at ha;exact⟨d,t,hd,hg,.inr ⟨i,ho⟩,ha.1.1.1.1,ha.1.1.1.2,ha.1.1.2,ha.2,ha.1.2⟩;cases ha
 obtain⟨d,t,hd,hg,ho,hdq,hdx,htx,hdt,htq⟩:=hcore;obtain⟨tv,v,rfl,hrun⟩:=NP hd hg ho hdt h1;have hq:((st.put (some t) tv).put (some d) v).get q=st.get q:=by rw[o3 hdq];exact o3 htq
 have hx:((st.put (some t) tv).put (some d) v).get x=st.get x:=by rw[o3 hdx,o3 htx]
 simp only[cm,aj]at heb;rcases heb with⟨heb,hes⟩|hes;obtain⟨B,rfl,hgo⟩:=Ye hp hpd hpg heb hes hsb hl h2;have k1:=hgo st hq.symm hx.symm rfl rfl rfl rfl;refine⟨_,k1,?_⟩;have hg2:(⟨fD st.slots x ((((st.put (some t) tv).put (some d) v).get x).aI ((st.put (some t) tv).put (some d) v).ep),B,((st.put (some t) tv).put (some d) v).ep+1,((st.put (some t) tv).put (some d) v).iss,((st.put (some t) tv).put (some d) v).io⟩:AS).get t=st.get t:=by simp only[AS.get,fY,ao (bR htx)]
 rw[hrun _ hg2];simp only[AS.put,aS,AS.mk.injEq,fH];rw[gn _ (bR htx),gn _ (bR hdx)];cases hb:an.es q with
 |none=>rw[hb]at hes;cases hes
 |some b=>
  rw[hb]at hes;simp only[aj,aR,ch]at hes;obtain⟨⟨⟨heb,hbx⟩,_⟩,hbw⟩:=hes;have hbw:=mu hbw b (by simp);have hbd:b≠d:=λe=>hbw (by simp[hd,e]);have hbt:b≠t:=λe=>hbw (by refine ar.2 (.inr ?_);rcases ho with⟨ho,_⟩|⟨i,ho⟩<;>simp[cW,ho,tm,e]);obtain⟨B,rfl,hgo⟩:=T6 hp hpd hpg hb heb hbx hsb hl h2;have hnb:nth st.slots b=nth ((st.put (some t) tv).put (some d) v).slots b:=by simp only[AS.put,fY,ao (bR hbd),ao (bR hbt)]
  have k1:=hgo st hq.symm hx.symm hnb rfl rfl rfl rfl;refine⟨_,k1,?_⟩;have hg2:(⟨fD (fD st.slots x ((((st.put (some t) tv).put (some d) v).get x).aI ((st.put (some t) tv).put (some d) v).ep)) b B,((st.put (some t) tv).put (some d) v).boxes,((st.put (some t) tv).put (some d) v).ep+1,((st.put (some t) tv).put (some d) v).iss,((st.put (some t) tv).put (some d) v).io⟩:AS).get t=st.get t:=by simp only[AS.get,fY,ao (bR htx),ao hbt]
  rw[hrun _ hg2];simp only[AS.put,aS,AS.mk.injEq,fH];rw[gn _ hbt,gn _ hbd,gn _ (bR htx),gn _ (bR hdx)]
 cases ha
theorem Li {c:AC}{ep:Nat}(h:c.h9=true∨(c.borrow ep none).h9=true):c.borrow ep none=c:=by
 cases c with
 |sl fl e xs=>exfalso;cases fl with|holed _ _ ep=>cases ep<;>simp[AC.borrow,AC.h9]at h|_=>simp[AC.borrow,AC.h9]at h
 |_=>rfl
theorem G3 {cs:List AC}{off n ep:Nat}(hfit:off+n≤cs.length)(k:Nat):(ck cs off (aI ep ((cs.drop off).take n)))[k]?=(cs[k]?).map λc=>if off≤k∧k<off+n then c.borrow ep none else c:=by
 have hl:(aI ep ((cs.drop off).take n)).length=n:=by simp[aI];omega
 unfold ck;rw[hl];by_cases h1:k<off;rw[aG,List.getElem?_append_left (by simp;omega),List.getElem?_take_of_lt h1];have:(λc:AC=>if off≤k∧k<off+n then c.borrow ep none else c)=id:=by funext c;rw[ao (by omega)];rfl
 rw[this,Option.map_id];rfl;by_cases h2:k<off+n;rw[List.getElem?_append_left (by simp[hl];omega),List.getElem?_append_right (by simp;omega)];have e:k-(cs.take off).length=k-off:=by simp;omega
 rw[e,aI,List.getElem?_map,List.getElem?_take_of_lt (by omega),List.getElem?_drop,show off+(k-off)=k by omega];congr 1;funext c;rw[ay (by omega)];rw[List.getElem?_append_right (by simp[hl];omega)];have e:k-(cs.take off++aI ep ((cs.drop off).take n)).length=k-(off+n):=by simp[hl];omega
 rw[e,List.getElem?_drop,show off+n+(k-(off+n))=k by omega];have:(λc:AC=>if off≤k∧k<off+n then c.borrow ep none else c)=id:=by funext c;rw[ao (by omega)];rfl
 rw[this,Option.map_id];rfl
theorem CA {cs:List AC}{off n ep o2 n2:Nat}(hfit:off+n≤cs.length)(h:((cs.drop o2).take n2).all AC.h9=true∨(((ck cs off (aI ep ((cs.drop off).take n))).drop o2).take n2).all AC.h9=true): ((ck cs off (aI ep ((cs.drop off).take n))).drop o2).take n2=(cs.drop o2).take n2:=by
 apply List.ext_getElem?;intro k;by_cases hk:k<n2;rw[List.getElem?_take_of_lt hk,List.getElem?_take_of_lt hk,List.getElem?_drop,List.getElem?_drop,G3 hfit];cases hc:cs[o2+k]? with|none=>rfl|some c=>simp only[cp];split;rename_i hin;refine congrArg some (Li ?_);rcases h with h|h;left;refine aU.1 h c (List.mem_of_getElem? (i:=k) ?_);rw[List.getElem?_take_of_lt hk,List.getElem?_drop,hc];right;refine aU.1 h _ (List.mem_of_getElem? (i:=k) ?_);rw[List.getElem?_take_of_lt hk,List.getElem?_drop,G3 hfit,hc,cp,ay hin];rfl
 rw[List.getElem?_eq_none (by simp;omega),List.getElem?_eq_none (by simp;omega)]
theorem Dq {b ep:Nat}:∀{cs:List AC}{j:Nat},cs.all AC.h9=true→pK ep (.box b) j cs=cs
 |[],_,_=>rfl
 |c::cs,j,h=>by simp only[bD,aj]at h;rw[pK,Dq h.2];congr 1;cases c<;>first|rfl|(simp[AC.h9]at h)
theorem Hc {o:Oper}(h:zD an o=true):∃T q d,o.op=.load T (.tmp q)∧o.dst=some d∧o.guard=none∧an.mv.contains d=true∧(an.mb d).isSome=true:=by unfold zD at h;split at h;rename_i T q d ho hd hg;simp only[aj]at h;exact⟨T,q,d,ho,hd,hg,h.1,h.2⟩;cases h
theorem F5 {o:Oper}(h:F4 an o=true):∃T q d,o.op=.load T (.tmp q)∧o.dst=some d∧o.guard=none∧an.mv.contains d=false∧an.fm.contains d=true:=by unfold F4 at h;split at h;rename_i T q d ho hd hg;simp only[aj,aR]at h;exact⟨T,q,d,ho,hd,hg,h.1,h.2⟩;cases h
theorem Ai {X:List Nat}{o:Oper}{T:TypeId}{q d:Nat}(ht:zD an o=true)(ho:o.op=.load T (.tmp q))(hd:o.dst=some d)(hg:o.guard=none)(hmv:an.mv.contains d=true){st s:AS}:stepG E Γ an ops X o st=some s↔ ∃sh b off cs,gJ E.ty T=some sh∧st.rd (.tmp q)=.val false [.ptr b off]∧(nth st.boxes b).getD none=some cs∧off+sh.ct.size≤cs.length∧X.contains b=false∧an.mb d=some b∧(Uq an o=true→yW E T st b off=true)∧ s=(st.dG b (some (ck cs off (aI st.ep ((cs.drop off).take sh.ct.size))))).put (some d) (.val sh.agg ((cs.drop off).take sh.ct.size)):=by
 have key:da E an X o st=true→∀r,cf E Γ an o st some=some r→∃b off,st.rd (.tmp q)=.val false [.ptr b off]:=by intro hf r hr;simp only[cf,ho,qL]at hr;split at hr;rename_i hp;exact⟨_,_,hp⟩;rename_i hp;simp only[da,ho,hp,ht,Bool.or_true,al,gi]at hf;cases hf;cases hr
 unfold stepG;constructor;intro h;cases hf:da E an X o st with|false=>rw[hf]at h;cases h|true=>rw[hf]at h;simp only[ai,eZ,hg]at h;obtain⟨b,off,hp⟩:=key hf s h;simp only[da,ho,hp,hd,hmv,al,cY,aj,aR,aW,cm]at hf;simp only[cf,ho,qL,hp]at h;cases hT:gJ E.ty T with|none=>rw[hT]at h;cases h|some sh=>rw[hT]at h;simp only at h;cases hb:(nth st.boxes b).getD none with|none=>rw[hb]at h;cases h|some cs=>rw[hb]at h;simp only at h;split at h;rename_i hfit;simp only[hd,hmv,bk]at h;cases h;refine⟨sh,b,off,cs,rfl,hp,hb,hfit,hf.1.1,hf.1.2,λhm=>?_,rfl⟩;rcases hf.2 with g|g;rw[hm]at g;cases g;exact g;cases h
 rintro⟨sh,b,off,cs,hT,hp,hb,hfit,hX,hmb,hfm,rfl⟩;have hf:da E an X o st=true:=by simp only[da,ho,hp,hd,hmv,hX,hmb,al,cY,aj,aR,aW,cm];refine⟨⟨trivial,trivial⟩,?_⟩;cases hm:Uq an o with|false=>exact .inl rfl|true=>exact .inr (hfm hm)
 rw[hf];simp only[ai,eZ,hg,cf,ho,qL,hp,hT,hb,ay hfit,hd,hmv,bk]
theorem zP {X:List Nat}{o:Oper}{T:TypeId}{q d:Nat}(ho:o.op=.load T (.tmp q))(hd:o.dst=some d)(hg:o.guard=none)(hmv:an.mv.contains d=false)(hfm:an.fm.contains d=true){st s:AS}:stepG E Γ an ops X o st=some s↔ ∃sh b off cs,gJ E.ty T=some sh∧st.rd (.tmp q)=.val false [.ptr b off]∧(nth st.boxes b).getD none=some cs∧off+sh.ct.size≤cs.length∧X.contains b=false∧((cs.drop off).take sh.ct.size).all AC.h9=true∧ s=st.put (some d) (.val sh.agg ((cs.drop off).take sh.ct.size)):=by
 have hfb:Uq an o=true:=by simp only[Uq,hd,hfm]
 have key:da E an X o st=true→∀r,cf E Γ an o st some=some r→∃b off,st.rd (.tmp q)=.val false [.ptr b off]:=by intro hf r hr;simp only[cf,ho,qL]at hr;split at hr;rename_i hp;exact⟨_,_,hp⟩;rename_i hp;simp only[da,ho,hp,hfb,Bool.true_or,al,gi]at hf;cases hf;cases hr
 unfold stepG;constructor;intro h;cases hf:da E an X o st with
 |false=>rw[hf]at h;cases h
 |true=>
  rw[hf]at h;simp only[ai,eZ,hg]at h;obtain⟨b,off,hp⟩:=key hf s h;simp only[da,ho,hp,hd,hmv,hfb,al,di,Bool.true_or,cY,Bool.and_true,aj,aR]at hf;simp only[cf,ho,qL,hp]at h;cases hT:gJ E.ty T with
  |none=>rw[hT]at h;cases h
  |some sh=>
   rw[hT]at h;simp only at h;cases hb:(nth st.boxes b).getD none with
   |none=>rw[hb]at h;cases h
   |some cs=>
    rw[hb]at h;simp only at h;split at h;rename_i hfit;have hst:((cs.drop off).take sh.ct.size).all AC.h9=true:=by have:=hf.2;unfold yW at this;rw[hT,hb]at this;exact this
    simp only[hd,hmv,aP,bB,Dq hst]at h;cases h;exact⟨sh,b,off,cs,rfl,hp,hb,hfit,hf.1,hst,rfl⟩;cases h
 rintro⟨sh,b,off,cs,hT,hp,hb,hfit,hX,hst,rfl⟩;have hf:da E an X o st=true:=by simp only[da,ho,hp,hd,hmv,hX,hfb,yW,hT,hb,hst];rfl
 rw[hf];simp only[ai,eZ,hg,cf,ho,qL,hp,hT,hb,ay hfit,hd,hmv,aP,bB,Dq hst]
theorem Rz {st:AS}{q d:Nat}{v:AV}(h:d≠q):(st.put (some d) v).rd (.tmp q)=st.rd (.tmp q):=by simp only[AS.rd,o3 h];rfl
theorem Vx {st:AS}{q b:Nat}{cs:Option (List AC)}:(st.dG b cs).rd (.tmp q)=st.rd (.tmp q):=rfl
theorem TX {st:AS}{b:Nat}{cs x:List AC}(h:(nth st.boxes b).getD none=some cs):(nth (fD st.boxes b (some x)) b).getD none=some x:=by
 rw[fY,ay rfl];cases hn:nth st.boxes b with
 |none=>rw[hn]at h;cases h
 |some _=>
  have:b<st.boxes.length:=by rw[cR]at hn;exact(List.getElem?_eq_some_iff.1 hn).1
  rw[ay this];rfl
theorem TZ {st:AS}{b b2:Nat}{x:List AC}(h:b≠b2):nth (fD st.boxes b (some x)) b2=nth st.boxes b2:=by rw[fY,ao h]
theorem YF {X Y:List Nat}{o p:Oper}{st s1 s2:AS}(ha:PB an o p=true)(h1:stepG E Γ an ops X o st=some s1)(h2:stepG E Γ an ops Y p s1=some s2): ∃t1,stepG E Γ an ops Y p st=some t1∧stepG E Γ an ops X o t1=some s2:=by
 simp only[PB,aj,cm,aR]at ha;obtain⟨⟨ha,m1⟩,m2⟩:=ha;have m1:=mu m1;have m2:=mu m2;rcases ha with⟨ht,hf⟩|⟨hf,ht⟩;obtain⟨T,q,d,ho,hd,hg,hmv,hmb⟩:=Hc ht;obtain⟨T2,q2,d2,hp,hd2,hg2,hmv2,hfm2⟩:=F5 hf;have n1:d≠d2:=λe=>m1 d (by simp[hd]) (by simp[hd2,e]);have n2:d≠q2:=λe=>m1 d (by simp[hd]) (by simp[cW,hp,tm,e]);have n3:d2≠q:=λe=>m2 d2 (by simp[hd2]) (by simp[cW,ho,tm,e]);obtain⟨sh,b,off,cs,hT,hr,hb,hfit,hX,hmbe,hfm,rfl⟩:=(Ai ht ho hd hg hmv).1 h1;obtain⟨sh2,b2,off2,cs2,hT2,hr2,hb2,hfit2,hX2,hst2,rfl⟩:=(zP hp hd2 hg2 hmv2 hfm2).1 h2;rw[Rz n2,Vx]at hr2;have hbx:(nth (fD st.boxes b (some (ck cs off (aI st.ep ((cs.drop off).take sh.ct.size))))) b2).getD none=some cs2:=hb2;have hfin:∃cs0,(nth st.boxes b2).getD none=some cs0∧off2+sh2.ct.size≤cs0.length∧(cs2.drop off2).take sh2.ct.size=(cs0.drop off2).take sh2.ct.size:=by
  by_cases hbb:b=b2;subst hbb;rw[TX hb]at hbx;cases hbx;have hlen:(ck cs off (aI st.ep ((cs.drop off).take sh.ct.size))).length=cs.length:=by simp only[ck,aI,ak,cK,bf,bd];omega
  exact⟨cs,hb,by omega,CA hfit (.inr hst2)⟩;rw[TZ hbb]at hbx;exact⟨cs2,hbx,hfit2,rfl⟩
 obtain⟨cs0,hb0,hfit0,he⟩:=hfin;rw[he]at hst2⊢;refine⟨_,(zP hp hd2 hg2 hmv2 hfm2).2 ⟨sh2,b2,off2,cs0,hT2,hr2,hb0,hfit0,hX2,hst2,rfl⟩,(Ai ht ho hd hg hmv).2 ⟨sh,b,off,cs,hT,by rw[Rz n3];exact hr,hb,hfit,hX,hmbe,λhm=>?_,?_⟩⟩;have:=hfm hm;unfold yW at this⊢;exact this;simp only[AS.put,AS.dG,AS.mk.injEq,fH];exact gn _ n1 _ _;obtain⟨T,q,d,ho,hd,hg,hmv,hfm⟩:=F5 hf;obtain⟨T2,q2,d2,hp,hd2,hg2,hmv2,hmb2⟩:=Hc ht;have n1:d≠d2:=λe=>m1 d (by simp[hd]) (by simp[hd2,e]);have n2:d≠q2:=λe=>m1 d (by simp[hd]) (by simp[cW,hp,tm,e]);have n3:d2≠q:=λe=>m2 d2 (by simp[hd2]) (by simp[cW,ho,tm,e]);obtain⟨sh,b,off,cs,hT,hr,hb,hfit,hX,hst,rfl⟩:=(zP ho hd hg hmv hfm).1 h1;obtain⟨sh2,b2,off2,cs2,hT2,hr2,hb2,hfit2,hX2,hmbe,hfm2,rfl⟩:=(Ai ht hp hd2 hg2 hmv2).1 h2;rw[Rz n2]at hr2;refine⟨_,(Ai ht hp hd2 hg2 hmv2).2 ⟨sh2,b2,off2,cs2,hT2,hr2,hb2,hfit2,hX2,hmbe,λhm=>hfm2 hm,rfl⟩,?_⟩;have hfin:∃cs0,(nth (fD st.boxes b2 (some (ck cs2 off2 (aI st.ep ((cs2.drop off2).take sh2.ct.size))))) b).getD none=some cs0∧off+sh.ct.size≤cs0.length∧(cs0.drop off).take sh.ct.size=(cs.drop off).take sh.ct.size:=by
  by_cases hbb:b2=b;subst hbb;have hcs:cs2=cs:=cL (hb2.symm.trans hb);subst hcs;have hlen:(ck cs2 off2 (aI st.ep ((cs2.drop off2).take sh2.ct.size))).length=cs2.length:=by simp only[ck,aI,ak,cK,bf,bd];omega
  exact⟨_,TX hb,by omega,CA hfit2 (.inl hst)⟩;exact⟨cs,by rw[TZ hbb];exact hb,hfit,rfl⟩
 obtain⟨cs0,hb0,hfit0,he⟩:=hfin;refine(zP ho hd hg hmv hfm).2 ⟨sh,b,off,cs0,hT,by rw[Rz n3,Vx];exact hr,hb0,hfit0,hX,by rw[he];exact hst,?_⟩;rw[he];simp only[AS.put,AS.dG,AS.mk.injEq,fH];exact gn _ n1 _ _
def HK (E:Env)(Γ:bH)(an:An)(ops:List Oper)(X:Nat→List Nat):List Nat→AS→Option AS
 |[],st=>some st
 |i::r,st=>match nth ops i with
  |some o=>(stepG E Γ an ops (X i) o st).bind (HK E Γ an ops X r)
  |none=>none
theorem GW (hΓ:∀f,(Γ f).io=false∧(Γ f).bx=false){X:Nat→List Nat}{i:Nat}{oi:Oper}(hi:nth ops i=some oi):∀(pre post:List Nat)(st r:AS),(∀j∈pre,∀oj,nth ops j=some oj→EA an ops (X j) (X i) oj oi=true)→
 HK E Γ an ops X (pre++i::post) st=some r→HK E Γ an ops X (i::(pre++post)) st=some r
 |[],post,st,r,_,h=>h
 |j::pre,post,st,r,ha,h=>by
  simp only[List.cons_append,HK]at h;cases hj:nth ops j with
  |none=>rw[hj]at h;cases h
  |some oj=>
   rw[hj]at h;simp only at h;obtain⟨s1,h1,h2⟩:=aF.1 h;have h3:=GW hΓ hi pre post s1 r (λk hk=>ha k (by simp[hk])) h2;simp only[HK,hi]at h3;obtain⟨s2,h4,h5⟩:=aF.1 h3;have hap:=ha j (by simp) oj hj;obtain⟨t1,k1,k2⟩:∃t1,stepG E Γ an ops (X i) oi st=some t1∧stepG E Γ an ops (X j) oj t1=some s2:=by cases hx:Vt an oj oi with|false=>rw[EA,hx,cY]at hap;exact Qe hΓ hap h1 h4|true=>simp only[Vt,cm]at hx;rcases hx with(hx|hx)|hx;exact Uo hx h1 h4;exact Yd hx h1 h4;exact YF hx h1 h4
   simp only[HK,hi,k1,dp,List.cons_append,hj,k2];exact h5
end Go.Dn
