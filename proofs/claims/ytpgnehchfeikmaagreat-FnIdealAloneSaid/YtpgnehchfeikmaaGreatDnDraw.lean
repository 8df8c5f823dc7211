import Derived.Test.YtpgnehchfeikmaaGreatDnUpd
/- Operations that are apart may change places. -/
namespace Go.Dn
variable {E:Env} {Γ:cG} {an:An} {ops:List Oper}
def stepG (E:Env)(Γ:cG)(an:An)(ops:List Oper)(X:List Nat)(o:Oper)(st:AS):Option AS:=
 bif cn E an X o st then ec E Γ an ops o st some else none
structure Fc (an:An) (ops:List Oper) (X:List Nat) (o:Oper) (st st2:AS):Prop where
 base:eo an X o st st2
 gd:∀t∈vz an ops o,st2.get t=st.get t
theorem Jx {st:AS}{d:Nat}{b:Bool}(h:st.get d=.val false [.bool b]):st.put (some d) (.one (.bool b))=st:=by cases st with|mk slots boxes ep iss io=>simp only[AS.put,AS.mk.injEq,eB];rw[di];apply List.ext_getElem?;intro i;rw[List.getElem?_set];split;rename_i hd;subst hd;simp only[AS.get,cz]at h;split;rename_i hlt;rw[List.getElem?_eq_getElem hlt]at h⊢;simp only[dM]at h;rw[h];rename_i hge;rw[List.getElem?_eq_none (Nat.le_of_not_lt hge)];rfl
theorem F8 {T:TypeId}{st st2:AS}{s off:Nat}(h:nth st2.boxes s=nth st.boxes s):vy E T st2 s off=vy E T st s off:=by unfold vy;rw[h]
theorem xg {X:List Nat}{o:Oper}{st st2:AS}(ha:eo an X o st st2):cn E an X o st2=cn E an X o st:=by
 unfold cn;split;rename_i ho;rw[ha.rd (λt ht=>by simpa[cr,ho]using ht)];rename_i T p ho;rw[ha.rd (λt ht=>by simp[cr,ho,ht]),ha.ep];rename_i ho;rw[ha.rd (λt ht=>by simp[cr,ho,ht]),ha.ep];rename_i f args ts ho;have hcur:mJ an X (PB an o) st2 args.toList=mJ an X (PB an o) st args.toList:=by
  have hl:∀x∈args.toList,∀t∈tm x,t∈cr o:=by intro x hx t ht;simp only[cr,ho,al,Ee,List.mem_flatMap];exact .inr ⟨x,hx,ht⟩
  generalize args.toList=l at hl;cases l with
  |nil=>rfl
  |cons x xs=>
   have hself:xs.all (yB (PB an o) st2)=xs.all (yB (PB an o) st):=by
    rw[bO];simp only[az];have e:∀y∈xs,yB (PB an o) st2 y=yB (PB an o) st y:=by intro y hy;cases y with|tmp t=>have hg:=ha.get t (hl (.tmp t) (by simp[hy]) t (by simp[tm]));simp only[yB,hg]|const v=>rfl|func v=>rfl|global v=>rfl
    exact⟨λg y hy=>by rw[←e y hy];exact g y hy,λg y hy=>by rw[e y hy];exact g y hy⟩
   have hr:=ha.rd (hl x (by simp));cases x with
   |tmp q=>
    simp only[mJ,hr];generalize st.rd (.tmp q)=v;unfold P3;rw[hself];split;rename_i s off;cases hX:X.contains s with|true=>simp|false=>rw[ha.box s hX]
    rfl
   |const v=>simp only[mJ,hr]
   |func v=>simp only[mJ,hr]
   |global v=>simp only[mJ,hr]
 rw[hcur];congr 1;rw[bO];simp only[az];constructor;intro hx x hm;have:=hx x hm;rwa[ha.rd (λt ht=>by simp only[cr,ho,al,Ee,List.mem_flatMap];exact .inr ⟨x,hm,ht⟩),ha.ep]at this;intro hx x hm;rw[ha.rd (λt ht=>by simp only[cr,ho,al,Ee,List.mem_flatMap];exact .inr ⟨x,hm,ht⟩),ha.ep];exact hx x hm;rename_i ho;rw[ha.rd (λt ht=>by simpa[cr,ho]using ht),ha.ep];split;rename_i s off _;cases hX:X.contains s with|true=>rfl|false=>rw[F8 (ha.box s hX)]
 rfl;rfl;rename_i ho;rw[ha.rd (λt ht=>by simp only[cr,ho,al];exact .inl ht)];rename_i ho;rw[ha.get _ (by simp[cr,ho])];rfl
theorem Ar (hΓ:∀f,(Γ f).io=false∧((Γ f).bx=true→(Γ f).cur=true)∧(Γ f).pr=false){X:List Nat}{o:Oper}{st st':AS}(hm:iP an o=true)(h:stepG E Γ an ops X o st=some st'): ∃u:yT,u.w7 an o∧st'=u.apply st∧∀st2,Fc an ops X o st st2→stepG E Γ an ops X o st2=some (u.apply st2):=by
 unfold stepG at h;cases hf:cn E an X o st with
 |false=>rw[hf]at h;cases h
 |true=>
  rw[hf]at h;simp only[ah]at h;unfold ec at h;split at h;rename_i hg;obtain⟨u,h1,h2,h3⟩:=Dh (X:=X) hΓ hm hf h;refine⟨u,h1,h2,λst2 ha=>?_⟩;unfold stepG;rw[xg ha.base,hf];simp only[ah,ec,hg];exact h3 st2 ha.base;rename_i j want hg;split at h;rename_i d hd;have hin:d∈vz an ops o:=by simp[vz,hg,hd]
  split at h;rename_i b hb;have hgo:(if(b==want)=true then cf E Γ an o st some else some (st.put o.dst (.one .un)))=some st':=by cases b<;>simpa only[ah,ai,Jx hb]using h
  have h2g:∀st2,Fc an ops X o st st2→stepG E Γ an ops X o st2=(if(b==want)=true then cf E Γ an o st2 some else some (st2.put o.dst (.one .un))):=by
   intro st2 ha;have hb2:st2.get d=.val false [.bool b]:=by rw[ha.gd d hin];exact hb
   unfold stepG;rw[xg ha.base,hf];simp only[ah,ec,hg,hd,hb2];cases b<;>simp only[ah,ai,Jx hb2]
  split at hgo;rename_i hw;obtain⟨u,h1,h2,h3⟩:=Dh (X:=X) hΓ hm hf hgo;exact⟨u,h1,h2,λst2 ha=>by rw[h2g st2 ha,au hw];exact h3 st2 ha.base⟩;rename_i hw;cases hgo;exact⟨uN o (.one .un),tC _,by rw[lT],λst2 ha=>by rw[h2g st2 ha,aq hw,lT]⟩;rename_i hb;cases h;refine⟨uN o (.one .un),tC _,by rw[lT],λst2 ha=>?_⟩;have hb2:st2.get d=.val false [.un]:=by rw[ha.gd d hin];exact hb
  unfold stepG;rw[xg ha.base,hf,lT];simp only[ah,ec,hg,hd,hb2];cases h;cases h
theorem fe {α:Type}(l:List α){i j:Nat}(h:i≠j)(v w:α):ez (ez l i v) j w=ez (ez l j w) i v:=by rw[di,di,di,di,List.set_comm _ _ h]
theorem LG (l:List AV)(a:List (Nat×AV)){i:Nat}(v:AV)(h:∀x∈a,x.1≠i):fR (ez l i v) a=ez (fR l a) i v:=by induction a generalizing l with|nil=>rfl|cons x a ih=>simp only[fR];rw[fe _ (bL (h x (by simp))),ih _ (λy hy=>h y (by simp[hy]))]
theorem Ju (l:List AV)(a b:List (Nat×AV))(h:∀x∈a,∀y∈b,x.1≠y.1):fR (fR l a) b=fR (fR l b) a:=by induction b generalizing l with|nil=>rfl|cons y b ih=>simp only[fR];rw[←LG l a y.2 (λx hx=>h x hx y (by simp)),ih _ (λx hx z hz=>h x hx z (by simp[hz]))]
theorem D2 (l:List AV)(a:List (Nat×AV)){t:Nat}(h:∀x∈a,x.1≠t):nth (fR l a) t=nth l t:=by induction a generalizing l with|nil=>rfl|cons x a ih=>rw[fR,ih _ (λy hy=>h y (by simp[hy])),fF,aq (h x (by simp))]
theorem gV {a b:List Nat}(h:meets a b=false):∀x∈a,x∉b:=by intro x hx hb;unfold meets at h;rw[List.any_eq_false]at h;exact h x hx (by simpa using hb)
theorem yT.PM {u:yT}{o p:Oper}{Y:List Nat}{st:AS}(hw:u.w7 an o)(h1:∀x∈writes an o,x∉cr p++vz an ops p++writes an p)(h2:∀d∈vZ an o,Y.contains d=true)(h3:∀d∈vZ an o,p.dst≠some d): Fc an ops Y p (u.apply st) st∧Fc an ops Y p st (u.apply st):=by
 have hget:∀t,t∈cr p++vz an ops p++writes an p→(u.apply st).get t=st.get t:=by intro t ht;unfold AS.get;have:nth (u.apply st).slots t=nth st.slots t:=D2 _ _ (λx hx he=>h1 _ (hw.slots x hx) (by rw[he];exact ht));rw[this]
 have hdst:∀d,p.dst=some d→nth (u.apply st).iss d=nth st.iss d∧nth (u.apply st).boxes d=nth st.boxes d:=by
  intro d hd;have hd':d∈cr p++vz an ops p++writes an p:=by simp[writes,hd]
  have hne:o.dst≠some d:=λhe=>h1 d (by simp[writes,he]) hd';constructor;unfold yT.apply;cases hi:u.iss with|none=>rfl|some k=>simp only;rw[fF,aq];rintro rfl;exact hne (hw.iss _ hi)
  unfold yT.apply;cases hi:u.box with|none=>rfl|some k=>simp only;rw[fF,aq];intro he;exact h3 _ (hw.box k hi) (by rw[he];exact hd)
 have hbox:∀s,Y.contains s=false→nth (u.apply st).boxes s=nth st.boxes s:=by intro s hs;unfold yT.apply;cases hi:u.box with|none=>rfl|some k=>simp only;rw[fF,aq];rintro rfl;have:=h2 k.1 (hw.box k hi);rw[this]at hs;cases hs
 have hlen:(u.apply st).slots.length=st.slots.length:=CS _ _;exact⟨⟨⟨hlen.symm,λt ht=>(hget t (by simp[ht])).symm,rfl,λd hd=>⟨((hdst d hd).1).symm,((hdst d hd).2).symm⟩,λs hs=>(hbox s hs).symm,λt ht=>(hget t (by simp[vz,ht])).symm⟩,λt ht=>(hget t (by simp[ht])).symm⟩,⟨⟨hlen,λt ht=>hget t (by simp[ht]),rfl,hdst,hbox,λt ht=>hget t (by simp[vz,ht])⟩,λt ht=>hget t (by simp[ht])⟩⟩
theorem Ki {u v:yT}{o p:Oper}{st:AS}(hu:u.w7 an o)(hv:v.w7 an p)(h:∀x∈writes an o,x∉writes an p)(hb:∀x∈vZ an o,x∉vZ an p):v.apply (u.apply st)=u.apply (v.apply st):=by
 have hdd:∀a b,o.dst=some a→p.dst=some b→a≠b:=λa b ha hb he=>h a (by simp[writes,ha]) (by simp[writes,hb,he]);have hs:=Ju st.slots u.slots v.slots (λx hx y hy he=>h _ (hu.slots x hx) (by rw[he];exact hv.slots y hy));simp only[yT.apply,AS.mk.injEq,true_and,eB];refine⟨hs,?_,?_⟩;cases hub:u.box with|none=>cases v.box<;>rfl|some k=>cases hvb:v.box with|none=>rfl|some l=>exact fe _ (λhe=>hb _ (hu.box k hub) (by rw[he];exact hv.box l hvb)) _ _
 cases hui:u.iss with|none=>cases v.iss<;>rfl|some k=>cases hvi:v.iss with|none=>rfl|some l=>exact fe _ (hdd _ _ (hu.iss k hui) (hv.iss l hvi)) _ _
theorem LU (hΓ:∀f,(Γ f).io=false∧((Γ f).bx=true→(Γ f).cur=true)∧(Γ f).pr=false){X Y:List Nat}{o p:Oper}{st s1 s2:AS}(ha:Kg an ops X Y o p=true)(h1:stepG E Γ an ops X o st=some s1)(h2:stepG E Γ an ops Y p s1=some s2): ∃t1,stepG E Γ an ops Y p st=some t1∧stepG E Γ an ops X o t1=some s2:=by
 simp only[Kg,ab,aB,az]at ha;obtain⟨⟨⟨⟨⟨⟨⟨mo,mp⟩,w1⟩,w2⟩,b1⟩,b2⟩,b3⟩,b4⟩:=ha;have w1:=gV w1;have w2:=gV w2;have b3:=gV b3;have b4:=gV b4;obtain⟨u,hu,rfl,hu2⟩:=Ar hΓ mo h1;obtain⟨v,hv,rfl,hv2⟩:=Ar hΓ mp h2;have ag1:=yT.PM (ops:=ops) (p:=p) (Y:=Y) (st:=st) hu w1 b1 (λd hd he=>b3 d hd (by simp[he]));have hww:∀x∈writes an p,x∉cr o++vz an ops o++writes an o:=by intro x hx hm;rcases al.1 hm with hm|hm;exact w2 x hx hm;exact w1 x hm (by simp[hx])
 have ag2:=yT.PM (ops:=ops) (p:=o) (Y:=X) (st:=st) hv hww b2 (λd hd he=>b4 d hd (by simp[he]));refine⟨v.apply st,hv2 st ag1.1,?_⟩;rw[hu2 _ ag2.2,Ki hu hv (λx hx hm=>w1 x hx (by simp[hm])) (λx hx hm=>b3 x hx (by simp[hm]))]
theorem xS {st:AS}{t:Nat}{v w:AV}(h:st.get t=v)(hv:v≠ .bot):(st.put (some t) w).get t=w:=by
 unfold AS.get at h;cases hn:nth st.slots t with
 |none=>rw[hn]at h;exact absurd h.symm hv
 |some q=>
  have hl:t<st.slots.length:=by rw[cz]at hn;exact(List.getElem?_eq_some_iff.1 hn).1
  unfold AS.get AS.put;simp only[cz,di];rw[List.getElem?_set_self hl];rfl
theorem nj {st:AS}{t d:Nat}{w:AV}(h:d≠t):(st.put (some d) w).get t=st.get t:=by unfold AS.get AS.put;simp only[fF,aq h]
theorem tH {X:List Nat}{o:Oper}{st s:AS}{t i d:Nat}(ho:o.op=.extract (.tmp t) i)(hd:o.dst=some d)(hg:o.guard=none):stepG E Γ an ops X o st=some s↔ ∃vs g cs,st.get t=.tup vs∧nth vs i=some (g,cs)∧(cs.all AC.dW||an.mv.contains d)=true∧s=(st.put (some t) (.tup (ez vs i (g,aE 0 cs)))).put (some d) (.val g cs):=by
 unfold stepG;simp only[cn,ho,hd];constructor;intro h;cases hv:st.get t with|val g cs=>simp only[hv,ah,ec,hg,cf,ho,gS]at h;cases h|tup vs=>simp only[hv]at h;cases hn:nth vs i with|none=>simp only[hn,ah,ec,hg,cf,ho,gS,hv]at h;cases h|some x=>obtain⟨g,cs⟩:=x;simp only[hn]at h;cases hf:(cs.all AC.dW||an.mv.contains d)with|false=>rw[hf]at h;cases h|true=>rw[hf]at h;simp only[ah,ec,hg,cf,ho,gS,hv,hn,hd]at h;cases h;exact⟨vs,g,cs,rfl,hn,hf,rfl⟩
 rintro⟨vs,g,cs,hv,hn,hf,rfl⟩;simp only[hv,hn,hf,ah,ec,hg,cf,ho,gS,hd]
theorem Pa {α:Type}(l:List α)(i:Nat)(v w:α):ez (ez l i v) i w=ez l i w:=by rw[di,di,di,List.set_set]
theorem Qf {X Y:List Nat}{o p:Oper}{st s1 s2:AS}(ha:KF o p=true)(h1:stepG E Γ an ops X o st=some s1)(h2:stepG E Γ an ops Y p s1=some s2): ∃t1,stepG E Γ an ops Y p st=some t1∧stepG E Γ an ops X o t1=some s2:=by
 unfold KF at ha;split at ha;rename_i t i t' j d d' ho hp hd hd' hg hg';simp only[ab,aL,aB,cJ,ne_eq]at ha;obtain⟨⟨⟨⟨rfl,hij⟩,hdd⟩,hdt⟩,hdt'⟩:=ha;obtain⟨vs,g,cs,hv,hn,hf,rfl⟩:=(tH ho hd hg).1 h1;obtain⟨vs2,g2,cs2,hv2,hn2,hf2,rfl⟩:=(tH hp hd' hg').1 h2;have hq:((st.put (some t) (.tup (ez vs i (g,aE 0 cs)))).put (some d) (.val g cs)).get t=.tup (ez vs i (g,aE 0 cs)):=by rw[nj hdt,xS hv (by simp)]
 rw[hq]at hv2;cases hv2;rw[fF,aq hij]at hn2;refine⟨_,(tH hp hd' hg').2 ⟨vs,g2,cs2,hv,hn2,hf2,rfl⟩,(tH ho hd hg).2 ⟨ez vs j (g2,aE 0 cs2),g,cs,?_,?_,hf,?_⟩⟩;rw[nj hdt',xS hv (by simp)];rw[fF,aq (bL hij)];exact hn;have e:=fe vs hij (g,aE 0 cs) (g2,aE 0 cs2);have a:∀(A B:AV)(q:Nat)(v:AV),q≠t→ez (ez (ez st.slots t A) q v) t B=ez (ez st.slots t B) q v:=λA B q v hq=>by rw[fe _ hq,Pa]
 simp only[AS.put,AS.mk.injEq,eB];rw[a _ _ _ _ hdt,a _ _ _ _ hdt',e,fe _ hdd];cases ha
theorem M3 (s:AS)(t:Nat):s.put (some t) (s.get t)=s:=by cases s with|mk slots boxes ep iss io=>simp only[AS.put,AS.mk.injEq,eB];rw[di];apply List.ext_getElem?;intro i;rw[List.getElem?_set];split;rename_i hd;subst hd;simp only[AS.get,cz];split;rename_i hlt;rw[List.getElem?_eq_getElem hlt];rfl;rename_i hge;rw[List.getElem?_eq_none (Nat.le_of_not_lt hge)];rfl
theorem JH {X:List Nat}{o:Oper}{st s:AS}{d t:Nat}(hd:o.dst=some d)(hg:o.guard=none)(ho:(o.op=.move (.tmp t)∧an.mv.contains d=false∧an.fm.contains d=true)∨∃i,o.op=.extract (.tmp t) i)(_hdt:d≠t)(h:stepG E Γ an ops X o st=some s): ∃tv v,s=(st.put (some t) tv).put (some d) v∧∀st2:AS,st2.get t=st.get t→stepG E Γ an ops X o st2=some ((st2.put (some t) tv).put (some d) v):=by
 rcases ho with⟨ho,hmv,hfm⟩|⟨i,ho⟩;have hrd:∀st2:AS,st2.get t=st.get t→(st.rd (.tmp t)).gC=true→st2.rd (.tmp t)=st.get t:=by
  intro st2 hq hs;simp only[AS.rd,hq]at hs⊢;cases hv:st.get t with
  |tup vs=>rw[hv]at hs;simp[AV.borrow,AV.gC]at hs
  |val g cs=>
   rw[hv]at hs;simp only[AV.borrow,AV.gC]at hs⊢;congr 1;have key:∀(cs:List AC)(j:Nat),(eI st.ep (λj=>fV.slot t j) j cs).all AC.gC=true→eI st2.ep (λj=>fV.slot t j) j cs=cs:=by
    intro cs;induction cs with
    |nil=>intro j _;rfl
    |cons c cs ih=>
     intro j h;simp only[eI,bp,ab]at h⊢;rw[ih (j+1) h.2];congr 1;cases c with
     |sl fl e xs=>cases fl with|holed _ _ ep=>cases ep<;>simp[AC.borrow,AC.gC]at h|_=>simp[AC.borrow,AC.gC]at h
     |_=>rfl
   exact key cs 0 hs
 unfold stepG at h;have hst:(st.rd (.tmp t)).gC=true:=by cases hs:(st.rd (.tmp t)).gC with|true=>rfl|false=>simp only[cn,ho,J7,hd,hfm,hs]at h;cases h
 refine⟨st.get t,st.get t,?_,λst2 hq=>?_⟩;simp only[cn,ho,J7,hd,hfm,hst,fN,ah,ec,hg,cf,tQ,hmv,aG,bC]at h;cases h;rw[hrd st rfl hst];congr 1;exact(M3 st t).symm;unfold stepG;have e1:=hrd st2 hq hst;have hst2:(st2.rd (.tmp t)).gC=true:=by rw[e1,←hrd st rfl hst];exact hst
 simp only[cn,ho,J7,hd,hfm,hst2,fN,ah,ec,hg,cf,tQ,hmv,aG,bC];rw[e1,←hq,M3];obtain⟨vs,g,cs,hv,hn,hf,rfl⟩:=(tH ho hd hg).1 h;refine⟨_,_,rfl,λst2 hq=>(tH ho hd hg).2 ⟨vs,g,cs,by rw[hq,hv],hn,hf,rfl⟩⟩
theorem S9 {Y:List Nat}{p:Oper}{T:TypeId}{q x:Nat}(hp:p.op=.store T (.tmp q) (.tmp x))(hd:p.dst=none)(hg:p.guard=none)(heb:(an.eb q).isSome=true)(hes:(an.es q).isNone=true)(hsb:(an.sb q).isNone=true)(hl:rV an p=false){st s:AS}(h:stepG E Γ an ops Y p st=some s): ∃B,s=⟨ez st.slots x ((st.get x).aE st.ep),B,st.ep+1,st.iss,st.io⟩∧ ∀st2:AS,st2.get q=st.get q→st2.get x=st.get x→st2.boxes=st.boxes→st2.ep=st.ep→st2.iss=st.iss→st2.io=st.io→ stepG E Γ an ops Y p st2=some ⟨ez st2.slots x ((st.get x).aE st.ep),B,st.ep+1,st.iss,st.io⟩:=by
 have hfree:∀st2:AS,st2.get q=st.get q→st2.ep=st.ep→cn E an Y p st2=cn E an Y p st:=by intro st2 h1 h2;simp only[cn,hp,AS.rd,h1,h2]
 unfold stepG at h;cases hf:cn E an Y p st with
 |false=>rw[hf]at h;cases h
 |true=>
  rw[hf]at h;simp only[ah,ec,hg,cf,hp,hd,hl,aG,bC]at h;have hfr:=hf;simp only[cn,hp]at hfr;have hnn:((an.sb q).isNone&&(an.eb q).isNone&&(an.es q).isNone)=false:=by cases he:an.eb q with|none=>rw[he]at heb;cases heb|some _=>simp
  rw[hnn,cZ]at hfr;unfold py at h;split at h;rename_i hrd;rw[hrd]at hfr;simp only[ab,aL]at hfr;rw[hfr.2]at hsb;cases hsb;rename_i sh ep0 r tg e y i off hT hrd;rw[hrd]at hfr;cases r with
  |slot _ _=>simp only[ab,aL]at hfr;rw[hfr.1.1]at hes;cases hes
  |io _=>simp at hfr
  |box b j=>
   split at h;rename_i gg vs st1 htk;have e1:(st.get x)=.val gg vs:=by have:=congrArg Prod.fst htk;exact this
   have e2:st1=⟨ez st.slots x ((st.get x).aE st.ep),st.boxes,st.ep,st.iss,st.io⟩:=by have:=congrArg Prod.snd htk;exact this.symm
   split at h;rename_i hlen;have main:∃B,∀sl:List AV,(⟨sl,st.boxes,st.ep,st.iss,st.io⟩:AS).jQ (.box b j) tg e i off vs some=some ⟨sl,B,st.ep+1,st.iss,st.io⟩:=by
    subst e2;simp only[AS.jQ,AS.df,AS.dh,AS.cX]at h⊢;cases hb:(nth st.boxes b).getD none with
    |none=>rw[hb]at h;simp at h
    |some cs=>
     rw[hb]at h;simp only[cU]at h⊢;split at h;rename_i t' e' xs hn;split at h;rename_i he;simp only[dif_pos he];generalize (he▸xs:List e.D)=zs at h⊢;split at h;rename_i ht;simp only[au ht];cases hi:idx zs i with|none=>rw[hi]at h;simp[aa]at h|some y0=>simp only[hi,aa]at h⊢;split at h;exact⟨_,λsl=>rfl⟩;cases h
     cases h;cases h;rename_i t' i' q0 e' xs hn;split at h;rename_i he;simp only[dif_pos he];generalize (he▸xs:List e.D)=zs at h⊢;split at h;rename_i ht;simp only[au ht];cases hi:KO zs i' i with|none=>rw[hi]at h;simp[aa]at h|some y0=>simp only[hi,aa]at h⊢;split at h;exact⟨_,λsl=>rfl⟩;cases h
     cases h;cases h;cases h
   obtain⟨B,hB⟩:=main;refine⟨B,?_,λst2 h1 h2 h3 h4 h5 h6=>?_⟩;subst e2;rw[hB]at h;exact(bE h).symm;unfold stepG;rw[hfree st2 h1 h4,hf];have r2:st2.rd (.tmp q)=st.rd (.tmp q):=by simp only[AS.rd,h1,h4]
   have t2:st2.take (.tmp x)=(.val gg vs,⟨ez st2.slots x ((st.get x).aE st.ep),st.boxes,st.ep,st.iss,st.io⟩):=by simp only[AS.take,AS.put,h2,h3,h4,h5,h6,e1]
   simp only[ah,ec,hg,cf,hp,hd,hl,aG,bC,py,hT,r2,hrd,t2];rw[au hlen];exact hB _;cases h;cases h
  cases h
theorem P7 {Y:List Nat}{p:Oper}{T:TypeId}{q x:Nat}(hp:p.op=.store T (.tmp q) (.tmp x))(hd:p.dst=none)(hg:p.guard=none){b:Nat}(hes:an.es q=some b)(heb:(an.eb q).isNone=true)(hbx:b≠x)(hsb:(an.sb q).isNone=true)(hl:rV an p=false){st s:AS}(h:stepG E Γ an ops Y p st=some s): ∃B,s=⟨ez (ez st.slots x ((st.get x).aE st.ep)) b B,st.boxes,st.ep+1,st.iss,st.io⟩∧ ∀st2:AS,st2.get q=st.get q→st2.get x=st.get x→nth st2.slots b=nth st.slots b→st2.boxes=st.boxes→st2.ep=st.ep→st2.iss=st.iss→st2.io=st.io→ stepG E Γ an ops Y p st2=some ⟨ez (ez st2.slots x ((st.get x).aE st.ep)) b B,st.boxes,st.ep+1,st.iss,st.io⟩:=by
 have hfree:∀st2:AS,st2.get q=st.get q→st2.ep=st.ep→cn E an Y p st2=cn E an Y p st:=by intro st2 h1 h2;simp only[cn,hp,AS.rd,h1,h2]
 unfold stepG at h;cases hf:cn E an Y p st with
 |false=>rw[hf]at h;cases h
 |true=>
  rw[hf]at h;simp only[ah,ec,hg,cf,hp,hd,hl,aG,bC]at h;have hfr:=hf;simp only[cn,hp]at hfr;have hnn:((an.sb q).isNone&&(an.eb q).isNone&&(an.es q).isNone)=false:=by rw[hes];simp
  rw[hnn,cZ]at hfr;unfold py at h;split at h;rename_i hrd;rw[hrd]at hfr;simp only[ab,aL]at hfr;rw[hfr.2]at hsb;cases hsb;rename_i sh ep0 r tg e y i off hT hrd;rw[hrd]at hfr;cases r with
  |box _ _=>simp only[ab,aL]at hfr;rw[hfr.1.1]at heb;cases heb
  |io _=>simp at hfr
  |slot b' j=>
   simp only[ab,aL]at hfr;have hbb:b'=b:=bE (hfr.1.1.symm.trans hes);subst hbb;split at h;rename_i gg vs st1 htk;have e1:(st.get x)=.val gg vs:=by have:=congrArg Prod.fst htk;exact this
   have e2:st1=⟨ez st.slots x ((st.get x).aE st.ep),st.boxes,st.ep,st.iss,st.io⟩:=by have:=congrArg Prod.snd htk;exact this.symm
   split at h;rename_i hlen;have main:∃B,∀sl:List AV,nth sl b'=nth st.slots b'→(⟨sl,st.boxes,st.ep,st.iss,st.io⟩:AS).jQ (.slot b' j) tg e i off vs some=some ⟨ez sl b' B,st.boxes,st.ep+1,st.iss,st.io⟩:=by
    subst e2;have hget:∀sl:List AV,nth sl b'=nth st.slots b'→(⟨sl,st.boxes,st.ep,st.iss,st.io⟩:AS).get b'=st.get b':=λsl hq=>by unfold AS.get;rw[hq]
    have hq0:nth (ez st.slots x ((st.get x).aE st.ep)) b'=nth st.slots b':=by rw[fF,aq (bL hbx)]
    simp only[AS.jQ,AS.df,AS.dh,hget _ hq0]at h;cases hb:st.get b' with
    |tup _=>rw[hb]at h;simp at h
    |val g0 cs=>
     rw[hb]at h;simp only at h;split at h;rename_i t' e' xs hn;split at h;rename_i he;split at h;rename_i ht;cases hi:idx (he▸xs:List e.D) i with|none=>rw[hi]at h;simp[aa]at h|some y0=>simp only[hi,aa]at h;split at h;rename_i x' hx';refine⟨.val g0 (ez cs j (.sl (.own (some t')) e ((he▸xs:List e.D).set i.toNat x'))),λsl hq=>?_⟩;simp only[AS.jQ,AS.df,AS.dh,hget _ hq,hb,hn,dif_pos he,au ht,hi,aa,hx',AS.put];cases h
     cases h;cases h;rename_i t' i' q0 e' xs hn;split at h;rename_i he;split at h;rename_i ht;cases hi:KO (he▸xs:List e.D) i' i with|none=>rw[hi]at h;simp[aa]at h|some y0=>simp only[hi,aa]at h;split at h;rename_i x' hx';refine⟨.val g0 (ez cs j (.sl (.own (some t')) e ((he▸xs:List e.D).set i.toNat x'))),λsl hq=>?_⟩;simp only[AS.jQ,AS.df,AS.dh,hget _ hq,hb,hn,dif_pos he,au ht,hi,aa,hx',AS.put];cases h
     cases h;cases h;cases h
   obtain⟨B,hB⟩:=main;refine⟨B,?_,λst2 h1 h2 hnb h3 h4 h5 h6=>?_⟩;subst e2;rw[hB _ (by rw[fF,aq (bL hbx)])]at h;exact(bE h).symm;unfold stepG;rw[hfree st2 h1 h4,hf];have r2:st2.rd (.tmp q)=st.rd (.tmp q):=by simp only[AS.rd,h1,h4]
   have t2:st2.take (.tmp x)=(.val gg vs,⟨ez st2.slots x ((st.get x).aE st.ep),st.boxes,st.ep,st.iss,st.io⟩):=by simp only[AS.take,AS.put,h2,h3,h4,h5,h6,e1]
   simp only[ah,ec,hg,cf,hp,hd,hl,aG,bC,py,hT,r2,hrd,t2];rw[au hlen];exact hB _ (by rw[fF,aq (bL hbx)];exact hnb);cases h;cases h
  cases h
theorem S8 {X Y:List Nat}{o p:Oper}{st s1 s2:AS}(ha:KC an o p=true)(h1:stepG E Γ an ops X o st=some s1)(h2:stepG E Γ an ops Y p s1=some s2): ∃t1,stepG E Γ an ops Y p st=some t1∧stepG E Γ an ops X o t1=some s2:=by
 unfold KC at ha;split at ha;rename_i T q x hp hpd hpg;simp only[ab,aB]at ha;obtain⟨⟨⟨heb,hsb⟩,hl⟩,ha⟩:=ha;have hcore:∃d t,o.dst=some d∧o.guard=none∧((o.op=.move (.tmp t)∧an.mv.contains d=false∧an.fm.contains d=true)∨∃i,o.op=.extract (.tmp t) i)∧d≠q∧d≠x∧t≠x∧d≠t∧t≠q:=by split at ha;rename_i t d ho hd hg;simp only[ab,aB,cJ]at ha;exact⟨d,t,hd,hg,.inl ⟨ho,ha.1.1.1.1.1.1,ha.1.1.1.1.1.2⟩,ha.1.1.1.1.2,ha.1.1.1.2,ha.1.1.2,ha.2,ha.1.2⟩;rename_i t i d ho hd hg;simp only[ab,aB,cJ]at ha;exact⟨d,t,hd,hg,.inr ⟨i,ho⟩,ha.1.1.1.1,ha.1.1.1.2,ha.1.1.2,ha.2,ha.1.2⟩;cases ha
 obtain⟨d,t,hd,hg,ho,hdq,hdx,htx,hdt,htq⟩:=hcore;obtain⟨tv,v,rfl,hrun⟩:=JH hd hg ho hdt h1;have hq:((st.put (some t) tv).put (some d) v).get q=st.get q:=by rw[nj hdq];exact nj htq
 have hx:((st.put (some t) tv).put (some d) v).get x=st.get x:=by rw[nj hdx,nj htx]
 simp only[bU,ab]at heb;rcases heb with⟨heb,hes⟩|hes;obtain⟨B,rfl,hgo⟩:=S9 hp hpd hpg heb hes hsb hl h2;have k1:=hgo st hq.symm hx.symm rfl rfl rfl rfl;refine⟨_,k1,?_⟩;have hg2:(⟨ez st.slots x ((((st.put (some t) tv).put (some d) v).get x).aE ((st.put (some t) tv).put (some d) v).ep),B,((st.put (some t) tv).put (some d) v).ep+1,((st.put (some t) tv).put (some d) v).iss,((st.put (some t) tv).put (some d) v).io⟩:AS).get t=st.get t:=by simp only[AS.get,fF,aq (bL htx)]
 rw[hrun _ hg2];simp only[AS.put,aO,AS.mk.injEq,eB];rw[fe _ (bL htx),fe _ (bL hdx)];cases hb:an.es q with
 |none=>rw[hb]at hes;cases hes
 |some b=>
  rw[hb]at hes;simp only[ab,aB,cJ]at hes;obtain⟨⟨⟨heb,hbx⟩,_⟩,hbw⟩:=hes;have hbw:=gV hbw b (by simp);have hbd:b≠d:=λe=>hbw (by simp[hd,e]);have hbt:b≠t:=λe=>hbw (by refine al.2 (.inr ?_);rcases ho with⟨ho,_⟩|⟨i,ho⟩<;>simp[cr,ho,tm,e]);obtain⟨B,rfl,hgo⟩:=P7 hp hpd hpg hb heb hbx hsb hl h2;have hnb:nth st.slots b=nth ((st.put (some t) tv).put (some d) v).slots b:=by simp only[AS.put,fF,aq (bL hbd),aq (bL hbt)]
  have k1:=hgo st hq.symm hx.symm hnb rfl rfl rfl rfl;refine⟨_,k1,?_⟩;have hg2:(⟨ez (ez st.slots x ((((st.put (some t) tv).put (some d) v).get x).aE ((st.put (some t) tv).put (some d) v).ep)) b B,((st.put (some t) tv).put (some d) v).boxes,((st.put (some t) tv).put (some d) v).ep+1,((st.put (some t) tv).put (some d) v).iss,((st.put (some t) tv).put (some d) v).io⟩:AS).get t=st.get t:=by simp only[AS.get,fF,aq (bL htx),aq hbt]
  rw[hrun _ hg2];simp only[AS.put,aO,AS.mk.injEq,eB];rw[fe _ hbt,fe _ hbd,fe _ (bL htx),fe _ (bL hdx)]
 cases ha
theorem GW {c:AC}{ep:Nat}(h:c.gC=true∨(c.borrow ep none).gC=true):c.borrow ep none=c:=by
 cases c with
 |sl fl e xs=>exfalso;cases fl with|holed _ _ ep=>cases ep<;>simp[AC.borrow,AC.gC]at h|_=>simp[AC.borrow,AC.gC]at h
 |_=>rfl
theorem De {cs:List AC}{off n ep:Nat}(hfit:off+n≤cs.length)(k:Nat):(cd cs off (aE ep ((cs.drop off).take n)))[k]?=(cs[k]?).map λc=>if off≤k∧k<off+n then c.borrow ep none else c:=by
 have hl:(aE ep ((cs.drop off).take n)).length=n:=by simp[aE];omega
 unfold cd;rw[hl];by_cases h1:k<off;rw[aC,List.getElem?_append_left (by simp;omega),List.getElem?_take_of_lt h1];have:(λc:AC=>if off≤k∧k<off+n then c.borrow ep none else c)=id:=by funext c;rw[aq (by omega)];rfl
 rw[this,Option.map_id];rfl;by_cases h2:k<off+n;rw[List.getElem?_append_left (by simp[hl];omega),List.getElem?_append_right (by simp;omega)];have e:k-(cs.take off).length=k-off:=by simp;omega
 rw[e,aE,List.getElem?_map,List.getElem?_take_of_lt (by omega),List.getElem?_drop,show off+(k-off)=k by omega];congr 1;funext c;rw[au (by omega)];rw[List.getElem?_append_right (by simp[hl];omega)];have e:k-(cs.take off++aE ep ((cs.drop off).take n)).length=k-(off+n):=by simp[hl];omega
 rw[e,List.getElem?_drop,show off+n+(k-(off+n))=k by omega];have:(λc:AC=>if off≤k∧k<off+n then c.borrow ep none else c)=id:=by funext c;rw[aq (by omega)];rfl
 rw[this,Option.map_id];rfl
theorem yI {cs:List AC}{off n ep o2 n2:Nat}(hfit:off+n≤cs.length)(h:((cs.drop o2).take n2).all AC.gC=true∨(((cd cs off (aE ep ((cs.drop off).take n))).drop o2).take n2).all AC.gC=true): ((cd cs off (aE ep ((cs.drop off).take n))).drop o2).take n2=(cs.drop o2).take n2:=by
 apply List.ext_getElem?;intro k;by_cases hk:k<n2;rw[List.getElem?_take_of_lt hk,List.getElem?_take_of_lt hk,List.getElem?_drop,List.getElem?_drop,De hfit];cases hc:cs[o2+k]? with|none=>rfl|some c=>simp only[ch];split;rename_i hin;refine congrArg some (GW ?_);rcases h with h|h;left;refine az.1 h c (List.mem_of_getElem? (i:=k) ?_);rw[List.getElem?_take_of_lt hk,List.getElem?_drop,hc];right;refine az.1 h _ (List.mem_of_getElem? (i:=k) ?_);rw[List.getElem?_take_of_lt hk,List.getElem?_drop,De hfit,hc,ch,au hin];rfl
 rw[List.getElem?_eq_none (by simp;omega),List.getElem?_eq_none (by simp;omega)]
theorem zO {b ep:Nat}:∀{cs:List AC}{j:Nat},cs.all AC.gC=true→eI ep (.box b) j cs=cs
 |[],_,_=>rfl
 |c::cs,j,h=>by simp only[bp,ab]at h;rw[eI,zO h.2];congr 1;cases c<;>first|rfl|(simp[AC.gC]at h)
theorem Du {o:Oper}(h:tB an o=true):∃T q d,o.op=.load T (.tmp q)∧o.dst=some d∧o.guard=none∧an.mv.contains d=true∧(an.mb d).isSome=true:=by unfold tB at h;split at h;rename_i T q d ho hd hg;simp only[ab]at h;exact⟨T,q,d,ho,hd,hg,h.1,h.2⟩;cases h
theorem Ch {o:Oper}(h:Cg an o=true):∃T q d,o.op=.load T (.tmp q)∧o.dst=some d∧o.guard=none∧an.mv.contains d=false∧an.fm.contains d=true:=by unfold Cg at h;split at h;rename_i T q d ho hd hg;simp only[ab,aB]at h;exact⟨T,q,d,ho,hd,hg,h.1,h.2⟩;cases h
theorem wD {X:List Nat}{o:Oper}{T:TypeId}{q d:Nat}(ht:tB an o=true)(ho:o.op=.load T (.tmp q))(hd:o.dst=some d)(hg:o.guard=none)(hmv:an.mv.contains d=true){st s:AS}:stepG E Γ an ops X o st=some s↔ ∃sh b off cs,ft E.ty T=some sh∧st.rd (.tmp q)=.val false [.ptr b off]∧(nth st.boxes b).getD none=some cs∧off+sh.ct.size≤cs.length∧X.contains b=false∧an.mb d=some b∧(J7 an o=true→vy E T st b off=true)∧ s=(st.cX b (some (cd cs off (aE st.ep ((cs.drop off).take sh.ct.size))))).put (some d) (.val sh.agg ((cs.drop off).take sh.ct.size)):=by
 have key:cn E an X o st=true→∀r,cf E Γ an o st some=some r→∃b off,st.rd (.tmp q)=.val false [.ptr b off]:=by intro hf r hr;simp only[cf,ho,jF]at hr;split at hr;rename_i hp;exact⟨_,_,hp⟩;rename_i hp;simp only[cn,ho,hp,ht,fN,ar,eG,dQ]at hf;cases hf;cases hr
 unfold stepG;constructor;intro h;cases hf:cn E an X o st with|false=>rw[hf]at h;cases h|true=>rw[hf]at h;simp only[ah,ec,hg]at h;obtain⟨b,off,hp⟩:=key hf s h;simp only[cn,ho,hp,hd,hmv,ar,cZ,ab,aB,aL,bU]at hf;simp only[cf,ho,jF,hp]at h;cases hT:ft E.ty T with|none=>rw[hT]at h;cases h|some sh=>rw[hT]at h;simp only at h;cases hb:(nth st.boxes b).getD none with|none=>rw[hb]at h;cases h|some cs=>rw[hb]at h;simp only at h;split at h;rename_i hfit;simp only[hd,hmv,bj]at h;cases h;refine⟨sh,b,off,cs,rfl,hp,hb,hfit,hf.1.1,hf.1.2,λhm=>?_,rfl⟩;rcases hf.2 with g|g;rw[hm]at g;cases g;exact g;cases h
 rintro⟨sh,b,off,cs,hT,hp,hb,hfit,hX,hmb,hfm,rfl⟩;have hf:cn E an X o st=true:=by simp only[cn,ho,hp,hd,hmv,hX,hmb,ar,cZ,ab,aB,aL,bU];refine⟨⟨trivial,trivial⟩,?_⟩;cases hm:J7 an o with|false=>exact .inl rfl|true=>exact .inr (hfm hm)
 rw[hf];simp only[ah,ec,hg,cf,ho,jF,hp,hT,hb,au hfit,hd,hmv,bj]
theorem wk {X:List Nat}{o:Oper}{T:TypeId}{q d:Nat}(ho:o.op=.load T (.tmp q))(hd:o.dst=some d)(hg:o.guard=none)(hmv:an.mv.contains d=false)(hfm:an.fm.contains d=true){st s:AS}:stepG E Γ an ops X o st=some s↔ ∃sh b off cs,ft E.ty T=some sh∧st.rd (.tmp q)=.val false [.ptr b off]∧(nth st.boxes b).getD none=some cs∧off+sh.ct.size≤cs.length∧X.contains b=false∧((cs.drop off).take sh.ct.size).all AC.gC=true∧ s=st.put (some d) (.val sh.agg ((cs.drop off).take sh.ct.size)):=by
 have hfb:J7 an o=true:=by simp only[J7,hd,hfm]
 have key:cn E an X o st=true→∀r,cf E Γ an o st some=some r→∃b off,st.rd (.tmp q)=.val false [.ptr b off]:=by intro hf r hr;simp only[cf,ho,jF]at hr;split at hr;rename_i hp;exact⟨_,_,hp⟩;rename_i hp;simp only[cn,ho,hp,hfb,fO,ar,eG,dQ]at hf;cases hf;cases hr
 unfold stepG;constructor;intro h;cases hf:cn E an X o st with
 |false=>rw[hf]at h;cases h
 |true=>
  rw[hf]at h;simp only[ah,ec,hg]at h;obtain⟨b,off,hp⟩:=key hf s h;simp only[cn,ho,hp,hd,hmv,hfb,ar,cp,fO,cZ,dL,ab,aB]at hf;simp only[cf,ho,jF,hp]at h;cases hT:ft E.ty T with
  |none=>rw[hT]at h;cases h
  |some sh=>
   rw[hT]at h;simp only at h;cases hb:(nth st.boxes b).getD none with
   |none=>rw[hb]at h;cases h
   |some cs=>
    rw[hb]at h;simp only at h;split at h;rename_i hfit;have hst:((cs.drop off).take sh.ct.size).all AC.gC=true:=by have:=hf.2;unfold vy at this;rw[hT,hb]at this;exact this
    simp only[hd,hmv,aG,bC,zO hst]at h;cases h;exact⟨sh,b,off,cs,rfl,hp,hb,hfit,hf.1,hst,rfl⟩;cases h
 rintro⟨sh,b,off,cs,hT,hp,hb,hfit,hX,hst,rfl⟩;have hf:cn E an X o st=true:=by simp only[cn,ho,hp,hd,hmv,hX,hfb,vy,hT,hb,hst];rfl
 rw[hf];simp only[ah,ec,hg,cf,ho,jF,hp,hT,hb,au hfit,hd,hmv,aG,bC,zO hst]
theorem EW {st:AS}{q d:Nat}{v:AV}(h:d≠q):(st.put (some d) v).rd (.tmp q)=st.rd (.tmp q):=by simp only[AS.rd,nj h];rfl
theorem Rd {st:AS}{q b:Nat}{cs:Option (List AC)}:(st.cX b cs).rd (.tmp q)=st.rd (.tmp q):=rfl
theorem Ko {st:AS}{b:Nat}{cs x:List AC}(h:(nth st.boxes b).getD none=some cs):(nth (ez st.boxes b (some x)) b).getD none=some x:=by
 rw[fF,au rfl];cases hn:nth st.boxes b with
 |none=>rw[hn]at h;cases h
 |some _=>
  have:b<st.boxes.length:=by rw[cz]at hn;exact(List.getElem?_eq_some_iff.1 hn).1
  rw[au this];rfl
theorem Kq {st:AS}{b b2:Nat}{x:List AC}(h:b≠b2):nth (ez st.boxes b (some x)) b2=nth st.boxes b2:=by rw[fF,aq h]
theorem Tz {X Y:List Nat}{o p:Oper}{st s1 s2:AS}(ha:Li an o p=true)(h1:stepG E Γ an ops X o st=some s1)(h2:stepG E Γ an ops Y p s1=some s2): ∃t1,stepG E Γ an ops Y p st=some t1∧stepG E Γ an ops X o t1=some s2:=by
 simp only[Li,ab,bU,aB]at ha;obtain⟨⟨ha,m1⟩,m2⟩:=ha;have m1:=gV m1;have m2:=gV m2;rcases ha with⟨ht,hf⟩|⟨hf,ht⟩;obtain⟨T,q,d,ho,hd,hg,hmv,hmb⟩:=Du ht;obtain⟨T2,q2,d2,hp,hd2,hg2,hmv2,hfm2⟩:=Ch hf;have n1:d≠d2:=λe=>m1 d (by simp[hd]) (by simp[hd2,e]);have n2:d≠q2:=λe=>m1 d (by simp[hd]) (by simp[cr,hp,tm,e]);have n3:d2≠q:=λe=>m2 d2 (by simp[hd2]) (by simp[cr,ho,tm,e]);obtain⟨sh,b,off,cs,hT,hr,hb,hfit,hX,hmbe,hfm,rfl⟩:=(wD ht ho hd hg hmv).1 h1;obtain⟨sh2,b2,off2,cs2,hT2,hr2,hb2,hfit2,hX2,hst2,rfl⟩:=(wk hp hd2 hg2 hmv2 hfm2).1 h2;rw[EW n2,Rd]at hr2;have hbx:(nth (ez st.boxes b (some (cd cs off (aE st.ep ((cs.drop off).take sh.ct.size))))) b2).getD none=some cs2:=hb2;have hfin:∃cs0,(nth st.boxes b2).getD none=some cs0∧off2+sh2.ct.size≤cs0.length∧(cs2.drop off2).take sh2.ct.size=(cs0.drop off2).take sh2.ct.size:=by
  by_cases hbb:b=b2;subst hbb;rw[Ko hb]at hbx;cases hbx;have hlen:(cd cs off (aE st.ep ((cs.drop off).take sh.ct.size))).length=cs.length:=by simp only[cd,aE,ak,cg,bn,bc];omega
  exact⟨cs,hb,by omega,yI hfit (.inr hst2)⟩;rw[Kq hbb]at hbx;exact⟨cs2,hbx,hfit2,rfl⟩
 obtain⟨cs0,hb0,hfit0,he⟩:=hfin;rw[he]at hst2⊢;refine⟨_,(wk hp hd2 hg2 hmv2 hfm2).2 ⟨sh2,b2,off2,cs0,hT2,hr2,hb0,hfit0,hX2,hst2,rfl⟩,(wD ht ho hd hg hmv).2 ⟨sh,b,off,cs,hT,by rw[EW n3];exact hr,hb,hfit,hX,hmbe,λhm=>?_,?_⟩⟩;have:=hfm hm;unfold vy at this⊢;exact this;simp only[AS.put,AS.cX,AS.mk.injEq,eB];exact fe _ n1 _ _;obtain⟨T,q,d,ho,hd,hg,hmv,hfm⟩:=Ch hf;obtain⟨T2,q2,d2,hp,hd2,hg2,hmv2,hmb2⟩:=Du ht;have n1:d≠d2:=λe=>m1 d (by simp[hd]) (by simp[hd2,e]);have n2:d≠q2:=λe=>m1 d (by simp[hd]) (by simp[cr,hp,tm,e]);have n3:d2≠q:=λe=>m2 d2 (by simp[hd2]) (by simp[cr,ho,tm,e]);obtain⟨sh,b,off,cs,hT,hr,hb,hfit,hX,hst,rfl⟩:=(wk ho hd hg hmv hfm).1 h1;obtain⟨sh2,b2,off2,cs2,hT2,hr2,hb2,hfit2,hX2,hmbe,hfm2,rfl⟩:=(wD ht hp hd2 hg2 hmv2).1 h2;rw[EW n2]at hr2;refine⟨_,(wD ht hp hd2 hg2 hmv2).2 ⟨sh2,b2,off2,cs2,hT2,hr2,hb2,hfit2,hX2,hmbe,λhm=>hfm2 hm,rfl⟩,?_⟩;have hfin:∃cs0,(nth (ez st.boxes b2 (some (cd cs2 off2 (aE st.ep ((cs2.drop off2).take sh2.ct.size))))) b).getD none=some cs0∧off+sh.ct.size≤cs0.length∧(cs0.drop off).take sh.ct.size=(cs.drop off).take sh.ct.size:=by
  by_cases hbb:b2=b;subst hbb;have hcs:cs2=cs:=bE (hb2.symm.trans hb);subst hcs;have hlen:(cd cs2 off2 (aE st.ep ((cs2.drop off2).take sh2.ct.size))).length=cs2.length:=by simp only[cd,aE,ak,cg,bn,bc];omega
  exact⟨_,Ko hb,by omega,yI hfit2 (.inl hst)⟩;exact⟨cs,by rw[Kq hbb];exact hb,hfit,rfl⟩
 obtain⟨cs0,hb0,hfit0,he⟩:=hfin;refine(wk ho hd hg hmv hfm).2 ⟨sh,b,off,cs0,hT,by rw[EW n3,Rd];exact hr,hb0,hfit0,hX,by rw[he];exact hst,?_⟩;rw[he];simp only[AS.put,AS.cX,AS.mk.injEq,eB];exact fe _ n1 _ _
theorem Dt {X:List Nat}{o:Oper}{T:TypeId}{q d:Nat}(ht:vV an o=true)(ho:o.op=.load T (.tmp q))(hd:o.dst=some d)(hg:o.guard=none)(hmv:an.mv.contains d=true)(hmb:an.mb d=none){st s:AS}:stepG E Γ an ops X o st=some s↔ ∃(g:Bool)(e:CT)(offs:List (Nat×Nat))(b j t ep0:Nat)(x:e.D)(i:Int)(cs:List AC)(ys:List e.D)(y:e.D),ft E.ty T=some ⟨g,e,offs⟩∧st.rd (.tmp q)=.val false [.elt (.loc ep0 (some (.box b j,t))) e x i 0]∧(nth st.boxes b).getD none=some cs∧nth cs j=some (.sl (.own (some t)) e ys)∧idx ys i=some y∧ X.contains b=false∧an.eb q=some b∧J7 an o=false∧s=(yN st b j t e i cs ys).put (some d) (.val g (cellsOf e (.own none) y)):=by rw[←Ds ht ho hd hmv hmb];unfold stepG;cases cn E an X o st with|false=>simp|true=>simp only[ah,ec,hg,cf,ho,true_and]
theorem OX {o:Oper}(h:sV an o=true):∃T q d,o.op=.load T (.tmp q)∧o.dst=some d∧o.guard=none∧an.mv.contains d=false∧J7 an o=false:=by unfold sV at h;split at h;rename_i T q d ho hd hg;simp only[ab,aB]at h;exact⟨T,q,d,ho,hd,hg,h.1.1,by simp only[J7,hd];exact h.1.2⟩;cases h
theorem CR {X:List Nat}{o:Oper}{T:TypeId}{q d:Nat}(hpl:sV an o=true)(ho:o.op=.load T (.tmp q))(hd:o.dst=some d)(hg:o.guard=none)(hmv:an.mv.contains d=false)(hfm:J7 an o=false){st s:AS}:stepG E Γ an ops X o st=some s↔ ∃sh b off cs,ft E.ty T=some sh∧st.rd (.tmp q)=.val false [.ptr b off]∧(nth st.boxes b).getD none=some cs∧off+sh.ct.size≤cs.length∧X.contains b=false∧ s=st.put (some d) (.val sh.agg (eI st.ep (.box b) off ((cs.drop off).take sh.ct.size))):=by
 unfold stepG;constructor;intro h;cases hf:cn E an X o st with|false=>rw[hf]at h;cases h|true=>rw[hf]at h;simp only[ah,ec,hg,cf,ho]at h;unfold jF at h;split at h;rename_i sh b off hT hp;simp only[cn,ho,hp,hd,hmv,hfm,cp,fO,dL,aB]at hf;split at h;rename_i cs hb;split at h;rename_i hfit;simp only[hd,hmv,aG,bC]at h;cases h;exact⟨sh,b,off,cs,hT,hp,hb,hfit,hf,rfl⟩;cases h;cases h;rename_i hp;simp only[cn,ho,hp,hpl,ar,eG,dQ]at hf;cases hf;cases h
 rintro⟨sh,b,off,cs,hT,hp,hb,hfit,hX,rfl⟩;have hf:cn E an X o st=true:=by simp only[cn,ho,hp,hd,hmv,hX,hfm];rfl
 rw[hf];simp only[ah,ec,hg,cf,ho,jF,hp,hT,hb,au hfit,hd,hmv,aG,bC]
theorem Bx {ep b:Nat}:∀(cs:List AC)(p k:Nat)(c':AC),(∀c,cs[k]?=some c→∀r,c'.borrow ep (some r)=c.borrow ep (some r))→eI ep (.box b) p (cs.set k c')=eI ep (.box b) p cs
 |[],_,_,_,_=>rfl
 |c::cs,p,0,c',h=>by simp only[List.set_cons_zero,eI,h c rfl]
 |c::cs,p,k+1,c',h=>by simp only[List.set_cons_succ,eI];rw[Bx cs (p+1) k c' (λc hc=>h c (by simpa using hc))]
theorem Hh {ep b j t off n:Nat}{e:CT}{i:Int}{ys:List e.D}{cs:List AC}(hj:nth cs j=some (.sl (.own (some t)) e ys)): eI ep (.box b) off (((ez cs j (.sl (.holed (some t) i (some ep)) e ys)).drop off).take n)=eI ep (.box b) off ((cs.drop off).take n):=by rw[di,List.drop_set];split;rfl;rename_i hlt;rw[List.take_set];refine Bx _ _ _ _ λc hc r=>?_;by_cases hn:j-off<n;rw[List.getElem?_take_of_lt hn,List.getElem?_drop,show off+(j-off)=j by omega,←cz,hj]at hc;cases hc;rfl;rw[List.getElem?_eq_none (by simp;omega)]at hc;cases hc
theorem S0 {X Y:List Nat}{o p:Oper}{st s1 s2:AS}(ha:Ks an o p=true)(h1:stepG E Γ an ops X o st=some s1)(h2:stepG E Γ an ops Y p s1=some s2): ∃t1,stepG E Γ an ops Y p st=some t1∧stepG E Γ an ops X o t1=some s2:=by
 simp only[Ks,ab,aB]at ha;obtain⟨⟨⟨hpl,ht⟩,m1⟩,m2⟩:=ha;have m1:=gV m1;have m2:=gV m2;obtain⟨T,q,d,ho,hd,hg,hmv,hfm⟩:=OX hpl;obtain⟨T2,q2,d2,hp,hd2,hg2,hmv2,hmb2⟩:=E8 ht;have n1:d≠d2:=λe=>m1 d (by simp[hd]) (by simp[hd2,e]);have n2:d≠q2:=λe=>m1 d (by simp[hd]) (by simp[cr,hp,tm,e]);have n3:d2≠q:=λe=>m2 d2 (by simp[hd2]) (by simp[cr,ho,tm,e]);obtain⟨sh,b,off,cs,hT,hr,hb,hfit,hX,rfl⟩:=(CR hpl ho hd hg hmv hfm).1 h1;obtain⟨g,e,offs,b2,j,t,ep0,x,i,cs2,ys,y,hT2,hr2,hb2,hj,hi,hX2,heb,hfm2,rfl⟩:=(Dt ht hp hd2 hg2 hmv2 hmb2).1 h2;rw[EW n2]at hr2;have hb2':(nth st.boxes b2).getD none=some cs2:=hb2;refine⟨_,(Dt ht hp hd2 hg2 hmv2 hmb2).2 ⟨g,e,offs,b2,j,t,ep0,x,i,cs2,ys,y,hT2,hr2,hb2',hj,hi,hX2,heb,hfm2,rfl⟩,?_⟩;have hfin:∃cs0,(nth (ez st.boxes b2 (some (ez cs2 j (.sl (.holed (some t) i (some st.ep)) e ys)))) b).getD none=some cs0∧off+sh.ct.size≤cs0.length∧eI st.ep (.box b) off ((cs0.drop off).take sh.ct.size)=eI st.ep (.box b) off ((cs.drop off).take sh.ct.size):=by by_cases hbb:b2=b;subst hbb;have hcs:cs2=cs:=bE (hb2'.symm.trans hb);subst hcs;exact⟨_,Ko hb,by rw[di,aP];exact hfit,Hh hj⟩;exact⟨cs,by rw[Kq hbb];exact hb,hfit,rfl⟩
 obtain⟨cs0,hb0,hfit0,he⟩:=hfin;refine(CR hpl ho hd hg hmv hfm).2 ⟨sh,b,off,cs0,hT,by rw[EW n3];exact hr,hb0,hfit0,hX,?_⟩;show _=((yN st b2 j t e i cs2 ys).put (some d2) _).put (some d) (.val sh.agg (eI st.ep (.box b) off ((cs0.drop off).take sh.ct.size)));rw[he];simp only[AS.put,yN,AS.cX,AS.mk.injEq,eB];exact fe _ n1 _ _
def D4 (E:Env)(Γ:cG)(an:An)(ops:List Oper)(X:Nat→List Nat):List Nat→AS→Option AS
 |[],st=>some st
 |i::r,st=>match nth ops i with
  |some o=>(stepG E Γ an ops (X i) o st).bind (D4 E Γ an ops X r)
  |none=>none
theorem C5 (hΓ:∀f,(Γ f).io=false∧((Γ f).bx=true→(Γ f).cur=true)∧(Γ f).pr=false){X:Nat→List Nat}{i:Nat}{oi:Oper}(hi:nth ops i=some oi):∀(pre post:List Nat)(st r:AS),(∀j∈pre,∀oj,nth ops j=some oj→Bt an ops (X j) (X i) oj oi=true)→
 D4 E Γ an ops X (pre++i::post) st=some r→D4 E Γ an ops X (i::(pre++post)) st=some r
 |[],post,st,r,_,h=>h
 |j::pre,post,st,r,ha,h=>by
  simp only[List.cons_append,D4]at h;cases hj:nth ops j with
  |none=>rw[hj]at h;cases h
  |some oj=>
   rw[hj]at h;simp only at h;obtain⟨s1,h1,h2⟩:=ay.1 h;have h3:=C5 hΓ hi pre post s1 r (λk hk=>ha k (by simp[hk])) h2;simp only[D4,hi]at h3;obtain⟨s2,h4,h5⟩:=ay.1 h3;have hap:=ha j (by simp) oj hj;obtain⟨t1,k1,k2⟩:∃t1,stepG E Γ an ops (X i) oi st=some t1∧stepG E Γ an ops (X j) oj t1=some s2:=by cases hx:Q7 an oj oi with|false=>rw[Bt,hx,cZ]at hap;exact LU hΓ hap h1 h4|true=>simp only[Q7,bU]at hx;rcases hx with((hx|hx)|hx)|hx;exact Qf hx h1 h4;exact S8 hx h1 h4;exact Tz hx h1 h4;exact S0 hx h1 h4
   simp only[D4,hi,k1,cU,List.cons_append,hj,k2];exact h5
end Go.Dn
