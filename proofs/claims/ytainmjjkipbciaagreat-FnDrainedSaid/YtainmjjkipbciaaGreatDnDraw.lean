import Derived.Test.YtainmjjkipbciaaGreatDnUpd
/- Operations that are apart may change places. -/
namespace Go.Dn
variable {E:Env} {Γ:eE} {an:An} {ops:ax Oper}
variable {s s1 s2 st:AS} {b d ep off q t:Nat} {α:Type} {T:TypeId} {X Y:fF}
def cM (E:Env)(Γ:eE)(an:An)(ops:ax Oper)(X:fF)(o:Oper)(st:AS):aB AS:=
 bif dF E an X o st then gQ E Γ an ops o st some else none
structure MM (an:An) (ops:List Oper) (X:List Nat) (o:Oper) (st st2:AS):Prop where
 base:hH an X o st st2
 gd:∀t∈BF an ops o,st2.get t=st.get t
theorem Rq {b:Bool}(h:st.get d=.val false [.bool b]):st.put (some d) (.one (.bool b))=st:=by cases st with|mk slots boxes ep iss io=>simp only[AS.put,AS.mk.injEq,iU];rw[fT];apply cV;intro i;rw[bC];split;rename_i hd;subst hd;simp only[AS.get,dX]at h;split;rename_i hlt;rw[al hlt]at h⊢;simp only[fX]at h;rw[h];rename_i hge;rw[bH (Nat.le_of_not_lt hge)];rfl
theorem NV {st2:AS}{s:Nat}(h:nth st2.boxes s=nth st.boxes s):BA E T st2 s off=BA E T st s off:=by unfold BA;rw[h]
theorem DD {o:Oper}{st2:AS}(ha:hH an X o st st2):dF E an X o st2=dF E an X o st:=by
 unfold dF;split;rename_i ho;rw[ha.rd (λt ht=>by simpa[dR,ho]using ht)];rename_i T p ho;rw[ha.rd (λt ht=>by simp[dR,ho,ht]),ha.ep];rename_i ho;rw[ha.rd (λt ht=>by simp[dR,ho,ht]),ha.ep];rename_i f args ts ho;have hcur:rV an X (Yt an o) st2 args.toList=rV an X (Yt an o) st args.toList:=by
  have hl:∀x∈args.toList,∀t∈tm x,t∈dR o:=by intro x hx t ht;simp only[dR,ho,aw,Ll,List.mem_flatMap];exact .inr ⟨x,hx,ht⟩
  generalize args.toList=l at hl;cases l with
  |nil=>rfl
  |cons x xs=>
   have hself:xs.all (E0 (Yt an o) st2)=xs.all (E0 (Yt an o) st):=by
    rw[dS];simp only[aJ];have e:∀y∈xs,E0 (Yt an o) st2 y=E0 (Yt an o) st y:=by intro y hy;cases y with|tmp t=>have hg:=ha.get t (hl (.tmp t) (by simp[hy]) t (by simp[tm]));simp only[E0,hg]|const v=>rfl|func v=>rfl|global v=>rfl
    exact⟨λg y hy=>by rw[<-e y hy];exact g y hy,λg y hy=>by rw[e y hy];exact g y hy⟩
   have hr:=ha.rd (hl x (by simp));cases x with
   |tmp q=>
    simp only[rV,hr];generalize st.rd (.tmp q)=v;unfold YQ;rw[hself];split;rename_i s off;cases hX:X.contains s with|true=>simp|false=>rw[ha.box s hX]
    rfl
   |const v=>simp only[rV,hr]
   |func v=>simp only[rV,hr]
   |global v=>simp only[rV,hr]
 rw[hcur];congr 1;rw[dS];simp only[aJ];constructor;intro hx x hm;have:=hx x hm;rwa[ha.rd (λt ht=>by simp only[dR,ho,aw,Ll,List.mem_flatMap];exact .inr ⟨x,hm,ht⟩),ha.ep]at this;intro hx x hm;rw[ha.rd (λt ht=>by simp only[dR,ho,aw,Ll,List.mem_flatMap];exact .inr ⟨x,hm,ht⟩),ha.ep];exact hx x hm;rename_i ho;rw[ha.rd (λt ht=>by simpa[dR,ho]using ht),ha.ep];split;rename_i s off _;cases hX:X.contains s with|true=>rfl|false=>rw[NV (ha.box s hX)]
 rfl;rfl;rename_i ho;rw[ha.rd (λt ht=>by simp only[dR,ho,aw];exact .inl ht)];rename_i ho;rw[ha.get _ (by simp[dR,ho])];rfl
theorem Hb (hΓ:∀f,(Γ f).io=false/\((Γ f).bx=true->(Γ f).cur=true)/\(Γ f).pr=false){o:Oper}{st':AS}(hm:na an o=true)(h:cM E Γ an ops X o st=some st'): ∃u:Fo,u.Dq an o/\st'=u.apply st/\∀st2,MM an ops X o st st2->cM E Γ an ops X o st2=some (u.apply st2):=by
 unfold cM at h;cases hf:dF E an X o st with
 |false=>rw[hf]at h;cases h
 |true=>
  rw[hf]at h;simp only[ah]at h;unfold gQ at h;split at h;rename_i hg;obtain⟨u,h1,h2,h3⟩:=Kw (X:=X) hΓ hm hf h;refine⟨u,h1,h2,λst2 ha=>?_⟩;unfold cM;rw[DD ha.base,hf];simp only[ah,gQ,hg];exact h3 st2 ha.base;rename_i j want hg;split at h;rename_i d hd;have hin:d∈BF an ops o:=by simp[BF,hg,hd]
  split at h;rename_i b hb;have hgo:(if(b==want)=true then dq E Γ an o st some else some (st.put o.dst (.one .un)))=some st':=by cases b<;>simpa only[ah,af,Rq hb]using h
  have h2g:∀st2,MM an ops X o st st2->cM E Γ an ops X o st2=(if(b==want)=true then dq E Γ an o st2 some else some (st2.put o.dst (.one .un))):=by
   intro st2 ha;have hb2:st2.get d=.val false [.bool b]:=by rw[ha.gd d hin];exact hb
   unfold cM;rw[DD ha.base,hf];simp only[ah,gQ,hg,hd,hb2];cases b<;>simp only[ah,af,Rq hb2]
  split at hgo;rename_i hw;obtain⟨u,h1,h2,h3⟩:=Kw (X:=X) hΓ hm hf hgo;exact⟨u,h1,h2,λst2 ha=>by rw[h2g st2 ha,aH hw];exact h3 st2 ha.base⟩;rename_i hw;cases hgo;exact⟨AN o (.one .un),zg _,by rw[qX],λst2 ha=>by rw[h2g st2 ha,aI hw,qX]⟩;rename_i hb;cases h;refine⟨AN o (.one .un),zg _,by rw[qX],λst2 ha=>?_⟩;have hb2:st2.get d=.val false [.un]:=by rw[ha.gd d hin];exact hb
  unfold cM;rw[DD ha.base,hf,qX];simp only[ah,gQ,hg,hd,hb2];cases h;cases h
theorem jc (l:ax α){i j:Nat}(h:i≠j)(v w:α):ie (ie l i v) j w=ie (ie l j w) i v:=by rw[fT,fT,fT,fT,List.set_comm _ _ h]
theorem TT (l:ax AV)(a:ax (Nat×AV)){i:Nat}(v:AV)(h:∀x∈a,x.1≠i):jP (ie l i v) a=ie (jP l a) i v:=by induction a generalizing l with|nil=>rfl|cons x a ih=>simp only[jP];rw[jc _ (cc (h x (by simp))),ih _ (λy hy=>h y (by simp[hy]))]
theorem Rm (l:ax AV)(a b:ax (Nat×AV))(h:∀x∈a,∀y∈b,x.1≠y.1):jP (jP l a) b=jP (jP l b) a:=by induction b generalizing l with|nil=>rfl|cons y b ih=>simp only[jP];rw[<-TT l a y.2 (λx hx=>h x hx y (by simp)),ih _ (λx hx z hz=>h x hx z (by simp[hz]))]
theorem K9 (l:ax AV)(a:ax (Nat×AV))(h:∀x∈a,x.1≠t):nth (jP l a) t=nth l t:=by induction a generalizing l with|nil=>rfl|cons x a ih=>rw[jP,ih _ (λy hy=>h y (by simp[hy])),jA,aI (h x (by simp))]
theorem lJ {a b:fF}(h:meets a b=false):∀x∈a,x∉b:=by intro x hx hb;unfold meets at h;rw[List.any_eq_false]at h;exact h x hx (by simpa using hb)
theorem Fo.YE {u:Fo}{o p:Oper}(hw:u.Dq an o)(h1:∀x∈writes an o,x∉dR p++BF an ops p++writes an p)(h2:∀d∈Cf an o,Y.contains d=true)(h3:∀d∈Cf an o,p.dst≠some d): MM an ops Y p (u.apply st) st/\MM an ops Y p st (u.apply st):=by
 have hget:∀t,t∈dR p++BF an ops p++writes an p->(u.apply st).get t=st.get t:=by intro t ht;unfold AS.get;have:nth (u.apply st).slots t=nth st.slots t:=K9 _ _ (λx hx he=>h1 _ (hw.slots x hx) (by rw[he];exact ht));rw[this]
 have hdst:∀d,p.dst=some d->nth (u.apply st).iss d=nth st.iss d/\nth (u.apply st).boxes d=nth st.boxes d:=by
  intro d hd;have hd':d∈dR p++BF an ops p++writes an p:=by simp[writes,hd]
  have hne:o.dst≠some d:=λhe=>h1 d (by simp[writes,he]) hd';constructor;unfold Fo.apply;cases hi:u.iss with|none=>rfl|some k=>simp only;rw[jA,aI];rintro rfl;exact hne (hw.iss _ hi)
  unfold Fo.apply;cases hi:u.box with|none=>rfl|some k=>simp only;rw[jA,aI];intro he;exact h3 _ (hw.box k hi) (by rw[he];exact hd)
 have hbox:∀s,Y.contains s=false->nth (u.apply st).boxes s=nth st.boxes s:=by intro s hs;unfold Fo.apply;cases hi:u.box with|none=>rfl|some k=>simp only;rw[jA,aI];rintro rfl;have:=h2 k.1 (hw.box k hi);rw[this]at hs;cases hs
 have hlen:(u.apply st).slots.length=st.slots.length:=J6 _ _;exact⟨⟨⟨hlen.symm,λt ht=>(hget t (by simp[ht])).symm,rfl,λd hd=>⟨((hdst d hd).1).symm,((hdst d hd).2).symm⟩,λs hs=>(hbox s hs).symm,λt ht=>(hget t (by simp[BF,ht])).symm⟩,λt ht=>(hget t (by simp[ht])).symm⟩,⟨⟨hlen,λt ht=>hget t (by simp[ht]),rfl,hdst,hbox,λt ht=>hget t (by simp[BF,ht])⟩,λt ht=>hget t (by simp[ht])⟩⟩
theorem Sm {u v:Fo}{o p:Oper}(hu:u.Dq an o)(hv:v.Dq an p)(h:∀x∈writes an o,x∉writes an p)(hb:∀x∈Cf an o,x∉Cf an p):v.apply (u.apply st)=u.apply (v.apply st):=by
 have hdd:∀a b,o.dst=some a->p.dst=some b->a≠b:=λa b ha hb he=>h a (by simp[writes,ha]) (by simp[writes,hb,he]);have hs:=Rm st.slots u.slots v.slots (λx hx y hy he=>h _ (hu.slots x hx) (by rw[he];exact hv.slots y hy));simp only[Fo.apply,AS.mk.injEq,true_and,iU];refine⟨hs,?_,?_⟩;cases hub:u.box with|none=>cases v.box<;>rfl|some k=>cases hvb:v.box with|none=>rfl|some l=>exact jc _ (λhe=>hb _ (hu.box k hub) (by rw[he];exact hv.box l hvb)) _ _
 cases hui:u.iss with|none=>cases v.iss<;>rfl|some k=>cases hvi:v.iss with|none=>rfl|some l=>exact jc _ (hdd _ _ (hu.iss k hui) (hv.iss l hvi)) _ _
theorem Uf (hΓ:∀f,(Γ f).io=false/\((Γ f).bx=true->(Γ f).cur=true)/\(Γ f).pr=false){o p:Oper}(ha:Sk an ops X Y o p=true)(h1:cM E Γ an ops X o st=some s1)(h2:cM E Γ an ops Y p s1=some s2): ∃t1,cM E Γ an ops Y p st=some t1/\cM E Γ an ops X o t1=some s2:=by
 simp only[Sk,ae,aL,aJ]at ha;obtain⟨⟨⟨⟨⟨⟨⟨mo,mp⟩,w1⟩,w2⟩,b1⟩,b2⟩,b3⟩,b4⟩:=ha;have w1:=lJ w1;have w2:=lJ w2;have b3:=lJ b3;have b4:=lJ b4;obtain⟨u,hu,rfl,hu2⟩:=Hb hΓ mo h1;obtain⟨v,hv,rfl,hv2⟩:=Hb hΓ mp h2;have ag1:=Fo.YE (ops:=ops) (p:=p) (Y:=Y) (st:=st) hu w1 b1 (λd hd he=>b3 d hd (by simp[he]));have hww:∀x∈writes an p,x∉dR o++BF an ops o++writes an o:=by intro x hx hm;rcases aw.1 hm with hm|hm;exact w2 x hx hm;exact w1 x hm (by simp[hx])
 have ag2:=Fo.YE (ops:=ops) (p:=o) (Y:=X) (st:=st) hv hww b2 (λd hd he=>b4 d hd (by simp[he]));refine⟨v.apply st,hv2 st ag1.1,?_⟩;rw[hu2 _ ag2.2,Sm hu hv (λx hx hm=>w1 x hx (by simp[hm])) (λx hx hm=>b3 x hx (by simp[hm]))]
theorem Ek {v w:AV}(h:st.get t=v)(hv:v≠ .bot):(st.put (some t) w).get t=w:=by
 unfold AS.get at h;cases hn:nth st.slots t with
 |none=>rw[hn]at h;exact absurd h.symm hv
 |some q=>
  have hl:t<st.slots.length:=by rw[dX]at hn;exact(aA.1 hn).1
  unfold AS.get AS.put;simp only[dX,fT];rw[bw hl];rfl
theorem sH {w:AV}(h:d≠t):(st.put (some d) w).get t=st.get t:=by unfold AS.get AS.put;simp only[jA,aI h]
theorem zy {o:Oper}{i:Nat}(ho:o.op=.extract (.tmp t) i)(hd:o.dst=some d)(hg:o.guard=none):cM E Γ an ops X o st=some s↔ ∃vs g cs,st.get t=.tup vs/\nth vs i=some (g,cs)/\(cs.all AC.jx||an.mv.contains d)=true/\s=(st.put (some t) (.tup (ie vs i (g,aV 0 cs)))).put (some d) (.val g cs):=by
 unfold cM;simp only[dF,ho,hd];constructor;intro h;cases hv:st.get t with|val g cs=>simp only[hv,ah,gQ,hg,dq,ho,lu]at h;cases h|tup vs=>simp only[hv]at h;cases hn:nth vs i with|none=>simp only[hn,ah,gQ,hg,dq,ho,lu,hv]at h;cases h|some x=>obtain⟨g,cs⟩:=x;simp only[hn]at h;cases hf:(cs.all AC.jx||an.mv.contains d)with|false=>rw[hf]at h;cases h|true=>rw[hf]at h;simp only[ah,gQ,hg,dq,ho,lu,hv,hn,hd]at h;cases h;exact⟨vs,g,cs,rfl,hn,hf,rfl⟩
 rintro⟨vs,g,cs,hv,hn,hf,rfl⟩;simp only[hv,hn,hf,ah,gQ,hg,dq,ho,lu,hd]
theorem X0 (l:ax α)(i:Nat)(v w:α):ie (ie l i v) i w=ie l i w:=by rw[fT,fT,fT,List.set_set]
theorem Za {o p:Oper}(ha:SN o p=true)(h1:cM E Γ an ops X o st=some s1)(h2:cM E Γ an ops Y p s1=some s2): ∃t1,cM E Γ an ops Y p st=some t1/\cM E Γ an ops X o t1=some s2:=by
 unfold SN at ha;split at ha;rename_i t i t' j d d' ho hp hd hd' hg hg';simp only[ae,bq,aL,bT,ne_eq]at ha;obtain⟨⟨⟨⟨rfl,hij⟩,hdd⟩,hdt⟩,hdt'⟩:=ha;obtain⟨vs,g,cs,hv,hn,hf,rfl⟩:=(zy ho hd hg).1 h1;obtain⟨vs2,g2,cs2,hv2,hn2,hf2,rfl⟩:=(zy hp hd' hg').1 h2;have hq:((st.put (some t) (.tup (ie vs i (g,aV 0 cs)))).put (some d) (.val g cs)).get t=.tup (ie vs i (g,aV 0 cs)):=by rw[sH hdt,Ek hv (by simp)]
 rw[hq]at hv2;cases hv2;rw[jA,aI hij]at hn2;refine⟨_,(zy hp hd' hg').2 ⟨vs,g2,cs2,hv,hn2,hf2,rfl⟩,(zy ho hd hg).2 ⟨ie vs j (g2,aV 0 cs2),g,cs,?_,?_,hf,?_⟩⟩;rw[sH hdt',Ek hv (by simp)];rw[jA,aI (cc hij)];exact hn;have e:=jc vs hij (g,aV 0 cs) (g2,aV 0 cs2);have a:∀(A B:AV)(q:Nat)(v:AV),q≠t->ie (ie (ie st.slots t A) q v) t B=ie (ie st.slots t B) q v:=λA B q v hq=>by rw[jc _ hq,X0]
 simp only[AS.put,AS.mk.injEq,iU];rw[a _ _ _ _ hdt,a _ _ _ _ hdt',e,jc _ hdd];cases ha
theorem Vt (s:AS)(t:Nat):s.put (some t) (s.get t)=s:=by cases s with|mk slots boxes ep iss io=>simp only[AS.put,AS.mk.injEq,iU];rw[fT];apply cV;intro i;rw[bC];split;rename_i hd;subst hd;simp only[AS.get,dX];split;rename_i hlt;rw[al hlt];rfl;rename_i hge;rw[bH (Nat.le_of_not_lt hge)];rfl
theorem RI {o:Oper}(hd:o.dst=some d)(hg:o.guard=none)(ho:(o.op=.move (.tmp t)/\an.mv.contains d=false/\an.fm.contains d=true)\/∃i,o.op=.extract (.tmp t) i)(_hdt:d≠t)(h:cM E Γ an ops X o st=some s): ∃tv v,s=(st.put (some t) tv).put (some d) v/\∀st2:AS,st2.get t=st.get t->cM E Γ an ops X o st2=some ((st2.put (some t) tv).put (some d) v):=by
 rcases ho with⟨ho,hmv,hfm⟩|⟨i,ho⟩;have hrd:∀st2:AS,st2.get t=st.get t->(st.rd (.tmp t)).kP=true->st2.rd (.tmp t)=st.get t:=by
  intro st2 hq hs;simp only[AS.rd,hq]at hs⊢;cases hv:st.get t with
  |tup vs=>rw[hv]at hs;simp[AV.borrow,AV.kP]at hs
  |val g cs=>
   rw[hv]at hs;simp only[AV.borrow,AV.kP]at hs⊢;congr 1;have key:∀(cs:ax AC)(j:Nat),(iE st.ep (λj=>kv.slot t j) j cs).all AC.kP=true->iE st2.ep (λj=>kv.slot t j) j cs=cs:=by
    intro cs;induction cs with
    |nil=>intro j _;rfl
    |cons c cs ih=>
     intro j h;simp only[iE,cr,ae]at h⊢;rw[ih (j+1) h.2];congr 1;cases c with
     |sl fl e xs=>cases fl with|holed _ _ ep=>cases ep<;>simp[AC.borrow,AC.kP]at h|_=>simp[AC.borrow,AC.kP]at h
     |_=>rfl
   exact key cs 0 hs
 unfold cM at h;have hst:(st.rd (.tmp t)).kP=true:=by cases hs:(st.rd (.tmp t)).kP with|true=>rfl|false=>simp only[dF,ho,Se,hd,hfm,hs]at h;cases h
 refine⟨st.get t,st.get t,?_,λst2 hq=>?_⟩;simp only[dF,ho,Se,hd,hfm,hst,jL,ah,gQ,hg,dq,zK,hmv,ba,cl]at h;cases h;rw[hrd st rfl hst];congr 1;exact(Vt st t).symm;unfold cM;have e1:=hrd st2 hq hst;have hst2:(st2.rd (.tmp t)).kP=true:=by rw[e1,<-hrd st rfl hst];exact hst
 simp only[dF,ho,Se,hd,hfm,hst2,jL,ah,gQ,hg,dq,zK,hmv,ba,cl];rw[e1,<-hq,Vt];obtain⟨vs,g,cs,hv,hn,hf,rfl⟩:=(zy ho hd hg).1 h;refine⟨_,_,rfl,λst2 hq=>(zy ho hd hg).2 ⟨vs,g,cs,by rw[hq,hv],hn,hf,rfl⟩⟩
theorem ab1 {p:Oper}{x:Nat}(hp:p.op=.store T (.tmp q) (.tmp x))(hd:p.dst=none)(hg:p.guard=none)(heb:(an.eb q).isSome=true)(hes:(an.es q).isNone=true)(hsb:(an.sb q).isNone=true)(hl:yc an p=false)(h:cM E Γ an ops Y p st=some s): ∃B,s=⟨ie st.slots x ((st.get x).aV st.ep),B,st.ep+1,st.iss,st.io⟩/\ ∀st2:AS,st2.get q=st.get q->st2.get x=st.get x->st2.boxes=st.boxes->st2.ep=st.ep->st2.iss=st.iss->st2.io=st.io-> cM E Γ an ops Y p st2=some ⟨ie st2.slots x ((st.get x).aV st.ep),B,st.ep+1,st.iss,st.io⟩:=by
 have hfree:∀st2:AS,st2.get q=st.get q->st2.ep=st.ep->dF E an Y p st2=dF E an Y p st:=by intro st2 h1 h2;simp only[dF,hp,AS.rd,h1,h2]
 unfold cM at h;cases hf:dF E an Y p st with
 |false=>rw[hf]at h;cases h
 |true=>
  rw[hf]at h;simp only[ah,gQ,hg,dq,hp,hd,hl,ba,cl]at h;have hfr:=hf;simp only[dF,hp]at hfr;have hnn:((an.sb q).isNone&&(an.eb q).isNone&&(an.es q).isNone)=false:=by cases he:an.eb q with|none=>rw[he]at heb;cases heb|some _=>simp
  rw[hnn,cz]at hfr;unfold uT at h;split at h;rename_i hrd;rw[hrd]at hfr;simp only[ae,bq]at hfr;rw[hfr.2]at hsb;cases hsb;rename_i sh ep0 r tg e y i off hT hrd;rw[hrd]at hfr;cases r with
  |slot _ _=>simp only[ae,bq]at hfr;rw[hfr.1.1]at hes;cases hes
  |io _=>simp at hfr
  |box b j=>
   split at h;rename_i gg vs st1 htk;have e1:(st.get x)=.val gg vs:=by have:=congrArg Prod.fst htk;exact this
   have e2:st1=⟨ie st.slots x ((st.get x).aV st.ep),st.boxes,st.ep,st.iss,st.io⟩:=by have:=congrArg Prod.snd htk;exact this.symm
   split at h;rename_i hlen;have main:∃B,∀sl:ax AV,(⟨sl,st.boxes,st.ep,st.iss,st.io⟩:AS).oH (.box b j) tg e i off vs some=some ⟨sl,B,st.ep+1,st.iss,st.io⟩:=by
    subst e2;simp only[AS.oH,AS.fB,AS.fG,AS.fg]at h⊢;cases hb:(nth st.boxes b).getD none with
    |none=>rw[hb]at h;simp at h
    |some cs=>
     rw[hb]at h;simp only[eT]at h⊢;split at h;rename_i t' e' xs hn;split at h;rename_i he;simp only[dif_pos he];generalize (he▸xs:ax e.D)=zs at h⊢;split at h;rename_i ht;simp only[aH ht];cases hi:idx zs i with|none=>rw[hi]at h;simp[aa]at h|some y0=>simp only[hi,aa]at h⊢;split at h;exact⟨_,λsl=>rfl⟩;cases h
     cases h;cases h;rename_i t' i' q0 e' xs hn;split at h;rename_i he;simp only[dif_pos he];generalize (he▸xs:ax e.D)=zs at h⊢;split at h;rename_i ht;simp only[aH ht];cases hi:Wp zs i' i with|none=>rw[hi]at h;simp[aa]at h|some y0=>simp only[hi,aa]at h⊢;split at h;exact⟨_,λsl=>rfl⟩;cases h
     cases h;cases h;cases h
   obtain⟨B,hB⟩:=main;refine⟨B,?_,λst2 h1 h2 h3 h4 h5 h6=>?_⟩;subst e2;rw[hB]at h;exact(cZ h).symm;unfold cM;rw[hfree st2 h1 h4,hf];have r2:st2.rd (.tmp q)=st.rd (.tmp q):=by simp only[AS.rd,h1,h4]
   have t2:st2.take (.tmp x)=(.val gg vs,⟨ie st2.slots x ((st.get x).aV st.ep),st.boxes,st.ep,st.iss,st.io⟩):=by simp only[AS.take,AS.put,h2,h3,h4,h5,h6,e1]
   simp only[ah,gQ,hg,dq,hp,hd,hl,ba,cl,uT,hT,r2,hrd,t2];rw[aH hlen];exact hB _;cases h;cases h
  cases h
theorem YT {p:Oper}{x:Nat}(hp:p.op=.store T (.tmp q) (.tmp x))(hd:p.dst=none)(hg:p.guard=none)(hes:an.es q=some b)(heb:(an.eb q).isNone=true)(hbx:b≠x)(hsb:(an.sb q).isNone=true)(hl:yc an p=false)(h:cM E Γ an ops Y p st=some s): ∃B,s=⟨ie (ie st.slots x ((st.get x).aV st.ep)) b B,st.boxes,st.ep+1,st.iss,st.io⟩/\ ∀st2:AS,st2.get q=st.get q->st2.get x=st.get x->nth st2.slots b=nth st.slots b->st2.boxes=st.boxes->st2.ep=st.ep->st2.iss=st.iss->st2.io=st.io-> cM E Γ an ops Y p st2=some ⟨ie (ie st2.slots x ((st.get x).aV st.ep)) b B,st.boxes,st.ep+1,st.iss,st.io⟩:=by
 have hfree:∀st2:AS,st2.get q=st.get q->st2.ep=st.ep->dF E an Y p st2=dF E an Y p st:=by intro st2 h1 h2;simp only[dF,hp,AS.rd,h1,h2]
 unfold cM at h;cases hf:dF E an Y p st with
 |false=>rw[hf]at h;cases h
 |true=>
  rw[hf]at h;simp only[ah,gQ,hg,dq,hp,hd,hl,ba,cl]at h;have hfr:=hf;simp only[dF,hp]at hfr;have hnn:((an.sb q).isNone&&(an.eb q).isNone&&(an.es q).isNone)=false:=by rw[hes];simp
  rw[hnn,cz]at hfr;unfold uT at h;split at h;rename_i hrd;rw[hrd]at hfr;simp only[ae,bq]at hfr;rw[hfr.2]at hsb;cases hsb;rename_i sh ep0 r tg e y i off hT hrd;rw[hrd]at hfr;cases r with
  |box _ _=>simp only[ae,bq]at hfr;rw[hfr.1.1]at heb;cases heb
  |io _=>simp at hfr
  |slot b' j=>
   simp only[ae,bq]at hfr;have hbb:b'=b:=cZ (hfr.1.1.symm.trans hes);subst hbb;split at h;rename_i gg vs st1 htk;have e1:(st.get x)=.val gg vs:=by have:=congrArg Prod.fst htk;exact this
   have e2:st1=⟨ie st.slots x ((st.get x).aV st.ep),st.boxes,st.ep,st.iss,st.io⟩:=by have:=congrArg Prod.snd htk;exact this.symm
   split at h;rename_i hlen;have main:∃B,∀sl:ax AV,nth sl b'=nth st.slots b'->(⟨sl,st.boxes,st.ep,st.iss,st.io⟩:AS).oH (.slot b' j) tg e i off vs some=some ⟨ie sl b' B,st.boxes,st.ep+1,st.iss,st.io⟩:=by
    subst e2;have hget:∀sl:ax AV,nth sl b'=nth st.slots b'->(⟨sl,st.boxes,st.ep,st.iss,st.io⟩:AS).get b'=st.get b':=λsl hq=>by unfold AS.get;rw[hq]
    have hq0:nth (ie st.slots x ((st.get x).aV st.ep)) b'=nth st.slots b':=by rw[jA,aI (cc hbx)]
    simp only[AS.oH,AS.fB,AS.fG,hget _ hq0]at h;cases hb:st.get b' with
    |tup _=>rw[hb]at h;simp at h
    |val g0 cs=>
     rw[hb]at h;simp only at h;split at h;rename_i t' e' xs hn;split at h;rename_i he;split at h;rename_i ht;cases hi:idx (he▸xs:ax e.D) i with|none=>rw[hi]at h;simp[aa]at h|some y0=>simp only[hi,aa]at h;split at h;rename_i x' hx';refine⟨.val g0 (ie cs j (.sl (.own (some t')) e ((he▸xs:ax e.D).set i.toNat x'))),λsl hq=>?_⟩;simp only[AS.oH,AS.fB,AS.fG,hget _ hq,hb,hn,dif_pos he,aH ht,hi,aa,hx',AS.put];cases h
     cases h;cases h;rename_i t' i' q0 e' xs hn;split at h;rename_i he;split at h;rename_i ht;cases hi:Wp (he▸xs:ax e.D) i' i with|none=>rw[hi]at h;simp[aa]at h|some y0=>simp only[hi,aa]at h;split at h;rename_i x' hx';refine⟨.val g0 (ie cs j (.sl (.own (some t')) e ((he▸xs:ax e.D).set i.toNat x'))),λsl hq=>?_⟩;simp only[AS.oH,AS.fB,AS.fG,hget _ hq,hb,hn,dif_pos he,aH ht,hi,aa,hx',AS.put];cases h
     cases h;cases h;cases h
   obtain⟨B,hB⟩:=main;refine⟨B,?_,λst2 h1 h2 hnb h3 h4 h5 h6=>?_⟩;subst e2;rw[hB _ (by rw[jA,aI (cc hbx)])]at h;exact(cZ h).symm;unfold cM;rw[hfree st2 h1 h4,hf];have r2:st2.rd (.tmp q)=st.rd (.tmp q):=by simp only[AS.rd,h1,h4]
   have t2:st2.take (.tmp x)=(.val gg vs,⟨ie st2.slots x ((st.get x).aV st.ep),st.boxes,st.ep,st.iss,st.io⟩):=by simp only[AS.take,AS.put,h2,h3,h4,h5,h6,e1]
   simp only[ah,gQ,hg,dq,hp,hd,hl,ba,cl,uT,hT,r2,hrd,t2];rw[aH hlen];exact hB _ (by rw[jA,aI (cc hbx)];exact hnb);cases h;cases h
  cases h
theorem ab0 {o p:Oper}(ha:SK an o p=true)(h1:cM E Γ an ops X o st=some s1)(h2:cM E Γ an ops Y p s1=some s2): ∃t1,cM E Γ an ops Y p st=some t1/\cM E Γ an ops X o t1=some s2:=by
 unfold SK at ha;split at ha;rename_i T q x hp hpd hpg;simp only[ae,aL]at ha;obtain⟨⟨⟨heb,hsb⟩,hl⟩,ha⟩:=ha;have hcore:∃d t,o.dst=some d/\o.guard=none/\((o.op=.move (.tmp t)/\an.mv.contains d=false/\an.fm.contains d=true)\/∃i,o.op=.extract (.tmp t) i)/\d≠q/\d≠x/\t≠x/\d≠t/\t≠q:=by split at ha;rename_i t d ho hd hg;simp only[ae,aL,bT]at ha;exact⟨d,t,hd,hg,.inl ⟨ho,ha.1.1.1.1.1.1,ha.1.1.1.1.1.2⟩,ha.1.1.1.1.2,ha.1.1.1.2,ha.1.1.2,ha.2,ha.1.2⟩;rename_i t i d ho hd hg;simp only[ae,aL,bT]at ha;exact⟨d,t,hd,hg,.inr ⟨i,ho⟩,ha.1.1.1.1,ha.1.1.1.2,ha.1.1.2,ha.2,ha.1.2⟩;cases ha
 obtain⟨d,t,hd,hg,ho,hdq,hdx,htx,hdt,htq⟩:=hcore;obtain⟨tv,v,rfl,hrun⟩:=RI hd hg ho hdt h1;have hq:((st.put (some t) tv).put (some d) v).get q=st.get q:=by rw[sH hdq];exact sH htq
 have hx:((st.put (some t) tv).put (some d) v).get x=st.get x:=by rw[sH hdx,sH htx]
 simp only[cG,ae]at heb;rcases heb with⟨heb,hes⟩|hes;obtain⟨B,rfl,hgo⟩:=ab1 hp hpd hpg heb hes hsb hl h2;have k1:=hgo st hq.symm hx.symm rfl rfl rfl rfl;refine⟨_,k1,?_⟩;have hg2:(⟨ie st.slots x ((((st.put (some t) tv).put (some d) v).get x).aV ((st.put (some t) tv).put (some d) v).ep),B,((st.put (some t) tv).put (some d) v).ep+1,((st.put (some t) tv).put (some d) v).iss,((st.put (some t) tv).put (some d) v).io⟩:AS).get t=st.get t:=by simp only[AS.get,jA,aI (cc htx)]
 rw[hrun _ hg2];simp only[AS.put,bj,AS.mk.injEq,iU];rw[jc _ (cc htx),jc _ (cc hdx)];cases hb:an.es q with
 |none=>rw[hb]at hes;cases hes
 |some b=>
  rw[hb]at hes;simp only[ae,aL,bT]at hes;obtain⟨⟨⟨heb,hbx⟩,_⟩,hbw⟩:=hes;have hbw:=lJ hbw b (by simp);have hbd:b≠d:=λe=>hbw (by simp[hd,e]);have hbt:b≠t:=λe=>hbw (by refine aw.2 (.inr ?_);rcases ho with⟨ho,_⟩|⟨i,ho⟩<;>simp[dR,ho,tm,e]);obtain⟨B,rfl,hgo⟩:=YT hp hpd hpg hb heb hbx hsb hl h2;have hnb:nth st.slots b=nth ((st.put (some t) tv).put (some d) v).slots b:=by simp only[AS.put,jA,aI (cc hbd),aI (cc hbt)]
  have k1:=hgo st hq.symm hx.symm hnb rfl rfl rfl rfl;refine⟨_,k1,?_⟩;have hg2:(⟨ie (ie st.slots x ((((st.put (some t) tv).put (some d) v).get x).aV ((st.put (some t) tv).put (some d) v).ep)) b B,((st.put (some t) tv).put (some d) v).boxes,((st.put (some t) tv).put (some d) v).ep+1,((st.put (some t) tv).put (some d) v).iss,((st.put (some t) tv).put (some d) v).io⟩:AS).get t=st.get t:=by simp only[AS.get,jA,aI (cc htx),aI hbt]
  rw[hrun _ hg2];simp only[AS.put,bj,AS.mk.injEq,iU];rw[jc _ hbt,jc _ hbd,jc _ (cc htx),jc _ (cc hdx)]
 cases ha
theorem OL {c:AC}(h:c.kP=true\/(c.borrow ep none).kP=true):c.borrow ep none=c:=by
 cases c with
 |sl fl e xs=>exfalso;cases fl with|holed _ _ ep=>cases ep<;>simp[AC.borrow,AC.kP]at h|_=>simp[AC.borrow,AC.kP]at h
 |_=>rfl
theorem Kt {cs:ax AC}{n:Nat}(hfit:off+n<=cs.length)(k:Nat):(eK cs off (aV ep ((cs.drop off).take n)))[k]?=(cs[k]?).map λc=>if off<=k/\k<off+n then c.borrow ep none else c:=by
 have hl:(aV ep ((cs.drop off).take n)).length=n:=by simp[aV];omega
 unfold eK;rw[hl];by_cases h1:k<off;rw[aN,bf (by simp;omega),du h1];have:(λc:AC=>if off<=k/\k<off+n then c.borrow ep none else c)=id:=by funext c;rw[jR];rfl
 rw[this,Option.map_id];rfl;by_cases h2:k<off+n;rw[bf (by simp[hl];omega),bt (by simp;omega)];have e:k-(cs.take off).length=k-off:=by simp;omega
 rw[e,aV,List.getElem?_map,du (by omega),bJ,show off+(k-off)=k by omega];congr 1;funext c;rw[zip];rw[bt (by simp[hl];omega)];have e:k-(cs.take off++aV ep ((cs.drop off).take n)).length=k-(off+n):=by simp[hl];omega
 rw[e,bJ,show off+n+(k-(off+n))=k by omega];have:(λc:AC=>if off<=k/\k<off+n then c.borrow ep none else c)=id:=by funext c;rw[jR];rfl
 rw[this,Option.map_id];rfl
theorem E9 {cs:ax AC}{n o2 n2:Nat}(hfit:off+n<=cs.length)(h:((cs.drop o2).take n2).all AC.kP=true\/(((eK cs off (aV ep ((cs.drop off).take n))).drop o2).take n2).all AC.kP=true): ((eK cs off (aV ep ((cs.drop off).take n))).drop o2).take n2=(cs.drop o2).take n2:=by
 apply cV;intro k;by_cases hk:k<n2;rw[du hk,du hk,bJ,bJ,Kt hfit];cases hc:cs[o2+k]? with|none=>rfl|some c=>simp only[dz];split;rename_i hin;refine congrArg some (OL ?_);rcases h with h|h;left;refine aJ.1 h c (aW (i:=k) ?_);rw[du hk,bJ,hc];right;refine aJ.1 h _ (aW (i:=k) ?_);rw[du hk,bJ,Kt hfit,hc,dz,aH hin];rfl
 rw[bH (by simp;omega),bH (by simp;omega)]
theorem Gn {b ep:Nat}:∀{cs:ax AC}{j:Nat},cs.all AC.kP=true->iE ep (.box b) j cs=cs
 |[],_,_=>rfl
 |c::cs,j,h=>by simp only[cr,ae]at h;rw[iE,Gn h.2];congr 1;cases c<;>first|rfl|(simp[AC.kP]at h)
theorem KB {o:Oper}(h:ze an o=true):∃T q d,o.op=.load T (.tmp q)/\o.dst=some d/\o.guard=none/\an.mv.contains d=true/\(an.mb d).isSome=true:=by unfold ze at h;split at h;rename_i T q d ho hd hg;simp only[ae]at h;exact⟨T,q,d,ho,hd,hg,h.1,h.2⟩;cases h
theorem I7 {o:Oper}(h:I6 an o=true):∃T q d,o.op=.load T (.tmp q)/\o.dst=some d/\o.guard=none/\an.mv.contains d=false/\an.fm.contains d=true:=by unfold I6 at h;split at h;rename_i T q d ho hd hg;simp only[ae,aL]at h;exact⟨T,q,d,ho,hd,hg,h.1,h.2⟩;cases h
theorem CH {o:Oper}(ht:ze an o=true)(ho:o.op=.load T (.tmp q))(hd:o.dst=some d)(hg:o.guard=none)(hmv:an.mv.contains d=true):cM E Γ an ops X o st=some s↔ ∃sh b off cs,je E.ty T=some sh/\st.rd (.tmp q)=.val false [.ptr b off]/\(nth st.boxes b).getD none=some cs/\off+sh.ct.size<=cs.length/\X.contains b=false/\an.mb d=some b/\(Se an o=true->BA E T st b off=true)/\ s=(st.fg b (some (eK cs off (aV st.ep ((cs.drop off).take sh.ct.size))))).put (some d) (.val sh.agg ((cs.drop off).take sh.ct.size)):=by
 have key:dF E an X o st=true->∀r,dq E Γ an o st some=some r->∃b off,st.rd (.tmp q)=.val false [.ptr b off]:=by intro hf r hr;simp only[dq,ho,oy]at hr;split at hr;rename_i hp;exact⟨_,_,hp⟩;rename_i hp;simp only[dF,ho,hp,ht,jL,aj,eM,fi]at hf;cases hf;cases hr
 unfold cM;constructor;intro h;cases hf:dF E an X o st with|false=>rw[hf]at h;cases h|true=>rw[hf]at h;simp only[ah,gQ,hg]at h;obtain⟨b,off,hp⟩:=key hf s h;simp only[dF,ho,hp,hd,hmv,aj,cz,ae,aL,bq,cG]at hf;simp only[dq,ho,oy,hp]at h;cases hT:je E.ty T with|none=>rw[hT]at h;cases h|some sh=>rw[hT]at h;simp only at h;cases hb:(nth st.boxes b).getD none with|none=>rw[hb]at h;cases h|some cs=>rw[hb]at h;simp only at h;split at h;rename_i hfit;simp only[hd,hmv,bU]at h;cases h;refine⟨sh,b,off,cs,rfl,hp,hb,hfit,hf.1.1,hf.1.2,λhm=>?_,rfl⟩;rcases hf.2 with g|g;rw[hm]at g;cases g;exact g;cases h
 rintro⟨sh,b,off,cs,hT,hp,hb,hfit,hX,hmb,hfm,rfl⟩;have hf:dF E an X o st=true:=by simp only[dF,ho,hp,hd,hmv,hX,hmb,aj,cz,ae,aL,bq,cG];refine⟨⟨cC,cC⟩,?_⟩;cases hm:Se an o with|false=>exact .inl rfl|true=>exact .inr (hfm hm)
 rw[hf];simp only[ah,gQ,hg,dq,ho,oy,hp,hT,hb,aH hfit,hd,hmv,bU]
theorem Cr {o:Oper}(ho:o.op=.load T (.tmp q))(hd:o.dst=some d)(hg:o.guard=none)(hmv:an.mv.contains d=false)(hfm:an.fm.contains d=true):cM E Γ an ops X o st=some s↔ ∃sh b off cs,je E.ty T=some sh/\st.rd (.tmp q)=.val false [.ptr b off]/\(nth st.boxes b).getD none=some cs/\off+sh.ct.size<=cs.length/\X.contains b=false/\((cs.drop off).take sh.ct.size).all AC.kP=true/\ s=st.put (some d) (.val sh.agg ((cs.drop off).take sh.ct.size)):=by
 have hfb:Se an o=true:=by simp only[Se,hd,hfm]
 have key:dF E an X o st=true->∀r,dq E Γ an o st some=some r->∃b off,st.rd (.tmp q)=.val false [.ptr b off]:=by intro hf r hr;simp only[dq,ho,oy]at hr;split at hr;rename_i hp;exact⟨_,_,hp⟩;rename_i hp;simp only[dF,ho,hp,hfb,iT,aj,eM,fi]at hf;cases hf;cases hr
 unfold cM;constructor;intro h;cases hf:dF E an X o st with
 |false=>rw[hf]at h;cases h
 |true=>
  rw[hf]at h;simp only[ah,gQ,hg]at h;obtain⟨b,off,hp⟩:=key hf s h;simp only[dF,ho,hp,hd,hmv,hfb,aj,cd,iT,cz,iq,ae,aL]at hf;simp only[dq,ho,oy,hp]at h;cases hT:je E.ty T with
  |none=>rw[hT]at h;cases h
  |some sh=>
   rw[hT]at h;simp only at h;cases hb:(nth st.boxes b).getD none with
   |none=>rw[hb]at h;cases h
   |some cs=>
    rw[hb]at h;simp only at h;split at h;rename_i hfit;have hst:((cs.drop off).take sh.ct.size).all AC.kP=true:=by have:=hf.2;unfold BA at this;rw[hT,hb]at this;exact this
    simp only[hd,hmv,ba,cl,Gn hst]at h;cases h;exact⟨sh,b,off,cs,rfl,hp,hb,hfit,hf.1,hst,rfl⟩;cases h
 rintro⟨sh,b,off,cs,hT,hp,hb,hfit,hX,hst,rfl⟩;have hf:dF E an X o st=true:=by simp only[dF,ho,hp,hd,hmv,hX,hfb,BA,hT,hb,hst];rfl
 rw[hf];simp only[ah,gQ,hg,dq,ho,oy,hp,hT,hb,aH hfit,hd,hmv,ba,cl,Gn hst]
theorem Mu {v:AV}(h:d≠q):(st.put (some d) v).rd (.tmp q)=st.rd (.tmp q):=by simp only[AS.rd,sH h];rfl
theorem Z9 {cs:aB (ax AC)}:(st.fg b cs).rd (.tmp q)=st.rd (.tmp q):=rfl
theorem Ss {cs x:ax AC}(h:(nth st.boxes b).getD none=some cs):(nth (ie st.boxes b (some x)) b).getD none=some x:=by
 rw[jA,aH rfl];cases hn:nth st.boxes b with
 |none=>rw[hn]at h;cases h
 |some _=>
  have:b<st.boxes.length:=by rw[dX]at hn;exact(aA.1 hn).1
  rw[aH this];rfl
theorem St {b2:Nat}{x:ax AC}(h:b≠b2):nth (ie st.boxes b (some x)) b2=nth st.boxes b2:=by rw[jA,aI h]
theorem acE {o p:Oper}(ha:Tn an o p=true)(h1:cM E Γ an ops X o st=some s1)(h2:cM E Γ an ops Y p s1=some s2): ∃t1,cM E Γ an ops Y p st=some t1/\cM E Γ an ops X o t1=some s2:=by
 simp only[Tn,ae,cG,aL]at ha;obtain⟨⟨ha,m1⟩,m2⟩:=ha;have m1:=lJ m1;have m2:=lJ m2;rcases ha with⟨ht,hf⟩|⟨hf,ht⟩;obtain⟨T,q,d,ho,hd,hg,hmv,hmb⟩:=KB ht;obtain⟨T2,q2,d2,hp,hd2,hg2,hmv2,hfm2⟩:=I7 hf;have n1:d≠d2:=λe=>m1 d (by simp[hd]) (by simp[hd2,e]);have n2:d≠q2:=λe=>m1 d (by simp[hd]) (by simp[dR,hp,tm,e]);have n3:d2≠q:=λe=>m2 d2 (by simp[hd2]) (by simp[dR,ho,tm,e]);obtain⟨sh,b,off,cs,hT,hr,hb,hfit,hX,hmbe,hfm,rfl⟩:=(CH ht ho hd hg hmv).1 h1;obtain⟨sh2,b2,off2,cs2,hT2,hr2,hb2,hfit2,hX2,hst2,rfl⟩:=(Cr hp hd2 hg2 hmv2 hfm2).1 h2;rw[Mu n2,Z9]at hr2;have hbx:(nth (ie st.boxes b (some (eK cs off (aV st.ep ((cs.drop off).take sh.ct.size))))) b2).getD none=some cs2:=hb2;have hfin:∃cs0,(nth st.boxes b2).getD none=some cs0/\off2+sh2.ct.size<=cs0.length/\(cs2.drop off2).take sh2.ct.size=(cs0.drop off2).take sh2.ct.size:=by
  by_cases hbb:b=b2;subst hbb;rw[Ss hb]at hbx;cases hbx;have hlen:(eK cs off (aV st.ep ((cs.drop off).take sh.ct.size))).length=cs.length:=by simp only[eK,aV,ai,cI,aS,aO];omega
  exact⟨cs,hb,by omega,E9 hfit (.inr hst2)⟩;rw[St hbb]at hbx;exact⟨cs2,hbx,hfit2,rfl⟩
 obtain⟨cs0,hb0,hfit0,he⟩:=hfin;rw[he]at hst2⊢;refine⟨_,(Cr hp hd2 hg2 hmv2 hfm2).2 ⟨sh2,b2,off2,cs0,hT2,hr2,hb0,hfit0,hX2,hst2,rfl⟩,(CH ht ho hd hg hmv).2 ⟨sh,b,off,cs,hT,by rw[Mu n3];exact hr,hb,hfit,hX,hmbe,λhm=>?_,?_⟩⟩;have:=hfm hm;unfold BA at this⊢;exact this;simp only[AS.put,AS.fg,AS.mk.injEq,iU];exact jc _ n1 _ _;obtain⟨T,q,d,ho,hd,hg,hmv,hfm⟩:=I7 hf;obtain⟨T2,q2,d2,hp,hd2,hg2,hmv2,hmb2⟩:=KB ht;have n1:d≠d2:=λe=>m1 d (by simp[hd]) (by simp[hd2,e]);have n2:d≠q2:=λe=>m1 d (by simp[hd]) (by simp[dR,hp,tm,e]);have n3:d2≠q:=λe=>m2 d2 (by simp[hd2]) (by simp[dR,ho,tm,e]);obtain⟨sh,b,off,cs,hT,hr,hb,hfit,hX,hst,rfl⟩:=(Cr ho hd hg hmv hfm).1 h1;obtain⟨sh2,b2,off2,cs2,hT2,hr2,hb2,hfit2,hX2,hmbe,hfm2,rfl⟩:=(CH ht hp hd2 hg2 hmv2).1 h2;rw[Mu n2]at hr2;refine⟨_,(CH ht hp hd2 hg2 hmv2).2 ⟨sh2,b2,off2,cs2,hT2,hr2,hb2,hfit2,hX2,hmbe,λhm=>hfm2 hm,rfl⟩,?_⟩;have hfin:∃cs0,(nth (ie st.boxes b2 (some (eK cs2 off2 (aV st.ep ((cs2.drop off2).take sh2.ct.size))))) b).getD none=some cs0/\off+sh.ct.size<=cs0.length/\(cs0.drop off).take sh.ct.size=(cs.drop off).take sh.ct.size:=by
  by_cases hbb:b2=b;subst hbb;have hcs:cs2=cs:=cZ (hb2.symm.trans hb);subst hcs;have hlen:(eK cs2 off2 (aV st.ep ((cs2.drop off2).take sh2.ct.size))).length=cs2.length:=by simp only[eK,aV,ai,cI,aS,aO];omega
  exact⟨_,Ss hb,by omega,E9 hfit2 (.inl hst)⟩;exact⟨cs,by rw[St hbb];exact hb,hfit,rfl⟩
 obtain⟨cs0,hb0,hfit0,he⟩:=hfin;refine(Cr ho hd hg hmv hfm).2 ⟨sh,b,off,cs0,hT,by rw[Mu n3,Z9];exact hr,hb0,hfit0,hX,by rw[he];exact hst,?_⟩;rw[he];simp only[AS.put,AS.fg,AS.mk.injEq,iU];exact jc _ n1 _ _
theorem KA {o:Oper}(ht:B8 an o=true)(ho:o.op=.load T (.tmp q))(hd:o.dst=some d)(hg:o.guard=none)(hmv:an.mv.contains d=true)(hmb:an.mb d=none):cM E Γ an ops X o st=some s↔ ∃(g:Bool)(e:CT)(offs:ax (Nat×Nat))(b j t ep0:Nat)(x:e.D)(i:Int)(cs:ax AC)(ys:ax e.D)(y:e.D),je E.ty T=some ⟨g,e,offs⟩/\st.rd (.tmp q)=.val false [.elt (.loc ep0 (some (.box b j,t))) e x i 0]/\(nth st.boxes b).getD none=some cs/\nth cs j=some (.sl (.own (some t)) e ys)/\idx ys i=some y/\ X.contains b=false/\an.eb q=some b/\Se an o=false/\s=(Fh st b j t e i cs ys).put (some d) (.val g (cellsOf e (.own none) y)):=by rw[<-Kz ht ho hd hmv hmb];unfold cM;cases dF E an X o st with|false=>simp|true=>simp only[ah,gQ,hg,dq,ho,true_and]
theorem XE {o:Oper}(h:yF an o=true):∃T q d,o.op=.load T (.tmp q)/\o.dst=some d/\o.guard=none/\an.mv.contains d=false/\Se an o=false:=by unfold yF at h;split at h;rename_i T q d ho hd hg;simp only[ae,aL]at h;exact⟨T,q,d,ho,hd,hg,h.1.1,by simp only[Se,hd];exact h.1.2⟩;cases h
theorem J1 {o:Oper}(hpl:yF an o=true)(ho:o.op=.load T (.tmp q))(hd:o.dst=some d)(hg:o.guard=none)(hmv:an.mv.contains d=false)(hfm:Se an o=false):cM E Γ an ops X o st=some s↔ ∃sh b off cs,je E.ty T=some sh/\st.rd (.tmp q)=.val false [.ptr b off]/\(nth st.boxes b).getD none=some cs/\off+sh.ct.size<=cs.length/\X.contains b=false/\ s=st.put (some d) (.val sh.agg (iE st.ep (.box b) off ((cs.drop off).take sh.ct.size))):=by
 unfold cM;constructor;intro h;cases hf:dF E an X o st with|false=>rw[hf]at h;cases h|true=>rw[hf]at h;simp only[ah,gQ,hg,dq,ho]at h;unfold oy at h;split at h;rename_i sh b off hT hp;simp only[dF,ho,hp,hd,hmv,hfm,cd,iT,iq,aL]at hf;split at h;rename_i cs hb;split at h;rename_i hfit;simp only[hd,hmv,ba,cl]at h;cases h;exact⟨sh,b,off,cs,hT,hp,hb,hfit,hf,rfl⟩;cases h;cases h;rename_i hp;simp only[dF,ho,hp,hpl,aj,eM,fi]at hf;cases hf;cases h
 rintro⟨sh,b,off,cs,hT,hp,hb,hfit,hX,rfl⟩;have hf:dF E an X o st=true:=by simp only[dF,ho,hp,hd,hmv,hX,hfm];rfl
 rw[hf];simp only[ah,gQ,hg,dq,ho,oy,hp,hT,hb,aH hfit,hd,hmv,ba,cl]
theorem Ic {ep b:Nat}:∀(cs:ax AC)(p k:Nat)(c':AC),(∀c,cs[k]?=some c->∀r,c'.borrow ep (some r)=c.borrow ep (some r))->iE ep (.box b) p (cs.set k c')=iE ep (.box b) p cs
 |[],_,_,_,_=>rfl
 |c::cs,p,0,c',h=>by simp only[List.set_cons_zero,iE,h c rfl]
 |c::cs,p,k+1,c',h=>by simp only[List.set_cons_succ,iE];rw[Ic cs (p+1) k c' (λc hc=>h c (by simpa using hc))]
theorem Pe {j n:Nat}{e:CT}{i:Int}{ys:ax e.D}{cs:ax AC}(hj:nth cs j=some (.sl (.own (some t)) e ys)): iE ep (.box b) off (((ie cs j (.sl (.holed (some t) i (some ep)) e ys)).drop off).take n)=iE ep (.box b) off ((cs.drop off).take n):=by rw[fT,List.drop_set];split;rfl;rename_i hlt;rw[List.take_set];refine Ic _ _ _ _ λc hc r=>?_;by_cases hn:j-off<n;rw[du hn,bJ,show off+(j-off)=j by omega,<-dX,hj]at hc;cases hc;rfl;rw[bH (by simp;omega)]at hc;cases hc
theorem abU {o p:Oper}(ha:Sv an o p=true)(h1:cM E Γ an ops X o st=some s1)(h2:cM E Γ an ops Y p s1=some s2): ∃t1,cM E Γ an ops Y p st=some t1/\cM E Γ an ops X o t1=some s2:=by
 simp only[Sv,ae,aL]at ha;obtain⟨⟨⟨hpl,ht⟩,m1⟩,m2⟩:=ha;have m1:=lJ m1;have m2:=lJ m2;obtain⟨T,q,d,ho,hd,hg,hmv,hfm⟩:=XE hpl;obtain⟨T2,q2,d2,hp,hd2,hg2,hmv2,hmb2⟩:=MH ht;have n1:d≠d2:=λe=>m1 d (by simp[hd]) (by simp[hd2,e]);have n2:d≠q2:=λe=>m1 d (by simp[hd]) (by simp[dR,hp,tm,e]);have n3:d2≠q:=λe=>m2 d2 (by simp[hd2]) (by simp[dR,ho,tm,e]);obtain⟨sh,b,off,cs,hT,hr,hb,hfit,hX,rfl⟩:=(J1 hpl ho hd hg hmv hfm).1 h1;obtain⟨g,e,offs,b2,j,t,ep0,x,i,cs2,ys,y,hT2,hr2,hb2,hj,hi,hX2,heb,hfm2,rfl⟩:=(KA ht hp hd2 hg2 hmv2 hmb2).1 h2;rw[Mu n2]at hr2;have hb2':(nth st.boxes b2).getD none=some cs2:=hb2;refine⟨_,(KA ht hp hd2 hg2 hmv2 hmb2).2 ⟨g,e,offs,b2,j,t,ep0,x,i,cs2,ys,y,hT2,hr2,hb2',hj,hi,hX2,heb,hfm2,rfl⟩,?_⟩;have hfin:∃cs0,(nth (ie st.boxes b2 (some (ie cs2 j (.sl (.holed (some t) i (some st.ep)) e ys)))) b).getD none=some cs0/\off+sh.ct.size<=cs0.length/\iE st.ep (.box b) off ((cs0.drop off).take sh.ct.size)=iE st.ep (.box b) off ((cs.drop off).take sh.ct.size):=by by_cases hbb:b2=b;subst hbb;have hcs:cs2=cs:=cZ (hb2'.symm.trans hb);subst hcs;exact⟨_,Ss hb,by rw[fT,az];exact hfit,Pe hj⟩;exact⟨cs,by rw[St hbb];exact hb,hfit,rfl⟩
 obtain⟨cs0,hb0,hfit0,he⟩:=hfin;refine(J1 hpl ho hd hg hmv hfm).2 ⟨sh,b,off,cs0,hT,by rw[Mu n3];exact hr,hb0,hfit0,hX,?_⟩;show _=((Fh st b2 j t e i cs2 ys).put (some d2) _).put (some d) (.val sh.agg (iE st.ep (.box b) off ((cs0.drop off).take sh.ct.size)));rw[he];simp only[AS.put,Fh,AS.fg,AS.mk.injEq,iU];exact jc _ n1 _ _
def Lb (E:Env)(Γ:eE)(an:An)(ops:ax Oper)(X:Nat->fF):fF->AS->aB AS
 |[],st=>some st
 |i::r,st=>match nth ops i with
  |some o=>(cM E Γ an ops (X i) o st).bind (Lb E Γ an ops X r)
  |none=>none
theorem Kk (hΓ:∀f,(Γ f).io=false/\((Γ f).bx=true->(Γ f).cur=true)/\(Γ f).pr=false){X:Nat->fF}{i:Nat}{oi:Oper}(hi:nth ops i=some oi):∀(pre post:fF)(st r:AS),(∀j∈pre,∀oj,nth ops j=some oj->H5 an ops (X j) (X i) oj oi=true)->
 Lb E Γ an ops X (pre++i::post) st=some r->Lb E Γ an ops X (i::(pre++post)) st=some r
 |[],post,st,r,_,h=>h
 |j::pre,post,st,r,ha,h=>by
  simp only[List.cons_append,Lb]at h;cases hj:nth ops j with
  |none=>rw[hj]at h;cases h
  |some oj=>
   rw[hj]at h;simp only at h;obtain⟨s1,h1,h2⟩:=aP.1 h;have h3:=Kk hΓ hi pre post s1 r (λk hk=>ha k (by simp[hk])) h2;simp only[Lb,hi]at h3;obtain⟨s2,h4,h5⟩:=aP.1 h3;have hap:=ha j (by simp) oj hj;obtain⟨t1,k1,k2⟩:∃t1,cM E Γ an ops (X i) oi st=some t1/\cM E Γ an ops (X j) oj t1=some s2:=by cases hx:Z3 an oj oi with|false=>rw[H5,hx,cz]at hap;exact Uf hΓ hap h1 h4|true=>simp only[Z3,cG]at hx;rcases hx with((hx|hx)|hx)|hx;exact Za hx h1 h4;exact ab0 hx h1 h4;exact acE hx h1 h4;exact abU hx h1 h4
   simp only[Lb,hi,k1,eT,List.cons_append,hj,k2];exact h5
end Go.Dn
