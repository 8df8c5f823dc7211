import Derived.Test.YtgbaemfepmabgaaGreatDnUpd
/- Operations that are apart may change places. -/
namespace Go.Dn
variable {E:Env} {Γ:dm} {an:An} {ops:au Oper}
variable {s s1 s2 st:AS} {b d ep off q t:Nat} {α:Type} {T:TypeId} {X Y:eG}
def cw (E:Env)(Γ:dm)(an:An)(ops:au Oper)(X:eG)(o:Oper)(st:AS):aw AS:=
 bif dv E an X o st then gb E Γ an ops o st some else none
structure OC (an:An) (ops:List Oper) (X:List Nat) (o:Oper) (st st2:AS):Prop where
 base:gB an X o st st2
 gd:∀t∈Cl an ops o,st2.get t=st.get t
theorem T9 {b:Bool}(h:st.get d=.val false [.bool b]):st.put (some d) (.one (.bool b))=st:=by cases st with|mk slots boxes ep iss io=>simp only[AS.put,AS.mk.injEq,ij];rw[eY];apply List.ext_getElem?;intro i;rw[List.getElem?_set];split;rename_i hd;subst hd;simp only[AS.get,dI]at h;split;rename_i hlt;rw[List.getElem?_eq_getElem hlt]at h⊢;simp only[ff]at h;rw[h];rename_i hge;rw[List.getElem?_eq_none (Nat.le_of_not_lt hge)];rfl
theorem P1 {st2:AS}{s:Nat}(h:nth st2.boxes s=nth st.boxes s):Cg E T st2 s off=Cg E T st s off:=by unfold Cg;rw[h]
theorem El {o:Oper}{st2:AS}(ha:gB an X o st st2):dv E an X o st2=dv E an X o st:=by
 unfold dv;split;rename_i ho;rw[ha.rd (λt ht=>by simpa[dD,ho]using ht)];rename_i T p ho;rw[ha.rd (λt ht=>by simp[dD,ho,ht]),ha.ep];rename_i ho;rw[ha.rd (λt ht=>by simp[dD,ho,ht]),ha.ep];rename_i f args ts ho;have hcur:si an X (erS an o) st2 args.toList=si an X (erS an o) st args.toList:=by
  have hl:∀x∈args.toList,∀t∈tm x,t∈dD o:=by intro x hx t ht;simp only[dD,ho,ay,MV,List.mem_flatMap];exact .inr ⟨x,hx,ht⟩
  generalize args.toList=l at hl;cases l with
  |nil=>rfl
  |cons x xs=>
   have hself:xs.all (F9 (erS an o) st2)=xs.all (F9 (erS an o) st):=by
    rw[cn];simp only[aC];have e:∀y∈xs,F9 (erS an o) st2 y=F9 (erS an o) st y:=by intro y hy;cases y with|tmp t=>have hg:=ha.get t (hl (.tmp t) (by simp[hy]) t (by simp[tm]));simp only[F9,hg]|const v=>rfl|func v=>rfl|global v=>rfl
    exact⟨λg y hy=>by rw[<-e y hy];exact g y hy,λg y hy=>by rw[e y hy];exact g y hy⟩
   have hr:=ha.rd (hl x (by simp));cases x with
   |tmp q=>
    simp only[si,hr];generalize st.rd (.tmp q)=v;unfold acg;rw[hself];split;rename_i s off;cases hX:X.contains s with|true=>simp|false=>rw[ha.box s hX]
    rfl
   |const v=>simp only[si,hr]
   |func v=>simp only[si,hr]
   |global v=>simp only[si,hr]
 rw[hcur];congr 1;rw[cn];simp only[aC];constructor;intro hx x hm;have:=hx x hm;rwa[ha.rd (λt ht=>by simp only[dD,ho,ay,MV,List.mem_flatMap];exact .inr ⟨x,hm,ht⟩),ha.ep]at this;intro hx x hm;rw[ha.rd (λt ht=>by simp only[dD,ho,ay,MV,List.mem_flatMap];exact .inr ⟨x,hm,ht⟩),ha.ep];exact hx x hm;rename_i ho;rw[ha.rd (λt ht=>by simpa[dD,ho]using ht),ha.ep];split;rename_i s off _;cases hX:X.contains s with|true=>rfl|false=>rw[P1 (ha.box s hX)]
 rfl;rfl;rename_i ho;rw[ha.rd (λt ht=>by simp only[dD,ho,ay];exact .inl ht)];rename_i ho;rw[ha.get _ (by simp[dD,ho])];rfl
theorem Is (hΓ:∀f,(Γ f).io=false/\((Γ f).bx=true->(Γ f).cur=true)/\(Γ f).pr=false){o:Oper}{st':AS}(hm:mJ an o=true)(h:cw E Γ an ops X o st=some st'): ∃u:GB,u.D9 an o/\st'=u.apply st/\∀st2,OC an ops X o st st2->cw E Γ an ops X o st2=some (u.apply st2):=by
 unfold cw at h;cases hf:dv E an X o st with
 |false=>rw[hf]at h;cases h
 |true=>
  rw[hf]at h;simp only[ah]at h;unfold gb at h;split at h;rename_i hg;obtain⟨u,h1,h2,h3⟩:=L4 (X:=X) hΓ hm hf h;refine⟨u,h1,h2,λst2 ha=>?_⟩;unfold cw;rw[El ha.base,hf];simp only[ah,gb,hg];exact h3 st2 ha.base;rename_i j want hg;split at h;rename_i d hd;have hin:d∈Cl an ops o:=by simp[Cl,hg,hd]
  split at h;rename_i b hb;have hgo:(if(b==want)=true then cG E Γ an o st some else some (st.put o.dst (.one .un)))=some st':=by cases b<;>simpa only[ah,af,T9 hb]using h
  have h2g:∀st2,OC an ops X o st st2->cw E Γ an ops X o st2=(if(b==want)=true then cG E Γ an o st2 some else some (st2.put o.dst (.one .un))):=by
   intro st2 ha;have hb2:st2.get d=.val false [.bool b]:=by rw[ha.gd d hin];exact hb
   unfold cw;rw[El ha.base,hf];simp only[ah,gb,hg,hd,hb2];cases b<;>simp only[ah,af,T9 hb2]
  split at hgo;rename_i hw;obtain⟨u,h1,h2,h3⟩:=L4 (X:=X) hΓ hm hf hgo;exact⟨u,h1,h2,λst2 ha=>by rw[h2g st2 ha,aF hw];exact h3 st2 ha.base⟩;rename_i hw;cases hgo;exact⟨Bs o (.one .un),zX _,by rw[qV],λst2 ha=>by rw[h2g st2 ha,aD hw,qV]⟩;rename_i hb;cases h;refine⟨Bs o (.one .un),zX _,by rw[qV],λst2 ha=>?_⟩;have hb2:st2.get d=.val false [.un]:=by rw[ha.gd d hin];exact hb
  unfold cw;rw[El ha.base,hf,qV];simp only[ah,gb,hg,hd,hb2];cases h;cases h
theorem iC (l:au α){i j:Nat}(h:i≠j)(v w:α):gM (gM l i v) j w=gM (gM l j w) i v:=by rw[eY,eY,eY,eY,List.set_comm _ _ h]
theorem WV (l:au AV)(a:au (Nat×AV)){i:Nat}(v:AV)(h:∀x∈a,x.1≠i):jq (gM l i v) a=gM (jq l a) i v:=by induction a generalizing l with|nil=>rfl|cons x a ih=>simp only[jq];rw[iC _ (cC (h x (by simp))),ih _ (λy hy=>h y (by simp[hy]))]
theorem T6 (l:au AV)(a b:au (Nat×AV))(h:∀x∈a,∀y∈b,x.1≠y.1):jq (jq l a) b=jq (jq l b) a:=by induction b generalizing l with|nil=>rfl|cons y b ih=>simp only[jq];rw[<-WV l a y.2 (λx hx=>h x hx y (by simp)),ih _ (λx hx z hz=>h x hx z (by simp[hz]))]
theorem MJ (l:au AV)(a:au (Nat×AV))(h:∀x∈a,x.1≠t):nth (jq l a) t=nth l t:=by induction a generalizing l with|nil=>rfl|cons x a ih=>rw[jq,ih _ (λy hy=>h y (by simp[hy])),jd,aD (h x (by simp))]
theorem lB {a b:eG}(h:meets a b=false):∀x∈a,x∉b:=by intro x hx hb;unfold meets at h;rw[List.any_eq_false]at h;exact h x hx (by simpa using hb)
theorem GB.ab0 {u:GB}{o p:Oper}(hw:u.D9 an o)(h1:∀x∈writes an o,x∉dD p++Cl an ops p++writes an p)(h2:∀d∈CV an o,Y.contains d=true)(h3:∀d∈CV an o,p.dst≠some d): OC an ops Y p (u.apply st) st/\OC an ops Y p st (u.apply st):=by
 have hget:∀t,t∈dD p++Cl an ops p++writes an p->(u.apply st).get t=st.get t:=by intro t ht;unfold AS.get;have:nth (u.apply st).slots t=nth st.slots t:=MJ _ _ (λx hx he=>h1 _ (hw.slots x hx) (by rw[he];exact ht));rw[this]
 have hdst:∀d,p.dst=some d->nth (u.apply st).iss d=nth st.iss d/\nth (u.apply st).boxes d=nth st.boxes d:=by
  intro d hd;have hd':d∈dD p++Cl an ops p++writes an p:=by simp[writes,hd]
  have hne:o.dst≠some d:=λhe=>h1 d (by simp[writes,he]) hd';constructor;unfold GB.apply;cases hi:u.iss with|none=>rfl|some k=>simp only;rw[jd,aD];rintro rfl;exact hne (hw.iss _ hi)
  unfold GB.apply;cases hi:u.box with|none=>rfl|some k=>simp only;rw[jd,aD];intro he;exact h3 _ (hw.box k hi) (by rw[he];exact hd)
 have hbox:∀s,Y.contains s=false->nth (u.apply st).boxes s=nth st.boxes s:=by intro s hs;unfold GB.apply;cases hi:u.box with|none=>rfl|some k=>simp only;rw[jd,aD];rintro rfl;have:=h2 k.1 (hw.box k hi);rw[this]at hs;cases hs
 have hlen:(u.apply st).slots.length=st.slots.length:=Lw _ _;exact⟨⟨⟨hlen.symm,λt ht=>(hget t (by simp[ht])).symm,rfl,λd hd=>⟨((hdst d hd).1).symm,((hdst d hd).2).symm⟩,λs hs=>(hbox s hs).symm,λt ht=>(hget t (by simp[Cl,ht])).symm⟩,λt ht=>(hget t (by simp[ht])).symm⟩,⟨⟨hlen,λt ht=>hget t (by simp[ht]),rfl,hdst,hbox,λt ht=>hget t (by simp[Cl,ht])⟩,λt ht=>hget t (by simp[ht])⟩⟩
theorem U5 {u v:GB}{o p:Oper}(hu:u.D9 an o)(hv:v.D9 an p)(h:∀x∈writes an o,x∉writes an p)(hb:∀x∈CV an o,x∉CV an p):v.apply (u.apply st)=u.apply (v.apply st):=by
 have hdd:∀a b,o.dst=some a->p.dst=some b->a≠b:=λa b ha hb he=>h a (by simp[writes,ha]) (by simp[writes,hb,he]);have hs:=T6 st.slots u.slots v.slots (λx hx y hy he=>h _ (hu.slots x hx) (by rw[he];exact hv.slots y hy));simp only[GB.apply,AS.mk.injEq,true_and,ij];refine⟨hs,?_,?_⟩;cases hub:u.box with|none=>cases v.box<;>rfl|some k=>cases hvb:v.box with|none=>rfl|some l=>exact iC _ (λhe=>hb _ (hu.box k hub) (by rw[he];exact hv.box l hvb)) _ _
 cases hui:u.iss with|none=>cases v.iss<;>rfl|some k=>cases hvi:v.iss with|none=>rfl|some l=>exact iC _ (hdd _ _ (hu.iss k hui) (hv.iss l hvi)) _ _
theorem Xj (hΓ:∀f,(Γ f).io=false/\((Γ f).bx=true->(Γ f).cur=true)/\(Γ f).pr=false){o p:Oper}(ha:U3 an ops X Y o p=true)(h1:cw E Γ an ops X o st=some s1)(h2:cw E Γ an ops Y p s1=some s2): ∃t1,cw E Γ an ops Y p st=some t1/\cw E Γ an ops X o t1=some s2:=by
 simp only[U3,ae,aH,aC]at ha;obtain⟨⟨⟨⟨⟨⟨⟨mo,mp⟩,w1⟩,w2⟩,b1⟩,b2⟩,b3⟩,b4⟩:=ha;have w1:=lB w1;have w2:=lB w2;have b3:=lB b3;have b4:=lB b4;obtain⟨u,hu,rfl,hu2⟩:=Is hΓ mo h1;obtain⟨v,hv,rfl,hv2⟩:=Is hΓ mp h2;have ag1:=GB.ab0 (ops:=ops) (p:=p) (Y:=Y) (st:=st) hu w1 b1 (λd hd he=>b3 d hd (by simp[he]));have hww:∀x∈writes an p,x∉dD o++Cl an ops o++writes an o:=by intro x hx hm;rcases ay.1 hm with hm|hm;exact w2 x hx hm;exact w1 x hm (by simp[hx])
 have ag2:=GB.ab0 (ops:=ops) (p:=o) (Y:=X) (st:=st) hv hww b2 (λd hd he=>b4 d hd (by simp[he]));refine⟨v.apply st,hv2 st ag1.1,?_⟩;rw[hu2 _ ag2.2,U5 hu hv (λx hx hm=>w1 x hx (by simp[hm])) (λx hx hm=>b3 x hx (by simp[hm]))]
theorem Fk {v w:AV}(h:st.get t=v)(hv:v≠ .bot):(st.put (some t) w).get t=w:=by
 unfold AS.get at h;cases hn:nth st.slots t with
 |none=>rw[hn]at h;exact absurd h.symm hv
 |some q=>
  have hl:t<st.slots.length:=by rw[dI]at hn;exact(List.getElem?_eq_some_iff.1 hn).1
  unfold AS.get AS.put;simp only[dI,eY];rw[List.getElem?_set_self hl];rfl
theorem sT {w:AV}(h:d≠t):(st.put (some d) w).get t=st.get t:=by unfold AS.get AS.put;simp only[jd,aD h]
theorem z0 {o:Oper}{i:Nat}(ho:o.op=.extract (.tmp t) i)(hd:o.dst=some d)(hg:o.guard=none):cw E Γ an ops X o st=some s↔ ∃vs g cs,st.get t=.tup vs/\nth vs i=some (g,cs)/\(cs.all AC.iZ||an.mv.contains d)=true/\s=(st.put (some t) (.tup (gM vs i (g,aX 0 cs)))).put (some d) (.val g cs):=by
 unfold cw;simp only[dv,ho,hd];constructor;intro h;cases hv:st.get t with|val g cs=>simp only[hv,ah,gb,hg,cG,ho,lf]at h;cases h|tup vs=>simp only[hv]at h;cases hn:nth vs i with|none=>simp only[hn,ah,gb,hg,cG,ho,lf,hv]at h;cases h|some x=>obtain⟨g,cs⟩:=x;simp only[hn]at h;cases hf:(cs.all AC.iZ||an.mv.contains d)with|false=>rw[hf]at h;cases h|true=>rw[hf]at h;simp only[ah,gb,hg,cG,ho,lf,hv,hn,hd]at h;cases h;exact⟨vs,g,cs,rfl,hn,hf,rfl⟩
 rintro⟨vs,g,cs,hv,hn,hf,rfl⟩;simp only[hv,hn,hf,ah,gb,hg,cG,ho,lf,hd]
theorem abn (l:au α)(i:Nat)(v w:α):gM (gM l i v) i w=gM l i w:=by rw[eY,eY,eY,List.set_set]
theorem acs {o p:Oper}(ha:VA o p=true)(h1:cw E Γ an ops X o st=some s1)(h2:cw E Γ an ops Y p s1=some s2): ∃t1,cw E Γ an ops Y p st=some t1/\cw E Γ an ops X o t1=some s2:=by
 unfold VA at ha;split at ha;rename_i t i t' j d d' ho hp hd hd' hg hg';simp only[ae,bh,aH,bP,ne_eq]at ha;obtain⟨⟨⟨⟨rfl,hij⟩,hdd⟩,hdt⟩,hdt'⟩:=ha;obtain⟨vs,g,cs,hv,hn,hf,rfl⟩:=(z0 ho hd hg).1 h1;obtain⟨vs2,g2,cs2,hv2,hn2,hf2,rfl⟩:=(z0 hp hd' hg').1 h2;have hq:((st.put (some t) (.tup (gM vs i (g,aX 0 cs)))).put (some d) (.val g cs)).get t=.tup (gM vs i (g,aX 0 cs)):=by rw[sT hdt,Fk hv (by simp)]
 rw[hq]at hv2;cases hv2;rw[jd,aD hij]at hn2;refine⟨_,(z0 hp hd' hg').2 ⟨vs,g2,cs2,hv,hn2,hf2,rfl⟩,(z0 ho hd hg).2 ⟨gM vs j (g2,aX 0 cs2),g,cs,?_,?_,hf,?_⟩⟩;rw[sT hdt',Fk hv (by simp)];rw[jd,aD (cC hij)];exact hn;have e:=iC vs hij (g,aX 0 cs) (g2,aX 0 cs2);have a:∀(A B:AV)(q:Nat)(v:AV),q≠t->gM (gM (gM st.slots t A) q v) t B=gM (gM st.slots t B) q v:=λA B q v hq=>by rw[iC _ hq,abn]
 simp only[AS.put,AS.mk.injEq,ij];rw[a _ _ _ _ hdt,a _ _ _ _ hdt',e,iC _ hdd];cases ha
theorem Yy (s:AS)(t:Nat):s.put (some t) (s.get t)=s:=by cases s with|mk slots boxes ep iss io=>simp only[AS.put,AS.mk.injEq,ij];rw[eY];apply List.ext_getElem?;intro i;rw[List.getElem?_set];split;rename_i hd;subst hd;simp only[AS.get,dI];split;rename_i hlt;rw[List.getElem?_eq_getElem hlt];rfl;rename_i hge;rw[List.getElem?_eq_none (Nat.le_of_not_lt hge)];rfl
theorem Uq {o:Oper}(hd:o.dst=some d)(hg:o.guard=none)(ho:(o.op=.move (.tmp t)/\an.mv.contains d=false/\an.fm.contains d=true)\/∃i,o.op=.extract (.tmp t) i)(_hdt:d≠t)(h:cw E Γ an ops X o st=some s): ∃tv v,s=(st.put (some t) tv).put (some d) v/\∀st2:AS,st2.get t=st.get t->cw E Γ an ops X o st2=some ((st2.put (some t) tv).put (some d) v):=by
 rcases ho with⟨ho,hmv,hfm⟩|⟨i,ho⟩;have hrd:∀st2:AS,st2.get t=st.get t->(st.rd (.tmp t)).kA=true->st2.rd (.tmp t)=st.get t:=by
  intro st2 hq hs;simp only[AS.rd,hq]at hs⊢;cases hv:st.get t with
  |tup vs=>rw[hv]at hs;simp[AV.borrow,AV.kA]at hs
  |val g cs=>
   rw[hv]at hs;simp only[AV.borrow,AV.kA]at hs⊢;congr 1;have key:∀(cs:au AC)(j:Nat),(hH st.ep (λj=>jQ.slot t j) j cs).all AC.kA=true->hH st2.ep (λj=>jQ.slot t j) j cs=cs:=by
    intro cs;induction cs with
    |nil=>intro j _;rfl
    |cons c cs ih=>
     intro j h;simp only[hH,bU,ae]at h⊢;rw[ih (j+1) h.2];congr 1;cases c with
     |sl fl e xs=>cases fl with|holed _ _ ep=>cases ep<;>simp[AC.borrow,AC.kA]at h|_=>simp[AC.borrow,AC.kA]at h
     |_=>rfl
   exact key cs 0 hs
 unfold cw at h;have hst:(st.rd (.tmp t)).kA=true:=by cases hs:(st.rd (.tmp t)).kA with|true=>rfl|false=>simp only[dv,ho,UW,hd,hfm,hs]at h;cases h
 refine⟨st.get t,st.get t,?_,λst2 hq=>?_⟩;simp only[dv,ho,UW,hd,hfm,hst,gH,ah,gb,hg,cG,Ap,hmv,bf,cd]at h;cases h;rw[hrd st rfl hst];congr 1;exact(Yy st t).symm;unfold cw;have e1:=hrd st2 hq hst;have hst2:(st2.rd (.tmp t)).kA=true:=by rw[e1,<-hrd st rfl hst];exact hst
 simp only[dv,ho,UW,hd,hfm,hst2,gH,ah,gb,hg,cG,Ap,hmv,bf,cd];rw[e1,<-hq,Yy];obtain⟨vs,g,cs,hv,hn,hf,rfl⟩:=(z0 ho hd hg).1 h;refine⟨_,_,rfl,λst2 hq=>(z0 ho hd hg).2 ⟨vs,g,cs,by rw[hq,hv],hn,hf,rfl⟩⟩
theorem afW {p:Oper}{x:Nat}(hp:p.op=.store T (.tmp q) (.tmp x))(hd:p.dst=none)(hg:p.guard=none)(heb:(an.eb q).isSome=true)(hes:(an.es q).isNone=true)(hsb:(an.sb q).isNone=true)(hl:ym an p=false)(h:cw E Γ an ops Y p st=some s): ∃B,s=⟨gM st.slots x ((st.get x).aX st.ep),B,st.ep+1,st.iss,st.io⟩/\ ∀st2:AS,st2.get q=st.get q->st2.get x=st.get x->st2.boxes=st.boxes->st2.ep=st.ep->st2.iss=st.iss->st2.io=st.io-> cw E Γ an ops Y p st2=some ⟨gM st2.slots x ((st.get x).aX st.ep),B,st.ep+1,st.iss,st.io⟩:=by
 have hfree:∀st2:AS,st2.get q=st.get q->st2.ep=st.ep->dv E an Y p st2=dv E an Y p st:=by intro st2 h1 h2;simp only[dv,hp,AS.rd,h1,h2]
 unfold cw at h;cases hf:dv E an Y p st with
 |false=>rw[hf]at h;cases h
 |true=>
  rw[hf]at h;simp only[ah,gb,hg,cG,hp,hd,hl,bf,cd]at h;have hfr:=hf;simp only[dv,hp]at hfr;have hnn:((an.sb q).isNone&&(an.eb q).isNone&&(an.es q).isNone)=false:=by cases he:an.eb q with|none=>rw[he]at heb;cases heb|some _=>simp
  rw[hnn,cz]at hfr;unfold vn at h;split at h;rename_i hrd;rw[hrd]at hfr;simp only[ae,bh]at hfr;rw[hfr.2]at hsb;cases hsb;rename_i sh ep0 r tg e y i off hT hrd;rw[hrd]at hfr;cases r with
  |slot _ _=>simp only[ae,bh]at hfr;rw[hfr.1.1]at hes;cases hes
  |io _=>simp at hfr
  |box b j=>
   split at h;rename_i gg vs st1 htk;have e1:(st.get x)=.val gg vs:=by have:=congrArg Prod.fst htk;exact this
   have e2:st1=⟨gM st.slots x ((st.get x).aX st.ep),st.boxes,st.ep,st.iss,st.io⟩:=by have:=congrArg Prod.snd htk;exact this.symm
   split at h;rename_i hlen;have main:∃B,∀sl:au AV,(⟨sl,st.boxes,st.ep,st.iss,st.io⟩:AS).ot (.box b j) tg e i off vs some=some ⟨sl,B,st.ep+1,st.iss,st.io⟩:=by
    subst e2;simp only[AS.ot,AS.eL,AS.eQ,AS.eu]at h⊢;cases hb:(nth st.boxes b).getD none with
    |none=>rw[hb]at h;simp at h
    |some cs=>
     rw[hb]at h;simp only[ed]at h⊢;split at h;rename_i t' e' xs hn;split at h;rename_i he;simp only[dif_pos he];generalize (he▸xs:au e.D)=zs at h⊢;split at h;rename_i ht;simp only[aF ht];cases hi:idx zs i with|none=>rw[hi]at h;simp[aa]at h|some y0=>simp only[hi,aa]at h⊢;split at h;exact⟨_,λsl=>rfl⟩;cases h
     cases h;cases h;rename_i t' i' q0 e' xs hn;split at h;rename_i he;simp only[dif_pos he];generalize (he▸xs:au e.D)=zs at h⊢;split at h;rename_i ht;simp only[aF ht];cases hi:ZT zs i' i with|none=>rw[hi]at h;simp[aa]at h|some y0=>simp only[hi,aa]at h⊢;split at h;exact⟨_,λsl=>rfl⟩;cases h
     cases h;cases h;cases h
   obtain⟨B,hB⟩:=main;refine⟨B,?_,λst2 h1 h2 h3 h4 h5 h6=>?_⟩;subst e2;rw[hB]at h;exact(bM h).symm;unfold cw;rw[hfree st2 h1 h4,hf];have r2:st2.rd (.tmp q)=st.rd (.tmp q):=by simp only[AS.rd,h1,h4]
   have t2:st2.take (.tmp x)=(.val gg vs,⟨gM st2.slots x ((st.get x).aX st.ep),st.boxes,st.ep,st.iss,st.io⟩):=by simp only[AS.take,AS.put,h2,h3,h4,h5,h6,e1]
   simp only[ah,gb,hg,cG,hp,hd,hl,bf,cd,vn,hT,r2,hrd,t2];rw[aF hlen];exact hB _;cases h;cases h
  cases h
theorem acj {p:Oper}{x:Nat}(hp:p.op=.store T (.tmp q) (.tmp x))(hd:p.dst=none)(hg:p.guard=none)(hes:an.es q=some b)(heb:(an.eb q).isNone=true)(hbx:b≠x)(hsb:(an.sb q).isNone=true)(hl:ym an p=false)(h:cw E Γ an ops Y p st=some s): ∃B,s=⟨gM (gM st.slots x ((st.get x).aX st.ep)) b B,st.boxes,st.ep+1,st.iss,st.io⟩/\ ∀st2:AS,st2.get q=st.get q->st2.get x=st.get x->nth st2.slots b=nth st.slots b->st2.boxes=st.boxes->st2.ep=st.ep->st2.iss=st.iss->st2.io=st.io-> cw E Γ an ops Y p st2=some ⟨gM (gM st2.slots x ((st.get x).aX st.ep)) b B,st.boxes,st.ep+1,st.iss,st.io⟩:=by
 have hfree:∀st2:AS,st2.get q=st.get q->st2.ep=st.ep->dv E an Y p st2=dv E an Y p st:=by intro st2 h1 h2;simp only[dv,hp,AS.rd,h1,h2]
 unfold cw at h;cases hf:dv E an Y p st with
 |false=>rw[hf]at h;cases h
 |true=>
  rw[hf]at h;simp only[ah,gb,hg,cG,hp,hd,hl,bf,cd]at h;have hfr:=hf;simp only[dv,hp]at hfr;have hnn:((an.sb q).isNone&&(an.eb q).isNone&&(an.es q).isNone)=false:=by rw[hes];simp
  rw[hnn,cz]at hfr;unfold vn at h;split at h;rename_i hrd;rw[hrd]at hfr;simp only[ae,bh]at hfr;rw[hfr.2]at hsb;cases hsb;rename_i sh ep0 r tg e y i off hT hrd;rw[hrd]at hfr;cases r with
  |box _ _=>simp only[ae,bh]at hfr;rw[hfr.1.1]at heb;cases heb
  |io _=>simp at hfr
  |slot b' j=>
   simp only[ae,bh]at hfr;have hbb:b'=b:=bM (hfr.1.1.symm.trans hes);subst hbb;split at h;rename_i gg vs st1 htk;have e1:(st.get x)=.val gg vs:=by have:=congrArg Prod.fst htk;exact this
   have e2:st1=⟨gM st.slots x ((st.get x).aX st.ep),st.boxes,st.ep,st.iss,st.io⟩:=by have:=congrArg Prod.snd htk;exact this.symm
   split at h;rename_i hlen;have main:∃B,∀sl:au AV,nth sl b'=nth st.slots b'->(⟨sl,st.boxes,st.ep,st.iss,st.io⟩:AS).ot (.slot b' j) tg e i off vs some=some ⟨gM sl b' B,st.boxes,st.ep+1,st.iss,st.io⟩:=by
    subst e2;have hget:∀sl:au AV,nth sl b'=nth st.slots b'->(⟨sl,st.boxes,st.ep,st.iss,st.io⟩:AS).get b'=st.get b':=λsl hq=>by unfold AS.get;rw[hq]
    have hq0:nth (gM st.slots x ((st.get x).aX st.ep)) b'=nth st.slots b':=by rw[jd,aD (cC hbx)]
    simp only[AS.ot,AS.eL,AS.eQ,hget _ hq0]at h;cases hb:st.get b' with
    |tup _=>rw[hb]at h;simp at h
    |val g0 cs=>
     rw[hb]at h;simp only at h;split at h;rename_i t' e' xs hn;split at h;rename_i he;split at h;rename_i ht;cases hi:idx (he▸xs:au e.D) i with|none=>rw[hi]at h;simp[aa]at h|some y0=>simp only[hi,aa]at h;split at h;rename_i x' hx';refine⟨.val g0 (gM cs j (.sl (.own (some t')) e ((he▸xs:au e.D).set i.toNat x'))),λsl hq=>?_⟩;simp only[AS.ot,AS.eL,AS.eQ,hget _ hq,hb,hn,dif_pos he,aF ht,hi,aa,hx',AS.put];cases h
     cases h;cases h;rename_i t' i' q0 e' xs hn;split at h;rename_i he;split at h;rename_i ht;cases hi:ZT (he▸xs:au e.D) i' i with|none=>rw[hi]at h;simp[aa]at h|some y0=>simp only[hi,aa]at h;split at h;rename_i x' hx';refine⟨.val g0 (gM cs j (.sl (.own (some t')) e ((he▸xs:au e.D).set i.toNat x'))),λsl hq=>?_⟩;simp only[AS.ot,AS.eL,AS.eQ,hget _ hq,hb,hn,dif_pos he,aF ht,hi,aa,hx',AS.put];cases h
     cases h;cases h;cases h
   obtain⟨B,hB⟩:=main;refine⟨B,?_,λst2 h1 h2 hnb h3 h4 h5 h6=>?_⟩;subst e2;rw[hB _ (by rw[jd,aD (cC hbx)])]at h;exact(bM h).symm;unfold cw;rw[hfree st2 h1 h4,hf];have r2:st2.rd (.tmp q)=st.rd (.tmp q):=by simp only[AS.rd,h1,h4]
   have t2:st2.take (.tmp x)=(.val gg vs,⟨gM st2.slots x ((st.get x).aX st.ep),st.boxes,st.ep,st.iss,st.io⟩):=by simp only[AS.take,AS.put,h2,h3,h4,h5,h6,e1]
   simp only[ah,gb,hg,cG,hp,hd,hl,bf,cd,vn,hT,r2,hrd,t2];rw[aF hlen];exact hB _ (by rw[jd,aD (cC hbx)];exact hnb);cases h;cases h
  cases h
theorem afV {o p:Oper}(ha:Vx an o p=true)(h1:cw E Γ an ops X o st=some s1)(h2:cw E Γ an ops Y p s1=some s2): ∃t1,cw E Γ an ops Y p st=some t1/\cw E Γ an ops X o t1=some s2:=by
 unfold Vx at ha;split at ha;rename_i T q x hp hpd hpg;simp only[ae,aH]at ha;obtain⟨⟨⟨heb,hsb⟩,hl⟩,ha⟩:=ha;have hcore:∃d t,o.dst=some d/\o.guard=none/\((o.op=.move (.tmp t)/\an.mv.contains d=false/\an.fm.contains d=true)\/∃i,o.op=.extract (.tmp t) i)/\d≠q/\d≠x/\t≠x/\d≠t/\t≠q:=by split at ha;rename_i t d ho hd hg;simp only[ae,aH,bP]at ha;exact⟨d,t,hd,hg,.inl ⟨ho,ha.1.1.1.1.1.1,ha.1.1.1.1.1.2⟩,ha.1.1.1.1.2,ha.1.1.1.2,ha.1.1.2,ha.2,ha.1.2⟩;rename_i t i d ho hd hg;simp only[ae,aH,bP]at ha;exact⟨d,t,hd,hg,.inr ⟨i,ho⟩,ha.1.1.1.1,ha.1.1.1.2,ha.1.1.2,ha.2,ha.1.2⟩;cases ha
 obtain⟨d,t,hd,hg,ho,hdq,hdx,htx,hdt,htq⟩:=hcore;obtain⟨tv,v,rfl,hrun⟩:=Uq hd hg ho hdt h1;have hq:((st.put (some t) tv).put (some d) v).get q=st.get q:=by rw[sT hdq];exact sT htq
 have hx:((st.put (some t) tv).put (some d) v).get x=st.get x:=by rw[sT hdx,sT htx]
 simp only[cB,ae]at heb;rcases heb with⟨heb,hes⟩|hes;obtain⟨B,rfl,hgo⟩:=afW hp hpd hpg heb hes hsb hl h2;have k1:=hgo st hq.symm hx.symm rfl rfl rfl rfl;refine⟨_,k1,?_⟩;have hg2:(⟨gM st.slots x ((((st.put (some t) tv).put (some d) v).get x).aX ((st.put (some t) tv).put (some d) v).ep),B,((st.put (some t) tv).put (some d) v).ep+1,((st.put (some t) tv).put (some d) v).iss,((st.put (some t) tv).put (some d) v).io⟩:AS).get t=st.get t:=by simp only[AS.get,jd,aD (cC htx)]
 rw[hrun _ hg2];simp only[AS.put,bl,AS.mk.injEq,ij];rw[iC _ (cC htx),iC _ (cC hdx)];cases hb:an.es q with
 |none=>rw[hb]at hes;cases hes
 |some b=>
  rw[hb]at hes;simp only[ae,aH,bP]at hes;obtain⟨⟨⟨heb,hbx⟩,_⟩,hbw⟩:=hes;have hbw:=lB hbw b (by simp);have hbd:b≠d:=λe=>hbw (by simp[hd,e]);have hbt:b≠t:=λe=>hbw (by refine ay.2 (.inr ?_);rcases ho with⟨ho,_⟩|⟨i,ho⟩<;>simp[dD,ho,tm,e]);obtain⟨B,rfl,hgo⟩:=acj hp hpd hpg hb heb hbx hsb hl h2;have hnb:nth st.slots b=nth ((st.put (some t) tv).put (some d) v).slots b:=by simp only[AS.put,jd,aD (cC hbd),aD (cC hbt)]
  have k1:=hgo st hq.symm hx.symm hnb rfl rfl rfl rfl;refine⟨_,k1,?_⟩;have hg2:(⟨gM (gM st.slots x ((((st.put (some t) tv).put (some d) v).get x).aX ((st.put (some t) tv).put (some d) v).ep)) b B,((st.put (some t) tv).put (some d) v).boxes,((st.put (some t) tv).put (some d) v).ep+1,((st.put (some t) tv).put (some d) v).iss,((st.put (some t) tv).put (some d) v).io⟩:AS).get t=st.get t:=by simp only[AS.get,jd,aD (cC htx),aD hbt]
  rw[hrun _ hg2];simp only[AS.put,bl,AS.mk.injEq,ij];rw[iC _ hbt,iC _ hbd,iC _ (cC htx),iC _ (cC hdx)]
 cases ha
theorem QV {c:AC}(h:c.kA=true\/(c.borrow ep none).kA=true):c.borrow ep none=c:=by
 cases c with
 |sl fl e xs=>exfalso;cases fl with|holed _ _ ep=>cases ep<;>simp[AC.borrow,AC.kA]at h|_=>simp[AC.borrow,AC.kA]at h
 |_=>rfl
theorem LX {cs:au AC}{n:Nat}(hfit:off+n<=cs.length)(k:Nat):(dY cs off (aX ep ((cs.drop off).take n)))[k]?=(cs[k]?).map λc=>if off<=k/\k<off+n then c.borrow ep none else c:=by
 have hl:(aX ep ((cs.drop off).take n)).length=n:=by simp[aX];omega
 unfold dY;rw[hl];by_cases h1:k<off;rw[aU,List.getElem?_append_left (by simp;omega),List.getElem?_take_of_lt h1];have:(λc:AC=>if off<=k/\k<off+n then c.borrow ep none else c)=id:=by funext c;rw[mi];rfl
 rw[this,Option.map_id];rfl;by_cases h2:k<off+n;rw[List.getElem?_append_left (by simp[hl];omega),List.getElem?_append_right (by simp;omega)];have e:k-(cs.take off).length=k-off:=by simp;omega
 rw[e,aX,List.getElem?_map,List.getElem?_take_of_lt (by omega),List.getElem?_drop,show off+(k-off)=k by omega];congr 1;funext c;rw[zip];rw[List.getElem?_append_right (by simp[hl];omega)];have e:k-(cs.take off++aX ep ((cs.drop off).take n)).length=k-(off+n):=by simp[hl];omega
 rw[e,List.getElem?_drop,show off+n+(k-(off+n))=k by omega];have:(λc:AC=>if off<=k/\k<off+n then c.borrow ep none else c)=id:=by funext c;rw[mi];rfl
 rw[this,Option.map_id];rfl
theorem Gk {cs:au AC}{n o2 n2:Nat}(hfit:off+n<=cs.length)(h:((cs.drop o2).take n2).all AC.kA=true\/(((dY cs off (aX ep ((cs.drop off).take n))).drop o2).take n2).all AC.kA=true): ((dY cs off (aX ep ((cs.drop off).take n))).drop o2).take n2=(cs.drop o2).take n2:=by
 apply List.ext_getElem?;intro k;by_cases hk:k<n2;rw[List.getElem?_take_of_lt hk,List.getElem?_take_of_lt hk,List.getElem?_drop,List.getElem?_drop,LX hfit];cases hc:cs[o2+k]? with|none=>rfl|some c=>simp only[db];split;rename_i hin;refine congrArg some (QV ?_);rcases h with h|h;left;refine aC.1 h c (List.mem_of_getElem? (i:=k) ?_);rw[List.getElem?_take_of_lt hk,List.getElem?_drop,hc];right;refine aC.1 h _ (List.mem_of_getElem? (i:=k) ?_);rw[List.getElem?_take_of_lt hk,List.getElem?_drop,LX hfit,hc,db,aF hin];rfl
 rw[List.getElem?_eq_none (by simp;omega),List.getElem?_eq_none (by simp;omega)]
theorem HF {b ep:Nat}:∀{cs:au AC}{j:Nat},cs.all AC.kA=true->hH ep (.box b) j cs=cs
 |[],_,_=>rfl
 |c::cs,j,h=>by simp only[bU,ae]at h;rw[hH,HF h.2];congr 1;cases c<;>first|rfl|(simp[AC.kA]at h)
theorem Ma {o:Oper}(h:zW an o=true):∃T q d,o.op=.load T (.tmp q)/\o.dst=some d/\o.guard=none/\an.mv.contains d=true/\(an.mb d).isSome=true:=by unfold zW at h;split at h;rename_i T q d ho hd hg;simp only[ae]at h;exact⟨T,q,d,ho,hd,hg,h.1,h.2⟩;cases h
theorem Kz {o:Oper}(h:Ky an o=true):∃T q d,o.op=.load T (.tmp q)/\o.dst=some d/\o.guard=none/\an.mv.contains d=false/\an.fm.contains d=true:=by unfold Ky at h;split at h;rename_i T q d ho hd hg;simp only[ae,aH]at h;exact⟨T,q,d,ho,hd,hg,h.1,h.2⟩;cases h
theorem Ds {o:Oper}(ht:zW an o=true)(ho:o.op=.load T (.tmp q))(hd:o.dst=some d)(hg:o.guard=none)(hmv:an.mv.contains d=true):cw E Γ an ops X o st=some s↔ ∃sh b off cs,iI E.ty T=some sh/\st.rd (.tmp q)=.val false [.ptr b off]/\(nth st.boxes b).getD none=some cs/\off+sh.ct.size<=cs.length/\X.contains b=false/\an.mb d=some b/\(UW an o=true->Cg E T st b off=true)/\ s=(st.eu b (some (dY cs off (aX st.ep ((cs.drop off).take sh.ct.size))))).put (some d) (.val sh.agg ((cs.drop off).take sh.ct.size)):=by
 have key:dv E an X o st=true->∀r,cG E Γ an o st some=some r->∃b off,st.rd (.tmp q)=.val false [.ptr b off]:=by intro hf r hr;simp only[cG,ho,n9]at hr;split at hr;rename_i hp;exact⟨_,_,hp⟩;rename_i hp;simp only[dv,ho,hp,ht,gH,aj,ez,dw]at hf;cases hf;cases hr
 unfold cw;constructor;intro h;cases hf:dv E an X o st with|false=>rw[hf]at h;cases h|true=>rw[hf]at h;simp only[ah,gb,hg]at h;obtain⟨b,off,hp⟩:=key hf s h;simp only[dv,ho,hp,hd,hmv,aj,cz,ae,aH,bh,cB]at hf;simp only[cG,ho,n9,hp]at h;cases hT:iI E.ty T with|none=>rw[hT]at h;cases h|some sh=>rw[hT]at h;simp only at h;cases hb:(nth st.boxes b).getD none with|none=>rw[hb]at h;cases h|some cs=>rw[hb]at h;simp only at h;split at h;rename_i hfit;simp only[hd,hmv,bT]at h;cases h;refine⟨sh,b,off,cs,rfl,hp,hb,hfit,hf.1.1,hf.1.2,λhm=>?_,rfl⟩;rcases hf.2 with g|g;rw[hm]at g;cases g;exact g;cases h
 rintro⟨sh,b,off,cs,hT,hp,hb,hfit,hX,hmb,hfm,rfl⟩;have hf:dv E an X o st=true:=by simp only[dv,ho,hp,hd,hmv,hX,hmb,aj,cz,ae,aH,bh,cB];refine⟨⟨ch,ch⟩,?_⟩;cases hm:UW an o with|false=>exact .inl rfl|true=>exact .inr (hfm hm)
 rw[hf];simp only[ah,gb,hg,cG,ho,n9,hp,hT,hb,aF hfit,hd,hmv,bT]
theorem Da {o:Oper}(ho:o.op=.load T (.tmp q))(hd:o.dst=some d)(hg:o.guard=none)(hmv:an.mv.contains d=false)(hfm:an.fm.contains d=true):cw E Γ an ops X o st=some s↔ ∃sh b off cs,iI E.ty T=some sh/\st.rd (.tmp q)=.val false [.ptr b off]/\(nth st.boxes b).getD none=some cs/\off+sh.ct.size<=cs.length/\X.contains b=false/\((cs.drop off).take sh.ct.size).all AC.kA=true/\ s=st.put (some d) (.val sh.agg ((cs.drop off).take sh.ct.size)):=by
 have hfb:UW an o=true:=by simp only[UW,hd,hfm]
 have key:dv E an X o st=true->∀r,cG E Γ an o st some=some r->∃b off,st.rd (.tmp q)=.val false [.ptr b off]:=by intro hf r hr;simp only[cG,ho,n9]at hr;split at hr;rename_i hp;exact⟨_,_,hp⟩;rename_i hp;simp only[dv,ho,hp,hfb,gI,aj,ez,dw]at hf;cases hf;cases hr
 unfold cw;constructor;intro h;cases hf:dv E an X o st with
 |false=>rw[hf]at h;cases h
 |true=>
  rw[hf]at h;simp only[ah,gb,hg]at h;obtain⟨b,off,hp⟩:=key hf s h;simp only[dv,ho,hp,hd,hmv,hfb,aj,br,gI,cz,fi,ae,aH]at hf;simp only[cG,ho,n9,hp]at h;cases hT:iI E.ty T with
  |none=>rw[hT]at h;cases h
  |some sh=>
   rw[hT]at h;simp only at h;cases hb:(nth st.boxes b).getD none with
   |none=>rw[hb]at h;cases h
   |some cs=>
    rw[hb]at h;simp only at h;split at h;rename_i hfit;have hst:((cs.drop off).take sh.ct.size).all AC.kA=true:=by have:=hf.2;unfold Cg at this;rw[hT,hb]at this;exact this
    simp only[hd,hmv,bf,cd,HF hst]at h;cases h;exact⟨sh,b,off,cs,rfl,hp,hb,hfit,hf.1,hst,rfl⟩;cases h
 rintro⟨sh,b,off,cs,hT,hp,hb,hfit,hX,hst,rfl⟩;have hf:dv E an X o st=true:=by simp only[dv,ho,hp,hd,hmv,hX,hfb,Cg,hT,hb,hst];rfl
 rw[hf];simp only[ah,gb,hg,cG,ho,n9,hp,hT,hb,aF hfit,hd,hmv,bf,cd,HF hst]
theorem N5 {v:AV}(h:d≠q):(st.put (some d) v).rd (.tmp q)=st.rd (.tmp q):=by simp only[AS.rd,sT h];rfl
theorem adD {cs:aw (au AC)}:(st.eu b cs).rd (.tmp q)=st.rd (.tmp q):=rfl
theorem Vb {cs x:au AC}(h:(nth st.boxes b).getD none=some cs):(nth (gM st.boxes b (some x)) b).getD none=some x:=by
 rw[jd,aF rfl];cases hn:nth st.boxes b with
 |none=>rw[hn]at h;cases h
 |some _=>
  have:b<st.boxes.length:=by rw[dI]at hn;exact(List.getElem?_eq_some_iff.1 hn).1
  rw[aF this];rfl
theorem Vc {b2:Nat}{x:au AC}(h:b≠b2):nth (gM st.boxes b (some x)) b2=nth st.boxes b2:=by rw[jd,aD h]
theorem agB {o p:Oper}(ha:Wn an o p=true)(h1:cw E Γ an ops X o st=some s1)(h2:cw E Γ an ops Y p s1=some s2): ∃t1,cw E Γ an ops Y p st=some t1/\cw E Γ an ops X o t1=some s2:=by
 simp only[Wn,ae,cB,aH]at ha;obtain⟨⟨ha,m1⟩,m2⟩:=ha;have m1:=lB m1;have m2:=lB m2;rcases ha with⟨ht,hf⟩|⟨hf,ht⟩;obtain⟨T,q,d,ho,hd,hg,hmv,hmb⟩:=Ma ht;obtain⟨T2,q2,d2,hp,hd2,hg2,hmv2,hfm2⟩:=Kz hf;have n1:d≠d2:=λe=>m1 d (by simp[hd]) (by simp[hd2,e]);have n2:d≠q2:=λe=>m1 d (by simp[hd]) (by simp[dD,hp,tm,e]);have n3:d2≠q:=λe=>m2 d2 (by simp[hd2]) (by simp[dD,ho,tm,e]);obtain⟨sh,b,off,cs,hT,hr,hb,hfit,hX,hmbe,hfm,rfl⟩:=(Ds ht ho hd hg hmv).1 h1;obtain⟨sh2,b2,off2,cs2,hT2,hr2,hb2,hfit2,hX2,hst2,rfl⟩:=(Da hp hd2 hg2 hmv2 hfm2).1 h2;rw[N5 n2,adD]at hr2;have hbx:(nth (gM st.boxes b (some (dY cs off (aX st.ep ((cs.drop off).take sh.ct.size))))) b2).getD none=some cs2:=hb2;have hfin:∃cs0,(nth st.boxes b2).getD none=some cs0/\off2+sh2.ct.size<=cs0.length/\(cs2.drop off2).take sh2.ct.size=(cs0.drop off2).take sh2.ct.size:=by
  by_cases hbb:b=b2;subst hbb;rw[Vb hb]at hbx;cases hbx;have hlen:(dY cs off (aX st.ep ((cs.drop off).take sh.ct.size))).length=cs.length:=by simp only[dY,aX,ai,bF,aO,aI];omega
  exact⟨cs,hb,by omega,Gk hfit (.inr hst2)⟩;rw[Vc hbb]at hbx;exact⟨cs2,hbx,hfit2,rfl⟩
 obtain⟨cs0,hb0,hfit0,he⟩:=hfin;rw[he]at hst2⊢;refine⟨_,(Da hp hd2 hg2 hmv2 hfm2).2 ⟨sh2,b2,off2,cs0,hT2,hr2,hb0,hfit0,hX2,hst2,rfl⟩,(Ds ht ho hd hg hmv).2 ⟨sh,b,off,cs,hT,by rw[N5 n3];exact hr,hb,hfit,hX,hmbe,λhm=>?_,?_⟩⟩;have:=hfm hm;unfold Cg at this⊢;exact this;simp only[AS.put,AS.eu,AS.mk.injEq,ij];exact iC _ n1 _ _;obtain⟨T,q,d,ho,hd,hg,hmv,hfm⟩:=Kz hf;obtain⟨T2,q2,d2,hp,hd2,hg2,hmv2,hmb2⟩:=Ma ht;have n1:d≠d2:=λe=>m1 d (by simp[hd]) (by simp[hd2,e]);have n2:d≠q2:=λe=>m1 d (by simp[hd]) (by simp[dD,hp,tm,e]);have n3:d2≠q:=λe=>m2 d2 (by simp[hd2]) (by simp[dD,ho,tm,e]);obtain⟨sh,b,off,cs,hT,hr,hb,hfit,hX,hst,rfl⟩:=(Da ho hd hg hmv hfm).1 h1;obtain⟨sh2,b2,off2,cs2,hT2,hr2,hb2,hfit2,hX2,hmbe,hfm2,rfl⟩:=(Ds ht hp hd2 hg2 hmv2).1 h2;rw[N5 n2]at hr2;refine⟨_,(Ds ht hp hd2 hg2 hmv2).2 ⟨sh2,b2,off2,cs2,hT2,hr2,hb2,hfit2,hX2,hmbe,λhm=>hfm2 hm,rfl⟩,?_⟩;have hfin:∃cs0,(nth (gM st.boxes b2 (some (dY cs2 off2 (aX st.ep ((cs2.drop off2).take sh2.ct.size))))) b).getD none=some cs0/\off+sh.ct.size<=cs0.length/\(cs0.drop off).take sh.ct.size=(cs.drop off).take sh.ct.size:=by
  by_cases hbb:b2=b;subst hbb;have hcs:cs2=cs:=bM (hb2.symm.trans hb);subst hcs;have hlen:(dY cs2 off2 (aX st.ep ((cs2.drop off2).take sh2.ct.size))).length=cs2.length:=by simp only[dY,aX,ai,bF,aO,aI];omega
  exact⟨_,Vb hb,by omega,Gk hfit2 (.inl hst)⟩;exact⟨cs,by rw[Vc hbb];exact hb,hfit,rfl⟩
 obtain⟨cs0,hb0,hfit0,he⟩:=hfin;refine(Da ho hd hg hmv hfm).2 ⟨sh,b,off,cs0,hT,by rw[N5 n3,adD];exact hr,hb0,hfit0,hX,by rw[he];exact hst,?_⟩;rw[he];simp only[AS.put,AS.eu,AS.mk.injEq,ij];exact iC _ n1 _ _
theorem L9 {o:Oper}(ht:CP an o=true)(ho:o.op=.load T (.tmp q))(hd:o.dst=some d)(hg:o.guard=none)(hmv:an.mv.contains d=true)(hmb:an.mb d=none):cw E Γ an ops X o st=some s↔ ∃(g:Bool)(e:CT)(offs:au (Nat×Nat))(b j t ep0:Nat)(x:e.D)(i:Int)(cs:au AC)(ys:au e.D)(y:e.D),iI E.ty T=some ⟨g,e,offs⟩/\st.rd (.tmp q)=.val false [.elt (.loc ep0 (some (.box b j,t))) e x i 0]/\(nth st.boxes b).getD none=some cs/\nth cs j=some (.sl (.own (some t)) e ys)/\idx ys i=some y/\ X.contains b=false/\an.eb q=some b/\UW an o=false/\s=(Gu st b j t e i cs ys).put (some d) (.val g (cellsOf e (.own none) y)):=by rw[<-L8 ht ho hd hmv hmb];unfold cw;cases dv E an X o st with|false=>simp|true=>simp only[ah,gb,hg,cG,ho,true_and]
theorem aa3 {o:Oper}(h:zn an o=true):∃T q d,o.op=.load T (.tmp q)/\o.dst=some d/\o.guard=none/\an.mv.contains d=false/\UW an o=false:=by unfold zn at h;split at h;rename_i T q d ho hd hg;simp only[ae,aH]at h;exact⟨T,q,d,ho,hd,hg,h.1.1,by simp only[UW,hd];exact h.1.2⟩;cases h
theorem Ls {o:Oper}(hpl:zn an o=true)(ho:o.op=.load T (.tmp q))(hd:o.dst=some d)(hg:o.guard=none)(hmv:an.mv.contains d=false)(hfm:UW an o=false):cw E Γ an ops X o st=some s↔ ∃sh b off cs,iI E.ty T=some sh/\st.rd (.tmp q)=.val false [.ptr b off]/\(nth st.boxes b).getD none=some cs/\off+sh.ct.size<=cs.length/\X.contains b=false/\ s=st.put (some d) (.val sh.agg (hH st.ep (.box b) off ((cs.drop off).take sh.ct.size))):=by
 unfold cw;constructor;intro h;cases hf:dv E an X o st with|false=>rw[hf]at h;cases h|true=>rw[hf]at h;simp only[ah,gb,hg,cG,ho]at h;unfold n9 at h;split at h;rename_i sh b off hT hp;simp only[dv,ho,hp,hd,hmv,hfm,br,gI,fi,aH]at hf;split at h;rename_i cs hb;split at h;rename_i hfit;simp only[hd,hmv,bf,cd]at h;cases h;exact⟨sh,b,off,cs,hT,hp,hb,hfit,hf,rfl⟩;cases h;cases h;rename_i hp;simp only[dv,ho,hp,hpl,aj,ez,dw]at hf;cases hf;cases h
 rintro⟨sh,b,off,cs,hT,hp,hb,hfit,hX,rfl⟩;have hf:dv E an X o st=true:=by simp only[dv,ho,hp,hd,hmv,hX,hfm];rfl
 rw[hf];simp only[ah,gb,hg,cG,ho,n9,hp,hT,hb,aF hfit,hd,hmv,bf,cd]
theorem JJ {ep b:Nat}:∀(cs:au AC)(p k:Nat)(c':AC),(∀c,cs[k]?=some c->∀r,c'.borrow ep (some r)=c.borrow ep (some r))->hH ep (.box b) p (cs.set k c')=hH ep (.box b) p cs
 |[],_,_,_,_=>rfl
 |c::cs,p,0,c',h=>by simp only[List.set_cons_zero,hH,h c rfl]
 |c::cs,p,k+1,c',h=>by simp only[List.set_cons_succ,hH];rw[JJ cs (p+1) k c' (λc hc=>h c (by simpa using hc))]
theorem Rj {j n:Nat}{e:CT}{i:Int}{ys:au e.D}{cs:au AC}(hj:nth cs j=some (.sl (.own (some t)) e ys)): hH ep (.box b) off (((gM cs j (.sl (.holed (some t) i (some ep)) e ys)).drop off).take n)=hH ep (.box b) off ((cs.drop off).take n):=by rw[eY,List.drop_set];split;rfl;rename_i hlt;rw[List.take_set];refine JJ _ _ _ _ λc hc r=>?_;by_cases hn:j-off<n;rw[List.getElem?_take_of_lt hn,List.getElem?_drop,show off+(j-off)=j by omega,<-dI,hj]at hc;cases hc;rfl;rw[List.getElem?_eq_none (by simp;omega)]at hc;cases hc
theorem afK {o p:Oper}(ha:Vh an o p=true)(h1:cw E Γ an ops X o st=some s1)(h2:cw E Γ an ops Y p s1=some s2): ∃t1,cw E Γ an ops Y p st=some t1/\cw E Γ an ops X o t1=some s2:=by
 simp only[Vh,ae,aH]at ha;obtain⟨⟨⟨hpl,ht⟩,m1⟩,m2⟩:=ha;have m1:=lB m1;have m2:=lB m2;obtain⟨T,q,d,ho,hd,hg,hmv,hfm⟩:=aa3 hpl;obtain⟨T2,q2,d2,hp,hd2,hg2,hmv2,hmb2⟩:=Ov ht;have n1:d≠d2:=λe=>m1 d (by simp[hd]) (by simp[hd2,e]);have n2:d≠q2:=λe=>m1 d (by simp[hd]) (by simp[dD,hp,tm,e]);have n3:d2≠q:=λe=>m2 d2 (by simp[hd2]) (by simp[dD,ho,tm,e]);obtain⟨sh,b,off,cs,hT,hr,hb,hfit,hX,rfl⟩:=(Ls hpl ho hd hg hmv hfm).1 h1;obtain⟨g,e,offs,b2,j,t,ep0,x,i,cs2,ys,y,hT2,hr2,hb2,hj,hi,hX2,heb,hfm2,rfl⟩:=(L9 ht hp hd2 hg2 hmv2 hmb2).1 h2;rw[N5 n2]at hr2;have hb2':(nth st.boxes b2).getD none=some cs2:=hb2;refine⟨_,(L9 ht hp hd2 hg2 hmv2 hmb2).2 ⟨g,e,offs,b2,j,t,ep0,x,i,cs2,ys,y,hT2,hr2,hb2',hj,hi,hX2,heb,hfm2,rfl⟩,?_⟩;have hfin:∃cs0,(nth (gM st.boxes b2 (some (gM cs2 j (.sl (.holed (some t) i (some st.ep)) e ys)))) b).getD none=some cs0/\off+sh.ct.size<=cs0.length/\hH st.ep (.box b) off ((cs0.drop off).take sh.ct.size)=hH st.ep (.box b) off ((cs.drop off).take sh.ct.size):=by by_cases hbb:b2=b;subst hbb;have hcs:cs2=cs:=bM (hb2'.symm.trans hb);subst hcs;exact⟨_,Vb hb,by rw[eY,aA];exact hfit,Rj hj⟩;exact⟨cs,by rw[Vc hbb];exact hb,hfit,rfl⟩
 obtain⟨cs0,hb0,hfit0,he⟩:=hfin;refine(Ls hpl ho hd hg hmv hfm).2 ⟨sh,b,off,cs0,hT,by rw[N5 n3];exact hr,hb0,hfit0,hX,?_⟩;show _=((Gu st b2 j t e i cs2 ys).put (some d2) _).put (some d) (.val sh.agg (hH st.ep (.box b) off ((cs0.drop off).take sh.ct.size)));rw[he];simp only[AS.put,Gu,AS.eu,AS.mk.injEq,ij];exact iC _ n1 _ _
def ML (E:Env)(Γ:dm)(an:An)(ops:au Oper)(X:Nat->eG):eG->AS->aw AS
 |[],st=>some st
 |i::r,st=>match nth ops i with
  |some o=>(cw E Γ an ops (X i) o st).bind (ML E Γ an ops X r)
  |none=>none
theorem LM (hΓ:∀f,(Γ f).io=false/\((Γ f).bx=true->(Γ f).cur=true)/\(Γ f).pr=false){X:Nat->eG}{i:Nat}{oi:Oper}(hi:nth ops i=some oi):∀(pre post:eG)(st r:AS),(∀j∈pre,∀oj,nth ops j=some oj->JC an ops (X j) (X i) oj oi=true)->
 ML E Γ an ops X (pre++i::post) st=some r->ML E Γ an ops X (i::(pre++post)) st=some r
 |[],post,st,r,_,h=>h
 |j::pre,post,st,r,ha,h=>by
  simp only[List.cons_append,ML]at h;cases hj:nth ops j with
  |none=>rw[hj]at h;cases h
  |some oj=>
   rw[hj]at h;simp only at h;obtain⟨s1,h1,h2⟩:=aQ.1 h;have h3:=LM hΓ hi pre post s1 r (λk hk=>ha k (by simp[hk])) h2;simp only[ML,hi]at h3;obtain⟨s2,h4,h5⟩:=aQ.1 h3;have hap:=ha j (by simp) oj hj;obtain⟨t1,k1,k2⟩:∃t1,cw E Γ an ops (X i) oi st=some t1/\cw E Γ an ops (X j) oj t1=some s2:=by cases hx:ady an oj oi with|false=>rw[JC,hx,cz]at hap;exact Xj hΓ hap h1 h4|true=>simp only[ady,cB]at hx;rcases hx with((hx|hx)|hx)|hx;exact acs hx h1 h4;exact afV hx h1 h4;exact agB hx h1 h4;exact afK hx h1 h4
   simp only[ML,hi,k1,ed,List.cons_append,hj,k2];exact h5
end Go.Dn
