import Derived.Test.YtgbaemfepmabgaaGreatDnUpd
/- Operations that are apart may change places. -/
namespace Go.Dn
variable {E:Env} {Γ:dK} {an:An} {ops:aw Oper}
variable {s s1 s2 st:AS} {b d ep off q t:Nat} {α:Type} {T:TypeId} {X Y:fu}
def cI (E:Env)(Γ:dK)(an:An)(ops:aw Oper)(X:fu)(o:Oper)(st:AS):az AS:=
 bif dM E an X o st then gP E Γ an ops o st some else none
structure PK (an:An) (ops:List Oper) (X:List Nat) (o:Oper) (st st2:AS):Prop where
 base:ib an X o st st2
 gd:∀t∈Dt an ops o,st2.get t=st.get t
theorem Vf {b:Bool}(h:st.get d=.val false [.bool b]):st.put (some d) (.one (.bool b))=st:=by cases st with|mk slots boxes ep iss io=>simp only[AS.put,AS.mk.injEq,iU];rw[fP];apply cL;intro i;rw[bH];split;rename_i hd;subst hd;simp only[AS.get,ei]at h;split;rename_i hlt;rw[al hlt]at h⊢;simp only[fT]at h;rw[h];rename_i hge;rw[bG (Nat.le_of_not_lt hge)];rfl
theorem Q5 {st2:AS}{s:Nat}(h:nth st2.boxes s=nth st.boxes s):Dm E T st2 s off=Dm E T st s off:=by unfold Dm;rw[h]
theorem Fw {o:Oper}{st2:AS}(ha:ib an X o st st2):dM E an X o st2=dM E an X o st:=by
 unfold dM;split;rename_i ho;rw[ha.rd (λt ht=>by simpa[dW,ho]using ht)];rename_i T p ho;rw[ha.rd (λt ht=>by simp[dW,ho,ht]),ha.ep];rename_i ho;rw[ha.rd (λt ht=>by simp[dW,ho,ht]),ha.ep];rename_i f args ts ho;have hcur:tz an X (erS an o) st2 args.toList=tz an X (erS an o) st args.toList:=by
  have hl:∀x∈args.toList,∀t∈tm x,t∈dW o:=by intro x hx t ht;simp only[dW,ho,ay,N2,List.mem_flatMap];exact .inr ⟨x,hx,ht⟩
  generalize args.toList=l at hl;cases l with
  |nil=>rfl
  |cons x xs=>
   have hself:xs.all (Hg (erS an o) st2)=xs.all (Hg (erS an o) st):=by
    rw[cC];simp only[aG];have e:∀y∈xs,Hg (erS an o) st2 y=Hg (erS an o) st y:=by intro y hy;cases y with|tmp t=>have hg:=ha.get t (hl (.tmp t) (by simp[hy]) t (by simp[tm]));simp only[Hg,hg]|const v=>rfl|func v=>rfl|global v=>rfl
    exact⟨λg y hy=>by rw[<-e y hy];exact g y hy,λg y hy=>by rw[e y hy];exact g y hy⟩
   have hr:=ha.rd (hl x (by simp));cases x with
   |tmp q=>
    simp only[tz,hr];generalize st.rd (.tmp q)=v;unfold adh;rw[hself];split;rename_i s off;cases hX:X.contains s with|true=>simp|false=>rw[ha.box s hX]
    rfl
   |const v=>simp only[tz,hr]
   |func v=>simp only[tz,hr]
   |global v=>simp only[tz,hr]
 rw[hcur];congr 1;rw[cC];simp only[aG];constructor;intro hx x hm;have:=hx x hm;rwa[ha.rd (λt ht=>by simp only[dW,ho,ay,N2,List.mem_flatMap];exact .inr ⟨x,hm,ht⟩),ha.ep]at this;intro hx x hm;rw[ha.rd (λt ht=>by simp only[dW,ho,ay,N2,List.mem_flatMap];exact .inr ⟨x,hm,ht⟩),ha.ep];exact hx x hm;rename_i ho;rw[ha.rd (λt ht=>by simpa[dW,ho]using ht),ha.ep];split;rename_i s off _;cases hX:X.contains s with|true=>rfl|false=>rw[Q5 (ha.box s hX)]
 rfl;rfl;rename_i ho;rw[ha.rd (λt ht=>by simp only[dW,ho,ay];exact .inl ht)];rename_i ho;rw[ha.get _ (by simp[dW,ho])];rfl
theorem Jz (hΓ:∀f,(Γ f).io=false/\((Γ f).bx=true->(Γ f).cur=true)/\(Γ f).pr=false){o:Oper}{st':AS}(hm:nG an o=true)(h:cI E Γ an ops X o st=some st'): ∃u:HG,u.Fi an o/\st'=u.apply st/\∀st2,PK an ops X o st st2->cI E Γ an ops X o st2=some (u.apply st2):=by
 unfold cI at h;cases hf:dM E an X o st with
 |false=>rw[hf]at h;cases h
 |true=>
  rw[hf]at h;simp only[ah]at h;unfold gP at h;split at h;rename_i hg;obtain⟨u,h1,h2,h3⟩:=M9 (X:=X) hΓ hm hf h;refine⟨u,h1,h2,λst2 ha=>?_⟩;unfold cI;rw[Fw ha.base,hf];simp only[ah,gP,hg];exact h3 st2 ha.base;rename_i j want hg;split at h;rename_i d hd;have hin:d∈Dt an ops o:=by simp[Dt,hg,hd]
  split at h;rename_i b hb;have hgo:(if(b==want)=true then cW E Γ an o st some else some (st.put o.dst (.one .un)))=some st':=by cases b<;>simpa only[ah,af,Vf hb]using h
  have h2g:∀st2,PK an ops X o st st2->cI E Γ an ops X o st2=(if(b==want)=true then cW E Γ an o st2 some else some (st2.put o.dst (.one .un))):=by
   intro st2 ha;have hb2:st2.get d=.val false [.bool b]:=by rw[ha.gd d hin];exact hb
   unfold cI;rw[Fw ha.base,hf];simp only[ah,gP,hg,hd,hb2];cases b<;>simp only[ah,af,Vf hb2]
  split at hgo;rename_i hw;obtain⟨u,h1,h2,h3⟩:=M9 (X:=X) hΓ hm hf hgo;exact⟨u,h1,h2,λst2 ha=>by rw[h2g st2 ha,aE hw];exact h3 st2 ha.base⟩;rename_i hw;cases hgo;exact⟨CG o (.one .un),Bu _,by rw[sj],λst2 ha=>by rw[h2g st2 ha,aD hw,sj]⟩;rename_i hb;cases h;refine⟨CG o (.one .un),Bu _,by rw[sj],λst2 ha=>?_⟩;have hb2:st2.get d=.val false [.un]:=by rw[ha.gd d hin];exact hb
  unfold cI;rw[Fw ha.base,hf,sj];simp only[ah,gP,hg,hd,hb2];cases h;cases h
theorem ji (l:aw α){i j:Nat}(h:i≠j)(v w:α):ir (ir l i v) j w=ir (ir l j w) i v:=by rw[fP,fP,fP,fP,List.set_comm _ _ h]
theorem XY (l:aw AV)(a:aw (Nat×AV)){i:Nat}(v:AV)(h:∀x∈a,x.1≠i):jW (ir l i v) a=ir (jW l a) i v:=by induction a generalizing l with|nil=>rfl|cons x a ih=>simp only[jW];rw[ji _ (cR (h x (by simp))),ih _ (λy hy=>h y (by simp[hy]))]
theorem Vc (l:aw AV)(a b:aw (Nat×AV))(h:∀x∈a,∀y∈b,x.1≠y.1):jW (jW l a) b=jW (jW l b) a:=by induction b generalizing l with|nil=>rfl|cons y b ih=>simp only[jW];rw[<-XY l a y.2 (λx hx=>h x hx y (by simp)),ih _ (λx hx z hz=>h x hx z (by simp[hz]))]
theorem NQ (l:aw AV)(a:aw (Nat×AV))(h:∀x∈a,x.1≠t):nth (jW l a) t=nth l t:=by induction a generalizing l with|nil=>rfl|cons x a ih=>rw[jW,ih _ (λy hy=>h y (by simp[hy])),jI,aD (h x (by simp))]
theorem mr {a b:fu}(h:meets a b=false):∀x∈a,x∉b:=by intro x hx hb;unfold meets at h;rw[List.any_eq_false]at h;exact h x hx (by simpa using hb)
theorem HG.ac0 {u:HG}{o p:Oper}(hw:u.Fi an o)(h1:∀x∈writes an o,x∉dW p++Dt an ops p++writes an p)(h2:∀d∈D6 an o,Y.contains d=true)(h3:∀d∈D6 an o,p.dst≠some d): PK an ops Y p (u.apply st) st/\PK an ops Y p st (u.apply st):=by
 have hget:∀t,t∈dW p++Dt an ops p++writes an p->(u.apply st).get t=st.get t:=by intro t ht;unfold AS.get;have:nth (u.apply st).slots t=nth st.slots t:=NQ _ _ (λx hx he=>h1 _ (hw.slots x hx) (by rw[he];exact ht));rw[this]
 have hdst:∀d,p.dst=some d->nth (u.apply st).iss d=nth st.iss d/\nth (u.apply st).boxes d=nth st.boxes d:=by
  intro d hd;have hd':d∈dW p++Dt an ops p++writes an p:=by simp[writes,hd]
  have hne:o.dst≠some d:=λhe=>h1 d (by simp[writes,he]) hd';constructor;unfold HG.apply;cases hi:u.iss with|none=>rfl|some k=>simp only;rw[jI,aD];rintro rfl;exact hne (hw.iss _ hi)
  unfold HG.apply;cases hi:u.box with|none=>rfl|some k=>simp only;rw[jI,aD];intro he;exact h3 _ (hw.box k hi) (by rw[he];exact hd)
 have hbox:∀s,Y.contains s=false->nth (u.apply st).boxes s=nth st.boxes s:=by intro s hs;unfold HG.apply;cases hi:u.box with|none=>rfl|some k=>simp only;rw[jI,aD];rintro rfl;have:=h2 k.1 (hw.box k hi);rw[this]at hs;cases hs
 have hlen:(u.apply st).slots.length=st.slots.length:=MC _ _;exact⟨⟨⟨hlen.symm,λt ht=>(hget t (by simp[ht])).symm,rfl,λd hd=>⟨((hdst d hd).1).symm,((hdst d hd).2).symm⟩,λs hs=>(hbox s hs).symm,λt ht=>(hget t (by simp[Dt,ht])).symm⟩,λt ht=>(hget t (by simp[ht])).symm⟩,⟨⟨hlen,λt ht=>hget t (by simp[ht]),rfl,hdst,hbox,λt ht=>hget t (by simp[Dt,ht])⟩,λt ht=>hget t (by simp[ht])⟩⟩
theorem Wa {u v:HG}{o p:Oper}(hu:u.Fi an o)(hv:v.Fi an p)(h:∀x∈writes an o,x∉writes an p)(hb:∀x∈D6 an o,x∉D6 an p):v.apply (u.apply st)=u.apply (v.apply st):=by
 have hdd:∀a b,o.dst=some a->p.dst=some b->a≠b:=λa b ha hb he=>h a (by simp[writes,ha]) (by simp[writes,hb,he]);have hs:=Vc st.slots u.slots v.slots (λx hx y hy he=>h _ (hu.slots x hx) (by rw[he];exact hv.slots y hy));simp only[HG.apply,AS.mk.injEq,true_and,iU];refine⟨hs,?_,?_⟩;cases hub:u.box with|none=>cases v.box<;>rfl|some k=>cases hvb:v.box with|none=>rfl|some l=>exact ji _ (λhe=>hb _ (hu.box k hub) (by rw[he];exact hv.box l hvb)) _ _
 cases hui:u.iss with|none=>cases v.iss<;>rfl|some k=>cases hvi:v.iss with|none=>rfl|some l=>exact ji _ (hdd _ _ (hu.iss k hui) (hv.iss l hvi)) _ _
theorem Yk (hΓ:∀f,(Γ f).io=false/\((Γ f).bx=true->(Γ f).cur=true)/\(Γ f).pr=false){o p:Oper}(ha:V8 an ops X Y o p=true)(h1:cI E Γ an ops X o st=some s1)(h2:cI E Γ an ops Y p s1=some s2): ∃t1,cI E Γ an ops Y p st=some t1/\cI E Γ an ops X o t1=some s2:=by
 simp only[V8,ae,aJ,aG]at ha;obtain⟨⟨⟨⟨⟨⟨⟨mo,mp⟩,w1⟩,w2⟩,b1⟩,b2⟩,b3⟩,b4⟩:=ha;have w1:=mr w1;have w2:=mr w2;have b3:=mr b3;have b4:=mr b4;obtain⟨u,hu,rfl,hu2⟩:=Jz hΓ mo h1;obtain⟨v,hv,rfl,hv2⟩:=Jz hΓ mp h2;have ag1:=HG.ac0 (ops:=ops) (p:=p) (Y:=Y) (st:=st) hu w1 b1 (λd hd he=>b3 d hd (by simp[he]));have hww:∀x∈writes an p,x∉dW o++Dt an ops o++writes an o:=by intro x hx hm;rcases ay.1 hm with hm|hm;exact w2 x hx hm;exact w1 x hm (by simp[hx])
 have ag2:=HG.ac0 (ops:=ops) (p:=o) (Y:=X) (st:=st) hv hww b2 (λd hd he=>b4 d hd (by simp[he]));refine⟨v.apply st,hv2 st ag1.1,?_⟩;rw[hu2 _ ag2.2,Wa hu hv (λx hx hm=>w1 x hx (by simp[hm])) (λx hx hm=>b3 x hx (by simp[hm]))]
theorem Gw {v w:AV}(h:st.get t=v)(hv:v≠ .bot):(st.put (some t) w).get t=w:=by
 unfold AS.get at h;cases hn:nth st.slots t with
 |none=>rw[hn]at h;exact absurd h.symm hv
 |some q=>
  have hl:t<st.slots.length:=by rw[ei]at hn;exact(aC.1 hn).1
  unfold AS.get AS.put;simp only[ei,fP];rw[dx hl];rfl
theorem ud {w:AV}(h:d≠t):(st.put (some d) w).get t=st.get t:=by unfold AS.get AS.put;simp only[jI,aD h]
theorem Bx {o:Oper}{i:Nat}(ho:o.op=.extract (.tmp t) i)(hd:o.dst=some d)(hg:o.guard=none):cI E Γ an ops X o st=some s↔ ∃vs g cs,st.get t=.tup vs/\nth vs i=some (g,cs)/\(cs.all AC.jE||an.mv.contains d)=true/\s=(st.put (some t) (.tup (ir vs i (g,bc 0 cs)))).put (some d) (.val g cs):=by
 unfold cI;simp only[dM,ho,hd];constructor;intro h;cases hv:st.get t with|val g cs=>simp only[hv,ah,gP,hg,cW,ho,lW]at h;cases h|tup vs=>simp only[hv]at h;cases hn:nth vs i with|none=>simp only[hn,ah,gP,hg,cW,ho,lW,hv]at h;cases h|some x=>obtain⟨g,cs⟩:=x;simp only[hn]at h;cases hf:(cs.all AC.jE||an.mv.contains d)with|false=>rw[hf]at h;cases h|true=>rw[hf]at h;simp only[ah,gP,hg,cW,ho,lW,hv,hn,hd]at h;cases h;exact⟨vs,g,cs,rfl,hn,hf,rfl⟩
 rintro⟨vs,g,cs,hv,hn,hf,rfl⟩;simp only[hv,hn,hf,ah,gP,hg,cW,ho,lW,hd]
theorem acm (l:aw α)(i:Nat)(v w:α):ir (ir l i v) i w=ir l i w:=by rw[fP,fP,fP,List.set_set]
theorem ads {o p:Oper}(ha:WG o p=true)(h1:cI E Γ an ops X o st=some s1)(h2:cI E Γ an ops Y p s1=some s2): ∃t1,cI E Γ an ops Y p st=some t1/\cI E Γ an ops X o t1=some s2:=by
 unfold WG at ha;split at ha;rename_i t i t' j d d' ho hp hd hd' hg hg';simp only[ae,bm,aJ,cl,ne_eq]at ha;obtain⟨⟨⟨⟨rfl,hij⟩,hdd⟩,hdt⟩,hdt'⟩:=ha;obtain⟨vs,g,cs,hv,hn,hf,rfl⟩:=(Bx ho hd hg).1 h1;obtain⟨vs2,g2,cs2,hv2,hn2,hf2,rfl⟩:=(Bx hp hd' hg').1 h2;have hq:((st.put (some t) (.tup (ir vs i (g,bc 0 cs)))).put (some d) (.val g cs)).get t=.tup (ir vs i (g,bc 0 cs)):=by rw[ud hdt,Gw hv (by simp)]
 rw[hq]at hv2;cases hv2;rw[jI,aD hij]at hn2;refine⟨_,(Bx hp hd' hg').2 ⟨vs,g2,cs2,hv,hn2,hf2,rfl⟩,(Bx ho hd hg).2 ⟨ir vs j (g2,bc 0 cs2),g,cs,?_,?_,hf,?_⟩⟩;rw[ud hdt',Gw hv (by simp)];rw[jI,aD (cR hij)];exact hn;have e:=ji vs hij (g,bc 0 cs) (g2,bc 0 cs2);have a:∀(A B:AV)(q:Nat)(v:AV),q≠t->ir (ir (ir st.slots t A) q v) t B=ir (ir st.slots t B) q v:=λA B q v hq=>by rw[ji _ hq,acm]
 simp only[AS.put,AS.mk.injEq,iU];rw[a _ _ _ _ hdt,a _ _ _ _ hdt',e,ji _ hdd];cases ha
theorem ZG (s:AS)(t:Nat):s.put (some t) (s.get t)=s:=by cases s with|mk slots boxes ep iss io=>simp only[AS.put,AS.mk.injEq,iU];rw[fP];apply cL;intro i;rw[bH];split;rename_i hd;subst hd;simp only[AS.get,ei];split;rename_i hlt;rw[al hlt];rfl;rename_i hge;rw[bG (Nat.le_of_not_lt hge)];rfl
theorem Vw {o:Oper}(hd:o.dst=some d)(hg:o.guard=none)(ho:(o.op=.move (.tmp t)/\an.mv.contains d=false/\an.fm.contains d=true)\/∃i,o.op=.extract (.tmp t) i)(_hdt:d≠t)(h:cI E Γ an ops X o st=some s): ∃tv v,s=(st.put (some t) tv).put (some d) v/\∀st2:AS,st2.get t=st.get t->cI E Γ an ops X o st2=some ((st2.put (some t) tv).put (some d) v):=by
 rcases ho with⟨ho,hmv,hfm⟩|⟨i,ho⟩;have hrd:∀st2:AS,st2.get t=st.get t->(st.rd (.tmp t)).lj=true->st2.rd (.tmp t)=st.get t:=by
  intro st2 hq hs;simp only[AS.rd,hq]at hs⊢;cases hv:st.get t with
  |tup vs=>rw[hv]at hs;simp[AV.borrow,AV.lj]at hs
  |val g cs=>
   rw[hv]at hs;simp only[AV.borrow,AV.lj]at hs⊢;congr 1;have key:∀(cs:aw AC)(j:Nat),(iK st.ep (λj=>kG.slot t j) j cs).all AC.lj=true->iK st2.ep (λj=>kG.slot t j) j cs=cs:=by
    intro cs;induction cs with
    |nil=>intro j _;rfl
    |cons c cs ih=>
     intro j h;simp only[iK,ch,ae]at h⊢;rw[ih (j+1) h.2];congr 1;cases c with
     |sl fl e xs=>cases fl with|holed _ _ ep=>cases ep<;>simp[AC.borrow,AC.lj]at h|_=>simp[AC.borrow,AC.lj]at h
     |_=>rfl
   exact key cs 0 hs
 unfold cI at h;have hst:(st.rd (.tmp t)).lj=true:=by cases hs:(st.rd (.tmp t)).lj with|true=>rfl|false=>simp only[dM,ho,V1,hd,hfm,hs]at h;cases h
 refine⟨st.get t,st.get t,?_,λst2 hq=>?_⟩;simp only[dM,ho,V1,hd,hfm,hst,ik,ah,gP,hg,cW,BM,hmv,bj,cu]at h;cases h;rw[hrd st rfl hst];congr 1;exact(ZG st t).symm;unfold cI;have e1:=hrd st2 hq hst;have hst2:(st2.rd (.tmp t)).lj=true:=by rw[e1,<-hrd st rfl hst];exact hst
 simp only[dM,ho,V1,hd,hfm,hst2,ik,ah,gP,hg,cW,BM,hmv,bj,cu];rw[e1,<-hq,ZG];obtain⟨vs,g,cs,hv,hn,hf,rfl⟩:=(Bx ho hd hg).1 h;refine⟨_,_,rfl,λst2 hq=>(Bx ho hd hg).2 ⟨vs,g,cs,by rw[hq,hv],hn,hf,rfl⟩⟩
theorem agT {p:Oper}{x:Nat}(hp:p.op=.store T (.tmp q) (.tmp x))(hd:p.dst=none)(hg:p.guard=none)(heb:(an.eb q).isSome=true)(hes:(an.es q).isNone=true)(hsb:(an.sb q).isNone=true)(hl:zT an p=false)(h:cI E Γ an ops Y p st=some s): ∃B,s=⟨ir st.slots x ((st.get x).bc st.ep),B,st.ep+1,st.iss,st.io⟩/\ ∀st2:AS,st2.get q=st.get q->st2.get x=st.get x->st2.boxes=st.boxes->st2.ep=st.ep->st2.iss=st.iss->st2.io=st.io-> cI E Γ an ops Y p st2=some ⟨ir st2.slots x ((st.get x).bc st.ep),B,st.ep+1,st.iss,st.io⟩:=by
 have hfree:∀st2:AS,st2.get q=st.get q->st2.ep=st.ep->dM E an Y p st2=dM E an Y p st:=by intro st2 h1 h2;simp only[dM,hp,AS.rd,h1,h2]
 unfold cI at h;cases hf:dM E an Y p st with
 |false=>rw[hf]at h;cases h
 |true=>
  rw[hf]at h;simp only[ah,gP,hg,cW,hp,hd,hl,bj,cu]at h;have hfr:=hf;simp only[dM,hp]at hfr;have hnn:((an.sb q).isNone&&(an.eb q).isNone&&(an.es q).isNone)=false:=by cases he:an.eb q with|none=>rw[he]at heb;cases heb|some _=>simp
  rw[hnn,cP]at hfr;unfold wK at h;split at h;rename_i hrd;rw[hrd]at hfr;simp only[ae,bm]at hfr;rw[hfr.2]at hsb;cases hsb;rename_i sh ep0 r tg e y i off hT hrd;rw[hrd]at hfr;cases r with
  |slot _ _=>simp only[ae,bm]at hfr;rw[hfr.1.1]at hes;cases hes
  |io _=>simp at hfr
  |box b j=>
   split at h;rename_i gg vs st1 htk;have e1:(st.get x)=.val gg vs:=by have:=congrArg Prod.fst htk;exact this
   have e2:st1=⟨ir st.slots x ((st.get x).bc st.ep),st.boxes,st.ep,st.iss,st.io⟩:=by have:=congrArg Prod.snd htk;exact this.symm
   split at h;rename_i hlen;have main:∃B,∀sl:aw AV,(⟨sl,st.boxes,st.ep,st.iss,st.io⟩:AS).pz (.box b j) tg e i off vs some=some ⟨sl,B,st.ep+1,st.iss,st.io⟩:=by
    subst e2;simp only[AS.pz,AS.fD,AS.fH,AS.eZ]at h⊢;cases hb:(nth st.boxes b).getD none with
    |none=>rw[hb]at h;simp at h
    |some cs=>
     rw[hb]at h;simp only[eT]at h⊢;split at h;rename_i t' e' xs hn;split at h;rename_i he;simp only[dif_pos he];generalize (he▸xs:aw e.D)=zs at h⊢;split at h;rename_i ht;simp only[aE ht];cases hi:idx zs i with|none=>rw[hi]at h;simp[aa]at h|some y0=>simp only[hi,aa]at h⊢;split at h;exact⟨_,λsl=>rfl⟩;cases h
     cases h;cases h;rename_i t' i' q0 e' xs hn;split at h;rename_i he;simp only[dif_pos he];generalize (he▸xs:aw e.D)=zs at h⊢;split at h;rename_i ht;simp only[aE ht];cases hi:aaQ zs i' i with|none=>rw[hi]at h;simp[aa]at h|some y0=>simp only[hi,aa]at h⊢;split at h;exact⟨_,λsl=>rfl⟩;cases h
     cases h;cases h;cases h
   obtain⟨B,hB⟩:=main;refine⟨B,?_,λst2 h1 h2 h3 h4 h5 h6=>?_⟩;subst e2;rw[hB]at h;exact(cc h).symm;unfold cI;rw[hfree st2 h1 h4,hf];have r2:st2.rd (.tmp q)=st.rd (.tmp q):=by simp only[AS.rd,h1,h4]
   have t2:st2.take (.tmp x)=(.val gg vs,⟨ir st2.slots x ((st.get x).bc st.ep),st.boxes,st.ep,st.iss,st.io⟩):=by simp only[AS.take,AS.put,h2,h3,h4,h5,h6,e1]
   simp only[ah,gP,hg,cW,hp,hd,hl,bj,cu,wK,hT,r2,hrd,t2];rw[aE hlen];exact hB _;cases h;cases h
  cases h
theorem adk {p:Oper}{x:Nat}(hp:p.op=.store T (.tmp q) (.tmp x))(hd:p.dst=none)(hg:p.guard=none)(hes:an.es q=some b)(heb:(an.eb q).isNone=true)(hbx:b≠x)(hsb:(an.sb q).isNone=true)(hl:zT an p=false)(h:cI E Γ an ops Y p st=some s): ∃B,s=⟨ir (ir st.slots x ((st.get x).bc st.ep)) b B,st.boxes,st.ep+1,st.iss,st.io⟩/\ ∀st2:AS,st2.get q=st.get q->st2.get x=st.get x->nth st2.slots b=nth st.slots b->st2.boxes=st.boxes->st2.ep=st.ep->st2.iss=st.iss->st2.io=st.io-> cI E Γ an ops Y p st2=some ⟨ir (ir st2.slots x ((st.get x).bc st.ep)) b B,st.boxes,st.ep+1,st.iss,st.io⟩:=by
 have hfree:∀st2:AS,st2.get q=st.get q->st2.ep=st.ep->dM E an Y p st2=dM E an Y p st:=by intro st2 h1 h2;simp only[dM,hp,AS.rd,h1,h2]
 unfold cI at h;cases hf:dM E an Y p st with
 |false=>rw[hf]at h;cases h
 |true=>
  rw[hf]at h;simp only[ah,gP,hg,cW,hp,hd,hl,bj,cu]at h;have hfr:=hf;simp only[dM,hp]at hfr;have hnn:((an.sb q).isNone&&(an.eb q).isNone&&(an.es q).isNone)=false:=by rw[hes];simp
  rw[hnn,cP]at hfr;unfold wK at h;split at h;rename_i hrd;rw[hrd]at hfr;simp only[ae,bm]at hfr;rw[hfr.2]at hsb;cases hsb;rename_i sh ep0 r tg e y i off hT hrd;rw[hrd]at hfr;cases r with
  |box _ _=>simp only[ae,bm]at hfr;rw[hfr.1.1]at heb;cases heb
  |io _=>simp at hfr
  |slot b' j=>
   simp only[ae,bm]at hfr;have hbb:b'=b:=cc (hfr.1.1.symm.trans hes);subst hbb;split at h;rename_i gg vs st1 htk;have e1:(st.get x)=.val gg vs:=by have:=congrArg Prod.fst htk;exact this
   have e2:st1=⟨ir st.slots x ((st.get x).bc st.ep),st.boxes,st.ep,st.iss,st.io⟩:=by have:=congrArg Prod.snd htk;exact this.symm
   split at h;rename_i hlen;have main:∃B,∀sl:aw AV,nth sl b'=nth st.slots b'->(⟨sl,st.boxes,st.ep,st.iss,st.io⟩:AS).pz (.slot b' j) tg e i off vs some=some ⟨ir sl b' B,st.boxes,st.ep+1,st.iss,st.io⟩:=by
    subst e2;have hget:∀sl:aw AV,nth sl b'=nth st.slots b'->(⟨sl,st.boxes,st.ep,st.iss,st.io⟩:AS).get b'=st.get b':=λsl hq=>by unfold AS.get;rw[hq]
    have hq0:nth (ir st.slots x ((st.get x).bc st.ep)) b'=nth st.slots b':=by rw[jI,aD (cR hbx)]
    simp only[AS.pz,AS.fD,AS.fH,hget _ hq0]at h;cases hb:st.get b' with
    |tup _=>rw[hb]at h;simp at h
    |val g0 cs=>
     rw[hb]at h;simp only at h;split at h;rename_i t' e' xs hn;split at h;rename_i he;split at h;rename_i ht;cases hi:idx (he▸xs:aw e.D) i with|none=>rw[hi]at h;simp[aa]at h|some y0=>simp only[hi,aa]at h;split at h;rename_i x' hx';refine⟨.val g0 (ir cs j (.sl (.own (some t')) e ((he▸xs:aw e.D).set i.toNat x'))),λsl hq=>?_⟩;simp only[AS.pz,AS.fD,AS.fH,hget _ hq,hb,hn,dif_pos he,aE ht,hi,aa,hx',AS.put];cases h
     cases h;cases h;rename_i t' i' q0 e' xs hn;split at h;rename_i he;split at h;rename_i ht;cases hi:aaQ (he▸xs:aw e.D) i' i with|none=>rw[hi]at h;simp[aa]at h|some y0=>simp only[hi,aa]at h;split at h;rename_i x' hx';refine⟨.val g0 (ir cs j (.sl (.own (some t')) e ((he▸xs:aw e.D).set i.toNat x'))),λsl hq=>?_⟩;simp only[AS.pz,AS.fD,AS.fH,hget _ hq,hb,hn,dif_pos he,aE ht,hi,aa,hx',AS.put];cases h
     cases h;cases h;cases h
   obtain⟨B,hB⟩:=main;refine⟨B,?_,λst2 h1 h2 hnb h3 h4 h5 h6=>?_⟩;subst e2;rw[hB _ (by rw[jI,aD (cR hbx)])]at h;exact(cc h).symm;unfold cI;rw[hfree st2 h1 h4,hf];have r2:st2.rd (.tmp q)=st.rd (.tmp q):=by simp only[AS.rd,h1,h4]
   have t2:st2.take (.tmp x)=(.val gg vs,⟨ir st2.slots x ((st.get x).bc st.ep),st.boxes,st.ep,st.iss,st.io⟩):=by simp only[AS.take,AS.put,h2,h3,h4,h5,h6,e1]
   simp only[ah,gP,hg,cW,hp,hd,hl,bj,cu,wK,hT,r2,hrd,t2];rw[aE hlen];exact hB _ (by rw[jI,aD (cR hbx)];exact hnb);cases h;cases h
  cases h
theorem agS {o p:Oper}(ha:WC an o p=true)(h1:cI E Γ an ops X o st=some s1)(h2:cI E Γ an ops Y p s1=some s2): ∃t1,cI E Γ an ops Y p st=some t1/\cI E Γ an ops X o t1=some s2:=by
 unfold WC at ha;split at ha;rename_i T q x hp hpd hpg;simp only[ae,aJ]at ha;obtain⟨⟨⟨heb,hsb⟩,hl⟩,ha⟩:=ha;have hcore:∃d t,o.dst=some d/\o.guard=none/\((o.op=.move (.tmp t)/\an.mv.contains d=false/\an.fm.contains d=true)\/∃i,o.op=.extract (.tmp t) i)/\d≠q/\d≠x/\t≠x/\d≠t/\t≠q:=by split at ha;rename_i t d ho hd hg;simp only[ae,aJ,cl]at ha;exact⟨d,t,hd,hg,.inl ⟨ho,ha.1.1.1.1.1.1,ha.1.1.1.1.1.2⟩,ha.1.1.1.1.2,ha.1.1.1.2,ha.1.1.2,ha.2,ha.1.2⟩;rename_i t i d ho hd hg;simp only[ae,aJ,cl]at ha;exact⟨d,t,hd,hg,.inr ⟨i,ho⟩,ha.1.1.1.1,ha.1.1.1.2,ha.1.1.2,ha.2,ha.1.2⟩;cases ha
 obtain⟨d,t,hd,hg,ho,hdq,hdx,htx,hdt,htq⟩:=hcore;obtain⟨tv,v,rfl,hrun⟩:=Vw hd hg ho hdt h1;have hq:((st.put (some t) tv).put (some d) v).get q=st.get q:=by rw[ud hdq];exact ud htq
 have hx:((st.put (some t) tv).put (some d) v).get x=st.get x:=by rw[ud hdx,ud htx]
 simp only[cQ,ae]at heb;rcases heb with⟨heb,hes⟩|hes;obtain⟨B,rfl,hgo⟩:=agT hp hpd hpg heb hes hsb hl h2;have k1:=hgo st hq.symm hx.symm rfl rfl rfl rfl;refine⟨_,k1,?_⟩;have hg2:(⟨ir st.slots x ((((st.put (some t) tv).put (some d) v).get x).bc ((st.put (some t) tv).put (some d) v).ep),B,((st.put (some t) tv).put (some d) v).ep+1,((st.put (some t) tv).put (some d) v).iss,((st.put (some t) tv).put (some d) v).io⟩:AS).get t=st.get t:=by simp only[AS.get,jI,aD (cR htx)]
 rw[hrun _ hg2];simp only[AS.put,br,AS.mk.injEq,iU];rw[ji _ (cR htx),ji _ (cR hdx)];cases hb:an.es q with
 |none=>rw[hb]at hes;cases hes
 |some b=>
  rw[hb]at hes;simp only[ae,aJ,cl]at hes;obtain⟨⟨⟨heb,hbx⟩,_⟩,hbw⟩:=hes;have hbw:=mr hbw b (by simp);have hbd:b≠d:=λe=>hbw (by simp[hd,e]);have hbt:b≠t:=λe=>hbw (by refine ay.2 (.inr ?_);rcases ho with⟨ho,_⟩|⟨i,ho⟩<;>simp[dW,ho,tm,e]);obtain⟨B,rfl,hgo⟩:=adk hp hpd hpg hb heb hbx hsb hl h2;have hnb:nth st.slots b=nth ((st.put (some t) tv).put (some d) v).slots b:=by simp only[AS.put,jI,aD (cR hbd),aD (cR hbt)]
  have k1:=hgo st hq.symm hx.symm hnb rfl rfl rfl rfl;refine⟨_,k1,?_⟩;have hg2:(⟨ir (ir st.slots x ((((st.put (some t) tv).put (some d) v).get x).bc ((st.put (some t) tv).put (some d) v).ep)) b B,((st.put (some t) tv).put (some d) v).boxes,((st.put (some t) tv).put (some d) v).ep+1,((st.put (some t) tv).put (some d) v).iss,((st.put (some t) tv).put (some d) v).io⟩:AS).get t=st.get t:=by simp only[AS.get,jI,aD (cR htx),aD hbt]
  rw[hrun _ hg2];simp only[AS.put,br,AS.mk.injEq,iU];rw[ji _ hbt,ji _ hbd,ji _ (cR htx),ji _ (cR hdx)]
 cases ha
theorem R4 {c:AC}(h:c.lj=true\/(c.borrow ep none).lj=true):c.borrow ep none=c:=by
 cases c with
 |sl fl e xs=>exfalso;cases fl with|holed _ _ ep=>cases ep<;>simp[AC.borrow,AC.lj]at h|_=>simp[AC.borrow,AC.lj]at h
 |_=>rfl
theorem M0 {cs:aw AC}{n:Nat}(hfit:off+n<=cs.length)(k:Nat):(eQ cs off (bc ep ((cs.drop off).take n)))[k]?=(cs[k]?).map λc=>if off<=k/\k<off+n then c.borrow ep none else c:=by
 have hl:(bc ep ((cs.drop off).take n)).length=n:=by simp[bc];omega
 unfold eQ;rw[hl];by_cases h1:k<off;rw[aZ,bD (by simp;omega),eD h1];have:(λc:AC=>if off<=k/\k<off+n then c.borrow ep none else c)=id:=by funext c;rw[nf];rfl
 rw[this,Option.map_id];rfl;by_cases h2:k<off+n;rw[bD (by simp[hl];omega),bA (by simp;omega)];have e:k-(cs.take off).length=k-off:=by simp;omega
 rw[e,bc,List.getElem?_map,eD (by omega),bU,show off+(k-off)=k by omega];congr 1;funext c;rw[zip];rw[bA (by simp[hl];omega)];have e:k-(cs.take off++bc ep ((cs.drop off).take n)).length=k-(off+n):=by simp[hl];omega
 rw[e,bU,show off+n+(k-(off+n))=k by omega];have:(λc:AC=>if off<=k/\k<off+n then c.borrow ep none else c)=id:=by funext c;rw[nf];rfl
 rw[this,Option.map_id];rfl
theorem Hq {cs:aw AC}{n o2 n2:Nat}(hfit:off+n<=cs.length)(h:((cs.drop o2).take n2).all AC.lj=true\/(((eQ cs off (bc ep ((cs.drop off).take n))).drop o2).take n2).all AC.lj=true): ((eQ cs off (bc ep ((cs.drop off).take n))).drop o2).take n2=(cs.drop o2).take n2:=by
 apply cL;intro k;by_cases hk:k<n2;rw[eD hk,eD hk,bU,bU,M0 hfit];cases hc:cs[o2+k]? with|none=>rfl|some c=>simp only[dB];split;rename_i hin;refine congrArg some (R4 ?_);rcases h with h|h;left;refine aG.1 h c (aX (i:=k) ?_);rw[eD hk,bU,hc];right;refine aG.1 h _ (aX (i:=k) ?_);rw[eD hk,bU,M0 hfit,hc,dB,aE hin];rfl
 rw[bG (by simp;omega),bG (by simp;omega)]
theorem IQ {b ep:Nat}:∀{cs:aw AC}{j:Nat},cs.all AC.lj=true->iK ep (.box b) j cs=cs
 |[],_,_=>rfl
 |c::cs,j,h=>by simp only[ch,ae]at h;rw[iK,IQ h.2];congr 1;cases c<;>first|rfl|(simp[AC.lj]at h)
theorem Ng {o:Oper}(h:Bt an o=true):∃T q d,o.op=.load T (.tmp q)/\o.dst=some d/\o.guard=none/\an.mv.contains d=true/\(an.mb d).isSome=true:=by unfold Bt at h;split at h;rename_i T q d ho hd hg;simp only[ae]at h;exact⟨T,q,d,ho,hd,hg,h.1,h.2⟩;cases h
theorem LC {o:Oper}(h:LB an o=true):∃T q d,o.op=.load T (.tmp q)/\o.dst=some d/\o.guard=none/\an.mv.contains d=false/\an.fm.contains d=true:=by unfold LB at h;split at h;rename_i T q d ho hd hg;simp only[ae,aJ]at h;exact⟨T,q,d,ho,hd,hg,h.1,h.2⟩;cases h
theorem ED {o:Oper}(ht:Bt an o=true)(ho:o.op=.load T (.tmp q))(hd:o.dst=some d)(hg:o.guard=none)(hmv:an.mv.contains d=true):cI E Γ an ops X o st=some s↔ ∃sh b off cs,jn E.ty T=some sh/\st.rd (.tmp q)=.val false [.ptr b off]/\(nth st.boxes b).getD none=some cs/\off+sh.ct.size<=cs.length/\X.contains b=false/\an.mb d=some b/\(V1 an o=true->Dm E T st b off=true)/\ s=(st.eZ b (some (eQ cs off (bc st.ep ((cs.drop off).take sh.ct.size))))).put (some d) (.val sh.agg ((cs.drop off).take sh.ct.size)):=by
 have key:dM E an X o st=true->∀r,cW E Γ an o st some=some r->∃b off,st.rd (.tmp q)=.val false [.ptr b off]:=by intro hf r hr;simp only[cW,ho,ph]at hr;split at hr;rename_i hp;exact⟨_,_,hp⟩;rename_i hp;simp only[dM,ho,hp,ht,ik,aj,ff,dN]at hf;cases hf;cases hr
 unfold cI;constructor;intro h;cases hf:dM E an X o st with|false=>rw[hf]at h;cases h|true=>rw[hf]at h;simp only[ah,gP,hg]at h;obtain⟨b,off,hp⟩:=key hf s h;simp only[dM,ho,hp,hd,hmv,aj,cP,ae,aJ,bm,cQ]at hf;simp only[cW,ho,ph,hp]at h;cases hT:jn E.ty T with|none=>rw[hT]at h;cases h|some sh=>rw[hT]at h;simp only at h;cases hb:(nth st.boxes b).getD none with|none=>rw[hb]at h;cases h|some cs=>rw[hb]at h;simp only at h;split at h;rename_i hfit;simp only[hd,hmv,cg]at h;cases h;refine⟨sh,b,off,cs,rfl,hp,hb,hfit,hf.1.1,hf.1.2,λhm=>?_,rfl⟩;rcases hf.2 with g|g;rw[hm]at g;cases g;exact g;cases h
 rintro⟨sh,b,off,cs,hT,hp,hb,hfit,hX,hmb,hfm,rfl⟩;have hf:dM E an X o st=true:=by simp only[dM,ho,hp,hd,hmv,hX,hmb,aj,cP,ae,aJ,bm,cQ];refine⟨⟨cx,cx⟩,?_⟩;cases hm:V1 an o with|false=>exact .inl rfl|true=>exact .inr (hfm hm)
 rw[hf];simp only[ah,gP,hg,cW,ho,ph,hp,hT,hb,aE hfit,hd,hmv,cg]
theorem El {o:Oper}(ho:o.op=.load T (.tmp q))(hd:o.dst=some d)(hg:o.guard=none)(hmv:an.mv.contains d=false)(hfm:an.fm.contains d=true):cI E Γ an ops X o st=some s↔ ∃sh b off cs,jn E.ty T=some sh/\st.rd (.tmp q)=.val false [.ptr b off]/\(nth st.boxes b).getD none=some cs/\off+sh.ct.size<=cs.length/\X.contains b=false/\((cs.drop off).take sh.ct.size).all AC.lj=true/\ s=st.put (some d) (.val sh.agg ((cs.drop off).take sh.ct.size)):=by
 have hfb:V1 an o=true:=by simp only[V1,hd,hfm]
 have key:dM E an X o st=true->∀r,cW E Γ an o st some=some r->∃b off,st.rd (.tmp q)=.val false [.ptr b off]:=by intro hf r hr;simp only[cW,ho,ph]at hr;split at hr;rename_i hp;exact⟨_,_,hp⟩;rename_i hp;simp only[dM,ho,hp,hfb,il,aj,ff,dN]at hf;cases hf;cases hr
 unfold cI;constructor;intro h;cases hf:dM E an X o st with
 |false=>rw[hf]at h;cases h
 |true=>
  rw[hf]at h;simp only[ah,gP,hg]at h;obtain⟨b,off,hp⟩:=key hf s h;simp only[dM,ho,hp,hd,hmv,hfb,aj,bz,il,cP,fV,ae,aJ]at hf;simp only[cW,ho,ph,hp]at h;cases hT:jn E.ty T with
  |none=>rw[hT]at h;cases h
  |some sh=>
   rw[hT]at h;simp only at h;cases hb:(nth st.boxes b).getD none with
   |none=>rw[hb]at h;cases h
   |some cs=>
    rw[hb]at h;simp only at h;split at h;rename_i hfit;have hst:((cs.drop off).take sh.ct.size).all AC.lj=true:=by have:=hf.2;unfold Dm at this;rw[hT,hb]at this;exact this
    simp only[hd,hmv,bj,cu,IQ hst]at h;cases h;exact⟨sh,b,off,cs,rfl,hp,hb,hfit,hf.1,hst,rfl⟩;cases h
 rintro⟨sh,b,off,cs,hT,hp,hb,hfit,hX,hst,rfl⟩;have hf:dM E an X o st=true:=by simp only[dM,ho,hp,hd,hmv,hX,hfb,Dm,hT,hb,hst];rfl
 rw[hf];simp only[ah,gP,hg,cW,ho,ph,hp,hT,hb,aE hfit,hd,hmv,bj,cu,IQ hst]
theorem Pc {v:AV}(h:d≠q):(st.put (some d) v).rd (.tmp q)=st.rd (.tmp q):=by simp only[AS.rd,ud h];rfl
theorem aeA {cs:az (aw AC)}:(st.eZ b cs).rd (.tmp q)=st.rd (.tmp q):=rfl
theorem Wg {cs x:aw AC}(h:(nth st.boxes b).getD none=some cs):(nth (ir st.boxes b (some x)) b).getD none=some x:=by
 rw[jI,aE rfl];cases hn:nth st.boxes b with
 |none=>rw[hn]at h;cases h
 |some _=>
  have:b<st.boxes.length:=by rw[ei]at hn;exact(aC.1 hn).1
  rw[aE this];rfl
theorem Wh {b2:Nat}{x:aw AC}(h:b≠b2):nth (ir st.boxes b (some x)) b2=nth st.boxes b2:=by rw[jI,aD h]
theorem ahA {o p:Oper}(ha:Xt an o p=true)(h1:cI E Γ an ops X o st=some s1)(h2:cI E Γ an ops Y p s1=some s2): ∃t1,cI E Γ an ops Y p st=some t1/\cI E Γ an ops X o t1=some s2:=by
 simp only[Xt,ae,cQ,aJ]at ha;obtain⟨⟨ha,m1⟩,m2⟩:=ha;have m1:=mr m1;have m2:=mr m2;rcases ha with⟨ht,hf⟩|⟨hf,ht⟩;obtain⟨T,q,d,ho,hd,hg,hmv,hmb⟩:=Ng ht;obtain⟨T2,q2,d2,hp,hd2,hg2,hmv2,hfm2⟩:=LC hf;have n1:d≠d2:=λe=>m1 d (by simp[hd]) (by simp[hd2,e]);have n2:d≠q2:=λe=>m1 d (by simp[hd]) (by simp[dW,hp,tm,e]);have n3:d2≠q:=λe=>m2 d2 (by simp[hd2]) (by simp[dW,ho,tm,e]);obtain⟨sh,b,off,cs,hT,hr,hb,hfit,hX,hmbe,hfm,rfl⟩:=(ED ht ho hd hg hmv).1 h1;obtain⟨sh2,b2,off2,cs2,hT2,hr2,hb2,hfit2,hX2,hst2,rfl⟩:=(El hp hd2 hg2 hmv2 hfm2).1 h2;rw[Pc n2,aeA]at hr2;have hbx:(nth (ir st.boxes b (some (eQ cs off (bc st.ep ((cs.drop off).take sh.ct.size))))) b2).getD none=some cs2:=hb2;have hfin:∃cs0,(nth st.boxes b2).getD none=some cs0/\off2+sh2.ct.size<=cs0.length/\(cs2.drop off2).take sh2.ct.size=(cs0.drop off2).take sh2.ct.size:=by
  by_cases hbb:b=b2;subst hbb;rw[Wg hb]at hbx;cases hbx;have hlen:(eQ cs off (bc st.ep ((cs.drop off).take sh.ct.size))).length=cs.length:=by simp only[eQ,bc,ai,bP,aV,aK];omega
  exact⟨cs,hb,by omega,Hq hfit (.inr hst2)⟩;rw[Wh hbb]at hbx;exact⟨cs2,hbx,hfit2,rfl⟩
 obtain⟨cs0,hb0,hfit0,he⟩:=hfin;rw[he]at hst2⊢;refine⟨_,(El hp hd2 hg2 hmv2 hfm2).2 ⟨sh2,b2,off2,cs0,hT2,hr2,hb0,hfit0,hX2,hst2,rfl⟩,(ED ht ho hd hg hmv).2 ⟨sh,b,off,cs,hT,by rw[Pc n3];exact hr,hb,hfit,hX,hmbe,λhm=>?_,?_⟩⟩;have:=hfm hm;unfold Dm at this⊢;exact this;simp only[AS.put,AS.eZ,AS.mk.injEq,iU];exact ji _ n1 _ _;obtain⟨T,q,d,ho,hd,hg,hmv,hfm⟩:=LC hf;obtain⟨T2,q2,d2,hp,hd2,hg2,hmv2,hmb2⟩:=Ng ht;have n1:d≠d2:=λe=>m1 d (by simp[hd]) (by simp[hd2,e]);have n2:d≠q2:=λe=>m1 d (by simp[hd]) (by simp[dW,hp,tm,e]);have n3:d2≠q:=λe=>m2 d2 (by simp[hd2]) (by simp[dW,ho,tm,e]);obtain⟨sh,b,off,cs,hT,hr,hb,hfit,hX,hst,rfl⟩:=(El ho hd hg hmv hfm).1 h1;obtain⟨sh2,b2,off2,cs2,hT2,hr2,hb2,hfit2,hX2,hmbe,hfm2,rfl⟩:=(ED ht hp hd2 hg2 hmv2).1 h2;rw[Pc n2]at hr2;refine⟨_,(ED ht hp hd2 hg2 hmv2).2 ⟨sh2,b2,off2,cs2,hT2,hr2,hb2,hfit2,hX2,hmbe,λhm=>hfm2 hm,rfl⟩,?_⟩;have hfin:∃cs0,(nth (ir st.boxes b2 (some (eQ cs2 off2 (bc st.ep ((cs2.drop off2).take sh2.ct.size))))) b).getD none=some cs0/\off+sh.ct.size<=cs0.length/\(cs0.drop off).take sh.ct.size=(cs.drop off).take sh.ct.size:=by
  by_cases hbb:b2=b;subst hbb;have hcs:cs2=cs:=cc (hb2.symm.trans hb);subst hcs;have hlen:(eQ cs2 off2 (bc st.ep ((cs2.drop off2).take sh2.ct.size))).length=cs2.length:=by simp only[eQ,bc,ai,bP,aV,aK];omega
  exact⟨_,Wg hb,by omega,Hq hfit2 (.inl hst)⟩;exact⟨cs,by rw[Wh hbb];exact hb,hfit,rfl⟩
 obtain⟨cs0,hb0,hfit0,he⟩:=hfin;refine(El ho hd hg hmv hfm).2 ⟨sh,b,off,cs0,hT,by rw[Pc n3,aeA];exact hr,hb0,hfit0,hX,by rw[he];exact hst,?_⟩;rw[he];simp only[AS.put,AS.eZ,AS.mk.injEq,iU];exact ji _ n1 _ _
theorem Nf {o:Oper}(ht:D1 an o=true)(ho:o.op=.load T (.tmp q))(hd:o.dst=some d)(hg:o.guard=none)(hmv:an.mv.contains d=true)(hmb:an.mb d=none):cI E Γ an ops X o st=some s↔ ∃(g:Bool)(e:CT)(offs:aw (Nat×Nat))(b j t ep0:Nat)(x:e.D)(i:Int)(cs:aw AC)(ys:aw e.D)(y:e.D),jn E.ty T=some ⟨g,e,offs⟩/\st.rd (.tmp q)=.val false [.elt (.loc ep0 (some (.box b j,t))) e x i 0]/\(nth st.boxes b).getD none=some cs/\nth cs j=some (.sl (.own (some t)) e ys)/\idx ys i=some y/\ X.contains b=false/\an.eb q=some b/\V1 an o=false/\s=(Hz st b j t e i cs ys).put (some d) (.val g (cellsOf e (.own none) y)):=by rw[<-Nd ht ho hd hmv hmb];unfold cI;cases dM E an X o st with|false=>simp|true=>simp only[ah,gP,hg,cW,ho,true_and]
theorem ab0 {o:Oper}(h:AQ an o=true):∃T q d,o.op=.load T (.tmp q)/\o.dst=some d/\o.guard=none/\an.mv.contains d=false/\V1 an o=false:=by unfold AQ at h;split at h;rename_i T q d ho hd hg;simp only[ae,aJ]at h;exact⟨T,q,d,ho,hd,hg,h.1.1,by simp only[V1,hd];exact h.1.2⟩;cases h
theorem My {o:Oper}(hpl:AQ an o=true)(ho:o.op=.load T (.tmp q))(hd:o.dst=some d)(hg:o.guard=none)(hmv:an.mv.contains d=false)(hfm:V1 an o=false):cI E Γ an ops X o st=some s↔ ∃sh b off cs,jn E.ty T=some sh/\st.rd (.tmp q)=.val false [.ptr b off]/\(nth st.boxes b).getD none=some cs/\off+sh.ct.size<=cs.length/\X.contains b=false/\ s=st.put (some d) (.val sh.agg (iK st.ep (.box b) off ((cs.drop off).take sh.ct.size))):=by
 unfold cI;constructor;intro h;cases hf:dM E an X o st with|false=>rw[hf]at h;cases h|true=>rw[hf]at h;simp only[ah,gP,hg,cW,ho]at h;unfold ph at h;split at h;rename_i sh b off hT hp;simp only[dM,ho,hp,hd,hmv,hfm,bz,il,fV,aJ]at hf;split at h;rename_i cs hb;split at h;rename_i hfit;simp only[hd,hmv,bj,cu]at h;cases h;exact⟨sh,b,off,cs,hT,hp,hb,hfit,hf,rfl⟩;cases h;cases h;rename_i hp;simp only[dM,ho,hp,hpl,aj,ff,dN]at hf;cases hf;cases h
 rintro⟨sh,b,off,cs,hT,hp,hb,hfit,hX,rfl⟩;have hf:dM E an X o st=true:=by simp only[dM,ho,hp,hd,hmv,hX,hfm];rfl
 rw[hf];simp only[ah,gP,hg,cW,ho,ph,hp,hT,hb,aE hfit,hd,hmv,bj,cu]
theorem KL {ep b:Nat}:∀(cs:aw AC)(p k:Nat)(c':AC),(∀c,cs[k]?=some c->∀r,c'.borrow ep (some r)=c.borrow ep (some r))->iK ep (.box b) p (cs.set k c')=iK ep (.box b) p cs
 |[],_,_,_,_=>rfl
 |c::cs,p,0,c',h=>by simp only[List.set_cons_zero,iK,h c rfl]
 |c::cs,p,k+1,c',h=>by simp only[List.set_cons_succ,iK];rw[KL cs (p+1) k c' (λc hc=>h c (by simpa using hc))]
theorem Ss {j n:Nat}{e:CT}{i:Int}{ys:aw e.D}{cs:aw AC}(hj:nth cs j=some (.sl (.own (some t)) e ys)): iK ep (.box b) off (((ir cs j (.sl (.holed (some t) i (some ep)) e ys)).drop off).take n)=iK ep (.box b) off ((cs.drop off).take n):=by rw[fP,List.drop_set];split;rfl;rename_i hlt;rw[List.take_set];refine KL _ _ _ _ λc hc r=>?_;by_cases hn:j-off<n;rw[eD hn,bU,show off+(j-off)=j by omega,<-ei,hj]at hc;cases hc;rfl;rw[bG (by simp;omega)]at hc;cases hc
theorem agH {o p:Oper}(ha:Wm an o p=true)(h1:cI E Γ an ops X o st=some s1)(h2:cI E Γ an ops Y p s1=some s2): ∃t1,cI E Γ an ops Y p st=some t1/\cI E Γ an ops X o t1=some s2:=by
 simp only[Wm,ae,aJ]at ha;obtain⟨⟨⟨hpl,ht⟩,m1⟩,m2⟩:=ha;have m1:=mr m1;have m2:=mr m2;obtain⟨T,q,d,ho,hd,hg,hmv,hfm⟩:=ab0 hpl;obtain⟨T2,q2,d2,hp,hd2,hg2,hmv2,hmb2⟩:=PC ht;have n1:d≠d2:=λe=>m1 d (by simp[hd]) (by simp[hd2,e]);have n2:d≠q2:=λe=>m1 d (by simp[hd]) (by simp[dW,hp,tm,e]);have n3:d2≠q:=λe=>m2 d2 (by simp[hd2]) (by simp[dW,ho,tm,e]);obtain⟨sh,b,off,cs,hT,hr,hb,hfit,hX,rfl⟩:=(My hpl ho hd hg hmv hfm).1 h1;obtain⟨g,e,offs,b2,j,t,ep0,x,i,cs2,ys,y,hT2,hr2,hb2,hj,hi,hX2,heb,hfm2,rfl⟩:=(Nf ht hp hd2 hg2 hmv2 hmb2).1 h2;rw[Pc n2]at hr2;have hb2':(nth st.boxes b2).getD none=some cs2:=hb2;refine⟨_,(Nf ht hp hd2 hg2 hmv2 hmb2).2 ⟨g,e,offs,b2,j,t,ep0,x,i,cs2,ys,y,hT2,hr2,hb2',hj,hi,hX2,heb,hfm2,rfl⟩,?_⟩;have hfin:∃cs0,(nth (ir st.boxes b2 (some (ir cs2 j (.sl (.holed (some t) i (some st.ep)) e ys)))) b).getD none=some cs0/\off+sh.ct.size<=cs0.length/\iK st.ep (.box b) off ((cs0.drop off).take sh.ct.size)=iK st.ep (.box b) off ((cs.drop off).take sh.ct.size):=by by_cases hbb:b2=b;subst hbb;have hcs:cs2=cs:=cc (hb2'.symm.trans hb);subst hcs;exact⟨_,Wg hb,by rw[fP,aB];exact hfit,Ss hj⟩;exact⟨cs,by rw[Wh hbb];exact hb,hfit,rfl⟩
 obtain⟨cs0,hb0,hfit0,he⟩:=hfin;refine(My hpl ho hd hg hmv hfm).2 ⟨sh,b,off,cs0,hT,by rw[Pc n3];exact hr,hb0,hfit0,hX,?_⟩;show _=((Hz st b2 j t e i cs2 ys).put (some d2) _).put (some d) (.val sh.agg (iK st.ep (.box b) off ((cs0.drop off).take sh.ct.size)));rw[he];simp only[AS.put,Hz,AS.eZ,AS.mk.injEq,iU];exact ji _ n1 _ _
def NS (E:Env)(Γ:dK)(an:An)(ops:aw Oper)(X:Nat->fu):fu->AS->az AS
 |[],st=>some st
 |i::r,st=>match nth ops i with
  |some o=>(cI E Γ an ops (X i) o st).bind (NS E Γ an ops X r)
  |none=>none
theorem MQ (hΓ:∀f,(Γ f).io=false/\((Γ f).bx=true->(Γ f).cur=true)/\(Γ f).pr=false){X:Nat->fu}{i:Nat}{oi:Oper}(hi:nth ops i=some oi):∀(pre post:fu)(st r:AS),(∀j∈pre,∀oj,nth ops j=some oj->KF an ops (X j) (X i) oj oi=true)->
 NS E Γ an ops X (pre++i::post) st=some r->NS E Γ an ops X (i::(pre++post)) st=some r
 |[],post,st,r,_,h=>h
 |j::pre,post,st,r,ha,h=>by
  simp only[List.cons_append,NS]at h;cases hj:nth ops j with
  |none=>rw[hj]at h;cases h
  |some oj=>
   rw[hj]at h;simp only at h;obtain⟨s1,h1,h2⟩:=aU.1 h;have h3:=MQ hΓ hi pre post s1 r (λk hk=>ha k (by simp[hk])) h2;simp only[NS,hi]at h3;obtain⟨s2,h4,h5⟩:=aU.1 h3;have hap:=ha j (by simp) oj hj;obtain⟨t1,k1,k2⟩:∃t1,cI E Γ an ops (X i) oi st=some t1/\cI E Γ an ops (X j) oj t1=some s2:=by cases hx:aev an oj oi with|false=>rw[KF,hx,cP]at hap;exact Yk hΓ hap h1 h4|true=>simp only[aev,cQ]at hx;rcases hx with((hx|hx)|hx)|hx;exact ads hx h1 h4;exact agS hx h1 h4;exact ahA hx h1 h4;exact agH hx h1 h4
   simp only[NS,hi,k1,eT,List.cons_append,hj,k2];exact h5
end Go.Dn
