import Derived.Test.YtfbhfnniblfpbaaGreatDnUpd
/- Operations that are apart may change places. -/
namespace Go.Dn
variable {E:Env} {Γ:xg} {an:An} {ops:au Oper}
variable {s s1 s2 st:AS} {d ep off t:Nat} {α:Type} {T:TypeId} {X Y:dI}
def cv (E:Env)(Γ:xg)(an:An)(ops:au Oper)(X:dI)(o:Oper)(st:AS):aw AS:=
 bif dg E an X o st then fY E Γ an ops o st some else none
structure Sa (an:An) (ops:List Oper) (X:List Nat) (o:Oper) (st st2:AS):Prop where
 base:gz an X o st st2
 gd:∀t∈Gc an ops o,st2.get t=st.get t
theorem VF {b:Bool}(h:st.get d=.val false [.bool b]):st.put (some d) (.one (.bool b))=st:=by cases st with|mk slots boxes ep iss io=>simp only[AS.put,AS.mk.injEq,gR];rw[eJ];apply cI;intro i;rw[bk];split;rename_i hd;subst hd;simp only[AS.get,dv]at h;split;rename_i gq;rw[al gq]at h⊢;simp only[eY]at h;rw[h];rename_i zX;rw[bE (Nat.le_of_not_lt zX)];rfl
theorem Sy {st2:AS}{s:Nat}(h:nth st2.boxes s=nth st.boxes s):F9 E T st2 s off=F9 E T st s off:=by unfold F9;rw[h]
theorem Ix {o:Oper}{st2:AS}(ha:gz an X o st st2):dg E an X o st2=dg E an X o st:=by
 unfold dg;split;rename_i ho;rw[ha.rd (λt ht=>by simpa[dj,ho]using ht)];rename_i T p ho;rw[ha.rd (λt ht=>by simp[dj,ho,ht]),ha.ep];rename_i ho;rw[ha.rd (λt ht=>by simp[dj,ho,ht]),ha.ep];rename_i f args ts ho;have hcur:tS an X (erS an o) st2 args.toList=tS an X (erS an o) st args.toList:=by
  have hl:∀x∈args.toList,∀t∈tm x,t∈dj o:=by intro x hx t ht;simp only[dj,ho,ay,Qw,List.mem_flatMap];exact .inr ⟨x,hx,ht⟩
  generalize args.toList=l at hl;cases l with
  |nil=>rfl
  |cons x xs=>
   have Cm:xs.all (J6 (erS an o) st2)=xs.all (J6 (erS an o) st):=by
    rw[eT];simp only[aW];have e:∀y∈xs,J6 (erS an o) st2 y=J6 (erS an o) st y:=by intro y hy;cases y with|tmp t=>have hg:=ha.get t (hl (.tmp t) (by simp[hy]) t (by simp[tm]));simp only[J6,hg]|const v=>rfl|func v=>rfl|global v=>rfl
    exact⟨λg y hy=>by rw[<-e y hy];exact g y hy,λg y hy=>by rw[e y hy];exact g y hy⟩
   have hr:=ha.rd (hl x (by simp));cases x with
   |tmp q=>
    simp only[tS,hr];generalize st.rd (.tmp q)=v;unfold acQ;rw[Cm];split;rename_i s off;cases hX:X.contains s with|true=>simp|false=>rw[ha.box s hX]
    rfl
   |const v=>simp only[tS,hr]
   |func v=>simp only[tS,hr]
   |global v=>simp only[tS,hr]
 rw[hcur];congr 1;rw[eT];simp only[aW];constructor;intro hx x hm;have:=hx x hm;rwa[ha.rd (λt ht=>by simp only[dj,ho,ay,Qw,List.mem_flatMap];exact .inr ⟨x,hm,ht⟩),ha.ep]at this;intro hx x hm;rw[ha.rd (λt ht=>by simp only[dj,ho,ay,Qw,List.mem_flatMap];exact .inr ⟨x,hm,ht⟩),ha.ep];exact hx x hm;rename_i ho;rw[ha.rd (λt ht=>by simpa[dj,ho]using ht),ha.ep];split;rename_i s off _;cases hX:X.contains s with|true=>rfl|false=>rw[Sy (ha.box s hX)]
 rfl;rfl;rename_i ho;rw[ha.rd (λt ht=>by simp only[dj,ho,ay];exact .inl ht)];rename_i ho;rw[ha.get _ (by simp[dj,ho])];rfl
theorem Mm (zw:∀f,(Γ f).io=false/\((Γ f).bx=true->(Γ f).cur=true)/\(Γ f).pr=false){o:Oper}{st':AS}(hm:nB an o=true)(h:cv E Γ an ops X o st=some st'): ∃u:KD,u.Ij an o/\st'=u.apply st/\∀st2,Sa an ops X o st st2->cv E Γ an ops X o st2=some (u.apply st2):=by
 unfold cv at h;cases hf:dg E an X o st with
 |false=>rw[hf]at h;cases h
 |true=>
  rw[hf]at h;simp only[af]at h;unfold fY at h;split at h;rename_i hg;obtain⟨u,h1,h2,h3⟩:=Pk (X:=X) zw hm hf h;refine⟨u,h1,h2,λst2 ha=>?_⟩;unfold cv;rw[Ix ha.base,hf];simp only[af,fY,hg];exact h3 st2 ha.base;rename_i j I0 hg;split at h;rename_i d hd;have tU:d∈Gc an ops o:=by simp[Gc,hg,hd]
  split at h;rename_i b hb;have hgo:(if(b==I0)=true then cU E Γ an o st some else some (st.put o.dst (.one .un)))=some st':=by cases b<;>simpa only[af,ae,VF hb]using h
  have h2g:∀st2,Sa an ops X o st st2->cv E Γ an ops X o st2=(if(b==I0)=true then cU E Γ an o st2 some else some (st2.put o.dst (.one .un))):=by
   intro st2 ha;have FN:st2.get d=.val false [.bool b]:=by rw[ha.gd d tU];exact hb
   unfold cv;rw[Ix ha.base,hf];simp only[af,fY,hg,hd,FN];cases b<;>simp only[af,ae,VF FN]
  split at hgo;rename_i hw;obtain⟨u,h1,h2,h3⟩:=Pk (X:=X) zw hm hf hgo;exact⟨u,h1,h2,λst2 ha=>by rw[h2g st2 ha,aF hw];exact h3 st2 ha.base⟩;rename_i hw;cases hgo;exact⟨E7 o (.one .un),Dd _,by rw[sL],λst2 ha=>by rw[h2g st2 ha,aE hw,sL]⟩;rename_i hb;cases h;refine⟨E7 o (.one .un),Dd _,by rw[sL],λst2 ha=>?_⟩;have FN:st2.get d=.val false [.un]:=by rw[ha.gd d tU];exact hb
  unfold cv;rw[Ix ha.base,hf,sL];simp only[af,fY,hg,hd,FN];cases h;cases h
theorem iQ (l:au α){i j:Nat}(h:i≠j)(v w:α):gG (gG l i v) j w=gG (gG l j w) i v:=by rw[eJ,eJ,eJ,eJ,List.set_comm _ _ h]
theorem Yq (l:au AV)(a:au (Nat×AV)){i:Nat}(v:AV)(h:∀x∈a,x.1≠i):jK (gG l i v) a=gG (jK l a) i v:=by induction a generalizing l with|nil=>rfl|cons x a ih=>simp only[jK];rw[iQ _ (cD (h x (by simp))),ih _ (λy hy=>h y (by simp[hy]))]
theorem VC (l:au AV)(a b:au (Nat×AV))(h:∀x∈a,∀y∈b,x.1≠y.1):jK (jK l a) b=jK (jK l b) a:=by induction b generalizing l with|nil=>rfl|cons y b ih=>simp only[jK];rw[<-Yq l a y.2 (λx hx=>h x hx y (by simp)),ih _ (λx hx z hz=>h x hx z (by simp[hz]))]
theorem Qj (l:au AV)(a:au (Nat×AV))(h:∀x∈a,x.1≠t):nth (jK l a) t=nth l t:=by induction a generalizing l with|nil=>rfl|cons x a ih=>rw[jK,ih _ (λy hy=>h y (by simp[hy])),jm,aE (h x (by simp))]
theorem lR {a b:dI}(h:meets a b=false):∀x∈a,x∉b:=by intro x hx hb;unfold meets at h;rw[List.any_eq_false]at h;exact h x hx (by simpa using hb)
theorem KD.sN {u:KD}{o p:Oper}(hw:u.Ij an o)(h1:∀x∈writes an o,x∉dj p++Gc an ops p++writes an p)(h2:∀d∈GV an o,Y.contains d=true)(h3:∀d∈GV an o,p.dst≠some d): Sa an ops Y p (u.apply st) st/\Sa an ops Y p st (u.apply st):=by
 have gE:∀t,t∈dj p++Gc an ops p++writes an p->(u.apply st).get t=st.get t:=by intro t ht;unfold AS.get;have:nth (u.apply st).slots t=nth st.slots t:=Qj _ _ (λx hx he=>h1 _ (hw.slots x hx) (by rw[he];exact ht));rw[this]
 have aaJ:∀d,p.dst=some d->nth (u.apply st).iss d=nth st.iss d/\nth (u.apply st).boxes d=nth st.boxes d:=by
  intro d hd;have Xy:d∈dj p++Gc an ops p++writes an p:=by simp[writes,hd]
  have Ea:o.dst≠some d:=λhe=>h1 d (by simp[writes,he]) Xy;constructor;unfold KD.apply;cases hi:u.iss with|none=>rfl|some k=>simp only;rw[jm,aE];rintro rfl;exact Ea (hw.iss _ hi)
  unfold KD.apply;cases hi:u.box with|none=>rfl|some k=>simp only;rw[jm,aE];intro he;exact h3 _ (hw.box k hi) (by rw[he];exact hd)
 have ahZ:∀s,Y.contains s=false->nth (u.apply st).boxes s=nth st.boxes s:=by intro s hs;unfold KD.apply;cases hi:u.box with|none=>rfl|some k=>simp only;rw[jm,aE];rintro rfl;have:=h2 k.1 (hw.box k hi);rw[this]at hs;cases hs
 have hlen:(u.apply st).slots.length=st.slots.length:=OT _ _;exact⟨⟨⟨hlen.symm,λt ht=>(gE t (by simp[ht])).symm,rfl,λd hd=>⟨((aaJ d hd).1).symm,((aaJ d hd).2).symm⟩,λs hs=>(ahZ s hs).symm,λt ht=>(gE t (by simp[Gc,ht])).symm⟩,λt ht=>(gE t (by simp[ht])).symm⟩,⟨⟨hlen,λt ht=>gE t (by simp[ht]),rfl,aaJ,ahZ,λt ht=>gE t (by simp[Gc,ht])⟩,λt ht=>gE t (by simp[ht])⟩⟩
theorem WZ {u v:KD}{o p:Oper}(hu:u.Ij an o)(hv:v.Ij an p)(h:∀x∈writes an o,x∉writes an p)(hb:∀x∈GV an o,x∉GV an p):v.apply (u.apply st)=u.apply (v.apply st):=by
 have SA:∀a b,o.dst=some a->p.dst=some b->a≠b:=λa b ha hb he=>h a (by simp[writes,ha]) (by simp[writes,hb,he]);have hs:=VC st.slots u.slots v.slots (λx hx y hy he=>h _ (hu.slots x hx) (by rw[he];exact hv.slots y hy));simp only[KD.apply,AS.mk.injEq,true_and,gR];refine⟨hs,?_,?_⟩;cases hub:u.box with|none=>cases v.box<;>rfl|some k=>cases hvb:v.box with|none=>rfl|some l=>exact iQ _ (λhe=>hb _ (hu.box k hub) (by rw[he];exact hv.box l hvb)) _ _
 cases hui:u.iss with|none=>cases v.iss<;>rfl|some k=>cases hvi:v.iss with|none=>rfl|some l=>exact iQ _ (SA _ _ (hu.iss k hui) (hv.iss l hvi)) _ _
theorem YQ (zw:∀f,(Γ f).io=false/\((Γ f).bx=true->(Γ f).cur=true)/\(Γ f).pr=false){o p:Oper}(ha:WX an ops X Y o p=true)(h1:cv E Γ an ops X o st=some s1)(h2:cv E Γ an ops Y p s1=some s2): ∃t1,cv E Γ an ops Y p st=some t1/\cv E Γ an ops X o t1=some s2:=by
 simp only[WX,ah,aO,aW]at ha;obtain⟨⟨⟨⟨⟨⟨⟨mo,mp⟩,w1⟩,w2⟩,b1⟩,b2⟩,b3⟩,b4⟩:=ha;have w1:=lR w1;have w2:=lR w2;have b3:=lR b3;have b4:=lR b4;obtain⟨u,hu,rfl,hu2⟩:=Mm zw mo h1;obtain⟨v,hv,rfl,LV⟩:=Mm zw mp h2;have ag1:=KD.sN (ops:=ops) (p:=p) (Y:=Y) (st:=st) hu w1 b1 (λd hd he=>b3 d hd (by simp[he]));have hww:∀x∈writes an p,x∉dj o++Gc an ops o++writes an o:=by intro x hx hm;rcases ay.1 hm with hm|hm;exact w2 x hx hm;exact w1 x hm (by simp[hx])
 have ag2:=KD.sN (ops:=ops) (p:=o) (Y:=X) (st:=st) hv hww b2 (λd hd he=>b4 d hd (by simp[he]));refine⟨v.apply st,LV st ag1.1,?_⟩;rw[hu2 _ ag2.2,WZ hu hv (λx hx hm=>w1 x hx (by simp[hm])) (λx hx hm=>b3 x hx (by simp[hm]))]
theorem Jk {v w:AV}(h:st.get t=v)(hv:v≠ .bot):(st.put (some t) w).get t=w:=by
 unfold AS.get at h;cases hn:nth st.slots t with
 |none=>rw[hn]at h;exact absurd h.symm hv
 |some q=>
  have hl:t<st.slots.length:=by rw[dv]at hn;exact(aD.1 hn).1
  unfold AS.get AS.put;simp only[dv,eJ];rw[List.getElem?_set_self hl];rfl
theorem uH {w:AV}(h:d≠t):(st.put (some d) w).get t=st.get t:=by unfold AS.get AS.put;simp only[jm,aE h]
theorem Dq {o:Oper}{i:Nat}(ho:o.op=.extract (.tmp t) i)(hd:o.dst=some d)(hg:o.guard=none):cv E Γ an ops X o st=some s↔ ∃vs g cs,st.get t=.vq vs/\nth vs i=some (g,cs)/\(cs.all AC.fS||an.mv.contains d)=true/\s=(st.put (some t) (.vq (gG vs i (g,aS 0 cs)))).put (some d) (.val g cs):=by
 unfold cv;simp only[dg,ho,hd];constructor;intro h;cases hv:st.get t with|val g cs=>simp only[hv,af,fY,hg,cU,ho,lG]at h;cases h|vq vs=>simp only[hv]at h;cases hn:nth vs i with|none=>simp only[hn,af,fY,hg,cU,ho,lG,hv]at h;cases h|some x=>obtain⟨g,cs⟩:=x;simp only[hn]at h;cases hf:(cs.all AC.fS||an.mv.contains d)with|false=>rw[hf]at h;cases h|true=>rw[hf]at h;simp only[af,fY,hg,cU,ho,lG,hv,hn,hd]at h;cases h;exact⟨vs,g,cs,rfl,hn,hf,rfl⟩
 rintro⟨vs,g,cs,hv,hn,hf,rfl⟩;simp only[hv,hn,hf,af,fY,hg,cU,ho,lG,hd]
theorem abX (l:au α)(i:Nat)(v w:α):gG (gG l i v) i w=gG l i w:=by rw[eJ,eJ,eJ,List.set_set]
theorem ac7 {o p:Oper}(ha:Xq o p=true)(h1:cv E Γ an ops X o st=some s1)(h2:cv E Γ an ops Y p s1=some s2): ∃t1,cv E Γ an ops Y p st=some t1/\cv E Γ an ops X o t1=some s2:=by
 unfold Xq at ha;split at ha;rename_i t i t' j d d' ho hp hd Xy hg mI;simp only[ah,bC,aO,cy,ne_eq]at ha;obtain⟨⟨⟨⟨rfl,hij⟩,SA⟩,hdt⟩,ah2⟩:=ha;obtain⟨vs,g,cs,hv,hn,hf,rfl⟩:=(Dq ho hd hg).1 h1;obtain⟨vs2,g2,FR,LV,B8,Hh,rfl⟩:=(Dq hp Xy mI).1 h2;have hq:((st.put (some t) (.vq (gG vs i (g,aS 0 cs)))).put (some d) (.val g cs)).get t=.vq (gG vs i (g,aS 0 cs)):=by rw[uH hdt,Jk hv (by simp)]
 rw[hq]at LV;cases LV;rw[jm,aE hij]at B8;refine⟨_,(Dq hp Xy mI).2 ⟨vs,g2,FR,hv,B8,Hh,rfl⟩,(Dq ho hd hg).2 ⟨gG vs j (g2,aS 0 FR),g,cs,?_,?_,hf,?_⟩⟩;rw[uH ah2,Jk hv (by simp)];rw[jm,aE (cD hij)];exact hn;have e:=iQ vs hij (g,aS 0 cs) (g2,aS 0 FR);have a:∀(A B:AV)(q:Nat)(v:AV),q≠t->gG (gG (gG st.slots t A) q v) t B=gG (gG st.slots t B) q v:=λA B q v hq=>by rw[iQ _ hq,abX]
 simp only[AS.put,AS.mk.injEq,gR];rw[a _ _ _ _ hdt,a _ _ _ _ ah2,e,iQ _ SA];cases ha
theorem ZS (s:AS)(t:Nat):s.put (some t) (s.get t)=s:=by cases s with|mk slots boxes ep iss io=>simp only[AS.put,AS.mk.injEq,gR];rw[eJ];apply cI;intro i;rw[bk];split;rename_i hd;subst hd;simp only[AS.get,dv];split;rename_i gq;rw[al gq];rfl;rename_i zX;rw[bE (Nat.le_of_not_lt zX)];rfl
theorem VU {o:Oper}(hd:o.dst=some d)(hg:o.guard=none)(ho:(o.op=.move (.tmp t)/\an.mv.contains d=false/\an.fm.contains d=true)\/∃i,o.op=.extract (.tmp t) i)(_hdt:d≠t)(h:cv E Γ an ops X o st=some s): ∃tv v,s=(st.put (some t) tv).put (some d) v/\∀st2:AS,st2.get t=st.get t->cv E Γ an ops X o st2=some ((st2.put (some t) tv).put (some d) v):=by
 rcases ho with⟨ho,Fl,MZ⟩|⟨i,ho⟩;have Jr:∀st2:AS,st2.get t=st.get t->(st.rd (.tmp t)).kS=true->st2.rd (.tmp t)=st.get t:=by
  intro st2 hq hs;simp only[AS.rd,hq]at hs⊢;cases hv:st.get t with
  |vq vs=>rw[hv]at hs;simp[AV.borrow,AV.kS]at hs
  |val g cs=>
   rw[hv]at hs;simp only[AV.borrow,AV.kS]at hs⊢;congr 1;have key:∀(cs:au AC)(j:Nat),(ib st.ep (λj=>ka.slot t j) j cs).all AC.kS=true->ib st2.ep (λj=>ka.slot t j) j cs=cs:=by
    intro cs;induction cs with
    |nil=>intro j _;rfl
    |cons c cs ih=>
     intro j h;simp only[ib,bO,ah]at h⊢;rw[ih (j+1) h.2];congr 1;cases c with
     |sl fl e xs=>cases fl with|eQ _ _ ep=>cases ep<;>simp[AC.borrow,AC.kS]at h|_=>simp[AC.borrow,AC.kS]at h
     |_=>rfl
   exact key cs 0 hs
 unfold cv at h;have lf:(st.rd (.tmp t)).kS=true:=by cases hs:(st.rd (.tmp t)).kS with|true=>rfl|false=>simp only[dg,ho,WH,hd,MZ,hs]at h;cases h
 refine⟨st.get t,st.get t,?_,λst2 hq=>?_⟩;simp only[dg,ho,WH,hd,MZ,lf,Bool.or_true,af,fY,hg,cU,DF,Fl,aY,bV]at h;cases h;rw[Jr st rfl lf];congr 1;exact(ZS st t).symm;unfold cv;have e1:=Jr st2 hq lf;have SM:(st2.rd (.tmp t)).kS=true:=by rw[e1,<-Jr st rfl lf];exact lf
 simp only[dg,ho,WH,hd,MZ,SM,Bool.or_true,af,fY,hg,cU,DF,Fl,aY,bV];rw[e1,<-hq,ZS];obtain⟨vs,g,cs,hv,hn,hf,rfl⟩:=(Dq ho hd hg).1 h;refine⟨_,_,rfl,λst2 hq=>(Dq ho hd hg).2 ⟨vs,g,cs,by rw[hq,hv],hn,hf,rfl⟩⟩
theorem aff {p:Oper}{q x:Nat}(hp:p.op=.store T (.tmp q) (.tmp x))(hd:p.dst=none)(hg:p.guard=none)(SB:(an.eb q).isSome=true)(hes:(an.es q).isNone=true)(hsb:(an.sb q).isNone=true)(hl:Bu an p=false)(h:cv E Γ an ops Y p st=some s): ∃B,s=⟨gG st.slots x ((st.get x).aS st.ep),B,st.ep+1,st.iss,st.io⟩/\ ∀st2:AS,st2.get q=st.get q->st2.get x=st.get x->st2.boxes=st.boxes->st2.ep=st.ep->st2.iss=st.iss->st2.io=st.io-> cv E Γ an ops Y p st2=some ⟨gG st2.slots x ((st.get x).aS st.ep),B,st.ep+1,st.iss,st.io⟩:=by
 have fP:∀st2:AS,st2.get q=st.get q->st2.ep=st.ep->dg E an Y p st2=dg E an Y p st:=by intro st2 h1 h2;simp only[dg,hp,AS.rd,h1,h2]
 unfold cv at h;cases hf:dg E an Y p st with
 |false=>rw[hf]at h;cases h
 |true=>
  rw[hf]at h;simp only[af,fY,hg,cU,hp,hd,hl,aY,bV]at h;have gw:=hf;simp only[dg,hp]at gw;have IB:((an.sb q).isNone&&(an.eb q).isNone&&(an.es q).isNone)=false:=by cases he:an.eb q with|none=>rw[he]at SB;cases SB|some _=>simp
  rw[IB,cH]at gw;unfold xH at h;split at h;rename_i Jr;rw[Jr]at gw;simp only[ah,bC]at gw;rw[gw.2]at hsb;cases hsb;rename_i sh NI r tg e y i off hT Jr;rw[Jr]at gw;cases r with
  |slot _ _=>simp only[ah,bC]at gw;rw[gw.1.1]at hes;cases hes
  |io _=>simp at gw
  |box b j=>
   split at h;rename_i gg vs st1 sX;have e1:(st.get x)=.val gg vs:=by have:=congrArg Prod.fst sX;exact this
   have e2:st1=⟨gG st.slots x ((st.get x).aS st.ep),st.boxes,st.ep,st.iss,st.io⟩:=by have:=congrArg Prod.snd sX;exact this.symm
   split at h;rename_i hlen;have main:∃B,∀sl:au AV,(⟨sl,st.boxes,st.ep,st.iss,st.io⟩:AS).pc (.box b j) tg e i off vs some=some ⟨sl,B,st.ep+1,st.iss,st.io⟩:=by
    subst e2;simp only[AS.pc,AS.ew,AS.eI,AS.ed]at h⊢;cases hb:(nth st.boxes b).getD none with
    |none=>rw[hb]at h;simp at h
    |some cs=>
     rw[hb]at h;simp only[dX]at h⊢;split at h;rename_i t' e' xs hn;split at h;rename_i he;simp only[dif_pos he];generalize (he▸xs:au e.D)=zs at h⊢;split at h;rename_i ht;simp only[aF ht];cases hi:idx zs i with|none=>rw[hi]at h;simp[aa]at h|some y0=>simp only[hi,aa]at h⊢;split at h;exact⟨_,λsl=>rfl⟩;cases h
     cases h;cases h;rename_i t' i' q0 e' xs hn;split at h;rename_i he;simp only[dif_pos he];generalize (he▸xs:au e.D)=zs at h⊢;split at h;rename_i ht;simp only[aF ht];cases hi:aaP zs i' i with|none=>rw[hi]at h;simp[aa]at h|some y0=>simp only[hi,aa]at h⊢;split at h;exact⟨_,λsl=>rfl⟩;cases h
     cases h;cases h;cases h
   obtain⟨B,hB⟩:=main;refine⟨B,?_,λst2 h1 h2 h3 h4 h5 h6=>?_⟩;subst e2;rw[hB]at h;exact(cx h).symm;unfold cv;rw[fP st2 h1 h4,hf];have r2:st2.rd (.tmp q)=st.rd (.tmp q):=by simp only[AS.rd,h1,h4]
   have t2:st2.take (.tmp x)=(.val gg vs,⟨gG st2.slots x ((st.get x).aS st.ep),st.boxes,st.ep,st.iss,st.io⟩):=by simp only[AS.take,AS.put,h2,h3,h4,h5,h6,e1]
   simp only[af,fY,hg,cU,hp,hd,hl,aY,bV,xH,hT,r2,Jr,t2];rw[aF hlen];exact hB _;cases h;cases h
  cases h
theorem acU {p:Oper}{q x:Nat}(hp:p.op=.store T (.tmp q) (.tmp x))(hd:p.dst=none)(hg:p.guard=none){b:Nat}(hes:an.es q=some b)(SB:(an.eb q).isNone=true)(jq:b≠x)(hsb:(an.sb q).isNone=true)(hl:Bu an p=false)(h:cv E Γ an ops Y p st=some s): ∃B,s=⟨gG (gG st.slots x ((st.get x).aS st.ep)) b B,st.boxes,st.ep+1,st.iss,st.io⟩/\ ∀st2:AS,st2.get q=st.get q->st2.get x=st.get x->nth st2.slots b=nth st.slots b->st2.boxes=st.boxes->st2.ep=st.ep->st2.iss=st.iss->st2.io=st.io-> cv E Γ an ops Y p st2=some ⟨gG (gG st2.slots x ((st.get x).aS st.ep)) b B,st.boxes,st.ep+1,st.iss,st.io⟩:=by
 have fP:∀st2:AS,st2.get q=st.get q->st2.ep=st.ep->dg E an Y p st2=dg E an Y p st:=by intro st2 h1 h2;simp only[dg,hp,AS.rd,h1,h2]
 unfold cv at h;cases hf:dg E an Y p st with
 |false=>rw[hf]at h;cases h
 |true=>
  rw[hf]at h;simp only[af,fY,hg,cU,hp,hd,hl,aY,bV]at h;have gw:=hf;simp only[dg,hp]at gw;have IB:((an.sb q).isNone&&(an.eb q).isNone&&(an.es q).isNone)=false:=by rw[hes];simp
  rw[IB,cH]at gw;unfold xH at h;split at h;rename_i Jr;rw[Jr]at gw;simp only[ah,bC]at gw;rw[gw.2]at hsb;cases hsb;rename_i sh NI r tg e y i off hT Jr;rw[Jr]at gw;cases r with
  |box _ _=>simp only[ah,bC]at gw;rw[gw.1.1]at SB;cases SB
  |io _=>simp at gw
  |slot b' j=>
   simp only[ah,bC]at gw;have Xv:b'=b:=cx (gw.1.1.symm.trans hes);subst Xv;split at h;rename_i gg vs st1 sX;have e1:(st.get x)=.val gg vs:=by have:=congrArg Prod.fst sX;exact this
   have e2:st1=⟨gG st.slots x ((st.get x).aS st.ep),st.boxes,st.ep,st.iss,st.io⟩:=by have:=congrArg Prod.snd sX;exact this.symm
   split at h;rename_i hlen;have main:∃B,∀sl:au AV,nth sl b'=nth st.slots b'->(⟨sl,st.boxes,st.ep,st.iss,st.io⟩:AS).pc (.slot b' j) tg e i off vs some=some ⟨gG sl b' B,st.boxes,st.ep+1,st.iss,st.io⟩:=by
    subst e2;have gE:∀sl:au AV,nth sl b'=nth st.slots b'->(⟨sl,st.boxes,st.ep,st.iss,st.io⟩:AS).get b'=st.get b':=λsl hq=>by unfold AS.get;rw[hq]
    have hq0:nth (gG st.slots x ((st.get x).aS st.ep)) b'=nth st.slots b':=by rw[jm,aE (cD jq)]
    simp only[AS.pc,AS.ew,AS.eI,gE _ hq0]at h;cases hb:st.get b' with
    |vq _=>rw[hb]at h;simp at h
    |val g0 cs=>
     rw[hb]at h;simp only at h;split at h;rename_i t' e' xs hn;split at h;rename_i he;split at h;rename_i ht;cases hi:idx (he▸xs:au e.D) i with|none=>rw[hi]at h;simp[aa]at h|some y0=>simp only[hi,aa]at h;split at h;rename_i x' zY;refine⟨.val g0 (gG cs j (.sl (.own (some t')) e ((he▸xs:au e.D).set i.toNat x'))),λsl hq=>?_⟩;simp only[AS.pc,AS.ew,AS.eI,gE _ hq,hb,hn,dif_pos he,aF ht,hi,aa,zY,AS.put];cases h
     cases h;cases h;rename_i t' i' q0 e' xs hn;split at h;rename_i he;split at h;rename_i ht;cases hi:aaP (he▸xs:au e.D) i' i with|none=>rw[hi]at h;simp[aa]at h|some y0=>simp only[hi,aa]at h;split at h;rename_i x' zY;refine⟨.val g0 (gG cs j (.sl (.own (some t')) e ((he▸xs:au e.D).set i.toNat x'))),λsl hq=>?_⟩;simp only[AS.pc,AS.ew,AS.eI,gE _ hq,hb,hn,dif_pos he,aF ht,hi,aa,zY,AS.put];cases h
     cases h;cases h;cases h
   obtain⟨B,hB⟩:=main;refine⟨B,?_,λst2 h1 h2 sO h3 h4 h5 h6=>?_⟩;subst e2;rw[hB _ (by rw[jm,aE (cD jq)])]at h;exact(cx h).symm;unfold cv;rw[fP st2 h1 h4,hf];have r2:st2.rd (.tmp q)=st.rd (.tmp q):=by simp only[AS.rd,h1,h4]
   have t2:st2.take (.tmp x)=(.val gg vs,⟨gG st2.slots x ((st.get x).aS st.ep),st.boxes,st.ep,st.iss,st.io⟩):=by simp only[AS.take,AS.put,h2,h3,h4,h5,h6,e1]
   simp only[af,fY,hg,cU,hp,hd,hl,aY,bV,xH,hT,r2,Jr,t2];rw[aF hlen];exact hB _ (by rw[jm,aE (cD jq)];exact sO);cases h;cases h
  cases h
theorem afe {o p:Oper}(ha:Xh an o p=true)(h1:cv E Γ an ops X o st=some s1)(h2:cv E Γ an ops Y p s1=some s2): ∃t1,cv E Γ an ops Y p st=some t1/\cv E Γ an ops X o t1=some s2:=by
 unfold Xh at ha;split at ha;rename_i T q x hp hpd hpg;simp only[ah,aO]at ha;obtain⟨⟨⟨SB,hsb⟩,hl⟩,ha⟩:=ha;have ah0:∃d t,o.dst=some d/\o.guard=none/\((o.op=.move (.tmp t)/\an.mv.contains d=false/\an.fm.contains d=true)\/∃i,o.op=.extract (.tmp t) i)/\d≠q/\d≠x/\t≠x/\d≠t/\t≠q:=by split at ha;rename_i t d ho hd hg;simp only[ah,aO,cy]at ha;exact⟨d,t,hd,hg,.inl ⟨ho,ha.1.1.1.1.1.1,ha.1.1.1.1.1.2⟩,ha.1.1.1.1.2,ha.1.1.1.2,ha.1.1.2,ha.2,ha.1.2⟩;rename_i t i d ho hd hg;simp only[ah,aO,cy]at ha;exact⟨d,t,hd,hg,.inr ⟨i,ho⟩,ha.1.1.1.1,ha.1.1.1.2,ha.1.1.2,ha.2,ha.1.2⟩;cases ha
 obtain⟨d,t,hd,hg,ho,hdq,hdx,htx,hdt,htq⟩:=ah0;obtain⟨tv,v,rfl,dA⟩:=VU hd hg ho hdt h1;have hq:((st.put (some t) tv).put (some d) v).get q=st.get q:=by rw[uH hdq];exact uH htq
 have hx:((st.put (some t) tv).put (some d) v).get x=st.get x:=by rw[uH hdx,uH htx]
 simp only[cX,ah]at SB;rcases SB with⟨SB,hes⟩|hes;obtain⟨B,rfl,hgo⟩:=aff hp hpd hpg SB hes hsb hl h2;have k1:=hgo st hq.symm hx.symm rfl rfl rfl rfl;refine⟨_,k1,?_⟩;have IA:(⟨gG st.slots x ((((st.put (some t) tv).put (some d) v).get x).aS ((st.put (some t) tv).put (some d) v).ep),B,((st.put (some t) tv).put (some d) v).ep+1,((st.put (some t) tv).put (some d) v).iss,((st.put (some t) tv).put (some d) v).io⟩:AS).get t=st.get t:=by simp only[AS.get,jm,aE (cD htx)]
 rw[dA _ IA];simp only[AS.put,aZ,AS.mk.injEq,gR];rw[iQ _ (cD htx),iQ _ (cD hdx)];cases hb:an.es q with
 |none=>rw[hb]at hes;cases hes
 |some b=>
  rw[hb]at hes;simp only[ah,aO,cy]at hes;obtain⟨⟨⟨SB,jq⟩,_⟩,hbw⟩:=hes;have hbw:=lR hbw b (by simp);have hbd:b≠d:=λe=>hbw (by simp[hd,e]);have hbt:b≠t:=λe=>hbw (by refine ay.2 (.inr ?_);rcases ho with⟨ho,_⟩|⟨i,ho⟩<;>simp[dj,ho,tm,e]);obtain⟨B,rfl,hgo⟩:=acU hp hpd hpg hb SB jq hsb hl h2;have sO:nth st.slots b=nth ((st.put (some t) tv).put (some d) v).slots b:=by simp only[AS.put,jm,aE (cD hbd),aE (cD hbt)]
  have k1:=hgo st hq.symm hx.symm sO rfl rfl rfl rfl;refine⟨_,k1,?_⟩;have IA:(⟨gG (gG st.slots x ((((st.put (some t) tv).put (some d) v).get x).aS ((st.put (some t) tv).put (some d) v).ep)) b B,((st.put (some t) tv).put (some d) v).boxes,((st.put (some t) tv).put (some d) v).ep+1,((st.put (some t) tv).put (some d) v).iss,((st.put (some t) tv).put (some d) v).io⟩:AS).get t=st.get t:=by simp only[AS.get,jm,aE (cD htx),aE hbt]
  rw[dA _ IA];simp only[AS.put,aZ,AS.mk.injEq,gR];rw[iQ _ hbt,iQ _ hbd,iQ _ (cD htx),iQ _ (cD hdx)]
 cases ha
theorem TE {c:AC}(h:c.kS=true\/(c.borrow ep none).kS=true):c.borrow ep none=c:=by
 cases c with
 |sl fl e xs=>exfalso;cases fl with|eQ _ _ ep=>cases ep<;>simp[AC.borrow,AC.kS]at h|_=>simp[AC.borrow,AC.kS]at h
 |_=>rfl
theorem Ph {cs:au AC}{n:Nat}(gk:off+n<=cs.length)(k:Nat):(cS cs off (aS ep ((cs.drop off).take n)))[k]?=(cs[k]?).map λc=>if off<=k/\k<off+n then c.borrow ep none else c:=by
 have hl:(aS ep ((cs.drop off).take n)).length=n:=by simp[aS];omega
 unfold cS;rw[hl];by_cases h1:k<off;rw[aP,bA (by simp;omega),dY h1];have:(λc:AC=>if off<=k/\k<off+n then c.borrow ep none else c)=id:=by funext c;rw[mG];rfl
 rw[this,Option.map_id];rfl;by_cases h2:k<off+n;rw[bA (by simp[hl];omega),bq (by simp;omega)];have e:k-(cs.take off).length=k-off:=by simp;omega
 rw[e,aS,List.getElem?_map,dY (by omega),bH,show off+(k-off)=k by omega];congr 1;funext c;rw[zip];rw[bq (by simp[hl];omega)];have e:k-(cs.take off++aS ep ((cs.drop off).take n)).length=k-(off+n):=by simp[hl];omega
 rw[e,bH,show off+n+(k-(off+n))=k by omega];have:(λc:AC=>if off<=k/\k<off+n then c.borrow ep none else c)=id:=by funext c;rw[mG];rfl
 rw[this,Option.map_id];rfl
theorem Km {cs:au AC}{n o2 n2:Nat}(gk:off+n<=cs.length)(h:((cs.drop o2).take n2).all AC.kS=true\/(((cS cs off (aS ep ((cs.drop off).take n))).drop o2).take n2).all AC.kS=true): ((cS cs off (aS ep ((cs.drop off).take n))).drop o2).take n2=(cs.drop o2).take n2:=by
 apply cI;intro k;by_cases hk:k<n2;rw[dY hk,dY hk,bH,bH,Ph gk];cases hc:cs[o2+k]? with|none=>rfl|some c=>simp only[cY];split;rename_i tU;refine congrArg some (TE ?_);rcases h with h|h;left;refine aW.1 h c (cL (i:=k) ?_);rw[dY hk,bH,hc];right;refine aW.1 h _ (cL (i:=k) ?_);rw[dY hk,bH,Ph gk,hc,cY,aF tU];rfl
 rw[bE (by simp;omega),bE (by simp;omega)]
theorem Lv {b:Nat}:∀{cs:au AC}{j:Nat},cs.all AC.kS=true->ib ep (.box b) j cs=cs
 |[],_,_=>rfl
 |c::cs,j,h=>by simp only[bO,ah]at h;rw[ib,Lv h.2];congr 1;cases c<;>first|rfl|(simp[AC.kS]at h)
theorem Pt {o:Oper}(h:Dc an o=true):∃T q d,o.op=.load T (.tmp q)/\o.dst=some d/\o.guard=none/\an.mv.contains d=true/\(an.mb d).isSome=true:=by unfold Dc at h;split at h;rename_i T q d ho hd hg;simp only[ah]at h;exact⟨T,q,d,ho,hd,hg,h.1,h.2⟩;cases h
theorem NV {o:Oper}(h:NU an o=true):∃T q d,o.op=.load T (.tmp q)/\o.dst=some d/\o.guard=none/\an.mv.contains d=false/\an.fm.contains d=true:=by unfold NU at h;split at h;rename_i T q d ho hd hg;simp only[ah,aO]at h;exact⟨T,q,d,ho,hd,hg,h.1,h.2⟩;cases h
theorem HE {o:Oper}{q:Nat}(ht:Dc an o=true)(ho:o.op=.load T (.tmp q))(hd:o.dst=some d)(hg:o.guard=none)(Fl:an.mv.contains d=true):cv E Γ an ops X o st=some s↔ ∃sh b off cs,iH E.ty T=some sh/\st.rd (.tmp q)=.val false [.ptr b off]/\(nth st.boxes b).getD none=some cs/\off+sh.ct.size<=cs.length/\X.contains b=false/\an.mb d=some b/\(WH an o=true->F9 E T st b off=true)/\ s=(st.ed b (some (cS cs off (aS st.ep ((cs.drop off).take sh.ct.size))))).put (some d) (.val sh.agg ((cs.drop off).take sh.ct.size)):=by
 have key:dg E an X o st=true->∀r,cU E Γ an o st some=some r->∃b off,st.rd (.tmp q)=.val false [.ptr b off]:=by intro hf r hr;simp only[cU,ho,oW]at hr;split at hr;rename_i hp;exact⟨_,_,hp⟩;rename_i hp;simp only[dg,ho,hp,ht,Bool.or_true,ai,js,gv]at hf;cases hf;cases hr
 unfold cv;constructor;intro h;cases hf:dg E an X o st with|false=>rw[hf]at h;cases h|true=>rw[hf]at h;simp only[af,fY,hg]at h;obtain⟨b,off,hp⟩:=key hf s h;simp only[dg,ho,hp,hd,Fl,ai,cH,ah,aO,bC,cX]at hf;simp only[cU,ho,oW,hp]at h;cases hT:iH E.ty T with|none=>rw[hT]at h;cases h|some sh=>rw[hT]at h;simp only at h;cases hb:(nth st.boxes b).getD none with|none=>rw[hb]at h;cases h|some cs=>rw[hb]at h;simp only at h;split at h;rename_i gk;simp only[hd,Fl,bN]at h;cases h;refine⟨sh,b,off,cs,rfl,hp,hb,gk,hf.1.1,hf.1.2,λhm=>?_,rfl⟩;rcases hf.2 with g|g;rw[hm]at g;cases g;exact g;cases h
 rintro⟨sh,b,off,cs,hT,hp,hb,gk,hX,WM,MZ,rfl⟩;have hf:dg E an X o st=true:=by simp only[dg,ho,hp,hd,Fl,hX,WM,ai,cH,ah,aO,bC,cX];refine⟨⟨df,df⟩,?_⟩;cases hm:WH an o with|false=>exact .inl rfl|true=>exact .inr (MZ hm)
 rw[hf];simp only[af,fY,hg,cU,ho,oW,hp,hT,hb,aF gk,hd,Fl,bN]
theorem Hb {o:Oper}{q:Nat}(ho:o.op=.load T (.tmp q))(hd:o.dst=some d)(hg:o.guard=none)(Fl:an.mv.contains d=false)(MZ:an.fm.contains d=true):cv E Γ an ops X o st=some s↔ ∃sh b off cs,iH E.ty T=some sh/\st.rd (.tmp q)=.val false [.ptr b off]/\(nth st.boxes b).getD none=some cs/\off+sh.ct.size<=cs.length/\X.contains b=false/\((cs.drop off).take sh.ct.size).all AC.kS=true/\ s=st.put (some d) (.val sh.agg ((cs.drop off).take sh.ct.size)):=by
 have hfb:WH an o=true:=by simp only[WH,hd,MZ]
 have key:dg E an X o st=true->∀r,cU E Γ an o st some=some r->∃b off,st.rd (.tmp q)=.val false [.ptr b off]:=by intro hf r hr;simp only[cU,ho,oW]at hr;split at hr;rename_i hp;exact⟨_,_,hp⟩;rename_i hp;simp only[dg,ho,hp,hfb,jE,ai,js,gv]at hf;cases hf;cases hr
 unfold cv;constructor;intro h;cases hf:dg E an X o st with
 |false=>rw[hf]at h;cases h
 |true=>
  rw[hf]at h;simp only[af,fY,hg]at h;obtain⟨b,off,hp⟩:=key hf s h;simp only[dg,ho,hp,hd,Fl,hfb,ai,bR,jE,cH,gQ,ah,aO]at hf;simp only[cU,ho,oW,hp]at h;cases hT:iH E.ty T with
  |none=>rw[hT]at h;cases h
  |some sh=>
   rw[hT]at h;simp only at h;cases hb:(nth st.boxes b).getD none with
   |none=>rw[hb]at h;cases h
   |some cs=>
    rw[hb]at h;simp only at h;split at h;rename_i gk;have lf:((cs.drop off).take sh.ct.size).all AC.kS=true:=by have:=hf.2;unfold F9 at this;rw[hT,hb]at this;exact this
    simp only[hd,Fl,aY,bV,Lv lf]at h;cases h;exact⟨sh,b,off,cs,rfl,hp,hb,gk,hf.1,lf,rfl⟩;cases h
 rintro⟨sh,b,off,cs,hT,hp,hb,gk,hX,lf,rfl⟩;have hf:dg E an X o st=true:=by simp only[dg,ho,hp,hd,Fl,hX,hfb,F9,hT,hb,lf];rfl
 rw[hf];simp only[af,fY,hg,cU,ho,oW,hp,hT,hb,aF gk,hd,Fl,aY,bV,Lv lf]
theorem RB {q:Nat}{v:AV}(h:d≠q):(st.put (some d) v).rd (.tmp q)=st.rd (.tmp q):=by simp only[AS.rd,uH h];rfl
theorem aen {q b:Nat}{cs:aw (au AC)}:(st.ed b cs).rd (.tmp q)=st.rd (.tmp q):=rfl
theorem W5 {b:Nat}{cs x:au AC}(h:(nth st.boxes b).getD none=some cs):(nth (gG st.boxes b (some x)) b).getD none=some x:=by
 rw[jm,aF rfl];cases hn:nth st.boxes b with
 |none=>rw[hn]at h;cases h
 |some _=>
  have:b<st.boxes.length:=by rw[dv]at hn;exact(aD.1 hn).1
  rw[aF this];rfl
theorem W6 {b b2:Nat}{x:au AC}(h:b≠b2):nth (gG st.boxes b (some x)) b2=nth st.boxes b2:=by rw[jm,aE h]
theorem afJ {o p:Oper}(ha:X5 an o p=true)(h1:cv E Γ an ops X o st=some s1)(h2:cv E Γ an ops Y p s1=some s2): ∃t1,cv E Γ an ops Y p st=some t1/\cv E Γ an ops X o t1=some s2:=by
 simp only[X5,ah,cX,aO]at ha;obtain⟨⟨ha,m1⟩,m2⟩:=ha;have m1:=lR m1;have m2:=lR m2;rcases ha with⟨ht,hf⟩|⟨hf,ht⟩;obtain⟨T,q,d,ho,hd,hg,Fl,WM⟩:=Pt ht;obtain⟨T2,q2,d2,hp,WK,IA,UM,aaL⟩:=NV hf;have n1:d≠d2:=λe=>m1 d (by simp[hd]) (by simp[WK,e]);have n2:d≠q2:=λe=>m1 d (by simp[hd]) (by simp[dj,hp,tm,e]);have n3:d2≠q:=λe=>m2 d2 (by simp[WK]) (by simp[dj,ho,tm,e]);obtain⟨sh,b,off,cs,hT,hr,hb,gk,hX,ahb,MZ,rfl⟩:=(HE ht ho hd hg Fl).1 h1;obtain⟨sh2,b2,Qi,FR,hT2,P4,FN,Zv,hX2,SM,rfl⟩:=(Hb hp WK IA UM aaL).1 h2;rw[RB n2,aen]at P4;have jq:(nth (gG st.boxes b (some (cS cs off (aS st.ep ((cs.drop off).take sh.ct.size))))) b2).getD none=some FR:=FN;have la:∃PN,(nth st.boxes b2).getD none=some PN/\Qi+sh2.ct.size<=PN.length/\(FR.drop Qi).take sh2.ct.size=(PN.drop Qi).take sh2.ct.size:=by
  by_cases Xv:b=b2;subst Xv;rw[W5 hb]at jq;cases jq;have hlen:(cS cs off (aS st.ep ((cs.drop off).take sh.ct.size))).length=cs.length:=by simp only[cS,aS,ar,cj,bn,bh];omega
  exact⟨cs,hb,by omega,Km gk (.inr SM)⟩;rw[W6 Xv]at jq;exact⟨FR,jq,Zv,rfl⟩
 obtain⟨PN,TU,UI,he⟩:=la;rw[he]at SM⊢;refine⟨_,(Hb hp WK IA UM aaL).2 ⟨sh2,b2,Qi,PN,hT2,P4,TU,UI,hX2,SM,rfl⟩,(HE ht ho hd hg Fl).2 ⟨sh,b,off,cs,hT,by rw[RB n3];exact hr,hb,gk,hX,ahb,λhm=>?_,?_⟩⟩;have:=MZ hm;unfold F9 at this⊢;exact this;simp only[AS.put,AS.ed,AS.mk.injEq,gR];exact iQ _ n1 _ _;obtain⟨T,q,d,ho,hd,hg,Fl,MZ⟩:=NV hf;obtain⟨T2,q2,d2,hp,WK,IA,UM,aha⟩:=Pt ht;have n1:d≠d2:=λe=>m1 d (by simp[hd]) (by simp[WK,e]);have n2:d≠q2:=λe=>m1 d (by simp[hd]) (by simp[dj,hp,tm,e]);have n3:d2≠q:=λe=>m2 d2 (by simp[WK]) (by simp[dj,ho,tm,e]);obtain⟨sh,b,off,cs,hT,hr,hb,gk,hX,lf,rfl⟩:=(Hb ho hd hg Fl MZ).1 h1;obtain⟨sh2,b2,Qi,FR,hT2,P4,FN,Zv,hX2,ahb,aaL,rfl⟩:=(HE ht hp WK IA UM).1 h2;rw[RB n2]at P4;refine⟨_,(HE ht hp WK IA UM).2 ⟨sh2,b2,Qi,FR,hT2,P4,FN,Zv,hX2,ahb,λhm=>aaL hm,rfl⟩,?_⟩;have la:∃PN,(nth (gG st.boxes b2 (some (cS FR Qi (aS st.ep ((FR.drop Qi).take sh2.ct.size))))) b).getD none=some PN/\off+sh.ct.size<=PN.length/\(PN.drop off).take sh.ct.size=(cs.drop off).take sh.ct.size:=by
  by_cases Xv:b2=b;subst Xv;have KS:FR=cs:=cx (FN.symm.trans hb);subst KS;have hlen:(cS FR Qi (aS st.ep ((FR.drop Qi).take sh2.ct.size))).length=FR.length:=by simp only[cS,aS,ar,cj,bn,bh];omega
  exact⟨_,W5 hb,by omega,Km Zv (.inl lf)⟩;exact⟨cs,by rw[W6 Xv];exact hb,gk,rfl⟩
 obtain⟨PN,TU,UI,he⟩:=la;refine(Hb ho hd hg Fl MZ).2 ⟨sh,b,off,PN,hT,by rw[RB n3,aen];exact hr,TU,UI,hX,by rw[he];exact lf,?_⟩;rw[he];simp only[AS.put,AS.ed,AS.mk.injEq,gR];exact iQ _ n1 _ _
theorem Ps {o:Oper}{q:Nat}(ht:GR an o=true)(ho:o.op=.load T (.tmp q))(hd:o.dst=some d)(hg:o.guard=none)(Fl:an.mv.contains d=true)(WM:an.mb d=none):cv E Γ an ops X o st=some s↔ ∃(g:Bool)(e:CT)(jJ:au (Nat×Nat))(b j t NI:Nat)(x:e.D)(i:Int)(cs:au AC)(ys:au e.D)(y:e.D),iH E.ty T=some ⟨g,e,jJ⟩/\st.rd (.tmp q)=.val false [.Cg (.loc NI (some (.box b j,t))) e x i 0]/\(nth st.boxes b).getD none=some cs/\nth cs j=some (.sl (.own (some t)) e ys)/\idx ys i=some y/\ X.contains b=false/\an.eb q=some b/\WH an o=false/\s=(Kv st b j t e i cs ys).put (some d) (.val g (cellsOf e (.own none) y)):=by rw[<-Pr ht ho hd Fl WM];unfold cv;cases dg E an X o st with|false=>simp|true=>simp only[af,fY,hg,cU,ho,true_and]
theorem abP {o:Oper}(h:CJ an o=true):∃T q d,o.op=.load T (.tmp q)/\o.dst=some d/\o.guard=none/\an.mv.contains d=false/\WH an o=false:=by unfold CJ at h;split at h;rename_i T q d ho hd hg;simp only[ah,aO]at h;exact⟨T,q,d,ho,hd,hg,h.1.1,by simp only[WH,hd];exact h.1.2⟩;cases h
theorem OS {o:Oper}{q:Nat}(B9:CJ an o=true)(ho:o.op=.load T (.tmp q))(hd:o.dst=some d)(hg:o.guard=none)(Fl:an.mv.contains d=false)(MZ:WH an o=false):cv E Γ an ops X o st=some s↔ ∃sh b off cs,iH E.ty T=some sh/\st.rd (.tmp q)=.val false [.ptr b off]/\(nth st.boxes b).getD none=some cs/\off+sh.ct.size<=cs.length/\X.contains b=false/\ s=st.put (some d) (.val sh.agg (ib st.ep (.box b) off ((cs.drop off).take sh.ct.size))):=by
 unfold cv;constructor;intro h;cases hf:dg E an X o st with|false=>rw[hf]at h;cases h|true=>rw[hf]at h;simp only[af,fY,hg,cU,ho]at h;unfold oW at h;split at h;rename_i sh b off hT hp;simp only[dg,ho,hp,hd,Fl,MZ,bR,jE,gQ,aO]at hf;split at h;rename_i cs hb;split at h;rename_i gk;simp only[hd,Fl,aY,bV]at h;cases h;exact⟨sh,b,off,cs,hT,hp,hb,gk,hf,rfl⟩;cases h;cases h;rename_i hp;simp only[dg,ho,hp,B9,ai,js,gv]at hf;cases hf;cases h
 rintro⟨sh,b,off,cs,hT,hp,hb,gk,hX,rfl⟩;have hf:dg E an X o st=true:=by simp only[dg,ho,hp,hd,Fl,hX,MZ];rfl
 rw[hf];simp only[af,fY,hg,cU,ho,oW,hp,hT,hb,aF gk,hd,Fl,aY,bV]
theorem Ns {b:Nat}:∀(cs:au AC)(p k:Nat)(c':AC),(∀c,cs[k]?=some c->∀r,c'.borrow ep (some r)=c.borrow ep (some r))->ib ep (.box b) p (cs.set k c')=ib ep (.box b) p cs
 |[],_,_,_,_=>rfl
 |c::cs,p,0,c',h=>by simp only[List.set_cons_zero,ib,h c rfl]
 |c::cs,p,k+1,c',h=>by simp only[List.set_cons_succ,ib];rw[Ns cs (p+1) k c' (λc hc=>h c (by simpa using hc))]
theorem Uc {b j n:Nat}{e:CT}{i:Int}{ys:au e.D}{cs:au AC}(hj:nth cs j=some (.sl (.own (some t)) e ys)): ib ep (.box b) off (((gG cs j (.sl (.eQ (some t) i (some ep)) e ys)).drop off).take n)=ib ep (.box b) off ((cs.drop off).take n):=by rw[eJ,List.drop_set];split;rfl;rename_i gq;rw[List.take_set];refine Ns _ _ _ _ λc hc r=>?_;by_cases hn:j-off<n;rw[dY hn,bH,show off+(j-off)=j by omega,<-dv,hj]at hc;cases hc;rfl;rw[bE (by simp;omega)]at hc;cases hc
theorem ae9 {o p:Oper}(ha:W8 an o p=true)(h1:cv E Γ an ops X o st=some s1)(h2:cv E Γ an ops Y p s1=some s2): ∃t1,cv E Γ an ops Y p st=some t1/\cv E Γ an ops X o t1=some s2:=by
 simp only[W8,ah,aO]at ha;obtain⟨⟨⟨B9,ht⟩,m1⟩,m2⟩:=ha;have m1:=lR m1;have m2:=lR m2;obtain⟨T,q,d,ho,hd,hg,Fl,MZ⟩:=abP B9;obtain⟨T2,q2,d2,hp,WK,IA,UM,aha⟩:=R2 ht;have n1:d≠d2:=λe=>m1 d (by simp[hd]) (by simp[WK,e]);have n2:d≠q2:=λe=>m1 d (by simp[hd]) (by simp[dj,hp,tm,e]);have n3:d2≠q:=λe=>m2 d2 (by simp[WK]) (by simp[dj,ho,tm,e]);obtain⟨sh,b,off,cs,hT,hr,hb,gk,hX,rfl⟩:=(OS B9 ho hd hg Fl MZ).1 h1;obtain⟨g,e,jJ,b2,j,t,NI,x,i,FR,ys,y,hT2,P4,FN,hj,hi,hX2,SB,aaL,rfl⟩:=(Ps ht hp WK IA UM aha).1 h2;rw[RB n2]at P4;have ahX:(nth st.boxes b2).getD none=some FR:=FN;refine⟨_,(Ps ht hp WK IA UM aha).2 ⟨g,e,jJ,b2,j,t,NI,x,i,FR,ys,y,hT2,P4,ahX,hj,hi,hX2,SB,aaL,rfl⟩,?_⟩;have la:∃PN,(nth (gG st.boxes b2 (some (gG FR j (.sl (.eQ (some t) i (some st.ep)) e ys)))) b).getD none=some PN/\off+sh.ct.size<=PN.length/\ib st.ep (.box b) off ((PN.drop off).take sh.ct.size)=ib st.ep (.box b) off ((cs.drop off).take sh.ct.size):=by by_cases Xv:b2=b;subst Xv;have KS:FR=cs:=cx (ahX.symm.trans hb);subst KS;exact⟨_,W5 hb,by rw[eJ,aJ];exact gk,Uc hj⟩;exact⟨cs,by rw[W6 Xv];exact hb,gk,rfl⟩
 obtain⟨PN,TU,UI,he⟩:=la;refine(OS B9 ho hd hg Fl MZ).2 ⟨sh,b,off,PN,hT,by rw[RB n3];exact hr,TU,UI,hX,?_⟩;show _=((Kv st b2 j t e i FR ys).put (some d2) _).put (some d) (.val sh.agg (ib st.ep (.box b) off ((PN.drop off).take sh.ct.size)));rw[he];simp only[AS.put,Kv,AS.ed,AS.mk.injEq,gR];exact iQ _ n1 _ _
def Ql (E:Env)(Γ:xg)(an:An)(ops:au Oper)(X:Nat->dI):dI->AS->aw AS
 |[],st=>some st
 |i::r,st=>match nth ops i with
  |some o=>(cv E Γ an ops (X i) o st).bind (Ql E Γ an ops X r)
  |none=>none
theorem O5 (zw:∀f,(Γ f).io=false/\((Γ f).bx=true->(Γ f).cur=true)/\(Γ f).pr=false){X:Nat->dI}{i:Nat}{oi:Oper}(hi:nth ops i=some oi):∀(pre post:dI)(st r:AS),(∀j∈pre,∀oj,nth ops j=some oj->Nm an ops (X j) (X i) oj oi=true)->
 Ql E Γ an ops X (pre++i::post) st=some r->Ql E Γ an ops X (i::(pre++post)) st=some r
 |[],post,st,r,_,h=>h
 |j::pre,post,st,r,ha,h=>by
  simp only[List.cons_append,Ql]at h;cases hj:nth ops j with
  |none=>rw[hj]at h;cases h
  |some oj=>
   rw[hj]at h;simp only at h;obtain⟨s1,h1,h2⟩:=aK.1 h;have h3:=O5 zw hi pre post s1 r (λk hk=>ha k (by simp[hk])) h2;simp only[Ql,hi]at h3;obtain⟨s2,h4,h5⟩:=aK.1 h3;have hap:=ha j (by simp) oj hj;obtain⟨t1,k1,k2⟩:∃t1,cv E Γ an ops (X i) oi st=some t1/\cv E Γ an ops (X j) oj t1=some s2:=by cases hx:aei an oj oi with|false=>rw[Nm,hx,cH]at hap;exact YQ zw hap h1 h4|true=>simp only[aei,cX]at hx;rcases hx with((hx|hx)|hx)|hx;exact ac7 hx h1 h4;exact afe hx h1 h4;exact afJ hx h1 h4;exact ae9 hx h1 h4
   simp only[Ql,hi,k1,dX,List.cons_append,hj,k2];exact h5
end Go.Dn
