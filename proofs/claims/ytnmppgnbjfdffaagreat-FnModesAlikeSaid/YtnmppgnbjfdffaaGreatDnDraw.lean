import Derived.Test.YtnmppgnbjfdffaaGreatDnUpd
/- Operations that are apart may change places. -/
namespace Go.Dn
variable {E:Env} {Γ:zP} {an:An} {ops:ay Oper}
variable {s s1 s2 st:AS} {b d ep i off q t:Nat} {α:Type} {T:TypeId} {X Y:fR}
def cU (E:Env)(Γ:zP)(an:An)(ops:ay Oper)(X:fR)(o:Oper)(st:AS):aC AS:=
 bif dP E an X o st then iq E Γ an ops o st some else none
structure QM (an:An) (ops:List Oper) (X:List Nat) (o:Oper) (st st2:AS):Prop where
 base:iJ an X o st st2
 gd:∀t∈D9 an ops o,st2.get t=st.get t
theorem U9 {b:Bool}(h:st.get d=.val false [.bool b]):st.put (some d) (.one (.bool b))=st:=by cases st with|mk slots boxes ep iss io=>simp only[AS.put,AS.mk.injEq,jB];rw[gr];apply dh;intro i;rw[bH];split;rename_i hd;subst hd;simp only[AS.get,eH]at h;split;rename_i ir;rw[aw ir]at h⊢;simp only[gy]at h;rw[h];rename_i zH;rw[bM (Nat.le_of_not_lt zH)];rfl
theorem Rv {st2:AS}{s:Nat}(h:nth st2.boxes s=nth st.boxes s):D0 E T st2 s off=D0 E T st s off:=by unfold D0;rw[h]
theorem Gg {o:Oper}{st2:AS}(ha:iJ an X o st st2):dP E an X o st2=dP E an X o st:=by
 unfold dP;split;rename_i ho;rw[ha.rd (λt ht=>by simpa[dY,ho]using ht)];rename_i T p ho;rw[ha.rd (λt ht=>by simp[dY,ho,ht]),ha.ep];rename_i ho;rw[ha.rd (λt ht=>by simp[dY,ho,ht]),ha.ep];rename_i f args ts ho;have hcur:tw an X (erS an o) st2 args.toList=tw an X (erS an o) st args.toList:=by
  have hl:∀x∈args.toList,∀t∈tm x,t∈dY o:=by intro x hx t ht;simp only[dY,ho,ax,OZ,List.mem_flatMap];exact .inr ⟨x,hx,ht⟩
  generalize args.toList=l at hl;cases l with
  |nil=>rfl
  |cons x xs=>
   have Ba:xs.all (Ia (erS an o) st2)=xs.all (Ia (erS an o) st):=by
    rw[dN];simp only[aL];have e:∀y∈xs,Ia (erS an o) st2 y=Ia (erS an o) st y:=by intro y hy;cases y with|tmp t=>have hg:=ha.get t (hl (.tmp t) (by simp[hy]) t (by simp[tm]));simp only[Ia,hg]|const v=>rfl|func v=>rfl|global v=>rfl
    exact⟨λg y hy=>by rw[<-e y hy];exact g y hy,λg y hy=>by rw[e y hy];exact g y hy⟩
   have hr:=ha.rd (hl x (by simp));cases x with
   |tmp q=>
    simp only[tw,hr];generalize st.rd (.tmp q)=v;unfold adk;rw[Ba];split;rename_i s off;cases hX:X.contains s with|true=>simp|false=>rw[ha.box s hX]
    rfl
   |const v=>simp only[tw,hr]
   |func v=>simp only[tw,hr]
   |global v=>simp only[tw,hr]
 rw[hcur];congr 1;rw[dN];simp only[aL];constructor;intro hx x hm;have:=hx x hm;rwa[ha.rd (λt ht=>by simp only[dY,ho,ax,OZ,List.mem_flatMap];exact .inr ⟨x,hm,ht⟩),ha.ep]at this;intro hx x hm;rw[ha.rd (λt ht=>by simp only[dY,ho,ax,OZ,List.mem_flatMap];exact .inr ⟨x,hm,ht⟩),ha.ep];exact hx x hm;rename_i ho;rw[ha.rd (λt ht=>by simpa[dY,ho]using ht),ha.ep];split;rename_i s off _;cases hX:X.contains s with|true=>rfl|false=>rw[Rv (ha.box s hX)]
 rfl;rfl;rename_i ho;rw[ha.rd (λt ht=>by simp only[dY,ho,ax];exact .inl ht)];rename_i ho;rw[ha.get _ (by simp[dY,ho])];rfl
theorem Kv (AD:∀f,(Γ f).io=false/\((Γ f).bx=true->(Γ f).cur=true)/\(Γ f).pr=false){o:Oper}{bX:AS}(hm:oa an o=true)(h:cU E Γ an ops X o st=some bX): ∃u:IA,u.F7 an o/\bX=u.apply st/\∀st2,QM an ops X o st st2->cU E Γ an ops X o st2=some (u.apply st2):=by
 unfold cU at h;cases hf:dP E an X o st with
 |false=>rw[hf]at h;cases h
 |true=>
  rw[hf]at h;simp only[ah]at h;unfold iq at h;split at h;rename_i hg;obtain⟨u,h1,h2,h3⟩:=NQ (X:=X) AD hm hf h;refine⟨u,h1,h2,λst2 ha=>?_⟩;unfold cU;rw[Gg ha.base,hf];simp only[ah,iq,hg];exact h3 st2 ha.base;rename_i j GK hg;split at h;rename_i d hd;have uN:d∈D9 an ops o:=by simp[D9,hg,hd]
  split at h;rename_i b hb;have hgo:(if(b==GK)=true then dD E Γ an o st some else some (st.put o.dst (.one .un)))=some bX:=by cases b<;>simpa only[ah,af,U9 hb]using h
  have h2g:∀st2,QM an ops X o st st2->cU E Γ an ops X o st2=(if(b==GK)=true then dD E Γ an o st2 some else some (st2.put o.dst (.one .un))):=by
   intro st2 ha;have Oa:st2.get d=.val false [.bool b]:=by rw[ha.gd d uN];exact hb
   unfold cU;rw[Gg ha.base,hf];simp only[ah,iq,hg,hd,Oa];cases b<;>simp only[ah,af,U9 Oa]
  split at hgo;rename_i hw;obtain⟨u,h1,h2,h3⟩:=NQ (X:=X) AD hm hf hgo;exact⟨u,h1,h2,λst2 ha=>by rw[h2g st2 ha,aF hw];exact h3 st2 ha.base⟩;rename_i hw;cases hgo;exact⟨Di o (.one .un),BO _,by rw[sr],λst2 ha=>by rw[h2g st2 ha,aH hw,sr]⟩;rename_i hb;cases h;refine⟨Di o (.one .un),BO _,by rw[sr],λst2 ha=>?_⟩;have Oa:st2.get d=.val false [.un]:=by rw[ha.gd d uN];exact hb
  unfold cU;rw[Gg ha.base,hf,sr];simp only[ah,iq,hg,hd,Oa];cases h;cases h
theorem jL (l:ay α){j:Nat}(h:i≠j)(v w:α):iR (iR l i v) j w=iR (iR l j w) i v:=by rw[gr,gr,gr,gr,List.set_comm _ _ h]
theorem Yh (l:ay AV)(a:ay (Nat×AV))(v:AV)(h:∀x∈a,x.1≠i):kF (iR l i v) a=iR (kF l a) i v:=by induction a generalizing l with|nil=>rfl|cons x a ih=>simp only[kF];rw[jL _ (cr (h x (by simp))),ih _ (λy hy=>h y (by simp[hy]))]
theorem U5 (l:ay AV)(a b:ay (Nat×AV))(h:∀x∈a,∀y∈b,x.1≠y.1):kF (kF l a) b=kF (kF l b) a:=by induction b generalizing l with|nil=>rfl|cons y b ih=>simp only[kF];rw[<-Yh l a y.2 (λx hx=>h x hx y (by simp)),ih _ (λx hx z hz=>h x hx z (by simp[hz]))]
theorem ON (l:ay AV)(a:ay (Nat×AV))(h:∀x∈a,x.1≠t):nth (kF l a) t=nth l t:=by induction a generalizing l with|nil=>rfl|cons x a ih=>rw[kF,ih _ (λy hy=>h y (by simp[hy])),kh,aH (h x (by simp))]
theorem mI {a b:fR}(h:meets a b=false):∀x∈a,x∉b:=by intro x hx hb;unfold meets at h;rw[List.any_eq_false]at h;exact h x hx (by simpa using hb)
theorem IA.zQ {u:IA}{o p:Oper}(hw:u.F7 an o)(h1:∀x∈writes an o,x∉dY p++D9 an ops p++writes an p)(h2:∀d∈ES an o,Y.contains d=true)(h3:∀d∈ES an o,p.dst≠some d): QM an ops Y p (u.apply st) st/\QM an ops Y p st (u.apply st):=by
 have iP:∀t,t∈dY p++D9 an ops p++writes an p->(u.apply st).get t=st.get t:=by intro t ht;unfold AS.get;have:nth (u.apply st).slots t=nth st.slots t:=ON _ _ (λx hx he=>h1 _ (hw.slots x hx) (by rw[he];exact ht));rw[this]
 have aaQ:∀d,p.dst=some d->nth (u.apply st).iss d=nth st.iss d/\nth (u.apply st).boxes d=nth st.boxes d:=by
  intro d hd;have FD:d∈dY p++D9 an ops p++writes an p:=by simp[writes,hd]
  have Cy:o.dst≠some d:=λhe=>h1 d (by simp[writes,he]) FD;constructor;unfold IA.apply;cases hi:u.iss with|none=>rfl|some k=>simp only;rw[kh,aH];rintro rfl;exact Cy (hw.iss _ hi)
  unfold IA.apply;cases hi:u.box with|none=>rfl|some k=>simp only;rw[kh,aH];intro he;exact h3 _ (hw.box k hi) (by rw[he];exact hd)
 have ak1:∀s,Y.contains s=false->nth (u.apply st).boxes s=nth st.boxes s:=by intro s hs;unfold IA.apply;cases hi:u.box with|none=>rfl|some k=>simp only;rw[kh,aH];rintro rfl;have:=h2 k.1 (hw.box k hi);rw[this]at hs;cases hs
 have hlen:(u.apply st).slots.length=st.slots.length:=No _ _;exact⟨⟨⟨hlen.symm,λt ht=>(iP t (by simp[ht])).symm,rfl,λd hd=>⟨((aaQ d hd).1).symm,((aaQ d hd).2).symm⟩,λs hs=>(ak1 s hs).symm,λt ht=>(iP t (by simp[D9,ht])).symm⟩,λt ht=>(iP t (by simp[ht])).symm⟩,⟨⟨hlen,λt ht=>iP t (by simp[ht]),rfl,aaQ,ak1,λt ht=>iP t (by simp[D9,ht])⟩,λt ht=>iP t (by simp[ht])⟩⟩
theorem Wb {u v:IA}{o p:Oper}(hu:u.F7 an o)(hv:v.F7 an p)(h:∀x∈writes an o,x∉writes an p)(hb:∀x∈ES an o,x∉ES an p):v.apply (u.apply st)=u.apply (v.apply st):=by
 have RE:∀a b,o.dst=some a->p.dst=some b->a≠b:=λa b ha hb he=>h a (by simp[writes,ha]) (by simp[writes,hb,he]);have hs:=U5 st.slots u.slots v.slots (λx hx y hy he=>h _ (hu.slots x hx) (by rw[he];exact hv.slots y hy));simp only[IA.apply,AS.mk.injEq,true_and,jB];refine⟨hs,?_,?_⟩;cases hub:u.box with|none=>cases v.box<;>rfl|some k=>cases hvb:v.box with|none=>rfl|some l=>exact jL _ (λhe=>hb _ (hu.box k hub) (by rw[he];exact hv.box l hvb)) _ _
 cases hui:u.iss with|none=>cases v.iss<;>rfl|some k=>cases hvi:v.iss with|none=>rfl|some l=>exact jL _ (RE _ _ (hu.iss k hui) (hv.iss l hvi)) _ _
theorem YA (AD:∀f,(Γ f).io=false/\((Γ f).bx=true->(Γ f).cur=true)/\(Γ f).pr=false){o p:Oper}(ha:V9 an ops X Y o p=true)(h1:cU E Γ an ops X o st=some s1)(h2:cU E Γ an ops Y p s1=some s2): ∃t1,cU E Γ an ops Y p st=some t1/\cU E Γ an ops X o t1=some s2:=by
 simp only[V9,ab,aN,aL]at ha;obtain⟨⟨⟨⟨⟨⟨⟨mo,mp⟩,w1⟩,w2⟩,b1⟩,b2⟩,b3⟩,b4⟩:=ha;have w1:=mI w1;have w2:=mI w2;have b3:=mI b3;have b4:=mI b4;obtain⟨u,hu,rfl,hu2⟩:=Kv AD mo h1;obtain⟨v,hv,rfl,RQ⟩:=Kv AD mp h2;have ag1:=IA.zQ (ops:=ops) (p:=p) (Y:=Y) (st:=st) hu w1 b1 (λd hd he=>b3 d hd (by simp[he]));have hww:∀x∈writes an p,x∉dY o++D9 an ops o++writes an o:=by intro x hx hm;rcases ax.1 hm with hm|hm;exact w2 x hx hm;exact w1 x hm (by simp[hx])
 have ag2:=IA.zQ (ops:=ops) (p:=o) (Y:=X) (st:=st) hv hww b2 (λd hd he=>b4 d hd (by simp[he]));refine⟨v.apply st,RQ st ag1.1,?_⟩;rw[hu2 _ ag2.2,Wb hu hv (λx hx hm=>w1 x hx (by simp[hm])) (λx hx hm=>b3 x hx (by simp[hm]))]
theorem Hh {v w:AV}(h:st.get t=v)(hv:v≠ .bot):(st.put (some t) w).get t=w:=by
 unfold AS.get at h;cases hn:nth st.slots t with
 |none=>rw[hn]at h;exact absurd h.symm hv
 |some q=>
  have hl:t<st.slots.length:=by rw[eH]at hn;exact(aB.1 hn).1
  unfold AS.get AS.put;simp only[eH,gr];rw[bD hl];rfl
theorem uc {w:AV}(h:d≠t):(st.put (some d) w).get t=st.get t:=by unfold AS.get AS.put;simp only[kh,aH h]
theorem BV {o:Oper}(ho:o.op=.extract (.tmp t) i)(hd:o.dst=some d)(hg:o.guard=none):cU E Γ an ops X o st=some s↔ ∃vs g cs,st.get t=.wh vs/\nth vs i=some (g,cs)/\(cs.all AC.kc||an.mv.contains d)=true/\s=(st.put (some t) (.wh (iR vs i (g,bf 0 cs)))).put (some d) (.val g cs):=by
 unfold cU;simp only[dP,ho,hd];constructor;intro h;cases hv:st.get t with|val g cs=>simp only[hv,ah,iq,hg,dD,ho,mw]at h;cases h|wh vs=>simp only[hv]at h;cases hn:nth vs i with|none=>simp only[hn,ah,iq,hg,dD,ho,mw,hv]at h;cases h|some x=>obtain⟨g,cs⟩:=x;simp only[hn]at h;cases hf:(cs.all AC.kc||an.mv.contains d)with|false=>rw[hf]at h;cases h|true=>rw[hf]at h;simp only[ah,iq,hg,dD,ho,mw,hv,hn,hd]at h;cases h;exact⟨vs,g,cs,rfl,hn,hf,rfl⟩
 rintro⟨vs,g,cs,hv,hn,hf,rfl⟩;simp only[hv,hn,hf,ah,iq,hg,dD,ho,mw,hd]
theorem acx (l:ay α)(i:Nat)(v w:α):iR (iR l i v) i w=iR l i w:=by rw[gr,gr,gr,List.set_set]
theorem ad3 {o p:Oper}(ha:W1 o p=true)(h1:cU E Γ an ops X o st=some s1)(h2:cU E Γ an ops Y p s1=some s2): ∃t1,cU E Γ an ops Y p st=some t1/\cU E Γ an ops X o t1=some s2:=by
 unfold W1 at ha;split at ha;rename_i t i t' j d d' ho hp hd FD hg oB;simp only[ab,bm,aN,cu,ne_eq]at ha;obtain⟨⟨⟨⟨rfl,hij⟩,RE⟩,hdt⟩,ak5⟩:=ha;obtain⟨vs,g,cs,hv,hn,hf,rfl⟩:=(BV ho hd hg).1 h1;obtain⟨vs2,g2,DH,RQ,DJ,B8,rfl⟩:=(BV hp FD oB).1 h2;have hq:((st.put (some t) (.wh (iR vs i (g,bf 0 cs)))).put (some d) (.val g cs)).get t=.wh (iR vs i (g,bf 0 cs)):=by rw[uc hdt,Hh hv (by simp)]
 rw[hq]at RQ;cases RQ;rw[kh,aH hij]at DJ;refine⟨_,(BV hp FD oB).2 ⟨vs,g2,DH,hv,DJ,B8,rfl⟩,(BV ho hd hg).2 ⟨iR vs j (g2,bf 0 DH),g,cs,?_,?_,hf,?_⟩⟩;rw[uc ak5,Hh hv (by simp)];rw[kh,aH (cr hij)];exact hn;have e:=jL vs hij (g,bf 0 cs) (g2,bf 0 DH);have a:∀(A B:AV)(q:Nat)(v:AV),q≠t->iR (iR (iR st.slots t A) q v) t B=iR (iR st.slots t B) q v:=λA B q v hq=>by rw[jL _ hq,acx]
 simp only[AS.put,AS.mk.injEq,jB];rw[a _ _ _ _ hdt,a _ _ _ _ ak5,e,jL _ RE];cases ha
theorem ZV (s:AS)(t:Nat):s.put (some t) (s.get t)=s:=by cases s with|mk slots boxes ep iss io=>simp only[AS.put,AS.mk.injEq,jB];rw[gr];apply dh;intro i;rw[bH];split;rename_i hd;subst hd;simp only[AS.get,eH];split;rename_i ir;rw[aw ir];rfl;rename_i zH;rw[bM (Nat.le_of_not_lt zH)];rfl
theorem Vp {o:Oper}(hd:o.dst=some d)(hg:o.guard=none)(ho:(o.op=.move (.tmp t)/\an.mv.contains d=false/\an.fm.contains d=true)\/∃i,o.op=.extract (.tmp t) i)(_hdt:d≠t)(h:cU E Γ an ops X o st=some s): ∃tv v,s=(st.put (some t) tv).put (some d) v/\∀st2:AS,st2.get t=st.get t->cU E Γ an ops X o st2=some ((st2.put (some t) tv).put (some d) v):=by
 rcases ho with⟨ho,Dy,Lh⟩|⟨i,ho⟩;have MA:∀st2:AS,st2.get t=st.get t->(st.rd (.tmp t)).lU=true->st2.rd (.tmp t)=st.get t:=by
  intro st2 hq hs;simp only[AS.rd,hq]at hs⊢;cases hv:st.get t with
  |wh vs=>rw[hv]at hs;simp[AV.borrow,AV.lU]at hs
  |val g cs=>
   rw[hv]at hs;simp only[AV.borrow,AV.lU]at hs⊢;congr 1;have key:∀(cs:ay AC)(j:Nat),(jn st.ep (λj=>lq.slot t j) j cs).all AC.lU=true->jn st2.ep (λj=>lq.slot t j) j cs=cs:=by
    intro cs;induction cs with
    |nil=>intro j _;rfl
    |cons c cs ih=>
     intro j h;simp only[jn,cv,ab]at h⊢;rw[ih (j+1) h.2];congr 1;cases c with
     |sl fl e xs=>cases fl with|gj _ _ ep=>cases ep<;>simp[AC.borrow,AC.lU]at h|_=>simp[AC.borrow,AC.lU]at h
     |_=>rfl
   exact key cs 0 hs
 unfold cU at h;have nt:(st.rd (.tmp t)).lU=true:=by cases hs:(st.rd (.tmp t)).lU with|true=>rfl|false=>simp only[dP,ho,VV,hd,Lh,hs]at h;cases h
 refine⟨st.get t,st.get t,?_,λst2 hq=>?_⟩;simp only[dP,ho,VV,hd,Lh,nt,jA,ah,iq,hg,dD,Cl,Dy,bh,cn]at h;cases h;rw[MA st rfl nt];congr 1;exact(ZV st t).symm;unfold cU;have e1:=MA st2 hq nt;have RN:(st2.rd (.tmp t)).lU=true:=by rw[e1,<-MA st rfl nt];exact nt
 simp only[dP,ho,VV,hd,Lh,RN,jA,ah,iq,hg,dD,Cl,Dy,bh,cn];rw[e1,<-hq,ZV];obtain⟨vs,g,cs,hv,hn,hf,rfl⟩:=(BV ho hd hg).1 h;refine⟨_,_,rfl,λst2 hq=>(BV ho hd hg).2 ⟨vs,g,cs,by rw[hq,hv],hn,hf,rfl⟩⟩
theorem agD {p:Oper}{x:Nat}(hp:p.op=.store T (.tmp q) (.tmp x))(hd:p.dst=none)(hg:p.guard=none)(RF:(an.eb q).isSome=true)(hes:(an.es q).isNone=true)(ZA:(an.sb q).isNone=true)(hl:Al an p=false)(h:cU E Γ an ops Y p st=some s): ∃B,s=⟨iR st.slots x ((st.get x).bf st.ep),B,st.ep+1,st.iss,st.io⟩/\ ∀st2:AS,st2.get q=st.get q->st2.get x=st.get x->st2.boxes=st.boxes->st2.ep=st.ep->st2.iss=st.iss->st2.io=st.io-> cU E Γ an ops Y p st2=some ⟨iR st2.slots x ((st.get x).bf st.ep),B,st.ep+1,st.iss,st.io⟩:=by
 have hY:∀st2:AS,st2.get q=st.get q->st2.ep=st.ep->dP E an Y p st2=dP E an Y p st:=by intro st2 h1 h2;simp only[dP,hp,AS.rd,h1,h2]
 unfold cU at h;cases hf:dP E an Y p st with
 |false=>rw[hf]at h;cases h
 |true=>
  rw[hf]at h;simp only[ah,iq,hg,dD,hp,hd,hl,bh,cn]at h;have jQ:=hf;simp only[dP,hp]at jQ;have Mv:((an.sb q).isNone&&(an.eb q).isNone&&(an.es q).isNone)=false:=by cases he:an.eb q with|none=>rw[he]at RF;cases RF|some _=>simp
  rw[Mv,cd]at jQ;unfold wT at h;split at h;rename_i MA;rw[MA]at jQ;simp only[ab,bm]at jQ;rw[jQ.2]at ZA;cases ZA;rename_i sh L3 r tg e y i off hT MA;rw[MA]at jQ;cases r with
  |slot _ _=>simp only[ab,bm]at jQ;rw[jQ.1.1]at hes;cases hes
  |io _=>simp at jQ
  |box b j=>
   split at h;rename_i gg vs st1 sN;have e1:(st.get x)=.val gg vs:=by have:=congrArg Prod.fst sN;exact this
   have e2:st1=⟨iR st.slots x ((st.get x).bf st.ep),st.boxes,st.ep,st.iss,st.io⟩:=by have:=congrArg Prod.snd sN;exact this.symm
   split at h;rename_i hlen;have main:∃B,∀sl:ay AV,(⟨sl,st.boxes,st.ep,st.iss,st.io⟩:AS).pM (.box b j) tg e i off vs some=some ⟨sl,B,st.ep+1,st.iss,st.io⟩:=by
    subst e2;simp only[AS.pM,AS.fK,AS.fQ,AS.fD]at h⊢;cases hb:(nth st.boxes b).getD none with
    |none=>rw[hb]at h;simp at h
    |some cs=>
     rw[hb]at h;simp only[fg]at h⊢;split at h;rename_i t' e' xs hn;split at h;rename_i he;simp only[dif_pos he];generalize (he▸xs:ay e.D)=zs at h⊢;split at h;rename_i ht;simp only[aF ht];cases hi:idx zs i with|none=>rw[hi]at h;simp[aa]at h|some y0=>simp only[hi,aa]at h⊢;split at h;exact⟨_,λsl=>rfl⟩;cases h
     cases h;cases h;rename_i t' i' q0 e' xs hn;split at h;rename_i he;simp only[dif_pos he];generalize (he▸xs:ay e.D)=zs at h⊢;split at h;rename_i ht;simp only[aF ht];cases hi:aaW zs i' i with|none=>rw[hi]at h;simp[aa]at h|some y0=>simp only[hi,aa]at h⊢;split at h;exact⟨_,λsl=>rfl⟩;cases h
     cases h;cases h;cases h
   obtain⟨B,hB⟩:=main;refine⟨B,?_,λst2 h1 h2 h3 h4 h5 h6=>?_⟩;subst e2;rw[hB]at h;exact(cb h).symm;unfold cU;rw[hY st2 h1 h4,hf];have r2:st2.rd (.tmp q)=st.rd (.tmp q):=by simp only[AS.rd,h1,h4]
   have t2:st2.take (.tmp x)=(.val gg vs,⟨iR st2.slots x ((st.get x).bf st.ep),st.boxes,st.ep,st.iss,st.io⟩):=by simp only[AS.take,AS.put,h2,h3,h4,h5,h6,e1]
   simp only[ah,iq,hg,dD,hp,hd,hl,bh,cn,wT,hT,r2,MA,t2];rw[aF hlen];exact hB _;cases h;cases h
  cases h
theorem adU {p:Oper}{x:Nat}(hp:p.op=.store T (.tmp q) (.tmp x))(hd:p.dst=none)(hg:p.guard=none)(hes:an.es q=some b)(RF:(an.eb q).isNone=true)(kC:b≠x)(ZA:(an.sb q).isNone=true)(hl:Al an p=false)(h:cU E Γ an ops Y p st=some s): ∃B,s=⟨iR (iR st.slots x ((st.get x).bf st.ep)) b B,st.boxes,st.ep+1,st.iss,st.io⟩/\ ∀st2:AS,st2.get q=st.get q->st2.get x=st.get x->nth st2.slots b=nth st.slots b->st2.boxes=st.boxes->st2.ep=st.ep->st2.iss=st.iss->st2.io=st.io-> cU E Γ an ops Y p st2=some ⟨iR (iR st2.slots x ((st.get x).bf st.ep)) b B,st.boxes,st.ep+1,st.iss,st.io⟩:=by
 have hY:∀st2:AS,st2.get q=st.get q->st2.ep=st.ep->dP E an Y p st2=dP E an Y p st:=by intro st2 h1 h2;simp only[dP,hp,AS.rd,h1,h2]
 unfold cU at h;cases hf:dP E an Y p st with
 |false=>rw[hf]at h;cases h
 |true=>
  rw[hf]at h;simp only[ah,iq,hg,dD,hp,hd,hl,bh,cn]at h;have jQ:=hf;simp only[dP,hp]at jQ;have Mv:((an.sb q).isNone&&(an.eb q).isNone&&(an.es q).isNone)=false:=by rw[hes];simp
  rw[Mv,cd]at jQ;unfold wT at h;split at h;rename_i MA;rw[MA]at jQ;simp only[ab,bm]at jQ;rw[jQ.2]at ZA;cases ZA;rename_i sh L3 r tg e y i off hT MA;rw[MA]at jQ;cases r with
  |box _ _=>simp only[ab,bm]at jQ;rw[jQ.1.1]at RF;cases RF
  |io _=>simp at jQ
  |slot b' j=>
   simp only[ab,bm]at jQ;have Xc:b'=b:=cb (jQ.1.1.symm.trans hes);subst Xc;split at h;rename_i gg vs st1 sN;have e1:(st.get x)=.val gg vs:=by have:=congrArg Prod.fst sN;exact this
   have e2:st1=⟨iR st.slots x ((st.get x).bf st.ep),st.boxes,st.ep,st.iss,st.io⟩:=by have:=congrArg Prod.snd sN;exact this.symm
   split at h;rename_i hlen;have main:∃B,∀sl:ay AV,nth sl b'=nth st.slots b'->(⟨sl,st.boxes,st.ep,st.iss,st.io⟩:AS).pM (.slot b' j) tg e i off vs some=some ⟨iR sl b' B,st.boxes,st.ep+1,st.iss,st.io⟩:=by
    subst e2;have iP:∀sl:ay AV,nth sl b'=nth st.slots b'->(⟨sl,st.boxes,st.ep,st.iss,st.io⟩:AS).get b'=st.get b':=λsl hq=>by unfold AS.get;rw[hq]
    have hq0:nth (iR st.slots x ((st.get x).bf st.ep)) b'=nth st.slots b':=by rw[kh,aH (cr kC)]
    simp only[AS.pM,AS.fK,AS.fQ,iP _ hq0]at h;cases hb:st.get b' with
    |wh _=>rw[hb]at h;simp at h
    |val g0 cs=>
     rw[hb]at h;simp only at h;split at h;rename_i t' e' xs hn;split at h;rename_i he;split at h;rename_i ht;cases hi:idx (he▸xs:ay e.D) i with|none=>rw[hi]at h;simp[aa]at h|some y0=>simp only[hi,aa]at h;split at h;rename_i x' AG;refine⟨.val g0 (iR cs j (.sl (.own (some t')) e ((he▸xs:ay e.D).set i.toNat x'))),λsl hq=>?_⟩;simp only[AS.pM,AS.fK,AS.fQ,iP _ hq,hb,hn,dif_pos he,aF ht,hi,aa,AG,AS.put];cases h
     cases h;cases h;rename_i t' i' q0 e' xs hn;split at h;rename_i he;split at h;rename_i ht;cases hi:aaW (he▸xs:ay e.D) i' i with|none=>rw[hi]at h;simp[aa]at h|some y0=>simp only[hi,aa]at h;split at h;rename_i x' AG;refine⟨.val g0 (iR cs j (.sl (.own (some t')) e ((he▸xs:ay e.D).set i.toNat x'))),λsl hq=>?_⟩;simp only[AS.pM,AS.fK,AS.fQ,iP _ hq,hb,hn,dif_pos he,aF ht,hi,aa,AG,AS.put];cases h
     cases h;cases h;cases h
   obtain⟨B,hB⟩:=main;refine⟨B,?_,λst2 h1 h2 wA h3 h4 h5 h6=>?_⟩;subst e2;rw[hB _ (by rw[kh,aH (cr kC)])]at h;exact(cb h).symm;unfold cU;rw[hY st2 h1 h4,hf];have r2:st2.rd (.tmp q)=st.rd (.tmp q):=by simp only[AS.rd,h1,h4]
   have t2:st2.take (.tmp x)=(.val gg vs,⟨iR st2.slots x ((st.get x).bf st.ep),st.boxes,st.ep,st.iss,st.io⟩):=by simp only[AS.take,AS.put,h2,h3,h4,h5,h6,e1]
   simp only[ah,iq,hg,dD,hp,hd,hl,bh,cn,wT,hT,r2,MA,t2];rw[aF hlen];exact hB _ (by rw[kh,aH (cr kC)];exact wA);cases h;cases h
  cases h
theorem agC {o p:Oper}(ha:WX an o p=true)(h1:cU E Γ an ops X o st=some s1)(h2:cU E Γ an ops Y p s1=some s2): ∃t1,cU E Γ an ops Y p st=some t1/\cU E Γ an ops X o t1=some s2:=by
 unfold WX at ha;split at ha;rename_i T q x hp hpd hpg;simp only[ab,aN]at ha;obtain⟨⟨⟨RF,ZA⟩,hl⟩,ha⟩:=ha;have ak2:∃d t,o.dst=some d/\o.guard=none/\((o.op=.move (.tmp t)/\an.mv.contains d=false/\an.fm.contains d=true)\/∃i,o.op=.extract (.tmp t) i)/\d≠q/\d≠x/\t≠x/\d≠t/\t≠q:=by split at ha;rename_i t d ho hd hg;simp only[ab,aN,cu]at ha;exact⟨d,t,hd,hg,.inl ⟨ho,ha.1.1.1.1.1.1,ha.1.1.1.1.1.2⟩,ha.1.1.1.1.2,ha.1.1.1.2,ha.1.1.2,ha.2,ha.1.2⟩;rename_i t i d ho hd hg;simp only[ab,aN,cu]at ha;exact⟨d,t,hd,hg,.inr ⟨i,ho⟩,ha.1.1.1.1,ha.1.1.1.2,ha.1.1.2,ha.2,ha.1.2⟩;cases ha
 obtain⟨d,t,hd,hg,ho,hdq,hdx,htx,hdt,htq⟩:=ak2;obtain⟨tv,v,rfl,fb⟩:=Vp hd hg ho hdt h1;have hq:((st.put (some t) tv).put (some d) v).get q=st.get q:=by rw[uc hdq];exact uc htq
 have hx:((st.put (some t) tv).put (some d) v).get x=st.get x:=by rw[uc hdx,uc htx]
 simp only[cH,ab]at RF;rcases RF with⟨RF,hes⟩|hes;obtain⟨B,rfl,hgo⟩:=agD hp hpd hpg RF hes ZA hl h2;have k1:=hgo st hq.symm hx.symm rfl rfl rfl rfl;refine⟨_,k1,?_⟩;have Gj:(⟨iR st.slots x ((((st.put (some t) tv).put (some d) v).get x).bf ((st.put (some t) tv).put (some d) v).ep),B,((st.put (some t) tv).put (some d) v).ep+1,((st.put (some t) tv).put (some d) v).iss,((st.put (some t) tv).put (some d) v).io⟩:AS).get t=st.get t:=by simp only[AS.get,kh,aH (cr htx)]
 rw[fb _ Gj];simp only[AS.put,bu,AS.mk.injEq,jB];rw[jL _ (cr htx),jL _ (cr hdx)];cases hb:an.es q with
 |none=>rw[hb]at hes;cases hes
 |some b=>
  rw[hb]at hes;simp only[ab,aN,cu]at hes;obtain⟨⟨⟨RF,kC⟩,_⟩,hbw⟩:=hes;have hbw:=mI hbw b (by simp);have hbd:b≠d:=λe=>hbw (by simp[hd,e]);have hbt:b≠t:=λe=>hbw (by refine ax.2 (.inr ?_);rcases ho with⟨ho,_⟩|⟨i,ho⟩<;>simp[dY,ho,tm,e]);obtain⟨B,rfl,hgo⟩:=adU hp hpd hpg hb RF kC ZA hl h2;have wA:nth st.slots b=nth ((st.put (some t) tv).put (some d) v).slots b:=by simp only[AS.put,kh,aH (cr hbd),aH (cr hbt)]
  have k1:=hgo st hq.symm hx.symm wA rfl rfl rfl rfl;refine⟨_,k1,?_⟩;have Gj:(⟨iR (iR st.slots x ((((st.put (some t) tv).put (some d) v).get x).bf ((st.put (some t) tv).put (some d) v).ep)) b B,((st.put (some t) tv).put (some d) v).boxes,((st.put (some t) tv).put (some d) v).ep+1,((st.put (some t) tv).put (some d) v).iss,((st.put (some t) tv).put (some d) v).io⟩:AS).get t=st.get t:=by simp only[AS.get,kh,aH (cr htx),aH hbt]
  rw[fb _ Gj];simp only[AS.put,bu,AS.mk.injEq,jB];rw[jL _ hbt,jL _ hbd,jL _ (cr htx),jL _ (cr hdx)]
 cases ha
theorem Sw {c:AC}(h:c.lU=true\/(c.borrow ep none).lU=true):c.borrow ep none=c:=by
 cases c with
 |sl fl e xs=>exfalso;cases fl with|gj _ _ ep=>cases ep<;>simp[AC.borrow,AC.lU]at h|_=>simp[AC.borrow,AC.lU]at h
 |_=>rfl
theorem NN {cs:ay AC}{n:Nat}(iB:off+n<=cs.length)(k:Nat):(eX cs off (bf ep ((cs.drop off).take n)))[k]?=(cs[k]?).map λc=>if off<=k/\k<off+n then c.borrow ep none else c:=by
 have hl:(bf ep ((cs.drop off).take n)).length=n:=by simp[bf];omega
 unfold eX;rw[hl];by_cases h1:k<off;rw[aD,bp (by simp;omega),dE h1];have:(λc:AC=>if off<=k/\k<off+n then c.borrow ep none else c)=id:=by funext c;rw[kl];rfl
 rw[this,Option.map_id];rfl;by_cases h2:k<off+n;rw[bp (by simp[hl];omega),bz (by simp;omega)];have e:k-(cs.take off).length=k-off:=by simp;omega
 rw[e,bf,List.getElem?_map,dE (by omega),bK,show off+(k-off)=k by omega];congr 1;funext c;rw[zip];rw[bz (by simp[hl];omega)];have e:k-(cs.take off++bf ep ((cs.drop off).take n)).length=k-(off+n):=by simp[hl];omega
 rw[e,bK,show off+n+(k-(off+n))=k by omega];have:(λc:AC=>if off<=k/\k<off+n then c.borrow ep none else c)=id:=by funext c;rw[kl];rfl
 rw[this,Option.map_id];rfl
theorem Il {cs:ay AC}{n o2 n2:Nat}(iB:off+n<=cs.length)(h:((cs.drop o2).take n2).all AC.lU=true\/(((eX cs off (bf ep ((cs.drop off).take n))).drop o2).take n2).all AC.lU=true): ((eX cs off (bf ep ((cs.drop off).take n))).drop o2).take n2=(cs.drop o2).take n2:=by
 apply dh;intro k;by_cases hk:k<n2;rw[dE hk,dE hk,bK,bK,NN iB];cases hc:cs[o2+k]? with|none=>rfl|some c=>simp only[dJ];split;rename_i uN;refine congrArg some (Sw ?_);rcases h with h|h;left;refine aL.1 h c (aZ (i:=k) ?_);rw[dE hk,bK,hc];right;refine aL.1 h _ (aZ (i:=k) ?_);rw[dE hk,bK,NN iB,hc,dJ,aF uN];rfl
 rw[bM (by simp;omega),bM (by simp;omega)]
theorem JL:∀{cs:ay AC}{j:Nat},cs.all AC.lU=true->jn ep (.box b) j cs=cs
 |[],_,_=>rfl
 |c::cs,j,h=>by simp only[cv,ab]at h;rw[jn,JL h.2];congr 1;cases c<;>first|rfl|(simp[AC.lU]at h)
theorem NV {o:Oper}(h:BM an o=true):∃T q d,o.op=.load T (.tmp q)/\o.dst=some d/\o.guard=none/\an.mv.contains d=true/\(an.mb d).isSome=true:=by unfold BM at h;split at h;rename_i T q d ho hd hg;simp only[ab]at h;exact⟨T,q,d,ho,hd,hg,h.1,h.2⟩;cases h
theorem Mg {o:Oper}(h:Mf an o=true):∃T q d,o.op=.load T (.tmp q)/\o.dst=some d/\o.guard=none/\an.mv.contains d=false/\an.fm.contains d=true:=by unfold Mf at h;split at h;rename_i T q d ho hd hg;simp only[ab,aN]at h;exact⟨T,q,d,ho,hd,hg,h.1,h.2⟩;cases h
theorem Fu {o:Oper}(ht:BM an o=true)(ho:o.op=.load T (.tmp q))(hd:o.dst=some d)(hg:o.guard=none)(Dy:an.mv.contains d=true):cU E Γ an ops X o st=some s↔ ∃sh b off cs,jN E.ty T=some sh/\st.rd (.tmp q)=.val false [.ptr b off]/\(nth st.boxes b).getD none=some cs/\off+sh.ct.size<=cs.length/\X.contains b=false/\an.mb d=some b/\(VV an o=true->D0 E T st b off=true)/\ s=(st.fD b (some (eX cs off (bf st.ep ((cs.drop off).take sh.ct.size))))).put (some d) (.val sh.agg ((cs.drop off).take sh.ct.size)):=by
 have key:dP E an X o st=true->∀r,dD E Γ an o st some=some r->∃b off,st.rd (.tmp q)=.val false [.ptr b off]:=by intro hf r hr;simp only[dD,ho,pC]at hr;split at hr;rename_i hp;exact⟨_,_,hp⟩;rename_i hp;simp only[dP,ho,hp,ht,jA,ak,ee,eZ]at hf;cases hf;cases hr
 unfold cU;constructor;intro h;cases hf:dP E an X o st with|false=>rw[hf]at h;cases h|true=>rw[hf]at h;simp only[ah,iq,hg]at h;obtain⟨b,off,hp⟩:=key hf s h;simp only[dP,ho,hp,hd,Dy,ak,cd,ab,aN,bm,cH]at hf;simp only[dD,ho,pC,hp]at h;cases hT:jN E.ty T with|none=>rw[hT]at h;cases h|some sh=>rw[hT]at h;simp only at h;cases hb:(nth st.boxes b).getD none with|none=>rw[hb]at h;cases h|some cs=>rw[hb]at h;simp only at h;split at h;rename_i iB;simp only[hd,Dy,cc]at h;cases h;refine⟨sh,b,off,cs,rfl,hp,hb,iB,hf.1.1,hf.1.2,λhm=>?_,rfl⟩;rcases hf.2 with g|g;rw[hm]at g;cases g;exact g;cases h
 rintro⟨sh,b,off,cs,hT,hp,hb,iB,hX,VY,Lh,rfl⟩;have hf:dP E an X o st=true:=by simp only[dP,ho,hp,hd,Dy,hX,VY,ak,cd,ab,aN,bm,cH];refine⟨⟨dq,dq⟩,?_⟩;cases hm:VV an o with|false=>exact .inl rfl|true=>exact .inr (Lh hm)
 rw[hf];simp only[ah,iq,hg,dD,ho,pC,hp,hT,hb,aF iB,hd,Dy,cc]
theorem E7 {o:Oper}(ho:o.op=.load T (.tmp q))(hd:o.dst=some d)(hg:o.guard=none)(Dy:an.mv.contains d=false)(Lh:an.fm.contains d=true):cU E Γ an ops X o st=some s↔ ∃sh b off cs,jN E.ty T=some sh/\st.rd (.tmp q)=.val false [.ptr b off]/\(nth st.boxes b).getD none=some cs/\off+sh.ct.size<=cs.length/\X.contains b=false/\((cs.drop off).take sh.ct.size).all AC.lU=true/\ s=st.put (some d) (.val sh.agg ((cs.drop off).take sh.ct.size)):=by
 have hfb:VV an o=true:=by simp only[VV,hd,Lh]
 have key:dP E an X o st=true->∀r,dD E Γ an o st some=some r->∃b off,st.rd (.tmp q)=.val false [.ptr b off]:=by intro hf r hr;simp only[dD,ho,pC]at hr;split at hr;rename_i hp;exact⟨_,_,hp⟩;rename_i hp;simp only[dP,ho,hp,hfb,iM,ak,ee,eZ]at hf;cases hf;cases hr
 unfold cU;constructor;intro h;cases hf:dP E an X o st with
 |false=>rw[hf]at h;cases h
 |true=>
  rw[hf]at h;simp only[ah,iq,hg]at h;obtain⟨b,off,hp⟩:=key hf s h;simp only[dP,ho,hp,hd,Dy,hfb,ak,bQ,iM,cd,ja,ab,aN]at hf;simp only[dD,ho,pC,hp]at h;cases hT:jN E.ty T with
  |none=>rw[hT]at h;cases h
  |some sh=>
   rw[hT]at h;simp only at h;cases hb:(nth st.boxes b).getD none with
   |none=>rw[hb]at h;cases h
   |some cs=>
    rw[hb]at h;simp only at h;split at h;rename_i iB;have nt:((cs.drop off).take sh.ct.size).all AC.lU=true:=by have:=hf.2;unfold D0 at this;rw[hT,hb]at this;exact this
    simp only[hd,Dy,bh,cn,JL nt]at h;cases h;exact⟨sh,b,off,cs,rfl,hp,hb,iB,hf.1,nt,rfl⟩;cases h
 rintro⟨sh,b,off,cs,hT,hp,hb,iB,hX,nt,rfl⟩;have hf:dP E an X o st=true:=by simp only[dP,ho,hp,hd,Dy,hX,hfb,D0,hT,hb,nt];rfl
 rw[hf];simp only[ah,iq,hg,dD,ho,pC,hp,hT,hb,aF iB,hd,Dy,bh,cn,JL nt]
theorem Qm {v:AV}(h:d≠q):(st.put (some d) v).rd (.tmp q)=st.rd (.tmp q):=by simp only[AS.rd,uc h];rfl
theorem afi {cs:aC (ay AC)}:(st.fD b cs).rd (.tmp q)=st.rd (.tmp q):=rfl
theorem Wk {cs x:ay AC}(h:(nth st.boxes b).getD none=some cs):(nth (iR st.boxes b (some x)) b).getD none=some x:=by
 rw[kh,aF rfl];cases hn:nth st.boxes b with
 |none=>rw[hn]at h;cases h
 |some _=>
  have:b<st.boxes.length:=by rw[eH]at hn;exact(aB.1 hn).1
  rw[aF this];rfl
theorem Wl {b2:Nat}{x:ay AC}(h:b≠b2):nth (iR st.boxes b (some x)) b2=nth st.boxes b2:=by rw[kh,aH h]
theorem ahe {o p:Oper}(ha:XP an o p=true)(h1:cU E Γ an ops X o st=some s1)(h2:cU E Γ an ops Y p s1=some s2): ∃t1,cU E Γ an ops Y p st=some t1/\cU E Γ an ops X o t1=some s2:=by
 simp only[XP,ab,cH,aN]at ha;obtain⟨⟨ha,m1⟩,m2⟩:=ha;have m1:=mI m1;have m2:=mI m2;rcases ha with⟨ht,hf⟩|⟨hf,ht⟩;obtain⟨T,q,d,ho,hd,hg,Dy,VY⟩:=NV ht;obtain⟨T2,q2,d2,hp,Mr,Gj,TZ,aaS⟩:=Mg hf;have n1:d≠d2:=λe=>m1 d (by simp[hd]) (by simp[Mr,e]);have n2:d≠q2:=λe=>m1 d (by simp[hd]) (by simp[dY,hp,tm,e]);have n3:d2≠q:=λe=>m2 d2 (by simp[Mr]) (by simp[dY,ho,tm,e]);obtain⟨sh,b,off,cs,hT,hr,hb,iB,hX,ajk,Lh,rfl⟩:=(Fu ht ho hd hg Dy).1 h1;obtain⟨sh2,b2,OM,DH,hT2,Ow,Oa,Zx,hX2,RN,rfl⟩:=(E7 hp Mr Gj TZ aaS).1 h2;rw[Qm n2,afi]at Ow;have kC:(nth (iR st.boxes b (some (eX cs off (bf st.ep ((cs.drop off).take sh.ct.size))))) b2).getD none=some DH:=Oa;have qJ:∃Pe,(nth st.boxes b2).getD none=some Pe/\OM+sh2.ct.size<=Pe.length/\(DH.drop OM).take sh2.ct.size=(Pe.drop OM).take sh2.ct.size:=by
  by_cases Xc:b=b2;subst Xc;rw[Wk hb]at kC;cases kC;have hlen:(eX cs off (bf st.ep ((cs.drop off).take sh.ct.size))).length=cs.length:=by simp only[eX,bf,aj,cI,aY,aP];omega
  exact⟨cs,hb,by omega,Il iB (.inr RN)⟩;rw[Wl Xc]at kC;exact⟨DH,kC,Zx,rfl⟩
 obtain⟨Pe,TQ,TT,he⟩:=qJ;rw[he]at RN⊢;refine⟨_,(E7 hp Mr Gj TZ aaS).2 ⟨sh2,b2,OM,Pe,hT2,Ow,TQ,TT,hX2,RN,rfl⟩,(Fu ht ho hd hg Dy).2 ⟨sh,b,off,cs,hT,by rw[Qm n3];exact hr,hb,iB,hX,ajk,λhm=>?_,?_⟩⟩;have:=Lh hm;unfold D0 at this⊢;exact this;simp only[AS.put,AS.fD,AS.mk.injEq,jB];exact jL _ n1 _ _;obtain⟨T,q,d,ho,hd,hg,Dy,Lh⟩:=Mg hf;obtain⟨T2,q2,d2,hp,Mr,Gj,TZ,ajj⟩:=NV ht;have n1:d≠d2:=λe=>m1 d (by simp[hd]) (by simp[Mr,e]);have n2:d≠q2:=λe=>m1 d (by simp[hd]) (by simp[dY,hp,tm,e]);have n3:d2≠q:=λe=>m2 d2 (by simp[Mr]) (by simp[dY,ho,tm,e]);obtain⟨sh,b,off,cs,hT,hr,hb,iB,hX,nt,rfl⟩:=(E7 ho hd hg Dy Lh).1 h1;obtain⟨sh2,b2,OM,DH,hT2,Ow,Oa,Zx,hX2,ajk,aaS,rfl⟩:=(Fu ht hp Mr Gj TZ).1 h2;rw[Qm n2]at Ow;refine⟨_,(Fu ht hp Mr Gj TZ).2 ⟨sh2,b2,OM,DH,hT2,Ow,Oa,Zx,hX2,ajk,λhm=>aaS hm,rfl⟩,?_⟩;have qJ:∃Pe,(nth (iR st.boxes b2 (some (eX DH OM (bf st.ep ((DH.drop OM).take sh2.ct.size))))) b).getD none=some Pe/\off+sh.ct.size<=Pe.length/\(Pe.drop off).take sh.ct.size=(cs.drop off).take sh.ct.size:=by
  by_cases Xc:b2=b;subst Xc;have IV:DH=cs:=cb (Oa.symm.trans hb);subst IV;have hlen:(eX DH OM (bf st.ep ((DH.drop OM).take sh2.ct.size))).length=DH.length:=by simp only[eX,bf,aj,cI,aY,aP];omega
  exact⟨_,Wk hb,by omega,Il Zx (.inl nt)⟩;exact⟨cs,by rw[Wl Xc];exact hb,iB,rfl⟩
 obtain⟨Pe,TQ,TT,he⟩:=qJ;refine(E7 ho hd hg Dy Lh).2 ⟨sh,b,off,Pe,hT,by rw[Qm n3,afi];exact hr,TQ,TT,hX,by rw[he];exact nt,?_⟩;rw[he];simp only[AS.put,AS.fD,AS.mk.injEq,jB];exact jL _ n1 _ _
theorem NU {o:Oper}(ht:EK an o=true)(ho:o.op=.load T (.tmp q))(hd:o.dst=some d)(hg:o.guard=none)(Dy:an.mv.contains d=true)(VY:an.mb d=none):cU E Γ an ops X o st=some s↔ ∃(g:Bool)(e:CT)(kE:ay (Nat×Nat))(b j t L3:Nat)(x:e.D)(i:Int)(cs:ay AC)(ys:ay e.D)(y:e.D),jN E.ty T=some ⟨g,e,kE⟩/\st.rd (.tmp q)=.val false [.BA (.loc L3 (some (.box b j,t))) e x i 0]/\(nth st.boxes b).getD none=some cs/\nth cs j=some (.sl (.own (some t)) e ys)/\idx ys i=some y/\ X.contains b=false/\an.eb q=some b/\VV an o=false/\s=(It st b j t e i cs ys).put (some d) (.val g (cellsOf e (.own none) y)):=by rw[<-NT ht ho hd Dy VY];unfold cU;cases dP E an X o st with|false=>simp|true=>simp only[ah,iq,hg,dD,ho,true_and]
theorem ab5 {o:Oper}(h:Bh an o=true):∃T q d,o.op=.load T (.tmp q)/\o.dst=some d/\o.guard=none/\an.mv.contains d=false/\VV an o=false:=by unfold Bh at h;split at h;rename_i T q d ho hd hg;simp only[ab,aN]at h;exact⟨T,q,d,ho,hd,hg,h.1.1,by simp only[VV,hd];exact h.1.2⟩;cases h
theorem Nj {o:Oper}(DE:Bh an o=true)(ho:o.op=.load T (.tmp q))(hd:o.dst=some d)(hg:o.guard=none)(Dy:an.mv.contains d=false)(Lh:VV an o=false):cU E Γ an ops X o st=some s↔ ∃sh b off cs,jN E.ty T=some sh/\st.rd (.tmp q)=.val false [.ptr b off]/\(nth st.boxes b).getD none=some cs/\off+sh.ct.size<=cs.length/\X.contains b=false/\ s=st.put (some d) (.val sh.agg (jn st.ep (.box b) off ((cs.drop off).take sh.ct.size))):=by
 unfold cU;constructor;intro h;cases hf:dP E an X o st with|false=>rw[hf]at h;cases h|true=>rw[hf]at h;simp only[ah,iq,hg,dD,ho]at h;unfold pC at h;split at h;rename_i sh b off hT hp;simp only[dP,ho,hp,hd,Dy,Lh,bQ,iM,ja,aN]at hf;split at h;rename_i cs hb;split at h;rename_i iB;simp only[hd,Dy,bh,cn]at h;cases h;exact⟨sh,b,off,cs,hT,hp,hb,iB,hf,rfl⟩;cases h;cases h;rename_i hp;simp only[dP,ho,hp,DE,ak,ee,eZ]at hf;cases hf;cases h
 rintro⟨sh,b,off,cs,hT,hp,hb,iB,hX,rfl⟩;have hf:dP E an X o st=true:=by simp only[dP,ho,hp,hd,Dy,hX,Lh];rfl
 rw[hf];simp only[ah,iq,hg,dD,ho,pC,hp,hT,hb,aF iB,hd,Dy,bh,cn]
theorem LJ:∀(cs:ay AC)(p k:Nat)(c':AC),(∀c,cs[k]?=some c->∀r,c'.borrow ep (some r)=c.borrow ep (some r))->jn ep (.box b) p (cs.set k c')=jn ep (.box b) p cs
 |[],_,_,_,_=>rfl
 |c::cs,p,0,c',h=>by simp only[List.set_cons_zero,jn,h c rfl]
 |c::cs,p,k+1,c',h=>by simp only[List.set_cons_succ,jn];rw[LJ cs (p+1) k c' (λc hc=>h c (by simpa using hc))]
theorem S7 {j n:Nat}{e:CT}{i:Int}{ys:ay e.D}{cs:ay AC}(hj:nth cs j=some (.sl (.own (some t)) e ys)): jn ep (.box b) off (((iR cs j (.sl (.gj (some t) i (some ep)) e ys)).drop off).take n)=jn ep (.box b) off ((cs.drop off).take n):=by rw[gr,List.drop_set];split;rfl;rename_i ir;rw[List.take_set];refine LJ _ _ _ _ λc hc r=>?_;by_cases hn:j-off<n;rw[dE hn,bK,show off+(j-off)=j by omega,<-eH,hj]at hc;cases hc;rfl;rw[bM (by simp;omega)]at hc;cases hc
theorem agx {o p:Oper}(ha:Wn an o p=true)(h1:cU E Γ an ops X o st=some s1)(h2:cU E Γ an ops Y p s1=some s2): ∃t1,cU E Γ an ops Y p st=some t1/\cU E Γ an ops X o t1=some s2:=by
 simp only[Wn,ab,aN]at ha;obtain⟨⟨⟨DE,ht⟩,m1⟩,m2⟩:=ha;have m1:=mI m1;have m2:=mI m2;obtain⟨T,q,d,ho,hd,hg,Dy,Lh⟩:=ab5 DE;obtain⟨T2,q2,d2,hp,Mr,Gj,TZ,ajj⟩:=QC ht;have n1:d≠d2:=λe=>m1 d (by simp[hd]) (by simp[Mr,e]);have n2:d≠q2:=λe=>m1 d (by simp[hd]) (by simp[dY,hp,tm,e]);have n3:d2≠q:=λe=>m2 d2 (by simp[Mr]) (by simp[dY,ho,tm,e]);obtain⟨sh,b,off,cs,hT,hr,hb,iB,hX,rfl⟩:=(Nj DE ho hd hg Dy Lh).1 h1;obtain⟨g,e,kE,b2,j,t,L3,x,i,DH,ys,y,hT2,Ow,Oa,hj,hi,hX2,RF,aaS,rfl⟩:=(NU ht hp Mr Gj TZ ajj).1 h2;rw[Qm n2]at Ow;have akZ:(nth st.boxes b2).getD none=some DH:=Oa;refine⟨_,(NU ht hp Mr Gj TZ ajj).2 ⟨g,e,kE,b2,j,t,L3,x,i,DH,ys,y,hT2,Ow,akZ,hj,hi,hX2,RF,aaS,rfl⟩,?_⟩;have qJ:∃Pe,(nth (iR st.boxes b2 (some (iR DH j (.sl (.gj (some t) i (some st.ep)) e ys)))) b).getD none=some Pe/\off+sh.ct.size<=Pe.length/\jn st.ep (.box b) off ((Pe.drop off).take sh.ct.size)=jn st.ep (.box b) off ((cs.drop off).take sh.ct.size):=by by_cases Xc:b2=b;subst Xc;have IV:DH=cs:=cb (akZ.symm.trans hb);subst IV;exact⟨_,Wk hb,by rw[gr,aK];exact iB,S7 hj⟩;exact⟨cs,by rw[Wl Xc];exact hb,iB,rfl⟩
 obtain⟨Pe,TQ,TT,he⟩:=qJ;refine(Nj DE ho hd hg Dy Lh).2 ⟨sh,b,off,Pe,hT,by rw[Qm n3];exact hr,TQ,TT,hX,?_⟩;show _=((It st b2 j t e i DH ys).put (some d2) _).put (some d) (.val sh.agg (jn st.ep (.box b) off ((Pe.drop off).take sh.ct.size)));rw[he];simp only[AS.put,It,AS.fD,AS.mk.injEq,jB];exact jL _ n1 _ _
def OQ (E:Env)(Γ:zP)(an:An)(ops:ay Oper)(X:Nat->fR):fR->AS->aC AS
 |[],st=>some st
 |i::r,st=>match nth ops i with
  |some o=>(cU E Γ an ops (X i) o st).bind (OQ E Γ an ops X r)
  |none=>none
theorem ND (AD:∀f,(Γ f).io=false/\((Γ f).bx=true->(Γ f).cur=true)/\(Γ f).pr=false){X:Nat->fR}{oi:Oper}(hi:nth ops i=some oi):∀(pre post:fR)(st r:AS),(∀j∈pre,∀oj,nth ops j=some oj->LA an ops (X j) (X i) oj oi=true)->
 OQ E Γ an ops X (pre++i::post) st=some r->OQ E Γ an ops X (i::(pre++post)) st=some r
 |[],post,st,r,_,h=>h
 |j::pre,post,st,r,ha,h=>by
  simp only[gO,OQ]at h;cases hj:nth ops j with
  |none=>rw[hj]at h;cases h
  |some oj=>
   rw[hj]at h;simp only at h;obtain⟨s1,h1,h2⟩:=aW.1 h;have h3:=ND AD hi pre post s1 r (λk hk=>ha k (by simp[hk])) h2;simp only[OQ,hi]at h3;obtain⟨s2,h4,h5⟩:=aW.1 h3;have hap:=ha j (by simp) oj hj;obtain⟨t1,k1,k2⟩:∃t1,cU E Γ an ops (X i) oi st=some t1/\cU E Γ an ops (X j) oj t1=some s2:=by cases hx:afc an oj oi with|false=>rw[LA,hx,cd]at hap;exact YA AD hap h1 h4|true=>simp only[afc,cH]at hx;rcases hx with((hx|hx)|hx)|hx;exact ad3 hx h1 h4;exact agC hx h1 h4;exact ahe hx h1 h4;exact agx hx h1 h4
   simp only[OQ,hi,k1,fg,gO,hj,k2];exact h5
end Go.Dn
