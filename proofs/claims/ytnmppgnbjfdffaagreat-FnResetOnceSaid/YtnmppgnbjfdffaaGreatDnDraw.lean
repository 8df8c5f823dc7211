import Derived.Test.YtnmppgnbjfdffaaGreatDnUpd
/- Operations that are apart may change places. -/
namespace Go.Dn
variable {E:Env} {Γ:xl} {an:An} {ops:aw Oper}
variable {s s1 s2 st:AS} {b d ep i off q t:Nat} {α:Type} {T:TypeId} {X Y:ff}
def cu (E:Env)(Γ:xl)(an:An)(ops:aw Oper)(X:ff)(o:Oper)(st:AS):ay AS:=
 bif dp E an X o st then fZ E Γ an ops o st some else none
structure Nj (an:An) (ops:List Oper) (X:List Nat) (o:Oper) (st st2:AS):Prop where
 base:gz an X o st st2
 gd:∀t∈BG an ops o,st2.get t=st.get t
theorem RI {b:Bool}(h:st.get d=.val false [.bool b]):st.put (some d) (.one (.bool b))=st:=by cases st with|mk slots boxes ep iss io=>simp only[AS.put,AS.mk.injEq,iv];rw[fb];apply cE;intro i;rw[bm];split;rename_i hd;subst hd;simp only[AS.get,dF]at h;split;rename_i hG;rw[al hG]at h⊢;simp only[fj]at h;rw[h];rename_i yc;rw[bu (Nat.le_of_not_lt yc)];rfl
theorem N1 {st2:AS}{s:Nat}(h:nth st2.boxes s=nth st.boxes s):BA E T st2 s off=BA E T st s off:=by unfold BA;rw[h]
theorem DT {o:Oper}{st2:AS}(ha:gz an X o st st2):dp E an X o st2=dp E an X o st:=by
 unfold dp;split;rename_i ho;rw[ha.rd (λt ht=>by simpa[dA,ho]using ht)];rename_i T p ho;rw[ha.rd (λt ht=>by simp[dA,ho,ht]),ha.ep];rename_i ho;rw[ha.rd (λt ht=>by simp[dA,ho,ht]),ha.ep];rename_i f args ts ho;have hcur:ra an X (Zh an o) st2 args.toList=ra an X (Zh an o) st args.toList:=by
  have hl:∀x∈args.toList,∀t∈tm x,t∈dA o:=by intro x hx t ht;simp only[dA,ho,ax,LS,List.mem_flatMap];exact .inr ⟨x,hx,ht⟩
  generalize args.toList=l at hl;cases l with
  |nil=>rfl
  |cons x xs=>
   have yt:xs.all (FG (Zh an o) st2)=xs.all (FG (Zh an o) st):=by
    rw[dC];simp only[aI];have e:∀y∈xs,FG (Zh an o) st2 y=FG (Zh an o) st y:=by intro y hy;cases y with|tmp t=>have hg:=ha.get t (hl (.tmp t) (by simp[hy]) t (by simp[tm]));simp only[FG,hg]|const v=>rfl|func v=>rfl|global v=>rfl
    exact⟨λg y hy=>by rw[<-e y hy];exact g y hy,λg y hy=>by rw[e y hy];exact g y hy⟩
   have hr:=ha.rd (hl x (by simp));cases x with
   |tmp q=>
    simp only[ra,hr];generalize st.rd (.tmp q)=v;unfold ZN;rw[yt];split;rename_i s off;cases hX:X.contains s with|true=>simp|false=>rw[ha.box s hX]
    rfl
   |const v=>simp only[ra,hr]
   |func v=>simp only[ra,hr]
   |global v=>simp only[ra,hr]
 rw[hcur];congr 1;rw[dC];simp only[aI];constructor;intro hx x hm;have:=hx x hm;rwa[ha.rd (λt ht=>by simp only[dA,ho,ax,LS,List.mem_flatMap];exact .inr ⟨x,hm,ht⟩),ha.ep]at this;intro hx x hm;rw[ha.rd (λt ht=>by simp only[dA,ho,ax,LS,List.mem_flatMap];exact .inr ⟨x,hm,ht⟩),ha.ep];exact hx x hm;rename_i ho;rw[ha.rd (λt ht=>by simpa[dA,ho]using ht),ha.ep];split;rename_i s off _;cases hX:X.contains s with|true=>rfl|false=>rw[N1 (ha.box s hX)]
 rfl;rfl;rename_i ho;rw[ha.rd (λt ht=>by simp only[dA,ho,ax];exact .inl ht)];rename_i ho;rw[ha.get _ (by simp[dA,ho])];rfl
theorem HR (yd:∀f,(Γ f).io=false/\((Γ f).bx=true->(Γ f).cur=true)/\(Γ f).pr=false){o:Oper}{bI:AS}(hm:mz an o=true)(h:cu E Γ an ops X o st=some bI): ∃u:F6,u.DF an o/\bI=u.apply st/\∀st2,Nj an ops X o st st2->cu E Γ an ops X o st2=some (u.apply st2):=by
 unfold cu at h;cases hf:dp E an X o st with
 |false=>rw[hf]at h;cases h
 |true=>
  rw[hf]at h;simp only[ah]at h;unfold fZ at h;split at h;rename_i hg;obtain⟨u,h1,h2,h3⟩:=KR (X:=X) yd hm hf h;refine⟨u,h1,h2,λst2 ha=>?_⟩;unfold cu;rw[DT ha.base,hf];simp only[ah,fZ,hg];exact h3 st2 ha.base;rename_i j Ei hg;split at h;rename_i d hd;have rP:d∈BG an ops o:=by simp[BG,hg,hd]
  split at h;rename_i b hb;have W9:(if(b==Ei)=true then cU E Γ an o st some else some (st.put o.dst (.one .un)))=some bI:=by cases b<;>simpa only[ah,af,RI hb]using h
  have h2g:∀st2,Nj an ops X o st st2->cu E Γ an ops X o st2=(if(b==Ei)=true then cU E Γ an o st2 some else some (st2.put o.dst (.one .un))):=by
   intro st2 ha;have IB:st2.get d=.val false [.bool b]:=by rw[ha.gd d rP];exact hb
   unfold cu;rw[DT ha.base,hf];simp only[ah,fZ,hg,hd,IB];cases b<;>simp only[ah,af,RI IB]
  split at W9;rename_i hw;obtain⟨u,h1,h2,h3⟩:=KR (X:=X) yd hm hf W9;exact⟨u,h1,h2,λst2 ha=>by rw[h2g st2 ha,aF hw];exact h3 st2 ha.base⟩;rename_i hw;cases W9;exact⟨AI o (.one .un),zg _,by rw[qn],λst2 ha=>by rw[h2g st2 ha,aG hw,qn]⟩;rename_i hb;cases h;refine⟨AI o (.one .un),zg _,by rw[qn],λst2 ha=>?_⟩;have IB:st2.get d=.val false [.un]:=by rw[ha.gd d rP];exact hb
  unfold cu;rw[DT ha.base,hf,qn];simp only[ah,fZ,hg,hd,IB];cases h;cases h
theorem iL (l:aw α){j:Nat}(h:i≠j)(v w:α):gI (gI l i v) j w=gI (gI l j w) i v:=by rw[fb,fb,fb,fb,List.set_comm _ _ h]
theorem UK (l:aw AV)(a:aw (Nat×AV))(v:AV)(h:∀x∈a,x.1≠i):jw (gI l i v) a=gI (jw l a) i v:=by induction a generalizing l with|nil=>rfl|cons x a ih=>simp only[jw];rw[iL _ (cL (h x (by simp))),ih _ (λy hy=>h y (by simp[hy]))]
theorem RF (l:aw AV)(a b:aw (Nat×AV))(h:∀x∈a,∀y∈b,x.1≠y.1):jw (jw l a) b=jw (jw l b) a:=by induction b generalizing l with|nil=>rfl|cons y b ih=>simp only[jw];rw[<-UK l a y.2 (λx hx=>h x hx y (by simp)),ih _ (λx hx z hz=>h x hx z (by simp[hz]))]
theorem LG (l:aw AV)(a:aw (Nat×AV))(h:∀x∈a,x.1≠t):nth (jw l a) t=nth l t:=by induction a generalizing l with|nil=>rfl|cons x a ih=>rw[jw,ih _ (λy hy=>h y (by simp[hy])),jh,aG (h x (by simp))]
theorem lb {a b:ff}(h:meets a b=false):∀x∈a,x∉b:=by intro x hx hb;unfold meets at h;rw[List.any_eq_false]at h;exact h x hx (by simpa using hb)
theorem F6.ZB {u:F6}{o p:Oper}(hw:u.DF an o)(h1:∀x∈writes an o,x∉dA p++BG an ops p++writes an p)(h2:∀d∈Cn an o,Y.contains d=true)(h3:∀d∈Cn an o,p.dst≠some d): Nj an ops Y p (u.apply st) st/\Nj an ops Y p st (u.apply st):=by
 have gG:∀t,t∈dA p++BG an ops p++writes an p->(u.apply st).get t=st.get t:=by intro t ht;unfold AS.get;have:nth (u.apply st).slots t=nth st.slots t:=LG _ _ (λx hx he=>h1 _ (hw.slots x hx) (by rw[he];exact ht));rw[this]
 have W5:∀d,p.dst=some d->nth (u.apply st).iss d=nth st.iss d/\nth (u.apply st).boxes d=nth st.boxes d:=by
  intro d hd;have hd':d∈dA p++BG an ops p++writes an p:=by simp[writes,hd]
  have Ad:o.dst≠some d:=λhe=>h1 d (by simp[writes,he]) hd';constructor;unfold F6.apply;cases hi:u.iss with|none=>rfl|some k=>simp only;rw[jh,aG];rintro rfl;exact Ad (hw.iss _ hi)
  unfold F6.apply;cases hi:u.box with|none=>rfl|some k=>simp only;rw[jh,aG];intro he;exact h3 _ (hw.box k hi) (by rw[he];exact hd)
 have ahb:∀s,Y.contains s=false->nth (u.apply st).boxes s=nth st.boxes s:=by intro s hs;unfold F6.apply;cases hi:u.box with|none=>rfl|some k=>simp only;rw[jh,aG];rintro rfl;have:=h2 k.1 (hw.box k hi);rw[this]at hs;cases hs
 have hlen:(u.apply st).slots.length=st.slots.length:=Ks _ _;exact⟨⟨⟨hlen.symm,λt ht=>(gG t (by simp[ht])).symm,rfl,λd hd=>⟨((W5 d hd).1).symm,((W5 d hd).2).symm⟩,λs hs=>(ahb s hs).symm,λt ht=>(gG t (by simp[BG,ht])).symm⟩,λt ht=>(gG t (by simp[ht])).symm⟩,⟨⟨hlen,λt ht=>gG t (by simp[ht]),rfl,W5,ahb,λt ht=>gG t (by simp[BG,ht])⟩,λt ht=>gG t (by simp[ht])⟩⟩
theorem SM {u v:F6}{o p:Oper}(hu:u.DF an o)(hv:v.DF an p)(h:∀x∈writes an o,x∉writes an p)(hb:∀x∈Cn an o,x∉Cn an p):v.apply (u.apply st)=u.apply (v.apply st):=by
 have N8:∀a b,o.dst=some a->p.dst=some b->a≠b:=λa b ha hb he=>h a (by simp[writes,ha]) (by simp[writes,hb,he]);have hs:=RF st.slots u.slots v.slots (λx hx y hy he=>h _ (hu.slots x hx) (by rw[he];exact hv.slots y hy));simp only[F6.apply,AS.mk.injEq,true_and,iv];refine⟨hs,?_,?_⟩;cases hub:u.box with|none=>cases v.box<;>rfl|some k=>cases hvb:v.box with|none=>rfl|some l=>exact iL _ (λhe=>hb _ (hu.box k hub) (by rw[he];exact hv.box l hvb)) _ _
 cases hui:u.iss with|none=>cases v.iss<;>rfl|some k=>cases hvi:v.iss with|none=>rfl|some l=>exact iL _ (N8 _ _ (hu.iss k hui) (hv.iss l hvi)) _ _
theorem U6 (yd:∀f,(Γ f).io=false/\((Γ f).bx=true->(Γ f).cur=true)/\(Γ f).pr=false){o p:Oper}(ha:SK an ops X Y o p=true)(h1:cu E Γ an ops X o st=some s1)(h2:cu E Γ an ops Y p s1=some s2): ∃t1,cu E Γ an ops Y p st=some t1/\cu E Γ an ops X o t1=some s2:=by
 simp only[SK,ae,aL,aI]at ha;obtain⟨⟨⟨⟨⟨⟨⟨mo,mp⟩,w1⟩,w2⟩,b1⟩,b2⟩,b3⟩,b4⟩:=ha;have w1:=lb w1;have w2:=lb w2;have b3:=lb b3;have b4:=lb b4;obtain⟨u,hu,rfl,hu2⟩:=HR yd mo h1;obtain⟨v,hv,rfl,Oj⟩:=HR yd mp h2;have ag1:=F6.ZB (ops:=ops) (p:=p) (Y:=Y) (st:=st) hu w1 b1 (λd hd he=>b3 d hd (by simp[he]));have hww:∀x∈writes an p,x∉dA o++BG an ops o++writes an o:=by intro x hx hm;rcases ax.1 hm with hm|hm;exact w2 x hx hm;exact w1 x hm (by simp[hx])
 have ag2:=F6.ZB (ops:=ops) (p:=o) (Y:=X) (st:=st) hv hww b2 (λd hd he=>b4 d hd (by simp[he]));refine⟨v.apply st,Oj st ag1.1,?_⟩;rw[hu2 _ ag2.2,SM hu hv (λx hx hm=>w1 x hx (by simp[hm])) (λx hx hm=>b3 x hx (by simp[hm]))]
theorem ES {v w:AV}(h:st.get t=v)(hv:v≠ .bot):(st.put (some t) w).get t=w:=by
 unfold AS.get at h;cases hn:nth st.slots t with
 |none=>rw[hn]at h;exact absurd h.symm hv
 |some q=>
  have hl:t<st.slots.length:=by rw[dF]at hn;exact(aE.1 hn).1
  unfold AS.get AS.put;simp only[dF,fb];rw[List.getElem?_set_self hl];rfl
theorem rN {w:AV}(h:d≠t):(st.put (some d) w).get t=st.get t:=by unfold AS.get AS.put;simp only[jh,aG h]
theorem zk {o:Oper}(ho:o.op=.extract (.tmp t) i)(hd:o.dst=some d)(hg:o.guard=none):cu E Γ an ops X o st=some s↔ ∃vs g cs,st.get t=.tS vs/\nth vs i=some (g,cs)/\(cs.all AC.jd||an.mv.contains d)=true/\s=(st.put (some t) (.tS (gI vs i (g,aQ 0 cs)))).put (some d) (.val g cs):=by
 unfold cu;simp only[dp,ho,hd];constructor;intro h;cases hv:st.get t with|val g cs=>simp only[hv,ah,fZ,hg,cU,ho,kS]at h;cases h|tS vs=>simp only[hv]at h;cases hn:nth vs i with|none=>simp only[hn,ah,fZ,hg,cU,ho,kS,hv]at h;cases h|some x=>obtain⟨g,cs⟩:=x;simp only[hn]at h;cases hf:(cs.all AC.jd||an.mv.contains d)with|false=>rw[hf]at h;cases h|true=>rw[hf]at h;simp only[ah,fZ,hg,cU,ho,kS,hv,hn,hd]at h;cases h;exact⟨vs,g,cs,rfl,hn,hf,rfl⟩
 rintro⟨vs,g,cs,hv,hn,hf,rfl⟩;simp only[hv,hn,hf,ah,fZ,hg,cU,ho,kS,hd]
theorem YG (l:aw α)(i:Nat)(v w:α):gI (gI l i v) i w=gI l i w:=by rw[fb,fb,fb,List.set_set]
theorem aar {o p:Oper}(ha:Tx o p=true)(h1:cu E Γ an ops X o st=some s1)(h2:cu E Γ an ops Y p s1=some s2): ∃t1,cu E Γ an ops Y p st=some t1/\cu E Γ an ops X o t1=some s2:=by
 unfold Tx at ha;split at ha;rename_i t i t' j d d' ho hp hd hd' hg mO;simp only[ae,bc,aL,cI,ne_eq]at ha;obtain⟨⟨⟨⟨rfl,hij⟩,N8⟩,hdt⟩,ahf⟩:=ha;obtain⟨vs,g,cs,hv,hn,hf,rfl⟩:=(zk ho hd hg).1 h1;obtain⟨vs2,g2,Bf,Oj,Bg,Aa,rfl⟩:=(zk hp hd' mO).1 h2;have hq:((st.put (some t) (.tS (gI vs i (g,aQ 0 cs)))).put (some d) (.val g cs)).get t=.tS (gI vs i (g,aQ 0 cs)):=by rw[rN hdt,ES hv (by simp)]
 rw[hq]at Oj;cases Oj;rw[jh,aG hij]at Bg;refine⟨_,(zk hp hd' mO).2 ⟨vs,g2,Bf,hv,Bg,Aa,rfl⟩,(zk ho hd hg).2 ⟨gI vs j (g2,aQ 0 Bf),g,cs,?_,?_,hf,?_⟩⟩;rw[rN ahf,ES hv (by simp)];rw[jh,aG (cL hij)];exact hn;have e:=iL vs hij (g,aQ 0 cs) (g2,aQ 0 Bf);have a:∀(A B:AV)(q:Nat)(v:AV),q≠t->gI (gI (gI st.slots t A) q v) t B=gI (gI st.slots t B) q v:=λA B q v hq=>by rw[iL _ hq,YG]
 simp only[AS.put,AS.mk.injEq,iv];rw[a _ _ _ _ hdt,a _ _ _ _ ahf,e,iL _ N8];cases ha
theorem Wb (s:AS)(t:Nat):s.put (some t) (s.get t)=s:=by cases s with|mk slots boxes ep iss io=>simp only[AS.put,AS.mk.injEq,iv];rw[fb];apply cE;intro i;rw[bm];split;rename_i hd;subst hd;simp only[AS.get,dF];split;rename_i hG;rw[al hG];rfl;rename_i yc;rw[bu (Nat.le_of_not_lt yc)];rfl
theorem R1 {o:Oper}(hd:o.dst=some d)(hg:o.guard=none)(ho:(o.op=.move (.tmp t)/\an.mv.contains d=false/\an.fm.contains d=true)\/∃i,o.op=.extract (.tmp t) i)(_hdt:d≠t)(h:cu E Γ an ops X o st=some s): ∃tv v,s=(st.put (some t) tv).put (some d) v/\∀st2:AS,st2.get t=st.get t->cu E Γ an ops X o st2=some ((st2.put (some t) tv).put (some d) v):=by
 rcases ho with⟨ho,AX,IC⟩|⟨i,ho⟩;have JJ:∀st2:AS,st2.get t=st.get t->(st.rd (.tmp t)).kx=true->st2.rd (.tmp t)=st.get t:=by
  intro st2 hq hs;simp only[AS.rd,hq]at hs⊢;cases hv:st.get t with
  |tS vs=>rw[hv]at hs;simp[AV.borrow,AV.kx]at hs
  |val g cs=>
   rw[hv]at hs;simp only[AV.borrow,AV.kx]at hs⊢;congr 1;have key:∀(cs:aw AC)(j:Nat),(ic st.ep (λj=>jU.slot t j) j cs).all AC.kx=true->ic st2.ep (λj=>jU.slot t j) j cs=cs:=by
    intro cs;induction cs with
    |nil=>intro j _;rfl
    |cons c cs ih=>
     intro j h;simp only[ic,bV,ae]at h⊢;rw[ih (j+1) h.2];congr 1;cases c with
     |sl fl e xs=>cases fl with|eX _ _ ep=>cases ep<;>simp[AC.borrow,AC.kx]at h|_=>simp[AC.borrow,AC.kx]at h
     |_=>rfl
   exact key cs 0 hs
 unfold cu at h;have lN:(st.rd (.tmp t)).kx=true:=by cases hs:(st.rd (.tmp t)).kx with|true=>rfl|false=>simp only[dp,ho,Sv,hd,IC,hs]at h;cases h
 refine⟨st.get t,st.get t,?_,λst2 hq=>?_⟩;simp only[dp,ho,Sv,hd,IC,lN,js,ah,fZ,hg,cU,zG,AX,aU,bQ]at h;cases h;rw[JJ st rfl lN];congr 1;exact(Wb st t).symm;unfold cu;have e1:=JJ st2 hq lN;have Og:(st2.rd (.tmp t)).kx=true:=by rw[e1,<-JJ st rfl lN];exact lN
 simp only[dp,ho,Sv,hd,IC,Og,js,ah,fZ,hg,cU,zG,AX,aU,bQ];rw[e1,<-hq,Wb];obtain⟨vs,g,cs,hv,hn,hf,rfl⟩:=(zk ho hd hg).1 h;refine⟨_,_,rfl,λst2 hq=>(zk ho hd hg).2 ⟨vs,g,cs,by rw[hq,hv],hn,hf,rfl⟩⟩
theorem acU {p:Oper}{x:Nat}(hp:p.op=.store T (.tmp q) (.tmp x))(hd:p.dst=none)(hg:p.guard=none)(N9:(an.eb q).isSome=true)(W7:(an.es q).isNone=true)(VS:(an.sb q).isNone=true)(hl:xP an p=false)(h:cu E Γ an ops Y p st=some s): ∃B,s=⟨gI st.slots x ((st.get x).aQ st.ep),B,st.ep+1,st.iss,st.io⟩/\ ∀st2:AS,st2.get q=st.get q->st2.get x=st.get x->st2.boxes=st.boxes->st2.ep=st.ep->st2.iss=st.iss->st2.io=st.io-> cu E Γ an ops Y p st2=some ⟨gI st2.slots x ((st.get x).aQ st.ep),B,st.ep+1,st.iss,st.io⟩:=by
 have fR:∀st2:AS,st2.get q=st.get q->st2.ep=st.ep->dp E an Y p st2=dp E an Y p st:=by intro st2 h1 h2;simp only[dp,hp,AS.rd,h1,h2]
 unfold cu at h;cases hf:dp E an Y p st with
 |false=>rw[hf]at h;cases h
 |true=>
  rw[hf]at h;simp only[ah,fZ,hg,cU,hp,hd,hl,aU,bQ]at h;have je:=hf;simp only[dp,hp]at je;have JE:((an.sb q).isNone&&(an.eb q).isNone&&(an.es q).isNone)=false:=by cases he:an.eb q with|none=>rw[he]at N9;cases N9|some _=>simp
  rw[JE,cC]at je;unfold uC at h;split at h;rename_i JJ;rw[JJ]at je;simp only[ae,bc]at je;rw[je.2]at VS;cases VS;rename_i sh Jg r tg e y i off hT JJ;rw[JJ]at je;cases r with
  |slot _ _=>simp only[ae,bc]at je;rw[je.1.1]at W7;cases W7
  |io _=>simp at je
  |box b j=>
   split at h;rename_i gg vs st1 qD;have e1:(st.get x)=.val gg vs:=by have:=congrArg Prod.fst qD;exact this
   have e2:st1=⟨gI st.slots x ((st.get x).aQ st.ep),st.boxes,st.ep,st.iss,st.io⟩:=by have:=congrArg Prod.snd qD;exact this.symm
   split at h;rename_i hlen;have main:∃B,∀sl:aw AV,(⟨sl,st.boxes,st.ep,st.iss,st.io⟩:AS).nT (.box b j) tg e i off vs some=some ⟨sl,B,st.ep+1,st.iss,st.io⟩:=by
    subst e2;simp only[AS.nT,AS.eJ,AS.eP,AS.eu]at h⊢;cases hb:(nth st.boxes b).getD none with
    |none=>rw[hb]at h;simp at h
    |some cs=>
     rw[hb]at h;simp only[ec]at h⊢;split at h;rename_i t' e' xs hn;split at h;rename_i he;simp only[dif_pos he];generalize (he▸xs:aw e.D)=zs at h⊢;split at h;rename_i ht;simp only[aF ht];cases hi:idx zs i with|none=>rw[hi]at h;simp[aa]at h|some y0=>simp only[hi,aa]at h⊢;split at h;exact⟨_,λsl=>rfl⟩;cases h
     cases h;cases h;rename_i t' i' q0 e' xs hn;split at h;rename_i he;simp only[dif_pos he];generalize (he▸xs:aw e.D)=zs at h⊢;split at h;rename_i ht;simp only[aF ht];cases hi:Xg zs i' i with|none=>rw[hi]at h;simp[aa]at h|some y0=>simp only[hi,aa]at h⊢;split at h;exact⟨_,λsl=>rfl⟩;cases h
     cases h;cases h;cases h
   obtain⟨B,hB⟩:=main;refine⟨B,?_,λst2 h1 h2 h3 h4 h5 h6=>?_⟩;subst e2;rw[hB]at h;exact(dm h).symm;unfold cu;rw[fR st2 h1 h4,hf];have r2:st2.rd (.tmp q)=st.rd (.tmp q):=by simp only[AS.rd,h1,h4]
   have t2:st2.take (.tmp x)=(.val gg vs,⟨gI st2.slots x ((st.get x).aQ st.ep),st.boxes,st.ep,st.iss,st.io⟩):=by simp only[AS.take,AS.put,h2,h3,h4,h5,h6,e1]
   simp only[ah,fZ,hg,cU,hp,hd,hl,aU,bQ,uC,hT,r2,JJ,t2];rw[aF hlen];exact hB _;cases h;cases h
  cases h
theorem aam {p:Oper}{x:Nat}(hp:p.op=.store T (.tmp q) (.tmp x))(hd:p.dst=none)(hg:p.guard=none)(W7:an.es q=some b)(N9:(an.eb q).isNone=true)(jt:b≠x)(VS:(an.sb q).isNone=true)(hl:xP an p=false)(h:cu E Γ an ops Y p st=some s): ∃B,s=⟨gI (gI st.slots x ((st.get x).aQ st.ep)) b B,st.boxes,st.ep+1,st.iss,st.io⟩/\ ∀st2:AS,st2.get q=st.get q->st2.get x=st.get x->nth st2.slots b=nth st.slots b->st2.boxes=st.boxes->st2.ep=st.ep->st2.iss=st.iss->st2.io=st.io-> cu E Γ an ops Y p st2=some ⟨gI (gI st2.slots x ((st.get x).aQ st.ep)) b B,st.boxes,st.ep+1,st.iss,st.io⟩:=by
 have fR:∀st2:AS,st2.get q=st.get q->st2.ep=st.ep->dp E an Y p st2=dp E an Y p st:=by intro st2 h1 h2;simp only[dp,hp,AS.rd,h1,h2]
 unfold cu at h;cases hf:dp E an Y p st with
 |false=>rw[hf]at h;cases h
 |true=>
  rw[hf]at h;simp only[ah,fZ,hg,cU,hp,hd,hl,aU,bQ]at h;have je:=hf;simp only[dp,hp]at je;have JE:((an.sb q).isNone&&(an.eb q).isNone&&(an.es q).isNone)=false:=by rw[W7];simp
  rw[JE,cC]at je;unfold uC at h;split at h;rename_i JJ;rw[JJ]at je;simp only[ae,bc]at je;rw[je.2]at VS;cases VS;rename_i sh Jg r tg e y i off hT JJ;rw[JJ]at je;cases r with
  |box _ _=>simp only[ae,bc]at je;rw[je.1.1]at N9;cases N9
  |io _=>simp at je
  |slot b' j=>
   simp only[ae,bc]at je;have TG:b'=b:=dm (je.1.1.symm.trans W7);subst TG;split at h;rename_i gg vs st1 qD;have e1:(st.get x)=.val gg vs:=by have:=congrArg Prod.fst qD;exact this
   have e2:st1=⟨gI st.slots x ((st.get x).aQ st.ep),st.boxes,st.ep,st.iss,st.io⟩:=by have:=congrArg Prod.snd qD;exact this.symm
   split at h;rename_i hlen;have main:∃B,∀sl:aw AV,nth sl b'=nth st.slots b'->(⟨sl,st.boxes,st.ep,st.iss,st.io⟩:AS).nT (.slot b' j) tg e i off vs some=some ⟨gI sl b' B,st.boxes,st.ep+1,st.iss,st.io⟩:=by
    subst e2;have gG:∀sl:aw AV,nth sl b'=nth st.slots b'->(⟨sl,st.boxes,st.ep,st.iss,st.io⟩:AS).get b'=st.get b':=λsl hq=>by unfold AS.get;rw[hq]
    have hq0:nth (gI st.slots x ((st.get x).aQ st.ep)) b'=nth st.slots b':=by rw[jh,aG (cL jt)]
    simp only[AS.nT,AS.eJ,AS.eP,gG _ hq0]at h;cases hb:st.get b' with
    |tS _=>rw[hb]at h;simp at h
    |val g0 cs=>
     rw[hb]at h;simp only at h;split at h;rename_i t' e' xs hn;split at h;rename_i he;split at h;rename_i ht;cases hi:idx (he▸xs:aw e.D) i with|none=>rw[hi]at h;simp[aa]at h|some y0=>simp only[hi,aa]at h;split at h;rename_i x' yT;refine⟨.val g0 (gI cs j (.sl (.own (some t')) e ((he▸xs:aw e.D).set i.toNat x'))),λsl hq=>?_⟩;simp only[AS.nT,AS.eJ,AS.eP,gG _ hq,hb,hn,dif_pos he,aF ht,hi,aa,yT,AS.put];cases h
     cases h;cases h;rename_i t' i' q0 e' xs hn;split at h;rename_i he;split at h;rename_i ht;cases hi:Xg (he▸xs:aw e.D) i' i with|none=>rw[hi]at h;simp[aa]at h|some y0=>simp only[hi,aa]at h;split at h;rename_i x' yT;refine⟨.val g0 (gI cs j (.sl (.own (some t')) e ((he▸xs:aw e.D).set i.toNat x'))),λsl hq=>?_⟩;simp only[AS.nT,AS.eJ,AS.eP,gG _ hq,hb,hn,dif_pos he,aF ht,hi,aa,yT,AS.put];cases h
     cases h;cases h;cases h
   obtain⟨B,hB⟩:=main;refine⟨B,?_,λst2 h1 h2 tZ h3 h4 h5 h6=>?_⟩;subst e2;rw[hB _ (by rw[jh,aG (cL jt)])]at h;exact(dm h).symm;unfold cu;rw[fR st2 h1 h4,hf];have r2:st2.rd (.tmp q)=st.rd (.tmp q):=by simp only[AS.rd,h1,h4]
   have t2:st2.take (.tmp x)=(.val gg vs,⟨gI st2.slots x ((st.get x).aQ st.ep),st.boxes,st.ep,st.iss,st.io⟩):=by simp only[AS.take,AS.put,h2,h3,h4,h5,h6,e1]
   simp only[ah,fZ,hg,cU,hp,hd,hl,aU,bQ,uC,hT,r2,JJ,t2];rw[aF hlen];exact hB _ (by rw[jh,aG (cL jt)];exact tZ);cases h;cases h
  cases h
theorem acT {o p:Oper}(ha:Tt an o p=true)(h1:cu E Γ an ops X o st=some s1)(h2:cu E Γ an ops Y p s1=some s2): ∃t1,cu E Γ an ops Y p st=some t1/\cu E Γ an ops X o t1=some s2:=by
 unfold Tt at ha;split at ha;rename_i T q x hp hpd hpg;simp only[ae,aL]at ha;obtain⟨⟨⟨N9,VS⟩,hl⟩,ha⟩:=ha;have ahc:∃d t,o.dst=some d/\o.guard=none/\((o.op=.move (.tmp t)/\an.mv.contains d=false/\an.fm.contains d=true)\/∃i,o.op=.extract (.tmp t) i)/\d≠q/\d≠x/\t≠x/\d≠t/\t≠q:=by split at ha;rename_i t d ho hd hg;simp only[ae,aL,cI]at ha;exact⟨d,t,hd,hg,.inl ⟨ho,ha.1.1.1.1.1.1,ha.1.1.1.1.1.2⟩,ha.1.1.1.1.2,ha.1.1.1.2,ha.1.1.2,ha.2,ha.1.2⟩;rename_i t i d ho hd hg;simp only[ae,aL,cI]at ha;exact⟨d,t,hd,hg,.inr ⟨i,ho⟩,ha.1.1.1.1,ha.1.1.1.2,ha.1.1.2,ha.2,ha.1.2⟩;cases ha
 obtain⟨d,t,hd,hg,ho,hdq,hdx,htx,hdt,htq⟩:=ahc;obtain⟨tv,v,rfl,dV⟩:=R1 hd hg ho hdt h1;have hq:((st.put (some t) tv).put (some d) v).get q=st.get q:=by rw[rN hdq];exact rN htq
 have hx:((st.put (some t) tv).put (some d) v).get x=st.get x:=by rw[rN hdx,rN htx]
 simp only[cz,ae]at N9;rcases N9 with⟨N9,W7⟩|W7;obtain⟨B,rfl,W9⟩:=acU hp hpd hpg N9 W7 VS hl h2;have k1:=W9 st hq.symm hx.symm rfl rfl rfl rfl;refine⟨_,k1,?_⟩;have DW:(⟨gI st.slots x ((((st.put (some t) tv).put (some d) v).get x).aQ ((st.put (some t) tv).put (some d) v).ep),B,((st.put (some t) tv).put (some d) v).ep+1,((st.put (some t) tv).put (some d) v).iss,((st.put (some t) tv).put (some d) v).io⟩:AS).get t=st.get t:=by simp only[AS.get,jh,aG (cL htx)]
 rw[dV _ DW];simp only[AS.put,aZ,AS.mk.injEq,iv];rw[iL _ (cL htx),iL _ (cL hdx)];cases hb:an.es q with
 |none=>rw[hb]at W7;cases W7
 |some b=>
  rw[hb]at W7;simp only[ae,aL,cI]at W7;obtain⟨⟨⟨N9,jt⟩,_⟩,hbw⟩:=W7;have hbw:=lb hbw b (by simp);have hbd:b≠d:=λe=>hbw (by simp[hd,e]);have hbt:b≠t:=λe=>hbw (by refine ax.2 (.inr ?_);rcases ho with⟨ho,_⟩|⟨i,ho⟩<;>simp[dA,ho,tm,e]);obtain⟨B,rfl,W9⟩:=aam hp hpd hpg hb N9 jt VS hl h2;have tZ:nth st.slots b=nth ((st.put (some t) tv).put (some d) v).slots b:=by simp only[AS.put,jh,aG (cL hbd),aG (cL hbt)]
  have k1:=W9 st hq.symm hx.symm tZ rfl rfl rfl rfl;refine⟨_,k1,?_⟩;have DW:(⟨gI (gI st.slots x ((((st.put (some t) tv).put (some d) v).get x).aQ ((st.put (some t) tv).put (some d) v).ep)) b B,((st.put (some t) tv).put (some d) v).boxes,((st.put (some t) tv).put (some d) v).ep+1,((st.put (some t) tv).put (some d) v).iss,((st.put (some t) tv).put (some d) v).io⟩:AS).get t=st.get t:=by simp only[AS.get,jh,aG (cL htx),aG hbt]
  rw[dV _ DW];simp only[AS.put,aZ,AS.mk.injEq,iv];rw[iL _ hbt,iL _ hbd,iL _ (cL htx),iL _ (cL hdx)]
 cases ha
theorem O9 {c:AC}(h:c.kx=true\/(c.borrow ep none).kx=true):c.borrow ep none=c:=by
 cases c with
 |sl fl e xs=>exfalso;cases fl with|eX _ _ ep=>cases ep<;>simp[AC.borrow,AC.kx]at h|_=>simp[AC.borrow,AC.kx]at h
 |_=>rfl
theorem KO {cs:aw AC}{n:Nat}(gu:off+n<=cs.length)(k:Nat):(dT cs off (aQ ep ((cs.drop off).take n)))[k]?=(cs[k]?).map λc=>if off<=k/\k<off+n then c.borrow ep none else c:=by
 have hl:(aQ ep ((cs.drop off).take n)).length=n:=by simp[aQ];omega
 unfold dT;rw[hl];by_cases h1:k<off;rw[aJ,br (by simp;omega),dI h1];have:(λc:AC=>if off<=k/\k<off+n then c.borrow ep none else c)=id:=by funext c;rw[lF];rfl
 rw[this,Option.map_id];rfl;by_cases h2:k<off+n;rw[br (by simp[hl];omega),bl (by simp;omega)];have e:k-(cs.take off).length=k-off:=by simp;omega
 rw[e,aQ,List.getElem?_map,dI (by omega),bJ,show off+(k-off)=k by omega];congr 1;funext c;rw[zip];rw[bl (by simp[hl];omega)];have e:k-(cs.take off++aQ ep ((cs.drop off).take n)).length=k-(off+n):=by simp[hl];omega
 rw[e,bJ,show off+n+(k-(off+n))=k by omega];have:(λc:AC=>if off<=k/\k<off+n then c.borrow ep none else c)=id:=by funext c;rw[lF];rfl
 rw[this,Option.map_id];rfl
theorem FQ {cs:aw AC}{n o2 n2:Nat}(gu:off+n<=cs.length)(h:((cs.drop o2).take n2).all AC.kx=true\/(((dT cs off (aQ ep ((cs.drop off).take n))).drop o2).take n2).all AC.kx=true): ((dT cs off (aQ ep ((cs.drop off).take n))).drop o2).take n2=(cs.drop o2).take n2:=by
 apply cE;intro k;by_cases hk:k<n2;rw[dI hk,dI hk,bJ,bJ,KO gu];cases hc:cs[o2+k]? with|none=>rfl|some c=>simp only[da];split;rename_i rP;refine congrArg some (O9 ?_);rcases h with h|h;left;refine aI.1 h c (bj (i:=k) ?_);rw[dI hk,bJ,hc];right;refine aI.1 h _ (bj (i:=k) ?_);rw[dI hk,bJ,KO gu,hc,da,aF rP];rfl
 rw[bu (by simp;omega),bu (by simp;omega)]
theorem Hc:∀{cs:aw AC}{j:Nat},cs.all AC.kx=true->ic ep (.box b) j cs=cs
 |[],_,_=>rfl
 |c::cs,j,h=>by simp only[bV,ae]at h;rw[ic,Hc h.2];congr 1;cases c<;>first|rfl|(simp[AC.kx]at h)
theorem KW {o:Oper}(h:ze an o=true):∃T q d,o.op=.load T (.tmp q)/\o.dst=some d/\o.guard=none/\an.mv.contains d=true/\(an.mb d).isSome=true:=by unfold ze at h;split at h;rename_i T q d ho hd hg;simp only[ae]at h;exact⟨T,q,d,ho,hd,hg,h.1,h.2⟩;cases h
theorem Jp {o:Oper}(h:Jo an o=true):∃T q d,o.op=.load T (.tmp q)/\o.dst=some d/\o.guard=none/\an.mv.contains d=false/\an.fm.contains d=true:=by unfold Jo at h;split at h;rename_i T q d ho hd hg;simp only[ae,aL]at h;exact⟨T,q,d,ho,hd,hg,h.1,h.2⟩;cases h
theorem CY {o:Oper}(ht:ze an o=true)(ho:o.op=.load T (.tmp q))(hd:o.dst=some d)(hg:o.guard=none)(AX:an.mv.contains d=true):cu E Γ an ops X o st=some s↔ ∃sh b off cs,iP E.ty T=some sh/\st.rd (.tmp q)=.val false [.ptr b off]/\(nth st.boxes b).getD none=some cs/\off+sh.ct.size<=cs.length/\X.contains b=false/\an.mb d=some b/\(Sv an o=true->BA E T st b off=true)/\ s=(st.eu b (some (dT cs off (aQ st.ep ((cs.drop off).take sh.ct.size))))).put (some d) (.val sh.agg ((cs.drop off).take sh.ct.size)):=by
 have key:dp E an X o st=true->∀r,cU E Γ an o st some=some r->∃b off,st.rd (.tmp q)=.val false [.ptr b off]:=by intro hf r hr;simp only[cU,ho,nI]at hr;split at hr;rename_i hp;exact⟨_,_,hp⟩;rename_i hp;simp only[dp,ho,hp,ht,js,aj,fz,ez]at hf;cases hf;cases hr
 unfold cu;constructor;intro h;cases hf:dp E an X o st with|false=>rw[hf]at h;cases h|true=>rw[hf]at h;simp only[ah,fZ,hg]at h;obtain⟨b,off,hp⟩:=key hf s h;simp only[dp,ho,hp,hd,AX,aj,cC,ae,aL,bc,cz]at hf;simp only[cU,ho,nI,hp]at h;cases hT:iP E.ty T with|none=>rw[hT]at h;cases h|some sh=>rw[hT]at h;simp only at h;cases hb:(nth st.boxes b).getD none with|none=>rw[hb]at h;cases h|some cs=>rw[hb]at h;simp only at h;split at h;rename_i gu;simp only[hd,AX,bM]at h;cases h;refine⟨sh,b,off,cs,rfl,hp,hb,gu,hf.1.1,hf.1.2,λhm=>?_,rfl⟩;rcases hf.2 with g|g;rw[hm]at g;cases g;exact g;cases h
 rintro⟨sh,b,off,cs,hT,hp,hb,gu,hX,Sx,IC,rfl⟩;have hf:dp E an X o st=true:=by simp only[dp,ho,hp,hd,AX,hX,Sx,aj,cC,ae,aL,bc,cz];refine⟨⟨cr,cr⟩,?_⟩;cases hm:Sv an o with|false=>exact .inl rfl|true=>exact .inr (IC hm)
 rw[hf];simp only[ah,fZ,hg,cU,ho,nI,hp,hT,hb,aF gu,hd,AX,bM]
theorem CD {o:Oper}(ho:o.op=.load T (.tmp q))(hd:o.dst=some d)(hg:o.guard=none)(AX:an.mv.contains d=false)(IC:an.fm.contains d=true):cu E Γ an ops X o st=some s↔ ∃sh b off cs,iP E.ty T=some sh/\st.rd (.tmp q)=.val false [.ptr b off]/\(nth st.boxes b).getD none=some cs/\off+sh.ct.size<=cs.length/\X.contains b=false/\((cs.drop off).take sh.ct.size).all AC.kx=true/\ s=st.put (some d) (.val sh.agg ((cs.drop off).take sh.ct.size)):=by
 have hfb:Sv an o=true:=by simp only[Sv,hd,IC]
 have key:dp E an X o st=true->∀r,cU E Γ an o st some=some r->∃b off,st.rd (.tmp q)=.val false [.ptr b off]:=by intro hf r hr;simp only[cU,ho,nI]at hr;split at hr;rename_i hp;exact⟨_,_,hp⟩;rename_i hp;simp only[dp,ho,hp,hfb,iu,aj,fz,ez]at hf;cases hf;cases hr
 unfold cu;constructor;intro h;cases hf:dp E an X o st with
 |false=>rw[hf]at h;cases h
 |true=>
  rw[hf]at h;simp only[ah,fZ,hg]at h;obtain⟨b,off,hp⟩:=key hf s h;simp only[dp,ho,hp,hd,AX,hfb,aj,cb,iu,cC,gN,ae,aL]at hf;simp only[cU,ho,nI,hp]at h;cases hT:iP E.ty T with
  |none=>rw[hT]at h;cases h
  |some sh=>
   rw[hT]at h;simp only at h;cases hb:(nth st.boxes b).getD none with
   |none=>rw[hb]at h;cases h
   |some cs=>
    rw[hb]at h;simp only at h;split at h;rename_i gu;have lN:((cs.drop off).take sh.ct.size).all AC.kx=true:=by have:=hf.2;unfold BA at this;rw[hT,hb]at this;exact this
    simp only[hd,AX,aU,bQ,Hc lN]at h;cases h;exact⟨sh,b,off,cs,rfl,hp,hb,gu,hf.1,lN,rfl⟩;cases h
 rintro⟨sh,b,off,cs,hT,hp,hb,gu,hX,lN,rfl⟩;have hf:dp E an X o st=true:=by simp only[dp,ho,hp,hd,AX,hX,hfb,BA,hT,hb,lN];rfl
 rw[hf];simp only[ah,fZ,hg,cU,ho,nI,hp,hT,hb,aF gu,hd,AX,aU,bQ,Hc lN]
theorem M0 {v:AV}(h:d≠q):(st.put (some d) v).rd (.tmp q)=st.rd (.tmp q):=by simp only[AS.rd,rN h];rfl
theorem abE {cs:ay (aw AC)}:(st.eu b cs).rd (.tmp q)=st.rd (.tmp q):=rfl
theorem SU {cs x:aw AC}(h:(nth st.boxes b).getD none=some cs):(nth (gI st.boxes b (some x)) b).getD none=some x:=by
 rw[jh,aF rfl];cases hn:nth st.boxes b with
 |none=>rw[hn]at h;cases h
 |some _=>
  have:b<st.boxes.length:=by rw[dF]at hn;exact(aE.1 hn).1
  rw[aF this];rfl
theorem SV {b2:Nat}{x:aw AC}(h:b≠b2):nth (gI st.boxes b (some x)) b2=nth st.boxes b2:=by rw[jh,aG h]
theorem adu {o p:Oper}(ha:Ug an o p=true)(h1:cu E Γ an ops X o st=some s1)(h2:cu E Γ an ops Y p s1=some s2): ∃t1,cu E Γ an ops Y p st=some t1/\cu E Γ an ops X o t1=some s2:=by
 simp only[Ug,ae,cz,aL]at ha;obtain⟨⟨ha,m1⟩,m2⟩:=ha;have m1:=lb m1;have m2:=lb m2;rcases ha with⟨ht,hf⟩|⟨hf,ht⟩;obtain⟨T,q,d,ho,hd,hg,AX,Sx⟩:=KW ht;obtain⟨T2,q2,d2,hp,Pr,DW,Qy,W8⟩:=Jp hf;have n1:d≠d2:=λe=>m1 d (by simp[hd]) (by simp[Pr,e]);have n2:d≠q2:=λe=>m1 d (by simp[hd]) (by simp[dA,hp,tm,e]);have n3:d2≠q:=λe=>m2 d2 (by simp[Pr]) (by simp[dA,ho,tm,e]);obtain⟨sh,b,off,cs,hT,hr,hb,gu,hX,afp,IC,rfl⟩:=(CY ht ho hd hg AX).1 h1;obtain⟨sh2,b2,LF,Bf,hT2,Lr,IB,VQ,hX2,Og,rfl⟩:=(CD hp Pr DW Qy W8).1 h2;rw[M0 n2,abE]at Lr;have jt:(nth (gI st.boxes b (some (dT cs off (aQ st.ep ((cs.drop off).take sh.ct.size))))) b2).getD none=some Bf:=IB;have oO:∃L6,(nth st.boxes b2).getD none=some L6/\LF+sh2.ct.size<=L6.length/\(Bf.drop LF).take sh2.ct.size=(L6.drop LF).take sh2.ct.size:=by
  by_cases TG:b=b2;subst TG;rw[SU hb]at jt;cases jt;have hlen:(dT cs off (aQ st.ep ((cs.drop off).take sh.ct.size))).length=cs.length:=by simp only[dT,aQ,ai,cp,aX,aN];omega
  exact⟨cs,hb,by omega,FQ gu (.inr Og)⟩;rw[SV TG]at jt;exact⟨Bf,jt,VQ,rfl⟩
 obtain⟨L6,Qp,Qs,he⟩:=oO;rw[he]at Og⊢;refine⟨_,(CD hp Pr DW Qy W8).2 ⟨sh2,b2,LF,L6,hT2,Lr,Qp,Qs,hX2,Og,rfl⟩,(CY ht ho hd hg AX).2 ⟨sh,b,off,cs,hT,by rw[M0 n3];exact hr,hb,gu,hX,afp,λhm=>?_,?_⟩⟩;have:=IC hm;unfold BA at this⊢;exact this;simp only[AS.put,AS.eu,AS.mk.injEq,iv];exact iL _ n1 _ _;obtain⟨T,q,d,ho,hd,hg,AX,IC⟩:=Jp hf;obtain⟨T2,q2,d2,hp,Pr,DW,Qy,afo⟩:=KW ht;have n1:d≠d2:=λe=>m1 d (by simp[hd]) (by simp[Pr,e]);have n2:d≠q2:=λe=>m1 d (by simp[hd]) (by simp[dA,hp,tm,e]);have n3:d2≠q:=λe=>m2 d2 (by simp[Pr]) (by simp[dA,ho,tm,e]);obtain⟨sh,b,off,cs,hT,hr,hb,gu,hX,lN,rfl⟩:=(CD ho hd hg AX IC).1 h1;obtain⟨sh2,b2,LF,Bf,hT2,Lr,IB,VQ,hX2,afp,W8,rfl⟩:=(CY ht hp Pr DW Qy).1 h2;rw[M0 n2]at Lr;refine⟨_,(CY ht hp Pr DW Qy).2 ⟨sh2,b2,LF,Bf,hT2,Lr,IB,VQ,hX2,afp,λhm=>W8 hm,rfl⟩,?_⟩;have oO:∃L6,(nth (gI st.boxes b2 (some (dT Bf LF (aQ st.ep ((Bf.drop LF).take sh2.ct.size))))) b).getD none=some L6/\off+sh.ct.size<=L6.length/\(L6.drop off).take sh.ct.size=(cs.drop off).take sh.ct.size:=by
  by_cases TG:b2=b;subst TG;have Gl:Bf=cs:=dm (IB.symm.trans hb);subst Gl;have hlen:(dT Bf LF (aQ st.ep ((Bf.drop LF).take sh2.ct.size))).length=Bf.length:=by simp only[dT,aQ,ai,cp,aX,aN];omega
  exact⟨_,SU hb,by omega,FQ VQ (.inl lN)⟩;exact⟨cs,by rw[SV TG];exact hb,gu,rfl⟩
 obtain⟨L6,Qp,Qs,he⟩:=oO;refine(CD ho hd hg AX IC).2 ⟨sh,b,off,L6,hT,by rw[M0 n3,abE];exact hr,Qp,Qs,hX,by rw[he];exact lN,?_⟩;rw[he];simp only[AS.put,AS.eu,AS.mk.injEq,iv];exact iL _ n1 _ _
theorem KV {o:Oper}(ht:Ci an o=true)(ho:o.op=.load T (.tmp q))(hd:o.dst=some d)(hg:o.guard=none)(AX:an.mv.contains d=true)(Sx:an.mb d=none):cu E Γ an ops X o st=some s↔ ∃(g:Bool)(e:CT)(jv:aw (Nat×Nat))(b j t Jg:Nat)(x:e.D)(i:Int)(cs:aw AC)(ys:aw e.D)(y:e.D),iP E.ty T=some ⟨g,e,jv⟩/\st.rd (.tmp q)=.val false [.yP (.loc Jg (some (.box b j,t))) e x i 0]/\(nth st.boxes b).getD none=some cs/\nth cs j=some (.sl (.own (some t)) e ys)/\idx ys i=some y/\ X.contains b=false/\an.eb q=some b/\Sv an o=false/\s=(FZ st b j t e i cs ys).put (some d) (.val g (cellsOf e (.own none) y)):=by rw[<-KU ht ho hd AX Sx];unfold cu;cases dp E an X o st with|false=>simp|true=>simp only[ah,fZ,hg,cU,ho,true_and]
theorem Yl {o:Oper}(h:yz an o=true):∃T q d,o.op=.load T (.tmp q)/\o.dst=some d/\o.guard=none/\an.mv.contains d=false/\Sv an o=false:=by unfold yz at h;split at h;rename_i T q d ho hd hg;simp only[ae,aL]at h;exact⟨T,q,d,ho,hd,hg,h.1.1,by simp only[Sv,hd];exact h.1.2⟩;cases h
theorem Kn {o:Oper}(CJ:yz an o=true)(ho:o.op=.load T (.tmp q))(hd:o.dst=some d)(hg:o.guard=none)(AX:an.mv.contains d=false)(IC:Sv an o=false):cu E Γ an ops X o st=some s↔ ∃sh b off cs,iP E.ty T=some sh/\st.rd (.tmp q)=.val false [.ptr b off]/\(nth st.boxes b).getD none=some cs/\off+sh.ct.size<=cs.length/\X.contains b=false/\ s=st.put (some d) (.val sh.agg (ic st.ep (.box b) off ((cs.drop off).take sh.ct.size))):=by
 unfold cu;constructor;intro h;cases hf:dp E an X o st with|false=>rw[hf]at h;cases h|true=>rw[hf]at h;simp only[ah,fZ,hg,cU,ho]at h;unfold nI at h;split at h;rename_i sh b off hT hp;simp only[dp,ho,hp,hd,AX,IC,cb,iu,gN,aL]at hf;split at h;rename_i cs hb;split at h;rename_i gu;simp only[hd,AX,aU,bQ]at h;cases h;exact⟨sh,b,off,cs,hT,hp,hb,gu,hf,rfl⟩;cases h;cases h;rename_i hp;simp only[dp,ho,hp,CJ,aj,fz,ez]at hf;cases hf;cases h
 rintro⟨sh,b,off,cs,hT,hp,hb,gu,hX,rfl⟩;have hf:dp E an X o st=true:=by simp only[dp,ho,hp,hd,AX,hX,IC];rfl
 rw[hf];simp only[ah,fZ,hg,cU,ho,nI,hp,hT,hb,aF gu,hd,AX,aU,bQ]
theorem IZ:∀(cs:aw AC)(p k:Nat)(c':AC),(∀c,cs[k]?=some c->∀r,c'.borrow ep (some r)=c.borrow ep (some r))->ic ep (.box b) p (cs.set k c')=ic ep (.box b) p cs
 |[],_,_,_,_=>rfl
 |c::cs,p,0,c',h=>by simp only[List.set_cons_zero,ic,h c rfl]
 |c::cs,p,k+1,c',h=>by simp only[List.set_cons_succ,ic];rw[IZ cs (p+1) k c' (λc hc=>h c (by simpa using hc))]
theorem PI {j n:Nat}{e:CT}{i:Int}{ys:aw e.D}{cs:aw AC}(hj:nth cs j=some (.sl (.own (some t)) e ys)): ic ep (.box b) off (((gI cs j (.sl (.eX (some t) i (some ep)) e ys)).drop off).take n)=ic ep (.box b) off ((cs.drop off).take n):=by rw[fb,List.drop_set];split;rfl;rename_i hG;rw[List.take_set];refine IZ _ _ _ _ λc hc r=>?_;by_cases hn:j-off<n;rw[dI hn,bJ,show off+(j-off)=j by omega,<-dF,hj]at hc;cases hc;rfl;rw[bu (by simp;omega)]at hc;cases hc
theorem acO {o p:Oper}(ha:SX an o p=true)(h1:cu E Γ an ops X o st=some s1)(h2:cu E Γ an ops Y p s1=some s2): ∃t1,cu E Γ an ops Y p st=some t1/\cu E Γ an ops X o t1=some s2:=by
 simp only[SX,ae,aL]at ha;obtain⟨⟨⟨CJ,ht⟩,m1⟩,m2⟩:=ha;have m1:=lb m1;have m2:=lb m2;obtain⟨T,q,d,ho,hd,hg,AX,IC⟩:=Yl CJ;obtain⟨T2,q2,d2,hp,Pr,DW,Qy,afo⟩:=Nc ht;have n1:d≠d2:=λe=>m1 d (by simp[hd]) (by simp[Pr,e]);have n2:d≠q2:=λe=>m1 d (by simp[hd]) (by simp[dA,hp,tm,e]);have n3:d2≠q:=λe=>m2 d2 (by simp[Pr]) (by simp[dA,ho,tm,e]);obtain⟨sh,b,off,cs,hT,hr,hb,gu,hX,rfl⟩:=(Kn CJ ho hd hg AX IC).1 h1;obtain⟨g,e,jv,b2,j,t,Jg,x,i,Bf,ys,y,hT2,Lr,IB,hj,hi,hX2,N9,W8,rfl⟩:=(KV ht hp Pr DW Qy afo).1 h2;rw[M0 n2]at Lr;have ag9:(nth st.boxes b2).getD none=some Bf:=IB;refine⟨_,(KV ht hp Pr DW Qy afo).2 ⟨g,e,jv,b2,j,t,Jg,x,i,Bf,ys,y,hT2,Lr,ag9,hj,hi,hX2,N9,W8,rfl⟩,?_⟩;have oO:∃L6,(nth (gI st.boxes b2 (some (gI Bf j (.sl (.eX (some t) i (some st.ep)) e ys)))) b).getD none=some L6/\off+sh.ct.size<=L6.length/\ic st.ep (.box b) off ((L6.drop off).take sh.ct.size)=ic st.ep (.box b) off ((cs.drop off).take sh.ct.size):=by by_cases TG:b2=b;subst TG;have Gl:Bf=cs:=dm (ag9.symm.trans hb);subst Gl;exact⟨_,SU hb,by rw[fb,aB];exact gu,PI hj⟩;exact⟨cs,by rw[SV TG];exact hb,gu,rfl⟩
 obtain⟨L6,Qp,Qs,he⟩:=oO;refine(Kn CJ ho hd hg AX IC).2 ⟨sh,b,off,L6,hT,by rw[M0 n3];exact hr,Qp,Qs,hX,?_⟩;show _=((FZ st b2 j t e i Bf ys).put (some d2) _).put (some d) (.val sh.agg (ic st.ep (.box b) off ((L6.drop off).take sh.ct.size)));rw[he];simp only[AS.put,FZ,AS.eu,AS.mk.injEq,iv];exact iL _ n1 _ _
def LI (E:Env)(Γ:xl)(an:An)(ops:aw Oper)(X:Nat->ff):ff->AS->ay AS
 |[],st=>some st
 |i::r,st=>match nth ops i with
  |some o=>(cu E Γ an ops (X i) o st).bind (LI E Γ an ops X r)
  |none=>none
theorem KG (yd:∀f,(Γ f).io=false/\((Γ f).bx=true->(Γ f).cur=true)/\(Γ f).pr=false){X:Nat->ff}{oi:Oper}(hi:nth ops i=some oi):∀(pre post:ff)(st r:AS),(∀j∈pre,∀oj,nth ops j=some oj->IT an ops (X j) (X i) oj oi=true)->
 LI E Γ an ops X (pre++i::post) st=some r->LI E Γ an ops X (i::(pre++post)) st=some r
 |[],post,st,r,_,h=>h
 |j::pre,post,st,r,ha,h=>by
  simp only[List.cons_append,LI]at h;cases hj:nth ops j with
  |none=>rw[hj]at h;cases h
  |some oj=>
   rw[hj]at h;simp only at h;obtain⟨s1,h1,h2⟩:=aM.1 h;have h3:=KG yd hi pre post s1 r (λk hk=>ha k (by simp[hk])) h2;simp only[LI,hi]at h3;obtain⟨s2,h4,h5⟩:=aM.1 h3;have hap:=ha j (by simp) oj hj;obtain⟨t1,k1,k2⟩:∃t1,cu E Γ an ops (X i) oi st=some t1/\cu E Γ an ops (X j) oj t1=some s2:=by cases hx:abz an oj oi with|false=>rw[IT,hx,cC]at hap;exact U6 yd hap h1 h4|true=>simp only[abz,cz]at hx;rcases hx with((hx|hx)|hx)|hx;exact aar hx h1 h4;exact acT hx h1 h4;exact adu hx h1 h4;exact acO hx h1 h4
   simp only[LI,hi,k1,ec,List.cons_append,hj,k2];exact h5
end Go.Dn
