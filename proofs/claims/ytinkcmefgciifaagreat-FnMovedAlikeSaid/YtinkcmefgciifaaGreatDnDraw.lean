import Derived.Test.YtinkcmefgciifaaGreatDnUpd
/- Operations that are apart may change places. -/
namespace Go.Dn
variable {E:Env} {Γ:yk} {an:An} {ops:ax Oper}
variable {s s1 s2 st:AS} {b d ep i off q t:Nat} {α:Type} {T:TypeId} {X Y:fy}
def cz (E:Env)(Γ:yk)(an:An)(ops:ax Oper)(X:fy)(o:Oper)(st:AS):ay AS:=
 bif dv E an X o st then gu E Γ an ops o st some else none
structure OD (an:An) (ops:List Oper) (X:List Nat) (o:Oper) (st st2:AS):Prop where
 base:gL an X o st st2
 gd:∀t∈CB an ops o,st2.get t=st.get t
theorem Tb {b:Bool}(h:st.get d=.val false [.bool b]):st.put (some d) (.one (.bool b))=st:=by cases st with|mk slots boxes ep iss io=>simp only[AS.put,AS.mk.injEq,iI];rw[fu];apply cA;intro i;rw[br];split;rename_i hd;subst hd;simp only[AS.get,dK]at h;split;rename_i gY;rw[aq gY]at h⊢;simp only[fC]at h;rw[h];rename_i yZ;rw[bn (Nat.le_of_not_lt yZ)];rfl
theorem Po {st2:AS}{s:Nat}(h:nth st2.boxes s=nth st.boxes s):Cv E T st2 s off=Cv E T st s off:=by unfold Cv;rw[h]
theorem EO {o:Oper}{st2:AS}(ha:gL an X o st st2):dv E an X o st2=dv E an X o st:=by
 unfold dv;split;rename_i ho;rw[ha.rd (λt ht=>by simpa[dE,ho]using ht)];rename_i T p ho;rw[ha.rd (λt ht=>by simp[dE,ho,ht]),ha.ep];rename_i ho;rw[ha.rd (λt ht=>by simp[dE,ho,ht]),ha.ep];rename_i f args ts ho;have hcur:sr an X (erS an o) st2 args.toList=sr an X (erS an o) st args.toList:=by
  have hl:∀x∈args.toList,∀t∈tm x,t∈dE o:=by intro x hx t ht;simp only[dE,ho,az,M4,List.mem_flatMap];exact .inr ⟨x,hx,ht⟩
  generalize args.toList=l at hl;cases l with
  |nil=>rfl
  |cons x xs=>
   have zB:xs.all (GL (erS an o) st2)=xs.all (GL (erS an o) st):=by
    rw[cD];simp only[aF];have e:∀y∈xs,GL (erS an o) st2 y=GL (erS an o) st y:=by intro y hy;cases y with|tmp t=>have hg:=ha.get t (hl (.tmp t) (by simp[hy]) t (by simp[tm]));simp only[GL,hg]|const v=>rfl|func v=>rfl|global v=>rfl
    exact⟨λg y hy=>by rw[<-e y hy];exact g y hy,λg y hy=>by rw[e y hy];exact g y hy⟩
   have hr:=ha.rd (hl x (by simp));cases x with
   |tmp q=>
    simp only[sr,hr];generalize st.rd (.tmp q)=v;unfold abK;rw[zB];split;rename_i s off;cases hX:X.contains s with|true=>simp|false=>rw[ha.box s hX]
    rfl
   |const v=>simp only[sr,hr]
   |func v=>simp only[sr,hr]
   |global v=>simp only[sr,hr]
 rw[hcur];congr 1;rw[cD];simp only[aF];constructor;intro hx x hm;have:=hx x hm;rwa[ha.rd (λt ht=>by simp only[dE,ho,az,M4,List.mem_flatMap];exact .inr ⟨x,hm,ht⟩),ha.ep]at this;intro hx x hm;rw[ha.rd (λt ht=>by simp only[dE,ho,az,M4,List.mem_flatMap];exact .inr ⟨x,hm,ht⟩),ha.ep];exact hx x hm;rename_i ho;rw[ha.rd (λt ht=>by simpa[dE,ho]using ht),ha.ep];split;rename_i s off _;cases hX:X.contains s with|true=>rfl|false=>rw[Po (ha.box s hX)]
 rfl;rfl;rename_i ho;rw[ha.rd (λt ht=>by simp only[dE,ho,az];exact .inl ht)];rename_i ho;rw[ha.get _ (by simp[dE,ho])];rfl
theorem I5 (zd:∀f,(Γ f).io=false/\((Γ f).bx=true->(Γ f).cur=true)/\(Γ f).pr=false){o:Oper}{bN:AS}(hm:nk an o=true)(h:cz E Γ an ops X o st=some bN): ∃u:Hd,u.EC an o/\bN=u.apply st/\∀st2,OD an ops X o st st2->cz E Γ an ops X o st2=some (u.apply st2):=by
 unfold cz at h;cases hf:dv E an X o st with
 |false=>rw[hf]at h;cases h
 |true=>
  rw[hf]at h;simp only[ah]at h;unfold gu at h;split at h;rename_i hg;obtain⟨u,h1,h2,h3⟩:=L1 (X:=X) zd hm hf h;refine⟨u,h1,h2,λst2 ha=>?_⟩;unfold cz;rw[EO ha.base,hf];simp only[ah,gu,hg];exact h3 st2 ha.base;rename_i j Fg hg;split at h;rename_i d hd;have ta:d∈CB an ops o:=by simp[CB,hg,hd]
  split at h;rename_i b hb;have Zg:(if(b==Fg)=true then da E Γ an o st some else some (st.put o.dst (.one .un)))=some bN:=by cases b<;>simpa only[ah,af,Tb hb]using h
  have h2g:∀st2,OD an ops X o st st2->cz E Γ an ops X o st2=(if(b==Fg)=true then da E Γ an o st2 some else some (st2.put o.dst (.one .un))):=by
   intro st2 ha;have JM:st2.get d=.val false [.bool b]:=by rw[ha.gd d ta];exact hb
   unfold cz;rw[EO ha.base,hf];simp only[ah,gu,hg,hd,JM];cases b<;>simp only[ah,af,Tb JM]
  split at Zg;rename_i hw;obtain⟨u,h1,h2,h3⟩:=L1 (X:=X) zd hm hf Zg;exact⟨u,h1,h2,λst2 ha=>by rw[h2g st2 ha,aH hw];exact h3 st2 ha.base⟩;rename_i hw;cases Zg;exact⟨BJ o (.one .un),Ak _,by rw[rp],λst2 ha=>by rw[h2g st2 ha,aI hw,rp]⟩;rename_i hb;cases h;refine⟨BJ o (.one .un),Ak _,by rw[rp],λst2 ha=>?_⟩;have JM:st2.get d=.val false [.un]:=by rw[ha.gd d ta];exact hb
  unfold cz;rw[EO ha.base,hf,rp];simp only[ah,gu,hg,hd,JM];cases h;cases h
theorem iX (l:ax α){j:Nat}(h:i≠j)(v w:α):gU (gU l i v) j w=gU (gU l j w) i v:=by rw[fu,fu,fu,fu,List.set_comm _ _ h]
theorem Wz (l:ax AV)(a:ax (Nat×AV))(v:AV)(h:∀x∈a,x.1≠i):jK (gU l i v) a=gU (jK l a) i v:=by induction a generalizing l with|nil=>rfl|cons x a ih=>simp only[jK];rw[iX _ (cO (h x (by simp))),ih _ (λy hy=>h y (by simp[hy]))]
theorem S8 (l:ax AV)(a b:ax (Nat×AV))(h:∀x∈a,∀y∈b,x.1≠y.1):jK (jK l a) b=jK (jK l b) a:=by induction b generalizing l with|nil=>rfl|cons y b ih=>simp only[jK];rw[<-Wz l a y.2 (λx hx=>h x hx y (by simp)),ih _ (λx hx z hz=>h x hx z (by simp[hz]))]
theorem MR (l:ax AV)(a:ax (Nat×AV))(h:∀x∈a,x.1≠t):nth (jK l a) t=nth l t:=by induction a generalizing l with|nil=>rfl|cons x a ih=>rw[jK,ih _ (λy hy=>h y (by simp[hy])),ju,aI (h x (by simp))]
theorem lQ {a b:fy}(h:meets a b=false):∀x∈a,x∉b:=by intro x hx hb;unfold meets at h;rw[List.any_eq_false]at h;exact h x hx (by simpa using hb)
theorem Hd.aby {u:Hd}{o p:Oper}(hw:u.EC an o)(h1:∀x∈writes an o,x∉dE p++CB an ops p++writes an p)(h2:∀d∈Dg an o,Y.contains d=true)(h3:∀d∈Dg an o,p.dst≠some d): OD an ops Y p (u.apply st) st/\OD an ops Y p st (u.apply st):=by
 have gS:∀t,t∈dE p++CB an ops p++writes an p->(u.apply st).get t=st.get t:=by intro t ht;unfold AS.get;have:nth (u.apply st).slots t=nth st.slots t:=MR _ _ (λx hx he=>h1 _ (hw.slots x hx) (by rw[he];exact ht));rw[this]
 have Zc:∀d,p.dst=some d->nth (u.apply st).iss d=nth st.iss d/\nth (u.apply st).boxes d=nth st.boxes d:=by
  intro d hd;have hd':d∈dE p++CB an ops p++writes an p:=by simp[writes,hd]
  have Al:o.dst≠some d:=λhe=>h1 d (by simp[writes,he]) hd';constructor;unfold Hd.apply;cases hi:u.iss with|none=>rfl|some k=>simp only;rw[ju,aI];rintro rfl;exact Al (hw.iss _ hi)
  unfold Hd.apply;cases hi:u.box with|none=>rfl|some k=>simp only;rw[ju,aI];intro he;exact h3 _ (hw.box k hi) (by rw[he];exact hd)
 have ajA:∀s,Y.contains s=false->nth (u.apply st).boxes s=nth st.boxes s:=by intro s hs;unfold Hd.apply;cases hi:u.box with|none=>rfl|some k=>simp only;rw[ju,aI];rintro rfl;have:=h2 k.1 (hw.box k hi);rw[this]at hs;cases hs
 have hlen:(u.apply st).slots.length=st.slots.length:=LA _ _;exact⟨⟨⟨hlen.symm,λt ht=>(gS t (by simp[ht])).symm,rfl,λd hd=>⟨((Zc d hd).1).symm,((Zc d hd).2).symm⟩,λs hs=>(ajA s hs).symm,λt ht=>(gS t (by simp[CB,ht])).symm⟩,λt ht=>(gS t (by simp[ht])).symm⟩,⟨⟨hlen,λt ht=>gS t (by simp[ht]),rfl,Zc,ajA,λt ht=>gS t (by simp[CB,ht])⟩,λt ht=>gS t (by simp[ht])⟩⟩
theorem Uh {u v:Hd}{o p:Oper}(hu:u.EC an o)(hv:v.EC an p)(h:∀x∈writes an o,x∉writes an p)(hb:∀x∈Dg an o,x∉Dg an p):v.apply (u.apply st)=u.apply (v.apply st):=by
 have Px:∀a b,o.dst=some a->p.dst=some b->a≠b:=λa b ha hb he=>h a (by simp[writes,ha]) (by simp[writes,hb,he]);have hs:=S8 st.slots u.slots v.slots (λx hx y hy he=>h _ (hu.slots x hx) (by rw[he];exact hv.slots y hy));simp only[Hd.apply,AS.mk.injEq,true_and,iI];refine⟨hs,?_,?_⟩;cases hub:u.box with|none=>cases v.box<;>rfl|some k=>cases hvb:v.box with|none=>rfl|some l=>exact iX _ (λhe=>hb _ (hu.box k hub) (by rw[he];exact hv.box l hvb)) _ _
 cases hui:u.iss with|none=>cases v.iss<;>rfl|some k=>cases hvi:v.iss with|none=>rfl|some l=>exact iX _ (Px _ _ (hu.iss k hui) (hv.iss l hvi)) _ _
theorem W5 (zd:∀f,(Γ f).io=false/\((Γ f).bx=true->(Γ f).cur=true)/\(Γ f).pr=false){o p:Oper}(ha:Uf an ops X Y o p=true)(h1:cz E Γ an ops X o st=some s1)(h2:cz E Γ an ops Y p s1=some s2): ∃t1,cz E Γ an ops Y p st=some t1/\cz E Γ an ops X o t1=some s2:=by
 simp only[Uf,ae,aK,aF]at ha;obtain⟨⟨⟨⟨⟨⟨⟨mo,mp⟩,w1⟩,w2⟩,b1⟩,b2⟩,b3⟩,b4⟩:=ha;have w1:=lQ w1;have w2:=lQ w2;have b3:=lQ b3;have b4:=lQ b4;obtain⟨u,hu,rfl,hu2⟩:=I5 zd mo h1;obtain⟨v,hv,rfl,PK⟩:=I5 zd mp h2;have ag1:=Hd.aby (ops:=ops) (p:=p) (Y:=Y) (st:=st) hu w1 b1 (λd hd he=>b3 d hd (by simp[he]));have hww:∀x∈writes an p,x∉dE o++CB an ops o++writes an o:=by intro x hx hm;rcases az.1 hm with hm|hm;exact w2 x hx hm;exact w1 x hm (by simp[hx])
 have ag2:=Hd.aby (ops:=ops) (p:=o) (Y:=X) (st:=st) hv hww b2 (λd hd he=>b4 d hd (by simp[he]));refine⟨v.apply st,PK st ag1.1,?_⟩;rw[hu2 _ ag2.2,Uh hu hv (λx hx hm=>w1 x hx (by simp[hm])) (λx hx hm=>b3 x hx (by simp[hm]))]
theorem FP {v w:AV}(h:st.get t=v)(hv:v≠ .bot):(st.put (some t) w).get t=w:=by
 unfold AS.get at h;cases hn:nth st.slots t with
 |none=>rw[hn]at h;exact absurd h.symm hv
 |some q=>
  have hl:t<st.slots.length:=by rw[dK]at hn;exact(aG.1 hn).1
  unfold AS.get AS.put;simp only[dK,fu];rw[List.getElem?_set_self hl];rfl
theorem sY {w:AV}(h:d≠t):(st.put (some d) w).get t=st.get t:=by unfold AS.get AS.put;simp only[ju,aI h]
theorem Aq {o:Oper}(ho:o.op=.extract (.tmp t) i)(hd:o.dst=some d)(hg:o.guard=none):cz E Γ an ops X o st=some s↔ ∃vs g cs,st.get t=.uW vs/\nth vs i=some (g,cs)/\(cs.all AC.jo||an.mv.contains d)=true/\s=(st.put (some t) (.uW (gU vs i (g,aU 0 cs)))).put (some d) (.val g cs):=by
 unfold cz;simp only[dv,ho,hd];constructor;intro h;cases hv:st.get t with|val g cs=>simp only[hv,ah,gu,hg,da,ho,lH]at h;cases h|uW vs=>simp only[hv]at h;cases hn:nth vs i with|none=>simp only[hn,ah,gu,hg,da,ho,lH,hv]at h;cases h|some x=>obtain⟨g,cs⟩:=x;simp only[hn]at h;cases hf:(cs.all AC.jo||an.mv.contains d)with|false=>rw[hf]at h;cases h|true=>rw[hf]at h;simp only[ah,gu,hg,da,ho,lH,hv,hn,hd]at h;cases h;exact⟨vs,g,cs,rfl,hn,hf,rfl⟩
 rintro⟨vs,g,cs,hv,hn,hf,rfl⟩;simp only[hv,hn,hf,ah,gu,hg,da,ho,lH,hd]
theorem aaU (l:ax α)(i:Nat)(v w:α):gU (gU l i v) i w=gU l i w:=by rw[fu,fu,fu,List.set_set]
theorem acA {o p:Oper}(ha:Vd o p=true)(h1:cz E Γ an ops X o st=some s1)(h2:cz E Γ an ops Y p s1=some s2): ∃t1,cz E Γ an ops Y p st=some t1/\cz E Γ an ops X o t1=some s2:=by
 unfold Vd at ha;split at ha;rename_i t i t' j d d' ho hp hd hd' hg nE;simp only[ae,aV,aK,cH,ne_eq]at ha;obtain⟨⟨⟨⟨rfl,hij⟩,Px⟩,hdt⟩,ajE⟩:=ha;obtain⟨vs,g,cs,hv,hn,hf,rfl⟩:=(Aq ho hd hg).1 h1;obtain⟨vs2,g2,Cb,PK,Cc,Bf,rfl⟩:=(Aq hp hd' nE).1 h2;have hq:((st.put (some t) (.uW (gU vs i (g,aU 0 cs)))).put (some d) (.val g cs)).get t=.uW (gU vs i (g,aU 0 cs)):=by rw[sY hdt,FP hv (by simp)]
 rw[hq]at PK;cases PK;rw[ju,aI hij]at Cc;refine⟨_,(Aq hp hd' nE).2 ⟨vs,g2,Cb,hv,Cc,Bf,rfl⟩,(Aq ho hd hg).2 ⟨gU vs j (g2,aU 0 Cb),g,cs,?_,?_,hf,?_⟩⟩;rw[sY ajE,FP hv (by simp)];rw[ju,aI (cO hij)];exact hn;have e:=iX vs hij (g,aU 0 cs) (g2,aU 0 Cb);have a:∀(A B:AV)(q:Nat)(v:AV),q≠t->gU (gU (gU st.slots t A) q v) t B=gU (gU st.slots t B) q v:=λA B q v hq=>by rw[iX _ hq,aaU]
 simp only[AS.put,AS.mk.injEq,iI];rw[a _ _ _ _ hdt,a _ _ _ _ ajE,e,iX _ Px];cases ha
theorem X7 (s:AS)(t:Nat):s.put (some t) (s.get t)=s:=by cases s with|mk slots boxes ep iss io=>simp only[AS.put,AS.mk.injEq,iI];rw[fu];apply cA;intro i;rw[br];split;rename_i hd;subst hd;simp only[AS.get,dK];split;rename_i gY;rw[aq gY];rfl;rename_i yZ;rw[bn (Nat.le_of_not_lt yZ)];rfl
theorem Tu {o:Oper}(hd:o.dst=some d)(hg:o.guard=none)(ho:(o.op=.move (.tmp t)/\an.mv.contains d=false/\an.fm.contains d=true)\/∃i,o.op=.extract (.tmp t) i)(_hdt:d≠t)(h:cz E Γ an ops X o st=some s): ∃tv v,s=(st.put (some t) tv).put (some d) v/\∀st2:AS,st2.get t=st.get t->cz E Γ an ops X o st2=some ((st2.put (some t) tv).put (some d) v):=by
 rcases ho with⟨ho,BW,JN⟩|⟨i,ho⟩;have KT:∀st2:AS,st2.get t=st.get t->(st.rd (.tmp t)).kW=true->st2.rd (.tmp t)=st.get t:=by
  intro st2 hq hs;simp only[AS.rd,hq]at hs⊢;cases hv:st.get t with
  |uW vs=>rw[hv]at hs;simp[AV.borrow,AV.kW]at hs
  |val g cs=>
   rw[hv]at hs;simp only[AV.borrow,AV.kW]at hs⊢;congr 1;have key:∀(cs:ax AC)(j:Nat),(iv st.ep (λj=>ky.slot t j) j cs).all AC.kW=true->iv st2.ep (λj=>ky.slot t j) j cs=cs:=by
    intro cs;induction cs with
    |nil=>intro j _;rfl
    |cons c cs ih=>
     intro j h;simp only[iv,cc,ae]at h⊢;rw[ih (j+1) h.2];congr 1;cases c with
     |sl fl e xs=>cases fl with|fi _ _ ep=>cases ep<;>simp[AC.borrow,AC.kW]at h|_=>simp[AC.borrow,AC.kW]at h
     |_=>rfl
   exact key cs 0 hs
 unfold cz at h;have mF:(st.rd (.tmp t)).kW=true:=by cases hs:(st.rd (.tmp t)).kW with|true=>rfl|false=>simp only[dv,ho,T0,hd,JN,hs]at h;cases h
 refine⟨st.get t,st.get t,?_,λst2 hq=>?_⟩;simp only[dv,ho,T0,hd,JN,mF,jF,ah,gu,hg,da,AI,BW,aY,bW]at h;cases h;rw[KT st rfl mF];congr 1;exact(X7 st t).symm;unfold cz;have e1:=KT st2 hq mF;have PG:(st2.rd (.tmp t)).kW=true:=by rw[e1,<-KT st rfl mF];exact mF
 simp only[dv,ho,T0,hd,JN,PG,jF,ah,gu,hg,da,AI,BW,aY,bW];rw[e1,<-hq,X7];obtain⟨vs,g,cs,hv,hn,hf,rfl⟩:=(Aq ho hd hg).1 h;refine⟨_,_,rfl,λst2 hq=>(Aq ho hd hg).2 ⟨vs,g,cs,by rw[hq,hv],hn,hf,rfl⟩⟩
theorem afe {p:Oper}{x:Nat}(hp:p.op=.store T (.tmp q) (.tmp x))(hd:p.dst=none)(hg:p.guard=none)(Py:(an.eb q).isSome=true)(Ze:(an.es q).isNone=true)(XL:(an.sb q).isNone=true)(hl:yN an p=false)(h:cz E Γ an ops Y p st=some s): ∃B,s=⟨gU st.slots x ((st.get x).aU st.ep),B,st.ep+1,st.iss,st.io⟩/\ ∀st2:AS,st2.get q=st.get q->st2.get x=st.get x->st2.boxes=st.boxes->st2.ep=st.ep->st2.iss=st.iss->st2.io=st.io-> cz E Γ an ops Y p st2=some ⟨gU st2.slots x ((st.get x).aU st.ep),B,st.ep+1,st.iss,st.io⟩:=by
 have ga:∀st2:AS,st2.get q=st.get q->st2.ep=st.ep->dv E an Y p st2=dv E an Y p st:=by intro st2 h1 h2;simp only[dv,hp,AS.rd,h1,h2]
 unfold cz at h;cases hf:dv E an Y p st with
 |false=>rw[hf]at h;cases h
 |true=>
  rw[hf]at h;simp only[ah,gu,hg,da,hp,hd,hl,aY,bW]at h;have jq:=hf;simp only[dv,hp]at jq;have KO:((an.sb q).isNone&&(an.eb q).isNone&&(an.es q).isNone)=false:=by cases he:an.eb q with|none=>rw[he]at Py;cases Py|some _=>simp
  rw[KO,cJ]at jq;unfold vB at h;split at h;rename_i KT;rw[KT]at jq;simp only[ae,aV]at jq;rw[jq.2]at XL;cases XL;rename_i sh Ks r tg e y i off hT KT;rw[KT]at jq;cases r with
  |slot _ _=>simp only[ae,aV]at jq;rw[jq.1.1]at Ze;cases Ze
  |io _=>simp at jq
  |box b j=>
   split at h;rename_i gg vs st1 rK;have e1:(st.get x)=.val gg vs:=by have:=congrArg Prod.fst rK;exact this
   have e2:st1=⟨gU st.slots x ((st.get x).aU st.ep),st.boxes,st.ep,st.iss,st.io⟩:=by have:=congrArg Prod.snd rK;exact this.symm
   split at h;rename_i hlen;have main:∃B,∀sl:ax AV,(⟨sl,st.boxes,st.ep,st.iss,st.io⟩:AS).oR (.box b j) tg e i off vs some=some ⟨sl,B,st.ep+1,st.iss,st.io⟩:=by
    subst e2;simp only[AS.oR,AS.eR,AS.eV,AS.eI]at h⊢;cases hb:(nth st.boxes b).getD none with
    |none=>rw[hb]at h;simp at h
    |some cs=>
     rw[hb]at h;simp only[eu]at h⊢;split at h;rename_i t' e' xs hn;split at h;rename_i he;simp only[dif_pos he];generalize (he▸xs:ax e.D)=zs at h⊢;split at h;rename_i ht;simp only[aH ht];cases hi:idx zs i with|none=>rw[hi]at h;simp[aa]at h|some y0=>simp only[hi,aa]at h⊢;split at h;exact⟨_,λsl=>rfl⟩;cases h
     cases h;cases h;rename_i t' i' q0 e' xs hn;split at h;rename_i he;simp only[dif_pos he];generalize (he▸xs:ax e.D)=zs at h⊢;split at h;rename_i ht;simp only[aH ht];cases hi:Zo zs i' i with|none=>rw[hi]at h;simp[aa]at h|some y0=>simp only[hi,aa]at h⊢;split at h;exact⟨_,λsl=>rfl⟩;cases h
     cases h;cases h;cases h
   obtain⟨B,hB⟩:=main;refine⟨B,?_,λst2 h1 h2 h3 h4 h5 h6=>?_⟩;subst e2;rw[hB]at h;exact(du h).symm;unfold cz;rw[ga st2 h1 h4,hf];have r2:st2.rd (.tmp q)=st.rd (.tmp q):=by simp only[AS.rd,h1,h4]
   have t2:st2.take (.tmp x)=(.val gg vs,⟨gU st2.slots x ((st.get x).aU st.ep),st.boxes,st.ep,st.iss,st.io⟩):=by simp only[AS.take,AS.put,h2,h3,h4,h5,h6,e1]
   simp only[ah,gu,hg,da,hp,hd,hl,aY,bW,vB,hT,r2,KT,t2];rw[aH hlen];exact hB _;cases h;cases h
  cases h
theorem acr {p:Oper}{x:Nat}(hp:p.op=.store T (.tmp q) (.tmp x))(hd:p.dst=none)(hg:p.guard=none)(Ze:an.es q=some b)(Py:(an.eb q).isNone=true)(jH:b≠x)(XL:(an.sb q).isNone=true)(hl:yN an p=false)(h:cz E Γ an ops Y p st=some s): ∃B,s=⟨gU (gU st.slots x ((st.get x).aU st.ep)) b B,st.boxes,st.ep+1,st.iss,st.io⟩/\ ∀st2:AS,st2.get q=st.get q->st2.get x=st.get x->nth st2.slots b=nth st.slots b->st2.boxes=st.boxes->st2.ep=st.ep->st2.iss=st.iss->st2.io=st.io-> cz E Γ an ops Y p st2=some ⟨gU (gU st2.slots x ((st.get x).aU st.ep)) b B,st.boxes,st.ep+1,st.iss,st.io⟩:=by
 have ga:∀st2:AS,st2.get q=st.get q->st2.ep=st.ep->dv E an Y p st2=dv E an Y p st:=by intro st2 h1 h2;simp only[dv,hp,AS.rd,h1,h2]
 unfold cz at h;cases hf:dv E an Y p st with
 |false=>rw[hf]at h;cases h
 |true=>
  rw[hf]at h;simp only[ah,gu,hg,da,hp,hd,hl,aY,bW]at h;have jq:=hf;simp only[dv,hp]at jq;have KO:((an.sb q).isNone&&(an.eb q).isNone&&(an.es q).isNone)=false:=by rw[Ze];simp
  rw[KO,cJ]at jq;unfold vB at h;split at h;rename_i KT;rw[KT]at jq;simp only[ae,aV]at jq;rw[jq.2]at XL;cases XL;rename_i sh Ks r tg e y i off hT KT;rw[KT]at jq;cases r with
  |box _ _=>simp only[ae,aV]at jq;rw[jq.1.1]at Py;cases Py
  |io _=>simp at jq
  |slot b' j=>
   simp only[ae,aV]at jq;have Vp:b'=b:=du (jq.1.1.symm.trans Ze);subst Vp;split at h;rename_i gg vs st1 rK;have e1:(st.get x)=.val gg vs:=by have:=congrArg Prod.fst rK;exact this
   have e2:st1=⟨gU st.slots x ((st.get x).aU st.ep),st.boxes,st.ep,st.iss,st.io⟩:=by have:=congrArg Prod.snd rK;exact this.symm
   split at h;rename_i hlen;have main:∃B,∀sl:ax AV,nth sl b'=nth st.slots b'->(⟨sl,st.boxes,st.ep,st.iss,st.io⟩:AS).oR (.slot b' j) tg e i off vs some=some ⟨gU sl b' B,st.boxes,st.ep+1,st.iss,st.io⟩:=by
    subst e2;have gS:∀sl:ax AV,nth sl b'=nth st.slots b'->(⟨sl,st.boxes,st.ep,st.iss,st.io⟩:AS).get b'=st.get b':=λsl hq=>by unfold AS.get;rw[hq]
    have hq0:nth (gU st.slots x ((st.get x).aU st.ep)) b'=nth st.slots b':=by rw[ju,aI (cO jH)]
    simp only[AS.oR,AS.eR,AS.eV,gS _ hq0]at h;cases hb:st.get b' with
    |uW _=>rw[hb]at h;simp at h
    |val g0 cs=>
     rw[hb]at h;simp only at h;split at h;rename_i t' e' xs hn;split at h;rename_i he;split at h;rename_i ht;cases hi:idx (he▸xs:ax e.D) i with|none=>rw[hi]at h;simp[aa]at h|some y0=>simp only[hi,aa]at h;split at h;rename_i x' Ab;refine⟨.val g0 (gU cs j (.sl (.own (some t')) e ((he▸xs:ax e.D).set i.toNat x'))),λsl hq=>?_⟩;simp only[AS.oR,AS.eR,AS.eV,gS _ hq,hb,hn,dif_pos he,aH ht,hi,aa,Ab,AS.put];cases h
     cases h;cases h;rename_i t' i' q0 e' xs hn;split at h;rename_i he;split at h;rename_i ht;cases hi:Zo (he▸xs:ax e.D) i' i with|none=>rw[hi]at h;simp[aa]at h|some y0=>simp only[hi,aa]at h;split at h;rename_i x' Ab;refine⟨.val g0 (gU cs j (.sl (.own (some t')) e ((he▸xs:ax e.D).set i.toNat x'))),λsl hq=>?_⟩;simp only[AS.oR,AS.eR,AS.eV,gS _ hq,hb,hn,dif_pos he,aH ht,hi,aa,Ab,AS.put];cases h
     cases h;cases h;cases h
   obtain⟨B,hB⟩:=main;refine⟨B,?_,λst2 h1 h2 vd h3 h4 h5 h6=>?_⟩;subst e2;rw[hB _ (by rw[ju,aI (cO jH)])]at h;exact(du h).symm;unfold cz;rw[ga st2 h1 h4,hf];have r2:st2.rd (.tmp q)=st.rd (.tmp q):=by simp only[AS.rd,h1,h4]
   have t2:st2.take (.tmp x)=(.val gg vs,⟨gU st2.slots x ((st.get x).aU st.ep),st.boxes,st.ep,st.iss,st.io⟩):=by simp only[AS.take,AS.put,h2,h3,h4,h5,h6,e1]
   simp only[ah,gu,hg,da,hp,hd,hl,aY,bW,vB,hT,r2,KT,t2];rw[aH hlen];exact hB _ (by rw[ju,aI (cO jH)];exact vd);cases h;cases h
  cases h
theorem afd {o p:Oper}(ha:U8 an o p=true)(h1:cz E Γ an ops X o st=some s1)(h2:cz E Γ an ops Y p s1=some s2): ∃t1,cz E Γ an ops Y p st=some t1/\cz E Γ an ops X o t1=some s2:=by
 unfold U8 at ha;split at ha;rename_i T q x hp hpd hpg;simp only[ae,aK]at ha;obtain⟨⟨⟨Py,XL⟩,hl⟩,ha⟩:=ha;have ajB:∃d t,o.dst=some d/\o.guard=none/\((o.op=.move (.tmp t)/\an.mv.contains d=false/\an.fm.contains d=true)\/∃i,o.op=.extract (.tmp t) i)/\d≠q/\d≠x/\t≠x/\d≠t/\t≠q:=by split at ha;rename_i t d ho hd hg;simp only[ae,aK,cH]at ha;exact⟨d,t,hd,hg,.inl ⟨ho,ha.1.1.1.1.1.1,ha.1.1.1.1.1.2⟩,ha.1.1.1.1.2,ha.1.1.1.2,ha.1.1.2,ha.2,ha.1.2⟩;rename_i t i d ho hd hg;simp only[ae,aK,cH]at ha;exact⟨d,t,hd,hg,.inr ⟨i,ho⟩,ha.1.1.1.1,ha.1.1.1.2,ha.1.1.2,ha.2,ha.1.2⟩;cases ha
 obtain⟨d,t,hd,hg,ho,hdq,hdx,htx,hdt,htq⟩:=ajB;obtain⟨tv,v,rfl,ed⟩:=Tu hd hg ho hdt h1;have hq:((st.put (some t) tv).put (some d) v).get q=st.get q:=by rw[sY hdq];exact sY htq
 have hx:((st.put (some t) tv).put (some d) v).get x=st.get x:=by rw[sY hdx,sY htx]
 simp only[cE,ae]at Py;rcases Py with⟨Py,Ze⟩|Ze;obtain⟨B,rfl,Zg⟩:=afe hp hpd hpg Py Ze XL hl h2;have k1:=Zg st hq.symm hx.symm rfl rfl rfl rfl;refine⟨_,k1,?_⟩;have ET:(⟨gU st.slots x ((((st.put (some t) tv).put (some d) v).get x).aU ((st.put (some t) tv).put (some d) v).ep),B,((st.put (some t) tv).put (some d) v).ep+1,((st.put (some t) tv).put (some d) v).iss,((st.put (some t) tv).put (some d) v).io⟩:AS).get t=st.get t:=by simp only[AS.get,ju,aI (cO htx)]
 rw[ed _ ET];simp only[AS.put,bc,AS.mk.injEq,iI];rw[iX _ (cO htx),iX _ (cO hdx)];cases hb:an.es q with
 |none=>rw[hb]at Ze;cases Ze
 |some b=>
  rw[hb]at Ze;simp only[ae,aK,cH]at Ze;obtain⟨⟨⟨Py,jH⟩,_⟩,hbw⟩:=Ze;have hbw:=lQ hbw b (by simp);have hbd:b≠d:=λe=>hbw (by simp[hd,e]);have hbt:b≠t:=λe=>hbw (by refine az.2 (.inr ?_);rcases ho with⟨ho,_⟩|⟨i,ho⟩<;>simp[dE,ho,tm,e]);obtain⟨B,rfl,Zg⟩:=acr hp hpd hpg hb Py jH XL hl h2;have vd:nth st.slots b=nth ((st.put (some t) tv).put (some d) v).slots b:=by simp only[AS.put,ju,aI (cO hbd),aI (cO hbt)]
  have k1:=Zg st hq.symm hx.symm vd rfl rfl rfl rfl;refine⟨_,k1,?_⟩;have ET:(⟨gU (gU st.slots x ((((st.put (some t) tv).put (some d) v).get x).aU ((st.put (some t) tv).put (some d) v).ep)) b B,((st.put (some t) tv).put (some d) v).boxes,((st.put (some t) tv).put (some d) v).ep+1,((st.put (some t) tv).put (some d) v).iss,((st.put (some t) tv).put (some d) v).io⟩:AS).get t=st.get t:=by simp only[AS.get,ju,aI (cO htx),aI hbt]
  rw[ed _ ET];simp only[AS.put,bc,AS.mk.injEq,iI];rw[iX _ hbt,iX _ hbd,iX _ (cO htx),iX _ (cO hdx)]
 cases ha
theorem Qv {c:AC}(h:c.kW=true\/(c.borrow ep none).kW=true):c.borrow ep none=c:=by
 cases c with
 |sl fl e xs=>exfalso;cases fl with|fi _ _ ep=>cases ep<;>simp[AC.borrow,AC.kW]at h|_=>simp[AC.borrow,AC.kW]at h
 |_=>rfl
theorem LY {cs:ax AC}{n:Nat}(gF:off+n<=cs.length)(k:Nat):(dZ cs off (aU ep ((cs.drop off).take n)))[k]?=(cs[k]?).map λc=>if off<=k/\k<off+n then c.borrow ep none else c:=by
 have hl:(aU ep ((cs.drop off).take n)).length=n:=by simp[aU];omega
 unfold dZ;rw[hl];by_cases h1:k<off;rw[aR,bB (by simp;omega),dQ h1];have:(λc:AC=>if off<=k/\k<off+n then c.borrow ep none else c)=id:=by funext c;rw[lv];rfl
 rw[this,Option.map_id];rfl;by_cases h2:k<off+n;rw[bB (by simp[hl];omega),bm (by simp;omega)];have e:k-(cs.take off).length=k-off:=by simp;omega
 rw[e,aU,List.getElem?_map,dQ (by omega),bH,show off+(k-off)=k by omega];congr 1;funext c;rw[zip];rw[bm (by simp[hl];omega)];have e:k-(cs.take off++aU ep ((cs.drop off).take n)).length=k-(off+n):=by simp[hl];omega
 rw[e,bH,show off+n+(k-(off+n))=k by omega];have:(λc:AC=>if off<=k/\k<off+n then c.borrow ep none else c)=id:=by funext c;rw[lv];rfl
 rw[this,Option.map_id];rfl
theorem GV {cs:ax AC}{n o2 n2:Nat}(gF:off+n<=cs.length)(h:((cs.drop o2).take n2).all AC.kW=true\/(((dZ cs off (aU ep ((cs.drop off).take n))).drop o2).take n2).all AC.kW=true): ((dZ cs off (aU ep ((cs.drop off).take n))).drop o2).take n2=(cs.drop o2).take n2:=by
 apply cA;intro k;by_cases hk:k<n2;rw[dQ hk,dQ hk,bH,bH,LY gF];cases hc:cs[o2+k]? with|none=>rfl|some c=>simp only[de];split;rename_i ta;refine congrArg some (Qv ?_);rcases h with h|h;left;refine aF.1 h c (bp (i:=k) ?_);rw[dQ hk,bH,hc];right;refine aF.1 h _ (bp (i:=k) ?_);rw[dQ hk,bH,LY gF,hc,de,aH ta];rfl
 rw[bn (by simp;omega),bn (by simp;omega)]
theorem Ij:∀{cs:ax AC}{j:Nat},cs.all AC.kW=true->iv ep (.box b) j cs=cs
 |[],_,_=>rfl
 |c::cs,j,h=>by simp only[cc,ae]at h;rw[iv,Ij h.2];congr 1;cases c<;>first|rfl|(simp[AC.kW]at h)
theorem L7 {o:Oper}(h:Aj an o=true):∃T q d,o.op=.load T (.tmp q)/\o.dst=some d/\o.guard=none/\an.mv.contains d=true/\(an.mb d).isSome=true:=by unfold Aj at h;split at h;rename_i T q d ho hd hg;simp only[ae]at h;exact⟨T,q,d,ho,hd,hg,h.1,h.2⟩;cases h
theorem KB {o:Oper}(h:KA an o=true):∃T q d,o.op=.load T (.tmp q)/\o.dst=some d/\o.guard=none/\an.mv.contains d=false/\an.fm.contains d=true:=by unfold KA at h;split at h;rename_i T q d ho hd hg;simp only[ae,aK]at h;exact⟨T,q,d,ho,hd,hg,h.1,h.2⟩;cases h
theorem DS {o:Oper}(ht:Aj an o=true)(ho:o.op=.load T (.tmp q))(hd:o.dst=some d)(hg:o.guard=none)(BW:an.mv.contains d=true):cz E Γ an ops X o st=some s↔ ∃sh b off cs,ja E.ty T=some sh/\st.rd (.tmp q)=.val false [.ptr b off]/\(nth st.boxes b).getD none=some cs/\off+sh.ct.size<=cs.length/\X.contains b=false/\an.mb d=some b/\(T0 an o=true->Cv E T st b off=true)/\ s=(st.eI b (some (dZ cs off (aU st.ep ((cs.drop off).take sh.ct.size))))).put (some d) (.val sh.agg ((cs.drop off).take sh.ct.size)):=by
 have key:dv E an X o st=true->∀r,da E Γ an o st some=some r->∃b off,st.rd (.tmp q)=.val false [.ptr b off]:=by intro hf r hr;simp only[da,ho,oG]at hr;split at hr;rename_i hp;exact⟨_,_,hp⟩;rename_i hp;simp only[dv,ho,hp,ht,jF,aj,fH,eJ]at hf;cases hf;cases hr
 unfold cz;constructor;intro h;cases hf:dv E an X o st with|false=>rw[hf]at h;cases h|true=>rw[hf]at h;simp only[ah,gu,hg]at h;obtain⟨b,off,hp⟩:=key hf s h;simp only[dv,ho,hp,hd,BW,aj,cJ,ae,aK,aV,cE]at hf;simp only[da,ho,oG,hp]at h;cases hT:ja E.ty T with|none=>rw[hT]at h;cases h|some sh=>rw[hT]at h;simp only at h;cases hb:(nth st.boxes b).getD none with|none=>rw[hb]at h;cases h|some cs=>rw[hb]at h;simp only at h;split at h;rename_i gF;simp only[hd,BW,bQ]at h;cases h;refine⟨sh,b,off,cs,rfl,hp,hb,gF,hf.1.1,hf.1.2,λhm=>?_,rfl⟩;rcases hf.2 with g|g;rw[hm]at g;cases g;exact g;cases h
 rintro⟨sh,b,off,cs,hT,hp,hb,gF,hX,T4,JN,rfl⟩;have hf:dv E an X o st=true:=by simp only[dv,ho,hp,hd,BW,hX,T4,aj,cJ,ae,aK,aV,cE];refine⟨⟨cq,cq⟩,?_⟩;cases hm:T0 an o with|false=>exact .inl rfl|true=>exact .inr (JN hm)
 rw[hf];simp only[ah,gu,hg,da,ho,oG,hp,hT,hb,aH gF,hd,BW,bQ]
theorem Dw {o:Oper}(ho:o.op=.load T (.tmp q))(hd:o.dst=some d)(hg:o.guard=none)(BW:an.mv.contains d=false)(JN:an.fm.contains d=true):cz E Γ an ops X o st=some s↔ ∃sh b off cs,ja E.ty T=some sh/\st.rd (.tmp q)=.val false [.ptr b off]/\(nth st.boxes b).getD none=some cs/\off+sh.ct.size<=cs.length/\X.contains b=false/\((cs.drop off).take sh.ct.size).all AC.kW=true/\ s=st.put (some d) (.val sh.agg ((cs.drop off).take sh.ct.size)):=by
 have hfb:T0 an o=true:=by simp only[T0,hd,JN]
 have key:dv E an X o st=true->∀r,da E Γ an o st some=some r->∃b off,st.rd (.tmp q)=.val false [.ptr b off]:=by intro hf r hr;simp only[da,ho,oG]at hr;split at hr;rename_i hp;exact⟨_,_,hp⟩;rename_i hp;simp only[dv,ho,hp,hfb,iH,aj,fH,eJ]at hf;cases hf;cases hr
 unfold cz;constructor;intro h;cases hf:dv E an X o st with
 |false=>rw[hf]at h;cases h
 |true=>
  rw[hf]at h;simp only[ah,gu,hg]at h;obtain⟨b,off,hp⟩:=key hf s h;simp only[dv,ho,hp,hd,BW,hfb,aj,cg,iH,cJ,dR,ae,aK]at hf;simp only[da,ho,oG,hp]at h;cases hT:ja E.ty T with
  |none=>rw[hT]at h;cases h
  |some sh=>
   rw[hT]at h;simp only at h;cases hb:(nth st.boxes b).getD none with
   |none=>rw[hb]at h;cases h
   |some cs=>
    rw[hb]at h;simp only at h;split at h;rename_i gF;have mF:((cs.drop off).take sh.ct.size).all AC.kW=true:=by have:=hf.2;unfold Cv at this;rw[hT,hb]at this;exact this
    simp only[hd,BW,aY,bW,Ij mF]at h;cases h;exact⟨sh,b,off,cs,rfl,hp,hb,gF,hf.1,mF,rfl⟩;cases h
 rintro⟨sh,b,off,cs,hT,hp,hb,gF,hX,mF,rfl⟩;have hf:dv E an X o st=true:=by simp only[dv,ho,hp,hd,BW,hX,hfb,Cv,hT,hb,mF];rfl
 rw[hf];simp only[ah,gu,hg,da,ho,oG,hp,hT,hb,aH gF,hd,BW,aY,bW,Ij mF]
theorem Oj {v:AV}(h:d≠q):(st.put (some d) v).rd (.tmp q)=st.rd (.tmp q):=by simp only[AS.rd,sY h];rfl
theorem adQ {cs:ay (ax AC)}:(st.eI b cs).rd (.tmp q)=st.rd (.tmp q):=rfl
theorem Up {cs x:ax AC}(h:(nth st.boxes b).getD none=some cs):(nth (gU st.boxes b (some x)) b).getD none=some x:=by
 rw[ju,aH rfl];cases hn:nth st.boxes b with
 |none=>rw[hn]at h;cases h
 |some _=>
  have:b<st.boxes.length:=by rw[dK]at hn;exact(aG.1 hn).1
  rw[aH this];rfl
theorem Uq {b2:Nat}{x:ax AC}(h:b≠b2):nth (gU st.boxes b (some x)) b2=nth st.boxes b2:=by rw[ju,aI h]
theorem afN {o p:Oper}(ha:V1 an o p=true)(h1:cz E Γ an ops X o st=some s1)(h2:cz E Γ an ops Y p s1=some s2): ∃t1,cz E Γ an ops Y p st=some t1/\cz E Γ an ops X o t1=some s2:=by
 simp only[V1,ae,cE,aK]at ha;obtain⟨⟨ha,m1⟩,m2⟩:=ha;have m1:=lQ m1;have m2:=lQ m2;rcases ha with⟨ht,hf⟩|⟨hf,ht⟩;obtain⟨T,q,d,ho,hd,hg,BW,T4⟩:=L7 ht;obtain⟨T2,q2,d2,hp,QM,ET,RV,Zf⟩:=KB hf;have n1:d≠d2:=λe=>m1 d (by simp[hd]) (by simp[QM,e]);have n2:d≠q2:=λe=>m1 d (by simp[hd]) (by simp[dE,hp,tm,e]);have n3:d2≠q:=λe=>m2 d2 (by simp[QM]) (by simp[dE,ho,tm,e]);obtain⟨sh,b,off,cs,hT,hr,hb,gF,hX,ahH,JN,rfl⟩:=(DS ht ho hd hg BW).1 h1;obtain⟨sh2,b2,MQ,Cb,hT2,MD,JM,XJ,hX2,PG,rfl⟩:=(Dw hp QM ET RV Zf).1 h2;rw[Oj n2,adQ]at MD;have jH:(nth (gU st.boxes b (some (dZ cs off (aU st.ep ((cs.drop off).take sh.ct.size))))) b2).getD none=some Cb:=JM;have qc:∃Ng,(nth st.boxes b2).getD none=some Ng/\MQ+sh2.ct.size<=Ng.length/\(Cb.drop MQ).take sh2.ct.size=(Ng.drop MQ).take sh2.ct.size:=by
  by_cases Vp:b=b2;subst Vp;rw[Up hb]at jH;cases jH;have hlen:(dZ cs off (aU st.ep ((cs.drop off).take sh.ct.size))).length=cs.length:=by simp only[dZ,aU,ai,cb,aW,aM];omega
  exact⟨cs,hb,by omega,GV gF (.inr PG)⟩;rw[Uq Vp]at jH;exact⟨Cb,jH,XJ,rfl⟩
 obtain⟨Ng,RM,RP,he⟩:=qc;rw[he]at PG⊢;refine⟨_,(Dw hp QM ET RV Zf).2 ⟨sh2,b2,MQ,Ng,hT2,MD,RM,RP,hX2,PG,rfl⟩,(DS ht ho hd hg BW).2 ⟨sh,b,off,cs,hT,by rw[Oj n3];exact hr,hb,gF,hX,ahH,λhm=>?_,?_⟩⟩;have:=JN hm;unfold Cv at this⊢;exact this;simp only[AS.put,AS.eI,AS.mk.injEq,iI];exact iX _ n1 _ _;obtain⟨T,q,d,ho,hd,hg,BW,JN⟩:=KB hf;obtain⟨T2,q2,d2,hp,QM,ET,RV,ahG⟩:=L7 ht;have n1:d≠d2:=λe=>m1 d (by simp[hd]) (by simp[QM,e]);have n2:d≠q2:=λe=>m1 d (by simp[hd]) (by simp[dE,hp,tm,e]);have n3:d2≠q:=λe=>m2 d2 (by simp[QM]) (by simp[dE,ho,tm,e]);obtain⟨sh,b,off,cs,hT,hr,hb,gF,hX,mF,rfl⟩:=(Dw ho hd hg BW JN).1 h1;obtain⟨sh2,b2,MQ,Cb,hT2,MD,JM,XJ,hX2,ahH,Zf,rfl⟩:=(DS ht hp QM ET RV).1 h2;rw[Oj n2]at MD;refine⟨_,(DS ht hp QM ET RV).2 ⟨sh2,b2,MQ,Cb,hT2,MD,JM,XJ,hX2,ahH,λhm=>Zf hm,rfl⟩,?_⟩;have qc:∃Ng,(nth (gU st.boxes b2 (some (dZ Cb MQ (aU st.ep ((Cb.drop MQ).take sh2.ct.size))))) b).getD none=some Ng/\off+sh.ct.size<=Ng.length/\(Ng.drop off).take sh.ct.size=(cs.drop off).take sh.ct.size:=by
  by_cases Vp:b2=b;subst Vp;have Hv:Cb=cs:=du (JM.symm.trans hb);subst Hv;have hlen:(dZ Cb MQ (aU st.ep ((Cb.drop MQ).take sh2.ct.size))).length=Cb.length:=by simp only[dZ,aU,ai,cb,aW,aM];omega
  exact⟨_,Up hb,by omega,GV XJ (.inl mF)⟩;exact⟨cs,by rw[Uq Vp];exact hb,gF,rfl⟩
 obtain⟨Ng,RM,RP,he⟩:=qc;refine(Dw ho hd hg BW JN).2 ⟨sh,b,off,Ng,hT,by rw[Oj n3,adQ];exact hr,RM,RP,hX,by rw[he];exact mF,?_⟩;rw[he];simp only[AS.put,AS.eI,AS.mk.injEq,iI];exact iX _ n1 _ _
theorem L6 {o:Oper}(ht:Db an o=true)(ho:o.op=.load T (.tmp q))(hd:o.dst=some d)(hg:o.guard=none)(BW:an.mv.contains d=true)(T4:an.mb d=none):cz E Γ an ops X o st=some s↔ ∃(g:Bool)(e:CT)(jJ:ax (Nat×Nat))(b j t Ks:Nat)(x:e.D)(i:Int)(cs:ax AC)(ys:ax e.D)(y:e.D),ja E.ty T=some ⟨g,e,jJ⟩/\st.rd (.tmp q)=.val false [.zX (.loc Ks (some (.box b j,t))) e x i 0]/\(nth st.boxes b).getD none=some cs/\nth cs j=some (.sl (.own (some t)) e ys)/\idx ys i=some y/\ X.contains b=false/\an.eb q=some b/\T0 an o=false/\s=(G5 st b j t e i cs ys).put (some d) (.val g (cellsOf e (.own none) y)):=by rw[<-L5 ht ho hd BW T4];unfold cz;cases dv E an X o st with|false=>simp|true=>simp only[ah,gu,hg,da,ho,true_and]
theorem aaw {o:Oper}(h:zH an o=true):∃T q d,o.op=.load T (.tmp q)/\o.dst=some d/\o.guard=none/\an.mv.contains d=false/\T0 an o=false:=by unfold zH at h;split at h;rename_i T q d ho hd hg;simp only[ae,aK]at h;exact⟨T,q,d,ho,hd,hg,h.1.1,by simp only[T0,hd];exact h.1.2⟩;cases h
theorem Lw {o:Oper}(DC:zH an o=true)(ho:o.op=.load T (.tmp q))(hd:o.dst=some d)(hg:o.guard=none)(BW:an.mv.contains d=false)(JN:T0 an o=false):cz E Γ an ops X o st=some s↔ ∃sh b off cs,ja E.ty T=some sh/\st.rd (.tmp q)=.val false [.ptr b off]/\(nth st.boxes b).getD none=some cs/\off+sh.ct.size<=cs.length/\X.contains b=false/\ s=st.put (some d) (.val sh.agg (iv st.ep (.box b) off ((cs.drop off).take sh.ct.size))):=by
 unfold cz;constructor;intro h;cases hf:dv E an X o st with|false=>rw[hf]at h;cases h|true=>rw[hf]at h;simp only[ah,gu,hg,da,ho]at h;unfold oG at h;split at h;rename_i sh b off hT hp;simp only[dv,ho,hp,hd,BW,JN,cg,iH,dR,aK]at hf;split at h;rename_i cs hb;split at h;rename_i gF;simp only[hd,BW,aY,bW]at h;cases h;exact⟨sh,b,off,cs,hT,hp,hb,gF,hf,rfl⟩;cases h;cases h;rename_i hp;simp only[dv,ho,hp,DC,aj,fH,eJ]at hf;cases hf;cases h
 rintro⟨sh,b,off,cs,hT,hp,hb,gF,hX,rfl⟩;have hf:dv E an X o st=true:=by simp only[dv,ho,hp,hd,BW,hX,JN];rfl
 rw[hf];simp only[ah,gu,hg,da,ho,oG,hp,hT,hb,aH gF,hd,BW,aY,bW]
theorem J8:∀(cs:ax AC)(p k:Nat)(c':AC),(∀c,cs[k]?=some c->∀r,c'.borrow ep (some r)=c.borrow ep (some r))->iv ep (.box b) p (cs.set k c')=iv ep (.box b) p cs
 |[],_,_,_,_=>rfl
 |c::cs,p,0,c',h=>by simp only[List.set_cons_zero,iv,h c rfl]
 |c::cs,p,k+1,c',h=>by simp only[List.set_cons_succ,iv];rw[J8 cs (p+1) k c' (λc hc=>h c (by simpa using hc))]
theorem Q1 {j n:Nat}{e:CT}{i:Int}{ys:ax e.D}{cs:ax AC}(hj:nth cs j=some (.sl (.own (some t)) e ys)): iv ep (.box b) off (((gU cs j (.sl (.fi (some t) i (some ep)) e ys)).drop off).take n)=iv ep (.box b) off ((cs.drop off).take n):=by rw[fu,List.drop_set];split;rfl;rename_i gY;rw[List.take_set];refine J8 _ _ _ _ λc hc r=>?_;by_cases hn:j-off<n;rw[dQ hn,bH,show off+(j-off)=j by omega,<-dK,hj]at hc;cases hc;rfl;rw[bn (by simp;omega)]at hc;cases hc
theorem ae9 {o p:Oper}(ha:Us an o p=true)(h1:cz E Γ an ops X o st=some s1)(h2:cz E Γ an ops Y p s1=some s2): ∃t1,cz E Γ an ops Y p st=some t1/\cz E Γ an ops X o t1=some s2:=by
 simp only[Us,ae,aK]at ha;obtain⟨⟨⟨DC,ht⟩,m1⟩,m2⟩:=ha;have m1:=lQ m1;have m2:=lQ m2;obtain⟨T,q,d,ho,hd,hg,BW,JN⟩:=aaw DC;obtain⟨T2,q2,d2,hp,QM,ET,RV,ahG⟩:=Ow ht;have n1:d≠d2:=λe=>m1 d (by simp[hd]) (by simp[QM,e]);have n2:d≠q2:=λe=>m1 d (by simp[hd]) (by simp[dE,hp,tm,e]);have n3:d2≠q:=λe=>m2 d2 (by simp[QM]) (by simp[dE,ho,tm,e]);obtain⟨sh,b,off,cs,hT,hr,hb,gF,hX,rfl⟩:=(Lw DC ho hd hg BW JN).1 h1;obtain⟨g,e,jJ,b2,j,t,Ks,x,i,Cb,ys,y,hT2,MD,JM,hj,hi,hX2,Py,Zf,rfl⟩:=(L6 ht hp QM ET RV ahG).1 h2;rw[Oj n2]at MD;have ajy:(nth st.boxes b2).getD none=some Cb:=JM;refine⟨_,(L6 ht hp QM ET RV ahG).2 ⟨g,e,jJ,b2,j,t,Ks,x,i,Cb,ys,y,hT2,MD,ajy,hj,hi,hX2,Py,Zf,rfl⟩,?_⟩;have qc:∃Ng,(nth (gU st.boxes b2 (some (gU Cb j (.sl (.fi (some t) i (some st.ep)) e ys)))) b).getD none=some Ng/\off+sh.ct.size<=Ng.length/\iv st.ep (.box b) off ((Ng.drop off).take sh.ct.size)=iv st.ep (.box b) off ((cs.drop off).take sh.ct.size):=by by_cases Vp:b2=b;subst Vp;have Hv:Cb=cs:=du (ajy.symm.trans hb);subst Hv;exact⟨_,Up hb,by rw[fu,aC];exact gF,Q1 hj⟩;exact⟨cs,by rw[Uq Vp];exact hb,gF,rfl⟩
 obtain⟨Ng,RM,RP,he⟩:=qc;refine(Lw DC ho hd hg BW JN).2 ⟨sh,b,off,Ng,hT,by rw[Oj n3];exact hr,RM,RP,hX,?_⟩;show _=((G5 st b2 j t e i Cb ys).put (some d2) _).put (some d) (.val sh.agg (iv st.ep (.box b) off ((Ng.drop off).take sh.ct.size)));rw[he];simp only[AS.put,G5,AS.eI,AS.mk.injEq,iI];exact iX _ n1 _ _
def MT (E:Env)(Γ:yk)(an:An)(ops:ax Oper)(X:Nat->fy):fy->AS->ay AS
 |[],st=>some st
 |i::r,st=>match nth ops i with
  |some o=>(cz E Γ an ops (X i) o st).bind (MT E Γ an ops X r)
  |none=>none
theorem LO (zd:∀f,(Γ f).io=false/\((Γ f).bx=true->(Γ f).cur=true)/\(Γ f).pr=false){X:Nat->fy}{oi:Oper}(hi:nth ops i=some oi):∀(pre post:fy)(st r:AS),(∀j∈pre,∀oj,nth ops j=some oj->J2 an ops (X j) (X i) oj oi=true)->
 MT E Γ an ops X (pre++i::post) st=some r->MT E Γ an ops X (i::(pre++post)) st=some r
 |[],post,st,r,_,h=>h
 |j::pre,post,st,r,ha,h=>by
  simp only[List.cons_append,MT]at h;cases hj:nth ops j with
  |none=>rw[hj]at h;cases h
  |some oj=>
   rw[hj]at h;simp only at h;obtain⟨s1,h1,h2⟩:=aO.1 h;have h3:=LO zd hi pre post s1 r (λk hk=>ha k (by simp[hk])) h2;simp only[MT,hi]at h3;obtain⟨s2,h4,h5⟩:=aO.1 h3;have hap:=ha j (by simp) oj hj;obtain⟨t1,k1,k2⟩:∃t1,cz E Γ an ops (X i) oi st=some t1/\cz E Γ an ops (X j) oj t1=some s2:=by cases hx:adK an oj oi with|false=>rw[J2,hx,cJ]at hap;exact W5 zd hap h1 h4|true=>simp only[adK,cE]at hx;rcases hx with((hx|hx)|hx)|hx;exact acA hx h1 h4;exact afd hx h1 h4;exact afN hx h1 h4;exact ae9 hx h1 h4
   simp only[MT,hi,k1,eu,List.cons_append,hj,k2];exact h5
end Go.Dn
