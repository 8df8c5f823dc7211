import Derived.Test.YtainmjjkipbciaaGreatDnUpd
/- Operations that are apart may change places. -/
namespace Go.Dn
variable {E:Env} {Γ:fy} {an:An} {ops:aw Oper}
variable {s s1 s2 st:AS} {b d ep i off q t:Nat} {α:Type} {T:TypeId} {X Y:fg}
def cy (E:Env)(Γ:fy)(an:An)(ops:aw Oper)(X:fg)(o:Oper)(st:AS):ax AS:=
 bif dq E an X o st then gh E Γ an ops o st some else none
structure N1 (an:An) (ops:List Oper) (X:List Nat) (o:Oper) (st st2:AS):Prop where
 base:gC an X o st st2
 gd:∀t∈Cc an ops o,st2.get t=st.get t
theorem Td {b:Bool}(h:st.get d=.val false [.bool b]):st.put (some d) (.one (.bool b))=st:=by cases st with|mk slots boxes ep iss io=>simp only[AS.put,AS.mk.injEq,iv];rw[fe];apply cz;intro i;rw[bu];split;rename_i hd;subst hd;simp only[AS.get,dI]at h;split;rename_i gW;rw[al gW]at h⊢;simp only[fj]at h;rw[h];rename_i yt;rw[br (Nat.le_of_not_lt yt)];rfl
theorem Pc {st2:AS}{s:Nat}(h:nth st2.boxes s=nth st.boxes s):B7 E T st2 s off=B7 E T st s off:=by unfold B7;rw[h]
theorem Eh {o:Oper}{st2:AS}(ha:gC an X o st st2):dq E an X o st2=dq E an X o st:=by
 unfold dq;split;rename_i ho;rw[ha.rd (λt ht=>by simpa[dB,ho]using ht)];rename_i T p ho;rw[ha.rd (λt ht=>by simp[dB,ho,ht]),ha.ep];rename_i ho;rw[ha.rd (λt ht=>by simp[dB,ho,ht]),ha.ep];rename_i f args ts ho;have hcur:rF an X (erS an o) st2 args.toList=rF an X (erS an o) st args.toList:=by
  have hl:∀x∈args.toList,∀t∈tm x,t∈dB o:=by intro x hx t ht;simp only[dB,ho,ay,MB,List.mem_flatMap];exact .inr ⟨x,hx,ht⟩
  generalize args.toList=l at hl;cases l with
  |nil=>rfl
  |cons x xs=>
   have yM:xs.all (FZ (erS an o) st2)=xs.all (FZ (erS an o) st):=by
    rw[cB];simp only[aE];have e:∀y∈xs,FZ (erS an o) st2 y=FZ (erS an o) st y:=by intro y hy;cases y with|tmp t=>have hg:=ha.get t (hl (.tmp t) (by simp[hy]) t (by simp[tm]));simp only[FZ,hg]|const v=>rfl|func v=>rfl|global v=>rfl
    exact⟨λg y hy=>by rw[<-e y hy];exact g y hy,λg y hy=>by rw[e y hy];exact g y hy⟩
   have hr:=ha.rd (hl x (by simp));cases x with
   |tmp q=>
    simp only[rF,hr];generalize st.rd (.tmp q)=v;unfold aa8;rw[yM];split;rename_i s off;cases hX:X.contains s with|true=>simp|false=>rw[ha.box s hX]
    rfl
   |const v=>simp only[rF,hr]
   |func v=>simp only[rF,hr]
   |global v=>simp only[rF,hr]
 rw[hcur];congr 1;rw[cB];simp only[aE];constructor;intro hx x hm;have:=hx x hm;rwa[ha.rd (λt ht=>by simp only[dB,ho,ay,MB,List.mem_flatMap];exact .inr ⟨x,hm,ht⟩),ha.ep]at this;intro hx x hm;rw[ha.rd (λt ht=>by simp only[dB,ho,ay,MB,List.mem_flatMap];exact .inr ⟨x,hm,ht⟩),ha.ep];exact hx x hm;rename_i ho;rw[ha.rd (λt ht=>by simpa[dB,ho]using ht),ha.ep];split;rename_i s off _;cases hX:X.contains s with|true=>rfl|false=>rw[Pc (ha.box s hX)]
 rfl;rfl;rename_i ho;rw[ha.rd (λt ht=>by simp only[dB,ho,ay];exact .inl ht)];rename_i ho;rw[ha.get _ (by simp[dB,ho])];rfl
theorem H5 (yu:∀f,(Γ f).io=false/\((Γ f).bx=true->(Γ f).cur=true)/\(Γ f).pr=false){o:Oper}{bK:AS}(hm:mJ an o=true)(h:cy E Γ an ops X o st=some bK): ∃u:Gm,u.D5 an o/\bK=u.apply st/\∀st2,N1 an ops X o st st2->cy E Γ an ops X o st2=some (u.apply st2):=by
 unfold cy at h;cases hf:dq E an X o st with
 |false=>rw[hf]at h;cases h
 |true=>
  rw[hf]at h;simp only[ah]at h;unfold gh at h;split at h;rename_i hg;obtain⟨u,h1,h2,h3⟩:=Lw (X:=X) yu hm hf h;refine⟨u,h1,h2,λst2 ha=>?_⟩;unfold cy;rw[Eh ha.base,hf];simp only[ah,gh,hg];exact h3 st2 ha.base;rename_i j EH hg;split at h;rename_i d hd;have sv:d∈Cc an ops o:=by simp[Cc,hg,hd]
  split at h;rename_i b hb;have Yz:(if(b==EH)=true then cX E Γ an o st some else some (st.put o.dst (.one .un)))=some bK:=by cases b<;>simpa only[ah,af,Td hb]using h
  have h2g:∀st2,N1 an ops X o st st2->cy E Γ an ops X o st2=(if(b==EH)=true then cX E Γ an o st2 some else some (st2.put o.dst (.one .un))):=by
   intro st2 ha;have IT:st2.get d=.val false [.bool b]:=by rw[ha.gd d sv];exact hb
   unfold cy;rw[Eh ha.base,hf];simp only[ah,gh,hg,hd,IT];cases b<;>simp only[ah,af,Td IT]
  split at Yz;rename_i hw;obtain⟨u,h1,h2,h3⟩:=Lw (X:=X) yu hm hf Yz;exact⟨u,h1,h2,λst2 ha=>by rw[h2g st2 ha,aF hw];exact h3 st2 ha.base⟩;rename_i hw;cases Yz;exact⟨Bl o (.one .un),zF _,by rw[qF],λst2 ha=>by rw[h2g st2 ha,aH hw,qF]⟩;rename_i hb;cases h;refine⟨Bl o (.one .un),zF _,by rw[qF],λst2 ha=>?_⟩;have IT:st2.get d=.val false [.un]:=by rw[ha.gd d sv];exact hb
  unfold cy;rw[Eh ha.base,hf,qF];simp only[ah,gh,hg,hd,IT];cases h;cases h
theorem iM (l:aw α){j:Nat}(h:i≠j)(v w:α):gK (gK l i v) j w=gK (gK l j w) i v:=by rw[fe,fe,fe,fe,List.set_comm _ _ h]
theorem VT (l:aw AV)(a:aw (Nat×AV))(v:AV)(h:∀x∈a,x.1≠i):jw (gK l i v) a=gK (jw l a) i v:=by induction a generalizing l with|nil=>rfl|cons x a ih=>simp only[jw];rw[iM _ (cM (h x (by simp))),ih _ (λy hy=>h y (by simp[hy]))]
theorem Ta (l:aw AV)(a b:aw (Nat×AV))(h:∀x∈a,∀y∈b,x.1≠y.1):jw (jw l a) b=jw (jw l b) a:=by induction b generalizing l with|nil=>rfl|cons y b ih=>simp only[jw];rw[<-VT l a y.2 (λx hx=>h x hx y (by simp)),ih _ (λx hx z hz=>h x hx z (by simp[hz]))]
theorem Mp (l:aw AV)(a:aw (Nat×AV))(h:∀x∈a,x.1≠t):nth (jw l a) t=nth l t:=by induction a generalizing l with|nil=>rfl|cons x a ih=>rw[jw,ih _ (λy hy=>h y (by simp[hy])),ji,aH (h x (by simp))]
theorem lq {a b:fg}(h:meets a b=false):∀x∈a,x∉b:=by intro x hx hb;unfold meets at h;rw[List.any_eq_false]at h;exact h x hx (by simpa using hb)
theorem Gm.aaW {u:Gm}{o p:Oper}(hw:u.D5 an o)(h1:∀x∈writes an o,x∉dB p++Cc an ops p++writes an p)(h2:∀d∈CO an o,Y.contains d=true)(h3:∀d∈CO an o,p.dst≠some d): N1 an ops Y p (u.apply st) st/\N1 an ops Y p st (u.apply st):=by
 have gI:∀t,t∈dB p++Cc an ops p++writes an p->(u.apply st).get t=st.get t:=by intro t ht;unfold AS.get;have:nth (u.apply st).slots t=nth st.slots t:=Mp _ _ (λx hx he=>h1 _ (hw.slots x hx) (by rw[he];exact ht));rw[this]
 have Yv:∀d,p.dst=some d->nth (u.apply st).iss d=nth st.iss d/\nth (u.apply st).boxes d=nth st.boxes d:=by
  intro d hd;have hd':d∈dB p++Cc an ops p++writes an p:=by simp[writes,hd]
  have Az:o.dst≠some d:=λhe=>h1 d (by simp[writes,he]) hd';constructor;unfold Gm.apply;cases hi:u.iss with|none=>rfl|some k=>simp only;rw[ji,aH];rintro rfl;exact Az (hw.iss _ hi)
  unfold Gm.apply;cases hi:u.box with|none=>rfl|some k=>simp only;rw[ji,aH];intro he;exact h3 _ (hw.box k hi) (by rw[he];exact hd)
 have amx:∀s,Y.contains s=false->nth (u.apply st).boxes s=nth st.boxes s:=by intro s hs;unfold Gm.apply;cases hi:u.box with|none=>rfl|some k=>simp only;rw[ji,aH];rintro rfl;have:=h2 k.1 (hw.box k hi);rw[this]at hs;cases hs
 have hlen:(u.apply st).slots.length=st.slots.length:=K6 _ _;exact⟨⟨⟨hlen.symm,λt ht=>(gI t (by simp[ht])).symm,rfl,λd hd=>⟨((Yv d hd).1).symm,((Yv d hd).2).symm⟩,λs hs=>(amx s hs).symm,λt ht=>(gI t (by simp[Cc,ht])).symm⟩,λt ht=>(gI t (by simp[ht])).symm⟩,⟨⟨hlen,λt ht=>gI t (by simp[ht]),rfl,Yv,amx,λt ht=>gI t (by simp[Cc,ht])⟩,λt ht=>gI t (by simp[ht])⟩⟩
theorem Ue {u v:Gm}{o p:Oper}(hu:u.D5 an o)(hv:v.D5 an p)(h:∀x∈writes an o,x∉writes an p)(hb:∀x∈CO an o,x∉CO an p):v.apply (u.apply st)=u.apply (v.apply st):=by
 have Pk:∀a b,o.dst=some a->p.dst=some b->a≠b:=λa b ha hb he=>h a (by simp[writes,ha]) (by simp[writes,hb,he]);have hs:=Ta st.slots u.slots v.slots (λx hx y hy he=>h _ (hu.slots x hx) (by rw[he];exact hv.slots y hy));simp only[Gm.apply,AS.mk.injEq,true_and,iv];refine⟨hs,?_,?_⟩;cases hub:u.box with|none=>cases v.box<;>rfl|some k=>cases hvb:v.box with|none=>rfl|some l=>exact iM _ (λhe=>hb _ (hu.box k hub) (by rw[he];exact hv.box l hvb)) _ _
 cases hui:u.iss with|none=>cases v.iss<;>rfl|some k=>cases hvi:v.iss with|none=>rfl|some l=>exact iM _ (Pk _ _ (hu.iss k hui) (hv.iss l hvi)) _ _
theorem Wi (yu:∀f,(Γ f).io=false/\((Γ f).bx=true->(Γ f).cur=true)/\(Γ f).pr=false){o p:Oper}(ha:Uc an ops X Y o p=true)(h1:cy E Γ an ops X o st=some s1)(h2:cy E Γ an ops Y p s1=some s2): ∃t1,cy E Γ an ops Y p st=some t1/\cy E Γ an ops X o t1=some s2:=by
 simp only[Uc,ae,aK,aE]at ha;obtain⟨⟨⟨⟨⟨⟨⟨mo,mp⟩,w1⟩,w2⟩,b1⟩,b2⟩,b3⟩,b4⟩:=ha;have w1:=lq w1;have w2:=lq w2;have b3:=lq b3;have b4:=lq b4;obtain⟨u,hu,rfl,hu2⟩:=H5 yu mo h1;obtain⟨v,hv,rfl,Px⟩:=H5 yu mp h2;have ag1:=Gm.aaW (ops:=ops) (p:=p) (Y:=Y) (st:=st) hu w1 b1 (λd hd he=>b3 d hd (by simp[he]));have hww:∀x∈writes an p,x∉dB o++Cc an ops o++writes an o:=by intro x hx hm;rcases ay.1 hm with hm|hm;exact w2 x hx hm;exact w1 x hm (by simp[hx])
 have ag2:=Gm.aaW (ops:=ops) (p:=o) (Y:=X) (st:=st) hv hww b2 (λd hd he=>b4 d hd (by simp[he]));refine⟨v.apply st,Px st ag1.1,?_⟩;rw[hu2 _ ag2.2,Ue hu hv (λx hx hm=>w1 x hx (by simp[hm])) (λx hx hm=>b3 x hx (by simp[hm]))]
theorem E9 {v w:AV}(h:st.get t=v)(hv:v≠ .bot):(st.put (some t) w).get t=w:=by
 unfold AS.get at h;cases hn:nth st.slots t with
 |none=>rw[hn]at h;exact absurd h.symm hv
 |some q=>
  have hl:t<st.slots.length:=by rw[dI]at hn;exact(aG.1 hn).1
  unfold AS.get AS.put;simp only[dI,fe];rw[List.getElem?_set_self hl];rfl
theorem sr {w:AV}(h:d≠t):(st.put (some d) w).get t=st.get t:=by unfold AS.get AS.put;simp only[ji,aH h]
theorem zJ {o:Oper}(ho:o.op=.extract (.tmp t) i)(hd:o.dst=some d)(hg:o.guard=none):cy E Γ an ops X o st=some s↔ ∃vs g cs,st.get t=.uw vs/\nth vs i=some (g,cs)/\(cs.all AC.je||an.mv.contains d)=true/\s=(st.put (some t) (.uw (gK vs i (g,aQ 0 cs)))).put (some d) (.val g cs):=by
 unfold cy;simp only[dq,ho,hd];constructor;intro h;cases hv:st.get t with|val g cs=>simp only[hv,ah,gh,hg,cX,ho,kZ]at h;cases h|uw vs=>simp only[hv]at h;cases hn:nth vs i with|none=>simp only[hn,ah,gh,hg,cX,ho,kZ,hv]at h;cases h|some x=>obtain⟨g,cs⟩:=x;simp only[hn]at h;cases hf:(cs.all AC.je||an.mv.contains d)with|false=>rw[hf]at h;cases h|true=>rw[hf]at h;simp only[ah,gh,hg,cX,ho,kZ,hv,hn,hd]at h;cases h;exact⟨vs,g,cs,rfl,hn,hf,rfl⟩
 rintro⟨vs,g,cs,hv,hn,hf,rfl⟩;simp only[hv,hn,hf,ah,gh,hg,cX,ho,kZ,hd]
theorem aap (l:aw α)(i:Nat)(v w:α):gK (gK l i v) i w=gK l i w:=by rw[fe,fe,fe,List.set_set]
theorem abk {o p:Oper}(ha:UF o p=true)(h1:cy E Γ an ops X o st=some s1)(h2:cy E Γ an ops Y p s1=some s2): ∃t1,cy E Γ an ops Y p st=some t1/\cy E Γ an ops X o t1=some s2:=by
 unfold UF at ha;split at ha;rename_i t i t' j d d' ho hp hd hd' hg mX;simp only[ae,aV,aK,dk,ne_eq]at ha;obtain⟨⟨⟨⟨rfl,hij⟩,Pk⟩,hdt⟩,amB⟩:=ha;obtain⟨vs,g,cs,hv,hn,hf,rfl⟩:=(zJ ho hd hg).1 h1;obtain⟨vs2,g2,BK,Px,BL,Ax,rfl⟩:=(zJ hp hd' mX).1 h2;have hq:((st.put (some t) (.uw (gK vs i (g,aQ 0 cs)))).put (some d) (.val g cs)).get t=.uw (gK vs i (g,aQ 0 cs)):=by rw[sr hdt,E9 hv (by simp)]
 rw[hq]at Px;cases Px;rw[ji,aH hij]at BL;refine⟨_,(zJ hp hd' mX).2 ⟨vs,g2,BK,hv,BL,Ax,rfl⟩,(zJ ho hd hg).2 ⟨gK vs j (g2,aQ 0 BK),g,cs,?_,?_,hf,?_⟩⟩;rw[sr amB,E9 hv (by simp)];rw[ji,aH (cM hij)];exact hn;have e:=iM vs hij (g,aQ 0 cs) (g2,aQ 0 BK);have a:∀(A B:AV)(q:Nat)(v:AV),q≠t->gK (gK (gK st.slots t A) q v) t B=gK (gK st.slots t B) q v:=λA B q v hq=>by rw[iM _ hq,aap]
 simp only[AS.put,AS.mk.injEq,iv];rw[a _ _ _ _ hdt,a _ _ _ _ amB,e,iM _ Pk];cases ha
theorem Xv (s:AS)(t:Nat):s.put (some t) (s.get t)=s:=by cases s with|mk slots boxes ep iss io=>simp only[AS.put,AS.mk.injEq,iv];rw[fe];apply cz;intro i;rw[bu];split;rename_i hd;subst hd;simp only[AS.get,dI];split;rename_i gW;rw[al gW];rfl;rename_i yt;rw[br (Nat.le_of_not_lt yt)];rfl
theorem Tt {o:Oper}(hd:o.dst=some d)(hg:o.guard=none)(ho:(o.op=.move (.tmp t)/\an.mv.contains d=false/\an.fm.contains d=true)\/∃i,o.op=.extract (.tmp t) i)(_hdt:d≠t)(h:cy E Γ an ops X o st=some s): ∃tv v,s=(st.put (some t) tv).put (some d) v/\∀st2:AS,st2.get t=st.get t->cy E Γ an ops X o st2=some ((st2.put (some t) tv).put (some d) v):=by
 rcases ho with⟨ho,BA,IU⟩|⟨i,ho⟩;have Ko:∀st2:AS,st2.get t=st.get t->(st.rd (.tmp t)).kz=true->st2.rd (.tmp t)=st.get t:=by
  intro st2 hq hs;simp only[AS.rd,hq]at hs⊢;cases hv:st.get t with
  |uw vs=>rw[hv]at hs;simp[AV.borrow,AV.kz]at hs
  |val g cs=>
   rw[hv]at hs;simp only[AV.borrow,AV.kz]at hs⊢;congr 1;have key:∀(cs:aw AC)(j:Nat),(ic st.ep (λj=>jW.slot t j) j cs).all AC.kz=true->ic st2.ep (λj=>jW.slot t j) j cs=cs:=by
    intro cs;induction cs with
    |nil=>intro j _;rfl
    |cons c cs ih=>
     intro j h;simp only[ic,cc,ae]at h⊢;rw[ih (j+1) h.2];congr 1;cases c with
     |sl fl e xs=>cases fl with|fa _ _ ep=>cases ep<;>simp[AC.borrow,AC.kz]at h|_=>simp[AC.borrow,AC.kz]at h
     |_=>rfl
   exact key cs 0 hs
 unfold cy at h;have lX:(st.rd (.tmp t)).kz=true:=by cases hs:(st.rd (.tmp t)).kz with|true=>rfl|false=>simp only[dq,ho,T0,hd,IU,hs]at h;cases h
 refine⟨st.get t,st.get t,?_,λst2 hq=>?_⟩;simp only[dq,ho,T0,hd,IU,lX,iu,ah,gh,hg,cX,zZ,BA,aW,bX]at h;cases h;rw[Ko st rfl lX];congr 1;exact(Xv st t).symm;unfold cy;have e1:=Ko st2 hq lX;have Ps:(st2.rd (.tmp t)).kz=true:=by rw[e1,<-Ko st rfl lX];exact lX
 simp only[dq,ho,T0,hd,IU,Ps,iu,ah,gh,hg,cX,zZ,BA,aW,bX];rw[e1,<-hq,Xv];obtain⟨vs,g,cs,hv,hn,hf,rfl⟩:=(zJ ho hd hg).1 h;refine⟨_,_,rfl,λst2 hq=>(zJ ho hd hg).2 ⟨vs,g,cs,by rw[hq,hv],hn,hf,rfl⟩⟩
theorem aeI {p:Oper}{x:Nat}(hp:p.op=.store T (.tmp q) (.tmp x))(hd:p.dst=none)(hg:p.guard=none)(Pm:(an.eb q).isSome=true)(Yx:(an.es q).isNone=true)(Xb:(an.sb q).isNone=true)(hl:yf an p=false)(h:cy E Γ an ops Y p st=some s): ∃B,s=⟨gK st.slots x ((st.get x).aQ st.ep),B,st.ep+1,st.iss,st.io⟩/\ ∀st2:AS,st2.get q=st.get q->st2.get x=st.get x->st2.boxes=st.boxes->st2.ep=st.ep->st2.iss=st.iss->st2.io=st.io-> cy E Γ an ops Y p st2=some ⟨gK st2.slots x ((st.get x).aQ st.ep),B,st.ep+1,st.iss,st.io⟩:=by
 have fT:∀st2:AS,st2.get q=st.get q->st2.ep=st.ep->dq E an Y p st2=dq E an Y p st:=by intro st2 h1 h2;simp only[dq,hp,AS.rd,h1,h2]
 unfold cy at h;cases hf:dq E an Y p st with
 |false=>rw[hf]at h;cases h
 |true=>
  rw[hf]at h;simp only[ah,gh,hg,cX,hp,hd,hl,aW,bX]at h;have jf:=hf;simp only[dq,hp]at jf;have Kj:((an.sb q).isNone&&(an.eb q).isNone&&(an.es q).isNone)=false:=by cases he:an.eb q with|none=>rw[he]at Pm;cases Pm|some _=>simp
  rw[Kj,cE]at jf;unfold uU at h;split at h;rename_i Ko;rw[Ko]at jf;simp only[ae,aV]at jf;rw[jf.2]at Xb;cases Xb;rename_i sh JT r tg e y i off hT Ko;rw[Ko]at jf;cases r with
  |slot _ _=>simp only[ae,aV]at jf;rw[jf.1.1]at Yx;cases Yx
  |io _=>simp at jf
  |box b j=>
   split at h;rename_i gg vs st1 qT;have e1:(st.get x)=.val gg vs:=by have:=congrArg Prod.fst qT;exact this
   have e2:st1=⟨gK st.slots x ((st.get x).aQ st.ep),st.boxes,st.ep,st.iss,st.io⟩:=by have:=congrArg Prod.snd qT;exact this.symm
   split at h;rename_i hlen;have main:∃B,∀sl:aw AV,(⟨sl,st.boxes,st.ep,st.iss,st.io⟩:AS).oe (.box b j) tg e i off vs some=some ⟨sl,B,st.ep+1,st.iss,st.io⟩:=by
    subst e2;simp only[AS.oe,AS.eL,AS.eR,AS.eD]at h⊢;cases hb:(nth st.boxes b).getD none with
    |none=>rw[hb]at h;simp at h
    |some cs=>
     rw[hb]at h;simp only[eh]at h⊢;split at h;rename_i t' e' xs hn;split at h;rename_i he;simp only[dif_pos he];generalize (he▸xs:aw e.D)=zs at h⊢;split at h;rename_i ht;simp only[aF ht];cases hi:idx zs i with|none=>rw[hi]at h;simp[aa]at h|some y0=>simp only[hi,aa]at h⊢;split at h;exact⟨_,λsl=>rfl⟩;cases h
     cases h;cases h;rename_i t' i' q0 e' xs hn;split at h;rename_i he;simp only[dif_pos he];generalize (he▸xs:aw e.D)=zs at h⊢;split at h;rename_i ht;simp only[aF ht];cases hi:YG zs i' i with|none=>rw[hi]at h;simp[aa]at h|some y0=>simp only[hi,aa]at h⊢;split at h;exact⟨_,λsl=>rfl⟩;cases h
     cases h;cases h;cases h
   obtain⟨B,hB⟩:=main;refine⟨B,?_,λst2 h1 h2 h3 h4 h5 h6=>?_⟩;subst e2;rw[hB]at h;exact(dD h).symm;unfold cy;rw[fT st2 h1 h4,hf];have r2:st2.rd (.tmp q)=st.rd (.tmp q):=by simp only[AS.rd,h1,h4]
   have t2:st2.take (.tmp x)=(.val gg vs,⟨gK st2.slots x ((st.get x).aQ st.ep),st.boxes,st.ep,st.iss,st.io⟩):=by simp only[AS.take,AS.put,h2,h3,h4,h5,h6,e1]
   simp only[ah,gh,hg,cX,hp,hd,hl,aW,bX,uU,hT,r2,Ko,t2];rw[aF hlen];exact hB _;cases h;cases h
  cases h
theorem abb {p:Oper}{x:Nat}(hp:p.op=.store T (.tmp q) (.tmp x))(hd:p.dst=none)(hg:p.guard=none)(Yx:an.es q=some b)(Pm:(an.eb q).isNone=true)(jt:b≠x)(Xb:(an.sb q).isNone=true)(hl:yf an p=false)(h:cy E Γ an ops Y p st=some s): ∃B,s=⟨gK (gK st.slots x ((st.get x).aQ st.ep)) b B,st.boxes,st.ep+1,st.iss,st.io⟩/\ ∀st2:AS,st2.get q=st.get q->st2.get x=st.get x->nth st2.slots b=nth st.slots b->st2.boxes=st.boxes->st2.ep=st.ep->st2.iss=st.iss->st2.io=st.io-> cy E Γ an ops Y p st2=some ⟨gK (gK st2.slots x ((st.get x).aQ st.ep)) b B,st.boxes,st.ep+1,st.iss,st.io⟩:=by
 have fT:∀st2:AS,st2.get q=st.get q->st2.ep=st.ep->dq E an Y p st2=dq E an Y p st:=by intro st2 h1 h2;simp only[dq,hp,AS.rd,h1,h2]
 unfold cy at h;cases hf:dq E an Y p st with
 |false=>rw[hf]at h;cases h
 |true=>
  rw[hf]at h;simp only[ah,gh,hg,cX,hp,hd,hl,aW,bX]at h;have jf:=hf;simp only[dq,hp]at jf;have Kj:((an.sb q).isNone&&(an.eb q).isNone&&(an.es q).isNone)=false:=by rw[Yx];simp
  rw[Kj,cE]at jf;unfold uU at h;split at h;rename_i Ko;rw[Ko]at jf;simp only[ae,aV]at jf;rw[jf.2]at Xb;cases Xb;rename_i sh JT r tg e y i off hT Ko;rw[Ko]at jf;cases r with
  |box _ _=>simp only[ae,aV]at jf;rw[jf.1.1]at Pm;cases Pm
  |io _=>simp at jf
  |slot b' j=>
   simp only[ae,aV]at jf;have UO:b'=b:=dD (jf.1.1.symm.trans Yx);subst UO;split at h;rename_i gg vs st1 qT;have e1:(st.get x)=.val gg vs:=by have:=congrArg Prod.fst qT;exact this
   have e2:st1=⟨gK st.slots x ((st.get x).aQ st.ep),st.boxes,st.ep,st.iss,st.io⟩:=by have:=congrArg Prod.snd qT;exact this.symm
   split at h;rename_i hlen;have main:∃B,∀sl:aw AV,nth sl b'=nth st.slots b'->(⟨sl,st.boxes,st.ep,st.iss,st.io⟩:AS).oe (.slot b' j) tg e i off vs some=some ⟨gK sl b' B,st.boxes,st.ep+1,st.iss,st.io⟩:=by
    subst e2;have gI:∀sl:aw AV,nth sl b'=nth st.slots b'->(⟨sl,st.boxes,st.ep,st.iss,st.io⟩:AS).get b'=st.get b':=λsl hq=>by unfold AS.get;rw[hq]
    have hq0:nth (gK st.slots x ((st.get x).aQ st.ep)) b'=nth st.slots b':=by rw[ji,aH (cM jt)]
    simp only[AS.oe,AS.eL,AS.eR,gI _ hq0]at h;cases hb:st.get b' with
    |uw _=>rw[hb]at h;simp at h
    |val g0 cs=>
     rw[hb]at h;simp only at h;split at h;rename_i t' e' xs hn;split at h;rename_i he;split at h;rename_i ht;cases hi:idx (he▸xs:aw e.D) i with|none=>rw[hi]at h;simp[aa]at h|some y0=>simp only[hi,aa]at h;split at h;rename_i x' zt;refine⟨.val g0 (gK cs j (.sl (.own (some t')) e ((he▸xs:aw e.D).set i.toNat x'))),λsl hq=>?_⟩;simp only[AS.oe,AS.eL,AS.eR,gI _ hq,hb,hn,dif_pos he,aF ht,hi,aa,zt,AS.put];cases h
     cases h;cases h;rename_i t' i' q0 e' xs hn;split at h;rename_i he;split at h;rename_i ht;cases hi:YG (he▸xs:aw e.D) i' i with|none=>rw[hi]at h;simp[aa]at h|some y0=>simp only[hi,aa]at h;split at h;rename_i x' zt;refine⟨.val g0 (gK cs j (.sl (.own (some t')) e ((he▸xs:aw e.D).set i.toNat x'))),λsl hq=>?_⟩;simp only[AS.oe,AS.eL,AS.eR,gI _ hq,hb,hn,dif_pos he,aF ht,hi,aa,zt,AS.put];cases h
     cases h;cases h;cases h
   obtain⟨B,hB⟩:=main;refine⟨B,?_,λst2 h1 h2 uz h3 h4 h5 h6=>?_⟩;subst e2;rw[hB _ (by rw[ji,aH (cM jt)])]at h;exact(dD h).symm;unfold cy;rw[fT st2 h1 h4,hf];have r2:st2.rd (.tmp q)=st.rd (.tmp q):=by simp only[AS.rd,h1,h4]
   have t2:st2.take (.tmp x)=(.val gg vs,⟨gK st2.slots x ((st.get x).aQ st.ep),st.boxes,st.ep,st.iss,st.io⟩):=by simp only[AS.take,AS.put,h2,h3,h4,h5,h6,e1]
   simp only[ah,gh,hg,cX,hp,hd,hl,aW,bX,uU,hT,r2,Ko,t2];rw[aF hlen];exact hB _ (by rw[ji,aH (cM jt)];exact uz);cases h;cases h
  cases h
theorem aeH {o p:Oper}(ha:UC an o p=true)(h1:cy E Γ an ops X o st=some s1)(h2:cy E Γ an ops Y p s1=some s2): ∃t1,cy E Γ an ops Y p st=some t1/\cy E Γ an ops X o t1=some s2:=by
 unfold UC at ha;split at ha;rename_i T q x hp hpd hpg;simp only[ae,aK]at ha;obtain⟨⟨⟨Pm,Xb⟩,hl⟩,ha⟩:=ha;have amy:∃d t,o.dst=some d/\o.guard=none/\((o.op=.move (.tmp t)/\an.mv.contains d=false/\an.fm.contains d=true)\/∃i,o.op=.extract (.tmp t) i)/\d≠q/\d≠x/\t≠x/\d≠t/\t≠q:=by split at ha;rename_i t d ho hd hg;simp only[ae,aK,dk]at ha;exact⟨d,t,hd,hg,.inl ⟨ho,ha.1.1.1.1.1.1,ha.1.1.1.1.1.2⟩,ha.1.1.1.1.2,ha.1.1.1.2,ha.1.1.2,ha.2,ha.1.2⟩;rename_i t i d ho hd hg;simp only[ae,aK,dk]at ha;exact⟨d,t,hd,hg,.inr ⟨i,ho⟩,ha.1.1.1.1,ha.1.1.1.2,ha.1.1.2,ha.2,ha.1.2⟩;cases ha
 obtain⟨d,t,hd,hg,ho,hdq,hdx,htx,hdt,htq⟩:=amy;obtain⟨tv,v,rfl,ec⟩:=Tt hd hg ho hdt h1;have hq:((st.put (some t) tv).put (some d) v).get q=st.get q:=by rw[sr hdq];exact sr htq
 have hx:((st.put (some t) tv).put (some d) v).get x=st.get x:=by rw[sr hdx,sr htx]
 simp only[cC,ae]at Pm;rcases Pm with⟨Pm,Yx⟩|Yx;obtain⟨B,rfl,Yz⟩:=aeI hp hpd hpg Pm Yx Xb hl h2;have k1:=Yz st hq.symm hx.symm rfl rfl rfl rfl;refine⟨_,k1,?_⟩;have Ek:(⟨gK st.slots x ((((st.put (some t) tv).put (some d) v).get x).aQ ((st.put (some t) tv).put (some d) v).ep),B,((st.put (some t) tv).put (some d) v).ep+1,((st.put (some t) tv).put (some d) v).iss,((st.put (some t) tv).put (some d) v).io⟩:AS).get t=st.get t:=by simp only[AS.get,ji,aH (cM htx)]
 rw[ec _ Ek];simp only[AS.put,ba,AS.mk.injEq,iv];rw[iM _ (cM htx),iM _ (cM hdx)];cases hb:an.es q with
 |none=>rw[hb]at Yx;cases Yx
 |some b=>
  rw[hb]at Yx;simp only[ae,aK,dk]at Yx;obtain⟨⟨⟨Pm,jt⟩,_⟩,hbw⟩:=Yx;have hbw:=lq hbw b (by simp);have hbd:b≠d:=λe=>hbw (by simp[hd,e]);have hbt:b≠t:=λe=>hbw (by refine ay.2 (.inr ?_);rcases ho with⟨ho,_⟩|⟨i,ho⟩<;>simp[dB,ho,tm,e]);obtain⟨B,rfl,Yz⟩:=abb hp hpd hpg hb Pm jt Xb hl h2;have uz:nth st.slots b=nth ((st.put (some t) tv).put (some d) v).slots b:=by simp only[AS.put,ji,aH (cM hbd),aH (cM hbt)]
  have k1:=Yz st hq.symm hx.symm uz rfl rfl rfl rfl;refine⟨_,k1,?_⟩;have Ek:(⟨gK (gK st.slots x ((((st.put (some t) tv).put (some d) v).get x).aQ ((st.put (some t) tv).put (some d) v).ep)) b B,((st.put (some t) tv).put (some d) v).boxes,((st.put (some t) tv).put (some d) v).ep+1,((st.put (some t) tv).put (some d) v).iss,((st.put (some t) tv).put (some d) v).io⟩:AS).get t=st.get t:=by simp only[AS.get,ji,aH (cM htx),aH hbt]
  rw[ec _ Ek];simp only[AS.put,ba,AS.mk.injEq,iv];rw[iM _ hbt,iM _ hbd,iM _ (cM htx),iM _ (cM hdx)]
 cases ha
theorem Qo {c:AC}(h:c.kz=true\/(c.borrow ep none).kz=true):c.borrow ep none=c:=by
 cases c with
 |sl fl e xs=>exfalso;cases fl with|fa _ _ ep=>cases ep<;>simp[AC.borrow,AC.kz]at h|_=>simp[AC.borrow,AC.kz]at h
 |_=>rfl
theorem Lt {cs:aw AC}{n:Nat}(gx:off+n<=cs.length)(k:Nat):(dZ cs off (aQ ep ((cs.drop off).take n)))[k]?=(cs[k]?).map λc=>if off<=k/\k<off+n then c.borrow ep none else c:=by
 have hl:(aQ ep ((cs.drop off).take n)).length=n:=by simp[aQ];omega
 unfold dZ;rw[hl];by_cases h1:k<off;rw[aP,bD (by simp;omega),dQ h1];have:(λc:AC=>if off<=k/\k<off+n then c.borrow ep none else c)=id:=by funext c;rw[lR];rfl
 rw[this,Option.map_id];rfl;by_cases h2:k<off+n;rw[bD (by simp[hl];omega),bq (by simp;omega)];have e:k-(cs.take off).length=k-off:=by simp;omega
 rw[e,aQ,List.getElem?_map,dQ (by omega),bM,show off+(k-off)=k by omega];congr 1;funext c;rw[zip];rw[bq (by simp[hl];omega)];have e:k-(cs.take off++aQ ep ((cs.drop off).take n)).length=k-(off+n):=by simp[hl];omega
 rw[e,bM,show off+n+(k-(off+n))=k by omega];have:(λc:AC=>if off<=k/\k<off+n then c.borrow ep none else c)=id:=by funext c;rw[lR];rfl
 rw[this,Option.map_id];rfl
theorem F8 {cs:aw AC}{n o2 n2:Nat}(gx:off+n<=cs.length)(h:((cs.drop o2).take n2).all AC.kz=true\/(((dZ cs off (aQ ep ((cs.drop off).take n))).drop o2).take n2).all AC.kz=true): ((dZ cs off (aQ ep ((cs.drop off).take n))).drop o2).take n2=(cs.drop o2).take n2:=by
 apply cz;intro k;by_cases hk:k<n2;rw[dQ hk,dQ hk,bM,bM,Lt gx];cases hc:cs[o2+k]? with|none=>rfl|some c=>simp only[dc];split;rename_i sv;refine congrArg some (Qo ?_);rcases h with h|h;left;refine aE.1 h c (bp (i:=k) ?_);rw[dQ hk,bM,hc];right;refine aE.1 h _ (bp (i:=k) ?_);rw[dQ hk,bM,Lt gx,hc,dc,aF sv];rfl
 rw[br (by simp;omega),br (by simp;omega)]
theorem Ho:∀{cs:aw AC}{j:Nat},cs.all AC.kz=true->ic ep (.box b) j cs=cs
 |[],_,_=>rfl
 |c::cs,j,h=>by simp only[cc,ae]at h;rw[ic,Ho h.2];congr 1;cases c<;>first|rfl|(simp[AC.kz]at h)
theorem LC {o:Oper}(h:zE an o=true):∃T q d,o.op=.load T (.tmp q)/\o.dst=some d/\o.guard=none/\an.mv.contains d=true/\(an.mb d).isSome=true:=by unfold zE at h;split at h;rename_i T q d ho hd hg;simp only[ae]at h;exact⟨T,q,d,ho,hd,hg,h.1,h.2⟩;cases h
theorem J4 {o:Oper}(h:J3 an o=true):∃T q d,o.op=.load T (.tmp q)/\o.dst=some d/\o.guard=none/\an.mv.contains d=false/\an.fm.contains d=true:=by unfold J3 at h;split at h;rename_i T q d ho hd hg;simp only[ae,aK]at h;exact⟨T,q,d,ho,hd,hg,h.1,h.2⟩;cases h
theorem Dk {o:Oper}(ht:zE an o=true)(ho:o.op=.load T (.tmp q))(hd:o.dst=some d)(hg:o.guard=none)(BA:an.mv.contains d=true):cy E Γ an ops X o st=some s↔ ∃sh b off cs,iQ E.ty T=some sh/\st.rd (.tmp q)=.val false [.ptr b off]/\(nth st.boxes b).getD none=some cs/\off+sh.ct.size<=cs.length/\X.contains b=false/\an.mb d=some b/\(T0 an o=true->B7 E T st b off=true)/\ s=(st.eD b (some (dZ cs off (aQ st.ep ((cs.drop off).take sh.ct.size))))).put (some d) (.val sh.agg ((cs.drop off).take sh.ct.size)):=by
 have key:dq E an X o st=true->∀r,cX E Γ an o st some=some r->∃b off,st.rd (.tmp q)=.val false [.ptr b off]:=by intro hf r hr;simp only[cX,ho,nS]at hr;split at hr;rename_i hp;exact⟨_,_,hp⟩;rename_i hp;simp only[dq,ho,hp,ht,iu,aj,fA,eE]at hf;cases hf;cases hr
 unfold cy;constructor;intro h;cases hf:dq E an X o st with|false=>rw[hf]at h;cases h|true=>rw[hf]at h;simp only[ah,gh,hg]at h;obtain⟨b,off,hp⟩:=key hf s h;simp only[dq,ho,hp,hd,BA,aj,cE,ae,aK,aV,cC]at hf;simp only[cX,ho,nS,hp]at h;cases hT:iQ E.ty T with|none=>rw[hT]at h;cases h|some sh=>rw[hT]at h;simp only at h;cases hb:(nth st.boxes b).getD none with|none=>rw[hb]at h;cases h|some cs=>rw[hb]at h;simp only at h;split at h;rename_i gx;simp only[hd,BA,bP]at h;cases h;refine⟨sh,b,off,cs,rfl,hp,hb,gx,hf.1.1,hf.1.2,λhm=>?_,rfl⟩;rcases hf.2 with g|g;rw[hm]at g;cases g;exact g;cases h
 rintro⟨sh,b,off,cs,hT,hp,hb,gx,hX,T3,IU,rfl⟩;have hf:dq E an X o st=true:=by simp only[dq,ho,hp,hd,BA,hX,T3,aj,cE,ae,aK,aV,cC];refine⟨⟨cx,cx⟩,?_⟩;cases hm:T0 an o with|false=>exact .inl rfl|true=>exact .inr (IU hm)
 rw[hf];simp only[ah,gh,hg,cX,ho,nS,hp,hT,hb,aF gx,hd,BA,bP]
theorem C3 {o:Oper}(ho:o.op=.load T (.tmp q))(hd:o.dst=some d)(hg:o.guard=none)(BA:an.mv.contains d=false)(IU:an.fm.contains d=true):cy E Γ an ops X o st=some s↔ ∃sh b off cs,iQ E.ty T=some sh/\st.rd (.tmp q)=.val false [.ptr b off]/\(nth st.boxes b).getD none=some cs/\off+sh.ct.size<=cs.length/\X.contains b=false/\((cs.drop off).take sh.ct.size).all AC.kz=true/\ s=st.put (some d) (.val sh.agg ((cs.drop off).take sh.ct.size)):=by
 have hfb:T0 an o=true:=by simp only[T0,hd,IU]
 have key:dq E an X o st=true->∀r,cX E Γ an o st some=some r->∃b off,st.rd (.tmp q)=.val false [.ptr b off]:=by intro hf r hr;simp only[cX,ho,nS]at hr;split at hr;rename_i hp;exact⟨_,_,hp⟩;rename_i hp;simp only[dq,ho,hp,hfb,gG,aj,fA,eE]at hf;cases hf;cases hr
 unfold cy;constructor;intro h;cases hf:dq E an X o st with
 |false=>rw[hf]at h;cases h
 |true=>
  rw[hf]at h;simp only[ah,gh,hg]at h;obtain⟨b,off,hp⟩:=key hf s h;simp only[dq,ho,hp,hd,BA,hfb,aj,bU,gG,cE,dR,ae,aK]at hf;simp only[cX,ho,nS,hp]at h;cases hT:iQ E.ty T with
  |none=>rw[hT]at h;cases h
  |some sh=>
   rw[hT]at h;simp only at h;cases hb:(nth st.boxes b).getD none with
   |none=>rw[hb]at h;cases h
   |some cs=>
    rw[hb]at h;simp only at h;split at h;rename_i gx;have lX:((cs.drop off).take sh.ct.size).all AC.kz=true:=by have:=hf.2;unfold B7 at this;rw[hT,hb]at this;exact this
    simp only[hd,BA,aW,bX,Ho lX]at h;cases h;exact⟨sh,b,off,cs,rfl,hp,hb,gx,hf.1,lX,rfl⟩;cases h
 rintro⟨sh,b,off,cs,hT,hp,hb,gx,hX,lX,rfl⟩;have hf:dq E an X o st=true:=by simp only[dq,ho,hp,hd,BA,hX,hfb,B7,hT,hb,lX];rfl
 rw[hf];simp only[ah,gh,hg,cX,ho,nS,hp,hT,hb,aF gx,hd,BA,aW,bX,Ho lX]
theorem NI {v:AV}(h:d≠q):(st.put (some d) v).rd (.tmp q)=st.rd (.tmp q):=by simp only[AS.rd,sr h];rfl
theorem acH {cs:ax (aw AC)}:(st.eD b cs).rd (.tmp q)=st.rd (.tmp q):=rfl
theorem Ul {cs x:aw AC}(h:(nth st.boxes b).getD none=some cs):(nth (gK st.boxes b (some x)) b).getD none=some x:=by
 rw[ji,aF rfl];cases hn:nth st.boxes b with
 |none=>rw[hn]at h;cases h
 |some _=>
  have:b<st.boxes.length:=by rw[dI]at hn;exact(aG.1 hn).1
  rw[aF this];rfl
theorem Um {b2:Nat}{x:aw AC}(h:b≠b2):nth (gK st.boxes b (some x)) b2=nth st.boxes b2:=by rw[ji,aH h]
theorem afh {o p:Oper}(ha:Vr an o p=true)(h1:cy E Γ an ops X o st=some s1)(h2:cy E Γ an ops Y p s1=some s2): ∃t1,cy E Γ an ops Y p st=some t1/\cy E Γ an ops X o t1=some s2:=by
 simp only[Vr,ae,cC,aK]at ha;obtain⟨⟨ha,m1⟩,m2⟩:=ha;have m1:=lq m1;have m2:=lq m2;rcases ha with⟨ht,hf⟩|⟨hf,ht⟩;obtain⟨T,q,d,ho,hd,hg,BA,T3⟩:=LC ht;obtain⟨T2,q2,d2,hp,QD,Ek,R4,Yy⟩:=J4 hf;have n1:d≠d2:=λe=>m1 d (by simp[hd]) (by simp[QD,e]);have n2:d≠q2:=λe=>m1 d (by simp[hd]) (by simp[dB,hp,tm,e]);have n3:d2≠q:=λe=>m2 d2 (by simp[QD]) (by simp[dB,ho,tm,e]);obtain⟨sh,b,off,cs,hT,hr,hb,gx,hX,ahU,IU,rfl⟩:=(Dk ht ho hd hg BA).1 h1;obtain⟨sh2,b2,Mo,BK,hT2,L9,IT,W9,hX2,Ps,rfl⟩:=(C3 hp QD Ek R4 Yy).1 h2;rw[NI n2,acH]at L9;have jt:(nth (gK st.boxes b (some (dZ cs off (aQ st.ep ((cs.drop off).take sh.ct.size))))) b2).getD none=some BK:=IT;have ph:∃MM,(nth st.boxes b2).getD none=some MM/\Mo+sh2.ct.size<=MM.length/\(BK.drop Mo).take sh2.ct.size=(MM.drop Mo).take sh2.ct.size:=by
  by_cases UO:b=b2;subst UO;rw[Ul hb]at jt;cases jt;have hlen:(dZ cs off (aQ st.ep ((cs.drop off).take sh.ct.size))).length=cs.length:=by simp only[dZ,aQ,ai,da,aZ,aL];omega
  exact⟨cs,hb,by omega,F8 gx (.inr Ps)⟩;rw[Um UO]at jt;exact⟨BK,jt,W9,rfl⟩
 obtain⟨MM,RT,RX,he⟩:=ph;rw[he]at Ps⊢;refine⟨_,(C3 hp QD Ek R4 Yy).2 ⟨sh2,b2,Mo,MM,hT2,L9,RT,RX,hX2,Ps,rfl⟩,(Dk ht ho hd hg BA).2 ⟨sh,b,off,cs,hT,by rw[NI n3];exact hr,hb,gx,hX,ahU,λhm=>?_,?_⟩⟩;have:=IU hm;unfold B7 at this⊢;exact this;simp only[AS.put,AS.eD,AS.mk.injEq,iv];exact iM _ n1 _ _;obtain⟨T,q,d,ho,hd,hg,BA,IU⟩:=J4 hf;obtain⟨T2,q2,d2,hp,QD,Ek,R4,ahT⟩:=LC ht;have n1:d≠d2:=λe=>m1 d (by simp[hd]) (by simp[QD,e]);have n2:d≠q2:=λe=>m1 d (by simp[hd]) (by simp[dB,hp,tm,e]);have n3:d2≠q:=λe=>m2 d2 (by simp[QD]) (by simp[dB,ho,tm,e]);obtain⟨sh,b,off,cs,hT,hr,hb,gx,hX,lX,rfl⟩:=(C3 ho hd hg BA IU).1 h1;obtain⟨sh2,b2,Mo,BK,hT2,L9,IT,W9,hX2,ahU,Yy,rfl⟩:=(Dk ht hp QD Ek R4).1 h2;rw[NI n2]at L9;refine⟨_,(Dk ht hp QD Ek R4).2 ⟨sh2,b2,Mo,BK,hT2,L9,IT,W9,hX2,ahU,λhm=>Yy hm,rfl⟩,?_⟩;have ph:∃MM,(nth (gK st.boxes b2 (some (dZ BK Mo (aQ st.ep ((BK.drop Mo).take sh2.ct.size))))) b).getD none=some MM/\off+sh.ct.size<=MM.length/\(MM.drop off).take sh.ct.size=(cs.drop off).take sh.ct.size:=by
  by_cases UO:b2=b;subst UO;have GD:BK=cs:=dD (IT.symm.trans hb);subst GD;have hlen:(dZ BK Mo (aQ st.ep ((BK.drop Mo).take sh2.ct.size))).length=BK.length:=by simp only[dZ,aQ,ai,da,aZ,aL];omega
  exact⟨_,Ul hb,by omega,F8 W9 (.inl lX)⟩;exact⟨cs,by rw[Um UO];exact hb,gx,rfl⟩
 obtain⟨MM,RT,RX,he⟩:=ph;refine(C3 ho hd hg BA IU).2 ⟨sh,b,off,MM,hT,by rw[NI n3,acH];exact hr,RT,RX,hX,by rw[he];exact lX,?_⟩;rw[he];simp only[AS.put,AS.eD,AS.mk.injEq,iv];exact iM _ n1 _ _
theorem LB {o:Oper}(ht:CJ an o=true)(ho:o.op=.load T (.tmp q))(hd:o.dst=some d)(hg:o.guard=none)(BA:an.mv.contains d=true)(T3:an.mb d=none):cy E Γ an ops X o st=some s↔ ∃(g:Bool)(e:CT)(jv:aw (Nat×Nat))(b j t JT:Nat)(x:e.D)(i:Int)(cs:aw AC)(ys:aw e.D)(y:e.D),iQ E.ty T=some ⟨g,e,jv⟩/\st.rd (.tmp q)=.val false [.zk (.loc JT (some (.box b j,t))) e x i 0]/\(nth st.boxes b).getD none=some cs/\nth cs j=some (.sl (.own (some t)) e ys)/\idx ys i=some y/\ X.contains b=false/\an.eb q=some b/\T0 an o=false/\s=(Gf st b j t e i cs ys).put (some d) (.val g (cellsOf e (.own none) y)):=by rw[<-LA ht ho hd BA T3];unfold cy;cases dq E an X o st with|false=>simp|true=>simp only[ah,gh,hg,cX,ho,true_and]
theorem Z2 {o:Oper}(h:yR an o=true):∃T q d,o.op=.load T (.tmp q)/\o.dst=some d/\o.guard=none/\an.mv.contains d=false/\T0 an o=false:=by unfold yR at h;split at h;rename_i T q d ho hd hg;simp only[ae,aK]at h;exact⟨T,q,d,ho,hd,hg,h.1.1,by simp only[T0,hd];exact h.1.2⟩;cases h
theorem K2 {o:Oper}(C8:yR an o=true)(ho:o.op=.load T (.tmp q))(hd:o.dst=some d)(hg:o.guard=none)(BA:an.mv.contains d=false)(IU:T0 an o=false):cy E Γ an ops X o st=some s↔ ∃sh b off cs,iQ E.ty T=some sh/\st.rd (.tmp q)=.val false [.ptr b off]/\(nth st.boxes b).getD none=some cs/\off+sh.ct.size<=cs.length/\X.contains b=false/\ s=st.put (some d) (.val sh.agg (ic st.ep (.box b) off ((cs.drop off).take sh.ct.size))):=by
 unfold cy;constructor;intro h;cases hf:dq E an X o st with|false=>rw[hf]at h;cases h|true=>rw[hf]at h;simp only[ah,gh,hg,cX,ho]at h;unfold nS at h;split at h;rename_i sh b off hT hp;simp only[dq,ho,hp,hd,BA,IU,bU,gG,dR,aK]at hf;split at h;rename_i cs hb;split at h;rename_i gx;simp only[hd,BA,aW,bX]at h;cases h;exact⟨sh,b,off,cs,hT,hp,hb,gx,hf,rfl⟩;cases h;cases h;rename_i hp;simp only[dq,ho,hp,C8,aj,fA,eE]at hf;cases hf;cases h
 rintro⟨sh,b,off,cs,hT,hp,hb,gx,hX,rfl⟩;have hf:dq E an X o st=true:=by simp only[dq,ho,hp,hd,BA,hX,IU];rfl
 rw[hf];simp only[ah,gh,hg,cX,ho,nS,hp,hT,hb,aF gx,hd,BA,aW,bX]
theorem Jg:∀(cs:aw AC)(p k:Nat)(c':AC),(∀c,cs[k]?=some c->∀r,c'.borrow ep (some r)=c.borrow ep (some r))->ic ep (.box b) p (cs.set k c')=ic ep (.box b) p cs
 |[],_,_,_,_=>rfl
 |c::cs,p,0,c',h=>by simp only[List.set_cons_zero,ic,h c rfl]
 |c::cs,p,k+1,c',h=>by simp only[List.set_cons_succ,ic];rw[Jg cs (p+1) k c' (λc hc=>h c (by simpa using hc))]
theorem QT {j n:Nat}{e:CT}{i:Int}{ys:aw e.D}{cs:aw AC}(hj:nth cs j=some (.sl (.own (some t)) e ys)): ic ep (.box b) off (((gK cs j (.sl (.fa (some t) i (some ep)) e ys)).drop off).take n)=ic ep (.box b) off ((cs.drop off).take n):=by rw[fe,List.drop_set];split;rfl;rename_i gW;rw[List.take_set];refine Jg _ _ _ _ λc hc r=>?_;by_cases hn:j-off<n;rw[dQ hn,bM,show off+(j-off)=j by omega,<-dI,hj]at hc;cases hc;rfl;rw[br (by simp;omega)]at hc;cases hc
theorem aeB {o p:Oper}(ha:Uo an o p=true)(h1:cy E Γ an ops X o st=some s1)(h2:cy E Γ an ops Y p s1=some s2): ∃t1,cy E Γ an ops Y p st=some t1/\cy E Γ an ops X o t1=some s2:=by
 simp only[Uo,ae,aK]at ha;obtain⟨⟨⟨C8,ht⟩,m1⟩,m2⟩:=ha;have m1:=lq m1;have m2:=lq m2;obtain⟨T,q,d,ho,hd,hg,BA,IU⟩:=Z2 C8;obtain⟨T2,q2,d2,hp,QD,Ek,R4,ahT⟩:=NU ht;have n1:d≠d2:=λe=>m1 d (by simp[hd]) (by simp[QD,e]);have n2:d≠q2:=λe=>m1 d (by simp[hd]) (by simp[dB,hp,tm,e]);have n3:d2≠q:=λe=>m2 d2 (by simp[QD]) (by simp[dB,ho,tm,e]);obtain⟨sh,b,off,cs,hT,hr,hb,gx,hX,rfl⟩:=(K2 C8 ho hd hg BA IU).1 h1;obtain⟨g,e,jv,b2,j,t,JT,x,i,BK,ys,y,hT2,L9,IT,hj,hi,hX2,Pm,Yy,rfl⟩:=(LB ht hp QD Ek R4 ahT).1 h2;rw[NI n2]at L9;have amv:(nth st.boxes b2).getD none=some BK:=IT;refine⟨_,(LB ht hp QD Ek R4 ahT).2 ⟨g,e,jv,b2,j,t,JT,x,i,BK,ys,y,hT2,L9,amv,hj,hi,hX2,Pm,Yy,rfl⟩,?_⟩;have ph:∃MM,(nth (gK st.boxes b2 (some (gK BK j (.sl (.fa (some t) i (some st.ep)) e ys)))) b).getD none=some MM/\off+sh.ct.size<=MM.length/\ic st.ep (.box b) off ((MM.drop off).take sh.ct.size)=ic st.ep (.box b) off ((cs.drop off).take sh.ct.size):=by by_cases UO:b2=b;subst UO;have GD:BK=cs:=dD (amv.symm.trans hb);subst GD;exact⟨_,Ul hb,by rw[fe,aC];exact gx,QT hj⟩;exact⟨cs,by rw[Um UO];exact hb,gx,rfl⟩
 obtain⟨MM,RT,RX,he⟩:=ph;refine(K2 C8 ho hd hg BA IU).2 ⟨sh,b,off,MM,hT,by rw[NI n3];exact hr,RT,RX,hX,?_⟩;show _=((Gf st b2 j t e i BK ys).put (some d2) _).put (some d) (.val sh.agg (ic st.ep (.box b) off ((MM.drop off).take sh.ct.size)));rw[he];simp only[AS.put,Gf,AS.eD,AS.mk.injEq,iv];exact iM _ n1 _ _
def Ms (E:Env)(Γ:fy)(an:An)(ops:aw Oper)(X:Nat->fg):fg->AS->ax AS
 |[],st=>some st
 |i::r,st=>match nth ops i with
  |some o=>(cy E Γ an ops (X i) o st).bind (Ms E Γ an ops X r)
  |none=>none
theorem Ll (yu:∀f,(Γ f).io=false/\((Γ f).bx=true->(Γ f).cur=true)/\(Γ f).pr=false){X:Nat->fg}{oi:Oper}(hi:nth ops i=some oi):∀(pre post:fg)(st r:AS),(∀j∈pre,∀oj,nth ops j=some oj->Ja an ops (X j) (X i) oj oi=true)->
 Ms E Γ an ops X (pre++i::post) st=some r->Ms E Γ an ops X (i::(pre++post)) st=some r
 |[],post,st,r,_,h=>h
 |j::pre,post,st,r,ha,h=>by
  simp only[List.cons_append,Ms]at h;cases hj:nth ops j with
  |none=>rw[hj]at h;cases h
  |some oj=>
   rw[hj]at h;simp only at h;obtain⟨s1,h1,h2⟩:=aM.1 h;have h3:=Ll yu hi pre post s1 r (λk hk=>ha k (by simp[hk])) h2;simp only[Ms,hi]at h3;obtain⟨s2,h4,h5⟩:=aM.1 h3;have hap:=ha j (by simp) oj hj;obtain⟨t1,k1,k2⟩:∃t1,cy E Γ an ops (X i) oi st=some t1/\cy E Γ an ops (X j) oj t1=some s2:=by cases hx:acC an oj oi with|false=>rw[Ja,hx,cE]at hap;exact Wi yu hap h1 h4|true=>simp only[acC,cC]at hx;rcases hx with((hx|hx)|hx)|hx;exact abk hx h1 h4;exact aeH hx h1 h4;exact afh hx h1 h4;exact aeB hx h1 h4
   simp only[Ms,hi,k1,eh,List.cons_append,hj,k2];exact h5
end Go.Dn
