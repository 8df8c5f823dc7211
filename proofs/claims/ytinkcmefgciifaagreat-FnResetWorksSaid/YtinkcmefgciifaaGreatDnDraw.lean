import Derived.Test.YtinkcmefgciifaaGreatDnUpd
/- Operations that are apart may change places. -/
namespace Go.Dn
variable {E:Env} {Γ:Bx} {an:An} {ops:az Oper}
variable {s s1 s2 st:AS} {b d ep i off q t:Nat} {α:Type} {T:TypeId} {X Y:gk}
def cX (E:Env)(Γ:Bx)(an:An)(ops:az Oper)(X:gk)(o:Oper)(st:AS):aC AS:=
 bif dV E an X o st then iK E Γ an ops o st some else none
structure Tr (an:An) (ops:List Oper) (X:List Nat) (o:Oper) (st st2:AS):Prop where
 base:ji an X o st st2
 gd:∀t∈FU an ops o,st2.get t=st.get t
theorem XL {b:Bool}(h:st.get d=.val false [.bool b]):st.put (some d) (.one (.bool b))=st:=by cases st with|mk slots boxes ep iss io=>simp only[AS.put,AS.mk.injEq,jV];rw[gL];apply de;intro i;rw[bL];split;rename_i hd;subst hd;simp only[AS.get,eT]at h;split;rename_i iz;rw[aq iz]at h⊢;simp only[gR]at h;rw[h];rename_i BC;rw[bS (Nat.le_of_not_lt BC)];rfl
theorem T8 {st2:AS}{s:Nat}(h:nth st2.boxes s=nth st.boxes s):FN E T st2 s off=FN E T st s off:=by unfold FN;rw[h]
theorem H5 {o:Oper}{st2:AS}(ha:ji an X o st st2):dV E an X o st2=dV E an X o st:=by
 unfold dV;split;rename_i ho;rw[ha.rd (λt ht=>by simpa[eF,ho]using ht)];rename_i T p ho;rw[ha.rd (λt ht=>by simp[eF,ho,ht]),ha.ep];rename_i ho;rw[ha.rd (λt ht=>by simp[eF,ho,ht]),ha.ep];rename_i f args ts ho;have hcur:uV an X (erS an o) st2 args.toList=uV an X (erS an o) st args.toList:=by
  have hl:∀x∈args.toList,∀t∈tm x,t∈eF o:=by intro x hx t ht;simp only[eF,ho,ay,Rx,List.mem_flatMap];exact .inr ⟨x,hx,ht⟩
  generalize args.toList=l at hl;cases l with
  |nil=>rfl
  |cons x xs=>
   have CF:xs.all (J0 (erS an o) st2)=xs.all (J0 (erS an o) st):=by
    rw[dU];simp only[aL];have e:∀y∈xs,J0 (erS an o) st2 y=J0 (erS an o) st y:=by intro y hy;cases y with|tmp t=>have hg:=ha.get t (hl (.tmp t) (by simp[hy]) t (by simp[tm]));simp only[J0,hg]|const v=>rfl|func v=>rfl|global v=>rfl
    exact⟨λg y hy=>by rw[<-e y hy];exact g y hy,λg y hy=>by rw[e y hy];exact g y hy⟩
   have hr:=ha.rd (hl x (by simp));cases x with
   |tmp q=>
    simp only[uV,hr];generalize st.rd (.tmp q)=v;unfold afU;rw[CF];split;rename_i s off;cases hX:X.contains s with|true=>simp|false=>rw[ha.box s hX]
    rfl
   |const v=>simp only[uV,hr]
   |func v=>simp only[uV,hr]
   |global v=>simp only[uV,hr]
 rw[hcur];congr 1;rw[dU];simp only[aL];constructor;intro hx x hm;have:=hx x hm;rwa[ha.rd (λt ht=>by simp only[eF,ho,ay,Rx,List.mem_flatMap];exact .inr ⟨x,hm,ht⟩),ha.ep]at this;intro hx x hm;rw[ha.rd (λt ht=>by simp only[eF,ho,ay,Rx,List.mem_flatMap];exact .inr ⟨x,hm,ht⟩),ha.ep];exact hx x hm;rename_i ho;rw[ha.rd (λt ht=>by simpa[eF,ho]using ht),ha.ep];split;rename_i s off _;cases hX:X.contains s with|true=>rfl|false=>rw[T8 (ha.box s hX)]
 rfl;rfl;rename_i ho;rw[ha.rd (λt ht=>by simp only[eF,ho,ay];exact .inl ht)];rename_i ho;rw[ha.get _ (by simp[eF,ho])];rfl
theorem MA (Cm:∀f,(Γ f).io=false/\((Γ f).bx=true->(Γ f).cur=true)/\(Γ f).pr=false){o:Oper}{cc:AS}(hm:px an o=true)(h:cX E Γ an ops X o st=some cc): ∃u:Ks,u.HT an o/\cc=u.apply st/\∀st2,Tr an ops X o st st2->cX E Γ an ops X o st2=some (u.apply st2):=by
 unfold cX at h;cases hf:dV E an X o st with
 |false=>rw[hf]at h;cases h
 |true=>
  rw[hf]at h;simp only[ah]at h;unfold iK at h;split at h;rename_i hg;obtain⟨u,h1,h2,h3⟩:=Qp (X:=X) Cm hm hf h;refine⟨u,h1,h2,λst2 ha=>?_⟩;unfold cX;rw[H5 ha.base,hf];simp only[ah,iK,hg];exact h3 st2 ha.base;rename_i j Iz hg;split at h;rename_i d hd;have ux:d∈FU an ops o:=by simp[FU,hg,hd]
  split at h;rename_i b hb;have hgo:(if(b==Iz)=true then dG E Γ an o st some else some (st.put o.dst (.one .un)))=some cc:=by cases b<;>simpa only[ah,af,XL hb]using h
  have h2g:∀st2,Tr an ops X o st st2->cX E Γ an ops X o st2=(if(b==Iz)=true then dG E Γ an o st2 some else some (st2.put o.dst (.one .un))):=by
   intro st2 ha;have Nu:st2.get d=.val false [.bool b]:=by rw[ha.gd d ux];exact hb
   unfold cX;rw[H5 ha.base,hf];simp only[ah,iK,hg,hd,Nu];cases b<;>simp only[ah,af,XL Nu]
  split at hgo;rename_i hw;obtain⟨u,h1,h2,h3⟩:=Qp (X:=X) Cm hm hf hgo;exact⟨u,h1,h2,λst2 ha=>by rw[h2g st2 ha,aJ hw];exact h3 st2 ha.base⟩;rename_i hw;cases hgo;exact⟨E2 o (.one .un),Dm _,by rw[ub],λst2 ha=>by rw[h2g st2 ha,aI hw,ub]⟩;rename_i hb;cases h;refine⟨E2 o (.one .un),Dm _,by rw[ub],λst2 ha=>?_⟩;have Nu:st2.get d=.val false [.un]:=by rw[ha.gd d ux];exact hb
  unfold cX;rw[H5 ha.base,hf,ub];simp only[ah,iK,hg,hd,Nu];cases h;cases h
theorem kt (l:az α){j:Nat}(h:i≠j)(v w:α):jt (jt l i v) j w=jt (jt l j w) i v:=by rw[gL,gL,gL,gL,List.set_comm _ _ h]
theorem aa5 (l:az AV)(a:az (Nat×AV))(v:AV)(h:∀x∈a,x.1≠i):lE (jt l i v) a=jt (lE l a) i v:=by induction a generalizing l with|nil=>rfl|cons x a ih=>simp only[lE];rw[kt _ (cd (h x (by simp))),ih _ (λy hy=>h y (by simp[hy]))]
theorem XH (l:az AV)(a b:az (Nat×AV))(h:∀x∈a,∀y∈b,x.1≠y.1):lE (lE l a) b=lE (lE l b) a:=by induction b generalizing l with|nil=>rfl|cons y b ih=>simp only[lE];rw[<-aa5 l a y.2 (λx hx=>h x hx y (by simp)),ih _ (λx hx z hz=>h x hx z (by simp[hz]))]
theorem Rl (l:az AV)(a:az (Nat×AV))(h:∀x∈a,x.1≠t):nth (lE l a) t=nth l t:=by induction a generalizing l with|nil=>rfl|cons x a ih=>rw[lE,ih _ (λy hy=>h y (by simp[hy])),kS,aI (h x (by simp))]
theorem nO {a b:gk}(h:meets a b=false):∀x∈a,x∉b:=by intro x hx hb;unfold meets at h;rw[List.any_eq_false]at h;exact h x hx (by simpa using hb)
theorem Ks.wv {u:Ks}{o p:Oper}(hw:u.HT an o)(h1:∀x∈writes an o,x∉eF p++FU an ops p++writes an p)(h2:∀d∈GF an o,Y.contains d=true)(h3:∀d∈GF an o,p.dst≠some d): Tr an ops Y p (u.apply st) st/\Tr an ops Y p st (u.apply st):=by
 have jq:∀t,t∈eF p++FU an ops p++writes an p->(u.apply st).get t=st.get t:=by intro t ht;unfold AS.get;have:nth (u.apply st).slots t=nth st.slots t:=Rl _ _ (λx hx he=>h1 _ (hw.slots x hx) (by rw[he];exact ht));rw[this]
 have adt:∀d,p.dst=some d->nth (u.apply st).iss d=nth st.iss d/\nth (u.apply st).boxes d=nth st.boxes d:=by
  intro d hd;have GU:d∈eF p++FU an ops p++writes an p:=by simp[writes,hd]
  have Ec:o.dst≠some d:=λhe=>h1 d (by simp[writes,he]) GU;constructor;unfold Ks.apply;cases hi:u.iss with|none=>rfl|some k=>simp only;rw[kS,aI];rintro rfl;exact Ec (hw.iss _ hi)
  unfold Ks.apply;cases hi:u.box with|none=>rfl|some k=>simp only;rw[kS,aI];intro he;exact h3 _ (hw.box k hi) (by rw[he];exact hd)
 have anE:∀s,Y.contains s=false->nth (u.apply st).boxes s=nth st.boxes s:=by intro s hs;unfold Ks.apply;cases hi:u.box with|none=>rfl|some k=>simp only;rw[kS,aI];rintro rfl;have:=h2 k.1 (hw.box k hi);rw[this]at hs;cases hs
 have hlen:(u.apply st).slots.length=st.slots.length:=PX _ _;exact⟨⟨⟨hlen.symm,λt ht=>(jq t (by simp[ht])).symm,rfl,λd hd=>⟨((adt d hd).1).symm,((adt d hd).2).symm⟩,λs hs=>(anE s hs).symm,λt ht=>(jq t (by simp[FU,ht])).symm⟩,λt ht=>(jq t (by simp[ht])).symm⟩,⟨⟨hlen,λt ht=>jq t (by simp[ht]),rfl,adt,anE,λt ht=>jq t (by simp[FU,ht])⟩,λt ht=>jq t (by simp[ht])⟩⟩
theorem YT {u v:Ks}{o p:Oper}(hu:u.HT an o)(hv:v.HT an p)(h:∀x∈writes an o,x∉writes an p)(hb:∀x∈GF an o,x∉GF an p):v.apply (u.apply st)=u.apply (v.apply st):=by
 have Uh:∀a b,o.dst=some a->p.dst=some b->a≠b:=λa b ha hb he=>h a (by simp[writes,ha]) (by simp[writes,hb,he]);have hs:=XH st.slots u.slots v.slots (λx hx y hy he=>h _ (hu.slots x hx) (by rw[he];exact hv.slots y hy));simp only[Ks.apply,AS.mk.injEq,true_and,jV];refine⟨hs,?_,?_⟩;cases hub:u.box with|none=>cases v.box<;>rfl|some k=>cases hvb:v.box with|none=>rfl|some l=>exact kt _ (λhe=>hb _ (hu.box k hub) (by rw[he];exact hv.box l hvb)) _ _
 cases hui:u.iss with|none=>cases v.iss<;>rfl|some k=>cases hvi:v.iss with|none=>rfl|some l=>exact kt _ (Uh _ _ (hu.iss k hui) (hv.iss l hvi)) _ _
theorem abt (Cm:∀f,(Γ f).io=false/\((Γ f).bx=true->(Γ f).cur=true)/\(Γ f).pr=false){o p:Oper}(ha:YR an ops X Y o p=true)(h1:cX E Γ an ops X o st=some s1)(h2:cX E Γ an ops Y p s1=some s2): ∃t1,cX E Γ an ops Y p st=some t1/\cX E Γ an ops X o t1=some s2:=by
 simp only[YR,ae,aN,aL]at ha;obtain⟨⟨⟨⟨⟨⟨⟨mo,mp⟩,w1⟩,w2⟩,b1⟩,b2⟩,b3⟩,b4⟩:=ha;have w1:=nO w1;have w2:=nO w2;have b3:=nO b3;have b4:=nO b4;obtain⟨u,hu,rfl,hu2⟩:=MA Cm mo h1;obtain⟨v,hv,rfl,Ur⟩:=MA Cm mp h2;have ag1:=Ks.wv (ops:=ops) (p:=p) (Y:=Y) (st:=st) hu w1 b1 (λd hd he=>b3 d hd (by simp[he]));have hww:∀x∈writes an p,x∉eF o++FU an ops o++writes an o:=by intro x hx hm;rcases ay.1 hm with hm|hm;exact w2 x hx hm;exact w1 x hm (by simp[hx])
 have ag2:=Ks.wv (ops:=ops) (p:=o) (Y:=X) (st:=st) hv hww b2 (λd hd he=>b4 d hd (by simp[he]));refine⟨v.apply st,Ur st ag1.1,?_⟩;rw[hu2 _ ag2.2,YT hu hv (λx hx hm=>w1 x hx (by simp[hm])) (λx hx hm=>b3 x hx (by simp[hm]))]
theorem I6 {v w:AV}(h:st.get t=v)(hv:v≠ .bot):(st.put (some t) w).get t=w:=by
 unfold AS.get at h;cases hn:nth st.slots t with
 |none=>rw[hn]at h;exact absurd h.symm hv
 |some q=>
  have hl:t<st.slots.length:=by rw[eT]at hn;exact(aB.1 hn).1
  unfold AS.get AS.put;simp only[eT,gL];rw[bq hl];rfl
theorem vD {w:AV}(h:d≠t):(st.put (some d) w).get t=st.get t:=by unfold AS.get AS.put;simp only[kS,aI h]
theorem Dw {o:Oper}(ho:o.op=.extract (.tmp t) i)(hd:o.dst=some d)(hg:o.guard=none):cX E Γ an ops X o st=some s↔ ∃vs g cs,st.get t=.xN vs/\nth vs i=some (g,cs)/\(cs.all AC.kP||an.mv.contains d)=true/\s=(st.put (some t) (.xN (jt vs i (g,bg 0 cs)))).put (some d) (.val g cs):=by
 unfold cX;simp only[dV,ho,hd];constructor;intro h;cases hv:st.get t with|val g cs=>simp only[hv,ah,iK,hg,dG,ho,nA]at h;cases h|xN vs=>simp only[hv]at h;cases hn:nth vs i with|none=>simp only[hn,ah,iK,hg,dG,ho,nA,hv]at h;cases h|some x=>obtain⟨g,cs⟩:=x;simp only[hn]at h;cases hf:(cs.all AC.kP||an.mv.contains d)with|false=>rw[hf]at h;cases h|true=>rw[hf]at h;simp only[ah,iK,hg,dG,ho,nA,hv,hn,hd]at h;cases h;exact⟨vs,g,cs,rfl,hn,hf,rfl⟩
 rintro⟨vs,g,cs,hv,hn,hf,rfl⟩;simp only[hv,hn,hf,ah,iK,hg,dG,ho,nA,hd]
theorem ae3 (l:az α)(i:Nat)(v w:α):jt (jt l i v) i w=jt l i w:=by rw[gL,gL,gL,List.set_set]
theorem agK {o p:Oper}(ha:ZQ o p=true)(h1:cX E Γ an ops X o st=some s1)(h2:cX E Γ an ops Y p s1=some s2): ∃t1,cX E Γ an ops Y p st=some t1/\cX E Γ an ops X o t1=some s2:=by
 unfold ZQ at ha;split at ha;rename_i t i t' j d d' ho hp hd GU hg pQ;simp only[ae,bn,aN,cq,ne_eq]at ha;obtain⟨⟨⟨⟨rfl,hij⟩,Uh⟩,hdt⟩,anI⟩:=ha;obtain⟨vs,g,cs,hv,hn,hf,rfl⟩:=(Dw ho hd hg).1 h1;obtain⟨vs2,g2,Fu,Ur,Fv,DH,rfl⟩:=(Dw hp GU pQ).1 h2;have hq:((st.put (some t) (.xN (jt vs i (g,bg 0 cs)))).put (some d) (.val g cs)).get t=.xN (jt vs i (g,bg 0 cs)):=by rw[vD hdt,I6 hv (by simp)]
 rw[hq]at Ur;cases Ur;rw[kS,aI hij]at Fv;refine⟨_,(Dw hp GU pQ).2 ⟨vs,g2,Fu,hv,Fv,DH,rfl⟩,(Dw ho hd hg).2 ⟨jt vs j (g2,bg 0 Fu),g,cs,?_,?_,hf,?_⟩⟩;rw[vD anI,I6 hv (by simp)];rw[kS,aI (cd hij)];exact hn;have e:=kt vs hij (g,bg 0 cs) (g2,bg 0 Fu);have a:∀(A B:AV)(q:Nat)(v:AV),q≠t->jt (jt (jt st.slots t A) q v) t B=jt (jt st.slots t B) q v:=λA B q v hq=>by rw[kt _ hq,ae3]
 simp only[AS.put,AS.mk.injEq,jV];rw[a _ _ _ _ hdt,a _ _ _ _ anI,e,kt _ Uh];cases ha
theorem acA (s:AS)(t:Nat):s.put (some t) (s.get t)=s:=by cases s with|mk slots boxes ep iss io=>simp only[AS.put,AS.mk.injEq,jV];rw[gL];apply de;intro i;rw[bL];split;rename_i hd;subst hd;simp only[AS.get,eT];split;rename_i iz;rw[aq iz];rfl;rename_i BC;rw[bS (Nat.le_of_not_lt BC)];rfl
theorem X0 {o:Oper}(hd:o.dst=some d)(hg:o.guard=none)(ho:(o.op=.move (.tmp t)/\an.mv.contains d=false/\an.fm.contains d=true)\/∃i,o.op=.extract (.tmp t) i)(_hdt:d≠t)(h:cX E Γ an ops X o st=some s): ∃tv v,s=(st.put (some t) tv).put (some d) v/\∀st2:AS,st2.get t=st.get t->cX E Γ an ops X o st2=some ((st2.put (some t) tv).put (some d) v):=by
 rcases ho with⟨ho,Fj,Nw⟩|⟨i,ho⟩;have O1:∀st2:AS,st2.get t=st.get t->(st.rd (.tmp t)).mS=true->st2.rd (.tmp t)=st.get t:=by
  intro st2 hq hs;simp only[AS.rd,hq]at hs⊢;cases hv:st.get t with
  |xN vs=>rw[hv]at hs;simp[AV.borrow,AV.mS]at hs
  |val g cs=>
   rw[hv]at hs;simp only[AV.borrow,AV.mS]at hs⊢;congr 1;have key:∀(cs:az AC)(j:Nat),(jK st.ep (λj=>mq.slot t j) j cs).all AC.mS=true->jK st2.ep (λj=>mq.slot t j) j cs=cs:=by
    intro cs;induction cs with
    |nil=>intro j _;rfl
    |cons c cs ih=>
     intro j h;simp only[jK,cw,ae]at h⊢;rw[ih (j+1) h.2];congr 1;cases c with
     |sl fl e xs=>cases fl with|gH _ _ ep=>cases ep<;>simp[AC.borrow,AC.mS]at h|_=>simp[AC.borrow,AC.mS]at h
     |_=>rfl
   exact key cs 0 hs
 unfold cX at h;have oB:(st.rd (.tmp t)).mS=true:=by cases hs:(st.rd (.tmp t)).mS with|true=>rfl|false=>simp only[dV,ho,YC,hd,Nw,hs]at h;cases h
 refine⟨st.get t,st.get t,?_,λst2 hq=>?_⟩;simp only[dV,ho,YC,hd,Nw,oB,ly,ah,iK,hg,dG,DT,Fj,bj,cy]at h;cases h;rw[O1 st rfl oB];congr 1;exact(acA st t).symm;unfold cX;have e1:=O1 st2 hq oB;have Uo:(st2.rd (.tmp t)).mS=true:=by rw[e1,<-O1 st rfl oB];exact oB
 simp only[dV,ho,YC,hd,Nw,Uo,ly,ah,iK,hg,dG,DT,Fj,bj,cy];rw[e1,<-hq,acA];obtain⟨vs,g,cs,hv,hn,hf,rfl⟩:=(Dw ho hd hg).1 h;refine⟨_,_,rfl,λst2 hq=>(Dw ho hd hg).2 ⟨vs,g,cs,by rw[hq,hv],hn,hf,rfl⟩⟩
theorem ajo {p:Oper}{x:Nat}(hp:p.op=.store T (.tmp q) (.tmp x))(hd:p.dst=none)(hg:p.guard=none)(Ui:(an.eb q).isSome=true)(hes:(an.es q).isNone=true)(hsb:(an.sb q).isNone=true)(hl:B6 an p=false)(h:cX E Γ an ops Y p st=some s): ∃B,s=⟨jt st.slots x ((st.get x).bg st.ep),B,st.ep+1,st.iss,st.io⟩/\ ∀st2:AS,st2.get q=st.get q->st2.get x=st.get x->st2.boxes=st.boxes->st2.ep=st.ep->st2.iss=st.iss->st2.io=st.io-> cX E Γ an ops Y p st2=some ⟨jt st2.slots x ((st.get x).bg st.ep),B,st.ep+1,st.iss,st.io⟩:=by
 have iC:∀st2:AS,st2.get q=st.get q->st2.ep=st.ep->dV E an Y p st2=dV E an Y p st:=by intro st2 h1 h2;simp only[dV,hp,AS.rd,h1,h2]
 unfold cX at h;cases hf:dV E an Y p st with
 |false=>rw[hf]at h;cases h
 |true=>
  rw[hf]at h;simp only[ah,iK,hg,dG,hp,hd,hl,bj,cy]at h;have kB:=hf;simp only[dV,hp]at kB;have OV:((an.sb q).isNone&&(an.eb q).isNone&&(an.es q).isNone)=false:=by cases he:an.eb q with|none=>rw[he]at Ui;cases Ui|some _=>simp
  rw[OV,cj]at kB;unfold yt at h;split at h;rename_i O1;rw[O1]at kB;simp only[ae,bn]at kB;rw[kB.2]at hsb;cases hsb;rename_i sh Ol r tg e y i off hT O1;rw[O1]at kB;cases r with
  |slot _ _=>simp only[ae,bn]at kB;rw[kB.1.1]at hes;cases hes
  |io _=>simp at kB
  |box b j=>
   split at h;rename_i gg vs st1 uz;have e1:(st.get x)=.val gg vs:=by have:=congrArg Prod.fst uz;exact this
   have e2:st1=⟨jt st.slots x ((st.get x).bg st.ep),st.boxes,st.ep,st.iss,st.io⟩:=by have:=congrArg Prod.snd uz;exact this.symm
   split at h;rename_i hlen;have main:∃B,∀sl:az AV,(⟨sl,st.boxes,st.ep,st.iss,st.io⟩:AS).rb (.box b j) tg e i off vs some=some ⟨sl,B,st.ep+1,st.iss,st.io⟩:=by
    subst e2;simp only[AS.rb,AS.gh,AS.gq,AS.fU]at h⊢;cases hb:(nth st.boxes b).getD none with
    |none=>rw[hb]at h;simp at h
    |some cs=>
     rw[hb]at h;simp only[fM]at h⊢;split at h;rename_i t' e' xs hn;split at h;rename_i he;simp only[dif_pos he];generalize (he▸xs:az e.D)=zs at h⊢;split at h;rename_i ht;simp only[aJ ht];cases hi:idx zs i with|none=>rw[hi]at h;simp[aa]at h|some y0=>simp only[hi,aa]at h⊢;split at h;exact⟨_,λsl=>rfl⟩;cases h
     cases h;cases h;rename_i t' i' q0 e' xs hn;split at h;rename_i he;simp only[dif_pos he];generalize (he▸xs:az e.D)=zs at h⊢;split at h;rename_i ht;simp only[aJ ht];cases hi:adA zs i' i with|none=>rw[hi]at h;simp[aa]at h|some y0=>simp only[hi,aa]at h⊢;split at h;exact⟨_,λsl=>rfl⟩;cases h
     cases h;cases h;cases h
   obtain⟨B,hB⟩:=main;refine⟨B,?_,λst2 h1 h2 h3 h4 h5 h6=>?_⟩;subst e2;rw[hB]at h;exact(bQ h).symm;unfold cX;rw[iC st2 h1 h4,hf];have r2:st2.rd (.tmp q)=st.rd (.tmp q):=by simp only[AS.rd,h1,h4]
   have t2:st2.take (.tmp x)=(.val gg vs,⟨jt st2.slots x ((st.get x).bg st.ep),st.boxes,st.ep,st.iss,st.io⟩):=by simp only[AS.take,AS.put,h2,h3,h4,h5,h6,e1]
   simp only[ah,iK,hg,dG,hp,hd,hl,bj,cy,yt,hT,r2,O1,t2];rw[aJ hlen];exact hB _;cases h;cases h
  cases h
theorem agC {p:Oper}{x:Nat}(hp:p.op=.store T (.tmp q) (.tmp x))(hd:p.dst=none)(hg:p.guard=none)(hes:an.es q=some b)(Ui:(an.eb q).isNone=true)(lB:b≠x)(hsb:(an.sb q).isNone=true)(hl:B6 an p=false)(h:cX E Γ an ops Y p st=some s): ∃B,s=⟨jt (jt st.slots x ((st.get x).bg st.ep)) b B,st.boxes,st.ep+1,st.iss,st.io⟩/\ ∀st2:AS,st2.get q=st.get q->st2.get x=st.get x->nth st2.slots b=nth st.slots b->st2.boxes=st.boxes->st2.ep=st.ep->st2.iss=st.iss->st2.io=st.io-> cX E Γ an ops Y p st2=some ⟨jt (jt st2.slots x ((st.get x).bg st.ep)) b B,st.boxes,st.ep+1,st.iss,st.io⟩:=by
 have iC:∀st2:AS,st2.get q=st.get q->st2.ep=st.ep->dV E an Y p st2=dV E an Y p st:=by intro st2 h1 h2;simp only[dV,hp,AS.rd,h1,h2]
 unfold cX at h;cases hf:dV E an Y p st with
 |false=>rw[hf]at h;cases h
 |true=>
  rw[hf]at h;simp only[ah,iK,hg,dG,hp,hd,hl,bj,cy]at h;have kB:=hf;simp only[dV,hp]at kB;have OV:((an.sb q).isNone&&(an.eb q).isNone&&(an.es q).isNone)=false:=by rw[hes];simp
  rw[OV,cj]at kB;unfold yt at h;split at h;rename_i O1;rw[O1]at kB;simp only[ae,bn]at kB;rw[kB.2]at hsb;cases hsb;rename_i sh Ol r tg e y i off hT O1;rw[O1]at kB;cases r with
  |box _ _=>simp only[ae,bn]at kB;rw[kB.1.1]at Ui;cases Ui
  |io _=>simp at kB
  |slot b' j=>
   simp only[ae,bn]at kB;have Z1:b'=b:=bQ (kB.1.1.symm.trans hes);subst Z1;split at h;rename_i gg vs st1 uz;have e1:(st.get x)=.val gg vs:=by have:=congrArg Prod.fst uz;exact this
   have e2:st1=⟨jt st.slots x ((st.get x).bg st.ep),st.boxes,st.ep,st.iss,st.io⟩:=by have:=congrArg Prod.snd uz;exact this.symm
   split at h;rename_i hlen;have main:∃B,∀sl:az AV,nth sl b'=nth st.slots b'->(⟨sl,st.boxes,st.ep,st.iss,st.io⟩:AS).rb (.slot b' j) tg e i off vs some=some ⟨jt sl b' B,st.boxes,st.ep+1,st.iss,st.io⟩:=by
    subst e2;have jq:∀sl:az AV,nth sl b'=nth st.slots b'->(⟨sl,st.boxes,st.ep,st.iss,st.io⟩:AS).get b'=st.get b':=λsl hq=>by unfold AS.get;rw[hq]
    have hq0:nth (jt st.slots x ((st.get x).bg st.ep)) b'=nth st.slots b':=by rw[kS,aI (cd lB)]
    simp only[AS.rb,AS.gh,AS.gq,jq _ hq0]at h;cases hb:st.get b' with
    |xN _=>rw[hb]at h;simp at h
    |val g0 cs=>
     rw[hb]at h;simp only at h;split at h;rename_i t' e' xs hn;split at h;rename_i he;split at h;rename_i ht;cases hi:idx (he▸xs:az e.D) i with|none=>rw[hi]at h;simp[aa]at h|some y0=>simp only[hi,aa]at h;split at h;rename_i x' BE;refine⟨.val g0 (jt cs j (.sl (.own (some t')) e ((he▸xs:az e.D).set i.toNat x'))),λsl hq=>?_⟩;simp only[AS.rb,AS.gh,AS.gq,jq _ hq,hb,hn,dif_pos he,aJ ht,hi,aa,BE,AS.put];cases h
     cases h;cases h;rename_i t' i' q0 e' xs hn;split at h;rename_i he;split at h;rename_i ht;cases hi:adA (he▸xs:az e.D) i' i with|none=>rw[hi]at h;simp[aa]at h|some y0=>simp only[hi,aa]at h;split at h;rename_i x' BE;refine⟨.val g0 (jt cs j (.sl (.own (some t')) e ((he▸xs:az e.D).set i.toNat x'))),λsl hq=>?_⟩;simp only[AS.rb,AS.gh,AS.gq,jq _ hq,hb,hn,dif_pos he,aJ ht,hi,aa,BE,AS.put];cases h
     cases h;cases h;cases h
   obtain⟨B,hB⟩:=main;refine⟨B,?_,λst2 h1 h2 xY h3 h4 h5 h6=>?_⟩;subst e2;rw[hB _ (by rw[kS,aI (cd lB)])]at h;exact(bQ h).symm;unfold cX;rw[iC st2 h1 h4,hf];have r2:st2.rd (.tmp q)=st.rd (.tmp q):=by simp only[AS.rd,h1,h4]
   have t2:st2.take (.tmp x)=(.val gg vs,⟨jt st2.slots x ((st.get x).bg st.ep),st.boxes,st.ep,st.iss,st.io⟩):=by simp only[AS.take,AS.put,h2,h3,h4,h5,h6,e1]
   simp only[ah,iK,hg,dG,hp,hd,hl,bj,cy,yt,hT,r2,O1,t2];rw[aJ hlen];exact hB _ (by rw[kS,aI (cd lB)];exact xY);cases h;cases h
  cases h
theorem ajn {o p:Oper}(ha:ZM an o p=true)(h1:cX E Γ an ops X o st=some s1)(h2:cX E Γ an ops Y p s1=some s2): ∃t1,cX E Γ an ops Y p st=some t1/\cX E Γ an ops X o t1=some s2:=by
 unfold ZM at ha;split at ha;rename_i T q x hp hpd hpg;simp only[ae,aN]at ha;obtain⟨⟨⟨Ui,hsb⟩,hl⟩,ha⟩:=ha;have anF:∃d t,o.dst=some d/\o.guard=none/\((o.op=.move (.tmp t)/\an.mv.contains d=false/\an.fm.contains d=true)\/∃i,o.op=.extract (.tmp t) i)/\d≠q/\d≠x/\t≠x/\d≠t/\t≠q:=by split at ha;rename_i t d ho hd hg;simp only[ae,aN,cq]at ha;exact⟨d,t,hd,hg,.inl ⟨ho,ha.1.1.1.1.1.1,ha.1.1.1.1.1.2⟩,ha.1.1.1.1.2,ha.1.1.1.2,ha.1.1.2,ha.2,ha.1.2⟩;rename_i t i d ho hd hg;simp only[ae,aN,cq]at ha;exact⟨d,t,hd,hg,.inr ⟨i,ho⟩,ha.1.1.1.1,ha.1.1.1.2,ha.1.1.2,ha.2,ha.1.2⟩;cases ha
 obtain⟨d,t,hd,hg,ho,hdq,hdx,htx,hdt,htq⟩:=anF;obtain⟨tv,v,rfl,fG⟩:=X0 hd hg ho hdt h1;have hq:((st.put (some t) tv).put (some d) v).get q=st.get q:=by rw[vD hdq];exact vD htq
 have hx:((st.put (some t) tv).put (some d) v).get x=st.get x:=by rw[vD hdx,vD htx]
 simp only[cJ,ae]at Ui;rcases Ui with⟨Ui,hes⟩|hes;obtain⟨B,rfl,hgo⟩:=ajo hp hpd hpg Ui hes hsb hl h2;have k1:=hgo st hq.symm hx.symm rfl rfl rfl rfl;refine⟨_,k1,?_⟩;have H7:(⟨jt st.slots x ((((st.put (some t) tv).put (some d) v).get x).bg ((st.put (some t) tv).put (some d) v).ep),B,((st.put (some t) tv).put (some d) v).ep+1,((st.put (some t) tv).put (some d) v).iss,((st.put (some t) tv).put (some d) v).io⟩:AS).get t=st.get t:=by simp only[AS.get,kS,aI (cd htx)]
 rw[fG _ H7];simp only[AS.put,bw,AS.mk.injEq,jV];rw[kt _ (cd htx),kt _ (cd hdx)];cases hb:an.es q with
 |none=>rw[hb]at hes;cases hes
 |some b=>
  rw[hb]at hes;simp only[ae,aN,cq]at hes;obtain⟨⟨⟨Ui,lB⟩,_⟩,hbw⟩:=hes;have hbw:=nO hbw b (by simp);have hbd:b≠d:=λe=>hbw (by simp[hd,e]);have hbt:b≠t:=λe=>hbw (by refine ay.2 (.inr ?_);rcases ho with⟨ho,_⟩|⟨i,ho⟩<;>simp[eF,ho,tm,e]);obtain⟨B,rfl,hgo⟩:=agC hp hpd hpg hb Ui lB hsb hl h2;have xY:nth st.slots b=nth ((st.put (some t) tv).put (some d) v).slots b:=by simp only[AS.put,kS,aI (cd hbd),aI (cd hbt)]
  have k1:=hgo st hq.symm hx.symm xY rfl rfl rfl rfl;refine⟨_,k1,?_⟩;have H7:(⟨jt (jt st.slots x ((((st.put (some t) tv).put (some d) v).get x).bg ((st.put (some t) tv).put (some d) v).ep)) b B,((st.put (some t) tv).put (some d) v).boxes,((st.put (some t) tv).put (some d) v).ep+1,((st.put (some t) tv).put (some d) v).iss,((st.put (some t) tv).put (some d) v).io⟩:AS).get t=st.get t:=by simp only[AS.get,kS,aI (cd htx),aI hbt]
  rw[fG _ H7];simp only[AS.put,bw,AS.mk.injEq,jV];rw[kt _ hbt,kt _ hbd,kt _ (cd htx),kt _ (cd hdx)]
 cases ha
theorem Vb {c:AC}(h:c.mS=true\/(c.borrow ep none).mS=true):c.borrow ep none=c:=by
 cases c with
 |sl fl e xs=>exfalso;cases fl with|gH _ _ ep=>cases ep<;>simp[AC.borrow,AC.mS]at h|_=>simp[AC.borrow,AC.mS]at h
 |_=>rfl
theorem Qm {cs:az AC}{n:Nat}(iW:off+n<=cs.length)(k:Nat):(fD cs off (bg ep ((cs.drop off).take n)))[k]?=(cs[k]?).map λc=>if off<=k/\k<off+n then c.borrow ep none else c:=by
 have hl:(bg ep ((cs.drop off).take n)).length=n:=by simp[bg];omega
 unfold fD;rw[hl];by_cases h1:k<off;rw[aE,bu (by simp;omega),dI h1];have:(λc:AC=>if off<=k/\k<off+n then c.borrow ep none else c)=id:=by funext c;rw[kz];rfl
 rw[this,Option.map_id];rfl;by_cases h2:k<off+n;rw[bu (by simp[hl];omega),bE (by simp;omega)];have e:k-(cs.take off).length=k-off:=by simp;omega
 rw[e,bg,fA,dI (by omega),bP,show off+(k-off)=k by omega];congr 1;funext c;rw[zip];rw[bE (by simp[hl];omega)];have e:k-(cs.take off++bg ep ((cs.drop off).take n)).length=k-(off+n):=by simp[hl];omega
 rw[e,bP,show off+n+(k-(off+n))=k by omega];have:(λc:AC=>if off<=k/\k<off+n then c.borrow ep none else c)=id:=by funext c;rw[kz];rfl
 rw[this,Option.map_id];rfl
theorem Kb {cs:az AC}{n o2 n2:Nat}(iW:off+n<=cs.length)(h:((cs.drop o2).take n2).all AC.mS=true\/(((fD cs off (bg ep ((cs.drop off).take n))).drop o2).take n2).all AC.mS=true): ((fD cs off (bg ep ((cs.drop off).take n))).drop o2).take n2=(cs.drop o2).take n2:=by
 apply de;intro k;by_cases hk:k<n2;rw[dI hk,dI hk,bP,bP,Qm iW];cases hc:cs[o2+k]? with|none=>rfl|some c=>simp only[dL];split;rename_i ux;refine congrArg some (Vb ?_);rcases h with h|h;left;refine aL.1 h c (aQ (i:=k) ?_);rw[dI hk,bP,hc];right;refine aL.1 h _ (aQ (i:=k) ?_);rw[dI hk,bP,Qm iW,hc,dL,aJ ux];rfl
 rw[bS (by simp;omega),bS (by simp;omega)]
theorem LG:∀{cs:az AC}{j:Nat},cs.all AC.mS=true->jK ep (.box b) j cs=cs
 |[],_,_=>rfl
 |c::cs,j,h=>by simp only[cw,ae]at h;rw[jK,LG h.2];congr 1;cases c<;>first|rfl|(simp[AC.mS]at h)
theorem Qu {o:Oper}(h:Dk an o=true):∃T q d,o.op=.load T (.tmp q)/\o.dst=some d/\o.guard=none/\an.mv.contains d=true/\(an.mb d).isSome=true:=by unfold Dk at h;split at h;rename_i T q d ho hd hg;simp only[ae]at h;exact⟨T,q,d,ho,hd,hg,h.1,h.2⟩;cases h
theorem OD {o:Oper}(h:OC an o=true):∃T q d,o.op=.load T (.tmp q)/\o.dst=some d/\o.guard=none/\an.mv.contains d=false/\an.fm.contains d=true:=by unfold OC at h;split at h;rename_i T q d ho hd hg;simp only[ae,aN]at h;exact⟨T,q,d,ho,hd,hg,h.1,h.2⟩;cases h
theorem Hf {o:Oper}(ht:Dk an o=true)(ho:o.op=.load T (.tmp q))(hd:o.dst=some d)(hg:o.guard=none)(Fj:an.mv.contains d=true):cX E Γ an ops X o st=some s↔ ∃sh b off cs,kv E.ty T=some sh/\st.rd (.tmp q)=.val false [.ptr b off]/\(nth st.boxes b).getD none=some cs/\off+sh.ct.size<=cs.length/\X.contains b=false/\an.mb d=some b/\(YC an o=true->FN E T st b off=true)/\ s=(st.fU b (some (fD cs off (bg st.ep ((cs.drop off).take sh.ct.size))))).put (some d) (.val sh.agg ((cs.drop off).take sh.ct.size)):=by
 have key:dV E an X o st=true->∀r,dG E Γ an o st some=some r->∃b off,st.rd (.tmp q)=.val false [.ptr b off]:=by intro hf r hr;simp only[dG,ho,qO]at hr;split at hr;rename_i hp;exact⟨_,_,hp⟩;rename_i hp;simp only[dV,ho,hp,ht,ly,ak,eH,eY]at hf;cases hf;cases hr
 unfold cX;constructor;intro h;cases hf:dV E an X o st with|false=>rw[hf]at h;cases h|true=>rw[hf]at h;simp only[ah,iK,hg]at h;obtain⟨b,off,hp⟩:=key hf s h;simp only[dV,ho,hp,hd,Fj,ak,cj,ae,aN,bn,cJ]at hf;simp only[dG,ho,qO,hp]at h;cases hT:kv E.ty T with|none=>rw[hT]at h;cases h|some sh=>rw[hT]at h;simp only at h;cases hb:(nth st.boxes b).getD none with|none=>rw[hb]at h;cases h|some cs=>rw[hb]at h;simp only at h;split at h;rename_i iW;simp only[hd,Fj,cr]at h;cases h;refine⟨sh,b,off,cs,rfl,hp,hb,iW,hf.1.1,hf.1.2,λhm=>?_,rfl⟩;rcases hf.2 with g|g;rw[hm]at g;cases g;exact g;cases h
 rintro⟨sh,b,off,cs,hT,hp,hb,iW,hX,YF,Nw,rfl⟩;have hf:dV E an X o st=true:=by simp only[dV,ho,hp,hd,Fj,hX,YF,ak,cj,ae,aN,bn,cJ];refine⟨⟨cM,cM⟩,?_⟩;cases hm:YC an o with|false=>exact .inl rfl|true=>exact .inr (Nw hm)
 rw[hf];simp only[ah,iK,hg,dG,ho,qO,hp,hT,hb,aJ iW,hd,Fj,cr]
theorem GQ {o:Oper}(ho:o.op=.load T (.tmp q))(hd:o.dst=some d)(hg:o.guard=none)(Fj:an.mv.contains d=false)(Nw:an.fm.contains d=true):cX E Γ an ops X o st=some s↔ ∃sh b off cs,kv E.ty T=some sh/\st.rd (.tmp q)=.val false [.ptr b off]/\(nth st.boxes b).getD none=some cs/\off+sh.ct.size<=cs.length/\X.contains b=false/\((cs.drop off).take sh.ct.size).all AC.mS=true/\ s=st.put (some d) (.val sh.agg ((cs.drop off).take sh.ct.size)):=by
 have hfb:YC an o=true:=by simp only[YC,hd,Nw]
 have key:dV E an X o st=true->∀r,dG E Γ an o st some=some r->∃b off,st.rd (.tmp q)=.val false [.ptr b off]:=by intro hf r hr;simp only[dG,ho,qO]at hr;split at hr;rename_i hp;exact⟨_,_,hp⟩;rename_i hp;simp only[dV,ho,hp,hfb,jU,ak,eH,eY]at hf;cases hf;cases hr
 unfold cX;constructor;intro h;cases hf:dV E an X o st with
 |false=>rw[hf]at h;cases h
 |true=>
  rw[hf]at h;simp only[ah,iK,hg]at h;obtain⟨b,off,hp⟩:=key hf s h;simp only[dV,ho,hp,hd,Fj,hfb,ak,cl,jU,cj,iI,ae,aN]at hf;simp only[dG,ho,qO,hp]at h;cases hT:kv E.ty T with
  |none=>rw[hT]at h;cases h
  |some sh=>
   rw[hT]at h;simp only at h;cases hb:(nth st.boxes b).getD none with
   |none=>rw[hb]at h;cases h
   |some cs=>
    rw[hb]at h;simp only at h;split at h;rename_i iW;have oB:((cs.drop off).take sh.ct.size).all AC.mS=true:=by have:=hf.2;unfold FN at this;rw[hT,hb]at this;exact this
    simp only[hd,Fj,bj,cy,LG oB]at h;cases h;exact⟨sh,b,off,cs,rfl,hp,hb,iW,hf.1,oB,rfl⟩;cases h
 rintro⟨sh,b,off,cs,hT,hp,hb,iW,hX,oB,rfl⟩;have hf:dV E an X o st=true:=by simp only[dV,ho,hp,hd,Fj,hX,hfb,FN,hT,hb,oB];rfl
 rw[hf];simp only[ah,iK,hg,dG,ho,qO,hp,hT,hb,aJ iW,hd,Fj,bj,cy,LG oB]
theorem SU {v:AV}(h:d≠q):(st.put (some d) v).rd (.tmp q)=st.rd (.tmp q):=by simp only[AS.rd,vD h];rfl
theorem ah1 {cs:aC (az AC)}:(st.fU b cs).rd (.tmp q)=st.rd (.tmp q):=rfl
theorem Za {cs x:az AC}(h:(nth st.boxes b).getD none=some cs):(nth (jt st.boxes b (some x)) b).getD none=some x:=by
 rw[kS,aJ rfl];cases hn:nth st.boxes b with
 |none=>rw[hn]at h;cases h
 |some _=>
  have:b<st.boxes.length:=by rw[eT]at hn;exact(aB.1 hn).1
  rw[aJ this];rfl
theorem Zb {b2:Nat}{x:az AC}(h:b≠b2):nth (jt st.boxes b (some x)) b2=nth st.boxes b2:=by rw[kS,aI h]
theorem ajV {o p:Oper}(ha:aaz an o p=true)(h1:cX E Γ an ops X o st=some s1)(h2:cX E Γ an ops Y p s1=some s2): ∃t1,cX E Γ an ops Y p st=some t1/\cX E Γ an ops X o t1=some s2:=by
 simp only[aaz,ae,cJ,aN]at ha;obtain⟨⟨ha,m1⟩,m2⟩:=ha;have m1:=nO m1;have m2:=nO m2;rcases ha with⟨ht,hf⟩|⟨hf,ht⟩;obtain⟨T,q,d,ho,hd,hg,Fj,YF⟩:=Qu ht;obtain⟨T2,q2,d2,hp,MZ,H7,Wx,adw⟩:=OD hf;have n1:d≠d2:=λe=>m1 d (by simp[hd]) (by simp[MZ,e]);have n2:d≠q2:=λe=>m1 d (by simp[hd]) (by simp[eF,hp,tm,e]);have n3:d2≠q:=λe=>m2 d2 (by simp[MZ]) (by simp[eF,ho,tm,e]);obtain⟨sh,b,off,cs,hT,hr,hb,iW,hX,alQ,Nw,rfl⟩:=(Hf ht ho hd hg Fj).1 h1;obtain⟨sh2,b2,Rk,Fu,hT2,Q4,Nu,acd,hX2,Uo,rfl⟩:=(GQ hp MZ H7 Wx adw).1 h2;rw[SU n2,ah1]at Q4;have lB:(nth (jt st.boxes b (some (fD cs off (bg st.ep ((cs.drop off).take sh.ct.size))))) b2).getD none=some Fu:=Nu;have qb:∃RN,(nth st.boxes b2).getD none=some RN/\Rk+sh2.ct.size<=RN.length/\(Fu.drop Rk).take sh2.ct.size=(RN.drop Rk).take sh2.ct.size:=by
  by_cases Z1:b=b2;subst Z1;rw[Za hb]at lB;cases lB;have hlen:(fD cs off (bg st.ep ((cs.drop off).take sh.ct.size))).length=cs.length:=by simp only[fD,bg,aj,cz,aY,aP];omega
  exact⟨cs,hb,by omega,Kb iW (.inr Uo)⟩;rw[Zb Z1]at lB;exact⟨Fu,lB,acd,rfl⟩
 obtain⟨RN,Wo,Wr,he⟩:=qb;rw[he]at Uo⊢;refine⟨_,(GQ hp MZ H7 Wx adw).2 ⟨sh2,b2,Rk,RN,hT2,Q4,Wo,Wr,hX2,Uo,rfl⟩,(Hf ht ho hd hg Fj).2 ⟨sh,b,off,cs,hT,by rw[SU n3];exact hr,hb,iW,hX,alQ,λhm=>?_,?_⟩⟩;have:=Nw hm;unfold FN at this⊢;exact this;simp only[AS.put,AS.fU,AS.mk.injEq,jV];exact kt _ n1 _ _;obtain⟨T,q,d,ho,hd,hg,Fj,Nw⟩:=OD hf;obtain⟨T2,q2,d2,hp,MZ,H7,Wx,alP⟩:=Qu ht;have n1:d≠d2:=λe=>m1 d (by simp[hd]) (by simp[MZ,e]);have n2:d≠q2:=λe=>m1 d (by simp[hd]) (by simp[eF,hp,tm,e]);have n3:d2≠q:=λe=>m2 d2 (by simp[MZ]) (by simp[eF,ho,tm,e]);obtain⟨sh,b,off,cs,hT,hr,hb,iW,hX,oB,rfl⟩:=(GQ ho hd hg Fj Nw).1 h1;obtain⟨sh2,b2,Rk,Fu,hT2,Q4,Nu,acd,hX2,alQ,adw,rfl⟩:=(Hf ht hp MZ H7 Wx).1 h2;rw[SU n2]at Q4;refine⟨_,(Hf ht hp MZ H7 Wx).2 ⟨sh2,b2,Rk,Fu,hT2,Q4,Nu,acd,hX2,alQ,λhm=>adw hm,rfl⟩,?_⟩;have qb:∃RN,(nth (jt st.boxes b2 (some (fD Fu Rk (bg st.ep ((Fu.drop Rk).take sh2.ct.size))))) b).getD none=some RN/\off+sh.ct.size<=RN.length/\(RN.drop off).take sh.ct.size=(cs.drop off).take sh.ct.size:=by
  by_cases Z1:b2=b;subst Z1;have KN:Fu=cs:=bQ (Nu.symm.trans hb);subst KN;have hlen:(fD Fu Rk (bg st.ep ((Fu.drop Rk).take sh2.ct.size))).length=Fu.length:=by simp only[fD,bg,aj,cz,aY,aP];omega
  exact⟨_,Za hb,by omega,Kb acd (.inl oB)⟩;exact⟨cs,by rw[Zb Z1];exact hb,iW,rfl⟩
 obtain⟨RN,Wo,Wr,he⟩:=qb;refine(GQ ho hd hg Fj Nw).2 ⟨sh,b,off,RN,hT,by rw[SU n3,ah1];exact hr,Wo,Wr,hX,by rw[he];exact oB,?_⟩;rw[he];simp only[AS.put,AS.fU,AS.mk.injEq,jV];exact kt _ n1 _ _
theorem Qt {o:Oper}(ht:Gx an o=true)(ho:o.op=.load T (.tmp q))(hd:o.dst=some d)(hg:o.guard=none)(Fj:an.mv.contains d=true)(YF:an.mb d=none):cX E Γ an ops X o st=some s↔ ∃(g:Bool)(e:CT)(lD:az (Nat×Nat))(b j t Ol:Nat)(x:e.D)(i:Int)(cs:az AC)(ys:az e.D)(y:e.D),kv E.ty T=some ⟨g,e,lD⟩/\st.rd (.tmp q)=.val false [.C5 (.loc Ol (some (.box b j,t))) e x i 0]/\(nth st.boxes b).getD none=some cs/\nth cs j=some (.sl (.own (some t)) e ys)/\idx ys i=some y/\ X.contains b=false/\an.eb q=some b/\YC an o=false/\s=(Kk st b j t e i cs ys).put (some d) (.val g (cellsOf e (.own none) y)):=by rw[<-Qs ht ho hd Fj YF];unfold cX;cases dV E an X o st with|false=>simp|true=>simp only[ah,iK,hg,dG,ho,true_and]
theorem aeJ {o:Oper}(h:CK an o=true):∃T q d,o.op=.load T (.tmp q)/\o.dst=some d/\o.guard=none/\an.mv.contains d=false/\YC an o=false:=by unfold CK at h;split at h;rename_i T q d ho hd hg;simp only[ae,aN]at h;exact⟨T,q,d,ho,hd,hg,h.1.1,by simp only[YC,hd];exact h.1.2⟩;cases h
theorem PO {o:Oper}(Er:CK an o=true)(ho:o.op=.load T (.tmp q))(hd:o.dst=some d)(hg:o.guard=none)(Fj:an.mv.contains d=false)(Nw:YC an o=false):cX E Γ an ops X o st=some s↔ ∃sh b off cs,kv E.ty T=some sh/\st.rd (.tmp q)=.val false [.ptr b off]/\(nth st.boxes b).getD none=some cs/\off+sh.ct.size<=cs.length/\X.contains b=false/\ s=st.put (some d) (.val sh.agg (jK st.ep (.box b) off ((cs.drop off).take sh.ct.size))):=by
 unfold cX;constructor;intro h;cases hf:dV E an X o st with|false=>rw[hf]at h;cases h|true=>rw[hf]at h;simp only[ah,iK,hg,dG,ho]at h;unfold qO at h;split at h;rename_i sh b off hT hp;simp only[dV,ho,hp,hd,Fj,Nw,cl,jU,iI,aN]at hf;split at h;rename_i cs hb;split at h;rename_i iW;simp only[hd,Fj,bj,cy]at h;cases h;exact⟨sh,b,off,cs,hT,hp,hb,iW,hf,rfl⟩;cases h;cases h;rename_i hp;simp only[dV,ho,hp,Er,ak,eH,eY]at hf;cases hf;cases h
 rintro⟨sh,b,off,cs,hT,hp,hb,iW,hX,rfl⟩;have hf:dV E an X o st=true:=by simp only[dV,ho,hp,hd,Fj,hX,Nw];rfl
 rw[hf];simp only[ah,iK,hg,dG,ho,qO,hp,hT,hb,aJ iW,hd,Fj,bj,cy]
theorem NZ:∀(cs:az AC)(p k:Nat)(c':AC),(∀c,cs[k]?=some c->∀r,c'.borrow ep (some r)=c.borrow ep (some r))->jK ep (.box b) p (cs.set k c')=jK ep (.box b) p cs
 |[],_,_,_,_=>rfl
 |c::cs,p,0,c',h=>by simp only[List.set_cons_zero,jK,h c rfl]
 |c::cs,p,k+1,c',h=>by simp only[List.set_cons_succ,jK];rw[NZ cs (p+1) k c' (λc hc=>h c (by simpa using hc))]
theorem VH {j n:Nat}{e:CT}{i:Int}{ys:az e.D}{cs:az AC}(hj:nth cs j=some (.sl (.own (some t)) e ys)): jK ep (.box b) off (((jt cs j (.sl (.gH (some t) i (some ep)) e ys)).drop off).take n)=jK ep (.box b) off ((cs.drop off).take n):=by rw[gL,List.drop_set];split;rfl;rename_i iz;rw[List.take_set];refine NZ _ _ _ _ λc hc r=>?_;by_cases hn:j-off<n;rw[dI hn,bP,show off+(j-off)=j by omega,<-eT,hj]at hc;cases hc;rfl;rw[bS (by simp;omega)]at hc;cases hc
theorem aji {o p:Oper}(ha:Zd an o p=true)(h1:cX E Γ an ops X o st=some s1)(h2:cX E Γ an ops Y p s1=some s2): ∃t1,cX E Γ an ops Y p st=some t1/\cX E Γ an ops X o t1=some s2:=by
 simp only[Zd,ae,aN]at ha;obtain⟨⟨⟨Er,ht⟩,m1⟩,m2⟩:=ha;have m1:=nO m1;have m2:=nO m2;obtain⟨T,q,d,ho,hd,hg,Fj,Nw⟩:=aeJ Er;obtain⟨T2,q2,d2,hp,MZ,H7,Wx,alP⟩:=Ti ht;have n1:d≠d2:=λe=>m1 d (by simp[hd]) (by simp[MZ,e]);have n2:d≠q2:=λe=>m1 d (by simp[hd]) (by simp[eF,hp,tm,e]);have n3:d2≠q:=λe=>m2 d2 (by simp[MZ]) (by simp[eF,ho,tm,e]);obtain⟨sh,b,off,cs,hT,hr,hb,iW,hX,rfl⟩:=(PO Er ho hd hg Fj Nw).1 h1;obtain⟨g,e,lD,b2,j,t,Ol,x,i,Fu,ys,y,hT2,Q4,Nu,hj,hi,hX2,Ui,adw,rfl⟩:=(Qt ht hp MZ H7 Wx alP).1 h2;rw[SU n2]at Q4;have anC:(nth st.boxes b2).getD none=some Fu:=Nu;refine⟨_,(Qt ht hp MZ H7 Wx alP).2 ⟨g,e,lD,b2,j,t,Ol,x,i,Fu,ys,y,hT2,Q4,anC,hj,hi,hX2,Ui,adw,rfl⟩,?_⟩;have qb:∃RN,(nth (jt st.boxes b2 (some (jt Fu j (.sl (.gH (some t) i (some st.ep)) e ys)))) b).getD none=some RN/\off+sh.ct.size<=RN.length/\jK st.ep (.box b) off ((RN.drop off).take sh.ct.size)=jK st.ep (.box b) off ((cs.drop off).take sh.ct.size):=by by_cases Z1:b2=b;subst Z1;have KN:Fu=cs:=bQ (anC.symm.trans hb);subst KN;exact⟨_,Za hb,by rw[gL,aD];exact iW,VH hj⟩;exact⟨cs,by rw[Zb Z1];exact hb,iW,rfl⟩
 obtain⟨RN,Wo,Wr,he⟩:=qb;refine(PO Er ho hd hg Fj Nw).2 ⟨sh,b,off,RN,hT,by rw[SU n3];exact hr,Wo,Wr,hX,?_⟩;show _=((Kk st b2 j t e i Fu ys).put (some d2) _).put (some d) (.val sh.agg (jK st.ep (.box b) off ((RN.drop off).take sh.ct.size)));rw[he];simp only[AS.put,Kk,AS.fU,AS.mk.injEq,jV];exact kt _ n1 _ _
def Rn (E:Env)(Γ:Bx)(an:An)(ops:az Oper)(X:Nat->gk):gk->AS->aC AS
 |[],st=>some st
 |i::r,st=>match nth ops i with
  |some o=>(cX E Γ an ops (X i) o st).bind (Rn E Γ an ops X r)
  |none=>none
theorem Qd (Cm:∀f,(Γ f).io=false/\((Γ f).bx=true->(Γ f).cur=true)/\(Γ f).pr=false){X:Nat->gk}{oi:Oper}(hi:nth ops i=some oi):∀(pre post:gk)(st r:AS),(∀j∈pre,∀oj,nth ops j=some oj->NP an ops (X j) (X i) oj oi=true)->
 Rn E Γ an ops X (pre++i::post) st=some r->Rn E Γ an ops X (i::(pre++post)) st=some r
 |[],post,st,r,_,h=>h
 |j::pre,post,st,r,ha,h=>by
  simp only[ik,Rn]at h;cases hj:nth ops j with
  |none=>rw[hj]at h;cases h
  |some oj=>
   rw[hj]at h;simp only at h;obtain⟨s1,h1,h2⟩:=aZ.1 h;have h3:=Qd Cm hi pre post s1 r (λk hk=>ha k (by simp[hk])) h2;simp only[Rn,hi]at h3;obtain⟨s2,h4,h5⟩:=aZ.1 h3;have hap:=ha j (by simp) oj hj;obtain⟨t1,k1,k2⟩:∃t1,cX E Γ an ops (X i) oi st=some t1/\cX E Γ an ops (X j) oj t1=some s2:=by cases hx:ahV an oj oi with|false=>rw[NP,hx,cj]at hap;exact abt Cm hap h1 h4|true=>simp only[ahV,cJ]at hx;rcases hx with((hx|hx)|hx)|hx;exact agK hx h1 h4;exact ajn hx h1 h4;exact ajV hx h1 h4;exact aji hx h1 h4
   simp only[Rn,hi,k1,fM,ik,hj,k2];exact h5
end Go.Dn
