import Derived.Test.YthllnaiaikjelaaGreatDnUpd
/- Operations that are apart may change places. -/
namespace Go.Dn
variable {E:Env} {Γ:xf} {an:An} {ops:aq Oper}
variable {s s1 s2 st:AS} {d ep off t:Nat} {α:Type} {T:TypeId} {X Y:dy}
def cz (E:Env)(Γ:xf)(an:An)(ops:aq Oper)(X:dy)(o:Oper)(st:AS):ar AS:=
 bif dj E an X o st then gh E Γ an ops o st some else none
structure R1 (an:An) (ops:List Oper) (X:List Nat) (o:Oper) (st st2:AS):Prop where
 base:gD an X o st st2
 gd:∀t∈Gf an ops o,st2.get t=st.get t
theorem VG {b:Bool}(h:st.get d=.val false [.bool b]):st.put (some d) (.one (.bool b))=st:=by cases st with|mk slots boxes ep iss io=>simp only[AS.put,AS.mk.injEq,gQ];rw[eN];apply cA;intro i;rw[bj];split;rename_i hd;subst hd;simp only[AS.get,dv]at h;split;rename_i gM;rw[ax gM]at h⊢;simp only[fb]at h;rw[h];rename_i Ad;rw[br (Nat.le_of_not_lt Ad)];rfl
theorem Sq {st2:AS}{s:Nat}(h:nth st2.boxes s=nth st.boxes s):Gd E T st2 s off=Gd E T st s off:=by unfold Gd;rw[h]
theorem IK {o:Oper}{st2:AS}(ha:gD an X o st st2):dj E an X o st2=dj E an X o st:=by
 unfold dj;split;rename_i ho;rw[ha.rd (λt ht=>by simpa[dq,ho]using ht)];rename_i T p ho;rw[ha.rd (λt ht=>by simp[dq,ho,ht]),ha.ep];rename_i ho;rw[ha.rd (λt ht=>by simp[dq,ho,ht]),ha.ep];rename_i f args ts ho;have hcur:tz an X (erS an o) st2 args.toList=tz an X (erS an o) st args.toList:=by
  have hl:∀x∈args.toList,∀t∈tm x,t∈dq o:=by intro x hx t ht;simp only[dq,ho,ay,Qr,List.mem_flatMap];exact .inr ⟨x,hx,ht⟩
  generalize args.toList=l at hl;cases l with
  |nil=>rfl
  |cons x xs=>
   have H7:xs.all (Kl (erS an o) st2)=xs.all (Kl (erS an o) st):=by
    rw[ez];simp only[ba];have e:∀y∈xs,Kl (erS an o) st2 y=Kl (erS an o) st y:=by intro y hy;cases y with|tmp t=>have hg:=ha.get t (hl (.tmp t) (by simp[hy]) t (by simp[tm]));simp only[Kl,hg]|const v=>rfl|func v=>rfl|global v=>rfl
    exact⟨λg y hy=>by rw[<-e y hy];exact g y hy,λg y hy=>by rw[e y hy];exact g y hy⟩
   have hr:=ha.rd (hl x (by simp));cases x with
   |tmp q=>
    simp only[tz,hr];generalize st.rd (.tmp q)=v;unfold acC;rw[H7];split;rename_i s off;cases hX:X.contains s with|true=>simp|false=>rw[ha.box s hX]
    rfl
   |const v=>simp only[tz,hr]
   |func v=>simp only[tz,hr]
   |global v=>simp only[tz,hr]
 rw[hcur];congr 1;rw[ez];simp only[ba];constructor;intro hx x hm;have:=hx x hm;rwa[ha.rd (λt ht=>by simp only[dq,ho,ay,Qr,List.mem_flatMap];exact .inr ⟨x,hm,ht⟩),ha.ep]at this;intro hx x hm;rw[ha.rd (λt ht=>by simp only[dq,ho,ay,Qr,List.mem_flatMap];exact .inr ⟨x,hm,ht⟩),ha.ep];exact hx x hm;rename_i ho;rw[ha.rd (λt ht=>by simpa[dq,ho]using ht),ha.ep];split;rename_i s off _;cases hX:X.contains s with|true=>rfl|false=>rw[Sq (ha.box s hX)]
 rfl;rfl;rename_i ho;rw[ha.rd (λt ht=>by simp only[dq,ho,ay];exact .inl ht)];rename_i ho;rw[ha.get _ (by simp[dq,ho])];rfl
theorem Mm (zr:∀f,(Γ f).io=false/\((Γ f).bx=true->(Γ f).cur=true)/\(Γ f).pr=false){o:Oper}{st':AS}(hm:nr an o=true)(h:cz E Γ an ops X o st=some st'): ∃u:KQ,u.Iy an o/\st'=u.apply st/\∀st2,R1 an ops X o st st2->cz E Γ an ops X o st2=some (u.apply st2):=by
 unfold cz at h;cases hf:dj E an X o st with
 |false=>rw[hf]at h;cases h
 |true=>
  rw[hf]at h;simp only[af]at h;unfold gh at h;split at h;rename_i hg;obtain⟨u,h1,h2,h3⟩:=Pg (X:=X) zr hm hf h;refine⟨u,h1,h2,λst2 ha=>?_⟩;unfold cz;rw[IK ha.base,hf];simp only[af,gh,hg];exact h3 st2 ha.base;rename_i j Ji hg;split at h;rename_i d hd;have uQ:d∈Gf an ops o:=by simp[Gf,hg,hd]
  split at h;rename_i b hb;have Zr:(if(b==Ji)=true then cO E Γ an o st some else some (st.put o.dst (.one .un)))=some st':=by cases b<;>simpa only[af,ae,VG hb]using h
  have h2g:∀st2,R1 an ops X o st st2->cz E Γ an ops X o st2=(if(b==Ji)=true then cO E Γ an o st2 some else some (st2.put o.dst (.one .un))):=by
   intro st2 ha;have Gg:st2.get d=.val false [.bool b]:=by rw[ha.gd d uQ];exact hb
   unfold cz;rw[IK ha.base,hf];simp only[af,gh,hg,hd,Gg];cases b<;>simp only[af,ae,VG Gg]
  split at Zr;rename_i hw;obtain⟨u,h1,h2,h3⟩:=Pg (X:=X) zr hm hf Zr;exact⟨u,h1,h2,λst2 ha=>by rw[h2g st2 ha,aH hw];exact h3 st2 ha.base⟩;rename_i hw;cases Zr;exact⟨Fg o (.one .un),C6 _,by rw[sq],λst2 ha=>by rw[h2g st2 ha,aG hw,sq]⟩;rename_i hb;cases h;refine⟨Fg o (.one .un),C6 _,by rw[sq],λst2 ha=>?_⟩;have Gg:st2.get d=.val false [.un]:=by rw[ha.gd d uQ];exact hb
  unfold cz;rw[IK ha.base,hf,sq];simp only[af,gh,hg,hd,Gg];cases h;cases h
theorem iL (l:aq α){i j:Nat}(h:i≠j)(v w:α):gL (gL l i v) j w=gL (gL l j w) i v:=by rw[eN,eN,eN,eN,List.set_comm _ _ h]
theorem Yo (l:aq AV)(a:aq (Nat×AV)){i:Nat}(v:AV)(h:∀x∈a,x.1≠i):jE (gL l i v) a=gL (jE l a) i v:=by induction a generalizing l with|nil=>rfl|cons x a ih=>simp only[jE];rw[iL _ (cC (h x (by simp))),ih _ (λy hy=>h y (by simp[hy]))]
theorem VC (l:aq AV)(a b:aq (Nat×AV))(h:∀x∈a,∀y∈b,x.1≠y.1):jE (jE l a) b=jE (jE l b) a:=by induction b generalizing l with|nil=>rfl|cons y b ih=>simp only[jE];rw[<-Yo l a y.2 (λx hx=>h x hx y (by simp)),ih _ (λx hx z hz=>h x hx z (by simp[hz]))]
theorem Qg (l:aq AV)(a:aq (Nat×AV))(h:∀x∈a,x.1≠t):nth (jE l a) t=nth l t:=by induction a generalizing l with|nil=>rfl|cons x a ih=>rw[jE,ih _ (λy hy=>h y (by simp[hy])),je,aG (h x (by simp))]
theorem lF {a b:dy}(h:meets a b=false):∀x∈a,x∉b:=by intro x hx hb;unfold meets at h;rw[List.any_eq_false]at h;exact h x hx (by simpa using hb)
theorem KQ.agw {u:KQ}{o p:Oper}(hw:u.Iy an o)(h1:∀x∈writes an o,x∉dq p++Gf an ops p++writes an p)(h2:∀d∈GZ an o,Y.contains d=true)(h3:∀d∈GZ an o,p.dst≠some d): R1 an ops Y p (u.apply st) st/\R1 an ops Y p st (u.apply st):=by
 have gI:∀t,t∈dq p++Gf an ops p++writes an p->(u.apply st).get t=st.get t:=by intro t ht;unfold AS.get;have:nth (u.apply st).slots t=nth st.slots t:=Qg _ _ (λx hx he=>h1 _ (hw.slots x hx) (by rw[he];exact ht));rw[this]
 have aaE:∀d,p.dst=some d->nth (u.apply st).iss d=nth st.iss d/\nth (u.apply st).boxes d=nth st.boxes d:=by
  intro d hd;have Xv:d∈dq p++Gf an ops p++writes an p:=by simp[writes,hd]
  have D2:o.dst≠some d:=λhe=>h1 d (by simp[writes,he]) Xv;constructor;unfold KQ.apply;cases hi:u.iss with|none=>rfl|some k=>simp only;rw[je,aG];rintro rfl;exact D2 (hw.iss _ hi)
  unfold KQ.apply;cases hi:u.box with|none=>rfl|some k=>simp only;rw[je,aG];intro he;exact h3 _ (hw.box k hi) (by rw[he];exact hd)
 have aia:∀s,Y.contains s=false->nth (u.apply st).boxes s=nth st.boxes s:=by intro s hs;unfold KQ.apply;cases hi:u.box with|none=>rfl|some k=>simp only;rw[je,aG];rintro rfl;have:=h2 k.1 (hw.box k hi);rw[this]at hs;cases hs
 have hlen:(u.apply st).slots.length=st.slots.length:=OS _ _;exact⟨⟨⟨hlen.symm,λt ht=>(gI t (by simp[ht])).symm,rfl,λd hd=>⟨((aaE d hd).1).symm,((aaE d hd).2).symm⟩,λs hs=>(aia s hs).symm,λt ht=>(gI t (by simp[Gf,ht])).symm⟩,λt ht=>(gI t (by simp[ht])).symm⟩,⟨⟨hlen,λt ht=>gI t (by simp[ht]),rfl,aaE,aia,λt ht=>gI t (by simp[Gf,ht])⟩,λt ht=>gI t (by simp[ht])⟩⟩
theorem WV {u v:KQ}{o p:Oper}(hu:u.Iy an o)(hv:v.Iy an p)(h:∀x∈writes an o,x∉writes an p)(hb:∀x∈GZ an o,x∉GZ an p):v.apply (u.apply st)=u.apply (v.apply st):=by
 have Sv:∀a b,o.dst=some a->p.dst=some b->a≠b:=λa b ha hb he=>h a (by simp[writes,ha]) (by simp[writes,hb,he]);have hs:=VC st.slots u.slots v.slots (λx hx y hy he=>h _ (hu.slots x hx) (by rw[he];exact hv.slots y hy));simp only[KQ.apply,AS.mk.injEq,true_and,gQ];refine⟨hs,?_,?_⟩;cases hub:u.box with|none=>cases v.box<;>rfl|some k=>cases hvb:v.box with|none=>rfl|some l=>exact iL _ (λhe=>hb _ (hu.box k hub) (by rw[he];exact hv.box l hvb)) _ _
 cases hui:u.iss with|none=>cases v.iss<;>rfl|some k=>cases hvi:v.iss with|none=>rfl|some l=>exact iL _ (Sv _ _ (hu.iss k hui) (hv.iss l hvi)) _ _
theorem YK (zr:∀f,(Γ f).io=false/\((Γ f).bx=true->(Γ f).cur=true)/\(Γ f).pr=false){o p:Oper}(ha:WT an ops X Y o p=true)(h1:cz E Γ an ops X o st=some s1)(h2:cz E Γ an ops Y p s1=some s2): ∃t1,cz E Γ an ops Y p st=some t1/\cz E Γ an ops X o t1=some s2:=by
 simp only[WT,ah,aQ,ba]at ha;obtain⟨⟨⟨⟨⟨⟨⟨mo,mp⟩,w1⟩,w2⟩,b1⟩,b2⟩,b3⟩,b4⟩:=ha;have w1:=lF w1;have w2:=lF w2;have b3:=lF b3;have b4:=lF b4;obtain⟨u,hu,rfl,hu2⟩:=Mm zr mo h1;obtain⟨v,hv,rfl,L4⟩:=Mm zr mp h2;have ag1:=KQ.agw (ops:=ops) (p:=p) (Y:=Y) (st:=st) hu w1 b1 (λd hd he=>b3 d hd (by simp[he]));have hww:∀x∈writes an p,x∉dq o++Gf an ops o++writes an o:=by intro x hx hm;rcases ay.1 hm with hm|hm;exact w2 x hx hm;exact w1 x hm (by simp[hx])
 have ag2:=KQ.agw (ops:=ops) (p:=o) (Y:=X) (st:=st) hv hww b2 (λd hd he=>b4 d hd (by simp[he]));refine⟨v.apply st,L4 st ag1.1,?_⟩;rw[hu2 _ ag2.2,WV hu hv (λx hx hm=>w1 x hx (by simp[hm])) (λx hx hm=>b3 x hx (by simp[hm]))]
theorem JD {v w:AV}(h:st.get t=v)(hv:v≠ .bot):(st.put (some t) w).get t=w:=by
 unfold AS.get at h;cases hn:nth st.slots t with
 |none=>rw[hn]at h;exact absurd h.symm hv
 |some q=>
  have hl:t<st.slots.length:=by rw[dv]at hn;exact(aD.1 hn).1
  unfold AS.get AS.put;simp only[dv,eN];rw[List.getElem?_set_self hl];rfl
theorem uk {w:AV}(h:d≠t):(st.put (some d) w).get t=st.get t:=by unfold AS.get AS.put;simp only[je,aG h]
theorem Dk {o:Oper}{i:Nat}(ho:o.op=.extract (.tmp t) i)(hd:o.dst=some d)(hg:o.guard=none):cz E Γ an ops X o st=some s↔ ∃vs g cs,st.get t=.uT vs/\nth vs i=some (g,cs)/\(cs.all AC.fT||an.mv.contains d)=true/\s=(st.put (some t) (.uT (gL vs i (g,aR 0 cs)))).put (some d) (.val g cs):=by
 unfold cz;simp only[dj,ho,hd];constructor;intro h;cases hv:st.get t with|val g cs=>simp only[hv,af,gh,hg,cO,ho,lf]at h;cases h|uT vs=>simp only[hv]at h;cases hn:nth vs i with|none=>simp only[hn,af,gh,hg,cO,ho,lf,hv]at h;cases h|some x=>obtain⟨g,cs⟩:=x;simp only[hn]at h;cases hf:(cs.all AC.fT||an.mv.contains d)with|false=>rw[hf]at h;cases h|true=>rw[hf]at h;simp only[af,gh,hg,cO,ho,lf,hv,hn,hd]at h;cases h;exact⟨vs,g,cs,rfl,hn,hf,rfl⟩
 rintro⟨vs,g,cs,hv,hn,hf,rfl⟩;simp only[hv,hn,hf,af,gh,hg,cO,ho,lf,hd]
theorem abR (l:aq α)(i:Nat)(v w:α):gL (gL l i v) i w=gL l i w:=by rw[eN,eN,eN,List.set_set]
theorem acY {o p:Oper}(ha:Xo o p=true)(h1:cz E Γ an ops X o st=some s1)(h2:cz E Γ an ops Y p s1=some s2): ∃t1,cz E Γ an ops Y p st=some t1/\cz E Γ an ops X o t1=some s2:=by
 unfold Xo at ha;split at ha;rename_i t i t' j d d' ho hp hd Xv hg ml;simp only[ah,bk,aQ,cM,ne_eq]at ha;obtain⟨⟨⟨⟨rfl,hij⟩,Sv⟩,hdt⟩,aid⟩:=ha;obtain⟨vs,g,cs,hv,hn,hf,rfl⟩:=(Dk ho hd hg).1 h1;obtain⟨vs2,g2,FY,L4,B6,D0,rfl⟩:=(Dk hp Xv ml).1 h2;have hq:((st.put (some t) (.uT (gL vs i (g,aR 0 cs)))).put (some d) (.val g cs)).get t=.uT (gL vs i (g,aR 0 cs)):=by rw[uk hdt,JD hv (by simp)]
 rw[hq]at L4;cases L4;rw[je,aG hij]at B6;refine⟨_,(Dk hp Xv ml).2 ⟨vs,g2,FY,hv,B6,D0,rfl⟩,(Dk ho hd hg).2 ⟨gL vs j (g2,aR 0 FY),g,cs,?_,?_,hf,?_⟩⟩;rw[uk aid,JD hv (by simp)];rw[je,aG (cC hij)];exact hn;have e:=iL vs hij (g,aR 0 cs) (g2,aR 0 FY);have a:∀(A B:AV)(q:Nat)(v:AV),q≠t->gL (gL (gL st.slots t A) q v) t B=gL (gL st.slots t B) q v:=λA B q v hq=>by rw[iL _ hq,abR]
 simp only[AS.put,AS.mk.injEq,gQ];rw[a _ _ _ _ hdt,a _ _ _ _ aid,e,iL _ Sv];cases ha
theorem ZS (s:AS)(t:Nat):s.put (some t) (s.get t)=s:=by cases s with|mk slots boxes ep iss io=>simp only[AS.put,AS.mk.injEq,gQ];rw[eN];apply cA;intro i;rw[bj];split;rename_i hd;subst hd;simp only[AS.get,dv];split;rename_i gM;rw[ax gM];rfl;rename_i Ad;rw[br (Nat.le_of_not_lt Ad)];rfl
theorem VP {o:Oper}(hd:o.dst=some d)(hg:o.guard=none)(ho:(o.op=.move (.tmp t)/\an.mv.contains d=false/\an.fm.contains d=true)\/∃i,o.op=.extract (.tmp t) i)(_hdt:d≠t)(h:cz E Γ an ops X o st=some s): ∃tv v,s=(st.put (some t) tv).put (some d) v/\∀st2:AS,st2.get t=st.get t->cz E Γ an ops X o st2=some ((st2.put (some t) tv).put (some d) v):=by
 rcases ho with⟨ho,Ft,MY⟩|⟨i,ho⟩;have JL:∀st2:AS,st2.get t=st.get t->(st.rd (.tmp t)).kB=true->st2.rd (.tmp t)=st.get t:=by
  intro st2 hq hs;simp only[AS.rd,hq]at hs⊢;cases hv:st.get t with
  |uT vs=>rw[hv]at hs;simp[AV.borrow,AV.kB]at hs
  |val g cs=>
   rw[hv]at hs;simp only[AV.borrow,AV.kB]at hs⊢;congr 1;have key:∀(cs:aq AC)(j:Nat),(ic st.ep (λj=>jR.slot t j) j cs).all AC.kB=true->ic st2.ep (λj=>jR.slot t j) j cs=cs:=by
    intro cs;induction cs with
    |nil=>intro j _;rfl
    |cons c cs ih=>
     intro j h;simp only[ic,bC,ah]at h⊢;rw[ih (j+1) h.2];congr 1;cases c with
     |sl fl e xs=>cases fl with|eS _ _ ep=>cases ep<;>simp[AC.borrow,AC.kB]at h|_=>simp[AC.borrow,AC.kB]at h
     |_=>rfl
   exact key cs 0 hs
 unfold cz at h;have lh:(st.rd (.tmp t)).kB=true:=by cases hs:(st.rd (.tmp t)).kB with|true=>rfl|false=>simp only[dj,ho,WB,hd,MY,hs]at h;cases h
 refine⟨st.get t,st.get t,?_,λst2 hq=>?_⟩;simp only[dj,ho,WB,hd,MY,lh,Bool.or_true,af,gh,hg,cO,DH,Ft,aW,bV]at h;cases h;rw[JL st rfl lh];congr 1;exact(ZS st t).symm;unfold cz;have e1:=JL st2 hq lh;have SH:(st2.rd (.tmp t)).kB=true:=by rw[e1,<-JL st rfl lh];exact lh
 simp only[dj,ho,WB,hd,MY,SH,Bool.or_true,af,gh,hg,cO,DH,Ft,aW,bV];rw[e1,<-hq,ZS];obtain⟨vs,g,cs,hv,hn,hf,rfl⟩:=(Dk ho hd hg).1 h;refine⟨_,_,rfl,λst2 hq=>(Dk ho hd hg).2 ⟨vs,g,cs,by rw[hq,hv],hn,hf,rfl⟩⟩
theorem afp {p:Oper}{q x:Nat}(hp:p.op=.store T (.tmp q) (.tmp x))(hd:p.dst=none)(hg:p.guard=none)(Sw:(an.eb q).isSome=true)(hes:(an.es q).isNone=true)(hsb:(an.sb q).isNone=true)(hl:Bx an p=false)(h:cz E Γ an ops Y p st=some s): ∃B,s=⟨gL st.slots x ((st.get x).aR st.ep),B,st.ep+1,st.iss,st.io⟩/\ ∀st2:AS,st2.get q=st.get q->st2.get x=st.get x->st2.boxes=st.boxes->st2.ep=st.ep->st2.iss=st.iss->st2.io=st.io-> cz E Γ an ops Y p st2=some ⟨gL st2.slots x ((st.get x).aR st.ep),B,st.ep+1,st.iss,st.io⟩:=by
 have fR:∀st2:AS,st2.get q=st.get q->st2.ep=st.ep->dj E an Y p st2=dj E an Y p st:=by intro st2 h1 h2;simp only[dj,hp,AS.rd,h1,h2]
 unfold cz at h;cases hf:dj E an Y p st with
 |false=>rw[hf]at h;cases h
 |true=>
  rw[hf]at h;simp only[af,gh,hg,cO,hp,hd,hl,aW,bV]at h;have gu:=hf;simp only[dj,hp]at gu;have IQ:((an.sb q).isNone&&(an.eb q).isNone&&(an.es q).isNone)=false:=by cases he:an.eb q with|none=>rw[he]at Sw;cases Sw|some _=>simp
  rw[IQ,cR]at gu;unfold xy at h;split at h;rename_i JL;rw[JL]at gu;simp only[ah,bk]at gu;rw[gu.2]at hsb;cases hsb;rename_i sh NJ r tg e y i off hT JL;rw[JL]at gu;cases r with
  |slot _ _=>simp only[ah,bk]at gu;rw[gu.1.1]at hes;cases hes
  |io _=>simp at gu
  |box b j=>
   split at h;rename_i gg vs st1 sI;have e1:(st.get x)=.val gg vs:=by have:=congrArg Prod.fst sI;exact this
   have e2:st1=⟨gL st.slots x ((st.get x).aR st.ep),st.boxes,st.ep,st.iss,st.io⟩:=by have:=congrArg Prod.snd sI;exact this.symm
   split at h;rename_i hlen;have main:∃B,∀sl:aq AV,(⟨sl,st.boxes,st.ep,st.iss,st.io⟩:AS).oG (.box b j) tg e i off vs some=some ⟨sl,B,st.ep+1,st.iss,st.io⟩:=by
    subst e2;simp only[AS.oG,AS.eF,AS.eM,AS.eh]at h⊢;cases hb:(nth st.boxes b).getD none with
    |none=>rw[hb]at h;simp at h
    |some cs=>
     rw[hb]at h;simp only[dZ]at h⊢;split at h;rename_i t' e' xs hn;split at h;rename_i he;simp only[dif_pos he];generalize (he▸xs:aq e.D)=zs at h⊢;split at h;rename_i ht;simp only[aH ht];cases hi:idx zs i with|none=>rw[hi]at h;simp[aa]at h|some y0=>simp only[hi,aa]at h⊢;split at h;exact⟨_,λsl=>rfl⟩;cases h
     cases h;cases h;rename_i t' i' q0 e' xs hn;split at h;rename_i he;simp only[dif_pos he];generalize (he▸xs:aq e.D)=zs at h⊢;split at h;rename_i ht;simp only[aH ht];cases hi:aaK zs i' i with|none=>rw[hi]at h;simp[aa]at h|some y0=>simp only[hi,aa]at h⊢;split at h;exact⟨_,λsl=>rfl⟩;cases h
     cases h;cases h;cases h
   obtain⟨B,hB⟩:=main;refine⟨B,?_,λst2 h1 h2 h3 h4 h5 h6=>?_⟩;subst e2;rw[hB]at h;exact(di h).symm;unfold cz;rw[fR st2 h1 h4,hf];have r2:st2.rd (.tmp q)=st.rd (.tmp q):=by simp only[AS.rd,h1,h4]
   have t2:st2.take (.tmp x)=(.val gg vs,⟨gL st2.slots x ((st.get x).aR st.ep),st.boxes,st.ep,st.iss,st.io⟩):=by simp only[AS.take,AS.put,h2,h3,h4,h5,h6,e1]
   simp only[af,gh,hg,cO,hp,hd,hl,aW,bV,xy,hT,r2,JL,t2];rw[aH hlen];exact hB _;cases h;cases h
  cases h
theorem acG {p:Oper}{q x:Nat}(hp:p.op=.store T (.tmp q) (.tmp x))(hd:p.dst=none)(hg:p.guard=none){b:Nat}(hes:an.es q=some b)(Sw:(an.eb q).isNone=true)(ji:b≠x)(hsb:(an.sb q).isNone=true)(hl:Bx an p=false)(h:cz E Γ an ops Y p st=some s): ∃B,s=⟨gL (gL st.slots x ((st.get x).aR st.ep)) b B,st.boxes,st.ep+1,st.iss,st.io⟩/\ ∀st2:AS,st2.get q=st.get q->st2.get x=st.get x->nth st2.slots b=nth st.slots b->st2.boxes=st.boxes->st2.ep=st.ep->st2.iss=st.iss->st2.io=st.io-> cz E Γ an ops Y p st2=some ⟨gL (gL st2.slots x ((st.get x).aR st.ep)) b B,st.boxes,st.ep+1,st.iss,st.io⟩:=by
 have fR:∀st2:AS,st2.get q=st.get q->st2.ep=st.ep->dj E an Y p st2=dj E an Y p st:=by intro st2 h1 h2;simp only[dj,hp,AS.rd,h1,h2]
 unfold cz at h;cases hf:dj E an Y p st with
 |false=>rw[hf]at h;cases h
 |true=>
  rw[hf]at h;simp only[af,gh,hg,cO,hp,hd,hl,aW,bV]at h;have gu:=hf;simp only[dj,hp]at gu;have IQ:((an.sb q).isNone&&(an.eb q).isNone&&(an.es q).isNone)=false:=by rw[hes];simp
  rw[IQ,cR]at gu;unfold xy at h;split at h;rename_i JL;rw[JL]at gu;simp only[ah,bk]at gu;rw[gu.2]at hsb;cases hsb;rename_i sh NJ r tg e y i off hT JL;rw[JL]at gu;cases r with
  |box _ _=>simp only[ah,bk]at gu;rw[gu.1.1]at Sw;cases Sw
  |io _=>simp at gu
  |slot b' j=>
   simp only[ah,bk]at gu;have Xt:b'=b:=di (gu.1.1.symm.trans hes);subst Xt;split at h;rename_i gg vs st1 sI;have e1:(st.get x)=.val gg vs:=by have:=congrArg Prod.fst sI;exact this
   have e2:st1=⟨gL st.slots x ((st.get x).aR st.ep),st.boxes,st.ep,st.iss,st.io⟩:=by have:=congrArg Prod.snd sI;exact this.symm
   split at h;rename_i hlen;have main:∃B,∀sl:aq AV,nth sl b'=nth st.slots b'->(⟨sl,st.boxes,st.ep,st.iss,st.io⟩:AS).oG (.slot b' j) tg e i off vs some=some ⟨gL sl b' B,st.boxes,st.ep+1,st.iss,st.io⟩:=by
    subst e2;have gI:∀sl:aq AV,nth sl b'=nth st.slots b'->(⟨sl,st.boxes,st.ep,st.iss,st.io⟩:AS).get b'=st.get b':=λsl hq=>by unfold AS.get;rw[hq]
    have hq0:nth (gL st.slots x ((st.get x).aR st.ep)) b'=nth st.slots b':=by rw[je,aG (cC ji)]
    simp only[AS.oG,AS.eF,AS.eM,gI _ hq0]at h;cases hb:st.get b' with
    |uT _=>rw[hb]at h;simp at h
    |val g0 cs=>
     rw[hb]at h;simp only at h;split at h;rename_i t' e' xs hn;split at h;rename_i he;split at h;rename_i ht;cases hi:idx (he▸xs:aq e.D) i with|none=>rw[hi]at h;simp[aa]at h|some y0=>simp only[hi,aa]at h;split at h;rename_i x' zU;refine⟨.val g0 (gL cs j (.sl (.own (some t')) e ((he▸xs:aq e.D).set i.toNat x'))),λsl hq=>?_⟩;simp only[AS.oG,AS.eF,AS.eM,gI _ hq,hb,hn,dif_pos he,aH ht,hi,aa,zU,AS.put];cases h
     cases h;cases h;rename_i t' i' q0 e' xs hn;split at h;rename_i he;split at h;rename_i ht;cases hi:aaK (he▸xs:aq e.D) i' i with|none=>rw[hi]at h;simp[aa]at h|some y0=>simp only[hi,aa]at h;split at h;rename_i x' zU;refine⟨.val g0 (gL cs j (.sl (.own (some t')) e ((he▸xs:aq e.D).set i.toNat x'))),λsl hq=>?_⟩;simp only[AS.oG,AS.eF,AS.eM,gI _ hq,hb,hn,dif_pos he,aH ht,hi,aa,zU,AS.put];cases h
     cases h;cases h;cases h
   obtain⟨B,hB⟩:=main;refine⟨B,?_,λst2 h1 h2 sr h3 h4 h5 h6=>?_⟩;subst e2;rw[hB _ (by rw[je,aG (cC ji)])]at h;exact(di h).symm;unfold cz;rw[fR st2 h1 h4,hf];have r2:st2.rd (.tmp q)=st.rd (.tmp q):=by simp only[AS.rd,h1,h4]
   have t2:st2.take (.tmp x)=(.val gg vs,⟨gL st2.slots x ((st.get x).aR st.ep),st.boxes,st.ep,st.iss,st.io⟩):=by simp only[AS.take,AS.put,h2,h3,h4,h5,h6,e1]
   simp only[af,gh,hg,cO,hp,hd,hl,aW,bV,xy,hT,r2,JL,t2];rw[aH hlen];exact hB _ (by rw[je,aG (cC ji)];exact sr);cases h;cases h
  cases h
theorem afo {o p:Oper}(ha:Xd an o p=true)(h1:cz E Γ an ops X o st=some s1)(h2:cz E Γ an ops Y p s1=some s2): ∃t1,cz E Γ an ops Y p st=some t1/\cz E Γ an ops X o t1=some s2:=by
 unfold Xd at ha;split at ha;rename_i T q x hp hpd hpg;simp only[ah,aQ]at ha;obtain⟨⟨⟨Sw,hsb⟩,hl⟩,ha⟩:=ha;have aib:∃d t,o.dst=some d/\o.guard=none/\((o.op=.move (.tmp t)/\an.mv.contains d=false/\an.fm.contains d=true)\/∃i,o.op=.extract (.tmp t) i)/\d≠q/\d≠x/\t≠x/\d≠t/\t≠q:=by split at ha;rename_i t d ho hd hg;simp only[ah,aQ,cM]at ha;exact⟨d,t,hd,hg,.inl ⟨ho,ha.1.1.1.1.1.1,ha.1.1.1.1.1.2⟩,ha.1.1.1.1.2,ha.1.1.1.2,ha.1.1.2,ha.2,ha.1.2⟩;rename_i t i d ho hd hg;simp only[ah,aQ,cM]at ha;exact⟨d,t,hd,hg,.inr ⟨i,ho⟩,ha.1.1.1.1,ha.1.1.1.2,ha.1.1.2,ha.2,ha.1.2⟩;cases ha
 obtain⟨d,t,hd,hg,ho,hdq,hdx,htx,hdt,htq⟩:=aib;obtain⟨tv,v,rfl,dD⟩:=VP hd hg ho hdt h1;have hq:((st.put (some t) tv).put (some d) v).get q=st.get q:=by rw[uk hdq];exact uk htq
 have hx:((st.put (some t) tv).put (some d) v).get x=st.get x:=by rw[uk hdx,uk htx]
 simp only[da,ah]at Sw;rcases Sw with⟨Sw,hes⟩|hes;obtain⟨B,rfl,Zr⟩:=afp hp hpd hpg Sw hes hsb hl h2;have k1:=Zr st hq.symm hx.symm rfl rfl rfl rfl;refine⟨_,k1,?_⟩;have IP:(⟨gL st.slots x ((((st.put (some t) tv).put (some d) v).get x).aR ((st.put (some t) tv).put (some d) v).ep),B,((st.put (some t) tv).put (some d) v).ep+1,((st.put (some t) tv).put (some d) v).iss,((st.put (some t) tv).put (some d) v).io⟩:AS).get t=st.get t:=by simp only[AS.get,je,aG (cC htx)]
 rw[dD _ IP];simp only[AS.put,aZ,AS.mk.injEq,gQ];rw[iL _ (cC htx),iL _ (cC hdx)];cases hb:an.es q with
 |none=>rw[hb]at hes;cases hes
 |some b=>
  rw[hb]at hes;simp only[ah,aQ,cM]at hes;obtain⟨⟨⟨Sw,ji⟩,_⟩,hbw⟩:=hes;have hbw:=lF hbw b (by simp);have hbd:b≠d:=λe=>hbw (by simp[hd,e]);have hbt:b≠t:=λe=>hbw (by refine ay.2 (.inr ?_);rcases ho with⟨ho,_⟩|⟨i,ho⟩<;>simp[dq,ho,tm,e]);obtain⟨B,rfl,Zr⟩:=acG hp hpd hpg hb Sw ji hsb hl h2;have sr:nth st.slots b=nth ((st.put (some t) tv).put (some d) v).slots b:=by simp only[AS.put,je,aG (cC hbd),aG (cC hbt)]
  have k1:=Zr st hq.symm hx.symm sr rfl rfl rfl rfl;refine⟨_,k1,?_⟩;have IP:(⟨gL (gL st.slots x ((((st.put (some t) tv).put (some d) v).get x).aR ((st.put (some t) tv).put (some d) v).ep)) b B,((st.put (some t) tv).put (some d) v).boxes,((st.put (some t) tv).put (some d) v).ep+1,((st.put (some t) tv).put (some d) v).iss,((st.put (some t) tv).put (some d) v).io⟩:AS).get t=st.get t:=by simp only[AS.get,je,aG (cC htx),aG hbt]
  rw[dD _ IP];simp only[AS.put,aZ,AS.mk.injEq,gQ];rw[iL _ hbt,iL _ hbd,iL _ (cC htx),iL _ (cC hdx)]
 cases ha
theorem Tu {c:AC}(h:c.kB=true\/(c.borrow ep none).kB=true):c.borrow ep none=c:=by
 cases c with
 |sl fl e xs=>exfalso;cases fl with|eS _ _ ep=>cases ep<;>simp[AC.borrow,AC.kB]at h|_=>simp[AC.borrow,AC.kB]at h
 |_=>rfl
theorem Pd {cs:aq AC}{n:Nat}(gv:off+n<=cs.length)(k:Nat):(cY cs off (aR ep ((cs.drop off).take n)))[k]?=(cs[k]?).map λc=>if off<=k/\k<off+n then c.borrow ep none else c:=by
 have hl:(aR ep ((cs.drop off).take n)).length=n:=by simp[aR];omega
 unfold cY;rw[hl];by_cases h1:k<off;rw[aO,bu (by simp;omega),ed h1];have:(λc:AC=>if off<=k/\k<off+n then c.borrow ep none else c)=id:=by funext c;rw[mL];rfl
 rw[this,Option.map_id];rfl;by_cases h2:k<off+n;rw[bu (by simp[hl];omega),bq (by simp;omega)];have e:k-(cs.take off).length=k-off:=by simp;omega
 rw[e,aR,List.getElem?_map,ed (by omega),bB,show off+(k-off)=k by omega];congr 1;funext c;rw[zip];rw[bq (by simp[hl];omega)];have e:k-(cs.take off++aR ep ((cs.drop off).take n)).length=k-(off+n):=by simp[hl];omega
 rw[e,bB,show off+n+(k-(off+n))=k by omega];have:(λc:AC=>if off<=k/\k<off+n then c.borrow ep none else c)=id:=by funext c;rw[mL];rfl
 rw[this,Option.map_id];rfl
theorem KD {cs:aq AC}{n o2 n2:Nat}(gv:off+n<=cs.length)(h:((cs.drop o2).take n2).all AC.kB=true\/(((cY cs off (aR ep ((cs.drop off).take n))).drop o2).take n2).all AC.kB=true): ((cY cs off (aR ep ((cs.drop off).take n))).drop o2).take n2=(cs.drop o2).take n2:=by
 apply cA;intro k;by_cases hk:k<n2;rw[ed hk,ed hk,bB,bB,Pd gv];cases hc:cs[o2+k]? with|none=>rfl|some c=>simp only[db];split;rename_i uQ;refine congrArg some (Tu ?_);rcases h with h|h;left;refine ba.1 h c (dw (i:=k) ?_);rw[ed hk,bB,hc];right;refine ba.1 h _ (dw (i:=k) ?_);rw[ed hk,bB,Pd gv,hc,db,aH uQ];rfl
 rw[br (by simp;omega),br (by simp;omega)]
theorem LI {b:Nat}:∀{cs:aq AC}{j:Nat},cs.all AC.kB=true->ic ep (.box b) j cs=cs
 |[],_,_=>rfl
 |c::cs,j,h=>by simp only[bC,ah]at h;rw[ic,LI h.2];congr 1;cases c<;>first|rfl|(simp[AC.kB]at h)
theorem Pp {o:Oper}(h:C5 an o=true):∃T q d,o.op=.load T (.tmp q)/\o.dst=some d/\o.guard=none/\an.mv.contains d=true/\(an.mb d).isSome=true:=by unfold C5 at h;split at h;rename_i T q d ho hd hg;simp only[ah]at h;exact⟨T,q,d,ho,hd,hg,h.1,h.2⟩;cases h
theorem NT {o:Oper}(h:NS an o=true):∃T q d,o.op=.load T (.tmp q)/\o.dst=some d/\o.guard=none/\an.mv.contains d=false/\an.fm.contains d=true:=by unfold NS at h;split at h;rename_i T q d ho hd hg;simp only[ah,aQ]at h;exact⟨T,q,d,ho,hd,hg,h.1,h.2⟩;cases h
theorem HI {o:Oper}{q:Nat}(ht:C5 an o=true)(ho:o.op=.load T (.tmp q))(hd:o.dst=some d)(hg:o.guard=none)(Ft:an.mv.contains d=true):cz E Γ an ops X o st=some s↔ ∃sh b off cs,iC E.ty T=some sh/\st.rd (.tmp q)=.val false [.ptr b off]/\(nth st.boxes b).getD none=some cs/\off+sh.ct.size<=cs.length/\X.contains b=false/\an.mb d=some b/\(WB an o=true->Gd E T st b off=true)/\ s=(st.eh b (some (cY cs off (aR st.ep ((cs.drop off).take sh.ct.size))))).put (some d) (.val sh.agg ((cs.drop off).take sh.ct.size)):=by
 have key:dj E an X o st=true->∀r,cO E Γ an o st some=some r->∃b off,st.rd (.tmp q)=.val false [.ptr b off]:=by intro hf r hr;simp only[cO,ho,oz]at hr;split at hr;rename_i hp;exact⟨_,_,hp⟩;rename_i hp;simp only[dj,ho,hp,ht,Bool.or_true,aj,jk,fM]at hf;cases hf;cases hr
 unfold cz;constructor;intro h;cases hf:dj E an X o st with|false=>rw[hf]at h;cases h|true=>rw[hf]at h;simp only[af,gh,hg]at h;obtain⟨b,off,hp⟩:=key hf s h;simp only[dj,ho,hp,hd,Ft,aj,cR,ah,aQ,bk,da]at hf;simp only[cO,ho,oz,hp]at h;cases hT:iC E.ty T with|none=>rw[hT]at h;cases h|some sh=>rw[hT]at h;simp only at h;cases hb:(nth st.boxes b).getD none with|none=>rw[hb]at h;cases h|some cs=>rw[hb]at h;simp only at h;split at h;rename_i gv;simp only[hd,Ft,bF]at h;cases h;refine⟨sh,b,off,cs,rfl,hp,hb,gv,hf.1.1,hf.1.2,λhm=>?_,rfl⟩;rcases hf.2 with g|g;rw[hm]at g;cases g;exact g;cases h
 rintro⟨sh,b,off,cs,hT,hp,hb,gv,hX,KR,MY,rfl⟩;have hf:dj E an X o st=true:=by simp only[dj,ho,hp,hd,Ft,hX,KR,aj,cR,ah,aQ,bk,da];refine⟨⟨bX,bX⟩,?_⟩;cases hm:WB an o with|false=>exact .inl rfl|true=>exact .inr (MY hm)
 rw[hf];simp only[af,gh,hg,cO,ho,oz,hp,hT,hb,aH gv,hd,Ft,bF]
theorem He {o:Oper}{q:Nat}(ho:o.op=.load T (.tmp q))(hd:o.dst=some d)(hg:o.guard=none)(Ft:an.mv.contains d=false)(MY:an.fm.contains d=true):cz E Γ an ops X o st=some s↔ ∃sh b off cs,iC E.ty T=some sh/\st.rd (.tmp q)=.val false [.ptr b off]/\(nth st.boxes b).getD none=some cs/\off+sh.ct.size<=cs.length/\X.contains b=false/\((cs.drop off).take sh.ct.size).all AC.kB=true/\ s=st.put (some d) (.val sh.agg ((cs.drop off).take sh.ct.size)):=by
 have hfb:WB an o=true:=by simp only[WB,hd,MY]
 have key:dj E an X o st=true->∀r,cO E Γ an o st some=some r->∃b off,st.rd (.tmp q)=.val false [.ptr b off]:=by intro hf r hr;simp only[cO,ho,oz]at hr;split at hr;rename_i hp;exact⟨_,_,hp⟩;rename_i hp;simp only[dj,ho,hp,hfb,Bool.true_or,aj,jk,fM]at hf;cases hf;cases hr
 unfold cz;constructor;intro h;cases hf:dj E an X o st with
 |false=>rw[hf]at h;cases h
 |true=>
  rw[hf]at h;simp only[af,gh,hg]at h;obtain⟨b,off,hp⟩:=key hf s h;simp only[dj,ho,hp,hd,Ft,hfb,aj,cL,Bool.true_or,cR,gP,ah,aQ]at hf;simp only[cO,ho,oz,hp]at h;cases hT:iC E.ty T with
  |none=>rw[hT]at h;cases h
  |some sh=>
   rw[hT]at h;simp only at h;cases hb:(nth st.boxes b).getD none with
   |none=>rw[hb]at h;cases h
   |some cs=>
    rw[hb]at h;simp only at h;split at h;rename_i gv;have lh:((cs.drop off).take sh.ct.size).all AC.kB=true:=by have:=hf.2;unfold Gd at this;rw[hT,hb]at this;exact this
    simp only[hd,Ft,aW,bV,LI lh]at h;cases h;exact⟨sh,b,off,cs,rfl,hp,hb,gv,hf.1,lh,rfl⟩;cases h
 rintro⟨sh,b,off,cs,hT,hp,hb,gv,hX,lh,rfl⟩;have hf:dj E an X o st=true:=by simp only[dj,ho,hp,hd,Ft,hX,hfb,Gd,hT,hb,lh];rfl
 rw[hf];simp only[af,gh,hg,cO,ho,oz,hp,hT,hb,aH gv,hd,Ft,aW,bV,LI lh]
theorem Rp {q:Nat}{v:AV}(h:d≠q):(st.put (some d) v).rd (.tmp q)=st.rd (.tmp q):=by simp only[AS.rd,uk h];rfl
theorem aet {q b:Nat}{cs:ar (aq AC)}:(st.eh b cs).rd (.tmp q)=st.rd (.tmp q):=rfl
theorem W1 {b:Nat}{cs x:aq AC}(h:(nth st.boxes b).getD none=some cs):(nth (gL st.boxes b (some x)) b).getD none=some x:=by
 rw[je,aH rfl];cases hn:nth st.boxes b with
 |none=>rw[hn]at h;cases h
 |some _=>
  have:b<st.boxes.length:=by rw[dv]at hn;exact(aD.1 hn).1
  rw[aH this];rfl
theorem W2 {b b2:Nat}{x:aq AC}(h:b≠b2):nth (gL st.boxes b (some x)) b2=nth st.boxes b2:=by rw[je,aG h]
theorem afU {o p:Oper}(ha:X3 an o p=true)(h1:cz E Γ an ops X o st=some s1)(h2:cz E Γ an ops Y p s1=some s2): ∃t1,cz E Γ an ops Y p st=some t1/\cz E Γ an ops X o t1=some s2:=by
 simp only[X3,ah,da,aQ]at ha;obtain⟨⟨ha,m1⟩,m2⟩:=ha;have m1:=lF m1;have m2:=lF m2;rcases ha with⟨ht,hf⟩|⟨hf,ht⟩;obtain⟨T,q,d,ho,hd,hg,Ft,KR⟩:=Pp ht;obtain⟨T2,q2,d2,hp,WD,IP,UM,aaG⟩:=NT hf;have n1:d≠d2:=λe=>m1 d (by simp[hd]) (by simp[WD,e]);have n2:d≠q2:=λe=>m1 d (by simp[hd]) (by simp[dq,hp,tm,e]);have n3:d2≠q:=λe=>m2 d2 (by simp[WD]) (by simp[dq,ho,tm,e]);obtain⟨sh,b,off,cs,hT,hr,hb,gv,hX,ahm,MY,rfl⟩:=(HI ht ho hd hg Ft).1 h1;obtain⟨sh2,b2,Qf,FY,hT2,P0,Gg,Zq,hX2,SH,rfl⟩:=(He hp WD IP UM aaG).1 h2;rw[Rp n2,aet]at P0;have ji:(nth (gL st.boxes b (some (cY cs off (aR st.ep ((cs.drop off).take sh.ct.size))))) b2).getD none=some FY:=Gg;have kJ:∃PH,(nth st.boxes b2).getD none=some PH/\Qf+sh2.ct.size<=PH.length/\(FY.drop Qf).take sh2.ct.size=(PH.drop Qf).take sh2.ct.size:=by
  by_cases Xt:b=b2;subst Xt;rw[W1 hb]at ji;cases ji;have hlen:(cY cs off (aR st.ep ((cs.drop off).take sh.ct.size))).length=cs.length:=by simp only[cY,aR,au,cn,bm,bl];omega
  exact⟨cs,hb,by omega,KD gv (.inr SH)⟩;rw[W2 Xt]at ji;exact⟨FY,ji,Zq,rfl⟩
 obtain⟨PH,TM,UI,he⟩:=kJ;rw[he]at SH⊢;refine⟨_,(He hp WD IP UM aaG).2 ⟨sh2,b2,Qf,PH,hT2,P0,TM,UI,hX2,SH,rfl⟩,(HI ht ho hd hg Ft).2 ⟨sh,b,off,cs,hT,by rw[Rp n3];exact hr,hb,gv,hX,ahm,λhm=>?_,?_⟩⟩;have:=MY hm;unfold Gd at this⊢;exact this;simp only[AS.put,AS.eh,AS.mk.injEq,gQ];exact iL _ n1 _ _;obtain⟨T,q,d,ho,hd,hg,Ft,MY⟩:=NT hf;obtain⟨T2,q2,d2,hp,WD,IP,UM,ahl⟩:=Pp ht;have n1:d≠d2:=λe=>m1 d (by simp[hd]) (by simp[WD,e]);have n2:d≠q2:=λe=>m1 d (by simp[hd]) (by simp[dq,hp,tm,e]);have n3:d2≠q:=λe=>m2 d2 (by simp[WD]) (by simp[dq,ho,tm,e]);obtain⟨sh,b,off,cs,hT,hr,hb,gv,hX,lh,rfl⟩:=(He ho hd hg Ft MY).1 h1;obtain⟨sh2,b2,Qf,FY,hT2,P0,Gg,Zq,hX2,ahm,aaG,rfl⟩:=(HI ht hp WD IP UM).1 h2;rw[Rp n2]at P0;refine⟨_,(HI ht hp WD IP UM).2 ⟨sh2,b2,Qf,FY,hT2,P0,Gg,Zq,hX2,ahm,λhm=>aaG hm,rfl⟩,?_⟩;have kJ:∃PH,(nth (gL st.boxes b2 (some (cY FY Qf (aR st.ep ((FY.drop Qf).take sh2.ct.size))))) b).getD none=some PH/\off+sh.ct.size<=PH.length/\(PH.drop off).take sh.ct.size=(cs.drop off).take sh.ct.size:=by
  by_cases Xt:b2=b;subst Xt;have K7:FY=cs:=di (Gg.symm.trans hb);subst K7;have hlen:(cY FY Qf (aR st.ep ((FY.drop Qf).take sh2.ct.size))).length=FY.length:=by simp only[cY,aR,au,cn,bm,bl];omega
  exact⟨_,W1 hb,by omega,KD Zq (.inl lh)⟩;exact⟨cs,by rw[W2 Xt];exact hb,gv,rfl⟩
 obtain⟨PH,TM,UI,he⟩:=kJ;refine(He ho hd hg Ft MY).2 ⟨sh,b,off,PH,hT,by rw[Rp n3,aet];exact hr,TM,UI,hX,by rw[he];exact lh,?_⟩;rw[he];simp only[AS.put,AS.eh,AS.mk.injEq,gQ];exact iL _ n1 _ _
theorem Po {o:Oper}{q:Nat}(ht:GV an o=true)(ho:o.op=.load T (.tmp q))(hd:o.dst=some d)(hg:o.guard=none)(Ft:an.mv.contains d=true)(KR:an.mb d=none):cz E Γ an ops X o st=some s↔ ∃(g:Bool)(e:CT)(jC:aq (Nat×Nat))(b j t NJ:Nat)(x:e.D)(i:Int)(cs:aq AC)(ys:aq e.D)(y:e.D),iC E.ty T=some ⟨g,e,jC⟩/\st.rd (.tmp q)=.val false [.Cg (.loc NJ (some (.box b j,t))) e x i 0]/\(nth st.boxes b).getD none=some cs/\nth cs j=some (.sl (.own (some t)) e ys)/\idx ys i=some y/\ X.contains b=false/\an.eb q=some b/\WB an o=false/\s=(KK st b j t e i cs ys).put (some d) (.val g (cellsOf e (.own none) y)):=by rw[<-Pn ht ho hd Ft KR];unfold cz;cases dj E an X o st with|false=>simp|true=>simp only[af,gh,hg,cO,ho,true_and]
theorem abI {o:Oper}(h:CH an o=true):∃T q d,o.op=.load T (.tmp q)/\o.dst=some d/\o.guard=none/\an.mv.contains d=false/\WB an o=false:=by unfold CH at h;split at h;rename_i T q d ho hd hg;simp only[ah,aQ]at h;exact⟨T,q,d,ho,hd,hg,h.1.1,by simp only[WB,hd];exact h.1.2⟩;cases h
theorem OQ {o:Oper}{q:Nat}(Hk:CH an o=true)(ho:o.op=.load T (.tmp q))(hd:o.dst=some d)(hg:o.guard=none)(Ft:an.mv.contains d=false)(MY:WB an o=false):cz E Γ an ops X o st=some s↔ ∃sh b off cs,iC E.ty T=some sh/\st.rd (.tmp q)=.val false [.ptr b off]/\(nth st.boxes b).getD none=some cs/\off+sh.ct.size<=cs.length/\X.contains b=false/\ s=st.put (some d) (.val sh.agg (ic st.ep (.box b) off ((cs.drop off).take sh.ct.size))):=by
 unfold cz;constructor;intro h;cases hf:dj E an X o st with|false=>rw[hf]at h;cases h|true=>rw[hf]at h;simp only[af,gh,hg,cO,ho]at h;unfold oz at h;split at h;rename_i sh b off hT hp;simp only[dj,ho,hp,hd,Ft,MY,cL,Bool.true_or,gP,aQ]at hf;split at h;rename_i cs hb;split at h;rename_i gv;simp only[hd,Ft,aW,bV]at h;cases h;exact⟨sh,b,off,cs,hT,hp,hb,gv,hf,rfl⟩;cases h;cases h;rename_i hp;simp only[dj,ho,hp,Hk,aj,jk,fM]at hf;cases hf;cases h
 rintro⟨sh,b,off,cs,hT,hp,hb,gv,hX,rfl⟩;have hf:dj E an X o st=true:=by simp only[dj,ho,hp,hd,Ft,hX,MY];rfl
 rw[hf];simp only[af,gh,hg,cO,ho,oz,hp,hT,hb,aH gv,hd,Ft,aW,bV]
theorem Nr {b:Nat}:∀(cs:aq AC)(p k:Nat)(c':AC),(∀c,cs[k]?=some c->∀r,c'.borrow ep (some r)=c.borrow ep (some r))->ic ep (.box b) p (cs.set k c')=ic ep (.box b) p cs
 |[],_,_,_,_=>rfl
 |c::cs,p,0,c',h=>by simp only[List.set_cons_zero,ic,h c rfl]
 |c::cs,p,k+1,c',h=>by simp only[List.set_cons_succ,ic];rw[Nr cs (p+1) k c' (λc hc=>h c (by simpa using hc))]
theorem T1 {b j n:Nat}{e:CT}{i:Int}{ys:aq e.D}{cs:aq AC}(hj:nth cs j=some (.sl (.own (some t)) e ys)): ic ep (.box b) off (((gL cs j (.sl (.eS (some t) i (some ep)) e ys)).drop off).take n)=ic ep (.box b) off ((cs.drop off).take n):=by rw[eN,List.drop_set];split;rfl;rename_i gM;rw[List.take_set];refine Nr _ _ _ _ λc hc r=>?_;by_cases hn:j-off<n;rw[ed hn,bB,show off+(j-off)=j by omega,<-dv,hj]at hc;cases hc;rfl;rw[br (by simp;omega)]at hc;cases hc
theorem afj {o p:Oper}(ha:W4 an o p=true)(h1:cz E Γ an ops X o st=some s1)(h2:cz E Γ an ops Y p s1=some s2): ∃t1,cz E Γ an ops Y p st=some t1/\cz E Γ an ops X o t1=some s2:=by
 simp only[W4,ah,aQ]at ha;obtain⟨⟨⟨Hk,ht⟩,m1⟩,m2⟩:=ha;have m1:=lF m1;have m2:=lF m2;obtain⟨T,q,d,ho,hd,hg,Ft,MY⟩:=abI Hk;obtain⟨T2,q2,d2,hp,WD,IP,UM,ahl⟩:=RS ht;have n1:d≠d2:=λe=>m1 d (by simp[hd]) (by simp[WD,e]);have n2:d≠q2:=λe=>m1 d (by simp[hd]) (by simp[dq,hp,tm,e]);have n3:d2≠q:=λe=>m2 d2 (by simp[WD]) (by simp[dq,ho,tm,e]);obtain⟨sh,b,off,cs,hT,hr,hb,gv,hX,rfl⟩:=(OQ Hk ho hd hg Ft MY).1 h1;obtain⟨g,e,jC,b2,j,t,NJ,x,i,FY,ys,y,hT2,P0,Gg,hj,hi,hX2,Sw,aaG,rfl⟩:=(Po ht hp WD IP UM ahl).1 h2;rw[Rp n2]at P0;have ah8:(nth st.boxes b2).getD none=some FY:=Gg;refine⟨_,(Po ht hp WD IP UM ahl).2 ⟨g,e,jC,b2,j,t,NJ,x,i,FY,ys,y,hT2,P0,ah8,hj,hi,hX2,Sw,aaG,rfl⟩,?_⟩;have kJ:∃PH,(nth (gL st.boxes b2 (some (gL FY j (.sl (.eS (some t) i (some st.ep)) e ys)))) b).getD none=some PH/\off+sh.ct.size<=PH.length/\ic st.ep (.box b) off ((PH.drop off).take sh.ct.size)=ic st.ep (.box b) off ((cs.drop off).take sh.ct.size):=by by_cases Xt:b2=b;subst Xt;have K7:FY=cs:=di (ah8.symm.trans hb);subst K7;exact⟨_,W1 hb,by rw[eN,bg];exact gv,T1 hj⟩;exact⟨cs,by rw[W2 Xt];exact hb,gv,rfl⟩
 obtain⟨PH,TM,UI,he⟩:=kJ;refine(OQ Hk ho hd hg Ft MY).2 ⟨sh,b,off,PH,hT,by rw[Rp n3];exact hr,TM,UI,hX,?_⟩;show _=((KK st b2 j t e i FY ys).put (some d2) _).put (some d) (.val sh.agg (ic st.ep (.box b) off ((PH.drop off).take sh.ct.size)));rw[he];simp only[AS.put,KK,AS.eh,AS.mk.injEq,gQ];exact iL _ n1 _ _
def Qi (E:Env)(Γ:xf)(an:An)(ops:aq Oper)(X:Nat->dy):dy->AS->ar AS
 |[],st=>some st
 |i::r,st=>match nth ops i with
  |some o=>(cz E Γ an ops (X i) o st).bind (Qi E Γ an ops X r)
  |none=>none
theorem O5 (zr:∀f,(Γ f).io=false/\((Γ f).bx=true->(Γ f).cur=true)/\(Γ f).pr=false){X:Nat->dy}{i:Nat}{oi:Oper}(hi:nth ops i=some oi):∀(pre post:dy)(st r:AS),(∀j∈pre,∀oj,nth ops j=some oj->Nm an ops (X j) (X i) oj oi=true)->
 Qi E Γ an ops X (pre++i::post) st=some r->Qi E Γ an ops X (i::(pre++post)) st=some r
 |[],post,st,r,_,h=>h
 |j::pre,post,st,r,ha,h=>by
  simp only[List.cons_append,Qi]at h;cases hj:nth ops j with
  |none=>rw[hj]at h;cases h
  |some oj=>
   rw[hj]at h;simp only at h;obtain⟨s1,h1,h2⟩:=aI.1 h;have h3:=O5 zr hi pre post s1 r (λk hk=>ha k (by simp[hk])) h2;simp only[Qi,hi]at h3;obtain⟨s2,h4,h5⟩:=aI.1 h3;have hap:=ha j (by simp) oj hj;obtain⟨t1,k1,k2⟩:∃t1,cz E Γ an ops (X i) oi st=some t1/\cz E Γ an ops (X j) oj t1=some s2:=by cases hx:aeo an oj oi with|false=>rw[Nm,hx,cR]at hap;exact YK zr hap h1 h4|true=>simp only[aeo,da]at hx;rcases hx with((hx|hx)|hx)|hx;exact acY hx h1 h4;exact afo hx h1 h4;exact afU hx h1 h4;exact afj hx h1 h4
   simp only[Qi,hi,k1,dZ,List.cons_append,hj,k2];exact h5
end Go.Dn
