import Derived.Test.YtbebkmajekhclaaGreatDnUpd
/- Operations that are apart may change places. -/
namespace Go.Dn
variable {E:Env} {Γ:BA} {an:An} {ops:aw Oper}
variable {s s1 s2 st:AS} {b d ep i off q t:Nat} {α:Type} {T:TypeId} {X Y:fE}
def cK (E:Env)(Γ:BA)(an:An)(ops:aw Oper)(X:fE)(o:Oper)(st:AS):ay AS:=
 bif dP E an X o st then gX E Γ an ops o st some else none
structure Tt (an:An) (ops:List Oper) (X:List Nat) (o:Oper) (st st2:AS):Prop where
 base:iu an X o st st2
 gd:∀t∈FO an ops o,st2.get t=st.get t
theorem YA {b:Bool}(h:st.get d=.val false [.bool b]):st.put (some d) (.one (.bool b))=st:=by cases st with|mk slots boxes ep iss io=>simp only[AS.put,AS.mk.injEq,jh];rw[fV];apply cI;intro i;rw[bG];split;rename_i hd;subst hd;simp only[AS.get,ej]at h;split;rename_i gF;rw[ak gF]at h⊢;simp only[ga]at h;rw[h];rename_i BQ;rw[bC (Nat.le_of_not_lt BQ)];rfl
theorem Uk {st2:AS}{s:Nat}(h:nth st2.boxes s=nth st.boxes s):FH E T st2 s off=FH E T st s off:=by unfold FH;rw[h]
theorem Ii {o:Oper}{st2:AS}(ha:iu an X o st st2):dP E an X o st2=dP E an X o st:=by
 unfold dP;split;rename_i ho;rw[ha.rd (λt ht=>by simpa[dY,ho]using ht)];rename_i T p ho;rw[ha.rd (λt ht=>by simp[dY,ho,ht]),ha.ep];rename_i ho;rw[ha.rd (λt ht=>by simp[dY,ho,ht]),ha.ep];rename_i f args ts ho;have hcur:uK an X (erS an o) st2 args.toList=uK an X (erS an o) st args.toList:=by
  have hl:∀x∈args.toList,∀t∈tm x,t∈dY o:=by intro x hx t ht;simp only[dY,ho,az,Rv,List.mem_flatMap];exact .inr ⟨x,hx,ht⟩
  generalize args.toList=l at hl;cases l with
  |nil=>rfl
  |cons x xs=>
   have CM:xs.all (Ki (erS an o) st2)=xs.all (Ki (erS an o) st):=by
    rw[cq];simp only[aD];have e:∀y∈xs,Ki (erS an o) st2 y=Ki (erS an o) st y:=by intro y hy;cases y with|tmp t=>have hg:=ha.get t (hl (.tmp t) (by simp[hy]) t (by simp[tm]));simp only[Ki,hg]|const v=>rfl|func v=>rfl|global v=>rfl
    exact⟨λg y hy=>by rw[<-e y hy];exact g y hy,λg y hy=>by rw[e y hy];exact g y hy⟩
   have hr:=ha.rd (hl x (by simp));cases x with
   |tmp q=>
    simp only[uK,hr];generalize st.rd (.tmp q)=v;unfold ahu;rw[CM];split;rename_i s off;cases hX:X.contains s with|true=>simp|false=>rw[ha.box s hX]
    rfl
   |const v=>simp only[uK,hr]
   |func v=>simp only[uK,hr]
   |global v=>simp only[uK,hr]
 rw[hcur];congr 1;rw[cq];simp only[aD];constructor;intro hx x hm;have:=hx x hm;rwa[ha.rd (λt ht=>by simp only[dY,ho,az,Rv,List.mem_flatMap];exact .inr ⟨x,hm,ht⟩),ha.ep]at this;intro hx x hm;rw[ha.rd (λt ht=>by simp only[dY,ho,az,Rv,List.mem_flatMap];exact .inr ⟨x,hm,ht⟩),ha.ep];exact hx x hm;rename_i ho;rw[ha.rd (λt ht=>by simpa[dY,ho]using ht),ha.ep];split;rename_i s off _;cases hX:X.contains s with|true=>rfl|false=>rw[Uk (ha.box s hX)]
 rfl;rfl;rename_i ho;rw[ha.rd (λt ht=>by simp only[dY,ho,az];exact .inl ht)];rename_i ho;rw[ha.get _ (by simp[dY,ho])];rfl
theorem MJ (Cq:∀f,(Γ f).io=false/\((Γ f).bx=true->(Γ f).cur=true)/\(Γ f).pr=false){o:Oper}{bU:AS}(hm:oC an o=true)(h:cK E Γ an ops X o st=some bU): ∃u:KJ,u.H3 an o/\bU=u.apply st/\∀st2,Tt an ops X o st st2->cK E Γ an ops X o st2=some (u.apply st2):=by
 unfold cK at h;cases hf:dP E an X o st with
 |false=>rw[hf]at h;cases h
 |true=>
  rw[hf]at h;simp only[ah]at h;unfold gX at h;split at h;rename_i hg;obtain⟨u,h1,h2,h3⟩:=Qp (X:=X) Cq hm hf h;refine⟨u,h1,h2,λst2 ha=>?_⟩;unfold cK;rw[Ii ha.base,hf];simp only[ah,gX,hg];exact h3 st2 ha.base;rename_i j IM hg;split at h;rename_i d hd;have tV:d∈FO an ops o:=by simp[FO,hg,hd]
  split at h;rename_i b hb;have hgo:(if(b==IM)=true then cW E Γ an o st some else some (st.put o.dst (.one .un)))=some bU:=by cases b<;>simpa only[ah,af,YA hb]using h
  have h2g:∀st2,Tt an ops X o st st2->cK E Γ an ops X o st2=(if(b==IM)=true then cW E Γ an o st2 some else some (st2.put o.dst (.one .un))):=by
   intro st2 ha;have R8:st2.get d=.val false [.bool b]:=by rw[ha.gd d tV];exact hb
   unfold cK;rw[Ii ha.base,hf];simp only[ah,gX,hg,hd,R8];cases b<;>simp only[ah,af,YA R8]
  split at hgo;rename_i hw;obtain⟨u,h1,h2,h3⟩:=Qp (X:=X) Cq hm hf hgo;exact⟨u,h1,h2,λst2 ha=>by rw[h2g st2 ha,aH hw];exact h3 st2 ha.base⟩;rename_i hw;cases hgo;exact⟨EU o (.one .un),Du _,by rw[tD],λst2 ha=>by rw[h2g st2 ha,aG hw,tD]⟩;rename_i hb;cases h;refine⟨EU o (.one .un),Du _,by rw[tD],λst2 ha=>?_⟩;have R8:st2.get d=.val false [.un]:=by rw[ha.gd d tV];exact hb
  unfold cK;rw[Ii ha.base,hf,tD];simp only[ah,gX,hg,hd,R8];cases h;cases h
theorem jz (l:aw α){j:Nat}(h:i≠j)(v w:α):iG (iG l i v) j w=iG (iG l j w) i v:=by rw[fV,fV,fV,fV,List.set_comm _ _ h]
theorem ach (l:aw AV)(a:aw (Nat×AV))(v:AV)(h:∀x∈a,x.1≠i):ky (iG l i v) a=iG (ky l a) i v:=by induction a generalizing l with|nil=>rfl|cons x a ih=>simp only[ky];rw[jz _ (cR (h x (by simp))),ih _ (λy hy=>h y (by simp[hy]))]
theorem Yx (l:aw AV)(a b:aw (Nat×AV))(h:∀x∈a,∀y∈b,x.1≠y.1):ky (ky l a) b=ky (ky l b) a:=by induction b generalizing l with|nil=>rfl|cons y b ih=>simp only[ky];rw[<-ach l a y.2 (λx hx=>h x hx y (by simp)),ih _ (λx hx z hz=>h x hx z (by simp[hz]))]
theorem Rj (l:aw AV)(a:aw (Nat×AV))(h:∀x∈a,x.1≠t):nth (ky l a) t=nth l t:=by induction a generalizing l with|nil=>rfl|cons x a ih=>rw[ky,ih _ (λy hy=>h y (by simp[hy])),jY,aG (h x (by simp))]
theorem nb {a b:fE}(h:meets a b=false):∀x∈a,x∉b:=by intro x hx hb;unfold meets at h;rw[List.any_eq_false]at h;exact h x hx (by simpa using hb)
theorem KJ.ahf {u:KJ}{o p:Oper}(hw:u.H3 an o)(h1:∀x∈writes an o,x∉dY p++FO an ops p++writes an p)(h2:∀d∈GA an o,Y.contains d=true)(h3:∀d∈GA an o,p.dst≠some d): Tt an ops Y p (u.apply st) st/\Tt an ops Y p st (u.apply st):=by
 have iE:∀t,t∈dY p++FO an ops p++writes an p->(u.apply st).get t=st.get t:=by intro t ht;unfold AS.get;have:nth (u.apply st).slots t=nth st.slots t:=Rj _ _ (λx hx he=>h1 _ (hw.slots x hx) (by rw[he];exact ht));rw[this]
 have aeY:∀d,p.dst=some d->nth (u.apply st).iss d=nth st.iss d/\nth (u.apply st).boxes d=nth st.boxes d:=by
  intro d hd;have hd':d∈dY p++FO an ops p++writes an p:=by simp[writes,hd]
  have DK:o.dst≠some d:=λhe=>h1 d (by simp[writes,he]) hd';constructor;unfold KJ.apply;cases hi:u.iss with|none=>rfl|some k=>simp only;rw[jY,aG];rintro rfl;exact DK (hw.iss _ hi)
  unfold KJ.apply;cases hi:u.box with|none=>rfl|some k=>simp only;rw[jY,aG];intro he;exact h3 _ (hw.box k hi) (by rw[he];exact hd)
 have ap6:∀s,Y.contains s=false->nth (u.apply st).boxes s=nth st.boxes s:=by intro s hs;unfold KJ.apply;cases hi:u.box with|none=>rfl|some k=>simp only;rw[jY,aG];rintro rfl;have:=h2 k.1 (hw.box k hi);rw[this]at hs;cases hs
 have hlen:(u.apply st).slots.length=st.slots.length:=PR _ _;exact⟨⟨⟨hlen.symm,λt ht=>(iE t (by simp[ht])).symm,rfl,λd hd=>⟨((aeY d hd).1).symm,((aeY d hd).2).symm⟩,λs hs=>(ap6 s hs).symm,λt ht=>(iE t (by simp[FO,ht])).symm⟩,λt ht=>(iE t (by simp[ht])).symm⟩,⟨⟨hlen,λt ht=>iE t (by simp[ht]),rfl,aeY,ap6,λt ht=>iE t (by simp[FO,ht])⟩,λt ht=>iE t (by simp[ht])⟩⟩
theorem ZT {u v:KJ}{o p:Oper}(hu:u.H3 an o)(hv:v.H3 an p)(h:∀x∈writes an o,x∉writes an p)(hb:∀x∈GA an o,x∉GA an p):v.apply (u.apply st)=u.apply (v.apply st):=by
 have Ut:∀a b,o.dst=some a->p.dst=some b->a≠b:=λa b ha hb he=>h a (by simp[writes,ha]) (by simp[writes,hb,he]);have hs:=Yx st.slots u.slots v.slots (λx hx y hy he=>h _ (hu.slots x hx) (by rw[he];exact hv.slots y hy));simp only[KJ.apply,AS.mk.injEq,true_and,jh];refine⟨hs,?_,?_⟩;cases hub:u.box with|none=>cases v.box<;>rfl|some k=>cases hvb:v.box with|none=>rfl|some l=>exact jz _ (λhe=>hb _ (hu.box k hub) (by rw[he];exact hv.box l hvb)) _ _
 cases hui:u.iss with|none=>cases v.iss<;>rfl|some k=>cases hvi:v.iss with|none=>rfl|some l=>exact jz _ (Ut _ _ (hu.iss k hui) (hv.iss l hvi)) _ _
theorem acK (Cq:∀f,(Γ f).io=false/\((Γ f).bx=true->(Γ f).cur=true)/\(Γ f).pr=false){o p:Oper}(ha:ZR an ops X Y o p=true)(h1:cK E Γ an ops X o st=some s1)(h2:cK E Γ an ops Y p s1=some s2): ∃t1,cK E Γ an ops Y p st=some t1/\cK E Γ an ops X o t1=some s2:=by
 simp only[ZR,ae,aK,aD]at ha;obtain⟨⟨⟨⟨⟨⟨⟨mo,mp⟩,w1⟩,w2⟩,b1⟩,b2⟩,b3⟩,b4⟩:=ha;have w1:=nb w1;have w2:=nb w2;have b3:=nb b3;have b4:=nb b4;obtain⟨u,hu,rfl,hu2⟩:=MJ Cq mo h1;obtain⟨v,hv,rfl,UE⟩:=MJ Cq mp h2;have ag1:=KJ.ahf (ops:=ops) (p:=p) (Y:=Y) (st:=st) hu w1 b1 (λd hd he=>b3 d hd (by simp[he]));have hww:∀x∈writes an p,x∉dY o++FO an ops o++writes an o:=by intro x hx hm;rcases az.1 hm with hm|hm;exact w2 x hx hm;exact w1 x hm (by simp[hx])
 have ag2:=KJ.ahf (ops:=ops) (p:=o) (Y:=X) (st:=st) hv hww b2 (λd hd he=>b4 d hd (by simp[he]));refine⟨v.apply st,UE st ag1.1,?_⟩;rw[hu2 _ ag2.2,ZT hu hv (λx hx hm=>w1 x hx (by simp[hm])) (λx hx hm=>b3 x hx (by simp[hm]))]
theorem Jp {v w:AV}(h:st.get t=v)(hv:v≠ .bot):(st.put (some t) w).get t=w:=by
 unfold AS.get at h;cases hn:nth st.slots t with
 |none=>rw[hn]at h;exact absurd h.symm hv
 |some q=>
  have hl:t<st.slots.length:=by rw[ej]at hn;exact(aC.1 hn).1
  unfold AS.get AS.put;simp only[ej,fV];rw[dA hl];rfl
theorem vy {w:AV}(h:d≠t):(st.put (some d) w).get t=st.get t:=by unfold AS.get AS.put;simp only[jY,aG h]
theorem DD {o:Oper}(ho:o.op=.extract (.tmp t) i)(hd:o.dst=some d)(hg:o.guard=none):cK E Γ an ops X o st=some s↔ ∃vs g cs,st.get t=.xC vs/\nth vs i=some (g,cs)/\(cs.all AC.jU||an.mv.contains d)=true/\s=(st.put (some t) (.xC (iG vs i (g,bg 0 cs)))).put (some d) (.val g cs):=by
 unfold cK;simp only[dP,ho,hd];constructor;intro h;cases hv:st.get t with|val g cs=>simp only[hv,ah,gX,hg,cW,ho,mM]at h;cases h|xC vs=>simp only[hv]at h;cases hn:nth vs i with|none=>simp only[hn,ah,gX,hg,cW,ho,mM,hv]at h;cases h|some x=>obtain⟨g,cs⟩:=x;simp only[hn]at h;cases hf:(cs.all AC.jU||an.mv.contains d)with|false=>rw[hf]at h;cases h|true=>rw[hf]at h;simp only[ah,gX,hg,cW,ho,mM,hv,hn,hd]at h;cases h;exact⟨vs,g,cs,rfl,hn,hf,rfl⟩
 rintro⟨vs,g,cs,hv,hn,hf,rfl⟩;simp only[hv,hn,hf,ah,gX,hg,cW,ho,mM,hd]
theorem agy (l:aw α)(i:Nat)(v w:α):iG (iG l i v) i w=iG l i w:=by rw[fV,fV,fV,List.set_set]
theorem aia {o p:Oper}(ha:aaV o p=true)(h1:cK E Γ an ops X o st=some s1)(h2:cK E Γ an ops Y p s1=some s2): ∃t1,cK E Γ an ops Y p st=some t1/\cK E Γ an ops X o t1=some s2:=by
 unfold aaV at ha;split at ha;rename_i t i t' j d d' ho hp hd hd' hg oX;simp only[ae,aZ,aK,cr,ne_eq]at ha;obtain⟨⟨⟨⟨rfl,hij⟩,Ut⟩,hdt⟩,aqa⟩:=ha;obtain⟨vs,g,cs,hv,hn,hf,rfl⟩:=(DD ho hd hg).1 h1;obtain⟨vs2,g2,Fk,UE,Dh,Ax,rfl⟩:=(DD hp hd' oX).1 h2;have hq:((st.put (some t) (.xC (iG vs i (g,bg 0 cs)))).put (some d) (.val g cs)).get t=.xC (iG vs i (g,bg 0 cs)):=by rw[vy hdt,Jp hv (by simp)]
 rw[hq]at UE;cases UE;rw[jY,aG hij]at Dh;refine⟨_,(DD hp hd' oX).2 ⟨vs,g2,Fk,hv,Dh,Ax,rfl⟩,(DD ho hd hg).2 ⟨iG vs j (g2,bg 0 Fk),g,cs,?_,?_,hf,?_⟩⟩;rw[vy aqa,Jp hv (by simp)];rw[jY,aG (cR hij)];exact hn;have e:=jz vs hij (g,bg 0 cs) (g2,bg 0 Fk);have a:∀(A B:AV)(q:Nat)(v:AV),q≠t->iG (iG (iG st.slots t A) q v) t B=iG (iG st.slots t B) q v:=λA B q v hq=>by rw[jz _ hq,agy]
 simp only[AS.put,AS.mk.injEq,jh];rw[a _ _ _ _ hdt,a _ _ _ _ aqa,e,jz _ Ut];cases ha
theorem adP (s:AS)(t:Nat):s.put (some t) (s.get t)=s:=by cases s with|mk slots boxes ep iss io=>simp only[AS.put,AS.mk.injEq,jh];rw[fV];apply cI;intro i;rw[bG];split;rename_i hd;subst hd;simp only[AS.get,ej];split;rename_i gF;rw[ak gF];rfl;rename_i BQ;rw[bC (Nat.le_of_not_lt BQ)];rfl
theorem YQ {o:Oper}(hd:o.dst=some d)(hg:o.guard=none)(ho:(o.op=.move (.tmp t)/\an.mv.contains d=false/\an.fm.contains d=true)\/∃i,o.op=.extract (.tmp t) i)(_hdt:d≠t)(h:cK E Γ an ops X o st=some s): ∃tv v,s=(st.put (some t) tv).put (some d) v/\∀st2:AS,st2.get t=st.get t->cK E Γ an ops X o st2=some ((st2.put (some t) tv).put (some d) v):=by
 rcases ho with⟨ho,E9,NI⟩|⟨i,ho⟩;have O2:∀st2:AS,st2.get t=st.get t->(st.rd (.tmp t)).lT=true->st2.rd (.tmp t)=st.get t:=by
  intro st2 hq hs;simp only[AS.rd,hq]at hs⊢;cases hv:st.get t with
  |xC vs=>rw[hv]at hs;simp[AV.borrow,AV.lT]at hs
  |val g cs=>
   rw[hv]at hs;simp only[AV.borrow,AV.lT]at hs⊢;congr 1;have key:∀(cs:aw AC)(j:Nat),(iY st.ep (λj=>lh.slot t j) j cs).all AC.lT=true->iY st2.ep (λj=>lh.slot t j) j cs=cs:=by
    intro cs;induction cs with
    |nil=>intro j _;rfl
    |cons c cs ih=>
     intro j h;simp only[iY,bX,ae]at h⊢;rw[ih (j+1) h.2];congr 1;cases c with
     |sl fl e xs=>cases fl with|fR _ _ ep=>cases ep<;>simp[AC.borrow,AC.lT]at h|_=>simp[AC.borrow,AC.lT]at h
     |_=>rfl
   exact key cs 0 hs
 unfold cK at h;have nA:(st.rd (.tmp t)).lT=true:=by cases hs:(st.rd (.tmp t)).lT with|true=>rfl|false=>simp only[dP,ho,ZD,hd,NI,hs]at h;cases h
 refine⟨st.get t,st.get t,?_,λst2 hq=>?_⟩;simp only[dP,ho,ZD,hd,NI,nA,iA,ah,gX,hg,cW,DW,E9,bm,cv]at h;cases h;rw[O2 st rfl nA];congr 1;exact(adP st t).symm;unfold cK;have e1:=O2 st2 hq nA;have UB:(st2.rd (.tmp t)).lT=true:=by rw[e1,<-O2 st rfl nA];exact nA
 simp only[dP,ho,ZD,hd,NI,UB,iA,ah,gX,hg,cW,DW,E9,bm,cv];rw[e1,<-hq,adP];obtain⟨vs,g,cs,hv,hn,hf,rfl⟩:=(DD ho hd hg).1 h;refine⟨_,_,rfl,λst2 hq=>(DD ho hd hg).2 ⟨vs,g,cs,by rw[hq,hv],hn,hf,rfl⟩⟩
theorem ak8 {p:Oper}{x:Nat}(hp:p.op=.store T (.tmp q) (.tmp x))(hd:p.dst=none)(hg:p.guard=none)(Uu:(an.eb q).isSome=true)(hes:(an.es q).isNone=true)(hsb:(an.sb q).isNone=true)(hl:BW an p=false)(h:cK E Γ an ops Y p st=some s): ∃B,s=⟨iG st.slots x ((st.get x).bg st.ep),B,st.ep+1,st.iss,st.io⟩/\ ∀st2:AS,st2.get q=st.get q->st2.get x=st.get x->st2.boxes=st.boxes->st2.ep=st.ep->st2.iss=st.iss->st2.io=st.io-> cK E Γ an ops Y p st2=some ⟨iG st2.slots x ((st.get x).bg st.ep),B,st.ep+1,st.iss,st.io⟩:=by
 have gN:∀st2:AS,st2.get q=st.get q->st2.ep=st.ep->dP E an Y p st2=dP E an Y p st:=by intro st2 h1 h2;simp only[dP,hp,AS.rd,h1,h2]
 unfold cK at h;cases hf:dP E an Y p st with
 |false=>rw[hf]at h;cases h
 |true=>
  rw[hf]at h;simp only[ah,gX,hg,cW,hp,hd,hl,bm,cv]at h;have jH:=hf;simp only[dP,hp]at jH;have OY:((an.sb q).isNone&&(an.eb q).isNone&&(an.es q).isNone)=false:=by cases he:an.eb q with|none=>rw[he]at Uu;cases Uu|some _=>simp
  rw[OY,cA]at jH;unfold yn at h;split at h;rename_i O2;rw[O2]at jH;simp only[ae,aZ]at jH;rw[jH.2]at hsb;cases hsb;rename_i sh Ox r tg e y i off hT O2;rw[O2]at jH;cases r with
  |slot _ _=>simp only[ae,aZ]at jH;rw[jH.1.1]at hes;cases hes
  |io _=>simp at jH
  |box b j=>
   split at h;rename_i gg vs st1 ue;have e1:(st.get x)=.val gg vs:=by have:=congrArg Prod.fst ue;exact this
   have e2:st1=⟨iG st.slots x ((st.get x).bg st.ep),st.boxes,st.ep,st.iss,st.io⟩:=by have:=congrArg Prod.snd ue;exact this.symm
   split at h;rename_i hlen;have main:∃B,∀sl:aw AV,(⟨sl,st.boxes,st.ep,st.iss,st.io⟩:AS).qx (.box b j) tg e i off vs some=some ⟨sl,B,st.ep+1,st.iss,st.io⟩:=by
    subst e2;simp only[AS.qx,AS.fH,AS.fM,AS.fj]at h⊢;cases hb:(nth st.boxes b).getD none with
    |none=>rw[hb]at h;simp at h
    |some cs=>
     rw[hb]at h;simp only[eZ]at h⊢;split at h;rename_i t' e' xs hn;split at h;rename_i he;simp only[dif_pos he];generalize (he▸xs:aw e.D)=zs at h⊢;split at h;rename_i ht;simp only[aH ht];cases hi:idx zs i with|none=>rw[hi]at h;simp[aa]at h|some y0=>simp only[hi,aa]at h⊢;split at h;exact⟨_,λsl=>rfl⟩;cases h
     cases h;cases h;rename_i t' i' q0 e' xs hn;split at h;rename_i he;simp only[dif_pos he];generalize (he▸xs:aw e.D)=zs at h⊢;split at h;rename_i ht;simp only[aH ht];cases hi:ae4 zs i' i with|none=>rw[hi]at h;simp[aa]at h|some y0=>simp only[hi,aa]at h⊢;split at h;exact⟨_,λsl=>rfl⟩;cases h
     cases h;cases h;cases h
   obtain⟨B,hB⟩:=main;refine⟨B,?_,λst2 h1 h2 h3 h4 h5 h6=>?_⟩;subst e2;rw[hB]at h;exact(cc h).symm;unfold cK;rw[gN st2 h1 h4,hf];have r2:st2.rd (.tmp q)=st.rd (.tmp q):=by simp only[AS.rd,h1,h4]
   have t2:st2.take (.tmp x)=(.val gg vs,⟨iG st2.slots x ((st.get x).bg st.ep),st.boxes,st.ep,st.iss,st.io⟩):=by simp only[AS.take,AS.put,h2,h3,h4,h5,h6,e1]
   simp only[ah,gX,hg,cW,hp,hd,hl,bm,cv,yn,hT,r2,O2,t2];rw[aH hlen];exact hB _;cases h;cases h
  cases h
theorem ah3 {p:Oper}{x:Nat}(hp:p.op=.store T (.tmp q) (.tmp x))(hd:p.dst=none)(hg:p.guard=none)(hes:an.es q=some b)(Uu:(an.eb q).isNone=true)(kq:b≠x)(hsb:(an.sb q).isNone=true)(hl:BW an p=false)(h:cK E Γ an ops Y p st=some s): ∃B,s=⟨iG (iG st.slots x ((st.get x).bg st.ep)) b B,st.boxes,st.ep+1,st.iss,st.io⟩/\ ∀st2:AS,st2.get q=st.get q->st2.get x=st.get x->nth st2.slots b=nth st.slots b->st2.boxes=st.boxes->st2.ep=st.ep->st2.iss=st.iss->st2.io=st.io-> cK E Γ an ops Y p st2=some ⟨iG (iG st2.slots x ((st.get x).bg st.ep)) b B,st.boxes,st.ep+1,st.iss,st.io⟩:=by
 have gN:∀st2:AS,st2.get q=st.get q->st2.ep=st.ep->dP E an Y p st2=dP E an Y p st:=by intro st2 h1 h2;simp only[dP,hp,AS.rd,h1,h2]
 unfold cK at h;cases hf:dP E an Y p st with
 |false=>rw[hf]at h;cases h
 |true=>
  rw[hf]at h;simp only[ah,gX,hg,cW,hp,hd,hl,bm,cv]at h;have jH:=hf;simp only[dP,hp]at jH;have OY:((an.sb q).isNone&&(an.eb q).isNone&&(an.es q).isNone)=false:=by rw[hes];simp
  rw[OY,cA]at jH;unfold yn at h;split at h;rename_i O2;rw[O2]at jH;simp only[ae,aZ]at jH;rw[jH.2]at hsb;cases hsb;rename_i sh Ox r tg e y i off hT O2;rw[O2]at jH;cases r with
  |box _ _=>simp only[ae,aZ]at jH;rw[jH.1.1]at Uu;cases Uu
  |io _=>simp at jH
  |slot b' j=>
   simp only[ae,aZ]at jH;have hbb:b'=b:=cc (jH.1.1.symm.trans hes);subst hbb;split at h;rename_i gg vs st1 ue;have e1:(st.get x)=.val gg vs:=by have:=congrArg Prod.fst ue;exact this
   have e2:st1=⟨iG st.slots x ((st.get x).bg st.ep),st.boxes,st.ep,st.iss,st.io⟩:=by have:=congrArg Prod.snd ue;exact this.symm
   split at h;rename_i hlen;have main:∃B,∀sl:aw AV,nth sl b'=nth st.slots b'->(⟨sl,st.boxes,st.ep,st.iss,st.io⟩:AS).qx (.slot b' j) tg e i off vs some=some ⟨iG sl b' B,st.boxes,st.ep+1,st.iss,st.io⟩:=by
    subst e2;have iE:∀sl:aw AV,nth sl b'=nth st.slots b'->(⟨sl,st.boxes,st.ep,st.iss,st.io⟩:AS).get b'=st.get b':=λsl hq=>by unfold AS.get;rw[hq]
    have hq0:nth (iG st.slots x ((st.get x).bg st.ep)) b'=nth st.slots b':=by rw[jY,aG (cR kq)]
    simp only[AS.qx,AS.fH,AS.fM,iE _ hq0]at h;cases hb:st.get b' with
    |xC _=>rw[hb]at h;simp at h
    |val g0 cs=>
     rw[hb]at h;simp only at h;split at h;rename_i t' e' xs hn;split at h;rename_i he;split at h;rename_i ht;cases hi:idx (he▸xs:aw e.D) i with|none=>rw[hi]at h;simp[aa]at h|some y0=>simp only[hi,aa]at h;split at h;rename_i x' Cp;refine⟨.val g0 (iG cs j (.sl (.own (some t')) e ((he▸xs:aw e.D).set i.toNat x'))),λsl hq=>?_⟩;simp only[AS.qx,AS.fH,AS.fM,iE _ hq,hb,hn,dif_pos he,aH ht,hi,aa,Cp,AS.put];cases h
     cases h;cases h;rename_i t' i' q0 e' xs hn;split at h;rename_i he;split at h;rename_i ht;cases hi:ae4 (he▸xs:aw e.D) i' i with|none=>rw[hi]at h;simp[aa]at h|some y0=>simp only[hi,aa]at h;split at h;rename_i x' Cp;refine⟨.val g0 (iG cs j (.sl (.own (some t')) e ((he▸xs:aw e.D).set i.toNat x'))),λsl hq=>?_⟩;simp only[AS.qx,AS.fH,AS.fM,iE _ hq,hb,hn,dif_pos he,aH ht,hi,aa,Cp,AS.put];cases h
     cases h;cases h;cases h
   obtain⟨B,hB⟩:=main;refine⟨B,?_,λst2 h1 h2 xH h3 h4 h5 h6=>?_⟩;subst e2;rw[hB _ (by rw[jY,aG (cR kq)])]at h;exact(cc h).symm;unfold cK;rw[gN st2 h1 h4,hf];have r2:st2.rd (.tmp q)=st.rd (.tmp q):=by simp only[AS.rd,h1,h4]
   have t2:st2.take (.tmp x)=(.val gg vs,⟨iG st2.slots x ((st.get x).bg st.ep),st.boxes,st.ep,st.iss,st.io⟩):=by simp only[AS.take,AS.put,h2,h3,h4,h5,h6,e1]
   simp only[ah,gX,hg,cW,hp,hd,hl,bm,cv,yn,hT,r2,O2,t2];rw[aH hlen];exact hB _ (by rw[jY,aG (cR kq)];exact xH);cases h;cases h
  cases h
theorem ak7 {o p:Oper}(ha:aaS an o p=true)(h1:cK E Γ an ops X o st=some s1)(h2:cK E Γ an ops Y p s1=some s2): ∃t1,cK E Γ an ops Y p st=some t1/\cK E Γ an ops X o t1=some s2:=by
 unfold aaS at ha;split at ha;rename_i T q x hp hpd hpg;simp only[ae,aK]at ha;obtain⟨⟨⟨Uu,hsb⟩,hl⟩,ha⟩:=ha;have ap7:∃d t,o.dst=some d/\o.guard=none/\((o.op=.move (.tmp t)/\an.mv.contains d=false/\an.fm.contains d=true)\/∃i,o.op=.extract (.tmp t) i)/\d≠q/\d≠x/\t≠x/\d≠t/\t≠q:=by split at ha;rename_i t d ho hd hg;simp only[ae,aK,cr]at ha;exact⟨d,t,hd,hg,.inl ⟨ho,ha.1.1.1.1.1.1,ha.1.1.1.1.1.2⟩,ha.1.1.1.1.2,ha.1.1.1.2,ha.1.1.2,ha.2,ha.1.2⟩;rename_i t i d ho hd hg;simp only[ae,aK,cr]at ha;exact⟨d,t,hd,hg,.inr ⟨i,ho⟩,ha.1.1.1.1,ha.1.1.1.2,ha.1.1.2,ha.2,ha.1.2⟩;cases ha
 obtain⟨d,t,hd,hg,ho,hdq,hdx,htx,hdt,htq⟩:=ap7;obtain⟨tv,v,rfl,eU⟩:=YQ hd hg ho hdt h1;have hq:((st.put (some t) tv).put (some d) v).get q=st.get q:=by rw[vy hdq];exact vy htq
 have hx:((st.put (some t) tv).put (some d) v).get x=st.get x:=by rw[vy hdx,vy htx]
 simp only[cQ,ae]at Uu;rcases Uu with⟨Uu,hes⟩|hes;obtain⟨B,rfl,hgo⟩:=ak8 hp hpd hpg Uu hes hsb hl h2;have k1:=hgo st hq.symm hx.symm rfl rfl rfl rfl;refine⟨_,k1,?_⟩;have Ik:(⟨iG st.slots x ((((st.put (some t) tv).put (some d) v).get x).bg ((st.put (some t) tv).put (some d) v).ep),B,((st.put (some t) tv).put (some d) v).ep+1,((st.put (some t) tv).put (some d) v).iss,((st.put (some t) tv).put (some d) v).io⟩:AS).get t=st.get t:=by simp only[AS.get,jY,aG (cR htx)]
 rw[eU _ Ik];simp only[AS.put,bp,AS.mk.injEq,jh];rw[jz _ (cR htx),jz _ (cR hdx)];cases hb:an.es q with
 |none=>rw[hb]at hes;cases hes
 |some b=>
  rw[hb]at hes;simp only[ae,aK,cr]at hes;obtain⟨⟨⟨Uu,kq⟩,_⟩,hbw⟩:=hes;have hbw:=nb hbw b (by simp);have hbd:b≠d:=λe=>hbw (by simp[hd,e]);have hbt:b≠t:=λe=>hbw (by refine az.2 (.inr ?_);rcases ho with⟨ho,_⟩|⟨i,ho⟩<;>simp[dY,ho,tm,e]);obtain⟨B,rfl,hgo⟩:=ah3 hp hpd hpg hb Uu kq hsb hl h2;have xH:nth st.slots b=nth ((st.put (some t) tv).put (some d) v).slots b:=by simp only[AS.put,jY,aG (cR hbd),aG (cR hbt)]
  have k1:=hgo st hq.symm hx.symm xH rfl rfl rfl rfl;refine⟨_,k1,?_⟩;have Ik:(⟨iG (iG st.slots x ((((st.put (some t) tv).put (some d) v).get x).bg ((st.put (some t) tv).put (some d) v).ep)) b B,((st.put (some t) tv).put (some d) v).boxes,((st.put (some t) tv).put (some d) v).ep+1,((st.put (some t) tv).put (some d) v).iss,((st.put (some t) tv).put (some d) v).io⟩:AS).get t=st.get t:=by simp only[AS.get,jY,aG (cR htx),aG hbt]
  rw[eU _ Ik];simp only[AS.put,bp,AS.mk.injEq,jh];rw[jz _ hbt,jz _ hbd,jz _ (cR htx),jz _ (cR hdx)]
 cases ha
theorem Vw {c:AC}(h:c.lT=true\/(c.borrow ep none).lT=true):c.borrow ep none=c:=by
 cases c with
 |sl fl e xs=>exfalso;cases fl with|fR _ _ ep=>cases ep<;>simp[AC.borrow,AC.lT]at h|_=>simp[AC.borrow,AC.lT]at h
 |_=>rfl
theorem Qi {cs:aw AC}{n:Nat}(ib:off+n<=cs.length)(k:Nat):(eP cs off (bg ep ((cs.drop off).take n)))[k]?=(cs[k]?).map λc=>if off<=k/\k<off+n then c.borrow ep none else c:=by
 have hl:(bg ep ((cs.drop off).take n)).length=n:=by simp[bg];omega
 unfold eP;rw[hl];by_cases h1:k<off;rw[aY,bE (by simp;omega),eC h1];have:(λc:AC=>if off<=k/\k<off+n then c.borrow ep none else c)=id:=by funext c;rw[nX];rfl
 rw[this,Option.map_id];rfl;by_cases h2:k<off+n;rw[bE (by simp[hl];omega),bz (by simp;omega)];have e:k-(cs.take off).length=k-off:=by simp;omega
 rw[e,bg,List.getElem?_map,eC (by omega),bS,show off+(k-off)=k by omega];congr 1;funext c;rw[zip];rw[bz (by simp[hl];omega)];have e:k-(cs.take off++bg ep ((cs.drop off).take n)).length=k-(off+n):=by simp[hl];omega
 rw[e,bS,show off+n+(k-(off+n))=k by omega];have:(λc:AC=>if off<=k/\k<off+n then c.borrow ep none else c)=id:=by funext c;rw[nX];rfl
 rw[this,Option.map_id];rfl
theorem Ks {cs:aw AC}{n o2 n2:Nat}(ib:off+n<=cs.length)(h:((cs.drop o2).take n2).all AC.lT=true\/(((eP cs off (bg ep ((cs.drop off).take n))).drop o2).take n2).all AC.lT=true): ((eP cs off (bg ep ((cs.drop off).take n))).drop o2).take n2=(cs.drop o2).take n2:=by
 apply cI;intro k;by_cases hk:k<n2;rw[eC hk,eC hk,bS,bS,Qi ib];cases hc:cs[o2+k]? with|none=>rfl|some c=>simp only[dE];split;rename_i tV;refine congrArg some (Vw ?_);rcases h with h|h;left;refine aD.1 h c (aW (i:=k) ?_);rw[eC hk,bS,hc];right;refine aD.1 h _ (aW (i:=k) ?_);rw[eC hk,bS,Qi ib,hc,dE,aH tV];rfl
 rw[bC (by simp;omega),bC (by simp;omega)]
theorem LW:∀{cs:aw AC}{j:Nat},cs.all AC.lT=true->iY ep (.box b) j cs=cs
 |[],_,_=>rfl
 |c::cs,j,h=>by simp only[bX,ae]at h;rw[iY,LW h.2];congr 1;cases c<;>first|rfl|(simp[AC.lT]at h)
theorem Qw {o:Oper}(h:Dt an o=true):∃T q d,o.op=.load T (.tmp q)/\o.dst=some d/\o.guard=none/\an.mv.contains d=true/\(an.mb d).isSome=true:=by unfold Dt at h;split at h;rename_i T q d ho hd hg;simp only[ae]at h;exact⟨T,q,d,ho,hd,hg,h.1,h.2⟩;cases h
theorem OH {o:Oper}(h:OG an o=true):∃T q d,o.op=.load T (.tmp q)/\o.dst=some d/\o.guard=none/\an.mv.contains d=false/\an.fm.contains d=true:=by unfold OG at h;split at h;rename_i T q d ho hd hg;simp only[ae,aK]at h;exact⟨T,q,d,ho,hd,hg,h.1,h.2⟩;cases h
theorem Hi {o:Oper}(ht:Dt an o=true)(ho:o.op=.load T (.tmp q))(hd:o.dst=some d)(hg:o.guard=none)(E9:an.mv.contains d=true):cK E Γ an ops X o st=some s↔ ∃sh b off cs,jD E.ty T=some sh/\st.rd (.tmp q)=.val false [.ptr b off]/\(nth st.boxes b).getD none=some cs/\off+sh.ct.size<=cs.length/\X.contains b=false/\an.mb d=some b/\(ZD an o=true->FH E T st b off=true)/\ s=(st.fj b (some (eP cs off (bg st.ep ((cs.drop off).take sh.ct.size))))).put (some d) (.val sh.agg ((cs.drop off).take sh.ct.size)):=by
 have key:dP E an X o st=true->∀r,cW E Γ an o st some=some r->∃b off,st.rd (.tmp q)=.val false [.ptr b off]:=by intro hf r hr;simp only[cW,ho,qj]at hr;split at hr;rename_i hp;exact⟨_,_,hp⟩;rename_i hp;simp only[dP,ho,hp,ht,iA,aj,ft,dQ]at hf;cases hf;cases hr
 unfold cK;constructor;intro h;cases hf:dP E an X o st with|false=>rw[hf]at h;cases h|true=>rw[hf]at h;simp only[ah,gX,hg]at h;obtain⟨b,off,hp⟩:=key hf s h;simp only[dP,ho,hp,hd,E9,aj,cA,ae,aK,aZ,cQ]at hf;simp only[cW,ho,qj,hp]at h;cases hT:jD E.ty T with|none=>rw[hT]at h;cases h|some sh=>rw[hT]at h;simp only at h;cases hb:(nth st.boxes b).getD none with|none=>rw[hb]at h;cases h|some cs=>rw[hb]at h;simp only at h;split at h;rename_i ib;simp only[hd,E9,cg]at h;cases h;refine⟨sh,b,off,cs,rfl,hp,hb,ib,hf.1.1,hf.1.2,λhm=>?_,rfl⟩;rcases hf.2 with g|g;rw[hm]at g;cases g;exact g;cases h
 rintro⟨sh,b,off,cs,hT,hp,hb,ib,hX,IW,NI,rfl⟩;have hf:dP E an X o st=true:=by simp only[dP,ho,hp,hd,E9,hX,IW,aj,cA,ae,aK,aZ,cQ];refine⟨⟨cy,cy⟩,?_⟩;cases hm:ZD an o with|false=>exact .inl rfl|true=>exact .inr (NI hm)
 rw[hf];simp only[ah,gX,hg,cW,ho,qj,hp,hT,hb,aH ib,hd,E9,cg]
theorem GQ {o:Oper}(ho:o.op=.load T (.tmp q))(hd:o.dst=some d)(hg:o.guard=none)(E9:an.mv.contains d=false)(NI:an.fm.contains d=true):cK E Γ an ops X o st=some s↔ ∃sh b off cs,jD E.ty T=some sh/\st.rd (.tmp q)=.val false [.ptr b off]/\(nth st.boxes b).getD none=some cs/\off+sh.ct.size<=cs.length/\X.contains b=false/\((cs.drop off).take sh.ct.size).all AC.lT=true/\ s=st.put (some d) (.val sh.agg ((cs.drop off).take sh.ct.size)):=by
 have hfb:ZD an o=true:=by simp only[ZD,hd,NI]
 have key:dP E an X o st=true->∀r,cW E Γ an o st some=some r->∃b off,st.rd (.tmp q)=.val false [.ptr b off]:=by intro hf r hr;simp only[cW,ho,qj]at hr;split at hr;rename_i hp;exact⟨_,_,hp⟩;rename_i hp;simp only[dP,ho,hp,hfb,iB,aj,ft,dQ]at hf;cases hf;cases hr
 unfold cK;constructor;intro h;cases hf:dP E an X o st with
 |false=>rw[hf]at h;cases h
 |true=>
  rw[hf]at h;simp only[ah,gX,hg]at h;obtain⟨b,off,hp⟩:=key hf s h;simp only[dP,ho,hp,hd,E9,hfb,aj,bw,iB,cA,dy,ae,aK]at hf;simp only[cW,ho,qj,hp]at h;cases hT:jD E.ty T with
  |none=>rw[hT]at h;cases h
  |some sh=>
   rw[hT]at h;simp only at h;cases hb:(nth st.boxes b).getD none with
   |none=>rw[hb]at h;cases h
   |some cs=>
    rw[hb]at h;simp only at h;split at h;rename_i ib;have nA:((cs.drop off).take sh.ct.size).all AC.lT=true:=by have:=hf.2;unfold FH at this;rw[hT,hb]at this;exact this
    simp only[hd,E9,bm,cv,LW nA]at h;cases h;exact⟨sh,b,off,cs,rfl,hp,hb,ib,hf.1,nA,rfl⟩;cases h
 rintro⟨sh,b,off,cs,hT,hp,hb,ib,hX,nA,rfl⟩;have hf:dP E an X o st=true:=by simp only[dP,ho,hp,hd,E9,hX,hfb,FH,hT,hb,nA];rfl
 rw[hf];simp only[ah,gX,hg,cW,ho,qj,hp,hT,hb,aH ib,hd,E9,bm,cv,LW nA]
theorem SU {v:AV}(h:d≠q):(st.put (some d) v).rd (.tmp q)=st.rd (.tmp q):=by simp only[AS.rd,vy h];rfl
theorem ajA {cs:ay (aw AC)}:(st.fj b cs).rd (.tmp q)=st.rd (.tmp q):=rfl
theorem Z0 {cs x:aw AC}(h:(nth st.boxes b).getD none=some cs):(nth (iG st.boxes b (some x)) b).getD none=some x:=by
 rw[jY,aH rfl];cases hn:nth st.boxes b with
 |none=>rw[hn]at h;cases h
 |some _=>
  have:b<st.boxes.length:=by rw[ej]at hn;exact(aC.1 hn).1
  rw[aH this];rfl
theorem Z1 {b2:Nat}{x:aw AC}(h:b≠b2):nth (iG st.boxes b (some x)) b2=nth st.boxes b2:=by rw[jY,aG h]
theorem alL {o p:Oper}(ha:abN an o p=true)(h1:cK E Γ an ops X o st=some s1)(h2:cK E Γ an ops Y p s1=some s2): ∃t1,cK E Γ an ops Y p st=some t1/\cK E Γ an ops X o t1=some s2:=by
 simp only[abN,ae,cQ,aK]at ha;obtain⟨⟨ha,m1⟩,m2⟩:=ha;have m1:=nb m1;have m2:=nb m2;rcases ha with⟨ht,hf⟩|⟨hf,ht⟩;obtain⟨T,q,d,ho,hd,hg,E9,IW⟩:=Qw ht;obtain⟨T2,q2,d2,hp,VL,Ik,Xe,ae0⟩:=OH hf;have n1:d≠d2:=λe=>m1 d (by simp[hd]) (by simp[VL,e]);have n2:d≠q2:=λe=>m1 d (by simp[hd]) (by simp[dY,hp,tm,e]);have n3:d2≠q:=λe=>m2 d2 (by simp[VL]) (by simp[dY,ho,tm,e]);obtain⟨sh,b,off,cs,hT,hr,hb,ib,hX,an5,NI,rfl⟩:=(Hi ht ho hd hg E9).1 h1;obtain⟨sh2,b2,Ri,Fk,hT2,Q2,R8,adq,hX2,UB,rfl⟩:=(GQ hp VL Ik Xe ae0).1 h2;rw[SU n2,ajA]at Q2;have kq:(nth (iG st.boxes b (some (eP cs off (bg st.ep ((cs.drop off).take sh.ct.size))))) b2).getD none=some Fk:=R8;have pq:∃RI,(nth st.boxes b2).getD none=some RI/\Ri+sh2.ct.size<=RI.length/\(Fk.drop Ri).take sh2.ct.size=(RI.drop Ri).take sh2.ct.size:=by
  by_cases hbb:b=b2;subst hbb;rw[Z0 hb]at kq;cases kq;have hlen:(eP cs off (bg st.ep ((cs.drop off).take sh.ct.size))).length=cs.length:=by simp only[eP,bg,ai,bL,aV,aL];omega
  exact⟨cs,hb,by omega,Ks ib (.inr UB)⟩;rw[Z1 hbb]at kq;exact⟨Fk,kq,adq,rfl⟩
 obtain⟨RI,Us,W8,he⟩:=pq;rw[he]at UB⊢;refine⟨_,(GQ hp VL Ik Xe ae0).2 ⟨sh2,b2,Ri,RI,hT2,Q2,Us,W8,hX2,UB,rfl⟩,(Hi ht ho hd hg E9).2 ⟨sh,b,off,cs,hT,by rw[SU n3];exact hr,hb,ib,hX,an5,λhm=>?_,?_⟩⟩;have:=NI hm;unfold FH at this⊢;exact this;simp only[AS.put,AS.fj,AS.mk.injEq,jh];exact jz _ n1 _ _;obtain⟨T,q,d,ho,hd,hg,E9,NI⟩:=OH hf;obtain⟨T2,q2,d2,hp,VL,Ik,Xe,an4⟩:=Qw ht;have n1:d≠d2:=λe=>m1 d (by simp[hd]) (by simp[VL,e]);have n2:d≠q2:=λe=>m1 d (by simp[hd]) (by simp[dY,hp,tm,e]);have n3:d2≠q:=λe=>m2 d2 (by simp[VL]) (by simp[dY,ho,tm,e]);obtain⟨sh,b,off,cs,hT,hr,hb,ib,hX,nA,rfl⟩:=(GQ ho hd hg E9 NI).1 h1;obtain⟨sh2,b2,Ri,Fk,hT2,Q2,R8,adq,hX2,an5,ae0,rfl⟩:=(Hi ht hp VL Ik Xe).1 h2;rw[SU n2]at Q2;refine⟨_,(Hi ht hp VL Ik Xe).2 ⟨sh2,b2,Ri,Fk,hT2,Q2,R8,adq,hX2,an5,λhm=>ae0 hm,rfl⟩,?_⟩;have pq:∃RI,(nth (iG st.boxes b2 (some (eP Fk Ri (bg st.ep ((Fk.drop Ri).take sh2.ct.size))))) b).getD none=some RI/\off+sh.ct.size<=RI.length/\(RI.drop off).take sh.ct.size=(cs.drop off).take sh.ct.size:=by
  by_cases hbb:b2=b;subst hbb;have K2:Fk=cs:=cc (R8.symm.trans hb);subst K2;have hlen:(eP Fk Ri (bg st.ep ((Fk.drop Ri).take sh2.ct.size))).length=Fk.length:=by simp only[eP,bg,ai,bL,aV,aL];omega
  exact⟨_,Z0 hb,by omega,Ks adq (.inl nA)⟩;exact⟨cs,by rw[Z1 hbb];exact hb,ib,rfl⟩
 obtain⟨RI,Us,W8,he⟩:=pq;refine(GQ ho hd hg E9 NI).2 ⟨sh,b,off,RI,hT,by rw[SU n3,ajA];exact hr,Us,W8,hX,by rw[he];exact nA,?_⟩;rw[he];simp only[AS.put,AS.fj,AS.mk.injEq,jh];exact jz _ n1 _ _
theorem Qv {o:Oper}(ht:Gv an o=true)(ho:o.op=.load T (.tmp q))(hd:o.dst=some d)(hg:o.guard=none)(E9:an.mv.contains d=true)(IW:an.mb d=none):cK E Γ an ops X o st=some s↔ ∃(g:Bool)(e:CT)(kx:aw (Nat×Nat))(b j t Ox:Nat)(x:e.D)(i:Int)(cs:aw AC)(ys:aw e.D)(y:e.D),jD E.ty T=some ⟨g,e,kx⟩/\st.rd (.tmp q)=.val false [.Dc (.loc Ox (some (.box b j,t))) e x i 0]/\(nth st.boxes b).getD none=some cs/\nth cs j=some (.sl (.own (some t)) e ys)/\idx ys i=some y/\ X.contains b=false/\an.eb q=some b/\ZD an o=false/\s=(KB st b j t e i cs ys).put (some d) (.val g (cellsOf e (.own none) y)):=by rw[<-Qu ht ho hd E9 IW];unfold cK;cases dP E an X o st with|false=>simp|true=>simp only[ah,gX,hg,cW,ho,true_and]
theorem agb {o:Oper}(h:CS an o=true):∃T q d,o.op=.load T (.tmp q)/\o.dst=some d/\o.guard=none/\an.mv.contains d=false/\ZD an o=false:=by unfold CS at h;split at h;rename_i T q d ho hd hg;simp only[ae,aK]at h;exact⟨T,q,d,ho,hd,hg,h.1.1,by simp only[ZD,hd];exact h.1.2⟩;cases h
theorem PM {o:Oper}(GZ:CS an o=true)(ho:o.op=.load T (.tmp q))(hd:o.dst=some d)(hg:o.guard=none)(E9:an.mv.contains d=false)(NI:ZD an o=false):cK E Γ an ops X o st=some s↔ ∃sh b off cs,jD E.ty T=some sh/\st.rd (.tmp q)=.val false [.ptr b off]/\(nth st.boxes b).getD none=some cs/\off+sh.ct.size<=cs.length/\X.contains b=false/\ s=st.put (some d) (.val sh.agg (iY st.ep (.box b) off ((cs.drop off).take sh.ct.size))):=by
 unfold cK;constructor;intro h;cases hf:dP E an X o st with|false=>rw[hf]at h;cases h|true=>rw[hf]at h;simp only[ah,gX,hg,cW,ho]at h;unfold qj at h;split at h;rename_i sh b off hT hp;simp only[dP,ho,hp,hd,E9,NI,bw,iB,dy,aK]at hf;split at h;rename_i cs hb;split at h;rename_i ib;simp only[hd,E9,bm,cv]at h;cases h;exact⟨sh,b,off,cs,hT,hp,hb,ib,hf,rfl⟩;cases h;cases h;rename_i hp;simp only[dP,ho,hp,GZ,aj,ft,dQ]at hf;cases hf;cases h
 rintro⟨sh,b,off,cs,hT,hp,hb,ib,hX,rfl⟩;have hf:dP E an X o st=true:=by simp only[dP,ho,hp,hd,E9,hX,NI];rfl
 rw[hf];simp only[ah,gX,hg,cW,ho,qj,hp,hT,hb,aH ib,hd,E9,bm,cv]
theorem N8:∀(cs:aw AC)(p k:Nat)(c':AC),(∀c,cs[k]?=some c->∀r,c'.borrow ep (some r)=c.borrow ep (some r))->iY ep (.box b) p (cs.set k c')=iY ep (.box b) p cs
 |[],_,_,_,_=>rfl
 |c::cs,p,0,c',h=>by simp only[List.set_cons_zero,iY,h c rfl]
 |c::cs,p,k+1,c',h=>by simp only[List.set_cons_succ,iY];rw[N8 cs (p+1) k c' (λc hc=>h c (by simpa using hc))]
theorem V3 {j n:Nat}{e:CT}{i:Int}{ys:aw e.D}{cs:aw AC}(hj:nth cs j=some (.sl (.own (some t)) e ys)): iY ep (.box b) off (((iG cs j (.sl (.fR (some t) i (some ep)) e ys)).drop off).take n)=iY ep (.box b) off ((cs.drop off).take n):=by rw[fV,List.drop_set];split;rfl;rename_i gF;rw[List.take_set];refine N8 _ _ _ _ λc hc r=>?_;by_cases hn:j-off<n;rw[eC hn,bS,show off+(j-off)=j by omega,<-ej,hj]at hc;cases hc;rfl;rw[bC (by simp;omega)]at hc;cases hc
theorem ak3 {o p:Oper}(ha:Z6 an o p=true)(h1:cK E Γ an ops X o st=some s1)(h2:cK E Γ an ops Y p s1=some s2): ∃t1,cK E Γ an ops Y p st=some t1/\cK E Γ an ops X o t1=some s2:=by
 simp only[Z6,ae,aK]at ha;obtain⟨⟨⟨GZ,ht⟩,m1⟩,m2⟩:=ha;have m1:=nb m1;have m2:=nb m2;obtain⟨T,q,d,ho,hd,hg,E9,NI⟩:=agb GZ;obtain⟨T2,q2,d2,hp,VL,Ik,Xe,an4⟩:=Tj ht;have n1:d≠d2:=λe=>m1 d (by simp[hd]) (by simp[VL,e]);have n2:d≠q2:=λe=>m1 d (by simp[hd]) (by simp[dY,hp,tm,e]);have n3:d2≠q:=λe=>m2 d2 (by simp[VL]) (by simp[dY,ho,tm,e]);obtain⟨sh,b,off,cs,hT,hr,hb,ib,hX,rfl⟩:=(PM GZ ho hd hg E9 NI).1 h1;obtain⟨g,e,kx,b2,j,t,Ox,x,i,Fk,ys,y,hT2,Q2,R8,hj,hi,hX2,Uu,ae0,rfl⟩:=(Qv ht hp VL Ik Xe an4).1 h2;rw[SU n2]at Q2;have ap4:(nth st.boxes b2).getD none=some Fk:=R8;refine⟨_,(Qv ht hp VL Ik Xe an4).2 ⟨g,e,kx,b2,j,t,Ox,x,i,Fk,ys,y,hT2,Q2,ap4,hj,hi,hX2,Uu,ae0,rfl⟩,?_⟩;have pq:∃RI,(nth (iG st.boxes b2 (some (iG Fk j (.sl (.fR (some t) i (some st.ep)) e ys)))) b).getD none=some RI/\off+sh.ct.size<=RI.length/\iY st.ep (.box b) off ((RI.drop off).take sh.ct.size)=iY st.ep (.box b) off ((cs.drop off).take sh.ct.size):=by by_cases hbb:b2=b;subst hbb;have K2:Fk=cs:=cc (ap4.symm.trans hb);subst K2;exact⟨_,Z0 hb,by rw[fV,aB];exact ib,V3 hj⟩;exact⟨cs,by rw[Z1 hbb];exact hb,ib,rfl⟩
 obtain⟨RI,Us,W8,he⟩:=pq;refine(PM GZ ho hd hg E9 NI).2 ⟨sh,b,off,RI,hT,by rw[SU n3];exact hr,Us,W8,hX,?_⟩;show _=((KB st b2 j t e i Fk ys).put (some d2) _).put (some d) (.val sh.agg (iY st.ep (.box b) off ((RI.drop off).take sh.ct.size)));rw[he];simp only[AS.put,KB,AS.fj,AS.mk.injEq,jh];exact jz _ n1 _ _
def Rl (E:Env)(Γ:BA)(an:An)(ops:aw Oper)(X:Nat->fE):fE->AS->ay AS
 |[],st=>some st
 |i::r,st=>match nth ops i with
  |some o=>(cK E Γ an ops (X i) o st).bind (Rl E Γ an ops X r)
  |none=>none
theorem P8 (Cq:∀f,(Γ f).io=false/\((Γ f).bx=true->(Γ f).cur=true)/\(Γ f).pr=false){X:Nat->fE}{oi:Oper}(hi:nth ops i=some oi):∀(pre post:fE)(st r:AS),(∀j∈pre,∀oj,nth ops j=some oj->N1 an ops (X j) (X i) oj oi=true)->
 Rl E Γ an ops X (pre++i::post) st=some r->Rl E Γ an ops X (i::(pre++post)) st=some r
 |[],post,st,r,_,h=>h
 |j::pre,post,st,r,ha,h=>by
  simp only[List.cons_append,Rl]at h;cases hj:nth ops j with
  |none=>rw[hj]at h;cases h
  |some oj=>
   rw[hj]at h;simp only at h;obtain⟨s1,h1,h2⟩:=aS.1 h;have h3:=P8 Cq hi pre post s1 r (λk hk=>ha k (by simp[hk])) h2;simp only[Rl,hi]at h3;obtain⟨s2,h4,h5⟩:=aS.1 h3;have hap:=ha j (by simp) oj hj;obtain⟨t1,k1,k2⟩:∃t1,cK E Γ an ops (X i) oi st=some t1/\cK E Γ an ops (X j) oj t1=some s2:=by cases hx:ajv an oj oi with|false=>rw[N1,hx,cA]at hap;exact acK Cq hap h1 h4|true=>simp only[ajv,cQ]at hx;rcases hx with((hx|hx)|hx)|hx;exact aia hx h1 h4;exact ak7 hx h1 h4;exact alL hx h1 h4;exact ak3 hx h1 h4
   simp only[Rl,hi,k1,eZ,List.cons_append,hj,k2];exact h5
end Go.Dn
