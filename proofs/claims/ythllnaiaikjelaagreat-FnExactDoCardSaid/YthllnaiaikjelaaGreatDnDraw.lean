import Derived.Test.YthllnaiaikjelaaGreatDnUpd
/- Operations that are apart may change places. -/
namespace Go.Dn
variable {E:Env} {Γ:Ci} {an:An} {ops:ar Oper}
variable {s s1 s2 st:AS} {d ep off t:Nat} {α:Type} {T:TypeId} {X Y:ec}
def cQ (E:Env)(Γ:Ci)(an:An)(ops:ar Oper)(X:ec)(o:Oper)(st:AS):au AS:=
 bif dH E an X o st then ig E Γ an ops o st some else none
structure Zj (an:An) (ops:List Oper) (X:List Nat) (o:Oper) (st st2:AS):Prop where
 base:iH an X o st st2
 gd:∀t∈LR an ops o,st2.get t=st.get t
theorem adf {b:Bool}(h:st.get d=.val false [.bool b]):st.put (some d) (.one (.bool b))=st:=by cases st with|mk slots boxes ep iss io=>simp only[AS.put,AS.mk.injEq,iV];rw[fD];apply cU;intro i;rw[bt];split;rename_i hd;subst hd;simp only[AS.get,dV]at h;split;rename_i iG;rw[al iG]at h⊢;simp only[fT]at h;rw[h];rename_i Fe;rw[bJ (Nat.le_of_not_lt Fe)];rfl
theorem ZM {st2:AS}{s:Nat}(h:nth st2.boxes s=nth st.boxes s):LO E T st2 s off=LO E T st s off:=by unfold LO;rw[h]
theorem OG {o:Oper}{st2:AS}(ha:iH an X o st st2):dH E an X o st2=dH E an X o st:=by
 unfold dH;split;rename_i ho;rw[ha.rd (λt ht=>by simpa[dL,ho]using ht)];rename_i T p ho;rw[ha.rd (λt ht=>by simp[dL,ho,ht]),ha.ep];rename_i ho;rw[ha.rd (λt ht=>by simp[dL,ho,ht]),ha.ep];rename_i f args ts ho;have hcur:yj an X (erS an o) st2 args.toList=yj an X (erS an o) st args.toList:=by
  have hl:∀x∈args.toList,∀t∈tm x,t∈dL o:=by intro x hx t ht;simp only[dL,ho,aA,Xo,List.mem_flatMap];exact .inr ⟨x,hx,ht⟩
  generalize args.toList=l at hl;cases l with
  |nil=>rfl
  |cons x xs=>
   have HE:xs.all (Qu (erS an o) st2)=xs.all (Qu (erS an o) st):=by
    rw[dQ];simp only[aO];have e:∀y∈xs,Qu (erS an o) st2 y=Qu (erS an o) st y:=by intro y hy;cases y with|tmp t=>have hg:=ha.get t (hl (.tmp t) (by simp[hy]) t (by simp[tm]));simp only[Qu,hg]|const v=>rfl|func v=>rfl|global v=>rfl
    exact⟨λg y hy=>by rw[<-e y hy];exact g y hy,λg y hy=>by rw[e y hy];exact g y hy⟩
   have hr:=ha.rd (hl x (by simp));cases x with
   |tmp q=>
    simp only[yj,hr];generalize st.rd (.tmp q)=v;unfold ak2;rw[HE];split;rename_i s off;cases hX:X.contains s with|true=>simp|false=>rw[ha.box s hX]
    rfl
   |const v=>simp only[yj,hr]
   |func v=>simp only[yj,hr]
   |global v=>simp only[yj,hr]
 rw[hcur];congr 1;rw[dQ];simp only[aO];constructor;intro hx x hm;have:=hx x hm;rwa[ha.rd (λt ht=>by simp only[dL,ho,aA,Xo,List.mem_flatMap];exact .inr ⟨x,hm,ht⟩),ha.ep]at this;intro hx x hm;rw[ha.rd (λt ht=>by simp only[dL,ho,aA,Xo,List.mem_flatMap];exact .inr ⟨x,hm,ht⟩),ha.ep];exact hx x hm;rename_i ho;rw[ha.rd (λt ht=>by simpa[dL,ho]using ht),ha.ep];split;rename_i s off _;cases hX:X.contains s with|true=>rfl|false=>rw[ZM (ha.box s hX)]
 rfl;rfl;rename_i ho;rw[ha.rd (λt ht=>by simp only[dL,ho,aA];exact .inl ht)];rename_i ho;rw[ha.get _ (by simp[dL,ho])];rfl
theorem S1 (Ey:∀f,(Γ f).io=false/\((Γ f).bx=true->(Γ f).cur=true)/\(Γ f).pr=false){o:Oper}{st':AS}(hm:qx an o=true)(h:cQ E Γ an ops X o st=some st'): ∃u:Q2,u.Oq an o/\st'=u.apply st/\∀st2,Zj an ops X o st st2->cQ E Γ an ops X o st2=some (u.apply st2):=by
 unfold cQ at h;cases hf:dH E an X o st with
 |false=>rw[hf]at h;cases h
 |true=>
  rw[hf]at h;simp only[af]at h;unfold ig at h;split at h;rename_i hg;obtain⟨u,h1,h2,h3⟩:=We (X:=X) Ey hm hf h;refine⟨u,h1,h2,λst2 ha=>?_⟩;unfold cQ;rw[OG ha.base,hf];simp only[af,ig,hg];exact h3 st2 ha.base;rename_i j O9 hg;split at h;rename_i d hd;have vC:d∈LR an ops o:=by simp[LR,hg,hd]
  split at h;rename_i b hb;have hgo:(if(b==O9)=true then db E Γ an o st some else some (st.put o.dst (.one .un)))=some st':=by cases b<;>simpa only[af,ae,adf hb]using h
  have h2g:∀st2,Zj an ops X o st st2->cQ E Γ an ops X o st2=(if(b==O9)=true then db E Γ an o st2 some else some (st2.put o.dst (.one .un))):=by
   intro st2 ha;have Lo:st2.get d=.val false [.bool b]:=by rw[ha.gd d vC];exact hb
   unfold cQ;rw[OG ha.base,hf];simp only[af,ig,hg,hd,Lo];cases b<;>simp only[af,ae,adf Lo]
  split at hgo;rename_i hw;obtain⟨u,h1,h2,h3⟩:=We (X:=X) Ey hm hf hgo;exact⟨u,h1,h2,λst2 ha=>by rw[h2g st2 ha,aM hw];exact h3 st2 ha.base⟩;rename_i hw;cases hgo;exact⟨KK o (.one .un),Iy _,by rw[xd],λst2 ha=>by rw[h2g st2 ha,aK hw,xd]⟩;rename_i hb;cases h;refine⟨KK o (.one .un),Iy _,by rw[xd],λst2 ha=>?_⟩;have Lo:st2.get d=.val false [.un]:=by rw[ha.gd d vC];exact hb
  unfold cQ;rw[OG ha.base,hf,xd];simp only[af,ig,hg,hd,Lo];cases h;cases h
theorem jZ (l:ar α){i j:Nat}(h:i≠j)(v w:α):iO (iO l i v) j w=iO (iO l j w) i v:=by rw[fD,fD,fD,fD,List.set_comm _ _ h]
theorem af7 (l:ar AV)(a:ar (Nat×AV)){i:Nat}(v:AV)(h:∀x∈a,x.1≠i):lC (iO l i v) a=iO (lC l a) i v:=by induction a generalizing l with|nil=>rfl|cons x a ih=>simp only[lC];rw[jZ _ (cW (h x (by simp))),ih _ (λy hy=>h y (by simp[hy]))]
theorem ada (l:ar AV)(a b:ar (Nat×AV))(h:∀x∈a,∀y∈b,x.1≠y.1):lC (lC l a) b=lC (lC l b) a:=by induction b generalizing l with|nil=>rfl|cons y b ih=>simp only[lC];rw[<-af7 l a y.2 (λx hx=>h x hx y (by simp)),ih _ (λx hx z hz=>h x hx z (by simp[hz]))]
theorem Xb (l:ar AV)(a:ar (Nat×AV))(h:∀x∈a,x.1≠t):nth (lC l a) t=nth l t:=by induction a generalizing l with|nil=>rfl|cons x a ih=>rw[lC,ih _ (λy hy=>h y (by simp[hy])),kM,aK (h x (by simp))]
theorem oh {a b:ec}(h:meets a b=false):∀x∈a,x∉b:=by intro x hx hb;unfold meets at h;rw[List.any_eq_false]at h;exact h x hx (by simpa using hb)
theorem Q2.akT {u:Q2}{o p:Oper}(hw:u.Oq an o)(h1:∀x∈writes an o,x∉dL p++LR an ops p++writes an p)(h2:∀d∈MI an o,Y.contains d=true)(h3:∀d∈MI an o,p.dst≠some d): Zj an ops Y p (u.apply st) st/\Zj an ops Y p st (u.apply st):=by
 have iM:∀t,t∈dL p++LR an ops p++writes an p->(u.apply st).get t=st.get t:=by intro t ht;unfold AS.get;have:nth (u.apply st).slots t=nth st.slots t:=Xb _ _ (λx hx he=>h1 _ (hw.slots x hx) (by rw[he];exact ht));rw[this]
 have aiK:∀d,p.dst=some d->nth (u.apply st).iss d=nth st.iss d/\nth (u.apply st).boxes d=nth st.boxes d:=by
  intro d hd;have hd':d∈dL p++LR an ops p++writes an p:=by simp[writes,hd]
  have Jo:o.dst≠some d:=λhe=>h1 d (by simp[writes,he]) hd';constructor;unfold Q2.apply;cases hi:u.iss with|none=>rfl|some k=>simp only;rw[kM,aK];rintro rfl;exact Jo (hw.iss _ hi)
  unfold Q2.apply;cases hi:u.box with|none=>rfl|some k=>simp only;rw[kM,aK];intro he;exact h3 _ (hw.box k hi) (by rw[he];exact hd)
 have aq3:∀s,Y.contains s=false->nth (u.apply st).boxes s=nth st.boxes s:=by intro s hs;unfold Q2.apply;cases hi:u.box with|none=>rfl|some k=>simp only;rw[kM,aK];rintro rfl;have:=h2 k.1 (hw.box k hi);rw[this]at hs;cases hs
 have hlen:(u.apply st).slots.length=st.slots.length:=VM _ _;exact⟨⟨⟨hlen.symm,λt ht=>(iM t (by simp[ht])).symm,rfl,λd hd=>⟨((aiK d hd).1).symm,((aiK d hd).2).symm⟩,λs hs=>(aq3 s hs).symm,λt ht=>(iM t (by simp[LR,ht])).symm⟩,λt ht=>(iM t (by simp[ht])).symm⟩,⟨⟨hlen,λt ht=>iM t (by simp[ht]),rfl,aiK,aq3,λt ht=>iM t (by simp[LR,ht])⟩,λt ht=>iM t (by simp[ht])⟩⟩
theorem aex {u v:Q2}{o p:Oper}(hu:u.Oq an o)(hv:v.Oq an p)(h:∀x∈writes an o,x∉writes an p)(hb:∀x∈MI an o,x∉MI an p):v.apply (u.apply st)=u.apply (v.apply st):=by
 have ZP:∀a b,o.dst=some a->p.dst=some b->a≠b:=λa b ha hb he=>h a (by simp[writes,ha]) (by simp[writes,hb,he]);have hs:=ada st.slots u.slots v.slots (λx hx y hy he=>h _ (hu.slots x hx) (by rw[he];exact hv.slots y hy));simp only[Q2.apply,AS.mk.injEq,true_and,iV];refine⟨hs,?_,?_⟩;cases hub:u.box with|none=>cases v.box<;>rfl|some k=>cases hvb:v.box with|none=>rfl|some l=>exact jZ _ (λhe=>hb _ (hu.box k hub) (by rw[he];exact hv.box l hvb)) _ _
 cases hui:u.iss with|none=>cases v.iss<;>rfl|some k=>cases hvi:v.iss with|none=>rfl|some l=>exact jZ _ (ZP _ _ (hu.iss k hui) (hv.iss l hvi)) _ _
theorem agC (Ey:∀f,(Γ f).io=false/\((Γ f).bx=true->(Γ f).cur=true)/\(Γ f).pr=false){o p:Oper}(ha:aev an ops X Y o p=true)(h1:cQ E Γ an ops X o st=some s1)(h2:cQ E Γ an ops Y p s1=some s2): ∃t1,cQ E Γ an ops Y p st=some t1/\cQ E Γ an ops X o t1=some s2:=by
 simp only[aev,ah,aU,aO]at ha;obtain⟨⟨⟨⟨⟨⟨⟨mo,mp⟩,w1⟩,w2⟩,b1⟩,b2⟩,b3⟩,b4⟩:=ha;have w1:=oh w1;have w2:=oh w2;have b3:=oh b3;have b4:=oh b4;obtain⟨u,hu,rfl,hu2⟩:=S1 Ey mo h1;obtain⟨v,hv,rfl,SA⟩:=S1 Ey mp h2;have ag1:=Q2.akT (ops:=ops) (p:=p) (Y:=Y) (st:=st) hu w1 b1 (λd hd he=>b3 d hd (by simp[he]));have hww:∀x∈writes an p,x∉dL o++LR an ops o++writes an o:=by intro x hx hm;rcases aA.1 hm with hm|hm;exact w2 x hx hm;exact w1 x hm (by simp[hx])
 have ag2:=Q2.akT (ops:=ops) (p:=o) (Y:=X) (st:=st) hv hww b2 (λd hd he=>b4 d hd (by simp[he]));refine⟨v.apply st,SA st ag1.1,?_⟩;rw[hu2 _ ag2.2,aex hu hv (λx hx hm=>w1 x hx (by simp[hm])) (λx hx hm=>b3 x hx (by simp[hm]))]
theorem PB {v w:AV}(h:st.get t=v)(hv:v≠ .bot):(st.put (some t) w).get t=w:=by
 unfold AS.get at h;cases hn:nth st.slots t with
 |none=>rw[hn]at h;exact absurd h.symm hv
 |some q=>
  have hl:t<st.slots.length:=by rw[dV]at hn;exact(aJ.1 hn).1
  unfold AS.get AS.put;simp only[dV,fD];rw[List.getElem?_set_self hl];rfl
theorem yV {w:AV}(h:d≠t):(st.put (some d) w).get t=st.get t:=by unfold AS.get AS.put;simp only[kM,aK h]
theorem IL {o:Oper}{i:Nat}(ho:o.op=.extract (.tmp t) i)(hd:o.dst=some d)(hg:o.guard=none):cQ E Γ an ops X o st=some s↔ ∃vs g cs,st.get t=.zU vs/\nth vs i=some (g,cs)/\(cs.all AC.gZ||an.mv.contains d)=true/\s=(st.put (some t) (.zU (iO vs i (g,bc 0 cs)))).put (some d) (.val g cs):=by
 unfold cQ;simp only[dH,ho,hd];constructor;intro h;cases hv:st.get t with|val g cs=>simp only[hv,af,ig,hg,db,ho,nN]at h;cases h|zU vs=>simp only[hv]at h;cases hn:nth vs i with|none=>simp only[hn,af,ig,hg,db,ho,nN,hv]at h;cases h|some x=>obtain⟨g,cs⟩:=x;simp only[hn]at h;cases hf:(cs.all AC.gZ||an.mv.contains d)with|false=>rw[hf]at h;cases h|true=>rw[hf]at h;simp only[af,ig,hg,db,ho,nN,hv,hn,hd]at h;cases h;exact⟨vs,g,cs,rfl,hn,hf,rfl⟩
 rintro⟨vs,g,cs,hv,hn,hf,rfl⟩;simp only[hv,hn,hf,af,ig,hg,db,ho,nN,hd]
theorem aj2 (l:ar α)(i:Nat)(v w:α):iO (iO l i v) i w=iO l i w:=by rw[fD,fD,fD,dE]
theorem alo {o p:Oper}(ha:ae3 o p=true)(h1:cQ E Γ an ops X o st=some s1)(h2:cQ E Γ an ops Y p s1=some s2): ∃t1,cQ E Γ an ops Y p st=some t1/\cQ E Γ an ops X o t1=some s2:=by
 unfold ae3 at ha;split at ha;rename_i t i t' j d d' ho hp hd hd' hg oV;simp only[ah,bn,aU,cy,ne_eq]at ha;obtain⟨⟨⟨⟨rfl,hij⟩,ZP⟩,hdt⟩,aq6⟩:=ha;obtain⟨vs,g,cs,hv,hn,hf,rfl⟩:=(IL ho hd hg).1 h1;obtain⟨vs2,g2,Lu,SA,C1,Jn,rfl⟩:=(IL hp hd' oV).1 h2;have hq:((st.put (some t) (.zU (iO vs i (g,bc 0 cs)))).put (some d) (.val g cs)).get t=.zU (iO vs i (g,bc 0 cs)):=by rw[yV hdt,PB hv (by simp)]
 rw[hq]at SA;cases SA;rw[kM,aK hij]at C1;refine⟨_,(IL hp hd' oV).2 ⟨vs,g2,Lu,hv,C1,Jn,rfl⟩,(IL ho hd hg).2 ⟨iO vs j (g2,bc 0 Lu),g,cs,?_,?_,hf,?_⟩⟩;rw[yV aq6,PB hv (by simp)];rw[kM,aK (cW hij)];exact hn;have e:=jZ vs hij (g,bc 0 cs) (g2,bc 0 Lu);have a:∀(A B:AV)(q:Nat)(v:AV),q≠t->iO (iO (iO st.slots t A) q v) t B=iO (iO st.slots t B) q v:=λA B q v hq=>by rw[jZ _ hq,aj2]
 simp only[AS.put,AS.mk.injEq,iV];rw[a _ _ _ _ hdt,a _ _ _ _ aq6,e,jZ _ ZP];cases ha
theorem ahL (s:AS)(t:Nat):s.put (some t) (s.get t)=s:=by cases s with|mk slots boxes ep iss io=>simp only[AS.put,AS.mk.injEq,iV];rw[fD];apply cU;intro i;rw[bt];split;rename_i hd;subst hd;simp only[AS.get,dV];split;rename_i iG;rw[al iG];rfl;rename_i Fe;rw[bJ (Nat.le_of_not_lt Fe)];rfl
theorem adu {o:Oper}(hd:o.dst=some d)(hg:o.guard=none)(ho:(o.op=.move (.tmp t)/\an.mv.contains d=false/\an.fm.contains d=true)\/∃i,o.op=.extract (.tmp t) i)(_hdt:d≠t)(h:cQ E Γ an ops X o st=some s): ∃tv v,s=(st.put (some t) tv).put (some d) v/\∀st2:AS,st2.get t=st.get t->cQ E Γ an ops X o st2=some ((st2.put (some t) tv).put (some d) v):=by
 rcases ho with⟨ho,KX,TM⟩|⟨i,ho⟩;have PM:∀st2:AS,st2.get t=st.get t->(st.rd (.tmp t)).mS=true->st2.rd (.tmp t)=st.get t:=by
  intro st2 hq hs;simp only[AS.rd,hq]at hs⊢;cases hv:st.get t with
  |zU vs=>rw[hv]at hs;simp[AV.borrow,AV.mS]at hs
  |val g cs=>
   rw[hv]at hs;simp only[AV.borrow,AV.mS]at hs⊢;congr 1;have key:∀(cs:ar AC)(j:Nat),(jj st.ep (λj=>lS.slot t j) j cs).all AC.mS=true->jj st2.ep (λj=>lS.slot t j) j cs=cs:=by
    intro cs;induction cs with
    |nil=>intro j _;rfl
    |cons c cs ih=>
     intro j h;simp only[jj,bV,ah]at h⊢;rw[ih (j+1) h.2];congr 1;cases c with
     |sl fl e xs=>cases fl with|fK _ _ ep=>cases ep<;>simp[AC.borrow,AC.mS]at h|_=>simp[AC.borrow,AC.mS]at h
     |_=>rfl
   exact key cs 0 hs
 unfold cQ at h;have nh:(st.rd (.tmp t)).mS=true:=by cases hs:(st.rd (.tmp t)).mS with|true=>rfl|false=>simp only[dH,ho,fmB,hd,TM,hs]at h;cases h
 refine⟨st.get t,st.get t,?_,λst2 hq=>?_⟩;simp only[dH,ho,fmB,hd,TM,nh,jx,af,ig,hg,db,I5,KX,bg,cD]at h;cases h;rw[PM st rfl nh];congr 1;exact(ahL st t).symm;unfold cQ;have e1:=PM st2 hq nh;have ZZ:(st2.rd (.tmp t)).mS=true:=by rw[e1,<-PM st rfl nh];exact nh
 simp only[dH,ho,fmB,hd,TM,ZZ,jx,af,ig,hg,db,I5,KX,bg,cD];rw[e1,<-hq,ahL];obtain⟨vs,g,cs,hv,hn,hf,rfl⟩:=(IL ho hd hg).1 h;refine⟨_,_,rfl,λst2 hq=>(IL ho hd hg).2 ⟨vs,g,cs,by rw[hq,hv],hn,hf,rfl⟩⟩
theorem aoa {p:Oper}{q x:Nat}(hp:p.op=.store T (.tmp q) (.tmp x))(hd:p.dst=none)(hg:p.guard=none)(ZQ:(an.eb q).isSome=true)(hes:(an.es q).isNone=true)(hsb:(an.sb q).isNone=true)(hl:GJ an p=false)(h:cQ E Γ an ops Y p st=some s): ∃B,s=⟨iO st.slots x ((st.get x).bc st.ep),B,st.ep+1,st.iss,st.io⟩/\ ∀st2:AS,st2.get q=st.get q->st2.get x=st.get x->st2.boxes=st.boxes->st2.ep=st.ep->st2.iss=st.iss->st2.io=st.io-> cQ E Γ an ops Y p st2=some ⟨iO st2.slots x ((st.get x).bc st.ep),B,st.ep+1,st.iss,st.io⟩:=by
 have gT:∀st2:AS,st2.get q=st.get q->st2.ep=st.ep->dH E an Y p st2=dH E an Y p st:=by intro st2 h1 h2;simp only[dH,hp,AS.rd,h1,h2]
 unfold cQ at h;cases hf:dH E an Y p st with
 |false=>rw[hf]at h;cases h
 |true=>
  rw[hf]at h;simp only[af,ig,hg,db,hp,hd,hl,bg,cD]at h;have iw:=hf;simp only[dH,hp]at iw;have OL:((an.sb q).isNone&&(an.eb q).isNone&&(an.es q).isNone)=false:=by cases he:an.eb q with|none=>rw[he]at ZQ;cases ZQ|some _=>simp
  rw[OL,cB]at iw;unfold CR at h;split at h;rename_i PM;rw[PM]at iw;simp only[ah,bn]at iw;rw[iw.2]at hsb;cases hsb;rename_i sh UC r tg e y i off hT PM;rw[PM]at iw;cases r with
  |slot _ _=>simp only[ah,bn]at iw;rw[iw.1.1]at hes;cases hes
  |io _=>simp at iw
  |box b j=>
   split at h;rename_i gg vs st1 xv;have e1:(st.get x)=.val gg vs:=by have:=congrArg Prod.fst xv;exact this
   have e2:st1=⟨iO st.slots x ((st.get x).bc st.ep),st.boxes,st.ep,st.iss,st.io⟩:=by have:=congrArg Prod.snd xv;exact this.symm
   split at h;rename_i hlen;have main:∃B,∀sl:ar AV,(⟨sl,st.boxes,st.ep,st.iss,st.io⟩:AS).sJ (.box b j) tg e i off vs some=some ⟨sl,B,st.ep+1,st.iss,st.io⟩:=by
    subst e2;simp only[AS.sJ,AS.fi,AS.fC,AS.eY]at h⊢;cases hb:(nth st.boxes b).getD none with
    |none=>rw[hb]at h;simp at h
    |some cs=>
     rw[hb]at h;simp only[eU]at h⊢;split at h;rename_i t' e' xs hn;split at h;rename_i he;simp only[dif_pos he];generalize (he▸xs:ar e.D)=zs at h⊢;split at h;rename_i ht;simp only[aM ht];cases hi:idx zs i with|none=>rw[hi]at h;simp[aa]at h|some y0=>simp only[hi,aa]at h⊢;split at h;exact⟨_,λsl=>rfl⟩;cases h
     cases h;cases h;rename_i t' i' q0 e' xs hn;split at h;rename_i he;simp only[dif_pos he];generalize (he▸xs:ar e.D)=zs at h⊢;split at h;rename_i ht;simp only[aM ht];cases hi:aiQ zs i' i with|none=>rw[hi]at h;simp[aa]at h|some y0=>simp only[hi,aa]at h⊢;split at h;exact⟨_,λsl=>rfl⟩;cases h
     cases h;cases h;cases h
   obtain⟨B,hB⟩:=main;refine⟨B,?_,λst2 h1 h2 h3 h4 h5 h6=>?_⟩;subst e2;rw[hB]at h;exact(cX h).symm;unfold cQ;rw[gT st2 h1 h4,hf];have r2:st2.rd (.tmp q)=st.rd (.tmp q):=by simp only[AS.rd,h1,h4]
   have t2:st2.take (.tmp x)=(.val gg vs,⟨iO st2.slots x ((st.get x).bc st.ep),st.boxes,st.ep,st.iss,st.io⟩):=by simp only[AS.take,AS.put,h2,h3,h4,h5,h6,e1]
   simp only[af,ig,hg,db,hp,hd,hl,bg,cD,CR,hT,r2,PM,t2];rw[aM hlen];exact hB _;cases h;cases h
  cases h
theorem ak6 {p:Oper}{q x:Nat}(hp:p.op=.store T (.tmp q) (.tmp x))(hd:p.dst=none)(hg:p.guard=none){b:Nat}(hes:an.es q=some b)(ZQ:(an.eb q).isNone=true)(kR:b≠x)(hsb:(an.sb q).isNone=true)(hl:GJ an p=false)(h:cQ E Γ an ops Y p st=some s): ∃B,s=⟨iO (iO st.slots x ((st.get x).bc st.ep)) b B,st.boxes,st.ep+1,st.iss,st.io⟩/\ ∀st2:AS,st2.get q=st.get q->st2.get x=st.get x->nth st2.slots b=nth st.slots b->st2.boxes=st.boxes->st2.ep=st.ep->st2.iss=st.iss->st2.io=st.io-> cQ E Γ an ops Y p st2=some ⟨iO (iO st2.slots x ((st.get x).bc st.ep)) b B,st.boxes,st.ep+1,st.iss,st.io⟩:=by
 have gT:∀st2:AS,st2.get q=st.get q->st2.ep=st.ep->dH E an Y p st2=dH E an Y p st:=by intro st2 h1 h2;simp only[dH,hp,AS.rd,h1,h2]
 unfold cQ at h;cases hf:dH E an Y p st with
 |false=>rw[hf]at h;cases h
 |true=>
  rw[hf]at h;simp only[af,ig,hg,db,hp,hd,hl,bg,cD]at h;have iw:=hf;simp only[dH,hp]at iw;have OL:((an.sb q).isNone&&(an.eb q).isNone&&(an.es q).isNone)=false:=by rw[hes];simp
  rw[OL,cB]at iw;unfold CR at h;split at h;rename_i PM;rw[PM]at iw;simp only[ah,bn]at iw;rw[iw.2]at hsb;cases hsb;rename_i sh UC r tg e y i off hT PM;rw[PM]at iw;cases r with
  |box _ _=>simp only[ah,bn]at iw;rw[iw.1.1]at ZQ;cases ZQ
  |io _=>simp at iw
  |slot b' j=>
   simp only[ah,bn]at iw;have hbb:b'=b:=cX (iw.1.1.symm.trans hes);subst hbb;split at h;rename_i gg vs st1 xv;have e1:(st.get x)=.val gg vs:=by have:=congrArg Prod.fst xv;exact this
   have e2:st1=⟨iO st.slots x ((st.get x).bc st.ep),st.boxes,st.ep,st.iss,st.io⟩:=by have:=congrArg Prod.snd xv;exact this.symm
   split at h;rename_i hlen;have main:∃B,∀sl:ar AV,nth sl b'=nth st.slots b'->(⟨sl,st.boxes,st.ep,st.iss,st.io⟩:AS).sJ (.slot b' j) tg e i off vs some=some ⟨iO sl b' B,st.boxes,st.ep+1,st.iss,st.io⟩:=by
    subst e2;have iM:∀sl:ar AV,nth sl b'=nth st.slots b'->(⟨sl,st.boxes,st.ep,st.iss,st.io⟩:AS).get b'=st.get b':=λsl hq=>by unfold AS.get;rw[hq]
    have hq0:nth (iO st.slots x ((st.get x).bc st.ep)) b'=nth st.slots b':=by rw[kM,aK (cW kR)]
    simp only[AS.sJ,AS.fi,AS.fC,iM _ hq0]at h;cases hb:st.get b' with
    |zU _=>rw[hb]at h;simp at h
    |val g0 cs=>
     rw[hb]at h;simp only at h;split at h;rename_i t' e' xs hn;split at h;rename_i he;split at h;rename_i ht;cases hi:idx (he▸xs:ar e.D) i with|none=>rw[hi]at h;simp[aa]at h|some y0=>simp only[hi,aa]at h;split at h;rename_i x' E2;refine⟨.val g0 (iO cs j (.sl (.own (some t')) e ((he▸xs:ar e.D).set i.toNat x'))),λsl hq=>?_⟩;simp only[AS.sJ,AS.fi,AS.fC,iM _ hq,hb,hn,dif_pos he,aM ht,hi,aa,E2,AS.put];cases h
     cases h;cases h;rename_i t' i' q0 e' xs hn;split at h;rename_i he;split at h;rename_i ht;cases hi:aiQ (he▸xs:ar e.D) i' i with|none=>rw[hi]at h;simp[aa]at h|some y0=>simp only[hi,aa]at h;split at h;rename_i x' E2;refine⟨.val g0 (iO cs j (.sl (.own (some t')) e ((he▸xs:ar e.D).set i.toNat x'))),λsl hq=>?_⟩;simp only[AS.sJ,AS.fi,AS.fC,iM _ hq,hb,hn,dif_pos he,aM ht,hi,aa,E2,AS.put];cases h
     cases h;cases h;cases h
   obtain⟨B,hB⟩:=main;refine⟨B,?_,λst2 h1 h2 xe h3 h4 h5 h6=>?_⟩;subst e2;rw[hB _ (by rw[kM,aK (cW kR)])]at h;exact(cX h).symm;unfold cQ;rw[gT st2 h1 h4,hf];have r2:st2.rd (.tmp q)=st.rd (.tmp q):=by simp only[AS.rd,h1,h4]
   have t2:st2.take (.tmp x)=(.val gg vs,⟨iO st2.slots x ((st.get x).bc st.ep),st.boxes,st.ep,st.iss,st.io⟩):=by simp only[AS.take,AS.put,h2,h3,h4,h5,h6,e1]
   simp only[af,ig,hg,db,hp,hd,hl,bg,cD,CR,hT,r2,PM,t2];rw[aM hlen];exact hB _ (by rw[kM,aK (cW kR)];exact xe);cases h;cases h
  cases h
theorem an9 {o p:Oper}(ha:aeS an o p=true)(h1:cQ E Γ an ops X o st=some s1)(h2:cQ E Γ an ops Y p s1=some s2): ∃t1,cQ E Γ an ops Y p st=some t1/\cQ E Γ an ops X o t1=some s2:=by
 unfold aeS at ha;split at ha;rename_i T q x hp hpd hpg;simp only[ah,aU]at ha;obtain⟨⟨⟨ZQ,hsb⟩,hl⟩,ha⟩:=ha;have aq4:∃d t,o.dst=some d/\o.guard=none/\((o.op=.move (.tmp t)/\an.mv.contains d=false/\an.fm.contains d=true)\/∃i,o.op=.extract (.tmp t) i)/\d≠q/\d≠x/\t≠x/\d≠t/\t≠q:=by split at ha;rename_i t d ho hd hg;simp only[ah,aU,cy]at ha;exact⟨d,t,hd,hg,.inl ⟨ho,ha.1.1.1.1.1.1,ha.1.1.1.1.1.2⟩,ha.1.1.1.1.2,ha.1.1.1.2,ha.1.1.2,ha.2,ha.1.2⟩;rename_i t i d ho hd hg;simp only[ah,aU,cy]at ha;exact⟨d,t,hd,hg,.inr ⟨i,ho⟩,ha.1.1.1.1,ha.1.1.1.2,ha.1.1.2,ha.2,ha.1.2⟩;cases ha
 obtain⟨d,t,hd,hg,ho,hdq,hdx,htx,hdt,htq⟩:=aq4;obtain⟨tv,v,rfl,ej⟩:=adu hd hg ho hdt h1;have hq:((st.put (some t) tv).put (some d) v).get q=st.get q:=by rw[yV hdq];exact yV htq
 have hx:((st.put (some t) tv).put (some d) v).get x=st.get x:=by rw[yV hdx,yV htx]
 simp only[dy,ah]at ZQ;rcases ZQ with⟨ZQ,hes⟩|hes;obtain⟨B,rfl,hgo⟩:=aoa hp hpd hpg ZQ hes hsb hl h2;have k1:=hgo st hq.symm hx.symm rfl rfl rfl rfl;refine⟨_,k1,?_⟩;have OJ:(⟨iO st.slots x ((((st.put (some t) tv).put (some d) v).get x).bc ((st.put (some t) tv).put (some d) v).ep),B,((st.put (some t) tv).put (some d) v).ep+1,((st.put (some t) tv).put (some d) v).iss,((st.put (some t) tv).put (some d) v).io⟩:AS).get t=st.get t:=by simp only[AS.get,kM,aK (cW htx)]
 rw[ej _ OJ];simp only[AS.put,bf,AS.mk.injEq,iV];rw[jZ _ (cW htx),jZ _ (cW hdx)];cases hb:an.es q with
 |none=>rw[hb]at hes;cases hes
 |some b=>
  rw[hb]at hes;simp only[ah,aU,cy]at hes;obtain⟨⟨⟨ZQ,kR⟩,_⟩,hbw⟩:=hes;have hbw:=oh hbw b (by simp);have hbd:b≠d:=λe=>hbw (by simp[hd,e]);have hbt:b≠t:=λe=>hbw (by refine aA.2 (.inr ?_);rcases ho with⟨ho,_⟩|⟨i,ho⟩<;>simp[dL,ho,tm,e]);obtain⟨B,rfl,hgo⟩:=ak6 hp hpd hpg hb ZQ kR hsb hl h2;have xe:nth st.slots b=nth ((st.put (some t) tv).put (some d) v).slots b:=by simp only[AS.put,kM,aK (cW hbd),aK (cW hbt)]
  have k1:=hgo st hq.symm hx.symm xe rfl rfl rfl rfl;refine⟨_,k1,?_⟩;have OJ:(⟨iO (iO st.slots x ((((st.put (some t) tv).put (some d) v).get x).bc ((st.put (some t) tv).put (some d) v).ep)) b B,((st.put (some t) tv).put (some d) v).boxes,((st.put (some t) tv).put (some d) v).ep+1,((st.put (some t) tv).put (some d) v).iss,((st.put (some t) tv).put (some d) v).io⟩:AS).get t=st.get t:=by simp only[AS.get,kM,aK (cW htx),aK hbt]
  rw[ej _ OJ];simp only[AS.put,bf,AS.mk.injEq,iV];rw[jZ _ hbt,jZ _ hbd,jZ _ (cW htx),jZ _ (cW hdx)]
 cases ha
theorem aaS {c:AC}(h:c.mS=true\/(c.borrow ep none).mS=true):c.borrow ep none=c:=by
 cases c with
 |sl fl e xs=>exfalso;cases fl with|fK _ _ ep=>cases ep<;>simp[AC.borrow,AC.mS]at h|_=>simp[AC.borrow,AC.mS]at h
 |_=>rfl
theorem Wb {cs:ar AC}{n:Nat}(iy:off+n<=cs.length)(k:Nat):(du cs off (bc ep ((cs.drop off).take n)))[k]?=(cs[k]?).map λc=>if off<=k/\k<off+n then c.borrow ep none else c:=by
 have hl:(bc ep ((cs.drop off).take n)).length=n:=by simp[bc];omega
 unfold du;rw[hl];by_cases h1:k<off;rw[aW,bF (by simp;omega),eV h1];have:(λc:AC=>if off<=k/\k<off+n then c.borrow ep none else c)=id:=by funext c;rw[nt];rfl
 rw[this,Option.map_id];rfl;by_cases h2:k<off+n;rw[bF (by simp[hl];omega),bw (by simp;omega)];have e:k-(cs.take off).length=k-off:=by simp;omega
 rw[e,bc,List.getElem?_map,eV (by omega),bQ,show off+(k-off)=k by omega];congr 1;funext c;rw[zip];rw[bw (by simp[hl];omega)];have e:k-(cs.take off++bc ep ((cs.drop off).take n)).length=k-(off+n):=by simp[hl];omega
 rw[e,bQ,show off+n+(k-(off+n))=k by omega];have:(λc:AC=>if off<=k/\k<off+n then c.borrow ep none else c)=id:=by funext c;rw[nt];rfl
 rw[this,Option.map_id];rfl
theorem QN {cs:ar AC}{n o2 n2:Nat}(iy:off+n<=cs.length)(h:((cs.drop o2).take n2).all AC.mS=true\/(((du cs off (bc ep ((cs.drop off).take n))).drop o2).take n2).all AC.mS=true): ((du cs off (bc ep ((cs.drop off).take n))).drop o2).take n2=(cs.drop o2).take n2:=by
 apply cU;intro k;by_cases hk:k<n2;rw[eV hk,eV hk,bQ,bQ,Wb iy];cases hc:cs[o2+k]? with|none=>rfl|some c=>simp only[dz];split;rename_i vC;refine congrArg some (aaS ?_);rcases h with h|h;left;refine aO.1 h c (bK (i:=k) ?_);rw[eV hk,bQ,hc];right;refine aO.1 h _ (bK (i:=k) ?_);rw[eV hk,bQ,Wb iy,hc,dz,aM vC];rfl
 rw[bJ (by simp;omega),bJ (by simp;omega)]
theorem Sd {b:Nat}:∀{cs:ar AC}{j:Nat},cs.all AC.mS=true->jj ep (.box b) j cs=cs
 |[],_,_=>rfl
 |c::cs,j,h=>by simp only[bV,ah]at h;rw[jj,Sd h.2];congr 1;cases c<;>first|rfl|(simp[AC.mS]at h)
theorem Wn {o:Oper}(h:Ix an o=true):∃T q d,o.op=.load T (.tmp q)/\o.dst=some d/\o.guard=none/\an.mv.contains d=true/\(an.mb d).isSome=true:=by unfold Ix at h;split at h;rename_i T q d ho hd hg;simp only[ah]at h;exact⟨T,q,d,ho,hd,hg,h.1,h.2⟩;cases h
theorem UP {o:Oper}(h:UO an o=true):∃T q d,o.op=.load T (.tmp q)/\o.dst=some d/\o.guard=none/\an.mv.contains d=false/\an.fm.contains d=true:=by unfold UO at h;split at h;rename_i T q d ho hd hg;simp only[ah,aU]at h;exact⟨T,q,d,ho,hd,hg,h.1,h.2⟩;cases h
theorem Nv {o:Oper}{q:Nat}(ht:Ix an o=true)(ho:o.op=.load T (.tmp q))(hd:o.dst=some d)(hg:o.guard=none)(KX:an.mv.contains d=true):cQ E Γ an ops X o st=some s↔ ∃sh b off cs,jR E.ty T=some sh/\st.rd (.tmp q)=.val false [.ptr b off]/\(nth st.boxes b).getD none=some cs/\off+sh.ct.size<=cs.length/\X.contains b=false/\an.mb d=some b/\(fmB an o=true->LO E T st b off=true)/\ s=(st.eY b (some (du cs off (bc st.ep ((cs.drop off).take sh.ct.size))))).put (some d) (.val sh.agg ((cs.drop off).take sh.ct.size)):=by
 have key:dH E an X o st=true->∀r,db E Γ an o st some=some r->∃b off,st.rd (.tmp q)=.val false [.ptr b off]:=by intro hf r hr;simp only[db,ho,sy]at hr;split at hr;rename_i hp;exact⟨_,_,hp⟩;rename_i hp;simp only[dH,ho,hp,ht,jx,ai,kV,gI]at hf;cases hf;cases hr
 unfold cQ;constructor;intro h;cases hf:dH E an X o st with|false=>rw[hf]at h;cases h|true=>rw[hf]at h;simp only[af,ig,hg]at h;obtain⟨b,off,hp⟩:=key hf s h;simp only[dH,ho,hp,hd,KX,ai,cB,ah,aU,bn,dy]at hf;simp only[db,ho,sy,hp]at h;cases hT:jR E.ty T with|none=>rw[hT]at h;cases h|some sh=>rw[hT]at h;simp only at h;cases hb:(nth st.boxes b).getD none with|none=>rw[hb]at h;cases h|some cs=>rw[hb]at h;simp only at h;split at h;rename_i iy;simp only[hd,KX,cd]at h;cases h;refine⟨sh,b,off,cs,rfl,hp,hb,iy,hf.1.1,hf.1.2,λhm=>?_,rfl⟩;rcases hf.2 with g|g;rw[hm]at g;cases g;exact g;cases h
 rintro⟨sh,b,off,cs,hT,hp,hb,iy,hX,Q3,TM,rfl⟩;have hf:dH E an X o st=true:=by simp only[dH,ho,hp,hd,KX,hX,Q3,ai,cB,ah,aU,bn,dy];refine⟨⟨bM,bM⟩,?_⟩;cases hm:fmB an o with|false=>exact .inl rfl|true=>exact .inr (TM hm)
 rw[hf];simp only[af,ig,hg,db,ho,sy,hp,hT,hb,aM iy,hd,KX,cd]
theorem MW {o:Oper}{q:Nat}(ho:o.op=.load T (.tmp q))(hd:o.dst=some d)(hg:o.guard=none)(KX:an.mv.contains d=false)(TM:an.fm.contains d=true):cQ E Γ an ops X o st=some s↔ ∃sh b off cs,jR E.ty T=some sh/\st.rd (.tmp q)=.val false [.ptr b off]/\(nth st.boxes b).getD none=some cs/\off+sh.ct.size<=cs.length/\X.contains b=false/\((cs.drop off).take sh.ct.size).all AC.mS=true/\ s=st.put (some d) (.val sh.agg ((cs.drop off).take sh.ct.size)):=by
 have hfb:fmB an o=true:=by simp only[fmB,hd,TM]
 have key:dH E an X o st=true->∀r,db E Γ an o st some=some r->∃b off,st.rd (.tmp q)=.val false [.ptr b off]:=by intro hf r hr;simp only[db,ho,sy]at hr;split at hr;rename_i hp;exact⟨_,_,hp⟩;rename_i hp;simp only[dH,ho,hp,hfb,jy,ai,kV,gI]at hf;cases hf;cases hr
 unfold cQ;constructor;intro h;cases hf:dH E an X o st with
 |false=>rw[hf]at h;cases h
 |true=>
  rw[hf]at h;simp only[af,ig,hg]at h;obtain⟨b,off,hp⟩:=key hf s h;simp only[dH,ho,hp,hd,KX,hfb,ai,bz,jy,cB,gu,ah,aU]at hf;simp only[db,ho,sy,hp]at h;cases hT:jR E.ty T with
  |none=>rw[hT]at h;cases h
  |some sh=>
   rw[hT]at h;simp only at h;cases hb:(nth st.boxes b).getD none with
   |none=>rw[hb]at h;cases h
   |some cs=>
    rw[hb]at h;simp only at h;split at h;rename_i iy;have nh:((cs.drop off).take sh.ct.size).all AC.mS=true:=by have:=hf.2;unfold LO at this;rw[hT,hb]at this;exact this
    simp only[hd,KX,bg,cD,Sd nh]at h;cases h;exact⟨sh,b,off,cs,rfl,hp,hb,iy,hf.1,nh,rfl⟩;cases h
 rintro⟨sh,b,off,cs,hT,hp,hb,iy,hX,nh,rfl⟩;have hf:dH E an X o st=true:=by simp only[dH,ho,hp,hd,KX,hX,hfb,LO,hT,hb,nh];rfl
 rw[hf];simp only[af,ig,hg,db,ho,sy,hp,hT,hb,aM iy,hd,KX,bg,cD,Sd nh]
theorem YD {q:Nat}{v:AV}(h:d≠q):(st.put (some d) v).rd (.tmp q)=st.rd (.tmp q):=by simp only[AS.rd,yV h];rfl
theorem am0 {q b:Nat}{cs:au (ar AC)}:(st.eY b cs).rd (.tmp q)=st.rd (.tmp q):=rfl
theorem aeE {b:Nat}{cs x:ar AC}(h:(nth st.boxes b).getD none=some cs):(nth (iO st.boxes b (some x)) b).getD none=some x:=by
 rw[kM,aM rfl];cases hn:nth st.boxes b with
 |none=>rw[hn]at h;cases h
 |some _=>
  have:b<st.boxes.length:=by rw[dV]at hn;exact(aJ.1 hn).1
  rw[aM this];rfl
theorem aeF {b b2:Nat}{x:ar AC}(h:b≠b2):nth (iO st.boxes b (some x)) b2=nth st.boxes b2:=by rw[kM,aK h]
theorem aoG {o p:Oper}(ha:afL an o p=true)(h1:cQ E Γ an ops X o st=some s1)(h2:cQ E Γ an ops Y p s1=some s2): ∃t1,cQ E Γ an ops Y p st=some t1/\cQ E Γ an ops X o t1=some s2:=by
 simp only[afL,ah,dy,aU]at ha;obtain⟨⟨ha,m1⟩,m2⟩:=ha;have m1:=oh m1;have m2:=oh m2;rcases ha with⟨ht,hf⟩|⟨hf,ht⟩;obtain⟨T,q,d,ho,hd,hg,KX,Q3⟩:=Wn ht;obtain⟨T2,q2,d2,hp,hd2,OJ,ab4,aiM⟩:=UP hf;have n1:d≠d2:=λe=>m1 d (by simp[hd]) (by simp[hd2,e]);have n2:d≠q2:=λe=>m1 d (by simp[hd]) (by simp[dL,hp,tm,e]);have n3:d2≠q:=λe=>m2 d2 (by simp[hd2]) (by simp[dL,ho,tm,e]);obtain⟨sh,b,off,cs,hT,hr,hb,iy,hX,ap9,TM,rfl⟩:=(Nv ht ho hd hg KX).1 h1;obtain⟨sh2,b2,Xa,Lu,hT2,WV,Lo,ahl,hX2,ZZ,rfl⟩:=(MW hp hd2 OJ ab4 aiM).1 h2;rw[YD n2,am0]at WV;have kR:(nth (iO st.boxes b (some (du cs off (bc st.ep ((cs.drop off).take sh.ct.size))))) b2).getD none=some Lu:=Lo;have ng:∃WG,(nth st.boxes b2).getD none=some WG/\Xa+sh2.ct.size<=WG.length/\(Lu.drop Xa).take sh2.ct.size=(WG.drop Xa).take sh2.ct.size:=by
  by_cases hbb:b=b2;subst hbb;rw[aeE hb]at kR;cases kR;have hlen:(du cs off (bc st.ep ((cs.drop off).take sh.ct.size))).length=cs.length:=by simp only[du,bc,ay,bW,bm,bl];omega
  exact⟨cs,hb,by omega,QN iy (.inr ZZ)⟩;rw[aeF hbb]at kR;exact⟨Lu,kR,ahl,rfl⟩
 obtain⟨WG,U2,ab2,he⟩:=ng;rw[he]at ZZ⊢;refine⟨_,(MW hp hd2 OJ ab4 aiM).2 ⟨sh2,b2,Xa,WG,hT2,WV,U2,ab2,hX2,ZZ,rfl⟩,(Nv ht ho hd hg KX).2 ⟨sh,b,off,cs,hT,by rw[YD n3];exact hr,hb,iy,hX,ap9,λhm=>?_,?_⟩⟩;have:=TM hm;unfold LO at this⊢;exact this;simp only[AS.put,AS.eY,AS.mk.injEq,iV];exact jZ _ n1 _ _;obtain⟨T,q,d,ho,hd,hg,KX,TM⟩:=UP hf;obtain⟨T2,q2,d2,hp,hd2,OJ,ab4,ap8⟩:=Wn ht;have n1:d≠d2:=λe=>m1 d (by simp[hd]) (by simp[hd2,e]);have n2:d≠q2:=λe=>m1 d (by simp[hd]) (by simp[dL,hp,tm,e]);have n3:d2≠q:=λe=>m2 d2 (by simp[hd2]) (by simp[dL,ho,tm,e]);obtain⟨sh,b,off,cs,hT,hr,hb,iy,hX,nh,rfl⟩:=(MW ho hd hg KX TM).1 h1;obtain⟨sh2,b2,Xa,Lu,hT2,WV,Lo,ahl,hX2,ap9,aiM,rfl⟩:=(Nv ht hp hd2 OJ ab4).1 h2;rw[YD n2]at WV;refine⟨_,(Nv ht hp hd2 OJ ab4).2 ⟨sh2,b2,Xa,Lu,hT2,WV,Lo,ahl,hX2,ap9,λhm=>aiM hm,rfl⟩,?_⟩;have ng:∃WG,(nth (iO st.boxes b2 (some (du Lu Xa (bc st.ep ((Lu.drop Xa).take sh2.ct.size))))) b).getD none=some WG/\off+sh.ct.size<=WG.length/\(WG.drop off).take sh.ct.size=(cs.drop off).take sh.ct.size:=by
  by_cases hbb:b2=b;subst hbb;have Rn:Lu=cs:=cX (Lo.symm.trans hb);subst Rn;have hlen:(du Lu Xa (bc st.ep ((Lu.drop Xa).take sh2.ct.size))).length=Lu.length:=by simp only[du,bc,ay,bW,bm,bl];omega
  exact⟨_,aeE hb,by omega,QN ahl (.inl nh)⟩;exact⟨cs,by rw[aeF hbb];exact hb,iy,rfl⟩
 obtain⟨WG,U2,ab2,he⟩:=ng;refine(MW ho hd hg KX TM).2 ⟨sh,b,off,WG,hT,by rw[YD n3,am0];exact hr,U2,ab2,hX,by rw[he];exact nh,?_⟩;rw[he];simp only[AS.put,AS.eY,AS.mk.injEq,iV];exact jZ _ n1 _ _
theorem Wm {o:Oper}{q:Nat}(ht:ME an o=true)(ho:o.op=.load T (.tmp q))(hd:o.dst=some d)(hg:o.guard=none)(KX:an.mv.contains d=true)(Q3:an.mb d=none):cQ E Γ an ops X o st=some s↔ ∃(g:Bool)(e:CT)(lA:ar (Nat×Nat))(b j t UC:Nat)(x:e.D)(i:Int)(cs:ar AC)(ys:ar e.D)(y:e.D),jR E.ty T=some ⟨g,e,lA⟩/\st.rd (.tmp q)=.val false [.Hy (.loc UC (some (.box b j,t))) e x i 0]/\(nth st.boxes b).getD none=some cs/\nth cs j=some (.sl (.own (some t)) e ys)/\idx ys i=some y/\ X.contains b=false/\an.eb q=some b/\fmB an o=false/\s=(QV st b j t e i cs ys).put (some d) (.val g (cellsOf e (.own none) y)):=by rw[<-Wl ht ho hd KX Q3];unfold cQ;cases dH E an X o st with|false=>simp|true=>simp only[af,ig,hg,db,ho,true_and]
theorem ajU {o:Oper}(h:HY an o=true):∃T q d,o.op=.load T (.tmp q)/\o.dst=some d/\o.guard=none/\an.mv.contains d=false/\fmB an o=false:=by unfold HY at h;split at h;rename_i T q d ho hd hg;simp only[ah,aU]at h;exact⟨T,q,d,ho,hd,hg,h.1.1,by simp only[fmB,hd];exact h.1.2⟩;cases h
theorem VK {o:Oper}{q:Nat}(Hr:HY an o=true)(ho:o.op=.load T (.tmp q))(hd:o.dst=some d)(hg:o.guard=none)(KX:an.mv.contains d=false)(TM:fmB an o=false):cQ E Γ an ops X o st=some s↔ ∃sh b off cs,jR E.ty T=some sh/\st.rd (.tmp q)=.val false [.ptr b off]/\(nth st.boxes b).getD none=some cs/\off+sh.ct.size<=cs.length/\X.contains b=false/\ s=st.put (some d) (.val sh.agg (jj st.ep (.box b) off ((cs.drop off).take sh.ct.size))):=by
 unfold cQ;constructor;intro h;cases hf:dH E an X o st with|false=>rw[hf]at h;cases h|true=>rw[hf]at h;simp only[af,ig,hg,db,ho]at h;unfold sy at h;split at h;rename_i sh b off hT hp;simp only[dH,ho,hp,hd,KX,TM,bz,jy,gu,aU]at hf;split at h;rename_i cs hb;split at h;rename_i iy;simp only[hd,KX,bg,cD]at h;cases h;exact⟨sh,b,off,cs,hT,hp,hb,iy,hf,rfl⟩;cases h;cases h;rename_i hp;simp only[dH,ho,hp,Hr,ai,kV,gI]at hf;cases hf;cases h
 rintro⟨sh,b,off,cs,hT,hp,hb,iy,hX,rfl⟩;have hf:dH E an X o st=true:=by simp only[dH,ho,hp,hd,KX,hX,TM];rfl
 rw[hf];simp only[af,ig,hg,db,ho,sy,hp,hT,hb,aM iy,hd,KX,bg,cD]
theorem Un {b:Nat}:∀(cs:ar AC)(p k:Nat)(c':AC),(∀c,cs[k]?=some c->∀r,c'.borrow ep (some r)=c.borrow ep (some r))->jj ep (.box b) p (cs.set k c')=jj ep (.box b) p cs
 |[],_,_,_,_=>rfl
 |c::cs,p,0,c',h=>by simp only[List.set_cons_zero,jj,h c rfl]
 |c::cs,p,k+1,c',h=>by simp only[List.set_cons_succ,jj];rw[Un cs (p+1) k c' (λc hc=>h c (by simpa using hc))]
theorem abg {b j n:Nat}{e:CT}{i:Int}{ys:ar e.D}{cs:ar AC}(hj:nth cs j=some (.sl (.own (some t)) e ys)): jj ep (.box b) off (((iO cs j (.sl (.fK (some t) i (some ep)) e ys)).drop off).take n)=jj ep (.box b) off ((cs.drop off).take n):=by rw[fD,List.drop_set];split;rfl;rename_i iG;rw[List.take_set];refine Un _ _ _ _ λc hc r=>?_;by_cases hn:j-off<n;rw[eV hn,bQ,show off+(j-off)=j by omega,<-dV,hj]at hc;cases hc;rfl;rw[bJ (by simp;omega)]at hc;cases hc
theorem an2 {o p:Oper}(ha:aeH an o p=true)(h1:cQ E Γ an ops X o st=some s1)(h2:cQ E Γ an ops Y p s1=some s2): ∃t1,cQ E Γ an ops Y p st=some t1/\cQ E Γ an ops X o t1=some s2:=by
 simp only[aeH,ah,aU]at ha;obtain⟨⟨⟨Hr,ht⟩,m1⟩,m2⟩:=ha;have m1:=oh m1;have m2:=oh m2;obtain⟨T,q,d,ho,hd,hg,KX,TM⟩:=ajU Hr;obtain⟨T2,q2,d2,hp,hd2,OJ,ab4,ap8⟩:=Y9 ht;have n1:d≠d2:=λe=>m1 d (by simp[hd]) (by simp[hd2,e]);have n2:d≠q2:=λe=>m1 d (by simp[hd]) (by simp[dL,hp,tm,e]);have n3:d2≠q:=λe=>m2 d2 (by simp[hd2]) (by simp[dL,ho,tm,e]);obtain⟨sh,b,off,cs,hT,hr,hb,iy,hX,rfl⟩:=(VK Hr ho hd hg KX TM).1 h1;obtain⟨g,e,lA,b2,j,t,UC,x,i,Lu,ys,y,hT2,WV,Lo,hj,hi,hX2,ZQ,aiM,rfl⟩:=(Wm ht hp hd2 OJ ab4 ap8).1 h2;rw[YD n2]at WV;have aq1:(nth st.boxes b2).getD none=some Lu:=Lo;refine⟨_,(Wm ht hp hd2 OJ ab4 ap8).2 ⟨g,e,lA,b2,j,t,UC,x,i,Lu,ys,y,hT2,WV,aq1,hj,hi,hX2,ZQ,aiM,rfl⟩,?_⟩;have ng:∃WG,(nth (iO st.boxes b2 (some (iO Lu j (.sl (.fK (some t) i (some st.ep)) e ys)))) b).getD none=some WG/\off+sh.ct.size<=WG.length/\jj st.ep (.box b) off ((WG.drop off).take sh.ct.size)=jj st.ep (.box b) off ((cs.drop off).take sh.ct.size):=by by_cases hbb:b2=b;subst hbb;have Rn:Lu=cs:=cX (aq1.symm.trans hb);subst Rn;exact⟨_,aeE hb,by rw[fD,aL];exact iy,abg hj⟩;exact⟨cs,by rw[aeF hbb];exact hb,iy,rfl⟩
 obtain⟨WG,U2,ab2,he⟩:=ng;refine(VK Hr ho hd hg KX TM).2 ⟨sh,b,off,WG,hT,by rw[YD n3];exact hr,U2,ab2,hX,?_⟩;show _=((QV st b2 j t e i Lu ys).put (some d2) _).put (some d) (.val sh.agg (jj st.ep (.box b) off ((WG.drop off).take sh.ct.size)));rw[he];simp only[AS.put,QV,AS.eY,AS.mk.injEq,iV];exact jZ _ n1 _ _
def Xe (E:Env)(Γ:Ci)(an:An)(ops:ar Oper)(X:Nat->ec):ec->AS->au AS
 |[],st=>some st
 |i::r,st=>match nth ops i with
  |some o=>(cQ E Γ an ops (X i) o st).bind (Xe E Γ an ops X r)
  |none=>none
theorem V0 (Ey:∀f,(Γ f).io=false/\((Γ f).bx=true->(Γ f).cur=true)/\(Γ f).pr=false){X:Nat->ec}{i:Nat}{oi:Oper}(hi:nth ops i=some oi):∀(pre post:ec)(st r:AS),(∀j∈pre,∀oj,nth ops j=some oj->Uh an ops (X j) (X i) oj oi=true)->
 Xe E Γ an ops X (pre++i::post) st=some r->Xe E Γ an ops X (i::(pre++post)) st=some r
 |[],post,st,r,_,h=>h
 |j::pre,post,st,r,ha,h=>by
  simp only[List.cons_append,Xe]at h;cases hj:nth ops j with
  |none=>rw[hj]at h;cases h
  |some oj=>
   rw[hj]at h;simp only at h;obtain⟨s1,h1,h2⟩:=aX.1 h;have h3:=V0 Ey hi pre post s1 r (λk hk=>ha k (by simp[hk])) h2;simp only[Xe,hi]at h3;obtain⟨s2,h4,h5⟩:=aX.1 h3;have hap:=ha j (by simp) oj hj;obtain⟨t1,k1,k2⟩:∃t1,cQ E Γ an ops (X i) oi st=some t1/\cQ E Γ an ops (X j) oj t1=some s2:=by cases hx:amT an oj oi with|false=>rw[Uh,hx,cB]at hap;exact agC Ey hap h1 h4|true=>simp only[amT,dy]at hx;rcases hx with((hx|hx)|hx)|hx;exact alo hx h1 h4;exact an9 hx h1 h4;exact aoG hx h1 h4;exact an2 hx h1 h4
   simp only[Xe,hi,k1,eU,List.cons_append,hj,k2];exact h5
end Go.Dn
