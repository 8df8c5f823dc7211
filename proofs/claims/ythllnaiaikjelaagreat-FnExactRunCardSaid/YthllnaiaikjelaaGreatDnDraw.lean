import Derived.Test.YthllnaiaikjelaaGreatDnUpd
/- Operations that are apart may change places. -/
namespace Go.Dn
variable {E:Env} {Γ:Cr} {an:An} {ops:ar Oper}
variable {s s1 s2 st:AS} {d ep off t:Nat} {α:Type} {T:TypeId} {X Y:ei}
def cR (E:Env)(Γ:Cr)(an:An)(ops:ar Oper)(X:ei)(o:Oper)(st:AS):au AS:=
 bif dI E an X o st then im E Γ an ops o st some else none
structure ZF (an:An) (ops:List Oper) (X:List Nat) (o:Oper) (st st2:AS):Prop where
 base:iK an X o st st2
 gd:∀t∈Mf an ops o,st2.get t=st.get t
theorem adA {b:Bool}(h:st.get d=.val false [.bool b]):st.put (some d) (.one (.bool b))=st:=by cases st with|mk slots boxes ep iss io=>simp only[AS.put,AS.mk.injEq,iX];rw[fE];apply cW;intro i;rw[bu];split;rename_i hd;subst hd;simp only[AS.get,dY]at h;split;rename_i iJ;rw[al iJ]at h⊢;simp only[fU]at h;rw[h];rename_i Fp;rw[bL (Nat.le_of_not_lt Fp)];rfl
theorem Z8 {st2:AS}{s:Nat}(h:nth st2.boxes s=nth st.boxes s):Mc E T st2 s off=Mc E T st s off:=by unfold Mc;rw[h]
theorem OY {o:Oper}{st2:AS}(ha:iK an X o st st2):dI E an X o st2=dI E an X o st:=by
 unfold dI;split;rename_i ho;rw[ha.rd (λt ht=>by simpa[dM,ho]using ht)];rename_i T p ho;rw[ha.rd (λt ht=>by simp[dM,ho,ht]),ha.ep];rename_i ho;rw[ha.rd (λt ht=>by simp[dM,ho,ht]),ha.ep];rename_i f args ts ho;have hcur:yt an X (erS an o) st2 args.toList=yt an X (erS an o) st args.toList:=by
  have hl:∀x∈args.toList,∀t∈tm x,t∈dM o:=by intro x hx t ht;simp only[dM,ho,aA,XH,List.mem_flatMap];exact .inr ⟨x,hx,ht⟩
  generalize args.toList=l at hl;cases l with
  |nil=>rfl
  |cons x xs=>
   have HT:xs.all (QN (erS an o) st2)=xs.all (QN (erS an o) st):=by
    rw[dU];simp only[aP];have e:∀y∈xs,QN (erS an o) st2 y=QN (erS an o) st y:=by intro y hy;cases y with|tmp t=>have hg:=ha.get t (hl (.tmp t) (by simp[hy]) t (by simp[tm]));simp only[QN,hg]|const v=>rfl|func v=>rfl|global v=>rfl
    exact⟨λg y hy=>by rw[<-e y hy];exact g y hy,λg y hy=>by rw[e y hy];exact g y hy⟩
   have hr:=ha.rd (hl x (by simp));cases x with
   |tmp q=>
    simp only[yt,hr];generalize st.rd (.tmp q)=v;unfold als;rw[HT];split;rename_i s off;cases hX:X.contains s with|true=>simp|false=>rw[ha.box s hX]
    rfl
   |const v=>simp only[yt,hr]
   |func v=>simp only[yt,hr]
   |global v=>simp only[yt,hr]
 rw[hcur];congr 1;rw[dU];simp only[aP];constructor;intro hx x hm;have:=hx x hm;rwa[ha.rd (λt ht=>by simp only[dM,ho,aA,XH,List.mem_flatMap];exact .inr ⟨x,hm,ht⟩),ha.ep]at this;intro hx x hm;rw[ha.rd (λt ht=>by simp only[dM,ho,aA,XH,List.mem_flatMap];exact .inr ⟨x,hm,ht⟩),ha.ep];exact hx x hm;rename_i ho;rw[ha.rd (λt ht=>by simpa[dM,ho]using ht),ha.ep];split;rename_i s off _;cases hX:X.contains s with|true=>rfl|false=>rw[Z8 (ha.box s hX)]
 rfl;rfl;rename_i ho;rw[ha.rd (λt ht=>by simp only[dM,ho,aA];exact .inl ht)];rename_i ho;rw[ha.get _ (by simp[dM,ho])];rfl
theorem Tl (EH:∀f,(Γ f).io=false/\((Γ f).bx=true->(Γ f).cur=true)/\(Γ f).pr=false){o:Oper}{st':AS}(hm:qC an o=true)(h:cR E Γ an ops X o st=some st'): ∃u:Rm,u.OJ an o/\st'=u.apply st/\∀st2,ZF an ops X o st st2->cR E Γ an ops X o st2=some (u.apply st2):=by
 unfold cR at h;cases hf:dI E an X o st with
 |false=>rw[hf]at h;cases h
 |true=>
  rw[hf]at h;simp only[af]at h;unfold im at h;split at h;rename_i hg;obtain⟨u,h1,h2,h3⟩:=Wx (X:=X) EH hm hf h;refine⟨u,h1,h2,λst2 ha=>?_⟩;unfold cR;rw[OY ha.base,hf];simp only[af,im,hg];exact h3 st2 ha.base;rename_i j Pt hg;split at h;rename_i d hd;have vG:d∈Mf an ops o:=by simp[Mf,hg,hd]
  split at h;rename_i b hb;have hgo:(if(b==Pt)=true then df E Γ an o st some else some (st.put o.dst (.one .un)))=some st':=by cases b<;>simpa only[af,ae,adA hb]using h
  have h2g:∀st2,ZF an ops X o st st2->cR E Γ an ops X o st2=(if(b==Pt)=true then df E Γ an o st2 some else some (st2.put o.dst (.one .un))):=by
   intro st2 ha;have LI:st2.get d=.val false [.bool b]:=by rw[ha.gd d vG];exact hb
   unfold cR;rw[OY ha.base,hf];simp only[af,im,hg,hd,LI];cases b<;>simp only[af,ae,adA LI]
  split at hgo;rename_i hw;obtain⟨u,h1,h2,h3⟩:=Wx (X:=X) EH hm hf hgo;exact⟨u,h1,h2,λst2 ha=>by rw[h2g st2 ha,aM hw];exact h3 st2 ha.base⟩;rename_i hw;cases hgo;exact⟨K2 o (.one .un),IU _,by rw[xj],λst2 ha=>by rw[h2g st2 ha,aK hw,xj]⟩;rename_i hb;cases h;refine⟨K2 o (.one .un),IU _,by rw[xj],λst2 ha=>?_⟩;have LI:st2.get d=.val false [.un]:=by rw[ha.gd d vG];exact hb
  unfold cR;rw[OY ha.base,hf,xj];simp only[af,im,hg,hd,LI];cases h;cases h
theorem kf (l:ar α){i j:Nat}(h:i≠j)(v w:α):iQ (iQ l i v) j w=iQ (iQ l j w) i v:=by rw[fE,fE,fE,fE,List.set_comm _ _ h]
theorem agy (l:ar AV)(a:ar (Nat×AV)){i:Nat}(v:AV)(h:∀x∈a,x.1≠i):lI (iQ l i v) a=iQ (lI l a) i v:=by induction a generalizing l with|nil=>rfl|cons x a ih=>simp only[lI];rw[kf _ (cX (h x (by simp))),ih _ (λy hy=>h y (by simp[hy]))]
theorem adx (l:ar AV)(a b:ar (Nat×AV))(h:∀x∈a,∀y∈b,x.1≠y.1):lI (lI l a) b=lI (lI l b) a:=by induction b generalizing l with|nil=>rfl|cons y b ih=>simp only[lI];rw[<-agy l a y.2 (λx hx=>h x hx y (by simp)),ih _ (λx hx z hz=>h x hx z (by simp[hz]))]
theorem Xu (l:ar AV)(a:ar (Nat×AV))(h:∀x∈a,x.1≠t):nth (lI l a) t=nth l t:=by induction a generalizing l with|nil=>rfl|cons x a ih=>rw[lI,ih _ (λy hy=>h y (by simp[hy])),kT,aK (h x (by simp))]
theorem oq {a b:ei}(h:meets a b=false):∀x∈a,x∉b:=by intro x hx hb;unfold meets at h;rw[List.any_eq_false]at h;exact h x hx (by simpa using hb)
theorem Rm.ali {u:Rm}{o p:Oper}(hw:u.OJ an o)(h1:∀x∈writes an o,x∉dM p++Mf an ops p++writes an p)(h2:∀d∈M0 an o,Y.contains d=true)(h3:∀d∈M0 an o,p.dst≠some d): ZF an ops Y p (u.apply st) st/\ZF an ops Y p st (u.apply st):=by
 have iP:∀t,t∈dM p++Mf an ops p++writes an p->(u.apply st).get t=st.get t:=by intro t ht;unfold AS.get;have:nth (u.apply st).slots t=nth st.slots t:=Xu _ _ (λx hx he=>h1 _ (hw.slots x hx) (by rw[he];exact ht));rw[this]
 have ai8:∀d,p.dst=some d->nth (u.apply st).iss d=nth st.iss d/\nth (u.apply st).boxes d=nth st.boxes d:=by
  intro d hd;have hd':d∈dM p++Mf an ops p++writes an p:=by simp[writes,hd]
  have JG:o.dst≠some d:=λhe=>h1 d (by simp[writes,he]) hd';constructor;unfold Rm.apply;cases hi:u.iss with|none=>rfl|some k=>simp only;rw[kT,aK];rintro rfl;exact JG (hw.iss _ hi)
  unfold Rm.apply;cases hi:u.box with|none=>rfl|some k=>simp only;rw[kT,aK];intro he;exact h3 _ (hw.box k hi) (by rw[he];exact hd)
 have arw:∀s,Y.contains s=false->nth (u.apply st).boxes s=nth st.boxes s:=by intro s hs;unfold Rm.apply;cases hi:u.box with|none=>rfl|some k=>simp only;rw[kT,aK];rintro rfl;have:=h2 k.1 (hw.box k hi);rw[this]at hs;cases hs
 have hlen:(u.apply st).slots.length=st.slots.length:=V6 _ _;exact⟨⟨⟨hlen.symm,λt ht=>(iP t (by simp[ht])).symm,rfl,λd hd=>⟨((ai8 d hd).1).symm,((ai8 d hd).2).symm⟩,λs hs=>(arw s hs).symm,λt ht=>(iP t (by simp[Mf,ht])).symm⟩,λt ht=>(iP t (by simp[ht])).symm⟩,⟨⟨hlen,λt ht=>iP t (by simp[ht]),rfl,ai8,arw,λt ht=>iP t (by simp[Mf,ht])⟩,λt ht=>iP t (by simp[ht])⟩⟩
theorem aeV {u v:Rm}{o p:Oper}(hu:u.OJ an o)(hv:v.OJ an p)(h:∀x∈writes an o,x∉writes an p)(hb:∀x∈M0 an o,x∉M0 an p):v.apply (u.apply st)=u.apply (v.apply st):=by
 have hdd:∀a b,o.dst=some a->p.dst=some b->a≠b:=λa b ha hb he=>h a (by simp[writes,ha]) (by simp[writes,hb,he]);have hs:=adx st.slots u.slots v.slots (λx hx y hy he=>h _ (hu.slots x hx) (by rw[he];exact hv.slots y hy));simp only[Rm.apply,AS.mk.injEq,true_and,iX];refine⟨hs,?_,?_⟩;cases hub:u.box with|none=>cases v.box<;>rfl|some k=>cases hvb:v.box with|none=>rfl|some l=>exact kf _ (λhe=>hb _ (hu.box k hub) (by rw[he];exact hv.box l hvb)) _ _
 cases hui:u.iss with|none=>cases v.iss<;>rfl|some k=>cases hvi:v.iss with|none=>rfl|some l=>exact kf _ (hdd _ _ (hu.iss k hui) (hv.iss l hvi)) _ _
theorem ag5 (EH:∀f,(Γ f).io=false/\((Γ f).bx=true->(Γ f).cur=true)/\(Γ f).pr=false){o p:Oper}(ha:aeT an ops X Y o p=true)(h1:cR E Γ an ops X o st=some s1)(h2:cR E Γ an ops Y p s1=some s2): ∃t1,cR E Γ an ops Y p st=some t1/\cR E Γ an ops X o t1=some s2:=by
 simp only[aeT,ah,aW,aP]at ha;obtain⟨⟨⟨⟨⟨⟨⟨mo,mp⟩,w1⟩,w2⟩,b1⟩,b2⟩,b3⟩,b4⟩:=ha;have w1:=oq w1;have w2:=oq w2;have b3:=oq b3;have b4:=oq b4;obtain⟨u,hu,rfl,hu2⟩:=Tl EH mo h1;obtain⟨v,hv,rfl,SX⟩:=Tl EH mp h2;have ag1:=Rm.ali (ops:=ops) (p:=p) (Y:=Y) (st:=st) hu w1 b1 (λd hd he=>b3 d hd (by simp[he]));have hww:∀x∈writes an p,x∉dM o++Mf an ops o++writes an o:=by intro x hx hm;rcases aA.1 hm with hm|hm;exact w2 x hx hm;exact w1 x hm (by simp[hx])
 have ag2:=Rm.ali (ops:=ops) (p:=o) (Y:=X) (st:=st) hv hww b2 (λd hd he=>b4 d hd (by simp[he]));refine⟨v.apply st,SX st ag1.1,?_⟩;rw[hu2 _ ag2.2,aeV hu hv (λx hx hm=>w1 x hx (by simp[hm])) (λx hx hm=>b3 x hx (by simp[hm]))]
theorem PY {v w:AV}(h:st.get t=v)(hv:v≠ .bot):(st.put (some t) w).get t=w:=by
 unfold AS.get at h;cases hn:nth st.slots t with
 |none=>rw[hn]at h;exact absurd h.symm hv
 |some q=>
  have hl:t<st.slots.length:=by rw[dY]at hn;exact(aJ.1 hn).1
  unfold AS.get AS.put;simp only[dY,fE];rw[List.getElem?_set_self hl];rfl
theorem zk {w:AV}(h:d≠t):(st.put (some d) w).get t=st.get t:=by unfold AS.get AS.put;simp only[kT,aK h]
theorem I5 {o:Oper}{i:Nat}(ho:o.op=.extract (.tmp t) i)(hd:o.dst=some d)(hg:o.guard=none):cR E Γ an ops X o st=some s↔ ∃vs g cs,st.get t=.Af vs/\nth vs i=some (g,cs)/\(cs.all AC.hY||an.mv.contains d)=true/\s=(st.put (some t) (.Af (iQ vs i (g,bc 0 cs)))).put (some d) (.val g cs):=by
 unfold cR;simp only[dI,ho,hd];constructor;intro h;cases hv:st.get t with|val g cs=>simp only[hv,af,im,hg,df,ho,nQ]at h;cases h|Af vs=>simp only[hv]at h;cases hn:nth vs i with|none=>simp only[hn,af,im,hg,df,ho,nQ,hv]at h;cases h|some x=>obtain⟨g,cs⟩:=x;simp only[hn]at h;cases hf:(cs.all AC.hY||an.mv.contains d)with|false=>rw[hf]at h;cases h|true=>rw[hf]at h;simp only[af,im,hg,df,ho,nQ,hv,hn,hd]at h;cases h;exact⟨vs,g,cs,rfl,hn,hf,rfl⟩
 rintro⟨vs,g,cs,hv,hn,hf,rfl⟩;simp only[hv,hn,hf,af,im,hg,df,ho,nQ,hd]
theorem akq (l:ar α)(i:Nat)(v w:α):iQ (iQ l i v) i w=iQ l i w:=by rw[fE,fE,fE,dF]
theorem alO {o p:Oper}(ha:aft o p=true)(h1:cR E Γ an ops X o st=some s1)(h2:cR E Γ an ops Y p s1=some s2): ∃t1,cR E Γ an ops Y p st=some t1/\cR E Γ an ops X o t1=some s2:=by
 unfold aft at ha;split at ha;rename_i t i t' j d d' ho hp hd hd' hg oY;simp only[ah,bn,aW,cz,ne_eq]at ha;obtain⟨⟨⟨⟨rfl,hij⟩,hdd⟩,hdt⟩,arz⟩:=ha;obtain⟨vs,g,cs,hv,hn,hf,rfl⟩:=(I5 ho hd hg).1 h1;obtain⟨vs2,g2,LR,SX,Dc,JF,rfl⟩:=(I5 hp hd' oY).1 h2;have hq:((st.put (some t) (.Af (iQ vs i (g,bc 0 cs)))).put (some d) (.val g cs)).get t=.Af (iQ vs i (g,bc 0 cs)):=by rw[zk hdt,PY hv (by simp)]
 rw[hq]at SX;cases SX;rw[kT,aK hij]at Dc;refine⟨_,(I5 hp hd' oY).2 ⟨vs,g2,LR,hv,Dc,JF,rfl⟩,(I5 ho hd hg).2 ⟨iQ vs j (g2,bc 0 LR),g,cs,?_,?_,hf,?_⟩⟩;rw[zk arz,PY hv (by simp)];rw[kT,aK (cX hij)];exact hn;have e:=kf vs hij (g,bc 0 cs) (g2,bc 0 LR);have a:∀(A B:AV)(q:Nat)(v:AV),q≠t->iQ (iQ (iQ st.slots t A) q v) t B=iQ (iQ st.slots t B) q v:=λA B q v hq=>by rw[kf _ hq,akq]
 simp only[AS.put,AS.mk.injEq,iX];rw[a _ _ _ _ hdt,a _ _ _ _ arz,e,kf _ hdd];cases ha
theorem aib (s:AS)(t:Nat):s.put (some t) (s.get t)=s:=by cases s with|mk slots boxes ep iss io=>simp only[AS.put,AS.mk.injEq,iX];rw[fE];apply cW;intro i;rw[bu];split;rename_i hd;subst hd;simp only[AS.get,dY];split;rename_i iJ;rw[al iJ];rfl;rename_i Fp;rw[bL (Nat.le_of_not_lt Fp)];rfl
theorem adP {o:Oper}(hd:o.dst=some d)(hg:o.guard=none)(ho:(o.op=.move (.tmp t)/\an.mv.contains d=false/\an.fm.contains d=true)\/∃i,o.op=.extract (.tmp t) i)(_hdt:d≠t)(h:cR E Γ an ops X o st=some s): ∃tv v,s=(st.put (some t) tv).put (some d) v/\∀st2:AS,st2.get t=st.get t->cR E Γ an ops X o st2=some ((st2.put (some t) tv).put (some d) v):=by
 rcases ho with⟨ho,Lg,T9⟩|⟨i,ho⟩;have P7:∀st2:AS,st2.get t=st.get t->(st.rd (.tmp t)).mV=true->st2.rd (.tmp t)=st.get t:=by
  intro st2 hq hs;simp only[AS.rd,hq]at hs⊢;cases hv:st.get t with
  |Af vs=>rw[hv]at hs;simp[AV.borrow,AV.mV]at hs
  |val g cs=>
   rw[hv]at hs;simp only[AV.borrow,AV.mV]at hs⊢;congr 1;have key:∀(cs:ar AC)(j:Nat),(jl st.ep (λj=>lW.slot t j) j cs).all AC.mV=true->jl st2.ep (λj=>lW.slot t j) j cs=cs:=by
    intro cs;induction cs with
    |nil=>intro j _;rfl
    |cons c cs ih=>
     intro j h;simp only[jl,bV,ah]at h⊢;rw[ih (j+1) h.2];congr 1;cases c with
     |sl fl e xs=>cases fl with|fL _ _ ep=>cases ep<;>simp[AC.borrow,AC.mV]at h|_=>simp[AC.borrow,AC.mV]at h
     |_=>rfl
   exact key cs 0 hs
 unfold cR at h;have nm:(st.rd (.tmp t)).mV=true:=by cases hs:(st.rd (.tmp t)).mV with|true=>rfl|false=>simp only[dI,ho,fmB,hd,T9,hs]at h;cases h
 refine⟨st.get t,st.get t,?_,λst2 hq=>?_⟩;simp only[dI,ho,fmB,hd,T9,nm,jA,af,im,hg,df,Jn,Lg,bg,cE]at h;cases h;rw[P7 st rfl nm];congr 1;exact(aib st t).symm;unfold cR;have e1:=P7 st2 hq nm;have aah:(st2.rd (.tmp t)).mV=true:=by rw[e1,<-P7 st rfl nm];exact nm
 simp only[dI,ho,fmB,hd,T9,aah,jA,af,im,hg,df,Jn,Lg,bg,cE];rw[e1,<-hq,aib];obtain⟨vs,g,cs,hv,hn,hf,rfl⟩:=(I5 ho hd hg).1 h;refine⟨_,_,rfl,λst2 hq=>(I5 ho hd hg).2 ⟨vs,g,cs,by rw[hq,hv],hn,hf,rfl⟩⟩
theorem aoz {p:Oper}{q x:Nat}(hp:p.op=.store T (.tmp q) (.tmp x))(hd:p.dst=none)(hg:p.guard=none)(heb:(an.eb q).isSome=true)(hes:(an.es q).isNone=true)(hsb:(an.sb q).isNone=true)(hl:GV an p=false)(h:cR E Γ an ops Y p st=some s): ∃B,s=⟨iQ st.slots x ((st.get x).bc st.ep),B,st.ep+1,st.iss,st.io⟩/\ ∀st2:AS,st2.get q=st.get q->st2.get x=st.get x->st2.boxes=st.boxes->st2.ep=st.ep->st2.iss=st.iss->st2.io=st.io-> cR E Γ an ops Y p st2=some ⟨iQ st2.slots x ((st.get x).bc st.ep),B,st.ep+1,st.iss,st.io⟩:=by
 have gX:∀st2:AS,st2.get q=st.get q->st2.ep=st.ep->dI E an Y p st2=dI E an Y p st:=by intro st2 h1 h2;simp only[dI,hp,AS.rd,h1,h2]
 unfold cR at h;cases hf:dI E an Y p st with
 |false=>rw[hf]at h;cases h
 |true=>
  rw[hf]at h;simp only[af,im,hg,df,hp,hd,hl,bg,cE]at h;have iA:=hf;simp only[dI,hp]at iA;have O2:((an.sb q).isNone&&(an.eb q).isNone&&(an.es q).isNone)=false:=by cases he:an.eb q with|none=>rw[he]at heb;cases heb|some _=>simp
  rw[O2,cC]at iA;unfold C3 at h;split at h;rename_i P7;rw[P7]at iA;simp only[ah,bn]at iA;rw[iA.2]at hsb;cases hsb;rename_i sh UY r tg e y i off hT P7;rw[P7]at iA;cases r with
  |slot _ _=>simp only[ah,bn]at iA;rw[iA.1.1]at hes;cases hes
  |io _=>simp at iA
  |box b j=>
   split at h;rename_i gg vs st1 xC;have e1:(st.get x)=.val gg vs:=by have:=congrArg Prod.fst xC;exact this
   have e2:st1=⟨iQ st.slots x ((st.get x).bc st.ep),st.boxes,st.ep,st.iss,st.io⟩:=by have:=congrArg Prod.snd xC;exact this.symm
   split at h;rename_i hlen;have main:∃B,∀sl:ar AV,(⟨sl,st.boxes,st.ep,st.iss,st.io⟩:AS).sM (.box b j) tg e i off vs some=some ⟨sl,B,st.ep+1,st.iss,st.io⟩:=by
    subst e2;simp only[AS.sM,AS.fj,AS.fD,AS.eZ]at h⊢;cases hb:(nth st.boxes b).getD none with
    |none=>rw[hb]at h;simp at h
    |some cs=>
     rw[hb]at h;simp only[eV]at h⊢;split at h;rename_i t' e' xs hn;split at h;rename_i he;simp only[dif_pos he];generalize (he▸xs:ar e.D)=zs at h⊢;split at h;rename_i ht;simp only[aM ht];cases hi:idx zs i with|none=>rw[hi]at h;simp[aa]at h|some y0=>simp only[hi,aa]at h⊢;split at h;exact⟨_,λsl=>rfl⟩;cases h
     cases h;cases h;rename_i t' i' q0 e' xs hn;split at h;rename_i he;simp only[dif_pos he];generalize (he▸xs:ar e.D)=zs at h⊢;split at h;rename_i ht;simp only[aM ht];cases hi:aje zs i' i with|none=>rw[hi]at h;simp[aa]at h|some y0=>simp only[hi,aa]at h⊢;split at h;exact⟨_,λsl=>rfl⟩;cases h
     cases h;cases h;cases h
   obtain⟨B,hB⟩:=main;refine⟨B,?_,λst2 h1 h2 h3 h4 h5 h6=>?_⟩;subst e2;rw[hB]at h;exact(cY h).symm;unfold cR;rw[gX st2 h1 h4,hf];have r2:st2.rd (.tmp q)=st.rd (.tmp q):=by simp only[AS.rd,h1,h4]
   have t2:st2.take (.tmp x)=(.val gg vs,⟨iQ st2.slots x ((st.get x).bc st.ep),st.boxes,st.ep,st.iss,st.io⟩):=by simp only[AS.take,AS.put,h2,h3,h4,h5,h6,e1]
   simp only[af,im,hg,df,hp,hd,hl,bg,cE,C3,hT,r2,P7,t2];rw[aM hlen];exact hB _;cases h;cases h
  cases h
theorem alx {p:Oper}{q x:Nat}(hp:p.op=.store T (.tmp q) (.tmp x))(hd:p.dst=none)(hg:p.guard=none){b:Nat}(hes:an.es q=some b)(heb:(an.eb q).isNone=true)(kW:b≠x)(hsb:(an.sb q).isNone=true)(hl:GV an p=false)(h:cR E Γ an ops Y p st=some s): ∃B,s=⟨iQ (iQ st.slots x ((st.get x).bc st.ep)) b B,st.boxes,st.ep+1,st.iss,st.io⟩/\ ∀st2:AS,st2.get q=st.get q->st2.get x=st.get x->nth st2.slots b=nth st.slots b->st2.boxes=st.boxes->st2.ep=st.ep->st2.iss=st.iss->st2.io=st.io-> cR E Γ an ops Y p st2=some ⟨iQ (iQ st2.slots x ((st.get x).bc st.ep)) b B,st.boxes,st.ep+1,st.iss,st.io⟩:=by
 have gX:∀st2:AS,st2.get q=st.get q->st2.ep=st.ep->dI E an Y p st2=dI E an Y p st:=by intro st2 h1 h2;simp only[dI,hp,AS.rd,h1,h2]
 unfold cR at h;cases hf:dI E an Y p st with
 |false=>rw[hf]at h;cases h
 |true=>
  rw[hf]at h;simp only[af,im,hg,df,hp,hd,hl,bg,cE]at h;have iA:=hf;simp only[dI,hp]at iA;have O2:((an.sb q).isNone&&(an.eb q).isNone&&(an.es q).isNone)=false:=by rw[hes];simp
  rw[O2,cC]at iA;unfold C3 at h;split at h;rename_i P7;rw[P7]at iA;simp only[ah,bn]at iA;rw[iA.2]at hsb;cases hsb;rename_i sh UY r tg e y i off hT P7;rw[P7]at iA;cases r with
  |box _ _=>simp only[ah,bn]at iA;rw[iA.1.1]at heb;cases heb
  |io _=>simp at iA
  |slot b' j=>
   simp only[ah,bn]at iA;have hbb:b'=b:=cY (iA.1.1.symm.trans hes);subst hbb;split at h;rename_i gg vs st1 xC;have e1:(st.get x)=.val gg vs:=by have:=congrArg Prod.fst xC;exact this
   have e2:st1=⟨iQ st.slots x ((st.get x).bc st.ep),st.boxes,st.ep,st.iss,st.io⟩:=by have:=congrArg Prod.snd xC;exact this.symm
   split at h;rename_i hlen;have main:∃B,∀sl:ar AV,nth sl b'=nth st.slots b'->(⟨sl,st.boxes,st.ep,st.iss,st.io⟩:AS).sM (.slot b' j) tg e i off vs some=some ⟨iQ sl b' B,st.boxes,st.ep+1,st.iss,st.io⟩:=by
    subst e2;have iP:∀sl:ar AV,nth sl b'=nth st.slots b'->(⟨sl,st.boxes,st.ep,st.iss,st.io⟩:AS).get b'=st.get b':=λsl hq=>by unfold AS.get;rw[hq]
    have hq0:nth (iQ st.slots x ((st.get x).bc st.ep)) b'=nth st.slots b':=by rw[kT,aK (cX kW)]
    simp only[AS.sM,AS.fj,AS.fD,iP _ hq0]at h;cases hb:st.get b' with
    |Af _=>rw[hb]at h;simp at h
    |val g0 cs=>
     rw[hb]at h;simp only at h;split at h;rename_i t' e' xs hn;split at h;rename_i he;split at h;rename_i ht;cases hi:idx (he▸xs:ar e.D) i with|none=>rw[hi]at h;simp[aa]at h|some y0=>simp only[hi,aa]at h;split at h;rename_i x' Fe;refine⟨.val g0 (iQ cs j (.sl (.own (some t')) e ((he▸xs:ar e.D).set i.toNat x'))),λsl hq=>?_⟩;simp only[AS.sM,AS.fj,AS.fD,iP _ hq,hb,hn,dif_pos he,aM ht,hi,aa,Fe,AS.put];cases h
     cases h;cases h;rename_i t' i' q0 e' xs hn;split at h;rename_i he;split at h;rename_i ht;cases hi:aje (he▸xs:ar e.D) i' i with|none=>rw[hi]at h;simp[aa]at h|some y0=>simp only[hi,aa]at h;split at h;rename_i x' Fe;refine⟨.val g0 (iQ cs j (.sl (.own (some t')) e ((he▸xs:ar e.D).set i.toNat x'))),λsl hq=>?_⟩;simp only[AS.sM,AS.fj,AS.fD,iP _ hq,hb,hn,dif_pos he,aM ht,hi,aa,Fe,AS.put];cases h
     cases h;cases h;cases h
   obtain⟨B,hB⟩:=main;refine⟨B,?_,λst2 h1 h2 xk h3 h4 h5 h6=>?_⟩;subst e2;rw[hB _ (by rw[kT,aK (cX kW)])]at h;exact(cY h).symm;unfold cR;rw[gX st2 h1 h4,hf];have r2:st2.rd (.tmp q)=st.rd (.tmp q):=by simp only[AS.rd,h1,h4]
   have t2:st2.take (.tmp x)=(.val gg vs,⟨iQ st2.slots x ((st.get x).bc st.ep),st.boxes,st.ep,st.iss,st.io⟩):=by simp only[AS.take,AS.put,h2,h3,h4,h5,h6,e1]
   simp only[af,im,hg,df,hp,hd,hl,bg,cE,C3,hT,r2,P7,t2];rw[aM hlen];exact hB _ (by rw[kT,aK (cX kW)];exact xk);cases h;cases h
  cases h
theorem aoy {o p:Oper}(ha:afg an o p=true)(h1:cR E Γ an ops X o st=some s1)(h2:cR E Γ an ops Y p s1=some s2): ∃t1,cR E Γ an ops Y p st=some t1/\cR E Γ an ops X o t1=some s2:=by
 unfold afg at ha;split at ha;rename_i T q x hp hpd hpg;simp only[ah,aW]at ha;obtain⟨⟨⟨heb,hsb⟩,hl⟩,ha⟩:=ha;have arx:∃d t,o.dst=some d/\o.guard=none/\((o.op=.move (.tmp t)/\an.mv.contains d=false/\an.fm.contains d=true)\/∃i,o.op=.extract (.tmp t) i)/\d≠q/\d≠x/\t≠x/\d≠t/\t≠q:=by split at ha;rename_i t d ho hd hg;simp only[ah,aW,cz]at ha;exact⟨d,t,hd,hg,.inl ⟨ho,ha.1.1.1.1.1.1,ha.1.1.1.1.1.2⟩,ha.1.1.1.1.2,ha.1.1.1.2,ha.1.1.2,ha.2,ha.1.2⟩;rename_i t i d ho hd hg;simp only[ah,aW,cz]at ha;exact⟨d,t,hd,hg,.inr ⟨i,ho⟩,ha.1.1.1.1,ha.1.1.1.2,ha.1.1.2,ha.2,ha.1.2⟩;cases ha
 obtain⟨d,t,hd,hg,ho,hdq,hdx,htx,hdt,htq⟩:=arx;obtain⟨tv,v,rfl,ez⟩:=adP hd hg ho hdt h1;have hq:((st.put (some t) tv).put (some d) v).get q=st.get q:=by rw[zk hdq];exact zk htq
 have hx:((st.put (some t) tv).put (some d) v).get x=st.get x:=by rw[zk hdx,zk htx]
 simp only[dA,ah]at heb;rcases heb with⟨heb,hes⟩|hes;obtain⟨B,rfl,hgo⟩:=aoz hp hpd hpg heb hes hsb hl h2;have k1:=hgo st hq.symm hx.symm rfl rfl rfl rfl;refine⟨_,k1,?_⟩;have O1:(⟨iQ st.slots x ((((st.put (some t) tv).put (some d) v).get x).bc ((st.put (some t) tv).put (some d) v).ep),B,((st.put (some t) tv).put (some d) v).ep+1,((st.put (some t) tv).put (some d) v).iss,((st.put (some t) tv).put (some d) v).io⟩:AS).get t=st.get t:=by simp only[AS.get,kT,aK (cX htx)]
 rw[ez _ O1];simp only[AS.put,bf,AS.mk.injEq,iX];rw[kf _ (cX htx),kf _ (cX hdx)];cases hb:an.es q with
 |none=>rw[hb]at hes;cases hes
 |some b=>
  rw[hb]at hes;simp only[ah,aW,cz]at hes;obtain⟨⟨⟨heb,kW⟩,_⟩,hbw⟩:=hes;have hbw:=oq hbw b (by simp);have hbd:b≠d:=λe=>hbw (by simp[hd,e]);have hbt:b≠t:=λe=>hbw (by refine aA.2 (.inr ?_);rcases ho with⟨ho,_⟩|⟨i,ho⟩<;>simp[dM,ho,tm,e]);obtain⟨B,rfl,hgo⟩:=alx hp hpd hpg hb heb kW hsb hl h2;have xk:nth st.slots b=nth ((st.put (some t) tv).put (some d) v).slots b:=by simp only[AS.put,kT,aK (cX hbd),aK (cX hbt)]
  have k1:=hgo st hq.symm hx.symm xk rfl rfl rfl rfl;refine⟨_,k1,?_⟩;have O1:(⟨iQ (iQ st.slots x ((((st.put (some t) tv).put (some d) v).get x).bc ((st.put (some t) tv).put (some d) v).ep)) b B,((st.put (some t) tv).put (some d) v).boxes,((st.put (some t) tv).put (some d) v).ep+1,((st.put (some t) tv).put (some d) v).iss,((st.put (some t) tv).put (some d) v).io⟩:AS).get t=st.get t:=by simp only[AS.get,kT,aK (cX htx),aK hbt]
  rw[ez _ O1];simp only[AS.put,bf,AS.mk.injEq,iX];rw[kf _ hbt,kf _ hbd,kf _ (cX htx),kf _ (cX hdx)]
 cases ha
theorem abd {c:AC}(h:c.mV=true\/(c.borrow ep none).mV=true):c.borrow ep none=c:=by
 cases c with
 |sl fl e xs=>exfalso;cases fl with|fL _ _ ep=>cases ep<;>simp[AC.borrow,AC.mV]at h|_=>simp[AC.borrow,AC.mV]at h
 |_=>rfl
theorem Wu {cs:ar AC}{n:Nat}(iB:off+n<=cs.length)(k:Nat):(dw cs off (bc ep ((cs.drop off).take n)))[k]?=(cs[k]?).map λc=>if off<=k/\k<off+n then c.borrow ep none else c:=by
 have hl:(bc ep ((cs.drop off).take n)).length=n:=by simp[bc];omega
 unfold dw;rw[hl];by_cases h1:k<off;rw[aX,bI (by simp;omega),eX h1];have:(λc:AC=>if off<=k/\k<off+n then c.borrow ep none else c)=id:=by funext c;rw[ny];rfl
 rw[this,Option.map_id];rfl;by_cases h2:k<off+n;rw[bI (by simp[hl];omega),bw (by simp;omega)];have e:k-(cs.take off).length=k-off:=by simp;omega
 rw[e,bc,List.getElem?_map,eX (by omega),bR,show off+(k-off)=k by omega];congr 1;funext c;rw[zip];rw[bw (by simp[hl];omega)];have e:k-(cs.take off++bc ep ((cs.drop off).take n)).length=k-(off+n):=by simp[hl];omega
 rw[e,bR,show off+n+(k-(off+n))=k by omega];have:(λc:AC=>if off<=k/\k<off+n then c.borrow ep none else c)=id:=by funext c;rw[ny];rfl
 rw[this,Option.map_id];rfl
theorem Q6 {cs:ar AC}{n o2 n2:Nat}(iB:off+n<=cs.length)(h:((cs.drop o2).take n2).all AC.mV=true\/(((dw cs off (bc ep ((cs.drop off).take n))).drop o2).take n2).all AC.mV=true): ((dw cs off (bc ep ((cs.drop off).take n))).drop o2).take n2=(cs.drop o2).take n2:=by
 apply cW;intro k;by_cases hk:k<n2;rw[eX hk,eX hk,bR,bR,Wu iB];cases hc:cs[o2+k]? with|none=>rfl|some c=>simp only[dB];split;rename_i vG;refine congrArg some (abd ?_);rcases h with h|h;left;refine aP.1 h c (bM (i:=k) ?_);rw[eX hk,bR,hc];right;refine aP.1 h _ (bM (i:=k) ?_);rw[eX hk,bR,Wu iB,hc,dB,aM vG];rfl
 rw[bL (by simp;omega),bL (by simp;omega)]
theorem Sz {b:Nat}:∀{cs:ar AC}{j:Nat},cs.all AC.mV=true->jl ep (.box b) j cs=cs
 |[],_,_=>rfl
 |c::cs,j,h=>by simp only[bV,ah]at h;rw[jl,Sz h.2];congr 1;cases c<;>first|rfl|(simp[AC.mV]at h)
theorem WH {o:Oper}(h:IT an o=true):∃T q d,o.op=.load T (.tmp q)/\o.dst=some d/\o.guard=none/\an.mv.contains d=true/\(an.mb d).isSome=true:=by unfold IT at h;split at h;rename_i T q d ho hd hg;simp only[ah]at h;exact⟨T,q,d,ho,hd,hg,h.1,h.2⟩;cases h
theorem Vb {o:Oper}(h:Va an o=true):∃T q d,o.op=.load T (.tmp q)/\o.dst=some d/\o.guard=none/\an.mv.contains d=false/\an.fm.contains d=true:=by unfold Va at h;split at h;rename_i T q d ho hd hg;simp only[ah,aW]at h;exact⟨T,q,d,ho,hd,hg,h.1,h.2⟩;cases h
theorem NN {o:Oper}{q:Nat}(ht:IT an o=true)(ho:o.op=.load T (.tmp q))(hd:o.dst=some d)(hg:o.guard=none)(Lg:an.mv.contains d=true):cR E Γ an ops X o st=some s↔ ∃sh b off cs,jU E.ty T=some sh/\st.rd (.tmp q)=.val false [.ptr b off]/\(nth st.boxes b).getD none=some cs/\off+sh.ct.size<=cs.length/\X.contains b=false/\an.mb d=some b/\(fmB an o=true->Mc E T st b off=true)/\ s=(st.eZ b (some (dw cs off (bc st.ep ((cs.drop off).take sh.ct.size))))).put (some d) (.val sh.agg ((cs.drop off).take sh.ct.size)):=by
 have key:dI E an X o st=true->∀r,df E Γ an o st some=some r->∃b off,st.rd (.tmp q)=.val false [.ptr b off]:=by intro hf r hr;simp only[df,ho,sC]at hr;split at hr;rename_i hp;exact⟨_,_,hp⟩;rename_i hp;simp only[dI,ho,hp,ht,jA,ai,la,gN]at hf;cases hf;cases hr
 unfold cR;constructor;intro h;cases hf:dI E an X o st with|false=>rw[hf]at h;cases h|true=>rw[hf]at h;simp only[af,im,hg]at h;obtain⟨b,off,hp⟩:=key hf s h;simp only[dI,ho,hp,hd,Lg,ai,cC,ah,aW,bn,dA]at hf;simp only[df,ho,sC,hp]at h;cases hT:jU E.ty T with|none=>rw[hT]at h;cases h|some sh=>rw[hT]at h;simp only at h;cases hb:(nth st.boxes b).getD none with|none=>rw[hb]at h;cases h|some cs=>rw[hb]at h;simp only at h;split at h;rename_i iB;simp only[hd,Lg,cd]at h;cases h;refine⟨sh,b,off,cs,rfl,hp,hb,iB,hf.1.1,hf.1.2,λhm=>?_,rfl⟩;rcases hf.2 with g|g;rw[hm]at g;cases g;exact g;cases h
 rintro⟨sh,b,off,cs,hT,hp,hb,iB,hX,Rn,T9,rfl⟩;have hf:dI E an X o st=true:=by simp only[dI,ho,hp,hd,Lg,hX,Rn,ai,cC,ah,aW,bn,dA];refine⟨⟨bF,bF⟩,?_⟩;cases hm:fmB an o with|false=>exact .inl rfl|true=>exact .inr (T9 hm)
 rw[hf];simp only[af,im,hg,df,ho,sC,hp,hT,hb,aM iB,hd,Lg,cd]
theorem Nh {o:Oper}{q:Nat}(ho:o.op=.load T (.tmp q))(hd:o.dst=some d)(hg:o.guard=none)(Lg:an.mv.contains d=false)(T9:an.fm.contains d=true):cR E Γ an ops X o st=some s↔ ∃sh b off cs,jU E.ty T=some sh/\st.rd (.tmp q)=.val false [.ptr b off]/\(nth st.boxes b).getD none=some cs/\off+sh.ct.size<=cs.length/\X.contains b=false/\((cs.drop off).take sh.ct.size).all AC.mV=true/\ s=st.put (some d) (.val sh.agg ((cs.drop off).take sh.ct.size)):=by
 have hfb:fmB an o=true:=by simp only[fmB,hd,T9]
 have key:dI E an X o st=true->∀r,df E Γ an o st some=some r->∃b off,st.rd (.tmp q)=.val false [.ptr b off]:=by intro hf r hr;simp only[df,ho,sC]at hr;split at hr;rename_i hp;exact⟨_,_,hp⟩;rename_i hp;simp only[dI,ho,hp,hfb,jB,ai,la,gN]at hf;cases hf;cases hr
 unfold cR;constructor;intro h;cases hf:dI E an X o st with
 |false=>rw[hf]at h;cases h
 |true=>
  rw[hf]at h;simp only[af,im,hg]at h;obtain⟨b,off,hp⟩:=key hf s h;simp only[dI,ho,hp,hd,Lg,hfb,ai,bB,jB,cC,gw,ah,aW]at hf;simp only[df,ho,sC,hp]at h;cases hT:jU E.ty T with
  |none=>rw[hT]at h;cases h
  |some sh=>
   rw[hT]at h;simp only at h;cases hb:(nth st.boxes b).getD none with
   |none=>rw[hb]at h;cases h
   |some cs=>
    rw[hb]at h;simp only at h;split at h;rename_i iB;have nm:((cs.drop off).take sh.ct.size).all AC.mV=true:=by have:=hf.2;unfold Mc at this;rw[hT,hb]at this;exact this
    simp only[hd,Lg,bg,cE,Sz nm]at h;cases h;exact⟨sh,b,off,cs,rfl,hp,hb,iB,hf.1,nm,rfl⟩;cases h
 rintro⟨sh,b,off,cs,hT,hp,hb,iB,hX,nm,rfl⟩;have hf:dI E an X o st=true:=by simp only[dI,ho,hp,hd,Lg,hX,hfb,Mc,hT,hb,nm];rfl
 rw[hf];simp only[af,im,hg,df,ho,sC,hp,hT,hb,aM iB,hd,Lg,bg,cE,Sz nm]
theorem YZ {q:Nat}{v:AV}(h:d≠q):(st.put (some d) v).rd (.tmp q)=st.rd (.tmp q):=by simp only[AS.rd,zk h];rfl
theorem anq {q b:Nat}{cs:au (ar AC)}:(st.eZ b cs).rd (.tmp q)=st.rd (.tmp q):=rfl
theorem ae2 {b:Nat}{cs x:ar AC}(h:(nth st.boxes b).getD none=some cs):(nth (iQ st.boxes b (some x)) b).getD none=some x:=by
 rw[kT,aM rfl];cases hn:nth st.boxes b with
 |none=>rw[hn]at h;cases h
 |some _=>
  have:b<st.boxes.length:=by rw[dY]at hn;exact(aJ.1 hn).1
  rw[aM this];rfl
theorem ae3 {b b2:Nat}{x:ar AC}(h:b≠b2):nth (iQ st.boxes b (some x)) b2=nth st.boxes b2:=by rw[kT,aK h]
theorem ao4 {o p:Oper}(ha:agb an o p=true)(h1:cR E Γ an ops X o st=some s1)(h2:cR E Γ an ops Y p s1=some s2): ∃t1,cR E Γ an ops Y p st=some t1/\cR E Γ an ops X o t1=some s2:=by
 simp only[agb,ah,dA,aW]at ha;obtain⟨⟨ha,m1⟩,m2⟩:=ha;have m1:=oq m1;have m2:=oq m2;rcases ha with⟨ht,hf⟩|⟨hf,ht⟩;obtain⟨T,q,d,ho,hd,hg,Lg,Rn⟩:=WH ht;obtain⟨T2,q2,d2,hp,hd2,O1,acq,aja⟩:=Vb hf;have n1:d≠d2:=λe=>m1 d (by simp[hd]) (by simp[hd2,e]);have n2:d≠q2:=λe=>m1 d (by simp[hd]) (by simp[dM,hp,tm,e]);have n3:d2≠q:=λe=>m2 d2 (by simp[hd2]) (by simp[dM,ho,tm,e]);obtain⟨sh,b,off,cs,hT,hr,hb,iB,hX,aqz,T9,rfl⟩:=(NN ht ho hd hg Lg).1 h1;obtain⟨sh2,b2,Xt,LR,hT2,Xe,LI,ahL,hX2,aah,rfl⟩:=(Nh hp hd2 O1 acq aja).1 h2;rw[YZ n2,anq]at Xe;have kW:(nth (iQ st.boxes b (some (dw cs off (bc st.ep ((cs.drop off).take sh.ct.size))))) b2).getD none=some LR:=LI;have nk:∃W0,(nth st.boxes b2).getD none=some W0/\Xt+sh2.ct.size<=W0.length/\(LR.drop Xt).take sh2.ct.size=(W0.drop Xt).take sh2.ct.size:=by
  by_cases hbb:b=b2;subst hbb;rw[ae2 hb]at kW;cases kW;have hlen:(dw cs off (bc st.ep ((cs.drop off).take sh.ct.size))).length=cs.length:=by simp only[dw,bc,ay,bW,bm,bl];omega
  exact⟨cs,hb,by omega,Q6 iB (.inr aah)⟩;rw[ae3 hbb]at kW;exact⟨LR,kW,ahL,rfl⟩
 obtain⟨W0,Yi,aco,he⟩:=nk;rw[he]at aah⊢;refine⟨_,(Nh hp hd2 O1 acq aja).2 ⟨sh2,b2,Xt,W0,hT2,Xe,Yi,aco,hX2,aah,rfl⟩,(NN ht ho hd hg Lg).2 ⟨sh,b,off,cs,hT,by rw[YZ n3];exact hr,hb,iB,hX,aqz,λhm=>?_,?_⟩⟩;have:=T9 hm;unfold Mc at this⊢;exact this;simp only[AS.put,AS.eZ,AS.mk.injEq,iX];exact kf _ n1 _ _;obtain⟨T,q,d,ho,hd,hg,Lg,T9⟩:=Vb hf;obtain⟨T2,q2,d2,hp,hd2,O1,acq,aqy⟩:=WH ht;have n1:d≠d2:=λe=>m1 d (by simp[hd]) (by simp[hd2,e]);have n2:d≠q2:=λe=>m1 d (by simp[hd]) (by simp[dM,hp,tm,e]);have n3:d2≠q:=λe=>m2 d2 (by simp[hd2]) (by simp[dM,ho,tm,e]);obtain⟨sh,b,off,cs,hT,hr,hb,iB,hX,nm,rfl⟩:=(Nh ho hd hg Lg T9).1 h1;obtain⟨sh2,b2,Xt,LR,hT2,Xe,LI,ahL,hX2,aqz,aja,rfl⟩:=(NN ht hp hd2 O1 acq).1 h2;rw[YZ n2]at Xe;refine⟨_,(NN ht hp hd2 O1 acq).2 ⟨sh2,b2,Xt,LR,hT2,Xe,LI,ahL,hX2,aqz,λhm=>aja hm,rfl⟩,?_⟩;have nk:∃W0,(nth (iQ st.boxes b2 (some (dw LR Xt (bc st.ep ((LR.drop Xt).take sh2.ct.size))))) b).getD none=some W0/\off+sh.ct.size<=W0.length/\(W0.drop off).take sh.ct.size=(cs.drop off).take sh.ct.size:=by
  by_cases hbb:b2=b;subst hbb;have RJ:LR=cs:=cY (LI.symm.trans hb);subst RJ;have hlen:(dw LR Xt (bc st.ep ((LR.drop Xt).take sh2.ct.size))).length=LR.length:=by simp only[dw,bc,ay,bW,bm,bl];omega
  exact⟨_,ae2 hb,by omega,Q6 ahL (.inl nm)⟩;exact⟨cs,by rw[ae3 hbb];exact hb,iB,rfl⟩
 obtain⟨W0,Yi,aco,he⟩:=nk;refine(Nh ho hd hg Lg T9).2 ⟨sh,b,off,W0,hT,by rw[YZ n3,anq];exact hr,Yi,aco,hX,by rw[he];exact nm,?_⟩;rw[he];simp only[AS.put,AS.eZ,AS.mk.injEq,iX];exact kf _ n1 _ _
theorem WG {o:Oper}{q:Nat}(ht:MW an o=true)(ho:o.op=.load T (.tmp q))(hd:o.dst=some d)(hg:o.guard=none)(Lg:an.mv.contains d=true)(Rn:an.mb d=none):cR E Γ an ops X o st=some s↔ ∃(g:Bool)(e:CT)(lG:ar (Nat×Nat))(b j t UY:Nat)(x:e.D)(i:Int)(cs:ar AC)(ys:ar e.D)(y:e.D),jU E.ty T=some ⟨g,e,lG⟩/\st.rd (.tmp q)=.val false [.HM (.loc UY (some (.box b j,t))) e x i 0]/\(nth st.boxes b).getD none=some cs/\nth cs j=some (.sl (.own (some t)) e ys)/\idx ys i=some y/\ X.contains b=false/\an.eb q=some b/\fmB an o=false/\s=(Re st b j t e i cs ys).put (some d) (.val g (cellsOf e (.own none) y)):=by rw[<-WE ht ho hd Lg Rn];unfold cR;cases dI E an X o st with|false=>simp|true=>simp only[af,im,hg,df,ho,true_and]
theorem aki {o:Oper}(h:Ih an o=true):∃T q d,o.op=.load T (.tmp q)/\o.dst=some d/\o.guard=none/\an.mv.contains d=false/\fmB an o=false:=by unfold Ih at h;split at h;rename_i T q d ho hd hg;simp only[ah,aW]at h;exact⟨T,q,d,ho,hd,hg,h.1.1,by simp only[fmB,hd];exact h.1.2⟩;cases h
theorem V4 {o:Oper}{q:Nat}(HF:Ih an o=true)(ho:o.op=.load T (.tmp q))(hd:o.dst=some d)(hg:o.guard=none)(Lg:an.mv.contains d=false)(T9:fmB an o=false):cR E Γ an ops X o st=some s↔ ∃sh b off cs,jU E.ty T=some sh/\st.rd (.tmp q)=.val false [.ptr b off]/\(nth st.boxes b).getD none=some cs/\off+sh.ct.size<=cs.length/\X.contains b=false/\ s=st.put (some d) (.val sh.agg (jl st.ep (.box b) off ((cs.drop off).take sh.ct.size))):=by
 unfold cR;constructor;intro h;cases hf:dI E an X o st with|false=>rw[hf]at h;cases h|true=>rw[hf]at h;simp only[af,im,hg,df,ho]at h;unfold sC at h;split at h;rename_i sh b off hT hp;simp only[dI,ho,hp,hd,Lg,T9,bB,jB,gw,aW]at hf;split at h;rename_i cs hb;split at h;rename_i iB;simp only[hd,Lg,bg,cE]at h;cases h;exact⟨sh,b,off,cs,hT,hp,hb,iB,hf,rfl⟩;cases h;cases h;rename_i hp;simp only[dI,ho,hp,HF,ai,la,gN]at hf;cases hf;cases h
 rintro⟨sh,b,off,cs,hT,hp,hb,iB,hX,rfl⟩;have hf:dI E an X o st=true:=by simp only[dI,ho,hp,hd,Lg,hX,T9];rfl
 rw[hf];simp only[af,im,hg,df,ho,sC,hp,hT,hb,aM iB,hd,Lg,bg,cE]
theorem UI {b:Nat}:∀(cs:ar AC)(p k:Nat)(c':AC),(∀c,cs[k]?=some c->∀r,c'.borrow ep (some r)=c.borrow ep (some r))->jl ep (.box b) p (cs.set k c')=jl ep (.box b) p cs
 |[],_,_,_,_=>rfl
 |c::cs,p,0,c',h=>by simp only[List.set_cons_zero,jl,h c rfl]
 |c::cs,p,k+1,c',h=>by simp only[List.set_cons_succ,jl];rw[UI cs (p+1) k c' (λc hc=>h c (by simpa using hc))]
theorem abC {b j n:Nat}{e:CT}{i:Int}{ys:ar e.D}{cs:ar AC}(hj:nth cs j=some (.sl (.own (some t)) e ys)): jl ep (.box b) off (((iQ cs j (.sl (.fL (some t) i (some ep)) e ys)).drop off).take n)=jl ep (.box b) off ((cs.drop off).take n):=by rw[fE,List.drop_set];split;rfl;rename_i iJ;rw[List.take_set];refine UI _ _ _ _ λc hc r=>?_;by_cases hn:j-off<n;rw[eX hn,bR,show off+(j-off)=j by omega,<-dY,hj]at hc;cases hc;rfl;rw[bL (by simp;omega)]at hc;cases hc
theorem aor {o p:Oper}(ha:ae5 an o p=true)(h1:cR E Γ an ops X o st=some s1)(h2:cR E Γ an ops Y p s1=some s2): ∃t1,cR E Γ an ops Y p st=some t1/\cR E Γ an ops X o t1=some s2:=by
 simp only[ae5,ah,aW]at ha;obtain⟨⟨⟨HF,ht⟩,m1⟩,m2⟩:=ha;have m1:=oq m1;have m2:=oq m2;obtain⟨T,q,d,ho,hd,hg,Lg,T9⟩:=aki HF;obtain⟨T2,q2,d2,hp,hd2,O1,acq,aqy⟩:=Zv ht;have n1:d≠d2:=λe=>m1 d (by simp[hd]) (by simp[hd2,e]);have n2:d≠q2:=λe=>m1 d (by simp[hd]) (by simp[dM,hp,tm,e]);have n3:d2≠q:=λe=>m2 d2 (by simp[hd2]) (by simp[dM,ho,tm,e]);obtain⟨sh,b,off,cs,hT,hr,hb,iB,hX,rfl⟩:=(V4 HF ho hd hg Lg T9).1 h1;obtain⟨g,e,lG,b2,j,t,UY,x,i,LR,ys,y,hT2,Xe,LI,hj,hi,hX2,heb,aja,rfl⟩:=(WG ht hp hd2 O1 acq aqy).1 h2;rw[YZ n2]at Xe;have aru:(nth st.boxes b2).getD none=some LR:=LI;refine⟨_,(WG ht hp hd2 O1 acq aqy).2 ⟨g,e,lG,b2,j,t,UY,x,i,LR,ys,y,hT2,Xe,aru,hj,hi,hX2,heb,aja,rfl⟩,?_⟩;have nk:∃W0,(nth (iQ st.boxes b2 (some (iQ LR j (.sl (.fL (some t) i (some st.ep)) e ys)))) b).getD none=some W0/\off+sh.ct.size<=W0.length/\jl st.ep (.box b) off ((W0.drop off).take sh.ct.size)=jl st.ep (.box b) off ((cs.drop off).take sh.ct.size):=by by_cases hbb:b2=b;subst hbb;have RJ:LR=cs:=cY (aru.symm.trans hb);subst RJ;exact⟨_,ae2 hb,by rw[fE,aL];exact iB,abC hj⟩;exact⟨cs,by rw[ae3 hbb];exact hb,iB,rfl⟩
 obtain⟨W0,Yi,aco,he⟩:=nk;refine(V4 HF ho hd hg Lg T9).2 ⟨sh,b,off,W0,hT,by rw[YZ n3];exact hr,Yi,aco,hX,?_⟩;show _=((Re st b2 j t e i LR ys).put (some d2) _).put (some d) (.val sh.agg (jl st.ep (.box b) off ((W0.drop off).take sh.ct.size)));rw[he];simp only[AS.put,Re,AS.eZ,AS.mk.injEq,iX];exact kf _ n1 _ _
def Xx (E:Env)(Γ:Cr)(an:An)(ops:ar Oper)(X:Nat->ei):ei->AS->au AS
 |[],st=>some st
 |i::r,st=>match nth ops i with
  |some o=>(cR E Γ an ops (X i) o st).bind (Xx E Γ an ops X r)
  |none=>none
theorem Wj (EH:∀f,(Γ f).io=false/\((Γ f).bx=true->(Γ f).cur=true)/\(Γ f).pr=false){X:Nat->ei}{i:Nat}{oi:Oper}(hi:nth ops i=some oi):∀(pre post:ei)(st r:AS),(∀j∈pre,∀oj,nth ops j=some oj->UC an ops (X j) (X i) oj oi=true)->
 Xx E Γ an ops X (pre++i::post) st=some r->Xx E Γ an ops X (i::(pre++post)) st=some r
 |[],post,st,r,_,h=>h
 |j::pre,post,st,r,ha,h=>by
  simp only[List.cons_append,Xx]at h;cases hj:nth ops j with
  |none=>rw[hj]at h;cases h
  |some oj=>
   rw[hj]at h;simp only at h;obtain⟨s1,h1,h2⟩:=aY.1 h;have h3:=Wj EH hi pre post s1 r (λk hk=>ha k (by simp[hk])) h2;simp only[Xx,hi]at h3;obtain⟨s2,h4,h5⟩:=aY.1 h3;have hap:=ha j (by simp) oj hj;obtain⟨t1,k1,k2⟩:∃t1,cR E Γ an ops (X i) oi st=some t1/\cR E Γ an ops (X j) oj t1=some s2:=by cases hx:anj an oj oi with|false=>rw[UC,hx,cC]at hap;exact ag5 EH hap h1 h4|true=>simp only[anj,dA]at hx;rcases hx with((hx|hx)|hx)|hx;exact alO hx h1 h4;exact aoy hx h1 h4;exact ao4 hx h1 h4;exact aor hx h1 h4
   simp only[Xx,hi,k1,eV,List.cons_append,hj,k2];exact h5
end Go.Dn
