import Derived.Test.YtfbhfnniblfpbaaGreatDnUpd
/- Operations that are apart may change places. -/
namespace Go.Dn
variable {E:Env} {Γ:xu} {an:An} {ops:au Oper}
variable {s s1 s2 st:AS} {d ep off t:Nat} {α:Type} {T:TypeId} {X Y:eo}
def cE (E:Env)(Γ:xu)(an:An)(ops:au Oper)(X:eo)(o:Oper)(st:AS):ax AS:=
 bif dx E an X o st then gi E Γ an ops o st some else none
structure RP (an:An) (ops:List Oper) (X:List Nat) (o:Oper) (st st2:AS):Prop where
 base:gF an X o st st2
 gd:∀t∈Fm an ops o,st2.get t=st.get t
theorem Vz {b:Bool}(h:st.get d=.val false [.bool b]):st.put (some d) (.one (.bool b))=st:=by cases st with|mk slots boxes ep iss io=>simp only[AS.put,AS.mk.injEq,iH];rw[fg];apply cS;intro i;rw[br];split;rename_i hd;subst hd;simp only[AS.get,dJ]at h;split;rename_i gB;rw[al gB]at h⊢;simp only[fj]at h;rw[h];rename_i Ae;rw[bJ (Nat.le_of_not_lt Ae)];rfl
theorem Sd {st2:AS}{s:Nat}(h:nth st2.boxes s=nth st.boxes s):Fg E T st2 s off=Fg E T st s off:=by unfold Fg;rw[h]
theorem HJ {o:Oper}{st2:AS}(ha:gF an X o st st2):dx E an X o st2=dx E an X o st:=by
 unfold dx;split;rename_i ho;rw[ha.rd (λt ht=>by simpa[dA,ho]using ht)];rename_i T p ho;rw[ha.rd (λt ht=>by simp[dA,ho,ht]),ha.ep];rename_i ho;rw[ha.rd (λt ht=>by simp[dA,ho,ht]),ha.ep];rename_i f args ts ho;have hcur:um an X (erS an o) st2 args.toList=um an X (erS an o) st args.toList:=by
  have hl:∀x∈args.toList,∀t∈tm x,t∈dA o:=by intro x hx t ht;simp only[dA,ho,aA,P5,List.mem_flatMap];exact .inr ⟨x,hx,ht⟩
  generalize args.toList=l at hl;cases l with
  |nil=>rfl
  |cons x xs=>
   have Cg:xs.all (Jv (erS an o) st2)=xs.all (Jv (erS an o) st):=by
    rw[fe];simp only[aL];have e:∀y∈xs,Jv (erS an o) st2 y=Jv (erS an o) st y:=by intro y hy;cases y with|tmp t=>have hg:=ha.get t (hl (.tmp t) (by simp[hy]) t (by simp[tm]));simp only[Jv,hg]|const v=>rfl|func v=>rfl|global v=>rfl
    exact⟨λg y hy=>by rw[<-e y hy];exact g y hy,λg y hy=>by rw[e y hy];exact g y hy⟩
   have hr:=ha.rd (hl x (by simp));cases x with
   |tmp q=>
    simp only[um,hr];generalize st.rd (.tmp q)=v;unfold acW;rw[Cg];split;rename_i s off;cases hX:X.contains s with|true=>simp|false=>rw[ha.box s hX]
    rfl
   |const v=>simp only[um,hr]
   |func v=>simp only[um,hr]
   |global v=>simp only[um,hr]
 rw[hcur];congr 1;rw[fe];simp only[aL];constructor;intro hx x hm;have:=hx x hm;rwa[ha.rd (λt ht=>by simp only[dA,ho,aA,P5,List.mem_flatMap];exact .inr ⟨x,hm,ht⟩),ha.ep]at this;intro hx x hm;rw[ha.rd (λt ht=>by simp only[dA,ho,aA,P5,List.mem_flatMap];exact .inr ⟨x,hm,ht⟩),ha.ep];exact hx x hm;rename_i ho;rw[ha.rd (λt ht=>by simpa[dA,ho]using ht),ha.ep];split;rename_i s off _;cases hX:X.contains s with|true=>rfl|false=>rw[Sd (ha.box s hX)]
 rfl;rfl;rename_i ho;rw[ha.rd (λt ht=>by simp only[dA,ho,aA];exact .inl ht)];rename_i ho;rw[ha.get _ (by simp[dA,ho])];rfl
theorem LV (B5:∀f,(Γ f).io=false/\((Γ f).bx=true->(Γ f).cur=true)/\(Γ f).pr=false){o:Oper}{bM:AS}(hm:nO an o=true)(h:cE E Γ an ops X o st=some bM): ∃u:J3,u.Hu an o/\bM=u.apply st/\∀st2,RP an ops X o st st2->cE E Γ an ops X o st2=some (u.apply st2):=by
 unfold cE at h;cases hf:dx E an X o st with
 |false=>rw[hf]at h;cases h
 |true=>
  rw[hf]at h;simp only[af]at h;unfold gi at h;split at h;rename_i hg;obtain⟨u,h1,h2,h3⟩:=OV (X:=X) B5 hm hf h;refine⟨u,h1,h2,λst2 ha=>?_⟩;unfold cE;rw[HJ ha.base,hf];simp only[af,gi,hg];exact h3 st2 ha.base;rename_i j H4 hg;split at h;rename_i d hd;have vS:d∈Fm an ops o:=by simp[Fm,hg,hd]
  split at h;rename_i b hb;have hgo:(if(b==H4)=true then dg E Γ an o st some else some (st.put o.dst (.one .un)))=some bM:=by cases b<;>simpa only[af,ae,Vz hb]using h
  have h2g:∀st2,RP an ops X o st st2->cE E Γ an ops X o st2=(if(b==H4)=true then dg E Γ an o st2 some else some (st2.put o.dst (.one .un))):=by
   intro st2 ha;have Ms:st2.get d=.val false [.bool b]:=by rw[ha.gd d vS];exact hb
   unfold cE;rw[HJ ha.base,hf];simp only[af,gi,hg,hd,Ms];cases b<;>simp only[af,ae,Vz Ms]
  split at hgo;rename_i hw;obtain⟨u,h1,h2,h3⟩:=OV (X:=X) B5 hm hf hgo;exact⟨u,h1,h2,λst2 ha=>by rw[h2g st2 ha,aF hw];exact h3 st2 ha.base⟩;rename_i hw;cases hgo;exact⟨Ew o (.one .un),CW _,by rw[tp],λst2 ha=>by rw[h2g st2 ha,aH hw,tp]⟩;rename_i hb;cases h;refine⟨Ew o (.one .un),CW _,by rw[tp],λst2 ha=>?_⟩;have Ms:st2.get d=.val false [.un]:=by rw[ha.gd d vS];exact hb
  unfold cE;rw[HJ ha.base,hf,tp];simp only[af,gi,hg,hd,Ms];cases h;cases h
theorem ji (l:au α){i j:Nat}(h:i≠j)(v w:α):gN (gN l i v) j w=gN (gN l j w) i v:=by rw[fg,fg,fg,fg,List.set_comm _ _ h]
theorem Yh (l:au AV)(a:au (Nat×AV)){i:Nat}(v:AV)(h:∀x∈a,x.1≠i):kc (gN l i v) a=gN (kc l a) i v:=by induction a generalizing l with|nil=>rfl|cons x a ih=>simp only[kc];rw[ji _ (cY (h x (by simp))),ih _ (λy hy=>h y (by simp[hy]))]
theorem Vw (l:au AV)(a b:au (Nat×AV))(h:∀x∈a,∀y∈b,x.1≠y.1):kc (kc l a) b=kc (kc l b) a:=by induction b generalizing l with|nil=>rfl|cons y b ih=>simp only[kc];rw[<-Yh l a y.2 (λx hx=>h x hx y (by simp)),ih _ (λx hx z hz=>h x hx z (by simp[hz]))]
theorem PO (l:au AV)(a:au (Nat×AV))(h:∀x∈a,x.1≠t):nth (kc l a) t=nth l t:=by induction a generalizing l with|nil=>rfl|cons x a ih=>rw[kc,ih _ (λy hy=>h y (by simp[hy])),jF,aH (h x (by simp))]
theorem md {a b:eo}(h:meets a b=false):∀x∈a,x∉b:=by intro x hx hb;unfold meets at h;rw[List.any_eq_false]at h;exact h x hx (by simpa using hb)
theorem J3.tr {u:J3}{o p:Oper}(hw:u.Hu an o)(h1:∀x∈writes an o,x∉dA p++Fm an ops p++writes an p)(h2:∀d∈F5 an o,Y.contains d=true)(h3:∀d∈F5 an o,p.dst≠some d): RP an ops Y p (u.apply st) st/\RP an ops Y p st (u.apply st):=by
 have gL:∀t,t∈dA p++Fm an ops p++writes an p->(u.apply st).get t=st.get t:=by intro t ht;unfold AS.get;have:nth (u.apply st).slots t=nth st.slots t:=PO _ _ (λx hx he=>h1 _ (hw.slots x hx) (by rw[he];exact ht));rw[this]
 have aaB:∀d,p.dst=some d->nth (u.apply st).iss d=nth st.iss d/\nth (u.apply st).boxes d=nth st.boxes d:=by
  intro d hd;have hd':d∈dA p++Fm an ops p++writes an p:=by simp[writes,hd]
  have DT:o.dst≠some d:=λhe=>h1 d (by simp[writes,he]) hd';constructor;unfold J3.apply;cases hi:u.iss with|none=>rfl|some k=>simp only;rw[jF,aH];rintro rfl;exact DT (hw.iss _ hi)
  unfold J3.apply;cases hi:u.box with|none=>rfl|some k=>simp only;rw[jF,aH];intro he;exact h3 _ (hw.box k hi) (by rw[he];exact hd)
 have aif:∀s,Y.contains s=false->nth (u.apply st).boxes s=nth st.boxes s:=by intro s hs;unfold J3.apply;cases hi:u.box with|none=>rfl|some k=>simp only;rw[jF,aH];rintro rfl;have:=h2 k.1 (hw.box k hi);rw[this]at hs;cases hs
 have hlen:(u.apply st).slots.length=st.slots.length:=Om _ _;exact⟨⟨⟨hlen.symm,λt ht=>(gL t (by simp[ht])).symm,rfl,λd hd=>⟨((aaB d hd).1).symm,((aaB d hd).2).symm⟩,λs hs=>(aif s hs).symm,λt ht=>(gL t (by simp[Fm,ht])).symm⟩,λt ht=>(gL t (by simp[ht])).symm⟩,⟨⟨hlen,λt ht=>gL t (by simp[ht]),rfl,aaB,aif,λt ht=>gL t (by simp[Fm,ht])⟩,λt ht=>gL t (by simp[ht])⟩⟩
theorem WR {u v:J3}{o p:Oper}(hu:u.Hu an o)(hv:v.Hu an p)(h:∀x∈writes an o,x∉writes an p)(hb:∀x∈F5 an o,x∉F5 an p):v.apply (u.apply st)=u.apply (v.apply st):=by
 have Si:∀a b,o.dst=some a->p.dst=some b->a≠b:=λa b ha hb he=>h a (by simp[writes,ha]) (by simp[writes,hb,he]);have hs:=Vw st.slots u.slots v.slots (λx hx y hy he=>h _ (hu.slots x hx) (by rw[he];exact hv.slots y hy));simp only[J3.apply,AS.mk.injEq,true_and,iH];refine⟨hs,?_,?_⟩;cases hub:u.box with|none=>cases v.box<;>rfl|some k=>cases hvb:v.box with|none=>rfl|some l=>exact ji _ (λhe=>hb _ (hu.box k hub) (by rw[he];exact hv.box l hvb)) _ _
 cases hui:u.iss with|none=>cases v.iss<;>rfl|some k=>cases hvi:v.iss with|none=>rfl|some l=>exact ji _ (Si _ _ (hu.iss k hui) (hv.iss l hvi)) _ _
theorem YM (B5:∀f,(Γ f).io=false/\((Γ f).bx=true->(Γ f).cur=true)/\(Γ f).pr=false){o p:Oper}(ha:WO an ops X Y o p=true)(h1:cE E Γ an ops X o st=some s1)(h2:cE E Γ an ops Y p s1=some s2): ∃t1,cE E Γ an ops Y p st=some t1/\cE E Γ an ops X o t1=some s2:=by
 simp only[WO,ah,aN,aL]at ha;obtain⟨⟨⟨⟨⟨⟨⟨mo,mp⟩,w1⟩,w2⟩,b1⟩,b2⟩,b3⟩,b4⟩:=ha;have w1:=md w1;have w2:=md w2;have b3:=md b3;have b4:=md b4;obtain⟨u,hu,rfl,hu2⟩:=LV B5 mo h1;obtain⟨v,hv,rfl,Sv⟩:=LV B5 mp h2;have ag1:=J3.tr (ops:=ops) (p:=p) (Y:=Y) (st:=st) hu w1 b1 (λd hd he=>b3 d hd (by simp[he]));have hww:∀x∈writes an p,x∉dA o++Fm an ops o++writes an o:=by intro x hx hm;rcases aA.1 hm with hm|hm;exact w2 x hx hm;exact w1 x hm (by simp[hx])
 have ag2:=J3.tr (ops:=ops) (p:=o) (Y:=X) (st:=st) hv hww b2 (λd hd he=>b4 d hd (by simp[he]));refine⟨v.apply st,Sv st ag1.1,?_⟩;rw[hu2 _ ag2.2,WR hu hv (λx hx hm=>w1 x hx (by simp[hm])) (λx hx hm=>b3 x hx (by simp[hm]))]
theorem ID {v w:AV}(h:st.get t=v)(hv:v≠ .bot):(st.put (some t) w).get t=w:=by
 unfold AS.get at h;cases hn:nth st.slots t with
 |none=>rw[hn]at h;exact absurd h.symm hv
 |some q=>
  have hl:t<st.slots.length:=by rw[dJ]at hn;exact(aE.1 hn).1
  unfold AS.get AS.put;simp only[dJ,fg];rw[List.getElem?_set_self hl];rfl
theorem uY {w:AV}(h:d≠t):(st.put (some d) w).get t=st.get t:=by unfold AS.get AS.put;simp only[jF,aH h]
theorem C4 {o:Oper}{i:Nat}(ho:o.op=.extract (.tmp t) i)(hd:o.dst=some d)(hg:o.guard=none):cE E Γ an ops X o st=some s↔ ∃vs g cs,st.get t=.xn vs/\nth vs i=some (g,cs)/\(cs.all AC.jl||an.mv.contains d)=true/\s=(st.put (some t) (.xn (gN vs i (g,aS 0 cs)))).put (some d) (.val g cs):=by
 unfold cE;simp only[dx,ho,hd];constructor;intro h;cases hv:st.get t with|val g cs=>simp only[hv,af,gi,hg,dg,ho,lS]at h;cases h|xn vs=>simp only[hv]at h;cases hn:nth vs i with|none=>simp only[hn,af,gi,hg,dg,ho,lS,hv]at h;cases h|some x=>obtain⟨g,cs⟩:=x;simp only[hn]at h;cases hf:(cs.all AC.jl||an.mv.contains d)with|false=>rw[hf]at h;cases h|true=>rw[hf]at h;simp only[af,gi,hg,dg,ho,lS,hv,hn,hd]at h;cases h;exact⟨vs,g,cs,rfl,hn,hf,rfl⟩
 rintro⟨vs,g,cs,hv,hn,hf,rfl⟩;simp only[hv,hn,hf,af,gi,hg,dg,ho,lS,hd]
theorem abZ (l:au α)(i:Nat)(v w:α):gN (gN l i v) i w=gN l i w:=by rw[fg,fg,fg,List.set_set]
theorem ac6 {o p:Oper}(ha:Xe o p=true)(h1:cE E Γ an ops X o st=some s1)(h2:cE E Γ an ops Y p s1=some s2): ∃t1,cE E Γ an ops Y p st=some t1/\cE E Γ an ops X o t1=some s2:=by
 unfold Xe at ha;split at ha;rename_i t i t' j d d' ho hp hd hd' hg oy;simp only[ah,bw,aN,cK,ne_eq]at ha;obtain⟨⟨⟨⟨rfl,hij⟩,Si⟩,hdt⟩,aik⟩:=ha;obtain⟨vs,g,cs,hv,hn,hf,rfl⟩:=(C4 ho hd hg).1 h1;obtain⟨vs2,g2,E0,Sv,E1,EH,rfl⟩:=(C4 hp hd' oy).1 h2;have hq:((st.put (some t) (.xn (gN vs i (g,aS 0 cs)))).put (some d) (.val g cs)).get t=.xn (gN vs i (g,aS 0 cs)):=by rw[uY hdt,ID hv (by simp)]
 rw[hq]at Sv;cases Sv;rw[jF,aH hij]at E1;refine⟨_,(C4 hp hd' oy).2 ⟨vs,g2,E0,hv,E1,EH,rfl⟩,(C4 ho hd hg).2 ⟨gN vs j (g2,aS 0 E0),g,cs,?_,?_,hf,?_⟩⟩;rw[uY aik,ID hv (by simp)];rw[jF,aH (cY hij)];exact hn;have e:=ji vs hij (g,aS 0 cs) (g2,aS 0 E0);have a:∀(A B:AV)(q:Nat)(v:AV),q≠t->gN (gN (gN st.slots t A) q v) t B=gN (gN st.slots t B) q v:=λA B q v hq=>by rw[ji _ hq,abZ]
 simp only[AS.put,AS.mk.injEq,iH];rw[a _ _ _ _ hdt,a _ _ _ _ aik,e,ji _ Si];cases ha
theorem ZJ (s:AS)(t:Nat):s.put (some t) (s.get t)=s:=by cases s with|mk slots boxes ep iss io=>simp only[AS.put,AS.mk.injEq,iH];rw[fg];apply cS;intro i;rw[br];split;rename_i hd;subst hd;simp only[AS.get,dJ];split;rename_i gB;rw[al gB];rfl;rename_i Ae;rw[bJ (Nat.le_of_not_lt Ae)];rfl
theorem VR {o:Oper}(hd:o.dst=some d)(hg:o.guard=none)(ho:(o.op=.move (.tmp t)/\an.mv.contains d=false/\an.fm.contains d=true)\/∃i,o.op=.extract (.tmp t) i)(_hdt:d≠t)(h:cE E Γ an ops X o st=some s): ∃tv v,s=(st.put (some t) tv).put (some d) v/\∀st2:AS,st2.get t=st.get t->cE E Γ an ops X o st2=some ((st2.put (some t) tv).put (some d) v):=by
 rcases ho with⟨ho,EK,Mt⟩|⟨i,ho⟩;have NG:∀st2:AS,st2.get t=st.get t->(st.rd (.tmp t)).ln=true->st2.rd (.tmp t)=st.get t:=by
  intro st2 hq hs;simp only[AS.rd,hq]at hs⊢;cases hv:st.get t with
  |xn vs=>rw[hv]at hs;simp[AV.borrow,AV.ln]at hs
  |val g cs=>
   rw[hv]at hs;simp only[AV.borrow,AV.ln]at hs⊢;congr 1;have key:∀(cs:au AC)(j:Nat),(ir st.ep (λj=>kL.slot t j) j cs).all AC.ln=true->ir st2.ep (λj=>kL.slot t j) j cs=cs:=by
    intro cs;induction cs with
    |nil=>intro j _;rfl
    |cons c cs ih=>
     intro j h;simp only[ir,bR,ah]at h⊢;rw[ih (j+1) h.2];congr 1;cases c with
     |sl fl e xs=>cases fl with|eY _ _ ep=>cases ep<;>simp[AC.borrow,AC.ln]at h|_=>simp[AC.borrow,AC.ln]at h
     |_=>rfl
   exact key cs 0 hs
 unfold cE at h;have lE:(st.rd (.tmp t)).ln=true:=by cases hs:(st.rd (.tmp t)).ln with|true=>rfl|false=>simp only[dx,ho,Ww,hd,Mt,hs]at h;cases h
 refine⟨st.get t,st.get t,?_,λst2 hq=>?_⟩;simp only[dx,ho,Ww,hd,Mt,lE,Bool.or_true,af,gi,hg,dg,Dp,EK,aX,cc]at h;cases h;rw[NG st rfl lE];congr 1;exact(ZJ st t).symm;unfold cE;have e1:=NG st2 hq lE;have Ss:(st2.rd (.tmp t)).ln=true:=by rw[e1,<-NG st rfl lE];exact lE
 simp only[dx,ho,Ww,hd,Mt,Ss,Bool.or_true,af,gi,hg,dg,Dp,EK,aX,cc];rw[e1,<-hq,ZJ];obtain⟨vs,g,cs,hv,hn,hf,rfl⟩:=(C4 ho hd hg).1 h;refine⟨_,_,rfl,λst2 hq=>(C4 ho hd hg).2 ⟨vs,g,cs,by rw[hq,hv],hn,hf,rfl⟩⟩
theorem afh {p:Oper}{q x:Nat}(hp:p.op=.store T (.tmp q) (.tmp x))(hd:p.dst=none)(hg:p.guard=none)(Sj:(an.eb q).isSome=true)(hes:(an.es q).isNone=true)(hsb:(an.sb q).isNone=true)(hl:BJ an p=false)(h:cE E Γ an ops Y p st=some s): ∃B,s=⟨gN st.slots x ((st.get x).aS st.ep),B,st.ep+1,st.iss,st.io⟩/\ ∀st2:AS,st2.get q=st.get q->st2.get x=st.get x->st2.boxes=st.boxes->st2.ep=st.ep->st2.iss=st.iss->st2.io=st.io-> cE E Γ an ops Y p st2=some ⟨gN st2.slots x ((st.get x).aS st.ep),B,st.ep+1,st.iss,st.io⟩:=by
 have fW:∀st2:AS,st2.get q=st.get q->st2.ep=st.ep->dx E an Y p st2=dx E an Y p st:=by intro st2 h1 h2;simp only[dx,hp,AS.rd,h1,h2]
 unfold cE at h;cases hf:dx E an Y p st with
 |false=>rw[hf]at h;cases h
 |true=>
  rw[hf]at h;simp only[af,gi,hg,dg,hp,hd,hl,aX,cc]at h;have jz:=hf;simp only[dx,hp]at jz;have NB:((an.sb q).isNone&&(an.eb q).isNone&&(an.es q).isNone)=false:=by cases he:an.eb q with|none=>rw[he]at Sj;cases Sj|some _=>simp
  rw[NB,cJ]at jz;unfold xY at h;split at h;rename_i NG;rw[NG]at jz;simp only[ah,bw]at jz;rw[jz.2]at hsb;cases hsb;rename_i sh Na r tg e y i off hT NG;rw[NG]at jz;cases r with
  |slot _ _=>simp only[ah,bw]at jz;rw[jz.1.1]at hes;cases hes
  |io _=>simp at jz
  |box b j=>
   split at h;rename_i gg vs st1 tI;have e1:(st.get x)=.val gg vs:=by have:=congrArg Prod.fst tI;exact this
   have e2:st1=⟨gN st.slots x ((st.get x).aS st.ep),st.boxes,st.ep,st.iss,st.io⟩:=by have:=congrArg Prod.snd tI;exact this.symm
   split at h;rename_i hlen;have main:∃B,∀sl:au AV,(⟨sl,st.boxes,st.ep,st.iss,st.io⟩:AS).pZ (.box b j) tg e i off vs some=some ⟨sl,B,st.ep+1,st.iss,st.io⟩:=by
    subst e2;simp only[AS.pZ,AS.eL,AS.eT,AS.eE]at h⊢;cases hb:(nth st.boxes b).getD none with
    |none=>rw[hb]at h;simp at h
    |some cs=>
     rw[hb]at h;simp only[eu]at h⊢;split at h;rename_i t' e' xs hn;split at h;rename_i he;simp only[dif_pos he];generalize (he▸xs:au e.D)=zs at h⊢;split at h;rename_i ht;simp only[aF ht];cases hi:idx zs i with|none=>rw[hi]at h;simp[aa]at h|some y0=>simp only[hi,aa]at h⊢;split at h;exact⟨_,λsl=>rfl⟩;cases h
     cases h;cases h;rename_i t' i' q0 e' xs hn;split at h;rename_i he;simp only[dif_pos he];generalize (he▸xs:au e.D)=zs at h⊢;split at h;rename_i ht;simp only[aF ht];cases hi:aaJ zs i' i with|none=>rw[hi]at h;simp[aa]at h|some y0=>simp only[hi,aa]at h⊢;split at h;exact⟨_,λsl=>rfl⟩;cases h
     cases h;cases h;cases h
   obtain⟨B,hB⟩:=main;refine⟨B,?_,λst2 h1 h2 h3 h4 h5 h6=>?_⟩;subst e2;rw[hB]at h;exact(cC h).symm;unfold cE;rw[fW st2 h1 h4,hf];have r2:st2.rd (.tmp q)=st.rd (.tmp q):=by simp only[AS.rd,h1,h4]
   have t2:st2.take (.tmp x)=(.val gg vs,⟨gN st2.slots x ((st.get x).aS st.ep),st.boxes,st.ep,st.iss,st.io⟩):=by simp only[AS.take,AS.put,h2,h3,h4,h5,h6,e1]
   simp only[af,gi,hg,dg,hp,hd,hl,aX,cc,xY,hT,r2,NG,t2];rw[aF hlen];exact hB _;cases h;cases h
  cases h
theorem acZ {p:Oper}{q x:Nat}(hp:p.op=.store T (.tmp q) (.tmp x))(hd:p.dst=none)(hg:p.guard=none){b:Nat}(hes:an.es q=some b)(Sj:(an.eb q).isNone=true)(jX:b≠x)(hsb:(an.sb q).isNone=true)(hl:BJ an p=false)(h:cE E Γ an ops Y p st=some s): ∃B,s=⟨gN (gN st.slots x ((st.get x).aS st.ep)) b B,st.boxes,st.ep+1,st.iss,st.io⟩/\ ∀st2:AS,st2.get q=st.get q->st2.get x=st.get x->nth st2.slots b=nth st.slots b->st2.boxes=st.boxes->st2.ep=st.ep->st2.iss=st.iss->st2.io=st.io-> cE E Γ an ops Y p st2=some ⟨gN (gN st2.slots x ((st.get x).aS st.ep)) b B,st.boxes,st.ep+1,st.iss,st.io⟩:=by
 have fW:∀st2:AS,st2.get q=st.get q->st2.ep=st.ep->dx E an Y p st2=dx E an Y p st:=by intro st2 h1 h2;simp only[dx,hp,AS.rd,h1,h2]
 unfold cE at h;cases hf:dx E an Y p st with
 |false=>rw[hf]at h;cases h
 |true=>
  rw[hf]at h;simp only[af,gi,hg,dg,hp,hd,hl,aX,cc]at h;have jz:=hf;simp only[dx,hp]at jz;have NB:((an.sb q).isNone&&(an.eb q).isNone&&(an.es q).isNone)=false:=by rw[hes];simp
  rw[NB,cJ]at jz;unfold xY at h;split at h;rename_i NG;rw[NG]at jz;simp only[ah,bw]at jz;rw[jz.2]at hsb;cases hsb;rename_i sh Na r tg e y i off hT NG;rw[NG]at jz;cases r with
  |box _ _=>simp only[ah,bw]at jz;rw[jz.1.1]at Sj;cases Sj
  |io _=>simp at jz
  |slot b' j=>
   simp only[ah,bw]at jz;have Xm:b'=b:=cC (jz.1.1.symm.trans hes);subst Xm;split at h;rename_i gg vs st1 tI;have e1:(st.get x)=.val gg vs:=by have:=congrArg Prod.fst tI;exact this
   have e2:st1=⟨gN st.slots x ((st.get x).aS st.ep),st.boxes,st.ep,st.iss,st.io⟩:=by have:=congrArg Prod.snd tI;exact this.symm
   split at h;rename_i hlen;have main:∃B,∀sl:au AV,nth sl b'=nth st.slots b'->(⟨sl,st.boxes,st.ep,st.iss,st.io⟩:AS).pZ (.slot b' j) tg e i off vs some=some ⟨gN sl b' B,st.boxes,st.ep+1,st.iss,st.io⟩:=by
    subst e2;have gL:∀sl:au AV,nth sl b'=nth st.slots b'->(⟨sl,st.boxes,st.ep,st.iss,st.io⟩:AS).get b'=st.get b':=λsl hq=>by unfold AS.get;rw[hq]
    have hq0:nth (gN st.slots x ((st.get x).aS st.ep)) b'=nth st.slots b':=by rw[jF,aH (cY jX)]
    simp only[AS.pZ,AS.eL,AS.eT,gL _ hq0]at h;cases hb:st.get b' with
    |xn _=>rw[hb]at h;simp at h
    |val g0 cs=>
     rw[hb]at h;simp only at h;split at h;rename_i t' e' xs hn;split at h;rename_i he;split at h;rename_i ht;cases hi:idx (he▸xs:au e.D) i with|none=>rw[hi]at h;simp[aa]at h|some y0=>simp only[hi,aa]at h;split at h;rename_i x' B7;refine⟨.val g0 (gN cs j (.sl (.own (some t')) e ((he▸xs:au e.D).set i.toNat x'))),λsl hq=>?_⟩;simp only[AS.pZ,AS.eL,AS.eT,gL _ hq,hb,hn,dif_pos he,aF ht,hi,aa,B7,AS.put];cases h
     cases h;cases h;rename_i t' i' q0 e' xs hn;split at h;rename_i he;split at h;rename_i ht;cases hi:aaJ (he▸xs:au e.D) i' i with|none=>rw[hi]at h;simp[aa]at h|some y0=>simp only[hi,aa]at h;split at h;rename_i x' B7;refine⟨.val g0 (gN cs j (.sl (.own (some t')) e ((he▸xs:au e.D).set i.toNat x'))),λsl hq=>?_⟩;simp only[AS.pZ,AS.eL,AS.eT,gL _ hq,hb,hn,dif_pos he,aF ht,hi,aa,B7,AS.put];cases h
     cases h;cases h;cases h
   obtain⟨B,hB⟩:=main;refine⟨B,?_,λst2 h1 h2 xx h3 h4 h5 h6=>?_⟩;subst e2;rw[hB _ (by rw[jF,aH (cY jX)])]at h;exact(cC h).symm;unfold cE;rw[fW st2 h1 h4,hf];have r2:st2.rd (.tmp q)=st.rd (.tmp q):=by simp only[AS.rd,h1,h4]
   have t2:st2.take (.tmp x)=(.val gg vs,⟨gN st2.slots x ((st.get x).aS st.ep),st.boxes,st.ep,st.iss,st.io⟩):=by simp only[AS.take,AS.put,h2,h3,h4,h5,h6,e1]
   simp only[af,gi,hg,dg,hp,hd,hl,aX,cc,xY,hT,r2,NG,t2];rw[aF hlen];exact hB _ (by rw[jF,aH (cY jX)];exact xx);cases h;cases h
  cases h
theorem afg {o p:Oper}(ha:Xb an o p=true)(h1:cE E Γ an ops X o st=some s1)(h2:cE E Γ an ops Y p s1=some s2): ∃t1,cE E Γ an ops Y p st=some t1/\cE E Γ an ops X o t1=some s2:=by
 unfold Xb at ha;split at ha;rename_i T q x hp hpd hpg;simp only[ah,aN]at ha;obtain⟨⟨⟨Sj,hsb⟩,hl⟩,ha⟩:=ha;have aih:∃d t,o.dst=some d/\o.guard=none/\((o.op=.move (.tmp t)/\an.mv.contains d=false/\an.fm.contains d=true)\/∃i,o.op=.extract (.tmp t) i)/\d≠q/\d≠x/\t≠x/\d≠t/\t≠q:=by split at ha;rename_i t d ho hd hg;simp only[ah,aN,cK]at ha;exact⟨d,t,hd,hg,.inl ⟨ho,ha.1.1.1.1.1.1,ha.1.1.1.1.1.2⟩,ha.1.1.1.1.2,ha.1.1.1.2,ha.1.1.2,ha.2,ha.1.2⟩;rename_i t i d ho hd hg;simp only[ah,aN,cK]at ha;exact⟨d,t,hd,hg,.inr ⟨i,ho⟩,ha.1.1.1.1,ha.1.1.1.2,ha.1.1.2,ha.2,ha.1.2⟩;cases ha
 obtain⟨d,t,hd,hg,ho,hdq,hdx,htx,hdt,htq⟩:=aih;obtain⟨tv,v,rfl,dX⟩:=VR hd hg ho hdt h1;have hq:((st.put (some t) tv).put (some d) v).get q=st.get q:=by rw[uY hdq];exact uY htq
 have hx:((st.put (some t) tv).put (some d) v).get x=st.get x:=by rw[uY hdx,uY htx]
 simp only[di,ah]at Sj;rcases Sj with⟨Sj,hes⟩|hes;obtain⟨B,rfl,hgo⟩:=afh hp hpd hpg Sj hes hsb hl h2;have k1:=hgo st hq.symm hx.symm rfl rfl rfl rfl;refine⟨_,k1,?_⟩;have HM:(⟨gN st.slots x ((((st.put (some t) tv).put (some d) v).get x).aS ((st.put (some t) tv).put (some d) v).ep),B,((st.put (some t) tv).put (some d) v).ep+1,((st.put (some t) tv).put (some d) v).iss,((st.put (some t) tv).put (some d) v).io⟩:AS).get t=st.get t:=by simp only[AS.get,jF,aH (cY htx)]
 rw[dX _ HM];simp only[AS.put,ba,AS.mk.injEq,iH];rw[ji _ (cY htx),ji _ (cY hdx)];cases hb:an.es q with
 |none=>rw[hb]at hes;cases hes
 |some b=>
  rw[hb]at hes;simp only[ah,aN,cK]at hes;obtain⟨⟨⟨Sj,jX⟩,_⟩,hbw⟩:=hes;have hbw:=md hbw b (by simp);have hbd:b≠d:=λe=>hbw (by simp[hd,e]);have hbt:b≠t:=λe=>hbw (by refine aA.2 (.inr ?_);rcases ho with⟨ho,_⟩|⟨i,ho⟩<;>simp[dA,ho,tm,e]);obtain⟨B,rfl,hgo⟩:=acZ hp hpd hpg hb Sj jX hsb hl h2;have xx:nth st.slots b=nth ((st.put (some t) tv).put (some d) v).slots b:=by simp only[AS.put,jF,aH (cY hbd),aH (cY hbt)]
  have k1:=hgo st hq.symm hx.symm xx rfl rfl rfl rfl;refine⟨_,k1,?_⟩;have HM:(⟨gN (gN st.slots x ((((st.put (some t) tv).put (some d) v).get x).aS ((st.put (some t) tv).put (some d) v).ep)) b B,((st.put (some t) tv).put (some d) v).boxes,((st.put (some t) tv).put (some d) v).ep+1,((st.put (some t) tv).put (some d) v).iss,((st.put (some t) tv).put (some d) v).io⟩:AS).get t=st.get t:=by simp only[AS.get,jF,aH (cY htx),aH hbt]
  rw[dX _ HM];simp only[AS.put,ba,AS.mk.injEq,iH];rw[ji _ hbt,ji _ hbd,ji _ (cY htx),ji _ (cY hdx)]
 cases ha
theorem Tm {c:AC}(h:c.ln=true\/(c.borrow ep none).ln=true):c.borrow ep none=c:=by
 cases c with
 |sl fl e xs=>exfalso;cases fl with|eY _ _ ep=>cases ep<;>simp[AC.borrow,AC.ln]at h|_=>simp[AC.borrow,AC.ln]at h
 |_=>rfl
theorem OT {cs:au AC}{n:Nat}(gy:off+n<=cs.length)(k:Nat):(dZ cs off (aS ep ((cs.drop off).take n)))[k]?=(cs[k]?).map λc=>if off<=k/\k<off+n then c.borrow ep none else c:=by
 have hl:(aS ep ((cs.drop off).take n)).length=n:=by simp[aS];omega
 unfold dZ;rw[hl];by_cases h1:k<off;rw[aZ,bH (by simp;omega),ez h1];have:(λc:AC=>if off<=k/\k<off+n then c.borrow ep none else c)=id:=by funext c;rw[mQ];rfl
 rw[this,Option.map_id];rfl;by_cases h2:k<off+n;rw[bH (by simp[hl];omega),bz (by simp;omega)];have e:k-(cs.take off).length=k-off:=by simp;omega
 rw[e,aS,List.getElem?_map,ez (by omega),bV,show off+(k-off)=k by omega];congr 1;funext c;rw[zip];rw[bz (by simp[hl];omega)];have e:k-(cs.take off++aS ep ((cs.drop off).take n)).length=k-(off+n):=by simp[hl];omega
 rw[e,bV,show off+n+(k-(off+n))=k by omega];have:(λc:AC=>if off<=k/\k<off+n then c.borrow ep none else c)=id:=by funext c;rw[mQ];rfl
 rw[this,Option.map_id];rfl
theorem JN {cs:au AC}{n o2 n2:Nat}(gy:off+n<=cs.length)(h:((cs.drop o2).take n2).all AC.ln=true\/(((dZ cs off (aS ep ((cs.drop off).take n))).drop o2).take n2).all AC.ln=true): ((dZ cs off (aS ep ((cs.drop off).take n))).drop o2).take n2=(cs.drop o2).take n2:=by
 apply cS;intro k;by_cases hk:k<n2;rw[ez hk,ez hk,bV,bV,OT gy];cases hc:cs[o2+k]? with|none=>rfl|some c=>simp only[dk];split;rename_i vS;refine congrArg some (Tm ?_);rcases h with h|h;left;refine aL.1 h c (bn (i:=k) ?_);rw[ez hk,bV,hc];right;refine aL.1 h _ (bn (i:=k) ?_);rw[ez hk,bV,OT gy,hc,dk,aF vS];rfl
 rw[bJ (by simp;omega),bJ (by simp;omega)]
theorem KY {b:Nat}:∀{cs:au AC}{j:Nat},cs.all AC.ln=true->ir ep (.box b) j cs=cs
 |[],_,_=>rfl
 |c::cs,j,h=>by simp only[bR,ah]at h;rw[ir,KY h.2];congr 1;cases c<;>first|rfl|(simp[AC.ln]at h)
theorem O1 {o:Oper}(h:CV an o=true):∃T q d,o.op=.load T (.tmp q)/\o.dst=some d/\o.guard=none/\an.mv.contains d=true/\(an.mb d).isSome=true:=by unfold CV at h;split at h;rename_i T q d ho hd hg;simp only[ah]at h;exact⟨T,q,d,ho,hd,hg,h.1,h.2⟩;cases h
theorem Nm {o:Oper}(h:Nl an o=true):∃T q d,o.op=.load T (.tmp q)/\o.dst=some d/\o.guard=none/\an.mv.contains d=false/\an.fm.contains d=true:=by unfold Nl at h;split at h;rename_i T q d ho hd hg;simp only[ah,aN]at h;exact⟨T,q,d,ho,hd,hg,h.1,h.2⟩;cases h
theorem GN {o:Oper}{q:Nat}(ht:CV an o=true)(ho:o.op=.load T (.tmp q))(hd:o.dst=some d)(hg:o.guard=none)(EK:an.mv.contains d=true):cE E Γ an ops X o st=some s↔ ∃sh b off cs,iY E.ty T=some sh/\st.rd (.tmp q)=.val false [.ptr b off]/\(nth st.boxes b).getD none=some cs/\off+sh.ct.size<=cs.length/\X.contains b=false/\an.mb d=some b/\(Ww an o=true->Fg E T st b off=true)/\ s=(st.eE b (some (dZ cs off (aS st.ep ((cs.drop off).take sh.ct.size))))).put (some d) (.val sh.agg ((cs.drop off).take sh.ct.size)):=by
 have key:dx E an X o st=true->∀r,dg E Γ an o st some=some r->∃b off,st.rd (.tmp q)=.val false [.ptr b off]:=by intro hf r hr;simp only[dg,ho,pL]at hr;split at hr;rename_i hp;exact⟨_,_,hp⟩;rename_i hp;simp only[dx,ho,hp,ht,Bool.or_true,aj,jJ,gD]at hf;cases hf;cases hr
 unfold cE;constructor;intro h;cases hf:dx E an X o st with|false=>rw[hf]at h;cases h|true=>rw[hf]at h;simp only[af,gi,hg]at h;obtain⟨b,off,hp⟩:=key hf s h;simp only[dx,ho,hp,hd,EK,aj,cJ,ah,aN,bw,di]at hf;simp only[dg,ho,pL,hp]at h;cases hT:iY E.ty T with|none=>rw[hT]at h;cases h|some sh=>rw[hT]at h;simp only at h;cases hb:(nth st.boxes b).getD none with|none=>rw[hb]at h;cases h|some cs=>rw[hb]at h;simp only at h;split at h;rename_i gy;simp only[hd,EK,cp]at h;cases h;refine⟨sh,b,off,cs,rfl,hp,hb,gy,hf.1.1,hf.1.2,λhm=>?_,rfl⟩;rcases hf.2 with g|g;rw[hm]at g;cases g;exact g;cases h
 rintro⟨sh,b,off,cs,hT,hp,hb,gy,hX,Wz,Mt,rfl⟩;have hf:dx E an X o st=true:=by simp only[dx,ho,hp,hd,EK,hX,Wz,aj,cJ,ah,aN,bw,di];refine⟨⟨cv,cv⟩,?_⟩;cases hm:Ww an o with|false=>exact .inl rfl|true=>exact .inr (Mt hm)
 rw[hf];simp only[af,gi,hg,dg,ho,pL,hp,hT,hb,aF gy,hd,EK,cp]
theorem Gl {o:Oper}{q:Nat}(ho:o.op=.load T (.tmp q))(hd:o.dst=some d)(hg:o.guard=none)(EK:an.mv.contains d=false)(Mt:an.fm.contains d=true):cE E Γ an ops X o st=some s↔ ∃sh b off cs,iY E.ty T=some sh/\st.rd (.tmp q)=.val false [.ptr b off]/\(nth st.boxes b).getD none=some cs/\off+sh.ct.size<=cs.length/\X.contains b=false/\((cs.drop off).take sh.ct.size).all AC.ln=true/\ s=st.put (some d) (.val sh.agg ((cs.drop off).take sh.ct.size)):=by
 have hfb:Ww an o=true:=by simp only[Ww,hd,Mt]
 have key:dx E an X o st=true->∀r,dg E Γ an o st some=some r->∃b off,st.rd (.tmp q)=.val false [.ptr b off]:=by intro hf r hr;simp only[dg,ho,pL]at hr;split at hr;rename_i hp;exact⟨_,_,hp⟩;rename_i hp;simp only[dx,ho,hp,hfb,jW,aj,jJ,gD]at hf;cases hf;cases hr
 unfold cE;constructor;intro h;cases hf:dx E an X o st with
 |false=>rw[hf]at h;cases h
 |true=>
  rw[hf]at h;simp only[af,gi,hg]at h;obtain⟨b,off,hp⟩:=key hf s h;simp only[dx,ho,hp,hd,EK,hfb,aj,bS,jW,cJ,gW,ah,aN]at hf;simp only[dg,ho,pL,hp]at h;cases hT:iY E.ty T with
  |none=>rw[hT]at h;cases h
  |some sh=>
   rw[hT]at h;simp only at h;cases hb:(nth st.boxes b).getD none with
   |none=>rw[hb]at h;cases h
   |some cs=>
    rw[hb]at h;simp only at h;split at h;rename_i gy;have lE:((cs.drop off).take sh.ct.size).all AC.ln=true:=by have:=hf.2;unfold Fg at this;rw[hT,hb]at this;exact this
    simp only[hd,EK,aX,cc,KY lE]at h;cases h;exact⟨sh,b,off,cs,rfl,hp,hb,gy,hf.1,lE,rfl⟩;cases h
 rintro⟨sh,b,off,cs,hT,hp,hb,gy,hX,lE,rfl⟩;have hf:dx E an X o st=true:=by simp only[dx,ho,hp,hd,EK,hX,hfb,Fg,hT,hb,lE];rfl
 rw[hf];simp only[af,gi,hg,dg,ho,pL,hp,hT,hb,aF gy,hd,EK,aX,cc,KY lE]
theorem Rf {q:Nat}{v:AV}(h:d≠q):(st.put (some d) v).rd (.tmp q)=st.rd (.tmp q):=by simp only[AS.rd,uY h];rfl
theorem aem {q b:Nat}{cs:ax (au AC)}:(st.eE b cs).rd (.tmp q)=st.rd (.tmp q):=rfl
theorem WX {b:Nat}{cs x:au AC}(h:(nth st.boxes b).getD none=some cs):(nth (gN st.boxes b (some x)) b).getD none=some x:=by
 rw[jF,aF rfl];cases hn:nth st.boxes b with
 |none=>rw[hn]at h;cases h
 |some _=>
  have:b<st.boxes.length:=by rw[dJ]at hn;exact(aE.1 hn).1
  rw[aF this];rfl
theorem WY {b b2:Nat}{x:au AC}(h:b≠b2):nth (gN st.boxes b (some x)) b2=nth st.boxes b2:=by rw[jF,aH h]
theorem afK {o p:Oper}(ha:XU an o p=true)(h1:cE E Γ an ops X o st=some s1)(h2:cE E Γ an ops Y p s1=some s2): ∃t1,cE E Γ an ops Y p st=some t1/\cE E Γ an ops X o t1=some s2:=by
 simp only[XU,ah,di,aN]at ha;obtain⟨⟨ha,m1⟩,m2⟩:=ha;have m1:=md m1;have m2:=md m2;rcases ha with⟨ht,hf⟩|⟨hf,ht⟩;obtain⟨T,q,d,ho,hd,hg,EK,Wz⟩:=O1 ht;obtain⟨T2,q2,d2,hp,Wx,HM,UC,aaD⟩:=Nm hf;have n1:d≠d2:=λe=>m1 d (by simp[hd]) (by simp[Wx,e]);have n2:d≠q2:=λe=>m1 d (by simp[hd]) (by simp[dA,hp,tm,e]);have n3:d2≠q:=λe=>m2 d2 (by simp[Wx]) (by simp[dA,ho,tm,e]);obtain⟨sh,b,off,cs,hT,hr,hb,gy,hX,ahg,Mt,rfl⟩:=(GN ht ho hd hg EK).1 h1;obtain⟨sh2,b2,PN,E0,hT2,Py,Ms,Zn,hX2,Ss,rfl⟩:=(Gl hp Wx HM UC aaD).1 h2;rw[Rf n2,aem]at Py;have jX:(nth (gN st.boxes b (some (dZ cs off (aS st.ep ((cs.drop off).take sh.ct.size))))) b2).getD none=some E0:=Ms;have ri:∃Pg,(nth st.boxes b2).getD none=some Pg/\PN+sh2.ct.size<=Pg.length/\(E0.drop PN).take sh2.ct.size=(Pg.drop PN).take sh2.ct.size:=by
  by_cases Xm:b=b2;subst Xm;rw[WX hb]at jX;cases jX;have hlen:(dZ cs off (aS st.ep ((cs.drop off).take sh.ct.size))).length=cs.length:=by simp only[dZ,aS,aq,cA,bq,bh];omega
  exact⟨cs,hb,by omega,JN gy (.inr Ss)⟩;rw[WY Xm]at jX;exact⟨E0,jX,Zn,rfl⟩
 obtain⟨Pg,TD,Uv,he⟩:=ri;rw[he]at Ss⊢;refine⟨_,(Gl hp Wx HM UC aaD).2 ⟨sh2,b2,PN,Pg,hT2,Py,TD,Uv,hX2,Ss,rfl⟩,(GN ht ho hd hg EK).2 ⟨sh,b,off,cs,hT,by rw[Rf n3];exact hr,hb,gy,hX,ahg,λhm=>?_,?_⟩⟩;have:=Mt hm;unfold Fg at this⊢;exact this;simp only[AS.put,AS.eE,AS.mk.injEq,iH];exact ji _ n1 _ _;obtain⟨T,q,d,ho,hd,hg,EK,Mt⟩:=Nm hf;obtain⟨T2,q2,d2,hp,Wx,HM,UC,ahf⟩:=O1 ht;have n1:d≠d2:=λe=>m1 d (by simp[hd]) (by simp[Wx,e]);have n2:d≠q2:=λe=>m1 d (by simp[hd]) (by simp[dA,hp,tm,e]);have n3:d2≠q:=λe=>m2 d2 (by simp[Wx]) (by simp[dA,ho,tm,e]);obtain⟨sh,b,off,cs,hT,hr,hb,gy,hX,lE,rfl⟩:=(Gl ho hd hg EK Mt).1 h1;obtain⟨sh2,b2,PN,E0,hT2,Py,Ms,Zn,hX2,ahg,aaD,rfl⟩:=(GN ht hp Wx HM UC).1 h2;rw[Rf n2]at Py;refine⟨_,(GN ht hp Wx HM UC).2 ⟨sh2,b2,PN,E0,hT2,Py,Ms,Zn,hX2,ahg,λhm=>aaD hm,rfl⟩,?_⟩;have ri:∃Pg,(nth (gN st.boxes b2 (some (dZ E0 PN (aS st.ep ((E0.drop PN).take sh2.ct.size))))) b).getD none=some Pg/\off+sh.ct.size<=Pg.length/\(Pg.drop off).take sh.ct.size=(cs.drop off).take sh.ct.size:=by
  by_cases Xm:b2=b;subst Xm;have Ki:E0=cs:=cC (Ms.symm.trans hb);subst Ki;have hlen:(dZ E0 PN (aS st.ep ((E0.drop PN).take sh2.ct.size))).length=E0.length:=by simp only[dZ,aS,aq,cA,bq,bh];omega
  exact⟨_,WX hb,by omega,JN Zn (.inl lE)⟩;exact⟨cs,by rw[WY Xm];exact hb,gy,rfl⟩
 obtain⟨Pg,TD,Uv,he⟩:=ri;refine(Gl ho hd hg EK Mt).2 ⟨sh,b,off,Pg,hT,by rw[Rf n3,aem];exact hr,TD,Uv,hX,by rw[he];exact lE,?_⟩;rw[he];simp only[AS.put,AS.eE,AS.mk.injEq,iH];exact ji _ n1 _ _
theorem O0 {o:Oper}{q:Nat}(ht:F1 an o=true)(ho:o.op=.load T (.tmp q))(hd:o.dst=some d)(hg:o.guard=none)(EK:an.mv.contains d=true)(Wz:an.mb d=none):cE E Γ an ops X o st=some s↔ ∃(g:Bool)(e:CT)(kb:au (Nat×Nat))(b j t Na:Nat)(x:e.D)(i:Int)(cs:au AC)(ys:au e.D)(y:e.D),iY E.ty T=some ⟨g,e,kb⟩/\st.rd (.tmp q)=.val false [.Cd (.loc Na (some (.box b j,t))) e x i 0]/\(nth st.boxes b).getD none=some cs/\nth cs j=some (.sl (.own (some t)) e ys)/\idx ys i=some y/\ X.contains b=false/\an.eb q=some b/\Ww an o=false/\s=(JW st b j t e i cs ys).put (some d) (.val g (cellsOf e (.own none) y)):=by rw[<-OZ ht ho hd EK Wz];unfold cE;cases dx E an X o st with|false=>simp|true=>simp only[af,gi,hg,dg,ho,true_and]
theorem abL {o:Oper}(h:Cn an o=true):∃T q d,o.op=.load T (.tmp q)/\o.dst=some d/\o.guard=none/\an.mv.contains d=false/\Ww an o=false:=by unfold Cn at h;split at h;rename_i T q d ho hd hg;simp only[ah,aN]at h;exact⟨T,q,d,ho,hd,hg,h.1.1,by simp only[Ww,hd];exact h.1.2⟩;cases h
theorem Ok {o:Oper}{q:Nat}(BD:Cn an o=true)(ho:o.op=.load T (.tmp q))(hd:o.dst=some d)(hg:o.guard=none)(EK:an.mv.contains d=false)(Mt:Ww an o=false):cE E Γ an ops X o st=some s↔ ∃sh b off cs,iY E.ty T=some sh/\st.rd (.tmp q)=.val false [.ptr b off]/\(nth st.boxes b).getD none=some cs/\off+sh.ct.size<=cs.length/\X.contains b=false/\ s=st.put (some d) (.val sh.agg (ir st.ep (.box b) off ((cs.drop off).take sh.ct.size))):=by
 unfold cE;constructor;intro h;cases hf:dx E an X o st with|false=>rw[hf]at h;cases h|true=>rw[hf]at h;simp only[af,gi,hg,dg,ho]at h;unfold pL at h;split at h;rename_i sh b off hT hp;simp only[dx,ho,hp,hd,EK,Mt,bS,jW,gW,aN]at hf;split at h;rename_i cs hb;split at h;rename_i gy;simp only[hd,EK,aX,cc]at h;cases h;exact⟨sh,b,off,cs,hT,hp,hb,gy,hf,rfl⟩;cases h;cases h;rename_i hp;simp only[dx,ho,hp,BD,aj,jJ,gD]at hf;cases hf;cases h
 rintro⟨sh,b,off,cs,hT,hp,hb,gy,hX,rfl⟩;have hf:dx E an X o st=true:=by simp only[dx,ho,hp,hd,EK,hX,Mt];rfl
 rw[hf];simp only[af,gi,hg,dg,ho,pL,hp,hT,hb,aF gy,hd,EK,aX,cc]
theorem MT {b:Nat}:∀(cs:au AC)(p k:Nat)(c':AC),(∀c,cs[k]?=some c->∀r,c'.borrow ep (some r)=c.borrow ep (some r))->ir ep (.box b) p (cs.set k c')=ir ep (.box b) p cs
 |[],_,_,_,_=>rfl
 |c::cs,p,0,c',h=>by simp only[List.set_cons_zero,ir,h c rfl]
 |c::cs,p,k+1,c',h=>by simp only[List.set_cons_succ,ir];rw[MT cs (p+1) k c' (λc hc=>h c (by simpa using hc))]
theorem TV {b j n:Nat}{e:CT}{i:Int}{ys:au e.D}{cs:au AC}(hj:nth cs j=some (.sl (.own (some t)) e ys)): ir ep (.box b) off (((gN cs j (.sl (.eY (some t) i (some ep)) e ys)).drop off).take n)=ir ep (.box b) off ((cs.drop off).take n):=by rw[fg,List.drop_set];split;rfl;rename_i gB;rw[List.take_set];refine MT _ _ _ _ λc hc r=>?_;by_cases hn:j-off<n;rw[ez hn,bV,show off+(j-off)=j by omega,<-dJ,hj]at hc;cases hc;rfl;rw[bJ (by simp;omega)]at hc;cases hc
theorem afc {o p:Oper}(ha:W0 an o p=true)(h1:cE E Γ an ops X o st=some s1)(h2:cE E Γ an ops Y p s1=some s2): ∃t1,cE E Γ an ops Y p st=some t1/\cE E Γ an ops X o t1=some s2:=by
 simp only[W0,ah,aN]at ha;obtain⟨⟨⟨BD,ht⟩,m1⟩,m2⟩:=ha;have m1:=md m1;have m2:=md m2;obtain⟨T,q,d,ho,hd,hg,EK,Mt⟩:=abL BD;obtain⟨T2,q2,d2,hp,Wx,HM,UC,ahf⟩:=RJ ht;have n1:d≠d2:=λe=>m1 d (by simp[hd]) (by simp[Wx,e]);have n2:d≠q2:=λe=>m1 d (by simp[hd]) (by simp[dA,hp,tm,e]);have n3:d2≠q:=λe=>m2 d2 (by simp[Wx]) (by simp[dA,ho,tm,e]);obtain⟨sh,b,off,cs,hT,hr,hb,gy,hX,rfl⟩:=(Ok BD ho hd hg EK Mt).1 h1;obtain⟨g,e,kb,b2,j,t,Na,x,i,E0,ys,y,hT2,Py,Ms,hj,hi,hX2,Sj,aaD,rfl⟩:=(O0 ht hp Wx HM UC ahf).1 h2;rw[Rf n2]at Py;have aid:(nth st.boxes b2).getD none=some E0:=Ms;refine⟨_,(O0 ht hp Wx HM UC ahf).2 ⟨g,e,kb,b2,j,t,Na,x,i,E0,ys,y,hT2,Py,aid,hj,hi,hX2,Sj,aaD,rfl⟩,?_⟩;have ri:∃Pg,(nth (gN st.boxes b2 (some (gN E0 j (.sl (.eY (some t) i (some st.ep)) e ys)))) b).getD none=some Pg/\off+sh.ct.size<=Pg.length/\ir st.ep (.box b) off ((Pg.drop off).take sh.ct.size)=ir st.ep (.box b) off ((cs.drop off).take sh.ct.size):=by by_cases Xm:b2=b;subst Xm;have Ki:E0=cs:=cC (aid.symm.trans hb);subst Ki;exact⟨_,WX hb,by rw[fg,aB];exact gy,TV hj⟩;exact⟨cs,by rw[WY Xm];exact hb,gy,rfl⟩
 obtain⟨Pg,TD,Uv,he⟩:=ri;refine(Ok BD ho hd hg EK Mt).2 ⟨sh,b,off,Pg,hT,by rw[Rf n3];exact hr,TD,Uv,hX,?_⟩;show _=((JW st b2 j t e i E0 ys).put (some d2) _).put (some d) (.val sh.agg (ir st.ep (.box b) off ((Pg.drop off).take sh.ct.size)));rw[he];simp only[AS.put,JW,AS.eE,AS.mk.injEq,iH];exact ji _ n1 _ _
def PU (E:Env)(Γ:xu)(an:An)(ops:au Oper)(X:Nat->eo):eo->AS->ax AS
 |[],st=>some st
 |i::r,st=>match nth ops i with
  |some o=>(cE E Γ an ops (X i) o st).bind (PU E Γ an ops X r)
  |none=>none
theorem OD (B5:∀f,(Γ f).io=false/\((Γ f).bx=true->(Γ f).cur=true)/\(Γ f).pr=false){X:Nat->eo}{i:Nat}{oi:Oper}(hi:nth ops i=some oi):∀(pre post:eo)(st r:AS),(∀j∈pre,∀oj,nth ops j=some oj->MN an ops (X j) (X i) oj oi=true)->
 PU E Γ an ops X (pre++i::post) st=some r->PU E Γ an ops X (i::(pre++post)) st=some r
 |[],post,st,r,_,h=>h
 |j::pre,post,st,r,ha,h=>by
  simp only[List.cons_append,PU]at h;cases hj:nth ops j with
  |none=>rw[hj]at h;cases h
  |some oj=>
   rw[hj]at h;simp only at h;obtain⟨s1,h1,h2⟩:=aO.1 h;have h3:=OD B5 hi pre post s1 r (λk hk=>ha k (by simp[hk])) h2;simp only[PU,hi]at h3;obtain⟨s2,h4,h5⟩:=aO.1 h3;have hap:=ha j (by simp) oj hj;obtain⟨t1,k1,k2⟩:∃t1,cE E Γ an ops (X i) oi st=some t1/\cE E Γ an ops (X j) oj t1=some s2:=by cases hx:aeg an oj oi with|false=>rw[MN,hx,cJ]at hap;exact YM B5 hap h1 h4|true=>simp only[aeg,di]at hx;rcases hx with((hx|hx)|hx)|hx;exact ac6 hx h1 h4;exact afg hx h1 h4;exact afK hx h1 h4;exact afc hx h1 h4
   simp only[PU,hi,k1,eu,List.cons_append,hj,k2];exact h5
end Go.Dn
