import Derived.Test.YtnmppgnbjfdffaaGreatDnUpd
/- Operations that are apart may change places. -/
namespace Go.Dn
variable {E:Env} {Γ:xT} {an:An} {ops:aw Oper}
variable {s s1 s2 st:AS} {b d ep i off q t:Nat} {α:Type} {T:TypeId} {X Y:fw}
def cx (E:Env)(Γ:xT)(an:An)(ops:aw Oper)(X:fw)(o:Oper)(st:AS):ax AS:=
 bif dq E an X o st then gb E Γ an ops o st some else none
structure Og (an:An) (ops:List Oper) (X:List Nat) (o:Oper) (st st2:AS):Prop where
 base:gB an X o st st2
 gd:∀t∈Cq an ops o,st2.get t=st.get t
theorem SS {b:Bool}(h:st.get d=.val false [.bool b]):st.put (some d) (.one (.bool b))=st:=by cases st with|mk slots boxes ep iss io=>simp only[AS.put,AS.mk.injEq,iu];rw[ft];apply cn;intro i;rw[br];split;rename_i hd;subst hd;simp only[AS.get,dJ]at h;split;rename_i gQ;rw[al gQ]at h⊢;simp only[fB]at h;rw[h];rename_i yP;rw[bh (Nat.le_of_not_lt yP)];rfl
theorem O4 {st2:AS}{s:Nat}(h:nth st2.boxes s=nth st.boxes s):Ck E T st2 s off=Ck E T st s off:=by unfold Ck;rw[h]
theorem EE {o:Oper}{st2:AS}(ha:gB an X o st st2):dq E an X o st2=dq E an X o st:=by
 unfold dq;split;rename_i ho;rw[ha.rd (λt ht=>by simpa[dB,ho]using ht)];rename_i T p ho;rw[ha.rd (λt ht=>by simp[dB,ho,ht]),ha.ep];rename_i ho;rw[ha.rd (λt ht=>by simp[dB,ho,ht]),ha.ep];rename_i f args ts ho;have hcur:rR an X (erS an o) st2 args.toList=rR an X (erS an o) st args.toList:=by
  have hl:∀x∈args.toList,∀t∈tm x,t∈dB o:=by intro x hx t ht;simp only[dB,ho,ay,MN,List.mem_flatMap];exact .inr ⟨x,hx,ht⟩
  generalize args.toList=l at hl;cases l with
  |nil=>rfl
  |cons x xs=>
   have zk:xs.all (Gu (erS an o) st2)=xs.all (Gu (erS an o) st):=by
    rw[cq];simp only[aG];have e:∀y∈xs,Gu (erS an o) st2 y=Gu (erS an o) st y:=by intro y hy;cases y with|tmp t=>have hg:=ha.get t (hl (.tmp t) (by simp[hy]) t (by simp[tm]));simp only[Gu,hg]|const v=>rfl|func v=>rfl|global v=>rfl
    exact⟨λg y hy=>by rw[<-e y hy];exact g y hy,λg y hy=>by rw[e y hy];exact g y hy⟩
   have hr:=ha.rd (hl x (by simp));cases x with
   |tmp q=>
    simp only[rR,hr];generalize st.rd (.tmp q)=v;unfold aa4;rw[zk];split;rename_i s off;cases hX:X.contains s with|true=>simp|false=>rw[ha.box s hX]
    rfl
   |const v=>simp only[rR,hr]
   |func v=>simp only[rR,hr]
   |global v=>simp only[rR,hr]
 rw[hcur];congr 1;rw[cq];simp only[aG];constructor;intro hx x hm;have:=hx x hm;rwa[ha.rd (λt ht=>by simp only[dB,ho,ay,MN,List.mem_flatMap];exact .inr ⟨x,hm,ht⟩),ha.ep]at this;intro hx x hm;rw[ha.rd (λt ht=>by simp only[dB,ho,ay,MN,List.mem_flatMap];exact .inr ⟨x,hm,ht⟩),ha.ep];exact hx x hm;rename_i ho;rw[ha.rd (λt ht=>by simpa[dB,ho]using ht),ha.ep];split;rename_i s off _;cases hX:X.contains s with|true=>rfl|false=>rw[O4 (ha.box s hX)]
 rfl;rfl;rename_i ho;rw[ha.rd (λt ht=>by simp only[dB,ho,ay];exact .inl ht)];rename_i ho;rw[ha.get _ (by simp[dB,ho])];rfl
theorem IL (yQ:∀f,(Γ f).io=false/\((Γ f).bx=true->(Γ f).cur=true)/\(Γ f).pr=false){o:Oper}{bH:AS}(hm:mV an o=true)(h:cx E Γ an ops X o st=some bH): ∃u:GS,u.Er an o/\bH=u.apply st/\∀st2,Og an ops X o st st2->cx E Γ an ops X o st2=some (u.apply st2):=by
 unfold cx at h;cases hf:dq E an X o st with
 |false=>rw[hf]at h;cases h
 |true=>
  rw[hf]at h;simp only[ah]at h;unfold gb at h;split at h;rename_i hg;obtain⟨u,h1,h2,h3⟩:=LM (X:=X) yQ hm hf h;refine⟨u,h1,h2,λst2 ha=>?_⟩;unfold cx;rw[EE ha.base,hf];simp only[ah,gb,hg];exact h3 st2 ha.base;rename_i j E5 hg;split at h;rename_i d hd;have sJ:d∈Cq an ops o:=by simp[Cq,hg,hd]
  split at h;rename_i b hb;have Yu:(if(b==E5)=true then cY E Γ an o st some else some (st.put o.dst (.one .un)))=some bH:=by cases b<;>simpa only[ah,af,SS hb]using h
  have h2g:∀st2,Og an ops X o st st2->cx E Γ an ops X o st2=(if(b==E5)=true then cY E Γ an o st2 some else some (st2.put o.dst (.one .un))):=by
   intro st2 ha;have Js:st2.get d=.val false [.bool b]:=by rw[ha.gd d sJ];exact hb
   unfold cx;rw[EE ha.base,hf];simp only[ah,gb,hg,hd,Js];cases b<;>simp only[ah,af,SS Js]
  split at Yu;rename_i hw;obtain⟨u,h1,h2,h3⟩:=LM (X:=X) yQ hm hf Yu;exact⟨u,h1,h2,λst2 ha=>by rw[h2g st2 ha,aE hw];exact h3 st2 ha.base⟩;rename_i hw;cases Yu;exact⟨BD o (.one .un),Aa _,by rw[qQ],λst2 ha=>by rw[h2g st2 ha,aH hw,qQ]⟩;rename_i hb;cases h;refine⟨BD o (.one .un),Aa _,by rw[qQ],λst2 ha=>?_⟩;have Js:st2.get d=.val false [.un]:=by rw[ha.gd d sJ];exact hb
  unfold cx;rw[EE ha.base,hf,qQ];simp only[ah,gb,hg,hd,Js];cases h;cases h
theorem iO (l:aw α){j:Nat}(h:i≠j)(v w:α):gK (gK l i v) j w=gK (gK l j w) i v:=by rw[ft,ft,ft,ft,List.set_comm _ _ h]
theorem VY (l:aw AV)(a:aw (Nat×AV))(v:AV)(h:∀x∈a,x.1≠i):jx (gK l i v) a=gK (jx l a) i v:=by induction a generalizing l with|nil=>rfl|cons x a ih=>simp only[jx];rw[iO _ (cO (h x (by simp))),ih _ (λy hy=>h y (by simp[hy]))]
theorem SP (l:aw AV)(a b:aw (Nat×AV))(h:∀x∈a,∀y∈b,x.1≠y.1):jx (jx l a) b=jx (jx l b) a:=by induction b generalizing l with|nil=>rfl|cons y b ih=>simp only[jx];rw[<-VY l a y.2 (λx hx=>h x hx y (by simp)),ih _ (λx hx z hz=>h x hx z (by simp[hz]))]
theorem MC (l:aw AV)(a:aw (Nat×AV))(h:∀x∈a,x.1≠t):nth (jx l a) t=nth l t:=by induction a generalizing l with|nil=>rfl|cons x a ih=>rw[jx,ih _ (λy hy=>h y (by simp[hy])),ji,aH (h x (by simp))]
theorem lC {a b:fw}(h:meets a b=false):∀x∈a,x∉b:=by intro x hx hb;unfold meets at h;rw[List.any_eq_false]at h;exact h x hx (by simpa using hb)
theorem GS.aaS {u:GS}{o p:Oper}(hw:u.Er an o)(h1:∀x∈writes an o,x∉dB p++Cq an ops p++writes an p)(h2:∀d∈C4 an o,Y.contains d=true)(h3:∀d∈C4 an o,p.dst≠some d): Og an ops Y p (u.apply st) st/\Og an ops Y p st (u.apply st):=by
 have gI:∀t,t∈dB p++Cq an ops p++writes an p->(u.apply st).get t=st.get t:=by intro t ht;unfold AS.get;have:nth (u.apply st).slots t=nth st.slots t:=MC _ _ (λx hx he=>h1 _ (hw.slots x hx) (by rw[he];exact ht));rw[this]
 have Yq:∀d,p.dst=some d->nth (u.apply st).iss d=nth st.iss d/\nth (u.apply st).boxes d=nth st.boxes d:=by
  intro d hd;have hd':d∈dB p++Cq an ops p++writes an p:=by simp[writes,hd]
  have AY:o.dst≠some d:=λhe=>h1 d (by simp[writes,he]) hd';constructor;unfold GS.apply;cases hi:u.iss with|none=>rfl|some k=>simp only;rw[ji,aH];rintro rfl;exact AY (hw.iss _ hi)
  unfold GS.apply;cases hi:u.box with|none=>rfl|some k=>simp only;rw[ji,aH];intro he;exact h3 _ (hw.box k hi) (by rw[he];exact hd)
 have aiR:∀s,Y.contains s=false->nth (u.apply st).boxes s=nth st.boxes s:=by intro s hs;unfold GS.apply;cases hi:u.box with|none=>rfl|some k=>simp only;rw[ji,aH];rintro rfl;have:=h2 k.1 (hw.box k hi);rw[this]at hs;cases hs
 have hlen:(u.apply st).slots.length=st.slots.length:=Lk _ _;exact⟨⟨⟨hlen.symm,λt ht=>(gI t (by simp[ht])).symm,rfl,λd hd=>⟨((Yq d hd).1).symm,((Yq d hd).2).symm⟩,λs hs=>(aiR s hs).symm,λt ht=>(gI t (by simp[Cq,ht])).symm⟩,λt ht=>(gI t (by simp[ht])).symm⟩,⟨⟨hlen,λt ht=>gI t (by simp[ht]),rfl,Yq,aiR,λt ht=>gI t (by simp[Cq,ht])⟩,λt ht=>gI t (by simp[ht])⟩⟩
theorem TT {u v:GS}{o p:Oper}(hu:u.Er an o)(hv:v.Er an p)(h:∀x∈writes an o,x∉writes an p)(hb:∀x∈C4 an o,x∉C4 an p):v.apply (u.apply st)=u.apply (v.apply st):=by
 have Pb:∀a b,o.dst=some a->p.dst=some b->a≠b:=λa b ha hb he=>h a (by simp[writes,ha]) (by simp[writes,hb,he]);have hs:=SP st.slots u.slots v.slots (λx hx y hy he=>h _ (hu.slots x hx) (by rw[he];exact hv.slots y hy));simp only[GS.apply,AS.mk.injEq,true_and,iu];refine⟨hs,?_,?_⟩;cases hub:u.box with|none=>cases v.box<;>rfl|some k=>cases hvb:v.box with|none=>rfl|some l=>exact iO _ (λhe=>hb _ (hu.box k hub) (by rw[he];exact hv.box l hvb)) _ _
 cases hui:u.iss with|none=>cases v.iss<;>rfl|some k=>cases hvi:v.iss with|none=>rfl|some l=>exact iO _ (Pb _ _ (hu.iss k hui) (hv.iss l hvi)) _ _
theorem Wo (yQ:∀f,(Γ f).io=false/\((Γ f).bx=true->(Γ f).cur=true)/\(Γ f).pr=false){o p:Oper}(ha:TR an ops X Y o p=true)(h1:cx E Γ an ops X o st=some s1)(h2:cx E Γ an ops Y p s1=some s2): ∃t1,cx E Γ an ops Y p st=some t1/\cx E Γ an ops X o t1=some s2:=by
 simp only[TR,ae,aK,aG]at ha;obtain⟨⟨⟨⟨⟨⟨⟨mo,mp⟩,w1⟩,w2⟩,b1⟩,b2⟩,b3⟩,b4⟩:=ha;have w1:=lC w1;have w2:=lC w2;have b3:=lC b3;have b4:=lC b4;obtain⟨u,hu,rfl,hu2⟩:=IL yQ mo h1;obtain⟨v,hv,rfl,Pp⟩:=IL yQ mp h2;have ag1:=GS.aaS (ops:=ops) (p:=p) (Y:=Y) (st:=st) hu w1 b1 (λd hd he=>b3 d hd (by simp[he]));have hww:∀x∈writes an p,x∉dB o++Cq an ops o++writes an o:=by intro x hx hm;rcases ay.1 hm with hm|hm;exact w2 x hx hm;exact w1 x hm (by simp[hx])
 have ag2:=GS.aaS (ops:=ops) (p:=o) (Y:=X) (st:=st) hv hww b2 (λd hd he=>b4 d hd (by simp[he]));refine⟨v.apply st,Pp st ag1.1,?_⟩;rw[hu2 _ ag2.2,TT hu hv (λx hx hm=>w1 x hx (by simp[hm])) (λx hx hm=>b3 x hx (by simp[hm]))]
theorem FD {v w:AV}(h:st.get t=v)(hv:v≠ .bot):(st.put (some t) w).get t=w:=by
 unfold AS.get at h;cases hn:nth st.slots t with
 |none=>rw[hn]at h;exact absurd h.symm hv
 |some q=>
  have hl:t<st.slots.length:=by rw[dJ]at hn;exact(aF.1 hn).1
  unfold AS.get AS.put;simp only[dJ,ft];rw[List.getElem?_set_self hl];rfl
theorem sH {w:AV}(h:d≠t):(st.put (some d) w).get t=st.get t:=by unfold AS.get AS.put;simp only[ji,aH h]
theorem Af {o:Oper}(ho:o.op=.extract (.tmp t) i)(hd:o.dst=some d)(hg:o.guard=none):cx E Γ an ops X o st=some s↔ ∃vs g cs,st.get t=.uF vs/\nth vs i=some (g,cs)/\(cs.all AC.je||an.mv.contains d)=true/\s=(st.put (some t) (.uF (gK vs i (g,aR 0 cs)))).put (some d) (.val g cs):=by
 unfold cx;simp only[dq,ho,hd];constructor;intro h;cases hv:st.get t with|val g cs=>simp only[hv,ah,gb,hg,cY,ho,ll]at h;cases h|uF vs=>simp only[hv]at h;cases hn:nth vs i with|none=>simp only[hn,ah,gb,hg,cY,ho,ll,hv]at h;cases h|some x=>obtain⟨g,cs⟩:=x;simp only[hn]at h;cases hf:(cs.all AC.je||an.mv.contains d)with|false=>rw[hf]at h;cases h|true=>rw[hf]at h;simp only[ah,gb,hg,cY,ho,ll,hv,hn,hd]at h;cases h;exact⟨vs,g,cs,rfl,hn,hf,rfl⟩
 rintro⟨vs,g,cs,hv,hn,hf,rfl⟩;simp only[hv,hn,hf,ah,gb,hg,cY,ho,ll,hd]
theorem aaj (l:aw α)(i:Nat)(v w:α):gK (gK l i v) i w=gK l i w:=by rw[ft,ft,ft,List.set_set]
theorem abS {o p:Oper}(ha:UH o p=true)(h1:cx E Γ an ops X o st=some s1)(h2:cx E Γ an ops Y p s1=some s2): ∃t1,cx E Γ an ops Y p st=some t1/\cx E Γ an ops X o t1=some s2:=by
 unfold UH at ha;split at ha;rename_i t i t' j d d' ho hp hd hd' hg nm;simp only[ae,aS,aK,cI,ne_eq]at ha;obtain⟨⟨⟨⟨rfl,hij⟩,Pb⟩,hdt⟩,aiV⟩:=ha;obtain⟨vs,g,cs,hv,hn,hf,rfl⟩:=(Af ho hd hg).1 h1;obtain⟨vs2,g2,BV,Pp,AJ,AW,rfl⟩:=(Af hp hd' nm).1 h2;have hq:((st.put (some t) (.uF (gK vs i (g,aR 0 cs)))).put (some d) (.val g cs)).get t=.uF (gK vs i (g,aR 0 cs)):=by rw[sH hdt,FD hv (by simp)]
 rw[hq]at Pp;cases Pp;rw[ji,aH hij]at AJ;refine⟨_,(Af hp hd' nm).2 ⟨vs,g2,BV,hv,AJ,AW,rfl⟩,(Af ho hd hg).2 ⟨gK vs j (g2,aR 0 BV),g,cs,?_,?_,hf,?_⟩⟩;rw[sH aiV,FD hv (by simp)];rw[ji,aH (cO hij)];exact hn;have e:=iO vs hij (g,aR 0 cs) (g2,aR 0 BV);have a:∀(A B:AV)(q:Nat)(v:AV),q≠t->gK (gK (gK st.slots t A) q v) t B=gK (gK st.slots t B) q v:=λA B q v hq=>by rw[iO _ hq,aaj]
 simp only[AS.put,AS.mk.injEq,iu];rw[a _ _ _ _ hdt,a _ _ _ _ aiV,e,iO _ Pb];cases ha
theorem Xu (s:AS)(t:Nat):s.put (some t) (s.get t)=s:=by cases s with|mk slots boxes ep iss io=>simp only[AS.put,AS.mk.injEq,iu];rw[ft];apply cn;intro i;rw[br];split;rename_i hd;subst hd;simp only[AS.get,dJ];split;rename_i gQ;rw[al gQ];rfl;rename_i yP;rw[bh (Nat.le_of_not_lt yP)];rfl
theorem Ta {o:Oper}(hd:o.dst=some d)(hg:o.guard=none)(ho:(o.op=.move (.tmp t)/\an.mv.contains d=false/\an.fm.contains d=true)\/∃i,o.op=.extract (.tmp t) i)(_hdt:d≠t)(h:cx E Γ an ops X o st=some s): ∃tv v,s=(st.put (some t) tv).put (some d) v/\∀st2:AS,st2.get t=st.get t->cx E Γ an ops X o st2=some ((st2.put (some t) tv).put (some d) v):=by
 rcases ho with⟨ho,BO,Jt⟩|⟨i,ho⟩;have Ky:∀st2:AS,st2.get t=st.get t->(st.rd (.tmp t)).kF=true->st2.rd (.tmp t)=st.get t:=by
  intro st2 hq hs;simp only[AS.rd,hq]at hs⊢;cases hv:st.get t with
  |uF vs=>rw[hv]at hs;simp[AV.borrow,AV.kF]at hs
  |val g cs=>
   rw[hv]at hs;simp only[AV.borrow,AV.kF]at hs⊢;congr 1;have key:∀(cs:aw AC)(j:Nat),(ib st.ep (λj=>ka.slot t j) j cs).all AC.kF=true->ib st2.ep (λj=>ka.slot t j) j cs=cs:=by
    intro cs;induction cs with
    |nil=>intro j _;rfl
    |cons c cs ih=>
     intro j h;simp only[ib,cb,ae]at h⊢;rw[ih (j+1) h.2];congr 1;cases c with
     |sl fl e xs=>cases fl with|fg _ _ ep=>cases ep<;>simp[AC.borrow,AC.kF]at h|_=>simp[AC.borrow,AC.kF]at h
     |_=>rfl
   exact key cs 0 hs
 unfold cx at h;have mi:(st.rd (.tmp t)).kF=true:=by cases hs:(st.rd (.tmp t)).kF with|true=>rfl|false=>simp only[dq,ho,TG,hd,Jt,hs]at h;cases h
 refine⟨st.get t,st.get t,?_,λst2 hq=>?_⟩;simp only[dq,ho,TG,hd,Jt,mi,jt,ah,gb,hg,cY,Ay,BO,aW,bU]at h;cases h;rw[Ky st rfl mi];congr 1;exact(Xu st t).symm;unfold cx;have e1:=Ky st2 hq mi;have Pk:(st2.rd (.tmp t)).kF=true:=by rw[e1,<-Ky st rfl mi];exact mi
 simp only[dq,ho,TG,hd,Jt,Pk,jt,ah,gb,hg,cY,Ay,BO,aW,bU];rw[e1,<-hq,Xu];obtain⟨vs,g,cs,hv,hn,hf,rfl⟩:=(Af ho hd hg).1 h;refine⟨_,_,rfl,λst2 hq=>(Af ho hd hg).2 ⟨vs,g,cs,by rw[hq,hv],hn,hf,rfl⟩⟩
theorem aet {p:Oper}{x:Nat}(hp:p.op=.store T (.tmp q) (.tmp x))(hd:p.dst=none)(hg:p.guard=none)(Pc:(an.eb q).isSome=true)(Ys:(an.es q).isNone=true)(Xa:(an.sb q).isNone=true)(hl:yA an p=false)(h:cx E Γ an ops Y p st=some s): ∃B,s=⟨gK st.slots x ((st.get x).aR st.ep),B,st.ep+1,st.iss,st.io⟩/\ ∀st2:AS,st2.get q=st.get q->st2.get x=st.get x->st2.boxes=st.boxes->st2.ep=st.ep->st2.iss=st.iss->st2.io=st.io-> cx E Γ an ops Y p st2=some ⟨gK st2.slots x ((st.get x).aR st.ep),B,st.ep+1,st.iss,st.io⟩:=by
 have fT:∀st2:AS,st2.get q=st.get q->st2.ep=st.ep->dq E an Y p st2=dq E an Y p st:=by intro st2 h1 h2;simp only[dq,hp,AS.rd,h1,h2]
 unfold cx at h;cases hf:dq E an Y p st with
 |false=>rw[hf]at h;cases h
 |true=>
  rw[hf]at h;simp only[ah,gb,hg,cY,hp,hd,hl,aW,bU]at h;have jf:=hf;simp only[dq,hp]at jf;have Kt:((an.sb q).isNone&&(an.eb q).isNone&&(an.es q).isNone)=false:=by cases he:an.eb q with|none=>rw[he]at Pc;cases Pc|some _=>simp
  rw[Kt,cG]at jf;unfold vi at h;split at h;rename_i Ky;rw[Ky]at jf;simp only[ae,aS]at jf;rw[jf.2]at Xa;cases Xa;rename_i sh J5 r tg e y i off hT Ky;rw[Ky]at jf;cases r with
  |slot _ _=>simp only[ae,aS]at jf;rw[jf.1.1]at Ys;cases Ys
  |io _=>simp at jf
  |box b j=>
   split at h;rename_i gg vs st1 rk;have e1:(st.get x)=.val gg vs:=by have:=congrArg Prod.fst rk;exact this
   have e2:st1=⟨gK st.slots x ((st.get x).aR st.ep),st.boxes,st.ep,st.iss,st.io⟩:=by have:=congrArg Prod.snd rk;exact this.symm
   split at h;rename_i hlen;have main:∃B,∀sl:aw AV,(⟨sl,st.boxes,st.ep,st.iss,st.io⟩:AS).oz (.box b j) tg e i off vs some=some ⟨sl,B,st.ep+1,st.iss,st.io⟩:=by
    subst e2;simp only[AS.oz,AS.eM,AS.eU,AS.eF]at h⊢;cases hb:(nth st.boxes b).getD none with
    |none=>rw[hb]at h;simp at h
    |some cs=>
     rw[hb]at h;simp only[eo]at h⊢;split at h;rename_i t' e' xs hn;split at h;rename_i he;simp only[dif_pos he];generalize (he▸xs:aw e.D)=zs at h⊢;split at h;rename_i ht;simp only[aE ht];cases hi:idx zs i with|none=>rw[hi]at h;simp[aa]at h|some y0=>simp only[hi,aa]at h⊢;split at h;exact⟨_,λsl=>rfl⟩;cases h
     cases h;cases h;rename_i t' i' q0 e' xs hn;split at h;rename_i he;simp only[dif_pos he];generalize (he▸xs:aw e.D)=zs at h⊢;split at h;rename_i ht;simp only[aE ht];cases hi:YB zs i' i with|none=>rw[hi]at h;simp[aa]at h|some y0=>simp only[hi,aa]at h⊢;split at h;exact⟨_,λsl=>rfl⟩;cases h
     cases h;cases h;cases h
   obtain⟨B,hB⟩:=main;refine⟨B,?_,λst2 h1 h2 h3 h4 h5 h6=>?_⟩;subst e2;rw[hB]at h;exact(dp h).symm;unfold cx;rw[fT st2 h1 h4,hf];have r2:st2.rd (.tmp q)=st.rd (.tmp q):=by simp only[AS.rd,h1,h4]
   have t2:st2.take (.tmp x)=(.val gg vs,⟨gK st2.slots x ((st.get x).aR st.ep),st.boxes,st.ep,st.iss,st.io⟩):=by simp only[AS.take,AS.put,h2,h3,h4,h5,h6,e1]
   simp only[ah,gb,hg,cY,hp,hd,hl,aW,bU,vi,hT,r2,Ky,t2];rw[aE hlen];exact hB _;cases h;cases h
  cases h
theorem abL {p:Oper}{x:Nat}(hp:p.op=.store T (.tmp q) (.tmp x))(hd:p.dst=none)(hg:p.guard=none)(Ys:an.es q=some b)(Pc:(an.eb q).isNone=true)(ju:b≠x)(Xa:(an.sb q).isNone=true)(hl:yA an p=false)(h:cx E Γ an ops Y p st=some s): ∃B,s=⟨gK (gK st.slots x ((st.get x).aR st.ep)) b B,st.boxes,st.ep+1,st.iss,st.io⟩/\ ∀st2:AS,st2.get q=st.get q->st2.get x=st.get x->nth st2.slots b=nth st.slots b->st2.boxes=st.boxes->st2.ep=st.ep->st2.iss=st.iss->st2.io=st.io-> cx E Γ an ops Y p st2=some ⟨gK (gK st2.slots x ((st.get x).aR st.ep)) b B,st.boxes,st.ep+1,st.iss,st.io⟩:=by
 have fT:∀st2:AS,st2.get q=st.get q->st2.ep=st.ep->dq E an Y p st2=dq E an Y p st:=by intro st2 h1 h2;simp only[dq,hp,AS.rd,h1,h2]
 unfold cx at h;cases hf:dq E an Y p st with
 |false=>rw[hf]at h;cases h
 |true=>
  rw[hf]at h;simp only[ah,gb,hg,cY,hp,hd,hl,aW,bU]at h;have jf:=hf;simp only[dq,hp]at jf;have Kt:((an.sb q).isNone&&(an.eb q).isNone&&(an.es q).isNone)=false:=by rw[Ys];simp
  rw[Kt,cG]at jf;unfold vi at h;split at h;rename_i Ky;rw[Ky]at jf;simp only[ae,aS]at jf;rw[jf.2]at Xa;cases Xa;rename_i sh J5 r tg e y i off hT Ky;rw[Ky]at jf;cases r with
  |box _ _=>simp only[ae,aS]at jf;rw[jf.1.1]at Pc;cases Pc
  |io _=>simp at jf
  |slot b' j=>
   simp only[ae,aS]at jf;have US:b'=b:=dp (jf.1.1.symm.trans Ys);subst US;split at h;rename_i gg vs st1 rk;have e1:(st.get x)=.val gg vs:=by have:=congrArg Prod.fst rk;exact this
   have e2:st1=⟨gK st.slots x ((st.get x).aR st.ep),st.boxes,st.ep,st.iss,st.io⟩:=by have:=congrArg Prod.snd rk;exact this.symm
   split at h;rename_i hlen;have main:∃B,∀sl:aw AV,nth sl b'=nth st.slots b'->(⟨sl,st.boxes,st.ep,st.iss,st.io⟩:AS).oz (.slot b' j) tg e i off vs some=some ⟨gK sl b' B,st.boxes,st.ep+1,st.iss,st.io⟩:=by
    subst e2;have gI:∀sl:aw AV,nth sl b'=nth st.slots b'->(⟨sl,st.boxes,st.ep,st.iss,st.io⟩:AS).get b'=st.get b':=λsl hq=>by unfold AS.get;rw[hq]
    have hq0:nth (gK st.slots x ((st.get x).aR st.ep)) b'=nth st.slots b':=by rw[ji,aH (cO ju)]
    simp only[AS.oz,AS.eM,AS.eU,gI _ hq0]at h;cases hb:st.get b' with
    |uF _=>rw[hb]at h;simp at h
    |val g0 cs=>
     rw[hb]at h;simp only at h;split at h;rename_i t' e' xs hn;split at h;rename_i he;split at h;rename_i ht;cases hi:idx (he▸xs:aw e.D) i with|none=>rw[hi]at h;simp[aa]at h|some y0=>simp only[hi,aa]at h;split at h;rename_i x' zQ;refine⟨.val g0 (gK cs j (.sl (.own (some t')) e ((he▸xs:aw e.D).set i.toNat x'))),λsl hq=>?_⟩;simp only[AS.oz,AS.eM,AS.eU,gI _ hq,hb,hn,dif_pos he,aE ht,hi,aa,zQ,AS.put];cases h
     cases h;cases h;rename_i t' i' q0 e' xs hn;split at h;rename_i he;split at h;rename_i ht;cases hi:YB (he▸xs:aw e.D) i' i with|none=>rw[hi]at h;simp[aa]at h|some y0=>simp only[hi,aa]at h;split at h;rename_i x' zQ;refine⟨.val g0 (gK cs j (.sl (.own (some t')) e ((he▸xs:aw e.D).set i.toNat x'))),λsl hq=>?_⟩;simp only[AS.oz,AS.eM,AS.eU,gI _ hq,hb,hn,dif_pos he,aE ht,hi,aa,zQ,AS.put];cases h
     cases h;cases h;cases h
   obtain⟨B,hB⟩:=main;refine⟨B,?_,λst2 h1 h2 uJ h3 h4 h5 h6=>?_⟩;subst e2;rw[hB _ (by rw[ji,aH (cO ju)])]at h;exact(dp h).symm;unfold cx;rw[fT st2 h1 h4,hf];have r2:st2.rd (.tmp q)=st.rd (.tmp q):=by simp only[AS.rd,h1,h4]
   have t2:st2.take (.tmp x)=(.val gg vs,⟨gK st2.slots x ((st.get x).aR st.ep),st.boxes,st.ep,st.iss,st.io⟩):=by simp only[AS.take,AS.put,h2,h3,h4,h5,h6,e1]
   simp only[ah,gb,hg,cY,hp,hd,hl,aW,bU,vi,hT,r2,Ky,t2];rw[aE hlen];exact hB _ (by rw[ji,aH (cO ju)];exact uJ);cases h;cases h
  cases h
theorem aes {o p:Oper}(ha:UD an o p=true)(h1:cx E Γ an ops X o st=some s1)(h2:cx E Γ an ops Y p s1=some s2): ∃t1,cx E Γ an ops Y p st=some t1/\cx E Γ an ops X o t1=some s2:=by
 unfold UD at ha;split at ha;rename_i T q x hp hpd hpg;simp only[ae,aK]at ha;obtain⟨⟨⟨Pc,Xa⟩,hl⟩,ha⟩:=ha;have aiS:∃d t,o.dst=some d/\o.guard=none/\((o.op=.move (.tmp t)/\an.mv.contains d=false/\an.fm.contains d=true)\/∃i,o.op=.extract (.tmp t) i)/\d≠q/\d≠x/\t≠x/\d≠t/\t≠q:=by split at ha;rename_i t d ho hd hg;simp only[ae,aK,cI]at ha;exact⟨d,t,hd,hg,.inl ⟨ho,ha.1.1.1.1.1.1,ha.1.1.1.1.1.2⟩,ha.1.1.1.1.2,ha.1.1.1.2,ha.1.1.2,ha.2,ha.1.2⟩;rename_i t i d ho hd hg;simp only[ae,aK,cI]at ha;exact⟨d,t,hd,hg,.inr ⟨i,ho⟩,ha.1.1.1.1,ha.1.1.1.2,ha.1.1.2,ha.2,ha.1.2⟩;cases ha
 obtain⟨d,t,hd,hg,ho,hdq,hdx,htx,hdt,htq⟩:=aiS;obtain⟨tv,v,rfl,ee⟩:=Ta hd hg ho hdt h1;have hq:((st.put (some t) tv).put (some d) v).get q=st.get q:=by rw[sH hdq];exact sH htq
 have hx:((st.put (some t) tv).put (some d) v).get x=st.get x:=by rw[sH hdx,sH htx]
 simp only[cz,ae]at Pc;rcases Pc with⟨Pc,Ys⟩|Ys;obtain⟨B,rfl,Yu⟩:=aet hp hpd hpg Pc Ys Xa hl h2;have k1:=Yu st hq.symm hx.symm rfl rfl rfl rfl;refine⟨_,k1,?_⟩;have EH:(⟨gK st.slots x ((((st.put (some t) tv).put (some d) v).get x).aR ((st.put (some t) tv).put (some d) v).ep),B,((st.put (some t) tv).put (some d) v).ep+1,((st.put (some t) tv).put (some d) v).iss,((st.put (some t) tv).put (some d) v).io⟩:AS).get t=st.get t:=by simp only[AS.get,ji,aH (cO htx)]
 rw[ee _ EH];simp only[AS.put,aZ,AS.mk.injEq,iu];rw[iO _ (cO htx),iO _ (cO hdx)];cases hb:an.es q with
 |none=>rw[hb]at Ys;cases Ys
 |some b=>
  rw[hb]at Ys;simp only[ae,aK,cI]at Ys;obtain⟨⟨⟨Pc,ju⟩,_⟩,hbw⟩:=Ys;have hbw:=lC hbw b (by simp);have hbd:b≠d:=λe=>hbw (by simp[hd,e]);have hbt:b≠t:=λe=>hbw (by refine ay.2 (.inr ?_);rcases ho with⟨ho,_⟩|⟨i,ho⟩<;>simp[dB,ho,tm,e]);obtain⟨B,rfl,Yu⟩:=abL hp hpd hpg hb Pc ju Xa hl h2;have uJ:nth st.slots b=nth ((st.put (some t) tv).put (some d) v).slots b:=by simp only[AS.put,ji,aH (cO hbd),aH (cO hbt)]
  have k1:=Yu st hq.symm hx.symm uJ rfl rfl rfl rfl;refine⟨_,k1,?_⟩;have EH:(⟨gK (gK st.slots x ((((st.put (some t) tv).put (some d) v).get x).aR ((st.put (some t) tv).put (some d) v).ep)) b B,((st.put (some t) tv).put (some d) v).boxes,((st.put (some t) tv).put (some d) v).ep+1,((st.put (some t) tv).put (some d) v).iss,((st.put (some t) tv).put (some d) v).io⟩:AS).get t=st.get t:=by simp only[AS.get,ji,aH (cO htx),aH hbt]
  rw[ee _ EH];simp only[AS.put,aZ,AS.mk.injEq,iu];rw[iO _ hbt,iO _ hbd,iO _ (cO htx),iO _ (cO hdx)]
 cases ha
theorem Qi {c:AC}(h:c.kF=true\/(c.borrow ep none).kF=true):c.borrow ep none=c:=by
 cases c with
 |sl fl e xs=>exfalso;cases fl with|fg _ _ ep=>cases ep<;>simp[AC.borrow,AC.kF]at h|_=>simp[AC.borrow,AC.kF]at h
 |_=>rfl
theorem LI {cs:aw AC}{n:Nat}(gw:off+n<=cs.length)(k:Nat):(dZ cs off (aR ep ((cs.drop off).take n)))[k]?=(cs[k]?).map λc=>if off<=k/\k<off+n then c.borrow ep none else c:=by
 have hl:(aR ep ((cs.drop off).take n)).length=n:=by simp[aR];omega
 unfold dZ;rw[hl];by_cases h1:k<off;rw[aQ,bz (by simp;omega),dQ h1];have:(λc:AC=>if off<=k/\k<off+n then c.borrow ep none else c)=id:=by funext c;rw[lZ];rfl
 rw[this,Option.map_id];rfl;by_cases h2:k<off+n;rw[bz (by simp[hl];omega),bq (by simp;omega)];have e:k-(cs.take off).length=k-off:=by simp;omega
 rw[e,aR,List.getElem?_map,dQ (by omega),bI,show off+(k-off)=k by omega];congr 1;funext c;rw[zip];rw[bq (by simp[hl];omega)];have e:k-(cs.take off++aR ep ((cs.drop off).take n)).length=k-(off+n):=by simp[hl];omega
 rw[e,bI,show off+n+(k-(off+n))=k by omega];have:(λc:AC=>if off<=k/\k<off+n then c.borrow ep none else c)=id:=by funext c;rw[lZ];rfl
 rw[this,Option.map_id];rfl
theorem GD {cs:aw AC}{n o2 n2:Nat}(gw:off+n<=cs.length)(h:((cs.drop o2).take n2).all AC.kF=true\/(((dZ cs off (aR ep ((cs.drop off).take n))).drop o2).take n2).all AC.kF=true): ((dZ cs off (aR ep ((cs.drop off).take n))).drop o2).take n2=(cs.drop o2).take n2:=by
 apply cn;intro k;by_cases hk:k<n2;rw[dQ hk,dQ hk,bI,bI,LI gw];cases hc:cs[o2+k]? with|none=>rfl|some c=>simp only[dc];split;rename_i sJ;refine congrArg some (Qi ?_);rcases h with h|h;left;refine aG.1 h c (bn (i:=k) ?_);rw[dQ hk,bI,hc];right;refine aG.1 h _ (bn (i:=k) ?_);rw[dQ hk,bI,LI gw,hc,dc,aE sJ];rfl
 rw[bh (by simp;omega),bh (by simp;omega)]
theorem HX:∀{cs:aw AC}{j:Nat},cs.all AC.kF=true->ib ep (.box b) j cs=cs
 |[],_,_=>rfl
 |c::cs,j,h=>by simp only[cb,ae]at h;rw[ib,HX h.2];congr 1;cases c<;>first|rfl|(simp[AC.kF]at h)
theorem LS {o:Oper}(h:zZ an o=true):∃T q d,o.op=.load T (.tmp q)/\o.dst=some d/\o.guard=none/\an.mv.contains d=true/\(an.mb d).isSome=true:=by unfold zZ at h;split at h;rename_i T q d ho hd hg;simp only[ae]at h;exact⟨T,q,d,ho,hd,hg,h.1,h.2⟩;cases h
theorem Ke {o:Oper}(h:Kd an o=true):∃T q d,o.op=.load T (.tmp q)/\o.dst=some d/\o.guard=none/\an.mv.contains d=false/\an.fm.contains d=true:=by unfold Kd at h;split at h;rename_i T q d ho hd hg;simp only[ae,aK]at h;exact⟨T,q,d,ho,hd,hg,h.1,h.2⟩;cases h
theorem DG {o:Oper}(ht:zZ an o=true)(ho:o.op=.load T (.tmp q))(hd:o.dst=some d)(hg:o.guard=none)(BO:an.mv.contains d=true):cx E Γ an ops X o st=some s↔ ∃sh b off cs,iR E.ty T=some sh/\st.rd (.tmp q)=.val false [.ptr b off]/\(nth st.boxes b).getD none=some cs/\off+sh.ct.size<=cs.length/\X.contains b=false/\an.mb d=some b/\(TG an o=true->Ck E T st b off=true)/\ s=(st.eF b (some (dZ cs off (aR st.ep ((cs.drop off).take sh.ct.size))))).put (some d) (.val sh.agg ((cs.drop off).take sh.ct.size)):=by
 have key:dq E an X o st=true->∀r,cY E Γ an o st some=some r->∃b off,st.rd (.tmp q)=.val false [.ptr b off]:=by intro hf r hr;simp only[cY,ho,oh]at hr;split at hr;rename_i hp;exact⟨_,_,hp⟩;rename_i hp;simp only[dq,ho,hp,ht,jt,aj,fE,dN]at hf;cases hf;cases hr
 unfold cx;constructor;intro h;cases hf:dq E an X o st with|false=>rw[hf]at h;cases h|true=>rw[hf]at h;simp only[ah,gb,hg]at h;obtain⟨b,off,hp⟩:=key hf s h;simp only[dq,ho,hp,hd,BO,aj,cG,ae,aK,aS,cz]at hf;simp only[cY,ho,oh,hp]at h;cases hT:iR E.ty T with|none=>rw[hT]at h;cases h|some sh=>rw[hT]at h;simp only at h;cases hb:(nth st.boxes b).getD none with|none=>rw[hb]at h;cases h|some cs=>rw[hb]at h;simp only at h;split at h;rename_i gw;simp only[hd,BO,bN]at h;cases h;refine⟨sh,b,off,cs,rfl,hp,hb,gw,hf.1.1,hf.1.2,λhm=>?_,rfl⟩;rcases hf.2 with g|g;rw[hm]at g;cases g;exact g;cases h
 rintro⟨sh,b,off,cs,hT,hp,hb,gw,hX,TI,Jt,rfl⟩;have hf:dq E an X o st=true:=by simp only[dq,ho,hp,hd,BO,hX,TI,aj,cG,ae,aK,aS,cz];refine⟨⟨cv,cv⟩,?_⟩;cases hm:TG an o with|false=>exact .inl rfl|true=>exact .inr (Jt hm)
 rw[hf];simp only[ah,gb,hg,cY,ho,oh,hp,hT,hb,aE gw,hd,BO,bN]
theorem Dk {o:Oper}(ho:o.op=.load T (.tmp q))(hd:o.dst=some d)(hg:o.guard=none)(BO:an.mv.contains d=false)(Jt:an.fm.contains d=true):cx E Γ an ops X o st=some s↔ ∃sh b off cs,iR E.ty T=some sh/\st.rd (.tmp q)=.val false [.ptr b off]/\(nth st.boxes b).getD none=some cs/\off+sh.ct.size<=cs.length/\X.contains b=false/\((cs.drop off).take sh.ct.size).all AC.kF=true/\ s=st.put (some d) (.val sh.agg ((cs.drop off).take sh.ct.size)):=by
 have hfb:TG an o=true:=by simp only[TG,hd,Jt]
 have key:dq E an X o st=true->∀r,cY E Γ an o st some=some r->∃b off,st.rd (.tmp q)=.val false [.ptr b off]:=by intro hf r hr;simp only[cY,ho,oh]at hr;split at hr;rename_i hp;exact⟨_,_,hp⟩;rename_i hp;simp only[dq,ho,hp,hfb,ir,aj,fE,dN]at hf;cases hf;cases hr
 unfold cx;constructor;intro h;cases hf:dq E an X o st with
 |false=>rw[hf]at h;cases h
 |true=>
  rw[hf]at h;simp only[ah,gb,hg]at h;obtain⟨b,off,hp⟩:=key hf s h;simp only[dq,ho,hp,hd,BO,hfb,aj,bF,ir,cG,dS,ae,aK]at hf;simp only[cY,ho,oh,hp]at h;cases hT:iR E.ty T with
  |none=>rw[hT]at h;cases h
  |some sh=>
   rw[hT]at h;simp only at h;cases hb:(nth st.boxes b).getD none with
   |none=>rw[hb]at h;cases h
   |some cs=>
    rw[hb]at h;simp only at h;split at h;rename_i gw;have mi:((cs.drop off).take sh.ct.size).all AC.kF=true:=by have:=hf.2;unfold Ck at this;rw[hT,hb]at this;exact this
    simp only[hd,BO,aW,bU,HX mi]at h;cases h;exact⟨sh,b,off,cs,rfl,hp,hb,gw,hf.1,mi,rfl⟩;cases h
 rintro⟨sh,b,off,cs,hT,hp,hb,gw,hX,mi,rfl⟩;have hf:dq E an X o st=true:=by simp only[dq,ho,hp,hd,BO,hX,hfb,Ck,hT,hb,mi];rfl
 rw[hf];simp only[ah,gb,hg,cY,ho,oh,hp,hT,hb,aE gw,hd,BO,aW,bU,HX mi]
theorem N1 {v:AV}(h:d≠q):(st.put (some d) v).rd (.tmp q)=st.rd (.tmp q):=by simp only[AS.rd,sH h];rfl
theorem ade {cs:ax (aw AC)}:(st.eF b cs).rd (.tmp q)=st.rd (.tmp q):=rfl
theorem T0 {cs x:aw AC}(h:(nth st.boxes b).getD none=some cs):(nth (gK st.boxes b (some x)) b).getD none=some x:=by
 rw[ji,aE rfl];cases hn:nth st.boxes b with
 |none=>rw[hn]at h;cases h
 |some _=>
  have:b<st.boxes.length:=by rw[dJ]at hn;exact(aF.1 hn).1
  rw[aE this];rfl
theorem T1 {b2:Nat}{x:aw AC}(h:b≠b2):nth (gK st.boxes b (some x)) b2=nth st.boxes b2:=by rw[ji,aH h]
theorem ae3 {o p:Oper}(ha:Vw an o p=true)(h1:cx E Γ an ops X o st=some s1)(h2:cx E Γ an ops Y p s1=some s2): ∃t1,cx E Γ an ops Y p st=some t1/\cx E Γ an ops X o t1=some s2:=by
 simp only[Vw,ae,cz,aK]at ha;obtain⟨⟨ha,m1⟩,m2⟩:=ha;have m1:=lC m1;have m2:=lC m2;rcases ha with⟨ht,hf⟩|⟨hf,ht⟩;obtain⟨T,q,d,ho,hd,hg,BO,TI⟩:=LS ht;obtain⟨T2,q2,d2,hp,Qy,EH,RG,Yt⟩:=Ke hf;have n1:d≠d2:=λe=>m1 d (by simp[hd]) (by simp[Qy,e]);have n2:d≠q2:=λe=>m1 d (by simp[hd]) (by simp[dB,hp,tm,e]);have n3:d2≠q:=λe=>m2 d2 (by simp[Qy]) (by simp[dB,ho,tm,e]);obtain⟨sh,b,off,cs,hT,hr,hb,gw,hX,ag6,Jt,rfl⟩:=(DG ht ho hd hg BO).1 h1;obtain⟨sh2,b2,MB,BV,hT2,Mo,Js,W8,hX2,Pk,rfl⟩:=(Dk hp Qy EH RG Yt).1 h2;rw[N1 n2,ade]at Mo;have ju:(nth (gK st.boxes b (some (dZ cs off (aR st.ep ((cs.drop off).take sh.ct.size))))) b2).getD none=some BV:=Js;have pC:∃MY,(nth st.boxes b2).getD none=some MY/\MB+sh2.ct.size<=MY.length/\(BV.drop MB).take sh2.ct.size=(MY.drop MB).take sh2.ct.size:=by
  by_cases US:b=b2;subst US;rw[T0 hb]at ju;cases ju;have hlen:(dZ cs off (aR st.ep ((cs.drop off).take sh.ct.size))).length=cs.length:=by simp only[dZ,aR,ai,da,aY,aM];omega
  exact⟨cs,hb,by omega,GD gw (.inr Pk)⟩;rw[T1 US]at ju;exact⟨BV,ju,W8,rfl⟩
 obtain⟨MY,Rv,Rz,he⟩:=pC;rw[he]at Pk⊢;refine⟨_,(Dk hp Qy EH RG Yt).2 ⟨sh2,b2,MB,MY,hT2,Mo,Rv,Rz,hX2,Pk,rfl⟩,(DG ht ho hd hg BO).2 ⟨sh,b,off,cs,hT,by rw[N1 n3];exact hr,hb,gw,hX,ag6,λhm=>?_,?_⟩⟩;have:=Jt hm;unfold Ck at this⊢;exact this;simp only[AS.put,AS.eF,AS.mk.injEq,iu];exact iO _ n1 _ _;obtain⟨T,q,d,ho,hd,hg,BO,Jt⟩:=Ke hf;obtain⟨T2,q2,d2,hp,Qy,EH,RG,ag5⟩:=LS ht;have n1:d≠d2:=λe=>m1 d (by simp[hd]) (by simp[Qy,e]);have n2:d≠q2:=λe=>m1 d (by simp[hd]) (by simp[dB,hp,tm,e]);have n3:d2≠q:=λe=>m2 d2 (by simp[Qy]) (by simp[dB,ho,tm,e]);obtain⟨sh,b,off,cs,hT,hr,hb,gw,hX,mi,rfl⟩:=(Dk ho hd hg BO Jt).1 h1;obtain⟨sh2,b2,MB,BV,hT2,Mo,Js,W8,hX2,ag6,Yt,rfl⟩:=(DG ht hp Qy EH RG).1 h2;rw[N1 n2]at Mo;refine⟨_,(DG ht hp Qy EH RG).2 ⟨sh2,b2,MB,BV,hT2,Mo,Js,W8,hX2,ag6,λhm=>Yt hm,rfl⟩,?_⟩;have pC:∃MY,(nth (gK st.boxes b2 (some (dZ BV MB (aR st.ep ((BV.drop MB).take sh2.ct.size))))) b).getD none=some MY/\off+sh.ct.size<=MY.length/\(MY.drop off).take sh.ct.size=(cs.drop off).take sh.ct.size:=by
  by_cases US:b2=b;subst US;have Hd:BV=cs:=dp (Js.symm.trans hb);subst Hd;have hlen:(dZ BV MB (aR st.ep ((BV.drop MB).take sh2.ct.size))).length=BV.length:=by simp only[dZ,aR,ai,da,aY,aM];omega
  exact⟨_,T0 hb,by omega,GD W8 (.inl mi)⟩;exact⟨cs,by rw[T1 US];exact hb,gw,rfl⟩
 obtain⟨MY,Rv,Rz,he⟩:=pC;refine(Dk ho hd hg BO Jt).2 ⟨sh,b,off,MY,hT,by rw[N1 n3,ade];exact hr,Rv,Rz,hX,by rw[he];exact mi,?_⟩;rw[he];simp only[AS.put,AS.eF,AS.mk.injEq,iu];exact iO _ n1 _ _
theorem LR {o:Oper}(ht:CY an o=true)(ho:o.op=.load T (.tmp q))(hd:o.dst=some d)(hg:o.guard=none)(BO:an.mv.contains d=true)(TI:an.mb d=none):cx E Γ an ops X o st=some s↔ ∃(g:Bool)(e:CT)(jw:aw (Nat×Nat))(b j t J5:Nat)(x:e.D)(i:Int)(cs:aw AC)(ys:aw e.D)(y:e.D),iR E.ty T=some ⟨g,e,jw⟩/\st.rd (.tmp q)=.val false [.zM (.loc J5 (some (.box b j,t))) e x i 0]/\(nth st.boxes b).getD none=some cs/\nth cs j=some (.sl (.own (some t)) e ys)/\idx ys i=some y/\ X.contains b=false/\an.eb q=some b/\TG an o=false/\s=(GL st b j t e i cs ys).put (some d) (.val g (cellsOf e (.own none) y)):=by rw[<-LQ ht ho hd BO TI];unfold cx;cases dq E an X o st with|false=>simp|true=>simp only[ah,gb,hg,cY,ho,true_and]
theorem ZU {o:Oper}(h:zw an o=true):∃T q d,o.op=.load T (.tmp q)/\o.dst=some d/\o.guard=none/\an.mv.contains d=false/\TG an o=false:=by unfold zw at h;split at h;rename_i T q d ho hd hg;simp only[ae,aK]at h;exact⟨T,q,d,ho,hd,hg,h.1.1,by simp only[TG,hd];exact h.1.2⟩;cases h
theorem Lg {o:Oper}(Dr:zw an o=true)(ho:o.op=.load T (.tmp q))(hd:o.dst=some d)(hg:o.guard=none)(BO:an.mv.contains d=false)(Jt:TG an o=false):cx E Γ an ops X o st=some s↔ ∃sh b off cs,iR E.ty T=some sh/\st.rd (.tmp q)=.val false [.ptr b off]/\(nth st.boxes b).getD none=some cs/\off+sh.ct.size<=cs.length/\X.contains b=false/\ s=st.put (some d) (.val sh.agg (ib st.ep (.box b) off ((cs.drop off).take sh.ct.size))):=by
 unfold cx;constructor;intro h;cases hf:dq E an X o st with|false=>rw[hf]at h;cases h|true=>rw[hf]at h;simp only[ah,gb,hg,cY,ho]at h;unfold oh at h;split at h;rename_i sh b off hT hp;simp only[dq,ho,hp,hd,BO,Jt,bF,ir,dS,aK]at hf;split at h;rename_i cs hb;split at h;rename_i gw;simp only[hd,BO,aW,bU]at h;cases h;exact⟨sh,b,off,cs,hT,hp,hb,gw,hf,rfl⟩;cases h;cases h;rename_i hp;simp only[dq,ho,hp,Dr,aj,fE,dN]at hf;cases hf;cases h
 rintro⟨sh,b,off,cs,hT,hp,hb,gw,hX,rfl⟩;have hf:dq E an X o st=true:=by simp only[dq,ho,hp,hd,BO,hX,Jt];rfl
 rw[hf];simp only[ah,gb,hg,cY,ho,oh,hp,hT,hb,aE gw,hd,BO,aW,bU]
theorem JO:∀(cs:aw AC)(p k:Nat)(c':AC),(∀c,cs[k]?=some c->∀r,c'.borrow ep (some r)=c.borrow ep (some r))->ib ep (.box b) p (cs.set k c')=ib ep (.box b) p cs
 |[],_,_,_,_=>rfl
 |c::cs,p,0,c',h=>by simp only[List.set_cons_zero,ib,h c rfl]
 |c::cs,p,k+1,c',h=>by simp only[List.set_cons_succ,ib];rw[JO cs (p+1) k c' (λc hc=>h c (by simpa using hc))]
theorem QN {j n:Nat}{e:CT}{i:Int}{ys:aw e.D}{cs:aw AC}(hj:nth cs j=some (.sl (.own (some t)) e ys)): ib ep (.box b) off (((gK cs j (.sl (.fg (some t) i (some ep)) e ys)).drop off).take n)=ib ep (.box b) off ((cs.drop off).take n):=by rw[ft,List.drop_set];split;rfl;rename_i gQ;rw[List.take_set];refine JO _ _ _ _ λc hc r=>?_;by_cases hn:j-off<n;rw[dQ hn,bI,show off+(j-off)=j by omega,<-dJ,hj]at hc;cases hc;rfl;rw[bh (by simp;omega)]at hc;cases hc
theorem aen {o p:Oper}(ha:T4 an o p=true)(h1:cx E Γ an ops X o st=some s1)(h2:cx E Γ an ops Y p s1=some s2): ∃t1,cx E Γ an ops Y p st=some t1/\cx E Γ an ops X o t1=some s2:=by
 simp only[T4,ae,aK]at ha;obtain⟨⟨⟨Dr,ht⟩,m1⟩,m2⟩:=ha;have m1:=lC m1;have m2:=lC m2;obtain⟨T,q,d,ho,hd,hg,BO,Jt⟩:=ZU Dr;obtain⟨T2,q2,d2,hp,Qy,EH,RG,ag5⟩:=Oa ht;have n1:d≠d2:=λe=>m1 d (by simp[hd]) (by simp[Qy,e]);have n2:d≠q2:=λe=>m1 d (by simp[hd]) (by simp[dB,hp,tm,e]);have n3:d2≠q:=λe=>m2 d2 (by simp[Qy]) (by simp[dB,ho,tm,e]);obtain⟨sh,b,off,cs,hT,hr,hb,gw,hX,rfl⟩:=(Lg Dr ho hd hg BO Jt).1 h1;obtain⟨g,e,jw,b2,j,t,J5,x,i,BV,ys,y,hT2,Mo,Js,hj,hi,hX2,Pc,Yt,rfl⟩:=(LR ht hp Qy EH RG ag5).1 h2;rw[N1 n2]at Mo;have aiP:(nth st.boxes b2).getD none=some BV:=Js;refine⟨_,(LR ht hp Qy EH RG ag5).2 ⟨g,e,jw,b2,j,t,J5,x,i,BV,ys,y,hT2,Mo,aiP,hj,hi,hX2,Pc,Yt,rfl⟩,?_⟩;have pC:∃MY,(nth (gK st.boxes b2 (some (gK BV j (.sl (.fg (some t) i (some st.ep)) e ys)))) b).getD none=some MY/\off+sh.ct.size<=MY.length/\ib st.ep (.box b) off ((MY.drop off).take sh.ct.size)=ib st.ep (.box b) off ((cs.drop off).take sh.ct.size):=by by_cases US:b2=b;subst US;have Hd:BV=cs:=dp (aiP.symm.trans hb);subst Hd;exact⟨_,T0 hb,by rw[ft,aC];exact gw,QN hj⟩;exact⟨cs,by rw[T1 US];exact hb,gw,rfl⟩
 obtain⟨MY,Rv,Rz,he⟩:=pC;refine(Lg Dr ho hd hg BO Jt).2 ⟨sh,b,off,MY,hT,by rw[N1 n3];exact hr,Rv,Rz,hX,?_⟩;show _=((GL st b2 j t e i BV ys).put (some d2) _).put (some d) (.val sh.agg (ib st.ep (.box b) off ((MY.drop off).take sh.ct.size)));rw[he];simp only[AS.put,GL,AS.eF,AS.mk.injEq,iu];exact iO _ n1 _ _
def ME (E:Env)(Γ:xT)(an:An)(ops:aw Oper)(X:Nat->fw):fw->AS->ax AS
 |[],st=>some st
 |i::r,st=>match nth ops i with
  |some o=>(cx E Γ an ops (X i) o st).bind (ME E Γ an ops X r)
  |none=>none
theorem Lz (yQ:∀f,(Γ f).io=false/\((Γ f).bx=true->(Γ f).cur=true)/\(Γ f).pr=false){X:Nat->fw}{oi:Oper}(hi:nth ops i=some oi):∀(pre post:fw)(st r:AS),(∀j∈pre,∀oj,nth ops j=some oj->JI an ops (X j) (X i) oj oi=true)->
 ME E Γ an ops X (pre++i::post) st=some r->ME E Γ an ops X (i::(pre++post)) st=some r
 |[],post,st,r,_,h=>h
 |j::pre,post,st,r,ha,h=>by
  simp only[List.cons_append,ME]at h;cases hj:nth ops j with
  |none=>rw[hj]at h;cases h
  |some oj=>
   rw[hj]at h;simp only at h;obtain⟨s1,h1,h2⟩:=aL.1 h;have h3:=Lz yQ hi pre post s1 r (λk hk=>ha k (by simp[hk])) h2;simp only[ME,hi]at h3;obtain⟨s2,h4,h5⟩:=aL.1 h3;have hap:=ha j (by simp) oj hj;obtain⟨t1,k1,k2⟩:∃t1,cx E Γ an ops (X i) oi st=some t1/\cx E Γ an ops (X j) oj t1=some s2:=by cases hx:ac7 an oj oi with|false=>rw[JI,hx,cG]at hap;exact Wo yQ hap h1 h4|true=>simp only[ac7,cz]at hx;rcases hx with((hx|hx)|hx)|hx;exact abS hx h1 h4;exact aes hx h1 h4;exact ae3 hx h1 h4;exact aen hx h1 h4
   simp only[ME,hi,k1,eo,List.cons_append,hj,k2];exact h5
end Go.Dn
