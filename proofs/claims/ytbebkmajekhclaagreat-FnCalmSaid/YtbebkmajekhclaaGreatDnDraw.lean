import Derived.Test.YtbebkmajekhclaaGreatDnUpd
/- Operations that are apart may change places. -/
namespace Go.Dn
variable {E:Env} {Γ:Cn} {an:An} {ops:aw Oper}
variable {s s1 s2 st:AS} {b d ep i off q t:Nat} {α:Type} {T:TypeId} {X Y:fM}
def dh (E:Env)(Γ:Cn)(an:An)(ops:aw Oper)(X:fM)(o:Oper)(st:AS):aB AS:=
 bif ei E an X o st then iI E Γ an ops o st some else none
structure VE (an:An) (ops:List Oper) (X:List Nat) (o:Oper) (st st2:AS):Prop where
 base:iX an X o st st2
 gd:∀t∈GM an ops o,st2.get t=st.get t
theorem aaK {b:Bool}(h:st.get d=.val false [.bool b]):st.put (some d) (.one (.bool b))=st:=by cases st with|mk slots boxes ep iss io=>simp only[AS.put,AS.mk.injEq,jK];rw[gH];apply dj;intro i;rw[bJ];split;rename_i hd;subst hd;simp only[AS.get,eU]at h;split;rename_i hG;rw[al hG]at h⊢;simp only[gO]at h;rw[h];rename_i CF;rw[bI (Nat.le_of_not_lt CF)];rfl
theorem Ww {st2:AS}{s:Nat}(h:nth st2.boxes s=nth st.boxes s):GH E T st2 s off=GH E T st s off:=by unfold GH;rw[h]
theorem Ju {o:Oper}{st2:AS}(ha:iX an X o st st2):ei E an X o st2=ei E an X o st:=by
 unfold ei;split;rename_i ho;rw[ha.rd (λt ht=>by simpa[eI,ho]using ht)];rename_i T p ho;rw[ha.rd (λt ht=>by simp[eI,ho,ht]),ha.ep];rename_i ho;rw[ha.rd (λt ht=>by simp[eI,ho,ht]),ha.ep];rename_i f args ts ho;have hcur:vR an X (erS an o) st2 args.toList=vR an X (erS an o) st args.toList:=by
  have hl:∀x∈args.toList,∀t∈tm x,t∈eI o:=by intro x hx t ht;simp only[eI,ho,aA,TE,List.mem_flatMap];exact .inr ⟨x,hx,ht⟩
  generalize args.toList=l at hl;cases l with
  |nil=>rfl
  |cons x xs=>
   have DD:xs.all (Lw (erS an o) st2)=xs.all (Lw (erS an o) st):=by
    rw[cQ];simp only[aF];have e:∀y∈xs,Lw (erS an o) st2 y=Lw (erS an o) st y:=by intro y hy;cases y with|tmp t=>have hg:=ha.get t (hl (.tmp t) (by simp[hy]) t (by simp[tm]));simp only[Lw,hg]|const v=>rfl|func v=>rfl|global v=>rfl
    exact⟨λg y hy=>by rw[<-e y hy];exact g y hy,λg y hy=>by rw[e y hy];exact g y hy⟩
   have hr:=ha.rd (hl x (by simp));cases x with
   |tmp q=>
    simp only[vR,hr];generalize st.rd (.tmp q)=v;unfold ajB;rw[DD];split;rename_i s off;cases hX:X.contains s with|true=>simp|false=>rw[ha.box s hX]
    rfl
   |const v=>simp only[vR,hr]
   |func v=>simp only[vR,hr]
   |global v=>simp only[vR,hr]
 rw[hcur];congr 1;rw[cQ];simp only[aF];constructor;intro hx x hm;have:=hx x hm;rwa[ha.rd (λt ht=>by simp only[eI,ho,aA,TE,List.mem_flatMap];exact .inr ⟨x,hm,ht⟩),ha.ep]at this;intro hx x hm;rw[ha.rd (λt ht=>by simp only[eI,ho,aA,TE,List.mem_flatMap];exact .inr ⟨x,hm,ht⟩),ha.ep];exact hx x hm;rename_i ho;rw[ha.rd (λt ht=>by simpa[eI,ho]using ht),ha.ep];split;rename_i s off _;cases hX:X.contains s with|true=>rfl|false=>rw[Ww (ha.box s hX)]
 rfl;rfl;rename_i ho;rw[ha.rd (λt ht=>by simp only[eI,ho,aA];exact .inl ht)];rename_i ho;rw[ha.get _ (by simp[eI,ho])];rfl
theorem Oh (Db:∀f,(Γ f).io=false/\((Γ f).bx=true->(Γ f).cur=true)/\(Γ f).pr=false){o:Oper}{cj:AS}(hm:pF an o=true)(h:dh E Γ an ops X o st=some cj): ∃u:L0,u.Jg an o/\cj=u.apply st/\∀st2,VE an ops X o st st2->dh E Γ an ops X o st2=some (u.apply st2):=by
 unfold dh at h;cases hf:ei E an X o st with
 |false=>rw[hf]at h;cases h
 |true=>
  rw[hf]at h;simp only[ah]at h;unfold iI at h;split at h;rename_i hg;obtain⟨u,h1,h2,h3⟩:=Sk (X:=X) Db hm hf h;refine⟨u,h1,h2,λst2 ha=>?_⟩;unfold dh;rw[Ju ha.base,hf];simp only[ah,iI,hg];exact h3 st2 ha.base;rename_i j JZ hg;split at h;rename_i d hd;have uX:d∈GM an ops o:=by simp[GM,hg,hd]
  split at h;rename_i b hb;have hgo:(if(b==JZ)=true then dp E Γ an o st some else some (st.put o.dst (.one .un)))=some cj:=by cases b<;>simpa only[ah,af,aaK hb]using h
  have h2g:∀st2,VE an ops X o st st2->dh E Γ an ops X o st2=(if(b==JZ)=true then dp E Γ an o st2 some else some (st2.put o.dst (.one .un))):=by
   intro st2 ha;have Uh:st2.get d=.val false [.bool b]:=by rw[ha.gd d uX];exact hb
   unfold dh;rw[Ju ha.base,hf];simp only[ah,iI,hg,hd,Uh];cases b<;>simp only[ah,af,aaK Uh]
  split at hgo;rename_i hw;obtain⟨u,h1,h2,h3⟩:=Sk (X:=X) Db hm hf hgo;exact⟨u,h1,h2,λst2 ha=>by rw[h2g st2 ha,aH hw];exact h3 st2 ha.base⟩;rename_i hw;cases hgo;exact⟨FO o (.one .un),El _,by rw[uK],λst2 ha=>by rw[h2g st2 ha,aG hw,uK]⟩;rename_i hb;cases h;refine⟨FO o (.one .un),El _,by rw[uK],λst2 ha=>?_⟩;have Uh:st2.get d=.val false [.un]:=by rw[ha.gd d uX];exact hb
  unfold dh;rw[Ju ha.base,hf,uK];simp only[ah,iI,hg,hd,Uh];cases h;cases h
theorem kc (l:aw α){j:Nat}(h:i≠j)(v w:α):ji (ji l i v) j w=ji (ji l j w) i v:=by rw[gH,gH,gH,gH,List.set_comm _ _ h]
theorem aec (l:aw AV)(a:aw (Nat×AV))(v:AV)(h:∀x∈a,x.1≠i):lu (ji l i v) a=ji (lu l a) i v:=by induction a generalizing l with|nil=>rfl|cons x a ih=>simp only[lu];rw[kc _ (cl (h x (by simp))),ih _ (λy hy=>h y (by simp[hy]))]
theorem aaG (l:aw AV)(a b:aw (Nat×AV))(h:∀x∈a,∀y∈b,x.1≠y.1):lu (lu l a) b=lu (lu l b) a:=by induction b generalizing l with|nil=>rfl|cons y b ih=>simp only[lu];rw[<-aec l a y.2 (λx hx=>h x hx y (by simp)),ih _ (λx hx z hz=>h x hx z (by simp[hz]))]
theorem Tq (l:aw AV)(a:aw (Nat×AV))(h:∀x∈a,x.1≠t):nth (lu l a) t=nth l t:=by induction a generalizing l with|nil=>rfl|cons x a ih=>rw[lu,ih _ (λy hy=>h y (by simp[hy])),kQ,aG (h x (by simp))]
theorem nV {a b:fM}(h:meets a b=false):∀x∈a,x∉b:=by intro x hx hb;unfold meets at h;rw[List.any_eq_false]at h;exact h x hx (by simpa using hb)
theorem L0.ajj {u:L0}{o p:Oper}(hw:u.Jg an o)(h1:∀x∈writes an o,x∉eI p++GM an ops p++writes an p)(h2:∀d∈HB an o,Y.contains d=true)(h3:∀d∈HB an o,p.dst≠some d): VE an ops Y p (u.apply st) st/\VE an ops Y p st (u.apply st):=by
 have jh:∀t,t∈eI p++GM an ops p++writes an p->(u.apply st).get t=st.get t:=by intro t ht;unfold AS.get;have:nth (u.apply st).slots t=nth st.slots t:=Tq _ _ (λx hx he=>h1 _ (hw.slots x hx) (by rw[he];exact ht));rw[this]
 have agZ:∀d,p.dst=some d->nth (u.apply st).iss d=nth st.iss d/\nth (u.apply st).boxes d=nth st.boxes d:=by
  intro d hd;have Iu:d∈eI p++GM an ops p++writes an p:=by simp[writes,hd]
  have Eo:o.dst≠some d:=λhe=>h1 d (by simp[writes,he]) Iu;constructor;unfold L0.apply;cases hi:u.iss with|none=>rfl|some k=>simp only;rw[kQ,aG];rintro rfl;exact Eo (hw.iss _ hi)
  unfold L0.apply;cases hi:u.box with|none=>rfl|some k=>simp only;rw[kQ,aG];intro he;exact h3 _ (hw.box k hi) (by rw[he];exact hd)
 have asd:∀s,Y.contains s=false->nth (u.apply st).boxes s=nth st.boxes s:=by intro s hs;unfold L0.apply;cases hi:u.box with|none=>rfl|some k=>simp only;rw[kQ,aG];rintro rfl;have:=h2 k.1 (hw.box k hi);rw[this]at hs;cases hs
 have hlen:(u.apply st).slots.length=st.slots.length:=RK _ _;exact⟨⟨⟨hlen.symm,λt ht=>(jh t (by simp[ht])).symm,rfl,λd hd=>⟨((agZ d hd).1).symm,((agZ d hd).2).symm⟩,λs hs=>(asd s hs).symm,λt ht=>(jh t (by simp[GM,ht])).symm⟩,λt ht=>(jh t (by simp[ht])).symm⟩,⟨⟨hlen,λt ht=>jh t (by simp[ht]),rfl,agZ,asd,λt ht=>jh t (by simp[GM,ht])⟩,λt ht=>jh t (by simp[ht])⟩⟩
theorem abH {u v:L0}{o p:Oper}(hu:u.Jg an o)(hv:v.Jg an p)(h:∀x∈writes an o,x∉writes an p)(hb:∀x∈HB an o,x∉HB an p):v.apply (u.apply st)=u.apply (v.apply st):=by
 have WG:∀a b,o.dst=some a->p.dst=some b->a≠b:=λa b ha hb he=>h a (by simp[writes,ha]) (by simp[writes,hb,he]);have hs:=aaG st.slots u.slots v.slots (λx hx y hy he=>h _ (hu.slots x hx) (by rw[he];exact hv.slots y hy));simp only[L0.apply,AS.mk.injEq,true_and,jK];refine⟨hs,?_,?_⟩;cases hub:u.box with|none=>cases v.box<;>rfl|some k=>cases hvb:v.box with|none=>rfl|some l=>exact kc _ (λhe=>hb _ (hu.box k hub) (by rw[he];exact hv.box l hvb)) _ _
 cases hui:u.iss with|none=>cases v.iss<;>rfl|some k=>cases hvi:v.iss with|none=>rfl|some l=>exact kc _ (WG _ _ (hu.iss k hui) (hv.iss l hvi)) _ _
theorem aex (Db:∀f,(Γ f).io=false/\((Γ f).bx=true->(Γ f).cur=true)/\(Γ f).pr=false){o p:Oper}(ha:abF an ops X Y o p=true)(h1:dh E Γ an ops X o st=some s1)(h2:dh E Γ an ops Y p s1=some s2): ∃t1,dh E Γ an ops Y p st=some t1/\dh E Γ an ops X o t1=some s2:=by
 simp only[abF,ae,aO,aF]at ha;obtain⟨⟨⟨⟨⟨⟨⟨mo,mp⟩,w1⟩,w2⟩,b1⟩,b2⟩,b3⟩,b4⟩:=ha;have w1:=nV w1;have w2:=nV w2;have b3:=nV b3;have b4:=nV b4;obtain⟨u,hu,rfl,hu2⟩:=Oh Db mo h1;obtain⟨v,hv,rfl,WR⟩:=Oh Db mp h2;have ag1:=L0.ajj (ops:=ops) (p:=p) (Y:=Y) (st:=st) hu w1 b1 (λd hd he=>b3 d hd (by simp[he]));have hww:∀x∈writes an p,x∉eI o++GM an ops o++writes an o:=by intro x hx hm;rcases aA.1 hm with hm|hm;exact w2 x hx hm;exact w1 x hm (by simp[hx])
 have ag2:=L0.ajj (ops:=ops) (p:=o) (Y:=X) (st:=st) hv hww b2 (λd hd he=>b4 d hd (by simp[he]));refine⟨v.apply st,WR st ag1.1,?_⟩;rw[hu2 _ ag2.2,abH hu hv (λx hx hm=>w1 x hx (by simp[hm])) (λx hx hm=>b3 x hx (by simp[hm]))]
theorem Kw {v w:AV}(h:st.get t=v)(hv:v≠ .bot):(st.put (some t) w).get t=w:=by
 unfold AS.get at h;cases hn:nth st.slots t with
 |none=>rw[hn]at h;exact absurd h.symm hv
 |some q=>
  have hl:t<st.slots.length:=by rw[eU]at hn;exact(ay.1 hn).1
  unfold AS.get AS.put;simp only[eU,gH];rw[bf hl];rfl
theorem wG {w:AV}(h:d≠t):(st.put (some d) w).get t=st.get t:=by unfold AS.get AS.put;simp only[kQ,aG h]
theorem Eu {o:Oper}(ho:o.op=.extract (.tmp t) i)(hd:o.dst=some d)(hg:o.guard=none):dh E Γ an ops X o st=some s↔ ∃vs g cs,st.get t=.yE vs/\nth vs i=some (g,cs)/\(cs.all AC.kL||an.mv.contains d)=true/\s=(st.put (some t) (.yE (ji vs i (g,bg 0 cs)))).put (some d) (.val g cs):=by
 unfold dh;simp only[ei,ho,hd];constructor;intro h;cases hv:st.get t with|val g cs=>simp only[hv,ah,iI,hg,dp,ho,nE]at h;cases h|yE vs=>simp only[hv]at h;cases hn:nth vs i with|none=>simp only[hn,ah,iI,hg,dp,ho,nE,hv]at h;cases h|some x=>obtain⟨g,cs⟩:=x;simp only[hn]at h;cases hf:(cs.all AC.kL||an.mv.contains d)with|false=>rw[hf]at h;cases h|true=>rw[hf]at h;simp only[ah,iI,hg,dp,ho,nE,hv,hn,hd]at h;cases h;exact⟨vs,g,cs,rfl,hn,hf,rfl⟩
 rintro⟨vs,g,cs,hv,hn,hf,rfl⟩;simp only[hv,hn,hf,ah,iI,hg,dp,ho,nE,hd]
theorem aiH (l:aw α)(i:Nat)(v w:α):ji (ji l i v) i w=ji l i w:=by rw[gH,gH,gH,List.set_set]
theorem akl {o p:Oper}(ha:acK o p=true)(h1:dh E Γ an ops X o st=some s1)(h2:dh E Γ an ops Y p s1=some s2): ∃t1,dh E Γ an ops Y p st=some t1/\dh E Γ an ops X o t1=some s2:=by
 unfold acK at ha;split at ha;rename_i t i t' j d d' ho hp hd Iu hg qb;simp only[ae,bn,aO,bM,ne_eq]at ha;obtain⟨⟨⟨⟨rfl,hij⟩,WG⟩,hdt⟩,ash⟩:=ha;obtain⟨vs,g,cs,hv,hn,hf,rfl⟩:=(Eu ho hd hg).1 h1;obtain⟨vs2,g2,Gk,WR,EA,Dc,rfl⟩:=(Eu hp Iu qb).1 h2;have hq:((st.put (some t) (.yE (ji vs i (g,bg 0 cs)))).put (some d) (.val g cs)).get t=.yE (ji vs i (g,bg 0 cs)):=by rw[wG hdt,Kw hv (by simp)]
 rw[hq]at WR;cases WR;rw[kQ,aG hij]at EA;refine⟨_,(Eu hp Iu qb).2 ⟨vs,g2,Gk,hv,EA,Dc,rfl⟩,(Eu ho hd hg).2 ⟨ji vs j (g2,bg 0 Gk),g,cs,?_,?_,hf,?_⟩⟩;rw[wG ash,Kw hv (by simp)];rw[kQ,aG (cl hij)];exact hn;have e:=kc vs hij (g,bg 0 cs) (g2,bg 0 Gk);have a:∀(A B:AV)(q:Nat)(v:AV),q≠t->ji (ji (ji st.slots t A) q v) t B=ji (ji st.slots t B) q v:=λA B q v hq=>by rw[kc _ hq,aiH]
 simp only[AS.put,AS.mk.injEq,jK];rw[a _ _ _ _ hdt,a _ _ _ _ ash,e,kc _ WG];cases ha
theorem afJ (s:AS)(t:Nat):s.put (some t) (s.get t)=s:=by cases s with|mk slots boxes ep iss io=>simp only[AS.put,AS.mk.injEq,jK];rw[gH];apply dj;intro i;rw[bJ];split;rename_i hd;subst hd;simp only[AS.get,eU];split;rename_i hG;rw[al hG];rfl;rename_i CF;rw[bI (Nat.le_of_not_lt CF)];rfl
theorem aa2 {o:Oper}(hd:o.dst=some d)(hg:o.guard=none)(ho:(o.op=.move (.tmp t)/\an.mv.contains d=false/\an.fm.contains d=true)\/∃i,o.op=.extract (.tmp t) i)(_hdt:d≠t)(h:dh E Γ an ops X o st=some s): ∃tv v,s=(st.put (some t) tv).put (some d) v/\∀st2:AS,st2.get t=st.get t->dh E Γ an ops X o st2=some ((st2.put (some t) tv).put (some d) v):=by
 rcases ho with⟨ho,F7,Pc⟩|⟨i,ho⟩;have QQ:∀st2:AS,st2.get t=st.get t->(st.rd (.tmp t)).mQ=true->st2.rd (.tmp t)=st.get t:=by
  intro st2 hq hs;simp only[AS.rd,hq]at hs⊢;cases hv:st.get t with
  |yE vs=>rw[hv]at hs;simp[AV.borrow,AV.mQ]at hs
  |val g cs=>
   rw[hv]at hs;simp only[AV.borrow,AV.mQ]at hs⊢;congr 1;have key:∀(cs:aw AC)(j:Nat),(jz st.ep (λj=>mi.slot t j) j cs).all AC.mQ=true->jz st2.ep (λj=>mi.slot t j) j cs=cs:=by
    intro cs;induction cs with
    |nil=>intro j _;rfl
    |cons c cs ih=>
     intro j h;simp only[jz,cz,ae]at h⊢;rw[ih (j+1) h.2];congr 1;cases c with
     |sl fl e xs=>cases fl with|gB _ _ ep=>cases ep<;>simp[AC.borrow,AC.mQ]at h|_=>simp[AC.borrow,AC.mQ]at h
     |_=>rfl
   exact key cs 0 hs
 unfold dh at h;have ow:(st.rd (.tmp t)).mQ=true:=by cases hs:(st.rd (.tmp t)).mQ with|true=>rfl|false=>simp only[ei,ho,fmB,hd,Pc,hs]at h;cases h
 refine⟨st.get t,st.get t,?_,λst2 hq=>?_⟩;simp only[ei,ho,fmB,hd,Pc,ow,jd,ah,iI,hg,dp,EM,F7,bm,cC]at h;cases h;rw[QQ st rfl ow];congr 1;exact(afJ st t).symm;unfold dh;have e1:=QQ st2 hq ow;have WN:(st2.rd (.tmp t)).mQ=true:=by rw[e1,<-QQ st rfl ow];exact ow
 simp only[ei,ho,fmB,hd,Pc,WN,jd,ah,iI,hg,dp,EM,F7,bm,cC];rw[e1,<-hq,afJ];obtain⟨vs,g,cs,hv,hn,hf,rfl⟩:=(Eu ho hd hg).1 h;refine⟨_,_,rfl,λst2 hq=>(Eu ho hd hg).2 ⟨vs,g,cs,by rw[hq,hv],hn,hf,rfl⟩⟩
theorem ann {p:Oper}{x:Nat}(hp:p.op=.store T (.tmp q) (.tmp x))(hd:p.dst=none)(hg:p.guard=none)(WH:(an.eb q).isSome=true)(hes:(an.es q).isNone=true)(hsb:(an.sb q).isNone=true)(hl:CL an p=false)(h:dh E Γ an ops Y p st=some s): ∃B,s=⟨ji st.slots x ((st.get x).bg st.ep),B,st.ep+1,st.iss,st.io⟩/\ ∀st2:AS,st2.get q=st.get q->st2.get x=st.get x->st2.boxes=st.boxes->st2.ep=st.ep->st2.iss=st.iss->st2.io=st.io-> dh E Γ an ops Y p st2=some ⟨ji st2.slots x ((st.get x).bg st.ep),B,st.ep+1,st.iss,st.io⟩:=by
 have iw:∀st2:AS,st2.get q=st.get q->st2.ep=st.ep->ei E an Y p st2=ei E an Y p st:=by intro st2 h1 h2;simp only[ei,hp,AS.rd,h1,h2]
 unfold dh at h;cases hf:ei E an Y p st with
 |false=>rw[hf]at h;cases h
 |true=>
  rw[hf]at h;simp only[ah,iI,hg,dp,hp,hd,hl,bm,cC]at h;have jZ:=hf;simp only[ei,hp]at jZ;have QK:((an.sb q).isNone&&(an.eb q).isNone&&(an.es q).isNone)=false:=by cases he:an.eb q with|none=>rw[he]at WH;cases WH|some _=>simp
  rw[QK,cJ]at jZ;unfold zw at h;split at h;rename_i QQ;rw[QQ]at jZ;simp only[ae,bn]at jZ;rw[jZ.2]at hsb;cases hsb;rename_i sh Qb r tg e y i off hT QQ;rw[QQ]at jZ;cases r with
  |slot _ _=>simp only[ae,bn]at jZ;rw[jZ.1.1]at hes;cases hes
  |io _=>simp at jZ
  |box b j=>
   split at h;rename_i gg vs st1 vm;have e1:(st.get x)=.val gg vs:=by have:=congrArg Prod.fst vm;exact this
   have e2:st1=⟨ji st.slots x ((st.get x).bg st.ep),st.boxes,st.ep,st.iss,st.io⟩:=by have:=congrArg Prod.snd vm;exact this.symm
   split at h;rename_i hlen;have main:∃B,∀sl:aw AV,(⟨sl,st.boxes,st.ep,st.iss,st.io⟩:AS).rr (.box b j) tg e i off vs some=some ⟨sl,B,st.ep+1,st.iss,st.io⟩:=by
    subst e2;simp only[AS.rr,AS.ga,AS.gq,AS.fO]at h⊢;cases hb:(nth st.boxes b).getD none with
    |none=>rw[hb]at h;simp at h
    |some cs=>
     rw[hb]at h;simp only[fF]at h⊢;split at h;rename_i t' e' xs hn;split at h;rename_i he;simp only[dif_pos he];generalize (he▸xs:aw e.D)=zs at h⊢;split at h;rename_i ht;simp only[aH ht];cases hi:idx zs i with|none=>rw[hi]at h;simp[aa]at h|some y0=>simp only[hi,aa]at h⊢;split at h;exact⟨_,λsl=>rfl⟩;cases h
     cases h;cases h;rename_i t' i' q0 e' xs hn;split at h;rename_i he;simp only[dif_pos he];generalize (he▸xs:aw e.D)=zs at h⊢;split at h;rename_i ht;simp only[aH ht];cases hi:ag8 zs i' i with|none=>rw[hi]at h;simp[aa]at h|some y0=>simp only[hi,aa]at h⊢;split at h;exact⟨_,λsl=>rfl⟩;cases h
     cases h;cases h;cases h
   obtain⟨B,hB⟩:=main;refine⟨B,?_,λst2 h1 h2 h3 h4 h5 h6=>?_⟩;subst e2;rw[hB]at h;exact(bP h).symm;unfold dh;rw[iw st2 h1 h4,hf];have r2:st2.rd (.tmp q)=st.rd (.tmp q):=by simp only[AS.rd,h1,h4]
   have t2:st2.take (.tmp x)=(.val gg vs,⟨ji st2.slots x ((st.get x).bg st.ep),st.boxes,st.ep,st.iss,st.io⟩):=by simp only[AS.take,AS.put,h2,h3,h4,h5,h6,e1]
   simp only[ah,iI,hg,dp,hp,hd,hl,bm,cC,zw,hT,r2,QQ,t2];rw[aH hlen];exact hB _;cases h;cases h
  cases h
theorem akb {p:Oper}{x:Nat}(hp:p.op=.store T (.tmp q) (.tmp x))(hd:p.dst=none)(hg:p.guard=none)(hes:an.es q=some b)(WH:(an.eb q).isNone=true)(lj:b≠x)(hsb:(an.sb q).isNone=true)(hl:CL an p=false)(h:dh E Γ an ops Y p st=some s): ∃B,s=⟨ji (ji st.slots x ((st.get x).bg st.ep)) b B,st.boxes,st.ep+1,st.iss,st.io⟩/\ ∀st2:AS,st2.get q=st.get q->st2.get x=st.get x->nth st2.slots b=nth st.slots b->st2.boxes=st.boxes->st2.ep=st.ep->st2.iss=st.iss->st2.io=st.io-> dh E Γ an ops Y p st2=some ⟨ji (ji st2.slots x ((st.get x).bg st.ep)) b B,st.boxes,st.ep+1,st.iss,st.io⟩:=by
 have iw:∀st2:AS,st2.get q=st.get q->st2.ep=st.ep->ei E an Y p st2=ei E an Y p st:=by intro st2 h1 h2;simp only[ei,hp,AS.rd,h1,h2]
 unfold dh at h;cases hf:ei E an Y p st with
 |false=>rw[hf]at h;cases h
 |true=>
  rw[hf]at h;simp only[ah,iI,hg,dp,hp,hd,hl,bm,cC]at h;have jZ:=hf;simp only[ei,hp]at jZ;have QK:((an.sb q).isNone&&(an.eb q).isNone&&(an.es q).isNone)=false:=by rw[hes];simp
  rw[QK,cJ]at jZ;unfold zw at h;split at h;rename_i QQ;rw[QQ]at jZ;simp only[ae,bn]at jZ;rw[jZ.2]at hsb;cases hsb;rename_i sh Qb r tg e y i off hT QQ;rw[QQ]at jZ;cases r with
  |box _ _=>simp only[ae,bn]at jZ;rw[jZ.1.1]at WH;cases WH
  |io _=>simp at jZ
  |slot b' j=>
   simp only[ae,bn]at jZ;have hbb:b'=b:=bP (jZ.1.1.symm.trans hes);subst hbb;split at h;rename_i gg vs st1 vm;have e1:(st.get x)=.val gg vs:=by have:=congrArg Prod.fst vm;exact this
   have e2:st1=⟨ji st.slots x ((st.get x).bg st.ep),st.boxes,st.ep,st.iss,st.io⟩:=by have:=congrArg Prod.snd vm;exact this.symm
   split at h;rename_i hlen;have main:∃B,∀sl:aw AV,nth sl b'=nth st.slots b'->(⟨sl,st.boxes,st.ep,st.iss,st.io⟩:AS).rr (.slot b' j) tg e i off vs some=some ⟨ji sl b' B,st.boxes,st.ep+1,st.iss,st.io⟩:=by
    subst e2;have jh:∀sl:aw AV,nth sl b'=nth st.slots b'->(⟨sl,st.boxes,st.ep,st.iss,st.io⟩:AS).get b'=st.get b':=λsl hq=>by unfold AS.get;rw[hq]
    have hq0:nth (ji st.slots x ((st.get x).bg st.ep)) b'=nth st.slots b':=by rw[kQ,aG (cl lj)]
    simp only[AS.rr,AS.ga,AS.gq,jh _ hq0]at h;cases hb:st.get b' with
    |yE _=>rw[hb]at h;simp at h
    |val g0 cs=>
     rw[hb]at h;simp only at h;split at h;rename_i t' e' xs hn;split at h;rename_i he;split at h;rename_i ht;cases hi:idx (he▸xs:aw e.D) i with|none=>rw[hi]at h;simp[aa]at h|some y0=>simp only[hi,aa]at h;split at h;rename_i x' Dd;refine⟨.val g0 (ji cs j (.sl (.own (some t')) e ((he▸xs:aw e.D).set i.toNat x'))),λsl hq=>?_⟩;simp only[AS.rr,AS.ga,AS.gq,jh _ hq,hb,hn,dif_pos he,aH ht,hi,aa,Dd,AS.put];cases h
     cases h;cases h;rename_i t' i' q0 e' xs hn;split at h;rename_i he;split at h;rename_i ht;cases hi:ag8 (he▸xs:aw e.D) i' i with|none=>rw[hi]at h;simp[aa]at h|some y0=>simp only[hi,aa]at h;split at h;rename_i x' Dd;refine⟨.val g0 (ji cs j (.sl (.own (some t')) e ((he▸xs:aw e.D).set i.toNat x'))),λsl hq=>?_⟩;simp only[AS.rr,AS.ga,AS.gq,jh _ hq,hb,hn,dif_pos he,aH ht,hi,aa,Dd,AS.put];cases h
     cases h;cases h;cases h
   obtain⟨B,hB⟩:=main;refine⟨B,?_,λst2 h1 h2 yJ h3 h4 h5 h6=>?_⟩;subst e2;rw[hB _ (by rw[kQ,aG (cl lj)])]at h;exact(bP h).symm;unfold dh;rw[iw st2 h1 h4,hf];have r2:st2.rd (.tmp q)=st.rd (.tmp q):=by simp only[AS.rd,h1,h4]
   have t2:st2.take (.tmp x)=(.val gg vs,⟨ji st2.slots x ((st.get x).bg st.ep),st.boxes,st.ep,st.iss,st.io⟩):=by simp only[AS.take,AS.put,h2,h3,h4,h5,h6,e1]
   simp only[ah,iI,hg,dp,hp,hd,hl,bm,cC,zw,hT,r2,QQ,t2];rw[aH hlen];exact hB _ (by rw[kQ,aG (cl lj)];exact yJ);cases h;cases h
  cases h
theorem anm {o p:Oper}(ha:acI an o p=true)(h1:dh E Γ an ops X o st=some s1)(h2:dh E Γ an ops Y p s1=some s2): ∃t1,dh E Γ an ops Y p st=some t1/\dh E Γ an ops X o t1=some s2:=by
 unfold acI at ha;split at ha;rename_i T q x hp hpd hpg;simp only[ae,aO]at ha;obtain⟨⟨⟨WH,hsb⟩,hl⟩,ha⟩:=ha;have ase:∃d t,o.dst=some d/\o.guard=none/\((o.op=.move (.tmp t)/\an.mv.contains d=false/\an.fm.contains d=true)\/∃i,o.op=.extract (.tmp t) i)/\d≠q/\d≠x/\t≠x/\d≠t/\t≠q:=by split at ha;rename_i t d ho hd hg;simp only[ae,aO,bM]at ha;exact⟨d,t,hd,hg,.inl ⟨ho,ha.1.1.1.1.1.1,ha.1.1.1.1.1.2⟩,ha.1.1.1.1.2,ha.1.1.1.2,ha.1.1.2,ha.2,ha.1.2⟩;rename_i t i d ho hd hg;simp only[ae,aO,bM]at ha;exact⟨d,t,hd,hg,.inr ⟨i,ho⟩,ha.1.1.1.1,ha.1.1.1.2,ha.1.1.2,ha.2,ha.1.2⟩;cases ha
 obtain⟨d,t,hd,hg,ho,hdq,hdx,htx,hdt,htq⟩:=ase;obtain⟨tv,v,rfl,fD⟩:=aa2 hd hg ho hdt h1;have hq:((st.put (some t) tv).put (some d) v).get q=st.get q:=by rw[wG hdq];exact wG htq
 have hx:((st.put (some t) tv).put (some d) v).get x=st.get x:=by rw[wG hdx,wG htx]
 simp only[cY,ae]at WH;rcases WH with⟨WH,hes⟩|hes;obtain⟨B,rfl,hgo⟩:=ann hp hpd hpg WH hes hsb hl h2;have k1:=hgo st hq.symm hx.symm rfl rfl rfl rfl;refine⟨_,k1,?_⟩;have Jw:(⟨ji st.slots x ((((st.put (some t) tv).put (some d) v).get x).bg ((st.put (some t) tv).put (some d) v).ep),B,((st.put (some t) tv).put (some d) v).ep+1,((st.put (some t) tv).put (some d) v).iss,((st.put (some t) tv).put (some d) v).io⟩:AS).get t=st.get t:=by simp only[AS.get,kQ,aG (cl htx)]
 rw[fD _ Jw];simp only[AS.put,bu,AS.mk.injEq,jK];rw[kc _ (cl htx),kc _ (cl hdx)];cases hb:an.es q with
 |none=>rw[hb]at hes;cases hes
 |some b=>
  rw[hb]at hes;simp only[ae,aO,bM]at hes;obtain⟨⟨⟨WH,lj⟩,_⟩,hbw⟩:=hes;have hbw:=nV hbw b (by simp);have hbd:b≠d:=λe=>hbw (by simp[hd,e]);have hbt:b≠t:=λe=>hbw (by refine aA.2 (.inr ?_);rcases ho with⟨ho,_⟩|⟨i,ho⟩<;>simp[eI,ho,tm,e]);obtain⟨B,rfl,hgo⟩:=akb hp hpd hpg hb WH lj hsb hl h2;have yJ:nth st.slots b=nth ((st.put (some t) tv).put (some d) v).slots b:=by simp only[AS.put,kQ,aG (cl hbd),aG (cl hbt)]
  have k1:=hgo st hq.symm hx.symm yJ rfl rfl rfl rfl;refine⟨_,k1,?_⟩;have Jw:(⟨ji (ji st.slots x ((((st.put (some t) tv).put (some d) v).get x).bg ((st.put (some t) tv).put (some d) v).ep)) b B,((st.put (some t) tv).put (some d) v).boxes,((st.put (some t) tv).put (some d) v).ep+1,((st.put (some t) tv).put (some d) v).iss,((st.put (some t) tv).put (some d) v).io⟩:AS).get t=st.get t:=by simp only[AS.get,kQ,aG (cl htx),aG hbt]
  rw[fD _ Jw];simp only[AS.put,bu,AS.mk.injEq,jK];rw[kc _ hbt,kc _ hbd,kc _ (cl htx),kc _ (cl hdx)]
 cases ha
theorem XJ {c:AC}(h:c.mQ=true\/(c.borrow ep none).mQ=true):c.borrow ep none=c:=by
 cases c with
 |sl fl e xs=>exfalso;cases fl with|gB _ _ ep=>cases ep<;>simp[AC.borrow,AC.mQ]at h|_=>simp[AC.borrow,AC.mQ]at h
 |_=>rfl
theorem Sd {cs:aw AC}{n:Nat}(iO:off+n<=cs.length)(k:Nat):(fu cs off (bg ep ((cs.drop off).take n)))[k]?=(cs[k]?).map λc=>if off<=k/\k<off+n then c.borrow ep none else c:=by
 have hl:(bg ep ((cs.drop off).take n)).length=n:=by simp[bg];omega
 unfold fu;rw[hl];by_cases h1:k<off;rw[aR,bp (by simp;omega),dL h1];have:(λc:AC=>if off<=k/\k<off+n then c.borrow ep none else c)=id:=by funext c;rw[lI];rfl
 rw[this,Option.map_id];rfl;by_cases h2:k<off+n;rw[bp (by simp[hl];omega),bw (by simp;omega)];have e:k-(cs.take off).length=k-off:=by simp;omega
 rw[e,bg,List.getElem?_map,dL (by omega),bR,show off+(k-off)=k by omega];congr 1;funext c;rw[zip];rw[bw (by simp[hl];omega)];have e:k-(cs.take off++bg ep ((cs.drop off).take n)).length=k-(off+n):=by simp[hl];omega
 rw[e,bR,show off+n+(k-(off+n))=k by omega];have:(λc:AC=>if off<=k/\k<off+n then c.borrow ep none else c)=id:=by funext c;rw[lI];rfl
 rw[this,Option.map_id];rfl
theorem LH {cs:aw AC}{n o2 n2:Nat}(iO:off+n<=cs.length)(h:((cs.drop o2).take n2).all AC.mQ=true\/(((fu cs off (bg ep ((cs.drop off).take n))).drop o2).take n2).all AC.mQ=true): ((fu cs off (bg ep ((cs.drop off).take n))).drop o2).take n2=(cs.drop o2).take n2:=by
 apply dj;intro k;by_cases hk:k<n2;rw[dL hk,dL hk,bR,bR,Sd iO];cases hc:cs[o2+k]? with|none=>rfl|some c=>simp only[dP];split;rename_i uX;refine congrArg some (XJ ?_);rcases h with h|h;left;refine aF.1 h c (aL (i:=k) ?_);rw[dL hk,bR,hc];right;refine aF.1 h _ (aL (i:=k) ?_);rw[dL hk,bR,Sd iO,hc,dP,aH uX];rfl
 rw[bI (by simp;omega),bI (by simp;omega)]
theorem Ng:∀{cs:aw AC}{j:Nat},cs.all AC.mQ=true->jz ep (.box b) j cs=cs
 |[],_,_=>rfl
 |c::cs,j,h=>by simp only[cz,ae]at h;rw[jz,Ng h.2];congr 1;cases c<;>first|rfl|(simp[AC.mQ]at h)
theorem Sq {o:Oper}(h:Ek an o=true):∃T q d,o.op=.load T (.tmp q)/\o.dst=some d/\o.guard=none/\an.mv.contains d=true/\(an.mb d).isSome=true:=by unfold Ek at h;split at h;rename_i T q d ho hd hg;simp only[ae]at h;exact⟨T,q,d,ho,hd,hg,h.1,h.2⟩;cases h
theorem Qn {o:Oper}(h:Qm an o=true):∃T q d,o.op=.load T (.tmp q)/\o.dst=some d/\o.guard=none/\an.mv.contains d=false/\an.fm.contains d=true:=by unfold Qm at h;split at h;rename_i T q d ho hd hg;simp only[ae,aO]at h;exact⟨T,q,d,ho,hd,hg,h.1,h.2⟩;cases h
theorem Ij {o:Oper}(ht:Ek an o=true)(ho:o.op=.load T (.tmp q))(hd:o.dst=some d)(hg:o.guard=none)(F7:an.mv.contains d=true):dh E Γ an ops X o st=some s↔ ∃sh b off cs,ko E.ty T=some sh/\st.rd (.tmp q)=.val false [.ptr b off]/\(nth st.boxes b).getD none=some cs/\off+sh.ct.size<=cs.length/\X.contains b=false/\an.mb d=some b/\(fmB an o=true->GH E T st b off=true)/\ s=(st.fO b (some (fu cs off (bg st.ep ((cs.drop off).take sh.ct.size))))).put (some d) (.val sh.agg ((cs.drop off).take sh.ct.size)):=by
 have key:ei E an X o st=true->∀r,dp E Γ an o st some=some r->∃b off,st.rd (.tmp q)=.val false [.ptr b off]:=by intro hf r hr;simp only[dp,ho,rf]at hr;split at hr;rename_i hp;exact⟨_,_,hp⟩;rename_i hp;simp only[ei,ho,hp,ht,jd,aj,eM,eo]at hf;cases hf;cases hr
 unfold dh;constructor;intro h;cases hf:ei E an X o st with|false=>rw[hf]at h;cases h|true=>rw[hf]at h;simp only[ah,iI,hg]at h;obtain⟨b,off,hp⟩:=key hf s h;simp only[ei,ho,hp,hd,F7,aj,cJ,ae,aO,bn,cY]at hf;simp only[dp,ho,rf,hp]at h;cases hT:ko E.ty T with|none=>rw[hT]at h;cases h|some sh=>rw[hT]at h;simp only at h;cases hb:(nth st.boxes b).getD none with|none=>rw[hb]at h;cases h|some cs=>rw[hb]at h;simp only at h;split at h;rename_i iO;simp only[hd,F7,cw]at h;cases h;refine⟨sh,b,off,cs,rfl,hp,hb,iO,hf.1.1,hf.1.2,λhm=>?_,rfl⟩;rcases hf.2 with g|g;rw[hm]at g;cases g;exact g;cases h
 rintro⟨sh,b,off,cs,hT,hp,hb,iO,hX,J3,Pc,rfl⟩;have hf:ei E an X o st=true:=by simp only[ei,ho,hp,hd,F7,hX,J3,aj,cJ,ae,aO,bn,cY];refine⟨⟨cG,cG⟩,?_⟩;cases hm:fmB an o with|false=>exact .inl rfl|true=>exact .inr (Pc hm)
 rw[hf];simp only[ah,iI,hg,dp,ho,rf,hp,hT,hb,aH iO,hd,F7,cw]
theorem HQ {o:Oper}(ho:o.op=.load T (.tmp q))(hd:o.dst=some d)(hg:o.guard=none)(F7:an.mv.contains d=false)(Pc:an.fm.contains d=true):dh E Γ an ops X o st=some s↔ ∃sh b off cs,ko E.ty T=some sh/\st.rd (.tmp q)=.val false [.ptr b off]/\(nth st.boxes b).getD none=some cs/\off+sh.ct.size<=cs.length/\X.contains b=false/\((cs.drop off).take sh.ct.size).all AC.mQ=true/\ s=st.put (some d) (.val sh.agg ((cs.drop off).take sh.ct.size)):=by
 have hfb:fmB an o=true:=by simp only[fmB,hd,Pc]
 have key:ei E an X o st=true->∀r,dp E Γ an o st some=some r->∃b off,st.rd (.tmp q)=.val false [.ptr b off]:=by intro hf r hr;simp only[dp,ho,rf]at hr;split at hr;rename_i hp;exact⟨_,_,hp⟩;rename_i hp;simp only[ei,ho,hp,hfb,je,aj,eM,eo]at hf;cases hf;cases hr
 unfold dh;constructor;intro h;cases hf:ei E an X o st with
 |false=>rw[hf]at h;cases h
 |true=>
  rw[hf]at h;simp only[ah,iI,hg]at h;obtain⟨b,off,hp⟩:=key hf s h;simp only[ei,ho,hp,hd,F7,hfb,aj,bE,je,cJ,gQ,ae,aO]at hf;simp only[dp,ho,rf,hp]at h;cases hT:ko E.ty T with
  |none=>rw[hT]at h;cases h
  |some sh=>
   rw[hT]at h;simp only at h;cases hb:(nth st.boxes b).getD none with
   |none=>rw[hb]at h;cases h
   |some cs=>
    rw[hb]at h;simp only at h;split at h;rename_i iO;have ow:((cs.drop off).take sh.ct.size).all AC.mQ=true:=by have:=hf.2;unfold GH at this;rw[hT,hb]at this;exact this
    simp only[hd,F7,bm,cC,Ng ow]at h;cases h;exact⟨sh,b,off,cs,rfl,hp,hb,iO,hf.1,ow,rfl⟩;cases h
 rintro⟨sh,b,off,cs,hT,hp,hb,iO,hX,ow,rfl⟩;have hf:ei E an X o st=true:=by simp only[ei,ho,hp,hd,F7,hX,hfb,GH,hT,hb,ow];rfl
 rw[hf];simp only[ah,iI,hg,dp,ho,rf,hp,hT,hb,aH iO,hd,F7,bm,cC,Ng ow]
theorem U2 {v:AV}(h:d≠q):(st.put (some d) v).rd (.tmp q)=st.rd (.tmp q):=by simp only[AS.rd,wG h];rfl
theorem alR {cs:aB (aw AC)}:(st.fO b cs).rd (.tmp q)=st.rd (.tmp q):=rfl
theorem abO {cs x:aw AC}(h:(nth st.boxes b).getD none=some cs):(nth (ji st.boxes b (some x)) b).getD none=some x:=by
 rw[kQ,aH rfl];cases hn:nth st.boxes b with
 |none=>rw[hn]at h;cases h
 |some _=>
  have:b<st.boxes.length:=by rw[eU]at hn;exact(ay.1 hn).1
  rw[aH this];rfl
theorem abP {b2:Nat}{x:aw AC}(h:b≠b2):nth (ji st.boxes b (some x)) b2=nth st.boxes b2:=by rw[kQ,aG h]
theorem anZ {o p:Oper}(ha:adD an o p=true)(h1:dh E Γ an ops X o st=some s1)(h2:dh E Γ an ops Y p s1=some s2): ∃t1,dh E Γ an ops Y p st=some t1/\dh E Γ an ops X o t1=some s2:=by
 simp only[adD,ae,cY,aO]at ha;obtain⟨⟨ha,m1⟩,m2⟩:=ha;have m1:=nV m1;have m2:=nV m2;rcases ha with⟨ht,hf⟩|⟨hf,ht⟩;obtain⟨T,q,d,ho,hd,hg,F7,J3⟩:=Sq ht;obtain⟨T2,q2,d2,hp,QF,Jw,Zm,ag4⟩:=Qn hf;have n1:d≠d2:=λe=>m1 d (by simp[hd]) (by simp[QF,e]);have n2:d≠q2:=λe=>m1 d (by simp[hd]) (by simp[eI,hp,tm,e]);have n3:d2≠q:=λe=>m2 d2 (by simp[QF]) (by simp[eI,ho,tm,e]);obtain⟨sh,b,off,cs,hT,hr,hb,iO,hX,aqe,Pc,rfl⟩:=(Ij ht ho hd hg F7).1 h1;obtain⟨sh2,b2,Tp,Gk,hT2,SK,Uh,afk,hX2,WN,rfl⟩:=(HQ hp QF Jw Zm ag4).1 h2;rw[U2 n2,alR]at SK;have lj:(nth (ji st.boxes b (some (fu cs off (bg st.ep ((cs.drop off).take sh.ct.size))))) b2).getD none=some Gk:=Uh;have sM:∃TS,(nth st.boxes b2).getD none=some TS/\Tp+sh2.ct.size<=TS.length/\(Gk.drop Tp).take sh2.ct.size=(TS.drop Tp).take sh2.ct.size:=by
  by_cases hbb:b=b2;subst hbb;rw[abO hb]at lj;cases lj;have hlen:(fu cs off (bg st.ep ((cs.drop off).take sh.ct.size))).length=cs.length:=by simp only[fu,bg,ai,bF,aV,aM];omega
  exact⟨cs,hb,by omega,LH iO (.inr WN)⟩;rw[abP hbb]at lj;exact⟨Gk,lj,afk,rfl⟩
 obtain⟨TS,WE,Zg,he⟩:=sM;rw[he]at WN⊢;refine⟨_,(HQ hp QF Jw Zm ag4).2 ⟨sh2,b2,Tp,TS,hT2,SK,WE,Zg,hX2,WN,rfl⟩,(Ij ht ho hd hg F7).2 ⟨sh,b,off,cs,hT,by rw[U2 n3];exact hr,hb,iO,hX,aqe,λhm=>?_,?_⟩⟩;have:=Pc hm;unfold GH at this⊢;exact this;simp only[AS.put,AS.fO,AS.mk.injEq,jK];exact kc _ n1 _ _;obtain⟨T,q,d,ho,hd,hg,F7,Pc⟩:=Qn hf;obtain⟨T2,q2,d2,hp,QF,Jw,Zm,aqd⟩:=Sq ht;have n1:d≠d2:=λe=>m1 d (by simp[hd]) (by simp[QF,e]);have n2:d≠q2:=λe=>m1 d (by simp[hd]) (by simp[eI,hp,tm,e]);have n3:d2≠q:=λe=>m2 d2 (by simp[QF]) (by simp[eI,ho,tm,e]);obtain⟨sh,b,off,cs,hT,hr,hb,iO,hX,ow,rfl⟩:=(HQ ho hd hg F7 Pc).1 h1;obtain⟨sh2,b2,Tp,Gk,hT2,SK,Uh,afk,hX2,aqe,ag4,rfl⟩:=(Ij ht hp QF Jw Zm).1 h2;rw[U2 n2]at SK;refine⟨_,(Ij ht hp QF Jw Zm).2 ⟨sh2,b2,Tp,Gk,hT2,SK,Uh,afk,hX2,aqe,λhm=>ag4 hm,rfl⟩,?_⟩;have sM:∃TS,(nth (ji st.boxes b2 (some (fu Gk Tp (bg st.ep ((Gk.drop Tp).take sh2.ct.size))))) b).getD none=some TS/\off+sh.ct.size<=TS.length/\(TS.drop off).take sh.ct.size=(cs.drop off).take sh.ct.size:=by
  by_cases hbb:b2=b;subst hbb;have Ml:Gk=cs:=bP (Uh.symm.trans hb);subst Ml;have hlen:(fu Gk Tp (bg st.ep ((Gk.drop Tp).take sh2.ct.size))).length=Gk.length:=by simp only[fu,bg,ai,bF,aV,aM];omega
  exact⟨_,abO hb,by omega,LH afk (.inl ow)⟩;exact⟨cs,by rw[abP hbb];exact hb,iO,rfl⟩
 obtain⟨TS,WE,Zg,he⟩:=sM;refine(HQ ho hd hg F7 Pc).2 ⟨sh,b,off,TS,hT,by rw[U2 n3,alR];exact hr,WE,Zg,hX,by rw[he];exact ow,?_⟩;rw[he];simp only[AS.put,AS.fO,AS.mk.injEq,jK];exact kc _ n1 _ _
theorem Sp {o:Oper}(ht:Hu an o=true)(ho:o.op=.load T (.tmp q))(hd:o.dst=some d)(hg:o.guard=none)(F7:an.mv.contains d=true)(J3:an.mb d=none):dh E Γ an ops X o st=some s↔ ∃(g:Bool)(e:CT)(lr:aw (Nat×Nat))(b j t Qb:Nat)(x:e.D)(i:Int)(cs:aw AC)(ys:aw e.D)(y:e.D),ko E.ty T=some ⟨g,e,lr⟩/\st.rd (.tmp q)=.val false [.D3 (.loc Qb (some (.box b j,t))) e x i 0]/\(nth st.boxes b).getD none=some cs/\nth cs j=some (.sl (.own (some t)) e ys)/\idx ys i=some y/\ X.contains b=false/\an.eb q=some b/\fmB an o=false/\s=(LS st b j t e i cs ys).put (some d) (.val g (cellsOf e (.own none) y)):=by rw[<-So ht ho hd F7 J3];unfold dh;cases ei E an X o st with|false=>simp|true=>simp only[ah,iI,hg,dp,ho,true_and]
theorem aij {o:Oper}(h:DK an o=true):∃T q d,o.op=.load T (.tmp q)/\o.dst=some d/\o.guard=none/\an.mv.contains d=false/\fmB an o=false:=by unfold DK at h;split at h;rename_i T q d ho hd hg;simp only[ae,aO]at h;exact⟨T,q,d,ho,hd,hg,h.1.1,by simp only[fmB,hd];exact h.1.2⟩;cases h
theorem RF {o:Oper}(Gf:DK an o=true)(ho:o.op=.load T (.tmp q))(hd:o.dst=some d)(hg:o.guard=none)(F7:an.mv.contains d=false)(Pc:fmB an o=false):dh E Γ an ops X o st=some s↔ ∃sh b off cs,ko E.ty T=some sh/\st.rd (.tmp q)=.val false [.ptr b off]/\(nth st.boxes b).getD none=some cs/\off+sh.ct.size<=cs.length/\X.contains b=false/\ s=st.put (some d) (.val sh.agg (jz st.ep (.box b) off ((cs.drop off).take sh.ct.size))):=by
 unfold dh;constructor;intro h;cases hf:ei E an X o st with|false=>rw[hf]at h;cases h|true=>rw[hf]at h;simp only[ah,iI,hg,dp,ho]at h;unfold rf at h;split at h;rename_i sh b off hT hp;simp only[ei,ho,hp,hd,F7,Pc,bE,je,gQ,aO]at hf;split at h;rename_i cs hb;split at h;rename_i iO;simp only[hd,F7,bm,cC]at h;cases h;exact⟨sh,b,off,cs,hT,hp,hb,iO,hf,rfl⟩;cases h;cases h;rename_i hp;simp only[ei,ho,hp,Gf,aj,eM,eo]at hf;cases hf;cases h
 rintro⟨sh,b,off,cs,hT,hp,hb,iO,hX,rfl⟩;have hf:ei E an X o st=true:=by simp only[ei,ho,hp,hd,F7,hX,Pc];rfl
 rw[hf];simp only[ah,iI,hg,dp,ho,rf,hp,hT,hb,aH iO,hd,F7,bm,cC]
theorem PK:∀(cs:aw AC)(p k:Nat)(c':AC),(∀c,cs[k]?=some c->∀r,c'.borrow ep (some r)=c.borrow ep (some r))->jz ep (.box b) p (cs.set k c')=jz ep (.box b) p cs
 |[],_,_,_,_=>rfl
 |c::cs,p,0,c',h=>by simp only[List.set_cons_zero,jz,h c rfl]
 |c::cs,p,k+1,c',h=>by simp only[List.set_cons_succ,jz];rw[PK cs (p+1) k c' (λc hc=>h c (by simpa using hc))]
theorem Yd {j n:Nat}{e:CT}{i:Int}{ys:aw e.D}{cs:aw AC}(hj:nth cs j=some (.sl (.own (some t)) e ys)): jz ep (.box b) off (((ji cs j (.sl (.gB (some t) i (some ep)) e ys)).drop off).take n)=jz ep (.box b) off ((cs.drop off).take n):=by rw[gH,List.drop_set];split;rfl;rename_i hG;rw[List.take_set];refine PK _ _ _ _ λc hc r=>?_;by_cases hn:j-off<n;rw[dL hn,bR,show off+(j-off)=j by omega,<-eU,hj]at hc;cases hc;rfl;rw[bI (by simp;omega)]at hc;cases hc
theorem ani {o p:Oper}(ha:abT an o p=true)(h1:dh E Γ an ops X o st=some s1)(h2:dh E Γ an ops Y p s1=some s2): ∃t1,dh E Γ an ops Y p st=some t1/\dh E Γ an ops X o t1=some s2:=by
 simp only[abT,ae,aO]at ha;obtain⟨⟨⟨Gf,ht⟩,m1⟩,m2⟩:=ha;have m1:=nV m1;have m2:=nV m2;obtain⟨T,q,d,ho,hd,hg,F7,Pc⟩:=aij Gf;obtain⟨T2,q2,d2,hp,QF,Jw,Zm,aqd⟩:=Vs ht;have n1:d≠d2:=λe=>m1 d (by simp[hd]) (by simp[QF,e]);have n2:d≠q2:=λe=>m1 d (by simp[hd]) (by simp[eI,hp,tm,e]);have n3:d2≠q:=λe=>m2 d2 (by simp[QF]) (by simp[eI,ho,tm,e]);obtain⟨sh,b,off,cs,hT,hr,hb,iO,hX,rfl⟩:=(RF Gf ho hd hg F7 Pc).1 h1;obtain⟨g,e,lr,b2,j,t,Qb,x,i,Gk,ys,y,hT2,SK,Uh,hj,hi,hX2,WH,ag4,rfl⟩:=(Sp ht hp QF Jw Zm aqd).1 h2;rw[U2 n2]at SK;have asb:(nth st.boxes b2).getD none=some Gk:=Uh;refine⟨_,(Sp ht hp QF Jw Zm aqd).2 ⟨g,e,lr,b2,j,t,Qb,x,i,Gk,ys,y,hT2,SK,asb,hj,hi,hX2,WH,ag4,rfl⟩,?_⟩;have sM:∃TS,(nth (ji st.boxes b2 (some (ji Gk j (.sl (.gB (some t) i (some st.ep)) e ys)))) b).getD none=some TS/\off+sh.ct.size<=TS.length/\jz st.ep (.box b) off ((TS.drop off).take sh.ct.size)=jz st.ep (.box b) off ((cs.drop off).take sh.ct.size):=by by_cases hbb:b2=b;subst hbb;have Ml:Gk=cs:=bP (asb.symm.trans hb);subst Ml;exact⟨_,abO hb,by rw[gH,az];exact iO,Yd hj⟩;exact⟨cs,by rw[abP hbb];exact hb,iO,rfl⟩
 obtain⟨TS,WE,Zg,he⟩:=sM;refine(RF Gf ho hd hg F7 Pc).2 ⟨sh,b,off,TS,hT,by rw[U2 n3];exact hr,WE,Zg,hX,?_⟩;show _=((LS st b2 j t e i Gk ys).put (some d2) _).put (some d) (.val sh.agg (jz st.ep (.box b) off ((TS.drop off).take sh.ct.size)));rw[he];simp only[AS.put,LS,AS.fO,AS.mk.injEq,jK];exact kc _ n1 _ _
def Tt (E:Env)(Γ:Cn)(an:An)(ops:aw Oper)(X:Nat->fM):fM->AS->aB AS
 |[],st=>some st
 |i::r,st=>match nth ops i with
  |some o=>(dh E Γ an ops (X i) o st).bind (Tt E Γ an ops X r)
  |none=>none
theorem R2 (Db:∀f,(Γ f).io=false/\((Γ f).bx=true->(Γ f).cur=true)/\(Γ f).pr=false){X:Nat->fM}{oi:Oper}(hi:nth ops i=some oi):∀(pre post:fM)(st r:AS),(∀j∈pre,∀oj,nth ops j=some oj->PC an ops (X j) (X i) oj oi=true)->
 Tt E Γ an ops X (pre++i::post) st=some r->Tt E Γ an ops X (i::(pre++post)) st=some r
 |[],post,st,r,_,h=>h
 |j::pre,post,st,r,ha,h=>by
  simp only[List.cons_append,Tt]at h;cases hj:nth ops j with
  |none=>rw[hj]at h;cases h
  |some oj=>
   rw[hj]at h;simp only at h;obtain⟨s1,h1,h2⟩:=ba.1 h;have h3:=R2 Db hi pre post s1 r (λk hk=>ha k (by simp[hk])) h2;simp only[Tt,hi]at h3;obtain⟨s2,h4,h5⟩:=ba.1 h3;have hap:=ha j (by simp) oj hj;obtain⟨t1,k1,k2⟩:∃t1,dh E Γ an ops (X i) oi st=some t1/\dh E Γ an ops (X j) oj t1=some s2:=by cases hx:alL an oj oi with|false=>rw[PC,hx,cJ]at hap;exact aex Db hap h1 h4|true=>simp only[alL,cY]at hx;rcases hx with((hx|hx)|hx)|hx;exact akl hx h1 h4;exact anm hx h1 h4;exact anZ hx h1 h4;exact ani hx h1 h4
   simp only[Tt,hi,k1,fF,List.cons_append,hj,k2];exact h5
end Go.Dn
