import Derived.Test.YtfbhfnniblfpbaaGreatDnUpd
/- Operations that are apart may change places. -/
namespace Go.Dn
variable {E:Env} {Γ:zu} {an:An} {ops:ax Oper}
variable {s s1 s2 st:AS} {d ep off t:Nat} {α:Type} {T:TypeId} {X Y:fi}
def dp (E:Env)(Γ:zu)(an:An)(ops:ax Oper)(X:fi)(o:Oper)(st:AS):aA AS:=
 bif eo E an X o st then iO E Γ an ops o st some else none
structure Vr (an:An) (ops:List Oper) (X:List Nat) (o:Oper) (st st2:AS):Prop where
 base:jf an X o st st2
 gd:∀t∈HH an ops o,st2.get t=st.get t
theorem Zd {b:Bool}(h:st.get d=.val false [.bool b]):st.put (some d) (.one (.bool b))=st:=by cases st with|mk slots boxes ep iss io=>simp only[AS.put,AS.mk.injEq,jY];rw[gB];apply dB;intro i;rw[bO];split;rename_i hd;subst hd;simp only[AS.get,eV]at h;split;rename_i iA;rw[ay iA]at h⊢;simp only[gH]at h;rw[h];rename_i B0;rw[cd (Nat.le_of_not_lt B0)];rfl
theorem VN {st2:AS}{s:Nat}(h:nth st2.boxes s=nth st.boxes s):HD E T st2 s off=HD E T st s off:=by unfold HD;rw[h]
theorem Kb {o:Oper}{st2:AS}(ha:jf an X o st st2):eo E an X o st2=eo E an X o st:=by
 unfold eo;split;rename_i ho;rw[ha.rd (λt ht=>by simpa[eK,ho]using ht)];rename_i T p ho;rw[ha.rd (λt ht=>by simp[eK,ho,ht]),ha.ep];rename_i ho;rw[ha.rd (λt ht=>by simp[eK,ho,ht]),ha.ep];rename_i f args ts ho;have hcur:wo an X (erS an o) st2 args.toList=wo an X (erS an o) st args.toList:=by
  have hl:∀x∈args.toList,∀t∈tm x,t∈eK o:=by intro x hx t ht;simp only[eK,ho,aB,Tq,List.mem_flatMap];exact .inr ⟨x,hx,ht⟩
  generalize args.toList=l at hl;cases l with
  |nil=>rfl
  |cons x xs=>
   have Em:xs.all (L1 (erS an o) st2)=xs.all (L1 (erS an o) st):=by
    rw[gx];simp only[aO];have e:∀y∈xs,L1 (erS an o) st2 y=L1 (erS an o) st y:=by intro y hy;cases y with|tmp t=>have hg:=ha.get t (hl (.tmp t) (by simp[hy]) t (by simp[tm]));simp only[L1,hg]|const v=>rfl|func v=>rfl|global v=>rfl
    exact⟨λg y hy=>by rw[<-e y hy];exact g y hy,λg y hy=>by rw[e y hy];exact g y hy⟩
   have hr:=ha.rd (hl x (by simp));cases x with
   |tmp q=>
    simp only[wo,hr];generalize st.rd (.tmp q)=v;unfold agX;rw[Em];split;rename_i s off;cases hX:X.contains s with|true=>simp|false=>rw[ha.box s hX]
    rfl
   |const v=>simp only[wo,hr]
   |func v=>simp only[wo,hr]
   |global v=>simp only[wo,hr]
 rw[hcur];congr 1;rw[gx];simp only[aO];constructor;intro hx x hm;have:=hx x hm;rwa[ha.rd (λt ht=>by simp only[eK,ho,aB,Tq,List.mem_flatMap];exact .inr ⟨x,hm,ht⟩),ha.ep]at this;intro hx x hm;rw[ha.rd (λt ht=>by simp only[eK,ho,aB,Tq,List.mem_flatMap];exact .inr ⟨x,hm,ht⟩),ha.ep];exact hx x hm;rename_i ho;rw[ha.rd (λt ht=>by simpa[eK,ho]using ht),ha.ep];split;rename_i s off _;cases hX:X.contains s with|true=>rfl|false=>rw[VN (ha.box s hX)]
 rfl;rfl;rename_i ho;rw[ha.rd (λt ht=>by simp only[eK,ho,aB];exact .inl ht)];rename_i ho;rw[ha.get _ (by simp[eK,ho])];rfl
theorem OF (D6:∀f,(Γ f).io=false/\((Γ f).bx=true->(Γ f).cur=true)/\(Γ f).pr=false){o:Oper}{cp:AS}(hm:pJ an o=true)(h:dp E Γ an ops X o st=some cp): ∃u:MC,u.JV an o/\cp=u.apply st/\∀st2,Vr an ops X o st st2->dp E Γ an ops X o st2=some (u.apply st2):=by
 unfold dp at h;cases hf:eo E an X o st with
 |false=>rw[hf]at h;cases h
 |true=>
  rw[hf]at h;simp only[af]at h;unfold iO at h;split at h;rename_i hg;obtain⟨u,h1,h2,h3⟩:=Sd (X:=X) D6 hm hf h;refine⟨u,h1,h2,λst2 ha=>?_⟩;unfold dp;rw[Kb ha.base,hf];simp only[af,iO,hg];exact h3 st2 ha.base;rename_i j KE hg;split at h;rename_i d hd;have zw:d∈HH an ops o:=by simp[HH,hg,hd]
  split at h;rename_i b hb;have hgo:(if(b==KE)=true then dM E Γ an o st some else some (st.put o.dst (.one .un)))=some cp:=by cases b<;>simpa only[af,ae,Zd hb]using h
  have h2g:∀st2,Vr an ops X o st st2->dp E Γ an ops X o st2=(if(b==KE)=true then dM E Γ an o st2 some else some (st2.put o.dst (.one .un))):=by
   intro st2 ha;have SB:st2.get d=.val false [.bool b]:=by rw[ha.gd d zw];exact hb
   unfold dp;rw[Kb ha.base,hf];simp only[af,iO,hg,hd,SB];cases b<;>simp only[af,ae,Zd SB]
  split at hgo;rename_i hw;obtain⟨u,h1,h2,h3⟩:=Sd (X:=X) D6 hm hf hgo;exact⟨u,h1,h2,λst2 ha=>by rw[h2g st2 ha,aI hw];exact h3 st2 ha.base⟩;rename_i hw;cases hgo;exact⟨GV o (.one .un),E8 _,by rw[vi],λst2 ha=>by rw[h2g st2 ha,aK hw,vi]⟩;rename_i hb;cases h;refine⟨GV o (.one .un),E8 _,by rw[vi],λst2 ha=>?_⟩;have SB:st2.get d=.val false [.un]:=by rw[ha.gd d zw];exact hb
  unfold dp;rw[Kb ha.base,hf,vi];simp only[af,iO,hg,hd,SB];cases h;cases h
theorem kx (l:ax α){i j:Nat}(h:i≠j)(v w:α):jm (jm l i v) j w=jm (jm l j w) i v:=by rw[gB,gB,gB,gB,List.set_comm _ _ h]
theorem abW (l:ax AV)(a:ax (Nat×AV)){i:Nat}(v:AV)(h:∀x∈a,x.1≠i):lF (jm l i v) a=jm (lF l a) i v:=by induction a generalizing l with|nil=>rfl|cons x a ih=>simp only[lF];rw[kx _ (cE (h x (by simp))),ih _ (λy hy=>h y (by simp[hy]))]
theorem Y9 (l:ax AV)(a b:ax (Nat×AV))(h:∀x∈a,∀y∈b,x.1≠y.1):lF (lF l a) b=lF (lF l b) a:=by induction b generalizing l with|nil=>rfl|cons y b ih=>simp only[lF];rw[<-abW l a y.2 (λx hx=>h x hx y (by simp)),ih _ (λx hx z hz=>h x hx z (by simp[hz]))]
theorem Td (l:ax AV)(a:ax (Nat×AV))(h:∀x∈a,x.1≠t):nth (lF l a) t=nth l t:=by induction a generalizing l with|nil=>rfl|cons x a ih=>rw[lF,ih _ (λy hy=>h y (by simp[hy])),kT,aK (h x (by simp))]
theorem nS {a b:fi}(h:meets a b=false):∀x∈a,x∉b:=by intro x hx hb;unfold meets at h;rw[List.any_eq_false]at h;exact h x hx (by simpa using hb)
theorem MC.Fc {u:MC}{o p:Oper}(hw:u.JV an o)(h1:∀x∈writes an o,x∉eK p++HH an ops p++writes an p)(h2:∀d∈It an o,Y.contains d=true)(h3:∀d∈It an o,p.dst≠some d): Vr an ops Y p (u.apply st) st/\Vr an ops Y p st (u.apply st):=by
 have jk:∀t,t∈eK p++HH an ops p++writes an p->(u.apply st).get t=st.get t:=by intro t ht;unfold AS.get;have:nth (u.apply st).slots t=nth st.slots t:=Td _ _ (λx hx he=>h1 _ (hw.slots x hx) (by rw[he];exact ht));rw[this]
 have aek:∀d,p.dst=some d->nth (u.apply st).iss d=nth st.iss d/\nth (u.apply st).boxes d=nth st.boxes d:=by
  intro d hd;have HI:d∈eK p++HH an ops p++writes an p:=by simp[writes,hd]
  have Fa:o.dst≠some d:=λhe=>h1 d (by simp[writes,he]) HI;constructor;unfold MC.apply;cases hi:u.iss with|none=>rfl|some k=>simp only;rw[kT,aK];rintro rfl;exact Fa (hw.iss _ hi)
  unfold MC.apply;cases hi:u.box with|none=>rfl|some k=>simp only;rw[kT,aK];intro he;exact h3 _ (hw.box k hi) (by rw[he];exact hd)
 have amC:∀s,Y.contains s=false->nth (u.apply st).boxes s=nth st.boxes s:=by intro s hs;unfold MC.apply;cases hi:u.box with|none=>rfl|some k=>simp only;rw[kT,aK];rintro rfl;have:=h2 k.1 (hw.box k hi);rw[this]at hs;cases hs
 have hlen:(u.apply st).slots.length=st.slots.length:=RK _ _;exact⟨⟨⟨hlen.symm,λt ht=>(jk t (by simp[ht])).symm,rfl,λd hd=>⟨((aek d hd).1).symm,((aek d hd).2).symm⟩,λs hs=>(amC s hs).symm,λt ht=>(jk t (by simp[HH,ht])).symm⟩,λt ht=>(jk t (by simp[ht])).symm⟩,⟨⟨hlen,λt ht=>jk t (by simp[ht]),rfl,aek,amC,λt ht=>jk t (by simp[HH,ht])⟩,λt ht=>jk t (by simp[ht])⟩⟩
theorem aaj {u v:MC}{o p:Oper}(hu:u.JV an o)(hv:v.JV an p)(h:∀x∈writes an o,x∉writes an p)(hb:∀x∈It an o,x∉It an p):v.apply (u.apply st)=u.apply (v.apply st):=by
 have VU:∀a b,o.dst=some a->p.dst=some b->a≠b:=λa b ha hb he=>h a (by simp[writes,ha]) (by simp[writes,hb,he]);have hs:=Y9 st.slots u.slots v.slots (λx hx y hy he=>h _ (hu.slots x hx) (by rw[he];exact hv.slots y hy));simp only[MC.apply,AS.mk.injEq,true_and,jY];refine⟨hs,?_,?_⟩;cases hub:u.box with|none=>cases v.box<;>rfl|some k=>cases hvb:v.box with|none=>rfl|some l=>exact kx _ (λhe=>hb _ (hu.box k hub) (by rw[he];exact hv.box l hvb)) _ _
 cases hui:u.iss with|none=>cases v.iss<;>rfl|some k=>cases hvi:v.iss with|none=>rfl|some l=>exact kx _ (VU _ _ (hu.iss k hui) (hv.iss l hvi)) _ _
theorem acp (D6:∀f,(Γ f).io=false/\((Γ f).bx=true->(Γ f).cur=true)/\(Γ f).pr=false){o p:Oper}(ha:aah an ops X Y o p=true)(h1:dp E Γ an ops X o st=some s1)(h2:dp E Γ an ops Y p s1=some s2): ∃t1,dp E Γ an ops Y p st=some t1/\dp E Γ an ops X o t1=some s2:=by
 simp only[aah,ah,aP,aO]at ha;obtain⟨⟨⟨⟨⟨⟨⟨mo,mp⟩,w1⟩,w2⟩,b1⟩,b2⟩,b3⟩,b4⟩:=ha;have w1:=nS w1;have w2:=nS w2;have b3:=nS b3;have b4:=nS b4;obtain⟨u,hu,rfl,hu2⟩:=OF D6 mo h1;obtain⟨v,hv,rfl,SY⟩:=OF D6 mp h2;have ag1:=MC.Fc (ops:=ops) (p:=p) (Y:=Y) (st:=st) hu w1 b1 (λd hd he=>b3 d hd (by simp[he]));have hww:∀x∈writes an p,x∉eK o++HH an ops o++writes an o:=by intro x hx hm;rcases aB.1 hm with hm|hm;exact w2 x hx hm;exact w1 x hm (by simp[hx])
 have ag2:=MC.Fc (ops:=ops) (p:=o) (Y:=X) (st:=st) hv hww b2 (λd hd he=>b4 d hd (by simp[he]));refine⟨v.apply st,SY st ag1.1,?_⟩;rw[hu2 _ ag2.2,aaj hu hv (λx hx hm=>w1 x hx (by simp[hm])) (λx hx hm=>b3 x hx (by simp[hm]))]
theorem K2 {v w:AV}(h:st.get t=v)(hv:v≠ .bot):(st.put (some t) w).get t=w:=by
 unfold AS.get at h;cases hn:nth st.slots t with
 |none=>rw[hn]at h;exact absurd h.symm hv
 |some q=>
  have hl:t<st.slots.length:=by rw[eV]at hn;exact(aD.1 hn).1
  unfold AS.get AS.put;simp only[eV,gB];rw[bL hl];rfl
theorem xd {w:AV}(h:d≠t):(st.put (some d) w).get t=st.get t:=by unfold AS.get AS.put;simp only[kT,aK h]
theorem Fh {o:Oper}{i:Nat}(ho:o.op=.extract (.tmp t) i)(hd:o.dst=some d)(hg:o.guard=none):dp E Γ an ops X o st=some s↔ ∃vs g cs,st.get t=.yY vs/\nth vs i=some (g,cs)/\(cs.all AC.kB||an.mv.contains d)=true/\s=(st.put (some t) (.yY (jm vs i (g,bh 0 cs)))).put (some d) (.val g cs):=by
 unfold dp;simp only[eo,ho,hd];constructor;intro h;cases hv:st.get t with|val g cs=>simp only[hv,af,iO,hg,dM,ho,nG]at h;cases h|yY vs=>simp only[hv]at h;cases hn:nth vs i with|none=>simp only[hn,af,iO,hg,dM,ho,nG,hv]at h;cases h|some x=>obtain⟨g,cs⟩:=x;simp only[hn]at h;cases hf:(cs.all AC.kB||an.mv.contains d)with|false=>rw[hf]at h;cases h|true=>rw[hf]at h;simp only[af,iO,hg,dM,ho,nG,hv,hn,hd]at h;cases h;exact⟨vs,g,cs,rfl,hn,hf,rfl⟩
 rintro⟨vs,g,cs,hv,hn,hf,rfl⟩;simp only[hv,hn,hf,af,iO,hg,dM,ho,nG,hd]
theorem afW (l:ax α)(i:Nat)(v w:α):jm (jm l i v) i w=jm l i w:=by rw[gB,gB,gB,List.set_set]
theorem ahc {o p:Oper}(ha:aaI o p=true)(h1:dp E Γ an ops X o st=some s1)(h2:dp E Γ an ops Y p s1=some s2): ∃t1,dp E Γ an ops Y p st=some t1/\dp E Γ an ops X o t1=some s2:=by
 unfold aaI at ha;split at ha;rename_i t i t' j d d' ho hp hd HI hg qn;simp only[ah,bD,aP,cq,ne_eq]at ha;obtain⟨⟨⟨⟨rfl,hij⟩,VU⟩,hdt⟩,amG⟩:=ha;obtain⟨vs,g,cs,hv,hn,hf,rfl⟩:=(Fh ho hd hg).1 h1;obtain⟨vs2,g2,Hm,SY,Hn,F1,rfl⟩:=(Fh hp HI qn).1 h2;have hq:((st.put (some t) (.yY (jm vs i (g,bh 0 cs)))).put (some d) (.val g cs)).get t=.yY (jm vs i (g,bh 0 cs)):=by rw[xd hdt,K2 hv (by simp)]
 rw[hq]at SY;cases SY;rw[kT,aK hij]at Hn;refine⟨_,(Fh hp HI qn).2 ⟨vs,g2,Hm,hv,Hn,F1,rfl⟩,(Fh ho hd hg).2 ⟨jm vs j (g2,bh 0 Hm),g,cs,?_,?_,hf,?_⟩⟩;rw[xd amG,K2 hv (by simp)];rw[kT,aK (cE hij)];exact hn;have e:=kx vs hij (g,bh 0 cs) (g2,bh 0 Hm);have a:∀(A B:AV)(q:Nat)(v:AV),q≠t->jm (jm (jm st.slots t A) q v) t B=jm (jm st.slots t B) q v:=λA B q v hq=>by rw[kx _ hq,afW]
 simp only[AS.put,AS.mk.injEq,jY];rw[a _ _ _ _ hdt,a _ _ _ _ amG,e,kx _ VU];cases ha
theorem adl (s:AS)(t:Nat):s.put (some t) (s.get t)=s:=by cases s with|mk slots boxes ep iss io=>simp only[AS.put,AS.mk.injEq,jY];rw[gB];apply dB;intro i;rw[bO];split;rename_i hd;subst hd;simp only[AS.get,eV];split;rename_i iA;rw[ay iA];rfl;rename_i B0;rw[cd (Nat.le_of_not_lt B0)];rfl
theorem Zx {o:Oper}(hd:o.dst=some d)(hg:o.guard=none)(ho:(o.op=.move (.tmp t)/\an.mv.contains d=false/\an.fm.contains d=true)\/∃i,o.op=.extract (.tmp t) i)(_hdt:d≠t)(h:dp E Γ an ops X o st=some s): ∃tv v,s=(st.put (some t) tv).put (some d) v/\∀st2:AS,st2.get t=st.get t->dp E Γ an ops X o st2=some ((st2.put (some t) tv).put (some d) v):=by
 rcases ho with⟨ho,Hc,Pv⟩|⟨i,ho⟩;have QW:∀st2:AS,st2.get t=st.get t->(st.rd (.tmp t)).mX=true->st2.rd (.tmp t)=st.get t:=by
  intro st2 hq hs;simp only[AS.rd,hq]at hs⊢;cases hv:st.get t with
  |yY vs=>rw[hv]at hs;simp[AV.borrow,AV.mX]at hs
  |val g cs=>
   rw[hv]at hs;simp only[AV.borrow,AV.mX]at hs⊢;congr 1;have key:∀(cs:ax AC)(j:Nat),(jO st.ep (λj=>mw.slot t j) j cs).all AC.mX=true->jO st2.ep (λj=>mw.slot t j) j cs=cs:=by
    intro cs;induction cs with
    |nil=>intro j _;rfl
    |cons c cs ih=>
     intro j h;simp only[jO,cx,ah]at h⊢;rw[ih (j+1) h.2];congr 1;cases c with
     |sl fl e xs=>cases fl with|gr _ _ ep=>cases ep<;>simp[AC.borrow,AC.mX]at h|_=>simp[AC.borrow,AC.mX]at h
     |_=>rfl
   exact key cs 0 hs
 unfold dp at h;have mI:(st.rd (.tmp t)).mX=true:=by cases hs:(st.rd (.tmp t)).mX with|true=>rfl|false=>simp only[eo,ho,fmB,hd,Pv,hs]at h;cases h
 refine⟨st.get t,st.get t,?_,λst2 hq=>?_⟩;simp only[eo,ho,fmB,hd,Pv,mI,Bool.or_true,af,iO,hg,dM,FF,Hc,bm,cG]at h;cases h;rw[QW st rfl mI];congr 1;exact(adl st t).symm;unfold dp;have e1:=QW st2 hq mI;have V5:(st2.rd (.tmp t)).mX=true:=by rw[e1,<-QW st rfl mI];exact mI
 simp only[eo,ho,fmB,hd,Pv,V5,Bool.or_true,af,iO,hg,dM,FF,Hc,bm,cG];rw[e1,<-hq,adl];obtain⟨vs,g,cs,hv,hn,hf,rfl⟩:=(Fh ho hd hg).1 h;refine⟨_,_,rfl,λst2 hq=>(Fh ho hd hg).2 ⟨vs,g,cs,by rw[hq,hv],hn,hf,rfl⟩⟩
theorem ajx {p:Oper}{q x:Nat}(hp:p.op=.store T (.tmp q) (.tmp x))(hd:p.dst=none)(hg:p.guard=none)(VV:(an.eb q).isSome=true)(hes:(an.es q).isNone=true)(hsb:(an.sb q).isNone=true)(hl:DE an p=false)(h:dp E Γ an ops Y p st=some s): ∃B,s=⟨jm st.slots x ((st.get x).bh st.ep),B,st.ep+1,st.iss,st.io⟩/\ ∀st2:AS,st2.get q=st.get q->st2.get x=st.get x->st2.boxes=st.boxes->st2.ep=st.ep->st2.iss=st.iss->st2.io=st.io-> dp E Γ an ops Y p st2=some ⟨jm st2.slots x ((st.get x).bh st.ep),B,st.ep+1,st.iss,st.io⟩:=by
 have iD:∀st2:AS,st2.get q=st.get q->st2.ep=st.ep->eo E an Y p st2=eo E an Y p st:=by intro st2 h1 h2;simp only[eo,hp,AS.rd,h1,h2]
 unfold dp at h;cases hf:eo E an Y p st with
 |false=>rw[hf]at h;cases h
 |true=>
  rw[hf]at h;simp only[af,iO,hg,dM,hp,hd,hl,bm,cG]at h;have km:=hf;simp only[eo,hp]at km;have QR:((an.sb q).isNone&&(an.eb q).isNone&&(an.es q).isNone)=false:=by cases he:an.eb q with|none=>rw[he]at VV;cases VV|some _=>simp
  rw[QR,cM]at km;unfold zY at h;split at h;rename_i QW;rw[QW]at km;simp only[ah,bD]at km;rw[km.2]at hsb;cases hsb;rename_i sh Qq r tg e y i off hT QW;rw[QW]at km;cases r with
  |slot _ _=>simp only[ah,bD]at km;rw[km.1.1]at hes;cases hes
  |io _=>simp at km
  |box b j=>
   split at h;rename_i gg vs st1 vF;have e1:(st.get x)=.val gg vs:=by have:=congrArg Prod.fst vF;exact this
   have e2:st1=⟨jm st.slots x ((st.get x).bh st.ep),st.boxes,st.ep,st.iss,st.io⟩:=by have:=congrArg Prod.snd vF;exact this.symm
   split at h;rename_i hlen;have main:∃B,∀sl:ax AV,(⟨sl,st.boxes,st.ep,st.iss,st.io⟩:AS).rO (.box b j) tg e i off vs some=some ⟨sl,B,st.ep+1,st.iss,st.io⟩:=by
    subst e2;simp only[AS.rO,AS.fU,AS.gj,AS.fQ]at h⊢;cases hb:(nth st.boxes b).getD none with
    |none=>rw[hb]at h;simp at h
    |some cs=>
     rw[hb]at h;simp only[fL]at h⊢;split at h;rename_i t' e' xs hn;split at h;rename_i he;simp only[dif_pos he];generalize (he▸xs:ax e.D)=zs at h⊢;split at h;rename_i ht;simp only[aI ht];cases hi:idx zs i with|none=>rw[hi]at h;simp[aa]at h|some y0=>simp only[hi,aa]at h⊢;split at h;exact⟨_,λsl=>rfl⟩;cases h
     cases h;cases h;rename_i t' i' q0 e' xs hn;split at h;rename_i he;simp only[dif_pos he];generalize (he▸xs:ax e.D)=zs at h⊢;split at h;rename_i ht;simp only[aI ht];cases hi:aes zs i' i with|none=>rw[hi]at h;simp[aa]at h|some y0=>simp only[hi,aa]at h⊢;split at h;exact⟨_,λsl=>rfl⟩;cases h
     cases h;cases h;cases h
   obtain⟨B,hB⟩:=main;refine⟨B,?_,λst2 h1 h2 h3 h4 h5 h6=>?_⟩;subst e2;rw[hB]at h;exact(bQ h).symm;unfold dp;rw[iD st2 h1 h4,hf];have r2:st2.rd (.tmp q)=st.rd (.tmp q):=by simp only[AS.rd,h1,h4]
   have t2:st2.take (.tmp x)=(.val gg vs,⟨jm st2.slots x ((st.get x).bh st.ep),st.boxes,st.ep,st.iss,st.io⟩):=by simp only[AS.take,AS.put,h2,h3,h4,h5,h6,e1]
   simp only[af,iO,hg,dM,hp,hd,hl,bm,cG,zY,hT,r2,QW,t2];rw[aI hlen];exact hB _;cases h;cases h
  cases h
theorem agZ {p:Oper}{q x:Nat}(hp:p.op=.store T (.tmp q) (.tmp x))(hd:p.dst=none)(hg:p.guard=none){b:Nat}(hes:an.es q=some b)(VV:(an.eb q).isNone=true)(lB:b≠x)(hsb:(an.sb q).isNone=true)(hl:DE an p=false)(h:dp E Γ an ops Y p st=some s): ∃B,s=⟨jm (jm st.slots x ((st.get x).bh st.ep)) b B,st.boxes,st.ep+1,st.iss,st.io⟩/\ ∀st2:AS,st2.get q=st.get q->st2.get x=st.get x->nth st2.slots b=nth st.slots b->st2.boxes=st.boxes->st2.ep=st.ep->st2.iss=st.iss->st2.io=st.io-> dp E Γ an ops Y p st2=some ⟨jm (jm st2.slots x ((st.get x).bh st.ep)) b B,st.boxes,st.ep+1,st.iss,st.io⟩:=by
 have iD:∀st2:AS,st2.get q=st.get q->st2.ep=st.ep->eo E an Y p st2=eo E an Y p st:=by intro st2 h1 h2;simp only[eo,hp,AS.rd,h1,h2]
 unfold dp at h;cases hf:eo E an Y p st with
 |false=>rw[hf]at h;cases h
 |true=>
  rw[hf]at h;simp only[af,iO,hg,dM,hp,hd,hl,bm,cG]at h;have km:=hf;simp only[eo,hp]at km;have QR:((an.sb q).isNone&&(an.eb q).isNone&&(an.es q).isNone)=false:=by rw[hes];simp
  rw[QR,cM]at km;unfold zY at h;split at h;rename_i QW;rw[QW]at km;simp only[ah,bD]at km;rw[km.2]at hsb;cases hsb;rename_i sh Qq r tg e y i off hT QW;rw[QW]at km;cases r with
  |box _ _=>simp only[ah,bD]at km;rw[km.1.1]at VV;cases VV
  |io _=>simp at km
  |slot b' j=>
   simp only[ah,bD]at km;have hbb:b'=b:=bQ (km.1.1.symm.trans hes);subst hbb;split at h;rename_i gg vs st1 vF;have e1:(st.get x)=.val gg vs:=by have:=congrArg Prod.fst vF;exact this
   have e2:st1=⟨jm st.slots x ((st.get x).bh st.ep),st.boxes,st.ep,st.iss,st.io⟩:=by have:=congrArg Prod.snd vF;exact this.symm
   split at h;rename_i hlen;have main:∃B,∀sl:ax AV,nth sl b'=nth st.slots b'->(⟨sl,st.boxes,st.ep,st.iss,st.io⟩:AS).rO (.slot b' j) tg e i off vs some=some ⟨jm sl b' B,st.boxes,st.ep+1,st.iss,st.io⟩:=by
    subst e2;have jk:∀sl:ax AV,nth sl b'=nth st.slots b'->(⟨sl,st.boxes,st.ep,st.iss,st.io⟩:AS).get b'=st.get b':=λsl hq=>by unfold AS.get;rw[hq]
    have hq0:nth (jm st.slots x ((st.get x).bh st.ep)) b'=nth st.slots b':=by rw[kT,aK (cE lB)]
    simp only[AS.rO,AS.fU,AS.gj,jk _ hq0]at h;cases hb:st.get b' with
    |yY _=>rw[hb]at h;simp at h
    |val g0 cs=>
     rw[hb]at h;simp only at h;split at h;rename_i t' e' xs hn;split at h;rename_i he;split at h;rename_i ht;cases hi:idx (he▸xs:ax e.D) i with|none=>rw[hi]at h;simp[aa]at h|some y0=>simp only[hi,aa]at h;split at h;rename_i x' Dv;refine⟨.val g0 (jm cs j (.sl (.own (some t')) e ((he▸xs:ax e.D).set i.toNat x'))),λsl hq=>?_⟩;simp only[AS.rO,AS.fU,AS.gj,jk _ hq,hb,hn,dif_pos he,aI ht,hi,aa,Dv,AS.put];cases h
     cases h;cases h;rename_i t' i' q0 e' xs hn;split at h;rename_i he;split at h;rename_i ht;cases hi:aes (he▸xs:ax e.D) i' i with|none=>rw[hi]at h;simp[aa]at h|some y0=>simp only[hi,aa]at h;split at h;rename_i x' Dv;refine⟨.val g0 (jm cs j (.sl (.own (some t')) e ((he▸xs:ax e.D).set i.toNat x'))),λsl hq=>?_⟩;simp only[AS.rO,AS.fU,AS.gj,jk _ hq,hb,hn,dif_pos he,aI ht,hi,aa,Dv,AS.put];cases h
     cases h;cases h;cases h
   obtain⟨B,hB⟩:=main;refine⟨B,?_,λst2 h1 h2 zb h3 h4 h5 h6=>?_⟩;subst e2;rw[hB _ (by rw[kT,aK (cE lB)])]at h;exact(bQ h).symm;unfold dp;rw[iD st2 h1 h4,hf];have r2:st2.rd (.tmp q)=st.rd (.tmp q):=by simp only[AS.rd,h1,h4]
   have t2:st2.take (.tmp x)=(.val gg vs,⟨jm st2.slots x ((st.get x).bh st.ep),st.boxes,st.ep,st.iss,st.io⟩):=by simp only[AS.take,AS.put,h2,h3,h4,h5,h6,e1]
   simp only[af,iO,hg,dM,hp,hd,hl,bm,cG,zY,hT,r2,QW,t2];rw[aI hlen];exact hB _ (by rw[kT,aK (cE lB)];exact zb);cases h;cases h
  cases h
theorem ajw {o p:Oper}(ha:aaF an o p=true)(h1:dp E Γ an ops X o st=some s1)(h2:dp E Γ an ops Y p s1=some s2): ∃t1,dp E Γ an ops Y p st=some t1/\dp E Γ an ops X o t1=some s2:=by
 unfold aaF at ha;split at ha;rename_i T q x hp hpd hpg;simp only[ah,aP]at ha;obtain⟨⟨⟨VV,hsb⟩,hl⟩,ha⟩:=ha;have amD:∃d t,o.dst=some d/\o.guard=none/\((o.op=.move (.tmp t)/\an.mv.contains d=false/\an.fm.contains d=true)\/∃i,o.op=.extract (.tmp t) i)/\d≠q/\d≠x/\t≠x/\d≠t/\t≠q:=by split at ha;rename_i t d ho hd hg;simp only[ah,aP,cq]at ha;exact⟨d,t,hd,hg,.inl ⟨ho,ha.1.1.1.1.1.1,ha.1.1.1.1.1.2⟩,ha.1.1.1.1.2,ha.1.1.1.2,ha.1.1.2,ha.2,ha.1.2⟩;rename_i t i d ho hd hg;simp only[ah,aP,cq]at ha;exact⟨d,t,hd,hg,.inr ⟨i,ho⟩,ha.1.1.1.1,ha.1.1.1.2,ha.1.1.2,ha.2,ha.1.2⟩;cases ha
 obtain⟨d,t,hd,hg,ho,hdq,hdx,htx,hdt,htq⟩:=amD;obtain⟨tv,v,rfl,fz⟩:=Zx hd hg ho hdt h1;have hq:((st.put (some t) tv).put (some d) v).get q=st.get q:=by rw[xd hdq];exact xd htq
 have hx:((st.put (some t) tv).put (some d) v).get x=st.get x:=by rw[xd hdx,xd htx]
 simp only[dE,ah]at VV;rcases VV with⟨VV,hes⟩|hes;obtain⟨B,rfl,hgo⟩:=ajx hp hpd hpg VV hes hsb hl h2;have k1:=hgo st hq.symm hx.symm rfl rfl rfl rfl;refine⟨_,k1,?_⟩;have Kf:(⟨jm st.slots x ((((st.put (some t) tv).put (some d) v).get x).bh ((st.put (some t) tv).put (some d) v).ep),B,((st.put (some t) tv).put (some d) v).ep+1,((st.put (some t) tv).put (some d) v).iss,((st.put (some t) tv).put (some d) v).io⟩:AS).get t=st.get t:=by simp only[AS.get,kT,aK (cE htx)]
 rw[fz _ Kf];simp only[AS.put,br,AS.mk.injEq,jY];rw[kx _ (cE htx),kx _ (cE hdx)];cases hb:an.es q with
 |none=>rw[hb]at hes;cases hes
 |some b=>
  rw[hb]at hes;simp only[ah,aP,cq]at hes;obtain⟨⟨⟨VV,lB⟩,_⟩,hbw⟩:=hes;have hbw:=nS hbw b (by simp);have hbd:b≠d:=λe=>hbw (by simp[hd,e]);have hbt:b≠t:=λe=>hbw (by refine aB.2 (.inr ?_);rcases ho with⟨ho,_⟩|⟨i,ho⟩<;>simp[eK,ho,tm,e]);obtain⟨B,rfl,hgo⟩:=agZ hp hpd hpg hb VV lB hsb hl h2;have zb:nth st.slots b=nth ((st.put (some t) tv).put (some d) v).slots b:=by simp only[AS.put,kT,aK (cE hbd),aK (cE hbt)]
  have k1:=hgo st hq.symm hx.symm zb rfl rfl rfl rfl;refine⟨_,k1,?_⟩;have Kf:(⟨jm (jm st.slots x ((((st.put (some t) tv).put (some d) v).get x).bh ((st.put (some t) tv).put (some d) v).ep)) b B,((st.put (some t) tv).put (some d) v).boxes,((st.put (some t) tv).put (some d) v).ep+1,((st.put (some t) tv).put (some d) v).iss,((st.put (some t) tv).put (some d) v).io⟩:AS).get t=st.get t:=by simp only[AS.get,kT,aK (cE htx),aK hbt]
  rw[fz _ Kf];simp only[AS.put,br,AS.mk.injEq,jY];rw[kx _ hbt,kx _ hbd,kx _ (cE htx),kx _ (cE hdx)]
 cases ha
theorem WQ {c:AC}(h:c.mX=true\/(c.borrow ep none).mX=true):c.borrow ep none=c:=by
 cases c with
 |sl fl e xs=>exfalso;cases fl with|gr _ _ ep=>cases ep<;>simp[AC.borrow,AC.mX]at h|_=>simp[AC.borrow,AC.mX]at h
 |_=>rfl
theorem Sb {cs:ax AC}{n:Nat}(iW:off+n<=cs.length)(k:Nat):(fC cs off (bh ep ((cs.drop off).take n)))[k]?=(cs[k]?).map λc=>if off<=k/\k<off+n then c.borrow ep none else c:=by
 have hl:(bh ep ((cs.drop off).take n)).length=n:=by simp[bh];omega
 unfold fC;rw[hl];by_cases h1:k<off;rw[aG,bB (by simp;omega),eG h1];have:(λc:AC=>if off<=k/\k<off+n then c.borrow ep none else c)=id:=by funext c;rw[lH];rfl
 rw[this,Option.map_id];rfl;by_cases h2:k<off+n;rw[bB (by simp[hl];omega),bJ (by simp;omega)];have e:k-(cs.take off).length=k-off:=by simp;omega
 rw[e,bh,List.getElem?_map,eG (by omega),cj,show off+(k-off)=k by omega];congr 1;funext c;rw[zip];rw[bJ (by simp[hl];omega)];have e:k-(cs.take off++bh ep ((cs.drop off).take n)).length=k-(off+n):=by simp[hl];omega
 rw[e,cj,show off+n+(k-(off+n))=k by omega];have:(λc:AC=>if off<=k/\k<off+n then c.borrow ep none else c)=id:=by funext c;rw[lH];rfl
 rw[this,Option.map_id];rfl
theorem Mj {cs:ax AC}{n o2 n2:Nat}(iW:off+n<=cs.length)(h:((cs.drop o2).take n2).all AC.mX=true\/(((fC cs off (bh ep ((cs.drop off).take n))).drop o2).take n2).all AC.mX=true): ((fC cs off (bh ep ((cs.drop off).take n))).drop o2).take n2=(cs.drop o2).take n2:=by
 apply dB;intro k;by_cases hk:k<n2;rw[eG hk,eG hk,cj,cj,Sb iW];cases hc:cs[o2+k]? with|none=>rfl|some c=>simp only[dQ];split;rename_i zw;refine congrArg some (WQ ?_);rcases h with h|h;left;refine aO.1 h c (aX (i:=k) ?_);rw[eG hk,cj,hc];right;refine aO.1 h _ (aX (i:=k) ?_);rw[eG hk,cj,Sb iW,hc,dQ,aI zw];rfl
 rw[cd (by simp;omega),cd (by simp;omega)]
theorem NM {b:Nat}:∀{cs:ax AC}{j:Nat},cs.all AC.mX=true->jO ep (.box b) j cs=cs
 |[],_,_=>rfl
 |c::cs,j,h=>by simp only[cx,ah]at h;rw[jO,NM h.2];congr 1;cases c<;>first|rfl|(simp[AC.mX]at h)
theorem Sj {o:Oper}(h:E6 an o=true):∃T q d,o.op=.load T (.tmp q)/\o.dst=some d/\o.guard=none/\an.mv.contains d=true/\(an.mb d).isSome=true:=by unfold E6 at h;split at h;rename_i T q d ho hd hg;simp only[ah]at h;exact⟨T,q,d,ho,hd,hg,h.1,h.2⟩;cases h
theorem QC {o:Oper}(h:QB an o=true):∃T q d,o.op=.load T (.tmp q)/\o.dst=some d/\o.guard=none/\an.mv.contains d=false/\an.fm.contains d=true:=by unfold QB at h;split at h;rename_i T q d ho hd hg;simp only[ah,aP]at h;exact⟨T,q,d,ho,hd,hg,h.1,h.2⟩;cases h
theorem Jh {o:Oper}{q:Nat}(ht:E6 an o=true)(ho:o.op=.load T (.tmp q))(hd:o.dst=some d)(hg:o.guard=none)(Hc:an.mv.contains d=true):dp E Γ an ops X o st=some s↔ ∃sh b off cs,kl E.ty T=some sh/\st.rd (.tmp q)=.val false [.ptr b off]/\(nth st.boxes b).getD none=some cs/\off+sh.ct.size<=cs.length/\X.contains b=false/\an.mb d=some b/\(fmB an o=true->HD E T st b off=true)/\ s=(st.fQ b (some (fC cs off (bh st.ep ((cs.drop off).take sh.ct.size))))).put (some d) (.val sh.agg ((cs.drop off).take sh.ct.size)):=by
 have key:eo E an X o st=true->∀r,dM E Γ an o st some=some r->∃b off,st.rd (.tmp q)=.val false [.ptr b off]:=by intro hf r hr;simp only[dM,ho,rp]at hr;split at hr;rename_i hp;exact⟨_,_,hp⟩;rename_i hp;simp only[eo,ho,hp,ht,Bool.or_true,aj,iv,iw]at hf;cases hf;cases hr
 unfold dp;constructor;intro h;cases hf:eo E an X o st with|false=>rw[hf]at h;cases h|true=>rw[hf]at h;simp only[af,iO,hg]at h;obtain⟨b,off,hp⟩:=key hf s h;simp only[eo,ho,hp,hd,Hc,aj,cM,ah,aP,bD,dE]at hf;simp only[dM,ho,rp,hp]at h;cases hT:kl E.ty T with|none=>rw[hT]at h;cases h|some sh=>rw[hT]at h;simp only at h;cases hb:(nth st.boxes b).getD none with|none=>rw[hb]at h;cases h|some cs=>rw[hb]at h;simp only at h;split at h;rename_i iW;simp only[hd,Hc,cL]at h;cases h;refine⟨sh,b,off,cs,rfl,hp,hb,iW,hf.1.1,hf.1.2,λhm=>?_,rfl⟩;rcases hf.2 with g|g;rw[hm]at g;cases g;exact g;cases h
 rintro⟨sh,b,off,cs,hT,hp,hb,iW,hX,hmb,Pv,rfl⟩;have hf:eo E an X o st=true:=by simp only[eo,ho,hp,hd,Hc,hX,hmb,aj,cM,ah,aP,bD,dE];refine⟨⟨dx,dx⟩,?_⟩;cases hm:fmB an o with|false=>exact .inl rfl|true=>exact .inr (Pv hm)
 rw[hf];simp only[af,iO,hg,dM,ho,rp,hp,hT,hb,aI iW,hd,Hc,cL]
theorem IK {o:Oper}{q:Nat}(ho:o.op=.load T (.tmp q))(hd:o.dst=some d)(hg:o.guard=none)(Hc:an.mv.contains d=false)(Pv:an.fm.contains d=true):dp E Γ an ops X o st=some s↔ ∃sh b off cs,kl E.ty T=some sh/\st.rd (.tmp q)=.val false [.ptr b off]/\(nth st.boxes b).getD none=some cs/\off+sh.ct.size<=cs.length/\X.contains b=false/\((cs.drop off).take sh.ct.size).all AC.mX=true/\ s=st.put (some d) (.val sh.agg ((cs.drop off).take sh.ct.size)):=by
 have hfb:fmB an o=true:=by simp only[fmB,hd,Pv]
 have key:eo E an X o st=true->∀r,dM E Γ an o st some=some r->∃b off,st.rd (.tmp q)=.val false [.ptr b off]:=by intro hf r hr;simp only[dM,ho,rp]at hr;split at hr;rename_i hp;exact⟨_,_,hp⟩;rename_i hp;simp only[eo,ho,hp,hfb,lA,aj,iv,iw]at hf;cases hf;cases hr
 unfold dp;constructor;intro h;cases hf:eo E an X o st with
 |false=>rw[hf]at h;cases h
 |true=>
  rw[hf]at h;simp only[af,iO,hg]at h;obtain⟨b,off,hp⟩:=key hf s h;simp only[eo,ho,hp,hd,Hc,hfb,aj,cA,lA,cM,jw,ah,aP]at hf;simp only[dM,ho,rp,hp]at h;cases hT:kl E.ty T with
  |none=>rw[hT]at h;cases h
  |some sh=>
   rw[hT]at h;simp only at h;cases hb:(nth st.boxes b).getD none with
   |none=>rw[hb]at h;cases h
   |some cs=>
    rw[hb]at h;simp only at h;split at h;rename_i iW;have mI:((cs.drop off).take sh.ct.size).all AC.mX=true:=by have:=hf.2;unfold HD at this;rw[hT,hb]at this;exact this
    simp only[hd,Hc,bm,cG,NM mI]at h;cases h;exact⟨sh,b,off,cs,rfl,hp,hb,iW,hf.1,mI,rfl⟩;cases h
 rintro⟨sh,b,off,cs,hT,hp,hb,iW,hX,mI,rfl⟩;have hf:eo E an X o st=true:=by simp only[eo,ho,hp,hd,Hc,hX,hfb,HD,hT,hb,mI];rfl
 rw[hf];simp only[af,iO,hg,dM,ho,rp,hp,hT,hb,aI iW,hd,Hc,bm,cG,NM mI]
theorem UQ {q:Nat}{v:AV}(h:d≠q):(st.put (some d) v).rd (.tmp q)=st.rd (.tmp q):=by simp only[AS.rd,xd h];rfl
theorem aiz {q b:Nat}{cs:aA (ax AC)}:(st.fQ b cs).rd (.tmp q)=st.rd (.tmp q):=rfl
theorem aaq {b:Nat}{cs x:ax AC}(h:(nth st.boxes b).getD none=some cs):(nth (jm st.boxes b (some x)) b).getD none=some x:=by
 rw[kT,aI rfl];cases hn:nth st.boxes b with
 |none=>rw[hn]at h;cases h
 |some _=>
  have:b<st.boxes.length:=by rw[eV]at hn;exact(aD.1 hn).1
  rw[aI this];rfl
theorem aar {b b2:Nat}{x:ax AC}(h:b≠b2):nth (jm st.boxes b (some x)) b2=nth st.boxes b2:=by rw[kT,aK h]
theorem aj1 {o p:Oper}(ha:abu an o p=true)(h1:dp E Γ an ops X o st=some s1)(h2:dp E Γ an ops Y p s1=some s2): ∃t1,dp E Γ an ops Y p st=some t1/\dp E Γ an ops X o t1=some s2:=by
 simp only[abu,ah,dE,aP]at ha;obtain⟨⟨ha,m1⟩,m2⟩:=ha;have m1:=nS m1;have m2:=nS m2;rcases ha with⟨ht,hf⟩|⟨hf,ht⟩;obtain⟨T,q,d,ho,hd,hg,Hc,hmb⟩:=Sj ht;obtain⟨T2,q2,d2,hp,SP,Kf,X9,aem⟩:=QC hf;have n1:d≠d2:=λe=>m1 d (by simp[hd]) (by simp[SP,e]);have n2:d≠q2:=λe=>m1 d (by simp[hd]) (by simp[eK,hp,tm,e]);have n3:d2≠q:=λe=>m2 d2 (by simp[SP]) (by simp[eK,ho,tm,e]);obtain⟨sh,b,off,cs,hT,hr,hb,iW,hX,alB,Pv,rfl⟩:=(Jh ht ho hd hg Hc).1 h1;obtain⟨sh2,b2,Tb,Hm,hT2,SW,SB,ac1,hX2,V5,rfl⟩:=(IK hp SP Kf X9 aem).1 h2;rw[UQ n2,aiz]at SW;have lB:(nth (jm st.boxes b (some (fC cs off (bh st.ep ((cs.drop off).take sh.ct.size))))) b2).getD none=some Hm:=SB;have tt:∃SA,(nth st.boxes b2).getD none=some SA/\Tb+sh2.ct.size<=SA.length/\(Hm.drop Tb).take sh2.ct.size=(SA.drop Tb).take sh2.ct.size:=by
  by_cases hbb:b=b2;subst hbb;rw[aaq hb]at lB;cases lB;have hlen:(fC cs off (bh st.ep ((cs.drop off).take sh.ct.size))).length=cs.length:=by simp only[fC,bh,aq,bX,bt,bA];omega
  exact⟨cs,hb,by omega,Mj iW (.inr V5)⟩;rw[aar hbb]at lB;exact⟨Hm,lB,ac1,rfl⟩
 obtain⟨SA,W5,X1,he⟩:=tt;rw[he]at V5⊢;refine⟨_,(IK hp SP Kf X9 aem).2 ⟨sh2,b2,Tb,SA,hT2,SW,W5,X1,hX2,V5,rfl⟩,(Jh ht ho hd hg Hc).2 ⟨sh,b,off,cs,hT,by rw[UQ n3];exact hr,hb,iW,hX,alB,λhm=>?_,?_⟩⟩;have:=Pv hm;unfold HD at this⊢;exact this;simp only[AS.put,AS.fQ,AS.mk.injEq,jY];exact kx _ n1 _ _;obtain⟨T,q,d,ho,hd,hg,Hc,Pv⟩:=QC hf;obtain⟨T2,q2,d2,hp,SP,Kf,X9,alA⟩:=Sj ht;have n1:d≠d2:=λe=>m1 d (by simp[hd]) (by simp[SP,e]);have n2:d≠q2:=λe=>m1 d (by simp[hd]) (by simp[eK,hp,tm,e]);have n3:d2≠q:=λe=>m2 d2 (by simp[SP]) (by simp[eK,ho,tm,e]);obtain⟨sh,b,off,cs,hT,hr,hb,iW,hX,mI,rfl⟩:=(IK ho hd hg Hc Pv).1 h1;obtain⟨sh2,b2,Tb,Hm,hT2,SW,SB,ac1,hX2,alB,aem,rfl⟩:=(Jh ht hp SP Kf X9).1 h2;rw[UQ n2]at SW;refine⟨_,(Jh ht hp SP Kf X9).2 ⟨sh2,b2,Tb,Hm,hT2,SW,SB,ac1,hX2,alB,λhm=>aem hm,rfl⟩,?_⟩;have tt:∃SA,(nth (jm st.boxes b2 (some (fC Hm Tb (bh st.ep ((Hm.drop Tb).take sh2.ct.size))))) b).getD none=some SA/\off+sh.ct.size<=SA.length/\(SA.drop off).take sh.ct.size=(cs.drop off).take sh.ct.size:=by
  by_cases hbb:b2=b;subst hbb;have MX:Hm=cs:=bQ (SB.symm.trans hb);subst MX;have hlen:(fC Hm Tb (bh st.ep ((Hm.drop Tb).take sh2.ct.size))).length=Hm.length:=by simp only[fC,bh,aq,bX,bt,bA];omega
  exact⟨_,aaq hb,by omega,Mj ac1 (.inl mI)⟩;exact⟨cs,by rw[aar hbb];exact hb,iW,rfl⟩
 obtain⟨SA,W5,X1,he⟩:=tt;refine(IK ho hd hg Hc Pv).2 ⟨sh,b,off,SA,hT,by rw[UQ n3,aiz];exact hr,W5,X1,hX,by rw[he];exact mI,?_⟩;rw[he];simp only[AS.put,AS.fQ,AS.mk.injEq,jY];exact kx _ n1 _ _
theorem Si {o:Oper}{q:Nat}(ht:Io an o=true)(ho:o.op=.load T (.tmp q))(hd:o.dst=some d)(hg:o.guard=none)(Hc:an.mv.contains d=true)(hmb:an.mb d=none):dp E Γ an ops X o st=some s↔ ∃(g:Bool)(e:CT)(lE:ax (Nat×Nat))(b j t Qq:Nat)(x:e.D)(i:Int)(cs:ax AC)(ys:ax e.D)(y:e.D),kl E.ty T=some ⟨g,e,lE⟩/\st.rd (.tmp q)=.val false [.Ef (.loc Qq (some (.box b j,t))) e x i 0]/\(nth st.boxes b).getD none=some cs/\nth cs j=some (.sl (.own (some t)) e ys)/\idx ys i=some y/\ X.contains b=false/\an.eb q=some b/\fmB an o=false/\s=(Mt st b j t e i cs ys).put (some d) (.val g (cellsOf e (.own none) y)):=by rw[<-Sh ht ho hd Hc hmb];unfold dp;cases eo E an X o st with|false=>simp|true=>simp only[af,iO,hg,dM,ho,true_and]
theorem afB {o:Oper}(h:Ev an o=true):∃T q d,o.op=.load T (.tmp q)/\o.dst=some d/\o.guard=none/\an.mv.contains d=false/\fmB an o=false:=by unfold Ev at h;split at h;rename_i T q d ho hd hg;simp only[ah,aP]at h;exact⟨T,q,d,ho,hd,hg,h.1.1,by simp only[fmB,hd];exact h.1.2⟩;cases h
theorem RG {o:Oper}{q:Nat}(C1:Ev an o=true)(ho:o.op=.load T (.tmp q))(hd:o.dst=some d)(hg:o.guard=none)(Hc:an.mv.contains d=false)(Pv:fmB an o=false):dp E Γ an ops X o st=some s↔ ∃sh b off cs,kl E.ty T=some sh/\st.rd (.tmp q)=.val false [.ptr b off]/\(nth st.boxes b).getD none=some cs/\off+sh.ct.size<=cs.length/\X.contains b=false/\ s=st.put (some d) (.val sh.agg (jO st.ep (.box b) off ((cs.drop off).take sh.ct.size))):=by
 unfold dp;constructor;intro h;cases hf:eo E an X o st with|false=>rw[hf]at h;cases h|true=>rw[hf]at h;simp only[af,iO,hg,dM,ho]at h;unfold rp at h;split at h;rename_i sh b off hT hp;simp only[eo,ho,hp,hd,Hc,Pv,cA,lA,jw,aP]at hf;split at h;rename_i cs hb;split at h;rename_i iW;simp only[hd,Hc,bm,cG]at h;cases h;exact⟨sh,b,off,cs,hT,hp,hb,iW,hf,rfl⟩;cases h;cases h;rename_i hp;simp only[eo,ho,hp,C1,aj,iv,iw]at hf;cases hf;cases h
 rintro⟨sh,b,off,cs,hT,hp,hb,iW,hX,rfl⟩;have hf:eo E an X o st=true:=by simp only[eo,ho,hp,hd,Hc,hX,Pv];rfl
 rw[hf];simp only[af,iO,hg,dM,ho,rp,hp,hT,hb,aI iW,hd,Hc,bm,cG]
theorem P9 {b:Nat}:∀(cs:ax AC)(p k:Nat)(c':AC),(∀c,cs[k]?=some c->∀r,c'.borrow ep (some r)=c.borrow ep (some r))->jO ep (.box b) p (cs.set k c')=jO ep (.box b) p cs
 |[],_,_,_,_=>rfl
 |c::cs,p,0,c',h=>by simp only[List.set_cons_zero,jO,h c rfl]
 |c::cs,p,k+1,c',h=>by simp only[List.set_cons_succ,jO];rw[P9 cs (p+1) k c' (λc hc=>h c (by simpa using hc))]
theorem Xs {b j n:Nat}{e:CT}{i:Int}{ys:ax e.D}{cs:ax AC}(hj:nth cs j=some (.sl (.own (some t)) e ys)): jO ep (.box b) off (((jm cs j (.sl (.gr (some t) i (some ep)) e ys)).drop off).take n)=jO ep (.box b) off ((cs.drop off).take n):=by rw[gB,List.drop_set];split;rfl;rename_i iA;rw[List.take_set];refine P9 _ _ _ _ λc hc r=>?_;by_cases hn:j-off<n;rw[eG hn,cj,show off+(j-off)=j by omega,<-eV,hj]at hc;cases hc;rfl;rw[cd (by simp;omega)]at hc;cases hc
theorem ajs {o p:Oper}(ha:aat an o p=true)(h1:dp E Γ an ops X o st=some s1)(h2:dp E Γ an ops Y p s1=some s2): ∃t1,dp E Γ an ops Y p st=some t1/\dp E Γ an ops X o t1=some s2:=by
 simp only[aat,ah,aP]at ha;obtain⟨⟨⟨C1,ht⟩,m1⟩,m2⟩:=ha;have m1:=nS m1;have m2:=nS m2;obtain⟨T,q,d,ho,hd,hg,Hc,Pv⟩:=afB C1;obtain⟨T2,q2,d2,hp,SP,Kf,X9,alA⟩:=Vj ht;have n1:d≠d2:=λe=>m1 d (by simp[hd]) (by simp[SP,e]);have n2:d≠q2:=λe=>m1 d (by simp[hd]) (by simp[eK,hp,tm,e]);have n3:d2≠q:=λe=>m2 d2 (by simp[SP]) (by simp[eK,ho,tm,e]);obtain⟨sh,b,off,cs,hT,hr,hb,iW,hX,rfl⟩:=(RG C1 ho hd hg Hc Pv).1 h1;obtain⟨g,e,lE,b2,j,t,Qq,x,i,Hm,ys,y,hT2,SW,SB,hj,hi,hX2,VV,aem,rfl⟩:=(Si ht hp SP Kf X9 alA).1 h2;rw[UQ n2]at SW;have amA:(nth st.boxes b2).getD none=some Hm:=SB;refine⟨_,(Si ht hp SP Kf X9 alA).2 ⟨g,e,lE,b2,j,t,Qq,x,i,Hm,ys,y,hT2,SW,amA,hj,hi,hX2,VV,aem,rfl⟩,?_⟩;have tt:∃SA,(nth (jm st.boxes b2 (some (jm Hm j (.sl (.gr (some t) i (some st.ep)) e ys)))) b).getD none=some SA/\off+sh.ct.size<=SA.length/\jO st.ep (.box b) off ((SA.drop off).take sh.ct.size)=jO st.ep (.box b) off ((cs.drop off).take sh.ct.size):=by by_cases hbb:b2=b;subst hbb;have MX:Hm=cs:=bQ (amA.symm.trans hb);subst MX;exact⟨_,aaq hb,by rw[gB,aL];exact iW,Xs hj⟩;exact⟨cs,by rw[aar hbb];exact hb,iW,rfl⟩
 obtain⟨SA,W5,X1,he⟩:=tt;refine(RG C1 ho hd hg Hc Pv).2 ⟨sh,b,off,SA,hT,by rw[UQ n3];exact hr,W5,X1,hX,?_⟩;show _=((Mt st b2 j t e i Hm ys).put (some d2) _).put (some d) (.val sh.agg (jO st.ep (.box b) off ((SA.drop off).take sh.ct.size)));rw[he];simp only[AS.put,Mt,AS.fQ,AS.mk.injEq,jY];exact kx _ n1 _ _
def Th (E:Env)(Γ:zu)(an:An)(ops:ax Oper)(X:Nat->fi):fi->AS->aA AS
 |[],st=>some st
 |i::r,st=>match nth ops i with
  |some o=>(dp E Γ an ops (X i) o st).bind (Th E Γ an ops X r)
  |none=>none
theorem RY (D6:∀f,(Γ f).io=false/\((Γ f).bx=true->(Γ f).cur=true)/\(Γ f).pr=false){X:Nat->fi}{i:Nat}{oi:Oper}(hi:nth ops i=some oi):∀(pre post:fi)(st r:AS),(∀j∈pre,∀oj,nth ops j=some oj->PY an ops (X j) (X i) oj oi=true)->
 Th E Γ an ops X (pre++i::post) st=some r->Th E Γ an ops X (i::(pre++post)) st=some r
 |[],post,st,r,_,h=>h
 |j::pre,post,st,r,ha,h=>by
  simp only[ig,Th]at h;cases hj:nth ops j with
  |none=>rw[hj]at h;cases h
  |some oj=>
   rw[hj]at h;simp only at h;obtain⟨s1,h1,h2⟩:=aY.1 h;have h3:=RY D6 hi pre post s1 r (λk hk=>ha k (by simp[hk])) h2;simp only[Th,hi]at h3;obtain⟨s2,h4,h5⟩:=aY.1 h3;have hap:=ha j (by simp) oj hj;obtain⟨t1,k1,k2⟩:∃t1,dp E Γ an ops (X i) oi st=some t1/\dp E Γ an ops (X j) oj t1=some s2:=by cases hx:ait an oj oi with|false=>rw[PY,hx,cM]at hap;exact acp D6 hap h1 h4|true=>simp only[ait,dE]at hx;rcases hx with((hx|hx)|hx)|hx;exact ahc hx h1 h4;exact ajw hx h1 h4;exact aj1 hx h1 h4;exact ajs hx h1 h4
   simp only[Th,hi,k1,fL,ig,hj,k2];exact h5
end Go.Dn
