import Derived.Test.YtfbhfnniblfpbaaGreatDnUpd
/- Operations that are apart may change places. -/
namespace Go.Dn
variable {E:Env} {Γ:xV} {an:An} {ops:aq Oper}
variable {s s1 s2 st:AS} {d ep off t:Nat} {α:Type} {T:TypeId} {X Y:dX}
def cB (E:Env)(Γ:xV)(an:An)(ops:aq Oper)(X:dX)(o:Oper)(st:AS):au AS:=
 bif du E an X o st then gB E Γ an ops o st some else none
structure SR (an:An) (ops:List Oper) (X:List Nat) (o:Oper) (st st2:AS):Prop where
 base:gT an X o st st2
 gd:∀t∈G7 an ops o,st2.get t=st.get t
theorem Wx {b:Bool}(h:st.get d=.val false [.bool b]):st.put (some d) (.one (.bool b))=st:=by cases st with|mk slots boxes ep iss io=>simp only[AS.put,AS.mk.injEq,ij];rw[eV];apply cM;intro i;rw[bl];split;rename_i hd;subst hd;simp only[AS.get,dB]at h;split;rename_i gV;rw[al gV]at h⊢;simp only[fz]at h;rw[h];rename_i BM;rw[bH (Nat.le_of_not_lt BM)];rfl
theorem Th {st2:AS}{s:Nat}(h:nth st2.boxes s=nth st.boxes s):G4 E T st2 s off=G4 E T st s off:=by unfold G4;rw[h]
theorem Jq {o:Oper}{st2:AS}(ha:gT an X o st st2):du E an X o st2=du E an X o st:=by
 unfold du;split;rename_i ho;rw[ha.rd (λt ht=>by simpa[dw,ho]using ht)];rename_i T p ho;rw[ha.rd (λt ht=>by simp[dw,ho,ht]),ha.ep];rename_i ho;rw[ha.rd (λt ht=>by simp[dw,ho,ht]),ha.ep];rename_i f args ts ho;have hcur:uv an X (erS an o) st2 args.toList=uv an X (erS an o) st args.toList:=by
  have hl:∀x∈args.toList,∀t∈tm x,t∈dw o:=by intro x hx t ht;simp only[dw,ho,az,Rb,List.mem_flatMap];exact .inr ⟨x,hx,ht⟩
  generalize args.toList=l at hl;cases l with
  |nil=>rfl
  |cons x xs=>
   have Di:xs.all (KR (erS an o) st2)=xs.all (KR (erS an o) st):=by
    rw[fj];simp only[aW];have e:∀y∈xs,KR (erS an o) st2 y=KR (erS an o) st y:=by intro y hy;cases y with|tmp t=>have hg:=ha.get t (hl (.tmp t) (by simp[hy]) t (by simp[tm]));simp only[KR,hg]|const v=>rfl|func v=>rfl|global v=>rfl
    exact⟨λg y hy=>by rw[<-e y hy];exact g y hy,λg y hy=>by rw[e y hy];exact g y hy⟩
   have hr:=ha.rd (hl x (by simp));cases x with
   |tmp q=>
    simp only[uv,hr];generalize st.rd (.tmp q)=v;unfold adM;rw[Di];split;rename_i s off;cases hX:X.contains s with|true=>simp|false=>rw[ha.box s hX]
    rfl
   |const v=>simp only[uv,hr]
   |func v=>simp only[uv,hr]
   |global v=>simp only[uv,hr]
 rw[hcur];congr 1;rw[fj];simp only[aW];constructor;intro hx x hm;have:=hx x hm;rwa[ha.rd (λt ht=>by simp only[dw,ho,az,Rb,List.mem_flatMap];exact .inr ⟨x,hm,ht⟩),ha.ep]at this;intro hx x hm;rw[ha.rd (λt ht=>by simp only[dw,ho,az,Rb,List.mem_flatMap];exact .inr ⟨x,hm,ht⟩),ha.ep];exact hx x hm;rename_i ho;rw[ha.rd (λt ht=>by simpa[dw,ho]using ht),ha.ep];split;rename_i s off _;cases hX:X.contains s with|true=>rfl|false=>rw[Th (ha.box s hX)]
 rfl;rfl;rename_i ho;rw[ha.rd (λt ht=>by simp only[dw,ho,az];exact .inl ht)];rename_i ho;rw[ha.get _ (by simp[dw,ho])];rfl
theorem MX (Ap:∀f,(Γ f).io=false/\((Γ f).bx=true->(Γ f).cur=true)/\(Γ f).pr=false){o:Oper}{st':AS}(hm:nR an o=true)(h:cB E Γ an ops X o st=some st'): ∃u:Ll,u.Je an o/\st'=u.apply st/\∀st2,SR an ops X o st st2->cB E Γ an ops X o st2=some (u.apply st2):=by
 unfold cB at h;cases hf:du E an X o st with
 |false=>rw[hf]at h;cases h
 |true=>
  rw[hf]at h;simp only[af]at h;unfold gB at h;split at h;rename_i hg;obtain⟨u,h1,h2,h3⟩:=P1 (X:=X) Ap hm hf h;refine⟨u,h1,h2,λst2 ha=>?_⟩;unfold cB;rw[Jq ha.base,hf];simp only[af,gB,hg];exact h3 st2 ha.base;rename_i j JP hg;split at h;rename_i d hd;have uw:d∈G7 an ops o:=by simp[G7,hg,hd]
  split at h;rename_i b hb;have hgo:(if(b==JP)=true then dc E Γ an o st some else some (st.put o.dst (.one .un)))=some st':=by cases b<;>simpa only[af,ae,Wx hb]using h
  have h2g:∀st2,SR an ops X o st st2->cB E Γ an ops X o st2=(if(b==JP)=true then dc E Γ an o st2 some else some (st2.put o.dst (.one .un))):=by
   intro st2 ha;have GG:st2.get d=.val false [.bool b]:=by rw[ha.gd d uw];exact hb
   unfold cB;rw[Jq ha.base,hf];simp only[af,gB,hg,hd,GG];cases b<;>simp only[af,ae,Wx GG]
  split at hgo;rename_i hw;obtain⟨u,h1,h2,h3⟩:=P1 (X:=X) Ap hm hf hgo;exact⟨u,h1,h2,λst2 ha=>by rw[h2g st2 ha,aG hw];exact h3 st2 ha.base⟩;rename_i hw;cases hgo;exact⟨F3 o (.one .un),D6 _,by rw[tf],λst2 ha=>by rw[h2g st2 ha,aF hw,tf]⟩;rename_i hb;cases h;refine⟨F3 o (.one .un),D6 _,by rw[tf],λst2 ha=>?_⟩;have GG:st2.get d=.val false [.un]:=by rw[ha.gd d uw];exact hb
  unfold cB;rw[Jq ha.base,hf,tf];simp only[af,gB,hg,hd,GG];cases h;cases h
theorem jb (l:aq α){i j:Nat}(h:i≠j)(v w:α):gZ (gZ l i v) j w=gZ (gZ l j w) i v:=by rw[eV,eV,eV,eV,List.set_comm _ _ h]
theorem Zq (l:aq AV)(a:aq (Nat×AV)){i:Nat}(v:AV)(h:∀x∈a,x.1≠i):ka (gZ l i v) a=gZ (ka l a) i v:=by induction a generalizing l with|nil=>rfl|cons x a ih=>simp only[ka];rw[jb _ (cJ (h x (by simp))),ih _ (λy hy=>h y (by simp[hy]))]
theorem Wu (l:aq AV)(a b:aq (Nat×AV))(h:∀x∈a,∀y∈b,x.1≠y.1):ka (ka l a) b=ka (ka l b) a:=by induction b generalizing l with|nil=>rfl|cons y b ih=>simp only[ka];rw[<-Zq l a y.2 (λx hx=>h x hx y (by simp)),ih _ (λx hx z hz=>h x hx z (by simp[hz]))]
theorem QY (l:aq AV)(a:aq (Nat×AV))(h:∀x∈a,x.1≠t):nth (ka l a) t=nth l t:=by induction a generalizing l with|nil=>rfl|cons x a ih=>rw[ka,ih _ (λy hy=>h y (by simp[hy])),jC,aF (h x (by simp))]
theorem mu {a b:dX}(h:meets a b=false):∀x∈a,x∉b:=by intro x hx hb;unfold meets at h;rw[List.any_eq_false]at h;exact h x hx (by simpa using hb)
theorem Ll.adD {u:Ll}{o p:Oper}(hw:u.Je an o)(h1:∀x∈writes an o,x∉dw p++G7 an ops p++writes an p)(h2:∀d∈HN an o,Y.contains d=true)(h3:∀d∈HN an o,p.dst≠some d): SR an ops Y p (u.apply st) st/\SR an ops Y p st (u.apply st):=by
 have gX:∀t,t∈dw p++G7 an ops p++writes an p->(u.apply st).get t=st.get t:=by intro t ht;unfold AS.get;have:nth (u.apply st).slots t=nth st.slots t:=QY _ _ (λx hx he=>h1 _ (hw.slots x hx) (by rw[he];exact ht));rw[this]
 have aby:∀d,p.dst=some d->nth (u.apply st).iss d=nth st.iss d/\nth (u.apply st).boxes d=nth st.boxes d:=by
  intro d hd;have Yp:d∈dw p++G7 an ops p++writes an p:=by simp[writes,hd]
  have E4:o.dst≠some d:=λhe=>h1 d (by simp[writes,he]) Yp;constructor;unfold Ll.apply;cases hi:u.iss with|none=>rfl|some k=>simp only;rw[jC,aF];rintro rfl;exact E4 (hw.iss _ hi)
  unfold Ll.apply;cases hi:u.box with|none=>rfl|some k=>simp only;rw[jC,aF];intro he;exact h3 _ (hw.box k hi) (by rw[he];exact hd)
 have ajc:∀s,Y.contains s=false->nth (u.apply st).boxes s=nth st.boxes s:=by intro s hs;unfold Ll.apply;cases hi:u.box with|none=>rfl|some k=>simp only;rw[jC,aF];rintro rfl;have:=h2 k.1 (hw.box k hi);rw[this]at hs;cases hs
 have hlen:(u.apply st).slots.length=st.slots.length:=Py _ _;exact⟨⟨⟨hlen.symm,λt ht=>(gX t (by simp[ht])).symm,rfl,λd hd=>⟨((aby d hd).1).symm,((aby d hd).2).symm⟩,λs hs=>(ajc s hs).symm,λt ht=>(gX t (by simp[G7,ht])).symm⟩,λt ht=>(gX t (by simp[ht])).symm⟩,⟨⟨hlen,λt ht=>gX t (by simp[ht]),rfl,aby,ajc,λt ht=>gX t (by simp[G7,ht])⟩,λt ht=>gX t (by simp[ht])⟩⟩
theorem XQ {u v:Ll}{o p:Oper}(hu:u.Je an o)(hv:v.Je an p)(h:∀x∈writes an o,x∉writes an p)(hb:∀x∈HN an o,x∉HN an p):v.apply (u.apply st)=u.apply (v.apply st):=by
 have Tk:∀a b,o.dst=some a->p.dst=some b->a≠b:=λa b ha hb he=>h a (by simp[writes,ha]) (by simp[writes,hb,he]);have hs:=Wu st.slots u.slots v.slots (λx hx y hy he=>h _ (hu.slots x hx) (by rw[he];exact hv.slots y hy));simp only[Ll.apply,AS.mk.injEq,true_and,ij];refine⟨hs,?_,?_⟩;cases hub:u.box with|none=>cases v.box<;>rfl|some k=>cases hvb:v.box with|none=>rfl|some l=>exact jb _ (λhe=>hb _ (hu.box k hub) (by rw[he];exact hv.box l hvb)) _ _
 cases hui:u.iss with|none=>cases v.iss<;>rfl|some k=>cases hvi:v.iss with|none=>rfl|some l=>exact jb _ (Tk _ _ (hu.iss k hui) (hv.iss l hvi)) _ _
theorem ZP (Ap:∀f,(Γ f).io=false/\((Γ f).bx=true->(Γ f).cur=true)/\(Γ f).pr=false){o p:Oper}(ha:XO an ops X Y o p=true)(h1:cB E Γ an ops X o st=some s1)(h2:cB E Γ an ops Y p s1=some s2): ∃t1,cB E Γ an ops Y p st=some t1/\cB E Γ an ops X o t1=some s2:=by
 simp only[XO,ah,aP,aW]at ha;obtain⟨⟨⟨⟨⟨⟨⟨mo,mp⟩,w1⟩,w2⟩,b1⟩,b2⟩,b3⟩,b4⟩:=ha;have w1:=mu w1;have w2:=mu w2;have b3:=mu b3;have b4:=mu b4;obtain⟨u,hu,rfl,hu2⟩:=MX Ap mo h1;obtain⟨v,hv,rfl,MB⟩:=MX Ap mp h2;have ag1:=Ll.adD (ops:=ops) (p:=p) (Y:=Y) (st:=st) hu w1 b1 (λd hd he=>b3 d hd (by simp[he]));have hww:∀x∈writes an p,x∉dw o++G7 an ops o++writes an o:=by intro x hx hm;rcases az.1 hm with hm|hm;exact w2 x hx hm;exact w1 x hm (by simp[hx])
 have ag2:=Ll.adD (ops:=ops) (p:=o) (Y:=X) (st:=st) hv hww b2 (λd hd he=>b4 d hd (by simp[he]));refine⟨v.apply st,MB st ag1.1,?_⟩;rw[hu2 _ ag2.2,XQ hu hv (λx hx hm=>w1 x hx (by simp[hm])) (λx hx hm=>b3 x hx (by simp[hm]))]
theorem J6 {v w:AV}(h:st.get t=v)(hv:v≠ .bot):(st.put (some t) w).get t=w:=by
 unfold AS.get at h;cases hn:nth st.slots t with
 |none=>rw[hn]at h;exact absurd h.symm hv
 |some q=>
  have hl:t<st.slots.length:=by rw[dB]at hn;exact(aD.1 hn).1
  unfold AS.get AS.put;simp only[dB,eV];rw[List.getElem?_set_self hl];rfl
theorem vn {w:AV}(h:d≠t):(st.put (some d) w).get t=st.get t:=by unfold AS.get AS.put;simp only[jC,aF h]
theorem Eh {o:Oper}{i:Nat}(ho:o.op=.extract (.tmp t) i)(hd:o.dst=some d)(hg:o.guard=none):cB E Γ an ops X o st=some s↔ ∃vs g cs,st.get t=.vU vs/\nth vs i=some (g,cs)/\(cs.all AC.gv||an.mv.contains d)=true/\s=(st.put (some t) (.vU (gZ vs i (g,aS 0 cs)))).put (some d) (.val g cs):=by
 unfold cB;simp only[du,ho,hd];constructor;intro h;cases hv:st.get t with|val g cs=>simp only[hv,af,gB,hg,dc,ho,md]at h;cases h|vU vs=>simp only[hv]at h;cases hn:nth vs i with|none=>simp only[hn,af,gB,hg,dc,ho,md,hv]at h;cases h|some x=>obtain⟨g,cs⟩:=x;simp only[hn]at h;cases hf:(cs.all AC.gv||an.mv.contains d)with|false=>rw[hf]at h;cases h|true=>rw[hf]at h;simp only[af,gB,hg,dc,ho,md,hv,hn,hd]at h;cases h;exact⟨vs,g,cs,rfl,hn,hf,rfl⟩
 rintro⟨vs,g,cs,hv,hn,hf,rfl⟩;simp only[hv,hn,hf,af,gB,hg,dc,ho,md,hd]
theorem acU (l:aq α)(i:Nat)(v w:α):gZ (gZ l i v) i w=gZ l i w:=by rw[eV,eV,eV,eo]
theorem ad3 {o p:Oper}(ha:Yh o p=true)(h1:cB E Γ an ops X o st=some s1)(h2:cB E Γ an ops Y p s1=some s2): ∃t1,cB E Γ an ops Y p st=some t1/\cB E Γ an ops X o t1=some s2:=by
 unfold Yh at ha;split at ha;rename_i t i t' j d d' ho hp hd Yp hg na;simp only[ah,bD,aP,cG,ne_eq]at ha;obtain⟨⟨⟨⟨rfl,hij⟩,Tk⟩,hdt⟩,ajf⟩:=ha;obtain⟨vs,g,cs,hv,hn,hf,rfl⟩:=(Eh ho hd hg).1 h1;obtain⟨vs2,g2,GN,MB,C2,H5,rfl⟩:=(Eh hp Yp na).1 h2;have hq:((st.put (some t) (.vU (gZ vs i (g,aS 0 cs)))).put (some d) (.val g cs)).get t=.vU (gZ vs i (g,aS 0 cs)):=by rw[vn hdt,J6 hv (by simp)]
 rw[hq]at MB;cases MB;rw[jC,aF hij]at C2;refine⟨_,(Eh hp Yp na).2 ⟨vs,g2,GN,hv,C2,H5,rfl⟩,(Eh ho hd hg).2 ⟨gZ vs j (g2,aS 0 GN),g,cs,?_,?_,hf,?_⟩⟩;rw[vn ajf,J6 hv (by simp)];rw[jC,aF (cJ hij)];exact hn;have e:=jb vs hij (g,aS 0 cs) (g2,aS 0 GN);have a:∀(A B:AV)(q:Nat)(v:AV),q≠t->gZ (gZ (gZ st.slots t A) q v) t B=gZ (gZ st.slots t B) q v:=λA B q v hq=>by rw[jb _ hq,acU]
 simp only[AS.put,AS.mk.injEq,ij];rw[a _ _ _ _ hdt,a _ _ _ _ ajf,e,jb _ Tk];cases ha
theorem aaI (s:AS)(t:Nat):s.put (some t) (s.get t)=s:=by cases s with|mk slots boxes ep iss io=>simp only[AS.put,AS.mk.injEq,ij];rw[eV];apply cM;intro i;rw[bl];split;rename_i hd;subst hd;simp only[AS.get,dB];split;rename_i gV;rw[al gV];rfl;rename_i BM;rw[bH (Nat.le_of_not_lt BM)];rfl
theorem WN {o:Oper}(hd:o.dst=some d)(hg:o.guard=none)(ho:(o.op=.move (.tmp t)/\an.mv.contains d=false/\an.fm.contains d=true)\/∃i,o.op=.extract (.tmp t) i)(_hdt:d≠t)(h:cB E Γ an ops X o st=some s): ∃tv v,s=(st.put (some t) tv).put (some d) v/\∀st2:AS,st2.get t=st.get t->cB E Γ an ops X o st2=some ((st2.put (some t) tv).put (some d) v):=by
 rcases ho with⟨ho,Gf,NH⟩|⟨i,ho⟩;have Kd:∀st2:AS,st2.get t=st.get t->(st.rd (.tmp t)).lv=true->st2.rd (.tmp t)=st.get t:=by
  intro st2 hq hs;simp only[AS.rd,hq]at hs⊢;cases hv:st.get t with
  |vU vs=>rw[hv]at hs;simp[AV.borrow,AV.lv]at hs
  |val g cs=>
   rw[hv]at hs;simp only[AV.borrow,AV.lv]at hs⊢;congr 1;have key:∀(cs:aq AC)(j:Nat),(iz st.ep (λj=>kv.slot t j) j cs).all AC.lv=true->iz st2.ep (λj=>kv.slot t j) j cs=cs:=by
    intro cs;induction cs with
    |nil=>intro j _;rfl
    |cons c cs ih=>
     intro j h;simp only[iz,bQ,ah]at h⊢;rw[ih (j+1) h.2];congr 1;cases c with
     |sl fl e xs=>cases fl with|fe _ _ ep=>cases ep<;>simp[AC.borrow,AC.lv]at h|_=>simp[AC.borrow,AC.lv]at h
     |_=>rfl
   exact key cs 0 hs
 unfold cB at h;have lH:(st.rd (.tmp t)).lv=true:=by cases hs:(st.rd (.tmp t)).lv with|true=>rfl|false=>simp only[du,ho,Xw,hd,NH,hs]at h;cases h
 refine⟨st.get t,st.get t,?_,λst2 hq=>?_⟩;simp only[du,ho,Xw,hd,NH,lH,Bool.or_true,af,gB,hg,dc,Ew,Gf,aY,cc]at h;cases h;rw[Kd st rfl lH];congr 1;exact(aaI st t).symm;unfold cB;have e1:=Kd st2 hq lH;have Tu:(st2.rd (.tmp t)).lv=true:=by rw[e1,<-Kd st rfl lH];exact lH
 simp only[du,ho,Xw,hd,NH,Tu,Bool.or_true,af,gB,hg,dc,Ew,Gf,aY,cc];rw[e1,<-hq,aaI];obtain⟨vs,g,cs,hv,hn,hf,rfl⟩:=(Eh ho hd hg).1 h;refine⟨_,_,rfl,λst2 hq=>(Eh ho hd hg).2 ⟨vs,g,cs,by rw[hq,hv],hn,hf,rfl⟩⟩
theorem ago {p:Oper}{q x:Nat}(hp:p.op=.store T (.tmp q) (.tmp x))(hd:p.dst=none)(hg:p.guard=none)(Tl:(an.eb q).isSome=true)(hes:(an.es q).isNone=true)(hsb:(an.sb q).isNone=true)(hl:Ci an p=false)(h:cB E Γ an ops Y p st=some s): ∃B,s=⟨gZ st.slots x ((st.get x).aS st.ep),B,st.ep+1,st.iss,st.io⟩/\ ∀st2:AS,st2.get q=st.get q->st2.get x=st.get x->st2.boxes=st.boxes->st2.ep=st.ep->st2.iss=st.iss->st2.io=st.io-> cB E Γ an ops Y p st2=some ⟨gZ st2.slots x ((st.get x).aS st.ep),B,st.ep+1,st.iss,st.io⟩:=by
 have gn:∀st2:AS,st2.get q=st.get q->st2.ep=st.ep->du E an Y p st2=du E an Y p st:=by intro st2 h1 h2;simp only[du,hp,AS.rd,h1,h2]
 unfold cB at h;cases hf:du E an Y p st with
 |false=>rw[hf]at h;cases h
 |true=>
  rw[hf]at h;simp only[af,gB,hg,dc,hp,hd,hl,aY,cc]at h;have gP:=hf;simp only[du,hp]at gP;have Jv:((an.sb q).isNone&&(an.eb q).isNone&&(an.es q).isNone)=false:=by cases he:an.eb q with|none=>rw[he]at Tl;cases Tl|some _=>simp
  rw[Jv,cL]at gP;unfold yy at h;split at h;rename_i Kd;rw[Kd]at gP;simp only[ah,bD]at gP;rw[gP.2]at hsb;cases hsb;rename_i sh Ol r tg e y i off hT Kd;rw[Kd]at gP;cases r with
  |slot _ _=>simp only[ah,bD]at gP;rw[gP.1.1]at hes;cases hes
  |io _=>simp at gP
  |box b j=>
   split at h;rename_i gg vs st1 tF;have e1:(st.get x)=.val gg vs:=by have:=congrArg Prod.fst tF;exact this
   have e2:st1=⟨gZ st.slots x ((st.get x).aS st.ep),st.boxes,st.ep,st.iss,st.io⟩:=by have:=congrArg Prod.snd tF;exact this.symm
   split at h;rename_i hlen;have main:∃B,∀sl:aq AV,(⟨sl,st.boxes,st.ep,st.iss,st.io⟩:AS).pG (.box b j) tg e i off vs some=some ⟨sl,B,st.ep+1,st.iss,st.io⟩:=by
    subst e2;simp only[AS.pG,AS.eM,AS.eU,AS.eG]at h⊢;cases hb:(nth st.boxes b).getD none with
    |none=>rw[hb]at h;simp at h
    |some cs=>
     rw[hb]at h;simp only[eC]at h⊢;split at h;rename_i t' e' xs hn;split at h;rename_i he;simp only[dif_pos he];generalize (he▸xs:aq e.D)=zs at h⊢;split at h;rename_i ht;simp only[aG ht];cases hi:idx zs i with|none=>rw[hi]at h;simp[aa]at h|some y0=>simp only[hi,aa]at h⊢;split at h;exact⟨_,λsl=>rfl⟩;cases h
     cases h;cases h;rename_i t' i' q0 e' xs hn;split at h;rename_i he;simp only[dif_pos he];generalize (he▸xs:aq e.D)=zs at h⊢;split at h;rename_i ht;simp only[aG ht];cases hi:abG zs i' i with|none=>rw[hi]at h;simp[aa]at h|some y0=>simp only[hi,aa]at h⊢;split at h;exact⟨_,λsl=>rfl⟩;cases h
     cases h;cases h;cases h
   obtain⟨B,hB⟩:=main;refine⟨B,?_,λst2 h1 h2 h3 h4 h5 h6=>?_⟩;subst e2;rw[hB]at h;exact(cE h).symm;unfold cB;rw[gn st2 h1 h4,hf];have r2:st2.rd (.tmp q)=st.rd (.tmp q):=by simp only[AS.rd,h1,h4]
   have t2:st2.take (.tmp x)=(.val gg vs,⟨gZ st2.slots x ((st.get x).aS st.ep),st.boxes,st.ep,st.iss,st.io⟩):=by simp only[AS.take,AS.put,h2,h3,h4,h5,h6,e1]
   simp only[af,gB,hg,dc,hp,hd,hl,aY,cc,yy,hT,r2,Kd,t2];rw[aG hlen];exact hB _;cases h;cases h
  cases h
theorem adQ {p:Oper}{q x:Nat}(hp:p.op=.store T (.tmp q) (.tmp x))(hd:p.dst=none)(hg:p.guard=none){b:Nat}(hes:an.es q=some b)(Tl:(an.eb q).isNone=true)(jE:b≠x)(hsb:(an.sb q).isNone=true)(hl:Ci an p=false)(h:cB E Γ an ops Y p st=some s): ∃B,s=⟨gZ (gZ st.slots x ((st.get x).aS st.ep)) b B,st.boxes,st.ep+1,st.iss,st.io⟩/\ ∀st2:AS,st2.get q=st.get q->st2.get x=st.get x->nth st2.slots b=nth st.slots b->st2.boxes=st.boxes->st2.ep=st.ep->st2.iss=st.iss->st2.io=st.io-> cB E Γ an ops Y p st2=some ⟨gZ (gZ st2.slots x ((st.get x).aS st.ep)) b B,st.boxes,st.ep+1,st.iss,st.io⟩:=by
 have gn:∀st2:AS,st2.get q=st.get q->st2.ep=st.ep->du E an Y p st2=du E an Y p st:=by intro st2 h1 h2;simp only[du,hp,AS.rd,h1,h2]
 unfold cB at h;cases hf:du E an Y p st with
 |false=>rw[hf]at h;cases h
 |true=>
  rw[hf]at h;simp only[af,gB,hg,dc,hp,hd,hl,aY,cc]at h;have gP:=hf;simp only[du,hp]at gP;have Jv:((an.sb q).isNone&&(an.eb q).isNone&&(an.es q).isNone)=false:=by rw[hes];simp
  rw[Jv,cL]at gP;unfold yy at h;split at h;rename_i Kd;rw[Kd]at gP;simp only[ah,bD]at gP;rw[gP.2]at hsb;cases hsb;rename_i sh Ol r tg e y i off hT Kd;rw[Kd]at gP;cases r with
  |box _ _=>simp only[ah,bD]at gP;rw[gP.1.1]at Tl;cases Tl
  |io _=>simp at gP
  |slot b' j=>
   simp only[ah,bD]at gP;have Ym:b'=b:=cE (gP.1.1.symm.trans hes);subst Ym;split at h;rename_i gg vs st1 tF;have e1:(st.get x)=.val gg vs:=by have:=congrArg Prod.fst tF;exact this
   have e2:st1=⟨gZ st.slots x ((st.get x).aS st.ep),st.boxes,st.ep,st.iss,st.io⟩:=by have:=congrArg Prod.snd tF;exact this.symm
   split at h;rename_i hlen;have main:∃B,∀sl:aq AV,nth sl b'=nth st.slots b'->(⟨sl,st.boxes,st.ep,st.iss,st.io⟩:AS).pG (.slot b' j) tg e i off vs some=some ⟨gZ sl b' B,st.boxes,st.ep+1,st.iss,st.io⟩:=by
    subst e2;have gX:∀sl:aq AV,nth sl b'=nth st.slots b'->(⟨sl,st.boxes,st.ep,st.iss,st.io⟩:AS).get b'=st.get b':=λsl hq=>by unfold AS.get;rw[hq]
    have hq0:nth (gZ st.slots x ((st.get x).aS st.ep)) b'=nth st.slots b':=by rw[jC,aF (cJ jE)]
    simp only[AS.pG,AS.eM,AS.eU,gX _ hq0]at h;cases hb:st.get b' with
    |vU _=>rw[hb]at h;simp at h
    |val g0 cs=>
     rw[hb]at h;simp only at h;split at h;rename_i t' e' xs hn;split at h;rename_i he;split at h;rename_i ht;cases hi:idx (he▸xs:aq e.D) i with|none=>rw[hi]at h;simp[aa]at h|some y0=>simp only[hi,aa]at h;split at h;rename_i x' AR;refine⟨.val g0 (gZ cs j (.sl (.own (some t')) e ((he▸xs:aq e.D).set i.toNat x'))),λsl hq=>?_⟩;simp only[AS.pG,AS.eM,AS.eU,gX _ hq,hb,hn,dif_pos he,aG ht,hi,aa,AR,AS.put];cases h
     cases h;cases h;rename_i t' i' q0 e' xs hn;split at h;rename_i he;split at h;rename_i ht;cases hi:abG (he▸xs:aq e.D) i' i with|none=>rw[hi]at h;simp[aa]at h|some y0=>simp only[hi,aa]at h;split at h;rename_i x' AR;refine⟨.val g0 (gZ cs j (.sl (.own (some t')) e ((he▸xs:aq e.D).set i.toNat x'))),λsl hq=>?_⟩;simp only[AS.pG,AS.eM,AS.eU,gX _ hq,hb,hn,dif_pos he,aG ht,hi,aa,AR,AS.put];cases h
     cases h;cases h;cases h
   obtain⟨B,hB⟩:=main;refine⟨B,?_,λst2 h1 h2 ti h3 h4 h5 h6=>?_⟩;subst e2;rw[hB _ (by rw[jC,aF (cJ jE)])]at h;exact(cE h).symm;unfold cB;rw[gn st2 h1 h4,hf];have r2:st2.rd (.tmp q)=st.rd (.tmp q):=by simp only[AS.rd,h1,h4]
   have t2:st2.take (.tmp x)=(.val gg vs,⟨gZ st2.slots x ((st.get x).aS st.ep),st.boxes,st.ep,st.iss,st.io⟩):=by simp only[AS.take,AS.put,h2,h3,h4,h5,h6,e1]
   simp only[af,gB,hg,dc,hp,hd,hl,aY,cc,yy,hT,r2,Kd,t2];rw[aG hlen];exact hB _ (by rw[jC,aF (cJ jE)];exact ti);cases h;cases h
  cases h
theorem agn {o p:Oper}(ha:X8 an o p=true)(h1:cB E Γ an ops X o st=some s1)(h2:cB E Γ an ops Y p s1=some s2): ∃t1,cB E Γ an ops Y p st=some t1/\cB E Γ an ops X o t1=some s2:=by
 unfold X8 at ha;split at ha;rename_i T q x hp hpd hpg;simp only[ah,aP]at ha;obtain⟨⟨⟨Tl,hsb⟩,hl⟩,ha⟩:=ha;have ajd:∃d t,o.dst=some d/\o.guard=none/\((o.op=.move (.tmp t)/\an.mv.contains d=false/\an.fm.contains d=true)\/∃i,o.op=.extract (.tmp t) i)/\d≠q/\d≠x/\t≠x/\d≠t/\t≠q:=by split at ha;rename_i t d ho hd hg;simp only[ah,aP,cG]at ha;exact⟨d,t,hd,hg,.inl ⟨ho,ha.1.1.1.1.1.1,ha.1.1.1.1.1.2⟩,ha.1.1.1.1.2,ha.1.1.1.2,ha.1.1.2,ha.2,ha.1.2⟩;rename_i t i d ho hd hg;simp only[ah,aP,cG]at ha;exact⟨d,t,hd,hg,.inr ⟨i,ho⟩,ha.1.1.1.1,ha.1.1.1.2,ha.1.1.2,ha.2,ha.1.2⟩;cases ha
 obtain⟨d,t,hd,hg,ho,hdq,hdx,htx,hdt,htq⟩:=ajd;obtain⟨tv,v,rfl,dJ⟩:=WN hd hg ho hdt h1;have hq:((st.put (some t) tv).put (some d) v).get q=st.get q:=by rw[vn hdq];exact vn htq
 have hx:((st.put (some t) tv).put (some d) v).get x=st.get x:=by rw[vn hdx,vn htx]
 simp only[df,ah]at Tl;rcases Tl with⟨Tl,hes⟩|hes;obtain⟨B,rfl,hgo⟩:=ago hp hpd hpg Tl hes hsb hl h2;have k1:=hgo st hq.symm hx.symm rfl rfl rfl rfl;refine⟨_,k1,?_⟩;have Ju:(⟨gZ st.slots x ((((st.put (some t) tv).put (some d) v).get x).aS ((st.put (some t) tv).put (some d) v).ep),B,((st.put (some t) tv).put (some d) v).ep+1,((st.put (some t) tv).put (some d) v).iss,((st.put (some t) tv).put (some d) v).io⟩:AS).get t=st.get t:=by simp only[AS.get,jC,aF (cJ htx)]
 rw[dJ _ Ju];simp only[AS.put,aZ,AS.mk.injEq,ij];rw[jb _ (cJ htx),jb _ (cJ hdx)];cases hb:an.es q with
 |none=>rw[hb]at hes;cases hes
 |some b=>
  rw[hb]at hes;simp only[ah,aP,cG]at hes;obtain⟨⟨⟨Tl,jE⟩,_⟩,hbw⟩:=hes;have hbw:=mu hbw b (by simp);have hbd:b≠d:=λe=>hbw (by simp[hd,e]);have hbt:b≠t:=λe=>hbw (by refine az.2 (.inr ?_);rcases ho with⟨ho,_⟩|⟨i,ho⟩<;>simp[dw,ho,tm,e]);obtain⟨B,rfl,hgo⟩:=adQ hp hpd hpg hb Tl jE hsb hl h2;have ti:nth st.slots b=nth ((st.put (some t) tv).put (some d) v).slots b:=by simp only[AS.put,jC,aF (cJ hbd),aF (cJ hbt)]
  have k1:=hgo st hq.symm hx.symm ti rfl rfl rfl rfl;refine⟨_,k1,?_⟩;have Ju:(⟨gZ (gZ st.slots x ((((st.put (some t) tv).put (some d) v).get x).aS ((st.put (some t) tv).put (some d) v).ep)) b B,((st.put (some t) tv).put (some d) v).boxes,((st.put (some t) tv).put (some d) v).ep+1,((st.put (some t) tv).put (some d) v).iss,((st.put (some t) tv).put (some d) v).io⟩:AS).get t=st.get t:=by simp only[AS.get,jC,aF (cJ htx),aF hbt]
  rw[dJ _ Ju];simp only[AS.put,aZ,AS.mk.injEq,ij];rw[jb _ hbt,jb _ hbd,jb _ (cJ htx),jb _ (cJ hdx)]
 cases ha
theorem Uu {c:AC}(h:c.lv=true\/(c.borrow ep none).lv=true):c.borrow ep none=c:=by
 cases c with
 |sl fl e xs=>exfalso;cases fl with|fe _ _ ep=>cases ep<;>simp[AC.borrow,AC.lv]at h|_=>simp[AC.borrow,AC.lv]at h
 |_=>rfl
theorem PZ {cs:aq AC}{n:Nat}(gI:off+n<=cs.length)(k:Nat):(db cs off (aS ep ((cs.drop off).take n)))[k]?=(cs[k]?).map λc=>if off<=k/\k<off+n then c.borrow ep none else c:=by
 have hl:(aS ep ((cs.drop off).take n)).length=n:=by simp[aS];omega
 unfold db;rw[hl];by_cases h1:k<off;rw[aN,bw (by simp;omega),eD h1];have:(λc:AC=>if off<=k/\k<off+n then c.borrow ep none else c)=id:=by funext c;rw[mI];rfl
 rw[this,Option.map_id];rfl;by_cases h2:k<off+n;rw[bw (by simp[hl];omega),bq (by simp;omega)];have e:k-(cs.take off).length=k-off:=by simp;omega
 rw[e,aS,List.getElem?_map,eD (by omega),bJ,show off+(k-off)=k by omega];congr 1;funext c;rw[zip];rw[bq (by simp[hl];omega)];have e:k-(cs.take off++aS ep ((cs.drop off).take n)).length=k-(off+n):=by simp[hl];omega
 rw[e,bJ,show off+n+(k-(off+n))=k by omega];have:(λc:AC=>if off<=k/\k<off+n then c.borrow ep none else c)=id:=by funext c;rw[mI];rfl
 rw[this,Option.map_id];rfl
theorem K5 {cs:aq AC}{n o2 n2:Nat}(gI:off+n<=cs.length)(h:((cs.drop o2).take n2).all AC.lv=true\/(((db cs off (aS ep ((cs.drop off).take n))).drop o2).take n2).all AC.lv=true): ((db cs off (aS ep ((cs.drop off).take n))).drop o2).take n2=(cs.drop o2).take n2:=by
 apply cM;intro k;by_cases hk:k<n2;rw[eD hk,eD hk,bJ,bJ,PZ gI];cases hc:cs[o2+k]? with|none=>rfl|some c=>simp only[dg];split;rename_i uw;refine congrArg some (Uu ?_);rcases h with h|h;left;refine aW.1 h c (cU (i:=k) ?_);rw[eD hk,bJ,hc];right;refine aW.1 h _ (cU (i:=k) ?_);rw[eD hk,bJ,PZ gI,hc,dg,aG uw];rfl
 rw[bH (by simp;omega),bH (by simp;omega)]
theorem Mi {b:Nat}:∀{cs:aq AC}{j:Nat},cs.all AC.lv=true->iz ep (.box b) j cs=cs
 |[],_,_=>rfl
 |c::cs,j,h=>by simp only[bQ,ah]at h;rw[iz,Mi h.2];congr 1;cases c<;>first|rfl|(simp[AC.lv]at h)
theorem P9 {o:Oper}(h:D5 an o=true):∃T q d,o.op=.load T (.tmp q)/\o.dst=some d/\o.guard=none/\an.mv.contains d=true/\(an.mb d).isSome=true:=by unfold D5 at h;split at h;rename_i T q d ho hd hg;simp only[ah]at h;exact⟨T,q,d,ho,hd,hg,h.1,h.2⟩;cases h
theorem OA {o:Oper}(h:Oz an o=true):∃T q d,o.op=.load T (.tmp q)/\o.dst=some d/\o.guard=none/\an.mv.contains d=false/\an.fm.contains d=true:=by unfold Oz at h;split at h;rename_i T q d ho hd hg;simp only[ah,aP]at h;exact⟨T,q,d,ho,hd,hg,h.1,h.2⟩;cases h
theorem Iw {o:Oper}{q:Nat}(ht:D5 an o=true)(ho:o.op=.load T (.tmp q))(hd:o.dst=some d)(hg:o.guard=none)(Gf:an.mv.contains d=true):cB E Γ an ops X o st=some s↔ ∃sh b off cs,iV E.ty T=some sh/\st.rd (.tmp q)=.val false [.ptr b off]/\(nth st.boxes b).getD none=some cs/\off+sh.ct.size<=cs.length/\X.contains b=false/\an.mb d=some b/\(Xw an o=true->G4 E T st b off=true)/\ s=(st.eG b (some (db cs off (aS st.ep ((cs.drop off).take sh.ct.size))))).put (some d) (.val sh.agg ((cs.drop off).take sh.ct.size)):=by
 have key:du E an X o st=true->∀r,dc E Γ an o st some=some r->∃b off,st.rd (.tmp q)=.val false [.ptr b off]:=by intro hf r hr;simp only[dc,ho,py]at hr;split at hr;rename_i hp;exact⟨_,_,hp⟩;rename_i hp;simp only[du,ho,hp,ht,Bool.or_true,ai,jI,gO]at hf;cases hf;cases hr
 unfold cB;constructor;intro h;cases hf:du E an X o st with|false=>rw[hf]at h;cases h|true=>rw[hf]at h;simp only[af,gB,hg]at h;obtain⟨b,off,hp⟩:=key hf s h;simp only[du,ho,hp,hd,Gf,ai,cL,ah,aP,bD,df]at hf;simp only[dc,ho,py,hp]at h;cases hT:iV E.ty T with|none=>rw[hT]at h;cases h|some sh=>rw[hT]at h;simp only at h;cases hb:(nth st.boxes b).getD none with|none=>rw[hb]at h;cases h|some cs=>rw[hb]at h;simp only at h;split at h;rename_i gI;simp only[hd,Gf,bL]at h;cases h;refine⟨sh,b,off,cs,rfl,hp,hb,gI,hf.1.1,hf.1.2,λhm=>?_,rfl⟩;rcases hf.2 with g|g;rw[hm]at g;cases g;exact g;cases h
 rintro⟨sh,b,off,cs,hT,hp,hb,gI,hX,XB,NH,rfl⟩;have hf:du E an X o st=true:=by simp only[du,ho,hp,hd,Gf,hX,XB,ai,cL,ah,aP,bD,df];refine⟨⟨bN,bN⟩,?_⟩;cases hm:Xw an o with|false=>exact .inl rfl|true=>exact .inr (NH hm)
 rw[hf];simp only[af,gB,hg,dc,ho,py,hp,hT,hb,aG gI,hd,Gf,bL]
theorem HZ {o:Oper}{q:Nat}(ho:o.op=.load T (.tmp q))(hd:o.dst=some d)(hg:o.guard=none)(Gf:an.mv.contains d=false)(NH:an.fm.contains d=true):cB E Γ an ops X o st=some s↔ ∃sh b off cs,iV E.ty T=some sh/\st.rd (.tmp q)=.val false [.ptr b off]/\(nth st.boxes b).getD none=some cs/\off+sh.ct.size<=cs.length/\X.contains b=false/\((cs.drop off).take sh.ct.size).all AC.lv=true/\ s=st.put (some d) (.val sh.agg ((cs.drop off).take sh.ct.size)):=by
 have hfb:Xw an o=true:=by simp only[Xw,hd,NH]
 have key:du E an X o st=true->∀r,dc E Γ an o st some=some r->∃b off,st.rd (.tmp q)=.val false [.ptr b off]:=by intro hf r hr;simp only[dc,ho,py]at hr;split at hr;rename_i hp;exact⟨_,_,hp⟩;rename_i hp;simp only[du,ho,hp,hfb,jU,ai,jI,gO]at hf;cases hf;cases hr
 unfold cB;constructor;intro h;cases hf:du E an X o st with
 |false=>rw[hf]at h;cases h
 |true=>
  rw[hf]at h;simp only[af,gB,hg]at h;obtain⟨b,off,hp⟩:=key hf s h;simp only[du,ho,hp,hd,Gf,hfb,ai,cf,jU,cL,ig,ah,aP]at hf;simp only[dc,ho,py,hp]at h;cases hT:iV E.ty T with
  |none=>rw[hT]at h;cases h
  |some sh=>
   rw[hT]at h;simp only at h;cases hb:(nth st.boxes b).getD none with
   |none=>rw[hb]at h;cases h
   |some cs=>
    rw[hb]at h;simp only at h;split at h;rename_i gI;have lH:((cs.drop off).take sh.ct.size).all AC.lv=true:=by have:=hf.2;unfold G4 at this;rw[hT,hb]at this;exact this
    simp only[hd,Gf,aY,cc,Mi lH]at h;cases h;exact⟨sh,b,off,cs,rfl,hp,hb,gI,hf.1,lH,rfl⟩;cases h
 rintro⟨sh,b,off,cs,hT,hp,hb,gI,hX,lH,rfl⟩;have hf:du E an X o st=true:=by simp only[du,ho,hp,hd,Gf,hX,hfb,G4,hT,hb,lH];rfl
 rw[hf];simp only[af,gB,hg,dc,ho,py,hp,hT,hb,aG gI,hd,Gf,aY,cc,Mi lH]
theorem Sj {q:Nat}{v:AV}(h:d≠q):(st.put (some d) v).rd (.tmp q)=st.rd (.tmp q):=by simp only[AS.rd,vn h];rfl
theorem afu {q b:Nat}{cs:au (aq AC)}:(st.eG b cs).rd (.tmp q)=st.rd (.tmp q):=rfl
theorem XW {b:Nat}{cs x:aq AC}(h:(nth st.boxes b).getD none=some cs):(nth (gZ st.boxes b (some x)) b).getD none=some x:=by
 rw[jC,aG rfl];cases hn:nth st.boxes b with
 |none=>rw[hn]at h;cases h
 |some _=>
  have:b<st.boxes.length:=by rw[dB]at hn;exact(aD.1 hn).1
  rw[aG this];rfl
theorem XX {b b2:Nat}{x:aq AC}(h:b≠b2):nth (gZ st.boxes b (some x)) b2=nth st.boxes b2:=by rw[jC,aF h]
theorem agU {o p:Oper}(ha:YZ an o p=true)(h1:cB E Γ an ops X o st=some s1)(h2:cB E Γ an ops Y p s1=some s2): ∃t1,cB E Γ an ops Y p st=some t1/\cB E Γ an ops X o t1=some s2:=by
 simp only[YZ,ah,df,aP]at ha;obtain⟨⟨ha,m1⟩,m2⟩:=ha;have m1:=mu m1;have m2:=mu m2;rcases ha with⟨ht,hf⟩|⟨hf,ht⟩;obtain⟨T,q,d,ho,hd,hg,Gf,XB⟩:=P9 ht;obtain⟨T2,q2,d2,hp,Xz,Ju,VE,abA⟩:=OA hf;have n1:d≠d2:=λe=>m1 d (by simp[hd]) (by simp[Xz,e]);have n2:d≠q2:=λe=>m1 d (by simp[hd]) (by simp[dw,hp,tm,e]);have n3:d2≠q:=λe=>m2 d2 (by simp[Xz]) (by simp[dw,ho,tm,e]);obtain⟨sh,b,off,cs,hT,hr,hb,gI,hX,aio,NH,rfl⟩:=(Iw ht ho hd hg Gf).1 h1;obtain⟨sh2,b2,QX,GN,hT2,QH,GG,aap,hX2,Tu,rfl⟩:=(HZ hp Xz Ju VE abA).1 h2;rw[Sj n2,afu]at QH;have jE:(nth (gZ st.boxes b (some (db cs off (aS st.ep ((cs.drop off).take sh.ct.size))))) b2).getD none=some GN:=GG;have lG:∃Qr,(nth st.boxes b2).getD none=some Qr/\QX+sh2.ct.size<=Qr.length/\(GN.drop QX).take sh2.ct.size=(Qr.drop QX).take sh2.ct.size:=by
  by_cases Ym:b=b2;subst Ym;rw[XW hb]at jE;cases jE;have hlen:(db cs off (aS st.ep ((cs.drop off).take sh.ct.size))).length=cs.length:=by simp only[db,aS,aw,cr,bm,bj];omega
  exact⟨cs,hb,by omega,K5 gI (.inr Tu)⟩;rw[XX Ym]at jE;exact⟨GN,jE,aap,rfl⟩
 obtain⟨Qr,UJ,VA,he⟩:=lG;rw[he]at Tu⊢;refine⟨_,(HZ hp Xz Ju VE abA).2 ⟨sh2,b2,QX,Qr,hT2,QH,UJ,VA,hX2,Tu,rfl⟩,(Iw ht ho hd hg Gf).2 ⟨sh,b,off,cs,hT,by rw[Sj n3];exact hr,hb,gI,hX,aio,λhm=>?_,?_⟩⟩;have:=NH hm;unfold G4 at this⊢;exact this;simp only[AS.put,AS.eG,AS.mk.injEq,ij];exact jb _ n1 _ _;obtain⟨T,q,d,ho,hd,hg,Gf,NH⟩:=OA hf;obtain⟨T2,q2,d2,hp,Xz,Ju,VE,ain⟩:=P9 ht;have n1:d≠d2:=λe=>m1 d (by simp[hd]) (by simp[Xz,e]);have n2:d≠q2:=λe=>m1 d (by simp[hd]) (by simp[dw,hp,tm,e]);have n3:d2≠q:=λe=>m2 d2 (by simp[Xz]) (by simp[dw,ho,tm,e]);obtain⟨sh,b,off,cs,hT,hr,hb,gI,hX,lH,rfl⟩:=(HZ ho hd hg Gf NH).1 h1;obtain⟨sh2,b2,QX,GN,hT2,QH,GG,aap,hX2,aio,abA,rfl⟩:=(Iw ht hp Xz Ju VE).1 h2;rw[Sj n2]at QH;refine⟨_,(Iw ht hp Xz Ju VE).2 ⟨sh2,b2,QX,GN,hT2,QH,GG,aap,hX2,aio,λhm=>abA hm,rfl⟩,?_⟩;have lG:∃Qr,(nth (gZ st.boxes b2 (some (db GN QX (aS st.ep ((GN.drop QX).take sh2.ct.size))))) b).getD none=some Qr/\off+sh.ct.size<=Qr.length/\(Qr.drop off).take sh.ct.size=(cs.drop off).take sh.ct.size:=by
  by_cases Ym:b2=b;subst Ym;have LA:GN=cs:=cE (GG.symm.trans hb);subst LA;have hlen:(db GN QX (aS st.ep ((GN.drop QX).take sh2.ct.size))).length=GN.length:=by simp only[db,aS,aw,cr,bm,bj];omega
  exact⟨_,XW hb,by omega,K5 aap (.inl lH)⟩;exact⟨cs,by rw[XX Ym];exact hb,gI,rfl⟩
 obtain⟨Qr,UJ,VA,he⟩:=lG;refine(HZ ho hd hg Gf NH).2 ⟨sh,b,off,Qr,hT,by rw[Sj n3,afu];exact hr,UJ,VA,hX,by rw[he];exact lH,?_⟩;rw[he];simp only[AS.put,AS.eG,AS.mk.injEq,ij];exact jb _ n1 _ _
theorem P8 {o:Oper}{q:Nat}(ht:HJ an o=true)(ho:o.op=.load T (.tmp q))(hd:o.dst=some d)(hg:o.guard=none)(Gf:an.mv.contains d=true)(XB:an.mb d=none):cB E Γ an ops X o st=some s↔ ∃(g:Bool)(e:CT)(jZ:aq (Nat×Nat))(b j t Ol:Nat)(x:e.D)(i:Int)(cs:aq AC)(ys:aq e.D)(y:e.D),iV E.ty T=some ⟨g,e,jZ⟩/\st.rd (.tmp q)=.val false [.Da (.loc Ol (some (.box b j,t))) e x i 0]/\(nth st.boxes b).getD none=some cs/\nth cs j=some (.sl (.own (some t)) e ys)/\idx ys i=some y/\ X.contains b=false/\an.eb q=some b/\Xw an o=false/\s=(Lc st b j t e i cs ys).put (some d) (.val g (cellsOf e (.own none) y)):=by rw[<-P7 ht ho hd Gf XB];unfold cB;cases du E an X o st with|false=>simp|true=>simp only[af,gB,hg,dc,ho,true_and]
theorem acL {o:Oper}(h:DE an o=true):∃T q d,o.op=.load T (.tmp q)/\o.dst=some d/\o.guard=none/\an.mv.contains d=false/\Xw an o=false:=by unfold DE at h;split at h;rename_i T q d ho hd hg;simp only[ah,aP]at h;exact⟨T,q,d,ho,hd,hg,h.1.1,by simp only[Xw,hd];exact h.1.2⟩;cases h
theorem Px {o:Oper}{q:Nat}(C3:DE an o=true)(ho:o.op=.load T (.tmp q))(hd:o.dst=some d)(hg:o.guard=none)(Gf:an.mv.contains d=false)(NH:Xw an o=false):cB E Γ an ops X o st=some s↔ ∃sh b off cs,iV E.ty T=some sh/\st.rd (.tmp q)=.val false [.ptr b off]/\(nth st.boxes b).getD none=some cs/\off+sh.ct.size<=cs.length/\X.contains b=false/\ s=st.put (some d) (.val sh.agg (iz st.ep (.box b) off ((cs.drop off).take sh.ct.size))):=by
 unfold cB;constructor;intro h;cases hf:du E an X o st with|false=>rw[hf]at h;cases h|true=>rw[hf]at h;simp only[af,gB,hg,dc,ho]at h;unfold py at h;split at h;rename_i sh b off hT hp;simp only[du,ho,hp,hd,Gf,NH,cf,jU,ig,aP]at hf;split at h;rename_i cs hb;split at h;rename_i gI;simp only[hd,Gf,aY,cc]at h;cases h;exact⟨sh,b,off,cs,hT,hp,hb,gI,hf,rfl⟩;cases h;cases h;rename_i hp;simp only[du,ho,hp,C3,ai,jI,gO]at hf;cases hf;cases h
 rintro⟨sh,b,off,cs,hT,hp,hb,gI,hX,rfl⟩;have hf:du E an X o st=true:=by simp only[du,ho,hp,hd,Gf,hX,NH];rfl
 rw[hf];simp only[af,gB,hg,dc,ho,py,hp,hT,hb,aG gI,hd,Gf,aY,cc]
theorem N7 {b:Nat}:∀(cs:aq AC)(p k:Nat)(c':AC),(∀c,cs[k]?=some c->∀r,c'.borrow ep (some r)=c.borrow ep (some r))->iz ep (.box b) p (cs.set k c')=iz ep (.box b) p cs
 |[],_,_,_,_=>rfl
 |c::cs,p,0,c',h=>by simp only[List.set_cons_zero,iz,h c rfl]
 |c::cs,p,k+1,c',h=>by simp only[List.set_cons_succ,iz];rw[N7 cs (p+1) k c' (λc hc=>h c (by simpa using hc))]
theorem U2 {b j n:Nat}{e:CT}{i:Int}{ys:aq e.D}{cs:aq AC}(hj:nth cs j=some (.sl (.own (some t)) e ys)): iz ep (.box b) off (((gZ cs j (.sl (.fe (some t) i (some ep)) e ys)).drop off).take n)=iz ep (.box b) off ((cs.drop off).take n):=by rw[eV,List.drop_set];split;rfl;rename_i gV;rw[List.take_set];refine N7 _ _ _ _ λc hc r=>?_;by_cases hn:j-off<n;rw[eD hn,bJ,show off+(j-off)=j by omega,<-dB,hj]at hc;cases hc;rfl;rw[bH (by simp;omega)]at hc;cases hc
theorem agi {o p:Oper}(ha:XZ an o p=true)(h1:cB E Γ an ops X o st=some s1)(h2:cB E Γ an ops Y p s1=some s2): ∃t1,cB E Γ an ops Y p st=some t1/\cB E Γ an ops X o t1=some s2:=by
 simp only[XZ,ah,aP]at ha;obtain⟨⟨⟨C3,ht⟩,m1⟩,m2⟩:=ha;have m1:=mu m1;have m2:=mu m2;obtain⟨T,q,d,ho,hd,hg,Gf,NH⟩:=acL C3;obtain⟨T2,q2,d2,hp,Xz,Ju,VE,ain⟩:=SI ht;have n1:d≠d2:=λe=>m1 d (by simp[hd]) (by simp[Xz,e]);have n2:d≠q2:=λe=>m1 d (by simp[hd]) (by simp[dw,hp,tm,e]);have n3:d2≠q:=λe=>m2 d2 (by simp[Xz]) (by simp[dw,ho,tm,e]);obtain⟨sh,b,off,cs,hT,hr,hb,gI,hX,rfl⟩:=(Px C3 ho hd hg Gf NH).1 h1;obtain⟨g,e,jZ,b2,j,t,Ol,x,i,GN,ys,y,hT2,QH,GG,hj,hi,hX2,Tl,abA,rfl⟩:=(P8 ht hp Xz Ju VE ain).1 h2;rw[Sj n2]at QH;have aja:(nth st.boxes b2).getD none=some GN:=GG;refine⟨_,(P8 ht hp Xz Ju VE ain).2 ⟨g,e,jZ,b2,j,t,Ol,x,i,GN,ys,y,hT2,QH,aja,hj,hi,hX2,Tl,abA,rfl⟩,?_⟩;have lG:∃Qr,(nth (gZ st.boxes b2 (some (gZ GN j (.sl (.fe (some t) i (some st.ep)) e ys)))) b).getD none=some Qr/\off+sh.ct.size<=Qr.length/\iz st.ep (.box b) off ((Qr.drop off).take sh.ct.size)=iz st.ep (.box b) off ((cs.drop off).take sh.ct.size):=by by_cases Ym:b2=b;subst Ym;have LA:GN=cs:=cE (aja.symm.trans hb);subst LA;exact⟨_,XW hb,by rw[eV,aH];exact gI,U2 hj⟩;exact⟨cs,by rw[XX Ym];exact hb,gI,rfl⟩
 obtain⟨Qr,UJ,VA,he⟩:=lG;refine(Px C3 ho hd hg Gf NH).2 ⟨sh,b,off,Qr,hT,by rw[Sj n3];exact hr,UJ,VA,hX,?_⟩;show _=((Lc st b2 j t e i GN ys).put (some d2) _).put (some d) (.val sh.agg (iz st.ep (.box b) off ((Qr.drop off).take sh.ct.size)));rw[he];simp only[AS.put,Lc,AS.eG,AS.mk.injEq,ij];exact jb _ n1 _ _
def Q0 (E:Env)(Γ:xV)(an:An)(ops:aq Oper)(X:Nat->dX):dX->AS->au AS
 |[],st=>some st
 |i::r,st=>match nth ops i with
  |some o=>(cB E Γ an ops (X i) o st).bind (Q0 E Γ an ops X r)
  |none=>none
theorem PL (Ap:∀f,(Γ f).io=false/\((Γ f).bx=true->(Γ f).cur=true)/\(Γ f).pr=false){X:Nat->dX}{i:Nat}{oi:Oper}(hi:nth ops i=some oi):∀(pre post:dX)(st r:AS),(∀j∈pre,∀oj,nth ops j=some oj->N1 an ops (X j) (X i) oj oi=true)->
 Q0 E Γ an ops X (pre++i::post) st=some r->Q0 E Γ an ops X (i::(pre++post)) st=some r
 |[],post,st,r,_,h=>h
 |j::pre,post,st,r,ha,h=>by
  simp only[List.cons_append,Q0]at h;cases hj:nth ops j with
  |none=>rw[hj]at h;cases h
  |some oj=>
   rw[hj]at h;simp only at h;obtain⟨s1,h1,h2⟩:=aL.1 h;have h3:=PL Ap hi pre post s1 r (λk hk=>ha k (by simp[hk])) h2;simp only[Q0,hi]at h3;obtain⟨s2,h4,h5⟩:=aL.1 h3;have hap:=ha j (by simp) oj hj;obtain⟨t1,k1,k2⟩:∃t1,cB E Γ an ops (X i) oi st=some t1/\cB E Γ an ops (X j) oj t1=some s2:=by cases hx:afp an oj oi with|false=>rw[N1,hx,cL]at hap;exact ZP Ap hap h1 h4|true=>simp only[afp,df]at hx;rcases hx with((hx|hx)|hx)|hx;exact ad3 hx h1 h4;exact agn hx h1 h4;exact agU hx h1 h4;exact agi hx h1 h4
   simp only[Q0,hi,k1,eC,List.cons_append,hj,k2];exact h5
end Go.Dn
