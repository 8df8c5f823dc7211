import Derived.Test.YtfbhfnniblfpbaaGreatDnUpd
/- Operations that are apart may change places. -/
namespace Go.Dn
variable {E:Env} {Γ:xO} {an:An} {ops:ar Oper}
variable {s s1 s2 st:AS} {d ep off t:Nat} {α:Type} {T:TypeId} {X Y:dV}
def cA (E:Env)(Γ:xO)(an:An)(ops:ar Oper)(X:dV)(o:Oper)(st:AS):aw AS:=
 bif dq E an X o st then gy E Γ an ops o st some else none
structure Sv (an:An) (ops:List Oper) (X:List Nat) (o:Oper) (st st2:AS):Prop where
 base:gP an X o st st2
 gd:∀t∈GR an ops o,st2.get t=st.get t
theorem Wa {b:Bool}(h:st.get d=.val false [.bool b]):st.put (some d) (.one (.bool b))=st:=by cases st with|mk slots boxes ep iss io=>simp only[AS.put,AS.mk.injEq,ig];rw[eV];apply cL;intro i;rw[bk];split;rename_i hd;subst hd;simp only[AS.get,dA]at h;split;rename_i gV;rw[al gV]at h⊢;simp only[fy]at h;rw[h];rename_i BD;rw[bH (Nat.le_of_not_lt BD)];rfl
theorem SX {st2:AS}{s:Nat}(h:nth st2.boxes s=nth st.boxes s):GO E T st2 s off=GO E T st s off:=by unfold GO;rw[h]
theorem Jb {o:Oper}{st2:AS}(ha:gP an X o st st2):dq E an X o st2=dq E an X o st:=by
 unfold dq;split;rename_i ho;rw[ha.rd (λt ht=>by simpa[dv,ho]using ht)];rename_i T p ho;rw[ha.rd (λt ht=>by simp[dv,ho,ht]),ha.ep];rename_i ho;rw[ha.rd (λt ht=>by simp[dv,ho,ht]),ha.ep];rename_i f args ts ho;have hcur:ur an X (erS an o) st2 args.toList=ur an X (erS an o) st args.toList:=by
  have hl:∀x∈args.toList,∀t∈tm x,t∈dv o:=by intro x hx t ht;simp only[dv,ho,az,QS,List.mem_flatMap];exact .inr ⟨x,hx,ht⟩
  generalize args.toList=l at hl;cases l with
  |nil=>rfl
  |cons x xs=>
   have C8:xs.all (KA (erS an o) st2)=xs.all (KA (erS an o) st):=by
    rw[fi];simp only[aW];have e:∀y∈xs,KA (erS an o) st2 y=KA (erS an o) st y:=by intro y hy;cases y with|tmp t=>have hg:=ha.get t (hl (.tmp t) (by simp[hy]) t (by simp[tm]));simp only[KA,hg]|const v=>rfl|func v=>rfl|global v=>rfl
    exact⟨λg y hy=>by rw[<-e y hy];exact g y hy,λg y hy=>by rw[e y hy];exact g y hy⟩
   have hr:=ha.rd (hl x (by simp));cases x with
   |tmp q=>
    simp only[ur,hr];generalize st.rd (.tmp q)=v;unfold adw;rw[C8];split;rename_i s off;cases hX:X.contains s with|true=>simp|false=>rw[ha.box s hX]
    rfl
   |const v=>simp only[ur,hr]
   |func v=>simp only[ur,hr]
   |global v=>simp only[ur,hr]
 rw[hcur];congr 1;rw[fi];simp only[aW];constructor;intro hx x hm;have:=hx x hm;rwa[ha.rd (λt ht=>by simp only[dv,ho,az,QS,List.mem_flatMap];exact .inr ⟨x,hm,ht⟩),ha.ep]at this;intro hx x hm;rw[ha.rd (λt ht=>by simp only[dv,ho,az,QS,List.mem_flatMap];exact .inr ⟨x,hm,ht⟩),ha.ep];exact hx x hm;rename_i ho;rw[ha.rd (λt ht=>by simpa[dv,ho]using ht),ha.ep];split;rename_i s off _;cases hX:X.contains s with|true=>rfl|false=>rw[SX (ha.box s hX)]
 rfl;rfl;rename_i ho;rw[ha.rd (λt ht=>by simp only[dv,ho,az];exact .inl ht)];rename_i ho;rw[ha.get _ (by simp[dv,ho])];rfl
theorem ME (Ag:∀f,(Γ f).io=false/\((Γ f).bx=true->(Γ f).cur=true)/\(Γ f).pr=false){o:Oper}{st':AS}(hm:nP an o=true)(h:cA E Γ an ops X o st=some st'): ∃u:K2,u.IY an o/\st'=u.apply st/\∀st2,Sv an ops X o st st2->cA E Γ an ops X o st2=some (u.apply st2):=by
 unfold cA at h;cases hf:dq E an X o st with
 |false=>rw[hf]at h;cases h
 |true=>
  rw[hf]at h;simp only[af]at h;unfold gy at h;split at h;rename_i hg;obtain⟨u,h1,h2,h3⟩:=PE (X:=X) Ag hm hf h;refine⟨u,h1,h2,λst2 ha=>?_⟩;unfold cA;rw[Jb ha.base,hf];simp only[af,gy,hg];exact h3 st2 ha.base;rename_i j JA hg;split at h;rename_i d hd;have uu:d∈GR an ops o:=by simp[GR,hg,hd]
  split at h;rename_i b hb;have hgo:(if(b==JA)=true then db E Γ an o st some else some (st.put o.dst (.one .un)))=some st':=by cases b<;>simpa only[af,ae,Wa hb]using h
  have h2g:∀st2,Sv an ops X o st st2->cA E Γ an ops X o st2=(if(b==JA)=true then db E Γ an o st2 some else some (st2.put o.dst (.one .un))):=by
   intro st2 ha;have Gu:st2.get d=.val false [.bool b]:=by rw[ha.gd d uu];exact hb
   unfold cA;rw[Jb ha.base,hf];simp only[af,gy,hg,hd,Gu];cases b<;>simp only[af,ae,Wa Gu]
  split at hgo;rename_i hw;obtain⟨u,h1,h2,h3⟩:=PE (X:=X) Ag hm hf hgo;exact⟨u,h1,h2,λst2 ha=>by rw[h2g st2 ha,aG hw];exact h3 st2 ha.base⟩;rename_i hw;cases hgo;exact⟨FR o (.one .un),DU _,by rw[sZ],λst2 ha=>by rw[h2g st2 ha,aF hw,sZ]⟩;rename_i hb;cases h;refine⟨FR o (.one .un),DU _,by rw[sZ],λst2 ha=>?_⟩;have Gu:st2.get d=.val false [.un]:=by rw[ha.gd d uu];exact hb
  unfold cA;rw[Jb ha.base,hf,sZ];simp only[af,gy,hg,hd,Gu];cases h;cases h
theorem iZ (l:ar α){i j:Nat}(h:i≠j)(v w:α):gZ (gZ l i v) j w=gZ (gZ l j w) i v:=by rw[eV,eV,eV,eV,List.set_comm _ _ h]
theorem YZ (l:ar AV)(a:ar (Nat×AV)){i:Nat}(v:AV)(h:∀x∈a,x.1≠i):jW (gZ l i v) a=gZ (jW l a) i v:=by induction a generalizing l with|nil=>rfl|cons x a ih=>simp only[jW];rw[iZ _ (cG (h x (by simp))),ih _ (λy hy=>h y (by simp[hy]))]
theorem V7 (l:ar AV)(a b:ar (Nat×AV))(h:∀x∈a,∀y∈b,x.1≠y.1):jW (jW l a) b=jW (jW l b) a:=by induction b generalizing l with|nil=>rfl|cons y b ih=>simp only[jW];rw[<-YZ l a y.2 (λx hx=>h x hx y (by simp)),ih _ (λx hx z hz=>h x hx z (by simp[hz]))]
theorem QF (l:ar AV)(a:ar (Nat×AV))(h:∀x∈a,x.1≠t):nth (jW l a) t=nth l t:=by induction a generalizing l with|nil=>rfl|cons x a ih=>rw[jW,ih _ (λy hy=>h y (by simp[hy])),jx,aF (h x (by simp))]
theorem mq {a b:dV}(h:meets a b=false):∀x∈a,x∉b:=by intro x hx hb;unfold meets at h;rw[List.any_eq_false]at h;exact h x hx (by simpa using hb)
theorem K2.adn {u:K2}{o p:Oper}(hw:u.IY an o)(h1:∀x∈writes an o,x∉dv p++GR an ops p++writes an p)(h2:∀d∈Hu an o,Y.contains d=true)(h3:∀d∈Hu an o,p.dst≠some d): Sv an ops Y p (u.apply st) st/\Sv an ops Y p st (u.apply st):=by
 have gX:∀t,t∈dv p++GR an ops p++writes an p->(u.apply st).get t=st.get t:=by intro t ht;unfold AS.get;have:nth (u.apply st).slots t=nth st.slots t:=QF _ _ (λx hx he=>h1 _ (hw.slots x hx) (by rw[he];exact ht));rw[this]
 have abh:∀d,p.dst=some d->nth (u.apply st).iss d=nth st.iss d/\nth (u.apply st).boxes d=nth st.boxes d:=by
  intro d hd;have X1:d∈dv p++GR an ops p++writes an p:=by simp[writes,hd]
  have ET:o.dst≠some d:=λhe=>h1 d (by simp[writes,he]) X1;constructor;unfold K2.apply;cases hi:u.iss with|none=>rfl|some k=>simp only;rw[jx,aF];rintro rfl;exact ET (hw.iss _ hi)
  unfold K2.apply;cases hi:u.box with|none=>rfl|some k=>simp only;rw[jx,aF];intro he;exact h3 _ (hw.box k hi) (by rw[he];exact hd)
 have aiR:∀s,Y.contains s=false->nth (u.apply st).boxes s=nth st.boxes s:=by intro s hs;unfold K2.apply;cases hi:u.box with|none=>rfl|some k=>simp only;rw[jx,aF];rintro rfl;have:=h2 k.1 (hw.box k hi);rw[this]at hs;cases hs
 have hlen:(u.apply st).slots.length=st.slots.length:=Pc _ _;exact⟨⟨⟨hlen.symm,λt ht=>(gX t (by simp[ht])).symm,rfl,λd hd=>⟨((abh d hd).1).symm,((abh d hd).2).symm⟩,λs hs=>(aiR s hs).symm,λt ht=>(gX t (by simp[GR,ht])).symm⟩,λt ht=>(gX t (by simp[ht])).symm⟩,⟨⟨hlen,λt ht=>gX t (by simp[ht]),rfl,abh,aiR,λt ht=>gX t (by simp[GR,ht])⟩,λt ht=>gX t (by simp[ht])⟩⟩
theorem Xr {u v:K2}{o p:Oper}(hu:u.IY an o)(hv:v.IY an p)(h:∀x∈writes an o,x∉writes an p)(hb:∀x∈Hu an o,x∉Hu an p):v.apply (u.apply st)=u.apply (v.apply st):=by
 have S0:∀a b,o.dst=some a->p.dst=some b->a≠b:=λa b ha hb he=>h a (by simp[writes,ha]) (by simp[writes,hb,he]);have hs:=V7 st.slots u.slots v.slots (λx hx y hy he=>h _ (hu.slots x hx) (by rw[he];exact hv.slots y hy));simp only[K2.apply,AS.mk.injEq,true_and,ig];refine⟨hs,?_,?_⟩;cases hub:u.box with|none=>cases v.box<;>rfl|some k=>cases hvb:v.box with|none=>rfl|some l=>exact iZ _ (λhe=>hb _ (hu.box k hub) (by rw[he];exact hv.box l hvb)) _ _
 cases hui:u.iss with|none=>cases v.iss<;>rfl|some k=>cases hvi:v.iss with|none=>rfl|some l=>exact iZ _ (S0 _ _ (hu.iss k hui) (hv.iss l hvi)) _ _
theorem Zu (Ag:∀f,(Γ f).io=false/\((Γ f).bx=true->(Γ f).cur=true)/\(Γ f).pr=false){o p:Oper}(ha:Xp an ops X Y o p=true)(h1:cA E Γ an ops X o st=some s1)(h2:cA E Γ an ops Y p s1=some s2): ∃t1,cA E Γ an ops Y p st=some t1/\cA E Γ an ops X o t1=some s2:=by
 simp only[Xp,ah,aP,aW]at ha;obtain⟨⟨⟨⟨⟨⟨⟨mo,mp⟩,w1⟩,w2⟩,b1⟩,b2⟩,b3⟩,b4⟩:=ha;have w1:=mq w1;have w2:=mq w2;have b3:=mq b3;have b4:=mq b4;obtain⟨u,hu,rfl,hu2⟩:=ME Ag mo h1;obtain⟨v,hv,rfl,Mh⟩:=ME Ag mp h2;have ag1:=K2.adn (ops:=ops) (p:=p) (Y:=Y) (st:=st) hu w1 b1 (λd hd he=>b3 d hd (by simp[he]));have hww:∀x∈writes an p,x∉dv o++GR an ops o++writes an o:=by intro x hx hm;rcases az.1 hm with hm|hm;exact w2 x hx hm;exact w1 x hm (by simp[hx])
 have ag2:=K2.adn (ops:=ops) (p:=o) (Y:=X) (st:=st) hv hww b2 (λd hd he=>b4 d hd (by simp[he]));refine⟨v.apply st,Mh st ag1.1,?_⟩;rw[hu2 _ ag2.2,Xr hu hv (λx hx hm=>w1 x hx (by simp[hm])) (λx hx hm=>b3 x hx (by simp[hm]))]
theorem JS {v w:AV}(h:st.get t=v)(hv:v≠ .bot):(st.put (some t) w).get t=w:=by
 unfold AS.get at h;cases hn:nth st.slots t with
 |none=>rw[hn]at h;exact absurd h.symm hv
 |some q=>
  have hl:t<st.slots.length:=by rw[dA]at hn;exact(aD.1 hn).1
  unfold AS.get AS.put;simp only[dA,eV];rw[List.getElem?_set_self hl];rfl
theorem vj {w:AV}(h:d≠t):(st.put (some d) w).get t=st.get t:=by unfold AS.get AS.put;simp only[jx,aF h]
theorem D5 {o:Oper}{i:Nat}(ho:o.op=.extract (.tmp t) i)(hd:o.dst=some d)(hg:o.guard=none):cA E Γ an ops X o st=some s↔ ∃vs g cs,st.get t=.vQ vs/\nth vs i=some (g,cs)/\(cs.all AC.gu||an.mv.contains d)=true/\s=(st.put (some t) (.vQ (gZ vs i (g,aR 0 cs)))).put (some d) (.val g cs):=by
 unfold cA;simp only[dq,ho,hd];constructor;intro h;cases hv:st.get t with|val g cs=>simp only[hv,af,gy,hg,db,ho,ma]at h;cases h|vQ vs=>simp only[hv]at h;cases hn:nth vs i with|none=>simp only[hn,af,gy,hg,db,ho,ma,hv]at h;cases h|some x=>obtain⟨g,cs⟩:=x;simp only[hn]at h;cases hf:(cs.all AC.gu||an.mv.contains d)with|false=>rw[hf]at h;cases h|true=>rw[hf]at h;simp only[af,gy,hg,db,ho,ma,hv,hn,hd]at h;cases h;exact⟨vs,g,cs,rfl,hn,hf,rfl⟩
 rintro⟨vs,g,cs,hv,hn,hf,rfl⟩;simp only[hv,hn,hf,af,gy,hg,db,ho,ma,hd]
theorem acE (l:ar α)(i:Nat)(v w:α):gZ (gZ l i v) i w=gZ l i w:=by rw[eV,eV,eV,ei]
theorem adN {o p:Oper}(ha:XT o p=true)(h1:cA E Γ an ops X o st=some s1)(h2:cA E Γ an ops Y p s1=some s2): ∃t1,cA E Γ an ops Y p st=some t1/\cA E Γ an ops X o t1=some s2:=by
 unfold XT at ha;split at ha;rename_i t i t' j d d' ho hp hd X1 hg mY;simp only[ah,bD,aP,cC,ne_eq]at ha;obtain⟨⟨⟨⟨rfl,hij⟩,S0⟩,hdt⟩,aiU⟩:=ha;obtain⟨vs,g,cs,hv,hn,hf,rfl⟩:=(D5 ho hd hg).1 h1;obtain⟨vs2,g2,Gy,Mh,CQ,HM,rfl⟩:=(D5 hp X1 mY).1 h2;have hq:((st.put (some t) (.vQ (gZ vs i (g,aR 0 cs)))).put (some d) (.val g cs)).get t=.vQ (gZ vs i (g,aR 0 cs)):=by rw[vj hdt,JS hv (by simp)]
 rw[hq]at Mh;cases Mh;rw[jx,aF hij]at CQ;refine⟨_,(D5 hp X1 mY).2 ⟨vs,g2,Gy,hv,CQ,HM,rfl⟩,(D5 ho hd hg).2 ⟨gZ vs j (g2,aR 0 Gy),g,cs,?_,?_,hf,?_⟩⟩;rw[vj aiU,JS hv (by simp)];rw[jx,aF (cG hij)];exact hn;have e:=iZ vs hij (g,aR 0 cs) (g2,aR 0 Gy);have a:∀(A B:AV)(q:Nat)(v:AV),q≠t->gZ (gZ (gZ st.slots t A) q v) t B=gZ (gZ st.slots t B) q v:=λA B q v hq=>by rw[iZ _ hq,acE]
 simp only[AS.put,AS.mk.injEq,ig];rw[a _ _ _ _ hdt,a _ _ _ _ aiU,e,iZ _ S0];cases ha
theorem aar (s:AS)(t:Nat):s.put (some t) (s.get t)=s:=by cases s with|mk slots boxes ep iss io=>simp only[AS.put,AS.mk.injEq,ig];rw[eV];apply cL;intro i;rw[bk];split;rename_i hd;subst hd;simp only[AS.get,dA];split;rename_i gV;rw[al gV];rfl;rename_i BD;rw[bH (Nat.le_of_not_lt BD)];rfl
theorem Wo {o:Oper}(hd:o.dst=some d)(hg:o.guard=none)(ho:(o.op=.move (.tmp t)/\an.mv.contains d=false/\an.fm.contains d=true)\/∃i,o.op=.extract (.tmp t) i)(_hdt:d≠t)(h:cA E Γ an ops X o st=some s): ∃tv v,s=(st.put (some t) tv).put (some d) v/\∀st2:AS,st2.get t=st.get t->cA E Γ an ops X o st2=some ((st2.put (some t) tv).put (some d) v):=by
 rcases ho with⟨ho,F5,Nn⟩|⟨i,ho⟩;have JZ:∀st2:AS,st2.get t=st.get t->(st.rd (.tmp t)).lr=true->st2.rd (.tmp t)=st.get t:=by
  intro st2 hq hs;simp only[AS.rd,hq]at hs⊢;cases hv:st.get t with
  |vQ vs=>rw[hv]at hs;simp[AV.borrow,AV.lr]at hs
  |val g cs=>
   rw[hv]at hs;simp only[AV.borrow,AV.lr]at hs⊢;congr 1;have key:∀(cs:ar AC)(j:Nat),(iy st.ep (λj=>kq.slot t j) j cs).all AC.lr=true->iy st2.ep (λj=>kq.slot t j) j cs=cs:=by
    intro cs;induction cs with
    |nil=>intro j _;rfl
    |cons c cs ih=>
     intro j h;simp only[iy,bN,ah]at h⊢;rw[ih (j+1) h.2];congr 1;cases c with
     |sl fl e xs=>cases fl with|fe _ _ ep=>cases ep<;>simp[AC.borrow,AC.lr]at h|_=>simp[AC.borrow,AC.lr]at h
     |_=>rfl
   exact key cs 0 hs
 unfold cA at h;have lE:(st.rd (.tmp t)).lr=true:=by cases hs:(st.rd (.tmp t)).lr with|true=>rfl|false=>simp only[dq,ho,W8,hd,Nn,hs]at h;cases h
 refine⟨st.get t,st.get t,?_,λst2 hq=>?_⟩;simp only[dq,ho,W8,hd,Nn,lE,Bool.or_true,af,gy,hg,db,Ej,F5,aY,cc]at h;cases h;rw[JZ st rfl lE];congr 1;exact(aar st t).symm;unfold cA;have e1:=JZ st2 hq lE;have Ta:(st2.rd (.tmp t)).lr=true:=by rw[e1,<-JZ st rfl lE];exact lE
 simp only[dq,ho,W8,hd,Nn,Ta,Bool.or_true,af,gy,hg,db,Ej,F5,aY,cc];rw[e1,<-hq,aar];obtain⟨vs,g,cs,hv,hn,hf,rfl⟩:=(D5 ho hd hg).1 h;refine⟨_,_,rfl,λst2 hq=>(D5 ho hd hg).2 ⟨vs,g,cs,by rw[hq,hv],hn,hf,rfl⟩⟩
theorem af8 {p:Oper}{q x:Nat}(hp:p.op=.store T (.tmp q) (.tmp x))(hd:p.dst=none)(hg:p.guard=none)(S1:(an.eb q).isSome=true)(hes:(an.es q).isNone=true)(hsb:(an.sb q).isNone=true)(hl:Ca an p=false)(h:cA E Γ an ops Y p st=some s): ∃B,s=⟨gZ st.slots x ((st.get x).aR st.ep),B,st.ep+1,st.iss,st.io⟩/\ ∀st2:AS,st2.get q=st.get q->st2.get x=st.get x->st2.boxes=st.boxes->st2.ep=st.ep->st2.iss=st.iss->st2.io=st.io-> cA E Γ an ops Y p st2=some ⟨gZ st2.slots x ((st.get x).aR st.ep),B,st.ep+1,st.iss,st.io⟩:=by
 have gm:∀st2:AS,st2.get q=st.get q->st2.ep=st.ep->dq E an Y p st2=dq E an Y p st:=by intro st2 h1 h2;simp only[dq,hp,AS.rd,h1,h2]
 unfold cA at h;cases hf:dq E an Y p st with
 |false=>rw[hf]at h;cases h
 |true=>
  rw[hf]at h;simp only[af,gy,hg,db,hp,hd,hl,aY,cc]at h;have gM:=hf;simp only[dq,hp]at gM;have Jg:((an.sb q).isNone&&(an.eb q).isNone&&(an.es q).isNone)=false:=by cases he:an.eb q with|none=>rw[he]at S1;cases S1|some _=>simp
  rw[Jg,cI]at gM;unfold yo at h;split at h;rename_i JZ;rw[JZ]at gM;simp only[ah,bD]at gM;rw[gM.2]at hsb;cases hsb;rename_i sh N2 r tg e y i off hT JZ;rw[JZ]at gM;cases r with
  |slot _ _=>simp only[ah,bD]at gM;rw[gM.1.1]at hes;cases hes
  |io _=>simp at gM
  |box b j=>
   split at h;rename_i gg vs st1 tD;have e1:(st.get x)=.val gg vs:=by have:=congrArg Prod.fst tD;exact this
   have e2:st1=⟨gZ st.slots x ((st.get x).aR st.ep),st.boxes,st.ep,st.iss,st.io⟩:=by have:=congrArg Prod.snd tD;exact this.symm
   split at h;rename_i hlen;have main:∃B,∀sl:ar AV,(⟨sl,st.boxes,st.ep,st.iss,st.io⟩:AS).pF (.box b j) tg e i off vs some=some ⟨sl,B,st.ep+1,st.iss,st.io⟩:=by
    subst e2;simp only[AS.pF,AS.eM,AS.eU,AS.eD]at h⊢;cases hb:(nth st.boxes b).getD none with
    |none=>rw[hb]at h;simp at h
    |some cs=>
     rw[hb]at h;simp only[eu]at h⊢;split at h;rename_i t' e' xs hn;split at h;rename_i he;simp only[dif_pos he];generalize (he▸xs:ar e.D)=zs at h⊢;split at h;rename_i ht;simp only[aG ht];cases hi:idx zs i with|none=>rw[hi]at h;simp[aa]at h|some y0=>simp only[hi,aa]at h⊢;split at h;exact⟨_,λsl=>rfl⟩;cases h
     cases h;cases h;rename_i t' i' q0 e' xs hn;split at h;rename_i he;simp only[dif_pos he];generalize (he▸xs:ar e.D)=zs at h⊢;split at h;rename_i ht;simp only[aG ht];cases hi:abp zs i' i with|none=>rw[hi]at h;simp[aa]at h|some y0=>simp only[hi,aa]at h⊢;split at h;exact⟨_,λsl=>rfl⟩;cases h
     cases h;cases h;cases h
   obtain⟨B,hB⟩:=main;refine⟨B,?_,λst2 h1 h2 h3 h4 h5 h6=>?_⟩;subst e2;rw[hB]at h;exact(cB h).symm;unfold cA;rw[gm st2 h1 h4,hf];have r2:st2.rd (.tmp q)=st.rd (.tmp q):=by simp only[AS.rd,h1,h4]
   have t2:st2.take (.tmp x)=(.val gg vs,⟨gZ st2.slots x ((st.get x).aR st.ep),st.boxes,st.ep,st.iss,st.io⟩):=by simp only[AS.take,AS.put,h2,h3,h4,h5,h6,e1]
   simp only[af,gy,hg,db,hp,hd,hl,aY,cc,yo,hT,r2,JZ,t2];rw[aG hlen];exact hB _;cases h;cases h
  cases h
theorem adA {p:Oper}{q x:Nat}(hp:p.op=.store T (.tmp q) (.tmp x))(hd:p.dst=none)(hg:p.guard=none){b:Nat}(hes:an.es q=some b)(S1:(an.eb q).isNone=true)(jA:b≠x)(hsb:(an.sb q).isNone=true)(hl:Ca an p=false)(h:cA E Γ an ops Y p st=some s): ∃B,s=⟨gZ (gZ st.slots x ((st.get x).aR st.ep)) b B,st.boxes,st.ep+1,st.iss,st.io⟩/\ ∀st2:AS,st2.get q=st.get q->st2.get x=st.get x->nth st2.slots b=nth st.slots b->st2.boxes=st.boxes->st2.ep=st.ep->st2.iss=st.iss->st2.io=st.io-> cA E Γ an ops Y p st2=some ⟨gZ (gZ st2.slots x ((st.get x).aR st.ep)) b B,st.boxes,st.ep+1,st.iss,st.io⟩:=by
 have gm:∀st2:AS,st2.get q=st.get q->st2.ep=st.ep->dq E an Y p st2=dq E an Y p st:=by intro st2 h1 h2;simp only[dq,hp,AS.rd,h1,h2]
 unfold cA at h;cases hf:dq E an Y p st with
 |false=>rw[hf]at h;cases h
 |true=>
  rw[hf]at h;simp only[af,gy,hg,db,hp,hd,hl,aY,cc]at h;have gM:=hf;simp only[dq,hp]at gM;have Jg:((an.sb q).isNone&&(an.eb q).isNone&&(an.es q).isNone)=false:=by rw[hes];simp
  rw[Jg,cI]at gM;unfold yo at h;split at h;rename_i JZ;rw[JZ]at gM;simp only[ah,bD]at gM;rw[gM.2]at hsb;cases hsb;rename_i sh N2 r tg e y i off hT JZ;rw[JZ]at gM;cases r with
  |box _ _=>simp only[ah,bD]at gM;rw[gM.1.1]at S1;cases S1
  |io _=>simp at gM
  |slot b' j=>
   simp only[ah,bD]at gM;have XY:b'=b:=cB (gM.1.1.symm.trans hes);subst XY;split at h;rename_i gg vs st1 tD;have e1:(st.get x)=.val gg vs:=by have:=congrArg Prod.fst tD;exact this
   have e2:st1=⟨gZ st.slots x ((st.get x).aR st.ep),st.boxes,st.ep,st.iss,st.io⟩:=by have:=congrArg Prod.snd tD;exact this.symm
   split at h;rename_i hlen;have main:∃B,∀sl:ar AV,nth sl b'=nth st.slots b'->(⟨sl,st.boxes,st.ep,st.iss,st.io⟩:AS).pF (.slot b' j) tg e i off vs some=some ⟨gZ sl b' B,st.boxes,st.ep+1,st.iss,st.io⟩:=by
    subst e2;have gX:∀sl:ar AV,nth sl b'=nth st.slots b'->(⟨sl,st.boxes,st.ep,st.iss,st.io⟩:AS).get b'=st.get b':=λsl hq=>by unfold AS.get;rw[hq]
    have hq0:nth (gZ st.slots x ((st.get x).aR st.ep)) b'=nth st.slots b':=by rw[jx,aF (cG jA)]
    simp only[AS.pF,AS.eM,AS.eU,gX _ hq0]at h;cases hb:st.get b' with
    |vQ _=>rw[hb]at h;simp at h
    |val g0 cs=>
     rw[hb]at h;simp only at h;split at h;rename_i t' e' xs hn;split at h;rename_i he;split at h;rename_i ht;cases hi:idx (he▸xs:ar e.D) i with|none=>rw[hi]at h;simp[aa]at h|some y0=>simp only[hi,aa]at h;split at h;rename_i x' AJ;refine⟨.val g0 (gZ cs j (.sl (.own (some t')) e ((he▸xs:ar e.D).set i.toNat x'))),λsl hq=>?_⟩;simp only[AS.pF,AS.eM,AS.eU,gX _ hq,hb,hn,dif_pos he,aG ht,hi,aa,AJ,AS.put];cases h
     cases h;cases h;rename_i t' i' q0 e' xs hn;split at h;rename_i he;split at h;rename_i ht;cases hi:abp (he▸xs:ar e.D) i' i with|none=>rw[hi]at h;simp[aa]at h|some y0=>simp only[hi,aa]at h;split at h;rename_i x' AJ;refine⟨.val g0 (gZ cs j (.sl (.own (some t')) e ((he▸xs:ar e.D).set i.toNat x'))),λsl hq=>?_⟩;simp only[AS.pF,AS.eM,AS.eU,gX _ hq,hb,hn,dif_pos he,aG ht,hi,aa,AJ,AS.put];cases h
     cases h;cases h;cases h
   obtain⟨B,hB⟩:=main;refine⟨B,?_,λst2 h1 h2 tc h3 h4 h5 h6=>?_⟩;subst e2;rw[hB _ (by rw[jx,aF (cG jA)])]at h;exact(cB h).symm;unfold cA;rw[gm st2 h1 h4,hf];have r2:st2.rd (.tmp q)=st.rd (.tmp q):=by simp only[AS.rd,h1,h4]
   have t2:st2.take (.tmp x)=(.val gg vs,⟨gZ st2.slots x ((st.get x).aR st.ep),st.boxes,st.ep,st.iss,st.io⟩):=by simp only[AS.take,AS.put,h2,h3,h4,h5,h6,e1]
   simp only[af,gy,hg,db,hp,hd,hl,aY,cc,yo,hT,r2,JZ,t2];rw[aG hlen];exact hB _ (by rw[jx,aF (cG jA)];exact tc);cases h;cases h
  cases h
theorem af7 {o p:Oper}(ha:XK an o p=true)(h1:cA E Γ an ops X o st=some s1)(h2:cA E Γ an ops Y p s1=some s2): ∃t1,cA E Γ an ops Y p st=some t1/\cA E Γ an ops X o t1=some s2:=by
 unfold XK at ha;split at ha;rename_i T q x hp hpd hpg;simp only[ah,aP]at ha;obtain⟨⟨⟨S1,hsb⟩,hl⟩,ha⟩:=ha;have aiS:∃d t,o.dst=some d/\o.guard=none/\((o.op=.move (.tmp t)/\an.mv.contains d=false/\an.fm.contains d=true)\/∃i,o.op=.extract (.tmp t) i)/\d≠q/\d≠x/\t≠x/\d≠t/\t≠q:=by split at ha;rename_i t d ho hd hg;simp only[ah,aP,cC]at ha;exact⟨d,t,hd,hg,.inl ⟨ho,ha.1.1.1.1.1.1,ha.1.1.1.1.1.2⟩,ha.1.1.1.1.2,ha.1.1.1.2,ha.1.1.2,ha.2,ha.1.2⟩;rename_i t i d ho hd hg;simp only[ah,aP,cC]at ha;exact⟨d,t,hd,hg,.inr ⟨i,ho⟩,ha.1.1.1.1,ha.1.1.1.2,ha.1.1.2,ha.2,ha.1.2⟩;cases ha
 obtain⟨d,t,hd,hg,ho,hdq,hdx,htx,hdt,htq⟩:=aiS;obtain⟨tv,v,rfl,dI⟩:=Wo hd hg ho hdt h1;have hq:((st.put (some t) tv).put (some d) v).get q=st.get q:=by rw[vj hdq];exact vj htq
 have hx:((st.put (some t) tv).put (some d) v).get x=st.get x:=by rw[vj hdx,vj htx]
 simp only[de,ah]at S1;rcases S1 with⟨S1,hes⟩|hes;obtain⟨B,rfl,hgo⟩:=af8 hp hpd hpg S1 hes hsb hl h2;have k1:=hgo st hq.symm hx.symm rfl rfl rfl rfl;refine⟨_,k1,?_⟩;have Jf:(⟨gZ st.slots x ((((st.put (some t) tv).put (some d) v).get x).aR ((st.put (some t) tv).put (some d) v).ep),B,((st.put (some t) tv).put (some d) v).ep+1,((st.put (some t) tv).put (some d) v).iss,((st.put (some t) tv).put (some d) v).io⟩:AS).get t=st.get t:=by simp only[AS.get,jx,aF (cG htx)]
 rw[dI _ Jf];simp only[AS.put,aZ,AS.mk.injEq,ig];rw[iZ _ (cG htx),iZ _ (cG hdx)];cases hb:an.es q with
 |none=>rw[hb]at hes;cases hes
 |some b=>
  rw[hb]at hes;simp only[ah,aP,cC]at hes;obtain⟨⟨⟨S1,jA⟩,_⟩,hbw⟩:=hes;have hbw:=mq hbw b (by simp);have hbd:b≠d:=λe=>hbw (by simp[hd,e]);have hbt:b≠t:=λe=>hbw (by refine az.2 (.inr ?_);rcases ho with⟨ho,_⟩|⟨i,ho⟩<;>simp[dv,ho,tm,e]);obtain⟨B,rfl,hgo⟩:=adA hp hpd hpg hb S1 jA hsb hl h2;have tc:nth st.slots b=nth ((st.put (some t) tv).put (some d) v).slots b:=by simp only[AS.put,jx,aF (cG hbd),aF (cG hbt)]
  have k1:=hgo st hq.symm hx.symm tc rfl rfl rfl rfl;refine⟨_,k1,?_⟩;have Jf:(⟨gZ (gZ st.slots x ((((st.put (some t) tv).put (some d) v).get x).aR ((st.put (some t) tv).put (some d) v).ep)) b B,((st.put (some t) tv).put (some d) v).boxes,((st.put (some t) tv).put (some d) v).ep+1,((st.put (some t) tv).put (some d) v).iss,((st.put (some t) tv).put (some d) v).io⟩:AS).get t=st.get t:=by simp only[AS.get,jx,aF (cG htx),aF hbt]
  rw[dI _ Jf];simp only[AS.put,aZ,AS.mk.injEq,ig];rw[iZ _ hbt,iZ _ hbd,iZ _ (cG htx),iZ _ (cG hdx)]
 cases ha
theorem T9 {c:AC}(h:c.lr=true\/(c.borrow ep none).lr=true):c.borrow ep none=c:=by
 cases c with
 |sl fl e xs=>exfalso;cases fl with|fe _ _ ep=>cases ep<;>simp[AC.borrow,AC.lr]at h|_=>simp[AC.borrow,AC.lr]at h
 |_=>rfl
theorem PB {cs:ar AC}{n:Nat}(gF:off+n<=cs.length)(k:Nat):(da cs off (aR ep ((cs.drop off).take n)))[k]?=(cs[k]?).map λc=>if off<=k/\k<off+n then c.borrow ep none else c:=by
 have hl:(aR ep ((cs.drop off).take n)).length=n:=by simp[aR];omega
 unfold da;rw[hl];by_cases h1:k<off;rw[aN,bw (by simp;omega),ew h1];have:(λc:AC=>if off<=k/\k<off+n then c.borrow ep none else c)=id:=by funext c;rw[mG];rfl
 rw[this,Option.map_id];rfl;by_cases h2:k<off+n;rw[bw (by simp[hl];omega),bq (by simp;omega)];have e:k-(cs.take off).length=k-off:=by simp;omega
 rw[e,aR,List.getElem?_map,ew (by omega),bJ,show off+(k-off)=k by omega];congr 1;funext c;rw[zip];rw[bq (by simp[hl];omega)];have e:k-(cs.take off++aR ep ((cs.drop off).take n)).length=k-(off+n):=by simp[hl];omega
 rw[e,bJ,show off+n+(k-(off+n))=k by omega];have:(λc:AC=>if off<=k/\k<off+n then c.borrow ep none else c)=id:=by funext c;rw[mG];rfl
 rw[this,Option.map_id];rfl
theorem KO {cs:ar AC}{n o2 n2:Nat}(gF:off+n<=cs.length)(h:((cs.drop o2).take n2).all AC.lr=true\/(((da cs off (aR ep ((cs.drop off).take n))).drop o2).take n2).all AC.lr=true): ((da cs off (aR ep ((cs.drop off).take n))).drop o2).take n2=(cs.drop o2).take n2:=by
 apply cL;intro k;by_cases hk:k<n2;rw[ew hk,ew hk,bJ,bJ,PB gF];cases hc:cs[o2+k]? with|none=>rfl|some c=>simp only[dg];split;rename_i uu;refine congrArg some (T9 ?_);rcases h with h|h;left;refine aW.1 h c (cR (i:=k) ?_);rw[ew hk,bJ,hc];right;refine aW.1 h _ (cR (i:=k) ?_);rw[ew hk,bJ,PB gF,hc,dg,aG uu];rfl
 rw[bH (by simp;omega),bH (by simp;omega)]
theorem LX {b:Nat}:∀{cs:ar AC}{j:Nat},cs.all AC.lr=true->iy ep (.box b) j cs=cs
 |[],_,_=>rfl
 |c::cs,j,h=>by simp only[bN,ah]at h;rw[iy,LX h.2];congr 1;cases c<;>first|rfl|(simp[AC.lr]at h)
theorem PN {o:Oper}(h:DT an o=true):∃T q d,o.op=.load T (.tmp q)/\o.dst=some d/\o.guard=none/\an.mv.contains d=true/\(an.mb d).isSome=true:=by unfold DT at h;split at h;rename_i T q d ho hd hg;simp only[ah]at h;exact⟨T,q,d,ho,hd,hg,h.1,h.2⟩;cases h
theorem Oe {o:Oper}(h:Od an o=true):∃T q d,o.op=.load T (.tmp q)/\o.dst=some d/\o.guard=none/\an.mv.contains d=false/\an.fm.contains d=true:=by unfold Od at h;split at h;rename_i T q d ho hd hg;simp only[ah,aP]at h;exact⟨T,q,d,ho,hd,hg,h.1,h.2⟩;cases h
theorem Ia {o:Oper}{q:Nat}(ht:DT an o=true)(ho:o.op=.load T (.tmp q))(hd:o.dst=some d)(hg:o.guard=none)(F5:an.mv.contains d=true):cA E Γ an ops X o st=some s↔ ∃sh b off cs,iT E.ty T=some sh/\st.rd (.tmp q)=.val false [.ptr b off]/\(nth st.boxes b).getD none=some cs/\off+sh.ct.size<=cs.length/\X.contains b=false/\an.mb d=some b/\(W8 an o=true->GO E T st b off=true)/\ s=(st.eD b (some (da cs off (aR st.ep ((cs.drop off).take sh.ct.size))))).put (some d) (.val sh.agg ((cs.drop off).take sh.ct.size)):=by
 have key:dq E an X o st=true->∀r,db E Γ an o st some=some r->∃b off,st.rd (.tmp q)=.val false [.ptr b off]:=by intro hf r hr;simp only[db,ho,px]at hr;split at hr;rename_i hp;exact⟨_,_,hp⟩;rename_i hp;simp only[dq,ho,hp,ht,Bool.or_true,ai,jD,gL]at hf;cases hf;cases hr
 unfold cA;constructor;intro h;cases hf:dq E an X o st with|false=>rw[hf]at h;cases h|true=>rw[hf]at h;simp only[af,gy,hg]at h;obtain⟨b,off,hp⟩:=key hf s h;simp only[dq,ho,hp,hd,F5,ai,cI,ah,aP,bD,de]at hf;simp only[db,ho,px,hp]at h;cases hT:iT E.ty T with|none=>rw[hT]at h;cases h|some sh=>rw[hT]at h;simp only at h;cases hb:(nth st.boxes b).getD none with|none=>rw[hb]at h;cases h|some cs=>rw[hb]at h;simp only at h;split at h;rename_i gF;simp only[hd,F5,bL]at h;cases h;refine⟨sh,b,off,cs,rfl,hp,hb,gF,hf.1.1,hf.1.2,λhm=>?_,rfl⟩;rcases hf.2 with g|g;rw[hm]at g;cases g;exact g;cases h
 rintro⟨sh,b,off,cs,hT,hp,hb,gF,hX,Xd,Nn,rfl⟩;have hf:dq E an X o st=true:=by simp only[dq,ho,hp,hd,F5,hX,Xd,ai,cI,ah,aP,bD,de];refine⟨⟨bV,bV⟩,?_⟩;cases hm:W8 an o with|false=>exact .inl rfl|true=>exact .inr (Nn hm)
 rw[hf];simp only[af,gy,hg,db,ho,px,hp,hT,hb,aG gF,hd,F5,bL]
theorem HH {o:Oper}{q:Nat}(ho:o.op=.load T (.tmp q))(hd:o.dst=some d)(hg:o.guard=none)(F5:an.mv.contains d=false)(Nn:an.fm.contains d=true):cA E Γ an ops X o st=some s↔ ∃sh b off cs,iT E.ty T=some sh/\st.rd (.tmp q)=.val false [.ptr b off]/\(nth st.boxes b).getD none=some cs/\off+sh.ct.size<=cs.length/\X.contains b=false/\((cs.drop off).take sh.ct.size).all AC.lr=true/\ s=st.put (some d) (.val sh.agg ((cs.drop off).take sh.ct.size)):=by
 have hfb:W8 an o=true:=by simp only[W8,hd,Nn]
 have key:dq E an X o st=true->∀r,db E Γ an o st some=some r->∃b off,st.rd (.tmp q)=.val false [.ptr b off]:=by intro hf r hr;simp only[db,ho,px]at hr;split at hr;rename_i hp;exact⟨_,_,hp⟩;rename_i hp;simp only[dq,ho,hp,hfb,jQ,ai,jD,gL]at hf;cases hf;cases hr
 unfold cA;constructor;intro h;cases hf:dq E an X o st with
 |false=>rw[hf]at h;cases h
 |true=>
  rw[hf]at h;simp only[af,gy,hg]at h;obtain⟨b,off,hp⟩:=key hf s h;simp only[dq,ho,hp,hd,F5,hfb,ai,cf,jQ,cI,ie,ah,aP]at hf;simp only[db,ho,px,hp]at h;cases hT:iT E.ty T with
  |none=>rw[hT]at h;cases h
  |some sh=>
   rw[hT]at h;simp only at h;cases hb:(nth st.boxes b).getD none with
   |none=>rw[hb]at h;cases h
   |some cs=>
    rw[hb]at h;simp only at h;split at h;rename_i gF;have lE:((cs.drop off).take sh.ct.size).all AC.lr=true:=by have:=hf.2;unfold GO at this;rw[hT,hb]at this;exact this
    simp only[hd,F5,aY,cc,LX lE]at h;cases h;exact⟨sh,b,off,cs,rfl,hp,hb,gF,hf.1,lE,rfl⟩;cases h
 rintro⟨sh,b,off,cs,hT,hp,hb,gF,hX,lE,rfl⟩;have hf:dq E an X o st=true:=by simp only[dq,ho,hp,hd,F5,hX,hfb,GO,hT,hb,lE];rfl
 rw[hf];simp only[af,gy,hg,db,ho,px,hp,hT,hb,aG gF,hd,F5,aY,cc,LX lE]
theorem RZ {q:Nat}{v:AV}(h:d≠q):(st.put (some d) v).rd (.tmp q)=st.rd (.tmp q):=by simp only[AS.rd,vj h];rfl
theorem aff {q b:Nat}{cs:aw (ar AC)}:(st.eD b cs).rd (.tmp q)=st.rd (.tmp q):=rfl
theorem Xx {b:Nat}{cs x:ar AC}(h:(nth st.boxes b).getD none=some cs):(nth (gZ st.boxes b (some x)) b).getD none=some x:=by
 rw[jx,aG rfl];cases hn:nth st.boxes b with
 |none=>rw[hn]at h;cases h
 |some _=>
  have:b<st.boxes.length:=by rw[dA]at hn;exact(aD.1 hn).1
  rw[aG this];rfl
theorem Xy {b b2:Nat}{x:ar AC}(h:b≠b2):nth (gZ st.boxes b (some x)) b2=nth st.boxes b2:=by rw[jx,aF h]
theorem agE {o p:Oper}(ha:YB an o p=true)(h1:cA E Γ an ops X o st=some s1)(h2:cA E Γ an ops Y p s1=some s2): ∃t1,cA E Γ an ops Y p st=some t1/\cA E Γ an ops X o t1=some s2:=by
 simp only[YB,ah,de,aP]at ha;obtain⟨⟨ha,m1⟩,m2⟩:=ha;have m1:=mq m1;have m2:=mq m2;rcases ha with⟨ht,hf⟩|⟨hf,ht⟩;obtain⟨T,q,d,ho,hd,hg,F5,Xd⟩:=PN ht;obtain⟨T2,q2,d2,hp,Xb,Jf,Vi,abj⟩:=Oe hf;have n1:d≠d2:=λe=>m1 d (by simp[hd]) (by simp[Xb,e]);have n2:d≠q2:=λe=>m1 d (by simp[hd]) (by simp[dv,hp,tm,e]);have n3:d2≠q:=λe=>m2 d2 (by simp[Xb]) (by simp[dv,ho,tm,e]);obtain⟨sh,b,off,cs,hT,hr,hb,gF,hX,ah2,Nn,rfl⟩:=(Ia ht ho hd hg F5).1 h1;obtain⟨sh2,b2,QE,Gy,hT2,Qo,Gu,Z7,hX2,Ta,rfl⟩:=(HH hp Xb Jf Vi abj).1 h2;rw[RZ n2,aff]at Qo;have jA:(nth (gZ st.boxes b (some (da cs off (aR st.ep ((cs.drop off).take sh.ct.size))))) b2).getD none=some Gy:=Gu;have lD:∃P8,(nth st.boxes b2).getD none=some P8/\QE+sh2.ct.size<=P8.length/\(Gy.drop QE).take sh2.ct.size=(P8.drop QE).take sh2.ct.size:=by
  by_cases XY:b=b2;subst XY;rw[Xx hb]at jA;cases jA;have hlen:(da cs off (aR st.ep ((cs.drop off).take sh.ct.size))).length=cs.length:=by simp only[da,aR,au,cr,bm,bf];omega
  exact⟨cs,hb,by omega,KO gF (.inr Ta)⟩;rw[Xy XY]at jA;exact⟨Gy,jA,Z7,rfl⟩
 obtain⟨P8,Uo,Ve,he⟩:=lD;rw[he]at Ta⊢;refine⟨_,(HH hp Xb Jf Vi abj).2 ⟨sh2,b2,QE,P8,hT2,Qo,Uo,Ve,hX2,Ta,rfl⟩,(Ia ht ho hd hg F5).2 ⟨sh,b,off,cs,hT,by rw[RZ n3];exact hr,hb,gF,hX,ah2,λhm=>?_,?_⟩⟩;have:=Nn hm;unfold GO at this⊢;exact this;simp only[AS.put,AS.eD,AS.mk.injEq,ig];exact iZ _ n1 _ _;obtain⟨T,q,d,ho,hd,hg,F5,Nn⟩:=Oe hf;obtain⟨T2,q2,d2,hp,Xb,Jf,Vi,ah1⟩:=PN ht;have n1:d≠d2:=λe=>m1 d (by simp[hd]) (by simp[Xb,e]);have n2:d≠q2:=λe=>m1 d (by simp[hd]) (by simp[dv,hp,tm,e]);have n3:d2≠q:=λe=>m2 d2 (by simp[Xb]) (by simp[dv,ho,tm,e]);obtain⟨sh,b,off,cs,hT,hr,hb,gF,hX,lE,rfl⟩:=(HH ho hd hg F5 Nn).1 h1;obtain⟨sh2,b2,QE,Gy,hT2,Qo,Gu,Z7,hX2,ah2,abj,rfl⟩:=(Ia ht hp Xb Jf Vi).1 h2;rw[RZ n2]at Qo;refine⟨_,(Ia ht hp Xb Jf Vi).2 ⟨sh2,b2,QE,Gy,hT2,Qo,Gu,Z7,hX2,ah2,λhm=>abj hm,rfl⟩,?_⟩;have lD:∃P8,(nth (gZ st.boxes b2 (some (da Gy QE (aR st.ep ((Gy.drop QE).take sh2.ct.size))))) b).getD none=some P8/\off+sh.ct.size<=P8.length/\(P8.drop off).take sh.ct.size=(cs.drop off).take sh.ct.size:=by
  by_cases XY:b2=b;subst XY;have Li:Gy=cs:=cB (Gu.symm.trans hb);subst Li;have hlen:(da Gy QE (aR st.ep ((Gy.drop QE).take sh2.ct.size))).length=Gy.length:=by simp only[da,aR,au,cr,bm,bf];omega
  exact⟨_,Xx hb,by omega,KO Z7 (.inl lE)⟩;exact⟨cs,by rw[Xy XY];exact hb,gF,rfl⟩
 obtain⟨P8,Uo,Ve,he⟩:=lD;refine(HH ho hd hg F5 Nn).2 ⟨sh,b,off,P8,hT,by rw[RZ n3,aff];exact hr,Uo,Ve,hX,by rw[he];exact lE,?_⟩;rw[he];simp only[AS.put,AS.eD,AS.mk.injEq,ig];exact iZ _ n1 _ _
theorem PM {o:Oper}{q:Nat}(ht:Hq an o=true)(ho:o.op=.load T (.tmp q))(hd:o.dst=some d)(hg:o.guard=none)(F5:an.mv.contains d=true)(Xd:an.mb d=none):cA E Γ an ops X o st=some s↔ ∃(g:Bool)(e:CT)(jV:ar (Nat×Nat))(b j t N2:Nat)(x:e.D)(i:Int)(cs:ar AC)(ys:ar e.D)(y:e.D),iT E.ty T=some ⟨g,e,jV⟩/\st.rd (.tmp q)=.val false [.C1 (.loc N2 (some (.box b j,t))) e x i 0]/\(nth st.boxes b).getD none=some cs/\nth cs j=some (.sl (.own (some t)) e ys)/\idx ys i=some y/\ X.contains b=false/\an.eb q=some b/\W8 an o=false/\s=(KV st b j t e i cs ys).put (some d) (.val g (cellsOf e (.own none) y)):=by rw[<-PL ht ho hd F5 Xd];unfold cA;cases dq E an X o st with|false=>simp|true=>simp only[af,gy,hg,db,ho,true_and]
theorem acv {o:Oper}(h:Ds an o=true):∃T q d,o.op=.load T (.tmp q)/\o.dst=some d/\o.guard=none/\an.mv.contains d=false/\W8 an o=false:=by unfold Ds at h;split at h;rename_i T q d ho hd hg;simp only[ah,aP]at h;exact⟨T,q,d,ho,hd,hg,h.1.1,by simp only[W8,hd];exact h.1.2⟩;cases h
theorem Pb {o:Oper}{q:Nat}(CR:Ds an o=true)(ho:o.op=.load T (.tmp q))(hd:o.dst=some d)(hg:o.guard=none)(F5:an.mv.contains d=false)(Nn:W8 an o=false):cA E Γ an ops X o st=some s↔ ∃sh b off cs,iT E.ty T=some sh/\st.rd (.tmp q)=.val false [.ptr b off]/\(nth st.boxes b).getD none=some cs/\off+sh.ct.size<=cs.length/\X.contains b=false/\ s=st.put (some d) (.val sh.agg (iy st.ep (.box b) off ((cs.drop off).take sh.ct.size))):=by
 unfold cA;constructor;intro h;cases hf:dq E an X o st with|false=>rw[hf]at h;cases h|true=>rw[hf]at h;simp only[af,gy,hg,db,ho]at h;unfold px at h;split at h;rename_i sh b off hT hp;simp only[dq,ho,hp,hd,F5,Nn,cf,jQ,ie,aP]at hf;split at h;rename_i cs hb;split at h;rename_i gF;simp only[hd,F5,aY,cc]at h;cases h;exact⟨sh,b,off,cs,hT,hp,hb,gF,hf,rfl⟩;cases h;cases h;rename_i hp;simp only[dq,ho,hp,CR,ai,jD,gL]at hf;cases hf;cases h
 rintro⟨sh,b,off,cs,hT,hp,hb,gF,hX,rfl⟩;have hf:dq E an X o st=true:=by simp only[dq,ho,hp,hd,F5,hX,Nn];rfl
 rw[hf];simp only[af,gy,hg,db,ho,px,hp,hT,hb,aG gF,hd,F5,aY,cc]
theorem NO {b:Nat}:∀(cs:ar AC)(p k:Nat)(c':AC),(∀c,cs[k]?=some c->∀r,c'.borrow ep (some r)=c.borrow ep (some r))->iy ep (.box b) p (cs.set k c')=iy ep (.box b) p cs
 |[],_,_,_,_=>rfl
 |c::cs,p,0,c',h=>by simp only[List.set_cons_zero,iy,h c rfl]
 |c::cs,p,k+1,c',h=>by simp only[List.set_cons_succ,iy];rw[NO cs (p+1) k c' (λc hc=>h c (by simpa using hc))]
theorem UF {b j n:Nat}{e:CT}{i:Int}{ys:ar e.D}{cs:ar AC}(hj:nth cs j=some (.sl (.own (some t)) e ys)): iy ep (.box b) off (((gZ cs j (.sl (.fe (some t) i (some ep)) e ys)).drop off).take n)=iy ep (.box b) off ((cs.drop off).take n):=by rw[eV,List.drop_set];split;rfl;rename_i gV;rw[List.take_set];refine NO _ _ _ _ λc hc r=>?_;by_cases hn:j-off<n;rw[ew hn,bJ,show off+(j-off)=j by omega,<-dA,hj]at hc;cases hc;rfl;rw[bH (by simp;omega)]at hc;cases hc
theorem af2 {o p:Oper}(ha:XA an o p=true)(h1:cA E Γ an ops X o st=some s1)(h2:cA E Γ an ops Y p s1=some s2): ∃t1,cA E Γ an ops Y p st=some t1/\cA E Γ an ops X o t1=some s2:=by
 simp only[XA,ah,aP]at ha;obtain⟨⟨⟨CR,ht⟩,m1⟩,m2⟩:=ha;have m1:=mq m1;have m2:=mq m2;obtain⟨T,q,d,ho,hd,hg,F5,Nn⟩:=acv CR;obtain⟨T2,q2,d2,hp,Xb,Jf,Vi,ah1⟩:=Sl ht;have n1:d≠d2:=λe=>m1 d (by simp[hd]) (by simp[Xb,e]);have n2:d≠q2:=λe=>m1 d (by simp[hd]) (by simp[dv,hp,tm,e]);have n3:d2≠q:=λe=>m2 d2 (by simp[Xb]) (by simp[dv,ho,tm,e]);obtain⟨sh,b,off,cs,hT,hr,hb,gF,hX,rfl⟩:=(Pb CR ho hd hg F5 Nn).1 h1;obtain⟨g,e,jV,b2,j,t,N2,x,i,Gy,ys,y,hT2,Qo,Gu,hj,hi,hX2,S1,abj,rfl⟩:=(PM ht hp Xb Jf Vi ah1).1 h2;rw[RZ n2]at Qo;have aiP:(nth st.boxes b2).getD none=some Gy:=Gu;refine⟨_,(PM ht hp Xb Jf Vi ah1).2 ⟨g,e,jV,b2,j,t,N2,x,i,Gy,ys,y,hT2,Qo,aiP,hj,hi,hX2,S1,abj,rfl⟩,?_⟩;have lD:∃P8,(nth (gZ st.boxes b2 (some (gZ Gy j (.sl (.fe (some t) i (some st.ep)) e ys)))) b).getD none=some P8/\off+sh.ct.size<=P8.length/\iy st.ep (.box b) off ((P8.drop off).take sh.ct.size)=iy st.ep (.box b) off ((cs.drop off).take sh.ct.size):=by by_cases XY:b2=b;subst XY;have Li:Gy=cs:=cB (aiP.symm.trans hb);subst Li;exact⟨_,Xx hb,by rw[eV,aH];exact gF,UF hj⟩;exact⟨cs,by rw[Xy XY];exact hb,gF,rfl⟩
 obtain⟨P8,Uo,Ve,he⟩:=lD;refine(Pb CR ho hd hg F5 Nn).2 ⟨sh,b,off,P8,hT,by rw[RZ n3];exact hr,Uo,Ve,hX,?_⟩;show _=((KV st b2 j t e i Gy ys).put (some d2) _).put (some d) (.val sh.agg (iy st.ep (.box b) off ((P8.drop off).take sh.ct.size)));rw[he];simp only[AS.put,KV,AS.eD,AS.mk.injEq,ig];exact iZ _ n1 _ _
def QH (E:Env)(Γ:xO)(an:An)(ops:ar Oper)(X:Nat->dV):dV->AS->aw AS
 |[],st=>some st
 |i::r,st=>match nth ops i with
  |some o=>(cA E Γ an ops (X i) o st).bind (QH E Γ an ops X r)
  |none=>none
theorem Pp (Ag:∀f,(Γ f).io=false/\((Γ f).bx=true->(Γ f).cur=true)/\(Γ f).pr=false){X:Nat->dV}{i:Nat}{oi:Oper}(hi:nth ops i=some oi):∀(pre post:dV)(st r:AS),(∀j∈pre,∀oj,nth ops j=some oj->NI an ops (X j) (X i) oj oi=true)->
 QH E Γ an ops X (pre++i::post) st=some r->QH E Γ an ops X (i::(pre++post)) st=some r
 |[],post,st,r,_,h=>h
 |j::pre,post,st,r,ha,h=>by
  simp only[List.cons_append,QH]at h;cases hj:nth ops j with
  |none=>rw[hj]at h;cases h
  |some oj=>
   rw[hj]at h;simp only at h;obtain⟨s1,h1,h2⟩:=aL.1 h;have h3:=Pp Ag hi pre post s1 r (λk hk=>ha k (by simp[hk])) h2;simp only[QH,hi]at h3;obtain⟨s2,h4,h5⟩:=aL.1 h3;have hap:=ha j (by simp) oj hj;obtain⟨t1,k1,k2⟩:∃t1,cA E Γ an ops (X i) oi st=some t1/\cA E Γ an ops (X j) oj t1=some s2:=by cases hx:afa an oj oi with|false=>rw[NI,hx,cI]at hap;exact Zu Ag hap h1 h4|true=>simp only[afa,de]at hx;rcases hx with((hx|hx)|hx)|hx;exact adN hx h1 h4;exact af7 hx h1 h4;exact agE hx h1 h4;exact af2 hx h1 h4
   simp only[QH,hi,k1,eu,List.cons_append,hj,k2];exact h5
end Go.Dn
