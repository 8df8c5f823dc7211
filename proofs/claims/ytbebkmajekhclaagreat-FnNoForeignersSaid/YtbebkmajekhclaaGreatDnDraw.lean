import Derived.Test.YtbebkmajekhclaaGreatDnUpd
/- Operations that are apart may change places. -/
namespace Go.Dn
variable {E:Env} {Γ:BV} {an:An} {ops:ax Oper}
variable {s s1 s2 st:AS} {b d ep i off q t:Nat} {α:Type} {T:TypeId} {X Y:fK}
def cM (E:Env)(Γ:BV)(an:An)(ops:ax Oper)(X:fK)(o:Oper)(st:AS):az AS:=
 bif dV E an X o st then ig E Γ an ops o st some else none
structure Ui (an:An) (ops:List Oper) (X:List Nat) (o:Oper) (st st2:AS):Prop where
 base:iE an X o st st2
 gd:∀t∈Gi an ops o,st2.get t=st.get t
theorem Zl {b:Bool}(h:st.get d=.val false [.bool b]):st.put (some d) (.one (.bool b))=st:=by cases st with|mk slots boxes ep iss io=>simp only[AS.put,AS.mk.injEq,jw];rw[gj];apply cS;intro i;rw[bJ];split;rename_i hd;subst hd;simp only[AS.get,eH]at h;split;rename_i gH;rw[al gH]at h⊢;simp only[gr]at h;rw[h];rename_i Cg;rw[bI (Nat.le_of_not_lt Cg)];rfl
theorem U7 {st2:AS}{s:Nat}(h:nth st2.boxes s=nth st.boxes s):Gc E T st2 s off=Gc E T st s off:=by unfold Gc;rw[h]
theorem IQ {o:Oper}{st2:AS}(ha:iE an X o st st2):dV E an X o st2=dV E an X o st:=by
 unfold dV;split;rename_i ho;rw[ha.rd (λt ht=>by simpa[eo,ho]using ht)];rename_i T p ho;rw[ha.rd (λt ht=>by simp[eo,ho,ht]),ha.ep];rename_i ho;rw[ha.rd (λt ht=>by simp[eo,ho,ht]),ha.ep];rename_i f args ts ho;have hcur:vq an X (erS an o) st2 args.toList=vq an X (erS an o) st args.toList:=by
  have hl:∀x∈args.toList,∀t∈tm x,t∈eo o:=by intro x hx t ht;simp only[eo,ho,ay,Sq,List.mem_flatMap];exact .inr ⟨x,hx,ht⟩
  generalize args.toList=l at hl;cases l with
  |nil=>rfl
  |cons x xs=>
   have C7:xs.all (KP (erS an o) st2)=xs.all (KP (erS an o) st):=by
    rw[cH];simp only[aF];have e:∀y∈xs,KP (erS an o) st2 y=KP (erS an o) st y:=by intro y hy;cases y with|tmp t=>have hg:=ha.get t (hl (.tmp t) (by simp[hy]) t (by simp[tm]));simp only[KP,hg]|const v=>rfl|func v=>rfl|global v=>rfl
    exact⟨λg y hy=>by rw[<-e y hy];exact g y hy,λg y hy=>by rw[e y hy];exact g y hy⟩
   have hr:=ha.rd (hl x (by simp));cases x with
   |tmp q=>
    simp only[vq,hr];generalize st.rd (.tmp q)=v;unfold ah1;rw[C7];split;rename_i s off;cases hX:X.contains s with|true=>simp|false=>rw[ha.box s hX]
    rfl
   |const v=>simp only[vq,hr]
   |func v=>simp only[vq,hr]
   |global v=>simp only[vq,hr]
 rw[hcur];congr 1;rw[cH];simp only[aF];constructor;intro hx x hm;have:=hx x hm;rwa[ha.rd (λt ht=>by simp only[eo,ho,ay,Sq,List.mem_flatMap];exact .inr ⟨x,hm,ht⟩),ha.ep]at this;intro hx x hm;rw[ha.rd (λt ht=>by simp only[eo,ho,ay,Sq,List.mem_flatMap];exact .inr ⟨x,hm,ht⟩),ha.ep];exact hx x hm;rename_i ho;rw[ha.rd (λt ht=>by simpa[eo,ho]using ht),ha.ep];split;rename_i s off _;cases hX:X.contains s with|true=>rfl|false=>rw[U7 (ha.box s hX)]
 rfl;rfl;rename_i ho;rw[ha.rd (λt ht=>by simp only[eo,ho,ay];exact .inl ht)];rename_i ho;rw[ha.get _ (by simp[eo,ho])];rfl
theorem Nr (CK:∀f,(Γ f).io=false/\((Γ f).bx=true->(Γ f).cur=true)/\(Γ f).pr=false){o:Oper}{bZ:AS}(hm:ph an o=true)(h:cM E Γ an ops X o st=some bZ): ∃u:Lj,u.IB an o/\bZ=u.apply st/\∀st2,Ui an ops X o st st2->cM E Γ an ops X o st2=some (u.apply st2):=by
 unfold cM at h;cases hf:dV E an X o st with
 |false=>rw[hf]at h;cases h
 |true=>
  rw[hf]at h;simp only[ah]at h;unfold ig at h;split at h;rename_i hg;obtain⟨u,h1,h2,h3⟩:=Ra (X:=X) CK hm hf h;refine⟨u,h1,h2,λst2 ha=>?_⟩;unfold cM;rw[IQ ha.base,hf];simp only[ah,ig,hg];exact h3 st2 ha.base;rename_i j Jl hg;split at h;rename_i d hd;have uB:d∈Gi an ops o:=by simp[Gi,hg,hd]
  split at h;rename_i b hb;have hgo:(if(b==Jl)=true then cX E Γ an o st some else some (st.put o.dst (.one .un)))=some bZ:=by cases b<;>simpa only[ah,af,Zl hb]using h
  have h2g:∀st2,Ui an ops X o st st2->cM E Γ an ops X o st2=(if(b==Jl)=true then cX E Γ an o st2 some else some (st2.put o.dst (.one .un))):=by
   intro st2 ha;have SZ:st2.get d=.val false [.bool b]:=by rw[ha.gd d uB];exact hb
   unfold cM;rw[IQ ha.base,hf];simp only[ah,ig,hg,hd,SZ];cases b<;>simp only[ah,af,Zl SZ]
  split at hgo;rename_i hw;obtain⟨u,h1,h2,h3⟩:=Ra (X:=X) CK hm hf hgo;exact⟨u,h1,h2,λst2 ha=>by rw[h2g st2 ha,aI hw];exact h3 st2 ha.base⟩;rename_i hw;cases hgo;exact⟨Fl o (.one .un),DV _,by rw[uf],λst2 ha=>by rw[h2g st2 ha,aG hw,uf]⟩;rename_i hb;cases h;refine⟨Fl o (.one .un),DV _,by rw[uf],λst2 ha=>?_⟩;have SZ:st2.get d=.val false [.un]:=by rw[ha.gd d uB];exact hb
  unfold cM;rw[IQ ha.base,hf,uf];simp only[ah,ig,hg,hd,SZ];cases h;cases h
theorem jQ (l:ax α){j:Nat}(h:i≠j)(v w:α):iS (iS l i v) j w=iS (iS l j w) i v:=by rw[gj,gj,gj,gj,List.set_comm _ _ h]
theorem acK (l:ax AV)(a:ax (Nat×AV))(v:AV)(h:∀x∈a,x.1≠i):kV (iS l i v) a=iS (kV l a) i v:=by induction a generalizing l with|nil=>rfl|cons x a ih=>simp only[kV];rw[jQ _ (cZ (h x (by simp))),ih _ (λy hy=>h y (by simp[hy]))]
theorem Zi (l:ax AV)(a b:ax (Nat×AV))(h:∀x∈a,∀y∈b,x.1≠y.1):kV (kV l a) b=kV (kV l b) a:=by induction b generalizing l with|nil=>rfl|cons y b ih=>simp only[kV];rw[<-acK l a y.2 (λx hx=>h x hx y (by simp)),ih _ (λx hx z hz=>h x hx z (by simp[hz]))]
theorem Sd (l:ax AV)(a:ax (Nat×AV))(h:∀x∈a,x.1≠t):nth (kV l a) t=nth l t:=by induction a generalizing l with|nil=>rfl|cons x a ih=>rw[kV,ih _ (λy hy=>h y (by simp[hy])),kB,aG (h x (by simp))]
theorem nA {a b:fK}(h:meets a b=false):∀x∈a,x∉b:=by intro x hx hb;unfold meets at h;rw[List.any_eq_false]at h;exact h x hx (by simpa using hb)
theorem Lj.ahL {u:Lj}{o p:Oper}(hw:u.IB an o)(h1:∀x∈writes an o,x∉eo p++Gi an ops p++writes an p)(h2:∀d∈G2 an o,Y.contains d=true)(h3:∀d∈G2 an o,p.dst≠some d): Ui an ops Y p (u.apply st) st/\Ui an ops Y p st (u.apply st):=by
 have iR:∀t,t∈eo p++Gi an ops p++writes an p->(u.apply st).get t=st.get t:=by intro t ht;unfold AS.get;have:nth (u.apply st).slots t=nth st.slots t:=Sd _ _ (λx hx he=>h1 _ (hw.slots x hx) (by rw[he];exact ht));rw[this]
 have aft:∀d,p.dst=some d->nth (u.apply st).iss d=nth st.iss d/\nth (u.apply st).boxes d=nth st.boxes d:=by
  intro d hd;have hd':d∈eo p++Gi an ops p++writes an p:=by simp[writes,hd]
  have D9:o.dst≠some d:=λhe=>h1 d (by simp[writes,he]) hd';constructor;unfold Lj.apply;cases hi:u.iss with|none=>rfl|some k=>simp only;rw[kB,aG];rintro rfl;exact D9 (hw.iss _ hi)
  unfold Lj.apply;cases hi:u.box with|none=>rfl|some k=>simp only;rw[kB,aG];intro he;exact h3 _ (hw.box k hi) (by rw[he];exact hd)
 have aqm:∀s,Y.contains s=false->nth (u.apply st).boxes s=nth st.boxes s:=by intro s hs;unfold Lj.apply;cases hi:u.box with|none=>rfl|some k=>simp only;rw[kB,aG];rintro rfl;have:=h2 k.1 (hw.box k hi);rw[this]at hs;cases hs
 have hlen:(u.apply st).slots.length=st.slots.length:=QD _ _;exact⟨⟨⟨hlen.symm,λt ht=>(iR t (by simp[ht])).symm,rfl,λd hd=>⟨((aft d hd).1).symm,((aft d hd).2).symm⟩,λs hs=>(aqm s hs).symm,λt ht=>(iR t (by simp[Gi,ht])).symm⟩,λt ht=>(iR t (by simp[ht])).symm⟩,⟨⟨hlen,λt ht=>iR t (by simp[ht]),rfl,aft,aqm,λt ht=>iR t (by simp[Gi,ht])⟩,λt ht=>iR t (by simp[ht])⟩⟩
theorem aag {u v:Lj}{o p:Oper}(hu:u.IB an o)(hv:v.IB an p)(h:∀x∈writes an o,x∉writes an p)(hb:∀x∈G2 an o,x∉G2 an p):v.apply (u.apply st)=u.apply (v.apply st):=by
 have Vf:∀a b,o.dst=some a->p.dst=some b->a≠b:=λa b ha hb he=>h a (by simp[writes,ha]) (by simp[writes,hb,he]);have hs:=Zi st.slots u.slots v.slots (λx hx y hy he=>h _ (hu.slots x hx) (by rw[he];exact hv.slots y hy));simp only[Lj.apply,AS.mk.injEq,true_and,jw];refine⟨hs,?_,?_⟩;cases hub:u.box with|none=>cases v.box<;>rfl|some k=>cases hvb:v.box with|none=>rfl|some l=>exact jQ _ (λhe=>hb _ (hu.box k hub) (by rw[he];exact hv.box l hvb)) _ _
 cases hui:u.iss with|none=>cases v.iss<;>rfl|some k=>cases hvi:v.iss with|none=>rfl|some l=>exact jQ _ (Vf _ _ (hu.iss k hui) (hv.iss l hvi)) _ _
theorem ac6 (CK:∀f,(Γ f).io=false/\((Γ f).bx=true->(Γ f).cur=true)/\(Γ f).pr=false){o p:Oper}(ha:aae an ops X Y o p=true)(h1:cM E Γ an ops X o st=some s1)(h2:cM E Γ an ops Y p s1=some s2): ∃t1,cM E Γ an ops Y p st=some t1/\cM E Γ an ops X o t1=some s2:=by
 simp only[aae,ae,aN,aF]at ha;obtain⟨⟨⟨⟨⟨⟨⟨mo,mp⟩,w1⟩,w2⟩,b1⟩,b2⟩,b3⟩,b4⟩:=ha;have w1:=nA w1;have w2:=nA w2;have b3:=nA b3;have b4:=nA b4;obtain⟨u,hu,rfl,hu2⟩:=Nr CK mo h1;obtain⟨v,hv,rfl,Vq⟩:=Nr CK mp h2;have ag1:=Lj.ahL (ops:=ops) (p:=p) (Y:=Y) (st:=st) hu w1 b1 (λd hd he=>b3 d hd (by simp[he]));have hww:∀x∈writes an p,x∉eo o++Gi an ops o++writes an o:=by intro x hx hm;rcases ay.1 hm with hm|hm;exact w2 x hx hm;exact w1 x hm (by simp[hx])
 have ag2:=Lj.ahL (ops:=ops) (p:=o) (Y:=X) (st:=st) hv hww b2 (λd hd he=>b4 d hd (by simp[he]));refine⟨v.apply st,Vq st ag1.1,?_⟩;rw[hu2 _ ag2.2,aag hu hv (λx hx hm=>w1 x hx (by simp[hm])) (λx hx hm=>b3 x hx (by simp[hm]))]
theorem JQ {v w:AV}(h:st.get t=v)(hv:v≠ .bot):(st.put (some t) w).get t=w:=by
 unfold AS.get at h;cases hn:nth st.slots t with
 |none=>rw[hn]at h;exact absurd h.symm hv
 |some q=>
  have hl:t<st.slots.length:=by rw[eH]at hn;exact(aA.1 hn).1
  unfold AS.get AS.put;simp only[eH,gj];rw[cW hl];rfl
theorem vX {w:AV}(h:d≠t):(st.put (some d) w).get t=st.get t:=by unfold AS.get AS.put;simp only[kB,aG h]
theorem D0 {o:Oper}(ho:o.op=.extract (.tmp t) i)(hd:o.dst=some d)(hg:o.guard=none):cM E Γ an ops X o st=some s↔ ∃vs g cs,st.get t=.yh vs/\nth vs i=some (g,cs)/\(cs.all AC.kx||an.mv.contains d)=true/\s=(st.put (some t) (.yh (iS vs i (g,bf 0 cs)))).put (some d) (.val g cs):=by
 unfold cM;simp only[dV,ho,hd];constructor;intro h;cases hv:st.get t with|val g cs=>simp only[hv,ah,ig,hg,cX,ho,ng]at h;cases h|yh vs=>simp only[hv]at h;cases hn:nth vs i with|none=>simp only[hn,ah,ig,hg,cX,ho,ng,hv]at h;cases h|some x=>obtain⟨g,cs⟩:=x;simp only[hn]at h;cases hf:(cs.all AC.kx||an.mv.contains d)with|false=>rw[hf]at h;cases h|true=>rw[hf]at h;simp only[ah,ig,hg,cX,ho,ng,hv,hn,hd]at h;cases h;exact⟨vs,g,cs,rfl,hn,hf,rfl⟩
 rintro⟨vs,g,cs,hv,hn,hf,rfl⟩;simp only[hv,hn,hf,ah,ig,hg,cX,ho,ng,hd]
theorem ag7 (l:ax α)(i:Nat)(v w:α):iS (iS l i v) i w=iS l i w:=by rw[gj,gj,gj,List.set_set]
theorem aiM {o p:Oper}(ha:abg o p=true)(h1:cM E Γ an ops X o st=some s1)(h2:cM E Γ an ops Y p s1=some s2): ∃t1,cM E Γ an ops Y p st=some t1/\cM E Γ an ops X o t1=some s2:=by
 unfold abg at ha;split at ha;rename_i t i t' j d d' ho hp hd hd' hg pJ;simp only[ae,bg,aN,cv,ne_eq]at ha;obtain⟨⟨⟨⟨rfl,hij⟩,Vf⟩,hdt⟩,aqq⟩:=ha;obtain⟨vs,g,cs,hv,hn,hf,rfl⟩:=(D0 ho hd hg).1 h1;obtain⟨vs2,g2,FM,Vq,BL,CN,rfl⟩:=(D0 hp hd' pJ).1 h2;have hq:((st.put (some t) (.yh (iS vs i (g,bf 0 cs)))).put (some d) (.val g cs)).get t=.yh (iS vs i (g,bf 0 cs)):=by rw[vX hdt,JQ hv (by simp)]
 rw[hq]at Vq;cases Vq;rw[kB,aG hij]at BL;refine⟨_,(D0 hp hd' pJ).2 ⟨vs,g2,FM,hv,BL,CN,rfl⟩,(D0 ho hd hg).2 ⟨iS vs j (g2,bf 0 FM),g,cs,?_,?_,hf,?_⟩⟩;rw[vX aqq,JQ hv (by simp)];rw[kB,aG (cZ hij)];exact hn;have e:=jQ vs hij (g,bf 0 cs) (g2,bf 0 FM);have a:∀(A B:AV)(q:Nat)(v:AV),q≠t->iS (iS (iS st.slots t A) q v) t B=iS (iS st.slots t B) q v:=λA B q v hq=>by rw[jQ _ hq,ag7]
 simp only[AS.put,AS.mk.injEq,jw];rw[a _ _ _ _ hdt,a _ _ _ _ aqq,e,jQ _ Vf];cases ha
theorem aei (s:AS)(t:Nat):s.put (some t) (s.get t)=s:=by cases s with|mk slots boxes ep iss io=>simp only[AS.put,AS.mk.injEq,jw];rw[gj];apply cS;intro i;rw[bJ];split;rename_i hd;subst hd;simp only[AS.get,eH];split;rename_i gH;rw[al gH];rfl;rename_i Cg;rw[bI (Nat.le_of_not_lt Cg)];rfl
theorem ZC {o:Oper}(hd:o.dst=some d)(hg:o.guard=none)(ho:(o.op=.move (.tmp t)/\an.mv.contains d=false/\an.fm.contains d=true)\/∃i,o.op=.extract (.tmp t) i)(_hdt:d≠t)(h:cM E Γ an ops X o st=some s): ∃tv v,s=(st.put (some t) tv).put (some d) v/\∀st2:AS,st2.get t=st.get t->cM E Γ an ops X o st2=some ((st2.put (some t) tv).put (some d) v):=by
 rcases ho with⟨ho,FE,On⟩|⟨i,ho⟩;have PU:∀st2:AS,st2.get t=st.get t->(st.rd (.tmp t)).mC=true->st2.rd (.tmp t)=st.get t:=by
  intro st2 hq hs;simp only[AS.rd,hq]at hs⊢;cases hv:st.get t with
  |yh vs=>rw[hv]at hs;simp[AV.borrow,AV.mC]at hs
  |val g cs=>
   rw[hv]at hs;simp only[AV.borrow,AV.mC]at hs⊢;congr 1;have key:∀(cs:ax AC)(j:Nat),(jj st.ep (λj=>lQ.slot t j) j cs).all AC.mC=true->jj st2.ep (λj=>lQ.slot t j) j cs=cs:=by
    intro cs;induction cs with
    |nil=>intro j _;rfl
    |cons c cs ih=>
     intro j h;simp only[jj,cj,ae]at h⊢;rw[ih (j+1) h.2];congr 1;cases c with
     |sl fl e xs=>cases fl with|ga _ _ ep=>cases ep<;>simp[AC.borrow,AC.mC]at h|_=>simp[AC.borrow,AC.mC]at h
     |_=>rfl
   exact key cs 0 hs
 unfold cM at h;have nY:(st.rd (.tmp t)).mC=true:=by cases hs:(st.rd (.tmp t)).mC with|true=>rfl|false=>simp only[dV,ho,fmB,hd,On,hs]at h;cases h
 refine⟨st.get t,st.get t,?_,λst2 hq=>?_⟩;simp only[dV,ho,fmB,hd,On,nY,hZ,ah,ig,hg,cX,El,FE,bm,cw]at h;cases h;rw[PU st rfl nY];congr 1;exact(aei st t).symm;unfold cM;have e1:=PU st2 hq nY;have Vn:(st2.rd (.tmp t)).mC=true:=by rw[e1,<-PU st rfl nY];exact nY
 simp only[dV,ho,fmB,hd,On,Vn,hZ,ah,ig,hg,cX,El,FE,bm,cw];rw[e1,<-hq,aei];obtain⟨vs,g,cs,hv,hn,hf,rfl⟩:=(D0 ho hd hg).1 h;refine⟨_,_,rfl,λst2 hq=>(D0 ho hd hg).2 ⟨vs,g,cs,by rw[hq,hv],hn,hf,rfl⟩⟩
theorem alI {p:Oper}{x:Nat}(hp:p.op=.store T (.tmp q) (.tmp x))(hd:p.dst=none)(hg:p.guard=none)(Vg:(an.eb q).isSome=true)(hes:(an.es q).isNone=true)(hsb:(an.sb q).isNone=true)(hl:Cn an p=false)(h:cM E Γ an ops Y p st=some s): ∃B,s=⟨iS st.slots x ((st.get x).bf st.ep),B,st.ep+1,st.iss,st.io⟩/\ ∀st2:AS,st2.get q=st.get q->st2.get x=st.get x->st2.boxes=st.boxes->st2.ep=st.ep->st2.iss=st.iss->st2.io=st.io-> cM E Γ an ops Y p st2=some ⟨iS st2.slots x ((st.get x).bf st.ep),B,st.ep+1,st.iss,st.io⟩:=by
 have gY:∀st2:AS,st2.get q=st.get q->st2.ep=st.ep->dV E an Y p st2=dV E an Y p st:=by intro st2 h1 h2;simp only[dV,hp,AS.rd,h1,h2]
 unfold cM at h;cases hf:dV E an Y p st with
 |false=>rw[hf]at h;cases h
 |true=>
  rw[hf]at h;simp only[ah,ig,hg,cX,hp,hd,hl,bm,cw]at h;have kb:=hf;simp only[dV,hp]at kb;have PO:((an.sb q).isNone&&(an.eb q).isNone&&(an.es q).isNone)=false:=by cases he:an.eb q with|none=>rw[he]at Vg;cases Vg|some _=>simp
  rw[PO,cJ]at kb;unfold yO at h;split at h;rename_i PU;rw[PU]at kb;simp only[ae,bg]at kb;rw[kb.2]at hsb;cases hsb;rename_i sh Pf r tg e y i off hT PU;rw[PU]at kb;cases r with
  |slot _ _=>simp only[ae,bg]at kb;rw[kb.1.1]at hes;cases hes
  |io _=>simp at kb
  |box b j=>
   split at h;rename_i gg vs st1 uH;have e1:(st.get x)=.val gg vs:=by have:=congrArg Prod.fst uH;exact this
   have e2:st1=⟨iS st.slots x ((st.get x).bf st.ep),st.boxes,st.ep,st.iss,st.io⟩:=by have:=congrArg Prod.snd uH;exact this.symm
   split at h;rename_i hlen;have main:∃B,∀sl:ax AV,(⟨sl,st.boxes,st.ep,st.iss,st.io⟩:AS).qU (.box b j) tg e i off vs some=some ⟨sl,B,st.ep+1,st.iss,st.io⟩:=by
    subst e2;simp only[AS.qU,AS.fN,AS.fU,AS.fD]at h⊢;cases hb:(nth st.boxes b).getD none with
    |none=>rw[hb]at h;simp at h
    |some cs=>
     rw[hb]at h;simp only[fu]at h⊢;split at h;rename_i t' e' xs hn;split at h;rename_i he;simp only[dif_pos he];generalize (he▸xs:ax e.D)=zs at h⊢;split at h;rename_i ht;simp only[aI ht];cases hi:idx zs i with|none=>rw[hi]at h;simp[aa]at h|some y0=>simp only[hi,aa]at h⊢;split at h;exact⟨_,λsl=>rfl⟩;cases h
     cases h;cases h;rename_i t' i' q0 e' xs hn;split at h;rename_i he;simp only[dif_pos he];generalize (he▸xs:ax e.D)=zs at h⊢;split at h;rename_i ht;simp only[aI ht];cases hi:afz zs i' i with|none=>rw[hi]at h;simp[aa]at h|some y0=>simp only[hi,aa]at h⊢;split at h;exact⟨_,λsl=>rfl⟩;cases h
     cases h;cases h;cases h
   obtain⟨B,hB⟩:=main;refine⟨B,?_,λst2 h1 h2 h3 h4 h5 h6=>?_⟩;subst e2;rw[hB]at h;exact(bN h).symm;unfold cM;rw[gY st2 h1 h4,hf];have r2:st2.rd (.tmp q)=st.rd (.tmp q):=by simp only[AS.rd,h1,h4]
   have t2:st2.take (.tmp x)=(.val gg vs,⟨iS st2.slots x ((st.get x).bf st.ep),st.boxes,st.ep,st.iss,st.io⟩):=by simp only[AS.take,AS.put,h2,h3,h4,h5,h6,e1]
   simp only[ah,ig,hg,cX,hp,hd,hl,bm,cw,yO,hT,r2,PU,t2];rw[aI hlen];exact hB _;cases h;cases h
  cases h
theorem aiC {p:Oper}{x:Nat}(hp:p.op=.store T (.tmp q) (.tmp x))(hd:p.dst=none)(hg:p.guard=none)(hes:an.es q=some b)(Vg:(an.eb q).isNone=true)(kQ:b≠x)(hsb:(an.sb q).isNone=true)(hl:Cn an p=false)(h:cM E Γ an ops Y p st=some s): ∃B,s=⟨iS (iS st.slots x ((st.get x).bf st.ep)) b B,st.boxes,st.ep+1,st.iss,st.io⟩/\ ∀st2:AS,st2.get q=st.get q->st2.get x=st.get x->nth st2.slots b=nth st.slots b->st2.boxes=st.boxes->st2.ep=st.ep->st2.iss=st.iss->st2.io=st.io-> cM E Γ an ops Y p st2=some ⟨iS (iS st2.slots x ((st.get x).bf st.ep)) b B,st.boxes,st.ep+1,st.iss,st.io⟩:=by
 have gY:∀st2:AS,st2.get q=st.get q->st2.ep=st.ep->dV E an Y p st2=dV E an Y p st:=by intro st2 h1 h2;simp only[dV,hp,AS.rd,h1,h2]
 unfold cM at h;cases hf:dV E an Y p st with
 |false=>rw[hf]at h;cases h
 |true=>
  rw[hf]at h;simp only[ah,ig,hg,cX,hp,hd,hl,bm,cw]at h;have kb:=hf;simp only[dV,hp]at kb;have PO:((an.sb q).isNone&&(an.eb q).isNone&&(an.es q).isNone)=false:=by rw[hes];simp
  rw[PO,cJ]at kb;unfold yO at h;split at h;rename_i PU;rw[PU]at kb;simp only[ae,bg]at kb;rw[kb.2]at hsb;cases hsb;rename_i sh Pf r tg e y i off hT PU;rw[PU]at kb;cases r with
  |box _ _=>simp only[ae,bg]at kb;rw[kb.1.1]at Vg;cases Vg
  |io _=>simp at kb
  |slot b' j=>
   simp only[ae,bg]at kb;have hbb:b'=b:=bN (kb.1.1.symm.trans hes);subst hbb;split at h;rename_i gg vs st1 uH;have e1:(st.get x)=.val gg vs:=by have:=congrArg Prod.fst uH;exact this
   have e2:st1=⟨iS st.slots x ((st.get x).bf st.ep),st.boxes,st.ep,st.iss,st.io⟩:=by have:=congrArg Prod.snd uH;exact this.symm
   split at h;rename_i hlen;have main:∃B,∀sl:ax AV,nth sl b'=nth st.slots b'->(⟨sl,st.boxes,st.ep,st.iss,st.io⟩:AS).qU (.slot b' j) tg e i off vs some=some ⟨iS sl b' B,st.boxes,st.ep+1,st.iss,st.io⟩:=by
    subst e2;have iR:∀sl:ax AV,nth sl b'=nth st.slots b'->(⟨sl,st.boxes,st.ep,st.iss,st.io⟩:AS).get b'=st.get b':=λsl hq=>by unfold AS.get;rw[hq]
    have hq0:nth (iS st.slots x ((st.get x).bf st.ep)) b'=nth st.slots b':=by rw[kB,aG (cZ kQ)]
    simp only[AS.qU,AS.fN,AS.fU,iR _ hq0]at h;cases hb:st.get b' with
    |yh _=>rw[hb]at h;simp at h
    |val g0 cs=>
     rw[hb]at h;simp only at h;split at h;rename_i t' e' xs hn;split at h;rename_i he;split at h;rename_i ht;cases hi:idx (he▸xs:ax e.D) i with|none=>rw[hi]at h;simp[aa]at h|some y0=>simp only[hi,aa]at h;split at h;rename_i x' DE;refine⟨.val g0 (iS cs j (.sl (.own (some t')) e ((he▸xs:ax e.D).set i.toNat x'))),λsl hq=>?_⟩;simp only[AS.qU,AS.fN,AS.fU,iR _ hq,hb,hn,dif_pos he,aI ht,hi,aa,DE,AS.put];cases h
     cases h;cases h;rename_i t' i' q0 e' xs hn;split at h;rename_i he;split at h;rename_i ht;cases hi:afz (he▸xs:ax e.D) i' i with|none=>rw[hi]at h;simp[aa]at h|some y0=>simp only[hi,aa]at h;split at h;rename_i x' DE;refine⟨.val g0 (iS cs j (.sl (.own (some t')) e ((he▸xs:ax e.D).set i.toNat x'))),λsl hq=>?_⟩;simp only[AS.qU,AS.fN,AS.fU,iR _ hq,hb,hn,dif_pos he,aI ht,hi,aa,DE,AS.put];cases h
     cases h;cases h;cases h
   obtain⟨B,hB⟩:=main;refine⟨B,?_,λst2 h1 h2 yn h3 h4 h5 h6=>?_⟩;subst e2;rw[hB _ (by rw[kB,aG (cZ kQ)])]at h;exact(bN h).symm;unfold cM;rw[gY st2 h1 h4,hf];have r2:st2.rd (.tmp q)=st.rd (.tmp q):=by simp only[AS.rd,h1,h4]
   have t2:st2.take (.tmp x)=(.val gg vs,⟨iS st2.slots x ((st.get x).bf st.ep),st.boxes,st.ep,st.iss,st.io⟩):=by simp only[AS.take,AS.put,h2,h3,h4,h5,h6,e1]
   simp only[ah,ig,hg,cX,hp,hd,hl,bm,cw,yO,hT,r2,PU,t2];rw[aI hlen];exact hB _ (by rw[kB,aG (cZ kQ)];exact yn);cases h;cases h
  cases h
theorem alH {o p:Oper}(ha:abd an o p=true)(h1:cM E Γ an ops X o st=some s1)(h2:cM E Γ an ops Y p s1=some s2): ∃t1,cM E Γ an ops Y p st=some t1/\cM E Γ an ops X o t1=some s2:=by
 unfold abd at ha;split at ha;rename_i T q x hp hpd hpg;simp only[ae,aN]at ha;obtain⟨⟨⟨Vg,hsb⟩,hl⟩,ha⟩:=ha;have aqn:∃d t,o.dst=some d/\o.guard=none/\((o.op=.move (.tmp t)/\an.mv.contains d=false/\an.fm.contains d=true)\/∃i,o.op=.extract (.tmp t) i)/\d≠q/\d≠x/\t≠x/\d≠t/\t≠q:=by split at ha;rename_i t d ho hd hg;simp only[ae,aN,cv]at ha;exact⟨d,t,hd,hg,.inl ⟨ho,ha.1.1.1.1.1.1,ha.1.1.1.1.1.2⟩,ha.1.1.1.1.2,ha.1.1.1.2,ha.1.1.2,ha.2,ha.1.2⟩;rename_i t i d ho hd hg;simp only[ae,aN,cv]at ha;exact⟨d,t,hd,hg,.inr ⟨i,ho⟩,ha.1.1.1.1,ha.1.1.1.2,ha.1.1.2,ha.2,ha.1.2⟩;cases ha
 obtain⟨d,t,hd,hg,ho,hdq,hdx,htx,hdt,htq⟩:=aqn;obtain⟨tv,v,rfl,fg⟩:=ZC hd hg ho hdt h1;have hq:((st.put (some t) tv).put (some d) v).get q=st.get q:=by rw[vX hdq];exact vX htq
 have hx:((st.put (some t) tv).put (some d) v).get x=st.get x:=by rw[vX hdx,vX htx]
 simp only[cY,ae]at Vg;rcases Vg with⟨Vg,hes⟩|hes;obtain⟨B,rfl,hgo⟩:=alI hp hpd hpg Vg hes hsb hl h2;have k1:=hgo st hq.symm hx.symm rfl rfl rfl rfl;refine⟨_,k1,?_⟩;have IU:(⟨iS st.slots x ((((st.put (some t) tv).put (some d) v).get x).bf ((st.put (some t) tv).put (some d) v).ep),B,((st.put (some t) tv).put (some d) v).ep+1,((st.put (some t) tv).put (some d) v).iss,((st.put (some t) tv).put (some d) v).io⟩:AS).get t=st.get t:=by simp only[AS.get,kB,aG (cZ htx)]
 rw[fg _ IU];simp only[AS.put,bq,AS.mk.injEq,jw];rw[jQ _ (cZ htx),jQ _ (cZ hdx)];cases hb:an.es q with
 |none=>rw[hb]at hes;cases hes
 |some b=>
  rw[hb]at hes;simp only[ae,aN,cv]at hes;obtain⟨⟨⟨Vg,kQ⟩,_⟩,hbw⟩:=hes;have hbw:=nA hbw b (by simp);have hbd:b≠d:=λe=>hbw (by simp[hd,e]);have hbt:b≠t:=λe=>hbw (by refine ay.2 (.inr ?_);rcases ho with⟨ho,_⟩|⟨i,ho⟩<;>simp[eo,ho,tm,e]);obtain⟨B,rfl,hgo⟩:=aiC hp hpd hpg hb Vg kQ hsb hl h2;have yn:nth st.slots b=nth ((st.put (some t) tv).put (some d) v).slots b:=by simp only[AS.put,kB,aG (cZ hbd),aG (cZ hbt)]
  have k1:=hgo st hq.symm hx.symm yn rfl rfl rfl rfl;refine⟨_,k1,?_⟩;have IU:(⟨iS (iS st.slots x ((((st.put (some t) tv).put (some d) v).get x).bf ((st.put (some t) tv).put (some d) v).ep)) b B,((st.put (some t) tv).put (some d) v).boxes,((st.put (some t) tv).put (some d) v).ep+1,((st.put (some t) tv).put (some d) v).iss,((st.put (some t) tv).put (some d) v).io⟩:AS).get t=st.get t:=by simp only[AS.get,kB,aG (cZ htx),aG hbt]
  rw[fg _ IU];simp only[AS.put,bq,AS.mk.injEq,jw];rw[jQ _ hbt,jQ _ hbd,jQ _ (cZ htx),jQ _ (cZ hdx)]
 cases ha
theorem Wg {c:AC}(h:c.mC=true\/(c.borrow ep none).mC=true):c.borrow ep none=c:=by
 cases c with
 |sl fl e xs=>exfalso;cases fl with|ga _ _ ep=>cases ep<;>simp[AC.borrow,AC.mC]at h|_=>simp[AC.borrow,AC.mC]at h
 |_=>rfl
theorem Q3 {cs:ax AC}{n:Nat}(iw:off+n<=cs.length)(k:Nat):(eZ cs off (bf ep ((cs.drop off).take n)))[k]?=(cs[k]?).map λc=>if off<=k/\k<off+n then c.borrow ep none else c:=by
 have hl:(bf ep ((cs.drop off).take n)).length=n:=by simp[bf];omega
 unfold eZ;rw[hl];by_cases h1:k<off;rw[aL,bF (by simp;omega),eM h1];have:(λc:AC=>if off<=k/\k<off+n then c.borrow ep none else c)=id:=by funext c;rw[nU];rfl
 rw[this,Option.map_id];rfl;by_cases h2:k<off+n;rw[bF (by simp[hl];omega),bA (by simp;omega)];have e:k-(cs.take off).length=k-off:=by simp;omega
 rw[e,bf,eU,eM (by omega),bQ,show off+(k-off)=k by omega];congr 1;funext c;rw[zip];rw[bA (by simp[hl];omega)];have e:k-(cs.take off++bf ep ((cs.drop off).take n)).length=k-(off+n):=by simp[hl];omega
 rw[e,bQ,show off+n+(k-(off+n))=k by omega];have:(λc:AC=>if off<=k/\k<off+n then c.borrow ep none else c)=id:=by funext c;rw[nU];rfl
 rw[this,Option.map_id];rfl
theorem KZ {cs:ax AC}{n o2 n2:Nat}(iw:off+n<=cs.length)(h:((cs.drop o2).take n2).all AC.mC=true\/(((eZ cs off (bf ep ((cs.drop off).take n))).drop o2).take n2).all AC.mC=true): ((eZ cs off (bf ep ((cs.drop off).take n))).drop o2).take n2=(cs.drop o2).take n2:=by
 apply cS;intro k;by_cases hk:k<n2;rw[eM hk,eM hk,bQ,bQ,Q3 iw];cases hc:cs[o2+k]? with|none=>rfl|some c=>simp only[dH];split;rename_i uB;refine congrArg some (Wg ?_);rcases h with h|h;left;refine aF.1 h c (aY (i:=k) ?_);rw[eM hk,bQ,hc];right;refine aF.1 h _ (aY (i:=k) ?_);rw[eM hk,bQ,Q3 iw,hc,dH,aI uB];rfl
 rw[bI (by simp;omega),bI (by simp;omega)]
theorem Mv:∀{cs:ax AC}{j:Nat},cs.all AC.mC=true->jj ep (.box b) j cs=cs
 |[],_,_=>rfl
 |c::cs,j,h=>by simp only[cj,ae]at h;rw[jj,Mv h.2];congr 1;cases c<;>first|rfl|(simp[AC.mC]at h)
theorem Rh {o:Oper}(h:DU an o=true):∃T q d,o.op=.load T (.tmp q)/\o.dst=some d/\o.guard=none/\an.mv.contains d=true/\(an.mb d).isSome=true:=by unfold DU at h;split at h;rename_i T q d ho hd hg;simp only[ae]at h;exact⟨T,q,d,ho,hd,hg,h.1,h.2⟩;cases h
theorem Pr {o:Oper}(h:Pq an o=true):∃T q d,o.op=.load T (.tmp q)/\o.dst=some d/\o.guard=none/\an.mv.contains d=false/\an.fm.contains d=true:=by unfold Pq at h;split at h;rename_i T q d ho hd hg;simp only[ae,aN]at h;exact⟨T,q,d,ho,hd,hg,h.1,h.2⟩;cases h
theorem HK {o:Oper}(ht:DU an o=true)(ho:o.op=.load T (.tmp q))(hd:o.dst=some d)(hg:o.guard=none)(FE:an.mv.contains d=true):cM E Γ an ops X o st=some s↔ ∃sh b off cs,jU E.ty T=some sh/\st.rd (.tmp q)=.val false [.ptr b off]/\(nth st.boxes b).getD none=some cs/\off+sh.ct.size<=cs.length/\X.contains b=false/\an.mb d=some b/\(fmB an o=true->Gc E T st b off=true)/\ s=(st.fD b (some (eZ cs off (bf st.ep ((cs.drop off).take sh.ct.size))))).put (some d) (.val sh.agg ((cs.drop off).take sh.ct.size)):=by
 have key:dV E an X o st=true->∀r,cX E Γ an o st some=some r->∃b off,st.rd (.tmp q)=.val false [.ptr b off]:=by intro hf r hr;simp only[cX,ho,qK]at hr;split at hr;rename_i hp;exact⟨_,_,hp⟩;rename_i hp;simp only[dV,ho,hp,ht,hZ,aj,fG,dJ]at hf;cases hf;cases hr
 unfold cM;constructor;intro h;cases hf:dV E an X o st with|false=>rw[hf]at h;cases h|true=>rw[hf]at h;simp only[ah,ig,hg]at h;obtain⟨b,off,hp⟩:=key hf s h;simp only[dV,ho,hp,hd,FE,aj,cJ,ae,aN,bg,cY]at hf;simp only[cX,ho,qK,hp]at h;cases hT:jU E.ty T with|none=>rw[hT]at h;cases h|some sh=>rw[hT]at h;simp only at h;cases hb:(nth st.boxes b).getD none with|none=>rw[hb]at h;cases h|some cs=>rw[hb]at h;simp only at h;split at h;rename_i iw;simp only[hd,FE,ch]at h;cases h;refine⟨sh,b,off,cs,rfl,hp,hb,iw,hf.1.1,hf.1.2,λhm=>?_,rfl⟩;rcases hf.2 with g|g;rw[hm]at g;cases g;exact g;cases h
 rintro⟨sh,b,off,cs,hT,hp,hb,iw,hX,Jr,On,rfl⟩;have hf:dV E an X o st=true:=by simp only[dV,ho,hp,hd,FE,hX,Jr,aj,cJ,ae,aN,bg,cY];refine⟨⟨cB,cB⟩,?_⟩;cases hm:fmB an o with|false=>exact .inl rfl|true=>exact .inr (On hm)
 rw[hf];simp only[ah,ig,hg,cX,ho,qK,hp,hT,hb,aI iw,hd,FE,ch]
theorem Hl {o:Oper}(ho:o.op=.load T (.tmp q))(hd:o.dst=some d)(hg:o.guard=none)(FE:an.mv.contains d=false)(On:an.fm.contains d=true):cM E Γ an ops X o st=some s↔ ∃sh b off cs,jU E.ty T=some sh/\st.rd (.tmp q)=.val false [.ptr b off]/\(nth st.boxes b).getD none=some cs/\off+sh.ct.size<=cs.length/\X.contains b=false/\((cs.drop off).take sh.ct.size).all AC.mC=true/\ s=st.put (some d) (.val sh.agg ((cs.drop off).take sh.ct.size)):=by
 have hfb:fmB an o=true:=by simp only[fmB,hd,On]
 have key:dV E an X o st=true->∀r,cX E Γ an o st some=some r->∃b off,st.rd (.tmp q)=.val false [.ptr b off]:=by intro hf r hr;simp only[cX,ho,qK]at hr;split at hr;rename_i hp;exact⟨_,_,hp⟩;rename_i hp;simp only[dV,ho,hp,hfb,iO,aj,fG,dJ]at hf;cases hf;cases hr
 unfold cM;constructor;intro h;cases hf:dV E an X o st with
 |false=>rw[hf]at h;cases h
 |true=>
  rw[hf]at h;simp only[ah,ig,hg]at h;obtain⟨b,off,hp⟩:=key hf s h;simp only[dV,ho,hp,hd,FE,hfb,aj,bt,iO,cJ,gw,ae,aN]at hf;simp only[cX,ho,qK,hp]at h;cases hT:jU E.ty T with
  |none=>rw[hT]at h;cases h
  |some sh=>
   rw[hT]at h;simp only at h;cases hb:(nth st.boxes b).getD none with
   |none=>rw[hb]at h;cases h
   |some cs=>
    rw[hb]at h;simp only at h;split at h;rename_i iw;have nY:((cs.drop off).take sh.ct.size).all AC.mC=true:=by have:=hf.2;unfold Gc at this;rw[hT,hb]at this;exact this
    simp only[hd,FE,bm,cw,Mv nY]at h;cases h;exact⟨sh,b,off,cs,rfl,hp,hb,iw,hf.1,nY,rfl⟩;cases h
 rintro⟨sh,b,off,cs,hT,hp,hb,iw,hX,nY,rfl⟩;have hf:dV E an X o st=true:=by simp only[dV,ho,hp,hd,FE,hX,hfb,Gc,hT,hb,nY];rfl
 rw[hf];simp only[ah,ig,hg,cX,ho,qK,hp,hT,hb,aI iw,hd,FE,bm,cw,Mv nY]
theorem TH {v:AV}(h:d≠q):(st.put (some d) v).rd (.tmp q)=st.rd (.tmp q):=by simp only[AS.rd,vX h];rfl
theorem akd {cs:az (ax AC)}:(st.fD b cs).rd (.tmp q)=st.rd (.tmp q):=rfl
theorem aan {cs x:ax AC}(h:(nth st.boxes b).getD none=some cs):(nth (iS st.boxes b (some x)) b).getD none=some x:=by
 rw[kB,aI rfl];cases hn:nth st.boxes b with
 |none=>rw[hn]at h;cases h
 |some _=>
  have:b<st.boxes.length:=by rw[eH]at hn;exact(aA.1 hn).1
  rw[aI this];rfl
theorem aao {b2:Nat}{x:ax AC}(h:b≠b2):nth (iS st.boxes b (some x)) b2=nth st.boxes b2:=by rw[kB,aG h]
theorem ami {o p:Oper}(ha:ab8 an o p=true)(h1:cM E Γ an ops X o st=some s1)(h2:cM E Γ an ops Y p s1=some s2): ∃t1,cM E Γ an ops Y p st=some t1/\cM E Γ an ops X o t1=some s2:=by
 simp only[ab8,ae,cY,aN]at ha;obtain⟨⟨ha,m1⟩,m2⟩:=ha;have m1:=nA m1;have m2:=nA m2;rcases ha with⟨ht,hf⟩|⟨hf,ht⟩;obtain⟨T,q,d,ho,hd,hg,FE,Jr⟩:=Rh ht;obtain⟨T2,q2,d2,hp,Wv,IU,XQ,afv⟩:=Pr hf;have n1:d≠d2:=λe=>m1 d (by simp[hd]) (by simp[Wv,e]);have n2:d≠q2:=λe=>m1 d (by simp[hd]) (by simp[eo,hp,tm,e]);have n3:d2≠q:=λe=>m2 d2 (by simp[Wv]) (by simp[eo,ho,tm,e]);obtain⟨sh,b,off,cs,hT,hr,hb,iw,hX,aop,On,rfl⟩:=(HK ht ho hd hg FE).1 h1;obtain⟨sh2,b2,Sc,FM,hT2,RV,SZ,adP,hX2,Vn,rfl⟩:=(Hl hp Wv IU XQ afv).1 h2;rw[TH n2,akd]at RV;have kQ:(nth (iS st.boxes b (some (eZ cs off (bf st.ep ((cs.drop off).take sh.ct.size))))) b2).getD none=some FM:=SZ;have si:∃Sz,(nth st.boxes b2).getD none=some Sz/\Sc+sh2.ct.size<=Sz.length/\(FM.drop Sc).take sh2.ct.size=(Sz.drop Sc).take sh2.ct.size:=by
  by_cases hbb:b=b2;subst hbb;rw[aan hb]at kQ;cases kQ;have hlen:(eZ cs off (bf st.ep ((cs.drop off).take sh.ct.size))).length=cs.length:=by simp only[eZ,bf,ai,bH,aV,aJ];omega
  exact⟨cs,hb,by omega,KZ iw (.inr Vn)⟩;rw[aao hbb]at kQ;exact⟨FM,kQ,adP,rfl⟩
 obtain⟨Sz,Ve,XL,he⟩:=si;rw[he]at Vn⊢;refine⟨_,(Hl hp Wv IU XQ afv).2 ⟨sh2,b2,Sc,Sz,hT2,RV,Ve,XL,hX2,Vn,rfl⟩,(HK ht ho hd hg FE).2 ⟨sh,b,off,cs,hT,by rw[TH n3];exact hr,hb,iw,hX,aop,λhm=>?_,?_⟩⟩;have:=On hm;unfold Gc at this⊢;exact this;simp only[AS.put,AS.fD,AS.mk.injEq,jw];exact jQ _ n1 _ _;obtain⟨T,q,d,ho,hd,hg,FE,On⟩:=Pr hf;obtain⟨T2,q2,d2,hp,Wv,IU,XQ,aoo⟩:=Rh ht;have n1:d≠d2:=λe=>m1 d (by simp[hd]) (by simp[Wv,e]);have n2:d≠q2:=λe=>m1 d (by simp[hd]) (by simp[eo,hp,tm,e]);have n3:d2≠q:=λe=>m2 d2 (by simp[Wv]) (by simp[eo,ho,tm,e]);obtain⟨sh,b,off,cs,hT,hr,hb,iw,hX,nY,rfl⟩:=(Hl ho hd hg FE On).1 h1;obtain⟨sh2,b2,Sc,FM,hT2,RV,SZ,adP,hX2,aop,afv,rfl⟩:=(HK ht hp Wv IU XQ).1 h2;rw[TH n2]at RV;refine⟨_,(HK ht hp Wv IU XQ).2 ⟨sh2,b2,Sc,FM,hT2,RV,SZ,adP,hX2,aop,λhm=>afv hm,rfl⟩,?_⟩;have si:∃Sz,(nth (iS st.boxes b2 (some (eZ FM Sc (bf st.ep ((FM.drop Sc).take sh2.ct.size))))) b).getD none=some Sz/\off+sh.ct.size<=Sz.length/\(Sz.drop off).take sh.ct.size=(cs.drop off).take sh.ct.size:=by
  by_cases hbb:b2=b;subst hbb;have Lz:FM=cs:=bN (SZ.symm.trans hb);subst Lz;have hlen:(eZ FM Sc (bf st.ep ((FM.drop Sc).take sh2.ct.size))).length=FM.length:=by simp only[eZ,bf,ai,bH,aV,aJ];omega
  exact⟨_,aan hb,by omega,KZ adP (.inl nY)⟩;exact⟨cs,by rw[aao hbb];exact hb,iw,rfl⟩
 obtain⟨Sz,Ve,XL,he⟩:=si;refine(Hl ho hd hg FE On).2 ⟨sh,b,off,Sz,hT,by rw[TH n3,akd];exact hr,Ve,XL,hX,by rw[he];exact nY,?_⟩;rw[he];simp only[AS.put,AS.fD,AS.mk.injEq,jw];exact jQ _ n1 _ _
theorem Rf {o:Oper}(ht:GW an o=true)(ho:o.op=.load T (.tmp q))(hd:o.dst=some d)(hg:o.guard=none)(FE:an.mv.contains d=true)(Jr:an.mb d=none):cM E Γ an ops X o st=some s↔ ∃(g:Bool)(e:CT)(kU:ax (Nat×Nat))(b j t Pf:Nat)(x:e.D)(i:Int)(cs:ax AC)(ys:ax e.D)(y:e.D),jU E.ty T=some ⟨g,e,kU⟩/\st.rd (.tmp q)=.val false [.Dy (.loc Pf (some (.box b j,t))) e x i 0]/\(nth st.boxes b).getD none=some cs/\nth cs j=some (.sl (.own (some t)) e ys)/\idx ys i=some y/\ X.contains b=false/\an.eb q=some b/\fmB an o=false/\s=(K8 st b j t e i cs ys).put (some d) (.val g (cellsOf e (.own none) y)):=by rw[<-Re ht ho hd FE Jr];unfold cM;cases dV E an X o st with|false=>simp|true=>simp only[ah,ig,hg,cX,ho,true_and]
theorem agK {o:Oper}(h:De an o=true):∃T q d,o.op=.load T (.tmp q)/\o.dst=some d/\o.guard=none/\an.mv.contains d=false/\fmB an o=false:=by unfold De at h;split at h;rename_i T q d ho hd hg;simp only[ae,aN]at h;exact⟨T,q,d,ho,hd,hg,h.1.1,by simp only[fmB,hd];exact h.1.2⟩;cases h
theorem Qz {o:Oper}(Hu:De an o=true)(ho:o.op=.load T (.tmp q))(hd:o.dst=some d)(hg:o.guard=none)(FE:an.mv.contains d=false)(On:fmB an o=false):cM E Γ an ops X o st=some s↔ ∃sh b off cs,jU E.ty T=some sh/\st.rd (.tmp q)=.val false [.ptr b off]/\(nth st.boxes b).getD none=some cs/\off+sh.ct.size<=cs.length/\X.contains b=false/\ s=st.put (some d) (.val sh.agg (jj st.ep (.box b) off ((cs.drop off).take sh.ct.size))):=by
 unfold cM;constructor;intro h;cases hf:dV E an X o st with|false=>rw[hf]at h;cases h|true=>rw[hf]at h;simp only[ah,ig,hg,cX,ho]at h;unfold qK at h;split at h;rename_i sh b off hT hp;simp only[dV,ho,hp,hd,FE,On,bt,iO,gw,aN]at hf;split at h;rename_i cs hb;split at h;rename_i iw;simp only[hd,FE,bm,cw]at h;cases h;exact⟨sh,b,off,cs,hT,hp,hb,iw,hf,rfl⟩;cases h;cases h;rename_i hp;simp only[dV,ho,hp,Hu,aj,fG,dJ]at hf;cases hf;cases h
 rintro⟨sh,b,off,cs,hT,hp,hb,iw,hX,rfl⟩;have hf:dV E an X o st=true:=by simp only[dV,ho,hp,hd,FE,hX,On];rfl
 rw[hf];simp only[ah,ig,hg,cX,ho,qK,hp,hT,hb,aI iw,hd,FE,bm,cw]
theorem OU:∀(cs:ax AC)(p k:Nat)(c':AC),(∀c,cs[k]?=some c->∀r,c'.borrow ep (some r)=c.borrow ep (some r))->jj ep (.box b) p (cs.set k c')=jj ep (.box b) p cs
 |[],_,_,_,_=>rfl
 |c::cs,p,0,c',h=>by simp only[List.set_cons_zero,jj,h c rfl]
 |c::cs,p,k+1,c',h=>by simp only[List.set_cons_succ,jj];rw[OU cs (p+1) k c' (λc hc=>h c (by simpa using hc))]
theorem WM {j n:Nat}{e:CT}{i:Int}{ys:ax e.D}{cs:ax AC}(hj:nth cs j=some (.sl (.own (some t)) e ys)): jj ep (.box b) off (((iS cs j (.sl (.ga (some t) i (some ep)) e ys)).drop off).take n)=jj ep (.box b) off ((cs.drop off).take n):=by rw[gj,List.drop_set];split;rfl;rename_i gH;rw[List.take_set];refine OU _ _ _ _ λc hc r=>?_;by_cases hn:j-off<n;rw[eM hn,bQ,show off+(j-off)=j by omega,<-eH,hj]at hc;cases hc;rfl;rw[bI (by simp;omega)]at hc;cases hc
theorem alD {o p:Oper}(ha:aat an o p=true)(h1:cM E Γ an ops X o st=some s1)(h2:cM E Γ an ops Y p s1=some s2): ∃t1,cM E Γ an ops Y p st=some t1/\cM E Γ an ops X o t1=some s2:=by
 simp only[aat,ae,aN]at ha;obtain⟨⟨⟨Hu,ht⟩,m1⟩,m2⟩:=ha;have m1:=nA m1;have m2:=nA m2;obtain⟨T,q,d,ho,hd,hg,FE,On⟩:=agK Hu;obtain⟨T2,q2,d2,hp,Wv,IU,XQ,aoo⟩:=T5 ht;have n1:d≠d2:=λe=>m1 d (by simp[hd]) (by simp[Wv,e]);have n2:d≠q2:=λe=>m1 d (by simp[hd]) (by simp[eo,hp,tm,e]);have n3:d2≠q:=λe=>m2 d2 (by simp[Wv]) (by simp[eo,ho,tm,e]);obtain⟨sh,b,off,cs,hT,hr,hb,iw,hX,rfl⟩:=(Qz Hu ho hd hg FE On).1 h1;obtain⟨g,e,kU,b2,j,t,Pf,x,i,FM,ys,y,hT2,RV,SZ,hj,hi,hX2,Vg,afv,rfl⟩:=(Rf ht hp Wv IU XQ aoo).1 h2;rw[TH n2]at RV;have aqk:(nth st.boxes b2).getD none=some FM:=SZ;refine⟨_,(Rf ht hp Wv IU XQ aoo).2 ⟨g,e,kU,b2,j,t,Pf,x,i,FM,ys,y,hT2,RV,aqk,hj,hi,hX2,Vg,afv,rfl⟩,?_⟩;have si:∃Sz,(nth (iS st.boxes b2 (some (iS FM j (.sl (.ga (some t) i (some st.ep)) e ys)))) b).getD none=some Sz/\off+sh.ct.size<=Sz.length/\jj st.ep (.box b) off ((Sz.drop off).take sh.ct.size)=jj st.ep (.box b) off ((cs.drop off).take sh.ct.size):=by by_cases hbb:b2=b;subst hbb;have Lz:FM=cs:=bN (aqk.symm.trans hb);subst Lz;exact⟨_,aan hb,by rw[gj,aC];exact iw,WM hj⟩;exact⟨cs,by rw[aao hbb];exact hb,iw,rfl⟩
 obtain⟨Sz,Ve,XL,he⟩:=si;refine(Qz Hu ho hd hg FE On).2 ⟨sh,b,off,Sz,hT,by rw[TH n3];exact hr,Ve,XL,hX,?_⟩;show _=((K8 st b2 j t e i FM ys).put (some d2) _).put (some d) (.val sh.agg (jj st.ep (.box b) off ((Sz.drop off).take sh.ct.size)));rw[he];simp only[AS.put,K8,AS.fD,AS.mk.injEq,jw];exact jQ _ n1 _ _
def Sg (E:Env)(Γ:BV)(an:An)(ops:ax Oper)(X:Nat->fK):fK->AS->az AS
 |[],st=>some st
 |i::r,st=>match nth ops i with
  |some o=>(cM E Γ an ops (X i) o st).bind (Sg E Γ an ops X r)
  |none=>none
theorem QR (CK:∀f,(Γ f).io=false/\((Γ f).bx=true->(Γ f).cur=true)/\(Γ f).pr=false){X:Nat->fK}{oi:Oper}(hi:nth ops i=some oi):∀(pre post:fK)(st r:AS),(∀j∈pre,∀oj,nth ops j=some oj->ON an ops (X j) (X i) oj oi=true)->
 Sg E Γ an ops X (pre++i::post) st=some r->Sg E Γ an ops X (i::(pre++post)) st=some r
 |[],post,st,r,_,h=>h
 |j::pre,post,st,r,ha,h=>by
  simp only[List.cons_append,Sg]at h;cases hj:nth ops j with
  |none=>rw[hj]at h;cases h
  |some oj=>
   rw[hj]at h;simp only at h;obtain⟨s1,h1,h2⟩:=aZ.1 h;have h3:=QR CK hi pre post s1 r (λk hk=>ha k (by simp[hk])) h2;simp only[Sg,hi]at h3;obtain⟨s2,h4,h5⟩:=aZ.1 h3;have hap:=ha j (by simp) oj hj;obtain⟨t1,k1,k2⟩:∃t1,cM E Γ an ops (X i) oi st=some t1/\cM E Γ an ops (X j) oj t1=some s2:=by cases hx:aj7 an oj oi with|false=>rw[ON,hx,cJ]at hap;exact ac6 CK hap h1 h4|true=>simp only[aj7,cY]at hx;rcases hx with((hx|hx)|hx)|hx;exact aiM hx h1 h4;exact alH hx h1 h4;exact ami hx h1 h4;exact alD hx h1 h4
   simp only[Sg,hi,k1,fu,List.cons_append,hj,k2];exact h5
end Go.Dn
