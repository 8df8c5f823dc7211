import Derived.Test.YtbebkmajekhclaaGreatDnUpd
/- Operations that are apart may change places. -/
namespace Go.Dn
variable {E:Env} {Γ:Dy} {an:An} {ops:aw Oper}
variable {s s1 s2 st:AS} {b d ep i off q t:Nat} {α:Type} {T:TypeId} {X Y:fA}
def dh (E:Env)(Γ:Dy)(an:An)(ops:aw Oper)(X:fA)(o:Oper)(st:AS):az AS:=
 bif dM E an X o st then ia E Γ an ops o st some else none
structure VL (an:An) (ops:List Oper) (X:List Nat) (o:Oper) (st st2:AS):Prop where
 base:iC an X o st st2
 gd:∀t∈HA an ops o,st2.get t=st.get t
theorem aaP {b:Bool}(h:st.get d=.val false [.bool b]):st.put (some d) (.one (.bool b))=st:=by cases st with|mk slots boxes ep iss io=>simp only[AS.put,AS.mk.injEq,jg];rw[fV];apply dj;intro i;rw[bO];split;rename_i hd;subst hd;simp only[AS.get,ez]at h;split;rename_i gr;rw[ak gr]at h⊢;simp only[fY]at h;rw[h];rename_i BN;rw[bJ (kM BN)];rfl
theorem Ww {st2:AS}{s:Nat}(h:nth st2.boxes s=nth st.boxes s):Hu E T st2 s off=Hu E T st s off:=by unfold Hu;rw[h]
theorem Kl {o:Oper}{st2:AS}(ha:iC an X o st st2):dM E an X o st2=dM E an X o st:=by
 unfold dM;split;rename_i ho;rw[ha.rd (λt ht=>by simpa[dZ,ho]using ht)];rename_i T p ho;rw[ha.rd (λt ht=>by simp[dZ,ho,ht]),ha.ep];rename_i ho;rw[ha.rd (λt ht=>by simp[dZ,ho,ht]),ha.ep];rename_i f args ts ho;have hcur:vJ an X (erS an o) st2 args.toList=vJ an X (erS an o) st args.toList:=by
  have hl:∀x∈args.toList,∀t∈tm x,t∈dZ o:=by intro x hx t ht;simp only[dZ,ho,aA,TK,List.mem_flatMap];exact .inr ⟨x,hx,ht⟩
  generalize args.toList=l at hl;cases l with
  |nil=>rfl
  |cons x xs=>
   have Jx:xs.all (LZ (erS an o) st2)=xs.all (LZ (erS an o) st):=by
    rw[cG];simp only[aF];have e:∀y∈xs,LZ (erS an o) st2 y=LZ (erS an o) st y:=by intro y hy;cases y with|tmp t=>have hg:=ha.get t (hl (.tmp t) (by simp[hy]) t (by simp[tm]));simp only[LZ,hg]|const v=>rfl|func v=>rfl|global v=>rfl
    exact⟨λg y hy=>by rw[<-e y hy];exact g y hy,λg y hy=>by rw[e y hy];exact g y hy⟩
   have hr:=ha.rd (hl x (by simp));cases x with
   |tmp q=>
    simp only[vJ,hr];generalize st.rd (.tmp q)=v;unfold ajx;rw[Jx];split;rename_i s off;cases hX:X.contains s with|true=>simp|false=>rw[ha.box s hX]
    rfl
   |const v=>simp only[vJ,hr]
   |func v=>simp only[vJ,hr]
   |global v=>simp only[vJ,hr]
 rw[hcur];congr 1;rw[cG];simp only[aF];constructor;intro hx x hm;have:=hx x hm;rwa[ha.rd (λt ht=>by simp only[dZ,ho,aA,TK,List.mem_flatMap];exact .inr ⟨x,hm,ht⟩),ha.ep]at this;intro hx x hm;rw[ha.rd (λt ht=>by simp only[dZ,ho,aA,TK,List.mem_flatMap];exact .inr ⟨x,hm,ht⟩),ha.ep];exact hx x hm;rename_i ho;rw[ha.rd (λt ht=>by simpa[dZ,ho]using ht),ha.ep];split;rename_i s off _;cases hX:X.contains s with|true=>rfl|false=>rw[Ww (ha.box s hX)]
 rfl;rfl;rename_i ho;rw[ha.rd (λt ht=>by simp only[dZ,ho,aA];exact .inl ht)];rename_i ho;rw[ha.get _ (by simp[dZ,ho])];rfl
theorem Ou (DA:∀f,(Γ f).io=false/\((Γ f).bx=true->(Γ f).cur=true)/\(Γ f).pr=false){o:Oper}{cp:AS}(hm:oI an o=true)(h:dh E Γ an ops X o st=some cp): ∃u:MA,u.J3 an o/\cp=u.apply st/\∀st2,VL an ops X o st st2->dh E Γ an ops X o st2=some (u.apply st2):=by
 unfold dh at h;cases hf:dM E an X o st with
 |false=>rw[hf]at h;cases h
 |true=>
  rw[hf]at h;simp only[ah]at h;unfold ia at h;split at h;rename_i hg;obtain⟨u,h1,h2,h3⟩:=Sv (X:=X) DA hm hf h;refine⟨u,h1,h2,λst2 ha=>?_⟩;unfold dh;rw[Kl ha.base,hf];simp only[ah,ia,hg];exact h3 st2 ha.base;rename_i j KI hg;split at h;rename_i d hd;have yK:d∈HA an ops o:=by simp[HA,hg,hd]
  split at h;rename_i b hb;have hgo:(if(b==KI)=true then dp E Γ an o st some else some (st.put o.dst (.one .un)))=some cp:=by cases b<;>simpa only[ah,ae,aaP hb]using h
  have h2g:∀st2,VL an ops X o st st2->dh E Γ an ops X o st2=(if(b==KI)=true then dp E Γ an o st2 some else some (st2.put o.dst (.one .un))):=by
   intro st2 ha;have hb2:st2.get d=.val false [.bool b]:=by rw[ha.gd d yK];exact hb
   unfold dh;rw[Kl ha.base,hf];simp only[ah,ia,hg,hd,hb2];cases b<;>simp only[ah,ae,aaP hb2]
  split at hgo;rename_i hw;obtain⟨u,h1,h2,h3⟩:=Sv (X:=X) DA hm hf hgo;exact⟨u,h1,h2,λst2 ha=>by rw[h2g st2 ha,aI hw];exact h3 st2 ha.base⟩;rename_i hw;cases hgo;exact⟨GI o (.one .un),ES _,by rw[uD],λst2 ha=>by rw[h2g st2 ha,aK hw,uD]⟩;rename_i hb;cases h;refine⟨GI o (.one .un),ES _,by rw[uD],λst2 ha=>?_⟩;have hb2:st2.get d=.val false [.un]:=by rw[ha.gd d yK];exact hb
  unfold dh;rw[Kl ha.base,hf,uD];simp only[ah,ia,hg,hd,hb2];cases h;cases h
theorem jC (l:aw α){j:Nat}(h:i≠j)(v w:α):iO (iO l i v) j w=iO (iO l j w) i v:=by rw[fV,fV,fV,fV,List.set_comm _ _ h]
theorem aea (l:aw AV)(a:aw (Nat×AV))(v:AV)(h:∀x∈a,x.1≠i):kG (iO l i v) a=iO (kG l a) i v:=by induction a generalizing l with|nil=>rfl|cons x a ih=>simp only[kG];rw[jC _ (df (h x (by simp))),ih _ (λy hy=>h y (by simp[hy]))]
theorem aaM (l:aw AV)(a b:aw (Nat×AV))(h:∀x∈a,∀y∈b,x.1≠y.1):kG (kG l a) b=kG (kG l b) a:=by induction b generalizing l with|nil=>rfl|cons y b ih=>simp only[kG];rw[<-aea l a y.2 (λx hx=>h x hx y (by simp)),ih _ (λx hx z hz=>h x hx z (by simp[hz]))]
theorem Ty (l:aw AV)(a:aw (Nat×AV))(h:∀x∈a,x.1≠t):nth (kG l a) t=nth l t:=by induction a generalizing l with|nil=>rfl|cons x a ih=>rw[kG,ih _ (λy hy=>h y (by simp[hy])),kl,aK (h x (by simp))]
theorem mR {a b:fA}(h:meets a b=false):∀x∈a,x∉b:=by intro x hx hb;unfold meets at h;rw[List.any_eq_false]at h;exact h x hx (by simpa using hb)
theorem MA.ajk {u:MA}{o p:Oper}(hw:u.J3 an o)(h1:∀x∈writes an o,x∉dZ p++HA an ops p++writes an p)(h2:∀d∈Ij an o,Y.contains d=true)(h3:∀d∈Ij an o,p.dst≠some d): VL an ops Y p (u.apply st) st/\VL an ops Y p st (u.apply st):=by
 have iL:∀t,t∈dZ p++HA an ops p++writes an p->(u.apply st).get t=st.get t:=by intro t ht;unfold AS.get;have:nth (u.apply st).slots t=nth st.slots t:=Ty _ _ (λx hx he=>h1 _ (hw.slots x hx) (by rw[he];exact ht));rw[this]
 have ag4:∀d,p.dst=some d->nth (u.apply st).iss d=nth st.iss d/\nth (u.apply st).boxes d=nth st.boxes d:=by
  intro d hd;have hd':d∈dZ p++HA an ops p++writes an p:=by simp[writes,hd]
  have Fe:o.dst≠some d:=λhe=>h1 d (by simp[writes,he]) hd';constructor;unfold MA.apply;cases hi:u.iss with|none=>rfl|some k=>simp only;rw[kl,aK];rintro rfl;exact Fe (hw.iss _ hi)
  unfold MA.apply;cases hi:u.box with|none=>rfl|some k=>simp only;rw[kl,aK];intro he;exact h3 _ (hw.box k hi) (by rw[he];exact hd)
 have asq:∀s,Y.contains s=false->nth (u.apply st).boxes s=nth st.boxes s:=by intro s hs;unfold MA.apply;cases hi:u.box with|none=>rfl|some k=>simp only;rw[kl,aK];rintro rfl;have:=h2 k.1 (hw.box k hi);rw[this]at hs;cases hs
 have hlen:(u.apply st).slots.length=st.slots.length:=RU _ _;exact⟨⟨⟨hlen.symm,λt ht=>(iL t (by simp[ht])).symm,rfl,λd hd=>⟨((ag4 d hd).1).symm,((ag4 d hd).2).symm⟩,λs hs=>(asq s hs).symm,λt ht=>(iL t (by simp[HA,ht])).symm⟩,λt ht=>(iL t (by simp[ht])).symm⟩,⟨⟨hlen,λt ht=>iL t (by simp[ht]),rfl,ag4,asq,λt ht=>iL t (by simp[HA,ht])⟩,λt ht=>iL t (by simp[ht])⟩⟩
theorem abO {u v:MA}{o p:Oper}(hu:u.J3 an o)(hv:v.J3 an p)(h:∀x∈writes an o,x∉writes an p)(hb:∀x∈Ij an o,x∉Ij an p):v.apply (u.apply st)=u.apply (v.apply st):=by
 have WE:∀a b,o.dst=some a->p.dst=some b->a≠b:=λa b ha hb he=>h a (by simp[writes,ha]) (by simp[writes,hb,he]);have hs:=aaM st.slots u.slots v.slots (λx hx y hy he=>h _ (hu.slots x hx) (by rw[he];exact hv.slots y hy));simp only[MA.apply,AS.mk.injEq,true_and,jg];refine⟨hs,?_,?_⟩;cases hub:u.box with|none=>cases v.box<;>rfl|some k=>cases hvb:v.box with|none=>rfl|some l=>exact jC _ (λhe=>hb _ (hu.box k hub) (by rw[he];exact hv.box l hvb)) _ _
 cases hui:u.iss with|none=>cases v.iss<;>rfl|some k=>cases hvi:v.iss with|none=>rfl|some l=>exact jC _ (WE _ _ (hu.iss k hui) (hv.iss l hvi)) _ _
theorem aeI (DA:∀f,(Γ f).io=false/\((Γ f).bx=true->(Γ f).cur=true)/\(Γ f).pr=false){o p:Oper}(ha:abM an ops X Y o p=true)(h1:dh E Γ an ops X o st=some s1)(h2:dh E Γ an ops Y p s1=some s2): ∃t1,dh E Γ an ops Y p st=some t1/\dh E Γ an ops X o t1=some s2:=by
 simp only[abM,af,aM,aF]at ha;obtain⟨⟨⟨⟨⟨⟨⟨mo,mp⟩,w1⟩,w2⟩,b1⟩,b2⟩,b3⟩,b4⟩:=ha;have w1:=mR w1;have w2:=mR w2;have b3:=mR b3;have b4:=mR b4;obtain⟨u,hu,rfl,hu2⟩:=Ou DA mo h1;obtain⟨v,hv,rfl,WS⟩:=Ou DA mp h2;have ag1:=MA.ajk (ops:=ops) (p:=p) (Y:=Y) (st:=st) hu w1 b1 (λd hd he=>b3 d hd (by simp[he]));have hww:∀x∈writes an p,x∉dZ o++HA an ops o++writes an o:=by intro x hx hm;rcases aA.1 hm with hm|hm;exact w2 x hx hm;exact w1 x hm (by simp[hx])
 have ag2:=MA.ajk (ops:=ops) (p:=o) (Y:=X) (st:=st) hv hww b2 (λd hd he=>b4 d hd (by simp[he]));refine⟨v.apply st,WS st ag1.1,?_⟩;rw[hu2 _ ag2.2,abO hu hv (λx hx hm=>w1 x hx (by simp[hm])) (λx hx hm=>b3 x hx (by simp[hm]))]
theorem Lj {v w:AV}(h:st.get t=v)(hv:v≠ .bot):(st.put (some t) w).get t=w:=by
 unfold AS.get at h;cases hn:nth st.slots t with
 |none=>rw[hn]at h;exact absurd h.symm hv
 |some q=>
  have hl:t<st.slots.length:=by rw[ez]at hn;exact(aC.1 hn).1
  unfold AS.get AS.put;simp only[ez,fV];rw[cw hl];rfl
theorem wI {w:AV}(h:d≠t):(st.put (some d) w).get t=st.get t:=by unfold AS.get AS.put;simp only[kl,aK h]
theorem E4 {o:Oper}(ho:o.op=.extract (.tmp t) i)(hd:o.dst=some d)(hg:o.guard=none):dh E Γ an ops X o st=some s↔ ∃vs g cs,st.get t=.yC vs/\nth vs i=some (g,cs)/\(cs.all AC.kh||an.mv.contains d)=true/\s=(st.put (some t) (.yC (iO vs i (g,bl 0 cs)))).put (some d) (.val g cs):=by
 unfold dh;simp only[dM,ho,hd];constructor;intro h;cases hv:st.get t with|val g cs=>simp only[hv,ah,ia,hg,dp,ho,mJ]at h;cases h|yC vs=>simp only[hv]at h;cases hn:nth vs i with|none=>simp only[hn,ah,ia,hg,dp,ho,mJ,hv]at h;cases h|some x=>obtain⟨g,cs⟩:=x;simp only[hn]at h;cases hf:(cs.all AC.kh||an.mv.contains d)with|false=>rw[hf]at h;cases h|true=>rw[hf]at h;simp only[ah,ia,hg,dp,ho,mJ,hv,hn,hd]at h;cases h;exact⟨vs,g,cs,rfl,hn,hf,rfl⟩
 rintro⟨vs,g,cs,hv,hn,hf,rfl⟩;simp only[hv,hn,hf,ah,ia,hg,dp,ho,mJ,hd]
theorem ait (l:aw α)(i:Nat)(v w:α):iO (iO l i v) i w=iO l i w:=by rw[fV,fV,fV,List.set_set]
theorem akz {o p:Oper}(ha:acS o p=true)(h1:dh E Γ an ops X o st=some s1)(h2:dh E Γ an ops Y p s1=some s2): ∃t1,dh E Γ an ops Y p st=some t1/\dh E Γ an ops X o t1=some s2:=by
 unfold acS at ha;split at ha;rename_i t i t' j d d' ho hp hd hd' hg pw;simp only[af,ba,aM,cg,ne_eq]at ha;obtain⟨⟨⟨⟨rfl,hij⟩,WE⟩,hdt⟩,asu⟩:=ha;obtain⟨vs,g,cs,hv,hn,hf,rfl⟩:=(E4 ho hd hg).1 h1;obtain⟨vs2,g2,Hd,WS,Fc,CV,rfl⟩:=(E4 hp hd' pw).1 h2;have hq:((st.put (some t) (.yC (iO vs i (g,bl 0 cs)))).put (some d) (.val g cs)).get t=.yC (iO vs i (g,bl 0 cs)):=by rw[wI hdt,Lj hv (by simp)]
 rw[hq]at WS;cases WS;rw[kl,aK hij]at Fc;refine⟨_,(E4 hp hd' pw).2 ⟨vs,g2,Hd,hv,Fc,CV,rfl⟩,(E4 ho hd hg).2 ⟨iO vs j (g2,bl 0 Hd),g,cs,?_,?_,hf,?_⟩⟩;rw[wI asu,Lj hv (by simp)];rw[kl,aK (df hij)];exact hn;have e:=jC vs hij (g,bl 0 cs) (g2,bl 0 Hd);have a:∀(A B:AV)(q:Nat)(v:AV),q≠t->iO (iO (iO st.slots t A) q v) t B=iO (iO st.slots t B) q v:=λA B q v hq=>by rw[jC _ hq,ait]
 simp only[AS.put,AS.mk.injEq,jg];rw[a _ _ _ _ hdt,a _ _ _ _ asu,e,jC _ WE];cases ha
theorem afO (s:AS)(t:Nat):s.put (some t) (s.get t)=s:=by cases s with|mk slots boxes ep iss io=>simp only[AS.put,AS.mk.injEq,jg];rw[fV];apply dj;intro i;rw[bO];split;rename_i hd;subst hd;simp only[AS.get,ez];split;rename_i gr;rw[ak gr];rfl;rename_i BN;rw[bJ (kM BN)];rfl
theorem aa8 {o:Oper}(hd:o.dst=some d)(hg:o.guard=none)(ho:(o.op=.move (.tmp t)/\an.mv.contains d=false/\an.fm.contains d=true)\/∃i,o.op=.extract (.tmp t) i)(_hdt:d≠t)(h:dh E Γ an ops X o st=some s): ∃tv v,s=(st.put (some t) tv).put (some d) v/\∀st2:AS,st2.get t=st.get t->dh E Γ an ops X o st2=some ((st2.put (some t) tv).put (some d) v):=by
 rcases ho with⟨ho,GV,Px⟩|⟨i,ho⟩;have Q8:∀st2:AS,st2.get t=st.get t->(st.rd (.tmp t)).lW=true->st2.rd (.tmp t)=st.get t:=by
  intro st2 hq hs;simp only[AS.rd,hq]at hs⊢;cases hv:st.get t with
  |yC vs=>rw[hv]at hs;simp[AV.borrow,AV.lW]at hs
  |val g cs=>
   rw[hv]at hs;simp only[AV.borrow,AV.lW]at hs⊢;congr 1;have key:∀(cs:aw AC)(j:Nat),(iZ st.ep (λj=>lx.slot t j) j cs).all AC.lW=true->iZ st2.ep (λj=>lx.slot t j) j cs=cs:=by
    intro cs;induction cs with
    |nil=>intro j _;rfl
    |cons c cs ih=>
     intro j h;simp only[iZ,bX,af]at h⊢;rw[ih (j+1) h.2];congr 1;cases c with
     |sl fl e xs=>cases fl with|fS _ _ ep=>cases ep<;>simp[AC.borrow,AC.lW]at h|_=>simp[AC.borrow,AC.lW]at h
     |_=>rfl
   exact key cs 0 hs
 unfold dh at h;have nD:(st.rd (.tmp t)).lW=true:=by cases hs:(st.rd (.tmp t)).lW with|true=>rfl|false=>simp only[dM,ho,fmB,hd,Px,hs]at h;cases h
 refine⟨st.get t,st.get t,?_,λst2 hq=>?_⟩;simp only[dM,ho,fmB,hd,Px,nD,iJ,ah,ia,hg,dp,Fs,GV,bn,cJ]at h;cases h;rw[Q8 st rfl nD];congr 1;exact(afO st t).symm;unfold dh;have e1:=Q8 st2 hq nD;have WO:(st2.rd (.tmp t)).lW=true:=by rw[e1,<-Q8 st rfl nD];exact nD
 simp only[dM,ho,fmB,hd,Px,WO,iJ,ah,ia,hg,dp,Fs,GV,bn,cJ];rw[e1,<-hq,afO];obtain⟨vs,g,cs,hv,hn,hf,rfl⟩:=(E4 ho hd hg).1 h;refine⟨_,_,rfl,λst2 hq=>(E4 ho hd hg).2 ⟨vs,g,cs,by rw[hq,hv],hn,hf,rfl⟩⟩
theorem ant {p:Oper}{x:Nat}(hp:p.op=.store T (.tmp q) (.tmp x))(hd:p.dst=none)(hg:p.guard=none)(WG:(an.eb q).isSome=true)(hes:(an.es q).isNone=true)(hsb:(an.sb q).isNone=true)(hl:C2 an p=false)(h:dh E Γ an ops Y p st=some s): ∃B,s=⟨iO st.slots x ((st.get x).bl st.ep),B,st.ep+1,st.iss,st.io⟩/\ ∀st2:AS,st2.get q=st.get q->st2.get x=st.get x->st2.boxes=st.boxes->st2.ep=st.ep->st2.iss=st.iss->st2.io=st.io-> dh E Γ an ops Y p st2=some ⟨iO st2.slots x ((st.get x).bl st.ep),B,st.ep+1,st.iss,st.io⟩:=by
 have gQ:∀st2:AS,st2.get q=st.get q->st2.ep=st.ep->dM E an Y p st2=dM E an Y p st:=by intro st2 h1 h2;simp only[dM,hp,AS.rd,h1,h2]
 unfold dh at h;cases hf:dM E an Y p st with
 |false=>rw[hf]at h;cases h
 |true=>
  rw[hf]at h;simp only[ah,ia,hg,dp,hp,hd,hl,bn,cJ]at h;have jt:=hf;simp only[dM,hp]at jt;have Q3:((an.sb q).isNone&&(an.eb q).isNone&&(an.es q).isNone)=false:=by cases he:an.eb q with|none=>rw[he]at WG;cases WG|some _=>simp
  rw[Q3,cZ]at jt;unfold zC at h;split at h;rename_i Q8;rw[Q8]at jt;simp only[af,ba]at jt;rw[jt.2]at hsb;cases hsb;rename_i sh Qw r tg e y i off hT Q8;rw[Q8]at jt;cases r with
  |slot _ _=>simp only[af,ba]at jt;rw[jt.1.1]at hes;cases hes
  |io _=>simp at jt
  |box b j=>
   split at h;rename_i gg vs st1 vd;have e1:(st.get x)=.val gg vs:=by have:=congrArg Prod.fst vd;exact this
   have e2:st1=⟨iO st.slots x ((st.get x).bl st.ep),st.boxes,st.ep,st.iss,st.io⟩:=by have:=congrArg Prod.snd vd;exact this.symm
   split at h;rename_i hlen;have main:∃B,∀sl:aw AV,(⟨sl,st.boxes,st.ep,st.iss,st.io⟩:AS).qL (.box b j) tg e i off vs some=some ⟨sl,B,st.ep+1,st.iss,st.io⟩:=by
    subst e2;simp only[AS.qL,AS.fL,AS.fP,AS.fD]at h⊢;cases hb:(nth st.boxes b).getD none with
    |none=>rw[hb]at h;simp at h
    |some cs=>
     rw[hb]at h;simp only[ft]at h⊢;split at h;rename_i t' e' xs hn;split at h;rename_i he;simp only[dif_pos he];generalize (he▸xs:aw e.D)=zs at h⊢;split at h;rename_i ht;simp only[aI ht];cases hi:idx zs i with|none=>rw[hi]at h;simp[aa]at h|some y0=>simp only[hi,aa]at h⊢;split at h;exact⟨_,λsl=>rfl⟩;cases h
     cases h;cases h;rename_i t' i' q0 e' xs hn;split at h;rename_i he;simp only[dif_pos he];generalize (he▸xs:aw e.D)=zs at h⊢;split at h;rename_i ht;simp only[aI ht];cases hi:Zz zs i' i with|none=>rw[hi]at h;simp[aa]at h|some y0=>simp only[hi,aa]at h⊢;split at h;exact⟨_,λsl=>rfl⟩;cases h
     cases h;cases h;cases h
   obtain⟨B,hB⟩:=main;refine⟨B,?_,λst2 h1 h2 h3 h4 h5 h6=>?_⟩;subst e2;rw[hB]at h;exact(bM h).symm;unfold dh;rw[gQ st2 h1 h4,hf];have r2:st2.rd (.tmp q)=st.rd (.tmp q):=by simp only[AS.rd,h1,h4]
   have t2:st2.take (.tmp x)=(.val gg vs,⟨iO st2.slots x ((st.get x).bl st.ep),st.boxes,st.ep,st.iss,st.io⟩):=by simp only[AS.take,AS.put,h2,h3,h4,h5,h6,e1]
   simp only[ah,ia,hg,dp,hp,hd,hl,bn,cJ,zC,hT,r2,Q8,t2];rw[aI hlen];exact hB _;cases h;cases h
  cases h
theorem akr {p:Oper}{x:Nat}(hp:p.op=.store T (.tmp q) (.tmp x))(hd:p.dst=none)(hg:p.guard=none)(hes:an.es q=some b)(WG:(an.eb q).isNone=true)(kD:b≠x)(hsb:(an.sb q).isNone=true)(hl:C2 an p=false)(h:dh E Γ an ops Y p st=some s): ∃B,s=⟨iO (iO st.slots x ((st.get x).bl st.ep)) b B,st.boxes,st.ep+1,st.iss,st.io⟩/\ ∀st2:AS,st2.get q=st.get q->st2.get x=st.get x->nth st2.slots b=nth st.slots b->st2.boxes=st.boxes->st2.ep=st.ep->st2.iss=st.iss->st2.io=st.io-> dh E Γ an ops Y p st2=some ⟨iO (iO st2.slots x ((st.get x).bl st.ep)) b B,st.boxes,st.ep+1,st.iss,st.io⟩:=by
 have gQ:∀st2:AS,st2.get q=st.get q->st2.ep=st.ep->dM E an Y p st2=dM E an Y p st:=by intro st2 h1 h2;simp only[dM,hp,AS.rd,h1,h2]
 unfold dh at h;cases hf:dM E an Y p st with
 |false=>rw[hf]at h;cases h
 |true=>
  rw[hf]at h;simp only[ah,ia,hg,dp,hp,hd,hl,bn,cJ]at h;have jt:=hf;simp only[dM,hp]at jt;have Q3:((an.sb q).isNone&&(an.eb q).isNone&&(an.es q).isNone)=false:=by rw[hes];simp
  rw[Q3,cZ]at jt;unfold zC at h;split at h;rename_i Q8;rw[Q8]at jt;simp only[af,ba]at jt;rw[jt.2]at hsb;cases hsb;rename_i sh Qw r tg e y i off hT Q8;rw[Q8]at jt;cases r with
  |box _ _=>simp only[af,ba]at jt;rw[jt.1.1]at WG;cases WG
  |io _=>simp at jt
  |slot b' j=>
   simp only[af,ba]at jt;have hbb:b'=b:=bM (jt.1.1.symm.trans hes);subst hbb;split at h;rename_i gg vs st1 vd;have e1:(st.get x)=.val gg vs:=by have:=congrArg Prod.fst vd;exact this
   have e2:st1=⟨iO st.slots x ((st.get x).bl st.ep),st.boxes,st.ep,st.iss,st.io⟩:=by have:=congrArg Prod.snd vd;exact this.symm
   split at h;rename_i hlen;have main:∃B,∀sl:aw AV,nth sl b'=nth st.slots b'->(⟨sl,st.boxes,st.ep,st.iss,st.io⟩:AS).qL (.slot b' j) tg e i off vs some=some ⟨iO sl b' B,st.boxes,st.ep+1,st.iss,st.io⟩:=by
    subst e2;have iL:∀sl:aw AV,nth sl b'=nth st.slots b'->(⟨sl,st.boxes,st.ep,st.iss,st.io⟩:AS).get b'=st.get b':=λsl hq=>by unfold AS.get;rw[hq]
    have hq0:nth (iO st.slots x ((st.get x).bl st.ep)) b'=nth st.slots b':=by rw[kl,aK (df kD)]
    simp only[AS.qL,AS.fL,AS.fP,iL _ hq0]at h;cases hb:st.get b' with
    |yC _=>rw[hb]at h;simp at h
    |val g0 cs=>
     rw[hb]at h;simp only at h;split at h;rename_i t' e' xs hn;split at h;rename_i he;split at h;rename_i ht;cases hi:idx (he▸xs:aw e.D) i with|none=>rw[hi]at h;simp[aa]at h|some y0=>simp only[hi,aa]at h;split at h;rename_i x' D6;refine⟨.val g0 (iO cs j (.sl (.own (some t')) e ((he▸xs:aw e.D).set i.toNat x'))),λsl hq=>?_⟩;simp only[AS.qL,AS.fL,AS.fP,iL _ hq,hb,hn,dif_pos he,aI ht,hi,aa,D6,AS.put];cases h
     cases h;cases h;rename_i t' i' q0 e' xs hn;split at h;rename_i he;split at h;rename_i ht;cases hi:Zz (he▸xs:aw e.D) i' i with|none=>rw[hi]at h;simp[aa]at h|some y0=>simp only[hi,aa]at h;split at h;rename_i x' D6;refine⟨.val g0 (iO cs j (.sl (.own (some t')) e ((he▸xs:aw e.D).set i.toNat x'))),λsl hq=>?_⟩;simp only[AS.qL,AS.fL,AS.fP,iL _ hq,hb,hn,dif_pos he,aI ht,hi,aa,D6,AS.put];cases h
     cases h;cases h;cases h
   obtain⟨B,hB⟩:=main;refine⟨B,?_,λst2 h1 h2 yL h3 h4 h5 h6=>?_⟩;subst e2;rw[hB _ (by rw[kl,aK (df kD)])]at h;exact(bM h).symm;unfold dh;rw[gQ st2 h1 h4,hf];have r2:st2.rd (.tmp q)=st.rd (.tmp q):=by simp only[AS.rd,h1,h4]
   have t2:st2.take (.tmp x)=(.val gg vs,⟨iO st2.slots x ((st.get x).bl st.ep),st.boxes,st.ep,st.iss,st.io⟩):=by simp only[AS.take,AS.put,h2,h3,h4,h5,h6,e1]
   simp only[ah,ia,hg,dp,hp,hd,hl,bn,cJ,zC,hT,r2,Q8,t2];rw[aI hlen];exact hB _ (by rw[kl,aK (df kD)];exact yL);cases h;cases h
  cases h
theorem ans {o p:Oper}(ha:acO an o p=true)(h1:dh E Γ an ops X o st=some s1)(h2:dh E Γ an ops Y p s1=some s2): ∃t1,dh E Γ an ops Y p st=some t1/\dh E Γ an ops X o t1=some s2:=by
 unfold acO at ha;split at ha;rename_i T q x hp hpd hpg;simp only[af,aM]at ha;obtain⟨⟨⟨WG,hsb⟩,hl⟩,ha⟩:=ha;have asr:∃d t,o.dst=some d/\o.guard=none/\((o.op=.move (.tmp t)/\an.mv.contains d=false/\an.fm.contains d=true)\/∃i,o.op=.extract (.tmp t) i)/\d≠q/\d≠x/\t≠x/\d≠t/\t≠q:=by split at ha;rename_i t d ho hd hg;simp only[af,aM,cg]at ha;exact⟨d,t,hd,hg,.inl ⟨ho,ha.1.1.1.1.1.1,ha.1.1.1.1.1.2⟩,ha.1.1.1.1.2,ha.1.1.1.2,ha.1.1.2,ha.2,ha.1.2⟩;rename_i t i d ho hd hg;simp only[af,aM,cg]at ha;exact⟨d,t,hd,hg,.inr ⟨i,ho⟩,ha.1.1.1.1,ha.1.1.1.2,ha.1.1.2,ha.2,ha.1.2⟩;cases ha
 obtain⟨d,t,hd,hg,ho,hdq,hdx,htx,hdt,htq⟩:=asr;obtain⟨tv,v,rfl,fg⟩:=aa8 hd hg ho hdt h1;have hq:((st.put (some t) tv).put (some d) v).get q=st.get q:=by rw[wI hdq];exact wI htq
 have hx:((st.put (some t) tv).put (some d) v).get x=st.get x:=by rw[wI hdx,wI htx]
 simp only[dk,af]at WG;rcases WG with⟨WG,hes⟩|hes;obtain⟨B,rfl,hgo⟩:=ant hp hpd hpg WG hes hsb hl h2;have k1:=hgo st hq.symm hx.symm rfl rfl rfl rfl;refine⟨_,k1,?_⟩;have Kn:(⟨iO st.slots x ((((st.put (some t) tv).put (some d) v).get x).bl ((st.put (some t) tv).put (some d) v).ep),B,((st.put (some t) tv).put (some d) v).ep+1,((st.put (some t) tv).put (some d) v).iss,((st.put (some t) tv).put (some d) v).io⟩:AS).get t=st.get t:=by simp only[AS.get,kl,aK (df htx)]
 rw[fg _ Kn];simp only[AS.put,bq,AS.mk.injEq,jg];rw[jC _ (df htx),jC _ (df hdx)];cases hb:an.es q with
 |none=>rw[hb]at hes;cases hes
 |some b=>
  rw[hb]at hes;simp only[af,aM,cg]at hes;obtain⟨⟨⟨WG,kD⟩,_⟩,hbw⟩:=hes;have hbw:=mR hbw b (by simp);have hbd:b≠d:=λe=>hbw (by simp[hd,e]);have hbt:b≠t:=λe=>hbw (by refine aA.2 (.inr ?_);rcases ho with⟨ho,_⟩|⟨i,ho⟩<;>simp[dZ,ho,tm,e]);obtain⟨B,rfl,hgo⟩:=akr hp hpd hpg hb WG kD hsb hl h2;have yL:nth st.slots b=nth ((st.put (some t) tv).put (some d) v).slots b:=by simp only[AS.put,kl,aK (df hbd),aK (df hbt)]
  have k1:=hgo st hq.symm hx.symm yL rfl rfl rfl rfl;refine⟨_,k1,?_⟩;have Kn:(⟨iO (iO st.slots x ((((st.put (some t) tv).put (some d) v).get x).bl ((st.put (some t) tv).put (some d) v).ep)) b B,((st.put (some t) tv).put (some d) v).boxes,((st.put (some t) tv).put (some d) v).ep+1,((st.put (some t) tv).put (some d) v).iss,((st.put (some t) tv).put (some d) v).io⟩:AS).get t=st.get t:=by simp only[AS.get,kl,aK (df htx),aK hbt]
  rw[fg _ Kn];simp only[AS.put,bq,AS.mk.injEq,jg];rw[jC _ hbt,jC _ hbd,jC _ (df htx),jC _ (df hdx)]
 cases ha
theorem XN {c:AC}(h:c.lW=true\/(c.borrow ep none).lW=true):c.borrow ep none=c:=by
 cases c with
 |sl fl e xs=>exfalso;cases fl with|fS _ _ ep=>cases ep<;>simp[AC.borrow,AC.lW]at h|_=>simp[AC.borrow,AC.lW]at h
 |_=>rfl
theorem Sq {cs:aw AC}{n:Nat}(ik:off+n<=cs.length)(k:Nat):(eX cs off (bl ep ((cs.drop off).take n)))[k]?=(cs[k]?).map λc=>if off<=k/\k<off+n then c.borrow ep none else c:=by
 have hl:(bl ep ((cs.drop off).take n)).length=n:=by simp[bl];omega
 unfold eX;rw[hl];by_cases h1:k<off;rw[bj,bK (by simp;omega),dV h1];have:(λc:AC=>if off<=k/\k<off+n then c.borrow ep none else c)=id:=by funext c;rw[nI];rfl
 rw[this,Option.map_id];rfl;by_cases h2:k<off+n;rw[bK (by simp[hl];omega),bA (by simp;omega)];have e:k-(cs.take off).length=k-off:=by simp;omega
 rw[e,bl,List.getElem?_map,dV (by omega),bS,show off+(k-off)=k by omega];congr 1;funext c;rw[zip];rw[bA (by simp[hl];omega)];have e:k-(cs.take off++bl ep ((cs.drop off).take n)).length=k-(off+n):=by simp[hl];omega
 rw[e,bS,show off+n+(k-(off+n))=k by omega];have:(λc:AC=>if off<=k/\k<off+n then c.borrow ep none else c)=id:=by funext c;rw[nI];rfl
 rw[this,Option.map_id];rfl
theorem Ml {cs:aw AC}{n o2 n2:Nat}(ik:off+n<=cs.length)(h:((cs.drop o2).take n2).all AC.lW=true\/(((eX cs off (bl ep ((cs.drop off).take n))).drop o2).take n2).all AC.lW=true): ((eX cs off (bl ep ((cs.drop off).take n))).drop o2).take n2=(cs.drop o2).take n2:=by
 apply dj;intro k;by_cases hk:k<n2;rw[dV hk,dV hk,bS,bS,Sq ik];cases hc:cs[o2+k]? with|none=>rfl|some c=>simp only[dD];split;rename_i yK;refine congrArg some (XN ?_);rcases h with h|h;left;refine aF.1 h c (aU (i:=k) ?_);rw[dV hk,bS,hc];right;refine aF.1 h _ (aU (i:=k) ?_);rw[dV hk,bS,Sq ik,hc,dD,aI yK];rfl
 rw[bJ (by simp;omega),bJ (by simp;omega)]
theorem NA:∀{cs:aw AC}{j:Nat},cs.all AC.lW=true->iZ ep (.box b) j cs=cs
 |[],_,_=>rfl
 |c::cs,j,h=>by simp only[bX,af]at h;rw[iZ,NA h.2];congr 1;cases c<;>first|rfl|(simp[AC.lW]at h)
theorem SC {o:Oper}(h:ER an o=true):∃T q d,o.op=.load T (.tmp q)/\o.dst=some d/\o.guard=none/\an.mv.contains d=true/\(an.mb d).isSome=true:=by unfold ER at h;split at h;rename_i T q d ho hd hg;simp only[af]at h;exact⟨T,q,d,ho,hd,hg,h.1,h.2⟩;cases h
theorem QL {o:Oper}(h:QK an o=true):∃T q d,o.op=.load T (.tmp q)/\o.dst=some d/\o.guard=none/\an.mv.contains d=false/\an.fm.contains d=true:=by unfold QK at h;split at h;rename_i T q d ho hd hg;simp only[af,aM]at h;exact⟨T,q,d,ho,hd,hg,h.1,h.2⟩;cases h
theorem I7 {o:Oper}(ht:ER an o=true)(ho:o.op=.load T (.tmp q))(hd:o.dst=some d)(hg:o.guard=none)(GV:an.mv.contains d=true):dh E Γ an ops X o st=some s↔ ∃sh b off cs,jK E.ty T=some sh/\st.rd (.tmp q)=.val false [.ptr b off]/\(nth st.boxes b).getD none=some cs/\off+sh.ct.size<=cs.length/\X.contains b=false/\an.mb d=some b/\(fmB an o=true->Hu E T st b off=true)/\ s=(st.fD b (some (eX cs off (bl st.ep ((cs.drop off).take sh.ct.size))))).put (some d) (.val sh.agg ((cs.drop off).take sh.ct.size)):=by
 have key:dM E an X o st=true->∀r,dp E Γ an o st some=some r->∃b off,st.rd (.tmp q)=.val false [.ptr b off]:=by intro hf r hr;simp only[dp,ho,qv]at hr;split at hr;rename_i hp;exact⟨_,_,hp⟩;rename_i hp;simp only[dM,ho,hp,ht,iJ,al,iu,eF]at hf;cases hf;cases hr
 unfold dh;constructor;intro h;cases hf:dM E an X o st with|false=>rw[hf]at h;cases h|true=>rw[hf]at h;simp only[ah,ia,hg]at h;obtain⟨b,off,hp⟩:=key hf s h;simp only[dM,ho,hp,hd,GV,al,cZ,af,aM,ba,dk]at hf;simp only[dp,ho,qv,hp]at h;cases hT:jK E.ty T with|none=>rw[hT]at h;cases h|some sh=>rw[hT]at h;simp only at h;cases hb:(nth st.boxes b).getD none with|none=>rw[hb]at h;cases h|some cs=>rw[hb]at h;simp only at h;split at h;rename_i ik;simp only[hd,GV,cz]at h;cases h;refine⟨sh,b,off,cs,rfl,hp,hb,ik,hf.1.1,hf.1.2,λhm=>?_,rfl⟩;rcases hf.2 with g|g;rw[hm]at g;cases g;exact g;cases h
 rintro⟨sh,b,off,cs,hT,hp,hb,ik,hX,KP,Px,rfl⟩;have hf:dM E an X o st=true:=by simp only[dM,ho,hp,hd,GV,hX,KP,al,cZ,af,aM,ba,dk];refine⟨⟨cq,cq⟩,?_⟩;cases hm:fmB an o with|false=>exact .inl rfl|true=>exact .inr (Px hm)
 rw[hf];simp only[ah,ia,hg,dp,ho,qv,hp,hT,hb,aI ik,hd,GV,cz]
theorem IB {o:Oper}(ho:o.op=.load T (.tmp q))(hd:o.dst=some d)(hg:o.guard=none)(GV:an.mv.contains d=false)(Px:an.fm.contains d=true):dh E Γ an ops X o st=some s↔ ∃sh b off cs,jK E.ty T=some sh/\st.rd (.tmp q)=.val false [.ptr b off]/\(nth st.boxes b).getD none=some cs/\off+sh.ct.size<=cs.length/\X.contains b=false/\((cs.drop off).take sh.ct.size).all AC.lW=true/\ s=st.put (some d) (.val sh.agg ((cs.drop off).take sh.ct.size)):=by
 have hfb:fmB an o=true:=by simp only[fmB,hd,Px]
 have key:dM E an X o st=true->∀r,dp E Γ an o st some=some r->∃b off,st.rd (.tmp q)=.val false [.ptr b off]:=by intro hf r hr;simp only[dp,ho,qv]at hr;split at hr;rename_i hp;exact⟨_,_,hp⟩;rename_i hp;simp only[dM,ho,hp,hfb,gb,al,iu,eF]at hf;cases hf;cases hr
 unfold dh;constructor;intro h;cases hf:dM E an X o st with
 |false=>rw[hf]at h;cases h
 |true=>
  rw[hf]at h;simp only[ah,ia,hg]at h;obtain⟨b,off,hp⟩:=key hf s h;simp only[dM,ho,hp,hd,GV,hfb,al,bH,gb,cZ,fC,af,aM]at hf;simp only[dp,ho,qv,hp]at h;cases hT:jK E.ty T with
  |none=>rw[hT]at h;cases h
  |some sh=>
   rw[hT]at h;simp only at h;cases hb:(nth st.boxes b).getD none with
   |none=>rw[hb]at h;cases h
   |some cs=>
    rw[hb]at h;simp only at h;split at h;rename_i ik;have nD:((cs.drop off).take sh.ct.size).all AC.lW=true:=by have:=hf.2;unfold Hu at this;rw[hT,hb]at this;exact this
    simp only[hd,GV,bn,cJ,NA nD]at h;cases h;exact⟨sh,b,off,cs,rfl,hp,hb,ik,hf.1,nD,rfl⟩;cases h
 rintro⟨sh,b,off,cs,hT,hp,hb,ik,hX,nD,rfl⟩;have hf:dM E an X o st=true:=by simp only[dM,ho,hp,hd,GV,hX,hfb,Hu,hT,hb,nD];rfl
 rw[hf];simp only[ah,ia,hg,dp,ho,qv,hp,hT,hb,aI ik,hd,GV,bn,cJ,NA nD]
theorem Vc {v:AV}(h:d≠q):(st.put (some d) v).rd (.tmp q)=st.rd (.tmp q):=by simp only[AS.rd,wI h];rfl
theorem alU {cs:az (aw AC)}:(st.fD b cs).rd (.tmp q)=st.rd (.tmp q):=rfl
theorem abU {cs x:aw AC}(h:(nth st.boxes b).getD none=some cs):(nth (iO st.boxes b (some x)) b).getD none=some x:=by
 rw[kl,aI rfl];cases hn:nth st.boxes b with
 |none=>rw[hn]at h;cases h
 |some _=>
  have:b<st.boxes.length:=by rw[ez]at hn;exact(aC.1 hn).1
  rw[aI this];rfl
theorem abV {b2:Nat}{x:aw AC}(h:b≠b2):nth (iO st.boxes b (some x)) b2=nth st.boxes b2:=by rw[kl,aK h]
theorem aod {o p:Oper}(ha:adJ an o p=true)(h1:dh E Γ an ops X o st=some s1)(h2:dh E Γ an ops Y p s1=some s2): ∃t1,dh E Γ an ops Y p st=some t1/\dh E Γ an ops X o t1=some s2:=by
 simp only[adJ,af,dk,aM]at ha;obtain⟨⟨ha,m1⟩,m2⟩:=ha;have m1:=mR m1;have m2:=mR m2;rcases ha with⟨ht,hf⟩|⟨hf,ht⟩;obtain⟨T,q,d,ho,hd,hg,GV,KP⟩:=SC ht;obtain⟨T2,q2,d2,hp,Ux,Kn,Zu,ag6⟩:=QL hf;have n1:d≠d2:=λe=>m1 d (by simp[hd]) (by simp[Ux,e]);have n2:d≠q2:=λe=>m1 d (by simp[hd]) (by simp[dZ,hp,tm,e]);have n3:d2≠q:=λe=>m2 d2 (by simp[Ux]) (by simp[dZ,ho,tm,e]);obtain⟨sh,b,off,cs,hT,hr,hb,ik,hX,aqq,Px,rfl⟩:=(I7 ht ho hd hg GV).1 h1;obtain⟨sh2,b2,Tx,Hd,hT2,Th,hb2,afq,hX2,WO,rfl⟩:=(IB hp Ux Kn Zu ag6).1 h2;rw[Vc n2,alU]at Th;have kD:(nth (iO st.boxes b (some (eX cs off (bl st.ep ((cs.drop off).take sh.ct.size))))) b2).getD none=some Hd:=hb2;have pB:∃T0,(nth st.boxes b2).getD none=some T0/\Tx+sh2.ct.size<=T0.length/\(Hd.drop Tx).take sh2.ct.size=(T0.drop Tx).take sh2.ct.size:=by
  by_cases hbb:b=b2;subst hbb;rw[abU hb]at kD;cases kD;have hlen:(eX cs off (bl st.ep ((cs.drop off).take sh.ct.size))).length=cs.length:=by simp only[eX,bl,ai,bw,aP,aS];omega
  exact⟨cs,hb,by omega,Ml ik (.inr WO)⟩;rw[abV hbb]at kD;exact⟨Hd,kD,afq,rfl⟩
 obtain⟨T0,Uw,Zo,he⟩:=pB;rw[he]at WO⊢;refine⟨_,(IB hp Ux Kn Zu ag6).2 ⟨sh2,b2,Tx,T0,hT2,Th,Uw,Zo,hX2,WO,rfl⟩,(I7 ht ho hd hg GV).2 ⟨sh,b,off,cs,hT,by rw[Vc n3];exact hr,hb,ik,hX,aqq,λhm=>?_,?_⟩⟩;have:=Px hm;unfold Hu at this⊢;exact this;simp only[AS.put,AS.fD,AS.mk.injEq,jg];exact jC _ n1 _ _;obtain⟨T,q,d,ho,hd,hg,GV,Px⟩:=QL hf;obtain⟨T2,q2,d2,hp,Ux,Kn,Zu,aqp⟩:=SC ht;have n1:d≠d2:=λe=>m1 d (by simp[hd]) (by simp[Ux,e]);have n2:d≠q2:=λe=>m1 d (by simp[hd]) (by simp[dZ,hp,tm,e]);have n3:d2≠q:=λe=>m2 d2 (by simp[Ux]) (by simp[dZ,ho,tm,e]);obtain⟨sh,b,off,cs,hT,hr,hb,ik,hX,nD,rfl⟩:=(IB ho hd hg GV Px).1 h1;obtain⟨sh2,b2,Tx,Hd,hT2,Th,hb2,afq,hX2,aqq,ag6,rfl⟩:=(I7 ht hp Ux Kn Zu).1 h2;rw[Vc n2]at Th;refine⟨_,(I7 ht hp Ux Kn Zu).2 ⟨sh2,b2,Tx,Hd,hT2,Th,hb2,afq,hX2,aqq,λhm=>ag6 hm,rfl⟩,?_⟩;have pB:∃T0,(nth (iO st.boxes b2 (some (eX Hd Tx (bl st.ep ((Hd.drop Tx).take sh2.ct.size))))) b).getD none=some T0/\off+sh.ct.size<=T0.length/\(T0.drop off).take sh.ct.size=(cs.drop off).take sh.ct.size:=by
  by_cases hbb:b2=b;subst hbb;have MB:Hd=cs:=bM (hb2.symm.trans hb);subst MB;have hlen:(eX Hd Tx (bl st.ep ((Hd.drop Tx).take sh2.ct.size))).length=Hd.length:=by simp only[eX,bl,ai,bw,aP,aS];omega
  exact⟨_,abU hb,by omega,Ml afq (.inl nD)⟩;exact⟨cs,by rw[abV hbb];exact hb,ik,rfl⟩
 obtain⟨T0,Uw,Zo,he⟩:=pB;refine(IB ho hd hg GV Px).2 ⟨sh,b,off,T0,hT,by rw[Vc n3,alU];exact hr,Uw,Zo,hX,by rw[he];exact nD,?_⟩;rw[he];simp only[AS.put,AS.fD,AS.mk.injEq,jg];exact jC _ n1 _ _
theorem SB {o:Oper}(ht:Ic an o=true)(ho:o.op=.load T (.tmp q))(hd:o.dst=some d)(hg:o.guard=none)(GV:an.mv.contains d=true)(KP:an.mb d=none):dh E Γ an ops X o st=some s↔ ∃(g:Bool)(e:CT)(kF:aw (Nat×Nat))(b j t Qw:Nat)(x:e.D)(i:Int)(cs:aw AC)(ys:aw e.D)(y:e.D),jK E.ty T=some ⟨g,e,kF⟩/\st.rd (.tmp q)=.val false [.Ey (.loc Qw (some (.box b j,t))) e x i 0]/\(nth st.boxes b).getD none=some cs/\nth cs j=some (.sl (.own (some t)) e ys)/\idx ys i=some y/\ X.contains b=false/\an.eb q=some b/\fmB an o=false/\s=(Ms st b j t e i cs ys).put (some d) (.val g (cellsOf e (.own none) y)):=by rw[<-SA ht ho hd GV KP];unfold dh;cases dM E an X o st with|false=>simp|true=>simp only[ah,ia,hg,dp,ho,true_and]
theorem ah8 {o:Oper}(h:Ee an o=true):∃T q d,o.op=.load T (.tmp q)/\o.dst=some d/\o.guard=none/\an.mv.contains d=false/\fmB an o=false:=by unfold Ee at h;split at h;rename_i T q d ho hd hg;simp only[af,aM]at h;exact⟨T,q,d,ho,hd,hg,h.1.1,by simp only[fmB,hd];exact h.1.2⟩;cases h
theorem RQ {o:Oper}(Ha:Ee an o=true)(ho:o.op=.load T (.tmp q))(hd:o.dst=some d)(hg:o.guard=none)(GV:an.mv.contains d=false)(Px:fmB an o=false):dh E Γ an ops X o st=some s↔ ∃sh b off cs,jK E.ty T=some sh/\st.rd (.tmp q)=.val false [.ptr b off]/\(nth st.boxes b).getD none=some cs/\off+sh.ct.size<=cs.length/\X.contains b=false/\ s=st.put (some d) (.val sh.agg (iZ st.ep (.box b) off ((cs.drop off).take sh.ct.size))):=by
 unfold dh;constructor;intro h;cases hf:dM E an X o st with|false=>rw[hf]at h;cases h|true=>rw[hf]at h;simp only[ah,ia,hg,dp,ho]at h;unfold qv at h;split at h;rename_i sh b off hT hp;simp only[dM,ho,hp,hd,GV,Px,bH,gb,fC,aM]at hf;split at h;rename_i cs hb;split at h;rename_i ik;simp only[hd,GV,bn,cJ]at h;cases h;exact⟨sh,b,off,cs,hT,hp,hb,ik,hf,rfl⟩;cases h;cases h;rename_i hp;simp only[dM,ho,hp,Ha,al,iu,eF]at hf;cases hf;cases h
 rintro⟨sh,b,off,cs,hT,hp,hb,ik,hX,rfl⟩;have hf:dM E an X o st=true:=by simp only[dM,ho,hp,hd,GV,hX,Px];rfl
 rw[hf];simp only[ah,ia,hg,dp,ho,qv,hp,hT,hb,aI ik,hd,GV,bn,cJ]
theorem P6:∀(cs:aw AC)(p k:Nat)(c':AC),(∀c,cs[k]?=some c->∀r,c'.borrow ep (some r)=c.borrow ep (some r))->iZ ep (.box b) p (cs.set k c')=iZ ep (.box b) p cs
 |[],_,_,_,_=>rfl
 |c::cs,p,0,c',h=>by simp only[List.set_cons_zero,iZ,h c rfl]
 |c::cs,p,k+1,c',h=>by simp only[List.set_cons_succ,iZ];rw[P6 cs (p+1) k c' (λc hc=>h c (by simpa using hc))]
theorem Yf {j n:Nat}{e:CT}{i:Int}{ys:aw e.D}{cs:aw AC}(hj:nth cs j=some (.sl (.own (some t)) e ys)): iZ ep (.box b) off (((iO cs j (.sl (.fS (some t) i (some ep)) e ys)).drop off).take n)=iZ ep (.box b) off ((cs.drop off).take n):=by rw[fV,List.drop_set];split;rfl;rename_i gr;rw[List.take_set];refine P6 _ _ _ _ λc hc r=>?_;by_cases hn:j-off<n;rw[dV hn,bS,show off+(j-off)=j by omega,<-ez,hj]at hc;cases hc;rfl;rw[bJ (by simp;omega)]at hc;cases hc
theorem ann {o p:Oper}(ha:abX an o p=true)(h1:dh E Γ an ops X o st=some s1)(h2:dh E Γ an ops Y p s1=some s2): ∃t1,dh E Γ an ops Y p st=some t1/\dh E Γ an ops X o t1=some s2:=by
 simp only[abX,af,aM]at ha;obtain⟨⟨⟨Ha,ht⟩,m1⟩,m2⟩:=ha;have m1:=mR m1;have m2:=mR m2;obtain⟨T,q,d,ho,hd,hg,GV,Px⟩:=ah8 Ha;obtain⟨T2,q2,d2,hp,Ux,Kn,Zu,aqp⟩:=VF ht;have n1:d≠d2:=λe=>m1 d (by simp[hd]) (by simp[Ux,e]);have n2:d≠q2:=λe=>m1 d (by simp[hd]) (by simp[dZ,hp,tm,e]);have n3:d2≠q:=λe=>m2 d2 (by simp[Ux]) (by simp[dZ,ho,tm,e]);obtain⟨sh,b,off,cs,hT,hr,hb,ik,hX,rfl⟩:=(RQ Ha ho hd hg GV Px).1 h1;obtain⟨g,e,kF,b2,j,t,Qw,x,i,Hd,ys,y,hT2,Th,hb2,hj,hi,hX2,WG,ag6,rfl⟩:=(SB ht hp Ux Kn Zu aqp).1 h2;rw[Vc n2]at Th;have aso:(nth st.boxes b2).getD none=some Hd:=hb2;refine⟨_,(SB ht hp Ux Kn Zu aqp).2 ⟨g,e,kF,b2,j,t,Qw,x,i,Hd,ys,y,hT2,Th,aso,hj,hi,hX2,WG,ag6,rfl⟩,?_⟩;have pB:∃T0,(nth (iO st.boxes b2 (some (iO Hd j (.sl (.fS (some t) i (some st.ep)) e ys)))) b).getD none=some T0/\off+sh.ct.size<=T0.length/\iZ st.ep (.box b) off ((T0.drop off).take sh.ct.size)=iZ st.ep (.box b) off ((cs.drop off).take sh.ct.size):=by by_cases hbb:b2=b;subst hbb;have MB:Hd=cs:=bM (aso.symm.trans hb);subst MB;exact⟨_,abU hb,by rw[fV,ay];exact ik,Yf hj⟩;exact⟨cs,by rw[abV hbb];exact hb,ik,rfl⟩
 obtain⟨T0,Uw,Zo,he⟩:=pB;refine(RQ Ha ho hd hg GV Px).2 ⟨sh,b,off,T0,hT,by rw[Vc n3];exact hr,Uw,Zo,hX,?_⟩;show _=((Ms st b2 j t e i Hd ys).put (some d2) _).put (some d) (.val sh.agg (iZ st.ep (.box b) off ((T0.drop off).take sh.ct.size)));rw[he];simp only[AS.put,Ms,AS.fD,AS.mk.injEq,jg];exact jC _ n1 _ _
def TA (E:Env)(Γ:Dy)(an:An)(ops:aw Oper)(X:Nat->fA):fA->AS->az AS
 |[],st=>some st
 |i::r,st=>match nth ops i with
  |some o=>(dh E Γ an ops (X i) o st).bind (TA E Γ an ops X r)
  |none=>none
theorem Sc (DA:∀f,(Γ f).io=false/\((Γ f).bx=true->(Γ f).cur=true)/\(Γ f).pr=false){X:Nat->fA}{oi:Oper}(hi:nth ops i=some oi):∀(pre post:fA)(st r:AS),(∀j∈pre,∀oj,nth ops j=some oj->PX an ops (X j) (X i) oj oi=true)->
 TA E Γ an ops X (pre++i::post) st=some r->TA E Γ an ops X (i::(pre++post)) st=some r
 |[],post,st,r,_,h=>h
 |j::pre,post,st,r,ha,h=>by
  simp only[List.cons_append,TA]at h;cases hj:nth ops j with
  |none=>rw[hj]at h;cases h
  |some oj=>
   rw[hj]at h;simp only at h;obtain⟨s1,h1,h2⟩:=aY.1 h;have h3:=Sc DA hi pre post s1 r (λk hk=>ha k (by simp[hk])) h2;simp only[TA,hi]at h3;obtain⟨s2,h4,h5⟩:=aY.1 h3;have hap:=ha j (by simp) oj hj;obtain⟨t1,k1,k2⟩:∃t1,dh E Γ an ops (X i) oi st=some t1/\dh E Γ an ops (X j) oj t1=some s2:=by cases hx:alO an oj oi with|false=>rw[PX,hx,cZ]at hap;exact aeI DA hap h1 h4|true=>simp only[alO,dk]at hx;rcases hx with((hx|hx)|hx)|hx;exact akz hx h1 h4;exact ans hx h1 h4;exact aod hx h1 h4;exact ann hx h1 h4
   simp only[TA,hi,k1,ft,List.cons_append,hj,k2];exact h5
end Go.Dn
