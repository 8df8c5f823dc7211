import Derived.Test.YtgilglpncgncjaaGreatDnUpd
/- Operations that are apart may change places. -/
namespace Go.Dn
variable {E:Env} {Γ:aJ} {an:An} {ops:List Oper}
def stepG (E:Env)(Γ:aJ)(an:An)(ops:List Oper)(X:List Nat)(o:Oper)(st:AS):Option AS:=
 bif bw E an X o st then cU E Γ an ops o st some else none
structure HD (an:An) (ops:List Oper) (X:List Nat) (o:Oper) (st st2:AS):Prop where
 base:cJ an X o st st2
 gd:∀t∈w6 an ops o,st2.get t=st.get t
theorem L8 {st:AS}{d:Nat}{b:Bool}(h:st.get d= .val false [.bool b]):st.put (some d) (.one (.bool b))=st:=by
 cases st with
 |mk slots boxes ep iss io=>
  simp only [AS.put,AS.mk.injEq,and_true]
  rw [bL]
  apply List.ext_getElem?
  intro i
  rw [List.getElem?_set]
  split
  ·rename_i hd
   subst hd
   simp only [AS.get,bm] at h
   split
   ·rename_i hlt
    rw [List.getElem?_eq_getElem hlt] at h⊢
    simp only [Option.getD_some] at h
    rw [h]
   ·rename_i hge
    rw [List.getElem?_eq_none (Nat.le_of_not_lt hge)]
  ·rfl
theorem I2 {T:TypeId}{st st2:AS}{s off:Nat}(h:nth st2.boxes s=nth st.boxes s):w5 E T st2 s off=w5 E T st s off:=by
 unfold w5;rw [h]
theorem yS {X:List Nat}{o:Oper}{st st2:AS}(ha:cJ an X o st st2):bw E an X o st2=bw E an X o st:=by
 unfold bw
 split
 ·rename_i ho
  rw [ha.rd (fun t ht=>by simpa [bp,ho] using ht)]
 ·rename_i T p ho
  rw [ha.rd (fun t ht=>by simp [bp,ho,ht]),ha.ep]
 ·rename_i ho
  rw [ha.rd (fun t ht=>by simp [bp,ho,ht]),ha.ep]
 ·rename_i f args ts ho
  rw [Bool.eq_iff_iff]
  simp only [List.all_eq_true]
  constructor
  ·intro hx x hm
   have:=hx x hm
   rwa [ha.rd (fun t ht=>by simp only [bp,ho,List.mem_append,JS,List.mem_flatMap];exact .inr ⟨x,hm,ht⟩),ha.ep] at this
  ·intro hx x hm
   rw [ha.rd (fun t ht=>by simp only [bp,ho,List.mem_append,JS,List.mem_flatMap];exact .inr ⟨x,hm,ht⟩),ha.ep]
   exact hx x hm
 ·rename_i ho
  rw [ha.rd (fun t ht=>by simpa [bp,ho] using ht),ha.ep]
  split
  ·rename_i s off _
   cases hX:X.contains s with
   |true=>rfl
   |false=>rw [I2 (ha.box s hX)]
  ·rfl
  ·rfl
 ·rename_i ho
  rw [ha.rd (fun t ht=>by simp only [bp,ho,List.mem_append];exact .inl ht)]
 ·rename_i ho
  rw [ha.get _ (by simp [bp,ho])]
 ·rfl
theorem Cb (hΓ:∀f,(Γ f).io=false∧(Γ f).bx=false){X:List Nat}{o:Oper}{st st':AS}(hm:gU an o=true)(h:stepG E Γ an ops X o st=some st'):
 ∃u:BP,u.yK an o∧st'=u.apply st∧∀st2,HD an ops X o st st2→stepG E Γ an ops X o st2=some (u.apply st2):=by
 unfold stepG at h
 cases hf:bw E an X o st with
 |false=>rw [hf] at h;cases h
 |true=>
  rw [hf] at h
  simp only [cond_true] at h
  unfold cU at h
  split at h
  ·rename_i hg
   obtain ⟨u,h1,h2,h3⟩:=Fl (X:=X) hΓ hm hf h
   refine ⟨u,h1,h2,fun st2 ha=> ?_⟩
   unfold stepG
   rw [yS ha.base,hf]
   simp only [cond_true,cU,hg]
   exact h3 st2 ha.base
  ·rename_i j want hg
   split at h
   ·rename_i d hd
    have hin:d∈w6 an ops o:=by simp [w6,hg,hd]
    split at h
    ·rename_i b hb
     have hgo:(if (b==want)=true then aV E Γ an o st some else some (st.put o.dst (.one .un)))=some st':=by
      cases b<;>simpa only [cond_true,cond_false,L8 hb] using h
     have h2g:∀st2,HD an ops X o st st2→stepG E Γ an ops X o st2=(if (b==want)=true then aV E Γ an o st2 some else some (st2.put o.dst (.one .un))):=by
      intro st2 ha
      have hb2:st2.get d= .val false [.bool b]:=by rw [ha.gd d hin];exact hb
      unfold stepG
      rw [yS ha.base,hf]
      simp only [cond_true,cU,hg,hd,hb2]
      cases b<;>simp only [cond_true,cond_false,L8 hb2]
     split at hgo
     ·rename_i hw
      obtain ⟨u,h1,h2,h3⟩:=Fl (X:=X) hΓ hm hf hgo
      exact ⟨u,h1,h2,fun st2 ha=>by rw [h2g st2 ha,if_pos hw];exact h3 st2 ha.base⟩
     ·rename_i hw
      cases hgo
      exact ⟨wm o (.one .un),uI _,by rw [lH],fun st2 ha=>by rw [h2g st2 ha,if_neg hw,lH]⟩
    ·rename_i hb
     cases h
     refine ⟨wm o (.one .un),uI _,by rw [lH],fun st2 ha=> ?_⟩
     have hb2:st2.get d= .val false [.un]:=by rw [ha.gd d hin];exact hb
     unfold stepG
     rw [yS ha.base,hf,lH]
     simp only [cond_true,cU,hg,hd,hb2]
    ·cases h
   ·cases h
theorem dL {α:Type}(l:List α){i j:Nat}(h:i≠j)(v w:α):dj (dj l i v) j w=dj (dj l j w) i v:=by
 rw [bL,bL,bL,bL,List.set_comm _ _ h]
theorem Ok (l:List AV)(a:List (Nat×AV)){i:Nat}(v:AV)(h:∀x∈a,x.1≠i):dT (dj l i v) a=dj (dT l a) i v:=by
 induction a generalizing l with
 |nil=>rfl
 |cons x a ih=>
  simp only [dT]
  rw [dL _ (Ne.symm (h x (by simp))),ih _ (fun y hy=>h y (by simp [hy]))]
theorem L3 (l:List AV)(a b:List (Nat×AV))(h:∀x∈a,∀y∈b,x.1≠y.1):dT (dT l a) b=dT (dT l b) a:=by
 induction b generalizing l with
 |nil=>rfl
 |cons y b ih=>
  simp only [dT]
  rw [←Ok l a y.2 (fun x hx=>h x hx y (by simp)),ih _ (fun x hx z hz=>h x hx z (by simp [hz]))]
theorem F4 (l:List AV)(a:List (Nat×AV)){t:Nat}(h:∀x∈a,x.1≠t):nth (dT l a) t=nth l t:=by
 induction a generalizing l with
 |nil=>rfl
 |cons x a ih=>
  rw [dT,ih _ (fun y hy=>h y (by simp [hy])),dE,if_neg (h x (by simp))]
theorem kt {a b:List Nat}(h:meets a b=false):∀x∈a,x∉b:=by
 intro x hx hb
 unfold meets at h
 rw [List.any_eq_false] at h
 exact h x hx (by simpa using hb)
theorem BP.XR {u:BP}{o p:Oper}{Y:List Nat}{st:AS}(hw:u.yK an o)(h1:∀x∈writes an o,x∉bp p++w6 an ops p++writes an p)(h2:∀d∈zt an o,Y.contains d=true)(h3:∀d∈zt an o,p.dst≠some d):
 HD an ops Y p (u.apply st) st∧HD an ops Y p st (u.apply st):=by
 have hget:∀t,t∈bp p++w6 an ops p++writes an p→(u.apply st).get t=st.get t:=by
  intro t ht
  unfold AS.get
  have:nth (u.apply st).slots t=nth st.slots t:=F4 _ _ (fun x hx he=>h1 _ (hw.slots x hx) (by rw [he];exact ht))
  rw [this]
 have hdst:∀d,p.dst=some d→nth (u.apply st).iss d=nth st.iss d∧nth (u.apply st).boxes d=nth st.boxes d:=by
  intro d hd
  have hd':d∈bp p++w6 an ops p++writes an p:=by simp [writes,hd]
  have hne:o.dst≠some d:=fun he=>h1 d (by simp [writes,he]) hd'
  constructor
  ·unfold BP.apply
   cases hi:u.iss with
   |none=>rfl
   |some k=>
    simp only
    rw [dE,if_neg]
    rintro rfl
    exact hne (hw.iss _ hi)
  ·unfold BP.apply
   cases hi:u.box with
   |none=>rfl
   |some k=>
    simp only
    rw [dE,if_neg]
    intro he
    exact h3 _ (hw.box k hi) (by rw [he];exact hd)
 have hbox:∀s,Y.contains s=false→nth (u.apply st).boxes s=nth st.boxes s:=by
  intro s hs
  unfold BP.apply
  cases hi:u.box with
  |none=>rfl
  |some k=>
   simp only
   rw [dE,if_neg]
   rintro rfl
   have:=h2 k.1 (hw.box k hi)
   rw [this] at hs;cases hs
 have hlen:(u.apply st).slots.length=st.slots.length:=E1 _ _
 exact ⟨⟨⟨hlen.symm,fun t ht=>(hget t (by simp [ht])).symm,rfl,fun d hd=>⟨((hdst d hd).1).symm,((hdst d hd).2).symm⟩,fun s hs=>(hbox s hs).symm,fun t ht=>(hget t (by simp [w6,ht])).symm⟩,fun t ht=>(hget t (by simp [ht])).symm⟩,
  ⟨⟨hlen,fun t ht=>hget t (by simp [ht]),rfl,hdst,hbox,fun t ht=>hget t (by simp [w6,ht])⟩,fun t ht=>hget t (by simp [ht])⟩⟩
theorem M8 {u v:BP}{o p:Oper}{st:AS}(hu:u.yK an o)(hv:v.yK an p)(h:∀x∈writes an o,x∉writes an p)(hb:∀x∈zt an o,x∉zt an p):v.apply (u.apply st)=u.apply (v.apply st):=by
 have hdd:∀a b,o.dst=some a→p.dst=some b→a≠b:=fun a b ha hb he=>h a (by simp [writes,ha]) (by simp [writes,hb,he])
 have hs:=L3 st.slots u.slots v.slots (fun x hx y hy he=>h _ (hu.slots x hx) (by rw [he];exact hv.slots y hy))
 simp only [BP.apply,AS.mk.injEq,true_and,and_true]
 refine ⟨hs, ?_, ?_⟩
 ·cases hub:u.box with
  |none=>cases v.box<;>rfl
  |some k=>
   cases hvb:v.box with
   |none=>rfl
   |some l=>exact dL _ (fun he=>hb _ (hu.box k hub) (by rw [he];exact hv.box l hvb)) _ _
 ·cases hui:u.iss with
  |none=>cases v.iss<;>rfl
  |some k=>
   cases hvi:v.iss with
   |none=>rfl
   |some l=>exact dL _ (hdd _ _ (hu.iss k hui) (hv.iss l hvi)) _ _
theorem OC (hΓ:∀f,(Γ f).io=false∧(Γ f).bx=false){X Y:List Nat}{o p:Oper}{st s1 s2:AS}(ha:M6 an ops X Y o p=true)(h1:stepG E Γ an ops X o st=some s1)(h2:stepG E Γ an ops Y p s1=some s2):
 ∃t1,stepG E Γ an ops Y p st=some t1∧stepG E Γ an ops X o t1=some s2:=by
 simp only [M6,Bool.and_eq_true,Bool.not_eq_true',List.all_eq_true] at ha
 obtain ⟨⟨⟨⟨⟨⟨⟨mo,mp⟩,w1⟩,w2⟩,b1⟩,b2⟩,b3⟩,b4⟩:=ha
 have w1:=kt w1
 have w2:=kt w2
 have b3:=kt b3
 have b4:=kt b4
 obtain ⟨u,hu,rfl,hu2⟩:=Cb hΓ mo h1
 obtain ⟨v,hv,rfl,hv2⟩:=Cb hΓ mp h2
 have ag1:=BP.XR (ops:=ops) (p:=p) (Y:=Y) (st:=st) hu w1 b1 (fun d hd he=>b3 d hd (by simp [he]))
 have hww:∀x∈writes an p,x∉bp o++w6 an ops o++writes an o:=by
  intro x hx hm
  rcases List.mem_append.1 hm with hm|hm
  ·exact w2 x hx hm
  ·exact w1 x hm (by simp [hx])
 have ag2:=BP.XR (ops:=ops) (p:=o) (Y:=X) (st:=st) hv hww b2 (fun d hd he=>b4 d hd (by simp [he]))
 refine ⟨v.apply st,hv2 st ag1.1, ?_⟩
 rw [hu2 _ ag2.2,M8 hu hv (fun x hx hm=>w1 x hx (by simp [hm])) (fun x hx hm=>b3 x hx (by simp [hm]))]
theorem zO {st:AS}{t:Nat}{v w:AV}(h:st.get t=v)(hv:v≠ .bot):(st.put (some t) w).get t=w:=by
 unfold AS.get at h
 cases hn:nth st.slots t with
 |none=>rw [hn] at h;exact absurd h.symm hv
 |some q=>
  have hl:t<st.slots.length:=by rw [bm] at hn;exact (List.getElem?_eq_some_iff.1 hn).1
  unfold AS.get AS.put
  simp only [bm,bL]
  rw [List.getElem?_set_self hl];rfl
theorem na {st:AS}{t d:Nat}{w:AV}(h:d≠t):(st.put (some d) w).get t=st.get t:=by
 unfold AS.get AS.put
 simp only [dE,if_neg h]
theorem uN {X:List Nat}{o:Oper}{st s:AS}{t i d:Nat}(ho:o.op= .extract (.tmp t) i)(hd:o.dst=some d)(hg:o.guard=none):stepG E Γ an ops X o st=some s↔
 ∃vs g cs,st.get t= .tup vs∧nth vs i=some (g,cs)∧(cs.all AC.cv||an.mv.contains d)=true∧s=(st.put (some t) (.tup (dj vs i (g,au 0 cs)))).put (some d) (.val g cs):=by
 unfold stepG
 simp only [bw,ho,hd]
 constructor
 ·intro h
  cases hv:st.get t with
  |val g cs=>simp only [hv,cond_true,cU,hg,aV,ho,fA] at h;cases h
  |tup vs=>
   simp only [hv] at h
   cases hn:nth vs i with
   |none=>simp only [hn,cond_true,cU,hg,aV,ho,fA,hv] at h;cases h
   |some x=>
    obtain ⟨g,cs⟩:=x
    simp only [hn] at h
    cases hf:(cs.all AC.cv||an.mv.contains d) with
    |false=>rw [hf] at h;cases h
    |true=>
     rw [hf] at h
     simp only [cond_true,cU,hg,aV,ho,fA,hv,hn,hd] at h
     cases h
     exact ⟨vs,g,cs,rfl,hn,hf,rfl⟩
 ·rintro ⟨vs,g,cs,hv,hn,hf,rfl⟩
  simp only [hv,hn,hf,cond_true,cU,hg,aV,ho,fA,hd]
theorem RJ {α:Type}(l:List α)(i:Nat)(v w:α):dj (dj l i v) i w=dj l i w:=by
 rw [bL,bL,bL,List.set_set]
theorem SM {X Y:List Nat}{o p:Oper}{st s1 s2:AS}(ha:Nv o p=true)(h1:stepG E Γ an ops X o st=some s1)(h2:stepG E Γ an ops Y p s1=some s2):
 ∃t1,stepG E Γ an ops Y p st=some t1∧stepG E Γ an ops X o t1=some s2:=by
 unfold Nv at ha
 split at ha
 ·rename_i t i t' j d d' ho hp hd hd' hg hg'
  simp only [Bool.and_eq_true,beq_iff_eq,Bool.not_eq_true',beq_eq_false_iff_ne,ne_eq] at ha
  obtain ⟨⟨⟨⟨rfl,hij⟩,hdd⟩,hdt⟩,hdt'⟩:=ha
  obtain ⟨vs,g,cs,hv,hn,hf,rfl⟩:=(uN ho hd hg).1 h1
  obtain ⟨vs2,g2,cs2,hv2,hn2,hf2,rfl⟩:=(uN hp hd' hg').1 h2
  have hq:((st.put (some t) (.tup (dj vs i (g,au 0 cs)))).put (some d) (.val g cs)).get t= .tup (dj vs i (g,au 0 cs)):=by
   rw [na hdt,zO hv (by simp)]
  rw [hq] at hv2
  cases hv2
  rw [dE,if_neg hij] at hn2
  refine ⟨_,(uN hp hd' hg').2 ⟨vs,g2,cs2,hv,hn2,hf2,rfl⟩,(uN ho hd hg).2 ⟨dj vs j (g2,au 0 cs2),g,cs, ?_, ?_,hf, ?_⟩⟩
  ·rw [na hdt',zO hv (by simp)]
  ·rw [dE,if_neg (Ne.symm hij)];exact hn
  ·have e:=dL vs hij (g,au 0 cs) (g2,au 0 cs2)
   have a:∀(A B:AV)(q:Nat)(v:AV),q≠t→dj (dj (dj st.slots t A) q v) t B=dj (dj st.slots t B) q v:=fun A B q v hq=>by
    rw [dL _ hq,RJ]
   simp only [AS.put,AS.mk.injEq,and_true]
   rw [a _ _ _ _ hdt,a _ _ _ _ hdt',e,dL _ hdd]
 ·cases ha
theorem P1 (s:AS)(t:Nat):s.put (some t) (s.get t)=s:=by
 cases s with
 |mk slots boxes ep iss io=>
  simp only [AS.put,AS.mk.injEq,and_true]
  rw [bL]
  apply List.ext_getElem?
  intro i
  rw [List.getElem?_set]
  split
  ·rename_i hd
   subst hd
   simp only [AS.get,bm]
   split
   ·rename_i hlt
    rw [List.getElem?_eq_getElem hlt];rfl
   ·rename_i hge
    rw [List.getElem?_eq_none (Nat.le_of_not_lt hge)]
  ·rfl
theorem Mh {X:List Nat}{o:Oper}{st s:AS}{d t:Nat}(hd:o.dst=some d)(hg:o.guard=none)
 (ho:(o.op= .move (.tmp t)∧an.mv.contains d=false∧an.fm.contains d=true)∨∃i,o.op= .extract (.tmp t) i) (_hdt:d≠t) (h:stepG E Γ an ops X o st=some s):
 ∃tv v,s=(st.put (some t) tv).put (some d) v∧∀st2:AS,st2.get t=st.get t→stepG E Γ an ops X o st2=some ((st2.put (some t) tv).put (some d) v):=by
 rcases ho with ⟨ho,hmv,hfm⟩|⟨i,ho⟩
 ·have hrd:∀st2:AS,st2.get t=st.get t→(st.rd (.tmp t)).eQ=true→st2.rd (.tmp t)=st.get t:=by
   intro st2 hq hs
   simp only [AS.rd,hq] at hs⊢
   cases hv:st.get t with
   |tup vs=>rw [hv] at hs;simp [AV.borrow,AV.eQ] at hs
   |val g cs=>
    rw [hv] at hs
    simp only [AV.borrow,AV.eQ] at hs⊢
    congr 1
    have key:∀(cs:List AC)(j:Nat),(nH st.ep (fun j=>dX.slot t j) j cs).all AC.eQ=true→nH st2.ep (fun j=>dX.slot t j) j cs=cs:=by
     intro cs
     induction cs with
     |nil=>intro j _;rfl
     |cons c cs ih=>
      intro j h
      simp only [nH,List.all_cons,Bool.and_eq_true] at h⊢
      rw [ih (j+1) h.2]
      congr 1
      cases c with
      |sl fl e xs=>
       cases fl with
       |holed _ _ ep=>cases ep<;>simp [AC.borrow,AC.eQ] at h
       |_=>simp [AC.borrow,AC.eQ] at h
      |_=>rfl
    exact key cs 0 hs
  unfold stepG at h
  have hst:(st.rd (.tmp t)).eQ=true:=by
   cases hs:(st.rd (.tmp t)).eQ with
   |true=>rfl
   |false=>simp only [bw,ho,SO,hd,hfm,hs] at h;cases h
  refine ⟨st.get t,st.get t, ?_,fun st2 hq=> ?_⟩
  ·simp only [bw,ho,SO,hd,hfm,hst,Bool.or_true,cond_true,cU,hg,aV,uW,hmv,Bool.false_eq_true,if_false] at h
   cases h
   rw [hrd st rfl hst]
   congr 1
   exact (P1 st t).symm
  ·unfold stepG
   have e1:=hrd st2 hq hst
   have hst2:(st2.rd (.tmp t)).eQ=true:=by
    rw [e1,←hrd st rfl hst];exact hst
   simp only [bw,ho,SO,hd,hfm,hst2,Bool.or_true,cond_true,cU,hg,aV,uW,hmv,Bool.false_eq_true,if_false]
   rw [e1,←hq,P1]
 ·obtain ⟨vs,g,cs,hv,hn,hf,rfl⟩:=(uN ho hd hg).1 h
  refine ⟨_,_,rfl,fun st2 hq=>(uN ho hd hg).2 ⟨vs,g,cs,by rw [hq,hv],hn,hf,rfl⟩⟩
theorem WG {Y:List Nat}{p:Oper}{T:TypeId}{q x:Nat}(hp:p.op= .store T (.tmp q) (.tmp x))(hd:p.dst=none)(hg:p.guard=none)(heb:(an.eb q).isSome=true)(hes:(an.es q).isNone=true)(hsb:(an.sb q).isNone=true)(hl:sY an p=false){st s:AS}(h:stepG E Γ an ops Y p st=some s):
 ∃B,s=⟨dj st.slots x ((st.get x).au st.ep),B,st.ep+1,st.iss,st.io⟩∧
  ∀st2:AS,st2.get q=st.get q→st2.get x=st.get x→st2.boxes=st.boxes→st2.ep=st.ep→st2.iss=st.iss→st2.io=st.io→
   stepG E Γ an ops Y p st2=some ⟨dj st2.slots x ((st.get x).au st.ep),B,st.ep+1,st.iss,st.io⟩:=by
 have hfree:∀st2:AS,st2.get q=st.get q→st2.ep=st.ep→bw E an Y p st2=bw E an Y p st:=by
  intro st2 h1 h2
  simp only [bw,hp,AS.rd,h1,h2]
 unfold stepG at h
 cases hf:bw E an Y p st with
 |false=>rw [hf] at h;cases h
 |true=>
  rw [hf] at h
  simp only [cond_true,cU,hg,aV,hp,hd,hl,Bool.false_eq_true,if_false] at h
  have hfr:=hf
  simp only [bw,hp] at hfr
  have hnn:((an.sb q).isNone&&(an.eb q).isNone&&(an.es q).isNone)=false:=by
   cases he:an.eb q with
   |none=>rw [he] at heb;cases heb
   |some _=>simp
  rw [hnn,Bool.false_or] at hfr
  unfold pN at h
  split at h
  ·rename_i hrd
   rw [hrd] at hfr
   simp only [Bool.and_eq_true,beq_iff_eq] at hfr
   rw [hfr.2] at hsb;cases hsb
  ·rename_i sh ep0 r tg e y i off hT hrd
   rw [hrd] at hfr
   cases r with
   |slot _ _=>
    simp only [Bool.and_eq_true,beq_iff_eq] at hfr
    rw [hfr.1.1] at hes;cases hes
   |io _=>simp at hfr
   |box b j=>
    split at h
    ·rename_i gg vs st1 htk
     have e1:(st.get x)= .val gg vs:=by
      have:=congrArg Prod.fst htk;exact this
     have e2:st1=⟨dj st.slots x ((st.get x).au st.ep),st.boxes,st.ep,st.iss,st.io⟩:=by
      have:=congrArg Prod.snd htk;exact this.symm
     split at h
     ·rename_i hlen
      have main:∃B,∀sl:List AV,(⟨sl,st.boxes,st.ep,st.iss,st.io⟩:AS).iT (.box b j) tg e i off vs some=some ⟨sl,B,st.ep+1,st.iss,st.io⟩:=by
       subst e2
       simp only [AS.iT,AS.cc,AS.bK,AS.bO] at h⊢
       cases hb:(nth st.boxes b).getD none with
       |none=>rw [hb] at h;simp at h
       |some cs=>
        rw [hb] at h
        simp only [Option.bind_some] at h⊢
        split at h
        ·rename_i t' e' xs hn
         split at h
         ·rename_i he
          simp only [dif_pos he]
          generalize (he▸xs:List e.D)=zs at h⊢
          split at h
          ·rename_i ht
           simp only [if_pos ht]
           cases hi:idx zs i with
           |none=>rw [hi] at h;simp [aa] at h
           |some y0=>
            simp only [hi,aa] at h⊢
            split at h
            ·exact ⟨_,fun sl=>rfl⟩
            ·cases h
          ·cases h
         ·cases h
        ·rename_i t' i' q0 e' xs hn
         split at h
         ·rename_i he
          simp only [dif_pos he]
          generalize (he▸xs:List e.D)=zs at h⊢
          split at h
          ·rename_i ht
           simp only [if_pos ht]
           cases hi:idx zs i with
           |none=>rw [hi] at h;simp [aa] at h
           |some y0=>
            simp only [hi,aa] at h⊢
            split at h
            ·exact ⟨_,fun sl=>rfl⟩
            ·cases h
          ·cases h
         ·cases h
        ·cases h
      obtain ⟨B,hB⟩:=main
      refine ⟨B, ?_,fun st2 h1 h2 h3 h4 h5 h6=> ?_⟩
      ·subst e2
       rw [hB] at h
       exact (Option.some.inj h).symm
      ·unfold stepG
       rw [hfree st2 h1 h4,hf]
       have r2:st2.rd (.tmp q)=st.rd (.tmp q):=by simp only [AS.rd,h1,h4]
       have t2:st2.take (.tmp x)=(.val gg vs,⟨dj st2.slots x ((st.get x).au st.ep),st.boxes,st.ep,st.iss,st.io⟩):=by
        simp only [AS.take,AS.put,h2,h3,h4,h5,h6,e1]
       simp only [cond_true,cU,hg,aV,hp,hd,hl,Bool.false_eq_true,if_false,pN,hT,r2,hrd,t2]
       rw [if_pos hlen]
       exact hB _
     ·cases h
    ·cases h
  ·cases h
theorem St {Y:List Nat}{p:Oper}{T:TypeId}{q x:Nat}(hp:p.op= .store T (.tmp q) (.tmp x))(hd:p.dst=none)(hg:p.guard=none){b:Nat}(hes:an.es q=some b)(heb:(an.eb q).isNone=true)(hbx:b≠x)(hsb:(an.sb q).isNone=true)(hl:sY an p=false){st s:AS}(h:stepG E Γ an ops Y p st=some s):
 ∃B,s=⟨dj (dj st.slots x ((st.get x).au st.ep)) b B,st.boxes,st.ep+1,st.iss,st.io⟩∧
  ∀st2:AS,st2.get q=st.get q→st2.get x=st.get x→nth st2.slots b=nth st.slots b→st2.boxes=st.boxes→st2.ep=st.ep→st2.iss=st.iss→st2.io=st.io→
   stepG E Γ an ops Y p st2=some ⟨dj (dj st2.slots x ((st.get x).au st.ep)) b B,st.boxes,st.ep+1,st.iss,st.io⟩:=by
 have hfree:∀st2:AS,st2.get q=st.get q→st2.ep=st.ep→bw E an Y p st2=bw E an Y p st:=by
  intro st2 h1 h2
  simp only [bw,hp,AS.rd,h1,h2]
 unfold stepG at h
 cases hf:bw E an Y p st with
 |false=>rw [hf] at h;cases h
 |true=>
  rw [hf] at h
  simp only [cond_true,cU,hg,aV,hp,hd,hl,Bool.false_eq_true,if_false] at h
  have hfr:=hf
  simp only [bw,hp] at hfr
  have hnn:((an.sb q).isNone&&(an.eb q).isNone&&(an.es q).isNone)=false:=by
   rw [hes];simp
  rw [hnn,Bool.false_or] at hfr
  unfold pN at h
  split at h
  ·rename_i hrd
   rw [hrd] at hfr
   simp only [Bool.and_eq_true,beq_iff_eq] at hfr
   rw [hfr.2] at hsb;cases hsb
  ·rename_i sh ep0 r tg e y i off hT hrd
   rw [hrd] at hfr
   cases r with
   |box _ _=>
    simp only [Bool.and_eq_true,beq_iff_eq] at hfr
    rw [hfr.1.1] at heb;cases heb
   |io _=>simp at hfr
   |slot b' j=>
    simp only [Bool.and_eq_true,beq_iff_eq] at hfr
    have hbb:b'=b:=Option.some.inj (hfr.1.1.symm.trans hes)
    subst hbb
    split at h
    ·rename_i gg vs st1 htk
     have e1:(st.get x)= .val gg vs:=by
      have:=congrArg Prod.fst htk;exact this
     have e2:st1=⟨dj st.slots x ((st.get x).au st.ep),st.boxes,st.ep,st.iss,st.io⟩:=by
      have:=congrArg Prod.snd htk;exact this.symm
     split at h
     ·rename_i hlen
      have main:∃B,∀sl:List AV,nth sl b'=nth st.slots b'→(⟨sl,st.boxes,st.ep,st.iss,st.io⟩:AS).iT (.slot b' j) tg e i off vs some=some ⟨dj sl b' B,st.boxes,st.ep+1,st.iss,st.io⟩:=by
       subst e2
       have hget:∀sl:List AV,nth sl b'=nth st.slots b'→(⟨sl,st.boxes,st.ep,st.iss,st.io⟩:AS).get b'=st.get b':=fun sl hq=>by unfold AS.get;rw [hq]
       have hq0:nth (dj st.slots x ((st.get x).au st.ep)) b'=nth st.slots b':=by rw [dE,if_neg (Ne.symm hbx)]
       simp only [AS.iT,AS.cc,AS.bK,hget _ hq0] at h
       cases hb:st.get b' with
       |tup _=>rw [hb] at h;simp at h
       |val g0 cs=>
        rw [hb] at h
        simp only at h
        split at h
        ·rename_i t' e' xs hn
         split at h
         ·rename_i he
          split at h
          ·rename_i ht
           cases hi:idx (he▸xs:List e.D) i with
           |none=>rw [hi] at h;simp [aa] at h
           |some y0=>
            simp only [hi,aa] at h
            split at h
            ·rename_i x' hx'
             refine ⟨.val g0 (dj cs j (.sl (.own (some t')) e ((he▸xs:List e.D).set i.toNat x'))),fun sl hq=> ?_⟩
             simp only [AS.iT,AS.cc,AS.bK,hget _ hq,hb,hn,dif_pos he,if_pos ht,hi,aa,hx',AS.put]
            ·cases h
          ·cases h
         ·cases h
        ·rename_i t' i' q0 e' xs hn
         split at h
         ·rename_i he
          split at h
          ·rename_i ht
           cases hi:idx (he▸xs:List e.D) i with
           |none=>rw [hi] at h;simp [aa] at h
           |some y0=>
            simp only [hi,aa] at h
            split at h
            ·rename_i x' hx'
             refine ⟨.val g0 (dj cs j (.sl (.own (some t')) e ((he▸xs:List e.D).set i.toNat x'))),fun sl hq=> ?_⟩
             simp only [AS.iT,AS.cc,AS.bK,hget _ hq,hb,hn,dif_pos he,if_pos ht,hi,aa,hx',AS.put]
            ·cases h
          ·cases h
         ·cases h
        ·cases h
      obtain ⟨B,hB⟩:=main
      refine ⟨B, ?_,fun st2 h1 h2 hnb h3 h4 h5 h6=> ?_⟩
      ·subst e2
       rw [hB _ (by rw [dE,if_neg (Ne.symm hbx)])] at h
       exact (Option.some.inj h).symm
      ·unfold stepG
       rw [hfree st2 h1 h4,hf]
       have r2:st2.rd (.tmp q)=st.rd (.tmp q):=by simp only [AS.rd,h1,h4]
       have t2:st2.take (.tmp x)=(.val gg vs,⟨dj st2.slots x ((st.get x).au st.ep),st.boxes,st.ep,st.iss,st.io⟩):=by
        simp only [AS.take,AS.put,h2,h3,h4,h5,h6,e1]
       simp only [cond_true,cU,hg,aV,hp,hd,hl,Bool.false_eq_true,if_false,pN,hT,r2,hrd,t2]
       rw [if_pos hlen]
       exact hB _ (by rw [dE,if_neg (Ne.symm hbx)];exact hnb)
     ·cases h
    ·cases h
  ·cases h
theorem WE {X Y:List Nat}{o p:Oper}{st s1 s2:AS}(ha:Nl an o p=true)(h1:stepG E Γ an ops X o st=some s1)(h2:stepG E Γ an ops Y p s1=some s2):
 ∃t1,stepG E Γ an ops Y p st=some t1∧stepG E Γ an ops X o t1=some s2:=by
 unfold Nl at ha
 split at ha
 ·rename_i T q x hp hpd hpg
  simp only [Bool.and_eq_true,Bool.not_eq_true'] at ha
  obtain ⟨⟨⟨heb,hsb⟩,hl⟩,ha⟩:=ha
  have hcore:∃d t,o.dst=some d∧o.guard=none∧((o.op= .move (.tmp t)∧an.mv.contains d=false∧an.fm.contains d=true)∨∃i,o.op= .extract (.tmp t) i)∧d≠q∧d≠x∧t≠x∧d≠t∧t≠q:=by
   split at ha
   ·rename_i t d ho hd hg
    simp only [Bool.and_eq_true,Bool.not_eq_true',beq_eq_false_iff_ne] at ha
    exact ⟨d,t,hd,hg,.inl ⟨ho,ha.1.1.1.1.1.1,ha.1.1.1.1.1.2⟩,ha.1.1.1.1.2,ha.1.1.1.2,ha.1.1.2,ha.2,ha.1.2⟩
   ·rename_i t i d ho hd hg
    simp only [Bool.and_eq_true,Bool.not_eq_true',beq_eq_false_iff_ne] at ha
    exact ⟨d,t,hd,hg,.inr ⟨i,ho⟩,ha.1.1.1.1,ha.1.1.1.2,ha.1.1.2,ha.2,ha.1.2⟩
   ·cases ha
  obtain ⟨d,t,hd,hg,ho,hdq,hdx,htx,hdt,htq⟩:=hcore
  obtain ⟨tv,v,rfl,hrun⟩:=Mh hd hg ho hdt h1
  have hq:((st.put (some t) tv).put (some d) v).get q=st.get q:=by
   rw [na hdq]
   exact na htq
  have hx:((st.put (some t) tv).put (some d) v).get x=st.get x:=by rw [na hdx,na htx]
  simp only [Bool.or_eq_true,Bool.and_eq_true] at heb
  rcases heb with ⟨heb,hes⟩|hes
  ·obtain ⟨B,rfl,hgo⟩:=WG hp hpd hpg heb hes hsb hl h2
   have k1:=hgo st hq.symm hx.symm rfl rfl rfl rfl
   refine ⟨_,k1, ?_⟩
   have hg2:(⟨dj st.slots x ((((st.put (some t) tv).put (some d) v).get x).au ((st.put (some t) tv).put (some d) v).ep),B,((st.put (some t) tv).put (some d) v).ep+1,((st.put (some t) tv).put (some d) v).iss,((st.put (some t) tv).put (some d) v).io⟩:AS).get t=st.get t:=by
    simp only [AS.get,dE,if_neg (Ne.symm htx)]
   rw [hrun _ hg2]
   simp only [AS.put,Option.some.injEq,AS.mk.injEq,and_true]
   rw [dL _ (Ne.symm htx),dL _ (Ne.symm hdx)]
  ·cases hb:an.es q with
   |none=>rw [hb] at hes;cases hes
   |some b=>
    rw [hb] at hes
    simp only [Bool.and_eq_true,Bool.not_eq_true',beq_eq_false_iff_ne] at hes
    obtain ⟨⟨⟨heb,hbx⟩,_⟩,hbw⟩:=hes
    have hbw:=kt hbw b (by simp)
    have hbd:b≠d:=fun e=>hbw (by simp [hd,e])
    have hbt:b≠t:=fun e=>hbw (by
     refine List.mem_append.2 (.inr ?_)
     rcases ho with ⟨ho,_⟩|⟨i,ho⟩<;>simp [bp,ho,tm,e])
    obtain ⟨B,rfl,hgo⟩:=St hp hpd hpg hb heb hbx hsb hl h2
    have hnb:nth st.slots b=nth ((st.put (some t) tv).put (some d) v).slots b:=by
     simp only [AS.put,dE,if_neg (Ne.symm hbd),if_neg (Ne.symm hbt)]
    have k1:=hgo st hq.symm hx.symm hnb rfl rfl rfl rfl
    refine ⟨_,k1, ?_⟩
    have hg2:(⟨dj (dj st.slots x ((((st.put (some t) tv).put (some d) v).get x).au ((st.put (some t) tv).put (some d) v).ep)) b B,((st.put (some t) tv).put (some d) v).boxes,((st.put (some t) tv).put (some d) v).ep+1,((st.put (some t) tv).put (some d) v).iss,((st.put (some t) tv).put (some d) v).io⟩:AS).get t=st.get t:=by
     simp only [AS.get,dE,if_neg (Ne.symm htx),if_neg hbt]
    rw [hrun _ hg2]
    simp only [AS.put,Option.some.injEq,AS.mk.injEq,and_true]
    rw [dL _ hbt,dL _ hbd,dL _ (Ne.symm htx),dL _ (Ne.symm hdx)]
 ·cases ha
theorem JL {c:AC}{ep:Nat}(h:c.eQ=true∨(c.borrow ep none).eQ=true):c.borrow ep none=c:=by
 cases c with
 |sl fl e xs=>
  exfalso
  cases fl with
  |holed _ _ ep=>cases ep<;>simp [AC.borrow,AC.eQ] at h
  |_=>simp [AC.borrow,AC.eQ] at h
 |_=>rfl
theorem Fi {cs:List AC}{off n ep:Nat}(hfit:off+n≤cs.length)(k:Nat):(aY cs off (au ep ((cs.drop off).take n)))[k]?=(cs[k]?).map fun c=>if off≤k∧k<off+n then c.borrow ep none else c:=by
 have hl:(au ep ((cs.drop off).take n)).length=n:=by simp [au];omega
 unfold aY
 rw [hl]
 by_cases h1:k<off
 ·rw [List.append_assoc,List.getElem?_append_left (by simp;omega),List.getElem?_take_of_lt h1]
  have:(fun c:AC=>if off≤k∧k<off+n then c.borrow ep none else c)=id:=by funext c;rw [if_neg (by omega)];rfl
  rw [this,Option.map_id];rfl
 ·by_cases h2:k<off+n
  ·rw [List.getElem?_append_left (by simp [hl];omega),List.getElem?_append_right (by simp;omega)]
   have e:k-(cs.take off).length=k-off:=by simp;omega
   rw [e,au,List.getElem?_map,List.getElem?_take_of_lt (by omega),List.getElem?_drop,show off+(k-off)=k by omega]
   congr 1
   funext c;rw [if_pos (by omega)]
  ·rw [List.getElem?_append_right (by simp [hl];omega)]
   have e:k-(cs.take off++au ep ((cs.drop off).take n)).length=k-(off+n):=by simp [hl];omega
   rw [e,List.getElem?_drop,show off+n+(k-(off+n))=k by omega]
   have:(fun c:AC=>if off≤k∧k<off+n then c.borrow ep none else c)=id:=by funext c;rw [if_neg (by omega)];rfl
   rw [this,Option.map_id];rfl
theorem AL {cs:List AC}{off n ep o2 n2:Nat}(hfit:off+n≤cs.length)(h:((cs.drop o2).take n2).all AC.eQ=true∨(((aY cs off (au ep ((cs.drop off).take n))).drop o2).take n2).all AC.eQ=true):
 ((aY cs off (au ep ((cs.drop off).take n))).drop o2).take n2=(cs.drop o2).take n2:=by
 apply List.ext_getElem?
 intro k
 by_cases hk:k<n2
 ·rw [List.getElem?_take_of_lt hk,List.getElem?_take_of_lt hk,List.getElem?_drop,List.getElem?_drop,Fi hfit]
  cases hc:cs[o2+k]? with
  |none=>rfl
  |some c=>
   simp only [Option.map_some]
   split
   ·rename_i hin
    refine congrArg some (JL ?_)
    rcases h with h|h
    ·left
     refine List.all_eq_true.1 h c (List.mem_of_getElem? (i:=k) ?_)
     rw [List.getElem?_take_of_lt hk,List.getElem?_drop,hc]
    ·right
     refine List.all_eq_true.1 h _ (List.mem_of_getElem? (i:=k) ?_)
     rw [List.getElem?_take_of_lt hk,List.getElem?_drop,Fi hfit,hc,Option.map_some,if_pos hin]
   ·rfl
 ·rw [List.getElem?_eq_none (by simp;omega),List.getElem?_eq_none (by simp;omega)]
theorem BN {b ep:Nat}:∀{cs:List AC}{j:Nat},cs.all AC.eQ=true→nH ep (.box b) j cs=cs
 |[],_,_=>rfl
 |c::cs,j,h=>by
  simp only [List.all_cons,Bool.and_eq_true] at h
  rw [nH,BN h.2]
  congr 1
  cases c<;>first|rfl|(simp [AC.eQ] at h)
theorem Fs {o:Oper}(h:xy an o=true):∃T q d,o.op= .load T (.tmp q)∧o.dst=some d∧o.guard=none∧an.mv.contains d=true∧(an.mb d).isSome=true:=by
 unfold xy at h
 split at h
 ·rename_i T q d ho hd hg
  simp only [Bool.and_eq_true] at h
  exact ⟨T,q,d,ho,hd,hg,h.1,h.2⟩
 ·cases h
theorem En {o:Oper}(h:Em an o=true):∃T q d,o.op= .load T (.tmp q)∧o.dst=some d∧o.guard=none∧an.mv.contains d=false∧an.fm.contains d=true:=by
 unfold Em at h
 split at h
 ·rename_i T q d ho hd hg
  simp only [Bool.and_eq_true,Bool.not_eq_true'] at h
  exact ⟨T,q,d,ho,hd,hg,h.1,h.2⟩
 ·cases h
theorem yf {X:List Nat}{o:Oper}{T:TypeId}{q d:Nat}(ht:xy an o=true)(ho:o.op= .load T (.tmp q))(hd:o.dst=some d)(hg:o.guard=none)(hmv:an.mv.contains d=true){st s:AS}:stepG E Γ an ops X o st=some s↔
 ∃sh b off cs,eg E.ty T=some sh∧st.rd (.tmp q)= .val false [.ptr b off]∧(nth st.boxes b).getD none=some cs∧off+sh.ct.size≤cs.length∧X.contains b=false∧an.mb d=some b∧(SO an o=true→w5 E T st b off=true)∧
  s=(st.bO b (some (aY cs off (au st.ep ((cs.drop off).take sh.ct.size))))).put (some d) (.val sh.agg ((cs.drop off).take sh.ct.size)):=by
 have key:bw E an X o st=true→∀r,aV E Γ an o st some=some r→∃b off,st.rd (.tmp q)= .val false [.ptr b off]:=by
  intro hf r hr
  simp only [aV,ho,oP] at hr
  split at hr
  ·rename_i hp;exact ⟨_,_,hp⟩
  ·rename_i hp
   simp only [bw,ho,hp,ht,Bool.or_true,Bool.not_true,Bool.and_false] at hf
   cases hf
  ·cases hr
 unfold stepG
 constructor
 ·intro h
  cases hf:bw E an X o st with
  |false=>rw [hf] at h;cases h
  |true=>
   rw [hf] at h
   simp only [cond_true,cU,hg] at h
   obtain ⟨b,off,hp⟩:=key hf s h
   simp only [bw,ho,hp,hd,hmv,Bool.not_true,Bool.false_or,Bool.and_eq_true,Bool.not_eq_true',beq_iff_eq,Bool.or_eq_true] at hf
   simp only [aV,ho,oP,hp] at h
   cases hT:eg E.ty T with
   |none=>rw [hT] at h;cases h
   |some sh=>
    rw [hT] at h
    simp only at h
    cases hb:(nth st.boxes b).getD none with
    |none=>rw [hb] at h;cases h
    |some cs=>
     rw [hb] at h
     simp only at h
     split at h
     ·rename_i hfit
      simp only [hd,hmv,if_true] at h
      cases h
      refine ⟨sh,b,off,cs,rfl,hp,hb,hfit,hf.1.1,hf.1.2,fun hm=> ?_,rfl⟩
      rcases hf.2 with g|g
      ·rw [hm] at g;cases g
      ·exact g
     ·cases h
 ·rintro ⟨sh,b,off,cs,hT,hp,hb,hfit,hX,hmb,hfm,rfl⟩
  have hf:bw E an X o st=true:=by
   simp only [bw,ho,hp,hd,hmv,hX,hmb,Bool.not_true,Bool.false_or,Bool.and_eq_true,Bool.not_eq_true',beq_iff_eq,Bool.or_eq_true]
   refine ⟨⟨trivial,trivial⟩, ?_⟩
   cases hm:SO an o with
   |false=>exact .inl rfl
   |true=>exact .inr (hfm hm)
  rw [hf]
  simp only [cond_true,cU,hg,aV,ho,oP,hp,hT,hb,if_pos hfit,hd,hmv,if_true]
theorem xK {X:List Nat}{o:Oper}{T:TypeId}{q d:Nat}(ho:o.op= .load T (.tmp q))(hd:o.dst=some d)(hg:o.guard=none)(hmv:an.mv.contains d=false)(hfm:an.fm.contains d=true){st s:AS}:stepG E Γ an ops X o st=some s↔
 ∃sh b off cs,eg E.ty T=some sh∧st.rd (.tmp q)= .val false [.ptr b off]∧(nth st.boxes b).getD none=some cs∧off+sh.ct.size≤cs.length∧X.contains b=false∧((cs.drop off).take sh.ct.size).all AC.eQ=true∧
  s=st.put (some d) (.val sh.agg ((cs.drop off).take sh.ct.size)):=by
 have hfb:SO an o=true:=by simp only [SO,hd,hfm]
 have key:bw E an X o st=true→∀r,aV E Γ an o st some=some r→∃b off,st.rd (.tmp q)= .val false [.ptr b off]:=by
  intro hf r hr
  simp only [aV,ho,oP] at hr
  split at hr
  ·rename_i hp;exact ⟨_,_,hp⟩
  ·rename_i hp
   simp only [bw,ho,hp,hfb,Bool.true_or,Bool.not_true,Bool.and_false] at hf
   cases hf
  ·cases hr
 unfold stepG
 constructor
 ·intro h
  cases hf:bw E an X o st with
  |false=>rw [hf] at h;cases h
  |true=>
   rw [hf] at h
   simp only [cond_true,cU,hg] at h
   obtain ⟨b,off,hp⟩:=key hf s h
   simp only [bw,ho,hp,hd,hmv,hfb,Bool.not_true,Bool.not_false,Bool.true_or,Bool.false_or,Bool.and_true,Bool.and_eq_true,Bool.not_eq_true'] at hf
   simp only [aV,ho,oP,hp] at h
   cases hT:eg E.ty T with
   |none=>rw [hT] at h;cases h
   |some sh=>
    rw [hT] at h
    simp only at h
    cases hb:(nth st.boxes b).getD none with
    |none=>rw [hb] at h;cases h
    |some cs=>
     rw [hb] at h
     simp only at h
     split at h
     ·rename_i hfit
      have hst:((cs.drop off).take sh.ct.size).all AC.eQ=true:=by
       have:=hf.2
       unfold w5 at this
       rw [hT,hb] at this
       exact this
      simp only [hd,hmv,Bool.false_eq_true,if_false,BN hst] at h
      cases h
      exact ⟨sh,b,off,cs,rfl,hp,hb,hfit,hf.1,hst,rfl⟩
     ·cases h
 ·rintro ⟨sh,b,off,cs,hT,hp,hb,hfit,hX,hst,rfl⟩
  have hf:bw E an X o st=true:=by
   simp only [bw,ho,hp,hd,hmv,hX,hfb,w5,hT,hb,hst];rfl
  rw [hf]
  simp only [cond_true,cU,hg,aV,ho,oP,hp,hT,hb,if_pos hfit,hd,hmv,Bool.false_eq_true,if_false,BN hst]
theorem P2 {st:AS}{q d:Nat}{v:AV}(h:d≠q):(st.put (some d) v).rd (.tmp q)=st.rd (.tmp q):=by
 simp only [AS.rd,na h];rfl
theorem TV {st:AS}{q b:Nat}{cs:Option (List AC)}:(st.bO b cs).rd (.tmp q)=st.rd (.tmp q):=rfl
theorem Sl {st:AS}{b:Nat}{cs x:List AC}(h:(nth st.boxes b).getD none=some cs):(nth (dj st.boxes b (some x)) b).getD none=some x:=by
 rw [dE,if_pos rfl]
 cases hn:nth st.boxes b with
 |none=>rw [hn] at h;cases h
 |some _=>
  have:b<st.boxes.length:=by rw [bm] at hn;exact (List.getElem?_eq_some_iff.1 hn).1
  rw [if_pos this];rfl
theorem Sn {st:AS}{b b2:Nat}{x:List AC}(h:b≠b2):nth (dj st.boxes b (some x)) b2=nth st.boxes b2:=by
 rw [dE,if_neg h]
theorem W8 {X Y:List Nat}{o p:Oper}{st s1 s2:AS}(ha:NZ an o p=true)(h1:stepG E Γ an ops X o st=some s1)(h2:stepG E Γ an ops Y p s1=some s2):
 ∃t1,stepG E Γ an ops Y p st=some t1∧stepG E Γ an ops X o t1=some s2:=by
 simp only [NZ,Bool.and_eq_true,Bool.or_eq_true,Bool.not_eq_true'] at ha
 obtain ⟨⟨ha,m1⟩,m2⟩:=ha
 have m1:=kt m1
 have m2:=kt m2
 rcases ha with ⟨ht,hf⟩|⟨hf,ht⟩
 ·obtain ⟨T,q,d,ho,hd,hg,hmv,hmb⟩:=Fs ht
  obtain ⟨T2,q2,d2,hp,hd2,hg2,hmv2,hfm2⟩:=En hf
  have n1:d≠d2:=fun e=>m1 d (by simp [hd]) (by simp [hd2,e])
  have n2:d≠q2:=fun e=>m1 d (by simp [hd]) (by simp [bp,hp,tm,e])
  have n3:d2≠q:=fun e=>m2 d2 (by simp [hd2]) (by simp [bp,ho,tm,e])
  obtain ⟨sh,b,off,cs,hT,hr,hb,hfit,hX,hmbe,hfm,rfl⟩:=(yf ht ho hd hg hmv).1 h1
  obtain ⟨sh2,b2,off2,cs2,hT2,hr2,hb2,hfit2,hX2,hst2,rfl⟩:=(xK hp hd2 hg2 hmv2 hfm2).1 h2
  rw [P2 n2,TV] at hr2
  have hbx:(nth (dj st.boxes b (some (aY cs off (au st.ep ((cs.drop off).take sh.ct.size))))) b2).getD none=some cs2:=hb2
  have hfin:∃cs0,(nth st.boxes b2).getD none=some cs0∧off2+sh2.ct.size≤cs0.length∧(cs2.drop off2).take sh2.ct.size=(cs0.drop off2).take sh2.ct.size:=by
   by_cases hbb:b=b2
   ·subst hbb
    rw [Sl hb] at hbx
    cases hbx
    have hlen:(aY cs off (au st.ep ((cs.drop off).take sh.ct.size))).length=cs.length:=by
     simp only [aY,au,List.length_append,List.length_map,List.length_take,List.length_drop];omega
    exact ⟨cs,hb,by omega,AL hfit (.inr hst2)⟩
   ·rw [Sn hbb] at hbx
    exact ⟨cs2,hbx,hfit2,rfl⟩
  obtain ⟨cs0,hb0,hfit0,he⟩:=hfin
  rw [he] at hst2⊢
  refine ⟨_,(xK hp hd2 hg2 hmv2 hfm2).2 ⟨sh2,b2,off2,cs0,hT2,hr2,hb0,hfit0,hX2,hst2,rfl⟩,(yf ht ho hd hg hmv).2 ⟨sh,b,off,cs,hT,by rw [P2 n3];exact hr,hb,hfit,hX,hmbe,fun hm=> ?_, ?_⟩⟩
  ·have:=hfm hm;unfold w5 at this⊢;exact this
  ·simp only [AS.put,AS.bO,AS.mk.injEq,and_true]
   exact dL _ n1 _ _
 ·obtain ⟨T,q,d,ho,hd,hg,hmv,hfm⟩:=En hf
  obtain ⟨T2,q2,d2,hp,hd2,hg2,hmv2,hmb2⟩:=Fs ht
  have n1:d≠d2:=fun e=>m1 d (by simp [hd]) (by simp [hd2,e])
  have n2:d≠q2:=fun e=>m1 d (by simp [hd]) (by simp [bp,hp,tm,e])
  have n3:d2≠q:=fun e=>m2 d2 (by simp [hd2]) (by simp [bp,ho,tm,e])
  obtain ⟨sh,b,off,cs,hT,hr,hb,hfit,hX,hst,rfl⟩:=(xK ho hd hg hmv hfm).1 h1
  obtain ⟨sh2,b2,off2,cs2,hT2,hr2,hb2,hfit2,hX2,hmbe,hfm2,rfl⟩:=(yf ht hp hd2 hg2 hmv2).1 h2
  rw [P2 n2] at hr2
  refine ⟨_,(yf ht hp hd2 hg2 hmv2).2 ⟨sh2,b2,off2,cs2,hT2,hr2,hb2,hfit2,hX2,hmbe,fun hm=>hfm2 hm,rfl⟩, ?_⟩
  have hfin:∃cs0,(nth (dj st.boxes b2 (some (aY cs2 off2 (au st.ep ((cs2.drop off2).take sh2.ct.size))))) b).getD none=some cs0∧off+sh.ct.size≤cs0.length∧(cs0.drop off).take sh.ct.size=(cs.drop off).take sh.ct.size:=by
   by_cases hbb:b2=b
   ·subst hbb
    have hcs:cs2=cs:=Option.some.inj (hb2.symm.trans hb)
    subst hcs
    have hlen:(aY cs2 off2 (au st.ep ((cs2.drop off2).take sh2.ct.size))).length=cs2.length:=by
     simp only [aY,au,List.length_append,List.length_map,List.length_take,List.length_drop];omega
    exact ⟨_,Sl hb,by omega,AL hfit2 (.inl hst)⟩
   ·exact ⟨cs,by rw [Sn hbb];exact hb,hfit,rfl⟩
  obtain ⟨cs0,hb0,hfit0,he⟩:=hfin
  refine (xK ho hd hg hmv hfm).2 ⟨sh,b,off,cs0,hT,by rw [P2 n3,TV];exact hr,hb0,hfit0,hX,by rw [he];exact hst, ?_⟩
  rw [he]
  simp only [AS.put,AS.bO,AS.mk.injEq,and_true]
  exact dL _ n1 _ _
def F6 (E:Env)(Γ:aJ)(an:An)(ops:List Oper)(X:Nat→List Nat):List Nat→AS→Option AS
 |[],st=>some st
 |i::r,st=>match nth ops i with
  |some o=>(stepG E Γ an ops (X i) o st).bind (F6 E Γ an ops X r)
  |none=>none
theorem Fb (hΓ:∀f,(Γ f).io=false∧(Γ f).bx=false){X:Nat→List Nat}{i:Nat}{oi:Oper}(hi:nth ops i=some oi):∀(pre post:List Nat)(st r:AS),(∀j∈pre,∀oj,nth ops j=some oj→CV an ops (X j) (X i) oj oi=true)→
 F6 E Γ an ops X (pre++i::post) st=some r→F6 E Γ an ops X (i::(pre++post)) st=some r
 |[],post,st,r,_,h=>h
 |j::pre,post,st,r,ha,h=>by
  simp only [List.cons_append,F6] at h
  cases hj:nth ops j with
  |none=>rw [hj] at h;cases h
  |some oj=>
   rw [hj] at h
   simp only at h
   obtain ⟨s1,h1,h2⟩:=Option.bind_eq_some_iff.1 h
   have h3:=Fb hΓ hi pre post s1 r (fun k hk=>ha k (by simp [hk])) h2
   simp only [F6,hi] at h3
   obtain ⟨s2,h4,h5⟩:=Option.bind_eq_some_iff.1 h3
   have hap:=ha j (by simp) oj hj
   obtain ⟨t1,k1,k2⟩:∃t1,stepG E Γ an ops (X i) oi st=some t1∧stepG E Γ an ops (X j) oj t1=some s2:=by
    cases hx:TR an oj oi with
    |false=>rw [CV,hx,Bool.false_or] at hap;exact OC hΓ hap h1 h4
    |true=>
     simp only [TR,Bool.or_eq_true] at hx
     rcases hx with (hx|hx)|hx
     ·exact SM hx h1 h4
     ·exact WE hx h1 h4
     ·exact W8 hx h1 h4
   simp only [F6,hi,k1,Option.bind_some,List.cons_append,hj,k2]
   exact h5
end Go.Dn
