import Derived.Test.YtcmdhgbbpmnbpaaGreatDnUpd
/- Operations that are apart may change places. -/
namespace Go.Dn
variable {E:Env} {Γ:aO} {an:An} {ops:List Oper}
def stepG (E:Env)(Γ:aO)(an:An)(ops:List Oper)(X:List Nat)(o:Oper)(st:AS):Option AS:=
 bif bK E an X o st then de E Γ an ops o st some else none
structure HL (an:An) (ops:List Oper) (X:List Nat) (o:Oper) (st st2:AS):Prop where
 base:cV an X o st st2
 gd:∀t∈xK an ops o,st2.get t=st.get t
theorem LW {st:AS}{d:Nat}{b:Bool}(h:st.get d= .val false [.bool b]):st.put (some d) (.one (.bool b))=st:=by
 cases st with
 |mk slots boxes ep iss io=>
  simp only [AS.put,AS.mk.injEq,and_true]
  rw [cc]
  apply List.ext_getElem?
  intro i
  rw [List.getElem?_set]
  split
  ·rename_i hd
   subst hd
   simp only [AS.get,bC] at h
   split
   ·rename_i hlt
    rw [List.getElem?_eq_getElem hlt] at h⊢
    simp only [Option.getD_some] at h
    rw [h]
   ·rename_i hge
    rw [List.getElem?_eq_none (Nat.le_of_not_lt hge)]
  ·rfl
theorem I0 {T:TypeId}{st st2:AS}{s off:Nat}(h:nth st2.boxes s=nth st.boxes s):xH E T st2 s off=xH E T st s off:=by
 unfold xH;rw [h]
theorem zK {X:List Nat}{o:Oper}{st st2:AS}(ha:cV an X o st st2):bK E an X o st2=bK E an X o st:=by
 unfold bK
 split
 ·rename_i ho
  rw [ha.rd (fun t ht=>by simpa [bE,ho] using ht)]
 ·rename_i T p ho
  rw [ha.rd (fun t ht=>by simp [bE,ho,ht]),ha.ep]
 ·rename_i ho
  rw [ha.rd (fun t ht=>by simp [bE,ho,ht]),ha.ep]
 ·rename_i f args ts ho
  rw [Bool.eq_iff_iff]
  simp only [List.all_eq_true]
  constructor
  ·intro hx x hm
   have:=hx x hm
   rwa [ha.rd (fun t ht=>by simp only [bE,ho,List.mem_append,JV,List.mem_flatMap];exact .inr ⟨x,hm,ht⟩),ha.ep] at this
  ·intro hx x hm
   rw [ha.rd (fun t ht=>by simp only [bE,ho,List.mem_append,JV,List.mem_flatMap];exact .inr ⟨x,hm,ht⟩),ha.ep]
   exact hx x hm
 ·rename_i ho
  rw [ha.rd (fun t ht=>by simpa [bE,ho] using ht),ha.ep]
  split
  ·rename_i s off _
   cases hX:X.contains s with
   |true=>rfl
   |false=>rw [I0 (ha.box s hX)]
  ·rfl
  ·rfl
 ·rename_i ho
  rw [ha.rd (fun t ht=>by simp only [bE,ho,List.mem_append];exact .inl ht)]
 ·rename_i ho
  rw [ha.get _ (by simp [bE,ho])]
 ·rfl
theorem CN (hΓ:∀f,(Γ f).io=false∧(Γ f).bx=false){X:List Nat}{o:Oper}{st st':AS}(hm:iD an o=true)(h:stepG E Γ an ops X o st=some st'):
 ∃u:Cq,u.zA an o∧st'=u.apply st∧∀st2,HL an ops X o st st2→stepG E Γ an ops X o st2=some (u.apply st2):=by
 unfold stepG at h
 cases hf:bK E an X o st with
 |false=>rw [hf] at h;cases h
 |true=>
  rw [hf] at h
  simp only [cond_true] at h
  unfold de at h
  split at h
  ·rename_i hg
   obtain ⟨u,h1,h2,h3⟩:=FV (X:=X) hΓ hm hf h
   refine ⟨u,h1,h2,fun st2 ha=> ?_⟩
   unfold stepG
   rw [zK ha.base,hf]
   simp only [cond_true,de,hg]
   exact h3 st2 ha.base
  ·rename_i j want hg
   split at h
   ·rename_i d hd
    have hin:d∈xK an ops o:=by simp [xK,hg,hd]
    split at h
    ·rename_i b hb
     have hgo:(if (b==want)=true then bg E Γ an o st some else some (st.put o.dst (.one .un)))=some st':=by
      cases b<;>simpa only [cond_true,cond_false,LW hb] using h
     have h2g:∀st2,HL an ops X o st st2→stepG E Γ an ops X o st2=(if (b==want)=true then bg E Γ an o st2 some else some (st2.put o.dst (.one .un))):=by
      intro st2 ha
      have hb2:st2.get d= .val false [.bool b]:=by rw [ha.gd d hin];exact hb
      unfold stepG
      rw [zK ha.base,hf]
      simp only [cond_true,de,hg,hd,hb2]
      cases b<;>simp only [cond_true,cond_false,LW hb2]
     split at hgo
     ·rename_i hw
      obtain ⟨u,h1,h2,h3⟩:=FV (X:=X) hΓ hm hf hgo
      exact ⟨u,h1,h2,fun st2 ha=>by rw [h2g st2 ha,if_pos hw];exact h3 st2 ha.base⟩
     ·rename_i hw
      cases hgo
      exact ⟨xc o (.one .un),u4 _,by rw [mj],fun st2 ha=>by rw [h2g st2 ha,if_neg hw,mj]⟩
    ·rename_i hb
     cases h
     refine ⟨xc o (.one .un),u4 _,by rw [mj],fun st2 ha=> ?_⟩
     have hb2:st2.get d= .val false [.un]:=by rw [ha.gd d hin];exact hb
     unfold stepG
     rw [zK ha.base,hf,mj]
     simp only [cond_true,de,hg,hd,hb2]
    ·cases h
   ·cases h
theorem ei {α:Type}(l:List α){i j:Nat}(h:i≠j)(v w:α):dv (dv l i v) j w=dv (dv l j w) i v:=by
 rw [cc,cc,cc,cc,List.set_comm _ _ h]
theorem N9 (l:List AV)(a:List (Nat×AV)){i:Nat}(v:AV)(h:∀x∈a,x.1≠i):eC (dv l i v) a=dv (eC l a) i v:=by
 induction a generalizing l with
 |nil=>rfl
 |cons x a ih=>
  simp only [eC]
  rw [ei _ (Ne.symm (h x (by simp))),ih _ (fun y hy=>h y (by simp [hy]))]
theorem LS (l:List AV)(a b:List (Nat×AV))(h:∀x∈a,∀y∈b,x.1≠y.1):eC (eC l a) b=eC (eC l b) a:=by
 induction b generalizing l with
 |nil=>rfl
 |cons y b ih=>
  simp only [eC]
  rw [←N9 l a y.2 (fun x hx=>h x hx y (by simp)),ih _ (fun x hx z hz=>h x hx z (by simp [hz]))]
theorem GC (l:List AV)(a:List (Nat×AV)){t:Nat}(h:∀x∈a,x.1≠t):nth (eC l a) t=nth l t:=by
 induction a generalizing l with
 |nil=>rfl
 |cons x a ih=>
  rw [eC,ih _ (fun y hy=>h y (by simp [hy])),dS,if_neg (h x (by simp))]
theorem ln {a b:List Nat}(h:meets a b=false):∀x∈a,x∉b:=by
 intro x hx hb
 unfold meets at h
 rw [List.any_eq_false] at h
 exact h x hx (by simpa using hb)
theorem Cq.Xr {u:Cq}{o p:Oper}{Y:List Nat}{st:AS}(hw:u.zA an o)(h1:∀x∈writes an o,x∉bE p++xK an ops p++writes an p)(h2:∀d∈Ab an o,Y.contains d=true)(h3:∀d∈Ab an o,p.dst≠some d):
 HL an ops Y p (u.apply st) st∧HL an ops Y p st (u.apply st):=by
 have hget:∀t,t∈bE p++xK an ops p++writes an p→(u.apply st).get t=st.get t:=by
  intro t ht
  unfold AS.get
  have:nth (u.apply st).slots t=nth st.slots t:=GC _ _ (fun x hx he=>h1 _ (hw.slots x hx) (by rw [he];exact ht))
  rw [this]
 have hdst:∀d,p.dst=some d→nth (u.apply st).iss d=nth st.iss d∧nth (u.apply st).boxes d=nth st.boxes d:=by
  intro d hd
  have hd':d∈bE p++xK an ops p++writes an p:=by simp [writes,hd]
  have hne:o.dst≠some d:=fun he=>h1 d (by simp [writes,he]) hd'
  constructor
  ·unfold Cq.apply
   cases hi:u.iss with
   |none=>rfl
   |some k=>
    simp only
    rw [dS,if_neg]
    rintro rfl
    exact hne (hw.iss _ hi)
  ·unfold Cq.apply
   cases hi:u.box with
   |none=>rfl
   |some k=>
    simp only
    rw [dS,if_neg]
    intro he
    exact h3 _ (hw.box k hi) (by rw [he];exact hd)
 have hbox:∀s,Y.contains s=false→nth (u.apply st).boxes s=nth st.boxes s:=by
  intro s hs
  unfold Cq.apply
  cases hi:u.box with
  |none=>rfl
  |some k=>
   simp only
   rw [dS,if_neg]
   rintro rfl
   have:=h2 k.1 (hw.box k hi)
   rw [this] at hs;cases hs
 have hlen:(u.apply st).slots.length=st.slots.length:=Fu _ _
 exact ⟨⟨⟨hlen.symm,fun t ht=>(hget t (by simp [ht])).symm,rfl,fun d hd=>⟨((hdst d hd).1).symm,((hdst d hd).2).symm⟩,fun s hs=>(hbox s hs).symm,fun t ht=>(hget t (by simp [xK,ht])).symm⟩,fun t ht=>(hget t (by simp [ht])).symm⟩,
  ⟨⟨hlen,fun t ht=>hget t (by simp [ht]),rfl,hdst,hbox,fun t ht=>hget t (by simp [xK,ht])⟩,fun t ht=>hget t (by simp [ht])⟩⟩
theorem MN {u v:Cq}{o p:Oper}{st:AS}(hu:u.zA an o)(hv:v.zA an p)(h:∀x∈writes an o,x∉writes an p)(hb:∀x∈Ab an o,x∉Ab an p):v.apply (u.apply st)=u.apply (v.apply st):=by
 have hdd:∀a b,o.dst=some a→p.dst=some b→a≠b:=fun a b ha hb he=>h a (by simp [writes,ha]) (by simp [writes,hb,he])
 have hs:=LS st.slots u.slots v.slots (fun x hx y hy he=>h _ (hu.slots x hx) (by rw [he];exact hv.slots y hy))
 simp only [Cq.apply,AS.mk.injEq,true_and,and_true]
 refine ⟨hs, ?_, ?_⟩
 ·cases hub:u.box with
  |none=>cases v.box<;>rfl
  |some k=>
   cases hvb:v.box with
   |none=>rfl
   |some l=>exact ei _ (fun he=>hb _ (hu.box k hub) (by rw [he];exact hv.box l hvb)) _ _
 ·cases hui:u.iss with
  |none=>cases v.iss<;>rfl
  |some k=>
   cases hvi:v.iss with
   |none=>rfl
   |some l=>exact ei _ (hdd _ _ (hu.iss k hui) (hv.iss l hvi)) _ _
theorem Ov (hΓ:∀f,(Γ f).io=false∧(Γ f).bx=false){X Y:List Nat}{o p:Oper}{st s1 s2:AS}(ha:ML an ops X Y o p=true)(h1:stepG E Γ an ops X o st=some s1)(h2:stepG E Γ an ops Y p s1=some s2):
 ∃t1,stepG E Γ an ops Y p st=some t1∧stepG E Γ an ops X o t1=some s2:=by
 simp only [ML,Bool.and_eq_true,Bool.not_eq_true',List.all_eq_true] at ha
 obtain ⟨⟨⟨⟨⟨⟨⟨mo,mp⟩,w1⟩,w2⟩,b1⟩,b2⟩,b3⟩,b4⟩:=ha
 have w1:=ln w1
 have w2:=ln w2
 have b3:=ln b3
 have b4:=ln b4
 obtain ⟨u,hu,rfl,hu2⟩:=CN hΓ mo h1
 obtain ⟨v,hv,rfl,hv2⟩:=CN hΓ mp h2
 have ag1:=Cq.Xr (ops:=ops) (p:=p) (Y:=Y) (st:=st) hu w1 b1 (fun d hd he=>b3 d hd (by simp [he]))
 have hww:∀x∈writes an p,x∉bE o++xK an ops o++writes an o:=by
  intro x hx hm
  rcases List.mem_append.1 hm with hm|hm
  ·exact w2 x hx hm
  ·exact w1 x hm (by simp [hx])
 have ag2:=Cq.Xr (ops:=ops) (p:=o) (Y:=X) (st:=st) hv hww b2 (fun d hd he=>b4 d hd (by simp [he]))
 refine ⟨v.apply st,hv2 st ag1.1, ?_⟩
 rw [hu2 _ ag2.2,MN hu hv (fun x hx hm=>w1 x hx (by simp [hm])) (fun x hx hm=>b3 x hx (by simp [hm]))]
theorem Aw {st:AS}{t:Nat}{v w:AV}(h:st.get t=v)(hv:v≠ .bot):(st.put (some t) w).get t=w:=by
 unfold AS.get at h
 cases hn:nth st.slots t with
 |none=>rw [hn] at h;exact absurd h.symm hv
 |some q=>
  have hl:t<st.slots.length:=by rw [bC] at hn;exact (List.getElem?_eq_some_iff.1 hn).1
  unfold AS.get AS.put
  simp only [bC,cc]
  rw [List.getElem?_set_self hl];rfl
theorem nL {st:AS}{t d:Nat}{w:AV}(h:d≠t):(st.put (some d) w).get t=st.get t:=by
 unfold AS.get AS.put
 simp only [dS,if_neg h]
theorem vf {X:List Nat}{o:Oper}{st s:AS}{t i d:Nat}(ho:o.op= .extract (.tmp t) i)(hd:o.dst=some d)(hg:o.guard=none):stepG E Γ an ops X o st=some s↔
 ∃vs g cs,st.get t= .tup vs∧nth vs i=some (g,cs)∧(cs.all AC.cH||an.mv.contains d)=true∧s=(st.put (some t) (.tup (dv vs i (g,ar 0 cs)))).put (some d) (.val g cs):=by
 unfold stepG
 simp only [bK,ho,hd]
 constructor
 ·intro h
  cases hv:st.get t with
  |val g cs=>simp only [hv,cond_true,de,hg,bg,ho,gu] at h;cases h
  |tup vs=>
   simp only [hv] at h
   cases hn:nth vs i with
   |none=>simp only [hn,cond_true,de,hg,bg,ho,gu,hv] at h;cases h
   |some x=>
    obtain ⟨g,cs⟩:=x
    simp only [hn] at h
    cases hf:(cs.all AC.cH||an.mv.contains d) with
    |false=>rw [hf] at h;cases h
    |true=>
     rw [hf] at h
     simp only [cond_true,de,hg,bg,ho,gu,hv,hn,hd] at h
     cases h
     exact ⟨vs,g,cs,rfl,hn,hf,rfl⟩
 ·rintro ⟨vs,g,cs,hv,hn,hf,rfl⟩
  simp only [hv,hn,hf,cond_true,de,hg,bg,ho,gu,hd]
theorem RH {α:Type}(l:List α)(i:Nat)(v w:α):dv (dv l i v) i w=dv l i w:=by
 rw [cc,cc,cc,List.set_set]
theorem SH {X Y:List Nat}{o p:Oper}{st s1 s2:AS}(ha:Nc o p=true)(h1:stepG E Γ an ops X o st=some s1)(h2:stepG E Γ an ops Y p s1=some s2):
 ∃t1,stepG E Γ an ops Y p st=some t1∧stepG E Γ an ops X o t1=some s2:=by
 unfold Nc at ha
 split at ha
 ·rename_i t i t' j d d' ho hp hd hd' hg hg'
  simp only [Bool.and_eq_true,beq_iff_eq,Bool.not_eq_true',beq_eq_false_iff_ne,ne_eq] at ha
  obtain ⟨⟨⟨⟨rfl,hij⟩,hdd⟩,hdt⟩,hdt'⟩:=ha
  obtain ⟨vs,g,cs,hv,hn,hf,rfl⟩:=(vf ho hd hg).1 h1
  obtain ⟨vs2,g2,cs2,hv2,hn2,hf2,rfl⟩:=(vf hp hd' hg').1 h2
  have hq:((st.put (some t) (.tup (dv vs i (g,ar 0 cs)))).put (some d) (.val g cs)).get t= .tup (dv vs i (g,ar 0 cs)):=by
   rw [nL hdt,Aw hv (by simp)]
  rw [hq] at hv2
  cases hv2
  rw [dS,if_neg hij] at hn2
  refine ⟨_,(vf hp hd' hg').2 ⟨vs,g2,cs2,hv,hn2,hf2,rfl⟩,(vf ho hd hg).2 ⟨dv vs j (g2,ar 0 cs2),g,cs, ?_, ?_,hf, ?_⟩⟩
  ·rw [nL hdt',Aw hv (by simp)]
  ·rw [dS,if_neg (Ne.symm hij)];exact hn
  ·have e:=ei vs hij (g,ar 0 cs) (g2,ar 0 cs2)
   have a:∀(A B:AV)(q:Nat)(v:AV),q≠t→dv (dv (dv st.slots t A) q v) t B=dv (dv st.slots t B) q v:=fun A B q v hq=>by
    rw [ei _ hq,RH]
   simp only [AS.put,AS.mk.injEq,and_true]
   rw [a _ _ _ _ hdt,a _ _ _ _ hdt',e,ei _ hdd]
 ·cases ha
theorem PF (s:AS)(t:Nat):s.put (some t) (s.get t)=s:=by
 cases s with
 |mk slots boxes ep iss io=>
  simp only [AS.put,AS.mk.injEq,and_true]
  rw [cc]
  apply List.ext_getElem?
  intro i
  rw [List.getElem?_set]
  split
  ·rename_i hd
   subst hd
   simp only [AS.get,bC]
   split
   ·rename_i hlt
    rw [List.getElem?_eq_getElem hlt];rfl
   ·rename_i hge
    rw [List.getElem?_eq_none (Nat.le_of_not_lt hge)]
  ·rfl
theorem L8 {X:List Nat}{o:Oper}{st s:AS}{d t:Nat}(hd:o.dst=some d)(hg:o.guard=none)
 (ho:(o.op= .move (.tmp t)∧an.mv.contains d=false∧an.fm.contains d=true)∨∃i,o.op= .extract (.tmp t) i) (_hdt:d≠t) (h:stepG E Γ an ops X o st=some s):
 ∃tv v,s=(st.put (some t) tv).put (some d) v∧∀st2:AS,st2.get t=st.get t→stepG E Γ an ops X o st2=some ((st2.put (some t) tv).put (some d) v):=by
 rcases ho with ⟨ho,hmv,hfm⟩|⟨i,ho⟩
 ·have hrd:∀st2:AS,st2.get t=st.get t→(st.rd (.tmp t)).fJ=true→st2.rd (.tmp t)=st.get t:=by
   intro st2 hq hs
   simp only [AS.rd,hq] at hs⊢
   cases hv:st.get t with
   |tup vs=>rw [hv] at hs;simp [AV.borrow,AV.fJ] at hs
   |val g cs=>
    rw [hv] at hs
    simp only [AV.borrow,AV.fJ] at hs⊢
    congr 1
    have key:∀(cs:List AC)(j:Nat),(oh st.ep (fun j=>eE.slot t j) j cs).all AC.fJ=true→oh st2.ep (fun j=>eE.slot t j) j cs=cs:=by
     intro cs
     induction cs with
     |nil=>intro j _;rfl
     |cons c cs ih=>
      intro j h
      simp only [oh,List.all_cons,Bool.and_eq_true] at h⊢
      rw [ih (j+1) h.2]
      congr 1
      cases c with
      |sl fl e xs=>
       cases fl with
       |holed _ _ ep=>cases ep<;>simp [AC.borrow,AC.fJ] at h
       |_=>simp [AC.borrow,AC.fJ] at h
      |_=>rfl
    exact key cs 0 hs
  unfold stepG at h
  have hst:(st.rd (.tmp t)).fJ=true:=by
   cases hs:(st.rd (.tmp t)).fJ with
   |true=>rfl
   |false=>simp only [bK,ho,SL,hd,hfm,hs] at h;cases h
  refine ⟨st.get t,st.get t, ?_,fun st2 hq=> ?_⟩
  ·simp only [bK,ho,SL,hd,hfm,hst,Bool.or_true,cond_true,de,hg,bg,vt,hmv,Bool.false_eq_true,if_false] at h
   cases h
   rw [hrd st rfl hst]
   congr 1
   exact (PF st t).symm
  ·unfold stepG
   have e1:=hrd st2 hq hst
   have hst2:(st2.rd (.tmp t)).fJ=true:=by
    rw [e1,←hrd st rfl hst];exact hst
   simp only [bK,ho,SL,hd,hfm,hst2,Bool.or_true,cond_true,de,hg,bg,vt,hmv,Bool.false_eq_true,if_false]
   rw [e1,←hq,PF]
 ·obtain ⟨vs,g,cs,hv,hn,hf,rfl⟩:=(vf ho hd hg).1 h
  refine ⟨_,_,rfl,fun st2 hq=>(vf ho hd hg).2 ⟨vs,g,cs,by rw [hq,hv],hn,hf,rfl⟩⟩
theorem Wg {Y:List Nat}{p:Oper}{T:TypeId}{q x:Nat}(hp:p.op= .store T (.tmp q) (.tmp x))(hd:p.dst=none)(hg:p.guard=none)(heb:(an.eb q).isSome=true)(hes:(an.es q).isNone=true)(hsb:(an.sb q).isNone=true)(hl:tu an p=false){st s:AS}(h:stepG E Γ an ops Y p st=some s):
 ∃B,s=⟨dv st.slots x ((st.get x).ar st.ep),B,st.ep+1,st.iss,st.io⟩∧
  ∀st2:AS,st2.get q=st.get q→st2.get x=st.get x→st2.boxes=st.boxes→st2.ep=st.ep→st2.iss=st.iss→st2.io=st.io→
   stepG E Γ an ops Y p st2=some ⟨dv st2.slots x ((st.get x).ar st.ep),B,st.ep+1,st.iss,st.io⟩:=by
 have hfree:∀st2:AS,st2.get q=st.get q→st2.ep=st.ep→bK E an Y p st2=bK E an Y p st:=by
  intro st2 h1 h2
  simp only [bK,hp,AS.rd,h1,h2]
 unfold stepG at h
 cases hf:bK E an Y p st with
 |false=>rw [hf] at h;cases h
 |true=>
  rw [hf] at h
  simp only [cond_true,de,hg,bg,hp,hd,hl,Bool.false_eq_true,if_false] at h
  have hfr:=hf
  simp only [bK,hp] at hfr
  have hnn:((an.sb q).isNone&&(an.eb q).isNone&&(an.es q).isNone)=false:=by
   cases he:an.eb q with
   |none=>rw [he] at heb;cases heb
   |some _=>simp
  rw [hnn,Bool.false_or] at hfr
  unfold qe at h
  split at h
  ·rename_i hrd
   rw [hrd] at hfr
   simp only [Bool.and_eq_true,beq_iff_eq] at hfr
   rw [hfr.2] at hsb;cases hsb
  ·rename_i sh ep0 r tg e y i off hT hrd
   rw [hrd] at hfr
   cases r with
   |slot _ _=>
    simp only [Bool.and_eq_true,beq_iff_eq] at hfr
    rw [hfr.1.1] at hes;cases hes
   |io _=>simp at hfr
   |box b j=>
    split at h
    ·rename_i gg vs st1 htk
     have e1:(st.get x)= .val gg vs:=by
      have:=congrArg Prod.fst htk;exact this
     have e2:st1=⟨dv st.slots x ((st.get x).ar st.ep),st.boxes,st.ep,st.iss,st.io⟩:=by
      have:=congrArg Prod.snd htk;exact this.symm
     split at h
     ·rename_i hlen
      have main:∃B,∀sl:List AV,(⟨sl,st.boxes,st.ep,st.iss,st.io⟩:AS).jS (.box b j) tg e i off vs some=some ⟨sl,B,st.ep+1,st.iss,st.io⟩:=by
       subst e2
       simp only [AS.jS,AS.cr,AS.bZ,AS.cf] at h⊢
       cases hb:(nth st.boxes b).getD none with
       |none=>rw [hb] at h;simp at h
       |some cs=>
        rw [hb] at h
        simp only [Option.bind_some] at h⊢
        split at h
        ·rename_i t' e' xs hn
         split at h
         ·rename_i he
          simp only [dif_pos he]
          generalize (he▸xs:List e.D)=zs at h⊢
          split at h
          ·rename_i ht
           simp only [if_pos ht]
           cases hi:idx zs i with
           |none=>rw [hi] at h;simp [aa] at h
           |some y0=>
            simp only [hi,aa] at h⊢
            split at h
            ·exact ⟨_,fun sl=>rfl⟩
            ·cases h
          ·cases h
         ·cases h
        ·rename_i t' i' q0 e' xs hn
         split at h
         ·rename_i he
          simp only [dif_pos he]
          generalize (he▸xs:List e.D)=zs at h⊢
          split at h
          ·rename_i ht
           simp only [if_pos ht]
           cases hi:idx zs i with
           |none=>rw [hi] at h;simp [aa] at h
           |some y0=>
            simp only [hi,aa] at h⊢
            split at h
            ·exact ⟨_,fun sl=>rfl⟩
            ·cases h
          ·cases h
         ·cases h
        ·cases h
      obtain ⟨B,hB⟩:=main
      refine ⟨B, ?_,fun st2 h1 h2 h3 h4 h5 h6=> ?_⟩
      ·subst e2
       rw [hB] at h
       exact (Option.some.inj h).symm
      ·unfold stepG
       rw [hfree st2 h1 h4,hf]
       have r2:st2.rd (.tmp q)=st.rd (.tmp q):=by simp only [AS.rd,h1,h4]
       have t2:st2.take (.tmp x)=(.val gg vs,⟨dv st2.slots x ((st.get x).ar st.ep),st.boxes,st.ep,st.iss,st.io⟩):=by
        simp only [AS.take,AS.put,h2,h3,h4,h5,h6,e1]
       simp only [cond_true,de,hg,bg,hp,hd,hl,Bool.false_eq_true,if_false,qe,hT,r2,hrd,t2]
       rw [if_pos hlen]
       exact hB _
     ·cases h
    ·cases h
  ·cases h
theorem Su {Y:List Nat}{p:Oper}{T:TypeId}{q x:Nat}(hp:p.op= .store T (.tmp q) (.tmp x))(hd:p.dst=none)(hg:p.guard=none){b:Nat}(hes:an.es q=some b)(heb:(an.eb q).isNone=true)(hbx:b≠x)(hsb:(an.sb q).isNone=true)(hl:tu an p=false){st s:AS}(h:stepG E Γ an ops Y p st=some s):
 ∃B,s=⟨dv (dv st.slots x ((st.get x).ar st.ep)) b B,st.boxes,st.ep+1,st.iss,st.io⟩∧
  ∀st2:AS,st2.get q=st.get q→st2.get x=st.get x→nth st2.slots b=nth st.slots b→st2.boxes=st.boxes→st2.ep=st.ep→st2.iss=st.iss→st2.io=st.io→
   stepG E Γ an ops Y p st2=some ⟨dv (dv st2.slots x ((st.get x).ar st.ep)) b B,st.boxes,st.ep+1,st.iss,st.io⟩:=by
 have hfree:∀st2:AS,st2.get q=st.get q→st2.ep=st.ep→bK E an Y p st2=bK E an Y p st:=by
  intro st2 h1 h2
  simp only [bK,hp,AS.rd,h1,h2]
 unfold stepG at h
 cases hf:bK E an Y p st with
 |false=>rw [hf] at h;cases h
 |true=>
  rw [hf] at h
  simp only [cond_true,de,hg,bg,hp,hd,hl,Bool.false_eq_true,if_false] at h
  have hfr:=hf
  simp only [bK,hp] at hfr
  have hnn:((an.sb q).isNone&&(an.eb q).isNone&&(an.es q).isNone)=false:=by
   rw [hes];simp
  rw [hnn,Bool.false_or] at hfr
  unfold qe at h
  split at h
  ·rename_i hrd
   rw [hrd] at hfr
   simp only [Bool.and_eq_true,beq_iff_eq] at hfr
   rw [hfr.2] at hsb;cases hsb
  ·rename_i sh ep0 r tg e y i off hT hrd
   rw [hrd] at hfr
   cases r with
   |box _ _=>
    simp only [Bool.and_eq_true,beq_iff_eq] at hfr
    rw [hfr.1.1] at heb;cases heb
   |io _=>simp at hfr
   |slot b' j=>
    simp only [Bool.and_eq_true,beq_iff_eq] at hfr
    have hbb:b'=b:=Option.some.inj (hfr.1.1.symm.trans hes)
    subst hbb
    split at h
    ·rename_i gg vs st1 htk
     have e1:(st.get x)= .val gg vs:=by
      have:=congrArg Prod.fst htk;exact this
     have e2:st1=⟨dv st.slots x ((st.get x).ar st.ep),st.boxes,st.ep,st.iss,st.io⟩:=by
      have:=congrArg Prod.snd htk;exact this.symm
     split at h
     ·rename_i hlen
      have main:∃B,∀sl:List AV,nth sl b'=nth st.slots b'→(⟨sl,st.boxes,st.ep,st.iss,st.io⟩:AS).jS (.slot b' j) tg e i off vs some=some ⟨dv sl b' B,st.boxes,st.ep+1,st.iss,st.io⟩:=by
       subst e2
       have hget:∀sl:List AV,nth sl b'=nth st.slots b'→(⟨sl,st.boxes,st.ep,st.iss,st.io⟩:AS).get b'=st.get b':=fun sl hq=>by unfold AS.get;rw [hq]
       have hq0:nth (dv st.slots x ((st.get x).ar st.ep)) b'=nth st.slots b':=by rw [dS,if_neg (Ne.symm hbx)]
       simp only [AS.jS,AS.cr,AS.bZ,hget _ hq0] at h
       cases hb:st.get b' with
       |tup _=>rw [hb] at h;simp at h
       |val g0 cs=>
        rw [hb] at h
        simp only at h
        split at h
        ·rename_i t' e' xs hn
         split at h
         ·rename_i he
          split at h
          ·rename_i ht
           cases hi:idx (he▸xs:List e.D) i with
           |none=>rw [hi] at h;simp [aa] at h
           |some y0=>
            simp only [hi,aa] at h
            split at h
            ·rename_i x' hx'
             refine ⟨.val g0 (dv cs j (.sl (.own (some t')) e ((he▸xs:List e.D).set i.toNat x'))),fun sl hq=> ?_⟩
             simp only [AS.jS,AS.cr,AS.bZ,hget _ hq,hb,hn,dif_pos he,if_pos ht,hi,aa,hx',AS.put]
            ·cases h
          ·cases h
         ·cases h
        ·rename_i t' i' q0 e' xs hn
         split at h
         ·rename_i he
          split at h
          ·rename_i ht
           cases hi:idx (he▸xs:List e.D) i with
           |none=>rw [hi] at h;simp [aa] at h
           |some y0=>
            simp only [hi,aa] at h
            split at h
            ·rename_i x' hx'
             refine ⟨.val g0 (dv cs j (.sl (.own (some t')) e ((he▸xs:List e.D).set i.toNat x'))),fun sl hq=> ?_⟩
             simp only [AS.jS,AS.cr,AS.bZ,hget _ hq,hb,hn,dif_pos he,if_pos ht,hi,aa,hx',AS.put]
            ·cases h
          ·cases h
         ·cases h
        ·cases h
      obtain ⟨B,hB⟩:=main
      refine ⟨B, ?_,fun st2 h1 h2 hnb h3 h4 h5 h6=> ?_⟩
      ·subst e2
       rw [hB _ (by rw [dS,if_neg (Ne.symm hbx)])] at h
       exact (Option.some.inj h).symm
      ·unfold stepG
       rw [hfree st2 h1 h4,hf]
       have r2:st2.rd (.tmp q)=st.rd (.tmp q):=by simp only [AS.rd,h1,h4]
       have t2:st2.take (.tmp x)=(.val gg vs,⟨dv st2.slots x ((st.get x).ar st.ep),st.boxes,st.ep,st.iss,st.io⟩):=by
        simp only [AS.take,AS.put,h2,h3,h4,h5,h6,e1]
       simp only [cond_true,de,hg,bg,hp,hd,hl,Bool.false_eq_true,if_false,qe,hT,r2,hrd,t2]
       rw [if_pos hlen]
       exact hB _ (by rw [dS,if_neg (Ne.symm hbx)];exact hnb)
     ·cases h
    ·cases h
  ·cases h
theorem Wf {X Y:List Nat}{o p:Oper}{st s1 s2:AS}(ha:M5 an o p=true)(h1:stepG E Γ an ops X o st=some s1)(h2:stepG E Γ an ops Y p s1=some s2):
 ∃t1,stepG E Γ an ops Y p st=some t1∧stepG E Γ an ops X o t1=some s2:=by
 unfold M5 at ha
 split at ha
 ·rename_i T q x hp hpd hpg
  simp only [Bool.and_eq_true,Bool.not_eq_true'] at ha
  obtain ⟨⟨⟨heb,hsb⟩,hl⟩,ha⟩:=ha
  have hcore:∃d t,o.dst=some d∧o.guard=none∧((o.op= .move (.tmp t)∧an.mv.contains d=false∧an.fm.contains d=true)∨∃i,o.op= .extract (.tmp t) i)∧d≠q∧d≠x∧t≠x∧d≠t∧t≠q:=by
   split at ha
   ·rename_i t d ho hd hg
    simp only [Bool.and_eq_true,Bool.not_eq_true',beq_eq_false_iff_ne] at ha
    exact ⟨d,t,hd,hg,.inl ⟨ho,ha.1.1.1.1.1.1,ha.1.1.1.1.1.2⟩,ha.1.1.1.1.2,ha.1.1.1.2,ha.1.1.2,ha.2,ha.1.2⟩
   ·rename_i t i d ho hd hg
    simp only [Bool.and_eq_true,Bool.not_eq_true',beq_eq_false_iff_ne] at ha
    exact ⟨d,t,hd,hg,.inr ⟨i,ho⟩,ha.1.1.1.1,ha.1.1.1.2,ha.1.1.2,ha.2,ha.1.2⟩
   ·cases ha
  obtain ⟨d,t,hd,hg,ho,hdq,hdx,htx,hdt,htq⟩:=hcore
  obtain ⟨tv,v,rfl,hrun⟩:=L8 hd hg ho hdt h1
  have hq:((st.put (some t) tv).put (some d) v).get q=st.get q:=by
   rw [nL hdq]
   exact nL htq
  have hx:((st.put (some t) tv).put (some d) v).get x=st.get x:=by rw [nL hdx,nL htx]
  simp only [Bool.or_eq_true,Bool.and_eq_true] at heb
  rcases heb with ⟨heb,hes⟩|hes
  ·obtain ⟨B,rfl,hgo⟩:=Wg hp hpd hpg heb hes hsb hl h2
   have k1:=hgo st hq.symm hx.symm rfl rfl rfl rfl
   refine ⟨_,k1, ?_⟩
   have hg2:(⟨dv st.slots x ((((st.put (some t) tv).put (some d) v).get x).ar ((st.put (some t) tv).put (some d) v).ep),B,((st.put (some t) tv).put (some d) v).ep+1,((st.put (some t) tv).put (some d) v).iss,((st.put (some t) tv).put (some d) v).io⟩:AS).get t=st.get t:=by
    simp only [AS.get,dS,if_neg (Ne.symm htx)]
   rw [hrun _ hg2]
   simp only [AS.put,Option.some.injEq,AS.mk.injEq,and_true]
   rw [ei _ (Ne.symm htx),ei _ (Ne.symm hdx)]
  ·cases hb:an.es q with
   |none=>rw [hb] at hes;cases hes
   |some b=>
    rw [hb] at hes
    simp only [Bool.and_eq_true,Bool.not_eq_true',beq_eq_false_iff_ne] at hes
    obtain ⟨⟨⟨heb,hbx⟩,_⟩,hbw⟩:=hes
    have hbw:=ln hbw b (by simp)
    have hbd:b≠d:=fun e=>hbw (by simp [hd,e])
    have hbt:b≠t:=fun e=>hbw (by
     refine List.mem_append.2 (.inr ?_)
     rcases ho with ⟨ho,_⟩|⟨i,ho⟩<;>simp [bE,ho,tm,e])
    obtain ⟨B,rfl,hgo⟩:=Su hp hpd hpg hb heb hbx hsb hl h2
    have hnb:nth st.slots b=nth ((st.put (some t) tv).put (some d) v).slots b:=by
     simp only [AS.put,dS,if_neg (Ne.symm hbd),if_neg (Ne.symm hbt)]
    have k1:=hgo st hq.symm hx.symm hnb rfl rfl rfl rfl
    refine ⟨_,k1, ?_⟩
    have hg2:(⟨dv (dv st.slots x ((((st.put (some t) tv).put (some d) v).get x).ar ((st.put (some t) tv).put (some d) v).ep)) b B,((st.put (some t) tv).put (some d) v).boxes,((st.put (some t) tv).put (some d) v).ep+1,((st.put (some t) tv).put (some d) v).iss,((st.put (some t) tv).put (some d) v).io⟩:AS).get t=st.get t:=by
     simp only [AS.get,dS,if_neg (Ne.symm htx),if_neg hbt]
    rw [hrun _ hg2]
    simp only [AS.put,Option.some.injEq,AS.mk.injEq,and_true]
    rw [ei _ hbt,ei _ hbd,ei _ (Ne.symm htx),ei _ (Ne.symm hdx)]
 ·cases ha
theorem JQ {c:AC}{ep:Nat}(h:c.fJ=true∨(c.borrow ep none).fJ=true):c.borrow ep none=c:=by
 cases c with
 |sl fl e xs=>
  exfalso
  cases fl with
  |holed _ _ ep=>cases ep<;>simp [AC.borrow,AC.fJ] at h
  |_=>simp [AC.borrow,AC.fJ] at h
 |_=>rfl
theorem FR {cs:List AC}{off n ep:Nat}(hfit:off+n≤cs.length)(k:Nat):(a8 cs off (ar ep ((cs.drop off).take n)))[k]?=(cs[k]?).map fun c=>if off≤k∧k<off+n then c.borrow ep none else c:=by
 have hl:(ar ep ((cs.drop off).take n)).length=n:=by simp [ar];omega
 unfold a8
 rw [hl]
 by_cases h1:k<off
 ·rw [List.append_assoc,List.getElem?_append_left (by simp;omega),List.getElem?_take_of_lt h1]
  have:(fun c:AC=>if off≤k∧k<off+n then c.borrow ep none else c)=id:=by funext c;rw [if_neg (by omega)];rfl
  rw [this,Option.map_id];rfl
 ·by_cases h2:k<off+n
  ·rw [List.getElem?_append_left (by simp [hl];omega),List.getElem?_append_right (by simp;omega)]
   have e:k-(cs.take off).length=k-off:=by simp;omega
   rw [e,ar,List.getElem?_map,List.getElem?_take_of_lt (by omega),List.getElem?_drop,show off+(k-off)=k by omega]
   congr 1
   funext c;rw [if_pos (by omega)]
  ·rw [List.getElem?_append_right (by simp [hl];omega)]
   have e:k-(cs.take off++ar ep ((cs.drop off).take n)).length=k-(off+n):=by simp [hl];omega
   rw [e,List.getElem?_drop,show off+n+(k-(off+n))=k by omega]
   have:(fun c:AC=>if off≤k∧k<off+n then c.borrow ep none else c)=id:=by funext c;rw [if_neg (by omega)];rfl
   rw [this,Option.map_id];rfl
theorem Bj {cs:List AC}{off n ep o2 n2:Nat}(hfit:off+n≤cs.length)(h:((cs.drop o2).take n2).all AC.fJ=true∨(((a8 cs off (ar ep ((cs.drop off).take n))).drop o2).take n2).all AC.fJ=true):
 ((a8 cs off (ar ep ((cs.drop off).take n))).drop o2).take n2=(cs.drop o2).take n2:=by
 apply List.ext_getElem?
 intro k
 by_cases hk:k<n2
 ·rw [List.getElem?_take_of_lt hk,List.getElem?_take_of_lt hk,List.getElem?_drop,List.getElem?_drop,FR hfit]
  cases hc:cs[o2+k]? with
  |none=>rfl
  |some c=>
   simp only [Option.map_some]
   split
   ·rename_i hin
    refine congrArg some (JQ ?_)
    rcases h with h|h
    ·left
     refine List.all_eq_true.1 h c (List.mem_of_getElem? (i:=k) ?_)
     rw [List.getElem?_take_of_lt hk,List.getElem?_drop,hc]
    ·right
     refine List.all_eq_true.1 h _ (List.mem_of_getElem? (i:=k) ?_)
     rw [List.getElem?_take_of_lt hk,List.getElem?_drop,FR hfit,hc,Option.map_some,if_pos hin]
   ·rfl
 ·rw [List.getElem?_eq_none (by simp;omega),List.getElem?_eq_none (by simp;omega)]
theorem Co {b ep:Nat}:∀{cs:List AC}{j:Nat},cs.all AC.fJ=true→oh ep (.box b) j cs=cs
 |[],_,_=>rfl
 |c::cs,j,h=>by
  simp only [List.all_cons,Bool.and_eq_true] at h
  rw [oh,Co h.2]
  congr 1
  cases c<;>first|rfl|(simp [AC.fJ] at h)
theorem F0 {o:Oper}(h:yi an o=true):∃T q d,o.op= .load T (.tmp q)∧o.dst=some d∧o.guard=none∧an.mv.contains d=true∧(an.mb d).isSome=true:=by
 unfold yi at h
 split at h
 ·rename_i T q d ho hd hg
  simp only [Bool.and_eq_true] at h
  exact ⟨T,q,d,ho,hd,hg,h.1,h.2⟩
 ·cases h
theorem EK {o:Oper}(h:EJ an o=true):∃T q d,o.op= .load T (.tmp q)∧o.dst=some d∧o.guard=none∧an.mv.contains d=false∧an.fm.contains d=true:=by
 unfold EJ at h
 split at h
 ·rename_i T q d ho hd hg
  simp only [Bool.and_eq_true,Bool.not_eq_true'] at h
  exact ⟨T,q,d,ho,hd,hg,h.1,h.2⟩
 ·cases h
theorem yS {X:List Nat}{o:Oper}{T:TypeId}{q d:Nat}(ht:yi an o=true)(ho:o.op= .load T (.tmp q))(hd:o.dst=some d)(hg:o.guard=none)(hmv:an.mv.contains d=true){st s:AS}:stepG E Γ an ops X o st=some s↔
 ∃sh b off cs,eL E.ty T=some sh∧st.rd (.tmp q)= .val false [.ptr b off]∧(nth st.boxes b).getD none=some cs∧off+sh.ct.size≤cs.length∧X.contains b=false∧an.mb d=some b∧(SL an o=true→xH E T st b off=true)∧
  s=(st.cf b (some (a8 cs off (ar st.ep ((cs.drop off).take sh.ct.size))))).put (some d) (.val sh.agg ((cs.drop off).take sh.ct.size)):=by
 have key:bK E an X o st=true→∀r,bg E Γ an o st some=some r→∃b off,st.rd (.tmp q)= .val false [.ptr b off]:=by
  intro hf r hr
  simp only [bg,ho,po] at hr
  split at hr
  ·rename_i hp;exact ⟨_,_,hp⟩
  ·rename_i hp
   simp only [bK,ho,hp,ht,Bool.or_true,Bool.not_true,Bool.and_false] at hf
   cases hf
  ·cases hr
 unfold stepG
 constructor
 ·intro h
  cases hf:bK E an X o st with
  |false=>rw [hf] at h;cases h
  |true=>
   rw [hf] at h
   simp only [cond_true,de,hg] at h
   obtain ⟨b,off,hp⟩:=key hf s h
   simp only [bK,ho,hp,hd,hmv,Bool.not_true,Bool.false_or,Bool.and_eq_true,Bool.not_eq_true',beq_iff_eq,Bool.or_eq_true] at hf
   simp only [bg,ho,po,hp] at h
   cases hT:eL E.ty T with
   |none=>rw [hT] at h;cases h
   |some sh=>
    rw [hT] at h
    simp only at h
    cases hb:(nth st.boxes b).getD none with
    |none=>rw [hb] at h;cases h
    |some cs=>
     rw [hb] at h
     simp only at h
     split at h
     ·rename_i hfit
      simp only [hd,hmv,if_true] at h
      cases h
      refine ⟨sh,b,off,cs,rfl,hp,hb,hfit,hf.1.1,hf.1.2,fun hm=> ?_,rfl⟩
      rcases hf.2 with g|g
      ·rw [hm] at g;cases g
      ·exact g
     ·cases h
 ·rintro ⟨sh,b,off,cs,hT,hp,hb,hfit,hX,hmb,hfm,rfl⟩
  have hf:bK E an X o st=true:=by
   simp only [bK,ho,hp,hd,hmv,hX,hmb,Bool.not_true,Bool.false_or,Bool.and_eq_true,Bool.not_eq_true',beq_iff_eq,Bool.or_eq_true]
   refine ⟨⟨trivial,trivial⟩, ?_⟩
   cases hm:SL an o with
   |false=>exact .inl rfl
   |true=>exact .inr (hfm hm)
  rw [hf]
  simp only [cond_true,de,hg,bg,ho,po,hp,hT,hb,if_pos hfit,hd,hmv,if_true]
theorem yz {X:List Nat}{o:Oper}{T:TypeId}{q d:Nat}(ho:o.op= .load T (.tmp q))(hd:o.dst=some d)(hg:o.guard=none)(hmv:an.mv.contains d=false)(hfm:an.fm.contains d=true){st s:AS}:stepG E Γ an ops X o st=some s↔
 ∃sh b off cs,eL E.ty T=some sh∧st.rd (.tmp q)= .val false [.ptr b off]∧(nth st.boxes b).getD none=some cs∧off+sh.ct.size≤cs.length∧X.contains b=false∧((cs.drop off).take sh.ct.size).all AC.fJ=true∧
  s=st.put (some d) (.val sh.agg ((cs.drop off).take sh.ct.size)):=by
 have hfb:SL an o=true:=by simp only [SL,hd,hfm]
 have key:bK E an X o st=true→∀r,bg E Γ an o st some=some r→∃b off,st.rd (.tmp q)= .val false [.ptr b off]:=by
  intro hf r hr
  simp only [bg,ho,po] at hr
  split at hr
  ·rename_i hp;exact ⟨_,_,hp⟩
  ·rename_i hp
   simp only [bK,ho,hp,hfb,Bool.true_or,Bool.not_true,Bool.and_false] at hf
   cases hf
  ·cases hr
 unfold stepG
 constructor
 ·intro h
  cases hf:bK E an X o st with
  |false=>rw [hf] at h;cases h
  |true=>
   rw [hf] at h
   simp only [cond_true,de,hg] at h
   obtain ⟨b,off,hp⟩:=key hf s h
   simp only [bK,ho,hp,hd,hmv,hfb,Bool.not_true,Bool.not_false,Bool.true_or,Bool.false_or,Bool.and_true,Bool.and_eq_true,Bool.not_eq_true'] at hf
   simp only [bg,ho,po,hp] at h
   cases hT:eL E.ty T with
   |none=>rw [hT] at h;cases h
   |some sh=>
    rw [hT] at h
    simp only at h
    cases hb:(nth st.boxes b).getD none with
    |none=>rw [hb] at h;cases h
    |some cs=>
     rw [hb] at h
     simp only at h
     split at h
     ·rename_i hfit
      have hst:((cs.drop off).take sh.ct.size).all AC.fJ=true:=by
       have:=hf.2
       unfold xH at this
       rw [hT,hb] at this
       exact this
      simp only [hd,hmv,Bool.false_eq_true,if_false,Co hst] at h
      cases h
      exact ⟨sh,b,off,cs,rfl,hp,hb,hfit,hf.1,hst,rfl⟩
     ·cases h
 ·rintro ⟨sh,b,off,cs,hT,hp,hb,hfit,hX,hst,rfl⟩
  have hf:bK E an X o st=true:=by
   simp only [bK,ho,hp,hd,hmv,hX,hfb,xH,hT,hb,hst];rfl
  rw [hf]
  simp only [cond_true,de,hg,bg,ho,po,hp,hT,hb,if_pos hfit,hd,hmv,Bool.false_eq_true,if_false,Co hst]
theorem PG {st:AS}{q d:Nat}{v:AV}(h:d≠q):(st.put (some d) v).rd (.tmp q)=st.rd (.tmp q):=by
 simp only [AS.rd,nL h];rfl
theorem TQ {st:AS}{q b:Nat}{cs:Option (List AC)}:(st.cf b cs).rd (.tmp q)=st.rd (.tmp q):=rfl
theorem Sl {st:AS}{b:Nat}{cs x:List AC}(h:(nth st.boxes b).getD none=some cs):(nth (dv st.boxes b (some x)) b).getD none=some x:=by
 rw [dS,if_pos rfl]
 cases hn:nth st.boxes b with
 |none=>rw [hn] at h;cases h
 |some _=>
  have:b<st.boxes.length:=by rw [bC] at hn;exact (List.getElem?_eq_some_iff.1 hn).1
  rw [if_pos this];rfl
theorem Sn {st:AS}{b b2:Nat}{x:List AC}(h:b≠b2):nth (dv st.boxes b (some x)) b2=nth st.boxes b2:=by
 rw [dS,if_neg h]
theorem WL {X Y:List Nat}{o p:Oper}{st s1 s2:AS}(ha:NL an o p=true)(h1:stepG E Γ an ops X o st=some s1)(h2:stepG E Γ an ops Y p s1=some s2):
 ∃t1,stepG E Γ an ops Y p st=some t1∧stepG E Γ an ops X o t1=some s2:=by
 simp only [NL,Bool.and_eq_true,Bool.or_eq_true,Bool.not_eq_true'] at ha
 obtain ⟨⟨ha,m1⟩,m2⟩:=ha
 have m1:=ln m1
 have m2:=ln m2
 rcases ha with ⟨ht,hf⟩|⟨hf,ht⟩
 ·obtain ⟨T,q,d,ho,hd,hg,hmv,hmb⟩:=F0 ht
  obtain ⟨T2,q2,d2,hp,hd2,hg2,hmv2,hfm2⟩:=EK hf
  have n1:d≠d2:=fun e=>m1 d (by simp [hd]) (by simp [hd2,e])
  have n2:d≠q2:=fun e=>m1 d (by simp [hd]) (by simp [bE,hp,tm,e])
  have n3:d2≠q:=fun e=>m2 d2 (by simp [hd2]) (by simp [bE,ho,tm,e])
  obtain ⟨sh,b,off,cs,hT,hr,hb,hfit,hX,hmbe,hfm,rfl⟩:=(yS ht ho hd hg hmv).1 h1
  obtain ⟨sh2,b2,off2,cs2,hT2,hr2,hb2,hfit2,hX2,hst2,rfl⟩:=(yz hp hd2 hg2 hmv2 hfm2).1 h2
  rw [PG n2,TQ] at hr2
  have hbx:(nth (dv st.boxes b (some (a8 cs off (ar st.ep ((cs.drop off).take sh.ct.size))))) b2).getD none=some cs2:=hb2
  have hfin:∃cs0,(nth st.boxes b2).getD none=some cs0∧off2+sh2.ct.size≤cs0.length∧(cs2.drop off2).take sh2.ct.size=(cs0.drop off2).take sh2.ct.size:=by
   by_cases hbb:b=b2
   ·subst hbb
    rw [Sl hb] at hbx
    cases hbx
    have hlen:(a8 cs off (ar st.ep ((cs.drop off).take sh.ct.size))).length=cs.length:=by
     simp only [a8,ar,List.length_append,List.length_map,List.length_take,List.length_drop];omega
    exact ⟨cs,hb,by omega,Bj hfit (.inr hst2)⟩
   ·rw [Sn hbb] at hbx
    exact ⟨cs2,hbx,hfit2,rfl⟩
  obtain ⟨cs0,hb0,hfit0,he⟩:=hfin
  rw [he] at hst2⊢
  refine ⟨_,(yz hp hd2 hg2 hmv2 hfm2).2 ⟨sh2,b2,off2,cs0,hT2,hr2,hb0,hfit0,hX2,hst2,rfl⟩,(yS ht ho hd hg hmv).2 ⟨sh,b,off,cs,hT,by rw [PG n3];exact hr,hb,hfit,hX,hmbe,fun hm=> ?_, ?_⟩⟩
  ·have:=hfm hm;unfold xH at this⊢;exact this
  ·simp only [AS.put,AS.cf,AS.mk.injEq,and_true]
   exact ei _ n1 _ _
 ·obtain ⟨T,q,d,ho,hd,hg,hmv,hfm⟩:=EK hf
  obtain ⟨T2,q2,d2,hp,hd2,hg2,hmv2,hmb2⟩:=F0 ht
  have n1:d≠d2:=fun e=>m1 d (by simp [hd]) (by simp [hd2,e])
  have n2:d≠q2:=fun e=>m1 d (by simp [hd]) (by simp [bE,hp,tm,e])
  have n3:d2≠q:=fun e=>m2 d2 (by simp [hd2]) (by simp [bE,ho,tm,e])
  obtain ⟨sh,b,off,cs,hT,hr,hb,hfit,hX,hst,rfl⟩:=(yz ho hd hg hmv hfm).1 h1
  obtain ⟨sh2,b2,off2,cs2,hT2,hr2,hb2,hfit2,hX2,hmbe,hfm2,rfl⟩:=(yS ht hp hd2 hg2 hmv2).1 h2
  rw [PG n2] at hr2
  refine ⟨_,(yS ht hp hd2 hg2 hmv2).2 ⟨sh2,b2,off2,cs2,hT2,hr2,hb2,hfit2,hX2,hmbe,fun hm=>hfm2 hm,rfl⟩, ?_⟩
  have hfin:∃cs0,(nth (dv st.boxes b2 (some (a8 cs2 off2 (ar st.ep ((cs2.drop off2).take sh2.ct.size))))) b).getD none=some cs0∧off+sh.ct.size≤cs0.length∧(cs0.drop off).take sh.ct.size=(cs.drop off).take sh.ct.size:=by
   by_cases hbb:b2=b
   ·subst hbb
    have hcs:cs2=cs:=Option.some.inj (hb2.symm.trans hb)
    subst hcs
    have hlen:(a8 cs2 off2 (ar st.ep ((cs2.drop off2).take sh2.ct.size))).length=cs2.length:=by
     simp only [a8,ar,List.length_append,List.length_map,List.length_take,List.length_drop];omega
    exact ⟨_,Sl hb,by omega,Bj hfit2 (.inl hst)⟩
   ·exact ⟨cs,by rw [Sn hbb];exact hb,hfit,rfl⟩
  obtain ⟨cs0,hb0,hfit0,he⟩:=hfin
  refine (yz ho hd hg hmv hfm).2 ⟨sh,b,off,cs0,hT,by rw [PG n3,TQ];exact hr,hb0,hfit0,hX,by rw [he];exact hst, ?_⟩
  rw [he]
  simp only [AS.put,AS.cf,AS.mk.injEq,and_true]
  exact ei _ n1 _ _
def GF (E:Env)(Γ:aO)(an:An)(ops:List Oper)(X:Nat→List Nat):List Nat→AS→Option AS
 |[],st=>some st
 |i::r,st=>match nth ops i with
  |some o=>(stepG E Γ an ops (X i) o st).bind (GF E Γ an ops X r)
  |none=>none
theorem FE (hΓ:∀f,(Γ f).io=false∧(Γ f).bx=false){X:Nat→List Nat}{i:Nat}{oi:Oper}(hi:nth ops i=some oi):∀(pre post:List Nat)(st r:AS),(∀j∈pre,∀oj,nth ops j=some oj→DF an ops (X j) (X i) oj oi=true)→
 GF E Γ an ops X (pre++i::post) st=some r→GF E Γ an ops X (i::(pre++post)) st=some r
 |[],post,st,r,_,h=>h
 |j::pre,post,st,r,ha,h=>by
  simp only [List.cons_append,GF] at h
  cases hj:nth ops j with
  |none=>rw [hj] at h;cases h
  |some oj=>
   rw [hj] at h
   simp only at h
   obtain ⟨s1,h1,h2⟩:=Option.bind_eq_some_iff.1 h
   have h3:=FE hΓ hi pre post s1 r (fun k hk=>ha k (by simp [hk])) h2
   simp only [GF,hi] at h3
   obtain ⟨s2,h4,h5⟩:=Option.bind_eq_some_iff.1 h3
   have hap:=ha j (by simp) oj hj
   obtain ⟨t1,k1,k2⟩:∃t1,stepG E Γ an ops (X i) oi st=some t1∧stepG E Γ an ops (X j) oj t1=some s2:=by
    cases hx:TL an oj oi with
    |false=>rw [DF,hx,Bool.false_or] at hap;exact Ov hΓ hap h1 h4
    |true=>
     simp only [TL,Bool.or_eq_true] at hx
     rcases hx with (hx|hx)|hx
     ·exact SH hx h1 h4
     ·exact Wf hx h1 h4
     ·exact WL hx h1 h4
   simp only [GF,hi,k1,Option.bind_some,List.cons_append,hj,k2]
   exact h5
end Go.Dn
