import Derived.Test.YtcmdhgbbpmnbpaaGreatDnMask
/- What an operation looks at and what it turns: for regions whose order is drawn. -/
namespace Go.Dn
structure Cq where
 slots:List (Nat×AV):=[]
 box:Option (Nat×List AC):=none
 iss:Option Nat:=none
def eC (l:List AV):List (Nat×AV)→List AV
 |[]=>l
 |x::r=>eC (dv l x.1 x.2) r
def Cq.apply (u:Cq)(st:AS):AS:=
 ⟨eC st.slots u.slots,(match u.box with|some b=>dv st.boxes b.1 (some b.2)|none=>st.boxes),st.ep,(match u.iss with|some d=>dv st.iss d true|none=>st.iss),st.io⟩
structure cV (an:An) (X:List Nat) (o:Oper) (st st2:AS):Prop where
 len:st2.slots.length=st.slots.length
 get:∀t∈bE o,st2.get t=st.get t
 ep:st2.ep=st.ep
 dst:∀d,o.dst=some d→nth st2.iss d=nth st.iss d∧nth st2.boxes d=nth st.boxes d
 box:∀s,X.contains s=false→nth st2.boxes s=nth st.boxes s
 er:∀t∈erS an o,st2.get t=st.get t
structure Cq.zA (an:An) (u:Cq) (o:Oper):Prop where
 slots:∀x∈u.slots,x.1∈writes an o
 box:∀b,u.box=some b→b.1∈Ab an o
 iss:∀d,u.iss=some d→o.dst=some d
variable {E:Env} {Γ:aO} {an:An} {X:List Nat} {o:Oper} {st st2 st':AS}
theorem TP {x:Operand}(hep:st2.ep=st.ep)(h:∀t∈tm x,st2.get t=st.get t):st2.rd x=st.rd x:=by
 cases x with
 |tmp t=>simp only [AS.rd,hep,h t (by simp [tm])]
 |const v=>rfl
 |func f=>rfl
 |global g=>rfl
def bI (E:Env)(Γ:aO)(an:An)(X:List Nat)(o:Oper)(st st':AS):Prop:=
 ∃u:Cq,u.zA an o∧st'=u.apply st∧∀st2,cV an X o st st2→bg E Γ an o st2 some=some (u.apply st2)
def xc (o:Oper)(v:AV):Cq:={slots:=o.dst.toList.map fun d=>(d,v)}
theorem mj (v:AV):(xc o v).apply st=st.put o.dst v:=by
 unfold xc Cq.apply AS.put
 cases o.dst<;>rfl
theorem u4 (v:AV):(xc o v).zA an o:=by
 refine ⟨fun x hx=> ?_,fun b hb=>by simp [xc] at hb,fun d hd=>by simp [xc] at hd⟩
 simp only [xc,List.mem_map] at hx
 obtain ⟨d,hd,rfl⟩:=hx
 simp [writes,hd]
def Aa (o:Oper)(v:AV):Cq:={slots:=o.dst.toList.map fun d=>(d,v),iss:=o.dst}
theorem Bt (v:AV):(Aa o v).apply st=(st.cC o.dst).put o.dst v:=by
 unfold Aa Cq.apply AS.put AS.cC
 cases o.dst<;>rfl
theorem GN (v:AV):(Aa o v).zA an o:=by
 refine ⟨fun x hx=> ?_,fun b hb=>by simp [Aa] at hb,fun d hd=>by simpa [Aa] using hd⟩
 simp only [Aa,List.mem_map] at hx
 obtain ⟨d,hd,rfl⟩:=hx
 simp [writes,hd]
theorem bI.put {v:AV}(h:st'=st.put o.dst v)(h2:∀st2,cV an X o st st2→bg E Γ an o st2 some=some (st2.put o.dst v)):bI E Γ an X o st st':=
 ⟨xc o v,u4 v,by rw [mj];exact h,fun st2 ha=>by rw [mj];exact h2 st2 ha⟩
theorem cV.rd (ha:cV an X o st st2){x:Operand}(hx:∀t∈tm x,t∈bE o):st2.rd x=st.rd x:=TP ha.ep fun t ht=>ha.get t (hx t ht)
theorem NW {c x y:Operand}(ho:o.op= .pick c x y)(h:xT o c x y st some=some st'):bI E Γ an X o st st':=by
 have hr:∀st2,cV an X o st st2→st2.rd c=st.rd c∧st2.rd x=st.rd x∧st2.rd y=st.rd y:=fun st2 ha=>
  ⟨ha.rd (fun t ht=>by simp [bE,ho,ht]),ha.rd (fun t ht=>by simp [bE,ho,ht]),ha.rd (fun t ht=>by simp [bE,ho,ht])⟩
 unfold xT at h
 split at h
 ·rename_i t hc
  split at h
  ·rename_i a b hx hy
   cases h
   refine bI.put rfl fun st2 ha=> ?_
   obtain ⟨h1,h2,h3⟩:=hr st2 ha
   simp only [bg,ho,xT,h1,h2,h3,hc,hx,hy]
  ·rename_i va vb hno
   have hgo:∀st2,cV an X o st st2→bg E Γ an o st2 some=cond t (some (st2.put o.dst (st.rd x))) (some (st2.put o.dst (st.rd y))):=by
    intro st2 ha
    obtain ⟨h1,h2,h3⟩:=hr st2 ha
    simp only [bg,ho,xT,h1,h2,h3,hc]
   cases t with
   |true=>cases h;exact bI.put rfl fun st2 ha=>hgo st2 ha
   |false=>cases h;exact bI.put rfl fun st2 ha=>hgo st2 ha
 ·cases h
theorem E8 {d s:Nat}{cs:List AC}{v:AV}:(⟨[(d,v)],some (s,cs),none⟩:Cq).apply st=(st.cf s (some cs)).put (some d) v:=rfl
theorem NU {T:TypeId}{p:Operand}(ho:o.op= .load T p)(hm:iD an o=true)(hfree:bK E an X o st=true)(h:po E an o T p st some=some st'):bI E Γ an X o st st':=by
 have hr:∀st2,cV an X o st st2→st2.rd p=st.rd p:=fun st2 ha=>ha.rd (fun t ht=>by simpa [bE,ho] using ht)
 have htk:Bq an o=false:=by
  simp only [iD,ho] at hm
  unfold Bq
  cases hdd:o.dst with
  |none=>rfl
  |some d=>
   rw [hdd] at hm
   simp only [Bool.or_eq_true,Bool.not_eq_true'] at hm
   rcases hm with hm|hm
   ·simp only [hm,Bool.false_and]
   ·cases hmb:an.mb d with
    |none=>rw [hmb] at hm;cases hm
    |some _=>simp [hmb]
 unfold po at h
 split at h
 ·rename_i sh s off hT hp
  simp only [bK,ho,hp,Bool.and_eq_true,Bool.not_eq_true'] at hfree
  split at h
  ·rename_i cs hb
   split at h
   ·rename_i hfit
    split at h
    ·rename_i d hd
     have hbx:∀st2,cV an X o st st2→nth st2.boxes s=nth st.boxes s:=fun st2 ha=>ha.box s hfree.1.1
     cases hf:an.mv.contains d with
     |false=>
      simp only [hf,Bool.false_eq_true,if_false] at h
      cases h
      refine bI.put (by rw [hd]) fun st2 ha=> ?_
      simp only [bg,ho,po,hT,hr st2 ha,hp,hbx st2 ha,hb,if_pos hfit,hd,hf,Bool.false_eq_true,if_false,ha.ep]
     |true=>
      simp only [hf,if_true] at h
      have hmb:an.mb d=some s:=by
       have:=hfree.1.2
       rw [hd] at this
       simp only [hf,Bool.not_true,Bool.false_or,beq_iff_eq] at this
       exact this
      cases h
      refine ⟨⟨[(d,.val sh.agg ((cs.drop off).take sh.ct.size))],some (s,a8 cs off (ar st.ep ((cs.drop off).take sh.ct.size))),none⟩,⟨fun x hx=> ?_,fun b hb'=> ?_,fun _ hh=>by cases hh⟩, ?_,fun st2 ha=> ?_⟩
      ·simp only [List.mem_singleton] at hx;subst hx;simp [writes,hd]
      ·cases hb';simp only [Ab,ho,hd,hf,cond_true,hmb];simp
      ·rw [E8,hd]
      ·simp only [bg,ho,po,hT,hr st2 ha,hp,hbx st2 ha,hb,if_pos hfit,hd,hf,if_true,ha.ep,E8]
    ·cases h
   ·cases h
  ·cases h
 ·rename_i sh fl e x i off hT hp
  rw [if_neg (by simp [htk])] at h
  split at h
  ·rename_i hl
   split at h
   ·rename_i hfit
    cases h
    refine bI.put rfl fun st2 ha=> ?_
    simp only [bg,ho,po,hT,hr st2 ha,hp,ha.ep,htk,Bool.false_eq_true,if_false,if_pos hl,if_pos hfit]
   ·cases h
  ·rename_i hl
   have hroot:∀r t ep0,fl= .loc ep0 (some (r,t))→∀st2,cV an X o st st2→st2.cr r=st.cr r:=by
    rintro r t ep0 rfl st2 ha
    simp only [bK,ho,hp,Bool.and_eq_true,Bool.or_eq_true] at hfree
    rcases hfree.1 with hq|hq
    ·exact absurd hq hl
    ·cases r with
     |slot b j=>simp only [AS.cr];rw [ha.er b (by simpa using hq)]
     |box b j=>simp only [AS.cr];rw [ha.box b (by simpa using hq)]
     |io j=>cases hq
   unfold wZ at h
   split at h
   ·rename_i ep0 r t
    split at h
    ·rename_i t' e' ys hrg
     split at h
     ·rename_i he
      split at h
      ·rename_i hc
       cases hi:idx (he▸ys:List _) i with
       |none=>rw [hi] at h;cases h
       |some y=>
        rw [hi] at h
        simp only [aa] at h
        cases h
        refine bI.put rfl fun st2 ha=> ?_
        simp only [bg,ho,po,hT,hr st2 ha,hp,ha.ep,htk,Bool.false_eq_true,if_false,if_neg hl,wZ,hroot _ _ _ rfl st2 ha,hrg,dif_pos he,if_pos hc,hi,aa]
      ·cases h
     ·cases h
    ·cases h
   ·cases h
 ·cases h
theorem Fe {x:Operand}(ho:o.op= .nilCheck x)(h:bg E Γ an o st some=some st'):bI E Γ an X o st st':=by
 have hr:∀st2,cV an X o st st2→st2.rd x=st.rd x:=fun st2 ha=>ha.rd (fun t ht=>by simpa [bE,ho] using ht)
 simp only [bg,ho] at h
 split at h
 ·rename_i s off hx
  cases h
  refine bI.put rfl fun st2 ha=> ?_
  simp only [bg,ho,hr st2 ha,hx]
 ·rename_i fl e y i off hx
  cases h
  refine bI.put rfl fun st2 ha=> ?_
  simp only [bg,ho,hr st2 ha,hx]
 ·cases h
theorem Gb {op:BinOp}{x y:AV}(h:(yT op x y fun c=>some (st.put o.dst (.one c)))=some st'):∃v,st'=st.put o.dst v∧∀st2:AS,(yT op x y fun c=>some (st2.put o.dst (.one c)))=some (st2.put o.dst v):=by
 have key:∀s:AS,(yT op x y fun c=>some (s.put o.dst (.one c)))=(yT op x y some).bind fun c=>some (s.put o.dst (.one c)):=fun s=>(yo op x y some _).symm
 rw [key st] at h
 cases hb:yT op x y some with
 |none=>rw [hb] at h;cases h
 |some c=>
  rw [hb] at h
  cases h
  exact ⟨_,rfl,fun st2=>by rw [key st2,hb];rfl⟩
theorem HJ {op:BinOp}{b:Bool}(h:(xh op b fun c=>some (st.put o.dst (.one c)))=some st'):∃v,st'=st.put o.dst v∧∀st2:AS,(xh op b fun c=>some (st2.put o.dst (.one c)))=some (st2.put o.dst v):=by
 unfold xh at h
 split at h
 ·cases h;exact ⟨_,rfl,fun st2=>rfl⟩
 ·cases h;exact ⟨_,rfl,fun st2=>rfl⟩
 ·cases h
theorem Q5 {op:BinOp}{T T':TypeId}{x y:Operand}(ho:o.op= .binOp op T x y T')(h:ui E o op T x y st some=some st'):bI E Γ an X o st st':=by
 have hr:∀st2,cV an X o st st2→st2.rd x=st.rd x∧st2.rd y=st.rd y:=fun st2 ha=>
  ⟨ha.rd (fun t ht=>by simp [bE,ho,ht]),ha.rd (fun t ht=>by simp [bE,ho,ht])⟩
 unfold ui at h
 split at h
 ·rename_i a b hx hy
  split at h
  ·rename_i hT
   obtain ⟨v,rfl,hv⟩:=Gb h
   refine bI.put rfl fun st2 ha=> ?_
   simp only [bg,ho,ui,(hr st2 ha).1,(hr st2 ha).2,hx,hy,if_pos hT]
   exact hv st2
  ·cases h
 ·rename_i xs ys hx hy
  split at h
  ·rename_i ls hq
   split at h
   ·rename_i hfit
    obtain ⟨v,rfl,hv⟩:=Gb h
    refine bI.put rfl fun st2 ha=> ?_
    simp only [bg,ho,ui,(hr st2 ha).1,(hr st2 ha).2,hx,hy,hq,if_pos hfit]
    exact hv st2
   ·cases h
  ·cases h
 ·rename_i fl e xs hx hy
  split at h
  ·rename_i hT
   split at h
   ·cases h
   ·rename_i hlen
    obtain ⟨v,rfl,hv⟩:=HJ h
    refine bI.put rfl fun st2 ha=> ?_
    simp only [bg,ho,ui,(hr st2 ha).1,(hr st2 ha).2,hx,hy,ha.ep,if_pos hT,if_neg hlen]
    exact hv st2
  ·cases h
 ·rename_i hx hy
  split at h
  ·rename_i hT
   obtain ⟨v,rfl,hv⟩:=HJ h
   refine bI.put rfl fun st2 ha=> ?_
   simp only [bg,ho,ui,(hr st2 ha).1,(hr st2 ha).2,hx,hy,if_pos hT]
   exact hv st2
  ·cases h
 ·rename_i a b hn1 hn2 hn3 hn4
  obtain ⟨v,rfl,hv⟩:=Gb h
  refine bI.put rfl fun st2 ha=> ?_
  simp only [bg,ho,ui,(hr st2 ha).1,(hr st2 ha).2]
  exact hv st2
theorem Tv {op:UnOp}{T:TypeId}{x:Operand}(ho:o.op= .unOp op T x)(h:(VQ op (st.rd x) fun c=>some (st.put o.dst (.one c)))=some st'):bI E Γ an X o st st':=by
 have hr:∀st2,cV an X o st st2→st2.rd x=st.rd x:=fun st2 ha=>ha.rd (fun t ht=>by simpa [bE,ho] using ht)
 have key:∀s:AS,(VQ op (st.rd x) fun c=>some (s.put o.dst (.one c)))=(VQ op (st.rd x) some).bind fun c=>some (s.put o.dst (.one c)):=fun s=>(Mx op (st.rd x) some _).symm
 rw [key st] at h
 cases hb:VQ op (st.rd x) some with
 |none=>rw [hb] at h;cases h
 |some c=>
  rw [hb] at h
  cases h
  refine bI.put rfl fun st2 ha=> ?_
  simp only [bg,ho,hr st2 ha]
  rw [key st2,hb];rfl
theorem LC {S:TypeId}{p:Operand}{f:Nat}(ho:o.op= .fieldAddr S p f)(h:tf E o S p f st some=some st'):bI E Γ an X o st st':=by
 have hr:∀st2,cV an X o st st2→st2.rd p=st.rd p:=fun st2 ha=>ha.rd (fun t ht=>by simpa [bE,ho] using ht)
 unfold tf at h
 split at h
 ·rename_i hT hp
  split at h
  ·rename_i hf
   cases h
   refine bI.put rfl fun st2 ha=> ?_
   simp only [bg,ho,tf,hr st2 ha,hT,hp,hf]
  ·cases h
 ·rename_i hT hp
  split at h
  ·rename_i hf
   cases h
   refine bI.put rfl fun st2 ha=> ?_
   simp only [bg,ho,tf,hr st2 ha,hT,hp,hf]
  ·cases h
 ·cases h
theorem sU {v:AV}{s:AS}(h:v.now s.ep=true):v.fresh s=v:=by
 cases v with
 |tup vs=>rfl
 |val g cs=>
  simp only [AV.now,List.all_eq_true] at h
  simp only [AV.fresh]
  congr 1
  have:cs.map s.fresh=cs.map id:=List.map_congr_left fun c hc=>by
   have hn:=h c hc
   unfold AS.fresh
   split
   ·simp only [AC.now] at hn;rw [hn];rfl
   ·rfl
  rw [this,List.map_id]
theorem K2 {v:AV}{st st2:AS}(he:st2.ep=st.ep)(h:v.now st.ep=true∨∃g ep b j t e xs,v= .val g [.sl (.loc ep (some (.box b j,t))) e xs]∧nth st2.boxes b=nth st.boxes b):v.fresh st2=v.fresh st:=by
 rcases h with h|⟨g,ep,b,j,t,e,xs,rfl,hb⟩
 ·rw [sU h,sU (by rw [he];exact h)]
 ·simp only [AV.fresh,List.map_cons,List.map_nil]
  congr 2
  unfold AS.fresh
  simp only [AS.cr,he,hb]
theorem C2 {T:TypeId}{x i:Operand}(ho:o.op= .indexAddr T x i)(hfree:bK E an X o st=true)(h:gP E o T x i st some=some st'):bI E Γ an X o st st':=by
 have hr:∀st2,cV an X o st st2→st2.rd x=st.rd x∧st2.rd i=st.rd i:=fun st2 ha=>
  ⟨ha.rd (fun t ht=>by simp [bE,ho,ht]),ha.rd (fun t ht=>by simp [bE,ho,ht])⟩
 have hf2:∀st2,cV an X o st st2→(st.rd x).fresh st2=(st.rd x).fresh st:=fun st2 ha=>by
  refine K2 ha.ep ?_
  simp only [bK,ho,Bool.or_eq_true] at hfree
  rcases hfree with hn|hn
  ·exact .inl hn
  ·split at hn
   ·rename_i g ep b j t e xs hx
    exact .inr ⟨g,ep,b,j,t,e,xs,hx,ha.box b (by simpa using hn)⟩
   ·cases hn
 unfold gP at h
 split at h
 ·rename_i e' fl e xs k n hT hx hi
  split at h
  ·rename_i hc
   cases hix:idx xs n with
   |none=>rw [hix] at h;cases h
   |some y=>
    rw [hix] at h
    cases h
    refine bI.put rfl fun st2 ha=> ?_
    have hf3:=hf2 st2 ha
    rw [hx] at hf3
    simp only [bg,ho,gP,(hr st2 ha).1,(hr st2 ha).2,hf3,hT,hi,ha.ep,if_pos hc,hix,aa]
  ·cases h
 ·cases h
theorem LD {T:TypeId}{x i:Operand}(ho:o.op= .index T x i)(h:uV E o T x i st some=some st'):bI E Γ an X o st st':=by
 have hr:∀st2,cV an X o st st2→st2.rd x=st.rd x∧st2.rd i=st.rd i:=fun st2 ha=>
  ⟨ha.rd (fun t ht=>by simp [bE,ho,ht]),ha.rd (fun t ht=>by simp [bE,ho,ht])⟩
 unfold uV at h
 split at h
 ·rename_i s k n hx hi
  split at h
  ·rename_i hc
   cases hix:idx s n with
   |none=>rw [hix] at h;cases h
   |some y=>
    rw [hix] at h
    cases h
    refine bI.put rfl fun st2 ha=> ?_
    simp only [bg,ho,uV,(hr st2 ha).1,(hr st2 ha).2,hx,hi,if_pos hc,hix,aa]
  ·cases h
 ·cases h
theorem bI.new {v:AV}(h:st'=(st.cC o.dst).put o.dst v)(h2:∀st2,cV an X o st st2→bg E Γ an o st2 some=some ((st2.cC o.dst).put o.dst v)):bI E Γ an X o st st':=
 ⟨Aa o v,GN v,by rw [Bt];exact h,fun st2 ha=>by rw [Bt];exact h2 st2 ha⟩
theorem cV.fF (ha:cV an X o st st2):st2.fF o.dst=st.fF o.dst:=by
 funext j
 cases hd:o.dst with
 |none=>rfl
 |some d=>simp only [AS.fF,(ha.dst d hd).1]
theorem AO {lo hi:Option Operand}{n:Nat}{f:AS→Int→Int→Option AS}(hs:∀st2,cV an X o st st2→lo.map st2.rd=lo.map st.rd∧hi.map st2.rd=hi.map st.rd)
 (h:gX st lo hi n (f st)=some st'):∃a b,f st a b=some st'∧∀st2,cV an X o st st2→gX st2 lo hi n (f st2)=f st2 a b:=by
 unfold gX at h
 split at h
 ·rename_i h1 h2
  exact ⟨_,_,h,fun st2 ha=>by simp only [gX,(hs st2 ha).1,(hs st2 ha).2,h1,h2]⟩
 ·rename_i h1 h2
  exact ⟨_,_,h,fun st2 ha=>by simp only [gX,(hs st2 ha).1,(hs st2 ha).2,h1,h2]⟩
 ·rename_i h1 h2
  exact ⟨_,_,h,fun st2 ha=>by simp only [gX,(hs st2 ha).1,(hs st2 ha).2,h1,h2]⟩
 ·rename_i h1 h2
  exact ⟨_,_,h,fun st2 ha=>by simp only [gX,(hs st2 ha).1,(hs st2 ha).2,h1,h2]⟩
 ·cases h
theorem LF {T:TypeId}{x:Operand}{lo hi:Option Operand}(ho:o.op= .slice T x lo hi none)(hm:iD an o=true)(hfree:bK E an X o st=true)(h:tY E an o T x lo hi st some=some st'):bI E Γ an X o st st':=by
 have hr:∀st2,cV an X o st st2→st2.rd x=st.rd x:=fun st2 ha=>ha.rd (fun t ht=>by simp [bE,ho,ht])
 have hb:∀st2,cV an X o st st2→lo.map st2.rd=lo.map st.rd∧hi.map st2.rd=hi.map st.rd:=by
  intro st2 ha
  constructor
  ·cases lo with
   |none=>rfl
   |some y=>simp only [Option.map_some];rw [ha.rd (fun t ht=>by simp [bE,ho,tmO,ht])]
  ·cases hi with
   |none=>rfl
   |some y=>simp only [Option.map_some];rw [ha.rd (fun t ht=>by simp [bE,ho,tmO,ht])]
 have hnow:(st.rd x).now st.ep=true:=by simpa [bK,ho] using hfree
 have hf2:∀st2,cV an X o st st2→(st.rd x).fresh st2=st.rd x:=fun st2 ha=>sU (by rw [ha.ep];exact hnow)
 have htk:Bq an o=false:=by simpa [iD,ho] using hm
 unfold tY at h
 rw [if_neg (by simp [htk]),sU hnow] at h
 split at h
 ·rename_i s hx
  split at h
  ·rename_i hT
   obtain ⟨a,b,h1,h2⟩:=AO (f:=fun s0 a b=>aa (sub s a b) fun s'=>some (s0.put o.dst (.one (.str s')))) hb h
   cases hsub:sub s a b with
   |none=>rw [hsub] at h1;cases h1
   |some s'=>
    rw [hsub] at h1
    cases h1
    refine bI.put rfl fun st2 ha=> ?_
    have hf3:=hf2 st2 ha
    rw [hx] at hf3
    simp only [bg,ho,tY,htk,Bool.false_eq_true,if_false,hr st2 ha,hx,hf3,if_pos hT]
    rw [h2 st2 ha,hsub];rfl
  ·cases h
 ·rename_i fl e xs hx
  split at h
  ·rename_i hT
   obtain ⟨a,b,h1,h2⟩:=AO (f:=fun s0 a b=>aa (sub xs a b) fun xs'=>some (s0.put o.dst (.one (.sl (Fo an o fl a) e xs')))) hb h
   cases hsub:sub xs a b with
   |none=>rw [hsub] at h1;cases h1
   |some s'=>
    rw [hsub] at h1
    cases h1
    refine bI.put rfl fun st2 ha=> ?_
    have hf3:=hf2 st2 ha
    rw [hx] at hf3
    simp only [bg,ho,tY,htk,Bool.false_eq_true,if_false,hr st2 ha,hx,hf3,ha.ep,if_pos hT]
    rw [h2 st2 ha,hsub];rfl
  ·cases h
 ·cases h
theorem zB {args:List Operand}(hl:∀t,t∈JV args→t∈bE o)(ha:cV an X o st st2):args.map st2.rd=args.map st.rd:=by
 apply List.map_congr_left
 intro x hx
 exact ha.rd (fun t ht=>hl t (by simp only [JV,List.mem_flatMap];exact ⟨x,hx,ht⟩))
theorem Q7 {ts:Array TypeId}{args:Array Operand}(ho:o.op= .call {callee:= .builtin .len,args,argTypes:=ts})(h:E7 E o ts.toList args.toList st some=some st'):bI E Γ an X o st st':=by
 have hr:∀st2,cV an X o st st2→args.toList.map st2.rd=args.toList.map st.rd:=fun st2 ha=>zB (fun t ht=>by simp only [bE,ho];exact ht) ha
 unfold E7 at h
 split at h
 ·rename_i t s hts hx
  split at h
  ·rename_i hT
   cases h
   refine bI.put rfl fun st2 ha=> ?_
   simp only [bg,ho,E7,hr st2 ha,hts,hx,if_pos hT]
  ·cases h
 ·rename_i t _ _ xs hts hx
  split at h
  ·rename_i hT
   cases h
   refine bI.put rfl fun st2 ha=> ?_
   simp only [bg,ho,E7,hr st2 ha,hts,hx,if_pos hT]
  ·cases h
 ·cases h
theorem Q9 {ts:Array TypeId}{args:Array Operand}(ho:o.op= .call {callee:= .builtin .min,args,argTypes:=ts})(h:Gy o args.toList st some=some st'):bI E Γ an X o st st':=by
 have hr:∀st2,cV an X o st st2→args.toList.map st2.rd=args.toList.map st.rd:=fun st2 ha=>zB (fun t ht=>by simp only [bE,ho];exact ht) ha
 unfold Gy at h
 split at h
 ·rename_i hx
  cases h
  refine bI.put rfl fun st2 ha=> ?_
  simp only [bg,ho,Gy,hr st2 ha,hx]
 ·cases h
theorem Q8 {ts:Array TypeId}{args:Array Operand}(ho:o.op= .call {callee:= .builtin .max,args,argTypes:=ts})(h:Gx o args.toList st some=some st'):bI E Γ an X o st st':=by
 have hr:∀st2,cV an X o st st2→args.toList.map st2.rd=args.toList.map st.rd:=fun st2 ha=>zB (fun t ht=>by simp only [bE,ho];exact ht) ha
 unfold Gx at h
 split at h
 ·rename_i hx
  cases h
  refine bI.put rfl fun st2 ha=> ?_
  simp only [bg,ho,Gx,hr st2 ha,hx]
 ·cases h
theorem NT (hΓ:∀f,(Γ f).io=false∧(Γ f).bx=false){f:Operand}{ts:Array TypeId}{args:Array Operand}(ho:o.op= .call {callee:= .value f,args,argTypes:=ts})(hfree:bK E an X o st=true)(h:xC Γ o f args.toList st some=some st'):bI E Γ an X o st st':=by
 have hr:∀st2,cV an X o st st2→st2.rd f=st.rd f∧(args.toList.map fun x=>((st2.rd x).fresh st2).asArg st2.ep)=args.toList.map fun x=>((st.rd x).fresh st).asArg st.ep:=by
  intro st2 ha
  refine ⟨ha.rd (fun t ht=>by simp [bE,ho,ht]), ?_⟩
  apply List.map_congr_left
  intro x hx
  have hnow:(st.rd x).now st.ep=true:=by
   simp only [bK,ho,List.all_eq_true] at hfree
   exact hfree x hx
  rw [ha.rd (fun t ht=>by simp only [bE,ho,List.mem_append,JV,List.mem_flatMap];exact .inr ⟨x,hx,ht⟩),sU hnow,sU (s:=st2) (by rw [ha.ep];exact hnow),ha.ep]
 unfold xC at h
 split at h
 ·rename_i k hf
  rw [(hΓ k).2,(hΓ k).1] at h
  simp only [cond_false] at h
  cases hg:(Γ k).fn (args.toList.map fun x=>((st.rd x).fresh st).asArg st.ep) with
  |none=>rw [hg] at h;cases h
  |some y=>
   rw [hg] at h
   simp only [aa] at h
   cases hsel:(Γ k).sel y with
   |true=>
    rw [hsel] at h
    cases h
    refine bI.new rfl fun st2 ha=> ?_
    simp only [bg,ho,xC,(hr st2 ha).1,hf,(hΓ k).1,(hΓ k).2,cond_false]
    rw [(hr st2 ha).2,hg]
    simp only [aa,hsel,cond_true,ha.ep,ha.fF]
   |false=>
    rw [hsel] at h
    cases h
    refine bI.new rfl fun st2 ha=> ?_
    simp only [bg,ho,xC,(hr st2 ha).1,hf,(hΓ k).1,(hΓ k).2,cond_false]
    rw [(hr st2 ha).2,hg]
    simp only [aa,hsel,cond_false,ha.ep,ha.fF]
 ·cases h
theorem Gz {src dst:TypeId}{x:Operand}(ho:o.op= .convert src dst x)(h:gr E o src dst x st some=some st'):bI E Γ an X o st st':=by
 have hr:∀st2,cV an X o st st2→st2.rd x=st.rd x:=fun st2 ha=>ha.rd (fun t ht=>by simpa [bE,ho] using ht)
 unfold gr at h
 split at h
 ·rename_i h1 h2 h3
  cases h
  refine bI.put rfl fun st2 ha=> ?_
  simp only [bg,ho,gr,hr st2 ha,h1,h2,h3]
 ·rename_i h1 h2 h3
  cases h
  refine bI.put rfl fun st2 ha=> ?_
  simp only [bg,ho,gr,hr st2 ha,h1,h2,h3]
 ·rename_i offs val s hno h1 h2 h3
  split at h
  ·rename_i hb
   unfold room at h
   split at h
   ·rename_i hrm
    cases h
    refine bI.new (v:= .one (.sl (.own (st.fF o.dst 0)) (.int .u8) (bc s))) rfl fun st2 ha=> ?_
    have hval:∀k:AS→Option AS,gr E o src dst x st2 k=if E.bytes dst then room s.length (k (st2.km o.dst (.int .u8) (bc s))) else none:=by
     intro k
     unfold gr
     rw [hr st2 ha,h1,h2,h3]
     obtain ⟨ag,ct,of⟩:=val
     cases ag with
     |true=>rfl
     |false=>
      cases ct with
      |str=>exact (hno _ rfl).elim
      |_=>rfl
    simp only [bg,ho]
    rw [hval,if_pos hb,room,if_pos hrm,AS.km,ha.fF]
   ·cases h
  ·cases h
 ·rename_i val offs fl xs h1 h2 h3
  split at h
  ·rename_i hb
   cases h
   refine bI.put rfl fun st2 ha=> ?_
   have hval:∀k:AS→Option AS,gr E o src dst x st2 k=if E.bytes src∧fl.live st2.ep then k (st2.put o.dst (.one (.str (bytesOf xs)))) else none:=by
    intro k
    unfold gr
    rw [hr st2 ha,h1,h2,h3]
    obtain ⟨ag,ct,of⟩:=val
    cases ag with
    |true=>rfl
    |false=>cases ct<;>rfl
   simp only [bg,ho]
   rw [hval,ha.ep,if_pos hb]
  ·cases h
 ·cases h
theorem Cr {d:Nat}{cs:List AC}{v:AV}:(⟨[(d,v)],some (d,cs),none⟩:Cq).apply st=(st.cf d (some cs)).put (some d) v:=rfl
theorem LA {T:TypeId}(ho:o.op= .alloc T)(h:vL E o T st some=some st'):bI E Γ an X o st st':=by
 unfold vL at h
 split at h
 ·rename_i d sh hd hT
  split at h
  ·rename_i hb
   cases h
   refine ⟨⟨[(d,.one (.ptr d 0))],some (d,cellsOf sh.ct (.own none) sh.ct.zero),none⟩,⟨fun x hx=> ?_,fun b hb'=> ?_,fun _ hh=>by cases hh⟩, ?_,fun st2 ha=> ?_⟩
   ·simp only [List.mem_singleton] at hx;subst hx;simp [writes,hd]
   ·cases hb';simp [Ab,ho,hd]
   ·rw [Cr,hd]
   ·simp only [bg,ho,vL,hd,hT,(ha.dst d hd).2,hb,Cr]
  ·cases h
 ·cases h
def ja (st:AS):Operand→List (Nat×AV)
 | .tmp t=>[(t,(st.get t).ar st.ep)]
 |_=>[]
theorem uX (l:List AV)(a b:List (Nat×AV)):eC l (a++b)=eC (eC l a) b:=by
 induction a generalizing l with
 |nil=>rfl
 |cons x a ih=>exact ih _
def AS.dW (st:AS)(l:List (Nat×AV)):AS:={st with slots:=eC st.slots l}
theorem ajF:st.dW []=st:=rfl
theorem lu (a b:List (Nat×AV)):st.dW (a++b)=(st.dW a).dW b:=by simp only [AS.dW,uX]
theorem ajE (d:Nat)(v:AV):st.put (some d) v=st.dW [(d,v)]:=rfl
theorem vH (x:Operand):(st.take x).2=st.dW (ja st x):=by cases x<;>rfl
theorem w7 {x:Operand}(hep:st2.ep=st.ep)(h:∀t∈tm x,st2.get t=st.get t):(st2.take x).1=(st.take x).1∧(st2.take x).2=st2.dW (ja st x):=by
 cases x with
 |tmp t=>
  have:=h t (by simp [tm])
  refine ⟨this, ?_⟩
  rw [vH]
  simp only [ja,this,hep]
 |const v=>exact ⟨rfl,rfl⟩
 |func f=>exact ⟨rfl,rfl⟩
 |global g=>exact ⟨rfl,rfl⟩
theorem Br {x:Operand}:∀y∈ja st x,y.1∈tm x:=by
 cases x<;>simp [ja,tm]
theorem NV {x:Operand}(ho:o.op= .move x)(h:vt an o x st some=some st'):bI E Γ an X o st st':=by
 unfold vt at h
 cases hd:o.dst with
 |none=>rw [hd] at h;cases h
 |some d=>
  rw [hd] at h
  cases hf:an.mv.contains d with
  |false=>
   simp only [hf,Bool.false_eq_true,if_false] at h
   cases h
   refine bI.put (v:=st.rd x) (by rw [hd]) fun st2 ha=> ?_
   have hr:st2.rd x=st.rd x:=ha.rd (fun t ht=>by simpa [bE,ho] using ht)
   simp only [bg,ho,vt,hd,hf,Bool.false_eq_true,if_false,hr]
  |true=>
   simp only [hf,if_true] at h
   cases h
   have hr:∀st2,cV an X o st st2→(st2.take x).1=(st.take x).1∧(st2.take x).2=st2.dW (ja st x):=fun st2 ha=>w7 ha.ep fun t ht=>ha.get t (by simpa [bE,ho] using ht)
   refine ⟨⟨ja st x++[(d,(st.take x).1)],none,none⟩,⟨fun y hy=> ?_,fun _ hh=>(by cases hh),fun _ hh=>(by cases hh)⟩, ?_,fun st2 ha=> ?_⟩
   ·rcases List.mem_append.1 hy with hy|hy
    ·have:=Br y hy
     have hf':d∈an.mv:=by simpa using hf
     simp [writes,yj,ho,hd,hf',bE,this]
    ·simp only [List.mem_singleton] at hy;subst hy;simp [writes,hd]
   ·rw [vH]
    show _=st.dW _
    rw [lu];rfl
   ·simp only [bg,ho,vt,hd,hf,if_true,(hr st2 ha).1,(hr st2 ha).2]
    show some ((st2.dW (ja st x)).put (some d) (st.take x).1)=some (st2.dW _)
    rw [lu];rfl
theorem KW {ep:Nat}{cs:List AC}(h:cs.all AC.cH=true):ar ep cs=cs:=by
 rw [List.all_eq_true] at h
 unfold ar
 have:cs.map (AC.borrow ep none)=cs.map id:=List.map_congr_left fun c hc=>by
  have:=h c hc
  cases c<;>first|rfl|(simp [AC.cH] at this)
 rw [this,List.map_id]
theorem WZ {s:AS}{t:Nat}{vs:List (Bool×List AC)}(h:s.get t= .tup vs):s.put (some t) (.tup vs)=s:=by
 cases s with
 |mk slots boxes ep iss io=>
  simp only [AS.put,AS.mk.injEq,and_true]
  rw [cc]
  apply List.ext_getElem?
  intro i
  rw [List.getElem?_set]
  split
  ·rename_i hd
   subst hd
   simp only [AS.get,bC] at h
   split
   ·rename_i hlt
    rw [List.getElem?_eq_getElem hlt] at h⊢
    simp only [Option.getD_some] at h
    rw [h]
   ·rename_i hge
    rw [List.getElem?_eq_none (Nat.le_of_not_lt hge)]
  ·rfl
theorem GA {t i:Nat}(ho:o.op= .extract (.tmp t) i)(hfree:bK E an X o st=true)(h:gu o t i st some=some st'):bI E Γ an X o st st':=by
 have hr:∀st2,cV an X o st st2→st2.get t=st.get t:=fun st2 ha=>ha.get t (by simp [bE,ho])
 unfold gu at h
 simp only [bK,ho] at hfree
 split at h
 ·rename_i vs hv
  rw [hv] at hfree
  split at h
  ·rename_i g cs hn
   simp only [hn] at hfree
   have hfl:cs.all AC.cH=true∨∃d,o.dst=some d∧an.mv.contains d=true:=by
    cases hd:o.dst with
    |none=>simp only [hd,Bool.or_false] at hfree;exact .inl hfree
    |some d=>
     simp only [hd,Bool.or_eq_true] at hfree
     rcases hfree with h|h
     ·exact .inl h
     ·exact .inr ⟨d,rfl,h⟩
   rcases hfl with hfree|⟨d,hd,hmv⟩
   rotate_left
   ·cases h
    refine ⟨⟨[(t,.tup (dv vs i (g,ar 0 cs))),(d,.val g cs)],none,none⟩,⟨fun x hx=> ?_,(fun _ hb=>by cases hb),(fun _ hh=>by cases hh)⟩, ?_,fun st2 ha=> ?_⟩
    ·simp only [List.mem_cons,List.not_mem_nil,or_false] at hx
     rcases hx with rfl|rfl
     ·simp only [writes,yj,ho,hd,hmv,cond_true,bE];simp
     ·simp only [writes,hd];simp
    ·rw [hd];rfl
    ·have h2:st2.get t= .tup vs:=by rw [hr st2 ha,hv]
     simp only [bg,ho,gu,h2,hn,hd];rfl
   ·skip
    have hset:dv vs i (g,cs)=vs:=by
     rw [cc]
     rw [bC] at hn
     apply List.ext_getElem?
     intro k
     rw [List.getElem?_set]
     split
     ·rename_i hk;subst hk
      obtain ⟨hl,he⟩:=List.getElem?_eq_some_iff.1 hn
      rw [if_pos hl,hn]
     ·rfl
    have key:∀s:AS,s.get t= .tup vs→(s.put (some t) (.tup (dv vs i (g,ar 0 cs))))=s:=fun s hs=>by rw [KW hfree,hset,WZ hs]
    rw [key st hv] at h
    cases h
    refine bI.put rfl fun st2 ha=> ?_
    have h2:st2.get t= .tup vs:=by rw [hr st2 ha,hv]
    simp only [bg,ho,gu,h2,hn]
    rw [key st2 h2]
  ·cases h
 ·cases h
def sR (st:AS):Operand→List (Nat×AV)
 | .tmp t=>[(t,(st.get t).ar st.ep)]
 |_=>[]
theorem F1 (st:AS)(x:Operand):(st.take x).2=⟨eC st.slots (sR st x),st.boxes,st.ep,st.iss,st.io⟩:=by
 cases x<;>rfl
theorem LG {T:TypeId}{pp:Nat}{x:Operand}(ho:o.op= .store T (.tmp pp) x)(hd:o.dst=none)(hm:iD an o=true)(hfree:bK E an X o st=true)(h:qe E T (.tmp pp) x st some=some st'):bI E Γ an X o st st':=by
 have hr:∀st2,cV an X o st st2→st2.rd (.tmp pp)=st.rd (.tmp pp):=fun st2 ha=>ha.rd (fun t ht=>by simp only [bE,ho,List.mem_append];exact .inl ht)
 have hsb:(an.sb pp).isNone=false:=by
  simp only [iD,ho,Bool.and_eq_true] at hm
  cases hb:an.sb pp with
  |none=>rw [hb] at hm;cases hm.1
  |some _=>rfl
 simp only [bK,ho,hsb,Bool.false_and,Bool.false_or] at hfree
 unfold qe at h
 split at h
 ·rename_i sh s off hT hp
  rw [hp] at hfree
  simp only [Bool.and_eq_true,Bool.not_eq_true',beq_iff_eq] at hfree
  split at h
  ·rename_i gg vs st1 htk
   have htk1:(st.take x).1= .val gg vs:=by rw [htk]
   have hst1:st1=⟨eC st.slots (sR st x),st.boxes,st.ep,st.iss,st.io⟩:=by rw [←F1,htk]
   split at h
   ·rename_i cs hb
    split at h
    ·rename_i hlen
     split at h
     ·rename_i hfit
      cases h
      have hbx:∀st2,cV an X o st st2→nth st2.boxes s=nth st.boxes s:=fun st2 ha=>ha.box s hfree.1
      refine ⟨⟨sR st x,some (s,a8 cs off vs),none⟩,⟨fun y hy=> ?_,fun b hb'=> ?_,fun _ hh=>by cases hh⟩, ?_,fun st2 ha=> ?_⟩
      ·cases x with
       |tmp t=>
        simp only [sR,List.mem_singleton] at hy
        subst hy
        simp only [writes,yj,ho,cond_true,bE,hd]
        simp [tm]
       |_=>simp [sR] at hy
      ·cases hb';simp only [Ab,ho,hfree.2];simp
      ·rw [hst1];rfl
      ·have hx2:(st2.take x).1=(st.take x).1∧sR st2 x=sR st x:=by
        cases x with
        |tmp t=>
         have hg:st2.get t=st.get t:=ha.get t (by simp [bE,ho,tm])
         simp only [AS.take,sR,hg,ha.ep];simp
        |const v=>exact ⟨rfl,rfl⟩
        |func f=>exact ⟨rfl,rfl⟩
        |global g=>exact ⟨rfl,rfl⟩
       have ht2:st2.take x=(.val gg vs,⟨eC st2.slots (sR st x),st2.boxes,st2.ep,st2.iss,st2.io⟩):=by
        rw [←hx2.2,←F1,←htk1,←hx2.1]
       have hb2:(nth st2.boxes s).getD none=some cs:=by
        rw [hbx st2 ha]
        rw [hst1] at hb
        exact hb
       have hlate:tu an o=false:=by
        simp only [iD,ho,Bool.and_eq_true,Bool.not_eq_true'] at hm
        exact hm.2
       simp only [bg,ho,hd,hlate,Bool.false_eq_true,if_false,qe,hT,hr st2 ha,hp,ht2,hb2,if_pos hlen,if_pos hfit]
       rfl
     ·cases h
    ·cases h
   ·cases h
  ·cases h
 ·rename_i r _ _ _ _ _ _ hp
  rw [hp] at hfree
  cases r<;>simp at hfree
 ·cases h
theorem Jg {x:Operand}(ho:o.op= .assign x)(hm:iD an o=true)(h:og E an o x st some=some st'):bI E Γ an X o st st':=by
 have hr:∀st2,cV an X o st st2→(st2.take x).1=(st.take x).1∧(st2.take x).2=st2.dW (ja st x):=fun st2 ha=>w7 ha.ep fun t ht=>ha.get t (by simpa [bE,ho] using ht)
 have hlate:tu an o=false:=by simpa [iD,ho] using hm
 unfold og at h
 split at h
 ·rename_i st1 htk
  split at h
  ·rename_i e hT
   cases h
   refine bI.put rfl fun st2 ha=> ?_
   have h2:st2.take x=(.val false [.nilsl],st2.dW (ja st x)):=Prod.ext (by rw [(hr st2 ha).1,htk]) (hr st2 ha).2
   simp only [bg,ho,og,hlate,Bool.false_eq_true,if_false,h2,hT]
  ·cases h
 ·rename_i v st1 hno htk
  cases h
  have hst1:st1=st.dW (ja st x):=by rw [←vH,htk]
  refine ⟨⟨ja st x++o.dst.toList.map fun d=>(d,v),none,none⟩,⟨fun y hy=> ?_,fun _ hh=>(by cases hh),fun _ hh=>(by cases hh)⟩, ?_,fun st2 ha=> ?_⟩
  ·rcases List.mem_append.1 hy with hy|hy
   ·have:=Br y hy
    simp [writes,yj,ho,bE,this]
   ·obtain ⟨d,hd,rfl⟩:=List.mem_map.1 hy
    simp [writes,hd]
  ·rw [hst1]
   show _=st.dW _
   rw [lu]
   cases o.dst<;>rfl
  ·have h2:st2.take x=(v,st2.dW (ja st x)):=Prod.ext (by rw [(hr st2 ha).1,htk]) (hr st2 ha).2
   simp only [bg,ho,og,hlate,Bool.false_eq_true,if_false,h2]
   show some ((st2.dW (ja st x)).put o.dst v)=some (st2.dW _)
   rw [lu]
   cases o.dst<;>rfl
theorem dS {α:Type}(l:List α)(i:Nat)(v:α)(t:Nat):nth (dv l i v) t=if i=t then (if i<l.length then some v else none) else nth l t:=by
 rw [bC,cc,bC,List.getElem?_set]
theorem Fu (l:List AV)(a:List (Nat×AV)):(eC l a).length=l.length:=by
 induction a generalizing l with
 |nil=>rfl
 |cons x a ih=>rw [eC,ih,cc,List.length_set]
theorem N8 {l l2:List AV}(a:List (Nat×AV))(hl:l2.length=l.length)(t:Nat)(h:nth l2 t=nth l t):nth (eC l2 a) t=nth (eC l a) t:=by
 induction a generalizing l l2 with
 |nil=>exact h
 |cons x a ih=>
  refine ih (by rw [cc,cc,List.length_set,List.length_set,hl]) ?_
  rw [dS,dS,hl,h]
theorem N1 {t:Nat}(h:st2.get t=st.get t)(hl:st2.slots.length=st.slots.length):nth st2.slots t=nth st.slots t:=by
 unfold AS.get at h
 rw [bC,bC] at h⊢
 rcases Nat.lt_or_ge t st.slots.length with hlt|hge
 ·rw [List.getElem?_eq_getElem hlt,List.getElem?_eq_getElem (by omega)] at h⊢
  simpa using h
 ·rw [List.getElem?_eq_none hge,List.getElem?_eq_none (by omega)]
def ew (st:AS):List Operand→List (Nat×AV)
 |[]=>[]
 |x::xs=>ja st x++ew (st.dW (ja st x)) xs
theorem uf:∀(xs:List Operand)(st:AS),∀y∈ew st xs,y.1∈JV xs
 |[],_,y,hy=>by cases hy
 |x::xs,st,y,hy=>by
  simp only [JV,List.flatMap_cons,List.mem_append]
  rcases List.mem_append.1 hy with hy|hy
  ·exact .inl (Br y hy)
  ·exact .inr (uf xs _ y hy)
theorem u3:∀(xs:List Operand)(st st2:AS),st2.ep=st.ep→st2.slots.length=st.slots.length→(∀t∈JV xs,nth st2.slots t=nth st.slots t)→
 (bS st2 xs).1=(bS st xs).1∧(bS st2 xs).2=st2.dW (ew st xs)
 |[],st,st2,_,_,_=>⟨rfl,rfl⟩
 |x::xs,st,st2,hep,hl,hg=>by
  have hx:∀t∈tm x,st2.get t=st.get t:=fun t ht=>by unfold AS.get;rw [hg t (by simp [JV,ht])]
  obtain ⟨h1,h2⟩:=w7 (st:=st) (st2:=st2) hep hx
  have h3:=vH (st:=st) x
  obtain ⟨k1,k2⟩:=u3 xs (st.dW (ja st x)) (st2.dW (ja st x)) hep (by simp only [AS.dW,Fu,hl])
   (fun t ht=>N8 _ hl t (hg t (by simp only [JV,List.flatMap_cons,List.mem_append];exact .inr ht)))
  have e1:bS st (x::xs)=((st.take x).1::(bS (st.take x).2 xs).1,(bS (st.take x).2 xs).2):=rfl
  have e2:bS st2 (x::xs)=((st2.take x).1::(bS (st2.take x).2 xs).1,(bS (st2.take x).2 xs).2):=rfl
  rw [e1,e2,h1,h2,h3]
  refine ⟨by rw [k1], ?_⟩
  show (bS (st2.dW (ja st x)) xs).2=_
  rw [k2,ew,lu]
theorem w6 (xs:List Operand):(bS st xs).2=st.dW (ew st xs):=(u3 xs st st rfl rfl (fun _ _=>rfl)).2
theorem cV.bS (ha:cV an X o st st2){xs:List Operand}(hx:∀t∈JV xs,t∈bE o):(bS st2 xs).1=(Dn.bS st xs).1∧(Dn.bS st2 xs).2=st2.dW (ew st xs):=
 u3 xs st st2 ha.ep ha.len fun t ht=>N1 (ha.get t (hx t ht)) ha.len
theorem LB {T:TypeId}{parts:Array (Nat×Operand)}(ho:o.op= .build T parts)(h:uS E o T parts.toList st some=some st'):bI E Γ an X o st st':=by
 have hl:∀t∈JV (parts.toList.map (·.2)),t∈bE o:=fun t ht=>by simp only [bE,ho];exact ht
 unfold uS at h
 split at h
 ·rename_i ct offs hT
  split at h
  rename_i vs st1 htk
  have hst1:st1=st.dW (ew st (parts.toList.map (·.2))):=by rw [←w6,htk]
  split at h
  ·rename_i cs hb
   cases h
   refine ⟨⟨ew st (parts.toList.map (·.2))++o.dst.toList.map fun d=>(d,.val true cs),none,none⟩,⟨fun y hy=> ?_,fun _ hh=>(by cases hh),fun _ hh=>(by cases hh)⟩, ?_,fun st2 ha=> ?_⟩
   ·rcases List.mem_append.1 hy with hy|hy
    ·have:=hl _ (uf _ _ y hy)
     simp [writes,yj,ho,this]
    ·obtain ⟨d,hd,rfl⟩:=List.mem_map.1 hy
     simp [writes,hd]
   ·rw [hst1]
    show _=st.dW _
    rw [lu]
    cases o.dst<;>rfl
   ·obtain ⟨k1,k2⟩:=ha.bS hl
    have h2:bS st2 (parts.toList.map (·.2))=(vs,st2.dW (ew st (parts.toList.map (·.2)))):=Prod.ext (by rw [k1,htk]) k2
    simp only [bg,ho,uS,hT,h2,hb]
    show some ((st2.dW _).put o.dst _)=some (st2.dW _)
    rw [lu]
    cases o.dst<;>rfl
  ·cases h
 ·cases h
theorem bI.acy {tl:List (Nat×AV)}{v:AV}(ht:yj an o=true)(hl:∀y∈tl,y.1∈bE o)(h:st'=((st.dW tl).cC o.dst).put o.dst v)
 (h2:∀st2,cV an X o st st2→bg E Γ an o st2 some=some (((st2.dW tl).cC o.dst).put o.dst v)):bI E Γ an X o st st':=by
 have key:∀s:AS,(⟨tl++o.dst.toList.map fun d=>(d,v),none,o.dst⟩:Cq).apply s=((s.dW tl).cC o.dst).put o.dst v:=by
  intro s
  cases o.dst with
  |none=>simp only [Cq.apply,Option.toList,List.map_nil,List.append_nil,AS.dW,AS.cC,AS.put]
  |some d=>simp only [Cq.apply,Option.toList,List.map_cons,List.map_nil,uX,AS.dW,AS.cC,AS.put,eC]
 refine ⟨⟨tl++o.dst.toList.map fun d=>(d,v),none,o.dst⟩,⟨fun y hy=> ?_,fun _ hh=>(by cases hh),fun d hh=>hh⟩,by rw [key];exact h,fun st2 ha=>by rw [key];exact h2 st2 ha⟩
 rcases List.mem_append.1 hy with hy|hy
 ·simp [writes,ht,hl y hy]
 ·obtain ⟨d,hd,rfl⟩:=List.mem_map.1 hy
  simp [writes,hd]
theorem s4 {tl:List (Nat×AV)}{d:Option Nat}:(st.dW tl).fF d=st.fF d:=rfl
theorem B0 {T:TypeId}{len:Nat}{parts:Array (Nat×Operand)}(ho:o.op= .buildSlice T len parts)(h:gi E o T len parts.toList st some=some st'):bI E Γ an X o st st':=by
 have hl:∀t∈JV (parts.toList.map (·.2)),t∈bE o:=fun t ht=>by simp only [bE,ho];exact ht
 unfold gi at h
 split at h
 ·rename_i e hT
  split at h
  ·rename_i hc
   split at h
   rename_i vs st1 htk
   have hst1:st1=st.dW (ew st (parts.toList.map (·.2))):=by rw [←w6,htk]
   split at h
   ·rename_i xs hb
    cases h
    refine bI.acy (tl:=ew st (parts.toList.map (·.2))) (v:= .one (.sl (.own (st.fF o.dst 0)) e xs)) (by simp [yj,ho]) (fun y hy=>hl _ (uf _ _ y hy)) ?_ fun st2 ha=> ?_
    ·rw [hst1,AS.km,s4]
    ·obtain ⟨k1,k2⟩:=ha.bS hl
     have h2:bS st2 (parts.toList.map (·.2))=(vs,st2.dW (ew st (parts.toList.map (·.2)))):=Prod.ext (by rw [k1,htk]) k2
     simp only [bg,ho,gi,hT,h2,hb,if_pos hc]
     rw [AS.km,s4,ha.fF]
   ·cases h
  ·cases h
 ·cases h
theorem C3 {T:TypeId}{n c:Operand}(ho:o.op= .makeSlice T n c)(h:jq E o T n c st some=some st'):bI E Γ an X o st st':=by
 have hr:∀st2,cV an X o st st2→st2.rd n=st.rd n∧st2.rd c=st.rd c:=fun st2 ha=>
  ⟨ha.rd (fun t ht=>by simp [bE,ho,ht]),ha.rd (fun t ht=>by simp [bE,ho,ht])⟩
 unfold jq at h
 split at h
 ·rename_i e len cap hT hn hc
  split at h
  ·rename_i hlc
   unfold room at h
   split at h
   ·rename_i hrm
    cases h
    refine bI.new (v:= .one (.sl (.own (st.fF o.dst 0)) e (List.replicate len.toNat e.zero))) rfl fun st2 ha=> ?_
    simp only [bg,ho,jq,(hr st2 ha).1,(hr st2 ha).2,hT,hn,hc,if_pos hlc,room,if_pos hrm,AS.km,ha.fF]
   ·cases h
  ·cases h
 ·cases h
theorem Jf {ts:Array TypeId}{args:Array Operand}(ho:o.op= .call {callee:= .builtin .append,args,argTypes:=ts})(h:qh E o ts.toList args.toList st some=some st'):bI E Γ an X o st st':=by
 have hlk:∀t∈JV args.toList,t∈bE o:=fun t ht=>by simp only [bE,ho];exact ht
 unfold qh at h
 split at h
 ·rename_i t t' s x hts hargs
  have hl:∀u∈JV [s,x],u∈bE o:=by rw [←hargs];exact hlk
  have hboth:∀st2,cV an X o st st2→(st2.take s).1=(st.take s).1∧((st2.take s).2.take x).1=((st.take s).2.take x).1∧((st2.take s).2.take x).2=st2.dW (ew st [s,x]):=by
   intro st2 ha
   obtain ⟨k1,k2⟩:=ha.bS hl
   simp only [Dn.bS,List.cons.injEq,and_true] at k1 k2
   exact ⟨k1.1,k1.2,k2⟩
  have hself:((st.take s).2.take x).2=st.dW (ew st [s,x]):=w6 (st:=st) [s,x]
  split at h
  ·rename_i tag e xs st1 htk1
   split at h
   ·rename_i fl e' ys st1' htk2
    split at h
    ·rename_i he
     subst he
     split at h
     ·rename_i hc
      unfold room at h
      split at h
      ·rename_i hrm
       cases h
       have hst1:(st.take s).2=st1:=by rw [htk1]
       have hst2:st1'=st.dW (ew st [s,x]):=by rw [←hself,hst1,htk2]
       refine bI.acy (tl:=ew st [s,x]) (v:= .one (.sl (.own (st.fF o.dst 0)) e' (xs++ys))) (by simp [yj,ho]) (fun y hy=>hl _ (uf _ _ y hy)) ?_ fun st2 ha=> ?_
       ·rw [hst2,AS.km,s4]
       ·obtain ⟨k1,k2,k3⟩:=hboth st2 ha
        have e1:st2.take s=(.val false [.sl (.own tag) e' xs],(st2.take s).2):=Prod.ext (by rw [k1,htk1]) rfl
        have e2:(st2.take s).2.take x=(.val false [.sl fl e' ys],st2.dW (ew st [s,x])):=Prod.ext (by rw [k2,hst1,htk2]) k3
        simp only [bg,ho,qh,hts,hargs]
        rw [e1]
        simp only
        rw [e2]
        simp only [dite_true,ha.ep,if_pos hc,room,if_pos hrm,AS.km,s4,ha.fF]
      ·cases h
     ·cases h
    ·cases h
   ·rename_i sx st1' htk2
    split at h
    ·rename_i he
     subst he
     split at h
     ·rename_i hc
      unfold room at h
      split at h
      ·rename_i hrm
       cases h
       have hst1:(st.take s).2=st1:=by rw [htk1]
       have hst2:st1'=st.dW (ew st [s,x]):=by rw [←hself,hst1,htk2]
       refine bI.acy (tl:=ew st [s,x]) (v:= .one (.sl (.own (st.fF o.dst 0)) (.int .u8) (xs++bc sx))) (by simp [yj,ho]) (fun y hy=>hl _ (uf _ _ y hy)) ?_ fun st2 ha=> ?_
       ·rw [hst2,AS.km,s4]
       ·obtain ⟨k1,k2,k3⟩:=hboth st2 ha
        have e1:st2.take s=(.val false [.sl (.own tag) (.int .u8) xs],(st2.take s).2):=Prod.ext (by rw [k1,htk1]) rfl
        have e2:(st2.take s).2.take x=(.val false [.str sx],st2.dW (ew st [s,x])):=Prod.ext (by rw [k2,hst1,htk2]) k3
        simp only [bg,ho,qh,hts,hargs]
        rw [e1]
        simp only
        rw [e2]
        simp only [dite_true,if_pos hc,room,if_pos hrm,AS.km,s4,ha.fF]
      ·cases h
     ·cases h
    ·cases h
   ·cases h
  ·cases h
 ·cases h
theorem Q6 {T:TypeId}{x:Operand}(ho:o.op= .box T x)(h:HQ o x st some=some st'):bI E Γ an X o st st':=by
 have hr:∀st2,cV an X o st st2→(st2.take x).1=(st.take x).1∧(st2.take x).2=st2.dW (ja st x):=fun st2 ha=>w7 ha.ep fun t ht=>ha.get t (by simpa [bE,ho] using ht)
 unfold HQ at h
 split at h
 ·rename_i d g cs st1 hd htk
  have hst1:st1=st.dW (ja st x):=by rw [←vH,htk]
  split at h
  ·rename_i hb
   split at h
   ·rename_i hs
    cases h
    have hb0:nth st.boxes d=some none:=by rw [hst1] at hb;exact hb
    have key:∀s:AS,(⟨ja st x++[(d,.one (.ptr d 0))],some (d,cs),none⟩:Cq).apply s=((s.dW (ja st x)).cf d (some cs)).put (some d) (.one (.ptr d 0)):=by
     intro s
     simp only [Cq.apply,uX,AS.dW,AS.cf,AS.put,eC]
    refine ⟨⟨ja st x++[(d,.one (.ptr d 0))],some (d,cs),none⟩,⟨fun y hy=> ?_,fun b hb'=> ?_,fun _ hh=>(by cases hh)⟩, ?_,fun st2 ha=> ?_⟩
    ·rcases List.mem_append.1 hy with hy|hy
     ·have:=Br y hy
      simp [writes,yj,ho,bE,this]
     ·simp only [List.mem_singleton] at hy;subst hy;simp [writes,hd]
    ·cases hb';simp [Ab,ho,hd]
    ·rw [key,hst1,hd]
    ·have h2:st2.take x=(.val g cs,st2.dW (ja st x)):=Prod.ext (by rw [(hr st2 ha).1,htk]) (hr st2 ha).2
     have hb2:nth (st2.dW (ja st x)).boxes d=some none:=by show nth st2.boxes d=_;rw [(ha.dst d hd).2];exact hb0
     simp only [bg,ho,HQ,hd,h2,hb2,if_pos hs,key]
   ·cases h
  ·cases h
 ·cases h
theorem FV (hΓ:∀f,(Γ f).io=false∧(Γ f).bx=false)(hm:iD an o=true)(hfree:bK E an X o st=true)(h:bg E Γ an o st some=some st'):bI E Γ an X o st st':=by
 have h0:=h
 unfold bg at h
 split at h
 ·rename_i ho;exact NV ho h
 ·rename_i ho
  have hlate:tu an o=false:=by simpa [iD,ho] using hm
  rw [if_neg (by simp [hlate])] at h
  exact Jg ho hm h
 ·rename_i ho;exact NW ho h
 ·rename_i ho;exact LA ho h
 ·rename_i ho;exact Q6 ho h
 ·rename_i ho;exact NU ho hm hfree h
 ·rename_i T p x ho
  split at h
  ·rename_i hd
   cases p with
   |tmp pp=>
    have hlate:tu an o=false:=by
     simp only [iD,ho,Bool.and_eq_true,Bool.not_eq_true'] at hm
     exact hm.2
    rw [if_neg (by simp [hlate])] at h
    exact LG ho hd hm hfree h
   |const v=>simp [iD,ho] at hm
   |func f=>simp [iD,ho] at hm
   |global g=>simp [iD,ho] at hm
  ·cases h
 ·rename_i ho;exact Fe ho h0
 ·rename_i ho;exact Q5 ho h
 ·rename_i ho;exact Tv ho h
 ·rename_i ho;exact LC ho h
 ·rename_i ho;exact C2 ho hfree h
 ·rename_i ho;exact LD ho h
 ·rename_i ho;exact LB ho h
 ·rename_i ho;exact B0 ho h
 ·rename_i ho;exact C3 ho h
 ·rename_i ho;exact LF ho hm hfree h
 ·rename_i ho;simp [iD,ho] at hm
 ·rename_i ho;simp [iD,ho] at hm
 ·rename_i ho;exact Gz ho h
 ·rename_i ho;exact GA ho hfree h
 ·rename_i ho;exact Q7 ho h
 ·rename_i ho;exact Q9 ho h
 ·rename_i ho;exact Q8 ho h
 ·rename_i ho;exact Jf ho h
 ·rename_i ho;exact NT hΓ ho hfree h
 ·cases h
end Go.Dn
