import Derived.Test.YtmpbhbfdoopggabGreatDnMask
/- What an operation looks at and what it turns: for regions whose order is drawn. -/
namespace Go.Dn
structure xb where
 slots:List (Nat×AV):=[]
 box:Option (Nat×List AC):=none
 iss:Option Nat:=none
def dj (l:List AV):List (Nat×AV)→List AV
 |[]=>l
 |x::r=>dj (cH l x.1 x.2) r
def xb.apply (u:xb)(st:AS):AS:=
 ⟨dj st.slots u.slots,(match u.box with|some b=>cH st.boxes b.1 (some b.2)|none=>st.boxes),st.ep,(match u.iss with|some d=>cH st.iss d true|none=>st.iss),st.io⟩
structure cr (an:An) (X:List Nat) (o:Oper) (st st2:AS):Prop where
 len:st2.slots.length=st.slots.length
 get:∀t∈bd o,st2.get t=st.get t
 ep:st2.ep=st.ep
 dst:∀d,o.dst=some d→nth st2.iss d=nth st.iss d∧nth st2.boxes d=nth st.boxes d
 box:∀s,X.contains s=false→nth st2.boxes s=nth st.boxes s
 er:∀t∈erS an o,st2.get t=st.get t
structure xb.uJ (an:An) (u:xb) (o:Oper):Prop where
 slots:∀x∈u.slots,x.1∈writes an o
 box:∀b,u.box=some b→b.1∈vc an o
 iss:∀d,u.iss=some d→o.dst=some d
variable {E:Env} {Γ:aM} {an:An} {X:List Nat} {o:Oper} {st st2 st':AS}
theorem Nn {x:Operand}(hep:st2.ep=st.ep)(h:∀t∈tm x,st2.get t=st.get t):st2.rd x=st.rd x:=by
 cases x with
 |tmp t=>simp only [AS.rd,hep,h t (by simp [tm])]
 |const v=>rfl
 |func f=>rfl
 |global g=>rfl
def bg (E:Env)(Γ:aM)(an:An)(X:List Nat)(o:Oper)(st st':AS):Prop:=
 ∃u:xb,u.uJ an o∧st'=u.apply st∧∀st2,cr an X o st st2→aN E Γ an o st2 some=some (u.apply st2)
def su (o:Oper)(v:AV):xb:={slots:=o.dst.toList.map fun d=>(d,v)}
theorem jw (v:AV):(su o v).apply st=st.put o.dst v:=by
 unfold su xb.apply AS.put
 cases o.dst<;>rfl
theorem qI (v:AV):(su o v).uJ an o:=by
 refine ⟨fun x hx=> ?_,fun b hb=>by simp [su] at hb,fun d hd=>by simp [su] at hd⟩
 simp only [su,List.mem_map] at hx
 obtain ⟨d,hd,rfl⟩:=hx
 simp [writes,hd]
def u9 (o:Oper)(v:AV):xb:={slots:=o.dst.toList.map fun d=>(d,v),iss:=o.dst}
theorem wx (v:AV):(u9 o v).apply st=(st.bX o.dst).put o.dst v:=by
 unfold u9 xb.apply AS.put AS.bX
 cases o.dst<;>rfl
theorem Bw (v:AV):(u9 o v).uJ an o:=by
 refine ⟨fun x hx=> ?_,fun b hb=>by simp [u9] at hb,fun d hd=>by simpa [u9] using hd⟩
 simp only [u9,List.mem_map] at hx
 obtain ⟨d,hd,rfl⟩:=hx
 simp [writes,hd]
theorem bg.put {v:AV}(h:st'=st.put o.dst v)(h2:∀st2,cr an X o st st2→aN E Γ an o st2 some=some (st2.put o.dst v)):bg E Γ an X o st st':=
 ⟨su o v,qI v,by rw [jw];exact h,fun st2 ha=>by rw [jw];exact h2 st2 ha⟩
theorem cr.rd (ha:cr an X o st st2){x:Operand}(hx:∀t∈tm x,t∈bd o):st2.rd x=st.rd x:=Nn ha.ep fun t ht=>ha.get t (hx t ht)
theorem HX {c x y:Operand}(ho:o.op= .pick c x y)(h:tk o c x y st some=some st'):bg E Γ an X o st st':=by
 have hr:∀st2,cr an X o st st2→st2.rd c=st.rd c∧st2.rd x=st.rd x∧st2.rd y=st.rd y:=fun st2 ha=>
  ⟨ha.rd (fun t ht=>by simp [bd,ho,ht]),ha.rd (fun t ht=>by simp [bd,ho,ht]),ha.rd (fun t ht=>by simp [bd,ho,ht])⟩
 unfold tk at h
 split at h
 ·rename_i t hc
  split at h
  ·rename_i a b hx hy
   cases h
   refine bg.put rfl fun st2 ha=> ?_
   obtain ⟨h1,h2,h3⟩:=hr st2 ha
   simp only [aN,ho,tk,h1,h2,h3,hc,hx,hy]
  ·rename_i va vb hno
   have hgo:∀st2,cr an X o st st2→aN E Γ an o st2 some=cond t (some (st2.put o.dst (st.rd x))) (some (st2.put o.dst (st.rd y))):=by
    intro st2 ha
    obtain ⟨h1,h2,h3⟩:=hr st2 ha
    simp only [aN,ho,tk,h1,h2,h3,hc]
   cases t with
   |true=>cases h;exact bg.put rfl fun st2 ha=>hgo st2 ha
   |false=>cases h;exact bg.put rfl fun st2 ha=>hgo st2 ha
 ·cases h
theorem zR {d s:Nat}{cs:List AC}{v:AV}:(⟨[(d,v)],some (s,cs),none⟩:xb).apply st=(st.bI s (some cs)).put (some d) v:=rfl
theorem HV {T:TypeId}{p:Operand}(ho:o.op= .load T p)(hm:fH an o=true)(hfree:bk E an X o st=true)(h:l5 E an o T p st some=some st'):bg E Γ an X o st st':=by
 have hr:∀st2,cr an X o st st2→st2.rd p=st.rd p:=fun st2 ha=>ha.rd (fun t ht=>by simpa [bd,ho] using ht)
 have htk:wu an o=false:=by
  simp only [fH,ho] at hm
  unfold wu
  cases hdd:o.dst with
  |none=>rfl
  |some d=>
   rw [hdd] at hm
   simp only [Bool.or_eq_true,Bool.not_eq_true'] at hm
   rcases hm with hm|hm
   ·simp only [hm,Bool.false_and]
   ·cases hmb:an.mb d with
    |none=>rw [hmb] at hm;cases hm
    |some _=>simp [hmb]
 unfold l5 at h
 split at h
 ·rename_i sh s off hT hp
  simp only [bk,ho,hp,Bool.and_eq_true,Bool.not_eq_true'] at hfree
  split at h
  ·rename_i cs hb
   split at h
   ·rename_i hfit
    split at h
    ·rename_i d hd
     have hbx:∀st2,cr an X o st st2→nth st2.boxes s=nth st.boxes s:=fun st2 ha=>ha.box s hfree.1.1
     cases hf:an.mv.contains d with
     |false=>
      simp only [hf,Bool.false_eq_true,if_false] at h
      cases h
      refine bg.put (by rw [hd]) fun st2 ha=> ?_
      simp only [aN,ho,l5,hT,hr st2 ha,hp,hbx st2 ha,hb,if_pos hfit,hd,hf,Bool.false_eq_true,if_false,ha.ep]
     |true=>
      simp only [hf,if_true] at h
      have hmb:an.mb d=some s:=by
       have:=hfree.1.2
       rw [hd] at this
       simp only [hf,Bool.not_true,Bool.false_or,beq_iff_eq] at this
       exact this
      cases h
      refine ⟨⟨[(d,.val sh.agg ((cs.drop off).take sh.ct.size))],some (s,aI cs off (ai st.ep ((cs.drop off).take sh.ct.size))),none⟩,⟨fun x hx=> ?_,fun b hb'=> ?_,fun _ hh=>by cases hh⟩, ?_,fun st2 ha=> ?_⟩
      ·simp only [List.mem_singleton] at hx;subst hx;simp [writes,hd]
      ·cases hb';simp only [vc,ho,hd,hf,cond_true,hmb];simp
      ·rw [zR,hd]
      ·simp only [aN,ho,l5,hT,hr st2 ha,hp,hbx st2 ha,hb,if_pos hfit,hd,hf,if_true,ha.ep,zR]
    ·cases h
   ·cases h
  ·cases h
 ·rename_i sh fl e x i off hT hp
  rw [if_neg (by simp [htk])] at h
  split at h
  ·rename_i hl
   split at h
   ·rename_i hfit
    cases h
    refine bg.put rfl fun st2 ha=> ?_
    simp only [aN,ho,l5,hT,hr st2 ha,hp,ha.ep,htk,Bool.false_eq_true,if_false,if_pos hl,if_pos hfit]
   ·cases h
  ·rename_i hl
   have hroot:∀r t ep0,fl= .loc ep0 (some (r,t))→∀st2,cr an X o st st2→st2.bP r=st.bP r:=by
    rintro r t ep0 rfl st2 ha
    simp only [bk,ho,hp,Bool.and_eq_true,Bool.or_eq_true] at hfree
    rcases hfree.1 with hq|hq
    ·exact absurd hq hl
    ·cases r with
     |slot b j=>simp only [AS.bP];rw [ha.er b (by simpa using hq)]
     |box b j=>simp only [AS.bP];rw [ha.box b (by simpa using hq)]
     |io j=>cases hq
   unfold sm at h
   split at h
   ·rename_i ep0 r t
    split at h
    ·rename_i t' e' ys hrg
     split at h
     ·rename_i he
      split at h
      ·rename_i hc
       cases hi:idx (he▸ys:List _) i with
       |none=>rw [hi] at h;cases h
       |some y=>
        rw [hi] at h
        simp only [aa] at h
        cases h
        refine bg.put rfl fun st2 ha=> ?_
        simp only [aN,ho,l5,hT,hr st2 ha,hp,ha.ep,htk,Bool.false_eq_true,if_false,if_neg hl,sm,hroot _ _ _ rfl st2 ha,hrg,dif_pos he,if_pos hc,hi,aa]
      ·cases h
     ·cases h
    ·cases h
   ·cases h
 ·cases h
theorem zW {x:Operand}(ho:o.op= .nilCheck x)(h:aN E Γ an o st some=some st'):bg E Γ an X o st st':=by
 have hr:∀st2,cr an X o st st2→st2.rd x=st.rd x:=fun st2 ha=>ha.rd (fun t ht=>by simpa [bd,ho] using ht)
 simp only [aN,ho] at h
 split at h
 ·rename_i s off hx
  cases h
  refine bg.put rfl fun st2 ha=> ?_
  simp only [aN,ho,hr st2 ha,hx]
 ·rename_i fl e y i off hx
  cases h
  refine bg.put rfl fun st2 ha=> ?_
  simp only [aN,ho,hr st2 ha,hx]
 ·cases h
theorem AL {op:BinOp}{x y:AV}(h:(um op x y fun c=>some (st.put o.dst (.one c)))=some st'):∃v,st'=st.put o.dst v∧∀st2:AS,(um op x y fun c=>some (st2.put o.dst (.one c)))=some (st2.put o.dst v):=by
 have key:∀s:AS,(um op x y fun c=>some (s.put o.dst (.one c)))=(um op x y some).bind fun c=>some (s.put o.dst (.one c)):=fun s=>(tL op x y some _).symm
 rw [key st] at h
 cases hb:um op x y some with
 |none=>rw [hb] at h;cases h
 |some c=>
  rw [hb] at h
  cases h
  exact ⟨_,rfl,fun st2=>by rw [key st2,hb];rfl⟩
theorem Cy {op:BinOp}{b:Bool}(h:(sC op b fun c=>some (st.put o.dst (.one c)))=some st'):∃v,st'=st.put o.dst v∧∀st2:AS,(sC op b fun c=>some (st2.put o.dst (.one c)))=some (st2.put o.dst v):=by
 unfold sC at h
 split at h
 ·cases h;exact ⟨_,rfl,fun st2=>rfl⟩
 ·cases h;exact ⟨_,rfl,fun st2=>rfl⟩
 ·cases h
theorem KT {op:BinOp}{T T':TypeId}{x y:Operand}(ho:o.op= .binOp op T x y T')(h:pY E o op T x y st some=some st'):bg E Γ an X o st st':=by
 have hr:∀st2,cr an X o st st2→st2.rd x=st.rd x∧st2.rd y=st.rd y:=fun st2 ha=>
  ⟨ha.rd (fun t ht=>by simp [bd,ho,ht]),ha.rd (fun t ht=>by simp [bd,ho,ht])⟩
 unfold pY at h
 split at h
 ·rename_i a b hx hy
  split at h
  ·rename_i hT
   obtain ⟨v,rfl,hv⟩:=AL h
   refine bg.put rfl fun st2 ha=> ?_
   simp only [aN,ho,pY,(hr st2 ha).1,(hr st2 ha).2,hx,hy,if_pos hT]
   exact hv st2
  ·cases h
 ·rename_i xs ys hx hy
  split at h
  ·rename_i ls hq
   split at h
   ·rename_i hfit
    obtain ⟨v,rfl,hv⟩:=AL h
    refine bg.put rfl fun st2 ha=> ?_
    simp only [aN,ho,pY,(hr st2 ha).1,(hr st2 ha).2,hx,hy,hq,if_pos hfit]
    exact hv st2
   ·cases h
  ·cases h
 ·rename_i fl e xs hx hy
  split at h
  ·rename_i hT
   split at h
   ·cases h
   ·rename_i hlen
    obtain ⟨v,rfl,hv⟩:=Cy h
    refine bg.put rfl fun st2 ha=> ?_
    simp only [aN,ho,pY,(hr st2 ha).1,(hr st2 ha).2,hx,hy,ha.ep,if_pos hT,if_neg hlen]
    exact hv st2
  ·cases h
 ·rename_i hx hy
  split at h
  ·rename_i hT
   obtain ⟨v,rfl,hv⟩:=Cy h
   refine bg.put rfl fun st2 ha=> ?_
   simp only [aN,ho,pY,(hr st2 ha).1,(hr st2 ha).2,hx,hy,if_pos hT]
   exact hv st2
  ·cases h
 ·rename_i a b hn1 hn2 hn3 hn4
  obtain ⟨v,rfl,hv⟩:=AL h
  refine bg.put rfl fun st2 ha=> ?_
  simp only [aN,ho,pY,(hr st2 ha).1,(hr st2 ha).2]
  exact hv st2
theorem M4 {op:UnOp}{T:TypeId}{x:Operand}(ho:o.op= .unOp op T x)(h:(OU op (st.rd x) fun c=>some (st.put o.dst (.one c)))=some st'):bg E Γ an X o st st':=by
 have hr:∀st2,cr an X o st st2→st2.rd x=st.rd x:=fun st2 ha=>ha.rd (fun t ht=>by simpa [bd,ho] using ht)
 have key:∀s:AS,(OU op (st.rd x) fun c=>some (s.put o.dst (.one c)))=(OU op (st.rd x) some).bind fun c=>some (s.put o.dst (.one c)):=fun s=>(GH op (st.rd x) some _).symm
 rw [key st] at h
 cases hb:OU op (st.rd x) some with
 |none=>rw [hb] at h;cases h
 |some c=>
  rw [hb] at h
  cases h
  refine bg.put rfl fun st2 ha=> ?_
  simp only [aN,ho,hr st2 ha]
  rw [key st2,hb];rfl
theorem FO {S:TypeId}{p:Operand}{f:Nat}(ho:o.op= .fieldAddr S p f)(h:oW E o S p f st some=some st'):bg E Γ an X o st st':=by
 have hr:∀st2,cr an X o st st2→st2.rd p=st.rd p:=fun st2 ha=>ha.rd (fun t ht=>by simpa [bd,ho] using ht)
 unfold oW at h
 split at h
 ·rename_i hT hp
  split at h
  ·rename_i hf
   cases h
   refine bg.put rfl fun st2 ha=> ?_
   simp only [aN,ho,oW,hr st2 ha,hT,hp,hf]
  ·cases h
 ·rename_i hT hp
  split at h
  ·rename_i hf
   cases h
   refine bg.put rfl fun st2 ha=> ?_
   simp only [aN,ho,oW,hr st2 ha,hT,hp,hf]
  ·cases h
 ·cases h
theorem oP {v:AV}{s:AS}(h:v.now s.ep=true):v.fresh s=v:=by
 cases v with
 |tup vs=>rfl
 |val g cs=>
  simp only [AV.now,List.all_eq_true] at h
  simp only [AV.fresh]
  congr 1
  have:cs.map s.fresh=cs.map id:=List.map_congr_left fun c hc=>by
   have hn:=h c hc
   unfold AS.fresh
   split
   ·simp only [AC.now] at hn;rw [hn];rfl
   ·rfl
  rw [this,List.map_id]
theorem Ff {v:AV}{st st2:AS}(he:st2.ep=st.ep)(h:v.now st.ep=true∨∃g ep b j t e xs,v= .val g [.sl (.loc ep (some (.box b j,t))) e xs]∧nth st2.boxes b=nth st.boxes b):v.fresh st2=v.fresh st:=by
 rcases h with h|⟨g,ep,b,j,t,e,xs,rfl,hb⟩
 ·rw [oP h,oP (by rw [he];exact h)]
 ·simp only [AV.fresh,List.map_cons,List.map_nil]
  congr 2
  unfold AS.fresh
  simp only [AS.bP,he,hb]
theorem xP {T:TypeId}{x i:Operand}(ho:o.op= .indexAddr T x i)(hfree:bk E an X o st=true)(h:eQ E o T x i st some=some st'):bg E Γ an X o st st':=by
 have hr:∀st2,cr an X o st st2→st2.rd x=st.rd x∧st2.rd i=st.rd i:=fun st2 ha=>
  ⟨ha.rd (fun t ht=>by simp [bd,ho,ht]),ha.rd (fun t ht=>by simp [bd,ho,ht])⟩
 have hf2:∀st2,cr an X o st st2→(st.rd x).fresh st2=(st.rd x).fresh st:=fun st2 ha=>by
  refine Ff ha.ep ?_
  simp only [bk,ho,Bool.or_eq_true] at hfree
  rcases hfree with hn|hn
  ·exact .inl hn
  ·split at hn
   ·rename_i g ep b j t e xs hx
    exact .inr ⟨g,ep,b,j,t,e,xs,hx,ha.box b (by simpa using hn)⟩
   ·cases hn
 unfold eQ at h
 split at h
 ·rename_i e' fl e xs k n hT hx hi
  split at h
  ·rename_i hc
   cases hix:idx xs n with
   |none=>rw [hix] at h;cases h
   |some y=>
    rw [hix] at h
    cases h
    refine bg.put rfl fun st2 ha=> ?_
    have hf3:=hf2 st2 ha
    rw [hx] at hf3
    simp only [aN,ho,eQ,(hr st2 ha).1,(hr st2 ha).2,hf3,hT,hi,ha.ep,if_pos hc,hix,aa]
  ·cases h
 ·cases h
theorem FP {T:TypeId}{x i:Operand}(ho:o.op= .index T x i)(h:qD E o T x i st some=some st'):bg E Γ an X o st st':=by
 have hr:∀st2,cr an X o st st2→st2.rd x=st.rd x∧st2.rd i=st.rd i:=fun st2 ha=>
  ⟨ha.rd (fun t ht=>by simp [bd,ho,ht]),ha.rd (fun t ht=>by simp [bd,ho,ht])⟩
 unfold qD at h
 split at h
 ·rename_i s k n hx hi
  split at h
  ·rename_i hc
   cases hix:idx s n with
   |none=>rw [hix] at h;cases h
   |some y=>
    rw [hix] at h
    cases h
    refine bg.put rfl fun st2 ha=> ?_
    simp only [aN,ho,qD,(hr st2 ha).1,(hr st2 ha).2,hx,hi,if_pos hc,hix,aa]
  ·cases h
 ·cases h
theorem bg.new {v:AV}(h:st'=(st.bX o.dst).put o.dst v)(h2:∀st2,cr an X o st st2→aN E Γ an o st2 some=some ((st2.bX o.dst).put o.dst v)):bg E Γ an X o st st':=
 ⟨u9 o v,Bw v,by rw [wx];exact h,fun st2 ha=>by rw [wx];exact h2 st2 ha⟩
theorem cr.dT (ha:cr an X o st st2):st2.dT o.dst=st.dT o.dst:=by
 funext j
 cases hd:o.dst with
 |none=>rfl
 |some d=>simp only [AS.dT,(ha.dst d hd).1]
theorem vN {lo hi:Option Operand}{n:Nat}{f:AS→Int→Int→Option AS}(hs:∀st2,cr an X o st st2→lo.map st2.rd=lo.map st.rd∧hi.map st2.rd=hi.map st.rd)
 (h:eX st lo hi n (f st)=some st'):∃a b,f st a b=some st'∧∀st2,cr an X o st st2→eX st2 lo hi n (f st2)=f st2 a b:=by
 unfold eX at h
 split at h
 ·rename_i h1 h2
  exact ⟨_,_,h,fun st2 ha=>by simp only [eX,(hs st2 ha).1,(hs st2 ha).2,h1,h2]⟩
 ·rename_i h1 h2
  exact ⟨_,_,h,fun st2 ha=>by simp only [eX,(hs st2 ha).1,(hs st2 ha).2,h1,h2]⟩
 ·rename_i h1 h2
  exact ⟨_,_,h,fun st2 ha=>by simp only [eX,(hs st2 ha).1,(hs st2 ha).2,h1,h2]⟩
 ·rename_i h1 h2
  exact ⟨_,_,h,fun st2 ha=>by simp only [eX,(hs st2 ha).1,(hs st2 ha).2,h1,h2]⟩
 ·cases h
theorem FQ {T:TypeId}{x:Operand}{lo hi:Option Operand}(ho:o.op= .slice T x lo hi none)(hm:fH an o=true)(hfree:bk E an X o st=true)(h:pP E an o T x lo hi st some=some st'):bg E Γ an X o st st':=by
 have hr:∀st2,cr an X o st st2→st2.rd x=st.rd x:=fun st2 ha=>ha.rd (fun t ht=>by simp [bd,ho,ht])
 have hb:∀st2,cr an X o st st2→lo.map st2.rd=lo.map st.rd∧hi.map st2.rd=hi.map st.rd:=by
  intro st2 ha
  constructor
  ·cases lo with
   |none=>rfl
   |some y=>simp only [Option.map_some];rw [ha.rd (fun t ht=>by simp [bd,ho,tmO,ht])]
  ·cases hi with
   |none=>rfl
   |some y=>simp only [Option.map_some];rw [ha.rd (fun t ht=>by simp [bd,ho,tmO,ht])]
 have hnow:(st.rd x).now st.ep=true:=by simpa [bk,ho] using hfree
 have hf2:∀st2,cr an X o st st2→(st.rd x).fresh st2=st.rd x:=fun st2 ha=>oP (by rw [ha.ep];exact hnow)
 have htk:wu an o=false:=by simpa [fH,ho] using hm
 unfold pP at h
 rw [if_neg (by simp [htk]),oP hnow] at h
 split at h
 ·rename_i s hx
  split at h
  ·rename_i hT
   obtain ⟨a,b,h1,h2⟩:=vN (f:=fun s0 a b=>aa (sub s a b) fun s'=>some (s0.put o.dst (.one (.str s')))) hb h
   cases hsub:sub s a b with
   |none=>rw [hsub] at h1;cases h1
   |some s'=>
    rw [hsub] at h1
    cases h1
    refine bg.put rfl fun st2 ha=> ?_
    have hf3:=hf2 st2 ha
    rw [hx] at hf3
    simp only [aN,ho,pP,htk,Bool.false_eq_true,if_false,hr st2 ha,hx,hf3,if_pos hT]
    rw [h2 st2 ha,hsub];rfl
  ·cases h
 ·rename_i fl e xs hx
  split at h
  ·rename_i hT
   obtain ⟨a,b,h1,h2⟩:=vN (f:=fun s0 a b=>aa (sub xs a b) fun xs'=>some (s0.put o.dst (.one (.sl (Aa an o fl a) e xs')))) hb h
   cases hsub:sub xs a b with
   |none=>rw [hsub] at h1;cases h1
   |some s'=>
    rw [hsub] at h1
    cases h1
    refine bg.put rfl fun st2 ha=> ?_
    have hf3:=hf2 st2 ha
    rw [hx] at hf3
    simp only [aN,ho,pP,htk,Bool.false_eq_true,if_false,hr st2 ha,hx,hf3,ha.ep,if_pos hT]
    rw [h2 st2 ha,hsub];rfl
  ·cases h
 ·cases h
theorem uK {args:List Operand}(hl:∀t,t∈Eh args→t∈bd o)(ha:cr an X o st st2):args.map st2.rd=args.map st.rd:=by
 apply List.map_congr_left
 intro x hx
 exact ha.rd (fun t ht=>hl t (by simp only [Eh,List.mem_flatMap];exact ⟨x,hx,ht⟩))
theorem KV {ts:Array TypeId}{args:Array Operand}(ho:o.op= .call {callee:= .builtin .len,args,argTypes:=ts})(h:zQ E o ts.toList args.toList st some=some st'):bg E Γ an X o st st':=by
 have hr:∀st2,cr an X o st st2→args.toList.map st2.rd=args.toList.map st.rd:=fun st2 ha=>uK (fun t ht=>by simp only [bd,ho];exact ht) ha
 unfold zQ at h
 split at h
 ·rename_i t s hts hx
  split at h
  ·rename_i hT
   cases h
   refine bg.put rfl fun st2 ha=> ?_
   simp only [aN,ho,zQ,hr st2 ha,hts,hx,if_pos hT]
  ·cases h
 ·rename_i t _ _ xs hts hx
  split at h
  ·rename_i hT
   cases h
   refine bg.put rfl fun st2 ha=> ?_
   simp only [aN,ho,zQ,hr st2 ha,hts,hx,if_pos hT]
  ·cases h
 ·cases h
theorem KX {ts:Array TypeId}{args:Array Operand}(ho:o.op= .call {callee:= .builtin .min,args,argTypes:=ts})(h:Bh o args.toList st some=some st'):bg E Γ an X o st st':=by
 have hr:∀st2,cr an X o st st2→args.toList.map st2.rd=args.toList.map st.rd:=fun st2 ha=>uK (fun t ht=>by simp only [bd,ho];exact ht) ha
 unfold Bh at h
 split at h
 ·rename_i hx
  cases h
  refine bg.put rfl fun st2 ha=> ?_
  simp only [aN,ho,Bh,hr st2 ha,hx]
 ·cases h
theorem KW {ts:Array TypeId}{args:Array Operand}(ho:o.op= .call {callee:= .builtin .max,args,argTypes:=ts})(h:Bg o args.toList st some=some st'):bg E Γ an X o st st':=by
 have hr:∀st2,cr an X o st st2→args.toList.map st2.rd=args.toList.map st.rd:=fun st2 ha=>uK (fun t ht=>by simp only [bd,ho];exact ht) ha
 unfold Bg at h
 split at h
 ·rename_i hx
  cases h
  refine bg.put rfl fun st2 ha=> ?_
  simp only [aN,ho,Bg,hr st2 ha,hx]
 ·cases h
theorem HU (hΓ:∀f,(Γ f).io=false∧(Γ f).bx=false){f:Operand}{ts:Array TypeId}{args:Array Operand}(ho:o.op= .call {callee:= .value f,args,argTypes:=ts})(hfree:bk E an X o st=true)(h:sU Γ o f args.toList st some=some st'):bg E Γ an X o st st':=by
 have hr:∀st2,cr an X o st st2→st2.rd f=st.rd f∧(args.toList.map fun x=>((st2.rd x).fresh st2).asArg st2.ep)=args.toList.map fun x=>((st.rd x).fresh st).asArg st.ep:=by
  intro st2 ha
  refine ⟨ha.rd (fun t ht=>by simp [bd,ho,ht]), ?_⟩
  apply List.map_congr_left
  intro x hx
  have hnow:(st.rd x).now st.ep=true:=by
   simp only [bk,ho,List.all_eq_true] at hfree
   exact hfree x hx
  rw [ha.rd (fun t ht=>by simp only [bd,ho,List.mem_append,Eh,List.mem_flatMap];exact .inr ⟨x,hx,ht⟩),oP hnow,oP (s:=st2) (by rw [ha.ep];exact hnow),ha.ep]
 unfold sU at h
 split at h
 ·rename_i k hf
  rw [(hΓ k).2,(hΓ k).1] at h
  simp only [cond_false] at h
  cases hg:(Γ k).fn (args.toList.map fun x=>((st.rd x).fresh st).asArg st.ep) with
  |none=>rw [hg] at h;cases h
  |some y=>
   rw [hg] at h
   simp only [aa] at h
   cases hsel:(Γ k).sel y with
   |true=>
    rw [hsel] at h
    cases h
    refine bg.new rfl fun st2 ha=> ?_
    simp only [aN,ho,sU,(hr st2 ha).1,hf,(hΓ k).1,(hΓ k).2,cond_false]
    rw [(hr st2 ha).2,hg]
    simp only [aa,hsel,cond_true,ha.ep,ha.dT]
   |false=>
    rw [hsel] at h
    cases h
    refine bg.new rfl fun st2 ha=> ?_
    simp only [aN,ho,sU,(hr st2 ha).1,hf,(hΓ k).1,(hΓ k).2,cond_false]
    rw [(hr st2 ha).2,hg]
    simp only [aa,hsel,cond_false,ha.ep,ha.dT]
 ·cases h
theorem Bi {src dst:TypeId}{x:Operand}(ho:o.op= .convert src dst x)(h:eC E o src dst x st some=some st'):bg E Γ an X o st st':=by
 have hr:∀st2,cr an X o st st2→st2.rd x=st.rd x:=fun st2 ha=>ha.rd (fun t ht=>by simpa [bd,ho] using ht)
 unfold eC at h
 split at h
 ·rename_i h1 h2 h3
  cases h
  refine bg.put rfl fun st2 ha=> ?_
  simp only [aN,ho,eC,hr st2 ha,h1,h2,h3]
 ·rename_i h1 h2 h3
  cases h
  refine bg.put rfl fun st2 ha=> ?_
  simp only [aN,ho,eC,hr st2 ha,h1,h2,h3]
 ·rename_i offs val s hno h1 h2 h3
  split at h
  ·rename_i hb
   unfold room at h
   split at h
   ·rename_i hrm
    cases h
    refine bg.new (v:= .one (.sl (.own (st.dT o.dst 0)) (.int .u8) (aL s))) rfl fun st2 ha=> ?_
    have hval:∀k:AS→Option AS,eC E o src dst x st2 k=if E.bytes dst then room s.length (k (st2.g6 o.dst (.int .u8) (aL s))) else none:=by
     intro k
     unfold eC
     rw [hr st2 ha,h1,h2,h3]
     obtain ⟨ag,ct,of⟩:=val
     cases ag with
     |true=>rfl
     |false=>
      cases ct with
      |str=>exact (hno _ rfl).elim
      |_=>rfl
    simp only [aN,ho]
    rw [hval,if_pos hb,room,if_pos hrm,AS.g6,ha.dT]
   ·cases h
  ·cases h
 ·rename_i val offs fl xs h1 h2 h3
  split at h
  ·rename_i hb
   cases h
   refine bg.put rfl fun st2 ha=> ?_
   have hval:∀k:AS→Option AS,eC E o src dst x st2 k=if E.bytes src∧fl.live st2.ep then k (st2.put o.dst (.one (.str (bytesOf xs)))) else none:=by
    intro k
    unfold eC
    rw [hr st2 ha,h1,h2,h3]
    obtain ⟨ag,ct,of⟩:=val
    cases ag with
    |true=>rfl
    |false=>cases ct<;>rfl
   simp only [aN,ho]
   rw [hval,ha.ep,if_pos hb]
  ·cases h
 ·cases h
theorem xc {d:Nat}{cs:List AC}{v:AV}:(⟨[(d,v)],some (d,cs),none⟩:xb).apply st=(st.bI d (some cs)).put (some d) v:=rfl
theorem FL {T:TypeId}(ho:o.op= .alloc T)(h:rh E o T st some=some st'):bg E Γ an X o st st':=by
 unfold rh at h
 split at h
 ·rename_i d sh hd hT
  split at h
  ·rename_i hb
   cases h
   refine ⟨⟨[(d,.one (.ptr d 0))],some (d,cellsOf sh.ct (.own none) sh.ct.zero),none⟩,⟨fun x hx=> ?_,fun b hb'=> ?_,fun _ hh=>by cases hh⟩, ?_,fun st2 ha=> ?_⟩
   ·simp only [List.mem_singleton] at hx;subst hx;simp [writes,hd]
   ·cases hb';simp [vc,ho,hd]
   ·rw [xc,hd]
   ·simp only [aN,ho,rh,hd,hT,(ha.dst d hd).2,hb,xc]
  ·cases h
 ·cases h
def fZ (st:AS):Operand→List (Nat×AV)
 | .tmp t=>[(t,(st.get t).ai st.ep)]
 |_=>[]
theorem qF (l:List AV)(a b:List (Nat×AV)):dj l (a++b)=dj (dj l a) b:=by
 induction a generalizing l with
 |nil=>rfl
 |cons x a ih=>exact ih _
def AS.db (st:AS)(l:List (Nat×AV)):AS:={st with slots:=dj st.slots l}
theorem aaF:st.db []=st:=rfl
theorem iM (a b:List (Nat×AV)):st.db (a++b)=(st.db a).db b:=by simp only [AS.db,qF]
theorem aaE (d:Nat)(v:AV):st.put (some d) v=st.db [(d,v)]:=rfl
theorem rb (x:Operand):(st.take x).2=st.db (fZ st x):=by cases x<;>rfl
theorem sq {x:Operand}(hep:st2.ep=st.ep)(h:∀t∈tm x,st2.get t=st.get t):(st2.take x).1=(st.take x).1∧(st2.take x).2=st2.db (fZ st x):=by
 cases x with
 |tmp t=>
  have:=h t (by simp [tm])
  refine ⟨this, ?_⟩
  rw [rb]
  simp only [fZ,this,hep]
 |const v=>exact ⟨rfl,rfl⟩
 |func f=>exact ⟨rfl,rfl⟩
 |global g=>exact ⟨rfl,rfl⟩
theorem wv {x:Operand}:∀y∈fZ st x,y.1∈tm x:=by
 cases x<;>simp [fZ,tm]
theorem HW {x:Operand}(ho:o.op= .move x)(h:qS an o x st some=some st'):bg E Γ an X o st st':=by
 unfold qS at h
 cases hd:o.dst with
 |none=>rw [hd] at h;cases h
 |some d=>
  rw [hd] at h
  cases hf:an.mv.contains d with
  |false=>
   simp only [hf,Bool.false_eq_true,if_false] at h
   cases h
   refine bg.put (v:=st.rd x) (by rw [hd]) fun st2 ha=> ?_
   have hr:st2.rd x=st.rd x:=ha.rd (fun t ht=>by simpa [bd,ho] using ht)
   simp only [aN,ho,qS,hd,hf,Bool.false_eq_true,if_false,hr]
  |true=>
   simp only [hf,if_true] at h
   cases h
   have hr:∀st2,cr an X o st st2→(st2.take x).1=(st.take x).1∧(st2.take x).2=st2.db (fZ st x):=fun st2 ha=>sq ha.ep fun t ht=>ha.get t (by simpa [bd,ho] using ht)
   refine ⟨⟨fZ st x++[(d,(st.take x).1)],none,none⟩,⟨fun y hy=> ?_,fun _ hh=>(by cases hh),fun _ hh=>(by cases hh)⟩, ?_,fun st2 ha=> ?_⟩
   ·rcases List.mem_append.1 hy with hy|hy
    ·have:=wv y hy
     have hf':d∈an.mv:=by simpa using hf
     simp [writes,tH,ho,hd,hf',bd,this]
    ·simp only [List.mem_singleton] at hy;subst hy;simp [writes,hd]
   ·rw [rb]
    show _=st.db _
    rw [iM];rfl
   ·simp only [aN,ho,qS,hd,hf,if_true,(hr st2 ha).1,(hr st2 ha).2]
    show some ((st2.db (fZ st x)).put (some d) (st.take x).1)=some (st2.db _)
    rw [iM];rfl
theorem E9 {ep:Nat}{cs:List AC}(h:cs.all AC.b5=true):ai ep cs=cs:=by
 rw [List.all_eq_true] at h
 unfold ai
 have:cs.map (AC.borrow ep none)=cs.map id:=List.map_congr_left fun c hc=>by
  have:=h c hc
  cases c<;>first|rfl|(simp [AC.b5] at this)
 rw [this,List.map_id]
theorem PX {s:AS}{t:Nat}{vs:List (Bool×List AC)}(h:s.get t= .tup vs):s.put (some t) (.tup vs)=s:=by
 cases s with
 |mk slots boxes ep iss io=>
  simp only [AS.put,AS.mk.injEq,and_true]
  rw [bE]
  apply List.ext_getElem?
  intro i
  rw [List.getElem?_set]
  split
  ·rename_i hd
   subst hd
   simp only [AS.get,ba] at h
   split
   ·rename_i hlt
    rw [List.getElem?_eq_getElem hlt] at h⊢
    simp only [Option.getD_some] at h
    rw [h]
   ·rename_i hge
    rw [List.getElem?_eq_none (Nat.le_of_not_lt hge)]
  ·rfl
theorem Bj {t i:Nat}(ho:o.op= .extract (.tmp t) i)(hfree:bk E an X o st=true)(h:eE o t i st some=some st'):bg E Γ an X o st st':=by
 have hr:∀st2,cr an X o st st2→st2.get t=st.get t:=fun st2 ha=>ha.get t (by simp [bd,ho])
 unfold eE at h
 simp only [bk,ho] at hfree
 split at h
 ·rename_i vs hv
  rw [hv] at hfree
  split at h
  ·rename_i g cs hn
   simp only [hn] at hfree
   have hfl:cs.all AC.b5=true∨∃d,o.dst=some d∧an.mv.contains d=true:=by
    cases hd:o.dst with
    |none=>simp only [hd,Bool.or_false] at hfree;exact .inl hfree
    |some d=>
     simp only [hd,Bool.or_eq_true] at hfree
     rcases hfree with h|h
     ·exact .inl h
     ·exact .inr ⟨d,rfl,h⟩
   rcases hfl with hfree|⟨d,hd,hmv⟩
   rotate_left
   ·cases h
    refine ⟨⟨[(t,.tup (cH vs i (g,ai 0 cs))),(d,.val g cs)],none,none⟩,⟨fun x hx=> ?_,(fun _ hb=>by cases hb),(fun _ hh=>by cases hh)⟩, ?_,fun st2 ha=> ?_⟩
    ·simp only [List.mem_cons,List.not_mem_nil,or_false] at hx
     rcases hx with rfl|rfl
     ·simp only [writes,tH,ho,hd,hmv,cond_true,bd];simp
     ·simp only [writes,hd];simp
    ·rw [hd];rfl
    ·have h2:st2.get t= .tup vs:=by rw [hr st2 ha,hv]
     simp only [aN,ho,eE,h2,hn,hd];rfl
   ·skip
    have hset:cH vs i (g,cs)=vs:=by
     rw [bE]
     rw [ba] at hn
     apply List.ext_getElem?
     intro k
     rw [List.getElem?_set]
     split
     ·rename_i hk;subst hk
      obtain ⟨hl,he⟩:=List.getElem?_eq_some_iff.1 hn
      rw [if_pos hl,hn]
     ·rfl
    have key:∀s:AS,s.get t= .tup vs→(s.put (some t) (.tup (cH vs i (g,ai 0 cs))))=s:=fun s hs=>by rw [E9 hfree,hset,PX hs]
    rw [key st hv] at h
    cases h
    refine bg.put rfl fun st2 ha=> ?_
    have h2:st2.get t= .tup vs:=by rw [hr st2 ha,hv]
    simp only [aN,ho,eE,h2,hn]
    rw [key st2 h2]
  ·cases h
 ·cases h
def oM (st:AS):Operand→List (Nat×AV)
 | .tmp t=>[(t,(st.get t).ai st.ep)]
 |_=>[]
theorem AD (st:AS)(x:Operand):(st.take x).2=⟨dj st.slots (oM st x),st.boxes,st.ep,st.iss,st.io⟩:=by
 cases x<;>rfl
theorem FR {T:TypeId}{pp:Nat}{x:Operand}(ho:o.op= .store T (.tmp pp) x)(hd:o.dst=none)(hm:fH an o=true)(hfree:bk E an X o st=true)(h:mO E T (.tmp pp) x st some=some st'):bg E Γ an X o st st':=by
 have hr:∀st2,cr an X o st st2→st2.rd (.tmp pp)=st.rd (.tmp pp):=fun st2 ha=>ha.rd (fun t ht=>by simp only [bd,ho,List.mem_append];exact .inl ht)
 have hsb:(an.sb pp).isNone=false:=by
  simp only [fH,ho,Bool.and_eq_true] at hm
  cases hb:an.sb pp with
  |none=>rw [hb] at hm;cases hm.1
  |some _=>rfl
 simp only [bk,ho,hsb,Bool.false_and,Bool.false_or] at hfree
 unfold mO at h
 split at h
 ·rename_i sh s off hT hp
  rw [hp] at hfree
  simp only [Bool.and_eq_true,Bool.not_eq_true',beq_iff_eq] at hfree
  split at h
  ·rename_i gg vs st1 htk
   have htk1:(st.take x).1= .val gg vs:=by rw [htk]
   have hst1:st1=⟨dj st.slots (oM st x),st.boxes,st.ep,st.iss,st.io⟩:=by rw [←AD,htk]
   split at h
   ·rename_i cs hb
    split at h
    ·rename_i hlen
     split at h
     ·rename_i hfit
      cases h
      have hbx:∀st2,cr an X o st st2→nth st2.boxes s=nth st.boxes s:=fun st2 ha=>ha.box s hfree.1
      refine ⟨⟨oM st x,some (s,aI cs off vs),none⟩,⟨fun y hy=> ?_,fun b hb'=> ?_,fun _ hh=>by cases hh⟩, ?_,fun st2 ha=> ?_⟩
      ·cases x with
       |tmp t=>
        simp only [oM,List.mem_singleton] at hy
        subst hy
        simp only [writes,tH,ho,cond_true,bd,hd]
        simp [tm]
       |_=>simp [oM] at hy
      ·cases hb';simp only [vc,ho,hfree.2];simp
      ·rw [hst1];rfl
      ·have hx2:(st2.take x).1=(st.take x).1∧oM st2 x=oM st x:=by
        cases x with
        |tmp t=>
         have hg:st2.get t=st.get t:=ha.get t (by simp [bd,ho,tm])
         simp only [AS.take,oM,hg,ha.ep];simp
        |const v=>exact ⟨rfl,rfl⟩
        |func f=>exact ⟨rfl,rfl⟩
        |global g=>exact ⟨rfl,rfl⟩
       have ht2:st2.take x=(.val gg vs,⟨dj st2.slots (oM st x),st2.boxes,st2.ep,st2.iss,st2.io⟩):=by
        rw [←hx2.2,←AD,←htk1,←hx2.1]
       have hb2:(nth st2.boxes s).getD none=some cs:=by
        rw [hbx st2 ha]
        rw [hst1] at hb
        exact hb
       have hlate:pe an o=false:=by
        simp only [fH,ho,Bool.and_eq_true,Bool.not_eq_true'] at hm
        exact hm.2
       simp only [aN,ho,hd,hlate,Bool.false_eq_true,if_false,mO,hT,hr st2 ha,hp,ht2,hb2,if_pos hlen,if_pos hfit]
       rfl
     ·cases h
    ·cases h
   ·cases h
  ·cases h
 ·rename_i r _ _ _ _ _ _ hp
  rw [hp] at hfree
  cases r<;>simp at hfree
 ·cases h
theorem DG {x:Operand}(ho:o.op= .assign x)(hm:fH an o=true)(h:ld E an o x st some=some st'):bg E Γ an X o st st':=by
 have hr:∀st2,cr an X o st st2→(st2.take x).1=(st.take x).1∧(st2.take x).2=st2.db (fZ st x):=fun st2 ha=>sq ha.ep fun t ht=>ha.get t (by simpa [bd,ho] using ht)
 have hlate:pe an o=false:=by simpa [fH,ho] using hm
 unfold ld at h
 split at h
 ·rename_i st1 htk
  split at h
  ·rename_i e hT
   cases h
   refine bg.put rfl fun st2 ha=> ?_
   have h2:st2.take x=(.val false [.nilsl],st2.db (fZ st x)):=Prod.ext (by rw [(hr st2 ha).1,htk]) (hr st2 ha).2
   simp only [aN,ho,ld,hlate,Bool.false_eq_true,if_false,h2,hT]
  ·cases h
 ·rename_i v st1 hno htk
  cases h
  have hst1:st1=st.db (fZ st x):=by rw [←rb,htk]
  refine ⟨⟨fZ st x++o.dst.toList.map fun d=>(d,v),none,none⟩,⟨fun y hy=> ?_,fun _ hh=>(by cases hh),fun _ hh=>(by cases hh)⟩, ?_,fun st2 ha=> ?_⟩
  ·rcases List.mem_append.1 hy with hy|hy
   ·have:=wv y hy
    simp [writes,tH,ho,bd,this]
   ·obtain ⟨d,hd,rfl⟩:=List.mem_map.1 hy
    simp [writes,hd]
  ·rw [hst1]
   show _=st.db _
   rw [iM]
   cases o.dst<;>rfl
  ·have h2:st2.take x=(v,st2.db (fZ st x)):=Prod.ext (by rw [(hr st2 ha).1,htk]) (hr st2 ha).2
   simp only [aN,ho,ld,hlate,Bool.false_eq_true,if_false,h2]
   show some ((st2.db (fZ st x)).put o.dst v)=some (st2.db _)
   rw [iM]
   cases o.dst<;>rfl
theorem c8 {α:Type}(l:List α)(i:Nat)(v:α)(t:Nat):nth (cH l i v) t=if i=t then (if i<l.length then some v else none) else nth l t:=by
 rw [ba,bE,ba,List.getElem?_set]
theorem Ad (l:List AV)(a:List (Nat×AV)):(dj l a).length=l.length:=by
 induction a generalizing l with
 |nil=>rfl
 |cons x a ih=>rw [dj,ih,bE,List.length_set]
theorem Ib {l l2:List AV}(a:List (Nat×AV))(hl:l2.length=l.length)(t:Nat)(h:nth l2 t=nth l t):nth (dj l2 a) t=nth (dj l a) t:=by
 induction a generalizing l l2 with
 |nil=>exact h
 |cons x a ih=>
  refine ih (by rw [bE,bE,List.length_set,List.length_set,hl]) ?_
  rw [c8,c8,hl,h]
theorem H3 {t:Nat}(h:st2.get t=st.get t)(hl:st2.slots.length=st.slots.length):nth st2.slots t=nth st.slots t:=by
 unfold AS.get at h
 rw [ba,ba] at h⊢
 rcases Nat.lt_or_ge t st.slots.length with hlt|hge
 ·rw [List.getElem?_eq_getElem hlt,List.getElem?_eq_getElem (by omega)] at h⊢
  simpa using h
 ·rw [List.getElem?_eq_none hge,List.getElem?_eq_none (by omega)]
def dh (st:AS):List Operand→List (Nat×AV)
 |[]=>[]
 |x::xs=>fZ st x++dh (st.db (fZ st x)) xs
theorem pU:∀(xs:List Operand)(st:AS),∀y∈dh st xs,y.1∈Eh xs
 |[],_,y,hy=>by cases hy
 |x::xs,st,y,hy=>by
  simp only [Eh,List.flatMap_cons,List.mem_append]
  rcases List.mem_append.1 hy with hy|hy
  ·exact .inl (wv y hy)
  ·exact .inr (pU xs _ y hy)
theorem qH:∀(xs:List Operand)(st st2:AS),st2.ep=st.ep→st2.slots.length=st.slots.length→(∀t∈Eh xs,nth st2.slots t=nth st.slots t)→
 (bt st2 xs).1=(bt st xs).1∧(bt st2 xs).2=st2.db (dh st xs)
 |[],st,st2,_,_,_=>⟨rfl,rfl⟩
 |x::xs,st,st2,hep,hl,hg=>by
  have hx:∀t∈tm x,st2.get t=st.get t:=fun t ht=>by unfold AS.get;rw [hg t (by simp [Eh,ht])]
  obtain ⟨h1,h2⟩:=sq (st:=st) (st2:=st2) hep hx
  have h3:=rb (st:=st) x
  obtain ⟨k1,k2⟩:=qH xs (st.db (fZ st x)) (st2.db (fZ st x)) hep (by simp only [AS.db,Ad,hl])
   (fun t ht=>Ib _ hl t (hg t (by simp only [Eh,List.flatMap_cons,List.mem_append];exact .inr ht)))
  have e1:bt st (x::xs)=((st.take x).1::(bt (st.take x).2 xs).1,(bt (st.take x).2 xs).2):=rfl
  have e2:bt st2 (x::xs)=((st2.take x).1::(bt (st2.take x).2 xs).1,(bt (st2.take x).2 xs).2):=rfl
  rw [e1,e2,h1,h2,h3]
  refine ⟨by rw [k1], ?_⟩
  show (bt (st2.db (fZ st x)) xs).2=_
  rw [k2,dh,iM]
theorem so (xs:List Operand):(bt st xs).2=st.db (dh st xs):=(qH xs st st rfl rfl (fun _ _=>rfl)).2
theorem cr.bt (ha:cr an X o st st2){xs:List Operand}(hx:∀t∈Eh xs,t∈bd o):(bt st2 xs).1=(Dn.bt st xs).1∧(Dn.bt st2 xs).2=st2.db (dh st xs):=
 qH xs st st2 ha.ep ha.len fun t ht=>H3 (ha.get t (hx t ht)) ha.len
theorem FN {T:TypeId}{parts:Array (Nat×Operand)}(ho:o.op= .build T parts)(h:qz E o T parts.toList st some=some st'):bg E Γ an X o st st':=by
 have hl:∀t∈Eh (parts.toList.map (·.2)),t∈bd o:=fun t ht=>by simp only [bd,ho];exact ht
 unfold qz at h
 split at h
 ·rename_i ct offs hT
  split at h
  rename_i vs st1 htk
  have hst1:st1=st.db (dh st (parts.toList.map (·.2))):=by rw [←so,htk]
  split at h
  ·rename_i cs hb
   cases h
   refine ⟨⟨dh st (parts.toList.map (·.2))++o.dst.toList.map fun d=>(d,.val true cs),none,none⟩,⟨fun y hy=> ?_,fun _ hh=>(by cases hh),fun _ hh=>(by cases hh)⟩, ?_,fun st2 ha=> ?_⟩
   ·rcases List.mem_append.1 hy with hy|hy
    ·have:=hl _ (pU _ _ y hy)
     simp [writes,tH,ho,this]
    ·obtain ⟨d,hd,rfl⟩:=List.mem_map.1 hy
     simp [writes,hd]
   ·rw [hst1]
    show _=st.db _
    rw [iM]
    cases o.dst<;>rfl
   ·obtain ⟨k1,k2⟩:=ha.bt hl
    have h2:bt st2 (parts.toList.map (·.2))=(vs,st2.db (dh st (parts.toList.map (·.2)))):=Prod.ext (by rw [k1,htk]) k2
    simp only [aN,ho,qz,hT,h2,hb]
    show some ((st2.db _).put o.dst _)=some (st2.db _)
    rw [iM]
    cases o.dst<;>rfl
  ·cases h
 ·cases h
theorem bg.Uq {tl:List (Nat×AV)}{v:AV}(ht:tH an o=true)(hl:∀y∈tl,y.1∈bd o)(h:st'=((st.db tl).bX o.dst).put o.dst v)
 (h2:∀st2,cr an X o st st2→aN E Γ an o st2 some=some (((st2.db tl).bX o.dst).put o.dst v)):bg E Γ an X o st st':=by
 have key:∀s:AS,(⟨tl++o.dst.toList.map fun d=>(d,v),none,o.dst⟩:xb).apply s=((s.db tl).bX o.dst).put o.dst v:=by
  intro s
  cases o.dst with
  |none=>simp only [xb.apply,Option.toList,List.map_nil,List.append_nil,AS.db,AS.bX,AS.put]
  |some d=>simp only [xb.apply,Option.toList,List.map_cons,List.map_nil,qF,AS.db,AS.bX,AS.put,dj]
 refine ⟨⟨tl++o.dst.toList.map fun d=>(d,v),none,o.dst⟩,⟨fun y hy=> ?_,fun _ hh=>(by cases hh),fun d hh=>hh⟩,by rw [key];exact h,fun st2 ha=>by rw [key];exact h2 st2 ha⟩
 rcases List.mem_append.1 hy with hy|hy
 ·simp [writes,ht,hl y hy]
 ·obtain ⟨d,hd,rfl⟩:=List.mem_map.1 hy
  simp [writes,hd]
theorem oQ {tl:List (Nat×AV)}{d:Option Nat}:(st.db tl).dT d=st.dT d:=rfl
theorem wR {T:TypeId}{len:Nat}{parts:Array (Nat×Operand)}(ho:o.op= .buildSlice T len parts)(h:ez E o T len parts.toList st some=some st'):bg E Γ an X o st st':=by
 have hl:∀t∈Eh (parts.toList.map (·.2)),t∈bd o:=fun t ht=>by simp only [bd,ho];exact ht
 unfold ez at h
 split at h
 ·rename_i e hT
  split at h
  ·rename_i hc
   split at h
   rename_i vs st1 htk
   have hst1:st1=st.db (dh st (parts.toList.map (·.2))):=by rw [←so,htk]
   split at h
   ·rename_i xs hb
    cases h
    refine bg.Uq (tl:=dh st (parts.toList.map (·.2))) (v:= .one (.sl (.own (st.dT o.dst 0)) e xs)) (by simp [tH,ho]) (fun y hy=>hl _ (pU _ _ y hy)) ?_ fun st2 ha=> ?_
    ·rw [hst1,AS.g6,oQ]
    ·obtain ⟨k1,k2⟩:=ha.bt hl
     have h2:bt st2 (parts.toList.map (·.2))=(vs,st2.db (dh st (parts.toList.map (·.2)))):=Prod.ext (by rw [k1,htk]) k2
     simp only [aN,ho,ez,hT,h2,hb,if_pos hc]
     rw [AS.g6,oQ,ha.dT]
   ·cases h
  ·cases h
 ·cases h
theorem xQ {T:TypeId}{n c:Operand}(ho:o.op= .makeSlice T n c)(h:gp E o T n c st some=some st'):bg E Γ an X o st st':=by
 have hr:∀st2,cr an X o st st2→st2.rd n=st.rd n∧st2.rd c=st.rd c:=fun st2 ha=>
  ⟨ha.rd (fun t ht=>by simp [bd,ho,ht]),ha.rd (fun t ht=>by simp [bd,ho,ht])⟩
 unfold gp at h
 split at h
 ·rename_i e len cap hT hn hc
  split at h
  ·rename_i hlc
   unfold room at h
   split at h
   ·rename_i hrm
    cases h
    refine bg.new (v:= .one (.sl (.own (st.dT o.dst 0)) e (List.replicate len.toNat e.zero))) rfl fun st2 ha=> ?_
    simp only [aN,ho,gp,(hr st2 ha).1,(hr st2 ha).2,hT,hn,hc,if_pos hlc,room,if_pos hrm,AS.g6,ha.dT]
   ·cases h
  ·cases h
 ·cases h
theorem DF {ts:Array TypeId}{args:Array Operand}(ho:o.op= .call {callee:= .builtin .append,args,argTypes:=ts})(h:mS E o ts.toList args.toList st some=some st'):bg E Γ an X o st st':=by
 have hlk:∀t∈Eh args.toList,t∈bd o:=fun t ht=>by simp only [bd,ho];exact ht
 unfold mS at h
 split at h
 ·rename_i t t' s x hts hargs
  have hl:∀u∈Eh [s,x],u∈bd o:=by rw [←hargs];exact hlk
  have hboth:∀st2,cr an X o st st2→(st2.take s).1=(st.take s).1∧((st2.take s).2.take x).1=((st.take s).2.take x).1∧((st2.take s).2.take x).2=st2.db (dh st [s,x]):=by
   intro st2 ha
   obtain ⟨k1,k2⟩:=ha.bt hl
   simp only [Dn.bt,List.cons.injEq,and_true] at k1 k2
   exact ⟨k1.1,k1.2,k2⟩
  have hself:((st.take s).2.take x).2=st.db (dh st [s,x]):=so (st:=st) [s,x]
  split at h
  ·rename_i tag e xs st1 htk1
   split at h
   ·rename_i fl e' ys st1' htk2
    split at h
    ·rename_i he
     subst he
     split at h
     ·rename_i hc
      unfold room at h
      split at h
      ·rename_i hrm
       cases h
       have hst1:(st.take s).2=st1:=by rw [htk1]
       have hst2:st1'=st.db (dh st [s,x]):=by rw [←hself,hst1,htk2]
       refine bg.Uq (tl:=dh st [s,x]) (v:= .one (.sl (.own (st.dT o.dst 0)) e' (xs++ys))) (by simp [tH,ho]) (fun y hy=>hl _ (pU _ _ y hy)) ?_ fun st2 ha=> ?_
       ·rw [hst2,AS.g6,oQ]
       ·obtain ⟨k1,k2,k3⟩:=hboth st2 ha
        have e1:st2.take s=(.val false [.sl (.own tag) e' xs],(st2.take s).2):=Prod.ext (by rw [k1,htk1]) rfl
        have e2:(st2.take s).2.take x=(.val false [.sl fl e' ys],st2.db (dh st [s,x])):=Prod.ext (by rw [k2,hst1,htk2]) k3
        simp only [aN,ho,mS,hts,hargs]
        rw [e1]
        simp only
        rw [e2]
        simp only [dite_true,ha.ep,if_pos hc,room,if_pos hrm,AS.g6,oQ,ha.dT]
      ·cases h
     ·cases h
    ·cases h
   ·rename_i sx st1' htk2
    split at h
    ·rename_i he
     subst he
     split at h
     ·rename_i hc
      unfold room at h
      split at h
      ·rename_i hrm
       cases h
       have hst1:(st.take s).2=st1:=by rw [htk1]
       have hst2:st1'=st.db (dh st [s,x]):=by rw [←hself,hst1,htk2]
       refine bg.Uq (tl:=dh st [s,x]) (v:= .one (.sl (.own (st.dT o.dst 0)) (.int .u8) (xs++aL sx))) (by simp [tH,ho]) (fun y hy=>hl _ (pU _ _ y hy)) ?_ fun st2 ha=> ?_
       ·rw [hst2,AS.g6,oQ]
       ·obtain ⟨k1,k2,k3⟩:=hboth st2 ha
        have e1:st2.take s=(.val false [.sl (.own tag) (.int .u8) xs],(st2.take s).2):=Prod.ext (by rw [k1,htk1]) rfl
        have e2:(st2.take s).2.take x=(.val false [.str sx],st2.db (dh st [s,x])):=Prod.ext (by rw [k2,hst1,htk2]) k3
        simp only [aN,ho,mS,hts,hargs]
        rw [e1]
        simp only
        rw [e2]
        simp only [dite_true,if_pos hc,room,if_pos hrm,AS.g6,oQ,ha.dT]
      ·cases h
     ·cases h
    ·cases h
   ·cases h
  ·cases h
 ·cases h
theorem KU {T:TypeId}{x:Operand}(ho:o.op= .box T x)(h:CG o x st some=some st'):bg E Γ an X o st st':=by
 have hr:∀st2,cr an X o st st2→(st2.take x).1=(st.take x).1∧(st2.take x).2=st2.db (fZ st x):=fun st2 ha=>sq ha.ep fun t ht=>ha.get t (by simpa [bd,ho] using ht)
 unfold CG at h
 split at h
 ·rename_i d g cs st1 hd htk
  have hst1:st1=st.db (fZ st x):=by rw [←rb,htk]
  split at h
  ·rename_i hb
   split at h
   ·rename_i hs
    cases h
    have hb0:nth st.boxes d=some none:=by rw [hst1] at hb;exact hb
    have key:∀s:AS,(⟨fZ st x++[(d,.one (.ptr d 0))],some (d,cs),none⟩:xb).apply s=((s.db (fZ st x)).bI d (some cs)).put (some d) (.one (.ptr d 0)):=by
     intro s
     simp only [xb.apply,qF,AS.db,AS.bI,AS.put,dj]
    refine ⟨⟨fZ st x++[(d,.one (.ptr d 0))],some (d,cs),none⟩,⟨fun y hy=> ?_,fun b hb'=> ?_,fun _ hh=>(by cases hh)⟩, ?_,fun st2 ha=> ?_⟩
    ·rcases List.mem_append.1 hy with hy|hy
     ·have:=wv y hy
      simp [writes,tH,ho,bd,this]
     ·simp only [List.mem_singleton] at hy;subst hy;simp [writes,hd]
    ·cases hb';simp [vc,ho,hd]
    ·rw [key,hst1,hd]
    ·have h2:st2.take x=(.val g cs,st2.db (fZ st x)):=Prod.ext (by rw [(hr st2 ha).1,htk]) (hr st2 ha).2
     have hb2:nth (st2.db (fZ st x)).boxes d=some none:=by show nth st2.boxes d=_;rw [(ha.dst d hd).2];exact hb0
     simp only [aN,ho,CG,hd,h2,hb2,if_pos hs,key]
   ·cases h
  ·cases h
 ·cases h
theorem Av (hΓ:∀f,(Γ f).io=false∧(Γ f).bx=false)(hm:fH an o=true)(hfree:bk E an X o st=true)(h:aN E Γ an o st some=some st'):bg E Γ an X o st st':=by
 have h0:=h
 unfold aN at h
 split at h
 ·rename_i ho;exact HW ho h
 ·rename_i ho
  have hlate:pe an o=false:=by simpa [fH,ho] using hm
  rw [if_neg (by simp [hlate])] at h
  exact DG ho hm h
 ·rename_i ho;exact HX ho h
 ·rename_i ho;exact FL ho h
 ·rename_i ho;exact KU ho h
 ·rename_i ho;exact HV ho hm hfree h
 ·rename_i T p x ho
  split at h
  ·rename_i hd
   cases p with
   |tmp pp=>
    have hlate:pe an o=false:=by
     simp only [fH,ho,Bool.and_eq_true,Bool.not_eq_true'] at hm
     exact hm.2
    rw [if_neg (by simp [hlate])] at h
    exact FR ho hd hm hfree h
   |const v=>simp [fH,ho] at hm
   |func f=>simp [fH,ho] at hm
   |global g=>simp [fH,ho] at hm
  ·cases h
 ·rename_i ho;exact zW ho h0
 ·rename_i ho;exact KT ho h
 ·rename_i ho;exact M4 ho h
 ·rename_i ho;exact FO ho h
 ·rename_i ho;exact xP ho hfree h
 ·rename_i ho;exact FP ho h
 ·rename_i ho;exact FN ho h
 ·rename_i ho;exact wR ho h
 ·rename_i ho;exact xQ ho h
 ·rename_i ho;exact FQ ho hm hfree h
 ·rename_i ho;simp [fH,ho] at hm
 ·rename_i ho;simp [fH,ho] at hm
 ·rename_i ho;exact Bi ho h
 ·rename_i ho;exact Bj ho hfree h
 ·rename_i ho;exact KV ho h
 ·rename_i ho;exact KX ho h
 ·rename_i ho;exact KW ho h
 ·rename_i ho;exact DF ho h
 ·rename_i ho;exact HU hΓ ho hfree h
 ·cases h
end Go.Dn
