import Derived.Test.YtgilglpncgncjaaGreatDnMask
/- What an operation looks at and what it turns: for regions whose order is drawn. -/
namespace Go.Dn
structure BP where
 slots:List (Nat×AV):=[]
 box:Option (Nat×List AC):=none
 iss:Option Nat:=none
def dT (l:List AV):List (Nat×AV)→List AV
 |[]=>l
 |x::r=>dT (dj l x.1 x.2) r
def BP.apply (u:BP)(st:AS):AS:=
 ⟨dT st.slots u.slots,(match u.box with|some b=>dj st.boxes b.1 (some b.2)|none=>st.boxes),st.ep,(match u.iss with|some d=>dj st.iss d true|none=>st.iss),st.io⟩
structure cJ (an:An) (X:List Nat) (o:Oper) (st st2:AS):Prop where
 len:st2.slots.length=st.slots.length
 get:∀t∈bp o,st2.get t=st.get t
 ep:st2.ep=st.ep
 dst:∀d,o.dst=some d→nth st2.iss d=nth st.iss d∧nth st2.boxes d=nth st.boxes d
 box:∀s,X.contains s=false→nth st2.boxes s=nth st.boxes s
 er:∀t∈erS an o,st2.get t=st.get t
structure BP.yK (an:An) (u:BP) (o:Oper):Prop where
 slots:∀x∈u.slots,x.1∈writes an o
 box:∀b,u.box=some b→b.1∈zt an o
 iss:∀d,u.iss=some d→o.dst=some d
variable {E:Env} {Γ:aJ} {an:An} {X:List Nat} {o:Oper} {st st2 st':AS}
theorem TU {x:Operand}(hep:st2.ep=st.ep)(h:∀t∈tm x,st2.get t=st.get t):st2.rd x=st.rd x:=by
 cases x with
 |tmp t=>simp only [AS.rd,hep,h t (by simp [tm])]
 |const v=>rfl
 |func f=>rfl
 |global g=>rfl
def bu (E:Env)(Γ:aJ)(an:An)(X:List Nat)(o:Oper)(st st':AS):Prop:=
 ∃u:BP,u.yK an o∧st'=u.apply st∧∀st2,cJ an X o st st2→aV E Γ an o st2 some=some (u.apply st2)
def wm (o:Oper)(v:AV):BP:={slots:=o.dst.toList.map fun d=>(d,v)}
theorem lH (v:AV):(wm o v).apply st=st.put o.dst v:=by
 unfold wm BP.apply AS.put
 cases o.dst<;>rfl
theorem uI (v:AV):(wm o v).yK an o:=by
 refine ⟨fun x hx=> ?_,fun b hb=>by simp [wm] at hb,fun d hd=>by simp [wm] at hd⟩
 simp only [wm,List.mem_map] at hx
 obtain ⟨d,hd,rfl⟩:=hx
 simp [writes,hd]
def zr (o:Oper)(v:AV):BP:={slots:=o.dst.toList.map fun d=>(d,v),iss:=o.dst}
theorem AR (v:AV):(zr o v).apply st=(st.cp o.dst).put o.dst v:=by
 unfold zr BP.apply AS.put AS.cp
 cases o.dst<;>rfl
theorem Gf (v:AV):(zr o v).yK an o:=by
 refine ⟨fun x hx=> ?_,fun b hb=>by simp [zr] at hb,fun d hd=>by simpa [zr] using hd⟩
 simp only [zr,List.mem_map] at hx
 obtain ⟨d,hd,rfl⟩:=hx
 simp [writes,hd]
theorem bu.put {v:AV}(h:st'=st.put o.dst v)(h2:∀st2,cJ an X o st st2→aV E Γ an o st2 some=some (st2.put o.dst v)):bu E Γ an X o st st':=
 ⟨wm o v,uI v,by rw [lH];exact h,fun st2 ha=>by rw [lH];exact h2 st2 ha⟩
theorem cJ.rd (ha:cJ an X o st st2){x:Operand}(hx:∀t∈tm x,t∈bp o):st2.rd x=st.rd x:=TU ha.ep fun t ht=>ha.get t (hx t ht)
theorem Oa {c x y:Operand}(ho:o.op= .pick c x y)(h:xj o c x y st some=some st'):bu E Γ an X o st st':=by
 have hr:∀st2,cJ an X o st st2→st2.rd c=st.rd c∧st2.rd x=st.rd x∧st2.rd y=st.rd y:=fun st2 ha=>
  ⟨ha.rd (fun t ht=>by simp [bp,ho,ht]),ha.rd (fun t ht=>by simp [bp,ho,ht]),ha.rd (fun t ht=>by simp [bp,ho,ht])⟩
 unfold xj at h
 split at h
 ·rename_i t hc
  split at h
  ·rename_i a b hx hy
   cases h
   refine bu.put rfl fun st2 ha=> ?_
   obtain ⟨h1,h2,h3⟩:=hr st2 ha
   simp only [aV,ho,xj,h1,h2,h3,hc,hx,hy]
  ·rename_i va vb hno
   have hgo:∀st2,cJ an X o st st2→aV E Γ an o st2 some=cond t (some (st2.put o.dst (st.rd x))) (some (st2.put o.dst (st.rd y))):=by
    intro st2 ha
    obtain ⟨h1,h2,h3⟩:=hr st2 ha
    simp only [aV,ho,xj,h1,h2,h3,hc]
   cases t with
   |true=>cases h;exact bu.put rfl fun st2 ha=>hgo st2 ha
   |false=>cases h;exact bu.put rfl fun st2 ha=>hgo st2 ha
 ·cases h
theorem EN {d s:Nat}{cs:List AC}{v:AV}:(⟨[(d,v)],some (s,cs),none⟩:BP).apply st=(st.bO s (some cs)).put (some d) v:=rfl
theorem N8 {T:TypeId}{p:Operand}(ho:o.op= .load T p)(hm:gU an o=true)(hfree:bw E an X o st=true)(h:oP E an o T p st some=some st'):bu E Γ an X o st st':=by
 have hr:∀st2,cJ an X o st st2→st2.rd p=st.rd p:=fun st2 ha=>ha.rd (fun t ht=>by simpa [bp,ho] using ht)
 have htk:AP an o=false:=by
  simp only [gU,ho] at hm
  unfold AP
  cases hdd:o.dst with
  |none=>rfl
  |some d=>
   rw [hdd] at hm
   simp only [Bool.or_eq_true,Bool.not_eq_true'] at hm
   rcases hm with hm|hm
   ·simp only [hm,Bool.false_and]
   ·cases hmb:an.mb d with
    |none=>rw [hmb] at hm;cases hm
    |some _=>simp [hmb]
 unfold oP at h
 split at h
 ·rename_i sh s off hT hp
  simp only [bw,ho,hp,Bool.and_eq_true,Bool.not_eq_true'] at hfree
  split at h
  ·rename_i cs hb
   split at h
   ·rename_i hfit
    split at h
    ·rename_i d hd
     have hbx:∀st2,cJ an X o st st2→nth st2.boxes s=nth st.boxes s:=fun st2 ha=>ha.box s hfree.1.1
     cases hf:an.mv.contains d with
     |false=>
      simp only [hf,Bool.false_eq_true,if_false] at h
      cases h
      refine bu.put (by rw [hd]) fun st2 ha=> ?_
      simp only [aV,ho,oP,hT,hr st2 ha,hp,hbx st2 ha,hb,if_pos hfit,hd,hf,Bool.false_eq_true,if_false,ha.ep]
     |true=>
      simp only [hf,if_true] at h
      have hmb:an.mb d=some s:=by
       have:=hfree.1.2
       rw [hd] at this
       simp only [hf,Bool.not_true,Bool.false_or,beq_iff_eq] at this
       exact this
      cases h
      refine ⟨⟨[(d,.val sh.agg ((cs.drop off).take sh.ct.size))],some (s,aY cs off (au st.ep ((cs.drop off).take sh.ct.size))),none⟩,⟨fun x hx=> ?_,fun b hb'=> ?_,fun _ hh=>by cases hh⟩, ?_,fun st2 ha=> ?_⟩
      ·simp only [List.mem_singleton] at hx;subst hx;simp [writes,hd]
      ·cases hb';simp only [zt,ho,hd,hf,cond_true,hmb];simp
      ·rw [EN,hd]
      ·simp only [aV,ho,oP,hT,hr st2 ha,hp,hbx st2 ha,hb,if_pos hfit,hd,hf,if_true,ha.ep,EN]
    ·cases h
   ·cases h
  ·cases h
 ·rename_i sh fl e x i off hT hp
  rw [if_neg (by simp [htk])] at h
  split at h
  ·rename_i hl
   split at h
   ·rename_i hfit
    cases h
    refine bu.put rfl fun st2 ha=> ?_
    simp only [aV,ho,oP,hT,hr st2 ha,hp,ha.ep,htk,Bool.false_eq_true,if_false,if_pos hl,if_pos hfit]
   ·cases h
  ·rename_i hl
   have hroot:∀r t ep0,fl= .loc ep0 (some (r,t))→∀st2,cJ an X o st st2→st2.cc r=st.cc r:=by
    rintro r t ep0 rfl st2 ha
    simp only [bw,ho,hp,Bool.and_eq_true,Bool.or_eq_true] at hfree
    rcases hfree.1 with hq|hq
    ·exact absurd hq hl
    ·cases r with
     |slot b j=>simp only [AS.cc];rw [ha.er b (by simpa using hq)]
     |box b j=>simp only [AS.cc];rw [ha.box b (by simpa using hq)]
     |io j=>cases hq
   unfold we at h
   split at h
   ·rename_i ep0 r t
    split at h
    ·rename_i t' e' ys hrg
     split at h
     ·rename_i he
      split at h
      ·rename_i hc
       cases hi:idx (he▸ys:List _) i with
       |none=>rw [hi] at h;cases h
       |some y=>
        rw [hi] at h
        simp only [aa] at h
        cases h
        refine bu.put rfl fun st2 ha=> ?_
        simp only [aV,ho,oP,hT,hr st2 ha,hp,ha.ep,htk,Bool.false_eq_true,if_false,if_neg hl,we,hroot _ _ _ rfl st2 ha,hrg,dif_pos he,if_pos hc,hi,aa]
      ·cases h
     ·cases h
    ·cases h
   ·cases h
 ·cases h
theorem ER {x:Operand}(ho:o.op= .nilCheck x)(h:aV E Γ an o st some=some st'):bu E Γ an X o st st':=by
 have hr:∀st2,cJ an X o st st2→st2.rd x=st.rd x:=fun st2 ha=>ha.rd (fun t ht=>by simpa [bp,ho] using ht)
 simp only [aV,ho] at h
 split at h
 ·rename_i s off hx
  cases h
  refine bu.put rfl fun st2 ha=> ?_
  simp only [aV,ho,hr st2 ha,hx]
 ·rename_i fl e y i off hx
  cases h
  refine bu.put rfl fun st2 ha=> ?_
  simp only [aV,ho,hr st2 ha,hx]
 ·cases h
theorem FB {op:BinOp}{x y:AV}(h:(yi op x y fun c=>some (st.put o.dst (.one c)))=some st'):∃v,st'=st.put o.dst v∧∀st2:AS,(yi op x y fun c=>some (st2.put o.dst (.one c)))=some (st2.put o.dst v):=by
 have key:∀s:AS,(yi op x y fun c=>some (s.put o.dst (.one c)))=(yi op x y some).bind fun c=>some (s.put o.dst (.one c)):=fun s=>(xD op x y some _).symm
 rw [key st] at h
 cases hb:yi op x y some with
 |none=>rw [hb] at h;cases h
 |some c=>
  rw [hb] at h
  cases h
  exact ⟨_,rfl,fun st2=>by rw [key st2,hb];rfl⟩
theorem HA {op:BinOp}{b:Bool}(h:(wu op b fun c=>some (st.put o.dst (.one c)))=some st'):∃v,st'=st.put o.dst v∧∀st2:AS,(wu op b fun c=>some (st2.put o.dst (.one c)))=some (st2.put o.dst v):=by
 unfold wu at h
 split at h
 ·cases h;exact ⟨_,rfl,fun st2=>rfl⟩
 ·cases h;exact ⟨_,rfl,fun st2=>rfl⟩
 ·cases h
theorem Rh {op:BinOp}{T T':TypeId}{x y:Operand}(ho:o.op= .binOp op T x y T')(h:tM E o op T x y st some=some st'):bu E Γ an X o st st':=by
 have hr:∀st2,cJ an X o st st2→st2.rd x=st.rd x∧st2.rd y=st.rd y:=fun st2 ha=>
  ⟨ha.rd (fun t ht=>by simp [bp,ho,ht]),ha.rd (fun t ht=>by simp [bp,ho,ht])⟩
 unfold tM at h
 split at h
 ·rename_i a b hx hy
  split at h
  ·rename_i hT
   obtain ⟨v,rfl,hv⟩:=FB h
   refine bu.put rfl fun st2 ha=> ?_
   simp only [aV,ho,tM,(hr st2 ha).1,(hr st2 ha).2,hx,hy,if_pos hT]
   exact hv st2
  ·cases h
 ·rename_i xs ys hx hy
  split at h
  ·rename_i ls hq
   split at h
   ·rename_i hfit
    obtain ⟨v,rfl,hv⟩:=FB h
    refine bu.put rfl fun st2 ha=> ?_
    simp only [aV,ho,tM,(hr st2 ha).1,(hr st2 ha).2,hx,hy,hq,if_pos hfit]
    exact hv st2
   ·cases h
  ·cases h
 ·rename_i fl e xs hx hy
  split at h
  ·rename_i hT
   split at h
   ·cases h
   ·rename_i hlen
    obtain ⟨v,rfl,hv⟩:=HA h
    refine bu.put rfl fun st2 ha=> ?_
    simp only [aV,ho,tM,(hr st2 ha).1,(hr st2 ha).2,hx,hy,ha.ep,if_pos hT,if_neg hlen]
    exact hv st2
  ·cases h
 ·rename_i hx hy
  split at h
  ·rename_i hT
   obtain ⟨v,rfl,hv⟩:=HA h
   refine bu.put rfl fun st2 ha=> ?_
   simp only [aV,ho,tM,(hr st2 ha).1,(hr st2 ha).2,hx,hy,if_pos hT]
   exact hv st2
  ·cases h
 ·rename_i a b hn1 hn2 hn3 hn4
  obtain ⟨v,rfl,hv⟩:=FB h
  refine bu.put rfl fun st2 ha=> ?_
  simp only [aV,ho,tM,(hr st2 ha).1,(hr st2 ha).2]
  exact hv st2
theorem TF {op:UnOp}{T:TypeId}{x:Operand}(ho:o.op= .unOp op T x)(h:(Wm op (st.rd x) fun c=>some (st.put o.dst (.one c)))=some st'):bu E Γ an X o st st':=by
 have hr:∀st2,cJ an X o st st2→st2.rd x=st.rd x:=fun st2 ha=>ha.rd (fun t ht=>by simpa [bp,ho] using ht)
 have key:∀s:AS,(Wm op (st.rd x) fun c=>some (s.put o.dst (.one c)))=(Wm op (st.rd x) some).bind fun c=>some (s.put o.dst (.one c)):=fun s=>(MQ op (st.rd x) some _).symm
 rw [key st] at h
 cases hb:Wm op (st.rd x) some with
 |none=>rw [hb] at h;cases h
 |some c=>
  rw [hb] at h
  cases h
  refine bu.put rfl fun st2 ha=> ?_
  simp only [aV,ho,hr st2 ha]
  rw [key st2,hb];rfl
theorem LL {S:TypeId}{p:Operand}{f:Nat}(ho:o.op= .fieldAddr S p f)(h:sO E o S p f st some=some st'):bu E Γ an X o st st':=by
 have hr:∀st2,cJ an X o st st2→st2.rd p=st.rd p:=fun st2 ha=>ha.rd (fun t ht=>by simpa [bp,ho] using ht)
 unfold sO at h
 split at h
 ·rename_i hT hp
  split at h
  ·rename_i hf
   cases h
   refine bu.put rfl fun st2 ha=> ?_
   simp only [aV,ho,sO,hr st2 ha,hT,hp,hf]
  ·cases h
 ·rename_i hT hp
  split at h
  ·rename_i hf
   cases h
   refine bu.put rfl fun st2 ha=> ?_
   simp only [aV,ho,sO,hr st2 ha,hT,hp,hf]
  ·cases h
 ·cases h
theorem sF {v:AV}{s:AS}(h:v.now s.ep=true):v.fresh s=v:=by
 cases v with
 |tup vs=>rfl
 |val g cs=>
  simp only [AV.now,List.all_eq_true] at h
  simp only [AV.fresh]
  congr 1
  have:cs.map s.fresh=cs.map id:=List.map_congr_left fun c hc=>by
   have hn:=h c hc
   unfold AS.fresh
   split
   ·simp only [AC.now] at hn;rw [hn];rfl
   ·rfl
  rw [this,List.map_id]
theorem K0 {v:AV}{st st2:AS}(he:st2.ep=st.ep)(h:v.now st.ep=true∨∃g ep b j t e xs,v= .val g [.sl (.loc ep (some (.box b j,t))) e xs]∧nth st2.boxes b=nth st.boxes b):v.fresh st2=v.fresh st:=by
 rcases h with h|⟨g,ep,b,j,t,e,xs,rfl,hb⟩
 ·rw [sF h,sF (by rw [he];exact h)]
 ·simp only [AV.fresh,List.map_cons,List.map_nil]
  congr 2
  unfold AS.fresh
  simp only [AS.cc,he,hb]
theorem Ct {T:TypeId}{x i:Operand}(ho:o.op= .indexAddr T x i)(hfree:bw E an X o st=true)(h:fV E o T x i st some=some st'):bu E Γ an X o st st':=by
 have hr:∀st2,cJ an X o st st2→st2.rd x=st.rd x∧st2.rd i=st.rd i:=fun st2 ha=>
  ⟨ha.rd (fun t ht=>by simp [bp,ho,ht]),ha.rd (fun t ht=>by simp [bp,ho,ht])⟩
 have hf2:∀st2,cJ an X o st st2→(st.rd x).fresh st2=(st.rd x).fresh st:=fun st2 ha=>by
  refine K0 ha.ep ?_
  simp only [bw,ho,Bool.or_eq_true] at hfree
  rcases hfree with hn|hn
  ·exact .inl hn
  ·split at hn
   ·rename_i g ep b j t e xs hx
    exact .inr ⟨g,ep,b,j,t,e,xs,hx,ha.box b (by simpa using hn)⟩
   ·cases hn
 unfold fV at h
 split at h
 ·rename_i e' fl e xs k n hT hx hi
  split at h
  ·rename_i hc
   cases hix:idx xs n with
   |none=>rw [hix] at h;cases h
   |some y=>
    rw [hix] at h
    cases h
    refine bu.put rfl fun st2 ha=> ?_
    have hf3:=hf2 st2 ha
    rw [hx] at hf3
    simp only [aV,ho,fV,(hr st2 ha).1,(hr st2 ha).2,hf3,hT,hi,ha.ep,if_pos hc,hix,aa]
  ·cases h
 ·cases h
theorem LM {T:TypeId}{x i:Operand}(ho:o.op= .index T x i)(h:uz E o T x i st some=some st'):bu E Γ an X o st st':=by
 have hr:∀st2,cJ an X o st st2→st2.rd x=st.rd x∧st2.rd i=st.rd i:=fun st2 ha=>
  ⟨ha.rd (fun t ht=>by simp [bp,ho,ht]),ha.rd (fun t ht=>by simp [bp,ho,ht])⟩
 unfold uz at h
 split at h
 ·rename_i s k n hx hi
  split at h
  ·rename_i hc
   cases hix:idx s n with
   |none=>rw [hix] at h;cases h
   |some y=>
    rw [hix] at h
    cases h
    refine bu.put rfl fun st2 ha=> ?_
    simp only [aV,ho,uz,(hr st2 ha).1,(hr st2 ha).2,hx,hi,if_pos hc,hix,aa]
  ·cases h
 ·cases h
theorem bu.new {v:AV}(h:st'=(st.cp o.dst).put o.dst v)(h2:∀st2,cJ an X o st st2→aV E Γ an o st2 some=some ((st2.cp o.dst).put o.dst v)):bu E Γ an X o st st':=
 ⟨zr o v,Gf v,by rw [AR];exact h,fun st2 ha=>by rw [AR];exact h2 st2 ha⟩
theorem cJ.eN (ha:cJ an X o st st2):st2.eN o.dst=st.eN o.dst:=by
 funext j
 cases hd:o.dst with
 |none=>rfl
 |some d=>simp only [AS.eN,(ha.dst d hd).1]
theorem Ak {lo hi:Option Operand}{n:Nat}{f:AS→Int→Int→Option AS}(hs:∀st2,cJ an X o st st2→lo.map st2.rd=lo.map st.rd∧hi.map st2.rd=hi.map st.rd)
 (h:gm st lo hi n (f st)=some st'):∃a b,f st a b=some st'∧∀st2,cJ an X o st st2→gm st2 lo hi n (f st2)=f st2 a b:=by
 unfold gm at h
 split at h
 ·rename_i h1 h2
  exact ⟨_,_,h,fun st2 ha=>by simp only [gm,(hs st2 ha).1,(hs st2 ha).2,h1,h2]⟩
 ·rename_i h1 h2
  exact ⟨_,_,h,fun st2 ha=>by simp only [gm,(hs st2 ha).1,(hs st2 ha).2,h1,h2]⟩
 ·rename_i h1 h2
  exact ⟨_,_,h,fun st2 ha=>by simp only [gm,(hs st2 ha).1,(hs st2 ha).2,h1,h2]⟩
 ·rename_i h1 h2
  exact ⟨_,_,h,fun st2 ha=>by simp only [gm,(hs st2 ha).1,(hs st2 ha).2,h1,h2]⟩
 ·cases h
theorem LN {T:TypeId}{x:Operand}{lo hi:Option Operand}(ho:o.op= .slice T x lo hi none)(hm:gU an o=true)(hfree:bw E an X o st=true)(h:tD E an o T x lo hi st some=some st'):bu E Γ an X o st st':=by
 have hr:∀st2,cJ an X o st st2→st2.rd x=st.rd x:=fun st2 ha=>ha.rd (fun t ht=>by simp [bp,ho,ht])
 have hb:∀st2,cJ an X o st st2→lo.map st2.rd=lo.map st.rd∧hi.map st2.rd=hi.map st.rd:=by
  intro st2 ha
  constructor
  ·cases lo with
   |none=>rfl
   |some y=>simp only [Option.map_some];rw [ha.rd (fun t ht=>by simp [bp,ho,tmO,ht])]
  ·cases hi with
   |none=>rfl
   |some y=>simp only [Option.map_some];rw [ha.rd (fun t ht=>by simp [bp,ho,tmO,ht])]
 have hnow:(st.rd x).now st.ep=true:=by simpa [bw,ho] using hfree
 have hf2:∀st2,cJ an X o st st2→(st.rd x).fresh st2=st.rd x:=fun st2 ha=>sF (by rw [ha.ep];exact hnow)
 have htk:AP an o=false:=by simpa [gU,ho] using hm
 unfold tD at h
 rw [if_neg (by simp [htk]),sF hnow] at h
 split at h
 ·rename_i s hx
  split at h
  ·rename_i hT
   obtain ⟨a,b,h1,h2⟩:=Ak (f:=fun s0 a b=>aa (sub s a b) fun s'=>some (s0.put o.dst (.one (.str s')))) hb h
   cases hsub:sub s a b with
   |none=>rw [hsub] at h1;cases h1
   |some s'=>
    rw [hsub] at h1
    cases h1
    refine bu.put rfl fun st2 ha=> ?_
    have hf3:=hf2 st2 ha
    rw [hx] at hf3
    simp only [aV,ho,tD,htk,Bool.false_eq_true,if_false,hr st2 ha,hx,hf3,if_pos hT]
    rw [h2 st2 ha,hsub];rfl
  ·cases h
 ·rename_i fl e xs hx
  split at h
  ·rename_i hT
   obtain ⟨a,b,h1,h2⟩:=Ak (f:=fun s0 a b=>aa (sub xs a b) fun xs'=>some (s0.put o.dst (.one (.sl (EY an o fl a) e xs')))) hb h
   cases hsub:sub xs a b with
   |none=>rw [hsub] at h1;cases h1
   |some s'=>
    rw [hsub] at h1
    cases h1
    refine bu.put rfl fun st2 ha=> ?_
    have hf3:=hf2 st2 ha
    rw [hx] at hf3
    simp only [aV,ho,tD,htk,Bool.false_eq_true,if_false,hr st2 ha,hx,hf3,ha.ep,if_pos hT]
    rw [h2 st2 ha,hsub];rfl
  ·cases h
 ·cases h
theorem yL {args:List Operand}(hl:∀t,t∈JS args→t∈bp o)(ha:cJ an X o st st2):args.map st2.rd=args.map st.rd:=by
 apply List.map_congr_left
 intro x hx
 exact ha.rd (fun t ht=>hl t (by simp only [JS,List.mem_flatMap];exact ⟨x,hx,ht⟩))
theorem Rj {ts:Array TypeId}{args:Array Operand}(ho:o.op= .call {callee:= .builtin .len,args,argTypes:=ts})(h:EM E o ts.toList args.toList st some=some st'):bu E Γ an X o st st':=by
 have hr:∀st2,cJ an X o st st2→args.toList.map st2.rd=args.toList.map st.rd:=fun st2 ha=>yL (fun t ht=>by simp only [bp,ho];exact ht) ha
 unfold EM at h
 split at h
 ·rename_i t s hts hx
  split at h
  ·rename_i hT
   cases h
   refine bu.put rfl fun st2 ha=> ?_
   simp only [aV,ho,EM,hr st2 ha,hts,hx,if_pos hT]
  ·cases h
 ·rename_i t _ _ xs hts hx
  split at h
  ·rename_i hT
   cases h
   refine bu.put rfl fun st2 ha=> ?_
   simp only [aV,ho,EM,hr st2 ha,hts,hx,if_pos hT]
  ·cases h
 ·cases h
theorem Rl {ts:Array TypeId}{args:Array Operand}(ho:o.op= .call {callee:= .builtin .min,args,argTypes:=ts})(h:F0 o args.toList st some=some st'):bu E Γ an X o st st':=by
 have hr:∀st2,cJ an X o st st2→args.toList.map st2.rd=args.toList.map st.rd:=fun st2 ha=>yL (fun t ht=>by simp only [bp,ho];exact ht) ha
 unfold F0 at h
 split at h
 ·rename_i hx
  cases h
  refine bu.put rfl fun st2 ha=> ?_
  simp only [aV,ho,F0,hr st2 ha,hx]
 ·cases h
theorem Rk {ts:Array TypeId}{args:Array Operand}(ho:o.op= .call {callee:= .builtin .max,args,argTypes:=ts})(h:FZ o args.toList st some=some st'):bu E Γ an X o st st':=by
 have hr:∀st2,cJ an X o st st2→args.toList.map st2.rd=args.toList.map st.rd:=fun st2 ha=>yL (fun t ht=>by simp only [bp,ho];exact ht) ha
 unfold FZ at h
 split at h
 ·rename_i hx
  cases h
  refine bu.put rfl fun st2 ha=> ?_
  simp only [aV,ho,FZ,hr st2 ha,hx]
 ·cases h
theorem N7 (hΓ:∀f,(Γ f).io=false∧(Γ f).bx=false){f:Operand}{ts:Array TypeId}{args:Array Operand}(ho:o.op= .call {callee:= .value f,args,argTypes:=ts})(hfree:bw E an X o st=true)(h:wT Γ o f args.toList st some=some st'):bu E Γ an X o st st':=by
 have hr:∀st2,cJ an X o st st2→st2.rd f=st.rd f∧(args.toList.map fun x=>((st2.rd x).fresh st2).asArg st2.ep)=args.toList.map fun x=>((st.rd x).fresh st).asArg st.ep:=by
  intro st2 ha
  refine ⟨ha.rd (fun t ht=>by simp [bp,ho,ht]), ?_⟩
  apply List.map_congr_left
  intro x hx
  have hnow:(st.rd x).now st.ep=true:=by
   simp only [bw,ho,List.all_eq_true] at hfree
   exact hfree x hx
  rw [ha.rd (fun t ht=>by simp only [bp,ho,List.mem_append,JS,List.mem_flatMap];exact .inr ⟨x,hx,ht⟩),sF hnow,sF (s:=st2) (by rw [ha.ep];exact hnow),ha.ep]
 unfold wT at h
 split at h
 ·rename_i k hf
  rw [(hΓ k).2,(hΓ k).1] at h
  simp only [cond_false] at h
  cases hg:(Γ k).fn (args.toList.map fun x=>((st.rd x).fresh st).asArg st.ep) with
  |none=>rw [hg] at h;cases h
  |some y=>
   rw [hg] at h
   simp only [aa] at h
   cases hsel:(Γ k).sel y with
   |true=>
    rw [hsel] at h
    cases h
    refine bu.new rfl fun st2 ha=> ?_
    simp only [aV,ho,wT,(hr st2 ha).1,hf,(hΓ k).1,(hΓ k).2,cond_false]
    rw [(hr st2 ha).2,hg]
    simp only [aa,hsel,cond_true,ha.ep,ha.eN]
   |false=>
    rw [hsel] at h
    cases h
    refine bu.new rfl fun st2 ha=> ?_
    simp only [aV,ho,wT,(hr st2 ha).1,hf,(hΓ k).1,(hΓ k).2,cond_false]
    rw [(hr st2 ha).2,hg]
    simp only [aa,hsel,cond_false,ha.ep,ha.eN]
 ·cases h
theorem F1 {src dst:TypeId}{x:Operand}(ho:o.op= .convert src dst x)(h:fy E o src dst x st some=some st'):bu E Γ an X o st st':=by
 have hr:∀st2,cJ an X o st st2→st2.rd x=st.rd x:=fun st2 ha=>ha.rd (fun t ht=>by simpa [bp,ho] using ht)
 unfold fy at h
 split at h
 ·rename_i h1 h2 h3
  cases h
  refine bu.put rfl fun st2 ha=> ?_
  simp only [aV,ho,fy,hr st2 ha,h1,h2,h3]
 ·rename_i h1 h2 h3
  cases h
  refine bu.put rfl fun st2 ha=> ?_
  simp only [aV,ho,fy,hr st2 ha,h1,h2,h3]
 ·rename_i offs val s hno h1 h2 h3
  split at h
  ·rename_i hb
   unfold room at h
   split at h
   ·rename_i hrm
    cases h
    refine bu.new (v:= .one (.sl (.own (st.eN o.dst 0)) (.int .u8) (a7 s))) rfl fun st2 ha=> ?_
    have hval:∀k:AS→Option AS,fy E o src dst x st2 k=if E.bytes dst then room s.length (k (st2.jj o.dst (.int .u8) (a7 s))) else none:=by
     intro k
     unfold fy
     rw [hr st2 ha,h1,h2,h3]
     obtain ⟨ag,ct,of⟩:=val
     cases ag with
     |true=>rfl
     |false=>
      cases ct with
      |str=>exact (hno _ rfl).elim
      |_=>rfl
    simp only [aV,ho]
    rw [hval,if_pos hb,room,if_pos hrm,AS.jj,ha.eN]
   ·cases h
  ·cases h
 ·rename_i val offs fl xs h1 h2 h3
  split at h
  ·rename_i hb
   cases h
   refine bu.put rfl fun st2 ha=> ?_
   have hval:∀k:AS→Option AS,fy E o src dst x st2 k=if E.bytes src∧fl.live st2.ep then k (st2.put o.dst (.one (.str (bytesOf xs)))) else none:=by
    intro k
    unfold fy
    rw [hr st2 ha,h1,h2,h3]
    obtain ⟨ag,ct,of⟩:=val
    cases ag with
    |true=>rfl
    |false=>cases ct<;>rfl
   simp only [aV,ho]
   rw [hval,ha.ep,if_pos hb]
  ·cases h
 ·cases h
theorem BQ {d:Nat}{cs:List AC}{v:AV}:(⟨[(d,v)],some (d,cs),none⟩:BP).apply st=(st.bO d (some cs)).put (some d) v:=rfl
theorem LI {T:TypeId}(ho:o.op= .alloc T)(h:ve E o T st some=some st'):bu E Γ an X o st st':=by
 unfold ve at h
 split at h
 ·rename_i d sh hd hT
  split at h
  ·rename_i hb
   cases h
   refine ⟨⟨[(d,.one (.ptr d 0))],some (d,cellsOf sh.ct (.own none) sh.ct.zero),none⟩,⟨fun x hx=> ?_,fun b hb'=> ?_,fun _ hh=>by cases hh⟩, ?_,fun st2 ha=> ?_⟩
   ·simp only [List.mem_singleton] at hx;subst hx;simp [writes,hd]
   ·cases hb';simp [zt,ho,hd]
   ·rw [BQ,hd]
   ·simp only [aV,ho,ve,hd,hT,(ha.dst d hd).2,hb,BQ]
  ·cases h
 ·cases h
def hH (st:AS):Operand→List (Nat×AV)
 | .tmp t=>[(t,(st.get t).au st.ep)]
 |_=>[]
theorem uE (l:List AV)(a b:List (Nat×AV)):dT l (a++b)=dT (dT l a) b:=by
 induction a generalizing l with
 |nil=>rfl
 |cons x a ih=>exact ih _
def AS.dG (st:AS)(l:List (Nat×AV)):AS:={st with slots:=dT st.slots l}
theorem alm:st.dG []=st:=rfl
theorem kv (a b:List (Nat×AV)):st.dG (a++b)=(st.dG a).dG b:=by simp only [AS.dG,uE]
theorem alk (d:Nat)(v:AV):st.put (some d) v=st.dG [(d,v)]:=rfl
theorem u9 (x:Operand):(st.take x).2=st.dG (hH st x):=by cases x<;>rfl
theorem wk {x:Operand}(hep:st2.ep=st.ep)(h:∀t∈tm x,st2.get t=st.get t):(st2.take x).1=(st.take x).1∧(st2.take x).2=st2.dG (hH st x):=by
 cases x with
 |tmp t=>
  have:=h t (by simp [tm])
  refine ⟨this, ?_⟩
  rw [u9]
  simp only [hH,this,hep]
 |const v=>exact ⟨rfl,rfl⟩
 |func f=>exact ⟨rfl,rfl⟩
 |global g=>exact ⟨rfl,rfl⟩
theorem AQ {x:Operand}:∀y∈hH st x,y.1∈tm x:=by
 cases x<;>simp [hH,tm]
theorem N9 {x:Operand}(ho:o.op= .move x)(h:uW an o x st some=some st'):bu E Γ an X o st st':=by
 unfold uW at h
 cases hd:o.dst with
 |none=>rw [hd] at h;cases h
 |some d=>
  rw [hd] at h
  cases hf:an.mv.contains d with
  |false=>
   simp only [hf,Bool.false_eq_true,if_false] at h
   cases h
   refine bu.put (v:=st.rd x) (by rw [hd]) fun st2 ha=> ?_
   have hr:st2.rd x=st.rd x:=ha.rd (fun t ht=>by simpa [bp,ho] using ht)
   simp only [aV,ho,uW,hd,hf,Bool.false_eq_true,if_false,hr]
  |true=>
   simp only [hf,if_true] at h
   cases h
   have hr:∀st2,cJ an X o st st2→(st2.take x).1=(st.take x).1∧(st2.take x).2=st2.dG (hH st x):=fun st2 ha=>wk ha.ep fun t ht=>ha.get t (by simpa [bp,ho] using ht)
   refine ⟨⟨hH st x++[(d,(st.take x).1)],none,none⟩,⟨fun y hy=> ?_,fun _ hh=>(by cases hh),fun _ hh=>(by cases hh)⟩, ?_,fun st2 ha=> ?_⟩
   ·rcases List.mem_append.1 hy with hy|hy
    ·have:=AQ y hy
     have hf':d∈an.mv:=by simpa using hf
     simp [writes,xz,ho,hd,hf',bp,this]
    ·simp only [List.mem_singleton] at hy;subst hy;simp [writes,hd]
   ·rw [u9]
    show _=st.dG _
    rw [kv];rfl
   ·simp only [aV,ho,uW,hd,hf,if_true,(hr st2 ha).1,(hr st2 ha).2]
    show some ((st2.dG (hH st x)).put (some d) (st.take x).1)=some (st2.dG _)
    rw [kv];rfl
theorem KS {ep:Nat}{cs:List AC}(h:cs.all AC.cv=true):au ep cs=cs:=by
 rw [List.all_eq_true] at h
 unfold au
 have:cs.map (AC.borrow ep none)=cs.map id:=List.map_congr_left fun c hc=>by
  have:=h c hc
  cases c<;>first|rfl|(simp [AC.cv] at this)
 rw [this,List.map_id]
theorem Xl {s:AS}{t:Nat}{vs:List (Bool×List AC)}(h:s.get t= .tup vs):s.put (some t) (.tup vs)=s:=by
 cases s with
 |mk slots boxes ep iss io=>
  simp only [AS.put,AS.mk.injEq,and_true]
  rw [bL]
  apply List.ext_getElem?
  intro i
  rw [List.getElem?_set]
  split
  ·rename_i hd
   subst hd
   simp only [AS.get,bm] at h
   split
   ·rename_i hlt
    rw [List.getElem?_eq_getElem hlt] at h⊢
    simp only [Option.getD_some] at h
    rw [h]
   ·rename_i hge
    rw [List.getElem?_eq_none (Nat.le_of_not_lt hge)]
  ·rfl
theorem F2 {t i:Nat}(ho:o.op= .extract (.tmp t) i)(hfree:bw E an X o st=true)(h:fA o t i st some=some st'):bu E Γ an X o st st':=by
 have hr:∀st2,cJ an X o st st2→st2.get t=st.get t:=fun st2 ha=>ha.get t (by simp [bp,ho])
 unfold fA at h
 simp only [bw,ho] at hfree
 split at h
 ·rename_i vs hv
  rw [hv] at hfree
  split at h
  ·rename_i g cs hn
   simp only [hn] at hfree
   have hfl:cs.all AC.cv=true∨∃d,o.dst=some d∧an.mv.contains d=true:=by
    cases hd:o.dst with
    |none=>simp only [hd,Bool.or_false] at hfree;exact .inl hfree
    |some d=>
     simp only [hd,Bool.or_eq_true] at hfree
     rcases hfree with h|h
     ·exact .inl h
     ·exact .inr ⟨d,rfl,h⟩
   rcases hfl with hfree|⟨d,hd,hmv⟩
   rotate_left
   ·cases h
    refine ⟨⟨[(t,.tup (dj vs i (g,au 0 cs))),(d,.val g cs)],none,none⟩,⟨fun x hx=> ?_,(fun _ hb=>by cases hb),(fun _ hh=>by cases hh)⟩, ?_,fun st2 ha=> ?_⟩
    ·simp only [List.mem_cons,List.not_mem_nil,or_false] at hx
     rcases hx with rfl|rfl
     ·simp only [writes,xz,ho,hd,hmv,cond_true,bp];simp
     ·simp only [writes,hd];simp
    ·rw [hd];rfl
    ·have h2:st2.get t= .tup vs:=by rw [hr st2 ha,hv]
     simp only [aV,ho,fA,h2,hn,hd];rfl
   ·skip
    have hset:dj vs i (g,cs)=vs:=by
     rw [bL]
     rw [bm] at hn
     apply List.ext_getElem?
     intro k
     rw [List.getElem?_set]
     split
     ·rename_i hk;subst hk
      obtain ⟨hl,he⟩:=List.getElem?_eq_some_iff.1 hn
      rw [if_pos hl,hn]
     ·rfl
    have key:∀s:AS,s.get t= .tup vs→(s.put (some t) (.tup (dj vs i (g,au 0 cs))))=s:=fun s hs=>by rw [KS hfree,hset,Xl hs]
    rw [key st hv] at h
    cases h
    refine bu.put rfl fun st2 ha=> ?_
    have h2:st2.get t= .tup vs:=by rw [hr st2 ha,hv]
    simp only [aV,ho,fA,h2,hn]
    rw [key st2 h2]
  ·cases h
 ·cases h
def sC (st:AS):Operand→List (Nat×AV)
 | .tmp t=>[(t,(st.get t).au st.ep)]
 |_=>[]
theorem Ft (st:AS)(x:Operand):(st.take x).2=⟨dT st.slots (sC st x),st.boxes,st.ep,st.iss,st.io⟩:=by
 cases x<;>rfl
theorem LO {T:TypeId}{pp:Nat}{x:Operand}(ho:o.op= .store T (.tmp pp) x)(hd:o.dst=none)(hm:gU an o=true)(hfree:bw E an X o st=true)(h:pN E T (.tmp pp) x st some=some st'):bu E Γ an X o st st':=by
 have hr:∀st2,cJ an X o st st2→st2.rd (.tmp pp)=st.rd (.tmp pp):=fun st2 ha=>ha.rd (fun t ht=>by simp only [bp,ho,List.mem_append];exact .inl ht)
 have hsb:(an.sb pp).isNone=false:=by
  simp only [gU,ho,Bool.and_eq_true] at hm
  cases hb:an.sb pp with
  |none=>rw [hb] at hm;cases hm.1
  |some _=>rfl
 simp only [bw,ho,hsb,Bool.false_and,Bool.false_or] at hfree
 unfold pN at h
 split at h
 ·rename_i sh s off hT hp
  rw [hp] at hfree
  simp only [Bool.and_eq_true,Bool.not_eq_true',beq_iff_eq] at hfree
  split at h
  ·rename_i gg vs st1 htk
   have htk1:(st.take x).1= .val gg vs:=by rw [htk]
   have hst1:st1=⟨dT st.slots (sC st x),st.boxes,st.ep,st.iss,st.io⟩:=by rw [←Ft,htk]
   split at h
   ·rename_i cs hb
    split at h
    ·rename_i hlen
     split at h
     ·rename_i hfit
      cases h
      have hbx:∀st2,cJ an X o st st2→nth st2.boxes s=nth st.boxes s:=fun st2 ha=>ha.box s hfree.1
      refine ⟨⟨sC st x,some (s,aY cs off vs),none⟩,⟨fun y hy=> ?_,fun b hb'=> ?_,fun _ hh=>by cases hh⟩, ?_,fun st2 ha=> ?_⟩
      ·cases x with
       |tmp t=>
        simp only [sC,List.mem_singleton] at hy
        subst hy
        simp only [writes,xz,ho,cond_true,bp,hd]
        simp [tm]
       |_=>simp [sC] at hy
      ·cases hb';simp only [zt,ho,hfree.2];simp
      ·rw [hst1];rfl
      ·have hx2:(st2.take x).1=(st.take x).1∧sC st2 x=sC st x:=by
        cases x with
        |tmp t=>
         have hg:st2.get t=st.get t:=ha.get t (by simp [bp,ho,tm])
         simp only [AS.take,sC,hg,ha.ep];simp
        |const v=>exact ⟨rfl,rfl⟩
        |func f=>exact ⟨rfl,rfl⟩
        |global g=>exact ⟨rfl,rfl⟩
       have ht2:st2.take x=(.val gg vs,⟨dT st2.slots (sC st x),st2.boxes,st2.ep,st2.iss,st2.io⟩):=by
        rw [←hx2.2,←Ft,←htk1,←hx2.1]
       have hb2:(nth st2.boxes s).getD none=some cs:=by
        rw [hbx st2 ha]
        rw [hst1] at hb
        exact hb
       have hlate:sY an o=false:=by
        simp only [gU,ho,Bool.and_eq_true,Bool.not_eq_true'] at hm
        exact hm.2
       simp only [aV,ho,hd,hlate,Bool.false_eq_true,if_false,pN,hT,hr st2 ha,hp,ht2,hb2,if_pos hlen,if_pos hfit]
       rfl
     ·cases h
    ·cases h
   ·cases h
  ·cases h
 ·rename_i r _ _ _ _ _ _ hp
  rw [hp] at hfree
  cases r<;>simp at hfree
 ·cases h
theorem Jh {x:Operand}(ho:o.op= .assign x)(hm:gU an o=true)(h:nG E an o x st some=some st'):bu E Γ an X o st st':=by
 have hr:∀st2,cJ an X o st st2→(st2.take x).1=(st.take x).1∧(st2.take x).2=st2.dG (hH st x):=fun st2 ha=>wk ha.ep fun t ht=>ha.get t (by simpa [bp,ho] using ht)
 have hlate:sY an o=false:=by simpa [gU,ho] using hm
 unfold nG at h
 split at h
 ·rename_i st1 htk
  split at h
  ·rename_i e hT
   cases h
   refine bu.put rfl fun st2 ha=> ?_
   have h2:st2.take x=(.val false [.nilsl],st2.dG (hH st x)):=Prod.ext (by rw [(hr st2 ha).1,htk]) (hr st2 ha).2
   simp only [aV,ho,nG,hlate,Bool.false_eq_true,if_false,h2,hT]
  ·cases h
 ·rename_i v st1 hno htk
  cases h
  have hst1:st1=st.dG (hH st x):=by rw [←u9,htk]
  refine ⟨⟨hH st x++o.dst.toList.map fun d=>(d,v),none,none⟩,⟨fun y hy=> ?_,fun _ hh=>(by cases hh),fun _ hh=>(by cases hh)⟩, ?_,fun st2 ha=> ?_⟩
  ·rcases List.mem_append.1 hy with hy|hy
   ·have:=AQ y hy
    simp [writes,xz,ho,bp,this]
   ·obtain ⟨d,hd,rfl⟩:=List.mem_map.1 hy
    simp [writes,hd]
  ·rw [hst1]
   show _=st.dG _
   rw [kv]
   cases o.dst<;>rfl
  ·have h2:st2.take x=(v,st2.dG (hH st x)):=Prod.ext (by rw [(hr st2 ha).1,htk]) (hr st2 ha).2
   simp only [aV,ho,nG,hlate,Bool.false_eq_true,if_false,h2]
   show some ((st2.dG (hH st x)).put o.dst v)=some (st2.dG _)
   rw [kv]
   cases o.dst<;>rfl
theorem dE {α:Type}(l:List α)(i:Nat)(v:α)(t:Nat):nth (dj l i v) t=if i=t then (if i<l.length then some v else none) else nth l t:=by
 rw [bm,bL,bm,List.getElem?_set]
theorem E1 (l:List AV)(a:List (Nat×AV)):(dT l a).length=l.length:=by
 induction a generalizing l with
 |nil=>rfl
 |cons x a ih=>rw [dT,ih,bL,List.length_set]
theorem Oj {l l2:List AV}(a:List (Nat×AV))(hl:l2.length=l.length)(t:Nat)(h:nth l2 t=nth l t):nth (dT l2 a) t=nth (dT l a) t:=by
 induction a generalizing l l2 with
 |nil=>exact h
 |cons x a ih=>
  refine ih (by rw [bL,bL,List.length_set,List.length_set,hl]) ?_
  rw [dE,dE,hl,h]
theorem Oe {t:Nat}(h:st2.get t=st.get t)(hl:st2.slots.length=st.slots.length):nth st2.slots t=nth st.slots t:=by
 unfold AS.get at h
 rw [bm,bm] at h⊢
 rcases Nat.lt_or_ge t st.slots.length with hlt|hge
 ·rw [List.getElem?_eq_getElem hlt,List.getElem?_eq_getElem (by omega)] at h⊢
  simpa using h
 ·rw [List.getElem?_eq_none hge,List.getElem?_eq_none (by omega)]
def dN (st:AS):List Operand→List (Nat×AV)
 |[]=>[]
 |x::xs=>hH st x++dN (st.dG (hH st x)) xs
theorem tI:∀(xs:List Operand)(st:AS),∀y∈dN st xs,y.1∈JS xs
 |[],_,y,hy=>by cases hy
 |x::xs,st,y,hy=>by
  simp only [JS,List.flatMap_cons,List.mem_append]
  rcases List.mem_append.1 hy with hy|hy
  ·exact .inl (AQ y hy)
  ·exact .inr (tI xs _ y hy)
theorem uH:∀(xs:List Operand)(st st2:AS),st2.ep=st.ep→st2.slots.length=st.slots.length→(∀t∈JS xs,nth st2.slots t=nth st.slots t)→
 (bE st2 xs).1=(bE st xs).1∧(bE st2 xs).2=st2.dG (dN st xs)
 |[],st,st2,_,_,_=>⟨rfl,rfl⟩
 |x::xs,st,st2,hep,hl,hg=>by
  have hx:∀t∈tm x,st2.get t=st.get t:=fun t ht=>by unfold AS.get;rw [hg t (by simp [JS,ht])]
  obtain ⟨h1,h2⟩:=wk (st:=st) (st2:=st2) hep hx
  have h3:=u9 (st:=st) x
  obtain ⟨k1,k2⟩:=uH xs (st.dG (hH st x)) (st2.dG (hH st x)) hep (by simp only [AS.dG,E1,hl])
   (fun t ht=>Oj _ hl t (hg t (by simp only [JS,List.flatMap_cons,List.mem_append];exact .inr ht)))
  have e1:bE st (x::xs)=((st.take x).1::(bE (st.take x).2 xs).1,(bE (st.take x).2 xs).2):=rfl
  have e2:bE st2 (x::xs)=((st2.take x).1::(bE (st2.take x).2 xs).1,(bE (st2.take x).2 xs).2):=rfl
  rw [e1,e2,h1,h2,h3]
  refine ⟨by rw [k1], ?_⟩
  show (bE (st2.dG (hH st x)) xs).2=_
  rw [k2,dN,kv]
theorem wj (xs:List Operand):(bE st xs).2=st.dG (dN st xs):=(uH xs st st rfl rfl (fun _ _=>rfl)).2
theorem cJ.bE (ha:cJ an X o st st2){xs:List Operand}(hx:∀t∈JS xs,t∈bp o):(bE st2 xs).1=(Dn.bE st xs).1∧(Dn.bE st2 xs).2=st2.dG (dN st xs):=
 uH xs st st2 ha.ep ha.len fun t ht=>Oe (ha.get t (hx t ht)) ha.len
theorem LJ {T:TypeId}{parts:Array (Nat×Operand)}(ho:o.op= .build T parts)(h:uu E o T parts.toList st some=some st'):bu E Γ an X o st st':=by
 have hl:∀t∈JS (parts.toList.map (·.2)),t∈bp o:=fun t ht=>by simp only [bp,ho];exact ht
 unfold uu at h
 split at h
 ·rename_i ct offs hT
  split at h
  rename_i vs st1 htk
  have hst1:st1=st.dG (dN st (parts.toList.map (·.2))):=by rw [←wj,htk]
  split at h
  ·rename_i cs hb
   cases h
   refine ⟨⟨dN st (parts.toList.map (·.2))++o.dst.toList.map fun d=>(d,.val true cs),none,none⟩,⟨fun y hy=> ?_,fun _ hh=>(by cases hh),fun _ hh=>(by cases hh)⟩, ?_,fun st2 ha=> ?_⟩
   ·rcases List.mem_append.1 hy with hy|hy
    ·have:=hl _ (tI _ _ y hy)
     simp [writes,xz,ho,this]
    ·obtain ⟨d,hd,rfl⟩:=List.mem_map.1 hy
     simp [writes,hd]
   ·rw [hst1]
    show _=st.dG _
    rw [kv]
    cases o.dst<;>rfl
   ·obtain ⟨k1,k2⟩:=ha.bE hl
    have h2:bE st2 (parts.toList.map (·.2))=(vs,st2.dG (dN st (parts.toList.map (·.2)))):=Prod.ext (by rw [k1,htk]) k2
    simp only [aV,ho,uu,hT,h2,hb]
    show some ((st2.dG _).put o.dst _)=some (st2.dG _)
    rw [kv]
    cases o.dst<;>rfl
  ·cases h
 ·cases h
theorem bu.adI {tl:List (Nat×AV)}{v:AV}(ht:xz an o=true)(hl:∀y∈tl,y.1∈bp o)(h:st'=((st.dG tl).cp o.dst).put o.dst v)
 (h2:∀st2,cJ an X o st st2→aV E Γ an o st2 some=some (((st2.dG tl).cp o.dst).put o.dst v)):bu E Γ an X o st st':=by
 have key:∀s:AS,(⟨tl++o.dst.toList.map fun d=>(d,v),none,o.dst⟩:BP).apply s=((s.dG tl).cp o.dst).put o.dst v:=by
  intro s
  cases o.dst with
  |none=>simp only [BP.apply,Option.toList,List.map_nil,List.append_nil,AS.dG,AS.cp,AS.put]
  |some d=>simp only [BP.apply,Option.toList,List.map_cons,List.map_nil,uE,AS.dG,AS.cp,AS.put,dT]
 refine ⟨⟨tl++o.dst.toList.map fun d=>(d,v),none,o.dst⟩,⟨fun y hy=> ?_,fun _ hh=>(by cases hh),fun d hh=>hh⟩,by rw [key];exact h,fun st2 ha=>by rw [key];exact h2 st2 ha⟩
 rcases List.mem_append.1 hy with hy|hy
 ·simp [writes,ht,hl y hy]
 ·obtain ⟨d,hd,rfl⟩:=List.mem_map.1 hy
  simp [writes,hd]
theorem sH {tl:List (Nat×AV)}{d:Option Nat}:(st.dG tl).eN d=st.eN d:=rfl
theorem Bx {T:TypeId}{len:Nat}{parts:Array (Nat×Operand)}(ho:o.op= .buildSlice T len parts)(h:fj E o T len parts.toList st some=some st'):bu E Γ an X o st st':=by
 have hl:∀t∈JS (parts.toList.map (·.2)),t∈bp o:=fun t ht=>by simp only [bp,ho];exact ht
 unfold fj at h
 split at h
 ·rename_i e hT
  split at h
  ·rename_i hc
   split at h
   rename_i vs st1 htk
   have hst1:st1=st.dG (dN st (parts.toList.map (·.2))):=by rw [←wj,htk]
   split at h
   ·rename_i xs hb
    cases h
    refine bu.adI (tl:=dN st (parts.toList.map (·.2))) (v:= .one (.sl (.own (st.eN o.dst 0)) e xs)) (by simp [xz,ho]) (fun y hy=>hl _ (tI _ _ y hy)) ?_ fun st2 ha=> ?_
    ·rw [hst1,AS.jj,sH]
    ·obtain ⟨k1,k2⟩:=ha.bE hl
     have h2:bE st2 (parts.toList.map (·.2))=(vs,st2.dG (dN st (parts.toList.map (·.2)))):=Prod.ext (by rw [k1,htk]) k2
     simp only [aV,ho,fj,hT,h2,hb,if_pos hc]
     rw [AS.jj,sH,ha.eN]
   ·cases h
  ·cases h
 ·cases h
theorem Cu {T:TypeId}{n c:Operand}(ho:o.op= .makeSlice T n c)(h:ij E o T n c st some=some st'):bu E Γ an X o st st':=by
 have hr:∀st2,cJ an X o st st2→st2.rd n=st.rd n∧st2.rd c=st.rd c:=fun st2 ha=>
  ⟨ha.rd (fun t ht=>by simp [bp,ho,ht]),ha.rd (fun t ht=>by simp [bp,ho,ht])⟩
 unfold ij at h
 split at h
 ·rename_i e len cap hT hn hc
  split at h
  ·rename_i hlc
   unfold room at h
   split at h
   ·rename_i hrm
    cases h
    refine bu.new (v:= .one (.sl (.own (st.eN o.dst 0)) e (List.replicate len.toNat e.zero))) rfl fun st2 ha=> ?_
    simp only [aV,ho,ij,(hr st2 ha).1,(hr st2 ha).2,hT,hn,hc,if_pos hlc,room,if_pos hrm,AS.jj,ha.eN]
   ·cases h
  ·cases h
 ·cases h
theorem Jg {ts:Array TypeId}{args:Array Operand}(ho:o.op= .call {callee:= .builtin .append,args,argTypes:=ts})(h:pR E o ts.toList args.toList st some=some st'):bu E Γ an X o st st':=by
 have hlk:∀t∈JS args.toList,t∈bp o:=fun t ht=>by simp only [bp,ho];exact ht
 unfold pR at h
 split at h
 ·rename_i t t' s x hts hargs
  have hl:∀u∈JS [s,x],u∈bp o:=by rw [←hargs];exact hlk
  have hboth:∀st2,cJ an X o st st2→(st2.take s).1=(st.take s).1∧((st2.take s).2.take x).1=((st.take s).2.take x).1∧((st2.take s).2.take x).2=st2.dG (dN st [s,x]):=by
   intro st2 ha
   obtain ⟨k1,k2⟩:=ha.bE hl
   simp only [Dn.bE,List.cons.injEq,and_true] at k1 k2
   exact ⟨k1.1,k1.2,k2⟩
  have hself:((st.take s).2.take x).2=st.dG (dN st [s,x]):=wj (st:=st) [s,x]
  split at h
  ·rename_i tag e xs st1 htk1
   split at h
   ·rename_i fl e' ys st1' htk2
    split at h
    ·rename_i he
     subst he
     split at h
     ·rename_i hc
      unfold room at h
      split at h
      ·rename_i hrm
       cases h
       have hst1:(st.take s).2=st1:=by rw [htk1]
       have hst2:st1'=st.dG (dN st [s,x]):=by rw [←hself,hst1,htk2]
       refine bu.adI (tl:=dN st [s,x]) (v:= .one (.sl (.own (st.eN o.dst 0)) e' (xs++ys))) (by simp [xz,ho]) (fun y hy=>hl _ (tI _ _ y hy)) ?_ fun st2 ha=> ?_
       ·rw [hst2,AS.jj,sH]
       ·obtain ⟨k1,k2,k3⟩:=hboth st2 ha
        have e1:st2.take s=(.val false [.sl (.own tag) e' xs],(st2.take s).2):=Prod.ext (by rw [k1,htk1]) rfl
        have e2:(st2.take s).2.take x=(.val false [.sl fl e' ys],st2.dG (dN st [s,x])):=Prod.ext (by rw [k2,hst1,htk2]) k3
        simp only [aV,ho,pR,hts,hargs]
        rw [e1]
        simp only
        rw [e2]
        simp only [dite_true,ha.ep,if_pos hc,room,if_pos hrm,AS.jj,sH,ha.eN]
      ·cases h
     ·cases h
    ·cases h
   ·rename_i sx st1' htk2
    split at h
    ·rename_i he
     subst he
     split at h
     ·rename_i hc
      unfold room at h
      split at h
      ·rename_i hrm
       cases h
       have hst1:(st.take s).2=st1:=by rw [htk1]
       have hst2:st1'=st.dG (dN st [s,x]):=by rw [←hself,hst1,htk2]
       refine bu.adI (tl:=dN st [s,x]) (v:= .one (.sl (.own (st.eN o.dst 0)) (.int .u8) (xs++a7 sx))) (by simp [xz,ho]) (fun y hy=>hl _ (tI _ _ y hy)) ?_ fun st2 ha=> ?_
       ·rw [hst2,AS.jj,sH]
       ·obtain ⟨k1,k2,k3⟩:=hboth st2 ha
        have e1:st2.take s=(.val false [.sl (.own tag) (.int .u8) xs],(st2.take s).2):=Prod.ext (by rw [k1,htk1]) rfl
        have e2:(st2.take s).2.take x=(.val false [.str sx],st2.dG (dN st [s,x])):=Prod.ext (by rw [k2,hst1,htk2]) k3
        simp only [aV,ho,pR,hts,hargs]
        rw [e1]
        simp only
        rw [e2]
        simp only [dite_true,if_pos hc,room,if_pos hrm,AS.jj,sH,ha.eN]
      ·cases h
     ·cases h
    ·cases h
   ·cases h
  ·cases h
 ·cases h
theorem Ri {T:TypeId}{x:Operand}(ho:o.op= .box T x)(h:HL o x st some=some st'):bu E Γ an X o st st':=by
 have hr:∀st2,cJ an X o st st2→(st2.take x).1=(st.take x).1∧(st2.take x).2=st2.dG (hH st x):=fun st2 ha=>wk ha.ep fun t ht=>ha.get t (by simpa [bp,ho] using ht)
 unfold HL at h
 split at h
 ·rename_i d g cs st1 hd htk
  have hst1:st1=st.dG (hH st x):=by rw [←u9,htk]
  split at h
  ·rename_i hb
   split at h
   ·rename_i hs
    cases h
    have hb0:nth st.boxes d=some none:=by rw [hst1] at hb;exact hb
    have key:∀s:AS,(⟨hH st x++[(d,.one (.ptr d 0))],some (d,cs),none⟩:BP).apply s=((s.dG (hH st x)).bO d (some cs)).put (some d) (.one (.ptr d 0)):=by
     intro s
     simp only [BP.apply,uE,AS.dG,AS.bO,AS.put,dT]
    refine ⟨⟨hH st x++[(d,.one (.ptr d 0))],some (d,cs),none⟩,⟨fun y hy=> ?_,fun b hb'=> ?_,fun _ hh=>(by cases hh)⟩, ?_,fun st2 ha=> ?_⟩
    ·rcases List.mem_append.1 hy with hy|hy
     ·have:=AQ y hy
      simp [writes,xz,ho,bp,this]
     ·simp only [List.mem_singleton] at hy;subst hy;simp [writes,hd]
    ·cases hb';simp [zt,ho,hd]
    ·rw [key,hst1,hd]
    ·have h2:st2.take x=(.val g cs,st2.dG (hH st x)):=Prod.ext (by rw [(hr st2 ha).1,htk]) (hr st2 ha).2
     have hb2:nth (st2.dG (hH st x)).boxes d=some none:=by show nth st2.boxes d=_;rw [(ha.dst d hd).2];exact hb0
     simp only [aV,ho,HL,hd,h2,hb2,if_pos hs,key]
   ·cases h
  ·cases h
 ·cases h
theorem Fl (hΓ:∀f,(Γ f).io=false∧(Γ f).bx=false)(hm:gU an o=true)(hfree:bw E an X o st=true)(h:aV E Γ an o st some=some st'):bu E Γ an X o st st':=by
 have h0:=h
 unfold aV at h
 split at h
 ·rename_i ho;exact N9 ho h
 ·rename_i ho
  have hlate:sY an o=false:=by simpa [gU,ho] using hm
  rw [if_neg (by simp [hlate])] at h
  exact Jh ho hm h
 ·rename_i ho;exact Oa ho h
 ·rename_i ho;exact LI ho h
 ·rename_i ho;exact Ri ho h
 ·rename_i ho;exact N8 ho hm hfree h
 ·rename_i T p x ho
  split at h
  ·rename_i hd
   cases p with
   |tmp pp=>
    have hlate:sY an o=false:=by
     simp only [gU,ho,Bool.and_eq_true,Bool.not_eq_true'] at hm
     exact hm.2
    rw [if_neg (by simp [hlate])] at h
    exact LO ho hd hm hfree h
   |const v=>simp [gU,ho] at hm
   |func f=>simp [gU,ho] at hm
   |global g=>simp [gU,ho] at hm
  ·cases h
 ·rename_i ho;exact ER ho h0
 ·rename_i ho;exact Rh ho h
 ·rename_i ho;exact TF ho h
 ·rename_i ho;exact LL ho h
 ·rename_i ho;exact Ct ho hfree h
 ·rename_i ho;exact LM ho h
 ·rename_i ho;exact LJ ho h
 ·rename_i ho;exact Bx ho h
 ·rename_i ho;exact Cu ho h
 ·rename_i ho;exact LN ho hm hfree h
 ·rename_i ho;simp [gU,ho] at hm
 ·rename_i ho;simp [gU,ho] at hm
 ·rename_i ho;exact F1 ho h
 ·rename_i ho;exact F2 ho hfree h
 ·rename_i ho;exact Rj ho h
 ·rename_i ho;exact Rl ho h
 ·rename_i ho;exact Rk ho h
 ·rename_i ho;exact Jg ho h
 ·rename_i ho;exact N7 hΓ ho hfree h
 ·cases h
end Go.Dn
