import Derived.Test.YtmpbhbfdoopggaaGreatDnMask
/- What an operation looks at and what it turns: for regions whose order is drawn. -/
namespace Go.Dn
structure u0 where
 slots:List (Nat×AV):=[]
 box:Option (Nat×List AC):=none
 iss:Option Nat:=none
def cU (l:List AV):List (Nat×AV)→List AV
 |[]=>l
 |x::r=>cU (ch l x.1 x.2) r
def u0.apply (u:u0)(st:AS):AS:=
 ⟨cU st.slots u.slots,(match u.box with|some b=>ch st.boxes b.1 (some b.2)|none=>st.boxes),st.ep,(match u.iss with|some d=>ch st.iss d true|none=>st.iss),st.io⟩
structure bQ (an:An) (X:List Nat) (o:Oper) (st st2:AS):Prop where
 len:st2.slots.length=st.slots.length
 get:∀t∈aV o,st2.get t=st.get t
 ep:st2.ep=st.ep
 dst:∀d,o.dst=some d→nth st2.iss d=nth st.iss d∧nth st2.boxes d=nth st.boxes d
 box:∀s,X.contains s=false→nth st2.boxes s=nth st.boxes s
 er:∀t∈Zu an o,st2.get t=st.get t
structure u0.sR (an:An) (u:u0) (o:Oper):Prop where
 slots:∀x∈u.slots,x.1∈writes an o
 box:∀b,u.box=some b→b.1∈tq an o
 iss:∀d,u.iss=some d→o.dst=some d
variable {E:Env} {Γ:aJ} {an:An} {X:List Nat} {o:Oper} {st st2 st':AS}
theorem Kk {x:Operand}(hep:st2.ep=st.ep)(h:∀t∈tm x,st2.get t=st.get t):st2.rd x=st.rd x:=by
 cases x with
 |tmp t=>simp only [AS.rd,hep,h t (by simp [tm])]
 |const v=>rfl
 |func f=>rfl
 |global g=>rfl
def aX (E:Env)(Γ:aJ)(an:An)(X:List Nat)(o:Oper)(st st':AS):Prop:=
 ∃u:u0,u.sR an o∧st'=u.apply st∧∀st2,bQ an X o st st2→aI E Γ an o st2 some=some (u.apply st2)
def qC (o:Oper)(v:AV):u0:={slots:=o.dst.toList.map fun d=>(d,v)}
theorem iB (v:AV):(qC o v).apply st=st.put o.dst v:=by
 unfold qC u0.apply AS.put
 cases o.dst<;>rfl
theorem pb (v:AV):(qC o v).sR an o:=by
 refine ⟨fun x hx=> ?_,fun b hb=>by simp [qC] at hb,fun d hd=>by simp [qC] at hd⟩
 simp only [qC,List.mem_map] at hx
 obtain ⟨d,hd,rfl⟩:=hx
 simp [writes,hd]
def tp (o:Oper)(v:AV):u0:={slots:=o.dst.toList.map fun d=>(d,v),iss:=o.dst}
theorem uj (v:AV):(tp o v).apply st=(st.bE o.dst).put o.dst v:=by
 unfold tp u0.apply AS.put AS.bE
 cases o.dst<;>rfl
theorem yQ (v:AV):(tp o v).sR an o:=by
 refine ⟨fun x hx=> ?_,fun b hb=>by simp [tp] at hb,fun d hd=>by simpa [tp] using hd⟩
 simp only [tp,List.mem_map] at hx
 obtain ⟨d,hd,rfl⟩:=hx
 simp [writes,hd]
theorem aX.put {v:AV}(h:st'=st.put o.dst v)(h2:∀st2,bQ an X o st st2→aI E Γ an o st2 some=some (st2.put o.dst v)):aX E Γ an X o st st':=
 ⟨qC o v,pb v,by rw [iB];exact h,fun st2 ha=>by rw [iB];exact h2 st2 ha⟩
theorem bQ.rd (ha:bQ an X o st st2){x:Operand}(hx:∀t∈tm x,t∈aV o):st2.rd x=st.rd x:=Kk ha.ep fun t ht=>ha.get t (hx t ht)
theorem Fy {c x y:Operand}(ho:o.op= .pick c x y)(h:rz o c x y st some=some st'):aX E Γ an X o st st':=by
 have hr:∀st2,bQ an X o st st2→st2.rd c=st.rd c∧st2.rd x=st.rd x∧st2.rd y=st.rd y:=fun st2 ha=>
  ⟨ha.rd (fun t ht=>by simp [aV,ho,ht]),ha.rd (fun t ht=>by simp [aV,ho,ht]),ha.rd (fun t ht=>by simp [aV,ho,ht])⟩
 unfold rz at h
 split at h
 ·rename_i t hc
  split at h
  ·rename_i a b hx hy
   cases h
   refine aX.put rfl fun st2 ha=> ?_
   obtain ⟨h1,h2,h3⟩:=hr st2 ha
   simp only [aI,ho,rz,h1,h2,h3,hc,hx,hy]
  ·rename_i va vb hno
   have hgo:∀st2,bQ an X o st st2→aI E Γ an o st2 some=cond t (some (st2.put o.dst (st.rd x))) (some (st2.put o.dst (st.rd y))):=by
    intro st2 ha
    obtain ⟨h1,h2,h3⟩:=hr st2 ha
    simp only [aI,ho,rz,h1,h2,h3,hc]
   cases t with
   |true=>cases h;exact aX.put rfl fun st2 ha=>hgo st2 ha
   |false=>cases h;exact aX.put rfl fun st2 ha=>hgo st2 ha
 ·cases h
theorem xr {d s:Nat}{cs:List AC}{v:AV}:(⟨[(d,v)],some (s,cs),none⟩:u0).apply st=(st.bq s (some cs)).put (some d) v:=rfl
theorem Fw {T:TypeId}{p:Operand}(ho:o.op= .load T p)(hm:eO an o=true)(hfree:aZ E an X o st=true)(h:kW E an o T p st some=some st'):aX E Γ an X o st st':=by
 have hr:∀st2,bQ an X o st st2→st2.rd p=st.rd p:=fun st2 ha=>ha.rd (fun t ht=>by simpa [aV,ho] using ht)
 have htk:uh an o=false:=by
  simp only [eO,ho] at hm
  unfold uh
  cases hdd:o.dst with
  |none=>rfl
  |some d=>
   rw [hdd] at hm
   simp only [Bool.or_eq_true,Bool.not_eq_true'] at hm
   rcases hm with hm|hm
   ·simp only [hm,Bool.false_and]
   ·cases hmb:an.mb d with
    |none=>rw [hmb] at hm;cases hm
    |some _=>simp [hmb]
 unfold kW at h
 split at h
 ·rename_i sh s off hT hp
  simp only [aZ,ho,hp,Bool.and_eq_true,Bool.not_eq_true'] at hfree
  split at h
  ·rename_i cs hb
   split at h
   ·rename_i hfit
    split at h
    ·rename_i d hd
     have hbx:∀st2,bQ an X o st st2→nth st2.boxes s=nth st.boxes s:=fun st2 ha=>ha.box s hfree.1.1
     cases hf:an.mv.contains d with
     |false=>
      simp only [hf,Bool.false_eq_true,if_false] at h
      cases h
      refine aX.put (by rw [hd]) fun st2 ha=> ?_
      simp only [aI,ho,kW,hT,hr st2 ha,hp,hbx st2 ha,hb,if_pos hfit,hd,hf,Bool.false_eq_true,if_false,ha.ep]
     |true=>
      simp only [hf,if_true] at h
      have hmb:an.mb d=some s:=by
       have:=hfree.1.2
       rw [hd] at this
       simp only [hf,Bool.not_true,Bool.false_or,beq_iff_eq] at this
       exact this
      cases h
      refine ⟨⟨[(d,.val sh.agg ((cs.drop off).take sh.ct.size))],some (s,aG cs off (ae st.ep ((cs.drop off).take sh.ct.size))),none⟩,⟨fun x hx=> ?_,fun b hb'=> ?_,fun _ hh=>by cases hh⟩, ?_,fun st2 ha=> ?_⟩
      ·simp only [List.mem_singleton] at hx;subst hx;simp [writes,hd]
      ·cases hb';simp only [tq,ho,hd,hf,cond_true,hmb];simp
      ·rw [xr,hd]
      ·simp only [aI,ho,kW,hT,hr st2 ha,hp,hbx st2 ha,hb,if_pos hfit,hd,hf,if_true,ha.ep,xr]
    ·cases h
   ·cases h
  ·cases h
 ·rename_i sh fl e x i off hT hp
  rw [if_neg (by simp [htk])] at h
  split at h
  ·rename_i hl
   split at h
   ·rename_i hfit
    cases h
    refine aX.put rfl fun st2 ha=> ?_
    simp only [aI,ho,kW,hT,hr st2 ha,hp,ha.ep,htk,Bool.false_eq_true,if_false,if_pos hl,if_pos hfit]
   ·cases h
  ·rename_i hl
   have hroot:∀r t ep0,fl= .loc ep0 (some (r,t))→∀st2,bQ an X o st st2→st2.bz r=st.bz r:=by
    rintro r t ep0 rfl st2 ha
    simp only [aZ,ho,hp,Bool.and_eq_true,Bool.or_eq_true] at hfree
    rcases hfree.1 with hq|hq
    ·exact absurd hq hl
    ·cases r with
     |slot b j=>simp only [AS.bz];rw [ha.er b (by simpa using hq)]
     |box b j=>simp only [AS.bz];rw [ha.box b (by simpa using hq)]
     |io j=>cases hq
   unfold qw at h
   split at h
   ·rename_i ep0 r t
    split at h
    ·rename_i t' e' ys hrg
     split at h
     ·rename_i he
      split at h
      ·rename_i hc
       cases hi:idx (he▸ys:List _) i with
       |none=>rw [hi] at h;cases h
       |some y=>
        rw [hi] at h
        simp only [aa] at h
        cases h
        refine aX.put rfl fun st2 ha=> ?_
        simp only [aI,ho,kW,hT,hr st2 ha,hp,ha.ep,htk,Bool.false_eq_true,if_false,if_neg hl,qw,hroot _ _ _ rfl st2 ha,hrg,dif_pos he,if_pos hc,hi,aa]
      ·cases h
     ·cases h
    ·cases h
   ·cases h
 ·cases h
theorem xx {x:Operand}(ho:o.op= .nilCheck x)(h:aI E Γ an o st some=some st'):aX E Γ an X o st st':=by
 have hr:∀st2,bQ an X o st st2→st2.rd x=st.rd x:=fun st2 ha=>ha.rd (fun t ht=>by simpa [aV,ho] using ht)
 simp only [aI,ho] at h
 split at h
 ·rename_i s off hx
  cases h
  refine aX.put rfl fun st2 ha=> ?_
  simp only [aI,ho,hr st2 ha,hx]
 ·rename_i fl e y i off hx
  cases h
  refine aX.put rfl fun st2 ha=> ?_
  simp only [aI,ho,hr st2 ha,hx]
 ·cases h
theorem yl {op:BinOp}{x y:AV}(h:(sw op x y fun c=>some (st.put o.dst (.one c)))=some st'):∃v,st'=st.put o.dst v∧∀st2:AS,(sw op x y fun c=>some (st2.put o.dst (.one c)))=some (st2.put o.dst v):=by
 have key:∀s:AS,(sw op x y fun c=>some (s.put o.dst (.one c)))=(sw op x y some).bind fun c=>some (s.put o.dst (.one c)):=fun s=>(rT op x y some _).symm
 rw [key st] at h
 cases hb:sw op x y some with
 |none=>rw [hb] at h;cases h
 |some c=>
  rw [hb] at h
  cases h
  exact ⟨_,rfl,fun st2=>by rw [key st2,hb];rfl⟩
theorem zS {op:BinOp}{b:Bool}(h:(qH op b fun c=>some (st.put o.dst (.one c)))=some st'):∃v,st'=st.put o.dst v∧∀st2:AS,(qH op b fun c=>some (st2.put o.dst (.one c)))=some (st2.put o.dst v):=by
 unfold qH at h
 split at h
 ·cases h;exact ⟨_,rfl,fun st2=>rfl⟩
 ·cases h;exact ⟨_,rfl,fun st2=>rfl⟩
 ·cases h
theorem H3 {op:BinOp}{T T':TypeId}{x y:Operand}(ho:o.op= .binOp op T x y T')(h:oo E o op T x y st some=some st'):aX E Γ an X o st st':=by
 have hr:∀st2,bQ an X o st st2→st2.rd x=st.rd x∧st2.rd y=st.rd y:=fun st2 ha=>
  ⟨ha.rd (fun t ht=>by simp [aV,ho,ht]),ha.rd (fun t ht=>by simp [aV,ho,ht])⟩
 unfold oo at h
 split at h
 ·rename_i a b hx hy
  split at h
  ·rename_i hT
   obtain ⟨v,rfl,hv⟩:=yl h
   refine aX.put rfl fun st2 ha=> ?_
   simp only [aI,ho,oo,(hr st2 ha).1,(hr st2 ha).2,hx,hy,if_pos hT]
   exact hv st2
  ·cases h
 ·rename_i xs ys hx hy
  split at h
  ·rename_i ls hq
   split at h
   ·rename_i hfit
    obtain ⟨v,rfl,hv⟩:=yl h
    refine aX.put rfl fun st2 ha=> ?_
    simp only [aI,ho,oo,(hr st2 ha).1,(hr st2 ha).2,hx,hy,hq,if_pos hfit]
    exact hv st2
   ·cases h
  ·cases h
 ·rename_i fl e xs hx hy
  split at h
  ·rename_i hT
   split at h
   ·cases h
   ·rename_i hlen
    obtain ⟨v,rfl,hv⟩:=zS h
    refine aX.put rfl fun st2 ha=> ?_
    simp only [aI,ho,oo,(hr st2 ha).1,(hr st2 ha).2,hx,hy,ha.ep,if_pos hT,if_neg hlen]
    exact hv st2
  ·cases h
 ·rename_i hx hy
  split at h
  ·rename_i hT
   obtain ⟨v,rfl,hv⟩:=zS h
   refine aX.put rfl fun st2 ha=> ?_
   simp only [aI,ho,oo,(hr st2 ha).1,(hr st2 ha).2,hx,hy,if_pos hT]
   exact hv st2
  ·cases h
 ·rename_i a b hn1 hn2 hn3 hn4
  obtain ⟨v,rfl,hv⟩:=yl h
  refine aX.put rfl fun st2 ha=> ?_
  simp only [aI,ho,oo,(hr st2 ha).1,(hr st2 ha).2]
  exact hv st2
theorem J5 {op:UnOp}{T:TypeId}{x:Operand}(ho:o.op= .unOp op T x)(h:(L1 op (st.rd x) fun c=>some (st.put o.dst (.one c)))=some st'):aX E Γ an X o st st':=by
 have hr:∀st2,bQ an X o st st2→st2.rd x=st.rd x:=fun st2 ha=>ha.rd (fun t ht=>by simpa [aV,ho] using ht)
 have key:∀s:AS,(L1 op (st.rd x) fun c=>some (s.put o.dst (.one c)))=(L1 op (st.rd x) some).bind fun c=>some (s.put o.dst (.one c)):=fun s=>(Ei op (st.rd x) some _).symm
 rw [key st] at h
 cases hb:L1 op (st.rd x) some with
 |none=>rw [hb] at h;cases h
 |some c=>
  rw [hb] at h
  cases h
  refine aX.put rfl fun st2 ha=> ?_
  simp only [aI,ho,hr st2 ha]
  rw [key st2,hb];rfl
theorem Du {S:TypeId}{p:Operand}{f:Nat}(ho:o.op= .fieldAddr S p f)(h:nB E o S p f st some=some st'):aX E Γ an X o st st':=by
 have hr:∀st2,bQ an X o st st2→st2.rd p=st.rd p:=fun st2 ha=>ha.rd (fun t ht=>by simpa [aV,ho] using ht)
 unfold nB at h
 split at h
 ·rename_i hT hp
  split at h
  ·rename_i hf
   cases h
   refine aX.put rfl fun st2 ha=> ?_
   simp only [aI,ho,nB,hr st2 ha,hT,hp,hf]
  ·cases h
 ·rename_i hT hp
  split at h
  ·rename_i hf
   cases h
   refine aX.put rfl fun st2 ha=> ?_
   simp only [aI,ho,nB,hr st2 ha,hT,hp,hf]
  ·cases h
 ·cases h
theorem nt {v:AV}{s:AS}(h:v.now s.ep=true):v.fresh s=v:=by
 cases v with
 |tup vs=>rfl
 |val g cs=>
  simp only [AV.now,List.all_eq_true] at h
  simp only [AV.fresh]
  congr 1
  have:cs.map s.fresh=cs.map id:=List.map_congr_left fun c hc=>by
   have hn:=h c hc
   unfold AS.fresh
   split
   ·simp only [AC.now] at hn;rw [hn];rfl
   ·rfl
  rw [this,List.map_id]
theorem CU {v:AV}{st st2:AS}(he:st2.ep=st.ep)(h:v.now st.ep=true∨∃g ep b j t e xs,v= .val g [.sl (.loc ep (some (.box b j,t))) e xs]∧nth st2.boxes b=nth st.boxes b):v.fresh st2=v.fresh st:=by
 rcases h with h|⟨g,ep,b,j,t,e,xs,rfl,hb⟩
 ·rw [nt h,nt (by rw [he];exact h)]
 ·simp only [AV.fresh,List.map_cons,List.map_nil]
  congr 2
  unfold AS.fresh
  simp only [AS.bz,he,hb]
theorem vD {T:TypeId}{x i:Operand}(ho:o.op= .indexAddr T x i)(hfree:aZ E an X o st=true)(h:dX E o T x i st some=some st'):aX E Γ an X o st st':=by
 have hr:∀st2,bQ an X o st st2→st2.rd x=st.rd x∧st2.rd i=st.rd i:=fun st2 ha=>
  ⟨ha.rd (fun t ht=>by simp [aV,ho,ht]),ha.rd (fun t ht=>by simp [aV,ho,ht])⟩
 have hf2:∀st2,bQ an X o st st2→(st.rd x).fresh st2=(st.rd x).fresh st:=fun st2 ha=>by
  refine CU ha.ep ?_
  simp only [aZ,ho,Bool.or_eq_true] at hfree
  rcases hfree with hn|hn
  ·exact .inl hn
  ·split at hn
   ·rename_i g ep b j t e xs hx
    exact .inr ⟨g,ep,b,j,t,e,xs,hx,ha.box b (by simpa using hn)⟩
   ·cases hn
 unfold dX at h
 split at h
 ·rename_i e' fl e xs k n hT hx hi
  split at h
  ·rename_i hc
   cases hix:idx xs n with
   |none=>rw [hix] at h;cases h
   |some y=>
    rw [hix] at h
    cases h
    refine aX.put rfl fun st2 ha=> ?_
    have hf3:=hf2 st2 ha
    rw [hx] at hf3
    simp only [aI,ho,dX,(hr st2 ha).1,(hr st2 ha).2,hf3,hT,hi,ha.ep,if_pos hc,hix,aa]
  ·cases h
 ·cases h
theorem Dv {T:TypeId}{x i:Operand}(ho:o.op= .index T x i)(h:oX E o T x i st some=some st'):aX E Γ an X o st st':=by
 have hr:∀st2,bQ an X o st st2→st2.rd x=st.rd x∧st2.rd i=st.rd i:=fun st2 ha=>
  ⟨ha.rd (fun t ht=>by simp [aV,ho,ht]),ha.rd (fun t ht=>by simp [aV,ho,ht])⟩
 unfold oX at h
 split at h
 ·rename_i s k n hx hi
  split at h
  ·rename_i hc
   cases hix:idx s n with
   |none=>rw [hix] at h;cases h
   |some y=>
    rw [hix] at h
    cases h
    refine aX.put rfl fun st2 ha=> ?_
    simp only [aI,ho,oX,(hr st2 ha).1,(hr st2 ha).2,hx,hi,if_pos hc,hix,aa]
  ·cases h
 ·cases h
theorem aX.new {v:AV}(h:st'=(st.bE o.dst).put o.dst v)(h2:∀st2,bQ an X o st st2→aI E Γ an o st2 some=some ((st2.bE o.dst).put o.dst v)):aX E Γ an X o st st':=
 ⟨tp o v,yQ v,by rw [uj];exact h,fun st2 ha=>by rw [uj];exact h2 st2 ha⟩
theorem bQ.du (ha:bQ an X o st st2):st2.du o.dst=st.du o.dst:=by
 funext j
 cases hd:o.dst with
 |none=>rfl
 |some d=>simp only [AS.du,(ha.dst d hd).1]
theorem tP {lo hi:Option Operand}{n:Nat}{f:AS→Int→Int→Option AS}(hs:∀st2,bQ an X o st st2→lo.map st2.rd=lo.map st.rd∧hi.map st2.rd=hi.map st.rd)
 (h:eh st lo hi n (f st)=some st'):∃a b,f st a b=some st'∧∀st2,bQ an X o st st2→eh st2 lo hi n (f st2)=f st2 a b:=by
 unfold eh at h
 split at h
 ·rename_i h1 h2
  exact ⟨_,_,h,fun st2 ha=>by simp only [eh,(hs st2 ha).1,(hs st2 ha).2,h1,h2]⟩
 ·rename_i h1 h2
  exact ⟨_,_,h,fun st2 ha=>by simp only [eh,(hs st2 ha).1,(hs st2 ha).2,h1,h2]⟩
 ·rename_i h1 h2
  exact ⟨_,_,h,fun st2 ha=>by simp only [eh,(hs st2 ha).1,(hs st2 ha).2,h1,h2]⟩
 ·rename_i h1 h2
  exact ⟨_,_,h,fun st2 ha=>by simp only [eh,(hs st2 ha).1,(hs st2 ha).2,h1,h2]⟩
 ·cases h
theorem Dw {T:TypeId}{x:Operand}{lo hi:Option Operand}(ho:o.op= .slice T x lo hi none)(hm:eO an o=true)(hfree:aZ E an X o st=true)(h:n5 E an o T x lo hi st some=some st'):aX E Γ an X o st st':=by
 have hr:∀st2,bQ an X o st st2→st2.rd x=st.rd x:=fun st2 ha=>ha.rd (fun t ht=>by simp [aV,ho,ht])
 have hb:∀st2,bQ an X o st st2→lo.map st2.rd=lo.map st.rd∧hi.map st2.rd=hi.map st.rd:=by
  intro st2 ha
  constructor
  ·cases lo with
   |none=>rfl
   |some y=>simp only [Option.map_some];rw [ha.rd (fun t ht=>by simp [aV,ho,X6,ht])]
  ·cases hi with
   |none=>rfl
   |some y=>simp only [Option.map_some];rw [ha.rd (fun t ht=>by simp [aV,ho,X6,ht])]
 have hnow:(st.rd x).now st.ep=true:=by simpa [aZ,ho] using hfree
 have hf2:∀st2,bQ an X o st st2→(st.rd x).fresh st2=st.rd x:=fun st2 ha=>nt (by rw [ha.ep];exact hnow)
 have htk:uh an o=false:=by simpa [eO,ho] using hm
 unfold n5 at h
 rw [if_neg (by simp [htk]),nt hnow] at h
 split at h
 ·rename_i s hx
  split at h
  ·rename_i hT
   obtain ⟨a,b,h1,h2⟩:=tP (f:=fun s0 a b=>aa (sub s a b) fun s'=>some (s0.put o.dst (.one (.str s')))) hb h
   cases hsub:sub s a b with
   |none=>rw [hsub] at h1;cases h1
   |some s'=>
    rw [hsub] at h1
    cases h1
    refine aX.put rfl fun st2 ha=> ?_
    have hf3:=hf2 st2 ha
    rw [hx] at hf3
    simp only [aI,ho,n5,htk,Bool.false_eq_true,if_false,hr st2 ha,hx,hf3,if_pos hT]
    rw [h2 st2 ha,hsub];rfl
  ·cases h
 ·rename_i fl e xs hx
  split at h
  ·rename_i hT
   obtain ⟨a,b,h1,h2⟩:=tP (f:=fun s0 a b=>aa (sub xs a b) fun xs'=>some (s0.put o.dst (.one (.sl (xG an o fl a) e xs')))) hb h
   cases hsub:sub xs a b with
   |none=>rw [hsub] at h1;cases h1
   |some s'=>
    rw [hsub] at h1
    cases h1
    refine aX.put rfl fun st2 ha=> ?_
    have hf3:=hf2 st2 ha
    rw [hx] at hf3
    simp only [aI,ho,n5,htk,Bool.false_eq_true,if_false,hr st2 ha,hx,hf3,ha.ep,if_pos hT]
    rw [h2 st2 ha,hsub];rfl
  ·cases h
 ·cases h
theorem sU {args:List Operand}(hl:∀t,t∈BW args→t∈aV o)(ha:bQ an X o st st2):args.map st2.rd=args.map st.rd:=by
 apply List.map_congr_left
 intro x hx
 exact ha.rd (fun t ht=>hl t (by simp only [BW,List.mem_flatMap];exact ⟨x,hx,ht⟩))
theorem H5 {ts:Array TypeId}{args:Array Operand}(ho:o.op= .call {callee:= .builtin .len,args,argTypes:=ts})(h:xq E o ts.toList args.toList st some=some st'):aX E Γ an X o st st':=by
 have hr:∀st2,bQ an X o st st2→args.toList.map st2.rd=args.toList.map st.rd:=fun st2 ha=>sU (fun t ht=>by simp only [aV,ho];exact ht) ha
 unfold xq at h
 split at h
 ·rename_i t s hts hx
  split at h
  ·rename_i hT
   cases h
   refine aX.put rfl fun st2 ha=> ?_
   simp only [aI,ho,xq,hr st2 ha,hts,hx,if_pos hT]
  ·cases h
 ·rename_i t _ _ xs hts hx
  split at h
  ·rename_i hT
   cases h
   refine aX.put rfl fun st2 ha=> ?_
   simp only [aI,ho,xq,hr st2 ha,hts,hx,if_pos hT]
  ·cases h
 ·cases h
theorem H7 {ts:Array TypeId}{args:Array Operand}(ho:o.op= .call {callee:= .builtin .min,args,argTypes:=ts})(h:yA o args.toList st some=some st'):aX E Γ an X o st st':=by
 have hr:∀st2,bQ an X o st st2→args.toList.map st2.rd=args.toList.map st.rd:=fun st2 ha=>sU (fun t ht=>by simp only [aV,ho];exact ht) ha
 unfold yA at h
 split at h
 ·rename_i hx
  cases h
  refine aX.put rfl fun st2 ha=> ?_
  simp only [aI,ho,yA,hr st2 ha,hx]
 ·cases h
theorem H6 {ts:Array TypeId}{args:Array Operand}(ho:o.op= .call {callee:= .builtin .max,args,argTypes:=ts})(h:yz o args.toList st some=some st'):aX E Γ an X o st st':=by
 have hr:∀st2,bQ an X o st st2→args.toList.map st2.rd=args.toList.map st.rd:=fun st2 ha=>sU (fun t ht=>by simp only [aV,ho];exact ht) ha
 unfold yz at h
 split at h
 ·rename_i hx
  cases h
  refine aX.put rfl fun st2 ha=> ?_
  simp only [aI,ho,yz,hr st2 ha,hx]
 ·cases h
theorem Fv (hΓ:∀f,(Γ f).io=false∧(Γ f).bx=false){f:Operand}{ts:Array TypeId}{args:Array Operand}(ho:o.op= .call {callee:= .value f,args,argTypes:=ts})(hfree:aZ E an X o st=true)(h:qY Γ o f args.toList st some=some st'):aX E Γ an X o st st':=by
 have hr:∀st2,bQ an X o st st2→st2.rd f=st.rd f∧(args.toList.map fun x=>((st2.rd x).fresh st2).asArg st2.ep)=args.toList.map fun x=>((st.rd x).fresh st).asArg st.ep:=by
  intro st2 ha
  refine ⟨ha.rd (fun t ht=>by simp [aV,ho,ht]), ?_⟩
  apply List.map_congr_left
  intro x hx
  have hnow:(st.rd x).now st.ep=true:=by
   simp only [aZ,ho,List.all_eq_true] at hfree
   exact hfree x hx
  rw [ha.rd (fun t ht=>by simp only [aV,ho,List.mem_append,BW,List.mem_flatMap];exact .inr ⟨x,hx,ht⟩),nt hnow,nt (s:=st2) (by rw [ha.ep];exact hnow),ha.ep]
 unfold qY at h
 split at h
 ·rename_i k hf
  rw [(hΓ k).2,(hΓ k).1] at h
  simp only [cond_false] at h
  cases hg:(Γ k).fn (args.toList.map fun x=>((st.rd x).fresh st).asArg st.ep) with
  |none=>rw [hg] at h;cases h
  |some y=>
   rw [hg] at h
   simp only [aa] at h
   cases hsel:(Γ k).sel y with
   |true=>
    rw [hsel] at h
    cases h
    refine aX.new rfl fun st2 ha=> ?_
    simp only [aI,ho,qY,(hr st2 ha).1,hf,(hΓ k).1,(hΓ k).2,cond_false]
    rw [(hr st2 ha).2,hg]
    simp only [aa,hsel,cond_true,ha.ep,ha.du]
   |false=>
    rw [hsel] at h
    cases h
    refine aX.new rfl fun st2 ha=> ?_
    simp only [aI,ho,qY,(hr st2 ha).1,hf,(hΓ k).1,(hΓ k).2,cond_false]
    rw [(hr st2 ha).2,hg]
    simp only [aa,hsel,cond_false,ha.ep,ha.du]
 ·cases h
theorem yB {src dst:TypeId}{x:Operand}(ho:o.op= .convert src dst x)(h:dJ E o src dst x st some=some st'):aX E Γ an X o st st':=by
 have hr:∀st2,bQ an X o st st2→st2.rd x=st.rd x:=fun st2 ha=>ha.rd (fun t ht=>by simpa [aV,ho] using ht)
 unfold dJ at h
 split at h
 ·rename_i h1 h2 h3
  cases h
  refine aX.put rfl fun st2 ha=> ?_
  simp only [aI,ho,dJ,hr st2 ha,h1,h2,h3]
 ·rename_i h1 h2 h3
  cases h
  refine aX.put rfl fun st2 ha=> ?_
  simp only [aI,ho,dJ,hr st2 ha,h1,h2,h3]
 ·rename_i offs val s hno h1 h2 h3
  split at h
  ·rename_i hb
   unfold room at h
   split at h
   ·rename_i hrm
    cases h
    refine aX.new (v:= .one (.sl (.own (st.du o.dst 0)) (.int .u8) (aM s))) rfl fun st2 ha=> ?_
    have hval:∀k:AS→Option AS,dJ E o src dst x st2 k=if E.bytes dst then room s.length (k (st2.gb o.dst (.int .u8) (aM s))) else none:=by
     intro k
     unfold dJ
     rw [hr st2 ha,h1,h2,h3]
     obtain ⟨ag,ct,of⟩:=val
     cases ag with
     |true=>rfl
     |false=>
      cases ct with
      |str=>exact (hno _ rfl).elim
      |_=>rfl
    simp only [aI,ho]
    rw [hval,if_pos hb,room,if_pos hrm,AS.gb,ha.du]
   ·cases h
  ·cases h
 ·rename_i val offs fl xs h1 h2 h3
  split at h
  ·rename_i hb
   cases h
   refine aX.put rfl fun st2 ha=> ?_
   have hval:∀k:AS→Option AS,dJ E o src dst x st2 k=if E.bytes src∧fl.live st2.ep then k (st2.put o.dst (.one (.str (bytesOf xs)))) else none:=by
    intro k
    unfold dJ
    rw [hr st2 ha,h1,h2,h3]
    obtain ⟨ag,ct,of⟩:=val
    cases ag with
    |true=>rfl
    |false=>cases ct<;>rfl
   simp only [aI,ho]
   rw [hval,ha.ep,if_pos hb]
  ·cases h
 ·cases h
theorem u1 {d:Nat}{cs:List AC}{v:AV}:(⟨[(d,v)],some (d,cs),none⟩:u0).apply st=(st.bq d (some cs)).put (some d) v:=rfl
theorem Ds {T:TypeId}(ho:o.op= .alloc T)(h:pP E o T st some=some st'):aX E Γ an X o st st':=by
 unfold pP at h
 split at h
 ·rename_i d sh hd hT
  split at h
  ·rename_i hb
   cases h
   refine ⟨⟨[(d,.one (.ptr d 0))],some (d,cellsOf sh.ct (.own none) sh.ct.zero),none⟩,⟨fun x hx=> ?_,fun b hb'=> ?_,fun _ hh=>by cases hh⟩, ?_,fun st2 ha=> ?_⟩
   ·simp only [List.mem_singleton] at hx;subst hx;simp [writes,hd]
   ·cases hb';simp [tq,ho,hd]
   ·rw [u1,hd]
   ·simp only [aI,ho,pP,hd,hT,(ha.dst d hd).2,hb,u1]
  ·cases h
 ·cases h
def fc (st:AS):Operand→List (Nat×AV)
 | .tmp t=>[(t,(st.get t).ae st.ep)]
 |_=>[]
theorem o3 (l:List AV)(a b:List (Nat×AV)):cU l (a++b)=cU (cU l a) b:=by
 induction a generalizing l with
 |nil=>rfl
 |cons x a ih=>exact ih _
def AS.cI (st:AS)(l:List (Nat×AV)):AS:={st with slots:=cU st.slots l}
theorem XA:st.cI []=st:=rfl
theorem g9 (a b:List (Nat×AV)):st.cI (a++b)=(st.cI a).cI b:=by simp only [AS.cI,o3]
theorem Xz (d:Nat)(v:AV):st.put (some d) v=st.cI [(d,v)]:=rfl
theorem pL (x:Operand):(st.take x).2=st.cI (fc st x):=by cases x<;>rfl
theorem qA {x:Operand}(hep:st2.ep=st.ep)(h:∀t∈tm x,st2.get t=st.get t):(st2.take x).1=(st.take x).1∧(st2.take x).2=st2.cI (fc st x):=by
 cases x with
 |tmp t=>
  have:=h t (by simp [tm])
  refine ⟨this, ?_⟩
  rw [pL]
  simp only [fc,this,hep]
 |const v=>exact ⟨rfl,rfl⟩
 |func f=>exact ⟨rfl,rfl⟩
 |global g=>exact ⟨rfl,rfl⟩
theorem ui {x:Operand}:∀y∈fc st x,y.1∈tm x:=by
 cases x<;>simp [fc,tm]
theorem Fx {x:Operand}(ho:o.op= .move x)(h:pA an o x st some=some st'):aX E Γ an X o st st':=by
 unfold pA at h
 cases hd:o.dst with
 |none=>rw [hd] at h;cases h
 |some d=>
  rw [hd] at h
  cases hf:an.mv.contains d with
  |false=>
   simp only [hf,Bool.false_eq_true,if_false] at h
   cases h
   refine aX.put (v:=st.rd x) (by rw [hd]) fun st2 ha=> ?_
   have hr:st2.rd x=st.rd x:=ha.rd (fun t ht=>by simpa [aV,ho] using ht)
   simp only [aI,ho,pA,hd,hf,Bool.false_eq_true,if_false,hr]
  |true=>
   simp only [hf,if_true] at h
   cases h
   have hr:∀st2,bQ an X o st st2→(st2.take x).1=(st.take x).1∧(st2.take x).2=st2.cI (fc st x):=fun st2 ha=>qA ha.ep fun t ht=>ha.get t (by simpa [aV,ho] using ht)
   refine ⟨⟨fc st x++[(d,(st.take x).1)],none,none⟩,⟨fun y hy=> ?_,fun _ hh=>(by cases hh),fun _ hh=>(by cases hh)⟩, ?_,fun st2 ha=> ?_⟩
   ·rcases List.mem_append.1 hy with hy|hy
    ·have:=ui y hy
     have hf':d∈an.mv:=by simpa using hf
     simp [writes,rN,ho,hd,hf',aV,this]
    ·simp only [List.mem_singleton] at hy;subst hy;simp [writes,hd]
   ·rw [pL]
    show _=st.cI _
    rw [g9];rfl
   ·simp only [aI,ho,pA,hd,hf,if_true,(hr st2 ha).1,(hr st2 ha).2]
    show some ((st2.cI (fc st x)).put (some d) (st.take x).1)=some (st2.cI _)
    rw [g9];rfl
theorem CO {ep:Nat}{cs:List AC}(h:cs.all AC.bJ=true):ae ep cs=cs:=by
 rw [List.all_eq_true] at h
 unfold ae
 have:cs.map (AC.borrow ep none)=cs.map id:=List.map_congr_left fun c hc=>by
  have:=h c hc
  cases c<;>first|rfl|(simp [AC.bJ] at this)
 rw [this,List.map_id]
theorem MU {s:AS}{t:Nat}{vs:List (Bool×List AC)}(h:s.get t= .tup vs):s.put (some t) (.tup vs)=s:=by
 cases s with
 |mk slots boxes ep iss io=>
  simp only [AS.put,AS.mk.injEq,and_true]
  rw [bn]
  apply List.ext_getElem?
  intro i
  rw [List.getElem?_set]
  split
  ·rename_i hd
   subst hd
   simp only [AS.get,aU] at h
   split
   ·rename_i hlt
    rw [List.getElem?_eq_getElem hlt] at h⊢
    simp only [Option.getD_some] at h
    rw [h]
   ·rename_i hge
    rw [List.getElem?_eq_none (Nat.le_of_not_lt hge)]
  ·rfl
theorem yC {t i:Nat}(ho:o.op= .extract (.tmp t) i)(hfree:aZ E an X o st=true)(h:dL o t i st some=some st'):aX E Γ an X o st st':=by
 have hr:∀st2,bQ an X o st st2→st2.get t=st.get t:=fun st2 ha=>ha.get t (by simp [aV,ho])
 unfold dL at h
 simp only [aZ,ho] at hfree
 split at h
 ·rename_i vs hv
  rw [hv] at hfree
  split at h
  ·rename_i g cs hn
   simp only [hn] at hfree
   have hfl:cs.all AC.bJ=true∨∃d,o.dst=some d∧an.mv.contains d=true:=by
    cases hd:o.dst with
    |none=>simp only [hd,Bool.or_false] at hfree;exact .inl hfree
    |some d=>
     simp only [hd,Bool.or_eq_true] at hfree
     rcases hfree with h|h
     ·exact .inl h
     ·exact .inr ⟨d,rfl,h⟩
   rcases hfl with hfree|⟨d,hd,hmv⟩
   rotate_left
   ·cases h
    refine ⟨⟨[(t,.tup (ch vs i (g,ae 0 cs))),(d,.val g cs)],none,none⟩,⟨fun x hx=> ?_,(fun _ hb=>by cases hb),(fun _ hh=>by cases hh)⟩, ?_,fun st2 ha=> ?_⟩
    ·simp only [List.mem_cons,List.not_mem_nil,or_false] at hx
     rcases hx with rfl|rfl
     ·simp only [writes,rN,ho,hd,hmv,cond_true,aV];simp
     ·simp only [writes,hd];simp
    ·rw [hd];rfl
    ·have h2:st2.get t= .tup vs:=by rw [hr st2 ha,hv]
     simp only [aI,ho,dL,h2,hn,hd];rfl
   ·skip
    have hset:ch vs i (g,cs)=vs:=by
     rw [bn]
     rw [aU] at hn
     apply List.ext_getElem?
     intro k
     rw [List.getElem?_set]
     split
     ·rename_i hk;subst hk
      obtain ⟨hl,he⟩:=List.getElem?_eq_some_iff.1 hn
      rw [if_pos hl,hn]
     ·rfl
    have key:∀s:AS,s.get t= .tup vs→(s.put (some t) (.tup (ch vs i (g,ae 0 cs))))=s:=fun s hs=>by rw [CO hfree,hset,MU hs]
    rw [key st hv] at h
    cases h
    refine aX.put rfl fun st2 ha=> ?_
    have h2:st2.get t= .tup vs:=by rw [hr st2 ha,hv]
    simp only [aI,ho,dL,h2,hn]
    rw [key st2 h2]
  ·cases h
 ·cases h
def nn (st:AS):Operand→List (Nat×AV)
 | .tmp t=>[(t,(st.get t).ae st.ep)]
 |_=>[]
theorem yg (st:AS)(x:Operand):(st.take x).2=⟨cU st.slots (nn st x),st.boxes,st.ep,st.iss,st.io⟩:=by
 cases x<;>rfl
theorem Dx {T:TypeId}{pp:Nat}{x:Operand}(ho:o.op= .store T (.tmp pp) x)(hd:o.dst=none)(hm:eO an o=true)(hfree:aZ E an X o st=true)(h:lD E T (.tmp pp) x st some=some st'):aX E Γ an X o st st':=by
 have hr:∀st2,bQ an X o st st2→st2.rd (.tmp pp)=st.rd (.tmp pp):=fun st2 ha=>ha.rd (fun t ht=>by simp only [aV,ho,List.mem_append];exact .inl ht)
 have hsb:(an.sb pp).isNone=false:=by
  simp only [eO,ho,Bool.and_eq_true] at hm
  cases hb:an.sb pp with
  |none=>rw [hb] at hm;cases hm.1
  |some _=>rfl
 simp only [aZ,ho,hsb,Bool.false_and,Bool.false_or] at hfree
 unfold lD at h
 split at h
 ·rename_i sh s off hT hp
  rw [hp] at hfree
  simp only [Bool.and_eq_true,Bool.not_eq_true',beq_iff_eq] at hfree
  split at h
  ·rename_i gg vs st1 htk
   have htk1:(st.take x).1= .val gg vs:=by rw [htk]
   have hst1:st1=⟨cU st.slots (nn st x),st.boxes,st.ep,st.iss,st.io⟩:=by rw [←yg,htk]
   split at h
   ·rename_i cs hb
    split at h
    ·rename_i hlen
     split at h
     ·rename_i hfit
      cases h
      have hbx:∀st2,bQ an X o st st2→nth st2.boxes s=nth st.boxes s:=fun st2 ha=>ha.box s hfree.1
      refine ⟨⟨nn st x,some (s,aG cs off vs),none⟩,⟨fun y hy=> ?_,fun b hb'=> ?_,fun _ hh=>by cases hh⟩, ?_,fun st2 ha=> ?_⟩
      ·cases x with
       |tmp t=>
        simp only [nn,List.mem_singleton] at hy
        subst hy
        simp only [writes,rN,ho,cond_true,aV,hd]
        simp [tm]
       |_=>simp [nn] at hy
      ·cases hb';simp only [tq,ho,hfree.2];simp
      ·rw [hst1];rfl
      ·have hx2:(st2.take x).1=(st.take x).1∧nn st2 x=nn st x:=by
        cases x with
        |tmp t=>
         have hg:st2.get t=st.get t:=ha.get t (by simp [aV,ho,tm])
         simp only [AS.take,nn,hg,ha.ep];simp
        |const v=>exact ⟨rfl,rfl⟩
        |func f=>exact ⟨rfl,rfl⟩
        |global g=>exact ⟨rfl,rfl⟩
       have ht2:st2.take x=(.val gg vs,⟨cU st2.slots (nn st x),st2.boxes,st2.ep,st2.iss,st2.io⟩):=by
        rw [←hx2.2,←yg,←htk1,←hx2.1]
       have hb2:(nth st2.boxes s).getD none=some cs:=by
        rw [hbx st2 ha]
        rw [hst1] at hb
        exact hb
       have hlate:nL an o=false:=by
        simp only [eO,ho,Bool.and_eq_true,Bool.not_eq_true'] at hm
        exact hm.2
       simp only [aI,ho,hd,hlate,Bool.false_eq_true,if_false,lD,hT,hr st2 ha,hp,ht2,hb2,if_pos hlen,if_pos hfit]
       rfl
     ·cases h
    ·cases h
   ·cases h
  ·cases h
 ·rename_i r _ _ _ _ _ _ hp
  rw [hp] at hfree
  cases r<;>simp at hfree
 ·cases h
theorem Bo {x:Operand}(ho:o.op= .assign x)(hm:eO an o=true)(h:kg E an o x st some=some st'):aX E Γ an X o st st':=by
 have hr:∀st2,bQ an X o st st2→(st2.take x).1=(st.take x).1∧(st2.take x).2=st2.cI (fc st x):=fun st2 ha=>qA ha.ep fun t ht=>ha.get t (by simpa [aV,ho] using ht)
 have hlate:nL an o=false:=by simpa [eO,ho] using hm
 unfold kg at h
 split at h
 ·rename_i st1 htk
  split at h
  ·rename_i e hT
   cases h
   refine aX.put rfl fun st2 ha=> ?_
   have h2:st2.take x=(.val false [.nilsl],st2.cI (fc st x)):=Prod.ext (by rw [(hr st2 ha).1,htk]) (hr st2 ha).2
   simp only [aI,ho,kg,hlate,Bool.false_eq_true,if_false,h2,hT]
  ·cases h
 ·rename_i v st1 hno htk
  cases h
  have hst1:st1=st.cI (fc st x):=by rw [←pL,htk]
  refine ⟨⟨fc st x++o.dst.toList.map fun d=>(d,v),none,none⟩,⟨fun y hy=> ?_,fun _ hh=>(by cases hh),fun _ hh=>(by cases hh)⟩, ?_,fun st2 ha=> ?_⟩
  ·rcases List.mem_append.1 hy with hy|hy
   ·have:=ui y hy
    simp [writes,rN,ho,aV,this]
   ·obtain ⟨d,hd,rfl⟩:=List.mem_map.1 hy
    simp [writes,hd]
  ·rw [hst1]
   show _=st.cI _
   rw [g9]
   cases o.dst<;>rfl
  ·have h2:st2.take x=(v,st2.cI (fc st x)):=Prod.ext (by rw [(hr st2 ha).1,htk]) (hr st2 ha).2
   simp only [aI,ho,kg,hlate,Bool.false_eq_true,if_false,h2]
   show some ((st2.cI (fc st x)).put o.dst v)=some (st2.cI _)
   rw [g9]
   cases o.dst<;>rfl
theorem cE {α:Type}(l:List α)(i:Nat)(v:α)(t:Nat):nth (ch l i v) t=if i=t then (if i<l.length then some v else none) else nth l t:=by
 rw [aU,bn,aU,List.getElem?_set]
theorem xK (l:List AV)(a:List (Nat×AV)):(cU l a).length=l.length:=by
 induction a generalizing l with
 |nil=>rfl
 |cons x a ih=>rw [cU,ih,bn,List.length_set]
theorem FJ {l l2:List AV}(a:List (Nat×AV))(hl:l2.length=l.length)(t:Nat)(h:nth l2 t=nth l t):nth (cU l2 a) t=nth (cU l a) t:=by
 induction a generalizing l l2 with
 |nil=>exact h
 |cons x a ih=>
  refine ih (by rw [bn,bn,List.length_set,List.length_set,hl]) ?_
  rw [cE,cE,hl,h]
theorem FD {t:Nat}(h:st2.get t=st.get t)(hl:st2.slots.length=st.slots.length):nth st2.slots t=nth st.slots t:=by
 unfold AS.get at h
 rw [aU,aU] at h⊢
 rcases Nat.lt_or_ge t st.slots.length with hlt|hge
 ·rw [List.getElem?_eq_getElem hlt,List.getElem?_eq_getElem (by omega)] at h⊢
  simpa using h
 ·rw [List.getElem?_eq_none hge,List.getElem?_eq_none (by omega)]
def cP (st:AS):List Operand→List (Nat×AV)
 |[]=>[]
 |x::xs=>fc st x++cP (st.cI (fc st x)) xs
theorem oe:∀(xs:List Operand)(st:AS),∀y∈cP st xs,y.1∈BW xs
 |[],_,y,hy=>by cases hy
 |x::xs,st,y,hy=>by
  simp only [BW,List.flatMap_cons,List.mem_append]
  rcases List.mem_append.1 hy with hy|hy
  ·exact .inl (ui y hy)
  ·exact .inr (oe xs _ y hy)
theorem pa:∀(xs:List Operand)(st st2:AS),st2.ep=st.ep→st2.slots.length=st.slots.length→(∀t∈BW xs,nth st2.slots t=nth st.slots t)→
 (a9 st2 xs).1=(a9 st xs).1∧(a9 st2 xs).2=st2.cI (cP st xs)
 |[],st,st2,_,_,_=>⟨rfl,rfl⟩
 |x::xs,st,st2,hep,hl,hg=>by
  have hx:∀t∈tm x,st2.get t=st.get t:=fun t ht=>by unfold AS.get;rw [hg t (by simp [BW,ht])]
  obtain ⟨h1,h2⟩:=qA (st:=st) (st2:=st2) hep hx
  have h3:=pL (st:=st) x
  obtain ⟨k1,k2⟩:=pa xs (st.cI (fc st x)) (st2.cI (fc st x)) hep (by simp only [AS.cI,xK,hl])
   (fun t ht=>FJ _ hl t (hg t (by simp only [BW,List.flatMap_cons,List.mem_append];exact .inr ht)))
  have e1:a9 st (x::xs)=((st.take x).1::(a9 (st.take x).2 xs).1,(a9 (st.take x).2 xs).2):=rfl
  have e2:a9 st2 (x::xs)=((st2.take x).1::(a9 (st2.take x).2 xs).1,(a9 (st2.take x).2 xs).2):=rfl
  rw [e1,e2,h1,h2,h3]
  refine ⟨by rw [k1], ?_⟩
  show (a9 (st2.cI (fc st x)) xs).2=_
  rw [k2,cP,g9]
theorem qz (xs:List Operand):(a9 st xs).2=st.cI (cP st xs):=(pa xs st st rfl rfl (fun _ _=>rfl)).2
theorem bQ.a9 (ha:bQ an X o st st2){xs:List Operand}(hx:∀t∈BW xs,t∈aV o):(a9 st2 xs).1=(Dn.a9 st xs).1∧(Dn.a9 st2 xs).2=st2.cI (cP st xs):=
 pa xs st st2 ha.ep ha.len fun t ht=>FD (ha.get t (hx t ht)) ha.len
theorem Dt {T:TypeId}{parts:Array (Nat×Operand)}(ho:o.op= .build T parts)(h:oR E o T parts.toList st some=some st'):aX E Γ an X o st st':=by
 have hl:∀t∈BW (parts.toList.map (·.2)),t∈aV o:=fun t ht=>by simp only [aV,ho];exact ht
 unfold oR at h
 split at h
 ·rename_i ct offs hT
  split at h
  rename_i vs st1 htk
  have hst1:st1=st.cI (cP st (parts.toList.map (·.2))):=by rw [←qz,htk]
  split at h
  ·rename_i cs hb
   cases h
   refine ⟨⟨cP st (parts.toList.map (·.2))++o.dst.toList.map fun d=>(d,.val true cs),none,none⟩,⟨fun y hy=> ?_,fun _ hh=>(by cases hh),fun _ hh=>(by cases hh)⟩, ?_,fun st2 ha=> ?_⟩
   ·rcases List.mem_append.1 hy with hy|hy
    ·have:=hl _ (oe _ _ y hy)
     simp [writes,rN,ho,this]
    ·obtain ⟨d,hd,rfl⟩:=List.mem_map.1 hy
     simp [writes,hd]
   ·rw [hst1]
    show _=st.cI _
    rw [g9]
    cases o.dst<;>rfl
   ·obtain ⟨k1,k2⟩:=ha.a9 hl
    have h2:a9 st2 (parts.toList.map (·.2))=(vs,st2.cI (cP st (parts.toList.map (·.2)))):=Prod.ext (by rw [k1,htk]) k2
    simp only [aI,ho,oR,hT,h2,hb]
    show some ((st2.cI _).put o.dst _)=some (st2.cI _)
    rw [g9]
    cases o.dst<;>rfl
  ·cases h
 ·cases h
theorem aX.Rd {tl:List (Nat×AV)}{v:AV}(ht:rN an o=true)(hl:∀y∈tl,y.1∈aV o)(h:st'=((st.cI tl).bE o.dst).put o.dst v)
 (h2:∀st2,bQ an X o st st2→aI E Γ an o st2 some=some (((st2.cI tl).bE o.dst).put o.dst v)):aX E Γ an X o st st':=by
 have key:∀s:AS,(⟨tl++o.dst.toList.map fun d=>(d,v),none,o.dst⟩:u0).apply s=((s.cI tl).bE o.dst).put o.dst v:=by
  intro s
  cases o.dst with
  |none=>simp only [u0.apply,Option.toList,List.map_nil,List.append_nil,AS.cI,AS.bE,AS.put]
  |some d=>simp only [u0.apply,Option.toList,List.map_cons,List.map_nil,o3,AS.cI,AS.bE,AS.put,cU]
 refine ⟨⟨tl++o.dst.toList.map fun d=>(d,v),none,o.dst⟩,⟨fun y hy=> ?_,fun _ hh=>(by cases hh),fun d hh=>hh⟩,by rw [key];exact h,fun st2 ha=>by rw [key];exact h2 st2 ha⟩
 rcases List.mem_append.1 hy with hy|hy
 ·simp [writes,ht,hl y hy]
 ·obtain ⟨d,hd,rfl⟩:=List.mem_map.1 hy
  simp [writes,hd]
theorem nv {tl:List (Nat×AV)}{d:Option Nat}:(st.cI tl).du d=st.du d:=rfl
theorem uL {T:TypeId}{len:Nat}{parts:Array (Nat×Operand)}(ho:o.op= .buildSlice T len parts)(h:dG E o T len parts.toList st some=some st'):aX E Γ an X o st st':=by
 have hl:∀t∈BW (parts.toList.map (·.2)),t∈aV o:=fun t ht=>by simp only [aV,ho];exact ht
 unfold dG at h
 split at h
 ·rename_i e hT
  split at h
  ·rename_i hc
   split at h
   rename_i vs st1 htk
   have hst1:st1=st.cI (cP st (parts.toList.map (·.2))):=by rw [←qz,htk]
   split at h
   ·rename_i xs hb
    cases h
    refine aX.Rd (tl:=cP st (parts.toList.map (·.2))) (v:= .one (.sl (.own (st.du o.dst 0)) e xs)) (by simp [rN,ho]) (fun y hy=>hl _ (oe _ _ y hy)) ?_ fun st2 ha=> ?_
    ·rw [hst1,AS.gb,nv]
    ·obtain ⟨k1,k2⟩:=ha.a9 hl
     have h2:a9 st2 (parts.toList.map (·.2))=(vs,st2.cI (cP st (parts.toList.map (·.2)))):=Prod.ext (by rw [k1,htk]) k2
     simp only [aI,ho,dG,hT,h2,hb,if_pos hc]
     rw [AS.gb,nv,ha.du]
   ·cases h
  ·cases h
 ·cases h
theorem vE {T:TypeId}{n c:Operand}(ho:o.op= .makeSlice T n c)(h:fw E o T n c st some=some st'):aX E Γ an X o st st':=by
 have hr:∀st2,bQ an X o st st2→st2.rd n=st.rd n∧st2.rd c=st.rd c:=fun st2 ha=>
  ⟨ha.rd (fun t ht=>by simp [aV,ho,ht]),ha.rd (fun t ht=>by simp [aV,ho,ht])⟩
 unfold fw at h
 split at h
 ·rename_i e len cap hT hn hc
  split at h
  ·rename_i hlc
   unfold room at h
   split at h
   ·rename_i hrm
    cases h
    refine aX.new (v:= .one (.sl (.own (st.du o.dst 0)) e (List.replicate len.toNat e.zero))) rfl fun st2 ha=> ?_
    simp only [aI,ho,fw,(hr st2 ha).1,(hr st2 ha).2,hT,hn,hc,if_pos hlc,room,if_pos hrm,AS.gb,ha.du]
   ·cases h
  ·cases h
 ·cases h
theorem Bn {ts:Array TypeId}{args:Array Operand}(ho:o.op= .call {callee:= .builtin .append,args,argTypes:=ts})(h:lI E o ts.toList args.toList st some=some st'):aX E Γ an X o st st':=by
 have hlk:∀t∈BW args.toList,t∈aV o:=fun t ht=>by simp only [aV,ho];exact ht
 unfold lI at h
 split at h
 ·rename_i t t' s x hts hargs
  have hl:∀u∈BW [s,x],u∈aV o:=by rw [←hargs];exact hlk
  have hboth:∀st2,bQ an X o st st2→(st2.take s).1=(st.take s).1∧((st2.take s).2.take x).1=((st.take s).2.take x).1∧((st2.take s).2.take x).2=st2.cI (cP st [s,x]):=by
   intro st2 ha
   obtain ⟨k1,k2⟩:=ha.a9 hl
   simp only [Dn.a9,List.cons.injEq,and_true] at k1 k2
   exact ⟨k1.1,k1.2,k2⟩
  have hself:((st.take s).2.take x).2=st.cI (cP st [s,x]):=qz (st:=st) [s,x]
  split at h
  ·rename_i tag e xs st1 htk1
   split at h
   ·rename_i fl e' ys st1' htk2
    split at h
    ·rename_i he
     subst he
     split at h
     ·rename_i hc
      unfold room at h
      split at h
      ·rename_i hrm
       cases h
       have hst1:(st.take s).2=st1:=by rw [htk1]
       have hst2:st1'=st.cI (cP st [s,x]):=by rw [←hself,hst1,htk2]
       refine aX.Rd (tl:=cP st [s,x]) (v:= .one (.sl (.own (st.du o.dst 0)) e' (xs++ys))) (by simp [rN,ho]) (fun y hy=>hl _ (oe _ _ y hy)) ?_ fun st2 ha=> ?_
       ·rw [hst2,AS.gb,nv]
       ·obtain ⟨k1,k2,k3⟩:=hboth st2 ha
        have e1:st2.take s=(.val false [.sl (.own tag) e' xs],(st2.take s).2):=Prod.ext (by rw [k1,htk1]) rfl
        have e2:(st2.take s).2.take x=(.val false [.sl fl e' ys],st2.cI (cP st [s,x])):=Prod.ext (by rw [k2,hst1,htk2]) k3
        simp only [aI,ho,lI,hts,hargs]
        rw [e1]
        simp only
        rw [e2]
        simp only [dite_true,ha.ep,if_pos hc,room,if_pos hrm,AS.gb,nv,ha.du]
      ·cases h
     ·cases h
    ·cases h
   ·rename_i sx st1' htk2
    split at h
    ·rename_i he
     subst he
     split at h
     ·rename_i hc
      unfold room at h
      split at h
      ·rename_i hrm
       cases h
       have hst1:(st.take s).2=st1:=by rw [htk1]
       have hst2:st1'=st.cI (cP st [s,x]):=by rw [←hself,hst1,htk2]
       refine aX.Rd (tl:=cP st [s,x]) (v:= .one (.sl (.own (st.du o.dst 0)) (.int .u8) (xs++aM sx))) (by simp [rN,ho]) (fun y hy=>hl _ (oe _ _ y hy)) ?_ fun st2 ha=> ?_
       ·rw [hst2,AS.gb,nv]
       ·obtain ⟨k1,k2,k3⟩:=hboth st2 ha
        have e1:st2.take s=(.val false [.sl (.own tag) (.int .u8) xs],(st2.take s).2):=Prod.ext (by rw [k1,htk1]) rfl
        have e2:(st2.take s).2.take x=(.val false [.str sx],st2.cI (cP st [s,x])):=Prod.ext (by rw [k2,hst1,htk2]) k3
        simp only [aI,ho,lI,hts,hargs]
        rw [e1]
        simp only
        rw [e2]
        simp only [dite_true,if_pos hc,room,if_pos hrm,AS.gb,nv,ha.du]
      ·cases h
     ·cases h
    ·cases h
   ·cases h
  ·cases h
 ·cases h
theorem H4 {T:TypeId}{x:Operand}(ho:o.op= .box T x)(h:z9 o x st some=some st'):aX E Γ an X o st st':=by
 have hr:∀st2,bQ an X o st st2→(st2.take x).1=(st.take x).1∧(st2.take x).2=st2.cI (fc st x):=fun st2 ha=>qA ha.ep fun t ht=>ha.get t (by simpa [aV,ho] using ht)
 unfold z9 at h
 split at h
 ·rename_i d g cs st1 hd htk
  have hst1:st1=st.cI (fc st x):=by rw [←pL,htk]
  split at h
  ·rename_i hb
   split at h
   ·rename_i hs
    cases h
    have hb0:nth st.boxes d=some none:=by rw [hst1] at hb;exact hb
    have key:∀s:AS,(⟨fc st x++[(d,.one (.ptr d 0))],some (d,cs),none⟩:u0).apply s=((s.cI (fc st x)).bq d (some cs)).put (some d) (.one (.ptr d 0)):=by
     intro s
     simp only [u0.apply,o3,AS.cI,AS.bq,AS.put,cU]
    refine ⟨⟨fc st x++[(d,.one (.ptr d 0))],some (d,cs),none⟩,⟨fun y hy=> ?_,fun b hb'=> ?_,fun _ hh=>(by cases hh)⟩, ?_,fun st2 ha=> ?_⟩
    ·rcases List.mem_append.1 hy with hy|hy
     ·have:=ui y hy
      simp [writes,rN,ho,aV,this]
     ·simp only [List.mem_singleton] at hy;subst hy;simp [writes,hd]
    ·cases hb';simp [tq,ho,hd]
    ·rw [key,hst1,hd]
    ·have h2:st2.take x=(.val g cs,st2.cI (fc st x)):=Prod.ext (by rw [(hr st2 ha).1,htk]) (hr st2 ha).2
     have hb2:nth (st2.cI (fc st x)).boxes d=some none:=by show nth st2.boxes d=_;rw [(ha.dst d hd).2];exact hb0
     simp only [aI,ho,z9,hd,h2,hb2,if_pos hs,key]
   ·cases h
  ·cases h
 ·cases h
theorem ya (hΓ:∀f,(Γ f).io=false∧(Γ f).bx=false)(hm:eO an o=true)(hfree:aZ E an X o st=true)(h:aI E Γ an o st some=some st'):aX E Γ an X o st st':=by
 have h0:=h
 unfold aI at h
 split at h
 ·rename_i ho;exact Fx ho h
 ·rename_i ho
  have hlate:nL an o=false:=by simpa [eO,ho] using hm
  rw [if_neg (by simp [hlate])] at h
  exact Bo ho hm h
 ·rename_i ho;exact Fy ho h
 ·rename_i ho;exact Ds ho h
 ·rename_i ho;exact H4 ho h
 ·rename_i ho;exact Fw ho hm hfree h
 ·rename_i T p x ho
  split at h
  ·rename_i hd
   cases p with
   |tmp pp=>
    have hlate:nL an o=false:=by
     simp only [eO,ho,Bool.and_eq_true,Bool.not_eq_true'] at hm
     exact hm.2
    rw [if_neg (by simp [hlate])] at h
    exact Dx ho hd hm hfree h
   |const v=>simp [eO,ho] at hm
   |func f=>simp [eO,ho] at hm
   |global g=>simp [eO,ho] at hm
  ·cases h
 ·rename_i ho;exact xx ho h0
 ·rename_i ho;exact H3 ho h
 ·rename_i ho;exact J5 ho h
 ·rename_i ho;exact Du ho h
 ·rename_i ho;exact vD ho hfree h
 ·rename_i ho;exact Dv ho h
 ·rename_i ho;exact Dt ho h
 ·rename_i ho;exact uL ho h
 ·rename_i ho;exact vE ho h
 ·rename_i ho;exact Dw ho hm hfree h
 ·rename_i ho;simp [eO,ho] at hm
 ·rename_i ho;simp [eO,ho] at hm
 ·rename_i ho;exact yB ho h
 ·rename_i ho;exact yC ho hfree h
 ·rename_i ho;exact H5 ho h
 ·rename_i ho;exact H7 ho h
 ·rename_i ho;exact H6 ho h
 ·rename_i ho;exact Bn ho h
 ·rename_i ho;exact Fv hΓ ho hfree h
 ·cases h
end Go.Dn
