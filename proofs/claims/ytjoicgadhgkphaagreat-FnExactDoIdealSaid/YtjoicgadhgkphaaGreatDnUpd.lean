import Derived.Test.YtjoicgadhgkphaaGreatDnMask
/- What an operation looks at and what it turns: for regions whose order is drawn. -/
namespace Go.Dn
structure yP where
 slots:List (Nat×AV):=[]
 box:Option (Nat×List AC):=none
 iss:Option Nat:=none
def fP (l:List AV):List (Nat×AV)→List AV
 |[]=>l
 |x::r=>fP (ew l x.1 x.2) r
def yP.apply (u:yP)(st:AS):AS:=
 ⟨fP st.slots u.slots,(match u.box with|some b=>ew st.boxes b.1 (some b.2)|none=>st.boxes),st.ep,(match u.iss with|some d=>ew st.iss d true|none=>st.iss),st.io⟩
structure ef (an:An) (X:List Nat) (o:Oper) (st st2:AS):Prop where
 len:st2.slots.length=st.slots.length
 get:∀t∈cm o,st2.get t=st.get t
 ep:st2.ep=st.ep
 dst:∀d,o.dst=some d→nth st2.iss d=nth st.iss d∧nth st2.boxes d=nth st.boxes d
 box:∀s,X.contains s=false→nth st2.boxes s=nth st.boxes s
 er:∀t∈Oi an o,st2.get t=st.get t
structure yP.w9 (an:An) (u:yP) (o:Oper):Prop where
 slots:∀x∈u.slots,x.1∈writes an o
 box:∀b,u.box=some b→b.1∈vR an o
 iss:∀d,u.iss=some d→o.dst=some d
variable {E:Env} {Γ:bN} {an:An} {X:List Nat} {o:Oper} {st st2 st':AS}
theorem PH {x:Operand}(hep:st2.ep=st.ep)(h:∀t∈tm x,st2.get t=st.get t):st2.rd x=st.rd x:=by cases x with|tmp t=>simp only[AS.rd,hep,h t (by simp[tm])]|const v=>rfl|func f=>rfl|global g=>rfl
def cH (E:Env)(Γ:bN)(an:An)(X:List Nat)(o:Oper)(st st':AS):Prop:=
 ∃u:yP,u.w9 an o∧st'=u.apply st∧∀st2,ef an X o st st2→bS E Γ an o st2 some=some (u.apply st2)
def uS (o:Oper)(v:AV):yP:={slots:=o.dst.toList.map λd=>(d,v)}
theorem mz (v:AV):(uS o v).apply st=st.put o.dst v:=by unfold uS yP.apply AS.put;cases o.dst<;>rfl
theorem tE (v:AV):(uS o v).w9 an o:=by refine⟨λx hx=>?_,λb hb=>by simp[uS]at hb,λd hd=>by simp[uS]at hd⟩;simp only[uS,List.mem_map]at hx;obtain⟨d,hd,rfl⟩:=hx;simp[writes,hd]
def xH (o:Oper)(v:AV):yP:={slots:=o.dst.toList.map λd=>(d,v),iss:=o.dst}
theorem yL (v:AV):(xH o v).apply st=(st.dg o.dst).put o.dst v:=by unfold xH yP.apply AS.put AS.dg;cases o.dst<;>rfl
theorem DK (v:AV):(xH o v).w9 an o:=by refine⟨λx hx=>?_,λb hb=>by simp[xH]at hb,λd hd=>by simpa[xH]using hd⟩;simp only[xH,List.mem_map]at hx;obtain⟨d,hd,rfl⟩:=hx;simp[writes,hd]
theorem cH.put {v:AV}(h:st'=st.put o.dst v)(h2:∀st2,ef an X o st st2→bS E Γ an o st2 some=some (st2.put o.dst v)):cH E Γ an X o st st':=⟨uS o v,tE v,by rw[mz];exact h,λst2 ha=>by rw[mz];exact h2 st2 ha⟩
theorem ef.rd (ha:ef an X o st st2){x:Operand}(hx:∀t∈tm x,t∈cm o):st2.rd x=st.rd x:=PH ha.ep λt ht=>ha.get t (hx t ht)
theorem KG {c x y:Operand}(ho:o.op=.pick c x y)(h:vC o c x y st some=some st'):cH E Γ an X o st st':=by
 have hr:∀st2,ef an X o st st2→st2.rd c=st.rd c∧st2.rd x=st.rd x∧st2.rd y=st.rd y:=λst2 ha=>
  ⟨ha.rd (λt ht=>by simp[cm,ho,ht]),ha.rd (λt ht=>by simp[cm,ho,ht]),ha.rd (λt ht=>by simp[cm,ho,ht])⟩
 unfold vC at h;split at h;rename_i t hc;split at h;rename_i a b hx hy;cases h;refine cH.put rfl λst2 ha=>?_;obtain⟨h1,h2,h3⟩:=hr st2 ha;simp only[bS,ho,vC,h1,h2,h3,hc,hx,hy];rename_i va vb hno;have hgo:∀st2,ef an X o st st2→bS E Γ an o st2 some=cond t (some (st2.put o.dst (st.rd x))) (some (st2.put o.dst (st.rd y))):=by intro st2 ha;obtain⟨h1,h2,h3⟩:=hr st2 ha;simp only[bS,ho,vC,h1,h2,h3,hc]
 cases t with|true=>cases h;exact cH.put rfl λst2 ha=>hgo st2 ha|false=>cases h;exact cH.put rfl λst2 ha=>hgo st2 ha
 cases h
theorem Cq {d s:Nat}{cs:List AC}{v:AV}:(⟨[(d,v)],some (s,cs),none⟩:yP).apply st=(st.cW s (some cs)).put (some d) v:=rfl
theorem EH {o:Oper}(h:vO an o=true):∃T q d,o.op=.load T (.tmp q)∧o.dst=some d∧o.guard=none∧an.mv.contains d=true∧an.mb d=none:=by unfold vO at h;split at h;rename_i T q d ho hd hg;simp only[ai,Option.isNone_iff_eq_none]at h;exact⟨T,q,d,ho,hd,hg,h.1.1,h.1.2⟩;cases h
def yJ (st:AS)(b j t:Nat)(e:CT)(i:Int)(cs:List AC)(ys:List e.D):AS:=st.cW b (some (ew cs j (.sl (.holed (some t) i (some st.ep)) e ys)))
theorem CZ {T:TypeId}{q d:Nat}(ht:vO an o=true)(ho:o.op=.load T (.tmp q))(hd:o.dst=some d)(hmv:an.mv.contains d=true)(hmb:an.mb d=none):(cf E an X o st=true∧kj E an o T (.tmp q) st some=some st')↔ ∃(g:Bool)(e:CT)(offs:List (Nat×Nat))(b j t ep0:Nat)(x:e.D)(i:Int)(cs:List AC)(ys:List e.D)(y:e.D),fb E.ty T=some ⟨g,e,offs⟩∧st.rd (.tmp q)=.val false [.elt (.loc ep0 (some (.box b j,t))) e x i 0]∧(nth st.boxes b).getD none=some cs∧nth cs j=some (.sl (.own (some t)) e ys)∧idx ys i=some y∧ X.contains b=false∧an.eb q=some b∧Jy an o=false∧st'=(yJ st b j t e i cs ys).put (some d) (.val g (cellsOf e (.own none) y)):=by
 have htk:vQ an o=true:=by unfold vQ;rw[hd];simp only[hmv,hmb];rfl
 have hnl:tD an o=false:=by unfold tD;split;rename_i hd' _;rw[hd]at hd';cases hd';rw[hmb];simp;rfl
 have hnp:sZ an o=false:=by unfold sZ;split;rename_i hd' _;rw[hd]at hd';cases hd';rw[hmv];rfl;rfl
 constructor;rintro⟨hf,h⟩;unfold kj at h;split at h;rename_i hp;simp only[cf,ho,hp,hd,hmv,hmb]at hf;simp at hf;rename_i sh fl e x i off hT hp;rw[az htk]at h;simp only[cf,ho,hp,ht,hnl,hnp,Bool.or_false,bp,au,cX,gm,ai,aI]at hf;obtain⟨⟨hl0,hfm⟩,hb⟩:=hf;unfold qt at h;split at h;rename_i ep0 r t;cases r with
 |slot _ _=>cases hb
 |io _=>cases hb
 |box b j=>
  simp only[ai,aR,aI]at hb;split at h;rename_i t' e' ys hrg;split at h;rename_i he;subst he;split at h;rename_i hc;obtain⟨rfl,rfl,hct⟩:=hc;obtain⟨g,ct,offs⟩:=sh;simp only at hct;subst hct;cases hi:idx ys i with|none=>simp only[hi,aa]at h;cases h|some y=>simp only[hi,aa]at h;cases h;simp only[AS.c9]at hrg;obtain⟨cs,hcs,hj⟩:=aB.1 hrg;refine⟨g,_,offs,b,j,_,ep0,x,i,cs,ys,y,hT,hp,hcs,hj,hi,hb.2,hb.1,hfm,?_⟩;simp only[AS.dc,hcs,hd];rfl
  cases h;cases h;cases h
 cases h;cases h;rintro⟨g,e,offs,b,j,t,ep0,x,i,cs,ys,y,hT,hp,hcs,hj,hi,hX,heb,hfm,rfl⟩;constructor;simp only[cf,ho,hp,ht,hnl,hnp,hfm,hX,heb];simp;simp only[kj,hT,hp,htk,bd,qt,AS.c9,hcs,cR,hj,dite_true,and_self,hi,aa,AS.dc,hd];rfl
theorem IJ {T:TypeId}{p:Operand}(ht:vO an o=true)(ho:o.op=.load T p)(hfree:cf E an X o st=true)(h:kj E an o T p st some=some st'):cH E Γ an X o st st':=by obtain⟨T',q,d,ho',hd,hg,hmv,hmb⟩:=EH ht;rw[ho]at ho';cases ho';obtain⟨g,e,offs,b,j,t,ep0,x,i,cs,ys,y,hT,hp,hcs,hj,hi,hX,heb,hfm,rfl⟩:=(CZ ht ho hd hmv hmb).1 ⟨hfree,h⟩;refine⟨⟨[(d,.val g (cellsOf e (.own none) y))],some (b,ew cs j (.sl (.holed (some t) i (some st.ep)) e ys)),none⟩,⟨λx hx=>?_,λb' hb'=>?_,λ_ hh=>by cases hh⟩,rfl,λst2 ha=>?_⟩;simp only[cL]at hx;subst hx;simp[writes,hd];cases hb';simp only[vR,ho,hd,hmv,ae,ht,heb];simp;have h2:=((CZ (E:=E) (X:=X) (st:=st2) ht ho hd hmv hmb).2 ⟨g,e,offs,b,j,t,ep0,x,i,cs,ys,y,hT,by rw[ha.rd (λt ht=>by simpa[cm,ho]using ht)];exact hp,by rw[ha.box b hX];exact hcs,hj,hi,hX,heb,hfm,rfl⟩).2;simp only[bS,ho];rw[h2];simp only[yJ,ha.ep];rfl
theorem KE {T:TypeId}{p:Operand}(ho:o.op=.load T p)(hm:jm an o=true)(hfree:cf E an X o st=true)(h:kj E an o T p st some=some st'):cH E Γ an X o st st':=by
 cases hE:vO an o with|true=>exact IJ hE ho hfree h|false=> ?_
 have hr:∀st2,ef an X o st st2→st2.rd p=st.rd p:=λst2 ha=>ha.rd (λt ht=>by simpa[cm,ho]using ht);have htk:vQ an o=false:=by simp only[jm,ho,hE,Bool.or_false]at hm;unfold vQ;cases hdd:o.dst with|none=>rfl|some d=>rw[hdd]at hm;simp only[bV,aI]at hm;rcases hm with hm|hm;simp only[hm,cy];cases hmb:an.mb d with|none=>rw[hmb]at hm;cases hm|some _=>simp[hmb]
 unfold kj at h;split at h;rename_i sh s off hT hp;simp only[cf,ho,hp,ai,aI]at hfree;split at h;rename_i cs hb;split at h;rename_i hfit;split at h;rename_i d hd;have hbx:∀st2,ef an X o st st2→nth st2.boxes s=nth st.boxes s:=λst2 ha=>ha.box s hfree.1.1;cases hf:an.mv.contains d with
 |false=>simp only[hf,aK,bj]at h;cases h;refine cH.put (by rw[hd]) λst2 ha=>?_;simp only[bS,ho,kj,hT,hr st2 ha,hp,hbx st2 ha,hb,az hfit,hd,hf,aK,bj,ha.ep]
 |true=>
  simp only[hf,bd]at h;have hmb:an.mb d=some s:=by have:=hfree.1.2;rw[hd]at this;simp only[hf,au,cX,aR]at this;exact this
  cases h;refine⟨⟨[(d,.val sh.agg ((cs.drop off).take sh.ct.size))],some (s,bR cs off (aH st.ep ((cs.drop off).take sh.ct.size))),none⟩,⟨λx hx=>?_,λb hb'=>?_,λ_ hh=>by cases hh⟩,?_,λst2 ha=>?_⟩;simp only[cL]at hx;subst hx;simp[writes,hd];cases hb';simp only[vR,ho,hd,hf,ae,hmb];simp;rw[Cq,hd];simp only[bS,ho,kj,hT,hr st2 ha,hp,hbx st2 ha,hb,az hfit,hd,hf,bd,ha.ep,Cq]
 cases h;cases h;cases h;rename_i sh fl e x i off hT hp;rw[ar (by simp[htk])]at h;split at h;rename_i hl;split at h;rename_i hfit;cases h;refine cH.put rfl λst2 ha=>?_;simp only[bS,ho,kj,hT,hr st2 ha,hp,ha.ep,htk,aK,bj,az hl,az hfit];cases h;rename_i hl;have hroot:∀r t ep0,fl=.loc ep0 (some (r,t))→∀st2,ef an X o st st2→st2.c9 r=st.c9 r:=by rintro r t ep0 rfl st2 ha;simp only[cf,ho,hp,hE,bp,Bool.true_or,gm,ai,bV]at hfree;rcases hfree.1.1 with hq|hq;exact absurd hq hl;cases r with|slot b j=>simp only[AS.c9];rw[ha.er b (by simpa using hq)]|box b j=>simp only[AS.c9];rw[ha.box b (by simpa using hq)]|io j=>cases hq
 unfold uN at h;split at h;rename_i ep0 r t;split at h;rename_i t' e' ys hrg;split at h;rename_i he;split at h;rename_i hc;cases hi:idx (he▸ys:List _) i with|none=>rw[hi]at h;cases h|some y=>rw[hi]at h;simp only[aa]at h;cases h;refine cH.put rfl λst2 ha=>?_;simp only[bS,ho,kj,hT,hr st2 ha,hp,ha.ep,htk,aK,bj,ar hl,uN,hroot _ _ _ rfl st2 ha,hrg,dif_pos he,az hc,hi,aa]
 cases h;cases h;cases h;cases h;cases h
theorem Cs {x:Operand}(ho:o.op=.nilCheck x)(h:bS E Γ an o st some=some st'):cH E Γ an X o st st':=by have hr:∀st2,ef an X o st st2→st2.rd x=st.rd x:=λst2 ha=>ha.rd (λt ht=>by simpa[cm,ho]using ht);simp only[bS,ho]at h;split at h;rename_i s off hx;cases h;refine cH.put rfl λst2 ha=>?_;simp only[bS,ho,hr st2 ha,hx];rename_i fl e y i off hx;cases h;refine cH.put rfl λst2 ha=>?_;simp only[bS,ho,hr st2 ha,hx];cases h
theorem C9 {op:BinOp}{x y:AV}(h:(wF op x y λc=>some (st.put o.dst (.one c)))=some st'):∃v,st'=st.put o.dst v∧∀st2:AS,(wF op x y λc=>some (st2.put o.dst (.one c)))=some (st2.put o.dst v):=by have key:∀s:AS,(wF op x y λc=>some (s.put o.dst (.one c)))=(wF op x y some).bind λc=>some (s.put o.dst (.one c)):=λs=>(vU op x y some _).symm;rw[key st]at h;cases hb:wF op x y some with|none=>rw[hb]at h;cases h|some c=>rw[hb]at h;cases h;exact⟨_,rfl,λst2=>by rw[key st2,hb];rfl⟩
theorem EL {op:BinOp}{b:Bool}(h:(uY op b λc=>some (st.put o.dst (.one c)))=some st'):∃v,st'=st.put o.dst v∧∀st2:AS,(uY op b λc=>some (st2.put o.dst (.one c)))=some (st2.put o.dst v):=by unfold uY at h;split at h;cases h;exact⟨_,rfl,λst2=>rfl⟩;cases h;exact⟨_,rfl,λst2=>rfl⟩;cases h
theorem Nx {op:BinOp}{T T':TypeId}{x y:Operand}(ho:o.op=.binOp op T x y T')(h:sD E o op T x y st some=some st'):cH E Γ an X o st st':=by
 have hr:∀st2,ef an X o st st2→st2.rd x=st.rd x∧st2.rd y=st.rd y:=λst2 ha=>
  ⟨ha.rd (λt ht=>by simp[cm,ho,ht]),ha.rd (λt ht=>by simp[cm,ho,ht])⟩
 unfold sD at h;split at h;rename_i a b hx hy;split at h;rename_i hT;obtain⟨v,rfl,hv⟩:=C9 h;refine cH.put rfl λst2 ha=>?_;simp only[bS,ho,sD,(hr st2 ha).1,(hr st2 ha).2,hx,hy,az hT];exact hv st2;cases h;rename_i xs ys hx hy;split at h;rename_i ls hq;split at h;rename_i hfit;obtain⟨v,rfl,hv⟩:=C9 h;refine cH.put rfl λst2 ha=>?_;simp only[bS,ho,sD,(hr st2 ha).1,(hr st2 ha).2,hx,hy,hq,az hfit];exact hv st2;cases h;cases h;rename_i fl e xs hx hy;split at h;rename_i hT;split at h;cases h;rename_i hlen;obtain⟨v,rfl,hv⟩:=EL h;refine cH.put rfl λst2 ha=>?_;simp only[bS,ho,sD,(hr st2 ha).1,(hr st2 ha).2,hx,hy,ha.ep,az hT,ar hlen];exact hv st2;cases h;rename_i hx hy;split at h;rename_i hT;obtain⟨v,rfl,hv⟩:=EL h;refine cH.put rfl λst2 ha=>?_;simp only[bS,ho,sD,(hr st2 ha).1,(hr st2 ha).2,hx,hy,az hT];exact hv st2;cases h;rename_i a b hn1 hn2 hn3 hn4;obtain⟨v,rfl,hv⟩:=C9 h;refine cH.put rfl λst2 ha=>?_;simp only[bS,ho,sD,(hr st2 ha).1,(hr st2 ha).2];exact hv st2
theorem Pt {op:UnOp}{T:TypeId}{x:Operand}(ho:o.op=.unOp op T x)(h:(Rj op (st.rd x) λc=>some (st.put o.dst (.one c)))=some st'):cH E Γ an X o st st':=by have hr:∀st2,ef an X o st st2→st2.rd x=st.rd x:=λst2 ha=>ha.rd (λt ht=>by simpa[cm,ho]using ht);have key:∀s:AS,(Rj op (st.rd x) λc=>some (s.put o.dst (.one c)))=(Rj op (st.rd x) some).bind λc=>some (s.put o.dst (.one c)):=λs=>(Jt op (st.rd x) some _).symm;rw[key st]at h;cases hb:Rj op (st.rd x) some with|none=>rw[hb]at h;cases h|some c=>rw[hb]at h;cases h;refine cH.put rfl λst2 ha=>?_;simp only[bS,ho,hr st2 ha];rw[key st2,hb];rfl
theorem IE {S:TypeId}{p:Operand}{f:Nat}(ho:o.op=.fieldAddr S p f)(h:rJ E o S p f st some=some st'):cH E Γ an X o st st':=by have hr:∀st2,ef an X o st st2→st2.rd p=st.rd p:=λst2 ha=>ha.rd (λt ht=>by simpa[cm,ho]using ht);unfold rJ at h;split at h;rename_i hT hp;split at h;rename_i hf;cases h;refine cH.put rfl λst2 ha=>?_;simp only[bS,ho,rJ,hr st2 ha,hT,hp,hf];cases h;rename_i hT hp;split at h;rename_i hf;cases h;refine cH.put rfl λst2 ha=>?_;simp only[bS,ho,rJ,hr st2 ha,hT,hp,hf];cases h;cases h
theorem rA {v:AV}{s:AS}(h:v.now s.ep=true):v.fresh s=v:=by
 cases v with
 |tup vs=>rfl
 |val g cs=>
  simp only[AV.now,a6]at h;simp only[AV.fresh];congr 1;have:cs.map s.fresh=cs.map id:=List.map_congr_left λc hc=>by have hn:=h c hc;unfold AS.fresh;split;simp only[AC.now]at hn;rw[hn];rfl;rfl
  rw[this,List.map_id]
theorem HT {v:AV}{st st2:AS}(he:st2.ep=st.ep)(h:v.now st.ep=true∨∃g ep b j t e xs,v=.val g [.sl (.loc ep (some (.box b j,t))) e xs]∧nth st2.boxes b=nth st.boxes b):v.fresh st2=v.fresh st:=by rcases h with h|⟨g,ep,b,j,t,e,xs,rfl,hb⟩;rw[rA h,rA (by rw[he];exact h)];simp only[AV.fresh,cj,List.map_nil];congr 2;unfold AS.fresh;simp only[AS.c9,he,hb]
theorem Al {T:TypeId}{x i:Operand}(ho:o.op=.indexAddr T x i)(hfree:cf E an X o st=true)(h:ij E o T x i st some=some st'):cH E Γ an X o st st':=by
 have hr:∀st2,ef an X o st st2→st2.rd x=st.rd x∧st2.rd i=st.rd i:=λst2 ha=>
  ⟨ha.rd (λt ht=>by simp[cm,ho,ht]),ha.rd (λt ht=>by simp[cm,ho,ht])⟩
 have hf2:∀st2,ef an X o st st2→(st.rd x).fresh st2=(st.rd x).fresh st:=λst2 ha=>by refine HT ha.ep ?_;simp only[cf,ho,bV]at hfree;rcases hfree with hn|hn;exact .inl hn;split at hn;rename_i g ep b j t e xs hx;exact .inr ⟨g,ep,b,j,t,e,xs,hx,ha.box b (by simpa using hn)⟩;cases hn
 unfold ij at h;split at h;rename_i e' fl e xs k n hT hx hi;split at h;rename_i hc;cases hix:idx xs n with|none=>rw[hix]at h;cases h|some y=>rw[hix]at h;cases h;refine cH.put rfl λst2 ha=>?_;have hf3:=hf2 st2 ha;rw[hx]at hf3;simp only[bS,ho,ij,(hr st2 ha).1,(hr st2 ha).2,hf3,hT,hi,ha.ep,az hc,hix,aa]
 cases h;cases h
theorem IG {T:TypeId}{x i:Operand}(ho:o.op=.index T x i)(h:tr E o T x i st some=some st'):cH E Γ an X o st st':=by
 have hr:∀st2,ef an X o st st2→st2.rd x=st.rd x∧st2.rd i=st.rd i:=λst2 ha=>
  ⟨ha.rd (λt ht=>by simp[cm,ho,ht]),ha.rd (λt ht=>by simp[cm,ho,ht])⟩
 unfold tr at h;split at h;rename_i s k n hx hi;split at h;rename_i hc;cases hix:idx s n with|none=>rw[hix]at h;cases h|some y=>rw[hix]at h;cases h;refine cH.put rfl λst2 ha=>?_;simp only[bS,ho,tr,(hr st2 ha).1,(hr st2 ha).2,hx,hi,az hc,hix,aa]
 cases h;cases h
theorem cH.new {v:AV}(h:st'=(st.dg o.dst).put o.dst v)(h2:∀st2,ef an X o st st2→bS E Γ an o st2 some=some ((st2.dg o.dst).put o.dst v)):cH E Γ an X o st st':=⟨xH o v,DK v,by rw[yL];exact h,λst2 ha=>by rw[yL];exact h2 st2 ha⟩
theorem ef.eE (ha:ef an X o st st2):st2.eE o.dst=st.eE o.dst:=by funext j;cases hd:o.dst with|none=>rfl|some d=>simp only[AS.eE,(ha.dst d hd).1]
theorem yh {lo hi:Option Operand}{n:Nat}{f:AS→Int→Int→Option AS}(hs:∀st2,ef an X o st st2→lo.map st2.rd=lo.map st.rd∧hi.map st2.rd=hi.map st.rd)(h:iw st lo hi n (f st)=some st'):∃a b,f st a b=some st'∧∀st2,ef an X o st st2→iw st2 lo hi n (f st2)=f st2 a b:=by unfold iw at h;split at h;rename_i h1 h2;exact⟨_,_,h,λst2 ha=>by simp only[iw,(hs st2 ha).1,(hs st2 ha).2,h1,h2]⟩;rename_i h1 h2;exact⟨_,_,h,λst2 ha=>by simp only[iw,(hs st2 ha).1,(hs st2 ha).2,h1,h2]⟩;rename_i h1 h2;exact⟨_,_,h,λst2 ha=>by simp only[iw,(hs st2 ha).1,(hs st2 ha).2,h1,h2]⟩;rename_i h1 h2;exact⟨_,_,h,λst2 ha=>by simp only[iw,(hs st2 ha).1,(hs st2 ha).2,h1,h2]⟩;cases h
theorem IH {T:TypeId}{x:Operand}{lo hi:Option Operand}(ho:o.op=.slice T x lo hi none)(hm:jm an o=true)(hfree:cf E an X o st=true)(h:sy E an o T x lo hi st some=some st'):cH E Γ an X o st st':=by
 have hr:∀st2,ef an X o st st2→st2.rd x=st.rd x:=λst2 ha=>ha.rd (λt ht=>by simp[cm,ho,ht]);have hb:∀st2,ef an X o st st2→lo.map st2.rd=lo.map st.rd∧hi.map st2.rd=hi.map st.rd:=by
  intro st2 ha;constructor;cases lo with|none=>rfl|some y=>simp only[bW];rw[ha.rd (λt ht=>by simp[cm,ho,tmO,ht])]
  cases hi with|none=>rfl|some y=>simp only[bW];rw[ha.rd (λt ht=>by simp[cm,ho,tmO,ht])]
 have hnow:(st.rd x).now st.ep=true:=by simpa[cf,ho]using hfree
 have hf2:∀st2,ef an X o st st2→(st.rd x).fresh st2=st.rd x:=λst2 ha=>rA (by rw[ha.ep];exact hnow);have htk:vQ an o=false:=by simpa[jm,ho]using hm
 unfold sy at h;rw[ar (by simp[htk]),rA hnow]at h;split at h;rename_i s hx;split at h;rename_i hT;obtain⟨a,b,h1,h2⟩:=yh (f:=λs0 a b=>aa (sub s a b) λs'=>some (s0.put o.dst (.one (.str s')))) hb h;cases hsub:sub s a b with|none=>rw[hsub]at h1;cases h1|some s'=>rw[hsub]at h1;cases h1;refine cH.put rfl λst2 ha=>?_;have hf3:=hf2 st2 ha;rw[hx]at hf3;simp only[bS,ho,sy,htk,aK,bj,hr st2 ha,hx,hf3,az hT];rw[h2 st2 ha,hsub];rfl
 cases h;rename_i fl e xs hx;split at h;rename_i hT;obtain⟨a,b,h1,h2⟩:=yh (f:=λs0 a b=>aa (sub xs a b) λxs'=>some (s0.put o.dst (.one (.sl (Cz an o fl a) e xs')))) hb h;cases hsub:sub xs a b with|none=>rw[hsub]at h1;cases h1|some s'=>rw[hsub]at h1;cases h1;refine cH.put rfl λst2 ha=>?_;have hf3:=hf2 st2 ha;rw[hx]at hf3;simp only[bS,ho,sy,htk,aK,bj,hr st2 ha,hx,hf3,ha.ep,az hT];rw[h2 st2 ha,hsub];rfl
 cases h;cases h
theorem xa {args:List Operand}(hl:∀t,t∈DJ args→t∈cm o)(ha:ef an X o st st2):args.map st2.rd=args.map st.rd:=by apply List.map_congr_left;intro x hx;exact ha.rd (λt ht=>hl t (by simp only[DJ,List.mem_flatMap];exact⟨x,hx,ht⟩))
theorem Nz {ts:Array TypeId}{args:Array Operand}(ho:o.op=.call {callee:=.builtin .len,args,argTypes:=ts})(h:Co E o ts.toList args.toList st some=some st'):cH E Γ an X o st st':=by have hr:∀st2,ef an X o st st2→args.toList.map st2.rd=args.toList.map st.rd:=λst2 ha=>xa (λt ht=>by simp only[cm,ho];exact ht) ha;unfold Co at h;split at h;rename_i t s hts hx;split at h;rename_i hT;cases h;refine cH.put rfl λst2 ha=>?_;simp only[bS,ho,Co,hr st2 ha,hts,hx,az hT];cases h;rename_i t _ _ xs hts hx;split at h;rename_i hT;cases h;refine cH.put rfl λst2 ha=>?_;simp only[bS,ho,Co,hr st2 ha,hts,hx,az hT];cases h;cases h
theorem NB {ts:Array TypeId}{args:Array Operand}(ho:o.op=.call {callee:=.builtin .min,args,argTypes:=ts})(h:Dr o args.toList st some=some st'):cH E Γ an X o st st':=by have hr:∀st2,ef an X o st st2→args.toList.map st2.rd=args.toList.map st.rd:=λst2 ha=>xa (λt ht=>by simp only[cm,ho];exact ht) ha;unfold Dr at h;split at h;rename_i hx;cases h;refine cH.put rfl λst2 ha=>?_;simp only[bS,ho,Dr,hr st2 ha,hx];cases h
theorem NA {ts:Array TypeId}{args:Array Operand}(ho:o.op=.call {callee:=.builtin .max,args,argTypes:=ts})(h:Dq o args.toList st some=some st'):cH E Γ an X o st st':=by have hr:∀st2,ef an X o st st2→args.toList.map st2.rd=args.toList.map st.rd:=λst2 ha=>xa (λt ht=>by simp only[cm,ho];exact ht) ha;unfold Dq at h;split at h;rename_i hx;cases h;refine cH.put rfl λst2 ha=>?_;simp only[bS,ho,Dq,hr st2 ha,hx];cases h
theorem Nq {l:List Nat}{c:AC}(h:c.PN l=true)(hl:∀t∈l,st2.get t=st.get t):st2.Dm c=st.Dm c:=by
 cases c with
 |sl fl e xs=>
  cases fl with
  |loc ep pv=>cases pv with|none=>rfl|some q=>obtain⟨r,t⟩:=q;cases r with|slot b j=>have hb:st2.get b=st.get b:=hl b (by simpa[AC.PN]using h);simp only[AS.Dm,AS.c9,hb]|box _ _=>rfl|io _=>rfl
  |_=>rfl
 |_=>rfl
theorem Kx {l:List Nat}{x:Operand}(hx:yv l st x=true)(hl:∀t∈l,st2.get t=st.get t)(h:∀t∈tm x,st2.get t=st.get t):sX st2 x=sX st x∧tM st2 x=tM st x:=by
 cases x with
 |tmp t=>have ht:=h t (by simp[tm]);simp only[yv]at hx;cases hg:st.get t with|tup vs=>exact⟨by simp only[sX,ht,hg],by simp only[tM,ht,hg]⟩|val g cs=>rw[hg]at hx;have hm:cs.map st2.Dm=cs.map st.Dm:=List.map_congr_left λc hc=>Nq (a6.1 hx c hc) hl;exact⟨by simp only[sX,ht,hg,hm],by simp only[tM,ht,hg,hm]⟩
 |const v=>exact⟨rfl,rfl⟩
 |func f=>exact⟨rfl,rfl⟩
 |global g=>exact⟨rfl,rfl⟩
theorem Ds {f:Operand}{ts:Array TypeId}{args:Array Operand}(ho:o.op=.call {callee:=.value f,args,argTypes:=ts})(hfree:cf E an X o st=true){k:Nat}(hf:st.rd f=.val false [.fn k])(hbx:(Γ k).bx=true)(hcur:(Γ k).cur=true)(h:nQ Γ o k args.toList st some=some st'):cH E Γ an X o st st':=by
 unfold nQ at h;split at h;rename_i x0 xs hargs;split at h;rename_i s hx0;have hfr:m9 an X (Oi an o) st (x0::xs)=true:=by have h1:=hfree;simp only[cf,ho,ai]at h1;rw[←hargs];exact h1.1
 have hx1:∃q,x0=.tmp q∧X.contains s=false∧an.sb q=some s∧(match (nth st.boxes s).getD none with|some cs=>cs.all AC.xJ|none=>true)=true∧xs.all (yv (Oi an o) st)=true:=by cases x0 with|tmp q=>simp only[m9,hx0,OF,ai,aI,aR]at hfr;exact⟨q,rfl,hfr.1.1.1,hfr.1.1.2,hfr.1.2,hfr.2⟩|const v=>simp only[m9,hx0,AV.Ml]at hfr;cases hfr|func v=>simp only[m9,hx0,AV.Ml]at hfr;cases hfr|global v=>simp only[m9,hx0,AV.Ml]at hfr;cases hfr
 obtain⟨q,rfl,hX,hsb,hall,hself⟩:=hx1;split at h;rename_i cs hb0;rw[hb0]at hall;simp only at hall;cases hc:(cs.all (AC.qJ (uT cs))&&xs.all (tM st))with
 |false=>rw[hc]at h;cases h
 |true=>
  rw[hc]at h;simp only[ae]at h;cases hres:(Γ k).fn (.val true (cs.map AC.GM)::xs.map (sX st))with
  |none=>rw[hres]at h;cases h
  |some y=>
   rw[hres]at h;simp only[aa]at h;cases hc2:(((Γ k).back y).all (AC.qJ true)&&((Γ k).av y).NF)with
   |false=>rw[hc2]at h;cases h
   |true=>
    rw[hc2]at h;simp only[ae,hcur,hall,bZ,aU]at h;subst h;refine⟨⟨o.dst.toList.map λd=>(d,((Γ k).av y).uU st.ep (st.eE o.dst)),some (s,kx (uT cs) (λ_=>none) 0 ((Γ k).back y)),o.dst⟩,⟨λx hx=>?_,λb hb=>?_,λd hd=>hd⟩,?_,λst2 ha=>?_⟩;simp only[List.mem_map]at hx;obtain⟨d,hd,rfl⟩:=hx;simp[writes,hd];cases hb;simp[vR,ho,hargs,hsb];unfold yP.apply AS.put AS.dg AS.cW;cases o.dst<;>rfl;have e1:st2.rd f=st.rd f:=ha.rd (λt ht=>by simp[cm,ho,ht]);have hl:∀x∈Operand.tmp q::xs,∀t∈tm x,t∈cm o:=by intro x hx t ht;simp only[cm,ho,aq,DJ,List.mem_flatMap,hargs];exact .inr ⟨x,hx,ht⟩
    have e2:st2.rd (.tmp q)=st.rd (.tmp q):=ha.rd (hl _ (by simp));have e3:nth st2.boxes s=nth st.boxes s:=ha.box s hX;have e4:∀x∈xs,sX st2 x=sX st x∧tM st2 x=tM st x:=λx hx=>Kx (a6.1 hself x hx) ha.er λt ht=>ha.get t (hl x (by simp[hx]) t ht);have e5:xs.map (sX st2)=xs.map (sX st):=List.map_congr_left λx hx=>(e4 x hx).1;have e6:xs.all (tM st2)=xs.all (tM st):=by rw[bH];simp only[a6];exact⟨λg x hx=>by rw[←(e4 x hx).2];exact g x hx,λg x hx=>by rw[(e4 x hx).2];exact g x hx⟩
    simp only[bS,ho,uW,e1,hf,hbx,ae,nQ,hargs,e2,hx0,e3,hb0,e5,e6,hc,hres,aa,hc2,hcur,hall,bZ,ha.ep,ha.eE];unfold yP.apply AS.put AS.dg AS.cW;cases o.dst<;>rfl
 cases h;cases h;cases h
theorem KD (hΓ:∀f,(Γ f).io=false∧((Γ f).bx=true→(Γ f).cur=true)∧(Γ f).pr=false){f:Operand}{ts:Array TypeId}{args:Array Operand}(ho:o.op=.call {callee:=.value f,args,argTypes:=ts})(hfree:cf E an X o st=true)(h:uW Γ o f args.toList st some=some st'):cH E Γ an X o st st':=by
 have hr:∀st2,ef an X o st st2→st2.rd f=st.rd f∧(args.toList.map λx=>((st2.rd x).fresh st2).asArg st2.ep)=args.toList.map λx=>((st.rd x).fresh st).asArg st.ep:=by
  intro st2 ha;refine⟨ha.rd (λt ht=>by simp[cm,ho,ht]),?_⟩;apply List.map_congr_left;intro x hx;have hnow:(st.rd x).now st.ep=true:=by simp only[cf,ho,ai,a6]at hfree;exact hfree.2 x hx
  rw[ha.rd (λt ht=>by simp only[cm,ho,aq,DJ,List.mem_flatMap];exact .inr ⟨x,hx,ht⟩),rA hnow,rA (s:=st2) (by rw[ha.ep];exact hnow),ha.ep]
 unfold uW at h;split at h
 ·rename_i k hf
  cases hbx:(Γ k).bx with
  |true=>rw[hbx]at h;exact Ds ho hfree hf hbx ((hΓ k).2.1 hbx) h
  |false=>
  rw[hbx,(hΓ k).2.2,(hΓ k).1]at h
  simp only[af]at h
  cases hg:(Γ k).fn (args.toList.map λx=>((st.rd x).fresh st).asArg st.ep)with
  |none=>rw[hg]at h;cases h
  |some y=>
   rw[hg]at h
   simp only[aa]at h
   cases hsel:(Γ k).sel y with
   |true=>
    rw[hsel]at h
    cases h
    refine cH.new rfl λst2 ha=>?_
    simp only[bS,ho,uW,(hr st2 ha).1,hf,(hΓ k).1,hbx,(hΓ k).2.2,af]
    rw[(hr st2 ha).2,hg]
    simp only[aa,hsel,ae,ha.ep,ha.eE]
   |false=>
    rw[hsel]at h
    cases h
    refine cH.new rfl λst2 ha=>?_
    simp only[bS,ho,uW,(hr st2 ha).1,hf,(hΓ k).1,hbx,(hΓ k).2.2,af]
    rw[(hr st2 ha).2,hg]
    simp only[aa,hsel,af,ha.ep,ha.eE]
 cases h
theorem Dt {src dst:TypeId}{x:Operand}(ho:o.op=.convert src dst x)(h:gW E o src dst x st some=some st'):cH E Γ an X o st st':=by
 have hr:∀st2,ef an X o st st2→st2.rd x=st.rd x:=λst2 ha=>ha.rd (λt ht=>by simpa[cm,ho]using ht);unfold gW at h;split at h;rename_i h1 h2 h3;cases h;refine cH.put rfl λst2 ha=>?_;simp only[bS,ho,gW,hr st2 ha,h1,h2,h3];rename_i h1 h2 h3;cases h;refine cH.put rfl λst2 ha=>?_;simp only[bS,ho,gW,hr st2 ha,h1,h2,h3];rename_i offs val s hno h1 h2 h3;split at h;rename_i hb;unfold room at h;split at h;rename_i hrm;cases h;refine cH.new (v:=.one (.sl (.own (st.eE o.dst 0)) (.int .u8) (dm s))) rfl λst2 ha=>?_;have hval:∀k:AS→Option AS,gW E o src dst x st2 k=if E.bytes dst then room s.length (k (st2.kK o.dst (.int .u8) (dm s))) else none:=by intro k;unfold gW;rw[hr st2 ha,h1,h2,h3];obtain⟨ag,ct,of⟩:=val;cases ag with|true=>rfl|false=>cases ct with|str=>exact(hno _ rfl).elim|_=>rfl
 simp only[bS,ho];rw[hval,az hb,room,az hrm,AS.kK,ha.eE];cases h;cases h;rename_i val offs fl xs h1 h2 h3;split at h;rename_i hb;cases h;refine cH.put rfl λst2 ha=>?_;have hval:∀k:AS→Option AS,gW E o src dst x st2 k=if E.bytes src∧fl.live st2.ep then k (st2.put o.dst (.one (.str (bytesOf xs)))) else none:=by intro k;unfold gW;rw[hr st2 ha,h1,h2,h3];obtain⟨ag,ct,of⟩:=val;cases ag with|true=>rfl|false=>cases ct<;>rfl
 simp only[bS,ho];rw[hval,ha.ep,az hb];cases h;cases h
theorem zK {d:Nat}{cs:List AC}{v:AV}:(⟨[(d,v)],some (d,cs),none⟩:yP).apply st=(st.cW d (some cs)).put (some d) v:=rfl
theorem IC {T:TypeId}(ho:o.op=.alloc T)(h:tZ E o T st some=some st'):cH E Γ an X o st st':=by unfold tZ at h;split at h;rename_i d sh hd hT;split at h;rename_i hb;cases h;refine⟨⟨[(d,.one (.ptr d 0))],some (d,cellsOf sh.ct (.own none) sh.ct.zero),none⟩,⟨λx hx=>?_,λb hb'=>?_,λ_ hh=>by cases hh⟩,?_,λst2 ha=>?_⟩;simp only[cL]at hx;subst hx;simp[writes,hd];cases hb';simp[vR,ho,hd];rw[zK,hd];simp only[bS,ho,tZ,hd,hT,(ha.dst d hd).2,hb,zK];cases h;cases h
def jC (st:AS):Operand→List (Nat×AV)
 | .tmp t=>[(t,(st.get t).aH st.ep)]
 |_=>[]
theorem tz (l:List AV)(a b:List (Nat×AV)):fP l (a++b)=fP (fP l a) b:=by induction a generalizing l with|nil=>rfl|cons x a ih=>exact ih _
def AS.fE (st:AS)(l:List (Nat×AV)):AS:={st with slots:=fP st.slots l}
theorem acL:st.fE []=st:=rfl
theorem lD (a b:List (Nat×AV)):st.fE (a++b)=(st.fE a).fE b:=by simp only[AS.fE,tz]
theorem acK (d:Nat)(v:AV):st.put (some d) v=st.fE [(d,v)]:=rfl
theorem tW (x:Operand):(st.take x).2=st.fE (jC st x):=by cases x<;>rfl
theorem uR {x:Operand}(hep:st2.ep=st.ep)(h:∀t∈tm x,st2.get t=st.get t):(st2.take x).1=(st.take x).1∧(st2.take x).2=st2.fE (jC st x):=by cases x with|tmp t=>have:=h t (by simp[tm]);refine⟨this,?_⟩;rw[tW];simp only[jC,this,hep]|const v=>exact⟨rfl,rfl⟩|func f=>exact⟨rfl,rfl⟩|global g=>exact⟨rfl,rfl⟩
theorem yK {x:Operand}:∀y∈jC st x,y.1∈tm x:=by cases x<;>simp[jC,tm]
theorem KF {x:Operand}(ho:o.op=.move x)(h:tR an o x st some=some st'):cH E Γ an X o st st':=by
 unfold tR at h;cases hd:o.dst with
 |none=>rw[hd]at h;cases h
 |some d=>
  rw[hd]at h;cases hf:an.mv.contains d with
  |false=>simp only[hf,aK,bj]at h;cases h;refine cH.put (v:=st.rd x) (by rw[hd]) λst2 ha=>?_;have hr:st2.rd x=st.rd x:=ha.rd (λt ht=>by simpa[cm,ho]using ht);simp only[bS,ho,tR,hd,hf,aK,bj,hr]
  |true=>
   simp only[hf,bd]at h;cases h;have hr:∀st2,ef an X o st st2→(st2.take x).1=(st.take x).1∧(st2.take x).2=st2.fE (jC st x):=λst2 ha=>uR ha.ep λt ht=>ha.get t (by simpa[cm,ho]using ht);refine⟨⟨jC st x++[(d,(st.take x).1)],none,none⟩,⟨λy hy=>?_,λ_ hh=>(by cases hh),λ_ hh=>(by cases hh)⟩,?_,λst2 ha=>?_⟩;rcases aq.1 hy with hy|hy;have:=yK y hy;have hf':d∈an.mv:=by simpa using hf
   simp[writes,vP,ho,hd,hf',cm,this];simp only[cL]at hy;subst hy;simp[writes,hd];rw[tW];show _=st.fE _;rw[lD];rfl;simp only[bS,ho,tR,hd,hf,bd,(hr st2 ha).1,(hr st2 ha).2];show some ((st2.fE (jC st x)).put (some d) (st.take x).1)=some (st2.fE _);rw[lD];rfl
theorem HP {ep:Nat}{cs:List AC}(h:cs.all AC.dR=true):aH ep cs=cs:=by
 rw[a6]at h;unfold aH;have:cs.map (AC.borrow ep none)=cs.map id:=List.map_congr_left λc hc=>by have:=h c hc;cases c<;>first|rfl|(simp[AC.dR]at this)
 rw[this,List.map_id]
theorem Sg {s:AS}{t:Nat}{vs:List (Bool×List AC)}(h:s.get t=.tup vs):s.put (some t) (.tup vs)=s:=by cases s with|mk slots boxes ep iss io=>simp only[AS.put,AS.mk.injEq,eC];rw[de];apply List.ext_getElem?;intro i;rw[List.getElem?_set];split;rename_i hd;subst hd;simp only[AS.get,cv]at h;split;rename_i hlt;rw[List.getElem?_eq_getElem hlt]at h⊢;simp only[dE]at h;rw[h];rename_i hge;rw[List.getElem?_eq_none (fS hge)];rfl
theorem Du {t i:Nat}(ho:o.op=.extract (.tmp t) i)(hfree:cf E an X o st=true)(h:gY o t i st some=some st'):cH E Γ an X o st st':=by
 have hr:∀st2,ef an X o st st2→st2.get t=st.get t:=λst2 ha=>ha.get t (by simp[cm,ho]);unfold gY at h;simp only[cf,ho]at hfree;split at h
 ·rename_i vs hv;rw[hv]at hfree;split at h
  ·rename_i g cs hn;simp only[hn]at hfree;have hfl:cs.all AC.dR=true∨∃d,o.dst=some d∧an.mv.contains d=true:=by cases hd:o.dst with|none=>simp only[hd,Bool.or_false]at hfree;exact .inl hfree|some d=>simp only[hd,bV]at hfree;rcases hfree with h|h;exact .inl h;exact .inr ⟨d,rfl,h⟩
   rcases hfl with hfree|⟨d,hd,hmv⟩;rotate_left;cases h;refine⟨⟨[(t,.tup (ew vs i (g,aH 0 cs))),(d,.val g cs)],none,none⟩,⟨λx hx=>?_,(λ_ hb=>by cases hb),(λ_ hh=>by cases hh)⟩,?_,λst2 ha=>?_⟩;simp only[bu,List.not_mem_nil,or_false]at hx;rcases hx with rfl|rfl;simp only[writes,vP,ho,hd,hmv,ae,cm];simp;simp only[writes,hd];simp;rw[hd];rfl;have h2:st2.get t=.tup vs:=by rw[hr st2 ha,hv]
   simp only[bS,ho,gY,h2,hn,hd];rfl;skip;have hset:ew vs i (g,cs)=vs:=by rw[de];rw[cv]at hn;apply List.ext_getElem?;intro k;rw[List.getElem?_set];split;rename_i hk;subst hk;obtain⟨hl,he⟩:=List.getElem?_eq_some_iff.1 hn;rw[az hl,hn];rfl
   have key:∀s:AS,s.get t=.tup vs→(s.put (some t) (.tup (ew vs i (g,aH 0 cs))))=s:=λs hs=>by rw[HP hfree,hset,Sg hs]
   rw[key st hv]at h;cases h;refine cH.put rfl λst2 ha=>?_;have h2:st2.get t=.tup vs:=by rw[hr st2 ha,hv]
   simp only[bS,ho,gY,h2,hn];rw[key st2 h2]
  cases h
 cases h
def rq (st:AS):Operand→List (Nat×AV)
 | .tmp t=>[(t,(st.get t).aH st.ep)]
 |_=>[]
theorem C2 (st:AS)(x:Operand):(st.take x).2=⟨fP st.slots (rq st x),st.boxes,st.ep,st.iss,st.io⟩:=by cases x<;>rfl
theorem II {T:TypeId}{pp:Nat}{x:Operand}(ho:o.op=.store T (.tmp pp) x)(hd:o.dst=none)(hm:jm an o=true)(hfree:cf E an X o st=true)(h:pj E T (.tmp pp) x st some=some st'):cH E Γ an X o st st':=by
 have hr:∀st2,ef an X o st st2→st2.rd (.tmp pp)=st.rd (.tmp pp):=λst2 ha=>ha.rd (λt ht=>by simp only[cm,ho,aq];exact .inl ht);have hsb:(an.sb pp).isNone=false:=by simp only[jm,ho,ai]at hm;cases hb:an.sb pp with|none=>rw[hb]at hm;cases hm.1|some _=>rfl
 simp only[cf,ho,hsb,cy,cX]at hfree;unfold pj at h;split at h;rename_i sh s off hT hp;rw[hp]at hfree;simp only[ai,aI,aR]at hfree;split at h;rename_i gg vs st1 htk;have htk1:(st.take x).1=.val gg vs:=by rw[htk]
 have hst1:st1=⟨fP st.slots (rq st x),st.boxes,st.ep,st.iss,st.io⟩:=by rw[←C2,htk]
 split at h;rename_i cs hb;split at h;rename_i hlen;split at h;rename_i hfit;cases h;have hbx:∀st2,ef an X o st st2→nth st2.boxes s=nth st.boxes s:=λst2 ha=>ha.box s hfree.1;refine⟨⟨rq st x,some (s,bR cs off vs),none⟩,⟨λy hy=>?_,λb hb'=>?_,λ_ hh=>by cases hh⟩,?_,λst2 ha=>?_⟩;cases x with|tmp t=>simp only[rq,cL]at hy;subst hy;simp only[writes,vP,ho,ae,cm,hd];simp[tm]|_=>simp[rq]at hy
 cases hb';simp only[vR,ho,hfree.2];simp;rw[hst1];rfl;have hx2:(st2.take x).1=(st.take x).1∧rq st2 x=rq st x:=by cases x with|tmp t=>have hg:st2.get t=st.get t:=ha.get t (by simp[cm,ho,tm]);simp only[AS.take,rq,hg,ha.ep];simp|const v=>exact⟨rfl,rfl⟩|func f=>exact⟨rfl,rfl⟩|global g=>exact⟨rfl,rfl⟩
 have ht2:st2.take x=(.val gg vs,⟨fP st2.slots (rq st x),st2.boxes,st2.ep,st2.iss,st2.io⟩):=by rw[←hx2.2,←C2,←htk1,←hx2.1]
 have hb2:(nth st2.boxes s).getD none=some cs:=by rw[hbx st2 ha];rw[hst1]at hb;exact hb
 have hlate:rR an o=false:=by simp only[jm,ho,ai,aI]at hm;exact hm.2
 simp only[bS,ho,hd,hlate,aK,bj,pj,hT,hr st2 ha,hp,ht2,hb2,az hlen,az hfit];rfl;cases h;cases h;cases h;cases h;rename_i r _ _ _ _ _ _ hp;rw[hp]at hfree;cases r<;>simp at hfree;cases h
theorem Ge {x:Operand}(ho:o.op=.assign x)(hm:jm an o=true)(h:nP E an o x st some=some st'):cH E Γ an X o st st':=by
 have hr:∀st2,ef an X o st st2→(st2.take x).1=(st.take x).1∧(st2.take x).2=st2.fE (jC st x):=λst2 ha=>uR ha.ep λt ht=>ha.get t (by simpa[cm,ho]using ht);have hlate:rR an o=false:=by simpa[jm,ho]using hm
 unfold nP at h;split at h;rename_i st1 htk;split at h;rename_i e hT;cases h;refine cH.put rfl λst2 ha=>?_;have h2:st2.take x=(.val false [.nilsl],st2.fE (jC st x)):=Prod.ext (by rw[(hr st2 ha).1,htk]) (hr st2 ha).2;simp only[bS,ho,nP,hlate,aK,bj,h2,hT];cases h;rename_i v st1 hno htk;cases h;have hst1:st1=st.fE (jC st x):=by rw[←tW,htk]
 refine⟨⟨jC st x++o.dst.toList.map λd=>(d,v),none,none⟩,⟨λy hy=>?_,λ_ hh=>(by cases hh),λ_ hh=>(by cases hh)⟩,?_,λst2 ha=>?_⟩;rcases aq.1 hy with hy|hy;have:=yK y hy;simp[writes,vP,ho,cm,this];obtain⟨d,hd,rfl⟩:=List.mem_map.1 hy;simp[writes,hd];rw[hst1];show _=st.fE _;rw[lD];cases o.dst<;>rfl;have h2:st2.take x=(v,st2.fE (jC st x)):=Prod.ext (by rw[(hr st2 ha).1,htk]) (hr st2 ha).2;simp only[bS,ho,nP,hlate,aK,bj,h2];show some ((st2.fE (jC st x)).put o.dst v)=some (st2.fE _);rw[lD];cases o.dst<;>rfl
theorem fD {α:Type}(l:List α)(i:Nat)(v:α)(t:Nat):nth (ew l i v) t=if i=t then(if i<l.length then some v else none) else nth l t:=by rw[cv,de,cv,List.getElem?_set]
theorem CC (l:List AV)(a:List (Nat×AV)):(fP l a).length=l.length:=by induction a generalizing l with|nil=>rfl|cons x a ih=>rw[fP,ih,de,aO]
theorem KS {l l2:List AV}(a:List (Nat×AV))(hl:l2.length=l.length)(t:Nat)(h:nth l2 t=nth l t):nth (fP l2 a) t=nth (fP l a) t:=by induction a generalizing l l2 with|nil=>exact h|cons x a ih=>refine ih (by rw[de,de,aO,aO,hl]) ?_;rw[fD,fD,hl,h]
theorem KK {t:Nat}(h:st2.get t=st.get t)(hl:st2.slots.length=st.slots.length):nth st2.slots t=nth st.slots t:=by unfold AS.get at h;rw[cv,cv]at h⊢;rcases bc t st.slots.length with hlt|hge;rw[List.getElem?_eq_getElem hlt,List.getElem?_eq_getElem (by omega)]at h⊢;simpa using h;rw[List.getElem?_eq_none hge,List.getElem?_eq_none (by omega)]
def fK (st:AS):List Operand→List (Nat×AV)
 |[]=>[]
 |x::xs=>jC st x++fK (st.fE (jC st x)) xs
theorem sB:∀(xs:List Operand)(st:AS),∀y∈fK st xs,y.1∈DJ xs
 |[],_,y,hy=>by cases hy
 |x::xs,st,y,hy=>by simp only[DJ,List.flatMap_cons,aq];rcases aq.1 hy with hy|hy;exact .inl (yK y hy);exact .inr (sB xs _ y hy)
theorem tC:∀(xs:List Operand)(st st2:AS),st2.ep=st.ep→st2.slots.length=st.slots.length→(∀t∈DJ xs,nth st2.slots t=nth st.slots t)→
 (da st2 xs).1=(da st xs).1∧(da st2 xs).2=st2.fE (fK st xs)
 |[],st,st2,_,_,_=>⟨rfl,rfl⟩
 |x::xs,st,st2,hep,hl,hg=>by
  have hx:∀t∈tm x,st2.get t=st.get t:=λt ht=>by unfold AS.get;rw[hg t (by simp[DJ,ht])]
  obtain⟨h1,h2⟩:=uR (st:=st) (st2:=st2) hep hx;have h3:=tW (st:=st) x;obtain⟨k1,k2⟩:=tC xs (st.fE (jC st x)) (st2.fE (jC st x)) hep (by simp only[AS.fE,CC,hl]) (λt ht=>KS _ hl t (hg t (by simp only[DJ,List.flatMap_cons,aq];exact .inr ht)));have e1:da st (x::xs)=((st.take x).1::(da (st.take x).2 xs).1,(da (st.take x).2 xs).2):=rfl;have e2:da st2 (x::xs)=((st2.take x).1::(da (st2.take x).2 xs).1,(da (st2.take x).2 xs).2):=rfl;rw[e1,e2,h1,h2,h3];refine⟨by rw[k1],?_⟩;show(da (st2.fE (jC st x)) xs).2=_;rw[k2,fK,lD]
theorem uQ (xs:List Operand):(da st xs).2=st.fE (fK st xs):=(tC xs st st rfl rfl (λ_ _=>rfl)).2
theorem ef.da (ha:ef an X o st st2){xs:List Operand}(hx:∀t∈DJ xs,t∈cm o):(da st2 xs).1=(Dn.da st xs).1∧(Dn.da st2 xs).2=st2.fE (fK st xs):=tC xs st st2 ha.ep ha.len λt ht=>KK (ha.get t (hx t ht)) ha.len
theorem ID {T:TypeId}{parts:Array (Nat×Operand)}(ho:o.op=.build T parts)(h:tj E o T parts.toList st some=some st'):cH E Γ an X o st st':=by
 have hl:∀t∈DJ (parts.toList.map (·.2)),t∈cm o:=λt ht=>by simp only[cm,ho];exact ht
 unfold tj at h;split at h;rename_i ct offs hT;split at h;rename_i vs st1 htk;have hst1:st1=st.fE (fK st (parts.toList.map (·.2))):=by rw[←uQ,htk]
 split at h;rename_i cs hb;cases h;refine⟨⟨fK st (parts.toList.map (·.2))++o.dst.toList.map λd=>(d,.val true cs),none,none⟩,⟨λy hy=>?_,λ_ hh=>(by cases hh),λ_ hh=>(by cases hh)⟩,?_,λst2 ha=>?_⟩;rcases aq.1 hy with hy|hy;have:=hl _ (sB _ _ y hy);simp[writes,vP,ho,this];obtain⟨d,hd,rfl⟩:=List.mem_map.1 hy;simp[writes,hd];rw[hst1];show _=st.fE _;rw[lD];cases o.dst<;>rfl;obtain⟨k1,k2⟩:=ha.da hl;have h2:da st2 (parts.toList.map (·.2))=(vs,st2.fE (fK st (parts.toList.map (·.2)))):=Prod.ext (by rw[k1,htk]) k2;simp only[bS,ho,tj,hT,h2,hb];show some ((st2.fE _).put o.dst _)=some (st2.fE _);rw[lD];cases o.dst<;>rfl;cases h;cases h
theorem cH.W1 {tl:List (Nat×AV)}{v:AV}(ht:vP an o=true)(hl:∀y∈tl,y.1∈cm o)(h:st'=((st.fE tl).dg o.dst).put o.dst v)(h2:∀st2,ef an X o st st2→bS E Γ an o st2 some=some (((st2.fE tl).dg o.dst).put o.dst v)):cH E Γ an X o st st':=by
 have key:∀s:AS,(⟨tl++o.dst.toList.map λd=>(d,v),none,o.dst⟩:yP).apply s=((s.fE tl).dg o.dst).put o.dst v:=by intro s;cases o.dst with|none=>simp only[yP.apply,Option.toList,List.map_nil,a7,AS.fE,AS.dg,AS.put]|some d=>simp only[yP.apply,Option.toList,cj,List.map_nil,tz,AS.fE,AS.dg,AS.put,fP]
 refine⟨⟨tl++o.dst.toList.map λd=>(d,v),none,o.dst⟩,⟨λy hy=>?_,λ_ hh=>(by cases hh),λd hh=>hh⟩,by rw[key];exact h,λst2 ha=>by rw[key];exact h2 st2 ha⟩;rcases aq.1 hy with hy|hy;simp[writes,ht,hl y hy];obtain⟨d,hd,rfl⟩:=List.mem_map.1 hy;simp[writes,hd]
theorem rC {tl:List (Nat×AV)}{d:Option Nat}:(st.fE tl).eE d=st.eE d:=rfl
theorem zn {T:TypeId}{len:Nat}{parts:Array (Nat×Operand)}(ho:o.op=.buildSlice T len parts)(h:gT E o T len parts.toList st some=some st'):cH E Γ an X o st st':=by
 have hl:∀t∈DJ (parts.toList.map (·.2)),t∈cm o:=λt ht=>by simp only[cm,ho];exact ht
 unfold gT at h;split at h;rename_i e hT;split at h;rename_i hc;split at h;rename_i vs st1 htk;have hst1:st1=st.fE (fK st (parts.toList.map (·.2))):=by rw[←uQ,htk]
 split at h;rename_i xs hb;cases h;refine cH.W1 (tl:=fK st (parts.toList.map (·.2))) (v:=.one (.sl (.own (st.eE o.dst 0)) e xs)) (by simp[vP,ho]) (λy hy=>hl _ (sB _ _ y hy)) ?_ λst2 ha=>?_;rw[hst1,AS.kK,rC];obtain⟨k1,k2⟩:=ha.da hl;have h2:da st2 (parts.toList.map (·.2))=(vs,st2.fE (fK st (parts.toList.map (·.2)))):=Prod.ext (by rw[k1,htk]) k2;simp only[bS,ho,gT,hT,h2,hb,az hc];rw[AS.kK,rC,ha.eE];cases h;cases h;cases h
theorem Am {T:TypeId}{n c:Operand}(ho:o.op=.makeSlice T n c)(h:jO E o T n c st some=some st'):cH E Γ an X o st st':=by
 have hr:∀st2,ef an X o st st2→st2.rd n=st.rd n∧st2.rd c=st.rd c:=λst2 ha=>
  ⟨ha.rd (λt ht=>by simp[cm,ho,ht]),ha.rd (λt ht=>by simp[cm,ho,ht])⟩
 unfold jO at h;split at h;rename_i e len cap hT hn hc;split at h;rename_i hlc;unfold room at h;split at h;rename_i hrm;cases h;refine cH.new (v:=.one (.sl (.own (st.eE o.dst 0)) e (List.replicate len.toNat e.zero))) rfl λst2 ha=>?_;simp only[bS,ho,jO,(hr st2 ha).1,(hr st2 ha).2,hT,hn,hc,az hlc,room,az hrm,AS.kK,ha.eE];cases h;cases h;cases h
theorem Gd {ts:Array TypeId}{args:Array Operand}(ho:o.op=.call {callee:=.builtin .append,args,argTypes:=ts})(h:po E o ts.toList args.toList st some=some st'):cH E Γ an X o st st':=by
 have hlk:∀t∈DJ args.toList,t∈cm o:=λt ht=>by simp only[cm,ho];exact ht
 unfold po at h;split at h;rename_i t t' s x hts hargs;have hl:∀u∈DJ [s,x],u∈cm o:=by rw[←hargs];exact hlk
 have hboth:∀st2,ef an X o st st2→(st2.take s).1=(st.take s).1∧((st2.take s).2.take x).1=((st.take s).2.take x).1∧((st2.take s).2.take x).2=st2.fE (fK st [s,x]):=by intro st2 ha;obtain⟨k1,k2⟩:=ha.da hl;simp only[Dn.da,List.cons.injEq,eC]at k1 k2;exact⟨k1.1,k1.2,k2⟩
 have hself:((st.take s).2.take x).2=st.fE (fK st [s,x]):=uQ (st:=st) [s,x];split at h;rename_i tag e xs st1 htk1;split at h;rename_i fl e' ys st1' htk2;split at h;rename_i he;subst he;split at h;rename_i hc;unfold room at h;split at h;rename_i hrm;cases h;have hst1:(st.take s).2=st1:=by rw[htk1]
 have hst2:st1'=st.fE (fK st [s,x]):=by rw[←hself,hst1,htk2]
 refine cH.W1 (tl:=fK st [s,x]) (v:=.one (.sl (.own (st.eE o.dst 0)) e' (xs++ys))) (by simp[vP,ho]) (λy hy=>hl _ (sB _ _ y hy)) ?_ λst2 ha=>?_;rw[hst2,AS.kK,rC];obtain⟨k1,k2,k3⟩:=hboth st2 ha;have e1:st2.take s=(.val false [.sl (.own tag) e' xs],(st2.take s).2):=Prod.ext (by rw[k1,htk1]) rfl;have e2:(st2.take s).2.take x=(.val false [.sl fl e' ys],st2.fE (fK st [s,x])):=Prod.ext (by rw[k2,hst1,htk2]) k3;simp only[bS,ho,po,hts,hargs];rw[e1];simp only;rw[e2];simp only[dite_true,ha.ep,az hc,room,az hrm,AS.kK,rC,ha.eE];cases h;cases h;cases h;rename_i sx st1' htk2;split at h;rename_i he;subst he;split at h;rename_i hc;unfold room at h;split at h;rename_i hrm;cases h;have hst1:(st.take s).2=st1:=by rw[htk1]
 have hst2:st1'=st.fE (fK st [s,x]):=by rw[←hself,hst1,htk2]
 refine cH.W1 (tl:=fK st [s,x]) (v:=.one (.sl (.own (st.eE o.dst 0)) (.int .u8) (xs++dm sx))) (by simp[vP,ho]) (λy hy=>hl _ (sB _ _ y hy)) ?_ λst2 ha=>?_;rw[hst2,AS.kK,rC];obtain⟨k1,k2,k3⟩:=hboth st2 ha;have e1:st2.take s=(.val false [.sl (.own tag) (.int .u8) xs],(st2.take s).2):=Prod.ext (by rw[k1,htk1]) rfl;have e2:(st2.take s).2.take x=(.val false [.str sx],st2.fE (fK st [s,x])):=Prod.ext (by rw[k2,hst1,htk2]) k3;simp only[bS,ho,po,hts,hargs];rw[e1];simp only;rw[e2];simp only[dite_true,az hc,room,az hrm,AS.kK,rC,ha.eE];cases h;cases h;cases h;cases h;cases h;cases h
theorem Ny {T:TypeId}{x:Operand}(ho:o.op=.box T x)(h:EZ o x st some=some st'):cH E Γ an X o st st':=by
 have hr:∀st2,ef an X o st st2→(st2.take x).1=(st.take x).1∧(st2.take x).2=st2.fE (jC st x):=λst2 ha=>uR ha.ep λt ht=>ha.get t (by simpa[cm,ho]using ht);unfold EZ at h;split at h;rename_i d g cs st1 hd htk;have hst1:st1=st.fE (jC st x):=by rw[←tW,htk]
 split at h;rename_i hb;split at h;rename_i hs;cases h;have hb0:nth st.boxes d=some none:=by rw[hst1]at hb;exact hb
 have key:∀s:AS,(⟨jC st x++[(d,.one (.ptr d 0))],some (d,cs),none⟩:yP).apply s=((s.fE (jC st x)).cW d (some cs)).put (some d) (.one (.ptr d 0)):=by intro s;simp only[yP.apply,tz,AS.fE,AS.cW,AS.put,fP]
 refine⟨⟨jC st x++[(d,.one (.ptr d 0))],some (d,cs),none⟩,⟨λy hy=>?_,λb hb'=>?_,λ_ hh=>(by cases hh)⟩,?_,λst2 ha=>?_⟩;rcases aq.1 hy with hy|hy;have:=yK y hy;simp[writes,vP,ho,cm,this];simp only[cL]at hy;subst hy;simp[writes,hd];cases hb';simp[vR,ho,hd];rw[key,hst1,hd];have h2:st2.take x=(.val g cs,st2.fE (jC st x)):=Prod.ext (by rw[(hr st2 ha).1,htk]) (hr st2 ha).2;have hb2:nth (st2.fE (jC st x)).boxes d=some none:=by show nth st2.boxes d=_;rw[(ha.dst d hd).2];exact hb0
 simp only[bS,ho,EZ,hd,h2,hb2,az hs,key];cases h;cases h;cases h
theorem CU (hΓ:∀f,(Γ f).io=false∧((Γ f).bx=true→(Γ f).cur=true)∧(Γ f).pr=false)(hm:jm an o=true)(hfree:cf E an X o st=true)(h:bS E Γ an o st some=some st'):cH E Γ an X o st st':=by
 have h0:=h;unfold bS at h;split at h;rename_i ho;exact KF ho h;rename_i ho;have hlate:rR an o=false:=by simpa[jm,ho]using hm
 rw[ar (by simp[hlate])]at h;exact Ge ho hm h;rename_i ho;exact KG ho h;rename_i ho;exact IC ho h;rename_i ho;exact Ny ho h;rename_i ho;exact KE ho hm hfree h;rename_i T p x ho;split at h;rename_i hd;cases p with
 |tmp pp=>
  have hlate:rR an o=false:=by simp only[jm,ho,ai,aI]at hm;exact hm.2
  rw[ar (by simp[hlate])]at h;exact II ho hd hm hfree h
 |const v=>simp[jm,ho]at hm
 |func f=>simp[jm,ho]at hm
 |global g=>simp[jm,ho]at hm
 cases h;rename_i ho;exact Cs ho h0;rename_i ho;exact Nx ho h;rename_i ho;exact Pt ho h;rename_i ho;exact IE ho h;rename_i ho;exact Al ho hfree h;rename_i ho;exact IG ho h;rename_i ho;exact ID ho h;rename_i ho;exact zn ho h;rename_i ho;exact Am ho h;rename_i ho;exact IH ho hm hfree h;rename_i ho;simp[jm,ho]at hm;rename_i ho;simp[jm,ho]at hm;rename_i ho;exact Dt ho h;rename_i ho;exact Du ho hfree h;rename_i ho;exact Nz ho h;rename_i ho;exact NB ho h;rename_i ho;exact NA ho h;rename_i ho;exact Gd ho h;rename_i ho;exact KD hΓ ho hfree h;cases h
end Go.Dn
