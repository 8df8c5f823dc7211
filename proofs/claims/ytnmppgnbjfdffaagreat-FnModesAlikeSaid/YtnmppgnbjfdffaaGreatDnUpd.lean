import Derived.Test.YtnmppgnbjfdffaaGreatDnMask
/- What an operation looks at and what it turns: for regions whose order is drawn. -/
namespace Go.Dn
structure IA where
 slots:List (Nat×AV):=[]
 box:Option (Nat×List AC):=none
 iss:Option Nat:=none
def kF (l:ay AV):ay (Nat×AV)->ay AV
 |[]=>l
 |x::r=>kF (iR l x.1 x.2) r
def IA.apply (u:IA)(st:AS):AS:=
 ⟨kF st.slots u.slots,(match u.box with|some b=>iR st.boxes b.1 (some b.2)|none=>st.boxes),st.ep,(match u.iss with|some d=>iR st.iss d true|none=>st.iss),st.io⟩
structure iJ (an:An) (X:List Nat) (o:Oper) (st st2:AS):Prop where
 len:st2.slots.length=st.slots.length
 get:∀t∈dY o,st2.get t=st.get t
 ep:st2.ep=st.ep
 dst:∀d,o.dst=some d->nth st2.iss d=nth st.iss d/\nth st2.boxes d=nth st.boxes d
 box:∀s,X.contains s=false->nth st2.boxes s=nth st.boxes s
 er:∀t∈erS an o,st2.get t=st.get t
structure IA.F7 (an:An) (u:IA) (o:Oper):Prop where
 slots:∀x∈u.slots,x.1∈writes an o
 box:∀b,u.box=some b->b.1∈ES an o
 iss:∀d,u.iss=some d->o.dst=some d
variable {E:Env} {Γ:zP} {an:An} {X:fR} {o:Oper} {st st2 bX:AS}
variable {v:AV} {parts:Array (Nat×Operand)} {args:Array Operand} {ts:Array TypeId} {t:Nat} {f p x:Operand} {T:TypeId} {tl:ay (Nat×AV)} {cs:ay AC}
theorem afh (yi:st2.ep=st.ep)(h:∀t∈tm x,st2.get t=st.get t):st2.rd x=st.rd x:=by cases x with|tmp t=>simp only[AS.rd,yi,h t (by simp[tm])]|const v=>rfl|func f=>rfl|global g=>rfl
def eV (E:Env)(Γ:zP)(an:An)(X:fR)(o:Oper)(st bX:AS):Prop:=
 ∃u:IA,u.F7 an o/\bX=u.apply st/\∀st2,iJ an X o st st2->dD E Γ an o st2 some=some (u.apply st2)
def Di (o:Oper)(v:AV):IA:={slots:=o.dst.toList.map λd=>(d,v)}
theorem sr (v:AV):(Di o v).apply st=st.put o.dst v:=by unfold Di IA.apply AS.put;cases o.dst<;>rfl
theorem BO (v:AV):(Di o v).F7 an o:=by refine⟨λx hx=>?_,λb hb=>by simp[Di]at hb,λd hd=>by simp[Di]at hd⟩;simp only[Di,dp]at hx;obtain⟨d,hd,rfl⟩:=hx;simp[writes,hd]
def GJ (o:Oper)(v:AV):IA:={slots:=o.dst.toList.map λd=>(d,v),iss:=o.dst}
theorem Iv (v:AV):(GJ o v).apply st=(st.gv o.dst).put o.dst v:=by unfold GJ IA.apply AS.put AS.gv;cases o.dst<;>rfl
theorem O2 (v:AV):(GJ o v).F7 an o:=by refine⟨λx hx=>?_,λb hb=>by simp[GJ]at hb,λd hd=>by simpa[GJ]using hd⟩;simp only[GJ,dp]at hx;obtain⟨d,hd,rfl⟩:=hx;simp[writes,hd]
theorem eV.put (h:bX=st.put o.dst v)(h2:∀st2,iJ an X o st st2->dD E Γ an o st2 some=some (st2.put o.dst v)):eV E Γ an X o st bX:=⟨Di o v,BO v,by rw[sr];exact h,λst2 ha=>by rw[sr];exact h2 st2 ha⟩
theorem iJ.rd (ha:iJ an X o st st2)(hx:∀t∈tm x,t∈dY o):st2.rd x=st.rd x:=afh ha.ep λt ht=>ha.get t (hx t ht)
theorem X4 {c y:Operand}(ho:o.op=.pick c x y)(h:Et o c x y st some=some bX):eV E Γ an X o st bX:=by
 have hr:∀st2,iJ an X o st st2->st2.rd c=st.rd c/\st2.rd x=st.rd x/\st2.rd y=st.rd y:=λst2 ha=>
  ⟨ha.rd (λt ht=>by simp[dY,ho,ht]),ha.rd (λt ht=>by simp[dY,ho,ht]),ha.rd (λt ht=>by simp[dY,ho,ht])⟩
 unfold Et at h;split at h;rename_i t hc;split at h;rename_i a b hx hy;cases h;refine eV.put rfl λst2 ha=>?_;obtain⟨h1,h2,h3⟩:=hr st2 ha;simp only[dD,ho,Et,h1,h2,h3,hc,hx,hy];rename_i va vb GR;have hgo:∀st2,iJ an X o st st2->dD E Γ an o st2 some=cond t (some (st2.put o.dst (st.rd x))) (some (st2.put o.dst (st.rd y))):=by intro st2 ha;obtain⟨h1,h2,h3⟩:=hr st2 ha;simp only[dD,ho,Et,h1,h2,h3,hc]
 cases t with|true=>cases h;exact eV.put rfl λst2 ha=>hgo st2 ha|false=>cases h;exact eV.put rfl λst2 ha=>hgo st2 ha
 cases h
theorem MY {d s:Nat}:(⟨[(d,v)],some (s,cs),none⟩:IA).apply st=(st.fD s (some cs)).put (some d) v:=rfl
theorem QC {o:Oper}(h:EK an o=true):∃T q d,o.op=.load T (.tmp q)/\o.dst=some d/\o.guard=none/\an.mv.contains d=true/\an.mb d=none:=by unfold EK at h;split at h;rename_i T q d ho hd hg;simp only[ab,Option.isNone_iff_eq_none]at h;exact⟨T,q,d,ho,hd,hg,h.1.1,h.1.2⟩;cases h
def It (st:AS)(b j t:Nat)(e:CT)(i:Int)(cs:ay AC)(ys:ay e.D):AS:=st.fD b (some (iR cs j (.sl (.gj (some t) i (some st.ep)) e ys)))
theorem NT {q d:Nat}(ht:EK an o=true)(ho:o.op=.load T (.tmp q))(hd:o.dst=some d)(Dy:an.mv.contains d=true)(VY:an.mb d=none):(dP E an X o st=true/\pC E an o T (.tmp q) st some=some bX)↔ ∃(g:Bool)(e:CT)(kE:ay (Nat×Nat))(b j t L3:Nat)(x:e.D)(i:Int)(cs:ay AC)(ys:ay e.D)(y:e.D),jN E.ty T=some ⟨g,e,kE⟩/\st.rd (.tmp q)=.val false [.BA (.loc L3 (some (.box b j,t))) e x i 0]/\(nth st.boxes b).getD none=some cs/\nth cs j=some (.sl (.own (some t)) e ys)/\idx ys i=some y/\ X.contains b=false/\an.eb q=some b/\VV an o=false/\bX=(It st b j t e i cs ys).put (some d) (.val g (cellsOf e (.own none) y)):=by
 have sN:EO an o=true:=by unfold EO;rw[hd];simp only[Dy,VY];rfl
 have J8:BM an o=false:=by unfold BM;split;rename_i FD _;rw[hd]at FD;cases FD;rw[VY];simp;rfl
 have hnp:Bh an o=false:=by unfold Bh;split;rename_i FD _;rw[hd]at FD;cases FD;rw[Dy];rfl;rfl
 constructor;rintro⟨hf,h⟩;unfold pC at h;split at h;rename_i hp;simp only[dP,ho,hp,hd,Dy,VY]at hf;simp at hf;rename_i sh fl e x i off hT hp;rw[aF sN]at h;simp only[dP,ho,hp,ht,J8,hnp,Bool.or_false,bQ,ak,cd,ja,ab,aN]at hf;obtain⟨⟨GQ,Lh⟩,hb⟩:=hf;unfold ya at h;split at h;rename_i L3 r t;cases r with
 |slot _ _=>cases hb
 |io _=>cases hb
 |box b j=>
  simp only[ab,bm,aN]at hb;split at h;rename_i t' e' ys VZ;split at h;rename_i he;subst he;split at h;rename_i hc;obtain⟨rfl,rfl,J6⟩:=hc;obtain⟨g,ct,kE⟩:=sh;simp only at J6;subst J6;cases hi:idx ys i with|none=>simp only[hi,aa]at h;cases h|some y=>simp only[hi,aa]at h;cases h;simp only[AS.fK]at VZ;obtain⟨cs,IV,hj⟩:=aW.1 VZ;refine⟨g,_,kE,b,j,_,L3,x,i,cs,ys,y,hT,hp,IV,hj,hi,hb.2,hb.1,Lh,?_⟩;simp only[AS.fQ,IV,hd];rfl
  cases h;cases h;cases h
 cases h;cases h;rintro⟨g,e,kE,b,j,t,L3,x,i,cs,ys,y,hT,hp,IV,hj,hi,hX,RF,Lh,rfl⟩;constructor;simp only[dP,ho,hp,ht,J8,hnp,Lh,hX,RF];simp;simp only[pC,hT,hp,sN,cc,ya,AS.fK,IV,fg,hj,dite_true,and_self,hi,aa,AS.fQ,hd];rfl
theorem UQ (ht:EK an o=true)(ho:o.op=.load T p)(hY:dP E an X o st=true)(h:pC E an o T p st some=some bX):eV E Γ an X o st bX:=by obtain⟨T',q,d,KS,hd,hg,Dy,VY⟩:=QC ht;rw[ho]at KS;cases KS;obtain⟨g,e,kE,b,j,t,L3,x,i,cs,ys,y,hT,hp,IV,hj,hi,hX,RF,Lh,rfl⟩:=(NT ht ho hd Dy VY).1 ⟨hY,h⟩;refine⟨⟨[(d,.val g (cellsOf e (.own none) y))],some (b,iR cs j (.sl (.gj (some t) i (some st.ep)) e ys)),none⟩,⟨λx hx=>?_,λb' im=>?_,λ_ hh=>by cases hh⟩,rfl,λst2 ha=>?_⟩;simp only[bn]at hx;subst hx;simp[writes,hd];cases im;simp only[ES,ho,hd,Dy,ah,ht,RF];simp;have h2:=((NT (E:=E) (X:=X) (st:=st2) ht ho hd Dy VY).2 ⟨g,e,kE,b,j,t,L3,x,i,cs,ys,y,hT,by rw[ha.rd (λt ht=>by simpa[dY,ho]using ht)];exact hp,by rw[ha.box b hX];exact IV,hj,hi,hX,RF,Lh,rfl⟩).2;simp only[dD,ho];rw[h2];simp only[It,ha.ep];rfl
theorem X2 (ho:o.op=.load T p)(hm:oa an o=true)(hY:dP E an X o st=true)(h:pC E an o T p st some=some bX):eV E Γ an X o st bX:=by
 cases hE:EK an o with|true=>exact UQ hE ho hY h|false=> ?_
 have hr:∀st2,iJ an X o st st2->st2.rd p=st.rd p:=λst2 ha=>ha.rd (λt ht=>by simpa[dY,ho]using ht);have sN:EO an o=false:=by simp only[oa,ho,hE,Bool.or_false]at hm;unfold EO;cases RE:o.dst with|none=>rfl|some d=>rw[RE]at hm;simp only[cH,aN]at hm;rcases hm with hm|hm;simp only[hm,eZ];cases VY:an.mb d with|none=>rw[VY]at hm;cases hm|some _=>simp[VY]
 unfold pC at h;split at h;rename_i sh s off hT hp;simp only[dP,ho,hp,ab,aN]at hY;split at h;rename_i cs hb;split at h;rename_i iB;split at h;rename_i d hd;have kC:∀st2,iJ an X o st st2->nth st2.boxes s=nth st.boxes s:=λst2 ha=>ha.box s hY.1.1;cases hf:an.mv.contains d with
 |false=>simp only[hf,bh,cn]at h;cases h;refine eV.put (by rw[hd]) λst2 ha=>?_;simp only[dD,ho,pC,hT,hr st2 ha,hp,kC st2 ha,hb,aF iB,hd,hf,bh,cn,ha.ep]
 |true=>
  simp only[hf,cc]at h;have VY:an.mb d=some s:=by have:=hY.1.2;rw[hd]at this;simp only[hf,ak,cd,bm]at this;exact this
  cases h;refine⟨⟨[(d,.val sh.agg ((cs.drop off).take sh.ct.size))],some (s,eX cs off (bf st.ep ((cs.drop off).take sh.ct.size))),none⟩,⟨λx hx=>?_,λb im=>?_,λ_ hh=>by cases hh⟩,?_,λst2 ha=>?_⟩;simp only[bn]at hx;subst hx;simp[writes,hd];cases im;simp only[ES,ho,hd,hf,ah,VY];simp;rw[MY,hd];simp only[dD,ho,pC,hT,hr st2 ha,hp,kC st2 ha,hb,aF iB,hd,hf,cc,ha.ep,MY]
 cases h;cases h;cases h;rename_i sh fl e x i off hT hp;rw[aH (by simp[sN])]at h;split at h;rename_i hl;split at h;rename_i iB;cases h;refine eV.put rfl λst2 ha=>?_;simp only[dD,ho,pC,hT,hr st2 ha,hp,ha.ep,sN,bh,cn,aF hl,aF iB];cases h;rename_i hl;have FN:∀r t L3,fl=.loc L3 (some (r,t))->∀st2,iJ an X o st st2->st2.fK r=st.fK r:=by rintro r t L3 rfl st2 ha;simp only[dP,ho,hp,hE,bQ,iM,ja,ab,cH]at hY;rcases hY.1.1 with hq|hq;exact absurd hq hl;cases r with|slot b j=>simp only[AS.fK];rw[ha.er b (by simpa using hq)]|box b j=>simp only[AS.fK];rw[ha.box b (by simpa using hq)]|io j=>cases hq
 unfold Da at h;split at h;rename_i L3 r t;split at h;rename_i t' e' ys VZ;split at h;rename_i he;split at h;rename_i hc;cases hi:idx (he▸ys:List _) i with|none=>rw[hi]at h;cases h|some y=>rw[hi]at h;simp only[aa]at h;cases h;refine eV.put rfl λst2 ha=>?_;simp only[dD,ho,pC,hT,hr st2 ha,hp,ha.ep,sN,bh,cn,aH hl,Da,FN _ _ _ rfl st2 ha,VZ,dif_pos he,aF hc,hi,aa]
 cases h;cases h;cases h;cases h;cases h
theorem M4 (ho:o.op=.nilCheck x)(h:dD E Γ an o st some=some bX):eV E Γ an X o st bX:=by have hr:∀st2,iJ an X o st st2->st2.rd x=st.rd x:=λst2 ha=>ha.rd (λt ht=>by simpa[dY,ho]using ht);simp only[dD,ho]at h;split at h;rename_i s off hx;cases h;refine eV.put rfl λst2 ha=>?_;simp only[dD,ho,hr st2 ha,hx];rename_i fl e y i off hx;cases h;refine eV.put rfl λst2 ha=>?_;simp only[dD,ho,hr st2 ha,hx];cases h
theorem N3 {op:BinOp}{x y:AV}(h:(FA op x y λc=>some (st.put o.dst (.one c)))=some bX):∃v,bX=st.put o.dst v/\∀st2:AS,(FA op x y λc=>some (st2.put o.dst (.one c)))=some (st2.put o.dst v):=by have key:∀s:AS,(FA op x y λc=>some (s.put o.dst (.one c)))=(FA op x y some).bind λc=>some (s.put o.dst (.one c)):=λs=>(E1 op x y some _).symm;rw[key st]at h;cases hb:FA op x y some with|none=>rw[hb]at h;cases h|some c=>rw[hb]at h;cases h;exact⟨_,rfl,λst2=>by rw[key st2,hb];rfl⟩
theorem QF {op:BinOp}{b:Bool}(h:(Du op b λc=>some (st.put o.dst (.one c)))=some bX):∃v,bX=st.put o.dst v/\∀st2:AS,(Du op b λc=>some (st2.put o.dst (.one c)))=some (st2.put o.dst v):=by unfold Du at h;split at h;cases h;exact⟨_,rfl,λst2=>rfl⟩;cases h;exact⟨_,rfl,λst2=>rfl⟩;cases h
theorem abG {op:BinOp}{T':TypeId}{y:Operand}(ho:o.op=.binOp op T x y T')(h:AM E o op T x y st some=some bX):eV E Γ an X o st bX:=by
 have hr:∀st2,iJ an X o st st2->st2.rd x=st.rd x/\st2.rd y=st.rd y:=λst2 ha=>
  ⟨ha.rd (λt ht=>by simp[dY,ho,ht]),ha.rd (λt ht=>by simp[dY,ho,ht])⟩
 unfold AM at h;split at h;rename_i a b hx hy;split at h;rename_i hT;obtain⟨v,rfl,hv⟩:=N3 h;refine eV.put rfl λst2 ha=>?_;simp only[dD,ho,AM,(hr st2 ha).1,(hr st2 ha).2,hx,hy,aF hT];exact hv st2;cases h;rename_i xs ys hx hy;split at h;rename_i ls hq;split at h;rename_i iB;obtain⟨v,rfl,hv⟩:=N3 h;refine eV.put rfl λst2 ha=>?_;simp only[dD,ho,AM,(hr st2 ha).1,(hr st2 ha).2,hx,hy,hq,aF iB];exact hv st2;cases h;cases h;rename_i fl e xs hx hy;split at h;rename_i hT;split at h;cases h;rename_i hlen;obtain⟨v,rfl,hv⟩:=QF h;refine eV.put rfl λst2 ha=>?_;simp only[dD,ho,AM,(hr st2 ha).1,(hr st2 ha).2,hx,hy,ha.ep,aF hT,aH hlen];exact hv st2;cases h;rename_i hx hy;split at h;rename_i hT;obtain⟨v,rfl,hv⟩:=QF h;refine eV.put rfl λst2 ha=>?_;simp only[dD,ho,AM,(hr st2 ha).1,(hr st2 ha).2,hx,hy,aF hT];exact hv st2;cases h;rename_i a b IX DJ hn3 hn4;obtain⟨v,rfl,hv⟩:=N3 h;refine eV.put rfl λst2 ha=>?_;simp only[dD,ho,AM,(hr st2 ha).1,(hr st2 ha).2];exact hv st2
theorem aeW {op:UnOp}(ho:o.op=.unOp op T x)(h:(unC op (st.rd x) λc=>some (st.put o.dst (.one c)))=some bX):eV E Γ an X o st bX:=by have hr:∀st2,iJ an X o st st2->st2.rd x=st.rd x:=λst2 ha=>ha.rd (λt ht=>by simpa[dY,ho]using ht);have key:∀s:AS,(unC op (st.rd x) λc=>some (s.put o.dst (.one c)))=(unC op (st.rd x) some).bind λc=>some (s.put o.dst (.one c)):=λs=>(VM op (st.rd x) some _).symm;rw[key st]at h;cases hb:unC op (st.rd x) some with|none=>rw[hb]at h;cases h|some c=>rw[hb]at h;cases h;refine eV.put rfl λst2 ha=>?_;simp only[dD,ho,hr st2 ha];rw[key st2,hb];rfl
theorem UM {S:TypeId}{f:Nat}(ho:o.op=.fieldAddr S p f)(h:zT E o S p f st some=some bX):eV E Γ an X o st bX:=by have hr:∀st2,iJ an X o st st2->st2.rd p=st.rd p:=λst2 ha=>ha.rd (λt ht=>by simpa[dY,ho]using ht);unfold zT at h;split at h;rename_i hT hp;split at h;rename_i hf;cases h;refine eV.put rfl λst2 ha=>?_;simp only[dD,ho,zT,hr st2 ha,hT,hp,hf];cases h;rename_i hT hp;split at h;rename_i hf;cases h;refine eV.put rfl λst2 ha=>?_;simp only[dD,ho,zT,hr st2 ha,hT,hp,hf];cases h;cases h
theorem zG {s:AS}(h:v.now s.ep=true):v.fresh s=v:=by
 cases v with
 |wh vs=>rfl
 |val g cs=>
  simp only[AV.now,aL]at h;simp only[AV.fresh];congr 1;have:cs.map s.fresh=cs.map id:=List.map_congr_left λc hc=>by have hn:=h c hc;unfold AS.fresh;split;simp only[AC.now]at hn;rw[hn];rfl;rfl
  rw[this,List.map_id]
theorem TH {st st2:AS}(he:st2.ep=st.ep)(h:v.now st.ep=true\/∃g ep b j t e xs,v=.val g [.sl (.loc ep (some (.box b j,t))) e xs]/\nth st2.boxes b=nth st.boxes b):v.fresh st2=v.fresh st:=by rcases h with h|⟨g,ep,b,j,t,e,xs,rfl,hb⟩;rw[zG h,zG (by rw[he];exact h)];simp only[AV.fresh,cZ,List.map_nil];congr 2;unfold AS.fresh;simp only[AS.fK,he,hb]
theorem K0 {i:Operand}(ho:o.op=.indexAddr T x i)(hY:dP E an X o st=true)(h:mY E o T x i st some=some bX):eV E Γ an X o st bX:=by
 have hr:∀st2,iJ an X o st st2->st2.rd x=st.rd x/\st2.rd i=st.rd i:=λst2 ha=>
  ⟨ha.rd (λt ht=>by simp[dY,ho,ht]),ha.rd (λt ht=>by simp[dY,ho,ht])⟩
 have B8:∀st2,iJ an X o st st2->(st.rd x).fresh st2=(st.rd x).fresh st:=λst2 ha=>by refine TH ha.ep ?_;simp only[dP,ho,cH]at hY;rcases hY with hn|hn;exact .inl hn;split at hn;rename_i g ep b j t e xs hx;exact .inr ⟨g,ep,b,j,t,e,xs,hx,ha.box b (by simpa using hn)⟩;cases hn
 unfold mY at h;split at h;rename_i e' fl e xs k n hT hx hi;split at h;rename_i hc;cases Ed:idx xs n with|none=>rw[Ed]at h;cases h|some y=>rw[Ed]at h;cases h;refine eV.put rfl λst2 ha=>?_;have hf3:=B8 st2 ha;rw[hx]at hf3;simp only[dD,ho,mY,(hr st2 ha).1,(hr st2 ha).2,hf3,hT,hi,ha.ep,aF hc,Ed,aa]
 cases h;cases h
theorem UN {i:Operand}(ho:o.op=.index T x i)(h:BF E o T x i st some=some bX):eV E Γ an X o st bX:=by
 have hr:∀st2,iJ an X o st st2->st2.rd x=st.rd x/\st2.rd i=st.rd i:=λst2 ha=>
  ⟨ha.rd (λt ht=>by simp[dY,ho,ht]),ha.rd (λt ht=>by simp[dY,ho,ht])⟩
 unfold BF at h;split at h;rename_i s k n hx hi;split at h;rename_i hc;cases Ed:idx s n with|none=>rw[Ed]at h;cases h|some y=>rw[Ed]at h;cases h;refine eV.put rfl λst2 ha=>?_;simp only[dD,ho,BF,(hr st2 ha).1,(hr st2 ha).2,hx,hi,aF hc,Ed,aa]
 cases h;cases h
theorem eV.new (h:bX=(st.gv o.dst).put o.dst v)(h2:∀st2,iJ an X o st st2->dD E Γ an o st2 some=some ((st2.gv o.dst).put o.dst v)):eV E Γ an X o st bX:=⟨GJ o v,O2 v,by rw[Iv];exact h,λst2 ha=>by rw[Iv];exact h2 st2 ha⟩
theorem iJ.je (ha:iJ an X o st st2):st2.je o.dst=st.je o.dst:=by funext j;cases hd:o.dst with|none=>rfl|some d=>simp only[AS.je,(ha.dst d hd).1]
theorem HT {lo hi:aC Operand}{n:Nat}{f:AS->Int->Int->aC AS}(hs:∀st2,iJ an X o st st2->lo.map st2.rd=lo.map st.rd/\hi.map st2.rd=hi.map st.rd)(h:nr st lo hi n (f st)=some bX):∃a b,f st a b=some bX/\∀st2,iJ an X o st st2->nr st2 lo hi n (f st2)=f st2 a b:=by unfold nr at h;split at h;rename_i h1 h2;exact⟨_,_,h,λst2 ha=>by simp only[nr,(hs st2 ha).1,(hs st2 ha).2,h1,h2]⟩;rename_i h1 h2;exact⟨_,_,h,λst2 ha=>by simp only[nr,(hs st2 ha).1,(hs st2 ha).2,h1,h2]⟩;rename_i h1 h2;exact⟨_,_,h,λst2 ha=>by simp only[nr,(hs st2 ha).1,(hs st2 ha).2,h1,h2]⟩;rename_i h1 h2;exact⟨_,_,h,λst2 ha=>by simp only[nr,(hs st2 ha).1,(hs st2 ha).2,h1,h2]⟩;cases h
theorem UO {lo hi:aC Operand}(ho:o.op=.slice T x lo hi none)(hm:oa an o=true)(hY:dP E an X o st=true)(h:Av E an o T x lo hi st some=some bX):eV E Γ an X o st bX:=by
 have hr:∀st2,iJ an X o st st2->st2.rd x=st.rd x:=λst2 ha=>ha.rd (λt ht=>by simp[dY,ho,ht]);have hb:∀st2,iJ an X o st st2->lo.map st2.rd=lo.map st.rd/\hi.map st2.rd=hi.map st.rd:=by
  intro st2 ha;constructor;cases lo with|none=>rfl|some y=>simp only[dJ];rw[ha.rd (λt ht=>by simp[dY,ho,tmO,ht])]
  cases hi with|none=>rfl|some y=>simp only[dJ];rw[ha.rd (λt ht=>by simp[dY,ho,tmO,ht])]
 have Eg:(st.rd x).now st.ep=true:=by simpa[dP,ho]using hY
 have B8:∀st2,iJ an X o st st2->(st.rd x).fresh st2=st.rd x:=λst2 ha=>zG (by rw[ha.ep];exact Eg);have sN:EO an o=false:=by simpa[oa,ho]using hm
 unfold Av at h;rw[aH (by simp[sN]),zG Eg]at h;split at h;rename_i s hx;split at h;rename_i hT;obtain⟨a,b,h1,h2⟩:=HT (f:=λs0 a b=>aa (sub s a b) λs'=>some (s0.put o.dst (.one (.str s')))) hb h;cases qc:sub s a b with|none=>rw[qc]at h1;cases h1|some s'=>rw[qc]at h1;cases h1;refine eV.put rfl λst2 ha=>?_;have hf3:=B8 st2 ha;rw[hx]at hf3;simp only[dD,ho,Av,sN,bh,cn,hr st2 ha,hx,hf3,aF hT];rw[h2 st2 ha,qc];rfl
 cases h;rename_i fl e xs hx;split at h;rename_i hT;obtain⟨a,b,h1,h2⟩:=HT (f:=λs0 a b=>aa (sub xs a b) λOe=>some (s0.put o.dst (.one (.sl (Nd an o fl a) e Oe)))) hb h;cases qc:sub xs a b with|none=>rw[qc]at h1;cases h1|some s'=>rw[qc]at h1;cases h1;refine eV.put rfl λst2 ha=>?_;have hf3:=B8 st2 ha;rw[hx]at hf3;simp only[dD,ho,Av,sN,bh,cn,hr st2 ha,hx,hf3,ha.ep,aF hT];rw[h2 st2 ha,qc];rfl
 cases h;cases h
theorem F8 {args:ay Operand}(hl:∀t,t∈OZ args->t∈dY o)(ha:iJ an X o st st2):args.map st2.rd=args.map st.rd:=by apply List.map_congr_left;intro x hx;exact ha.rd (λt ht=>hl t (by simp only[OZ,List.mem_flatMap];exact⟨x,hx,ht⟩))
theorem abI (ho:o.op=.call {callee:=.builtin .len,args,argTypes:=ts})(h:MX E o ts.toList args.toList st some=some bX):eV E Γ an X o st bX:=by have hr:∀st2,iJ an X o st st2->args.toList.map st2.rd=args.toList.map st.rd:=λst2 ha=>F8 (λt ht=>by simp only[dY,ho];exact ht) ha;unfold MX at h;split at h;rename_i t s tz hx;split at h;rename_i hT;cases h;refine eV.put rfl λst2 ha=>?_;simp only[dD,ho,MX,hr st2 ha,tz,hx,aF hT];cases h;rename_i t _ _ xs tz hx;split at h;rename_i hT;cases h;refine eV.put rfl λst2 ha=>?_;simp only[dD,ho,MX,hr st2 ha,tz,hx,aF hT];cases h;cases h
theorem abK (ho:o.op=.call {callee:=.builtin .min,args,argTypes:=ts})(h:OG o args.toList st some=some bX):eV E Γ an X o st bX:=by have hr:∀st2,iJ an X o st st2->args.toList.map st2.rd=args.toList.map st.rd:=λst2 ha=>F8 (λt ht=>by simp only[dY,ho];exact ht) ha;unfold OG at h;split at h;rename_i hx;cases h;refine eV.put rfl λst2 ha=>?_;simp only[dD,ho,OG,hr st2 ha,hx];cases h
theorem abJ (ho:o.op=.call {callee:=.builtin .max,args,argTypes:=ts})(h:OF o args.toList st some=some bX):eV E Γ an X o st bX:=by have hr:∀st2,iJ an X o st st2->args.toList.map st2.rd=args.toList.map st.rd:=λst2 ha=>F8 (λt ht=>by simp only[dY,ho];exact ht) ha;unfold OF at h;split at h;rename_i hx;cases h;refine eV.put rfl λst2 ha=>?_;simp only[dD,ho,OF,hr st2 ha,hx];cases h
theorem abr {l:fR}{c:AC}(h:c.afw l=true)(hl:∀t∈l,st2.get t=st.get t):st2.OE c=st.OE c:=by
 cases c with
 |sl fl e xs=>
  cases fl with
  |loc ep pv=>cases pv with|none=>rfl|some q=>obtain⟨r,t⟩:=q;cases r with|slot b j=>have hb:st2.get b=st.get b:=hl b (by simpa[AC.afw]using h);simp only[AS.OE,AS.fK,hb]|box _ _=>rfl|io _=>rfl
  |_=>rfl
 |_=>rfl
theorem XQ {l:fR}(hx:Ia l st x=true)(hl:∀t∈l,st2.get t=st.get t)(h:∀t∈tm x,st2.get t=st.get t):Bf st2 x=Bf st x/\Ci st2 x=Ci st x:=by
 cases x with
 |tmp t=>have ht:=h t (by simp[tm]);simp only[Ia]at hx;cases hg:st.get t with|wh vs=>exact⟨by simp only[Bf,ht,hg],by simp only[Ci,ht,hg]⟩|val g cs=>rw[hg]at hx;have hm:cs.map st2.OE=cs.map st.OE:=List.map_congr_left λc hc=>abr (aL.1 hx c hc) hl;exact⟨by simp only[Bf,ht,hg,hm],by simp only[Ci,ht,hg,hm]⟩
 |const v=>exact⟨rfl,rfl⟩
 |func f=>exact⟨rfl,rfl⟩
 |global g=>exact⟨rfl,rfl⟩
theorem OH (ho:o.op=.call {callee:=.value f,args,argTypes:=ts})(hY:dP E an X o st=true){k:Nat}(hf:st.rd f=.val false [.fn k])(kC:(Γ k).bx=true)(hcur:(Γ k).cur=true)(h:uQ Γ o k args.toList st some=some bX):eV E Γ an X o st bX:=by
 unfold uQ at h;split at h;rename_i x0 xs gP;split at h;rename_i s hx0;have jQ:tw an X (erS an o) st (x0::xs)=true:=by have h1:=hY;simp only[dP,ho,ab]at h1;rw[<-gP];exact h1.1
 have hx1:∃q,x0=.tmp q/\X.contains s=false/\an.sb q=some s/\(match (nth st.boxes s).getD none with|some cs=>cs.all AC.GY|none=>true)=true/\xs.all (Ia (erS an o) st)=true:=by cases x0 with|tmp q=>simp only[tw,hx0,adk,ab,aN,bm]at jQ;exact⟨q,rfl,jQ.1.1.1,jQ.1.1.2,jQ.1.2,jQ.2⟩|const v=>simp only[tw,hx0,AV.ZR]at jQ;cases jQ|func v=>simp only[tw,hx0,AV.ZR]at jQ;cases jQ|global v=>simp only[tw,hx0,AV.ZR]at jQ;cases jQ
 obtain⟨q,rfl,hX,ZA,uJ,Ba⟩:=hx1;split at h;rename_i cs TQ;rw[TQ]at uJ;simp only at uJ;cases hc:(cs.all (AC.yz (Dq cs))&&xs.all (Ci st))with
 |false=>rw[hc]at h;cases h
 |true=>
  rw[hc]at h;simp only[ah]at h;cases iE:(Γ k).fn (.val true (cs.map AC.Sz)::xs.map (Bf st))with
  |none=>rw[iE]at h;cases h
  |some y=>
   rw[iE]at h;simp only[aa]at h;cases VW:(((Γ k).back y).all (AC.yz true)&&((Γ k).av y).abN)with
   |false=>rw[VW]at h;cases h
   |true=>
    rw[VW]at h;simp only[ah,hcur,uJ,cY,bu]at h;subst h;refine⟨⟨o.dst.toList.map λd=>(d,((Γ k).av y).Dr st.ep (st.je o.dst)),some (s,pQ (Dq cs) (λ_=>none) 0 ((Γ k).back y)),o.dst⟩,⟨λx hx=>?_,λb hb=>?_,λd hd=>hd⟩,?_,λst2 ha=>?_⟩;simp only[dp]at hx;obtain⟨d,hd,rfl⟩:=hx;simp[writes,hd];cases hb;simp[ES,ho,gP,ZA];unfold IA.apply AS.put AS.gv AS.fD;cases o.dst<;>rfl;have e1:st2.rd f=st.rd f:=ha.rd (λt ht=>by simp[dY,ho,ht]);have hl:∀x∈Operand.tmp q::xs,∀t∈tm x,t∈dY o:=by intro x hx t ht;simp only[dY,ho,ax,OZ,List.mem_flatMap,gP];exact .inr ⟨x,hx,ht⟩
    have e2:st2.rd (.tmp q)=st.rd (.tmp q):=ha.rd (hl _ (by simp));have e3:nth st2.boxes s=nth st.boxes s:=ha.box s hX;have e4:∀x∈xs,Bf st2 x=Bf st x/\Ci st2 x=Ci st x:=λx hx=>XQ (aL.1 Ba x hx) ha.er λt ht=>ha.get t (hl x (by simp[hx]) t ht);have e5:xs.map (Bf st2)=xs.map (Bf st):=List.map_congr_left λx hx=>(e4 x hx).1;have e6:xs.all (Ci st2)=xs.all (Ci st):=by rw[dN];simp only[aL];exact⟨λg x hx=>by rw[<-(e4 x hx).2];exact g x hx,λg x hx=>by rw[(e4 x hx).2];exact g x hx⟩
    simp only[dD,ho,Dt,e1,hf,kC,ah,uQ,gP,e2,hx0,e3,TQ,e5,e6,hc,iE,aa,VW,hcur,uJ,cY,ha.ep,ha.je];unfold IA.apply AS.put AS.gv AS.fD;cases o.dst<;>rfl
 cases h;cases h;cases h
theorem X1 (AD:∀f,(Γ f).io=false/\((Γ f).bx=true->(Γ f).cur=true)/\(Γ f).pr=false)(ho:o.op=.call {callee:=.value f,args,argTypes:=ts})(hY:dP E an X o st=true)(h:Dt Γ o f args.toList st some=some bX):eV E Γ an X o st bX:=by
 have hr:∀st2,iJ an X o st st2->st2.rd f=st.rd f/\(args.toList.map λx=>((st2.rd x).fresh st2).asArg st2.ep)=args.toList.map λx=>((st.rd x).fresh st).asArg st.ep:=by
  intro st2 ha;refine⟨ha.rd (λt ht=>by simp[dY,ho,ht]),?_⟩;apply List.map_congr_left;intro x hx;have Eg:(st.rd x).now st.ep=true:=by simp only[dP,ho,ab,aL]at hY;exact hY.2 x hx
  rw[ha.rd (λt ht=>by simp only[dY,ho,ax,OZ,List.mem_flatMap];exact .inr ⟨x,hx,ht⟩),zG Eg,zG (s:=st2) (by rw[ha.ep];exact Eg),ha.ep]
 unfold Dt at h;split at h
 ·rename_i k hf
  cases kC:(Γ k).bx with
  |true=>rw[kC]at h;exact OH ho hY hf kC ((AD k).2.1 kC) h
  |false=>
  rw[kC,(AD k).2.2,(AD k).1]at h
  simp only[af]at h
  cases hg:(Γ k).fn (args.toList.map λx=>((st.rd x).fresh st).asArg st.ep)with
  |none=>rw[hg]at h;cases h
  |some y=>
   rw[hg]at h
   simp only[aa]at h
   cases Ox:(Γ k).sel y with
   |true=>
    rw[Ox]at h
    cases h
    refine eV.new rfl λst2 ha=>?_
    simp only[dD,ho,Dt,(hr st2 ha).1,hf,(AD k).1,kC,(AD k).2.2,af]
    rw[(hr st2 ha).2,hg]
    simp only[aa,Ox,ah,ha.ep,ha.je]
   |false=>
    rw[Ox]at h
    cases h
    refine eV.new rfl λst2 ha=>?_
    simp only[dD,ho,Dt,(hr st2 ha).1,hf,(AD k).1,kC,(AD k).2.2,af]
    rw[(hr st2 ha).2,hg]
    simp only[aa,Ox,af,ha.ep,ha.je]
 cases h
theorem OI {src dst:TypeId}(ho:o.op=.convert src dst x)(h:mr E o src dst x st some=some bX):eV E Γ an X o st bX:=by
 have hr:∀st2,iJ an X o st st2->st2.rd x=st.rd x:=λst2 ha=>ha.rd (λt ht=>by simpa[dY,ho]using ht);unfold mr at h;split at h;rename_i h1 h2 h3;cases h;refine eV.put rfl λst2 ha=>?_;simp only[dD,ho,mr,hr st2 ha,h1,h2,h3];rename_i h1 h2 h3;cases h;refine eV.put rfl λst2 ha=>?_;simp only[dD,ho,mr,hr st2 ha,h1,h2,h3];rename_i kE val s GR h1 h2 h3;split at h;rename_i hb;unfold room at h;split at h;rename_i hrm;cases h;refine eV.new (v:=.one (.sl (.own (st.je o.dst 0)) (.int .u8) (dL s))) rfl λst2 ha=>?_;have Gl:∀k:AS->aC AS,mr E o src dst x st2 k=if E.bytes dst then room s.length (k (st2.qg o.dst (.int .u8) (dL s))) else none:=by intro k;unfold mr;rw[hr st2 ha,h1,h2,h3];obtain⟨ag,ct,of⟩:=val;cases ag with|true=>rfl|false=>cases ct with|str=>exact(GR _ rfl).elim|_=>rfl
 simp only[dD,ho];rw[Gl,aF hb,room,aF hrm,AS.qg,ha.je];cases h;cases h;rename_i val kE fl xs h1 h2 h3;split at h;rename_i hb;cases h;refine eV.put rfl λst2 ha=>?_;have Gl:∀k:AS->aC AS,mr E o src dst x st2 k=if E.bytes src/\fl.live st2.ep then k (st2.put o.dst (.one (.str (aO xs)))) else none:=by intro k;unfold mr;rw[hr st2 ha,h1,h2,h3];obtain⟨ag,ct,of⟩:=val;cases ag with|true=>rfl|false=>cases ct<;>rfl
 simp only[dD,ho];rw[Gl,ha.ep,aF hb];cases h;cases h
theorem JR {d:Nat}:(⟨[(d,v)],some (d,cs),none⟩:IA).apply st=(st.fD d (some cs)).put (some d) v:=rfl
theorem UK (ho:o.op=.alloc T)(h:Cz E o T st some=some bX):eV E Γ an X o st bX:=by unfold Cz at h;split at h;rename_i d sh hd hT;split at h;rename_i hb;cases h;refine⟨⟨[(d,.one (.ptr d 0))],some (d,cellsOf sh.ct (.own none) sh.ct.zero),none⟩,⟨λx hx=>?_,λb im=>?_,λ_ hh=>by cases hh⟩,?_,λst2 ha=>?_⟩;simp only[bn]at hx;subst hx;simp[writes,hd];cases im;simp[ES,ho,hd];rw[JR,hd];simp only[dD,ho,Cz,hd,hT,(ha.dst d hd).2,hb,JR];cases h;cases h
def oI (st:AS):Operand->ay (Nat×AV)
 | .tmp t=>[(t,(st.get t).bf st.ep)]
 |_=>[]
theorem BJ (l:ay AV)(a b:ay (Nat×AV)):kF l (a++b)=kF (kF l a) b:=by induction a generalizing l with|nil=>rfl|cons x a ih=>exact ih _
def AS.kN (st:AS)(l:ay (Nat×AV)):AS:={st with slots:=kF st.slots l}
theorem rh (a b:ay (Nat×AV)):st.kN (a++b)=(st.kN a).kN b:=by simp only[AS.kN,BJ]
theorem Ct (x:Operand):(st.take x).2=st.kN (oI st x):=by cases x<;>rfl
theorem Dg (yi:st2.ep=st.ep)(h:∀t∈tm x,st2.get t=st.get t):(st2.take x).1=(st.take x).1/\(st2.take x).2=st2.kN (oI st x):=by cases x with|tmp t=>have:=h t (by simp[tm]);refine⟨this,?_⟩;rw[Ct];simp only[oI,this,yi]|const v=>exact⟨rfl,rfl⟩|func f=>exact⟨rfl,rfl⟩|global g=>exact⟨rfl,rfl⟩
theorem Iu:∀y∈oI st x,y.1∈tm x:=by cases x<;>simp[oI,tm]
theorem X3 (ho:o.op=.move x)(h:Cl an o x st some=some bX):eV E Γ an X o st bX:=by
 unfold Cl at h;cases hd:o.dst with
 |none=>rw[hd]at h;cases h
 |some d=>
  rw[hd]at h;cases hf:an.mv.contains d with
  |false=>simp only[hf,bh,cn]at h;cases h;refine eV.put (v:=st.rd x) (by rw[hd]) λst2 ha=>?_;have hr:st2.rd x=st.rd x:=ha.rd (λt ht=>by simpa[dY,ho]using ht);simp only[dD,ho,Cl,hd,hf,bh,cn,hr]
  |true=>
   simp only[hf,cc]at h;cases h;have hr:∀st2,iJ an X o st st2->(st2.take x).1=(st.take x).1/\(st2.take x).2=st2.kN (oI st x):=λst2 ha=>Dg ha.ep λt ht=>ha.get t (by simpa[dY,ho]using ht);refine⟨⟨oI st x++[(d,(st.take x).1)],none,none⟩,⟨λy hy=>?_,λ_ hh=>(by cases hh),λ_ hh=>(by cases hh)⟩,?_,λst2 ha=>?_⟩;rcases ax.1 hy with hy|hy;have:=Iu y hy;have hf':d∈an.mv:=by simpa using hf
   simp[writes,EM,ho,hd,hf',dY,this];simp only[bn]at hy;subst hy;simp[writes,hd];rw[Ct];show _=st.kN _;rw[rh];rfl;simp only[dD,ho,Cl,hd,hf,cc,(hr st2 ha).1,(hr st2 ha).2];show some ((st2.kN (oI st x)).put (some d) (st.take x).1)=some (st2.kN _);rw[rh];rfl
theorem Tw {ep:Nat}(h:cs.all AC.kc=true):bf ep cs=cs:=by
 rw[aL]at h;unfold bf;have:cs.map (AC.borrow ep none)=cs.map id:=List.map_congr_left λc hc=>by have:=h c hc;cases c<;>first|rfl|(simp[AC.kc]at this)
 rw[this,List.map_id]
theorem ahs {s:AS}{vs:ay (Bool×ay AC)}(h:s.get t=.wh vs):s.put (some t) (.wh vs)=s:=by cases s with|mk slots boxes ep iss io=>simp only[AS.put,AS.mk.injEq,jB];rw[gr];apply dh;intro i;rw[bH];split;rename_i hd;subst hd;simp only[AS.get,eH]at h;split;rename_i ir;rw[aw ir]at h⊢;simp only[gy]at h;rw[h];rename_i zH;rw[bM (Nat.le_of_not_lt zH)];rfl
theorem OJ {i:Nat}(ho:o.op=.extract (.tmp t) i)(hY:dP E an X o st=true)(h:mw o t i st some=some bX):eV E Γ an X o st bX:=by
 have hr:∀st2,iJ an X o st st2->st2.get t=st.get t:=λst2 ha=>ha.get t (by simp[dY,ho]);unfold mw at h;simp only[dP,ho]at hY;split at h
 ·rename_i vs hv;rw[hv]at hY;split at h
  ·rename_i g cs hn;simp only[hn]at hY;have hfl:cs.all AC.kc=true\/∃d,o.dst=some d/\an.mv.contains d=true:=by cases hd:o.dst with|none=>simp only[hd,Bool.or_false]at hY;exact .inl hY|some d=>simp only[hd,cH]at hY;rcases hY with h|h;exact .inl h;exact .inr ⟨d,rfl,h⟩
   rcases hfl with hY|⟨d,hd,Dy⟩;rotate_left;cases h;refine⟨⟨[(t,.wh (iR vs i (g,bf 0 cs))),(d,.val g cs)],none,none⟩,⟨λx hx=>?_,(λ_ hb=>by cases hb),(λ_ hh=>by cases hh)⟩,?_,λst2 ha=>?_⟩;simp only[cw,List.not_mem_nil,or_false]at hx;rcases hx with rfl|rfl;simp only[writes,EM,ho,hd,Dy,ah,dY];simp;simp only[writes,hd];simp;rw[hd];rfl;have h2:st2.get t=.wh vs:=by rw[hr st2 ha,hv]
   simp only[dD,ho,mw,h2,hn,hd];rfl;skip;have Eh:iR vs i (g,cs)=vs:=by rw[gr];rw[eH]at hn;apply dh;intro k;rw[bH];split;rename_i hk;subst hk;obtain⟨hl,he⟩:=aB.1 hn;rw[aF hl,hn];rfl
   have key:∀s:AS,s.get t=.wh vs->(s.put (some t) (.wh (iR vs i (g,bf 0 cs))))=s:=λs hs=>by rw[Tw hY,Eh,ahs hs]
   rw[key st hv]at h;cases h;refine eV.put rfl λst2 ha=>?_;have h2:st2.get t=.wh vs:=by rw[hr st2 ha,hv]
   simp only[dD,ho,mw,h2,hn];rw[key st2 h2]
  cases h
 cases h
def zA (st:AS):Operand->ay (Nat×AV)
 | .tmp t=>[(t,(st.get t).bf st.ep)]
 |_=>[]
theorem NW (st:AS)(x:Operand):(st.take x).2=⟨kF st.slots (zA st x),st.boxes,st.ep,st.iss,st.io⟩:=by cases x<;>rfl
theorem UP {pp:Nat}(ho:o.op=.store T (.tmp pp) x)(hd:o.dst=none)(hm:oa an o=true)(hY:dP E an X o st=true)(h:wT E T (.tmp pp) x st some=some bX):eV E Γ an X o st bX:=by
 have hr:∀st2,iJ an X o st st2->st2.rd (.tmp pp)=st.rd (.tmp pp):=λst2 ha=>ha.rd (λt ht=>by simp only[dY,ho,ax];exact .inl ht);have ZA:(an.sb pp).isNone=false:=by simp only[oa,ho,ab]at hm;cases hb:an.sb pp with|none=>rw[hb]at hm;cases hm.1|some _=>rfl
 simp only[dP,ho,ZA,eZ,cd]at hY;unfold wT at h;split at h;rename_i sh s off hT hp;rw[hp]at hY;simp only[ab,aN,bm]at hY;split at h;rename_i gg vs st1 sN;have RO:(st.take x).1=.val gg vs:=by rw[sN]
 have Ei:st1=⟨kF st.slots (zA st x),st.boxes,st.ep,st.iss,st.io⟩:=by rw[<-NW,sN]
 split at h;rename_i cs hb;split at h;rename_i hlen;split at h;rename_i iB;cases h;have kC:∀st2,iJ an X o st st2->nth st2.boxes s=nth st.boxes s:=λst2 ha=>ha.box s hY.1;refine⟨⟨zA st x,some (s,eX cs off vs),none⟩,⟨λy hy=>?_,λb im=>?_,λ_ hh=>by cases hh⟩,?_,λst2 ha=>?_⟩;cases x with|tmp t=>simp only[zA,bn]at hy;subst hy;simp only[writes,EM,ho,ah,dY,hd];simp[tm]|_=>simp[zA]at hy
 cases im;simp only[ES,ho,hY.2];simp;rw[Ei];rfl;have ZC:(st2.take x).1=(st.take x).1/\zA st2 x=zA st x:=by cases x with|tmp t=>have hg:st2.get t=st.get t:=ha.get t (by simp[dY,ho,tm]);simp only[AS.take,zA,hg,ha.ep];simp|const v=>exact⟨rfl,rfl⟩|func f=>exact⟨rfl,rfl⟩|global g=>exact⟨rfl,rfl⟩
 have ht2:st2.take x=(.val gg vs,⟨kF st2.slots (zA st x),st2.boxes,st2.ep,st2.iss,st2.io⟩):=by rw[<-ZC.2,<-NW,<-RO,<-ZC.1]
 have Oa:(nth st2.boxes s).getD none=some cs:=by rw[kC st2 ha];rw[Ei]at hb;exact hb
 have Dx:Al an o=false:=by simp only[oa,ho,ab,aN]at hm;exact hm.2
 simp only[dD,ho,hd,Dx,bh,cn,wT,hT,hr st2 ha,hp,ht2,Oa,aF hlen,aF iB];rfl;cases h;cases h;cases h;cases h;rename_i r _ _ _ _ _ _ hp;rw[hp]at hY;cases r<;>simp at hY;cases h
theorem R6 (ho:o.op=.assign x)(hm:oa an o=true)(h:uO E an o x st some=some bX):eV E Γ an X o st bX:=by
 have hr:∀st2,iJ an X o st st2->(st2.take x).1=(st.take x).1/\(st2.take x).2=st2.kN (oI st x):=λst2 ha=>Dg ha.ep λt ht=>ha.get t (by simpa[dY,ho]using ht);have Dx:Al an o=false:=by simpa[oa,ho]using hm
 unfold uO at h;split at h;rename_i st1 sN;split at h;rename_i e hT;cases h;refine eV.put rfl λst2 ha=>?_;have h2:st2.take x=(.val false [.kx],st2.kN (oI st x)):=Prod.ext (by rw[(hr st2 ha).1,sN]) (hr st2 ha).2;simp only[dD,ho,uO,Dx,bh,cn,h2,hT];cases h;rename_i v st1 GR sN;cases h;have Ei:st1=st.kN (oI st x):=by rw[<-Ct,sN]
 refine⟨⟨oI st x++o.dst.toList.map λd=>(d,v),none,none⟩,⟨λy hy=>?_,λ_ hh=>(by cases hh),λ_ hh=>(by cases hh)⟩,?_,λst2 ha=>?_⟩;rcases ax.1 hy with hy|hy;have:=Iu y hy;simp[writes,EM,ho,dY,this];obtain⟨d,hd,rfl⟩:=dp.1 hy;simp[writes,hd];rw[Ei];show _=st.kN _;rw[rh];cases o.dst<;>rfl;have h2:st2.take x=(v,st2.kN (oI st x)):=Prod.ext (by rw[(hr st2 ha).1,sN]) (hr st2 ha).2;simp only[dD,ho,uO,Dx,bh,cn,h2];show some ((st2.kN (oI st x)).put o.dst v)=some (st2.kN _);rw[rh];cases o.dst<;>rfl
theorem kh {α:Type}(l:ay α)(i:Nat)(v:α)(t:Nat):nth (iR l i v) t=if i=t then(if i<l.length then some v else none) else nth l t:=by rw[eH,gr,eH,bH]
theorem No (l:ay AV)(a:ay (Nat×AV)):(kF l a).length=l.length:=by induction a generalizing l with|nil=>rfl|cons x a ih=>rw[kF,ih,gr,aK]
theorem Yg {l l2:ay AV}(a:ay (Nat×AV))(hl:l2.length=l.length)(t:Nat)(h:nth l2 t=nth l t):nth (kF l2 a) t=nth (kF l a) t:=by induction a generalizing l l2 with|nil=>exact h|cons x a ih=>refine ih (by rw[gr,gr,aK,aK,hl]) ?_;rw[kh,kh,hl,h]
theorem X7 (h:st2.get t=st.get t)(hl:st2.slots.length=st.slots.length):nth st2.slots t=nth st.slots t:=by unfold AS.get at h;rw[eH,eH]at h⊢;rcases bW t st.slots.length with ir|zH;rw[aw ir,aw (by omega)]at h⊢;simpa using h;rw[bM zH,bM (by omega)]
def kA (st:AS):ay Operand->ay (Nat×AV)
 |[]=>[]
 |x::xs=>oI st x++kA (st.kN (oI st x)) xs
theorem Az:∀(xs:ay Operand)(st:AS),∀y∈kA st xs,y.1∈OZ xs
 |[],_,y,hy=>by cases hy
 |x::xs,st,y,hy=>by simp only[OZ,List.flatMap_cons,ax];rcases ax.1 hy with hy|hy;exact .inl (Iu y hy);exact .inr (Az xs _ y hy)
theorem BL:∀(xs:ay Operand)(st st2:AS),st2.ep=st.ep->st2.slots.length=st.slots.length->(∀t∈OZ xs,nth st2.slots t=nth st.slots t)->
 (fL st2 xs).1=(fL st xs).1/\(fL st2 xs).2=st2.kN (kA st xs)
 |[],st,st2,_,_,_=>⟨rfl,rfl⟩
 |x::xs,st,st2,yi,hl,hg=>by
  have hx:∀t∈tm x,st2.get t=st.get t:=λt ht=>by unfold AS.get;rw[hg t (by simp[OZ,ht])]
  obtain⟨h1,h2⟩:=Dg (st:=st) (st2:=st2) yi hx;have h3:=Ct (st:=st) x;obtain⟨k1,k2⟩:=BL xs (st.kN (oI st x)) (st2.kN (oI st x)) yi (by simp only[AS.kN,No,hl]) (λt ht=>Yg _ hl t (hg t (by simp only[OZ,List.flatMap_cons,ax];exact .inr ht)));have e1:fL st (x::xs)=((st.take x).1::(fL (st.take x).2 xs).1,(fL (st.take x).2 xs).2):=rfl;have e2:fL st2 (x::xs)=((st2.take x).1::(fL (st2.take x).2 xs).1,(fL (st2.take x).2 xs).2):=rfl;rw[e1,e2,h1,h2,h3];refine⟨by rw[k1],?_⟩;show(fL (st2.kN (oI st x)) xs).2=_;rw[k2,kA,rh]
theorem De (xs:ay Operand):(fL st xs).2=st.kN (kA st xs):=(BL xs st st rfl rfl (λ_ _=>rfl)).2
theorem iJ.fL (ha:iJ an X o st st2){xs:ay Operand}(hx:∀t∈OZ xs,t∈dY o):(fL st2 xs).1=(Dn.fL st xs).1/\(Dn.fL st2 xs).2=st2.kN (kA st xs):=BL xs st st2 ha.ep ha.len λt ht=>X7 (ha.get t (hx t ht)) ha.len
theorem UL (ho:o.op=.build T parts)(h:Bw E o T parts.toList st some=some bX):eV E Γ an X o st bX:=by
 have hl:∀t∈OZ (parts.toList.map (·.2)),t∈dY o:=λt ht=>by simp only[dY,ho];exact ht
 unfold Bw at h;split at h;rename_i ct kE hT;split at h;rename_i vs st1 sN;have Ei:st1=st.kN (kA st (parts.toList.map (·.2))):=by rw[<-De,sN]
 split at h;rename_i cs hb;cases h;refine⟨⟨kA st (parts.toList.map (·.2))++o.dst.toList.map λd=>(d,.val true cs),none,none⟩,⟨λy hy=>?_,λ_ hh=>(by cases hh),λ_ hh=>(by cases hh)⟩,?_,λst2 ha=>?_⟩;rcases ax.1 hy with hy|hy;have:=hl _ (Az _ _ y hy);simp[writes,EM,ho,this];obtain⟨d,hd,rfl⟩:=dp.1 hy;simp[writes,hd];rw[Ei];show _=st.kN _;rw[rh];cases o.dst<;>rfl;obtain⟨k1,k2⟩:=ha.fL hl;have h2:fL st2 (parts.toList.map (·.2))=(vs,st2.kN (kA st (parts.toList.map (·.2)))):=Prod.ext (by rw[k1,sN]) k2;simp only[dD,ho,Bw,hT,h2,hb];show some ((st2.kN _).put o.dst _)=some (st2.kN _);rw[rh];cases o.dst<;>rfl;cases h;cases h
theorem eV.akn (ht:EM an o=true)(hl:∀y∈tl,y.1∈dY o)(h:bX=((st.kN tl).gv o.dst).put o.dst v)(h2:∀st2,iJ an X o st st2->dD E Γ an o st2 some=some (((st2.kN tl).gv o.dst).put o.dst v)):eV E Γ an X o st bX:=by
 have key:∀s:AS,(⟨tl++o.dst.toList.map λd=>(d,v),none,o.dst⟩:IA).apply s=((s.kN tl).gv o.dst).put o.dst v:=by intro s;cases o.dst with|none=>simp only[IA.apply,Option.toList,List.map_nil,bA,AS.kN,AS.gv,AS.put]|some d=>simp only[IA.apply,Option.toList,cZ,List.map_nil,BJ,AS.kN,AS.gv,AS.put,kF]
 refine⟨⟨tl++o.dst.toList.map λd=>(d,v),none,o.dst⟩,⟨λy hy=>?_,λ_ hh=>(by cases hh),λd hh=>hh⟩,by rw[key];exact h,λst2 ha=>by rw[key];exact h2 st2 ha⟩;rcases ax.1 hy with hy|hy;simp[writes,ht,hl y hy];obtain⟨d,hd,rfl⟩:=dp.1 hy;simp[writes,hd]
theorem zL {d:aC Nat}:(st.kN tl).je d=st.je d:=rfl
theorem Jg {len:Nat}(ho:o.op=.buildSlice T len parts)(h:mn E o T len parts.toList st some=some bX):eV E Γ an X o st bX:=by
 have hl:∀t∈OZ (parts.toList.map (·.2)),t∈dY o:=λt ht=>by simp only[dY,ho];exact ht
 unfold mn at h;split at h;rename_i e hT;split at h;rename_i hc;split at h;rename_i vs st1 sN;have Ei:st1=st.kN (kA st (parts.toList.map (·.2))):=by rw[<-De,sN]
 split at h;rename_i xs hb;cases h;refine eV.akn (tl:=kA st (parts.toList.map (·.2))) (v:=.one (.sl (.own (st.je o.dst 0)) e xs)) (by simp[EM,ho]) (λy hy=>hl _ (Az _ _ y hy)) ?_ λst2 ha=>?_;rw[Ei,AS.qg,zL];obtain⟨k1,k2⟩:=ha.fL hl;have h2:fL st2 (parts.toList.map (·.2))=(vs,st2.kN (kA st (parts.toList.map (·.2)))):=Prod.ext (by rw[k1,sN]) k2;simp only[dD,ho,mn,hT,h2,hb,aF hc];rw[AS.qg,zL,ha.je];cases h;cases h;cases h
theorem K1 {n c:Operand}(ho:o.op=.makeSlice T n c)(h:oW E o T n c st some=some bX):eV E Γ an X o st bX:=by
 have hr:∀st2,iJ an X o st st2->st2.rd n=st.rd n/\st2.rd c=st.rd c:=λst2 ha=>
  ⟨ha.rd (λt ht=>by simp[dY,ho,ht]),ha.rd (λt ht=>by simp[dY,ho,ht])⟩
 unfold oW at h;split at h;rename_i e len cap hT hn hc;split at h;rename_i hlc;unfold room at h;split at h;rename_i hrm;cases h;refine eV.new (v:=.one (.sl (.own (st.je o.dst 0)) e (List.replicate len.toNat e.zero))) rfl λst2 ha=>?_;simp only[dD,ho,oW,(hr st2 ha).1,(hr st2 ha).2,hT,hn,hc,aF hlc,room,aF hrm,AS.qg,ha.je];cases h;cases h;cases h
theorem R5 (ho:o.op=.call {callee:=.builtin .append,args,argTypes:=ts})(h:xa E o ts.toList args.toList st some=some bX):eV E Γ an X o st bX:=by
 have VX:∀t∈OZ args.toList,t∈dY o:=λt ht=>by simp only[dY,ho];exact ht
 unfold xa at h;split at h;rename_i t t' s x tz gP;have hl:∀u∈OZ [s,x],u∈dY o:=by rw[<-gP];exact VX
 have aih:∀st2,iJ an X o st st2->(st2.take s).1=(st.take s).1/\((st2.take s).2.take x).1=((st.take s).2.take x).1/\((st2.take s).2.take x).2=st2.kN (kA st [s,x]):=by intro st2 ha;obtain⟨k1,k2⟩:=ha.fL hl;simp only[Dn.fL,List.cons.injEq,jB]at k1 k2;exact⟨k1.1,k1.2,k2⟩
 have Ba:((st.take s).2.take x).2=st.kN (kA st [s,x]):=De (st:=st) [s,x];split at h;rename_i tag e xs st1 RO;split at h;rename_i fl e' ys akl Hq;split at h;rename_i he;subst he;split at h;rename_i hc;unfold room at h;split at h;rename_i hrm;cases h;have Ei:(st.take s).2=st1:=by rw[RO]
 have RN:akl=st.kN (kA st [s,x]):=by rw[<-Ba,Ei,Hq]
 refine eV.akn (tl:=kA st [s,x]) (v:=.one (.sl (.own (st.je o.dst 0)) e' (xs++ys))) (by simp[EM,ho]) (λy hy=>hl _ (Az _ _ y hy)) ?_ λst2 ha=>?_;rw[RN,AS.qg,zL];obtain⟨k1,k2,k3⟩:=aih st2 ha;have e1:st2.take s=(.val false [.sl (.own tag) e' xs],(st2.take s).2):=Prod.ext (by rw[k1,RO]) rfl;have e2:(st2.take s).2.take x=(.val false [.sl fl e' ys],st2.kN (kA st [s,x])):=Prod.ext (by rw[k2,Ei,Hq]) k3;simp only[dD,ho,xa,tz,gP];rw[e1];simp only;rw[e2];simp only[dite_true,ha.ep,aF hc,room,aF hrm,AS.qg,zL,ha.je];cases h;cases h;cases h;rename_i sx akl Hq;split at h;rename_i he;subst he;split at h;rename_i hc;unfold room at h;split at h;rename_i hrm;cases h;have Ei:(st.take s).2=st1:=by rw[RO]
 have RN:akl=st.kN (kA st [s,x]):=by rw[<-Ba,Ei,Hq]
 refine eV.akn (tl:=kA st [s,x]) (v:=.one (.sl (.own (st.je o.dst 0)) (.int .u8) (xs++dL sx))) (by simp[EM,ho]) (λy hy=>hl _ (Az _ _ y hy)) ?_ λst2 ha=>?_;rw[RN,AS.qg,zL];obtain⟨k1,k2,k3⟩:=aih st2 ha;have e1:st2.take s=(.val false [.sl (.own tag) (.int .u8) xs],(st2.take s).2):=Prod.ext (by rw[k1,RO]) rfl;have e2:(st2.take s).2.take x=(.val false [.str sx],st2.kN (kA st [s,x])):=Prod.ext (by rw[k2,Ei,Hq]) k3;simp only[dD,ho,xa,tz,gP];rw[e1];simp only;rw[e2];simp only[dite_true,aF hc,room,aF hrm,AS.qg,zL,ha.je];cases h;cases h;cases h;cases h;cases h;cases h
theorem abH (ho:o.op=.box T x)(h:QX o x st some=some bX):eV E Γ an X o st bX:=by
 have hr:∀st2,iJ an X o st st2->(st2.take x).1=(st.take x).1/\(st2.take x).2=st2.kN (oI st x):=λst2 ha=>Dg ha.ep λt ht=>ha.get t (by simpa[dY,ho]using ht);unfold QX at h;split at h;rename_i d g cs st1 hd sN;have Ei:st1=st.kN (oI st x):=by rw[<-Ct,sN]
 split at h;rename_i hb;split at h;rename_i hs;cases h;have TQ:nth st.boxes d=some none:=by rw[Ei]at hb;exact hb
 have key:∀s:AS,(⟨oI st x++[(d,.one (.ptr d 0))],some (d,cs),none⟩:IA).apply s=((s.kN (oI st x)).fD d (some cs)).put (some d) (.one (.ptr d 0)):=by intro s;simp only[IA.apply,BJ,AS.kN,AS.fD,AS.put,kF]
 refine⟨⟨oI st x++[(d,.one (.ptr d 0))],some (d,cs),none⟩,⟨λy hy=>?_,λb im=>?_,λ_ hh=>(by cases hh)⟩,?_,λst2 ha=>?_⟩;rcases ax.1 hy with hy|hy;have:=Iu y hy;simp[writes,EM,ho,dY,this];simp only[bn]at hy;subst hy;simp[writes,hd];cases im;simp[ES,ho,hd];rw[key,Ei,hd];have h2:st2.take x=(.val g cs,st2.kN (oI st x)):=Prod.ext (by rw[(hr st2 ha).1,sN]) (hr st2 ha).2;have Oa:nth (st2.kN (oI st x)).boxes d=some none:=by show nth st2.boxes d=_;rw[(ha.dst d hd).2];exact TQ
 simp only[dD,ho,QX,hd,h2,Oa,aF hs,key];cases h;cases h;cases h
theorem NQ (AD:∀f,(Γ f).io=false/\((Γ f).bx=true->(Γ f).cur=true)/\(Γ f).pr=false)(hm:oa an o=true)(hY:dP E an X o st=true)(h:dD E Γ an o st some=some bX):eV E Γ an X o st bX:=by
 have h0:=h;unfold dD at h;split at h;rename_i ho;exact X3 ho h;rename_i ho;have Dx:Al an o=false:=by simpa[oa,ho]using hm
 rw[aH (by simp[Dx])]at h;exact R6 ho hm h;rename_i ho;exact X4 ho h;rename_i ho;exact UK ho h;rename_i ho;exact abH ho h;rename_i ho;exact X2 ho hm hY h;rename_i T p x ho;split at h;rename_i hd;cases p with
 |tmp pp=>
  have Dx:Al an o=false:=by simp only[oa,ho,ab,aN]at hm;exact hm.2
  rw[aH (by simp[Dx])]at h;exact UP ho hd hm hY h
 |const v=>simp[oa,ho]at hm
 |func f=>simp[oa,ho]at hm
 |global g=>simp[oa,ho]at hm
 cases h;rename_i ho;exact M4 ho h0;rename_i ho;exact abG ho h;rename_i ho;exact aeW ho h;rename_i ho;exact UM ho h;rename_i ho;exact K0 ho hY h;rename_i ho;exact UN ho h;rename_i ho;exact UL ho h;rename_i ho;exact Jg ho h;rename_i ho;exact K1 ho h;rename_i ho;exact UO ho hm hY h;rename_i ho;simp[oa,ho]at hm;rename_i ho;simp[oa,ho]at hm;rename_i ho;exact OI ho h;rename_i ho;exact OJ ho hY h;rename_i ho;exact abI ho h;rename_i ho;exact abK ho h;rename_i ho;exact abJ ho h;rename_i ho;exact R5 ho h;rename_i ho;exact X1 AD ho hY h;cases h
end Go.Dn
