import Derived.Test.YtpgnehchfeikmaaGreatDnMask
/- What an operation looks at and what it turns: for regions whose order is drawn. -/
namespace Go.Dn
structure yT where
 slots:List (Nat×AV):=[]
 box:Option (Nat×List AC):=none
 iss:Option Nat:=none
def fR (l:List AV):List (Nat×AV)→List AV
 |[]=>l
 |x::r=>fR (ez l x.1 x.2) r
def yT.apply (u:yT)(st:AS):AS:=
 ⟨fR st.slots u.slots,(match u.box with|some b=>ez st.boxes b.1 (some b.2)|none=>st.boxes),st.ep,(match u.iss with|some d=>ez st.iss d true|none=>st.iss),st.io⟩
structure eo (an:An) (X:List Nat) (o:Oper) (st st2:AS):Prop where
 len:st2.slots.length=st.slots.length
 get:∀t∈cr o,st2.get t=st.get t
 ep:st2.ep=st.ep
 dst:∀d,o.dst=some d→nth st2.iss d=nth st.iss d∧nth st2.boxes d=nth st.boxes d
 box:∀s,X.contains s=false→nth st2.boxes s=nth st.boxes s
 er:∀t∈PB an o,st2.get t=st.get t
structure yT.w7 (an:An) (u:yT) (o:Oper):Prop where
 slots:∀x∈u.slots,x.1∈writes an o
 box:∀b,u.box=some b→b.1∈vZ an o
 iss:∀d,u.iss=some d→o.dst=some d
variable {E:Env} {Γ:cG} {an:An} {X:List Nat} {o:Oper} {st st2 st':AS}
theorem Rc {x:Operand}(hep:st2.ep=st.ep)(h:∀t∈tm x,st2.get t=st.get t):st2.rd x=st.rd x:=by cases x with|tmp t=>simp only[AS.rd,hep,h t (by simp[tm])]|const v=>rfl|func f=>rfl|global g=>rfl
def cO (E:Env)(Γ:cG)(an:An)(X:List Nat)(o:Oper)(st st':AS):Prop:=
 ∃u:yT,u.w7 an o∧st'=u.apply st∧∀st2,eo an X o st st2→cf E Γ an o st2 some=some (u.apply st2)
def uN (o:Oper)(v:AV):yT:={slots:=o.dst.toList.map λd=>(d,v)}
theorem lT (v:AV):(uN o v).apply st=st.put o.dst v:=by unfold uN yT.apply AS.put;cases o.dst<;>rfl
theorem tC (v:AV):(uN o v).w7 an o:=by refine⟨λx hx=>?_,λb hb=>by simp[uN]at hb,λd hd=>by simp[uN]at hd⟩;simp only[uN,List.mem_map]at hx;obtain⟨d,hd,rfl⟩:=hx;simp[writes,hd]
def xw (o:Oper)(v:AV):yT:={slots:=o.dst.toList.map λd=>(d,v),iss:=o.dst}
theorem yP (v:AV):(xw o v).apply st=(st.dp o.dst).put o.dst v:=by unfold xw yT.apply AS.put AS.dp;cases o.dst<;>rfl
theorem Ef (v:AV):(xw o v).w7 an o:=by refine⟨λx hx=>?_,λb hb=>by simp[xw]at hb,λd hd=>by simpa[xw]using hd⟩;simp only[xw,List.mem_map]at hx;obtain⟨d,hd,rfl⟩:=hx;simp[writes,hd]
theorem cO.put {v:AV}(h:st'=st.put o.dst v)(h2:∀st2,eo an X o st st2→cf E Γ an o st2 some=some (st2.put o.dst v)):cO E Γ an X o st st':=⟨uN o v,tC v,by rw[lT];exact h,λst2 ha=>by rw[lT];exact h2 st2 ha⟩
theorem eo.rd (ha:eo an X o st st2){x:Operand}(hx:∀t∈tm x,t∈cr o):st2.rd x=st.rd x:=Rc ha.ep λt ht=>ha.get t (hx t ht)
theorem Lu {c x y:Operand}(ho:o.op=.pick c x y)(h:vH o c x y st some=some st'):cO E Γ an X o st st':=by
 have hr:∀st2,eo an X o st st2→st2.rd c=st.rd c∧st2.rd x=st.rd x∧st2.rd y=st.rd y:=λst2 ha=>
  ⟨ha.rd (λt ht=>by simp[cr,ho,ht]),ha.rd (λt ht=>by simp[cr,ho,ht]),ha.rd (λt ht=>by simp[cr,ho,ht])⟩
 unfold vH at h;split at h;rename_i t hc;split at h;rename_i a b hx hy;cases h;refine cO.put rfl λst2 ha=>?_;obtain⟨h1,h2,h3⟩:=hr st2 ha;simp only[cf,ho,vH,h1,h2,h3,hc,hx,hy];rename_i va vb hno;have hgo:∀st2,eo an X o st st2→cf E Γ an o st2 some=cond t (some (st2.put o.dst (st.rd x))) (some (st2.put o.dst (st.rd y))):=by intro st2 ha;obtain⟨h1,h2,h3⟩:=hr st2 ha;simp only[cf,ho,vH,h1,h2,h3,hc]
 cases t with|true=>cases h;exact cO.put rfl λst2 ha=>hgo st2 ha|false=>cases h;exact cO.put rfl λst2 ha=>hgo st2 ha
 cases h
theorem CF {d s:Nat}{cs:List AC}{v:AV}:(⟨[(d,v)],some (s,cs),none⟩:yT).apply st=(st.cX s (some cs)).put (some d) v:=rfl
theorem E8 {o:Oper}(h:vV an o=true):∃T q d,o.op=.load T (.tmp q)∧o.dst=some d∧o.guard=none∧an.mv.contains d=true∧an.mb d=none:=by unfold vV at h;split at h;rename_i T q d ho hd hg;simp only[ab,Option.isNone_iff_eq_none]at h;exact⟨T,q,d,ho,hd,hg,h.1.1,h.1.2⟩;cases h
def yN (st:AS)(b j t:Nat)(e:CT)(i:Int)(cs:List AC)(ys:List e.D):AS:=st.cX b (some (ez cs j (.sl (.holed (some t) i (some st.ep)) e ys)))
theorem Ds {T:TypeId}{q d:Nat}(ht:vV an o=true)(ho:o.op=.load T (.tmp q))(hd:o.dst=some d)(hmv:an.mv.contains d=true)(hmb:an.mb d=none):(cn E an X o st=true∧jF E an o T (.tmp q) st some=some st')↔ ∃(g:Bool)(e:CT)(offs:List (Nat×Nat))(b j t ep0:Nat)(x:e.D)(i:Int)(cs:List AC)(ys:List e.D)(y:e.D),ft E.ty T=some ⟨g,e,offs⟩∧st.rd (.tmp q)=.val false [.elt (.loc ep0 (some (.box b j,t))) e x i 0]∧(nth st.boxes b).getD none=some cs∧nth cs j=some (.sl (.own (some t)) e ys)∧idx ys i=some y∧ X.contains b=false∧an.eb q=some b∧J7 an o=false∧st'=(yN st b j t e i cs ys).put (some d) (.val g (cellsOf e (.own none) y)):=by
 have htk:vX an o=true:=by unfold vX;rw[hd];simp only[hmv,hmb];rfl
 have hnl:tB an o=false:=by unfold tB;split;rename_i hd' _;rw[hd]at hd';cases hd';rw[hmb];simp;rfl
 have hnp:sV an o=false:=by unfold sV;split;rename_i hd' _;rw[hd]at hd';cases hd';rw[hmv];rfl;rfl
 constructor;rintro⟨hf,h⟩;unfold jF at h;split at h;rename_i hp;simp only[cn,ho,hp,hd,hmv,hmb]at hf;simp at hf;rename_i sh fl e x i off hT hp;rw[au htk]at h;simp only[cn,ho,hp,ht,hnl,hnp,Bool.or_false,cp,ar,cZ,dL,ab,aB]at hf;obtain⟨⟨hl0,hfm⟩,hb⟩:=hf;unfold qw at h;split at h;rename_i ep0 r t;cases r with
 |slot _ _=>cases hb
 |io _=>cases hb
 |box b j=>
  simp only[ab,aL,aB]at hb;split at h;rename_i t' e' ys hrg;split at h;rename_i he;subst he;split at h;rename_i hc;obtain⟨rfl,rfl,hct⟩:=hc;obtain⟨g,ct,offs⟩:=sh;simp only at hct;subst hct;cases hi:idx ys i with|none=>simp only[hi,aa]at h;cases h|some y=>simp only[hi,aa]at h;cases h;simp only[AS.df]at hrg;obtain⟨cs,hcs,hj⟩:=ay.1 hrg;refine⟨g,_,offs,b,j,_,ep0,x,i,cs,ys,y,hT,hp,hcs,hj,hi,hb.2,hb.1,hfm,?_⟩;simp only[AS.dh,hcs,hd];rfl
  cases h;cases h;cases h
 cases h;cases h;rintro⟨g,e,offs,b,j,t,ep0,x,i,cs,ys,y,hT,hp,hcs,hj,hi,hX,heb,hfm,rfl⟩;constructor;simp only[cn,ho,hp,ht,hnl,hnp,hfm,hX,heb];simp;simp only[jF,hT,hp,htk,bj,qw,AS.df,hcs,cU,hj,dite_true,and_self,hi,aa,AS.dh,hd];rfl
theorem Ji {T:TypeId}{p:Operand}(ht:vV an o=true)(ho:o.op=.load T p)(hfree:cn E an X o st=true)(h:jF E an o T p st some=some st'):cO E Γ an X o st st':=by obtain⟨T',q,d,ho',hd,hg,hmv,hmb⟩:=E8 ht;rw[ho]at ho';cases ho';obtain⟨g,e,offs,b,j,t,ep0,x,i,cs,ys,y,hT,hp,hcs,hj,hi,hX,heb,hfm,rfl⟩:=(Ds ht ho hd hmv hmb).1 ⟨hfree,h⟩;refine⟨⟨[(d,.val g (cellsOf e (.own none) y))],some (b,ez cs j (.sl (.holed (some t) i (some st.ep)) e ys)),none⟩,⟨λx hx=>?_,λb' hb'=>?_,λ_ hh=>by cases hh⟩,rfl,λst2 ha=>?_⟩;simp only[bw]at hx;subst hx;simp[writes,hd];cases hb';simp only[vZ,ho,hd,hmv,ah,ht,heb];simp;have h2:=((Ds (E:=E) (X:=X) (st:=st2) ht ho hd hmv hmb).2 ⟨g,e,offs,b,j,t,ep0,x,i,cs,ys,y,hT,by rw[ha.rd (λt ht=>by simpa[cr,ho]using ht)];exact hp,by rw[ha.box b hX];exact hcs,hj,hi,hX,heb,hfm,rfl⟩).2;simp only[cf,ho];rw[h2];simp only[yN,ha.ep];rfl
theorem Ls {T:TypeId}{p:Operand}(ho:o.op=.load T p)(hm:iP an o=true)(hfree:cn E an X o st=true)(h:jF E an o T p st some=some st'):cO E Γ an X o st st':=by
 cases hE:vV an o with|true=>exact Ji hE ho hfree h|false=> ?_
 have hr:∀st2,eo an X o st st2→st2.rd p=st.rd p:=λst2 ha=>ha.rd (λt ht=>by simpa[cr,ho]using ht);have htk:vX an o=false:=by simp only[iP,ho,hE,Bool.or_false]at hm;unfold vX;cases hdd:o.dst with|none=>rfl|some d=>rw[hdd]at hm;simp only[bU,aB]at hm;rcases hm with hm|hm;simp only[hm,dQ];cases hmb:an.mb d with|none=>rw[hmb]at hm;cases hm|some _=>simp[hmb]
 unfold jF at h;split at h;rename_i sh s off hT hp;simp only[cn,ho,hp,ab,aB]at hfree;split at h;rename_i cs hb;split at h;rename_i hfit;split at h;rename_i d hd;have hbx:∀st2,eo an X o st st2→nth st2.boxes s=nth st.boxes s:=λst2 ha=>ha.box s hfree.1.1;cases hf:an.mv.contains d with
 |false=>simp only[hf,aG,bC]at h;cases h;refine cO.put (by rw[hd]) λst2 ha=>?_;simp only[cf,ho,jF,hT,hr st2 ha,hp,hbx st2 ha,hb,au hfit,hd,hf,aG,bC,ha.ep]
 |true=>
  simp only[hf,bj]at h;have hmb:an.mb d=some s:=by have:=hfree.1.2;rw[hd]at this;simp only[hf,ar,cZ,aL]at this;exact this
  cases h;refine⟨⟨[(d,.val sh.agg ((cs.drop off).take sh.ct.size))],some (s,cd cs off (aE st.ep ((cs.drop off).take sh.ct.size))),none⟩,⟨λx hx=>?_,λb hb'=>?_,λ_ hh=>by cases hh⟩,?_,λst2 ha=>?_⟩;simp only[bw]at hx;subst hx;simp[writes,hd];cases hb';simp only[vZ,ho,hd,hf,ah,hmb];simp;rw[CF,hd];simp only[cf,ho,jF,hT,hr st2 ha,hp,hbx st2 ha,hb,au hfit,hd,hf,bj,ha.ep,CF]
 cases h;cases h;cases h;rename_i sh fl e x i off hT hp;rw[aq (by simp[htk])]at h;split at h;rename_i hl;split at h;rename_i hfit;cases h;refine cO.put rfl λst2 ha=>?_;simp only[cf,ho,jF,hT,hr st2 ha,hp,ha.ep,htk,aG,bC,au hl,au hfit];cases h;rename_i hl;have hroot:∀r t ep0,fl=.loc ep0 (some (r,t))→∀st2,eo an X o st st2→st2.df r=st.df r:=by rintro r t ep0 rfl st2 ha;simp only[cn,ho,hp,hE,cp,fO,dL,ab,bU]at hfree;rcases hfree.1.1 with hq|hq;exact absurd hq hl;cases r with|slot b j=>simp only[AS.df];rw[ha.er b (by simpa using hq)]|box b j=>simp only[AS.df];rw[ha.box b (by simpa using hq)]|io j=>cases hq
 unfold uJ at h;split at h;rename_i ep0 r t;split at h;rename_i t' e' ys hrg;split at h;rename_i he;split at h;rename_i hc;cases hi:idx (he▸ys:List _) i with|none=>rw[hi]at h;cases h|some y=>rw[hi]at h;simp only[aa]at h;cases h;refine cO.put rfl λst2 ha=>?_;simp only[cf,ho,jF,hT,hr st2 ha,hp,ha.ep,htk,aG,bC,aq hl,uJ,hroot _ _ _ rfl st2 ha,hrg,dif_pos he,au hc,hi,aa]
 cases h;cases h;cases h;cases h;cases h
theorem CI {x:Operand}(ho:o.op=.nilCheck x)(h:cf E Γ an o st some=some st'):cO E Γ an X o st st':=by have hr:∀st2,eo an X o st st2→st2.rd x=st.rd x:=λst2 ha=>ha.rd (λt ht=>by simpa[cr,ho]using ht);simp only[cf,ho]at h;split at h;rename_i s off hx;cases h;refine cO.put rfl λst2 ha=>?_;simp only[cf,ho,hr st2 ha,hx];rename_i fl e y i off hx;cases h;refine cO.put rfl λst2 ha=>?_;simp only[cf,ho,hr st2 ha,hx];cases h
theorem Dy {op:BinOp}{x y:AV}(h:(wG op x y λc=>some (st.put o.dst (.one c)))=some st'):∃v,st'=st.put o.dst v∧∀st2:AS,(wG op x y λc=>some (st2.put o.dst (.one c)))=some (st2.put o.dst v):=by have key:∀s:AS,(wG op x y λc=>some (s.put o.dst (.one c)))=(wG op x y some).bind λc=>some (s.put o.dst (.one c)):=λs=>(wc op x y some _).symm;rw[key st]at h;cases hb:wG op x y some with|none=>rw[hb]at h;cases h|some c=>rw[hb]at h;cases h;exact⟨_,rfl,λst2=>by rw[key st2,hb];rfl⟩
theorem E9 {op:BinOp}{b:Bool}(h:(uW op b λc=>some (st.put o.dst (.one c)))=some st'):∃v,st'=st.put o.dst v∧∀st2:AS,(uW op b λc=>some (st2.put o.dst (.one c)))=some (st2.put o.dst v):=by unfold uW at h;split at h;cases h;exact⟨_,rfl,λst2=>rfl⟩;cases h;exact⟨_,rfl,λst2=>rfl⟩;cases h
theorem Ov {op:BinOp}{T T':TypeId}{x y:Operand}(ho:o.op=.binOp op T x y T')(h:sE E o op T x y st some=some st'):cO E Γ an X o st st':=by
 have hr:∀st2,eo an X o st st2→st2.rd x=st.rd x∧st2.rd y=st.rd y:=λst2 ha=>
  ⟨ha.rd (λt ht=>by simp[cr,ho,ht]),ha.rd (λt ht=>by simp[cr,ho,ht])⟩
 unfold sE at h;split at h;rename_i a b hx hy;split at h;rename_i hT;obtain⟨v,rfl,hv⟩:=Dy h;refine cO.put rfl λst2 ha=>?_;simp only[cf,ho,sE,(hr st2 ha).1,(hr st2 ha).2,hx,hy,au hT];exact hv st2;cases h;rename_i xs ys hx hy;split at h;rename_i ls hq;split at h;rename_i hfit;obtain⟨v,rfl,hv⟩:=Dy h;refine cO.put rfl λst2 ha=>?_;simp only[cf,ho,sE,(hr st2 ha).1,(hr st2 ha).2,hx,hy,hq,au hfit];exact hv st2;cases h;cases h;rename_i fl e xs hx hy;split at h;rename_i hT;split at h;cases h;rename_i hlen;obtain⟨v,rfl,hv⟩:=E9 h;refine cO.put rfl λst2 ha=>?_;simp only[cf,ho,sE,(hr st2 ha).1,(hr st2 ha).2,hx,hy,ha.ep,au hT,aq hlen];exact hv st2;cases h;rename_i hx hy;split at h;rename_i hT;obtain⟨v,rfl,hv⟩:=E9 h;refine cO.put rfl λst2 ha=>?_;simp only[cf,ho,sE,(hr st2 ha).1,(hr st2 ha).2,hx,hy,au hT];exact hv st2;cases h;rename_i a b hn1 hn2 hn3 hn4;obtain⟨v,rfl,hv⟩:=Dy h;refine cO.put rfl λst2 ha=>?_;simp only[cf,ho,sE,(hr st2 ha).1,(hr st2 ha).2];exact hv st2
theorem QR {op:UnOp}{T:TypeId}{x:Operand}(ho:o.op=.unOp op T x)(h:(SB op (st.rd x) λc=>some (st.put o.dst (.one c)))=some st'):cO E Γ an X o st st':=by have hr:∀st2,eo an X o st st2→st2.rd x=st.rd x:=λst2 ha=>ha.rd (λt ht=>by simpa[cr,ho]using ht);have key:∀s:AS,(SB op (st.rd x) λc=>some (s.put o.dst (.one c)))=(SB op (st.rd x) some).bind λc=>some (s.put o.dst (.one c)):=λs=>(J4 op (st.rd x) some _).symm;rw[key st]at h;cases hb:SB op (st.rd x) some with|none=>rw[hb]at h;cases h|some c=>rw[hb]at h;cases h;refine cO.put rfl λst2 ha=>?_;simp only[cf,ho,hr st2 ha];rw[key st2,hb];rfl
theorem Je {S:TypeId}{p:Operand}{f:Nat}(ho:o.op=.fieldAddr S p f)(h:rK E o S p f st some=some st'):cO E Γ an X o st st':=by have hr:∀st2,eo an X o st st2→st2.rd p=st.rd p:=λst2 ha=>ha.rd (λt ht=>by simpa[cr,ho]using ht);unfold rK at h;split at h;rename_i hT hp;split at h;rename_i hf;cases h;refine cO.put rfl λst2 ha=>?_;simp only[cf,ho,rK,hr st2 ha,hT,hp,hf];cases h;rename_i hT hp;split at h;rename_i hf;cases h;refine cO.put rfl λst2 ha=>?_;simp only[cf,ho,rK,hr st2 ha,hT,hp,hf];cases h;cases h
theorem rA {v:AV}{s:AS}(h:v.now s.ep=true):v.fresh s=v:=by
 cases v with
 |tup vs=>rfl
 |val g cs=>
  simp only[AV.now,az]at h;simp only[AV.fresh];congr 1;have:cs.map s.fresh=cs.map id:=List.map_congr_left λc hc=>by have hn:=h c hc;unfold AS.fresh;split;simp only[AC.now]at hn;rw[hn];rfl;rfl
  rw[this,List.map_id]
theorem HW {v:AV}{st st2:AS}(he:st2.ep=st.ep)(h:v.now st.ep=true∨∃g ep b j t e xs,v=.val g [.sl (.loc ep (some (.box b j,t))) e xs]∧nth st2.boxes b=nth st.boxes b):v.fresh st2=v.fresh st:=by rcases h with h|⟨g,ep,b,j,t,e,xs,rfl,hb⟩;rw[rA h,rA (by rw[he];exact h)];simp only[AV.fresh,cP,List.map_nil];congr 2;unfold AS.fresh;simp only[AS.df,he,hb]
theorem AZ {T:TypeId}{x i:Operand}(ho:o.op=.indexAddr T x i)(hfree:cn E an X o st=true)(h:hZ E o T x i st some=some st'):cO E Γ an X o st st':=by
 have hr:∀st2,eo an X o st st2→st2.rd x=st.rd x∧st2.rd i=st.rd i:=λst2 ha=>
  ⟨ha.rd (λt ht=>by simp[cr,ho,ht]),ha.rd (λt ht=>by simp[cr,ho,ht])⟩
 have hf2:∀st2,eo an X o st st2→(st.rd x).fresh st2=(st.rd x).fresh st:=λst2 ha=>by refine HW ha.ep ?_;simp only[cn,ho,bU]at hfree;rcases hfree with hn|hn;exact .inl hn;split at hn;rename_i g ep b j t e xs hx;exact .inr ⟨g,ep,b,j,t,e,xs,hx,ha.box b (by simpa using hn)⟩;cases hn
 unfold hZ at h;split at h;rename_i e' fl e xs k n hT hx hi;split at h;rename_i hc;cases hix:idx xs n with|none=>rw[hix]at h;cases h|some y=>rw[hix]at h;cases h;refine cO.put rfl λst2 ha=>?_;have hf3:=hf2 st2 ha;rw[hx]at hf3;simp only[cf,ho,hZ,(hr st2 ha).1,(hr st2 ha).2,hf3,hT,hi,ha.ep,au hc,hix,aa]
 cases h;cases h
theorem Jf {T:TypeId}{x i:Operand}(ho:o.op=.index T x i)(h:tr E o T x i st some=some st'):cO E Γ an X o st st':=by
 have hr:∀st2,eo an X o st st2→st2.rd x=st.rd x∧st2.rd i=st.rd i:=λst2 ha=>
  ⟨ha.rd (λt ht=>by simp[cr,ho,ht]),ha.rd (λt ht=>by simp[cr,ho,ht])⟩
 unfold tr at h;split at h;rename_i s k n hx hi;split at h;rename_i hc;cases hix:idx s n with|none=>rw[hix]at h;cases h|some y=>rw[hix]at h;cases h;refine cO.put rfl λst2 ha=>?_;simp only[cf,ho,tr,(hr st2 ha).1,(hr st2 ha).2,hx,hi,au hc,hix,aa]
 cases h;cases h
theorem cO.new {v:AV}(h:st'=(st.dp o.dst).put o.dst v)(h2:∀st2,eo an X o st st2→cf E Γ an o st2 some=some ((st2.dp o.dst).put o.dst v)):cO E Γ an X o st st':=⟨xw o v,Ef v,by rw[yP];exact h,λst2 ha=>by rw[yP];exact h2 st2 ha⟩
theorem eo.eD (ha:eo an X o st st2):st2.eD o.dst=st.eD o.dst:=by funext j;cases hd:o.dst with|none=>rfl|some d=>simp only[AS.eD,(ha.dst d hd).1]
theorem ym {lo hi:Option Operand}{n:Nat}{f:AS→Int→Int→Option AS}(hs:∀st2,eo an X o st st2→lo.map st2.rd=lo.map st.rd∧hi.map st2.rd=hi.map st.rd)(h:im st lo hi n (f st)=some st'):∃a b,f st a b=some st'∧∀st2,eo an X o st st2→im st2 lo hi n (f st2)=f st2 a b:=by unfold im at h;split at h;rename_i h1 h2;exact⟨_,_,h,λst2 ha=>by simp only[im,(hs st2 ha).1,(hs st2 ha).2,h1,h2]⟩;rename_i h1 h2;exact⟨_,_,h,λst2 ha=>by simp only[im,(hs st2 ha).1,(hs st2 ha).2,h1,h2]⟩;rename_i h1 h2;exact⟨_,_,h,λst2 ha=>by simp only[im,(hs st2 ha).1,(hs st2 ha).2,h1,h2]⟩;rename_i h1 h2;exact⟨_,_,h,λst2 ha=>by simp only[im,(hs st2 ha).1,(hs st2 ha).2,h1,h2]⟩;cases h
theorem Jg {T:TypeId}{x:Operand}{lo hi:Option Operand}(ho:o.op=.slice T x lo hi none)(hm:iP an o=true)(hfree:cn E an X o st=true)(h:sk E an o T x lo hi st some=some st'):cO E Γ an X o st st':=by
 have hr:∀st2,eo an X o st st2→st2.rd x=st.rd x:=λst2 ha=>ha.rd (λt ht=>by simp[cr,ho,ht]);have hb:∀st2,eo an X o st st2→lo.map st2.rd=lo.map st.rd∧hi.map st2.rd=hi.map st.rd:=by
  intro st2 ha;constructor;cases lo with|none=>rfl|some y=>simp only[ch];rw[ha.rd (λt ht=>by simp[cr,ho,tmO,ht])]
  cases hi with|none=>rfl|some y=>simp only[ch];rw[ha.rd (λt ht=>by simp[cr,ho,tmO,ht])]
 have hnow:(st.rd x).now st.ep=true:=by simpa[cn,ho]using hfree
 have hf2:∀st2,eo an X o st st2→(st.rd x).fresh st2=st.rd x:=λst2 ha=>rA (by rw[ha.ep];exact hnow);have htk:vX an o=false:=by simpa[iP,ho]using hm
 unfold sk at h;rw[aq (by simp[htk]),rA hnow]at h;split at h;rename_i s hx;split at h;rename_i hT;obtain⟨a,b,h1,h2⟩:=ym (f:=λs0 a b=>aa (sub s a b) λs'=>some (s0.put o.dst (.one (.str s')))) hb h;cases hsub:sub s a b with|none=>rw[hsub]at h1;cases h1|some s'=>rw[hsub]at h1;cases h1;refine cO.put rfl λst2 ha=>?_;have hf3:=hf2 st2 ha;rw[hx]at hf3;simp only[cf,ho,sk,htk,aG,bC,hr st2 ha,hx,hf3,au hT];rw[h2 st2 ha,hsub];rfl
 cases h;rename_i fl e xs hx;split at h;rename_i hT;obtain⟨a,b,h1,h2⟩:=ym (f:=λs0 a b=>aa (sub xs a b) λxs'=>some (s0.put o.dst (.one (.sl (CP an o fl a) e xs')))) hb h;cases hsub:sub xs a b with|none=>rw[hsub]at h1;cases h1|some s'=>rw[hsub]at h1;cases h1;refine cO.put rfl λst2 ha=>?_;have hf3:=hf2 st2 ha;rw[hx]at hf3;simp only[cf,ho,sk,htk,aG,bC,hr st2 ha,hx,hf3,ha.ep,au hT];rw[h2 st2 ha,hsub];rfl
 cases h;cases h
theorem w9 {args:List Operand}(hl:∀t,t∈Ee args→t∈cr o)(ha:eo an X o st st2):args.map st2.rd=args.map st.rd:=by apply List.map_congr_left;intro x hx;exact ha.rd (λt ht=>hl t (by simp only[Ee,List.mem_flatMap];exact⟨x,hx,ht⟩))
theorem Ox {ts:Array TypeId}{args:Array Operand}(ho:o.op=.call {callee:=.builtin .len,args,argTypes:=ts})(h:CD E o ts.toList args.toList st some=some st'):cO E Γ an X o st st':=by have hr:∀st2,eo an X o st st2→args.toList.map st2.rd=args.toList.map st.rd:=λst2 ha=>w9 (λt ht=>by simp only[cr,ho];exact ht) ha;unfold CD at h;split at h;rename_i t s hts hx;split at h;rename_i hT;cases h;refine cO.put rfl λst2 ha=>?_;simp only[cf,ho,CD,hr st2 ha,hts,hx,au hT];cases h;rename_i t _ _ xs hts hx;split at h;rename_i hT;cases h;refine cO.put rfl λst2 ha=>?_;simp only[cf,ho,CD,hr st2 ha,hts,hx,au hT];cases h;cases h
theorem Oz {ts:Array TypeId}{args:Array Operand}(ho:o.op=.call {callee:=.builtin .min,args,argTypes:=ts})(h:DU o args.toList st some=some st'):cO E Γ an X o st st':=by have hr:∀st2,eo an X o st st2→args.toList.map st2.rd=args.toList.map st.rd:=λst2 ha=>w9 (λt ht=>by simp only[cr,ho];exact ht) ha;unfold DU at h;split at h;rename_i hx;cases h;refine cO.put rfl λst2 ha=>?_;simp only[cf,ho,DU,hr st2 ha,hx];cases h
theorem Oy {ts:Array TypeId}{args:Array Operand}(ho:o.op=.call {callee:=.builtin .max,args,argTypes:=ts})(h:DT o args.toList st some=some st'):cO E Γ an X o st st':=by have hr:∀st2,eo an X o st st2→args.toList.map st2.rd=args.toList.map st.rd:=λst2 ha=>w9 (λt ht=>by simp only[cr,ho];exact ht) ha;unfold DT at h;split at h;rename_i hx;cases h;refine cO.put rfl λst2 ha=>?_;simp only[cf,ho,DT,hr st2 ha,hx];cases h
theorem Oi {l:List Nat}{c:AC}(h:c.Rp l=true)(hl:∀t∈l,st2.get t=st.get t):st2.DR c=st.DR c:=by
 cases c with
 |sl fl e xs=>
  cases fl with
  |loc ep pv=>cases pv with|none=>rfl|some q=>obtain⟨r,t⟩:=q;cases r with|slot b j=>have hb:st2.get b=st.get b:=hl b (by simpa[AC.Rp]using h);simp only[AS.DR,AS.df,hb]|box _ _=>rfl|io _=>rfl
  |_=>rfl
 |_=>rfl
theorem Lj {l:List Nat}{x:Operand}(hx:yB l st x=true)(hl:∀t∈l,st2.get t=st.get t)(h:∀t∈tm x,st2.get t=st.get t):sU st2 x=sU st x∧tL st2 x=tL st x:=by
 cases x with
 |tmp t=>have ht:=h t (by simp[tm]);simp only[yB]at hx;cases hg:st.get t with|tup vs=>exact⟨by simp only[sU,ht,hg],by simp only[tL,ht,hg]⟩|val g cs=>rw[hg]at hx;have hm:cs.map st2.DR=cs.map st.DR:=List.map_congr_left λc hc=>Oi (az.1 hx c hc) hl;exact⟨by simp only[sU,ht,hg,hm],by simp only[tL,ht,hg,hm]⟩
 |const v=>exact⟨rfl,rfl⟩
 |func f=>exact⟨rfl,rfl⟩
 |global g=>exact⟨rfl,rfl⟩
theorem DV {f:Operand}{ts:Array TypeId}{args:Array Operand}(ho:o.op=.call {callee:=.value f,args,argTypes:=ts})(hfree:cn E an X o st=true){k:Nat}(hf:st.rd f=.val false [.fn k])(hbx:(Γ k).bx=true)(hcur:(Γ k).cur=true)(h:nL Γ o k args.toList st some=some st'):cO E Γ an X o st st':=by
 unfold nL at h;split at h;rename_i x0 xs hargs;split at h;rename_i s hx0;have hfr:mJ an X (PB an o) st (x0::xs)=true:=by have h1:=hfree;simp only[cn,ho,ab]at h1;rw[←hargs];exact h1.1
 have hx1:∃q,x0=.tmp q∧X.contains s=false∧an.sb q=some s∧(match (nth st.boxes s).getD none with|some cs=>cs.all AC.xC|none=>true)=true∧xs.all (yB (PB an o) st)=true:=by cases x0 with|tmp q=>simp only[mJ,hx0,P3,ab,aB,aL]at hfr;exact⟨q,rfl,hfr.1.1.1,hfr.1.1.2,hfr.1.2,hfr.2⟩|const v=>simp only[mJ,hx0,AV.MZ]at hfr;cases hfr|func v=>simp only[mJ,hx0,AV.MZ]at hfr;cases hfr|global v=>simp only[mJ,hx0,AV.MZ]at hfr;cases hfr
 obtain⟨q,rfl,hX,hsb,hall,hself⟩:=hx1;split at h;rename_i cs hb0;rw[hb0]at hall;simp only at hall;cases hc:(cs.all (AC.qI (uS cs))&&xs.all (tL st))with
 |false=>rw[hc]at h;cases h
 |true=>
  rw[hc]at h;simp only[ah]at h;cases hres:(Γ k).fn (.val true (cs.map AC.GY)::xs.map (sU st))with
  |none=>rw[hres]at h;cases h
  |some y=>
   rw[hres]at h;simp only[aa]at h;cases hc2:(((Γ k).back y).all (AC.qI true)&&((Γ k).av y).OC)with
   |false=>rw[hc2]at h;cases h
   |true=>
    rw[hc2]at h;simp only[ah,hcur,hall,dj,aO]at h;subst h;refine⟨⟨o.dst.toList.map λd=>(d,((Γ k).av y).uT st.ep (st.eD o.dst)),some (s,jU (uS cs) (λ_=>none) 0 ((Γ k).back y)),o.dst⟩,⟨λx hx=>?_,λb hb=>?_,λd hd=>hd⟩,?_,λst2 ha=>?_⟩;simp only[List.mem_map]at hx;obtain⟨d,hd,rfl⟩:=hx;simp[writes,hd];cases hb;simp[vZ,ho,hargs,hsb];unfold yT.apply AS.put AS.dp AS.cX;cases o.dst<;>rfl;have e1:st2.rd f=st.rd f:=ha.rd (λt ht=>by simp[cr,ho,ht]);have hl:∀x∈Operand.tmp q::xs,∀t∈tm x,t∈cr o:=by intro x hx t ht;simp only[cr,ho,al,Ee,List.mem_flatMap,hargs];exact .inr ⟨x,hx,ht⟩
    have e2:st2.rd (.tmp q)=st.rd (.tmp q):=ha.rd (hl _ (by simp));have e3:nth st2.boxes s=nth st.boxes s:=ha.box s hX;have e4:∀x∈xs,sU st2 x=sU st x∧tL st2 x=tL st x:=λx hx=>Lj (az.1 hself x hx) ha.er λt ht=>ha.get t (hl x (by simp[hx]) t ht);have e5:xs.map (sU st2)=xs.map (sU st):=List.map_congr_left λx hx=>(e4 x hx).1;have e6:xs.all (tL st2)=xs.all (tL st):=by rw[bO];simp only[az];exact⟨λg x hx=>by rw[←(e4 x hx).2];exact g x hx,λg x hx=>by rw[(e4 x hx).2];exact g x hx⟩
    simp only[cf,ho,uV,e1,hf,hbx,ah,nL,hargs,e2,hx0,e3,hb0,e5,e6,hc,hres,aa,hc2,hcur,hall,dj,ha.ep,ha.eD];unfold yT.apply AS.put AS.dp AS.cX;cases o.dst<;>rfl
 cases h;cases h;cases h
theorem Lr (hΓ:∀f,(Γ f).io=false∧((Γ f).bx=true→(Γ f).cur=true)∧(Γ f).pr=false){f:Operand}{ts:Array TypeId}{args:Array Operand}(ho:o.op=.call {callee:=.value f,args,argTypes:=ts})(hfree:cn E an X o st=true)(h:uV Γ o f args.toList st some=some st'):cO E Γ an X o st st':=by
 have hr:∀st2,eo an X o st st2→st2.rd f=st.rd f∧(args.toList.map λx=>((st2.rd x).fresh st2).asArg st2.ep)=args.toList.map λx=>((st.rd x).fresh st).asArg st.ep:=by
  intro st2 ha;refine⟨ha.rd (λt ht=>by simp[cr,ho,ht]),?_⟩;apply List.map_congr_left;intro x hx;have hnow:(st.rd x).now st.ep=true:=by simp only[cn,ho,ab,az]at hfree;exact hfree.2 x hx
  rw[ha.rd (λt ht=>by simp only[cr,ho,al,Ee,List.mem_flatMap];exact .inr ⟨x,hx,ht⟩),rA hnow,rA (s:=st2) (by rw[ha.ep];exact hnow),ha.ep]
 unfold uV at h;split at h
 ·rename_i k hf
  cases hbx:(Γ k).bx with
  |true=>rw[hbx]at h;exact DV ho hfree hf hbx ((hΓ k).2.1 hbx) h
  |false=>
  rw[hbx,(hΓ k).2.2,(hΓ k).1]at h
  simp only[ai]at h
  cases hg:(Γ k).fn (args.toList.map λx=>((st.rd x).fresh st).asArg st.ep)with
  |none=>rw[hg]at h;cases h
  |some y=>
   rw[hg]at h
   simp only[aa]at h
   cases hsel:(Γ k).sel y with
   |true=>
    rw[hsel]at h
    cases h
    refine cO.new rfl λst2 ha=>?_
    simp only[cf,ho,uV,(hr st2 ha).1,hf,(hΓ k).1,hbx,(hΓ k).2.2,ai]
    rw[(hr st2 ha).2,hg]
    simp only[aa,hsel,ah,ha.ep,ha.eD]
   |false=>
    rw[hsel]at h
    cases h
    refine cO.new rfl λst2 ha=>?_
    simp only[cf,ho,uV,(hr st2 ha).1,hf,(hΓ k).1,hbx,(hΓ k).2.2,ai]
    rw[(hr st2 ha).2,hg]
    simp only[aa,hsel,ai,ha.ep,ha.eD]
 cases h
theorem DW {src dst:TypeId}{x:Operand}(ho:o.op=.convert src dst x)(h:gR E o src dst x st some=some st'):cO E Γ an X o st st':=by
 have hr:∀st2,eo an X o st st2→st2.rd x=st.rd x:=λst2 ha=>ha.rd (λt ht=>by simpa[cr,ho]using ht);unfold gR at h;split at h;rename_i h1 h2 h3;cases h;refine cO.put rfl λst2 ha=>?_;simp only[cf,ho,gR,hr st2 ha,h1,h2,h3];rename_i h1 h2 h3;cases h;refine cO.put rfl λst2 ha=>?_;simp only[cf,ho,gR,hr st2 ha,h1,h2,h3];rename_i offs val s hno h1 h2 h3;split at h;rename_i hb;unfold room at h;split at h;rename_i hrm;cases h;refine cO.new (v:=.one (.sl (.own (st.eD o.dst 0)) (.int .u8) (dq s))) rfl λst2 ha=>?_;have hval:∀k:AS→Option AS,gR E o src dst x st2 k=if E.bytes dst then room s.length (k (st2.kh o.dst (.int .u8) (dq s))) else none:=by intro k;unfold gR;rw[hr st2 ha,h1,h2,h3];obtain⟨ag,ct,of⟩:=val;cases ag with|true=>rfl|false=>cases ct with|str=>exact(hno _ rfl).elim|_=>rfl
 simp only[cf,ho];rw[hval,au hb,room,au hrm,AS.kh,ha.eD];cases h;cases h;rename_i val offs fl xs h1 h2 h3;split at h;rename_i hb;cases h;refine cO.put rfl λst2 ha=>?_;have hval:∀k:AS→Option AS,gR E o src dst x st2 k=if E.bytes src∧fl.live st2.ep then k (st2.put o.dst (.one (.str (bytesOf xs)))) else none:=by intro k;unfold gR;rw[hr st2 ha,h1,h2,h3];obtain⟨ag,ct,of⟩:=val;cases ag with|true=>rfl|false=>cases ct<;>rfl
 simp only[cf,ho];rw[hval,ha.ep,au hb];cases h;cases h
theorem zR {d:Nat}{cs:List AC}{v:AV}:(⟨[(d,v)],some (d,cs),none⟩:yT).apply st=(st.cX d (some cs)).put (some d) v:=rfl
theorem Jc {T:TypeId}(ho:o.op=.alloc T)(h:tZ E o T st some=some st'):cO E Γ an X o st st':=by unfold tZ at h;split at h;rename_i d sh hd hT;split at h;rename_i hb;cases h;refine⟨⟨[(d,.one (.ptr d 0))],some (d,cellsOf sh.ct (.own none) sh.ct.zero),none⟩,⟨λx hx=>?_,λb hb'=>?_,λ_ hh=>by cases hh⟩,?_,λst2 ha=>?_⟩;simp only[bw]at hx;subst hx;simp[writes,hd];cases hb';simp[vZ,ho,hd];rw[zR,hd];simp only[cf,ho,tZ,hd,hT,(ha.dst d hd).2,hb,zR];cases h;cases h
def jj (st:AS):Operand→List (Nat×AV)
 | .tmp t=>[(t,(st.get t).aE st.ep)]
 |_=>[]
theorem tu (l:List AV)(a b:List (Nat×AV)):fR l (a++b)=fR (fR l a) b:=by induction a generalizing l with|nil=>rfl|cons x a ih=>exact ih _
def AS.fG (st:AS)(l:List (Nat×AV)):AS:={st with slots:=fR st.slots l}
theorem acj:st.fG []=st:=rfl
theorem kX (a b:List (Nat×AV)):st.fG (a++b)=(st.fG a).fG b:=by simp only[AS.fG,tu]
theorem aci (d:Nat)(v:AV):st.put (some d) v=st.fG [(d,v)]:=rfl
theorem tU (x:Operand):(st.take x).2=st.fG (jj st x):=by cases x<;>rfl
theorem uM {x:Operand}(hep:st2.ep=st.ep)(h:∀t∈tm x,st2.get t=st.get t):(st2.take x).1=(st.take x).1∧(st2.take x).2=st2.fG (jj st x):=by cases x with|tmp t=>have:=h t (by simp[tm]);refine⟨this,?_⟩;rw[tU];simp only[jj,this,hep]|const v=>exact⟨rfl,rfl⟩|func f=>exact⟨rfl,rfl⟩|global g=>exact⟨rfl,rfl⟩
theorem yO {x:Operand}:∀y∈jj st x,y.1∈tm x:=by cases x<;>simp[jj,tm]
theorem Lt {x:Operand}(ho:o.op=.move x)(h:tQ an o x st some=some st'):cO E Γ an X o st st':=by
 unfold tQ at h;cases hd:o.dst with
 |none=>rw[hd]at h;cases h
 |some d=>
  rw[hd]at h;cases hf:an.mv.contains d with
  |false=>simp only[hf,aG,bC]at h;cases h;refine cO.put (v:=st.rd x) (by rw[hd]) λst2 ha=>?_;have hr:st2.rd x=st.rd x:=ha.rd (λt ht=>by simpa[cr,ho]using ht);simp only[cf,ho,tQ,hd,hf,aG,bC,hr]
  |true=>
   simp only[hf,bj]at h;cases h;have hr:∀st2,eo an X o st st2→(st2.take x).1=(st.take x).1∧(st2.take x).2=st2.fG (jj st x):=λst2 ha=>uM ha.ep λt ht=>ha.get t (by simpa[cr,ho]using ht);refine⟨⟨jj st x++[(d,(st.take x).1)],none,none⟩,⟨λy hy=>?_,λ_ hh=>(by cases hh),λ_ hh=>(by cases hh)⟩,?_,λst2 ha=>?_⟩;rcases al.1 hy with hy|hy;have:=yO y hy;have hf':d∈an.mv:=by simpa using hf
   simp[writes,vW,ho,hd,hf',cr,this];simp only[bw]at hy;subst hy;simp[writes,hd];rw[tU];show _=st.fG _;rw[kX];rfl;simp only[cf,ho,tQ,hd,hf,bj,(hr st2 ha).1,(hr st2 ha).2];show some ((st2.fG (jj st x)).put (some d) (st.take x).1)=some (st2.fG _);rw[kX];rfl
theorem HS {ep:Nat}{cs:List AC}(h:cs.all AC.dW=true):aE ep cs=cs:=by
 rw[az]at h;unfold aE;have:cs.map (AC.borrow ep none)=cs.map id:=List.map_congr_left λc hc=>by have:=h c hc;cases c<;>first|rfl|(simp[AC.dW]at this)
 rw[this,List.map_id]
theorem TQ {s:AS}{t:Nat}{vs:List (Bool×List AC)}(h:s.get t=.tup vs):s.put (some t) (.tup vs)=s:=by cases s with|mk slots boxes ep iss io=>simp only[AS.put,AS.mk.injEq,eB];rw[di];apply List.ext_getElem?;intro i;rw[List.getElem?_set];split;rename_i hd;subst hd;simp only[AS.get,cz]at h;split;rename_i hlt;rw[List.getElem?_eq_getElem hlt]at h⊢;simp only[dM]at h;rw[h];rename_i hge;rw[List.getElem?_eq_none (Nat.le_of_not_lt hge)];rfl
theorem DX {t i:Nat}(ho:o.op=.extract (.tmp t) i)(hfree:cn E an X o st=true)(h:gS o t i st some=some st'):cO E Γ an X o st st':=by
 have hr:∀st2,eo an X o st st2→st2.get t=st.get t:=λst2 ha=>ha.get t (by simp[cr,ho]);unfold gS at h;simp only[cn,ho]at hfree;split at h
 ·rename_i vs hv;rw[hv]at hfree;split at h
  ·rename_i g cs hn;simp only[hn]at hfree;have hfl:cs.all AC.dW=true∨∃d,o.dst=some d∧an.mv.contains d=true:=by cases hd:o.dst with|none=>simp only[hd,Bool.or_false]at hfree;exact .inl hfree|some d=>simp only[hd,bU]at hfree;rcases hfree with h|h;exact .inl h;exact .inr ⟨d,rfl,h⟩
   rcases hfl with hfree|⟨d,hd,hmv⟩;rotate_left;cases h;refine⟨⟨[(t,.tup (ez vs i (g,aE 0 cs))),(d,.val g cs)],none,none⟩,⟨λx hx=>?_,(λ_ hb=>by cases hb),(λ_ hh=>by cases hh)⟩,?_,λst2 ha=>?_⟩;simp only[bl,List.not_mem_nil,or_false]at hx;rcases hx with rfl|rfl;simp only[writes,vW,ho,hd,hmv,ah,cr];simp;simp only[writes,hd];simp;rw[hd];rfl;have h2:st2.get t=.tup vs:=by rw[hr st2 ha,hv]
   simp only[cf,ho,gS,h2,hn,hd];rfl;skip;have hset:ez vs i (g,cs)=vs:=by rw[di];rw[cz]at hn;apply List.ext_getElem?;intro k;rw[List.getElem?_set];split;rename_i hk;subst hk;obtain⟨hl,he⟩:=List.getElem?_eq_some_iff.1 hn;rw[au hl,hn];rfl
   have key:∀s:AS,s.get t=.tup vs→(s.put (some t) (.tup (ez vs i (g,aE 0 cs))))=s:=λs hs=>by rw[HS hfree,hset,TQ hs]
   rw[key st hv]at h;cases h;refine cO.put rfl λst2 ha=>?_;have h2:st2.get t=.tup vs:=by rw[hr st2 ha,hv]
   simp only[cf,ho,gS,h2,hn];rw[key st2 h2]
  cases h
 cases h
def ru (st:AS):Operand→List (Nat×AV)
 | .tmp t=>[(t,(st.get t).aE st.ep)]
 |_=>[]
theorem Dv (st:AS)(x:Operand):(st.take x).2=⟨fR st.slots (ru st x),st.boxes,st.ep,st.iss,st.io⟩:=by cases x<;>rfl
theorem Jh {T:TypeId}{pp:Nat}{x:Operand}(ho:o.op=.store T (.tmp pp) x)(hd:o.dst=none)(hm:iP an o=true)(hfree:cn E an X o st=true)(h:py E T (.tmp pp) x st some=some st'):cO E Γ an X o st st':=by
 have hr:∀st2,eo an X o st st2→st2.rd (.tmp pp)=st.rd (.tmp pp):=λst2 ha=>ha.rd (λt ht=>by simp only[cr,ho,al];exact .inl ht);have hsb:(an.sb pp).isNone=false:=by simp only[iP,ho,ab]at hm;cases hb:an.sb pp with|none=>rw[hb]at hm;cases hm.1|some _=>rfl
 simp only[cn,ho,hsb,dQ,cZ]at hfree;unfold py at h;split at h;rename_i sh s off hT hp;rw[hp]at hfree;simp only[ab,aB,aL]at hfree;split at h;rename_i gg vs st1 htk;have htk1:(st.take x).1=.val gg vs:=by rw[htk]
 have hst1:st1=⟨fR st.slots (ru st x),st.boxes,st.ep,st.iss,st.io⟩:=by rw[←Dv,htk]
 split at h;rename_i cs hb;split at h;rename_i hlen;split at h;rename_i hfit;cases h;have hbx:∀st2,eo an X o st st2→nth st2.boxes s=nth st.boxes s:=λst2 ha=>ha.box s hfree.1;refine⟨⟨ru st x,some (s,cd cs off vs),none⟩,⟨λy hy=>?_,λb hb'=>?_,λ_ hh=>by cases hh⟩,?_,λst2 ha=>?_⟩;cases x with|tmp t=>simp only[ru,bw]at hy;subst hy;simp only[writes,vW,ho,ah,cr,hd];simp[tm]|_=>simp[ru]at hy
 cases hb';simp only[vZ,ho,hfree.2];simp;rw[hst1];rfl;have hx2:(st2.take x).1=(st.take x).1∧ru st2 x=ru st x:=by cases x with|tmp t=>have hg:st2.get t=st.get t:=ha.get t (by simp[cr,ho,tm]);simp only[AS.take,ru,hg,ha.ep];simp|const v=>exact⟨rfl,rfl⟩|func f=>exact⟨rfl,rfl⟩|global g=>exact⟨rfl,rfl⟩
 have ht2:st2.take x=(.val gg vs,⟨fR st2.slots (ru st x),st2.boxes,st2.ep,st2.iss,st2.io⟩):=by rw[←hx2.2,←Dv,←htk1,←hx2.1]
 have hb2:(nth st2.boxes s).getD none=some cs:=by rw[hbx st2 ha];rw[hst1]at hb;exact hb
 have hlate:rV an o=false:=by simp only[iP,ho,ab,aB]at hm;exact hm.2
 simp only[cf,ho,hd,hlate,aG,bC,py,hT,hr st2 ha,hp,ht2,hb2,au hlen,au hfit];rfl;cases h;cases h;cases h;cases h;rename_i r _ _ _ _ _ _ hp;rw[hp]at hfree;cases r<;>simp at hfree;cases h
theorem Gt {x:Operand}(ho:o.op=.assign x)(hm:iP an o=true)(h:nJ E an o x st some=some st'):cO E Γ an X o st st':=by
 have hr:∀st2,eo an X o st st2→(st2.take x).1=(st.take x).1∧(st2.take x).2=st2.fG (jj st x):=λst2 ha=>uM ha.ep λt ht=>ha.get t (by simpa[cr,ho]using ht);have hlate:rV an o=false:=by simpa[iP,ho]using hm
 unfold nJ at h;split at h;rename_i st1 htk;split at h;rename_i e hT;cases h;refine cO.put rfl λst2 ha=>?_;have h2:st2.take x=(.val false [.nilsl],st2.fG (jj st x)):=Prod.ext (by rw[(hr st2 ha).1,htk]) (hr st2 ha).2;simp only[cf,ho,nJ,hlate,aG,bC,h2,hT];cases h;rename_i v st1 hno htk;cases h;have hst1:st1=st.fG (jj st x):=by rw[←tU,htk]
 refine⟨⟨jj st x++o.dst.toList.map λd=>(d,v),none,none⟩,⟨λy hy=>?_,λ_ hh=>(by cases hh),λ_ hh=>(by cases hh)⟩,?_,λst2 ha=>?_⟩;rcases al.1 hy with hy|hy;have:=yO y hy;simp[writes,vW,ho,cr,this];obtain⟨d,hd,rfl⟩:=List.mem_map.1 hy;simp[writes,hd];rw[hst1];show _=st.fG _;rw[kX];cases o.dst<;>rfl;have h2:st2.take x=(v,st2.fG (jj st x)):=Prod.ext (by rw[(hr st2 ha).1,htk]) (hr st2 ha).2;simp only[cf,ho,nJ,hlate,aG,bC,h2];show some ((st2.fG (jj st x)).put o.dst v)=some (st2.fG _);rw[kX];cases o.dst<;>rfl
theorem fF {α:Type}(l:List α)(i:Nat)(v:α)(t:Nat):nth (ez l i v) t=if i=t then(if i<l.length then some v else none) else nth l t:=by rw[cz,di,cz,List.getElem?_set]
theorem CS (l:List AV)(a:List (Nat×AV)):(fR l a).length=l.length:=by induction a generalizing l with|nil=>rfl|cons x a ih=>rw[fR,ih,di,aP]
theorem LF {l l2:List AV}(a:List (Nat×AV))(hl:l2.length=l.length)(t:Nat)(h:nth l2 t=nth l t):nth (fR l2 a) t=nth (fR l a) t:=by induction a generalizing l l2 with|nil=>exact h|cons x a ih=>refine ih (by rw[di,di,aP,aP,hl]) ?_;rw[fF,fF,hl,h]
theorem Lz {t:Nat}(h:st2.get t=st.get t)(hl:st2.slots.length=st.slots.length):nth st2.slots t=nth st.slots t:=by unfold AS.get at h;rw[cz,cz]at h⊢;rcases bB t st.slots.length with hlt|hge;rw[List.getElem?_eq_getElem hlt,List.getElem?_eq_getElem (by omega)]at h⊢;simpa using h;rw[List.getElem?_eq_none hge,List.getElem?_eq_none (by omega)]
def fK (st:AS):List Operand→List (Nat×AV)
 |[]=>[]
 |x::xs=>jj st x++fK (st.fG (jj st x)) xs
theorem sy:∀(xs:List Operand)(st:AS),∀y∈fK st xs,y.1∈Ee xs
 |[],_,y,hy=>by cases hy
 |x::xs,st,y,hy=>by simp only[Ee,List.flatMap_cons,al];rcases al.1 hy with hy|hy;exact .inl (yO y hy);exact .inr (sy xs _ y hy)
theorem tA:∀(xs:List Operand)(st st2:AS),st2.ep=st.ep→st2.slots.length=st.slots.length→(∀t∈Ee xs,nth st2.slots t=nth st.slots t)→
 (dg st2 xs).1=(dg st xs).1∧(dg st2 xs).2=st2.fG (fK st xs)
 |[],st,st2,_,_,_=>⟨rfl,rfl⟩
 |x::xs,st,st2,hep,hl,hg=>by
  have hx:∀t∈tm x,st2.get t=st.get t:=λt ht=>by unfold AS.get;rw[hg t (by simp[Ee,ht])]
  obtain⟨h1,h2⟩:=uM (st:=st) (st2:=st2) hep hx;have h3:=tU (st:=st) x;obtain⟨k1,k2⟩:=tA xs (st.fG (jj st x)) (st2.fG (jj st x)) hep (by simp only[AS.fG,CS,hl]) (λt ht=>LF _ hl t (hg t (by simp only[Ee,List.flatMap_cons,al];exact .inr ht)));have e1:dg st (x::xs)=((st.take x).1::(dg (st.take x).2 xs).1,(dg (st.take x).2 xs).2):=rfl;have e2:dg st2 (x::xs)=((st2.take x).1::(dg (st2.take x).2 xs).1,(dg (st2.take x).2 xs).2):=rfl;rw[e1,e2,h1,h2,h3];refine⟨by rw[k1],?_⟩;show(dg (st2.fG (jj st x)) xs).2=_;rw[k2,fK,kX]
theorem uL (xs:List Operand):(dg st xs).2=st.fG (fK st xs):=(tA xs st st rfl rfl (λ_ _=>rfl)).2
theorem eo.dg (ha:eo an X o st st2){xs:List Operand}(hx:∀t∈Ee xs,t∈cr o):(dg st2 xs).1=(Dn.dg st xs).1∧(Dn.dg st2 xs).2=st2.fG (fK st xs):=tA xs st st2 ha.ep ha.len λt ht=>Lz (ha.get t (hx t ht)) ha.len
theorem Jd {T:TypeId}{parts:Array (Nat×Operand)}(ho:o.op=.build T parts)(h:tj E o T parts.toList st some=some st'):cO E Γ an X o st st':=by
 have hl:∀t∈Ee (parts.toList.map (·.2)),t∈cr o:=λt ht=>by simp only[cr,ho];exact ht
 unfold tj at h;split at h;rename_i ct offs hT;split at h;rename_i vs st1 htk;have hst1:st1=st.fG (fK st (parts.toList.map (·.2))):=by rw[←uL,htk]
 split at h;rename_i cs hb;cases h;refine⟨⟨fK st (parts.toList.map (·.2))++o.dst.toList.map λd=>(d,.val true cs),none,none⟩,⟨λy hy=>?_,λ_ hh=>(by cases hh),λ_ hh=>(by cases hh)⟩,?_,λst2 ha=>?_⟩;rcases al.1 hy with hy|hy;have:=hl _ (sy _ _ y hy);simp[writes,vW,ho,this];obtain⟨d,hd,rfl⟩:=List.mem_map.1 hy;simp[writes,hd];rw[hst1];show _=st.fG _;rw[kX];cases o.dst<;>rfl;obtain⟨k1,k2⟩:=ha.dg hl;have h2:dg st2 (parts.toList.map (·.2))=(vs,st2.fG (fK st (parts.toList.map (·.2)))):=Prod.ext (by rw[k1,htk]) k2;simp only[cf,ho,tj,hT,h2,hb];show some ((st2.fG _).put o.dst _)=some (st2.fG _);rw[kX];cases o.dst<;>rfl;cases h;cases h
theorem cO.XT {tl:List (Nat×AV)}{v:AV}(ht:vW an o=true)(hl:∀y∈tl,y.1∈cr o)(h:st'=((st.fG tl).dp o.dst).put o.dst v)(h2:∀st2,eo an X o st st2→cf E Γ an o st2 some=some (((st2.fG tl).dp o.dst).put o.dst v)):cO E Γ an X o st st':=by
 have key:∀s:AS,(⟨tl++o.dst.toList.map λd=>(d,v),none,o.dst⟩:yT).apply s=((s.fG tl).dp o.dst).put o.dst v:=by intro s;cases o.dst with|none=>simp only[yT.apply,Option.toList,List.map_nil,ba,AS.fG,AS.dp,AS.put]|some d=>simp only[yT.apply,Option.toList,cP,List.map_nil,tu,AS.fG,AS.dp,AS.put,fR]
 refine⟨⟨tl++o.dst.toList.map λd=>(d,v),none,o.dst⟩,⟨λy hy=>?_,λ_ hh=>(by cases hh),λd hh=>hh⟩,by rw[key];exact h,λst2 ha=>by rw[key];exact h2 st2 ha⟩;rcases al.1 hy with hy|hy;simp[writes,ht,hl y hy];obtain⟨d,hd,rfl⟩:=List.mem_map.1 hy;simp[writes,hd]
theorem rC {tl:List (Nat×AV)}{d:Option Nat}:(st.fG tl).eD d=st.eD d:=rfl
theorem zw {T:TypeId}{len:Nat}{parts:Array (Nat×Operand)}(ho:o.op=.buildSlice T len parts)(h:gQ E o T len parts.toList st some=some st'):cO E Γ an X o st st':=by
 have hl:∀t∈Ee (parts.toList.map (·.2)),t∈cr o:=λt ht=>by simp only[cr,ho];exact ht
 unfold gQ at h;split at h;rename_i e hT;split at h;rename_i hc;split at h;rename_i vs st1 htk;have hst1:st1=st.fG (fK st (parts.toList.map (·.2))):=by rw[←uL,htk]
 split at h;rename_i xs hb;cases h;refine cO.XT (tl:=fK st (parts.toList.map (·.2))) (v:=.one (.sl (.own (st.eD o.dst 0)) e xs)) (by simp[vW,ho]) (λy hy=>hl _ (sy _ _ y hy)) ?_ λst2 ha=>?_;rw[hst1,AS.kh,rC];obtain⟨k1,k2⟩:=ha.dg hl;have h2:dg st2 (parts.toList.map (·.2))=(vs,st2.fG (fK st (parts.toList.map (·.2)))):=Prod.ext (by rw[k1,htk]) k2;simp only[cf,ho,gQ,hT,h2,hb,au hc];rw[AS.kh,rC,ha.eD];cases h;cases h;cases h
theorem Ba {T:TypeId}{n c:Operand}(ho:o.op=.makeSlice T n c)(h:jq E o T n c st some=some st'):cO E Γ an X o st st':=by
 have hr:∀st2,eo an X o st st2→st2.rd n=st.rd n∧st2.rd c=st.rd c:=λst2 ha=>
  ⟨ha.rd (λt ht=>by simp[cr,ho,ht]),ha.rd (λt ht=>by simp[cr,ho,ht])⟩
 unfold jq at h;split at h;rename_i e len cap hT hn hc;split at h;rename_i hlc;unfold room at h;split at h;rename_i hrm;cases h;refine cO.new (v:=.one (.sl (.own (st.eD o.dst 0)) e (List.replicate len.toNat e.zero))) rfl λst2 ha=>?_;simp only[cf,ho,jq,(hr st2 ha).1,(hr st2 ha).2,hT,hn,hc,au hlc,room,au hrm,AS.kh,ha.eD];cases h;cases h;cases h
theorem Gs {ts:Array TypeId}{args:Array Operand}(ho:o.op=.call {callee:=.builtin .append,args,argTypes:=ts})(h:pB E o ts.toList args.toList st some=some st'):cO E Γ an X o st st':=by
 have hlk:∀t∈Ee args.toList,t∈cr o:=λt ht=>by simp only[cr,ho];exact ht
 unfold pB at h;split at h;rename_i t t' s x hts hargs;have hl:∀u∈Ee [s,x],u∈cr o:=by rw[←hargs];exact hlk
 have hboth:∀st2,eo an X o st st2→(st2.take s).1=(st.take s).1∧((st2.take s).2.take x).1=((st.take s).2.take x).1∧((st2.take s).2.take x).2=st2.fG (fK st [s,x]):=by intro st2 ha;obtain⟨k1,k2⟩:=ha.dg hl;simp only[Dn.dg,List.cons.injEq,eB]at k1 k2;exact⟨k1.1,k1.2,k2⟩
 have hself:((st.take s).2.take x).2=st.fG (fK st [s,x]):=uL (st:=st) [s,x];split at h;rename_i tag e xs st1 htk1;split at h;rename_i fl e' ys st1' htk2;split at h;rename_i he;subst he;split at h;rename_i hc;unfold room at h;split at h;rename_i hrm;cases h;have hst1:(st.take s).2=st1:=by rw[htk1]
 have hst2:st1'=st.fG (fK st [s,x]):=by rw[←hself,hst1,htk2]
 refine cO.XT (tl:=fK st [s,x]) (v:=.one (.sl (.own (st.eD o.dst 0)) e' (xs++ys))) (by simp[vW,ho]) (λy hy=>hl _ (sy _ _ y hy)) ?_ λst2 ha=>?_;rw[hst2,AS.kh,rC];obtain⟨k1,k2,k3⟩:=hboth st2 ha;have e1:st2.take s=(.val false [.sl (.own tag) e' xs],(st2.take s).2):=Prod.ext (by rw[k1,htk1]) rfl;have e2:(st2.take s).2.take x=(.val false [.sl fl e' ys],st2.fG (fK st [s,x])):=Prod.ext (by rw[k2,hst1,htk2]) k3;simp only[cf,ho,pB,hts,hargs];rw[e1];simp only;rw[e2];simp only[dite_true,ha.ep,au hc,room,au hrm,AS.kh,rC,ha.eD];cases h;cases h;cases h;rename_i sx st1' htk2;split at h;rename_i he;subst he;split at h;rename_i hc;unfold room at h;split at h;rename_i hrm;cases h;have hst1:(st.take s).2=st1:=by rw[htk1]
 have hst2:st1'=st.fG (fK st [s,x]):=by rw[←hself,hst1,htk2]
 refine cO.XT (tl:=fK st [s,x]) (v:=.one (.sl (.own (st.eD o.dst 0)) (.int .u8) (xs++dq sx))) (by simp[vW,ho]) (λy hy=>hl _ (sy _ _ y hy)) ?_ λst2 ha=>?_;rw[hst2,AS.kh,rC];obtain⟨k1,k2,k3⟩:=hboth st2 ha;have e1:st2.take s=(.val false [.sl (.own tag) (.int .u8) xs],(st2.take s).2):=Prod.ext (by rw[k1,htk1]) rfl;have e2:(st2.take s).2.take x=(.val false [.str sx],st2.fG (fK st [s,x])):=Prod.ext (by rw[k2,hst1,htk2]) k3;simp only[cf,ho,pB,hts,hargs];rw[e1];simp only;rw[e2];simp only[dite_true,au hc,room,au hrm,AS.kh,rC,ha.eD];cases h;cases h;cases h;cases h;cases h;cases h
theorem Ow {T:TypeId}{x:Operand}(ho:o.op=.box T x)(h:Fm o x st some=some st'):cO E Γ an X o st st':=by
 have hr:∀st2,eo an X o st st2→(st2.take x).1=(st.take x).1∧(st2.take x).2=st2.fG (jj st x):=λst2 ha=>uM ha.ep λt ht=>ha.get t (by simpa[cr,ho]using ht);unfold Fm at h;split at h;rename_i d g cs st1 hd htk;have hst1:st1=st.fG (jj st x):=by rw[←tU,htk]
 split at h;rename_i hb;split at h;rename_i hs;cases h;have hb0:nth st.boxes d=some none:=by rw[hst1]at hb;exact hb
 have key:∀s:AS,(⟨jj st x++[(d,.one (.ptr d 0))],some (d,cs),none⟩:yT).apply s=((s.fG (jj st x)).cX d (some cs)).put (some d) (.one (.ptr d 0)):=by intro s;simp only[yT.apply,tu,AS.fG,AS.cX,AS.put,fR]
 refine⟨⟨jj st x++[(d,.one (.ptr d 0))],some (d,cs),none⟩,⟨λy hy=>?_,λb hb'=>?_,λ_ hh=>(by cases hh)⟩,?_,λst2 ha=>?_⟩;rcases al.1 hy with hy|hy;have:=yO y hy;simp[writes,vW,ho,cr,this];simp only[bw]at hy;subst hy;simp[writes,hd];cases hb';simp[vZ,ho,hd];rw[key,hst1,hd];have h2:st2.take x=(.val g cs,st2.fG (jj st x)):=Prod.ext (by rw[(hr st2 ha).1,htk]) (hr st2 ha).2;have hb2:nth (st2.fG (jj st x)).boxes d=some none:=by show nth st2.boxes d=_;rw[(ha.dst d hd).2];exact hb0
 simp only[cf,ho,Fm,hd,h2,hb2,au hs,key];cases h;cases h;cases h
theorem Dh (hΓ:∀f,(Γ f).io=false∧((Γ f).bx=true→(Γ f).cur=true)∧(Γ f).pr=false)(hm:iP an o=true)(hfree:cn E an X o st=true)(h:cf E Γ an o st some=some st'):cO E Γ an X o st st':=by
 have h0:=h;unfold cf at h;split at h;rename_i ho;exact Lt ho h;rename_i ho;have hlate:rV an o=false:=by simpa[iP,ho]using hm
 rw[aq (by simp[hlate])]at h;exact Gt ho hm h;rename_i ho;exact Lu ho h;rename_i ho;exact Jc ho h;rename_i ho;exact Ow ho h;rename_i ho;exact Ls ho hm hfree h;rename_i T p x ho;split at h;rename_i hd;cases p with
 |tmp pp=>
  have hlate:rV an o=false:=by simp only[iP,ho,ab,aB]at hm;exact hm.2
  rw[aq (by simp[hlate])]at h;exact Jh ho hd hm hfree h
 |const v=>simp[iP,ho]at hm
 |func f=>simp[iP,ho]at hm
 |global g=>simp[iP,ho]at hm
 cases h;rename_i ho;exact CI ho h0;rename_i ho;exact Ov ho h;rename_i ho;exact QR ho h;rename_i ho;exact Je ho h;rename_i ho;exact AZ ho hfree h;rename_i ho;exact Jf ho h;rename_i ho;exact Jd ho h;rename_i ho;exact zw ho h;rename_i ho;exact Ba ho h;rename_i ho;exact Jg ho hm hfree h;rename_i ho;simp[iP,ho]at hm;rename_i ho;simp[iP,ho]at hm;rename_i ho;exact DW ho h;rename_i ho;exact DX ho hfree h;rename_i ho;exact Ox ho h;rename_i ho;exact Oz ho h;rename_i ho;exact Oy ho h;rename_i ho;exact Gs ho h;rename_i ho;exact Lr hΓ ho hfree h;cases h
end Go.Dn
