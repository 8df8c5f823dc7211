import Derived.Test.YtjoicgadhgkphabGreatDnMask
/- What an operation looks at and what it turns: for regions whose order is drawn. -/
namespace Go.Dn
structure zq where
 slots:List (Nat×AV):=[]
 box:Option (Nat×List AC):=none
 iss:Option Nat:=none
def fR (l:List AV):List (Nat×AV)→List AV
 |[]=>l
 |x::r=>fR (eC l x.1 x.2) r
def zq.apply (u:zq)(st:AS):AS:=
 ⟨fR st.slots u.slots,(match u.box with|some b=>eC st.boxes b.1 (some b.2)|none=>st.boxes),st.ep,(match u.iss with|some d=>eC st.iss d true|none=>st.iss),st.io⟩
structure ei (an:An) (X:List Nat) (o:Oper) (st st2:AS):Prop where
 len:st2.slots.length=st.slots.length
 get:∀t∈cq o,st2.get t=st.get t
 ep:st2.ep=st.ep
 dst:∀d,o.dst=some d→nth st2.iss d=nth st.iss d∧nth st2.boxes d=nth st.boxes d
 box:∀s,X.contains s=false→nth st2.boxes s=nth st.boxes s
 er:∀t∈OX an o,st2.get t=st.get t
structure zq.xy (an:An) (u:zq) (o:Oper):Prop where
 slots:∀x∈u.slots,x.1∈writes an o
 box:∀b,u.box=some b→b.1∈wy an o
 iss:∀d,u.iss=some d→o.dst=some d
variable {E:Env} {Γ:bL} {an:An} {X:List Nat} {o:Oper} {st st2 st':AS}
theorem Qo {x:Operand}(hep:st2.ep=st.ep)(h:∀t∈tm x,st2.get t=st.get t):st2.rd x=st.rd x:=by cases x with|tmp t=>simp only[AS.rd,hep,h t (by simp[tm])]|const v=>rfl|func f=>rfl|global g=>rfl
def cL (E:Env)(Γ:bL)(an:An)(X:List Nat)(o:Oper)(st st':AS):Prop:=
 ∃u:zq,u.xy an o∧st'=u.apply st∧∀st2,ei an X o st st2→bX E Γ an o st2 some=some (u.apply st2)
def vm (o:Oper)(v:AV):zq:={slots:=o.dst.toList.map λd=>(d,v)}
theorem mM (v:AV):(vm o v).apply st=st.put o.dst v:=by unfold vm zq.apply AS.put;cases o.dst<;>rfl
theorem ud (v:AV):(vm o v).xy an o:=by refine⟨λx hx=>?_,λb hb=>by simp[vm]at hb,λd hd=>by simp[vm]at hd⟩;simp only[vm,List.mem_map]at hx;obtain⟨d,hd,rfl⟩:=hx;simp[writes,hd]
def ye (o:Oper)(v:AV):zq:={slots:=o.dst.toList.map λd=>(d,v),iss:=o.dst}
theorem zl (v:AV):(ye o v).apply st=(st.di o.dst).put o.dst v:=by unfold ye zq.apply AS.put AS.di;cases o.dst<;>rfl
theorem Ef (v:AV):(ye o v).xy an o:=by refine⟨λx hx=>?_,λb hb=>by simp[ye]at hb,λd hd=>by simpa[ye]using hd⟩;simp only[ye,List.mem_map]at hx;obtain⟨d,hd,rfl⟩:=hx;simp[writes,hd]
theorem cL.put {v:AV}(h:st'=st.put o.dst v)(h2:∀st2,ei an X o st st2→bX E Γ an o st2 some=some (st2.put o.dst v)):cL E Γ an X o st st':=⟨vm o v,ud v,by rw[mM];exact h,λst2 ha=>by rw[mM];exact h2 st2 ha⟩
theorem ei.rd (ha:ei an X o st st2){x:Operand}(hx:∀t∈tm x,t∈cq o):st2.rd x=st.rd x:=Qo ha.ep λt ht=>ha.get t (hx t ht)
theorem Lh {c x y:Operand}(ho:o.op=.pick c x y)(h:wa o c x y st some=some st'):cL E Γ an X o st st':=by
 have hr:∀st2,ei an X o st st2→st2.rd c=st.rd c∧st2.rd x=st.rd x∧st2.rd y=st.rd y:=λst2 ha=>
  ⟨ha.rd (λt ht=>by simp[cq,ho,ht]),ha.rd (λt ht=>by simp[cq,ho,ht]),ha.rd (λt ht=>by simp[cq,ho,ht])⟩
 unfold wa at h;split at h;rename_i t hc;split at h;rename_i a b hx hy;cases h;refine cL.put rfl λst2 ha=>?_;obtain⟨h1,h2,h3⟩:=hr st2 ha;simp only[bX,ho,wa,h1,h2,h3,hc,hx,hy];rename_i va vb hno;have hgo:∀st2,ei an X o st st2→bX E Γ an o st2 some=cond t (some (st2.put o.dst (st.rd x))) (some (st2.put o.dst (st.rd y))):=by intro st2 ha;obtain⟨h1,h2,h3⟩:=hr st2 ha;simp only[bX,ho,wa,h1,h2,h3,hc]
 cases t with|true=>cases h;exact cL.put rfl λst2 ha=>hgo st2 ha|false=>cases h;exact cL.put rfl λst2 ha=>hgo st2 ha
 cases h
theorem CU {d s:Nat}{cs:List AC}{v:AV}:(⟨[(d,v)],some (s,cs),none⟩:zq).apply st=(st.cY s (some cs)).put (some d) v:=rfl
theorem Fa {o:Oper}(h:wu an o=true):∃T q d,o.op=.load T (.tmp q)∧o.dst=some d∧o.guard=none∧an.mv.contains d=true∧an.mb d=none:=by unfold wu at h;split at h;rename_i T q d ho hd hg;simp only[ai,Option.isNone_iff_eq_none]at h;exact⟨T,q,d,ho,hd,hg,h.1.1,h.1.2⟩;cases h
def zj (st:AS)(b j t:Nat)(e:CT)(i:Int)(cs:List AC)(ys:List e.D):AS:=st.cY b (some (eC cs j (.sl (.holed (some t) i (some st.ep)) e ys)))
theorem Dw {T:TypeId}{q d:Nat}(ht:wu an o=true)(ho:o.op=.load T (.tmp q))(hd:o.dst=some d)(hmv:an.mv.contains d=true)(hmb:an.mb d=none):(cj E an X o st=true∧ks E an o T (.tmp q) st some=some st')↔ ∃(g:Bool)(e:CT)(offs:List (Nat×Nat))(b j t ep0:Nat)(x:e.D)(i:Int)(cs:List AC)(ys:List e.D)(y:e.D),ff E.ty T=some ⟨g,e,offs⟩∧st.rd (.tmp q)=.val false [.elt (.loc ep0 (some (.box b j,t))) e x i 0]∧(nth st.boxes b).getD none=some cs∧nth cs j=some (.sl (.own (some t)) e ys)∧idx ys i=some y∧ X.contains b=false∧an.eb q=some b∧J5 an o=false∧st'=(zj st b j t e i cs ys).put (some d) (.val g (cellsOf e (.own none) y)):=by
 have htk:wx an o=true:=by unfold wx;rw[hd];simp only[hmv,hmb];rfl
 have hnl:uc an o=false:=by unfold uc;split;rename_i hd' _;rw[hd]at hd';cases hd';rw[hmb];simp;rfl
 have hnp:tC an o=false:=by unfold tC;split;rename_i hd' _;rw[hd]at hd';cases hd';rw[hmv];rfl;rfl
 constructor;rintro⟨hf,h⟩;unfold ks at h;split at h;rename_i hp;simp only[cj,ho,hp,hd,hmv,hmb]at hf;simp at hf;rename_i sh fl e x i off hT hp;rw[az htk]at h;simp only[cj,ho,hp,ht,hnl,hnp,Bool.or_false,bq,au,cZ,gp,ai,aJ]at hf;obtain⟨⟨hl0,hfm⟩,hb⟩:=hf;unfold qN at h;split at h;rename_i ep0 r t;cases r with
 |slot _ _=>cases hb
 |io _=>cases hb
 |box b j=>
  simp only[ai,aS,aJ]at hb;split at h;rename_i t' e' ys hrg;split at h;rename_i he;subst he;split at h;rename_i hc;obtain⟨rfl,rfl,hct⟩:=hc;obtain⟨g,ct,offs⟩:=sh;simp only at hct;subst hct;cases hi:idx ys i with|none=>simp only[hi,aa]at h;cases h|some y=>simp only[hi,aa]at h;cases h;simp only[AS.db]at hrg;obtain⟨cs,hcs,hj⟩:=aB.1 hrg;refine⟨g,_,offs,b,j,_,ep0,x,i,cs,ys,y,hT,hp,hcs,hj,hi,hb.2,hb.1,hfm,?_⟩;simp only[AS.df,hcs,hd];rfl
  cases h;cases h;cases h
 cases h;cases h;rintro⟨g,e,offs,b,j,t,ep0,x,i,cs,ys,y,hT,hp,hcs,hj,hi,hX,heb,hfm,rfl⟩;constructor;simp only[cj,ho,hp,ht,hnl,hnp,hfm,hX,heb];simp;simp only[ks,hT,hp,htk,bd,qN,AS.db,hcs,cU,hj,dite_true,and_self,hi,aa,AS.df,hd];rfl
theorem Ji {T:TypeId}{p:Operand}(ht:wu an o=true)(ho:o.op=.load T p)(hfree:cj E an X o st=true)(h:ks E an o T p st some=some st'):cL E Γ an X o st st':=by obtain⟨T',q,d,ho',hd,hg,hmv,hmb⟩:=Fa ht;rw[ho]at ho';cases ho';obtain⟨g,e,offs,b,j,t,ep0,x,i,cs,ys,y,hT,hp,hcs,hj,hi,hX,heb,hfm,rfl⟩:=(Dw ht ho hd hmv hmb).1 ⟨hfree,h⟩;refine⟨⟨[(d,.val g (cellsOf e (.own none) y))],some (b,eC cs j (.sl (.holed (some t) i (some st.ep)) e ys)),none⟩,⟨λx hx=>?_,λb' hb'=>?_,λ_ hh=>by cases hh⟩,rfl,λst2 ha=>?_⟩;simp only[cP]at hx;subst hx;simp[writes,hd];cases hb';simp only[wy,ho,hd,hmv,ae,ht,heb];simp;have h2:=((Dw (E:=E) (X:=X) (st:=st2) ht ho hd hmv hmb).2 ⟨g,e,offs,b,j,t,ep0,x,i,cs,ys,y,hT,by rw[ha.rd (λt ht=>by simpa[cq,ho]using ht)];exact hp,by rw[ha.box b hX];exact hcs,hj,hi,hX,heb,hfm,rfl⟩).2;simp only[bX,ho];rw[h2];simp only[zj,ha.ep];rfl
theorem Lf {T:TypeId}{p:Operand}(ho:o.op=.load T p)(hm:jq an o=true)(hfree:cj E an X o st=true)(h:ks E an o T p st some=some st'):cL E Γ an X o st st':=by
 cases hE:wu an o with|true=>exact Ji hE ho hfree h|false=> ?_
 have hr:∀st2,ei an X o st st2→st2.rd p=st.rd p:=λst2 ha=>ha.rd (λt ht=>by simpa[cq,ho]using ht);have htk:wx an o=false:=by simp only[jq,ho,hE,Bool.or_false]at hm;unfold wx;cases hdd:o.dst with|none=>rfl|some d=>rw[hdd]at hm;simp only[bZ,aJ]at hm;rcases hm with hm|hm;simp only[hm,cD];cases hmb:an.mb d with|none=>rw[hmb]at hm;cases hm|some _=>simp[hmb]
 unfold ks at h;split at h;rename_i sh s off hT hp;simp only[cj,ho,hp,ai,aJ]at hfree;split at h;rename_i cs hb;split at h;rename_i hfit;split at h;rename_i d hd;have hbx:∀st2,ei an X o st st2→nth st2.boxes s=nth st.boxes s:=λst2 ha=>ha.box s hfree.1.1;cases hf:an.mv.contains d with
 |false=>simp only[hf,aK,bj]at h;cases h;refine cL.put (by rw[hd]) λst2 ha=>?_;simp only[bX,ho,ks,hT,hr st2 ha,hp,hbx st2 ha,hb,az hfit,hd,hf,aK,bj,ha.ep]
 |true=>
  simp only[hf,bd]at h;have hmb:an.mb d=some s:=by have:=hfree.1.2;rw[hd]at this;simp only[hf,au,cZ,aS]at this;exact this
  cases h;refine⟨⟨[(d,.val sh.agg ((cs.drop off).take sh.ct.size))],some (s,bW cs off (aH st.ep ((cs.drop off).take sh.ct.size))),none⟩,⟨λx hx=>?_,λb hb'=>?_,λ_ hh=>by cases hh⟩,?_,λst2 ha=>?_⟩;simp only[cP]at hx;subst hx;simp[writes,hd];cases hb';simp only[wy,ho,hd,hf,ae,hmb];simp;rw[CU,hd];simp only[bX,ho,ks,hT,hr st2 ha,hp,hbx st2 ha,hb,az hfit,hd,hf,bd,ha.ep,CU]
 cases h;cases h;cases h;rename_i sh fl e x i off hT hp;rw[ar (by simp[htk])]at h;split at h;rename_i hl;split at h;rename_i hfit;cases h;refine cL.put rfl λst2 ha=>?_;simp only[bX,ho,ks,hT,hr st2 ha,hp,ha.ep,htk,aK,bj,az hl,az hfit];cases h;rename_i hl;have hroot:∀r t ep0,fl=.loc ep0 (some (r,t))→∀st2,ei an X o st st2→st2.db r=st.db r:=by rintro r t ep0 rfl st2 ha;simp only[cj,ho,hp,hE,bq,Bool.true_or,gp,ai,bZ]at hfree;rcases hfree.1.1 with hq|hq;exact absurd hq hl;cases r with|slot b j=>simp only[AS.db];rw[ha.er b (by simpa using hq)]|box b j=>simp only[AS.db];rw[ha.box b (by simpa using hq)]|io j=>cases hq
 unfold vh at h;split at h;rename_i ep0 r t;split at h;rename_i t' e' ys hrg;split at h;rename_i he;split at h;rename_i hc;cases hi:idx (he▸ys:List _) i with|none=>rw[hi]at h;cases h|some y=>rw[hi]at h;simp only[aa]at h;cases h;refine cL.put rfl λst2 ha=>?_;simp only[bX,ho,ks,hT,hr st2 ha,hp,ha.ep,htk,aK,bj,ar hl,vh,hroot _ _ _ rfl st2 ha,hrg,dif_pos he,az hc,hi,aa]
 cases h;cases h;cases h;cases h;cases h
theorem CX {x:Operand}(ho:o.op=.nilCheck x)(h:bX E Γ an o st some=some st'):cL E Γ an X o st st':=by have hr:∀st2,ei an X o st st2→st2.rd x=st.rd x:=λst2 ha=>ha.rd (λt ht=>by simpa[cq,ho]using ht);simp only[bX,ho]at h;split at h;rename_i s off hx;cases h;refine cL.put rfl λst2 ha=>?_;simp only[bX,ho,hr st2 ha,hx];rename_i fl e y i off hx;cases h;refine cL.put rfl λst2 ha=>?_;simp only[bX,ho,hr st2 ha,hx];cases h
theorem DH {op:BinOp}{x y:AV}(h:(w6 op x y λc=>some (st.put o.dst (.one c)))=some st'):∃v,st'=st.put o.dst v∧∀st2:AS,(w6 op x y λc=>some (st2.put o.dst (.one c)))=some (st2.put o.dst v):=by have key:∀s:AS,(w6 op x y λc=>some (s.put o.dst (.one c)))=(w6 op x y some).bind λc=>some (s.put o.dst (.one c)):=λs=>(wB op x y some _).symm;rw[key st]at h;cases hb:w6 op x y some with|none=>rw[hb]at h;cases h|some c=>rw[hb]at h;cases h;exact⟨_,rfl,λst2=>by rw[key st2,hb];rfl⟩
theorem Ff {op:BinOp}{b:Bool}(h:(vt op b λc=>some (st.put o.dst (.one c)))=some st'):∃v,st'=st.put o.dst v∧∀st2:AS,(vt op b λc=>some (st2.put o.dst (.one c)))=some (st2.put o.dst v):=by unfold vt at h;split at h;cases h;exact⟨_,rfl,λst2=>rfl⟩;cases h;exact⟨_,rfl,λst2=>rfl⟩;cases h
theorem Ob {op:BinOp}{T T':TypeId}{x y:Operand}(ho:o.op=.binOp op T x y T')(h:s9 E o op T x y st some=some st'):cL E Γ an X o st st':=by
 have hr:∀st2,ei an X o st st2→st2.rd x=st.rd x∧st2.rd y=st.rd y:=λst2 ha=>
  ⟨ha.rd (λt ht=>by simp[cq,ho,ht]),ha.rd (λt ht=>by simp[cq,ho,ht])⟩
 unfold s9 at h;split at h;rename_i a b hx hy;split at h;rename_i hT;obtain⟨v,rfl,hv⟩:=DH h;refine cL.put rfl λst2 ha=>?_;simp only[bX,ho,s9,(hr st2 ha).1,(hr st2 ha).2,hx,hy,az hT];exact hv st2;cases h;rename_i xs ys hx hy;split at h;rename_i ls hq;split at h;rename_i hfit;obtain⟨v,rfl,hv⟩:=DH h;refine cL.put rfl λst2 ha=>?_;simp only[bX,ho,s9,(hr st2 ha).1,(hr st2 ha).2,hx,hy,hq,az hfit];exact hv st2;cases h;cases h;rename_i fl e xs hx hy;split at h;rename_i hT;split at h;cases h;rename_i hlen;obtain⟨v,rfl,hv⟩:=Ff h;refine cL.put rfl λst2 ha=>?_;simp only[bX,ho,s9,(hr st2 ha).1,(hr st2 ha).2,hx,hy,ha.ep,az hT,ar hlen];exact hv st2;cases h;rename_i hx hy;split at h;rename_i hT;obtain⟨v,rfl,hv⟩:=Ff h;refine cL.put rfl λst2 ha=>?_;simp only[bX,ho,s9,(hr st2 ha).1,(hr st2 ha).2,hx,hy,az hT];exact hv st2;cases h;rename_i a b hn1 hn2 hn3 hn4;obtain⟨v,rfl,hv⟩:=DH h;refine cL.put rfl λst2 ha=>?_;simp only[bX,ho,s9,(hr st2 ha).1,(hr st2 ha).2];exact hv st2
theorem Qb {op:UnOp}{T:TypeId}{x:Operand}(ho:o.op=.unOp op T x)(h:(R0 op (st.rd x) λc=>some (st.put o.dst (.one c)))=some st'):cL E Γ an X o st st':=by have hr:∀st2,ei an X o st st2→st2.rd x=st.rd x:=λst2 ha=>ha.rd (λt ht=>by simpa[cq,ho]using ht);have key:∀s:AS,(R0 op (st.rd x) λc=>some (s.put o.dst (.one c)))=(R0 op (st.rd x) some).bind λc=>some (s.put o.dst (.one c)):=λs=>(J1 op (st.rd x) some _).symm;rw[key st]at h;cases hb:R0 op (st.rd x) some with|none=>rw[hb]at h;cases h|some c=>rw[hb]at h;cases h;refine cL.put rfl λst2 ha=>?_;simp only[bX,ho,hr st2 ha];rw[key st2,hb];rfl
theorem Je {S:TypeId}{p:Operand}{f:Nat}(ho:o.op=.fieldAddr S p f)(h:sn E o S p f st some=some st'):cL E Γ an X o st st':=by have hr:∀st2,ei an X o st st2→st2.rd p=st.rd p:=λst2 ha=>ha.rd (λt ht=>by simpa[cq,ho]using ht);unfold sn at h;split at h;rename_i hT hp;split at h;rename_i hf;cases h;refine cL.put rfl λst2 ha=>?_;simp only[bX,ho,sn,hr st2 ha,hT,hp,hf];cases h;rename_i hT hp;split at h;rename_i hf;cases h;refine cL.put rfl λst2 ha=>?_;simp only[bX,ho,sn,hr st2 ha,hT,hp,hf];cases h;cases h
theorem se {v:AV}{s:AS}(h:v.now s.ep=true):v.fresh s=v:=by
 cases v with
 |tup vs=>rfl
 |val g cs=>
  simp only[AV.now,a7]at h;simp only[AV.fresh];congr 1;have:cs.map s.fresh=cs.map id:=List.map_congr_left λc hc=>by have hn:=h c hc;unfold AS.fresh;split;simp only[AC.now]at hn;rw[hn];rfl;rfl
  rw[this,List.map_id]
theorem It {v:AV}{st st2:AS}(he:st2.ep=st.ep)(h:v.now st.ep=true∨∃g ep b j t e xs,v=.val g [.sl (.loc ep (some (.box b j,t))) e xs]∧nth st2.boxes b=nth st.boxes b):v.fresh st2=v.fresh st:=by rcases h with h|⟨g,ep,b,j,t,e,xs,rfl,hb⟩;rw[se h,se (by rw[he];exact h)];simp only[AV.fresh,cn,List.map_nil];congr 2;unfold AS.fresh;simp only[AS.db,he,hb]
theorem AQ {T:TypeId}{x i:Operand}(ho:o.op=.indexAddr T x i)(hfree:cj E an X o st=true)(h:im E o T x i st some=some st'):cL E Γ an X o st st':=by
 have hr:∀st2,ei an X o st st2→st2.rd x=st.rd x∧st2.rd i=st.rd i:=λst2 ha=>
  ⟨ha.rd (λt ht=>by simp[cq,ho,ht]),ha.rd (λt ht=>by simp[cq,ho,ht])⟩
 have hf2:∀st2,ei an X o st st2→(st.rd x).fresh st2=(st.rd x).fresh st:=λst2 ha=>by refine It ha.ep ?_;simp only[cj,ho,bZ]at hfree;rcases hfree with hn|hn;exact .inl hn;split at hn;rename_i g ep b j t e xs hx;exact .inr ⟨g,ep,b,j,t,e,xs,hx,ha.box b (by simpa using hn)⟩;cases hn
 unfold im at h;split at h;rename_i e' fl e xs k n hT hx hi;split at h;rename_i hc;cases hix:idx xs n with|none=>rw[hix]at h;cases h|some y=>rw[hix]at h;cases h;refine cL.put rfl λst2 ha=>?_;have hf3:=hf2 st2 ha;rw[hx]at hf3;simp only[bX,ho,im,(hr st2 ha).1,(hr st2 ha).2,hf3,hT,hi,ha.ep,az hc,hix,aa]
 cases h;cases h
theorem Jf {T:TypeId}{x i:Operand}(ho:o.op=.index T x i)(h:tS E o T x i st some=some st'):cL E Γ an X o st st':=by
 have hr:∀st2,ei an X o st st2→st2.rd x=st.rd x∧st2.rd i=st.rd i:=λst2 ha=>
  ⟨ha.rd (λt ht=>by simp[cq,ho,ht]),ha.rd (λt ht=>by simp[cq,ho,ht])⟩
 unfold tS at h;split at h;rename_i s k n hx hi;split at h;rename_i hc;cases hix:idx s n with|none=>rw[hix]at h;cases h|some y=>rw[hix]at h;cases h;refine cL.put rfl λst2 ha=>?_;simp only[bX,ho,tS,(hr st2 ha).1,(hr st2 ha).2,hx,hi,az hc,hix,aa]
 cases h;cases h
theorem cL.new {v:AV}(h:st'=(st.di o.dst).put o.dst v)(h2:∀st2,ei an X o st st2→bX E Γ an o st2 some=some ((st2.di o.dst).put o.dst v)):cL E Γ an X o st st':=⟨ye o v,Ef v,by rw[zl];exact h,λst2 ha=>by rw[zl];exact h2 st2 ha⟩
theorem ei.eI (ha:ei an X o st st2):st2.eI o.dst=st.eI o.dst:=by funext j;cases hd:o.dst with|none=>rfl|some d=>simp only[AS.eI,(ha.dst d hd).1]
theorem yG {lo hi:Option Operand}{n:Nat}{f:AS→Int→Int→Option AS}(hs:∀st2,ei an X o st st2→lo.map st2.rd=lo.map st.rd∧hi.map st2.rd=hi.map st.rd)(h:iz st lo hi n (f st)=some st'):∃a b,f st a b=some st'∧∀st2,ei an X o st st2→iz st2 lo hi n (f st2)=f st2 a b:=by unfold iz at h;split at h;rename_i h1 h2;exact⟨_,_,h,λst2 ha=>by simp only[iz,(hs st2 ha).1,(hs st2 ha).2,h1,h2]⟩;rename_i h1 h2;exact⟨_,_,h,λst2 ha=>by simp only[iz,(hs st2 ha).1,(hs st2 ha).2,h1,h2]⟩;rename_i h1 h2;exact⟨_,_,h,λst2 ha=>by simp only[iz,(hs st2 ha).1,(hs st2 ha).2,h1,h2]⟩;rename_i h1 h2;exact⟨_,_,h,λst2 ha=>by simp only[iz,(hs st2 ha).1,(hs st2 ha).2,h1,h2]⟩;cases h
theorem Jg {T:TypeId}{x:Operand}{lo hi:Option Operand}(ho:o.op=.slice T x lo hi none)(hm:jq an o=true)(hfree:cj E an X o st=true)(h:sZ E an o T x lo hi st some=some st'):cL E Γ an X o st st':=by
 have hr:∀st2,ei an X o st st2→st2.rd x=st.rd x:=λst2 ha=>ha.rd (λt ht=>by simp[cq,ho,ht]);have hb:∀st2,ei an X o st st2→lo.map st2.rd=lo.map st.rd∧hi.map st2.rd=hi.map st.rd:=by
  intro st2 ha;constructor;cases lo with|none=>rfl|some y=>simp only[cc];rw[ha.rd (λt ht=>by simp[cq,ho,tmO,ht])]
  cases hi with|none=>rfl|some y=>simp only[cc];rw[ha.rd (λt ht=>by simp[cq,ho,tmO,ht])]
 have hnow:(st.rd x).now st.ep=true:=by simpa[cj,ho]using hfree
 have hf2:∀st2,ei an X o st st2→(st.rd x).fresh st2=st.rd x:=λst2 ha=>se (by rw[ha.ep];exact hnow);have htk:wx an o=false:=by simpa[jq,ho]using hm
 unfold sZ at h;rw[ar (by simp[htk]),se hnow]at h;split at h;rename_i s hx;split at h;rename_i hT;obtain⟨a,b,h1,h2⟩:=yG (f:=λs0 a b=>aa (sub s a b) λs'=>some (s0.put o.dst (.one (.str s')))) hb h;cases hsub:sub s a b with|none=>rw[hsub]at h1;cases h1|some s'=>rw[hsub]at h1;cases h1;refine cL.put rfl λst2 ha=>?_;have hf3:=hf2 st2 ha;rw[hx]at hf3;simp only[bX,ho,sZ,htk,aK,bj,hr st2 ha,hx,hf3,az hT];rw[h2 st2 ha,hsub];rfl
 cases h;rename_i fl e xs hx;split at h;rename_i hT;obtain⟨a,b,h1,h2⟩:=yG (f:=λs0 a b=>aa (sub xs a b) λxs'=>some (s0.put o.dst (.one (.sl (C5 an o fl a) e xs')))) hb h;cases hsub:sub xs a b with|none=>rw[hsub]at h1;cases h1|some s'=>rw[hsub]at h1;cases h1;refine cL.put rfl λst2 ha=>?_;have hf3:=hf2 st2 ha;rw[hx]at hf3;simp only[bX,ho,sZ,htk,aK,bj,hr st2 ha,hx,hf3,ha.ep,az hT];rw[h2 st2 ha,hsub];rfl
 cases h;cases h
theorem xz {args:List Operand}(hl:∀t,t∈Ee args→t∈cq o)(ha:ei an X o st st2):args.map st2.rd=args.map st.rd:=by apply List.map_congr_left;intro x hx;exact ha.rd (λt ht=>hl t (by simp only[Ee,List.mem_flatMap];exact⟨x,hx,ht⟩))
theorem Od {ts:Array TypeId}{args:Array Operand}(ho:o.op=.call {callee:=.builtin .len,args,argTypes:=ts})(h:CR E o ts.toList args.toList st some=some st'):cL E Γ an X o st st':=by have hr:∀st2,ei an X o st st2→args.toList.map st2.rd=args.toList.map st.rd:=λst2 ha=>xz (λt ht=>by simp only[cq,ho];exact ht) ha;unfold CR at h;split at h;rename_i t s hts hx;split at h;rename_i hT;cases h;refine cL.put rfl λst2 ha=>?_;simp only[bX,ho,CR,hr st2 ha,hts,hx,az hT];cases h;rename_i t _ _ xs hts hx;split at h;rename_i hT;cases h;refine cL.put rfl λst2 ha=>?_;simp only[bX,ho,CR,hr st2 ha,hts,hx,az hT];cases h;cases h
theorem Of {ts:Array TypeId}{args:Array Operand}(ho:o.op=.call {callee:=.builtin .min,args,argTypes:=ts})(h:DY o args.toList st some=some st'):cL E Γ an X o st st':=by have hr:∀st2,ei an X o st st2→args.toList.map st2.rd=args.toList.map st.rd:=λst2 ha=>xz (λt ht=>by simp only[cq,ho];exact ht) ha;unfold DY at h;split at h;rename_i hx;cases h;refine cL.put rfl λst2 ha=>?_;simp only[bX,ho,DY,hr st2 ha,hx];cases h
theorem Oe {ts:Array TypeId}{args:Array Operand}(ho:o.op=.call {callee:=.builtin .max,args,argTypes:=ts})(h:DX o args.toList st some=some st'):cL E Γ an X o st st':=by have hr:∀st2,ei an X o st st2→args.toList.map st2.rd=args.toList.map st.rd:=λst2 ha=>xz (λt ht=>by simp only[cq,ho];exact ht) ha;unfold DX at h;split at h;rename_i hx;cases h;refine cL.put rfl λst2 ha=>?_;simp only[bX,ho,DX,hr st2 ha,hx];cases h
theorem N4 {l:List Nat}{c:AC}(h:c.Qv l=true)(hl:∀t∈l,st2.get t=st.get t):st2.DV c=st.DV c:=by
 cases c with
 |sl fl e xs=>
  cases fl with
  |loc ep pv=>cases pv with|none=>rfl|some q=>obtain⟨r,t⟩:=q;cases r with|slot b j=>have hb:st2.get b=st.get b:=hl b (by simpa[AC.Qv]using h);simp only[AS.DV,AS.db,hb]|box _ _=>rfl|io _=>rfl
  |_=>rfl
 |_=>rfl
theorem K7 {l:List Nat}{x:Operand}(hx:yU l st x=true)(hl:∀t∈l,st2.get t=st.get t)(h:∀t∈tm x,st2.get t=st.get t):tA st2 x=tA st x∧uo st2 x=uo st x:=by
 cases x with
 |tmp t=>have ht:=h t (by simp[tm]);simp only[yU]at hx;cases hg:st.get t with|tup vs=>exact⟨by simp only[tA,ht,hg],by simp only[uo,ht,hg]⟩|val g cs=>rw[hg]at hx;have hm:cs.map st2.DV=cs.map st.DV:=List.map_congr_left λc hc=>N4 (a7.1 hx c hc) hl;exact⟨by simp only[tA,ht,hg,hm],by simp only[uo,ht,hg,hm]⟩
 |const v=>exact⟨rfl,rfl⟩
 |func f=>exact⟨rfl,rfl⟩
 |global g=>exact⟨rfl,rfl⟩
theorem DZ {f:Operand}{ts:Array TypeId}{args:Array Operand}(ho:o.op=.call {callee:=.value f,args,argTypes:=ts})(hfree:cj E an X o st=true){k:Nat}(hf:st.rd f=.val false [.fn k])(hbx:(Γ k).bx=true)(hcur:(Γ k).cur=true)(h:oc Γ o k args.toList st some=some st'):cL E Γ an X o st st':=by
 unfold oc at h;split at h;rename_i x0 xs hargs;split at h;rename_i s hx0;have hfr:nq an X (OX an o) st (x0::xs)=true:=by have h1:=hfree;simp only[cj,ho,ai]at h1;rw[←hargs];exact h1.1
 have hx1:∃q,x0=.tmp q∧X.contains s=false∧an.sb q=some s∧(match (nth st.boxes s).getD none with|some cs=>cs.all AC.yh|none=>true)=true∧xs.all (yU (OX an o) st)=true:=by cases x0 with|tmp q=>simp only[nq,hx0,Pj,ai,aJ,aS]at hfr;exact⟨q,rfl,hfr.1.1.1,hfr.1.1.2,hfr.1.2,hfr.2⟩|const v=>simp only[nq,hx0,AV.MW]at hfr;cases hfr|func v=>simp only[nq,hx0,AV.MW]at hfr;cases hfr|global v=>simp only[nq,hx0,AV.MW]at hfr;cases hfr
 obtain⟨q,rfl,hX,hsb,hall,hself⟩:=hx1;split at h;rename_i cs hb0;rw[hb0]at hall;simp only at hall;cases hc:(cs.all (AC.ri (vn cs))&&xs.all (uo st))with
 |false=>rw[hc]at h;cases h
 |true=>
  rw[hc]at h;simp only[ae]at h;cases hres:(Γ k).fn (.val true (cs.map AC.Hf)::xs.map (tA st))with
  |none=>rw[hres]at h;cases h
  |some y=>
   rw[hres]at h;simp only[aa]at h;cases hc2:(((Γ k).back y).all (AC.ri true)&&((Γ k).av y).Oi)with
   |false=>rw[hc2]at h;cases h
   |true=>
    rw[hc2]at h;simp only[ae,hcur,hall,cf,aU]at h;subst h;refine⟨⟨o.dst.toList.map λd=>(d,((Γ k).av y).vo st.ep (st.eI o.dst)),some (s,kD (vn cs) (λ_=>none) 0 ((Γ k).back y)),o.dst⟩,⟨λx hx=>?_,λb hb=>?_,λd hd=>hd⟩,?_,λst2 ha=>?_⟩;simp only[List.mem_map]at hx;obtain⟨d,hd,rfl⟩:=hx;simp[writes,hd];cases hb;simp[wy,ho,hargs,hsb];unfold zq.apply AS.put AS.di AS.cY;cases o.dst<;>rfl;have e1:st2.rd f=st.rd f:=ha.rd (λt ht=>by simp[cq,ho,ht]);have hl:∀x∈Operand.tmp q::xs,∀t∈tm x,t∈cq o:=by intro x hx t ht;simp only[cq,ho,aq,Ee,List.mem_flatMap,hargs];exact .inr ⟨x,hx,ht⟩
    have e2:st2.rd (.tmp q)=st.rd (.tmp q):=ha.rd (hl _ (by simp));have e3:nth st2.boxes s=nth st.boxes s:=ha.box s hX;have e4:∀x∈xs,tA st2 x=tA st x∧uo st2 x=uo st x:=λx hx=>K7 (a7.1 hself x hx) ha.er λt ht=>ha.get t (hl x (by simp[hx]) t ht);have e5:xs.map (tA st2)=xs.map (tA st):=List.map_congr_left λx hx=>(e4 x hx).1;have e6:xs.all (uo st2)=xs.all (uo st):=by rw[bK];simp only[a7];exact⟨λg x hx=>by rw[←(e4 x hx).2];exact g x hx,λg x hx=>by rw[(e4 x hx).2];exact g x hx⟩
    simp only[bX,ho,vq,e1,hf,hbx,ae,oc,hargs,e2,hx0,e3,hb0,e5,e6,hc,hres,aa,hc2,hcur,hall,cf,ha.ep,ha.eI];unfold zq.apply AS.put AS.di AS.cY;cases o.dst<;>rfl
 cases h;cases h;cases h
theorem Ld (hΓ:∀f,(Γ f).io=false∧((Γ f).bx=true→(Γ f).cur=true)∧(Γ f).pr=false){f:Operand}{ts:Array TypeId}{args:Array Operand}(ho:o.op=.call {callee:=.value f,args,argTypes:=ts})(hfree:cj E an X o st=true)(h:vq Γ o f args.toList st some=some st'):cL E Γ an X o st st':=by
 have hr:∀st2,ei an X o st st2→st2.rd f=st.rd f∧(args.toList.map λx=>((st2.rd x).fresh st2).asArg st2.ep)=args.toList.map λx=>((st.rd x).fresh st).asArg st.ep:=by
  intro st2 ha;refine⟨ha.rd (λt ht=>by simp[cq,ho,ht]),?_⟩;apply List.map_congr_left;intro x hx;have hnow:(st.rd x).now st.ep=true:=by simp only[cj,ho,ai,a7]at hfree;exact hfree.2 x hx
  rw[ha.rd (λt ht=>by simp only[cq,ho,aq,Ee,List.mem_flatMap];exact .inr ⟨x,hx,ht⟩),se hnow,se (s:=st2) (by rw[ha.ep];exact hnow),ha.ep]
 unfold vq at h;split at h
 ·rename_i k hf
  cases hbx:(Γ k).bx with
  |true=>rw[hbx]at h;exact DZ ho hfree hf hbx ((hΓ k).2.1 hbx) h
  |false=>
  rw[hbx,(hΓ k).2.2,(hΓ k).1]at h
  simp only[af]at h
  cases hg:(Γ k).fn (args.toList.map λx=>((st.rd x).fresh st).asArg st.ep)with
  |none=>rw[hg]at h;cases h
  |some y=>
   rw[hg]at h
   simp only[aa]at h
   cases hsel:(Γ k).sel y with
   |true=>
    rw[hsel]at h
    cases h
    refine cL.new rfl λst2 ha=>?_
    simp only[bX,ho,vq,(hr st2 ha).1,hf,(hΓ k).1,hbx,(hΓ k).2.2,af]
    rw[(hr st2 ha).2,hg]
    simp only[aa,hsel,ae,ha.ep,ha.eI]
   |false=>
    rw[hsel]at h
    cases h
    refine cL.new rfl λst2 ha=>?_
    simp only[bX,ho,vq,(hr st2 ha).1,hf,(hΓ k).1,hbx,(hΓ k).2.2,af]
    rw[(hr st2 ha).2,hg]
    simp only[aa,hsel,af,ha.ep,ha.eI]
 cases h
theorem D0 {src dst:TypeId}{x:Operand}(ho:o.op=.convert src dst x)(h:gY E o src dst x st some=some st'):cL E Γ an X o st st':=by
 have hr:∀st2,ei an X o st st2→st2.rd x=st.rd x:=λst2 ha=>ha.rd (λt ht=>by simpa[cq,ho]using ht);unfold gY at h;split at h;rename_i h1 h2 h3;cases h;refine cL.put rfl λst2 ha=>?_;simp only[bX,ho,gY,hr st2 ha,h1,h2,h3];rename_i h1 h2 h3;cases h;refine cL.put rfl λst2 ha=>?_;simp only[bX,ho,gY,hr st2 ha,h1,h2,h3];rename_i offs val s hno h1 h2 h3;split at h;rename_i hb;unfold room at h;split at h;rename_i hrm;cases h;refine cL.new (v:=.one (.sl (.own (st.eI o.dst 0)) (.int .u8) (dp s))) rfl λst2 ha=>?_;have hval:∀k:AS→Option AS,gY E o src dst x st2 k=if E.bytes dst then room s.length (k (st2.kP o.dst (.int .u8) (dp s))) else none:=by intro k;unfold gY;rw[hr st2 ha,h1,h2,h3];obtain⟨ag,ct,of⟩:=val;cases ag with|true=>rfl|false=>cases ct with|str=>exact(hno _ rfl).elim|_=>rfl
 simp only[bX,ho];rw[hval,az hb,room,az hrm,AS.kP,ha.eI];cases h;cases h;rename_i val offs fl xs h1 h2 h3;split at h;rename_i hb;cases h;refine cL.put rfl λst2 ha=>?_;have hval:∀k:AS→Option AS,gY E o src dst x st2 k=if E.bytes src∧fl.live st2.ep then k (st2.put o.dst (.one (.str (bytesOf xs)))) else none:=by intro k;unfold gY;rw[hr st2 ha,h1,h2,h3];obtain⟨ag,ct,of⟩:=val;cases ag with|true=>rfl|false=>cases ct<;>rfl
 simp only[bX,ho];rw[hval,ha.ep,az hb];cases h;cases h
theorem Am {d:Nat}{cs:List AC}{v:AV}:(⟨[(d,v)],some (d,cs),none⟩:zq).apply st=(st.cY d (some cs)).put (some d) v:=rfl
theorem Jc {T:TypeId}(ho:o.op=.alloc T)(h:uE E o T st some=some st'):cL E Γ an X o st st':=by unfold uE at h;split at h;rename_i d sh hd hT;split at h;rename_i hb;cases h;refine⟨⟨[(d,.one (.ptr d 0))],some (d,cellsOf sh.ct (.own none) sh.ct.zero),none⟩,⟨λx hx=>?_,λb hb'=>?_,λ_ hh=>by cases hh⟩,?_,λst2 ha=>?_⟩;simp only[cP]at hx;subst hx;simp[writes,hd];cases hb';simp[wy,ho,hd];rw[Am,hd];simp only[bX,ho,uE,hd,hT,(ha.dst d hd).2,hb,Am];cases h;cases h
def jG (st:AS):Operand→List (Nat×AV)
 | .tmp t=>[(t,(st.get t).aH st.ep)]
 |_=>[]
theorem tX (l:List AV)(a b:List (Nat×AV)):fR l (a++b)=fR (fR l a) b:=by induction a generalizing l with|nil=>rfl|cons x a ih=>exact ih _
def AS.fG (st:AS)(l:List (Nat×AV)):AS:={st with slots:=fR st.slots l}
theorem adz:st.fG []=st:=rfl
theorem lM (a b:List (Nat×AV)):st.fG (a++b)=(st.fG a).fG b:=by simp only[AS.fG,tX]
theorem ady (d:Nat)(v:AV):st.put (some d) v=st.fG [(d,v)]:=rfl
theorem uB (x:Operand):(st.take x).2=st.fG (jG st x):=by cases x<;>rfl
theorem vl {x:Operand}(hep:st2.ep=st.ep)(h:∀t∈tm x,st2.get t=st.get t):(st2.take x).1=(st.take x).1∧(st2.take x).2=st2.fG (jG st x):=by cases x with|tmp t=>have:=h t (by simp[tm]);refine⟨this,?_⟩;rw[uB];simp only[jG,this,hep]|const v=>exact⟨rfl,rfl⟩|func f=>exact⟨rfl,rfl⟩|global g=>exact⟨rfl,rfl⟩
theorem zk {x:Operand}:∀y∈jG st x,y.1∈tm x:=by cases x<;>simp[jG,tm]
theorem Lg {x:Operand}(ho:o.op=.move x)(h:uw an o x st some=some st'):cL E Γ an X o st st':=by
 unfold uw at h;cases hd:o.dst with
 |none=>rw[hd]at h;cases h
 |some d=>
  rw[hd]at h;cases hf:an.mv.contains d with
  |false=>simp only[hf,aK,bj]at h;cases h;refine cL.put (v:=st.rd x) (by rw[hd]) λst2 ha=>?_;have hr:st2.rd x=st.rd x:=ha.rd (λt ht=>by simpa[cq,ho]using ht);simp only[bX,ho,uw,hd,hf,aK,bj,hr]
  |true=>
   simp only[hf,bd]at h;cases h;have hr:∀st2,ei an X o st st2→(st2.take x).1=(st.take x).1∧(st2.take x).2=st2.fG (jG st x):=λst2 ha=>vl ha.ep λt ht=>ha.get t (by simpa[cq,ho]using ht);refine⟨⟨jG st x++[(d,(st.take x).1)],none,none⟩,⟨λy hy=>?_,λ_ hh=>(by cases hh),λ_ hh=>(by cases hh)⟩,?_,λst2 ha=>?_⟩;rcases aq.1 hy with hy|hy;have:=zk y hy;have hf':d∈an.mv:=by simpa using hf
   simp[writes,wv,ho,hd,hf',cq,this];simp only[cP]at hy;subst hy;simp[writes,hd];rw[uB];show _=st.fG _;rw[lM];rfl;simp only[bX,ho,uw,hd,hf,bd,(hr st2 ha).1,(hr st2 ha).2];show some ((st2.fG (jG st x)).put (some d) (st.take x).1)=some (st2.fG _);rw[lM];rfl
theorem Io {ep:Nat}{cs:List AC}(h:cs.all AC.dV=true):aH ep cs=cs:=by
 rw[a7]at h;unfold aH;have:cs.map (AC.borrow ep none)=cs.map id:=List.map_congr_left λc hc=>by have:=h c hc;cases c<;>first|rfl|(simp[AC.dV]at this)
 rw[this,List.map_id]
theorem S0 {s:AS}{t:Nat}{vs:List (Bool×List AC)}(h:s.get t=.tup vs):s.put (some t) (.tup vs)=s:=by cases s with|mk slots boxes ep iss io=>simp only[AS.put,AS.mk.injEq,eG];rw[dg];apply List.ext_getElem?;intro i;rw[List.getElem?_set];split;rename_i hd;subst hd;simp only[AS.get,cy]at h;split;rename_i hlt;rw[List.getElem?_eq_getElem hlt]at h⊢;simp only[dH]at h;rw[h];rename_i hge;rw[List.getElem?_eq_none (fV hge)];rfl
theorem D1 {t i:Nat}(ho:o.op=.extract (.tmp t) i)(hfree:cj E an X o st=true)(h:gZ o t i st some=some st'):cL E Γ an X o st st':=by
 have hr:∀st2,ei an X o st st2→st2.get t=st.get t:=λst2 ha=>ha.get t (by simp[cq,ho]);unfold gZ at h;simp only[cj,ho]at hfree;split at h
 ·rename_i vs hv;rw[hv]at hfree;split at h
  ·rename_i g cs hn;simp only[hn]at hfree;have hfl:cs.all AC.dV=true∨∃d,o.dst=some d∧an.mv.contains d=true:=by cases hd:o.dst with|none=>simp only[hd,Bool.or_false]at hfree;exact .inl hfree|some d=>simp only[hd,bZ]at hfree;rcases hfree with h|h;exact .inl h;exact .inr ⟨d,rfl,h⟩
   rcases hfl with hfree|⟨d,hd,hmv⟩;rotate_left;cases h;refine⟨⟨[(t,.tup (eC vs i (g,aH 0 cs))),(d,.val g cs)],none,none⟩,⟨λx hx=>?_,(λ_ hb=>by cases hb),(λ_ hh=>by cases hh)⟩,?_,λst2 ha=>?_⟩;simp only[bu,List.not_mem_nil,or_false]at hx;rcases hx with rfl|rfl;simp only[writes,wv,ho,hd,hmv,ae,cq];simp;simp only[writes,hd];simp;rw[hd];rfl;have h2:st2.get t=.tup vs:=by rw[hr st2 ha,hv]
   simp only[bX,ho,gZ,h2,hn,hd];rfl;skip;have hset:eC vs i (g,cs)=vs:=by rw[dg];rw[cy]at hn;apply List.ext_getElem?;intro k;rw[List.getElem?_set];split;rename_i hk;subst hk;obtain⟨hl,he⟩:=List.getElem?_eq_some_iff.1 hn;rw[az hl,hn];rfl
   have key:∀s:AS,s.get t=.tup vs→(s.put (some t) (.tup (eC vs i (g,aH 0 cs))))=s:=λs hs=>by rw[Io hfree,hset,S0 hs]
   rw[key st hv]at h;cases h;refine cL.put rfl λst2 ha=>?_;have h2:st2.get t=.tup vs:=by rw[hr st2 ha,hv]
   simp only[bX,ho,gZ,h2,hn];rw[key st2 h2]
  cases h
 cases h
def rX (st:AS):Operand→List (Nat×AV)
 | .tmp t=>[(t,(st.get t).aH st.ep)]
 |_=>[]
theorem Dz (st:AS)(x:Operand):(st.take x).2=⟨fR st.slots (rX st x),st.boxes,st.ep,st.iss,st.io⟩:=by cases x<;>rfl
theorem Jh {T:TypeId}{pp:Nat}{x:Operand}(ho:o.op=.store T (.tmp pp) x)(hd:o.dst=none)(hm:jq an o=true)(hfree:cj E an X o st=true)(h:pG E T (.tmp pp) x st some=some st'):cL E Γ an X o st st':=by
 have hr:∀st2,ei an X o st st2→st2.rd (.tmp pp)=st.rd (.tmp pp):=λst2 ha=>ha.rd (λt ht=>by simp only[cq,ho,aq];exact .inl ht);have hsb:(an.sb pp).isNone=false:=by simp only[jq,ho,ai]at hm;cases hb:an.sb pp with|none=>rw[hb]at hm;cases hm.1|some _=>rfl
 simp only[cj,ho,hsb,cD,cZ]at hfree;unfold pG at h;split at h;rename_i sh s off hT hp;rw[hp]at hfree;simp only[ai,aJ,aS]at hfree;split at h;rename_i gg vs st1 htk;have htk1:(st.take x).1=.val gg vs:=by rw[htk]
 have hst1:st1=⟨fR st.slots (rX st x),st.boxes,st.ep,st.iss,st.io⟩:=by rw[←Dz,htk]
 split at h;rename_i cs hb;split at h;rename_i hlen;split at h;rename_i hfit;cases h;have hbx:∀st2,ei an X o st st2→nth st2.boxes s=nth st.boxes s:=λst2 ha=>ha.box s hfree.1;refine⟨⟨rX st x,some (s,bW cs off vs),none⟩,⟨λy hy=>?_,λb hb'=>?_,λ_ hh=>by cases hh⟩,?_,λst2 ha=>?_⟩;cases x with|tmp t=>simp only[rX,cP]at hy;subst hy;simp only[writes,wv,ho,ae,cq,hd];simp[tm]|_=>simp[rX]at hy
 cases hb';simp only[wy,ho,hfree.2];simp;rw[hst1];rfl;have hx2:(st2.take x).1=(st.take x).1∧rX st2 x=rX st x:=by cases x with|tmp t=>have hg:st2.get t=st.get t:=ha.get t (by simp[cq,ho,tm]);simp only[AS.take,rX,hg,ha.ep];simp|const v=>exact⟨rfl,rfl⟩|func f=>exact⟨rfl,rfl⟩|global g=>exact⟨rfl,rfl⟩
 have ht2:st2.take x=(.val gg vs,⟨fR st2.slots (rX st x),st2.boxes,st2.ep,st2.iss,st2.io⟩):=by rw[←hx2.2,←Dz,←htk1,←hx2.1]
 have hb2:(nth st2.boxes s).getD none=some cs:=by rw[hbx st2 ha];rw[hst1]at hb;exact hb
 have hlate:sA an o=false:=by simp only[jq,ho,ai,aJ]at hm;exact hm.2
 simp only[bX,ho,hd,hlate,aK,bj,pG,hT,hr st2 ha,hp,ht2,hb2,az hlen,az hfit];rfl;cases h;cases h;cases h;cases h;rename_i r _ _ _ _ _ _ hp;rw[hp]at hfree;cases r<;>simp at hfree;cases h
theorem GI {x:Operand}(ho:o.op=.assign x)(hm:jq an o=true)(h:oa E an o x st some=some st'):cL E Γ an X o st st':=by
 have hr:∀st2,ei an X o st st2→(st2.take x).1=(st.take x).1∧(st2.take x).2=st2.fG (jG st x):=λst2 ha=>vl ha.ep λt ht=>ha.get t (by simpa[cq,ho]using ht);have hlate:sA an o=false:=by simpa[jq,ho]using hm
 unfold oa at h;split at h;rename_i st1 htk;split at h;rename_i e hT;cases h;refine cL.put rfl λst2 ha=>?_;have h2:st2.take x=(.val false [.nilsl],st2.fG (jG st x)):=Prod.ext (by rw[(hr st2 ha).1,htk]) (hr st2 ha).2;simp only[bX,ho,oa,hlate,aK,bj,h2,hT];cases h;rename_i v st1 hno htk;cases h;have hst1:st1=st.fG (jG st x):=by rw[←uB,htk]
 refine⟨⟨jG st x++o.dst.toList.map λd=>(d,v),none,none⟩,⟨λy hy=>?_,λ_ hh=>(by cases hh),λ_ hh=>(by cases hh)⟩,?_,λst2 ha=>?_⟩;rcases aq.1 hy with hy|hy;have:=zk y hy;simp[writes,wv,ho,cq,this];obtain⟨d,hd,rfl⟩:=List.mem_map.1 hy;simp[writes,hd];rw[hst1];show _=st.fG _;rw[lM];cases o.dst<;>rfl;have h2:st2.take x=(v,st2.fG (jG st x)):=Prod.ext (by rw[(hr st2 ha).1,htk]) (hr st2 ha).2;simp only[bX,ho,oa,hlate,aK,bj,h2];show some ((st2.fG (jG st x)).put o.dst v)=some (st2.fG _);rw[lM];cases o.dst<;>rfl
theorem fF {α:Type}(l:List α)(i:Nat)(v:α)(t:Nat):nth (eC l i v) t=if i=t then(if i<l.length then some v else none) else nth l t:=by rw[cy,dg,cy,List.getElem?_set]
theorem C8 (l:List AV)(a:List (Nat×AV)):(fR l a).length=l.length:=by induction a generalizing l with|nil=>rfl|cons x a ih=>rw[fR,ih,dg,aO]
theorem Lt {l l2:List AV}(a:List (Nat×AV))(hl:l2.length=l.length)(t:Nat)(h:nth l2 t=nth l t):nth (fR l2 a) t=nth (fR l a) t:=by induction a generalizing l l2 with|nil=>exact h|cons x a ih=>refine ih (by rw[dg,dg,aO,aO,hl]) ?_;rw[fF,fF,hl,h]
theorem Ll {t:Nat}(h:st2.get t=st.get t)(hl:st2.slots.length=st.slots.length):nth st2.slots t=nth st.slots t:=by unfold AS.get at h;rw[cy,cy]at h⊢;rcases bc t st.slots.length with hlt|hge;rw[List.getElem?_eq_getElem hlt,List.getElem?_eq_getElem (by omega)]at h⊢;simpa using h;rw[List.getElem?_eq_none hge,List.getElem?_eq_none (by omega)]
def fM (st:AS):List Operand→List (Nat×AV)
 |[]=>[]
 |x::xs=>jG st x++fM (st.fG (jG st x)) xs
theorem s7:∀(xs:List Operand)(st:AS),∀y∈fM st xs,y.1∈Ee xs
 |[],_,y,hy=>by cases hy
 |x::xs,st,y,hy=>by simp only[Ee,List.flatMap_cons,aq];rcases aq.1 hy with hy|hy;exact .inl (zk y hy);exact .inr (s7 xs _ y hy)
theorem ub:∀(xs:List Operand)(st st2:AS),st2.ep=st.ep→st2.slots.length=st.slots.length→(∀t∈Ee xs,nth st2.slots t=nth st.slots t)→
 (dc st2 xs).1=(dc st xs).1∧(dc st2 xs).2=st2.fG (fM st xs)
 |[],st,st2,_,_,_=>⟨rfl,rfl⟩
 |x::xs,st,st2,hep,hl,hg=>by
  have hx:∀t∈tm x,st2.get t=st.get t:=λt ht=>by unfold AS.get;rw[hg t (by simp[Ee,ht])]
  obtain⟨h1,h2⟩:=vl (st:=st) (st2:=st2) hep hx;have h3:=uB (st:=st) x;obtain⟨k1,k2⟩:=ub xs (st.fG (jG st x)) (st2.fG (jG st x)) hep (by simp only[AS.fG,C8,hl]) (λt ht=>Lt _ hl t (hg t (by simp only[Ee,List.flatMap_cons,aq];exact .inr ht)));have e1:dc st (x::xs)=((st.take x).1::(dc (st.take x).2 xs).1,(dc (st.take x).2 xs).2):=rfl;have e2:dc st2 (x::xs)=((st2.take x).1::(dc (st2.take x).2 xs).1,(dc (st2.take x).2 xs).2):=rfl;rw[e1,e2,h1,h2,h3];refine⟨by rw[k1],?_⟩;show(dc (st2.fG (jG st x)) xs).2=_;rw[k2,fM,lM]
theorem vk (xs:List Operand):(dc st xs).2=st.fG (fM st xs):=(ub xs st st rfl rfl (λ_ _=>rfl)).2
theorem ei.dc (ha:ei an X o st st2){xs:List Operand}(hx:∀t∈Ee xs,t∈cq o):(dc st2 xs).1=(Dn.dc st xs).1∧(Dn.dc st2 xs).2=st2.fG (fM st xs):=ub xs st st2 ha.ep ha.len λt ht=>Ll (ha.get t (hx t ht)) ha.len
theorem Jd {T:TypeId}{parts:Array (Nat×Operand)}(ho:o.op=.build T parts)(h:tO E o T parts.toList st some=some st'):cL E Γ an X o st st':=by
 have hl:∀t∈Ee (parts.toList.map (·.2)),t∈cq o:=λt ht=>by simp only[cq,ho];exact ht
 unfold tO at h;split at h;rename_i ct offs hT;split at h;rename_i vs st1 htk;have hst1:st1=st.fG (fM st (parts.toList.map (·.2))):=by rw[←vk,htk]
 split at h;rename_i cs hb;cases h;refine⟨⟨fM st (parts.toList.map (·.2))++o.dst.toList.map λd=>(d,.val true cs),none,none⟩,⟨λy hy=>?_,λ_ hh=>(by cases hh),λ_ hh=>(by cases hh)⟩,?_,λst2 ha=>?_⟩;rcases aq.1 hy with hy|hy;have:=hl _ (s7 _ _ y hy);simp[writes,wv,ho,this];obtain⟨d,hd,rfl⟩:=List.mem_map.1 hy;simp[writes,hd];rw[hst1];show _=st.fG _;rw[lM];cases o.dst<;>rfl;obtain⟨k1,k2⟩:=ha.dc hl;have h2:dc st2 (parts.toList.map (·.2))=(vs,st2.fG (fM st (parts.toList.map (·.2)))):=Prod.ext (by rw[k1,htk]) k2;simp only[bX,ho,tO,hT,h2,hb];show some ((st2.fG _).put o.dst _)=some (st2.fG _);rw[lM];cases o.dst<;>rfl;cases h;cases h
theorem cL.XP {tl:List (Nat×AV)}{v:AV}(ht:wv an o=true)(hl:∀y∈tl,y.1∈cq o)(h:st'=((st.fG tl).di o.dst).put o.dst v)(h2:∀st2,ei an X o st st2→bX E Γ an o st2 some=some (((st2.fG tl).di o.dst).put o.dst v)):cL E Γ an X o st st':=by
 have key:∀s:AS,(⟨tl++o.dst.toList.map λd=>(d,v),none,o.dst⟩:zq).apply s=((s.fG tl).di o.dst).put o.dst v:=by intro s;cases o.dst with|none=>simp only[zq.apply,Option.toList,List.map_nil,a8,AS.fG,AS.di,AS.put]|some d=>simp only[zq.apply,Option.toList,cn,List.map_nil,tX,AS.fG,AS.di,AS.put,fR]
 refine⟨⟨tl++o.dst.toList.map λd=>(d,v),none,o.dst⟩,⟨λy hy=>?_,λ_ hh=>(by cases hh),λd hh=>hh⟩,by rw[key];exact h,λst2 ha=>by rw[key];exact h2 st2 ha⟩;rcases aq.1 hy with hy|hy;simp[writes,ht,hl y hy];obtain⟨d,hd,rfl⟩:=List.mem_map.1 hy;simp[writes,hd]
theorem sf {tl:List (Nat×AV)}{d:Option Nat}:(st.fG tl).eI d=st.eI d:=rfl
theorem zS {T:TypeId}{len:Nat}{parts:Array (Nat×Operand)}(ho:o.op=.buildSlice T len parts)(h:gV E o T len parts.toList st some=some st'):cL E Γ an X o st st':=by
 have hl:∀t∈Ee (parts.toList.map (·.2)),t∈cq o:=λt ht=>by simp only[cq,ho];exact ht
 unfold gV at h;split at h;rename_i e hT;split at h;rename_i hc;split at h;rename_i vs st1 htk;have hst1:st1=st.fG (fM st (parts.toList.map (·.2))):=by rw[←vk,htk]
 split at h;rename_i xs hb;cases h;refine cL.XP (tl:=fM st (parts.toList.map (·.2))) (v:=.one (.sl (.own (st.eI o.dst 0)) e xs)) (by simp[wv,ho]) (λy hy=>hl _ (s7 _ _ y hy)) ?_ λst2 ha=>?_;rw[hst1,AS.kP,sf];obtain⟨k1,k2⟩:=ha.dc hl;have h2:dc st2 (parts.toList.map (·.2))=(vs,st2.fG (fM st (parts.toList.map (·.2)))):=Prod.ext (by rw[k1,htk]) k2;simp only[bX,ho,gV,hT,h2,hb,az hc];rw[AS.kP,sf,ha.eI];cases h;cases h;cases h
theorem AR {T:TypeId}{n c:Operand}(ho:o.op=.makeSlice T n c)(h:jR E o T n c st some=some st'):cL E Γ an X o st st':=by
 have hr:∀st2,ei an X o st st2→st2.rd n=st.rd n∧st2.rd c=st.rd c:=λst2 ha=>
  ⟨ha.rd (λt ht=>by simp[cq,ho,ht]),ha.rd (λt ht=>by simp[cq,ho,ht])⟩
 unfold jR at h;split at h;rename_i e len cap hT hn hc;split at h;rename_i hlc;unfold room at h;split at h;rename_i hrm;cases h;refine cL.new (v:=.one (.sl (.own (st.eI o.dst 0)) e (List.replicate len.toNat e.zero))) rfl λst2 ha=>?_;simp only[bX,ho,jR,(hr st2 ha).1,(hr st2 ha).2,hT,hn,hc,az hlc,room,az hrm,AS.kP,ha.eI];cases h;cases h;cases h
theorem GH {ts:Array TypeId}{args:Array Operand}(ho:o.op=.call {callee:=.builtin .append,args,argTypes:=ts})(h:pK E o ts.toList args.toList st some=some st'):cL E Γ an X o st st':=by
 have hlk:∀t∈Ee args.toList,t∈cq o:=λt ht=>by simp only[cq,ho];exact ht
 unfold pK at h;split at h;rename_i t t' s x hts hargs;have hl:∀u∈Ee [s,x],u∈cq o:=by rw[←hargs];exact hlk
 have hboth:∀st2,ei an X o st st2→(st2.take s).1=(st.take s).1∧((st2.take s).2.take x).1=((st.take s).2.take x).1∧((st2.take s).2.take x).2=st2.fG (fM st [s,x]):=by intro st2 ha;obtain⟨k1,k2⟩:=ha.dc hl;simp only[Dn.dc,List.cons.injEq,eG]at k1 k2;exact⟨k1.1,k1.2,k2⟩
 have hself:((st.take s).2.take x).2=st.fG (fM st [s,x]):=vk (st:=st) [s,x];split at h;rename_i tag e xs st1 htk1;split at h;rename_i fl e' ys st1' htk2;split at h;rename_i he;subst he;split at h;rename_i hc;unfold room at h;split at h;rename_i hrm;cases h;have hst1:(st.take s).2=st1:=by rw[htk1]
 have hst2:st1'=st.fG (fM st [s,x]):=by rw[←hself,hst1,htk2]
 refine cL.XP (tl:=fM st [s,x]) (v:=.one (.sl (.own (st.eI o.dst 0)) e' (xs++ys))) (by simp[wv,ho]) (λy hy=>hl _ (s7 _ _ y hy)) ?_ λst2 ha=>?_;rw[hst2,AS.kP,sf];obtain⟨k1,k2,k3⟩:=hboth st2 ha;have e1:st2.take s=(.val false [.sl (.own tag) e' xs],(st2.take s).2):=Prod.ext (by rw[k1,htk1]) rfl;have e2:(st2.take s).2.take x=(.val false [.sl fl e' ys],st2.fG (fM st [s,x])):=Prod.ext (by rw[k2,hst1,htk2]) k3;simp only[bX,ho,pK,hts,hargs];rw[e1];simp only;rw[e2];simp only[dite_true,ha.ep,az hc,room,az hrm,AS.kP,sf,ha.eI];cases h;cases h;cases h;rename_i sx st1' htk2;split at h;rename_i he;subst he;split at h;rename_i hc;unfold room at h;split at h;rename_i hrm;cases h;have hst1:(st.take s).2=st1:=by rw[htk1]
 have hst2:st1'=st.fG (fM st [s,x]):=by rw[←hself,hst1,htk2]
 refine cL.XP (tl:=fM st [s,x]) (v:=.one (.sl (.own (st.eI o.dst 0)) (.int .u8) (xs++dp sx))) (by simp[wv,ho]) (λy hy=>hl _ (s7 _ _ y hy)) ?_ λst2 ha=>?_;rw[hst2,AS.kP,sf];obtain⟨k1,k2,k3⟩:=hboth st2 ha;have e1:st2.take s=(.val false [.sl (.own tag) (.int .u8) xs],(st2.take s).2):=Prod.ext (by rw[k1,htk1]) rfl;have e2:(st2.take s).2.take x=(.val false [.str sx],st2.fG (fM st [s,x])):=Prod.ext (by rw[k2,hst1,htk2]) k3;simp only[bX,ho,pK,hts,hargs];rw[e1];simp only;rw[e2];simp only[dite_true,az hc,room,az hrm,AS.kP,sf,ha.eI];cases h;cases h;cases h;cases h;cases h;cases h
theorem Oc {T:TypeId}{x:Operand}(ho:o.op=.box T x)(h:Ft o x st some=some st'):cL E Γ an X o st st':=by
 have hr:∀st2,ei an X o st st2→(st2.take x).1=(st.take x).1∧(st2.take x).2=st2.fG (jG st x):=λst2 ha=>vl ha.ep λt ht=>ha.get t (by simpa[cq,ho]using ht);unfold Ft at h;split at h;rename_i d g cs st1 hd htk;have hst1:st1=st.fG (jG st x):=by rw[←uB,htk]
 split at h;rename_i hb;split at h;rename_i hs;cases h;have hb0:nth st.boxes d=some none:=by rw[hst1]at hb;exact hb
 have key:∀s:AS,(⟨jG st x++[(d,.one (.ptr d 0))],some (d,cs),none⟩:zq).apply s=((s.fG (jG st x)).cY d (some cs)).put (some d) (.one (.ptr d 0)):=by intro s;simp only[zq.apply,tX,AS.fG,AS.cY,AS.put,fR]
 refine⟨⟨jG st x++[(d,.one (.ptr d 0))],some (d,cs),none⟩,⟨λy hy=>?_,λb hb'=>?_,λ_ hh=>(by cases hh)⟩,?_,λst2 ha=>?_⟩;rcases aq.1 hy with hy|hy;have:=zk y hy;simp[writes,wv,ho,cq,this];simp only[cP]at hy;subst hy;simp[writes,hd];cases hb';simp[wy,ho,hd];rw[key,hst1,hd];have h2:st2.take x=(.val g cs,st2.fG (jG st x)):=Prod.ext (by rw[(hr st2 ha).1,htk]) (hr st2 ha).2;have hb2:nth (st2.fG (jG st x)).boxes d=some none:=by show nth st2.boxes d=_;rw[(ha.dst d hd).2];exact hb0
 simp only[bX,ho,Ft,hd,h2,hb2,az hs,key];cases h;cases h;cases h
theorem Dr (hΓ:∀f,(Γ f).io=false∧((Γ f).bx=true→(Γ f).cur=true)∧(Γ f).pr=false)(hm:jq an o=true)(hfree:cj E an X o st=true)(h:bX E Γ an o st some=some st'):cL E Γ an X o st st':=by
 have h0:=h;unfold bX at h;split at h;rename_i ho;exact Lg ho h;rename_i ho;have hlate:sA an o=false:=by simpa[jq,ho]using hm
 rw[ar (by simp[hlate])]at h;exact GI ho hm h;rename_i ho;exact Lh ho h;rename_i ho;exact Jc ho h;rename_i ho;exact Oc ho h;rename_i ho;exact Lf ho hm hfree h;rename_i T p x ho;split at h;rename_i hd;cases p with
 |tmp pp=>
  have hlate:sA an o=false:=by simp only[jq,ho,ai,aJ]at hm;exact hm.2
  rw[ar (by simp[hlate])]at h;exact Jh ho hd hm hfree h
 |const v=>simp[jq,ho]at hm
 |func f=>simp[jq,ho]at hm
 |global g=>simp[jq,ho]at hm
 cases h;rename_i ho;exact CX ho h0;rename_i ho;exact Ob ho h;rename_i ho;exact Qb ho h;rename_i ho;exact Je ho h;rename_i ho;exact AQ ho hfree h;rename_i ho;exact Jf ho h;rename_i ho;exact Jd ho h;rename_i ho;exact zS ho h;rename_i ho;exact AR ho h;rename_i ho;exact Jg ho hm hfree h;rename_i ho;simp[jq,ho]at hm;rename_i ho;simp[jq,ho]at hm;rename_i ho;exact D0 ho h;rename_i ho;exact D1 ho hfree h;rename_i ho;exact Od ho h;rename_i ho;exact Of ho h;rename_i ho;exact Oe ho h;rename_i ho;exact GH ho h;rename_i ho;exact Ld hΓ ho hfree h;cases h
end Go.Dn
