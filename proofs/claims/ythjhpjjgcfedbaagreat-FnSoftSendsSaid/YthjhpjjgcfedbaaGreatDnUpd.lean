import Derived.Test.YthjhpjjgcfedbaaGreatDnMask
/- What an operation looks at and what it turns: for regions whose order is drawn. -/
namespace Go.Dn
structure tR where
 slots:List (Nat×AV):=[]
 box:Option (Nat×List AC):=none
 iss:Option Nat:=none
def eJ (l:List AV):List (Nat×AV)→List AV
 |[]=>l
 |x::r=>eJ (dD l x.1 x.2) r
def tR.apply (u:tR)(st:AS):AS:=
 ⟨eJ st.slots u.slots,(match u.box with|some b=>dD st.boxes b.1 (some b.2)|none=>st.boxes),st.ep,(match u.iss with|some d=>dD st.iss d true|none=>st.iss),st.io⟩
structure dz (an:An) (X:List Nat) (o:Oper) (st st2:AS):Prop where
 len:st2.slots.length=st.slots.length
 get:∀t∈bQ o,st2.get t=st.get t
 ep:st2.ep=st.ep
 dst:∀d,o.dst=some d→nth st2.iss d=nth st.iss d∧nth st2.boxes d=nth st.boxes d
 box:∀s,X.contains s=false→nth st2.boxes s=nth st.boxes s
 er:∀t∈HQ an o,st2.get t=st.get t
structure tR.se (an:An) (u:tR) (o:Oper):Prop where
 slots:∀x∈u.slots,x.1∈writes an o
 box:∀b,u.box=some b→b.1∈rb an o
 iss:∀d,u.iss=some d→o.dst=some d
variable {E:Env} {Γ:cH} {an:An} {X:List Nat} {o:Oper} {st st2 st':AS}
theorem Jg {x:Operand}(hep:st2.ep=st.ep)(h:∀t∈tm x,st2.get t=st.get t):st2.rd x=st.rd x:=by cases x with|tmp t=>simp only[AS.rd,hep,h t (by simp[tm])]|const v=>rfl|func f=>rfl|global g=>rfl
def ch (E:Env)(Γ:cH)(an:An)(X:List Nat)(o:Oper)(st st':AS):Prop:=
 ∃u:tR,u.se an o∧st'=u.apply st∧∀st2,dz an X o st st2→bG E Γ an o st2 some=some (u.apply st2)
def qd (o:Oper)(v:AV):tR:={slots:=o.dst.toList.map λd=>(d,v)}
theorem jn (v:AV):(qd o v).apply st=st.put o.dst v:=by unfold qd tR.apply AS.put;cases o.dst<;>rfl
theorem oV (v:AV):(qd o v).se an o:=by refine⟨λx hx=>?_,λb hb=>by simp[qd]at hb,λd hd=>by simp[qd]at hd⟩;simp only[qd,List.mem_map]at hx;obtain⟨d,hd,rfl⟩:=hx;simp[writes,hd]
def sF (o:Oper)(v:AV):tR:={slots:=o.dst.toList.map λd=>(d,v),iss:=o.dst}
theorem tO (v:AV):(sF o v).apply st=(st.cM o.dst).put o.dst v:=by unfold sF tR.apply AS.put AS.cM;cases o.dst<;>rfl
theorem yw (v:AV):(sF o v).se an o:=by refine⟨λx hx=>?_,λb hb=>by simp[sF]at hb,λd hd=>by simpa[sF]using hd⟩;simp only[sF,List.mem_map]at hx;obtain⟨d,hd,rfl⟩:=hx;simp[writes,hd]
theorem ch.put {v:AV}(h:st'=st.put o.dst v)(h2:∀st2,dz an X o st st2→bG E Γ an o st2 some=some (st2.put o.dst v)):ch E Γ an X o st st':=⟨qd o v,oV v,by rw[jn];exact h,λst2 ha=>by rw[jn];exact h2 st2 ha⟩
theorem dz.rd (ha:dz an X o st st2){x:Operand}(hx:∀t∈tm x,t∈bQ o):st2.rd x=st.rd x:=Jg ha.ep λt ht=>ha.get t (hx t ht)
theorem Ev {c x y:Operand}(ho:o.op=.pick c x y)(h:qN o c x y st some=some st'):ch E Γ an X o st st':=by
 have hr:∀st2,dz an X o st st2→st2.rd c=st.rd c∧st2.rd x=st.rd x∧st2.rd y=st.rd y:=λst2 ha=>
  ⟨ha.rd (λt ht=>by simp[bQ,ho,ht]),ha.rd (λt ht=>by simp[bQ,ho,ht]),ha.rd (λt ht=>by simp[bQ,ho,ht])⟩
 unfold qN at h;split at h;rename_i t hc;split at h;rename_i a b hx hy;cases h;refine ch.put rfl λst2 ha=>?_;obtain⟨h1,h2,h3⟩:=hr st2 ha;simp only[bG,ho,qN,h1,h2,h3,hc,hx,hy];rename_i va vb hno;have hgo:∀st2,dz an X o st st2→bG E Γ an o st2 some=cond t (some (st2.put o.dst (st.rd x))) (some (st2.put o.dst (st.rd y))):=by intro st2 ha;obtain⟨h1,h2,h3⟩:=hr st2 ha;simp only[bG,ho,qN,h1,h2,h3,hc]
 cases t with|true=>cases h;exact ch.put rfl λst2 ha=>hgo st2 ha|false=>cases h;exact ch.put rfl λst2 ha=>hgo st2 ha
 cases h
theorem wU {d s:Nat}{cs:List AC}{v:AV}:(⟨[(d,v)],some (s,cs),none⟩:tR).apply st=(st.cq s (some cs)).put (some d) v:=rfl
theorem zi {o:Oper}(h:qY an o=true):∃T q d,o.op=.load T (.tmp q)∧o.dst=some d∧o.guard=none∧an.mv.contains d=true∧an.mb d=none:=by unfold qY at h;split at h;rename_i T q d ho hd hg;simp only[aa,Option.isNone_iff_eq_none]at h;exact⟨T,q,d,ho,hd,hg,h.1.1,h.1.2⟩;cases h
def tM (st:AS)(b j t:Nat)(e:CT)(i:Int)(cs:List AC)(ys:List e.D):AS:=st.cq b (some (dD cs j (.sl (.holed (some t) i (some st.ep)) e ys)))
theorem xH {T:TypeId}{q d:Nat}(ht:qY an o=true)(ho:o.op=.load T (.tmp q))(hd:o.dst=some d)(hmv:an.mv.contains d=true)(hmb:an.mb d=none):(bM E an X o st=true∧gU E an o T (.tmp q) st some=some st')↔ ∃(g:Bool)(e:CT)(offs:List (Nat×Nat))(b j t ep0:Nat)(x:e.D)(i:Int)(cs:List AC)(ys:List e.D)(y:e.D),ei E.ty T=some ⟨g,e,offs⟩∧st.rd (.tmp q)=.val false [.elt (.loc ep0 (some (.box b j,t))) e x i 0]∧(nth st.boxes b).getD none=some cs∧nth cs j=some (.sl (.own (some t)) e ys)∧idx ys i=some y∧ X.contains b=false∧an.eb q=some b∧Dd an o=false∧st'=(tM st b j t e i cs ys).put (some d) (.val g (cellsOf e (.own none) y)):=by
 have htk:ra an o=true:=by unfold ra;rw[hd];simp only[hmv,hmb];rfl
 have hnl:oU an o=false:=by unfold oU;split;rename_i hd' _;rw[hd]at hd';cases hd';rw[hmb];simp;rfl
 have hnp:oA an o=false:=by unfold oA;split;rename_i hd' _;rw[hd]at hd';cases hd';rw[hmv];rfl;rfl
 constructor;rintro⟨hf,h⟩;unfold gU at h;split at h;rename_i hp;simp only[bM,ho,hp,hd,hmv,hmb]at hf;simp at hf;rename_i sh fl e x i off hT hp;rw[ar htk]at h;simp only[bM,ho,hp,ht,hnl,hnp,Bool.or_false,cV,aA,cJ,Bool.and_true,aa,aC]at hf;obtain⟨⟨hl0,hfm⟩,hb⟩:=hf;unfold mK at h;split at h;rename_i ep0 r t;cases r with
 |slot _ _=>cases hb
 |io _=>cases hb
 |box b j=>
  simp only[aa,aS,aC]at hb;split at h;rename_i t' e' ys hrg;split at h;rename_i he;subst he;split at h;rename_i hc;obtain⟨rfl,rfl,hct⟩:=hc;obtain⟨g,ct,offs⟩:=sh;simp only at hct;subst hct;cases hi:idx ys i with|none=>simp only[hi,ab]at h;cases h|some y=>simp only[hi,ab]at h;cases h;simp only[AS.cz]at hrg;obtain⟨cs,hcs,hj⟩:=aw.1 hrg;refine⟨g,_,offs,b,j,_,ep0,x,i,cs,ys,y,hT,hp,hcs,hj,hi,hb.2,hb.1,hfm,?_⟩;simp only[AS.cD,hcs,hd];rfl
  cases h;cases h;cases h
 cases h;cases h;rintro⟨g,e,offs,b,j,t,ep0,x,i,cs,ys,y,hT,hp,hcs,hj,hi,hX,heb,hfm,rfl⟩;constructor;simp only[bM,ho,hp,ht,hnl,hnp,hfm,hX,heb];simp;simp only[gU,hT,hp,htk,aU,mK,AS.cz,hcs,cn,hj,dite_true,and_self,hi,ab,AS.cD,hd];rfl
theorem Cx {T:TypeId}{p:Operand}(ht:qY an o=true)(ho:o.op=.load T p)(hfree:bM E an X o st=true)(h:gU E an o T p st some=some st'):ch E Γ an X o st st':=by obtain⟨T',q,d,ho',hd,hg,hmv,hmb⟩:=zi ht;rw[ho]at ho';cases ho';obtain⟨g,e,offs,b,j,t,ep0,x,i,cs,ys,y,hT,hp,hcs,hj,hi,hX,heb,hfm,rfl⟩:=(xH ht ho hd hmv hmb).1 ⟨hfree,h⟩;refine⟨⟨[(d,.val g (cellsOf e (.own none) y))],some (b,dD cs j (.sl (.holed (some t) i (some st.ep)) e ys)),none⟩,⟨λx hx=>?_,λb' hb'=>?_,λ_ hh=>by cases hh⟩,rfl,λst2 ha=>?_⟩;simp only[bK]at hx;subst hx;simp[writes,hd];cases hb';simp only[rb,ho,hd,hmv,af,ht,heb];simp;have h2:=((xH (E:=E) (X:=X) (st:=st2) ht ho hd hmv hmb).2 ⟨g,e,offs,b,j,t,ep0,x,i,cs,ys,y,hT,by rw[ha.rd (λt ht=>by simpa[bQ,ho]using ht)];exact hp,by rw[ha.box b hX];exact hcs,hj,hi,hX,heb,hfm,rfl⟩).2;simp only[bG,ho];rw[h2];simp only[tM,ha.ep];rfl
theorem Et {T:TypeId}{p:Operand}(ho:o.op=.load T p)(hm:gv an o=true)(hfree:bM E an X o st=true)(h:gU E an o T p st some=some st'):ch E Γ an X o st st':=by
 cases hE:qY an o with|true=>exact Cx hE ho hfree h|false=> ?_
 have hr:∀st2,dz an X o st st2→st2.rd p=st.rd p:=λst2 ha=>ha.rd (λt ht=>by simpa[bQ,ho]using ht);have htk:ra an o=false:=by simp only[gv,ho,hE,Bool.or_false]at hm;unfold ra;cases hdd:o.dst with|none=>rfl|some d=>rw[hdd]at hm;simp only[bB,aC]at hm;rcases hm with hm|hm;simp only[hm,du];cases hmb:an.mb d with|none=>rw[hmb]at hm;cases hm|some _=>simp[hmb]
 unfold gU at h;split at h;rename_i sh s off hT hp;simp only[bM,ho,hp,aa,aC]at hfree;split at h;rename_i cs hb;split at h;rename_i hfit;split at h;rename_i d hd;have hbx:∀st2,dz an X o st st2→nth st2.boxes s=nth st.boxes s:=λst2 ha=>ha.box s hfree.1.1;cases hf:an.mv.contains d with
 |false=>simp only[hf,aB,ba]at h;cases h;refine ch.put (by rw[hd]) λst2 ha=>?_;simp only[bG,ho,gU,hT,hr st2 ha,hp,hbx st2 ha,hb,ar hfit,hd,hf,aB,ba,ha.ep]
 |true=>
  simp only[hf,aU]at h;have hmb:an.mb d=some s:=by have:=hfree.1.2;rw[hd]at this;simp only[hf,aA,cJ,aS]at this;exact this
  cases h;refine⟨⟨[(d,.val sh.agg ((cs.drop off).take sh.ct.size))],some (s,bF cs off (az st.ep ((cs.drop off).take sh.ct.size))),none⟩,⟨λx hx=>?_,λb hb'=>?_,λ_ hh=>by cases hh⟩,?_,λst2 ha=>?_⟩;simp only[bK]at hx;subst hx;simp[writes,hd];cases hb';simp only[rb,ho,hd,hf,af,hmb];simp;rw[wU,hd];simp only[bG,ho,gU,hT,hr st2 ha,hp,hbx st2 ha,hb,ar hfit,hd,hf,aU,ha.ep,wU]
 cases h;cases h;cases h;rename_i sh fl e x i off hT hp;rw[aq (by simp[htk])]at h;split at h;rename_i hl;split at h;rename_i hfit;cases h;refine ch.put rfl λst2 ha=>?_;simp only[bG,ho,gU,hT,hr st2 ha,hp,ha.ep,htk,aB,ba,ar hl,ar hfit];cases h;rename_i hl;have hroot:∀r t ep0,fl=.loc ep0 (some (r,t))→∀st2,dz an X o st st2→st2.cz r=st.cz r:=by rintro r t ep0 rfl st2 ha;simp only[bM,ho,hp,hE,cV,eH,Bool.and_true,aa,bB]at hfree;rcases hfree.1.1 with hq|hq;exact absurd hq hl;cases r with|slot b j=>simp only[AS.cz];rw[ha.er b (by simpa using hq)]|box b j=>simp only[AS.cz];rw[ha.box b (by simpa using hq)]|io j=>cases hq
 unfold pY at h;split at h;rename_i ep0 r t;split at h;rename_i t' e' ys hrg;split at h;rename_i he;split at h;rename_i hc;cases hi:idx (he▸ys:List _) i with|none=>rw[hi]at h;cases h|some y=>rw[hi]at h;simp only[ab]at h;cases h;refine ch.put rfl λst2 ha=>?_;simp only[bG,ho,gU,hT,hr st2 ha,hp,ha.ep,htk,aB,ba,aq hl,pY,hroot _ _ _ rfl st2 ha,hrg,dif_pos he,ar hc,hi,ab]
 cases h;cases h;cases h;cases h;cases h
theorem w3 {x:Operand}(ho:o.op=.nilCheck x)(h:bG E Γ an o st some=some st'):ch E Γ an X o st st':=by have hr:∀st2,dz an X o st st2→st2.rd x=st.rd x:=λst2 ha=>ha.rd (λt ht=>by simpa[bQ,ho]using ht);simp only[bG,ho]at h;split at h;rename_i s off hx;cases h;refine ch.put rfl λst2 ha=>?_;simp only[bG,ho,hr st2 ha,hx];rename_i fl e y i off hx;cases h;refine ch.put rfl λst2 ha=>?_;simp only[bG,ho,hr st2 ha,hx];cases h
theorem xN {op:BinOp}{x y:AV}(h:(rL op x y λc=>some (st.put o.dst (.one c)))=some st'):∃v,st'=st.put o.dst v∧∀st2:AS,(rL op x y λc=>some (st2.put o.dst (.one c)))=some (st2.put o.dst v):=by have key:∀s:AS,(rL op x y λc=>some (s.put o.dst (.one c)))=(rL op x y some).bind λc=>some (s.put o.dst (.one c)):=λs=>(ri op x y some _).symm;rw[key st]at h;cases hb:rL op x y some with|none=>rw[hb]at h;cases h|some c=>rw[hb]at h;cases h;exact⟨_,rfl,λst2=>by rw[key st2,hb];rfl⟩
theorem zk {op:BinOp}{b:Bool}(h:(qm op b λc=>some (st.put o.dst (.one c)))=some st'):∃v,st'=st.put o.dst v∧∀st2:AS,(qm op b λc=>some (st2.put o.dst (.one c)))=some (st2.put o.dst v):=by unfold qm at h;split at h;cases h;exact⟨_,rfl,λst2=>rfl⟩;cases h;exact⟨_,rfl,λst2=>rfl⟩;cases h
theorem GZ {op:BinOp}{T T':TypeId}{x y:Operand}(ho:o.op=.binOp op T x y T')(h:n8 E o op T x y st some=some st'):ch E Γ an X o st st':=by
 have hr:∀st2,dz an X o st st2→st2.rd x=st.rd x∧st2.rd y=st.rd y:=λst2 ha=>
  ⟨ha.rd (λt ht=>by simp[bQ,ho,ht]),ha.rd (λt ht=>by simp[bQ,ho,ht])⟩
 unfold n8 at h;split at h;rename_i a b hx hy;split at h;rename_i hT;obtain⟨v,rfl,hv⟩:=xN h;refine ch.put rfl λst2 ha=>?_;simp only[bG,ho,n8,(hr st2 ha).1,(hr st2 ha).2,hx,hy,ar hT];exact hv st2;cases h;rename_i xs ys hx hy;split at h;rename_i ls hq;split at h;rename_i hfit;obtain⟨v,rfl,hv⟩:=xN h;refine ch.put rfl λst2 ha=>?_;simp only[bG,ho,n8,(hr st2 ha).1,(hr st2 ha).2,hx,hy,hq,ar hfit];exact hv st2;cases h;cases h;rename_i fl e xs hx hy;split at h;rename_i hT;split at h;cases h;rename_i hlen;obtain⟨v,rfl,hv⟩:=zk h;refine ch.put rfl λst2 ha=>?_;simp only[bG,ho,n8,(hr st2 ha).1,(hr st2 ha).2,hx,hy,ha.ep,ar hT,aq hlen];exact hv st2;cases h;rename_i hx hy;split at h;rename_i hT;obtain⟨v,rfl,hv⟩:=zk h;refine ch.put rfl λst2 ha=>?_;simp only[bG,ho,n8,(hr st2 ha).1,(hr st2 ha).2,hx,hy,ar hT];exact hv st2;cases h;rename_i a b hn1 hn2 hn3 hn4;obtain⟨v,rfl,hv⟩:=xN h;refine ch.put rfl λst2 ha=>?_;simp only[bG,ho,n8,(hr st2 ha).1,(hr st2 ha).2];exact hv st2
theorem IX {op:UnOp}{T:TypeId}{x:Operand}(ho:o.op=.unOp op T x)(h:(Kh op (st.rd x) λc=>some (st.put o.dst (.one c)))=some st'):ch E Γ an X o st st':=by have hr:∀st2,dz an X o st st2→st2.rd x=st.rd x:=λst2 ha=>ha.rd (λt ht=>by simpa[bQ,ho]using ht);have key:∀s:AS,(Kh op (st.rd x) λc=>some (s.put o.dst (.one c)))=(Kh op (st.rd x) some).bind λc=>some (s.put o.dst (.one c)):=λs=>(C8 op (st.rd x) some _).symm;rw[key st]at h;cases hb:Kh op (st.rd x) some with|none=>rw[hb]at h;cases h|some c=>rw[hb]at h;cases h;refine ch.put rfl λst2 ha=>?_;simp only[bG,ho,hr st2 ha];rw[key st2,hb];rfl
theorem Cs {S:TypeId}{p:Operand}{f:Nat}(ho:o.op=.fieldAddr S p f)(h:nO E o S p f st some=some st'):ch E Γ an X o st st':=by have hr:∀st2,dz an X o st st2→st2.rd p=st.rd p:=λst2 ha=>ha.rd (λt ht=>by simpa[bQ,ho]using ht);unfold nO at h;split at h;rename_i hT hp;split at h;rename_i hf;cases h;refine ch.put rfl λst2 ha=>?_;simp only[bG,ho,nO,hr st2 ha,hT,hp,hf];cases h;rename_i hT hp;split at h;rename_i hf;cases h;refine ch.put rfl λst2 ha=>?_;simp only[bG,ho,nO,hr st2 ha,hT,hp,hf];cases h;cases h
theorem nI {v:AV}{s:AS}(h:v.now s.ep=true):v.fresh s=v:=by
 cases v with
 |tup vs=>rfl
 |val g cs=>
  simp only[AV.now,aF]at h;simp only[AV.fresh];congr 1;have:cs.map s.fresh=cs.map id:=List.map_congr_left λc hc=>by have hn:=h c hc;unfold AS.fresh;split;simp only[AC.now]at hn;rw[hn];rfl;rfl
  rw[this,List.map_id]
theorem BI {v:AV}{st st2:AS}(he:st2.ep=st.ep)(h:v.now st.ep=true∨∃g ep b j t e xs,v=.val g [.sl (.loc ep (some (.box b j,t))) e xs]∧nth st2.boxes b=nth st.boxes b):v.fresh st2=v.fresh st:=by rcases h with h|⟨g,ep,b,j,t,e,xs,rfl,hb⟩;rw[nI h,nI (by rw[he];exact h)];simp only[AV.fresh,bX,List.map_nil];congr 2;unfold AS.fresh;simp only[AS.cz,he,hb]
theorem vq {T:TypeId}{x i:Operand}(ho:o.op=.indexAddr T x i)(hfree:bM E an X o st=true)(h:fM E o T x i st some=some st'):ch E Γ an X o st st':=by
 have hr:∀st2,dz an X o st st2→st2.rd x=st.rd x∧st2.rd i=st.rd i:=λst2 ha=>
  ⟨ha.rd (λt ht=>by simp[bQ,ho,ht]),ha.rd (λt ht=>by simp[bQ,ho,ht])⟩
 have hf2:∀st2,dz an X o st st2→(st.rd x).fresh st2=(st.rd x).fresh st:=λst2 ha=>by refine BI ha.ep ?_;simp only[bM,ho,bB]at hfree;rcases hfree with hn|hn;exact .inl hn;split at hn;rename_i g ep b j t e xs hx;exact .inr ⟨g,ep,b,j,t,e,xs,hx,ha.box b (by simpa using hn)⟩;cases hn
 unfold fM at h;split at h;rename_i e' fl e xs k n hT hx hi;split at h;rename_i hc;cases hix:idx xs n with|none=>rw[hix]at h;cases h|some y=>rw[hix]at h;cases h;refine ch.put rfl λst2 ha=>?_;have hf3:=hf2 st2 ha;rw[hx]at hf3;simp only[bG,ho,fM,(hr st2 ha).1,(hr st2 ha).2,hf3,hT,hi,ha.ep,ar hc,hix,ab]
 cases h;cases h
theorem Ct {T:TypeId}{x i:Operand}(ho:o.op=.index T x i)(h:oP E o T x i st some=some st'):ch E Γ an X o st st':=by
 have hr:∀st2,dz an X o st st2→st2.rd x=st.rd x∧st2.rd i=st.rd i:=λst2 ha=>
  ⟨ha.rd (λt ht=>by simp[bQ,ho,ht]),ha.rd (λt ht=>by simp[bQ,ho,ht])⟩
 unfold oP at h;split at h;rename_i s k n hx hi;split at h;rename_i hc;cases hix:idx s n with|none=>rw[hix]at h;cases h|some y=>rw[hix]at h;cases h;refine ch.put rfl λst2 ha=>?_;simp only[bG,ho,oP,(hr st2 ha).1,(hr st2 ha).2,hx,hi,ar hc,hix,ab]
 cases h;cases h
theorem ch.new {v:AV}(h:st'=(st.cM o.dst).put o.dst v)(h2:∀st2,dz an X o st st2→bG E Γ an o st2 some=some ((st2.cM o.dst).put o.dst v)):ch E Γ an X o st st':=⟨sF o v,yw v,by rw[tO];exact h,λst2 ha=>by rw[tO];exact h2 st2 ha⟩
theorem dz.dJ (ha:dz an X o st st2):st2.dJ o.dst=st.dJ o.dst:=by funext j;cases hd:o.dst with|none=>rfl|some d=>simp only[AS.dJ,(ha.dst d hd).1]
theorem td {lo hi:Option Operand}{n:Nat}{f:AS→Int→Int→Option AS}(hs:∀st2,dz an X o st st2→lo.map st2.rd=lo.map st.rd∧hi.map st2.rd=hi.map st.rd)(h:fU st lo hi n (f st)=some st'):∃a b,f st a b=some st'∧∀st2,dz an X o st st2→fU st2 lo hi n (f st2)=f st2 a b:=by unfold fU at h;split at h;rename_i h1 h2;exact⟨_,_,h,λst2 ha=>by simp only[fU,(hs st2 ha).1,(hs st2 ha).2,h1,h2]⟩;rename_i h1 h2;exact⟨_,_,h,λst2 ha=>by simp only[fU,(hs st2 ha).1,(hs st2 ha).2,h1,h2]⟩;rename_i h1 h2;exact⟨_,_,h,λst2 ha=>by simp only[fU,(hs st2 ha).1,(hs st2 ha).2,h1,h2]⟩;rename_i h1 h2;exact⟨_,_,h,λst2 ha=>by simp only[fU,(hs st2 ha).1,(hs st2 ha).2,h1,h2]⟩;cases h
theorem Cv {T:TypeId}{x:Operand}{lo hi:Option Operand}(ho:o.op=.slice T x lo hi none)(hm:gv an o=true)(hfree:bM E an X o st=true)(h:nY E an o T x lo hi st some=some st'):ch E Γ an X o st st':=by
 have hr:∀st2,dz an X o st st2→st2.rd x=st.rd x:=λst2 ha=>ha.rd (λt ht=>by simp[bQ,ho,ht]);have hb:∀st2,dz an X o st st2→lo.map st2.rd=lo.map st.rd∧hi.map st2.rd=hi.map st.rd:=by
  intro st2 ha;constructor;cases lo with|none=>rfl|some y=>simp only[bI];rw[ha.rd (λt ht=>by simp[bQ,ho,Sk,ht])]
  cases hi with|none=>rfl|some y=>simp only[bI];rw[ha.rd (λt ht=>by simp[bQ,ho,Sk,ht])]
 have hnow:(st.rd x).now st.ep=true:=by simpa[bM,ho]using hfree
 have hf2:∀st2,dz an X o st st2→(st.rd x).fresh st2=st.rd x:=λst2 ha=>nI (by rw[ha.ep];exact hnow);have htk:ra an o=false:=by simpa[gv,ho]using hm
 unfold nY at h;rw[aq (by simp[htk]),nI hnow]at h;split at h;rename_i s hx;split at h;rename_i hT;obtain⟨a,b,h1,h2⟩:=td (f:=λs0 a b=>ab (sub s a b) λs'=>some (s0.put o.dst (.one (.str s')))) hb h;cases hsub:sub s a b with|none=>rw[hsub]at h1;cases h1|some s'=>rw[hsub]at h1;cases h1;refine ch.put rfl λst2 ha=>?_;have hf3:=hf2 st2 ha;rw[hx]at hf3;simp only[bG,ho,nY,htk,aB,ba,hr st2 ha,hx,hf3,ar hT];rw[h2 st2 ha,hsub];rfl
 cases h;rename_i fl e xs hx;split at h;rename_i hT;obtain⟨a,b,h1,h2⟩:=td (f:=λs0 a b=>ab (sub xs a b) λxs'=>some (s0.put o.dst (.one (.sl (xc an o fl a) e xs')))) hb h;cases hsub:sub xs a b with|none=>rw[hsub]at h1;cases h1|some s'=>rw[hsub]at h1;cases h1;refine ch.put rfl λst2 ha=>?_;have hf3:=hf2 st2 ha;rw[hx]at hf3;simp only[bG,ho,nY,htk,aB,ba,hr st2 ha,hx,hf3,ha.ep,ar hT];rw[h2 st2 ha,hsub];rfl
 cases h;cases h
theorem sf {args:List Operand}(hl:∀t,t∈yv args→t∈bQ o)(ha:dz an X o st st2):args.map st2.rd=args.map st.rd:=by apply List.map_congr_left;intro x hx;exact ha.rd (λt ht=>hl t (by simp only[yv,List.mem_flatMap];exact⟨x,hx,ht⟩))
theorem G1 {ts:Array TypeId}{args:Array Operand}(ho:o.op=.call {callee:=.builtin .len,args,argTypes:=ts})(h:wT E o ts.toList args.toList st some=some st'):ch E Γ an X o st st':=by have hr:∀st2,dz an X o st st2→args.toList.map st2.rd=args.toList.map st.rd:=λst2 ha=>sf (λt ht=>by simp only[bQ,ho];exact ht) ha;unfold wT at h;split at h;rename_i t s hts hx;split at h;rename_i hT;cases h;refine ch.put rfl λst2 ha=>?_;simp only[bG,ho,wT,hr st2 ha,hts,hx,ar hT];cases h;rename_i t _ _ xs hts hx;split at h;rename_i hT;cases h;refine ch.put rfl λst2 ha=>?_;simp only[bG,ho,wT,hr st2 ha,hts,hx,ar hT];cases h;cases h
theorem G3 {ts:Array TypeId}{args:Array Operand}(ho:o.op=.call {callee:=.builtin .min,args,argTypes:=ts})(h:ye o args.toList st some=some st'):ch E Γ an X o st st':=by have hr:∀st2,dz an X o st st2→args.toList.map st2.rd=args.toList.map st.rd:=λst2 ha=>sf (λt ht=>by simp only[bQ,ho];exact ht) ha;unfold ye at h;split at h;rename_i hx;cases h;refine ch.put rfl λst2 ha=>?_;simp only[bG,ho,ye,hr st2 ha,hx];cases h
theorem G2 {ts:Array TypeId}{args:Array Operand}(ho:o.op=.call {callee:=.builtin .max,args,argTypes:=ts})(h:yd o args.toList st some=some st'):ch E Γ an X o st st':=by have hr:∀st2,dz an X o st st2→args.toList.map st2.rd=args.toList.map st.rd:=λst2 ha=>sf (λt ht=>by simp only[bQ,ho];exact ht) ha;unfold yd at h;split at h;rename_i hx;cases h;refine ch.put rfl λst2 ha=>?_;simp only[bG,ho,yd,hr st2 ha,hx];cases h
theorem GN {l:List Nat}{c:AC}(h:c.Jq l=true)(hl:∀t∈l,st2.get t=st.get t):st2.yb c=st.yb c:=by
 cases c with
 |sl fl e xs=>
  cases fl with
  |loc ep pv=>cases pv with|none=>rfl|some q=>obtain⟨r,t⟩:=q;cases r with|slot b j=>have hb:st2.get b=st.get b:=hl b (by simpa[AC.Jq]using h);simp only[AS.yb,AS.cz,hb]|box _ _=>rfl|io _=>rfl
  |_=>rfl
 |_=>rfl
theorem Ej {l:List Nat}{x:Operand}(hx:tz l st x=true)(hl:∀t∈l,st2.get t=st.get t)(h:∀t∈tm x,st2.get t=st.get t):oz st2 x=oz st x∧pj st2 x=pj st x:=by
 cases x with
 |tmp t=>have ht:=h t (by simp[tm]);simp only[tz]at hx;cases hg:st.get t with|tup vs=>exact⟨by simp only[oz,ht,hg],by simp only[pj,ht,hg]⟩|val g cs=>rw[hg]at hx;have hm:cs.map st2.yb=cs.map st.yb:=List.map_congr_left λc hc=>GN (aF.1 hx c hc) hl;exact⟨by simp only[oz,ht,hg,hm],by simp only[pj,ht,hg,hm]⟩
 |const v=>exact⟨rfl,rfl⟩
 |func f=>exact⟨rfl,rfl⟩
 |global g=>exact⟨rfl,rfl⟩
theorem yf {f:Operand}{ts:Array TypeId}{args:Array Operand}(ho:o.op=.call {callee:=.value f,args,argTypes:=ts})(hfree:bM E an X o st=true){k:Nat}(hf:st.rd f=.val false [.fn k])(hbx:(Γ k).bx=true)(hcur:(Γ k).cur=true)(h:kP Γ o k args.toList st some=some st'):ch E Γ an X o st st':=by
 unfold kP at h;split at h;rename_i x0 xs hargs;split at h;rename_i s hx0;have hfr:jS an X (HQ an o) st (x0::xs)=true:=by have h1:=hfree;simp only[bM,ho,aa]at h1;rw[←hargs];exact h1.1
 have hx1:∃q,x0=.tmp q∧X.contains s=false∧an.sb q=some s∧(match (nth st.boxes s).getD none with|some cs=>cs.all AC.sL|none=>true)=true∧xs.all (tz (HQ an o) st)=true:=by cases x0 with|tmp q=>simp only[jS,hx0,Ia,aa,aC,aS]at hfr;exact⟨q,rfl,hfr.1.1.1,hfr.1.1.2,hfr.1.2,hfr.2⟩|const v=>simp only[jS,hx0,AV.FI]at hfr;cases hfr|func v=>simp only[jS,hx0,AV.FI]at hfr;cases hfr|global v=>simp only[jS,hx0,AV.FI]at hfr;cases hfr
 obtain⟨q,rfl,hX,hsb,hall,hself⟩:=hx1;split at h;rename_i cs hb0;rw[hb0]at hall;simp only at hall;cases hc:(cs.all (AC.mV (qi cs))&&xs.all (pj st))with
 |false=>rw[hc]at h;cases h
 |true=>
  rw[hc]at h;simp only[af]at h;cases hres:(Γ k).fn (.val true (cs.map AC.AJ)::xs.map (oz st))with
  |none=>rw[hres]at h;cases h
  |some y=>
   rw[hres]at h;simp only[ab]at h;cases hc2:(((Γ k).back y).all (AC.mV true)&&((Γ k).av y).G6)with
   |false=>rw[hc2]at h;cases h
   |true=>
    rw[hc2]at h;simp only[af,hcur,hall,dH,aH]at h;subst h;refine⟨⟨o.dst.toList.map λd=>(d,((Γ k).av y).qj st.ep (st.dJ o.dst)),some (s,hH (qi cs) (λ_=>none) 0 ((Γ k).back y)),o.dst⟩,⟨λx hx=>?_,λb hb=>?_,λd hd=>hd⟩,?_,λst2 ha=>?_⟩;simp only[List.mem_map]at hx;obtain⟨d,hd,rfl⟩:=hx;simp[writes,hd];cases hb;simp[rb,ho,hargs,hsb];unfold tR.apply AS.put AS.cM AS.cq;cases o.dst<;>rfl;have e1:st2.rd f=st.rd f:=ha.rd (λt ht=>by simp[bQ,ho,ht]);have hl:∀x∈Operand.tmp q::xs,∀t∈tm x,t∈bQ o:=by intro x hx t ht;simp only[bQ,ho,ak,yv,List.mem_flatMap,hargs];exact .inr ⟨x,hx,ht⟩
    have e2:st2.rd (.tmp q)=st.rd (.tmp q):=ha.rd (hl _ (by simp));have e3:nth st2.boxes s=nth st.boxes s:=ha.box s hX;have e4:∀x∈xs,oz st2 x=oz st x∧pj st2 x=pj st x:=λx hx=>Ej (aF.1 hself x hx) ha.er λt ht=>ha.get t (hl x (by simp[hx]) t ht);have e5:xs.map (oz st2)=xs.map (oz st):=List.map_congr_left λx hx=>(e4 x hx).1;have e6:xs.all (pj st2)=xs.all (pj st):=by rw[bU];simp only[aF];exact⟨λg x hx=>by rw[←(e4 x hx).2];exact g x hx,λg x hx=>by rw[(e4 x hx).2];exact g x hx⟩
    simp only[bG,ho,ql,e1,hf,hbx,af,kP,hargs,e2,hx0,e3,hb0,e5,e6,hc,hres,ab,hc2,hcur,hall,dH,ha.ep,ha.dJ];unfold tR.apply AS.put AS.cM AS.cq;cases o.dst<;>rfl
 cases h;cases h;cases h
theorem Es (hΓ:∀f,(Γ f).io=false∧((Γ f).bx=true→(Γ f).cur=true)∧(Γ f).pr=false){f:Operand}{ts:Array TypeId}{args:Array Operand}(ho:o.op=.call {callee:=.value f,args,argTypes:=ts})(hfree:bM E an X o st=true)(h:ql Γ o f args.toList st some=some st'):ch E Γ an X o st st':=by
 have hr:∀st2,dz an X o st st2→st2.rd f=st.rd f∧(args.toList.map λx=>((st2.rd x).fresh st2).asArg st2.ep)=args.toList.map λx=>((st.rd x).fresh st).asArg st.ep:=by
  intro st2 ha;refine⟨ha.rd (λt ht=>by simp[bQ,ho,ht]),?_⟩;apply List.map_congr_left;intro x hx;have hnow:(st.rd x).now st.ep=true:=by simp only[bM,ho,aa,aF]at hfree;exact hfree.2 x hx
  rw[ha.rd (λt ht=>by simp only[bQ,ho,ak,yv,List.mem_flatMap];exact .inr ⟨x,hx,ht⟩),nI hnow,nI (s:=st2) (by rw[ha.ep];exact hnow),ha.ep]
 unfold ql at h;split at h
 ·rename_i k hf
  cases hbx:(Γ k).bx with
  |true=>rw[hbx]at h;exact yf ho hfree hf hbx ((hΓ k).2.1 hbx) h
  |false=>
  rw[hbx,(hΓ k).2.2,(hΓ k).1]at h
  simp only[al]at h
  cases hg:(Γ k).fn (args.toList.map λx=>((st.rd x).fresh st).asArg st.ep)with
  |none=>rw[hg]at h;cases h
  |some y=>
   rw[hg]at h
   simp only[ab]at h
   cases hsel:(Γ k).sel y with
   |true=>
    rw[hsel]at h
    cases h
    refine ch.new rfl λst2 ha=>?_
    simp only[bG,ho,ql,(hr st2 ha).1,hf,(hΓ k).1,hbx,(hΓ k).2.2,al]
    rw[(hr st2 ha).2,hg]
    simp only[ab,hsel,af,ha.ep,ha.dJ]
   |false=>
    rw[hsel]at h
    cases h
    refine ch.new rfl λst2 ha=>?_
    simp only[bG,ho,ql,(hr st2 ha).1,hf,(hΓ k).1,hbx,(hΓ k).2.2,al]
    rw[(hr st2 ha).2,hg]
    simp only[ab,hsel,al,ha.ep,ha.dJ]
 cases h
theorem yg {src dst:TypeId}{x:Operand}(ho:o.op=.convert src dst x)(h:fz E o src dst x st some=some st'):ch E Γ an X o st st':=by
 have hr:∀st2,dz an X o st st2→st2.rd x=st.rd x:=λst2 ha=>ha.rd (λt ht=>by simpa[bQ,ho]using ht);unfold fz at h;split at h;rename_i h1 h2 h3;cases h;refine ch.put rfl λst2 ha=>?_;simp only[bG,ho,fz,hr st2 ha,h1,h2,h3];rename_i h1 h2 h3;cases h;refine ch.put rfl λst2 ha=>?_;simp only[bG,ho,fz,hr st2 ha,h1,h2,h3];rename_i offs val s hno h1 h2 h3;split at h;rename_i hb;unfold room at h;split at h;rename_i hrm;cases h;refine ch.new (v:=.one (.sl (.own (st.dJ o.dst 0)) (.int .u8) (cP s))) rfl λst2 ha=>?_;have hval:∀k:AS→Option AS,fz E o src dst x st2 k=if E.bytes dst then room s.length (k (st2.ig o.dst (.int .u8) (cP s))) else none:=by intro k;unfold fz;rw[hr st2 ha,h1,h2,h3];obtain⟨ag,ct,of⟩:=val;cases ag with|true=>rfl|false=>cases ct with|str=>exact(hno _ rfl).elim|_=>rfl
 simp only[bG,ho];rw[hval,ar hb,room,ar hrm,AS.ig,ha.dJ];cases h;cases h;rename_i val offs fl xs h1 h2 h3;split at h;rename_i hb;cases h;refine ch.put rfl λst2 ha=>?_;have hval:∀k:AS→Option AS,fz E o src dst x st2 k=if E.bytes src∧fl.live st2.ep then k (st2.put o.dst (.one (.str (bytesOf xs)))) else none:=by intro k;unfold fz;rw[hr st2 ha,h1,h2,h3];obtain⟨ag,ct,of⟩:=val;cases ag with|true=>rfl|false=>cases ct<;>rfl
 simp only[bG,ho];rw[hval,ha.ep,ar hb];cases h;cases h
theorem uL {d:Nat}{cs:List AC}{v:AV}:(⟨[(d,v)],some (d,cs),none⟩:tR).apply st=(st.cq d (some cs)).put (some d) v:=rfl
theorem Cq {T:TypeId}(ho:o.op=.alloc T)(h:pC E o T st some=some st'):ch E Γ an X o st st':=by unfold pC at h;split at h;rename_i d sh hd hT;split at h;rename_i hb;cases h;refine⟨⟨[(d,.one (.ptr d 0))],some (d,cellsOf sh.ct (.own none) sh.ct.zero),none⟩,⟨λx hx=>?_,λb hb'=>?_,λ_ hh=>by cases hh⟩,?_,λst2 ha=>?_⟩;simp only[bK]at hx;subst hx;simp[writes,hd];cases hb';simp[rb,ho,hd];rw[uL,hd];simp only[bG,ho,pC,hd,hT,(ha.dst d hd).2,hb,uL];cases h;cases h
def gG (st:AS):Operand→List (Nat×AV)
 | .tmp t=>[(t,(st.get t).az st.ep)]
 |_=>[]
theorem oR (l:List AV)(a b:List (Nat×AV)):eJ l (a++b)=eJ (eJ l a) b:=by induction a generalizing l with|nil=>rfl|cons x a ih=>exact ih _
def AS.eC (st:AS)(l:List (Nat×AV)):AS:={st with slots:=eJ st.slots l}
theorem R6:st.eC []=st:=rfl
theorem iK (a b:List (Nat×AV)):st.eC (a++b)=(st.eC a).eC b:=by simp only[AS.eC,oR]
theorem R5 (d:Nat)(v:AV):st.put (some d) v=st.eC [(d,v)]:=rfl
theorem pA (x:Operand):(st.take x).2=st.eC (gG st x):=by cases x<;>rfl
theorem qc {x:Operand}(hep:st2.ep=st.ep)(h:∀t∈tm x,st2.get t=st.get t):(st2.take x).1=(st.take x).1∧(st2.take x).2=st2.eC (gG st x):=by cases x with|tmp t=>have:=h t (by simp[tm]);refine⟨this,?_⟩;rw[pA];simp only[gG,this,hep]|const v=>exact⟨rfl,rfl⟩|func f=>exact⟨rfl,rfl⟩|global g=>exact⟨rfl,rfl⟩
theorem tN {x:Operand}:∀y∈gG st x,y.1∈tm x:=by cases x<;>simp[gG,tm]
theorem Eu {x:Operand}(ho:o.op=.move x)(h:pq an o x st some=some st'):ch E Γ an X o st st':=by
 unfold pq at h;cases hd:o.dst with
 |none=>rw[hd]at h;cases h
 |some d=>
  rw[hd]at h;cases hf:an.mv.contains d with
  |false=>simp only[hf,aB,ba]at h;cases h;refine ch.put (v:=st.rd x) (by rw[hd]) λst2 ha=>?_;have hr:st2.rd x=st.rd x:=ha.rd (λt ht=>by simpa[bQ,ho]using ht);simp only[bG,ho,pq,hd,hf,aB,ba,hr]
  |true=>
   simp only[hf,aU]at h;cases h;have hr:∀st2,dz an X o st st2→(st2.take x).1=(st.take x).1∧(st2.take x).2=st2.eC (gG st x):=λst2 ha=>qc ha.ep λt ht=>ha.get t (by simpa[bQ,ho]using ht);refine⟨⟨gG st x++[(d,(st.take x).1)],none,none⟩,⟨λy hy=>?_,λ_ hh=>(by cases hh),λ_ hh=>(by cases hh)⟩,?_,λst2 ha=>?_⟩;rcases ak.1 hy with hy|hy;have:=tN y hy;have hf':d∈an.mv:=by simpa using hf
   simp[writes,qZ,ho,hd,hf',bQ,this];simp only[bK]at hy;subst hy;simp[writes,hd];rw[pA];show _=st.eC _;rw[iK];rfl;simp only[bG,ho,pq,hd,hf,aU,(hr st2 ha).1,(hr st2 ha).2];show some ((st2.eC (gG st x)).put (some d) (st.take x).1)=some (st2.eC _);rw[iK];rfl
theorem BE {ep:Nat}{cs:List AC}(h:cs.all AC.dg=true):az ep cs=cs:=by
 rw[aF]at h;unfold az;have:cs.map (AC.borrow ep none)=cs.map id:=List.map_congr_left λc hc=>by have:=h c hc;cases c<;>first|rfl|(simp[AC.dg]at this)
 rw[this,List.map_id]
theorem Lj {s:AS}{t:Nat}{vs:List (Bool×List AC)}(h:s.get t=.tup vs):s.put (some t) (.tup vs)=s:=by cases s with|mk slots boxes ep iss io=>simp only[AS.put,AS.mk.injEq,dI];rw[cE];apply List.ext_getElem?;intro i;rw[List.getElem?_set];split;rename_i hd;subst hd;simp only[AS.get,bZ]at h;split;rename_i hlt;rw[List.getElem?_eq_getElem hlt]at h⊢;simp only[c8]at h;rw[h];rename_i hge;rw[List.getElem?_eq_none (Nat.le_of_not_lt hge)];rfl
theorem yh {t i:Nat}(ho:o.op=.extract (.tmp t) i)(hfree:bM E an X o st=true)(h:fB o t i st some=some st'):ch E Γ an X o st st':=by
 have hr:∀st2,dz an X o st st2→st2.get t=st.get t:=λst2 ha=>ha.get t (by simp[bQ,ho]);unfold fB at h;simp only[bM,ho]at hfree;split at h
 ·rename_i vs hv;rw[hv]at hfree;split at h
  ·rename_i g cs hn;simp only[hn]at hfree;have hfl:cs.all AC.dg=true∨∃d,o.dst=some d∧an.mv.contains d=true:=by cases hd:o.dst with|none=>simp only[hd,Bool.or_false]at hfree;exact .inl hfree|some d=>simp only[hd,bB]at hfree;rcases hfree with h|h;exact .inl h;exact .inr ⟨d,rfl,h⟩
   rcases hfl with hfree|⟨d,hd,hmv⟩;rotate_left;cases h;refine⟨⟨[(t,.tup (dD vs i (g,az 0 cs))),(d,.val g cs)],none,none⟩,⟨λx hx=>?_,(λ_ hb=>by cases hb),(λ_ hh=>by cases hh)⟩,?_,λst2 ha=>?_⟩;simp only[bn,List.not_mem_nil,or_false]at hx;rcases hx with rfl|rfl;simp only[writes,qZ,ho,hd,hmv,af,bQ];simp;simp only[writes,hd];simp;rw[hd];rfl;have h2:st2.get t=.tup vs:=by rw[hr st2 ha,hv]
   simp only[bG,ho,fB,h2,hn,hd];rfl;skip;have hset:dD vs i (g,cs)=vs:=by rw[cE];rw[bZ]at hn;apply List.ext_getElem?;intro k;rw[List.getElem?_set];split;rename_i hk;subst hk;obtain⟨hl,he⟩:=List.getElem?_eq_some_iff.1 hn;rw[ar hl,hn];rfl
   have key:∀s:AS,s.get t=.tup vs→(s.put (some t) (.tup (dD vs i (g,az 0 cs))))=s:=λs hs=>by rw[BE hfree,hset,Lj hs]
   rw[key st hv]at h;cases h;refine ch.put rfl λst2 ha=>?_;have h2:st2.get t=.tup vs:=by rw[hr st2 ha,hv]
   simp only[bG,ho,fB,h2,hn];rw[key st2 h2]
  cases h
 cases h
def nD (st:AS):Operand→List (Nat×AV)
 | .tmp t=>[(t,(st.get t).az st.ep)]
 |_=>[]
theorem xK (st:AS)(x:Operand):(st.take x).2=⟨eJ st.slots (nD st x),st.boxes,st.ep,st.iss,st.io⟩:=by cases x<;>rfl
theorem Cw {T:TypeId}{pp:Nat}{x:Operand}(ho:o.op=.store T (.tmp pp) x)(hd:o.dst=none)(hm:gv an o=true)(hfree:bM E an X o st=true)(h:lS E T (.tmp pp) x st some=some st'):ch E Γ an X o st st':=by
 have hr:∀st2,dz an X o st st2→st2.rd (.tmp pp)=st.rd (.tmp pp):=λst2 ha=>ha.rd (λt ht=>by simp only[bQ,ho,ak];exact .inl ht);have hsb:(an.sb pp).isNone=false:=by simp only[gv,ho,aa]at hm;cases hb:an.sb pp with|none=>rw[hb]at hm;cases hm.1|some _=>rfl
 simp only[bM,ho,hsb,du,cJ]at hfree;unfold lS at h;split at h;rename_i sh s off hT hp;rw[hp]at hfree;simp only[aa,aC,aS]at hfree;split at h;rename_i gg vs st1 htk;have htk1:(st.take x).1=.val gg vs:=by rw[htk]
 have hst1:st1=⟨eJ st.slots (nD st x),st.boxes,st.ep,st.iss,st.io⟩:=by rw[←xK,htk]
 split at h;rename_i cs hb;split at h;rename_i hlen;split at h;rename_i hfit;cases h;have hbx:∀st2,dz an X o st st2→nth st2.boxes s=nth st.boxes s:=λst2 ha=>ha.box s hfree.1;refine⟨⟨nD st x,some (s,bF cs off vs),none⟩,⟨λy hy=>?_,λb hb'=>?_,λ_ hh=>by cases hh⟩,?_,λst2 ha=>?_⟩;cases x with|tmp t=>simp only[nD,bK]at hy;subst hy;simp only[writes,qZ,ho,af,bQ,hd];simp[tm]|_=>simp[nD]at hy
 cases hb';simp only[rb,ho,hfree.2];simp;rw[hst1];rfl;have hx2:(st2.take x).1=(st.take x).1∧nD st2 x=nD st x:=by cases x with|tmp t=>have hg:st2.get t=st.get t:=ha.get t (by simp[bQ,ho,tm]);simp only[AS.take,nD,hg,ha.ep];simp|const v=>exact⟨rfl,rfl⟩|func f=>exact⟨rfl,rfl⟩|global g=>exact⟨rfl,rfl⟩
 have ht2:st2.take x=(.val gg vs,⟨eJ st2.slots (nD st x),st2.boxes,st2.ep,st2.iss,st2.io⟩):=by rw[←hx2.2,←xK,←htk1,←hx2.1]
 have hb2:(nth st2.boxes s).getD none=some cs:=by rw[hbx st2 ha];rw[hst1]at hb;exact hb
 have hlate:nU an o=false:=by simp only[gv,ho,aa,aC]at hm;exact hm.2
 simp only[bG,ho,hd,hlate,aB,ba,lS,hT,hr st2 ha,hp,ht2,hb2,ar hlen,ar hfit];rfl;cases h;cases h;cases h;cases h;rename_i r _ _ _ _ _ _ hp;rw[hp]at hfree;cases r<;>simp at hfree;cases h
theorem Al {x:Operand}(ho:o.op=.assign x)(hm:gv an o=true)(h:kO E an o x st some=some st'):ch E Γ an X o st st':=by
 have hr:∀st2,dz an X o st st2→(st2.take x).1=(st.take x).1∧(st2.take x).2=st2.eC (gG st x):=λst2 ha=>qc ha.ep λt ht=>ha.get t (by simpa[bQ,ho]using ht);have hlate:nU an o=false:=by simpa[gv,ho]using hm
 unfold kO at h;split at h;rename_i st1 htk;split at h;rename_i e hT;cases h;refine ch.put rfl λst2 ha=>?_;have h2:st2.take x=(.val false [.nilsl],st2.eC (gG st x)):=Prod.ext (by rw[(hr st2 ha).1,htk]) (hr st2 ha).2;simp only[bG,ho,kO,hlate,aB,ba,h2,hT];cases h;rename_i v st1 hno htk;cases h;have hst1:st1=st.eC (gG st x):=by rw[←pA,htk]
 refine⟨⟨gG st x++o.dst.toList.map λd=>(d,v),none,none⟩,⟨λy hy=>?_,λ_ hh=>(by cases hh),λ_ hh=>(by cases hh)⟩,?_,λst2 ha=>?_⟩;rcases ak.1 hy with hy|hy;have:=tN y hy;simp[writes,qZ,ho,bQ,this];obtain⟨d,hd,rfl⟩:=List.mem_map.1 hy;simp[writes,hd];rw[hst1];show _=st.eC _;rw[iK];cases o.dst<;>rfl;have h2:st2.take x=(v,st2.eC (gG st x)):=Prod.ext (by rw[(hr st2 ha).1,htk]) (hr st2 ha).2;simp only[bG,ho,kO,hlate,aB,ba,h2];show some ((st2.eC (gG st x)).put o.dst v)=some (st2.eC _);rw[iK];cases o.dst<;>rfl
theorem eA {α:Type}(l:List α)(i:Nat)(v:α)(t:Nat):nth (dD l i v) t=if i=t then(if i<l.length then some v else none) else nth l t:=by rw[bZ,cE,bZ,List.getElem?_set]
theorem xf (l:List AV)(a:List (Nat×AV)):(eJ l a).length=l.length:=by induction a generalizing l with|nil=>rfl|cons x a ih=>rw[eJ,ih,cE,aL]
theorem EF {l l2:List AV}(a:List (Nat×AV))(hl:l2.length=l.length)(t:Nat)(h:nth l2 t=nth l t):nth (eJ l2 a) t=nth (eJ l a) t:=by induction a generalizing l l2 with|nil=>exact h|cons x a ih=>refine ih (by rw[cE,cE,aL,aL,hl]) ?_;rw[eA,eA,hl,h]
theorem EA {t:Nat}(h:st2.get t=st.get t)(hl:st2.slots.length=st.slots.length):nth st2.slots t=nth st.slots t:=by unfold AS.get at h;rw[bZ,bZ]at h⊢;rcases aX t st.slots.length with hlt|hge;rw[List.getElem?_eq_getElem hlt,List.getElem?_eq_getElem (by omega)]at h⊢;simpa using h;rw[List.getElem?_eq_none hge,List.getElem?_eq_none (by omega)]
def eG (st:AS):List Operand→List (Nat×AV)
 |[]=>[]
 |x::xs=>gG st x++eG (st.eC (gG st x)) xs
theorem n5:∀(xs:List Operand)(st:AS),∀y∈eG st xs,y.1∈yv xs
 |[],_,y,hy=>by cases hy
 |x::xs,st,y,hy=>by simp only[yv,List.flatMap_cons,ak];rcases ak.1 hy with hy|hy;exact .inl (tN y hy);exact .inr (n5 xs _ y hy)
theorem oT:∀(xs:List Operand)(st st2:AS),st2.ep=st.ep→st2.slots.length=st.slots.length→(∀t∈yv xs,nth st2.slots t=nth st.slots t)→
 (cA st2 xs).1=(cA st xs).1∧(cA st2 xs).2=st2.eC (eG st xs)
 |[],st,st2,_,_,_=>⟨rfl,rfl⟩
 |x::xs,st,st2,hep,hl,hg=>by
  have hx:∀t∈tm x,st2.get t=st.get t:=λt ht=>by unfold AS.get;rw[hg t (by simp[yv,ht])]
  obtain⟨h1,h2⟩:=qc (st:=st) (st2:=st2) hep hx;have h3:=pA (st:=st) x;obtain⟨k1,k2⟩:=oT xs (st.eC (gG st x)) (st2.eC (gG st x)) hep (by simp only[AS.eC,xf,hl]) (λt ht=>EF _ hl t (hg t (by simp only[yv,List.flatMap_cons,ak];exact .inr ht)));have e1:cA st (x::xs)=((st.take x).1::(cA (st.take x).2 xs).1,(cA (st.take x).2 xs).2):=rfl;have e2:cA st2 (x::xs)=((st2.take x).1::(cA (st2.take x).2 xs).1,(cA (st2.take x).2 xs).2):=rfl;rw[e1,e2,h1,h2,h3];refine⟨by rw[k1],?_⟩;show(cA (st2.eC (gG st x)) xs).2=_;rw[k2,eG,iK]
theorem qb (xs:List Operand):(cA st xs).2=st.eC (eG st xs):=(oT xs st st rfl rfl (λ_ _=>rfl)).2
theorem dz.cA (ha:dz an X o st st2){xs:List Operand}(hx:∀t∈yv xs,t∈bQ o):(cA st2 xs).1=(Dn.cA st xs).1∧(Dn.cA st2 xs).2=st2.eC (eG st xs):=oT xs st st2 ha.ep ha.len λt ht=>EA (ha.get t (hx t ht)) ha.len
theorem Cr {T:TypeId}{parts:Array (Nat×Operand)}(ho:o.op=.build T parts)(h:oK E o T parts.toList st some=some st'):ch E Γ an X o st st':=by
 have hl:∀t∈yv (parts.toList.map (·.2)),t∈bQ o:=λt ht=>by simp only[bQ,ho];exact ht
 unfold oK at h;split at h;rename_i ct offs hT;split at h;rename_i vs st1 htk;have hst1:st1=st.eC (eG st (parts.toList.map (·.2))):=by rw[←qb,htk]
 split at h;rename_i cs hb;cases h;refine⟨⟨eG st (parts.toList.map (·.2))++o.dst.toList.map λd=>(d,.val true cs),none,none⟩,⟨λy hy=>?_,λ_ hh=>(by cases hh),λ_ hh=>(by cases hh)⟩,?_,λst2 ha=>?_⟩;rcases ak.1 hy with hy|hy;have:=hl _ (n5 _ _ y hy);simp[writes,qZ,ho,this];obtain⟨d,hd,rfl⟩:=List.mem_map.1 hy;simp[writes,hd];rw[hst1];show _=st.eC _;rw[iK];cases o.dst<;>rfl;obtain⟨k1,k2⟩:=ha.cA hl;have h2:cA st2 (parts.toList.map (·.2))=(vs,st2.eC (eG st (parts.toList.map (·.2)))):=Prod.ext (by rw[k1,htk]) k2;simp only[bG,ho,oK,hT,h2,hb];show some ((st2.eC _).put o.dst _)=some (st2.eC _);rw[iK];cases o.dst<;>rfl;cases h;cases h
theorem ch.OD {tl:List (Nat×AV)}{v:AV}(ht:qZ an o=true)(hl:∀y∈tl,y.1∈bQ o)(h:st'=((st.eC tl).cM o.dst).put o.dst v)(h2:∀st2,dz an X o st st2→bG E Γ an o st2 some=some (((st2.eC tl).cM o.dst).put o.dst v)):ch E Γ an X o st st':=by
 have key:∀s:AS,(⟨tl++o.dst.toList.map λd=>(d,v),none,o.dst⟩:tR).apply s=((s.eC tl).cM o.dst).put o.dst v:=by intro s;cases o.dst with|none=>simp only[tR.apply,Option.toList,List.map_nil,aQ,AS.eC,AS.cM,AS.put]|some d=>simp only[tR.apply,Option.toList,bX,List.map_nil,oR,AS.eC,AS.cM,AS.put,eJ]
 refine⟨⟨tl++o.dst.toList.map λd=>(d,v),none,o.dst⟩,⟨λy hy=>?_,λ_ hh=>(by cases hh),λd hh=>hh⟩,by rw[key];exact h,λst2 ha=>by rw[key];exact h2 st2 ha⟩;rcases ak.1 hy with hy|hy;simp[writes,ht,hl y hy];obtain⟨d,hd,rfl⟩:=List.mem_map.1 hy;simp[writes,hd]
theorem nJ {tl:List (Nat×AV)}{d:Option Nat}:(st.eC tl).dJ d=st.dJ d:=rfl
theorem um {T:TypeId}{len:Nat}{parts:Array (Nat×Operand)}(ho:o.op=.buildSlice T len parts)(h:fy E o T len parts.toList st some=some st'):ch E Γ an X o st st':=by
 have hl:∀t∈yv (parts.toList.map (·.2)),t∈bQ o:=λt ht=>by simp only[bQ,ho];exact ht
 unfold fy at h;split at h;rename_i e hT;split at h;rename_i hc;split at h;rename_i vs st1 htk;have hst1:st1=st.eC (eG st (parts.toList.map (·.2))):=by rw[←qb,htk]
 split at h;rename_i xs hb;cases h;refine ch.OD (tl:=eG st (parts.toList.map (·.2))) (v:=.one (.sl (.own (st.dJ o.dst 0)) e xs)) (by simp[qZ,ho]) (λy hy=>hl _ (n5 _ _ y hy)) ?_ λst2 ha=>?_;rw[hst1,AS.ig,nJ];obtain⟨k1,k2⟩:=ha.cA hl;have h2:cA st2 (parts.toList.map (·.2))=(vs,st2.eC (eG st (parts.toList.map (·.2)))):=Prod.ext (by rw[k1,htk]) k2;simp only[bG,ho,fy,hT,h2,hb,ar hc];rw[AS.ig,nJ,ha.dJ];cases h;cases h;cases h
theorem vt {T:TypeId}{n c:Operand}(ho:o.op=.makeSlice T n c)(h:gK E o T n c st some=some st'):ch E Γ an X o st st':=by
 have hr:∀st2,dz an X o st st2→st2.rd n=st.rd n∧st2.rd c=st.rd c:=λst2 ha=>
  ⟨ha.rd (λt ht=>by simp[bQ,ho,ht]),ha.rd (λt ht=>by simp[bQ,ho,ht])⟩
 unfold gK at h;split at h;rename_i e len cap hT hn hc;split at h;rename_i hlc;unfold room at h;split at h;rename_i hrm;cases h;refine ch.new (v:=.one (.sl (.own (st.dJ o.dst 0)) e (List.replicate len.toNat e.zero))) rfl λst2 ha=>?_;simp only[bG,ho,gK,(hr st2 ha).1,(hr st2 ha).2,hT,hn,hc,ar hlc,room,ar hrm,AS.ig,ha.dJ];cases h;cases h;cases h
theorem Ak {ts:Array TypeId}{args:Array Operand}(ho:o.op=.call {callee:=.builtin .append,args,argTypes:=ts})(h:lW E o ts.toList args.toList st some=some st'):ch E Γ an X o st st':=by
 have hlk:∀t∈yv args.toList,t∈bQ o:=λt ht=>by simp only[bQ,ho];exact ht
 unfold lW at h;split at h;rename_i t t' s x hts hargs;have hl:∀u∈yv [s,x],u∈bQ o:=by rw[←hargs];exact hlk
 have hboth:∀st2,dz an X o st st2→(st2.take s).1=(st.take s).1∧((st2.take s).2.take x).1=((st.take s).2.take x).1∧((st2.take s).2.take x).2=st2.eC (eG st [s,x]):=by intro st2 ha;obtain⟨k1,k2⟩:=ha.cA hl;simp only[Dn.cA,List.cons.injEq,dI]at k1 k2;exact⟨k1.1,k1.2,k2⟩
 have hself:((st.take s).2.take x).2=st.eC (eG st [s,x]):=qb (st:=st) [s,x];split at h;rename_i tag e xs st1 htk1;split at h;rename_i fl e' ys st1' htk2;split at h;rename_i he;subst he;split at h;rename_i hc;unfold room at h;split at h;rename_i hrm;cases h;have hst1:(st.take s).2=st1:=by rw[htk1]
 have hst2:st1'=st.eC (eG st [s,x]):=by rw[←hself,hst1,htk2]
 refine ch.OD (tl:=eG st [s,x]) (v:=.one (.sl (.own (st.dJ o.dst 0)) e' (xs++ys))) (by simp[qZ,ho]) (λy hy=>hl _ (n5 _ _ y hy)) ?_ λst2 ha=>?_;rw[hst2,AS.ig,nJ];obtain⟨k1,k2,k3⟩:=hboth st2 ha;have e1:st2.take s=(.val false [.sl (.own tag) e' xs],(st2.take s).2):=Prod.ext (by rw[k1,htk1]) rfl;have e2:(st2.take s).2.take x=(.val false [.sl fl e' ys],st2.eC (eG st [s,x])):=Prod.ext (by rw[k2,hst1,htk2]) k3;simp only[bG,ho,lW,hts,hargs];rw[e1];simp only;rw[e2];simp only[dite_true,ha.ep,ar hc,room,ar hrm,AS.ig,nJ,ha.dJ];cases h;cases h;cases h;rename_i sx st1' htk2;split at h;rename_i he;subst he;split at h;rename_i hc;unfold room at h;split at h;rename_i hrm;cases h;have hst1:(st.take s).2=st1:=by rw[htk1]
 have hst2:st1'=st.eC (eG st [s,x]):=by rw[←hself,hst1,htk2]
 refine ch.OD (tl:=eG st [s,x]) (v:=.one (.sl (.own (st.dJ o.dst 0)) (.int .u8) (xs++cP sx))) (by simp[qZ,ho]) (λy hy=>hl _ (n5 _ _ y hy)) ?_ λst2 ha=>?_;rw[hst2,AS.ig,nJ];obtain⟨k1,k2,k3⟩:=hboth st2 ha;have e1:st2.take s=(.val false [.sl (.own tag) (.int .u8) xs],(st2.take s).2):=Prod.ext (by rw[k1,htk1]) rfl;have e2:(st2.take s).2.take x=(.val false [.str sx],st2.eC (eG st [s,x])):=Prod.ext (by rw[k2,hst1,htk2]) k3;simp only[bG,ho,lW,hts,hargs];rw[e1];simp only;rw[e2];simp only[dite_true,ar hc,room,ar hrm,AS.ig,nJ,ha.dJ];cases h;cases h;cases h;cases h;cases h;cases h
theorem G0 {T:TypeId}{x:Operand}(ho:o.op=.box T x)(h:zw o x st some=some st'):ch E Γ an X o st st':=by
 have hr:∀st2,dz an X o st st2→(st2.take x).1=(st.take x).1∧(st2.take x).2=st2.eC (gG st x):=λst2 ha=>qc ha.ep λt ht=>ha.get t (by simpa[bQ,ho]using ht);unfold zw at h;split at h;rename_i d g cs st1 hd htk;have hst1:st1=st.eC (gG st x):=by rw[←pA,htk]
 split at h;rename_i hb;split at h;rename_i hs;cases h;have hb0:nth st.boxes d=some none:=by rw[hst1]at hb;exact hb
 have key:∀s:AS,(⟨gG st x++[(d,.one (.ptr d 0))],some (d,cs),none⟩:tR).apply s=((s.eC (gG st x)).cq d (some cs)).put (some d) (.one (.ptr d 0)):=by intro s;simp only[tR.apply,oR,AS.eC,AS.cq,AS.put,eJ]
 refine⟨⟨gG st x++[(d,.one (.ptr d 0))],some (d,cs),none⟩,⟨λy hy=>?_,λb hb'=>?_,λ_ hh=>(by cases hh)⟩,?_,λst2 ha=>?_⟩;rcases ak.1 hy with hy|hy;have:=tN y hy;simp[writes,qZ,ho,bQ,this];simp only[bK]at hy;subst hy;simp[writes,hd];cases hb';simp[rb,ho,hd];rw[key,hst1,hd];have h2:st2.take x=(.val g cs,st2.eC (gG st x)):=Prod.ext (by rw[(hr st2 ha).1,htk]) (hr st2 ha).2;have hb2:nth (st2.eC (gG st x)).boxes d=some none:=by show nth st2.boxes d=_;rw[(ha.dst d hd).2];exact hb0
 simp only[bG,ho,zw,hd,h2,hb2,ar hs,key];cases h;cases h;cases h
theorem xD (hΓ:∀f,(Γ f).io=false∧((Γ f).bx=true→(Γ f).cur=true)∧(Γ f).pr=false)(hm:gv an o=true)(hfree:bM E an X o st=true)(h:bG E Γ an o st some=some st'):ch E Γ an X o st st':=by
 have h0:=h;unfold bG at h;split at h;rename_i ho;exact Eu ho h;rename_i ho;have hlate:nU an o=false:=by simpa[gv,ho]using hm
 rw[aq (by simp[hlate])]at h;exact Al ho hm h;rename_i ho;exact Ev ho h;rename_i ho;exact Cq ho h;rename_i ho;exact G0 ho h;rename_i ho;exact Et ho hm hfree h;rename_i T p x ho;split at h;rename_i hd;cases p with
 |tmp pp=>
  have hlate:nU an o=false:=by simp only[gv,ho,aa,aC]at hm;exact hm.2
  rw[aq (by simp[hlate])]at h;exact Cw ho hd hm hfree h
 |const v=>simp[gv,ho]at hm
 |func f=>simp[gv,ho]at hm
 |global g=>simp[gv,ho]at hm
 cases h;rename_i ho;exact w3 ho h0;rename_i ho;exact GZ ho h;rename_i ho;exact IX ho h;rename_i ho;exact Cs ho h;rename_i ho;exact vq ho hfree h;rename_i ho;exact Ct ho h;rename_i ho;exact Cr ho h;rename_i ho;exact um ho h;rename_i ho;exact vt ho h;rename_i ho;exact Cv ho hm hfree h;rename_i ho;simp[gv,ho]at hm;rename_i ho;simp[gv,ho]at hm;rename_i ho;exact yg ho h;rename_i ho;exact yh ho hfree h;rename_i ho;exact G1 ho h;rename_i ho;exact G3 ho h;rename_i ho;exact G2 ho h;rename_i ho;exact Ak ho h;rename_i ho;exact Es hΓ ho hfree h;cases h
end Go.Dn
