import Derived.Test.YtgbaemfepmabgaaGreatDnMask
/- What an operation looks at and what it turns: for regions whose order is drawn. -/
namespace Go.Dn
structure vt where
 slots:List (Nat×AV):=[]
 box:Option (Nat×List AC):=none
 iss:Option Nat:=none
def fe (l:List AV):List (Nat×AV)→List AV
 |[]=>l
 |x::r=>fe (dW l x.1 x.2) r
def vt.apply (u:vt)(st:AS):AS:=
 ⟨fe st.slots u.slots,(match u.box with|some b=>dW st.boxes b.1 (some b.2)|none=>st.boxes),st.ep,(match u.iss with|some d=>dW st.iss d true|none=>st.iss),st.io⟩
structure dR (an:An) (X:List Nat) (o:Oper) (st st2:AS):Prop where
 len:st2.slots.length=st.slots.length
 get:∀t∈b8 o,st2.get t=st.get t
 ep:st2.ep=st.ep
 dst:∀d,o.dst=some d→nth st2.iss d=nth st.iss d∧nth st2.boxes d=nth st.boxes d
 box:∀s,X.contains s=false→nth st2.boxes s=nth st.boxes s
 er:∀t∈KQ an o,st2.get t=st.get t
structure vt.tO (an:An) (u:vt) (o:Oper):Prop where
 slots:∀x∈u.slots,x.1∈writes an o
 box:∀b,u.box=some b→b.1∈sZ an o
 iss:∀d,u.iss=some d→o.dst=some d
variable {E:Env} {Γ:cG} {an:An} {X:List Nat} {o:Oper} {st st2 st':AS}
theorem Mp {x:Operand}(hep:st2.ep=st.ep)(h:∀t∈tm x,st2.get t=st.get t):st2.rd x=st.rd x:=by cases x with|tmp t=>simp only[AS.rd,hep,h t (by simp[tm])]|const v=>rfl|func f=>rfl|global g=>rfl
def cw (E:Env)(Γ:cG)(an:An)(X:List Nat)(o:Oper)(st st':AS):Prop:=
 ∃u:vt,u.tO an o∧st'=u.apply st∧∀st2,dR an X o st st2→bT E Γ an o st2 some=some (u.apply st2)
def rR (o:Oper)(v:AV):vt:={slots:=o.dst.toList.map λd=>(d,v)}
theorem kF (v:AV):(rR o v).apply st=st.put o.dst v:=by unfold rR vt.apply AS.put;cases o.dst<;>rfl
theorem qJ (v:AV):(rR o v).tO an o:=by refine⟨λx hx=>?_,λb hb=>by simp[rR]at hb,λd hd=>by simp[rR]at hd⟩;simp only[rR,List.mem_map]at hx;obtain⟨d,hd,rfl⟩:=hx;simp[writes,hd]
def ui (o:Oper)(v:AV):vt:={slots:=o.dst.toList.map λd=>(d,v),iss:=o.dst}
theorem vo (v:AV):(ui o v).apply st=(st.cW o.dst).put o.dst v:=by unfold ui vt.apply AS.put AS.cW;cases o.dst<;>rfl
theorem Az (v:AV):(ui o v).tO an o:=by refine⟨λx hx=>?_,λb hb=>by simp[ui]at hb,λd hd=>by simpa[ui]using hd⟩;simp only[ui,List.mem_map]at hx;obtain⟨d,hd,rfl⟩:=hx;simp[writes,hd]
theorem cw.put {v:AV}(h:st'=st.put o.dst v)(h2:∀st2,dR an X o st st2→bT E Γ an o st2 some=some (st2.put o.dst v)):cw E Γ an X o st st':=⟨rR o v,qJ v,by rw[kF];exact h,λst2 ha=>by rw[kF];exact h2 st2 ha⟩
theorem dR.rd (ha:dR an X o st st2){x:Operand}(hx:∀t∈tm x,t∈b8 o):st2.rd x=st.rd x:=Mp ha.ep λt ht=>ha.get t (hx t ht)
theorem Ho {c x y:Operand}(ho:o.op=.pick c x y)(h:sN o c x y st some=some st'):cw E Γ an X o st st':=by
 have hr:∀st2,dR an X o st st2→st2.rd c=st.rd c∧st2.rd x=st.rd x∧st2.rd y=st.rd y:=λst2 ha=>
  ⟨ha.rd (λt ht=>by simp[b8,ho,ht]),ha.rd (λt ht=>by simp[b8,ho,ht]),ha.rd (λt ht=>by simp[b8,ho,ht])⟩
 unfold sN at h;split at h;rename_i t hc;split at h;rename_i a b hx hy;cases h;refine cw.put rfl λst2 ha=>?_;obtain⟨h1,h2,h3⟩:=hr st2 ha;simp only[bT,ho,sN,h1,h2,h3,hc,hx,hy];rename_i va vb hno;have hgo:∀st2,dR an X o st st2→bT E Γ an o st2 some=cond t (some (st2.put o.dst (st.rd x))) (some (st2.put o.dst (st.rd y))):=by intro st2 ha;obtain⟨h1,h2,h3⟩:=hr st2 ha;simp only[bT,ho,sN,h1,h2,h3,hc]
 cases t with|true=>cases h;exact cw.put rfl λst2 ha=>hgo st2 ha|false=>cases h;exact cw.put rfl λst2 ha=>hgo st2 ha
 cases h
theorem yD {d s:Nat}{cs:List AC}{v:AV}:(⟨[(d,v)],some (s,cs),none⟩:vt).apply st=(st.cC s (some cs)).put (some d) v:=rfl
theorem Bx {o:Oper}(h:sW an o=true):∃T q d,o.op=.load T (.tmp q)∧o.dst=some d∧o.guard=none∧an.mv.contains d=true∧an.mb d=none:=by unfold sW at h;split at h;rename_i T q d ho hd hg;simp only[ab,Option.isNone_iff_eq_none]at h;exact⟨T,q,d,ho,hd,hg,h.1.1,h.1.2⟩;cases h
def vm (st:AS)(b j t:Nat)(e:CT)(i:Int)(cs:List AC)(ys:List e.D):AS:=st.cC b (some (dW cs j (.sl (.holed (some t) i (some st.ep)) e ys)))
theorem zF {T:TypeId}{q d:Nat}(ht:sW an o=true)(ho:o.op=.load T (.tmp q))(hd:o.dst=some d)(hmv:an.mv.contains d=true)(hmb:an.mb d=none):(bX E an X o st=true∧iL E an o T (.tmp q) st some=some st')↔ ∃(g:Bool)(e:CT)(offs:List (Nat×Nat))(b j t ep0:Nat)(x:e.D)(i:Int)(cs:List AC)(ys:List e.D)(y:e.D),eK E.ty T=some ⟨g,e,offs⟩∧st.rd (.tmp q)=.val false [.elt (.loc ep0 (some (.box b j,t))) e x i 0]∧(nth st.boxes b).getD none=some cs∧nth cs j=some (.sl (.own (some t)) e ys)∧idx ys i=some y∧ X.contains b=false∧an.eb q=some b∧F8 an o=false∧st'=(vm st b j t e i cs ys).put (some d) (.val g (cellsOf e (.own none) y)):=by
 have htk:sY an o=true:=by unfold sY;rw[hd];simp only[hmv,hmb];rfl
 have hnl:qI an o=false:=by unfold qI;split;rename_i hd' _;rw[hd]at hd';cases hd';rw[hmb];simp;rfl
 have hnp:ql an o=false:=by unfold ql;split;rename_i hd' _;rw[hd]at hd';cases hd';rw[hmv];rfl;rfl
 constructor;rintro⟨hf,h⟩;unfold iL at h;split at h;rename_i hp;simp only[bX,ho,hp,hd,hmv,hmb]at hf;simp at hf;rename_i sh fl e x i off hT hp;rw[ar htk]at h;simp only[bX,ho,hp,ht,hnl,hnp,Bool.or_false,bZ,ax,cH,eB,ab,aA]at hf;obtain⟨⟨hl0,hfm⟩,hb⟩:=hf;unfold oo at h;split at h;rename_i ep0 r t;cases r with
 |slot _ _=>cases hb
 |io _=>cases hb
 |box b j=>
  simp only[ab,aM,aA]at hb;split at h;rename_i t' e' ys hrg;split at h;rename_i he;subst he;split at h;rename_i hc;obtain⟨rfl,rfl,hct⟩:=hc;obtain⟨g,ct,offs⟩:=sh;simp only at hct;subst hct;cases hi:idx ys i with|none=>simp only[hi,aa]at h;cases h|some y=>simp only[hi,aa]at h;cases h;simp only[AS.cM]at hrg;obtain⟨cs,hcs,hj⟩:=au.1 hrg;refine⟨g,_,offs,b,j,_,ep0,x,i,cs,ys,y,hT,hp,hcs,hj,hi,hb.2,hb.1,hfm,?_⟩;simp only[AS.cR,hcs,hd];rfl
  cases h;cases h;cases h
 cases h;cases h;rintro⟨g,e,offs,b,j,t,ep0,x,i,cs,ys,y,hT,hp,hcs,hj,hi,hX,heb,hfm,rfl⟩;constructor;simp only[bX,ho,hp,ht,hnl,hnp,hfm,hX,heb];simp;simp only[iL,hT,hp,htk,aX,oo,AS.cM,hcs,cA,hj,dite_true,and_self,hi,aa,AS.cR,hd];rfl
theorem Fk {T:TypeId}{p:Operand}(ht:sW an o=true)(ho:o.op=.load T p)(hfree:bX E an X o st=true)(h:iL E an o T p st some=some st'):cw E Γ an X o st st':=by obtain⟨T',q,d,ho',hd,hg,hmv,hmb⟩:=Bx ht;rw[ho]at ho';cases ho';obtain⟨g,e,offs,b,j,t,ep0,x,i,cs,ys,y,hT,hp,hcs,hj,hi,hX,heb,hfm,rfl⟩:=(zF ht ho hd hmv hmb).1 ⟨hfree,h⟩;refine⟨⟨[(d,.val g (cellsOf e (.own none) y))],some (b,dW cs j (.sl (.holed (some t) i (some st.ep)) e ys)),none⟩,⟨λx hx=>?_,λb' hb'=>?_,λ_ hh=>by cases hh⟩,rfl,λst2 ha=>?_⟩;simp only[bz]at hx;subst hx;simp[writes,hd];cases hb';simp only[sZ,ho,hd,hmv,ah,ht,heb];simp;have h2:=((zF (E:=E) (X:=X) (st:=st2) ht ho hd hmv hmb).2 ⟨g,e,offs,b,j,t,ep0,x,i,cs,ys,y,hT,by rw[ha.rd (λt ht=>by simpa[b8,ho]using ht)];exact hp,by rw[ha.box b hX];exact hcs,hj,hi,hX,heb,hfm,rfl⟩).2;simp only[bT,ho];rw[h2];simp only[vm,ha.ep];rfl
theorem Hm {T:TypeId}{p:Operand}(ho:o.op=.load T p)(hm:gW an o=true)(hfree:bX E an X o st=true)(h:iL E an o T p st some=some st'):cw E Γ an X o st st':=by
 cases hE:sW an o with|true=>exact Fk hE ho hfree h|false=> ?_
 have hr:∀st2,dR an X o st st2→st2.rd p=st.rd p:=λst2 ha=>ha.rd (λt ht=>by simpa[b8,ho]using ht);have htk:sY an o=false:=by simp only[gW,ho,hE,Bool.or_false]at hm;unfold sY;cases hdd:o.dst with|none=>rfl|some d=>rw[hdd]at hm;simp only[bU,aA]at hm;rcases hm with hm|hm;simp only[hm,dx];cases hmb:an.mb d with|none=>rw[hmb]at hm;cases hm|some _=>simp[hmb]
 unfold iL at h;split at h;rename_i sh s off hT hp;simp only[bX,ho,hp,ab,aA]at hfree;split at h;rename_i cs hb;split at h;rename_i hfit;split at h;rename_i d hd;have hbx:∀st2,dR an X o st st2→nth st2.boxes s=nth st.boxes s:=λst2 ha=>ha.box s hfree.1.1;cases hf:an.mv.contains d with
 |false=>simp only[hf,aD,bp]at h;cases h;refine cw.put (by rw[hd]) λst2 ha=>?_;simp only[bT,ho,iL,hT,hr st2 ha,hp,hbx st2 ha,hb,ar hfit,hd,hf,aD,bp,ha.ep]
 |true=>
  simp only[hf,aX]at h;have hmb:an.mb d=some s:=by have:=hfree.1.2;rw[hd]at this;simp only[hf,ax,cH,aM]at this;exact this
  cases h;refine⟨⟨[(d,.val sh.agg ((cs.drop off).take sh.ct.size))],some (s,bS cs off (aB st.ep ((cs.drop off).take sh.ct.size))),none⟩,⟨λx hx=>?_,λb hb'=>?_,λ_ hh=>by cases hh⟩,?_,λst2 ha=>?_⟩;simp only[bz]at hx;subst hx;simp[writes,hd];cases hb';simp only[sZ,ho,hd,hf,ah,hmb];simp;rw[yD,hd];simp only[bT,ho,iL,hT,hr st2 ha,hp,hbx st2 ha,hb,ar hfit,hd,hf,aX,ha.ep,yD]
 cases h;cases h;cases h;rename_i sh fl e x i off hT hp;rw[aq (by simp[htk])]at h;split at h;rename_i hl;split at h;rename_i hfit;cases h;refine cw.put rfl λst2 ha=>?_;simp only[bT,ho,iL,hT,hr st2 ha,hp,ha.ep,htk,aD,bp,ar hl,ar hfit];cases h;rename_i hl;have hroot:∀r t ep0,fl=.loc ep0 (some (r,t))→∀st2,dR an X o st st2→st2.cM r=st.cM r:=by rintro r t ep0 rfl st2 ha;simp only[bX,ho,hp,hE,bZ,eY,eB,ab,bU]at hfree;rcases hfree.1.1 with hq|hq;exact absurd hq hl;cases r with|slot b j=>simp only[AS.cM];rw[ha.er b (by simpa using hq)]|box b j=>simp only[AS.cM];rw[ha.box b (by simpa using hq)]|io j=>cases hq
 unfold rM at h;split at h;rename_i ep0 r t;split at h;rename_i t' e' ys hrg;split at h;rename_i he;split at h;rename_i hc;cases hi:idx (he▸ys:List _) i with|none=>rw[hi]at h;cases h|some y=>rw[hi]at h;simp only[aa]at h;cases h;refine cw.put rfl λst2 ha=>?_;simp only[bT,ho,iL,hT,hr st2 ha,hp,ha.ep,htk,aD,bp,aq hl,rM,hroot _ _ _ rfl st2 ha,hrg,dif_pos he,ar hc,hi,aa]
 cases h;cases h;cases h;cases h;cases h
theorem yJ {x:Operand}(ho:o.op=.nilCheck x)(h:bT E Γ an o st some=some st'):cw E Γ an X o st st':=by have hr:∀st2,dR an X o st st2→st2.rd x=st.rd x:=λst2 ha=>ha.rd (λt ht=>by simpa[b8,ho]using ht);simp only[bT,ho]at h;split at h;rename_i s off hx;cases h;refine cw.put rfl λst2 ha=>?_;simp only[bT,ho,hr st2 ha,hx];rename_i fl e y i off hx;cases h;refine cw.put rfl λst2 ha=>?_;simp only[bT,ho,hr st2 ha,hx];cases h
theorem zL {op:BinOp}{x y:AV}(h:(tw op x y λc=>some (st.put o.dst (.one c)))=some st'):∃v,st'=st.put o.dst v∧∀st2:AS,(tw op x y λc=>some (st2.put o.dst (.one c)))=some (st2.put o.dst v):=by have key:∀s:AS,(tw op x y λc=>some (s.put o.dst (.one c)))=(tw op x y some).bind λc=>some (s.put o.dst (.one c)):=λs=>(s6 op x y some _).symm;rw[key st]at h;cases hb:tw op x y some with|none=>rw[hb]at h;cases h|some c=>rw[hb]at h;cases h;exact⟨_,rfl,λst2=>by rw[key st2,hb];rfl⟩
theorem Bz {op:BinOp}{b:Bool}(h:(sc op b λc=>some (st.put o.dst (.one c)))=some st'):∃v,st'=st.put o.dst v∧∀st2:AS,(sc op b λc=>some (st2.put o.dst (.one c)))=some (st2.put o.dst v):=by unfold sc at h;split at h;cases h;exact⟨_,rfl,λst2=>rfl⟩;cases h;exact⟨_,rfl,λst2=>rfl⟩;cases h
theorem JP {op:BinOp}{T T':TypeId}{x y:Operand}(ho:o.op=.binOp op T x y T')(h:pT E o op T x y st some=some st'):cw E Γ an X o st st':=by
 have hr:∀st2,dR an X o st st2→st2.rd x=st.rd x∧st2.rd y=st.rd y:=λst2 ha=>
  ⟨ha.rd (λt ht=>by simp[b8,ho,ht]),ha.rd (λt ht=>by simp[b8,ho,ht])⟩
 unfold pT at h;split at h;rename_i a b hx hy;split at h;rename_i hT;obtain⟨v,rfl,hv⟩:=zL h;refine cw.put rfl λst2 ha=>?_;simp only[bT,ho,pT,(hr st2 ha).1,(hr st2 ha).2,hx,hy,ar hT];exact hv st2;cases h;rename_i xs ys hx hy;split at h;rename_i ls hq;split at h;rename_i hfit;obtain⟨v,rfl,hv⟩:=zL h;refine cw.put rfl λst2 ha=>?_;simp only[bT,ho,pT,(hr st2 ha).1,(hr st2 ha).2,hx,hy,hq,ar hfit];exact hv st2;cases h;cases h;rename_i fl e xs hx hy;split at h;rename_i hT;split at h;cases h;rename_i hlen;obtain⟨v,rfl,hv⟩:=Bz h;refine cw.put rfl λst2 ha=>?_;simp only[bT,ho,pT,(hr st2 ha).1,(hr st2 ha).2,hx,hy,ha.ep,ar hT,aq hlen];exact hv st2;cases h;rename_i hx hy;split at h;rename_i hT;obtain⟨v,rfl,hv⟩:=Bz h;refine cw.put rfl λst2 ha=>?_;simp only[bT,ho,pT,(hr st2 ha).1,(hr st2 ha).2,hx,hy,ar hT];exact hv st2;cases h;rename_i a b hn1 hn2 hn3 hn4;obtain⟨v,rfl,hv⟩:=zL h;refine cw.put rfl λst2 ha=>?_;simp only[bT,ho,pT,(hr st2 ha).1,(hr st2 ha).2];exact hv st2
theorem L5 {op:UnOp}{T:TypeId}{x:Operand}(ho:o.op=.unOp op T x)(h:(NH op (st.rd x) λc=>some (st.put o.dst (.one c)))=some st'):cw E Γ an X o st st':=by have hr:∀st2,dR an X o st st2→st2.rd x=st.rd x:=λst2 ha=>ha.rd (λt ht=>by simpa[b8,ho]using ht);have key:∀s:AS,(NH op (st.rd x) λc=>some (s.put o.dst (.one c)))=(NH op (st.rd x) some).bind λc=>some (s.put o.dst (.one c)):=λs=>(F5 op (st.rd x) some _).symm;rw[key st]at h;cases hb:NH op (st.rd x) some with|none=>rw[hb]at h;cases h|some c=>rw[hb]at h;cases h;refine cw.put rfl λst2 ha=>?_;simp only[bT,ho,hr st2 ha];rw[key st2,hb];rfl
theorem Fg {S:TypeId}{p:Operand}{f:Nat}(ho:o.op=.fieldAddr S p f)(h:pj E o S p f st some=some st'):cw E Γ an X o st st':=by have hr:∀st2,dR an X o st st2→st2.rd p=st.rd p:=λst2 ha=>ha.rd (λt ht=>by simpa[b8,ho]using ht);unfold pj at h;split at h;rename_i hT hp;split at h;rename_i hf;cases h;refine cw.put rfl λst2 ha=>?_;simp only[bT,ho,pj,hr st2 ha,hT,hp,hf];cases h;rename_i hT hp;split at h;rename_i hf;cases h;refine cw.put rfl λst2 ha=>?_;simp only[bT,ho,pj,hr st2 ha,hT,hp,hf];cases h;cases h
theorem pc {v:AV}{s:AS}(h:v.now s.ep=true):v.fresh s=v:=by
 cases v with
 |tup vs=>rfl
 |val g cs=>
  simp only[AV.now,ay]at h;simp only[AV.fresh];congr 1;have:cs.map s.fresh=cs.map id:=List.map_congr_left λc hc=>by have hn:=h c hc;unfold AS.fresh;split;simp only[AC.now]at hn;rw[hn];rfl;rfl
  rw[this,List.map_id]
theorem D6 {v:AV}{st st2:AS}(he:st2.ep=st.ep)(h:v.now st.ep=true∨∃g ep b j t e xs,v=.val g [.sl (.loc ep (some (.box b j,t))) e xs]∧nth st2.boxes b=nth st.boxes b):v.fresh st2=v.fresh st:=by rcases h with h|⟨g,ep,b,j,t,e,xs,rfl,hb⟩;rw[pc h,pc (by rw[he];exact h)];simp only[AV.fresh,cn,List.map_nil];congr 2;unfold AS.fresh;simp only[AS.cM,he,hb]
theorem xh {T:TypeId}{x i:Operand}(ho:o.op=.indexAddr T x i)(hfree:bX E an X o st=true)(h:gw E o T x i st some=some st'):cw E Γ an X o st st':=by
 have hr:∀st2,dR an X o st st2→st2.rd x=st.rd x∧st2.rd i=st.rd i:=λst2 ha=>
  ⟨ha.rd (λt ht=>by simp[b8,ho,ht]),ha.rd (λt ht=>by simp[b8,ho,ht])⟩
 have hf2:∀st2,dR an X o st st2→(st.rd x).fresh st2=(st.rd x).fresh st:=λst2 ha=>by refine D6 ha.ep ?_;simp only[bX,ho,bU]at hfree;rcases hfree with hn|hn;exact .inl hn;split at hn;rename_i g ep b j t e xs hx;exact .inr ⟨g,ep,b,j,t,e,xs,hx,ha.box b (by simpa using hn)⟩;cases hn
 unfold gw at h;split at h;rename_i e' fl e xs k n hT hx hi;split at h;rename_i hc;cases hix:idx xs n with|none=>rw[hix]at h;cases h|some y=>rw[hix]at h;cases h;refine cw.put rfl λst2 ha=>?_;have hf3:=hf2 st2 ha;rw[hx]at hf3;simp only[bT,ho,gw,(hr st2 ha).1,(hr st2 ha).2,hf3,hT,hi,ha.ep,ar hc,hix,aa]
 cases h;cases h
theorem Fh {T:TypeId}{x i:Operand}(ho:o.op=.index T x i)(h:qE E o T x i st some=some st'):cw E Γ an X o st st':=by
 have hr:∀st2,dR an X o st st2→st2.rd x=st.rd x∧st2.rd i=st.rd i:=λst2 ha=>
  ⟨ha.rd (λt ht=>by simp[b8,ho,ht]),ha.rd (λt ht=>by simp[b8,ho,ht])⟩
 unfold qE at h;split at h;rename_i s k n hx hi;split at h;rename_i hc;cases hix:idx s n with|none=>rw[hix]at h;cases h|some y=>rw[hix]at h;cases h;refine cw.put rfl λst2 ha=>?_;simp only[bT,ho,qE,(hr st2 ha).1,(hr st2 ha).2,hx,hi,ar hc,hix,aa]
 cases h;cases h
theorem cw.new {v:AV}(h:st'=(st.cW o.dst).put o.dst v)(h2:∀st2,dR an X o st st2→bT E Γ an o st2 some=some ((st2.cW o.dst).put o.dst v)):cw E Γ an X o st st':=⟨ui o v,Az v,by rw[vo];exact h,λst2 ha=>by rw[vo];exact h2 st2 ha⟩
theorem dR.ec (ha:dR an X o st st2):st2.ec o.dst=st.ec o.dst:=by funext j;cases hd:o.dst with|none=>rfl|some d=>simp only[AS.ec,(ha.dst d hd).1]
theorem uT {lo hi:Option Operand}{n:Nat}{f:AS→Int→Int→Option AS}(hs:∀st2,dR an X o st st2→lo.map st2.rd=lo.map st.rd∧hi.map st2.rd=hi.map st.rd)(h:gF st lo hi n (f st)=some st'):∃a b,f st a b=some st'∧∀st2,dR an X o st st2→gF st2 lo hi n (f st2)=f st2 a b:=by unfold gF at h;split at h;rename_i h1 h2;exact⟨_,_,h,λst2 ha=>by simp only[gF,(hs st2 ha).1,(hs st2 ha).2,h1,h2]⟩;rename_i h1 h2;exact⟨_,_,h,λst2 ha=>by simp only[gF,(hs st2 ha).1,(hs st2 ha).2,h1,h2]⟩;rename_i h1 h2;exact⟨_,_,h,λst2 ha=>by simp only[gF,(hs st2 ha).1,(hs st2 ha).2,h1,h2]⟩;rename_i h1 h2;exact⟨_,_,h,λst2 ha=>by simp only[gF,(hs st2 ha).1,(hs st2 ha).2,h1,h2]⟩;cases h
theorem Fi {T:TypeId}{x:Operand}{lo hi:Option Operand}(ho:o.op=.slice T x lo hi none)(hm:gW an o=true)(hfree:bX E an X o st=true)(h:pH E an o T x lo hi st some=some st'):cw E Γ an X o st st':=by
 have hr:∀st2,dR an X o st st2→st2.rd x=st.rd x:=λst2 ha=>ha.rd (λt ht=>by simp[b8,ho,ht]);have hb:∀st2,dR an X o st st2→lo.map st2.rd=lo.map st.rd∧hi.map st2.rd=hi.map st.rd:=by
  intro st2 ha;constructor;cases lo with|none=>rfl|some y=>simp only[bV];rw[ha.rd (λt ht=>by simp[b8,ho,WO,ht])]
  cases hi with|none=>rfl|some y=>simp only[bV];rw[ha.rd (λt ht=>by simp[b8,ho,WO,ht])]
 have hnow:(st.rd x).now st.ep=true:=by simpa[bX,ho]using hfree
 have hf2:∀st2,dR an X o st st2→(st.rd x).fresh st2=st.rd x:=λst2 ha=>pc (by rw[ha.ep];exact hnow);have htk:sY an o=false:=by simpa[gW,ho]using hm
 unfold pH at h;rw[aq (by simp[htk]),pc hnow]at h;split at h;rename_i s hx;split at h;rename_i hT;obtain⟨a,b,h1,h2⟩:=uT (f:=λs0 a b=>aa (sub s a b) λs'=>some (s0.put o.dst (.one (.str s')))) hb h;cases hsub:sub s a b with|none=>rw[hsub]at h1;cases h1|some s'=>rw[hsub]at h1;cases h1;refine cw.put rfl λst2 ha=>?_;have hf3:=hf2 st2 ha;rw[hx]at hf3;simp only[bT,ho,pH,htk,aD,bp,hr st2 ha,hx,hf3,ar hT];rw[h2 st2 ha,hsub];rfl
 cases h;rename_i fl e xs hx;split at h;rename_i hT;obtain⟨a,b,h1,h2⟩:=uT (f:=λs0 a b=>aa (sub xs a b) λxs'=>some (s0.put o.dst (.one (.sl (yR an o fl a) e xs')))) hb h;cases hsub:sub xs a b with|none=>rw[hsub]at h1;cases h1|some s'=>rw[hsub]at h1;cases h1;refine cw.put rfl λst2 ha=>?_;have hf3:=hf2 st2 ha;rw[hx]at hf3;simp only[bT,ho,pH,htk,aD,bp,hr st2 ha,hx,hf3,ha.ep,ar hT];rw[h2 st2 ha,hsub];rfl
 cases h;cases h
theorem tQ {args:List Operand}(hl:∀t,t∈Ay args→t∈b8 o)(ha:dR an X o st st2):args.map st2.rd=args.map st.rd:=by apply List.map_congr_left;intro x hx;exact ha.rd (λt ht=>hl t (by simp only[Ay,List.mem_flatMap];exact⟨x,hx,ht⟩))
theorem JR {ts:Array TypeId}{args:Array Operand}(ho:o.op=.call {callee:=.builtin .len,args,argTypes:=ts})(h:yB E o ts.toList args.toList st some=some st'):cw E Γ an X o st st':=by have hr:∀st2,dR an X o st st2→args.toList.map st2.rd=args.toList.map st.rd:=λst2 ha=>tQ (λt ht=>by simp only[b8,ho];exact ht) ha;unfold yB at h;split at h;rename_i t s hts hx;split at h;rename_i hT;cases h;refine cw.put rfl λst2 ha=>?_;simp only[bT,ho,yB,hr st2 ha,hts,hx,ar hT];cases h;rename_i t _ _ xs hts hx;split at h;rename_i hT;cases h;refine cw.put rfl λst2 ha=>?_;simp only[bT,ho,yB,hr st2 ha,hts,hx,ar hT];cases h;cases h
theorem JT {ts:Array TypeId}{args:Array Operand}(ho:o.op=.call {callee:=.builtin .min,args,argTypes:=ts})(h:Ad o args.toList st some=some st'):cw E Γ an X o st st':=by have hr:∀st2,dR an X o st st2→args.toList.map st2.rd=args.toList.map st.rd:=λst2 ha=>tQ (λt ht=>by simp only[b8,ho];exact ht) ha;unfold Ad at h;split at h;rename_i hx;cases h;refine cw.put rfl λst2 ha=>?_;simp only[bT,ho,Ad,hr st2 ha,hx];cases h
theorem JS {ts:Array TypeId}{args:Array Operand}(ho:o.op=.call {callee:=.builtin .max,args,argTypes:=ts})(h:Ac o args.toList st some=some st'):cw E Γ an X o st st':=by have hr:∀st2,dR an X o st st2→args.toList.map st2.rd=args.toList.map st.rd:=λst2 ha=>tQ (λt ht=>by simp only[b8,ho];exact ht) ha;unfold Ac at h;split at h;rename_i hx;cases h;refine cw.put rfl λst2 ha=>?_;simp only[bT,ho,Ac,hr st2 ha,hx];cases h
theorem JF {l:List Nat}{c:AC}(h:c.MB l=true)(hl:∀t∈l,st2.get t=st.get t):st2.Aa c=st.Aa c:=by
 cases c with
 |sl fl e xs=>
  cases fl with
  |loc ep pv=>cases pv with|none=>rfl|some q=>obtain⟨r,t⟩:=q;cases r with|slot b j=>have hb:st2.get b=st.get b:=hl b (by simpa[AC.MB]using h);simp only[AS.Aa,AS.cM,hb]|box _ _=>rfl|io _=>rfl
  |_=>rfl
 |_=>rfl
theorem Hd {l:List Nat}{x:Operand}(hx:u5 l st x=true)(hl:∀t∈l,st2.get t=st.get t)(h:∀t∈tm x,st2.get t=st.get t):qj st2 x=qj st x∧qS st2 x=qS st x:=by
 cases x with
 |tmp t=>have ht:=h t (by simp[tm]);simp only[u5]at hx;cases hg:st.get t with|tup vs=>exact⟨by simp only[qj,ht,hg],by simp only[qS,ht,hg]⟩|val g cs=>rw[hg]at hx;have hm:cs.map st2.Aa=cs.map st.Aa:=List.map_congr_left λc hc=>JF (ay.1 hx c hc) hl;exact⟨by simp only[qj,ht,hg,hm],by simp only[qS,ht,hg,hm]⟩
 |const v=>exact⟨rfl,rfl⟩
 |func f=>exact⟨rfl,rfl⟩
 |global g=>exact⟨rfl,rfl⟩
theorem Ae {f:Operand}{ts:Array TypeId}{args:Array Operand}(ho:o.op=.call {callee:=.value f,args,argTypes:=ts})(hfree:bX E an X o st=true){k:Nat}(hf:st.rd f=.val false [.fn k])(hbx:(Γ k).bx=true)(hcur:(Γ k).cur=true)(h:md Γ o k args.toList st some=some st'):cw E Γ an X o st st':=by
 unfold md at h;split at h;rename_i x0 xs hargs;split at h;rename_i s hx0;have hfr:la an X (KQ an o) st (x0::xs)=true:=by have h1:=hfree;simp only[bX,ho,ab]at h1;rw[←hargs];exact h1.1
 have hx1:∃q,x0=.tmp q∧X.contains s=false∧an.sb q=some s∧(match (nth st.boxes s).getD none with|some cs=>cs.all AC.ur|none=>true)=true∧xs.all (u5 (KQ an o) st)=true:=by cases x0 with|tmp q=>simp only[la,hx0,Lf,ab,aA,aM]at hfr;exact⟨q,rfl,hfr.1.1.1,hfr.1.1.2,hfr.1.2,hfr.2⟩|const v=>simp only[la,hx0,AV.IB]at hfr;cases hfr|func v=>simp only[la,hx0,AV.IB]at hfr;cases hfr|global v=>simp only[la,hx0,AV.IB]at hfr;cases hfr
 obtain⟨q,rfl,hX,hsb,hall,hself⟩:=hx1;split at h;rename_i cs hb0;rw[hb0]at hall;simp only at hall;cases hc:(cs.all (AC.oy (rX cs))&&xs.all (qS st))with
 |false=>rw[hc]at h;cases h
 |true=>
  rw[hc]at h;simp only[ah]at h;cases hres:(Γ k).fn (.val true (cs.map AC.C3)::xs.map (qj st))with
  |none=>rw[hres]at h;cases h
  |some y=>
   rw[hres]at h;simp only[aa]at h;cases hc2:(((Γ k).back y).all (AC.oy true)&&((Γ k).av y).JW)with
   |false=>rw[hc2]at h;cases h
   |true=>
    rw[hc2]at h;simp only[ah,hcur,hall,df,aH]at h;subst h;refine⟨⟨o.dst.toList.map λd=>(d,((Γ k).av y).rY st.ep (st.ec o.dst)),some (s,iY (rX cs) (λ_=>none) 0 ((Γ k).back y)),o.dst⟩,⟨λx hx=>?_,λb hb=>?_,λd hd=>hd⟩,?_,λst2 ha=>?_⟩;simp only[List.mem_map]at hx;obtain⟨d,hd,rfl⟩:=hx;simp[writes,hd];cases hb;simp[sZ,ho,hargs,hsb];unfold vt.apply AS.put AS.cW AS.cC;cases o.dst<;>rfl;have e1:st2.rd f=st.rd f:=ha.rd (λt ht=>by simp[b8,ho,ht]);have hl:∀x∈Operand.tmp q::xs,∀t∈tm x,t∈b8 o:=by intro x hx t ht;simp only[b8,ho,al,Ay,List.mem_flatMap,hargs];exact .inr ⟨x,hx,ht⟩
    have e2:st2.rd (.tmp q)=st.rd (.tmp q):=ha.rd (hl _ (by simp));have e3:nth st2.boxes s=nth st.boxes s:=ha.box s hX;have e4:∀x∈xs,qj st2 x=qj st x∧qS st2 x=qS st x:=λx hx=>Hd (ay.1 hself x hx) ha.er λt ht=>ha.get t (hl x (by simp[hx]) t ht);have e5:xs.map (qj st2)=xs.map (qj st):=List.map_congr_left λx hx=>(e4 x hx).1;have e6:xs.all (qS st2)=xs.all (qS st):=by rw[bE];simp only[ay];exact⟨λg x hx=>by rw[←(e4 x hx).2];exact g x hx,λg x hx=>by rw[(e4 x hx).2];exact g x hx⟩
    simp only[bT,ho,sa,e1,hf,hbx,ah,md,hargs,e2,hx0,e3,hb0,e5,e6,hc,hres,aa,hc2,hcur,hall,df,ha.ep,ha.ec];unfold vt.apply AS.put AS.cW AS.cC;cases o.dst<;>rfl
 cases h;cases h;cases h
theorem Hl (hΓ:∀f,(Γ f).io=false∧((Γ f).bx=true→(Γ f).cur=true)∧(Γ f).pr=false){f:Operand}{ts:Array TypeId}{args:Array Operand}(ho:o.op=.call {callee:=.value f,args,argTypes:=ts})(hfree:bX E an X o st=true)(h:sa Γ o f args.toList st some=some st'):cw E Γ an X o st st':=by
 have hr:∀st2,dR an X o st st2→st2.rd f=st.rd f∧(args.toList.map λx=>((st2.rd x).fresh st2).asArg st2.ep)=args.toList.map λx=>((st.rd x).fresh st).asArg st.ep:=by
  intro st2 ha;refine⟨ha.rd (λt ht=>by simp[b8,ho,ht]),?_⟩;apply List.map_congr_left;intro x hx;have hnow:(st.rd x).now st.ep=true:=by simp only[bX,ho,ab,ay]at hfree;exact hfree.2 x hx
  rw[ha.rd (λt ht=>by simp only[b8,ho,al,Ay,List.mem_flatMap];exact .inr ⟨x,hx,ht⟩),pc hnow,pc (s:=st2) (by rw[ha.ep];exact hnow),ha.ep]
 unfold sa at h;split at h
 ·rename_i k hf
  cases hbx:(Γ k).bx with
  |true=>rw[hbx]at h;exact Ae ho hfree hf hbx ((hΓ k).2.1 hbx) h
  |false=>
  rw[hbx,(hΓ k).2.2,(hΓ k).1]at h
  simp only[ak]at h
  cases hg:(Γ k).fn (args.toList.map λx=>((st.rd x).fresh st).asArg st.ep)with
  |none=>rw[hg]at h;cases h
  |some y=>
   rw[hg]at h
   simp only[aa]at h
   cases hsel:(Γ k).sel y with
   |true=>
    rw[hsel]at h
    cases h
    refine cw.new rfl λst2 ha=>?_
    simp only[bT,ho,sa,(hr st2 ha).1,hf,(hΓ k).1,hbx,(hΓ k).2.2,ak]
    rw[(hr st2 ha).2,hg]
    simp only[aa,hsel,ah,ha.ep,ha.ec]
   |false=>
    rw[hsel]at h
    cases h
    refine cw.new rfl λst2 ha=>?_
    simp only[bT,ho,sa,(hr st2 ha).1,hf,(hΓ k).1,hbx,(hΓ k).2.2,ak]
    rw[(hr st2 ha).2,hg]
    simp only[aa,hsel,ak,ha.ep,ha.ec]
 cases h
theorem Af {src dst:TypeId}{x:Operand}(ho:o.op=.convert src dst x)(h:fY E o src dst x st some=some st'):cw E Γ an X o st st':=by
 have hr:∀st2,dR an X o st st2→st2.rd x=st.rd x:=λst2 ha=>ha.rd (λt ht=>by simpa[b8,ho]using ht);unfold fY at h;split at h;rename_i h1 h2 h3;cases h;refine cw.put rfl λst2 ha=>?_;simp only[bT,ho,fY,hr st2 ha,h1,h2,h3];rename_i h1 h2 h3;cases h;refine cw.put rfl λst2 ha=>?_;simp only[bT,ho,fY,hr st2 ha,h1,h2,h3];rename_i offs val s hno h1 h2 h3;split at h;rename_i hb;unfold room at h;split at h;rename_i hrm;cases h;refine cw.new (v:=.one (.sl (.own (st.ec o.dst 0)) (.int .u8) (c8 s))) rfl λst2 ha=>?_;have hval:∀k:AS→Option AS,fY E o src dst x st2 k=if E.bytes dst then room s.length (k (st2.ji o.dst (.int .u8) (c8 s))) else none:=by intro k;unfold fY;rw[hr st2 ha,h1,h2,h3];obtain⟨ag,ct,of⟩:=val;cases ag with|true=>rfl|false=>cases ct with|str=>exact(hno _ rfl).elim|_=>rfl
 simp only[bT,ho];rw[hval,ar hb,room,ar hrm,AS.ji,ha.ec];cases h;cases h;rename_i val offs fl xs h1 h2 h3;split at h;rename_i hb;cases h;refine cw.put rfl λst2 ha=>?_;have hval:∀k:AS→Option AS,fY E o src dst x st2 k=if E.bytes src∧fl.live st2.ep then k (st2.put o.dst (.one (.str (bytesOf xs)))) else none:=by intro k;unfold fY;rw[hr st2 ha,h1,h2,h3];obtain⟨ag,ct,of⟩:=val;cases ag with|true=>rfl|false=>cases ct<;>rfl
 simp only[bT,ho];rw[hval,ha.ep,ar hb];cases h;cases h
theorem wk {d:Nat}{cs:List AC}{v:AV}:(⟨[(d,v)],some (d,cs),none⟩:vt).apply st=(st.cC d (some cs)).put (some d) v:=rfl
theorem Fe {T:TypeId}(ho:o.op=.alloc T)(h:rh E o T st some=some st'):cw E Γ an X o st st':=by unfold rh at h;split at h;rename_i d sh hd hT;split at h;rename_i hb;cases h;refine⟨⟨[(d,.one (.ptr d 0))],some (d,cellsOf sh.ct (.own none) sh.ct.zero),none⟩,⟨λx hx=>?_,λb hb'=>?_,λ_ hh=>by cases hh⟩,?_,λst2 ha=>?_⟩;simp only[bz]at hx;subst hx;simp[writes,hd];cases hb';simp[sZ,ho,hd];rw[wk,hd];simp only[bT,ho,rh,hd,hT,(ha.dst d hd).2,hb,wk];cases h;cases h
def ik (st:AS):Operand→List (Nat×AV)
 | .tmp t=>[(t,(st.get t).aB st.ep)]
 |_=>[]
theorem qG (l:List AV)(a b:List (Nat×AV)):fe l (a++b)=fe (fe l a) b:=by induction a generalizing l with|nil=>rfl|cons x a ih=>exact ih _
def AS.eT (st:AS)(l:List (Nat×AV)):AS:={st with slots:=fe st.slots l}
theorem Wx:st.eT []=st:=rfl
theorem jQ (a b:List (Nat×AV)):st.eT (a++b)=(st.eT a).eT b:=by simp only[AS.eT,qG]
theorem Ww (d:Nat)(v:AV):st.put (some d) v=st.eT [(d,v)]:=rfl
theorem qZ (x:Operand):(st.take x).2=st.eT (ik st x):=by cases x<;>rfl
theorem rQ {x:Operand}(hep:st2.ep=st.ep)(h:∀t∈tm x,st2.get t=st.get t):(st2.take x).1=(st.take x).1∧(st2.take x).2=st2.eT (ik st x):=by cases x with|tmp t=>have:=h t (by simp[tm]);refine⟨this,?_⟩;rw[qZ];simp only[ik,this,hep]|const v=>exact⟨rfl,rfl⟩|func f=>exact⟨rfl,rfl⟩|global g=>exact⟨rfl,rfl⟩
theorem vn {x:Operand}:∀y∈ik st x,y.1∈tm x:=by cases x<;>simp[ik,tm]
theorem Hn {x:Operand}(ho:o.op=.move x)(h:qW an o x st some=some st'):cw E Γ an X o st st':=by
 unfold qW at h;cases hd:o.dst with
 |none=>rw[hd]at h;cases h
 |some d=>
  rw[hd]at h;cases hf:an.mv.contains d with
  |false=>simp only[hf,aD,bp]at h;cases h;refine cw.put (v:=st.rd x) (by rw[hd]) λst2 ha=>?_;have hr:st2.rd x=st.rd x:=ha.rd (λt ht=>by simpa[b8,ho]using ht);simp only[bT,ho,qW,hd,hf,aD,bp,hr]
  |true=>
   simp only[hf,aX]at h;cases h;have hr:∀st2,dR an X o st st2→(st2.take x).1=(st.take x).1∧(st2.take x).2=st2.eT (ik st x):=λst2 ha=>rQ ha.ep λt ht=>ha.get t (by simpa[b8,ho]using ht);refine⟨⟨ik st x++[(d,(st.take x).1)],none,none⟩,⟨λy hy=>?_,λ_ hh=>(by cases hh),λ_ hh=>(by cases hh)⟩,?_,λst2 ha=>?_⟩;rcases al.1 hy with hy|hy;have:=vn y hy;have hf':d∈an.mv:=by simpa using hf
   simp[writes,sX,ho,hd,hf',b8,this];simp only[bz]at hy;subst hy;simp[writes,hd];rw[qZ];show _=st.eT _;rw[jQ];rfl;simp only[bT,ho,qW,hd,hf,aX,(hr st2 ha).1,(hr st2 ha).2];show some ((st2.eT (ik st x)).put (some d) (st.take x).1)=some (st2.eT _);rw[jQ];rfl
theorem D0 {ep:Nat}{cs:List AC}(h:cs.all AC.dF=true):aB ep cs=cs:=by
 rw[ay]at h;unfold aB;have:cs.map (AC.borrow ep none)=cs.map id:=List.map_congr_left λc hc=>by have:=h c hc;cases c<;>first|rfl|(simp[AC.dF]at this)
 rw[this,List.map_id]
theorem OG {s:AS}{t:Nat}{vs:List (Bool×List AC)}(h:s.get t=.tup vs):s.put (some t) (.tup vs)=s:=by cases s with|mk slots boxes ep iss io=>simp only[AS.put,AS.mk.injEq,dY];rw[cS];apply List.ext_getElem?;intro i;rw[List.getElem?_set];split;rename_i hd;subst hd;simp only[AS.get,cf]at h;split;rename_i hlt;rw[List.getElem?_eq_getElem hlt]at h⊢;simp only[dv]at h;rw[h];rename_i hge;rw[List.getElem?_eq_none (Nat.le_of_not_lt hge)];rfl
theorem Ag {t i:Nat}(ho:o.op=.extract (.tmp t) i)(hfree:bX E an X o st=true)(h:gb o t i st some=some st'):cw E Γ an X o st st':=by
 have hr:∀st2,dR an X o st st2→st2.get t=st.get t:=λst2 ha=>ha.get t (by simp[b8,ho]);unfold gb at h;simp only[bX,ho]at hfree;split at h
 ·rename_i vs hv;rw[hv]at hfree;split at h
  ·rename_i g cs hn;simp only[hn]at hfree;have hfl:cs.all AC.dF=true∨∃d,o.dst=some d∧an.mv.contains d=true:=by cases hd:o.dst with|none=>simp only[hd,Bool.or_false]at hfree;exact .inl hfree|some d=>simp only[hd,bU]at hfree;rcases hfree with h|h;exact .inl h;exact .inr ⟨d,rfl,h⟩
   rcases hfl with hfree|⟨d,hd,hmv⟩;rotate_left;cases h;refine⟨⟨[(t,.tup (dW vs i (g,aB 0 cs))),(d,.val g cs)],none,none⟩,⟨λx hx=>?_,(λ_ hb=>by cases hb),(λ_ hh=>by cases hh)⟩,?_,λst2 ha=>?_⟩;simp only[bg,List.not_mem_nil,or_false]at hx;rcases hx with rfl|rfl;simp only[writes,sX,ho,hd,hmv,ah,b8];simp;simp only[writes,hd];simp;rw[hd];rfl;have h2:st2.get t=.tup vs:=by rw[hr st2 ha,hv]
   simp only[bT,ho,gb,h2,hn,hd];rfl;skip;have hset:dW vs i (g,cs)=vs:=by rw[cS];rw[cf]at hn;apply List.ext_getElem?;intro k;rw[List.getElem?_set];split;rename_i hk;subst hk;obtain⟨hl,he⟩:=List.getElem?_eq_some_iff.1 hn;rw[ar hl,hn];rfl
   have key:∀s:AS,s.get t=.tup vs→(s.put (some t) (.tup (dW vs i (g,aB 0 cs))))=s:=λs hs=>by rw[D0 hfree,hset,OG hs]
   rw[key st hv]at h;cases h;refine cw.put rfl λst2 ha=>?_;have h2:st2.get t=.tup vs:=by rw[hr st2 ha,hv]
   simp only[bT,ho,gb,h2,hn];rw[key st2 h2]
  cases h
 cases h
def o5 (st:AS):Operand→List (Nat×AV)
 | .tmp t=>[(t,(st.get t).aB st.ep)]
 |_=>[]
theorem zI (st:AS)(x:Operand):(st.take x).2=⟨fe st.slots (o5 st x),st.boxes,st.ep,st.iss,st.io⟩:=by cases x<;>rfl
theorem Fj {T:TypeId}{pp:Nat}{x:Operand}(ho:o.op=.store T (.tmp pp) x)(hd:o.dst=none)(hm:gW an o=true)(hfree:bX E an X o st=true)(h:nu E T (.tmp pp) x st some=some st'):cw E Γ an X o st st':=by
 have hr:∀st2,dR an X o st st2→st2.rd (.tmp pp)=st.rd (.tmp pp):=λst2 ha=>ha.rd (λt ht=>by simp only[b8,ho,al];exact .inl ht);have hsb:(an.sb pp).isNone=false:=by simp only[gW,ho,ab]at hm;cases hb:an.sb pp with|none=>rw[hb]at hm;cases hm.1|some _=>rfl
 simp only[bX,ho,hsb,dx,cH]at hfree;unfold nu at h;split at h;rename_i sh s off hT hp;rw[hp]at hfree;simp only[ab,aA,aM]at hfree;split at h;rename_i gg vs st1 htk;have htk1:(st.take x).1=.val gg vs:=by rw[htk]
 have hst1:st1=⟨fe st.slots (o5 st x),st.boxes,st.ep,st.iss,st.io⟩:=by rw[←zI,htk]
 split at h;rename_i cs hb;split at h;rename_i hlen;split at h;rename_i hfit;cases h;have hbx:∀st2,dR an X o st st2→nth st2.boxes s=nth st.boxes s:=λst2 ha=>ha.box s hfree.1;refine⟨⟨o5 st x,some (s,bS cs off vs),none⟩,⟨λy hy=>?_,λb hb'=>?_,λ_ hh=>by cases hh⟩,?_,λst2 ha=>?_⟩;cases x with|tmp t=>simp only[o5,bz]at hy;subst hy;simp only[writes,sX,ho,ah,b8,hd];simp[tm]|_=>simp[o5]at hy
 cases hb';simp only[sZ,ho,hfree.2];simp;rw[hst1];rfl;have hx2:(st2.take x).1=(st.take x).1∧o5 st2 x=o5 st x:=by cases x with|tmp t=>have hg:st2.get t=st.get t:=ha.get t (by simp[b8,ho,tm]);simp only[AS.take,o5,hg,ha.ep];simp|const v=>exact⟨rfl,rfl⟩|func f=>exact⟨rfl,rfl⟩|global g=>exact⟨rfl,rfl⟩
 have ht2:st2.take x=(.val gg vs,⟨fe st2.slots (o5 st x),st2.boxes,st2.ep,st2.iss,st2.io⟩):=by rw[←hx2.2,←zI,←htk1,←hx2.1]
 have hb2:(nth st2.boxes s).getD none=some cs:=by rw[hbx st2 ha];rw[hst1]at hb;exact hb
 have hlate:pz an o=false:=by simp only[gW,ho,ab,aA]at hm;exact hm.2
 simp only[bT,ho,hd,hlate,aD,bp,nu,hT,hr st2 ha,hp,ht2,hb2,ar hlen,ar hfit];rfl;cases h;cases h;cases h;cases h;rename_i r _ _ _ _ _ _ hp;rw[hp]at hfree;cases r<;>simp at hfree;cases h
theorem CF {x:Operand}(ho:o.op=.assign x)(hm:gW an o=true)(h:mc E an o x st some=some st'):cw E Γ an X o st st':=by
 have hr:∀st2,dR an X o st st2→(st2.take x).1=(st.take x).1∧(st2.take x).2=st2.eT (ik st x):=λst2 ha=>rQ ha.ep λt ht=>ha.get t (by simpa[b8,ho]using ht);have hlate:pz an o=false:=by simpa[gW,ho]using hm
 unfold mc at h;split at h;rename_i st1 htk;split at h;rename_i e hT;cases h;refine cw.put rfl λst2 ha=>?_;have h2:st2.take x=(.val false [.nilsl],st2.eT (ik st x)):=Prod.ext (by rw[(hr st2 ha).1,htk]) (hr st2 ha).2;simp only[bT,ho,mc,hlate,aD,bp,h2,hT];cases h;rename_i v st1 hno htk;cases h;have hst1:st1=st.eT (ik st x):=by rw[←qZ,htk]
 refine⟨⟨ik st x++o.dst.toList.map λd=>(d,v),none,none⟩,⟨λy hy=>?_,λ_ hh=>(by cases hh),λ_ hh=>(by cases hh)⟩,?_,λst2 ha=>?_⟩;rcases al.1 hy with hy|hy;have:=vn y hy;simp[writes,sX,ho,b8,this];obtain⟨d,hd,rfl⟩:=List.mem_map.1 hy;simp[writes,hd];rw[hst1];show _=st.eT _;rw[jQ];cases o.dst<;>rfl;have h2:st2.take x=(v,st2.eT (ik st x)):=Prod.ext (by rw[(hr st2 ha).1,htk]) (hr st2 ha).2;simp only[bT,ho,mc,hlate,aD,bp,h2];show some ((st2.eT (ik st x)).put o.dst v)=some (st2.eT _);rw[jQ];cases o.dst<;>rfl
theorem eS {α:Type}(l:List α)(i:Nat)(v:α)(t:Nat):nth (dW l i v) t=if i=t then(if i<l.length then some v else none) else nth l t:=by rw[cf,cS,cf,List.getElem?_set]
theorem yV (l:List AV)(a:List (Nat×AV)):(fe l a).length=l.length:=by induction a generalizing l with|nil=>rfl|cons x a ih=>rw[fe,ih,cS,aG]
theorem HA {l l2:List AV}(a:List (Nat×AV))(hl:l2.length=l.length)(t:Nat)(h:nth l2 t=nth l t):nth (fe l2 a) t=nth (fe l a) t:=by induction a generalizing l l2 with|nil=>exact h|cons x a ih=>refine ih (by rw[cS,cS,aG,aG,hl]) ?_;rw[eS,eS,hl,h]
theorem Ht {t:Nat}(h:st2.get t=st.get t)(hl:st2.slots.length=st.slots.length):nth st2.slots t=nth st.slots t:=by unfold AS.get at h;rw[cf,cf]at h⊢;rcases bl t st.slots.length with hlt|hge;rw[List.getElem?_eq_getElem hlt,List.getElem?_eq_getElem (by omega)]at h⊢;simpa using h;rw[List.getElem?_eq_none hge,List.getElem?_eq_none (by omega)]
def eX (st:AS):List Operand→List (Nat×AV)
 |[]=>[]
 |x::xs=>ik st x++eX (st.eT (ik st x)) xs
theorem pP:∀(xs:List Operand)(st:AS),∀y∈eX st xs,y.1∈Ay xs
 |[],_,y,hy=>by cases hy
 |x::xs,st,y,hy=>by simp only[Ay,List.flatMap_cons,al];rcases al.1 hy with hy|hy;exact .inl (vn y hy);exact .inr (pP xs _ y hy)
theorem qH:∀(xs:List Operand)(st st2:AS),st2.ep=st.ep→st2.slots.length=st.slots.length→(∀t∈Ay xs,nth st2.slots t=nth st.slots t)→
 (cO st2 xs).1=(cO st xs).1∧(cO st2 xs).2=st2.eT (eX st xs)
 |[],st,st2,_,_,_=>⟨rfl,rfl⟩
 |x::xs,st,st2,hep,hl,hg=>by
  have hx:∀t∈tm x,st2.get t=st.get t:=λt ht=>by unfold AS.get;rw[hg t (by simp[Ay,ht])]
  obtain⟨h1,h2⟩:=rQ (st:=st) (st2:=st2) hep hx;have h3:=qZ (st:=st) x;obtain⟨k1,k2⟩:=qH xs (st.eT (ik st x)) (st2.eT (ik st x)) hep (by simp only[AS.eT,yV,hl]) (λt ht=>HA _ hl t (hg t (by simp only[Ay,List.flatMap_cons,al];exact .inr ht)));have e1:cO st (x::xs)=((st.take x).1::(cO (st.take x).2 xs).1,(cO (st.take x).2 xs).2):=rfl;have e2:cO st2 (x::xs)=((st2.take x).1::(cO (st2.take x).2 xs).1,(cO (st2.take x).2 xs).2):=rfl;rw[e1,e2,h1,h2,h3];refine⟨by rw[k1],?_⟩;show(cO (st2.eT (ik st x)) xs).2=_;rw[k2,eX,jQ]
theorem rP (xs:List Operand):(cO st xs).2=st.eT (eX st xs):=(qH xs st st rfl rfl (λ_ _=>rfl)).2
theorem dR.cO (ha:dR an X o st st2){xs:List Operand}(hx:∀t∈Ay xs,t∈b8 o):(cO st2 xs).1=(Dn.cO st xs).1∧(Dn.cO st2 xs).2=st2.eT (eX st xs):=qH xs st st2 ha.ep ha.len λt ht=>Ht (ha.get t (hx t ht)) ha.len
theorem Ff {T:TypeId}{parts:Array (Nat×Operand)}(ho:o.op=.build T parts)(h:qw E o T parts.toList st some=some st'):cw E Γ an X o st st':=by
 have hl:∀t∈Ay (parts.toList.map (·.2)),t∈b8 o:=λt ht=>by simp only[b8,ho];exact ht
 unfold qw at h;split at h;rename_i ct offs hT;split at h;rename_i vs st1 htk;have hst1:st1=st.eT (eX st (parts.toList.map (·.2))):=by rw[←rP,htk]
 split at h;rename_i cs hb;cases h;refine⟨⟨eX st (parts.toList.map (·.2))++o.dst.toList.map λd=>(d,.val true cs),none,none⟩,⟨λy hy=>?_,λ_ hh=>(by cases hh),λ_ hh=>(by cases hh)⟩,?_,λst2 ha=>?_⟩;rcases al.1 hy with hy|hy;have:=hl _ (pP _ _ y hy);simp[writes,sX,ho,this];obtain⟨d,hd,rfl⟩:=List.mem_map.1 hy;simp[writes,hd];rw[hst1];show _=st.eT _;rw[jQ];cases o.dst<;>rfl;obtain⟨k1,k2⟩:=ha.cO hl;have h2:cO st2 (parts.toList.map (·.2))=(vs,st2.eT (eX st (parts.toList.map (·.2)))):=Prod.ext (by rw[k1,htk]) k2;simp only[bT,ho,qw,hT,h2,hb];show some ((st2.eT _).put o.dst _)=some (st2.eT _);rw[jQ];cases o.dst<;>rfl;cases h;cases h
theorem cw.SB {tl:List (Nat×AV)}{v:AV}(ht:sX an o=true)(hl:∀y∈tl,y.1∈b8 o)(h:st'=((st.eT tl).cW o.dst).put o.dst v)(h2:∀st2,dR an X o st st2→bT E Γ an o st2 some=some (((st2.eT tl).cW o.dst).put o.dst v)):cw E Γ an X o st st':=by
 have key:∀s:AS,(⟨tl++o.dst.toList.map λd=>(d,v),none,o.dst⟩:vt).apply s=((s.eT tl).cW o.dst).put o.dst v:=by intro s;cases o.dst with|none=>simp only[vt.apply,Option.toList,List.map_nil,aU,AS.eT,AS.cW,AS.put]|some d=>simp only[vt.apply,Option.toList,cn,List.map_nil,qG,AS.eT,AS.cW,AS.put,fe]
 refine⟨⟨tl++o.dst.toList.map λd=>(d,v),none,o.dst⟩,⟨λy hy=>?_,λ_ hh=>(by cases hh),λd hh=>hh⟩,by rw[key];exact h,λst2 ha=>by rw[key];exact h2 st2 ha⟩;rcases al.1 hy with hy|hy;simp[writes,ht,hl y hy];obtain⟨d,hd,rfl⟩:=List.mem_map.1 hy;simp[writes,hd]
theorem pe {tl:List (Nat×AV)}{d:Option Nat}:(st.eT tl).ec d=st.ec d:=rfl
theorem vP {T:TypeId}{len:Nat}{parts:Array (Nat×Operand)}(ho:o.op=.buildSlice T len parts)(h:fW E o T len parts.toList st some=some st'):cw E Γ an X o st st':=by
 have hl:∀t∈Ay (parts.toList.map (·.2)),t∈b8 o:=λt ht=>by simp only[b8,ho];exact ht
 unfold fW at h;split at h;rename_i e hT;split at h;rename_i hc;split at h;rename_i vs st1 htk;have hst1:st1=st.eT (eX st (parts.toList.map (·.2))):=by rw[←rP,htk]
 split at h;rename_i xs hb;cases h;refine cw.SB (tl:=eX st (parts.toList.map (·.2))) (v:=.one (.sl (.own (st.ec o.dst 0)) e xs)) (by simp[sX,ho]) (λy hy=>hl _ (pP _ _ y hy)) ?_ λst2 ha=>?_;rw[hst1,AS.ji,pe];obtain⟨k1,k2⟩:=ha.cO hl;have h2:cO st2 (parts.toList.map (·.2))=(vs,st2.eT (eX st (parts.toList.map (·.2)))):=Prod.ext (by rw[k1,htk]) k2;simp only[bT,ho,fW,hT,h2,hb,ar hc];rw[AS.ji,pe,ha.ec];cases h;cases h;cases h
theorem xi {T:TypeId}{n c:Operand}(ho:o.op=.makeSlice T n c)(h:iy E o T n c st some=some st'):cw E Γ an X o st st':=by
 have hr:∀st2,dR an X o st st2→st2.rd n=st.rd n∧st2.rd c=st.rd c:=λst2 ha=>
  ⟨ha.rd (λt ht=>by simp[b8,ho,ht]),ha.rd (λt ht=>by simp[b8,ho,ht])⟩
 unfold iy at h;split at h;rename_i e len cap hT hn hc;split at h;rename_i hlc;unfold room at h;split at h;rename_i hrm;cases h;refine cw.new (v:=.one (.sl (.own (st.ec o.dst 0)) e (List.replicate len.toNat e.zero))) rfl λst2 ha=>?_;simp only[bT,ho,iy,(hr st2 ha).1,(hr st2 ha).2,hT,hn,hc,ar hlc,room,ar hrm,AS.ji,ha.ec];cases h;cases h;cases h
theorem CE {ts:Array TypeId}{args:Array Operand}(ho:o.op=.call {callee:=.builtin .append,args,argTypes:=ts})(h:nz E o ts.toList args.toList st some=some st'):cw E Γ an X o st st':=by
 have hlk:∀t∈Ay args.toList,t∈b8 o:=λt ht=>by simp only[b8,ho];exact ht
 unfold nz at h;split at h;rename_i t t' s x hts hargs;have hl:∀u∈Ay [s,x],u∈b8 o:=by rw[←hargs];exact hlk
 have hboth:∀st2,dR an X o st st2→(st2.take s).1=(st.take s).1∧((st2.take s).2.take x).1=((st.take s).2.take x).1∧((st2.take s).2.take x).2=st2.eT (eX st [s,x]):=by intro st2 ha;obtain⟨k1,k2⟩:=ha.cO hl;simp only[Dn.cO,List.cons.injEq,dY]at k1 k2;exact⟨k1.1,k1.2,k2⟩
 have hself:((st.take s).2.take x).2=st.eT (eX st [s,x]):=rP (st:=st) [s,x];split at h;rename_i tag e xs st1 htk1;split at h;rename_i fl e' ys st1' htk2;split at h;rename_i he;subst he;split at h;rename_i hc;unfold room at h;split at h;rename_i hrm;cases h;have hst1:(st.take s).2=st1:=by rw[htk1]
 have hst2:st1'=st.eT (eX st [s,x]):=by rw[←hself,hst1,htk2]
 refine cw.SB (tl:=eX st [s,x]) (v:=.one (.sl (.own (st.ec o.dst 0)) e' (xs++ys))) (by simp[sX,ho]) (λy hy=>hl _ (pP _ _ y hy)) ?_ λst2 ha=>?_;rw[hst2,AS.ji,pe];obtain⟨k1,k2,k3⟩:=hboth st2 ha;have e1:st2.take s=(.val false [.sl (.own tag) e' xs],(st2.take s).2):=Prod.ext (by rw[k1,htk1]) rfl;have e2:(st2.take s).2.take x=(.val false [.sl fl e' ys],st2.eT (eX st [s,x])):=Prod.ext (by rw[k2,hst1,htk2]) k3;simp only[bT,ho,nz,hts,hargs];rw[e1];simp only;rw[e2];simp only[dite_true,ha.ep,ar hc,room,ar hrm,AS.ji,pe,ha.ec];cases h;cases h;cases h;rename_i sx st1' htk2;split at h;rename_i he;subst he;split at h;rename_i hc;unfold room at h;split at h;rename_i hrm;cases h;have hst1:(st.take s).2=st1:=by rw[htk1]
 have hst2:st1'=st.eT (eX st [s,x]):=by rw[←hself,hst1,htk2]
 refine cw.SB (tl:=eX st [s,x]) (v:=.one (.sl (.own (st.ec o.dst 0)) (.int .u8) (xs++c8 sx))) (by simp[sX,ho]) (λy hy=>hl _ (pP _ _ y hy)) ?_ λst2 ha=>?_;rw[hst2,AS.ji,pe];obtain⟨k1,k2,k3⟩:=hboth st2 ha;have e1:st2.take s=(.val false [.sl (.own tag) (.int .u8) xs],(st2.take s).2):=Prod.ext (by rw[k1,htk1]) rfl;have e2:(st2.take s).2.take x=(.val false [.str sx],st2.eT (eX st [s,x])):=Prod.ext (by rw[k2,hst1,htk2]) k3;simp only[bT,ho,nz,hts,hargs];rw[e1];simp only;rw[e2];simp only[dite_true,ar hc,room,ar hrm,AS.ji,pe,ha.ec];cases h;cases h;cases h;cases h;cases h;cases h
theorem JQ {T:TypeId}{x:Operand}(ho:o.op=.box T x)(h:BI o x st some=some st'):cw E Γ an X o st st':=by
 have hr:∀st2,dR an X o st st2→(st2.take x).1=(st.take x).1∧(st2.take x).2=st2.eT (ik st x):=λst2 ha=>rQ ha.ep λt ht=>ha.get t (by simpa[b8,ho]using ht);unfold BI at h;split at h;rename_i d g cs st1 hd htk;have hst1:st1=st.eT (ik st x):=by rw[←qZ,htk]
 split at h;rename_i hb;split at h;rename_i hs;cases h;have hb0:nth st.boxes d=some none:=by rw[hst1]at hb;exact hb
 have key:∀s:AS,(⟨ik st x++[(d,.one (.ptr d 0))],some (d,cs),none⟩:vt).apply s=((s.eT (ik st x)).cC d (some cs)).put (some d) (.one (.ptr d 0)):=by intro s;simp only[vt.apply,qG,AS.eT,AS.cC,AS.put,fe]
 refine⟨⟨ik st x++[(d,.one (.ptr d 0))],some (d,cs),none⟩,⟨λy hy=>?_,λb hb'=>?_,λ_ hh=>(by cases hh)⟩,?_,λst2 ha=>?_⟩;rcases al.1 hy with hy|hy;have:=vn y hy;simp[writes,sX,ho,b8,this];simp only[bz]at hy;subst hy;simp[writes,hd];cases hb';simp[sZ,ho,hd];rw[key,hst1,hd];have h2:st2.take x=(.val g cs,st2.eT (ik st x)):=Prod.ext (by rw[(hr st2 ha).1,htk]) (hr st2 ha).2;have hb2:nth (st2.eT (ik st x)).boxes d=some none:=by show nth st2.boxes d=_;rw[(ha.dst d hd).2];exact hb0
 simp only[bT,ho,BI,hd,h2,hb2,ar hs,key];cases h;cases h;cases h
theorem zB (hΓ:∀f,(Γ f).io=false∧((Γ f).bx=true→(Γ f).cur=true)∧(Γ f).pr=false)(hm:gW an o=true)(hfree:bX E an X o st=true)(h:bT E Γ an o st some=some st'):cw E Γ an X o st st':=by
 have h0:=h;unfold bT at h;split at h;rename_i ho;exact Hn ho h;rename_i ho;have hlate:pz an o=false:=by simpa[gW,ho]using hm
 rw[aq (by simp[hlate])]at h;exact CF ho hm h;rename_i ho;exact Ho ho h;rename_i ho;exact Fe ho h;rename_i ho;exact JQ ho h;rename_i ho;exact Hm ho hm hfree h;rename_i T p x ho;split at h;rename_i hd;cases p with
 |tmp pp=>
  have hlate:pz an o=false:=by simp only[gW,ho,ab,aA]at hm;exact hm.2
  rw[aq (by simp[hlate])]at h;exact Fj ho hd hm hfree h
 |const v=>simp[gW,ho]at hm
 |func f=>simp[gW,ho]at hm
 |global g=>simp[gW,ho]at hm
 cases h;rename_i ho;exact yJ ho h0;rename_i ho;exact JP ho h;rename_i ho;exact L5 ho h;rename_i ho;exact Fg ho h;rename_i ho;exact xh ho hfree h;rename_i ho;exact Fh ho h;rename_i ho;exact Ff ho h;rename_i ho;exact vP ho h;rename_i ho;exact xi ho h;rename_i ho;exact Fi ho hm hfree h;rename_i ho;simp[gW,ho]at hm;rename_i ho;simp[gW,ho]at hm;rename_i ho;exact Af ho h;rename_i ho;exact Ag ho hfree h;rename_i ho;exact JR ho h;rename_i ho;exact JT ho h;rename_i ho;exact JS ho h;rename_i ho;exact CE ho h;rename_i ho;exact Hl hΓ ho hfree h;cases h
end Go.Dn
