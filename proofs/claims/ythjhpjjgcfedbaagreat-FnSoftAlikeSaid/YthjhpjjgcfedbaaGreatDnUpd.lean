import Derived.Test.YthjhpjjgcfedbaaGreatDnMask
/- What an operation looks at and what it turns: for regions whose order is drawn. -/
namespace Go.Dn
structure vn where
 slots:List (Nat×AV):=[]
 box:Option (Nat×List AC):=none
 iss:Option Nat:=none
def eV (l:List AV):List (Nat×AV)→List AV
 |[]=>l
 |x::r=>eV (dM l x.1 x.2) r
def vn.apply (u:vn)(st:AS):AS:=
 ⟨eV st.slots u.slots,(match u.box with|some b=>dM st.boxes b.1 (some b.2)|none=>st.boxes),st.ep,(match u.iss with|some d=>dM st.iss d true|none=>st.iss),st.io⟩
structure dI (an:An) (X:List Nat) (o:Oper) (st st2:AS):Prop where
 len:st2.slots.length=st.slots.length
 get:∀t∈bZ o,st2.get t=st.get t
 ep:st2.ep=st.ep
 dst:∀d,o.dst=some d→nth st2.iss d=nth st.iss d∧nth st2.boxes d=nth st.boxes d
 box:∀s,X.contains s=false→nth st2.boxes s=nth st.boxes s
 er:∀t∈J5 an o,st2.get t=st.get t
structure vn.tK (an:An) (u:vn) (o:Oper):Prop where
 slots:∀x∈u.slots,x.1∈writes an o
 box:∀b,u.box=some b→b.1∈sQ an o
 iss:∀d,u.iss=some d→o.dst=some d
variable {E:Env} {Γ:cD} {an:An} {X:List Nat} {o:Oper} {st st2 st':AS}
theorem Lm {x:Operand}(hep:st2.ep=st.ep)(h:∀t∈tm x,st2.get t=st.get t):st2.rd x=st.rd x:=by cases x with|tmp t=>simp only[AS.rd,hep,h t (by simp[tm])]|const v=>rfl|func f=>rfl|global g=>rfl
def cr (E:Env)(Γ:cD)(an:An)(X:List Nat)(o:Oper)(st st':AS):Prop:=
 ∃u:vn,u.tK an o∧st'=u.apply st∧∀st2,dI an X o st st2→bN E Γ an o st2 some=some (u.apply st2)
def rA (o:Oper)(v:AV):vn:={slots:=o.dst.toList.map λd=>(d,v)}
theorem kj (v:AV):(rA o v).apply st=st.put o.dst v:=by unfold rA vn.apply AS.put;cases o.dst<;>rfl
theorem qx (v:AV):(rA o v).tK an o:=by refine⟨λx hx=>?_,λb hb=>by simp[rA]at hb,λd hd=>by simp[rA]at hd⟩;simp only[rA,List.mem_map]at hx;obtain⟨d,hd,rfl⟩:=hx;simp[writes,hd]
def ug (o:Oper)(v:AV):vn:={slots:=o.dst.toList.map λd=>(d,v),iss:=o.dst}
theorem vk (v:AV):(ug o v).apply st=(st.cU o.dst).put o.dst v:=by unfold ug vn.apply AS.put AS.cU;cases o.dst<;>rfl
theorem Ad (v:AV):(ug o v).tK an o:=by refine⟨λx hx=>?_,λb hb=>by simp[ug]at hb,λd hd=>by simpa[ug]using hd⟩;simp only[ug,List.mem_map]at hx;obtain⟨d,hd,rfl⟩:=hx;simp[writes,hd]
theorem cr.put {v:AV}(h:st'=st.put o.dst v)(h2:∀st2,dI an X o st st2→bN E Γ an o st2 some=some (st2.put o.dst v)):cr E Γ an X o st st':=⟨rA o v,qx v,by rw[kj];exact h,λst2 ha=>by rw[kj];exact h2 st2 ha⟩
theorem dI.rd (ha:dI an X o st st2){x:Operand}(hx:∀t∈tm x,t∈bZ o):st2.rd x=st.rd x:=Lm ha.ep λt ht=>ha.get t (hx t ht)
theorem GH {c x y:Operand}(ho:o.op=.pick c x y)(h:sE o c x y st some=some st'):cr E Γ an X o st st':=by
 have hr:∀st2,dI an X o st st2→st2.rd c=st.rd c∧st2.rd x=st.rd x∧st2.rd y=st.rd y:=λst2 ha=>
  ⟨ha.rd (λt ht=>by simp[bZ,ho,ht]),ha.rd (λt ht=>by simp[bZ,ho,ht]),ha.rd (λt ht=>by simp[bZ,ho,ht])⟩
 unfold sE at h;split at h;rename_i t hc;split at h;rename_i a b hx hy;cases h;refine cr.put rfl λst2 ha=>?_;obtain⟨h1,h2,h3⟩:=hr st2 ha;simp only[bN,ho,sE,h1,h2,h3,hc,hx,hy];rename_i va vb hno;have hgo:∀st2,dI an X o st st2→bN E Γ an o st2 some=cond t (some (st2.put o.dst (st.rd x))) (some (st2.put o.dst (st.rd y))):=by intro st2 ha;obtain⟨h1,h2,h3⟩:=hr st2 ha;simp only[bN,ho,sE,h1,h2,h3,hc]
 cases t with|true=>cases h;exact cr.put rfl λst2 ha=>hgo st2 ha|false=>cases h;exact cr.put rfl λst2 ha=>hgo st2 ha
 cases h
theorem yu {d s:Nat}{cs:List AC}{v:AV}:(⟨[(d,v)],some (s,cs),none⟩:vn).apply st=(st.cz s (some cs)).put (some d) v:=rfl
theorem AZ {o:Oper}(h:sN an o=true):∃T q d,o.op=.load T (.tmp q)∧o.dst=some d∧o.guard=none∧an.mv.contains d=true∧an.mb d=none:=by unfold sN at h;split at h;rename_i T q d ho hd hg;simp only[ab,Option.isNone_iff_eq_none]at h;exact⟨T,q,d,ho,hd,hg,h.1.1,h.1.2⟩;cases h
def vi (st:AS)(b j t:Nat)(e:CT)(i:Int)(cs:List AC)(ys:List e.D):AS:=st.cz b (some (dM cs j (.sl (.holed (some t) i (some st.ep)) e ys)))
theorem zr {T:TypeId}{q d:Nat}(ht:sN an o=true)(ho:o.op=.load T (.tmp q))(hd:o.dst=some d)(hmv:an.mv.contains d=true)(hmb:an.mb d=none):(bU E an X o st=true∧im E an o T (.tmp q) st some=some st')↔ ∃(g:Bool)(e:CT)(offs:List (Nat×Nat))(b j t ep0:Nat)(x:e.D)(i:Int)(cs:List AC)(ys:List e.D)(y:e.D),eD E.ty T=some ⟨g,e,offs⟩∧st.rd (.tmp q)=.val false [.elt (.loc ep0 (some (.box b j,t))) e x i 0]∧(nth st.boxes b).getD none=some cs∧nth cs j=some (.sl (.own (some t)) e ys)∧idx ys i=some y∧ X.contains b=false∧an.eb q=some b∧Fl an o=false∧st'=(vi st b j t e i cs ys).put (some d) (.val g (cellsOf e (.own none) y)):=by
 have htk:sP an o=true:=by unfold sP;rw[hd];simp only[hmv,hmb];rfl
 have hnl:qw an o=false:=by unfold qw;split;rename_i hd' _;rw[hd]at hd';cases hd';rw[hmb];simp;rfl
 have hnp:qb an o=false:=by unfold qb;split;rename_i hd' _;rw[hd]at hd';cases hd';rw[hmv];rfl;rfl
 constructor;rintro⟨hf,h⟩;unfold im at h;split at h;rename_i hp;simp only[bU,ho,hp,hd,hmv,hmb]at hf;simp at hf;rename_i sh fl e x i off hT hp;rw[au htk]at h;simp only[bU,ho,hp,ht,hnl,hnp,Bool.or_false,de,aw,cE,Bool.and_true,ab,aA]at hf;obtain⟨⟨hl0,hfm⟩,hb⟩:=hf;unfold nY at h;split at h;rename_i ep0 r t;cases r with
 |slot _ _=>cases hb
 |io _=>cases hb
 |box b j=>
  simp only[ab,aQ,aA]at hb;split at h;rename_i t' e' ys hrg;split at h;rename_i he;subst he;split at h;rename_i hc;obtain⟨rfl,rfl,hct⟩:=hc;obtain⟨g,ct,offs⟩:=sh;simp only at hct;subst hct;cases hi:idx ys i with|none=>simp only[hi,aa]at h;cases h|some y=>simp only[hi,aa]at h;cases h;simp only[AS.cJ]at hrg;obtain⟨cs,hcs,hj⟩:=ax.1 hrg;refine⟨g,_,offs,b,j,_,ep0,x,i,cs,ys,y,hT,hp,hcs,hj,hi,hb.2,hb.1,hfm,?_⟩;simp only[AS.cO,hcs,hd];rfl
  cases h;cases h;cases h
 cases h;cases h;rintro⟨g,e,offs,b,j,t,ep0,x,i,cs,ys,y,hT,hp,hcs,hj,hi,hX,heb,hfm,rfl⟩;constructor;simp only[bU,ho,hp,ht,hnl,hnp,hfm,hX,heb];simp;simp only[im,hT,hp,htk,aY,nY,AS.cJ,hcs,cx,hj,dite_true,and_self,hi,aa,AS.cO,hd];rfl
theorem Ez {T:TypeId}{p:Operand}(ht:sN an o=true)(ho:o.op=.load T p)(hfree:bU E an X o st=true)(h:im E an o T p st some=some st'):cr E Γ an X o st st':=by obtain⟨T',q,d,ho',hd,hg,hmv,hmb⟩:=AZ ht;rw[ho]at ho';cases ho';obtain⟨g,e,offs,b,j,t,ep0,x,i,cs,ys,y,hT,hp,hcs,hj,hi,hX,heb,hfm,rfl⟩:=(zr ht ho hd hmv hmb).1 ⟨hfree,h⟩;refine⟨⟨[(d,.val g (cellsOf e (.own none) y))],some (b,dM cs j (.sl (.holed (some t) i (some st.ep)) e ys)),none⟩,⟨λx hx=>?_,λb' hb'=>?_,λ_ hh=>by cases hh⟩,rfl,λst2 ha=>?_⟩;simp only[bS]at hx;subst hx;simp[writes,hd];cases hb';simp only[sQ,ho,hd,hmv,ah,ht,heb];simp;have h2:=((zr (E:=E) (X:=X) (st:=st2) ht ho hd hmv hmb).2 ⟨g,e,offs,b,j,t,ep0,x,i,cs,ys,y,hT,by rw[ha.rd (λt ht=>by simpa[bZ,ho]using ht)];exact hp,by rw[ha.box b hX];exact hcs,hj,hi,hX,heb,hfm,rfl⟩).2;simp only[bN,ho];rw[h2];simp only[vi,ha.ep];rfl
theorem GF {T:TypeId}{p:Operand}(ho:o.op=.load T p)(hm:gQ an o=true)(hfree:bU E an X o st=true)(h:im E an o T p st some=some st'):cr E Γ an X o st st':=by
 cases hE:sN an o with|true=>exact Ez hE ho hfree h|false=> ?_
 have hr:∀st2,dI an X o st st2→st2.rd p=st.rd p:=λst2 ha=>ha.rd (λt ht=>by simpa[bZ,ho]using ht);have htk:sP an o=false:=by simp only[gQ,ho,hE,Bool.or_false]at hm;unfold sP;cases hdd:o.dst with|none=>rfl|some d=>rw[hdd]at hm;simp only[bH,aA]at hm;rcases hm with hm|hm;simp only[hm,dE];cases hmb:an.mb d with|none=>rw[hmb]at hm;cases hm|some _=>simp[hmb]
 unfold im at h;split at h;rename_i sh s off hT hp;simp only[bU,ho,hp,ab,aA]at hfree;split at h;rename_i cs hb;split at h;rename_i hfit;split at h;rename_i d hd;have hbx:∀st2,dI an X o st st2→nth st2.boxes s=nth st.boxes s:=λst2 ha=>ha.box s hfree.1.1;cases hf:an.mv.contains d with
 |false=>simp only[hf,aD,bf]at h;cases h;refine cr.put (by rw[hd]) λst2 ha=>?_;simp only[bN,ho,im,hT,hr st2 ha,hp,hbx st2 ha,hb,au hfit,hd,hf,aD,bf,ha.ep]
 |true=>
  simp only[hf,aY]at h;have hmb:an.mb d=some s:=by have:=hfree.1.2;rw[hd]at this;simp only[hf,aw,cE,aQ]at this;exact this
  cases h;refine⟨⟨[(d,.val sh.agg ((cs.drop off).take sh.ct.size))],some (s,bM cs off (aC st.ep ((cs.drop off).take sh.ct.size))),none⟩,⟨λx hx=>?_,λb hb'=>?_,λ_ hh=>by cases hh⟩,?_,λst2 ha=>?_⟩;simp only[bS]at hx;subst hx;simp[writes,hd];cases hb';simp only[sQ,ho,hd,hf,ah,hmb];simp;rw[yu,hd];simp only[bN,ho,im,hT,hr st2 ha,hp,hbx st2 ha,hb,au hfit,hd,hf,aY,ha.ep,yu]
 cases h;cases h;cases h;rename_i sh fl e x i off hT hp;rw[aq (by simp[htk])]at h;split at h;rename_i hl;split at h;rename_i hfit;cases h;refine cr.put rfl λst2 ha=>?_;simp only[bN,ho,im,hT,hr st2 ha,hp,ha.ep,htk,aD,bf,au hl,au hfit];cases h;rename_i hl;have hroot:∀r t ep0,fl=.loc ep0 (some (r,t))→∀st2,dI an X o st st2→st2.cJ r=st.cJ r:=by rintro r t ep0 rfl st2 ha;simp only[bU,ho,hp,hE,de,eT,Bool.and_true,ab,bH]at hfree;rcases hfree.1.1 with hq|hq;exact absurd hq hl;cases r with|slot b j=>simp only[AS.cJ];rw[ha.er b (by simpa using hq)]|box b j=>simp only[AS.cJ];rw[ha.box b (by simpa using hq)]|io j=>cases hq
 unfold rr at h;split at h;rename_i ep0 r t;split at h;rename_i t' e' ys hrg;split at h;rename_i he;split at h;rename_i hc;cases hi:idx (he▸ys:List _) i with|none=>rw[hi]at h;cases h|some y=>rw[hi]at h;simp only[aa]at h;cases h;refine cr.put rfl λst2 ha=>?_;simp only[bN,ho,im,hT,hr st2 ha,hp,ha.ep,htk,aD,bf,aq hl,rr,hroot _ _ _ rfl st2 ha,hrg,dif_pos he,au hc,hi,aa]
 cases h;cases h;cases h;cases h;cases h
theorem yA {x:Operand}(ho:o.op=.nilCheck x)(h:bN E Γ an o st some=some st'):cr E Γ an X o st st':=by have hr:∀st2,dI an X o st st2→st2.rd x=st.rd x:=λst2 ha=>ha.rd (λt ht=>by simpa[bZ,ho]using ht);simp only[bN,ho]at h;split at h;rename_i s off hx;cases h;refine cr.put rfl λst2 ha=>?_;simp only[bN,ho,hr st2 ha,hx];rename_i fl e y i off hx;cases h;refine cr.put rfl λst2 ha=>?_;simp only[bN,ho,hr st2 ha,hx];cases h
theorem zy {op:BinOp}{x y:AV}(h:(tq op x y λc=>some (st.put o.dst (.one c)))=some st'):∃v,st'=st.put o.dst v∧∀st2:AS,(tq op x y λc=>some (st2.put o.dst (.one c)))=some (st2.put o.dst v):=by have key:∀s:AS,(tq op x y λc=>some (s.put o.dst (.one c)))=(tq op x y some).bind λc=>some (s.put o.dst (.one c)):=λs=>(sV op x y some _).symm;rw[key st]at h;cases hb:tq op x y some with|none=>rw[hb]at h;cases h|some c=>rw[hb]at h;cases h;exact⟨_,rfl,λst2=>by rw[key st2,hb];rfl⟩
theorem Bb {op:BinOp}{b:Bool}(h:(rJ op b λc=>some (st.put o.dst (.one c)))=some st'):∃v,st'=st.put o.dst v∧∀st2:AS,(rJ op b λc=>some (st2.put o.dst (.one c)))=some (st2.put o.dst v):=by unfold rJ at h;split at h;cases h;exact⟨_,rfl,λst2=>rfl⟩;cases h;exact⟨_,rfl,λst2=>rfl⟩;cases h
theorem I7 {op:BinOp}{T T':TypeId}{x y:Operand}(ho:o.op=.binOp op T x y T')(h:pL E o op T x y st some=some st'):cr E Γ an X o st st':=by
 have hr:∀st2,dI an X o st st2→st2.rd x=st.rd x∧st2.rd y=st.rd y:=λst2 ha=>
  ⟨ha.rd (λt ht=>by simp[bZ,ho,ht]),ha.rd (λt ht=>by simp[bZ,ho,ht])⟩
 unfold pL at h;split at h;rename_i a b hx hy;split at h;rename_i hT;obtain⟨v,rfl,hv⟩:=zy h;refine cr.put rfl λst2 ha=>?_;simp only[bN,ho,pL,(hr st2 ha).1,(hr st2 ha).2,hx,hy,au hT];exact hv st2;cases h;rename_i xs ys hx hy;split at h;rename_i ls hq;split at h;rename_i hfit;obtain⟨v,rfl,hv⟩:=zy h;refine cr.put rfl λst2 ha=>?_;simp only[bN,ho,pL,(hr st2 ha).1,(hr st2 ha).2,hx,hy,hq,au hfit];exact hv st2;cases h;cases h;rename_i fl e xs hx hy;split at h;rename_i hT;split at h;cases h;rename_i hlen;obtain⟨v,rfl,hv⟩:=Bb h;refine cr.put rfl λst2 ha=>?_;simp only[bN,ho,pL,(hr st2 ha).1,(hr st2 ha).2,hx,hy,ha.ep,au hT,aq hlen];exact hv st2;cases h;rename_i hx hy;split at h;rename_i hT;obtain⟨v,rfl,hv⟩:=Bb h;refine cr.put rfl λst2 ha=>?_;simp only[bN,ho,pL,(hr st2 ha).1,(hr st2 ha).2,hx,hy,au hT];exact hv st2;cases h;rename_i a b hn1 hn2 hn3 hn4;obtain⟨v,rfl,hv⟩:=zy h;refine cr.put rfl λst2 ha=>?_;simp only[bN,ho,pL,(hr st2 ha).1,(hr st2 ha).2];exact hv st2
theorem K4 {op:UnOp}{T:TypeId}{x:Operand}(ho:o.op=.unOp op T x)(h:(Mr op (st.rd x) λc=>some (st.put o.dst (.one c)))=some st'):cr E Γ an X o st st':=by have hr:∀st2,dI an X o st st2→st2.rd x=st.rd x:=λst2 ha=>ha.rd (λt ht=>by simpa[bZ,ho]using ht);have key:∀s:AS,(Mr op (st.rd x) λc=>some (s.put o.dst (.one c)))=(Mr op (st.rd x) some).bind λc=>some (s.put o.dst (.one c)):=λs=>(Ff op (st.rd x) some _).symm;rw[key st]at h;cases hb:Mr op (st.rd x) some with|none=>rw[hb]at h;cases h|some c=>rw[hb]at h;cases h;refine cr.put rfl λst2 ha=>?_;simp only[bN,ho,hr st2 ha];rw[key st2,hb];rfl
theorem Eu {S:TypeId}{p:Operand}{f:Nat}(ho:o.op=.fieldAddr S p f)(h:pj E o S p f st some=some st'):cr E Γ an X o st st':=by have hr:∀st2,dI an X o st st2→st2.rd p=st.rd p:=λst2 ha=>ha.rd (λt ht=>by simpa[bZ,ho]using ht);unfold pj at h;split at h;rename_i hT hp;split at h;rename_i hf;cases h;refine cr.put rfl λst2 ha=>?_;simp only[bN,ho,pj,hr st2 ha,hT,hp,hf];cases h;rename_i hT hp;split at h;rename_i hf;cases h;refine cr.put rfl λst2 ha=>?_;simp only[bN,ho,pj,hr st2 ha,hT,hp,hf];cases h;cases h
theorem o4 {v:AV}{s:AS}(h:v.now s.ep=true):v.fresh s=v:=by
 cases v with
 |tup vs=>rfl
 |val g cs=>
  simp only[AV.now,az]at h;simp only[AV.fresh];congr 1;have:cs.map s.fresh=cs.map id:=List.map_congr_left λc hc=>by have hn:=h c hc;unfold AS.fresh;split;simp only[AC.now]at hn;rw[hn];rfl;rfl
  rw[this,List.map_id]
theorem DC {v:AV}{st st2:AS}(he:st2.ep=st.ep)(h:v.now st.ep=true∨∃g ep b j t e xs,v=.val g [.sl (.loc ep (some (.box b j,t))) e xs]∧nth st2.boxes b=nth st.boxes b):v.fresh st2=v.fresh st:=by rcases h with h|⟨g,ep,b,j,t,e,xs,rfl,hb⟩;rw[o4 h,o4 (by rw[he];exact h)];simp only[AV.fresh,cl,List.map_nil];congr 2;unfold AS.fresh;simp only[AS.cJ,he,hb]
theorem w7 {T:TypeId}{x i:Operand}(ho:o.op=.indexAddr T x i)(hfree:bU E an X o st=true)(h:gn E o T x i st some=some st'):cr E Γ an X o st st':=by
 have hr:∀st2,dI an X o st st2→st2.rd x=st.rd x∧st2.rd i=st.rd i:=λst2 ha=>
  ⟨ha.rd (λt ht=>by simp[bZ,ho,ht]),ha.rd (λt ht=>by simp[bZ,ho,ht])⟩
 have hf2:∀st2,dI an X o st st2→(st.rd x).fresh st2=(st.rd x).fresh st:=λst2 ha=>by refine DC ha.ep ?_;simp only[bU,ho,bH]at hfree;rcases hfree with hn|hn;exact .inl hn;split at hn;rename_i g ep b j t e xs hx;exact .inr ⟨g,ep,b,j,t,e,xs,hx,ha.box b (by simpa using hn)⟩;cases hn
 unfold gn at h;split at h;rename_i e' fl e xs k n hT hx hi;split at h;rename_i hc;cases hix:idx xs n with|none=>rw[hix]at h;cases h|some y=>rw[hix]at h;cases h;refine cr.put rfl λst2 ha=>?_;have hf3:=hf2 st2 ha;rw[hx]at hf3;simp only[bN,ho,gn,(hr st2 ha).1,(hr st2 ha).2,hf3,hT,hi,ha.ep,au hc,hix,aa]
 cases h;cases h
theorem Ev {T:TypeId}{x i:Operand}(ho:o.op=.index T x i)(h:qp E o T x i st some=some st'):cr E Γ an X o st st':=by
 have hr:∀st2,dI an X o st st2→st2.rd x=st.rd x∧st2.rd i=st.rd i:=λst2 ha=>
  ⟨ha.rd (λt ht=>by simp[bZ,ho,ht]),ha.rd (λt ht=>by simp[bZ,ho,ht])⟩
 unfold qp at h;split at h;rename_i s k n hx hi;split at h;rename_i hc;cases hix:idx s n with|none=>rw[hix]at h;cases h|some y=>rw[hix]at h;cases h;refine cr.put rfl λst2 ha=>?_;simp only[bN,ho,qp,(hr st2 ha).1,(hr st2 ha).2,hx,hi,au hc,hix,aa]
 cases h;cases h
theorem cr.new {v:AV}(h:st'=(st.cU o.dst).put o.dst v)(h2:∀st2,dI an X o st st2→bN E Γ an o st2 some=some ((st2.cU o.dst).put o.dst v)):cr E Γ an X o st st':=⟨ug o v,Ad v,by rw[vk];exact h,λst2 ha=>by rw[vk];exact h2 st2 ha⟩
theorem dI.dU (ha:dI an X o st st2):st2.dU o.dst=st.dU o.dst:=by funext j;cases hd:o.dst with|none=>rfl|some d=>simp only[AS.dU,(ha.dst d hd).1]
theorem uM {lo hi:Option Operand}{n:Nat}{f:AS→Int→Int→Option AS}(hs:∀st2,dI an X o st st2→lo.map st2.rd=lo.map st.rd∧hi.map st2.rd=hi.map st.rd)(h:gz st lo hi n (f st)=some st'):∃a b,f st a b=some st'∧∀st2,dI an X o st st2→gz st2 lo hi n (f st2)=f st2 a b:=by unfold gz at h;split at h;rename_i h1 h2;exact⟨_,_,h,λst2 ha=>by simp only[gz,(hs st2 ha).1,(hs st2 ha).2,h1,h2]⟩;rename_i h1 h2;exact⟨_,_,h,λst2 ha=>by simp only[gz,(hs st2 ha).1,(hs st2 ha).2,h1,h2]⟩;rename_i h1 h2;exact⟨_,_,h,λst2 ha=>by simp only[gz,(hs st2 ha).1,(hs st2 ha).2,h1,h2]⟩;rename_i h1 h2;exact⟨_,_,h,λst2 ha=>by simp only[gz,(hs st2 ha).1,(hs st2 ha).2,h1,h2]⟩;cases h
theorem Ew {T:TypeId}{x:Operand}{lo hi:Option Operand}(ho:o.op=.slice T x lo hi none)(hm:gQ an o=true)(hfree:bU E an X o st=true)(h:pE E an o T x lo hi st some=some st'):cr E Γ an X o st st':=by
 have hr:∀st2,dI an X o st st2→st2.rd x=st.rd x:=λst2 ha=>ha.rd (λt ht=>by simp[bZ,ho,ht]);have hb:∀st2,dI an X o st st2→lo.map st2.rd=lo.map st.rd∧hi.map st2.rd=hi.map st.rd:=by
  intro st2 ha;constructor;cases lo with|none=>rfl|some y=>simp only[bQ];rw[ha.rd (λt ht=>by simp[bZ,ho,U6,ht])]
  cases hi with|none=>rfl|some y=>simp only[bQ];rw[ha.rd (λt ht=>by simp[bZ,ho,U6,ht])]
 have hnow:(st.rd x).now st.ep=true:=by simpa[bU,ho]using hfree
 have hf2:∀st2,dI an X o st st2→(st.rd x).fresh st2=st.rd x:=λst2 ha=>o4 (by rw[ha.ep];exact hnow);have htk:sP an o=false:=by simpa[gQ,ho]using hm
 unfold pE at h;rw[aq (by simp[htk]),o4 hnow]at h;split at h;rename_i s hx;split at h;rename_i hT;obtain⟨a,b,h1,h2⟩:=uM (f:=λs0 a b=>aa (sub s a b) λs'=>some (s0.put o.dst (.one (.str s')))) hb h;cases hsub:sub s a b with|none=>rw[hsub]at h1;cases h1|some s'=>rw[hsub]at h1;cases h1;refine cr.put rfl λst2 ha=>?_;have hf3:=hf2 st2 ha;rw[hx]at hf3;simp only[bN,ho,pE,htk,aD,bf,hr st2 ha,hx,hf3,au hT];rw[h2 st2 ha,hsub];rfl
 cases h;rename_i fl e xs hx;split at h;rename_i hT;obtain⟨a,b,h1,h2⟩:=uM (f:=λs0 a b=>aa (sub xs a b) λxs'=>some (s0.put o.dst (.one (.sl (yK an o fl a) e xs')))) hb h;cases hsub:sub xs a b with|none=>rw[hsub]at h1;cases h1|some s'=>rw[hsub]at h1;cases h1;refine cr.put rfl λst2 ha=>?_;have hf3:=hf2 st2 ha;rw[hx]at hf3;simp only[bN,ho,pE,htk,aD,bf,hr st2 ha,hx,hf3,ha.ep,au hT];rw[h2 st2 ha,hsub];rfl
 cases h;cases h
theorem tL {args:List Operand}(hl:∀t,t∈Ac args→t∈bZ o)(ha:dI an X o st st2):args.map st2.rd=args.map st.rd:=by apply List.map_congr_left;intro x hx;exact ha.rd (λt ht=>hl t (by simp only[Ac,List.mem_flatMap];exact⟨x,hx,ht⟩))
theorem I9 {ts:Array TypeId}{args:Array Operand}(ho:o.op=.call {callee:=.builtin .len,args,argTypes:=ts})(h:yt E o ts.toList args.toList st some=some st'):cr E Γ an X o st st':=by have hr:∀st2,dI an X o st st2→args.toList.map st2.rd=args.toList.map st.rd:=λst2 ha=>tL (λt ht=>by simp only[bZ,ho];exact ht) ha;unfold yt at h;split at h;rename_i t s hts hx;split at h;rename_i hT;cases h;refine cr.put rfl λst2 ha=>?_;simp only[bN,ho,yt,hr st2 ha,hts,hx,au hT];cases h;rename_i t _ _ xs hts hx;split at h;rename_i hT;cases h;refine cr.put rfl λst2 ha=>?_;simp only[bN,ho,yt,hr st2 ha,hts,hx,au hT];cases h;cases h
theorem Jb {ts:Array TypeId}{args:Array Operand}(ho:o.op=.call {callee:=.builtin .min,args,argTypes:=ts})(h:zQ o args.toList st some=some st'):cr E Γ an X o st st':=by have hr:∀st2,dI an X o st st2→args.toList.map st2.rd=args.toList.map st.rd:=λst2 ha=>tL (λt ht=>by simp only[bZ,ho];exact ht) ha;unfold zQ at h;split at h;rename_i hx;cases h;refine cr.put rfl λst2 ha=>?_;simp only[bN,ho,zQ,hr st2 ha,hx];cases h
theorem Ja {ts:Array TypeId}{args:Array Operand}(ho:o.op=.call {callee:=.builtin .max,args,argTypes:=ts})(h:zP o args.toList st some=some st'):cr E Γ an X o st st':=by have hr:∀st2,dI an X o st st2→args.toList.map st2.rd=args.toList.map st.rd:=λst2 ha=>tL (λt ht=>by simp only[bZ,ho];exact ht) ha;unfold zP at h;split at h;rename_i hx;cases h;refine cr.put rfl λst2 ha=>?_;simp only[bN,ho,zP,hr st2 ha,hx];cases h
theorem IX {l:List Nat}{c:AC}(h:c.Lx l=true)(hl:∀t∈l,st2.get t=st.get t):st2.zN c=st.zN c:=by
 cases c with
 |sl fl e xs=>
  cases fl with
  |loc ep pv=>cases pv with|none=>rfl|some q=>obtain⟨r,t⟩:=q;cases r with|slot b j=>have hb:st2.get b=st.get b:=hl b (by simpa[AC.Lx]using h);simp only[AS.zN,AS.cJ,hb]|box _ _=>rfl|io _=>rfl
  |_=>rfl
 |_=>rfl
theorem Gv {l:List Nat}{x:Operand}(hx:uZ l st x=true)(hl:∀t∈l,st2.get t=st.get t)(h:∀t∈tm x,st2.get t=st.get t):qa st2 x=qa st x∧qI st2 x=qI st x:=by
 cases x with
 |tmp t=>have ht:=h t (by simp[tm]);simp only[uZ]at hx;cases hg:st.get t with|tup vs=>exact⟨by simp only[qa,ht,hg],by simp only[qI,ht,hg]⟩|val g cs=>rw[hg]at hx;have hm:cs.map st2.zN=cs.map st.zN:=List.map_congr_left λc hc=>IX (az.1 hx c hc) hl;exact⟨by simp only[qa,ht,hg,hm],by simp only[qI,ht,hg,hm]⟩
 |const v=>exact⟨rfl,rfl⟩
 |func f=>exact⟨rfl,rfl⟩
 |global g=>exact⟨rfl,rfl⟩
theorem zR {f:Operand}{ts:Array TypeId}{args:Array Operand}(ho:o.op=.call {callee:=.value f,args,argTypes:=ts})(hfree:bU E an X o st=true){k:Nat}(hf:st.rd f=.val false [.fn k])(hbx:(Γ k).bx=true)(hcur:(Γ k).cur=true)(h:lI Γ o k args.toList st some=some st'):cr E Γ an X o st st':=by
 unfold lI at h;split at h;rename_i x0 xs hargs;split at h;rename_i s hx0;have hfr:kS an X (J5 an o) st (x0::xs)=true:=by have h1:=hfree;simp only[bU,ho,ab]at h1;rw[←hargs];exact h1.1
 have hx1:∃q,x0=.tmp q∧X.contains s=false∧an.sb q=some s∧(match (nth st.boxes s).getD none with|some cs=>cs.all AC.ui|none=>true)=true∧xs.all (uZ (J5 an o) st)=true:=by cases x0 with|tmp q=>simp only[kS,hx0,Ko,ab,aA,aQ]at hfr;exact⟨q,rfl,hfr.1.1.1,hfr.1.1.2,hfr.1.2,hfr.2⟩|const v=>simp only[kS,hx0,AV.HQ]at hfr;cases hfr|func v=>simp only[kS,hx0,AV.HQ]at hfr;cases hfr|global v=>simp only[kS,hx0,AV.HQ]at hfr;cases hfr
 obtain⟨q,rfl,hX,hsb,hall,hself⟩:=hx1;split at h;rename_i cs hb0;rw[hb0]at hall;simp only at hall;cases hc:(cs.all (AC.oo (rE cs))&&xs.all (qI st))with
 |false=>rw[hc]at h;cases h
 |true=>
  rw[hc]at h;simp only[ah]at h;cases hres:(Γ k).fn (.val true (cs.map AC.CE)::xs.map (qa st))with
  |none=>rw[hres]at h;cases h
  |some y=>
   rw[hres]at h;simp only[aa]at h;cases hc2:(((Γ k).back y).all (AC.oo true)&&((Γ k).av y).Je)with
   |false=>rw[hc2]at h;cases h
   |true=>
    rw[hc2]at h;simp only[ah,hcur,hall,fy,aJ]at h;subst h;refine⟨⟨o.dst.toList.map λd=>(d,((Γ k).av y).rF st.ep (st.dU o.dst)),some (s,iH (rE cs) (λ_=>none) 0 ((Γ k).back y)),o.dst⟩,⟨λx hx=>?_,λb hb=>?_,λd hd=>hd⟩,?_,λst2 ha=>?_⟩;simp only[List.mem_map]at hx;obtain⟨d,hd,rfl⟩:=hx;simp[writes,hd];cases hb;simp[sQ,ho,hargs,hsb];unfold vn.apply AS.put AS.cU AS.cz;cases o.dst<;>rfl;have e1:st2.rd f=st.rd f:=ha.rd (λt ht=>by simp[bZ,ho,ht]);have hl:∀x∈Operand.tmp q::xs,∀t∈tm x,t∈bZ o:=by intro x hx t ht;simp only[bZ,ho,al,Ac,List.mem_flatMap,hargs];exact .inr ⟨x,hx,ht⟩
    have e2:st2.rd (.tmp q)=st.rd (.tmp q):=ha.rd (hl _ (by simp));have e3:nth st2.boxes s=nth st.boxes s:=ha.box s hX;have e4:∀x∈xs,qa st2 x=qa st x∧qI st2 x=qI st x:=λx hx=>Gv (az.1 hself x hx) ha.er λt ht=>ha.get t (hl x (by simp[hx]) t ht);have e5:xs.map (qa st2)=xs.map (qa st):=List.map_congr_left λx hx=>(e4 x hx).1;have e6:xs.all (qI st2)=xs.all (qI st):=by rw[bT];simp only[az];exact⟨λg x hx=>by rw[←(e4 x hx).2];exact g x hx,λg x hx=>by rw[(e4 x hx).2];exact g x hx⟩
    simp only[bN,ho,rH,e1,hf,hbx,ah,lI,hargs,e2,hx0,e3,hb0,e5,e6,hc,hres,aa,hc2,hcur,hall,fy,ha.ep,ha.dU];unfold vn.apply AS.put AS.cU AS.cz;cases o.dst<;>rfl
 cases h;cases h;cases h
theorem GD (hΓ:∀f,(Γ f).io=false∧((Γ f).bx=true→(Γ f).cur=true)∧(Γ f).pr=false){f:Operand}{ts:Array TypeId}{args:Array Operand}(ho:o.op=.call {callee:=.value f,args,argTypes:=ts})(hfree:bU E an X o st=true)(h:rH Γ o f args.toList st some=some st'):cr E Γ an X o st st':=by
 have hr:∀st2,dI an X o st st2→st2.rd f=st.rd f∧(args.toList.map λx=>((st2.rd x).fresh st2).asArg st2.ep)=args.toList.map λx=>((st.rd x).fresh st).asArg st.ep:=by
  intro st2 ha;refine⟨ha.rd (λt ht=>by simp[bZ,ho,ht]),?_⟩;apply List.map_congr_left;intro x hx;have hnow:(st.rd x).now st.ep=true:=by simp only[bU,ho,ab,az]at hfree;exact hfree.2 x hx
  rw[ha.rd (λt ht=>by simp only[bZ,ho,al,Ac,List.mem_flatMap];exact .inr ⟨x,hx,ht⟩),o4 hnow,o4 (s:=st2) (by rw[ha.ep];exact hnow),ha.ep]
 unfold rH at h;split at h
 ·rename_i k hf
  cases hbx:(Γ k).bx with
  |true=>rw[hbx]at h;exact zR ho hfree hf hbx ((hΓ k).2.1 hbx) h
  |false=>
  rw[hbx,(hΓ k).2.2,(hΓ k).1]at h
  simp only[ai]at h
  cases hg:(Γ k).fn (args.toList.map λx=>((st.rd x).fresh st).asArg st.ep)with
  |none=>rw[hg]at h;cases h
  |some y=>
   rw[hg]at h
   simp only[aa]at h
   cases hsel:(Γ k).sel y with
   |true=>
    rw[hsel]at h
    cases h
    refine cr.new rfl λst2 ha=>?_
    simp only[bN,ho,rH,(hr st2 ha).1,hf,(hΓ k).1,hbx,(hΓ k).2.2,ai]
    rw[(hr st2 ha).2,hg]
    simp only[aa,hsel,ah,ha.ep,ha.dU]
   |false=>
    rw[hsel]at h
    cases h
    refine cr.new rfl λst2 ha=>?_
    simp only[bN,ho,rH,(hr st2 ha).1,hf,(hΓ k).1,hbx,(hΓ k).2.2,ai]
    rw[(hr st2 ha).2,hg]
    simp only[aa,hsel,ai,ha.ep,ha.dU]
 cases h
theorem zS {src dst:TypeId}{x:Operand}(ho:o.op=.convert src dst x)(h:fV E o src dst x st some=some st'):cr E Γ an X o st st':=by
 have hr:∀st2,dI an X o st st2→st2.rd x=st.rd x:=λst2 ha=>ha.rd (λt ht=>by simpa[bZ,ho]using ht);unfold fV at h;split at h;rename_i h1 h2 h3;cases h;refine cr.put rfl λst2 ha=>?_;simp only[bN,ho,fV,hr st2 ha,h1,h2,h3];rename_i h1 h2 h3;cases h;refine cr.put rfl λst2 ha=>?_;simp only[bN,ho,fV,hr st2 ha,h1,h2,h3];rename_i offs val s hno h1 h2 h3;split at h;rename_i hb;unfold room at h;split at h;rename_i hrm;cases h;refine cr.new (v:=.one (.sl (.own (st.dU o.dst 0)) (.int .u8) (cW s))) rfl λst2 ha=>?_;have hval:∀k:AS→Option AS,fV E o src dst x st2 k=if E.bytes dst then room s.length (k (st2.iT o.dst (.int .u8) (cW s))) else none:=by intro k;unfold fV;rw[hr st2 ha,h1,h2,h3];obtain⟨ag,ct,of⟩:=val;cases ag with|true=>rfl|false=>cases ct with|str=>exact(hno _ rfl).elim|_=>rfl
 simp only[bN,ho];rw[hval,au hb,room,au hrm,AS.iT,ha.dU];cases h;cases h;rename_i val offs fl xs h1 h2 h3;split at h;rename_i hb;cases h;refine cr.put rfl λst2 ha=>?_;have hval:∀k:AS→Option AS,fV E o src dst x st2 k=if E.bytes src∧fl.live st2.ep then k (st2.put o.dst (.one (.str (bytesOf xs)))) else none:=by intro k;unfold fV;rw[hr st2 ha,h1,h2,h3];obtain⟨ag,ct,of⟩:=val;cases ag with|true=>rfl|false=>cases ct<;>rfl
 simp only[bN,ho];rw[hval,ha.ep,au hb];cases h;cases h
theorem wk {d:Nat}{cs:List AC}{v:AV}:(⟨[(d,v)],some (d,cs),none⟩:vn).apply st=(st.cz d (some cs)).put (some d) v:=rfl
theorem Es {T:TypeId}(ho:o.op=.alloc T)(h:qU E o T st some=some st'):cr E Γ an X o st st':=by unfold qU at h;split at h;rename_i d sh hd hT;split at h;rename_i hb;cases h;refine⟨⟨[(d,.one (.ptr d 0))],some (d,cellsOf sh.ct (.own none) sh.ct.zero),none⟩,⟨λx hx=>?_,λb hb'=>?_,λ_ hh=>by cases hh⟩,?_,λst2 ha=>?_⟩;simp only[bS]at hx;subst hx;simp[writes,hd];cases hb';simp[sQ,ho,hd];rw[wk,hd];simp only[bN,ho,qU,hd,hT,(ha.dst d hd).2,hb,wk];cases h;cases h
def g9 (st:AS):Operand→List (Nat×AV)
 | .tmp t=>[(t,(st.get t).aC st.ep)]
 |_=>[]
theorem qs (l:List AV)(a b:List (Nat×AV)):eV l (a++b)=eV (eV l a) b:=by induction a generalizing l with|nil=>rfl|cons x a ih=>exact ih _
def AS.eM (st:AS)(l:List (Nat×AV)):AS:={st with slots:=eV st.slots l}
theorem UT:st.eM []=st:=rfl
theorem jv (a b:List (Nat×AV)):st.eM (a++b)=(st.eM a).eM b:=by simp only[AS.eM,qs]
theorem US (d:Nat)(v:AV):st.put (some d) v=st.eM [(d,v)]:=rfl
theorem qR (x:Operand):(st.take x).2=st.eM (g9 st x):=by cases x<;>rfl
theorem rz {x:Operand}(hep:st2.ep=st.ep)(h:∀t∈tm x,st2.get t=st.get t):(st2.take x).1=(st.take x).1∧(st2.take x).2=st2.eM (g9 st x):=by cases x with|tmp t=>have:=h t (by simp[tm]);refine⟨this,?_⟩;rw[qR];simp only[g9,this,hep]|const v=>exact⟨rfl,rfl⟩|func f=>exact⟨rfl,rfl⟩|global g=>exact⟨rfl,rfl⟩
theorem vj {x:Operand}:∀y∈g9 st x,y.1∈tm x:=by cases x<;>simp[g9,tm]
theorem GG {x:Operand}(ho:o.op=.move x)(h:qM an o x st some=some st'):cr E Γ an X o st st':=by
 unfold qM at h;cases hd:o.dst with
 |none=>rw[hd]at h;cases h
 |some d=>
  rw[hd]at h;cases hf:an.mv.contains d with
  |false=>simp only[hf,aD,bf]at h;cases h;refine cr.put (v:=st.rd x) (by rw[hd]) λst2 ha=>?_;have hr:st2.rd x=st.rd x:=ha.rd (λt ht=>by simpa[bZ,ho]using ht);simp only[bN,ho,qM,hd,hf,aD,bf,hr]
  |true=>
   simp only[hf,aY]at h;cases h;have hr:∀st2,dI an X o st st2→(st2.take x).1=(st.take x).1∧(st2.take x).2=st2.eM (g9 st x):=λst2 ha=>rz ha.ep λt ht=>ha.get t (by simpa[bZ,ho]using ht);refine⟨⟨g9 st x++[(d,(st.take x).1)],none,none⟩,⟨λy hy=>?_,λ_ hh=>(by cases hh),λ_ hh=>(by cases hh)⟩,?_,λst2 ha=>?_⟩;rcases al.1 hy with hy|hy;have:=vj y hy;have hf':d∈an.mv:=by simpa using hf
   simp[writes,sO,ho,hd,hf',bZ,this];simp only[bS]at hy;subst hy;simp[writes,hd];rw[qR];show _=st.eM _;rw[jv];rfl;simp only[bN,ho,qM,hd,hf,aY,(hr st2 ha).1,(hr st2 ha).2];show some ((st2.eM (g9 st x)).put (some d) (st.take x).1)=some (st2.eM _);rw[jv];rfl
theorem Dx {ep:Nat}{cs:List AC}(h:cs.all AC.du=true):aC ep cs=cs:=by
 rw[az]at h;unfold aC;have:cs.map (AC.borrow ep none)=cs.map id:=List.map_congr_left λc hc=>by have:=h c hc;cases c<;>first|rfl|(simp[AC.du]at this)
 rw[this,List.map_id]
theorem Nu {s:AS}{t:Nat}{vs:List (Bool×List AC)}(h:s.get t=.tup vs):s.put (some t) (.tup vs)=s:=by cases s with|mk slots boxes ep iss io=>simp only[AS.put,AS.mk.injEq,dS];rw[cP];apply List.ext_getElem?;intro i;rw[List.getElem?_set];split;rename_i hd;subst hd;simp only[AS.get,cg]at h;split;rename_i hlt;rw[List.getElem?_eq_getElem hlt]at h⊢;simp only[cZ]at h;rw[h];rename_i hge;rw[List.getElem?_eq_none (Nat.le_of_not_lt hge)];rfl
theorem zT {t i:Nat}(ho:o.op=.extract (.tmp t) i)(hfree:bU E an X o st=true)(h:fY o t i st some=some st'):cr E Γ an X o st st':=by
 have hr:∀st2,dI an X o st st2→st2.get t=st.get t:=λst2 ha=>ha.get t (by simp[bZ,ho]);unfold fY at h;simp only[bU,ho]at hfree;split at h
 ·rename_i vs hv;rw[hv]at hfree;split at h
  ·rename_i g cs hn;simp only[hn]at hfree;have hfl:cs.all AC.du=true∨∃d,o.dst=some d∧an.mv.contains d=true:=by cases hd:o.dst with|none=>simp only[hd,Bool.or_false]at hfree;exact .inl hfree|some d=>simp only[hd,bH]at hfree;rcases hfree with h|h;exact .inl h;exact .inr ⟨d,rfl,h⟩
   rcases hfl with hfree|⟨d,hd,hmv⟩;rotate_left;cases h;refine⟨⟨[(t,.tup (dM vs i (g,aC 0 cs))),(d,.val g cs)],none,none⟩,⟨λx hx=>?_,(λ_ hb=>by cases hb),(λ_ hh=>by cases hh)⟩,?_,λst2 ha=>?_⟩;simp only[bl,List.not_mem_nil,or_false]at hx;rcases hx with rfl|rfl;simp only[writes,sO,ho,hd,hmv,ah,bZ];simp;simp only[writes,hd];simp;rw[hd];rfl;have h2:st2.get t=.tup vs:=by rw[hr st2 ha,hv]
   simp only[bN,ho,fY,h2,hn,hd];rfl;skip;have hset:dM vs i (g,cs)=vs:=by rw[cP];rw[cg]at hn;apply List.ext_getElem?;intro k;rw[List.getElem?_set];split;rename_i hk;subst hk;obtain⟨hl,he⟩:=List.getElem?_eq_some_iff.1 hn;rw[au hl,hn];rfl
   have key:∀s:AS,s.get t=.tup vs→(s.put (some t) (.tup (dM vs i (g,aC 0 cs))))=s:=λs hs=>by rw[Dx hfree,hset,Nu hs]
   rw[key st hv]at h;cases h;refine cr.put rfl λst2 ha=>?_;have h2:st2.get t=.tup vs:=by rw[hr st2 ha,hv]
   simp only[bN,ho,fY,h2,hn];rw[key st2 h2]
  cases h
 cases h
def oX (st:AS):Operand→List (Nat×AV)
 | .tmp t=>[(t,(st.get t).aC st.ep)]
 |_=>[]
theorem zv (st:AS)(x:Operand):(st.take x).2=⟨eV st.slots (oX st x),st.boxes,st.ep,st.iss,st.io⟩:=by cases x<;>rfl
theorem Ey {T:TypeId}{pp:Nat}{x:Operand}(ho:o.op=.store T (.tmp pp) x)(hd:o.dst=none)(hm:gQ an o=true)(hfree:bU E an X o st=true)(h:mU E T (.tmp pp) x st some=some st'):cr E Γ an X o st st':=by
 have hr:∀st2,dI an X o st st2→st2.rd (.tmp pp)=st.rd (.tmp pp):=λst2 ha=>ha.rd (λt ht=>by simp only[bZ,ho,al];exact .inl ht);have hsb:(an.sb pp).isNone=false:=by simp only[gQ,ho,ab]at hm;cases hb:an.sb pp with|none=>rw[hb]at hm;cases hm.1|some _=>rfl
 simp only[bU,ho,hsb,dE,cE]at hfree;unfold mU at h;split at h;rename_i sh s off hT hp;rw[hp]at hfree;simp only[ab,aA,aQ]at hfree;split at h;rename_i gg vs st1 htk;have htk1:(st.take x).1=.val gg vs:=by rw[htk]
 have hst1:st1=⟨eV st.slots (oX st x),st.boxes,st.ep,st.iss,st.io⟩:=by rw[←zv,htk]
 split at h;rename_i cs hb;split at h;rename_i hlen;split at h;rename_i hfit;cases h;have hbx:∀st2,dI an X o st st2→nth st2.boxes s=nth st.boxes s:=λst2 ha=>ha.box s hfree.1;refine⟨⟨oX st x,some (s,bM cs off vs),none⟩,⟨λy hy=>?_,λb hb'=>?_,λ_ hh=>by cases hh⟩,?_,λst2 ha=>?_⟩;cases x with|tmp t=>simp only[oX,bS]at hy;subst hy;simp only[writes,sO,ho,ah,bZ,hd];simp[tm]|_=>simp[oX]at hy
 cases hb';simp only[sQ,ho,hfree.2];simp;rw[hst1];rfl;have hx2:(st2.take x).1=(st.take x).1∧oX st2 x=oX st x:=by cases x with|tmp t=>have hg:st2.get t=st.get t:=ha.get t (by simp[bZ,ho,tm]);simp only[AS.take,oX,hg,ha.ep];simp|const v=>exact⟨rfl,rfl⟩|func f=>exact⟨rfl,rfl⟩|global g=>exact⟨rfl,rfl⟩
 have ht2:st2.take x=(.val gg vs,⟨eV st2.slots (oX st x),st2.boxes,st2.ep,st2.iss,st2.io⟩):=by rw[←hx2.2,←zv,←htk1,←hx2.1]
 have hb2:(nth st2.boxes s).getD none=some cs:=by rw[hbx st2 ha];rw[hst1]at hb;exact hb
 have hlate:px an o=false:=by simp only[gQ,ho,ab,aA]at hm;exact hm.2
 simp only[bN,ho,hd,hlate,aD,bf,mU,hT,hr st2 ha,hp,ht2,hb2,au hlen,au hfit];rfl;cases h;cases h;cases h;cases h;rename_i r _ _ _ _ _ _ hp;rw[hp]at hfree;cases r<;>simp at hfree;cases h
theorem Cf {x:Operand}(ho:o.op=.assign x)(hm:gQ an o=true)(h:lH E an o x st some=some st'):cr E Γ an X o st st':=by
 have hr:∀st2,dI an X o st st2→(st2.take x).1=(st.take x).1∧(st2.take x).2=st2.eM (g9 st x):=λst2 ha=>rz ha.ep λt ht=>ha.get t (by simpa[bZ,ho]using ht);have hlate:px an o=false:=by simpa[gQ,ho]using hm
 unfold lH at h;split at h;rename_i st1 htk;split at h;rename_i e hT;cases h;refine cr.put rfl λst2 ha=>?_;have h2:st2.take x=(.val false [.nilsl],st2.eM (g9 st x)):=Prod.ext (by rw[(hr st2 ha).1,htk]) (hr st2 ha).2;simp only[bN,ho,lH,hlate,aD,bf,h2,hT];cases h;rename_i v st1 hno htk;cases h;have hst1:st1=st.eM (g9 st x):=by rw[←qR,htk]
 refine⟨⟨g9 st x++o.dst.toList.map λd=>(d,v),none,none⟩,⟨λy hy=>?_,λ_ hh=>(by cases hh),λ_ hh=>(by cases hh)⟩,?_,λst2 ha=>?_⟩;rcases al.1 hy with hy|hy;have:=vj y hy;simp[writes,sO,ho,bZ,this];obtain⟨d,hd,rfl⟩:=List.mem_map.1 hy;simp[writes,hd];rw[hst1];show _=st.eM _;rw[jv];cases o.dst<;>rfl;have h2:st2.take x=(v,st2.eM (g9 st x)):=Prod.ext (by rw[(hr st2 ha).1,htk]) (hr st2 ha).2;simp only[bN,ho,lH,hlate,aD,bf,h2];show some ((st2.eM (g9 st x)).put o.dst v)=some (st2.eM _);rw[jv];cases o.dst<;>rfl
theorem eL {α:Type}(l:List α)(i:Nat)(v:α)(t:Nat):nth (dM l i v) t=if i=t then(if i<l.length then some v else none) else nth l t:=by rw[cg,cP,cg,List.getElem?_set]
theorem yN (l:List AV)(a:List (Nat×AV)):(eV l a).length=l.length:=by induction a generalizing l with|nil=>rfl|cons x a ih=>rw[eV,ih,cP,aO]
theorem GQ {l l2:List AV}(a:List (Nat×AV))(hl:l2.length=l.length)(t:Nat)(h:nth l2 t=nth l t):nth (eV l2 a) t=nth (eV l a) t:=by induction a generalizing l l2 with|nil=>exact h|cons x a ih=>refine ih (by rw[cP,cP,aO,aO,hl]) ?_;rw[eL,eL,hl,h]
theorem GL {t:Nat}(h:st2.get t=st.get t)(hl:st2.slots.length=st.slots.length):nth st2.slots t=nth st.slots t:=by unfold AS.get at h;rw[cg,cg]at h⊢;rcases bd t st.slots.length with hlt|hge;rw[List.getElem?_eq_getElem hlt,List.getElem?_eq_getElem (by omega)]at h⊢;simpa using h;rw[List.getElem?_eq_none hge,List.getElem?_eq_none (by omega)]
def eR (st:AS):List Operand→List (Nat×AV)
 |[]=>[]
 |x::xs=>g9 st x++eR (st.eM (g9 st x)) xs
theorem pH:∀(xs:List Operand)(st:AS),∀y∈eR st xs,y.1∈Ac xs
 |[],_,y,hy=>by cases hy
 |x::xs,st,y,hy=>by simp only[Ac,List.flatMap_cons,al];rcases al.1 hy with hy|hy;exact .inl (vj y hy);exact .inr (pH xs _ y hy)
theorem qv:∀(xs:List Operand)(st st2:AS),st2.ep=st.ep→st2.slots.length=st.slots.length→(∀t∈Ac xs,nth st2.slots t=nth st.slots t)→
 (cK st2 xs).1=(cK st xs).1∧(cK st2 xs).2=st2.eM (eR st xs)
 |[],st,st2,_,_,_=>⟨rfl,rfl⟩
 |x::xs,st,st2,hep,hl,hg=>by
  have hx:∀t∈tm x,st2.get t=st.get t:=λt ht=>by unfold AS.get;rw[hg t (by simp[Ac,ht])]
  obtain⟨h1,h2⟩:=rz (st:=st) (st2:=st2) hep hx;have h3:=qR (st:=st) x;obtain⟨k1,k2⟩:=qv xs (st.eM (g9 st x)) (st2.eM (g9 st x)) hep (by simp only[AS.eM,yN,hl]) (λt ht=>GQ _ hl t (hg t (by simp only[Ac,List.flatMap_cons,al];exact .inr ht)));have e1:cK st (x::xs)=((st.take x).1::(cK (st.take x).2 xs).1,(cK (st.take x).2 xs).2):=rfl;have e2:cK st2 (x::xs)=((st2.take x).1::(cK (st2.take x).2 xs).1,(cK (st2.take x).2 xs).2):=rfl;rw[e1,e2,h1,h2,h3];refine⟨by rw[k1],?_⟩;show(cK (st2.eM (g9 st x)) xs).2=_;rw[k2,eR,jv]
theorem ry (xs:List Operand):(cK st xs).2=st.eM (eR st xs):=(qv xs st st rfl rfl (λ_ _=>rfl)).2
theorem dI.cK (ha:dI an X o st st2){xs:List Operand}(hx:∀t∈Ac xs,t∈bZ o):(cK st2 xs).1=(Dn.cK st xs).1∧(Dn.cK st2 xs).2=st2.eM (eR st xs):=qv xs st st2 ha.ep ha.len λt ht=>GL (ha.get t (hx t ht)) ha.len
theorem Et {T:TypeId}{parts:Array (Nat×Operand)}(ho:o.op=.build T parts)(h:ql E o T parts.toList st some=some st'):cr E Γ an X o st st':=by
 have hl:∀t∈Ac (parts.toList.map (·.2)),t∈bZ o:=λt ht=>by simp only[bZ,ho];exact ht
 unfold ql at h;split at h;rename_i ct offs hT;split at h;rename_i vs st1 htk;have hst1:st1=st.eM (eR st (parts.toList.map (·.2))):=by rw[←ry,htk]
 split at h;rename_i cs hb;cases h;refine⟨⟨eR st (parts.toList.map (·.2))++o.dst.toList.map λd=>(d,.val true cs),none,none⟩,⟨λy hy=>?_,λ_ hh=>(by cases hh),λ_ hh=>(by cases hh)⟩,?_,λst2 ha=>?_⟩;rcases al.1 hy with hy|hy;have:=hl _ (pH _ _ y hy);simp[writes,sO,ho,this];obtain⟨d,hd,rfl⟩:=List.mem_map.1 hy;simp[writes,hd];rw[hst1];show _=st.eM _;rw[jv];cases o.dst<;>rfl;obtain⟨k1,k2⟩:=ha.cK hl;have h2:cK st2 (parts.toList.map (·.2))=(vs,st2.eM (eR st (parts.toList.map (·.2)))):=Prod.ext (by rw[k1,htk]) k2;simp only[bN,ho,ql,hT,h2,hb];show some ((st2.eM _).put o.dst _)=some (st2.eM _);rw[jv];cases o.dst<;>rfl;cases h;cases h
theorem cr.Q5 {tl:List (Nat×AV)}{v:AV}(ht:sO an o=true)(hl:∀y∈tl,y.1∈bZ o)(h:st'=((st.eM tl).cU o.dst).put o.dst v)(h2:∀st2,dI an X o st st2→bN E Γ an o st2 some=some (((st2.eM tl).cU o.dst).put o.dst v)):cr E Γ an X o st st':=by
 have key:∀s:AS,(⟨tl++o.dst.toList.map λd=>(d,v),none,o.dst⟩:vn).apply s=((s.eM tl).cU o.dst).put o.dst v:=by intro s;cases o.dst with|none=>simp only[vn.apply,Option.toList,List.map_nil,aU,AS.eM,AS.cU,AS.put]|some d=>simp only[vn.apply,Option.toList,cl,List.map_nil,qs,AS.eM,AS.cU,AS.put,eV]
 refine⟨⟨tl++o.dst.toList.map λd=>(d,v),none,o.dst⟩,⟨λy hy=>?_,λ_ hh=>(by cases hh),λd hh=>hh⟩,by rw[key];exact h,λst2 ha=>by rw[key];exact h2 st2 ha⟩;rcases al.1 hy with hy|hy;simp[writes,ht,hl y hy];obtain⟨d,hd,rfl⟩:=List.mem_map.1 hy;simp[writes,hd]
theorem o8 {tl:List (Nat×AV)}{d:Option Nat}:(st.eM tl).dU d=st.dU d:=rfl
theorem vM {T:TypeId}{len:Nat}{parts:Array (Nat×Operand)}(ho:o.op=.buildSlice T len parts)(h:fU E o T len parts.toList st some=some st'):cr E Γ an X o st st':=by
 have hl:∀t∈Ac (parts.toList.map (·.2)),t∈bZ o:=λt ht=>by simp only[bZ,ho];exact ht
 unfold fU at h;split at h;rename_i e hT;split at h;rename_i hc;split at h;rename_i vs st1 htk;have hst1:st1=st.eM (eR st (parts.toList.map (·.2))):=by rw[←ry,htk]
 split at h;rename_i xs hb;cases h;refine cr.Q5 (tl:=eR st (parts.toList.map (·.2))) (v:=.one (.sl (.own (st.dU o.dst 0)) e xs)) (by simp[sO,ho]) (λy hy=>hl _ (pH _ _ y hy)) ?_ λst2 ha=>?_;rw[hst1,AS.iT,o8];obtain⟨k1,k2⟩:=ha.cK hl;have h2:cK st2 (parts.toList.map (·.2))=(vs,st2.eM (eR st (parts.toList.map (·.2)))):=Prod.ext (by rw[k1,htk]) k2;simp only[bN,ho,fU,hT,h2,hb,au hc];rw[AS.iT,o8,ha.dU];cases h;cases h;cases h
theorem w8 {T:TypeId}{n c:Operand}(ho:o.op=.makeSlice T n c)(h:hU E o T n c st some=some st'):cr E Γ an X o st st':=by
 have hr:∀st2,dI an X o st st2→st2.rd n=st.rd n∧st2.rd c=st.rd c:=λst2 ha=>
  ⟨ha.rd (λt ht=>by simp[bZ,ho,ht]),ha.rd (λt ht=>by simp[bZ,ho,ht])⟩
 unfold hU at h;split at h;rename_i e len cap hT hn hc;split at h;rename_i hlc;unfold room at h;split at h;rename_i hrm;cases h;refine cr.new (v:=.one (.sl (.own (st.dU o.dst 0)) e (List.replicate len.toNat e.zero))) rfl λst2 ha=>?_;simp only[bN,ho,hU,(hr st2 ha).1,(hr st2 ha).2,hT,hn,hc,au hlc,room,au hrm,AS.iT,ha.dU];cases h;cases h;cases h
theorem Ce {ts:Array TypeId}{args:Array Operand}(ho:o.op=.call {callee:=.builtin .append,args,argTypes:=ts})(h:mY E o ts.toList args.toList st some=some st'):cr E Γ an X o st st':=by
 have hlk:∀t∈Ac args.toList,t∈bZ o:=λt ht=>by simp only[bZ,ho];exact ht
 unfold mY at h;split at h;rename_i t t' s x hts hargs;have hl:∀u∈Ac [s,x],u∈bZ o:=by rw[←hargs];exact hlk
 have hboth:∀st2,dI an X o st st2→(st2.take s).1=(st.take s).1∧((st2.take s).2.take x).1=((st.take s).2.take x).1∧((st2.take s).2.take x).2=st2.eM (eR st [s,x]):=by intro st2 ha;obtain⟨k1,k2⟩:=ha.cK hl;simp only[Dn.cK,List.cons.injEq,dS]at k1 k2;exact⟨k1.1,k1.2,k2⟩
 have hself:((st.take s).2.take x).2=st.eM (eR st [s,x]):=ry (st:=st) [s,x];split at h;rename_i tag e xs st1 htk1;split at h;rename_i fl e' ys st1' htk2;split at h;rename_i he;subst he;split at h;rename_i hc;unfold room at h;split at h;rename_i hrm;cases h;have hst1:(st.take s).2=st1:=by rw[htk1]
 have hst2:st1'=st.eM (eR st [s,x]):=by rw[←hself,hst1,htk2]
 refine cr.Q5 (tl:=eR st [s,x]) (v:=.one (.sl (.own (st.dU o.dst 0)) e' (xs++ys))) (by simp[sO,ho]) (λy hy=>hl _ (pH _ _ y hy)) ?_ λst2 ha=>?_;rw[hst2,AS.iT,o8];obtain⟨k1,k2,k3⟩:=hboth st2 ha;have e1:st2.take s=(.val false [.sl (.own tag) e' xs],(st2.take s).2):=Prod.ext (by rw[k1,htk1]) rfl;have e2:(st2.take s).2.take x=(.val false [.sl fl e' ys],st2.eM (eR st [s,x])):=Prod.ext (by rw[k2,hst1,htk2]) k3;simp only[bN,ho,mY,hts,hargs];rw[e1];simp only;rw[e2];simp only[dite_true,ha.ep,au hc,room,au hrm,AS.iT,o8,ha.dU];cases h;cases h;cases h;rename_i sx st1' htk2;split at h;rename_i he;subst he;split at h;rename_i hc;unfold room at h;split at h;rename_i hrm;cases h;have hst1:(st.take s).2=st1:=by rw[htk1]
 have hst2:st1'=st.eM (eR st [s,x]):=by rw[←hself,hst1,htk2]
 refine cr.Q5 (tl:=eR st [s,x]) (v:=.one (.sl (.own (st.dU o.dst 0)) (.int .u8) (xs++cW sx))) (by simp[sO,ho]) (λy hy=>hl _ (pH _ _ y hy)) ?_ λst2 ha=>?_;rw[hst2,AS.iT,o8];obtain⟨k1,k2,k3⟩:=hboth st2 ha;have e1:st2.take s=(.val false [.sl (.own tag) (.int .u8) xs],(st2.take s).2):=Prod.ext (by rw[k1,htk1]) rfl;have e2:(st2.take s).2.take x=(.val false [.str sx],st2.eM (eR st [s,x])):=Prod.ext (by rw[k2,hst1,htk2]) k3;simp only[bN,ho,mY,hts,hargs];rw[e1];simp only;rw[e2];simp only[dite_true,au hc,room,au hrm,AS.iT,o8,ha.dU];cases h;cases h;cases h;cases h;cases h;cases h
theorem I8 {T:TypeId}{x:Operand}(ho:o.op=.box T x)(h:Bm o x st some=some st'):cr E Γ an X o st st':=by
 have hr:∀st2,dI an X o st st2→(st2.take x).1=(st.take x).1∧(st2.take x).2=st2.eM (g9 st x):=λst2 ha=>rz ha.ep λt ht=>ha.get t (by simpa[bZ,ho]using ht);unfold Bm at h;split at h;rename_i d g cs st1 hd htk;have hst1:st1=st.eM (g9 st x):=by rw[←qR,htk]
 split at h;rename_i hb;split at h;rename_i hs;cases h;have hb0:nth st.boxes d=some none:=by rw[hst1]at hb;exact hb
 have key:∀s:AS,(⟨g9 st x++[(d,.one (.ptr d 0))],some (d,cs),none⟩:vn).apply s=((s.eM (g9 st x)).cz d (some cs)).put (some d) (.one (.ptr d 0)):=by intro s;simp only[vn.apply,qs,AS.eM,AS.cz,AS.put,eV]
 refine⟨⟨g9 st x++[(d,.one (.ptr d 0))],some (d,cs),none⟩,⟨λy hy=>?_,λb hb'=>?_,λ_ hh=>(by cases hh)⟩,?_,λst2 ha=>?_⟩;rcases al.1 hy with hy|hy;have:=vj y hy;simp[writes,sO,ho,bZ,this];simp only[bS]at hy;subst hy;simp[writes,hd];cases hb';simp[sQ,ho,hd];rw[key,hst1,hd];have h2:st2.take x=(.val g cs,st2.eM (g9 st x)):=Prod.ext (by rw[(hr st2 ha).1,htk]) (hr st2 ha).2;have hb2:nth (st2.eM (g9 st x)).boxes d=some none:=by show nth st2.boxes d=_;rw[(ha.dst d hd).2];exact hb0
 simp only[bN,ho,Bm,hd,h2,hb2,au hs,key];cases h;cases h;cases h
theorem zn (hΓ:∀f,(Γ f).io=false∧((Γ f).bx=true→(Γ f).cur=true)∧(Γ f).pr=false)(hm:gQ an o=true)(hfree:bU E an X o st=true)(h:bN E Γ an o st some=some st'):cr E Γ an X o st st':=by
 have h0:=h;unfold bN at h;split at h;rename_i ho;exact GG ho h;rename_i ho;have hlate:px an o=false:=by simpa[gQ,ho]using hm
 rw[aq (by simp[hlate])]at h;exact Cf ho hm h;rename_i ho;exact GH ho h;rename_i ho;exact Es ho h;rename_i ho;exact I8 ho h;rename_i ho;exact GF ho hm hfree h;rename_i T p x ho;split at h;rename_i hd;cases p with
 |tmp pp=>
  have hlate:px an o=false:=by simp only[gQ,ho,ab,aA]at hm;exact hm.2
  rw[aq (by simp[hlate])]at h;exact Ey ho hd hm hfree h
 |const v=>simp[gQ,ho]at hm
 |func f=>simp[gQ,ho]at hm
 |global g=>simp[gQ,ho]at hm
 cases h;rename_i ho;exact yA ho h0;rename_i ho;exact I7 ho h;rename_i ho;exact K4 ho h;rename_i ho;exact Eu ho h;rename_i ho;exact w7 ho hfree h;rename_i ho;exact Ev ho h;rename_i ho;exact Et ho h;rename_i ho;exact vM ho h;rename_i ho;exact w8 ho h;rename_i ho;exact Ew ho hm hfree h;rename_i ho;simp[gQ,ho]at hm;rename_i ho;simp[gQ,ho]at hm;rename_i ho;exact zS ho h;rename_i ho;exact zT ho hfree h;rename_i ho;exact I9 ho h;rename_i ho;exact Jb ho h;rename_i ho;exact Ja ho h;rename_i ho;exact Ce ho h;rename_i ho;exact GD hΓ ho hfree h;cases h
end Go.Dn
