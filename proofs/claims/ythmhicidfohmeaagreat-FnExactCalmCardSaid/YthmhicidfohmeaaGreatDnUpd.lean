import Derived.Test.YthmhicidfohmeaaGreatDnMask
/- What an operation looks at and what it turns: for regions whose order is drawn. -/
namespace Go.Dn
structure DL where
 slots:List (Nat×AV):=[]
 box:Option (Nat×List AC):=none
 iss:Option Nat:=none
def gz (l:List AV):List (Nat×AV)→List AV
 |[]=>l
 |x::r=>gz (fD l x.1 x.2) r
def DL.apply (u:DL)(st:AS):AS:=
 ⟨gz st.slots u.slots,(match u.box with|some b=>fD st.boxes b.1 (some b.2)|none=>st.boxes),st.ep,(match u.iss with|some d=>fD st.iss d true|none=>st.iss),st.io⟩
structure eP (an:An) (X:List Nat) (o:Oper) (st st2:AS):Prop where
 len:st2.slots.length=st.slots.length
 get:∀t∈cU o,st2.get t=st.get t
 ep:st2.ep=st.ep
 dst:∀d,o.dst=some d→nth st2.iss d=nth st.iss d∧nth st2.boxes d=nth st.boxes d
 box:∀s,X.contains s=false→nth st2.boxes s=nth st.boxes s
 er:∀t∈erS an o,st2.get t=st.get t
structure DL.Bg (an:An) (u:DL) (o:Oper):Prop where
 slots:∀x∈u.slots,x.1∈writes an o
 box:∀b,u.box=some b→b.1∈BK an o
 iss:∀d,u.iss=some d→o.dst=some d
variable {E:Env} {Γ:bH} {an:An} {X:List Nat} {o:Oper} {st st2 st':AS}
theorem VH {x:Operand}(hep:st2.ep=st.ep)(h:∀t∈tm x,st2.get t=st.get t):st2.rd x=st.rd x:=by cases x with|tmp t=>simp only[AS.rd,hep,h t (by simp[tm])]|const v=>rfl|func f=>rfl|global g=>rfl
def c8 (E:Env)(Γ:bH)(an:An)(X:List Nat)(o:Oper)(st st':AS):Prop:=
 ∃u:DL,u.Bg an o∧st'=u.apply st∧∀st2,eP an X o st st2→cj E Γ an o st2 some=some (u.apply st2)
def yA (o:Oper)(v:AV):DL:={slots:=o.dst.toList.map λd=>(d,v)}
theorem nO (v:AV):(yA o v).apply st=st.put o.dst v:=by unfold yA DL.apply AS.put;cases o.dst<;>rfl
theorem wP (v:AV):(yA o v).Bg an o:=by refine⟨λx hx=>?_,λb hb=>by simp[yA]at hb,λd hd=>by simp[yA]at hd⟩;simp only[yA,List.mem_map]at hx;obtain⟨d,hd,rfl⟩:=hx;simp[writes,hd]
def BJ (o:Oper)(v:AV):DL:={slots:=o.dst.toList.map λd=>(d,v),iss:=o.dst}
theorem CS (v:AV):(BJ o v).apply st=(st.eh o.dst).put o.dst v:=by unfold BJ DL.apply AS.put AS.eh;cases o.dst<;>rfl
theorem HZ (v:AV):(BJ o v).Bg an o:=by refine⟨λx hx=>?_,λb hb=>by simp[BJ]at hb,λd hd=>by simpa[BJ]using hd⟩;simp only[BJ,List.mem_map]at hx;obtain⟨d,hd,rfl⟩:=hx;simp[writes,hd]
theorem c8.put {v:AV}(h:st'=st.put o.dst v)(h2:∀st2,eP an X o st st2→cj E Γ an o st2 some=some (st2.put o.dst v)):c8 E Γ an X o st st':=⟨yA o v,wP v,by rw[nO];exact h,λst2 ha=>by rw[nO];exact h2 st2 ha⟩
theorem eP.rd (ha:eP an X o st st2){x:Operand}(hx:∀t∈tm x,t∈cU o):st2.rd x=st.rd x:=VH ha.ep λt ht=>ha.get t (hx t ht)
theorem PB {c x y:Operand}(ho:o.op=.pick c x y)(h:zH o c x y st some=some st'):c8 E Γ an X o st st':=by
 have hr:∀st2,eP an X o st st2→st2.rd c=st.rd c∧st2.rd x=st.rd x∧st2.rd y=st.rd y:=λst2 ha=>
  ⟨ha.rd (λt ht=>by simp[cU,ho,ht]),ha.rd (λt ht=>by simp[cU,ho,ht]),ha.rd (λt ht=>by simp[cU,ho,ht])⟩
 unfold zH at h;split at h;rename_i t hc;split at h;rename_i a b hx hy;cases h;refine c8.put rfl λst2 ha=>?_;obtain⟨h1,h2,h3⟩:=hr st2 ha;simp only[cj,ho,zH,h1,h2,h3,hc,hx,hy];rename_i va vb hno;have hgo:∀st2,eP an X o st st2→cj E Γ an o st2 some=cond t (some (st2.put o.dst (st.rd x))) (some (st2.put o.dst (st.rd y))):=by intro st2 ha;obtain⟨h1,h2,h3⟩:=hr st2 ha;simp only[cj,ho,zH,h1,h2,h3,hc]
 cases t with|true=>cases h;exact c8.put rfl λst2 ha=>hgo st2 ha|false=>cases h;exact c8.put rfl λst2 ha=>hgo st2 ha
 cases h
theorem Gx {d s:Nat}{cs:List AC}{v:AV}:(⟨[(d,v)],some (s,cs),none⟩:DL).apply st=(st.dB s (some cs)).put (some d) v:=rfl
theorem Pz {T:TypeId}{p:Operand}(ho:o.op=.load T p)(hm:kb an o=true)(hfree:c9 E an X o st=true)(h:qZ E an o T p st some=some st'):c8 E Γ an X o st st':=by
 have hr:∀st2,eP an X o st st2→st2.rd p=st.rd p:=λst2 ha=>ha.rd (λt ht=>by simpa[cU,ho]using ht);have htk:CP an o=false:=by simp only[kb,ho]at hm;unfold CP;cases hdd:o.dst with|none=>rfl|some d=>rw[hdd]at hm;simp only[cn,aY]at hm;rcases hm with hm|hm;simp only[hm,gi];cases hmb:an.mb d with|none=>rw[hmb]at hm;cases hm|some _=>simp[hmb]
 unfold qZ at h;split at h;rename_i sh s off hT hp;simp only[c9,ho,hp,aj,aY]at hfree;split at h;rename_i cs hb;split at h;rename_i hfit;split at h;rename_i d hd;have hbx:∀st2,eP an X o st st2→nth st2.boxes s=nth st.boxes s:=λst2 ha=>ha.box s hfree.1.1;cases hf:an.mv.contains d with
 |false=>simp only[hf,aQ,bF]at h;cases h;refine c8.put (by rw[hd]) λst2 ha=>?_;simp only[cj,ho,qZ,hT,hr st2 ha,hp,hbx st2 ha,hb,ay hfit,hd,hf,aQ,bF,ha.ep]
 |true=>
  simp only[hf,bl]at h;have hmb:an.mb d=some s:=by have:=hfree.1.2;rw[hd]at this;simp only[hf,al,cB,bj]at this;exact this
  cases h;refine⟨⟨[(d,.val sh.agg ((cs.drop off).take sh.ct.size))],some (s,cf cs off (aN st.ep ((cs.drop off).take sh.ct.size))),none⟩,⟨λx hx=>?_,λb hb'=>?_,λ_ hh=>by cases hh⟩,?_,λst2 ha=>?_⟩;simp only[ed]at hx;subst hx;simp[writes,hd];cases hb';simp only[BK,ho,hd,hf,ah,hmb];simp;rw[Gx,hd];simp only[cj,ho,qZ,hT,hr st2 ha,hp,hbx st2 ha,hb,ay hfit,hd,hf,bl,ha.ep,Gx]
 cases h;cases h;cases h;rename_i sh fl e x i off hT hp;rw[aq (by simp[htk])]at h;split at h;rename_i hl;split at h;rename_i hfit;cases h;refine c8.put rfl λst2 ha=>?_;simp only[cj,ho,qZ,hT,hr st2 ha,hp,ha.ep,htk,aQ,bF,ay hl,ay hfit];cases h;rename_i hl;have hroot:∀r t ep0,fl=.loc ep0 (some (r,t))→∀st2,eP an X o st st2→st2.dU r=st.dU r:=by rintro r t ep0 rfl st2 ha;simp only[c9,ho,hp,aj,cn]at hfree;rcases hfree.1 with hq|hq;exact absurd hq hl;cases r with|slot b j=>simp only[AS.dU];rw[ha.er b (by simpa using hq)]|box b j=>simp only[AS.dU];rw[ha.box b (by simpa using hq)]|io j=>cases hq
 unfold yt at h;split at h;rename_i ep0 r t;split at h;rename_i t' e' ys hrg;split at h;rename_i he;split at h;rename_i hc;cases hi:idx (he▸ys:List _) i with|none=>rw[hi]at h;cases h|some y=>rw[hi]at h;simp only[aa]at h;cases h;refine c8.put rfl λst2 ha=>?_;simp only[cj,ho,qZ,hT,hr st2 ha,hp,ha.ep,htk,aQ,bF,aq hl,yt,hroot _ _ _ rfl st2 ha,hrg,dif_pos he,ay hc,hi,aa]
 cases h;cases h;cases h;cases h;cases h
theorem GA {x:Operand}(ho:o.op=.nilCheck x)(h:cj E Γ an o st some=some st'):c8 E Γ an X o st st':=by have hr:∀st2,eP an X o st st2→st2.rd x=st.rd x:=λst2 ha=>ha.rd (λt ht=>by simpa[cU,ho]using ht);simp only[cj,ho]at h;split at h;rename_i s off hx;cases h;refine c8.put rfl λst2 ha=>?_;simp only[cj,ho,hr st2 ha,hx];rename_i fl e y i off hx;cases h;refine c8.put rfl λst2 ha=>?_;simp only[cj,ho,hr st2 ha,hx];cases h
theorem Hm {op:BinOp}{x y:AV}(h:(AD op x y λc=>some (st.put o.dst (.one c)))=some st'):∃v,st'=st.put o.dst v∧∀st2:AS,(AD op x y λc=>some (st2.put o.dst (.one c)))=some (st2.put o.dst v):=by have key:∀s:AS,(AD op x y λc=>some (s.put o.dst (.one c)))=(AD op x y some).bind λc=>some (s.put o.dst (.one c)):=λs=>(z9 op x y some _).symm;rw[key st]at h;cases hb:AD op x y some with|none=>rw[hb]at h;cases h|some c=>rw[hb]at h;cases h;exact⟨_,rfl,λst2=>by rw[key st2,hb];rfl⟩
theorem Ja {op:BinOp}{b:Bool}(h:(yD op b λc=>some (st.put o.dst (.one c)))=some st'):∃v,st'=st.put o.dst v∧∀st2:AS,(yD op b λc=>some (st2.put o.dst (.one c)))=some (st2.put o.dst v):=by unfold yD at h;split at h;cases h;exact⟨_,rfl,λst2=>rfl⟩;cases h;exact⟨_,rfl,λst2=>rfl⟩;cases h
theorem SQ {op:BinOp}{T T':TypeId}{x y:Operand}(ho:o.op=.binOp op T x y T')(h:vM E o op T x y st some=some st'):c8 E Γ an X o st st':=by
 have hr:∀st2,eP an X o st st2→st2.rd x=st.rd x∧st2.rd y=st.rd y:=λst2 ha=>
  ⟨ha.rd (λt ht=>by simp[cU,ho,ht]),ha.rd (λt ht=>by simp[cU,ho,ht])⟩
 unfold vM at h;split at h;rename_i a b hx hy;split at h;rename_i hT;obtain⟨v,rfl,hv⟩:=Hm h;refine c8.put rfl λst2 ha=>?_;simp only[cj,ho,vM,(hr st2 ha).1,(hr st2 ha).2,hx,hy,ay hT];exact hv st2;cases h;rename_i xs ys hx hy;split at h;rename_i ls hq;split at h;rename_i hfit;obtain⟨v,rfl,hv⟩:=Hm h;refine c8.put rfl λst2 ha=>?_;simp only[cj,ho,vM,(hr st2 ha).1,(hr st2 ha).2,hx,hy,hq,ay hfit];exact hv st2;cases h;cases h;rename_i fl e xs hx hy;split at h;rename_i hT;split at h;cases h;rename_i hlen;obtain⟨v,rfl,hv⟩:=Ja h;refine c8.put rfl λst2 ha=>?_;simp only[cj,ho,vM,(hr st2 ha).1,(hr st2 ha).2,hx,hy,ha.ep,ay hT,aq hlen];exact hv st2;cases h;rename_i hx hy;split at h;rename_i hT;obtain⟨v,rfl,hv⟩:=Ja h;refine c8.put rfl λst2 ha=>?_;simp only[cj,ho,vM,(hr st2 ha).1,(hr st2 ha).2,hx,hy,ay hT];exact hv st2;cases h;rename_i a b hn1 hn2 hn3 hn4;obtain⟨v,rfl,hv⟩:=Hm h;refine c8.put rfl λst2 ha=>?_;simp only[cj,ho,vM,(hr st2 ha).1,(hr st2 ha).2];exact hv st2
theorem Vq {op:UnOp}{T:TypeId}{x:Operand}(ho:o.op=.unOp op T x)(h:(Ya op (st.rd x) λc=>some (st.put o.dst (.one c)))=some st'):c8 E Γ an X o st st':=by have hr:∀st2,eP an X o st st2→st2.rd x=st.rd x:=λst2 ha=>ha.rd (λt ht=>by simpa[cU,ho]using ht);have key:∀s:AS,(Ya op (st.rd x) λc=>some (s.put o.dst (.one c)))=(Ya op (st.rd x) some).bind λc=>some (s.put o.dst (.one c)):=λs=>(N9 op (st.rd x) some _).symm;rw[key st]at h;cases hb:Ya op (st.rd x) some with|none=>rw[hb]at h;cases h|some c=>rw[hb]at h;cases h;refine c8.put rfl λst2 ha=>?_;simp only[cj,ho,hr st2 ha];rw[key st2,hb];rfl
theorem M6 {S:TypeId}{p:Operand}{f:Nat}(ho:o.op=.fieldAddr S p f)(h:uW E o S p f st some=some st'):c8 E Γ an X o st st':=by have hr:∀st2,eP an X o st st2→st2.rd p=st.rd p:=λst2 ha=>ha.rd (λt ht=>by simpa[cU,ho]using ht);unfold uW at h;split at h;rename_i hT hp;split at h;rename_i hf;cases h;refine c8.put rfl λst2 ha=>?_;simp only[cj,ho,uW,hr st2 ha,hT,hp,hf];cases h;rename_i hT hp;split at h;rename_i hf;cases h;refine c8.put rfl λst2 ha=>?_;simp only[cj,ho,uW,hr st2 ha,hT,hp,hf];cases h;cases h
theorem uL {v:AV}{s:AS}(h:v.now s.ep=true):v.fresh s=v:=by
 cases v with
 |tup vs=>rfl
 |val g cs=>
  simp only[AV.now,bd]at h;simp only[AV.fresh];congr 1;have:cs.map s.fresh=cs.map id:=List.map_congr_left λc hc=>by have hn:=h c hc;unfold AS.fresh;split;simp only[AC.now]at hn;rw[hn];rfl;rfl
  rw[this,List.map_id]
theorem Mt {v:AV}{st st2:AS}(he:st2.ep=st.ep)(h:v.now st.ep=true∨∃g ep b j t e xs,v=.val g [.sl (.loc ep (some (.box b j,t))) e xs]∧nth st2.boxes b=nth st.boxes b):v.fresh st2=v.fresh st:=by rcases h with h|⟨g,ep,b,j,t,e,xs,rfl,hb⟩;rw[uL h,uL (by rw[he];exact h)];simp only[AV.fresh,bW,List.map_nil];congr 2;unfold AS.fresh;simp only[AS.dU,he,hb]
theorem Eg {T:TypeId}{x i:Operand}(ho:o.op=.indexAddr T x i)(hfree:c9 E an X o st=true)(h:jb E o T x i st some=some st'):c8 E Γ an X o st st':=by
 have hr:∀st2,eP an X o st st2→st2.rd x=st.rd x∧st2.rd i=st.rd i:=λst2 ha=>
  ⟨ha.rd (λt ht=>by simp[cU,ho,ht]),ha.rd (λt ht=>by simp[cU,ho,ht])⟩
 have hf2:∀st2,eP an X o st st2→(st.rd x).fresh st2=(st.rd x).fresh st:=λst2 ha=>by refine Mt ha.ep ?_;simp only[c9,ho,cn]at hfree;rcases hfree with hn|hn;exact .inl hn;split at hn;rename_i g ep b j t e xs hx;exact .inr ⟨g,ep,b,j,t,e,xs,hx,ha.box b (by simpa using hn)⟩;cases hn
 unfold jb at h;split at h;rename_i e' fl e xs k n hT hx hi;split at h;rename_i hc;cases hix:idx xs n with|none=>rw[hix]at h;cases h|some y=>rw[hix]at h;cases h;refine c8.put rfl λst2 ha=>?_;have hf3:=hf2 st2 ha;rw[hx]at hf3;simp only[cj,ho,jb,(hr st2 ha).1,(hr st2 ha).2,hf3,hT,hi,ha.ep,ay hc,hix,aa]
 cases h;cases h
theorem M7 {T:TypeId}{x i:Operand}(ho:o.op=.index T x i)(h:wH E o T x i st some=some st'):c8 E Γ an X o st st':=by
 have hr:∀st2,eP an X o st st2→st2.rd x=st.rd x∧st2.rd i=st.rd i:=λst2 ha=>
  ⟨ha.rd (λt ht=>by simp[cU,ho,ht]),ha.rd (λt ht=>by simp[cU,ho,ht])⟩
 unfold wH at h;split at h;rename_i s k n hx hi;split at h;rename_i hc;cases hix:idx s n with|none=>rw[hix]at h;cases h|some y=>rw[hix]at h;cases h;refine c8.put rfl λst2 ha=>?_;simp only[cj,ho,wH,(hr st2 ha).1,(hr st2 ha).2,hx,hi,ay hc,hix,aa]
 cases h;cases h
theorem c8.new {v:AV}(h:st'=(st.eh o.dst).put o.dst v)(h2:∀st2,eP an X o st st2→cj E Γ an o st2 some=some ((st2.eh o.dst).put o.dst v)):c8 E Γ an X o st st':=⟨BJ o v,HZ v,by rw[CS];exact h,λst2 ha=>by rw[CS];exact h2 st2 ha⟩
theorem eP.hY (ha:eP an X o st st2):st2.hY o.dst=st.hY o.dst:=by funext j;cases hd:o.dst with|none=>rfl|some d=>simp only[AS.hY,(ha.dst d hd).1]
theorem Cq {lo hi:Option Operand}{n:Nat}{f:AS→Int→Int→Option AS}(hs:∀st2,eP an X o st st2→lo.map st2.rd=lo.map st.rd∧hi.map st2.rd=hi.map st.rd)(h:jm st lo hi n (f st)=some st'):∃a b,f st a b=some st'∧∀st2,eP an X o st st2→jm st2 lo hi n (f st2)=f st2 a b:=by unfold jm at h;split at h;rename_i h1 h2;exact⟨_,_,h,λst2 ha=>by simp only[jm,(hs st2 ha).1,(hs st2 ha).2,h1,h2]⟩;rename_i h1 h2;exact⟨_,_,h,λst2 ha=>by simp only[jm,(hs st2 ha).1,(hs st2 ha).2,h1,h2]⟩;rename_i h1 h2;exact⟨_,_,h,λst2 ha=>by simp only[jm,(hs st2 ha).1,(hs st2 ha).2,h1,h2]⟩;rename_i h1 h2;exact⟨_,_,h,λst2 ha=>by simp only[jm,(hs st2 ha).1,(hs st2 ha).2,h1,h2]⟩;cases h
theorem M8 {T:TypeId}{x:Operand}{lo hi:Option Operand}(ho:o.op=.slice T x lo hi none)(hm:kb an o=true)(hfree:c9 E an X o st=true)(h:vE E an o T x lo hi st some=some st'):c8 E Γ an X o st st':=by
 have hr:∀st2,eP an X o st st2→st2.rd x=st.rd x:=λst2 ha=>ha.rd (λt ht=>by simp[cU,ho,ht]);have hb:∀st2,eP an X o st st2→lo.map st2.rd=lo.map st.rd∧hi.map st2.rd=hi.map st.rd:=by
  intro st2 ha;constructor;cases lo with|none=>rfl|some y=>simp only[cg];rw[ha.rd (λt ht=>by simp[cU,ho,tmO,ht])]
  cases hi with|none=>rfl|some y=>simp only[cg];rw[ha.rd (λt ht=>by simp[cU,ho,tmO,ht])]
 have hnow:(st.rd x).now st.ep=true:=by simpa[c9,ho]using hfree
 have hf2:∀st2,eP an X o st st2→(st.rd x).fresh st2=st.rd x:=λst2 ha=>uL (by rw[ha.ep];exact hnow);have htk:CP an o=false:=by simpa[kb,ho]using hm
 unfold vE at h;rw[aq (by simp[htk]),uL hnow]at h;split at h;rename_i s hx;split at h;rename_i hT;obtain⟨a,b,h1,h2⟩:=Cq (f:=λs0 a b=>aa (sub s a b) λs'=>some (s0.put o.dst (.one (.str s')))) hb h;cases hsub:sub s a b with|none=>rw[hsub]at h1;cases h1|some s'=>rw[hsub]at h1;cases h1;refine c8.put rfl λst2 ha=>?_;have hf3:=hf2 st2 ha;rw[hx]at hf3;simp only[cj,ho,vE,htk,aQ,bF,hr st2 ha,hx,hf3,ay hT];rw[h2 st2 ha,hsub];rfl
 cases h;rename_i fl e xs hx;split at h;rename_i hT;obtain⟨a,b,h1,h2⟩:=Cq (f:=λs0 a b=>aa (sub xs a b) λxs'=>some (s0.put o.dst (.one (.sl (GJ an o fl a) e xs')))) hb h;cases hsub:sub xs a b with|none=>rw[hsub]at h1;cases h1|some s'=>rw[hsub]at h1;cases h1;refine c8.put rfl λst2 ha=>?_;have hf3:=hf2 st2 ha;rw[hx]at hf3;simp only[cj,ho,vE,htk,aQ,bF,hr st2 ha,hx,hf3,ha.ep,ay hT];rw[h2 st2 ha,hsub];rfl
 cases h;cases h
theorem Bh {args:List Operand}(hl:∀t,t∈Lg args→t∈cU o)(ha:eP an X o st st2):args.map st2.rd=args.map st.rd:=by apply List.map_congr_left;intro x hx;exact ha.rd (λt ht=>hl t (by simp only[Lg,List.mem_flatMap];exact⟨x,hx,ht⟩))
theorem SS {ts:Array TypeId}{args:Array Operand}(ho:o.op=.call {callee:=.builtin .len,args,argTypes:=ts})(h:Gw E o ts.toList args.toList st some=some st'):c8 E Γ an X o st st':=by have hr:∀st2,eP an X o st st2→args.toList.map st2.rd=args.toList.map st.rd:=λst2 ha=>Bh (λt ht=>by simp only[cU,ho];exact ht) ha;unfold Gw at h;split at h;rename_i t s hts hx;split at h;rename_i hT;cases h;refine c8.put rfl λst2 ha=>?_;simp only[cj,ho,Gw,hr st2 ha,hts,hx,ay hT];cases h;rename_i t _ _ xs hts hx;split at h;rename_i hT;cases h;refine c8.put rfl λst2 ha=>?_;simp only[cj,ho,Gw,hr st2 ha,hts,hx,ay hT];cases h;cases h
theorem SV {ts:Array TypeId}{args:Array Operand}(ho:o.op=.call {callee:=.builtin .min,args,argTypes:=ts})(h:HJ o args.toList st some=some st'):c8 E Γ an X o st st':=by have hr:∀st2,eP an X o st st2→args.toList.map st2.rd=args.toList.map st.rd:=λst2 ha=>Bh (λt ht=>by simp only[cU,ho];exact ht) ha;unfold HJ at h;split at h;rename_i hx;cases h;refine c8.put rfl λst2 ha=>?_;simp only[cj,ho,HJ,hr st2 ha,hx];cases h
theorem SU {ts:Array TypeId}{args:Array Operand}(ho:o.op=.call {callee:=.builtin .max,args,argTypes:=ts})(h:HI o args.toList st some=some st'):c8 E Γ an X o st st':=by have hr:∀st2,eP an X o st st2→args.toList.map st2.rd=args.toList.map st.rd:=λst2 ha=>Bh (λt ht=>by simp only[cU,ho];exact ht) ha;unfold HI at h;split at h;rename_i hx;cases h;refine c8.put rfl λst2 ha=>?_;simp only[cj,ho,HI,hr st2 ha,hx];cases h
theorem Py (hΓ:∀f,(Γ f).io=false∧(Γ f).bx=false){f:Operand}{ts:Array TypeId}{args:Array Operand}(ho:o.op=.call {callee:=.value f,args,argTypes:=ts})(hfree:c9 E an X o st=true)(h:zd Γ o f args.toList st some=some st'):c8 E Γ an X o st st':=by
 have hr:∀st2,eP an X o st st2→st2.rd f=st.rd f∧(args.toList.map λx=>((st2.rd x).fresh st2).asArg st2.ep)=args.toList.map λx=>((st.rd x).fresh st).asArg st.ep:=by
  intro st2 ha;refine⟨ha.rd (λt ht=>by simp[cU,ho,ht]),?_⟩;apply List.map_congr_left;intro x hx;have hnow:(st.rd x).now st.ep=true:=by simp only[c9,ho,bd]at hfree;exact hfree x hx
  rw[ha.rd (λt ht=>by simp only[cU,ho,ar,Lg,List.mem_flatMap];exact .inr ⟨x,hx,ht⟩),uL hnow,uL (s:=st2) (by rw[ha.ep];exact hnow),ha.ep]
 unfold zd at h;split at h;rename_i k hf;rw[(hΓ k).2,(hΓ k).1]at h;simp only[af]at h;cases hg:(Γ k).fn (args.toList.map λx=>((st.rd x).fresh st).asArg st.ep)with|none=>rw[hg]at h;cases h|some y=>rw[hg]at h;simp only[aa]at h;cases hsel:(Γ k).sel y with|true=>rw[hsel]at h;cases h;refine c8.new rfl λst2 ha=>?_;simp only[cj,ho,zd,(hr st2 ha).1,hf,(hΓ k).1,(hΓ k).2,af];rw[(hr st2 ha).2,hg];simp only[aa,hsel,ah,ha.ep,ha.hY]|false=>rw[hsel]at h;cases h;refine c8.new rfl λst2 ha=>?_;simp only[cj,ho,zd,(hr st2 ha).1,hf,(hΓ k).1,(hΓ k).2,af];rw[(hr st2 ha).2,hg];simp only[aa,hsel,af,ha.ep,ha.hY]
 cases h
theorem HK {src dst:TypeId}{x:Operand}(ho:o.op=.convert src dst x)(h:iC E o src dst x st some=some st'):c8 E Γ an X o st st':=by
 have hr:∀st2,eP an X o st st2→st2.rd x=st.rd x:=λst2 ha=>ha.rd (λt ht=>by simpa[cU,ho]using ht);unfold iC at h;split at h;rename_i h1 h2 h3;cases h;refine c8.put rfl λst2 ha=>?_;simp only[cj,ho,iC,hr st2 ha,h1,h2,h3];rename_i h1 h2 h3;cases h;refine c8.put rfl λst2 ha=>?_;simp only[cj,ho,iC,hr st2 ha,h1,h2,h3];rename_i offs val s hno h1 h2 h3;split at h;rename_i hb;unfold room at h;split at h;rename_i hrm;cases h;refine c8.new (v:=.one (.sl (.own (st.hY o.dst 0)) (.int .u8) (ch s))) rfl λst2 ha=>?_;have hval:∀k:AS→Option AS,iC E o src dst x st2 k=if E.bytes dst then room s.length (k (st2.lL o.dst (.int .u8) (ch s))) else none:=by intro k;unfold iC;rw[hr st2 ha,h1,h2,h3];obtain⟨ag,ct,of⟩:=val;cases ag with|true=>rfl|false=>cases ct with|str=>exact(hno _ rfl).elim|_=>rfl
 simp only[cj,ho];rw[hval,ay hb,room,ay hrm,AS.lL,ha.hY];cases h;cases h;rename_i val offs fl xs h1 h2 h3;split at h;rename_i hb;cases h;refine c8.put rfl λst2 ha=>?_;have hval:∀k:AS→Option AS,iC E o src dst x st2 k=if E.bytes src∧fl.live st2.ep then k (st2.put o.dst (.one (.str (bytesOf xs)))) else none:=by intro k;unfold iC;rw[hr st2 ha,h1,h2,h3];obtain⟨ag,ct,of⟩:=val;cases ag with|true=>rfl|false=>cases ct<;>rfl
 simp only[cj,ho];rw[hval,ha.ep,ay hb];cases h;cases h
theorem DM {d:Nat}{cs:List AC}{v:AV}:(⟨[(d,v)],some (d,cs),none⟩:DL).apply st=(st.dB d (some cs)).put (some d) v:=rfl
theorem M4 {T:TypeId}(ho:o.op=.alloc T)(h:xr E o T st some=some st'):c8 E Γ an X o st st':=by unfold xr at h;split at h;rename_i d sh hd hT;split at h;rename_i hb;cases h;refine⟨⟨[(d,.one (.ptr d 0))],some (d,cellsOf sh.ct (.own none) sh.ct.zero),none⟩,⟨λx hx=>?_,λb hb'=>?_,λ_ hh=>by cases hh⟩,?_,λst2 ha=>?_⟩;simp only[ed]at hx;subst hx;simp[writes,hd];cases hb';simp[BK,ho,hd];rw[DM,hd];simp only[cj,ho,xr,hd,hT,(ha.dst d hd).2,hb,DM];cases h;cases h
def kz (st:AS):Operand→List (Nat×AV)
 | .tmp t=>[(t,(st.get t).aN st.ep)]
 |_=>[]
theorem wL (l:List AV)(a b:List (Nat×AV)):gz l (a++b)=gz (gz l a) b:=by induction a generalizing l with|nil=>rfl|cons x a ih=>exact ih _
def AS.fY (st:AS)(l:List (Nat×AV)):AS:={st with slots:=gz st.slots l}
theorem anb:st.fY []=st:=rfl
theorem mQ (a b:List (Nat×AV)):st.fY (a++b)=(st.fY a).fY b:=by simp only[AS.fY,wL]
theorem ana (d:Nat)(v:AV):st.put (some d) v=st.fY [(d,v)]:=rfl
theorem xn (x:Operand):(st.take x).2=st.fY (kz st x):=by cases x<;>rfl
theorem yy {x:Operand}(hep:st2.ep=st.ep)(h:∀t∈tm x,st2.get t=st.get t):(st2.take x).1=(st.take x).1∧(st2.take x).2=st2.fY (kz st x):=by cases x with|tmp t=>have:=h t (by simp[tm]);refine⟨this,?_⟩;rw[xn];simp only[kz,this,hep]|const v=>exact⟨rfl,rfl⟩|func f=>exact⟨rfl,rfl⟩|global g=>exact⟨rfl,rfl⟩
theorem CQ {x:Operand}:∀y∈kz st x,y.1∈tm x:=by cases x<;>simp[kz,tm]
theorem PA {x:Operand}(ho:o.op=.move x)(h:xb an o x st some=some st'):c8 E Γ an X o st st':=by
 unfold xb at h;cases hd:o.dst with
 |none=>rw[hd]at h;cases h
 |some d=>
  rw[hd]at h;cases hf:an.mv.contains d with
  |false=>simp only[hf,aQ,bF]at h;cases h;refine c8.put (v:=st.rd x) (by rw[hd]) λst2 ha=>?_;have hr:st2.rd x=st.rd x:=ha.rd (λt ht=>by simpa[cU,ho]using ht);simp only[cj,ho,xb,hd,hf,aQ,bF,hr]
  |true=>
   simp only[hf,bl]at h;cases h;have hr:∀st2,eP an X o st st2→(st2.take x).1=(st.take x).1∧(st2.take x).2=st2.fY (kz st x):=λst2 ha=>yy ha.ep λt ht=>ha.get t (by simpa[cU,ho]using ht);refine⟨⟨kz st x++[(d,(st.take x).1)],none,none⟩,⟨λy hy=>?_,λ_ hh=>(by cases hh),λ_ hh=>(by cases hh)⟩,?_,λst2 ha=>?_⟩;rcases ar.1 hy with hy|hy;have:=CQ y hy;have hf':d∈an.mv:=by simpa using hf
   simp[writes,zW,ho,hd,hf',cU,this];simp only[ed]at hy;subst hy;simp[writes,hd];rw[xn];show _=st.fY _;rw[mQ];rfl;simp only[cj,ho,xb,hd,hf,bl,(hr st2 ha).1,(hr st2 ha).2];show some ((st2.fY (kz st x)).put (some d) (st.take x).1)=some (st2.fY _);rw[mQ];rfl
theorem Mn {ep:Nat}{cs:List AC}(h:cs.all AC.ew=true):aN ep cs=cs:=by
 rw[bd]at h;unfold aN;have:cs.map (AC.borrow ep none)=cs.map id:=List.map_congr_left λc hc=>by have:=h c hc;cases c<;>first|rfl|(simp[AC.ew]at this)
 rw[this,List.map_id]
theorem Zf {s:AS}{t:Nat}{vs:List (Bool×List AC)}(h:s.get t=.tup vs):s.put (some t) (.tup vs)=s:=by cases s with|mk slots boxes ep iss io=>simp only[AS.put,AS.mk.injEq,fG];rw[dz];apply List.ext_getElem?;intro i;rw[List.getElem?_set];split;rename_i hd;subst hd;simp only[AS.get,cR]at h;split;rename_i hlt;rw[List.getElem?_eq_getElem hlt]at h⊢;simp only[dZ]at h;rw[h];rename_i hge;rw[List.getElem?_eq_none (Nat.le_of_not_lt hge)];rfl
theorem HL {t i:Nat}(ho:o.op=.extract (.tmp t) i)(hfree:c9 E an X o st=true)(h:iD o t i st some=some st'):c8 E Γ an X o st st':=by
 have hr:∀st2,eP an X o st st2→st2.get t=st.get t:=λst2 ha=>ha.get t (by simp[cU,ho]);unfold iD at h;simp only[c9,ho]at hfree;split at h
 ·rename_i vs hv;rw[hv]at hfree;split at h
  ·rename_i g cs hn;simp only[hn]at hfree;have hfl:cs.all AC.ew=true∨∃d,o.dst=some d∧an.mv.contains d=true:=by cases hd:o.dst with|none=>simp only[hd,Bool.or_false]at hfree;exact .inl hfree|some d=>simp only[hd,cn]at hfree;rcases hfree with h|h;exact .inl h;exact .inr ⟨d,rfl,h⟩
   rcases hfl with hfree|⟨d,hd,hmv⟩;rotate_left;cases h;refine⟨⟨[(t,.tup (fD vs i (g,aN 0 cs))),(d,.val g cs)],none,none⟩,⟨λx hx=>?_,(λ_ hb=>by cases hb),(λ_ hh=>by cases hh)⟩,?_,λst2 ha=>?_⟩;simp only[bM,List.not_mem_nil,or_false]at hx;rcases hx with rfl|rfl;simp only[writes,zW,ho,hd,hmv,ah,cU];simp;simp only[writes,hd];simp;rw[hd];rfl;have h2:st2.get t=.tup vs:=by rw[hr st2 ha,hv]
   simp only[cj,ho,iD,h2,hn,hd];rfl;skip;have hset:fD vs i (g,cs)=vs:=by rw[dz];rw[cR]at hn;apply List.ext_getElem?;intro k;rw[List.getElem?_set];split;rename_i hk;subst hk;obtain⟨hl,he⟩:=List.getElem?_eq_some_iff.1 hn;rw[ay hl,hn];rfl
   have key:∀s:AS,s.get t=.tup vs→(s.put (some t) (.tup (fD vs i (g,aN 0 cs))))=s:=λs hs=>by rw[Mn hfree,hset,Zf hs]
   rw[key st hv]at h;cases h;refine c8.put rfl λst2 ha=>?_;have h2:st2.get t=.tup vs:=by rw[hr st2 ha,hv]
   simp only[cj,ho,iD,h2,hn];rw[key st2 h2]
  cases h
 cases h
def uI (st:AS):Operand→List (Nat×AV)
 | .tmp t=>[(t,(st.get t).aN st.ep)]
 |_=>[]
theorem Hd (st:AS)(x:Operand):(st.take x).2=⟨gz st.slots (uI st x),st.boxes,st.ep,st.iss,st.io⟩:=by cases x<;>rfl
theorem M9 {T:TypeId}{pp:Nat}{x:Operand}(ho:o.op=.store T (.tmp pp) x)(hd:o.dst=none)(hm:kb an o=true)(hfree:c9 E an X o st=true)(h:rX E T (.tmp pp) x st some=some st'):c8 E Γ an X o st st':=by
 have hr:∀st2,eP an X o st st2→st2.rd (.tmp pp)=st.rd (.tmp pp):=λst2 ha=>ha.rd (λt ht=>by simp only[cU,ho,ar];exact .inl ht);have hsb:(an.sb pp).isNone=false:=by simp only[kb,ho,aj]at hm;cases hb:an.sb pp with|none=>rw[hb]at hm;cases hm.1|some _=>rfl
 simp only[c9,ho,hsb,gi,cB]at hfree;unfold rX at h;split at h;rename_i sh s off hT hp;rw[hp]at hfree;simp only[aj,aY,bj]at hfree;split at h;rename_i gg vs st1 htk;have htk1:(st.take x).1=.val gg vs:=by rw[htk]
 have hst1:st1=⟨gz st.slots (uI st x),st.boxes,st.ep,st.iss,st.io⟩:=by rw[←Hd,htk]
 split at h;rename_i cs hb;split at h;rename_i hlen;split at h;rename_i hfit;cases h;have hbx:∀st2,eP an X o st st2→nth st2.boxes s=nth st.boxes s:=λst2 ha=>ha.box s hfree.1;refine⟨⟨uI st x,some (s,cf cs off vs),none⟩,⟨λy hy=>?_,λb hb'=>?_,λ_ hh=>by cases hh⟩,?_,λst2 ha=>?_⟩;cases x with|tmp t=>simp only[uI,ed]at hy;subst hy;simp only[writes,zW,ho,ah,cU,hd];simp[tm]|_=>simp[uI]at hy
 cases hb';simp only[BK,ho,hfree.2];simp;rw[hst1];rfl;have hx2:(st2.take x).1=(st.take x).1∧uI st2 x=uI st x:=by cases x with|tmp t=>have hg:st2.get t=st.get t:=ha.get t (by simp[cU,ho,tm]);simp only[AS.take,uI,hg,ha.ep];simp|const v=>exact⟨rfl,rfl⟩|func f=>exact⟨rfl,rfl⟩|global g=>exact⟨rfl,rfl⟩
 have ht2:st2.take x=(.val gg vs,⟨gz st2.slots (uI st x),st2.boxes,st2.ep,st2.iss,st2.io⟩):=by rw[←hx2.2,←Hd,←htk1,←hx2.1]
 have hb2:(nth st2.boxes s).getD none=some cs:=by rw[hbx st2 ha];rw[hst1]at hb;exact hb
 have hlate:u9 an o=false:=by simp only[kb,ho,aj,aY]at hm;exact hm.2
 simp only[cj,ho,hd,hlate,aQ,bF,rX,hT,hr st2 ha,hp,ht2,hb2,ay hlen,ay hfit];rfl;cases h;cases h;cases h;cases h;rename_i r _ _ _ _ _ _ hp;rw[hp]at hfree;cases r<;>simp at hfree;cases h
theorem KB {x:Operand}(ho:o.op=.assign x)(hm:kb an o=true)(h:pS E an o x st some=some st'):c8 E Γ an X o st st':=by
 have hr:∀st2,eP an X o st st2→(st2.take x).1=(st.take x).1∧(st2.take x).2=st2.fY (kz st x):=λst2 ha=>yy ha.ep λt ht=>ha.get t (by simpa[cU,ho]using ht);have hlate:u9 an o=false:=by simpa[kb,ho]using hm
 unfold pS at h;split at h;rename_i st1 htk;split at h;rename_i e hT;cases h;refine c8.put rfl λst2 ha=>?_;have h2:st2.take x=(.val false [.nilsl],st2.fY (kz st x)):=Prod.ext (by rw[(hr st2 ha).1,htk]) (hr st2 ha).2;simp only[cj,ho,pS,hlate,aQ,bF,h2,hT];cases h;rename_i v st1 hno htk;cases h;have hst1:st1=st.fY (kz st x):=by rw[←xn,htk]
 refine⟨⟨kz st x++o.dst.toList.map λd=>(d,v),none,none⟩,⟨λy hy=>?_,λ_ hh=>(by cases hh),λ_ hh=>(by cases hh)⟩,?_,λst2 ha=>?_⟩;rcases ar.1 hy with hy|hy;have:=CQ y hy;simp[writes,zW,ho,cU,this];obtain⟨d,hd,rfl⟩:=List.mem_map.1 hy;simp[writes,hd];rw[hst1];show _=st.fY _;rw[mQ];cases o.dst<;>rfl;have h2:st2.take x=(v,st2.fY (kz st x)):=Prod.ext (by rw[(hr st2 ha).1,htk]) (hr st2 ha).2;simp only[cj,ho,pS,hlate,aQ,bF,h2];show some ((st2.fY (kz st x)).put o.dst v)=some (st2.fY _);rw[mQ];cases o.dst<;>rfl
theorem fV {α:Type}(l:List α)(i:Nat)(v:α)(t:Nat):nth (fD l i v) t=if i=t then(if i<l.length then some v else none) else nth l t:=by rw[cR,dz,cR,List.getElem?_set]
theorem GN (l:List AV)(a:List (Nat×AV)):(gz l a).length=l.length:=by induction a generalizing l with|nil=>rfl|cons x a ih=>rw[gz,ih,dz,aL]
theorem PK {l l2:List AV}(a:List (Nat×AV))(hl:l2.length=l.length)(t:Nat)(h:nth l2 t=nth l t):nth (gz l2 a) t=nth (gz l a) t:=by induction a generalizing l l2 with|nil=>exact h|cons x a ih=>refine ih (by rw[dz,dz,aL,aL,hl]) ?_;rw[fV,fV,hl,h]
theorem PG {t:Nat}(h:st2.get t=st.get t)(hl:st2.slots.length=st.slots.length):nth st2.slots t=nth st.slots t:=by unfold AS.get at h;rw[cR,cR]at h⊢;rcases bB t st.slots.length with hlt|hge;rw[List.getElem?_eq_getElem hlt,List.getElem?_eq_getElem (by omega)]at h⊢;simpa using h;rw[List.getElem?_eq_none hge,List.getElem?_eq_none (by omega)]
def gv (st:AS):List Operand→List (Nat×AV)
 |[]=>[]
 |x::xs=>kz st x++gv (st.fY (kz st x)) xs
theorem vJ:∀(xs:List Operand)(st:AS),∀y∈gv st xs,y.1∈Lg xs
 |[],_,y,hy=>by cases hy
 |x::xs,st,y,hy=>by simp only[Lg,List.flatMap_cons,ar];rcases ar.1 hy with hy|hy;exact .inl (CQ y hy);exact .inr (vJ xs _ y hy)
theorem wO:∀(xs:List Operand)(st st2:AS),st2.ep=st.ep→st2.slots.length=st.slots.length→(∀t∈Lg xs,nth st2.slots t=nth st.slots t)→
 (dm st2 xs).1=(dm st xs).1∧(dm st2 xs).2=st2.fY (gv st xs)
 |[],st,st2,_,_,_=>⟨rfl,rfl⟩
 |x::xs,st,st2,hep,hl,hg=>by
  have hx:∀t∈tm x,st2.get t=st.get t:=λt ht=>by unfold AS.get;rw[hg t (by simp[Lg,ht])]
  obtain⟨h1,h2⟩:=yy (st:=st) (st2:=st2) hep hx;have h3:=xn (st:=st) x;obtain⟨k1,k2⟩:=wO xs (st.fY (kz st x)) (st2.fY (kz st x)) hep (by simp only[AS.fY,GN,hl]) (λt ht=>PK _ hl t (hg t (by simp only[Lg,List.flatMap_cons,ar];exact .inr ht)));have e1:dm st (x::xs)=((st.take x).1::(dm (st.take x).2 xs).1,(dm (st.take x).2 xs).2):=rfl;have e2:dm st2 (x::xs)=((st2.take x).1::(dm (st2.take x).2 xs).1,(dm (st2.take x).2 xs).2):=rfl;rw[e1,e2,h1,h2,h3];refine⟨by rw[k1],?_⟩;show(dm (st2.fY (kz st x)) xs).2=_;rw[k2,gv,mQ]
theorem yx (xs:List Operand):(dm st xs).2=st.fY (gv st xs):=(wO xs st st rfl rfl (λ_ _=>rfl)).2
theorem eP.dm (ha:eP an X o st st2){xs:List Operand}(hx:∀t∈Lg xs,t∈cU o):(dm st2 xs).1=(Dn.dm st xs).1∧(Dn.dm st2 xs).2=st2.fY (gv st xs):=wO xs st st2 ha.ep ha.len λt ht=>PG (ha.get t (hx t ht)) ha.len
theorem M5 {T:TypeId}{parts:Array (Nat×Operand)}(ho:o.op=.build T parts)(h:wC E o T parts.toList st some=some st'):c8 E Γ an X o st st':=by
 have hl:∀t∈Lg (parts.toList.map (·.2)),t∈cU o:=λt ht=>by simp only[cU,ho];exact ht
 unfold wC at h;split at h;rename_i ct offs hT;split at h;rename_i vs st1 htk;have hst1:st1=st.fY (gv st (parts.toList.map (·.2))):=by rw[←yx,htk]
 split at h;rename_i cs hb;cases h;refine⟨⟨gv st (parts.toList.map (·.2))++o.dst.toList.map λd=>(d,.val true cs),none,none⟩,⟨λy hy=>?_,λ_ hh=>(by cases hh),λ_ hh=>(by cases hh)⟩,?_,λst2 ha=>?_⟩;rcases ar.1 hy with hy|hy;have:=hl _ (vJ _ _ y hy);simp[writes,zW,ho,this];obtain⟨d,hd,rfl⟩:=List.mem_map.1 hy;simp[writes,hd];rw[hst1];show _=st.fY _;rw[mQ];cases o.dst<;>rfl;obtain⟨k1,k2⟩:=ha.dm hl;have h2:dm st2 (parts.toList.map (·.2))=(vs,st2.fY (gv st (parts.toList.map (·.2)))):=Prod.ext (by rw[k1,htk]) k2;simp only[cj,ho,wC,hT,h2,hb];show some ((st2.fY _).put o.dst _)=some (st2.fY _);rw[mQ];cases o.dst<;>rfl;cases h;cases h
theorem c8.afA {tl:List (Nat×AV)}{v:AV}(ht:zW an o=true)(hl:∀y∈tl,y.1∈cU o)(h:st'=((st.fY tl).eh o.dst).put o.dst v)(h2:∀st2,eP an X o st st2→cj E Γ an o st2 some=some (((st2.fY tl).eh o.dst).put o.dst v)):c8 E Γ an X o st st':=by
 have key:∀s:AS,(⟨tl++o.dst.toList.map λd=>(d,v),none,o.dst⟩:DL).apply s=((s.fY tl).eh o.dst).put o.dst v:=by intro s;cases o.dst with|none=>simp only[DL.apply,Option.toList,List.map_nil,a9,AS.fY,AS.eh,AS.put]|some d=>simp only[DL.apply,Option.toList,bW,List.map_nil,wL,AS.fY,AS.eh,AS.put,gz]
 refine⟨⟨tl++o.dst.toList.map λd=>(d,v),none,o.dst⟩,⟨λy hy=>?_,λ_ hh=>(by cases hh),λd hh=>hh⟩,by rw[key];exact h,λst2 ha=>by rw[key];exact h2 st2 ha⟩;rcases ar.1 hy with hy|hy;simp[writes,ht,hl y hy];obtain⟨d,hd,rfl⟩:=List.mem_map.1 hy;simp[writes,hd]
theorem uO {tl:List (Nat×AV)}{d:Option Nat}:(st.fY tl).hY d=st.hY d:=rfl
theorem Dm {T:TypeId}{len:Nat}{parts:Array (Nat×Operand)}(ho:o.op=.buildSlice T len parts)(h:ix E o T len parts.toList st some=some st'):c8 E Γ an X o st st':=by
 have hl:∀t∈Lg (parts.toList.map (·.2)),t∈cU o:=λt ht=>by simp only[cU,ho];exact ht
 unfold ix at h;split at h;rename_i e hT;split at h;rename_i hc;split at h;rename_i vs st1 htk;have hst1:st1=st.fY (gv st (parts.toList.map (·.2))):=by rw[←yx,htk]
 split at h;rename_i xs hb;cases h;refine c8.afA (tl:=gv st (parts.toList.map (·.2))) (v:=.one (.sl (.own (st.hY o.dst 0)) e xs)) (by simp[zW,ho]) (λy hy=>hl _ (vJ _ _ y hy)) ?_ λst2 ha=>?_;rw[hst1,AS.lL,uO];obtain⟨k1,k2⟩:=ha.dm hl;have h2:dm st2 (parts.toList.map (·.2))=(vs,st2.fY (gv st (parts.toList.map (·.2)))):=Prod.ext (by rw[k1,htk]) k2;simp only[cj,ho,ix,hT,h2,hb,ay hc];rw[AS.lL,uO,ha.hY];cases h;cases h;cases h
theorem Eh {T:TypeId}{n c:Operand}(ho:o.op=.makeSlice T n c)(h:kN E o T n c st some=some st'):c8 E Γ an X o st st':=by
 have hr:∀st2,eP an X o st st2→st2.rd n=st.rd n∧st2.rd c=st.rd c:=λst2 ha=>
  ⟨ha.rd (λt ht=>by simp[cU,ho,ht]),ha.rd (λt ht=>by simp[cU,ho,ht])⟩
 unfold kN at h;split at h;rename_i e len cap hT hn hc;split at h;rename_i hlc;unfold room at h;split at h;rename_i hrm;cases h;refine c8.new (v:=.one (.sl (.own (st.hY o.dst 0)) e (List.replicate len.toNat e.zero))) rfl λst2 ha=>?_;simp only[cj,ho,kN,(hr st2 ha).1,(hr st2 ha).2,hT,hn,hc,ay hlc,room,ay hrm,AS.lL,ha.hY];cases h;cases h;cases h
theorem KA {ts:Array TypeId}{args:Array Operand}(ho:o.op=.call {callee:=.builtin .append,args,argTypes:=ts})(h:sa E o ts.toList args.toList st some=some st'):c8 E Γ an X o st st':=by
 have hlk:∀t∈Lg args.toList,t∈cU o:=λt ht=>by simp only[cU,ho];exact ht
 unfold sa at h;split at h;rename_i t t' s x hts hargs;have hl:∀u∈Lg [s,x],u∈cU o:=by rw[←hargs];exact hlk
 have hboth:∀st2,eP an X o st st2→(st2.take s).1=(st.take s).1∧((st2.take s).2.take x).1=((st.take s).2.take x).1∧((st2.take s).2.take x).2=st2.fY (gv st [s,x]):=by intro st2 ha;obtain⟨k1,k2⟩:=ha.dm hl;simp only[Dn.dm,List.cons.injEq,fG]at k1 k2;exact⟨k1.1,k1.2,k2⟩
 have hself:((st.take s).2.take x).2=st.fY (gv st [s,x]):=yx (st:=st) [s,x];split at h;rename_i tag e xs st1 htk1;split at h;rename_i fl e' ys st1' htk2;split at h;rename_i he;subst he;split at h;rename_i hc;unfold room at h;split at h;rename_i hrm;cases h;have hst1:(st.take s).2=st1:=by rw[htk1]
 have hst2:st1'=st.fY (gv st [s,x]):=by rw[←hself,hst1,htk2]
 refine c8.afA (tl:=gv st [s,x]) (v:=.one (.sl (.own (st.hY o.dst 0)) e' (xs++ys))) (by simp[zW,ho]) (λy hy=>hl _ (vJ _ _ y hy)) ?_ λst2 ha=>?_;rw[hst2,AS.lL,uO];obtain⟨k1,k2,k3⟩:=hboth st2 ha;have e1:st2.take s=(.val false [.sl (.own tag) e' xs],(st2.take s).2):=Prod.ext (by rw[k1,htk1]) rfl;have e2:(st2.take s).2.take x=(.val false [.sl fl e' ys],st2.fY (gv st [s,x])):=Prod.ext (by rw[k2,hst1,htk2]) k3;simp only[cj,ho,sa,hts,hargs];rw[e1];simp only;rw[e2];simp only[dite_true,ha.ep,ay hc,room,ay hrm,AS.lL,uO,ha.hY];cases h;cases h;cases h;rename_i sx st1' htk2;split at h;rename_i he;subst he;split at h;rename_i hc;unfold room at h;split at h;rename_i hrm;cases h;have hst1:(st.take s).2=st1:=by rw[htk1]
 have hst2:st1'=st.fY (gv st [s,x]):=by rw[←hself,hst1,htk2]
 refine c8.afA (tl:=gv st [s,x]) (v:=.one (.sl (.own (st.hY o.dst 0)) (.int .u8) (xs++ch sx))) (by simp[zW,ho]) (λy hy=>hl _ (vJ _ _ y hy)) ?_ λst2 ha=>?_;rw[hst2,AS.lL,uO];obtain⟨k1,k2,k3⟩:=hboth st2 ha;have e1:st2.take s=(.val false [.sl (.own tag) (.int .u8) xs],(st2.take s).2):=Prod.ext (by rw[k1,htk1]) rfl;have e2:(st2.take s).2.take x=(.val false [.str sx],st2.fY (gv st [s,x])):=Prod.ext (by rw[k2,hst1,htk2]) k3;simp only[cj,ho,sa,hts,hargs];rw[e1];simp only;rw[e2];simp only[dite_true,ay hc,room,ay hrm,AS.lL,uO,ha.hY];cases h;cases h;cases h;cases h;cases h;cases h
theorem SR {T:TypeId}{x:Operand}(ho:o.op=.box T x)(h:Jj o x st some=some st'):c8 E Γ an X o st st':=by
 have hr:∀st2,eP an X o st st2→(st2.take x).1=(st.take x).1∧(st2.take x).2=st2.fY (kz st x):=λst2 ha=>yy ha.ep λt ht=>ha.get t (by simpa[cU,ho]using ht);unfold Jj at h;split at h;rename_i d g cs st1 hd htk;have hst1:st1=st.fY (kz st x):=by rw[←xn,htk]
 split at h;rename_i hb;split at h;rename_i hs;cases h;have hb0:nth st.boxes d=some none:=by rw[hst1]at hb;exact hb
 have key:∀s:AS,(⟨kz st x++[(d,.one (.ptr d 0))],some (d,cs),none⟩:DL).apply s=((s.fY (kz st x)).dB d (some cs)).put (some d) (.one (.ptr d 0)):=by intro s;simp only[DL.apply,wL,AS.fY,AS.dB,AS.put,gz]
 refine⟨⟨kz st x++[(d,.one (.ptr d 0))],some (d,cs),none⟩,⟨λy hy=>?_,λb hb'=>?_,λ_ hh=>(by cases hh)⟩,?_,λst2 ha=>?_⟩;rcases ar.1 hy with hy|hy;have:=CQ y hy;simp[writes,zW,ho,cU,this];simp only[ed]at hy;subst hy;simp[writes,hd];cases hb';simp[BK,ho,hd];rw[key,hst1,hd];have h2:st2.take x=(.val g cs,st2.fY (kz st x)):=Prod.ext (by rw[(hr st2 ha).1,htk]) (hr st2 ha).2;have hb2:nth (st2.fY (kz st x)).boxes d=some none:=by show nth st2.boxes d=_;rw[(ha.dst d hd).2];exact hb0
 simp only[cj,ho,Jj,hd,h2,hb2,ay hs,key];cases h;cases h;cases h
theorem G8 (hΓ:∀f,(Γ f).io=false∧(Γ f).bx=false)(hm:kb an o=true)(hfree:c9 E an X o st=true)(h:cj E Γ an o st some=some st'):c8 E Γ an X o st st':=by
 have h0:=h;unfold cj at h;split at h;rename_i ho;exact PA ho h;rename_i ho;have hlate:u9 an o=false:=by simpa[kb,ho]using hm
 rw[aq (by simp[hlate])]at h;exact KB ho hm h;rename_i ho;exact PB ho h;rename_i ho;exact M4 ho h;rename_i ho;exact SR ho h;rename_i ho;exact Pz ho hm hfree h;rename_i T p x ho;split at h;rename_i hd;cases p with
 |tmp pp=>
  have hlate:u9 an o=false:=by simp only[kb,ho,aj,aY]at hm;exact hm.2
  rw[aq (by simp[hlate])]at h;exact M9 ho hd hm hfree h
 |const v=>simp[kb,ho]at hm
 |func f=>simp[kb,ho]at hm
 |global g=>simp[kb,ho]at hm
 cases h;rename_i ho;exact GA ho h0;rename_i ho;exact SQ ho h;rename_i ho;exact Vq ho h;rename_i ho;exact M6 ho h;rename_i ho;exact Eg ho hfree h;rename_i ho;exact M7 ho h;rename_i ho;exact M5 ho h;rename_i ho;exact Dm ho h;rename_i ho;exact Eh ho h;rename_i ho;exact M8 ho hm hfree h;rename_i ho;simp[kb,ho]at hm;rename_i ho;simp[kb,ho]at hm;rename_i ho;exact HK ho h;rename_i ho;exact HL ho hfree h;rename_i ho;exact SS ho h;rename_i ho;exact SV ho h;rename_i ho;exact SU ho h;rename_i ho;exact KA ho h;rename_i ho;exact Py hΓ ho hfree h;cases h
end Go.Dn
