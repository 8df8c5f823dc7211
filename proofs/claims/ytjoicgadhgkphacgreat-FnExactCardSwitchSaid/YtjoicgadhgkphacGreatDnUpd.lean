import Derived.Test.YtjoicgadhgkphacGreatDnMask
/- What an operation looks at and what it turns: for regions whose order is drawn. -/
namespace Go.Dn
structure Dt where
 slots:List (Nat×AV):=[]
 box:Option (Nat×List AC):=none
 iss:Option Nat:=none
def gy (l:List AV):List (Nat×AV)→List AV
 |[]=>l
 |x::r=>gy (fD l x.1 x.2) r
def Dt.apply (u:Dt)(st:AS):AS:=
 ⟨gy st.slots u.slots,(match u.box with|some b=>fD st.boxes b.1 (some b.2)|none=>st.boxes),st.ep,(match u.iss with|some d=>fD st.iss d true|none=>st.iss),st.io⟩
structure eN (an:An) (X:List Nat) (o:Oper) (st st2:AS):Prop where
 len:st2.slots.length=st.slots.length
 get:∀t∈cW o,st2.get t=st.get t
 ep:st2.ep=st.ep
 dst:∀d,o.dst=some d→nth st2.iss d=nth st.iss d∧nth st2.boxes d=nth st.boxes d
 box:∀s,X.contains s=false→nth st2.boxes s=nth st.boxes s
 er:∀t∈erS an o,st2.get t=st.get t
structure Dt.AP (an:An) (u:Dt) (o:Oper):Prop where
 slots:∀x∈u.slots,x.1∈writes an o
 box:∀b,u.box=some b→b.1∈Bv an o
 iss:∀d,u.iss=some d→o.dst=some d
variable {E:Env} {Γ:bH} {an:An} {X:List Nat} {o:Oper} {st st2 st':AS}
theorem Vw {x:Operand}(hep:st2.ep=st.ep)(h:∀t∈tm x,st2.get t=st.get t):st2.rd x=st.rd x:=by cases x with|tmp t=>simp only[AS.rd,hep,h t (by simp[tm])]|const v=>rfl|func f=>rfl|global g=>rfl
def c9 (E:Env)(Γ:bH)(an:An)(X:List Nat)(o:Oper)(st st':AS):Prop:=
 ∃u:Dt,u.AP an o∧st'=u.apply st∧∀st2,eN an X o st st2→cf E Γ an o st2 some=some (u.apply st2)
def yl (o:Oper)(v:AV):Dt:={slots:=o.dst.toList.map λd=>(d,v)}
theorem nA (v:AV):(yl o v).apply st=st.put o.dst v:=by unfold yl Dt.apply AS.put;cases o.dst<;>rfl
theorem wK (v:AV):(yl o v).AP an o:=by refine⟨λx hx=>?_,λb hb=>by simp[yl]at hb,λd hd=>by simp[yl]at hd⟩;simp only[yl,List.mem_map]at hx;obtain⟨d,hd,rfl⟩:=hx;simp[writes,hd]
def Bu (o:Oper)(v:AV):Dt:={slots:=o.dst.toList.map λd=>(d,v),iss:=o.dst}
theorem CG (v:AV):(Bu o v).apply st=(st.ej o.dst).put o.dst v:=by unfold Bu Dt.apply AS.put AS.ej;cases o.dst<;>rfl
theorem HT (v:AV):(Bu o v).AP an o:=by refine⟨λx hx=>?_,λb hb=>by simp[Bu]at hb,λd hd=>by simpa[Bu]using hd⟩;simp only[Bu,List.mem_map]at hx;obtain⟨d,hd,rfl⟩:=hx;simp[writes,hd]
theorem c9.put {v:AV}(h:st'=st.put o.dst v)(h2:∀st2,eN an X o st st2→cf E Γ an o st2 some=some (st2.put o.dst v)):c9 E Γ an X o st st':=⟨yl o v,wK v,by rw[nA];exact h,λst2 ha=>by rw[nA];exact h2 st2 ha⟩
theorem eN.rd (ha:eN an X o st st2){x:Operand}(hx:∀t∈tm x,t∈cW o):st2.rd x=st.rd x:=Vw ha.ep λt ht=>ha.get t (hx t ht)
theorem PN {c x y:Operand}(ho:o.op=.pick c x y)(h:zn o c x y st some=some st'):c9 E Γ an X o st st':=by
 have hr:∀st2,eN an X o st st2→st2.rd c=st.rd c∧st2.rd x=st.rd x∧st2.rd y=st.rd y:=λst2 ha=>
  ⟨ha.rd (λt ht=>by simp[cW,ho,ht]),ha.rd (λt ht=>by simp[cW,ho,ht]),ha.rd (λt ht=>by simp[cW,ho,ht])⟩
 unfold zn at h;split at h;rename_i t hc;split at h;rename_i a b hx hy;cases h;refine c9.put rfl λst2 ha=>?_;obtain⟨h1,h2,h3⟩:=hr st2 ha;simp only[cf,ho,zn,h1,h2,h3,hc,hx,hy];rename_i va vb hno;have hgo:∀st2,eN an X o st st2→cf E Γ an o st2 some=cond t (some (st2.put o.dst (st.rd x))) (some (st2.put o.dst (st.rd y))):=by intro st2 ha;obtain⟨h1,h2,h3⟩:=hr st2 ha;simp only[cf,ho,zn,h1,h2,h3,hc]
 cases t with|true=>cases h;exact c9.put rfl λst2 ha=>hgo st2 ha|false=>cases h;exact c9.put rfl λst2 ha=>hgo st2 ha
 cases h
theorem Gv {d s:Nat}{cs:List AC}{v:AV}:(⟨[(d,v)],some (s,cs),none⟩:Dt).apply st=(st.dG s (some cs)).put (some d) v:=rfl
theorem PL {T:TypeId}{p:Operand}(ho:o.op=.load T p)(hm:jQ an o=true)(hfree:da E an X o st=true)(h:qL E an o T p st some=some st'):c9 E Γ an X o st st':=by
 have hr:∀st2,eN an X o st st2→st2.rd p=st.rd p:=λst2 ha=>ha.rd (λt ht=>by simpa[cW,ho]using ht);have htk:CE an o=false:=by simp only[jQ,ho]at hm;unfold CE;cases hdd:o.dst with|none=>rfl|some d=>rw[hdd]at hm;simp only[cm,aR]at hm;rcases hm with hm|hm;simp only[hm,gj];cases hmb:an.mb d with|none=>rw[hmb]at hm;cases hm|some _=>simp[hmb]
 unfold qL at h;split at h;rename_i sh s off hT hp;simp only[da,ho,hp,aj,aR]at hfree;split at h;rename_i cs hb;split at h;rename_i hfit;split at h;rename_i d hd;have hbx:∀st2,eN an X o st st2→nth st2.boxes s=nth st.boxes s:=λst2 ha=>ha.box s hfree.1.1;cases hf:an.mv.contains d with
 |false=>simp only[hf,aP,bB]at h;cases h;refine c9.put (by rw[hd]) λst2 ha=>?_;simp only[cf,ho,qL,hT,hr st2 ha,hp,hbx st2 ha,hb,ay hfit,hd,hf,aP,bB,ha.ep]
 |true=>
  simp only[hf,bk]at h;have hmb:an.mb d=some s:=by have:=hfree.1.2;rw[hd]at this;simp only[hf,al,cY,aW]at this;exact this
  cases h;refine⟨⟨[(d,.val sh.agg ((cs.drop off).take sh.ct.size))],some (s,ck cs off (aI st.ep ((cs.drop off).take sh.ct.size))),none⟩,⟨λx hx=>?_,λb hb'=>?_,λ_ hh=>by cases hh⟩,?_,λst2 ha=>?_⟩;simp only[ec]at hx;subst hx;simp[writes,hd];cases hb';simp only[Bv,ho,hd,hf,ai,hmb];simp;rw[Gv,hd];simp only[cf,ho,qL,hT,hr st2 ha,hp,hbx st2 ha,hb,ay hfit,hd,hf,bk,ha.ep,Gv]
 cases h;cases h;cases h;rename_i sh fl e x i off hT hp;rw[ao (by simp[htk])]at h;split at h;rename_i hl;split at h;rename_i hfit;cases h;refine c9.put rfl λst2 ha=>?_;simp only[cf,ho,qL,hT,hr st2 ha,hp,ha.ep,htk,aP,bB,ay hl,ay hfit];cases h;rename_i hl;have hroot:∀r t ep0,fl=.loc ep0 (some (r,t))→∀st2,eN an X o st st2→st2.dV r=st.dV r:=by rintro r t ep0 rfl st2 ha;simp only[da,ho,hp,aj,cm]at hfree;rcases hfree.1 with hq|hq;exact absurd hq hl;cases r with|slot b j=>simp only[AS.dV];rw[ha.er b (by simpa using hq)]|box b j=>simp only[AS.dV];rw[ha.box b (by simpa using hq)]|io j=>cases hq
 unfold ye at h;split at h;rename_i ep0 r t;split at h;rename_i t' e' ys hrg;split at h;rename_i he;split at h;rename_i hc;cases hi:idx (he▸ys:List _) i with|none=>rw[hi]at h;cases h|some y=>rw[hi]at h;simp only[aa]at h;cases h;refine c9.put rfl λst2 ha=>?_;simp only[cf,ho,qL,hT,hr st2 ha,hp,ha.ep,htk,aP,bB,ao hl,ye,hroot _ _ _ rfl st2 ha,hrg,dif_pos he,ay hc,hi,aa]
 cases h;cases h;cases h;cases h;cases h
theorem Gy {x:Operand}(ho:o.op=.nilCheck x)(h:cf E Γ an o st some=some st'):c9 E Γ an X o st st':=by have hr:∀st2,eN an X o st st2→st2.rd x=st.rd x:=λst2 ha=>ha.rd (λt ht=>by simpa[cW,ho]using ht);simp only[cf,ho]at h;split at h;rename_i s off hx;cases h;refine c9.put rfl λst2 ha=>?_;simp only[cf,ho,hr st2 ha,hx];rename_i fl e y i off hx;cases h;refine c9.put rfl λst2 ha=>?_;simp only[cf,ho,hr st2 ha,hx];cases h
theorem Hl {op:BinOp}{x y:AV}(h:(Al op x y λc=>some (st.put o.dst (.one c)))=some st'):∃v,st'=st.put o.dst v∧∀st2:AS,(Al op x y λc=>some (st2.put o.dst (.one c)))=some (st2.put o.dst v):=by have key:∀s:AS,(Al op x y λc=>some (s.put o.dst (.one c)))=(Al op x y some).bind λc=>some (s.put o.dst (.one c)):=λs=>(zI op x y some _).symm;rw[key st]at h;cases hb:Al op x y some with|none=>rw[hb]at h;cases h|some c=>rw[hb]at h;cases h;exact⟨_,rfl,λst2=>by rw[key st2,hb];rfl⟩
theorem Jg {op:BinOp}{b:Bool}(h:(yo op b λc=>some (st.put o.dst (.one c)))=some st'):∃v,st'=st.put o.dst v∧∀st2:AS,(yo op b λc=>some (st2.put o.dst (.one c)))=some (st2.put o.dst v):=by unfold yo at h;split at h;cases h;exact⟨_,rfl,λst2=>rfl⟩;cases h;exact⟨_,rfl,λst2=>rfl⟩;cases h
theorem SV {op:BinOp}{T T':TypeId}{x y:Operand}(ho:o.op=.binOp op T x y T')(h:vI E o op T x y st some=some st'):c9 E Γ an X o st st':=by
 have hr:∀st2,eN an X o st st2→st2.rd x=st.rd x∧st2.rd y=st.rd y:=λst2 ha=>
  ⟨ha.rd (λt ht=>by simp[cW,ho,ht]),ha.rd (λt ht=>by simp[cW,ho,ht])⟩
 unfold vI at h;split at h;rename_i a b hx hy;split at h;rename_i hT;obtain⟨v,rfl,hv⟩:=Hl h;refine c9.put rfl λst2 ha=>?_;simp only[cf,ho,vI,(hr st2 ha).1,(hr st2 ha).2,hx,hy,ay hT];exact hv st2;cases h;rename_i xs ys hx hy;split at h;rename_i ls hq;split at h;rename_i hfit;obtain⟨v,rfl,hv⟩:=Hl h;refine c9.put rfl λst2 ha=>?_;simp only[cf,ho,vI,(hr st2 ha).1,(hr st2 ha).2,hx,hy,hq,ay hfit];exact hv st2;cases h;cases h;rename_i fl e xs hx hy;split at h;rename_i hT;split at h;cases h;rename_i hlen;obtain⟨v,rfl,hv⟩:=Jg h;refine c9.put rfl λst2 ha=>?_;simp only[cf,ho,vI,(hr st2 ha).1,(hr st2 ha).2,hx,hy,ha.ep,ay hT,ao hlen];exact hv st2;cases h;rename_i hx hy;split at h;rename_i hT;obtain⟨v,rfl,hv⟩:=Jg h;refine c9.put rfl λst2 ha=>?_;simp only[cf,ho,vI,(hr st2 ha).1,(hr st2 ha).2,hx,hy,ay hT];exact hv st2;cases h;rename_i a b hn1 hn2 hn3 hn4;obtain⟨v,rfl,hv⟩:=Hl h;refine c9.put rfl λst2 ha=>?_;simp only[cf,ho,vI,(hr st2 ha).1,(hr st2 ha).2];exact hv st2
theorem Vh {op:UnOp}{T:TypeId}{x:Operand}(ho:o.op=.unOp op T x)(h:(XV op (st.rd x) λc=>some (st.put o.dst (.one c)))=some st'):c9 E Γ an X o st st':=by have hr:∀st2,eN an X o st st2→st2.rd x=st.rd x:=λst2 ha=>ha.rd (λt ht=>by simpa[cW,ho]using ht);have key:∀s:AS,(XV op (st.rd x) λc=>some (s.put o.dst (.one c)))=(XV op (st.rd x) some).bind λc=>some (s.put o.dst (.one c)):=λs=>(Oq op (st.rd x) some _).symm;rw[key st]at h;cases hb:XV op (st.rd x) some with|none=>rw[hb]at h;cases h|some c=>rw[hb]at h;cases h;refine c9.put rfl λst2 ha=>?_;simp only[cf,ho,hr st2 ha];rw[key st2,hb];rfl
theorem Nl {S:TypeId}{p:Operand}{f:Nat}(ho:o.op=.fieldAddr S p f)(h:uQ E o S p f st some=some st'):c9 E Γ an X o st st':=by have hr:∀st2,eN an X o st st2→st2.rd p=st.rd p:=λst2 ha=>ha.rd (λt ht=>by simpa[cW,ho]using ht);unfold uQ at h;split at h;rename_i hT hp;split at h;rename_i hf;cases h;refine c9.put rfl λst2 ha=>?_;simp only[cf,ho,uQ,hr st2 ha,hT,hp,hf];cases h;rename_i hT hp;split at h;rename_i hf;cases h;refine c9.put rfl λst2 ha=>?_;simp only[cf,ho,uQ,hr st2 ha,hT,hp,hf];cases h;cases h
theorem uH {v:AV}{s:AS}(h:v.now s.ep=true):v.fresh s=v:=by
 cases v with
 |tup vs=>rfl
 |val g cs=>
  simp only[AV.now,aU]at h;simp only[AV.fresh];congr 1;have:cs.map s.fresh=cs.map id:=List.map_congr_left λc hc=>by have hn:=h c hc;unfold AS.fresh;split;simp only[AC.now]at hn;rw[hn];rfl;rfl
  rw[this,List.map_id]
theorem MC {v:AV}{st st2:AS}(he:st2.ep=st.ep)(h:v.now st.ep=true∨∃g ep b j t e xs,v=.val g [.sl (.loc ep (some (.box b j,t))) e xs]∧nth st2.boxes b=nth st.boxes b):v.fresh st2=v.fresh st:=by rcases h with h|⟨g,ep,b,j,t,e,xs,rfl,hb⟩;rw[uH h,uH (by rw[he];exact h)];simp only[AV.fresh,cq,List.map_nil];congr 2;unfold AS.fresh;simp only[AS.dV,he,hb]
theorem D8 {T:TypeId}{x i:Operand}(ho:o.op=.indexAddr T x i)(hfree:da E an X o st=true)(h:ja E o T x i st some=some st'):c9 E Γ an X o st st':=by
 have hr:∀st2,eN an X o st st2→st2.rd x=st.rd x∧st2.rd i=st.rd i:=λst2 ha=>
  ⟨ha.rd (λt ht=>by simp[cW,ho,ht]),ha.rd (λt ht=>by simp[cW,ho,ht])⟩
 have hf2:∀st2,eN an X o st st2→(st.rd x).fresh st2=(st.rd x).fresh st:=λst2 ha=>by refine MC ha.ep ?_;simp only[da,ho,cm]at hfree;rcases hfree with hn|hn;exact .inl hn;split at hn;rename_i g ep b j t e xs hx;exact .inr ⟨g,ep,b,j,t,e,xs,hx,ha.box b (by simpa using hn)⟩;cases hn
 unfold ja at h;split at h;rename_i e' fl e xs k n hT hx hi;split at h;rename_i hc;cases hix:idx xs n with|none=>rw[hix]at h;cases h|some y=>rw[hix]at h;cases h;refine c9.put rfl λst2 ha=>?_;have hf3:=hf2 st2 ha;rw[hx]at hf3;simp only[cf,ho,ja,(hr st2 ha).1,(hr st2 ha).2,hf3,hT,hi,ha.ep,ay hc,hix,aa]
 cases h;cases h
theorem Nm {T:TypeId}{x i:Operand}(ho:o.op=.index T x i)(h:wA E o T x i st some=some st'):c9 E Γ an X o st st':=by
 have hr:∀st2,eN an X o st st2→st2.rd x=st.rd x∧st2.rd i=st.rd i:=λst2 ha=>
  ⟨ha.rd (λt ht=>by simp[cW,ho,ht]),ha.rd (λt ht=>by simp[cW,ho,ht])⟩
 unfold wA at h;split at h;rename_i s k n hx hi;split at h;rename_i hc;cases hix:idx s n with|none=>rw[hix]at h;cases h|some y=>rw[hix]at h;cases h;refine c9.put rfl λst2 ha=>?_;simp only[cf,ho,wA,(hr st2 ha).1,(hr st2 ha).2,hx,hi,ay hc,hix,aa]
 cases h;cases h
theorem c9.new {v:AV}(h:st'=(st.ej o.dst).put o.dst v)(h2:∀st2,eN an X o st st2→cf E Γ an o st2 some=some ((st2.ej o.dst).put o.dst v)):c9 E Γ an X o st st':=⟨Bu o v,HT v,by rw[CG];exact h,λst2 ha=>by rw[CG];exact h2 st2 ha⟩
theorem eN.hH (ha:eN an X o st st2):st2.hH o.dst=st.hH o.dst:=by funext j;cases hd:o.dst with|none=>rfl|some d=>simp only[AS.hH,(ha.dst d hd).1]
theorem Cd {lo hi:Option Operand}{n:Nat}{f:AS→Int→Int→Option AS}(hs:∀st2,eN an X o st st2→lo.map st2.rd=lo.map st.rd∧hi.map st2.rd=hi.map st.rd)(h:jl st lo hi n (f st)=some st'):∃a b,f st a b=some st'∧∀st2,eN an X o st st2→jl st2 lo hi n (f st2)=f st2 a b:=by unfold jl at h;split at h;rename_i h1 h2;exact⟨_,_,h,λst2 ha=>by simp only[jl,(hs st2 ha).1,(hs st2 ha).2,h1,h2]⟩;rename_i h1 h2;exact⟨_,_,h,λst2 ha=>by simp only[jl,(hs st2 ha).1,(hs st2 ha).2,h1,h2]⟩;rename_i h1 h2;exact⟨_,_,h,λst2 ha=>by simp only[jl,(hs st2 ha).1,(hs st2 ha).2,h1,h2]⟩;rename_i h1 h2;exact⟨_,_,h,λst2 ha=>by simp only[jl,(hs st2 ha).1,(hs st2 ha).2,h1,h2]⟩;cases h
theorem Nn {T:TypeId}{x:Operand}{lo hi:Option Operand}(ho:o.op=.slice T x lo hi none)(hm:jQ an o=true)(hfree:da E an X o st=true)(h:vy E an o T x lo hi st some=some st'):c9 E Γ an X o st st':=by
 have hr:∀st2,eN an X o st st2→st2.rd x=st.rd x:=λst2 ha=>ha.rd (λt ht=>by simp[cW,ho,ht]);have hb:∀st2,eN an X o st st2→lo.map st2.rd=lo.map st.rd∧hi.map st2.rd=hi.map st.rd:=by
  intro st2 ha;constructor;cases lo with|none=>rfl|some y=>simp only[cp];rw[ha.rd (λt ht=>by simp[cW,ho,tmO,ht])]
  cases hi with|none=>rfl|some y=>simp only[cp];rw[ha.rd (λt ht=>by simp[cW,ho,tmO,ht])]
 have hnow:(st.rd x).now st.ep=true:=by simpa[da,ho]using hfree
 have hf2:∀st2,eN an X o st st2→(st.rd x).fresh st2=st.rd x:=λst2 ha=>uH (by rw[ha.ep];exact hnow);have htk:CE an o=false:=by simpa[jQ,ho]using hm
 unfold vy at h;rw[ao (by simp[htk]),uH hnow]at h;split at h;rename_i s hx;split at h;rename_i hT;obtain⟨a,b,h1,h2⟩:=Cd (f:=λs0 a b=>aa (sub s a b) λs'=>some (s0.put o.dst (.one (.str s')))) hb h;cases hsub:sub s a b with|none=>rw[hsub]at h1;cases h1|some s'=>rw[hsub]at h1;cases h1;refine c9.put rfl λst2 ha=>?_;have hf3:=hf2 st2 ha;rw[hx]at hf3;simp only[cf,ho,vy,htk,aP,bB,hr st2 ha,hx,hf3,ay hT];rw[h2 st2 ha,hsub];rfl
 cases h;rename_i fl e xs hx;split at h;rename_i hT;obtain⟨a,b,h1,h2⟩:=Cd (f:=λs0 a b=>aa (sub xs a b) λxs'=>some (s0.put o.dst (.one (.sl (GH an o fl a) e xs')))) hb h;cases hsub:sub xs a b with|none=>rw[hsub]at h1;cases h1|some s'=>rw[hsub]at h1;cases h1;refine c9.put rfl λst2 ha=>?_;have hf3:=hf2 st2 ha;rw[hx]at hf3;simp only[cf,ho,vy,htk,aP,bB,hr st2 ha,hx,hf3,ha.ep,ay hT];rw[h2 st2 ha,hsub];rfl
 cases h;cases h
theorem AQ {args:List Operand}(hl:∀t,t∈Lo args→t∈cW o)(ha:eN an X o st st2):args.map st2.rd=args.map st.rd:=by apply List.map_congr_left;intro x hx;exact ha.rd (λt ht=>hl t (by simp only[Lo,List.mem_flatMap];exact⟨x,hx,ht⟩))
theorem SX {ts:Array TypeId}{args:Array Operand}(ho:o.op=.call {callee:=.builtin .len,args,argTypes:=ts})(h:Gu E o ts.toList args.toList st some=some st'):c9 E Γ an X o st st':=by have hr:∀st2,eN an X o st st2→args.toList.map st2.rd=args.toList.map st.rd:=λst2 ha=>AQ (λt ht=>by simp only[cW,ho];exact ht) ha;unfold Gu at h;split at h;rename_i t s hts hx;split at h;rename_i hT;cases h;refine c9.put rfl λst2 ha=>?_;simp only[cf,ho,Gu,hr st2 ha,hts,hx,ay hT];cases h;rename_i t _ _ xs hts hx;split at h;rename_i hT;cases h;refine c9.put rfl λst2 ha=>?_;simp only[cf,ho,Gu,hr st2 ha,hts,hx,ay hT];cases h;cases h
theorem SZ {ts:Array TypeId}{args:Array Operand}(ho:o.op=.call {callee:=.builtin .min,args,argTypes:=ts})(h:HE o args.toList st some=some st'):c9 E Γ an X o st st':=by have hr:∀st2,eN an X o st st2→args.toList.map st2.rd=args.toList.map st.rd:=λst2 ha=>AQ (λt ht=>by simp only[cW,ho];exact ht) ha;unfold HE at h;split at h;rename_i hx;cases h;refine c9.put rfl λst2 ha=>?_;simp only[cf,ho,HE,hr st2 ha,hx];cases h
theorem SY {ts:Array TypeId}{args:Array Operand}(ho:o.op=.call {callee:=.builtin .max,args,argTypes:=ts})(h:HD o args.toList st some=some st'):c9 E Γ an X o st st':=by have hr:∀st2,eN an X o st st2→args.toList.map st2.rd=args.toList.map st.rd:=λst2 ha=>AQ (λt ht=>by simp only[cW,ho];exact ht) ha;unfold HD at h;split at h;rename_i hx;cases h;refine c9.put rfl λst2 ha=>?_;simp only[cf,ho,HD,hr st2 ha,hx];cases h
theorem PK (hΓ:∀f,(Γ f).io=false∧(Γ f).bx=false){f:Operand}{ts:Array TypeId}{args:Array Operand}(ho:o.op=.call {callee:=.value f,args,argTypes:=ts})(hfree:da E an X o st=true)(h:yN Γ o f args.toList st some=some st'):c9 E Γ an X o st st':=by
 have hr:∀st2,eN an X o st st2→st2.rd f=st.rd f∧(args.toList.map λx=>((st2.rd x).fresh st2).asArg st2.ep)=args.toList.map λx=>((st.rd x).fresh st).asArg st.ep:=by
  intro st2 ha;refine⟨ha.rd (λt ht=>by simp[cW,ho,ht]),?_⟩;apply List.map_congr_left;intro x hx;have hnow:(st.rd x).now st.ep=true:=by simp only[da,ho,aU]at hfree;exact hfree x hx
  rw[ha.rd (λt ht=>by simp only[cW,ho,ar,Lo,List.mem_flatMap];exact .inr ⟨x,hx,ht⟩),uH hnow,uH (s:=st2) (by rw[ha.ep];exact hnow),ha.ep]
 unfold yN at h;split at h;rename_i k hf;rw[(hΓ k).2,(hΓ k).1]at h;simp only[af]at h;cases hg:(Γ k).fn (args.toList.map λx=>((st.rd x).fresh st).asArg st.ep)with|none=>rw[hg]at h;cases h|some y=>rw[hg]at h;simp only[aa]at h;cases hsel:(Γ k).sel y with|true=>rw[hsel]at h;cases h;refine c9.new rfl λst2 ha=>?_;simp only[cf,ho,yN,(hr st2 ha).1,hf,(hΓ k).1,(hΓ k).2,af];rw[(hr st2 ha).2,hg];simp only[aa,hsel,ai,ha.ep,ha.hH]|false=>rw[hsel]at h;cases h;refine c9.new rfl λst2 ha=>?_;simp only[cf,ho,yN,(hr st2 ha).1,hf,(hΓ k).1,(hΓ k).2,af];rw[(hr st2 ha).2,hg];simp only[aa,hsel,af,ha.ep,ha.hH]
 cases h
theorem HF {src dst:TypeId}{x:Operand}(ho:o.op=.convert src dst x)(h:iB E o src dst x st some=some st'):c9 E Γ an X o st st':=by
 have hr:∀st2,eN an X o st st2→st2.rd x=st.rd x:=λst2 ha=>ha.rd (λt ht=>by simpa[cW,ho]using ht);unfold iB at h;split at h;rename_i h1 h2 h3;cases h;refine c9.put rfl λst2 ha=>?_;simp only[cf,ho,iB,hr st2 ha,h1,h2,h3];rename_i h1 h2 h3;cases h;refine c9.put rfl λst2 ha=>?_;simp only[cf,ho,iB,hr st2 ha,h1,h2,h3];rename_i offs val s hno h1 h2 h3;split at h;rename_i hb;unfold room at h;split at h;rename_i hrm;cases h;refine c9.new (v:=.one (.sl (.own (st.hH o.dst 0)) (.int .u8) (cr s))) rfl λst2 ha=>?_;have hval:∀k:AS→Option AS,iB E o src dst x st2 k=if E.bytes dst then room s.length (k (st2.ln o.dst (.int .u8) (cr s))) else none:=by intro k;unfold iB;rw[hr st2 ha,h1,h2,h3];obtain⟨ag,ct,of⟩:=val;cases ag with|true=>rfl|false=>cases ct with|str=>exact(hno _ rfl).elim|_=>rfl
 simp only[cf,ho];rw[hval,ay hb,room,ay hrm,AS.ln,ha.hH];cases h;cases h;rename_i val offs fl xs h1 h2 h3;split at h;rename_i hb;cases h;refine c9.put rfl λst2 ha=>?_;have hval:∀k:AS→Option AS,iB E o src dst x st2 k=if E.bytes src∧fl.live st2.ep then k (st2.put o.dst (.one (.str (bytesOf xs)))) else none:=by intro k;unfold iB;rw[hr st2 ha,h1,h2,h3];obtain⟨ag,ct,of⟩:=val;cases ag with|true=>rfl|false=>cases ct<;>rfl
 simp only[cf,ho];rw[hval,ha.ep,ay hb];cases h;cases h
theorem Du {d:Nat}{cs:List AC}{v:AV}:(⟨[(d,v)],some (d,cs),none⟩:Dt).apply st=(st.dG d (some cs)).put (some d) v:=rfl
theorem Nj {T:TypeId}(ho:o.op=.alloc T)(h:xh E o T st some=some st'):c9 E Γ an X o st st':=by unfold xh at h;split at h;rename_i d sh hd hT;split at h;rename_i hb;cases h;refine⟨⟨[(d,.one (.ptr d 0))],some (d,cellsOf sh.ct (.own none) sh.ct.zero),none⟩,⟨λx hx=>?_,λb hb'=>?_,λ_ hh=>by cases hh⟩,?_,λst2 ha=>?_⟩;simp only[ec]at hx;subst hx;simp[writes,hd];cases hb';simp[Bv,ho,hd];rw[Du,hd];simp only[cf,ho,xh,hd,hT,(ha.dst d hd).2,hb,Du];cases h;cases h
def kg (st:AS):Operand→List (Nat×AV)
 | .tmp t=>[(t,(st.get t).aI st.ep)]
 |_=>[]
theorem wG (l:List AV)(a b:List (Nat×AV)):gy l (a++b)=gy (gy l a) b:=by induction a generalizing l with|nil=>rfl|cons x a ih=>exact ih _
def AS.ga (st:AS)(l:List (Nat×AV)):AS:={st with slots:=gy st.slots l}
theorem amF:st.ga []=st:=rfl
theorem mx (a b:List (Nat×AV)):st.ga (a++b)=(st.ga a).ga b:=by simp only[AS.ga,wG]
theorem amE (d:Nat)(v:AV):st.put (some d) v=st.ga [(d,v)]:=rfl
theorem xe (x:Operand):(st.take x).2=st.ga (kg st x):=by cases x<;>rfl
theorem yk {x:Operand}(hep:st2.ep=st.ep)(h:∀t∈tm x,st2.get t=st.get t):(st2.take x).1=(st.take x).1∧(st2.take x).2=st2.ga (kg st x):=by cases x with|tmp t=>have:=h t (by simp[tm]);refine⟨this,?_⟩;rw[xe];simp only[kg,this,hep]|const v=>exact⟨rfl,rfl⟩|func f=>exact⟨rfl,rfl⟩|global g=>exact⟨rfl,rfl⟩
theorem CF {x:Operand}:∀y∈kg st x,y.1∈tm x:=by cases x<;>simp[kg,tm]
theorem PM {x:Operand}(ho:o.op=.move x)(h:wZ an o x st some=some st'):c9 E Γ an X o st st':=by
 unfold wZ at h;cases hd:o.dst with
 |none=>rw[hd]at h;cases h
 |some d=>
  rw[hd]at h;cases hf:an.mv.contains d with
  |false=>simp only[hf,aP,bB]at h;cases h;refine c9.put (v:=st.rd x) (by rw[hd]) λst2 ha=>?_;have hr:st2.rd x=st.rd x:=ha.rd (λt ht=>by simpa[cW,ho]using ht);simp only[cf,ho,wZ,hd,hf,aP,bB,hr]
  |true=>
   simp only[hf,bk]at h;cases h;have hr:∀st2,eN an X o st st2→(st2.take x).1=(st.take x).1∧(st2.take x).2=st2.ga (kg st x):=λst2 ha=>yk ha.ep λt ht=>ha.get t (by simpa[cW,ho]using ht);refine⟨⟨kg st x++[(d,(st.take x).1)],none,none⟩,⟨λy hy=>?_,λ_ hh=>(by cases hh),λ_ hh=>(by cases hh)⟩,?_,λst2 ha=>?_⟩;rcases ar.1 hy with hy|hy;have:=CF y hy;have hf':d∈an.mv:=by simpa using hf
   simp[writes,zE,ho,hd,hf',cW,this];simp only[ec]at hy;subst hy;simp[writes,hd];rw[xe];show _=st.ga _;rw[mx];rfl;simp only[cf,ho,wZ,hd,hf,bk,(hr st2 ha).1,(hr st2 ha).2];show some ((st2.ga (kg st x)).put (some d) (st.take x).1)=some (st2.ga _);rw[mx];rfl
theorem Mu {ep:Nat}{cs:List AC}(h:cs.all AC.eA=true):aI ep cs=cs:=by
 rw[aU]at h;unfold aI;have:cs.map (AC.borrow ep none)=cs.map id:=List.map_congr_left λc hc=>by have:=h c hc;cases c<;>first|rfl|(simp[AC.eA]at this)
 rw[this,List.map_id]
theorem YR {s:AS}{t:Nat}{vs:List (Bool×List AC)}(h:s.get t=.tup vs):s.put (some t) (.tup vs)=s:=by cases s with|mk slots boxes ep iss io=>simp only[AS.put,AS.mk.injEq,fH];rw[dD];apply List.ext_getElem?;intro i;rw[List.getElem?_set];split;rename_i hd;subst hd;simp only[AS.get,cR]at h;split;rename_i hlt;rw[List.getElem?_eq_getElem hlt]at h⊢;simp only[dq]at h;rw[h];rename_i hge;rw[List.getElem?_eq_none (Nat.le_of_not_lt hge)];rfl
theorem HG {t i:Nat}(ho:o.op=.extract (.tmp t) i)(hfree:da E an X o st=true)(h:iD o t i st some=some st'):c9 E Γ an X o st st':=by
 have hr:∀st2,eN an X o st st2→st2.get t=st.get t:=λst2 ha=>ha.get t (by simp[cW,ho]);unfold iD at h;simp only[da,ho]at hfree;split at h
 ·rename_i vs hv;rw[hv]at hfree;split at h
  ·rename_i g cs hn;simp only[hn]at hfree;have hfl:cs.all AC.eA=true∨∃d,o.dst=some d∧an.mv.contains d=true:=by cases hd:o.dst with|none=>simp only[hd,Bool.or_false]at hfree;exact .inl hfree|some d=>simp only[hd,cm]at hfree;rcases hfree with h|h;exact .inl h;exact .inr ⟨d,rfl,h⟩
   rcases hfl with hfree|⟨d,hd,hmv⟩;rotate_left;cases h;refine⟨⟨[(t,.tup (fD vs i (g,aI 0 cs))),(d,.val g cs)],none,none⟩,⟨λx hx=>?_,(λ_ hb=>by cases hb),(λ_ hh=>by cases hh)⟩,?_,λst2 ha=>?_⟩;simp only[bE,List.not_mem_nil,or_false]at hx;rcases hx with rfl|rfl;simp only[writes,zE,ho,hd,hmv,ai,cW];simp;simp only[writes,hd];simp;rw[hd];rfl;have h2:st2.get t=.tup vs:=by rw[hr st2 ha,hv]
   simp only[cf,ho,iD,h2,hn,hd];rfl;skip;have hset:fD vs i (g,cs)=vs:=by rw[dD];rw[cR]at hn;apply List.ext_getElem?;intro k;rw[List.getElem?_set];split;rename_i hk;subst hk;obtain⟨hl,he⟩:=List.getElem?_eq_some_iff.1 hn;rw[ay hl,hn];rfl
   have key:∀s:AS,s.get t=.tup vs→(s.put (some t) (.tup (fD vs i (g,aI 0 cs))))=s:=λs hs=>by rw[Mu hfree,hset,YR hs]
   rw[key st hv]at h;cases h;refine c9.put rfl λst2 ha=>?_;have h2:st2.get t=.tup vs:=by rw[hr st2 ha,hv]
   simp only[cf,ho,iD,h2,hn];rw[key st2 h2]
  cases h
 cases h
def uE (st:AS):Operand→List (Nat×AV)
 | .tmp t=>[(t,(st.get t).aI st.ep)]
 |_=>[]
theorem Hd (st:AS)(x:Operand):(st.take x).2=⟨gy st.slots (uE st x),st.boxes,st.ep,st.iss,st.io⟩:=by cases x<;>rfl
theorem No {T:TypeId}{pp:Nat}{x:Operand}(ho:o.op=.store T (.tmp pp) x)(hd:o.dst=none)(hm:jQ an o=true)(hfree:da E an X o st=true)(h:rP E T (.tmp pp) x st some=some st'):c9 E Γ an X o st st':=by
 have hr:∀st2,eN an X o st st2→st2.rd (.tmp pp)=st.rd (.tmp pp):=λst2 ha=>ha.rd (λt ht=>by simp only[cW,ho,ar];exact .inl ht);have hsb:(an.sb pp).isNone=false:=by simp only[jQ,ho,aj]at hm;cases hb:an.sb pp with|none=>rw[hb]at hm;cases hm.1|some _=>rfl
 simp only[da,ho,hsb,gj,cY]at hfree;unfold rP at h;split at h;rename_i sh s off hT hp;rw[hp]at hfree;simp only[aj,aR,aW]at hfree;split at h;rename_i gg vs st1 htk;have htk1:(st.take x).1=.val gg vs:=by rw[htk]
 have hst1:st1=⟨gy st.slots (uE st x),st.boxes,st.ep,st.iss,st.io⟩:=by rw[←Hd,htk]
 split at h;rename_i cs hb;split at h;rename_i hlen;split at h;rename_i hfit;cases h;have hbx:∀st2,eN an X o st st2→nth st2.boxes s=nth st.boxes s:=λst2 ha=>ha.box s hfree.1;refine⟨⟨uE st x,some (s,ck cs off vs),none⟩,⟨λy hy=>?_,λb hb'=>?_,λ_ hh=>by cases hh⟩,?_,λst2 ha=>?_⟩;cases x with|tmp t=>simp only[uE,ec]at hy;subst hy;simp only[writes,zE,ho,ai,cW,hd];simp[tm]|_=>simp[uE]at hy
 cases hb';simp only[Bv,ho,hfree.2];simp;rw[hst1];rfl;have hx2:(st2.take x).1=(st.take x).1∧uE st2 x=uE st x:=by cases x with|tmp t=>have hg:st2.get t=st.get t:=ha.get t (by simp[cW,ho,tm]);simp only[AS.take,uE,hg,ha.ep];simp|const v=>exact⟨rfl,rfl⟩|func f=>exact⟨rfl,rfl⟩|global g=>exact⟨rfl,rfl⟩
 have ht2:st2.take x=(.val gg vs,⟨gy st2.slots (uE st x),st2.boxes,st2.ep,st2.iss,st2.io⟩):=by rw[←hx2.2,←Hd,←htk1,←hx2.1]
 have hb2:(nth st2.boxes s).getD none=some cs:=by rw[hbx st2 ha];rw[hst1]at hb;exact hb
 have hlate:u0 an o=false:=by simp only[jQ,ho,aj,aR]at hm;exact hm.2
 simp only[cf,ho,hd,hlate,aP,bB,rP,hT,hr st2 ha,hp,ht2,hb2,ay hlen,ay hfit];rfl;cases h;cases h;cases h;cases h;rename_i r _ _ _ _ _ _ hp;rw[hp]at hfree;cases r<;>simp at hfree;cases h
theorem KP {x:Operand}(ho:o.op=.assign x)(hm:jQ an o=true)(h:pJ E an o x st some=some st'):c9 E Γ an X o st st':=by
 have hr:∀st2,eN an X o st st2→(st2.take x).1=(st.take x).1∧(st2.take x).2=st2.ga (kg st x):=λst2 ha=>yk ha.ep λt ht=>ha.get t (by simpa[cW,ho]using ht);have hlate:u0 an o=false:=by simpa[jQ,ho]using hm
 unfold pJ at h;split at h;rename_i st1 htk;split at h;rename_i e hT;cases h;refine c9.put rfl λst2 ha=>?_;have h2:st2.take x=(.val false [.nilsl],st2.ga (kg st x)):=Prod.ext (by rw[(hr st2 ha).1,htk]) (hr st2 ha).2;simp only[cf,ho,pJ,hlate,aP,bB,h2,hT];cases h;rename_i v st1 hno htk;cases h;have hst1:st1=st.ga (kg st x):=by rw[←xe,htk]
 refine⟨⟨kg st x++o.dst.toList.map λd=>(d,v),none,none⟩,⟨λy hy=>?_,λ_ hh=>(by cases hh),λ_ hh=>(by cases hh)⟩,?_,λst2 ha=>?_⟩;rcases ar.1 hy with hy|hy;have:=CF y hy;simp[writes,zE,ho,cW,this];obtain⟨d,hd,rfl⟩:=List.mem_map.1 hy;simp[writes,hd];rw[hst1];show _=st.ga _;rw[mx];cases o.dst<;>rfl;have h2:st2.take x=(v,st2.ga (kg st x)):=Prod.ext (by rw[(hr st2 ha).1,htk]) (hr st2 ha).2;simp only[cf,ho,pJ,hlate,aP,bB,h2];show some ((st2.ga (kg st x)).put o.dst v)=some (st2.ga _);rw[mx];cases o.dst<;>rfl
theorem fY {α:Type}(l:List α)(i:Nat)(v:α)(t:Nat):nth (fD l i v) t=if i=t then(if i<l.length then some v else none) else nth l t:=by rw[cR,dD,cR,List.getElem?_set]
theorem GK (l:List AV)(a:List (Nat×AV)):(gy l a).length=l.length:=by induction a generalizing l with|nil=>rfl|cons x a ih=>rw[gy,ih,dD,aY]
theorem PY {l l2:List AV}(a:List (Nat×AV))(hl:l2.length=l.length)(t:Nat)(h:nth l2 t=nth l t):nth (gy l2 a) t=nth (gy l a) t:=by induction a generalizing l l2 with|nil=>exact h|cons x a ih=>refine ih (by rw[dD,dD,aY,aY,hl]) ?_;rw[fY,fY,hl,h]
theorem PT {t:Nat}(h:st2.get t=st.get t)(hl:st2.slots.length=st.slots.length):nth st2.slots t=nth st.slots t:=by unfold AS.get at h;rw[cR,cR]at h⊢;rcases bw t st.slots.length with hlt|hge;rw[List.getElem?_eq_getElem hlt,List.getElem?_eq_getElem (by omega)]at h⊢;simpa using h;rw[List.getElem?_eq_none hge,List.getElem?_eq_none (by omega)]
def gq (st:AS):List Operand→List (Nat×AV)
 |[]=>[]
 |x::xs=>kg st x++gq (st.ga (kg st x)) xs
theorem vF:∀(xs:List Operand)(st:AS),∀y∈gq st xs,y.1∈Lo xs
 |[],_,y,hy=>by cases hy
 |x::xs,st,y,hy=>by simp only[Lo,List.flatMap_cons,ar];rcases ar.1 hy with hy|hy;exact .inl (CF y hy);exact .inr (vF xs _ y hy)
theorem wJ:∀(xs:List Operand)(st st2:AS),st2.ep=st.ep→st2.slots.length=st.slots.length→(∀t∈Lo xs,nth st2.slots t=nth st.slots t)→
 (dm st2 xs).1=(dm st xs).1∧(dm st2 xs).2=st2.ga (gq st xs)
 |[],st,st2,_,_,_=>⟨rfl,rfl⟩
 |x::xs,st,st2,hep,hl,hg=>by
  have hx:∀t∈tm x,st2.get t=st.get t:=λt ht=>by unfold AS.get;rw[hg t (by simp[Lo,ht])]
  obtain⟨h1,h2⟩:=yk (st:=st) (st2:=st2) hep hx;have h3:=xe (st:=st) x;obtain⟨k1,k2⟩:=wJ xs (st.ga (kg st x)) (st2.ga (kg st x)) hep (by simp only[AS.ga,GK,hl]) (λt ht=>PY _ hl t (hg t (by simp only[Lo,List.flatMap_cons,ar];exact .inr ht)));have e1:dm st (x::xs)=((st.take x).1::(dm (st.take x).2 xs).1,(dm (st.take x).2 xs).2):=rfl;have e2:dm st2 (x::xs)=((st2.take x).1::(dm (st2.take x).2 xs).1,(dm (st2.take x).2 xs).2):=rfl;rw[e1,e2,h1,h2,h3];refine⟨by rw[k1],?_⟩;show(dm (st2.ga (kg st x)) xs).2=_;rw[k2,gq,mx]
theorem yj (xs:List Operand):(dm st xs).2=st.ga (gq st xs):=(wJ xs st st rfl rfl (λ_ _=>rfl)).2
theorem eN.dm (ha:eN an X o st st2){xs:List Operand}(hx:∀t∈Lo xs,t∈cW o):(dm st2 xs).1=(Dn.dm st xs).1∧(Dn.dm st2 xs).2=st2.ga (gq st xs):=wJ xs st st2 ha.ep ha.len λt ht=>PT (ha.get t (hx t ht)) ha.len
theorem Nk {T:TypeId}{parts:Array (Nat×Operand)}(ho:o.op=.build T parts)(h:wu E o T parts.toList st some=some st'):c9 E Γ an X o st st':=by
 have hl:∀t∈Lo (parts.toList.map (·.2)),t∈cW o:=λt ht=>by simp only[cW,ho];exact ht
 unfold wu at h;split at h;rename_i ct offs hT;split at h;rename_i vs st1 htk;have hst1:st1=st.ga (gq st (parts.toList.map (·.2))):=by rw[←yj,htk]
 split at h;rename_i cs hb;cases h;refine⟨⟨gq st (parts.toList.map (·.2))++o.dst.toList.map λd=>(d,.val true cs),none,none⟩,⟨λy hy=>?_,λ_ hh=>(by cases hh),λ_ hh=>(by cases hh)⟩,?_,λst2 ha=>?_⟩;rcases ar.1 hy with hy|hy;have:=hl _ (vF _ _ y hy);simp[writes,zE,ho,this];obtain⟨d,hd,rfl⟩:=List.mem_map.1 hy;simp[writes,hd];rw[hst1];show _=st.ga _;rw[mx];cases o.dst<;>rfl;obtain⟨k1,k2⟩:=ha.dm hl;have h2:dm st2 (parts.toList.map (·.2))=(vs,st2.ga (gq st (parts.toList.map (·.2)))):=Prod.ext (by rw[k1,htk]) k2;simp only[cf,ho,wu,hT,h2,hb];show some ((st2.ga _).put o.dst _)=some (st2.ga _);rw[mx];cases o.dst<;>rfl;cases h;cases h
theorem c9.ae6 {tl:List (Nat×AV)}{v:AV}(ht:zE an o=true)(hl:∀y∈tl,y.1∈cW o)(h:st'=((st.ga tl).ej o.dst).put o.dst v)(h2:∀st2,eN an X o st st2→cf E Γ an o st2 some=some (((st2.ga tl).ej o.dst).put o.dst v)):c9 E Γ an X o st st':=by
 have key:∀s:AS,(⟨tl++o.dst.toList.map λd=>(d,v),none,o.dst⟩:Dt).apply s=((s.ga tl).ej o.dst).put o.dst v:=by intro s;cases o.dst with|none=>simp only[Dt.apply,Option.toList,List.map_nil,bc,AS.ga,AS.ej,AS.put]|some d=>simp only[Dt.apply,Option.toList,cq,List.map_nil,wG,AS.ga,AS.ej,AS.put,gy]
 refine⟨⟨tl++o.dst.toList.map λd=>(d,v),none,o.dst⟩,⟨λy hy=>?_,λ_ hh=>(by cases hh),λd hh=>hh⟩,by rw[key];exact h,λst2 ha=>by rw[key];exact h2 st2 ha⟩;rcases ar.1 hy with hy|hy;simp[writes,ht,hl y hy];obtain⟨d,hd,rfl⟩:=List.mem_map.1 hy;simp[writes,hd]
theorem uJ {tl:List (Nat×AV)}{d:Option Nat}:(st.ga tl).hH d=st.hH d:=rfl
theorem Da {T:TypeId}{len:Nat}{parts:Array (Nat×Operand)}(ho:o.op=.buildSlice T len parts)(h:ix E o T len parts.toList st some=some st'):c9 E Γ an X o st st':=by
 have hl:∀t∈Lo (parts.toList.map (·.2)),t∈cW o:=λt ht=>by simp only[cW,ho];exact ht
 unfold ix at h;split at h;rename_i e hT;split at h;rename_i hc;split at h;rename_i vs st1 htk;have hst1:st1=st.ga (gq st (parts.toList.map (·.2))):=by rw[←yj,htk]
 split at h;rename_i xs hb;cases h;refine c9.ae6 (tl:=gq st (parts.toList.map (·.2))) (v:=.one (.sl (.own (st.hH o.dst 0)) e xs)) (by simp[zE,ho]) (λy hy=>hl _ (vF _ _ y hy)) ?_ λst2 ha=>?_;rw[hst1,AS.ln,uJ];obtain⟨k1,k2⟩:=ha.dm hl;have h2:dm st2 (parts.toList.map (·.2))=(vs,st2.ga (gq st (parts.toList.map (·.2)))):=Prod.ext (by rw[k1,htk]) k2;simp only[cf,ho,ix,hT,h2,hb,ay hc];rw[AS.ln,uJ,ha.hH];cases h;cases h;cases h
theorem D9 {T:TypeId}{n c:Operand}(ho:o.op=.makeSlice T n c)(h:ku E o T n c st some=some st'):c9 E Γ an X o st st':=by
 have hr:∀st2,eN an X o st st2→st2.rd n=st.rd n∧st2.rd c=st.rd c:=λst2 ha=>
  ⟨ha.rd (λt ht=>by simp[cW,ho,ht]),ha.rd (λt ht=>by simp[cW,ho,ht])⟩
 unfold ku at h;split at h;rename_i e len cap hT hn hc;split at h;rename_i hlc;unfold room at h;split at h;rename_i hrm;cases h;refine c9.new (v:=.one (.sl (.own (st.hH o.dst 0)) e (List.replicate len.toNat e.zero))) rfl λst2 ha=>?_;simp only[cf,ho,ku,(hr st2 ha).1,(hr st2 ha).2,hT,hn,hc,ay hlc,room,ay hrm,AS.ln,ha.hH];cases h;cases h;cases h
theorem KO {ts:Array TypeId}{args:Array Operand}(ho:o.op=.call {callee:=.builtin .append,args,argTypes:=ts})(h:rU E o ts.toList args.toList st some=some st'):c9 E Γ an X o st st':=by
 have hlk:∀t∈Lo args.toList,t∈cW o:=λt ht=>by simp only[cW,ho];exact ht
 unfold rU at h;split at h;rename_i t t' s x hts hargs;have hl:∀u∈Lo [s,x],u∈cW o:=by rw[←hargs];exact hlk
 have hboth:∀st2,eN an X o st st2→(st2.take s).1=(st.take s).1∧((st2.take s).2.take x).1=((st.take s).2.take x).1∧((st2.take s).2.take x).2=st2.ga (gq st [s,x]):=by intro st2 ha;obtain⟨k1,k2⟩:=ha.dm hl;simp only[Dn.dm,List.cons.injEq,fH]at k1 k2;exact⟨k1.1,k1.2,k2⟩
 have hself:((st.take s).2.take x).2=st.ga (gq st [s,x]):=yj (st:=st) [s,x];split at h;rename_i tag e xs st1 htk1;split at h;rename_i fl e' ys st1' htk2;split at h;rename_i he;subst he;split at h;rename_i hc;unfold room at h;split at h;rename_i hrm;cases h;have hst1:(st.take s).2=st1:=by rw[htk1]
 have hst2:st1'=st.ga (gq st [s,x]):=by rw[←hself,hst1,htk2]
 refine c9.ae6 (tl:=gq st [s,x]) (v:=.one (.sl (.own (st.hH o.dst 0)) e' (xs++ys))) (by simp[zE,ho]) (λy hy=>hl _ (vF _ _ y hy)) ?_ λst2 ha=>?_;rw[hst2,AS.ln,uJ];obtain⟨k1,k2,k3⟩:=hboth st2 ha;have e1:st2.take s=(.val false [.sl (.own tag) e' xs],(st2.take s).2):=Prod.ext (by rw[k1,htk1]) rfl;have e2:(st2.take s).2.take x=(.val false [.sl fl e' ys],st2.ga (gq st [s,x])):=Prod.ext (by rw[k2,hst1,htk2]) k3;simp only[cf,ho,rU,hts,hargs];rw[e1];simp only;rw[e2];simp only[dite_true,ha.ep,ay hc,room,ay hrm,AS.ln,uJ,ha.hH];cases h;cases h;cases h;rename_i sx st1' htk2;split at h;rename_i he;subst he;split at h;rename_i hc;unfold room at h;split at h;rename_i hrm;cases h;have hst1:(st.take s).2=st1:=by rw[htk1]
 have hst2:st1'=st.ga (gq st [s,x]):=by rw[←hself,hst1,htk2]
 refine c9.ae6 (tl:=gq st [s,x]) (v:=.one (.sl (.own (st.hH o.dst 0)) (.int .u8) (xs++cr sx))) (by simp[zE,ho]) (λy hy=>hl _ (vF _ _ y hy)) ?_ λst2 ha=>?_;rw[hst2,AS.ln,uJ];obtain⟨k1,k2,k3⟩:=hboth st2 ha;have e1:st2.take s=(.val false [.sl (.own tag) (.int .u8) xs],(st2.take s).2):=Prod.ext (by rw[k1,htk1]) rfl;have e2:(st2.take s).2.take x=(.val false [.str sx],st2.ga (gq st [s,x])):=Prod.ext (by rw[k2,hst1,htk2]) k3;simp only[cf,ho,rU,hts,hargs];rw[e1];simp only;rw[e2];simp only[dite_true,ay hc,room,ay hrm,AS.ln,uJ,ha.hH];cases h;cases h;cases h;cases h;cases h;cases h
theorem SW {T:TypeId}{x:Operand}(ho:o.op=.box T x)(h:Jr o x st some=some st'):c9 E Γ an X o st st':=by
 have hr:∀st2,eN an X o st st2→(st2.take x).1=(st.take x).1∧(st2.take x).2=st2.ga (kg st x):=λst2 ha=>yk ha.ep λt ht=>ha.get t (by simpa[cW,ho]using ht);unfold Jr at h;split at h;rename_i d g cs st1 hd htk;have hst1:st1=st.ga (kg st x):=by rw[←xe,htk]
 split at h;rename_i hb;split at h;rename_i hs;cases h;have hb0:nth st.boxes d=some none:=by rw[hst1]at hb;exact hb
 have key:∀s:AS,(⟨kg st x++[(d,.one (.ptr d 0))],some (d,cs),none⟩:Dt).apply s=((s.ga (kg st x)).dG d (some cs)).put (some d) (.one (.ptr d 0)):=by intro s;simp only[Dt.apply,wG,AS.ga,AS.dG,AS.put,gy]
 refine⟨⟨kg st x++[(d,.one (.ptr d 0))],some (d,cs),none⟩,⟨λy hy=>?_,λb hb'=>?_,λ_ hh=>(by cases hh)⟩,?_,λst2 ha=>?_⟩;rcases ar.1 hy with hy|hy;have:=CF y hy;simp[writes,zE,ho,cW,this];simp only[ec]at hy;subst hy;simp[writes,hd];cases hb';simp[Bv,ho,hd];rw[key,hst1,hd];have h2:st2.take x=(.val g cs,st2.ga (kg st x)):=Prod.ext (by rw[(hr st2 ha).1,htk]) (hr st2 ha).2;have hb2:nth (st2.ga (kg st x)).boxes d=some none:=by show nth st2.boxes d=_;rw[(ha.dst d hd).2];exact hb0
 simp only[cf,ho,Jr,hd,h2,hb2,ay hs,key];cases h;cases h;cases h
theorem G6 (hΓ:∀f,(Γ f).io=false∧(Γ f).bx=false)(hm:jQ an o=true)(hfree:da E an X o st=true)(h:cf E Γ an o st some=some st'):c9 E Γ an X o st st':=by
 have h0:=h;unfold cf at h;split at h;rename_i ho;exact PM ho h;rename_i ho;have hlate:u0 an o=false:=by simpa[jQ,ho]using hm
 rw[ao (by simp[hlate])]at h;exact KP ho hm h;rename_i ho;exact PN ho h;rename_i ho;exact Nj ho h;rename_i ho;exact SW ho h;rename_i ho;exact PL ho hm hfree h;rename_i T p x ho;split at h;rename_i hd;cases p with
 |tmp pp=>
  have hlate:u0 an o=false:=by simp only[jQ,ho,aj,aR]at hm;exact hm.2
  rw[ao (by simp[hlate])]at h;exact No ho hd hm hfree h
 |const v=>simp[jQ,ho]at hm
 |func f=>simp[jQ,ho]at hm
 |global g=>simp[jQ,ho]at hm
 cases h;rename_i ho;exact Gy ho h0;rename_i ho;exact SV ho h;rename_i ho;exact Vh ho h;rename_i ho;exact Nl ho h;rename_i ho;exact D8 ho hfree h;rename_i ho;exact Nm ho h;rename_i ho;exact Nk ho h;rename_i ho;exact Da ho h;rename_i ho;exact D9 ho h;rename_i ho;exact Nn ho hm hfree h;rename_i ho;simp[jQ,ho]at hm;rename_i ho;simp[jQ,ho]at hm;rename_i ho;exact HF ho h;rename_i ho;exact HG ho hfree h;rename_i ho;exact SX ho h;rename_i ho;exact SZ ho h;rename_i ho;exact SY ho h;rename_i ho;exact KO ho h;rename_i ho;exact PK hΓ ho hfree h;cases h
end Go.Dn
