import Derived.Test.YthllnaiaikjelaaGreatDnMask
/- What an operation looks at and what it turns: for regions whose order is drawn. -/
namespace Go.Dn
structure Rm where
 slots:List (Nat×AV):=[]
 box:Option (Nat×List AC):=none
 iss:Option Nat:=none
def lI (l:ar AV):ar (Nat×AV)->ar AV
 |[]=>l
 |x::r=>lI (iQ l x.1 x.2) r
def Rm.apply (u:Rm)(st:AS):AS:=
 ⟨lI st.slots u.slots,(match u.box with|some b=>iQ st.boxes b.1 (some b.2)|none=>st.boxes),st.ep,(match u.iss with|some d=>iQ st.iss d true|none=>st.iss),st.io⟩
structure iK (an:An) (X:List Nat) (o:Oper) (st st2:AS):Prop where
 len:st2.slots.length=st.slots.length
 get:∀t∈dM o,st2.get t=st.get t
 ep:st2.ep=st.ep
 dst:∀d,o.dst=some d->nth st2.iss d=nth st.iss d/\nth st2.boxes d=nth st.boxes d
 box:∀s,X.contains s=false->nth st2.boxes s=nth st.boxes s
 er:∀t∈erS an o,st2.get t=st.get t
structure Rm.OJ (an:An) (u:Rm) (o:Oper):Prop where
 slots:∀x∈u.slots,x.1∈writes an o
 box:∀b,u.box=some b->b.1∈M0 an o
 iss:∀d,u.iss=some d->o.dst=some d
variable {E:Env} {Γ:Cr} {an:An} {X:ei} {o:Oper} {st st2 st':AS}
variable {parts:Array (Nat×Operand)} {args:Array Operand} {ts:Array TypeId} {t:Nat} {f p x:Operand} {T:TypeId} {tl:ar (Nat×AV)} {cs:ar AC}
theorem anp (Cw:st2.ep=st.ep)(h:∀t∈tm x,st2.get t=st.get t):st2.rd x=st.rd x:=by cases x with|tmp t=>simp only[AS.rd,Cw,h t (by simp[tm])]|const v=>rfl|func f=>rfl|global g=>rfl
def eM (E:Env)(Γ:Cr)(an:An)(X:ei)(o:Oper)(st st':AS):Prop:=
 ∃u:Rm,u.OJ an o/\st'=u.apply st/\∀st2,iK an X o st st2->df E Γ an o st2 some=some (u.apply st2)
def K2 (o:Oper)(v:AV):Rm:={slots:=o.dst.toList.map λd=>(d,v)}
theorem xj (v:AV):(K2 o v).apply st=st.put o.dst v:=by unfold K2 Rm.apply AS.put;cases o.dst<;>rfl
theorem IU (v:AV):(K2 o v).OJ an o:=by refine⟨λx hx=>?_,λb hb=>by simp[K2]at hb,λd hd=>by simp[K2]at hd⟩;simp only[K2,List.mem_map]at hx;obtain⟨d,hd,rfl⟩:=hx;simp[writes,hd]
def Ps (o:Oper)(v:AV):Rm:={slots:=o.dst.toList.map λd=>(d,v),iss:=o.dst}
theorem Ri (v:AV):(Ps o v).apply st=(st.fR o.dst).put o.dst v:=by unfold Ps Rm.apply AS.put AS.fR;cases o.dst<;>rfl
theorem XK (v:AV):(Ps o v).OJ an o:=by refine⟨λx hx=>?_,λb hb=>by simp[Ps]at hb,λd hd=>by simpa[Ps]using hd⟩;simp only[Ps,List.mem_map]at hx;obtain⟨d,hd,rfl⟩:=hx;simp[writes,hd]
theorem eM.put {v:AV}(h:st'=st.put o.dst v)(h2:∀st2,iK an X o st st2->df E Γ an o st2 some=some (st2.put o.dst v)):eM E Γ an X o st st':=⟨K2 o v,IU v,by rw[xj];exact h,λst2 ha=>by rw[xj];exact h2 st2 ha⟩
theorem iK.rd (ha:iK an X o st st2)(hx:∀t∈tm x,t∈dM o):st2.rd x=st.rd x:=anp ha.ep λt ht=>ha.get t (hx t ht)
theorem agn {c y:Operand}(ho:o.op=.pick c x y)(h:MD o c x y st some=some st'):eM E Γ an X o st st':=by
 have hr:∀st2,iK an X o st st2->st2.rd c=st.rd c/\st2.rd x=st.rd x/\st2.rd y=st.rd y:=λst2 ha=>
  ⟨ha.rd (λt ht=>by simp[dM,ho,ht]),ha.rd (λt ht=>by simp[dM,ho,ht]),ha.rd (λt ht=>by simp[dM,ho,ht])⟩
 unfold MD at h;split at h;rename_i t hc;split at h;rename_i a b hx hy;cases h;refine eM.put rfl λst2 ha=>?_;obtain⟨h1,h2,h3⟩:=hr st2 ha;simp only[df,ho,MD,h1,h2,h3,hc,hx,hy];rename_i va vb Nn;have hgo:∀st2,iK an X o st st2->df E Γ an o st2 some=cond t (some (st2.put o.dst (st.rd x))) (some (st2.put o.dst (st.rd y))):=by intro st2 ha;obtain⟨h1,h2,h3⟩:=hr st2 ha;simp only[df,ho,MD,h1,h2,h3,hc]
 cases t with|true=>cases h;exact eM.put rfl λst2 ha=>hgo st2 ha|false=>cases h;exact eM.put rfl λst2 ha=>hgo st2 ha
 cases h
theorem VO {d s:Nat}{v:AV}:(⟨[(d,v)],some (s,cs),none⟩:Rm).apply st=(st.eZ s (some cs)).put (some d) v:=rfl
theorem Zv {o:Oper}(h:MW an o=true):∃T q d,o.op=.load T (.tmp q)/\o.dst=some d/\o.guard=none/\an.mv.contains d=true/\an.mb d=none:=by unfold MW at h;split at h;rename_i T q d ho hd hg;simp only[ah,Option.isNone_iff_eq_none]at h;exact⟨T,q,d,ho,hd,hg,h.1.1,h.1.2⟩;cases h
def Re (st:AS)(b j t:Nat)(e:CT)(i:Int)(cs:ar AC)(ys:ar e.D):AS:=st.eZ b (some (iQ cs j (.sl (.fL (some t) i (some st.ep)) e ys)))
theorem WE {q d:Nat}(ht:MW an o=true)(ho:o.op=.load T (.tmp q))(hd:o.dst=some d)(Lg:an.mv.contains d=true)(Rn:an.mb d=none):(dI E an X o st=true/\sC E an o T (.tmp q) st some=some st')↔ ∃(g:Bool)(e:CT)(lG:ar (Nat×Nat))(b j t UY:Nat)(x:e.D)(i:Int)(cs:ar AC)(ys:ar e.D)(y:e.D),jU E.ty T=some ⟨g,e,lG⟩/\st.rd (.tmp q)=.val false [.HM (.loc UY (some (.box b j,t))) e x i 0]/\(nth st.boxes b).getD none=some cs/\nth cs j=some (.sl (.own (some t)) e ys)/\idx ys i=some y/\ X.contains b=false/\an.eb q=some b/\fmB an o=false/\st'=(Re st b j t e i cs ys).put (some d) (.val g (cellsOf e (.own none) y)):=by
 have xC:MY an o=true:=by unfold MY;rw[hd];simp only[Lg,Rn];rfl
 have PA:IT an o=false:=by unfold IT;split;rename_i hd' _;rw[hd]at hd';cases hd';rw[Rn];simp;rfl
 have hnp:Ih an o=false:=by unfold Ih;split;rename_i hd' _;rw[hd]at hd';cases hd';rw[Lg];rfl;rfl
 constructor;rintro⟨hf,h⟩;unfold sC at h;split at h;rename_i hp;simp only[dI,ho,hp,hd,Lg,Rn]at hf;simp at hf;rename_i sh fl e x i off hT hp;rw[aM xC]at h;simp only[dI,ho,hp,ht,PA,hnp,Bool.or_false,bB,ai,cC,gw,ah,aW]at hf;obtain⟨⟨LW,T9⟩,hb⟩:=hf;unfold ED at h;split at h;rename_i UY r t;cases r with
 |slot _ _=>cases hb
 |io _=>cases hb
 |box b j=>
  simp only[ah,bn,aW]at hb;split at h;rename_i t' e' ys hrg;split at h;rename_i he;subst he;split at h;rename_i hc;obtain⟨rfl,rfl,SR⟩:=hc;obtain⟨g,ct,lG⟩:=sh;simp only at SR;subst SR;cases hi:idx ys i with|none=>simp only[hi,aa]at h;cases h|some y=>simp only[hi,aa]at h;cases h;simp only[AS.fj]at hrg;obtain⟨cs,RJ,hj⟩:=aY.1 hrg;refine⟨g,_,lG,b,j,_,UY,x,i,cs,ys,y,hT,hp,RJ,hj,hi,hb.2,hb.1,T9,?_⟩;simp only[AS.fD,RJ,hd];rfl
  cases h;cases h;cases h
 cases h;cases h;rintro⟨g,e,lG,b,j,t,UY,x,i,cs,ys,y,hT,hp,RJ,hj,hi,hX,heb,T9,rfl⟩;constructor;simp only[dI,ho,hp,ht,PA,hnp,T9,hX,heb];simp;simp only[sC,hT,hp,xC,cd,ED,AS.fj,RJ,eV,hj,dite_true,and_self,hi,aa,AS.fD,hd];rfl
theorem adm (ht:MW an o=true)(ho:o.op=.load T p)(gX:dI E an X o st=true)(h:sC E an o T p st some=some st'):eM E Γ an X o st st':=by obtain⟨T',q,d,TH,hd,hg,Lg,Rn⟩:=Zv ht;rw[ho]at TH;cases TH;obtain⟨g,e,lG,b,j,t,UY,x,i,cs,ys,y,hT,hp,RJ,hj,hi,hX,heb,T9,rfl⟩:=(WE ht ho hd Lg Rn).1 ⟨gX,h⟩;refine⟨⟨[(d,.val g (cellsOf e (.own none) y))],some (b,iQ cs j (.sl (.fL (some t) i (some st.ep)) e ys)),none⟩,⟨λx hx=>?_,λb' ig=>?_,λ_ hh=>by cases hh⟩,rfl,λst2 ha=>?_⟩;simp only[dC]at hx;subst hx;simp[writes,hd];cases ig;simp only[M0,ho,hd,Lg,af,ht,heb];simp;have h2:=((WE (E:=E) (X:=X) (st:=st2) ht ho hd Lg Rn).2 ⟨g,e,lG,b,j,t,UY,x,i,cs,ys,y,hT,by rw[ha.rd (λt ht=>by simpa[dM,ho]using ht)];exact hp,by rw[ha.box b hX];exact RJ,hj,hi,hX,heb,T9,rfl⟩).2;simp only[df,ho];rw[h2];simp only[Re,ha.ep];rfl
theorem agl (ho:o.op=.load T p)(hm:qC an o=true)(gX:dI E an X o st=true)(h:sC E an o T p st some=some st'):eM E Γ an X o st st':=by
 cases hE:MW an o with|true=>exact adm hE ho gX h|false=> ?_
 have hr:∀st2,iK an X o st st2->st2.rd p=st.rd p:=λst2 ha=>ha.rd (λt ht=>by simpa[dM,ho]using ht);have xC:MY an o=false:=by simp only[qC,ho,hE,Bool.or_false]at hm;unfold MY;cases hdd:o.dst with|none=>rfl|some d=>rw[hdd]at hm;simp only[dA,aW]at hm;rcases hm with hm|hm;simp only[hm,gN];cases Rn:an.mb d with|none=>rw[Rn]at hm;cases hm|some _=>simp[Rn]
 unfold sC at h;split at h;rename_i sh s off hT hp;simp only[dI,ho,hp,ah,aW]at gX;split at h;rename_i cs hb;split at h;rename_i iB;split at h;rename_i d hd;have kW:∀st2,iK an X o st st2->nth st2.boxes s=nth st.boxes s:=λst2 ha=>ha.box s gX.1.1;cases hf:an.mv.contains d with
 |false=>simp only[hf,bg,cE]at h;cases h;refine eM.put (by rw[hd]) λst2 ha=>?_;simp only[df,ho,sC,hT,hr st2 ha,hp,kW st2 ha,hb,aM iB,hd,hf,bg,cE,ha.ep]
 |true=>
  simp only[hf,cd]at h;have Rn:an.mb d=some s:=by have:=gX.1.2;rw[hd]at this;simp only[hf,ai,cC,bn]at this;exact this
  cases h;refine⟨⟨[(d,.val sh.agg ((cs.drop off).take sh.ct.size))],some (s,dw cs off (bc st.ep ((cs.drop off).take sh.ct.size))),none⟩,⟨λx hx=>?_,λb ig=>?_,λ_ hh=>by cases hh⟩,?_,λst2 ha=>?_⟩;simp only[dC]at hx;subst hx;simp[writes,hd];cases ig;simp only[M0,ho,hd,hf,af,Rn];simp;rw[VO,hd];simp only[df,ho,sC,hT,hr st2 ha,hp,kW st2 ha,hb,aM iB,hd,hf,cd,ha.ep,VO]
 cases h;cases h;cases h;rename_i sh fl e x i off hT hp;rw[aK (by simp[xC])]at h;split at h;rename_i hl;split at h;rename_i iB;cases h;refine eM.put rfl λst2 ha=>?_;simp only[df,ho,sC,hT,hr st2 ha,hp,ha.ep,xC,bg,cE,aM hl,aM iB];cases h;rename_i hl;have N9:∀r t UY,fl=.loc UY (some (r,t))->∀st2,iK an X o st st2->st2.fj r=st.fj r:=by rintro r t UY rfl st2 ha;simp only[dI,ho,hp,hE,bB,jB,gw,ah,dA]at gX;rcases gX.1.1 with hq|hq;exact absurd hq hl;cases r with|slot b j=>simp only[AS.fj];rw[ha.er b (by simpa using hq)]|box b j=>simp only[AS.fj];rw[ha.box b (by simpa using hq)]|io j=>cases hq
 unfold KQ at h;split at h;rename_i UY r t;split at h;rename_i t' e' ys hrg;split at h;rename_i he;split at h;rename_i hc;cases hi:idx (he▸ys:List _) i with|none=>rw[hi]at h;cases h|some y=>rw[hi]at h;simp only[aa]at h;cases h;refine eM.put rfl λst2 ha=>?_;simp only[df,ho,sC,hT,hr st2 ha,hp,ha.ep,xC,bg,cE,aK hl,KQ,N9 _ _ _ rfl st2 ha,hrg,dif_pos he,aM hc,hi,aa]
 cases h;cases h;cases h;cases h;cases h
theorem VR (ho:o.op=.nilCheck x)(h:df E Γ an o st some=some st'):eM E Γ an X o st st':=by have hr:∀st2,iK an X o st st2->st2.rd x=st.rd x:=λst2 ha=>ha.rd (λt ht=>by simpa[dM,ho]using ht);simp only[df,ho]at h;split at h;rename_i s off hx;cases h;refine eM.put rfl λst2 ha=>?_;simp only[df,ho,hr st2 ha,hx];rename_i fl e y i off hx;cases h;refine eM.put rfl λst2 ha=>?_;simp only[df,ho,hr st2 ha,hx];cases h
theorem WS {op:BinOp}{x y:AV}(h:(NQ op x y λc=>some (st.put o.dst (.one c)))=some st'):∃v,st'=st.put o.dst v/\∀st2:AS,(NQ op x y λc=>some (st2.put o.dst (.one c)))=some (st2.put o.dst v):=by have key:∀s:AS,(NQ op x y λc=>some (s.put o.dst (.one c)))=(NQ op x y some).bind λc=>some (s.put o.dst (.one c)):=λs=>(Na op x y some _).symm;rw[key st]at h;cases hb:NQ op x y some with|none=>rw[hb]at h;cases h|some c=>rw[hb]at h;cases h;exact⟨_,rfl,λst2=>by rw[key st2,hb];rfl⟩
theorem ZB {op:BinOp}{b:Bool}(h:(Lc op b λc=>some (st.put o.dst (.one c)))=some st'):∃v,st'=st.put o.dst v/\∀st2:AS,(Lc op b λc=>some (st2.put o.dst (.one c)))=some (st2.put o.dst v):=by unfold Lc at h;split at h;cases h;exact⟨_,rfl,λst2=>rfl⟩;cases h;exact⟨_,rfl,λst2=>rfl⟩;cases h
theorem ajT {op:BinOp}{T':TypeId}{y:Operand}(ho:o.op=.binOp op T x y T')(h:HI E o op T x y st some=some st'):eM E Γ an X o st st':=by
 have hr:∀st2,iK an X o st st2->st2.rd x=st.rd x/\st2.rd y=st.rd y:=λst2 ha=>
  ⟨ha.rd (λt ht=>by simp[dM,ho,ht]),ha.rd (λt ht=>by simp[dM,ho,ht])⟩
 unfold HI at h;split at h;rename_i a b hx hy;split at h;rename_i hT;obtain⟨v,rfl,hv⟩:=WS h;refine eM.put rfl λst2 ha=>?_;simp only[df,ho,HI,(hr st2 ha).1,(hr st2 ha).2,hx,hy,aM hT];exact hv st2;cases h;rename_i xs ys hx hy;split at h;rename_i ls hq;split at h;rename_i iB;obtain⟨v,rfl,hv⟩:=WS h;refine eM.put rfl λst2 ha=>?_;simp only[df,ho,HI,(hr st2 ha).1,(hr st2 ha).2,hx,hy,hq,aM iB];exact hv st2;cases h;cases h;rename_i fl e xs hx hy;split at h;rename_i hT;split at h;cases h;rename_i hlen;obtain⟨v,rfl,hv⟩:=ZB h;refine eM.put rfl λst2 ha=>?_;simp only[df,ho,HI,(hr st2 ha).1,(hr st2 ha).2,hx,hy,ha.ep,aM hT,aK hlen];exact hv st2;cases h;rename_i hx hy;split at h;rename_i hT;obtain⟨v,rfl,hv⟩:=ZB h;refine eM.put rfl λst2 ha=>?_;simp only[df,ho,HI,(hr st2 ha).1,(hr st2 ha).2,hx,hy,aM hT];exact hv st2;cases h;rename_i a b HE Dc hn3 hn4;obtain⟨v,rfl,hv⟩:=WS h;refine eM.put rfl λst2 ha=>?_;simp only[df,ho,HI,(hr st2 ha).1,(hr st2 ha).2];exact hv st2
theorem am7 {op:UnOp}(ho:o.op=.unOp op T x)(h:(unC op (st.rd x) λc=>some (st.put o.dst (.one c)))=some st'):eM E Γ an X o st st':=by have hr:∀st2,iK an X o st st2->st2.rd x=st.rd x:=λst2 ha=>ha.rd (λt ht=>by simpa[dM,ho]using ht);have key:∀s:AS,(unC op (st.rd x) λc=>some (s.put o.dst (.one c)))=(unC op (st.rd x) some).bind λc=>some (s.put o.dst (.one c)):=λs=>(aeG op (st.rd x) some _).symm;rw[key st]at h;cases hb:unC op (st.rd x) some with|none=>rw[hb]at h;cases h|some c=>rw[hb]at h;cases h;refine eM.put rfl λst2 ha=>?_;simp only[df,ho,hr st2 ha];rw[key st2,hb];rfl
theorem adi {S:TypeId}{f:Nat}(ho:o.op=.fieldAddr S p f)(h:GC E o S p f st some=some st'):eM E Γ an X o st st':=by have hr:∀st2,iK an X o st st2->st2.rd p=st.rd p:=λst2 ha=>ha.rd (λt ht=>by simpa[dM,ho]using ht);unfold GC at h;split at h;rename_i hT hp;split at h;rename_i hf;cases h;refine eM.put rfl λst2 ha=>?_;simp only[df,ho,GC,hr st2 ha,hT,hp,hf];cases h;rename_i hT hp;split at h;rename_i hf;cases h;refine eM.put rfl λst2 ha=>?_;simp only[df,ho,GC,hr st2 ha,hT,hp,hf];cases h;cases h
theorem Gf {v:AV}{s:AS}(h:v.now s.ep=true):v.fresh s=v:=by
 cases v with
 |Af vs=>rfl
 |val g cs=>
  simp only[AV.now,aP]at h;simp only[AV.fresh];congr 1;have:cs.map s.fresh=cs.map id:=List.map_congr_left λc hc=>by have hn:=h c hc;unfold AS.fresh;split;simp only[AC.now]at hn;rw[hn];rfl;rfl
  rw[this,List.map_id]
theorem acd {v:AV}{st st2:AS}(he:st2.ep=st.ep)(h:v.now st.ep=true\/∃g ep b j t e xs,v=.val g [.sl (.loc ep (some (.box b j,t))) e xs]/\nth st2.boxes b=nth st.boxes b):v.fresh st2=v.fresh st:=by rcases h with h|⟨g,ep,b,j,t,e,xs,rfl,hb⟩;rw[Gf h,Gf (by rw[he];exact h)];simp only[AV.fresh,ew,List.map_nil];congr 2;unfold AS.fresh;simp only[AS.fj,he,hb]
theorem TM {i:Operand}(ho:o.op=.indexAddr T x i)(gX:dI E an X o st=true)(h:oO E o T x i st some=some st'):eM E Γ an X o st st':=by
 have hr:∀st2,iK an X o st st2->st2.rd x=st.rd x/\st2.rd i=st.rd i:=λst2 ha=>
  ⟨ha.rd (λt ht=>by simp[dM,ho,ht]),ha.rd (λt ht=>by simp[dM,ho,ht])⟩
 have JF:∀st2,iK an X o st st2->(st.rd x).fresh st2=(st.rd x).fresh st:=λst2 ha=>by refine acd ha.ep ?_;simp only[dI,ho,dA]at gX;rcases gX with hn|hn;exact .inl hn;split at hn;rename_i g ep b j t e xs hx;exact .inr ⟨g,ep,b,j,t,e,xs,hx,ha.box b (by simpa using hn)⟩;cases hn
 unfold oO at h;split at h;rename_i e' fl e xs k n hT hx hi;split at h;rename_i hc;cases JY:idx xs n with|none=>rw[JY]at h;cases h|some y=>rw[JY]at h;cases h;refine eM.put rfl λst2 ha=>?_;have hf3:=JF st2 ha;rw[hx]at hf3;simp only[df,ho,oO,(hr st2 ha).1,(hr st2 ha).2,hf3,hT,hi,ha.ep,aM hc,JY,aa]
 cases h;cases h
theorem adj {i:Operand}(ho:o.op=.index T x i)(h:ID E o T x i st some=some st'):eM E Γ an X o st st':=by
 have hr:∀st2,iK an X o st st2->st2.rd x=st.rd x/\st2.rd i=st.rd i:=λst2 ha=>
  ⟨ha.rd (λt ht=>by simp[dM,ho,ht]),ha.rd (λt ht=>by simp[dM,ho,ht])⟩
 unfold ID at h;split at h;rename_i s k n hx hi;split at h;rename_i hc;cases JY:idx s n with|none=>rw[JY]at h;cases h|some y=>rw[JY]at h;cases h;refine eM.put rfl λst2 ha=>?_;simp only[df,ho,ID,(hr st2 ha).1,(hr st2 ha).2,hx,hi,aM hc,JY,aa]
 cases h;cases h
theorem eM.new {v:AV}(h:st'=(st.fR o.dst).put o.dst v)(h2:∀st2,iK an X o st st2->df E Γ an o st2 some=some ((st2.fR o.dst).put o.dst v)):eM E Γ an X o st st':=⟨Ps o v,XK v,by rw[Ri];exact h,λst2 ha=>by rw[Ri];exact h2 st2 ha⟩
theorem iK.jb (ha:iK an X o st st2):st2.jb o.dst=st.jb o.dst:=by funext j;cases hd:o.dst with|none=>rfl|some d=>simp only[AS.jb,(ha.dst d hd).1]
theorem Qz {lo hi:au Operand}{n:Nat}{f:AS->Int->Int->au AS}(hs:∀st2,iK an X o st st2->lo.map st2.rd=lo.map st.rd/\hi.map st2.rd=hi.map st.rd)(h:pe st lo hi n (f st)=some st'):∃a b,f st a b=some st'/\∀st2,iK an X o st st2->pe st2 lo hi n (f st2)=f st2 a b:=by unfold pe at h;split at h;rename_i h1 h2;exact⟨_,_,h,λst2 ha=>by simp only[pe,(hs st2 ha).1,(hs st2 ha).2,h1,h2]⟩;rename_i h1 h2;exact⟨_,_,h,λst2 ha=>by simp only[pe,(hs st2 ha).1,(hs st2 ha).2,h1,h2]⟩;rename_i h1 h2;exact⟨_,_,h,λst2 ha=>by simp only[pe,(hs st2 ha).1,(hs st2 ha).2,h1,h2]⟩;rename_i h1 h2;exact⟨_,_,h,λst2 ha=>by simp only[pe,(hs st2 ha).1,(hs st2 ha).2,h1,h2]⟩;cases h
theorem adk {lo hi:au Operand}(ho:o.op=.slice T x lo hi none)(hm:qC an o=true)(gX:dI E an X o st=true)(h:Hu E an o T x lo hi st some=some st'):eM E Γ an X o st st':=by
 have hr:∀st2,iK an X o st st2->st2.rd x=st.rd x:=λst2 ha=>ha.rd (λt ht=>by simp[dM,ho,ht]);have hb:∀st2,iK an X o st st2->lo.map st2.rd=lo.map st.rd/\hi.map st2.rd=hi.map st.rd:=by
  intro st2 ha;constructor;cases lo with|none=>rfl|some y=>simp only[dB];rw[ha.rd (λt ht=>by simp[dM,ho,tmO,ht])]
  cases hi with|none=>rfl|some y=>simp only[dB];rw[ha.rd (λt ht=>by simp[dM,ho,tmO,ht])]
 have Mm:(st.rd x).now st.ep=true:=by simpa[dI,ho]using gX
 have JF:∀st2,iK an X o st st2->(st.rd x).fresh st2=st.rd x:=λst2 ha=>Gf (by rw[ha.ep];exact Mm);have xC:MY an o=false:=by simpa[qC,ho]using hm
 unfold Hu at h;rw[aK (by simp[xC]),Gf Mm]at h;split at h;rename_i s hx;split at h;rename_i hT;obtain⟨a,b,h1,h2⟩:=Qz (f:=λs0 a b=>aa (sub s a b) λs'=>some (s0.put o.dst (.one (.str s')))) hb h;cases ti:sub s a b with|none=>rw[ti]at h1;cases h1|some s'=>rw[ti]at h1;cases h1;refine eM.put rfl λst2 ha=>?_;have hf3:=JF st2 ha;rw[hx]at hf3;simp only[df,ho,Hu,xC,bg,cE,hr st2 ha,hx,hf3,aM hT];rw[h2 st2 ha,ti];rfl
 cases h;rename_i fl e xs hx;split at h;rename_i hT;obtain⟨a,b,h1,h2⟩:=Qz (f:=λs0 a b=>aa (sub xs a b) λW2=>some (s0.put o.dst (.one (.sl (VY an o fl a) e W2)))) hb h;cases ti:sub xs a b with|none=>rw[ti]at h1;cases h1|some s'=>rw[ti]at h1;cases h1;refine eM.put rfl λst2 ha=>?_;have hf3:=JF st2 ha;rw[hx]at hf3;simp only[df,ho,Hu,xC,bg,cE,hr st2 ha,hx,hf3,ha.ep,aM hT];rw[h2 st2 ha,ti];rfl
 cases h;cases h
theorem OL {args:ar Operand}(hl:∀t,t∈XH args->t∈dM o)(ha:iK an X o st st2):args.map st2.rd=args.map st.rd:=by apply List.map_congr_left;intro x hx;exact ha.rd (λt ht=>hl t (by simp only[XH,List.mem_flatMap];exact⟨x,hx,ht⟩))
theorem ajV (ho:o.op=.call {callee:=.builtin .len,args,argTypes:=ts})(h:VN E o ts.toList args.toList st some=some st'):eM E Γ an X o st st':=by have hr:∀st2,iK an X o st st2->args.toList.map st2.rd=args.toList.map st.rd:=λst2 ha=>OL (λt ht=>by simp only[dM,ho];exact ht) ha;unfold VN at h;split at h;rename_i t s uJ hx;split at h;rename_i hT;cases h;refine eM.put rfl λst2 ha=>?_;simp only[df,ho,VN,hr st2 ha,uJ,hx,aM hT];cases h;rename_i t _ _ xs uJ hx;split at h;rename_i hT;cases h;refine eM.put rfl λst2 ha=>?_;simp only[df,ho,VN,hr st2 ha,uJ,hx,aM hT];cases h;cases h
theorem ajX (ho:o.op=.call {callee:=.builtin .min,args,argTypes:=ts})(h:Xo o args.toList st some=some st'):eM E Γ an X o st st':=by have hr:∀st2,iK an X o st st2->args.toList.map st2.rd=args.toList.map st.rd:=λst2 ha=>OL (λt ht=>by simp only[dM,ho];exact ht) ha;unfold Xo at h;split at h;rename_i hx;cases h;refine eM.put rfl λst2 ha=>?_;simp only[df,ho,Xo,hr st2 ha,hx];cases h
theorem ajW (ho:o.op=.call {callee:=.builtin .max,args,argTypes:=ts})(h:Xn o args.toList st some=some st'):eM E Γ an X o st st':=by have hr:∀st2,iK an X o st st2->args.toList.map st2.rd=args.toList.map st.rd:=λst2 ha=>OL (λt ht=>by simp only[dM,ho];exact ht) ha;unfold Xn at h;split at h;rename_i hx;cases h;refine eM.put rfl λst2 ha=>?_;simp only[df,ho,Xn,hr st2 ha,hx];cases h
theorem ajN {l:ei}{c:AC}(h:c.anA l=true)(hl:∀t∈l,st2.get t=st.get t):st2.Xl c=st.Xl c:=by
 cases c with
 |sl fl e xs=>
  cases fl with
  |loc ep pv=>cases pv with|none=>rfl|some q=>obtain⟨r,t⟩:=q;cases r with|slot b j=>have hb:st2.get b=st.get b:=hl b (by simpa[AC.anA]using h);simp only[AS.Xl,AS.fj,hb]|box _ _=>rfl|io _=>rfl
  |_=>rfl
 |_=>rfl
theorem agc {l:ei}(hx:QN l st x=true)(hl:∀t∈l,st2.get t=st.get t)(h:∀t∈tm x,st2.get t=st.get t):Ie st2 x=Ie st x/\Jj st2 x=Jj st x:=by
 cases x with
 |tmp t=>have ht:=h t (by simp[tm]);simp only[QN]at hx;cases hg:st.get t with|Af vs=>exact⟨by simp only[Ie,ht,hg],by simp only[Jj,ht,hg]⟩|val g cs=>rw[hg]at hx;have hm:cs.map st2.Xl=cs.map st.Xl:=List.map_congr_left λc hc=>ajN (aP.1 hx c hc) hl;exact⟨by simp only[Ie,ht,hg,hm],by simp only[Jj,ht,hg,hm]⟩
 |const v=>exact⟨rfl,rfl⟩
 |func f=>exact⟨rfl,rfl⟩
 |global g=>exact⟨rfl,rfl⟩
theorem Xp (ho:o.op=.call {callee:=.value f,args,argTypes:=ts})(gX:dI E an X o st=true){k:Nat}(hf:st.rd f=.val false [.fn k])(kW:(Γ k).bx=true)(hcur:(Γ k).cur=true)(h:Aj Γ o k args.toList st some=some st'):eM E Γ an X o st st':=by
 unfold Aj at h;split at h;rename_i x0 xs fK;split at h;rename_i s hx0;have iA:yt an X (erS an o) st (x0::xs)=true:=by have h1:=gX;simp only[dI,ho,ah]at h1;rw[<-fK];exact h1.1
 have hx1:∃q,x0=.tmp q/\X.contains s=false/\an.sb q=some s/\(match (nth st.boxes s).getD none with|some cs=>cs.all AC.PC|none=>true)=true/\xs.all (QN (erS an o) st)=true:=by cases x0 with|tmp q=>simp only[yt,hx0,als,ah,aW,bn]at iA;exact⟨q,rfl,iA.1.1.1,iA.1.1.2,iA.1.2,iA.2⟩|const v=>simp only[yt,hx0,AV.ah8]at iA;cases iA|func v=>simp only[yt,hx0,AV.ah8]at iA;cases iA|global v=>simp only[yt,hx0,AV.ah8]at iA;cases iA
 obtain⟨q,rfl,hX,hsb,LH,HT⟩:=hx1;split at h;rename_i cs Yi;rw[Yi]at LH;simp only at LH;cases hc:(cs.all (AC.Fa (K8 cs))&&xs.all (Jj st))with
 |false=>rw[hc]at h;cases h
 |true=>
  rw[hc]at h;simp only[af]at h;cases fM:(Γ k).fn (.val true (cs.map AC.abf)::xs.map (Ie st))with
  |none=>rw[fM]at h;cases h
  |some y=>
   rw[fM]at h;simp only[aa]at h;cases hc2:(((Γ k).back y).all (AC.Fa true)&&((Γ k).av y).aj0)with
   |false=>rw[hc2]at h;cases h
   |true=>
    rw[hc2]at h;simp only[af,hcur,LH,cB,bf]at h;subst h;refine⟨⟨o.dst.toList.map λd=>(d,((Γ k).av y).K9 st.ep (st.jb o.dst)),some (s,sP (K8 cs) (λ_=>none) 0 ((Γ k).back y)),o.dst⟩,⟨λx hx=>?_,λb hb=>?_,λd hd=>hd⟩,?_,λst2 ha=>?_⟩;simp only[List.mem_map]at hx;obtain⟨d,hd,rfl⟩:=hx;simp[writes,hd];cases hb;simp[M0,ho,fK,hsb];unfold Rm.apply AS.put AS.fR AS.eZ;cases o.dst<;>rfl;have e1:st2.rd f=st.rd f:=ha.rd (λt ht=>by simp[dM,ho,ht]);have hl:∀x∈Operand.tmp q::xs,∀t∈tm x,t∈dM o:=by intro x hx t ht;simp only[dM,ho,aA,XH,List.mem_flatMap,fK];exact .inr ⟨x,hx,ht⟩
    have e2:st2.rd (.tmp q)=st.rd (.tmp q):=ha.rd (hl _ (by simp));have e3:nth st2.boxes s=nth st.boxes s:=ha.box s hX;have e4:∀x∈xs,Ie st2 x=Ie st x/\Jj st2 x=Jj st x:=λx hx=>agc (aP.1 HT x hx) ha.er λt ht=>ha.get t (hl x (by simp[hx]) t ht);have e5:xs.map (Ie st2)=xs.map (Ie st):=List.map_congr_left λx hx=>(e4 x hx).1;have e6:xs.all (Jj st2)=xs.all (Jj st):=by rw[dU];simp only[aP];exact⟨λg x hx=>by rw[<-(e4 x hx).2];exact g x hx,λg x hx=>by rw[(e4 x hx).2];exact g x hx⟩
    simp only[df,ho,La,e1,hf,kW,af,Aj,fK,e2,hx0,e3,Yi,e5,e6,hc,fM,aa,hc2,hcur,LH,cB,ha.ep,ha.jb];unfold Rm.apply AS.put AS.fR AS.eZ;cases o.dst<;>rfl
 cases h;cases h;cases h
theorem agk (EH:∀f,(Γ f).io=false/\((Γ f).bx=true->(Γ f).cur=true)/\(Γ f).pr=false)(ho:o.op=.call {callee:=.value f,args,argTypes:=ts})(gX:dI E an X o st=true)(h:La Γ o f args.toList st some=some st'):eM E Γ an X o st st':=by
 have hr:∀st2,iK an X o st st2->st2.rd f=st.rd f/\(args.toList.map λx=>((st2.rd x).fresh st2).asArg st2.ep)=args.toList.map λx=>((st.rd x).fresh st).asArg st.ep:=by
  intro st2 ha;refine⟨ha.rd (λt ht=>by simp[dM,ho,ht]),?_⟩;apply List.map_congr_left;intro x hx;have Mm:(st.rd x).now st.ep=true:=by simp only[dI,ho,ah,aP]at gX;exact gX.2 x hx
  rw[ha.rd (λt ht=>by simp only[dM,ho,aA,XH,List.mem_flatMap];exact .inr ⟨x,hx,ht⟩),Gf Mm,Gf (s:=st2) (by rw[ha.ep];exact Mm),ha.ep]
 unfold La at h;split at h
 ·rename_i k hf
  cases kW:(Γ k).bx with
  |true=>rw[kW]at h;exact Xp ho gX hf kW ((EH k).2.1 kW) h
  |false=>
  rw[kW,(EH k).2.2,(EH k).1]at h
  simp only[ae]at h
  cases hg:(Γ k).fn (args.toList.map λx=>((st.rd x).fresh st).asArg st.ep)with
  |none=>rw[hg]at h;cases h
  |some y=>
   rw[hg]at h
   simp only[aa]at h
   cases Xf:(Γ k).sel y with
   |true=>
    rw[Xf]at h
    cases h
    refine eM.new rfl λst2 ha=>?_
    simp only[df,ho,La,(hr st2 ha).1,hf,(EH k).1,kW,(EH k).2.2,ae]
    rw[(hr st2 ha).2,hg]
    simp only[aa,Xf,af,ha.ep,ha.jb]
   |false=>
    rw[Xf]at h
    cases h
    refine eM.new rfl λst2 ha=>?_
    simp only[df,ho,La,(hr st2 ha).1,hf,(EH k).1,kW,(EH k).2.2,ae]
    rw[(hr st2 ha).2,hg]
    simp only[aa,Xf,ae,ha.ep,ha.jb]
 cases h
theorem Xq {src dst:TypeId}(ho:o.op=.convert src dst x)(h:nO E o src dst x st some=some st'):eM E Γ an X o st st':=by
 have hr:∀st2,iK an X o st st2->st2.rd x=st.rd x:=λst2 ha=>ha.rd (λt ht=>by simpa[dM,ho]using ht);unfold nO at h;split at h;rename_i h1 h2 h3;cases h;refine eM.put rfl λst2 ha=>?_;simp only[df,ho,nO,hr st2 ha,h1,h2,h3];rename_i h1 h2 h3;cases h;refine eM.put rfl λst2 ha=>?_;simp only[df,ho,nO,hr st2 ha,h1,h2,h3];rename_i lG val s Nn h1 h2 h3;split at h;rename_i hb;unfold room at h;split at h;rename_i hrm;cases h;refine eM.new (v:=.one (.sl (.own (st.jb o.dst 0)) (.int .u8) (dc s))) rfl λst2 ha=>?_;have NW:∀k:AS->au AS,nO E o src dst x st2 k=if E.bytes dst then room s.length (k (st2.tj o.dst (.int .u8) (dc s))) else none:=by intro k;unfold nO;rw[hr st2 ha,h1,h2,h3];obtain⟨ag,ct,of⟩:=val;cases ag with|true=>rfl|false=>cases ct with|str=>exact(Nn _ rfl).elim|_=>rfl
 simp only[df,ho];rw[NW,aM hb,room,aM hrm,AS.tj,ha.jb];cases h;cases h;rename_i val lG fl xs h1 h2 h3;split at h;rename_i hb;cases h;refine eM.put rfl λst2 ha=>?_;have NW:∀k:AS->au AS,nO E o src dst x st2 k=if E.bytes src/\fl.live st2.ep then k (st2.put o.dst (.one (.str (aU xs)))) else none:=by intro k;unfold nO;rw[hr st2 ha,h1,h2,h3];obtain⟨ag,ct,of⟩:=val;cases ag with|true=>rfl|false=>cases ct<;>rfl
 simp only[df,ho];rw[NW,ha.ep,aM hb];cases h;cases h
theorem SF {d:Nat}{v:AV}:(⟨[(d,v)],some (d,cs),none⟩:Rm).apply st=(st.eZ d (some cs)).put (some d) v:=rfl
theorem adg (ho:o.op=.alloc T)(h:JH E o T st some=some st'):eM E Γ an X o st st':=by unfold JH at h;split at h;rename_i d sh hd hT;split at h;rename_i hb;cases h;refine⟨⟨[(d,.one (.ptr d 0))],some (d,cellsOf sh.ct (.own none) sh.ct.zero),none⟩,⟨λx hx=>?_,λb ig=>?_,λ_ hh=>by cases hh⟩,?_,λst2 ha=>?_⟩;simp only[dC]at hx;subst hx;simp[writes,hd];cases ig;simp[M0,ho,hd];rw[SF,hd];simp only[df,ho,JH,hd,hT,(ha.dst d hd).2,hb,SF];cases h;cases h
def rj (st:AS):Operand->ar (Nat×AV)
 | .tmp t=>[(t,(st.get t).bc st.ep)]
 |_=>[]
theorem IJ (l:ar AV)(a b:ar (Nat×AV)):lI l (a++b)=lI (lI l a) b:=by induction a generalizing l with|nil=>rfl|cons x a ih=>exact ih _
def AS.lS (st:AS)(l:ar (Nat×AV)):AS:={st with slots:=lI st.slots l}
theorem vq (a b:ar (Nat×AV)):st.lS (a++b)=(st.lS a).lS b:=by simp only[AS.lS,IJ]
theorem JA (x:Operand):(st.take x).2=st.lS (rj st x):=by cases x<;>rfl
theorem KY (Cw:st2.ep=st.ep)(h:∀t∈tm x,st2.get t=st.get t):(st2.take x).1=(st.take x).1/\(st2.take x).2=st2.lS (rj st x):=by cases x with|tmp t=>have:=h t (by simp[tm]);refine⟨this,?_⟩;rw[JA];simp only[rj,this,Cw]|const v=>exact⟨rfl,rfl⟩|func f=>exact⟨rfl,rfl⟩|global g=>exact⟨rfl,rfl⟩
theorem Rf:∀y∈rj st x,y.1∈tm x:=by cases x<;>simp[rj,tm]
theorem agm (ho:o.op=.move x)(h:Jn an o x st some=some st'):eM E Γ an X o st st':=by
 unfold Jn at h;cases hd:o.dst with
 |none=>rw[hd]at h;cases h
 |some d=>
  rw[hd]at h;cases hf:an.mv.contains d with
  |false=>simp only[hf,bg,cE]at h;cases h;refine eM.put (v:=st.rd x) (by rw[hd]) λst2 ha=>?_;have hr:st2.rd x=st.rd x:=ha.rd (λt ht=>by simpa[dM,ho]using ht);simp only[df,ho,Jn,hd,hf,bg,cE,hr]
  |true=>
   simp only[hf,cd]at h;cases h;have hr:∀st2,iK an X o st st2->(st2.take x).1=(st.take x).1/\(st2.take x).2=st2.lS (rj st x):=λst2 ha=>KY ha.ep λt ht=>ha.get t (by simpa[dM,ho]using ht);refine⟨⟨rj st x++[(d,(st.take x).1)],none,none⟩,⟨λy hy=>?_,λ_ hh=>(by cases hh),λ_ hh=>(by cases hh)⟩,?_,λst2 ha=>?_⟩;rcases aA.1 hy with hy|hy;have:=Rf y hy;have hf':d∈an.mv:=by simpa using hf
   simp[writes,MX,ho,hd,hf',dM,this];simp only[dC]at hy;subst hy;simp[writes,hd];rw[JA];show _=st.lS _;rw[vq];rfl;simp only[df,ho,Jn,hd,hf,cd,(hr st2 ha).1,(hr st2 ha).2];show some ((st2.lS (rj st x)).put (some d) (st.take x).1)=some (st2.lS _);rw[vq];rfl
theorem ab6 {ep:Nat}(h:cs.all AC.hY=true):bc ep cs=cs:=by
 rw[aP]at h;unfold bc;have:cs.map (AC.borrow ep none)=cs.map id:=List.map_congr_left λc hc=>by have:=h c hc;cases c<;>first|rfl|(simp[AC.hY]at this)
 rw[this,List.map_id]
theorem apd {s:AS}{vs:ar (Bool×ar AC)}(h:s.get t=.Af vs):s.put (some t) (.Af vs)=s:=by cases s with|mk slots boxes ep iss io=>simp only[AS.put,AS.mk.injEq,iX];rw[fE];apply cW;intro i;rw[bu];split;rename_i hd;subst hd;simp only[AS.get,dY]at h;split;rename_i iJ;rw[al iJ]at h⊢;simp only[fU]at h;rw[h];rename_i Fp;rw[bL (Nat.le_of_not_lt Fp)];rfl
theorem Xr {i:Nat}(ho:o.op=.extract (.tmp t) i)(gX:dI E an X o st=true)(h:nQ o t i st some=some st'):eM E Γ an X o st st':=by
 have hr:∀st2,iK an X o st st2->st2.get t=st.get t:=λst2 ha=>ha.get t (by simp[dM,ho]);unfold nQ at h;simp only[dI,ho]at gX;split at h
 ·rename_i vs hv;rw[hv]at gX;split at h
  ·rename_i g cs hn;simp only[hn]at gX;have hfl:cs.all AC.hY=true\/∃d,o.dst=some d/\an.mv.contains d=true:=by cases hd:o.dst with|none=>simp only[hd,Bool.or_false]at gX;exact .inl gX|some d=>simp only[hd,dA]at gX;rcases gX with h|h;exact .inl h;exact .inr ⟨d,rfl,h⟩
   rcases hfl with gX|⟨d,hd,Lg⟩;rotate_left;cases h;refine⟨⟨[(t,.Af (iQ vs i (g,bc 0 cs))),(d,.val g cs)],none,none⟩,⟨λx hx=>?_,(λ_ hb=>by cases hb),(λ_ hh=>by cases hh)⟩,?_,λst2 ha=>?_⟩;simp only[cq,List.not_mem_nil,or_false]at hx;rcases hx with rfl|rfl;simp only[writes,MX,ho,hd,Lg,af,dM];simp;simp only[writes,hd];simp;rw[hd];rfl;have h2:st2.get t=.Af vs:=by rw[hr st2 ha,hv]
   simp only[df,ho,nQ,h2,hn,hd];rfl;skip;have IA:iQ vs i (g,cs)=vs:=by rw[fE];rw[dY]at hn;apply cW;intro k;rw[bu];split;rename_i hk;subst hk;obtain⟨hl,he⟩:=aJ.1 hn;rw[aM hl,hn];rfl
   have key:∀s:AS,s.get t=.Af vs->(s.put (some t) (.Af (iQ vs i (g,bc 0 cs))))=s:=λs hs=>by rw[ab6 gX,IA,apd hs]
   rw[key st hv]at h;cases h;refine eM.put rfl λst2 ha=>?_;have h2:st2.get t=.Af vs:=by rw[hr st2 ha,hv]
   simp only[df,ho,nQ,h2,hn];rw[key st2 h2]
  cases h
 cases h
def F8 (st:AS):Operand->ar (Nat×AV)
 | .tmp t=>[(t,(st.get t).bc st.ep)]
 |_=>[]
theorem WI (st:AS)(x:Operand):(st.take x).2=⟨lI st.slots (F8 st x),st.boxes,st.ep,st.iss,st.io⟩:=by cases x<;>rfl
theorem adl {pp:Nat}(ho:o.op=.store T (.tmp pp) x)(hd:o.dst=none)(hm:qC an o=true)(gX:dI E an X o st=true)(h:C3 E T (.tmp pp) x st some=some st'):eM E Γ an X o st st':=by
 have hr:∀st2,iK an X o st st2->st2.rd (.tmp pp)=st.rd (.tmp pp):=λst2 ha=>ha.rd (λt ht=>by simp only[dM,ho,aA];exact .inl ht);have hsb:(an.sb pp).isNone=false:=by simp only[qC,ho,ah]at hm;cases hb:an.sb pp with|none=>rw[hb]at hm;cases hm.1|some _=>rfl
 simp only[dI,ho,hsb,gN,cC]at gX;unfold C3 at h;split at h;rename_i sh s off hT hp;rw[hp]at gX;simp only[ah,aW,bn]at gX;split at h;rename_i gg vs st1 xC;have aai:(st.take x).1=.val gg vs:=by rw[xC]
 have Mp:st1=⟨lI st.slots (F8 st x),st.boxes,st.ep,st.iss,st.io⟩:=by rw[<-WI,xC]
 split at h;rename_i cs hb;split at h;rename_i hlen;split at h;rename_i iB;cases h;have kW:∀st2,iK an X o st st2->nth st2.boxes s=nth st.boxes s:=λst2 ha=>ha.box s gX.1;refine⟨⟨F8 st x,some (s,dw cs off vs),none⟩,⟨λy hy=>?_,λb ig=>?_,λ_ hh=>by cases hh⟩,?_,λst2 ha=>?_⟩;cases x with|tmp t=>simp only[F8,dC]at hy;subst hy;simp only[writes,MX,ho,af,dM,hd];simp[tm]|_=>simp[F8]at hy
 cases ig;simp only[M0,ho,gX.2];simp;rw[Mp];rfl;have hx2:(st2.take x).1=(st.take x).1/\F8 st2 x=F8 st x:=by cases x with|tmp t=>have hg:st2.get t=st.get t:=ha.get t (by simp[dM,ho,tm]);simp only[AS.take,F8,hg,ha.ep];simp|const v=>exact⟨rfl,rfl⟩|func f=>exact⟨rfl,rfl⟩|global g=>exact⟨rfl,rfl⟩
 have ht2:st2.take x=(.val gg vs,⟨lI st2.slots (F8 st x),st2.boxes,st2.ep,st2.iss,st2.io⟩):=by rw[<-hx2.2,<-WI,<-aai,<-hx2.1]
 have LI:(nth st2.boxes s).getD none=some cs:=by rw[kW st2 ha];rw[Mp]at hb;exact hb
 have Lf:GV an o=false:=by simp only[qC,ho,ah,aW]at hm;exact hm.2
 simp only[df,ho,hd,Lf,bg,cE,C3,hT,hr st2 ha,hp,ht2,LI,aM hlen,aM iB];rfl;cases h;cases h;cases h;cases h;rename_i r _ _ _ _ _ _ hp;rw[hp]at gX;cases r<;>simp at gX;cases h
theorem aaD (ho:o.op=.assign x)(hm:qC an o=true)(h:Ai E an o x st some=some st'):eM E Γ an X o st st':=by
 have hr:∀st2,iK an X o st st2->(st2.take x).1=(st.take x).1/\(st2.take x).2=st2.lS (rj st x):=λst2 ha=>KY ha.ep λt ht=>ha.get t (by simpa[dM,ho]using ht);have Lf:GV an o=false:=by simpa[qC,ho]using hm
 unfold Ai at h;split at h;rename_i st1 xC;split at h;rename_i e hT;cases h;refine eM.put rfl λst2 ha=>?_;have h2:st2.take x=(.val false [.kS],st2.lS (rj st x)):=Prod.ext (by rw[(hr st2 ha).1,xC]) (hr st2 ha).2;simp only[df,ho,Ai,Lf,bg,cE,h2,hT];cases h;rename_i v st1 Nn xC;cases h;have Mp:st1=st.lS (rj st x):=by rw[<-JA,xC]
 refine⟨⟨rj st x++o.dst.toList.map λd=>(d,v),none,none⟩,⟨λy hy=>?_,λ_ hh=>(by cases hh),λ_ hh=>(by cases hh)⟩,?_,λst2 ha=>?_⟩;rcases aA.1 hy with hy|hy;have:=Rf y hy;simp[writes,MX,ho,dM,this];obtain⟨d,hd,rfl⟩:=List.mem_map.1 hy;simp[writes,hd];rw[Mp];show _=st.lS _;rw[vq];cases o.dst<;>rfl;have h2:st2.take x=(v,st2.lS (rj st x)):=Prod.ext (by rw[(hr st2 ha).1,xC]) (hr st2 ha).2;simp only[df,ho,Ai,Lf,bg,cE,h2];show some ((st2.lS (rj st x)).put o.dst v)=some (st2.lS _);rw[vq];cases o.dst<;>rfl
theorem kT {α:Type}(l:ar α)(i:Nat)(v:α)(t:Nat):nth (iQ l i v) t=if i=t then(if i<l.length then some v else none) else nth l t:=by rw[dY,fE,dY,bu]
theorem V6 (l:ar AV)(a:ar (Nat×AV)):(lI l a).length=l.length:=by induction a generalizing l with|nil=>rfl|cons x a ih=>rw[lI,ih,fE,aL]
theorem agx {l l2:ar AV}(a:ar (Nat×AV))(hl:l2.length=l.length)(t:Nat)(h:nth l2 t=nth l t):nth (lI l2 a) t=nth (lI l a) t:=by induction a generalizing l l2 with|nil=>exact h|cons x a ih=>refine ih (by rw[fE,fE,aL,aL,hl]) ?_;rw[kT,kT,hl,h]
theorem agr (h:st2.get t=st.get t)(hl:st2.slots.length=st.slots.length):nth st2.slots t=nth st.slots t:=by unfold AS.get at h;rw[dY,dY]at h⊢;rcases bS t st.slots.length with iJ|Fp;rw[al iJ,al (by omega)]at h⊢;simpa using h;rw[bL Fp,bL (by omega)]
def lu (st:AS):ar Operand->ar (Nat×AV)
 |[]=>[]
 |x::xs=>rj st x++lu (st.lS (rj st x)) xs
theorem HB:∀(xs:ar Operand)(st:AS),∀y∈lu st xs,y.1∈XH xs
 |[],_,y,hy=>by cases hy
 |x::xs,st,y,hy=>by simp only[XH,List.flatMap_cons,aA];rcases aA.1 hy with hy|hy;exact .inl (Rf y hy);exact .inr (HB xs _ y hy)
theorem IS:∀(xs:ar Operand)(st st2:AS),st2.ep=st.ep->st2.slots.length=st.slots.length->(∀t∈XH xs,nth st2.slots t=nth st.slots t)->
 (ft st2 xs).1=(ft st xs).1/\(ft st2 xs).2=st2.lS (lu st xs)
 |[],st,st2,_,_,_=>⟨rfl,rfl⟩
 |x::xs,st,st2,Cw,hl,hg=>by
  have hx:∀t∈tm x,st2.get t=st.get t:=λt ht=>by unfold AS.get;rw[hg t (by simp[XH,ht])]
  obtain⟨h1,h2⟩:=KY (st:=st) (st2:=st2) Cw hx;have h3:=JA (st:=st) x;obtain⟨k1,k2⟩:=IS xs (st.lS (rj st x)) (st2.lS (rj st x)) Cw (by simp only[AS.lS,V6,hl]) (λt ht=>agx _ hl t (hg t (by simp only[XH,List.flatMap_cons,aA];exact .inr ht)));have e1:ft st (x::xs)=((st.take x).1::(ft (st.take x).2 xs).1,(ft (st.take x).2 xs).2):=rfl;have e2:ft st2 (x::xs)=((st2.take x).1::(ft (st2.take x).2 xs).1,(ft (st2.take x).2 xs).2):=rfl;rw[e1,e2,h1,h2,h3];refine⟨by rw[k1],?_⟩;show(ft (st2.lS (rj st x)) xs).2=_;rw[k2,lu,vq]
theorem KX (xs:ar Operand):(ft st xs).2=st.lS (lu st xs):=(IS xs st st rfl rfl (λ_ _=>rfl)).2
theorem iK.ft (ha:iK an X o st st2){xs:ar Operand}(hx:∀t∈XH xs,t∈dM o):(ft st2 xs).1=(Dn.ft st xs).1/\(Dn.ft st2 xs).2=st2.lS (lu st xs):=IS xs st st2 ha.ep ha.len λt ht=>agr (ha.get t (hx t ht)) ha.len
theorem adh (ho:o.op=.build T parts)(h:Iw E o T parts.toList st some=some st'):eM E Γ an X o st st':=by
 have hl:∀t∈XH (parts.toList.map (·.2)),t∈dM o:=λt ht=>by simp only[dM,ho];exact ht
 unfold Iw at h;split at h;rename_i ct lG hT;split at h;rename_i vs st1 xC;have Mp:st1=st.lS (lu st (parts.toList.map (·.2))):=by rw[<-KX,xC]
 split at h;rename_i cs hb;cases h;refine⟨⟨lu st (parts.toList.map (·.2))++o.dst.toList.map λd=>(d,.val true cs),none,none⟩,⟨λy hy=>?_,λ_ hh=>(by cases hh),λ_ hh=>(by cases hh)⟩,?_,λst2 ha=>?_⟩;rcases aA.1 hy with hy|hy;have:=hl _ (HB _ _ y hy);simp[writes,MX,ho,this];obtain⟨d,hd,rfl⟩:=List.mem_map.1 hy;simp[writes,hd];rw[Mp];show _=st.lS _;rw[vq];cases o.dst<;>rfl;obtain⟨k1,k2⟩:=ha.ft hl;have h2:ft st2 (parts.toList.map (·.2))=(vs,st2.lS (lu st (parts.toList.map (·.2)))):=Prod.ext (by rw[k1,xC]) k2;simp only[df,ho,Iw,hT,h2,hb];show some ((st2.lS _).put o.dst _)=some (st2.lS _);rw[vq];cases o.dst<;>rfl;cases h;cases h
theorem eM.aq5 {v:AV}(ht:MX an o=true)(hl:∀y∈tl,y.1∈dM o)(h:st'=((st.lS tl).fR o.dst).put o.dst v)(h2:∀st2,iK an X o st st2->df E Γ an o st2 some=some (((st2.lS tl).fR o.dst).put o.dst v)):eM E Γ an X o st st':=by
 have key:∀s:AS,(⟨tl++o.dst.toList.map λd=>(d,v),none,o.dst⟩:Rm).apply s=((s.lS tl).fR o.dst).put o.dst v:=by intro s;cases o.dst with|none=>simp only[Rm.apply,Option.toList,List.map_nil,bD,AS.lS,AS.fR,AS.put]|some d=>simp only[Rm.apply,Option.toList,ew,List.map_nil,IJ,AS.lS,AS.fR,AS.put,lI]
 refine⟨⟨tl++o.dst.toList.map λd=>(d,v),none,o.dst⟩,⟨λy hy=>?_,λ_ hh=>(by cases hh),λd hh=>hh⟩,by rw[key];exact h,λst2 ha=>by rw[key];exact h2 st2 ha⟩;rcases aA.1 hy with hy|hy;simp[writes,ht,hl y hy];obtain⟨d,hd,rfl⟩:=List.mem_map.1 hy;simp[writes,hd]
theorem Gn {d:au Nat}:(st.lS tl).jb d=st.jb d:=rfl
theorem R5 {len:Nat}(ho:o.op=.buildSlice T len parts)(h:nL E o T len parts.toList st some=some st'):eM E Γ an X o st st':=by
 have hl:∀t∈XH (parts.toList.map (·.2)),t∈dM o:=λt ht=>by simp only[dM,ho];exact ht
 unfold nL at h;split at h;rename_i e hT;split at h;rename_i hc;split at h;rename_i vs st1 xC;have Mp:st1=st.lS (lu st (parts.toList.map (·.2))):=by rw[<-KX,xC]
 split at h;rename_i xs hb;cases h;refine eM.aq5 (tl:=lu st (parts.toList.map (·.2))) (v:=.one (.sl (.own (st.jb o.dst 0)) e xs)) (by simp[MX,ho]) (λy hy=>hl _ (HB _ _ y hy)) ?_ λst2 ha=>?_;rw[Mp,AS.tj,Gn];obtain⟨k1,k2⟩:=ha.ft hl;have h2:ft st2 (parts.toList.map (·.2))=(vs,st2.lS (lu st (parts.toList.map (·.2)))):=Prod.ext (by rw[k1,xC]) k2;simp only[df,ho,nL,hT,h2,hb,aM hc];rw[AS.tj,Gn,ha.jb];cases h;cases h;cases h
theorem TN {n c:Operand}(ho:o.op=.makeSlice T n c)(h:rH E o T n c st some=some st'):eM E Γ an X o st st':=by
 have hr:∀st2,iK an X o st st2->st2.rd n=st.rd n/\st2.rd c=st.rd c:=λst2 ha=>
  ⟨ha.rd (λt ht=>by simp[dM,ho,ht]),ha.rd (λt ht=>by simp[dM,ho,ht])⟩
 unfold rH at h;split at h;rename_i e len cap hT hn hc;split at h;rename_i hlc;unfold room at h;split at h;rename_i hrm;cases h;refine eM.new (v:=.one (.sl (.own (st.jb o.dst 0)) e (List.replicate len.toNat e.zero))) rfl λst2 ha=>?_;simp only[df,ho,rH,(hr st2 ha).1,(hr st2 ha).2,hT,hn,hc,aM hlc,room,aM hrm,AS.tj,ha.jb];cases h;cases h;cases h
theorem aaC (ho:o.op=.call {callee:=.builtin .append,args,argTypes:=ts})(h:C7 E o ts.toList args.toList st some=some st'):eM E Γ an X o st st':=by
 have hlk:∀t∈XH args.toList,t∈dM o:=λt ht=>by simp only[dM,ho];exact ht
 unfold C7 at h;split at h;rename_i t t' s x uJ fK;have hl:∀u∈XH [s,x],u∈dM o:=by rw[<-fK];exact hlk
 have apO:∀st2,iK an X o st st2->(st2.take s).1=(st.take s).1/\((st2.take s).2.take x).1=((st.take s).2.take x).1/\((st2.take s).2.take x).2=st2.lS (lu st [s,x]):=by intro st2 ha;obtain⟨k1,k2⟩:=ha.ft hl;simp only[Dn.ft,List.cons.injEq,iX]at k1 k2;exact⟨k1.1,k1.2,k2⟩
 have HT:((st.take s).2.take x).2=st.lS (lu st [s,x]):=KX (st:=st) [s,x];split at h;rename_i tag e xs st1 aai;split at h;rename_i fl e' ys aq2 Qb;split at h;rename_i he;subst he;split at h;rename_i hc;unfold room at h;split at h;rename_i hrm;cases h;have Mp:(st.take s).2=st1:=by rw[aai]
 have aah:aq2=st.lS (lu st [s,x]):=by rw[<-HT,Mp,Qb]
 refine eM.aq5 (tl:=lu st [s,x]) (v:=.one (.sl (.own (st.jb o.dst 0)) e' (xs++ys))) (by simp[MX,ho]) (λy hy=>hl _ (HB _ _ y hy)) ?_ λst2 ha=>?_;rw[aah,AS.tj,Gn];obtain⟨k1,k2,k3⟩:=apO st2 ha;have e1:st2.take s=(.val false [.sl (.own tag) e' xs],(st2.take s).2):=Prod.ext (by rw[k1,aai]) rfl;have e2:(st2.take s).2.take x=(.val false [.sl fl e' ys],st2.lS (lu st [s,x])):=Prod.ext (by rw[k2,Mp,Qb]) k3;simp only[df,ho,C7,uJ,fK];rw[e1];simp only;rw[e2];simp only[dite_true,ha.ep,aM hc,room,aM hrm,AS.tj,Gn,ha.jb];cases h;cases h;cases h;rename_i sx aq2 Qb;split at h;rename_i he;subst he;split at h;rename_i hc;unfold room at h;split at h;rename_i hrm;cases h;have Mp:(st.take s).2=st1:=by rw[aai]
 have aah:aq2=st.lS (lu st [s,x]):=by rw[<-HT,Mp,Qb]
 refine eM.aq5 (tl:=lu st [s,x]) (v:=.one (.sl (.own (st.jb o.dst 0)) (.int .u8) (xs++dc sx))) (by simp[MX,ho]) (λy hy=>hl _ (HB _ _ y hy)) ?_ λst2 ha=>?_;rw[aah,AS.tj,Gn];obtain⟨k1,k2,k3⟩:=apO st2 ha;have e1:st2.take s=(.val false [.sl (.own tag) (.int .u8) xs],(st2.take s).2):=Prod.ext (by rw[k1,aai]) rfl;have e2:(st2.take s).2.take x=(.val false [.str sx],st2.lS (lu st [s,x])):=Prod.ext (by rw[k2,Mp,Qb]) k3;simp only[df,ho,C7,uJ,fK];rw[e1];simp only;rw[e2];simp only[dite_true,aM hc,room,aM hrm,AS.tj,Gn,ha.jb];cases h;cases h;cases h;cases h;cases h;cases h
theorem ajU (ho:o.op=.box T x)(h:ZM o x st some=some st'):eM E Γ an X o st st':=by
 have hr:∀st2,iK an X o st st2->(st2.take x).1=(st.take x).1/\(st2.take x).2=st2.lS (rj st x):=λst2 ha=>KY ha.ep λt ht=>ha.get t (by simpa[dM,ho]using ht);unfold ZM at h;split at h;rename_i d g cs st1 hd xC;have Mp:st1=st.lS (rj st x):=by rw[<-JA,xC]
 split at h;rename_i hb;split at h;rename_i hs;cases h;have Yi:nth st.boxes d=some none:=by rw[Mp]at hb;exact hb
 have key:∀s:AS,(⟨rj st x++[(d,.one (.ptr d 0))],some (d,cs),none⟩:Rm).apply s=((s.lS (rj st x)).eZ d (some cs)).put (some d) (.one (.ptr d 0)):=by intro s;simp only[Rm.apply,IJ,AS.lS,AS.eZ,AS.put,lI]
 refine⟨⟨rj st x++[(d,.one (.ptr d 0))],some (d,cs),none⟩,⟨λy hy=>?_,λb ig=>?_,λ_ hh=>(by cases hh)⟩,?_,λst2 ha=>?_⟩;rcases aA.1 hy with hy|hy;have:=Rf y hy;simp[writes,MX,ho,dM,this];simp only[dC]at hy;subst hy;simp[writes,hd];cases ig;simp[M0,ho,hd];rw[key,Mp,hd];have h2:st2.take x=(.val g cs,st2.lS (rj st x)):=Prod.ext (by rw[(hr st2 ha).1,xC]) (hr st2 ha).2;have LI:nth (st2.lS (rj st x)).boxes d=some none:=by show nth st2.boxes d=_;rw[(ha.dst d hd).2];exact Yi
 simp only[df,ho,ZM,hd,h2,LI,aM hs,key];cases h;cases h;cases h
theorem Wx (EH:∀f,(Γ f).io=false/\((Γ f).bx=true->(Γ f).cur=true)/\(Γ f).pr=false)(hm:qC an o=true)(gX:dI E an X o st=true)(h:df E Γ an o st some=some st'):eM E Γ an X o st st':=by
 have h0:=h;unfold df at h;split at h;rename_i ho;exact agm ho h;rename_i ho;have Lf:GV an o=false:=by simpa[qC,ho]using hm
 rw[aK (by simp[Lf])]at h;exact aaD ho hm h;rename_i ho;exact agn ho h;rename_i ho;exact adg ho h;rename_i ho;exact ajU ho h;rename_i ho;exact agl ho hm gX h;rename_i T p x ho;split at h;rename_i hd;cases p with
 |tmp pp=>
  have Lf:GV an o=false:=by simp only[qC,ho,ah,aW]at hm;exact hm.2
  rw[aK (by simp[Lf])]at h;exact adl ho hd hm gX h
 |const v=>simp[qC,ho]at hm
 |func f=>simp[qC,ho]at hm
 |global g=>simp[qC,ho]at hm
 cases h;rename_i ho;exact VR ho h0;rename_i ho;exact ajT ho h;rename_i ho;exact am7 ho h;rename_i ho;exact adi ho h;rename_i ho;exact TM ho gX h;rename_i ho;exact adj ho h;rename_i ho;exact adh ho h;rename_i ho;exact R5 ho h;rename_i ho;exact TN ho h;rename_i ho;exact adk ho hm gX h;rename_i ho;simp[qC,ho]at hm;rename_i ho;simp[qC,ho]at hm;rename_i ho;exact Xq ho h;rename_i ho;exact Xr ho gX h;rename_i ho;exact ajV ho h;rename_i ho;exact ajX ho h;rename_i ho;exact ajW ho h;rename_i ho;exact aaC ho h;rename_i ho;exact agk EH ho gX h;cases h
end Go.Dn
