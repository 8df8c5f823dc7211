import Derived.Test.YtgbaemfepmabgaaGreatDnMask
/- What an operation looks at and what it turns: for regions whose order is drawn. -/
namespace Go.Dn
structure HG where
 slots:List (Nat×AV):=[]
 box:Option (Nat×List AC):=none
 iss:Option Nat:=none
def jW (l:aw AV):aw (Nat×AV)->aw AV
 |[]=>l
 |x::r=>jW (ir l x.1 x.2) r
def HG.apply (u:HG)(st:AS):AS:=
 ⟨jW st.slots u.slots,(match u.box with|some b=>ir st.boxes b.1 (some b.2)|none=>st.boxes),st.ep,(match u.iss with|some d=>ir st.iss d true|none=>st.iss),st.io⟩
structure ib (an:An) (X:List Nat) (o:Oper) (st st2:AS):Prop where
 len:st2.slots.length=st.slots.length
 get:∀t∈dW o,st2.get t=st.get t
 ep:st2.ep=st.ep
 dst:∀d,o.dst=some d->nth st2.iss d=nth st.iss d/\nth st2.boxes d=nth st.boxes d
 box:∀s,X.contains s=false->nth st2.boxes s=nth st.boxes s
 er:∀t∈erS an o,st2.get t=st.get t
structure HG.Fi (an:An) (u:HG) (o:Oper):Prop where
 slots:∀x∈u.slots,x.1∈writes an o
 box:∀b,u.box=some b->b.1∈D6 an o
 iss:∀d,u.iss=some d->o.dst=some d
variable {E:Env} {Γ:dK} {an:An} {X:fu} {o:Oper} {st st2 st':AS}
variable {v:AV} {parts:Array (Nat×Operand)} {args:Array Operand} {ts:Array TypeId} {t:Nat} {f p x:Operand} {T:TypeId} {tl:aw (Nat×AV)} {cs:aw AC}
theorem aez (hep:st2.ep=st.ep)(h:∀t∈tm x,st2.get t=st.get t):st2.rd x=st.rd x:=by cases x with|tmp t=>simp only[AS.rd,hep,h t (by simp[tm])]|const v=>rfl|func f=>rfl|global g=>rfl
def eP (E:Env)(Γ:dK)(an:An)(X:fu)(o:Oper)(st st':AS):Prop:=
 ∃u:HG,u.Fi an o/\st'=u.apply st/\∀st2,ib an X o st st2->cW E Γ an o st2 some=some (u.apply st2)
def CG (o:Oper)(v:AV):HG:={slots:=o.dst.toList.map λd=>(d,v)}
theorem sj (v:AV):(CG o v).apply st=st.put o.dst v:=by unfold CG HG.apply AS.put;cases o.dst<;>rfl
theorem Bu (v:AV):(CG o v).Fi an o:=by refine⟨λx hx=>?_,λb hb=>by simp[CG]at hb,λd hd=>by simp[CG]at hd⟩;simp only[CG,eF]at hx;obtain⟨d,hd,rfl⟩:=hx;simp[writes,hd]
def F1 (o:Oper)(v:AV):HG:={slots:=o.dst.toList.map λd=>(d,v),iss:=o.dst}
theorem HC (v:AV):(F1 o v).apply st=(st.fR o.dst).put o.dst v:=by unfold F1 HG.apply AS.put AS.fR;cases o.dst<;>rfl
theorem N3 (v:AV):(F1 o v).Fi an o:=by refine⟨λx hx=>?_,λb hb=>by simp[F1]at hb,λd hd=>by simpa[F1]using hd⟩;simp only[F1,eF]at hx;obtain⟨d,hd,rfl⟩:=hx;simp[writes,hd]
theorem eP.put (h:st'=st.put o.dst v)(h2:∀st2,ib an X o st st2->cW E Γ an o st2 some=some (st2.put o.dst v)):eP E Γ an X o st st':=⟨CG o v,Bu v,by rw[sj];exact h,λst2 ha=>by rw[sj];exact h2 st2 ha⟩
theorem ib.rd (ha:ib an X o st st2)(hx:∀t∈tm x,t∈dW o):st2.rd x=st.rd x:=aez ha.ep λt ht=>ha.get t (hx t ht)
theorem XF {c y:Operand}(ho:o.op=.pick c x y)(h:DH o c x y st some=some st'):eP E Γ an X o st st':=by
 have hr:∀st2,ib an X o st st2->st2.rd c=st.rd c/\st2.rd x=st.rd x/\st2.rd y=st.rd y:=λst2 ha=>
  ⟨ha.rd (λt ht=>by simp[dW,ho,ht]),ha.rd (λt ht=>by simp[dW,ho,ht]),ha.rd (λt ht=>by simp[dW,ho,ht])⟩
 unfold DH at h;split at h;rename_i t hc;split at h;rename_i a b hx hy;cases h;refine eP.put rfl λst2 ha=>?_;obtain⟨h1,h2,h3⟩:=hr st2 ha;simp only[cW,ho,DH,h1,h2,h3,hc,hx,hy];rename_i va vb hno;have hgo:∀st2,ib an X o st st2->cW E Γ an o st2 some=cond t (some (st2.put o.dst (st.rd x))) (some (st2.put o.dst (st.rd y))):=by intro st2 ha;obtain⟨h1,h2,h3⟩:=hr st2 ha;simp only[cW,ho,DH,h1,h2,h3,hc]
 cases t with|true=>cases h;exact eP.put rfl λst2 ha=>hgo st2 ha|false=>cases h;exact eP.put rfl λst2 ha=>hgo st2 ha
 cases h
theorem Mi {d s:Nat}:(⟨[(d,v)],some (s,cs),none⟩:HG).apply st=(st.eZ s (some cs)).put (some d) v:=rfl
theorem PC {o:Oper}(h:D1 an o=true):∃T q d,o.op=.load T (.tmp q)/\o.dst=some d/\o.guard=none/\an.mv.contains d=true/\an.mb d=none:=by unfold D1 at h;split at h;rename_i T q d ho hd hg;simp only[ae,Option.isNone_iff_eq_none]at h;exact⟨T,q,d,ho,hd,hg,h.1.1,h.1.2⟩;cases h
def Hz (st:AS)(b j t:Nat)(e:CT)(i:Int)(cs:aw AC)(ys:aw e.D):AS:=st.eZ b (some (ir cs j (.sl (.holed (some t) i (some st.ep)) e ys)))
theorem Nd {q d:Nat}(ht:D1 an o=true)(ho:o.op=.load T (.tmp q))(hd:o.dst=some d)(hmv:an.mv.contains d=true)(hmb:an.mb d=none):(dM E an X o st=true/\ph E an o T (.tmp q) st some=some st')↔ ∃(g:Bool)(e:CT)(offs:aw (Nat×Nat))(b j t ep0:Nat)(x:e.D)(i:Int)(cs:aw AC)(ys:aw e.D)(y:e.D),jn E.ty T=some ⟨g,e,offs⟩/\st.rd (.tmp q)=.val false [.elt (.loc ep0 (some (.box b j,t))) e x i 0]/\(nth st.boxes b).getD none=some cs/\nth cs j=some (.sl (.own (some t)) e ys)/\idx ys i=some y/\ X.contains b=false/\an.eb q=some b/\V1 an o=false/\st'=(Hz st b j t e i cs ys).put (some d) (.val g (cellsOf e (.own none) y)):=by
 have htk:D4 an o=true:=by unfold D4;rw[hd];simp only[hmv,hmb];rfl
 have hnl:Bt an o=false:=by unfold Bt;split;rename_i hd' _;rw[hd]at hd';cases hd';rw[hmb];simp;rfl
 have hnp:AQ an o=false:=by unfold AQ;split;rename_i hd' _;rw[hd]at hd';cases hd';rw[hmv];rfl;rfl
 constructor;rintro⟨hf,h⟩;unfold ph at h;split at h;rename_i hp;simp only[dM,ho,hp,hd,hmv,hmb]at hf;simp at hf;rename_i sh fl e x i off hT hp;rw[aE htk]at h;simp only[dM,ho,hp,ht,hnl,hnp,Bool.or_false,bz,aj,cP,fV,ae,aJ]at hf;obtain⟨⟨hl0,hfm⟩,hb⟩:=hf;unfold xY at h;split at h;rename_i ep0 r t;cases r with
 |slot _ _=>cases hb
 |io _=>cases hb
 |box b j=>
  simp only[ae,bm,aJ]at hb;split at h;rename_i t' e' ys hrg;split at h;rename_i he;subst he;split at h;rename_i hc;obtain⟨rfl,rfl,hct⟩:=hc;obtain⟨g,ct,offs⟩:=sh;simp only at hct;subst hct;cases hi:idx ys i with|none=>simp only[hi,aa]at h;cases h|some y=>simp only[hi,aa]at h;cases h;simp only[AS.fD]at hrg;obtain⟨cs,hcs,hj⟩:=aU.1 hrg;refine⟨g,_,offs,b,j,_,ep0,x,i,cs,ys,y,hT,hp,hcs,hj,hi,hb.2,hb.1,hfm,?_⟩;simp only[AS.fH,hcs,hd];rfl
  cases h;cases h;cases h
 cases h;cases h;rintro⟨g,e,offs,b,j,t,ep0,x,i,cs,ys,y,hT,hp,hcs,hj,hi,hX,heb,hfm,rfl⟩;constructor;simp only[dM,ho,hp,ht,hnl,hnp,hfm,hX,heb];simp;simp only[ph,hT,hp,htk,cg,xY,AS.fD,hcs,eT,hj,dite_true,and_self,hi,aa,AS.fH,hd];rfl
theorem US (ht:D1 an o=true)(ho:o.op=.load T p)(hfree:dM E an X o st=true)(h:ph E an o T p st some=some st'):eP E Γ an X o st st':=by obtain⟨T',q,d,ho',hd,hg,hmv,hmb⟩:=PC ht;rw[ho]at ho';cases ho';obtain⟨g,e,offs,b,j,t,ep0,x,i,cs,ys,y,hT,hp,hcs,hj,hi,hX,heb,hfm,rfl⟩:=(Nd ht ho hd hmv hmb).1 ⟨hfree,h⟩;refine⟨⟨[(d,.val g (cellsOf e (.own none) y))],some (b,ir cs j (.sl (.holed (some t) i (some st.ep)) e ys)),none⟩,⟨λx hx=>?_,λb' hb'=>?_,λ_ hh=>by cases hh⟩,rfl,λst2 ha=>?_⟩;simp only[bE]at hx;subst hx;simp[writes,hd];cases hb';simp only[D6,ho,hd,hmv,ah,ht,heb];simp;have h2:=((Nd (E:=E) (X:=X) (st:=st2) ht ho hd hmv hmb).2 ⟨g,e,offs,b,j,t,ep0,x,i,cs,ys,y,hT,by rw[ha.rd (λt ht=>by simpa[dW,ho]using ht)];exact hp,by rw[ha.box b hX];exact hcs,hj,hi,hX,heb,hfm,rfl⟩).2;simp only[cW,ho];rw[h2];simp only[Hz,ha.ep];rfl
theorem XD (ho:o.op=.load T p)(hm:nG an o=true)(hfree:dM E an X o st=true)(h:ph E an o T p st some=some st'):eP E Γ an X o st st':=by
 cases hE:D1 an o with|true=>exact US hE ho hfree h|false=> ?_
 have hr:∀st2,ib an X o st st2->st2.rd p=st.rd p:=λst2 ha=>ha.rd (λt ht=>by simpa[dW,ho]using ht);have htk:D4 an o=false:=by simp only[nG,ho,hE,Bool.or_false]at hm;unfold D4;cases hdd:o.dst with|none=>rfl|some d=>rw[hdd]at hm;simp only[cQ,aJ]at hm;rcases hm with hm|hm;simp only[hm,dN];cases hmb:an.mb d with|none=>rw[hmb]at hm;cases hm|some _=>simp[hmb]
 unfold ph at h;split at h;rename_i sh s off hT hp;simp only[dM,ho,hp,ae,aJ]at hfree;split at h;rename_i cs hb;split at h;rename_i hfit;split at h;rename_i d hd;have hbx:∀st2,ib an X o st st2->nth st2.boxes s=nth st.boxes s:=λst2 ha=>ha.box s hfree.1.1;cases hf:an.mv.contains d with
 |false=>simp only[hf,bj,cu]at h;cases h;refine eP.put (by rw[hd]) λst2 ha=>?_;simp only[cW,ho,ph,hT,hr st2 ha,hp,hbx st2 ha,hb,aE hfit,hd,hf,bj,cu,ha.ep]
 |true=>
  simp only[hf,cg]at h;have hmb:an.mb d=some s:=by have:=hfree.1.2;rw[hd]at this;simp only[hf,aj,cP,bm]at this;exact this
  cases h;refine⟨⟨[(d,.val sh.agg ((cs.drop off).take sh.ct.size))],some (s,eQ cs off (bc st.ep ((cs.drop off).take sh.ct.size))),none⟩,⟨λx hx=>?_,λb hb'=>?_,λ_ hh=>by cases hh⟩,?_,λst2 ha=>?_⟩;simp only[bE]at hx;subst hx;simp[writes,hd];cases hb';simp only[D6,ho,hd,hf,ah,hmb];simp;rw[Mi,hd];simp only[cW,ho,ph,hT,hr st2 ha,hp,hbx st2 ha,hb,aE hfit,hd,hf,cg,ha.ep,Mi]
 cases h;cases h;cases h;rename_i sh fl e x i off hT hp;rw[aD (by simp[htk])]at h;split at h;rename_i hl;split at h;rename_i hfit;cases h;refine eP.put rfl λst2 ha=>?_;simp only[cW,ho,ph,hT,hr st2 ha,hp,ha.ep,htk,bj,cu,aE hl,aE hfit];cases h;rename_i hl;have hroot:∀r t ep0,fl=.loc ep0 (some (r,t))->∀st2,ib an X o st st2->st2.fD r=st.fD r:=by rintro r t ep0 rfl st2 ha;simp only[dM,ho,hp,hE,bz,il,fV,ae,cQ]at hfree;rcases hfree.1.1 with hq|hq;exact absurd hq hl;cases r with|slot b j=>simp only[AS.fD];rw[ha.er b (by simpa using hq)]|box b j=>simp only[AS.fD];rw[ha.box b (by simpa using hq)]|io j=>cases hq
 unfold Cw at h;split at h;rename_i ep0 r t;split at h;rename_i t' e' ys hrg;split at h;rename_i he;split at h;rename_i hc;cases hi:idx (he▸ys:List _) i with|none=>rw[hi]at h;cases h|some y=>rw[hi]at h;simp only[aa]at h;cases h;refine eP.put rfl λst2 ha=>?_;simp only[cW,ho,ph,hT,hr st2 ha,hp,ha.ep,htk,bj,cu,aD hl,Cw,hroot _ _ _ rfl st2 ha,hrg,dif_pos he,aE hc,hi,aa]
 cases h;cases h;cases h;cases h;cases h
theorem Mm (ho:o.op=.nilCheck x)(h:cW E Γ an o st some=some st'):eP E Γ an X o st st':=by have hr:∀st2,ib an X o st st2->st2.rd x=st.rd x:=λst2 ha=>ha.rd (λt ht=>by simpa[dW,ho]using ht);simp only[cW,ho]at h;split at h;rename_i s off hx;cases h;refine eP.put rfl λst2 ha=>?_;simp only[cW,ho,hr st2 ha,hx];rename_i fl e y i off hx;cases h;refine eP.put rfl λst2 ha=>?_;simp only[cW,ho,hr st2 ha,hx];cases h
theorem Nl {op:BinOp}{x y:AV}(h:(EH op x y λc=>some (st.put o.dst (.one c)))=some st'):∃v,st'=st.put o.dst v/\∀st2:AS,(EH op x y λc=>some (st2.put o.dst (.one c)))=some (st2.put o.dst v):=by have key:∀s:AS,(EH op x y λc=>some (s.put o.dst (.one c)))=(EH op x y some).bind λc=>some (s.put o.dst (.one c)):=λs=>(Ed op x y some _).symm;rw[key st]at h;cases hb:EH op x y some with|none=>rw[hb]at h;cases h|some c=>rw[hb]at h;cases h;exact⟨_,rfl,λst2=>by rw[key st2,hb];rfl⟩
theorem PG {op:BinOp}{b:Bool}(h:(CS op b λc=>some (st.put o.dst (.one c)))=some st'):∃v,st'=st.put o.dst v/\∀st2:AS,(CS op b λc=>some (st2.put o.dst (.one c)))=some (st2.put o.dst v):=by unfold CS at h;split at h;cases h;exact⟨_,rfl,λst2=>rfl⟩;cases h;exact⟨_,rfl,λst2=>rfl⟩;cases h
theorem aby {op:BinOp}{T':TypeId}{y:Operand}(ho:o.op=.binOp op T x y T')(h:Ay E o op T x y st some=some st'):eP E Γ an X o st st':=by
 have hr:∀st2,ib an X o st st2->st2.rd x=st.rd x/\st2.rd y=st.rd y:=λst2 ha=>
  ⟨ha.rd (λt ht=>by simp[dW,ho,ht]),ha.rd (λt ht=>by simp[dW,ho,ht])⟩
 unfold Ay at h;split at h;rename_i a b hx hy;split at h;rename_i hT;obtain⟨v,rfl,hv⟩:=Nl h;refine eP.put rfl λst2 ha=>?_;simp only[cW,ho,Ay,(hr st2 ha).1,(hr st2 ha).2,hx,hy,aE hT];exact hv st2;cases h;rename_i xs ys hx hy;split at h;rename_i ls hq;split at h;rename_i hfit;obtain⟨v,rfl,hv⟩:=Nl h;refine eP.put rfl λst2 ha=>?_;simp only[cW,ho,Ay,(hr st2 ha).1,(hr st2 ha).2,hx,hy,hq,aE hfit];exact hv st2;cases h;cases h;rename_i fl e xs hx hy;split at h;rename_i hT;split at h;cases h;rename_i hlen;obtain⟨v,rfl,hv⟩:=PG h;refine eP.put rfl λst2 ha=>?_;simp only[cW,ho,Ay,(hr st2 ha).1,(hr st2 ha).2,hx,hy,ha.ep,aE hT,aD hlen];exact hv st2;cases h;rename_i hx hy;split at h;rename_i hT;obtain⟨v,rfl,hv⟩:=PG h;refine eP.put rfl λst2 ha=>?_;simp only[cW,ho,Ay,(hr st2 ha).1,(hr st2 ha).2,hx,hy,aE hT];exact hv st2;cases h;rename_i a b hn1 hn2 hn3 hn4;obtain⟨v,rfl,hv⟩:=Nl h;refine eP.put rfl λst2 ha=>?_;simp only[cW,ho,Ay,(hr st2 ha).1,(hr st2 ha).2];exact hv st2
theorem aef {op:UnOp}(ho:o.op=.unOp op T x)(h:(unC op (st.rd x) λc=>some (st.put o.dst (.one c)))=some st'):eP E Γ an X o st st':=by have hr:∀st2,ib an X o st st2->st2.rd x=st.rd x:=λst2 ha=>ha.rd (λt ht=>by simpa[dW,ho]using ht);have key:∀s:AS,(unC op (st.rd x) λc=>some (s.put o.dst (.one c)))=(unC op (st.rd x) some).bind λc=>some (s.put o.dst (.one c)):=λs=>(VX op (st.rd x) some _).symm;rw[key st]at h;cases hb:unC op (st.rd x) some with|none=>rw[hb]at h;cases h|some c=>rw[hb]at h;cases h;refine eP.put rfl λst2 ha=>?_;simp only[cW,ho,hr st2 ha];rw[key st2,hb];rfl
theorem UO {S:TypeId}{f:Nat}(ho:o.op=.fieldAddr S p f)(h:zH E o S p f st some=some st'):eP E Γ an X o st st':=by have hr:∀st2,ib an X o st st2->st2.rd p=st.rd p:=λst2 ha=>ha.rd (λt ht=>by simpa[dW,ho]using ht);unfold zH at h;split at h;rename_i hT hp;split at h;rename_i hf;cases h;refine eP.put rfl λst2 ha=>?_;simp only[cW,ho,zH,hr st2 ha,hT,hp,hf];cases h;rename_i hT hp;split at h;rename_i hf;cases h;refine eP.put rfl λst2 ha=>?_;simp only[cW,ho,zH,hr st2 ha,hT,hp,hf];cases h;cases h
theorem zg {s:AS}(h:v.now s.ep=true):v.fresh s=v:=by
 cases v with
 |tup vs=>rfl
 |val g cs=>
  simp only[AV.now,aG]at h;simp only[AV.fresh];congr 1;have:cs.map s.fresh=cs.map id:=List.map_congr_left λc hc=>by have hn:=h c hc;unfold AS.fresh;split;simp only[AC.now]at hn;rw[hn];rfl;rfl
  rw[this,List.map_id]
theorem Tn {st st2:AS}(he:st2.ep=st.ep)(h:v.now st.ep=true\/∃g ep b j t e xs,v=.val g [.sl (.loc ep (some (.box b j,t))) e xs]/\nth st2.boxes b=nth st.boxes b):v.fresh st2=v.fresh st:=by rcases h with h|⟨g,ep,b,j,t,e,xs,rfl,hb⟩;rw[zg h,zg (by rw[he];exact h)];simp only[AV.fresh,di,List.map_nil];congr 2;unfold AS.fresh;simp only[AS.fD,he,hb]
theorem J3 {i:Operand}(ho:o.op=.indexAddr T x i)(hfree:dM E an X o st=true)(h:mE E o T x i st some=some st'):eP E Γ an X o st st':=by
 have hr:∀st2,ib an X o st st2->st2.rd x=st.rd x/\st2.rd i=st.rd i:=λst2 ha=>
  ⟨ha.rd (λt ht=>by simp[dW,ho,ht]),ha.rd (λt ht=>by simp[dW,ho,ht])⟩
 have hf2:∀st2,ib an X o st st2->(st.rd x).fresh st2=(st.rd x).fresh st:=λst2 ha=>by refine Tn ha.ep ?_;simp only[dM,ho,cQ]at hfree;rcases hfree with hn|hn;exact .inl hn;split at hn;rename_i g ep b j t e xs hx;exact .inr ⟨g,ep,b,j,t,e,xs,hx,ha.box b (by simpa using hn)⟩;cases hn
 unfold mE at h;split at h;rename_i e' fl e xs k n hT hx hi;split at h;rename_i hc;cases hix:idx xs n with|none=>rw[hix]at h;cases h|some y=>rw[hix]at h;cases h;refine eP.put rfl λst2 ha=>?_;have hf3:=hf2 st2 ha;rw[hx]at hf3;simp only[cW,ho,mE,(hr st2 ha).1,(hr st2 ha).2,hf3,hT,hi,ha.ep,aE hc,hix,aa]
 cases h;cases h
theorem UP {i:Operand}(ho:o.op=.index T x i)(h:Bm E o T x i st some=some st'):eP E Γ an X o st st':=by
 have hr:∀st2,ib an X o st st2->st2.rd x=st.rd x/\st2.rd i=st.rd i:=λst2 ha=>
  ⟨ha.rd (λt ht=>by simp[dW,ho,ht]),ha.rd (λt ht=>by simp[dW,ho,ht])⟩
 unfold Bm at h;split at h;rename_i s k n hx hi;split at h;rename_i hc;cases hix:idx s n with|none=>rw[hix]at h;cases h|some y=>rw[hix]at h;cases h;refine eP.put rfl λst2 ha=>?_;simp only[cW,ho,Bm,(hr st2 ha).1,(hr st2 ha).2,hx,hi,aE hc,hix,aa]
 cases h;cases h
theorem eP.new (h:st'=(st.fR o.dst).put o.dst v)(h2:∀st2,ib an X o st st2->cW E Γ an o st2 some=some ((st2.fR o.dst).put o.dst v)):eP E Γ an X o st st':=⟨F1 o v,N3 v,by rw[HC];exact h,λst2 ha=>by rw[HC];exact h2 st2 ha⟩
theorem ib.ix (ha:ib an X o st st2):st2.ix o.dst=st.ix o.dst:=by funext j;cases hd:o.dst with|none=>rfl|some d=>simp only[AS.ix,(ha.dst d hd).1]
theorem G3 {lo hi:az Operand}{n:Nat}{f:AS->Int->Int->az AS}(hs:∀st2,ib an X o st st2->lo.map st2.rd=lo.map st.rd/\hi.map st2.rd=hi.map st.rd)(h:mO st lo hi n (f st)=some st'):∃a b,f st a b=some st'/\∀st2,ib an X o st st2->mO st2 lo hi n (f st2)=f st2 a b:=by unfold mO at h;split at h;rename_i h1 h2;exact⟨_,_,h,λst2 ha=>by simp only[mO,(hs st2 ha).1,(hs st2 ha).2,h1,h2]⟩;rename_i h1 h2;exact⟨_,_,h,λst2 ha=>by simp only[mO,(hs st2 ha).1,(hs st2 ha).2,h1,h2]⟩;rename_i h1 h2;exact⟨_,_,h,λst2 ha=>by simp only[mO,(hs st2 ha).1,(hs st2 ha).2,h1,h2]⟩;rename_i h1 h2;exact⟨_,_,h,λst2 ha=>by simp only[mO,(hs st2 ha).1,(hs st2 ha).2,h1,h2]⟩;cases h
theorem UQ {lo hi:az Operand}(ho:o.op=.slice T x lo hi none)(hm:nG an o=true)(hfree:dM E an X o st=true)(h:Af E an o T x lo hi st some=some st'):eP E Γ an X o st st':=by
 have hr:∀st2,ib an X o st st2->st2.rd x=st.rd x:=λst2 ha=>ha.rd (λt ht=>by simp[dW,ho,ht]);have hb:∀st2,ib an X o st st2->lo.map st2.rd=lo.map st.rd/\hi.map st2.rd=hi.map st.rd:=by
  intro st2 ha;constructor;cases lo with|none=>rfl|some y=>simp only[dB];rw[ha.rd (λt ht=>by simp[dW,ho,tmO,ht])]
  cases hi with|none=>rfl|some y=>simp only[dB];rw[ha.rd (λt ht=>by simp[dW,ho,tmO,ht])]
 have hnow:(st.rd x).now st.ep=true:=by simpa[dM,ho]using hfree
 have hf2:∀st2,ib an X o st st2->(st.rd x).fresh st2=st.rd x:=λst2 ha=>zg (by rw[ha.ep];exact hnow);have htk:D4 an o=false:=by simpa[nG,ho]using hm
 unfold Af at h;rw[aD (by simp[htk]),zg hnow]at h;split at h;rename_i s hx;split at h;rename_i hT;obtain⟨a,b,h1,h2⟩:=G3 (f:=λs0 a b=>aa (sub s a b) λs'=>some (s0.put o.dst (.one (.str s')))) hb h;cases hsub:sub s a b with|none=>rw[hsub]at h1;cases h1|some s'=>rw[hsub]at h1;cases h1;refine eP.put rfl λst2 ha=>?_;have hf3:=hf2 st2 ha;rw[hx]at hf3;simp only[cW,ho,Af,htk,bj,cu,hr st2 ha,hx,hf3,aE hT];rw[h2 st2 ha,hsub];rfl
 cases h;rename_i fl e xs hx;split at h;rename_i hT;obtain⟨a,b,h1,h2⟩:=G3 (f:=λs0 a b=>aa (sub xs a b) λxs'=>some (s0.put o.dst (.one (.sl (Mv an o fl a) e xs')))) hb h;cases hsub:sub xs a b with|none=>rw[hsub]at h1;cases h1|some s'=>rw[hsub]at h1;cases h1;refine eP.put rfl λst2 ha=>?_;have hf3:=hf2 st2 ha;rw[hx]at hf3;simp only[cW,ho,Af,htk,bj,cu,hr st2 ha,hx,hf3,ha.ep,aE hT];rw[h2 st2 ha,hsub];rfl
 cases h;cases h
theorem Fk {args:aw Operand}(hl:∀t,t∈N2 args->t∈dW o)(ha:ib an X o st st2):args.map st2.rd=args.map st.rd:=by apply List.map_congr_left;intro x hx;exact ha.rd (λt ht=>hl t (by simp only[N2,List.mem_flatMap];exact⟨x,hx,ht⟩))
theorem abA (ho:o.op=.call {callee:=.builtin .len,args,argTypes:=ts})(h:Mg E o ts.toList args.toList st some=some st'):eP E Γ an X o st st':=by have hr:∀st2,ib an X o st st2->args.toList.map st2.rd=args.toList.map st.rd:=λst2 ha=>Fk (λt ht=>by simp only[dW,ho];exact ht) ha;unfold Mg at h;split at h;rename_i t s hts hx;split at h;rename_i hT;cases h;refine eP.put rfl λst2 ha=>?_;simp only[cW,ho,Mg,hr st2 ha,hts,hx,aE hT];cases h;rename_i t _ _ xs hts hx;split at h;rename_i hT;cases h;refine eP.put rfl λst2 ha=>?_;simp only[cW,ho,Mg,hr st2 ha,hts,hx,aE hT];cases h;cases h
theorem abC (ho:o.op=.call {callee:=.builtin .min,args,argTypes:=ts})(h:NJ o args.toList st some=some st'):eP E Γ an X o st st':=by have hr:∀st2,ib an X o st st2->args.toList.map st2.rd=args.toList.map st.rd:=λst2 ha=>Fk (λt ht=>by simp only[dW,ho];exact ht) ha;unfold NJ at h;split at h;rename_i hx;cases h;refine eP.put rfl λst2 ha=>?_;simp only[cW,ho,NJ,hr st2 ha,hx];cases h
theorem abB (ho:o.op=.call {callee:=.builtin .max,args,argTypes:=ts})(h:NI o args.toList st some=some st'):eP E Γ an X o st st':=by have hr:∀st2,ib an X o st st2->args.toList.map st2.rd=args.toList.map st.rd:=λst2 ha=>Fk (λt ht=>by simp only[dW,ho];exact ht) ha;unfold NI at h;split at h;rename_i hx;cases h;refine eP.put rfl λst2 ha=>?_;simp only[cW,ho,NI,hr st2 ha,hx];cases h
theorem abn {l:fu}{c:AC}(h:c.aeJ l=true)(hl:∀t∈l,st2.get t=st.get t):st2.NH c=st.NH c:=by
 cases c with
 |sl fl e xs=>
  cases fl with
  |loc ep pv=>cases pv with|none=>rfl|some q=>obtain⟨r,t⟩:=q;cases r with|slot b j=>have hb:st2.get b=st.get b:=hl b (by simpa[AC.aeJ]using h);simp only[AS.NH,AS.fD,hb]|box _ _=>rfl|io _=>rfl
  |_=>rfl
 |_=>rfl
theorem Xu {l:fu}(hx:Hg l st x=true)(hl:∀t∈l,st2.get t=st.get t)(h:∀t∈tm x,st2.get t=st.get t):AP st2 x=AP st x/\BI st2 x=BI st x:=by
 cases x with
 |tmp t=>have ht:=h t (by simp[tm]);simp only[Hg]at hx;cases hg:st.get t with|tup vs=>exact⟨by simp only[AP,ht,hg],by simp only[BI,ht,hg]⟩|val g cs=>rw[hg]at hx;have hm:cs.map st2.NH=cs.map st.NH:=List.map_congr_left λc hc=>abn (aG.1 hx c hc) hl;exact⟨by simp only[AP,ht,hg,hm],by simp only[BI,ht,hg,hm]⟩
 |const v=>exact⟨rfl,rfl⟩
 |func f=>exact⟨rfl,rfl⟩
 |global g=>exact⟨rfl,rfl⟩
theorem NK (ho:o.op=.call {callee:=.value f,args,argTypes:=ts})(hfree:dM E an X o st=true){k:Nat}(hf:st.rd f=.val false [.fn k])(hbx:(Γ k).bx=true)(hcur:(Γ k).cur=true)(h:uJ Γ o k args.toList st some=some st'):eP E Γ an X o st st':=by
 unfold uJ at h;split at h;rename_i x0 xs hargs;split at h;rename_i s hx0;have hfr:tz an X (erS an o) st (x0::xs)=true:=by have h1:=hfree;simp only[dM,ho,ae]at h1;rw[<-hargs];exact h1.1
 have hx1:∃q,x0=.tmp q/\X.contains s=false/\an.sb q=some s/\(match (nth st.boxes s).getD none with|some cs=>cs.all AC.Gc|none=>true)=true/\xs.all (Hg (erS an o) st)=true:=by cases x0 with|tmp q=>simp only[tz,hx0,adh,ae,aJ,bm]at hfr;exact⟨q,rfl,hfr.1.1.1,hfr.1.1.2,hfr.1.2,hfr.2⟩|const v=>simp only[tz,hx0,AV.ZB]at hfr;cases hfr|func v=>simp only[tz,hx0,AV.ZB]at hfr;cases hfr|global v=>simp only[tz,hx0,AV.ZB]at hfr;cases hfr
 obtain⟨q,rfl,hX,hsb,hall,hself⟩:=hx1;split at h;rename_i cs hb0;rw[hb0]at hall;simp only at hall;cases hc:(cs.all (AC.yk (CO cs))&&xs.all (BI st))with
 |false=>rw[hc]at h;cases h
 |true=>
  rw[hc]at h;simp only[ah]at h;cases hres:(Γ k).fn (.val true (cs.map AC.R6)::xs.map (AP st))with
  |none=>rw[hres]at h;cases h
  |some y=>
   rw[hres]at h;simp only[aa]at h;cases hc2:(((Γ k).back y).all (AC.yk true)&&((Γ k).av y).abF)with
   |false=>rw[hc2]at h;cases h
   |true=>
    rw[hc2]at h;simp only[ah,hcur,hall,cE,br]at h;subst h;refine⟨⟨o.dst.toList.map λd=>(d,((Γ k).av y).CP st.ep (st.ix o.dst)),some (s,pF (CO cs) (λ_=>none) 0 ((Γ k).back y)),o.dst⟩,⟨λx hx=>?_,λb hb=>?_,λd hd=>hd⟩,?_,λst2 ha=>?_⟩;simp only[eF]at hx;obtain⟨d,hd,rfl⟩:=hx;simp[writes,hd];cases hb;simp[D6,ho,hargs,hsb];unfold HG.apply AS.put AS.fR AS.eZ;cases o.dst<;>rfl;have e1:st2.rd f=st.rd f:=ha.rd (λt ht=>by simp[dW,ho,ht]);have hl:∀x∈Operand.tmp q::xs,∀t∈tm x,t∈dW o:=by intro x hx t ht;simp only[dW,ho,ay,N2,List.mem_flatMap,hargs];exact .inr ⟨x,hx,ht⟩
    have e2:st2.rd (.tmp q)=st.rd (.tmp q):=ha.rd (hl _ (by simp));have e3:nth st2.boxes s=nth st.boxes s:=ha.box s hX;have e4:∀x∈xs,AP st2 x=AP st x/\BI st2 x=BI st x:=λx hx=>Xu (aG.1 hself x hx) ha.er λt ht=>ha.get t (hl x (by simp[hx]) t ht);have e5:xs.map (AP st2)=xs.map (AP st):=List.map_congr_left λx hx=>(e4 x hx).1;have e6:xs.all (BI st2)=xs.all (BI st):=by rw[cC];simp only[aG];exact⟨λg x hx=>by rw[<-(e4 x hx).2];exact g x hx,λg x hx=>by rw[(e4 x hx).2];exact g x hx⟩
    simp only[cW,ho,CR,e1,hf,hbx,ah,uJ,hargs,e2,hx0,e3,hb0,e5,e6,hc,hres,aa,hc2,hcur,hall,cE,ha.ep,ha.ix];unfold HG.apply AS.put AS.fR AS.eZ;cases o.dst<;>rfl
 cases h;cases h;cases h
theorem XC (hΓ:∀f,(Γ f).io=false/\((Γ f).bx=true->(Γ f).cur=true)/\(Γ f).pr=false)(ho:o.op=.call {callee:=.value f,args,argTypes:=ts})(hfree:dM E an X o st=true)(h:CR Γ o f args.toList st some=some st'):eP E Γ an X o st st':=by
 have hr:∀st2,ib an X o st st2->st2.rd f=st.rd f/\(args.toList.map λx=>((st2.rd x).fresh st2).asArg st2.ep)=args.toList.map λx=>((st.rd x).fresh st).asArg st.ep:=by
  intro st2 ha;refine⟨ha.rd (λt ht=>by simp[dW,ho,ht]),?_⟩;apply List.map_congr_left;intro x hx;have hnow:(st.rd x).now st.ep=true:=by simp only[dM,ho,ae,aG]at hfree;exact hfree.2 x hx
  rw[ha.rd (λt ht=>by simp only[dW,ho,ay,N2,List.mem_flatMap];exact .inr ⟨x,hx,ht⟩),zg hnow,zg (s:=st2) (by rw[ha.ep];exact hnow),ha.ep]
 unfold CR at h;split at h
 ·rename_i k hf
  cases hbx:(Γ k).bx with
  |true=>rw[hbx]at h;exact NK ho hfree hf hbx ((hΓ k).2.1 hbx) h
  |false=>
  rw[hbx,(hΓ k).2.2,(hΓ k).1]at h
  simp only[af]at h
  cases hg:(Γ k).fn (args.toList.map λx=>((st.rd x).fresh st).asArg st.ep)with
  |none=>rw[hg]at h;cases h
  |some y=>
   rw[hg]at h
   simp only[aa]at h
   cases hsel:(Γ k).sel y with
   |true=>
    rw[hsel]at h
    cases h
    refine eP.new rfl λst2 ha=>?_
    simp only[cW,ho,CR,(hr st2 ha).1,hf,(hΓ k).1,hbx,(hΓ k).2.2,af]
    rw[(hr st2 ha).2,hg]
    simp only[aa,hsel,ah,ha.ep,ha.ix]
   |false=>
    rw[hsel]at h
    cases h
    refine eP.new rfl λst2 ha=>?_
    simp only[cW,ho,CR,(hr st2 ha).1,hf,(hΓ k).1,hbx,(hΓ k).2.2,af]
    rw[(hr st2 ha).2,hg]
    simp only[aa,hsel,af,ha.ep,ha.ix]
 cases h
theorem NL {src dst:TypeId}(ho:o.op=.convert src dst x)(h:lU E o src dst x st some=some st'):eP E Γ an X o st st':=by
 have hr:∀st2,ib an X o st st2->st2.rd x=st.rd x:=λst2 ha=>ha.rd (λt ht=>by simpa[dW,ho]using ht);unfold lU at h;split at h;rename_i h1 h2 h3;cases h;refine eP.put rfl λst2 ha=>?_;simp only[cW,ho,lU,hr st2 ha,h1,h2,h3];rename_i h1 h2 h3;cases h;refine eP.put rfl λst2 ha=>?_;simp only[cW,ho,lU,hr st2 ha,h1,h2,h3];rename_i offs val s hno h1 h2 h3;split at h;rename_i hb;unfold room at h;split at h;rename_i hrm;cases h;refine eP.new (v:=.one (.sl (.own (st.ix o.dst 0)) (.int .u8) (du s))) rfl λst2 ha=>?_;have hval:∀k:AS->az AS,lU E o src dst x st2 k=if E.bytes dst then room s.length (k (st2.pR o.dst (.int .u8) (du s))) else none:=by intro k;unfold lU;rw[hr st2 ha,h1,h2,h3];obtain⟨ag,ct,of⟩:=val;cases ag with|true=>rfl|false=>cases ct with|str=>exact(hno _ rfl).elim|_=>rfl
 simp only[cW,ho];rw[hval,aE hb,room,aE hrm,AS.pR,ha.ix];cases h;cases h;rename_i val offs fl xs h1 h2 h3;split at h;rename_i hb;cases h;refine eP.put rfl λst2 ha=>?_;have hval:∀k:AS->az AS,lU E o src dst x st2 k=if E.bytes src/\fl.live st2.ep then k (st2.put o.dst (.one (.str (aL xs)))) else none:=by intro k;unfold lU;rw[hr st2 ha,h1,h2,h3];obtain⟨ag,ct,of⟩:=val;cases ag with|true=>rfl|false=>cases ct<;>rfl
 simp only[cW,ho];rw[hval,ha.ep,aE hb];cases h;cases h
theorem IV {d:Nat}:(⟨[(d,v)],some (d,cs),none⟩:HG).apply st=(st.eZ d (some cs)).put (some d) v:=rfl
theorem UM (ho:o.op=.alloc T)(h:BZ E o T st some=some st'):eP E Γ an X o st st':=by unfold BZ at h;split at h;rename_i d sh hd hT;split at h;rename_i hb;cases h;refine⟨⟨[(d,.one (.ptr d 0))],some (d,cellsOf sh.ct (.own none) sh.ct.zero),none⟩,⟨λx hx=>?_,λb hb'=>?_,λ_ hh=>by cases hh⟩,?_,λst2 ha=>?_⟩;simp only[bE]at hx;subst hx;simp[writes,hd];cases hb';simp[D6,ho,hd];rw[IV,hd];simp only[cW,ho,BZ,hd,hT,(ha.dst d hd).2,hb,IV];cases h;cases h
def od (st:AS):Operand->aw (Nat×AV)
 | .tmp t=>[(t,(st.get t).bc st.ep)]
 |_=>[]
theorem Bp (l:aw AV)(a b:aw (Nat×AV)):jW l (a++b)=jW (jW l a) b:=by induction a generalizing l with|nil=>rfl|cons x a ih=>exact ih _
def AS.ki (st:AS)(l:aw (Nat×AV)):AS:={st with slots:=jW st.slots l}
theorem qS (a b:aw (Nat×AV)):st.ki (a++b)=(st.ki a).ki b:=by simp only[AS.ki,Bp]
theorem BT (x:Operand):(st.take x).2=st.ki (od st x):=by cases x<;>rfl
theorem CE (hep:st2.ep=st.ep)(h:∀t∈tm x,st2.get t=st.get t):(st2.take x).1=(st.take x).1/\(st2.take x).2=st2.ki (od st x):=by cases x with|tmp t=>have:=h t (by simp[tm]);refine⟨this,?_⟩;rw[BT];simp only[od,this,hep]|const v=>exact⟨rfl,rfl⟩|func f=>exact⟨rfl,rfl⟩|global g=>exact⟨rfl,rfl⟩
theorem HA:∀y∈od st x,y.1∈tm x:=by cases x<;>simp[od,tm]
theorem XE (ho:o.op=.move x)(h:BM an o x st some=some st'):eP E Γ an X o st st':=by
 unfold BM at h;cases hd:o.dst with
 |none=>rw[hd]at h;cases h
 |some d=>
  rw[hd]at h;cases hf:an.mv.contains d with
  |false=>simp only[hf,bj,cu]at h;cases h;refine eP.put (v:=st.rd x) (by rw[hd]) λst2 ha=>?_;have hr:st2.rd x=st.rd x:=ha.rd (λt ht=>by simpa[dW,ho]using ht);simp only[cW,ho,BM,hd,hf,bj,cu,hr]
  |true=>
   simp only[hf,cg]at h;cases h;have hr:∀st2,ib an X o st st2->(st2.take x).1=(st.take x).1/\(st2.take x).2=st2.ki (od st x):=λst2 ha=>CE ha.ep λt ht=>ha.get t (by simpa[dW,ho]using ht);refine⟨⟨od st x++[(d,(st.take x).1)],none,none⟩,⟨λy hy=>?_,λ_ hh=>(by cases hh),λ_ hh=>(by cases hh)⟩,?_,λst2 ha=>?_⟩;rcases ay.1 hy with hy|hy;have:=HA y hy;have hf':d∈an.mv:=by simpa using hf
   simp[writes,D3,ho,hd,hf',dW,this];simp only[bE]at hy;subst hy;simp[writes,hd];rw[BT];show _=st.ki _;rw[qS];rfl;simp only[cW,ho,BM,hd,hf,cg,(hr st2 ha).1,(hr st2 ha).2];show some ((st2.ki (od st x)).put (some d) (st.take x).1)=some (st2.ki _);rw[qS];rfl
theorem Te {ep:Nat}(h:cs.all AC.jE=true):bc ep cs=cs:=by
 rw[aG]at h;unfold bc;have:cs.map (AC.borrow ep none)=cs.map id:=List.map_congr_left λc hc=>by have:=h c hc;cases c<;>first|rfl|(simp[AC.jE]at this)
 rw[this,List.map_id]
theorem ahN {s:AS}{vs:aw (Bool×aw AC)}(h:s.get t=.tup vs):s.put (some t) (.tup vs)=s:=by cases s with|mk slots boxes ep iss io=>simp only[AS.put,AS.mk.injEq,iU];rw[fP];apply cL;intro i;rw[bH];split;rename_i hd;subst hd;simp only[AS.get,ei]at h;split;rename_i hlt;rw[al hlt]at h⊢;simp only[fT]at h;rw[h];rename_i hge;rw[bG (Nat.le_of_not_lt hge)];rfl
theorem NM {i:Nat}(ho:o.op=.extract (.tmp t) i)(hfree:dM E an X o st=true)(h:lW o t i st some=some st'):eP E Γ an X o st st':=by
 have hr:∀st2,ib an X o st st2->st2.get t=st.get t:=λst2 ha=>ha.get t (by simp[dW,ho]);unfold lW at h;simp only[dM,ho]at hfree;split at h
 ·rename_i vs hv;rw[hv]at hfree;split at h
  ·rename_i g cs hn;simp only[hn]at hfree;have hfl:cs.all AC.jE=true\/∃d,o.dst=some d/\an.mv.contains d=true:=by cases hd:o.dst with|none=>simp only[hd,Bool.or_false]at hfree;exact .inl hfree|some d=>simp only[hd,cQ]at hfree;rcases hfree with h|h;exact .inl h;exact .inr ⟨d,rfl,h⟩
   rcases hfl with hfree|⟨d,hd,hmv⟩;rotate_left;cases h;refine⟨⟨[(t,.tup (ir vs i (g,bc 0 cs))),(d,.val g cs)],none,none⟩,⟨λx hx=>?_,(λ_ hb=>by cases hb),(λ_ hh=>by cases hh)⟩,?_,λst2 ha=>?_⟩;simp only[bQ,List.not_mem_nil,or_false]at hx;rcases hx with rfl|rfl;simp only[writes,D3,ho,hd,hmv,ah,dW];simp;simp only[writes,hd];simp;rw[hd];rfl;have h2:st2.get t=.tup vs:=by rw[hr st2 ha,hv]
   simp only[cW,ho,lW,h2,hn,hd];rfl;skip;have hset:ir vs i (g,cs)=vs:=by rw[fP];rw[ei]at hn;apply cL;intro k;rw[bH];split;rename_i hk;subst hk;obtain⟨hl,he⟩:=aC.1 hn;rw[aE hl,hn];rfl
   have key:∀s:AS,s.get t=.tup vs->(s.put (some t) (.tup (ir vs i (g,bc 0 cs))))=s:=λs hs=>by rw[Te hfree,hset,ahN hs]
   rw[key st hv]at h;cases h;refine eP.put rfl λst2 ha=>?_;have h2:st2.get t=.tup vs:=by rw[hr st2 ha,hv]
   simp only[cW,ho,lW,h2,hn];rw[key st2 h2]
  cases h
 cases h
def za (st:AS):Operand->aw (Nat×AV)
 | .tmp t=>[(t,(st.get t).bc st.ep)]
 |_=>[]
theorem Nh (st:AS)(x:Operand):(st.take x).2=⟨jW st.slots (za st x),st.boxes,st.ep,st.iss,st.io⟩:=by cases x<;>rfl
theorem UR {pp:Nat}(ho:o.op=.store T (.tmp pp) x)(hd:o.dst=none)(hm:nG an o=true)(hfree:dM E an X o st=true)(h:wK E T (.tmp pp) x st some=some st'):eP E Γ an X o st st':=by
 have hr:∀st2,ib an X o st st2->st2.rd (.tmp pp)=st.rd (.tmp pp):=λst2 ha=>ha.rd (λt ht=>by simp only[dW,ho,ay];exact .inl ht);have hsb:(an.sb pp).isNone=false:=by simp only[nG,ho,ae]at hm;cases hb:an.sb pp with|none=>rw[hb]at hm;cases hm.1|some _=>rfl
 simp only[dM,ho,hsb,dN,cP]at hfree;unfold wK at h;split at h;rename_i sh s off hT hp;rw[hp]at hfree;simp only[ae,aJ,bm]at hfree;split at h;rename_i gg vs st1 htk;have htk1:(st.take x).1=.val gg vs:=by rw[htk]
 have hst1:st1=⟨jW st.slots (za st x),st.boxes,st.ep,st.iss,st.io⟩:=by rw[<-Nh,htk]
 split at h;rename_i cs hb;split at h;rename_i hlen;split at h;rename_i hfit;cases h;have hbx:∀st2,ib an X o st st2->nth st2.boxes s=nth st.boxes s:=λst2 ha=>ha.box s hfree.1;refine⟨⟨za st x,some (s,eQ cs off vs),none⟩,⟨λy hy=>?_,λb hb'=>?_,λ_ hh=>by cases hh⟩,?_,λst2 ha=>?_⟩;cases x with|tmp t=>simp only[za,bE]at hy;subst hy;simp only[writes,D3,ho,ah,dW,hd];simp[tm]|_=>simp[za]at hy
 cases hb';simp only[D6,ho,hfree.2];simp;rw[hst1];rfl;have hx2:(st2.take x).1=(st.take x).1/\za st2 x=za st x:=by cases x with|tmp t=>have hg:st2.get t=st.get t:=ha.get t (by simp[dW,ho,tm]);simp only[AS.take,za,hg,ha.ep];simp|const v=>exact⟨rfl,rfl⟩|func f=>exact⟨rfl,rfl⟩|global g=>exact⟨rfl,rfl⟩
 have ht2:st2.take x=(.val gg vs,⟨jW st2.slots (za st x),st2.boxes,st2.ep,st2.iss,st2.io⟩):=by rw[<-hx2.2,<-Nh,<-htk1,<-hx2.1]
 have hb2:(nth st2.boxes s).getD none=some cs:=by rw[hbx st2 ha];rw[hst1]at hb;exact hb
 have hlate:zT an o=false:=by simp only[nG,ho,ae,aJ]at hm;exact hm.2
 simp only[cW,ho,hd,hlate,bj,cu,wK,hT,hr st2 ha,hp,ht2,hb2,aE hlen,aE hfit];rfl;cases h;cases h;cases h;cases h;rename_i r _ _ _ _ _ _ hp;rw[hp]at hfree;cases r<;>simp at hfree;cases h
theorem RA (ho:o.op=.assign x)(hm:nG an o=true)(h:uI E an o x st some=some st'):eP E Γ an X o st st':=by
 have hr:∀st2,ib an X o st st2->(st2.take x).1=(st.take x).1/\(st2.take x).2=st2.ki (od st x):=λst2 ha=>CE ha.ep λt ht=>ha.get t (by simpa[dW,ho]using ht);have hlate:zT an o=false:=by simpa[nG,ho]using hm
 unfold uI at h;split at h;rename_i st1 htk;split at h;rename_i e hT;cases h;refine eP.put rfl λst2 ha=>?_;have h2:st2.take x=(.val false [.nilsl],st2.ki (od st x)):=Prod.ext (by rw[(hr st2 ha).1,htk]) (hr st2 ha).2;simp only[cW,ho,uI,hlate,bj,cu,h2,hT];cases h;rename_i v st1 hno htk;cases h;have hst1:st1=st.ki (od st x):=by rw[<-BT,htk]
 refine⟨⟨od st x++o.dst.toList.map λd=>(d,v),none,none⟩,⟨λy hy=>?_,λ_ hh=>(by cases hh),λ_ hh=>(by cases hh)⟩,?_,λst2 ha=>?_⟩;rcases ay.1 hy with hy|hy;have:=HA y hy;simp[writes,D3,ho,dW,this];obtain⟨d,hd,rfl⟩:=eF.1 hy;simp[writes,hd];rw[hst1];show _=st.ki _;rw[qS];cases o.dst<;>rfl;have h2:st2.take x=(v,st2.ki (od st x)):=Prod.ext (by rw[(hr st2 ha).1,htk]) (hr st2 ha).2;simp only[cW,ho,uI,hlate,bj,cu,h2];show some ((st2.ki (od st x)).put o.dst v)=some (st2.ki _);rw[qS];cases o.dst<;>rfl
theorem jI {α:Type}(l:aw α)(i:Nat)(v:α)(t:Nat):nth (ir l i v) t=if i=t then(if i<l.length then some v else none) else nth l t:=by rw[ei,fP,ei,bH]
theorem MC (l:aw AV)(a:aw (Nat×AV)):(jW l a).length=l.length:=by induction a generalizing l with|nil=>rfl|cons x a ih=>rw[jW,ih,fP,aB]
theorem XX {l l2:aw AV}(a:aw (Nat×AV))(hl:l2.length=l.length)(t:Nat)(h:nth l2 t=nth l t):nth (jW l2 a) t=nth (jW l a) t:=by induction a generalizing l l2 with|nil=>exact h|cons x a ih=>refine ih (by rw[fP,fP,aB,aB,hl]) ?_;rw[jI,jI,hl,h]
theorem XJ (h:st2.get t=st.get t)(hl:st2.slots.length=st.slots.length):nth st2.slots t=nth st.slots t:=by unfold AS.get at h;rw[ei,ei]at h⊢;rcases cq t st.slots.length with hlt|hge;rw[al hlt,al (by omega)]at h⊢;simpa using h;rw[bG hge,bG (by omega)]
def jR (st:AS):aw Operand->aw (Nat×AV)
 |[]=>[]
 |x::xs=>od st x++jR (st.ki (od st x)) xs
theorem Ao:∀(xs:aw Operand)(st:AS),∀y∈jR st xs,y.1∈N2 xs
 |[],_,y,hy=>by cases hy
 |x::xs,st,y,hy=>by simp only[N2,List.flatMap_cons,ay];rcases ay.1 hy with hy|hy;exact .inl (HA y hy);exact .inr (Ao xs _ y hy)
theorem Bs:∀(xs:aw Operand)(st st2:AS),st2.ep=st.ep->st2.slots.length=st.slots.length->(∀t∈N2 xs,nth st2.slots t=nth st.slots t)->
 (fE st2 xs).1=(fE st xs).1/\(fE st2 xs).2=st2.ki (jR st xs)
 |[],st,st2,_,_,_=>⟨rfl,rfl⟩
 |x::xs,st,st2,hep,hl,hg=>by
  have hx:∀t∈tm x,st2.get t=st.get t:=λt ht=>by unfold AS.get;rw[hg t (by simp[N2,ht])]
  obtain⟨h1,h2⟩:=CE (st:=st) (st2:=st2) hep hx;have h3:=BT (st:=st) x;obtain⟨k1,k2⟩:=Bs xs (st.ki (od st x)) (st2.ki (od st x)) hep (by simp only[AS.ki,MC,hl]) (λt ht=>XX _ hl t (hg t (by simp only[N2,List.flatMap_cons,ay];exact .inr ht)));have e1:fE st (x::xs)=((st.take x).1::(fE (st.take x).2 xs).1,(fE (st.take x).2 xs).2):=rfl;have e2:fE st2 (x::xs)=((st2.take x).1::(fE (st2.take x).2 xs).1,(fE (st2.take x).2 xs).2):=rfl;rw[e1,e2,h1,h2,h3];refine⟨by rw[k1],?_⟩;show(fE (st2.ki (od st x)) xs).2=_;rw[k2,jR,qS]
theorem CD (xs:aw Operand):(fE st xs).2=st.ki (jR st xs):=(Bs xs st st rfl rfl (λ_ _=>rfl)).2
theorem ib.fE (ha:ib an X o st st2){xs:aw Operand}(hx:∀t∈N2 xs,t∈dW o):(fE st2 xs).1=(Dn.fE st xs).1/\(Dn.fE st2 xs).2=st2.ki (jR st xs):=Bs xs st st2 ha.ep ha.len λt ht=>XJ (ha.get t (hx t ht)) ha.len
theorem UN (ho:o.op=.build T parts)(h:Bh E o T parts.toList st some=some st'):eP E Γ an X o st st':=by
 have hl:∀t∈N2 (parts.toList.map (·.2)),t∈dW o:=λt ht=>by simp only[dW,ho];exact ht
 unfold Bh at h;split at h;rename_i ct offs hT;split at h;rename_i vs st1 htk;have hst1:st1=st.ki (jR st (parts.toList.map (·.2))):=by rw[<-CD,htk]
 split at h;rename_i cs hb;cases h;refine⟨⟨jR st (parts.toList.map (·.2))++o.dst.toList.map λd=>(d,.val true cs),none,none⟩,⟨λy hy=>?_,λ_ hh=>(by cases hh),λ_ hh=>(by cases hh)⟩,?_,λst2 ha=>?_⟩;rcases ay.1 hy with hy|hy;have:=hl _ (Ao _ _ y hy);simp[writes,D3,ho,this];obtain⟨d,hd,rfl⟩:=eF.1 hy;simp[writes,hd];rw[hst1];show _=st.ki _;rw[qS];cases o.dst<;>rfl;obtain⟨k1,k2⟩:=ha.fE hl;have h2:fE st2 (parts.toList.map (·.2))=(vs,st2.ki (jR st (parts.toList.map (·.2)))):=Prod.ext (by rw[k1,htk]) k2;simp only[cW,ho,Bh,hT,h2,hb];show some ((st2.ki _).put o.dst _)=some (st2.ki _);rw[qS];cases o.dst<;>rfl;cases h;cases h
theorem eP.ana (ht:D3 an o=true)(hl:∀y∈tl,y.1∈dW o)(h:st'=((st.ki tl).fR o.dst).put o.dst v)(h2:∀st2,ib an X o st st2->cW E Γ an o st2 some=some (((st2.ki tl).fR o.dst).put o.dst v)):eP E Γ an X o st st':=by
 have key:∀s:AS,(⟨tl++o.dst.toList.map λd=>(d,v),none,o.dst⟩:HG).apply s=((s.ki tl).fR o.dst).put o.dst v:=by intro s;cases o.dst with|none=>simp only[HG.apply,Option.toList,List.map_nil,bK,AS.ki,AS.fR,AS.put]|some d=>simp only[HG.apply,Option.toList,di,List.map_nil,Bp,AS.ki,AS.fR,AS.put,jW]
 refine⟨⟨tl++o.dst.toList.map λd=>(d,v),none,o.dst⟩,⟨λy hy=>?_,λ_ hh=>(by cases hh),λd hh=>hh⟩,by rw[key];exact h,λst2 ha=>by rw[key];exact h2 st2 ha⟩;rcases ay.1 hy with hy|hy;simp[writes,ht,hl y hy];obtain⟨d,hd,rfl⟩:=eF.1 hy;simp[writes,hd]
theorem zn {d:az Nat}:(st.ki tl).ix d=st.ix d:=rfl
theorem Io {len:Nat}(ho:o.op=.buildSlice T len parts)(h:lR E o T len parts.toList st some=some st'):eP E Γ an X o st st':=by
 have hl:∀t∈N2 (parts.toList.map (·.2)),t∈dW o:=λt ht=>by simp only[dW,ho];exact ht
 unfold lR at h;split at h;rename_i e hT;split at h;rename_i hc;split at h;rename_i vs st1 htk;have hst1:st1=st.ki (jR st (parts.toList.map (·.2))):=by rw[<-CD,htk]
 split at h;rename_i xs hb;cases h;refine eP.ana (tl:=jR st (parts.toList.map (·.2))) (v:=.one (.sl (.own (st.ix o.dst 0)) e xs)) (by simp[D3,ho]) (λy hy=>hl _ (Ao _ _ y hy)) ?_ λst2 ha=>?_;rw[hst1,AS.pR,zn];obtain⟨k1,k2⟩:=ha.fE hl;have h2:fE st2 (parts.toList.map (·.2))=(vs,st2.ki (jR st (parts.toList.map (·.2)))):=Prod.ext (by rw[k1,htk]) k2;simp only[cW,ho,lR,hT,h2,hb,aE hc];rw[AS.pR,zn,ha.ix];cases h;cases h;cases h
theorem J4 {n c:Operand}(ho:o.op=.makeSlice T n c)(h:oG E o T n c st some=some st'):eP E Γ an X o st st':=by
 have hr:∀st2,ib an X o st st2->st2.rd n=st.rd n/\st2.rd c=st.rd c:=λst2 ha=>
  ⟨ha.rd (λt ht=>by simp[dW,ho,ht]),ha.rd (λt ht=>by simp[dW,ho,ht])⟩
 unfold oG at h;split at h;rename_i e len cap hT hn hc;split at h;rename_i hlc;unfold room at h;split at h;rename_i hrm;cases h;refine eP.new (v:=.one (.sl (.own (st.ix o.dst 0)) e (List.replicate len.toNat e.zero))) rfl λst2 ha=>?_;simp only[cW,ho,oG,(hr st2 ha).1,(hr st2 ha).2,hT,hn,hc,aE hlc,room,aE hrm,AS.pR,ha.ix];cases h;cases h;cases h
theorem Rz (ho:o.op=.call {callee:=.builtin .append,args,argTypes:=ts})(h:wO E o ts.toList args.toList st some=some st'):eP E Γ an X o st st':=by
 have hlk:∀t∈N2 args.toList,t∈dW o:=λt ht=>by simp only[dW,ho];exact ht
 unfold wO at h;split at h;rename_i t t' s x hts hargs;have hl:∀u∈N2 [s,x],u∈dW o:=by rw[<-hargs];exact hlk
 have hboth:∀st2,ib an X o st st2->(st2.take s).1=(st.take s).1/\((st2.take s).2.take x).1=((st.take s).2.take x).1/\((st2.take s).2.take x).2=st2.ki (jR st [s,x]):=by intro st2 ha;obtain⟨k1,k2⟩:=ha.fE hl;simp only[Dn.fE,List.cons.injEq,iU]at k1 k2;exact⟨k1.1,k1.2,k2⟩
 have hself:((st.take s).2.take x).2=st.ki (jR st [s,x]):=CD (st:=st) [s,x];split at h;rename_i tag e xs st1 htk1;split at h;rename_i fl e' ys st1' htk2;split at h;rename_i he;subst he;split at h;rename_i hc;unfold room at h;split at h;rename_i hrm;cases h;have hst1:(st.take s).2=st1:=by rw[htk1]
 have hst2:st1'=st.ki (jR st [s,x]):=by rw[<-hself,hst1,htk2]
 refine eP.ana (tl:=jR st [s,x]) (v:=.one (.sl (.own (st.ix o.dst 0)) e' (xs++ys))) (by simp[D3,ho]) (λy hy=>hl _ (Ao _ _ y hy)) ?_ λst2 ha=>?_;rw[hst2,AS.pR,zn];obtain⟨k1,k2,k3⟩:=hboth st2 ha;have e1:st2.take s=(.val false [.sl (.own tag) e' xs],(st2.take s).2):=Prod.ext (by rw[k1,htk1]) rfl;have e2:(st2.take s).2.take x=(.val false [.sl fl e' ys],st2.ki (jR st [s,x])):=Prod.ext (by rw[k2,hst1,htk2]) k3;simp only[cW,ho,wO,hts,hargs];rw[e1];simp only;rw[e2];simp only[dite_true,ha.ep,aE hc,room,aE hrm,AS.pR,zn,ha.ix];cases h;cases h;cases h;rename_i sx st1' htk2;split at h;rename_i he;subst he;split at h;rename_i hc;unfold room at h;split at h;rename_i hrm;cases h;have hst1:(st.take s).2=st1:=by rw[htk1]
 have hst2:st1'=st.ki (jR st [s,x]):=by rw[<-hself,hst1,htk2]
 refine eP.ana (tl:=jR st [s,x]) (v:=.one (.sl (.own (st.ix o.dst 0)) (.int .u8) (xs++du sx))) (by simp[D3,ho]) (λy hy=>hl _ (Ao _ _ y hy)) ?_ λst2 ha=>?_;rw[hst2,AS.pR,zn];obtain⟨k1,k2,k3⟩:=hboth st2 ha;have e1:st2.take s=(.val false [.sl (.own tag) (.int .u8) xs],(st2.take s).2):=Prod.ext (by rw[k1,htk1]) rfl;have e2:(st2.take s).2.take x=(.val false [.str sx],st2.ki (jR st [s,x])):=Prod.ext (by rw[k2,hst1,htk2]) k3;simp only[cW,ho,wO,hts,hargs];rw[e1];simp only;rw[e2];simp only[dite_true,aE hc,room,aE hrm,AS.pR,zn,ha.ix];cases h;cases h;cases h;cases h;cases h;cases h
theorem abz (ho:o.op=.box T x)(h:PW o x st some=some st'):eP E Γ an X o st st':=by
 have hr:∀st2,ib an X o st st2->(st2.take x).1=(st.take x).1/\(st2.take x).2=st2.ki (od st x):=λst2 ha=>CE ha.ep λt ht=>ha.get t (by simpa[dW,ho]using ht);unfold PW at h;split at h;rename_i d g cs st1 hd htk;have hst1:st1=st.ki (od st x):=by rw[<-BT,htk]
 split at h;rename_i hb;split at h;rename_i hs;cases h;have hb0:nth st.boxes d=some none:=by rw[hst1]at hb;exact hb
 have key:∀s:AS,(⟨od st x++[(d,.one (.ptr d 0))],some (d,cs),none⟩:HG).apply s=((s.ki (od st x)).eZ d (some cs)).put (some d) (.one (.ptr d 0)):=by intro s;simp only[HG.apply,Bp,AS.ki,AS.eZ,AS.put,jW]
 refine⟨⟨od st x++[(d,.one (.ptr d 0))],some (d,cs),none⟩,⟨λy hy=>?_,λb hb'=>?_,λ_ hh=>(by cases hh)⟩,?_,λst2 ha=>?_⟩;rcases ay.1 hy with hy|hy;have:=HA y hy;simp[writes,D3,ho,dW,this];simp only[bE]at hy;subst hy;simp[writes,hd];cases hb';simp[D6,ho,hd];rw[key,hst1,hd];have h2:st2.take x=(.val g cs,st2.ki (od st x)):=Prod.ext (by rw[(hr st2 ha).1,htk]) (hr st2 ha).2;have hb2:nth (st2.ki (od st x)).boxes d=some none:=by show nth st2.boxes d=_;rw[(ha.dst d hd).2];exact hb0
 simp only[cW,ho,PW,hd,h2,hb2,aE hs,key];cases h;cases h;cases h
theorem M9 (hΓ:∀f,(Γ f).io=false/\((Γ f).bx=true->(Γ f).cur=true)/\(Γ f).pr=false)(hm:nG an o=true)(hfree:dM E an X o st=true)(h:cW E Γ an o st some=some st'):eP E Γ an X o st st':=by
 have h0:=h;unfold cW at h;split at h;rename_i ho;exact XE ho h;rename_i ho;have hlate:zT an o=false:=by simpa[nG,ho]using hm
 rw[aD (by simp[hlate])]at h;exact RA ho hm h;rename_i ho;exact XF ho h;rename_i ho;exact UM ho h;rename_i ho;exact abz ho h;rename_i ho;exact XD ho hm hfree h;rename_i T p x ho;split at h;rename_i hd;cases p with
 |tmp pp=>
  have hlate:zT an o=false:=by simp only[nG,ho,ae,aJ]at hm;exact hm.2
  rw[aD (by simp[hlate])]at h;exact UR ho hd hm hfree h
 |const v=>simp[nG,ho]at hm
 |func f=>simp[nG,ho]at hm
 |global g=>simp[nG,ho]at hm
 cases h;rename_i ho;exact Mm ho h0;rename_i ho;exact aby ho h;rename_i ho;exact aef ho h;rename_i ho;exact UO ho h;rename_i ho;exact J3 ho hfree h;rename_i ho;exact UP ho h;rename_i ho;exact UN ho h;rename_i ho;exact Io ho h;rename_i ho;exact J4 ho h;rename_i ho;exact UQ ho hm hfree h;rename_i ho;simp[nG,ho]at hm;rename_i ho;simp[nG,ho]at hm;rename_i ho;exact NL ho h;rename_i ho;exact NM ho hfree h;rename_i ho;exact abA ho h;rename_i ho;exact abC ho h;rename_i ho;exact abB ho h;rename_i ho;exact Rz ho h;rename_i ho;exact XC hΓ ho hfree h;cases h
end Go.Dn
