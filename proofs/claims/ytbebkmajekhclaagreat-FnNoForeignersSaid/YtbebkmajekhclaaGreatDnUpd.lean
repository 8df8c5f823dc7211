import Derived.Test.YtbebkmajekhclaaGreatDnMask
/- What an operation looks at and what it turns: for regions whose order is drawn. -/
namespace Go.Dn
structure Lj where
 slots:List (Nat×AV):=[]
 box:Option (Nat×List AC):=none
 iss:Option Nat:=none
def kV (l:ax AV):ax (Nat×AV)->ax AV
 |[]=>l
 |x::r=>kV (iS l x.1 x.2) r
def Lj.apply (u:Lj)(st:AS):AS:=
 ⟨kV st.slots u.slots,(match u.box with|some b=>iS st.boxes b.1 (some b.2)|none=>st.boxes),st.ep,(match u.iss with|some d=>iS st.iss d true|none=>st.iss),st.io⟩
structure iE (an:An) (X:List Nat) (o:Oper) (st st2:AS):Prop where
 len:st2.slots.length=st.slots.length
 get:∀t∈eo o,st2.get t=st.get t
 ep:st2.ep=st.ep
 dst:∀d,o.dst=some d->nth st2.iss d=nth st.iss d/\nth st2.boxes d=nth st.boxes d
 box:∀s,X.contains s=false->nth st2.boxes s=nth st.boxes s
 er:∀t∈erS an o,st2.get t=st.get t
structure Lj.IB (an:An) (u:Lj) (o:Oper):Prop where
 slots:∀x∈u.slots,x.1∈writes an o
 box:∀b,u.box=some b->b.1∈G2 an o
 iss:∀d,u.iss=some d->o.dst=some d
variable {E:Env} {Γ:BV} {an:An} {X:fK} {o:Oper} {st st2 bZ:AS}
variable {v:AV} {parts:Array (Nat×Operand)} {args:Array Operand} {ts:Array TypeId} {t:Nat} {f p x:Operand} {T:TypeId} {tl:ax (Nat×AV)} {cs:ax AC}
theorem akc (Aw:st2.ep=st.ep)(h:∀t∈tm x,st2.get t=st.get t):st2.rd x=st.rd x:=by cases x with|tmp t=>simp only[AS.rd,Aw,h t (by simp[tm])]|const v=>rfl|func f=>rfl|global g=>rfl
def eY (E:Env)(Γ:BV)(an:An)(X:fK)(o:Oper)(st bZ:AS):Prop:=
 ∃u:Lj,u.IB an o/\bZ=u.apply st/\∀st2,iE an X o st st2->cX E Γ an o st2 some=some (u.apply st2)
def Fl (o:Oper)(v:AV):Lj:={slots:=o.dst.toList.map λd=>(d,v)}
theorem uf (v:AV):(Fl o v).apply st=st.put o.dst v:=by unfold Fl Lj.apply AS.put;cases o.dst<;>rfl
theorem DV (v:AV):(Fl o v).IB an o:=by refine⟨λx hx=>?_,λb hb=>by simp[Fl]at hb,λd hd=>by simp[Fl]at hd⟩;simp only[Fl,eG]at hx;obtain⟨d,hd,rfl⟩:=hx;simp[writes,hd]
def Jk (o:Oper)(v:AV):Lj:={slots:=o.dst.toList.map λd=>(d,v),iss:=o.dst}
theorem Lc (v:AV):(Jk o v).apply st=(st.gn o.dst).put o.dst v:=by unfold Jk Lj.apply AS.put AS.gn;cases o.dst<;>rfl
theorem Sr (v:AV):(Jk o v).IB an o:=by refine⟨λx hx=>?_,λb hb=>by simp[Jk]at hb,λd hd=>by simpa[Jk]using hd⟩;simp only[Jk,eG]at hx;obtain⟨d,hd,rfl⟩:=hx;simp[writes,hd]
theorem eY.put (h:bZ=st.put o.dst v)(h2:∀st2,iE an X o st st2->cX E Γ an o st2 some=some (st2.put o.dst v)):eY E Γ an X o st bZ:=⟨Fl o v,DV v,by rw[uf];exact h,λst2 ha=>by rw[uf];exact h2 st2 ha⟩
theorem iE.rd (ha:iE an X o st st2)(hx:∀t∈tm x,t∈eo o):st2.rd x=st.rd x:=akc ha.ep λt ht=>ha.get t (hx t ht)
theorem acq {c y:Operand}(ho:o.op=.pick c x y)(h:GD o c x y st some=some bZ):eY E Γ an X o st bZ:=by
 have hr:∀st2,iE an X o st st2->st2.rd c=st.rd c/\st2.rd x=st.rd x/\st2.rd y=st.rd y:=λst2 ha=>
  ⟨ha.rd (λt ht=>by simp[eo,ho,ht]),ha.rd (λt ht=>by simp[eo,ho,ht]),ha.rd (λt ht=>by simp[eo,ho,ht])⟩
 unfold GD at h;split at h;rename_i t hc;split at h;rename_i a b hx hy;cases h;refine eY.put rfl λst2 ha=>?_;obtain⟨h1,h2,h3⟩:=hr st2 ha;simp only[cX,ho,GD,h1,h2,h3,hc,hx,hy];rename_i va vb Ht;have hgo:∀st2,iE an X o st st2->cX E Γ an o st2 some=cond t (some (st2.put o.dst (st.rd x))) (some (st2.put o.dst (st.rd y))):=by intro st2 ha;obtain⟨h1,h2,h3⟩:=hr st2 ha;simp only[cX,ho,GD,h1,h2,h3,hc]
 cases t with|true=>cases h;exact eY.put rfl λst2 ha=>hgo st2 ha|false=>cases h;exact eY.put rfl λst2 ha=>hgo st2 ha
 cases h
theorem Qk {d s:Nat}:(⟨[(d,v)],some (s,cs),none⟩:Lj).apply st=(st.fD s (some cs)).put (some d) v:=rfl
theorem T5 {o:Oper}(h:GW an o=true):∃T q d,o.op=.load T (.tmp q)/\o.dst=some d/\o.guard=none/\an.mv.contains d=true/\an.mb d=none:=by unfold GW at h;split at h;rename_i T q d ho hd hg;simp only[ae,Option.isNone_iff_eq_none]at h;exact⟨T,q,d,ho,hd,hg,h.1.1,h.1.2⟩;cases h
def K8 (st:AS)(b j t:Nat)(e:CT)(i:Int)(cs:ax AC)(ys:ax e.D):AS:=st.fD b (some (iS cs j (.sl (.ga (some t) i (some st.ep)) e ys)))
theorem Re {q d:Nat}(ht:GW an o=true)(ho:o.op=.load T (.tmp q))(hd:o.dst=some d)(FE:an.mv.contains d=true)(Jr:an.mb d=none):(dV E an X o st=true/\qK E an o T (.tmp q) st some=some bZ)↔ ∃(g:Bool)(e:CT)(kU:ax (Nat×Nat))(b j t Pf:Nat)(x:e.D)(i:Int)(cs:ax AC)(ys:ax e.D)(y:e.D),jU E.ty T=some ⟨g,e,kU⟩/\st.rd (.tmp q)=.val false [.Dy (.loc Pf (some (.box b j,t))) e x i 0]/\(nth st.boxes b).getD none=some cs/\nth cs j=some (.sl (.own (some t)) e ys)/\idx ys i=some y/\ X.contains b=false/\an.eb q=some b/\fmB an o=false/\bZ=(K8 st b j t e i cs ys).put (some d) (.val g (cellsOf e (.own none) y)):=by
 have uH:GZ an o=true:=by unfold GZ;rw[hd];simp only[FE,Jr];rfl
 have MW:DU an o=false:=by unfold DU;split;rename_i hd' _;rw[hd]at hd';cases hd';rw[Jr];simp;rfl
 have hnp:De an o=false:=by unfold De;split;rename_i hd' _;rw[hd]at hd';cases hd';rw[FE];rfl;rfl
 constructor;rintro⟨hf,h⟩;unfold qK at h;split at h;rename_i hp;simp only[dV,ho,hp,hd,FE,Jr]at hf;simp at hf;rename_i sh fl e x i off hT hp;rw[aI uH]at h;simp only[dV,ho,hp,ht,MW,hnp,Bool.or_false,bt,aj,cJ,gw,ae,aN]at hf;obtain⟨⟨Jq,On⟩,hb⟩:=hf;unfold Aq at h;split at h;rename_i Pf r t;cases r with
 |slot _ _=>cases hb
 |io _=>cases hb
 |box b j=>
  simp only[ae,bg,aN]at hb;split at h;rename_i t' e' ys hrg;split at h;rename_i he;subst he;split at h;rename_i hc;obtain⟨rfl,rfl,MU⟩:=hc;obtain⟨g,ct,kU⟩:=sh;simp only at MU;subst MU;cases hi:idx ys i with|none=>simp only[hi,aa]at h;cases h|some y=>simp only[hi,aa]at h;cases h;simp only[AS.fN]at hrg;obtain⟨cs,Lz,hj⟩:=aZ.1 hrg;refine⟨g,_,kU,b,j,_,Pf,x,i,cs,ys,y,hT,hp,Lz,hj,hi,hb.2,hb.1,On,?_⟩;simp only[AS.fU,Lz,hd];rfl
  cases h;cases h;cases h
 cases h;cases h;rintro⟨g,e,kU,b,j,t,Pf,x,i,cs,ys,y,hT,hp,Lz,hj,hi,hX,Vg,On,rfl⟩;constructor;simp only[dV,ho,hp,ht,MW,hnp,On,hX,Vg];simp;simp only[qK,hT,hp,uH,ch,Aq,AS.fN,Lz,fu,hj,dite_true,and_self,hi,aa,AS.fU,hd];rfl
theorem YS (ht:GW an o=true)(ho:o.op=.load T p)(gY:dV E an X o st=true)(h:qK E an o T p st some=some bZ):eY E Γ an X o st bZ:=by obtain⟨T',q,d,NY,hd,hg,FE,Jr⟩:=T5 ht;rw[ho]at NY;cases NY;obtain⟨g,e,kU,b,j,t,Pf,x,i,cs,ys,y,hT,hp,Lz,hj,hi,hX,Vg,On,rfl⟩:=(Re ht ho hd FE Jr).1 ⟨gY,h⟩;refine⟨⟨[(d,.val g (cellsOf e (.own none) y))],some (b,iS cs j (.sl (.ga (some t) i (some st.ep)) e ys)),none⟩,⟨λx hx=>?_,λb' iI=>?_,λ_ hh=>by cases hh⟩,rfl,λst2 ha=>?_⟩;simp only[bz]at hx;subst hx;simp[writes,hd];cases iI;simp only[G2,ho,hd,FE,ah,ht,Vg];simp;have h2:=((Re (E:=E) (X:=X) (st:=st2) ht ho hd FE Jr).2 ⟨g,e,kU,b,j,t,Pf,x,i,cs,ys,y,hT,by rw[ha.rd (λt ht=>by simpa[eo,ho]using ht)];exact hp,by rw[ha.box b hX];exact Lz,hj,hi,hX,Vg,On,rfl⟩).2;simp only[cX,ho];rw[h2];simp only[K8,ha.ep];rfl
theorem aco (ho:o.op=.load T p)(hm:ph an o=true)(gY:dV E an X o st=true)(h:qK E an o T p st some=some bZ):eY E Γ an X o st bZ:=by
 cases hE:GW an o with|true=>exact YS hE ho gY h|false=> ?_
 have hr:∀st2,iE an X o st st2->st2.rd p=st.rd p:=λst2 ha=>ha.rd (λt ht=>by simpa[eo,ho]using ht);have uH:GZ an o=false:=by simp only[ph,ho,hE,Bool.or_false]at hm;unfold GZ;cases Vf:o.dst with|none=>rfl|some d=>rw[Vf]at hm;simp only[cY,aN]at hm;rcases hm with hm|hm;simp only[hm,dJ];cases Jr:an.mb d with|none=>rw[Jr]at hm;cases hm|some _=>simp[Jr]
 unfold qK at h;split at h;rename_i sh s off hT hp;simp only[dV,ho,hp,ae,aN]at gY;split at h;rename_i cs hb;split at h;rename_i iw;split at h;rename_i d hd;have kQ:∀st2,iE an X o st st2->nth st2.boxes s=nth st.boxes s:=λst2 ha=>ha.box s gY.1.1;cases hf:an.mv.contains d with
 |false=>simp only[hf,bm,cw]at h;cases h;refine eY.put (by rw[hd]) λst2 ha=>?_;simp only[cX,ho,qK,hT,hr st2 ha,hp,kQ st2 ha,hb,aI iw,hd,hf,bm,cw,ha.ep]
 |true=>
  simp only[hf,ch]at h;have Jr:an.mb d=some s:=by have:=gY.1.2;rw[hd]at this;simp only[hf,aj,cJ,bg]at this;exact this
  cases h;refine⟨⟨[(d,.val sh.agg ((cs.drop off).take sh.ct.size))],some (s,eZ cs off (bf st.ep ((cs.drop off).take sh.ct.size))),none⟩,⟨λx hx=>?_,λb iI=>?_,λ_ hh=>by cases hh⟩,?_,λst2 ha=>?_⟩;simp only[bz]at hx;subst hx;simp[writes,hd];cases iI;simp only[G2,ho,hd,hf,ah,Jr];simp;rw[Qk,hd];simp only[cX,ho,qK,hT,hr st2 ha,hp,kQ st2 ha,hb,aI iw,hd,hf,ch,ha.ep,Qk]
 cases h;cases h;cases h;rename_i sh fl e x i off hT hp;rw[aG (by simp[uH])]at h;split at h;rename_i hl;split at h;rename_i iw;cases h;refine eY.put rfl λst2 ha=>?_;simp only[cX,ho,qK,hT,hr st2 ha,hp,ha.ep,uH,bm,cw,aI hl,aI iw];cases h;rename_i hl;have H6:∀r t Pf,fl=.loc Pf (some (r,t))->∀st2,iE an X o st st2->st2.fN r=st.fN r:=by rintro r t Pf rfl st2 ha;simp only[dV,ho,hp,hE,bt,iO,gw,ae,cY]at gY;rcases gY.1.1 with hq|hq;exact absurd hq hl;cases r with|slot b j=>simp only[AS.fN];rw[ha.er b (by simpa using hq)]|box b j=>simp only[AS.fN];rw[ha.box b (by simpa using hq)]|io j=>cases hq
 unfold Fc at h;split at h;rename_i Pf r t;split at h;rename_i t' e' ys hrg;split at h;rename_i he;split at h;rename_i hc;cases hi:idx (he▸ys:List _) i with|none=>rw[hi]at h;cases h|some y=>rw[hi]at h;simp only[aa]at h;cases h;refine eY.put rfl λst2 ha=>?_;simp only[cX,ho,qK,hT,hr st2 ha,hp,ha.ep,uH,bm,cw,aG hl,Fc,H6 _ _ _ rfl st2 ha,hrg,dif_pos he,aI hc,hi,aa]
 cases h;cases h;cases h;cases h;cases h
theorem Qo (ho:o.op=.nilCheck x)(h:cX E Γ an o st some=some bZ):eY E Γ an X o st bZ:=by have hr:∀st2,iE an X o st st2->st2.rd x=st.rd x:=λst2 ha=>ha.rd (λt ht=>by simpa[eo,ho]using ht);simp only[cX,ho]at h;split at h;rename_i s off hx;cases h;refine eY.put rfl λst2 ha=>?_;simp only[cX,ho,hr st2 ha,hx];rename_i fl e y i off hx;cases h;refine eY.put rfl λst2 ha=>?_;simp only[cX,ho,hr st2 ha,hx];cases h
theorem Rn {op:BinOp}{x y:AV}(h:(HP op x y λc=>some (st.put o.dst (.one c)))=some bZ):∃v,bZ=st.put o.dst v/\∀st2:AS,(HP op x y λc=>some (st2.put o.dst (.one c)))=some (st2.put o.dst v):=by have key:∀s:AS,(HP op x y λc=>some (s.put o.dst (.one c)))=(HP op x y some).bind λc=>some (s.put o.dst (.one c)):=λs=>(Hd op x y some _).symm;rw[key st]at h;cases hb:HP op x y some with|none=>rw[hb]at h;cases h|some c=>rw[hb]at h;cases h;exact⟨_,rfl,λst2=>by rw[key st2,hb];rfl⟩
theorem Ub {op:BinOp}{b:Bool}(h:(Fz op b λc=>some (st.put o.dst (.one c)))=some bZ):∃v,bZ=st.put o.dst v/\∀st2:AS,(Fz op b λc=>some (st2.put o.dst (.one c)))=some (st2.put o.dst v):=by unfold Fz at h;split at h;cases h;exact⟨_,rfl,λst2=>rfl⟩;cases h;exact⟨_,rfl,λst2=>rfl⟩;cases h
theorem agl {op:BinOp}{T':TypeId}{y:Operand}(ho:o.op=.binOp op T x y T')(h:CU E o op T x y st some=some bZ):eY E Γ an X o st bZ:=by
 have hr:∀st2,iE an X o st st2->st2.rd x=st.rd x/\st2.rd y=st.rd y:=λst2 ha=>
  ⟨ha.rd (λt ht=>by simp[eo,ho,ht]),ha.rd (λt ht=>by simp[eo,ho,ht])⟩
 unfold CU at h;split at h;rename_i a b hx hy;split at h;rename_i hT;obtain⟨v,rfl,hv⟩:=Rn h;refine eY.put rfl λst2 ha=>?_;simp only[cX,ho,CU,(hr st2 ha).1,(hr st2 ha).2,hx,hy,aI hT];exact hv st2;cases h;rename_i xs ys hx hy;split at h;rename_i ls hq;split at h;rename_i iw;obtain⟨v,rfl,hv⟩:=Rn h;refine eY.put rfl λst2 ha=>?_;simp only[cX,ho,CU,(hr st2 ha).1,(hr st2 ha).2,hx,hy,hq,aI iw];exact hv st2;cases h;cases h;rename_i fl e xs hx hy;split at h;rename_i hT;split at h;cases h;rename_i hlen;obtain⟨v,rfl,hv⟩:=Ub h;refine eY.put rfl λst2 ha=>?_;simp only[cX,ho,CU,(hr st2 ha).1,(hr st2 ha).2,hx,hy,ha.ep,aI hT,aG hlen];exact hv st2;cases h;rename_i hx hy;split at h;rename_i hT;obtain⟨v,rfl,hv⟩:=Ub h;refine eY.put rfl λst2 ha=>?_;simp only[cX,ho,CU,(hr st2 ha).1,(hr st2 ha).2,hx,hy,aI hT];exact hv st2;cases h;rename_i a b Js BL hn3 hn4;obtain⟨v,rfl,hv⟩:=Rn h;refine eY.put rfl λst2 ha=>?_;simp only[cX,ho,CU,(hr st2 ha).1,(hr st2 ha).2];exact hv st2
theorem ajR {op:UnOp}(ho:o.op=.unOp op T x)(h:(unC op (st.rd x) λc=>some (st.put o.dst (.one c)))=some bZ):eY E Γ an X o st bZ:=by have hr:∀st2,iE an X o st st2->st2.rd x=st.rd x:=λst2 ha=>ha.rd (λt ht=>by simpa[eo,ho]using ht);have key:∀s:AS,(unC op (st.rd x) λc=>some (s.put o.dst (.one c)))=(unC op (st.rd x) some).bind λc=>some (s.put o.dst (.one c)):=λs=>(Z2 op (st.rd x) some _).symm;rw[key st]at h;cases hb:unC op (st.rd x) some with|none=>rw[hb]at h;cases h|some c=>rw[hb]at h;cases h;refine eY.put rfl λst2 ha=>?_;simp only[cX,ho,hr st2 ha];rw[key st2,hb];rfl
theorem YO {S:TypeId}{f:Nat}(ho:o.op=.fieldAddr S p f)(h:B7 E o S p f st some=some bZ):eY E Γ an X o st bZ:=by have hr:∀st2,iE an X o st st2->st2.rd p=st.rd p:=λst2 ha=>ha.rd (λt ht=>by simpa[eo,ho]using ht);unfold B7 at h;split at h;rename_i hT hp;split at h;rename_i hf;cases h;refine eY.put rfl λst2 ha=>?_;simp only[cX,ho,B7,hr st2 ha,hT,hp,hf];cases h;rename_i hT hp;split at h;rename_i hf;cases h;refine eY.put rfl λst2 ha=>?_;simp only[cX,ho,B7,hr st2 ha,hT,hp,hf];cases h;cases h
theorem BJ {s:AS}(h:v.now s.ep=true):v.fresh s=v:=by
 cases v with
 |yh vs=>rfl
 |val g cs=>
  simp only[AV.now,aF]at h;simp only[AV.fresh];congr 1;have:cs.map s.fresh=cs.map id:=List.map_congr_left λc hc=>by have hn:=h c hc;unfold AS.fresh;split;simp only[AC.now]at hn;rw[hn];rfl;rfl
  rw[this,List.map_id]
theorem Xs {st st2:AS}(he:st2.ep=st.ep)(h:v.now st.ep=true\/∃g ep b j t e xs,v=.val g [.sl (.loc ep (some (.box b j,t))) e xs]/\nth st2.boxes b=nth st.boxes b):v.fresh st2=v.fresh st:=by rcases h with h|⟨g,ep,b,j,t,e,xs,rfl,hb⟩;rw[BJ h,BJ (by rw[he];exact h)];simp only[AV.fresh,dk,List.map_nil];congr 2;unfold AS.fresh;simp only[AS.fN,he,hb]
theorem N4 {i:Operand}(ho:o.op=.indexAddr T x i)(gY:dV E an X o st=true)(h:nO E o T x i st some=some bZ):eY E Γ an X o st bZ:=by
 have hr:∀st2,iE an X o st st2->st2.rd x=st.rd x/\st2.rd i=st.rd i:=λst2 ha=>
  ⟨ha.rd (λt ht=>by simp[eo,ho,ht]),ha.rd (λt ht=>by simp[eo,ho,ht])⟩
 have CN:∀st2,iE an X o st st2->(st.rd x).fresh st2=(st.rd x).fresh st:=λst2 ha=>by refine Xs ha.ep ?_;simp only[dV,ho,cY]at gY;rcases gY with hn|hn;exact .inl hn;split at hn;rename_i g ep b j t e xs hx;exact .inr ⟨g,ep,b,j,t,e,xs,hx,ha.box b (by simpa using hn)⟩;cases hn
 unfold nO at h;split at h;rename_i e' fl e xs k n hT hx hi;split at h;rename_i hc;cases Gl:idx xs n with|none=>rw[Gl]at h;cases h|some y=>rw[Gl]at h;cases h;refine eY.put rfl λst2 ha=>?_;have hf3:=CN st2 ha;rw[hx]at hf3;simp only[cX,ho,nO,(hr st2 ha).1,(hr st2 ha).2,hf3,hT,hi,ha.ep,aI hc,Gl,aa]
 cases h;cases h
theorem YP {i:Operand}(ho:o.op=.index T x i)(h:DH E o T x i st some=some bZ):eY E Γ an X o st bZ:=by
 have hr:∀st2,iE an X o st st2->st2.rd x=st.rd x/\st2.rd i=st.rd i:=λst2 ha=>
  ⟨ha.rd (λt ht=>by simp[eo,ho,ht]),ha.rd (λt ht=>by simp[eo,ho,ht])⟩
 unfold DH at h;split at h;rename_i s k n hx hi;split at h;rename_i hc;cases Gl:idx s n with|none=>rw[Gl]at h;cases h|some y=>rw[Gl]at h;cases h;refine eY.put rfl λst2 ha=>?_;simp only[cX,ho,DH,(hr st2 ha).1,(hr st2 ha).2,hx,hi,aI hc,Gl,aa]
 cases h;cases h
theorem eY.new (h:bZ=(st.gn o.dst).put o.dst v)(h2:∀st2,iE an X o st st2->cX E Γ an o st2 some=some ((st2.gn o.dst).put o.dst v)):eY E Γ an X o st bZ:=⟨Jk o v,Sr v,by rw[Lc];exact h,λst2 ha=>by rw[Lc];exact h2 st2 ha⟩
theorem iE.ja (ha:iE an X o st st2):st2.ja o.dst=st.ja o.dst:=by funext j;cases hd:o.dst with|none=>rfl|some d=>simp only[AS.ja,(ha.dst d hd).1]
theorem KA {lo hi:az Operand}{n:Nat}{f:AS->Int->Int->az AS}(hs:∀st2,iE an X o st st2->lo.map st2.rd=lo.map st.rd/\hi.map st2.rd=hi.map st.rd)(h:od st lo hi n (f st)=some bZ):∃a b,f st a b=some bZ/\∀st2,iE an X o st st2->od st2 lo hi n (f st2)=f st2 a b:=by unfold od at h;split at h;rename_i h1 h2;exact⟨_,_,h,λst2 ha=>by simp only[od,(hs st2 ha).1,(hs st2 ha).2,h1,h2]⟩;rename_i h1 h2;exact⟨_,_,h,λst2 ha=>by simp only[od,(hs st2 ha).1,(hs st2 ha).2,h1,h2]⟩;rename_i h1 h2;exact⟨_,_,h,λst2 ha=>by simp only[od,(hs st2 ha).1,(hs st2 ha).2,h1,h2]⟩;rename_i h1 h2;exact⟨_,_,h,λst2 ha=>by simp only[od,(hs st2 ha).1,(hs st2 ha).2,h1,h2]⟩;cases h
theorem YQ {lo hi:az Operand}(ho:o.op=.slice T x lo hi none)(hm:ph an o=true)(gY:dV E an X o st=true)(h:Cz E an o T x lo hi st some=some bZ):eY E Γ an X o st bZ:=by
 have hr:∀st2,iE an X o st st2->st2.rd x=st.rd x:=λst2 ha=>ha.rd (λt ht=>by simp[eo,ho,ht]);have hb:∀st2,iE an X o st st2->lo.map st2.rd=lo.map st.rd/\hi.map st2.rd=hi.map st.rd:=by
  intro st2 ha;constructor;cases lo with|none=>rfl|some y=>simp only[dH];rw[ha.rd (λt ht=>by simp[eo,ho,tmO,ht])]
  cases hi with|none=>rfl|some y=>simp only[dH];rw[ha.rd (λt ht=>by simp[eo,ho,tmO,ht])]
 have Gp:(st.rd x).now st.ep=true:=by simpa[dV,ho]using gY
 have CN:∀st2,iE an X o st st2->(st.rd x).fresh st2=st.rd x:=λst2 ha=>BJ (by rw[ha.ep];exact Gp);have uH:GZ an o=false:=by simpa[ph,ho]using hm
 unfold Cz at h;rw[aG (by simp[uH]),BJ Gp]at h;split at h;rename_i s hx;split at h;rename_i hT;obtain⟨a,b,h1,h2⟩:=KA (f:=λs0 a b=>aa (sub s a b) λs'=>some (s0.put o.dst (.one (.str s')))) hb h;cases rm:sub s a b with|none=>rw[rm]at h1;cases h1|some s'=>rw[rm]at h1;cases h1;refine eY.put rfl λst2 ha=>?_;have hf3:=CN st2 ha;rw[hx]at hf3;simp only[cX,ho,Cz,uH,bm,cw,hr st2 ha,hx,hf3,aI hT];rw[h2 st2 ha,rm];rfl
 cases h;rename_i fl e xs hx;split at h;rename_i hT;obtain⟨a,b,h1,h2⟩:=KA (f:=λs0 a b=>aa (sub xs a b) λRD=>some (s0.put o.dst (.one (.sl (Qw an o fl a) e RD)))) hb h;cases rm:sub xs a b with|none=>rw[rm]at h1;cases h1|some s'=>rw[rm]at h1;cases h1;refine eY.put rfl λst2 ha=>?_;have hf3:=CN st2 ha;rw[hx]at hf3;simp only[cX,ho,Cz,uH,bm,cw,hr st2 ha,hx,hf3,ha.ep,aI hT];rw[h2 st2 ha,rm];rfl
 cases h;cases h
theorem ID {args:ax Operand}(hl:∀t,t∈Sq args->t∈eo o)(ha:iE an X o st st2):args.map st2.rd=args.map st.rd:=by apply List.map_congr_left;intro x hx;exact ha.rd (λt ht=>hl t (by simp only[Sq,List.mem_flatMap];exact⟨x,hx,ht⟩))
theorem agn (ho:o.op=.call {callee:=.builtin .len,args,argTypes:=ts})(h:Qi E o ts.toList args.toList st some=some bZ):eY E Γ an X o st bZ:=by have hr:∀st2,iE an X o st st2->args.toList.map st2.rd=args.toList.map st.rd:=λst2 ha=>ID (λt ht=>by simp only[eo,ho];exact ht) ha;unfold Qi at h;split at h;rename_i t s vr hx;split at h;rename_i hT;cases h;refine eY.put rfl λst2 ha=>?_;simp only[cX,ho,Qi,hr st2 ha,vr,hx,aI hT];cases h;rename_i t _ _ xs vr hx;split at h;rename_i hT;cases h;refine eY.put rfl λst2 ha=>?_;simp only[cX,ho,Qi,hr st2 ha,vr,hx,aI hT];cases h;cases h
theorem agp (ho:o.op=.call {callee:=.builtin .min,args,argTypes:=ts})(h:R5 o args.toList st some=some bZ):eY E Γ an X o st bZ:=by have hr:∀st2,iE an X o st st2->args.toList.map st2.rd=args.toList.map st.rd:=λst2 ha=>ID (λt ht=>by simp only[eo,ho];exact ht) ha;unfold R5 at h;split at h;rename_i hx;cases h;refine eY.put rfl λst2 ha=>?_;simp only[cX,ho,R5,hr st2 ha,hx];cases h
theorem ago (ho:o.op=.call {callee:=.builtin .max,args,argTypes:=ts})(h:R4 o args.toList st some=some bZ):eY E Γ an X o st bZ:=by have hr:∀st2,iE an X o st st2->args.toList.map st2.rd=args.toList.map st.rd:=λst2 ha=>ID (λt ht=>by simp only[eo,ho];exact ht) ha;unfold R4 at h;split at h;rename_i hx;cases h;refine eY.put rfl λst2 ha=>?_;simp only[cX,ho,R4,hr st2 ha,hx];cases h
theorem aga {l:fK}{c:AC}(h:c.akn l=true)(hl:∀t∈l,st2.get t=st.get t):st2.R3 c=st.R3 c:=by
 cases c with
 |sl fl e xs=>
  cases fl with
  |loc ep pv=>cases pv with|none=>rfl|some q=>obtain⟨r,t⟩:=q;cases r with|slot b j=>have hb:st2.get b=st.get b:=hl b (by simpa[AC.akn]using h);simp only[AS.R3,AS.fN,hb]|box _ _=>rfl|io _=>rfl
  |_=>rfl
 |_=>rfl
theorem ace {l:fK}(hx:KP l st x=true)(hl:∀t∈l,st2.get t=st.get t)(h:∀t∈tm x,st2.get t=st.get t):Dc st2 x=Dc st x/\Eh st2 x=Eh st x:=by
 cases x with
 |tmp t=>have ht:=h t (by simp[tm]);simp only[KP]at hx;cases hg:st.get t with|yh vs=>exact⟨by simp only[Dc,ht,hg],by simp only[Eh,ht,hg]⟩|val g cs=>rw[hg]at hx;have hm:cs.map st2.R3=cs.map st.R3:=List.map_congr_left λc hc=>aga (aF.1 hx c hc) hl;exact⟨by simp only[Dc,ht,hg,hm],by simp only[Eh,ht,hg,hm]⟩
 |const v=>exact⟨rfl,rfl⟩
 |func f=>exact⟨rfl,rfl⟩
 |global g=>exact⟨rfl,rfl⟩
theorem R6 (ho:o.op=.call {callee:=.value f,args,argTypes:=ts})(gY:dV E an X o st=true){k:Nat}(hf:st.rd f=.val false [.fn k])(kQ:(Γ k).bx=true)(hcur:(Γ k).cur=true)(h:wR Γ o k args.toList st some=some bZ):eY E Γ an X o st bZ:=by
 unfold wR at h;split at h;rename_i x0 xs gP;split at h;rename_i s hx0;have kb:vq an X (erS an o) st (x0::xs)=true:=by have h1:=gY;simp only[dV,ho,ae]at h1;rw[<-gP];exact h1.1
 have hx1:∃q,x0=.tmp q/\X.contains s=false/\an.sb q=some s/\(match (nth st.boxes s).getD none with|some cs=>cs.all AC.Jx|none=>true)=true/\xs.all (KP (erS an o) st)=true:=by cases x0 with|tmp q=>simp only[vq,hx0,ah1,ae,aN,bg]at kb;exact⟨q,rfl,kb.1.1.1,kb.1.1.2,kb.1.2,kb.2⟩|const v=>simp only[vq,hx0,AV.aeb]at kb;cases kb|func v=>simp only[vq,hx0,AV.aeb]at kb;cases kb|global v=>simp only[vq,hx0,AV.aeb]at kb;cases kb
 obtain⟨q,rfl,hX,hsb,IT,C7⟩:=hx1;split at h;rename_i cs Ve;rw[Ve]at IT;simp only at IT;cases hc:(cs.all (AC.AH (Fv cs))&&xs.all (Eh st))with
 |false=>rw[hc]at h;cases h
 |true=>
  rw[hc]at h;simp only[ah]at h;cases iA:(Γ k).fn (.val true (cs.map AC.Wi)::xs.map (Dc st))with
  |none=>rw[iA]at h;cases h
  |some y=>
   rw[iA]at h;simp only[aa]at h;cases hc2:(((Γ k).back y).all (AC.AH true)&&((Γ k).av y).ags)with
   |false=>rw[hc2]at h;cases h
   |true=>
    rw[hc2]at h;simp only[ah,hcur,IT,bR,bq]at h;subst h;refine⟨⟨o.dst.toList.map λd=>(d,((Γ k).av y).Fw st.ep (st.ja o.dst)),some (s,qY (Fv cs) (λ_=>none) 0 ((Γ k).back y)),o.dst⟩,⟨λx hx=>?_,λb hb=>?_,λd hd=>hd⟩,?_,λst2 ha=>?_⟩;simp only[eG]at hx;obtain⟨d,hd,rfl⟩:=hx;simp[writes,hd];cases hb;simp[G2,ho,gP,hsb];unfold Lj.apply AS.put AS.gn AS.fD;cases o.dst<;>rfl;have e1:st2.rd f=st.rd f:=ha.rd (λt ht=>by simp[eo,ho,ht]);have hl:∀x∈Operand.tmp q::xs,∀t∈tm x,t∈eo o:=by intro x hx t ht;simp only[eo,ho,ay,Sq,List.mem_flatMap,gP];exact .inr ⟨x,hx,ht⟩
    have e2:st2.rd (.tmp q)=st.rd (.tmp q):=ha.rd (hl _ (by simp));have e3:nth st2.boxes s=nth st.boxes s:=ha.box s hX;have e4:∀x∈xs,Dc st2 x=Dc st x/\Eh st2 x=Eh st x:=λx hx=>ace (aF.1 C7 x hx) ha.er λt ht=>ha.get t (hl x (by simp[hx]) t ht);have e5:xs.map (Dc st2)=xs.map (Dc st):=List.map_congr_left λx hx=>(e4 x hx).1;have e6:xs.all (Eh st2)=xs.all (Eh st):=by rw[cH];simp only[aF];exact⟨λg x hx=>by rw[<-(e4 x hx).2];exact g x hx,λg x hx=>by rw[(e4 x hx).2];exact g x hx⟩
    simp only[cX,ho,Fy,e1,hf,kQ,ah,wR,gP,e2,hx0,e3,Ve,e5,e6,hc,iA,aa,hc2,hcur,IT,bR,ha.ep,ha.ja];unfold Lj.apply AS.put AS.gn AS.fD;cases o.dst<;>rfl
 cases h;cases h;cases h
theorem acn (CK:∀f,(Γ f).io=false/\((Γ f).bx=true->(Γ f).cur=true)/\(Γ f).pr=false)(ho:o.op=.call {callee:=.value f,args,argTypes:=ts})(gY:dV E an X o st=true)(h:Fy Γ o f args.toList st some=some bZ):eY E Γ an X o st bZ:=by
 have hr:∀st2,iE an X o st st2->st2.rd f=st.rd f/\(args.toList.map λx=>((st2.rd x).fresh st2).asArg st2.ep)=args.toList.map λx=>((st.rd x).fresh st).asArg st.ep:=by
  intro st2 ha;refine⟨ha.rd (λt ht=>by simp[eo,ho,ht]),?_⟩;apply List.map_congr_left;intro x hx;have Gp:(st.rd x).now st.ep=true:=by simp only[dV,ho,ae,aF]at gY;exact gY.2 x hx
  rw[ha.rd (λt ht=>by simp only[eo,ho,ay,Sq,List.mem_flatMap];exact .inr ⟨x,hx,ht⟩),BJ Gp,BJ (s:=st2) (by rw[ha.ep];exact Gp),ha.ep]
 unfold Fy at h;split at h
 ·rename_i k hf
  cases kQ:(Γ k).bx with
  |true=>rw[kQ]at h;exact R6 ho gY hf kQ ((CK k).2.1 kQ) h
  |false=>
  rw[kQ,(CK k).2.2,(CK k).1]at h
  simp only[af]at h
  cases hg:(Γ k).fn (args.toList.map λx=>((st.rd x).fresh st).asArg st.ep)with
  |none=>rw[hg]at h;cases h
  |some y=>
   rw[hg]at h
   simp only[aa]at h
   cases RX:(Γ k).sel y with
   |true=>
    rw[RX]at h
    cases h
    refine eY.new rfl λst2 ha=>?_
    simp only[cX,ho,Fy,(hr st2 ha).1,hf,(CK k).1,kQ,(CK k).2.2,af]
    rw[(hr st2 ha).2,hg]
    simp only[aa,RX,ah,ha.ep,ha.ja]
   |false=>
    rw[RX]at h
    cases h
    refine eY.new rfl λst2 ha=>?_
    simp only[cX,ho,Fy,(hr st2 ha).1,hf,(CK k).1,kQ,(CK k).2.2,af]
    rw[(hr st2 ha).2,hg]
    simp only[aa,RX,af,ha.ep,ha.ja]
 cases h
theorem R7 {src dst:TypeId}(ho:o.op=.convert src dst x)(h:nb E o src dst x st some=some bZ):eY E Γ an X o st bZ:=by
 have hr:∀st2,iE an X o st st2->st2.rd x=st.rd x:=λst2 ha=>ha.rd (λt ht=>by simpa[eo,ho]using ht);unfold nb at h;split at h;rename_i h1 h2 h3;cases h;refine eY.put rfl λst2 ha=>?_;simp only[cX,ho,nb,hr st2 ha,h1,h2,h3];rename_i h1 h2 h3;cases h;refine eY.put rfl λst2 ha=>?_;simp only[cX,ho,nb,hr st2 ha,h1,h2,h3];rename_i kU val s Ht h1 h2 h3;split at h;rename_i hb;unfold room at h;split at h;rename_i hrm;cases h;refine eY.new (v:=.one (.sl (.own (st.ja o.dst 0)) (.int .u8) (dy s))) rfl λst2 ha=>?_;have IW:∀k:AS->az AS,nb E o src dst x st2 k=if E.bytes dst then room s.length (k (st2.rn o.dst (.int .u8) (dy s))) else none:=by intro k;unfold nb;rw[hr st2 ha,h1,h2,h3];obtain⟨ag,ct,of⟩:=val;cases ag with|true=>rfl|false=>cases ct with|str=>exact(Ht _ rfl).elim|_=>rfl
 simp only[cX,ho];rw[IW,aI hb,room,aI hrm,AS.rn,ha.ja];cases h;cases h;rename_i val kU fl xs h1 h2 h3;split at h;rename_i hb;cases h;refine eY.put rfl λst2 ha=>?_;have IW:∀k:AS->az AS,nb E o src dst x st2 k=if E.bytes src/\fl.live st2.ep then k (st2.put o.dst (.one (.str (aO xs)))) else none:=by intro k;unfold nb;rw[hr st2 ha,h1,h2,h3];obtain⟨ag,ct,of⟩:=val;cases ag with|true=>rfl|false=>cases ct<;>rfl
 simp only[cX,ho];rw[IW,ha.ep,aI hb];cases h;cases h
theorem MA {d:Nat}:(⟨[(d,v)],some (d,cs),none⟩:Lj).apply st=(st.fD d (some cs)).put (some d) v:=rfl
theorem YM (ho:o.op=.alloc T)(h:EH E o T st some=some bZ):eY E Γ an X o st bZ:=by unfold EH at h;split at h;rename_i d sh hd hT;split at h;rename_i hb;cases h;refine⟨⟨[(d,.one (.ptr d 0))],some (d,cellsOf sh.ct (.own none) sh.ct.zero),none⟩,⟨λx hx=>?_,λb iI=>?_,λ_ hh=>by cases hh⟩,?_,λst2 ha=>?_⟩;simp only[bz]at hx;subst hx;simp[writes,hd];cases iI;simp[G2,ho,hd];rw[MA,hd];simp only[cX,ho,EH,hd,hT,(ha.dst d hd).2,hb,MA];cases h;cases h
def pP (st:AS):Operand->ax (Nat×AV)
 | .tmp t=>[(t,(st.get t).bf st.ep)]
 |_=>[]
theorem DQ (l:ax AV)(a b:ax (Nat×AV)):kV l (a++b)=kV (kV l a) b:=by induction a generalizing l with|nil=>rfl|cons x a ih=>exact ih _
def AS.lp (st:AS)(l:ax (Nat×AV)):AS:={st with slots:=kV st.slots l}
theorem sR (a b:ax (Nat×AV)):st.lp (a++b)=(st.lp a).lp b:=by simp only[AS.lp,DQ]
theorem EA (x:Operand):(st.take x).2=st.lp (pP st x):=by cases x<;>rfl
theorem Fj (Aw:st2.ep=st.ep)(h:∀t∈tm x,st2.get t=st.get t):(st2.take x).1=(st.take x).1/\(st2.take x).2=st2.lp (pP st x):=by cases x with|tmp t=>have:=h t (by simp[tm]);refine⟨this,?_⟩;rw[EA];simp only[pP,this,Aw]|const v=>exact⟨rfl,rfl⟩|func f=>exact⟨rfl,rfl⟩|global g=>exact⟨rfl,rfl⟩
theorem K9:∀y∈pP st x,y.1∈tm x:=by cases x<;>simp[pP,tm]
theorem acp (ho:o.op=.move x)(h:El an o x st some=some bZ):eY E Γ an X o st bZ:=by
 unfold El at h;cases hd:o.dst with
 |none=>rw[hd]at h;cases h
 |some d=>
  rw[hd]at h;cases hf:an.mv.contains d with
  |false=>simp only[hf,bm,cw]at h;cases h;refine eY.put (v:=st.rd x) (by rw[hd]) λst2 ha=>?_;have hr:st2.rd x=st.rd x:=ha.rd (λt ht=>by simpa[eo,ho]using ht);simp only[cX,ho,El,hd,hf,bm,cw,hr]
  |true=>
   simp only[hf,ch]at h;cases h;have hr:∀st2,iE an X o st st2->(st2.take x).1=(st.take x).1/\(st2.take x).2=st2.lp (pP st x):=λst2 ha=>Fj ha.ep λt ht=>ha.get t (by simpa[eo,ho]using ht);refine⟨⟨pP st x++[(d,(st.take x).1)],none,none⟩,⟨λy hy=>?_,λ_ hh=>(by cases hh),λ_ hh=>(by cases hh)⟩,?_,λst2 ha=>?_⟩;rcases ay.1 hy with hy|hy;have:=K9 y hy;have hf':d∈an.mv:=by simpa using hf
   simp[writes,GY,ho,hd,hf',eo,this];simp only[bz]at hy;subst hy;simp[writes,hd];rw[EA];show _=st.lp _;rw[sR];rfl;simp only[cX,ho,El,hd,hf,ch,(hr st2 ha).1,(hr st2 ha).2];show some ((st2.lp (pP st x)).put (some d) (st.take x).1)=some (st2.lp _);rw[sR];rfl
theorem Xj {ep:Nat}(h:cs.all AC.kx=true):bf ep cs=cs:=by
 rw[aF]at h;unfold bf;have:cs.map (AC.borrow ep none)=cs.map id:=List.map_congr_left λc hc=>by have:=h c hc;cases c<;>first|rfl|(simp[AC.kx]at this)
 rw[this,List.map_id]
theorem amq {s:AS}{vs:ax (Bool×ax AC)}(h:s.get t=.yh vs):s.put (some t) (.yh vs)=s:=by cases s with|mk slots boxes ep iss io=>simp only[AS.put,AS.mk.injEq,jw];rw[gj];apply cS;intro i;rw[bJ];split;rename_i hd;subst hd;simp only[AS.get,eH]at h;split;rename_i gH;rw[al gH]at h⊢;simp only[gr]at h;rw[h];rename_i Cg;rw[bI (Nat.le_of_not_lt Cg)];rfl
theorem R8 {i:Nat}(ho:o.op=.extract (.tmp t) i)(gY:dV E an X o st=true)(h:ng o t i st some=some bZ):eY E Γ an X o st bZ:=by
 have hr:∀st2,iE an X o st st2->st2.get t=st.get t:=λst2 ha=>ha.get t (by simp[eo,ho]);unfold ng at h;simp only[dV,ho]at gY;split at h
 ·rename_i vs hv;rw[hv]at gY;split at h
  ·rename_i g cs hn;simp only[hn]at gY;have hfl:cs.all AC.kx=true\/∃d,o.dst=some d/\an.mv.contains d=true:=by cases hd:o.dst with|none=>simp only[hd,Bool.or_false]at gY;exact .inl gY|some d=>simp only[hd,cY]at gY;rcases gY with h|h;exact .inl h;exact .inr ⟨d,rfl,h⟩
   rcases hfl with gY|⟨d,hd,FE⟩;rotate_left;cases h;refine⟨⟨[(t,.yh (iS vs i (g,bf 0 cs))),(d,.val g cs)],none,none⟩,⟨λx hx=>?_,(λ_ hb=>by cases hb),(λ_ hh=>by cases hh)⟩,?_,λst2 ha=>?_⟩;simp only[bS,List.not_mem_nil,or_false]at hx;rcases hx with rfl|rfl;simp only[writes,GY,ho,hd,FE,ah,eo];simp;simp only[writes,hd];simp;rw[hd];rfl;have h2:st2.get t=.yh vs:=by rw[hr st2 ha,hv]
   simp only[cX,ho,ng,h2,hn,hd];rfl;skip;have Gq:iS vs i (g,cs)=vs:=by rw[gj];rw[eH]at hn;apply cS;intro k;rw[bJ];split;rename_i hk;subst hk;obtain⟨hl,he⟩:=aA.1 hn;rw[aI hl,hn];rfl
   have key:∀s:AS,s.get t=.yh vs->(s.put (some t) (.yh (iS vs i (g,bf 0 cs))))=s:=λs hs=>by rw[Xj gY,Gq,amq hs]
   rw[key st hv]at h;cases h;refine eY.put rfl λst2 ha=>?_;have h2:st2.get t=.yh vs:=by rw[hr st2 ha,hv]
   simp only[cX,ho,ng,h2,hn];rw[key st2 h2]
  cases h
 cases h
def BF (st:AS):Operand->ax (Nat×AV)
 | .tmp t=>[(t,(st.get t).bf st.ep)]
 |_=>[]
theorem Ri (st:AS)(x:Operand):(st.take x).2=⟨kV st.slots (BF st x),st.boxes,st.ep,st.iss,st.io⟩:=by cases x<;>rfl
theorem YR {pp:Nat}(ho:o.op=.store T (.tmp pp) x)(hd:o.dst=none)(hm:ph an o=true)(gY:dV E an X o st=true)(h:yO E T (.tmp pp) x st some=some bZ):eY E Γ an X o st bZ:=by
 have hr:∀st2,iE an X o st st2->st2.rd (.tmp pp)=st.rd (.tmp pp):=λst2 ha=>ha.rd (λt ht=>by simp only[eo,ho,ay];exact .inl ht);have hsb:(an.sb pp).isNone=false:=by simp only[ph,ho,ae]at hm;cases hb:an.sb pp with|none=>rw[hb]at hm;cases hm.1|some _=>rfl
 simp only[dV,ho,hsb,dJ,cJ]at gY;unfold yO at h;split at h;rename_i sh s off hT hp;rw[hp]at gY;simp only[ae,aN,bg]at gY;split at h;rename_i gg vs st1 uH;have Vo:(st.take x).1=.val gg vs:=by rw[uH]
 have Gr:st1=⟨kV st.slots (BF st x),st.boxes,st.ep,st.iss,st.io⟩:=by rw[<-Ri,uH]
 split at h;rename_i cs hb;split at h;rename_i hlen;split at h;rename_i iw;cases h;have kQ:∀st2,iE an X o st st2->nth st2.boxes s=nth st.boxes s:=λst2 ha=>ha.box s gY.1;refine⟨⟨BF st x,some (s,eZ cs off vs),none⟩,⟨λy hy=>?_,λb iI=>?_,λ_ hh=>by cases hh⟩,?_,λst2 ha=>?_⟩;cases x with|tmp t=>simp only[BF,bz]at hy;subst hy;simp only[writes,GY,ho,ah,eo,hd];simp[tm]|_=>simp[BF]at hy
 cases iI;simp only[G2,ho,gY.2];simp;rw[Gr];rfl;have hx2:(st2.take x).1=(st.take x).1/\BF st2 x=BF st x:=by cases x with|tmp t=>have hg:st2.get t=st.get t:=ha.get t (by simp[eo,ho,tm]);simp only[AS.take,BF,hg,ha.ep];simp|const v=>exact⟨rfl,rfl⟩|func f=>exact⟨rfl,rfl⟩|global g=>exact⟨rfl,rfl⟩
 have ht2:st2.take x=(.val gg vs,⟨kV st2.slots (BF st x),st2.boxes,st2.ep,st2.iss,st2.io⟩):=by rw[<-hx2.2,<-Ri,<-Vo,<-hx2.1]
 have SZ:(nth st2.boxes s).getD none=some cs:=by rw[kQ st2 ha];rw[Gr]at hb;exact hb
 have FD:Cn an o=false:=by simp only[ph,ho,ae,aN]at hm;exact hm.2
 simp only[cX,ho,hd,FD,bm,cw,yO,hT,hr st2 ha,hp,ht2,SZ,aI hlen,aI iw];rfl;cases h;cases h;cases h;cases h;rename_i r _ _ _ _ _ _ hp;rw[hp]at gY;cases r<;>simp at gY;cases h
theorem VN (ho:o.op=.assign x)(hm:ph an o=true)(h:wQ E an o x st some=some bZ):eY E Γ an X o st bZ:=by
 have hr:∀st2,iE an X o st st2->(st2.take x).1=(st.take x).1/\(st2.take x).2=st2.lp (pP st x):=λst2 ha=>Fj ha.ep λt ht=>ha.get t (by simpa[eo,ho]using ht);have FD:Cn an o=false:=by simpa[ph,ho]using hm
 unfold wQ at h;split at h;rename_i st1 uH;split at h;rename_i e hT;cases h;refine eY.put rfl λst2 ha=>?_;have h2:st2.take x=(.val false [.kI],st2.lp (pP st x)):=Prod.ext (by rw[(hr st2 ha).1,uH]) (hr st2 ha).2;simp only[cX,ho,wQ,FD,bm,cw,h2,hT];cases h;rename_i v st1 Ht uH;cases h;have Gr:st1=st.lp (pP st x):=by rw[<-EA,uH]
 refine⟨⟨pP st x++o.dst.toList.map λd=>(d,v),none,none⟩,⟨λy hy=>?_,λ_ hh=>(by cases hh),λ_ hh=>(by cases hh)⟩,?_,λst2 ha=>?_⟩;rcases ay.1 hy with hy|hy;have:=K9 y hy;simp[writes,GY,ho,eo,this];obtain⟨d,hd,rfl⟩:=eG.1 hy;simp[writes,hd];rw[Gr];show _=st.lp _;rw[sR];cases o.dst<;>rfl;have h2:st2.take x=(v,st2.lp (pP st x)):=Prod.ext (by rw[(hr st2 ha).1,uH]) (hr st2 ha).2;simp only[cX,ho,wQ,FD,bm,cw,h2];show some ((st2.lp (pP st x)).put o.dst v)=some (st2.lp _);rw[sR];cases o.dst<;>rfl
theorem kB {α:Type}(l:ax α)(i:Nat)(v:α)(t:Nat):nth (iS l i v) t=if i=t then(if i<l.length then some v else none) else nth l t:=by rw[eH,gj,eH,bJ]
theorem QD (l:ax AV)(a:ax (Nat×AV)):(kV l a).length=l.length:=by induction a generalizing l with|nil=>rfl|cons x a ih=>rw[kV,ih,gj,aC]
theorem acJ {l l2:ax AV}(a:ax (Nat×AV))(hl:l2.length=l.length)(t:Nat)(h:nth l2 t=nth l t):nth (kV l2 a) t=nth (kV l a) t:=by induction a generalizing l l2 with|nil=>exact h|cons x a ih=>refine ih (by rw[gj,gj,aC,aC,hl]) ?_;rw[kB,kB,hl,h]
theorem acx (h:st2.get t=st.get t)(hl:st2.slots.length=st.slots.length):nth st2.slots t=nth st.slots t:=by unfold AS.get at h;rw[eH,eH]at h⊢;rcases cr t st.slots.length with gH|Cg;rw[al gH,al (by omega)]at h⊢;simpa using h;rw[bI Cg,bI (by omega)]
def kN (st:AS):ax Operand->ax (Nat×AV)
 |[]=>[]
 |x::xs=>pP st x++kN (st.lp (pP st x)) xs
theorem CG:∀(xs:ax Operand)(st:AS),∀y∈kN st xs,y.1∈Sq xs
 |[],_,y,hy=>by cases hy
 |x::xs,st,y,hy=>by simp only[Sq,List.flatMap_cons,ay];rcases ay.1 hy with hy|hy;exact .inl (K9 y hy);exact .inr (CG xs _ y hy)
theorem DT:∀(xs:ax Operand)(st st2:AS),st2.ep=st.ep->st2.slots.length=st.slots.length->(∀t∈Sq xs,nth st2.slots t=nth st.slots t)->
 (fO st2 xs).1=(fO st xs).1/\(fO st2 xs).2=st2.lp (kN st xs)
 |[],st,st2,_,_,_=>⟨rfl,rfl⟩
 |x::xs,st,st2,Aw,hl,hg=>by
  have hx:∀t∈tm x,st2.get t=st.get t:=λt ht=>by unfold AS.get;rw[hg t (by simp[Sq,ht])]
  obtain⟨h1,h2⟩:=Fj (st:=st) (st2:=st2) Aw hx;have h3:=EA (st:=st) x;obtain⟨k1,k2⟩:=DT xs (st.lp (pP st x)) (st2.lp (pP st x)) Aw (by simp only[AS.lp,QD,hl]) (λt ht=>acJ _ hl t (hg t (by simp only[Sq,List.flatMap_cons,ay];exact .inr ht)));have e1:fO st (x::xs)=((st.take x).1::(fO (st.take x).2 xs).1,(fO (st.take x).2 xs).2):=rfl;have e2:fO st2 (x::xs)=((st2.take x).1::(fO (st2.take x).2 xs).1,(fO (st2.take x).2 xs).2):=rfl;rw[e1,e2,h1,h2,h3];refine⟨by rw[k1],?_⟩;show(fO (st2.lp (pP st x)) xs).2=_;rw[k2,kN,sR]
theorem Fi (xs:ax Operand):(fO st xs).2=st.lp (kN st xs):=(DT xs st st rfl rfl (λ_ _=>rfl)).2
theorem iE.fO (ha:iE an X o st st2){xs:ax Operand}(hx:∀t∈Sq xs,t∈eo o):(fO st2 xs).1=(Dn.fO st xs).1/\(Dn.fO st2 xs).2=st2.lp (kN st xs):=DT xs st st2 ha.ep ha.len λt ht=>acx (ha.get t (hx t ht)) ha.len
theorem YN (ho:o.op=.build T parts)(h:Dv E o T parts.toList st some=some bZ):eY E Γ an X o st bZ:=by
 have hl:∀t∈Sq (parts.toList.map (·.2)),t∈eo o:=λt ht=>by simp only[eo,ho];exact ht
 unfold Dv at h;split at h;rename_i ct kU hT;split at h;rename_i vs st1 uH;have Gr:st1=st.lp (kN st (parts.toList.map (·.2))):=by rw[<-Fi,uH]
 split at h;rename_i cs hb;cases h;refine⟨⟨kN st (parts.toList.map (·.2))++o.dst.toList.map λd=>(d,.val true cs),none,none⟩,⟨λy hy=>?_,λ_ hh=>(by cases hh),λ_ hh=>(by cases hh)⟩,?_,λst2 ha=>?_⟩;rcases ay.1 hy with hy|hy;have:=hl _ (CG _ _ y hy);simp[writes,GY,ho,this];obtain⟨d,hd,rfl⟩:=eG.1 hy;simp[writes,hd];rw[Gr];show _=st.lp _;rw[sR];cases o.dst<;>rfl;obtain⟨k1,k2⟩:=ha.fO hl;have h2:fO st2 (parts.toList.map (·.2))=(vs,st2.lp (kN st (parts.toList.map (·.2)))):=Prod.ext (by rw[k1,uH]) k2;simp only[cX,ho,Dv,hT,h2,hb];show some ((st2.lp _).put o.dst _)=some (st2.lp _);rw[sR];cases o.dst<;>rfl;cases h;cases h
theorem eY.apD (ht:GY an o=true)(hl:∀y∈tl,y.1∈eo o)(h:bZ=((st.lp tl).gn o.dst).put o.dst v)(h2:∀st2,iE an X o st st2->cX E Γ an o st2 some=some (((st2.lp tl).gn o.dst).put o.dst v)):eY E Γ an X o st bZ:=by
 have key:∀s:AS,(⟨tl++o.dst.toList.map λd=>(d,v),none,o.dst⟩:Lj).apply s=((s.lp tl).gn o.dst).put o.dst v:=by intro s;cases o.dst with|none=>simp only[Lj.apply,Option.toList,List.map_nil,bD,AS.lp,AS.gn,AS.put]|some d=>simp only[Lj.apply,Option.toList,dk,List.map_nil,DQ,AS.lp,AS.gn,AS.put,kV]
 refine⟨⟨tl++o.dst.toList.map λd=>(d,v),none,o.dst⟩,⟨λy hy=>?_,λ_ hh=>(by cases hh),λd hh=>hh⟩,by rw[key];exact h,λst2 ha=>by rw[key];exact h2 st2 ha⟩;rcases ay.1 hy with hy|hy;simp[writes,ht,hl y hy];obtain⟨d,hd,rfl⟩:=eG.1 hy;simp[writes,hd]
theorem BO {d:az Nat}:(st.lp tl).ja d=st.ja d:=rfl
theorem L2 {len:Nat}(ho:o.op=.buildSlice T len parts)(h:mY E o T len parts.toList st some=some bZ):eY E Γ an X o st bZ:=by
 have hl:∀t∈Sq (parts.toList.map (·.2)),t∈eo o:=λt ht=>by simp only[eo,ho];exact ht
 unfold mY at h;split at h;rename_i e hT;split at h;rename_i hc;split at h;rename_i vs st1 uH;have Gr:st1=st.lp (kN st (parts.toList.map (·.2))):=by rw[<-Fi,uH]
 split at h;rename_i xs hb;cases h;refine eY.apD (tl:=kN st (parts.toList.map (·.2))) (v:=.one (.sl (.own (st.ja o.dst 0)) e xs)) (by simp[GY,ho]) (λy hy=>hl _ (CG _ _ y hy)) ?_ λst2 ha=>?_;rw[Gr,AS.rn,BO];obtain⟨k1,k2⟩:=ha.fO hl;have h2:fO st2 (parts.toList.map (·.2))=(vs,st2.lp (kN st (parts.toList.map (·.2)))):=Prod.ext (by rw[k1,uH]) k2;simp only[cX,ho,mY,hT,h2,hb,aI hc];rw[AS.rn,BO,ha.ja];cases h;cases h;cases h
theorem N5 {n c:Operand}(ho:o.op=.makeSlice T n c)(h:qj E o T n c st some=some bZ):eY E Γ an X o st bZ:=by
 have hr:∀st2,iE an X o st st2->st2.rd n=st.rd n/\st2.rd c=st.rd c:=λst2 ha=>
  ⟨ha.rd (λt ht=>by simp[eo,ho,ht]),ha.rd (λt ht=>by simp[eo,ho,ht])⟩
 unfold qj at h;split at h;rename_i e len cap hT hn hc;split at h;rename_i hlc;unfold room at h;split at h;rename_i hrm;cases h;refine eY.new (v:=.one (.sl (.own (st.ja o.dst 0)) e (List.replicate len.toNat e.zero))) rfl λst2 ha=>?_;simp only[cX,ho,qj,(hr st2 ha).1,(hr st2 ha).2,hT,hn,hc,aI hlc,room,aI hrm,AS.rn,ha.ja];cases h;cases h;cases h
theorem VM (ho:o.op=.call {callee:=.builtin .append,args,argTypes:=ts})(h:yS E o ts.toList args.toList st some=some bZ):eY E Γ an X o st bZ:=by
 have hlk:∀t∈Sq args.toList,t∈eo o:=λt ht=>by simp only[eo,ho];exact ht
 unfold yS at h;split at h;rename_i t t' s x vr gP;have hl:∀u∈Sq [s,x],u∈eo o:=by rw[<-gP];exact hlk
 have am9:∀st2,iE an X o st st2->(st2.take s).1=(st.take s).1/\((st2.take s).2.take x).1=((st.take s).2.take x).1/\((st2.take s).2.take x).2=st2.lp (kN st [s,x]):=by intro st2 ha;obtain⟨k1,k2⟩:=ha.fO hl;simp only[Dn.fO,List.cons.injEq,jw]at k1 k2;exact⟨k1.1,k1.2,k2⟩
 have C7:((st.take s).2.take x).2=st.lp (kN st [s,x]):=Fi (st:=st) [s,x];split at h;rename_i tag e xs st1 Vo;split at h;rename_i fl e' ys apz J1;split at h;rename_i he;subst he;split at h;rename_i hc;unfold room at h;split at h;rename_i hrm;cases h;have Gr:(st.take s).2=st1:=by rw[Vo]
 have Vn:apz=st.lp (kN st [s,x]):=by rw[<-C7,Gr,J1]
 refine eY.apD (tl:=kN st [s,x]) (v:=.one (.sl (.own (st.ja o.dst 0)) e' (xs++ys))) (by simp[GY,ho]) (λy hy=>hl _ (CG _ _ y hy)) ?_ λst2 ha=>?_;rw[Vn,AS.rn,BO];obtain⟨k1,k2,k3⟩:=am9 st2 ha;have e1:st2.take s=(.val false [.sl (.own tag) e' xs],(st2.take s).2):=Prod.ext (by rw[k1,Vo]) rfl;have e2:(st2.take s).2.take x=(.val false [.sl fl e' ys],st2.lp (kN st [s,x])):=Prod.ext (by rw[k2,Gr,J1]) k3;simp only[cX,ho,yS,vr,gP];rw[e1];simp only;rw[e2];simp only[dite_true,ha.ep,aI hc,room,aI hrm,AS.rn,BO,ha.ja];cases h;cases h;cases h;rename_i sx apz J1;split at h;rename_i he;subst he;split at h;rename_i hc;unfold room at h;split at h;rename_i hrm;cases h;have Gr:(st.take s).2=st1:=by rw[Vo]
 have Vn:apz=st.lp (kN st [s,x]):=by rw[<-C7,Gr,J1]
 refine eY.apD (tl:=kN st [s,x]) (v:=.one (.sl (.own (st.ja o.dst 0)) (.int .u8) (xs++dy sx))) (by simp[GY,ho]) (λy hy=>hl _ (CG _ _ y hy)) ?_ λst2 ha=>?_;rw[Vn,AS.rn,BO];obtain⟨k1,k2,k3⟩:=am9 st2 ha;have e1:st2.take s=(.val false [.sl (.own tag) (.int .u8) xs],(st2.take s).2):=Prod.ext (by rw[k1,Vo]) rfl;have e2:(st2.take s).2.take x=(.val false [.str sx],st2.lp (kN st [s,x])):=Prod.ext (by rw[k2,Gr,J1]) k3;simp only[cX,ho,yS,vr,gP];rw[e1];simp only;rw[e2];simp only[dite_true,aI hc,room,aI hrm,AS.rn,BO,ha.ja];cases h;cases h;cases h;cases h;cases h;cases h
theorem agm (ho:o.op=.box T x)(h:Uq o x st some=some bZ):eY E Γ an X o st bZ:=by
 have hr:∀st2,iE an X o st st2->(st2.take x).1=(st.take x).1/\(st2.take x).2=st2.lp (pP st x):=λst2 ha=>Fj ha.ep λt ht=>ha.get t (by simpa[eo,ho]using ht);unfold Uq at h;split at h;rename_i d g cs st1 hd uH;have Gr:st1=st.lp (pP st x):=by rw[<-EA,uH]
 split at h;rename_i hb;split at h;rename_i hs;cases h;have Ve:nth st.boxes d=some none:=by rw[Gr]at hb;exact hb
 have key:∀s:AS,(⟨pP st x++[(d,.one (.ptr d 0))],some (d,cs),none⟩:Lj).apply s=((s.lp (pP st x)).fD d (some cs)).put (some d) (.one (.ptr d 0)):=by intro s;simp only[Lj.apply,DQ,AS.lp,AS.fD,AS.put,kV]
 refine⟨⟨pP st x++[(d,.one (.ptr d 0))],some (d,cs),none⟩,⟨λy hy=>?_,λb iI=>?_,λ_ hh=>(by cases hh)⟩,?_,λst2 ha=>?_⟩;rcases ay.1 hy with hy|hy;have:=K9 y hy;simp[writes,GY,ho,eo,this];simp only[bz]at hy;subst hy;simp[writes,hd];cases iI;simp[G2,ho,hd];rw[key,Gr,hd];have h2:st2.take x=(.val g cs,st2.lp (pP st x)):=Prod.ext (by rw[(hr st2 ha).1,uH]) (hr st2 ha).2;have SZ:nth (st2.lp (pP st x)).boxes d=some none:=by show nth st2.boxes d=_;rw[(ha.dst d hd).2];exact Ve
 simp only[cX,ho,Uq,hd,h2,SZ,aI hs,key];cases h;cases h;cases h
theorem Ra (CK:∀f,(Γ f).io=false/\((Γ f).bx=true->(Γ f).cur=true)/\(Γ f).pr=false)(hm:ph an o=true)(gY:dV E an X o st=true)(h:cX E Γ an o st some=some bZ):eY E Γ an X o st bZ:=by
 have h0:=h;unfold cX at h;split at h;rename_i ho;exact acp ho h;rename_i ho;have FD:Cn an o=false:=by simpa[ph,ho]using hm
 rw[aG (by simp[FD])]at h;exact VN ho hm h;rename_i ho;exact acq ho h;rename_i ho;exact YM ho h;rename_i ho;exact agm ho h;rename_i ho;exact aco ho hm gY h;rename_i T p x ho;split at h;rename_i hd;cases p with
 |tmp pp=>
  have FD:Cn an o=false:=by simp only[ph,ho,ae,aN]at hm;exact hm.2
  rw[aG (by simp[FD])]at h;exact YR ho hd hm gY h
 |const v=>simp[ph,ho]at hm
 |func f=>simp[ph,ho]at hm
 |global g=>simp[ph,ho]at hm
 cases h;rename_i ho;exact Qo ho h0;rename_i ho;exact agl ho h;rename_i ho;exact ajR ho h;rename_i ho;exact YO ho h;rename_i ho;exact N4 ho gY h;rename_i ho;exact YP ho h;rename_i ho;exact YN ho h;rename_i ho;exact L2 ho h;rename_i ho;exact N5 ho h;rename_i ho;exact YQ ho hm gY h;rename_i ho;simp[ph,ho]at hm;rename_i ho;simp[ph,ho]at hm;rename_i ho;exact R7 ho h;rename_i ho;exact R8 ho gY h;rename_i ho;exact agn ho h;rename_i ho;exact agp ho h;rename_i ho;exact ago ho h;rename_i ho;exact VM ho h;rename_i ho;exact acn CK ho gY h;cases h
end Go.Dn
