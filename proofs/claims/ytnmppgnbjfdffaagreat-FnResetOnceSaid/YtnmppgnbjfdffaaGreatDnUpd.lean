import Derived.Test.YtnmppgnbjfdffaaGreatDnMask
/- What an operation looks at and what it turns: for regions whose order is drawn. -/
namespace Go.Dn
structure F6 where
 slots:List (Nat×AV):=[]
 box:Option (Nat×List AC):=none
 iss:Option Nat:=none
def jw (l:aw AV):aw (Nat×AV)->aw AV
 |[]=>l
 |x::r=>jw (gI l x.1 x.2) r
def F6.apply (u:F6)(st:AS):AS:=
 ⟨jw st.slots u.slots,(match u.box with|some b=>gI st.boxes b.1 (some b.2)|none=>st.boxes),st.ep,(match u.iss with|some d=>gI st.iss d true|none=>st.iss),st.io⟩
structure gz (an:An) (X:List Nat) (o:Oper) (st st2:AS):Prop where
 len:st2.slots.length=st.slots.length
 get:∀t∈dA o,st2.get t=st.get t
 ep:st2.ep=st.ep
 dst:∀d,o.dst=some d->nth st2.iss d=nth st.iss d/\nth st2.boxes d=nth st.boxes d
 box:∀s,X.contains s=false->nth st2.boxes s=nth st.boxes s
 er:∀t∈Zh an o,st2.get t=st.get t
structure F6.DF (an:An) (u:F6) (o:Oper):Prop where
 slots:∀x∈u.slots,x.1∈writes an o
 box:∀b,u.box=some b->b.1∈Cn an o
 iss:∀d,u.iss=some d->o.dst=some d
variable {E:Env} {Γ:xl} {an:An} {X:ff} {o:Oper} {st st2 bI:AS}
variable {v:AV} {parts:Array (Nat×Operand)} {args:Array Operand} {ts:Array TypeId} {t:Nat} {f p x:Operand} {T:TypeId} {tl:aw (Nat×AV)} {cs:aw AC}
theorem abD (vY:st2.ep=st.ep)(h:∀t∈tm x,st2.get t=st.get t):st2.rd x=st.rd x:=by cases x with|tmp t=>simp only[AS.rd,vY,h t (by simp[tm])]|const v=>rfl|func f=>rfl|global g=>rfl
def dS (E:Env)(Γ:xl)(an:An)(X:ff)(o:Oper)(st bI:AS):Prop:=
 ∃u:F6,u.DF an o/\bI=u.apply st/\∀st2,gz an X o st st2->cU E Γ an o st2 some=some (u.apply st2)
def AI (o:Oper)(v:AV):F6:={slots:=o.dst.toList.map λd=>(d,v)}
theorem qn (v:AV):(AI o v).apply st=st.put o.dst v:=by unfold AI F6.apply AS.put;cases o.dst<;>rfl
theorem zg (v:AV):(AI o v).DF an o:=by refine⟨λx hx=>?_,λb hb=>by simp[AI]at hb,λd hd=>by simp[AI]at hd⟩;simp only[AI,List.mem_map]at hx;obtain⟨d,hd,rfl⟩:=hx;simp[writes,hd]
def Eh (o:Oper)(v:AV):F6:={slots:=o.dst.toList.map λd=>(d,v),iss:=o.dst}
theorem F2 (v:AV):(Eh o v).apply st=(st.fg o.dst).put o.dst v:=by unfold Eh F6.apply AS.put AS.fg;cases o.dst<;>rfl
theorem LU (v:AV):(Eh o v).DF an o:=by refine⟨λx hx=>?_,λb hb=>by simp[Eh]at hb,λd hd=>by simpa[Eh]using hd⟩;simp only[Eh,List.mem_map]at hx;obtain⟨d,hd,rfl⟩:=hx;simp[writes,hd]
theorem dS.put (h:bI=st.put o.dst v)(h2:∀st2,gz an X o st st2->cU E Γ an o st2 some=some (st2.put o.dst v)):dS E Γ an X o st bI:=⟨AI o v,zg v,by rw[qn];exact h,λst2 ha=>by rw[qn];exact h2 st2 ha⟩
theorem gz.rd (ha:gz an X o st st2)(hx:∀t∈tm x,t∈dA o):st2.rd x=st.rd x:=abD ha.ep λt ht=>ha.get t (hx t ht)
theorem Uw {c y:Operand}(ho:o.op=.pick c x y)(h:B0 o c x y st some=some bI):dS E Γ an X o st bI:=by
 have hr:∀st2,gz an X o st st2->st2.rd c=st.rd c/\st2.rd x=st.rd x/\st2.rd y=st.rd y:=λst2 ha=>
  ⟨ha.rd (λt ht=>by simp[dA,ho,ht]),ha.rd (λt ht=>by simp[dA,ho,ht]),ha.rd (λt ht=>by simp[dA,ho,ht])⟩
 unfold B0 at h;split at h;rename_i t hc;split at h;rename_i a b hx hy;cases h;refine dS.put rfl λst2 ha=>?_;obtain⟨h1,h2,h3⟩:=hr st2 ha;simp only[cU,ho,B0,h1,h2,h3,hc,hx,hy];rename_i va vb Ep;have W9:∀st2,gz an X o st st2->cU E Γ an o st2 some=cond t (some (st2.put o.dst (st.rd x))) (some (st2.put o.dst (st.rd y))):=by intro st2 ha;obtain⟨h1,h2,h3⟩:=hr st2 ha;simp only[cU,ho,B0,h1,h2,h3,hc]
 cases t with|true=>cases h;exact dS.put rfl λst2 ha=>W9 st2 ha|false=>cases h;exact dS.put rfl λst2 ha=>W9 st2 ha
 cases h
theorem J6 {d s:Nat}:(⟨[(d,v)],some (s,cs),none⟩:F6).apply st=(st.eu s (some cs)).put (some d) v:=rfl
theorem Nc {o:Oper}(h:Ci an o=true):∃T q d,o.op=.load T (.tmp q)/\o.dst=some d/\o.guard=none/\an.mv.contains d=true/\an.mb d=none:=by unfold Ci at h;split at h;rename_i T q d ho hd hg;simp only[ae,Option.isNone_iff_eq_none]at h;exact⟨T,q,d,ho,hd,hg,h.1.1,h.1.2⟩;cases h
def FZ (st:AS)(b j t:Nat)(e:CT)(i:Int)(cs:aw AC)(ys:aw e.D):AS:=st.eu b (some (gI cs j (.sl (.eX (some t) i (some st.ep)) e ys)))
theorem KU {q d:Nat}(ht:Ci an o=true)(ho:o.op=.load T (.tmp q))(hd:o.dst=some d)(AX:an.mv.contains d=true)(Sx:an.mb d=none):(dp E an X o st=true/\nI E an o T (.tmp q) st some=some bI)↔ ∃(g:Bool)(e:CT)(jv:aw (Nat×Nat))(b j t Jg:Nat)(x:e.D)(i:Int)(cs:aw AC)(ys:aw e.D)(y:e.D),iP E.ty T=some ⟨g,e,jv⟩/\st.rd (.tmp q)=.val false [.yP (.loc Jg (some (.box b j,t))) e x i 0]/\(nth st.boxes b).getD none=some cs/\nth cs j=some (.sl (.own (some t)) e ys)/\idx ys i=some y/\ X.contains b=false/\an.eb q=some b/\Sv an o=false/\bI=(FZ st b j t e i cs ys).put (some d) (.val g (cellsOf e (.own none) y)):=by
 have qD:Cl an o=true:=by unfold Cl;rw[hd];simp only[AX,Sx];rfl
 have Hw:ze an o=false:=by unfold ze;split;rename_i hd' _;rw[hd]at hd';cases hd';rw[Sx];simp;rfl
 have hnp:yz an o=false:=by unfold yz;split;rename_i hd' _;rw[hd]at hd';cases hd';rw[AX];rfl;rfl
 constructor;rintro⟨hf,h⟩;unfold nI at h;split at h;rename_i hp;simp only[dp,ho,hp,hd,AX,Sx]at hf;simp at hf;rename_i sh fl e x i off hT hp;rw[aF qD]at h;simp only[dp,ho,hp,ht,Hw,hnp,Bool.or_false,cb,aj,cC,gN,ae,aL]at hf;obtain⟨⟨Eo,IC⟩,hb⟩:=hf;unfold vP at h;split at h;rename_i Jg r t;cases r with
 |slot _ _=>cases hb
 |io _=>cases hb
 |box b j=>
  simp only[ae,bc,aL]at hb;split at h;rename_i t' e' ys Sy;split at h;rename_i he;subst he;split at h;rename_i hc;obtain⟨rfl,rfl,Hu⟩:=hc;obtain⟨g,ct,jv⟩:=sh;simp only at Hu;subst Hu;cases hi:idx ys i with|none=>simp only[hi,aa]at h;cases h|some y=>simp only[hi,aa]at h;cases h;simp only[AS.eJ]at Sy;obtain⟨cs,Gl,hj⟩:=aM.1 Sy;refine⟨g,_,jv,b,j,_,Jg,x,i,cs,ys,y,hT,hp,Gl,hj,hi,hb.2,hb.1,IC,?_⟩;simp only[AS.eP,Gl,hd];rfl
  cases h;cases h;cases h
 cases h;cases h;rintro⟨g,e,jv,b,j,t,Jg,x,i,cs,ys,y,hT,hp,Gl,hj,hi,hX,N9,IC,rfl⟩;constructor;simp only[dp,ho,hp,ht,Hw,hnp,IC,hX,N9];simp;simp only[nI,hT,hp,qD,bM,vP,AS.eJ,Gl,ec,hj,dite_true,and_self,hi,aa,AS.eP,hd];rfl
theorem Ro (ht:Ci an o=true)(ho:o.op=.load T p)(fR:dp E an X o st=true)(h:nI E an o T p st some=some bI):dS E Γ an X o st bI:=by obtain⟨T',q,d,Ie,hd,hg,AX,Sx⟩:=Nc ht;rw[ho]at Ie;cases Ie;obtain⟨g,e,jv,b,j,t,Jg,x,i,cs,ys,y,hT,hp,Gl,hj,hi,hX,N9,IC,rfl⟩:=(KU ht ho hd AX Sx).1 ⟨fR,h⟩;refine⟨⟨[(d,.val g (cellsOf e (.own none) y))],some (b,gI cs j (.sl (.eX (some t) i (some st.ep)) e ys)),none⟩,⟨λx hx=>?_,λb' gK=>?_,λ_ hh=>by cases hh⟩,rfl,λst2 ha=>?_⟩;simp only[cj]at hx;subst hx;simp[writes,hd];cases gK;simp only[Cn,ho,hd,AX,ah,ht,N9];simp;have h2:=((KU (E:=E) (X:=X) (st:=st2) ht ho hd AX Sx).2 ⟨g,e,jv,b,j,t,Jg,x,i,cs,ys,y,hT,by rw[ha.rd (λt ht=>by simpa[dA,ho]using ht)];exact hp,by rw[ha.box b hX];exact Gl,hj,hi,hX,N9,IC,rfl⟩).2;simp only[cU,ho];rw[h2];simp only[FZ,ha.ep];rfl
theorem Uu (ho:o.op=.load T p)(hm:mz an o=true)(fR:dp E an X o st=true)(h:nI E an o T p st some=some bI):dS E Γ an X o st bI:=by
 cases hE:Ci an o with|true=>exact Ro hE ho fR h|false=> ?_
 have hr:∀st2,gz an X o st st2->st2.rd p=st.rd p:=λst2 ha=>ha.rd (λt ht=>by simpa[dA,ho]using ht);have qD:Cl an o=false:=by simp only[mz,ho,hE,Bool.or_false]at hm;unfold Cl;cases N8:o.dst with|none=>rfl|some d=>rw[N8]at hm;simp only[cz,aL]at hm;rcases hm with hm|hm;simp only[hm,ez];cases Sx:an.mb d with|none=>rw[Sx]at hm;cases hm|some _=>simp[Sx]
 unfold nI at h;split at h;rename_i sh s off hT hp;simp only[dp,ho,hp,ae,aL]at fR;split at h;rename_i cs hb;split at h;rename_i gu;split at h;rename_i d hd;have jt:∀st2,gz an X o st st2->nth st2.boxes s=nth st.boxes s:=λst2 ha=>ha.box s fR.1.1;cases hf:an.mv.contains d with
 |false=>simp only[hf,aU,bQ]at h;cases h;refine dS.put (by rw[hd]) λst2 ha=>?_;simp only[cU,ho,nI,hT,hr st2 ha,hp,jt st2 ha,hb,aF gu,hd,hf,aU,bQ,ha.ep]
 |true=>
  simp only[hf,bM]at h;have Sx:an.mb d=some s:=by have:=fR.1.2;rw[hd]at this;simp only[hf,aj,cC,bc]at this;exact this
  cases h;refine⟨⟨[(d,.val sh.agg ((cs.drop off).take sh.ct.size))],some (s,dT cs off (aQ st.ep ((cs.drop off).take sh.ct.size))),none⟩,⟨λx hx=>?_,λb gK=>?_,λ_ hh=>by cases hh⟩,?_,λst2 ha=>?_⟩;simp only[cj]at hx;subst hx;simp[writes,hd];cases gK;simp only[Cn,ho,hd,hf,ah,Sx];simp;rw[J6,hd];simp only[cU,ho,nI,hT,hr st2 ha,hp,jt st2 ha,hb,aF gu,hd,hf,bM,ha.ep,J6]
 cases h;cases h;cases h;rename_i sh fl e x i off hT hp;rw[aG (by simp[qD])]at h;split at h;rename_i hl;split at h;rename_i gu;cases h;refine dS.put rfl λst2 ha=>?_;simp only[cU,ho,nI,hT,hr st2 ha,hp,ha.ep,qD,aU,bQ,aF hl,aF gu];cases h;rename_i hl;have De:∀r t Jg,fl=.loc Jg (some (r,t))->∀st2,gz an X o st st2->st2.eJ r=st.eJ r:=by rintro r t Jg rfl st2 ha;simp only[dp,ho,hp,hE,cb,iu,gN,ae,cz]at fR;rcases fR.1.1 with hq|hq;exact absurd hq hl;cases r with|slot b j=>simp only[AS.eJ];rw[ha.er b (by simpa using hq)]|box b j=>simp only[AS.eJ];rw[ha.box b (by simpa using hq)]|io j=>cases hq
 unfold AB at h;split at h;rename_i Jg r t;split at h;rename_i t' e' ys Sy;split at h;rename_i he;split at h;rename_i hc;cases hi:idx (he▸ys:List _) i with|none=>rw[hi]at h;cases h|some y=>rw[hi]at h;simp only[aa]at h;cases h;refine dS.put rfl λst2 ha=>?_;simp only[cU,ho,nI,hT,hr st2 ha,hp,ha.ep,qD,aU,bQ,aG hl,AB,De _ _ _ rfl st2 ha,Sy,dif_pos he,aF hc,hi,aa]
 cases h;cases h;cases h;cases h;cases h
theorem Ka (ho:o.op=.nilCheck x)(h:cU E Γ an o st some=some bI):dS E Γ an X o st bI:=by have hr:∀st2,gz an X o st st2->st2.rd x=st.rd x:=λst2 ha=>ha.rd (λt ht=>by simpa[dA,ho]using ht);simp only[cU,ho]at h;split at h;rename_i s off hx;cases h;refine dS.put rfl λst2 ha=>?_;simp only[cU,ho,hr st2 ha,hx];rename_i fl e y i off hx;cases h;refine dS.put rfl λst2 ha=>?_;simp only[cU,ho,hr st2 ha,hx];cases h
theorem K0 {op:BinOp}{x y:AV}(h:(C2 op x y λc=>some (st.put o.dst (.one c)))=some bI):∃v,bI=st.put o.dst v/\∀st2:AS,(C2 op x y λc=>some (st2.put o.dst (.one c)))=some (st2.put o.dst v):=by have key:∀s:AS,(C2 op x y λc=>some (s.put o.dst (.one c)))=(C2 op x y some).bind λc=>some (s.put o.dst (.one c)):=λs=>(Cw op x y some _).symm;rw[key st]at h;cases hb:C2 op x y some with|none=>rw[hb]at h;cases h|some c=>rw[hb]at h;cases h;exact⟨_,rfl,λst2=>by rw[key st2,hb];rfl⟩
theorem Ng {op:BinOp}{b:Bool}(h:(AQ op b λc=>some (st.put o.dst (.one c)))=some bI):∃v,bI=st.put o.dst v/\∀st2:AS,(AQ op b λc=>some (st2.put o.dst (.one c)))=some (st2.put o.dst v):=by unfold AQ at h;split at h;cases h;exact⟨_,rfl,λst2=>rfl⟩;cases h;exact⟨_,rfl,λst2=>rfl⟩;cases h
theorem XZ {op:BinOp}{T':TypeId}{y:Operand}(ho:o.op=.binOp op T x y T')(h:yi E o op T x y st some=some bI):dS E Γ an X o st bI:=by
 have hr:∀st2,gz an X o st st2->st2.rd x=st.rd x/\st2.rd y=st.rd y:=λst2 ha=>
  ⟨ha.rd (λt ht=>by simp[dA,ho,ht]),ha.rd (λt ht=>by simp[dA,ho,ht])⟩
 unfold yi at h;split at h;rename_i a b hx hy;split at h;rename_i hT;obtain⟨v,rfl,hv⟩:=K0 h;refine dS.put rfl λst2 ha=>?_;simp only[cU,ho,yi,(hr st2 ha).1,(hr st2 ha).2,hx,hy,aF hT];exact hv st2;cases h;rename_i xs ys hx hy;split at h;rename_i ls hq;split at h;rename_i gu;obtain⟨v,rfl,hv⟩:=K0 h;refine dS.put rfl λst2 ha=>?_;simp only[cU,ho,yi,(hr st2 ha).1,(hr st2 ha).2,hx,hy,hq,aF gu];exact hv st2;cases h;cases h;rename_i fl e xs hx hy;split at h;rename_i hT;split at h;cases h;rename_i hlen;obtain⟨v,rfl,hv⟩:=Ng h;refine dS.put rfl λst2 ha=>?_;simp only[cU,ho,yi,(hr st2 ha).1,(hr st2 ha).2,hx,hy,ha.ep,aF hT,aG hlen];exact hv st2;cases h;rename_i hx hy;split at h;rename_i hT;obtain⟨v,rfl,hv⟩:=Ng h;refine dS.put rfl λst2 ha=>?_;simp only[cU,ho,yi,(hr st2 ha).1,(hr st2 ha).2,hx,hy,aF hT];exact hv st2;cases h;rename_i a b Gn Bg hn3 hn4;obtain⟨v,rfl,hv⟩:=K0 h;refine dS.put rfl λst2 ha=>?_;simp only[cU,ho,yi,(hr st2 ha).1,(hr st2 ha).2];exact hv st2
theorem abm {op:UnOp}(ho:o.op=.unOp op T x)(h:(unC op (st.rd x) λc=>some (st.put o.dst (.one c)))=some bI):dS E Γ an X o st bI:=by have hr:∀st2,gz an X o st st2->st2.rd x=st.rd x:=λst2 ha=>ha.rd (λt ht=>by simpa[dA,ho]using ht);have key:∀s:AS,(unC op (st.rd x) λc=>some (s.put o.dst (.one c)))=(unC op (st.rd x) some).bind λc=>some (s.put o.dst (.one c)):=λs=>(Sn op (st.rd x) some _).symm;rw[key st]at h;cases hb:unC op (st.rd x) some with|none=>rw[hb]at h;cases h|some c=>rw[hb]at h;cases h;refine dS.put rfl λst2 ha=>?_;simp only[cU,ho,hr st2 ha];rw[key st2,hb];rfl
theorem Rk {S:TypeId}{f:Nat}(ho:o.op=.fieldAddr S p f)(h:xC E o S p f st some=some bI):dS E Γ an X o st bI:=by have hr:∀st2,gz an X o st st2->st2.rd p=st.rd p:=λst2 ha=>ha.rd (λt ht=>by simpa[dA,ho]using ht);unfold xC at h;split at h;rename_i hT hp;split at h;rename_i hf;cases h;refine dS.put rfl λst2 ha=>?_;simp only[cU,ho,xC,hr st2 ha,hT,hp,hf];cases h;rename_i hT hp;split at h;rename_i hf;cases h;refine dS.put rfl λst2 ha=>?_;simp only[cU,ho,xC,hr st2 ha,hT,hp,hf];cases h;cases h
theorem xn {s:AS}(h:v.now s.ep=true):v.fresh s=v:=by
 cases v with
 |tS vs=>rfl
 |val g cs=>
  simp only[AV.now,aI]at h;simp only[AV.fresh];congr 1;have:cs.map s.fresh=cs.map id:=List.map_congr_left λc hc=>by have hn:=h c hc;unfold AS.fresh;split;simp only[AC.now]at hn;rw[hn];rfl;rfl
  rw[this,List.map_id]
theorem Qe {st st2:AS}(he:st2.ep=st.ep)(h:v.now st.ep=true\/∃g ep b j t e xs,v=.val g [.sl (.loc ep (some (.box b j,t))) e xs]/\nth st2.boxes b=nth st.boxes b):v.fresh st2=v.fresh st:=by rcases h with h|⟨g,ep,b,j,t,e,xs,rfl,hb⟩;rw[xn h,xn (by rw[he];exact h)];simp only[AV.fresh,cD,List.map_nil];congr 2;unfold AS.fresh;simp only[AS.eJ,he,hb]
theorem Il {i:Operand}(ho:o.op=.indexAddr T x i)(fR:dp E an X o st=true)(h:lx E o T x i st some=some bI):dS E Γ an X o st bI:=by
 have hr:∀st2,gz an X o st st2->st2.rd x=st.rd x/\st2.rd i=st.rd i:=λst2 ha=>
  ⟨ha.rd (λt ht=>by simp[dA,ho,ht]),ha.rd (λt ht=>by simp[dA,ho,ht])⟩
 have Aa:∀st2,gz an X o st st2->(st.rd x).fresh st2=(st.rd x).fresh st:=λst2 ha=>by refine Qe ha.ep ?_;simp only[dp,ho,cz]at fR;rcases fR with hn|hn;exact .inl hn;split at hn;rename_i g ep b j t e xs hx;exact .inr ⟨g,ep,b,j,t,e,xs,hx,ha.box b (by simpa using hn)⟩;cases hn
 unfold lx at h;split at h;rename_i e' fl e xs k n hT hx hi;split at h;rename_i hc;cases BJ:idx xs n with|none=>rw[BJ]at h;cases h|some y=>rw[BJ]at h;cases h;refine dS.put rfl λst2 ha=>?_;have hf3:=Aa st2 ha;rw[hx]at hf3;simp only[cU,ho,lx,(hr st2 ha).1,(hr st2 ha).2,hf3,hT,hi,ha.ep,aF hc,BJ,aa]
 cases h;cases h
theorem Rl {i:Operand}(ho:o.op=.index T x i)(h:yW E o T x i st some=some bI):dS E Γ an X o st bI:=by
 have hr:∀st2,gz an X o st st2->st2.rd x=st.rd x/\st2.rd i=st.rd i:=λst2 ha=>
  ⟨ha.rd (λt ht=>by simp[dA,ho,ht]),ha.rd (λt ht=>by simp[dA,ho,ht])⟩
 unfold yW at h;split at h;rename_i s k n hx hi;split at h;rename_i hc;cases BJ:idx s n with|none=>rw[BJ]at h;cases h|some y=>rw[BJ]at h;cases h;refine dS.put rfl λst2 ha=>?_;simp only[cU,ho,yW,(hr st2 ha).1,(hr st2 ha).2,hx,hi,aF hc,BJ,aa]
 cases h;cases h
theorem dS.new (h:bI=(st.fg o.dst).put o.dst v)(h2:∀st2,gz an X o st st2->cU E Γ an o st2 some=some ((st2.fg o.dst).put o.dst v)):dS E Γ an X o st bI:=⟨Eh o v,LU v,by rw[F2];exact h,λst2 ha=>by rw[F2];exact h2 st2 ha⟩
theorem gz.gS (ha:gz an X o st st2):st2.gS o.dst=st.gS o.dst:=by funext j;cases hd:o.dst with|none=>rfl|some d=>simp only[AS.gS,(ha.dst d hd).1]
theorem Fu {lo hi:ay Operand}{n:Nat}{f:AS->Int->Int->ay AS}(hs:∀st2,gz an X o st st2->lo.map st2.rd=lo.map st.rd/\hi.map st2.rd=hi.map st.rd)(h:lK st lo hi n (f st)=some bI):∃a b,f st a b=some bI/\∀st2,gz an X o st st2->lK st2 lo hi n (f st2)=f st2 a b:=by unfold lK at h;split at h;rename_i h1 h2;exact⟨_,_,h,λst2 ha=>by simp only[lK,(hs st2 ha).1,(hs st2 ha).2,h1,h2]⟩;rename_i h1 h2;exact⟨_,_,h,λst2 ha=>by simp only[lK,(hs st2 ha).1,(hs st2 ha).2,h1,h2]⟩;rename_i h1 h2;exact⟨_,_,h,λst2 ha=>by simp only[lK,(hs st2 ha).1,(hs st2 ha).2,h1,h2]⟩;rename_i h1 h2;exact⟨_,_,h,λst2 ha=>by simp only[lK,(hs st2 ha).1,(hs st2 ha).2,h1,h2]⟩;cases h
theorem Rm {lo hi:ay Operand}(ho:o.op=.slice T x lo hi none)(hm:mz an o=true)(fR:dp E an X o st=true)(h:xX E an o T x lo hi st some=some bI):dS E Γ an X o st bI:=by
 have hr:∀st2,gz an X o st st2->st2.rd x=st.rd x:=λst2 ha=>ha.rd (λt ht=>by simp[dA,ho,ht]);have hb:∀st2,gz an X o st st2->lo.map st2.rd=lo.map st.rd/\hi.map st2.rd=hi.map st.rd:=by
  intro st2 ha;constructor;cases lo with|none=>rfl|some y=>simp only[da];rw[ha.rd (λt ht=>by simp[dA,ho,tmO,ht])]
  cases hi with|none=>rfl|some y=>simp only[da];rw[ha.rd (λt ht=>by simp[dA,ho,tmO,ht])]
 have BM:(st.rd x).now st.ep=true:=by simpa[dp,ho]using fR
 have Aa:∀st2,gz an X o st st2->(st.rd x).fresh st2=st.rd x:=λst2 ha=>xn (by rw[ha.ep];exact BM);have qD:Cl an o=false:=by simpa[mz,ho]using hm
 unfold xX at h;rw[aG (by simp[qD]),xn BM]at h;split at h;rename_i s hx;split at h;rename_i hT;obtain⟨a,b,h1,h2⟩:=Fu (f:=λs0 a b=>aa (sub s a b) λs'=>some (s0.put o.dst (.one (.str s')))) hb h;cases oh:sub s a b with|none=>rw[oh]at h1;cases h1|some s'=>rw[oh]at h1;cases h1;refine dS.put rfl λst2 ha=>?_;have hf3:=Aa st2 ha;rw[hx]at hf3;simp only[cU,ho,xX,qD,aU,bQ,hr st2 ha,hx,hf3,aF hT];rw[h2 st2 ha,oh];rfl
 cases h;rename_i fl e xs hx;split at h;rename_i hT;obtain⟨a,b,h1,h2⟩:=Fu (f:=λs0 a b=>aa (sub xs a b) λLc=>some (s0.put o.dst (.one (.sl (Kk an o fl a) e Lc)))) hb h;cases oh:sub xs a b with|none=>rw[oh]at h1;cases h1|some s'=>rw[oh]at h1;cases h1;refine dS.put rfl λst2 ha=>?_;have hf3:=Aa st2 ha;rw[hx]at hf3;simp only[cU,ho,xX,qD,aU,bQ,hr st2 ha,hx,hf3,ha.ep,aF hT];rw[h2 st2 ha,oh];rfl
 cases h;cases h
theorem DG {args:aw Operand}(hl:∀t,t∈LS args->t∈dA o)(ha:gz an X o st st2):args.map st2.rd=args.map st.rd:=by apply List.map_congr_left;intro x hx;exact ha.rd (λt ht=>hl t (by simp only[LS,List.mem_flatMap];exact⟨x,hx,ht⟩))
theorem X1 (ho:o.op=.call {callee:=.builtin .len,args,argTypes:=ts})(h:J5 E o ts.toList args.toList st some=some bI):dS E Γ an X o st bI:=by have hr:∀st2,gz an X o st st2->args.toList.map st2.rd=args.toList.map st.rd:=λst2 ha=>DG (λt ht=>by simp only[dA,ho];exact ht) ha;unfold J5 at h;split at h;rename_i t s rb hx;split at h;rename_i hT;cases h;refine dS.put rfl λst2 ha=>?_;simp only[cU,ho,J5,hr st2 ha,rb,hx,aF hT];cases h;rename_i t _ _ xs rb hx;split at h;rename_i hT;cases h;refine dS.put rfl λst2 ha=>?_;simp only[cU,ho,J5,hr st2 ha,rb,hx,aF hT];cases h;cases h
theorem X3 (ho:o.op=.call {callee:=.builtin .min,args,argTypes:=ts})(h:Lz o args.toList st some=some bI):dS E Γ an X o st bI:=by have hr:∀st2,gz an X o st st2->args.toList.map st2.rd=args.toList.map st.rd:=λst2 ha=>DG (λt ht=>by simp only[dA,ho];exact ht) ha;unfold Lz at h;split at h;rename_i hx;cases h;refine dS.put rfl λst2 ha=>?_;simp only[cU,ho,Lz,hr st2 ha,hx];cases h
theorem X2 (ho:o.op=.call {callee:=.builtin .max,args,argTypes:=ts})(h:Ly o args.toList st some=some bI):dS E Γ an X o st bI:=by have hr:∀st2,gz an X o st st2->args.toList.map st2.rd=args.toList.map st.rd:=λst2 ha=>DG (λt ht=>by simp only[dA,ho];exact ht) ha;unfold Ly at h;split at h;rename_i hx;cases h;refine dS.put rfl λst2 ha=>?_;simp only[cU,ho,Ly,hr st2 ha,hx];cases h
theorem XN {l:ff}{c:AC}(h:c.abN l=true)(hl:∀t∈l,st2.get t=st.get t):st2.Lx c=st.Lx c:=by
 cases c with
 |sl fl e xs=>
  cases fl with
  |loc ep pv=>cases pv with|none=>rfl|some q=>obtain⟨r,t⟩:=q;cases r with|slot b j=>have hb:st2.get b=st.get b:=hl b (by simpa[AC.abN]using h);simp only[AS.Lx,AS.eJ,hb]|box _ _=>rfl|io _=>rfl
  |_=>rfl
 |_=>rfl
theorem Ul {l:ff}(hx:FG l st x=true)(hl:∀t∈l,st2.get t=st.get t)(h:∀t∈tm x,st2.get t=st.get t):yx st2 x=yx st x/\zC st2 x=zC st x:=by
 cases x with
 |tmp t=>have ht:=h t (by simp[tm]);simp only[FG]at hx;cases hg:st.get t with|tS vs=>exact⟨by simp only[yx,ht,hg],by simp only[zC,ht,hg]⟩|val g cs=>rw[hg]at hx;have hm:cs.map st2.Lx=cs.map st.Lx:=List.map_congr_left λc hc=>XN (aI.1 hx c hc) hl;exact⟨by simp only[yx,ht,hg,hm],by simp only[zC,ht,hg,hm]⟩
 |const v=>exact⟨rfl,rfl⟩
 |func f=>exact⟨rfl,rfl⟩
 |global g=>exact⟨rfl,rfl⟩
theorem LA (ho:o.op=.call {callee:=.value f,args,argTypes:=ts})(fR:dp E an X o st=true){k:Nat}(hf:st.rd f=.val false [.fn k])(jt:(Γ k).bx=true)(hcur:(Γ k).cur=true)(h:sE Γ o k args.toList st some=some bI):dS E Γ an X o st bI:=by
 unfold sE at h;split at h;rename_i x0 xs fL;split at h;rename_i s hx0;have je:ra an X (Zh an o) st (x0::xs)=true:=by have h1:=fR;simp only[dp,ho,ae]at h1;rw[<-fL];exact h1.1
 have hx1:∃q,x0=.tmp q/\X.contains s=false/\an.sb q=some s/\(match (nth st.boxes s).getD none with|some cs=>cs.all AC.EB|none=>true)=true/\xs.all (FG (Zh an o) st)=true:=by cases x0 with|tmp q=>simp only[ra,hx0,ZN,ae,aL,bc]at je;exact⟨q,rfl,je.1.1.1,je.1.1.2,je.1.2,je.2⟩|const v=>simp only[ra,hx0,AV.V7]at je;cases je|func v=>simp only[ra,hx0,AV.V7]at je;cases je|global v=>simp only[ra,hx0,AV.V7]at je;cases je
 obtain⟨q,rfl,hX,VS,DV,yt⟩:=hx1;split at h;rename_i cs Qp;rw[Qp]at DV;simp only at DV;cases hc:(cs.all (AC.wo (AM cs))&&xs.all (zC st))with
 |false=>rw[hc]at h;cases h
 |true=>
  rw[hc]at h;simp only[ah]at h;cases gw:(Γ k).fn (.val true (cs.map AC.Pb)::xs.map (yx st))with
  |none=>rw[gw]at h;cases h
  |some y=>
   rw[gw]at h;simp only[aa]at h;cases TH:(((Γ k).back y).all (AC.wo true)&&((Γ k).av y).X6)with
   |false=>rw[TH]at h;cases h
   |true=>
    rw[TH]at h;simp only[ah,hcur,DV,eS,aZ]at h;subst h;refine⟨⟨o.dst.toList.map λd=>(d,((Γ k).av y).AN st.ep (st.gS o.dst)),some (s,nX (AM cs) (λ_=>none) 0 ((Γ k).back y)),o.dst⟩,⟨λx hx=>?_,λb hb=>?_,λd hd=>hd⟩,?_,λst2 ha=>?_⟩;simp only[List.mem_map]at hx;obtain⟨d,hd,rfl⟩:=hx;simp[writes,hd];cases hb;simp[Cn,ho,fL,VS];unfold F6.apply AS.put AS.fg AS.eu;cases o.dst<;>rfl;have e1:st2.rd f=st.rd f:=ha.rd (λt ht=>by simp[dA,ho,ht]);have hl:∀x∈Operand.tmp q::xs,∀t∈tm x,t∈dA o:=by intro x hx t ht;simp only[dA,ho,ax,LS,List.mem_flatMap,fL];exact .inr ⟨x,hx,ht⟩
    have e2:st2.rd (.tmp q)=st.rd (.tmp q):=ha.rd (hl _ (by simp));have e3:nth st2.boxes s=nth st.boxes s:=ha.box s hX;have e4:∀x∈xs,yx st2 x=yx st x/\zC st2 x=zC st x:=λx hx=>Ul (aI.1 yt x hx) ha.er λt ht=>ha.get t (hl x (by simp[hx]) t ht);have e5:xs.map (yx st2)=xs.map (yx st):=List.map_congr_left λx hx=>(e4 x hx).1;have e6:xs.all (zC st2)=xs.all (zC st):=by rw[dC];simp only[aI];exact⟨λg x hx=>by rw[<-(e4 x hx).2];exact g x hx,λg x hx=>by rw[(e4 x hx).2];exact g x hx⟩
    simp only[cU,ho,AP,e1,hf,jt,ah,sE,fL,e2,hx0,e3,Qp,e5,e6,hc,gw,aa,TH,hcur,DV,eS,ha.ep,ha.gS];unfold F6.apply AS.put AS.fg AS.eu;cases o.dst<;>rfl
 cases h;cases h;cases h
theorem Ut (yd:∀f,(Γ f).io=false/\((Γ f).bx=true->(Γ f).cur=true)/\(Γ f).pr=false)(ho:o.op=.call {callee:=.value f,args,argTypes:=ts})(fR:dp E an X o st=true)(h:AP Γ o f args.toList st some=some bI):dS E Γ an X o st bI:=by
 have hr:∀st2,gz an X o st st2->st2.rd f=st.rd f/\(args.toList.map λx=>((st2.rd x).fresh st2).asArg st2.ep)=args.toList.map λx=>((st.rd x).fresh st).asArg st.ep:=by
  intro st2 ha;refine⟨ha.rd (λt ht=>by simp[dA,ho,ht]),?_⟩;apply List.map_congr_left;intro x hx;have BM:(st.rd x).now st.ep=true:=by simp only[dp,ho,ae,aI]at fR;exact fR.2 x hx
  rw[ha.rd (λt ht=>by simp only[dA,ho,ax,LS,List.mem_flatMap];exact .inr ⟨x,hx,ht⟩),xn BM,xn (s:=st2) (by rw[ha.ep];exact BM),ha.ep]
 unfold AP at h;split at h
 ·rename_i k hf
  cases jt:(Γ k).bx with
  |true=>rw[jt]at h;exact LA ho fR hf jt ((yd k).2.1 jt) h
  |false=>
  rw[jt,(yd k).2.2,(yd k).1]at h
  simp only[af]at h
  cases hg:(Γ k).fn (args.toList.map λx=>((st.rd x).fresh st).asArg st.ep)with
  |none=>rw[hg]at h;cases h
  |some y=>
   rw[hg]at h
   simp only[aa]at h
   cases Ls:(Γ k).sel y with
   |true=>
    rw[Ls]at h
    cases h
    refine dS.new rfl λst2 ha=>?_
    simp only[cU,ho,AP,(hr st2 ha).1,hf,(yd k).1,jt,(yd k).2.2,af]
    rw[(hr st2 ha).2,hg]
    simp only[aa,Ls,ah,ha.ep,ha.gS]
   |false=>
    rw[Ls]at h
    cases h
    refine dS.new rfl λst2 ha=>?_
    simp only[cU,ho,AP,(hr st2 ha).1,hf,(yd k).1,jt,(yd k).2.2,af]
    rw[(hr st2 ha).2,hg]
    simp only[aa,Ls,af,ha.ep,ha.gS]
 cases h
theorem LB {src dst:TypeId}(ho:o.op=.convert src dst x)(h:kR E o src dst x st some=some bI):dS E Γ an X o st bI:=by
 have hr:∀st2,gz an X o st st2->st2.rd x=st.rd x:=λst2 ha=>ha.rd (λt ht=>by simpa[dA,ho]using ht);unfold kR at h;split at h;rename_i h1 h2 h3;cases h;refine dS.put rfl λst2 ha=>?_;simp only[cU,ho,kR,hr st2 ha,h1,h2,h3];rename_i h1 h2 h3;cases h;refine dS.put rfl λst2 ha=>?_;simp only[cU,ho,kR,hr st2 ha,h1,h2,h3];rename_i jv val s Ep h1 h2 h3;split at h;rename_i hb;unfold room at h;split at h;rename_i hrm;cases h;refine dS.new (v:=.one (.sl (.own (st.gS o.dst 0)) (.int .u8) (di s))) rfl λst2 ha=>?_;have DY:∀k:AS->ay AS,kR E o src dst x st2 k=if E.bytes dst then room s.length (k (st2.om o.dst (.int .u8) (di s))) else none:=by intro k;unfold kR;rw[hr st2 ha,h1,h2,h3];obtain⟨ag,ct,of⟩:=val;cases ag with|true=>rfl|false=>cases ct with|str=>exact(Ep _ rfl).elim|_=>rfl
 simp only[cU,ho];rw[DY,aF hb,room,aF hrm,AS.om,ha.gS];cases h;cases h;rename_i val jv fl xs h1 h2 h3;split at h;rename_i hb;cases h;refine dS.put rfl λst2 ha=>?_;have DY:∀k:AS->ay AS,kR E o src dst x st2 k=if E.bytes src/\fl.live st2.ep then k (st2.put o.dst (.one (.str (aK xs)))) else none:=by intro k;unfold kR;rw[hr st2 ha,h1,h2,h3];obtain⟨ag,ct,of⟩:=val;cases ag with|true=>rfl|false=>cases ct<;>rfl
 simp only[cU,ho];rw[DY,ha.ep,aF hb];cases h;cases h
theorem Hh {d:Nat}:(⟨[(d,v)],some (d,cs),none⟩:F6).apply st=(st.eu d (some cs)).put (some d) v:=rfl
theorem Ri (ho:o.op=.alloc T)(h:zS E o T st some=some bI):dS E Γ an X o st bI:=by unfold zS at h;split at h;rename_i d sh hd hT;split at h;rename_i hb;cases h;refine⟨⟨[(d,.one (.ptr d 0))],some (d,cellsOf sh.ct (.own none) sh.ct.zero),none⟩,⟨λx hx=>?_,λb gK=>?_,λ_ hh=>by cases hh⟩,?_,λst2 ha=>?_⟩;simp only[cj]at hx;subst hx;simp[writes,hd];cases gK;simp[Cn,ho,hd];rw[Hh,hd];simp only[cU,ho,zS,hd,hT,(ha.dst d hd).2,hb,Hh];cases h;cases h
def mS (st:AS):Operand->aw (Nat×AV)
 | .tmp t=>[(t,(st.get t).aQ st.ep)]
 |_=>[]
theorem yY (l:aw AV)(a b:aw (Nat×AV)):jw l (a++b)=jw (jw l a) b:=by induction a generalizing l with|nil=>rfl|cons x a ih=>exact ih _
def AS.jE (st:AS)(l:aw (Nat×AV)):AS:={st with slots:=jw st.slots l}
theorem ph (a b:aw (Nat×AV)):st.jE (a++b)=(st.jE a).jE b:=by simp only[AS.jE,yY]
theorem zO (x:Operand):(st.take x).2=st.jE (mS st x):=by cases x<;>rfl
theorem AH (vY:st2.ep=st.ep)(h:∀t∈tm x,st2.get t=st.get t):(st2.take x).1=(st.take x).1/\(st2.take x).2=st2.jE (mS st x):=by cases x with|tmp t=>have:=h t (by simp[tm]);refine⟨this,?_⟩;rw[zO];simp only[mS,this,vY]|const v=>exact⟨rfl,rfl⟩|func f=>exact⟨rfl,rfl⟩|global g=>exact⟨rfl,rfl⟩
theorem F0:∀y∈mS st x,y.1∈tm x:=by cases x<;>simp[mS,tm]
theorem Uv (ho:o.op=.move x)(h:zG an o x st some=some bI):dS E Γ an X o st bI:=by
 unfold zG at h;cases hd:o.dst with
 |none=>rw[hd]at h;cases h
 |some d=>
  rw[hd]at h;cases hf:an.mv.contains d with
  |false=>simp only[hf,aU,bQ]at h;cases h;refine dS.put (v:=st.rd x) (by rw[hd]) λst2 ha=>?_;have hr:st2.rd x=st.rd x:=ha.rd (λt ht=>by simpa[dA,ho]using ht);simp only[cU,ho,zG,hd,hf,aU,bQ,hr]
  |true=>
   simp only[hf,bM]at h;cases h;have hr:∀st2,gz an X o st st2->(st2.take x).1=(st.take x).1/\(st2.take x).2=st2.jE (mS st x):=λst2 ha=>AH ha.ep λt ht=>ha.get t (by simpa[dA,ho]using ht);refine⟨⟨mS st x++[(d,(st.take x).1)],none,none⟩,⟨λy hy=>?_,λ_ hh=>(by cases hh),λ_ hh=>(by cases hh)⟩,?_,λst2 ha=>?_⟩;rcases ax.1 hy with hy|hy;have:=F0 y hy;have hf':d∈an.mv:=by simpa using hf
   simp[writes,Ck,ho,hd,hf',dA,this];simp only[cj]at hy;subst hy;simp[writes,hd];rw[zO];show _=st.jE _;rw[ph];rfl;simp only[cU,ho,zG,hd,hf,bM,(hr st2 ha).1,(hr st2 ha).2];show some ((st2.jE (mS st x)).put (some d) (st.take x).1)=some (st2.jE _);rw[ph];rfl
theorem P6 {ep:Nat}(h:cs.all AC.jd=true):aQ ep cs=cs:=by
 rw[aI]at h;unfold aQ;have:cs.map (AC.borrow ep none)=cs.map id:=List.map_congr_left λc hc=>by have:=h c hc;cases c<;>first|rfl|(simp[AC.jd]at this)
 rw[this,List.map_id]
theorem adE {s:AS}{vs:aw (Bool×aw AC)}(h:s.get t=.tS vs):s.put (some t) (.tS vs)=s:=by cases s with|mk slots boxes ep iss io=>simp only[AS.put,AS.mk.injEq,iv];rw[fb];apply cE;intro i;rw[bm];split;rename_i hd;subst hd;simp only[AS.get,dF]at h;split;rename_i hG;rw[al hG]at h⊢;simp only[fj]at h;rw[h];rename_i yc;rw[bu (Nat.le_of_not_lt yc)];rfl
theorem LC {i:Nat}(ho:o.op=.extract (.tmp t) i)(fR:dp E an X o st=true)(h:kS o t i st some=some bI):dS E Γ an X o st bI:=by
 have hr:∀st2,gz an X o st st2->st2.get t=st.get t:=λst2 ha=>ha.get t (by simp[dA,ho]);unfold kS at h;simp only[dp,ho]at fR;split at h
 ·rename_i vs hv;rw[hv]at fR;split at h
  ·rename_i g cs hn;simp only[hn]at fR;have hfl:cs.all AC.jd=true\/∃d,o.dst=some d/\an.mv.contains d=true:=by cases hd:o.dst with|none=>simp only[hd,Bool.or_false]at fR;exact .inl fR|some d=>simp only[hd,cz]at fR;rcases fR with h|h;exact .inl h;exact .inr ⟨d,rfl,h⟩
   rcases hfl with fR|⟨d,hd,AX⟩;rotate_left;cases h;refine⟨⟨[(t,.tS (gI vs i (g,aQ 0 cs))),(d,.val g cs)],none,none⟩,⟨λx hx=>?_,(λ_ hb=>by cases hb),(λ_ hh=>by cases hh)⟩,?_,λst2 ha=>?_⟩;simp only[cg,List.not_mem_nil,or_false]at hx;rcases hx with rfl|rfl;simp only[writes,Ck,ho,hd,AX,ah,dA];simp;simp only[writes,hd];simp;rw[hd];rfl;have h2:st2.get t=.tS vs:=by rw[hr st2 ha,hv]
   simp only[cU,ho,kS,h2,hn,hd];rfl;skip;have BN:gI vs i (g,cs)=vs:=by rw[fb];rw[dF]at hn;apply cE;intro k;rw[bm];split;rename_i hk;subst hk;obtain⟨hl,he⟩:=aE.1 hn;rw[aF hl,hn];rfl
   have key:∀s:AS,s.get t=.tS vs->(s.put (some t) (.tS (gI vs i (g,aQ 0 cs))))=s:=λs hs=>by rw[P6 fR,BN,adE hs]
   rw[key st hv]at h;cases h;refine dS.put rfl λst2 ha=>?_;have h2:st2.get t=.tS vs:=by rw[hr st2 ha,hv]
   simp only[cU,ho,kS,h2,hn];rw[key st2 h2]
  cases h
 cases h
def xi (st:AS):Operand->aw (Nat×AV)
 | .tmp t=>[(t,(st.get t).aQ st.ep)]
 |_=>[]
theorem KX (st:AS)(x:Operand):(st.take x).2=⟨jw st.slots (xi st x),st.boxes,st.ep,st.iss,st.io⟩:=by cases x<;>rfl
theorem Rn {pp:Nat}(ho:o.op=.store T (.tmp pp) x)(hd:o.dst=none)(hm:mz an o=true)(fR:dp E an X o st=true)(h:uC E T (.tmp pp) x st some=some bI):dS E Γ an X o st bI:=by
 have hr:∀st2,gz an X o st st2->st2.rd (.tmp pp)=st.rd (.tmp pp):=λst2 ha=>ha.rd (λt ht=>by simp only[dA,ho,ax];exact .inl ht);have VS:(an.sb pp).isNone=false:=by simp only[mz,ho,ae]at hm;cases hb:an.sb pp with|none=>rw[hb]at hm;cases hm.1|some _=>rfl
 simp only[dp,ho,VS,ez,cC]at fR;unfold uC at h;split at h;rename_i sh s off hT hp;rw[hp]at fR;simp only[ae,aL,bc]at fR;split at h;rename_i gg vs st1 qD;have Oh:(st.take x).1=.val gg vs:=by rw[qD]
 have BO:st1=⟨jw st.slots (xi st x),st.boxes,st.ep,st.iss,st.io⟩:=by rw[<-KX,qD]
 split at h;rename_i cs hb;split at h;rename_i hlen;split at h;rename_i gu;cases h;have jt:∀st2,gz an X o st st2->nth st2.boxes s=nth st.boxes s:=λst2 ha=>ha.box s fR.1;refine⟨⟨xi st x,some (s,dT cs off vs),none⟩,⟨λy hy=>?_,λb gK=>?_,λ_ hh=>by cases hh⟩,?_,λst2 ha=>?_⟩;cases x with|tmp t=>simp only[xi,cj]at hy;subst hy;simp only[writes,Ck,ho,ah,dA,hd];simp[tm]|_=>simp[xi]at hy
 cases gK;simp only[Cn,ho,fR.2];simp;rw[BO];rfl;have VT:(st2.take x).1=(st.take x).1/\xi st2 x=xi st x:=by cases x with|tmp t=>have hg:st2.get t=st.get t:=ha.get t (by simp[dA,ho,tm]);simp only[AS.take,xi,hg,ha.ep];simp|const v=>exact⟨rfl,rfl⟩|func f=>exact⟨rfl,rfl⟩|global g=>exact⟨rfl,rfl⟩
 have ht2:st2.take x=(.val gg vs,⟨jw st2.slots (xi st x),st2.boxes,st2.ep,st2.iss,st2.io⟩):=by rw[<-VT.2,<-KX,<-Oh,<-VT.1]
 have IB:(nth st2.boxes s).getD none=some cs:=by rw[jt st2 ha];rw[BO]at hb;exact hb
 have AW:xP an o=false:=by simp only[mz,ho,ae,aL]at hm;exact hm.2
 simp only[cU,ho,hd,AW,aU,bQ,uC,hT,hr st2 ha,hp,ht2,IB,aF hlen,aF gu];rfl;cases h;cases h;cases h;cases h;rename_i r _ _ _ _ _ _ hp;rw[hp]at fR;cases r<;>simp at fR;cases h
theorem OE (ho:o.op=.assign x)(hm:mz an o=true)(h:sD E an o x st some=some bI):dS E Γ an X o st bI:=by
 have hr:∀st2,gz an X o st st2->(st2.take x).1=(st.take x).1/\(st2.take x).2=st2.jE (mS st x):=λst2 ha=>AH ha.ep λt ht=>ha.get t (by simpa[dA,ho]using ht);have AW:xP an o=false:=by simpa[mz,ho]using hm
 unfold sD at h;split at h;rename_i st1 qD;split at h;rename_i e hT;cases h;refine dS.put rfl λst2 ha=>?_;have h2:st2.take x=(.val false [.jm],st2.jE (mS st x)):=Prod.ext (by rw[(hr st2 ha).1,qD]) (hr st2 ha).2;simp only[cU,ho,sD,AW,aU,bQ,h2,hT];cases h;rename_i v st1 Ep qD;cases h;have BO:st1=st.jE (mS st x):=by rw[<-zO,qD]
 refine⟨⟨mS st x++o.dst.toList.map λd=>(d,v),none,none⟩,⟨λy hy=>?_,λ_ hh=>(by cases hh),λ_ hh=>(by cases hh)⟩,?_,λst2 ha=>?_⟩;rcases ax.1 hy with hy|hy;have:=F0 y hy;simp[writes,Ck,ho,dA,this];obtain⟨d,hd,rfl⟩:=List.mem_map.1 hy;simp[writes,hd];rw[BO];show _=st.jE _;rw[ph];cases o.dst<;>rfl;have h2:st2.take x=(v,st2.jE (mS st x)):=Prod.ext (by rw[(hr st2 ha).1,qD]) (hr st2 ha).2;simp only[cU,ho,sD,AW,aU,bQ,h2];show some ((st2.jE (mS st x)).put o.dst v)=some (st2.jE _);rw[ph];cases o.dst<;>rfl
theorem jh {α:Type}(l:aw α)(i:Nat)(v:α)(t:Nat):nth (gI l i v) t=if i=t then(if i<l.length then some v else none) else nth l t:=by rw[dF,fb,dF,bm]
theorem Ks (l:aw AV)(a:aw (Nat×AV)):(jw l a).length=l.length:=by induction a generalizing l with|nil=>rfl|cons x a ih=>rw[jw,ih,fb,aB]
theorem UJ {l l2:aw AV}(a:aw (Nat×AV))(hl:l2.length=l.length)(t:Nat)(h:nth l2 t=nth l t):nth (jw l2 a) t=nth (jw l a) t:=by induction a generalizing l l2 with|nil=>exact h|cons x a ih=>refine ih (by rw[fb,fb,aB,aB,hl]) ?_;rw[jh,jh,hl,h]
theorem Uz (h:st2.get t=st.get t)(hl:st2.slots.length=st.slots.length):nth st2.slots t=nth st.slots t:=by unfold AS.get at h;rw[dF,dF]at h⊢;rcases bW t st.slots.length with hG|yc;rw[al hG,al (by omega)]at h⊢;simpa using h;rw[bu yc,bu (by omega)]
def jq (st:AS):aw Operand->aw (Nat×AV)
 |[]=>[]
 |x::xs=>mS st x++jq (st.jE (mS st x)) xs
theorem ya:∀(xs:aw Operand)(st:AS),∀y∈jq st xs,y.1∈LS xs
 |[],_,y,hy=>by cases hy
 |x::xs,st,y,hy=>by simp only[LS,List.flatMap_cons,ax];rcases ax.1 hy with hy|hy;exact .inl (F0 y hy);exact .inr (ya xs _ y hy)
theorem zd:∀(xs:aw Operand)(st st2:AS),st2.ep=st.ep->st2.slots.length=st.slots.length->(∀t∈LS xs,nth st2.slots t=nth st.slots t)->
 (eK st2 xs).1=(eK st xs).1/\(eK st2 xs).2=st2.jE (jq st xs)
 |[],st,st2,_,_,_=>⟨rfl,rfl⟩
 |x::xs,st,st2,vY,hl,hg=>by
  have hx:∀t∈tm x,st2.get t=st.get t:=λt ht=>by unfold AS.get;rw[hg t (by simp[LS,ht])]
  obtain⟨h1,h2⟩:=AH (st:=st) (st2:=st2) vY hx;have h3:=zO (st:=st) x;obtain⟨k1,k2⟩:=zd xs (st.jE (mS st x)) (st2.jE (mS st x)) vY (by simp only[AS.jE,Ks,hl]) (λt ht=>UJ _ hl t (hg t (by simp only[LS,List.flatMap_cons,ax];exact .inr ht)));have e1:eK st (x::xs)=((st.take x).1::(eK (st.take x).2 xs).1,(eK (st.take x).2 xs).2):=rfl;have e2:eK st2 (x::xs)=((st2.take x).1::(eK (st2.take x).2 xs).1,(eK (st2.take x).2 xs).2):=rfl;rw[e1,e2,h1,h2,h3];refine⟨by rw[k1],?_⟩;show(eK (st2.jE (mS st x)) xs).2=_;rw[k2,jq,ph]
theorem AG (xs:aw Operand):(eK st xs).2=st.jE (jq st xs):=(zd xs st st rfl rfl (λ_ _=>rfl)).2
theorem gz.eK (ha:gz an X o st st2){xs:aw Operand}(hx:∀t∈LS xs,t∈dA o):(eK st2 xs).1=(Dn.eK st xs).1/\(Dn.eK st2 xs).2=st2.jE (jq st xs):=zd xs st st2 ha.ep ha.len λt ht=>Uz (ha.get t (hx t ht)) ha.len
theorem Rj (ho:o.op=.build T parts)(h:yM E o T parts.toList st some=some bI):dS E Γ an X o st bI:=by
 have hl:∀t∈LS (parts.toList.map (·.2)),t∈dA o:=λt ht=>by simp only[dA,ho];exact ht
 unfold yM at h;split at h;rename_i ct jv hT;split at h;rename_i vs st1 qD;have BO:st1=st.jE (jq st (parts.toList.map (·.2))):=by rw[<-AG,qD]
 split at h;rename_i cs hb;cases h;refine⟨⟨jq st (parts.toList.map (·.2))++o.dst.toList.map λd=>(d,.val true cs),none,none⟩,⟨λy hy=>?_,λ_ hh=>(by cases hh),λ_ hh=>(by cases hh)⟩,?_,λst2 ha=>?_⟩;rcases ax.1 hy with hy|hy;have:=hl _ (ya _ _ y hy);simp[writes,Ck,ho,this];obtain⟨d,hd,rfl⟩:=List.mem_map.1 hy;simp[writes,hd];rw[BO];show _=st.jE _;rw[ph];cases o.dst<;>rfl;obtain⟨k1,k2⟩:=ha.eK hl;have h2:eK st2 (parts.toList.map (·.2))=(vs,st2.jE (jq st (parts.toList.map (·.2)))):=Prod.ext (by rw[k1,qD]) k2;simp only[cU,ho,yM,hT,h2,hb];show some ((st2.jE _).put o.dst _)=some (st2.jE _);rw[ph];cases o.dst<;>rfl;cases h;cases h
theorem dS.ags (ht:Ck an o=true)(hl:∀y∈tl,y.1∈dA o)(h:bI=((st.jE tl).fg o.dst).put o.dst v)(h2:∀st2,gz an X o st st2->cU E Γ an o st2 some=some (((st2.jE tl).fg o.dst).put o.dst v)):dS E Γ an X o st bI:=by
 have key:∀s:AS,(⟨tl++o.dst.toList.map λd=>(d,v),none,o.dst⟩:F6).apply s=((s.jE tl).fg o.dst).put o.dst v:=by intro s;cases o.dst with|none=>simp only[F6.apply,Option.toList,List.map_nil,bt,AS.jE,AS.fg,AS.put]|some d=>simp only[F6.apply,Option.toList,cD,List.map_nil,yY,AS.jE,AS.fg,AS.put,jw]
 refine⟨⟨tl++o.dst.toList.map λd=>(d,v),none,o.dst⟩,⟨λy hy=>?_,λ_ hh=>(by cases hh),λd hh=>hh⟩,by rw[key];exact h,λst2 ha=>by rw[key];exact h2 st2 ha⟩;rcases ax.1 hy with hy|hy;simp[writes,ht,hl y hy];obtain⟨d,hd,rfl⟩:=List.mem_map.1 hy;simp[writes,hd]
theorem xt {d:ay Nat}:(st.jE tl).gS d=st.gS d:=rfl
theorem GI {len:Nat}(ho:o.op=.buildSlice T len parts)(h:kP E o T len parts.toList st some=some bI):dS E Γ an X o st bI:=by
 have hl:∀t∈LS (parts.toList.map (·.2)),t∈dA o:=λt ht=>by simp only[dA,ho];exact ht
 unfold kP at h;split at h;rename_i e hT;split at h;rename_i hc;split at h;rename_i vs st1 qD;have BO:st1=st.jE (jq st (parts.toList.map (·.2))):=by rw[<-AG,qD]
 split at h;rename_i xs hb;cases h;refine dS.ags (tl:=jq st (parts.toList.map (·.2))) (v:=.one (.sl (.own (st.gS o.dst 0)) e xs)) (by simp[Ck,ho]) (λy hy=>hl _ (ya _ _ y hy)) ?_ λst2 ha=>?_;rw[BO,AS.om,xt];obtain⟨k1,k2⟩:=ha.eK hl;have h2:eK st2 (parts.toList.map (·.2))=(vs,st2.jE (jq st (parts.toList.map (·.2)))):=Prod.ext (by rw[k1,qD]) k2;simp only[cU,ho,kP,hT,h2,hb,aF hc];rw[AS.om,xt,ha.gS];cases h;cases h;cases h
theorem Im {n c:Operand}(ho:o.op=.makeSlice T n c)(h:ni E o T n c st some=some bI):dS E Γ an X o st bI:=by
 have hr:∀st2,gz an X o st st2->st2.rd n=st.rd n/\st2.rd c=st.rd c:=λst2 ha=>
  ⟨ha.rd (λt ht=>by simp[dA,ho,ht]),ha.rd (λt ht=>by simp[dA,ho,ht])⟩
 unfold ni at h;split at h;rename_i e len cap hT hn hc;split at h;rename_i hlc;unfold room at h;split at h;rename_i hrm;cases h;refine dS.new (v:=.one (.sl (.own (st.gS o.dst 0)) e (List.replicate len.toNat e.zero))) rfl λst2 ha=>?_;simp only[cU,ho,ni,(hr st2 ha).1,(hr st2 ha).2,hT,hn,hc,aF hlc,room,aF hrm,AS.om,ha.gS];cases h;cases h;cases h
theorem OD (ho:o.op=.call {callee:=.builtin .append,args,argTypes:=ts})(h:uG E o ts.toList args.toList st some=some bI):dS E Γ an X o st bI:=by
 have Sw:∀t∈LS args.toList,t∈dA o:=λt ht=>by simp only[dA,ho];exact ht
 unfold uG at h;split at h;rename_i t t' s x rb fL;have hl:∀u∈LS [s,x],u∈dA o:=by rw[<-fL];exact Sw
 have aen:∀st2,gz an X o st st2->(st2.take s).1=(st.take s).1/\((st2.take s).2.take x).1=((st.take s).2.take x).1/\((st2.take s).2.take x).2=st2.jE (jq st [s,x]):=by intro st2 ha;obtain⟨k1,k2⟩:=ha.eK hl;simp only[Dn.eK,List.cons.injEq,iv]at k1 k2;exact⟨k1.1,k1.2,k2⟩
 have yt:((st.take s).2.take x).2=st.jE (jq st [s,x]):=AG (st:=st) [s,x];split at h;rename_i tag e xs st1 Oh;split at h;rename_i fl e' ys agp E1;split at h;rename_i he;subst he;split at h;rename_i hc;unfold room at h;split at h;rename_i hrm;cases h;have BO:(st.take s).2=st1:=by rw[Oh]
 have Og:agp=st.jE (jq st [s,x]):=by rw[<-yt,BO,E1]
 refine dS.ags (tl:=jq st [s,x]) (v:=.one (.sl (.own (st.gS o.dst 0)) e' (xs++ys))) (by simp[Ck,ho]) (λy hy=>hl _ (ya _ _ y hy)) ?_ λst2 ha=>?_;rw[Og,AS.om,xt];obtain⟨k1,k2,k3⟩:=aen st2 ha;have e1:st2.take s=(.val false [.sl (.own tag) e' xs],(st2.take s).2):=Prod.ext (by rw[k1,Oh]) rfl;have e2:(st2.take s).2.take x=(.val false [.sl fl e' ys],st2.jE (jq st [s,x])):=Prod.ext (by rw[k2,BO,E1]) k3;simp only[cU,ho,uG,rb,fL];rw[e1];simp only;rw[e2];simp only[dite_true,ha.ep,aF hc,room,aF hrm,AS.om,xt,ha.gS];cases h;cases h;cases h;rename_i sx agp E1;split at h;rename_i he;subst he;split at h;rename_i hc;unfold room at h;split at h;rename_i hrm;cases h;have BO:(st.take s).2=st1:=by rw[Oh]
 have Og:agp=st.jE (jq st [s,x]):=by rw[<-yt,BO,E1]
 refine dS.ags (tl:=jq st [s,x]) (v:=.one (.sl (.own (st.gS o.dst 0)) (.int .u8) (xs++di sx))) (by simp[Ck,ho]) (λy hy=>hl _ (ya _ _ y hy)) ?_ λst2 ha=>?_;rw[Og,AS.om,xt];obtain⟨k1,k2,k3⟩:=aen st2 ha;have e1:st2.take s=(.val false [.sl (.own tag) (.int .u8) xs],(st2.take s).2):=Prod.ext (by rw[k1,Oh]) rfl;have e2:(st2.take s).2.take x=(.val false [.str sx],st2.jE (jq st [s,x])):=Prod.ext (by rw[k2,BO,E1]) k3;simp only[cU,ho,uG,rb,fL];rw[e1];simp only;rw[e2];simp only[dite_true,aF hc,room,aF hrm,AS.om,xt,ha.gS];cases h;cases h;cases h;cases h;cases h;cases h
theorem X0 (ho:o.op=.box T x)(h:Nt o x st some=some bI):dS E Γ an X o st bI:=by
 have hr:∀st2,gz an X o st st2->(st2.take x).1=(st.take x).1/\(st2.take x).2=st2.jE (mS st x):=λst2 ha=>AH ha.ep λt ht=>ha.get t (by simpa[dA,ho]using ht);unfold Nt at h;split at h;rename_i d g cs st1 hd qD;have BO:st1=st.jE (mS st x):=by rw[<-zO,qD]
 split at h;rename_i hb;split at h;rename_i hs;cases h;have Qp:nth st.boxes d=some none:=by rw[BO]at hb;exact hb
 have key:∀s:AS,(⟨mS st x++[(d,.one (.ptr d 0))],some (d,cs),none⟩:F6).apply s=((s.jE (mS st x)).eu d (some cs)).put (some d) (.one (.ptr d 0)):=by intro s;simp only[F6.apply,yY,AS.jE,AS.eu,AS.put,jw]
 refine⟨⟨mS st x++[(d,.one (.ptr d 0))],some (d,cs),none⟩,⟨λy hy=>?_,λb gK=>?_,λ_ hh=>(by cases hh)⟩,?_,λst2 ha=>?_⟩;rcases ax.1 hy with hy|hy;have:=F0 y hy;simp[writes,Ck,ho,dA,this];simp only[cj]at hy;subst hy;simp[writes,hd];cases gK;simp[Cn,ho,hd];rw[key,BO,hd];have h2:st2.take x=(.val g cs,st2.jE (mS st x)):=Prod.ext (by rw[(hr st2 ha).1,qD]) (hr st2 ha).2;have IB:nth (st2.jE (mS st x)).boxes d=some none:=by show nth st2.boxes d=_;rw[(ha.dst d hd).2];exact Qp
 simp only[cU,ho,Nt,hd,h2,IB,aF hs,key];cases h;cases h;cases h
theorem KR (yd:∀f,(Γ f).io=false/\((Γ f).bx=true->(Γ f).cur=true)/\(Γ f).pr=false)(hm:mz an o=true)(fR:dp E an X o st=true)(h:cU E Γ an o st some=some bI):dS E Γ an X o st bI:=by
 have h0:=h;unfold cU at h;split at h;rename_i ho;exact Uv ho h;rename_i ho;have AW:xP an o=false:=by simpa[mz,ho]using hm
 rw[aG (by simp[AW])]at h;exact OE ho hm h;rename_i ho;exact Uw ho h;rename_i ho;exact Ri ho h;rename_i ho;exact X0 ho h;rename_i ho;exact Uu ho hm fR h;rename_i T p x ho;split at h;rename_i hd;cases p with
 |tmp pp=>
  have AW:xP an o=false:=by simp only[mz,ho,ae,aL]at hm;exact hm.2
  rw[aG (by simp[AW])]at h;exact Rn ho hd hm fR h
 |const v=>simp[mz,ho]at hm
 |func f=>simp[mz,ho]at hm
 |global g=>simp[mz,ho]at hm
 cases h;rename_i ho;exact Ka ho h0;rename_i ho;exact XZ ho h;rename_i ho;exact abm ho h;rename_i ho;exact Rk ho h;rename_i ho;exact Il ho fR h;rename_i ho;exact Rl ho h;rename_i ho;exact Rj ho h;rename_i ho;exact GI ho h;rename_i ho;exact Im ho h;rename_i ho;exact Rm ho hm fR h;rename_i ho;simp[mz,ho]at hm;rename_i ho;simp[mz,ho]at hm;rename_i ho;exact LB ho h;rename_i ho;exact LC ho fR h;rename_i ho;exact X1 ho h;rename_i ho;exact X3 ho h;rename_i ho;exact X2 ho h;rename_i ho;exact OD ho h;rename_i ho;exact Ut yd ho fR h;cases h
end Go.Dn
