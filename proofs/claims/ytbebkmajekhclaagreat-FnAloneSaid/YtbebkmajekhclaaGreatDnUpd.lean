import Derived.Test.YtbebkmajekhclaaGreatDnMask
/- What an operation looks at and what it turns: for regions whose order is drawn. -/
namespace Go.Dn
structure KJ where
 slots:List (Nat×AV):=[]
 box:Option (Nat×List AC):=none
 iss:Option Nat:=none
def ky (l:aw AV):aw (Nat×AV)->aw AV
 |[]=>l
 |x::r=>ky (iG l x.1 x.2) r
def KJ.apply (u:KJ)(st:AS):AS:=
 ⟨ky st.slots u.slots,(match u.box with|some b=>iG st.boxes b.1 (some b.2)|none=>st.boxes),st.ep,(match u.iss with|some d=>iG st.iss d true|none=>st.iss),st.io⟩
structure iu (an:An) (X:List Nat) (o:Oper) (st st2:AS):Prop where
 len:st2.slots.length=st.slots.length
 get:∀t∈dY o,st2.get t=st.get t
 ep:st2.ep=st.ep
 dst:∀d,o.dst=some d->nth st2.iss d=nth st.iss d/\nth st2.boxes d=nth st.boxes d
 box:∀s,X.contains s=false->nth st2.boxes s=nth st.boxes s
 er:∀t∈erS an o,st2.get t=st.get t
structure KJ.H3 (an:An) (u:KJ) (o:Oper):Prop where
 slots:∀x∈u.slots,x.1∈writes an o
 box:∀b,u.box=some b->b.1∈GA an o
 iss:∀d,u.iss=some d->o.dst=some d
variable {E:Env} {Γ:BA} {an:An} {X:fE} {o:Oper} {st st2 bU:AS}
variable {v:AV} {parts:Array (Nat×Operand)} {args:Array Operand} {ts:Array TypeId} {t:Nat} {f p x:Operand} {T:TypeId} {tl:aw (Nat×AV)} {cs:aw AC}
theorem ajz (Ac:st2.ep=st.ep)(h:∀t∈tm x,st2.get t=st.get t):st2.rd x=st.rd x:=by cases x with|tmp t=>simp only[AS.rd,Ac,h t (by simp[tm])]|const v=>rfl|func f=>rfl|global g=>rfl
def eO (E:Env)(Γ:BA)(an:An)(X:fE)(o:Oper)(st bU:AS):Prop:=
 ∃u:KJ,u.H3 an o/\bU=u.apply st/\∀st2,iu an X o st st2->cW E Γ an o st2 some=some (u.apply st2)
def EU (o:Oper)(v:AV):KJ:={slots:=o.dst.toList.map λd=>(d,v)}
theorem tD (v:AV):(EU o v).apply st=st.put o.dst v:=by unfold EU KJ.apply AS.put;cases o.dst<;>rfl
theorem Du (v:AV):(EU o v).H3 an o:=by refine⟨λx hx=>?_,λb hb=>by simp[EU]at hb,λd hd=>by simp[EU]at hd⟩;simp only[EU,eF]at hx;obtain⟨d,hd,rfl⟩:=hx;simp[writes,hd]
def IL (o:Oper)(v:AV):KJ:={slots:=o.dst.toList.map λd=>(d,v),iss:=o.dst}
theorem KE (v:AV):(IL o v).apply st=(st.fX o.dst).put o.dst v:=by unfold IL KJ.apply AS.put AS.fX;cases o.dst<;>rfl
theorem Rx (v:AV):(IL o v).H3 an o:=by refine⟨λx hx=>?_,λb hb=>by simp[IL]at hb,λd hd=>by simpa[IL]using hd⟩;simp only[IL,eF]at hx;obtain⟨d,hd,rfl⟩:=hx;simp[writes,hd]
theorem eO.put (h:bU=st.put o.dst v)(h2:∀st2,iu an X o st st2->cW E Γ an o st2 some=some (st2.put o.dst v)):eO E Γ an X o st bU:=⟨EU o v,Du v,by rw[tD];exact h,λst2 ha=>by rw[tD];exact h2 st2 ha⟩
theorem iu.rd (ha:iu an X o st st2)(hx:∀t∈tm x,t∈dY o):st2.rd x=st.rd x:=ajz ha.ep λt ht=>ha.get t (hx t ht)
theorem abZ {c y:Operand}(ho:o.op=.pick c x y)(h:Ga o c x y st some=some bU):eO E Γ an X o st bU:=by
 have hr:∀st2,iu an X o st st2->st2.rd c=st.rd c/\st2.rd x=st.rd x/\st2.rd y=st.rd y:=λst2 ha=>
  ⟨ha.rd (λt ht=>by simp[dY,ho,ht]),ha.rd (λt ht=>by simp[dY,ho,ht]),ha.rd (λt ht=>by simp[dY,ho,ht])⟩
 unfold Ga at h;split at h;rename_i t hc;split at h;rename_i a b hx hy;cases h;refine eO.put rfl λst2 ha=>?_;obtain⟨h1,h2,h3⟩:=hr st2 ha;simp only[cW,ho,Ga,h1,h2,h3,hc,hx,hy];rename_i va vb GY;have hgo:∀st2,iu an X o st st2->cW E Γ an o st2 some=cond t (some (st2.put o.dst (st.rd x))) (some (st2.put o.dst (st.rd y))):=by intro st2 ha;obtain⟨h1,h2,h3⟩:=hr st2 ha;simp only[cW,ho,Ga,h1,h2,h3,hc]
 cases t with|true=>cases h;exact eO.put rfl λst2 ha=>hgo st2 ha|false=>cases h;exact eO.put rfl λst2 ha=>hgo st2 ha
 cases h
theorem Pw {d s:Nat}:(⟨[(d,v)],some (s,cs),none⟩:KJ).apply st=(st.fj s (some cs)).put (some d) v:=rfl
theorem Tj {o:Oper}(h:Gv an o=true):∃T q d,o.op=.load T (.tmp q)/\o.dst=some d/\o.guard=none/\an.mv.contains d=true/\an.mb d=none:=by unfold Gv at h;split at h;rename_i T q d ho hd hg;simp only[ae,Option.isNone_iff_eq_none]at h;exact⟨T,q,d,ho,hd,hg,h.1.1,h.1.2⟩;cases h
def KB (st:AS)(b j t:Nat)(e:CT)(i:Int)(cs:aw AC)(ys:aw e.D):AS:=st.fj b (some (iG cs j (.sl (.fR (some t) i (some st.ep)) e ys)))
theorem Qu {q d:Nat}(ht:Gv an o=true)(ho:o.op=.load T (.tmp q))(hd:o.dst=some d)(E9:an.mv.contains d=true)(IW:an.mb d=none):(dP E an X o st=true/\qj E an o T (.tmp q) st some=some bU)↔ ∃(g:Bool)(e:CT)(kx:aw (Nat×Nat))(b j t Ox:Nat)(x:e.D)(i:Int)(cs:aw AC)(ys:aw e.D)(y:e.D),jD E.ty T=some ⟨g,e,kx⟩/\st.rd (.tmp q)=.val false [.Dc (.loc Ox (some (.box b j,t))) e x i 0]/\(nth st.boxes b).getD none=some cs/\nth cs j=some (.sl (.own (some t)) e ys)/\idx ys i=some y/\ X.contains b=false/\an.eb q=some b/\ZD an o=false/\bU=(KB st b j t e i cs ys).put (some d) (.val g (cellsOf e (.own none) y)):=by
 have ue:Gy an o=true:=by unfold Gy;rw[hd];simp only[E9,IW];rfl
 have Mm:Dt an o=false:=by unfold Dt;split;rename_i hd' _;rw[hd]at hd';cases hd';rw[IW];simp;rfl
 have hnp:CS an o=false:=by unfold CS;split;rename_i hd' _;rw[hd]at hd';cases hd';rw[E9];rfl;rfl
 constructor;rintro⟨hf,h⟩;unfold qj at h;split at h;rename_i hp;simp only[dP,ho,hp,hd,E9,IW]at hf;simp at hf;rename_i sh fl e x i off hT hp;rw[aH ue]at h;simp only[dP,ho,hp,ht,Mm,hnp,Bool.or_false,bw,aj,cA,dy,ae,aK]at hf;obtain⟨⟨IV,NI⟩,hb⟩:=hf;unfold zU at h;split at h;rename_i Ox r t;cases r with
 |slot _ _=>cases hb
 |io _=>cases hb
 |box b j=>
  simp only[ae,aZ,aK]at hb;split at h;rename_i t' e' ys ZF;split at h;rename_i he;subst he;split at h;rename_i hc;obtain⟨rfl,rfl,Mk⟩:=hc;obtain⟨g,ct,kx⟩:=sh;simp only at Mk;subst Mk;cases hi:idx ys i with|none=>simp only[hi,aa]at h;cases h|some y=>simp only[hi,aa]at h;cases h;simp only[AS.fH]at ZF;obtain⟨cs,K2,hj⟩:=aS.1 ZF;refine⟨g,_,kx,b,j,_,Ox,x,i,cs,ys,y,hT,hp,K2,hj,hi,hb.2,hb.1,NI,?_⟩;simp only[AS.fM,K2,hd];rfl
  cases h;cases h;cases h
 cases h;cases h;rintro⟨g,e,kx,b,j,t,Ox,x,i,cs,ys,y,hT,hp,K2,hj,hi,hX,Uu,NI,rfl⟩;constructor;simp only[dP,ho,hp,ht,Mm,hnp,NI,hX,Uu];simp;simp only[qj,hT,hp,ue,cg,zU,AS.fH,K2,eZ,hj,dite_true,and_self,hi,aa,AS.fM,hd];rfl
theorem Yg (ht:Gv an o=true)(ho:o.op=.load T p)(gN:dP E an X o st=true)(h:qj E an o T p st some=some bU):eO E Γ an X o st bU:=by obtain⟨T',q,d,Ni,hd,hg,E9,IW⟩:=Tj ht;rw[ho]at Ni;cases Ni;obtain⟨g,e,kx,b,j,t,Ox,x,i,cs,ys,y,hT,hp,K2,hj,hi,hX,Uu,NI,rfl⟩:=(Qu ht ho hd E9 IW).1 ⟨gN,h⟩;refine⟨⟨[(d,.val g (cellsOf e (.own none) y))],some (b,iG cs j (.sl (.fR (some t) i (some st.ep)) e ys)),none⟩,⟨λx hx=>?_,λb' ix=>?_,λ_ hh=>by cases hh⟩,rfl,λst2 ha=>?_⟩;simp only[bF]at hx;subst hx;simp[writes,hd];cases ix;simp only[GA,ho,hd,E9,ah,ht,Uu];simp;have h2:=((Qu (E:=E) (X:=X) (st:=st2) ht ho hd E9 IW).2 ⟨g,e,kx,b,j,t,Ox,x,i,cs,ys,y,hT,by rw[ha.rd (λt ht=>by simpa[dY,ho]using ht)];exact hp,by rw[ha.box b hX];exact K2,hj,hi,hX,Uu,NI,rfl⟩).2;simp only[cW,ho];rw[h2];simp only[KB,ha.ep];rfl
theorem abX (ho:o.op=.load T p)(hm:oC an o=true)(gN:dP E an X o st=true)(h:qj E an o T p st some=some bU):eO E Γ an X o st bU:=by
 cases hE:Gv an o with|true=>exact Yg hE ho gN h|false=> ?_
 have hr:∀st2,iu an X o st st2->st2.rd p=st.rd p:=λst2 ha=>ha.rd (λt ht=>by simpa[dY,ho]using ht);have ue:Gy an o=false:=by simp only[oC,ho,hE,Bool.or_false]at hm;unfold Gy;cases Ut:o.dst with|none=>rfl|some d=>rw[Ut]at hm;simp only[cQ,aK]at hm;rcases hm with hm|hm;simp only[hm,dQ];cases IW:an.mb d with|none=>rw[IW]at hm;cases hm|some _=>simp[IW]
 unfold qj at h;split at h;rename_i sh s off hT hp;simp only[dP,ho,hp,ae,aK]at gN;split at h;rename_i cs hb;split at h;rename_i ib;split at h;rename_i d hd;have kq:∀st2,iu an X o st st2->nth st2.boxes s=nth st.boxes s:=λst2 ha=>ha.box s gN.1.1;cases hf:an.mv.contains d with
 |false=>simp only[hf,bm,cv]at h;cases h;refine eO.put (by rw[hd]) λst2 ha=>?_;simp only[cW,ho,qj,hT,hr st2 ha,hp,kq st2 ha,hb,aH ib,hd,hf,bm,cv,ha.ep]
 |true=>
  simp only[hf,cg]at h;have IW:an.mb d=some s:=by have:=gN.1.2;rw[hd]at this;simp only[hf,aj,cA,aZ]at this;exact this
  cases h;refine⟨⟨[(d,.val sh.agg ((cs.drop off).take sh.ct.size))],some (s,eP cs off (bg st.ep ((cs.drop off).take sh.ct.size))),none⟩,⟨λx hx=>?_,λb ix=>?_,λ_ hh=>by cases hh⟩,?_,λst2 ha=>?_⟩;simp only[bF]at hx;subst hx;simp[writes,hd];cases ix;simp only[GA,ho,hd,hf,ah,IW];simp;rw[Pw,hd];simp only[cW,ho,qj,hT,hr st2 ha,hp,kq st2 ha,hb,aH ib,hd,hf,cg,ha.ep,Pw]
 cases h;cases h;cases h;rename_i sh fl e x i off hT hp;rw[aG (by simp[ue])]at h;split at h;rename_i hl;split at h;rename_i ib;cases h;refine eO.put rfl λst2 ha=>?_;simp only[cW,ho,qj,hT,hr st2 ha,hp,ha.ep,ue,bm,cv,aH hl,aH ib];cases h;rename_i hl;have HA:∀r t Ox,fl=.loc Ox (some (r,t))->∀st2,iu an X o st st2->st2.fH r=st.fH r:=by rintro r t Ox rfl st2 ha;simp only[dP,ho,hp,hE,bw,iB,dy,ae,cQ]at gN;rcases gN.1.1 with hq|hq;exact absurd hq hl;cases r with|slot b j=>simp only[AS.fH];rw[ha.er b (by simpa using hq)]|box b j=>simp only[AS.fH];rw[ha.box b (by simpa using hq)]|io j=>cases hq
 unfold EJ at h;split at h;rename_i Ox r t;split at h;rename_i t' e' ys ZF;split at h;rename_i he;split at h;rename_i hc;cases hi:idx (he▸ys:List _) i with|none=>rw[hi]at h;cases h|some y=>rw[hi]at h;simp only[aa]at h;cases h;refine eO.put rfl λst2 ha=>?_;simp only[cW,ho,qj,hT,hr st2 ha,hp,ha.ep,ue,bm,cv,aG hl,EJ,HA _ _ _ rfl st2 ha,ZF,dif_pos he,aH hc,hi,aa]
 cases h;cases h;cases h;cases h;cases h
theorem Pz (ho:o.op=.nilCheck x)(h:cW E Γ an o st some=some bU):eO E Γ an X o st bU:=by have hr:∀st2,iu an X o st st2->st2.rd x=st.rd x:=λst2 ha=>ha.rd (λt ht=>by simpa[dY,ho]using ht);simp only[cW,ho]at h;split at h;rename_i s off hx;cases h;refine eO.put rfl λst2 ha=>?_;simp only[cW,ho,hr st2 ha,hx];rename_i fl e y i off hx;cases h;refine eO.put rfl λst2 ha=>?_;simp only[cW,ho,hr st2 ha,hx];cases h
theorem QA {op:BinOp}{x y:AV}(h:(Hm op x y λc=>some (st.put o.dst (.one c)))=some bU):∃v,bU=st.put o.dst v/\∀st2:AS,(Hm op x y λc=>some (st2.put o.dst (.one c)))=some (st2.put o.dst v):=by have key:∀s:AS,(Hm op x y λc=>some (s.put o.dst (.one c)))=(Hm op x y some).bind λc=>some (s.put o.dst (.one c)):=λs=>(GJ op x y some _).symm;rw[key st]at h;cases hb:Hm op x y some with|none=>rw[hb]at h;cases h|some c=>rw[hb]at h;cases h;exact⟨_,rfl,λst2=>by rw[key st2,hb];rfl⟩
theorem To {op:BinOp}{b:Bool}(h:(E5 op b λc=>some (st.put o.dst (.one c)))=some bU):∃v,bU=st.put o.dst v/\∀st2:AS,(E5 op b λc=>some (st2.put o.dst (.one c)))=some (st2.put o.dst v):=by unfold E5 at h;split at h;cases h;exact⟨_,rfl,λst2=>rfl⟩;cases h;exact⟨_,rfl,λst2=>rfl⟩;cases h
theorem afO {op:BinOp}{T':TypeId}{y:Operand}(ho:o.op=.binOp op T x y T')(h:Cz E o op T x y st some=some bU):eO E Γ an X o st bU:=by
 have hr:∀st2,iu an X o st st2->st2.rd x=st.rd x/\st2.rd y=st.rd y:=λst2 ha=>
  ⟨ha.rd (λt ht=>by simp[dY,ho,ht]),ha.rd (λt ht=>by simp[dY,ho,ht])⟩
 unfold Cz at h;split at h;rename_i a b hx hy;split at h;rename_i hT;obtain⟨v,rfl,hv⟩:=QA h;refine eO.put rfl λst2 ha=>?_;simp only[cW,ho,Cz,(hr st2 ha).1,(hr st2 ha).2,hx,hy,aH hT];exact hv st2;cases h;rename_i xs ys hx hy;split at h;rename_i ls hq;split at h;rename_i ib;obtain⟨v,rfl,hv⟩:=QA h;refine eO.put rfl λst2 ha=>?_;simp only[cW,ho,Cz,(hr st2 ha).1,(hr st2 ha).2,hx,hy,hq,aH ib];exact hv st2;cases h;cases h;rename_i fl e xs hx hy;split at h;rename_i hT;split at h;cases h;rename_i hlen;obtain⟨v,rfl,hv⟩:=To h;refine eO.put rfl λst2 ha=>?_;simp only[cW,ho,Cz,(hr st2 ha).1,(hr st2 ha).2,hx,hy,ha.ep,aH hT,aG hlen];exact hv st2;cases h;rename_i hx hy;split at h;rename_i hT;obtain⟨v,rfl,hv⟩:=To h;refine eO.put rfl λst2 ha=>?_;simp only[cW,ho,Cz,(hr st2 ha).1,(hr st2 ha).2,hx,hy,aH hT];exact hv st2;cases h;rename_i a b IX Dh hn3 hn4;obtain⟨v,rfl,hv⟩:=QA h;refine eO.put rfl λst2 ha=>?_;simp only[cW,ho,Cz,(hr st2 ha).1,(hr st2 ha).2];exact hv st2
theorem ajh {op:UnOp}(ho:o.op=.unOp op T x)(h:(unC op (st.rd x) λc=>some (st.put o.dst (.one c)))=some bU):eO E Γ an X o st bU:=by have hr:∀st2,iu an X o st st2->st2.rd x=st.rd x:=λst2 ha=>ha.rd (λt ht=>by simpa[dY,ho]using ht);have key:∀s:AS,(unC op (st.rd x) λc=>some (s.put o.dst (.one c)))=(unC op (st.rd x) some).bind λc=>some (s.put o.dst (.one c)):=λs=>(Zt op (st.rd x) some _).symm;rw[key st]at h;cases hb:unC op (st.rd x) some with|none=>rw[hb]at h;cases h|some c=>rw[hb]at h;cases h;refine eO.put rfl λst2 ha=>?_;simp only[cW,ho,hr st2 ha];rw[key st2,hb];rfl
theorem Yc {S:TypeId}{f:Nat}(ho:o.op=.fieldAddr S p f)(h:BJ E o S p f st some=some bU):eO E Γ an X o st bU:=by have hr:∀st2,iu an X o st st2->st2.rd p=st.rd p:=λst2 ha=>ha.rd (λt ht=>by simpa[dY,ho]using ht);unfold BJ at h;split at h;rename_i hT hp;split at h;rename_i hf;cases h;refine eO.put rfl λst2 ha=>?_;simp only[cW,ho,BJ,hr st2 ha,hT,hp,hf];cases h;rename_i hT hp;split at h;rename_i hf;cases h;refine eO.put rfl λst2 ha=>?_;simp only[cW,ho,BJ,hr st2 ha,hT,hp,hf];cases h;cases h
theorem Bp {s:AS}(h:v.now s.ep=true):v.fresh s=v:=by
 cases v with
 |xC vs=>rfl
 |val g cs=>
  simp only[AV.now,aD]at h;simp only[AV.fresh];congr 1;have:cs.map s.fresh=cs.map id:=List.map_congr_left λc hc=>by have hn:=h c hc;unfold AS.fresh;split;simp only[AC.now]at hn;rw[hn];rfl;rfl
  rw[this,List.map_id]
theorem WQ {st st2:AS}(he:st2.ep=st.ep)(h:v.now st.ep=true\/∃g ep b j t e xs,v=.val g [.sl (.loc ep (some (.box b j,t))) e xs]/\nth st2.boxes b=nth st.boxes b):v.fresh st2=v.fresh st:=by rcases h with h|⟨g,ep,b,j,t,e,xs,rfl,hb⟩;rw[Bp h,Bp (by rw[he];exact h)];simp only[AV.fresh,da,List.map_nil];congr 2;unfold AS.fresh;simp only[AS.fH,he,hb]
theorem Np {i:Operand}(ho:o.op=.indexAddr T x i)(gN:dP E an X o st=true)(h:np E o T x i st some=some bU):eO E Γ an X o st bU:=by
 have hr:∀st2,iu an X o st st2->st2.rd x=st.rd x/\st2.rd i=st.rd i:=λst2 ha=>
  ⟨ha.rd (λt ht=>by simp[dY,ho,ht]),ha.rd (λt ht=>by simp[dY,ho,ht])⟩
 have Ax:∀st2,iu an X o st st2->(st.rd x).fresh st2=(st.rd x).fresh st:=λst2 ha=>by refine WQ ha.ep ?_;simp only[dP,ho,cQ]at gN;rcases gN with hn|hn;exact .inl hn;split at hn;rename_i g ep b j t e xs hx;exact .inr ⟨g,ep,b,j,t,e,xs,hx,ha.box b (by simpa using hn)⟩;cases hn
 unfold np at h;split at h;rename_i e' fl e xs k n hT hx hi;split at h;rename_i hc;cases FR:idx xs n with|none=>rw[FR]at h;cases h|some y=>rw[FR]at h;cases h;refine eO.put rfl λst2 ha=>?_;have hf3:=Ax st2 ha;rw[hx]at hf3;simp only[cW,ho,np,(hr st2 ha).1,(hr st2 ha).2,hf3,hT,hi,ha.ep,aH hc,FR,aa]
 cases h;cases h
theorem Yd {i:Operand}(ho:o.op=.index T x i)(h:Dk E o T x i st some=some bU):eO E Γ an X o st bU:=by
 have hr:∀st2,iu an X o st st2->st2.rd x=st.rd x/\st2.rd i=st.rd i:=λst2 ha=>
  ⟨ha.rd (λt ht=>by simp[dY,ho,ht]),ha.rd (λt ht=>by simp[dY,ho,ht])⟩
 unfold Dk at h;split at h;rename_i s k n hx hi;split at h;rename_i hc;cases FR:idx s n with|none=>rw[FR]at h;cases h|some y=>rw[FR]at h;cases h;refine eO.put rfl λst2 ha=>?_;simp only[cW,ho,Dk,(hr st2 ha).1,(hr st2 ha).2,hx,hi,aH hc,FR,aa]
 cases h;cases h
theorem eO.new (h:bU=(st.fX o.dst).put o.dst v)(h2:∀st2,iu an X o st st2->cW E Γ an o st2 some=some ((st2.fX o.dst).put o.dst v)):eO E Γ an X o st bU:=⟨IL o v,Rx v,by rw[KE];exact h,λst2 ha=>by rw[KE];exact h2 st2 ha⟩
theorem iu.iL (ha:iu an X o st st2):st2.iL o.dst=st.iL o.dst:=by funext j;cases hd:o.dst with|none=>rfl|some d=>simp only[AS.iL,(ha.dst d hd).1]
theorem J3 {lo hi:ay Operand}{n:Nat}{f:AS->Int->Int->ay AS}(hs:∀st2,iu an X o st st2->lo.map st2.rd=lo.map st.rd/\hi.map st2.rd=hi.map st.rd)(h:nE st lo hi n (f st)=some bU):∃a b,f st a b=some bU/\∀st2,iu an X o st st2->nE st2 lo hi n (f st2)=f st2 a b:=by unfold nE at h;split at h;rename_i h1 h2;exact⟨_,_,h,λst2 ha=>by simp only[nE,(hs st2 ha).1,(hs st2 ha).2,h1,h2]⟩;rename_i h1 h2;exact⟨_,_,h,λst2 ha=>by simp only[nE,(hs st2 ha).1,(hs st2 ha).2,h1,h2]⟩;rename_i h1 h2;exact⟨_,_,h,λst2 ha=>by simp only[nE,(hs st2 ha).1,(hs st2 ha).2,h1,h2]⟩;rename_i h1 h2;exact⟨_,_,h,λst2 ha=>by simp only[nE,(hs st2 ha).1,(hs st2 ha).2,h1,h2]⟩;cases h
theorem Ye {lo hi:ay Operand}(ho:o.op=.slice T x lo hi none)(hm:oC an o=true)(gN:dP E an X o st=true)(h:Ce E an o T x lo hi st some=some bU):eO E Γ an X o st bU:=by
 have hr:∀st2,iu an X o st st2->st2.rd x=st.rd x:=λst2 ha=>ha.rd (λt ht=>by simp[dY,ho,ht]);have hb:∀st2,iu an X o st st2->lo.map st2.rd=lo.map st.rd/\hi.map st2.rd=hi.map st.rd:=by
  intro st2 ha;constructor;cases lo with|none=>rfl|some y=>simp only[dE];rw[ha.rd (λt ht=>by simp[dY,ho,tmO,ht])]
  cases hi with|none=>rfl|some y=>simp only[dE];rw[ha.rd (λt ht=>by simp[dY,ho,tmO,ht])]
 have FW:(st.rd x).now st.ep=true:=by simpa[dP,ho]using gN
 have Ax:∀st2,iu an X o st st2->(st.rd x).fresh st2=st.rd x:=λst2 ha=>Bp (by rw[ha.ep];exact FW);have ue:Gy an o=false:=by simpa[oC,ho]using hm
 unfold Ce at h;rw[aG (by simp[ue]),Bp FW]at h;split at h;rename_i s hx;split at h;rename_i hT;obtain⟨a,b,h1,h2⟩:=J3 (f:=λs0 a b=>aa (sub s a b) λs'=>some (s0.put o.dst (.one (.str s')))) hb h;cases qO:sub s a b with|none=>rw[qO]at h1;cases h1|some s'=>rw[qO]at h1;cases h1;refine eO.put rfl λst2 ha=>?_;have hf3:=Ax st2 ha;rw[hx]at hf3;simp only[cW,ho,Ce,ue,bm,cv,hr st2 ha,hx,hf3,aH hT];rw[h2 st2 ha,qO];rfl
 cases h;rename_i fl e xs hx;split at h;rename_i hT;obtain⟨a,b,h1,h2⟩:=J3 (f:=λs0 a b=>aa (sub xs a b) λQM=>some (s0.put o.dst (.one (.sl (PJ an o fl a) e QM)))) hb h;cases qO:sub xs a b with|none=>rw[qO]at h1;cases h1|some s'=>rw[qO]at h1;cases h1;refine eO.put rfl λst2 ha=>?_;have hf3:=Ax st2 ha;rw[hx]at hf3;simp only[cW,ho,Ce,ue,bm,cv,hr st2 ha,hx,hf3,ha.ep,aH hT];rw[h2 st2 ha,qO];rfl
 cases h;cases h
theorem H5 {args:aw Operand}(hl:∀t,t∈Rv args->t∈dY o)(ha:iu an X o st st2):args.map st2.rd=args.map st.rd:=by apply List.map_congr_left;intro x hx;exact ha.rd (λt ht=>hl t (by simp only[Rv,List.mem_flatMap];exact⟨x,hx,ht⟩))
theorem afQ (ho:o.op=.call {callee:=.builtin .len,args,argTypes:=ts})(h:Pt E o ts.toList args.toList st some=some bU):eO E Γ an X o st bU:=by have hr:∀st2,iu an X o st st2->args.toList.map st2.rd=args.toList.map st.rd:=λst2 ha=>H5 (λt ht=>by simp only[dY,ho];exact ht) ha;unfold Pt at h;split at h;rename_i t s uM hx;split at h;rename_i hT;cases h;refine eO.put rfl λst2 ha=>?_;simp only[cW,ho,Pt,hr st2 ha,uM,hx,aH hT];cases h;rename_i t _ _ xs uM hx;split at h;rename_i hT;cases h;refine eO.put rfl λst2 ha=>?_;simp only[cW,ho,Pt,hr st2 ha,uM,hx,aH hT];cases h;cases h
theorem afS (ho:o.op=.call {callee:=.builtin .min,args,argTypes:=ts})(h:Ra o args.toList st some=some bU):eO E Γ an X o st bU:=by have hr:∀st2,iu an X o st st2->args.toList.map st2.rd=args.toList.map st.rd:=λst2 ha=>H5 (λt ht=>by simp only[dY,ho];exact ht) ha;unfold Ra at h;split at h;rename_i hx;cases h;refine eO.put rfl λst2 ha=>?_;simp only[cW,ho,Ra,hr st2 ha,hx];cases h
theorem afR (ho:o.op=.call {callee:=.builtin .max,args,argTypes:=ts})(h:Q9 o args.toList st some=some bU):eO E Γ an X o st bU:=by have hr:∀st2,iu an X o st st2->args.toList.map st2.rd=args.toList.map st.rd:=λst2 ha=>H5 (λt ht=>by simp only[dY,ho];exact ht) ha;unfold Q9 at h;split at h;rename_i hx;cases h;refine eO.put rfl λst2 ha=>?_;simp only[cW,ho,Q9,hr st2 ha,hx];cases h
theorem afD {l:fE}{c:AC}(h:c.ajK l=true)(hl:∀t∈l,st2.get t=st.get t):st2.Q8 c=st.Q8 c:=by
 cases c with
 |sl fl e xs=>
  cases fl with
  |loc ep pv=>cases pv with|none=>rfl|some q=>obtain⟨r,t⟩:=q;cases r with|slot b j=>have hb:st2.get b=st.get b:=hl b (by simpa[AC.ajK]using h);simp only[AS.Q8,AS.fH,hb]|box _ _=>rfl|io _=>rfl
  |_=>rfl
 |_=>rfl
theorem abO {l:fE}(hx:Ki l st x=true)(hl:∀t∈l,st2.get t=st.get t)(h:∀t∈tm x,st2.get t=st.get t):CQ st2 x=CQ st x/\DS st2 x=DS st x:=by
 cases x with
 |tmp t=>have ht:=h t (by simp[tm]);simp only[Ki]at hx;cases hg:st.get t with|xC vs=>exact⟨by simp only[CQ,ht,hg],by simp only[DS,ht,hg]⟩|val g cs=>rw[hg]at hx;have hm:cs.map st2.Q8=cs.map st.Q8:=List.map_congr_left λc hc=>afD (aD.1 hx c hc) hl;exact⟨by simp only[CQ,ht,hg,hm],by simp only[DS,ht,hg,hm]⟩
 |const v=>exact⟨rfl,rfl⟩
 |func f=>exact⟨rfl,rfl⟩
 |global g=>exact⟨rfl,rfl⟩
theorem Rb (ho:o.op=.call {callee:=.value f,args,argTypes:=ts})(gN:dP E an X o st=true){k:Nat}(hf:st.rd f=.val false [.fn k])(kq:(Γ k).bx=true)(hcur:(Γ k).cur=true)(h:wc Γ o k args.toList st some=some bU):eO E Γ an X o st bU:=by
 unfold wc at h;split at h;rename_i x0 xs gE;split at h;rename_i s hx0;have jH:uK an X (erS an o) st (x0::xs)=true:=by have h1:=gN;simp only[dP,ho,ae]at h1;rw[<-gE];exact h1.1
 have hx1:∃q,x0=.tmp q/\X.contains s=false/\an.sb q=some s/\(match (nth st.boxes s).getD none with|some cs=>cs.all AC.I5|none=>true)=true/\xs.all (Ki (erS an o) st)=true:=by cases x0 with|tmp q=>simp only[uK,hx0,ahu,ae,aK,aZ]at jH;exact⟨q,rfl,jH.1.1.1,jH.1.1.2,jH.1.2,jH.2⟩|const v=>simp only[uK,hx0,AV.adK]at jH;cases jH|func v=>simp only[uK,hx0,AV.adK]at jH;cases jH|global v=>simp only[uK,hx0,AV.adK]at jH;cases jH
 obtain⟨q,rfl,hX,hsb,Ij,CM⟩:=hx1;split at h;rename_i cs Us;rw[Us]at Ij;simp only at Ij;cases hc:(cs.all (AC.Ak (E1 cs))&&xs.all (DS st))with
 |false=>rw[hc]at h;cases h
 |true=>
  rw[hc]at h;simp only[ah]at h;cases il:(Γ k).fn (.val true (cs.map AC.Vz)::xs.map (CQ st))with
  |none=>rw[il]at h;cases h
  |some y=>
   rw[il]at h;simp only[aa]at h;cases hc2:(((Γ k).back y).all (AC.Ak true)&&((Γ k).av y).afV)with
   |false=>rw[hc2]at h;cases h
   |true=>
    rw[hc2]at h;simp only[ah,hcur,Ij,cG,bp]at h;subst h;refine⟨⟨o.dst.toList.map λd=>(d,((Γ k).av y).E2 st.ep (st.iL o.dst)),some (s,qD (E1 cs) (λ_=>none) 0 ((Γ k).back y)),o.dst⟩,⟨λx hx=>?_,λb hb=>?_,λd hd=>hd⟩,?_,λst2 ha=>?_⟩;simp only[eF]at hx;obtain⟨d,hd,rfl⟩:=hx;simp[writes,hd];cases hb;simp[GA,ho,gE,hsb];unfold KJ.apply AS.put AS.fX AS.fj;cases o.dst<;>rfl;have e1:st2.rd f=st.rd f:=ha.rd (λt ht=>by simp[dY,ho,ht]);have hl:∀x∈Operand.tmp q::xs,∀t∈tm x,t∈dY o:=by intro x hx t ht;simp only[dY,ho,az,Rv,List.mem_flatMap,gE];exact .inr ⟨x,hx,ht⟩
    have e2:st2.rd (.tmp q)=st.rd (.tmp q):=ha.rd (hl _ (by simp));have e3:nth st2.boxes s=nth st.boxes s:=ha.box s hX;have e4:∀x∈xs,CQ st2 x=CQ st x/\DS st2 x=DS st x:=λx hx=>abO (aD.1 CM x hx) ha.er λt ht=>ha.get t (hl x (by simp[hx]) t ht);have e5:xs.map (CQ st2)=xs.map (CQ st):=List.map_congr_left λx hx=>(e4 x hx).1;have e6:xs.all (DS st2)=xs.all (DS st):=by rw[cq];simp only[aD];exact⟨λg x hx=>by rw[<-(e4 x hx).2];exact g x hx,λg x hx=>by rw[(e4 x hx).2];exact g x hx⟩
    simp only[cW,ho,E4,e1,hf,kq,ah,wc,gE,e2,hx0,e3,Us,e5,e6,hc,il,aa,hc2,hcur,Ij,cG,ha.ep,ha.iL];unfold KJ.apply AS.put AS.fX AS.fj;cases o.dst<;>rfl
 cases h;cases h;cases h
theorem abW (Cq:∀f,(Γ f).io=false/\((Γ f).bx=true->(Γ f).cur=true)/\(Γ f).pr=false)(ho:o.op=.call {callee:=.value f,args,argTypes:=ts})(gN:dP E an X o st=true)(h:E4 Γ o f args.toList st some=some bU):eO E Γ an X o st bU:=by
 have hr:∀st2,iu an X o st st2->st2.rd f=st.rd f/\(args.toList.map λx=>((st2.rd x).fresh st2).asArg st2.ep)=args.toList.map λx=>((st.rd x).fresh st).asArg st.ep:=by
  intro st2 ha;refine⟨ha.rd (λt ht=>by simp[dY,ho,ht]),?_⟩;apply List.map_congr_left;intro x hx;have FW:(st.rd x).now st.ep=true:=by simp only[dP,ho,ae,aD]at gN;exact gN.2 x hx
  rw[ha.rd (λt ht=>by simp only[dY,ho,az,Rv,List.mem_flatMap];exact .inr ⟨x,hx,ht⟩),Bp FW,Bp (s:=st2) (by rw[ha.ep];exact FW),ha.ep]
 unfold E4 at h;split at h
 ·rename_i k hf
  cases kq:(Γ k).bx with
  |true=>rw[kq]at h;exact Rb ho gN hf kq ((Cq k).2.1 kq) h
  |false=>
  rw[kq,(Cq k).2.2,(Cq k).1]at h
  simp only[af]at h
  cases hg:(Γ k).fn (args.toList.map λx=>((st.rd x).fresh st).asArg st.ep)with
  |none=>rw[hg]at h;cases h
  |some y=>
   rw[hg]at h
   simp only[aa]at h
   cases Q3:(Γ k).sel y with
   |true=>
    rw[Q3]at h
    cases h
    refine eO.new rfl λst2 ha=>?_
    simp only[cW,ho,E4,(hr st2 ha).1,hf,(Cq k).1,kq,(Cq k).2.2,af]
    rw[(hr st2 ha).2,hg]
    simp only[aa,Q3,ah,ha.ep,ha.iL]
   |false=>
    rw[Q3]at h
    cases h
    refine eO.new rfl λst2 ha=>?_
    simp only[cW,ho,E4,(hr st2 ha).1,hf,(Cq k).1,kq,(Cq k).2.2,af]
    rw[(hr st2 ha).2,hg]
    simp only[aa,Q3,af,ha.ep,ha.iL]
 cases h
theorem Rc {src dst:TypeId}(ho:o.op=.convert src dst x)(h:mI E o src dst x st some=some bU):eO E Γ an X o st bU:=by
 have hr:∀st2,iu an X o st st2->st2.rd x=st.rd x:=λst2 ha=>ha.rd (λt ht=>by simpa[dY,ho]using ht);unfold mI at h;split at h;rename_i h1 h2 h3;cases h;refine eO.put rfl λst2 ha=>?_;simp only[cW,ho,mI,hr st2 ha,h1,h2,h3];rename_i h1 h2 h3;cases h;refine eO.put rfl λst2 ha=>?_;simp only[cW,ho,mI,hr st2 ha,h1,h2,h3];rename_i kx val s GY h1 h2 h3;split at h;rename_i hb;unfold room at h;split at h;rename_i hrm;cases h;refine eO.new (v:=.one (.sl (.own (st.iL o.dst 0)) (.int .u8) (dz s))) rfl λst2 ha=>?_;have Im:∀k:AS->ay AS,mI E o src dst x st2 k=if E.bytes dst then room s.length (k (st2.qP o.dst (.int .u8) (dz s))) else none:=by intro k;unfold mI;rw[hr st2 ha,h1,h2,h3];obtain⟨ag,ct,of⟩:=val;cases ag with|true=>rfl|false=>cases ct with|str=>exact(GY _ rfl).elim|_=>rfl
 simp only[cW,ho];rw[Im,aH hb,room,aH hrm,AS.qP,ha.iL];cases h;cases h;rename_i val kx fl xs h1 h2 h3;split at h;rename_i hb;cases h;refine eO.put rfl λst2 ha=>?_;have Im:∀k:AS->ay AS,mI E o src dst x st2 k=if E.bytes src/\fl.live st2.ep then k (st2.put o.dst (.one (.str (aM xs)))) else none:=by intro k;unfold mI;rw[hr st2 ha,h1,h2,h3];obtain⟨ag,ct,of⟩:=val;cases ag with|true=>rfl|false=>cases ct<;>rfl
 simp only[cW,ho];rw[Im,ha.ep,aH hb];cases h;cases h
theorem L0 {d:Nat}:(⟨[(d,v)],some (d,cs),none⟩:KJ).apply st=(st.fj d (some cs)).put (some d) v:=rfl
theorem Ya (ho:o.op=.alloc T)(h:Ea E o T st some=some bU):eO E Γ an X o st bU:=by unfold Ea at h;split at h;rename_i d sh hd hT;split at h;rename_i hb;cases h;refine⟨⟨[(d,.one (.ptr d 0))],some (d,cellsOf sh.ct (.own none) sh.ct.zero),none⟩,⟨λx hx=>?_,λb ix=>?_,λ_ hh=>by cases hh⟩,?_,λst2 ha=>?_⟩;simp only[bF]at hx;subst hx;simp[writes,hd];cases ix;simp[GA,ho,hd];rw[L0,hd];simp only[cW,ho,Ea,hd,hT,(ha.dst d hd).2,hb,L0];cases h;cases h
def pj (st:AS):Operand->aw (Nat×AV)
 | .tmp t=>[(t,(st.get t).bg st.ep)]
 |_=>[]
theorem Dp (l:aw AV)(a b:aw (Nat×AV)):ky l (a++b)=ky (ky l a) b:=by induction a generalizing l with|nil=>rfl|cons x a ih=>exact ih _
def AS.kF (st:AS)(l:aw (Nat×AV)):AS:={st with slots:=ky st.slots l}
theorem sj (a b:aw (Nat×AV)):st.kF (a++b)=(st.kF a).kF b:=by simp only[AS.kF,Dp]
theorem D5 (x:Operand):(st.take x).2=st.kF (pj st x):=by cases x<;>rfl
theorem ES (Ac:st2.ep=st.ep)(h:∀t∈tm x,st2.get t=st.get t):(st2.take x).1=(st.take x).1/\(st2.take x).2=st2.kF (pj st x):=by cases x with|tmp t=>have:=h t (by simp[tm]);refine⟨this,?_⟩;rw[D5];simp only[pj,this,Ac]|const v=>exact⟨rfl,rfl⟩|func f=>exact⟨rfl,rfl⟩|global g=>exact⟨rfl,rfl⟩
theorem KC:∀y∈pj st x,y.1∈tm x:=by cases x<;>simp[pj,tm]
theorem abY (ho:o.op=.move x)(h:DW an o x st some=some bU):eO E Γ an X o st bU:=by
 unfold DW at h;cases hd:o.dst with
 |none=>rw[hd]at h;cases h
 |some d=>
  rw[hd]at h;cases hf:an.mv.contains d with
  |false=>simp only[hf,bm,cv]at h;cases h;refine eO.put (v:=st.rd x) (by rw[hd]) λst2 ha=>?_;have hr:st2.rd x=st.rd x:=ha.rd (λt ht=>by simpa[dY,ho]using ht);simp only[cW,ho,DW,hd,hf,bm,cv,hr]
  |true=>
   simp only[hf,cg]at h;cases h;have hr:∀st2,iu an X o st st2->(st2.take x).1=(st.take x).1/\(st2.take x).2=st2.kF (pj st x):=λst2 ha=>ES ha.ep λt ht=>ha.get t (by simpa[dY,ho]using ht);refine⟨⟨pj st x++[(d,(st.take x).1)],none,none⟩,⟨λy hy=>?_,λ_ hh=>(by cases hh),λ_ hh=>(by cases hh)⟩,?_,λst2 ha=>?_⟩;rcases az.1 hy with hy|hy;have:=KC y hy;have hf':d∈an.mv:=by simpa using hf
   simp[writes,Gx,ho,hd,hf',dY,this];simp only[bF]at hy;subst hy;simp[writes,hd];rw[D5];show _=st.kF _;rw[sj];rfl;simp only[cW,ho,DW,hd,hf,cg,(hr st2 ha).1,(hr st2 ha).2];show some ((st2.kF (pj st x)).put (some d) (st.take x).1)=some (st2.kF _);rw[sj];rfl
theorem WG {ep:Nat}(h:cs.all AC.jU=true):bg ep cs=cs:=by
 rw[aD]at h;unfold bg;have:cs.map (AC.borrow ep none)=cs.map id:=List.map_congr_left λc hc=>by have:=h c hc;cases c<;>first|rfl|(simp[AC.jU]at this)
 rw[this,List.map_id]
theorem alT {s:AS}{vs:aw (Bool×aw AC)}(h:s.get t=.xC vs):s.put (some t) (.xC vs)=s:=by cases s with|mk slots boxes ep iss io=>simp only[AS.put,AS.mk.injEq,jh];rw[fV];apply cI;intro i;rw[bG];split;rename_i hd;subst hd;simp only[AS.get,ej]at h;split;rename_i gF;rw[ak gF]at h⊢;simp only[ga]at h;rw[h];rename_i BQ;rw[bC (Nat.le_of_not_lt BQ)];rfl
theorem Rd {i:Nat}(ho:o.op=.extract (.tmp t) i)(gN:dP E an X o st=true)(h:mM o t i st some=some bU):eO E Γ an X o st bU:=by
 have hr:∀st2,iu an X o st st2->st2.get t=st.get t:=λst2 ha=>ha.get t (by simp[dY,ho]);unfold mM at h;simp only[dP,ho]at gN;split at h
 ·rename_i vs hv;rw[hv]at gN;split at h
  ·rename_i g cs hn;simp only[hn]at gN;have hfl:cs.all AC.jU=true\/∃d,o.dst=some d/\an.mv.contains d=true:=by cases hd:o.dst with|none=>simp only[hd,Bool.or_false]at gN;exact .inl gN|some d=>simp only[hd,cQ]at gN;rcases gN with h|h;exact .inl h;exact .inr ⟨d,rfl,h⟩
   rcases hfl with gN|⟨d,hd,E9⟩;rotate_left;cases h;refine⟨⟨[(t,.xC (iG vs i (g,bg 0 cs))),(d,.val g cs)],none,none⟩,⟨λx hx=>?_,(λ_ hb=>by cases hb),(λ_ hh=>by cases hh)⟩,?_,λst2 ha=>?_⟩;simp only[bM,List.not_mem_nil,or_false]at hx;rcases hx with rfl|rfl;simp only[writes,Gx,ho,hd,E9,ah,dY];simp;simp only[writes,hd];simp;rw[hd];rfl;have h2:st2.get t=.xC vs:=by rw[hr st2 ha,hv]
   simp only[cW,ho,mM,h2,hn,hd];rfl;skip;have FX:iG vs i (g,cs)=vs:=by rw[fV];rw[ej]at hn;apply cI;intro k;rw[bG];split;rename_i hk;subst hk;obtain⟨hl,he⟩:=aC.1 hn;rw[aH hl,hn];rfl
   have key:∀s:AS,s.get t=.xC vs->(s.put (some t) (.xC (iG vs i (g,bg 0 cs))))=s:=λs hs=>by rw[WG gN,FX,alT hs]
   rw[key st hv]at h;cases h;refine eO.put rfl λst2 ha=>?_;have h2:st2.get t=.xC vs:=by rw[hr st2 ha,hv]
   simp only[cW,ho,mM,h2,hn];rw[key st2 h2]
  cases h
 cases h
def Bk (st:AS):Operand->aw (Nat×AV)
 | .tmp t=>[(t,(st.get t).bg st.ep)]
 |_=>[]
theorem Qx (st:AS)(x:Operand):(st.take x).2=⟨ky st.slots (Bk st x),st.boxes,st.ep,st.iss,st.io⟩:=by cases x<;>rfl
theorem Yf {pp:Nat}(ho:o.op=.store T (.tmp pp) x)(hd:o.dst=none)(hm:oC an o=true)(gN:dP E an X o st=true)(h:yn E T (.tmp pp) x st some=some bU):eO E Γ an X o st bU:=by
 have hr:∀st2,iu an X o st st2->st2.rd (.tmp pp)=st.rd (.tmp pp):=λst2 ha=>ha.rd (λt ht=>by simp only[dY,ho,az];exact .inl ht);have hsb:(an.sb pp).isNone=false:=by simp only[oC,ho,ae]at hm;cases hb:an.sb pp with|none=>rw[hb]at hm;cases hm.1|some _=>rfl
 simp only[dP,ho,hsb,dQ,cA]at gN;unfold yn at h;split at h;rename_i sh s off hT hp;rw[hp]at gN;simp only[ae,aK,aZ]at gN;split at h;rename_i gg vs st1 ue;have UC:(st.take x).1=.val gg vs:=by rw[ue]
 have FY:st1=⟨ky st.slots (Bk st x),st.boxes,st.ep,st.iss,st.io⟩:=by rw[<-Qx,ue]
 split at h;rename_i cs hb;split at h;rename_i hlen;split at h;rename_i ib;cases h;have kq:∀st2,iu an X o st st2->nth st2.boxes s=nth st.boxes s:=λst2 ha=>ha.box s gN.1;refine⟨⟨Bk st x,some (s,eP cs off vs),none⟩,⟨λy hy=>?_,λb ix=>?_,λ_ hh=>by cases hh⟩,?_,λst2 ha=>?_⟩;cases x with|tmp t=>simp only[Bk,bF]at hy;subst hy;simp only[writes,Gx,ho,ah,dY,hd];simp[tm]|_=>simp[Bk]at hy
 cases ix;simp only[GA,ho,gN.2];simp;rw[FY];rfl;have hx2:(st2.take x).1=(st.take x).1/\Bk st2 x=Bk st x:=by cases x with|tmp t=>have hg:st2.get t=st.get t:=ha.get t (by simp[dY,ho,tm]);simp only[AS.take,Bk,hg,ha.ep];simp|const v=>exact⟨rfl,rfl⟩|func f=>exact⟨rfl,rfl⟩|global g=>exact⟨rfl,rfl⟩
 have ht2:st2.take x=(.val gg vs,⟨ky st2.slots (Bk st x),st2.boxes,st2.ep,st2.iss,st2.io⟩):=by rw[<-hx2.2,<-Qx,<-UC,<-hx2.1]
 have R8:(nth st2.boxes s).getD none=some cs:=by rw[kq st2 ha];rw[FY]at hb;exact hb
 have E8:BW an o=false:=by simp only[oC,ho,ae,aK]at hm;exact hm.2
 simp only[cW,ho,hd,E8,bm,cv,yn,hT,hr st2 ha,hp,ht2,R8,aH hlen,aH ib];rfl;cases h;cases h;cases h;cases h;rename_i r _ _ _ _ _ _ hp;rw[hp]at gN;cases r<;>simp at gN;cases h
theorem U1 (ho:o.op=.assign x)(hm:oC an o=true)(h:wb E an o x st some=some bU):eO E Γ an X o st bU:=by
 have hr:∀st2,iu an X o st st2->(st2.take x).1=(st.take x).1/\(st2.take x).2=st2.kF (pj st x):=λst2 ha=>ES ha.ep λt ht=>ha.get t (by simpa[dY,ho]using ht);have E8:BW an o=false:=by simpa[oC,ho]using hm
 unfold wb at h;split at h;rename_i st1 ue;split at h;rename_i e hT;cases h;refine eO.put rfl λst2 ha=>?_;have h2:st2.take x=(.val false [.kh],st2.kF (pj st x)):=Prod.ext (by rw[(hr st2 ha).1,ue]) (hr st2 ha).2;simp only[cW,ho,wb,E8,bm,cv,h2,hT];cases h;rename_i v st1 GY ue;cases h;have FY:st1=st.kF (pj st x):=by rw[<-D5,ue]
 refine⟨⟨pj st x++o.dst.toList.map λd=>(d,v),none,none⟩,⟨λy hy=>?_,λ_ hh=>(by cases hh),λ_ hh=>(by cases hh)⟩,?_,λst2 ha=>?_⟩;rcases az.1 hy with hy|hy;have:=KC y hy;simp[writes,Gx,ho,dY,this];obtain⟨d,hd,rfl⟩:=eF.1 hy;simp[writes,hd];rw[FY];show _=st.kF _;rw[sj];cases o.dst<;>rfl;have h2:st2.take x=(v,st2.kF (pj st x)):=Prod.ext (by rw[(hr st2 ha).1,ue]) (hr st2 ha).2;simp only[cW,ho,wb,E8,bm,cv,h2];show some ((st2.kF (pj st x)).put o.dst v)=some (st2.kF _);rw[sj];cases o.dst<;>rfl
theorem jY {α:Type}(l:aw α)(i:Nat)(v:α)(t:Nat):nth (iG l i v) t=if i=t then(if i<l.length then some v else none) else nth l t:=by rw[ej,fV,ej,bG]
theorem PR (l:aw AV)(a:aw (Nat×AV)):(ky l a).length=l.length:=by induction a generalizing l with|nil=>rfl|cons x a ih=>rw[ky,ih,fV,aB]
theorem acg {l l2:aw AV}(a:aw (Nat×AV))(hl:l2.length=l.length)(t:Nat)(h:nth l2 t=nth l t):nth (ky l2 a) t=nth (ky l a) t:=by induction a generalizing l l2 with|nil=>exact h|cons x a ih=>refine ih (by rw[fV,fV,aB,aB,hl]) ?_;rw[jY,jY,hl,h]
theorem ab3 (h:st2.get t=st.get t)(hl:st2.slots.length=st.slots.length):nth st2.slots t=nth st.slots t:=by unfold AS.get at h;rw[ej,ej]at h⊢;rcases cn t st.slots.length with gF|BQ;rw[ak gF,ak (by omega)]at h⊢;simpa using h;rw[bC BQ,bC (by omega)]
def km (st:AS):aw Operand->aw (Nat×AV)
 |[]=>[]
 |x::xs=>pj st x++km (st.kF (pj st x)) xs
theorem Cn:∀(xs:aw Operand)(st:AS),∀y∈km st xs,y.1∈Rv xs
 |[],_,y,hy=>by cases hy
 |x::xs,st,y,hy=>by simp only[Rv,List.flatMap_cons,az];rcases az.1 hy with hy|hy;exact .inl (KC y hy);exact .inr (Cn xs _ y hy)
theorem Ds:∀(xs:aw Operand)(st st2:AS),st2.ep=st.ep->st2.slots.length=st.slots.length->(∀t∈Rv xs,nth st2.slots t=nth st.slots t)->
 (fI st2 xs).1=(fI st xs).1/\(fI st2 xs).2=st2.kF (km st xs)
 |[],st,st2,_,_,_=>⟨rfl,rfl⟩
 |x::xs,st,st2,Ac,hl,hg=>by
  have hx:∀t∈tm x,st2.get t=st.get t:=λt ht=>by unfold AS.get;rw[hg t (by simp[Rv,ht])]
  obtain⟨h1,h2⟩:=ES (st:=st) (st2:=st2) Ac hx;have h3:=D5 (st:=st) x;obtain⟨k1,k2⟩:=Ds xs (st.kF (pj st x)) (st2.kF (pj st x)) Ac (by simp only[AS.kF,PR,hl]) (λt ht=>acg _ hl t (hg t (by simp only[Rv,List.flatMap_cons,az];exact .inr ht)));have e1:fI st (x::xs)=((st.take x).1::(fI (st.take x).2 xs).1,(fI (st.take x).2 xs).2):=rfl;have e2:fI st2 (x::xs)=((st2.take x).1::(fI (st2.take x).2 xs).1,(fI (st2.take x).2 xs).2):=rfl;rw[e1,e2,h1,h2,h3];refine⟨by rw[k1],?_⟩;show(fI (st2.kF (pj st x)) xs).2=_;rw[k2,km,sj]
theorem ER (xs:aw Operand):(fI st xs).2=st.kF (km st xs):=(Ds xs st st rfl rfl (λ_ _=>rfl)).2
theorem iu.fI (ha:iu an X o st st2){xs:aw Operand}(hx:∀t∈Rv xs,t∈dY o):(fI st2 xs).1=(Dn.fI st xs).1/\(Dn.fI st2 xs).2=st2.kF (km st xs):=Ds xs st st2 ha.ep ha.len λt ht=>ab3 (ha.get t (hx t ht)) ha.len
theorem Yb (ho:o.op=.build T parts)(h:C9 E o T parts.toList st some=some bU):eO E Γ an X o st bU:=by
 have hl:∀t∈Rv (parts.toList.map (·.2)),t∈dY o:=λt ht=>by simp only[dY,ho];exact ht
 unfold C9 at h;split at h;rename_i ct kx hT;split at h;rename_i vs st1 ue;have FY:st1=st.kF (km st (parts.toList.map (·.2))):=by rw[<-ER,ue]
 split at h;rename_i cs hb;cases h;refine⟨⟨km st (parts.toList.map (·.2))++o.dst.toList.map λd=>(d,.val true cs),none,none⟩,⟨λy hy=>?_,λ_ hh=>(by cases hh),λ_ hh=>(by cases hh)⟩,?_,λst2 ha=>?_⟩;rcases az.1 hy with hy|hy;have:=hl _ (Cn _ _ y hy);simp[writes,Gx,ho,this];obtain⟨d,hd,rfl⟩:=eF.1 hy;simp[writes,hd];rw[FY];show _=st.kF _;rw[sj];cases o.dst<;>rfl;obtain⟨k1,k2⟩:=ha.fI hl;have h2:fI st2 (parts.toList.map (·.2))=(vs,st2.kF (km st (parts.toList.map (·.2)))):=Prod.ext (by rw[k1,ue]) k2;simp only[cW,ho,C9,hT,h2,hb];show some ((st2.kF _).put o.dst _)=some (st2.kF _);rw[sj];cases o.dst<;>rfl;cases h;cases h
theorem eO.apn (ht:Gx an o=true)(hl:∀y∈tl,y.1∈dY o)(h:bU=((st.kF tl).fX o.dst).put o.dst v)(h2:∀st2,iu an X o st st2->cW E Γ an o st2 some=some (((st2.kF tl).fX o.dst).put o.dst v)):eO E Γ an X o st bU:=by
 have key:∀s:AS,(⟨tl++o.dst.toList.map λd=>(d,v),none,o.dst⟩:KJ).apply s=((s.kF tl).fX o.dst).put o.dst v:=by intro s;cases o.dst with|none=>simp only[KJ.apply,Option.toList,List.map_nil,bI,AS.kF,AS.fX,AS.put]|some d=>simp only[KJ.apply,Option.toList,da,List.map_nil,Dp,AS.kF,AS.fX,AS.put,ky]
 refine⟨⟨tl++o.dst.toList.map λd=>(d,v),none,o.dst⟩,⟨λy hy=>?_,λ_ hh=>(by cases hh),λd hh=>hh⟩,by rw[key];exact h,λst2 ha=>by rw[key];exact h2 st2 ha⟩;rcases az.1 hy with hy|hy;simp[writes,ht,hl y hy];obtain⟨d,hd,rfl⟩:=eF.1 hy;simp[writes,hd]
theorem Bt {d:ay Nat}:(st.kF tl).iL d=st.iL d:=rfl
theorem Lt {len:Nat}(ho:o.op=.buildSlice T len parts)(h:mF E o T len parts.toList st some=some bU):eO E Γ an X o st bU:=by
 have hl:∀t∈Rv (parts.toList.map (·.2)),t∈dY o:=λt ht=>by simp only[dY,ho];exact ht
 unfold mF at h;split at h;rename_i e hT;split at h;rename_i hc;split at h;rename_i vs st1 ue;have FY:st1=st.kF (km st (parts.toList.map (·.2))):=by rw[<-ER,ue]
 split at h;rename_i xs hb;cases h;refine eO.apn (tl:=km st (parts.toList.map (·.2))) (v:=.one (.sl (.own (st.iL o.dst 0)) e xs)) (by simp[Gx,ho]) (λy hy=>hl _ (Cn _ _ y hy)) ?_ λst2 ha=>?_;rw[FY,AS.qP,Bt];obtain⟨k1,k2⟩:=ha.fI hl;have h2:fI st2 (parts.toList.map (·.2))=(vs,st2.kF (km st (parts.toList.map (·.2)))):=Prod.ext (by rw[k1,ue]) k2;simp only[cW,ho,mF,hT,h2,hb,aH hc];rw[AS.qP,Bt,ha.iL];cases h;cases h;cases h
theorem Nq {n c:Operand}(ho:o.op=.makeSlice T n c)(h:pK E o T n c st some=some bU):eO E Γ an X o st bU:=by
 have hr:∀st2,iu an X o st st2->st2.rd n=st.rd n/\st2.rd c=st.rd c:=λst2 ha=>
  ⟨ha.rd (λt ht=>by simp[dY,ho,ht]),ha.rd (λt ht=>by simp[dY,ho,ht])⟩
 unfold pK at h;split at h;rename_i e len cap hT hn hc;split at h;rename_i hlc;unfold room at h;split at h;rename_i hrm;cases h;refine eO.new (v:=.one (.sl (.own (st.iL o.dst 0)) e (List.replicate len.toNat e.zero))) rfl λst2 ha=>?_;simp only[cW,ho,pK,(hr st2 ha).1,(hr st2 ha).2,hT,hn,hc,aH hlc,room,aH hrm,AS.qP,ha.iL];cases h;cases h;cases h
theorem U0 (ho:o.op=.call {callee:=.builtin .append,args,argTypes:=ts})(h:yr E o ts.toList args.toList st some=some bU):eO E Γ an X o st bU:=by
 have ZE:∀t∈Rv args.toList,t∈dY o:=λt ht=>by simp only[dY,ho];exact ht
 unfold yr at h;split at h;rename_i t t' s x uM gE;have hl:∀u∈Rv [s,x],u∈dY o:=by rw[<-gE];exact ZE
 have amG:∀st2,iu an X o st st2->(st2.take s).1=(st.take s).1/\((st2.take s).2.take x).1=((st.take s).2.take x).1/\((st2.take s).2.take x).2=st2.kF (km st [s,x]):=by intro st2 ha;obtain⟨k1,k2⟩:=ha.fI hl;simp only[Dn.fI,List.cons.injEq,jh]at k1 k2;exact⟨k1.1,k1.2,k2⟩
 have CM:((st.take s).2.take x).2=st.kF (km st [s,x]):=ER (st:=st) [s,x];split at h;rename_i tag e xs st1 UC;split at h;rename_i fl e' ys apj JA;split at h;rename_i he;subst he;split at h;rename_i hc;unfold room at h;split at h;rename_i hrm;cases h;have FY:(st.take s).2=st1:=by rw[UC]
 have UB:apj=st.kF (km st [s,x]):=by rw[<-CM,FY,JA]
 refine eO.apn (tl:=km st [s,x]) (v:=.one (.sl (.own (st.iL o.dst 0)) e' (xs++ys))) (by simp[Gx,ho]) (λy hy=>hl _ (Cn _ _ y hy)) ?_ λst2 ha=>?_;rw[UB,AS.qP,Bt];obtain⟨k1,k2,k3⟩:=amG st2 ha;have e1:st2.take s=(.val false [.sl (.own tag) e' xs],(st2.take s).2):=Prod.ext (by rw[k1,UC]) rfl;have e2:(st2.take s).2.take x=(.val false [.sl fl e' ys],st2.kF (km st [s,x])):=Prod.ext (by rw[k2,FY,JA]) k3;simp only[cW,ho,yr,uM,gE];rw[e1];simp only;rw[e2];simp only[dite_true,ha.ep,aH hc,room,aH hrm,AS.qP,Bt,ha.iL];cases h;cases h;cases h;rename_i sx apj JA;split at h;rename_i he;subst he;split at h;rename_i hc;unfold room at h;split at h;rename_i hrm;cases h;have FY:(st.take s).2=st1:=by rw[UC]
 have UB:apj=st.kF (km st [s,x]):=by rw[<-CM,FY,JA]
 refine eO.apn (tl:=km st [s,x]) (v:=.one (.sl (.own (st.iL o.dst 0)) (.int .u8) (xs++dz sx))) (by simp[Gx,ho]) (λy hy=>hl _ (Cn _ _ y hy)) ?_ λst2 ha=>?_;rw[UB,AS.qP,Bt];obtain⟨k1,k2,k3⟩:=amG st2 ha;have e1:st2.take s=(.val false [.sl (.own tag) (.int .u8) xs],(st2.take s).2):=Prod.ext (by rw[k1,UC]) rfl;have e2:(st2.take s).2.take x=(.val false [.str sx],st2.kF (km st [s,x])):=Prod.ext (by rw[k2,FY,JA]) k3;simp only[cW,ho,yr,uM,gE];rw[e1];simp only;rw[e2];simp only[dite_true,aH hc,room,aH hrm,AS.qP,Bt,ha.iL];cases h;cases h;cases h;cases h;cases h;cases h
theorem afP (ho:o.op=.box T x)(h:TF o x st some=some bU):eO E Γ an X o st bU:=by
 have hr:∀st2,iu an X o st st2->(st2.take x).1=(st.take x).1/\(st2.take x).2=st2.kF (pj st x):=λst2 ha=>ES ha.ep λt ht=>ha.get t (by simpa[dY,ho]using ht);unfold TF at h;split at h;rename_i d g cs st1 hd ue;have FY:st1=st.kF (pj st x):=by rw[<-D5,ue]
 split at h;rename_i hb;split at h;rename_i hs;cases h;have Us:nth st.boxes d=some none:=by rw[FY]at hb;exact hb
 have key:∀s:AS,(⟨pj st x++[(d,.one (.ptr d 0))],some (d,cs),none⟩:KJ).apply s=((s.kF (pj st x)).fj d (some cs)).put (some d) (.one (.ptr d 0)):=by intro s;simp only[KJ.apply,Dp,AS.kF,AS.fj,AS.put,ky]
 refine⟨⟨pj st x++[(d,.one (.ptr d 0))],some (d,cs),none⟩,⟨λy hy=>?_,λb ix=>?_,λ_ hh=>(by cases hh)⟩,?_,λst2 ha=>?_⟩;rcases az.1 hy with hy|hy;have:=KC y hy;simp[writes,Gx,ho,dY,this];simp only[bF]at hy;subst hy;simp[writes,hd];cases ix;simp[GA,ho,hd];rw[key,FY,hd];have h2:st2.take x=(.val g cs,st2.kF (pj st x)):=Prod.ext (by rw[(hr st2 ha).1,ue]) (hr st2 ha).2;have R8:nth (st2.kF (pj st x)).boxes d=some none:=by show nth st2.boxes d=_;rw[(ha.dst d hd).2];exact Us
 simp only[cW,ho,TF,hd,h2,R8,aH hs,key];cases h;cases h;cases h
theorem Qp (Cq:∀f,(Γ f).io=false/\((Γ f).bx=true->(Γ f).cur=true)/\(Γ f).pr=false)(hm:oC an o=true)(gN:dP E an X o st=true)(h:cW E Γ an o st some=some bU):eO E Γ an X o st bU:=by
 have h0:=h;unfold cW at h;split at h;rename_i ho;exact abY ho h;rename_i ho;have E8:BW an o=false:=by simpa[oC,ho]using hm
 rw[aG (by simp[E8])]at h;exact U1 ho hm h;rename_i ho;exact abZ ho h;rename_i ho;exact Ya ho h;rename_i ho;exact afP ho h;rename_i ho;exact abX ho hm gN h;rename_i T p x ho;split at h;rename_i hd;cases p with
 |tmp pp=>
  have E8:BW an o=false:=by simp only[oC,ho,ae,aK]at hm;exact hm.2
  rw[aG (by simp[E8])]at h;exact Yf ho hd hm gN h
 |const v=>simp[oC,ho]at hm
 |func f=>simp[oC,ho]at hm
 |global g=>simp[oC,ho]at hm
 cases h;rename_i ho;exact Pz ho h0;rename_i ho;exact afO ho h;rename_i ho;exact ajh ho h;rename_i ho;exact Yc ho h;rename_i ho;exact Np ho gN h;rename_i ho;exact Yd ho h;rename_i ho;exact Yb ho h;rename_i ho;exact Lt ho h;rename_i ho;exact Nq ho h;rename_i ho;exact Ye ho hm gN h;rename_i ho;simp[oC,ho]at hm;rename_i ho;simp[oC,ho]at hm;rename_i ho;exact Rc ho h;rename_i ho;exact Rd ho gN h;rename_i ho;exact afQ ho h;rename_i ho;exact afS ho h;rename_i ho;exact afR ho h;rename_i ho;exact U0 ho h;rename_i ho;exact abW Cq ho gN h;cases h
end Go.Dn
