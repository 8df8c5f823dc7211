import Derived.Test.YtbebkmajekhclaaGreatDnMask
/- What an operation looks at and what it turns: for regions whose order is drawn. -/
namespace Go.Dn
structure MA where
 slots:List (Nat×AV):=[]
 box:Option (Nat×List AC):=none
 iss:Option Nat:=none
def kG (l:aw AV):aw (Nat×AV)->aw AV
 |[]=>l
 |x::r=>kG (iO l x.1 x.2) r
def MA.apply (u:MA)(st:AS):AS:=
 ⟨kG st.slots u.slots,(match u.box with|some b=>iO st.boxes b.1 (some b.2)|none=>st.boxes),st.ep,(match u.iss with|some d=>iO st.iss d true|none=>st.iss),st.io⟩
structure iC (an:An) (X:List Nat) (o:Oper) (st st2:AS):Prop where
 len:st2.slots.length=st.slots.length
 get:∀t∈dZ o,st2.get t=st.get t
 ep:st2.ep=st.ep
 dst:∀d,o.dst=some d->nth st2.iss d=nth st.iss d/\nth st2.boxes d=nth st.boxes d
 box:∀s,X.contains s=false->nth st2.boxes s=nth st.boxes s
 er:∀t∈erS an o,st2.get t=st.get t
structure MA.J3 (an:An) (u:MA) (o:Oper):Prop where
 slots:∀x∈u.slots,x.1∈writes an o
 box:∀b,u.box=some b->b.1∈Ij an o
 iss:∀d,u.iss=some d->o.dst=some d
variable {E:Env} {Γ:Dy} {an:An} {X:fA} {o:Oper} {st st2 cp:AS}
variable {v:AV} {parts:Array (Nat×Operand)} {args:Array Operand} {ts:Array TypeId} {t:Nat} {f p x:Operand} {T:TypeId} {tl:aw (Nat×AV)} {cs:aw AC}
theorem alT (Bs:st2.ep=st.ep)(h:∀t∈tm x,st2.get t=st.get t):st2.rd x=st.rd x:=by cases x with|tmp t=>simp only[AS.rd,Bs,h t (by simp[tm])]|const v=>rfl|func f=>rfl|global g=>rfl
def eV (E:Env)(Γ:Dy)(an:An)(X:fA)(o:Oper)(st cp:AS):Prop:=
 ∃u:MA,u.J3 an o/\cp=u.apply st/\∀st2,iC an X o st st2->dp E Γ an o st2 some=some (u.apply st2)
def GI (o:Oper)(v:AV):MA:={slots:=o.dst.toList.map λd=>(d,v)}
theorem uD (v:AV):(GI o v).apply st=st.put o.dst v:=by unfold GI MA.apply AS.put;cases o.dst<;>rfl
theorem ES (v:AV):(GI o v).J3 an o:=by refine⟨λx hx=>?_,λb hb=>by simp[GI]at hb,λd hd=>by simp[GI]at hd⟩;simp only[GI,dH]at hx;obtain⟨d,hd,rfl⟩:=hx;simp[writes,hd]
def KH (o:Oper)(v:AV):MA:={slots:=o.dst.toList.map λd=>(d,v),iss:=o.dst}
theorem Mv (v:AV):(KH o v).apply st=(st.fW o.dst).put o.dst v:=by unfold KH MA.apply AS.put AS.fW;cases o.dst<;>rfl
theorem TL (v:AV):(KH o v).J3 an o:=by refine⟨λx hx=>?_,λb hb=>by simp[KH]at hb,λd hd=>by simpa[KH]using hd⟩;simp only[KH,dH]at hx;obtain⟨d,hd,rfl⟩:=hx;simp[writes,hd]
theorem eV.put (h:cp=st.put o.dst v)(h2:∀st2,iC an X o st st2->dp E Γ an o st2 some=some (st2.put o.dst v)):eV E Γ an X o st cp:=⟨GI o v,ES v,by rw[uD];exact h,λst2 ha=>by rw[uD];exact h2 st2 ha⟩
theorem iC.rd (ha:iC an X o st st2)(hx:∀t∈tm x,t∈dZ o):st2.rd x=st.rd x:=alT ha.ep λt ht=>ha.get t (hx t ht)
theorem adV {c y:Operand}(ho:o.op=.pick c x y)(h:HO o c x y st some=some cp):eV E Γ an X o st cp:=by
 have hr:∀st2,iC an X o st st2->st2.rd c=st.rd c/\st2.rd x=st.rd x/\st2.rd y=st.rd y:=λst2 ha=>
  ⟨ha.rd (λt ht=>by simp[dZ,ho,ht]),ha.rd (λt ht=>by simp[dZ,ho,ht]),ha.rd (λt ht=>by simp[dZ,ho,ht])⟩
 unfold HO at h;split at h;rename_i t hc;split at h;rename_i a b hx hy;cases h;refine eV.put rfl λst2 ha=>?_;obtain⟨h1,h2,h3⟩:=hr st2 ha;simp only[dp,ho,HO,h1,h2,h3,hc,hx,hy];rename_i va vb Js;have hgo:∀st2,iC an X o st st2->dp E Γ an o st2 some=cond t (some (st2.put o.dst (st.rd x))) (some (st2.put o.dst (st.rd y))):=by intro st2 ha;obtain⟨h1,h2,h3⟩:=hr st2 ha;simp only[dp,ho,HO,h1,h2,h3,hc]
 cases t with|true=>cases h;exact eV.put rfl λst2 ha=>hgo st2 ha|false=>cases h;exact eV.put rfl λst2 ha=>hgo st2 ha
 cases h
theorem Ru {d s:Nat}:(⟨[(d,v)],some (s,cs),none⟩:MA).apply st=(st.fD s (some cs)).put (some d) v:=rfl
theorem VF {o:Oper}(h:Ic an o=true):∃T q d,o.op=.load T (.tmp q)/\o.dst=some d/\o.guard=none/\an.mv.contains d=true/\an.mb d=none:=by unfold Ic at h;split at h;rename_i T q d ho hd hg;simp only[af,Option.isNone_iff_eq_none]at h;exact⟨T,q,d,ho,hd,hg,h.1.1,h.1.2⟩;cases h
def Ms (st:AS)(b j t:Nat)(e:CT)(i:Int)(cs:aw AC)(ys:aw e.D):AS:=st.fD b (some (iO cs j (.sl (.fS (some t) i (some st.ep)) e ys)))
theorem SA {q d:Nat}(ht:Ic an o=true)(ho:o.op=.load T (.tmp q))(hd:o.dst=some d)(GV:an.mv.contains d=true)(KP:an.mb d=none):(dM E an X o st=true/\qv E an o T (.tmp q) st some=some cp)↔ ∃(g:Bool)(e:CT)(kF:aw (Nat×Nat))(b j t Qw:Nat)(x:e.D)(i:Int)(cs:aw AC)(ys:aw e.D)(y:e.D),jK E.ty T=some ⟨g,e,kF⟩/\st.rd (.tmp q)=.val false [.Ey (.loc Qw (some (.box b j,t))) e x i 0]/\(nth st.boxes b).getD none=some cs/\nth cs j=some (.sl (.own (some t)) e ys)/\idx ys i=some y/\ X.contains b=false/\an.eb q=some b/\fmB an o=false/\cp=(Ms st b j t e i cs ys).put (some d) (.val g (cellsOf e (.own none) y)):=by
 have vd:Ih an o=true:=by unfold Ih;rw[hd];simp only[GV,KP];rfl
 have N3:ER an o=false:=by unfold ER;split;rename_i hd' _;rw[hd]at hd';cases hd';rw[KP];simp;rfl
 have hnp:Ee an o=false:=by unfold Ee;split;rename_i hd' _;rw[hd]at hd';cases hd';rw[GV];rfl;rfl
 constructor;rintro⟨hf,h⟩;unfold qv at h;split at h;rename_i hp;simp only[dM,ho,hp,hd,GV,KP]at hf;simp at hf;rename_i sh fl e x i off hT hp;rw[aI vd]at h;simp only[dM,ho,hp,ht,N3,hnp,Bool.or_false,bH,al,cZ,fC,af,aM]at hf;obtain⟨⟨KO,Px⟩,hb⟩:=hf;unfold Bh at h;split at h;rename_i Qw r t;cases r with
 |slot _ _=>cases hb
 |io _=>cases hb
 |box b j=>
  simp only[af,ba,aM]at hb;split at h;rename_i t' e' ys hrg;split at h;rename_i he;subst he;split at h;rename_i hc;obtain⟨rfl,rfl,N1⟩:=hc;obtain⟨g,ct,kF⟩:=sh;simp only at N1;subst N1;cases hi:idx ys i with|none=>simp only[hi,aa]at h;cases h|some y=>simp only[hi,aa]at h;cases h;simp only[AS.fL]at hrg;obtain⟨cs,MB,hj⟩:=aY.1 hrg;refine⟨g,_,kF,b,j,_,Qw,x,i,cs,ys,y,hT,hp,MB,hj,hi,hb.2,hb.1,Px,?_⟩;simp only[AS.fP,MB,hd];rfl
  cases h;cases h;cases h
 cases h;cases h;rintro⟨g,e,kF,b,j,t,Qw,x,i,cs,ys,y,hT,hp,MB,hj,hi,hX,WG,Px,rfl⟩;constructor;simp only[dM,ho,hp,ht,N3,hnp,Px,hX,WG];simp;simp only[qv,hT,hp,vd,cz,Bh,AS.fL,MB,ft,hj,dite_true,and_self,hi,aa,AS.fP,hd];rfl
theorem aax (ht:Ic an o=true)(ho:o.op=.load T p)(gQ:dM E an X o st=true)(h:qv E an o T p st some=some cp):eV E Γ an X o st cp:=by obtain⟨T',q,d,O7,hd,hg,GV,KP⟩:=VF ht;rw[ho]at O7;cases O7;obtain⟨g,e,kF,b,j,t,Qw,x,i,cs,ys,y,hT,hp,MB,hj,hi,hX,WG,Px,rfl⟩:=(SA ht ho hd GV KP).1 ⟨gQ,h⟩;refine⟨⟨[(d,.val g (cellsOf e (.own none) y))],some (b,iO cs j (.sl (.fS (some t) i (some st.ep)) e ys)),none⟩,⟨λx hx=>?_,λb' iz=>?_,λ_ hh=>by cases hh⟩,rfl,λst2 ha=>?_⟩;simp only[bI]at hx;subst hx;simp[writes,hd];cases iz;simp only[Ij,ho,hd,GV,ah,ht,WG];simp;have h2:=((SA (E:=E) (X:=X) (st:=st2) ht ho hd GV KP).2 ⟨g,e,kF,b,j,t,Qw,x,i,cs,ys,y,hT,by rw[ha.rd (λt ht=>by simpa[dZ,ho]using ht)];exact hp,by rw[ha.box b hX];exact MB,hj,hi,hX,WG,Px,rfl⟩).2;simp only[dp,ho];rw[h2];simp only[Ms,ha.ep];rfl
theorem adT (ho:o.op=.load T p)(hm:oI an o=true)(gQ:dM E an X o st=true)(h:qv E an o T p st some=some cp):eV E Γ an X o st cp:=by
 cases hE:Ic an o with|true=>exact aax hE ho gQ h|false=> ?_
 have hr:∀st2,iC an X o st st2->st2.rd p=st.rd p:=λst2 ha=>ha.rd (λt ht=>by simpa[dZ,ho]using ht);have vd:Ih an o=false:=by simp only[oI,ho,hE,Bool.or_false]at hm;unfold Ih;cases WE:o.dst with|none=>rfl|some d=>rw[WE]at hm;simp only[dk,aM]at hm;rcases hm with hm|hm;simp only[hm,eF];cases KP:an.mb d with|none=>rw[KP]at hm;cases hm|some _=>simp[KP]
 unfold qv at h;split at h;rename_i sh s off hT hp;simp only[dM,ho,hp,af,aM]at gQ;split at h;rename_i cs hb;split at h;rename_i ik;split at h;rename_i d hd;have kD:∀st2,iC an X o st st2->nth st2.boxes s=nth st.boxes s:=λst2 ha=>ha.box s gQ.1.1;cases hf:an.mv.contains d with
 |false=>simp only[hf,bn,cJ]at h;cases h;refine eV.put (by rw[hd]) λst2 ha=>?_;simp only[dp,ho,qv,hT,hr st2 ha,hp,kD st2 ha,hb,aI ik,hd,hf,bn,cJ,ha.ep]
 |true=>
  simp only[hf,cz]at h;have KP:an.mb d=some s:=by have:=gQ.1.2;rw[hd]at this;simp only[hf,al,cZ,ba]at this;exact this
  cases h;refine⟨⟨[(d,.val sh.agg ((cs.drop off).take sh.ct.size))],some (s,eX cs off (bl st.ep ((cs.drop off).take sh.ct.size))),none⟩,⟨λx hx=>?_,λb iz=>?_,λ_ hh=>by cases hh⟩,?_,λst2 ha=>?_⟩;simp only[bI]at hx;subst hx;simp[writes,hd];cases iz;simp only[Ij,ho,hd,hf,ah,KP];simp;rw[Ru,hd];simp only[dp,ho,qv,hT,hr st2 ha,hp,kD st2 ha,hb,aI ik,hd,hf,cz,ha.ep,Ru]
 cases h;cases h;cases h;rename_i sh fl e x i off hT hp;rw[aK (by simp[vd])]at h;split at h;rename_i hl;split at h;rename_i ik;cases h;refine eV.put rfl λst2 ha=>?_;simp only[dp,ho,qv,hT,hr st2 ha,hp,ha.ep,vd,bn,cJ,aI hl,aI ik];cases h;rename_i hl;have Jv:∀r t Qw,fl=.loc Qw (some (r,t))->∀st2,iC an X o st st2->st2.fL r=st.fL r:=by rintro r t Qw rfl st2 ha;simp only[dM,ho,hp,hE,bH,gb,fC,af,dk]at gQ;rcases gQ.1.1 with hq|hq;exact absurd hq hl;cases r with|slot b j=>simp only[AS.fL];rw[ha.er b (by simpa using hq)]|box b j=>simp only[AS.fL];rw[ha.box b (by simpa using hq)]|io j=>cases hq
 unfold Gz at h;split at h;rename_i Qw r t;split at h;rename_i t' e' ys hrg;split at h;rename_i he;split at h;rename_i hc;cases hi:idx (he▸ys:List _) i with|none=>rw[hi]at h;cases h|some y=>rw[hi]at h;simp only[aa]at h;cases h;refine eV.put rfl λst2 ha=>?_;simp only[dp,ho,qv,hT,hr st2 ha,hp,ha.ep,vd,bn,cJ,aK hl,Gz,Jv _ _ _ rfl st2 ha,hrg,dif_pos he,aI hc,hi,aa]
 cases h;cases h;cases h;cases h;cases h
theorem RE (ho:o.op=.nilCheck x)(h:dp E Γ an o st some=some cp):eV E Γ an X o st cp:=by have hr:∀st2,iC an X o st st2->st2.rd x=st.rd x:=λst2 ha=>ha.rd (λt ht=>by simpa[dZ,ho]using ht);simp only[dp,ho]at h;split at h;rename_i s off hx;cases h;refine eV.put rfl λst2 ha=>?_;simp only[dp,ho,hr st2 ha,hx];rename_i fl e y i off hx;cases h;refine eV.put rfl λst2 ha=>?_;simp only[dp,ho,hr st2 ha,hx];cases h
theorem SI {op:BinOp}{x y:AV}(h:(Jc op x y λc=>some (st.put o.dst (.one c)))=some cp):∃v,cp=st.put o.dst v/\∀st2:AS,(Jc op x y λc=>some (st2.put o.dst (.one c)))=some (st2.put o.dst v):=by have key:∀s:AS,(Jc op x y λc=>some (s.put o.dst (.one c)))=(Jc op x y some).bind λc=>some (s.put o.dst (.one c)):=λs=>(It op x y some _).symm;rw[key st]at h;cases hb:Jc op x y some with|none=>rw[hb]at h;cases h|some c=>rw[hb]at h;cases h;exact⟨_,rfl,λst2=>by rw[key st2,hb];rfl⟩
theorem VG {op:BinOp}{b:Bool}(h:(GP op b λc=>some (st.put o.dst (.one c)))=some cp):∃v,cp=st.put o.dst v/\∀st2:AS,(GP op b λc=>some (st2.put o.dst (.one c)))=some (st2.put o.dst v):=by unfold GP at h;split at h;cases h;exact⟨_,rfl,λst2=>rfl⟩;cases h;exact⟨_,rfl,λst2=>rfl⟩;cases h
theorem ahL {op:BinOp}{T':TypeId}{y:Operand}(ho:o.op=.binOp op T x y T')(h:DK E o op T x y st some=some cp):eV E Γ an X o st cp:=by
 have hr:∀st2,iC an X o st st2->st2.rd x=st.rd x/\st2.rd y=st.rd y:=λst2 ha=>
  ⟨ha.rd (λt ht=>by simp[dZ,ho,ht]),ha.rd (λt ht=>by simp[dZ,ho,ht])⟩
 unfold DK at h;split at h;rename_i a b hx hy;split at h;rename_i hT;obtain⟨v,rfl,hv⟩:=SI h;refine eV.put rfl λst2 ha=>?_;simp only[dp,ho,DK,(hr st2 ha).1,(hr st2 ha).2,hx,hy,aI hT];exact hv st2;cases h;rename_i xs ys hx hy;split at h;rename_i ls hq;split at h;rename_i ik;obtain⟨v,rfl,hv⟩:=SI h;refine eV.put rfl λst2 ha=>?_;simp only[dp,ho,DK,(hr st2 ha).1,(hr st2 ha).2,hx,hy,hq,aI ik];exact hv st2;cases h;cases h;rename_i fl e xs hx hy;split at h;rename_i hT;split at h;cases h;rename_i hlen;obtain⟨v,rfl,hv⟩:=VG h;refine eV.put rfl λst2 ha=>?_;simp only[dp,ho,DK,(hr st2 ha).1,(hr st2 ha).2,hx,hy,ha.ep,aI hT,aK hlen];exact hv st2;cases h;rename_i hx hy;split at h;rename_i hT;obtain⟨v,rfl,hv⟩:=VG h;refine eV.put rfl λst2 ha=>?_;simp only[dp,ho,DK,(hr st2 ha).1,(hr st2 ha).2,hx,hy,aI hT];exact hv st2;cases h;rename_i a b KQ Fc hn3 hn4;obtain⟨v,rfl,hv⟩:=SI h;refine eV.put rfl λst2 ha=>?_;simp only[dp,ho,DK,(hr st2 ha).1,(hr st2 ha).2];exact hv st2
theorem alz {op:UnOp}(ho:o.op=.unOp op T x)(h:(unC op (st.rd x) λc=>some (st.put o.dst (.one c)))=some cp):eV E Γ an X o st cp:=by have hr:∀st2,iC an X o st st2->st2.rd x=st.rd x:=λst2 ha=>ha.rd (λt ht=>by simpa[dZ,ho]using ht);have key:∀s:AS,(unC op (st.rd x) λc=>some (s.put o.dst (.one c)))=(unC op (st.rd x) some).bind λc=>some (s.put o.dst (.one c)):=λs=>(abD op (st.rd x) some _).symm;rw[key st]at h;cases hb:unC op (st.rd x) some with|none=>rw[hb]at h;cases h|some c=>rw[hb]at h;cases h;refine eV.put rfl λst2 ha=>?_;simp only[dp,ho,hr st2 ha];rw[key st2,hb];rfl
theorem aat {S:TypeId}{f:Nat}(ho:o.op=.fieldAddr S p f)(h:CO E o S p f st some=some cp):eV E Γ an X o st cp:=by have hr:∀st2,iC an X o st st2->st2.rd p=st.rd p:=λst2 ha=>ha.rd (λt ht=>by simpa[dZ,ho]using ht);unfold CO at h;split at h;rename_i hT hp;split at h;rename_i hf;cases h;refine eV.put rfl λst2 ha=>?_;simp only[dp,ho,CO,hr st2 ha,hT,hp,hf];cases h;rename_i hT hp;split at h;rename_i hf;cases h;refine eV.put rfl λst2 ha=>?_;simp only[dp,ho,CO,hr st2 ha,hT,hp,hf];cases h;cases h
theorem Cx {s:AS}(h:v.now s.ep=true):v.fresh s=v:=by
 cases v with
 |yC vs=>rfl
 |val g cs=>
  simp only[AV.now,aF]at h;simp only[AV.fresh];congr 1;have:cs.map s.fresh=cs.map id:=List.map_congr_left λc hc=>by have hn:=h c hc;unfold AS.fresh;split;simp only[AC.now]at hn;rw[hn];rfl;rfl
  rw[this,List.map_id]
theorem YV {st st2:AS}(he:st2.ep=st.ep)(h:v.now st.ep=true\/∃g ep b j t e xs,v=.val g [.sl (.loc ep (some (.box b j,t))) e xs]/\nth st2.boxes b=nth st.boxes b):v.fresh st2=v.fresh st:=by rcases h with h|⟨g,ep,b,j,t,e,xs,rfl,hb⟩;rw[Cx h,Cx (by rw[he];exact h)];simp only[AV.fresh,db,List.map_nil];congr 2;unfold AS.fresh;simp only[AS.fL,he,hb]
theorem Pb {i:Operand}(ho:o.op=.indexAddr T x i)(gQ:dM E an X o st=true)(h:np E o T x i st some=some cp):eV E Γ an X o st cp:=by
 have hr:∀st2,iC an X o st st2->st2.rd x=st.rd x/\st2.rd i=st.rd i:=λst2 ha=>
  ⟨ha.rd (λt ht=>by simp[dZ,ho,ht]),ha.rd (λt ht=>by simp[dZ,ho,ht])⟩
 have CV:∀st2,iC an X o st st2->(st.rd x).fresh st2=(st.rd x).fresh st:=λst2 ha=>by refine YV ha.ep ?_;simp only[dM,ho,dk]at gQ;rcases gQ with hn|hn;exact .inl hn;split at hn;rename_i g ep b j t e xs hx;exact .inr ⟨g,ep,b,j,t,e,xs,hx,ha.box b (by simpa using hn)⟩;cases hn
 unfold np at h;split at h;rename_i e' fl e xs k n hT hx hi;split at h;rename_i hc;cases HD:idx xs n with|none=>rw[HD]at h;cases h|some y=>rw[HD]at h;cases h;refine eV.put rfl λst2 ha=>?_;have hf3:=CV st2 ha;rw[hx]at hf3;simp only[dp,ho,np,(hr st2 ha).1,(hr st2 ha).2,hf3,hT,hi,ha.ep,aI hc,HD,aa]
 cases h;cases h
theorem aau {i:Operand}(ho:o.op=.index T x i)(h:EH E o T x i st some=some cp):eV E Γ an X o st cp:=by
 have hr:∀st2,iC an X o st st2->st2.rd x=st.rd x/\st2.rd i=st.rd i:=λst2 ha=>
  ⟨ha.rd (λt ht=>by simp[dZ,ho,ht]),ha.rd (λt ht=>by simp[dZ,ho,ht])⟩
 unfold EH at h;split at h;rename_i s k n hx hi;split at h;rename_i hc;cases HD:idx s n with|none=>rw[HD]at h;cases h|some y=>rw[HD]at h;cases h;refine eV.put rfl λst2 ha=>?_;simp only[dp,ho,EH,(hr st2 ha).1,(hr st2 ha).2,hx,hi,aI hc,HD,aa]
 cases h;cases h
theorem eV.new (h:cp=(st.fW o.dst).put o.dst v)(h2:∀st2,iC an X o st st2->dp E Γ an o st2 some=some ((st2.fW o.dst).put o.dst v)):eV E Γ an X o st cp:=⟨KH o v,TL v,by rw[Mv];exact h,λst2 ha=>by rw[Mv];exact h2 st2 ha⟩
theorem iC.iU (ha:iC an X o st st2):st2.iU o.dst=st.iU o.dst:=by funext j;cases hd:o.dst with|none=>rfl|some d=>simp only[AS.iU,(ha.dst d hd).1]
theorem LH {lo hi:az Operand}{n:Nat}{f:AS->Int->Int->az AS}(hs:∀st2,iC an X o st st2->lo.map st2.rd=lo.map st.rd/\hi.map st2.rd=hi.map st.rd)(h:nK st lo hi n (f st)=some cp):∃a b,f st a b=some cp/\∀st2,iC an X o st st2->nK st2 lo hi n (f st2)=f st2 a b:=by unfold nK at h;split at h;rename_i h1 h2;exact⟨_,_,h,λst2 ha=>by simp only[nK,(hs st2 ha).1,(hs st2 ha).2,h1,h2]⟩;rename_i h1 h2;exact⟨_,_,h,λst2 ha=>by simp only[nK,(hs st2 ha).1,(hs st2 ha).2,h1,h2]⟩;rename_i h1 h2;exact⟨_,_,h,λst2 ha=>by simp only[nK,(hs st2 ha).1,(hs st2 ha).2,h1,h2]⟩;rename_i h1 h2;exact⟨_,_,h,λst2 ha=>by simp only[nK,(hs st2 ha).1,(hs st2 ha).2,h1,h2]⟩;cases h
theorem aav {lo hi:az Operand}(ho:o.op=.slice T x lo hi none)(hm:oI an o=true)(gQ:dM E an X o st=true)(h:Dh E an o T x lo hi st some=some cp):eV E Γ an X o st cp:=by
 have hr:∀st2,iC an X o st st2->st2.rd x=st.rd x:=λst2 ha=>ha.rd (λt ht=>by simp[dZ,ho,ht]);have hb:∀st2,iC an X o st st2->lo.map st2.rd=lo.map st.rd/\hi.map st2.rd=hi.map st.rd:=by
  intro st2 ha;constructor;cases lo with|none=>rfl|some y=>simp only[dD];rw[ha.rd (λt ht=>by simp[dZ,ho,tmO,ht])]
  cases hi with|none=>rfl|some y=>simp only[dD];rw[ha.rd (λt ht=>by simp[dZ,ho,tmO,ht])]
 have HG:(st.rd x).now st.ep=true:=by simpa[dM,ho]using gQ
 have CV:∀st2,iC an X o st st2->(st.rd x).fresh st2=st.rd x:=λst2 ha=>Cx (by rw[ha.ep];exact HG);have vd:Ih an o=false:=by simpa[oI,ho]using hm
 unfold Dh at h;rw[aK (by simp[vd]),Cx HG]at h;split at h;rename_i s hx;split at h;rename_i hT;obtain⟨a,b,h1,h2⟩:=LH (f:=λs0 a b=>aa (sub s a b) λs'=>some (s0.put o.dst (.one (.str s')))) hb h;cases sK:sub s a b with|none=>rw[sK]at h1;cases h1|some s'=>rw[sK]at h1;cases h1;refine eV.put rfl λst2 ha=>?_;have hf3:=CV st2 ha;rw[hx]at hf3;simp only[dp,ho,Dh,vd,bn,cJ,hr st2 ha,hx,hf3,aI hT];rw[h2 st2 ha,sK];rfl
 cases h;rename_i fl e xs hx;split at h;rename_i hT;obtain⟨a,b,h1,h2⟩:=LH (f:=λs0 a b=>aa (sub xs a b) λSY=>some (s0.put o.dst (.one (.sl (RL an o fl a) e SY)))) hb h;cases sK:sub xs a b with|none=>rw[sK]at h1;cases h1|some s'=>rw[sK]at h1;cases h1;refine eV.put rfl λst2 ha=>?_;have hf3:=CV st2 ha;rw[hx]at hf3;simp only[dp,ho,Dh,vd,bn,cJ,hr st2 ha,hx,hf3,ha.ep,aI hT];rw[h2 st2 ha,sK];rfl
 cases h;cases h
theorem J5 {args:aw Operand}(hl:∀t,t∈TK args->t∈dZ o)(ha:iC an X o st st2):args.map st2.rd=args.map st.rd:=by apply List.map_congr_left;intro x hx;exact ha.rd (λt ht=>hl t (by simp only[TK,List.mem_flatMap];exact⟨x,hx,ht⟩))
theorem ahN (ho:o.op=.call {callee:=.builtin .len,args,argTypes:=ts})(h:Rt E o ts.toList args.toList st some=some cp):eV E Γ an X o st cp:=by have hr:∀st2,iC an X o st st2->args.toList.map st2.rd=args.toList.map st.rd:=λst2 ha=>J5 (λt ht=>by simp only[dZ,ho];exact ht) ha;unfold Rt at h;split at h;rename_i t s vK hx;split at h;rename_i hT;cases h;refine eV.put rfl λst2 ha=>?_;simp only[dp,ho,Rt,hr st2 ha,vK,hx,aI hT];cases h;rename_i t _ _ xs vK hx;split at h;rename_i hT;cases h;refine eV.put rfl λst2 ha=>?_;simp only[dp,ho,Rt,hr st2 ha,vK,hx,aI hT];cases h;cases h
theorem ahP (ho:o.op=.call {callee:=.builtin .min,args,argTypes:=ts})(h:Tq o args.toList st some=some cp):eV E Γ an X o st cp:=by have hr:∀st2,iC an X o st st2->args.toList.map st2.rd=args.toList.map st.rd:=λst2 ha=>J5 (λt ht=>by simp only[dZ,ho];exact ht) ha;unfold Tq at h;split at h;rename_i hx;cases h;refine eV.put rfl λst2 ha=>?_;simp only[dp,ho,Tq,hr st2 ha,hx];cases h
theorem ahO (ho:o.op=.call {callee:=.builtin .max,args,argTypes:=ts})(h:Tp o args.toList st some=some cp):eV E Γ an X o st cp:=by have hr:∀st2,iC an X o st st2->args.toList.map st2.rd=args.toList.map st.rd:=λst2 ha=>J5 (λt ht=>by simp only[dZ,ho];exact ht) ha;unfold Tp at h;split at h;rename_i hx;cases h;refine eV.put rfl λst2 ha=>?_;simp only[dp,ho,Tp,hr st2 ha,hx];cases h
theorem ahz {l:fA}{c:AC}(h:c.al4 l=true)(hl:∀t∈l,st2.get t=st.get t):st2.Tn c=st.Tn c:=by
 cases c with
 |sl fl e xs=>
  cases fl with
  |loc ep pv=>cases pv with|none=>rfl|some q=>obtain⟨r,t⟩:=q;cases r with|slot b j=>have hb:st2.get b=st.get b:=hl b (by simpa[AC.al4]using h);simp only[AS.Tn,AS.fL,hb]|box _ _=>rfl|io _=>rfl
  |_=>rfl
 |_=>rfl
theorem adK {l:fA}(hx:LZ l st x=true)(hl:∀t∈l,st2.get t=st.get t)(h:∀t∈tm x,st2.get t=st.get t):Ec st2 x=Ec st x/\Fj st2 x=Fj st x:=by
 cases x with
 |tmp t=>have ht:=h t (by simp[tm]);simp only[LZ]at hx;cases hg:st.get t with|yC vs=>exact⟨by simp only[Ec,ht,hg],by simp only[Fj,ht,hg]⟩|val g cs=>rw[hg]at hx;have hm:cs.map st2.Tn=cs.map st.Tn:=List.map_congr_left λc hc=>ahz (aF.1 hx c hc) hl;exact⟨by simp only[Ec,ht,hg,hm],by simp only[Fj,ht,hg,hm]⟩
 |const v=>exact⟨rfl,rfl⟩
 |func f=>exact⟨rfl,rfl⟩
 |global g=>exact⟨rfl,rfl⟩
theorem Tr (ho:o.op=.call {callee:=.value f,args,argTypes:=ts})(gQ:dM E an X o st=true){k:Nat}(hf:st.rd f=.val false [.fn k])(kD:(Γ k).bx=true)(hcur:(Γ k).cur=true)(h:xh Γ o k args.toList st some=some cp):eV E Γ an X o st cp:=by
 unfold xh at h;split at h;rename_i x0 xs gP;split at h;rename_i s hx0;have jt:vJ an X (erS an o) st (x0::xs)=true:=by have h1:=gQ;simp only[dM,ho,af]at h1;rw[<-gP];exact h1.1
 have hx1:∃q,x0=.tmp q/\X.contains s=false/\an.sb q=some s/\(match (nth st.boxes s).getD none with|some cs=>cs.all AC.KW|none=>true)=true/\xs.all (LZ (erS an o) st)=true:=by cases x0 with|tmp q=>simp only[vJ,hx0,ajx,af,aM,ba]at jt;exact⟨q,rfl,jt.1.1.1,jt.1.1.2,jt.1.2,jt.2⟩|const v=>simp only[vJ,hx0,AV.afJ]at jt;cases jt|func v=>simp only[vJ,hx0,AV.afJ]at jt;cases jt|global v=>simp only[vJ,hx0,AV.afJ]at jt;cases jt
 obtain⟨q,rfl,hX,hsb,Km,Jx⟩:=hx1;split at h;rename_i cs Uw;rw[Uw]at Km;simp only at Km;cases hc:(cs.all (AC.BE (GL cs))&&xs.all (Fj st))with
 |false=>rw[hc]at h;cases h
 |true=>
  rw[hc]at h;simp only[ah]at h;cases jO:(Γ k).fn (.val true (cs.map AC.XP)::xs.map (Ec st))with
  |none=>rw[jO]at h;cases h
  |some y=>
   rw[jO]at h;simp only[aa]at h;cases Zm:(((Γ k).back y).all (AC.BE true)&&((Γ k).av y).ahS)with
   |false=>rw[Zm]at h;cases h
   |true=>
    rw[Zm]at h;simp only[ah,hcur,Km,bW,bq]at h;subst h;refine⟨⟨o.dst.toList.map λd=>(d,((Γ k).av y).GM st.ep (st.iU o.dst)),some (s,qQ (GL cs) (λ_=>none) 0 ((Γ k).back y)),o.dst⟩,⟨λx hx=>?_,λb hb=>?_,λd hd=>hd⟩,?_,λst2 ha=>?_⟩;simp only[dH]at hx;obtain⟨d,hd,rfl⟩:=hx;simp[writes,hd];cases hb;simp[Ij,ho,gP,hsb];unfold MA.apply AS.put AS.fW AS.fD;cases o.dst<;>rfl;have e1:st2.rd f=st.rd f:=ha.rd (λt ht=>by simp[dZ,ho,ht]);have hl:∀x∈Operand.tmp q::xs,∀t∈tm x,t∈dZ o:=by intro x hx t ht;simp only[dZ,ho,aA,TK,List.mem_flatMap,gP];exact .inr ⟨x,hx,ht⟩
    have e2:st2.rd (.tmp q)=st.rd (.tmp q):=ha.rd (hl _ (by simp));have e3:nth st2.boxes s=nth st.boxes s:=ha.box s hX;have e4:∀x∈xs,Ec st2 x=Ec st x/\Fj st2 x=Fj st x:=λx hx=>adK (aF.1 Jx x hx) ha.er λt ht=>ha.get t (hl x (by simp[hx]) t ht);have e5:xs.map (Ec st2)=xs.map (Ec st):=List.map_congr_left λx hx=>(e4 x hx).1;have e6:xs.all (Fj st2)=xs.all (Fj st):=by rw[cG];simp only[aF];exact⟨λg x hx=>by rw[<-(e4 x hx).2];exact g x hx,λg x hx=>by rw[(e4 x hx).2];exact g x hx⟩
    simp only[dp,ho,GO,e1,hf,kD,ah,xh,gP,e2,hx0,e3,Uw,e5,e6,hc,jO,aa,Zm,hcur,Km,bW,ha.ep,ha.iU];unfold MA.apply AS.put AS.fW AS.fD;cases o.dst<;>rfl
 cases h;cases h;cases h
theorem adS (DA:∀f,(Γ f).io=false/\((Γ f).bx=true->(Γ f).cur=true)/\(Γ f).pr=false)(ho:o.op=.call {callee:=.value f,args,argTypes:=ts})(gQ:dM E an X o st=true)(h:GO Γ o f args.toList st some=some cp):eV E Γ an X o st cp:=by
 have hr:∀st2,iC an X o st st2->st2.rd f=st.rd f/\(args.toList.map λx=>((st2.rd x).fresh st2).asArg st2.ep)=args.toList.map λx=>((st.rd x).fresh st).asArg st.ep:=by
  intro st2 ha;refine⟨ha.rd (λt ht=>by simp[dZ,ho,ht]),?_⟩;apply List.map_congr_left;intro x hx;have HG:(st.rd x).now st.ep=true:=by simp only[dM,ho,af,aF]at gQ;exact gQ.2 x hx
  rw[ha.rd (λt ht=>by simp only[dZ,ho,aA,TK,List.mem_flatMap];exact .inr ⟨x,hx,ht⟩),Cx HG,Cx (s:=st2) (by rw[ha.ep];exact HG),ha.ep]
 unfold GO at h;split at h
 ·rename_i k hf
  cases kD:(Γ k).bx with
  |true=>rw[kD]at h;exact Tr ho gQ hf kD ((DA k).2.1 kD) h
  |false=>
  rw[kD,(DA k).2.2,(DA k).1]at h
  simp only[ae]at h
  cases hg:(Γ k).fn (args.toList.map λx=>((st.rd x).fresh st).asArg st.ep)with
  |none=>rw[hg]at h;cases h
  |some y=>
   rw[hg]at h
   simp only[aa]at h
   cases Ti:(Γ k).sel y with
   |true=>
    rw[Ti]at h
    cases h
    refine eV.new rfl λst2 ha=>?_
    simp only[dp,ho,GO,(hr st2 ha).1,hf,(DA k).1,kD,(DA k).2.2,ae]
    rw[(hr st2 ha).2,hg]
    simp only[aa,Ti,ah,ha.ep,ha.iU]
   |false=>
    rw[Ti]at h
    cases h
    refine eV.new rfl λst2 ha=>?_
    simp only[dp,ho,GO,(hr st2 ha).1,hf,(DA k).1,kD,(DA k).2.2,ae]
    rw[(hr st2 ha).2,hg]
    simp only[aa,Ti,ae,ha.ep,ha.iU]
 cases h
theorem Ts {src dst:TypeId}(ho:o.op=.convert src dst x)(h:mI E o src dst x st some=some cp):eV E Γ an X o st cp:=by
 have hr:∀st2,iC an X o st st2->st2.rd x=st.rd x:=λst2 ha=>ha.rd (λt ht=>by simpa[dZ,ho]using ht);unfold mI at h;split at h;rename_i h1 h2 h3;cases h;refine eV.put rfl λst2 ha=>?_;simp only[dp,ho,mI,hr st2 ha,h1,h2,h3];rename_i h1 h2 h3;cases h;refine eV.put rfl λst2 ha=>?_;simp only[dp,ho,mI,hr st2 ha,h1,h2,h3];rename_i kF val s Js h1 h2 h3;split at h;rename_i hb;unfold room at h;split at h;rename_i hrm;cases h;refine eV.new (v:=.one (.sl (.own (st.iU o.dst 0)) (.int .u8) (fX s))) rfl λst2 ha=>?_;have Kr:∀k:AS->az AS,mI E o src dst x st2 k=if E.bytes dst then room s.length (k (st2.ri o.dst (.int .u8) (fX s))) else none:=by intro k;unfold mI;rw[hr st2 ha,h1,h2,h3];obtain⟨ag,ct,of⟩:=val;cases ag with|true=>rfl|false=>cases ct with|str=>exact(Js _ rfl).elim|_=>rfl
 simp only[dp,ho];rw[Kr,aI hb,room,aI hrm,AS.ri,ha.iU];cases h;cases h;rename_i val kF fl xs h1 h2 h3;split at h;rename_i hb;cases h;refine eV.put rfl λst2 ha=>?_;have Kr:∀k:AS->az AS,mI E o src dst x st2 k=if E.bytes src/\fl.live st2.ep then k (st2.put o.dst (.one (.str (bf xs)))) else none:=by intro k;unfold mI;rw[hr st2 ha,h1,h2,h3];obtain⟨ag,ct,of⟩:=val;cases ag with|true=>rfl|false=>cases ct<;>rfl
 simp only[dp,ho];rw[Kr,ha.ep,aI hb];cases h;cases h
theorem NG {d:Nat}:(⟨[(d,v)],some (d,cs),none⟩:MA).apply st=(st.fD d (some cs)).put (some d) v:=rfl
theorem aar (ho:o.op=.alloc T)(h:FI E o T st some=some cp):eV E Γ an X o st cp:=by unfold FI at h;split at h;rename_i d sh hd hT;split at h;rename_i hb;cases h;refine⟨⟨[(d,.one (.ptr d 0))],some (d,cellsOf sh.ct (.own none) sh.ct.zero),none⟩,⟨λx hx=>?_,λb iz=>?_,λ_ hh=>by cases hh⟩,?_,λst2 ha=>?_⟩;simp only[bI]at hx;subst hx;simp[writes,hd];cases iz;simp[Ij,ho,hd];rw[NG,hd];simp only[dp,ho,FI,hd,hT,(ha.dst d hd).2,hb,NG];cases h;cases h
def pz (st:AS):Operand->aw (Nat×AV)
 | .tmp t=>[(t,(st.get t).bl st.ep)]
 |_=>[]
theorem EJ (l:aw AV)(a b:aw (Nat×AV)):kG l (a++b)=kG (kG l a) b:=by induction a generalizing l with|nil=>rfl|cons x a ih=>exact ih _
def AS.kT (st:AS)(l:aw (Nat×AV)):AS:={st with slots:=kG st.slots l}
theorem sU (a b:aw (Nat×AV)):st.kT (a++b)=(st.kT a).kT b:=by simp only[AS.kT,EJ]
theorem FD (x:Operand):(st.take x).2=st.kT (pz st x):=by cases x<;>rfl
theorem GF (Bs:st2.ep=st.ep)(h:∀t∈tm x,st2.get t=st.get t):(st2.take x).1=(st.take x).1/\(st2.take x).2=st2.kT (pz st x):=by cases x with|tmp t=>have:=h t (by simp[tm]);refine⟨this,?_⟩;rw[FD];simp only[pz,this,Bs]|const v=>exact⟨rfl,rfl⟩|func f=>exact⟨rfl,rfl⟩|global g=>exact⟨rfl,rfl⟩
theorem Mt:∀y∈pz st x,y.1∈tm x:=by cases x<;>simp[pz,tm]
theorem adU (ho:o.op=.move x)(h:Fs an o x st some=some cp):eV E Γ an X o st cp:=by
 unfold Fs at h;cases hd:o.dst with
 |none=>rw[hd]at h;cases h
 |some d=>
  rw[hd]at h;cases hf:an.mv.contains d with
  |false=>simp only[hf,bn,cJ]at h;cases h;refine eV.put (v:=st.rd x) (by rw[hd]) λst2 ha=>?_;have hr:st2.rd x=st.rd x:=ha.rd (λt ht=>by simpa[dZ,ho]using ht);simp only[dp,ho,Fs,hd,hf,bn,cJ,hr]
  |true=>
   simp only[hf,cz]at h;cases h;have hr:∀st2,iC an X o st st2->(st2.take x).1=(st.take x).1/\(st2.take x).2=st2.kT (pz st x):=λst2 ha=>GF ha.ep λt ht=>ha.get t (by simpa[dZ,ho]using ht);refine⟨⟨pz st x++[(d,(st.take x).1)],none,none⟩,⟨λy hy=>?_,λ_ hh=>(by cases hh),λ_ hh=>(by cases hh)⟩,?_,λst2 ha=>?_⟩;rcases aA.1 hy with hy|hy;have:=Mt y hy;have hf':d∈an.mv:=by simpa using hf
   simp[writes,Ig,ho,hd,hf',dZ,this];simp only[bI]at hy;subst hy;simp[writes,hd];rw[FD];show _=st.kT _;rw[sU];rfl;simp only[dp,ho,Fs,hd,hf,cz,(hr st2 ha).1,(hr st2 ha).2];show some ((st2.kT (pz st x)).put (some d) (st.take x).1)=some (st2.kT _);rw[sU];rfl
theorem YJ {ep:Nat}(h:cs.all AC.kh=true):bl ep cs=cs:=by
 rw[aF]at h;unfold bl;have:cs.map (AC.borrow ep none)=cs.map id:=List.map_congr_left λc hc=>by have:=h c hc;cases c<;>first|rfl|(simp[AC.kh]at this)
 rw[this,List.map_id]
theorem aoo {s:AS}{vs:aw (Bool×aw AC)}(h:s.get t=.yC vs):s.put (some t) (.yC vs)=s:=by cases s with|mk slots boxes ep iss io=>simp only[AS.put,AS.mk.injEq,jg];rw[fV];apply dj;intro i;rw[bO];split;rename_i hd;subst hd;simp only[AS.get,ez]at h;split;rename_i gr;rw[ak gr]at h⊢;simp only[fY]at h;rw[h];rename_i BN;rw[bJ (kM BN)];rfl
theorem Tt {i:Nat}(ho:o.op=.extract (.tmp t) i)(gQ:dM E an X o st=true)(h:mJ o t i st some=some cp):eV E Γ an X o st cp:=by
 have hr:∀st2,iC an X o st st2->st2.get t=st.get t:=λst2 ha=>ha.get t (by simp[dZ,ho]);unfold mJ at h;simp only[dM,ho]at gQ;split at h
 ·rename_i vs hv;rw[hv]at gQ;split at h
  ·rename_i g cs hn;simp only[hn]at gQ;have hfl:cs.all AC.kh=true\/∃d,o.dst=some d/\an.mv.contains d=true:=by cases hd:o.dst with|none=>simp only[hd,Bool.or_false]at gQ;exact .inl gQ|some d=>simp only[hd,dk]at gQ;rcases gQ with h|h;exact .inl h;exact .inr ⟨d,rfl,h⟩
   rcases hfl with gQ|⟨d,hd,GV⟩;rotate_left;cases h;refine⟨⟨[(t,.yC (iO vs i (g,bl 0 cs))),(d,.val g cs)],none,none⟩,⟨λx hx=>?_,(λ_ hb=>by cases hb),(λ_ hh=>by cases hh)⟩,?_,λst2 ha=>?_⟩;simp only[bZ,List.not_mem_nil,or_false]at hx;rcases hx with rfl|rfl;simp only[writes,Ig,ho,hd,GV,ah,dZ];simp;simp only[writes,hd];simp;rw[hd];rfl;have h2:st2.get t=.yC vs:=by rw[hr st2 ha,hv]
   simp only[dp,ho,mJ,h2,hn,hd];rfl;skip;have Jf:iO vs i (g,cs)=vs:=by rw[fV];rw[ez]at hn;apply dj;intro k;rw[bO];split;rename_i hk;subst hk;obtain⟨hl,he⟩:=aC.1 hn;rw[aI hl,hn];rfl
   have key:∀s:AS,s.get t=.yC vs->(s.put (some t) (.yC (iO vs i (g,bl 0 cs))))=s:=λs hs=>by rw[YJ gQ,Jf,aoo hs]
   rw[key st hv]at h;cases h;refine eV.put rfl λst2 ha=>?_;have h2:st2.get t=.yC vs:=by rw[hr st2 ha,hv]
   simp only[dp,ho,mJ,h2,hn];rw[key st2 h2]
  cases h
 cases h
def Co (st:AS):Operand->aw (Nat×AV)
 | .tmp t=>[(t,(st.get t).bl st.ep)]
 |_=>[]
theorem SE (st:AS)(x:Operand):(st.take x).2=⟨kG st.slots (Co st x),st.boxes,st.ep,st.iss,st.io⟩:=by cases x<;>rfl
theorem aaw {pp:Nat}(ho:o.op=.store T (.tmp pp) x)(hd:o.dst=none)(hm:oI an o=true)(gQ:dM E an X o st=true)(h:zC E T (.tmp pp) x st some=some cp):eV E Γ an X o st cp:=by
 have hr:∀st2,iC an X o st st2->st2.rd (.tmp pp)=st.rd (.tmp pp):=λst2 ha=>ha.rd (λt ht=>by simp only[dZ,ho,aA];exact .inl ht);have hsb:(an.sb pp).isNone=false:=by simp only[oI,ho,af]at hm;cases hb:an.sb pp with|none=>rw[hb]at hm;cases hm.1|some _=>rfl
 simp only[dM,ho,hsb,eF,cZ]at gQ;unfold zC at h;split at h;rename_i sh s off hT hp;rw[hp]at gQ;simp only[af,aM,ba]at gQ;split at h;rename_i gg vs st1 vd;have WQ:(st.take x).1=.val gg vs:=by rw[vd]
 have HH:st1=⟨kG st.slots (Co st x),st.boxes,st.ep,st.iss,st.io⟩:=by rw[<-SE,vd]
 split at h;rename_i cs hb;split at h;rename_i hlen;split at h;rename_i ik;cases h;have kD:∀st2,iC an X o st st2->nth st2.boxes s=nth st.boxes s:=λst2 ha=>ha.box s gQ.1;refine⟨⟨Co st x,some (s,eX cs off vs),none⟩,⟨λy hy=>?_,λb iz=>?_,λ_ hh=>by cases hh⟩,?_,λst2 ha=>?_⟩;cases x with|tmp t=>simp only[Co,bI]at hy;subst hy;simp only[writes,Ig,ho,ah,dZ,hd];simp[tm]|_=>simp[Co]at hy
 cases iz;simp only[Ij,ho,gQ.2];simp;rw[HH];rfl;have hx2:(st2.take x).1=(st.take x).1/\Co st2 x=Co st x:=by cases x with|tmp t=>have hg:st2.get t=st.get t:=ha.get t (by simp[dZ,ho,tm]);simp only[AS.take,Co,hg,ha.ep];simp|const v=>exact⟨rfl,rfl⟩|func f=>exact⟨rfl,rfl⟩|global g=>exact⟨rfl,rfl⟩
 have ht2:st2.take x=(.val gg vs,⟨kG st2.slots (Co st x),st2.boxes,st2.ep,st2.iss,st2.io⟩):=by rw[<-hx2.2,<-SE,<-WQ,<-hx2.1]
 have hb2:(nth st2.boxes s).getD none=some cs:=by rw[kD st2 ha];rw[HH]at hb;exact hb
 have GU:C2 an o=false:=by simp only[oI,ho,af,aM]at hm;exact hm.2
 simp only[dp,ho,hd,GU,bn,cJ,zC,hT,hr st2 ha,hp,ht2,hb2,aI hlen,aI ik];rfl;cases h;cases h;cases h;cases h;rename_i r _ _ _ _ _ _ hp;rw[hp]at gQ;cases r<;>simp at gQ;cases h
theorem Xa (ho:o.op=.assign x)(hm:oI an o=true)(h:xg E an o x st some=some cp):eV E Γ an X o st cp:=by
 have hr:∀st2,iC an X o st st2->(st2.take x).1=(st.take x).1/\(st2.take x).2=st2.kT (pz st x):=λst2 ha=>GF ha.ep λt ht=>ha.get t (by simpa[dZ,ho]using ht);have GU:C2 an o=false:=by simpa[oI,ho]using hm
 unfold xg at h;split at h;rename_i st1 vd;split at h;rename_i e hT;cases h;refine eV.put rfl λst2 ha=>?_;have h2:st2.take x=(.val false [.kv],st2.kT (pz st x)):=Prod.ext (by rw[(hr st2 ha).1,vd]) (hr st2 ha).2;simp only[dp,ho,xg,GU,bn,cJ,h2,hT];cases h;rename_i v st1 Js vd;cases h;have HH:st1=st.kT (pz st x):=by rw[<-FD,vd]
 refine⟨⟨pz st x++o.dst.toList.map λd=>(d,v),none,none⟩,⟨λy hy=>?_,λ_ hh=>(by cases hh),λ_ hh=>(by cases hh)⟩,?_,λst2 ha=>?_⟩;rcases aA.1 hy with hy|hy;have:=Mt y hy;simp[writes,Ig,ho,dZ,this];obtain⟨d,hd,rfl⟩:=dH.1 hy;simp[writes,hd];rw[HH];show _=st.kT _;rw[sU];cases o.dst<;>rfl;have h2:st2.take x=(v,st2.kT (pz st x)):=Prod.ext (by rw[(hr st2 ha).1,vd]) (hr st2 ha).2;simp only[dp,ho,xg,GU,bn,cJ,h2];show some ((st2.kT (pz st x)).put o.dst v)=some (st2.kT _);rw[sU];cases o.dst<;>rfl
theorem kl {α:Type}(l:aw α)(i:Nat)(v:α)(t:Nat):nth (iO l i v) t=if i=t then(if i<l.length then some v else none) else nth l t:=by rw[ez,fV,ez,bO]
theorem RU (l:aw AV)(a:aw (Nat×AV)):(kG l a).length=l.length:=by induction a generalizing l with|nil=>rfl|cons x a ih=>rw[kG,ih,fV,ay]
theorem ad9 {l l2:aw AV}(a:aw (Nat×AV))(hl:l2.length=l.length)(t:Nat)(h:nth l2 t=nth l t):nth (kG l2 a) t=nth (kG l a) t:=by induction a generalizing l l2 with|nil=>exact h|cons x a ih=>refine ih (by rw[fV,fV,ay,ay,hl]) ?_;rw[kl,kl,hl,h]
theorem adZ (h:st2.get t=st.get t)(hl:st2.slots.length=st.slots.length):nth st2.slots t=nth st.slots t:=by unfold AS.get at h;rw[ez,ez]at h⊢;rcases bT t st.slots.length with gr|BN;rw[ak gr,ak (by omega)]at h⊢;simpa using h;rw[bJ BN,bJ (by omega)]
def kB (st:AS):aw Operand->aw (Nat×AV)
 |[]=>[]
 |x::xs=>pz st x++kB (st.kT (pz st x)) xs
theorem Dv:∀(xs:aw Operand)(st:AS),∀y∈kB st xs,y.1∈TK xs
 |[],_,y,hy=>by cases hy
 |x::xs,st,y,hy=>by simp only[TK,List.flatMap_cons,aA];rcases aA.1 hy with hy|hy;exact .inl (Mt y hy);exact .inr (Dv xs _ y hy)
theorem EP:∀(xs:aw Operand)(st st2:AS),st2.ep=st.ep->st2.slots.length=st.slots.length->(∀t∈TK xs,nth st2.slots t=nth st.slots t)->
 (fM st2 xs).1=(fM st xs).1/\(fM st2 xs).2=st2.kT (kB st xs)
 |[],st,st2,_,_,_=>⟨rfl,rfl⟩
 |x::xs,st,st2,Bs,hl,hg=>by
  have hx:∀t∈tm x,st2.get t=st.get t:=λt ht=>by unfold AS.get;rw[hg t (by simp[TK,ht])]
  obtain⟨h1,h2⟩:=GF (st:=st) (st2:=st2) Bs hx;have h3:=FD (st:=st) x;obtain⟨k1,k2⟩:=EP xs (st.kT (pz st x)) (st2.kT (pz st x)) Bs (by simp only[AS.kT,RU,hl]) (λt ht=>ad9 _ hl t (hg t (by simp only[TK,List.flatMap_cons,aA];exact .inr ht)));have e1:fM st (x::xs)=((st.take x).1::(fM (st.take x).2 xs).1,(fM (st.take x).2 xs).2):=rfl;have e2:fM st2 (x::xs)=((st2.take x).1::(fM (st2.take x).2 xs).1,(fM (st2.take x).2 xs).2):=rfl;rw[e1,e2,h1,h2,h3];refine⟨by rw[k1],?_⟩;show(fM (st2.kT (pz st x)) xs).2=_;rw[k2,kB,sU]
theorem GD (xs:aw Operand):(fM st xs).2=st.kT (kB st xs):=(EP xs st st rfl rfl (λ_ _=>rfl)).2
theorem iC.fM (ha:iC an X o st st2){xs:aw Operand}(hx:∀t∈TK xs,t∈dZ o):(fM st2 xs).1=(Dn.fM st xs).1/\(Dn.fM st2 xs).2=st2.kT (kB st xs):=EP xs st st2 ha.ep ha.len λt ht=>adZ (ha.get t (hx t ht)) ha.len
theorem aas (ho:o.op=.build T parts)(h:Eu E o T parts.toList st some=some cp):eV E Γ an X o st cp:=by
 have hl:∀t∈TK (parts.toList.map (·.2)),t∈dZ o:=λt ht=>by simp only[dZ,ho];exact ht
 unfold Eu at h;split at h;rename_i ct kF hT;split at h;rename_i vs st1 vd;have HH:st1=st.kT (kB st (parts.toList.map (·.2))):=by rw[<-GD,vd]
 split at h;rename_i cs hb;cases h;refine⟨⟨kB st (parts.toList.map (·.2))++o.dst.toList.map λd=>(d,.val true cs),none,none⟩,⟨λy hy=>?_,λ_ hh=>(by cases hh),λ_ hh=>(by cases hh)⟩,?_,λst2 ha=>?_⟩;rcases aA.1 hy with hy|hy;have:=hl _ (Dv _ _ y hy);simp[writes,Ig,ho,this];obtain⟨d,hd,rfl⟩:=dH.1 hy;simp[writes,hd];rw[HH];show _=st.kT _;rw[sU];cases o.dst<;>rfl;obtain⟨k1,k2⟩:=ha.fM hl;have h2:fM st2 (parts.toList.map (·.2))=(vs,st2.kT (kB st (parts.toList.map (·.2)))):=Prod.ext (by rw[k1,vd]) k2;simp only[dp,ho,Eu,hT,h2,hb];show some ((st2.kT _).put o.dst _)=some (st2.kT _);rw[sU];cases o.dst<;>rfl;cases h;cases h
theorem eV.arG (ht:Ig an o=true)(hl:∀y∈tl,y.1∈dZ o)(h:cp=((st.kT tl).fW o.dst).put o.dst v)(h2:∀st2,iC an X o st st2->dp E Γ an o st2 some=some (((st2.kT tl).fW o.dst).put o.dst v)):eV E Γ an X o st cp:=by
 have key:∀s:AS,(⟨tl++o.dst.toList.map λd=>(d,v),none,o.dst⟩:MA).apply s=((s.kT tl).fW o.dst).put o.dst v:=by intro s;cases o.dst with|none=>simp only[MA.apply,Option.toList,List.map_nil,bR,AS.kT,AS.fW,AS.put]|some d=>simp only[MA.apply,Option.toList,db,List.map_nil,EJ,AS.kT,AS.fW,AS.put,kG]
 refine⟨⟨tl++o.dst.toList.map λd=>(d,v),none,o.dst⟩,⟨λy hy=>?_,λ_ hh=>(by cases hh),λd hh=>hh⟩,by rw[key];exact h,λst2 ha=>by rw[key];exact h2 st2 ha⟩;rcases aA.1 hy with hy|hy;simp[writes,ht,hl y hy];obtain⟨d,hd,rfl⟩:=dH.1 hy;simp[writes,hd]
theorem CD {d:az Nat}:(st.kT tl).iU d=st.iU d:=rfl
theorem M7 {len:Nat}(ho:o.op=.buildSlice T len parts)(h:mG E o T len parts.toList st some=some cp):eV E Γ an X o st cp:=by
 have hl:∀t∈TK (parts.toList.map (·.2)),t∈dZ o:=λt ht=>by simp only[dZ,ho];exact ht
 unfold mG at h;split at h;rename_i e hT;split at h;rename_i hc;split at h;rename_i vs st1 vd;have HH:st1=st.kT (kB st (parts.toList.map (·.2))):=by rw[<-GD,vd]
 split at h;rename_i xs hb;cases h;refine eV.arG (tl:=kB st (parts.toList.map (·.2))) (v:=.one (.sl (.own (st.iU o.dst 0)) e xs)) (by simp[Ig,ho]) (λy hy=>hl _ (Dv _ _ y hy)) ?_ λst2 ha=>?_;rw[HH,AS.ri,CD];obtain⟨k1,k2⟩:=ha.fM hl;have h2:fM st2 (parts.toList.map (·.2))=(vs,st2.kT (kB st (parts.toList.map (·.2)))):=Prod.ext (by rw[k1,vd]) k2;simp only[dp,ho,mG,hT,h2,hb,aI hc];rw[AS.ri,CD,ha.iU];cases h;cases h;cases h
theorem Pc {n c:Operand}(ho:o.op=.makeSlice T n c)(h:pK E o T n c st some=some cp):eV E Γ an X o st cp:=by
 have hr:∀st2,iC an X o st st2->st2.rd n=st.rd n/\st2.rd c=st.rd c:=λst2 ha=>
  ⟨ha.rd (λt ht=>by simp[dZ,ho,ht]),ha.rd (λt ht=>by simp[dZ,ho,ht])⟩
 unfold pK at h;split at h;rename_i e len cap hT hn hc;split at h;rename_i hlc;unfold room at h;split at h;rename_i hrm;cases h;refine eV.new (v:=.one (.sl (.own (st.iU o.dst 0)) e (List.replicate len.toNat e.zero))) rfl λst2 ha=>?_;simp only[dp,ho,pK,(hr st2 ha).1,(hr st2 ha).2,hT,hn,hc,aI hlc,room,aI hrm,AS.ri,ha.iU];cases h;cases h;cases h
theorem W9 (ho:o.op=.call {callee:=.builtin .append,args,argTypes:=ts})(h:zF E o ts.toList args.toList st some=some cp):eV E Γ an X o st cp:=by
 have hlk:∀t∈TK args.toList,t∈dZ o:=λt ht=>by simp only[dZ,ho];exact ht
 unfold zF at h;split at h;rename_i t t' s x vK gP;have hl:∀u∈TK [s,x],u∈dZ o:=by rw[<-gP];exact hlk
 have ao4:∀st2,iC an X o st st2->(st2.take s).1=(st.take s).1/\((st2.take s).2.take x).1=((st.take s).2.take x).1/\((st2.take s).2.take x).2=st2.kT (kB st [s,x]):=by intro st2 ha;obtain⟨k1,k2⟩:=ha.fM hl;simp only[Dn.fM,List.cons.injEq,jg]at k1 k2;exact⟨k1.1,k1.2,k2⟩
 have Jx:((st.take s).2.take x).2=st.kT (kB st [s,x]):=GD (st:=st) [s,x];split at h;rename_i tag e xs st1 WQ;split at h;rename_i fl e' ys arD Lu;split at h;rename_i he;subst he;split at h;rename_i hc;unfold room at h;split at h;rename_i hrm;cases h;have HH:(st.take s).2=st1:=by rw[WQ]
 have WO:arD=st.kT (kB st [s,x]):=by rw[<-Jx,HH,Lu]
 refine eV.arG (tl:=kB st [s,x]) (v:=.one (.sl (.own (st.iU o.dst 0)) e' (xs++ys))) (by simp[Ig,ho]) (λy hy=>hl _ (Dv _ _ y hy)) ?_ λst2 ha=>?_;rw[WO,AS.ri,CD];obtain⟨k1,k2,k3⟩:=ao4 st2 ha;have e1:st2.take s=(.val false [.sl (.own tag) e' xs],(st2.take s).2):=Prod.ext (by rw[k1,WQ]) rfl;have e2:(st2.take s).2.take x=(.val false [.sl fl e' ys],st2.kT (kB st [s,x])):=Prod.ext (by rw[k2,HH,Lu]) k3;simp only[dp,ho,zF,vK,gP];rw[e1];simp only;rw[e2];simp only[dite_true,ha.ep,aI hc,room,aI hrm,AS.ri,CD,ha.iU];cases h;cases h;cases h;rename_i sx arD Lu;split at h;rename_i he;subst he;split at h;rename_i hc;unfold room at h;split at h;rename_i hrm;cases h;have HH:(st.take s).2=st1:=by rw[WQ]
 have WO:arD=st.kT (kB st [s,x]):=by rw[<-Jx,HH,Lu]
 refine eV.arG (tl:=kB st [s,x]) (v:=.one (.sl (.own (st.iU o.dst 0)) (.int .u8) (xs++fX sx))) (by simp[Ig,ho]) (λy hy=>hl _ (Dv _ _ y hy)) ?_ λst2 ha=>?_;rw[WO,AS.ri,CD];obtain⟨k1,k2,k3⟩:=ao4 st2 ha;have e1:st2.take s=(.val false [.sl (.own tag) (.int .u8) xs],(st2.take s).2):=Prod.ext (by rw[k1,WQ]) rfl;have e2:(st2.take s).2.take x=(.val false [.str sx],st2.kT (kB st [s,x])):=Prod.ext (by rw[k2,HH,Lu]) k3;simp only[dp,ho,zF,vK,gP];rw[e1];simp only;rw[e2];simp only[dite_true,aI hc,room,aI hrm,AS.ri,CD,ha.iU];cases h;cases h;cases h;cases h;cases h;cases h
theorem ahM (ho:o.op=.box T x)(h:VV o x st some=some cp):eV E Γ an X o st cp:=by
 have hr:∀st2,iC an X o st st2->(st2.take x).1=(st.take x).1/\(st2.take x).2=st2.kT (pz st x):=λst2 ha=>GF ha.ep λt ht=>ha.get t (by simpa[dZ,ho]using ht);unfold VV at h;split at h;rename_i d g cs st1 hd vd;have HH:st1=st.kT (pz st x):=by rw[<-FD,vd]
 split at h;rename_i hb;split at h;rename_i hs;cases h;have Uw:nth st.boxes d=some none:=by rw[HH]at hb;exact hb
 have key:∀s:AS,(⟨pz st x++[(d,.one (.ptr d 0))],some (d,cs),none⟩:MA).apply s=((s.kT (pz st x)).fD d (some cs)).put (some d) (.one (.ptr d 0)):=by intro s;simp only[MA.apply,EJ,AS.kT,AS.fD,AS.put,kG]
 refine⟨⟨pz st x++[(d,.one (.ptr d 0))],some (d,cs),none⟩,⟨λy hy=>?_,λb iz=>?_,λ_ hh=>(by cases hh)⟩,?_,λst2 ha=>?_⟩;rcases aA.1 hy with hy|hy;have:=Mt y hy;simp[writes,Ig,ho,dZ,this];simp only[bI]at hy;subst hy;simp[writes,hd];cases iz;simp[Ij,ho,hd];rw[key,HH,hd];have h2:st2.take x=(.val g cs,st2.kT (pz st x)):=Prod.ext (by rw[(hr st2 ha).1,vd]) (hr st2 ha).2;have hb2:nth (st2.kT (pz st x)).boxes d=some none:=by show nth st2.boxes d=_;rw[(ha.dst d hd).2];exact Uw
 simp only[dp,ho,VV,hd,h2,hb2,aI hs,key];cases h;cases h;cases h
theorem Sv (DA:∀f,(Γ f).io=false/\((Γ f).bx=true->(Γ f).cur=true)/\(Γ f).pr=false)(hm:oI an o=true)(gQ:dM E an X o st=true)(h:dp E Γ an o st some=some cp):eV E Γ an X o st cp:=by
 have h0:=h;unfold dp at h;split at h;rename_i ho;exact adU ho h;rename_i ho;have GU:C2 an o=false:=by simpa[oI,ho]using hm
 rw[aK (by simp[GU])]at h;exact Xa ho hm h;rename_i ho;exact adV ho h;rename_i ho;exact aar ho h;rename_i ho;exact ahM ho h;rename_i ho;exact adT ho hm gQ h;rename_i T p x ho;split at h;rename_i hd;cases p with
 |tmp pp=>
  have GU:C2 an o=false:=by simp only[oI,ho,af,aM]at hm;exact hm.2
  rw[aK (by simp[GU])]at h;exact aaw ho hd hm gQ h
 |const v=>simp[oI,ho]at hm
 |func f=>simp[oI,ho]at hm
 |global g=>simp[oI,ho]at hm
 cases h;rename_i ho;exact RE ho h0;rename_i ho;exact ahL ho h;rename_i ho;exact alz ho h;rename_i ho;exact aat ho h;rename_i ho;exact Pb ho gQ h;rename_i ho;exact aau ho h;rename_i ho;exact aas ho h;rename_i ho;exact M7 ho h;rename_i ho;exact Pc ho h;rename_i ho;exact aav ho hm gQ h;rename_i ho;simp[oI,ho]at hm;rename_i ho;simp[oI,ho]at hm;rename_i ho;exact Ts ho h;rename_i ho;exact Tt ho gQ h;rename_i ho;exact ahN ho h;rename_i ho;exact ahP ho h;rename_i ho;exact ahO ho h;rename_i ho;exact W9 ho h;rename_i ho;exact adS DA ho gQ h;cases h
end Go.Dn
