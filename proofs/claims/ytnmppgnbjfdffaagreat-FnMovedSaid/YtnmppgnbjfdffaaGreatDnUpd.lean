import Derived.Test.YtnmppgnbjfdffaaGreatDnMask
/- What an operation looks at and what it turns: for regions whose order is drawn. -/
namespace Go.Dn
structure GS where
 slots:List (Nat×AV):=[]
 box:Option (Nat×List AC):=none
 iss:Option Nat:=none
def jx (l:aw AV):aw (Nat×AV)->aw AV
 |[]=>l
 |x::r=>jx (gK l x.1 x.2) r
def GS.apply (u:GS)(st:AS):AS:=
 ⟨jx st.slots u.slots,(match u.box with|some b=>gK st.boxes b.1 (some b.2)|none=>st.boxes),st.ep,(match u.iss with|some d=>gK st.iss d true|none=>st.iss),st.io⟩
structure gB (an:An) (X:List Nat) (o:Oper) (st st2:AS):Prop where
 len:st2.slots.length=st.slots.length
 get:∀t∈dB o,st2.get t=st.get t
 ep:st2.ep=st.ep
 dst:∀d,o.dst=some d->nth st2.iss d=nth st.iss d/\nth st2.boxes d=nth st.boxes d
 box:∀s,X.contains s=false->nth st2.boxes s=nth st.boxes s
 er:∀t∈erS an o,st2.get t=st.get t
structure GS.Er (an:An) (u:GS) (o:Oper):Prop where
 slots:∀x∈u.slots,x.1∈writes an o
 box:∀b,u.box=some b->b.1∈C4 an o
 iss:∀d,u.iss=some d->o.dst=some d
variable {E:Env} {Γ:xT} {an:An} {X:fw} {o:Oper} {st st2 bH:AS}
variable {v:AV} {parts:Array (Nat×Operand)} {args:Array Operand} {ts:Array TypeId} {t:Nat} {f p x:Operand} {T:TypeId} {tl:aw (Nat×AV)} {cs:aw AC}
theorem adb (wN:st2.ep=st.ep)(h:∀t∈tm x,st2.get t=st.get t):st2.rd x=st.rd x:=by cases x with|tmp t=>simp only[AS.rd,wN,h t (by simp[tm])]|const v=>rfl|func f=>rfl|global g=>rfl
def dY (E:Env)(Γ:xT)(an:An)(X:fw)(o:Oper)(st bH:AS):Prop:=
 ∃u:GS,u.Er an o/\bH=u.apply st/\∀st2,gB an X o st st2->cY E Γ an o st2 some=some (u.apply st2)
def BD (o:Oper)(v:AV):GS:={slots:=o.dst.toList.map λd=>(d,v)}
theorem qQ (v:AV):(BD o v).apply st=st.put o.dst v:=by unfold BD GS.apply AS.put;cases o.dst<;>rfl
theorem Aa (v:AV):(BD o v).Er an o:=by refine⟨λx hx=>?_,λb hb=>by simp[BD]at hb,λd hd=>by simp[BD]at hd⟩;simp only[BD,List.mem_map]at hx;obtain⟨d,hd,rfl⟩:=hx;simp[writes,hd]
def E4 (o:Oper)(v:AV):GS:={slots:=o.dst.toList.map λd=>(d,v),iss:=o.dst}
theorem GO (v:AV):(E4 o v).apply st=(st.fz o.dst).put o.dst v:=by unfold E4 GS.apply AS.put AS.fz;cases o.dst<;>rfl
theorem MO (v:AV):(E4 o v).Er an o:=by refine⟨λx hx=>?_,λb hb=>by simp[E4]at hb,λd hd=>by simpa[E4]using hd⟩;simp only[E4,List.mem_map]at hx;obtain⟨d,hd,rfl⟩:=hx;simp[writes,hd]
theorem dY.put (h:bH=st.put o.dst v)(h2:∀st2,gB an X o st st2->cY E Γ an o st2 some=some (st2.put o.dst v)):dY E Γ an X o st bH:=⟨BD o v,Aa v,by rw[qQ];exact h,λst2 ha=>by rw[qQ];exact h2 st2 ha⟩
theorem gB.rd (ha:gB an X o st st2)(hx:∀t∈tm x,t∈dB o):st2.rd x=st.rd x:=adb ha.ep λt ht=>ha.get t (hx t ht)
theorem VJ {c y:Operand}(ho:o.op=.pick c x y)(h:CI o c x y st some=some bH):dY E Γ an X o st bH:=by
 have hr:∀st2,gB an X o st st2->st2.rd c=st.rd c/\st2.rd x=st.rd x/\st2.rd y=st.rd y:=λst2 ha=>
  ⟨ha.rd (λt ht=>by simp[dB,ho,ht]),ha.rd (λt ht=>by simp[dB,ho,ht]),ha.rd (λt ht=>by simp[dB,ho,ht])⟩
 unfold CI at h;split at h;rename_i t hc;split at h;rename_i a b hx hy;cases h;refine dY.put rfl λst2 ha=>?_;obtain⟨h1,h2,h3⟩:=hr st2 ha;simp only[cY,ho,CI,h1,h2,h3,hc,hx,hy];rename_i va vb Fc;have Yu:∀st2,gB an X o st st2->cY E Γ an o st2 some=cond t (some (st2.put o.dst (st.rd x))) (some (st2.put o.dst (st.rd y))):=by intro st2 ha;obtain⟨h1,h2,h3⟩:=hr st2 ha;simp only[cY,ho,CI,h1,h2,h3,hc]
 cases t with|true=>cases h;exact dY.put rfl λst2 ha=>Yu st2 ha|false=>cases h;exact dY.put rfl λst2 ha=>Yu st2 ha
 cases h
theorem KV {d s:Nat}:(⟨[(d,v)],some (s,cs),none⟩:GS).apply st=(st.eF s (some cs)).put (some d) v:=rfl
theorem Oa {o:Oper}(h:CY an o=true):∃T q d,o.op=.load T (.tmp q)/\o.dst=some d/\o.guard=none/\an.mv.contains d=true/\an.mb d=none:=by unfold CY at h;split at h;rename_i T q d ho hd hg;simp only[ae,Option.isNone_iff_eq_none]at h;exact⟨T,q,d,ho,hd,hg,h.1.1,h.1.2⟩;cases h
def GL (st:AS)(b j t:Nat)(e:CT)(i:Int)(cs:aw AC)(ys:aw e.D):AS:=st.eF b (some (gK cs j (.sl (.fg (some t) i (some st.ep)) e ys)))
theorem LQ {q d:Nat}(ht:CY an o=true)(ho:o.op=.load T (.tmp q))(hd:o.dst=some d)(BO:an.mv.contains d=true)(TI:an.mb d=none):(dq E an X o st=true/\oh E an o T (.tmp q) st some=some bH)↔ ∃(g:Bool)(e:CT)(jw:aw (Nat×Nat))(b j t J5:Nat)(x:e.D)(i:Int)(cs:aw AC)(ys:aw e.D)(y:e.D),iR E.ty T=some ⟨g,e,jw⟩/\st.rd (.tmp q)=.val false [.zM (.loc J5 (some (.box b j,t))) e x i 0]/\(nth st.boxes b).getD none=some cs/\nth cs j=some (.sl (.own (some t)) e ys)/\idx ys i=some y/\ X.contains b=false/\an.eb q=some b/\TG an o=false/\bH=(GL st b j t e i cs ys).put (some d) (.val g (cellsOf e (.own none) y)):=by
 have rk:C2 an o=true:=by unfold C2;rw[hd];simp only[BO,TI];rfl
 have Im:zZ an o=false:=by unfold zZ;split;rename_i hd' _;rw[hd]at hd';cases hd';rw[TI];simp;rfl
 have hnp:zw an o=false:=by unfold zw;split;rename_i hd' _;rw[hd]at hd';cases hd';rw[BO];rfl;rfl
 constructor;rintro⟨hf,h⟩;unfold oh at h;split at h;rename_i hp;simp only[dq,ho,hp,hd,BO,TI]at hf;simp at hf;rename_i sh fl e x i off hT hp;rw[aE rk]at h;simp only[dq,ho,hp,ht,Im,hnp,Bool.or_false,bF,aj,cG,dS,ae,aK]at hf;obtain⟨⟨Fa,Jt⟩,hb⟩:=hf;unfold wF at h;split at h;rename_i J5 r t;cases r with
 |slot _ _=>cases hb
 |io _=>cases hb
 |box b j=>
  simp only[ae,aS,aK]at hb;split at h;rename_i t' e' ys TJ;split at h;rename_i he;subst he;split at h;rename_i hc;obtain⟨rfl,rfl,Ik⟩:=hc;obtain⟨g,ct,jw⟩:=sh;simp only at Ik;subst Ik;cases hi:idx ys i with|none=>simp only[hi,aa]at h;cases h|some y=>simp only[hi,aa]at h;cases h;simp only[AS.eM]at TJ;obtain⟨cs,Hd,hj⟩:=aL.1 TJ;refine⟨g,_,jw,b,j,_,J5,x,i,cs,ys,y,hT,hp,Hd,hj,hi,hb.2,hb.1,Jt,?_⟩;simp only[AS.eU,Hd,hd];rfl
  cases h;cases h;cases h
 cases h;cases h;rintro⟨g,e,jw,b,j,t,J5,x,i,cs,ys,y,hT,hp,Hd,hj,hi,hX,Pc,Jt,rfl⟩;constructor;simp only[dq,ho,hp,ht,Im,hnp,Jt,hX,Pc];simp;simp only[oh,hT,hp,rk,bN,wF,AS.eM,Hd,eo,hj,dite_true,and_self,hi,aa,AS.eU,hd];rfl
theorem Sz (ht:CY an o=true)(ho:o.op=.load T p)(fT:dq E an X o st=true)(h:oh E an o T p st some=some bH):dY E Γ an X o st bH:=by obtain⟨T',q,d,I9,hd,hg,BO,TI⟩:=Oa ht;rw[ho]at I9;cases I9;obtain⟨g,e,jw,b,j,t,J5,x,i,cs,ys,y,hT,hp,Hd,hj,hi,hX,Pc,Jt,rfl⟩:=(LQ ht ho hd BO TI).1 ⟨fT,h⟩;refine⟨⟨[(d,.val g (cellsOf e (.own none) y))],some (b,gK cs j (.sl (.fg (some t) i (some st.ep)) e ys)),none⟩,⟨λx hx=>?_,λb' gM=>?_,λ_ hh=>by cases hh⟩,rfl,λst2 ha=>?_⟩;simp only[cf]at hx;subst hx;simp[writes,hd];cases gM;simp only[C4,ho,hd,BO,ah,ht,Pc];simp;have h2:=((LQ (E:=E) (X:=X) (st:=st2) ht ho hd BO TI).2 ⟨g,e,jw,b,j,t,J5,x,i,cs,ys,y,hT,by rw[ha.rd (λt ht=>by simpa[dB,ho]using ht)];exact hp,by rw[ha.box b hX];exact Hd,hj,hi,hX,Pc,Jt,rfl⟩).2;simp only[cY,ho];rw[h2];simp only[GL,ha.ep];rfl
theorem VH (ho:o.op=.load T p)(hm:mV an o=true)(fT:dq E an X o st=true)(h:oh E an o T p st some=some bH):dY E Γ an X o st bH:=by
 cases hE:CY an o with|true=>exact Sz hE ho fT h|false=> ?_
 have hr:∀st2,gB an X o st st2->st2.rd p=st.rd p:=λst2 ha=>ha.rd (λt ht=>by simpa[dB,ho]using ht);have rk:C2 an o=false:=by simp only[mV,ho,hE,Bool.or_false]at hm;unfold C2;cases Pb:o.dst with|none=>rfl|some d=>rw[Pb]at hm;simp only[cz,aK]at hm;rcases hm with hm|hm;simp only[hm,dN];cases TI:an.mb d with|none=>rw[TI]at hm;cases hm|some _=>simp[TI]
 unfold oh at h;split at h;rename_i sh s off hT hp;simp only[dq,ho,hp,ae,aK]at fT;split at h;rename_i cs hb;split at h;rename_i gw;split at h;rename_i d hd;have ju:∀st2,gB an X o st st2->nth st2.boxes s=nth st.boxes s:=λst2 ha=>ha.box s fT.1.1;cases hf:an.mv.contains d with
 |false=>simp only[hf,aW,bU]at h;cases h;refine dY.put (by rw[hd]) λst2 ha=>?_;simp only[cY,ho,oh,hT,hr st2 ha,hp,ju st2 ha,hb,aE gw,hd,hf,aW,bU,ha.ep]
 |true=>
  simp only[hf,bN]at h;have TI:an.mb d=some s:=by have:=fT.1.2;rw[hd]at this;simp only[hf,aj,cG,aS]at this;exact this
  cases h;refine⟨⟨[(d,.val sh.agg ((cs.drop off).take sh.ct.size))],some (s,dZ cs off (aR st.ep ((cs.drop off).take sh.ct.size))),none⟩,⟨λx hx=>?_,λb gM=>?_,λ_ hh=>by cases hh⟩,?_,λst2 ha=>?_⟩;simp only[cf]at hx;subst hx;simp[writes,hd];cases gM;simp only[C4,ho,hd,hf,ah,TI];simp;rw[KV,hd];simp only[cY,ho,oh,hT,hr st2 ha,hp,ju st2 ha,hb,aE gw,hd,hf,bN,ha.ep,KV]
 cases h;cases h;cases h;rename_i sh fl e x i off hT hp;rw[aH (by simp[rk])]at h;split at h;rename_i hl;split at h;rename_i gw;cases h;refine dY.put rfl λst2 ha=>?_;simp only[cY,ho,oh,hT,hr st2 ha,hp,ha.ep,rk,aW,bU,aE hl,aE gw];cases h;rename_i hl;have D0:∀r t J5,fl=.loc J5 (some (r,t))->∀st2,gB an X o st st2->st2.eM r=st.eM r:=by rintro r t J5 rfl st2 ha;simp only[dq,ho,hp,hE,bF,ir,dS,ae,cz]at fT;rcases fT.1.1 with hq|hq;exact absurd hq hl;cases r with|slot b j=>simp only[AS.eM];rw[ha.er b (by simpa using hq)]|box b j=>simp only[AS.eM];rw[ha.box b (by simpa using hq)]|io j=>cases hq
 unfold Bw at h;split at h;rename_i J5 r t;split at h;rename_i t' e' ys TJ;split at h;rename_i he;split at h;rename_i hc;cases hi:idx (he▸ys:List _) i with|none=>rw[hi]at h;cases h|some y=>rw[hi]at h;simp only[aa]at h;cases h;refine dY.put rfl λst2 ha=>?_;simp only[cY,ho,oh,hT,hr st2 ha,hp,ha.ep,rk,aW,bU,aH hl,Bw,D0 _ _ _ rfl st2 ha,TJ,dif_pos he,aE hc,hi,aa]
 cases h;cases h;cases h;cases h;cases h
theorem KZ (ho:o.op=.nilCheck x)(h:cY E Γ an o st some=some bH):dY E Γ an X o st bH:=by have hr:∀st2,gB an X o st st2->st2.rd x=st.rd x:=λst2 ha=>ha.rd (λt ht=>by simpa[dB,ho]using ht);simp only[cY,ho]at h;split at h;rename_i s off hx;cases h;refine dY.put rfl λst2 ha=>?_;simp only[cY,ho,hr st2 ha,hx];rename_i fl e y i off hx;cases h;refine dY.put rfl λst2 ha=>?_;simp only[cY,ho,hr st2 ha,hx];cases h
theorem LX {op:BinOp}{x y:AV}(h:(DM op x y λc=>some (st.put o.dst (.one c)))=some bH):∃v,bH=st.put o.dst v/\∀st2:AS,(DM op x y λc=>some (st2.put o.dst (.one c)))=some (st2.put o.dst v):=by have key:∀s:AS,(DM op x y λc=>some (s.put o.dst (.one c)))=(DM op x y some).bind λc=>some (s.put o.dst (.one c)):=λs=>(Dd op x y some _).symm;rw[key st]at h;cases hb:DM op x y some with|none=>rw[hb]at h;cases h|some c=>rw[hb]at h;cases h;exact⟨_,rfl,λst2=>by rw[key st2,hb];rfl⟩
theorem Od {op:BinOp}{b:Bool}(h:(BL op b λc=>some (st.put o.dst (.one c)))=some bH):∃v,bH=st.put o.dst v/\∀st2:AS,(BL op b λc=>some (st2.put o.dst (.one c)))=some (st2.put o.dst v):=by unfold BL at h;split at h;cases h;exact⟨_,rfl,λst2=>rfl⟩;cases h;exact⟨_,rfl,λst2=>rfl⟩;cases h
theorem Zy {op:BinOp}{T':TypeId}{y:Operand}(ho:o.op=.binOp op T x y T')(h:yV E o op T x y st some=some bH):dY E Γ an X o st bH:=by
 have hr:∀st2,gB an X o st st2->st2.rd x=st.rd x/\st2.rd y=st.rd y:=λst2 ha=>
  ⟨ha.rd (λt ht=>by simp[dB,ho,ht]),ha.rd (λt ht=>by simp[dB,ho,ht])⟩
 unfold yV at h;split at h;rename_i a b hx hy;split at h;rename_i hT;obtain⟨v,rfl,hv⟩:=LX h;refine dY.put rfl λst2 ha=>?_;simp only[cY,ho,yV,(hr st2 ha).1,(hr st2 ha).2,hx,hy,aE hT];exact hv st2;cases h;rename_i xs ys hx hy;split at h;rename_i ls hq;split at h;rename_i gw;obtain⟨v,rfl,hv⟩:=LX h;refine dY.put rfl λst2 ha=>?_;simp only[cY,ho,yV,(hr st2 ha).1,(hr st2 ha).2,hx,hy,hq,aE gw];exact hv st2;cases h;cases h;rename_i fl e xs hx hy;split at h;rename_i hT;split at h;cases h;rename_i hlen;obtain⟨v,rfl,hv⟩:=Od h;refine dY.put rfl λst2 ha=>?_;simp only[cY,ho,yV,(hr st2 ha).1,(hr st2 ha).2,hx,hy,ha.ep,aE hT,aH hlen];exact hv st2;cases h;rename_i hx hy;split at h;rename_i hT;obtain⟨v,rfl,hv⟩:=Od h;refine dY.put rfl λst2 ha=>?_;simp only[cY,ho,yV,(hr st2 ha).1,(hr st2 ha).2,hx,hy,aE hT];exact hv st2;cases h;rename_i a b Fb AJ hn3 hn4;obtain⟨v,rfl,hv⟩:=LX h;refine dY.put rfl λst2 ha=>?_;simp only[cY,ho,yV,(hr st2 ha).1,(hr st2 ha).2];exact hv st2
theorem acV {op:UnOp}(ho:o.op=.unOp op T x)(h:(unC op (st.rd x) λc=>some (st.put o.dst (.one c)))=some bH):dY E Γ an X o st bH:=by have hr:∀st2,gB an X o st st2->st2.rd x=st.rd x:=λst2 ha=>ha.rd (λt ht=>by simpa[dB,ho]using ht);have key:∀s:AS,(unC op (st.rd x) λc=>some (s.put o.dst (.one c)))=(unC op (st.rd x) some).bind λc=>some (s.put o.dst (.one c)):=λs=>(Tw op (st.rd x) some _).symm;rw[key st]at h;cases hb:unC op (st.rd x) some with|none=>rw[hb]at h;cases h|some c=>rw[hb]at h;cases h;refine dY.put rfl λst2 ha=>?_;simp only[cY,ho,hr st2 ha];rw[key st2,hb];rfl
theorem Sv {S:TypeId}{f:Nat}(ho:o.op=.fieldAddr S p f)(h:ym E o S p f st some=some bH):dY E Γ an X o st bH:=by have hr:∀st2,gB an X o st st2->st2.rd p=st.rd p:=λst2 ha=>ha.rd (λt ht=>by simpa[dB,ho]using ht);unfold ym at h;split at h;rename_i hT hp;split at h;rename_i hf;cases h;refine dY.put rfl λst2 ha=>?_;simp only[cY,ho,ym,hr st2 ha,hT,hp,hf];cases h;rename_i hT hp;split at h;rename_i hf;cases h;refine dY.put rfl λst2 ha=>?_;simp only[cY,ho,ym,hr st2 ha,hT,hp,hf];cases h;cases h
theorem xX {s:AS}(h:v.now s.ep=true):v.fresh s=v:=by
 cases v with
 |uF vs=>rfl
 |val g cs=>
  simp only[AV.now,aG]at h;simp only[AV.fresh];congr 1;have:cs.map s.fresh=cs.map id:=List.map_congr_left λc hc=>by have hn:=h c hc;unfold AS.fresh;split;simp only[AC.now]at hn;rw[hn];rfl;rfl
  rw[this,List.map_id]
theorem Rk {st st2:AS}(he:st2.ep=st.ep)(h:v.now st.ep=true\/∃g ep b j t e xs,v=.val g [.sl (.loc ep (some (.box b j,t))) e xs]/\nth st2.boxes b=nth st.boxes b):v.fresh st2=v.fresh st:=by rcases h with h|⟨g,ep,b,j,t,e,xs,rfl,hb⟩;rw[xX h,xX (by rw[he];exact h)];simp only[AV.fresh,cV,List.map_nil];congr 2;unfold AS.fresh;simp only[AS.eM,he,hb]
theorem Je {i:Operand}(ho:o.op=.indexAddr T x i)(fT:dq E an X o st=true)(h:lS E o T x i st some=some bH):dY E Γ an X o st bH:=by
 have hr:∀st2,gB an X o st st2->st2.rd x=st.rd x/\st2.rd i=st.rd i:=λst2 ha=>
  ⟨ha.rd (λt ht=>by simp[dB,ho,ht]),ha.rd (λt ht=>by simp[dB,ho,ht])⟩
 have AW:∀st2,gB an X o st st2->(st.rd x).fresh st2=(st.rd x).fresh st:=λst2 ha=>by refine Rk ha.ep ?_;simp only[dq,ho,cz]at fT;rcases fT with hn|hn;exact .inl hn;split at hn;rename_i g ep b j t e xs hx;exact .inr ⟨g,ep,b,j,t,e,xs,hx,ha.box b (by simpa using hn)⟩;cases hn
 unfold lS at h;split at h;rename_i e' fl e xs k n hT hx hi;split at h;rename_i hc;cases Ct:idx xs n with|none=>rw[Ct]at h;cases h|some y=>rw[Ct]at h;cases h;refine dY.put rfl λst2 ha=>?_;have hf3:=AW st2 ha;rw[hx]at hf3;simp only[cY,ho,lS,(hr st2 ha).1,(hr st2 ha).2,hf3,hT,hi,ha.ep,aE hc,Ct,aa]
 cases h;cases h
theorem Sw {i:Operand}(ho:o.op=.index T x i)(h:zS E o T x i st some=some bH):dY E Γ an X o st bH:=by
 have hr:∀st2,gB an X o st st2->st2.rd x=st.rd x/\st2.rd i=st.rd i:=λst2 ha=>
  ⟨ha.rd (λt ht=>by simp[dB,ho,ht]),ha.rd (λt ht=>by simp[dB,ho,ht])⟩
 unfold zS at h;split at h;rename_i s k n hx hi;split at h;rename_i hc;cases Ct:idx s n with|none=>rw[Ct]at h;cases h|some y=>rw[Ct]at h;cases h;refine dY.put rfl λst2 ha=>?_;simp only[cY,ho,zS,(hr st2 ha).1,(hr st2 ha).2,hx,hi,aE hc,Ct,aa]
 cases h;cases h
theorem dY.new (h:bH=(st.fz o.dst).put o.dst v)(h2:∀st2,gB an X o st st2->cY E Γ an o st2 some=some ((st2.fz o.dst).put o.dst v)):dY E Γ an X o st bH:=⟨E4 o v,MO v,by rw[GO];exact h,λst2 ha=>by rw[GO];exact h2 st2 ha⟩
theorem gB.gS (ha:gB an X o st st2):st2.gS o.dst=st.gS o.dst:=by funext j;cases hd:o.dst with|none=>rfl|some d=>simp only[AS.gS,(ha.dst d hd).1]
theorem Ge {lo hi:ax Operand}{n:Nat}{f:AS->Int->Int->ax AS}(hs:∀st2,gB an X o st st2->lo.map st2.rd=lo.map st.rd/\hi.map st2.rd=hi.map st.rd)(h:me st lo hi n (f st)=some bH):∃a b,f st a b=some bH/\∀st2,gB an X o st st2->me st2 lo hi n (f st2)=f st2 a b:=by unfold me at h;split at h;rename_i h1 h2;exact⟨_,_,h,λst2 ha=>by simp only[me,(hs st2 ha).1,(hs st2 ha).2,h1,h2]⟩;rename_i h1 h2;exact⟨_,_,h,λst2 ha=>by simp only[me,(hs st2 ha).1,(hs st2 ha).2,h1,h2]⟩;rename_i h1 h2;exact⟨_,_,h,λst2 ha=>by simp only[me,(hs st2 ha).1,(hs st2 ha).2,h1,h2]⟩;rename_i h1 h2;exact⟨_,_,h,λst2 ha=>by simp only[me,(hs st2 ha).1,(hs st2 ha).2,h1,h2]⟩;cases h
theorem Sx {lo hi:ax Operand}(ho:o.op=.slice T x lo hi none)(hm:mV an o=true)(fT:dq E an X o st=true)(h:yJ E an o T x lo hi st some=some bH):dY E Γ an X o st bH:=by
 have hr:∀st2,gB an X o st st2->st2.rd x=st.rd x:=λst2 ha=>ha.rd (λt ht=>by simp[dB,ho,ht]);have hb:∀st2,gB an X o st st2->lo.map st2.rd=lo.map st.rd/\hi.map st2.rd=hi.map st.rd:=by
  intro st2 ha;constructor;cases lo with|none=>rfl|some y=>simp only[dc];rw[ha.rd (λt ht=>by simp[dB,ho,tmO,ht])]
  cases hi with|none=>rfl|some y=>simp only[dc];rw[ha.rd (λt ht=>by simp[dB,ho,tmO,ht])]
 have Cx:(st.rd x).now st.ep=true:=by simpa[dq,ho]using fT
 have AW:∀st2,gB an X o st st2->(st.rd x).fresh st2=st.rd x:=λst2 ha=>xX (by rw[ha.ep];exact Cx);have rk:C2 an o=false:=by simpa[mV,ho]using hm
 unfold yJ at h;rw[aH (by simp[rk]),xX Cx]at h;split at h;rename_i s hx;split at h;rename_i hT;obtain⟨a,b,h1,h2⟩:=Ge (f:=λs0 a b=>aa (sub s a b) λs'=>some (s0.put o.dst (.one (.str s')))) hb h;cases oP:sub s a b with|none=>rw[oP]at h1;cases h1|some s'=>rw[oP]at h1;cases h1;refine dY.put rfl λst2 ha=>?_;have hf3:=AW st2 ha;rw[hx]at hf3;simp only[cY,ho,yJ,rk,aW,bU,hr st2 ha,hx,hf3,aE hT];rw[h2 st2 ha,oP];rfl
 cases h;rename_i fl e xs hx;split at h;rename_i hT;obtain⟨a,b,h1,h2⟩:=Ge (f:=λs0 a b=>aa (sub xs a b) λMa=>some (s0.put o.dst (.one (.sl (Lc an o fl a) e Ma)))) hb h;cases oP:sub xs a b with|none=>rw[oP]at h1;cases h1|some s'=>rw[oP]at h1;cases h1;refine dY.put rfl λst2 ha=>?_;have hf3:=AW st2 ha;rw[hx]at hf3;simp only[cY,ho,yJ,rk,aW,bU,hr st2 ha,hx,hf3,ha.ep,aE hT];rw[h2 st2 ha,oP];rfl
 cases h;cases h
theorem Es {args:aw Operand}(hl:∀t,t∈MN args->t∈dB o)(ha:gB an X o st st2):args.map st2.rd=args.map st.rd:=by apply List.map_congr_left;intro x hx;exact ha.rd (λt ht=>hl t (by simp only[MN,List.mem_flatMap];exact⟨x,hx,ht⟩))
theorem ZA (ho:o.op=.call {callee:=.builtin .len,args,argTypes:=ts})(h:KU E o ts.toList args.toList st some=some bH):dY E Γ an X o st bH:=by have hr:∀st2,gB an X o st st2->args.toList.map st2.rd=args.toList.map st.rd:=λst2 ha=>Es (λt ht=>by simp only[dB,ho];exact ht) ha;unfold KU at h;split at h;rename_i t s rU hx;split at h;rename_i hT;cases h;refine dY.put rfl λst2 ha=>?_;simp only[cY,ho,KU,hr st2 ha,rU,hx,aE hT];cases h;rename_i t _ _ xs rU hx;split at h;rename_i hT;cases h;refine dY.put rfl λst2 ha=>?_;simp only[cY,ho,KU,hr st2 ha,rU,hx,aE hT];cases h;cases h
theorem ZC (ho:o.op=.call {callee:=.builtin .min,args,argTypes:=ts})(h:Mw o args.toList st some=some bH):dY E Γ an X o st bH:=by have hr:∀st2,gB an X o st st2->args.toList.map st2.rd=args.toList.map st.rd:=λst2 ha=>Es (λt ht=>by simp only[dB,ho];exact ht) ha;unfold Mw at h;split at h;rename_i hx;cases h;refine dY.put rfl λst2 ha=>?_;simp only[cY,ho,Mw,hr st2 ha,hx];cases h
theorem ZB (ho:o.op=.call {callee:=.builtin .max,args,argTypes:=ts})(h:Mv o args.toList st some=some bH):dY E Γ an X o st bH:=by have hr:∀st2,gB an X o st st2->args.toList.map st2.rd=args.toList.map st.rd:=λst2 ha=>Es (λt ht=>by simp only[dB,ho];exact ht) ha;unfold Mv at h;split at h;rename_i hx;cases h;refine dY.put rfl λst2 ha=>?_;simp only[cY,ho,Mv,hr st2 ha,hx];cases h
theorem Zk {l:fw}{c:AC}(h:c.adp l=true)(hl:∀t∈l,st2.get t=st.get t):st2.Mu c=st.Mu c:=by
 cases c with
 |sl fl e xs=>
  cases fl with
  |loc ep pv=>cases pv with|none=>rfl|some q=>obtain⟨r,t⟩:=q;cases r with|slot b j=>have hb:st2.get b=st.get b:=hl b (by simpa[AC.adp]using h);simp only[AS.Mu,AS.eM,hb]|box _ _=>rfl|io _=>rfl
  |_=>rfl
 |_=>rfl
theorem Vx {l:fw}(hx:Gu l st x=true)(hl:∀t∈l,st2.get t=st.get t)(h:∀t∈tm x,st2.get t=st.get t):zu st2 x=zu st x/\Au st2 x=Au st x:=by
 cases x with
 |tmp t=>have ht:=h t (by simp[tm]);simp only[Gu]at hx;cases hg:st.get t with|uF vs=>exact⟨by simp only[zu,ht,hg],by simp only[Au,ht,hg]⟩|val g cs=>rw[hg]at hx;have hm:cs.map st2.Mu=cs.map st.Mu:=List.map_congr_left λc hc=>Zk (aG.1 hx c hc) hl;exact⟨by simp only[zu,ht,hg,hm],by simp only[Au,ht,hg,hm]⟩
 |const v=>exact⟨rfl,rfl⟩
 |func f=>exact⟨rfl,rfl⟩
 |global g=>exact⟨rfl,rfl⟩
theorem Mx (ho:o.op=.call {callee:=.value f,args,argTypes:=ts})(fT:dq E an X o st=true){k:Nat}(hf:st.rd f=.val false [.fn k])(ju:(Γ k).bx=true)(hcur:(Γ k).cur=true)(h:tn Γ o k args.toList st some=some bH):dY E Γ an X o st bH:=by
 unfold tn at h;split at h;rename_i x0 xs fN;split at h;rename_i s hx0;have jf:rR an X (erS an o) st (x0::xs)=true:=by have h1:=fT;simp only[dq,ho,ae]at h1;rw[<-fN];exact h1.1
 have hx1:∃q,x0=.tmp q/\X.contains s=false/\an.sb q=some s/\(match (nth st.boxes s).getD none with|some cs=>cs.all AC.Fm|none=>true)=true/\xs.all (Gu (erS an o) st)=true:=by cases x0 with|tmp q=>simp only[rR,hx0,aa4,ae,aK,aS]at jf;exact⟨q,rfl,jf.1.1.1,jf.1.1.2,jf.1.2,jf.2⟩|const v=>simp only[rR,hx0,AV.Xq]at jf;cases jf|func v=>simp only[rR,hx0,AV.Xq]at jf;cases jf|global v=>simp only[rR,hx0,AV.Xq]at jf;cases jf
 obtain⟨q,rfl,hX,Xa,EG,zk⟩:=hx1;split at h;rename_i cs Rv;rw[Rv]at EG;simp only at EG;cases hc:(cs.all (AC.xc (BI cs))&&xs.all (Au st))with
 |false=>rw[hc]at h;cases h
 |true=>
  rw[hc]at h;simp only[ah]at h;cases gy:(Γ k).fn (.val true (cs.map AC.Ql)::xs.map (zu st))with
  |none=>rw[gy]at h;cases h
  |some y=>
   rw[gy]at h;simp only[aa]at h;cases UT:(((Γ k).back y).all (AC.xc true)&&((Γ k).av y).ZF)with
   |false=>rw[UT]at h;cases h
   |true=>
    rw[UT]at h;simp only[ah,hcur,EG,eY,aZ]at h;subst h;refine⟨⟨o.dst.toList.map λd=>(d,((Γ k).av y).BJ st.ep (st.gS o.dst)),some (s,oG (BI cs) (λ_=>none) 0 ((Γ k).back y)),o.dst⟩,⟨λx hx=>?_,λb hb=>?_,λd hd=>hd⟩,?_,λst2 ha=>?_⟩;simp only[List.mem_map]at hx;obtain⟨d,hd,rfl⟩:=hx;simp[writes,hd];cases hb;simp[C4,ho,fN,Xa];unfold GS.apply AS.put AS.fz AS.eF;cases o.dst<;>rfl;have e1:st2.rd f=st.rd f:=ha.rd (λt ht=>by simp[dB,ho,ht]);have hl:∀x∈Operand.tmp q::xs,∀t∈tm x,t∈dB o:=by intro x hx t ht;simp only[dB,ho,ay,MN,List.mem_flatMap,fN];exact .inr ⟨x,hx,ht⟩
    have e2:st2.rd (.tmp q)=st.rd (.tmp q):=ha.rd (hl _ (by simp));have e3:nth st2.boxes s=nth st.boxes s:=ha.box s hX;have e4:∀x∈xs,zu st2 x=zu st x/\Au st2 x=Au st x:=λx hx=>Vx (aG.1 zk x hx) ha.er λt ht=>ha.get t (hl x (by simp[hx]) t ht);have e5:xs.map (zu st2)=xs.map (zu st):=List.map_congr_left λx hx=>(e4 x hx).1;have e6:xs.all (Au st2)=xs.all (Au st):=by rw[cq];simp only[aG];exact⟨λg x hx=>by rw[<-(e4 x hx).2];exact g x hx,λg x hx=>by rw[(e4 x hx).2];exact g x hx⟩
    simp only[cY,ho,BK,e1,hf,ju,ah,tn,fN,e2,hx0,e3,Rv,e5,e6,hc,gy,aa,UT,hcur,EG,eY,ha.ep,ha.gS];unfold GS.apply AS.put AS.fz AS.eF;cases o.dst<;>rfl
 cases h;cases h;cases h
theorem VG (yQ:∀f,(Γ f).io=false/\((Γ f).bx=true->(Γ f).cur=true)/\(Γ f).pr=false)(ho:o.op=.call {callee:=.value f,args,argTypes:=ts})(fT:dq E an X o st=true)(h:BK Γ o f args.toList st some=some bH):dY E Γ an X o st bH:=by
 have hr:∀st2,gB an X o st st2->st2.rd f=st.rd f/\(args.toList.map λx=>((st2.rd x).fresh st2).asArg st2.ep)=args.toList.map λx=>((st.rd x).fresh st).asArg st.ep:=by
  intro st2 ha;refine⟨ha.rd (λt ht=>by simp[dB,ho,ht]),?_⟩;apply List.map_congr_left;intro x hx;have Cx:(st.rd x).now st.ep=true:=by simp only[dq,ho,ae,aG]at fT;exact fT.2 x hx
  rw[ha.rd (λt ht=>by simp only[dB,ho,ay,MN,List.mem_flatMap];exact .inr ⟨x,hx,ht⟩),xX Cx,xX (s:=st2) (by rw[ha.ep];exact Cx),ha.ep]
 unfold BK at h;split at h
 ·rename_i k hf
  cases ju:(Γ k).bx with
  |true=>rw[ju]at h;exact Mx ho fT hf ju ((yQ k).2.1 ju) h
  |false=>
  rw[ju,(yQ k).2.2,(yQ k).1]at h
  simp only[af]at h
  cases hg:(Γ k).fn (args.toList.map λx=>((st.rd x).fresh st).asArg st.ep)with
  |none=>rw[hg]at h;cases h
  |some y=>
   rw[hg]at h
   simp only[aa]at h
   cases Mp:(Γ k).sel y with
   |true=>
    rw[Mp]at h
    cases h
    refine dY.new rfl λst2 ha=>?_
    simp only[cY,ho,BK,(hr st2 ha).1,hf,(yQ k).1,ju,(yQ k).2.2,af]
    rw[(hr st2 ha).2,hg]
    simp only[aa,Mp,ah,ha.ep,ha.gS]
   |false=>
    rw[Mp]at h
    cases h
    refine dY.new rfl λst2 ha=>?_
    simp only[cY,ho,BK,(hr st2 ha).1,hf,(yQ k).1,ju,(yQ k).2.2,af]
    rw[(hr st2 ha).2,hg]
    simp only[aa,Mp,af,ha.ep,ha.gS]
 cases h
theorem My {src dst:TypeId}(ho:o.op=.convert src dst x)(h:lh E o src dst x st some=some bH):dY E Γ an X o st bH:=by
 have hr:∀st2,gB an X o st st2->st2.rd x=st.rd x:=λst2 ha=>ha.rd (λt ht=>by simpa[dB,ho]using ht);unfold lh at h;split at h;rename_i h1 h2 h3;cases h;refine dY.put rfl λst2 ha=>?_;simp only[cY,ho,lh,hr st2 ha,h1,h2,h3];rename_i h1 h2 h3;cases h;refine dY.put rfl λst2 ha=>?_;simp only[cY,ho,lh,hr st2 ha,h1,h2,h3];rename_i jw val s Fc h1 h2 h3;split at h;rename_i hb;unfold room at h;split at h;rename_i hrm;cases h;refine dY.new (v:=.one (.sl (.own (st.gS o.dst 0)) (.int .u8) (dj s))) rfl λst2 ha=>?_;have EJ:∀k:AS->ax AS,lh E o src dst x st2 k=if E.bytes dst then room s.length (k (st2.oQ o.dst (.int .u8) (dj s))) else none:=by intro k;unfold lh;rw[hr st2 ha,h1,h2,h3];obtain⟨ag,ct,of⟩:=val;cases ag with|true=>rfl|false=>cases ct with|str=>exact(Fc _ rfl).elim|_=>rfl
 simp only[cY,ho];rw[EJ,aE hb,room,aE hrm,AS.oQ,ha.gS];cases h;cases h;rename_i val jw fl xs h1 h2 h3;split at h;rename_i hb;cases h;refine dY.put rfl λst2 ha=>?_;have EJ:∀k:AS->ax AS,lh E o src dst x st2 k=if E.bytes src/\fl.live st2.ep then k (st2.put o.dst (.one (.str (aJ xs)))) else none:=by intro k;unfold lh;rw[hr st2 ha,h1,h2,h3];obtain⟨ag,ct,of⟩:=val;cases ag with|true=>rfl|false=>cases ct<;>rfl
 simp only[cY,ho];rw[EJ,ha.ep,aE hb];cases h;cases h
theorem H4 {d:Nat}:(⟨[(d,v)],some (d,cs),none⟩:GS).apply st=(st.eF d (some cs)).put (some d) v:=rfl
theorem St (ho:o.op=.alloc T)(h:AK E o T st some=some bH):dY E Γ an X o st bH:=by unfold AK at h;split at h;rename_i d sh hd hT;split at h;rename_i hb;cases h;refine⟨⟨[(d,.one (.ptr d 0))],some (d,cellsOf sh.ct (.own none) sh.ct.zero),none⟩,⟨λx hx=>?_,λb gM=>?_,λ_ hh=>by cases hh⟩,?_,λst2 ha=>?_⟩;simp only[cf]at hx;subst hx;simp[writes,hd];cases gM;simp[C4,ho,hd];rw[H4,hd];simp only[cY,ho,AK,hd,hT,(ha.dst d hd).2,hb,H4];cases h;cases h
def ns (st:AS):Operand->aw (Nat×AV)
 | .tmp t=>[(t,(st.get t).aR st.ep)]
 |_=>[]
theorem zU (l:aw AV)(a b:aw (Nat×AV)):jx l (a++b)=jx (jx l a) b:=by induction a generalizing l with|nil=>rfl|cons x a ih=>exact ih _
def AS.jF (st:AS)(l:aw (Nat×AV)):AS:={st with slots:=jx st.slots l}
theorem pW (a b:aw (Nat×AV)):st.jF (a++b)=(st.jF a).jF b:=by simp only[AS.jF,zU]
theorem AH (x:Operand):(st.take x).2=st.jF (ns st x):=by cases x<;>rfl
theorem BC (wN:st2.ep=st.ep)(h:∀t∈tm x,st2.get t=st.get t):(st2.take x).1=(st.take x).1/\(st2.take x).2=st2.jF (ns st x):=by cases x with|tmp t=>have:=h t (by simp[tm]);refine⟨this,?_⟩;rw[AH];simp only[ns,this,wN]|const v=>exact⟨rfl,rfl⟩|func f=>exact⟨rfl,rfl⟩|global g=>exact⟨rfl,rfl⟩
theorem GM:∀y∈ns st x,y.1∈tm x:=by cases x<;>simp[ns,tm]
theorem VI (ho:o.op=.move x)(h:Ay an o x st some=some bH):dY E Γ an X o st bH:=by
 unfold Ay at h;cases hd:o.dst with
 |none=>rw[hd]at h;cases h
 |some d=>
  rw[hd]at h;cases hf:an.mv.contains d with
  |false=>simp only[hf,aW,bU]at h;cases h;refine dY.put (v:=st.rd x) (by rw[hd]) λst2 ha=>?_;have hr:st2.rd x=st.rd x:=ha.rd (λt ht=>by simpa[dB,ho]using ht);simp only[cY,ho,Ay,hd,hf,aW,bU,hr]
  |true=>
   simp only[hf,bN]at h;cases h;have hr:∀st2,gB an X o st st2->(st2.take x).1=(st.take x).1/\(st2.take x).2=st2.jF (ns st x):=λst2 ha=>BC ha.ep λt ht=>ha.get t (by simpa[dB,ho]using ht);refine⟨⟨ns st x++[(d,(st.take x).1)],none,none⟩,⟨λy hy=>?_,λ_ hh=>(by cases hh),λ_ hh=>(by cases hh)⟩,?_,λst2 ha=>?_⟩;rcases ay.1 hy with hy|hy;have:=GM y hy;have hf':d∈an.mv:=by simpa using hf
   simp[writes,C0,ho,hd,hf',dB,this];simp only[cf]at hy;subst hy;simp[writes,hd];rw[AH];show _=st.jF _;rw[pW];rfl;simp only[cY,ho,Ay,hd,hf,bN,(hr st2 ha).1,(hr st2 ha).2];show some ((st2.jF (ns st x)).put (some d) (st.take x).1)=some (st2.jF _);rw[pW];rfl
theorem Rb {ep:Nat}(h:cs.all AC.je=true):aR ep cs=cs:=by
 rw[aG]at h;unfold aR;have:cs.map (AC.borrow ep none)=cs.map id:=List.map_congr_left λc hc=>by have:=h c hc;cases c<;>first|rfl|(simp[AC.je]at this)
 rw[this,List.map_id]
theorem afd {s:AS}{vs:aw (Bool×aw AC)}(h:s.get t=.uF vs):s.put (some t) (.uF vs)=s:=by cases s with|mk slots boxes ep iss io=>simp only[AS.put,AS.mk.injEq,iu];rw[ft];apply cn;intro i;rw[br];split;rename_i hd;subst hd;simp only[AS.get,dJ]at h;split;rename_i gQ;rw[al gQ]at h⊢;simp only[fB]at h;rw[h];rename_i yP;rw[bh (Nat.le_of_not_lt yP)];rfl
theorem Mz {i:Nat}(ho:o.op=.extract (.tmp t) i)(fT:dq E an X o st=true)(h:ll o t i st some=some bH):dY E Γ an X o st bH:=by
 have hr:∀st2,gB an X o st st2->st2.get t=st.get t:=λst2 ha=>ha.get t (by simp[dB,ho]);unfold ll at h;simp only[dq,ho]at fT;split at h
 ·rename_i vs hv;rw[hv]at fT;split at h
  ·rename_i g cs hn;simp only[hn]at fT;have hfl:cs.all AC.je=true\/∃d,o.dst=some d/\an.mv.contains d=true:=by cases hd:o.dst with|none=>simp only[hd,Bool.or_false]at fT;exact .inl fT|some d=>simp only[hd,cz]at fT;rcases fT with h|h;exact .inl h;exact .inr ⟨d,rfl,h⟩
   rcases hfl with fT|⟨d,hd,BO⟩;rotate_left;cases h;refine⟨⟨[(t,.uF (gK vs i (g,aR 0 cs))),(d,.val g cs)],none,none⟩,⟨λx hx=>?_,(λ_ hb=>by cases hb),(λ_ hh=>by cases hh)⟩,?_,λst2 ha=>?_⟩;simp only[bO,List.not_mem_nil,or_false]at hx;rcases hx with rfl|rfl;simp only[writes,C0,ho,hd,BO,ah,dB];simp;simp only[writes,hd];simp;rw[hd];rfl;have h2:st2.get t=.uF vs:=by rw[hr st2 ha,hv]
   simp only[cY,ho,ll,h2,hn,hd];rfl;skip;have Cy:gK vs i (g,cs)=vs:=by rw[ft];rw[dJ]at hn;apply cn;intro k;rw[br];split;rename_i hk;subst hk;obtain⟨hl,he⟩:=aF.1 hn;rw[aE hl,hn];rfl
   have key:∀s:AS,s.get t=.uF vs->(s.put (some t) (.uF (gK vs i (g,aR 0 cs))))=s:=λs hs=>by rw[Rb fT,Cy,afd hs]
   rw[key st hv]at h;cases h;refine dY.put rfl λst2 ha=>?_;have h2:st2.get t=.uF vs:=by rw[hr st2 ha,hv]
   simp only[cY,ho,ll,h2,hn];rw[key st2 h2]
  cases h
 cases h
def xQ (st:AS):Operand->aw (Nat×AV)
 | .tmp t=>[(t,(st.get t).aR st.ep)]
 |_=>[]
theorem LU (st:AS)(x:Operand):(st.take x).2=⟨jx st.slots (xQ st x),st.boxes,st.ep,st.iss,st.io⟩:=by cases x<;>rfl
theorem Sy {pp:Nat}(ho:o.op=.store T (.tmp pp) x)(hd:o.dst=none)(hm:mV an o=true)(fT:dq E an X o st=true)(h:vi E T (.tmp pp) x st some=some bH):dY E Γ an X o st bH:=by
 have hr:∀st2,gB an X o st st2->st2.rd (.tmp pp)=st.rd (.tmp pp):=λst2 ha=>ha.rd (λt ht=>by simp only[dB,ho,ay];exact .inl ht);have Xa:(an.sb pp).isNone=false:=by simp only[mV,ho,ae]at hm;cases hb:an.sb pp with|none=>rw[hb]at hm;cases hm.1|some _=>rfl
 simp only[dq,ho,Xa,dN,cG]at fT;unfold vi at h;split at h;rename_i sh s off hT hp;rw[hp]at fT;simp only[ae,aK,aS]at fT;split at h;rename_i gg vs st1 rk;have Pm:(st.take x).1=.val gg vs:=by rw[rk]
 have Cz:st1=⟨jx st.slots (xQ st x),st.boxes,st.ep,st.iss,st.io⟩:=by rw[<-LU,rk]
 split at h;rename_i cs hb;split at h;rename_i hlen;split at h;rename_i gw;cases h;have ju:∀st2,gB an X o st st2->nth st2.boxes s=nth st.boxes s:=λst2 ha=>ha.box s fT.1;refine⟨⟨xQ st x,some (s,dZ cs off vs),none⟩,⟨λy hy=>?_,λb gM=>?_,λ_ hh=>by cases hh⟩,?_,λst2 ha=>?_⟩;cases x with|tmp t=>simp only[xQ,cf]at hy;subst hy;simp only[writes,C0,ho,ah,dB,hd];simp[tm]|_=>simp[xQ]at hy
 cases gM;simp only[C4,ho,fT.2];simp;rw[Cz];rfl;have Xb:(st2.take x).1=(st.take x).1/\xQ st2 x=xQ st x:=by cases x with|tmp t=>have hg:st2.get t=st.get t:=ha.get t (by simp[dB,ho,tm]);simp only[AS.take,xQ,hg,ha.ep];simp|const v=>exact⟨rfl,rfl⟩|func f=>exact⟨rfl,rfl⟩|global g=>exact⟨rfl,rfl⟩
 have ht2:st2.take x=(.val gg vs,⟨jx st2.slots (xQ st x),st2.boxes,st2.ep,st2.iss,st2.io⟩):=by rw[<-Xb.2,<-LU,<-Pm,<-Xb.1]
 have Js:(nth st2.boxes s).getD none=some cs:=by rw[ju st2 ha];rw[Cz]at hb;exact hb
 have BN:yA an o=false:=by simp only[mV,ho,ae,aK]at hm;exact hm.2
 simp only[cY,ho,hd,BN,aW,bU,vi,hT,hr st2 ha,hp,ht2,Js,aE hlen,aE gw];rfl;cases h;cases h;cases h;cases h;rename_i r _ _ _ _ _ _ hp;rw[hp]at fT;cases r<;>simp at fT;cases h
theorem PJ (ho:o.op=.assign x)(hm:mV an o=true)(h:tk E an o x st some=some bH):dY E Γ an X o st bH:=by
 have hr:∀st2,gB an X o st st2->(st2.take x).1=(st.take x).1/\(st2.take x).2=st2.jF (ns st x):=λst2 ha=>BC ha.ep λt ht=>ha.get t (by simpa[dB,ho]using ht);have BN:yA an o=false:=by simpa[mV,ho]using hm
 unfold tk at h;split at h;rename_i st1 rk;split at h;rename_i e hT;cases h;refine dY.put rfl λst2 ha=>?_;have h2:st2.take x=(.val false [.jm],st2.jF (ns st x)):=Prod.ext (by rw[(hr st2 ha).1,rk]) (hr st2 ha).2;simp only[cY,ho,tk,BN,aW,bU,h2,hT];cases h;rename_i v st1 Fc rk;cases h;have Cz:st1=st.jF (ns st x):=by rw[<-AH,rk]
 refine⟨⟨ns st x++o.dst.toList.map λd=>(d,v),none,none⟩,⟨λy hy=>?_,λ_ hh=>(by cases hh),λ_ hh=>(by cases hh)⟩,?_,λst2 ha=>?_⟩;rcases ay.1 hy with hy|hy;have:=GM y hy;simp[writes,C0,ho,dB,this];obtain⟨d,hd,rfl⟩:=List.mem_map.1 hy;simp[writes,hd];rw[Cz];show _=st.jF _;rw[pW];cases o.dst<;>rfl;have h2:st2.take x=(v,st2.jF (ns st x)):=Prod.ext (by rw[(hr st2 ha).1,rk]) (hr st2 ha).2;simp only[cY,ho,tk,BN,aW,bU,h2];show some ((st2.jF (ns st x)).put o.dst v)=some (st2.jF _);rw[pW];cases o.dst<;>rfl
theorem ji {α:Type}(l:aw α)(i:Nat)(v:α)(t:Nat):nth (gK l i v) t=if i=t then(if i<l.length then some v else none) else nth l t:=by rw[dJ,ft,dJ,br]
theorem Lk (l:aw AV)(a:aw (Nat×AV)):(jx l a).length=l.length:=by induction a generalizing l with|nil=>rfl|cons x a ih=>rw[jx,ih,ft,aC]
theorem VX {l l2:aw AV}(a:aw (Nat×AV))(hl:l2.length=l.length)(t:Nat)(h:nth l2 t=nth l t):nth (jx l2 a) t=nth (jx l a) t:=by induction a generalizing l l2 with|nil=>exact h|cons x a ih=>refine ih (by rw[ft,ft,aC,aC,hl]) ?_;rw[ji,ji,hl,h]
theorem VN (h:st2.get t=st.get t)(hl:st2.slots.length=st.slots.length):nth st2.slots t=nth st.slots t:=by unfold AS.get at h;rw[dJ,dJ]at h⊢;rcases cc t st.slots.length with gQ|yP;rw[al gQ,al (by omega)]at h⊢;simpa using h;rw[bh yP,bh (by omega)]
def jr (st:AS):aw Operand->aw (Nat×AV)
 |[]=>[]
 |x::xs=>ns st x++jr (st.jF (ns st x)) xs
theorem yM:∀(xs:aw Operand)(st:AS),∀y∈jr st xs,y.1∈MN xs
 |[],_,y,hy=>by cases hy
 |x::xs,st,y,hy=>by simp only[MN,List.flatMap_cons,ay];rcases ay.1 hy with hy|hy;exact .inl (GM y hy);exact .inr (yM xs _ y hy)
theorem zY:∀(xs:aw Operand)(st st2:AS),st2.ep=st.ep->st2.slots.length=st.slots.length->(∀t∈MN xs,nth st2.slots t=nth st.slots t)->
 (eO st2 xs).1=(eO st xs).1/\(eO st2 xs).2=st2.jF (jr st xs)
 |[],st,st2,_,_,_=>⟨rfl,rfl⟩
 |x::xs,st,st2,wN,hl,hg=>by
  have hx:∀t∈tm x,st2.get t=st.get t:=λt ht=>by unfold AS.get;rw[hg t (by simp[MN,ht])]
  obtain⟨h1,h2⟩:=BC (st:=st) (st2:=st2) wN hx;have h3:=AH (st:=st) x;obtain⟨k1,k2⟩:=zY xs (st.jF (ns st x)) (st2.jF (ns st x)) wN (by simp only[AS.jF,Lk,hl]) (λt ht=>VX _ hl t (hg t (by simp only[MN,List.flatMap_cons,ay];exact .inr ht)));have e1:eO st (x::xs)=((st.take x).1::(eO (st.take x).2 xs).1,(eO (st.take x).2 xs).2):=rfl;have e2:eO st2 (x::xs)=((st2.take x).1::(eO (st2.take x).2 xs).1,(eO (st2.take x).2 xs).2):=rfl;rw[e1,e2,h1,h2,h3];refine⟨by rw[k1],?_⟩;show(eO (st2.jF (ns st x)) xs).2=_;rw[k2,jr,pW]
theorem BB (xs:aw Operand):(eO st xs).2=st.jF (jr st xs):=(zY xs st st rfl rfl (λ_ _=>rfl)).2
theorem gB.eO (ha:gB an X o st st2){xs:aw Operand}(hx:∀t∈MN xs,t∈dB o):(eO st2 xs).1=(Dn.eO st xs).1/\(Dn.eO st2 xs).2=st2.jF (jr st xs):=zY xs st st2 ha.ep ha.len λt ht=>VN (ha.get t (hx t ht)) ha.len
theorem Su (ho:o.op=.build T parts)(h:zJ E o T parts.toList st some=some bH):dY E Γ an X o st bH:=by
 have hl:∀t∈MN (parts.toList.map (·.2)),t∈dB o:=λt ht=>by simp only[dB,ho];exact ht
 unfold zJ at h;split at h;rename_i ct jw hT;split at h;rename_i vs st1 rk;have Cz:st1=st.jF (jr st (parts.toList.map (·.2))):=by rw[<-BB,rk]
 split at h;rename_i cs hb;cases h;refine⟨⟨jr st (parts.toList.map (·.2))++o.dst.toList.map λd=>(d,.val true cs),none,none⟩,⟨λy hy=>?_,λ_ hh=>(by cases hh),λ_ hh=>(by cases hh)⟩,?_,λst2 ha=>?_⟩;rcases ay.1 hy with hy|hy;have:=hl _ (yM _ _ y hy);simp[writes,C0,ho,this];obtain⟨d,hd,rfl⟩:=List.mem_map.1 hy;simp[writes,hd];rw[Cz];show _=st.jF _;rw[pW];cases o.dst<;>rfl;obtain⟨k1,k2⟩:=ha.eO hl;have h2:eO st2 (parts.toList.map (·.2))=(vs,st2.jF (jr st (parts.toList.map (·.2)))):=Prod.ext (by rw[k1,rk]) k2;simp only[cY,ho,zJ,hT,h2,hb];show some ((st2.jF _).put o.dst _)=some (st2.jF _);rw[pW];cases o.dst<;>rfl;cases h;cases h
theorem dY.ah9 (ht:C0 an o=true)(hl:∀y∈tl,y.1∈dB o)(h:bH=((st.jF tl).fz o.dst).put o.dst v)(h2:∀st2,gB an X o st st2->cY E Γ an o st2 some=some (((st2.jF tl).fz o.dst).put o.dst v)):dY E Γ an X o st bH:=by
 have key:∀s:AS,(⟨tl++o.dst.toList.map λd=>(d,v),none,o.dst⟩:GS).apply s=((s.jF tl).fz o.dst).put o.dst v:=by intro s;cases o.dst with|none=>simp only[GS.apply,Option.toList,List.map_nil,bV,AS.jF,AS.fz,AS.put]|some d=>simp only[GS.apply,Option.toList,cV,List.map_nil,zU,AS.jF,AS.fz,AS.put,jx]
 refine⟨⟨tl++o.dst.toList.map λd=>(d,v),none,o.dst⟩,⟨λy hy=>?_,λ_ hh=>(by cases hh),λd hh=>hh⟩,by rw[key];exact h,λst2 ha=>by rw[key];exact h2 st2 ha⟩;rcases ay.1 hy with hy|hy;simp[writes,ht,hl y hy];obtain⟨d,hd,rfl⟩:=List.mem_map.1 hy;simp[writes,hd]
theorem yc {d:ax Nat}:(st.jF tl).gS d=st.gS d:=rfl
theorem Hz {len:Nat}(ho:o.op=.buildSlice T len parts)(h:lf E o T len parts.toList st some=some bH):dY E Γ an X o st bH:=by
 have hl:∀t∈MN (parts.toList.map (·.2)),t∈dB o:=λt ht=>by simp only[dB,ho];exact ht
 unfold lf at h;split at h;rename_i e hT;split at h;rename_i hc;split at h;rename_i vs st1 rk;have Cz:st1=st.jF (jr st (parts.toList.map (·.2))):=by rw[<-BB,rk]
 split at h;rename_i xs hb;cases h;refine dY.ah9 (tl:=jr st (parts.toList.map (·.2))) (v:=.one (.sl (.own (st.gS o.dst 0)) e xs)) (by simp[C0,ho]) (λy hy=>hl _ (yM _ _ y hy)) ?_ λst2 ha=>?_;rw[Cz,AS.oQ,yc];obtain⟨k1,k2⟩:=ha.eO hl;have h2:eO st2 (parts.toList.map (·.2))=(vs,st2.jF (jr st (parts.toList.map (·.2)))):=Prod.ext (by rw[k1,rk]) k2;simp only[cY,ho,lf,hT,h2,hb,aE hc];rw[AS.oQ,yc,ha.gS];cases h;cases h;cases h
theorem Jf {n c:Operand}(ho:o.op=.makeSlice T n c)(h:nJ E o T n c st some=some bH):dY E Γ an X o st bH:=by
 have hr:∀st2,gB an X o st st2->st2.rd n=st.rd n/\st2.rd c=st.rd c:=λst2 ha=>
  ⟨ha.rd (λt ht=>by simp[dB,ho,ht]),ha.rd (λt ht=>by simp[dB,ho,ht])⟩
 unfold nJ at h;split at h;rename_i e len cap hT hn hc;split at h;rename_i hlc;unfold room at h;split at h;rename_i hrm;cases h;refine dY.new (v:=.one (.sl (.own (st.gS o.dst 0)) e (List.replicate len.toNat e.zero))) rfl λst2 ha=>?_;simp only[cY,ho,nJ,(hr st2 ha).1,(hr st2 ha).2,hT,hn,hc,aE hlc,room,aE hrm,AS.oQ,ha.gS];cases h;cases h;cases h
theorem PI (ho:o.op=.call {callee:=.builtin .append,args,argTypes:=ts})(h:vo E o ts.toList args.toList st some=some bH):dY E Γ an X o st bH:=by
 have TH:∀t∈MN args.toList,t∈dB o:=λt ht=>by simp only[dB,ho];exact ht
 unfold vo at h;split at h;rename_i t t' s x rU fN;have hl:∀u∈MN [s,x],u∈dB o:=by rw[<-fN];exact TH
 have af0:∀st2,gB an X o st st2->(st2.take s).1=(st.take s).1/\((st2.take s).2.take x).1=((st.take s).2.take x).1/\((st2.take s).2.take x).2=st2.jF (jr st [s,x]):=by intro st2 ha;obtain⟨k1,k2⟩:=ha.eO hl;simp only[Dn.eO,List.cons.injEq,iu]at k1 k2;exact⟨k1.1,k1.2,k2⟩
 have zk:((st.take s).2.take x).2=st.jF (jr st [s,x]):=BB (st:=st) [s,x];split at h;rename_i tag e xs st1 Pm;split at h;rename_i fl e' ys ah6 FN;split at h;rename_i he;subst he;split at h;rename_i hc;unfold room at h;split at h;rename_i hrm;cases h;have Cz:(st.take s).2=st1:=by rw[Pm]
 have Pk:ah6=st.jF (jr st [s,x]):=by rw[<-zk,Cz,FN]
 refine dY.ah9 (tl:=jr st [s,x]) (v:=.one (.sl (.own (st.gS o.dst 0)) e' (xs++ys))) (by simp[C0,ho]) (λy hy=>hl _ (yM _ _ y hy)) ?_ λst2 ha=>?_;rw[Pk,AS.oQ,yc];obtain⟨k1,k2,k3⟩:=af0 st2 ha;have e1:st2.take s=(.val false [.sl (.own tag) e' xs],(st2.take s).2):=Prod.ext (by rw[k1,Pm]) rfl;have e2:(st2.take s).2.take x=(.val false [.sl fl e' ys],st2.jF (jr st [s,x])):=Prod.ext (by rw[k2,Cz,FN]) k3;simp only[cY,ho,vo,rU,fN];rw[e1];simp only;rw[e2];simp only[dite_true,ha.ep,aE hc,room,aE hrm,AS.oQ,yc,ha.gS];cases h;cases h;cases h;rename_i sx ah6 FN;split at h;rename_i he;subst he;split at h;rename_i hc;unfold room at h;split at h;rename_i hrm;cases h;have Cz:(st.take s).2=st1:=by rw[Pm]
 have Pk:ah6=st.jF (jr st [s,x]):=by rw[<-zk,Cz,FN]
 refine dY.ah9 (tl:=jr st [s,x]) (v:=.one (.sl (.own (st.gS o.dst 0)) (.int .u8) (xs++dj sx))) (by simp[C0,ho]) (λy hy=>hl _ (yM _ _ y hy)) ?_ λst2 ha=>?_;rw[Pk,AS.oQ,yc];obtain⟨k1,k2,k3⟩:=af0 st2 ha;have e1:st2.take s=(.val false [.sl (.own tag) (.int .u8) xs],(st2.take s).2):=Prod.ext (by rw[k1,Pm]) rfl;have e2:(st2.take s).2.take x=(.val false [.str sx],st2.jF (jr st [s,x])):=Prod.ext (by rw[k2,Cz,FN]) k3;simp only[cY,ho,vo,rU,fN];rw[e1];simp only;rw[e2];simp only[dite_true,aE hc,room,aE hrm,AS.oQ,yc,ha.gS];cases h;cases h;cases h;cases h;cases h;cases h
theorem Zz (ho:o.op=.box T x)(h:Ou o x st some=some bH):dY E Γ an X o st bH:=by
 have hr:∀st2,gB an X o st st2->(st2.take x).1=(st.take x).1/\(st2.take x).2=st2.jF (ns st x):=λst2 ha=>BC ha.ep λt ht=>ha.get t (by simpa[dB,ho]using ht);unfold Ou at h;split at h;rename_i d g cs st1 hd rk;have Cz:st1=st.jF (ns st x):=by rw[<-AH,rk]
 split at h;rename_i hb;split at h;rename_i hs;cases h;have Rv:nth st.boxes d=some none:=by rw[Cz]at hb;exact hb
 have key:∀s:AS,(⟨ns st x++[(d,.one (.ptr d 0))],some (d,cs),none⟩:GS).apply s=((s.jF (ns st x)).eF d (some cs)).put (some d) (.one (.ptr d 0)):=by intro s;simp only[GS.apply,zU,AS.jF,AS.eF,AS.put,jx]
 refine⟨⟨ns st x++[(d,.one (.ptr d 0))],some (d,cs),none⟩,⟨λy hy=>?_,λb gM=>?_,λ_ hh=>(by cases hh)⟩,?_,λst2 ha=>?_⟩;rcases ay.1 hy with hy|hy;have:=GM y hy;simp[writes,C0,ho,dB,this];simp only[cf]at hy;subst hy;simp[writes,hd];cases gM;simp[C4,ho,hd];rw[key,Cz,hd];have h2:st2.take x=(.val g cs,st2.jF (ns st x)):=Prod.ext (by rw[(hr st2 ha).1,rk]) (hr st2 ha).2;have Js:nth (st2.jF (ns st x)).boxes d=some none:=by show nth st2.boxes d=_;rw[(ha.dst d hd).2];exact Rv
 simp only[cY,ho,Ou,hd,h2,Js,aE hs,key];cases h;cases h;cases h
theorem LM (yQ:∀f,(Γ f).io=false/\((Γ f).bx=true->(Γ f).cur=true)/\(Γ f).pr=false)(hm:mV an o=true)(fT:dq E an X o st=true)(h:cY E Γ an o st some=some bH):dY E Γ an X o st bH:=by
 have h0:=h;unfold cY at h;split at h;rename_i ho;exact VI ho h;rename_i ho;have BN:yA an o=false:=by simpa[mV,ho]using hm
 rw[aH (by simp[BN])]at h;exact PJ ho hm h;rename_i ho;exact VJ ho h;rename_i ho;exact St ho h;rename_i ho;exact Zz ho h;rename_i ho;exact VH ho hm fT h;rename_i T p x ho;split at h;rename_i hd;cases p with
 |tmp pp=>
  have BN:yA an o=false:=by simp only[mV,ho,ae,aK]at hm;exact hm.2
  rw[aH (by simp[BN])]at h;exact Sy ho hd hm fT h
 |const v=>simp[mV,ho]at hm
 |func f=>simp[mV,ho]at hm
 |global g=>simp[mV,ho]at hm
 cases h;rename_i ho;exact KZ ho h0;rename_i ho;exact Zy ho h;rename_i ho;exact acV ho h;rename_i ho;exact Sv ho h;rename_i ho;exact Je ho fT h;rename_i ho;exact Sw ho h;rename_i ho;exact Su ho h;rename_i ho;exact Hz ho h;rename_i ho;exact Jf ho h;rename_i ho;exact Sx ho hm fT h;rename_i ho;simp[mV,ho]at hm;rename_i ho;simp[mV,ho]at hm;rename_i ho;exact My ho h;rename_i ho;exact Mz ho fT h;rename_i ho;exact ZA ho h;rename_i ho;exact ZC ho h;rename_i ho;exact ZB ho h;rename_i ho;exact PI ho h;rename_i ho;exact VG yQ ho fT h;cases h
end Go.Dn
