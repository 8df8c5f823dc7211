import Derived.Test.YtinkcmefgciifaaGreatDnMask
/- What an operation looks at and what it turns: for regions whose order is drawn. -/
namespace Go.Dn
structure GU where
 slots:List (Nat×AV):=[]
 box:Option (Nat×List AC):=none
 iss:Option Nat:=none
def jz (l:aw AV):aw (Nat×AV)->aw AV
 |[]=>l
 |x::r=>jz (gM l x.1 x.2) r
def GU.apply (u:GU)(st:AS):AS:=
 ⟨jz st.slots u.slots,(match u.box with|some b=>gM st.boxes b.1 (some b.2)|none=>st.boxes),st.ep,(match u.iss with|some d=>gM st.iss d true|none=>st.iss),st.io⟩
structure gD (an:An) (X:List Nat) (o:Oper) (st st2:AS):Prop where
 len:st2.slots.length=st.slots.length
 get:∀t∈dB o,st2.get t=st.get t
 ep:st2.ep=st.ep
 dst:∀d,o.dst=some d->nth st2.iss d=nth st.iss d/\nth st2.boxes d=nth st.boxes d
 box:∀s,X.contains s=false->nth st2.boxes s=nth st.boxes s
 er:∀t∈erS an o,st2.get t=st.get t
structure GU.Es (an:An) (u:GU) (o:Oper):Prop where
 slots:∀x∈u.slots,x.1∈writes an o
 box:∀b,u.box=some b->b.1∈C5 an o
 iss:∀d,u.iss=some d->o.dst=some d
variable {E:Env} {Γ:xU} {an:An} {X:fw} {o:Oper} {st st2 bH:AS}
variable {v:AV} {parts:Array (Nat×Operand)} {args:Array Operand} {ts:Array TypeId} {t:Nat} {f p x:Operand} {T:TypeId} {tl:aw (Nat×AV)} {cs:aw AC}
theorem ade (wN:st2.ep=st.ep)(h:∀t∈tm x,st2.get t=st.get t):st2.rd x=st.rd x:=by cases x with|tmp t=>simp only[AS.rd,wN,h t (by simp[tm])]|const v=>rfl|func f=>rfl|global g=>rfl
def dY (E:Env)(Γ:xU)(an:An)(X:fw)(o:Oper)(st bH:AS):Prop:=
 ∃u:GU,u.Es an o/\bH=u.apply st/\∀st2,gD an X o st st2->cY E Γ an o st2 some=some (u.apply st2)
def BD (o:Oper)(v:AV):GU:={slots:=o.dst.toList.map λd=>(d,v)}
theorem qQ (v:AV):(BD o v).apply st=st.put o.dst v:=by unfold BD GU.apply AS.put;cases o.dst<;>rfl
theorem Aa (v:AV):(BD o v).Es an o:=by refine⟨λx hx=>?_,λb hb=>by simp[BD]at hb,λd hd=>by simp[BD]at hd⟩;simp only[BD,List.mem_map]at hx;obtain⟨d,hd,rfl⟩:=hx;simp[writes,hd]
def E5 (o:Oper)(v:AV):GU:={slots:=o.dst.toList.map λd=>(d,v),iss:=o.dst}
theorem GP (v:AV):(E5 o v).apply st=(st.fz o.dst).put o.dst v:=by unfold E5 GU.apply AS.put AS.fz;cases o.dst<;>rfl
theorem MM (v:AV):(E5 o v).Es an o:=by refine⟨λx hx=>?_,λb hb=>by simp[E5]at hb,λd hd=>by simpa[E5]using hd⟩;simp only[E5,List.mem_map]at hx;obtain⟨d,hd,rfl⟩:=hx;simp[writes,hd]
theorem dY.put (h:bH=st.put o.dst v)(h2:∀st2,gD an X o st st2->cY E Γ an o st2 some=some (st2.put o.dst v)):dY E Γ an X o st bH:=⟨BD o v,Aa v,by rw[qQ];exact h,λst2 ha=>by rw[qQ];exact h2 st2 ha⟩
theorem gD.rd (ha:gD an X o st st2)(hx:∀t∈tm x,t∈dB o):st2.rd x=st.rd x:=ade ha.ep λt ht=>ha.get t (hx t ht)
theorem VN {c y:Operand}(ho:o.op=.pick c x y)(h:CJ o c x y st some=some bH):dY E Γ an X o st bH:=by
 have hr:∀st2,gD an X o st st2->st2.rd c=st.rd c/\st2.rd x=st.rd x/\st2.rd y=st.rd y:=λst2 ha=>
  ⟨ha.rd (λt ht=>by simp[dB,ho,ht]),ha.rd (λt ht=>by simp[dB,ho,ht]),ha.rd (λt ht=>by simp[dB,ho,ht])⟩
 unfold CJ at h;split at h;rename_i t hc;split at h;rename_i a b hx hy;cases h;refine dY.put rfl λst2 ha=>?_;obtain⟨h1,h2,h3⟩:=hr st2 ha;simp only[cY,ho,CJ,h1,h2,h3,hc,hx,hy];rename_i va vb Fe;have Yx:∀st2,gD an X o st st2->cY E Γ an o st2 some=cond t (some (st2.put o.dst (st.rd x))) (some (st2.put o.dst (st.rd y))):=by intro st2 ha;obtain⟨h1,h2,h3⟩:=hr st2 ha;simp only[cY,ho,CJ,h1,h2,h3,hc]
 cases t with|true=>cases h;exact dY.put rfl λst2 ha=>Yx st2 ha|false=>cases h;exact dY.put rfl λst2 ha=>Yx st2 ha
 cases h
theorem KU {d s:Nat}:(⟨[(d,v)],some (s,cs),none⟩:GU).apply st=(st.eF s (some cs)).put (some d) v:=rfl
theorem N8 {o:Oper}(h:CZ an o=true):∃T q d,o.op=.load T (.tmp q)/\o.dst=some d/\o.guard=none/\an.mv.contains d=true/\an.mb d=none:=by unfold CZ at h;split at h;rename_i T q d ho hd hg;simp only[ae,Option.isNone_iff_eq_none]at h;exact⟨T,q,d,ho,hd,hg,h.1.1,h.1.2⟩;cases h
def GM (st:AS)(b j t:Nat)(e:CT)(i:Int)(cs:aw AC)(ys:aw e.D):AS:=st.eF b (some (gM cs j (.sl (.fg (some t) i (some st.ep)) e ys)))
theorem LP {q d:Nat}(ht:CZ an o=true)(ho:o.op=.load T (.tmp q))(hd:o.dst=some d)(BO:an.mv.contains d=true)(TG:an.mb d=none):(dq E an X o st=true/\oh E an o T (.tmp q) st some=some bH)↔ ∃(g:Bool)(e:CT)(jy:aw (Nat×Nat))(b j t J4:Nat)(x:e.D)(i:Int)(cs:aw AC)(ys:aw e.D)(y:e.D),iT E.ty T=some ⟨g,e,jy⟩/\st.rd (.tmp q)=.val false [.zM (.loc J4 (some (.box b j,t))) e x i 0]/\(nth st.boxes b).getD none=some cs/\nth cs j=some (.sl (.own (some t)) e ys)/\idx ys i=some y/\ X.contains b=false/\an.eb q=some b/\TE an o=false/\bH=(GM st b j t e i cs ys).put (some d) (.val g (cellsOf e (.own none) y)):=by
 have rk:C3 an o=true:=by unfold C3;rw[hd];simp only[BO,TG];rfl
 have Il:zZ an o=false:=by unfold zZ;split;rename_i hd' _;rw[hd]at hd';cases hd';rw[TG];simp;rfl
 have hnp:zw an o=false:=by unfold zw;split;rename_i hd' _;rw[hd]at hd';cases hd';rw[BO];rfl;rfl
 constructor;rintro⟨hf,h⟩;unfold oh at h;split at h;rename_i hp;simp only[dq,ho,hp,hd,BO,TG]at hf;simp at hf;rename_i sh fl e x i off hT hp;rw[aE rk]at h;simp only[dq,ho,hp,ht,Il,hnp,Bool.or_false,bF,aj,cG,dS,ae,aK]at hf;obtain⟨⟨Fb,Jr⟩,hb⟩:=hf;unfold wF at h;split at h;rename_i J4 r t;cases r with
 |slot _ _=>cases hb
 |io _=>cases hb
 |box b j=>
  simp only[ae,aQ,aK]at hb;split at h;rename_i t' e' ys TH;split at h;rename_i he;subst he;split at h;rename_i hc;obtain⟨rfl,rfl,Ij⟩:=hc;obtain⟨g,ct,jy⟩:=sh;simp only at Ij;subst Ij;cases hi:idx ys i with|none=>simp only[hi,aa]at h;cases h|some y=>simp only[hi,aa]at h;cases h;simp only[AS.eM]at TH;obtain⟨cs,Hc,hj⟩:=aL.1 TH;refine⟨g,_,jy,b,j,_,J4,x,i,cs,ys,y,hT,hp,Hc,hj,hi,hb.2,hb.1,Jr,?_⟩;simp only[AS.eU,Hc,hd];rfl
  cases h;cases h;cases h
 cases h;cases h;rintro⟨g,e,jy,b,j,t,J4,x,i,cs,ys,y,hT,hp,Hc,hj,hi,hX,Pb,Jr,rfl⟩;constructor;simp only[dq,ho,hp,ht,Il,hnp,Jr,hX,Pb];simp;simp only[oh,hT,hp,rk,bN,wF,AS.eM,Hc,eo,hj,dite_true,and_self,hi,aa,AS.eU,hd];rfl
theorem Sx (ht:CZ an o=true)(ho:o.op=.load T p)(fT:dq E an X o st=true)(h:oh E an o T p st some=some bH):dY E Γ an X o st bH:=by obtain⟨T',q,d,I7,hd,hg,BO,TG⟩:=N8 ht;rw[ho]at I7;cases I7;obtain⟨g,e,jy,b,j,t,J4,x,i,cs,ys,y,hT,hp,Hc,hj,hi,hX,Pb,Jr,rfl⟩:=(LP ht ho hd BO TG).1 ⟨fT,h⟩;refine⟨⟨[(d,.val g (cellsOf e (.own none) y))],some (b,gM cs j (.sl (.fg (some t) i (some st.ep)) e ys)),none⟩,⟨λx hx=>?_,λb' gO=>?_,λ_ hh=>by cases hh⟩,rfl,λst2 ha=>?_⟩;simp only[cf]at hx;subst hx;simp[writes,hd];cases gO;simp only[C5,ho,hd,BO,ah,ht,Pb];simp;have h2:=((LP (E:=E) (X:=X) (st:=st2) ht ho hd BO TG).2 ⟨g,e,jy,b,j,t,J4,x,i,cs,ys,y,hT,by rw[ha.rd (λt ht=>by simpa[dB,ho]using ht)];exact hp,by rw[ha.box b hX];exact Hc,hj,hi,hX,Pb,Jr,rfl⟩).2;simp only[cY,ho];rw[h2];simp only[GM,ha.ep];rfl
theorem VL (ho:o.op=.load T p)(hm:mV an o=true)(fT:dq E an X o st=true)(h:oh E an o T p st some=some bH):dY E Γ an X o st bH:=by
 cases hE:CZ an o with|true=>exact Sx hE ho fT h|false=> ?_
 have hr:∀st2,gD an X o st st2->st2.rd p=st.rd p:=λst2 ha=>ha.rd (λt ht=>by simpa[dB,ho]using ht);have rk:C3 an o=false:=by simp only[mV,ho,hE,Bool.or_false]at hm;unfold C3;cases Pa:o.dst with|none=>rfl|some d=>rw[Pa]at hm;simp only[cz,aK]at hm;rcases hm with hm|hm;simp only[hm,dN];cases TG:an.mb d with|none=>rw[TG]at hm;cases hm|some _=>simp[TG]
 unfold oh at h;split at h;rename_i sh s off hT hp;simp only[dq,ho,hp,ae,aK]at fT;split at h;rename_i cs hb;split at h;rename_i gx;split at h;rename_i d hd;have jw:∀st2,gD an X o st st2->nth st2.boxes s=nth st.boxes s:=λst2 ha=>ha.box s fT.1.1;cases hf:an.mv.contains d with
 |false=>simp only[hf,aW,bU]at h;cases h;refine dY.put (by rw[hd]) λst2 ha=>?_;simp only[cY,ho,oh,hT,hr st2 ha,hp,jw st2 ha,hb,aE gx,hd,hf,aW,bU,ha.ep]
 |true=>
  simp only[hf,bN]at h;have TG:an.mb d=some s:=by have:=fT.1.2;rw[hd]at this;simp only[hf,aj,cG,aQ]at this;exact this
  cases h;refine⟨⟨[(d,.val sh.agg ((cs.drop off).take sh.ct.size))],some (s,dZ cs off (aS st.ep ((cs.drop off).take sh.ct.size))),none⟩,⟨λx hx=>?_,λb gO=>?_,λ_ hh=>by cases hh⟩,?_,λst2 ha=>?_⟩;simp only[cf]at hx;subst hx;simp[writes,hd];cases gO;simp only[C5,ho,hd,hf,ah,TG];simp;rw[KU,hd];simp only[cY,ho,oh,hT,hr st2 ha,hp,jw st2 ha,hb,aE gx,hd,hf,bN,ha.ep,KU]
 cases h;cases h;cases h;rename_i sh fl e x i off hT hp;rw[aH (by simp[rk])]at h;split at h;rename_i hl;split at h;rename_i gx;cases h;refine dY.put rfl λst2 ha=>?_;simp only[cY,ho,oh,hT,hr st2 ha,hp,ha.ep,rk,aW,bU,aE hl,aE gx];cases h;rename_i hl;have D1:∀r t J4,fl=.loc J4 (some (r,t))->∀st2,gD an X o st st2->st2.eM r=st.eM r:=by rintro r t J4 rfl st2 ha;simp only[dq,ho,hp,hE,bF,iv,dS,ae,cz]at fT;rcases fT.1.1 with hq|hq;exact absurd hq hl;cases r with|slot b j=>simp only[AS.eM];rw[ha.er b (by simpa using hq)]|box b j=>simp only[AS.eM];rw[ha.box b (by simpa using hq)]|io j=>cases hq
 unfold Bw at h;split at h;rename_i J4 r t;split at h;rename_i t' e' ys TH;split at h;rename_i he;split at h;rename_i hc;cases hi:idx (he▸ys:List _) i with|none=>rw[hi]at h;cases h|some y=>rw[hi]at h;simp only[aa]at h;cases h;refine dY.put rfl λst2 ha=>?_;simp only[cY,ho,oh,hT,hr st2 ha,hp,ha.ep,rk,aW,bU,aH hl,Bw,D1 _ _ _ rfl st2 ha,TH,dif_pos he,aE hc,hi,aa]
 cases h;cases h;cases h;cases h;cases h
theorem KY (ho:o.op=.nilCheck x)(h:cY E Γ an o st some=some bH):dY E Γ an X o st bH:=by have hr:∀st2,gD an X o st st2->st2.rd x=st.rd x:=λst2 ha=>ha.rd (λt ht=>by simpa[dB,ho]using ht);simp only[cY,ho]at h;split at h;rename_i s off hx;cases h;refine dY.put rfl λst2 ha=>?_;simp only[cY,ho,hr st2 ha,hx];rename_i fl e y i off hx;cases h;refine dY.put rfl λst2 ha=>?_;simp only[cY,ho,hr st2 ha,hx];cases h
theorem LW {op:BinOp}{x y:AV}(h:(DN op x y λc=>some (st.put o.dst (.one c)))=some bH):∃v,bH=st.put o.dst v/\∀st2:AS,(DN op x y λc=>some (st2.put o.dst (.one c)))=some (st2.put o.dst v):=by have key:∀s:AS,(DN op x y λc=>some (s.put o.dst (.one c)))=(DN op x y some).bind λc=>some (s.put o.dst (.one c)):=λs=>(De op x y some _).symm;rw[key st]at h;cases hb:DN op x y some with|none=>rw[hb]at h;cases h|some c=>rw[hb]at h;cases h;exact⟨_,rfl,λst2=>by rw[key st2,hb];rfl⟩
theorem Ob {op:BinOp}{b:Bool}(h:(BL op b λc=>some (st.put o.dst (.one c)))=some bH):∃v,bH=st.put o.dst v/\∀st2:AS,(BL op b λc=>some (st2.put o.dst (.one c)))=some (st2.put o.dst v):=by unfold BL at h;split at h;cases h;exact⟨_,rfl,λst2=>rfl⟩;cases h;exact⟨_,rfl,λst2=>rfl⟩;cases h
theorem ZB {op:BinOp}{T':TypeId}{y:Operand}(ho:o.op=.binOp op T x y T')(h:yV E o op T x y st some=some bH):dY E Γ an X o st bH:=by
 have hr:∀st2,gD an X o st st2->st2.rd x=st.rd x/\st2.rd y=st.rd y:=λst2 ha=>
  ⟨ha.rd (λt ht=>by simp[dB,ho,ht]),ha.rd (λt ht=>by simp[dB,ho,ht])⟩
 unfold yV at h;split at h;rename_i a b hx hy;split at h;rename_i hT;obtain⟨v,rfl,hv⟩:=LW h;refine dY.put rfl λst2 ha=>?_;simp only[cY,ho,yV,(hr st2 ha).1,(hr st2 ha).2,hx,hy,aE hT];exact hv st2;cases h;rename_i xs ys hx hy;split at h;rename_i ls hq;split at h;rename_i gx;obtain⟨v,rfl,hv⟩:=LW h;refine dY.put rfl λst2 ha=>?_;simp only[cY,ho,yV,(hr st2 ha).1,(hr st2 ha).2,hx,hy,hq,aE gx];exact hv st2;cases h;cases h;rename_i fl e xs hx hy;split at h;rename_i hT;split at h;cases h;rename_i hlen;obtain⟨v,rfl,hv⟩:=Ob h;refine dY.put rfl λst2 ha=>?_;simp only[cY,ho,yV,(hr st2 ha).1,(hr st2 ha).2,hx,hy,ha.ep,aE hT,aH hlen];exact hv st2;cases h;rename_i hx hy;split at h;rename_i hT;obtain⟨v,rfl,hv⟩:=Ob h;refine dY.put rfl λst2 ha=>?_;simp only[cY,ho,yV,(hr st2 ha).1,(hr st2 ha).2,hx,hy,aE hT];exact hv st2;cases h;rename_i a b Fc AJ hn3 hn4;obtain⟨v,rfl,hv⟩:=LW h;refine dY.put rfl λst2 ha=>?_;simp only[cY,ho,yV,(hr st2 ha).1,(hr st2 ha).2];exact hv st2
theorem acW {op:UnOp}(ho:o.op=.unOp op T x)(h:(unC op (st.rd x) λc=>some (st.put o.dst (.one c)))=some bH):dY E Γ an X o st bH:=by have hr:∀st2,gD an X o st st2->st2.rd x=st.rd x:=λst2 ha=>ha.rd (λt ht=>by simpa[dB,ho]using ht);have key:∀s:AS,(unC op (st.rd x) λc=>some (s.put o.dst (.one c)))=(unC op (st.rd x) some).bind λc=>some (s.put o.dst (.one c)):=λs=>(Tu op (st.rd x) some _).symm;rw[key st]at h;cases hb:unC op (st.rd x) some with|none=>rw[hb]at h;cases h|some c=>rw[hb]at h;cases h;refine dY.put rfl λst2 ha=>?_;simp only[cY,ho,hr st2 ha];rw[key st2,hb];rfl
theorem St {S:TypeId}{f:Nat}(ho:o.op=.fieldAddr S p f)(h:ym E o S p f st some=some bH):dY E Γ an X o st bH:=by have hr:∀st2,gD an X o st st2->st2.rd p=st.rd p:=λst2 ha=>ha.rd (λt ht=>by simpa[dB,ho]using ht);unfold ym at h;split at h;rename_i hT hp;split at h;rename_i hf;cases h;refine dY.put rfl λst2 ha=>?_;simp only[cY,ho,ym,hr st2 ha,hT,hp,hf];cases h;rename_i hT hp;split at h;rename_i hf;cases h;refine dY.put rfl λst2 ha=>?_;simp only[cY,ho,ym,hr st2 ha,hT,hp,hf];cases h;cases h
theorem xX {s:AS}(h:v.now s.ep=true):v.fresh s=v:=by
 cases v with
 |uG vs=>rfl
 |val g cs=>
  simp only[AV.now,aG]at h;simp only[AV.fresh];congr 1;have:cs.map s.fresh=cs.map id:=List.map_congr_left λc hc=>by have hn:=h c hc;unfold AS.fresh;split;simp only[AC.now]at hn;rw[hn];rfl;rfl
  rw[this,List.map_id]
theorem Ri {st st2:AS}(he:st2.ep=st.ep)(h:v.now st.ep=true\/∃g ep b j t e xs,v=.val g [.sl (.loc ep (some (.box b j,t))) e xs]/\nth st2.boxes b=nth st.boxes b):v.fresh st2=v.fresh st:=by rcases h with h|⟨g,ep,b,j,t,e,xs,rfl,hb⟩;rw[xX h,xX (by rw[he];exact h)];simp only[AV.fresh,cV,List.map_nil];congr 2;unfold AS.fresh;simp only[AS.eM,he,hb]
theorem Jc {i:Operand}(ho:o.op=.indexAddr T x i)(fT:dq E an X o st=true)(h:lS E o T x i st some=some bH):dY E Γ an X o st bH:=by
 have hr:∀st2,gD an X o st st2->st2.rd x=st.rd x/\st2.rd i=st.rd i:=λst2 ha=>
  ⟨ha.rd (λt ht=>by simp[dB,ho,ht]),ha.rd (λt ht=>by simp[dB,ho,ht])⟩
 have AW:∀st2,gD an X o st st2->(st.rd x).fresh st2=(st.rd x).fresh st:=λst2 ha=>by refine Ri ha.ep ?_;simp only[dq,ho,cz]at fT;rcases fT with hn|hn;exact .inl hn;split at hn;rename_i g ep b j t e xs hx;exact .inr ⟨g,ep,b,j,t,e,xs,hx,ha.box b (by simpa using hn)⟩;cases hn
 unfold lS at h;split at h;rename_i e' fl e xs k n hT hx hi;split at h;rename_i hc;cases Ct:idx xs n with|none=>rw[Ct]at h;cases h|some y=>rw[Ct]at h;cases h;refine dY.put rfl λst2 ha=>?_;have hf3:=AW st2 ha;rw[hx]at hf3;simp only[cY,ho,lS,(hr st2 ha).1,(hr st2 ha).2,hf3,hT,hi,ha.ep,aE hc,Ct,aa]
 cases h;cases h
theorem Su {i:Operand}(ho:o.op=.index T x i)(h:zS E o T x i st some=some bH):dY E Γ an X o st bH:=by
 have hr:∀st2,gD an X o st st2->st2.rd x=st.rd x/\st2.rd i=st.rd i:=λst2 ha=>
  ⟨ha.rd (λt ht=>by simp[dB,ho,ht]),ha.rd (λt ht=>by simp[dB,ho,ht])⟩
 unfold zS at h;split at h;rename_i s k n hx hi;split at h;rename_i hc;cases Ct:idx s n with|none=>rw[Ct]at h;cases h|some y=>rw[Ct]at h;cases h;refine dY.put rfl λst2 ha=>?_;simp only[cY,ho,zS,(hr st2 ha).1,(hr st2 ha).2,hx,hi,aE hc,Ct,aa]
 cases h;cases h
theorem dY.new (h:bH=(st.fz o.dst).put o.dst v)(h2:∀st2,gD an X o st st2->cY E Γ an o st2 some=some ((st2.fz o.dst).put o.dst v)):dY E Γ an X o st bH:=⟨E5 o v,MM v,by rw[GP];exact h,λst2 ha=>by rw[GP];exact h2 st2 ha⟩
theorem gD.gU (ha:gD an X o st st2):st2.gU o.dst=st.gU o.dst:=by funext j;cases hd:o.dst with|none=>rfl|some d=>simp only[AS.gU,(ha.dst d hd).1]
theorem Gf {lo hi:ax Operand}{n:Nat}{f:AS->Int->Int->ax AS}(hs:∀st2,gD an X o st st2->lo.map st2.rd=lo.map st.rd/\hi.map st2.rd=hi.map st.rd)(h:me st lo hi n (f st)=some bH):∃a b,f st a b=some bH/\∀st2,gD an X o st st2->me st2 lo hi n (f st2)=f st2 a b:=by unfold me at h;split at h;rename_i h1 h2;exact⟨_,_,h,λst2 ha=>by simp only[me,(hs st2 ha).1,(hs st2 ha).2,h1,h2]⟩;rename_i h1 h2;exact⟨_,_,h,λst2 ha=>by simp only[me,(hs st2 ha).1,(hs st2 ha).2,h1,h2]⟩;rename_i h1 h2;exact⟨_,_,h,λst2 ha=>by simp only[me,(hs st2 ha).1,(hs st2 ha).2,h1,h2]⟩;rename_i h1 h2;exact⟨_,_,h,λst2 ha=>by simp only[me,(hs st2 ha).1,(hs st2 ha).2,h1,h2]⟩;cases h
theorem Sv {lo hi:ax Operand}(ho:o.op=.slice T x lo hi none)(hm:mV an o=true)(fT:dq E an X o st=true)(h:yJ E an o T x lo hi st some=some bH):dY E Γ an X o st bH:=by
 have hr:∀st2,gD an X o st st2->st2.rd x=st.rd x:=λst2 ha=>ha.rd (λt ht=>by simp[dB,ho,ht]);have hb:∀st2,gD an X o st st2->lo.map st2.rd=lo.map st.rd/\hi.map st2.rd=hi.map st.rd:=by
  intro st2 ha;constructor;cases lo with|none=>rfl|some y=>simp only[dc];rw[ha.rd (λt ht=>by simp[dB,ho,tmO,ht])]
  cases hi with|none=>rfl|some y=>simp only[dc];rw[ha.rd (λt ht=>by simp[dB,ho,tmO,ht])]
 have Cx:(st.rd x).now st.ep=true:=by simpa[dq,ho]using fT
 have AW:∀st2,gD an X o st st2->(st.rd x).fresh st2=st.rd x:=λst2 ha=>xX (by rw[ha.ep];exact Cx);have rk:C3 an o=false:=by simpa[mV,ho]using hm
 unfold yJ at h;rw[aH (by simp[rk]),xX Cx]at h;split at h;rename_i s hx;split at h;rename_i hT;obtain⟨a,b,h1,h2⟩:=Gf (f:=λs0 a b=>aa (sub s a b) λs'=>some (s0.put o.dst (.one (.str s')))) hb h;cases oP:sub s a b with|none=>rw[oP]at h1;cases h1|some s'=>rw[oP]at h1;cases h1;refine dY.put rfl λst2 ha=>?_;have hf3:=AW st2 ha;rw[hx]at hf3;simp only[cY,ho,yJ,rk,aW,bU,hr st2 ha,hx,hf3,aE hT];rw[h2 st2 ha,oP];rfl
 cases h;rename_i fl e xs hx;split at h;rename_i hT;obtain⟨a,b,h1,h2⟩:=Gf (f:=λs0 a b=>aa (sub xs a b) λL8=>some (s0.put o.dst (.one (.sl (Lb an o fl a) e L8)))) hb h;cases oP:sub xs a b with|none=>rw[oP]at h1;cases h1|some s'=>rw[oP]at h1;cases h1;refine dY.put rfl λst2 ha=>?_;have hf3:=AW st2 ha;rw[hx]at hf3;simp only[cY,ho,yJ,rk,aW,bU,hr st2 ha,hx,hf3,ha.ep,aE hT];rw[h2 st2 ha,oP];rfl
 cases h;cases h
theorem Et {args:aw Operand}(hl:∀t,t∈ML args->t∈dB o)(ha:gD an X o st st2):args.map st2.rd=args.map st.rd:=by apply List.map_congr_left;intro x hx;exact ha.rd (λt ht=>hl t (by simp only[ML,List.mem_flatMap];exact⟨x,hx,ht⟩))
theorem ZD (ho:o.op=.call {callee:=.builtin .len,args,argTypes:=ts})(h:KT E o ts.toList args.toList st some=some bH):dY E Γ an X o st bH:=by have hr:∀st2,gD an X o st st2->args.toList.map st2.rd=args.toList.map st.rd:=λst2 ha=>Et (λt ht=>by simp only[dB,ho];exact ht) ha;unfold KT at h;split at h;rename_i t s rU hx;split at h;rename_i hT;cases h;refine dY.put rfl λst2 ha=>?_;simp only[cY,ho,KT,hr st2 ha,rU,hx,aE hT];cases h;rename_i t _ _ xs rU hx;split at h;rename_i hT;cases h;refine dY.put rfl λst2 ha=>?_;simp only[cY,ho,KT,hr st2 ha,rU,hx,aE hT];cases h;cases h
theorem ZF (ho:o.op=.call {callee:=.builtin .min,args,argTypes:=ts})(h:Mu o args.toList st some=some bH):dY E Γ an X o st bH:=by have hr:∀st2,gD an X o st st2->args.toList.map st2.rd=args.toList.map st.rd:=λst2 ha=>Et (λt ht=>by simp only[dB,ho];exact ht) ha;unfold Mu at h;split at h;rename_i hx;cases h;refine dY.put rfl λst2 ha=>?_;simp only[cY,ho,Mu,hr st2 ha,hx];cases h
theorem ZE (ho:o.op=.call {callee:=.builtin .max,args,argTypes:=ts})(h:Mt o args.toList st some=some bH):dY E Γ an X o st bH:=by have hr:∀st2,gD an X o st st2->args.toList.map st2.rd=args.toList.map st.rd:=λst2 ha=>Et (λt ht=>by simp only[dB,ho];exact ht) ha;unfold Mt at h;split at h;rename_i hx;cases h;refine dY.put rfl λst2 ha=>?_;simp only[cY,ho,Mt,hr st2 ha,hx];cases h
theorem Zn {l:fw}{c:AC}(h:c.adq l=true)(hl:∀t∈l,st2.get t=st.get t):st2.Ms c=st.Ms c:=by
 cases c with
 |sl fl e xs=>
  cases fl with
  |loc ep pv=>cases pv with|none=>rfl|some q=>obtain⟨r,t⟩:=q;cases r with|slot b j=>have hb:st2.get b=st.get b:=hl b (by simpa[AC.adq]using h);simp only[AS.Ms,AS.eM,hb]|box _ _=>rfl|io _=>rfl
  |_=>rfl
 |_=>rfl
theorem VB {l:fw}(hx:Gv l st x=true)(hl:∀t∈l,st2.get t=st.get t)(h:∀t∈tm x,st2.get t=st.get t):zu st2 x=zu st x/\Au st2 x=Au st x:=by
 cases x with
 |tmp t=>have ht:=h t (by simp[tm]);simp only[Gv]at hx;cases hg:st.get t with|uG vs=>exact⟨by simp only[zu,ht,hg],by simp only[Au,ht,hg]⟩|val g cs=>rw[hg]at hx;have hm:cs.map st2.Ms=cs.map st.Ms:=List.map_congr_left λc hc=>Zn (aG.1 hx c hc) hl;exact⟨by simp only[zu,ht,hg,hm],by simp only[Au,ht,hg,hm]⟩
 |const v=>exact⟨rfl,rfl⟩
 |func f=>exact⟨rfl,rfl⟩
 |global g=>exact⟨rfl,rfl⟩
theorem Mv (ho:o.op=.call {callee:=.value f,args,argTypes:=ts})(fT:dq E an X o st=true){k:Nat}(hf:st.rd f=.val false [.fn k])(jw:(Γ k).bx=true)(hcur:(Γ k).cur=true)(h:tn Γ o k args.toList st some=some bH):dY E Γ an X o st bH:=by
 unfold tn at h;split at h;rename_i x0 xs fN;split at h;rename_i s hx0;have jh:rR an X (erS an o) st (x0::xs)=true:=by have h1:=fT;simp only[dq,ho,ae]at h1;rw[<-fN];exact h1.1
 have hx1:∃q,x0=.tmp q/\X.contains s=false/\an.sb q=some s/\(match (nth st.boxes s).getD none with|some cs=>cs.all AC.Fo|none=>true)=true/\xs.all (Gv (erS an o) st)=true:=by cases x0 with|tmp q=>simp only[rR,hx0,aa7,ae,aK,aQ]at jh;exact⟨q,rfl,jh.1.1.1,jh.1.1.2,jh.1.2,jh.2⟩|const v=>simp only[rR,hx0,AV.Xt]at jh;cases jh|func v=>simp only[rR,hx0,AV.Xt]at jh;cases jh|global v=>simp only[rR,hx0,AV.Xt]at jh;cases jh
 obtain⟨q,rfl,hX,Xd,EH,zk⟩:=hx1;split at h;rename_i cs Rt;rw[Rt]at EH;simp only at EH;cases hc:(cs.all (AC.xc (BI cs))&&xs.all (Au st))with
 |false=>rw[hc]at h;cases h
 |true=>
  rw[hc]at h;simp only[ah]at h;cases gz:(Γ k).fn (.val true (cs.map AC.Qk)::xs.map (zu st))with
  |none=>rw[gz]at h;cases h
  |some y=>
   rw[gz]at h;simp only[aa]at h;cases UY:(((Γ k).back y).all (AC.xc true)&&((Γ k).av y).ZI)with
   |false=>rw[UY]at h;cases h
   |true=>
    rw[UY]at h;simp only[ah,hcur,EH,eY,aZ]at h;subst h;refine⟨⟨o.dst.toList.map λd=>(d,((Γ k).av y).BJ st.ep (st.gU o.dst)),some (s,oG (BI cs) (λ_=>none) 0 ((Γ k).back y)),o.dst⟩,⟨λx hx=>?_,λb hb=>?_,λd hd=>hd⟩,?_,λst2 ha=>?_⟩;simp only[List.mem_map]at hx;obtain⟨d,hd,rfl⟩:=hx;simp[writes,hd];cases hb;simp[C5,ho,fN,Xd];unfold GU.apply AS.put AS.fz AS.eF;cases o.dst<;>rfl;have e1:st2.rd f=st.rd f:=ha.rd (λt ht=>by simp[dB,ho,ht]);have hl:∀x∈Operand.tmp q::xs,∀t∈tm x,t∈dB o:=by intro x hx t ht;simp only[dB,ho,ay,ML,List.mem_flatMap,fN];exact .inr ⟨x,hx,ht⟩
    have e2:st2.rd (.tmp q)=st.rd (.tmp q):=ha.rd (hl _ (by simp));have e3:nth st2.boxes s=nth st.boxes s:=ha.box s hX;have e4:∀x∈xs,zu st2 x=zu st x/\Au st2 x=Au st x:=λx hx=>VB (aG.1 zk x hx) ha.er λt ht=>ha.get t (hl x (by simp[hx]) t ht);have e5:xs.map (zu st2)=xs.map (zu st):=List.map_congr_left λx hx=>(e4 x hx).1;have e6:xs.all (Au st2)=xs.all (Au st):=by rw[cq];simp only[aG];exact⟨λg x hx=>by rw[<-(e4 x hx).2];exact g x hx,λg x hx=>by rw[(e4 x hx).2];exact g x hx⟩
    simp only[cY,ho,BK,e1,hf,jw,ah,tn,fN,e2,hx0,e3,Rt,e5,e6,hc,gz,aa,UY,hcur,EH,eY,ha.ep,ha.gU];unfold GU.apply AS.put AS.fz AS.eF;cases o.dst<;>rfl
 cases h;cases h;cases h
theorem VK (yQ:∀f,(Γ f).io=false/\((Γ f).bx=true->(Γ f).cur=true)/\(Γ f).pr=false)(ho:o.op=.call {callee:=.value f,args,argTypes:=ts})(fT:dq E an X o st=true)(h:BK Γ o f args.toList st some=some bH):dY E Γ an X o st bH:=by
 have hr:∀st2,gD an X o st st2->st2.rd f=st.rd f/\(args.toList.map λx=>((st2.rd x).fresh st2).asArg st2.ep)=args.toList.map λx=>((st.rd x).fresh st).asArg st.ep:=by
  intro st2 ha;refine⟨ha.rd (λt ht=>by simp[dB,ho,ht]),?_⟩;apply List.map_congr_left;intro x hx;have Cx:(st.rd x).now st.ep=true:=by simp only[dq,ho,ae,aG]at fT;exact fT.2 x hx
  rw[ha.rd (λt ht=>by simp only[dB,ho,ay,ML,List.mem_flatMap];exact .inr ⟨x,hx,ht⟩),xX Cx,xX (s:=st2) (by rw[ha.ep];exact Cx),ha.ep]
 unfold BK at h;split at h
 ·rename_i k hf
  cases jw:(Γ k).bx with
  |true=>rw[jw]at h;exact Mv ho fT hf jw ((yQ k).2.1 jw) h
  |false=>
  rw[jw,(yQ k).2.2,(yQ k).1]at h
  simp only[af]at h
  cases hg:(Γ k).fn (args.toList.map λx=>((st.rd x).fresh st).asArg st.ep)with
  |none=>rw[hg]at h;cases h
  |some y=>
   rw[hg]at h
   simp only[aa]at h
   cases Mn:(Γ k).sel y with
   |true=>
    rw[Mn]at h
    cases h
    refine dY.new rfl λst2 ha=>?_
    simp only[cY,ho,BK,(hr st2 ha).1,hf,(yQ k).1,jw,(yQ k).2.2,af]
    rw[(hr st2 ha).2,hg]
    simp only[aa,Mn,ah,ha.ep,ha.gU]
   |false=>
    rw[Mn]at h
    cases h
    refine dY.new rfl λst2 ha=>?_
    simp only[cY,ho,BK,(hr st2 ha).1,hf,(yQ k).1,jw,(yQ k).2.2,af]
    rw[(hr st2 ha).2,hg]
    simp only[aa,Mn,af,ha.ep,ha.gU]
 cases h
theorem Mw {src dst:TypeId}(ho:o.op=.convert src dst x)(h:lh E o src dst x st some=some bH):dY E Γ an X o st bH:=by
 have hr:∀st2,gD an X o st st2->st2.rd x=st.rd x:=λst2 ha=>ha.rd (λt ht=>by simpa[dB,ho]using ht);unfold lh at h;split at h;rename_i h1 h2 h3;cases h;refine dY.put rfl λst2 ha=>?_;simp only[cY,ho,lh,hr st2 ha,h1,h2,h3];rename_i h1 h2 h3;cases h;refine dY.put rfl λst2 ha=>?_;simp only[cY,ho,lh,hr st2 ha,h1,h2,h3];rename_i jy val s Fe h1 h2 h3;split at h;rename_i hb;unfold room at h;split at h;rename_i hrm;cases h;refine dY.new (v:=.one (.sl (.own (st.gU o.dst 0)) (.int .u8) (dj s))) rfl λst2 ha=>?_;have EK:∀k:AS->ax AS,lh E o src dst x st2 k=if E.bytes dst then room s.length (k (st2.oQ o.dst (.int .u8) (dj s))) else none:=by intro k;unfold lh;rw[hr st2 ha,h1,h2,h3];obtain⟨ag,ct,of⟩:=val;cases ag with|true=>rfl|false=>cases ct with|str=>exact(Fe _ rfl).elim|_=>rfl
 simp only[cY,ho];rw[EK,aE hb,room,aE hrm,AS.oQ,ha.gU];cases h;cases h;rename_i val jy fl xs h1 h2 h3;split at h;rename_i hb;cases h;refine dY.put rfl λst2 ha=>?_;have EK:∀k:AS->ax AS,lh E o src dst x st2 k=if E.bytes src/\fl.live st2.ep then k (st2.put o.dst (.one (.str (aJ xs)))) else none:=by intro k;unfold lh;rw[hr st2 ha,h1,h2,h3];obtain⟨ag,ct,of⟩:=val;cases ag with|true=>rfl|false=>cases ct<;>rfl
 simp only[cY,ho];rw[EK,ha.ep,aE hb];cases h;cases h
theorem H3 {d:Nat}:(⟨[(d,v)],some (d,cs),none⟩:GU).apply st=(st.eF d (some cs)).put (some d) v:=rfl
theorem Sr (ho:o.op=.alloc T)(h:AK E o T st some=some bH):dY E Γ an X o st bH:=by unfold AK at h;split at h;rename_i d sh hd hT;split at h;rename_i hb;cases h;refine⟨⟨[(d,.one (.ptr d 0))],some (d,cellsOf sh.ct (.own none) sh.ct.zero),none⟩,⟨λx hx=>?_,λb gO=>?_,λ_ hh=>by cases hh⟩,?_,λst2 ha=>?_⟩;simp only[cf]at hx;subst hx;simp[writes,hd];cases gO;simp[C5,ho,hd];rw[H3,hd];simp only[cY,ho,AK,hd,hT,(ha.dst d hd).2,hb,H3];cases h;cases h
def nu (st:AS):Operand->aw (Nat×AV)
 | .tmp t=>[(t,(st.get t).aS st.ep)]
 |_=>[]
theorem zU (l:aw AV)(a b:aw (Nat×AV)):jz l (a++b)=jz (jz l a) b:=by induction a generalizing l with|nil=>rfl|cons x a ih=>exact ih _
def AS.jH (st:AS)(l:aw (Nat×AV)):AS:={st with slots:=jz st.slots l}
theorem pW (a b:aw (Nat×AV)):st.jH (a++b)=(st.jH a).jH b:=by simp only[AS.jH,zU]
theorem AH (x:Operand):(st.take x).2=st.jH (nu st x):=by cases x<;>rfl
theorem BC (wN:st2.ep=st.ep)(h:∀t∈tm x,st2.get t=st.get t):(st2.take x).1=(st.take x).1/\(st2.take x).2=st2.jH (nu st x):=by cases x with|tmp t=>have:=h t (by simp[tm]);refine⟨this,?_⟩;rw[AH];simp only[nu,this,wN]|const v=>exact⟨rfl,rfl⟩|func f=>exact⟨rfl,rfl⟩|global g=>exact⟨rfl,rfl⟩
theorem GN:∀y∈nu st x,y.1∈tm x:=by cases x<;>simp[nu,tm]
theorem VM (ho:o.op=.move x)(h:Ay an o x st some=some bH):dY E Γ an X o st bH:=by
 unfold Ay at h;cases hd:o.dst with
 |none=>rw[hd]at h;cases h
 |some d=>
  rw[hd]at h;cases hf:an.mv.contains d with
  |false=>simp only[hf,aW,bU]at h;cases h;refine dY.put (v:=st.rd x) (by rw[hd]) λst2 ha=>?_;have hr:st2.rd x=st.rd x:=ha.rd (λt ht=>by simpa[dB,ho]using ht);simp only[cY,ho,Ay,hd,hf,aW,bU,hr]
  |true=>
   simp only[hf,bN]at h;cases h;have hr:∀st2,gD an X o st st2->(st2.take x).1=(st.take x).1/\(st2.take x).2=st2.jH (nu st x):=λst2 ha=>BC ha.ep λt ht=>ha.get t (by simpa[dB,ho]using ht);refine⟨⟨nu st x++[(d,(st.take x).1)],none,none⟩,⟨λy hy=>?_,λ_ hh=>(by cases hh),λ_ hh=>(by cases hh)⟩,?_,λst2 ha=>?_⟩;rcases ay.1 hy with hy|hy;have:=GN y hy;have hf':d∈an.mv:=by simpa using hf
   simp[writes,C1,ho,hd,hf',dB,this];simp only[cf]at hy;subst hy;simp[writes,hd];rw[AH];show _=st.jH _;rw[pW];rfl;simp only[cY,ho,Ay,hd,hf,bN,(hr st2 ha).1,(hr st2 ha).2];show some ((st2.jH (nu st x)).put (some d) (st.take x).1)=some (st2.jH _);rw[pW];rfl
theorem Q9 {ep:Nat}(h:cs.all AC.jg=true):aS ep cs=cs:=by
 rw[aG]at h;unfold aS;have:cs.map (AC.borrow ep none)=cs.map id:=List.map_congr_left λc hc=>by have:=h c hc;cases c<;>first|rfl|(simp[AC.jg]at this)
 rw[this,List.map_id]
theorem afg {s:AS}{vs:aw (Bool×aw AC)}(h:s.get t=.uG vs):s.put (some t) (.uG vs)=s:=by cases s with|mk slots boxes ep iss io=>simp only[AS.put,AS.mk.injEq,iw];rw[ft];apply cn;intro i;rw[br];split;rename_i hd;subst hd;simp only[AS.get,dJ]at h;split;rename_i gS;rw[al gS]at h⊢;simp only[fB]at h;rw[h];rename_i yP;rw[bh (Nat.le_of_not_lt yP)];rfl
theorem Mx {i:Nat}(ho:o.op=.extract (.tmp t) i)(fT:dq E an X o st=true)(h:ll o t i st some=some bH):dY E Γ an X o st bH:=by
 have hr:∀st2,gD an X o st st2->st2.get t=st.get t:=λst2 ha=>ha.get t (by simp[dB,ho]);unfold ll at h;simp only[dq,ho]at fT;split at h
 ·rename_i vs hv;rw[hv]at fT;split at h
  ·rename_i g cs hn;simp only[hn]at fT;have hfl:cs.all AC.jg=true\/∃d,o.dst=some d/\an.mv.contains d=true:=by cases hd:o.dst with|none=>simp only[hd,Bool.or_false]at fT;exact .inl fT|some d=>simp only[hd,cz]at fT;rcases fT with h|h;exact .inl h;exact .inr ⟨d,rfl,h⟩
   rcases hfl with fT|⟨d,hd,BO⟩;rotate_left;cases h;refine⟨⟨[(t,.uG (gM vs i (g,aS 0 cs))),(d,.val g cs)],none,none⟩,⟨λx hx=>?_,(λ_ hb=>by cases hb),(λ_ hh=>by cases hh)⟩,?_,λst2 ha=>?_⟩;simp only[bO,List.not_mem_nil,or_false]at hx;rcases hx with rfl|rfl;simp only[writes,C1,ho,hd,BO,ah,dB];simp;simp only[writes,hd];simp;rw[hd];rfl;have h2:st2.get t=.uG vs:=by rw[hr st2 ha,hv]
   simp only[cY,ho,ll,h2,hn,hd];rfl;skip;have Cy:gM vs i (g,cs)=vs:=by rw[ft];rw[dJ]at hn;apply cn;intro k;rw[br];split;rename_i hk;subst hk;obtain⟨hl,he⟩:=aF.1 hn;rw[aE hl,hn];rfl
   have key:∀s:AS,s.get t=.uG vs->(s.put (some t) (.uG (gM vs i (g,aS 0 cs))))=s:=λs hs=>by rw[Q9 fT,Cy,afg hs]
   rw[key st hv]at h;cases h;refine dY.put rfl λst2 ha=>?_;have h2:st2.get t=.uG vs:=by rw[hr st2 ha,hv]
   simp only[cY,ho,ll,h2,hn];rw[key st2 h2]
  cases h
 cases h
def xR (st:AS):Operand->aw (Nat×AV)
 | .tmp t=>[(t,(st.get t).aS st.ep)]
 |_=>[]
theorem LS (st:AS)(x:Operand):(st.take x).2=⟨jz st.slots (xR st x),st.boxes,st.ep,st.iss,st.io⟩:=by cases x<;>rfl
theorem Sw {pp:Nat}(ho:o.op=.store T (.tmp pp) x)(hd:o.dst=none)(hm:mV an o=true)(fT:dq E an X o st=true)(h:vj E T (.tmp pp) x st some=some bH):dY E Γ an X o st bH:=by
 have hr:∀st2,gD an X o st st2->st2.rd (.tmp pp)=st.rd (.tmp pp):=λst2 ha=>ha.rd (λt ht=>by simp only[dB,ho,ay];exact .inl ht);have Xd:(an.sb pp).isNone=false:=by simp only[mV,ho,ae]at hm;cases hb:an.sb pp with|none=>rw[hb]at hm;cases hm.1|some _=>rfl
 simp only[dq,ho,Xd,dN,cG]at fT;unfold vj at h;split at h;rename_i sh s off hT hp;rw[hp]at fT;simp only[ae,aK,aQ]at fT;split at h;rename_i gg vs st1 rk;have Pk:(st.take x).1=.val gg vs:=by rw[rk]
 have Cz:st1=⟨jz st.slots (xR st x),st.boxes,st.ep,st.iss,st.io⟩:=by rw[<-LS,rk]
 split at h;rename_i cs hb;split at h;rename_i hlen;split at h;rename_i gx;cases h;have jw:∀st2,gD an X o st st2->nth st2.boxes s=nth st.boxes s:=λst2 ha=>ha.box s fT.1;refine⟨⟨xR st x,some (s,dZ cs off vs),none⟩,⟨λy hy=>?_,λb gO=>?_,λ_ hh=>by cases hh⟩,?_,λst2 ha=>?_⟩;cases x with|tmp t=>simp only[xR,cf]at hy;subst hy;simp only[writes,C1,ho,ah,dB,hd];simp[tm]|_=>simp[xR]at hy
 cases gO;simp only[C5,ho,fT.2];simp;rw[Cz];rfl;have Xe:(st2.take x).1=(st.take x).1/\xR st2 x=xR st x:=by cases x with|tmp t=>have hg:st2.get t=st.get t:=ha.get t (by simp[dB,ho,tm]);simp only[AS.take,xR,hg,ha.ep];simp|const v=>exact⟨rfl,rfl⟩|func f=>exact⟨rfl,rfl⟩|global g=>exact⟨rfl,rfl⟩
 have ht2:st2.take x=(.val gg vs,⟨jz st2.slots (xR st x),st2.boxes,st2.ep,st2.iss,st2.io⟩):=by rw[<-Xe.2,<-LS,<-Pk,<-Xe.1]
 have Jq:(nth st2.boxes s).getD none=some cs:=by rw[jw st2 ha];rw[Cz]at hb;exact hb
 have BN:yA an o=false:=by simp only[mV,ho,ae,aK]at hm;exact hm.2
 simp only[cY,ho,hd,BN,aW,bU,vj,hT,hr st2 ha,hp,ht2,Jq,aE hlen,aE gx];rfl;cases h;cases h;cases h;cases h;rename_i r _ _ _ _ _ _ hp;rw[hp]at fT;cases r<;>simp at fT;cases h
theorem PI (ho:o.op=.assign x)(hm:mV an o=true)(h:tk E an o x st some=some bH):dY E Γ an X o st bH:=by
 have hr:∀st2,gD an X o st st2->(st2.take x).1=(st.take x).1/\(st2.take x).2=st2.jH (nu st x):=λst2 ha=>BC ha.ep λt ht=>ha.get t (by simpa[dB,ho]using ht);have BN:yA an o=false:=by simpa[mV,ho]using hm
 unfold tk at h;split at h;rename_i st1 rk;split at h;rename_i e hT;cases h;refine dY.put rfl λst2 ha=>?_;have h2:st2.take x=(.val false [.jo],st2.jH (nu st x)):=Prod.ext (by rw[(hr st2 ha).1,rk]) (hr st2 ha).2;simp only[cY,ho,tk,BN,aW,bU,h2,hT];cases h;rename_i v st1 Fe rk;cases h;have Cz:st1=st.jH (nu st x):=by rw[<-AH,rk]
 refine⟨⟨nu st x++o.dst.toList.map λd=>(d,v),none,none⟩,⟨λy hy=>?_,λ_ hh=>(by cases hh),λ_ hh=>(by cases hh)⟩,?_,λst2 ha=>?_⟩;rcases ay.1 hy with hy|hy;have:=GN y hy;simp[writes,C1,ho,dB,this];obtain⟨d,hd,rfl⟩:=List.mem_map.1 hy;simp[writes,hd];rw[Cz];show _=st.jH _;rw[pW];cases o.dst<;>rfl;have h2:st2.take x=(v,st2.jH (nu st x)):=Prod.ext (by rw[(hr st2 ha).1,rk]) (hr st2 ha).2;simp only[cY,ho,tk,BN,aW,bU,h2];show some ((st2.jH (nu st x)).put o.dst v)=some (st2.jH _);rw[pW];cases o.dst<;>rfl
theorem jk {α:Type}(l:aw α)(i:Nat)(v:α)(t:Nat):nth (gM l i v) t=if i=t then(if i<l.length then some v else none) else nth l t:=by rw[dJ,ft,dJ,br]
theorem Lj (l:aw AV)(a:aw (Nat×AV)):(jz l a).length=l.length:=by induction a generalizing l with|nil=>rfl|cons x a ih=>rw[jz,ih,ft,aC]
theorem V1 {l l2:aw AV}(a:aw (Nat×AV))(hl:l2.length=l.length)(t:Nat)(h:nth l2 t=nth l t):nth (jz l2 a) t=nth (jz l a) t:=by induction a generalizing l l2 with|nil=>exact h|cons x a ih=>refine ih (by rw[ft,ft,aC,aC,hl]) ?_;rw[jk,jk,hl,h]
theorem VR (h:st2.get t=st.get t)(hl:st2.slots.length=st.slots.length):nth st2.slots t=nth st.slots t:=by unfold AS.get at h;rw[dJ,dJ]at h⊢;rcases cc t st.slots.length with gS|yP;rw[al gS,al (by omega)]at h⊢;simpa using h;rw[bh yP,bh (by omega)]
def jt (st:AS):aw Operand->aw (Nat×AV)
 |[]=>[]
 |x::xs=>nu st x++jt (st.jH (nu st x)) xs
theorem yM:∀(xs:aw Operand)(st:AS),∀y∈jt st xs,y.1∈ML xs
 |[],_,y,hy=>by cases hy
 |x::xs,st,y,hy=>by simp only[ML,List.flatMap_cons,ay];rcases ay.1 hy with hy|hy;exact .inl (GN y hy);exact .inr (yM xs _ y hy)
theorem zY:∀(xs:aw Operand)(st st2:AS),st2.ep=st.ep->st2.slots.length=st.slots.length->(∀t∈ML xs,nth st2.slots t=nth st.slots t)->
 (eO st2 xs).1=(eO st xs).1/\(eO st2 xs).2=st2.jH (jt st xs)
 |[],st,st2,_,_,_=>⟨rfl,rfl⟩
 |x::xs,st,st2,wN,hl,hg=>by
  have hx:∀t∈tm x,st2.get t=st.get t:=λt ht=>by unfold AS.get;rw[hg t (by simp[ML,ht])]
  obtain⟨h1,h2⟩:=BC (st:=st) (st2:=st2) wN hx;have h3:=AH (st:=st) x;obtain⟨k1,k2⟩:=zY xs (st.jH (nu st x)) (st2.jH (nu st x)) wN (by simp only[AS.jH,Lj,hl]) (λt ht=>V1 _ hl t (hg t (by simp only[ML,List.flatMap_cons,ay];exact .inr ht)));have e1:eO st (x::xs)=((st.take x).1::(eO (st.take x).2 xs).1,(eO (st.take x).2 xs).2):=rfl;have e2:eO st2 (x::xs)=((st2.take x).1::(eO (st2.take x).2 xs).1,(eO (st2.take x).2 xs).2):=rfl;rw[e1,e2,h1,h2,h3];refine⟨by rw[k1],?_⟩;show(eO (st2.jH (nu st x)) xs).2=_;rw[k2,jt,pW]
theorem BB (xs:aw Operand):(eO st xs).2=st.jH (jt st xs):=(zY xs st st rfl rfl (λ_ _=>rfl)).2
theorem gD.eO (ha:gD an X o st st2){xs:aw Operand}(hx:∀t∈ML xs,t∈dB o):(eO st2 xs).1=(Dn.eO st xs).1/\(Dn.eO st2 xs).2=st2.jH (jt st xs):=zY xs st st2 ha.ep ha.len λt ht=>VR (ha.get t (hx t ht)) ha.len
theorem Ss (ho:o.op=.build T parts)(h:zJ E o T parts.toList st some=some bH):dY E Γ an X o st bH:=by
 have hl:∀t∈ML (parts.toList.map (·.2)),t∈dB o:=λt ht=>by simp only[dB,ho];exact ht
 unfold zJ at h;split at h;rename_i ct jy hT;split at h;rename_i vs st1 rk;have Cz:st1=st.jH (jt st (parts.toList.map (·.2))):=by rw[<-BB,rk]
 split at h;rename_i cs hb;cases h;refine⟨⟨jt st (parts.toList.map (·.2))++o.dst.toList.map λd=>(d,.val true cs),none,none⟩,⟨λy hy=>?_,λ_ hh=>(by cases hh),λ_ hh=>(by cases hh)⟩,?_,λst2 ha=>?_⟩;rcases ay.1 hy with hy|hy;have:=hl _ (yM _ _ y hy);simp[writes,C1,ho,this];obtain⟨d,hd,rfl⟩:=List.mem_map.1 hy;simp[writes,hd];rw[Cz];show _=st.jH _;rw[pW];cases o.dst<;>rfl;obtain⟨k1,k2⟩:=ha.eO hl;have h2:eO st2 (parts.toList.map (·.2))=(vs,st2.jH (jt st (parts.toList.map (·.2)))):=Prod.ext (by rw[k1,rk]) k2;simp only[cY,ho,zJ,hT,h2,hb];show some ((st2.jH _).put o.dst _)=some (st2.jH _);rw[pW];cases o.dst<;>rfl;cases h;cases h
theorem dY.aia (ht:C1 an o=true)(hl:∀y∈tl,y.1∈dB o)(h:bH=((st.jH tl).fz o.dst).put o.dst v)(h2:∀st2,gD an X o st st2->cY E Γ an o st2 some=some (((st2.jH tl).fz o.dst).put o.dst v)):dY E Γ an X o st bH:=by
 have key:∀s:AS,(⟨tl++o.dst.toList.map λd=>(d,v),none,o.dst⟩:GU).apply s=((s.jH tl).fz o.dst).put o.dst v:=by intro s;cases o.dst with|none=>simp only[GU.apply,Option.toList,List.map_nil,bV,AS.jH,AS.fz,AS.put]|some d=>simp only[GU.apply,Option.toList,cV,List.map_nil,zU,AS.jH,AS.fz,AS.put,jz]
 refine⟨⟨tl++o.dst.toList.map λd=>(d,v),none,o.dst⟩,⟨λy hy=>?_,λ_ hh=>(by cases hh),λd hh=>hh⟩,by rw[key];exact h,λst2 ha=>by rw[key];exact h2 st2 ha⟩;rcases ay.1 hy with hy|hy;simp[writes,ht,hl y hy];obtain⟨d,hd,rfl⟩:=List.mem_map.1 hy;simp[writes,hd]
theorem yc {d:ax Nat}:(st.jH tl).gU d=st.gU d:=rfl
theorem Hy {len:Nat}(ho:o.op=.buildSlice T len parts)(h:lf E o T len parts.toList st some=some bH):dY E Γ an X o st bH:=by
 have hl:∀t∈ML (parts.toList.map (·.2)),t∈dB o:=λt ht=>by simp only[dB,ho];exact ht
 unfold lf at h;split at h;rename_i e hT;split at h;rename_i hc;split at h;rename_i vs st1 rk;have Cz:st1=st.jH (jt st (parts.toList.map (·.2))):=by rw[<-BB,rk]
 split at h;rename_i xs hb;cases h;refine dY.aia (tl:=jt st (parts.toList.map (·.2))) (v:=.one (.sl (.own (st.gU o.dst 0)) e xs)) (by simp[C1,ho]) (λy hy=>hl _ (yM _ _ y hy)) ?_ λst2 ha=>?_;rw[Cz,AS.oQ,yc];obtain⟨k1,k2⟩:=ha.eO hl;have h2:eO st2 (parts.toList.map (·.2))=(vs,st2.jH (jt st (parts.toList.map (·.2)))):=Prod.ext (by rw[k1,rk]) k2;simp only[cY,ho,lf,hT,h2,hb,aE hc];rw[AS.oQ,yc,ha.gU];cases h;cases h;cases h
theorem Jd {n c:Operand}(ho:o.op=.makeSlice T n c)(h:nJ E o T n c st some=some bH):dY E Γ an X o st bH:=by
 have hr:∀st2,gD an X o st st2->st2.rd n=st.rd n/\st2.rd c=st.rd c:=λst2 ha=>
  ⟨ha.rd (λt ht=>by simp[dB,ho,ht]),ha.rd (λt ht=>by simp[dB,ho,ht])⟩
 unfold nJ at h;split at h;rename_i e len cap hT hn hc;split at h;rename_i hlc;unfold room at h;split at h;rename_i hrm;cases h;refine dY.new (v:=.one (.sl (.own (st.gU o.dst 0)) e (List.replicate len.toNat e.zero))) rfl λst2 ha=>?_;simp only[cY,ho,nJ,(hr st2 ha).1,(hr st2 ha).2,hT,hn,hc,aE hlc,room,aE hrm,AS.oQ,ha.gU];cases h;cases h;cases h
theorem PH (ho:o.op=.call {callee:=.builtin .append,args,argTypes:=ts})(h:vp E o ts.toList args.toList st some=some bH):dY E Γ an X o st bH:=by
 have TF:∀t∈ML args.toList,t∈dB o:=λt ht=>by simp only[dB,ho];exact ht
 unfold vp at h;split at h;rename_i t t' s x rU fN;have hl:∀u∈ML [s,x],u∈dB o:=by rw[<-fN];exact TF
 have af0:∀st2,gD an X o st st2->(st2.take s).1=(st.take s).1/\((st2.take s).2.take x).1=((st.take s).2.take x).1/\((st2.take s).2.take x).2=st2.jH (jt st [s,x]):=by intro st2 ha;obtain⟨k1,k2⟩:=ha.eO hl;simp only[Dn.eO,List.cons.injEq,iw]at k1 k2;exact⟨k1.1,k1.2,k2⟩
 have zk:((st.take s).2.take x).2=st.jH (jt st [s,x]):=BB (st:=st) [s,x];split at h;rename_i tag e xs st1 Pk;split at h;rename_i fl e' ys ah7 FO;split at h;rename_i he;subst he;split at h;rename_i hc;unfold room at h;split at h;rename_i hrm;cases h;have Cz:(st.take s).2=st1:=by rw[Pk]
 have Pj:ah7=st.jH (jt st [s,x]):=by rw[<-zk,Cz,FO]
 refine dY.aia (tl:=jt st [s,x]) (v:=.one (.sl (.own (st.gU o.dst 0)) e' (xs++ys))) (by simp[C1,ho]) (λy hy=>hl _ (yM _ _ y hy)) ?_ λst2 ha=>?_;rw[Pj,AS.oQ,yc];obtain⟨k1,k2,k3⟩:=af0 st2 ha;have e1:st2.take s=(.val false [.sl (.own tag) e' xs],(st2.take s).2):=Prod.ext (by rw[k1,Pk]) rfl;have e2:(st2.take s).2.take x=(.val false [.sl fl e' ys],st2.jH (jt st [s,x])):=Prod.ext (by rw[k2,Cz,FO]) k3;simp only[cY,ho,vp,rU,fN];rw[e1];simp only;rw[e2];simp only[dite_true,ha.ep,aE hc,room,aE hrm,AS.oQ,yc,ha.gU];cases h;cases h;cases h;rename_i sx ah7 FO;split at h;rename_i he;subst he;split at h;rename_i hc;unfold room at h;split at h;rename_i hrm;cases h;have Cz:(st.take s).2=st1:=by rw[Pk]
 have Pj:ah7=st.jH (jt st [s,x]):=by rw[<-zk,Cz,FO]
 refine dY.aia (tl:=jt st [s,x]) (v:=.one (.sl (.own (st.gU o.dst 0)) (.int .u8) (xs++dj sx))) (by simp[C1,ho]) (λy hy=>hl _ (yM _ _ y hy)) ?_ λst2 ha=>?_;rw[Pj,AS.oQ,yc];obtain⟨k1,k2,k3⟩:=af0 st2 ha;have e1:st2.take s=(.val false [.sl (.own tag) (.int .u8) xs],(st2.take s).2):=Prod.ext (by rw[k1,Pk]) rfl;have e2:(st2.take s).2.take x=(.val false [.str sx],st2.jH (jt st [s,x])):=Prod.ext (by rw[k2,Cz,FO]) k3;simp only[cY,ho,vp,rU,fN];rw[e1];simp only;rw[e2];simp only[dite_true,aE hc,room,aE hrm,AS.oQ,yc,ha.gU];cases h;cases h;cases h;cases h;cases h;cases h
theorem ZC (ho:o.op=.box T x)(h:Oq o x st some=some bH):dY E Γ an X o st bH:=by
 have hr:∀st2,gD an X o st st2->(st2.take x).1=(st.take x).1/\(st2.take x).2=st2.jH (nu st x):=λst2 ha=>BC ha.ep λt ht=>ha.get t (by simpa[dB,ho]using ht);unfold Oq at h;split at h;rename_i d g cs st1 hd rk;have Cz:st1=st.jH (nu st x):=by rw[<-AH,rk]
 split at h;rename_i hb;split at h;rename_i hs;cases h;have Rt:nth st.boxes d=some none:=by rw[Cz]at hb;exact hb
 have key:∀s:AS,(⟨nu st x++[(d,.one (.ptr d 0))],some (d,cs),none⟩:GU).apply s=((s.jH (nu st x)).eF d (some cs)).put (some d) (.one (.ptr d 0)):=by intro s;simp only[GU.apply,zU,AS.jH,AS.eF,AS.put,jz]
 refine⟨⟨nu st x++[(d,.one (.ptr d 0))],some (d,cs),none⟩,⟨λy hy=>?_,λb gO=>?_,λ_ hh=>(by cases hh)⟩,?_,λst2 ha=>?_⟩;rcases ay.1 hy with hy|hy;have:=GN y hy;simp[writes,C1,ho,dB,this];simp only[cf]at hy;subst hy;simp[writes,hd];cases gO;simp[C5,ho,hd];rw[key,Cz,hd];have h2:st2.take x=(.val g cs,st2.jH (nu st x)):=Prod.ext (by rw[(hr st2 ha).1,rk]) (hr st2 ha).2;have Jq:nth (st2.jH (nu st x)).boxes d=some none:=by show nth st2.boxes d=_;rw[(ha.dst d hd).2];exact Rt
 simp only[cY,ho,Oq,hd,h2,Jq,aE hs,key];cases h;cases h;cases h
theorem LL (yQ:∀f,(Γ f).io=false/\((Γ f).bx=true->(Γ f).cur=true)/\(Γ f).pr=false)(hm:mV an o=true)(fT:dq E an X o st=true)(h:cY E Γ an o st some=some bH):dY E Γ an X o st bH:=by
 have h0:=h;unfold cY at h;split at h;rename_i ho;exact VM ho h;rename_i ho;have BN:yA an o=false:=by simpa[mV,ho]using hm
 rw[aH (by simp[BN])]at h;exact PI ho hm h;rename_i ho;exact VN ho h;rename_i ho;exact Sr ho h;rename_i ho;exact ZC ho h;rename_i ho;exact VL ho hm fT h;rename_i T p x ho;split at h;rename_i hd;cases p with
 |tmp pp=>
  have BN:yA an o=false:=by simp only[mV,ho,ae,aK]at hm;exact hm.2
  rw[aH (by simp[BN])]at h;exact Sw ho hd hm fT h
 |const v=>simp[mV,ho]at hm
 |func f=>simp[mV,ho]at hm
 |global g=>simp[mV,ho]at hm
 cases h;rename_i ho;exact KY ho h0;rename_i ho;exact ZB ho h;rename_i ho;exact acW ho h;rename_i ho;exact St ho h;rename_i ho;exact Jc ho fT h;rename_i ho;exact Su ho h;rename_i ho;exact Ss ho h;rename_i ho;exact Hy ho h;rename_i ho;exact Jd ho h;rename_i ho;exact Sv ho hm fT h;rename_i ho;simp[mV,ho]at hm;rename_i ho;simp[mV,ho]at hm;rename_i ho;exact Mw ho h;rename_i ho;exact Mx ho fT h;rename_i ho;exact ZD ho h;rename_i ho;exact ZF ho h;rename_i ho;exact ZE ho h;rename_i ho;exact PH ho h;rename_i ho;exact VK yQ ho fT h;cases h
end Go.Dn
