import Derived.Test.YtainmjjkipbciaaGreatDnMask
/- What an operation looks at and what it turns: for regions whose order is drawn. -/
namespace Go.Dn
structure Gm where
 slots:List (Nat×AV):=[]
 box:Option (Nat×List AC):=none
 iss:Option Nat:=none
def jw (l:aw AV):aw (Nat×AV)->aw AV
 |[]=>l
 |x::r=>jw (gK l x.1 x.2) r
def Gm.apply (u:Gm)(st:AS):AS:=
 ⟨jw st.slots u.slots,(match u.box with|some b=>gK st.boxes b.1 (some b.2)|none=>st.boxes),st.ep,(match u.iss with|some d=>gK st.iss d true|none=>st.iss),st.io⟩
structure gC (an:An) (X:List Nat) (o:Oper) (st st2:AS):Prop where
 len:st2.slots.length=st.slots.length
 get:∀t∈dB o,st2.get t=st.get t
 ep:st2.ep=st.ep
 dst:∀d,o.dst=some d->nth st2.iss d=nth st.iss d/\nth st2.boxes d=nth st.boxes d
 box:∀s,X.contains s=false->nth st2.boxes s=nth st.boxes s
 er:∀t∈erS an o,st2.get t=st.get t
structure Gm.D5 (an:An) (u:Gm) (o:Oper):Prop where
 slots:∀x∈u.slots,x.1∈writes an o
 box:∀b,u.box=some b->b.1∈CO an o
 iss:∀d,u.iss=some d->o.dst=some d
variable {E:Env} {Γ:fy} {an:An} {X:fg} {o:Oper} {st st2 bK:AS}
variable {v:AV} {parts:Array (Nat×Operand)} {args:Array Operand} {ts:Array TypeId} {t:Nat} {f p x:Operand} {T:TypeId} {tl:aw (Nat×AV)} {cs:aw AC}
theorem acG (wB:st2.ep=st.ep)(h:∀t∈tm x,st2.get t=st.get t):st2.rd x=st.rd x:=by cases x with|tmp t=>simp only[AS.rd,wB,h t (by simp[tm])]|const v=>rfl|func f=>rfl|global g=>rfl
def dY (E:Env)(Γ:fy)(an:An)(X:fg)(o:Oper)(st bK:AS):Prop:=
 ∃u:Gm,u.D5 an o/\bK=u.apply st/\∀st2,gC an X o st st2->cX E Γ an o st2 some=some (u.apply st2)
def Bl (o:Oper)(v:AV):Gm:={slots:=o.dst.toList.map λd=>(d,v)}
theorem qF (v:AV):(Bl o v).apply st=st.put o.dst v:=by unfold Bl Gm.apply AS.put;cases o.dst<;>rfl
theorem zF (v:AV):(Bl o v).D5 an o:=by refine⟨λx hx=>?_,λb hb=>by simp[Bl]at hb,λd hd=>by simp[Bl]at hd⟩;simp only[Bl,List.mem_map]at hx;obtain⟨d,hd,rfl⟩:=hx;simp[writes,hd]
def EG (o:Oper)(v:AV):Gm:={slots:=o.dst.toList.map λd=>(d,v),iss:=o.dst}
theorem Gj (v:AV):(EG o v).apply st=(st.fi o.dst).put o.dst v:=by unfold EG Gm.apply AS.put AS.fi;cases o.dst<;>rfl
theorem MC (v:AV):(EG o v).D5 an o:=by refine⟨λx hx=>?_,λb hb=>by simp[EG]at hb,λd hd=>by simpa[EG]using hd⟩;simp only[EG,List.mem_map]at hx;obtain⟨d,hd,rfl⟩:=hx;simp[writes,hd]
theorem dY.put (h:bK=st.put o.dst v)(h2:∀st2,gC an X o st st2->cX E Γ an o st2 some=some (st2.put o.dst v)):dY E Γ an X o st bK:=⟨Bl o v,zF v,by rw[qF];exact h,λst2 ha=>by rw[qF];exact h2 st2 ha⟩
theorem gC.rd (ha:gC an X o st st2)(hx:∀t∈tm x,t∈dB o):st2.rd x=st.rd x:=acG ha.ep λt ht=>ha.get t (hx t ht)
theorem VD {c y:Operand}(ho:o.op=.pick c x y)(h:Ct o c x y st some=some bK):dY E Γ an X o st bK:=by
 have hr:∀st2,gC an X o st st2->st2.rd c=st.rd c/\st2.rd x=st.rd x/\st2.rd y=st.rd y:=λst2 ha=>
  ⟨ha.rd (λt ht=>by simp[dB,ho,ht]),ha.rd (λt ht=>by simp[dB,ho,ht]),ha.rd (λt ht=>by simp[dB,ho,ht])⟩
 unfold Ct at h;split at h;rename_i t hc;split at h;rename_i a b hx hy;cases h;refine dY.put rfl λst2 ha=>?_;obtain⟨h1,h2,h3⟩:=hr st2 ha;simp only[cX,ho,Ct,h1,h2,h3,hc,hx,hy];rename_i va vb EN;have Yz:∀st2,gC an X o st st2->cX E Γ an o st2 some=cond t (some (st2.put o.dst (st.rd x))) (some (st2.put o.dst (st.rd y))):=by intro st2 ha;obtain⟨h1,h2,h3⟩:=hr st2 ha;simp only[cX,ho,Ct,h1,h2,h3,hc]
 cases t with|true=>cases h;exact dY.put rfl λst2 ha=>Yz st2 ha|false=>cases h;exact dY.put rfl λst2 ha=>Yz st2 ha
 cases h
theorem KM {d s:Nat}:(⟨[(d,v)],some (s,cs),none⟩:Gm).apply st=(st.eD s (some cs)).put (some d) v:=rfl
theorem NU {o:Oper}(h:CJ an o=true):∃T q d,o.op=.load T (.tmp q)/\o.dst=some d/\o.guard=none/\an.mv.contains d=true/\an.mb d=none:=by unfold CJ at h;split at h;rename_i T q d ho hd hg;simp only[ae,Option.isNone_iff_eq_none]at h;exact⟨T,q,d,ho,hd,hg,h.1.1,h.1.2⟩;cases h
def Gf (st:AS)(b j t:Nat)(e:CT)(i:Int)(cs:aw AC)(ys:aw e.D):AS:=st.eD b (some (gK cs j (.sl (.fa (some t) i (some st.ep)) e ys)))
theorem LA {q d:Nat}(ht:CJ an o=true)(ho:o.op=.load T (.tmp q))(hd:o.dst=some d)(BA:an.mv.contains d=true)(T3:an.mb d=none):(dq E an X o st=true/\nS E an o T (.tmp q) st some=some bK)↔ ∃(g:Bool)(e:CT)(jv:aw (Nat×Nat))(b j t JT:Nat)(x:e.D)(i:Int)(cs:aw AC)(ys:aw e.D)(y:e.D),iQ E.ty T=some ⟨g,e,jv⟩/\st.rd (.tmp q)=.val false [.zk (.loc JT (some (.box b j,t))) e x i 0]/\(nth st.boxes b).getD none=some cs/\nth cs j=some (.sl (.own (some t)) e ys)/\idx ys i=some y/\ X.contains b=false/\an.eb q=some b/\T0 an o=false/\bK=(Gf st b j t e i cs ys).put (some d) (.val g (cellsOf e (.own none) y)):=by
 have qT:CM an o=true:=by unfold CM;rw[hd];simp only[BA,T3];rfl
 have HJ:zE an o=false:=by unfold zE;split;rename_i hd' _;rw[hd]at hd';cases hd';rw[T3];simp;rfl
 have hnp:yR an o=false:=by unfold yR;split;rename_i hd' _;rw[hd]at hd';cases hd';rw[BA];rfl;rfl
 constructor;rintro⟨hf,h⟩;unfold nS at h;split at h;rename_i hp;simp only[dq,ho,hp,hd,BA,T3]at hf;simp at hf;rename_i sh fl e x i off hT hp;rw[aF qT]at h;simp only[dq,ho,hp,ht,HJ,hnp,Bool.or_false,bU,aj,cE,dR,ae,aK]at hf;obtain⟨⟨EM,IU⟩,hb⟩:=hf;unfold wq at h;split at h;rename_i JT r t;cases r with
 |slot _ _=>cases hb
 |io _=>cases hb
 |box b j=>
  simp only[ae,aV,aK]at hb;split at h;rename_i t' e' ys T4;split at h;rename_i he;subst he;split at h;rename_i hc;obtain⟨rfl,rfl,HH⟩:=hc;obtain⟨g,ct,jv⟩:=sh;simp only at HH;subst HH;cases hi:idx ys i with|none=>simp only[hi,aa]at h;cases h|some y=>simp only[hi,aa]at h;cases h;simp only[AS.eL]at T4;obtain⟨cs,GD,hj⟩:=aM.1 T4;refine⟨g,_,jv,b,j,_,JT,x,i,cs,ys,y,hT,hp,GD,hj,hi,hb.2,hb.1,IU,?_⟩;simp only[AS.eR,GD,hd];rfl
  cases h;cases h;cases h
 cases h;cases h;rintro⟨g,e,jv,b,j,t,JT,x,i,cs,ys,y,hT,hp,GD,hj,hi,hX,Pm,IU,rfl⟩;constructor;simp only[dq,ho,hp,ht,HJ,hnp,IU,hX,Pm];simp;simp only[nS,hT,hp,qT,bP,wq,AS.eL,GD,eh,hj,dite_true,and_self,hi,aa,AS.eR,hd];rfl
theorem SW (ht:CJ an o=true)(ho:o.op=.load T p)(fT:dq E an X o st=true)(h:nS E an o T p st some=some bK):dY E Γ an X o st bK:=by obtain⟨T',q,d,Iu,hd,hg,BA,T3⟩:=NU ht;rw[ho]at Iu;cases Iu;obtain⟨g,e,jv,b,j,t,JT,x,i,cs,ys,y,hT,hp,GD,hj,hi,hX,Pm,IU,rfl⟩:=(LA ht ho hd BA T3).1 ⟨fT,h⟩;refine⟨⟨[(d,.val g (cellsOf e (.own none) y))],some (b,gK cs j (.sl (.fa (some t) i (some st.ep)) e ys)),none⟩,⟨λx hx=>?_,λb' gM=>?_,λ_ hh=>by cases hh⟩,rfl,λst2 ha=>?_⟩;simp only[cn]at hx;subst hx;simp[writes,hd];cases gM;simp only[CO,ho,hd,BA,ah,ht,Pm];simp;have h2:=((LA (E:=E) (X:=X) (st:=st2) ht ho hd BA T3).2 ⟨g,e,jv,b,j,t,JT,x,i,cs,ys,y,hT,by rw[ha.rd (λt ht=>by simpa[dB,ho]using ht)];exact hp,by rw[ha.box b hX];exact GD,hj,hi,hX,Pm,IU,rfl⟩).2;simp only[cX,ho];rw[h2];simp only[Gf,ha.ep];rfl
theorem VB (ho:o.op=.load T p)(hm:mJ an o=true)(fT:dq E an X o st=true)(h:nS E an o T p st some=some bK):dY E Γ an X o st bK:=by
 cases hE:CJ an o with|true=>exact SW hE ho fT h|false=> ?_
 have hr:∀st2,gC an X o st st2->st2.rd p=st.rd p:=λst2 ha=>ha.rd (λt ht=>by simpa[dB,ho]using ht);have qT:CM an o=false:=by simp only[mJ,ho,hE,Bool.or_false]at hm;unfold CM;cases Pk:o.dst with|none=>rfl|some d=>rw[Pk]at hm;simp only[cC,aK]at hm;rcases hm with hm|hm;simp only[hm,eE];cases T3:an.mb d with|none=>rw[T3]at hm;cases hm|some _=>simp[T3]
 unfold nS at h;split at h;rename_i sh s off hT hp;simp only[dq,ho,hp,ae,aK]at fT;split at h;rename_i cs hb;split at h;rename_i gx;split at h;rename_i d hd;have jt:∀st2,gC an X o st st2->nth st2.boxes s=nth st.boxes s:=λst2 ha=>ha.box s fT.1.1;cases hf:an.mv.contains d with
 |false=>simp only[hf,aW,bX]at h;cases h;refine dY.put (by rw[hd]) λst2 ha=>?_;simp only[cX,ho,nS,hT,hr st2 ha,hp,jt st2 ha,hb,aF gx,hd,hf,aW,bX,ha.ep]
 |true=>
  simp only[hf,bP]at h;have T3:an.mb d=some s:=by have:=fT.1.2;rw[hd]at this;simp only[hf,aj,cE,aV]at this;exact this
  cases h;refine⟨⟨[(d,.val sh.agg ((cs.drop off).take sh.ct.size))],some (s,dZ cs off (aQ st.ep ((cs.drop off).take sh.ct.size))),none⟩,⟨λx hx=>?_,λb gM=>?_,λ_ hh=>by cases hh⟩,?_,λst2 ha=>?_⟩;simp only[cn]at hx;subst hx;simp[writes,hd];cases gM;simp only[CO,ho,hd,hf,ah,T3];simp;rw[KM,hd];simp only[cX,ho,nS,hT,hr st2 ha,hp,jt st2 ha,hb,aF gx,hd,hf,bP,ha.ep,KM]
 cases h;cases h;cases h;rename_i sh fl e x i off hT hp;rw[aH (by simp[qT])]at h;split at h;rename_i hl;split at h;rename_i gx;cases h;refine dY.put rfl λst2 ha=>?_;simp only[cX,ho,nS,hT,hr st2 ha,hp,ha.ep,qT,aW,bX,aF hl,aF gx];cases h;rename_i hl;have DF:∀r t JT,fl=.loc JT (some (r,t))->∀st2,gC an X o st st2->st2.eL r=st.eL r:=by rintro r t JT rfl st2 ha;simp only[dq,ho,hp,hE,bU,gG,dR,ae,cC]at fT;rcases fT.1.1 with hq|hq;exact absurd hq hl;cases r with|slot b j=>simp only[AS.eL];rw[ha.er b (by simpa using hq)]|box b j=>simp only[AS.eL];rw[ha.box b (by simpa using hq)]|io j=>cases hq
 unfold Be at h;split at h;rename_i JT r t;split at h;rename_i t' e' ys T4;split at h;rename_i he;split at h;rename_i hc;cases hi:idx (he▸ys:List _) i with|none=>rw[hi]at h;cases h|some y=>rw[hi]at h;simp only[aa]at h;cases h;refine dY.put rfl λst2 ha=>?_;simp only[cX,ho,nS,hT,hr st2 ha,hp,ha.ep,qT,aW,bX,aH hl,Be,DF _ _ _ rfl st2 ha,T4,dif_pos he,aF hc,hi,aa]
 cases h;cases h;cases h;cases h;cases h
theorem KQ (ho:o.op=.nilCheck x)(h:cX E Γ an o st some=some bK):dY E Γ an X o st bK:=by have hr:∀st2,gC an X o st st2->st2.rd x=st.rd x:=λst2 ha=>ha.rd (λt ht=>by simpa[dB,ho]using ht);simp only[cX,ho]at h;split at h;rename_i s off hx;cases h;refine dY.put rfl λst2 ha=>?_;simp only[cX,ho,hr st2 ha,hx];rename_i fl e y i off hx;cases h;refine dY.put rfl λst2 ha=>?_;simp only[cX,ho,hr st2 ha,hx];cases h
theorem LI {op:BinOp}{x y:AV}(h:(Dq op x y λc=>some (st.put o.dst (.one c)))=some bK):∃v,bK=st.put o.dst v/\∀st2:AS,(Dq op x y λc=>some (st2.put o.dst (.one c)))=some (st2.put o.dst v):=by have key:∀s:AS,(Dq op x y λc=>some (s.put o.dst (.one c)))=(Dq op x y some).bind λc=>some (s.put o.dst (.one c)):=λs=>(CW op x y some _).symm;rw[key st]at h;cases hb:Dq op x y some with|none=>rw[hb]at h;cases h|some c=>rw[hb]at h;cases h;exact⟨_,rfl,λst2=>by rw[key st2,hb];rfl⟩
theorem NX {op:BinOp}{b:Bool}(h:(Bu op b λc=>some (st.put o.dst (.one c)))=some bK):∃v,bK=st.put o.dst v/\∀st2:AS,(Bu op b λc=>some (st2.put o.dst (.one c)))=some (st2.put o.dst v):=by unfold Bu at h;split at h;cases h;exact⟨_,rfl,λst2=>rfl⟩;cases h;exact⟨_,rfl,λst2=>rfl⟩;cases h
theorem ZD {op:BinOp}{T':TypeId}{y:Operand}(ho:o.op=.binOp op T x y T')(h:yA E o op T x y st some=some bK):dY E Γ an X o st bK:=by
 have hr:∀st2,gC an X o st st2->st2.rd x=st.rd x/\st2.rd y=st.rd y:=λst2 ha=>
  ⟨ha.rd (λt ht=>by simp[dB,ho,ht]),ha.rd (λt ht=>by simp[dB,ho,ht])⟩
 unfold yA at h;split at h;rename_i a b hx hy;split at h;rename_i hT;obtain⟨v,rfl,hv⟩:=LI h;refine dY.put rfl λst2 ha=>?_;simp only[cX,ho,yA,(hr st2 ha).1,(hr st2 ha).2,hx,hy,aF hT];exact hv st2;cases h;rename_i xs ys hx hy;split at h;rename_i ls hq;split at h;rename_i gx;obtain⟨v,rfl,hv⟩:=LI h;refine dY.put rfl λst2 ha=>?_;simp only[cX,ho,yA,(hr st2 ha).1,(hr st2 ha).2,hx,hy,hq,aF gx];exact hv st2;cases h;cases h;rename_i fl e xs hx hy;split at h;rename_i hT;split at h;cases h;rename_i hlen;obtain⟨v,rfl,hv⟩:=NX h;refine dY.put rfl λst2 ha=>?_;simp only[cX,ho,yA,(hr st2 ha).1,(hr st2 ha).2,hx,hy,ha.ep,aF hT,aH hlen];exact hv st2;cases h;rename_i hx hy;split at h;rename_i hT;obtain⟨v,rfl,hv⟩:=NX h;refine dY.put rfl λst2 ha=>?_;simp only[cX,ho,yA,(hr st2 ha).1,(hr st2 ha).2,hx,hy,aF hT];exact hv st2;cases h;rename_i a b GG BL hn3 hn4;obtain⟨v,rfl,hv⟩:=LI h;refine dY.put rfl λst2 ha=>?_;simp only[cX,ho,yA,(hr st2 ha).1,(hr st2 ha).2];exact hv st2
theorem acm {op:UnOp}(ho:o.op=.unOp op T x)(h:(unC op (st.rd x) λc=>some (st.put o.dst (.one c)))=some bK):dY E Γ an X o st bK:=by have hr:∀st2,gC an X o st st2->st2.rd x=st.rd x:=λst2 ha=>ha.rd (λt ht=>by simpa[dB,ho]using ht);have key:∀s:AS,(unC op (st.rd x) λc=>some (s.put o.dst (.one c)))=(unC op (st.rd x) some).bind λc=>some (s.put o.dst (.one c)):=λs=>(TQ op (st.rd x) some _).symm;rw[key st]at h;cases hb:unC op (st.rd x) some with|none=>rw[hb]at h;cases h|some c=>rw[hb]at h;cases h;refine dY.put rfl λst2 ha=>?_;simp only[cX,ho,hr st2 ha];rw[key st2,hb];rfl
theorem SR {S:TypeId}{f:Nat}(ho:o.op=.fieldAddr S p f)(h:xS E o S p f st some=some bK):dY E Γ an X o st bK:=by have hr:∀st2,gC an X o st st2->st2.rd p=st.rd p:=λst2 ha=>ha.rd (λt ht=>by simpa[dB,ho]using ht);unfold xS at h;split at h;rename_i hT hp;split at h;rename_i hf;cases h;refine dY.put rfl λst2 ha=>?_;simp only[cX,ho,xS,hr st2 ha,hT,hp,hf];cases h;rename_i hT hp;split at h;rename_i hf;cases h;refine dY.put rfl λst2 ha=>?_;simp only[cX,ho,xS,hr st2 ha,hT,hp,hf];cases h;cases h
theorem xD {s:AS}(h:v.now s.ep=true):v.fresh s=v:=by
 cases v with
 |uw vs=>rfl
 |val g cs=>
  simp only[AV.now,aE]at h;simp only[AV.fresh];congr 1;have:cs.map s.fresh=cs.map id:=List.map_congr_left λc hc=>by have hn:=h c hc;unfold AS.fresh;split;simp only[AC.now]at hn;rw[hn];rfl;rfl
  rw[this,List.map_id]
theorem RI {st st2:AS}(he:st2.ep=st.ep)(h:v.now st.ep=true\/∃g ep b j t e xs,v=.val g [.sl (.loc ep (some (.box b j,t))) e xs]/\nth st2.boxes b=nth st.boxes b):v.fresh st2=v.fresh st:=by rcases h with h|⟨g,ep,b,j,t,e,xs,rfl,hb⟩;rw[xD h,xD (by rw[he];exact h)];simp only[AV.fresh,cR,List.map_nil];congr 2;unfold AS.fresh;simp only[AS.eL,he,hb]
theorem Iz {i:Operand}(ho:o.op=.indexAddr T x i)(fT:dq E an X o st=true)(h:lJ E o T x i st some=some bK):dY E Γ an X o st bK:=by
 have hr:∀st2,gC an X o st st2->st2.rd x=st.rd x/\st2.rd i=st.rd i:=λst2 ha=>
  ⟨ha.rd (λt ht=>by simp[dB,ho,ht]),ha.rd (λt ht=>by simp[dB,ho,ht])⟩
 have Ax:∀st2,gC an X o st st2->(st.rd x).fresh st2=(st.rd x).fresh st:=λst2 ha=>by refine RI ha.ep ?_;simp only[dq,ho,cC]at fT;rcases fT with hn|hn;exact .inl hn;split at hn;rename_i g ep b j t e xs hx;exact .inr ⟨g,ep,b,j,t,e,xs,hx,ha.box b (by simpa using hn)⟩;cases hn
 unfold lJ at h;split at h;rename_i e' fl e xs k n hT hx hi;split at h;rename_i hc;cases Cf:idx xs n with|none=>rw[Cf]at h;cases h|some y=>rw[Cf]at h;cases h;refine dY.put rfl λst2 ha=>?_;have hf3:=Ax st2 ha;rw[hx]at hf3;simp only[cX,ho,lJ,(hr st2 ha).1,(hr st2 ha).2,hf3,hT,hi,ha.ep,aF hc,Cf,aa]
 cases h;cases h
theorem SS {i:Operand}(ho:o.op=.index T x i)(h:zv E o T x i st some=some bK):dY E Γ an X o st bK:=by
 have hr:∀st2,gC an X o st st2->st2.rd x=st.rd x/\st2.rd i=st.rd i:=λst2 ha=>
  ⟨ha.rd (λt ht=>by simp[dB,ho,ht]),ha.rd (λt ht=>by simp[dB,ho,ht])⟩
 unfold zv at h;split at h;rename_i s k n hx hi;split at h;rename_i hc;cases Cf:idx s n with|none=>rw[Cf]at h;cases h|some y=>rw[Cf]at h;cases h;refine dY.put rfl λst2 ha=>?_;simp only[cX,ho,zv,(hr st2 ha).1,(hr st2 ha).2,hx,hi,aF hc,Cf,aa]
 cases h;cases h
theorem dY.new (h:bK=(st.fi o.dst).put o.dst v)(h2:∀st2,gC an X o st st2->cX E Γ an o st2 some=some ((st2.fi o.dst).put o.dst v)):dY E Γ an X o st bK:=⟨EG o v,MC v,by rw[Gj];exact h,λst2 ha=>by rw[Gj];exact h2 st2 ha⟩
theorem gC.gR (ha:gC an X o st st2):st2.gR o.dst=st.gR o.dst:=by funext j;cases hd:o.dst with|none=>rfl|some d=>simp only[AS.gR,(ha.dst d hd).1]
theorem FJ {lo hi:ax Operand}{n:Nat}{f:AS->Int->Int->ax AS}(hs:∀st2,gC an X o st st2->lo.map st2.rd=lo.map st.rd/\hi.map st2.rd=hi.map st.rd)(h:lU st lo hi n (f st)=some bK):∃a b,f st a b=some bK/\∀st2,gC an X o st st2->lU st2 lo hi n (f st2)=f st2 a b:=by unfold lU at h;split at h;rename_i h1 h2;exact⟨_,_,h,λst2 ha=>by simp only[lU,(hs st2 ha).1,(hs st2 ha).2,h1,h2]⟩;rename_i h1 h2;exact⟨_,_,h,λst2 ha=>by simp only[lU,(hs st2 ha).1,(hs st2 ha).2,h1,h2]⟩;rename_i h1 h2;exact⟨_,_,h,λst2 ha=>by simp only[lU,(hs st2 ha).1,(hs st2 ha).2,h1,h2]⟩;rename_i h1 h2;exact⟨_,_,h,λst2 ha=>by simp only[lU,(hs st2 ha).1,(hs st2 ha).2,h1,h2]⟩;cases h
theorem SU {lo hi:ax Operand}(ho:o.op=.slice T x lo hi none)(hm:mJ an o=true)(fT:dq E an X o st=true)(h:yn E an o T x lo hi st some=some bK):dY E Γ an X o st bK:=by
 have hr:∀st2,gC an X o st st2->st2.rd x=st.rd x:=λst2 ha=>ha.rd (λt ht=>by simp[dB,ho,ht]);have hb:∀st2,gC an X o st st2->lo.map st2.rd=lo.map st.rd/\hi.map st2.rd=hi.map st.rd:=by
  intro st2 ha;constructor;cases lo with|none=>rfl|some y=>simp only[dc];rw[ha.rd (λt ht=>by simp[dB,ho,tmO,ht])]
  cases hi with|none=>rfl|some y=>simp only[dc];rw[ha.rd (λt ht=>by simp[dB,ho,tmO,ht])]
 have Ci:(st.rd x).now st.ep=true:=by simpa[dq,ho]using fT
 have Ax:∀st2,gC an X o st st2->(st.rd x).fresh st2=st.rd x:=λst2 ha=>xD (by rw[ha.ep];exact Ci);have qT:CM an o=false:=by simpa[mJ,ho]using hm
 unfold yn at h;rw[aH (by simp[qT]),xD Ci]at h;split at h;rename_i s hx;split at h;rename_i hT;obtain⟨a,b,h1,h2⟩:=FJ (f:=λs0 a b=>aa (sub s a b) λs'=>some (s0.put o.dst (.one (.str s')))) hb h;cases oD:sub s a b with|none=>rw[oD]at h1;cases h1|some s'=>rw[oD]at h1;cases h1;refine dY.put rfl λst2 ha=>?_;have hf3:=Ax st2 ha;rw[hx]at hf3;simp only[cX,ho,yn,qT,aW,bX,hr st2 ha,hx,hf3,aF hT];rw[h2 st2 ha,oD];rfl
 cases h;rename_i fl e xs hx;split at h;rename_i hT;obtain⟨a,b,h1,h2⟩:=FJ (f:=λs0 a b=>aa (sub xs a b) λLV=>some (s0.put o.dst (.one (.sl (KZ an o fl a) e LV)))) hb h;cases oD:sub xs a b with|none=>rw[oD]at h1;cases h1|some s'=>rw[oD]at h1;cases h1;refine dY.put rfl λst2 ha=>?_;have hf3:=Ax st2 ha;rw[hx]at hf3;simp only[cX,ho,yn,qT,aW,bX,hr st2 ha,hx,hf3,ha.ep,aF hT];rw[h2 st2 ha,oD];rfl
 cases h;cases h
theorem D6 {args:aw Operand}(hl:∀t,t∈MB args->t∈dB o)(ha:gC an X o st st2):args.map st2.rd=args.map st.rd:=by apply List.map_congr_left;intro x hx;exact ha.rd (λt ht=>hl t (by simp only[MB,List.mem_flatMap];exact⟨x,hx,ht⟩))
theorem ZF (ho:o.op=.call {callee:=.builtin .len,args,argTypes:=ts})(h:KL E o ts.toList args.toList st some=some bK):dY E Γ an X o st bK:=by have hr:∀st2,gC an X o st st2->args.toList.map st2.rd=args.toList.map st.rd:=λst2 ha=>D6 (λt ht=>by simp only[dB,ho];exact ht) ha;unfold KL at h;split at h;rename_i t s rH hx;split at h;rename_i hT;cases h;refine dY.put rfl λst2 ha=>?_;simp only[cX,ho,KL,hr st2 ha,rH,hx,aF hT];cases h;rename_i t _ _ xs rH hx;split at h;rename_i hT;cases h;refine dY.put rfl λst2 ha=>?_;simp only[cX,ho,KL,hr st2 ha,rH,hx,aF hT];cases h;cases h
theorem ZH (ho:o.op=.call {callee:=.builtin .min,args,argTypes:=ts})(h:Mi o args.toList st some=some bK):dY E Γ an X o st bK:=by have hr:∀st2,gC an X o st st2->args.toList.map st2.rd=args.toList.map st.rd:=λst2 ha=>D6 (λt ht=>by simp only[dB,ho];exact ht) ha;unfold Mi at h;split at h;rename_i hx;cases h;refine dY.put rfl λst2 ha=>?_;simp only[cX,ho,Mi,hr st2 ha,hx];cases h
theorem ZG (ho:o.op=.call {callee:=.builtin .max,args,argTypes:=ts})(h:Mh o args.toList st some=some bK):dY E Γ an X o st bK:=by have hr:∀st2,gC an X o st st2->args.toList.map st2.rd=args.toList.map st.rd:=λst2 ha=>D6 (λt ht=>by simp only[dB,ho];exact ht) ha;unfold Mh at h;split at h;rename_i hx;cases h;refine dY.put rfl λst2 ha=>?_;simp only[cX,ho,Mh,hr st2 ha,hx];cases h
theorem Zq {l:fg}{c:AC}(h:c.acS l=true)(hl:∀t∈l,st2.get t=st.get t):st2.Mg c=st.Mg c:=by
 cases c with
 |sl fl e xs=>
  cases fl with
  |loc ep pv=>cases pv with|none=>rfl|some q=>obtain⟨r,t⟩:=q;cases r with|slot b j=>have hb:st2.get b=st.get b:=hl b (by simpa[AC.acS]using h);simp only[AS.Mg,AS.eL,hb]|box _ _=>rfl|io _=>rfl
  |_=>rfl
 |_=>rfl
theorem Vs {l:fg}(hx:FZ l st x=true)(hl:∀t∈l,st2.get t=st.get t)(h:∀t∈tm x,st2.get t=st.get t):yQ st2 x=yQ st x/\zV st2 x=zV st x:=by
 cases x with
 |tmp t=>have ht:=h t (by simp[tm]);simp only[FZ]at hx;cases hg:st.get t with|uw vs=>exact⟨by simp only[yQ,ht,hg],by simp only[zV,ht,hg]⟩|val g cs=>rw[hg]at hx;have hm:cs.map st2.Mg=cs.map st.Mg:=List.map_congr_left λc hc=>Zq (aE.1 hx c hc) hl;exact⟨by simp only[yQ,ht,hg,hm],by simp only[zV,ht,hg,hm]⟩
 |const v=>exact⟨rfl,rfl⟩
 |func f=>exact⟨rfl,rfl⟩
 |global g=>exact⟨rfl,rfl⟩
theorem Mj (ho:o.op=.call {callee:=.value f,args,argTypes:=ts})(fT:dq E an X o st=true){k:Nat}(hf:st.rd f=.val false [.fn k])(jt:(Γ k).bx=true)(hcur:(Γ k).cur=true)(h:sY Γ o k args.toList st some=some bK):dY E Γ an X o st bK:=by
 unfold sY at h;split at h;rename_i x0 xs fM;split at h;rename_i s hx0;have jf:rF an X (erS an o) st (x0::xs)=true:=by have h1:=fT;simp only[dq,ho,ae]at h1;rw[<-fM];exact h1.1
 have hx1:∃q,x0=.tmp q/\X.contains s=false/\an.sb q=some s/\(match (nth st.boxes s).getD none with|some cs=>cs.all AC.EV|none=>true)=true/\xs.all (FZ (erS an o) st)=true:=by cases x0 with|tmp q=>simp only[rF,hx0,aa8,ae,aK,aV]at jf;exact⟨q,rfl,jf.1.1.1,jf.1.1.2,jf.1.2,jf.2⟩|const v=>simp only[rF,hx0,AV.Xr]at jf;cases jf|func v=>simp only[rF,hx0,AV.Xr]at jf;cases jf|global v=>simp only[rF,hx0,AV.Xr]at jf;cases jf
 obtain⟨q,rfl,hX,Xb,Ej,yM⟩:=hx1;split at h;rename_i cs RT;rw[RT]at Ej;simp only at Ej;cases hc:(cs.all (AC.wN (Bq cs))&&xs.all (zV st))with
 |false=>rw[hc]at h;cases h
 |true=>
  rw[hc]at h;simp only[ah]at h;cases gz:(Γ k).fn (.val true (cs.map AC.Qr)::xs.map (yQ st))with
  |none=>rw[gz]at h;cases h
  |some y=>
   rw[gz]at h;simp only[aa]at h;cases UP:(((Γ k).back y).all (AC.wN true)&&((Γ k).av y).ZK)with
   |false=>rw[UP]at h;cases h
   |true=>
    rw[UP]at h;simp only[ah,hcur,Ej,eU,ba]at h;subst h;refine⟨⟨o.dst.toList.map λd=>(d,((Γ k).av y).Br st.ep (st.gR o.dst)),some (s,ou (Bq cs) (λ_=>none) 0 ((Γ k).back y)),o.dst⟩,⟨λx hx=>?_,λb hb=>?_,λd hd=>hd⟩,?_,λst2 ha=>?_⟩;simp only[List.mem_map]at hx;obtain⟨d,hd,rfl⟩:=hx;simp[writes,hd];cases hb;simp[CO,ho,fM,Xb];unfold Gm.apply AS.put AS.fi AS.eD;cases o.dst<;>rfl;have e1:st2.rd f=st.rd f:=ha.rd (λt ht=>by simp[dB,ho,ht]);have hl:∀x∈Operand.tmp q::xs,∀t∈tm x,t∈dB o:=by intro x hx t ht;simp only[dB,ho,ay,MB,List.mem_flatMap,fM];exact .inr ⟨x,hx,ht⟩
    have e2:st2.rd (.tmp q)=st.rd (.tmp q):=ha.rd (hl _ (by simp));have e3:nth st2.boxes s=nth st.boxes s:=ha.box s hX;have e4:∀x∈xs,yQ st2 x=yQ st x/\zV st2 x=zV st x:=λx hx=>Vs (aE.1 yM x hx) ha.er λt ht=>ha.get t (hl x (by simp[hx]) t ht);have e5:xs.map (yQ st2)=xs.map (yQ st):=List.map_congr_left λx hx=>(e4 x hx).1;have e6:xs.all (zV st2)=xs.all (zV st):=by rw[cB];simp only[aE];exact⟨λg x hx=>by rw[<-(e4 x hx).2];exact g x hx,λg x hx=>by rw[(e4 x hx).2];exact g x hx⟩
    simp only[cX,ho,Bt,e1,hf,jt,ah,sY,fM,e2,hx0,e3,RT,e5,e6,hc,gz,aa,UP,hcur,Ej,eU,ha.ep,ha.gR];unfold Gm.apply AS.put AS.fi AS.eD;cases o.dst<;>rfl
 cases h;cases h;cases h
theorem VA (yu:∀f,(Γ f).io=false/\((Γ f).bx=true->(Γ f).cur=true)/\(Γ f).pr=false)(ho:o.op=.call {callee:=.value f,args,argTypes:=ts})(fT:dq E an X o st=true)(h:Bt Γ o f args.toList st some=some bK):dY E Γ an X o st bK:=by
 have hr:∀st2,gC an X o st st2->st2.rd f=st.rd f/\(args.toList.map λx=>((st2.rd x).fresh st2).asArg st2.ep)=args.toList.map λx=>((st.rd x).fresh st).asArg st.ep:=by
  intro st2 ha;refine⟨ha.rd (λt ht=>by simp[dB,ho,ht]),?_⟩;apply List.map_congr_left;intro x hx;have Ci:(st.rd x).now st.ep=true:=by simp only[dq,ho,ae,aE]at fT;exact fT.2 x hx
  rw[ha.rd (λt ht=>by simp only[dB,ho,ay,MB,List.mem_flatMap];exact .inr ⟨x,hx,ht⟩),xD Ci,xD (s:=st2) (by rw[ha.ep];exact Ci),ha.ep]
 unfold Bt at h;split at h
 ·rename_i k hf
  cases jt:(Γ k).bx with
  |true=>rw[jt]at h;exact Mj ho fT hf jt ((yu k).2.1 jt) h
  |false=>
  rw[jt,(yu k).2.2,(yu k).1]at h
  simp only[af]at h
  cases hg:(Γ k).fn (args.toList.map λx=>((st.rd x).fresh st).asArg st.ep)with
  |none=>rw[hg]at h;cases h
  |some y=>
   rw[hg]at h
   simp only[aa]at h
   cases Ma:(Γ k).sel y with
   |true=>
    rw[Ma]at h
    cases h
    refine dY.new rfl λst2 ha=>?_
    simp only[cX,ho,Bt,(hr st2 ha).1,hf,(yu k).1,jt,(yu k).2.2,af]
    rw[(hr st2 ha).2,hg]
    simp only[aa,Ma,ah,ha.ep,ha.gR]
   |false=>
    rw[Ma]at h
    cases h
    refine dY.new rfl λst2 ha=>?_
    simp only[cX,ho,Bt,(hr st2 ha).1,hf,(yu k).1,jt,(yu k).2.2,af]
    rw[(hr st2 ha).2,hg]
    simp only[aa,Ma,af,ha.ep,ha.gR]
 cases h
theorem Mk {src dst:TypeId}(ho:o.op=.convert src dst x)(h:kX E o src dst x st some=some bK):dY E Γ an X o st bK:=by
 have hr:∀st2,gC an X o st st2->st2.rd x=st.rd x:=λst2 ha=>ha.rd (λt ht=>by simpa[dB,ho]using ht);unfold kX at h;split at h;rename_i h1 h2 h3;cases h;refine dY.put rfl λst2 ha=>?_;simp only[cX,ho,kX,hr st2 ha,h1,h2,h3];rename_i h1 h2 h3;cases h;refine dY.put rfl λst2 ha=>?_;simp only[cX,ho,kX,hr st2 ha,h1,h2,h3];rename_i jv val s EN h1 h2 h3;split at h;rename_i hb;unfold room at h;split at h;rename_i hrm;cases h;refine dY.new (v:=.one (.sl (.own (st.gR o.dst 0)) (.int .u8) (di s))) rfl λst2 ha=>?_;have Em:∀k:AS->ax AS,kX E o src dst x st2 k=if E.bytes dst then room s.length (k (st2.oE o.dst (.int .u8) (di s))) else none:=by intro k;unfold kX;rw[hr st2 ha,h1,h2,h3];obtain⟨ag,ct,of⟩:=val;cases ag with|true=>rfl|false=>cases ct with|str=>exact(EN _ rfl).elim|_=>rfl
 simp only[cX,ho];rw[Em,aF hb,room,aF hrm,AS.oE,ha.gR];cases h;cases h;rename_i val jv fl xs h1 h2 h3;split at h;rename_i hb;cases h;refine dY.put rfl λst2 ha=>?_;have Em:∀k:AS->ax AS,kX E o src dst x st2 k=if E.bytes src/\fl.live st2.ep then k (st2.put o.dst (.one (.str (aJ xs)))) else none:=by intro k;unfold kX;rw[hr st2 ha,h1,h2,h3];obtain⟨ag,ct,of⟩:=val;cases ag with|true=>rfl|false=>cases ct<;>rfl
 simp only[cX,ho];rw[Em,ha.ep,aF hb];cases h;cases h
theorem Ht {d:Nat}:(⟨[(d,v)],some (d,cs),none⟩:Gm).apply st=(st.eD d (some cs)).put (some d) v:=rfl
theorem SP (ho:o.op=.alloc T)(h:Ao E o T st some=some bK):dY E Γ an X o st bK:=by unfold Ao at h;split at h;rename_i d sh hd hT;split at h;rename_i hb;cases h;refine⟨⟨[(d,.one (.ptr d 0))],some (d,cellsOf sh.ct (.own none) sh.ct.zero),none⟩,⟨λx hx=>?_,λb gM=>?_,λ_ hh=>by cases hh⟩,?_,λst2 ha=>?_⟩;simp only[cn]at hx;subst hx;simp[writes,hd];cases gM;simp[CO,ho,hd];rw[Ht,hd];simp only[cX,ho,Ao,hd,hT,(ha.dst d hd).2,hb,Ht];cases h;cases h
def nd (st:AS):Operand->aw (Nat×AV)
 | .tmp t=>[(t,(st.get t).aQ st.ep)]
 |_=>[]
theorem zy (l:aw AV)(a b:aw (Nat×AV)):jw l (a++b)=jw (jw l a) b:=by induction a generalizing l with|nil=>rfl|cons x a ih=>exact ih _
def AS.jD (st:AS)(l:aw (Nat×AV)):AS:={st with slots:=jw st.slots l}
theorem pJ (a b:aw (Nat×AV)):st.jD (a++b)=(st.jD a).jD b:=by simp only[AS.jD,zy]
theorem Ai (x:Operand):(st.take x).2=st.jD (nd st x):=by cases x<;>rfl
theorem Bj (wB:st2.ep=st.ep)(h:∀t∈tm x,st2.get t=st.get t):(st2.take x).1=(st.take x).1/\(st2.take x).2=st2.jD (nd st x):=by cases x with|tmp t=>have:=h t (by simp[tm]);refine⟨this,?_⟩;rw[Ai];simp only[nd,this,wB]|const v=>exact⟨rfl,rfl⟩|func f=>exact⟨rfl,rfl⟩|global g=>exact⟨rfl,rfl⟩
theorem Gg:∀y∈nd st x,y.1∈tm x:=by cases x<;>simp[nd,tm]
theorem VC (ho:o.op=.move x)(h:zZ an o x st some=some bK):dY E Γ an X o st bK:=by
 unfold zZ at h;cases hd:o.dst with
 |none=>rw[hd]at h;cases h
 |some d=>
  rw[hd]at h;cases hf:an.mv.contains d with
  |false=>simp only[hf,aW,bX]at h;cases h;refine dY.put (v:=st.rd x) (by rw[hd]) λst2 ha=>?_;have hr:st2.rd x=st.rd x:=ha.rd (λt ht=>by simpa[dB,ho]using ht);simp only[cX,ho,zZ,hd,hf,aW,bX,hr]
  |true=>
   simp only[hf,bP]at h;cases h;have hr:∀st2,gC an X o st st2->(st2.take x).1=(st.take x).1/\(st2.take x).2=st2.jD (nd st x):=λst2 ha=>Bj ha.ep λt ht=>ha.get t (by simpa[dB,ho]using ht);refine⟨⟨nd st x++[(d,(st.take x).1)],none,none⟩,⟨λy hy=>?_,λ_ hh=>(by cases hh),λ_ hh=>(by cases hh)⟩,?_,λst2 ha=>?_⟩;rcases ay.1 hy with hy|hy;have:=Gg y hy;have hf':d∈an.mv:=by simpa using hf
   simp[writes,CL,ho,hd,hf',dB,this];simp only[cn]at hy;subst hy;simp[writes,hd];rw[Ai];show _=st.jD _;rw[pJ];rfl;simp only[cX,ho,zZ,hd,hf,bP,(hr st2 ha).1,(hr st2 ha).2];show some ((st2.jD (nd st x)).put (some d) (st.take x).1)=some (st2.jD _);rw[pJ];rfl
theorem RA {ep:Nat}(h:cs.all AC.je=true):aQ ep cs=cs:=by
 rw[aE]at h;unfold aQ;have:cs.map (AC.borrow ep none)=cs.map id:=List.map_congr_left λc hc=>by have:=h c hc;cases c<;>first|rfl|(simp[AC.je]at this)
 rw[this,List.map_id]
theorem afA {s:AS}{vs:aw (Bool×aw AC)}(h:s.get t=.uw vs):s.put (some t) (.uw vs)=s:=by cases s with|mk slots boxes ep iss io=>simp only[AS.put,AS.mk.injEq,iv];rw[fe];apply cz;intro i;rw[bu];split;rename_i hd;subst hd;simp only[AS.get,dI]at h;split;rename_i gW;rw[al gW]at h⊢;simp only[fj]at h;rw[h];rename_i yt;rw[br (Nat.le_of_not_lt yt)];rfl
theorem Ml {i:Nat}(ho:o.op=.extract (.tmp t) i)(fT:dq E an X o st=true)(h:kZ o t i st some=some bK):dY E Γ an X o st bK:=by
 have hr:∀st2,gC an X o st st2->st2.get t=st.get t:=λst2 ha=>ha.get t (by simp[dB,ho]);unfold kZ at h;simp only[dq,ho]at fT;split at h
 ·rename_i vs hv;rw[hv]at fT;split at h
  ·rename_i g cs hn;simp only[hn]at fT;have hfl:cs.all AC.je=true\/∃d,o.dst=some d/\an.mv.contains d=true:=by cases hd:o.dst with|none=>simp only[hd,Bool.or_false]at fT;exact .inl fT|some d=>simp only[hd,cC]at fT;rcases fT with h|h;exact .inl h;exact .inr ⟨d,rfl,h⟩
   rcases hfl with fT|⟨d,hd,BA⟩;rotate_left;cases h;refine⟨⟨[(t,.uw (gK vs i (g,aQ 0 cs))),(d,.val g cs)],none,none⟩,⟨λx hx=>?_,(λ_ hb=>by cases hb),(λ_ hh=>by cases hh)⟩,?_,λst2 ha=>?_⟩;simp only[cm,List.not_mem_nil,or_false]at hx;rcases hx with rfl|rfl;simp only[writes,CL,ho,hd,BA,ah,dB];simp;simp only[writes,hd];simp;rw[hd];rfl;have h2:st2.get t=.uw vs:=by rw[hr st2 ha,hv]
   simp only[cX,ho,kZ,h2,hn,hd];rfl;skip;have Cj:gK vs i (g,cs)=vs:=by rw[fe];rw[dI]at hn;apply cz;intro k;rw[bu];split;rename_i hk;subst hk;obtain⟨hl,he⟩:=aG.1 hn;rw[aF hl,hn];rfl
   have key:∀s:AS,s.get t=.uw vs->(s.put (some t) (.uw (gK vs i (g,aQ 0 cs))))=s:=λs hs=>by rw[RA fT,Cj,afA hs]
   rw[key st hv]at h;cases h;refine dY.put rfl λst2 ha=>?_;have h2:st2.get t=.uw vs:=by rw[hr st2 ha,hv]
   simp only[cX,ho,kZ,h2,hn];rw[key st2 h2]
  cases h
 cases h
def xz (st:AS):Operand->aw (Nat×AV)
 | .tmp t=>[(t,(st.get t).aQ st.ep)]
 |_=>[]
theorem LD (st:AS)(x:Operand):(st.take x).2=⟨jw st.slots (xz st x),st.boxes,st.ep,st.iss,st.io⟩:=by cases x<;>rfl
theorem SV {pp:Nat}(ho:o.op=.store T (.tmp pp) x)(hd:o.dst=none)(hm:mJ an o=true)(fT:dq E an X o st=true)(h:uU E T (.tmp pp) x st some=some bK):dY E Γ an X o st bK:=by
 have hr:∀st2,gC an X o st st2->st2.rd (.tmp pp)=st.rd (.tmp pp):=λst2 ha=>ha.rd (λt ht=>by simp only[dB,ho,ay];exact .inl ht);have Xb:(an.sb pp).isNone=false:=by simp only[mJ,ho,ae]at hm;cases hb:an.sb pp with|none=>rw[hb]at hm;cases hm.1|some _=>rfl
 simp only[dq,ho,Xb,eE,cE]at fT;unfold uU at h;split at h;rename_i sh s off hT hp;rw[hp]at fT;simp only[ae,aK,aV]at fT;split at h;rename_i gg vs st1 qT;have Pt:(st.take x).1=.val gg vs:=by rw[qT]
 have Ck:st1=⟨jw st.slots (xz st x),st.boxes,st.ep,st.iss,st.io⟩:=by rw[<-LD,qT]
 split at h;rename_i cs hb;split at h;rename_i hlen;split at h;rename_i gx;cases h;have jt:∀st2,gC an X o st st2->nth st2.boxes s=nth st.boxes s:=λst2 ha=>ha.box s fT.1;refine⟨⟨xz st x,some (s,dZ cs off vs),none⟩,⟨λy hy=>?_,λb gM=>?_,λ_ hh=>by cases hh⟩,?_,λst2 ha=>?_⟩;cases x with|tmp t=>simp only[xz,cn]at hy;subst hy;simp only[writes,CL,ho,ah,dB,hd];simp[tm]|_=>simp[xz]at hy
 cases gM;simp only[CO,ho,fT.2];simp;rw[Ck];rfl;have Xc:(st2.take x).1=(st.take x).1/\xz st2 x=xz st x:=by cases x with|tmp t=>have hg:st2.get t=st.get t:=ha.get t (by simp[dB,ho,tm]);simp only[AS.take,xz,hg,ha.ep];simp|const v=>exact⟨rfl,rfl⟩|func f=>exact⟨rfl,rfl⟩|global g=>exact⟨rfl,rfl⟩
 have ht2:st2.take x=(.val gg vs,⟨jw st2.slots (xz st x),st2.boxes,st2.ep,st2.iss,st2.io⟩):=by rw[<-Xc.2,<-LD,<-Pt,<-Xc.1]
 have IT:(nth st2.boxes s).getD none=some cs:=by rw[jt st2 ha];rw[Ck]at hb;exact hb
 have Bz:yf an o=false:=by simp only[mJ,ho,ae,aK]at hm;exact hm.2
 simp only[cX,ho,hd,Bz,aW,bX,uU,hT,hr st2 ha,hp,ht2,IT,aF hlen,aF gx];rfl;cases h;cases h;cases h;cases h;rename_i r _ _ _ _ _ _ hp;rw[hp]at fT;cases r<;>simp at fT;cases h
theorem PR (ho:o.op=.assign x)(hm:mJ an o=true)(h:sX E an o x st some=some bK):dY E Γ an X o st bK:=by
 have hr:∀st2,gC an X o st st2->(st2.take x).1=(st.take x).1/\(st2.take x).2=st2.jD (nd st x):=λst2 ha=>Bj ha.ep λt ht=>ha.get t (by simpa[dB,ho]using ht);have Bz:yf an o=false:=by simpa[mJ,ho]using hm
 unfold sX at h;split at h;rename_i st1 qT;split at h;rename_i e hT;cases h;refine dY.put rfl λst2 ha=>?_;have h2:st2.take x=(.val false [.jn],st2.jD (nd st x)):=Prod.ext (by rw[(hr st2 ha).1,qT]) (hr st2 ha).2;simp only[cX,ho,sX,Bz,aW,bX,h2,hT];cases h;rename_i v st1 EN qT;cases h;have Ck:st1=st.jD (nd st x):=by rw[<-Ai,qT]
 refine⟨⟨nd st x++o.dst.toList.map λd=>(d,v),none,none⟩,⟨λy hy=>?_,λ_ hh=>(by cases hh),λ_ hh=>(by cases hh)⟩,?_,λst2 ha=>?_⟩;rcases ay.1 hy with hy|hy;have:=Gg y hy;simp[writes,CL,ho,dB,this];obtain⟨d,hd,rfl⟩:=List.mem_map.1 hy;simp[writes,hd];rw[Ck];show _=st.jD _;rw[pJ];cases o.dst<;>rfl;have h2:st2.take x=(v,st2.jD (nd st x)):=Prod.ext (by rw[(hr st2 ha).1,qT]) (hr st2 ha).2;simp only[cX,ho,sX,Bz,aW,bX,h2];show some ((st2.jD (nd st x)).put o.dst v)=some (st2.jD _);rw[pJ];cases o.dst<;>rfl
theorem ji {α:Type}(l:aw α)(i:Nat)(v:α)(t:Nat):nth (gK l i v) t=if i=t then(if i<l.length then some v else none) else nth l t:=by rw[dI,fe,dI,bu]
theorem K6 (l:aw AV)(a:aw (Nat×AV)):(jw l a).length=l.length:=by induction a generalizing l with|nil=>rfl|cons x a ih=>rw[jw,ih,fe,aC]
theorem VS {l l2:aw AV}(a:aw (Nat×AV))(hl:l2.length=l.length)(t:Nat)(h:nth l2 t=nth l t):nth (jw l2 a) t=nth (jw l a) t:=by induction a generalizing l l2 with|nil=>exact h|cons x a ih=>refine ih (by rw[fe,fe,aC,aC,hl]) ?_;rw[ji,ji,hl,h]
theorem VG (h:st2.get t=st.get t)(hl:st2.slots.length=st.slots.length):nth st2.slots t=nth st.slots t:=by unfold AS.get at h;rw[dI,dI]at h⊢;rcases cf t st.slots.length with gW|yt;rw[al gW,al (by omega)]at h⊢;simpa using h;rw[br yt,br (by omega)]
def js (st:AS):aw Operand->aw (Nat×AV)
 |[]=>[]
 |x::xs=>nd st x++js (st.jD (nd st x)) xs
theorem yq:∀(xs:aw Operand)(st:AS),∀y∈js st xs,y.1∈MB xs
 |[],_,y,hy=>by cases hy
 |x::xs,st,y,hy=>by simp only[MB,List.flatMap_cons,ay];rcases ay.1 hy with hy|hy;exact .inl (Gg y hy);exact .inr (yq xs _ y hy)
theorem zD:∀(xs:aw Operand)(st st2:AS),st2.ep=st.ep->st2.slots.length=st.slots.length->(∀t∈MB xs,nth st2.slots t=nth st.slots t)->
 (eM st2 xs).1=(eM st xs).1/\(eM st2 xs).2=st2.jD (js st xs)
 |[],st,st2,_,_,_=>⟨rfl,rfl⟩
 |x::xs,st,st2,wB,hl,hg=>by
  have hx:∀t∈tm x,st2.get t=st.get t:=λt ht=>by unfold AS.get;rw[hg t (by simp[MB,ht])]
  obtain⟨h1,h2⟩:=Bj (st:=st) (st2:=st2) wB hx;have h3:=Ai (st:=st) x;obtain⟨k1,k2⟩:=zD xs (st.jD (nd st x)) (st2.jD (nd st x)) wB (by simp only[AS.jD,K6,hl]) (λt ht=>VS _ hl t (hg t (by simp only[MB,List.flatMap_cons,ay];exact .inr ht)));have e1:eM st (x::xs)=((st.take x).1::(eM (st.take x).2 xs).1,(eM (st.take x).2 xs).2):=rfl;have e2:eM st2 (x::xs)=((st2.take x).1::(eM (st2.take x).2 xs).1,(eM (st2.take x).2 xs).2):=rfl;rw[e1,e2,h1,h2,h3];refine⟨by rw[k1],?_⟩;show(eM (st2.jD (nd st x)) xs).2=_;rw[k2,js,pJ]
theorem Bi (xs:aw Operand):(eM st xs).2=st.jD (js st xs):=(zD xs st st rfl rfl (λ_ _=>rfl)).2
theorem gC.eM (ha:gC an X o st st2){xs:aw Operand}(hx:∀t∈MB xs,t∈dB o):(eM st2 xs).1=(Dn.eM st xs).1/\(Dn.eM st2 xs).2=st2.jD (js st xs):=zD xs st st2 ha.ep ha.len λt ht=>VG (ha.get t (hx t ht)) ha.len
theorem SQ (ho:o.op=.build T parts)(h:zh E o T parts.toList st some=some bK):dY E Γ an X o st bK:=by
 have hl:∀t∈MB (parts.toList.map (·.2)),t∈dB o:=λt ht=>by simp only[dB,ho];exact ht
 unfold zh at h;split at h;rename_i ct jv hT;split at h;rename_i vs st1 qT;have Ck:st1=st.jD (js st (parts.toList.map (·.2))):=by rw[<-Bi,qT]
 split at h;rename_i cs hb;cases h;refine⟨⟨js st (parts.toList.map (·.2))++o.dst.toList.map λd=>(d,.val true cs),none,none⟩,⟨λy hy=>?_,λ_ hh=>(by cases hh),λ_ hh=>(by cases hh)⟩,?_,λst2 ha=>?_⟩;rcases ay.1 hy with hy|hy;have:=hl _ (yq _ _ y hy);simp[writes,CL,ho,this];obtain⟨d,hd,rfl⟩:=List.mem_map.1 hy;simp[writes,hd];rw[Ck];show _=st.jD _;rw[pJ];cases o.dst<;>rfl;obtain⟨k1,k2⟩:=ha.eM hl;have h2:eM st2 (parts.toList.map (·.2))=(vs,st2.jD (js st (parts.toList.map (·.2)))):=Prod.ext (by rw[k1,qT]) k2;simp only[cX,ho,zh,hT,h2,hb];show some ((st2.jD _).put o.dst _)=some (st2.jD _);rw[pJ];cases o.dst<;>rfl;cases h;cases h
theorem dY.ajW (ht:CL an o=true)(hl:∀y∈tl,y.1∈dB o)(h:bK=((st.jD tl).fi o.dst).put o.dst v)(h2:∀st2,gC an X o st st2->cX E Γ an o st2 some=some (((st2.jD tl).fi o.dst).put o.dst v)):dY E Γ an X o st bK:=by
 have key:∀s:AS,(⟨tl++o.dst.toList.map λd=>(d,v),none,o.dst⟩:Gm).apply s=((s.jD tl).fi o.dst).put o.dst v:=by intro s;cases o.dst with|none=>simp only[Gm.apply,Option.toList,List.map_nil,bR,AS.jD,AS.fi,AS.put]|some d=>simp only[Gm.apply,Option.toList,cR,List.map_nil,zy,AS.jD,AS.fi,AS.put,jw]
 refine⟨⟨tl++o.dst.toList.map λd=>(d,v),none,o.dst⟩,⟨λy hy=>?_,λ_ hh=>(by cases hh),λd hh=>hh⟩,by rw[key];exact h,λst2 ha=>by rw[key];exact h2 st2 ha⟩;rcases ay.1 hy with hy|hy;simp[writes,ht,hl y hy];obtain⟨d,hd,rfl⟩:=List.mem_map.1 hy;simp[writes,hd]
theorem xI {d:ax Nat}:(st.jD tl).gR d=st.gR d:=rfl
theorem G0 {len:Nat}(ho:o.op=.buildSlice T len parts)(h:kV E o T len parts.toList st some=some bK):dY E Γ an X o st bK:=by
 have hl:∀t∈MB (parts.toList.map (·.2)),t∈dB o:=λt ht=>by simp only[dB,ho];exact ht
 unfold kV at h;split at h;rename_i e hT;split at h;rename_i hc;split at h;rename_i vs st1 qT;have Ck:st1=st.jD (js st (parts.toList.map (·.2))):=by rw[<-Bi,qT]
 split at h;rename_i xs hb;cases h;refine dY.ajW (tl:=js st (parts.toList.map (·.2))) (v:=.one (.sl (.own (st.gR o.dst 0)) e xs)) (by simp[CL,ho]) (λy hy=>hl _ (yq _ _ y hy)) ?_ λst2 ha=>?_;rw[Ck,AS.oE,xI];obtain⟨k1,k2⟩:=ha.eM hl;have h2:eM st2 (parts.toList.map (·.2))=(vs,st2.jD (js st (parts.toList.map (·.2)))):=Prod.ext (by rw[k1,qT]) k2;simp only[cX,ho,kV,hT,h2,hb,aF hc];rw[AS.oE,xI,ha.gR];cases h;cases h;cases h
theorem IA {n c:Operand}(ho:o.op=.makeSlice T n c)(h:nt E o T n c st some=some bK):dY E Γ an X o st bK:=by
 have hr:∀st2,gC an X o st st2->st2.rd n=st.rd n/\st2.rd c=st.rd c:=λst2 ha=>
  ⟨ha.rd (λt ht=>by simp[dB,ho,ht]),ha.rd (λt ht=>by simp[dB,ho,ht])⟩
 unfold nt at h;split at h;rename_i e len cap hT hn hc;split at h;rename_i hlc;unfold room at h;split at h;rename_i hrm;cases h;refine dY.new (v:=.one (.sl (.own (st.gR o.dst 0)) e (List.replicate len.toNat e.zero))) rfl λst2 ha=>?_;simp only[cX,ho,nt,(hr st2 ha).1,(hr st2 ha).2,hT,hn,hc,aF hlc,room,aF hrm,AS.oE,ha.gR];cases h;cases h;cases h
theorem PQ (ho:o.op=.call {callee:=.builtin .append,args,argTypes:=ts})(h:uZ E o ts.toList args.toList st some=some bK):dY E Γ an X o st bK:=by
 have T1:∀t∈MB args.toList,t∈dB o:=λt ht=>by simp only[dB,ho];exact ht
 unfold uZ at h;split at h;rename_i t t' s x rH fM;have hl:∀u∈MB [s,x],u∈dB o:=by rw[<-fM];exact T1
 have af9:∀st2,gC an X o st st2->(st2.take s).1=(st.take s).1/\((st2.take s).2.take x).1=((st.take s).2.take x).1/\((st2.take s).2.take x).2=st2.jD (js st [s,x]):=by intro st2 ha;obtain⟨k1,k2⟩:=ha.eM hl;simp only[Dn.eM,List.cons.injEq,iv]at k1 k2;exact⟨k1.1,k1.2,k2⟩
 have yM:((st.take s).2.take x).2=st.jD (js st [s,x]):=Bi (st:=st) [s,x];split at h;rename_i tag e xs st1 Pt;split at h;rename_i fl e' ys ajS Fj;split at h;rename_i he;subst he;split at h;rename_i hc;unfold room at h;split at h;rename_i hrm;cases h;have Ck:(st.take s).2=st1:=by rw[Pt]
 have Ps:ajS=st.jD (js st [s,x]):=by rw[<-yM,Ck,Fj]
 refine dY.ajW (tl:=js st [s,x]) (v:=.one (.sl (.own (st.gR o.dst 0)) e' (xs++ys))) (by simp[CL,ho]) (λy hy=>hl _ (yq _ _ y hy)) ?_ λst2 ha=>?_;rw[Ps,AS.oE,xI];obtain⟨k1,k2,k3⟩:=af9 st2 ha;have e1:st2.take s=(.val false [.sl (.own tag) e' xs],(st2.take s).2):=Prod.ext (by rw[k1,Pt]) rfl;have e2:(st2.take s).2.take x=(.val false [.sl fl e' ys],st2.jD (js st [s,x])):=Prod.ext (by rw[k2,Ck,Fj]) k3;simp only[cX,ho,uZ,rH,fM];rw[e1];simp only;rw[e2];simp only[dite_true,ha.ep,aF hc,room,aF hrm,AS.oE,xI,ha.gR];cases h;cases h;cases h;rename_i sx ajS Fj;split at h;rename_i he;subst he;split at h;rename_i hc;unfold room at h;split at h;rename_i hrm;cases h;have Ck:(st.take s).2=st1:=by rw[Pt]
 have Ps:ajS=st.jD (js st [s,x]):=by rw[<-yM,Ck,Fj]
 refine dY.ajW (tl:=js st [s,x]) (v:=.one (.sl (.own (st.gR o.dst 0)) (.int .u8) (xs++di sx))) (by simp[CL,ho]) (λy hy=>hl _ (yq _ _ y hy)) ?_ λst2 ha=>?_;rw[Ps,AS.oE,xI];obtain⟨k1,k2,k3⟩:=af9 st2 ha;have e1:st2.take s=(.val false [.sl (.own tag) (.int .u8) xs],(st2.take s).2):=Prod.ext (by rw[k1,Pt]) rfl;have e2:(st2.take s).2.take x=(.val false [.str sx],st2.jD (js st [s,x])):=Prod.ext (by rw[k2,Ck,Fj]) k3;simp only[cX,ho,uZ,rH,fM];rw[e1];simp only;rw[e2];simp only[dite_true,aF hc,room,aF hrm,AS.oE,xI,ha.gR];cases h;cases h;cases h;cases h;cases h;cases h
theorem ZE (ho:o.op=.box T x)(h:Oc o x st some=some bK):dY E Γ an X o st bK:=by
 have hr:∀st2,gC an X o st st2->(st2.take x).1=(st.take x).1/\(st2.take x).2=st2.jD (nd st x):=λst2 ha=>Bj ha.ep λt ht=>ha.get t (by simpa[dB,ho]using ht);unfold Oc at h;split at h;rename_i d g cs st1 hd qT;have Ck:st1=st.jD (nd st x):=by rw[<-Ai,qT]
 split at h;rename_i hb;split at h;rename_i hs;cases h;have RT:nth st.boxes d=some none:=by rw[Ck]at hb;exact hb
 have key:∀s:AS,(⟨nd st x++[(d,.one (.ptr d 0))],some (d,cs),none⟩:Gm).apply s=((s.jD (nd st x)).eD d (some cs)).put (some d) (.one (.ptr d 0)):=by intro s;simp only[Gm.apply,zy,AS.jD,AS.eD,AS.put,jw]
 refine⟨⟨nd st x++[(d,.one (.ptr d 0))],some (d,cs),none⟩,⟨λy hy=>?_,λb gM=>?_,λ_ hh=>(by cases hh)⟩,?_,λst2 ha=>?_⟩;rcases ay.1 hy with hy|hy;have:=Gg y hy;simp[writes,CL,ho,dB,this];simp only[cn]at hy;subst hy;simp[writes,hd];cases gM;simp[CO,ho,hd];rw[key,Ck,hd];have h2:st2.take x=(.val g cs,st2.jD (nd st x)):=Prod.ext (by rw[(hr st2 ha).1,qT]) (hr st2 ha).2;have IT:nth (st2.jD (nd st x)).boxes d=some none:=by show nth st2.boxes d=_;rw[(ha.dst d hd).2];exact RT
 simp only[cX,ho,Oc,hd,h2,IT,aF hs,key];cases h;cases h;cases h
theorem Lw (yu:∀f,(Γ f).io=false/\((Γ f).bx=true->(Γ f).cur=true)/\(Γ f).pr=false)(hm:mJ an o=true)(fT:dq E an X o st=true)(h:cX E Γ an o st some=some bK):dY E Γ an X o st bK:=by
 have h0:=h;unfold cX at h;split at h;rename_i ho;exact VC ho h;rename_i ho;have Bz:yf an o=false:=by simpa[mJ,ho]using hm
 rw[aH (by simp[Bz])]at h;exact PR ho hm h;rename_i ho;exact VD ho h;rename_i ho;exact SP ho h;rename_i ho;exact ZE ho h;rename_i ho;exact VB ho hm fT h;rename_i T p x ho;split at h;rename_i hd;cases p with
 |tmp pp=>
  have Bz:yf an o=false:=by simp only[mJ,ho,ae,aK]at hm;exact hm.2
  rw[aH (by simp[Bz])]at h;exact SV ho hd hm fT h
 |const v=>simp[mJ,ho]at hm
 |func f=>simp[mJ,ho]at hm
 |global g=>simp[mJ,ho]at hm
 cases h;rename_i ho;exact KQ ho h0;rename_i ho;exact ZD ho h;rename_i ho;exact acm ho h;rename_i ho;exact SR ho h;rename_i ho;exact Iz ho fT h;rename_i ho;exact SS ho h;rename_i ho;exact SQ ho h;rename_i ho;exact G0 ho h;rename_i ho;exact IA ho h;rename_i ho;exact SU ho hm fT h;rename_i ho;simp[mJ,ho]at hm;rename_i ho;simp[mJ,ho]at hm;rename_i ho;exact Mk ho h;rename_i ho;exact Ml ho fT h;rename_i ho;exact ZF ho h;rename_i ho;exact ZH ho h;rename_i ho;exact ZG ho h;rename_i ho;exact PQ ho h;rename_i ho;exact VA yu ho fT h;cases h
end Go.Dn
