import Derived.Test.YtfbhfnniblfpbaaGreatDnMask
/- What an operation looks at and what it turns: for regions whose order is drawn. -/
namespace Go.Dn
structure MC where
 slots:List (Nat×AV):=[]
 box:Option (Nat×List AC):=none
 iss:Option Nat:=none
def lF (l:ax AV):ax (Nat×AV)->ax AV
 |[]=>l
 |x::r=>lF (jm l x.1 x.2) r
def MC.apply (u:MC)(st:AS):AS:=
 ⟨lF st.slots u.slots,(match u.box with|some b=>jm st.boxes b.1 (some b.2)|none=>st.boxes),st.ep,(match u.iss with|some d=>jm st.iss d true|none=>st.iss),st.io⟩
structure jf (an:An) (X:List Nat) (o:Oper) (st st2:AS):Prop where
 len:st2.slots.length=st.slots.length
 get:∀t∈eK o,st2.get t=st.get t
 ep:st2.ep=st.ep
 dst:∀d,o.dst=some d->nth st2.iss d=nth st.iss d/\nth st2.boxes d=nth st.boxes d
 box:∀s,X.contains s=false->nth st2.boxes s=nth st.boxes s
 er:∀t∈erS an o,st2.get t=st.get t
structure MC.JV (an:An) (u:MC) (o:Oper):Prop where
 slots:∀x∈u.slots,x.1∈writes an o
 box:∀b,u.box=some b->b.1∈It an o
 iss:∀d,u.iss=some d->o.dst=some d
variable {E:Env} {Γ:zu} {an:An} {X:fi} {o:Oper} {st st2 cp:AS}
variable {parts:Array (Nat×Operand)} {args:Array Operand} {ts:Array TypeId} {t:Nat} {f p x:Operand} {T:TypeId} {tl:ax (Nat×AV)} {cs:ax AC}
theorem aiy (BG:st2.ep=st.ep)(h:∀t∈tm x,st2.get t=st.get t):st2.rd x=st.rd x:=by cases x with|tmp t=>simp only[AS.rd,BG,h t (by simp[tm])]|const v=>rfl|func f=>rfl|global g=>rfl
def fB (E:Env)(Γ:zu)(an:An)(X:fi)(o:Oper)(st cp:AS):Prop:=
 ∃u:MC,u.JV an o/\cp=u.apply st/\∀st2,jf an X o st st2->dM E Γ an o st2 some=some (u.apply st2)
def GV (o:Oper)(v:AV):MC:={slots:=o.dst.toList.map λd=>(d,v)}
theorem vi (v:AV):(GV o v).apply st=st.put o.dst v:=by unfold GV MC.apply AS.put;cases o.dst<;>rfl
theorem E8 (v:AV):(GV o v).JV an o:=by refine⟨λx hx=>?_,λb hb=>by simp[GV]at hb,λd hd=>by simp[GV]at hd⟩;simp only[GV,dZ]at hx;obtain⟨d,hd,rfl⟩:=hx;simp[writes,hd]
def KD (o:Oper)(v:AV):MC:={slots:=o.dst.toList.map λd=>(d,v),iss:=o.dst}
theorem Mw (v:AV):(KD o v).apply st=(st.gD o.dst).put o.dst v:=by unfold KD MC.apply AS.put AS.gD;cases o.dst<;>rfl
theorem Ts (v:AV):(KD o v).JV an o:=by refine⟨λx hx=>?_,λb hb=>by simp[KD]at hb,λd hd=>by simpa[KD]using hd⟩;simp only[KD,dZ]at hx;obtain⟨d,hd,rfl⟩:=hx;simp[writes,hd]
theorem fB.put {v:AV}(h:cp=st.put o.dst v)(h2:∀st2,jf an X o st st2->dM E Γ an o st2 some=some (st2.put o.dst v)):fB E Γ an X o st cp:=⟨GV o v,E8 v,by rw[vi];exact h,λst2 ha=>by rw[vi];exact h2 st2 ha⟩
theorem jf.rd (ha:jf an X o st st2)(hx:∀t∈tm x,t∈eK o):st2.rd x=st.rd x:=aiy ha.ep λt ht=>ha.get t (hx t ht)
theorem abJ {c y:Operand}(ho:o.op=.pick c x y)(h:H4 o c x y st some=some cp):fB E Γ an X o st cp:=by
 have hr:∀st2,jf an X o st st2->st2.rd c=st.rd c/\st2.rd x=st.rd x/\st2.rd y=st.rd y:=λst2 ha=>
  ⟨ha.rd (λt ht=>by simp[eK,ho,ht]),ha.rd (λt ht=>by simp[eK,ho,ht]),ha.rd (λt ht=>by simp[eK,ho,ht])⟩
 unfold H4 at h;split at h;rename_i t hc;split at h;rename_i a b hx hy;cases h;refine fB.put rfl λst2 ha=>?_;obtain⟨h1,h2,h3⟩:=hr st2 ha;simp only[dM,ho,H4,h1,h2,h3,hc,hx,hy];rename_i va vb KJ;have hgo:∀st2,jf an X o st st2->dM E Γ an o st2 some=cond t (some (st2.put o.dst (st.rd x))) (some (st2.put o.dst (st.rd y))):=by intro st2 ha;obtain⟨h1,h2,h3⟩:=hr st2 ha;simp only[dM,ho,H4,h1,h2,h3,hc]
 cases t with|true=>cases h;exact fB.put rfl λst2 ha=>hgo st2 ha|false=>cases h;exact fB.put rfl λst2 ha=>hgo st2 ha
 cases h
theorem Rk {d s:Nat}{v:AV}:(⟨[(d,v)],some (s,cs),none⟩:MC).apply st=(st.fQ s (some cs)).put (some d) v:=rfl
theorem Vj {o:Oper}(h:Io an o=true):∃T q d,o.op=.load T (.tmp q)/\o.dst=some d/\o.guard=none/\an.mv.contains d=true/\an.mb d=none:=by unfold Io at h;split at h;rename_i T q d ho hd hg;simp only[ah,Option.isNone_iff_eq_none]at h;exact⟨T,q,d,ho,hd,hg,h.1.1,h.1.2⟩;cases h
def Mt (st:AS)(b j t:Nat)(e:CT)(i:Int)(cs:ax AC)(ys:ax e.D):AS:=st.fQ b (some (jm cs j (.sl (.gr (some t) i (some st.ep)) e ys)))
theorem Sh {q d:Nat}(ht:Io an o=true)(ho:o.op=.load T (.tmp q))(hd:o.dst=some d)(Hc:an.mv.contains d=true)(hmb:an.mb d=none):(eo E an X o st=true/\rp E an o T (.tmp q) st some=some cp)↔ ∃(g:Bool)(e:CT)(lE:ax (Nat×Nat))(b j t Qq:Nat)(x:e.D)(i:Int)(cs:ax AC)(ys:ax e.D)(y:e.D),kl E.ty T=some ⟨g,e,lE⟩/\st.rd (.tmp q)=.val false [.Ef (.loc Qq (some (.box b j,t))) e x i 0]/\(nth st.boxes b).getD none=some cs/\nth cs j=some (.sl (.own (some t)) e ys)/\idx ys i=some y/\ X.contains b=false/\an.eb q=some b/\fmB an o=false/\cp=(Mt st b j t e i cs ys).put (some d) (.val g (cellsOf e (.own none) y)):=by
 have vF:Ir an o=true:=by unfold Ir;rw[hd];simp only[Hc,hmb];rfl
 have Oa:E6 an o=false:=by unfold E6;split;rename_i HI _;rw[hd]at HI;cases HI;rw[hmb];simp;rfl
 have hnp:Ev an o=false:=by unfold Ev;split;rename_i HI _;rw[hd]at HI;cases HI;rw[Hc];rfl;rfl
 constructor;rintro⟨hf,h⟩;unfold rp at h;split at h;rename_i hp;simp only[eo,ho,hp,hd,Hc,hmb]at hf;simp at hf;rename_i sh fl e x i off hT hp;rw[aI vF]at h;simp only[eo,ho,hp,ht,Oa,hnp,Bool.or_false,cA,aj,cM,jw,ah,aP]at hf;obtain⟨⟨KI,Pv⟩,hb⟩:=hf;unfold Bz at h;split at h;rename_i Qq r t;cases r with
 |slot _ _=>cases hb
 |io _=>cases hb
 |box b j=>
  simp only[ah,bD,aP]at hb;split at h;rename_i t' e' ys Yd;split at h;rename_i he;subst he;split at h;rename_i hc;obtain⟨rfl,rfl,N8⟩:=hc;obtain⟨g,ct,lE⟩:=sh;simp only at N8;subst N8;cases hi:idx ys i with|none=>simp only[hi,aa]at h;cases h|some y=>simp only[hi,aa]at h;cases h;simp only[AS.fU]at Yd;obtain⟨cs,MX,hj⟩:=aY.1 Yd;refine⟨g,_,lE,b,j,_,Qq,x,i,cs,ys,y,hT,hp,MX,hj,hi,hb.2,hb.1,Pv,?_⟩;simp only[AS.gj,MX,hd];rfl
  cases h;cases h;cases h
 cases h;cases h;rintro⟨g,e,lE,b,j,t,Qq,x,i,cs,ys,y,hT,hp,MX,hj,hi,hX,VV,Pv,rfl⟩;constructor;simp only[eo,ho,hp,ht,Oa,hnp,Pv,hX,VV];simp;simp only[rp,hT,hp,vF,cL,Bz,AS.fU,MX,fL,hj,dite_true,and_self,hi,aa,AS.gj,hd];rfl
theorem YT (ht:Io an o=true)(ho:o.op=.load T p)(iD:eo E an X o st=true)(h:rp E an o T p st some=some cp):fB E Γ an X o st cp:=by obtain⟨T',q,d,OX,hd,hg,Hc,hmb⟩:=Vj ht;rw[ho]at OX;cases OX;obtain⟨g,e,lE,b,j,t,Qq,x,i,cs,ys,y,hT,hp,MX,hj,hi,hX,VV,Pv,rfl⟩:=(Sh ht ho hd Hc hmb).1 ⟨iD,h⟩;refine⟨⟨[(d,.val g (cellsOf e (.own none) y))],some (b,jm cs j (.sl (.gr (some t) i (some st.ep)) e ys)),none⟩,⟨λx hx=>?_,λb' iq=>?_,λ_ hh=>by cases hh⟩,rfl,λst2 ha=>?_⟩;simp only[bq]at hx;subst hx;simp[writes,hd];cases iq;simp only[It,ho,hd,Hc,af,ht,VV];simp;have h2:=((Sh (E:=E) (X:=X) (st:=st2) ht ho hd Hc hmb).2 ⟨g,e,lE,b,j,t,Qq,x,i,cs,ys,y,hT,by rw[ha.rd (λt ht=>by simpa[eK,ho]using ht)];exact hp,by rw[ha.box b hX];exact MX,hj,hi,hX,VV,Pv,rfl⟩).2;simp only[dM,ho];rw[h2];simp only[Mt,ha.ep];rfl
theorem abH (ho:o.op=.load T p)(hm:pJ an o=true)(iD:eo E an X o st=true)(h:rp E an o T p st some=some cp):fB E Γ an X o st cp:=by
 cases hE:Io an o with|true=>exact YT hE ho iD h|false=> ?_
 have hr:∀st2,jf an X o st st2->st2.rd p=st.rd p:=λst2 ha=>ha.rd (λt ht=>by simpa[eK,ho]using ht);have vF:Ir an o=false:=by simp only[pJ,ho,hE,Bool.or_false]at hm;unfold Ir;cases VU:o.dst with|none=>rfl|some d=>rw[VU]at hm;simp only[dE,aP]at hm;rcases hm with hm|hm;simp only[hm,iw];cases hmb:an.mb d with|none=>rw[hmb]at hm;cases hm|some _=>simp[hmb]
 unfold rp at h;split at h;rename_i sh s off hT hp;simp only[eo,ho,hp,ah,aP]at iD;split at h;rename_i cs hb;split at h;rename_i iW;split at h;rename_i d hd;have lB:∀st2,jf an X o st st2->nth st2.boxes s=nth st.boxes s:=λst2 ha=>ha.box s iD.1.1;cases hf:an.mv.contains d with
 |false=>simp only[hf,bm,cG]at h;cases h;refine fB.put (by rw[hd]) λst2 ha=>?_;simp only[dM,ho,rp,hT,hr st2 ha,hp,lB st2 ha,hb,aI iW,hd,hf,bm,cG,ha.ep]
 |true=>
  simp only[hf,cL]at h;have hmb:an.mb d=some s:=by have:=iD.1.2;rw[hd]at this;simp only[hf,aj,cM,bD]at this;exact this
  cases h;refine⟨⟨[(d,.val sh.agg ((cs.drop off).take sh.ct.size))],some (s,fC cs off (bh st.ep ((cs.drop off).take sh.ct.size))),none⟩,⟨λx hx=>?_,λb iq=>?_,λ_ hh=>by cases hh⟩,?_,λst2 ha=>?_⟩;simp only[bq]at hx;subst hx;simp[writes,hd];cases iq;simp only[It,ho,hd,hf,af,hmb];simp;rw[Rk,hd];simp only[dM,ho,rp,hT,hr st2 ha,hp,lB st2 ha,hb,aI iW,hd,hf,cL,ha.ep,Rk]
 cases h;cases h;cases h;rename_i sh fl e x i off hT hp;rw[aK (by simp[vF])]at h;split at h;rename_i hl;split at h;rename_i iW;cases h;refine fB.put rfl λst2 ha=>?_;simp only[dM,ho,rp,hT,hr st2 ha,hp,ha.ep,vF,bm,cG,aI hl,aI iW];cases h;rename_i hl;have Jz:∀r t Qq,fl=.loc Qq (some (r,t))->∀st2,jf an X o st st2->st2.fU r=st.fU r:=by rintro r t Qq rfl st2 ha;simp only[eo,ho,hp,hE,cA,lA,jw,ah,dE]at iD;rcases iD.1.1 with hq|hq;exact absurd hq hl;cases r with|slot b j=>simp only[AS.fU];rw[ha.er b (by simpa using hq)]|box b j=>simp only[AS.fU];rw[ha.box b (by simpa using hq)]|io j=>cases hq
 unfold GO at h;split at h;rename_i Qq r t;split at h;rename_i t' e' ys Yd;split at h;rename_i he;split at h;rename_i hc;cases hi:idx (he▸ys:List _) i with|none=>rw[hi]at h;cases h|some y=>rw[hi]at h;simp only[aa]at h;cases h;refine fB.put rfl λst2 ha=>?_;simp only[dM,ho,rp,hT,hr st2 ha,hp,ha.ep,vF,bm,cG,aK hl,GO,Jz _ _ _ rfl st2 ha,Yd,dif_pos he,aI hc,hi,aa]
 cases h;cases h;cases h;cases h;cases h
theorem Ro (ho:o.op=.nilCheck x)(h:dM E Γ an o st some=some cp):fB E Γ an X o st cp:=by have hr:∀st2,jf an X o st st2->st2.rd x=st.rd x:=λst2 ha=>ha.rd (λt ht=>by simpa[eK,ho]using ht);simp only[dM,ho]at h;split at h;rename_i s off hx;cases h;refine fB.put rfl λst2 ha=>?_;simp only[dM,ho,hr st2 ha,hx];rename_i fl e y i off hx;cases h;refine fB.put rfl λst2 ha=>?_;simp only[dM,ho,hr st2 ha,hx];cases h
theorem Sp {op:BinOp}{x y:AV}(h:(Jj op x y λc=>some (st.put o.dst (.one c)))=some cp):∃v,cp=st.put o.dst v/\∀st2:AS,(Jj op x y λc=>some (st2.put o.dst (.one c)))=some (st2.put o.dst v):=by have key:∀s:AS,(Jj op x y λc=>some (s.put o.dst (.one c)))=(Jj op x y some).bind λc=>some (s.put o.dst (.one c)):=λs=>(IB op x y some _).symm;rw[key st]at h;cases hb:Jj op x y some with|none=>rw[hb]at h;cases h|some c=>rw[hb]at h;cases h;exact⟨_,rfl,λst2=>by rw[key st2,hb];rfl⟩
theorem Vn {op:BinOp}{b:Bool}(h:(G6 op b λc=>some (st.put o.dst (.one c)))=some cp):∃v,cp=st.put o.dst v/\∀st2:AS,(G6 op b λc=>some (st2.put o.dst (.one c)))=some (st2.put o.dst v):=by unfold G6 at h;split at h;cases h;exact⟨_,rfl,λst2=>rfl⟩;cases h;exact⟨_,rfl,λst2=>rfl⟩;cases h
theorem afb {op:BinOp}{T':TypeId}{y:Operand}(ho:o.op=.binOp op T x y T')(h:D9 E o op T x y st some=some cp):fB E Γ an X o st cp:=by
 have hr:∀st2,jf an X o st st2->st2.rd x=st.rd x/\st2.rd y=st.rd y:=λst2 ha=>
  ⟨ha.rd (λt ht=>by simp[eK,ho,ht]),ha.rd (λt ht=>by simp[eK,ho,ht])⟩
 unfold D9 at h;split at h;rename_i a b hx hy;split at h;rename_i hT;obtain⟨v,rfl,hv⟩:=Sp h;refine fB.put rfl λst2 ha=>?_;simp only[dM,ho,D9,(hr st2 ha).1,(hr st2 ha).2,hx,hy,aI hT];exact hv st2;cases h;rename_i xs ys hx hy;split at h;rename_i ls hq;split at h;rename_i iW;obtain⟨v,rfl,hv⟩:=Sp h;refine fB.put rfl λst2 ha=>?_;simp only[dM,ho,D9,(hr st2 ha).1,(hr st2 ha).2,hx,hy,hq,aI iW];exact hv st2;cases h;cases h;rename_i fl e xs hx hy;split at h;rename_i hT;split at h;cases h;rename_i hlen;obtain⟨v,rfl,hv⟩:=Vn h;refine fB.put rfl λst2 ha=>?_;simp only[dM,ho,D9,(hr st2 ha).1,(hr st2 ha).2,hx,hy,ha.ep,aI hT,aK hlen];exact hv st2;cases h;rename_i hx hy;split at h;rename_i hT;obtain⟨v,rfl,hv⟩:=Vn h;refine fB.put rfl λst2 ha=>?_;simp only[dM,ho,D9,(hr st2 ha).1,(hr st2 ha).2,hx,hy,aI hT];exact hv st2;cases h;rename_i a b MZ Hn hn3 hn4;obtain⟨v,rfl,hv⟩:=Sp h;refine fB.put rfl λst2 ha=>?_;simp only[dM,ho,D9,(hr st2 ha).1,(hr st2 ha).2];exact hv st2
theorem aic {op:UnOp}(ho:o.op=.unOp op T x)(h:(unC op (st.rd x) λc=>some (st.put o.dst (.one c)))=some cp):fB E Γ an X o st cp:=by have hr:∀st2,jf an X o st st2->st2.rd x=st.rd x:=λst2 ha=>ha.rd (λt ht=>by simpa[eK,ho]using ht);have key:∀s:AS,(unC op (st.rd x) λc=>some (s.put o.dst (.one c)))=(unC op (st.rd x) some).bind λc=>some (s.put o.dst (.one c)):=λs=>(ZZ op (st.rd x) some _).symm;rw[key st]at h;cases hb:unC op (st.rd x) some with|none=>rw[hb]at h;cases h|some c=>rw[hb]at h;cases h;refine fB.put rfl λst2 ha=>?_;simp only[dM,ho,hr st2 ha];rw[key st2,hb];rfl
theorem YP {S:TypeId}{f:Nat}(ho:o.op=.fieldAddr S p f)(h:Di E o S p f st some=some cp):fB E Γ an X o st cp:=by have hr:∀st2,jf an X o st st2->st2.rd p=st.rd p:=λst2 ha=>ha.rd (λt ht=>by simpa[eK,ho]using ht);unfold Di at h;split at h;rename_i hT hp;split at h;rename_i hf;cases h;refine fB.put rfl λst2 ha=>?_;simp only[dM,ho,Di,hr st2 ha,hT,hp,hf];cases h;rename_i hT hp;split at h;rename_i hf;cases h;refine fB.put rfl λst2 ha=>?_;simp only[dM,ho,Di,hr st2 ha,hT,hp,hf];cases h;cases h
theorem C0 {v:AV}{s:AS}(h:v.now s.ep=true):v.fresh s=v:=by
 cases v with
 |yY vs=>rfl
 |val g cs=>
  simp only[AV.now,aO]at h;simp only[AV.fresh];congr 1;have:cs.map s.fresh=cs.map id:=List.map_congr_left λc hc=>by have hn:=h c hc;unfold AS.fresh;split;simp only[AC.now]at hn;rw[hn];rfl;rfl
  rw[this,List.map_id]
theorem XR {v:AV}{st st2:AS}(he:st2.ep=st.ep)(h:v.now st.ep=true\/∃g ep b j t e xs,v=.val g [.sl (.loc ep (some (.box b j,t))) e xs]/\nth st2.boxes b=nth st.boxes b):v.fresh st2=v.fresh st:=by rcases h with h|⟨g,ep,b,j,t,e,xs,rfl,hb⟩;rw[C0 h,C0 (by rw[he];exact h)];simp only[AV.fresh,fb,List.map_nil];congr 2;unfold AS.fresh;simp only[AS.fU,he,hb]
theorem O3 {i:Operand}(ho:o.op=.indexAddr T x i)(iD:eo E an X o st=true)(h:oy E o T x i st some=some cp):fB E Γ an X o st cp:=by
 have hr:∀st2,jf an X o st st2->st2.rd x=st.rd x/\st2.rd i=st.rd i:=λst2 ha=>
  ⟨ha.rd (λt ht=>by simp[eK,ho,ht]),ha.rd (λt ht=>by simp[eK,ho,ht])⟩
 have F1:∀st2,jf an X o st st2->(st.rd x).fresh st2=(st.rd x).fresh st:=λst2 ha=>by refine XR ha.ep ?_;simp only[eo,ho,dE]at iD;rcases iD with hn|hn;exact .inl hn;split at hn;rename_i g ep b j t e xs hx;exact .inr ⟨g,ep,b,j,t,e,xs,hx,ha.box b (by simpa using hn)⟩;cases hn
 unfold oy at h;split at h;rename_i e' fl e xs k n hT hx hi;split at h;rename_i hc;cases HL:idx xs n with|none=>rw[HL]at h;cases h|some y=>rw[HL]at h;cases h;refine fB.put rfl λst2 ha=>?_;have hf3:=F1 st2 ha;rw[hx]at hf3;simp only[dM,ho,oy,(hr st2 ha).1,(hr st2 ha).2,hf3,hT,hi,ha.ep,aI hc,HL,aa]
 cases h;cases h
theorem YQ {i:Operand}(ho:o.op=.index T x i)(h:EX E o T x i st some=some cp):fB E Γ an X o st cp:=by
 have hr:∀st2,jf an X o st st2->st2.rd x=st.rd x/\st2.rd i=st.rd i:=λst2 ha=>
  ⟨ha.rd (λt ht=>by simp[eK,ho,ht]),ha.rd (λt ht=>by simp[eK,ho,ht])⟩
 unfold EX at h;split at h;rename_i s k n hx hi;split at h;rename_i hc;cases HL:idx s n with|none=>rw[HL]at h;cases h|some y=>rw[HL]at h;cases h;refine fB.put rfl λst2 ha=>?_;simp only[dM,ho,EX,(hr st2 ha).1,(hr st2 ha).2,hx,hi,aI hc,HL,aa]
 cases h;cases h
theorem fB.new {v:AV}(h:cp=(st.gD o.dst).put o.dst v)(h2:∀st2,jf an X o st st2->dM E Γ an o st2 some=some ((st2.gD o.dst).put o.dst v)):fB E Γ an X o st cp:=⟨KD o v,Ts v,by rw[Mw];exact h,λst2 ha=>by rw[Mw];exact h2 st2 ha⟩
theorem jf.jz (ha:jf an X o st st2):st2.jz o.dst=st.jz o.dst:=by funext j;cases hd:o.dst with|none=>rfl|some d=>simp only[AS.jz,(ha.dst d hd).1]
theorem LC {lo hi:aA Operand}{n:Nat}{f:AS->Int->Int->aA AS}(hs:∀st2,jf an X o st st2->lo.map st2.rd=lo.map st.rd/\hi.map st2.rd=hi.map st.rd)(h:oN st lo hi n (f st)=some cp):∃a b,f st a b=some cp/\∀st2,jf an X o st st2->oN st2 lo hi n (f st2)=f st2 a b:=by unfold oN at h;split at h;rename_i h1 h2;exact⟨_,_,h,λst2 ha=>by simp only[oN,(hs st2 ha).1,(hs st2 ha).2,h1,h2]⟩;rename_i h1 h2;exact⟨_,_,h,λst2 ha=>by simp only[oN,(hs st2 ha).1,(hs st2 ha).2,h1,h2]⟩;rename_i h1 h2;exact⟨_,_,h,λst2 ha=>by simp only[oN,(hs st2 ha).1,(hs st2 ha).2,h1,h2]⟩;rename_i h1 h2;exact⟨_,_,h,λst2 ha=>by simp only[oN,(hs st2 ha).1,(hs st2 ha).2,h1,h2]⟩;cases h
theorem YR {lo hi:aA Operand}(ho:o.op=.slice T x lo hi none)(hm:pJ an o=true)(iD:eo E an X o st=true)(h:DN E an o T x lo hi st some=some cp):fB E Γ an X o st cp:=by
 have hr:∀st2,jf an X o st st2->st2.rd x=st.rd x:=λst2 ha=>ha.rd (λt ht=>by simp[eK,ho,ht]);have hb:∀st2,jf an X o st st2->lo.map st2.rd=lo.map st.rd/\hi.map st2.rd=hi.map st.rd:=by
  intro st2 ha;constructor;cases lo with|none=>rfl|some y=>simp only[dQ];rw[ha.rd (λt ht=>by simp[eK,ho,tmO,ht])]
  cases hi with|none=>rfl|some y=>simp only[dQ];rw[ha.rd (λt ht=>by simp[eK,ho,tmO,ht])]
 have HO:(st.rd x).now st.ep=true:=by simpa[eo,ho]using iD
 have F1:∀st2,jf an X o st st2->(st.rd x).fresh st2=st.rd x:=λst2 ha=>C0 (by rw[ha.ep];exact HO);have vF:Ir an o=false:=by simpa[pJ,ho]using hm
 unfold DN at h;rw[aK (by simp[vF]),C0 HO]at h;split at h;rename_i s hx;split at h;rename_i hT;obtain⟨a,b,h1,h2⟩:=LC (f:=λs0 a b=>aa (sub s a b) λs'=>some (s0.put o.dst (.one (.str s')))) hb h;cases sB:sub s a b with|none=>rw[sB]at h1;cases h1|some s'=>rw[sB]at h1;cases h1;refine fB.put rfl λst2 ha=>?_;have hf3:=F1 st2 ha;rw[hx]at hf3;simp only[dM,ho,DN,vF,bm,cG,hr st2 ha,hx,hf3,aI hT];rw[h2 st2 ha,sB];rfl
 cases h;rename_i fl e xs hx;split at h;rename_i hT;obtain⟨a,b,h1,h2⟩:=LC (f:=λs0 a b=>aa (sub xs a b) λSE=>some (s0.put o.dst (.one (.sl (Ry an o fl a) e SE)))) hb h;cases sB:sub xs a b with|none=>rw[sB]at h1;cases h1|some s'=>rw[sB]at h1;cases h1;refine fB.put rfl λst2 ha=>?_;have hf3:=F1 st2 ha;rw[hx]at hf3;simp only[dM,ho,DN,vF,bm,cG,hr st2 ha,hx,hf3,ha.ep,aI hT];rw[h2 st2 ha,sB];rfl
 cases h;cases h
theorem JW {args:ax Operand}(hl:∀t,t∈Tq args->t∈eK o)(ha:jf an X o st st2):args.map st2.rd=args.map st.rd:=by apply List.map_congr_left;intro x hx;exact ha.rd (λt ht=>hl t (by simp only[Tq,List.mem_flatMap];exact⟨x,hx,ht⟩))
theorem afd (ho:o.op=.call {callee:=.builtin .len,args,argTypes:=ts})(h:Rj E o ts.toList args.toList st some=some cp):fB E Γ an X o st cp:=by have hr:∀st2,jf an X o st st2->args.toList.map st2.rd=args.toList.map st.rd:=λst2 ha=>JW (λt ht=>by simp only[eK,ho];exact ht) ha;unfold Rj at h;split at h;rename_i t s wx hx;split at h;rename_i hT;cases h;refine fB.put rfl λst2 ha=>?_;simp only[dM,ho,Rj,hr st2 ha,wx,hx,aI hT];cases h;rename_i t _ _ xs wx hx;split at h;rename_i hT;cases h;refine fB.put rfl λst2 ha=>?_;simp only[dM,ho,Rj,hr st2 ha,wx,hx,aI hT];cases h;cases h
theorem aff (ho:o.op=.call {callee:=.builtin .min,args,argTypes:=ts})(h:S6 o args.toList st some=some cp):fB E Γ an X o st cp:=by have hr:∀st2,jf an X o st st2->args.toList.map st2.rd=args.toList.map st.rd:=λst2 ha=>JW (λt ht=>by simp only[eK,ho];exact ht) ha;unfold S6 at h;split at h;rename_i hx;cases h;refine fB.put rfl λst2 ha=>?_;simp only[dM,ho,S6,hr st2 ha,hx];cases h
theorem afe (ho:o.op=.call {callee:=.builtin .max,args,argTypes:=ts})(h:S5 o args.toList st some=some cp):fB E Γ an X o st cp:=by have hr:∀st2,jf an X o st st2->args.toList.map st2.rd=args.toList.map st.rd:=λst2 ha=>JW (λt ht=>by simp only[eK,ho];exact ht) ha;unfold S5 at h;split at h;rename_i hx;cases h;refine fB.put rfl λst2 ha=>?_;simp only[dM,ho,S5,hr st2 ha,hx];cases h
theorem aeX {l:fi}{c:AC}(h:c.aiO l=true)(hl:∀t∈l,st2.get t=st.get t):st2.S4 c=st.S4 c:=by
 cases c with
 |sl fl e xs=>
  cases fl with
  |loc ep pv=>cases pv with|none=>rfl|some q=>obtain⟨r,t⟩:=q;cases r with|slot b j=>have hb:st2.get b=st.get b:=hl b (by simpa[AC.aiO]using h);simp only[AS.S4,AS.fU,hb]|box _ _=>rfl|io _=>rfl
  |_=>rfl
 |_=>rfl
theorem abv {l:fi}(hx:L1 l st x=true)(hl:∀t∈l,st2.get t=st.get t)(h:∀t∈tm x,st2.get t=st.get t):Eu st2 x=Eu st x/\FC st2 x=FC st x:=by
 cases x with
 |tmp t=>have ht:=h t (by simp[tm]);simp only[L1]at hx;cases hg:st.get t with|yY vs=>exact⟨by simp only[Eu,ht,hg],by simp only[FC,ht,hg]⟩|val g cs=>rw[hg]at hx;have hm:cs.map st2.S4=cs.map st.S4:=List.map_congr_left λc hc=>aeX (aO.1 hx c hc) hl;exact⟨by simp only[Eu,ht,hg,hm],by simp only[FC,ht,hg,hm]⟩
 |const v=>exact⟨rfl,rfl⟩
 |func f=>exact⟨rfl,rfl⟩
 |global g=>exact⟨rfl,rfl⟩
theorem S7 (ho:o.op=.call {callee:=.value f,args,argTypes:=ts})(iD:eo E an X o st=true){k:Nat}(hf:st.rd f=.val false [.fn k])(lB:(Γ k).bx=true)(hcur:(Γ k).cur=true)(h:xL Γ o k args.toList st some=some cp):fB E Γ an X o st cp:=by
 unfold xL at h;split at h;rename_i x0 xs gN;split at h;rename_i s hx0;have km:wo an X (erS an o) st (x0::xs)=true:=by have h1:=iD;simp only[eo,ho,ah]at h1;rw[<-gN];exact h1.1
 have hx1:∃q,x0=.tmp q/\X.contains s=false/\an.sb q=some s/\(match (nth st.boxes s).getD none with|some cs=>cs.all AC.KN|none=>true)=true/\xs.all (L1 (erS an o) st)=true:=by cases x0 with|tmp q=>simp only[wo,hx0,agX,ah,aP,bD]at km;exact⟨q,rfl,km.1.1.1,km.1.1.2,km.1.2,km.2⟩|const v=>simp only[wo,hx0,AV.adg]at km;cases km|func v=>simp only[wo,hx0,AV.adg]at km;cases km|global v=>simp only[wo,hx0,AV.adg]at km;cases km
 obtain⟨q,rfl,hX,hsb,uh,Em⟩:=hx1;split at h;rename_i cs W5;rw[W5]at uh;simp only at uh;cases hc:(cs.all (AC.BX (G2 cs))&&xs.all (FC st))with
 |false=>rw[hc]at h;cases h
 |true=>
  rw[hc]at h;simp only[af]at h;cases gW:(Γ k).fn (.val true (cs.map AC.WT)::xs.map (Eu st))with
  |none=>rw[gW]at h;cases h
  |some y=>
   rw[gW]at h;simp only[aa]at h;cases hc2:(((Γ k).back y).all (AC.BX true)&&((Γ k).av y).afj)with
   |false=>rw[hc2]at h;cases h
   |true=>
    rw[hc2]at h;simp only[af,hcur,uh,du,br]at h;subst h;refine⟨⟨o.dst.toList.map λd=>(d,((Γ k).av y).G3 st.ep (st.jz o.dst)),some (s,rV (G2 cs) (λ_=>none) 0 ((Γ k).back y)),o.dst⟩,⟨λx hx=>?_,λb hb=>?_,λd hd=>hd⟩,?_,λst2 ha=>?_⟩;simp only[dZ]at hx;obtain⟨d,hd,rfl⟩:=hx;simp[writes,hd];cases hb;simp[It,ho,gN,hsb];unfold MC.apply AS.put AS.gD AS.fQ;cases o.dst<;>rfl;have e1:st2.rd f=st.rd f:=ha.rd (λt ht=>by simp[eK,ho,ht]);have hl:∀x∈Operand.tmp q::xs,∀t∈tm x,t∈eK o:=by intro x hx t ht;simp only[eK,ho,aB,Tq,List.mem_flatMap,gN];exact .inr ⟨x,hx,ht⟩
    have e2:st2.rd (.tmp q)=st.rd (.tmp q):=ha.rd (hl _ (by simp));have e3:nth st2.boxes s=nth st.boxes s:=ha.box s hX;have e4:∀x∈xs,Eu st2 x=Eu st x/\FC st2 x=FC st x:=λx hx=>abv (aO.1 Em x hx) ha.er λt ht=>ha.get t (hl x (by simp[hx]) t ht);have e5:xs.map (Eu st2)=xs.map (Eu st):=List.map_congr_left λx hx=>(e4 x hx).1;have e6:xs.all (FC st2)=xs.all (FC st):=by rw[gx];simp only[aO];exact⟨λg x hx=>by rw[<-(e4 x hx).2];exact g x hx,λg x hx=>by rw[(e4 x hx).2];exact g x hx⟩
    simp only[dM,ho,G4,e1,hf,lB,af,xL,gN,e2,hx0,e3,W5,e5,e6,hc,gW,aa,hc2,hcur,uh,du,ha.ep,ha.jz];unfold MC.apply AS.put AS.gD AS.fQ;cases o.dst<;>rfl
 cases h;cases h;cases h
theorem abG (D6:∀f,(Γ f).io=false/\((Γ f).bx=true->(Γ f).cur=true)/\(Γ f).pr=false)(ho:o.op=.call {callee:=.value f,args,argTypes:=ts})(iD:eo E an X o st=true)(h:G4 Γ o f args.toList st some=some cp):fB E Γ an X o st cp:=by
 have hr:∀st2,jf an X o st st2->st2.rd f=st.rd f/\(args.toList.map λx=>((st2.rd x).fresh st2).asArg st2.ep)=args.toList.map λx=>((st.rd x).fresh st).asArg st.ep:=by
  intro st2 ha;refine⟨ha.rd (λt ht=>by simp[eK,ho,ht]),?_⟩;apply List.map_congr_left;intro x hx;have HO:(st.rd x).now st.ep=true:=by simp only[eo,ho,ah,aO]at iD;exact iD.2 x hx
  rw[ha.rd (λt ht=>by simp only[eK,ho,aB,Tq,List.mem_flatMap];exact .inr ⟨x,hx,ht⟩),C0 HO,C0 (s:=st2) (by rw[ha.ep];exact HO),ha.ep]
 unfold G4 at h;split at h
 ·rename_i k hf
  cases lB:(Γ k).bx with
  |true=>rw[lB]at h;exact S7 ho iD hf lB ((D6 k).2.1 lB) h
  |false=>
  rw[lB,(D6 k).2.2,(D6 k).1]at h
  simp only[ae]at h
  cases hg:(Γ k).fn (args.toList.map λx=>((st.rd x).fresh st).asArg st.ep)with
  |none=>rw[hg]at h;cases h
  |some y=>
   rw[hg]at h
   simp only[aa]at h
   cases SX:(Γ k).sel y with
   |true=>
    rw[SX]at h
    cases h
    refine fB.new rfl λst2 ha=>?_
    simp only[dM,ho,G4,(hr st2 ha).1,hf,(D6 k).1,lB,(D6 k).2.2,ae]
    rw[(hr st2 ha).2,hg]
    simp only[aa,SX,af,ha.ep,ha.jz]
   |false=>
    rw[SX]at h
    cases h
    refine fB.new rfl λst2 ha=>?_
    simp only[dM,ho,G4,(hr st2 ha).1,hf,(D6 k).1,lB,(D6 k).2.2,ae]
    rw[(hr st2 ha).2,hg]
    simp only[aa,SX,ae,ha.ep,ha.jz]
 cases h
theorem S8 {src dst:TypeId}(ho:o.op=.convert src dst x)(h:nD E o src dst x st some=some cp):fB E Γ an X o st cp:=by
 have hr:∀st2,jf an X o st st2->st2.rd x=st.rd x:=λst2 ha=>ha.rd (λt ht=>by simpa[eK,ho]using ht);unfold nD at h;split at h;rename_i h1 h2 h3;cases h;refine fB.put rfl λst2 ha=>?_;simp only[dM,ho,nD,hr st2 ha,h1,h2,h3];rename_i h1 h2 h3;cases h;refine fB.put rfl λst2 ha=>?_;simp only[dM,ho,nD,hr st2 ha,h1,h2,h3];rename_i lE val s KJ h1 h2 h3;split at h;rename_i hb;unfold room at h;split at h;rename_i hrm;cases h;refine fB.new (v:=.one (.sl (.own (st.jz o.dst 0)) (.int .u8) (dW s))) rfl λst2 ha=>?_;have Kg:∀k:AS->aA AS,nD E o src dst x st2 k=if E.bytes dst then room s.length (k (st2.sC o.dst (.int .u8) (dW s))) else none:=by intro k;unfold nD;rw[hr st2 ha,h1,h2,h3];obtain⟨ag,ct,of⟩:=val;cases ag with|true=>rfl|false=>cases ct with|str=>exact(KJ _ rfl).elim|_=>rfl
 simp only[dM,ho];rw[Kg,aI hb,room,aI hrm,AS.sC,ha.jz];cases h;cases h;rename_i val lE fl xs h1 h2 h3;split at h;rename_i hb;cases h;refine fB.put rfl λst2 ha=>?_;have Kg:∀k:AS->aA AS,nD E o src dst x st2 k=if E.bytes src/\fl.live st2.ep then k (st2.put o.dst (.one (.str (aR xs)))) else none:=by intro k;unfold nD;rw[hr st2 ha,h1,h2,h3];obtain⟨ag,ct,of⟩:=val;cases ag with|true=>rfl|false=>cases ct<;>rfl
 simp only[dM,ho];rw[Kg,ha.ep,aI hb];cases h;cases h
theorem NR {d:Nat}{v:AV}:(⟨[(d,v)],some (d,cs),none⟩:MC).apply st=(st.fQ d (some cs)).put (some d) v:=rfl
theorem YN (ho:o.op=.alloc T)(h:F2 E o T st some=some cp):fB E Γ an X o st cp:=by unfold F2 at h;split at h;rename_i d sh hd hT;split at h;rename_i hb;cases h;refine⟨⟨[(d,.one (.ptr d 0))],some (d,cellsOf sh.ct (.own none) sh.ct.zero),none⟩,⟨λx hx=>?_,λb iq=>?_,λ_ hh=>by cases hh⟩,?_,λst2 ha=>?_⟩;simp only[bq]at hx;subst hx;simp[writes,hd];cases iq;simp[It,ho,hd];rw[NR,hd];simp only[dM,ho,F2,hd,hT,(ha.dst d hd).2,hb,NR];cases h;cases h
def qw (st:AS):Operand->ax (Nat×AV)
 | .tmp t=>[(t,(st.get t).bh st.ep)]
 |_=>[]
theorem E0 (l:ax AV)(a b:ax (Nat×AV)):lF l (a++b)=lF (lF l a) b:=by induction a generalizing l with|nil=>rfl|cons x a ih=>exact ih _
def AS.lQ (st:AS)(l:ax (Nat×AV)):AS:={st with slots:=lF st.slots l}
theorem tQ (a b:ax (Nat×AV)):st.lQ (a++b)=(st.lQ a).lQ b:=by simp only[AS.lQ,E0]
theorem FW (x:Operand):(st.take x).2=st.lQ (qw st x):=by cases x<;>rfl
theorem GR (BG:st2.ep=st.ep)(h:∀t∈tm x,st2.get t=st.get t):(st2.take x).1=(st.take x).1/\(st2.take x).2=st2.lQ (qw st x):=by cases x with|tmp t=>have:=h t (by simp[tm]);refine⟨this,?_⟩;rw[FW];simp only[qw,this,BG]|const v=>exact⟨rfl,rfl⟩|func f=>exact⟨rfl,rfl⟩|global g=>exact⟨rfl,rfl⟩
theorem Mu:∀y∈qw st x,y.1∈tm x:=by cases x<;>simp[qw,tm]
theorem abI (ho:o.op=.move x)(h:FF an o x st some=some cp):fB E Γ an X o st cp:=by
 unfold FF at h;cases hd:o.dst with
 |none=>rw[hd]at h;cases h
 |some d=>
  rw[hd]at h;cases hf:an.mv.contains d with
  |false=>simp only[hf,bm,cG]at h;cases h;refine fB.put (v:=st.rd x) (by rw[hd]) λst2 ha=>?_;have hr:st2.rd x=st.rd x:=ha.rd (λt ht=>by simpa[eK,ho]using ht);simp only[dM,ho,FF,hd,hf,bm,cG,hr]
  |true=>
   simp only[hf,cL]at h;cases h;have hr:∀st2,jf an X o st st2->(st2.take x).1=(st.take x).1/\(st2.take x).2=st2.lQ (qw st x):=λst2 ha=>GR ha.ep λt ht=>ha.get t (by simpa[eK,ho]using ht);refine⟨⟨qw st x++[(d,(st.take x).1)],none,none⟩,⟨λy hy=>?_,λ_ hh=>(by cases hh),λ_ hh=>(by cases hh)⟩,?_,λst2 ha=>?_⟩;rcases aB.1 hy with hy|hy;have:=Mu y hy;have hf':d∈an.mv:=by simpa using hf
   simp[writes,Iq,ho,hd,hf',eK,this];simp only[bq]at hy;subst hy;simp[writes,hd];rw[FW];show _=st.lQ _;rw[tQ];rfl;simp only[dM,ho,FF,hd,hf,cL,(hr st2 ha).1,(hr st2 ha).2];show some ((st2.lQ (qw st x)).put (some d) (st.take x).1)=some (st2.lQ _);rw[tQ];rfl
theorem XG {ep:Nat}(h:cs.all AC.kB=true):bh ep cs=cs:=by
 rw[aO]at h;unfold bh;have:cs.map (AC.borrow ep none)=cs.map id:=List.map_congr_left λc hc=>by have:=h c hc;cases c<;>first|rfl|(simp[AC.kB]at this)
 rw[this,List.map_id]
theorem akg {s:AS}{vs:ax (Bool×ax AC)}(h:s.get t=.yY vs):s.put (some t) (.yY vs)=s:=by cases s with|mk slots boxes ep iss io=>simp only[AS.put,AS.mk.injEq,jY];rw[gB];apply dB;intro i;rw[bO];split;rename_i hd;subst hd;simp only[AS.get,eV]at h;split;rename_i iA;rw[ay iA]at h⊢;simp only[gH]at h;rw[h];rename_i B0;rw[cd (Nat.le_of_not_lt B0)];rfl
theorem S9 {i:Nat}(ho:o.op=.extract (.tmp t) i)(iD:eo E an X o st=true)(h:nG o t i st some=some cp):fB E Γ an X o st cp:=by
 have hr:∀st2,jf an X o st st2->st2.get t=st.get t:=λst2 ha=>ha.get t (by simp[eK,ho]);unfold nG at h;simp only[eo,ho]at iD;split at h
 ·rename_i vs hv;rw[hv]at iD;split at h
  ·rename_i g cs hn;simp only[hn]at iD;have hfl:cs.all AC.kB=true\/∃d,o.dst=some d/\an.mv.contains d=true:=by cases hd:o.dst with|none=>simp only[hd,Bool.or_false]at iD;exact .inl iD|some d=>simp only[hd,dE]at iD;rcases iD with h|h;exact .inl h;exact .inr ⟨d,rfl,h⟩
   rcases hfl with iD|⟨d,hd,Hc⟩;rotate_left;cases h;refine⟨⟨[(t,.yY (jm vs i (g,bh 0 cs))),(d,.val g cs)],none,none⟩,⟨λx hx=>?_,(λ_ hb=>by cases hb),(λ_ hh=>by cases hh)⟩,?_,λst2 ha=>?_⟩;simp only[cy,List.not_mem_nil,or_false]at hx;rcases hx with rfl|rfl;simp only[writes,Iq,ho,hd,Hc,af,eK];simp;simp only[writes,hd];simp;rw[hd];rfl;have h2:st2.get t=.yY vs:=by rw[hr st2 ha,hv]
   simp only[dM,ho,nG,h2,hn,hd];rfl;skip;have HP:jm vs i (g,cs)=vs:=by rw[gB];rw[eV]at hn;apply dB;intro k;rw[bO];split;rename_i hk;subst hk;obtain⟨hl,he⟩:=aD.1 hn;rw[aI hl,hn];rfl
   have key:∀s:AS,s.get t=.yY vs->(s.put (some t) (.yY (jm vs i (g,bh 0 cs))))=s:=λs hs=>by rw[XG iD,HP,akg hs]
   rw[key st hv]at h;cases h;refine fB.put rfl λst2 ha=>?_;have h2:st2.get t=.yY vs:=by rw[hr st2 ha,hv]
   simp only[dM,ho,nG,h2,hn];rw[key st2 h2]
  cases h
 cases h
def CP (st:AS):Operand->ax (Nat×AV)
 | .tmp t=>[(t,(st.get t).bh st.ep)]
 |_=>[]
theorem Sk (st:AS)(x:Operand):(st.take x).2=⟨lF st.slots (CP st x),st.boxes,st.ep,st.iss,st.io⟩:=by cases x<;>rfl
theorem YS {pp:Nat}(ho:o.op=.store T (.tmp pp) x)(hd:o.dst=none)(hm:pJ an o=true)(iD:eo E an X o st=true)(h:zY E T (.tmp pp) x st some=some cp):fB E Γ an X o st cp:=by
 have hr:∀st2,jf an X o st st2->st2.rd (.tmp pp)=st.rd (.tmp pp):=λst2 ha=>ha.rd (λt ht=>by simp only[eK,ho,aB];exact .inl ht);have hsb:(an.sb pp).isNone=false:=by simp only[pJ,ho,ah]at hm;cases hb:an.sb pp with|none=>rw[hb]at hm;cases hm.1|some _=>rfl
 simp only[eo,ho,hsb,iw,cM]at iD;unfold zY at h;split at h;rename_i sh s off hT hp;rw[hp]at iD;simp only[ah,aP,bD]at iD;split at h;rename_i gg vs st1 vF;have V6:(st.take x).1=.val gg vs:=by rw[vF]
 have HQ:st1=⟨lF st.slots (CP st x),st.boxes,st.ep,st.iss,st.io⟩:=by rw[<-Sk,vF]
 split at h;rename_i cs hb;split at h;rename_i hlen;split at h;rename_i iW;cases h;have lB:∀st2,jf an X o st st2->nth st2.boxes s=nth st.boxes s:=λst2 ha=>ha.box s iD.1;refine⟨⟨CP st x,some (s,fC cs off vs),none⟩,⟨λy hy=>?_,λb iq=>?_,λ_ hh=>by cases hh⟩,?_,λst2 ha=>?_⟩;cases x with|tmp t=>simp only[CP,bq]at hy;subst hy;simp only[writes,Iq,ho,af,eK,hd];simp[tm]|_=>simp[CP]at hy
 cases iq;simp only[It,ho,iD.2];simp;rw[HQ];rfl;have hx2:(st2.take x).1=(st.take x).1/\CP st2 x=CP st x:=by cases x with|tmp t=>have hg:st2.get t=st.get t:=ha.get t (by simp[eK,ho,tm]);simp only[AS.take,CP,hg,ha.ep];simp|const v=>exact⟨rfl,rfl⟩|func f=>exact⟨rfl,rfl⟩|global g=>exact⟨rfl,rfl⟩
 have ht2:st2.take x=(.val gg vs,⟨lF st2.slots (CP st x),st2.boxes,st2.ep,st2.iss,st2.io⟩):=by rw[<-hx2.2,<-Sk,<-V6,<-hx2.1]
 have SB:(nth st2.boxes s).getD none=some cs:=by rw[lB st2 ha];rw[HQ]at hb;exact hb
 have Hb:DE an o=false:=by simp only[pJ,ho,ah,aP]at hm;exact hm.2
 simp only[dM,ho,hd,Hb,bm,cG,zY,hT,hr st2 ha,hp,ht2,SB,aI hlen,aI iW];rfl;cases h;cases h;cases h;cases h;rename_i r _ _ _ _ _ _ hp;rw[hp]at iD;cases r<;>simp at iD;cases h
theorem Wn (ho:o.op=.assign x)(hm:pJ an o=true)(h:xK E an o x st some=some cp):fB E Γ an X o st cp:=by
 have hr:∀st2,jf an X o st st2->(st2.take x).1=(st.take x).1/\(st2.take x).2=st2.lQ (qw st x):=λst2 ha=>GR ha.ep λt ht=>ha.get t (by simpa[eK,ho]using ht);have Hb:DE an o=false:=by simpa[pJ,ho]using hm
 unfold xK at h;split at h;rename_i st1 vF;split at h;rename_i e hT;cases h;refine fB.put rfl λst2 ha=>?_;have h2:st2.take x=(.val false [.kS],st2.lQ (qw st x)):=Prod.ext (by rw[(hr st2 ha).1,vF]) (hr st2 ha).2;simp only[dM,ho,xK,Hb,bm,cG,h2,hT];cases h;rename_i v st1 KJ vF;cases h;have HQ:st1=st.lQ (qw st x):=by rw[<-FW,vF]
 refine⟨⟨qw st x++o.dst.toList.map λd=>(d,v),none,none⟩,⟨λy hy=>?_,λ_ hh=>(by cases hh),λ_ hh=>(by cases hh)⟩,?_,λst2 ha=>?_⟩;rcases aB.1 hy with hy|hy;have:=Mu y hy;simp[writes,Iq,ho,eK,this];obtain⟨d,hd,rfl⟩:=dZ.1 hy;simp[writes,hd];rw[HQ];show _=st.lQ _;rw[tQ];cases o.dst<;>rfl;have h2:st2.take x=(v,st2.lQ (qw st x)):=Prod.ext (by rw[(hr st2 ha).1,vF]) (hr st2 ha).2;simp only[dM,ho,xK,Hb,bm,cG,h2];show some ((st2.lQ (qw st x)).put o.dst v)=some (st2.lQ _);rw[tQ];cases o.dst<;>rfl
theorem kT {α:Type}(l:ax α)(i:Nat)(v:α)(t:Nat):nth (jm l i v) t=if i=t then(if i<l.length then some v else none) else nth l t:=by rw[eV,gB,eV,bO]
theorem RK (l:ax AV)(a:ax (Nat×AV)):(lF l a).length=l.length:=by induction a generalizing l with|nil=>rfl|cons x a ih=>rw[lF,ih,gB,aL]
theorem abV {l l2:ax AV}(a:ax (Nat×AV))(hl:l2.length=l.length)(t:Nat)(h:nth l2 t=nth l t):nth (lF l2 a) t=nth (lF l a) t:=by induction a generalizing l l2 with|nil=>exact h|cons x a ih=>refine ih (by rw[gB,gB,aL,aL,hl]) ?_;rw[kT,kT,hl,h]
theorem abN (h:st2.get t=st.get t)(hl:st2.slots.length=st.slots.length):nth st2.slots t=nth st.slots t:=by unfold AS.get at h;rw[eV,eV]at h⊢;rcases ca t st.slots.length with iA|B0;rw[ay iA,ay (by omega)]at h⊢;simpa using h;rw[cd B0,cd (by omega)]
def ly (st:AS):ax Operand->ax (Nat×AV)
 |[]=>[]
 |x::xs=>qw st x++ly (st.lQ (qw st x)) xs
theorem DZ:∀(xs:ax Operand)(st:AS),∀y∈ly st xs,y.1∈Tq xs
 |[],_,y,hy=>by cases hy
 |x::xs,st,y,hy=>by simp only[Tq,List.flatMap_cons,aB];rcases aB.1 hy with hy|hy;exact .inl (Mu y hy);exact .inr (DZ xs _ y hy)
theorem E4:∀(xs:ax Operand)(st st2:AS),st2.ep=st.ep->st2.slots.length=st.slots.length->(∀t∈Tq xs,nth st2.slots t=nth st.slots t)->
 (fV st2 xs).1=(fV st xs).1/\(fV st2 xs).2=st2.lQ (ly st xs)
 |[],st,st2,_,_,_=>⟨rfl,rfl⟩
 |x::xs,st,st2,BG,hl,hg=>by
  have hx:∀t∈tm x,st2.get t=st.get t:=λt ht=>by unfold AS.get;rw[hg t (by simp[Tq,ht])]
  obtain⟨h1,h2⟩:=GR (st:=st) (st2:=st2) BG hx;have h3:=FW (st:=st) x;obtain⟨k1,k2⟩:=E4 xs (st.lQ (qw st x)) (st2.lQ (qw st x)) BG (by simp only[AS.lQ,RK,hl]) (λt ht=>abV _ hl t (hg t (by simp only[Tq,List.flatMap_cons,aB];exact .inr ht)));have e1:fV st (x::xs)=((st.take x).1::(fV (st.take x).2 xs).1,(fV (st.take x).2 xs).2):=rfl;have e2:fV st2 (x::xs)=((st2.take x).1::(fV (st2.take x).2 xs).1,(fV (st2.take x).2 xs).2):=rfl;rw[e1,e2,h1,h2,h3];refine⟨by rw[k1],?_⟩;show(fV (st2.lQ (qw st x)) xs).2=_;rw[k2,ly,tQ]
theorem GQ (xs:ax Operand):(fV st xs).2=st.lQ (ly st xs):=(E4 xs st st rfl rfl (λ_ _=>rfl)).2
theorem jf.fV (ha:jf an X o st st2){xs:ax Operand}(hx:∀t∈Tq xs,t∈eK o):(fV st2 xs).1=(Dn.fV st xs).1/\(Dn.fV st2 xs).2=st2.lQ (ly st xs):=E4 xs st st2 ha.ep ha.len λt ht=>abN (ha.get t (hx t ht)) ha.len
theorem YO (ho:o.op=.build T parts)(h:EO E o T parts.toList st some=some cp):fB E Γ an X o st cp:=by
 have hl:∀t∈Tq (parts.toList.map (·.2)),t∈eK o:=λt ht=>by simp only[eK,ho];exact ht
 unfold EO at h;split at h;rename_i ct lE hT;split at h;rename_i vs st1 vF;have HQ:st1=st.lQ (ly st (parts.toList.map (·.2))):=by rw[<-GQ,vF]
 split at h;rename_i cs hb;cases h;refine⟨⟨ly st (parts.toList.map (·.2))++o.dst.toList.map λd=>(d,.val true cs),none,none⟩,⟨λy hy=>?_,λ_ hh=>(by cases hh),λ_ hh=>(by cases hh)⟩,?_,λst2 ha=>?_⟩;rcases aB.1 hy with hy|hy;have:=hl _ (DZ _ _ y hy);simp[writes,Iq,ho,this];obtain⟨d,hd,rfl⟩:=dZ.1 hy;simp[writes,hd];rw[HQ];show _=st.lQ _;rw[tQ];cases o.dst<;>rfl;obtain⟨k1,k2⟩:=ha.fV hl;have h2:fV st2 (parts.toList.map (·.2))=(vs,st2.lQ (ly st (parts.toList.map (·.2)))):=Prod.ext (by rw[k1,vF]) k2;simp only[dM,ho,EO,hT,h2,hb];show some ((st2.lQ _).put o.dst _)=some (st2.lQ _);rw[tQ];cases o.dst<;>rfl;cases h;cases h
theorem fB.ame {v:AV}(ht:Iq an o=true)(hl:∀y∈tl,y.1∈eK o)(h:cp=((st.lQ tl).gD o.dst).put o.dst v)(h2:∀st2,jf an X o st st2->dM E Γ an o st2 some=some (((st2.lQ tl).gD o.dst).put o.dst v)):fB E Γ an X o st cp:=by
 have key:∀s:AS,(⟨tl++o.dst.toList.map λd=>(d,v),none,o.dst⟩:MC).apply s=((s.lQ tl).gD o.dst).put o.dst v:=by intro s;cases o.dst with|none=>simp only[MC.apply,Option.toList,List.map_nil,bg,AS.lQ,AS.gD,AS.put]|some d=>simp only[MC.apply,Option.toList,fb,List.map_nil,E0,AS.lQ,AS.gD,AS.put,lF]
 refine⟨⟨tl++o.dst.toList.map λd=>(d,v),none,o.dst⟩,⟨λy hy=>?_,λ_ hh=>(by cases hh),λd hh=>hh⟩,by rw[key];exact h,λst2 ha=>by rw[key];exact h2 st2 ha⟩;rcases aB.1 hy with hy|hy;simp[writes,ht,hl y hy];obtain⟨d,hd,rfl⟩:=dZ.1 hy;simp[writes,hd]
theorem C7 {d:aA Nat}:(st.lQ tl).jz d=st.jz d:=rfl
theorem Nl {len:Nat}(ho:o.op=.buildSlice T len parts)(h:nC E o T len parts.toList st some=some cp):fB E Γ an X o st cp:=by
 have hl:∀t∈Tq (parts.toList.map (·.2)),t∈eK o:=λt ht=>by simp only[eK,ho];exact ht
 unfold nC at h;split at h;rename_i e hT;split at h;rename_i hc;split at h;rename_i vs st1 vF;have HQ:st1=st.lQ (ly st (parts.toList.map (·.2))):=by rw[<-GQ,vF]
 split at h;rename_i xs hb;cases h;refine fB.ame (tl:=ly st (parts.toList.map (·.2))) (v:=.one (.sl (.own (st.jz o.dst 0)) e xs)) (by simp[Iq,ho]) (λy hy=>hl _ (DZ _ _ y hy)) ?_ λst2 ha=>?_;rw[HQ,AS.sC,C7];obtain⟨k1,k2⟩:=ha.fV hl;have h2:fV st2 (parts.toList.map (·.2))=(vs,st2.lQ (ly st (parts.toList.map (·.2)))):=Prod.ext (by rw[k1,vF]) k2;simp only[dM,ho,nC,hT,h2,hb,aI hc];rw[AS.sC,C7,ha.jz];cases h;cases h;cases h
theorem O4 {n c:Operand}(ho:o.op=.makeSlice T n c)(h:qJ E o T n c st some=some cp):fB E Γ an X o st cp:=by
 have hr:∀st2,jf an X o st st2->st2.rd n=st.rd n/\st2.rd c=st.rd c:=λst2 ha=>
  ⟨ha.rd (λt ht=>by simp[eK,ho,ht]),ha.rd (λt ht=>by simp[eK,ho,ht])⟩
 unfold qJ at h;split at h;rename_i e len cap hT hn hc;split at h;rename_i hlc;unfold room at h;split at h;rename_i hrm;cases h;refine fB.new (v:=.one (.sl (.own (st.jz o.dst 0)) e (List.replicate len.toNat e.zero))) rfl λst2 ha=>?_;simp only[dM,ho,qJ,(hr st2 ha).1,(hr st2 ha).2,hT,hn,hc,aI hlc,room,aI hrm,AS.sC,ha.jz];cases h;cases h;cases h
theorem Wm (ho:o.op=.call {callee:=.builtin .append,args,argTypes:=ts})(h:Af E o ts.toList args.toList st some=some cp):fB E Γ an X o st cp:=by
 have hlk:∀t∈Tq args.toList,t∈eK o:=λt ht=>by simp only[eK,ho];exact ht
 unfold Af at h;split at h;rename_i t t' s x wx gN;have hl:∀u∈Tq [s,x],u∈eK o:=by rw[<-gN];exact hlk
 have akQ:∀st2,jf an X o st st2->(st2.take s).1=(st.take s).1/\((st2.take s).2.take x).1=((st.take s).2.take x).1/\((st2.take s).2.take x).2=st2.lQ (ly st [s,x]):=by intro st2 ha;obtain⟨k1,k2⟩:=ha.fV hl;simp only[Dn.fV,List.cons.injEq,jY]at k1 k2;exact⟨k1.1,k1.2,k2⟩
 have Em:((st.take s).2.take x).2=st.lQ (ly st [s,x]):=GQ (st:=st) [s,x];split at h;rename_i tag e xs st1 V6;split at h;rename_i fl e' ys amc Lb;split at h;rename_i he;subst he;split at h;rename_i hc;unfold room at h;split at h;rename_i hrm;cases h;have HQ:(st.take s).2=st1:=by rw[V6]
 have V5:amc=st.lQ (ly st [s,x]):=by rw[<-Em,HQ,Lb]
 refine fB.ame (tl:=ly st [s,x]) (v:=.one (.sl (.own (st.jz o.dst 0)) e' (xs++ys))) (by simp[Iq,ho]) (λy hy=>hl _ (DZ _ _ y hy)) ?_ λst2 ha=>?_;rw[V5,AS.sC,C7];obtain⟨k1,k2,k3⟩:=akQ st2 ha;have e1:st2.take s=(.val false [.sl (.own tag) e' xs],(st2.take s).2):=Prod.ext (by rw[k1,V6]) rfl;have e2:(st2.take s).2.take x=(.val false [.sl fl e' ys],st2.lQ (ly st [s,x])):=Prod.ext (by rw[k2,HQ,Lb]) k3;simp only[dM,ho,Af,wx,gN];rw[e1];simp only;rw[e2];simp only[dite_true,ha.ep,aI hc,room,aI hrm,AS.sC,C7,ha.jz];cases h;cases h;cases h;rename_i sx amc Lb;split at h;rename_i he;subst he;split at h;rename_i hc;unfold room at h;split at h;rename_i hrm;cases h;have HQ:(st.take s).2=st1:=by rw[V6]
 have V5:amc=st.lQ (ly st [s,x]):=by rw[<-Em,HQ,Lb]
 refine fB.ame (tl:=ly st [s,x]) (v:=.one (.sl (.own (st.jz o.dst 0)) (.int .u8) (xs++dW sx))) (by simp[Iq,ho]) (λy hy=>hl _ (DZ _ _ y hy)) ?_ λst2 ha=>?_;rw[V5,AS.sC,C7];obtain⟨k1,k2,k3⟩:=akQ st2 ha;have e1:st2.take s=(.val false [.sl (.own tag) (.int .u8) xs],(st2.take s).2):=Prod.ext (by rw[k1,V6]) rfl;have e2:(st2.take s).2.take x=(.val false [.str sx],st2.lQ (ly st [s,x])):=Prod.ext (by rw[k2,HQ,Lb]) k3;simp only[dM,ho,Af,wx,gN];rw[e1];simp only;rw[e2];simp only[dite_true,aI hc,room,aI hrm,AS.sC,C7,ha.jz];cases h;cases h;cases h;cases h;cases h;cases h
theorem afc (ho:o.op=.box T x)(h:Vy o x st some=some cp):fB E Γ an X o st cp:=by
 have hr:∀st2,jf an X o st st2->(st2.take x).1=(st.take x).1/\(st2.take x).2=st2.lQ (qw st x):=λst2 ha=>GR ha.ep λt ht=>ha.get t (by simpa[eK,ho]using ht);unfold Vy at h;split at h;rename_i d g cs st1 hd vF;have HQ:st1=st.lQ (qw st x):=by rw[<-FW,vF]
 split at h;rename_i hb;split at h;rename_i hs;cases h;have W5:nth st.boxes d=some none:=by rw[HQ]at hb;exact hb
 have key:∀s:AS,(⟨qw st x++[(d,.one (.ptr d 0))],some (d,cs),none⟩:MC).apply s=((s.lQ (qw st x)).fQ d (some cs)).put (some d) (.one (.ptr d 0)):=by intro s;simp only[MC.apply,E0,AS.lQ,AS.fQ,AS.put,lF]
 refine⟨⟨qw st x++[(d,.one (.ptr d 0))],some (d,cs),none⟩,⟨λy hy=>?_,λb iq=>?_,λ_ hh=>(by cases hh)⟩,?_,λst2 ha=>?_⟩;rcases aB.1 hy with hy|hy;have:=Mu y hy;simp[writes,Iq,ho,eK,this];simp only[bq]at hy;subst hy;simp[writes,hd];cases iq;simp[It,ho,hd];rw[key,HQ,hd];have h2:st2.take x=(.val g cs,st2.lQ (qw st x)):=Prod.ext (by rw[(hr st2 ha).1,vF]) (hr st2 ha).2;have SB:nth (st2.lQ (qw st x)).boxes d=some none:=by show nth st2.boxes d=_;rw[(ha.dst d hd).2];exact W5
 simp only[dM,ho,Vy,hd,h2,SB,aI hs,key];cases h;cases h;cases h
theorem Sd (D6:∀f,(Γ f).io=false/\((Γ f).bx=true->(Γ f).cur=true)/\(Γ f).pr=false)(hm:pJ an o=true)(iD:eo E an X o st=true)(h:dM E Γ an o st some=some cp):fB E Γ an X o st cp:=by
 have h0:=h;unfold dM at h;split at h;rename_i ho;exact abI ho h;rename_i ho;have Hb:DE an o=false:=by simpa[pJ,ho]using hm
 rw[aK (by simp[Hb])]at h;exact Wn ho hm h;rename_i ho;exact abJ ho h;rename_i ho;exact YN ho h;rename_i ho;exact afc ho h;rename_i ho;exact abH ho hm iD h;rename_i T p x ho;split at h;rename_i hd;cases p with
 |tmp pp=>
  have Hb:DE an o=false:=by simp only[pJ,ho,ah,aP]at hm;exact hm.2
  rw[aK (by simp[Hb])]at h;exact YS ho hd hm iD h
 |const v=>simp[pJ,ho]at hm
 |func f=>simp[pJ,ho]at hm
 |global g=>simp[pJ,ho]at hm
 cases h;rename_i ho;exact Ro ho h0;rename_i ho;exact afb ho h;rename_i ho;exact aic ho h;rename_i ho;exact YP ho h;rename_i ho;exact O3 ho iD h;rename_i ho;exact YQ ho h;rename_i ho;exact YO ho h;rename_i ho;exact Nl ho h;rename_i ho;exact O4 ho h;rename_i ho;exact YR ho hm iD h;rename_i ho;simp[pJ,ho]at hm;rename_i ho;simp[pJ,ho]at hm;rename_i ho;exact S8 ho h;rename_i ho;exact S9 ho iD h;rename_i ho;exact afd ho h;rename_i ho;exact aff ho h;rename_i ho;exact afe ho h;rename_i ho;exact Wm ho h;rename_i ho;exact abG D6 ho iD h;cases h
end Go.Dn
