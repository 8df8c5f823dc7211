import Derived.Test.YtbebkmajekhclaaGreatDnMask
/- What an operation looks at and what it turns: for regions whose order is drawn. -/
namespace Go.Dn
structure L0 where
 slots:List (Nat×AV):=[]
 box:Option (Nat×List AC):=none
 iss:Option Nat:=none
def lu (l:aw AV):aw (Nat×AV)->aw AV
 |[]=>l
 |x::r=>lu (ji l x.1 x.2) r
def L0.apply (u:L0)(st:AS):AS:=
 ⟨lu st.slots u.slots,(match u.box with|some b=>ji st.boxes b.1 (some b.2)|none=>st.boxes),st.ep,(match u.iss with|some d=>ji st.iss d true|none=>st.iss),st.io⟩
structure iX (an:An) (X:List Nat) (o:Oper) (st st2:AS):Prop where
 len:st2.slots.length=st.slots.length
 get:∀t∈eI o,st2.get t=st.get t
 ep:st2.ep=st.ep
 dst:∀d,o.dst=some d->nth st2.iss d=nth st.iss d/\nth st2.boxes d=nth st.boxes d
 box:∀s,X.contains s=false->nth st2.boxes s=nth st.boxes s
 er:∀t∈erS an o,st2.get t=st.get t
structure L0.Jg (an:An) (u:L0) (o:Oper):Prop where
 slots:∀x∈u.slots,x.1∈writes an o
 box:∀b,u.box=some b->b.1∈HB an o
 iss:∀d,u.iss=some d->o.dst=some d
variable {E:Env} {Γ:Cn} {an:An} {X:fM} {o:Oper} {st st2 cj:AS}
variable {v:AV} {parts:Array (Nat×Operand)} {args:Array Operand} {ts:Array TypeId} {t:Nat} {f p x:Operand} {T:TypeId} {tl:aw (Nat×AV)} {cs:aw AC}
theorem alQ (AY:st2.ep=st.ep)(h:∀t∈tm x,st2.get t=st.get t):st2.rd x=st.rd x:=by cases x with|tmp t=>simp only[AS.rd,AY,h t (by simp[tm])]|const v=>rfl|func f=>rfl|global g=>rfl
def ft (E:Env)(Γ:Cn)(an:An)(X:fM)(o:Oper)(st cj:AS):Prop:=
 ∃u:L0,u.Jg an o/\cj=u.apply st/\∀st2,iX an X o st st2->dp E Γ an o st2 some=some (u.apply st2)
def FO (o:Oper)(v:AV):L0:={slots:=o.dst.toList.map λd=>(d,v)}
theorem uK (v:AV):(FO o v).apply st=st.put o.dst v:=by unfold FO L0.apply AS.put;cases o.dst<;>rfl
theorem El (v:AV):(FO o v).Jg an o:=by refine⟨λx hx=>?_,λb hb=>by simp[FO]at hb,λd hd=>by simp[FO]at hd⟩;simp only[FO,dB]at hx;obtain⟨d,hd,rfl⟩:=hx;simp[writes,hd]
def JY (o:Oper)(v:AV):L0:={slots:=o.dst.toList.map λd=>(d,v),iss:=o.dst}
theorem LV (v:AV):(JY o v).apply st=(st.gJ o.dst).put o.dst v:=by unfold JY L0.apply AS.put AS.gJ;cases o.dst<;>rfl
theorem TH (v:AV):(JY o v).Jg an o:=by refine⟨λx hx=>?_,λb hb=>by simp[JY]at hb,λd hd=>by simpa[JY]using hd⟩;simp only[JY,dB]at hx;obtain⟨d,hd,rfl⟩:=hx;simp[writes,hd]
theorem ft.put (h:cj=st.put o.dst v)(h2:∀st2,iX an X o st st2->dp E Γ an o st2 some=some (st2.put o.dst v)):ft E Γ an X o st cj:=⟨FO o v,El v,by rw[uK];exact h,λst2 ha=>by rw[uK];exact h2 st2 ha⟩
theorem iX.rd (ha:iX an X o st st2)(hx:∀t∈tm x,t∈eI o):st2.rd x=st.rd x:=alQ ha.ep λt ht=>ha.get t (hx t ht)
theorem adT {c y:Operand}(ho:o.op=.pick c x y)(h:Hd o c x y st some=some cj):ft E Γ an X o st cj:=by
 have hr:∀st2,iX an X o st st2->st2.rd c=st.rd c/\st2.rd x=st.rd x/\st2.rd y=st.rd y:=λst2 ha=>
  ⟨ha.rd (λt ht=>by simp[eI,ho,ht]),ha.rd (λt ht=>by simp[eI,ho,ht]),ha.rd (λt ht=>by simp[eI,ho,ht])⟩
 unfold Hd at h;split at h;rename_i t hc;split at h;rename_i a b hx hy;cases h;refine ft.put rfl λst2 ha=>?_;obtain⟨h1,h2,h3⟩:=hr st2 ha;simp only[dp,ho,Hd,h1,h2,h3,hc,hx,hy];rename_i va vb H0;have hgo:∀st2,iX an X o st st2->dp E Γ an o st2 some=cond t (some (st2.put o.dst (st.rd x))) (some (st2.put o.dst (st.rd y))):=by intro st2 ha;obtain⟨h1,h2,h3⟩:=hr st2 ha;simp only[dp,ho,Hd,h1,h2,h3,hc]
 cases t with|true=>cases h;exact ft.put rfl λst2 ha=>hgo st2 ha|false=>cases h;exact ft.put rfl λst2 ha=>hgo st2 ha
 cases h
theorem Rm {d s:Nat}:(⟨[(d,v)],some (s,cs),none⟩:L0).apply st=(st.fO s (some cs)).put (some d) v:=rfl
theorem Vs {o:Oper}(h:Hu an o=true):∃T q d,o.op=.load T (.tmp q)/\o.dst=some d/\o.guard=none/\an.mv.contains d=true/\an.mb d=none:=by unfold Hu at h;split at h;rename_i T q d ho hd hg;simp only[ae,Option.isNone_iff_eq_none]at h;exact⟨T,q,d,ho,hd,hg,h.1.1,h.1.2⟩;cases h
def LS (st:AS)(b j t:Nat)(e:CT)(i:Int)(cs:aw AC)(ys:aw e.D):AS:=st.fO b (some (ji cs j (.sl (.gB (some t) i (some st.ep)) e ys)))
theorem So {q d:Nat}(ht:Hu an o=true)(ho:o.op=.load T (.tmp q))(hd:o.dst=some d)(F7:an.mv.contains d=true)(J3:an.mb d=none):(ei E an X o st=true/\rf E an o T (.tmp q) st some=some cj)↔ ∃(g:Bool)(e:CT)(lr:aw (Nat×Nat))(b j t Qb:Nat)(x:e.D)(i:Int)(cs:aw AC)(ys:aw e.D)(y:e.D),ko E.ty T=some ⟨g,e,lr⟩/\st.rd (.tmp q)=.val false [.D3 (.loc Qb (some (.box b j,t))) e x i 0]/\(nth st.boxes b).getD none=some cs/\nth cs j=some (.sl (.own (some t)) e ys)/\idx ys i=some y/\ X.contains b=false/\an.eb q=some b/\fmB an o=false/\cj=(LS st b j t e i cs ys).put (some d) (.val g (cellsOf e (.own none) y)):=by
 have vm:Hy an o=true:=by unfold Hy;rw[hd];simp only[F7,J3];rfl
 have NL:Ek an o=false:=by unfold Ek;split;rename_i Iu _;rw[hd]at Iu;cases Iu;rw[J3];simp;rfl
 have hnp:DK an o=false:=by unfold DK;split;rename_i Iu _;rw[hd]at Iu;cases Iu;rw[F7];rfl;rfl
 constructor;rintro⟨hf,h⟩;unfold rf at h;split at h;rename_i hp;simp only[ei,ho,hp,hd,F7,J3]at hf;simp at hf;rename_i sh fl e x i off hT hp;rw[aH vm]at h;simp only[ei,ho,hp,ht,NL,hnp,Bool.or_false,bE,aj,cJ,gQ,ae,aO]at hf;obtain⟨⟨J2,Pc⟩,hb⟩:=hf;unfold AK at h;split at h;rename_i Qb r t;cases r with
 |slot _ _=>cases hb
 |io _=>cases hb
 |box b j=>
  simp only[ae,bn,aO]at hb;split at h;rename_i t' e' ys hrg;split at h;rename_i he;subst he;split at h;rename_i hc;obtain⟨rfl,rfl,NJ⟩:=hc;obtain⟨g,ct,lr⟩:=sh;simp only at NJ;subst NJ;cases hi:idx ys i with|none=>simp only[hi,aa]at h;cases h|some y=>simp only[hi,aa]at h;cases h;simp only[AS.ga]at hrg;obtain⟨cs,Ml,hj⟩:=ba.1 hrg;refine⟨g,_,lr,b,j,_,Qb,x,i,cs,ys,y,hT,hp,Ml,hj,hi,hb.2,hb.1,Pc,?_⟩;simp only[AS.gq,Ml,hd];rfl
  cases h;cases h;cases h
 cases h;cases h;rintro⟨g,e,lr,b,j,t,Qb,x,i,cs,ys,y,hT,hp,Ml,hj,hi,hX,WH,Pc,rfl⟩;constructor;simp only[ei,ho,hp,ht,NL,hnp,Pc,hX,WH];simp;simp only[rf,hT,hp,vm,cw,AK,AS.ga,Ml,fF,hj,dite_true,and_self,hi,aa,AS.gq,hd];rfl
theorem aap (ht:Hu an o=true)(ho:o.op=.load T p)(iw:ei E an X o st=true)(h:rf E an o T p st some=some cj):ft E Γ an X o st cj:=by obtain⟨T',q,d,OQ,hd,hg,F7,J3⟩:=Vs ht;rw[ho]at OQ;cases OQ;obtain⟨g,e,lr,b,j,t,Qb,x,i,cs,ys,y,hT,hp,Ml,hj,hi,hX,WH,Pc,rfl⟩:=(So ht ho hd F7 J3).1 ⟨iw,h⟩;refine⟨⟨[(d,.val g (cellsOf e (.own none) y))],some (b,ji cs j (.sl (.gB (some t) i (some st.ep)) e ys)),none⟩,⟨λx hx=>?_,λb' iy=>?_,λ_ hh=>by cases hh⟩,rfl,λst2 ha=>?_⟩;simp only[br]at hx;subst hx;simp[writes,hd];cases iy;simp only[HB,ho,hd,F7,ah,ht,WH];simp;have h2:=((So (E:=E) (X:=X) (st:=st2) ht ho hd F7 J3).2 ⟨g,e,lr,b,j,t,Qb,x,i,cs,ys,y,hT,by rw[ha.rd (λt ht=>by simpa[eI,ho]using ht)];exact hp,by rw[ha.box b hX];exact Ml,hj,hi,hX,WH,Pc,rfl⟩).2;simp only[dp,ho];rw[h2];simp only[LS,ha.ep];rfl
theorem adR (ho:o.op=.load T p)(hm:pF an o=true)(iw:ei E an X o st=true)(h:rf E an o T p st some=some cj):ft E Γ an X o st cj:=by
 cases hE:Hu an o with|true=>exact aap hE ho iw h|false=> ?_
 have hr:∀st2,iX an X o st st2->st2.rd p=st.rd p:=λst2 ha=>ha.rd (λt ht=>by simpa[eI,ho]using ht);have vm:Hy an o=false:=by simp only[pF,ho,hE,Bool.or_false]at hm;unfold Hy;cases WG:o.dst with|none=>rfl|some d=>rw[WG]at hm;simp only[cY,aO]at hm;rcases hm with hm|hm;simp only[hm,eo];cases J3:an.mb d with|none=>rw[J3]at hm;cases hm|some _=>simp[J3]
 unfold rf at h;split at h;rename_i sh s off hT hp;simp only[ei,ho,hp,ae,aO]at iw;split at h;rename_i cs hb;split at h;rename_i iO;split at h;rename_i d hd;have lj:∀st2,iX an X o st st2->nth st2.boxes s=nth st.boxes s:=λst2 ha=>ha.box s iw.1.1;cases hf:an.mv.contains d with
 |false=>simp only[hf,bm,cC]at h;cases h;refine ft.put (by rw[hd]) λst2 ha=>?_;simp only[dp,ho,rf,hT,hr st2 ha,hp,lj st2 ha,hb,aH iO,hd,hf,bm,cC,ha.ep]
 |true=>
  simp only[hf,cw]at h;have J3:an.mb d=some s:=by have:=iw.1.2;rw[hd]at this;simp only[hf,aj,cJ,bn]at this;exact this
  cases h;refine⟨⟨[(d,.val sh.agg ((cs.drop off).take sh.ct.size))],some (s,fu cs off (bg st.ep ((cs.drop off).take sh.ct.size))),none⟩,⟨λx hx=>?_,λb iy=>?_,λ_ hh=>by cases hh⟩,?_,λst2 ha=>?_⟩;simp only[br]at hx;subst hx;simp[writes,hd];cases iy;simp only[HB,ho,hd,hf,ah,J3];simp;rw[Rm,hd];simp only[dp,ho,rf,hT,hr st2 ha,hp,lj st2 ha,hb,aH iO,hd,hf,cw,ha.ep,Rm]
 cases h;cases h;cases h;rename_i sh fl e x i off hT hp;rw[aG (by simp[vm])]at h;split at h;rename_i hl;split at h;rename_i iO;cases h;refine ft.put rfl λst2 ha=>?_;simp only[dp,ho,rf,hT,hr st2 ha,hp,ha.ep,vm,bm,cC,aH hl,aH iO];cases h;rename_i hl;have IJ:∀r t Qb,fl=.loc Qb (some (r,t))->∀st2,iX an X o st st2->st2.ga r=st.ga r:=by rintro r t Qb rfl st2 ha;simp only[ei,ho,hp,hE,bE,je,gQ,ae,cY]at iw;rcases iw.1.1 with hq|hq;exact absurd hq hl;cases r with|slot b j=>simp only[AS.ga];rw[ha.er b (by simpa using hq)]|box b j=>simp only[AS.ga];rw[ha.box b (by simpa using hq)]|io j=>cases hq
 unfold FD at h;split at h;rename_i Qb r t;split at h;rename_i t' e' ys hrg;split at h;rename_i he;split at h;rename_i hc;cases hi:idx (he▸ys:List _) i with|none=>rw[hi]at h;cases h|some y=>rw[hi]at h;simp only[aa]at h;cases h;refine ft.put rfl λst2 ha=>?_;simp only[dp,ho,rf,hT,hr st2 ha,hp,ha.ep,vm,bm,cC,aG hl,FD,IJ _ _ _ rfl st2 ha,hrg,dif_pos he,aH hc,hi,aa]
 cases h;cases h;cases h;cases h;cases h
theorem Rq (ho:o.op=.nilCheck x)(h:dp E Γ an o st some=some cj):ft E Γ an X o st cj:=by have hr:∀st2,iX an X o st st2->st2.rd x=st.rd x:=λst2 ha=>ha.rd (λt ht=>by simpa[eI,ho]using ht);simp only[dp,ho]at h;split at h;rename_i s off hx;cases h;refine ft.put rfl λst2 ha=>?_;simp only[dp,ho,hr st2 ha,hx];rename_i fl e y i off hx;cases h;refine ft.put rfl λst2 ha=>?_;simp only[dp,ho,hr st2 ha,hx];cases h
theorem Sv {op:BinOp}{x y:AV}(h:(Iq op x y λc=>some (st.put o.dst (.one c)))=some cj):∃v,cj=st.put o.dst v/\∀st2:AS,(Iq op x y λc=>some (st2.put o.dst (.one c)))=some (st2.put o.dst v):=by have key:∀s:AS,(Iq op x y λc=>some (s.put o.dst (.one c)))=(Iq op x y some).bind λc=>some (s.put o.dst (.one c)):=λs=>(HJ op x y some _).symm;rw[key st]at h;cases hb:Iq op x y some with|none=>rw[hb]at h;cases h|some c=>rw[hb]at h;cases h;exact⟨_,rfl,λst2=>by rw[key st2,hb];rfl⟩
theorem Vy {op:BinOp}{b:Bool}(h:(F3 op b λc=>some (st.put o.dst (.one c)))=some cj):∃v,cj=st.put o.dst v/\∀st2:AS,(F3 op b λc=>some (st2.put o.dst (.one c)))=some (st2.put o.dst v):=by unfold F3 at h;split at h;cases h;exact⟨_,rfl,λst2=>rfl⟩;cases h;exact⟨_,rfl,λst2=>rfl⟩;cases h
theorem ahS {op:BinOp}{T':TypeId}{y:Operand}(ho:o.op=.binOp op T x y T')(h:Dm E o op T x y st some=some cj):ft E Γ an X o st cj:=by
 have hr:∀st2,iX an X o st st2->st2.rd x=st.rd x/\st2.rd y=st.rd y:=λst2 ha=>
  ⟨ha.rd (λt ht=>by simp[eI,ho,ht]),ha.rd (λt ht=>by simp[eI,ho,ht])⟩
 unfold Dm at h;split at h;rename_i a b hx hy;split at h;rename_i hT;obtain⟨v,rfl,hv⟩:=Sv h;refine ft.put rfl λst2 ha=>?_;simp only[dp,ho,Dm,(hr st2 ha).1,(hr st2 ha).2,hx,hy,aH hT];exact hv st2;cases h;rename_i xs ys hx hy;split at h;rename_i ls hq;split at h;rename_i iO;obtain⟨v,rfl,hv⟩:=Sv h;refine ft.put rfl λst2 ha=>?_;simp only[dp,ho,Dm,(hr st2 ha).1,(hr st2 ha).2,hx,hy,hq,aH iO];exact hv st2;cases h;cases h;rename_i fl e xs hx hy;split at h;rename_i hT;split at h;cases h;rename_i hlen;obtain⟨v,rfl,hv⟩:=Vy h;refine ft.put rfl λst2 ha=>?_;simp only[dp,ho,Dm,(hr st2 ha).1,(hr st2 ha).2,hx,hy,ha.ep,aH hT,aG hlen];exact hv st2;cases h;rename_i hx hy;split at h;rename_i hT;obtain⟨v,rfl,hv⟩:=Vy h;refine ft.put rfl λst2 ha=>?_;simp only[dp,ho,Dm,(hr st2 ha).1,(hr st2 ha).2,hx,hy,aH hT];exact hv st2;cases h;rename_i a b J4 EA hn3 hn4;obtain⟨v,rfl,hv⟩:=Sv h;refine ft.put rfl λst2 ha=>?_;simp only[dp,ho,Dm,(hr st2 ha).1,(hr st2 ha).2];exact hv st2
theorem alu {op:UnOp}(ho:o.op=.unOp op T x)(h:(unC op (st.rd x) λc=>some (st.put o.dst (.one c)))=some cj):ft E Γ an X o st cj:=by have hr:∀st2,iX an X o st st2->st2.rd x=st.rd x:=λst2 ha=>ha.rd (λt ht=>by simpa[eI,ho]using ht);have key:∀s:AS,(unC op (st.rd x) λc=>some (s.put o.dst (.one c)))=(unC op (st.rd x) some).bind λc=>some (s.put o.dst (.one c)):=λs=>(abu op (st.rd x) some _).symm;rw[key st]at h;cases hb:unC op (st.rd x) some with|none=>rw[hb]at h;cases h|some c=>rw[hb]at h;cases h;refine ft.put rfl λst2 ha=>?_;simp only[dp,ho,hr st2 ha];rw[key st2,hb];rfl
theorem aal {S:TypeId}{f:Nat}(ho:o.op=.fieldAddr S p f)(h:Cw E o S p f st some=some cj):ft E Γ an X o st cj:=by have hr:∀st2,iX an X o st st2->st2.rd p=st.rd p:=λst2 ha=>ha.rd (λt ht=>by simpa[eI,ho]using ht);unfold Cw at h;split at h;rename_i hT hp;split at h;rename_i hf;cases h;refine ft.put rfl λst2 ha=>?_;simp only[dp,ho,Cw,hr st2 ha,hT,hp,hf];cases h;rename_i hT hp;split at h;rename_i hf;cases h;refine ft.put rfl λst2 ha=>?_;simp only[dp,ho,Cw,hr st2 ha,hT,hp,hf];cases h;cases h
theorem Ce {s:AS}(h:v.now s.ep=true):v.fresh s=v:=by
 cases v with
 |yE vs=>rfl
 |val g cs=>
  simp only[AV.now,aF]at h;simp only[AV.fresh];congr 1;have:cs.map s.fresh=cs.map id:=List.map_congr_left λc hc=>by have hn:=h c hc;unfold AS.fresh;split;simp only[AC.now]at hn;rw[hn];rfl;rfl
  rw[this,List.map_id]
theorem YP {st st2:AS}(he:st2.ep=st.ep)(h:v.now st.ep=true\/∃g ep b j t e xs,v=.val g [.sl (.loc ep (some (.box b j,t))) e xs]/\nth st2.boxes b=nth st.boxes b):v.fresh st2=v.fresh st:=by rcases h with h|⟨g,ep,b,j,t,e,xs,rfl,hb⟩;rw[Ce h,Ce (by rw[he];exact h)];simp only[AV.fresh,dm,List.map_nil];congr 2;unfold AS.fresh;simp only[AS.ga,he,hb]
theorem OV {i:Operand}(ho:o.op=.indexAddr T x i)(iw:ei E an X o st=true)(h:om E o T x i st some=some cj):ft E Γ an X o st cj:=by
 have hr:∀st2,iX an X o st st2->st2.rd x=st.rd x/\st2.rd i=st.rd i:=λst2 ha=>
  ⟨ha.rd (λt ht=>by simp[eI,ho,ht]),ha.rd (λt ht=>by simp[eI,ho,ht])⟩
 have Dc:∀st2,iX an X o st st2->(st.rd x).fresh st2=(st.rd x).fresh st:=λst2 ha=>by refine YP ha.ep ?_;simp only[ei,ho,cY]at iw;rcases iw with hn|hn;exact .inl hn;split at hn;rename_i g ep b j t e xs hx;exact .inr ⟨g,ep,b,j,t,e,xs,hx,ha.box b (by simpa using hn)⟩;cases hn
 unfold om at h;split at h;rename_i e' fl e xs k n hT hx hi;split at h;rename_i hc;cases GP:idx xs n with|none=>rw[GP]at h;cases h|some y=>rw[GP]at h;cases h;refine ft.put rfl λst2 ha=>?_;have hf3:=Dc st2 ha;rw[hx]at hf3;simp only[dp,ho,om,(hr st2 ha).1,(hr st2 ha).2,hf3,hT,hi,ha.ep,aH hc,GP,aa]
 cases h;cases h
theorem aam {i:Operand}(ho:o.op=.index T x i)(h:Eb E o T x i st some=some cj):ft E Γ an X o st cj:=by
 have hr:∀st2,iX an X o st st2->st2.rd x=st.rd x/\st2.rd i=st.rd i:=λst2 ha=>
  ⟨ha.rd (λt ht=>by simp[eI,ho,ht]),ha.rd (λt ht=>by simp[eI,ho,ht])⟩
 unfold Eb at h;split at h;rename_i s k n hx hi;split at h;rename_i hc;cases GP:idx s n with|none=>rw[GP]at h;cases h|some y=>rw[GP]at h;cases h;refine ft.put rfl λst2 ha=>?_;simp only[dp,ho,Eb,(hr st2 ha).1,(hr st2 ha).2,hx,hi,aH hc,GP,aa]
 cases h;cases h
theorem ft.new (h:cj=(st.gJ o.dst).put o.dst v)(h2:∀st2,iX an X o st st2->dp E Γ an o st2 some=some ((st2.gJ o.dst).put o.dst v)):ft E Γ an X o st cj:=⟨JY o v,TH v,by rw[LV];exact h,λst2 ha=>by rw[LV];exact h2 st2 ha⟩
theorem iX.jm (ha:iX an X o st st2):st2.jm o.dst=st.jm o.dst:=by funext j;cases hd:o.dst with|none=>rfl|some d=>simp only[AS.jm,(ha.dst d hd).1]
theorem Ld {lo hi:aB Operand}{n:Nat}{f:AS->Int->Int->aB AS}(hs:∀st2,iX an X o st st2->lo.map st2.rd=lo.map st.rd/\hi.map st2.rd=hi.map st.rd)(h:oB st lo hi n (f st)=some cj):∃a b,f st a b=some cj/\∀st2,iX an X o st st2->oB st2 lo hi n (f st2)=f st2 a b:=by unfold oB at h;split at h;rename_i h1 h2;exact⟨_,_,h,λst2 ha=>by simp only[oB,(hs st2 ha).1,(hs st2 ha).2,h1,h2]⟩;rename_i h1 h2;exact⟨_,_,h,λst2 ha=>by simp only[oB,(hs st2 ha).1,(hs st2 ha).2,h1,h2]⟩;rename_i h1 h2;exact⟨_,_,h,λst2 ha=>by simp only[oB,(hs st2 ha).1,(hs st2 ha).2,h1,h2]⟩;rename_i h1 h2;exact⟨_,_,h,λst2 ha=>by simp only[oB,(hs st2 ha).1,(hs st2 ha).2,h1,h2]⟩;cases h
theorem aan {lo hi:aB Operand}(ho:o.op=.slice T x lo hi none)(hm:pF an o=true)(iw:ei E an X o st=true)(h:CZ E an o T x lo hi st some=some cj):ft E Γ an X o st cj:=by
 have hr:∀st2,iX an X o st st2->st2.rd x=st.rd x:=λst2 ha=>ha.rd (λt ht=>by simp[eI,ho,ht]);have hb:∀st2,iX an X o st st2->lo.map st2.rd=lo.map st.rd/\hi.map st2.rd=hi.map st.rd:=by
  intro st2 ha;constructor;cases lo with|none=>rfl|some y=>simp only[dP];rw[ha.rd (λt ht=>by simp[eI,ho,tmO,ht])]
  cases hi with|none=>rfl|some y=>simp only[dP];rw[ha.rd (λt ht=>by simp[eI,ho,tmO,ht])]
 have GS:(st.rd x).now st.ep=true:=by simpa[ei,ho]using iw
 have Dc:∀st2,iX an X o st st2->(st.rd x).fresh st2=st.rd x:=λst2 ha=>Ce (by rw[ha.ep];exact GS);have vm:Hy an o=false:=by simpa[pF,ho]using hm
 unfold CZ at h;rw[aG (by simp[vm]),Ce GS]at h;split at h;rename_i s hx;split at h;rename_i hT;obtain⟨a,b,h1,h2⟩:=Ld (f:=λs0 a b=>aa (sub s a b) λs'=>some (s0.put o.dst (.one (.str s')))) hb h;cases rP:sub s a b with|none=>rw[rP]at h1;cases h1|some s'=>rw[rP]at h1;cases h1;refine ft.put rfl λst2 ha=>?_;have hf3:=Dc st2 ha;rw[hx]at hf3;simp only[dp,ho,CZ,vm,bm,cC,hr st2 ha,hx,hf3,aH hT];rw[h2 st2 ha,rP];rfl
 cases h;rename_i fl e xs hx;split at h;rename_i hT;obtain⟨a,b,h1,h2⟩:=Ld (f:=λs0 a b=>aa (sub xs a b) λSM=>some (s0.put o.dst (.one (.sl (RA an o fl a) e SM)))) hb h;cases rP:sub xs a b with|none=>rw[rP]at h1;cases h1|some s'=>rw[rP]at h1;cases h1;refine ft.put rfl λst2 ha=>?_;have hf3:=Dc st2 ha;rw[hx]at hf3;simp only[dp,ho,CZ,vm,bm,cC,hr st2 ha,hx,hf3,ha.ep,aH hT];rw[h2 st2 ha,rP];rfl
 cases h;cases h
theorem Ji {args:aw Operand}(hl:∀t,t∈TE args->t∈eI o)(ha:iX an X o st st2):args.map st2.rd=args.map st.rd:=by apply List.map_congr_left;intro x hx;exact ha.rd (λt ht=>hl t (by simp only[TE,List.mem_flatMap];exact⟨x,hx,ht⟩))
theorem ahU (ho:o.op=.call {callee:=.builtin .len,args,argTypes:=ts})(h:Ri E o ts.toList args.toList st some=some cj):ft E Γ an X o st cj:=by have hr:∀st2,iX an X o st st2->args.toList.map st2.rd=args.toList.map st.rd:=λst2 ha=>Ji (λt ht=>by simp only[eI,ho];exact ht) ha;unfold Ri at h;split at h;rename_i t s vS hx;split at h;rename_i hT;cases h;refine ft.put rfl λst2 ha=>?_;simp only[dp,ho,Ri,hr st2 ha,vS,hx,aH hT];cases h;rename_i t _ _ xs vS hx;split at h;rename_i hT;cases h;refine ft.put rfl λst2 ha=>?_;simp only[dp,ho,Ri,hr st2 ha,vS,hx,aH hT];cases h;cases h
theorem ahW (ho:o.op=.call {callee:=.builtin .min,args,argTypes:=ts})(h:Th o args.toList st some=some cj):ft E Γ an X o st cj:=by have hr:∀st2,iX an X o st st2->args.toList.map st2.rd=args.toList.map st.rd:=λst2 ha=>Ji (λt ht=>by simp only[eI,ho];exact ht) ha;unfold Th at h;split at h;rename_i hx;cases h;refine ft.put rfl λst2 ha=>?_;simp only[dp,ho,Th,hr st2 ha,hx];cases h
theorem ahV (ho:o.op=.call {callee:=.builtin .max,args,argTypes:=ts})(h:Tg o args.toList st some=some cj):ft E Γ an X o st cj:=by have hr:∀st2,iX an X o st st2->args.toList.map st2.rd=args.toList.map st.rd:=λst2 ha=>Ji (λt ht=>by simp only[eI,ho];exact ht) ha;unfold Tg at h;split at h;rename_i hx;cases h;refine ft.put rfl λst2 ha=>?_;simp only[dp,ho,Tg,hr st2 ha,hx];cases h
theorem ahF {l:fM}{c:AC}(h:c.al1 l=true)(hl:∀t∈l,st2.get t=st.get t):st2.Te c=st.Te c:=by
 cases c with
 |sl fl e xs=>
  cases fl with
  |loc ep pv=>cases pv with|none=>rfl|some q=>obtain⟨r,t⟩:=q;cases r with|slot b j=>have hb:st2.get b=st.get b:=hl b (by simpa[AC.al1]using h);simp only[AS.Te,AS.ga,hb]|box _ _=>rfl|io _=>rfl
  |_=>rfl
 |_=>rfl
theorem adE {l:fM}(hx:Lw l st x=true)(hl:∀t∈l,st2.get t=st.get t)(h:∀t∈tm x,st2.get t=st.get t):DH st2 x=DH st x/\EI st2 x=EI st x:=by
 cases x with
 |tmp t=>have ht:=h t (by simp[tm]);simp only[Lw]at hx;cases hg:st.get t with|yE vs=>exact⟨by simp only[DH,ht,hg],by simp only[EI,ht,hg]⟩|val g cs=>rw[hg]at hx;have hm:cs.map st2.Te=cs.map st.Te:=List.map_congr_left λc hc=>ahF (aF.1 hx c hc) hl;exact⟨by simp only[DH,ht,hg,hm],by simp only[EI,ht,hg,hm]⟩
 |const v=>exact⟨rfl,rfl⟩
 |func f=>exact⟨rfl,rfl⟩
 |global g=>exact⟨rfl,rfl⟩
theorem Ti (ho:o.op=.call {callee:=.value f,args,argTypes:=ts})(iw:ei E an X o st=true){k:Nat}(hf:st.rd f=.val false [.fn k])(lj:(Γ k).bx=true)(hcur:(Γ k).cur=true)(h:xu Γ o k args.toList st some=some cj):ft E Γ an X o st cj:=by
 unfold xu at h;split at h;rename_i x0 xs ib;split at h;rename_i s hx0;have jZ:vR an X (erS an o) st (x0::xs)=true:=by have h1:=iw;simp only[ei,ho,ae]at h1;rw[<-ib];exact h1.1
 have hx1:∃q,x0=.tmp q/\X.contains s=false/\an.sb q=some s/\(match (nth st.boxes s).getD none with|some cs=>cs.all AC.Ka|none=>true)=true/\xs.all (Lw (erS an o) st)=true:=by cases x0 with|tmp q=>simp only[vR,hx0,ajB,ae,aO,bn]at jZ;exact⟨q,rfl,jZ.1.1.1,jZ.1.1.2,jZ.1.2,jZ.2⟩|const v=>simp only[vR,hx0,AV.afD]at jZ;cases jZ|func v=>simp only[vR,hx0,AV.afD]at jZ;cases jZ|global v=>simp only[vR,hx0,AV.afD]at jZ;cases jZ
 obtain⟨q,rfl,hX,hsb,AX,DD⟩:=hx1;split at h;rename_i cs WE;rw[WE]at AX;simp only at AX;cases hc:(cs.all (AC.Bi (FY cs))&&xs.all (EI st))with
 |false=>rw[hc]at h;cases h
 |true=>
  rw[hc]at h;simp only[ah]at h;cases iT:(Γ k).fn (.val true (cs.map AC.XL)::xs.map (DH st))with
  |none=>rw[iT]at h;cases h
  |some y=>
   rw[iT]at h;simp only[aa]at h;cases hc2:(((Γ k).back y).all (AC.Bi true)&&((Γ k).av y).ahZ)with
   |false=>rw[hc2]at h;cases h
   |true=>
    rw[hc2]at h;simp only[ah,hcur,AX,cq,bu]at h;subst h;refine⟨⟨o.dst.toList.map λd=>(d,((Γ k).av y).FZ st.ep (st.jm o.dst)),some (s,rC (FY cs) (λ_=>none) 0 ((Γ k).back y)),o.dst⟩,⟨λx hx=>?_,λb hb=>?_,λd hd=>hd⟩,?_,λst2 ha=>?_⟩;simp only[dB]at hx;obtain⟨d,hd,rfl⟩:=hx;simp[writes,hd];cases hb;simp[HB,ho,ib,hsb];unfold L0.apply AS.put AS.gJ AS.fO;cases o.dst<;>rfl;have e1:st2.rd f=st.rd f:=ha.rd (λt ht=>by simp[eI,ho,ht]);have hl:∀x∈Operand.tmp q::xs,∀t∈tm x,t∈eI o:=by intro x hx t ht;simp only[eI,ho,aA,TE,List.mem_flatMap,ib];exact .inr ⟨x,hx,ht⟩
    have e2:st2.rd (.tmp q)=st.rd (.tmp q):=ha.rd (hl _ (by simp));have e3:nth st2.boxes s=nth st.boxes s:=ha.box s hX;have e4:∀x∈xs,DH st2 x=DH st x/\EI st2 x=EI st x:=λx hx=>adE (aF.1 DD x hx) ha.er λt ht=>ha.get t (hl x (by simp[hx]) t ht);have e5:xs.map (DH st2)=xs.map (DH st):=List.map_congr_left λx hx=>(e4 x hx).1;have e6:xs.all (EI st2)=xs.all (EI st):=by rw[cQ];simp only[aF];exact⟨λg x hx=>by rw[<-(e4 x hx).2];exact g x hx,λg x hx=>by rw[(e4 x hx).2];exact g x hx⟩
    simp only[dp,ho,F1,e1,hf,lj,ah,xu,ib,e2,hx0,e3,WE,e5,e6,hc,iT,aa,hc2,hcur,AX,cq,ha.ep,ha.jm];unfold L0.apply AS.put AS.gJ AS.fO;cases o.dst<;>rfl
 cases h;cases h;cases h
theorem adQ (Db:∀f,(Γ f).io=false/\((Γ f).bx=true->(Γ f).cur=true)/\(Γ f).pr=false)(ho:o.op=.call {callee:=.value f,args,argTypes:=ts})(iw:ei E an X o st=true)(h:F1 Γ o f args.toList st some=some cj):ft E Γ an X o st cj:=by
 have hr:∀st2,iX an X o st st2->st2.rd f=st.rd f/\(args.toList.map λx=>((st2.rd x).fresh st2).asArg st2.ep)=args.toList.map λx=>((st.rd x).fresh st).asArg st.ep:=by
  intro st2 ha;refine⟨ha.rd (λt ht=>by simp[eI,ho,ht]),?_⟩;apply List.map_congr_left;intro x hx;have GS:(st.rd x).now st.ep=true:=by simp only[ei,ho,ae,aF]at iw;exact iw.2 x hx
  rw[ha.rd (λt ht=>by simp only[eI,ho,aA,TE,List.mem_flatMap];exact .inr ⟨x,hx,ht⟩),Ce GS,Ce (s:=st2) (by rw[ha.ep];exact GS),ha.ep]
 unfold F1 at h;split at h
 ·rename_i k hf
  cases lj:(Γ k).bx with
  |true=>rw[lj]at h;exact Ti ho iw hf lj ((Db k).2.1 lj) h
  |false=>
  rw[lj,(Db k).2.2,(Db k).1]at h
  simp only[af]at h
  cases hg:(Γ k).fn (args.toList.map λx=>((st.rd x).fresh st).asArg st.ep)with
  |none=>rw[hg]at h;cases h
  |some y=>
   rw[hg]at h
   simp only[aa]at h
   cases S8:(Γ k).sel y with
   |true=>
    rw[S8]at h
    cases h
    refine ft.new rfl λst2 ha=>?_
    simp only[dp,ho,F1,(hr st2 ha).1,hf,(Db k).1,lj,(Db k).2.2,af]
    rw[(hr st2 ha).2,hg]
    simp only[aa,S8,ah,ha.ep,ha.jm]
   |false=>
    rw[S8]at h
    cases h
    refine ft.new rfl λst2 ha=>?_
    simp only[dp,ho,F1,(hr st2 ha).1,hf,(Db k).1,lj,(Db k).2.2,af]
    rw[(hr st2 ha).2,hg]
    simp only[aa,S8,af,ha.ep,ha.jm]
 cases h
theorem Tj {src dst:TypeId}(ho:o.op=.convert src dst x)(h:nC E o src dst x st some=some cj):ft E Γ an X o st cj:=by
 have hr:∀st2,iX an X o st st2->st2.rd x=st.rd x:=λst2 ha=>ha.rd (λt ht=>by simpa[eI,ho]using ht);unfold nC at h;split at h;rename_i h1 h2 h3;cases h;refine ft.put rfl λst2 ha=>?_;simp only[dp,ho,nC,hr st2 ha,h1,h2,h3];rename_i h1 h2 h3;cases h;refine ft.put rfl λst2 ha=>?_;simp only[dp,ho,nC,hr st2 ha,h1,h2,h3];rename_i lr val s H0 h1 h2 h3;split at h;rename_i hb;unfold room at h;split at h;rename_i hrm;cases h;refine ft.new (v:=.one (.sl (.own (st.jm o.dst 0)) (.int .u8) (dJ s))) rfl λst2 ha=>?_;have Jy:∀k:AS->aB AS,nC E o src dst x st2 k=if E.bytes dst then room s.length (k (st2.rQ o.dst (.int .u8) (dJ s))) else none:=by intro k;unfold nC;rw[hr st2 ha,h1,h2,h3];obtain⟨ag,ct,of⟩:=val;cases ag with|true=>rfl|false=>cases ct with|str=>exact(H0 _ rfl).elim|_=>rfl
 simp only[dp,ho];rw[Jy,aH hb,room,aH hrm,AS.rQ,ha.jm];cases h;cases h;rename_i val lr fl xs h1 h2 h3;split at h;rename_i hb;cases h;refine ft.put rfl λst2 ha=>?_;have Jy:∀k:AS->aB AS,nC E o src dst x st2 k=if E.bytes src/\fl.live st2.ep then k (st2.put o.dst (.one (.str (aQ xs)))) else none:=by intro k;unfold nC;rw[hr st2 ha,h1,h2,h3];obtain⟨ag,ct,of⟩:=val;cases ag with|true=>rfl|false=>cases ct<;>rfl
 simp only[dp,ho];rw[Jy,ha.ep,aH hb];cases h;cases h
theorem Nk {d:Nat}:(⟨[(d,v)],some (d,cs),none⟩:L0).apply st=(st.fO d (some cs)).put (some d) v:=rfl
theorem aaj (ho:o.op=.alloc T)(h:E2 E o T st some=some cj):ft E Γ an X o st cj:=by unfold E2 at h;split at h;rename_i d sh hd hT;split at h;rename_i hb;cases h;refine⟨⟨[(d,.one (.ptr d 0))],some (d,cellsOf sh.ct (.own none) sh.ct.zero),none⟩,⟨λx hx=>?_,λb iy=>?_,λ_ hh=>by cases hh⟩,?_,λst2 ha=>?_⟩;simp only[br]at hx;subst hx;simp[writes,hd];cases iy;simp[HB,ho,hd];rw[Nk,hd];simp only[dp,ho,E2,hd,hT,(ha.dst d hd).2,hb,Nk];cases h;cases h
def qi (st:AS):Operand->aw (Nat×AV)
 | .tmp t=>[(t,(st.get t).bg st.ep)]
 |_=>[]
theorem Ef (l:aw AV)(a b:aw (Nat×AV)):lu l (a++b)=lu (lu l a) b:=by induction a generalizing l with|nil=>rfl|cons x a ih=>exact ih _
def AS.lH (st:AS)(l:aw (Nat×AV)):AS:={st with slots:=lu st.slots l}
theorem tC (a b:aw (Nat×AV)):st.lH (a++b)=(st.lH a).lH b:=by simp only[AS.lH,Ef]
theorem EU (x:Operand):(st.take x).2=st.lH (qi st x):=by cases x<;>rfl
theorem FM (AY:st2.ep=st.ep)(h:∀t∈tm x,st2.get t=st.get t):(st2.take x).1=(st.take x).1/\(st2.take x).2=st2.lH (qi st x):=by cases x with|tmp t=>have:=h t (by simp[tm]);refine⟨this,?_⟩;rw[EU];simp only[qi,this,AY]|const v=>exact⟨rfl,rfl⟩|func f=>exact⟨rfl,rfl⟩|global g=>exact⟨rfl,rfl⟩
theorem LU:∀y∈qi st x,y.1∈tm x:=by cases x<;>simp[qi,tm]
theorem adS (ho:o.op=.move x)(h:EM an o x st some=some cj):ft E Γ an X o st cj:=by
 unfold EM at h;cases hd:o.dst with
 |none=>rw[hd]at h;cases h
 |some d=>
  rw[hd]at h;cases hf:an.mv.contains d with
  |false=>simp only[hf,bm,cC]at h;cases h;refine ft.put (v:=st.rd x) (by rw[hd]) λst2 ha=>?_;have hr:st2.rd x=st.rd x:=ha.rd (λt ht=>by simpa[eI,ho]using ht);simp only[dp,ho,EM,hd,hf,bm,cC,hr]
  |true=>
   simp only[hf,cw]at h;cases h;have hr:∀st2,iX an X o st st2->(st2.take x).1=(st.take x).1/\(st2.take x).2=st2.lH (qi st x):=λst2 ha=>FM ha.ep λt ht=>ha.get t (by simpa[eI,ho]using ht);refine⟨⟨qi st x++[(d,(st.take x).1)],none,none⟩,⟨λy hy=>?_,λ_ hh=>(by cases hh),λ_ hh=>(by cases hh)⟩,?_,λst2 ha=>?_⟩;rcases aA.1 hy with hy|hy;have:=LU y hy;have hf':d∈an.mv:=by simpa using hf
   simp[writes,Hw,ho,hd,hf',eI,this];simp only[br]at hy;subst hy;simp[writes,hd];rw[EU];show _=st.lH _;rw[tC];rfl;simp only[dp,ho,EM,hd,hf,cw,(hr st2 ha).1,(hr st2 ha).2];show some ((st2.lH (qi st x)).put (some d) (st.take x).1)=some (st2.lH _);rw[tC];rfl
theorem YI {ep:Nat}(h:cs.all AC.kL=true):bg ep cs=cs:=by
 rw[aF]at h;unfold bg;have:cs.map (AC.borrow ep none)=cs.map id:=List.map_congr_left λc hc=>by have:=h c hc;cases c<;>first|rfl|(simp[AC.kL]at this)
 rw[this,List.map_id]
theorem an9 {s:AS}{vs:aw (Bool×aw AC)}(h:s.get t=.yE vs):s.put (some t) (.yE vs)=s:=by cases s with|mk slots boxes ep iss io=>simp only[AS.put,AS.mk.injEq,jK];rw[gH];apply dj;intro i;rw[bJ];split;rename_i hd;subst hd;simp only[AS.get,eU]at h;split;rename_i hG;rw[al hG]at h⊢;simp only[gO]at h;rw[h];rename_i CF;rw[bI (Nat.le_of_not_lt CF)];rfl
theorem Tk {i:Nat}(ho:o.op=.extract (.tmp t) i)(iw:ei E an X o st=true)(h:nE o t i st some=some cj):ft E Γ an X o st cj:=by
 have hr:∀st2,iX an X o st st2->st2.get t=st.get t:=λst2 ha=>ha.get t (by simp[eI,ho]);unfold nE at h;simp only[ei,ho]at iw;split at h
 ·rename_i vs hv;rw[hv]at iw;split at h
  ·rename_i g cs hn;simp only[hn]at iw;have hfl:cs.all AC.kL=true\/∃d,o.dst=some d/\an.mv.contains d=true:=by cases hd:o.dst with|none=>simp only[hd,Bool.or_false]at iw;exact .inl iw|some d=>simp only[hd,cY]at iw;rcases iw with h|h;exact .inl h;exact .inr ⟨d,rfl,h⟩
   rcases hfl with iw|⟨d,hd,F7⟩;rotate_left;cases h;refine⟨⟨[(t,.yE (ji vs i (g,bg 0 cs))),(d,.val g cs)],none,none⟩,⟨λx hx=>?_,(λ_ hb=>by cases hb),(λ_ hh=>by cases hh)⟩,?_,λst2 ha=>?_⟩;simp only[bU,List.not_mem_nil,or_false]at hx;rcases hx with rfl|rfl;simp only[writes,Hw,ho,hd,F7,ah,eI];simp;simp only[writes,hd];simp;rw[hd];rfl;have h2:st2.get t=.yE vs:=by rw[hr st2 ha,hv]
   simp only[dp,ho,nE,h2,hn,hd];rfl;skip;have GU:ji vs i (g,cs)=vs:=by rw[gH];rw[eU]at hn;apply dj;intro k;rw[bJ];split;rename_i hk;subst hk;obtain⟨hl,he⟩:=ay.1 hn;rw[aH hl,hn];rfl
   have key:∀s:AS,s.get t=.yE vs->(s.put (some t) (.yE (ji vs i (g,bg 0 cs))))=s:=λs hs=>by rw[YI iw,GU,an9 hs]
   rw[key st hv]at h;cases h;refine ft.put rfl λst2 ha=>?_;have h2:st2.get t=.yE vs:=by rw[hr st2 ha,hv]
   simp only[dp,ho,nE,h2,hn];rw[key st2 h2]
  cases h
 cases h
def B7 (st:AS):Operand->aw (Nat×AV)
 | .tmp t=>[(t,(st.get t).bg st.ep)]
 |_=>[]
theorem Sr (st:AS)(x:Operand):(st.take x).2=⟨lu st.slots (B7 st x),st.boxes,st.ep,st.iss,st.io⟩:=by cases x<;>rfl
theorem aao {pp:Nat}(ho:o.op=.store T (.tmp pp) x)(hd:o.dst=none)(hm:pF an o=true)(iw:ei E an X o st=true)(h:zw E T (.tmp pp) x st some=some cj):ft E Γ an X o st cj:=by
 have hr:∀st2,iX an X o st st2->st2.rd (.tmp pp)=st.rd (.tmp pp):=λst2 ha=>ha.rd (λt ht=>by simp only[eI,ho,aA];exact .inl ht);have hsb:(an.sb pp).isNone=false:=by simp only[pF,ho,ae]at hm;cases hb:an.sb pp with|none=>rw[hb]at hm;cases hm.1|some _=>rfl
 simp only[ei,ho,hsb,eo,cJ]at iw;unfold zw at h;split at h;rename_i sh s off hT hp;rw[hp]at iw;simp only[ae,aO,bn]at iw;split at h;rename_i gg vs st1 vm;have WO:(st.take x).1=.val gg vs:=by rw[vm]
 have GV:st1=⟨lu st.slots (B7 st x),st.boxes,st.ep,st.iss,st.io⟩:=by rw[<-Sr,vm]
 split at h;rename_i cs hb;split at h;rename_i hlen;split at h;rename_i iO;cases h;have lj:∀st2,iX an X o st st2->nth st2.boxes s=nth st.boxes s:=λst2 ha=>ha.box s iw.1;refine⟨⟨B7 st x,some (s,fu cs off vs),none⟩,⟨λy hy=>?_,λb iy=>?_,λ_ hh=>by cases hh⟩,?_,λst2 ha=>?_⟩;cases x with|tmp t=>simp only[B7,br]at hy;subst hy;simp only[writes,Hw,ho,ah,eI,hd];simp[tm]|_=>simp[B7]at hy
 cases iy;simp only[HB,ho,iw.2];simp;rw[GV];rfl;have hx2:(st2.take x).1=(st.take x).1/\B7 st2 x=B7 st x:=by cases x with|tmp t=>have hg:st2.get t=st.get t:=ha.get t (by simp[eI,ho,tm]);simp only[AS.take,B7,hg,ha.ep];simp|const v=>exact⟨rfl,rfl⟩|func f=>exact⟨rfl,rfl⟩|global g=>exact⟨rfl,rfl⟩
 have ht2:st2.take x=(.val gg vs,⟨lu st2.slots (B7 st x),st2.boxes,st2.ep,st2.iss,st2.io⟩):=by rw[<-hx2.2,<-Sr,<-WO,<-hx2.1]
 have Uh:(nth st2.boxes s).getD none=some cs:=by rw[lj st2 ha];rw[GV]at hb;exact hb
 have F6:CL an o=false:=by simp only[pF,ho,ae,aO]at hm;exact hm.2
 simp only[dp,ho,hd,F6,bm,cC,zw,hT,hr st2 ha,hp,ht2,Uh,aH hlen,aH iO];rfl;cases h;cases h;cases h;cases h;rename_i r _ _ _ _ _ _ hp;rw[hp]at iw;cases r<;>simp at iw;cases h
theorem Xe (ho:o.op=.assign x)(hm:pF an o=true)(h:xr E an o x st some=some cj):ft E Γ an X o st cj:=by
 have hr:∀st2,iX an X o st st2->(st2.take x).1=(st.take x).1/\(st2.take x).2=st2.lH (qi st x):=λst2 ha=>FM ha.ep λt ht=>ha.get t (by simpa[eI,ho]using ht);have F6:CL an o=false:=by simpa[pF,ho]using hm
 unfold xr at h;split at h;rename_i st1 vm;split at h;rename_i e hT;cases h;refine ft.put rfl λst2 ha=>?_;have h2:st2.take x=(.val false [.kY],st2.lH (qi st x)):=Prod.ext (by rw[(hr st2 ha).1,vm]) (hr st2 ha).2;simp only[dp,ho,xr,F6,bm,cC,h2,hT];cases h;rename_i v st1 H0 vm;cases h;have GV:st1=st.lH (qi st x):=by rw[<-EU,vm]
 refine⟨⟨qi st x++o.dst.toList.map λd=>(d,v),none,none⟩,⟨λy hy=>?_,λ_ hh=>(by cases hh),λ_ hh=>(by cases hh)⟩,?_,λst2 ha=>?_⟩;rcases aA.1 hy with hy|hy;have:=LU y hy;simp[writes,Hw,ho,eI,this];obtain⟨d,hd,rfl⟩:=dB.1 hy;simp[writes,hd];rw[GV];show _=st.lH _;rw[tC];cases o.dst<;>rfl;have h2:st2.take x=(v,st2.lH (qi st x)):=Prod.ext (by rw[(hr st2 ha).1,vm]) (hr st2 ha).2;simp only[dp,ho,xr,F6,bm,cC,h2];show some ((st2.lH (qi st x)).put o.dst v)=some (st2.lH _);rw[tC];cases o.dst<;>rfl
theorem kQ {α:Type}(l:aw α)(i:Nat)(v:α)(t:Nat):nth (ji l i v) t=if i=t then(if i<l.length then some v else none) else nth l t:=by rw[eU,gH,eU,bJ]
theorem RK (l:aw AV)(a:aw (Nat×AV)):(lu l a).length=l.length:=by induction a generalizing l with|nil=>rfl|cons x a ih=>rw[lu,ih,gH,az]
theorem aeb {l l2:aw AV}(a:aw (Nat×AV))(hl:l2.length=l.length)(t:Nat)(h:nth l2 t=nth l t):nth (lu l2 a) t=nth (lu l a) t:=by induction a generalizing l l2 with|nil=>exact h|cons x a ih=>refine ih (by rw[gH,gH,az,az,hl]) ?_;rw[kQ,kQ,hl,h]
theorem adX (h:st2.get t=st.get t)(hl:st2.slots.length=st.slots.length):nth st2.slots t=nth st.slots t:=by unfold AS.get at h;rw[eU,eU]at h⊢;rcases cg t st.slots.length with hG|CF;rw[al hG,al (by omega)]at h⊢;simpa using h;rw[bI CF,bI (by omega)]
def ld (st:AS):aw Operand->aw (Nat×AV)
 |[]=>[]
 |x::xs=>qi st x++ld (st.lH (qi st x)) xs
theorem C8:∀(xs:aw Operand)(st:AS),∀y∈ld st xs,y.1∈TE xs
 |[],_,y,hy=>by cases hy
 |x::xs,st,y,hy=>by simp only[TE,List.flatMap_cons,aA];rcases aA.1 hy with hy|hy;exact .inl (LU y hy);exact .inr (C8 xs _ y hy)
theorem Ej:∀(xs:aw Operand)(st st2:AS),st2.ep=st.ep->st2.slots.length=st.slots.length->(∀t∈TE xs,nth st2.slots t=nth st.slots t)->
 (gb st2 xs).1=(gb st xs).1/\(gb st2 xs).2=st2.lH (ld st xs)
 |[],st,st2,_,_,_=>⟨rfl,rfl⟩
 |x::xs,st,st2,AY,hl,hg=>by
  have hx:∀t∈tm x,st2.get t=st.get t:=λt ht=>by unfold AS.get;rw[hg t (by simp[TE,ht])]
  obtain⟨h1,h2⟩:=FM (st:=st) (st2:=st2) AY hx;have h3:=EU (st:=st) x;obtain⟨k1,k2⟩:=Ej xs (st.lH (qi st x)) (st2.lH (qi st x)) AY (by simp only[AS.lH,RK,hl]) (λt ht=>aeb _ hl t (hg t (by simp only[TE,List.flatMap_cons,aA];exact .inr ht)));have e1:gb st (x::xs)=((st.take x).1::(gb (st.take x).2 xs).1,(gb (st.take x).2 xs).2):=rfl;have e2:gb st2 (x::xs)=((st2.take x).1::(gb (st2.take x).2 xs).1,(gb (st2.take x).2 xs).2):=rfl;rw[e1,e2,h1,h2,h3];refine⟨by rw[k1],?_⟩;show(gb (st2.lH (qi st x)) xs).2=_;rw[k2,ld,tC]
theorem FL (xs:aw Operand):(gb st xs).2=st.lH (ld st xs):=(Ej xs st st rfl rfl (λ_ _=>rfl)).2
theorem iX.gb (ha:iX an X o st st2){xs:aw Operand}(hx:∀t∈TE xs,t∈eI o):(gb st2 xs).1=(Dn.gb st xs).1/\(Dn.gb st2 xs).2=st2.lH (ld st xs):=Ej xs st st2 ha.ep ha.len λt ht=>adX (ha.get t (hx t ht)) ha.len
theorem aak (ho:o.op=.build T parts)(h:D1 E o T parts.toList st some=some cj):ft E Γ an X o st cj:=by
 have hl:∀t∈TE (parts.toList.map (·.2)),t∈eI o:=λt ht=>by simp only[eI,ho];exact ht
 unfold D1 at h;split at h;rename_i ct lr hT;split at h;rename_i vs st1 vm;have GV:st1=st.lH (ld st (parts.toList.map (·.2))):=by rw[<-FL,vm]
 split at h;rename_i cs hb;cases h;refine⟨⟨ld st (parts.toList.map (·.2))++o.dst.toList.map λd=>(d,.val true cs),none,none⟩,⟨λy hy=>?_,λ_ hh=>(by cases hh),λ_ hh=>(by cases hh)⟩,?_,λst2 ha=>?_⟩;rcases aA.1 hy with hy|hy;have:=hl _ (C8 _ _ y hy);simp[writes,Hw,ho,this];obtain⟨d,hd,rfl⟩:=dB.1 hy;simp[writes,hd];rw[GV];show _=st.lH _;rw[tC];cases o.dst<;>rfl;obtain⟨k1,k2⟩:=ha.gb hl;have h2:gb st2 (parts.toList.map (·.2))=(vs,st2.lH (ld st (parts.toList.map (·.2)))):=Prod.ext (by rw[k1,vm]) k2;simp only[dp,ho,D1,hT,h2,hb];show some ((st2.lH _).put o.dst _)=some (st2.lH _);rw[tC];cases o.dst<;>rfl;cases h;cases h
theorem ft.arw (ht:Hw an o=true)(hl:∀y∈tl,y.1∈eI o)(h:cj=((st.lH tl).gJ o.dst).put o.dst v)(h2:∀st2,iX an X o st st2->dp E Γ an o st2 some=some (((st2.lH tl).gJ o.dst).put o.dst v)):ft E Γ an X o st cj:=by
 have key:∀s:AS,(⟨tl++o.dst.toList.map λd=>(d,v),none,o.dst⟩:L0).apply s=((s.lH tl).gJ o.dst).put o.dst v:=by intro s;cases o.dst with|none=>simp only[L0.apply,Option.toList,List.map_nil,bD,AS.lH,AS.gJ,AS.put]|some d=>simp only[L0.apply,Option.toList,dm,List.map_nil,Ef,AS.lH,AS.gJ,AS.put,lu]
 refine⟨⟨tl++o.dst.toList.map λd=>(d,v),none,o.dst⟩,⟨λy hy=>?_,λ_ hh=>(by cases hh),λd hh=>hh⟩,by rw[key];exact h,λst2 ha=>by rw[key];exact h2 st2 ha⟩;rcases aA.1 hy with hy|hy;simp[writes,ht,hl y hy];obtain⟨d,hd,rfl⟩:=dB.1 hy;simp[writes,hd]
theorem Ci {d:aB Nat}:(st.lH tl).jm d=st.jm d:=rfl
theorem MN {len:Nat}(ho:o.op=.buildSlice T len parts)(h:nz E o T len parts.toList st some=some cj):ft E Γ an X o st cj:=by
 have hl:∀t∈TE (parts.toList.map (·.2)),t∈eI o:=λt ht=>by simp only[eI,ho];exact ht
 unfold nz at h;split at h;rename_i e hT;split at h;rename_i hc;split at h;rename_i vs st1 vm;have GV:st1=st.lH (ld st (parts.toList.map (·.2))):=by rw[<-FL,vm]
 split at h;rename_i xs hb;cases h;refine ft.arw (tl:=ld st (parts.toList.map (·.2))) (v:=.one (.sl (.own (st.jm o.dst 0)) e xs)) (by simp[Hw,ho]) (λy hy=>hl _ (C8 _ _ y hy)) ?_ λst2 ha=>?_;rw[GV,AS.rQ,Ci];obtain⟨k1,k2⟩:=ha.gb hl;have h2:gb st2 (parts.toList.map (·.2))=(vs,st2.lH (ld st (parts.toList.map (·.2)))):=Prod.ext (by rw[k1,vm]) k2;simp only[dp,ho,nz,hT,h2,hb,aH hc];rw[AS.rQ,Ci,ha.jm];cases h;cases h;cases h
theorem OW {n c:Operand}(ho:o.op=.makeSlice T n c)(h:qB E o T n c st some=some cj):ft E Γ an X o st cj:=by
 have hr:∀st2,iX an X o st st2->st2.rd n=st.rd n/\st2.rd c=st.rd c:=λst2 ha=>
  ⟨ha.rd (λt ht=>by simp[eI,ho,ht]),ha.rd (λt ht=>by simp[eI,ho,ht])⟩
 unfold qB at h;split at h;rename_i e len cap hT hn hc;split at h;rename_i hlc;unfold room at h;split at h;rename_i hrm;cases h;refine ft.new (v:=.one (.sl (.own (st.jm o.dst 0)) e (List.replicate len.toNat e.zero))) rfl λst2 ha=>?_;simp only[dp,ho,qB,(hr st2 ha).1,(hr st2 ha).2,hT,hn,hc,aH hlc,room,aH hrm,AS.rQ,ha.jm];cases h;cases h;cases h
theorem Xd (ho:o.op=.call {callee:=.builtin .append,args,argTypes:=ts})(h:zD E o ts.toList args.toList st some=some cj):ft E Γ an X o st cj:=by
 have hlk:∀t∈TE args.toList,t∈eI o:=λt ht=>by simp only[eI,ho];exact ht
 unfold zD at h;split at h;rename_i t t' s x vS ib;have hl:∀u∈TE [s,x],u∈eI o:=by rw[<-ib];exact hlk
 have aoX:∀st2,iX an X o st st2->(st2.take s).1=(st.take s).1/\((st2.take s).2.take x).1=((st.take s).2.take x).1/\((st2.take s).2.take x).2=st2.lH (ld st [s,x]):=by intro st2 ha;obtain⟨k1,k2⟩:=ha.gb hl;simp only[Dn.gb,List.cons.injEq,jK]at k1 k2;exact⟨k1.1,k1.2,k2⟩
 have DD:((st.take s).2.take x).2=st.lH (ld st [s,x]):=FL (st:=st) [s,x];split at h;rename_i tag e xs st1 WO;split at h;rename_i fl e' ys ars KI;split at h;rename_i he;subst he;split at h;rename_i hc;unfold room at h;split at h;rename_i hrm;cases h;have GV:(st.take s).2=st1:=by rw[WO]
 have WN:ars=st.lH (ld st [s,x]):=by rw[<-DD,GV,KI]
 refine ft.arw (tl:=ld st [s,x]) (v:=.one (.sl (.own (st.jm o.dst 0)) e' (xs++ys))) (by simp[Hw,ho]) (λy hy=>hl _ (C8 _ _ y hy)) ?_ λst2 ha=>?_;rw[WN,AS.rQ,Ci];obtain⟨k1,k2,k3⟩:=aoX st2 ha;have e1:st2.take s=(.val false [.sl (.own tag) e' xs],(st2.take s).2):=Prod.ext (by rw[k1,WO]) rfl;have e2:(st2.take s).2.take x=(.val false [.sl fl e' ys],st2.lH (ld st [s,x])):=Prod.ext (by rw[k2,GV,KI]) k3;simp only[dp,ho,zD,vS,ib];rw[e1];simp only;rw[e2];simp only[dite_true,ha.ep,aH hc,room,aH hrm,AS.rQ,Ci,ha.jm];cases h;cases h;cases h;rename_i sx ars KI;split at h;rename_i he;subst he;split at h;rename_i hc;unfold room at h;split at h;rename_i hrm;cases h;have GV:(st.take s).2=st1:=by rw[WO]
 have WN:ars=st.lH (ld st [s,x]):=by rw[<-DD,GV,KI]
 refine ft.arw (tl:=ld st [s,x]) (v:=.one (.sl (.own (st.jm o.dst 0)) (.int .u8) (xs++dJ sx))) (by simp[Hw,ho]) (λy hy=>hl _ (C8 _ _ y hy)) ?_ λst2 ha=>?_;rw[WN,AS.rQ,Ci];obtain⟨k1,k2,k3⟩:=aoX st2 ha;have e1:st2.take s=(.val false [.sl (.own tag) (.int .u8) xs],(st2.take s).2):=Prod.ext (by rw[k1,WO]) rfl;have e2:(st2.take s).2.take x=(.val false [.str sx],st2.lH (ld st [s,x])):=Prod.ext (by rw[k2,GV,KI]) k3;simp only[dp,ho,zD,vS,ib];rw[e1];simp only;rw[e2];simp only[dite_true,aH hc,room,aH hrm,AS.rQ,Ci,ha.jm];cases h;cases h;cases h;cases h;cases h;cases h
theorem ahT (ho:o.op=.box T x)(h:VR o x st some=some cj):ft E Γ an X o st cj:=by
 have hr:∀st2,iX an X o st st2->(st2.take x).1=(st.take x).1/\(st2.take x).2=st2.lH (qi st x):=λst2 ha=>FM ha.ep λt ht=>ha.get t (by simpa[eI,ho]using ht);unfold VR at h;split at h;rename_i d g cs st1 hd vm;have GV:st1=st.lH (qi st x):=by rw[<-EU,vm]
 split at h;rename_i hb;split at h;rename_i hs;cases h;have WE:nth st.boxes d=some none:=by rw[GV]at hb;exact hb
 have key:∀s:AS,(⟨qi st x++[(d,.one (.ptr d 0))],some (d,cs),none⟩:L0).apply s=((s.lH (qi st x)).fO d (some cs)).put (some d) (.one (.ptr d 0)):=by intro s;simp only[L0.apply,Ef,AS.lH,AS.fO,AS.put,lu]
 refine⟨⟨qi st x++[(d,.one (.ptr d 0))],some (d,cs),none⟩,⟨λy hy=>?_,λb iy=>?_,λ_ hh=>(by cases hh)⟩,?_,λst2 ha=>?_⟩;rcases aA.1 hy with hy|hy;have:=LU y hy;simp[writes,Hw,ho,eI,this];simp only[br]at hy;subst hy;simp[writes,hd];cases iy;simp[HB,ho,hd];rw[key,GV,hd];have h2:st2.take x=(.val g cs,st2.lH (qi st x)):=Prod.ext (by rw[(hr st2 ha).1,vm]) (hr st2 ha).2;have Uh:nth (st2.lH (qi st x)).boxes d=some none:=by show nth st2.boxes d=_;rw[(ha.dst d hd).2];exact WE
 simp only[dp,ho,VR,hd,h2,Uh,aH hs,key];cases h;cases h;cases h
theorem Sk (Db:∀f,(Γ f).io=false/\((Γ f).bx=true->(Γ f).cur=true)/\(Γ f).pr=false)(hm:pF an o=true)(iw:ei E an X o st=true)(h:dp E Γ an o st some=some cj):ft E Γ an X o st cj:=by
 have h0:=h;unfold dp at h;split at h;rename_i ho;exact adS ho h;rename_i ho;have F6:CL an o=false:=by simpa[pF,ho]using hm
 rw[aG (by simp[F6])]at h;exact Xe ho hm h;rename_i ho;exact adT ho h;rename_i ho;exact aaj ho h;rename_i ho;exact ahT ho h;rename_i ho;exact adR ho hm iw h;rename_i T p x ho;split at h;rename_i hd;cases p with
 |tmp pp=>
  have F6:CL an o=false:=by simp only[pF,ho,ae,aO]at hm;exact hm.2
  rw[aG (by simp[F6])]at h;exact aao ho hd hm iw h
 |const v=>simp[pF,ho]at hm
 |func f=>simp[pF,ho]at hm
 |global g=>simp[pF,ho]at hm
 cases h;rename_i ho;exact Rq ho h0;rename_i ho;exact ahS ho h;rename_i ho;exact alu ho h;rename_i ho;exact aal ho h;rename_i ho;exact OV ho iw h;rename_i ho;exact aam ho h;rename_i ho;exact aak ho h;rename_i ho;exact MN ho h;rename_i ho;exact OW ho h;rename_i ho;exact aan ho hm iw h;rename_i ho;simp[pF,ho]at hm;rename_i ho;simp[pF,ho]at hm;rename_i ho;exact Tj ho h;rename_i ho;exact Tk ho iw h;rename_i ho;exact ahU ho h;rename_i ho;exact ahW ho h;rename_i ho;exact ahV ho h;rename_i ho;exact Xd ho h;rename_i ho;exact adQ Db ho iw h;cases h
end Go.Dn
