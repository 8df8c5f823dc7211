import Derived.Test.YtfbhfnniblfpbaaGreatDnMask
/- What an operation looks at and what it turns: for regions whose order is drawn. -/
namespace Go.Dn
structure J3 where
 slots:List (Nat×AV):=[]
 box:Option (Nat×List AC):=none
 iss:Option Nat:=none
def kc (l:au AV):au (Nat×AV)->au AV
 |[]=>l
 |x::r=>kc (gN l x.1 x.2) r
def J3.apply (u:J3)(st:AS):AS:=
 ⟨kc st.slots u.slots,(match u.box with|some b=>gN st.boxes b.1 (some b.2)|none=>st.boxes),st.ep,(match u.iss with|some d=>gN st.iss d true|none=>st.iss),st.io⟩
structure gF (an:An) (X:List Nat) (o:Oper) (st st2:AS):Prop where
 len:st2.slots.length=st.slots.length
 get:∀t∈dA o,st2.get t=st.get t
 ep:st2.ep=st.ep
 dst:∀d,o.dst=some d->nth st2.iss d=nth st.iss d/\nth st2.boxes d=nth st.boxes d
 box:∀s,X.contains s=false->nth st2.boxes s=nth st.boxes s
 er:∀t∈erS an o,st2.get t=st.get t
structure J3.Hu (an:An) (u:J3) (o:Oper):Prop where
 slots:∀x∈u.slots,x.1∈writes an o
 box:∀b,u.box=some b->b.1∈F5 an o
 iss:∀d,u.iss=some d->o.dst=some d
variable {E:Env} {Γ:xu} {an:An} {X:eo} {o:Oper} {st st2 bM:AS}
variable {parts:Array (Nat×Operand)} {args:Array Operand} {ts:Array TypeId} {t:Nat} {f p x:Operand} {T:TypeId} {tl:au (Nat×AV)} {cs:au AC}
theorem ael (zM:st2.ep=st.ep)(h:∀t∈tm x,st2.get t=st.get t):st2.rd x=st.rd x:=by cases x with|tmp t=>simp only[AS.rd,zM,h t (by simp[tm])]|const v=>rfl|func f=>rfl|global g=>rfl
def dY (E:Env)(Γ:xu)(an:An)(X:eo)(o:Oper)(st bM:AS):Prop:=
 ∃u:J3,u.Hu an o/\bM=u.apply st/\∀st2,gF an X o st st2->dg E Γ an o st2 some=some (u.apply st2)
def Ew (o:Oper)(v:AV):J3:={slots:=o.dst.toList.map λd=>(d,v)}
theorem tp (v:AV):(Ew o v).apply st=st.put o.dst v:=by unfold Ew J3.apply AS.put;cases o.dst<;>rfl
theorem CW (v:AV):(Ew o v).Hu an o:=by refine⟨λx hx=>?_,λb hb=>by simp[Ew]at hb,λd hd=>by simp[Ew]at hd⟩;simp only[Ew,List.mem_map]at hx;obtain⟨d,hd,rfl⟩:=hx;simp[writes,hd]
def H3 (o:Oper)(v:AV):J3:={slots:=o.dst.toList.map λd=>(d,v),iss:=o.dst}
theorem JZ (v:AV):(H3 o v).apply st=(st.fi o.dst).put o.dst v:=by unfold H3 J3.apply AS.put AS.fi;cases o.dst<;>rfl
theorem P6 (v:AV):(H3 o v).Hu an o:=by refine⟨λx hx=>?_,λb hb=>by simp[H3]at hb,λd hd=>by simpa[H3]using hd⟩;simp only[H3,List.mem_map]at hx;obtain⟨d,hd,rfl⟩:=hx;simp[writes,hd]
theorem dY.put {v:AV}(h:bM=st.put o.dst v)(h2:∀st2,gF an X o st st2->dg E Γ an o st2 some=some (st2.put o.dst v)):dY E Γ an X o st bM:=⟨Ew o v,CW v,by rw[tp];exact h,λst2 ha=>by rw[tp];exact h2 st2 ha⟩
theorem gF.rd (ha:gF an X o st st2)(hx:∀t∈tm x,t∈dA o):st2.rd x=st.rd x:=ael ha.ep λt ht=>ha.get t (hx t ht)
theorem X6 {c y:Operand}(ho:o.op=.pick c x y)(h:FG o c x y st some=some bM):dY E Γ an X o st bM:=by
 have hr:∀st2,gF an X o st st2->st2.rd c=st.rd c/\st2.rd x=st.rd x/\st2.rd y=st.rd y:=λst2 ha=>
  ⟨ha.rd (λt ht=>by simp[dA,ho,ht]),ha.rd (λt ht=>by simp[dA,ho,ht]),ha.rd (λt ht=>by simp[dA,ho,ht])⟩
 unfold FG at h;split at h;rename_i t hc;split at h;rename_i a b hx hy;cases h;refine dY.put rfl λst2 ha=>?_;obtain⟨h1,h2,h3⟩:=hr st2 ha;simp only[dg,ho,FG,h1,h2,h3,hc,hx,hy];rename_i va vb Ib;have hgo:∀st2,gF an X o st st2->dg E Γ an o st2 some=cond t (some (st2.put o.dst (st.rd x))) (some (st2.put o.dst (st.rd y))):=by intro st2 ha;obtain⟨h1,h2,h3⟩:=hr st2 ha;simp only[dg,ho,FG,h1,h2,h3,hc]
 cases t with|true=>cases h;exact dY.put rfl λst2 ha=>hgo st2 ha|false=>cases h;exact dY.put rfl λst2 ha=>hgo st2 ha
 cases h
theorem N2 {d s:Nat}{v:AV}:(⟨[(d,v)],some (s,cs),none⟩:J3).apply st=(st.eE s (some cs)).put (some d) v:=rfl
theorem RJ {o:Oper}(h:F1 an o=true):∃T q d,o.op=.load T (.tmp q)/\o.dst=some d/\o.guard=none/\an.mv.contains d=true/\an.mb d=none:=by unfold F1 at h;split at h;rename_i T q d ho hd hg;simp only[ah,Option.isNone_iff_eq_none]at h;exact⟨T,q,d,ho,hd,hg,h.1.1,h.1.2⟩;cases h
def JW (st:AS)(b j t:Nat)(e:CT)(i:Int)(cs:au AC)(ys:au e.D):AS:=st.eE b (some (gN cs j (.sl (.eY (some t) i (some st.ep)) e ys)))
theorem OZ {q d:Nat}(ht:F1 an o=true)(ho:o.op=.load T (.tmp q))(hd:o.dst=some d)(EK:an.mv.contains d=true)(Wz:an.mb d=none):(dx E an X o st=true/\pL E an o T (.tmp q) st some=some bM)↔ ∃(g:Bool)(e:CT)(kb:au (Nat×Nat))(b j t Na:Nat)(x:e.D)(i:Int)(cs:au AC)(ys:au e.D)(y:e.D),iY E.ty T=some ⟨g,e,kb⟩/\st.rd (.tmp q)=.val false [.Cd (.loc Na (some (.box b j,t))) e x i 0]/\(nth st.boxes b).getD none=some cs/\nth cs j=some (.sl (.own (some t)) e ys)/\idx ys i=some y/\ X.contains b=false/\an.eb q=some b/\Ww an o=false/\bM=(JW st b j t e i cs ys).put (some d) (.val g (cellsOf e (.own none) y)):=by
 have tI:F3 an o=true:=by unfold F3;rw[hd];simp only[EK,Wz];rfl
 have Lk:CV an o=false:=by unfold CV;split;rename_i hd' _;rw[hd]at hd';cases hd';rw[Wz];simp;rfl
 have hnp:Cn an o=false:=by unfold Cn;split;rename_i hd' _;rw[hd]at hd';cases hd';rw[EK];rfl;rfl
 constructor;rintro⟨hf,h⟩;unfold pL at h;split at h;rename_i hp;simp only[dx,ho,hp,hd,EK,Wz]at hf;simp at hf;rename_i sh fl e x i off hT hp;rw[aF tI]at h;simp only[dx,ho,hp,ht,Lk,hnp,Bool.or_false,bS,aj,cJ,gW,ah,aN]at hf;obtain⟨⟨Ia,Mt⟩,hb⟩:=hf;unfold zF at h;split at h;rename_i Na r t;cases r with
 |slot _ _=>cases hb
 |io _=>cases hb
 |box b j=>
  simp only[ah,bw,aN]at hb;split at h;rename_i t' e' ys UF;split at h;rename_i he;subst he;split at h;rename_i hc;obtain⟨rfl,rfl,Li⟩:=hc;obtain⟨g,ct,kb⟩:=sh;simp only at Li;subst Li;cases hi:idx ys i with|none=>simp only[hi,aa]at h;cases h|some y=>simp only[hi,aa]at h;cases h;simp only[AS.eL]at UF;obtain⟨cs,Ki,hj⟩:=aO.1 UF;refine⟨g,_,kb,b,j,_,Na,x,i,cs,ys,y,hT,hp,Ki,hj,hi,hb.2,hb.1,Mt,?_⟩;simp only[AS.eT,Ki,hd];rfl
  cases h;cases h;cases h
 cases h;cases h;rintro⟨g,e,kb,b,j,t,Na,x,i,cs,ys,y,hT,hp,Ki,hj,hi,hX,Sj,Mt,rfl⟩;constructor;simp only[dx,ho,hp,ht,Lk,hnp,Mt,hX,Sj];simp;simp only[pL,hT,hp,tI,cp,zF,AS.eL,Ki,eu,hj,dite_true,and_self,hi,aa,AS.eT,hd];rfl
theorem Vk (ht:F1 an o=true)(ho:o.op=.load T p)(fW:dx E an X o st=true)(h:pL E an o T p st some=some bM):dY E Γ an X o st bM:=by obtain⟨T',q,d,L5,hd,hg,EK,Wz⟩:=RJ ht;rw[ho]at L5;cases L5;obtain⟨g,e,kb,b,j,t,Na,x,i,cs,ys,y,hT,hp,Ki,hj,hi,hX,Sj,Mt,rfl⟩:=(OZ ht ho hd EK Wz).1 ⟨fW,h⟩;refine⟨⟨[(d,.val g (cellsOf e (.own none) y))],some (b,gN cs j (.sl (.eY (some t) i (some st.ep)) e ys)),none⟩,⟨λx hx=>?_,λb' gQ=>?_,λ_ hh=>by cases hh⟩,rfl,λst2 ha=>?_⟩;simp only[cH]at hx;subst hx;simp[writes,hd];cases gQ;simp only[F5,ho,hd,EK,af,ht,Sj];simp;have h2:=((OZ (E:=E) (X:=X) (st:=st2) ht ho hd EK Wz).2 ⟨g,e,kb,b,j,t,Na,x,i,cs,ys,y,hT,by rw[ha.rd (λt ht=>by simpa[dA,ho]using ht)];exact hp,by rw[ha.box b hX];exact Ki,hj,hi,hX,Sj,Mt,rfl⟩).2;simp only[dg,ho];rw[h2];simp only[JW,ha.ep];rfl
theorem X4 (ho:o.op=.load T p)(hm:nO an o=true)(fW:dx E an X o st=true)(h:pL E an o T p st some=some bM):dY E Γ an X o st bM:=by
 cases hE:F1 an o with|true=>exact Vk hE ho fW h|false=> ?_
 have hr:∀st2,gF an X o st st2->st2.rd p=st.rd p:=λst2 ha=>ha.rd (λt ht=>by simpa[dA,ho]using ht);have tI:F3 an o=false:=by simp only[nO,ho,hE,Bool.or_false]at hm;unfold F3;cases Si:o.dst with|none=>rfl|some d=>rw[Si]at hm;simp only[di,aN]at hm;rcases hm with hm|hm;simp only[hm,gD];cases Wz:an.mb d with|none=>rw[Wz]at hm;cases hm|some _=>simp[Wz]
 unfold pL at h;split at h;rename_i sh s off hT hp;simp only[dx,ho,hp,ah,aN]at fW;split at h;rename_i cs hb;split at h;rename_i gy;split at h;rename_i d hd;have jX:∀st2,gF an X o st st2->nth st2.boxes s=nth st.boxes s:=λst2 ha=>ha.box s fW.1.1;cases hf:an.mv.contains d with
 |false=>simp only[hf,aX,cc]at h;cases h;refine dY.put (by rw[hd]) λst2 ha=>?_;simp only[dg,ho,pL,hT,hr st2 ha,hp,jX st2 ha,hb,aF gy,hd,hf,aX,cc,ha.ep]
 |true=>
  simp only[hf,cp]at h;have Wz:an.mb d=some s:=by have:=fW.1.2;rw[hd]at this;simp only[hf,aj,cJ,bw]at this;exact this
  cases h;refine⟨⟨[(d,.val sh.agg ((cs.drop off).take sh.ct.size))],some (s,dZ cs off (aS st.ep ((cs.drop off).take sh.ct.size))),none⟩,⟨λx hx=>?_,λb gQ=>?_,λ_ hh=>by cases hh⟩,?_,λst2 ha=>?_⟩;simp only[cH]at hx;subst hx;simp[writes,hd];cases gQ;simp only[F5,ho,hd,hf,af,Wz];simp;rw[N2,hd];simp only[dg,ho,pL,hT,hr st2 ha,hp,jX st2 ha,hb,aF gy,hd,hf,cp,ha.ep,N2]
 cases h;cases h;cases h;rename_i sh fl e x i off hT hp;rw[aH (by simp[tI])]at h;split at h;rename_i hl;split at h;rename_i gy;cases h;refine dY.put rfl λst2 ha=>?_;simp only[dg,ho,pL,hT,hr st2 ha,hp,ha.ep,tI,aX,cc,aF hl,aF gy];cases h;rename_i hl;have G7:∀r t Na,fl=.loc Na (some (r,t))->∀st2,gF an X o st st2->st2.eL r=st.eL r:=by rintro r t Na rfl st2 ha;simp only[dx,ho,hp,hE,bS,jW,gW,ah,di]at fW;rcases fW.1.1 with hq|hq;exact absurd hq hl;cases r with|slot b j=>simp only[AS.eL];rw[ha.er b (by simpa using hq)]|box b j=>simp only[AS.eL];rw[ha.box b (by simpa using hq)]|io j=>cases hq
 unfold Ep at h;split at h;rename_i Na r t;split at h;rename_i t' e' ys UF;split at h;rename_i he;split at h;rename_i hc;cases hi:idx (he▸ys:List _) i with|none=>rw[hi]at h;cases h|some y=>rw[hi]at h;simp only[aa]at h;cases h;refine dY.put rfl λst2 ha=>?_;simp only[dg,ho,pL,hT,hr st2 ha,hp,ha.ep,tI,aX,cc,aH hl,Ep,G7 _ _ _ rfl st2 ha,UF,dif_pos he,aF hc,hi,aa]
 cases h;cases h;cases h;cases h;cases h
theorem N7 (ho:o.op=.nilCheck x)(h:dg E Γ an o st some=some bM):dY E Γ an X o st bM:=by have hr:∀st2,gF an X o st st2->st2.rd x=st.rd x:=λst2 ha=>ha.rd (λt ht=>by simpa[dA,ho]using ht);simp only[dg,ho]at h;split at h;rename_i s off hx;cases h;refine dY.put rfl λst2 ha=>?_;simp only[dg,ho,hr st2 ha,hx];rename_i fl e y i off hx;cases h;refine dY.put rfl λst2 ha=>?_;simp only[dg,ho,hr st2 ha,hx];cases h
theorem O7 {op:BinOp}{x y:AV}(h:(GQ op x y λc=>some (st.put o.dst (.one c)))=some bM):∃v,bM=st.put o.dst v/\∀st2:AS,(GQ op x y λc=>some (st2.put o.dst (.one c)))=some (st2.put o.dst v):=by have key:∀s:AS,(GQ op x y λc=>some (s.put o.dst (.one c)))=(GQ op x y some).bind λc=>some (s.put o.dst (.one c)):=λs=>(Gb op x y some _).symm;rw[key st]at h;cases hb:GQ op x y some with|none=>rw[hb]at h;cases h|some c=>rw[hb]at h;cases h;exact⟨_,rfl,λst2=>by rw[key st2,hb];rfl⟩
theorem RL {op:BinOp}{b:Bool}(h:(EG op b λc=>some (st.put o.dst (.one c)))=some bM):∃v,bM=st.put o.dst v/\∀st2:AS,(EG op b λc=>some (st2.put o.dst (.one c)))=some (st2.put o.dst v):=by unfold EG at h;split at h;cases h;exact⟨_,rfl,λst2=>rfl⟩;cases h;exact⟨_,rfl,λst2=>rfl⟩;cases h
theorem abn {op:BinOp}{T':TypeId}{y:Operand}(ho:o.op=.binOp op T x y T')(h:B9 E o op T x y st some=some bM):dY E Γ an X o st bM:=by
 have hr:∀st2,gF an X o st st2->st2.rd x=st.rd x/\st2.rd y=st.rd y:=λst2 ha=>
  ⟨ha.rd (λt ht=>by simp[dA,ho,ht]),ha.rd (λt ht=>by simp[dA,ho,ht])⟩
 unfold B9 at h;split at h;rename_i a b hx hy;split at h;rename_i hT;obtain⟨v,rfl,hv⟩:=O7 h;refine dY.put rfl λst2 ha=>?_;simp only[dg,ho,B9,(hr st2 ha).1,(hr st2 ha).2,hx,hy,aF hT];exact hv st2;cases h;rename_i xs ys hx hy;split at h;rename_i ls hq;split at h;rename_i gy;obtain⟨v,rfl,hv⟩:=O7 h;refine dY.put rfl λst2 ha=>?_;simp only[dg,ho,B9,(hr st2 ha).1,(hr st2 ha).2,hx,hy,hq,aF gy];exact hv st2;cases h;cases h;rename_i fl e xs hx hy;split at h;rename_i hT;split at h;cases h;rename_i hlen;obtain⟨v,rfl,hv⟩:=RL h;refine dY.put rfl λst2 ha=>?_;simp only[dg,ho,B9,(hr st2 ha).1,(hr st2 ha).2,hx,hy,ha.ep,aF hT,aH hlen];exact hv st2;cases h;rename_i hx hy;split at h;rename_i hT;obtain⟨v,rfl,hv⟩:=RL h;refine dY.put rfl λst2 ha=>?_;simp only[dg,ho,B9,(hr st2 ha).1,(hr st2 ha).2,hx,hy,aF hT];exact hv st2;cases h;rename_i a b Kk E1 hn3 hn4;obtain⟨v,rfl,hv⟩:=O7 h;refine dY.put rfl λst2 ha=>?_;simp only[dg,ho,B9,(hr st2 ha).1,(hr st2 ha).2];exact hv st2
theorem ad2 {op:UnOp}(ho:o.op=.unOp op T x)(h:(unC op (st.rd x) λc=>some (st.put o.dst (.one c)))=some bM):dY E Γ an X o st bM:=by have hr:∀st2,gF an X o st st2->st2.rd x=st.rd x:=λst2 ha=>ha.rd (λt ht=>by simpa[dA,ho]using ht);have key:∀s:AS,(unC op (st.rd x) λc=>some (s.put o.dst (.one c)))=(unC op (st.rd x) some).bind λc=>some (s.put o.dst (.one c)):=λs=>(Wm op (st.rd x) some _).symm;rw[key st]at h;cases hb:unC op (st.rd x) some with|none=>rw[hb]at h;cases h|some c=>rw[hb]at h;cases h;refine dY.put rfl λst2 ha=>?_;simp only[dg,ho,hr st2 ha];rw[key st2,hb];rfl
theorem Vg {S:TypeId}{f:Nat}(ho:o.op=.fieldAddr S p f)(h:Bu E o S p f st some=some bM):dY E Γ an X o st bM:=by have hr:∀st2,gF an X o st st2->st2.rd p=st.rd p:=λst2 ha=>ha.rd (λt ht=>by simpa[dA,ho]using ht);unfold Bu at h;split at h;rename_i hT hp;split at h;rename_i hf;cases h;refine dY.put rfl λst2 ha=>?_;simp only[dg,ho,Bu,hr st2 ha,hT,hp,hf];cases h;rename_i hT hp;split at h;rename_i hf;cases h;refine dY.put rfl λst2 ha=>?_;simp only[dg,ho,Bu,hr st2 ha,hT,hp,hf];cases h;cases h
theorem Bh {v:AV}{s:AS}(h:v.now s.ep=true):v.fresh s=v:=by
 cases v with
 |xn vs=>rfl
 |val g cs=>
  simp only[AV.now,aL]at h;simp only[AV.fresh];congr 1;have:cs.map s.fresh=cs.map id:=List.map_congr_left λc hc=>by have hn:=h c hc;unfold AS.fresh;split;simp only[AC.now]at hn;rw[hn];rfl;rfl
  rw[this,List.map_id]
theorem Ui {v:AV}{st st2:AS}(he:st2.ep=st.ep)(h:v.now st.ep=true\/∃g ep b j t e xs,v=.val g [.sl (.loc ep (some (.box b j,t))) e xs]/\nth st2.boxes b=nth st.boxes b):v.fresh st2=v.fresh st:=by rcases h with h|⟨g,ep,b,j,t,e,xs,rfl,hb⟩;rw[Bh h,Bh (by rw[he];exact h)];simp only[AV.fresh,List.map_cons,List.map_nil];congr 2;unfold AS.fresh;simp only[AS.eL,he,hb]
theorem L9 {i:Operand}(ho:o.op=.indexAddr T x i)(fW:dx E an X o st=true)(h:mG E o T x i st some=some bM):dY E Γ an X o st bM:=by
 have hr:∀st2,gF an X o st st2->st2.rd x=st.rd x/\st2.rd i=st.rd i:=λst2 ha=>
  ⟨ha.rd (λt ht=>by simp[dA,ho,ht]),ha.rd (λt ht=>by simp[dA,ho,ht])⟩
 have EH:∀st2,gF an X o st st2->(st.rd x).fresh st2=(st.rd x).fresh st:=λst2 ha=>by refine Ui ha.ep ?_;simp only[dx,ho,di]at fW;rcases fW with hn|hn;exact .inl hn;split at hn;rename_i g ep b j t e xs hx;exact .inr ⟨g,ep,b,j,t,e,xs,hx,ha.box b (by simpa using hn)⟩;cases hn
 unfold mG at h;split at h;rename_i e' fl e xs k n hT hx hi;split at h;rename_i hc;cases Fq:idx xs n with|none=>rw[Fq]at h;cases h|some y=>rw[Fq]at h;cases h;refine dY.put rfl λst2 ha=>?_;have hf3:=EH st2 ha;rw[hx]at hf3;simp only[dg,ho,mG,(hr st2 ha).1,(hr st2 ha).2,hf3,hT,hi,ha.ep,aF hc,Fq,aa]
 cases h;cases h
theorem Vh {i:Operand}(ho:o.op=.index T x i)(h:CL E o T x i st some=some bM):dY E Γ an X o st bM:=by
 have hr:∀st2,gF an X o st st2->st2.rd x=st.rd x/\st2.rd i=st.rd i:=λst2 ha=>
  ⟨ha.rd (λt ht=>by simp[dA,ho,ht]),ha.rd (λt ht=>by simp[dA,ho,ht])⟩
 unfold CL at h;split at h;rename_i s k n hx hi;split at h;rename_i hc;cases Fq:idx s n with|none=>rw[Fq]at h;cases h|some y=>rw[Fq]at h;cases h;refine dY.put rfl λst2 ha=>?_;simp only[dg,ho,CL,(hr st2 ha).1,(hr st2 ha).2,hx,hi,aF hc,Fq,aa]
 cases h;cases h
theorem dY.new {v:AV}(h:bM=(st.fi o.dst).put o.dst v)(h2:∀st2,gF an X o st st2->dg E Γ an o st2 some=some ((st2.fi o.dst).put o.dst v)):dY E Γ an X o st bM:=⟨H3 o v,P6 v,by rw[JZ];exact h,λst2 ha=>by rw[JZ];exact h2 st2 ha⟩
theorem gF.gZ (ha:gF an X o st st2):st2.gZ o.dst=st.gZ o.dst:=by funext j;cases hd:o.dst with|none=>rfl|some d=>simp only[AS.gZ,(ha.dst d hd).1]
theorem Jd {lo hi:ax Operand}{n:Nat}{f:AS->Int->Int->ax AS}(hs:∀st2,gF an X o st st2->lo.map st2.rd=lo.map st.rd/\hi.map st2.rd=hi.map st.rd)(h:mZ st lo hi n (f st)=some bM):∃a b,f st a b=some bM/\∀st2,gF an X o st st2->mZ st2 lo hi n (f st2)=f st2 a b:=by unfold mZ at h;split at h;rename_i h1 h2;exact⟨_,_,h,λst2 ha=>by simp only[mZ,(hs st2 ha).1,(hs st2 ha).2,h1,h2]⟩;rename_i h1 h2;exact⟨_,_,h,λst2 ha=>by simp only[mZ,(hs st2 ha).1,(hs st2 ha).2,h1,h2]⟩;rename_i h1 h2;exact⟨_,_,h,λst2 ha=>by simp only[mZ,(hs st2 ha).1,(hs st2 ha).2,h1,h2]⟩;rename_i h1 h2;exact⟨_,_,h,λst2 ha=>by simp only[mZ,(hs st2 ha).1,(hs st2 ha).2,h1,h2]⟩;cases h
theorem Vi {lo hi:ax Operand}(ho:o.op=.slice T x lo hi none)(hm:nO an o=true)(fW:dx E an X o st=true)(h:BQ E an o T x lo hi st some=some bM):dY E Γ an X o st bM:=by
 have hr:∀st2,gF an X o st st2->st2.rd x=st.rd x:=λst2 ha=>ha.rd (λt ht=>by simp[dA,ho,ht]);have hb:∀st2,gF an X o st st2->lo.map st2.rd=lo.map st.rd/\hi.map st2.rd=hi.map st.rd:=by
  intro st2 ha;constructor;cases lo with|none=>rfl|some y=>simp only[dk];rw[ha.rd (λt ht=>by simp[dA,ho,tmO,ht])]
  cases hi with|none=>rfl|some y=>simp only[dk];rw[ha.rd (λt ht=>by simp[dA,ho,tmO,ht])]
 have Fu:(st.rd x).now st.ep=true:=by simpa[dx,ho]using fW
 have EH:∀st2,gF an X o st st2->(st.rd x).fresh st2=st.rd x:=λst2 ha=>Bh (by rw[ha.ep];exact Fu);have tI:F3 an o=false:=by simpa[nO,ho]using hm
 unfold BQ at h;rw[aH (by simp[tI]),Bh Fu]at h;split at h;rename_i s hx;split at h;rename_i hT;obtain⟨a,b,h1,h2⟩:=Jd (f:=λs0 a b=>aa (sub s a b) λs'=>some (s0.put o.dst (.one (.str s')))) hb h;cases qs:sub s a b with|none=>rw[qs]at h1;cases h1|some s'=>rw[qs]at h1;cases h1;refine dY.put rfl λst2 ha=>?_;have hf3:=EH st2 ha;rw[hx]at hf3;simp only[dg,ho,BQ,tI,aX,cc,hr st2 ha,hx,hf3,aF hT];rw[h2 st2 ha,qs];rfl
 cases h;rename_i fl e xs hx;split at h;rename_i hT;obtain⟨a,b,h1,h2⟩:=Jd (f:=λs0 a b=>aa (sub xs a b) λPj=>some (s0.put o.dst (.one (.sl (Of an o fl a) e Pj)))) hb h;cases qs:sub xs a b with|none=>rw[qs]at h1;cases h1|some s'=>rw[qs]at h1;cases h1;refine dY.put rfl λst2 ha=>?_;have hf3:=EH st2 ha;rw[hx]at hf3;simp only[dg,ho,BQ,tI,aX,cc,hr st2 ha,hx,hf3,ha.ep,aF hT];rw[h2 st2 ha,qs];rfl
 cases h;cases h
theorem Hv {args:au Operand}(hl:∀t,t∈P5 args->t∈dA o)(ha:gF an X o st st2):args.map st2.rd=args.map st.rd:=by apply List.map_congr_left;intro x hx;exact ha.rd (λt ht=>hl t (by simp only[P5,List.mem_flatMap];exact⟨x,hx,ht⟩))
theorem abp (ho:o.op=.call {callee:=.builtin .len,args,argTypes:=ts})(h:N1 E o ts.toList args.toList st some=some bM):dY E Γ an X o st bM:=by have hr:∀st2,gF an X o st st2->args.toList.map st2.rd=args.toList.map st.rd:=λst2 ha=>Hv (λt ht=>by simp only[dA,ho];exact ht) ha;unfold N1 at h;split at h;rename_i t s ur hx;split at h;rename_i hT;cases h;refine dY.put rfl λst2 ha=>?_;simp only[dg,ho,N1,hr st2 ha,ur,hx,aF hT];cases h;rename_i t _ _ xs ur hx;split at h;rename_i hT;cases h;refine dY.put rfl λst2 ha=>?_;simp only[dg,ho,N1,hr st2 ha,ur,hx,aF hT];cases h;cases h
theorem abr (ho:o.op=.call {callee:=.builtin .min,args,argTypes:=ts})(h:PH o args.toList st some=some bM):dY E Γ an X o st bM:=by have hr:∀st2,gF an X o st st2->args.toList.map st2.rd=args.toList.map st.rd:=λst2 ha=>Hv (λt ht=>by simp only[dA,ho];exact ht) ha;unfold PH at h;split at h;rename_i hx;cases h;refine dY.put rfl λst2 ha=>?_;simp only[dg,ho,PH,hr st2 ha,hx];cases h
theorem abq (ho:o.op=.call {callee:=.builtin .max,args,argTypes:=ts})(h:PG o args.toList st some=some bM):dY E Γ an X o st bM:=by have hr:∀st2,gF an X o st st2->args.toList.map st2.rd=args.toList.map st.rd:=λst2 ha=>Hv (λt ht=>by simp only[dA,ho];exact ht) ha;unfold PG at h;split at h;rename_i hx;cases h;refine dY.put rfl λst2 ha=>?_;simp only[dg,ho,PG,hr st2 ha,hx];cases h
theorem abd {l:eo}{c:AC}(h:c.aey l=true)(hl:∀t∈l,st2.get t=st.get t):st2.PF c=st.PF c:=by
 cases c with
 |sl fl e xs=>
  cases fl with
  |loc ep pv=>cases pv with|none=>rfl|some q=>obtain⟨r,t⟩:=q;cases r with|slot b j=>have hb:st2.get b=st.get b:=hl b (by simpa[AC.aey]using h);simp only[AS.PF,AS.eL,hb]|box _ _=>rfl|io _=>rfl
  |_=>rfl
 |_=>rfl
theorem XV {l:eo}(hx:Jv l st x=true)(hl:∀t∈l,st2.get t=st.get t)(h:∀t∈tm x,st2.get t=st.get t):Cl st2 x=Cl st x/\Dj st2 x=Dj st x:=by
 cases x with
 |tmp t=>have ht:=h t (by simp[tm]);simp only[Jv]at hx;cases hg:st.get t with|xn vs=>exact⟨by simp only[Cl,ht,hg],by simp only[Dj,ht,hg]⟩|val g cs=>rw[hg]at hx;have hm:cs.map st2.PF=cs.map st.PF:=List.map_congr_left λc hc=>abd (aL.1 hx c hc) hl;exact⟨by simp only[Cl,ht,hg,hm],by simp only[Dj,ht,hg,hm]⟩
 |const v=>exact⟨rfl,rfl⟩
 |func f=>exact⟨rfl,rfl⟩
 |global g=>exact⟨rfl,rfl⟩
theorem PI (ho:o.op=.call {callee:=.value f,args,argTypes:=ts})(fW:dx E an X o st=true){k:Nat}(hf:st.rd f=.val false [.fn k])(jX:(Γ k).bx=true)(hcur:(Γ k).cur=true)(h:vK Γ o k args.toList st some=some bM):dY E Γ an X o st bM:=by
 unfold vK at h;split at h;rename_i x0 xs fy;split at h;rename_i s hx0;have jz:um an X (erS an o) st (x0::xs)=true:=by have h1:=fW;simp only[dx,ho,ah]at h1;rw[<-fy];exact h1.1
 have hx1:∃q,x0=.tmp q/\X.contains s=false/\an.sb q=some s/\(match (nth st.boxes s).getD none with|some cs=>cs.all AC.Ii|none=>true)=true/\xs.all (Jv (erS an o) st)=true:=by cases x0 with|tmp q=>simp only[um,hx0,acW,ah,aN,bw]at jz;exact⟨q,rfl,jz.1.1.1,jz.1.1.2,jz.1.2,jz.2⟩|const v=>simp only[um,hx0,AV.ZF]at jz;cases jz|func v=>simp only[um,hx0,AV.ZF]at jz;cases jz|global v=>simp only[um,hx0,AV.ZF]at jz;cases jz
 obtain⟨q,rfl,hX,hsb,EU,Cg⟩:=hx1;split at h;rename_i cs TD;rw[TD]at EU;simp only at EU;cases hc:(cs.all (AC.Ac (EC cs))&&xs.all (Dj st))with
 |false=>rw[hc]at h;cases h
 |true=>
  rw[hc]at h;simp only[af]at h;cases fG:(Γ k).fn (.val true (cs.map AC.To)::xs.map (Cl st))with
  |none=>rw[fG]at h;cases h
  |some y=>
   rw[fG]at h;simp only[aa]at h;cases Xn:(((Γ k).back y).all (AC.Ac true)&&((Γ k).av y).abv)with
   |false=>rw[Xn]at h;cases h
   |true=>
    rw[Xn]at h;simp only[af,hcur,EU,dE,ba]at h;subst h;refine⟨⟨o.dst.toList.map λd=>(d,((Γ k).av y).ED st.ep (st.gZ o.dst)),some (s,qd (EC cs) (λ_=>none) 0 ((Γ k).back y)),o.dst⟩,⟨λx hx=>?_,λb hb=>?_,λd hd=>hd⟩,?_,λst2 ha=>?_⟩;simp only[List.mem_map]at hx;obtain⟨d,hd,rfl⟩:=hx;simp[writes,hd];cases hb;simp[F5,ho,fy,hsb];unfold J3.apply AS.put AS.fi AS.eE;cases o.dst<;>rfl;have e1:st2.rd f=st.rd f:=ha.rd (λt ht=>by simp[dA,ho,ht]);have hl:∀x∈Operand.tmp q::xs,∀t∈tm x,t∈dA o:=by intro x hx t ht;simp only[dA,ho,aA,P5,List.mem_flatMap,fy];exact .inr ⟨x,hx,ht⟩
    have e2:st2.rd (.tmp q)=st.rd (.tmp q):=ha.rd (hl _ (by simp));have e3:nth st2.boxes s=nth st.boxes s:=ha.box s hX;have e4:∀x∈xs,Cl st2 x=Cl st x/\Dj st2 x=Dj st x:=λx hx=>XV (aL.1 Cg x hx) ha.er λt ht=>ha.get t (hl x (by simp[hx]) t ht);have e5:xs.map (Cl st2)=xs.map (Cl st):=List.map_congr_left λx hx=>(e4 x hx).1;have e6:xs.all (Dj st2)=xs.all (Dj st):=by rw[fe];simp only[aL];exact⟨λg x hx=>by rw[<-(e4 x hx).2];exact g x hx,λg x hx=>by rw[(e4 x hx).2];exact g x hx⟩
    simp only[dg,ho,EE,e1,hf,jX,af,vK,fy,e2,hx0,e3,TD,e5,e6,hc,fG,aa,Xn,hcur,EU,dE,ha.ep,ha.gZ];unfold J3.apply AS.put AS.fi AS.eE;cases o.dst<;>rfl
 cases h;cases h;cases h
theorem X3 (B5:∀f,(Γ f).io=false/\((Γ f).bx=true->(Γ f).cur=true)/\(Γ f).pr=false)(ho:o.op=.call {callee:=.value f,args,argTypes:=ts})(fW:dx E an X o st=true)(h:EE Γ o f args.toList st some=some bM):dY E Γ an X o st bM:=by
 have hr:∀st2,gF an X o st st2->st2.rd f=st.rd f/\(args.toList.map λx=>((st2.rd x).fresh st2).asArg st2.ep)=args.toList.map λx=>((st.rd x).fresh st).asArg st.ep:=by
  intro st2 ha;refine⟨ha.rd (λt ht=>by simp[dA,ho,ht]),?_⟩;apply List.map_congr_left;intro x hx;have Fu:(st.rd x).now st.ep=true:=by simp only[dx,ho,ah,aL]at fW;exact fW.2 x hx
  rw[ha.rd (λt ht=>by simp only[dA,ho,aA,P5,List.mem_flatMap];exact .inr ⟨x,hx,ht⟩),Bh Fu,Bh (s:=st2) (by rw[ha.ep];exact Fu),ha.ep]
 unfold EE at h;split at h
 ·rename_i k hf
  cases jX:(Γ k).bx with
  |true=>rw[jX]at h;exact PI ho fW hf jX ((B5 k).2.1 jX) h
  |false=>
  rw[jX,(B5 k).2.2,(B5 k).1]at h
  simp only[ae]at h
  cases hg:(Γ k).fn (args.toList.map λx=>((st.rd x).fresh st).asArg st.ep)with
  |none=>rw[hg]at h;cases h
  |some y=>
   rw[hg]at h
   simp only[aa]at h
   cases Pz:(Γ k).sel y with
   |true=>
    rw[Pz]at h
    cases h
    refine dY.new rfl λst2 ha=>?_
    simp only[dg,ho,EE,(hr st2 ha).1,hf,(B5 k).1,jX,(B5 k).2.2,ae]
    rw[(hr st2 ha).2,hg]
    simp only[aa,Pz,af,ha.ep,ha.gZ]
   |false=>
    rw[Pz]at h
    cases h
    refine dY.new rfl λst2 ha=>?_
    simp only[dg,ho,EE,(hr st2 ha).1,hf,(B5 k).1,jX,(B5 k).2.2,ae]
    rw[(hr st2 ha).2,hg]
    simp only[aa,Pz,ae,ha.ep,ha.gZ]
 cases h
theorem PJ {src dst:TypeId}(ho:o.op=.convert src dst x)(h:lR E o src dst x st some=some bM):dY E Γ an X o st bM:=by
 have hr:∀st2,gF an X o st st2->st2.rd x=st.rd x:=λst2 ha=>ha.rd (λt ht=>by simpa[dA,ho]using ht);unfold lR at h;split at h;rename_i h1 h2 h3;cases h;refine dY.put rfl λst2 ha=>?_;simp only[dg,ho,lR,hr st2 ha,h1,h2,h3];rename_i h1 h2 h3;cases h;refine dY.put rfl λst2 ha=>?_;simp only[dg,ho,lR,hr st2 ha,h1,h2,h3];rename_i kb val s Ib h1 h2 h3;split at h;rename_i hb;unfold room at h;split at h;rename_i hrm;cases h;refine dY.new (v:=.one (.sl (.own (st.gZ o.dst 0)) (.int .u8) (dq s))) rfl λst2 ha=>?_;have HO:∀k:AS->ax AS,lR E o src dst x st2 k=if E.bytes dst then room s.length (k (st2.qt o.dst (.int .u8) (dq s))) else none:=by intro k;unfold lR;rw[hr st2 ha,h1,h2,h3];obtain⟨ag,ct,of⟩:=val;cases ag with|true=>rfl|false=>cases ct with|str=>exact(Ib _ rfl).elim|_=>rfl
 simp only[dg,ho];rw[HO,aF hb,room,aF hrm,AS.qt,ha.gZ];cases h;cases h;rename_i val kb fl xs h1 h2 h3;split at h;rename_i hb;cases h;refine dY.put rfl λst2 ha=>?_;have HO:∀k:AS->ax AS,lR E o src dst x st2 k=if E.bytes src/\fl.live st2.ep then k (st2.put o.dst (.one (.str (aK xs)))) else none:=by intro k;unfold lR;rw[hr st2 ha,h1,h2,h3];obtain⟨ag,ct,of⟩:=val;cases ag with|true=>rfl|false=>cases ct<;>rfl
 simp only[dg,ho];rw[HO,ha.ep,aF hb];cases h;cases h
theorem K4 {d:Nat}{v:AV}:(⟨[(d,v)],some (d,cs),none⟩:J3).apply st=(st.eE d (some cs)).put (some d) v:=rfl
theorem Ve (ho:o.op=.alloc T)(h:DH E o T st some=some bM):dY E Γ an X o st bM:=by unfold DH at h;split at h;rename_i d sh hd hT;split at h;rename_i hb;cases h;refine⟨⟨[(d,.one (.ptr d 0))],some (d,cellsOf sh.ct (.own none) sh.ct.zero),none⟩,⟨λx hx=>?_,λb gQ=>?_,λ_ hh=>by cases hh⟩,?_,λst2 ha=>?_⟩;simp only[cH]at hx;subst hx;simp[writes,hd];cases gQ;simp[F5,ho,hd];rw[K4,hd];simp only[dg,ho,DH,hd,hT,(ha.dst d hd).2,hb,K4];cases h;cases h
def oH (st:AS):Operand->au (Nat×AV)
 | .tmp t=>[(t,(st.get t).aS st.ep)]
 |_=>[]
theorem CO (l:au AV)(a b:au (Nat×AV)):kc l (a++b)=kc (kc l a) b:=by induction a generalizing l with|nil=>rfl|cons x a ih=>exact ih _
def AS.km (st:AS)(l:au (Nat×AV)):AS:={st with slots:=kc st.slots l}
theorem rL (a b:au (Nat×AV)):st.km (a++b)=(st.km a).km b:=by simp only[AS.km,CO]
theorem Dz (x:Operand):(st.take x).2=st.km (oH st x):=by cases x<;>rfl
theorem Et (zM:st2.ep=st.ep)(h:∀t∈tm x,st2.get t=st.get t):(st2.take x).1=(st.take x).1/\(st2.take x).2=st2.km (oH st x):=by cases x with|tmp t=>have:=h t (by simp[tm]);refine⟨this,?_⟩;rw[Dz];simp only[oH,this,zM]|const v=>exact⟨rfl,rfl⟩|func f=>exact⟨rfl,rfl⟩|global g=>exact⟨rfl,rfl⟩
theorem JX:∀y∈oH st x,y.1∈tm x:=by cases x<;>simp[oH,tm]
theorem X5 (ho:o.op=.move x)(h:Dp an o x st some=some bM):dY E Γ an X o st bM:=by
 unfold Dp at h;cases hd:o.dst with
 |none=>rw[hd]at h;cases h
 |some d=>
  rw[hd]at h;cases hf:an.mv.contains d with
  |false=>simp only[hf,aX,cc]at h;cases h;refine dY.put (v:=st.rd x) (by rw[hd]) λst2 ha=>?_;have hr:st2.rd x=st.rd x:=ha.rd (λt ht=>by simpa[dA,ho]using ht);simp only[dg,ho,Dp,hd,hf,aX,cc,hr]
  |true=>
   simp only[hf,cp]at h;cases h;have hr:∀st2,gF an X o st st2->(st2.take x).1=(st.take x).1/\(st2.take x).2=st2.km (oH st x):=λst2 ha=>Et ha.ep λt ht=>ha.get t (by simpa[dA,ho]using ht);refine⟨⟨oH st x++[(d,(st.take x).1)],none,none⟩,⟨λy hy=>?_,λ_ hh=>(by cases hh),λ_ hh=>(by cases hh)⟩,?_,λst2 ha=>?_⟩;rcases aA.1 hy with hy|hy;have:=JX y hy;have hf':d∈an.mv:=by simpa using hf
   simp[writes,F2,ho,hd,hf',dA,this];simp only[cH]at hy;subst hy;simp[writes,hd];rw[Dz];show _=st.km _;rw[rL];rfl;simp only[dg,ho,Dp,hd,hf,cp,(hr st2 ha).1,(hr st2 ha).2];show some ((st2.km (oH st x)).put (some d) (st.take x).1)=some (st2.km _);rw[rL];rfl
theorem Uc {ep:Nat}(h:cs.all AC.jl=true):aS ep cs=cs:=by
 rw[aL]at h;unfold aS;have:cs.map (AC.borrow ep none)=cs.map id:=List.map_congr_left λc hc=>by have:=h c hc;cases c<;>first|rfl|(simp[AC.jl]at this)
 rw[this,List.map_id]
theorem afV {s:AS}{vs:au (Bool×au AC)}(h:s.get t=.xn vs):s.put (some t) (.xn vs)=s:=by cases s with|mk slots boxes ep iss io=>simp only[AS.put,AS.mk.injEq,iH];rw[fg];apply cS;intro i;rw[br];split;rename_i hd;subst hd;simp only[AS.get,dJ]at h;split;rename_i gB;rw[al gB]at h⊢;simp only[fj]at h;rw[h];rename_i Ae;rw[bJ (Nat.le_of_not_lt Ae)];rfl
theorem PL {i:Nat}(ho:o.op=.extract (.tmp t) i)(fW:dx E an X o st=true)(h:lS o t i st some=some bM):dY E Γ an X o st bM:=by
 have hr:∀st2,gF an X o st st2->st2.get t=st.get t:=λst2 ha=>ha.get t (by simp[dA,ho]);unfold lS at h;simp only[dx,ho]at fW;split at h
 ·rename_i vs hv;rw[hv]at fW;split at h
  ·rename_i g cs hn;simp only[hn]at fW;have hfl:cs.all AC.jl=true\/∃d,o.dst=some d/\an.mv.contains d=true:=by cases hd:o.dst with|none=>simp only[hd,Bool.or_false]at fW;exact .inl fW|some d=>simp only[hd,di]at fW;rcases fW with h|h;exact .inl h;exact .inr ⟨d,rfl,h⟩
   rcases hfl with fW|⟨d,hd,EK⟩;rotate_left;cases h;refine⟨⟨[(t,.xn (gN vs i (g,aS 0 cs))),(d,.val g cs)],none,none⟩,⟨λx hx=>?_,(λ_ hb=>by cases hb),(λ_ hh=>by cases hh)⟩,?_,λst2 ha=>?_⟩;simp only[cg,List.not_mem_nil,or_false]at hx;rcases hx with rfl|rfl;simp only[writes,F2,ho,hd,EK,af,dA];simp;simp only[writes,hd];simp;rw[hd];rfl;have h2:st2.get t=.xn vs:=by rw[hr st2 ha,hv]
   simp only[dg,ho,lS,h2,hn,hd];rfl;skip;have Fv:gN vs i (g,cs)=vs:=by rw[fg];rw[dJ]at hn;apply cS;intro k;rw[br];split;rename_i hk;subst hk;obtain⟨hl,he⟩:=aE.1 hn;rw[aF hl,hn];rfl
   have key:∀s:AS,s.get t=.xn vs->(s.put (some t) (.xn (gN vs i (g,aS 0 cs))))=s:=λs hs=>by rw[Uc fW,Fv,afV hs]
   rw[key st hv]at h;cases h;refine dY.put rfl λst2 ha=>?_;have h2:st2.get t=.xn vs:=by rw[hr st2 ha,hv]
   simp only[dg,ho,lS,h2,hn];rw[key st2 h2]
  cases h
 cases h
def Bb (st:AS):Operand->au (Nat×AV)
 | .tmp t=>[(t,(st.get t).aS st.ep)]
 |_=>[]
theorem O2 (st:AS)(x:Operand):(st.take x).2=⟨kc st.slots (Bb st x),st.boxes,st.ep,st.iss,st.io⟩:=by cases x<;>rfl
theorem Vj {pp:Nat}(ho:o.op=.store T (.tmp pp) x)(hd:o.dst=none)(hm:nO an o=true)(fW:dx E an X o st=true)(h:xY E T (.tmp pp) x st some=some bM):dY E Γ an X o st bM:=by
 have hr:∀st2,gF an X o st st2->st2.rd (.tmp pp)=st.rd (.tmp pp):=λst2 ha=>ha.rd (λt ht=>by simp only[dA,ho,aA];exact .inl ht);have hsb:(an.sb pp).isNone=false:=by simp only[nO,ho,ah]at hm;cases hb:an.sb pp with|none=>rw[hb]at hm;cases hm.1|some _=>rfl
 simp only[dx,ho,hsb,gD,cJ]at fW;unfold xY at h;split at h;rename_i sh s off hT hp;rw[hp]at fW;simp only[ah,aN,bw]at fW;split at h;rename_i gg vs st1 tI;have Su:(st.take x).1=.val gg vs:=by rw[tI]
 have Fw:st1=⟨kc st.slots (Bb st x),st.boxes,st.ep,st.iss,st.io⟩:=by rw[<-O2,tI]
 split at h;rename_i cs hb;split at h;rename_i hlen;split at h;rename_i gy;cases h;have jX:∀st2,gF an X o st st2->nth st2.boxes s=nth st.boxes s:=λst2 ha=>ha.box s fW.1;refine⟨⟨Bb st x,some (s,dZ cs off vs),none⟩,⟨λy hy=>?_,λb gQ=>?_,λ_ hh=>by cases hh⟩,?_,λst2 ha=>?_⟩;cases x with|tmp t=>simp only[Bb,cH]at hy;subst hy;simp only[writes,F2,ho,af,dA,hd];simp[tm]|_=>simp[Bb]at hy
 cases gQ;simp only[F5,ho,fW.2];simp;rw[Fw];rfl;have hx2:(st2.take x).1=(st.take x).1/\Bb st2 x=Bb st x:=by cases x with|tmp t=>have hg:st2.get t=st.get t:=ha.get t (by simp[dA,ho,tm]);simp only[AS.take,Bb,hg,ha.ep];simp|const v=>exact⟨rfl,rfl⟩|func f=>exact⟨rfl,rfl⟩|global g=>exact⟨rfl,rfl⟩
 have ht2:st2.take x=(.val gg vs,⟨kc st2.slots (Bb st x),st2.boxes,st2.ep,st2.iss,st2.io⟩):=by rw[<-hx2.2,<-O2,<-Su,<-hx2.1]
 have Ms:(nth st2.boxes s).getD none=some cs:=by rw[jX st2 ha];rw[Fw]at hb;exact hb
 have EJ:BJ an o=false:=by simp only[nO,ho,ah,aN]at hm;exact hm.2
 simp only[dg,ho,hd,EJ,aX,cc,xY,hT,hr st2 ha,hp,ht2,Ms,aF hlen,aF gy];rfl;cases h;cases h;cases h;cases h;rename_i r _ _ _ _ _ _ hp;rw[hp]at fW;cases r<;>simp at fW;cases h
theorem SR (ho:o.op=.assign x)(hm:nO an o=true)(h:vJ E an o x st some=some bM):dY E Γ an X o st bM:=by
 have hr:∀st2,gF an X o st st2->(st2.take x).1=(st.take x).1/\(st2.take x).2=st2.km (oH st x):=λst2 ha=>Et ha.ep λt ht=>ha.get t (by simpa[dA,ho]using ht);have EJ:BJ an o=false:=by simpa[nO,ho]using hm
 unfold vJ at h;split at h;rename_i st1 tI;split at h;rename_i e hT;cases h;refine dY.put rfl λst2 ha=>?_;have h2:st2.take x=(.val false [.jE],st2.km (oH st x)):=Prod.ext (by rw[(hr st2 ha).1,tI]) (hr st2 ha).2;simp only[dg,ho,vJ,EJ,aX,cc,h2,hT];cases h;rename_i v st1 Ib tI;cases h;have Fw:st1=st.km (oH st x):=by rw[<-Dz,tI]
 refine⟨⟨oH st x++o.dst.toList.map λd=>(d,v),none,none⟩,⟨λy hy=>?_,λ_ hh=>(by cases hh),λ_ hh=>(by cases hh)⟩,?_,λst2 ha=>?_⟩;rcases aA.1 hy with hy|hy;have:=JX y hy;simp[writes,F2,ho,dA,this];obtain⟨d,hd,rfl⟩:=List.mem_map.1 hy;simp[writes,hd];rw[Fw];show _=st.km _;rw[rL];cases o.dst<;>rfl;have h2:st2.take x=(v,st2.km (oH st x)):=Prod.ext (by rw[(hr st2 ha).1,tI]) (hr st2 ha).2;simp only[dg,ho,vJ,EJ,aX,cc,h2];show some ((st2.km (oH st x)).put o.dst v)=some (st2.km _);rw[rL];cases o.dst<;>rfl
theorem jF {α:Type}(l:au α)(i:Nat)(v:α)(t:Nat):nth (gN l i v) t=if i=t then(if i<l.length then some v else none) else nth l t:=by rw[dJ,fg,dJ,br]
theorem Om (l:au AV)(a:au (Nat×AV)):(kc l a).length=l.length:=by induction a generalizing l with|nil=>rfl|cons x a ih=>rw[kc,ih,fg,aB]
theorem Yg {l l2:au AV}(a:au (Nat×AV))(hl:l2.length=l.length)(t:Nat)(h:nth l2 t=nth l t):nth (kc l2 a) t=nth (kc l a) t:=by induction a generalizing l l2 with|nil=>exact h|cons x a ih=>refine ih (by rw[fg,fg,aB,aB,hl]) ?_;rw[jF,jF,hl,h]
theorem X9 (h:st2.get t=st.get t)(hl:st2.slots.length=st.slots.length):nth st2.slots t=nth st.slots t:=by unfold AS.get at h;rw[dJ,dJ]at h⊢;rcases bQ t st.slots.length with gB|Ae;rw[al gB,al (by omega)]at h⊢;simpa using h;rw[bJ Ae,bJ (by omega)]
def jU (st:AS):au Operand->au (Nat×AV)
 |[]=>[]
 |x::xs=>oH st x++jU (st.km (oH st x)) xs
theorem B0:∀(xs:au Operand)(st:AS),∀y∈jU st xs,y.1∈P5 xs
 |[],_,y,hy=>by cases hy
 |x::xs,st,y,hy=>by simp only[P5,List.flatMap_cons,aA];rcases aA.1 hy with hy|hy;exact .inl (JX y hy);exact .inr (B0 xs _ y hy)
theorem CU:∀(xs:au Operand)(st st2:AS),st2.ep=st.ep->st2.slots.length=st.slots.length->(∀t∈P5 xs,nth st2.slots t=nth st.slots t)->
 (eM st2 xs).1=(eM st xs).1/\(eM st2 xs).2=st2.km (jU st xs)
 |[],st,st2,_,_,_=>⟨rfl,rfl⟩
 |x::xs,st,st2,zM,hl,hg=>by
  have hx:∀t∈tm x,st2.get t=st.get t:=λt ht=>by unfold AS.get;rw[hg t (by simp[P5,ht])]
  obtain⟨h1,h2⟩:=Et (st:=st) (st2:=st2) zM hx;have h3:=Dz (st:=st) x;obtain⟨k1,k2⟩:=CU xs (st.km (oH st x)) (st2.km (oH st x)) zM (by simp only[AS.km,Om,hl]) (λt ht=>Yg _ hl t (hg t (by simp only[P5,List.flatMap_cons,aA];exact .inr ht)));have e1:eM st (x::xs)=((st.take x).1::(eM (st.take x).2 xs).1,(eM (st.take x).2 xs).2):=rfl;have e2:eM st2 (x::xs)=((st2.take x).1::(eM (st2.take x).2 xs).1,(eM (st2.take x).2 xs).2):=rfl;rw[e1,e2,h1,h2,h3];refine⟨by rw[k1],?_⟩;show(eM (st2.km (oH st x)) xs).2=_;rw[k2,jU,rL]
theorem Es (xs:au Operand):(eM st xs).2=st.km (jU st xs):=(CU xs st st rfl rfl (λ_ _=>rfl)).2
theorem gF.eM (ha:gF an X o st st2){xs:au Operand}(hx:∀t∈P5 xs,t∈dA o):(eM st2 xs).1=(Dn.eM st xs).1/\(Dn.eM st2 xs).2=st2.km (jU st xs):=CU xs st st2 ha.ep ha.len λt ht=>X9 (ha.get t (hx t ht)) ha.len
theorem Vf (ho:o.op=.build T parts)(h:CE E o T parts.toList st some=some bM):dY E Γ an X o st bM:=by
 have hl:∀t∈P5 (parts.toList.map (·.2)),t∈dA o:=λt ht=>by simp only[dA,ho];exact ht
 unfold CE at h;split at h;rename_i ct kb hT;split at h;rename_i vs st1 tI;have Fw:st1=st.km (jU st (parts.toList.map (·.2))):=by rw[<-Es,tI]
 split at h;rename_i cs hb;cases h;refine⟨⟨jU st (parts.toList.map (·.2))++o.dst.toList.map λd=>(d,.val true cs),none,none⟩,⟨λy hy=>?_,λ_ hh=>(by cases hh),λ_ hh=>(by cases hh)⟩,?_,λst2 ha=>?_⟩;rcases aA.1 hy with hy|hy;have:=hl _ (B0 _ _ y hy);simp[writes,F2,ho,this];obtain⟨d,hd,rfl⟩:=List.mem_map.1 hy;simp[writes,hd];rw[Fw];show _=st.km _;rw[rL];cases o.dst<;>rfl;obtain⟨k1,k2⟩:=ha.eM hl;have h2:eM st2 (parts.toList.map (·.2))=(vs,st2.km (jU st (parts.toList.map (·.2)))):=Prod.ext (by rw[k1,tI]) k2;simp only[dg,ho,CE,hT,h2,hb];show some ((st2.km _).put o.dst _)=some (st2.km _);rw[rL];cases o.dst<;>rfl;cases h;cases h
theorem dY.ahQ {v:AV}(ht:F2 an o=true)(hl:∀y∈tl,y.1∈dA o)(h:bM=((st.km tl).fi o.dst).put o.dst v)(h2:∀st2,gF an X o st st2->dg E Γ an o st2 some=some (((st2.km tl).fi o.dst).put o.dst v)):dY E Γ an X o st bM:=by
 have key:∀s:AS,(⟨tl++o.dst.toList.map λd=>(d,v),none,o.dst⟩:J3).apply s=((s.km tl).fi o.dst).put o.dst v:=by intro s;cases o.dst with|none=>simp only[J3.apply,Option.toList,List.map_nil,bA,AS.km,AS.fi,AS.put]|some d=>simp only[J3.apply,Option.toList,List.map_cons,List.map_nil,CO,AS.km,AS.fi,AS.put,kc]
 refine⟨⟨tl++o.dst.toList.map λd=>(d,v),none,o.dst⟩,⟨λy hy=>?_,λ_ hh=>(by cases hh),λd hh=>hh⟩,by rw[key];exact h,λst2 ha=>by rw[key];exact h2 st2 ha⟩;rcases aA.1 hy with hy|hy;simp[writes,ht,hl y hy];obtain⟨d,hd,rfl⟩:=List.mem_map.1 hy;simp[writes,hd]
theorem Bl {d:ax Nat}:(st.km tl).gZ d=st.gZ d:=rfl
theorem KB {len:Nat}(ho:o.op=.buildSlice T len parts)(h:lQ E o T len parts.toList st some=some bM):dY E Γ an X o st bM:=by
 have hl:∀t∈P5 (parts.toList.map (·.2)),t∈dA o:=λt ht=>by simp only[dA,ho];exact ht
 unfold lQ at h;split at h;rename_i e hT;split at h;rename_i hc;split at h;rename_i vs st1 tI;have Fw:st1=st.km (jU st (parts.toList.map (·.2))):=by rw[<-Es,tI]
 split at h;rename_i xs hb;cases h;refine dY.ahQ (tl:=jU st (parts.toList.map (·.2))) (v:=.one (.sl (.own (st.gZ o.dst 0)) e xs)) (by simp[F2,ho]) (λy hy=>hl _ (B0 _ _ y hy)) ?_ λst2 ha=>?_;rw[Fw,AS.qt,Bl];obtain⟨k1,k2⟩:=ha.eM hl;have h2:eM st2 (parts.toList.map (·.2))=(vs,st2.km (jU st (parts.toList.map (·.2)))):=Prod.ext (by rw[k1,tI]) k2;simp only[dg,ho,lQ,hT,h2,hb,aF hc];rw[AS.qt,Bl,ha.gZ];cases h;cases h;cases h
theorem Ma {n c:Operand}(ho:o.op=.makeSlice T n c)(h:oW E o T n c st some=some bM):dY E Γ an X o st bM:=by
 have hr:∀st2,gF an X o st st2->st2.rd n=st.rd n/\st2.rd c=st.rd c:=λst2 ha=>
  ⟨ha.rd (λt ht=>by simp[dA,ho,ht]),ha.rd (λt ht=>by simp[dA,ho,ht])⟩
 unfold oW at h;split at h;rename_i e len cap hT hn hc;split at h;rename_i hlc;unfold room at h;split at h;rename_i hrm;cases h;refine dY.new (v:=.one (.sl (.own (st.gZ o.dst 0)) e (List.replicate len.toNat e.zero))) rfl λst2 ha=>?_;simp only[dg,ho,oW,(hr st2 ha).1,(hr st2 ha).2,hT,hn,hc,aF hlc,room,aF hrm,AS.qt,ha.gZ];cases h;cases h;cases h
theorem SQ (ho:o.op=.call {callee:=.builtin .append,args,argTypes:=ts})(h:yd E o ts.toList args.toList st some=some bM):dY E Γ an X o st bM:=by
 have Wy:∀t∈P5 args.toList,t∈dA o:=λt ht=>by simp only[dA,ho];exact ht
 unfold yd at h;split at h;rename_i t t' s x ur fy;have hl:∀u∈P5 [s,x],u∈dA o:=by rw[<-fy];exact Wy
 have agw:∀st2,gF an X o st st2->(st2.take s).1=(st.take s).1/\((st2.take s).2.take x).1=((st.take s).2.take x).1/\((st2.take s).2.take x).2=st2.km (jU st [s,x]):=by intro st2 ha;obtain⟨k1,k2⟩:=ha.eM hl;simp only[Dn.eM,List.cons.injEq,iH]at k1 k2;exact⟨k1.1,k1.2,k2⟩
 have Cg:((st.take s).2.take x).2=st.km (jU st [s,x]):=Es (st:=st) [s,x];split at h;rename_i tag e xs st1 Su;split at h;rename_i fl e' ys ahO IP;split at h;rename_i he;subst he;split at h;rename_i hc;unfold room at h;split at h;rename_i hrm;cases h;have Fw:(st.take s).2=st1:=by rw[Su]
 have Ss:ahO=st.km (jU st [s,x]):=by rw[<-Cg,Fw,IP]
 refine dY.ahQ (tl:=jU st [s,x]) (v:=.one (.sl (.own (st.gZ o.dst 0)) e' (xs++ys))) (by simp[F2,ho]) (λy hy=>hl _ (B0 _ _ y hy)) ?_ λst2 ha=>?_;rw[Ss,AS.qt,Bl];obtain⟨k1,k2,k3⟩:=agw st2 ha;have e1:st2.take s=(.val false [.sl (.own tag) e' xs],(st2.take s).2):=Prod.ext (by rw[k1,Su]) rfl;have e2:(st2.take s).2.take x=(.val false [.sl fl e' ys],st2.km (jU st [s,x])):=Prod.ext (by rw[k2,Fw,IP]) k3;simp only[dg,ho,yd,ur,fy];rw[e1];simp only;rw[e2];simp only[dite_true,ha.ep,aF hc,room,aF hrm,AS.qt,Bl,ha.gZ];cases h;cases h;cases h;rename_i sx ahO IP;split at h;rename_i he;subst he;split at h;rename_i hc;unfold room at h;split at h;rename_i hrm;cases h;have Fw:(st.take s).2=st1:=by rw[Su]
 have Ss:ahO=st.km (jU st [s,x]):=by rw[<-Cg,Fw,IP]
 refine dY.ahQ (tl:=jU st [s,x]) (v:=.one (.sl (.own (st.gZ o.dst 0)) (.int .u8) (xs++dq sx))) (by simp[F2,ho]) (λy hy=>hl _ (B0 _ _ y hy)) ?_ λst2 ha=>?_;rw[Ss,AS.qt,Bl];obtain⟨k1,k2,k3⟩:=agw st2 ha;have e1:st2.take s=(.val false [.sl (.own tag) (.int .u8) xs],(st2.take s).2):=Prod.ext (by rw[k1,Su]) rfl;have e2:(st2.take s).2.take x=(.val false [.str sx],st2.km (jU st [s,x])):=Prod.ext (by rw[k2,Fw,IP]) k3;simp only[dg,ho,yd,ur,fy];rw[e1];simp only;rw[e2];simp only[dite_true,aF hc,room,aF hrm,AS.qt,Bl,ha.gZ];cases h;cases h;cases h;cases h;cases h;cases h
theorem abo (ho:o.op=.box T x)(h:RX o x st some=some bM):dY E Γ an X o st bM:=by
 have hr:∀st2,gF an X o st st2->(st2.take x).1=(st.take x).1/\(st2.take x).2=st2.km (oH st x):=λst2 ha=>Et ha.ep λt ht=>ha.get t (by simpa[dA,ho]using ht);unfold RX at h;split at h;rename_i d g cs st1 hd tI;have Fw:st1=st.km (oH st x):=by rw[<-Dz,tI]
 split at h;rename_i hb;split at h;rename_i hs;cases h;have TD:nth st.boxes d=some none:=by rw[Fw]at hb;exact hb
 have key:∀s:AS,(⟨oH st x++[(d,.one (.ptr d 0))],some (d,cs),none⟩:J3).apply s=((s.km (oH st x)).eE d (some cs)).put (some d) (.one (.ptr d 0)):=by intro s;simp only[J3.apply,CO,AS.km,AS.eE,AS.put,kc]
 refine⟨⟨oH st x++[(d,.one (.ptr d 0))],some (d,cs),none⟩,⟨λy hy=>?_,λb gQ=>?_,λ_ hh=>(by cases hh)⟩,?_,λst2 ha=>?_⟩;rcases aA.1 hy with hy|hy;have:=JX y hy;simp[writes,F2,ho,dA,this];simp only[cH]at hy;subst hy;simp[writes,hd];cases gQ;simp[F5,ho,hd];rw[key,Fw,hd];have h2:st2.take x=(.val g cs,st2.km (oH st x)):=Prod.ext (by rw[(hr st2 ha).1,tI]) (hr st2 ha).2;have Ms:nth (st2.km (oH st x)).boxes d=some none:=by show nth st2.boxes d=_;rw[(ha.dst d hd).2];exact TD
 simp only[dg,ho,RX,hd,h2,Ms,aF hs,key];cases h;cases h;cases h
theorem OV (B5:∀f,(Γ f).io=false/\((Γ f).bx=true->(Γ f).cur=true)/\(Γ f).pr=false)(hm:nO an o=true)(fW:dx E an X o st=true)(h:dg E Γ an o st some=some bM):dY E Γ an X o st bM:=by
 have h0:=h;unfold dg at h;split at h;rename_i ho;exact X5 ho h;rename_i ho;have EJ:BJ an o=false:=by simpa[nO,ho]using hm
 rw[aH (by simp[EJ])]at h;exact SR ho hm h;rename_i ho;exact X6 ho h;rename_i ho;exact Ve ho h;rename_i ho;exact abo ho h;rename_i ho;exact X4 ho hm fW h;rename_i T p x ho;split at h;rename_i hd;cases p with
 |tmp pp=>
  have EJ:BJ an o=false:=by simp only[nO,ho,ah,aN]at hm;exact hm.2
  rw[aH (by simp[EJ])]at h;exact Vj ho hd hm fW h
 |const v=>simp[nO,ho]at hm
 |func f=>simp[nO,ho]at hm
 |global g=>simp[nO,ho]at hm
 cases h;rename_i ho;exact N7 ho h0;rename_i ho;exact abn ho h;rename_i ho;exact ad2 ho h;rename_i ho;exact Vg ho h;rename_i ho;exact L9 ho fW h;rename_i ho;exact Vh ho h;rename_i ho;exact Vf ho h;rename_i ho;exact KB ho h;rename_i ho;exact Ma ho h;rename_i ho;exact Vi ho hm fW h;rename_i ho;simp[nO,ho]at hm;rename_i ho;simp[nO,ho]at hm;rename_i ho;exact PJ ho h;rename_i ho;exact PL ho fW h;rename_i ho;exact abp ho h;rename_i ho;exact abr ho h;rename_i ho;exact abq ho h;rename_i ho;exact SQ ho h;rename_i ho;exact X3 B5 ho fW h;cases h
end Go.Dn
