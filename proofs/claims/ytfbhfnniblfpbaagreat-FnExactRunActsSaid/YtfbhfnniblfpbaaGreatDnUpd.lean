import Derived.Test.YtfbhfnniblfpbaaGreatDnMask
/- What an operation looks at and what it turns: for regions whose order is drawn. -/
namespace Go.Dn
structure Ll where
 slots:List (Nat×AV):=[]
 box:Option (Nat×List AC):=none
 iss:Option Nat:=none
def ka (l:aq AV):aq (Nat×AV)->aq AV
 |[]=>l
 |x::r=>ka (gZ l x.1 x.2) r
def Ll.apply (u:Ll)(st:AS):AS:=
 ⟨ka st.slots u.slots,(match u.box with|some b=>gZ st.boxes b.1 (some b.2)|none=>st.boxes),st.ep,(match u.iss with|some d=>gZ st.iss d true|none=>st.iss),st.io⟩
structure gT (an:An) (X:List Nat) (o:Oper) (st st2:AS):Prop where
 len:st2.slots.length=st.slots.length
 get:∀t∈dw o,st2.get t=st.get t
 ep:st2.ep=st.ep
 dst:∀d,o.dst=some d->nth st2.iss d=nth st.iss d/\nth st2.boxes d=nth st.boxes d
 box:∀s,X.contains s=false->nth st2.boxes s=nth st.boxes s
 er:∀t∈erS an o,st2.get t=st.get t
structure Ll.Je (an:An) (u:Ll) (o:Oper):Prop where
 slots:∀x∈u.slots,x.1∈writes an o
 box:∀b,u.box=some b->b.1∈HN an o
 iss:∀d,u.iss=some d->o.dst=some d
variable {E:Env} {Γ:xV} {an:An} {X:dX} {o:Oper} {st st2 st':AS}
variable {parts:Array (Nat×Operand)} {args:Array Operand} {ts:Array TypeId} {t:Nat} {f p x:Operand} {T:TypeId} {tl:aq (Nat×AV)} {cs:aq AC}
theorem aft (xY:st2.ep=st.ep)(h:∀t∈tm x,st2.get t=st.get t):st2.rd x=st.rd x:=by cases x with|tmp t=>simp only[AS.rd,xY,h t (by simp[tm])]|const v=>rfl|func f=>rfl|global g=>rfl
def dW (E:Env)(Γ:xV)(an:An)(X:dX)(o:Oper)(st st':AS):Prop:=
 ∃u:Ll,u.Je an o/\st'=u.apply st/\∀st2,gT an X o st st2->dc E Γ an o st2 some=some (u.apply st2)
def F3 (o:Oper)(v:AV):Ll:={slots:=o.dst.toList.map λd=>(d,v)}
theorem tf (v:AV):(F3 o v).apply st=st.put o.dst v:=by unfold F3 Ll.apply AS.put;cases o.dst<;>rfl
theorem D6 (v:AV):(F3 o v).Je an o:=by refine⟨λx hx=>?_,λb hb=>by simp[F3]at hb,λd hd=>by simp[F3]at hd⟩;simp only[F3,List.mem_map]at hx;obtain⟨d,hd,rfl⟩:=hx;simp[writes,hd]
def JO (o:Oper)(v:AV):Ll:={slots:=o.dst.toList.map λd=>(d,v),iss:=o.dst}
theorem Lg (v:AV):(JO o v).apply st=(st.fw o.dst).put o.dst v:=by unfold JO Ll.apply AS.put AS.fw;cases o.dst<;>rfl
theorem Rc (v:AV):(JO o v).Je an o:=by refine⟨λx hx=>?_,λb hb=>by simp[JO]at hb,λd hd=>by simpa[JO]using hd⟩;simp only[JO,List.mem_map]at hx;obtain⟨d,hd,rfl⟩:=hx;simp[writes,hd]
theorem dW.put {v:AV}(h:st'=st.put o.dst v)(h2:∀st2,gT an X o st st2->dc E Γ an o st2 some=some (st2.put o.dst v)):dW E Γ an X o st st':=⟨F3 o v,D6 v,by rw[tf];exact h,λst2 ha=>by rw[tf];exact h2 st2 ha⟩
theorem gT.rd (ha:gT an X o st st2)(hx:∀t∈tm x,t∈dw o):st2.rd x=st.rd x:=aft ha.ep λt ht=>ha.get t (hx t ht)
theorem Zd {c y:Operand}(ho:o.op=.pick c x y)(h:Hv o c x y st some=some st'):dW E Γ an X o st st':=by
 have hr:∀st2,gT an X o st st2->st2.rd c=st.rd c/\st2.rd x=st.rd x/\st2.rd y=st.rd y:=λst2 ha=>
  ⟨ha.rd (λt ht=>by simp[dw,ho,ht]),ha.rd (λt ht=>by simp[dw,ho,ht]),ha.rd (λt ht=>by simp[dw,ho,ht])⟩
 unfold Hv at h;split at h;rename_i t hc;split at h;rename_i a b hx hy;cases h;refine dW.put rfl λst2 ha=>?_;obtain⟨h1,h2,h3⟩:=hr st2 ha;simp only[dc,ho,Hv,h1,h2,h3,hc,hx,hy];rename_i va vb JT;have hgo:∀st2,gT an X o st st2->dc E Γ an o st2 some=cond t (some (st2.put o.dst (st.rd x))) (some (st2.put o.dst (st.rd y))):=by intro st2 ha;obtain⟨h1,h2,h3⟩:=hr st2 ha;simp only[dc,ho,Hv,h1,h2,h3,hc]
 cases t with|true=>cases h;exact dW.put rfl λst2 ha=>hgo st2 ha|false=>cases h;exact dW.put rfl λst2 ha=>hgo st2 ha
 cases h
theorem Pb {d s:Nat}{v:AV}:(⟨[(d,v)],some (s,cs),none⟩:Ll).apply st=(st.eG s (some cs)).put (some d) v:=rfl
theorem SI {o:Oper}(h:HJ an o=true):∃T q d,o.op=.load T (.tmp q)/\o.dst=some d/\o.guard=none/\an.mv.contains d=true/\an.mb d=none:=by unfold HJ at h;split at h;rename_i T q d ho hd hg;simp only[ah,Option.isNone_iff_eq_none]at h;exact⟨T,q,d,ho,hd,hg,h.1.1,h.1.2⟩;cases h
def Lc (st:AS)(b j t:Nat)(e:CT)(i:Int)(cs:aq AC)(ys:aq e.D):AS:=st.eG b (some (gZ cs j (.sl (.fe (some t) i (some st.ep)) e ys)))
theorem P7 {q d:Nat}(ht:HJ an o=true)(ho:o.op=.load T (.tmp q))(hd:o.dst=some d)(Gf:an.mv.contains d=true)(XB:an.mb d=none):(du E an X o st=true/\py E an o T (.tmp q) st some=some st')↔ ∃(g:Bool)(e:CT)(jZ:aq (Nat×Nat))(b j t Ol:Nat)(x:e.D)(i:Int)(cs:aq AC)(ys:aq e.D)(y:e.D),iV E.ty T=some ⟨g,e,jZ⟩/\st.rd (.tmp q)=.val false [.Da (.loc Ol (some (.box b j,t))) e x i 0]/\(nth st.boxes b).getD none=some cs/\nth cs j=some (.sl (.own (some t)) e ys)/\idx ys i=some y/\ X.contains b=false/\an.eb q=some b/\Xw an o=false/\st'=(Lc st b j t e i cs ys).put (some d) (.val g (cellsOf e (.own none) y)):=by
 have tF:HM an o=true:=by unfold HM;rw[hd];simp only[Gf,XB];rfl
 have JS:D5 an o=false:=by unfold D5;split;rename_i Yp _;rw[hd]at Yp;cases Yp;rw[XB];simp;rfl
 have hnp:DE an o=false:=by unfold DE;split;rename_i Yp _;rw[hd]at Yp;cases Yp;rw[Gf];rfl;rfl
 constructor;rintro⟨hf,h⟩;unfold py at h;split at h;rename_i hp;simp only[du,ho,hp,hd,Gf,XB]at hf;simp at hf;rename_i sh fl e x i off hT hp;rw[aG tF]at h;simp only[du,ho,hp,ht,JS,hnp,Bool.or_false,cf,ai,cL,ig,ah,aP]at hf;obtain⟨⟨Hb,NH⟩,hb⟩:=hf;unfold Am at h;split at h;rename_i Ol r t;cases r with
 |slot _ _=>cases hb
 |io _=>cases hb
 |box b j=>
  simp only[ah,bD,aP]at hb;split at h;rename_i t' e' ys VI;split at h;rename_i he;subst he;split at h;rename_i hc;obtain⟨rfl,rfl,Mw⟩:=hc;obtain⟨g,ct,jZ⟩:=sh;simp only at Mw;subst Mw;cases hi:idx ys i with|none=>simp only[hi,aa]at h;cases h|some y=>simp only[hi,aa]at h;cases h;simp only[AS.eM]at VI;obtain⟨cs,LA,hj⟩:=aL.1 VI;refine⟨g,_,jZ,b,j,_,Ol,x,i,cs,ys,y,hT,hp,LA,hj,hi,hb.2,hb.1,NH,?_⟩;simp only[AS.eU,LA,hd];rfl
  cases h;cases h;cases h
 cases h;cases h;rintro⟨g,e,jZ,b,j,t,Ol,x,i,cs,ys,y,hT,hp,LA,hj,hi,hX,Tl,NH,rfl⟩;constructor;simp only[du,ho,hp,ht,JS,hnp,NH,hX,Tl];simp;simp only[py,hT,hp,tF,bL,Am,AS.eM,LA,eC,hj,dite_true,and_self,hi,aa,AS.eU,hd];rfl
theorem Wl (ht:HJ an o=true)(ho:o.op=.load T p)(gn:du E an X o st=true)(h:py E an o T p st some=some st'):dW E Γ an X o st st':=by obtain⟨T',q,d,Nj,hd,hg,Gf,XB⟩:=SI ht;rw[ho]at Nj;cases Nj;obtain⟨g,e,jZ,b,j,t,Ol,x,i,cs,ys,y,hT,hp,LA,hj,hi,hX,Tl,NH,rfl⟩:=(P7 ht ho hd Gf XB).1 ⟨gn,h⟩;refine⟨⟨[(d,.val g (cellsOf e (.own none) y))],some (b,gZ cs j (.sl (.fe (some t) i (some st.ep)) e ys)),none⟩,⟨λx hx=>?_,λb' gL=>?_,λ_ hh=>by cases hh⟩,rfl,λst2 ha=>?_⟩;simp only[eL]at hx;subst hx;simp[writes,hd];cases gL;simp only[HN,ho,hd,Gf,af,ht,Tl];simp;have h2:=((P7 (E:=E) (X:=X) (st:=st2) ht ho hd Gf XB).2 ⟨g,e,jZ,b,j,t,Ol,x,i,cs,ys,y,hT,by rw[ha.rd (λt ht=>by simpa[dw,ho]using ht)];exact hp,by rw[ha.box b hX];exact LA,hj,hi,hX,Tl,NH,rfl⟩).2;simp only[dc,ho];rw[h2];simp only[Lc,ha.ep];rfl
theorem Zb (ho:o.op=.load T p)(hm:nR an o=true)(gn:du E an X o st=true)(h:py E an o T p st some=some st'):dW E Γ an X o st st':=by
 cases hE:HJ an o with|true=>exact Wl hE ho gn h|false=> ?_
 have hr:∀st2,gT an X o st st2->st2.rd p=st.rd p:=λst2 ha=>ha.rd (λt ht=>by simpa[dw,ho]using ht);have tF:HM an o=false:=by simp only[nR,ho,hE,Bool.or_false]at hm;unfold HM;cases Tk:o.dst with|none=>rfl|some d=>rw[Tk]at hm;simp only[df,aP]at hm;rcases hm with hm|hm;simp only[hm,gO];cases XB:an.mb d with|none=>rw[XB]at hm;cases hm|some _=>simp[XB]
 unfold py at h;split at h;rename_i sh s off hT hp;simp only[du,ho,hp,ah,aP]at gn;split at h;rename_i cs hb;split at h;rename_i gI;split at h;rename_i d hd;have jE:∀st2,gT an X o st st2->nth st2.boxes s=nth st.boxes s:=λst2 ha=>ha.box s gn.1.1;cases hf:an.mv.contains d with
 |false=>simp only[hf,aY,cc]at h;cases h;refine dW.put (by rw[hd]) λst2 ha=>?_;simp only[dc,ho,py,hT,hr st2 ha,hp,jE st2 ha,hb,aG gI,hd,hf,aY,cc,ha.ep]
 |true=>
  simp only[hf,bL]at h;have XB:an.mb d=some s:=by have:=gn.1.2;rw[hd]at this;simp only[hf,ai,cL,bD]at this;exact this
  cases h;refine⟨⟨[(d,.val sh.agg ((cs.drop off).take sh.ct.size))],some (s,db cs off (aS st.ep ((cs.drop off).take sh.ct.size))),none⟩,⟨λx hx=>?_,λb gL=>?_,λ_ hh=>by cases hh⟩,?_,λst2 ha=>?_⟩;simp only[eL]at hx;subst hx;simp[writes,hd];cases gL;simp only[HN,ho,hd,hf,af,XB];simp;rw[Pb,hd];simp only[dc,ho,py,hT,hr st2 ha,hp,jE st2 ha,hb,aG gI,hd,hf,bL,ha.ep,Pb]
 cases h;cases h;cases h;rename_i sh fl e x i off hT hp;rw[aF (by simp[tF])]at h;split at h;rename_i hl;split at h;rename_i gI;cases h;refine dW.put rfl λst2 ha=>?_;simp only[dc,ho,py,hT,hr st2 ha,hp,ha.ep,tF,aY,cc,aG hl,aG gI];cases h;rename_i hl;have IM:∀r t Ol,fl=.loc Ol (some (r,t))->∀st2,gT an X o st st2->st2.eM r=st.eM r:=by rintro r t Ol rfl st2 ha;simp only[du,ho,hp,hE,cf,jU,ig,ah,df]at gn;rcases gn.1.1 with hq|hq;exact absurd hq hl;cases r with|slot b j=>simp only[AS.eM];rw[ha.er b (by simpa using hq)]|box b j=>simp only[AS.eM];rw[ha.box b (by simpa using hq)]|io j=>cases hq
 unfold FW at h;split at h;rename_i Ol r t;split at h;rename_i t' e' ys VI;split at h;rename_i he;split at h;rename_i hc;cases hi:idx (he▸ys:List _) i with|none=>rw[hi]at h;cases h|some y=>rw[hi]at h;simp only[aa]at h;cases h;refine dW.put rfl λst2 ha=>?_;simp only[dc,ho,py,hT,hr st2 ha,hp,ha.ep,tF,aY,cc,aF hl,FW,IM _ _ _ rfl st2 ha,VI,dif_pos he,aG hc,hi,aa]
 cases h;cases h;cases h;cases h;cases h
theorem Ph (ho:o.op=.nilCheck x)(h:dc E Γ an o st some=some st'):dW E Γ an X o st st':=by have hr:∀st2,gT an X o st st2->st2.rd x=st.rd x:=λst2 ha=>ha.rd (λt ht=>by simpa[dw,ho]using ht);simp only[dc,ho]at h;split at h;rename_i s off hx;cases h;refine dW.put rfl λst2 ha=>?_;simp only[dc,ho,hr st2 ha,hx];rename_i fl e y i off hx;cases h;refine dW.put rfl λst2 ha=>?_;simp only[dc,ho,hr st2 ha,hx];cases h
theorem Qj {op:BinOp}{x y:AV}(h:(Iy op x y λc=>some (st.put o.dst (.one c)))=some st'):∃v,st'=st.put o.dst v/\∀st2:AS,(Iy op x y λc=>some (st2.put o.dst (.one c)))=some (st2.put o.dst v):=by have key:∀s:AS,(Iy op x y λc=>some (s.put o.dst (.one c)))=(Iy op x y some).bind λc=>some (s.put o.dst (.one c)):=λs=>(HR op x y some _).symm;rw[key st]at h;cases hb:Iy op x y some with|none=>rw[hb]at h;cases h|some c=>rw[hb]at h;cases h;exact⟨_,rfl,λst2=>by rw[key st2,hb];rfl⟩
theorem SN {op:BinOp}{b:Bool}(h:(Gd op b λc=>some (st.put o.dst (.one c)))=some st'):∃v,st'=st.put o.dst v/\∀st2:AS,(Gd op b λc=>some (st2.put o.dst (.one c)))=some (st2.put o.dst v):=by unfold Gd at h;split at h;cases h;exact⟨_,rfl,λst2=>rfl⟩;cases h;exact⟨_,rfl,λst2=>rfl⟩;cases h
theorem aci {op:BinOp}{T':TypeId}{y:Operand}(ho:o.op=.binOp op T x y T')(h:C5 E o op T x y st some=some st'):dW E Γ an X o st st':=by
 have hr:∀st2,gT an X o st st2->st2.rd x=st.rd x/\st2.rd y=st.rd y:=λst2 ha=>
  ⟨ha.rd (λt ht=>by simp[dw,ho,ht]),ha.rd (λt ht=>by simp[dw,ho,ht])⟩
 unfold C5 at h;split at h;rename_i a b hx hy;split at h;rename_i hT;obtain⟨v,rfl,hv⟩:=Qj h;refine dW.put rfl λst2 ha=>?_;simp only[dc,ho,C5,(hr st2 ha).1,(hr st2 ha).2,hx,hy,aG hT];exact hv st2;cases h;rename_i xs ys hx hy;split at h;rename_i ls hq;split at h;rename_i gI;obtain⟨v,rfl,hv⟩:=Qj h;refine dW.put rfl λst2 ha=>?_;simp only[dc,ho,C5,(hr st2 ha).1,(hr st2 ha).2,hx,hy,hq,aG gI];exact hv st2;cases h;cases h;rename_i fl e xs hx hy;split at h;rename_i hT;split at h;cases h;rename_i hlen;obtain⟨v,rfl,hv⟩:=SN h;refine dW.put rfl λst2 ha=>?_;simp only[dc,ho,C5,(hr st2 ha).1,(hr st2 ha).2,hx,hy,ha.ep,aG hT,aF hlen];exact hv st2;cases h;rename_i hx hy;split at h;rename_i hT;obtain⟨v,rfl,hv⟩:=SN h;refine dW.put rfl λst2 ha=>?_;simp only[dc,ho,C5,(hr st2 ha).1,(hr st2 ha).2,hx,hy,aG hT];exact hv st2;cases h;rename_i a b EM C2 hn3 hn4;obtain⟨v,rfl,hv⟩:=Qj h;refine dW.put rfl λst2 ha=>?_;simp only[dc,ho,C5,(hr st2 ha).1,(hr st2 ha).2];exact hv st2
theorem afe {op:UnOp}(ho:o.op=.unOp op T x)(h:(unC op (st.rd x) λc=>some (st.put o.dst (.one c)))=some st'):dW E Γ an X o st st':=by have hr:∀st2,gT an X o st st2->st2.rd x=st.rd x:=λst2 ha=>ha.rd (λt ht=>by simpa[dw,ho]using ht);have key:∀s:AS,(unC op (st.rd x) λc=>some (s.put o.dst (.one c)))=(unC op (st.rd x) some).bind λc=>some (s.put o.dst (.one c)):=λs=>(Xn op (st.rd x) some _).symm;rw[key st]at h;cases hb:unC op (st.rd x) some with|none=>rw[hb]at h;cases h|some c=>rw[hb]at h;cases h;refine dW.put rfl λst2 ha=>?_;simp only[dc,ho,hr st2 ha];rw[key st2,hb];rfl
theorem Wh {S:TypeId}{f:Nat}(ho:o.op=.fieldAddr S p f)(h:B4 E o S p f st some=some st'):dW E Γ an X o st st':=by have hr:∀st2,gT an X o st st2->st2.rd p=st.rd p:=λst2 ha=>ha.rd (λt ht=>by simpa[dw,ho]using ht);unfold B4 at h;split at h;rename_i hT hp;split at h;rename_i hf;cases h;refine dW.put rfl λst2 ha=>?_;simp only[dc,ho,B4,hr st2 ha,hT,hp,hf];cases h;rename_i hT hp;split at h;rename_i hf;cases h;refine dW.put rfl λst2 ha=>?_;simp only[dc,ho,B4,hr st2 ha,hT,hp,hf];cases h;cases h
theorem BL {v:AV}{s:AS}(h:v.now s.ep=true):v.fresh s=v:=by
 cases v with
 |vU vs=>rfl
 |val g cs=>
  simp only[AV.now,aW]at h;simp only[AV.fresh];congr 1;have:cs.map s.fresh=cs.map id:=List.map_congr_left λc hc=>by have hn:=h c hc;unfold AS.fresh;split;simp only[AC.now]at hn;rw[hn];rfl;rfl
  rw[this,List.map_id]
theorem Vt {v:AV}{st st2:AS}(he:st2.ep=st.ep)(h:v.now st.ep=true\/∃g ep b j t e xs,v=.val g [.sl (.loc ep (some (.box b j,t))) e xs]/\nth st2.boxes b=nth st.boxes b):v.fresh st2=v.fresh st:=by rcases h with h|⟨g,ep,b,j,t,e,xs,rfl,hb⟩;rw[BL h,BL (by rw[he];exact h)];simp only[AV.fresh,ed,List.map_nil];congr 2;unfold AS.fresh;simp only[AS.eM,he,hb]
theorem Nn {i:Operand}(ho:o.op=.indexAddr T x i)(gn:du E an X o st=true)(h:mN E o T x i st some=some st'):dW E Γ an X o st st':=by
 have hr:∀st2,gT an X o st st2->st2.rd x=st.rd x/\st2.rd i=st.rd i:=λst2 ha=>
  ⟨ha.rd (λt ht=>by simp[dw,ho,ht]),ha.rd (λt ht=>by simp[dw,ho,ht])⟩
 have H5:∀st2,gT an X o st st2->(st.rd x).fresh st2=(st.rd x).fresh st:=λst2 ha=>by refine Vt ha.ep ?_;simp only[du,ho,df]at gn;rcases gn with hn|hn;exact .inl hn;split at hn;rename_i g ep b j t e xs hx;exact .inr ⟨g,ep,b,j,t,e,xs,hx,ha.box b (by simpa using hn)⟩;cases hn
 unfold mN at h;split at h;rename_i e' fl e xs k n hT hx hi;split at h;rename_i hc;cases E1:idx xs n with|none=>rw[E1]at h;cases h|some y=>rw[E1]at h;cases h;refine dW.put rfl λst2 ha=>?_;have hf3:=H5 st2 ha;rw[hx]at hf3;simp only[dc,ho,mN,(hr st2 ha).1,(hr st2 ha).2,hf3,hT,hi,ha.ep,aG hc,E1,aa]
 cases h;cases h
theorem Wi {i:Operand}(ho:o.op=.index T x i)(h:DV E o T x i st some=some st'):dW E Γ an X o st st':=by
 have hr:∀st2,gT an X o st st2->st2.rd x=st.rd x/\st2.rd i=st.rd i:=λst2 ha=>
  ⟨ha.rd (λt ht=>by simp[dw,ho,ht]),ha.rd (λt ht=>by simp[dw,ho,ht])⟩
 unfold DV at h;split at h;rename_i s k n hx hi;split at h;rename_i hc;cases E1:idx s n with|none=>rw[E1]at h;cases h|some y=>rw[E1]at h;cases h;refine dW.put rfl λst2 ha=>?_;simp only[dc,ho,DV,(hr st2 ha).1,(hr st2 ha).2,hx,hi,aG hc,E1,aa]
 cases h;cases h
theorem dW.new {v:AV}(h:st'=(st.fw o.dst).put o.dst v)(h2:∀st2,gT an X o st st2->dc E Γ an o st2 some=some ((st2.fw o.dst).put o.dst v)):dW E Γ an X o st st':=⟨JO o v,Rc v,by rw[Lg];exact h,λst2 ha=>by rw[Lg];exact h2 st2 ha⟩
theorem gT.il (ha:gT an X o st st2):st2.il o.dst=st.il o.dst:=by funext j;cases hd:o.dst with|none=>rfl|some d=>simp only[AS.il,(ha.dst d hd).1]
theorem KD {lo hi:au Operand}{n:Nat}{f:AS->Int->Int->au AS}(hs:∀st2,gT an X o st st2->lo.map st2.rd=lo.map st.rd/\hi.map st2.rd=hi.map st.rd)(h:ng st lo hi n (f st)=some st'):∃a b,f st a b=some st'/\∀st2,gT an X o st st2->ng st2 lo hi n (f st2)=f st2 a b:=by unfold ng at h;split at h;rename_i h1 h2;exact⟨_,_,h,λst2 ha=>by simp only[ng,(hs st2 ha).1,(hs st2 ha).2,h1,h2]⟩;rename_i h1 h2;exact⟨_,_,h,λst2 ha=>by simp only[ng,(hs st2 ha).1,(hs st2 ha).2,h1,h2]⟩;rename_i h1 h2;exact⟨_,_,h,λst2 ha=>by simp only[ng,(hs st2 ha).1,(hs st2 ha).2,h1,h2]⟩;rename_i h1 h2;exact⟨_,_,h,λst2 ha=>by simp only[ng,(hs st2 ha).1,(hs st2 ha).2,h1,h2]⟩;cases h
theorem Wj {lo hi:au Operand}(ho:o.op=.slice T x lo hi none)(hm:nR an o=true)(gn:du E an X o st=true)(h:CQ E an o T x lo hi st some=some st'):dW E Γ an X o st st':=by
 have hr:∀st2,gT an X o st st2->st2.rd x=st.rd x:=λst2 ha=>ha.rd (λt ht=>by simp[dw,ho,ht]);have hb:∀st2,gT an X o st st2->lo.map st2.rd=lo.map st.rd/\hi.map st2.rd=hi.map st.rd:=by
  intro st2 ha;constructor;cases lo with|none=>rfl|some y=>simp only[dg];rw[ha.rd (λt ht=>by simp[dw,ho,tmO,ht])]
  cases hi with|none=>rfl|some y=>simp only[dg];rw[ha.rd (λt ht=>by simp[dw,ho,tmO,ht])]
 have Hd:(st.rd x).now st.ep=true:=by simpa[du,ho]using gn
 have H5:∀st2,gT an X o st st2->(st.rd x).fresh st2=st.rd x:=λst2 ha=>BL (by rw[ha.ep];exact Hd);have tF:HM an o=false:=by simpa[nR,ho]using hm
 unfold CQ at h;rw[aF (by simp[tF]),BL Hd]at h;split at h;rename_i s hx;split at h;rename_i hT;obtain⟨a,b,h1,h2⟩:=KD (f:=λs0 a b=>aa (sub s a b) λs'=>some (s0.put o.dst (.one (.str s')))) hb h;cases qa:sub s a b with|none=>rw[qa]at h1;cases h1|some s'=>rw[qa]at h1;cases h1;refine dW.put rfl λst2 ha=>?_;have hf3:=H5 st2 ha;rw[hx]at hf3;simp only[dc,ho,CQ,tF,aY,cc,hr st2 ha,hx,hf3,aG hT];rw[h2 st2 ha,qa];rfl
 cases h;rename_i fl e xs hx;split at h;rename_i hT;obtain⟨a,b,h1,h2⟩:=KD (f:=λs0 a b=>aa (sub xs a b) λQw=>some (s0.put o.dst (.one (.sl (Pq an o fl a) e Qw)))) hb h;cases qa:sub xs a b with|none=>rw[qa]at h1;cases h1|some s'=>rw[qa]at h1;cases h1;refine dW.put rfl λst2 ha=>?_;have hf3:=H5 st2 ha;rw[hx]at hf3;simp only[dc,ho,CQ,tF,aY,cc,hr st2 ha,hx,hf3,ha.ep,aG hT];rw[h2 st2 ha,qa];rfl
 cases h;cases h
theorem Jf {args:aq Operand}(hl:∀t,t∈Rb args->t∈dw o)(ha:gT an X o st st2):args.map st2.rd=args.map st.rd:=by apply List.map_congr_left;intro x hx;exact ha.rd (λt ht=>hl t (by simp only[Rb,List.mem_flatMap];exact⟨x,hx,ht⟩))
theorem ack (ho:o.op=.call {callee:=.builtin .len,args,argTypes:=ts})(h:Pa E o ts.toList args.toList st some=some st'):dW E Γ an X o st st':=by have hr:∀st2,gT an X o st st2->args.toList.map st2.rd=args.toList.map st.rd:=λst2 ha=>Jf (λt ht=>by simp only[dw,ho];exact ht) ha;unfold Pa at h;split at h;rename_i t s qW hx;split at h;rename_i hT;cases h;refine dW.put rfl λst2 ha=>?_;simp only[dc,ho,Pa,hr st2 ha,qW,hx,aG hT];cases h;rename_i t _ _ xs qW hx;split at h;rename_i hT;cases h;refine dW.put rfl λst2 ha=>?_;simp only[dc,ho,Pa,hr st2 ha,qW,hx,aG hT];cases h;cases h
theorem acn (ho:o.op=.call {callee:=.builtin .min,args,argTypes:=ts})(h:QS o args.toList st some=some st'):dW E Γ an X o st st':=by have hr:∀st2,gT an X o st st2->args.toList.map st2.rd=args.toList.map st.rd:=λst2 ha=>Jf (λt ht=>by simp only[dw,ho];exact ht) ha;unfold QS at h;split at h;rename_i hx;cases h;refine dW.put rfl λst2 ha=>?_;simp only[dc,ho,QS,hr st2 ha,hx];cases h
theorem acm (ho:o.op=.call {callee:=.builtin .max,args,argTypes:=ts})(h:QR o args.toList st some=some st'):dW E Γ an X o st st':=by have hr:∀st2,gT an X o st st2->args.toList.map st2.rd=args.toList.map st.rd:=λst2 ha=>Jf (λt ht=>by simp only[dw,ho];exact ht) ha;unfold QR at h;split at h;rename_i hx;cases h;refine dW.put rfl λst2 ha=>?_;simp only[dc,ho,QR,hr st2 ha,hx];cases h
theorem acb {l:dX}{c:AC}(h:c.afB l=true)(hl:∀t∈l,st2.get t=st.get t):st2.QP c=st.QP c:=by
 cases c with
 |sl fl e xs=>
  cases fl with
  |loc ep pv=>cases pv with|none=>rfl|some q=>obtain⟨r,t⟩:=q;cases r with|slot b j=>have hb:st2.get b=st.get b:=hl b (by simpa[AC.afB]using h);simp only[AS.QP,AS.eM,hb]|box _ _=>rfl|io _=>rfl
  |_=>rfl
 |_=>rfl
theorem Y3 {l:dX}(hx:KR l st x=true)(hl:∀t∈l,st2.get t=st.get t)(h:∀t∈tm x,st2.get t=st.get t):DA st2 x=DA st x/\Et st2 x=Et st x:=by
 cases x with
 |tmp t=>have ht:=h t (by simp[tm]);simp only[KR]at hx;cases hg:st.get t with|vU vs=>exact⟨by simp only[DA,ht,hg],by simp only[Et,ht,hg]⟩|val g cs=>rw[hg]at hx;have hm:cs.map st2.QP=cs.map st.QP:=List.map_congr_left λc hc=>acb (aW.1 hx c hc) hl;exact⟨by simp only[DA,ht,hg,hm],by simp only[Et,ht,hg,hm]⟩
 |const v=>exact⟨rfl,rfl⟩
 |func f=>exact⟨rfl,rfl⟩
 |global g=>exact⟨rfl,rfl⟩
theorem QT (ho:o.op=.call {callee:=.value f,args,argTypes:=ts})(gn:du E an X o st=true){k:Nat}(hf:st.rd f=.val false [.fn k])(jE:(Γ k).bx=true)(hcur:(Γ k).cur=true)(h:vW Γ o k args.toList st some=some st'):dW E Γ an X o st st':=by
 unfold vW at h;split at h;rename_i x0 xs fb;split at h;rename_i s XD;have gP:uv an X (erS an o) st (x0::xs)=true:=by have h1:=gn;simp only[du,ho,ah]at h1;rw[<-fb];exact h1.1
 have hx1:∃q,x0=.tmp q/\X.contains s=false/\an.sb q=some s/\(match (nth st.boxes s).getD none with|some cs=>cs.all AC.JU|none=>true)=true/\xs.all (KR (erS an o) st)=true:=by cases x0 with|tmp q=>simp only[uv,XD,adM,ah,aP,bD]at gP;exact⟨q,rfl,gP.1.1.1,gP.1.1.2,gP.1.2,gP.2⟩|const v=>simp only[uv,XD,AV.aaF]at gP;cases gP|func v=>simp only[uv,XD,AV.aaF]at gP;cases gP|global v=>simp only[uv,XD,AV.aaF]at gP;cases gP
 obtain⟨q,rfl,hX,hsb,GF,Di⟩:=hx1;split at h;rename_i cs UJ;rw[UJ]at GF;simp only at GF;cases hc:(cs.all (AC.AO (F9 cs))&&xs.all (Et st))with
 |false=>rw[hc]at h;cases h
 |true=>
  rw[hc]at h;simp only[af]at h;cases ft:(Γ k).fn (.val true (cs.map AC.Uw)::xs.map (DA st))with
  |none=>rw[ft]at h;cases h
  |some y=>
   rw[ft]at h;simp only[aa]at h;cases Yn:(((Γ k).back y).all (AC.AO true)&&((Γ k).av y).acs)with
   |false=>rw[Yn]at h;cases h
   |true=>
    rw[Yn]at h;simp only[af,hcur,GF,dZ,aZ]at h;subst h;refine⟨⟨o.dst.toList.map λd=>(d,((Γ k).av y).Ga st.ep (st.il o.dst)),some (s,pM (F9 cs) (λ_=>none) 0 ((Γ k).back y)),o.dst⟩,⟨λx hx=>?_,λb hb=>?_,λd hd=>hd⟩,?_,λst2 ha=>?_⟩;simp only[List.mem_map]at hx;obtain⟨d,hd,rfl⟩:=hx;simp[writes,hd];cases hb;simp[HN,ho,fb,hsb];unfold Ll.apply AS.put AS.fw AS.eG;cases o.dst<;>rfl;have e1:st2.rd f=st.rd f:=ha.rd (λt ht=>by simp[dw,ho,ht]);have hl:∀x∈Operand.tmp q::xs,∀t∈tm x,t∈dw o:=by intro x hx t ht;simp only[dw,ho,az,Rb,List.mem_flatMap,fb];exact .inr ⟨x,hx,ht⟩
    have e2:st2.rd (.tmp q)=st.rd (.tmp q):=ha.rd (hl _ (by simp));have e3:nth st2.boxes s=nth st.boxes s:=ha.box s hX;have e4:∀x∈xs,DA st2 x=DA st x/\Et st2 x=Et st x:=λx hx=>Y3 (aW.1 Di x hx) ha.er λt ht=>ha.get t (hl x (by simp[hx]) t ht);have e5:xs.map (DA st2)=xs.map (DA st):=List.map_congr_left λx hx=>(e4 x hx).1;have e6:xs.all (Et st2)=xs.all (Et st):=by rw[fj];simp only[aW];exact⟨λg x hx=>by rw[<-(e4 x hx).2];exact g x hx,λg x hx=>by rw[(e4 x hx).2];exact g x hx⟩
    simp only[dc,ho,Gb,e1,hf,jE,af,vW,fb,e2,XD,e3,UJ,e5,e6,hc,ft,aa,Yn,hcur,GF,dZ,ha.ep,ha.il];unfold Ll.apply AS.put AS.fw AS.eG;cases o.dst<;>rfl
 cases h;cases h;cases h
theorem Za (Ap:∀f,(Γ f).io=false/\((Γ f).bx=true->(Γ f).cur=true)/\(Γ f).pr=false)(ho:o.op=.call {callee:=.value f,args,argTypes:=ts})(gn:du E an X o st=true)(h:Gb Γ o f args.toList st some=some st'):dW E Γ an X o st st':=by
 have hr:∀st2,gT an X o st st2->st2.rd f=st.rd f/\(args.toList.map λx=>((st2.rd x).fresh st2).asArg st2.ep)=args.toList.map λx=>((st.rd x).fresh st).asArg st.ep:=by
  intro st2 ha;refine⟨ha.rd (λt ht=>by simp[dw,ho,ht]),?_⟩;apply List.map_congr_left;intro x hx;have Hd:(st.rd x).now st.ep=true:=by simp only[du,ho,ah,aW]at gn;exact gn.2 x hx
  rw[ha.rd (λt ht=>by simp only[dw,ho,az,Rb,List.mem_flatMap];exact .inr ⟨x,hx,ht⟩),BL Hd,BL (s:=st2) (by rw[ha.ep];exact Hd),ha.ep]
 unfold Gb at h;split at h
 ·rename_i k hf
  cases jE:(Γ k).bx with
  |true=>rw[jE]at h;exact QT ho gn hf jE ((Ap k).2.1 jE) h
  |false=>
  rw[jE,(Ap k).2.2,(Ap k).1]at h
  simp only[ae]at h
  cases hg:(Γ k).fn (args.toList.map λx=>((st.rd x).fresh st).asArg st.ep)with
  |none=>rw[hg]at h;cases h
  |some y=>
   rw[hg]at h
   simp only[aa]at h
   cases QI:(Γ k).sel y with
   |true=>
    rw[QI]at h
    cases h
    refine dW.new rfl λst2 ha=>?_
    simp only[dc,ho,Gb,(hr st2 ha).1,hf,(Ap k).1,jE,(Ap k).2.2,ae]
    rw[(hr st2 ha).2,hg]
    simp only[aa,QI,af,ha.ep,ha.il]
   |false=>
    rw[QI]at h
    cases h
    refine dW.new rfl λst2 ha=>?_
    simp only[dc,ho,Gb,(hr st2 ha).1,hf,(Ap k).1,jE,(Ap k).2.2,ae]
    rw[(hr st2 ha).2,hg]
    simp only[aa,QI,ae,ha.ep,ha.il]
 cases h
theorem QU {src dst:TypeId}(ho:o.op=.convert src dst x)(h:mc E o src dst x st some=some st'):dW E Γ an X o st st':=by
 have hr:∀st2,gT an X o st st2->st2.rd x=st.rd x:=λst2 ha=>ha.rd (λt ht=>by simpa[dw,ho]using ht);unfold mc at h;split at h;rename_i h1 h2 h3;cases h;refine dW.put rfl λst2 ha=>?_;simp only[dc,ho,mc,hr st2 ha,h1,h2,h3];rename_i h1 h2 h3;cases h;refine dW.put rfl λst2 ha=>?_;simp only[dc,ho,mc,hr st2 ha,h1,h2,h3];rename_i jZ val s JT h1 h2 h3;split at h;rename_i hb;unfold room at h;split at h;rename_i hrm;cases h;refine dW.new (v:=.one (.sl (.own (st.il o.dst 0)) (.int .u8) (dp s))) rfl λst2 ha=>?_;have IC:∀k:AS->au AS,mc E o src dst x st2 k=if E.bytes dst then room s.length (k (st2.qb o.dst (.int .u8) (dp s))) else none:=by intro k;unfold mc;rw[hr st2 ha,h1,h2,h3];obtain⟨ag,ct,of⟩:=val;cases ag with|true=>rfl|false=>cases ct with|str=>exact(JT _ rfl).elim|_=>rfl
 simp only[dc,ho];rw[IC,aG hb,room,aG hrm,AS.qb,ha.il];cases h;cases h;rename_i val jZ fl xs h1 h2 h3;split at h;rename_i hb;cases h;refine dW.put rfl λst2 ha=>?_;have IC:∀k:AS->au AS,mc E o src dst x st2 k=if E.bytes src/\fl.live st2.ep then k (st2.put o.dst (.one (.str (aM xs)))) else none:=by intro k;unfold mc;rw[hr st2 ha,h1,h2,h3];obtain⟨ag,ct,of⟩:=val;cases ag with|true=>rfl|false=>cases ct<;>rfl
 simp only[dc,ho];rw[IC,ha.ep,aG hb];cases h;cases h
theorem Mm {d:Nat}{v:AV}:(⟨[(d,v)],some (d,cs),none⟩:Ll).apply st=(st.eG d (some cs)).put (some d) v:=rfl
theorem Wf (ho:o.op=.alloc T)(h:EO E o T st some=some st'):dW E Γ an X o st st':=by unfold EO at h;split at h;rename_i d sh hd hT;split at h;rename_i hb;cases h;refine⟨⟨[(d,.one (.ptr d 0))],some (d,cellsOf sh.ct (.own none) sh.ct.zero),none⟩,⟨λx hx=>?_,λb gL=>?_,λ_ hh=>by cases hh⟩,?_,λst2 ha=>?_⟩;simp only[eL]at hx;subst hx;simp[writes,hd];cases gL;simp[HN,ho,hd];rw[Mm,hd];simp only[dc,ho,EO,hd,hT,(ha.dst d hd).2,hb,Mm];cases h;cases h
def oB (st:AS):Operand->aq (Nat×AV)
 | .tmp t=>[(t,(st.get t).aS st.ep)]
 |_=>[]
theorem DZ (l:aq AV)(a b:aq (Nat×AV)):ka l (a++b)=ka (ka l a) b:=by induction a generalizing l with|nil=>rfl|cons x a ih=>exact ih _
def AS.ko (st:AS)(l:aq (Nat×AV)):AS:={st with slots:=ka st.slots l}
theorem ru (a b:aq (Nat×AV)):st.ko (a++b)=(st.ko a).ko b:=by simp only[AS.ko,DZ]
theorem EI (x:Operand):(st.take x).2=st.ko (oB st x):=by cases x<;>rfl
theorem FZ (xY:st2.ep=st.ep)(h:∀t∈tm x,st2.get t=st.get t):(st2.take x).1=(st.take x).1/\(st2.take x).2=st2.ko (oB st x):=by cases x with|tmp t=>have:=h t (by simp[tm]);refine⟨this,?_⟩;rw[EI];simp only[oB,this,xY]|const v=>exact⟨rfl,rfl⟩|func f=>exact⟨rfl,rfl⟩|global g=>exact⟨rfl,rfl⟩
theorem Ld:∀y∈oB st x,y.1∈tm x:=by cases x<;>simp[oB,tm]
theorem Zc (ho:o.op=.move x)(h:Ew an o x st some=some st'):dW E Γ an X o st st':=by
 unfold Ew at h;cases hd:o.dst with
 |none=>rw[hd]at h;cases h
 |some d=>
  rw[hd]at h;cases hf:an.mv.contains d with
  |false=>simp only[hf,aY,cc]at h;cases h;refine dW.put (v:=st.rd x) (by rw[hd]) λst2 ha=>?_;have hr:st2.rd x=st.rd x:=ha.rd (λt ht=>by simpa[dw,ho]using ht);simp only[dc,ho,Ew,hd,hf,aY,cc,hr]
  |true=>
   simp only[hf,bL]at h;cases h;have hr:∀st2,gT an X o st st2->(st2.take x).1=(st.take x).1/\(st2.take x).2=st2.ko (oB st x):=λst2 ha=>FZ ha.ep λt ht=>ha.get t (by simpa[dw,ho]using ht);refine⟨⟨oB st x++[(d,(st.take x).1)],none,none⟩,⟨λy hy=>?_,λ_ hh=>(by cases hh),λ_ hh=>(by cases hh)⟩,?_,λst2 ha=>?_⟩;rcases az.1 hy with hy|hy;have:=Ld y hy;have hf':d∈an.mv:=by simpa using hf
   simp[writes,HK,ho,hd,hf',dw,this];simp only[eL]at hy;subst hy;simp[writes,hd];rw[EI];show _=st.ko _;rw[ru];rfl;simp only[dc,ho,Ew,hd,hf,bL,(hr st2 ha).1,(hr st2 ha).2];show some ((st2.ko (oB st x)).put (some d) (st.take x).1)=some (st2.ko _);rw[ru];rfl
theorem Vn {ep:Nat}(h:cs.all AC.gv=true):aS ep cs=cs:=by
 rw[aW]at h;unfold aS;have:cs.map (AC.borrow ep none)=cs.map id:=List.map_congr_left λc hc=>by have:=h c hc;cases c<;>first|rfl|(simp[AC.gv]at this)
 rw[this,List.map_id]
theorem ag7 {s:AS}{vs:aq (Bool×aq AC)}(h:s.get t=.vU vs):s.put (some t) (.vU vs)=s:=by cases s with|mk slots boxes ep iss io=>simp only[AS.put,AS.mk.injEq,ij];rw[eV];apply cM;intro i;rw[bl];split;rename_i hd;subst hd;simp only[AS.get,dB]at h;split;rename_i gV;rw[al gV]at h⊢;simp only[fz]at h;rw[h];rename_i BM;rw[bH (Nat.le_of_not_lt BM)];rfl
theorem QV {i:Nat}(ho:o.op=.extract (.tmp t) i)(gn:du E an X o st=true)(h:md o t i st some=some st'):dW E Γ an X o st st':=by
 have hr:∀st2,gT an X o st st2->st2.get t=st.get t:=λst2 ha=>ha.get t (by simp[dw,ho]);unfold md at h;simp only[du,ho]at gn;split at h
 ·rename_i vs hv;rw[hv]at gn;split at h
  ·rename_i g cs hn;simp only[hn]at gn;have hfl:cs.all AC.gv=true\/∃d,o.dst=some d/\an.mv.contains d=true:=by cases hd:o.dst with|none=>simp only[hd,Bool.or_false]at gn;exact .inl gn|some d=>simp only[hd,df]at gn;rcases gn with h|h;exact .inl h;exact .inr ⟨d,rfl,h⟩
   rcases hfl with gn|⟨d,hd,Gf⟩;rotate_left;cases h;refine⟨⟨[(t,.vU (gZ vs i (g,aS 0 cs))),(d,.val g cs)],none,none⟩,⟨λx hx=>?_,(λ_ hb=>by cases hb),(λ_ hh=>by cases hh)⟩,?_,λst2 ha=>?_⟩;simp only[cv,List.not_mem_nil,or_false]at hx;rcases hx with rfl|rfl;simp only[writes,HK,ho,hd,Gf,af,dw];simp;simp only[writes,hd];simp;rw[hd];rfl;have h2:st2.get t=.vU vs:=by rw[hr st2 ha,hv]
   simp only[dc,ho,md,h2,hn,hd];rfl;skip;have DT:gZ vs i (g,cs)=vs:=by rw[eV];rw[dB]at hn;apply cM;intro k;rw[bl];split;rename_i hk;subst hk;obtain⟨hl,he⟩:=aD.1 hn;rw[aG hl,hn];rfl
   have key:∀s:AS,s.get t=.vU vs->(s.put (some t) (.vU (gZ vs i (g,aS 0 cs))))=s:=λs hs=>by rw[Vn gn,DT,ag7 hs]
   rw[key st hv]at h;cases h;refine dW.put rfl λst2 ha=>?_;have h2:st2.get t=.vU vs:=by rw[hr st2 ha,hv]
   simp only[dc,ho,md,h2,hn];rw[key st2 h2]
  cases h
 cases h
def BH (st:AS):Operand->aq (Nat×AV)
 | .tmp t=>[(t,(st.get t).aS st.ep)]
 |_=>[]
theorem Qa (st:AS)(x:Operand):(st.take x).2=⟨ka st.slots (BH st x),st.boxes,st.ep,st.iss,st.io⟩:=by cases x<;>rfl
theorem Wk {pp:Nat}(ho:o.op=.store T (.tmp pp) x)(hd:o.dst=none)(hm:nR an o=true)(gn:du E an X o st=true)(h:yy E T (.tmp pp) x st some=some st'):dW E Γ an X o st st':=by
 have hr:∀st2,gT an X o st st2->st2.rd (.tmp pp)=st.rd (.tmp pp):=λst2 ha=>ha.rd (λt ht=>by simp only[dw,ho,az];exact .inl ht);have hsb:(an.sb pp).isNone=false:=by simp only[nR,ho,ah]at hm;cases hb:an.sb pp with|none=>rw[hb]at hm;cases hm.1|some _=>rfl
 simp only[du,ho,hsb,gO,cL]at gn;unfold yy at h;split at h;rename_i sh s off hT hp;rw[hp]at gn;simp only[ah,aP,bD]at gn;split at h;rename_i gg vs st1 tF;have Tw:(st.take x).1=.val gg vs:=by rw[tF]
 have Hg:st1=⟨ka st.slots (BH st x),st.boxes,st.ep,st.iss,st.io⟩:=by rw[<-Qa,tF]
 split at h;rename_i cs hb;split at h;rename_i hlen;split at h;rename_i gI;cases h;have jE:∀st2,gT an X o st st2->nth st2.boxes s=nth st.boxes s:=λst2 ha=>ha.box s gn.1;refine⟨⟨BH st x,some (s,db cs off vs),none⟩,⟨λy hy=>?_,λb gL=>?_,λ_ hh=>by cases hh⟩,?_,λst2 ha=>?_⟩;cases x with|tmp t=>simp only[BH,eL]at hy;subst hy;simp only[writes,HK,ho,af,dw,hd];simp[tm]|_=>simp[BH]at hy
 cases gL;simp only[HN,ho,gn.2];simp;rw[Hg];rfl;have hx2:(st2.take x).1=(st.take x).1/\BH st2 x=BH st x:=by cases x with|tmp t=>have hg:st2.get t=st.get t:=ha.get t (by simp[dw,ho,tm]);simp only[AS.take,BH,hg,ha.ep];simp|const v=>exact⟨rfl,rfl⟩|func f=>exact⟨rfl,rfl⟩|global g=>exact⟨rfl,rfl⟩
 have ht2:st2.take x=(.val gg vs,⟨ka st2.slots (BH st x),st2.boxes,st2.ep,st2.iss,st2.io⟩):=by rw[<-hx2.2,<-Qa,<-Tw,<-hx2.1]
 have GG:(nth st2.boxes s).getD none=some cs:=by rw[jE st2 ha];rw[Hg]at hb;exact hb
 have Ge:Ci an o=false:=by simp only[nR,ho,ah,aP]at hm;exact hm.2
 simp only[dc,ho,hd,Ge,aY,cc,yy,hT,hr st2 ha,hp,ht2,GG,aG hlen,aG gI];rfl;cases h;cases h;cases h;cases h;rename_i r _ _ _ _ _ _ hp;rw[hp]at gn;cases r<;>simp at gn;cases h
theorem TV (ho:o.op=.assign x)(hm:nR an o=true)(h:vV E an o x st some=some st'):dW E Γ an X o st st':=by
 have hr:∀st2,gT an X o st st2->(st2.take x).1=(st.take x).1/\(st2.take x).2=st2.ko (oB st x):=λst2 ha=>FZ ha.ep λt ht=>ha.get t (by simpa[dw,ho]using ht);have Ge:Ci an o=false:=by simpa[nR,ho]using hm
 unfold vV at h;split at h;rename_i st1 tF;split at h;rename_i e hT;cases h;refine dW.put rfl λst2 ha=>?_;have h2:st2.take x=(.val false [.jB],st2.ko (oB st x)):=Prod.ext (by rw[(hr st2 ha).1,tF]) (hr st2 ha).2;simp only[dc,ho,vV,Ge,aY,cc,h2,hT];cases h;rename_i v st1 JT tF;cases h;have Hg:st1=st.ko (oB st x):=by rw[<-EI,tF]
 refine⟨⟨oB st x++o.dst.toList.map λd=>(d,v),none,none⟩,⟨λy hy=>?_,λ_ hh=>(by cases hh),λ_ hh=>(by cases hh)⟩,?_,λst2 ha=>?_⟩;rcases az.1 hy with hy|hy;have:=Ld y hy;simp[writes,HK,ho,dw,this];obtain⟨d,hd,rfl⟩:=List.mem_map.1 hy;simp[writes,hd];rw[Hg];show _=st.ko _;rw[ru];cases o.dst<;>rfl;have h2:st2.take x=(v,st2.ko (oB st x)):=Prod.ext (by rw[(hr st2 ha).1,tF]) (hr st2 ha).2;simp only[dc,ho,vV,Ge,aY,cc,h2];show some ((st2.ko (oB st x)).put o.dst v)=some (st2.ko _);rw[ru];cases o.dst<;>rfl
theorem jC {α:Type}(l:aq α)(i:Nat)(v:α)(t:Nat):nth (gZ l i v) t=if i=t then(if i<l.length then some v else none) else nth l t:=by rw[dB,eV,dB,bl]
theorem Py (l:aq AV)(a:aq (Nat×AV)):(ka l a).length=l.length:=by induction a generalizing l with|nil=>rfl|cons x a ih=>rw[ka,ih,eV,aH]
theorem Zp {l l2:aq AV}(a:aq (Nat×AV))(hl:l2.length=l.length)(t:Nat)(h:nth l2 t=nth l t):nth (ka l2 a) t=nth (ka l a) t:=by induction a generalizing l l2 with|nil=>exact h|cons x a ih=>refine ih (by rw[eV,eV,aH,aH,hl]) ?_;rw[jC,jC,hl,h]
theorem Zi (h:st2.get t=st.get t)(hl:st2.slots.length=st.slots.length):nth st2.slots t=nth st.slots t:=by unfold AS.get at h;rw[dB,dB]at h⊢;rcases bS t st.slots.length with gV|BM;rw[al gV,al (by omega)]at h⊢;simpa using h;rw[bH BM,bH (by omega)]
def jT (st:AS):aq Operand->aq (Nat×AV)
 |[]=>[]
 |x::xs=>oB st x++jT (st.ko (oB st x)) xs
theorem CZ:∀(xs:aq Operand)(st:AS),∀y∈jT st xs,y.1∈Rb xs
 |[],_,y,hy=>by cases hy
 |x::xs,st,y,hy=>by simp only[Rb,List.flatMap_cons,az];rcases az.1 hy with hy|hy;exact .inl (Ld y hy);exact .inr (CZ xs _ y hy)
theorem D4:∀(xs:aq Operand)(st st2:AS),st2.ep=st.ep->st2.slots.length=st.slots.length->(∀t∈Rb xs,nth st2.slots t=nth st.slots t)->
 (eO st2 xs).1=(eO st xs).1/\(eO st2 xs).2=st2.ko (jT st xs)
 |[],st,st2,_,_,_=>⟨rfl,rfl⟩
 |x::xs,st,st2,xY,hl,hg=>by
  have hx:∀t∈tm x,st2.get t=st.get t:=λt ht=>by unfold AS.get;rw[hg t (by simp[Rb,ht])]
  obtain⟨h1,h2⟩:=FZ (st:=st) (st2:=st2) xY hx;have h3:=EI (st:=st) x;obtain⟨k1,k2⟩:=D4 xs (st.ko (oB st x)) (st2.ko (oB st x)) xY (by simp only[AS.ko,Py,hl]) (λt ht=>Zp _ hl t (hg t (by simp only[Rb,List.flatMap_cons,az];exact .inr ht)));have e1:eO st (x::xs)=((st.take x).1::(eO (st.take x).2 xs).1,(eO (st.take x).2 xs).2):=rfl;have e2:eO st2 (x::xs)=((st2.take x).1::(eO (st2.take x).2 xs).1,(eO (st2.take x).2 xs).2):=rfl;rw[e1,e2,h1,h2,h3];refine⟨by rw[k1],?_⟩;show(eO (st2.ko (oB st x)) xs).2=_;rw[k2,jT,ru]
theorem FY (xs:aq Operand):(eO st xs).2=st.ko (jT st xs):=(D4 xs st st rfl rfl (λ_ _=>rfl)).2
theorem gT.eO (ha:gT an X o st st2){xs:aq Operand}(hx:∀t∈Rb xs,t∈dw o):(eO st2 xs).1=(Dn.eO st xs).1/\(Dn.eO st2 xs).2=st2.ko (jT st xs):=D4 xs st st2 ha.ep ha.len λt ht=>Zi (ha.get t (hx t ht)) ha.len
theorem Wg (ho:o.op=.build T parts)(h:DP E o T parts.toList st some=some st'):dW E Γ an X o st st':=by
 have hl:∀t∈Rb (parts.toList.map (·.2)),t∈dw o:=λt ht=>by simp only[dw,ho];exact ht
 unfold DP at h;split at h;rename_i ct jZ hT;split at h;rename_i vs st1 tF;have Hg:st1=st.ko (jT st (parts.toList.map (·.2))):=by rw[<-FY,tF]
 split at h;rename_i cs hb;cases h;refine⟨⟨jT st (parts.toList.map (·.2))++o.dst.toList.map λd=>(d,.val true cs),none,none⟩,⟨λy hy=>?_,λ_ hh=>(by cases hh),λ_ hh=>(by cases hh)⟩,?_,λst2 ha=>?_⟩;rcases az.1 hy with hy|hy;have:=hl _ (CZ _ _ y hy);simp[writes,HK,ho,this];obtain⟨d,hd,rfl⟩:=List.mem_map.1 hy;simp[writes,hd];rw[Hg];show _=st.ko _;rw[ru];cases o.dst<;>rfl;obtain⟨k1,k2⟩:=ha.eO hl;have h2:eO st2 (parts.toList.map (·.2))=(vs,st2.ko (jT st (parts.toList.map (·.2)))):=Prod.ext (by rw[k1,tF]) k2;simp only[dc,ho,DP,hT,h2,hb];show some ((st2.ko _).put o.dst _)=some (st2.ko _);rw[ru];cases o.dst<;>rfl;cases h;cases h
theorem dW.aiU {v:AV}(ht:HK an o=true)(hl:∀y∈tl,y.1∈dw o)(h:st'=((st.ko tl).fw o.dst).put o.dst v)(h2:∀st2,gT an X o st st2->dc E Γ an o st2 some=some (((st2.ko tl).fw o.dst).put o.dst v)):dW E Γ an X o st st':=by
 have key:∀s:AS,(⟨tl++o.dst.toList.map λd=>(d,v),none,o.dst⟩:Ll).apply s=((s.ko tl).fw o.dst).put o.dst v:=by intro s;cases o.dst with|none=>simp only[Ll.apply,Option.toList,List.map_nil,bp,AS.ko,AS.fw,AS.put]|some d=>simp only[Ll.apply,Option.toList,ed,List.map_nil,DZ,AS.ko,AS.fw,AS.put,ka]
 refine⟨⟨tl++o.dst.toList.map λd=>(d,v),none,o.dst⟩,⟨λy hy=>?_,λ_ hh=>(by cases hh),λd hh=>hh⟩,by rw[key];exact h,λst2 ha=>by rw[key];exact h2 st2 ha⟩;rcases az.1 hy with hy|hy;simp[writes,ht,hl y hy];obtain⟨d,hd,rfl⟩:=List.mem_map.1 hy;simp[writes,hd]
theorem BQ {d:au Nat}:(st.ko tl).il d=st.il d:=rfl
theorem LW {len:Nat}(ho:o.op=.buildSlice T len parts)(h:lY E o T len parts.toList st some=some st'):dW E Γ an X o st st':=by
 have hl:∀t∈Rb (parts.toList.map (·.2)),t∈dw o:=λt ht=>by simp only[dw,ho];exact ht
 unfold lY at h;split at h;rename_i e hT;split at h;rename_i hc;split at h;rename_i vs st1 tF;have Hg:st1=st.ko (jT st (parts.toList.map (·.2))):=by rw[<-FY,tF]
 split at h;rename_i xs hb;cases h;refine dW.aiU (tl:=jT st (parts.toList.map (·.2))) (v:=.one (.sl (.own (st.il o.dst 0)) e xs)) (by simp[HK,ho]) (λy hy=>hl _ (CZ _ _ y hy)) ?_ λst2 ha=>?_;rw[Hg,AS.qb,BQ];obtain⟨k1,k2⟩:=ha.eO hl;have h2:eO st2 (parts.toList.map (·.2))=(vs,st2.ko (jT st (parts.toList.map (·.2)))):=Prod.ext (by rw[k1,tF]) k2;simp only[dc,ho,lY,hT,h2,hb,aG hc];rw[AS.qb,BQ,ha.il];cases h;cases h;cases h
theorem No {n c:Operand}(ho:o.op=.makeSlice T n c)(h:oP E o T n c st some=some st'):dW E Γ an X o st st':=by
 have hr:∀st2,gT an X o st st2->st2.rd n=st.rd n/\st2.rd c=st.rd c:=λst2 ha=>
  ⟨ha.rd (λt ht=>by simp[dw,ho,ht]),ha.rd (λt ht=>by simp[dw,ho,ht])⟩
 unfold oP at h;split at h;rename_i e len cap hT hn hc;split at h;rename_i hlc;unfold room at h;split at h;rename_i hrm;cases h;refine dW.new (v:=.one (.sl (.own (st.il o.dst 0)) e (List.replicate len.toNat e.zero))) rfl λst2 ha=>?_;simp only[dc,ho,oP,(hr st2 ha).1,(hr st2 ha).2,hT,hn,hc,aG hlc,room,aG hrm,AS.qb,ha.il];cases h;cases h;cases h
theorem TU (ho:o.op=.call {callee:=.builtin .append,args,argTypes:=ts})(h:yC E o ts.toList args.toList st some=some st'):dW E Γ an X o st st':=by
 have XA:∀t∈Rb args.toList,t∈dw o:=λt ht=>by simp only[dw,ho];exact ht
 unfold yC at h;split at h;rename_i t t' s x qW fb;have hl:∀u∈Rb [s,x],u∈dw o:=by rw[<-fb];exact XA
 have ahI:∀st2,gT an X o st st2->(st2.take s).1=(st.take s).1/\((st2.take s).2.take x).1=((st.take s).2.take x).1/\((st2.take s).2.take x).2=st2.ko (jT st [s,x]):=by intro st2 ha;obtain⟨k1,k2⟩:=ha.eO hl;simp only[Dn.eO,List.cons.injEq,ij]at k1 k2;exact⟨k1.1,k1.2,k2⟩
 have Di:((st.take s).2.take x).2=st.ko (jT st [s,x]):=FY (st:=st) [s,x];split at h;rename_i tag e xs st1 Tw;split at h;rename_i fl e' ys aiP Kh;split at h;rename_i he;subst he;split at h;rename_i hc;unfold room at h;split at h;rename_i hrm;cases h;have Hg:(st.take s).2=st1:=by rw[Tw]
 have Tu:aiP=st.ko (jT st [s,x]):=by rw[<-Di,Hg,Kh]
 refine dW.aiU (tl:=jT st [s,x]) (v:=.one (.sl (.own (st.il o.dst 0)) e' (xs++ys))) (by simp[HK,ho]) (λy hy=>hl _ (CZ _ _ y hy)) ?_ λst2 ha=>?_;rw[Tu,AS.qb,BQ];obtain⟨k1,k2,k3⟩:=ahI st2 ha;have e1:st2.take s=(.val false [.sl (.own tag) e' xs],(st2.take s).2):=Prod.ext (by rw[k1,Tw]) rfl;have e2:(st2.take s).2.take x=(.val false [.sl fl e' ys],st2.ko (jT st [s,x])):=Prod.ext (by rw[k2,Hg,Kh]) k3;simp only[dc,ho,yC,qW,fb];rw[e1];simp only;rw[e2];simp only[dite_true,ha.ep,aG hc,room,aG hrm,AS.qb,BQ,ha.il];cases h;cases h;cases h;rename_i sx aiP Kh;split at h;rename_i he;subst he;split at h;rename_i hc;unfold room at h;split at h;rename_i hrm;cases h;have Hg:(st.take s).2=st1:=by rw[Tw]
 have Tu:aiP=st.ko (jT st [s,x]):=by rw[<-Di,Hg,Kh]
 refine dW.aiU (tl:=jT st [s,x]) (v:=.one (.sl (.own (st.il o.dst 0)) (.int .u8) (xs++dp sx))) (by simp[HK,ho]) (λy hy=>hl _ (CZ _ _ y hy)) ?_ λst2 ha=>?_;rw[Tu,AS.qb,BQ];obtain⟨k1,k2,k3⟩:=ahI st2 ha;have e1:st2.take s=(.val false [.sl (.own tag) (.int .u8) xs],(st2.take s).2):=Prod.ext (by rw[k1,Tw]) rfl;have e2:(st2.take s).2.take x=(.val false [.str sx],st2.ko (jT st [s,x])):=Prod.ext (by rw[k2,Hg,Kh]) k3;simp only[dc,ho,yC,qW,fb];rw[e1];simp only;rw[e2];simp only[dite_true,aG hc,room,aG hrm,AS.qb,BQ,ha.il];cases h;cases h;cases h;cases h;cases h;cases h
theorem acj (ho:o.op=.box T x)(h:SY o x st some=some st'):dW E Γ an X o st st':=by
 have hr:∀st2,gT an X o st st2->(st2.take x).1=(st.take x).1/\(st2.take x).2=st2.ko (oB st x):=λst2 ha=>FZ ha.ep λt ht=>ha.get t (by simpa[dw,ho]using ht);unfold SY at h;split at h;rename_i d g cs st1 hd tF;have Hg:st1=st.ko (oB st x):=by rw[<-EI,tF]
 split at h;rename_i hb;split at h;rename_i hs;cases h;have UJ:nth st.boxes d=some none:=by rw[Hg]at hb;exact hb
 have key:∀s:AS,(⟨oB st x++[(d,.one (.ptr d 0))],some (d,cs),none⟩:Ll).apply s=((s.ko (oB st x)).eG d (some cs)).put (some d) (.one (.ptr d 0)):=by intro s;simp only[Ll.apply,DZ,AS.ko,AS.eG,AS.put,ka]
 refine⟨⟨oB st x++[(d,.one (.ptr d 0))],some (d,cs),none⟩,⟨λy hy=>?_,λb gL=>?_,λ_ hh=>(by cases hh)⟩,?_,λst2 ha=>?_⟩;rcases az.1 hy with hy|hy;have:=Ld y hy;simp[writes,HK,ho,dw,this];simp only[eL]at hy;subst hy;simp[writes,hd];cases gL;simp[HN,ho,hd];rw[key,Hg,hd];have h2:st2.take x=(.val g cs,st2.ko (oB st x)):=Prod.ext (by rw[(hr st2 ha).1,tF]) (hr st2 ha).2;have GG:nth (st2.ko (oB st x)).boxes d=some none:=by show nth st2.boxes d=_;rw[(ha.dst d hd).2];exact UJ
 simp only[dc,ho,SY,hd,h2,GG,aG hs,key];cases h;cases h;cases h
theorem P1 (Ap:∀f,(Γ f).io=false/\((Γ f).bx=true->(Γ f).cur=true)/\(Γ f).pr=false)(hm:nR an o=true)(gn:du E an X o st=true)(h:dc E Γ an o st some=some st'):dW E Γ an X o st st':=by
 have h0:=h;unfold dc at h;split at h;rename_i ho;exact Zc ho h;rename_i ho;have Ge:Ci an o=false:=by simpa[nR,ho]using hm
 rw[aF (by simp[Ge])]at h;exact TV ho hm h;rename_i ho;exact Zd ho h;rename_i ho;exact Wf ho h;rename_i ho;exact acj ho h;rename_i ho;exact Zb ho hm gn h;rename_i T p x ho;split at h;rename_i hd;cases p with
 |tmp pp=>
  have Ge:Ci an o=false:=by simp only[nR,ho,ah,aP]at hm;exact hm.2
  rw[aF (by simp[Ge])]at h;exact Wk ho hd hm gn h
 |const v=>simp[nR,ho]at hm
 |func f=>simp[nR,ho]at hm
 |global g=>simp[nR,ho]at hm
 cases h;rename_i ho;exact Ph ho h0;rename_i ho;exact aci ho h;rename_i ho;exact afe ho h;rename_i ho;exact Wh ho h;rename_i ho;exact Nn ho gn h;rename_i ho;exact Wi ho h;rename_i ho;exact Wg ho h;rename_i ho;exact LW ho h;rename_i ho;exact No ho h;rename_i ho;exact Wj ho hm gn h;rename_i ho;simp[nR,ho]at hm;rename_i ho;simp[nR,ho]at hm;rename_i ho;exact QU ho h;rename_i ho;exact QV ho gn h;rename_i ho;exact ack ho h;rename_i ho;exact acn ho h;rename_i ho;exact acm ho h;rename_i ho;exact TU ho h;rename_i ho;exact Za Ap ho gn h;cases h
end Go.Dn
