import Derived.Test.YthllnaiaikjelaaGreatDnMask
/- What an operation looks at and what it turns: for regions whose order is drawn. -/
namespace Go.Dn
structure KQ where
 slots:List (Nat×AV):=[]
 box:Option (Nat×List AC):=none
 iss:Option Nat:=none
def jE (l:aq AV):aq (Nat×AV)->aq AV
 |[]=>l
 |x::r=>jE (gL l x.1 x.2) r
def KQ.apply (u:KQ)(st:AS):AS:=
 ⟨jE st.slots u.slots,(match u.box with|some b=>gL st.boxes b.1 (some b.2)|none=>st.boxes),st.ep,(match u.iss with|some d=>gL st.iss d true|none=>st.iss),st.io⟩
structure gD (an:An) (X:List Nat) (o:Oper) (st st2:AS):Prop where
 len:st2.slots.length=st.slots.length
 get:∀t∈dq o,st2.get t=st.get t
 ep:st2.ep=st.ep
 dst:∀d,o.dst=some d->nth st2.iss d=nth st.iss d/\nth st2.boxes d=nth st.boxes d
 box:∀s,X.contains s=false->nth st2.boxes s=nth st.boxes s
 er:∀t∈erS an o,st2.get t=st.get t
structure KQ.Iy (an:An) (u:KQ) (o:Oper):Prop where
 slots:∀x∈u.slots,x.1∈writes an o
 box:∀b,u.box=some b->b.1∈GZ an o
 iss:∀d,u.iss=some d->o.dst=some d
variable {E:Env} {Γ:xf} {an:An} {X:dy} {o:Oper} {st st2 st':AS}
variable {parts:Array (Nat×Operand)} {args:Array Operand} {ts:Array TypeId} {t:Nat} {f p x:Operand} {T:TypeId} {tl:aq (Nat×AV)} {cs:aq AC}
theorem aes (xg:st2.ep=st.ep)(h:∀t∈tm x,st2.get t=st.get t):st2.rd x=st.rd x:=by cases x with|tmp t=>simp only[AS.rd,xg,h t (by simp[tm])]|const v=>rfl|func f=>rfl|global g=>rfl
def dN (E:Env)(Γ:xf)(an:An)(X:dy)(o:Oper)(st st':AS):Prop:=
 ∃u:KQ,u.Iy an o/\st'=u.apply st/\∀st2,gD an X o st st2->cO E Γ an o st2 some=some (u.apply st2)
def Fg (o:Oper)(v:AV):KQ:={slots:=o.dst.toList.map λd=>(d,v)}
theorem sq (v:AV):(Fg o v).apply st=st.put o.dst v:=by unfold Fg KQ.apply AS.put;cases o.dst<;>rfl
theorem C6 (v:AV):(Fg o v).Iy an o:=by refine⟨λx hx=>?_,λb hb=>by simp[Fg]at hb,λd hd=>by simp[Fg]at hd⟩;simp only[Fg,List.mem_map]at hx;obtain⟨d,hd,rfl⟩:=hx;simp[writes,hd]
def Jh (o:Oper)(v:AV):KQ:={slots:=o.dst.toList.map λd=>(d,v),iss:=o.dst}
theorem KM (v:AV):(Jh o v).apply st=(st.eX o.dst).put o.dst v:=by unfold Jh KQ.apply AS.put AS.eX;cases o.dst<;>rfl
theorem Qs (v:AV):(Jh o v).Iy an o:=by refine⟨λx hx=>?_,λb hb=>by simp[Jh]at hb,λd hd=>by simpa[Jh]using hd⟩;simp only[Jh,List.mem_map]at hx;obtain⟨d,hd,rfl⟩:=hx;simp[writes,hd]
theorem dN.put {v:AV}(h:st'=st.put o.dst v)(h2:∀st2,gD an X o st st2->cO E Γ an o st2 some=some (st2.put o.dst v)):dN E Γ an X o st st':=⟨Fg o v,C6 v,by rw[sq];exact h,λst2 ha=>by rw[sq];exact h2 st2 ha⟩
theorem gD.rd (ha:gD an X o st st2)(hx:∀t∈tm x,t∈dq o):st2.rd x=st.rd x:=aes ha.ep λt ht=>ha.get t (hx t ht)
theorem Yf {c y:Operand}(ho:o.op=.pick c x y)(h:GD o c x y st some=some st'):dN E Γ an X o st st':=by
 have hr:∀st2,gD an X o st st2->st2.rd c=st.rd c/\st2.rd x=st.rd x/\st2.rd y=st.rd y:=λst2 ha=>
  ⟨ha.rd (λt ht=>by simp[dq,ho,ht]),ha.rd (λt ht=>by simp[dq,ho,ht]),ha.rd (λt ht=>by simp[dq,ho,ht])⟩
 unfold GD at h;split at h;rename_i t hc;split at h;rename_i a b hx hy;cases h;refine dN.put rfl λst2 ha=>?_;obtain⟨h1,h2,h3⟩:=hr st2 ha;simp only[cO,ho,GD,h1,h2,h3,hc,hx,hy];rename_i va vb Hj;have Zr:∀st2,gD an X o st st2->cO E Γ an o st2 some=cond t (some (st2.put o.dst (st.rd x))) (some (st2.put o.dst (st.rd y))):=by intro st2 ha;obtain⟨h1,h2,h3⟩:=hr st2 ha;simp only[cO,ho,GD,h1,h2,h3,hc]
 cases t with|true=>cases h;exact dN.put rfl λst2 ha=>Zr st2 ha|false=>cases h;exact dN.put rfl λst2 ha=>Zr st2 ha
 cases h
theorem Oy {d s:Nat}{v:AV}:(⟨[(d,v)],some (s,cs),none⟩:KQ).apply st=(st.eh s (some cs)).put (some d) v:=rfl
theorem RS {o:Oper}(h:GV an o=true):∃T q d,o.op=.load T (.tmp q)/\o.dst=some d/\o.guard=none/\an.mv.contains d=true/\an.mb d=none:=by unfold GV at h;split at h;rename_i T q d ho hd hg;simp only[ah,Option.isNone_iff_eq_none]at h;exact⟨T,q,d,ho,hd,hg,h.1.1,h.1.2⟩;cases h
def KK (st:AS)(b j t:Nat)(e:CT)(i:Int)(cs:aq AC)(ys:aq e.D):AS:=st.eh b (some (gL cs j (.sl (.eS (some t) i (some st.ep)) e ys)))
theorem Pn {q d:Nat}(ht:GV an o=true)(ho:o.op=.load T (.tmp q))(hd:o.dst=some d)(Ft:an.mv.contains d=true)(KR:an.mb d=none):(dj E an X o st=true/\oz E an o T (.tmp q) st some=some st')↔ ∃(g:Bool)(e:CT)(jC:aq (Nat×Nat))(b j t NJ:Nat)(x:e.D)(i:Int)(cs:aq AC)(ys:aq e.D)(y:e.D),iC E.ty T=some ⟨g,e,jC⟩/\st.rd (.tmp q)=.val false [.Cg (.loc NJ (some (.box b j,t))) e x i 0]/\(nth st.boxes b).getD none=some cs/\nth cs j=some (.sl (.own (some t)) e ys)/\idx ys i=some y/\ X.contains b=false/\an.eb q=some b/\WB an o=false/\st'=(KK st b j t e i cs ys).put (some d) (.val g (cellsOf e (.own none) y)):=by
 have sI:GY an o=true:=by unfold GY;rw[hd];simp only[Ft,KR];rfl
 have Jm:C5 an o=false:=by unfold C5;split;rename_i Xv _;rw[hd]at Xv;cases Xv;rw[KR];simp;rfl
 have hnp:CH an o=false:=by unfold CH;split;rename_i Xv _;rw[hd]at Xv;cases Xv;rw[Ft];rfl;rfl
 constructor;rintro⟨hf,h⟩;unfold oz at h;split at h;rename_i hp;simp only[dj,ho,hp,hd,Ft,KR]at hf;simp at hf;rename_i sh fl e x i off hT hp;rw[aH sI]at h;simp only[dj,ho,hp,ht,Jm,hnp,Bool.or_false,cL,aj,cR,gP,ah,aQ]at hf;obtain⟨⟨HQ,MY⟩,hb⟩:=hf;unfold zn at h;split at h;rename_i NJ r t;cases r with
 |slot _ _=>cases hb
 |io _=>cases hb
 |box b j=>
  simp only[ah,bk,aQ]at hb;split at h;rename_i t' e' ys Zv;split at h;rename_i he;subst he;split at h;rename_i hc;obtain⟨rfl,rfl,LZ⟩:=hc;obtain⟨g,ct,jC⟩:=sh;simp only at LZ;subst LZ;cases hi:idx ys i with|none=>simp only[hi,aa]at h;cases h|some y=>simp only[hi,aa]at h;cases h;simp only[AS.eF]at Zv;obtain⟨cs,K7,hj⟩:=aI.1 Zv;refine⟨g,_,jC,b,j,_,NJ,x,i,cs,ys,y,hT,hp,K7,hj,hi,hb.2,hb.1,MY,?_⟩;simp only[AS.eM,K7,hd];rfl
  cases h;cases h;cases h
 cases h;cases h;rintro⟨g,e,jC,b,j,t,NJ,x,i,cs,ys,y,hT,hp,K7,hj,hi,hX,Sw,MY,rfl⟩;constructor;simp only[dj,ho,hp,ht,Jm,hnp,MY,hX,Sw];simp;simp only[oz,hT,hp,sI,bF,zn,AS.eF,K7,dZ,hj,dite_true,and_self,hi,aa,AS.eM,hd];rfl
theorem Vv (ht:GV an o=true)(ho:o.op=.load T p)(fR:dj E an X o st=true)(h:oz E an o T p st some=some st'):dN E Γ an X o st st':=by obtain⟨T',q,d,MB,hd,hg,Ft,KR⟩:=RS ht;rw[ho]at MB;cases MB;obtain⟨g,e,jC,b,j,t,NJ,x,i,cs,ys,y,hT,hp,K7,hj,hi,hX,Sw,MY,rfl⟩:=(Pn ht ho hd Ft KR).1 ⟨fR,h⟩;refine⟨⟨[(d,.val g (cellsOf e (.own none) y))],some (b,gL cs j (.sl (.eS (some t) i (some st.ep)) e ys)),none⟩,⟨λx hx=>?_,λb' gA=>?_,λ_ hh=>by cases hh⟩,rfl,λst2 ha=>?_⟩;simp only[eE]at hx;subst hx;simp[writes,hd];cases gA;simp only[GZ,ho,hd,Ft,af,ht,Sw];simp;have h2:=((Pn (E:=E) (X:=X) (st:=st2) ht ho hd Ft KR).2 ⟨g,e,jC,b,j,t,NJ,x,i,cs,ys,y,hT,by rw[ha.rd (λt ht=>by simpa[dq,ho]using ht)];exact hp,by rw[ha.box b hX];exact K7,hj,hi,hX,Sw,MY,rfl⟩).2;simp only[cO,ho];rw[h2];simp only[KK,ha.ep];rfl
theorem Yd (ho:o.op=.load T p)(hm:nr an o=true)(fR:dj E an X o st=true)(h:oz E an o T p st some=some st'):dN E Γ an X o st st':=by
 cases hE:GV an o with|true=>exact Vv hE ho fR h|false=> ?_
 have hr:∀st2,gD an X o st st2->st2.rd p=st.rd p:=λst2 ha=>ha.rd (λt ht=>by simpa[dq,ho]using ht);have sI:GY an o=false:=by simp only[nr,ho,hE,Bool.or_false]at hm;unfold GY;cases Sv:o.dst with|none=>rfl|some d=>rw[Sv]at hm;simp only[da,aQ]at hm;rcases hm with hm|hm;simp only[hm,fM];cases KR:an.mb d with|none=>rw[KR]at hm;cases hm|some _=>simp[KR]
 unfold oz at h;split at h;rename_i sh s off hT hp;simp only[dj,ho,hp,ah,aQ]at fR;split at h;rename_i cs hb;split at h;rename_i gv;split at h;rename_i d hd;have ji:∀st2,gD an X o st st2->nth st2.boxes s=nth st.boxes s:=λst2 ha=>ha.box s fR.1.1;cases hf:an.mv.contains d with
 |false=>simp only[hf,aW,bV]at h;cases h;refine dN.put (by rw[hd]) λst2 ha=>?_;simp only[cO,ho,oz,hT,hr st2 ha,hp,ji st2 ha,hb,aH gv,hd,hf,aW,bV,ha.ep]
 |true=>
  simp only[hf,bF]at h;have KR:an.mb d=some s:=by have:=fR.1.2;rw[hd]at this;simp only[hf,aj,cR,bk]at this;exact this
  cases h;refine⟨⟨[(d,.val sh.agg ((cs.drop off).take sh.ct.size))],some (s,cY cs off (aR st.ep ((cs.drop off).take sh.ct.size))),none⟩,⟨λx hx=>?_,λb gA=>?_,λ_ hh=>by cases hh⟩,?_,λst2 ha=>?_⟩;simp only[eE]at hx;subst hx;simp[writes,hd];cases gA;simp only[GZ,ho,hd,hf,af,KR];simp;rw[Oy,hd];simp only[cO,ho,oz,hT,hr st2 ha,hp,ji st2 ha,hb,aH gv,hd,hf,bF,ha.ep,Oy]
 cases h;cases h;cases h;rename_i sh fl e x i off hT hp;rw[aG (by simp[sI])]at h;split at h;rename_i hl;split at h;rename_i gv;cases h;refine dN.put rfl λst2 ha=>?_;simp only[cO,ho,oz,hT,hr st2 ha,hp,ha.ep,sI,aW,bV,aH hl,aH gv];cases h;rename_i hl;have H5:∀r t NJ,fl=.loc NJ (some (r,t))->∀st2,gD an X o st st2->st2.eF r=st.eF r:=by rintro r t NJ rfl st2 ha;simp only[dj,ho,hp,hE,cL,Bool.true_or,gP,ah,da]at fR;rcases fR.1.1 with hq|hq;exact absurd hq hl;cases r with|slot b j=>simp only[AS.eF];rw[ha.er b (by simpa using hq)]|box b j=>simp only[AS.eF];rw[ha.box b (by simpa using hq)]|io j=>cases hq
 unfold E7 at h;split at h;rename_i NJ r t;split at h;rename_i t' e' ys Zv;split at h;rename_i he;split at h;rename_i hc;cases hi:idx (he▸ys:List _) i with|none=>rw[hi]at h;cases h|some y=>rw[hi]at h;simp only[aa]at h;cases h;refine dN.put rfl λst2 ha=>?_;simp only[cO,ho,oz,hT,hr st2 ha,hp,ha.ep,sI,aW,bV,aG hl,E7,H5 _ _ _ rfl st2 ha,Zv,dif_pos he,aH hc,hi,aa]
 cases h;cases h;cases h;cases h;cases h
theorem OC (ho:o.op=.nilCheck x)(h:cO E Γ an o st some=some st'):dN E Γ an X o st st':=by have hr:∀st2,gD an X o st st2->st2.rd x=st.rd x:=λst2 ha=>ha.rd (λt ht=>by simpa[dq,ho]using ht);simp only[cO,ho]at h;split at h;rename_i s off hx;cases h;refine dN.put rfl λst2 ha=>?_;simp only[cO,ho,hr st2 ha,hx];rename_i fl e y i off hx;cases h;refine dN.put rfl λst2 ha=>?_;simp only[cO,ho,hr st2 ha,hx];cases h
theorem Py {op:BinOp}{x y:AV}(h:(HL op x y λc=>some (st.put o.dst (.one c)))=some st'):∃v,st'=st.put o.dst v/\∀st2:AS,(HL op x y λc=>some (st2.put o.dst (.one c)))=some (st2.put o.dst v):=by have key:∀s:AS,(HL op x y λc=>some (s.put o.dst (.one c)))=(HL op x y some).bind λc=>some (s.put o.dst (.one c)):=λs=>(Ha op x y some _).symm;rw[key st]at h;cases hb:HL op x y some with|none=>rw[hb]at h;cases h|some c=>rw[hb]at h;cases h;exact⟨_,rfl,λst2=>by rw[key st2,hb];rfl⟩
theorem RY {op:BinOp}{b:Bool}(h:(Fp op b λc=>some (st.put o.dst (.one c)))=some st'):∃v,st'=st.put o.dst v/\∀st2:AS,(Fp op b λc=>some (st2.put o.dst (.one c)))=some (st2.put o.dst v):=by unfold Fp at h;split at h;cases h;exact⟨_,rfl,λst2=>rfl⟩;cases h;exact⟨_,rfl,λst2=>rfl⟩;cases h
theorem abl {op:BinOp}{T':TypeId}{y:Operand}(ho:o.op=.binOp op T x y T')(h:Cb E o op T x y st some=some st'):dN E Γ an X o st st':=by
 have hr:∀st2,gD an X o st st2->st2.rd x=st.rd x/\st2.rd y=st.rd y:=λst2 ha=>
  ⟨ha.rd (λt ht=>by simp[dq,ho,ht]),ha.rd (λt ht=>by simp[dq,ho,ht])⟩
 unfold Cb at h;split at h;rename_i a b hx hy;split at h;rename_i hT;obtain⟨v,rfl,hv⟩:=Py h;refine dN.put rfl λst2 ha=>?_;simp only[cO,ho,Cb,(hr st2 ha).1,(hr st2 ha).2,hx,hy,aH hT];exact hv st2;cases h;rename_i xs ys hx hy;split at h;rename_i ls hq;split at h;rename_i gv;obtain⟨v,rfl,hv⟩:=Py h;refine dN.put rfl λst2 ha=>?_;simp only[cO,ho,Cb,(hr st2 ha).1,(hr st2 ha).2,hx,hy,hq,aH gv];exact hv st2;cases h;cases h;rename_i fl e xs hx hy;split at h;rename_i hT;split at h;cases h;rename_i hlen;obtain⟨v,rfl,hv⟩:=RY h;refine dN.put rfl λst2 ha=>?_;simp only[cO,ho,Cb,(hr st2 ha).1,(hr st2 ha).2,hx,hy,ha.ep,aH hT,aG hlen];exact hv st2;cases h;rename_i hx hy;split at h;rename_i hT;obtain⟨v,rfl,hv⟩:=RY h;refine dN.put rfl λst2 ha=>?_;simp only[cO,ho,Cb,(hr st2 ha).1,(hr st2 ha).2,hx,hy,aH hT];exact hv st2;cases h;rename_i a b D1 B6 hn3 hn4;obtain⟨v,rfl,hv⟩:=Py h;refine dN.put rfl λst2 ha=>?_;simp only[cO,ho,Cb,(hr st2 ha).1,(hr st2 ha).2];exact hv st2
theorem aef {op:UnOp}(ho:o.op=.unOp op T x)(h:(unC op (st.rd x) λc=>some (st.put o.dst (.one c)))=some st'):dN E Γ an X o st st':=by have hr:∀st2,gD an X o st st2->st2.rd x=st.rd x:=λst2 ha=>ha.rd (λt ht=>by simpa[dq,ho]using ht);have key:∀s:AS,(unC op (st.rd x) λc=>some (s.put o.dst (.one c)))=(unC op (st.rd x) some).bind λc=>some (s.put o.dst (.one c)):=λs=>(Wp op (st.rd x) some _).symm;rw[key st]at h;cases hb:unC op (st.rd x) some with|none=>rw[hb]at h;cases h|some c=>rw[hb]at h;cases h;refine dN.put rfl λst2 ha=>?_;simp only[cO,ho,hr st2 ha];rw[key st2,hb];rfl
theorem Vr {S:TypeId}{f:Nat}(ho:o.op=.fieldAddr S p f)(h:Bk E o S p f st some=some st'):dN E Γ an X o st st':=by have hr:∀st2,gD an X o st st2->st2.rd p=st.rd p:=λst2 ha=>ha.rd (λt ht=>by simpa[dq,ho]using ht);unfold Bk at h;split at h;rename_i hT hp;split at h;rename_i hf;cases h;refine dN.put rfl λst2 ha=>?_;simp only[cO,ho,Bk,hr st2 ha,hT,hp,hf];cases h;rename_i hT hp;split at h;rename_i hf;cases h;refine dN.put rfl λst2 ha=>?_;simp only[cO,ho,Bk,hr st2 ha,hT,hp,hf];cases h;cases h
theorem AX {v:AV}{s:AS}(h:v.now s.ep=true):v.fresh s=v:=by
 cases v with
 |uT vs=>rfl
 |val g cs=>
  simp only[AV.now,ba]at h;simp only[AV.fresh];congr 1;have:cs.map s.fresh=cs.map id:=List.map_congr_left λc hc=>by have hn:=h c hc;unfold AS.fresh;split;simp only[AC.now]at hn;rw[hn];rfl;rfl
  rw[this,List.map_id]
theorem Uy {v:AV}{st st2:AS}(he:st2.ep=st.ep)(h:v.now st.ep=true\/∃g ep b j t e xs,v=.val g [.sl (.loc ep (some (.box b j,t))) e xs]/\nth st2.boxes b=nth st.boxes b):v.fresh st2=v.fresh st:=by rcases h with h|⟨g,ep,b,j,t,e,xs,rfl,hb⟩;rw[AX h,AX (by rw[he];exact h)];simp only[AV.fresh,dC,List.map_nil];congr 2;unfold AS.fresh;simp only[AS.eF,he,hb]
theorem MG {i:Operand}(ho:o.op=.indexAddr T x i)(fR:dj E an X o st=true)(h:lY E o T x i st some=some st'):dN E Γ an X o st st':=by
 have hr:∀st2,gD an X o st st2->st2.rd x=st.rd x/\st2.rd i=st.rd i:=λst2 ha=>
  ⟨ha.rd (λt ht=>by simp[dq,ho,ht]),ha.rd (λt ht=>by simp[dq,ho,ht])⟩
 have D0:∀st2,gD an X o st st2->(st.rd x).fresh st2=(st.rd x).fresh st:=λst2 ha=>by refine Uy ha.ep ?_;simp only[dj,ho,da]at fR;rcases fR with hn|hn;exact .inl hn;split at hn;rename_i g ep b j t e xs hx;exact .inr ⟨g,ep,b,j,t,e,xs,hx,ha.box b (by simpa using hn)⟩;cases hn
 unfold lY at h;split at h;rename_i e' fl e xs k n hT hx hi;split at h;rename_i hc;cases Ej:idx xs n with|none=>rw[Ej]at h;cases h|some y=>rw[Ej]at h;cases h;refine dN.put rfl λst2 ha=>?_;have hf3:=D0 st2 ha;rw[hx]at hf3;simp only[cO,ho,lY,(hr st2 ha).1,(hr st2 ha).2,hf3,hT,hi,ha.ep,aH hc,Ej,aa]
 cases h;cases h
theorem Vs {i:Operand}(ho:o.op=.index T x i)(h:CW E o T x i st some=some st'):dN E Γ an X o st st':=by
 have hr:∀st2,gD an X o st st2->st2.rd x=st.rd x/\st2.rd i=st.rd i:=λst2 ha=>
  ⟨ha.rd (λt ht=>by simp[dq,ho,ht]),ha.rd (λt ht=>by simp[dq,ho,ht])⟩
 unfold CW at h;split at h;rename_i s k n hx hi;split at h;rename_i hc;cases Ej:idx s n with|none=>rw[Ej]at h;cases h|some y=>rw[Ej]at h;cases h;refine dN.put rfl λst2 ha=>?_;simp only[cO,ho,CW,(hr st2 ha).1,(hr st2 ha).2,hx,hi,aH hc,Ej,aa]
 cases h;cases h
theorem dN.new {v:AV}(h:st'=(st.eX o.dst).put o.dst v)(h2:∀st2,gD an X o st st2->cO E Γ an o st2 some=some ((st2.eX o.dst).put o.dst v)):dN E Γ an X o st st':=⟨Jh o v,Qs v,by rw[KM];exact h,λst2 ha=>by rw[KM];exact h2 st2 ha⟩
theorem gD.gV (ha:gD an X o st st2):st2.gV o.dst=st.gV o.dst:=by funext j;cases hd:o.dst with|none=>rfl|some d=>simp only[AS.gV,(ha.dst d hd).1]
theorem Kc {lo hi:ar Operand}{n:Nat}{f:AS->Int->Int->ar AS}(hs:∀st2,gD an X o st st2->lo.map st2.rd=lo.map st.rd/\hi.map st2.rd=hi.map st.rd)(h:mw st lo hi n (f st)=some st'):∃a b,f st a b=some st'/\∀st2,gD an X o st st2->mw st2 lo hi n (f st2)=f st2 a b:=by unfold mw at h;split at h;rename_i h1 h2;exact⟨_,_,h,λst2 ha=>by simp only[mw,(hs st2 ha).1,(hs st2 ha).2,h1,h2]⟩;rename_i h1 h2;exact⟨_,_,h,λst2 ha=>by simp only[mw,(hs st2 ha).1,(hs st2 ha).2,h1,h2]⟩;rename_i h1 h2;exact⟨_,_,h,λst2 ha=>by simp only[mw,(hs st2 ha).1,(hs st2 ha).2,h1,h2]⟩;rename_i h1 h2;exact⟨_,_,h,λst2 ha=>by simp only[mw,(hs st2 ha).1,(hs st2 ha).2,h1,h2]⟩;cases h
theorem Vt {lo hi:ar Operand}(ho:o.op=.slice T x lo hi none)(hm:nr an o=true)(fR:dj E an X o st=true)(h:BW E an o T x lo hi st some=some st'):dN E Γ an X o st st':=by
 have hr:∀st2,gD an X o st st2->st2.rd x=st.rd x:=λst2 ha=>ha.rd (λt ht=>by simp[dq,ho,ht]);have hb:∀st2,gD an X o st st2->lo.map st2.rd=lo.map st.rd/\hi.map st2.rd=hi.map st.rd:=by
  intro st2 ha;constructor;cases lo with|none=>rfl|some y=>simp only[db];rw[ha.rd (λt ht=>by simp[dq,ho,tmO,ht])]
  cases hi with|none=>rfl|some y=>simp only[db];rw[ha.rd (λt ht=>by simp[dq,ho,tmO,ht])]
 have Gm:(st.rd x).now st.ep=true:=by simpa[dj,ho]using fR
 have D0:∀st2,gD an X o st st2->(st.rd x).fresh st2=st.rd x:=λst2 ha=>AX (by rw[ha.ep];exact Gm);have sI:GY an o=false:=by simpa[nr,ho]using hm
 unfold BW at h;rw[aG (by simp[sI]),AX Gm]at h;split at h;rename_i s hx;split at h;rename_i hT;obtain⟨a,b,h1,h2⟩:=Kc (f:=λs0 a b=>aa (sub s a b) λs'=>some (s0.put o.dst (.one (.str s')))) hb h;cases pa:sub s a b with|none=>rw[pa]at h1;cases h1|some s'=>rw[pa]at h1;cases h1;refine dN.put rfl λst2 ha=>?_;have hf3:=D0 st2 ha;rw[hx]at hf3;simp only[cO,ho,BW,sI,aW,bV,hr st2 ha,hx,hf3,aH hT];rw[h2 st2 ha,pa];rfl
 cases h;rename_i fl e xs hx;split at h;rename_i hT;obtain⟨a,b,h1,h2⟩:=Kc (f:=λs0 a b=>aa (sub xs a b) λPM=>some (s0.put o.dst (.one (.sl (OJ an o fl a) e PM)))) hb h;cases pa:sub xs a b with|none=>rw[pa]at h1;cases h1|some s'=>rw[pa]at h1;cases h1;refine dN.put rfl λst2 ha=>?_;have hf3:=D0 st2 ha;rw[hx]at hf3;simp only[cO,ho,BW,sI,aW,bV,hr st2 ha,hx,hf3,ha.ep,aH hT];rw[h2 st2 ha,pa];rfl
 cases h;cases h
theorem Iz {args:aq Operand}(hl:∀t,t∈Qr args->t∈dq o)(ha:gD an X o st st2):args.map st2.rd=args.map st.rd:=by apply List.map_congr_left;intro x hx;exact ha.rd (λt ht=>hl t (by simp only[Qr,List.mem_flatMap];exact⟨x,hx,ht⟩))
theorem abn (ho:o.op=.call {callee:=.builtin .len,args,argTypes:=ts})(h:Ox E o ts.toList args.toList st some=some st'):dN E Γ an X o st st':=by have hr:∀st2,gD an X o st st2->args.toList.map st2.rd=args.toList.map st.rd:=λst2 ha=>Iz (λt ht=>by simp only[dq,ho];exact ht) ha;unfold Ox at h;split at h;rename_i t s qg hx;split at h;rename_i hT;cases h;refine dN.put rfl λst2 ha=>?_;simp only[cO,ho,Ox,hr st2 ha,qg,hx,aH hT];cases h;rename_i t _ _ xs qg hx;split at h;rename_i hT;cases h;refine dN.put rfl λst2 ha=>?_;simp only[cO,ho,Ox,hr st2 ha,qg,hx,aH hT];cases h;cases h
theorem abp (ho:o.op=.call {callee:=.builtin .min,args,argTypes:=ts})(h:Qa o args.toList st some=some st'):dN E Γ an X o st st':=by have hr:∀st2,gD an X o st st2->args.toList.map st2.rd=args.toList.map st.rd:=λst2 ha=>Iz (λt ht=>by simp only[dq,ho];exact ht) ha;unfold Qa at h;split at h;rename_i hx;cases h;refine dN.put rfl λst2 ha=>?_;simp only[cO,ho,Qa,hr st2 ha,hx];cases h
theorem abo (ho:o.op=.call {callee:=.builtin .max,args,argTypes:=ts})(h:P9 o args.toList st some=some st'):dN E Γ an X o st st':=by have hr:∀st2,gD an X o st st2->args.toList.map st2.rd=args.toList.map st.rd:=λst2 ha=>Iz (λt ht=>by simp only[dq,ho];exact ht) ha;unfold P9 at h;split at h;rename_i hx;cases h;refine dN.put rfl λst2 ha=>?_;simp only[cO,ho,P9,hr st2 ha,hx];cases h
theorem abe {l:dy}{c:AC}(h:c.aeB l=true)(hl:∀t∈l,st2.get t=st.get t):st2.P7 c=st.P7 c:=by
 cases c with
 |sl fl e xs=>
  cases fl with
  |loc ep pv=>cases pv with|none=>rfl|some q=>obtain⟨r,t⟩:=q;cases r with|slot b j=>have hb:st2.get b=st.get b:=hl b (by simpa[AC.aeB]using h);simp only[AS.P7,AS.eF,hb]|box _ _=>rfl|io _=>rfl
  |_=>rfl
 |_=>rfl
theorem X4 {l:dy}(hx:Kl l st x=true)(hl:∀t∈l,st2.get t=st.get t)(h:∀t∈tm x,st2.get t=st.get t):CF st2 x=CF st x/\DD st2 x=DD st x:=by
 cases x with
 |tmp t=>have ht:=h t (by simp[tm]);simp only[Kl]at hx;cases hg:st.get t with|uT vs=>exact⟨by simp only[CF,ht,hg],by simp only[DD,ht,hg]⟩|val g cs=>rw[hg]at hx;have hm:cs.map st2.P7=cs.map st.P7:=List.map_congr_left λc hc=>abe (ba.1 hx c hc) hl;exact⟨by simp only[CF,ht,hg,hm],by simp only[DD,ht,hg,hm]⟩
 |const v=>exact⟨rfl,rfl⟩
 |func f=>exact⟨rfl,rfl⟩
 |global g=>exact⟨rfl,rfl⟩
theorem Qb (ho:o.op=.call {callee:=.value f,args,argTypes:=ts})(fR:dj E an X o st=true){k:Nat}(hf:st.rd f=.val false [.fn k])(ji:(Γ k).bx=true)(hcur:(Γ k).cur=true)(h:uX Γ o k args.toList st some=some st'):dN E Γ an X o st st':=by
 unfold uX at h;split at h;rename_i x0 xs eR;split at h;rename_i s WJ;have gu:tz an X (erS an o) st (x0::xs)=true:=by have h1:=fR;simp only[dj,ho,ah]at h1;rw[<-eR];exact h1.1
 have hx1:∃q,x0=.tmp q/\X.contains s=false/\an.sb q=some s/\(match (nth st.boxes s).getD none with|some cs=>cs.all AC.Jo|none=>true)=true/\xs.all (Kl (erS an o) st)=true:=by cases x0 with|tmp q=>simp only[tz,WJ,acC,ah,aQ,bk]at gu;exact⟨q,rfl,gu.1.1.1,gu.1.1.2,gu.1.2,gu.2⟩|const v=>simp only[tz,WJ,AV.ZP]at gu;cases gu|func v=>simp only[tz,WJ,AV.ZP]at gu;cases gu|global v=>simp only[tz,WJ,AV.ZP]at gu;cases gu
 obtain⟨q,rfl,hX,hsb,FU,H7⟩:=hx1;split at h;rename_i cs TM;rw[TM]at FU;simp only at FU;cases hc:(cs.all (AC.zR (Fk cs))&&xs.all (DD st))with
 |false=>rw[hc]at h;cases h
 |true=>
  rw[hc]at h;simp only[af]at h;cases eT:(Γ k).fn (.val true (cs.map AC.Tw)::xs.map (CF st))with
  |none=>rw[eT]at h;cases h
  |some y=>
   rw[eT]at h;simp only[aa]at h;cases Zo:(((Γ k).back y).all (AC.zR true)&&((Γ k).av y).abt)with
   |false=>rw[Zo]at h;cases h
   |true=>
    rw[Zo]at h;simp only[af,hcur,FU,cW,aZ]at h;subst h;refine⟨⟨o.dst.toList.map λd=>(d,((Γ k).av y).Fl st.ep (st.gV o.dst)),some (s,oJ (Fk cs) (λ_=>none) 0 ((Γ k).back y)),o.dst⟩,⟨λx hx=>?_,λb hb=>?_,λd hd=>hd⟩,?_,λst2 ha=>?_⟩;simp only[List.mem_map]at hx;obtain⟨d,hd,rfl⟩:=hx;simp[writes,hd];cases hb;simp[GZ,ho,eR,hsb];unfold KQ.apply AS.put AS.eX AS.eh;cases o.dst<;>rfl;have e1:st2.rd f=st.rd f:=ha.rd (λt ht=>by simp[dq,ho,ht]);have hl:∀x∈Operand.tmp q::xs,∀t∈tm x,t∈dq o:=by intro x hx t ht;simp only[dq,ho,ay,Qr,List.mem_flatMap,eR];exact .inr ⟨x,hx,ht⟩
    have e2:st2.rd (.tmp q)=st.rd (.tmp q):=ha.rd (hl _ (by simp));have e3:nth st2.boxes s=nth st.boxes s:=ha.box s hX;have e4:∀x∈xs,CF st2 x=CF st x/\DD st2 x=DD st x:=λx hx=>X4 (ba.1 H7 x hx) ha.er λt ht=>ha.get t (hl x (by simp[hx]) t ht);have e5:xs.map (CF st2)=xs.map (CF st):=List.map_congr_left λx hx=>(e4 x hx).1;have e6:xs.all (DD st2)=xs.all (DD st):=by rw[ez];simp only[ba];exact⟨λg x hx=>by rw[<-(e4 x hx).2];exact g x hx,λg x hx=>by rw[(e4 x hx).2];exact g x hx⟩
    simp only[cO,ho,Fm,e1,hf,ji,af,uX,eR,e2,WJ,e3,TM,e5,e6,hc,eT,aa,Zo,hcur,FU,cW,ha.ep,ha.gV];unfold KQ.apply AS.put AS.eX AS.eh;cases o.dst<;>rfl
 cases h;cases h;cases h
theorem Yc (zr:∀f,(Γ f).io=false/\((Γ f).bx=true->(Γ f).cur=true)/\(Γ f).pr=false)(ho:o.op=.call {callee:=.value f,args,argTypes:=ts})(fR:dj E an X o st=true)(h:Fm Γ o f args.toList st some=some st'):dN E Γ an X o st st':=by
 have hr:∀st2,gD an X o st st2->st2.rd f=st.rd f/\(args.toList.map λx=>((st2.rd x).fresh st2).asArg st2.ep)=args.toList.map λx=>((st.rd x).fresh st).asArg st.ep:=by
  intro st2 ha;refine⟨ha.rd (λt ht=>by simp[dq,ho,ht]),?_⟩;apply List.map_congr_left;intro x hx;have Gm:(st.rd x).now st.ep=true:=by simp only[dj,ho,ah,ba]at fR;exact fR.2 x hx
  rw[ha.rd (λt ht=>by simp only[dq,ho,ay,Qr,List.mem_flatMap];exact .inr ⟨x,hx,ht⟩),AX Gm,AX (s:=st2) (by rw[ha.ep];exact Gm),ha.ep]
 unfold Fm at h;split at h
 ·rename_i k hf
  cases ji:(Γ k).bx with
  |true=>rw[ji]at h;exact Qb ho fR hf ji ((zr k).2.1 ji) h
  |false=>
  rw[ji,(zr k).2.2,(zr k).1]at h
  simp only[ae]at h
  cases hg:(Γ k).fn (args.toList.map λx=>((st.rd x).fresh st).asArg st.ep)with
  |none=>rw[hg]at h;cases h
  |some y=>
   rw[hg]at h
   simp only[aa]at h
   cases P1:(Γ k).sel y with
   |true=>
    rw[P1]at h
    cases h
    refine dN.new rfl λst2 ha=>?_
    simp only[cO,ho,Fm,(hr st2 ha).1,hf,(zr k).1,ji,(zr k).2.2,ae]
    rw[(hr st2 ha).2,hg]
    simp only[aa,P1,af,ha.ep,ha.gV]
   |false=>
    rw[P1]at h
    cases h
    refine dN.new rfl λst2 ha=>?_
    simp only[cO,ho,Fm,(hr st2 ha).1,hf,(zr k).1,ji,(zr k).2.2,ae]
    rw[(hr st2 ha).2,hg]
    simp only[aa,P1,ae,ha.ep,ha.gV]
 cases h
theorem Qc {src dst:TypeId}(ho:o.op=.convert src dst x)(h:la E o src dst x st some=some st'):dN E Γ an X o st st':=by
 have hr:∀st2,gD an X o st st2->st2.rd x=st.rd x:=λst2 ha=>ha.rd (λt ht=>by simpa[dq,ho]using ht);unfold la at h;split at h;rename_i h1 h2 h3;cases h;refine dN.put rfl λst2 ha=>?_;simp only[cO,ho,la,hr st2 ha,h1,h2,h3];rename_i h1 h2 h3;cases h;refine dN.put rfl λst2 ha=>?_;simp only[cO,ho,la,hr st2 ha,h1,h2,h3];rename_i jC val s Hj h1 h2 h3;split at h;rename_i hb;unfold room at h;split at h;rename_i hrm;cases h;refine dN.new (v:=.one (.sl (.own (st.gV o.dst 0)) (.int .u8) (dg s))) rfl λst2 ha=>?_;have HS:∀k:AS->ar AS,la E o src dst x st2 k=if E.bytes dst then room s.length (k (st2.pb o.dst (.int .u8) (dg s))) else none:=by intro k;unfold la;rw[hr st2 ha,h1,h2,h3];obtain⟨ag,ct,of⟩:=val;cases ag with|true=>rfl|false=>cases ct with|str=>exact(Hj _ rfl).elim|_=>rfl
 simp only[cO,ho];rw[HS,aH hb,room,aH hrm,AS.pb,ha.gV];cases h;cases h;rename_i val jC fl xs h1 h2 h3;split at h;rename_i hb;cases h;refine dN.put rfl λst2 ha=>?_;have HS:∀k:AS->ar AS,la E o src dst x st2 k=if E.bytes src/\fl.live st2.ep then k (st2.put o.dst (.one (.str (aK xs)))) else none:=by intro k;unfold la;rw[hr st2 ha,h1,h2,h3];obtain⟨ag,ct,of⟩:=val;cases ag with|true=>rfl|false=>cases ct<;>rfl
 simp only[cO,ho];rw[HS,ha.ep,aH hb];cases h;cases h
theorem LN {d:Nat}{v:AV}:(⟨[(d,v)],some (d,cs),none⟩:KQ).apply st=(st.eh d (some cs)).put (some d) v:=rfl
theorem Vp (ho:o.op=.alloc T)(h:D5 E o T st some=some st'):dN E Γ an X o st st':=by unfold D5 at h;split at h;rename_i d sh hd hT;split at h;rename_i hb;cases h;refine⟨⟨[(d,.one (.ptr d 0))],some (d,cellsOf sh.ct (.own none) sh.ct.zero),none⟩,⟨λx hx=>?_,λb gA=>?_,λ_ hh=>by cases hh⟩,?_,λst2 ha=>?_⟩;simp only[eE]at hx;subst hx;simp[writes,hd];cases gA;simp[GZ,ho,hd];rw[LN,hd];simp only[cO,ho,D5,hd,hT,(ha.dst d hd).2,hb,LN];cases h;cases h
def nL (st:AS):Operand->aq (Nat×AV)
 | .tmp t=>[(t,(st.get t).aR st.ep)]
 |_=>[]
theorem C0 (l:aq AV)(a b:aq (Nat×AV)):jE l (a++b)=jE (jE l a) b:=by induction a generalizing l with|nil=>rfl|cons x a ih=>exact ih _
def AS.jP (st:AS)(l:aq (Nat×AV)):AS:={st with slots:=jE st.slots l}
theorem qH (a b:aq (Nat×AV)):st.jP (a++b)=(st.jP a).jP b:=by simp only[AS.jP,C0]
theorem DY (x:Operand):(st.take x).2=st.jP (nL st x):=by cases x<;>rfl
theorem Fe (xg:st2.ep=st.ep)(h:∀t∈tm x,st2.get t=st.get t):(st2.take x).1=(st.take x).1/\(st2.take x).2=st2.jP (nL st x):=by cases x with|tmp t=>have:=h t (by simp[tm]);refine⟨this,?_⟩;rw[DY];simp only[nL,this,xg]|const v=>exact⟨rfl,rfl⟩|func f=>exact⟨rfl,rfl⟩|global g=>exact⟨rfl,rfl⟩
theorem KL:∀y∈nL st x,y.1∈tm x:=by cases x<;>simp[nL,tm]
theorem Ye (ho:o.op=.move x)(h:DH an o x st some=some st'):dN E Γ an X o st st':=by
 unfold DH at h;cases hd:o.dst with
 |none=>rw[hd]at h;cases h
 |some d=>
  rw[hd]at h;cases hf:an.mv.contains d with
  |false=>simp only[hf,aW,bV]at h;cases h;refine dN.put (v:=st.rd x) (by rw[hd]) λst2 ha=>?_;have hr:st2.rd x=st.rd x:=ha.rd (λt ht=>by simpa[dq,ho]using ht);simp only[cO,ho,DH,hd,hf,aW,bV,hr]
  |true=>
   simp only[hf,bF]at h;cases h;have hr:∀st2,gD an X o st st2->(st2.take x).1=(st.take x).1/\(st2.take x).2=st2.jP (nL st x):=λst2 ha=>Fe ha.ep λt ht=>ha.get t (by simpa[dq,ho]using ht);refine⟨⟨nL st x++[(d,(st.take x).1)],none,none⟩,⟨λy hy=>?_,λ_ hh=>(by cases hh),λ_ hh=>(by cases hh)⟩,?_,λst2 ha=>?_⟩;rcases ay.1 hy with hy|hy;have:=KL y hy;have hf':d∈an.mv:=by simpa using hf
   simp[writes,GW,ho,hd,hf',dq,this];simp only[eE]at hy;subst hy;simp[writes,hd];rw[DY];show _=st.jP _;rw[qH];rfl;simp only[cO,ho,DH,hd,hf,bF,(hr st2 ha).1,(hr st2 ha).2];show some ((st2.jP (nL st x)).put (some d) (st.take x).1)=some (st2.jP _);rw[qH];rfl
theorem Ur {ep:Nat}(h:cs.all AC.fT=true):aR ep cs=cs:=by
 rw[ba]at h;unfold aR;have:cs.map (AC.borrow ep none)=cs.map id:=List.map_congr_left λc hc=>by have:=h c hc;cases c<;>first|rfl|(simp[AC.fT]at this)
 rw[this,List.map_id]
theorem afZ {s:AS}{vs:aq (Bool×aq AC)}(h:s.get t=.uT vs):s.put (some t) (.uT vs)=s:=by cases s with|mk slots boxes ep iss io=>simp only[AS.put,AS.mk.injEq,gQ];rw[eN];apply cA;intro i;rw[bj];split;rename_i hd;subst hd;simp only[AS.get,dv]at h;split;rename_i gM;rw[ax gM]at h⊢;simp only[fb]at h;rw[h];rename_i Ad;rw[br (Nat.le_of_not_lt Ad)];rfl
theorem Qd {i:Nat}(ho:o.op=.extract (.tmp t) i)(fR:dj E an X o st=true)(h:lf o t i st some=some st'):dN E Γ an X o st st':=by
 have hr:∀st2,gD an X o st st2->st2.get t=st.get t:=λst2 ha=>ha.get t (by simp[dq,ho]);unfold lf at h;simp only[dj,ho]at fR;split at h
 ·rename_i vs hv;rw[hv]at fR;split at h
  ·rename_i g cs hn;simp only[hn]at fR;have hfl:cs.all AC.fT=true\/∃d,o.dst=some d/\an.mv.contains d=true:=by cases hd:o.dst with|none=>simp only[hd,Bool.or_false]at fR;exact .inl fR|some d=>simp only[hd,da]at fR;rcases fR with h|h;exact .inl h;exact .inr ⟨d,rfl,h⟩
   rcases hfl with fR|⟨d,hd,Ft⟩;rotate_left;cases h;refine⟨⟨[(t,.uT (gL vs i (g,aR 0 cs))),(d,.val g cs)],none,none⟩,⟨λx hx=>?_,(λ_ hb=>by cases hb),(λ_ hh=>by cases hh)⟩,?_,λst2 ha=>?_⟩;simp only[bU,List.not_mem_nil,or_false]at hx;rcases hx with rfl|rfl;simp only[writes,GW,ho,hd,Ft,af,dq];simp;simp only[writes,hd];simp;rw[hd];rfl;have h2:st2.get t=.uT vs:=by rw[hr st2 ha,hv]
   simp only[cO,ho,lf,h2,hn,hd];rfl;skip;have Dt:gL vs i (g,cs)=vs:=by rw[eN];rw[dv]at hn;apply cA;intro k;rw[bj];split;rename_i hk;subst hk;obtain⟨hl,he⟩:=aD.1 hn;rw[aH hl,hn];rfl
   have key:∀s:AS,s.get t=.uT vs->(s.put (some t) (.uT (gL vs i (g,aR 0 cs))))=s:=λs hs=>by rw[Ur fR,Dt,afZ hs]
   rw[key st hv]at h;cases h;refine dN.put rfl λst2 ha=>?_;have h2:st2.get t=.uT vs:=by rw[hr st2 ha,hv]
   simp only[cO,ho,lf,h2,hn];rw[key st2 h2]
  cases h
 cases h
def AP (st:AS):Operand->aq (Nat×AV)
 | .tmp t=>[(t,(st.get t).aR st.ep)]
 |_=>[]
theorem Pq (st:AS)(x:Operand):(st.take x).2=⟨jE st.slots (AP st x),st.boxes,st.ep,st.iss,st.io⟩:=by cases x<;>rfl
theorem Vu {pp:Nat}(ho:o.op=.store T (.tmp pp) x)(hd:o.dst=none)(hm:nr an o=true)(fR:dj E an X o st=true)(h:xy E T (.tmp pp) x st some=some st'):dN E Γ an X o st st':=by
 have hr:∀st2,gD an X o st st2->st2.rd (.tmp pp)=st.rd (.tmp pp):=λst2 ha=>ha.rd (λt ht=>by simp only[dq,ho,ay];exact .inl ht);have hsb:(an.sb pp).isNone=false:=by simp only[nr,ho,ah]at hm;cases hb:an.sb pp with|none=>rw[hb]at hm;cases hm.1|some _=>rfl
 simp only[dj,ho,hsb,fM,cR]at fR;unfold xy at h;split at h;rename_i sh s off hT hp;rw[hp]at fR;simp only[ah,aQ,bk]at fR;split at h;rename_i gg vs st1 sI;have SI:(st.take x).1=.val gg vs:=by rw[sI]
 have Gq:st1=⟨jE st.slots (AP st x),st.boxes,st.ep,st.iss,st.io⟩:=by rw[<-Pq,sI]
 split at h;rename_i cs hb;split at h;rename_i hlen;split at h;rename_i gv;cases h;have ji:∀st2,gD an X o st st2->nth st2.boxes s=nth st.boxes s:=λst2 ha=>ha.box s fR.1;refine⟨⟨AP st x,some (s,cY cs off vs),none⟩,⟨λy hy=>?_,λb gA=>?_,λ_ hh=>by cases hh⟩,?_,λst2 ha=>?_⟩;cases x with|tmp t=>simp only[AP,eE]at hy;subst hy;simp only[writes,GW,ho,af,dq,hd];simp[tm]|_=>simp[AP]at hy
 cases gA;simp only[GZ,ho,fR.2];simp;rw[Gq];rfl;have hx2:(st2.take x).1=(st.take x).1/\AP st2 x=AP st x:=by cases x with|tmp t=>have hg:st2.get t=st.get t:=ha.get t (by simp[dq,ho,tm]);simp only[AS.take,AP,hg,ha.ep];simp|const v=>exact⟨rfl,rfl⟩|func f=>exact⟨rfl,rfl⟩|global g=>exact⟨rfl,rfl⟩
 have ht2:st2.take x=(.val gg vs,⟨jE st2.slots (AP st x),st2.boxes,st2.ep,st2.iss,st2.io⟩):=by rw[<-hx2.2,<-Pq,<-SI,<-hx2.1]
 have Gg:(nth st2.boxes s).getD none=some cs:=by rw[ji st2 ha];rw[Gq]at hb;exact hb
 have Fs:Bx an o=false:=by simp only[nr,ho,ah,aQ]at hm;exact hm.2
 simp only[cO,ho,hd,Fs,aW,bV,xy,hT,hr st2 ha,hp,ht2,Gg,aH hlen,aH gv];rfl;cases h;cases h;cases h;cases h;rename_i r _ _ _ _ _ _ hp;rw[hp]at fR;cases r<;>simp at fR;cases h
theorem SZ (ho:o.op=.assign x)(hm:nr an o=true)(h:uW E an o x st some=some st'):dN E Γ an X o st st':=by
 have hr:∀st2,gD an X o st st2->(st2.take x).1=(st.take x).1/\(st2.take x).2=st2.jP (nL st x):=λst2 ha=>Fe ha.ep λt ht=>ha.get t (by simpa[dq,ho]using ht);have Fs:Bx an o=false:=by simpa[nr,ho]using hm
 unfold uW at h;split at h;rename_i st1 sI;split at h;rename_i e hT;cases h;refine dN.put rfl λst2 ha=>?_;have h2:st2.take x=(.val false [.jd],st2.jP (nL st x)):=Prod.ext (by rw[(hr st2 ha).1,sI]) (hr st2 ha).2;simp only[cO,ho,uW,Fs,aW,bV,h2,hT];cases h;rename_i v st1 Hj sI;cases h;have Gq:st1=st.jP (nL st x):=by rw[<-DY,sI]
 refine⟨⟨nL st x++o.dst.toList.map λd=>(d,v),none,none⟩,⟨λy hy=>?_,λ_ hh=>(by cases hh),λ_ hh=>(by cases hh)⟩,?_,λst2 ha=>?_⟩;rcases ay.1 hy with hy|hy;have:=KL y hy;simp[writes,GW,ho,dq,this];obtain⟨d,hd,rfl⟩:=List.mem_map.1 hy;simp[writes,hd];rw[Gq];show _=st.jP _;rw[qH];cases o.dst<;>rfl;have h2:st2.take x=(v,st2.jP (nL st x)):=Prod.ext (by rw[(hr st2 ha).1,sI]) (hr st2 ha).2;simp only[cO,ho,uW,Fs,aW,bV,h2];show some ((st2.jP (nL st x)).put o.dst v)=some (st2.jP _);rw[qH];cases o.dst<;>rfl
theorem je {α:Type}(l:aq α)(i:Nat)(v:α)(t:Nat):nth (gL l i v) t=if i=t then(if i<l.length then some v else none) else nth l t:=by rw[dv,eN,dv,bj]
theorem OS (l:aq AV)(a:aq (Nat×AV)):(jE l a).length=l.length:=by induction a generalizing l with|nil=>rfl|cons x a ih=>rw[jE,ih,eN,bg]
theorem Yn {l l2:aq AV}(a:aq (Nat×AV))(hl:l2.length=l.length)(t:Nat)(h:nth l2 t=nth l t):nth (jE l2 a) t=nth (jE l a) t:=by induction a generalizing l l2 with|nil=>exact h|cons x a ih=>refine ih (by rw[eN,eN,bg,bg,hl]) ?_;rw[je,je,hl,h]
theorem Yj (h:st2.get t=st.get t)(hl:st2.slots.length=st.slots.length):nth st2.slots t=nth st.slots t:=by unfold AS.get at h;rw[dv,dv]at h⊢;rcases bH t st.slots.length with gM|Ad;rw[ax gM,ax (by omega)]at h⊢;simpa using h;rw[br Ad,br (by omega)]
def ju (st:AS):aq Operand->aq (Nat×AV)
 |[]=>[]
 |x::xs=>nL st x++ju (st.jP (nL st x)) xs
theorem B3:∀(xs:aq Operand)(st:AS),∀y∈ju st xs,y.1∈Qr xs
 |[],_,y,hy=>by cases hy
 |x::xs,st,y,hy=>by simp only[Qr,List.flatMap_cons,ay];rcases ay.1 hy with hy|hy;exact .inl (KL y hy);exact .inr (B3 xs _ y hy)
theorem C4:∀(xs:aq Operand)(st st2:AS),st2.ep=st.ep->st2.slots.length=st.slots.length->(∀t∈Qr xs,nth st2.slots t=nth st.slots t)->
 (eG st2 xs).1=(eG st xs).1/\(eG st2 xs).2=st2.jP (ju st xs)
 |[],st,st2,_,_,_=>⟨rfl,rfl⟩
 |x::xs,st,st2,xg,hl,hg=>by
  have hx:∀t∈tm x,st2.get t=st.get t:=λt ht=>by unfold AS.get;rw[hg t (by simp[Qr,ht])]
  obtain⟨h1,h2⟩:=Fe (st:=st) (st2:=st2) xg hx;have h3:=DY (st:=st) x;obtain⟨k1,k2⟩:=C4 xs (st.jP (nL st x)) (st2.jP (nL st x)) xg (by simp only[AS.jP,OS,hl]) (λt ht=>Yn _ hl t (hg t (by simp only[Qr,List.flatMap_cons,ay];exact .inr ht)));have e1:eG st (x::xs)=((st.take x).1::(eG (st.take x).2 xs).1,(eG (st.take x).2 xs).2):=rfl;have e2:eG st2 (x::xs)=((st2.take x).1::(eG (st2.take x).2 xs).1,(eG (st2.take x).2 xs).2):=rfl;rw[e1,e2,h1,h2,h3];refine⟨by rw[k1],?_⟩;show(eG (st2.jP (nL st x)) xs).2=_;rw[k2,ju,qH]
theorem Fc (xs:aq Operand):(eG st xs).2=st.jP (ju st xs):=(C4 xs st st rfl rfl (λ_ _=>rfl)).2
theorem gD.eG (ha:gD an X o st st2){xs:aq Operand}(hx:∀t∈Qr xs,t∈dq o):(eG st2 xs).1=(Dn.eG st xs).1/\(Dn.eG st2 xs).2=st2.jP (ju st xs):=C4 xs st st2 ha.ep ha.len λt ht=>Yj (ha.get t (hx t ht)) ha.len
theorem Vq (ho:o.op=.build T parts)(h:CP E o T parts.toList st some=some st'):dN E Γ an X o st st':=by
 have hl:∀t∈Qr (parts.toList.map (·.2)),t∈dq o:=λt ht=>by simp only[dq,ho];exact ht
 unfold CP at h;split at h;rename_i ct jC hT;split at h;rename_i vs st1 sI;have Gq:st1=st.jP (ju st (parts.toList.map (·.2))):=by rw[<-Fc,sI]
 split at h;rename_i cs hb;cases h;refine⟨⟨ju st (parts.toList.map (·.2))++o.dst.toList.map λd=>(d,.val true cs),none,none⟩,⟨λy hy=>?_,λ_ hh=>(by cases hh),λ_ hh=>(by cases hh)⟩,?_,λst2 ha=>?_⟩;rcases ay.1 hy with hy|hy;have:=hl _ (B3 _ _ y hy);simp[writes,GW,ho,this];obtain⟨d,hd,rfl⟩:=List.mem_map.1 hy;simp[writes,hd];rw[Gq];show _=st.jP _;rw[qH];cases o.dst<;>rfl;obtain⟨k1,k2⟩:=ha.eG hl;have h2:eG st2 (parts.toList.map (·.2))=(vs,st2.jP (ju st (parts.toList.map (·.2)))):=Prod.ext (by rw[k1,sI]) k2;simp only[cO,ho,CP,hT,h2,hb];show some ((st2.jP _).put o.dst _)=some (st2.jP _);rw[qH];cases o.dst<;>rfl;cases h;cases h
theorem dN.ahS {v:AV}(ht:GW an o=true)(hl:∀y∈tl,y.1∈dq o)(h:st'=((st.jP tl).eX o.dst).put o.dst v)(h2:∀st2,gD an X o st st2->cO E Γ an o st2 some=some (((st2.jP tl).eX o.dst).put o.dst v)):dN E Γ an X o st st':=by
 have key:∀s:AS,(⟨tl++o.dst.toList.map λd=>(d,v),none,o.dst⟩:KQ).apply s=((s.jP tl).eX o.dst).put o.dst v:=by intro s;cases o.dst with|none=>simp only[KQ.apply,Option.toList,List.map_nil,bt,AS.jP,AS.eX,AS.put]|some d=>simp only[KQ.apply,Option.toList,dC,List.map_nil,C0,AS.jP,AS.eX,AS.put,jE]
 refine⟨⟨tl++o.dst.toList.map λd=>(d,v),none,o.dst⟩,⟨λy hy=>?_,λ_ hh=>(by cases hh),λd hh=>hh⟩,by rw[key];exact h,λst2 ha=>by rw[key];exact h2 st2 ha⟩;rcases ay.1 hy with hy|hy;simp[writes,ht,hl y hy];obtain⟨d,hd,rfl⟩:=List.mem_map.1 hy;simp[writes,hd]
theorem Ba {d:ar Nat}:(st.jP tl).gV d=st.gV d:=rfl
theorem Ln {len:Nat}(ho:o.op=.buildSlice T len parts)(h:kX E o T len parts.toList st some=some st'):dN E Γ an X o st st':=by
 have hl:∀t∈Qr (parts.toList.map (·.2)),t∈dq o:=λt ht=>by simp only[dq,ho];exact ht
 unfold kX at h;split at h;rename_i e hT;split at h;rename_i hc;split at h;rename_i vs st1 sI;have Gq:st1=st.jP (ju st (parts.toList.map (·.2))):=by rw[<-Fc,sI]
 split at h;rename_i xs hb;cases h;refine dN.ahS (tl:=ju st (parts.toList.map (·.2))) (v:=.one (.sl (.own (st.gV o.dst 0)) e xs)) (by simp[GW,ho]) (λy hy=>hl _ (B3 _ _ y hy)) ?_ λst2 ha=>?_;rw[Gq,AS.pb,Ba];obtain⟨k1,k2⟩:=ha.eG hl;have h2:eG st2 (parts.toList.map (·.2))=(vs,st2.jP (ju st (parts.toList.map (·.2)))):=Prod.ext (by rw[k1,sI]) k2;simp only[cO,ho,kX,hT,h2,hb,aH hc];rw[AS.pb,Ba,ha.gV];cases h;cases h;cases h
theorem MH {n c:Operand}(ho:o.op=.makeSlice T n c)(h:nS E o T n c st some=some st'):dN E Γ an X o st st':=by
 have hr:∀st2,gD an X o st st2->st2.rd n=st.rd n/\st2.rd c=st.rd c:=λst2 ha=>
  ⟨ha.rd (λt ht=>by simp[dq,ho,ht]),ha.rd (λt ht=>by simp[dq,ho,ht])⟩
 unfold nS at h;split at h;rename_i e len cap hT hn hc;split at h;rename_i hlc;unfold room at h;split at h;rename_i hrm;cases h;refine dN.new (v:=.one (.sl (.own (st.gV o.dst 0)) e (List.replicate len.toNat e.zero))) rfl λst2 ha=>?_;simp only[cO,ho,nS,(hr st2 ha).1,(hr st2 ha).2,hT,hn,hc,aH hlc,room,aH hrm,AS.pb,ha.gV];cases h;cases h;cases h
theorem SY (ho:o.op=.call {callee:=.builtin .append,args,argTypes:=ts})(h:xC E o ts.toList args.toList st some=some st'):dN E Γ an X o st st':=by
 have WG:∀t∈Qr args.toList,t∈dq o:=λt ht=>by simp only[dq,ho];exact ht
 unfold xC at h;split at h;rename_i t t' s x qg eR;have hl:∀u∈Qr [s,x],u∈dq o:=by rw[<-eR];exact WG
 have agB:∀st2,gD an X o st st2->(st2.take s).1=(st.take s).1/\((st2.take s).2.take x).1=((st.take s).2.take x).1/\((st2.take s).2.take x).2=st2.jP (ju st [s,x]):=by intro st2 ha;obtain⟨k1,k2⟩:=ha.eG hl;simp only[Dn.eG,List.cons.injEq,gQ]at k1 k2;exact⟨k1.1,k1.2,k2⟩
 have H7:((st.take s).2.take x).2=st.jP (ju st [s,x]):=Fc (st:=st) [s,x];split at h;rename_i tag e xs st1 SI;split at h;rename_i fl e' ys ahP JP;split at h;rename_i he;subst he;split at h;rename_i hc;unfold room at h;split at h;rename_i hrm;cases h;have Gq:(st.take s).2=st1:=by rw[SI]
 have SH:ahP=st.jP (ju st [s,x]):=by rw[<-H7,Gq,JP]
 refine dN.ahS (tl:=ju st [s,x]) (v:=.one (.sl (.own (st.gV o.dst 0)) e' (xs++ys))) (by simp[GW,ho]) (λy hy=>hl _ (B3 _ _ y hy)) ?_ λst2 ha=>?_;rw[SH,AS.pb,Ba];obtain⟨k1,k2,k3⟩:=agB st2 ha;have e1:st2.take s=(.val false [.sl (.own tag) e' xs],(st2.take s).2):=Prod.ext (by rw[k1,SI]) rfl;have e2:(st2.take s).2.take x=(.val false [.sl fl e' ys],st2.jP (ju st [s,x])):=Prod.ext (by rw[k2,Gq,JP]) k3;simp only[cO,ho,xC,qg,eR];rw[e1];simp only;rw[e2];simp only[dite_true,ha.ep,aH hc,room,aH hrm,AS.pb,Ba,ha.gV];cases h;cases h;cases h;rename_i sx ahP JP;split at h;rename_i he;subst he;split at h;rename_i hc;unfold room at h;split at h;rename_i hrm;cases h;have Gq:(st.take s).2=st1:=by rw[SI]
 have SH:ahP=st.jP (ju st [s,x]):=by rw[<-H7,Gq,JP]
 refine dN.ahS (tl:=ju st [s,x]) (v:=.one (.sl (.own (st.gV o.dst 0)) (.int .u8) (xs++dg sx))) (by simp[GW,ho]) (λy hy=>hl _ (B3 _ _ y hy)) ?_ λst2 ha=>?_;rw[SH,AS.pb,Ba];obtain⟨k1,k2,k3⟩:=agB st2 ha;have e1:st2.take s=(.val false [.sl (.own tag) (.int .u8) xs],(st2.take s).2):=Prod.ext (by rw[k1,SI]) rfl;have e2:(st2.take s).2.take x=(.val false [.str sx],st2.jP (ju st [s,x])):=Prod.ext (by rw[k2,Gq,JP]) k3;simp only[cO,ho,xC,qg,eR];rw[e1];simp only;rw[e2];simp only[dite_true,aH hc,room,aH hrm,AS.pb,Ba,ha.gV];cases h;cases h;cases h;cases h;cases h;cases h
theorem abm (ho:o.op=.box T x)(h:Sa o x st some=some st'):dN E Γ an X o st st':=by
 have hr:∀st2,gD an X o st st2->(st2.take x).1=(st.take x).1/\(st2.take x).2=st2.jP (nL st x):=λst2 ha=>Fe ha.ep λt ht=>ha.get t (by simpa[dq,ho]using ht);unfold Sa at h;split at h;rename_i d g cs st1 hd sI;have Gq:st1=st.jP (nL st x):=by rw[<-DY,sI]
 split at h;rename_i hb;split at h;rename_i hs;cases h;have TM:nth st.boxes d=some none:=by rw[Gq]at hb;exact hb
 have key:∀s:AS,(⟨nL st x++[(d,.one (.ptr d 0))],some (d,cs),none⟩:KQ).apply s=((s.jP (nL st x)).eh d (some cs)).put (some d) (.one (.ptr d 0)):=by intro s;simp only[KQ.apply,C0,AS.jP,AS.eh,AS.put,jE]
 refine⟨⟨nL st x++[(d,.one (.ptr d 0))],some (d,cs),none⟩,⟨λy hy=>?_,λb gA=>?_,λ_ hh=>(by cases hh)⟩,?_,λst2 ha=>?_⟩;rcases ay.1 hy with hy|hy;have:=KL y hy;simp[writes,GW,ho,dq,this];simp only[eE]at hy;subst hy;simp[writes,hd];cases gA;simp[GZ,ho,hd];rw[key,Gq,hd];have h2:st2.take x=(.val g cs,st2.jP (nL st x)):=Prod.ext (by rw[(hr st2 ha).1,sI]) (hr st2 ha).2;have Gg:nth (st2.jP (nL st x)).boxes d=some none:=by show nth st2.boxes d=_;rw[(ha.dst d hd).2];exact TM
 simp only[cO,ho,Sa,hd,h2,Gg,aH hs,key];cases h;cases h;cases h
theorem Pg (zr:∀f,(Γ f).io=false/\((Γ f).bx=true->(Γ f).cur=true)/\(Γ f).pr=false)(hm:nr an o=true)(fR:dj E an X o st=true)(h:cO E Γ an o st some=some st'):dN E Γ an X o st st':=by
 have h0:=h;unfold cO at h;split at h;rename_i ho;exact Ye ho h;rename_i ho;have Fs:Bx an o=false:=by simpa[nr,ho]using hm
 rw[aG (by simp[Fs])]at h;exact SZ ho hm h;rename_i ho;exact Yf ho h;rename_i ho;exact Vp ho h;rename_i ho;exact abm ho h;rename_i ho;exact Yd ho hm fR h;rename_i T p x ho;split at h;rename_i hd;cases p with
 |tmp pp=>
  have Fs:Bx an o=false:=by simp only[nr,ho,ah,aQ]at hm;exact hm.2
  rw[aG (by simp[Fs])]at h;exact Vu ho hd hm fR h
 |const v=>simp[nr,ho]at hm
 |func f=>simp[nr,ho]at hm
 |global g=>simp[nr,ho]at hm
 cases h;rename_i ho;exact OC ho h0;rename_i ho;exact abl ho h;rename_i ho;exact aef ho h;rename_i ho;exact Vr ho h;rename_i ho;exact MG ho fR h;rename_i ho;exact Vs ho h;rename_i ho;exact Vq ho h;rename_i ho;exact Ln ho h;rename_i ho;exact MH ho h;rename_i ho;exact Vt ho hm fR h;rename_i ho;simp[nr,ho]at hm;rename_i ho;simp[nr,ho]at hm;rename_i ho;exact Qc ho h;rename_i ho;exact Qd ho fR h;rename_i ho;exact abn ho h;rename_i ho;exact abp ho h;rename_i ho;exact abo ho h;rename_i ho;exact SY ho h;rename_i ho;exact Yc zr ho fR h;cases h
end Go.Dn
