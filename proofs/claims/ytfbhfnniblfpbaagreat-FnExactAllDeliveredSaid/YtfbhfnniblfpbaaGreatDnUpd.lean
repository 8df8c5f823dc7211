import Derived.Test.YtfbhfnniblfpbaaGreatDnMask
/- What an operation looks at and what it turns: for regions whose order is drawn. -/
namespace Go.Dn
structure KD where
 slots:List (Nat×AV):=[]
 box:Option (Nat×List AC):=none
 iss:Option Nat:=none
def jK (l:au AV):au (Nat×AV)->au AV
 |[]=>l
 |x::r=>jK (gG l x.1 x.2) r
def KD.apply (u:KD)(st:AS):AS:=
 ⟨jK st.slots u.slots,(match u.box with|some b=>gG st.boxes b.1 (some b.2)|none=>st.boxes),st.ep,(match u.iss with|some d=>gG st.iss d true|none=>st.iss),st.io⟩
structure gz (an:An) (X:List Nat) (o:Oper) (st st2:AS):Prop where
 len:st2.slots.length=st.slots.length
 get:∀t∈dj o,st2.get t=st.get t
 ep:st2.ep=st.ep
 dst:∀d,o.dst=some d->nth st2.iss d=nth st.iss d/\nth st2.boxes d=nth st.boxes d
 box:∀s,X.contains s=false->nth st2.boxes s=nth st.boxes s
 er:∀t∈erS an o,st2.get t=st.get t
structure KD.Ij (an:An) (u:KD) (o:Oper):Prop where
 slots:∀x∈u.slots,x.1∈writes an o
 box:∀b,u.box=some b->b.1∈GV an o
 iss:∀d,u.iss=some d->o.dst=some d
variable {E:Env} {Γ:xg} {an:An} {X:dI} {o:Oper} {st st2 st':AS}
variable {parts:Array (Nat×Operand)} {args:Array Operand} {ts:Array TypeId} {t:Nat} {f p x:Operand} {T:TypeId} {tl:au (Nat×AV)} {cs:au AC}
theorem aem (xl:st2.ep=st.ep)(h:∀t∈tm x,st2.get t=st.get t):st2.rd x=st.rd x:=by cases x with|tmp t=>simp only[AS.rd,xl,h t (by simp[tm])]|const v=>rfl|func f=>rfl|global g=>rfl
def dH (E:Env)(Γ:xg)(an:An)(X:dI)(o:Oper)(st st':AS):Prop:=
 ∃u:KD,u.Ij an o/\st'=u.apply st/\∀st2,gz an X o st st2->cU E Γ an o st2 some=some (u.apply st2)
def E7 (o:Oper)(v:AV):KD:={slots:=o.dst.toList.map λd=>(d,v)}
theorem sL (v:AV):(E7 o v).apply st=st.put o.dst v:=by unfold E7 KD.apply AS.put;cases o.dst<;>rfl
theorem Dd (v:AV):(E7 o v).Ij an o:=by refine⟨λx hx=>?_,λb hb=>by simp[E7]at hb,λd hd=>by simp[E7]at hd⟩;simp only[E7,List.mem_map]at hx;obtain⟨d,hd,rfl⟩:=hx;simp[writes,hd]
def IZ (o:Oper)(v:AV):KD:={slots:=o.dst.toList.map λd=>(d,v),iss:=o.dst}
theorem Ky (v:AV):(IZ o v).apply st=(st.eX o.dst).put o.dst v:=by unfold IZ KD.apply AS.put AS.eX;cases o.dst<;>rfl
theorem Qx (v:AV):(IZ o v).Ij an o:=by refine⟨λx hx=>?_,λb hb=>by simp[IZ]at hb,λd hd=>by simpa[IZ]using hd⟩;simp only[IZ,List.mem_map]at hx;obtain⟨d,hd,rfl⟩:=hx;simp[writes,hd]
theorem dH.put {v:AV}(h:st'=st.put o.dst v)(h2:∀st2,gz an X o st st2->cU E Γ an o st2 some=some (st2.put o.dst v)):dH E Γ an X o st st':=⟨E7 o v,Dd v,by rw[sL];exact h,λst2 ha=>by rw[sL];exact h2 st2 ha⟩
theorem gz.rd (ha:gz an X o st st2)(hx:∀t∈tm x,t∈dj o):st2.rd x=st.rd x:=aem ha.ep λt ht=>ha.get t (hx t ht)
theorem Ye {c y:Operand}(ho:o.op=.pick c x y)(h:GD o c x y st some=some st'):dH E Γ an X o st st':=by
 have hr:∀st2,gz an X o st st2->st2.rd c=st.rd c/\st2.rd x=st.rd x/\st2.rd y=st.rd y:=λst2 ha=>
  ⟨ha.rd (λt ht=>by simp[dj,ho,ht]),ha.rd (λt ht=>by simp[dj,ho,ht]),ha.rd (λt ht=>by simp[dj,ho,ht])⟩
 unfold GD at h;split at h;rename_i t hc;split at h;rename_i a b hx hy;cases h;refine dH.put rfl λst2 ha=>?_;obtain⟨h1,h2,h3⟩:=hr st2 ha;simp only[cU,ho,GD,h1,h2,h3,hc,hx,hy];rename_i va vb I4;have hgo:∀st2,gz an X o st st2->cU E Γ an o st2 some=cond t (some (st2.put o.dst (st.rd x))) (some (st2.put o.dst (st.rd y))):=by intro st2 ha;obtain⟨h1,h2,h3⟩:=hr st2 ha;simp only[cU,ho,GD,h1,h2,h3,hc]
 cases t with|true=>cases h;exact dH.put rfl λst2 ha=>hgo st2 ha|false=>cases h;exact dH.put rfl λst2 ha=>hgo st2 ha
 cases h
theorem Oz {d s:Nat}{v:AV}:(⟨[(d,v)],some (s,cs),none⟩:KD).apply st=(st.ed s (some cs)).put (some d) v:=rfl
theorem R2 {o:Oper}(h:GR an o=true):∃T q d,o.op=.load T (.tmp q)/\o.dst=some d/\o.guard=none/\an.mv.contains d=true/\an.mb d=none:=by unfold GR at h;split at h;rename_i T q d ho hd hg;simp only[ah,Option.isNone_iff_eq_none]at h;exact⟨T,q,d,ho,hd,hg,h.1.1,h.1.2⟩;cases h
def Kv (st:AS)(b j t:Nat)(e:CT)(i:Int)(cs:au AC)(ys:au e.D):AS:=st.ed b (some (gG cs j (.sl (.eQ (some t) i (some st.ep)) e ys)))
theorem Pr {q d:Nat}(ht:GR an o=true)(ho:o.op=.load T (.tmp q))(hd:o.dst=some d)(Fl:an.mv.contains d=true)(WM:an.mb d=none):(dg E an X o st=true/\oW E an o T (.tmp q) st some=some st')↔ ∃(g:Bool)(e:CT)(jJ:au (Nat×Nat))(b j t NI:Nat)(x:e.D)(i:Int)(cs:au AC)(ys:au e.D)(y:e.D),iH E.ty T=some ⟨g,e,jJ⟩/\st.rd (.tmp q)=.val false [.Cg (.loc NI (some (.box b j,t))) e x i 0]/\(nth st.boxes b).getD none=some cs/\nth cs j=some (.sl (.own (some t)) e ys)/\idx ys i=some y/\ X.contains b=false/\an.eb q=some b/\WH an o=false/\st'=(Kv st b j t e i cs ys).put (some d) (.val g (cellsOf e (.own none) y)):=by
 have sX:GU an o=true:=by unfold GU;rw[hd];simp only[Fl,WM];rfl
 have I3:Dc an o=false:=by unfold Dc;split;rename_i Xy _;rw[hd]at Xy;cases Xy;rw[WM];simp;rfl
 have hnp:CJ an o=false:=by unfold CJ;split;rename_i Xy _;rw[hd]at Xy;cases Xy;rw[Fl];rfl;rfl
 constructor;rintro⟨hf,h⟩;unfold oW at h;split at h;rename_i hp;simp only[dg,ho,hp,hd,Fl,WM]at hf;simp at hf;rename_i sh fl e x i off hT hp;rw[aF sX]at h;simp only[dg,ho,hp,ht,I3,hnp,Bool.or_false,bR,ai,cH,gQ,ah,aO]at hf;obtain⟨⟨Gg,MZ⟩,hb⟩:=hf;unfold zu at h;split at h;rename_i NI r t;cases r with
 |slot _ _=>cases hb
 |io _=>cases hb
 |box b j=>
  simp only[ah,bC,aO]at hb;split at h;rename_i t' e' ys UQ;split at h;rename_i he;subst he;split at h;rename_i hc;obtain⟨rfl,rfl,LO⟩:=hc;obtain⟨g,ct,jJ⟩:=sh;simp only at LO;subst LO;cases hi:idx ys i with|none=>simp only[hi,aa]at h;cases h|some y=>simp only[hi,aa]at h;cases h;simp only[AS.ew]at UQ;obtain⟨cs,KS,hj⟩:=aK.1 UQ;refine⟨g,_,jJ,b,j,_,NI,x,i,cs,ys,y,hT,hp,KS,hj,hi,hb.2,hb.1,MZ,?_⟩;simp only[AS.eI,KS,hd];rfl
  cases h;cases h;cases h
 cases h;cases h;rintro⟨g,e,jJ,b,j,t,NI,x,i,cs,ys,y,hT,hp,KS,hj,hi,hX,SB,MZ,rfl⟩;constructor;simp only[dg,ho,hp,ht,I3,hnp,MZ,hX,SB];simp;simp only[oW,hT,hp,sX,bN,zu,AS.ew,KS,dX,hj,dite_true,and_self,hi,aa,AS.eI,hd];rfl
theorem Vu (ht:GR an o=true)(ho:o.op=.load T p)(fP:dg E an X o st=true)(h:oW E an o T p st some=some st'):dH E Γ an X o st st':=by obtain⟨T',q,d,MF,hd,hg,Fl,WM⟩:=R2 ht;rw[ho]at MF;cases MF;obtain⟨g,e,jJ,b,j,t,NI,x,i,cs,ys,y,hT,hp,KS,hj,hi,hX,SB,MZ,rfl⟩:=(Pr ht ho hd Fl WM).1 ⟨fP,h⟩;refine⟨⟨[(d,.val g (cellsOf e (.own none) y))],some (b,gG cs j (.sl (.eQ (some t) i (some st.ep)) e ys)),none⟩,⟨λx hx=>?_,λb' gn=>?_,λ_ hh=>by cases hh⟩,rfl,λst2 ha=>?_⟩;simp only[eu]at hx;subst hx;simp[writes,hd];cases gn;simp only[GV,ho,hd,Fl,af,ht,SB];simp;have h2:=((Pr (E:=E) (X:=X) (st:=st2) ht ho hd Fl WM).2 ⟨g,e,jJ,b,j,t,NI,x,i,cs,ys,y,hT,by rw[ha.rd (λt ht=>by simpa[dj,ho]using ht)];exact hp,by rw[ha.box b hX];exact KS,hj,hi,hX,SB,MZ,rfl⟩).2;simp only[cU,ho];rw[h2];simp only[Kv,ha.ep];rfl
theorem Yc (ho:o.op=.load T p)(hm:nB an o=true)(fP:dg E an X o st=true)(h:oW E an o T p st some=some st'):dH E Γ an X o st st':=by
 cases hE:GR an o with|true=>exact Vu hE ho fP h|false=> ?_
 have hr:∀st2,gz an X o st st2->st2.rd p=st.rd p:=λst2 ha=>ha.rd (λt ht=>by simpa[dj,ho]using ht);have sX:GU an o=false:=by simp only[nB,ho,hE,Bool.or_false]at hm;unfold GU;cases SA:o.dst with|none=>rfl|some d=>rw[SA]at hm;simp only[cX,aO]at hm;rcases hm with hm|hm;simp only[hm,gv];cases WM:an.mb d with|none=>rw[WM]at hm;cases hm|some _=>simp[WM]
 unfold oW at h;split at h;rename_i sh s off hT hp;simp only[dg,ho,hp,ah,aO]at fP;split at h;rename_i cs hb;split at h;rename_i gk;split at h;rename_i d hd;have jq:∀st2,gz an X o st st2->nth st2.boxes s=nth st.boxes s:=λst2 ha=>ha.box s fP.1.1;cases hf:an.mv.contains d with
 |false=>simp only[hf,aY,bV]at h;cases h;refine dH.put (by rw[hd]) λst2 ha=>?_;simp only[cU,ho,oW,hT,hr st2 ha,hp,jq st2 ha,hb,aF gk,hd,hf,aY,bV,ha.ep]
 |true=>
  simp only[hf,bN]at h;have WM:an.mb d=some s:=by have:=fP.1.2;rw[hd]at this;simp only[hf,ai,cH,bC]at this;exact this
  cases h;refine⟨⟨[(d,.val sh.agg ((cs.drop off).take sh.ct.size))],some (s,cS cs off (aS st.ep ((cs.drop off).take sh.ct.size))),none⟩,⟨λx hx=>?_,λb gn=>?_,λ_ hh=>by cases hh⟩,?_,λst2 ha=>?_⟩;simp only[eu]at hx;subst hx;simp[writes,hd];cases gn;simp only[GV,ho,hd,hf,af,WM];simp;rw[Oz,hd];simp only[cU,ho,oW,hT,hr st2 ha,hp,jq st2 ha,hb,aF gk,hd,hf,bN,ha.ep,Oz]
 cases h;cases h;cases h;rename_i sh fl e x i off hT hp;rw[aE (by simp[sX])]at h;split at h;rename_i hl;split at h;rename_i gk;cases h;refine dH.put rfl λst2 ha=>?_;simp only[cU,ho,oW,hT,hr st2 ha,hp,ha.ep,sX,aY,bV,aF hl,aF gk];cases h;rename_i hl;have HT:∀r t NI,fl=.loc NI (some (r,t))->∀st2,gz an X o st st2->st2.ew r=st.ew r:=by rintro r t NI rfl st2 ha;simp only[dg,ho,hp,hE,bR,jE,gQ,ah,cX]at fP;rcases fP.1.1 with hq|hq;exact absurd hq hl;cases r with|slot b j=>simp only[AS.ew];rw[ha.er b (by simpa using hq)]|box b j=>simp only[AS.ew];rw[ha.box b (by simpa using hq)]|io j=>cases hq
 unfold E0 at h;split at h;rename_i NI r t;split at h;rename_i t' e' ys UQ;split at h;rename_i he;split at h;rename_i hc;cases hi:idx (he▸ys:List _) i with|none=>rw[hi]at h;cases h|some y=>rw[hi]at h;simp only[aa]at h;cases h;refine dH.put rfl λst2 ha=>?_;simp only[cU,ho,oW,hT,hr st2 ha,hp,ha.ep,sX,aY,bV,aE hl,E0,HT _ _ _ rfl st2 ha,UQ,dif_pos he,aF hc,hi,aa]
 cases h;cases h;cases h;cases h;cases h
theorem OE (ho:o.op=.nilCheck x)(h:cU E Γ an o st some=some st'):dH E Γ an X o st st':=by have hr:∀st2,gz an X o st st2->st2.rd x=st.rd x:=λst2 ha=>ha.rd (λt ht=>by simpa[dj,ho]using ht);simp only[cU,ho]at h;split at h;rename_i s off hx;cases h;refine dH.put rfl λst2 ha=>?_;simp only[cU,ho,hr st2 ha,hx];rename_i fl e y i off hx;cases h;refine dH.put rfl λst2 ha=>?_;simp only[cU,ho,hr st2 ha,hx];cases h
theorem PF {op:BinOp}{x y:AV}(h:(HG op x y λc=>some (st.put o.dst (.one c)))=some st'):∃v,st'=st.put o.dst v/\∀st2:AS,(HG op x y λc=>some (st2.put o.dst (.one c)))=some (st2.put o.dst v):=by have key:∀s:AS,(HG op x y λc=>some (s.put o.dst (.one c)))=(HG op x y some).bind λc=>some (s.put o.dst (.one c)):=λs=>(G2 op x y some _).symm;rw[key st]at h;cases hb:HG op x y some with|none=>rw[hb]at h;cases h|some c=>rw[hb]at h;cases h;exact⟨_,rfl,λst2=>by rw[key st2,hb];rfl⟩
theorem R7 {op:BinOp}{b:Bool}(h:(Fj op b λc=>some (st.put o.dst (.one c)))=some st'):∃v,st'=st.put o.dst v/\∀st2:AS,(Fj op b λc=>some (st2.put o.dst (.one c)))=some (st2.put o.dst v):=by unfold Fj at h;split at h;cases h;exact⟨_,rfl,λst2=>rfl⟩;cases h;exact⟨_,rfl,λst2=>rfl⟩;cases h
theorem abp {op:BinOp}{T':TypeId}{y:Operand}(ho:o.op=.binOp op T x y T')(h:Cc E o op T x y st some=some st'):dH E Γ an X o st st':=by
 have hr:∀st2,gz an X o st st2->st2.rd x=st.rd x/\st2.rd y=st.rd y:=λst2 ha=>
  ⟨ha.rd (λt ht=>by simp[dj,ho,ht]),ha.rd (λt ht=>by simp[dj,ho,ht])⟩
 unfold Cc at h;split at h;rename_i a b hx hy;split at h;rename_i hT;obtain⟨v,rfl,hv⟩:=PF h;refine dH.put rfl λst2 ha=>?_;simp only[cU,ho,Cc,(hr st2 ha).1,(hr st2 ha).2,hx,hy,aF hT];exact hv st2;cases h;rename_i xs ys hx hy;split at h;rename_i ls hq;split at h;rename_i gk;obtain⟨v,rfl,hv⟩:=PF h;refine dH.put rfl λst2 ha=>?_;simp only[cU,ho,Cc,(hr st2 ha).1,(hr st2 ha).2,hx,hy,hq,aF gk];exact hv st2;cases h;cases h;rename_i fl e xs hx hy;split at h;rename_i hT;split at h;cases h;rename_i hlen;obtain⟨v,rfl,hv⟩:=R7 h;refine dH.put rfl λst2 ha=>?_;simp only[cU,ho,Cc,(hr st2 ha).1,(hr st2 ha).2,hx,hy,ha.ep,aF hT,aE hlen];exact hv st2;cases h;rename_i hx hy;split at h;rename_i hT;obtain⟨v,rfl,hv⟩:=R7 h;refine dH.put rfl λst2 ha=>?_;simp only[cU,ho,Cc,(hr st2 ha).1,(hr st2 ha).2,hx,hy,aF hT];exact hv st2;cases h;rename_i a b DW B8 hn3 hn4;obtain⟨v,rfl,hv⟩:=PF h;refine dH.put rfl λst2 ha=>?_;simp only[cU,ho,Cc,(hr st2 ha).1,(hr st2 ha).2];exact hv st2
theorem ad7 {op:UnOp}(ho:o.op=.unOp op T x)(h:(unC op (st.rd x) λc=>some (st.put o.dst (.one c)))=some st'):dH E Γ an X o st st':=by have hr:∀st2,gz an X o st st2->st2.rd x=st.rd x:=λst2 ha=>ha.rd (λt ht=>by simpa[dj,ho]using ht);have key:∀s:AS,(unC op (st.rd x) λc=>some (s.put o.dst (.one c)))=(unC op (st.rd x) some).bind λc=>some (s.put o.dst (.one c)):=λs=>(Wx op (st.rd x) some _).symm;rw[key st]at h;cases hb:unC op (st.rd x) some with|none=>rw[hb]at h;cases h|some c=>rw[hb]at h;cases h;refine dH.put rfl λst2 ha=>?_;simp only[cU,ho,hr st2 ha];rw[key st2,hb];rfl
theorem Vq {S:TypeId}{f:Nat}(ho:o.op=.fieldAddr S p f)(h:Bf E o S p f st some=some st'):dH E Γ an X o st st':=by have hr:∀st2,gz an X o st st2->st2.rd p=st.rd p:=λst2 ha=>ha.rd (λt ht=>by simpa[dj,ho]using ht);unfold Bf at h;split at h;rename_i hT hp;split at h;rename_i hf;cases h;refine dH.put rfl λst2 ha=>?_;simp only[cU,ho,Bf,hr st2 ha,hT,hp,hf];cases h;rename_i hT hp;split at h;rename_i hf;cases h;refine dH.put rfl λst2 ha=>?_;simp only[cU,ho,Bf,hr st2 ha,hT,hp,hf];cases h;cases h
theorem AR {v:AV}{s:AS}(h:v.now s.ep=true):v.fresh s=v:=by
 cases v with
 |vq vs=>rfl
 |val g cs=>
  simp only[AV.now,aW]at h;simp only[AV.fresh];congr 1;have:cs.map s.fresh=cs.map id:=List.map_congr_left λc hc=>by have hn:=h c hc;unfold AS.fresh;split;simp only[AC.now]at hn;rw[hn];rfl;rfl
  rw[this,List.map_id]
theorem UD {v:AV}{st st2:AS}(he:st2.ep=st.ep)(h:v.now st.ep=true\/∃g ep b j t e xs,v=.val g [.sl (.loc ep (some (.box b j,t))) e xs]/\nth st2.boxes b=nth st.boxes b):v.fresh st2=v.fresh st:=by rcases h with h|⟨g,ep,b,j,t,e,xs,rfl,hb⟩;rw[AR h,AR (by rw[he];exact h)];simp only[AV.fresh,List.map_cons,List.map_nil];congr 2;unfold AS.fresh;simp only[AS.ew,he,hb]
theorem MI {i:Operand}(ho:o.op=.indexAddr T x i)(fP:dg E an X o st=true)(h:mq E o T x i st some=some st'):dH E Γ an X o st st':=by
 have hr:∀st2,gz an X o st st2->st2.rd x=st.rd x/\st2.rd i=st.rd i:=λst2 ha=>
  ⟨ha.rd (λt ht=>by simp[dj,ho,ht]),ha.rd (λt ht=>by simp[dj,ho,ht])⟩
 have Hh:∀st2,gz an X o st st2->(st.rd x).fresh st2=(st.rd x).fresh st:=λst2 ha=>by refine UD ha.ep ?_;simp only[dg,ho,cX]at fP;rcases fP with hn|hn;exact .inl hn;split at hn;rename_i g ep b j t e xs hx;exact .inr ⟨g,ep,b,j,t,e,xs,hx,ha.box b (by simpa using hn)⟩;cases hn
 unfold mq at h;split at h;rename_i e' fl e xs k n hT hx hi;split at h;rename_i hc;cases D7:idx xs n with|none=>rw[D7]at h;cases h|some y=>rw[D7]at h;cases h;refine dH.put rfl λst2 ha=>?_;have hf3:=Hh st2 ha;rw[hx]at hf3;simp only[cU,ho,mq,(hr st2 ha).1,(hr st2 ha).2,hf3,hT,hi,ha.ep,aF hc,D7,aa]
 cases h;cases h
theorem Vr {i:Operand}(ho:o.op=.index T x i)(h:C2 E o T x i st some=some st'):dH E Γ an X o st st':=by
 have hr:∀st2,gz an X o st st2->st2.rd x=st.rd x/\st2.rd i=st.rd i:=λst2 ha=>
  ⟨ha.rd (λt ht=>by simp[dj,ho,ht]),ha.rd (λt ht=>by simp[dj,ho,ht])⟩
 unfold C2 at h;split at h;rename_i s k n hx hi;split at h;rename_i hc;cases D7:idx s n with|none=>rw[D7]at h;cases h|some y=>rw[D7]at h;cases h;refine dH.put rfl λst2 ha=>?_;simp only[cU,ho,C2,(hr st2 ha).1,(hr st2 ha).2,hx,hi,aF hc,D7,aa]
 cases h;cases h
theorem dH.new {v:AV}(h:st'=(st.eX o.dst).put o.dst v)(h2:∀st2,gz an X o st st2->cU E Γ an o st2 some=some ((st2.eX o.dst).put o.dst v)):dH E Γ an X o st st':=⟨IZ o v,Qx v,by rw[Ky];exact h,λst2 ha=>by rw[Ky];exact h2 st2 ha⟩
theorem gz.gV (ha:gz an X o st st2):st2.gV o.dst=st.gV o.dst:=by funext j;cases hd:o.dst with|none=>rfl|some d=>simp only[AS.gV,(ha.dst d hd).1]
theorem JQ {lo hi:aw Operand}{n:Nat}{f:AS->Int->Int->aw AS}(hs:∀st2,gz an X o st st2->lo.map st2.rd=lo.map st.rd/\hi.map st2.rd=hi.map st.rd)(h:mM st lo hi n (f st)=some st'):∃a b,f st a b=some st'/\∀st2,gz an X o st st2->mM st2 lo hi n (f st2)=f st2 a b:=by unfold mM at h;split at h;rename_i h1 h2;exact⟨_,_,h,λst2 ha=>by simp only[mM,(hs st2 ha).1,(hs st2 ha).2,h1,h2]⟩;rename_i h1 h2;exact⟨_,_,h,λst2 ha=>by simp only[mM,(hs st2 ha).1,(hs st2 ha).2,h1,h2]⟩;rename_i h1 h2;exact⟨_,_,h,λst2 ha=>by simp only[mM,(hs st2 ha).1,(hs st2 ha).2,h1,h2]⟩;rename_i h1 h2;exact⟨_,_,h,λst2 ha=>by simp only[mM,(hs st2 ha).1,(hs st2 ha).2,h1,h2]⟩;cases h
theorem Vs {lo hi:aw Operand}(ho:o.op=.slice T x lo hi none)(hm:nB an o=true)(fP:dg E an X o st=true)(h:BR E an o T x lo hi st some=some st'):dH E Γ an X o st st':=by
 have hr:∀st2,gz an X o st st2->st2.rd x=st.rd x:=λst2 ha=>ha.rd (λt ht=>by simp[dj,ho,ht]);have hb:∀st2,gz an X o st st2->lo.map st2.rd=lo.map st.rd/\hi.map st2.rd=hi.map st.rd:=by
  intro st2 ha;constructor;cases lo with|none=>rfl|some y=>simp only[cY];rw[ha.rd (λt ht=>by simp[dj,ho,tmO,ht])]
  cases hi with|none=>rfl|some y=>simp only[cY];rw[ha.rd (λt ht=>by simp[dj,ho,tmO,ht])]
 have Gj:(st.rd x).now st.ep=true:=by simpa[dg,ho]using fP
 have Hh:∀st2,gz an X o st st2->(st.rd x).fresh st2=st.rd x:=λst2 ha=>AR (by rw[ha.ep];exact Gj);have sX:GU an o=false:=by simpa[nB,ho]using hm
 unfold BR at h;rw[aE (by simp[sX]),AR Gj]at h;split at h;rename_i s hx;split at h;rename_i hT;obtain⟨a,b,h1,h2⟩:=JQ (f:=λs0 a b=>aa (sub s a b) λs'=>some (s0.put o.dst (.one (.str s')))) hb h;cases pG:sub s a b with|none=>rw[pG]at h1;cases h1|some s'=>rw[pG]at h1;cases h1;refine dH.put rfl λst2 ha=>?_;have hf3:=Hh st2 ha;rw[hx]at hf3;simp only[cU,ho,BR,sX,aY,bV,hr st2 ha,hx,hf3,aF hT];rw[h2 st2 ha,pG];rfl
 cases h;rename_i fl e xs hx;split at h;rename_i hT;obtain⟨a,b,h1,h2⟩:=JQ (f:=λs0 a b=>aa (sub xs a b) λPR=>some (s0.put o.dst (.one (.sl (OM an o fl a) e PR)))) hb h;cases pG:sub xs a b with|none=>rw[pG]at h1;cases h1|some s'=>rw[pG]at h1;cases h1;refine dH.put rfl λst2 ha=>?_;have hf3:=Hh st2 ha;rw[hx]at hf3;simp only[cU,ho,BR,sX,aY,bV,hr st2 ha,hx,hf3,ha.ep,aF hT];rw[h2 st2 ha,pG];rfl
 cases h;cases h
theorem Ik {args:au Operand}(hl:∀t,t∈Qw args->t∈dj o)(ha:gz an X o st st2):args.map st2.rd=args.map st.rd:=by apply List.map_congr_left;intro x hx;exact ha.rd (λt ht=>hl t (by simp only[Qw,List.mem_flatMap];exact⟨x,hx,ht⟩))
theorem abr (ho:o.op=.call {callee:=.builtin .len,args,argTypes:=ts})(h:Oy E o ts.toList args.toList st some=some st'):dH E Γ an X o st st':=by have hr:∀st2,gz an X o st st2->args.toList.map st2.rd=args.toList.map st.rd:=λst2 ha=>Ik (λt ht=>by simp only[dj,ho];exact ht) ha;unfold Oy at h;split at h;rename_i t s qH hx;split at h;rename_i hT;cases h;refine dH.put rfl λst2 ha=>?_;simp only[cU,ho,Oy,hr st2 ha,qH,hx,aF hT];cases h;rename_i t _ _ xs qH hx;split at h;rename_i hT;cases h;refine dH.put rfl λst2 ha=>?_;simp only[cU,ho,Oy,hr st2 ha,qH,hx,aF hT];cases h;cases h
theorem abu (ho:o.op=.call {callee:=.builtin .min,args,argTypes:=ts})(h:Qd o args.toList st some=some st'):dH E Γ an X o st st':=by have hr:∀st2,gz an X o st st2->args.toList.map st2.rd=args.toList.map st.rd:=λst2 ha=>Ik (λt ht=>by simp only[dj,ho];exact ht) ha;unfold Qd at h;split at h;rename_i hx;cases h;refine dH.put rfl λst2 ha=>?_;simp only[cU,ho,Qd,hr st2 ha,hx];cases h
theorem abt (ho:o.op=.call {callee:=.builtin .max,args,argTypes:=ts})(h:Qc o args.toList st some=some st'):dH E Γ an X o st st':=by have hr:∀st2,gz an X o st st2->args.toList.map st2.rd=args.toList.map st.rd:=λst2 ha=>Ik (λt ht=>by simp only[dj,ho];exact ht) ha;unfold Qc at h;split at h;rename_i hx;cases h;refine dH.put rfl λst2 ha=>?_;simp only[cU,ho,Qc,hr st2 ha,hx];cases h
theorem abj {l:dI}{c:AC}(h:c.aev l=true)(hl:∀t∈l,st2.get t=st.get t):st2.Qb c=st.Qb c:=by
 cases c with
 |sl fl e xs=>
  cases fl with
  |loc ep pv=>cases pv with|none=>rfl|some q=>obtain⟨r,t⟩:=q;cases r with|slot b j=>have hb:st2.get b=st.get b:=hl b (by simpa[AC.aev]using h);simp only[AS.Qb,AS.ew,hb]|box _ _=>rfl|io _=>rfl
  |_=>rfl
 |_=>rfl
theorem X6 {l:dI}(hx:J6 l st x=true)(hl:∀t∈l,st2.get t=st.get t)(h:∀t∈tm x,st2.get t=st.get t):CI st2 x=CI st x/\DC st2 x=DC st x:=by
 cases x with
 |tmp t=>have ht:=h t (by simp[tm]);simp only[J6]at hx;cases hg:st.get t with|vq vs=>exact⟨by simp only[CI,ht,hg],by simp only[DC,ht,hg]⟩|val g cs=>rw[hg]at hx;have hm:cs.map st2.Qb=cs.map st.Qb:=List.map_congr_left λc hc=>abj (aW.1 hx c hc) hl;exact⟨by simp only[CI,ht,hg,hm],by simp only[DC,ht,hg,hm]⟩
 |const v=>exact⟨rfl,rfl⟩
 |func f=>exact⟨rfl,rfl⟩
 |global g=>exact⟨rfl,rfl⟩
theorem Qe (ho:o.op=.call {callee:=.value f,args,argTypes:=ts})(fP:dg E an X o st=true){k:Nat}(hf:st.rd f=.val false [.fn k])(jq:(Γ k).bx=true)(hcur:(Γ k).cur=true)(h:vx Γ o k args.toList st some=some st'):dH E Γ an X o st st':=by
 unfold vx at h;split at h;rename_i x0 xs eP;split at h;rename_i s WO;have gw:tS an X (erS an o) st (x0::xs)=true:=by have h1:=fP;simp only[dg,ho,ah]at h1;rw[<-eP];exact h1.1
 have hx1:∃q,x0=.tmp q/\X.contains s=false/\an.sb q=some s/\(match (nth st.boxes s).getD none with|some cs=>cs.all AC.I6|none=>true)=true/\xs.all (J6 (erS an o) st)=true:=by cases x0 with|tmp q=>simp only[tS,WO,acQ,ah,aO,bC]at gw;exact⟨q,rfl,gw.1.1.1,gw.1.1.2,gw.1.2,gw.2⟩|const v=>simp only[tS,WO,AV.ZP]at gw;cases gw|func v=>simp only[tS,WO,AV.ZP]at gw;cases gw|global v=>simp only[tS,WO,AV.ZP]at gw;cases gw
 obtain⟨q,rfl,hX,hsb,FM,Cm⟩:=hx1;split at h;rename_i cs TU;rw[TU]at FM;simp only at FM;cases hc:(cs.all (AC.zU (Ff cs))&&xs.all (DC st))with
 |false=>rw[hc]at h;cases h
 |true=>
  rw[hc]at h;simp only[af]at h;cases eU:(Γ k).fn (.val true (cs.map AC.TG)::xs.map (CI st))with
  |none=>rw[eU]at h;cases h
  |some y=>
   rw[eU]at h;simp only[aa]at h;cases Xw:(((Γ k).back y).all (AC.zU true)&&((Γ k).av y).abx)with
   |false=>rw[Xw]at h;cases h
   |true=>
    rw[Xw]at h;simp only[af,hcur,FM,du,aZ]at h;subst h;refine⟨⟨o.dst.toList.map λd=>(d,((Γ k).av y).Fg st.ep (st.gV o.dst)),some (s,pj (Ff cs) (λ_=>none) 0 ((Γ k).back y)),o.dst⟩,⟨λx hx=>?_,λb hb=>?_,λd hd=>hd⟩,?_,λst2 ha=>?_⟩;simp only[List.mem_map]at hx;obtain⟨d,hd,rfl⟩:=hx;simp[writes,hd];cases hb;simp[GV,ho,eP,hsb];unfold KD.apply AS.put AS.eX AS.ed;cases o.dst<;>rfl;have e1:st2.rd f=st.rd f:=ha.rd (λt ht=>by simp[dj,ho,ht]);have hl:∀x∈Operand.tmp q::xs,∀t∈tm x,t∈dj o:=by intro x hx t ht;simp only[dj,ho,ay,Qw,List.mem_flatMap,eP];exact .inr ⟨x,hx,ht⟩
    have e2:st2.rd (.tmp q)=st.rd (.tmp q):=ha.rd (hl _ (by simp));have e3:nth st2.boxes s=nth st.boxes s:=ha.box s hX;have e4:∀x∈xs,CI st2 x=CI st x/\DC st2 x=DC st x:=λx hx=>X6 (aW.1 Cm x hx) ha.er λt ht=>ha.get t (hl x (by simp[hx]) t ht);have e5:xs.map (CI st2)=xs.map (CI st):=List.map_congr_left λx hx=>(e4 x hx).1;have e6:xs.all (DC st2)=xs.all (DC st):=by rw[eT];simp only[aW];exact⟨λg x hx=>by rw[<-(e4 x hx).2];exact g x hx,λg x hx=>by rw[(e4 x hx).2];exact g x hx⟩
    simp only[cU,ho,Fh,e1,hf,jq,af,vx,eP,e2,WO,e3,TU,e5,e6,hc,eU,aa,Xw,hcur,FM,du,ha.ep,ha.gV];unfold KD.apply AS.put AS.eX AS.ed;cases o.dst<;>rfl
 cases h;cases h;cases h
theorem Yb (zw:∀f,(Γ f).io=false/\((Γ f).bx=true->(Γ f).cur=true)/\(Γ f).pr=false)(ho:o.op=.call {callee:=.value f,args,argTypes:=ts})(fP:dg E an X o st=true)(h:Fh Γ o f args.toList st some=some st'):dH E Γ an X o st st':=by
 have hr:∀st2,gz an X o st st2->st2.rd f=st.rd f/\(args.toList.map λx=>((st2.rd x).fresh st2).asArg st2.ep)=args.toList.map λx=>((st.rd x).fresh st).asArg st.ep:=by
  intro st2 ha;refine⟨ha.rd (λt ht=>by simp[dj,ho,ht]),?_⟩;apply List.map_congr_left;intro x hx;have Gj:(st.rd x).now st.ep=true:=by simp only[dg,ho,ah,aW]at fP;exact fP.2 x hx
  rw[ha.rd (λt ht=>by simp only[dj,ho,ay,Qw,List.mem_flatMap];exact .inr ⟨x,hx,ht⟩),AR Gj,AR (s:=st2) (by rw[ha.ep];exact Gj),ha.ep]
 unfold Fh at h;split at h
 ·rename_i k hf
  cases jq:(Γ k).bx with
  |true=>rw[jq]at h;exact Qe ho fP hf jq ((zw k).2.1 jq) h
  |false=>
  rw[jq,(zw k).2.2,(zw k).1]at h
  simp only[ae]at h
  cases hg:(Γ k).fn (args.toList.map λx=>((st.rd x).fresh st).asArg st.ep)with
  |none=>rw[hg]at h;cases h
  |some y=>
   rw[hg]at h
   simp only[aa]at h
   cases P5:(Γ k).sel y with
   |true=>
    rw[P5]at h
    cases h
    refine dH.new rfl λst2 ha=>?_
    simp only[cU,ho,Fh,(hr st2 ha).1,hf,(zw k).1,jq,(zw k).2.2,ae]
    rw[(hr st2 ha).2,hg]
    simp only[aa,P5,af,ha.ep,ha.gV]
   |false=>
    rw[P5]at h
    cases h
    refine dH.new rfl λst2 ha=>?_
    simp only[cU,ho,Fh,(hr st2 ha).1,hf,(zw k).1,jq,(zw k).2.2,ae]
    rw[(hr st2 ha).2,hg]
    simp only[aa,P5,ae,ha.ep,ha.gV]
 cases h
theorem Qf {src dst:TypeId}(ho:o.op=.convert src dst x)(h:lF E o src dst x st some=some st'):dH E Γ an X o st st':=by
 have hr:∀st2,gz an X o st st2->st2.rd x=st.rd x:=λst2 ha=>ha.rd (λt ht=>by simpa[dj,ho]using ht);unfold lF at h;split at h;rename_i h1 h2 h3;cases h;refine dH.put rfl λst2 ha=>?_;simp only[cU,ho,lF,hr st2 ha,h1,h2,h3];rename_i h1 h2 h3;cases h;refine dH.put rfl λst2 ha=>?_;simp only[cU,ho,lF,hr st2 ha,h1,h2,h3];rename_i jJ val s I4 h1 h2 h3;split at h;rename_i hb;unfold room at h;split at h;rename_i hrm;cases h;refine dH.new (v:=.one (.sl (.own (st.gV o.dst 0)) (.int .u8) (dc s))) rfl λst2 ha=>?_;have HK:∀k:AS->aw AS,lF E o src dst x st2 k=if E.bytes dst then room s.length (k (st2.pH o.dst (.int .u8) (dc s))) else none:=by intro k;unfold lF;rw[hr st2 ha,h1,h2,h3];obtain⟨ag,ct,of⟩:=val;cases ag with|true=>rfl|false=>cases ct with|str=>exact(I4 _ rfl).elim|_=>rfl
 simp only[cU,ho];rw[HK,aF hb,room,aF hrm,AS.pH,ha.gV];cases h;cases h;rename_i val jJ fl xs h1 h2 h3;split at h;rename_i hb;cases h;refine dH.put rfl λst2 ha=>?_;have HK:∀k:AS->aw AS,lF E o src dst x st2 k=if E.bytes src/\fl.live st2.ep then k (st2.put o.dst (.one (.str (aM xs)))) else none:=by intro k;unfold lF;rw[hr st2 ha,h1,h2,h3];obtain⟨ag,ct,of⟩:=val;cases ag with|true=>rfl|false=>cases ct<;>rfl
 simp only[cU,ho];rw[HK,ha.ep,aF hb];cases h;cases h
theorem LB {d:Nat}{v:AV}:(⟨[(d,v)],some (d,cs),none⟩:KD).apply st=(st.ed d (some cs)).put (some d) v:=rfl
theorem Vo (ho:o.op=.alloc T)(h:DY E o T st some=some st'):dH E Γ an X o st st':=by unfold DY at h;split at h;rename_i d sh hd hT;split at h;rename_i hb;cases h;refine⟨⟨[(d,.one (.ptr d 0))],some (d,cellsOf sh.ct (.own none) sh.ct.zero),none⟩,⟨λx hx=>?_,λb gn=>?_,λ_ hh=>by cases hh⟩,?_,λst2 ha=>?_⟩;simp only[eu]at hx;subst hx;simp[writes,hd];cases gn;simp[GV,ho,hd];rw[LB,hd];simp only[cU,ho,DY,hd,hT,(ha.dst d hd).2,hb,LB];cases h;cases h
def oe (st:AS):Operand->au (Nat×AV)
 | .tmp t=>[(t,(st.get t).aS st.ep)]
 |_=>[]
theorem C5 (l:au AV)(a b:au (Nat×AV)):jK l (a++b)=jK (jK l a) b:=by induction a generalizing l with|nil=>rfl|cons x a ih=>exact ih _
def AS.jT (st:AS)(l:au (Nat×AV)):AS:={st with slots:=jK st.slots l}
theorem qY (a b:au (Nat×AV)):st.jT (a++b)=(st.jT a).jT b:=by simp only[AS.jT,C5]
theorem DS (x:Operand):(st.take x).2=st.jT (oe st x):=by cases x<;>rfl
theorem E3 (xl:st2.ep=st.ep)(h:∀t∈tm x,st2.get t=st.get t):(st2.take x).1=(st.take x).1/\(st2.take x).2=st2.jT (oe st x):=by cases x with|tmp t=>have:=h t (by simp[tm]);refine⟨this,?_⟩;rw[DS];simp only[oe,this,xl]|const v=>exact⟨rfl,rfl⟩|func f=>exact⟨rfl,rfl⟩|global g=>exact⟨rfl,rfl⟩
theorem Kw:∀y∈oe st x,y.1∈tm x:=by cases x<;>simp[oe,tm]
theorem Yd (ho:o.op=.move x)(h:DF an o x st some=some st'):dH E Γ an X o st st':=by
 unfold DF at h;cases hd:o.dst with
 |none=>rw[hd]at h;cases h
 |some d=>
  rw[hd]at h;cases hf:an.mv.contains d with
  |false=>simp only[hf,aY,bV]at h;cases h;refine dH.put (v:=st.rd x) (by rw[hd]) λst2 ha=>?_;have hr:st2.rd x=st.rd x:=ha.rd (λt ht=>by simpa[dj,ho]using ht);simp only[cU,ho,DF,hd,hf,aY,bV,hr]
  |true=>
   simp only[hf,bN]at h;cases h;have hr:∀st2,gz an X o st st2->(st2.take x).1=(st.take x).1/\(st2.take x).2=st2.jT (oe st x):=λst2 ha=>E3 ha.ep λt ht=>ha.get t (by simpa[dj,ho]using ht);refine⟨⟨oe st x++[(d,(st.take x).1)],none,none⟩,⟨λy hy=>?_,λ_ hh=>(by cases hh),λ_ hh=>(by cases hh)⟩,?_,λst2 ha=>?_⟩;rcases ay.1 hy with hy|hy;have:=Kw y hy;have hf':d∈an.mv:=by simpa using hf
   simp[writes,GS,ho,hd,hf',dj,this];simp only[eu]at hy;subst hy;simp[writes,hd];rw[DS];show _=st.jT _;rw[qY];rfl;simp only[cU,ho,DF,hd,hf,bN,(hr st2 ha).1,(hr st2 ha).2];show some ((st2.jT (oe st x)).put (some d) (st.take x).1)=some (st2.jT _);rw[qY];rfl
theorem Ux {ep:Nat}(h:cs.all AC.fS=true):aS ep cs=cs:=by
 rw[aW]at h;unfold aS;have:cs.map (AC.borrow ep none)=cs.map id:=List.map_congr_left λc hc=>by have:=h c hc;cases c<;>first|rfl|(simp[AC.fS]at this)
 rw[this,List.map_id]
theorem afR {s:AS}{vs:au (Bool×au AC)}(h:s.get t=.vq vs):s.put (some t) (.vq vs)=s:=by cases s with|mk slots boxes ep iss io=>simp only[AS.put,AS.mk.injEq,gR];rw[eJ];apply cI;intro i;rw[bk];split;rename_i hd;subst hd;simp only[AS.get,dv]at h;split;rename_i gq;rw[al gq]at h⊢;simp only[eY]at h;rw[h];rename_i zX;rw[bE (Nat.le_of_not_lt zX)];rfl
theorem Qg {i:Nat}(ho:o.op=.extract (.tmp t) i)(fP:dg E an X o st=true)(h:lG o t i st some=some st'):dH E Γ an X o st st':=by
 have hr:∀st2,gz an X o st st2->st2.get t=st.get t:=λst2 ha=>ha.get t (by simp[dj,ho]);unfold lG at h;simp only[dg,ho]at fP;split at h
 ·rename_i vs hv;rw[hv]at fP;split at h
  ·rename_i g cs hn;simp only[hn]at fP;have hfl:cs.all AC.fS=true\/∃d,o.dst=some d/\an.mv.contains d=true:=by cases hd:o.dst with|none=>simp only[hd,Bool.or_false]at fP;exact .inl fP|some d=>simp only[hd,cX]at fP;rcases fP with h|h;exact .inl h;exact .inr ⟨d,rfl,h⟩
   rcases hfl with fP|⟨d,hd,Fl⟩;rotate_left;cases h;refine⟨⟨[(t,.vq (gG vs i (g,aS 0 cs))),(d,.val g cs)],none,none⟩,⟨λx hx=>?_,(λ_ hb=>by cases hb),(λ_ hh=>by cases hh)⟩,?_,λst2 ha=>?_⟩;simp only[cg,List.not_mem_nil,or_false]at hx;rcases hx with rfl|rfl;simp only[writes,GS,ho,hd,Fl,af,dj];simp;simp only[writes,hd];simp;rw[hd];rfl;have h2:st2.get t=.vq vs:=by rw[hr st2 ha,hv]
   simp only[cU,ho,lG,h2,hn,hd];rfl;skip;have Eb:gG vs i (g,cs)=vs:=by rw[eJ];rw[dv]at hn;apply cI;intro k;rw[bk];split;rename_i hk;subst hk;obtain⟨hl,he⟩:=aD.1 hn;rw[aF hl,hn];rfl
   have key:∀s:AS,s.get t=.vq vs->(s.put (some t) (.vq (gG vs i (g,aS 0 cs))))=s:=λs hs=>by rw[Ux fP,Eb,afR hs]
   rw[key st hv]at h;cases h;refine dH.put rfl λst2 ha=>?_;have h2:st2.get t=.vq vs:=by rw[hr st2 ha,hv]
   simp only[cU,ho,lG,h2,hn];rw[key st2 h2]
  cases h
 cases h
def AM (st:AS):Operand->au (Nat×AV)
 | .tmp t=>[(t,(st.get t).aS st.ep)]
 |_=>[]
theorem Pv (st:AS)(x:Operand):(st.take x).2=⟨jK st.slots (AM st x),st.boxes,st.ep,st.iss,st.io⟩:=by cases x<;>rfl
theorem Vt {pp:Nat}(ho:o.op=.store T (.tmp pp) x)(hd:o.dst=none)(hm:nB an o=true)(fP:dg E an X o st=true)(h:xH E T (.tmp pp) x st some=some st'):dH E Γ an X o st st':=by
 have hr:∀st2,gz an X o st st2->st2.rd (.tmp pp)=st.rd (.tmp pp):=λst2 ha=>ha.rd (λt ht=>by simp only[dj,ho,ay];exact .inl ht);have hsb:(an.sb pp).isNone=false:=by simp only[nB,ho,ah]at hm;cases hb:an.sb pp with|none=>rw[hb]at hm;cases hm.1|some _=>rfl
 simp only[dg,ho,hsb,gv,cH]at fP;unfold xH at h;split at h;rename_i sh s off hT hp;rw[hp]at fP;simp only[ah,aO,bC]at fP;split at h;rename_i gg vs st1 sX;have SN:(st.take x).1=.val gg vs:=by rw[sX]
 have Gm:st1=⟨jK st.slots (AM st x),st.boxes,st.ep,st.iss,st.io⟩:=by rw[<-Pv,sX]
 split at h;rename_i cs hb;split at h;rename_i hlen;split at h;rename_i gk;cases h;have jq:∀st2,gz an X o st st2->nth st2.boxes s=nth st.boxes s:=λst2 ha=>ha.box s fP.1;refine⟨⟨AM st x,some (s,cS cs off vs),none⟩,⟨λy hy=>?_,λb gn=>?_,λ_ hh=>by cases hh⟩,?_,λst2 ha=>?_⟩;cases x with|tmp t=>simp only[AM,eu]at hy;subst hy;simp only[writes,GS,ho,af,dj,hd];simp[tm]|_=>simp[AM]at hy
 cases gn;simp only[GV,ho,fP.2];simp;rw[Gm];rfl;have hx2:(st2.take x).1=(st.take x).1/\AM st2 x=AM st x:=by cases x with|tmp t=>have hg:st2.get t=st.get t:=ha.get t (by simp[dj,ho,tm]);simp only[AS.take,AM,hg,ha.ep];simp|const v=>exact⟨rfl,rfl⟩|func f=>exact⟨rfl,rfl⟩|global g=>exact⟨rfl,rfl⟩
 have ht2:st2.take x=(.val gg vs,⟨jK st2.slots (AM st x),st2.boxes,st2.ep,st2.iss,st2.io⟩):=by rw[<-hx2.2,<-Pv,<-SN,<-hx2.1]
 have FN:(nth st2.boxes s).getD none=some cs:=by rw[jq st2 ha];rw[Gm]at hb;exact hb
 have Fk:Bu an o=false:=by simp only[nB,ho,ah,aO]at hm;exact hm.2
 simp only[cU,ho,hd,Fk,aY,bV,xH,hT,hr st2 ha,hp,ht2,FN,aF hlen,aF gk];rfl;cases h;cases h;cases h;cases h;rename_i r _ _ _ _ _ _ hp;rw[hp]at fP;cases r<;>simp at fP;cases h
theorem S8 (ho:o.op=.assign x)(hm:nB an o=true)(h:vw E an o x st some=some st'):dH E Γ an X o st st':=by
 have hr:∀st2,gz an X o st st2->(st2.take x).1=(st.take x).1/\(st2.take x).2=st2.jT (oe st x):=λst2 ha=>E3 ha.ep λt ht=>ha.get t (by simpa[dj,ho]using ht);have Fk:Bu an o=false:=by simpa[nB,ho]using hm
 unfold vw at h;split at h;rename_i st1 sX;split at h;rename_i e hT;cases h;refine dH.put rfl λst2 ha=>?_;have h2:st2.take x=(.val false [.jl],st2.jT (oe st x)):=Prod.ext (by rw[(hr st2 ha).1,sX]) (hr st2 ha).2;simp only[cU,ho,vw,Fk,aY,bV,h2,hT];cases h;rename_i v st1 I4 sX;cases h;have Gm:st1=st.jT (oe st x):=by rw[<-DS,sX]
 refine⟨⟨oe st x++o.dst.toList.map λd=>(d,v),none,none⟩,⟨λy hy=>?_,λ_ hh=>(by cases hh),λ_ hh=>(by cases hh)⟩,?_,λst2 ha=>?_⟩;rcases ay.1 hy with hy|hy;have:=Kw y hy;simp[writes,GS,ho,dj,this];obtain⟨d,hd,rfl⟩:=List.mem_map.1 hy;simp[writes,hd];rw[Gm];show _=st.jT _;rw[qY];cases o.dst<;>rfl;have h2:st2.take x=(v,st2.jT (oe st x)):=Prod.ext (by rw[(hr st2 ha).1,sX]) (hr st2 ha).2;simp only[cU,ho,vw,Fk,aY,bV,h2];show some ((st2.jT (oe st x)).put o.dst v)=some (st2.jT _);rw[qY];cases o.dst<;>rfl
theorem jm {α:Type}(l:au α)(i:Nat)(v:α)(t:Nat):nth (gG l i v) t=if i=t then(if i<l.length then some v else none) else nth l t:=by rw[dv,eJ,dv,bk]
theorem OT (l:au AV)(a:au (Nat×AV)):(jK l a).length=l.length:=by induction a generalizing l with|nil=>rfl|cons x a ih=>rw[jK,ih,eJ,aJ]
theorem Yp {l l2:au AV}(a:au (Nat×AV))(hl:l2.length=l.length)(t:Nat)(h:nth l2 t=nth l t):nth (jK l2 a) t=nth (jK l a) t:=by induction a generalizing l l2 with|nil=>exact h|cons x a ih=>refine ih (by rw[eJ,eJ,aJ,aJ,hl]) ?_;rw[jm,jm,hl,h]
theorem Yi (h:st2.get t=st.get t)(hl:st2.slots.length=st.slots.length):nth st2.slots t=nth st.slots t:=by unfold AS.get at h;rw[dv,dv]at h⊢;rcases bL t st.slots.length with gq|zX;rw[al gq,al (by omega)]at h⊢;simpa using h;rw[bE zX,bE (by omega)]
def jD (st:AS):au Operand->au (Nat×AV)
 |[]=>[]
 |x::xs=>oe st x++jD (st.jT (oe st x)) xs
theorem B4:∀(xs:au Operand)(st:AS),∀y∈jD st xs,y.1∈Qw xs
 |[],_,y,hy=>by cases hy
 |x::xs,st,y,hy=>by simp only[Qw,List.flatMap_cons,ay];rcases ay.1 hy with hy|hy;exact .inl (Kw y hy);exact .inr (B4 xs _ y hy)
theorem Db:∀(xs:au Operand)(st st2:AS),st2.ep=st.ep->st2.slots.length=st.slots.length->(∀t∈Qw xs,nth st2.slots t=nth st.slots t)->
 (ez st2 xs).1=(ez st xs).1/\(ez st2 xs).2=st2.jT (jD st xs)
 |[],st,st2,_,_,_=>⟨rfl,rfl⟩
 |x::xs,st,st2,xl,hl,hg=>by
  have hx:∀t∈tm x,st2.get t=st.get t:=λt ht=>by unfold AS.get;rw[hg t (by simp[Qw,ht])]
  obtain⟨h1,h2⟩:=E3 (st:=st) (st2:=st2) xl hx;have h3:=DS (st:=st) x;obtain⟨k1,k2⟩:=Db xs (st.jT (oe st x)) (st2.jT (oe st x)) xl (by simp only[AS.jT,OT,hl]) (λt ht=>Yp _ hl t (hg t (by simp only[Qw,List.flatMap_cons,ay];exact .inr ht)));have e1:ez st (x::xs)=((st.take x).1::(ez (st.take x).2 xs).1,(ez (st.take x).2 xs).2):=rfl;have e2:ez st2 (x::xs)=((st2.take x).1::(ez (st2.take x).2 xs).1,(ez (st2.take x).2 xs).2):=rfl;rw[e1,e2,h1,h2,h3];refine⟨by rw[k1],?_⟩;show(ez (st2.jT (oe st x)) xs).2=_;rw[k2,jD,qY]
theorem E2 (xs:au Operand):(ez st xs).2=st.jT (jD st xs):=(Db xs st st rfl rfl (λ_ _=>rfl)).2
theorem gz.ez (ha:gz an X o st st2){xs:au Operand}(hx:∀t∈Qw xs,t∈dj o):(ez st2 xs).1=(Dn.ez st xs).1/\(Dn.ez st2 xs).2=st2.jT (jD st xs):=Db xs st st2 ha.ep ha.len λt ht=>Yi (ha.get t (hx t ht)) ha.len
theorem Vp (ho:o.op=.build T parts)(h:CW E o T parts.toList st some=some st'):dH E Γ an X o st st':=by
 have hl:∀t∈Qw (parts.toList.map (·.2)),t∈dj o:=λt ht=>by simp only[dj,ho];exact ht
 unfold CW at h;split at h;rename_i ct jJ hT;split at h;rename_i vs st1 sX;have Gm:st1=st.jT (jD st (parts.toList.map (·.2))):=by rw[<-E2,sX]
 split at h;rename_i cs hb;cases h;refine⟨⟨jD st (parts.toList.map (·.2))++o.dst.toList.map λd=>(d,.val true cs),none,none⟩,⟨λy hy=>?_,λ_ hh=>(by cases hh),λ_ hh=>(by cases hh)⟩,?_,λst2 ha=>?_⟩;rcases ay.1 hy with hy|hy;have:=hl _ (B4 _ _ y hy);simp[writes,GS,ho,this];obtain⟨d,hd,rfl⟩:=List.mem_map.1 hy;simp[writes,hd];rw[Gm];show _=st.jT _;rw[qY];cases o.dst<;>rfl;obtain⟨k1,k2⟩:=ha.ez hl;have h2:ez st2 (parts.toList.map (·.2))=(vs,st2.jT (jD st (parts.toList.map (·.2)))):=Prod.ext (by rw[k1,sX]) k2;simp only[cU,ho,CW,hT,h2,hb];show some ((st2.jT _).put o.dst _)=some (st2.jT _);rw[qY];cases o.dst<;>rfl;cases h;cases h
theorem dH.ahH {v:AV}(ht:GS an o=true)(hl:∀y∈tl,y.1∈dj o)(h:st'=((st.jT tl).eX o.dst).put o.dst v)(h2:∀st2,gz an X o st st2->cU E Γ an o st2 some=some (((st2.jT tl).eX o.dst).put o.dst v)):dH E Γ an X o st st':=by
 have key:∀s:AS,(⟨tl++o.dst.toList.map λd=>(d,v),none,o.dst⟩:KD).apply s=((s.jT tl).eX o.dst).put o.dst v:=by intro s;cases o.dst with|none=>simp only[KD.apply,Option.toList,List.map_nil,br,AS.jT,AS.eX,AS.put]|some d=>simp only[KD.apply,Option.toList,List.map_cons,List.map_nil,C5,AS.jT,AS.eX,AS.put,jK]
 refine⟨⟨tl++o.dst.toList.map λd=>(d,v),none,o.dst⟩,⟨λy hy=>?_,λ_ hh=>(by cases hh),λd hh=>hh⟩,by rw[key];exact h,λst2 ha=>by rw[key];exact h2 st2 ha⟩;rcases ay.1 hy with hy|hy;simp[writes,ht,hl y hy];obtain⟨d,hd,rfl⟩:=List.mem_map.1 hy;simp[writes,hd]
theorem AX {d:aw Nat}:(st.jT tl).gV d=st.gV d:=rfl
theorem K7 {len:Nat}(ho:o.op=.buildSlice T len parts)(h:lE E o T len parts.toList st some=some st'):dH E Γ an X o st st':=by
 have hl:∀t∈Qw (parts.toList.map (·.2)),t∈dj o:=λt ht=>by simp only[dj,ho];exact ht
 unfold lE at h;split at h;rename_i e hT;split at h;rename_i hc;split at h;rename_i vs st1 sX;have Gm:st1=st.jT (jD st (parts.toList.map (·.2))):=by rw[<-E2,sX]
 split at h;rename_i xs hb;cases h;refine dH.ahH (tl:=jD st (parts.toList.map (·.2))) (v:=.one (.sl (.own (st.gV o.dst 0)) e xs)) (by simp[GS,ho]) (λy hy=>hl _ (B4 _ _ y hy)) ?_ λst2 ha=>?_;rw[Gm,AS.pH,AX];obtain⟨k1,k2⟩:=ha.ez hl;have h2:ez st2 (parts.toList.map (·.2))=(vs,st2.jT (jD st (parts.toList.map (·.2)))):=Prod.ext (by rw[k1,sX]) k2;simp only[cU,ho,lE,hT,h2,hb,aF hc];rw[AS.pH,AX,ha.gV];cases h;cases h;cases h
theorem MJ {n c:Operand}(ho:o.op=.makeSlice T n c)(h:oy E o T n c st some=some st'):dH E Γ an X o st st':=by
 have hr:∀st2,gz an X o st st2->st2.rd n=st.rd n/\st2.rd c=st.rd c:=λst2 ha=>
  ⟨ha.rd (λt ht=>by simp[dj,ho,ht]),ha.rd (λt ht=>by simp[dj,ho,ht])⟩
 unfold oy at h;split at h;rename_i e len cap hT hn hc;split at h;rename_i hlc;unfold room at h;split at h;rename_i hrm;cases h;refine dH.new (v:=.one (.sl (.own (st.gV o.dst 0)) e (List.replicate len.toNat e.zero))) rfl λst2 ha=>?_;simp only[cU,ho,oy,(hr st2 ha).1,(hr st2 ha).2,hT,hn,hc,aF hlc,room,aF hrm,AS.pH,ha.gV];cases h;cases h;cases h
theorem S7 (ho:o.op=.call {callee:=.builtin .append,args,argTypes:=ts})(h:xL E o ts.toList args.toList st some=some st'):dH E Γ an X o st st':=by
 have WL:∀t∈Qw args.toList,t∈dj o:=λt ht=>by simp only[dj,ho];exact ht
 unfold xL at h;split at h;rename_i t t' s x qH eP;have hl:∀u∈Qw [s,x],u∈dj o:=by rw[<-eP];exact WL
 have agt:∀st2,gz an X o st st2->(st2.take s).1=(st.take s).1/\((st2.take s).2.take x).1=((st.take s).2.take x).1/\((st2.take s).2.take x).2=st2.jT (jD st [s,x]):=by intro st2 ha;obtain⟨k1,k2⟩:=ha.ez hl;simp only[Dn.ez,List.cons.injEq,gR]at k1 k2;exact⟨k1.1,k1.2,k2⟩
 have Cm:((st.take s).2.take x).2=st.jT (jD st [s,x]):=E2 (st:=st) [s,x];split at h;rename_i tag e xs st1 SN;split at h;rename_i fl e' ys ahC Jv;split at h;rename_i he;subst he;split at h;rename_i hc;unfold room at h;split at h;rename_i hrm;cases h;have Gm:(st.take s).2=st1:=by rw[SN]
 have SM:ahC=st.jT (jD st [s,x]):=by rw[<-Cm,Gm,Jv]
 refine dH.ahH (tl:=jD st [s,x]) (v:=.one (.sl (.own (st.gV o.dst 0)) e' (xs++ys))) (by simp[GS,ho]) (λy hy=>hl _ (B4 _ _ y hy)) ?_ λst2 ha=>?_;rw[SM,AS.pH,AX];obtain⟨k1,k2,k3⟩:=agt st2 ha;have e1:st2.take s=(.val false [.sl (.own tag) e' xs],(st2.take s).2):=Prod.ext (by rw[k1,SN]) rfl;have e2:(st2.take s).2.take x=(.val false [.sl fl e' ys],st2.jT (jD st [s,x])):=Prod.ext (by rw[k2,Gm,Jv]) k3;simp only[cU,ho,xL,qH,eP];rw[e1];simp only;rw[e2];simp only[dite_true,ha.ep,aF hc,room,aF hrm,AS.pH,AX,ha.gV];cases h;cases h;cases h;rename_i sx ahC Jv;split at h;rename_i he;subst he;split at h;rename_i hc;unfold room at h;split at h;rename_i hrm;cases h;have Gm:(st.take s).2=st1:=by rw[SN]
 have SM:ahC=st.jT (jD st [s,x]):=by rw[<-Cm,Gm,Jv]
 refine dH.ahH (tl:=jD st [s,x]) (v:=.one (.sl (.own (st.gV o.dst 0)) (.int .u8) (xs++dc sx))) (by simp[GS,ho]) (λy hy=>hl _ (B4 _ _ y hy)) ?_ λst2 ha=>?_;rw[SM,AS.pH,AX];obtain⟨k1,k2,k3⟩:=agt st2 ha;have e1:st2.take s=(.val false [.sl (.own tag) (.int .u8) xs],(st2.take s).2):=Prod.ext (by rw[k1,SN]) rfl;have e2:(st2.take s).2.take x=(.val false [.str sx],st2.jT (jD st [s,x])):=Prod.ext (by rw[k2,Gm,Jv]) k3;simp only[cU,ho,xL,qH,eP];rw[e1];simp only;rw[e2];simp only[dite_true,aF hc,room,aF hrm,AS.pH,AX,ha.gV];cases h;cases h;cases h;cases h;cases h;cases h
theorem abq (ho:o.op=.box T x)(h:Sg o x st some=some st'):dH E Γ an X o st st':=by
 have hr:∀st2,gz an X o st st2->(st2.take x).1=(st.take x).1/\(st2.take x).2=st2.jT (oe st x):=λst2 ha=>E3 ha.ep λt ht=>ha.get t (by simpa[dj,ho]using ht);unfold Sg at h;split at h;rename_i d g cs st1 hd sX;have Gm:st1=st.jT (oe st x):=by rw[<-DS,sX]
 split at h;rename_i hb;split at h;rename_i hs;cases h;have TU:nth st.boxes d=some none:=by rw[Gm]at hb;exact hb
 have key:∀s:AS,(⟨oe st x++[(d,.one (.ptr d 0))],some (d,cs),none⟩:KD).apply s=((s.jT (oe st x)).ed d (some cs)).put (some d) (.one (.ptr d 0)):=by intro s;simp only[KD.apply,C5,AS.jT,AS.ed,AS.put,jK]
 refine⟨⟨oe st x++[(d,.one (.ptr d 0))],some (d,cs),none⟩,⟨λy hy=>?_,λb gn=>?_,λ_ hh=>(by cases hh)⟩,?_,λst2 ha=>?_⟩;rcases ay.1 hy with hy|hy;have:=Kw y hy;simp[writes,GS,ho,dj,this];simp only[eu]at hy;subst hy;simp[writes,hd];cases gn;simp[GV,ho,hd];rw[key,Gm,hd];have h2:st2.take x=(.val g cs,st2.jT (oe st x)):=Prod.ext (by rw[(hr st2 ha).1,sX]) (hr st2 ha).2;have FN:nth (st2.jT (oe st x)).boxes d=some none:=by show nth st2.boxes d=_;rw[(ha.dst d hd).2];exact TU
 simp only[cU,ho,Sg,hd,h2,FN,aF hs,key];cases h;cases h;cases h
theorem Pk (zw:∀f,(Γ f).io=false/\((Γ f).bx=true->(Γ f).cur=true)/\(Γ f).pr=false)(hm:nB an o=true)(fP:dg E an X o st=true)(h:cU E Γ an o st some=some st'):dH E Γ an X o st st':=by
 have h0:=h;unfold cU at h;split at h;rename_i ho;exact Yd ho h;rename_i ho;have Fk:Bu an o=false:=by simpa[nB,ho]using hm
 rw[aE (by simp[Fk])]at h;exact S8 ho hm h;rename_i ho;exact Ye ho h;rename_i ho;exact Vo ho h;rename_i ho;exact abq ho h;rename_i ho;exact Yc ho hm fP h;rename_i T p x ho;split at h;rename_i hd;cases p with
 |tmp pp=>
  have Fk:Bu an o=false:=by simp only[nB,ho,ah,aO]at hm;exact hm.2
  rw[aE (by simp[Fk])]at h;exact Vt ho hd hm fP h
 |const v=>simp[nB,ho]at hm
 |func f=>simp[nB,ho]at hm
 |global g=>simp[nB,ho]at hm
 cases h;rename_i ho;exact OE ho h0;rename_i ho;exact abp ho h;rename_i ho;exact ad7 ho h;rename_i ho;exact Vq ho h;rename_i ho;exact MI ho fP h;rename_i ho;exact Vr ho h;rename_i ho;exact Vp ho h;rename_i ho;exact K7 ho h;rename_i ho;exact MJ ho h;rename_i ho;exact Vs ho hm fP h;rename_i ho;simp[nB,ho]at hm;rename_i ho;simp[nB,ho]at hm;rename_i ho;exact Qf ho h;rename_i ho;exact Qg ho fP h;rename_i ho;exact abr ho h;rename_i ho;exact abu ho h;rename_i ho;exact abt ho h;rename_i ho;exact S7 ho h;rename_i ho;exact Yb zw ho fP h;cases h
end Go.Dn
