import Derived.Test.YtgbaemfepmabgaaGreatDnMask
/- What an operation looks at and what it turns: for regions whose order is drawn. -/
namespace Go.Dn
structure GB where
 slots:List (Nat×AV):=[]
 box:Option (Nat×List AC):=none
 iss:Option Nat:=none
def jq (l:au AV):au (Nat×AV)->au AV
 |[]=>l
 |x::r=>jq (gM l x.1 x.2) r
def GB.apply (u:GB)(st:AS):AS:=
 ⟨jq st.slots u.slots,(match u.box with|some b=>gM st.boxes b.1 (some b.2)|none=>st.boxes),st.ep,(match u.iss with|some d=>gM st.iss d true|none=>st.iss),st.io⟩
structure gB (an:An) (X:List Nat) (o:Oper) (st st2:AS):Prop where
 len:st2.slots.length=st.slots.length
 get:∀t∈dD o,st2.get t=st.get t
 ep:st2.ep=st.ep
 dst:∀d,o.dst=some d->nth st2.iss d=nth st.iss d/\nth st2.boxes d=nth st.boxes d
 box:∀s,X.contains s=false->nth st2.boxes s=nth st.boxes s
 er:∀t∈erS an o,st2.get t=st.get t
structure GB.D9 (an:An) (u:GB) (o:Oper):Prop where
 slots:∀x∈u.slots,x.1∈writes an o
 box:∀b,u.box=some b->b.1∈CV an o
 iss:∀d,u.iss=some d->o.dst=some d
variable {E:Env} {Γ:dm} {an:An} {X:eG} {o:Oper} {st st2 st':AS}
variable {v:AV} {parts:Array (Nat×Operand)} {args:Array Operand} {ts:Array TypeId} {t:Nat} {f p x:Operand} {T:TypeId} {tl:au (Nat×AV)} {cs:au AC}
theorem adC (hep:st2.ep=st.ep)(h:∀t∈tm x,st2.get t=st.get t):st2.rd x=st.rd x:=by cases x with|tmp t=>simp only[AS.rd,hep,h t (by simp[tm])]|const v=>rfl|func f=>rfl|global g=>rfl
def dX (E:Env)(Γ:dm)(an:An)(X:eG)(o:Oper)(st st':AS):Prop:=
 ∃u:GB,u.D9 an o/\st'=u.apply st/\∀st2,gB an X o st st2->cG E Γ an o st2 some=some (u.apply st2)
def Bs (o:Oper)(v:AV):GB:={slots:=o.dst.toList.map λd=>(d,v)}
theorem qV (v:AV):(Bs o v).apply st=st.put o.dst v:=by unfold Bs GB.apply AS.put;cases o.dst<;>rfl
theorem zX (v:AV):(Bs o v).D9 an o:=by refine⟨λx hx=>?_,λb hb=>by simp[Bs]at hb,λd hd=>by simp[Bs]at hd⟩;simp only[Bs,dP]at hx;obtain⟨d,hd,rfl⟩:=hx;simp[writes,hd]
def EP (o:Oper)(v:AV):GB:={slots:=o.dst.toList.map λd=>(d,v),iss:=o.dst}
theorem Gx (v:AV):(EP o v).apply st=(st.e9 o.dst).put o.dst v:=by unfold EP GB.apply AS.put AS.e9;cases o.dst<;>rfl
theorem MW (v:AV):(EP o v).D9 an o:=by refine⟨λx hx=>?_,λb hb=>by simp[EP]at hb,λd hd=>by simpa[EP]using hd⟩;simp only[EP,dP]at hx;obtain⟨d,hd,rfl⟩:=hx;simp[writes,hd]
theorem dX.put (h:st'=st.put o.dst v)(h2:∀st2,gB an X o st st2->cG E Γ an o st2 some=some (st2.put o.dst v)):dX E Γ an X o st st':=⟨Bs o v,zX v,by rw[qV];exact h,λst2 ha=>by rw[qV];exact h2 st2 ha⟩
theorem gB.rd (ha:gB an X o st st2)(hx:∀t∈tm x,t∈dD o):st2.rd x=st.rd x:=adC ha.ep λt ht=>ha.get t (hx t ht)
theorem Wz {c y:Operand}(ho:o.op=.pick c x y)(h:Cx o c x y st some=some st'):dX E Γ an X o st st':=by
 have hr:∀st2,gB an X o st st2->st2.rd c=st.rd c/\st2.rd x=st.rd x/\st2.rd y=st.rd y:=λst2 ha=>
  ⟨ha.rd (λt ht=>by simp[dD,ho,ht]),ha.rd (λt ht=>by simp[dD,ho,ht]),ha.rd (λt ht=>by simp[dD,ho,ht])⟩
 unfold Cx at h;split at h;rename_i t hc;split at h;rename_i a b hx hy;cases h;refine dX.put rfl λst2 ha=>?_;obtain⟨h1,h2,h3⟩:=hr st2 ha;simp only[cG,ho,Cx,h1,h2,h3,hc,hx,hy];rename_i va vb hno;have hgo:∀st2,gB an X o st st2->cG E Γ an o st2 some=cond t (some (st2.put o.dst (st.rd x))) (some (st2.put o.dst (st.rd y))):=by intro st2 ha;obtain⟨h1,h2,h3⟩:=hr st2 ha;simp only[cG,ho,Cx,h1,h2,h3,hc]
 cases t with|true=>cases h;exact dX.put rfl λst2 ha=>hgo st2 ha|false=>cases h;exact dX.put rfl λst2 ha=>hgo st2 ha
 cases h
theorem Lb {d s:Nat}:(⟨[(d,v)],some (s,cs),none⟩:GB).apply st=(st.eu s (some cs)).put (some d) v:=rfl
theorem Ov {o:Oper}(h:CP an o=true):∃T q d,o.op=.load T (.tmp q)/\o.dst=some d/\o.guard=none/\an.mv.contains d=true/\an.mb d=none:=by unfold CP at h;split at h;rename_i T q d ho hd hg;simp only[ae,Option.isNone_iff_eq_none]at h;exact⟨T,q,d,ho,hd,hg,h.1.1,h.1.2⟩;cases h
def Gu (st:AS)(b j t:Nat)(e:CT)(i:Int)(cs:au AC)(ys:au e.D):AS:=st.eu b (some (gM cs j (.sl (.holed (some t) i (some st.ep)) e ys)))
theorem L8 {q d:Nat}(ht:CP an o=true)(ho:o.op=.load T (.tmp q))(hd:o.dst=some d)(hmv:an.mv.contains d=true)(hmb:an.mb d=none):(dv E an X o st=true/\n9 E an o T (.tmp q) st some=some st')↔ ∃(g:Bool)(e:CT)(offs:au (Nat×Nat))(b j t ep0:Nat)(x:e.D)(i:Int)(cs:au AC)(ys:au e.D)(y:e.D),iI E.ty T=some ⟨g,e,offs⟩/\st.rd (.tmp q)=.val false [.elt (.loc ep0 (some (.box b j,t))) e x i 0]/\(nth st.boxes b).getD none=some cs/\nth cs j=some (.sl (.own (some t)) e ys)/\idx ys i=some y/\ X.contains b=false/\an.eb q=some b/\UW an o=false/\st'=(Gu st b j t e i cs ys).put (some d) (.val g (cellsOf e (.own none) y)):=by
 have htk:CS an o=true:=by unfold CS;rw[hd];simp only[hmv,hmb];rfl
 have hnl:zW an o=false:=by unfold zW;split;rename_i hd' _;rw[hd]at hd';cases hd';rw[hmb];simp;rfl
 have hnp:zn an o=false:=by unfold zn;split;rename_i hd' _;rw[hd]at hd';cases hd';rw[hmv];rfl;rfl
 constructor;rintro⟨hf,h⟩;unfold n9 at h;split at h;rename_i hp;simp only[dv,ho,hp,hd,hmv,hmb]at hf;simp at hf;rename_i sh fl e x i off hT hp;rw[aF htk]at h;simp only[dv,ho,hp,ht,hnl,hnp,Bool.or_false,br,aj,cz,fi,ae,aH]at hf;obtain⟨⟨hl0,hfm⟩,hb⟩:=hf;unfold wJ at h;split at h;rename_i ep0 r t;cases r with
 |slot _ _=>cases hb
 |io _=>cases hb
 |box b j=>
  simp only[ae,bh,aH]at hb;split at h;rename_i t' e' ys hrg;split at h;rename_i he;subst he;split at h;rename_i hc;obtain⟨rfl,rfl,hct⟩:=hc;obtain⟨g,ct,offs⟩:=sh;simp only at hct;subst hct;cases hi:idx ys i with|none=>simp only[hi,aa]at h;cases h|some y=>simp only[hi,aa]at h;cases h;simp only[AS.eL]at hrg;obtain⟨cs,hcs,hj⟩:=aQ.1 hrg;refine⟨g,_,offs,b,j,_,ep0,x,i,cs,ys,y,hT,hp,hcs,hj,hi,hb.2,hb.1,hfm,?_⟩;simp only[AS.eQ,hcs,hd];rfl
  cases h;cases h;cases h
 cases h;cases h;rintro⟨g,e,offs,b,j,t,ep0,x,i,cs,ys,y,hT,hp,hcs,hj,hi,hX,heb,hfm,rfl⟩;constructor;simp only[dv,ho,hp,ht,hnl,hnp,hfm,hX,heb];simp;simp only[n9,hT,hp,htk,bT,wJ,AS.eL,hcs,ed,hj,dite_true,and_self,hi,aa,AS.eQ,hd];rfl
theorem TM (ht:CP an o=true)(ho:o.op=.load T p)(hfree:dv E an X o st=true)(h:n9 E an o T p st some=some st'):dX E Γ an X o st st':=by obtain⟨T',q,d,ho',hd,hg,hmv,hmb⟩:=Ov ht;rw[ho]at ho';cases ho';obtain⟨g,e,offs,b,j,t,ep0,x,i,cs,ys,y,hT,hp,hcs,hj,hi,hX,heb,hfm,rfl⟩:=(L8 ht ho hd hmv hmb).1 ⟨hfree,h⟩;refine⟨⟨[(d,.val g (cellsOf e (.own none) y))],some (b,gM cs j (.sl (.holed (some t) i (some st.ep)) e ys)),none⟩,⟨λx hx=>?_,λb' hb'=>?_,λ_ hh=>by cases hh⟩,rfl,λst2 ha=>?_⟩;simp only[bu]at hx;subst hx;simp[writes,hd];cases hb';simp only[CV,ho,hd,hmv,ah,ht,heb];simp;have h2:=((L8 (E:=E) (X:=X) (st:=st2) ht ho hd hmv hmb).2 ⟨g,e,offs,b,j,t,ep0,x,i,cs,ys,y,hT,by rw[ha.rd (λt ht=>by simpa[dD,ho]using ht)];exact hp,by rw[ha.box b hX];exact hcs,hj,hi,hX,heb,hfm,rfl⟩).2;simp only[cG,ho];rw[h2];simp only[Gu,ha.ep];rfl
theorem Wx (ho:o.op=.load T p)(hm:mJ an o=true)(hfree:dv E an X o st=true)(h:n9 E an o T p st some=some st'):dX E Γ an X o st st':=by
 cases hE:CP an o with|true=>exact TM hE ho hfree h|false=> ?_
 have hr:∀st2,gB an X o st st2->st2.rd p=st.rd p:=λst2 ha=>ha.rd (λt ht=>by simpa[dD,ho]using ht);have htk:CS an o=false:=by simp only[mJ,ho,hE,Bool.or_false]at hm;unfold CS;cases hdd:o.dst with|none=>rfl|some d=>rw[hdd]at hm;simp only[cB,aH]at hm;rcases hm with hm|hm;simp only[hm,dw];cases hmb:an.mb d with|none=>rw[hmb]at hm;cases hm|some _=>simp[hmb]
 unfold n9 at h;split at h;rename_i sh s off hT hp;simp only[dv,ho,hp,ae,aH]at hfree;split at h;rename_i cs hb;split at h;rename_i hfit;split at h;rename_i d hd;have hbx:∀st2,gB an X o st st2->nth st2.boxes s=nth st.boxes s:=λst2 ha=>ha.box s hfree.1.1;cases hf:an.mv.contains d with
 |false=>simp only[hf,bf,cd]at h;cases h;refine dX.put (by rw[hd]) λst2 ha=>?_;simp only[cG,ho,n9,hT,hr st2 ha,hp,hbx st2 ha,hb,aF hfit,hd,hf,bf,cd,ha.ep]
 |true=>
  simp only[hf,bT]at h;have hmb:an.mb d=some s:=by have:=hfree.1.2;rw[hd]at this;simp only[hf,aj,cz,bh]at this;exact this
  cases h;refine⟨⟨[(d,.val sh.agg ((cs.drop off).take sh.ct.size))],some (s,dY cs off (aX st.ep ((cs.drop off).take sh.ct.size))),none⟩,⟨λx hx=>?_,λb hb'=>?_,λ_ hh=>by cases hh⟩,?_,λst2 ha=>?_⟩;simp only[bu]at hx;subst hx;simp[writes,hd];cases hb';simp only[CV,ho,hd,hf,ah,hmb];simp;rw[Lb,hd];simp only[cG,ho,n9,hT,hr st2 ha,hp,hbx st2 ha,hb,aF hfit,hd,hf,bT,ha.ep,Lb]
 cases h;cases h;cases h;rename_i sh fl e x i off hT hp;rw[aD (by simp[htk])]at h;split at h;rename_i hl;split at h;rename_i hfit;cases h;refine dX.put rfl λst2 ha=>?_;simp only[cG,ho,n9,hT,hr st2 ha,hp,ha.ep,htk,bf,cd,aF hl,aF hfit];cases h;rename_i hl;have hroot:∀r t ep0,fl=.loc ep0 (some (r,t))->∀st2,gB an X o st st2->st2.eL r=st.eL r:=by rintro r t ep0 rfl st2 ha;simp only[dv,ho,hp,hE,br,gI,fi,ae,cB]at hfree;rcases hfree.1.1 with hq|hq;exact absurd hq hl;cases r with|slot b j=>simp only[AS.eL];rw[ha.er b (by simpa using hq)]|box b j=>simp only[AS.eL];rw[ha.box b (by simpa using hq)]|io j=>cases hq
 unfold Bi at h;split at h;rename_i ep0 r t;split at h;rename_i t' e' ys hrg;split at h;rename_i he;split at h;rename_i hc;cases hi:idx (he▸ys:List _) i with|none=>rw[hi]at h;cases h|some y=>rw[hi]at h;simp only[aa]at h;cases h;refine dX.put rfl λst2 ha=>?_;simp only[cG,ho,n9,hT,hr st2 ha,hp,ha.ep,htk,bf,cd,aD hl,Bi,hroot _ _ _ rfl st2 ha,hrg,dif_pos he,aF hc,hi,aa]
 cases h;cases h;cases h;cases h;cases h
theorem Lg (ho:o.op=.nilCheck x)(h:cG E Γ an o st some=some st'):dX E Γ an X o st st':=by have hr:∀st2,gB an X o st st2->st2.rd x=st.rd x:=λst2 ha=>ha.rd (λt ht=>by simpa[dD,ho]using ht);simp only[cG,ho]at h;split at h;rename_i s off hx;cases h;refine dX.put rfl λst2 ha=>?_;simp only[cG,ho,hr st2 ha,hx];rename_i fl e y i off hx;cases h;refine dX.put rfl λst2 ha=>?_;simp only[cG,ho,hr st2 ha,hx];cases h
theorem Mf {op:BinOp}{x y:AV}(h:(Dw op x y λc=>some (st.put o.dst (.one c)))=some st'):∃v,st'=st.put o.dst v/\∀st2:AS,(Dw op x y λc=>some (st2.put o.dst (.one c)))=some (st2.put o.dst v):=by have key:∀s:AS,(Dw op x y λc=>some (s.put o.dst (.one c)))=(Dw op x y some).bind λc=>some (s.put o.dst (.one c)):=λs=>(C2 op x y some _).symm;rw[key st]at h;cases hb:Dw op x y some with|none=>rw[hb]at h;cases h|some c=>rw[hb]at h;cases h;exact⟨_,rfl,λst2=>by rw[key st2,hb];rfl⟩
theorem Oy {op:BinOp}{b:Bool}(h:(BG op b λc=>some (st.put o.dst (.one c)))=some st'):∃v,st'=st.put o.dst v/\∀st2:AS,(BG op b λc=>some (st2.put o.dst (.one c)))=some (st2.put o.dst v):=by unfold BG at h;split at h;cases h;exact⟨_,rfl,λst2=>rfl⟩;cases h;exact⟨_,rfl,λst2=>rfl⟩;cases h
theorem aaB {op:BinOp}{T':TypeId}{y:Operand}(ho:o.op=.binOp op T x y T')(h:yQ E o op T x y st some=some st'):dX E Γ an X o st st':=by
 have hr:∀st2,gB an X o st st2->st2.rd x=st.rd x/\st2.rd y=st.rd y:=λst2 ha=>
  ⟨ha.rd (λt ht=>by simp[dD,ho,ht]),ha.rd (λt ht=>by simp[dD,ho,ht])⟩
 unfold yQ at h;split at h;rename_i a b hx hy;split at h;rename_i hT;obtain⟨v,rfl,hv⟩:=Mf h;refine dX.put rfl λst2 ha=>?_;simp only[cG,ho,yQ,(hr st2 ha).1,(hr st2 ha).2,hx,hy,aF hT];exact hv st2;cases h;rename_i xs ys hx hy;split at h;rename_i ls hq;split at h;rename_i hfit;obtain⟨v,rfl,hv⟩:=Mf h;refine dX.put rfl λst2 ha=>?_;simp only[cG,ho,yQ,(hr st2 ha).1,(hr st2 ha).2,hx,hy,hq,aF hfit];exact hv st2;cases h;cases h;rename_i fl e xs hx hy;split at h;rename_i hT;split at h;cases h;rename_i hlen;obtain⟨v,rfl,hv⟩:=Oy h;refine dX.put rfl λst2 ha=>?_;simp only[cG,ho,yQ,(hr st2 ha).1,(hr st2 ha).2,hx,hy,ha.ep,aF hT,aD hlen];exact hv st2;cases h;rename_i hx hy;split at h;rename_i hT;obtain⟨v,rfl,hv⟩:=Oy h;refine dX.put rfl λst2 ha=>?_;simp only[cG,ho,yQ,(hr st2 ha).1,(hr st2 ha).2,hx,hy,aF hT];exact hv st2;cases h;rename_i a b hn1 hn2 hn3 hn4;obtain⟨v,rfl,hv⟩:=Mf h;refine dX.put rfl λst2 ha=>?_;simp only[cG,ho,yQ,(hr st2 ha).1,(hr st2 ha).2];exact hv st2
theorem adi {op:UnOp}(ho:o.op=.unOp op T x)(h:(unC op (st.rd x) λc=>some (st.put o.dst (.one c)))=some st'):dX E Γ an X o st st':=by have hr:∀st2,gB an X o st st2->st2.rd x=st.rd x:=λst2 ha=>ha.rd (λt ht=>by simpa[dD,ho]using ht);have key:∀s:AS,(unC op (st.rd x) λc=>some (s.put o.dst (.one c)))=(unC op (st.rd x) some).bind λc=>some (s.put o.dst (.one c)):=λs=>(UR op (st.rd x) some _).symm;rw[key st]at h;cases hb:unC op (st.rd x) some with|none=>rw[hb]at h;cases h|some c=>rw[hb]at h;cases h;refine dX.put rfl λst2 ha=>?_;simp only[cG,ho,hr st2 ha];rw[key st2,hb];rfl
theorem TI {S:TypeId}{f:Nat}(ho:o.op=.fieldAddr S p f)(h:ya E o S p f st some=some st'):dX E Γ an X o st st':=by have hr:∀st2,gB an X o st st2->st2.rd p=st.rd p:=λst2 ha=>ha.rd (λt ht=>by simpa[dD,ho]using ht);unfold ya at h;split at h;rename_i hT hp;split at h;rename_i hf;cases h;refine dX.put rfl λst2 ha=>?_;simp only[cG,ho,ya,hr st2 ha,hT,hp,hf];cases h;rename_i hT hp;split at h;rename_i hf;cases h;refine dX.put rfl λst2 ha=>?_;simp only[cG,ho,ya,hr st2 ha,hT,hp,hf];cases h;cases h
theorem xM {s:AS}(h:v.now s.ep=true):v.fresh s=v:=by
 cases v with
 |tup vs=>rfl
 |val g cs=>
  simp only[AV.now,aC]at h;simp only[AV.fresh];congr 1;have:cs.map s.fresh=cs.map id:=List.map_congr_left λc hc=>by have hn:=h c hc;unfold AS.fresh;split;simp only[AC.now]at hn;rw[hn];rfl;rfl
  rw[this,List.map_id]
theorem Sf {st st2:AS}(he:st2.ep=st.ep)(h:v.now st.ep=true\/∃g ep b j t e xs,v=.val g [.sl (.loc ep (some (.box b j,t))) e xs]/\nth st2.boxes b=nth st.boxes b):v.fresh st2=v.fresh st:=by rcases h with h|⟨g,ep,b,j,t,e,xs,rfl,hb⟩;rw[xM h,xM (by rw[he];exact h)];simp only[AV.fresh,cS,List.map_nil];congr 2;unfold AS.fresh;simp only[AS.eL,he,hb]
theorem I1 {i:Operand}(ho:o.op=.indexAddr T x i)(hfree:dv E an X o st=true)(h:lM E o T x i st some=some st'):dX E Γ an X o st st':=by
 have hr:∀st2,gB an X o st st2->st2.rd x=st.rd x/\st2.rd i=st.rd i:=λst2 ha=>
  ⟨ha.rd (λt ht=>by simp[dD,ho,ht]),ha.rd (λt ht=>by simp[dD,ho,ht])⟩
 have hf2:∀st2,gB an X o st st2->(st.rd x).fresh st2=(st.rd x).fresh st:=λst2 ha=>by refine Sf ha.ep ?_;simp only[dv,ho,cB]at hfree;rcases hfree with hn|hn;exact .inl hn;split at hn;rename_i g ep b j t e xs hx;exact .inr ⟨g,ep,b,j,t,e,xs,hx,ha.box b (by simpa using hn)⟩;cases hn
 unfold lM at h;split at h;rename_i e' fl e xs k n hT hx hi;split at h;rename_i hc;cases hix:idx xs n with|none=>rw[hix]at h;cases h|some y=>rw[hix]at h;cases h;refine dX.put rfl λst2 ha=>?_;have hf3:=hf2 st2 ha;rw[hx]at hf3;simp only[cG,ho,lM,(hr st2 ha).1,(hr st2 ha).2,hf3,hT,hi,ha.ep,aF hc,hix,aa]
 cases h;cases h
theorem TJ {i:Operand}(ho:o.op=.index T x i)(h:zO E o T x i st some=some st'):dX E Γ an X o st st':=by
 have hr:∀st2,gB an X o st st2->st2.rd x=st.rd x/\st2.rd i=st.rd i:=λst2 ha=>
  ⟨ha.rd (λt ht=>by simp[dD,ho,ht]),ha.rd (λt ht=>by simp[dD,ho,ht])⟩
 unfold zO at h;split at h;rename_i s k n hx hi;split at h;rename_i hc;cases hix:idx s n with|none=>rw[hix]at h;cases h|some y=>rw[hix]at h;cases h;refine dX.put rfl λst2 ha=>?_;simp only[cG,ho,zO,(hr st2 ha).1,(hr st2 ha).2,hx,hi,aF hc,hix,aa]
 cases h;cases h
theorem dX.new (h:st'=(st.e9 o.dst).put o.dst v)(h2:∀st2,gB an X o st st2->cG E Γ an o st2 some=some ((st2.e9 o.dst).put o.dst v)):dX E Γ an X o st st':=⟨EP o v,MW v,by rw[Gx];exact h,λst2 ha=>by rw[Gx];exact h2 st2 ha⟩
theorem gB.gQ (ha:gB an X o st st2):st2.gQ o.dst=st.gQ o.dst:=by funext j;cases hd:o.dst with|none=>rfl|some d=>simp only[AS.gQ,(ha.dst d hd).1]
theorem FW {lo hi:aw Operand}{n:Nat}{f:AS->Int->Int->aw AS}(hs:∀st2,gB an X o st st2->lo.map st2.rd=lo.map st.rd/\hi.map st2.rd=hi.map st.rd)(h:lW st lo hi n (f st)=some st'):∃a b,f st a b=some st'/\∀st2,gB an X o st st2->lW st2 lo hi n (f st2)=f st2 a b:=by unfold lW at h;split at h;rename_i h1 h2;exact⟨_,_,h,λst2 ha=>by simp only[lW,(hs st2 ha).1,(hs st2 ha).2,h1,h2]⟩;rename_i h1 h2;exact⟨_,_,h,λst2 ha=>by simp only[lW,(hs st2 ha).1,(hs st2 ha).2,h1,h2]⟩;rename_i h1 h2;exact⟨_,_,h,λst2 ha=>by simp only[lW,(hs st2 ha).1,(hs st2 ha).2,h1,h2]⟩;rename_i h1 h2;exact⟨_,_,h,λst2 ha=>by simp only[lW,(hs st2 ha).1,(hs st2 ha).2,h1,h2]⟩;cases h
theorem TK {lo hi:aw Operand}(ho:o.op=.slice T x lo hi none)(hm:mJ an o=true)(hfree:dv E an X o st=true)(h:yy E an o T x lo hi st some=some st'):dX E Γ an X o st st':=by
 have hr:∀st2,gB an X o st st2->st2.rd x=st.rd x:=λst2 ha=>ha.rd (λt ht=>by simp[dD,ho,ht]);have hb:∀st2,gB an X o st st2->lo.map st2.rd=lo.map st.rd/\hi.map st2.rd=hi.map st.rd:=by
  intro st2 ha;constructor;cases lo with|none=>rfl|some y=>simp only[db];rw[ha.rd (λt ht=>by simp[dD,ho,tmO,ht])]
  cases hi with|none=>rfl|some y=>simp only[db];rw[ha.rd (λt ht=>by simp[dD,ho,tmO,ht])]
 have hnow:(st.rd x).now st.ep=true:=by simpa[dv,ho]using hfree
 have hf2:∀st2,gB an X o st st2->(st.rd x).fresh st2=st.rd x:=λst2 ha=>xM (by rw[ha.ep];exact hnow);have htk:CS an o=false:=by simpa[mJ,ho]using hm
 unfold yy at h;rw[aD (by simp[htk]),xM hnow]at h;split at h;rename_i s hx;split at h;rename_i hT;obtain⟨a,b,h1,h2⟩:=FW (f:=λs0 a b=>aa (sub s a b) λs'=>some (s0.put o.dst (.one (.str s')))) hb h;cases hsub:sub s a b with|none=>rw[hsub]at h1;cases h1|some s'=>rw[hsub]at h1;cases h1;refine dX.put rfl λst2 ha=>?_;have hf3:=hf2 st2 ha;rw[hx]at hf3;simp only[cG,ho,yy,htk,bf,cd,hr st2 ha,hx,hf3,aF hT];rw[h2 st2 ha,hsub];rfl
 cases h;rename_i fl e xs hx;split at h;rename_i hT;obtain⟨a,b,h1,h2⟩:=FW (f:=λs0 a b=>aa (sub xs a b) λxs'=>some (s0.put o.dst (.one (.sl (Lp an o fl a) e xs')))) hb h;cases hsub:sub xs a b with|none=>rw[hsub]at h1;cases h1|some s'=>rw[hsub]at h1;cases h1;refine dX.put rfl λst2 ha=>?_;have hf3:=hf2 st2 ha;rw[hx]at hf3;simp only[cG,ho,yy,htk,bf,cd,hr st2 ha,hx,hf3,ha.ep,aF hT];rw[h2 st2 ha,hsub];rfl
 cases h;cases h
theorem Eb {args:au Operand}(hl:∀t,t∈MV args->t∈dD o)(ha:gB an X o st st2):args.map st2.rd=args.map st.rd:=by apply List.map_congr_left;intro x hx;exact ha.rd (λt ht=>hl t (by simp only[MV,List.mem_flatMap];exact⟨x,hx,ht⟩))
theorem aaD (ho:o.op=.call {callee:=.builtin .len,args,argTypes:=ts})(h:K9 E o ts.toList args.toList st some=some st'):dX E Γ an X o st st':=by have hr:∀st2,gB an X o st st2->args.toList.map st2.rd=args.toList.map st.rd:=λst2 ha=>Eb (λt ht=>by simp only[dD,ho];exact ht) ha;unfold K9 at h;split at h;rename_i t s hts hx;split at h;rename_i hT;cases h;refine dX.put rfl λst2 ha=>?_;simp only[cG,ho,K9,hr st2 ha,hts,hx,aF hT];cases h;rename_i t _ _ xs hts hx;split at h;rename_i hT;cases h;refine dX.put rfl λst2 ha=>?_;simp only[cG,ho,K9,hr st2 ha,hts,hx,aF hT];cases h;cases h
theorem aaF (ho:o.op=.call {callee:=.builtin .min,args,argTypes:=ts})(h:MC o args.toList st some=some st'):dX E Γ an X o st st':=by have hr:∀st2,gB an X o st st2->args.toList.map st2.rd=args.toList.map st.rd:=λst2 ha=>Eb (λt ht=>by simp only[dD,ho];exact ht) ha;unfold MC at h;split at h;rename_i hx;cases h;refine dX.put rfl λst2 ha=>?_;simp only[cG,ho,MC,hr st2 ha,hx];cases h
theorem aaE (ho:o.op=.call {callee:=.builtin .max,args,argTypes:=ts})(h:MB o args.toList st some=some st'):dX E Γ an X o st st':=by have hr:∀st2,gB an X o st st2->args.toList.map st2.rd=args.toList.map st.rd:=λst2 ha=>Eb (λt ht=>by simp only[dD,ho];exact ht) ha;unfold MB at h;split at h;rename_i hx;cases h;refine dX.put rfl λst2 ha=>?_;simp only[cG,ho,MB,hr st2 ha,hx];cases h
theorem aar {l:eG}{c:AC}(h:c.adM l=true)(hl:∀t∈l,st2.get t=st.get t):st2.MA c=st.MA c:=by
 cases c with
 |sl fl e xs=>
  cases fl with
  |loc ep pv=>cases pv with|none=>rfl|some q=>obtain⟨r,t⟩:=q;cases r with|slot b j=>have hb:st2.get b=st.get b:=hl b (by simpa[AC.adM]using h);simp only[AS.MA,AS.eL,hb]|box _ _=>rfl|io _=>rfl
  |_=>rfl
 |_=>rfl
theorem Wo {l:eG}(hx:F9 l st x=true)(hl:∀t∈l,st2.get t=st.get t)(h:∀t∈tm x,st2.get t=st.get t):zj st2 x=zj st x/\Ak st2 x=Ak st x:=by
 cases x with
 |tmp t=>have ht:=h t (by simp[tm]);simp only[F9]at hx;cases hg:st.get t with|tup vs=>exact⟨by simp only[zj,ht,hg],by simp only[Ak,ht,hg]⟩|val g cs=>rw[hg]at hx;have hm:cs.map st2.MA=cs.map st.MA:=List.map_congr_left λc hc=>aar (aC.1 hx c hc) hl;exact⟨by simp only[zj,ht,hg,hm],by simp only[Ak,ht,hg,hm]⟩
 |const v=>exact⟨rfl,rfl⟩
 |func f=>exact⟨rfl,rfl⟩
 |global g=>exact⟨rfl,rfl⟩
theorem MD (ho:o.op=.call {callee:=.value f,args,argTypes:=ts})(hfree:dv E an X o st=true){k:Nat}(hf:st.rd f=.val false [.fn k])(hbx:(Γ k).bx=true)(hcur:(Γ k).cur=true)(h:tu Γ o k args.toList st some=some st'):dX E Γ an X o st st':=by
 unfold tu at h;split at h;rename_i x0 xs hargs;split at h;rename_i s hx0;have hfr:si an X (erS an o) st (x0::xs)=true:=by have h1:=hfree;simp only[dv,ho,ae]at h1;rw[<-hargs];exact h1.1
 have hx1:∃q,x0=.tmp q/\X.contains s=false/\an.sb q=some s/\(match (nth st.boxes s).getD none with|some cs=>cs.all AC.E0|none=>true)=true/\xs.all (F9 (erS an o) st)=true:=by cases x0 with|tmp q=>simp only[si,hx0,acg,ae,aH,bh]at hfr;exact⟨q,rfl,hfr.1.1.1,hfr.1.1.2,hfr.1.2,hfr.2⟩|const v=>simp only[si,hx0,AV.Yt]at hfr;cases hfr|func v=>simp only[si,hx0,AV.Yt]at hfr;cases hfr|global v=>simp only[si,hx0,AV.Yt]at hfr;cases hfr
 obtain⟨q,rfl,hX,hsb,hall,hself⟩:=hx1;split at h;rename_i cs hb0;rw[hb0]at hall;simp only at hall;cases hc:(cs.all (AC.wZ (BB cs))&&xs.all (Ak st))with
 |false=>rw[hc]at h;cases h
 |true=>
  rw[hc]at h;simp only[ah]at h;cases hres:(Γ k).fn (.val true (cs.map AC.QX)::xs.map (zj st))with
  |none=>rw[hres]at h;cases h
  |some y=>
   rw[hres]at h;simp only[aa]at h;cases hc2:(((Γ k).back y).all (AC.wZ true)&&((Γ k).av y).aaI)with
   |false=>rw[hc2]at h;cases h
   |true=>
    rw[hc2]at h;simp only[ah,hcur,hall,cq,bl]at h;subst h;refine⟨⟨o.dst.toList.map λd=>(d,((Γ k).av y).BC st.ep (st.gQ o.dst)),some (s,oz (BB cs) (λ_=>none) 0 ((Γ k).back y)),o.dst⟩,⟨λx hx=>?_,λb hb=>?_,λd hd=>hd⟩,?_,λst2 ha=>?_⟩;simp only[dP]at hx;obtain⟨d,hd,rfl⟩:=hx;simp[writes,hd];cases hb;simp[CV,ho,hargs,hsb];unfold GB.apply AS.put AS.e9 AS.eu;cases o.dst<;>rfl;have e1:st2.rd f=st.rd f:=ha.rd (λt ht=>by simp[dD,ho,ht]);have hl:∀x∈Operand.tmp q::xs,∀t∈tm x,t∈dD o:=by intro x hx t ht;simp only[dD,ho,ay,MV,List.mem_flatMap,hargs];exact .inr ⟨x,hx,ht⟩
    have e2:st2.rd (.tmp q)=st.rd (.tmp q):=ha.rd (hl _ (by simp));have e3:nth st2.boxes s=nth st.boxes s:=ha.box s hX;have e4:∀x∈xs,zj st2 x=zj st x/\Ak st2 x=Ak st x:=λx hx=>Wo (aC.1 hself x hx) ha.er λt ht=>ha.get t (hl x (by simp[hx]) t ht);have e5:xs.map (zj st2)=xs.map (zj st):=List.map_congr_left λx hx=>(e4 x hx).1;have e6:xs.all (Ak st2)=xs.all (Ak st):=by rw[cn];simp only[aC];exact⟨λg x hx=>by rw[<-(e4 x hx).2];exact g x hx,λg x hx=>by rw[(e4 x hx).2];exact g x hx⟩
    simp only[cG,ho,BE,e1,hf,hbx,ah,tu,hargs,e2,hx0,e3,hb0,e5,e6,hc,hres,aa,hc2,hcur,hall,cq,ha.ep,ha.gQ];unfold GB.apply AS.put AS.e9 AS.eu;cases o.dst<;>rfl
 cases h;cases h;cases h
theorem Ww (hΓ:∀f,(Γ f).io=false/\((Γ f).bx=true->(Γ f).cur=true)/\(Γ f).pr=false)(ho:o.op=.call {callee:=.value f,args,argTypes:=ts})(hfree:dv E an X o st=true)(h:BE Γ o f args.toList st some=some st'):dX E Γ an X o st st':=by
 have hr:∀st2,gB an X o st st2->st2.rd f=st.rd f/\(args.toList.map λx=>((st2.rd x).fresh st2).asArg st2.ep)=args.toList.map λx=>((st.rd x).fresh st).asArg st.ep:=by
  intro st2 ha;refine⟨ha.rd (λt ht=>by simp[dD,ho,ht]),?_⟩;apply List.map_congr_left;intro x hx;have hnow:(st.rd x).now st.ep=true:=by simp only[dv,ho,ae,aC]at hfree;exact hfree.2 x hx
  rw[ha.rd (λt ht=>by simp only[dD,ho,ay,MV,List.mem_flatMap];exact .inr ⟨x,hx,ht⟩),xM hnow,xM (s:=st2) (by rw[ha.ep];exact hnow),ha.ep]
 unfold BE at h;split at h
 ·rename_i k hf
  cases hbx:(Γ k).bx with
  |true=>rw[hbx]at h;exact MD ho hfree hf hbx ((hΓ k).2.1 hbx) h
  |false=>
  rw[hbx,(hΓ k).2.2,(hΓ k).1]at h
  simp only[af]at h
  cases hg:(Γ k).fn (args.toList.map λx=>((st.rd x).fresh st).asArg st.ep)with
  |none=>rw[hg]at h;cases h
  |some y=>
   rw[hg]at h
   simp only[aa]at h
   cases hsel:(Γ k).sel y with
   |true=>
    rw[hsel]at h
    cases h
    refine dX.new rfl λst2 ha=>?_
    simp only[cG,ho,BE,(hr st2 ha).1,hf,(hΓ k).1,hbx,(hΓ k).2.2,af]
    rw[(hr st2 ha).2,hg]
    simp only[aa,hsel,ah,ha.ep,ha.gQ]
   |false=>
    rw[hsel]at h
    cases h
    refine dX.new rfl λst2 ha=>?_
    simp only[cG,ho,BE,(hr st2 ha).1,hf,(hΓ k).1,hbx,(hΓ k).2.2,af]
    rw[(hr st2 ha).2,hg]
    simp only[aa,hsel,af,ha.ep,ha.gQ]
 cases h
theorem ME {src dst:TypeId}(ho:o.op=.convert src dst x)(h:lb E o src dst x st some=some st'):dX E Γ an X o st st':=by
 have hr:∀st2,gB an X o st st2->st2.rd x=st.rd x:=λst2 ha=>ha.rd (λt ht=>by simpa[dD,ho]using ht);unfold lb at h;split at h;rename_i h1 h2 h3;cases h;refine dX.put rfl λst2 ha=>?_;simp only[cG,ho,lb,hr st2 ha,h1,h2,h3];rename_i h1 h2 h3;cases h;refine dX.put rfl λst2 ha=>?_;simp only[cG,ho,lb,hr st2 ha,h1,h2,h3];rename_i offs val s hno h1 h2 h3;split at h;rename_i hb;unfold room at h;split at h;rename_i hrm;cases h;refine dX.new (v:=.one (.sl (.own (st.gQ o.dst 0)) (.int .u8) (cY s))) rfl λst2 ha=>?_;have hval:∀k:AS->aw AS,lb E o src dst x st2 k=if E.bytes dst then room s.length (k (st2.oK o.dst (.int .u8) (cY s))) else none:=by intro k;unfold lb;rw[hr st2 ha,h1,h2,h3];obtain⟨ag,ct,of⟩:=val;cases ag with|true=>rfl|false=>cases ct with|str=>exact(hno _ rfl).elim|_=>rfl
 simp only[cG,ho];rw[hval,aF hb,room,aF hrm,AS.oK,ha.gQ];cases h;cases h;rename_i val offs fl xs h1 h2 h3;split at h;rename_i hb;cases h;refine dX.put rfl λst2 ha=>?_;have hval:∀k:AS->aw AS,lb E o src dst x st2 k=if E.bytes src/\fl.live st2.ep then k (st2.put o.dst (.one (.str (aJ xs)))) else none:=by intro k;unfold lb;rw[hr st2 ha,h1,h2,h3];obtain⟨ag,ct,of⟩:=val;cases ag with|true=>rfl|false=>cases ct<;>rfl
 simp only[cG,ho];rw[hval,ha.ep,aF hb];cases h;cases h
theorem HJ {d:Nat}:(⟨[(d,v)],some (d,cs),none⟩:GB).apply st=(st.eu d (some cs)).put (some d) v:=rfl
theorem TG (ho:o.op=.alloc T)(h:AD E o T st some=some st'):dX E Γ an X o st st':=by unfold AD at h;split at h;rename_i d sh hd hT;split at h;rename_i hb;cases h;refine⟨⟨[(d,.one (.ptr d 0))],some (d,cellsOf sh.ct (.own none) sh.ct.zero),none⟩,⟨λx hx=>?_,λb hb'=>?_,λ_ hh=>by cases hh⟩,?_,λst2 ha=>?_⟩;simp only[bu]at hx;subst hx;simp[writes,hd];cases hb';simp[CV,ho,hd];rw[HJ,hd];simp only[cG,ho,AD,hd,hT,(ha.dst d hd).2,hb,HJ];cases h;cases h
def nh (st:AS):Operand->au (Nat×AV)
 | .tmp t=>[(t,(st.get t).aX st.ep)]
 |_=>[]
theorem zS (l:au AV)(a b:au (Nat×AV)):jq l (a++b)=jq (jq l a) b:=by induction a generalizing l with|nil=>rfl|cons x a ih=>exact ih _
def AS.jz (st:AS)(l:au (Nat×AV)):AS:={st with slots:=jq st.slots l}
theorem pT (a b:au (Nat×AV)):st.jz (a++b)=(st.jz a).jz b:=by simp only[AS.jz,zS]
theorem Ax (x:Operand):(st.take x).2=st.jz (nh st x):=by cases x<;>rfl
theorem Bq (hep:st2.ep=st.ep)(h:∀t∈tm x,st2.get t=st.get t):(st2.take x).1=(st.take x).1/\(st2.take x).2=st2.jz (nh st x):=by cases x with|tmp t=>have:=h t (by simp[tm]);refine⟨this,?_⟩;rw[Ax];simp only[nh,this,hep]|const v=>exact⟨rfl,rfl⟩|func f=>exact⟨rfl,rfl⟩|global g=>exact⟨rfl,rfl⟩
theorem Gv:∀y∈nh st x,y.1∈tm x:=by cases x<;>simp[nh,tm]
theorem Wy (ho:o.op=.move x)(h:Ap an o x st some=some st'):dX E Γ an X o st st':=by
 unfold Ap at h;cases hd:o.dst with
 |none=>rw[hd]at h;cases h
 |some d=>
  rw[hd]at h;cases hf:an.mv.contains d with
  |false=>simp only[hf,bf,cd]at h;cases h;refine dX.put (v:=st.rd x) (by rw[hd]) λst2 ha=>?_;have hr:st2.rd x=st.rd x:=ha.rd (λt ht=>by simpa[dD,ho]using ht);simp only[cG,ho,Ap,hd,hf,bf,cd,hr]
  |true=>
   simp only[hf,bT]at h;cases h;have hr:∀st2,gB an X o st st2->(st2.take x).1=(st.take x).1/\(st2.take x).2=st2.jz (nh st x):=λst2 ha=>Bq ha.ep λt ht=>ha.get t (by simpa[dD,ho]using ht);refine⟨⟨nh st x++[(d,(st.take x).1)],none,none⟩,⟨λy hy=>?_,λ_ hh=>(by cases hh),λ_ hh=>(by cases hh)⟩,?_,λst2 ha=>?_⟩;rcases ay.1 hy with hy|hy;have:=Gv y hy;have hf':d∈an.mv:=by simpa using hf
   simp[writes,CR,ho,hd,hf',dD,this];simp only[bu]at hy;subst hy;simp[writes,hd];rw[Ax];show _=st.jz _;rw[pT];rfl;simp only[cG,ho,Ap,hd,hf,bT,(hr st2 ha).1,(hr st2 ha).2];show some ((st2.jz (nh st x)).put (some d) (st.take x).1)=some (st2.jz _);rw[pT];rfl
theorem R6 {ep:Nat}(h:cs.all AC.iZ=true):aX ep cs=cs:=by
 rw[aC]at h;unfold aX;have:cs.map (AC.borrow ep none)=cs.map id:=List.map_congr_left λc hc=>by have:=h c hc;cases c<;>first|rfl|(simp[AC.iZ]at this)
 rw[this,List.map_id]
theorem agO {s:AS}{vs:au (Bool×au AC)}(h:s.get t=.tup vs):s.put (some t) (.tup vs)=s:=by cases s with|mk slots boxes ep iss io=>simp only[AS.put,AS.mk.injEq,ij];rw[eY];apply List.ext_getElem?;intro i;rw[List.getElem?_set];split;rename_i hd;subst hd;simp only[AS.get,dI]at h;split;rename_i hlt;rw[List.getElem?_eq_getElem hlt]at h⊢;simp only[ff]at h;rw[h];rename_i hge;rw[List.getElem?_eq_none (Nat.le_of_not_lt hge)];rfl
theorem MF {i:Nat}(ho:o.op=.extract (.tmp t) i)(hfree:dv E an X o st=true)(h:lf o t i st some=some st'):dX E Γ an X o st st':=by
 have hr:∀st2,gB an X o st st2->st2.get t=st.get t:=λst2 ha=>ha.get t (by simp[dD,ho]);unfold lf at h;simp only[dv,ho]at hfree;split at h
 ·rename_i vs hv;rw[hv]at hfree;split at h
  ·rename_i g cs hn;simp only[hn]at hfree;have hfl:cs.all AC.iZ=true\/∃d,o.dst=some d/\an.mv.contains d=true:=by cases hd:o.dst with|none=>simp only[hd,Bool.or_false]at hfree;exact .inl hfree|some d=>simp only[hd,cB]at hfree;rcases hfree with h|h;exact .inl h;exact .inr ⟨d,rfl,h⟩
   rcases hfl with hfree|⟨d,hd,hmv⟩;rotate_left;cases h;refine⟨⟨[(t,.tup (gM vs i (g,aX 0 cs))),(d,.val g cs)],none,none⟩,⟨λx hx=>?_,(λ_ hb=>by cases hb),(λ_ hh=>by cases hh)⟩,?_,λst2 ha=>?_⟩;simp only[bG,List.not_mem_nil,or_false]at hx;rcases hx with rfl|rfl;simp only[writes,CR,ho,hd,hmv,ah,dD];simp;simp only[writes,hd];simp;rw[hd];rfl;have h2:st2.get t=.tup vs:=by rw[hr st2 ha,hv]
   simp only[cG,ho,lf,h2,hn,hd];rfl;skip;have hset:gM vs i (g,cs)=vs:=by rw[eY];rw[dI]at hn;apply List.ext_getElem?;intro k;rw[List.getElem?_set];split;rename_i hk;subst hk;obtain⟨hl,he⟩:=List.getElem?_eq_some_iff.1 hn;rw[aF hl,hn];rfl
   have key:∀s:AS,s.get t=.tup vs->(s.put (some t) (.tup (gM vs i (g,aX 0 cs))))=s:=λs hs=>by rw[R6 hfree,hset,agO hs]
   rw[key st hv]at h;cases h;refine dX.put rfl λst2 ha=>?_;have h2:st2.get t=.tup vs:=by rw[hr st2 ha,hv]
   simp only[cG,ho,lf,h2,hn];rw[key st2 h2]
  cases h
 cases h
def xI (st:AS):Operand->au (Nat×AV)
 | .tmp t=>[(t,(st.get t).aX st.ep)]
 |_=>[]
theorem Mb (st:AS)(x:Operand):(st.take x).2=⟨jq st.slots (xI st x),st.boxes,st.ep,st.iss,st.io⟩:=by cases x<;>rfl
theorem TL {pp:Nat}(ho:o.op=.store T (.tmp pp) x)(hd:o.dst=none)(hm:mJ an o=true)(hfree:dv E an X o st=true)(h:vn E T (.tmp pp) x st some=some st'):dX E Γ an X o st st':=by
 have hr:∀st2,gB an X o st st2->st2.rd (.tmp pp)=st.rd (.tmp pp):=λst2 ha=>ha.rd (λt ht=>by simp only[dD,ho,ay];exact .inl ht);have hsb:(an.sb pp).isNone=false:=by simp only[mJ,ho,ae]at hm;cases hb:an.sb pp with|none=>rw[hb]at hm;cases hm.1|some _=>rfl
 simp only[dv,ho,hsb,dw,cz]at hfree;unfold vn at h;split at h;rename_i sh s off hT hp;rw[hp]at hfree;simp only[ae,aH,bh]at hfree;split at h;rename_i gg vs st1 htk;have htk1:(st.take x).1=.val gg vs:=by rw[htk]
 have hst1:st1=⟨jq st.slots (xI st x),st.boxes,st.ep,st.iss,st.io⟩:=by rw[<-Mb,htk]
 split at h;rename_i cs hb;split at h;rename_i hlen;split at h;rename_i hfit;cases h;have hbx:∀st2,gB an X o st st2->nth st2.boxes s=nth st.boxes s:=λst2 ha=>ha.box s hfree.1;refine⟨⟨xI st x,some (s,dY cs off vs),none⟩,⟨λy hy=>?_,λb hb'=>?_,λ_ hh=>by cases hh⟩,?_,λst2 ha=>?_⟩;cases x with|tmp t=>simp only[xI,bu]at hy;subst hy;simp only[writes,CR,ho,ah,dD,hd];simp[tm]|_=>simp[xI]at hy
 cases hb';simp only[CV,ho,hfree.2];simp;rw[hst1];rfl;have hx2:(st2.take x).1=(st.take x).1/\xI st2 x=xI st x:=by cases x with|tmp t=>have hg:st2.get t=st.get t:=ha.get t (by simp[dD,ho,tm]);simp only[AS.take,xI,hg,ha.ep];simp|const v=>exact⟨rfl,rfl⟩|func f=>exact⟨rfl,rfl⟩|global g=>exact⟨rfl,rfl⟩
 have ht2:st2.take x=(.val gg vs,⟨jq st2.slots (xI st x),st2.boxes,st2.ep,st2.iss,st2.io⟩):=by rw[<-hx2.2,<-Mb,<-htk1,<-hx2.1]
 have hb2:(nth st2.boxes s).getD none=some cs:=by rw[hbx st2 ha];rw[hst1]at hb;exact hb
 have hlate:ym an o=false:=by simp only[mJ,ho,ae,aH]at hm;exact hm.2
 simp only[cG,ho,hd,hlate,bf,cd,vn,hT,hr st2 ha,hp,ht2,hb2,aF hlen,aF hfit];rfl;cases h;cases h;cases h;cases h;rename_i r _ _ _ _ _ _ hp;rw[hp]at hfree;cases r<;>simp at hfree;cases h
theorem Qt (ho:o.op=.assign x)(hm:mJ an o=true)(h:tt E an o x st some=some st'):dX E Γ an X o st st':=by
 have hr:∀st2,gB an X o st st2->(st2.take x).1=(st.take x).1/\(st2.take x).2=st2.jz (nh st x):=λst2 ha=>Bq ha.ep λt ht=>ha.get t (by simpa[dD,ho]using ht);have hlate:ym an o=false:=by simpa[mJ,ho]using hm
 unfold tt at h;split at h;rename_i st1 htk;split at h;rename_i e hT;cases h;refine dX.put rfl λst2 ha=>?_;have h2:st2.take x=(.val false [.nilsl],st2.jz (nh st x)):=Prod.ext (by rw[(hr st2 ha).1,htk]) (hr st2 ha).2;simp only[cG,ho,tt,hlate,bf,cd,h2,hT];cases h;rename_i v st1 hno htk;cases h;have hst1:st1=st.jz (nh st x):=by rw[<-Ax,htk]
 refine⟨⟨nh st x++o.dst.toList.map λd=>(d,v),none,none⟩,⟨λy hy=>?_,λ_ hh=>(by cases hh),λ_ hh=>(by cases hh)⟩,?_,λst2 ha=>?_⟩;rcases ay.1 hy with hy|hy;have:=Gv y hy;simp[writes,CR,ho,dD,this];obtain⟨d,hd,rfl⟩:=dP.1 hy;simp[writes,hd];rw[hst1];show _=st.jz _;rw[pT];cases o.dst<;>rfl;have h2:st2.take x=(v,st2.jz (nh st x)):=Prod.ext (by rw[(hr st2 ha).1,htk]) (hr st2 ha).2;simp only[cG,ho,tt,hlate,bf,cd,h2];show some ((st2.jz (nh st x)).put o.dst v)=some (st2.jz _);rw[pT];cases o.dst<;>rfl
theorem jd {α:Type}(l:au α)(i:Nat)(v:α)(t:Nat):nth (gM l i v) t=if i=t then(if i<l.length then some v else none) else nth l t:=by rw[dI,eY,dI,List.getElem?_set]
theorem Lw (l:au AV)(a:au (Nat×AV)):(jq l a).length=l.length:=by induction a generalizing l with|nil=>rfl|cons x a ih=>rw[jq,ih,eY,aA]
theorem WU {l l2:au AV}(a:au (Nat×AV))(hl:l2.length=l.length)(t:Nat)(h:nth l2 t=nth l t):nth (jq l2 a) t=nth (jq l a) t:=by induction a generalizing l l2 with|nil=>exact h|cons x a ih=>refine ih (by rw[eY,eY,aA,aA,hl]) ?_;rw[jd,jd,hl,h]
theorem WD (h:st2.get t=st.get t)(hl:st2.slots.length=st.slots.length):nth st2.slots t=nth st.slots t:=by unfold AS.get at h;rw[dI,dI]at h⊢;rcases bV t st.slots.length with hlt|hge;rw[List.getElem?_eq_getElem hlt,List.getElem?_eq_getElem (by omega)]at h⊢;simpa using h;rw[List.getElem?_eq_none hge,List.getElem?_eq_none (by omega)]
def jl (st:AS):au Operand->au (Nat×AV)
 |[]=>[]
 |x::xs=>nh st x++jl (st.jz (nh st x)) xs
theorem yH:∀(xs:au Operand)(st:AS),∀y∈jl st xs,y.1∈MV xs
 |[],_,y,hy=>by cases hy
 |x::xs,st,y,hy=>by simp only[MV,List.flatMap_cons,ay];rcases ay.1 hy with hy|hy;exact .inl (Gv y hy);exact .inr (yH xs _ y hy)
theorem zV:∀(xs:au Operand)(st st2:AS),st2.ep=st.ep->st2.slots.length=st.slots.length->(∀t∈MV xs,nth st2.slots t=nth st.slots t)->
 (eM st2 xs).1=(eM st xs).1/\(eM st2 xs).2=st2.jz (jl st xs)
 |[],st,st2,_,_,_=>⟨rfl,rfl⟩
 |x::xs,st,st2,hep,hl,hg=>by
  have hx:∀t∈tm x,st2.get t=st.get t:=λt ht=>by unfold AS.get;rw[hg t (by simp[MV,ht])]
  obtain⟨h1,h2⟩:=Bq (st:=st) (st2:=st2) hep hx;have h3:=Ax (st:=st) x;obtain⟨k1,k2⟩:=zV xs (st.jz (nh st x)) (st2.jz (nh st x)) hep (by simp only[AS.jz,Lw,hl]) (λt ht=>WU _ hl t (hg t (by simp only[MV,List.flatMap_cons,ay];exact .inr ht)));have e1:eM st (x::xs)=((st.take x).1::(eM (st.take x).2 xs).1,(eM (st.take x).2 xs).2):=rfl;have e2:eM st2 (x::xs)=((st2.take x).1::(eM (st2.take x).2 xs).1,(eM (st2.take x).2 xs).2):=rfl;rw[e1,e2,h1,h2,h3];refine⟨by rw[k1],?_⟩;show(eM (st2.jz (nh st x)) xs).2=_;rw[k2,jl,pT]
theorem Bp (xs:au Operand):(eM st xs).2=st.jz (jl st xs):=(zV xs st st rfl rfl (λ_ _=>rfl)).2
theorem gB.eM (ha:gB an X o st st2){xs:au Operand}(hx:∀t∈MV xs,t∈dD o):(eM st2 xs).1=(Dn.eM st xs).1/\(Dn.eM st2 xs).2=st2.jz (jl st xs):=zV xs st st2 ha.ep ha.len λt ht=>WD (ha.get t (hx t ht)) ha.len
theorem TH (ho:o.op=.build T parts)(h:zJ E o T parts.toList st some=some st'):dX E Γ an X o st st':=by
 have hl:∀t∈MV (parts.toList.map (·.2)),t∈dD o:=λt ht=>by simp only[dD,ho];exact ht
 unfold zJ at h;split at h;rename_i ct offs hT;split at h;rename_i vs st1 htk;have hst1:st1=st.jz (jl st (parts.toList.map (·.2))):=by rw[<-Bp,htk]
 split at h;rename_i cs hb;cases h;refine⟨⟨jl st (parts.toList.map (·.2))++o.dst.toList.map λd=>(d,.val true cs),none,none⟩,⟨λy hy=>?_,λ_ hh=>(by cases hh),λ_ hh=>(by cases hh)⟩,?_,λst2 ha=>?_⟩;rcases ay.1 hy with hy|hy;have:=hl _ (yH _ _ y hy);simp[writes,CR,ho,this];obtain⟨d,hd,rfl⟩:=dP.1 hy;simp[writes,hd];rw[hst1];show _=st.jz _;rw[pT];cases o.dst<;>rfl;obtain⟨k1,k2⟩:=ha.eM hl;have h2:eM st2 (parts.toList.map (·.2))=(vs,st2.jz (jl st (parts.toList.map (·.2)))):=Prod.ext (by rw[k1,htk]) k2;simp only[cG,ho,zJ,hT,h2,hb];show some ((st2.jz _).put o.dst _)=some (st2.jz _);rw[pT];cases o.dst<;>rfl;cases h;cases h
theorem dX.amf (ht:CR an o=true)(hl:∀y∈tl,y.1∈dD o)(h:st'=((st.jz tl).e9 o.dst).put o.dst v)(h2:∀st2,gB an X o st st2->cG E Γ an o st2 some=some (((st2.jz tl).e9 o.dst).put o.dst v)):dX E Γ an X o st st':=by
 have key:∀s:AS,(⟨tl++o.dst.toList.map λd=>(d,v),none,o.dst⟩:GB).apply s=((s.jz tl).e9 o.dst).put o.dst v:=by intro s;cases o.dst with|none=>simp only[GB.apply,Option.toList,List.map_nil,bw,AS.jz,AS.e9,AS.put]|some d=>simp only[GB.apply,Option.toList,cS,List.map_nil,zS,AS.jz,AS.e9,AS.put,jq]
 refine⟨⟨tl++o.dst.toList.map λd=>(d,v),none,o.dst⟩,⟨λy hy=>?_,λ_ hh=>(by cases hh),λd hh=>hh⟩,by rw[key];exact h,λst2 ha=>by rw[key];exact h2 st2 ha⟩;rcases ay.1 hy with hy|hy;simp[writes,ht,hl y hy];obtain⟨d,hd,rfl⟩:=dP.1 hy;simp[writes,hd]
theorem xP {d:aw Nat}:(st.jz tl).gQ d=st.gQ d:=rfl
theorem Hh {len:Nat}(ho:o.op=.buildSlice T len parts)(h:k8 E o T len parts.toList st some=some st'):dX E Γ an X o st st':=by
 have hl:∀t∈MV (parts.toList.map (·.2)),t∈dD o:=λt ht=>by simp only[dD,ho];exact ht
 unfold k8 at h;split at h;rename_i e hT;split at h;rename_i hc;split at h;rename_i vs st1 htk;have hst1:st1=st.jz (jl st (parts.toList.map (·.2))):=by rw[<-Bp,htk]
 split at h;rename_i xs hb;cases h;refine dX.amf (tl:=jl st (parts.toList.map (·.2))) (v:=.one (.sl (.own (st.gQ o.dst 0)) e xs)) (by simp[CR,ho]) (λy hy=>hl _ (yH _ _ y hy)) ?_ λst2 ha=>?_;rw[hst1,AS.oK,xP];obtain⟨k1,k2⟩:=ha.eM hl;have h2:eM st2 (parts.toList.map (·.2))=(vs,st2.jz (jl st (parts.toList.map (·.2)))):=Prod.ext (by rw[k1,htk]) k2;simp only[cG,ho,k8,hT,h2,hb,aF hc];rw[AS.oK,xP,ha.gQ];cases h;cases h;cases h
theorem I2 {n c:Operand}(ho:o.op=.makeSlice T n c)(h:nI E o T n c st some=some st'):dX E Γ an X o st st':=by
 have hr:∀st2,gB an X o st st2->st2.rd n=st.rd n/\st2.rd c=st.rd c:=λst2 ha=>
  ⟨ha.rd (λt ht=>by simp[dD,ho,ht]),ha.rd (λt ht=>by simp[dD,ho,ht])⟩
 unfold nI at h;split at h;rename_i e len cap hT hn hc;split at h;rename_i hlc;unfold room at h;split at h;rename_i hrm;cases h;refine dX.new (v:=.one (.sl (.own (st.gQ o.dst 0)) e (List.replicate len.toNat e.zero))) rfl λst2 ha=>?_;simp only[cG,ho,nI,(hr st2 ha).1,(hr st2 ha).2,hT,hn,hc,aF hlc,room,aF hrm,AS.oK,ha.gQ];cases h;cases h;cases h
theorem Qs (ho:o.op=.call {callee:=.builtin .append,args,argTypes:=ts})(h:vr E o ts.toList args.toList st some=some st'):dX E Γ an X o st st':=by
 have hlk:∀t∈MV args.toList,t∈dD o:=λt ht=>by simp only[dD,ho];exact ht
 unfold vr at h;split at h;rename_i t t' s x hts hargs;have hl:∀u∈MV [s,x],u∈dD o:=by rw[<-hargs];exact hlk
 have hboth:∀st2,gB an X o st st2->(st2.take s).1=(st.take s).1/\((st2.take s).2.take x).1=((st.take s).2.take x).1/\((st2.take s).2.take x).2=st2.jz (jl st [s,x]):=by intro st2 ha;obtain⟨k1,k2⟩:=ha.eM hl;simp only[Dn.eM,List.cons.injEq,ij]at k1 k2;exact⟨k1.1,k1.2,k2⟩
 have hself:((st.take s).2.take x).2=st.jz (jl st [s,x]):=Bp (st:=st) [s,x];split at h;rename_i tag e xs st1 htk1;split at h;rename_i fl e' ys st1' htk2;split at h;rename_i he;subst he;split at h;rename_i hc;unfold room at h;split at h;rename_i hrm;cases h;have hst1:(st.take s).2=st1:=by rw[htk1]
 have hst2:st1'=st.jz (jl st [s,x]):=by rw[<-hself,hst1,htk2]
 refine dX.amf (tl:=jl st [s,x]) (v:=.one (.sl (.own (st.gQ o.dst 0)) e' (xs++ys))) (by simp[CR,ho]) (λy hy=>hl _ (yH _ _ y hy)) ?_ λst2 ha=>?_;rw[hst2,AS.oK,xP];obtain⟨k1,k2,k3⟩:=hboth st2 ha;have e1:st2.take s=(.val false [.sl (.own tag) e' xs],(st2.take s).2):=Prod.ext (by rw[k1,htk1]) rfl;have e2:(st2.take s).2.take x=(.val false [.sl fl e' ys],st2.jz (jl st [s,x])):=Prod.ext (by rw[k2,hst1,htk2]) k3;simp only[cG,ho,vr,hts,hargs];rw[e1];simp only;rw[e2];simp only[dite_true,ha.ep,aF hc,room,aF hrm,AS.oK,xP,ha.gQ];cases h;cases h;cases h;rename_i sx st1' htk2;split at h;rename_i he;subst he;split at h;rename_i hc;unfold room at h;split at h;rename_i hrm;cases h;have hst1:(st.take s).2=st1:=by rw[htk1]
 have hst2:st1'=st.jz (jl st [s,x]):=by rw[<-hself,hst1,htk2]
 refine dX.amf (tl:=jl st [s,x]) (v:=.one (.sl (.own (st.gQ o.dst 0)) (.int .u8) (xs++cY sx))) (by simp[CR,ho]) (λy hy=>hl _ (yH _ _ y hy)) ?_ λst2 ha=>?_;rw[hst2,AS.oK,xP];obtain⟨k1,k2,k3⟩:=hboth st2 ha;have e1:st2.take s=(.val false [.sl (.own tag) (.int .u8) xs],(st2.take s).2):=Prod.ext (by rw[k1,htk1]) rfl;have e2:(st2.take s).2.take x=(.val false [.str sx],st2.jz (jl st [s,x])):=Prod.ext (by rw[k2,hst1,htk2]) k3;simp only[cG,ho,vr,hts,hargs];rw[e1];simp only;rw[e2];simp only[dite_true,aF hc,room,aF hrm,AS.oK,xP,ha.gQ];cases h;cases h;cases h;cases h;cases h;cases h
theorem aaC (ho:o.op=.box T x)(h:OM o x st some=some st'):dX E Γ an X o st st':=by
 have hr:∀st2,gB an X o st st2->(st2.take x).1=(st.take x).1/\(st2.take x).2=st2.jz (nh st x):=λst2 ha=>Bq ha.ep λt ht=>ha.get t (by simpa[dD,ho]using ht);unfold OM at h;split at h;rename_i d g cs st1 hd htk;have hst1:st1=st.jz (nh st x):=by rw[<-Ax,htk]
 split at h;rename_i hb;split at h;rename_i hs;cases h;have hb0:nth st.boxes d=some none:=by rw[hst1]at hb;exact hb
 have key:∀s:AS,(⟨nh st x++[(d,.one (.ptr d 0))],some (d,cs),none⟩:GB).apply s=((s.jz (nh st x)).eu d (some cs)).put (some d) (.one (.ptr d 0)):=by intro s;simp only[GB.apply,zS,AS.jz,AS.eu,AS.put,jq]
 refine⟨⟨nh st x++[(d,.one (.ptr d 0))],some (d,cs),none⟩,⟨λy hy=>?_,λb hb'=>?_,λ_ hh=>(by cases hh)⟩,?_,λst2 ha=>?_⟩;rcases ay.1 hy with hy|hy;have:=Gv y hy;simp[writes,CR,ho,dD,this];simp only[bu]at hy;subst hy;simp[writes,hd];cases hb';simp[CV,ho,hd];rw[key,hst1,hd];have h2:st2.take x=(.val g cs,st2.jz (nh st x)):=Prod.ext (by rw[(hr st2 ha).1,htk]) (hr st2 ha).2;have hb2:nth (st2.jz (nh st x)).boxes d=some none:=by show nth st2.boxes d=_;rw[(ha.dst d hd).2];exact hb0
 simp only[cG,ho,OM,hd,h2,hb2,aF hs,key];cases h;cases h;cases h
theorem L4 (hΓ:∀f,(Γ f).io=false/\((Γ f).bx=true->(Γ f).cur=true)/\(Γ f).pr=false)(hm:mJ an o=true)(hfree:dv E an X o st=true)(h:cG E Γ an o st some=some st'):dX E Γ an X o st st':=by
 have h0:=h;unfold cG at h;split at h;rename_i ho;exact Wy ho h;rename_i ho;have hlate:ym an o=false:=by simpa[mJ,ho]using hm
 rw[aD (by simp[hlate])]at h;exact Qt ho hm h;rename_i ho;exact Wz ho h;rename_i ho;exact TG ho h;rename_i ho;exact aaC ho h;rename_i ho;exact Wx ho hm hfree h;rename_i T p x ho;split at h;rename_i hd;cases p with
 |tmp pp=>
  have hlate:ym an o=false:=by simp only[mJ,ho,ae,aH]at hm;exact hm.2
  rw[aD (by simp[hlate])]at h;exact TL ho hd hm hfree h
 |const v=>simp[mJ,ho]at hm
 |func f=>simp[mJ,ho]at hm
 |global g=>simp[mJ,ho]at hm
 cases h;rename_i ho;exact Lg ho h0;rename_i ho;exact aaB ho h;rename_i ho;exact adi ho h;rename_i ho;exact TI ho h;rename_i ho;exact I1 ho hfree h;rename_i ho;exact TJ ho h;rename_i ho;exact TH ho h;rename_i ho;exact Hh ho h;rename_i ho;exact I2 ho h;rename_i ho;exact TK ho hm hfree h;rename_i ho;simp[mJ,ho]at hm;rename_i ho;simp[mJ,ho]at hm;rename_i ho;exact ME ho h;rename_i ho;exact MF ho hfree h;rename_i ho;exact aaD ho h;rename_i ho;exact aaF ho h;rename_i ho;exact aaE ho h;rename_i ho;exact Qs ho h;rename_i ho;exact Ww hΓ ho hfree h;cases h
end Go.Dn
