import Derived.Test.YtainmjjkipbciaaGreatDnMask
/- What an operation looks at and what it turns: for regions whose order is drawn. -/
namespace Go.Dn
structure Fo where
 slots:List (Nat×AV):=[]
 box:Option (Nat×List AC):=none
 iss:Option Nat:=none
def jP (l:ax AV):ax (Nat×AV)->ax AV
 |[]=>l
 |x::r=>jP (ie l x.1 x.2) r
def Fo.apply (u:Fo)(st:AS):AS:=
 ⟨jP st.slots u.slots,(match u.box with|some b=>ie st.boxes b.1 (some b.2)|none=>st.boxes),st.ep,(match u.iss with|some d=>ie st.iss d true|none=>st.iss),st.io⟩
structure hH (an:An) (X:List Nat) (o:Oper) (st st2:AS):Prop where
 len:st2.slots.length=st.slots.length
 get:∀t∈dR o,st2.get t=st.get t
 ep:st2.ep=st.ep
 dst:∀d,o.dst=some d->nth st2.iss d=nth st.iss d/\nth st2.boxes d=nth st.boxes d
 box:∀s,X.contains s=false->nth st2.boxes s=nth st.boxes s
 er:∀t∈Yt an o,st2.get t=st.get t
structure Fo.Dq (an:An) (u:Fo) (o:Oper):Prop where
 slots:∀x∈u.slots,x.1∈writes an o
 box:∀b,u.box=some b->b.1∈Cf an o
 iss:∀d,u.iss=some d->o.dst=some d
variable {E:Env} {Γ:eE} {an:An} {X:fF} {o:Oper} {st st2 st':AS}
variable {v:AV} {parts:Array (Nat×Operand)} {args:Array Operand} {ts:Array TypeId} {t:Nat} {f p x:Operand} {T:TypeId} {tl:ax (Nat×AV)} {cs:ax AC}
theorem Z8 (hep:st2.ep=st.ep)(h:∀t∈tm x,st2.get t=st.get t):st2.rd x=st.rd x:=by cases x with|tmp t=>simp only[AS.rd,hep,h t (by simp[tm])]|const v=>rfl|func f=>rfl|global g=>rfl
def eJ (E:Env)(Γ:eE)(an:An)(X:fF)(o:Oper)(st st':AS):Prop:=
 ∃u:Fo,u.Dq an o/\st'=u.apply st/\∀st2,hH an X o st st2->dq E Γ an o st2 some=some (u.apply st2)
def AN (o:Oper)(v:AV):Fo:={slots:=o.dst.toList.map λd=>(d,v)}
theorem qX (v:AV):(AN o v).apply st=st.put o.dst v:=by unfold AN Fo.apply AS.put;cases o.dst<;>rfl
theorem zg (v:AV):(AN o v).Dq an o:=by refine⟨λx hx=>?_,λb hb=>by simp[AN]at hb,λd hd=>by simp[AN]at hd⟩;simp only[AN,eQ]at hx;obtain⟨d,hd,rfl⟩:=hx;simp[writes,hd]
def DX (o:Oper)(v:AV):Fo:={slots:=o.dst.toList.map λd=>(d,v),iss:=o.dst}
theorem Fj (v:AV):(DX o v).apply st=(st.fU o.dst).put o.dst v:=by unfold DX Fo.apply AS.put AS.fU;cases o.dst<;>rfl
theorem Lo (v:AV):(DX o v).Dq an o:=by refine⟨λx hx=>?_,λb hb=>by simp[DX]at hb,λd hd=>by simpa[DX]using hd⟩;simp only[DX,eQ]at hx;obtain⟨d,hd,rfl⟩:=hx;simp[writes,hd]
theorem eJ.put (h:st'=st.put o.dst v)(h2:∀st2,hH an X o st st2->dq E Γ an o st2 some=some (st2.put o.dst v)):eJ E Γ an X o st st':=⟨AN o v,zg v,by rw[qX];exact h,λst2 ha=>by rw[qX];exact h2 st2 ha⟩
theorem hH.rd (ha:hH an X o st st2)(hx:∀t∈tm x,t∈dR o):st2.rd x=st.rd x:=Z8 ha.ep λt ht=>ha.get t (hx t ht)
theorem TC {c y:Operand}(ho:o.op=.pick c x y)(h:BO o c x y st some=some st'):eJ E Γ an X o st st':=by
 have hr:∀st2,hH an X o st st2->st2.rd c=st.rd c/\st2.rd x=st.rd x/\st2.rd y=st.rd y:=λst2 ha=>
  ⟨ha.rd (λt ht=>by simp[dR,ho,ht]),ha.rd (λt ht=>by simp[dR,ho,ht]),ha.rd (λt ht=>by simp[dR,ho,ht])⟩
 unfold BO at h;split at h;rename_i t hc;split at h;rename_i a b hx hy;cases h;refine eJ.put rfl λst2 ha=>?_;obtain⟨h1,h2,h3⟩:=hr st2 ha;simp only[dq,ho,BO,h1,h2,h3,hc,hx,hy];rename_i va vb hno;have hgo:∀st2,hH an X o st st2->dq E Γ an o st2 some=cond t (some (st2.put o.dst (st.rd x))) (some (st2.put o.dst (st.rd y))):=by intro st2 ha;obtain⟨h1,h2,h3⟩:=hr st2 ha;simp only[dq,ho,BO,h1,h2,h3,hc]
 cases t with|true=>cases h;exact eJ.put rfl λst2 ha=>hgo st2 ha|false=>cases h;exact eJ.put rfl λst2 ha=>hgo st2 ha
 cases h
theorem JI {d s:Nat}:(⟨[(d,v)],some (s,cs),none⟩:Fo).apply st=(st.fg s (some cs)).put (some d) v:=rfl
theorem MH {o:Oper}(h:B8 an o=true):∃T q d,o.op=.load T (.tmp q)/\o.dst=some d/\o.guard=none/\an.mv.contains d=true/\an.mb d=none:=by unfold B8 at h;split at h;rename_i T q d ho hd hg;simp only[ae,Option.isNone_iff_eq_none]at h;exact⟨T,q,d,ho,hd,hg,h.1.1,h.1.2⟩;cases h
def Fh (st:AS)(b j t:Nat)(e:CT)(i:Int)(cs:ax AC)(ys:ax e.D):AS:=st.fg b (some (ie cs j (.sl (.holed (some t) i (some st.ep)) e ys)))
theorem Kz {q d:Nat}(ht:B8 an o=true)(ho:o.op=.load T (.tmp q))(hd:o.dst=some d)(hmv:an.mv.contains d=true)(hmb:an.mb d=none):(dF E an X o st=true/\oy E an o T (.tmp q) st some=some st')↔ ∃(g:Bool)(e:CT)(offs:ax (Nat×Nat))(b j t ep0:Nat)(x:e.D)(i:Int)(cs:ax AC)(ys:ax e.D)(y:e.D),je E.ty T=some ⟨g,e,offs⟩/\st.rd (.tmp q)=.val false [.elt (.loc ep0 (some (.box b j,t))) e x i 0]/\(nth st.boxes b).getD none=some cs/\nth cs j=some (.sl (.own (some t)) e ys)/\idx ys i=some y/\ X.contains b=false/\an.eb q=some b/\Se an o=false/\st'=(Fh st b j t e i cs ys).put (some d) (.val g (cellsOf e (.own none) y)):=by
 have htk:Cc an o=true:=by unfold Cc;rw[hd];simp only[hmv,hmb];rfl
 have hnl:ze an o=false:=by unfold ze;split;rename_i hd' _;rw[hd]at hd';cases hd';rw[hmb];simp;rfl
 have hnp:yF an o=false:=by unfold yF;split;rename_i hd' _;rw[hd]at hd';cases hd';rw[hmv];rfl;rfl
 constructor;rintro⟨hf,h⟩;unfold oy at h;split at h;rename_i hp;simp only[dF,ho,hp,hd,hmv,hmb]at hf;simp at hf;rename_i sh fl e x i off hT hp;rw[aH htk]at h;simp only[dF,ho,hp,ht,hnl,hnp,Bool.or_false,cd,aj,cz,iq,ae,aL]at hf;obtain⟨⟨hl0,hfm⟩,hb⟩:=hf;unfold wo at h;split at h;rename_i ep0 r t;cases r with
 |slot _ _=>cases hb
 |io _=>cases hb
 |box b j=>
  simp only[ae,bq,aL]at hb;split at h;rename_i t' e' ys hrg;split at h;rename_i he;subst he;split at h;rename_i hc;obtain⟨rfl,rfl,hct⟩:=hc;obtain⟨g,ct,offs⟩:=sh;simp only at hct;subst hct;cases hi:idx ys i with|none=>simp only[hi,aa]at h;cases h|some y=>simp only[hi,aa]at h;cases h;simp only[AS.fB]at hrg;obtain⟨cs,hcs,hj⟩:=aP.1 hrg;refine⟨g,_,offs,b,j,_,ep0,x,i,cs,ys,y,hT,hp,hcs,hj,hi,hb.2,hb.1,hfm,?_⟩;simp only[AS.fG,hcs,hd];rfl
  cases h;cases h;cases h
 cases h;cases h;rintro⟨g,e,offs,b,j,t,ep0,x,i,cs,ys,y,hT,hp,hcs,hj,hi,hX,heb,hfm,rfl⟩;constructor;simp only[dF,ho,hp,ht,hnl,hnp,hfm,hX,heb];simp;simp only[oy,hT,hp,htk,bU,wo,AS.fB,hcs,eT,hj,dite_true,and_self,hi,aa,AS.fG,hd];rfl
theorem Q7 (ht:B8 an o=true)(ho:o.op=.load T p)(hfree:dF E an X o st=true)(h:oy E an o T p st some=some st'):eJ E Γ an X o st st':=by obtain⟨T',q,d,ho',hd,hg,hmv,hmb⟩:=MH ht;rw[ho]at ho';cases ho';obtain⟨g,e,offs,b,j,t,ep0,x,i,cs,ys,y,hT,hp,hcs,hj,hi,hX,heb,hfm,rfl⟩:=(Kz ht ho hd hmv hmb).1 ⟨hfree,h⟩;refine⟨⟨[(d,.val g (cellsOf e (.own none) y))],some (b,ie cs j (.sl (.holed (some t) i (some st.ep)) e ys)),none⟩,⟨λx hx=>?_,λb' hb'=>?_,λ_ hh=>by cases hh⟩,rfl,λst2 ha=>?_⟩;simp only[bG]at hx;subst hx;simp[writes,hd];cases hb';simp only[Cf,ho,hd,hmv,ah,ht,heb];simp;have h2:=((Kz (E:=E) (X:=X) (st:=st2) ht ho hd hmv hmb).2 ⟨g,e,offs,b,j,t,ep0,x,i,cs,ys,y,hT,by rw[ha.rd (λt ht=>by simpa[dR,ho]using ht)];exact hp,by rw[ha.box b hX];exact hcs,hj,hi,hX,heb,hfm,rfl⟩).2;simp only[dq,ho];rw[h2];simp only[Fh,ha.ep];rfl
theorem TA (ho:o.op=.load T p)(hm:na an o=true)(hfree:dF E an X o st=true)(h:oy E an o T p st some=some st'):eJ E Γ an X o st st':=by
 cases hE:B8 an o with|true=>exact Q7 hE ho hfree h|false=> ?_
 have hr:∀st2,hH an X o st st2->st2.rd p=st.rd p:=λst2 ha=>ha.rd (λt ht=>by simpa[dR,ho]using ht);have htk:Cc an o=false:=by simp only[na,ho,hE,Bool.or_false]at hm;unfold Cc;cases hdd:o.dst with|none=>rfl|some d=>rw[hdd]at hm;simp only[cG,aL]at hm;rcases hm with hm|hm;simp only[hm,fi];cases hmb:an.mb d with|none=>rw[hmb]at hm;cases hm|some _=>simp[hmb]
 unfold oy at h;split at h;rename_i sh s off hT hp;simp only[dF,ho,hp,ae,aL]at hfree;split at h;rename_i cs hb;split at h;rename_i hfit;split at h;rename_i d hd;have hbx:∀st2,hH an X o st st2->nth st2.boxes s=nth st.boxes s:=λst2 ha=>ha.box s hfree.1.1;cases hf:an.mv.contains d with
 |false=>simp only[hf,ba,cl]at h;cases h;refine eJ.put (by rw[hd]) λst2 ha=>?_;simp only[dq,ho,oy,hT,hr st2 ha,hp,hbx st2 ha,hb,aH hfit,hd,hf,ba,cl,ha.ep]
 |true=>
  simp only[hf,bU]at h;have hmb:an.mb d=some s:=by have:=hfree.1.2;rw[hd]at this;simp only[hf,aj,cz,bq]at this;exact this
  cases h;refine⟨⟨[(d,.val sh.agg ((cs.drop off).take sh.ct.size))],some (s,eK cs off (aV st.ep ((cs.drop off).take sh.ct.size))),none⟩,⟨λx hx=>?_,λb hb'=>?_,λ_ hh=>by cases hh⟩,?_,λst2 ha=>?_⟩;simp only[bG]at hx;subst hx;simp[writes,hd];cases hb';simp only[Cf,ho,hd,hf,ah,hmb];simp;rw[JI,hd];simp only[dq,ho,oy,hT,hr st2 ha,hp,hbx st2 ha,hb,aH hfit,hd,hf,bU,ha.ep,JI]
 cases h;cases h;cases h;rename_i sh fl e x i off hT hp;rw[aI (by simp[htk])]at h;split at h;rename_i hl;split at h;rename_i hfit;cases h;refine eJ.put rfl λst2 ha=>?_;simp only[dq,ho,oy,hT,hr st2 ha,hp,ha.ep,htk,ba,cl,aH hl,aH hfit];cases h;rename_i hl;have hroot:∀r t ep0,fl=.loc ep0 (some (r,t))->∀st2,hH an X o st st2->st2.fB r=st.fB r:=by rintro r t ep0 rfl st2 ha;simp only[dF,ho,hp,hE,cd,iT,iq,ae,cG]at hfree;rcases hfree.1.1 with hq|hq;exact absurd hq hl;cases r with|slot b j=>simp only[AS.fB];rw[ha.er b (by simpa using hq)]|box b j=>simp only[AS.fB];rw[ha.box b (by simpa using hq)]|io j=>cases hq
 unfold AG at h;split at h;rename_i ep0 r t;split at h;rename_i t' e' ys hrg;split at h;rename_i he;split at h;rename_i hc;cases hi:idx (he▸ys:List _) i with|none=>rw[hi]at h;cases h|some y=>rw[hi]at h;simp only[aa]at h;cases h;refine eJ.put rfl λst2 ha=>?_;simp only[dq,ho,oy,hT,hr st2 ha,hp,ha.ep,htk,ba,cl,aI hl,AG,hroot _ _ _ rfl st2 ha,hrg,dif_pos he,aH hc,hi,aa]
 cases h;cases h;cases h;cases h;cases h
theorem JM (ho:o.op=.nilCheck x)(h:dq E Γ an o st some=some st'):eJ E Γ an X o st st':=by have hr:∀st2,hH an X o st st2->st2.rd x=st.rd x:=λst2 ha=>ha.rd (λt ht=>by simpa[dR,ho]using ht);simp only[dq,ho]at h;split at h;rename_i s off hx;cases h;refine eJ.put rfl λst2 ha=>?_;simp only[dq,ho,hr st2 ha,hx];rename_i fl e y i off hx;cases h;refine eJ.put rfl λst2 ha=>?_;simp only[dq,ho,hr st2 ha,hx];cases h
theorem KI {op:BinOp}{x y:AV}(h:(CN op x y λc=>some (st.put o.dst (.one c)))=some st'):∃v,st'=st.put o.dst v/\∀st2:AS,(CN op x y λc=>some (st2.put o.dst (.one c)))=some (st2.put o.dst v):=by have key:∀s:AS,(CN op x y λc=>some (s.put o.dst (.one c)))=(CN op x y some).bind λc=>some (s.put o.dst (.one c)):=λs=>(Cl op x y some _).symm;rw[key st]at h;cases hb:CN op x y some with|none=>rw[hb]at h;cases h|some c=>rw[hb]at h;cases h;exact⟨_,rfl,λst2=>by rw[key st2,hb];rfl⟩
theorem MJ {op:BinOp}{b:Bool}(h:(Bc op b λc=>some (st.put o.dst (.one c)))=some st'):∃v,st'=st.put o.dst v/\∀st2:AS,(Bc op b λc=>some (st2.put o.dst (.one c)))=some (st2.put o.dst v):=by unfold Bc at h;split at h;cases h;exact⟨_,rfl,λst2=>rfl⟩;cases h;exact⟨_,rfl,λst2=>rfl⟩;cases h
theorem Xd {op:BinOp}{T':TypeId}{y:Operand}(ho:o.op=.binOp op T x y T')(h:yq E o op T x y st some=some st'):eJ E Γ an X o st st':=by
 have hr:∀st2,hH an X o st st2->st2.rd x=st.rd x/\st2.rd y=st.rd y:=λst2 ha=>
  ⟨ha.rd (λt ht=>by simp[dR,ho,ht]),ha.rd (λt ht=>by simp[dR,ho,ht])⟩
 unfold yq at h;split at h;rename_i a b hx hy;split at h;rename_i hT;obtain⟨v,rfl,hv⟩:=KI h;refine eJ.put rfl λst2 ha=>?_;simp only[dq,ho,yq,(hr st2 ha).1,(hr st2 ha).2,hx,hy,aH hT];exact hv st2;cases h;rename_i xs ys hx hy;split at h;rename_i ls hq;split at h;rename_i hfit;obtain⟨v,rfl,hv⟩:=KI h;refine eJ.put rfl λst2 ha=>?_;simp only[dq,ho,yq,(hr st2 ha).1,(hr st2 ha).2,hx,hy,hq,aH hfit];exact hv st2;cases h;cases h;rename_i fl e xs hx hy;split at h;rename_i hT;split at h;cases h;rename_i hlen;obtain⟨v,rfl,hv⟩:=MJ h;refine eJ.put rfl λst2 ha=>?_;simp only[dq,ho,yq,(hr st2 ha).1,(hr st2 ha).2,hx,hy,ha.ep,aH hT,aI hlen];exact hv st2;cases h;rename_i hx hy;split at h;rename_i hT;obtain⟨v,rfl,hv⟩:=MJ h;refine eJ.put rfl λst2 ha=>?_;simp only[dq,ho,yq,(hr st2 ha).1,(hr st2 ha).2,hx,hy,aH hT];exact hv st2;cases h;rename_i a b hn1 hn2 hn3 hn4;obtain⟨v,rfl,hv⟩:=KI h;refine eJ.put rfl λst2 ha=>?_;simp only[dq,ho,yq,(hr st2 ha).1,(hr st2 ha).2];exact hv st2
theorem ZM {op:UnOp}(ho:o.op=.unOp op T x)(h:(unC op (st.rd x) λc=>some (st.put o.dst (.one c)))=some st'):eJ E Γ an X o st st':=by have hr:∀st2,hH an X o st st2->st2.rd x=st.rd x:=λst2 ha=>ha.rd (λt ht=>by simpa[dR,ho]using ht);have key:∀s:AS,(unC op (st.rd x) λc=>some (s.put o.dst (.one c)))=(unC op (st.rd x) some).bind λc=>some (s.put o.dst (.one c)):=λs=>(R5 op (st.rd x) some _).symm;rw[key st]at h;cases hb:unC op (st.rd x) some with|none=>rw[hb]at h;cases h|some c=>rw[hb]at h;cases h;refine eJ.put rfl λst2 ha=>?_;simp only[dq,ho,hr st2 ha];rw[key st2,hb];rfl
theorem Q3 {S:TypeId}{f:Nat}(ho:o.op=.fieldAddr S p f)(h:xQ E o S p f st some=some st'):eJ E Γ an X o st st':=by have hr:∀st2,hH an X o st st2->st2.rd p=st.rd p:=λst2 ha=>ha.rd (λt ht=>by simpa[dR,ho]using ht);unfold xQ at h;split at h;rename_i hT hp;split at h;rename_i hf;cases h;refine eJ.put rfl λst2 ha=>?_;simp only[dq,ho,xQ,hr st2 ha,hT,hp,hf];cases h;rename_i hT hp;split at h;rename_i hf;cases h;refine eJ.put rfl λst2 ha=>?_;simp only[dq,ho,xQ,hr st2 ha,hT,hp,hf];cases h;cases h
theorem xF {s:AS}(h:v.now s.ep=true):v.fresh s=v:=by
 cases v with
 |tup vs=>rfl
 |val g cs=>
  simp only[AV.now,aJ]at h;simp only[AV.fresh];congr 1;have:cs.map s.fresh=cs.map id:=List.map_congr_left λc hc=>by have hn:=h c hc;unfold AS.fresh;split;simp only[AC.now]at hn;rw[hn];rfl;rfl
  rw[this,List.map_id]
theorem PX {st st2:AS}(he:st2.ep=st.ep)(h:v.now st.ep=true\/∃g ep b j t e xs,v=.val g [.sl (.loc ep (some (.box b j,t))) e xs]/\nth st2.boxes b=nth st.boxes b):v.fresh st2=v.fresh st:=by rcases h with h|⟨g,ep,b,j,t,e,xs,rfl,hb⟩;rw[xF h,xF (by rw[he];exact h)];simp only[AV.fresh,cU,List.map_nil];congr 2;unfold AS.fresh;simp only[AS.fB,he,hb]
theorem HB {i:Operand}(ho:o.op=.indexAddr T x i)(hfree:dF E an X o st=true)(h:lZ E o T x i st some=some st'):eJ E Γ an X o st st':=by
 have hr:∀st2,hH an X o st st2->st2.rd x=st.rd x/\st2.rd i=st.rd i:=λst2 ha=>
  ⟨ha.rd (λt ht=>by simp[dR,ho,ht]),ha.rd (λt ht=>by simp[dR,ho,ht])⟩
 have hf2:∀st2,hH an X o st st2->(st.rd x).fresh st2=(st.rd x).fresh st:=λst2 ha=>by refine PX ha.ep ?_;simp only[dF,ho,cG]at hfree;rcases hfree with hn|hn;exact .inl hn;split at hn;rename_i g ep b j t e xs hx;exact .inr ⟨g,ep,b,j,t,e,xs,hx,ha.box b (by simpa using hn)⟩;cases hn
 unfold lZ at h;split at h;rename_i e' fl e xs k n hT hx hi;split at h;rename_i hc;cases hix:idx xs n with|none=>rw[hix]at h;cases h|some y=>rw[hix]at h;cases h;refine eJ.put rfl λst2 ha=>?_;have hf3:=hf2 st2 ha;rw[hx]at hf3;simp only[dq,ho,lZ,(hr st2 ha).1,(hr st2 ha).2,hf3,hT,hi,ha.ep,aH hc,hix,aa]
 cases h;cases h
theorem Q4 {i:Operand}(ho:o.op=.index T x i)(h:yV E o T x i st some=some st'):eJ E Γ an X o st st':=by
 have hr:∀st2,hH an X o st st2->st2.rd x=st.rd x/\st2.rd i=st.rd i:=λst2 ha=>
  ⟨ha.rd (λt ht=>by simp[dR,ho,ht]),ha.rd (λt ht=>by simp[dR,ho,ht])⟩
 unfold yV at h;split at h;rename_i s k n hx hi;split at h;rename_i hc;cases hix:idx s n with|none=>rw[hix]at h;cases h|some y=>rw[hix]at h;cases h;refine eJ.put rfl λst2 ha=>?_;simp only[dq,ho,yV,(hr st2 ha).1,(hr st2 ha).2,hx,hi,aH hc,hix,aa]
 cases h;cases h
theorem eJ.new (h:st'=(st.fU o.dst).put o.dst v)(h2:∀st2,hH an X o st st2->dq E Γ an o st2 some=some ((st2.fU o.dst).put o.dst v)):eJ E Γ an X o st st':=⟨DX o v,Lo v,by rw[Fj];exact h,λst2 ha=>by rw[Fj];exact h2 st2 ha⟩
theorem hH.iu (ha:hH an X o st st2):st2.iu o.dst=st.iu o.dst:=by funext j;cases hd:o.dst with|none=>rfl|some d=>simp only[AS.iu,(ha.dst d hd).1]
theorem EN {lo hi:aB Operand}{n:Nat}{f:AS->Int->Int->aB AS}(hs:∀st2,hH an X o st st2->lo.map st2.rd=lo.map st.rd/\hi.map st2.rd=hi.map st.rd)(h:mr st lo hi n (f st)=some st'):∃a b,f st a b=some st'/\∀st2,hH an X o st st2->mr st2 lo hi n (f st2)=f st2 a b:=by unfold mr at h;split at h;rename_i h1 h2;exact⟨_,_,h,λst2 ha=>by simp only[mr,(hs st2 ha).1,(hs st2 ha).2,h1,h2]⟩;rename_i h1 h2;exact⟨_,_,h,λst2 ha=>by simp only[mr,(hs st2 ha).1,(hs st2 ha).2,h1,h2]⟩;rename_i h1 h2;exact⟨_,_,h,λst2 ha=>by simp only[mr,(hs st2 ha).1,(hs st2 ha).2,h1,h2]⟩;rename_i h1 h2;exact⟨_,_,h,λst2 ha=>by simp only[mr,(hs st2 ha).1,(hs st2 ha).2,h1,h2]⟩;cases h
theorem Q5 {lo hi:aB Operand}(ho:o.op=.slice T x lo hi none)(hm:na an o=true)(hfree:dF E an X o st=true)(h:yi E an o T x lo hi st some=some st'):eJ E Γ an X o st st':=by
 have hr:∀st2,hH an X o st st2->st2.rd x=st.rd x:=λst2 ha=>ha.rd (λt ht=>by simp[dR,ho,ht]);have hb:∀st2,hH an X o st st2->lo.map st2.rd=lo.map st.rd/\hi.map st2.rd=hi.map st.rd:=by
  intro st2 ha;constructor;cases lo with|none=>rfl|some y=>simp only[dz];rw[ha.rd (λt ht=>by simp[dR,ho,tmO,ht])]
  cases hi with|none=>rfl|some y=>simp only[dz];rw[ha.rd (λt ht=>by simp[dR,ho,tmO,ht])]
 have hnow:(st.rd x).now st.ep=true:=by simpa[dF,ho]using hfree
 have hf2:∀st2,hH an X o st st2->(st.rd x).fresh st2=st.rd x:=λst2 ha=>xF (by rw[ha.ep];exact hnow);have htk:Cc an o=false:=by simpa[na,ho]using hm
 unfold yi at h;rw[aI (by simp[htk]),xF hnow]at h;split at h;rename_i s hx;split at h;rename_i hT;obtain⟨a,b,h1,h2⟩:=EN (f:=λs0 a b=>aa (sub s a b) λs'=>some (s0.put o.dst (.one (.str s')))) hb h;cases hsub:sub s a b with|none=>rw[hsub]at h1;cases h1|some s'=>rw[hsub]at h1;cases h1;refine eJ.put rfl λst2 ha=>?_;have hf3:=hf2 st2 ha;rw[hx]at hf3;simp only[dq,ho,yi,htk,ba,cl,hr st2 ha,hx,hf3,aH hT];rw[h2 st2 ha,hsub];rfl
 cases h;rename_i fl e xs hx;split at h;rename_i hT;obtain⟨a,b,h1,h2⟩:=EN (f:=λs0 a b=>aa (sub xs a b) λxs'=>some (s0.put o.dst (.one (.sl (JX an o fl a) e xs')))) hb h;cases hsub:sub xs a b with|none=>rw[hsub]at h1;cases h1|some s'=>rw[hsub]at h1;cases h1;refine eJ.put rfl λst2 ha=>?_;have hf3:=hf2 st2 ha;rw[hx]at hf3;simp only[dq,ho,yi,htk,ba,cl,hr st2 ha,hx,hf3,ha.ep,aH hT];rw[h2 st2 ha,hsub];rfl
 cases h;cases h
theorem Dr {args:ax Operand}(hl:∀t,t∈Ll args->t∈dR o)(ha:hH an X o st st2):args.map st2.rd=args.map st.rd:=by apply List.map_congr_left;intro x hx;exact ha.rd (λt ht=>hl t (by simp only[Ll,List.mem_flatMap];exact⟨x,hx,ht⟩))
theorem Xf (ho:o.op=.call {callee:=.builtin .len,args,argTypes:=ts})(h:JF E o ts.toList args.toList st some=some st'):eJ E Γ an X o st st':=by have hr:∀st2,hH an X o st st2->args.toList.map st2.rd=args.toList.map st.rd:=λst2 ha=>Dr (λt ht=>by simp only[dR,ho];exact ht) ha;unfold JF at h;split at h;rename_i t s hts hx;split at h;rename_i hT;cases h;refine eJ.put rfl λst2 ha=>?_;simp only[dq,ho,JF,hr st2 ha,hts,hx,aH hT];cases h;rename_i t _ _ xs hts hx;split at h;rename_i hT;cases h;refine eJ.put rfl λst2 ha=>?_;simp only[dq,ho,JF,hr st2 ha,hts,hx,aH hT];cases h;cases h
theorem Xh (ho:o.op=.call {callee:=.builtin .min,args,argTypes:=ts})(h:K3 o args.toList st some=some st'):eJ E Γ an X o st st':=by have hr:∀st2,hH an X o st st2->args.toList.map st2.rd=args.toList.map st.rd:=λst2 ha=>Dr (λt ht=>by simp only[dR,ho];exact ht) ha;unfold K3 at h;split at h;rename_i hx;cases h;refine eJ.put rfl λst2 ha=>?_;simp only[dq,ho,K3,hr st2 ha,hx];cases h
theorem Xg (ho:o.op=.call {callee:=.builtin .max,args,argTypes:=ts})(h:K2 o args.toList st some=some st'):eJ E Γ an X o st st':=by have hr:∀st2,hH an X o st st2->args.toList.map st2.rd=args.toList.map st.rd:=λst2 ha=>Dr (λt ht=>by simp only[dR,ho];exact ht) ha;unfold K2 at h;split at h;rename_i hx;cases h;refine eJ.put rfl λst2 ha=>?_;simp only[dq,ho,K2,hr st2 ha,hx];cases h
theorem WX {l:fF}{c:AC}(h:c.aaj l=true)(hl:∀t∈l,st2.get t=st.get t):st2.K0 c=st.K0 c:=by
 cases c with
 |sl fl e xs=>
  cases fl with
  |loc ep pv=>cases pv with|none=>rfl|some q=>obtain⟨r,t⟩:=q;cases r with|slot b j=>have hb:st2.get b=st.get b:=hl b (by simpa[AC.aaj]using h);simp only[AS.K0,AS.fB,hb]|box _ _=>rfl|io _=>rfl
  |_=>rfl
 |_=>rfl
theorem To {l:fF}(hx:E0 l st x=true)(hl:∀t∈l,st2.get t=st.get t)(h:∀t∈tm x,st2.get t=st.get t):yE st2 x=yE st x/\zH st2 x=zH st x:=by
 cases x with
 |tmp t=>have ht:=h t (by simp[tm]);simp only[E0]at hx;cases hg:st.get t with|tup vs=>exact⟨by simp only[yE,ht,hg],by simp only[zH,ht,hg]⟩|val g cs=>rw[hg]at hx;have hm:cs.map st2.K0=cs.map st.K0:=List.map_congr_left λc hc=>WX (aJ.1 hx c hc) hl;exact⟨by simp only[yE,ht,hg,hm],by simp only[zH,ht,hg,hm]⟩
 |const v=>exact⟨rfl,rfl⟩
 |func f=>exact⟨rfl,rfl⟩
 |global g=>exact⟨rfl,rfl⟩
theorem K4 (ho:o.op=.call {callee:=.value f,args,argTypes:=ts})(hfree:dF E an X o st=true){k:Nat}(hf:st.rd f=.val false [.fn k])(hbx:(Γ k).bx=true)(hcur:(Γ k).cur=true)(h:th Γ o k args.toList st some=some st'):eJ E Γ an X o st st':=by
 unfold th at h;split at h;rename_i x0 xs hargs;split at h;rename_i s hx0;have hfr:rV an X (Yt an o) st (x0::xs)=true:=by have h1:=hfree;simp only[dF,ho,ae]at h1;rw[<-hargs];exact h1.1
 have hx1:∃q,x0=.tmp q/\X.contains s=false/\an.sb q=some s/\(match (nth st.boxes s).getD none with|some cs=>cs.all AC.D4|none=>true)=true/\xs.all (E0 (Yt an o) st)=true:=by cases x0 with|tmp q=>simp only[rV,hx0,YQ,ae,aL,bq]at hfr;exact⟨q,rfl,hfr.1.1.1,hfr.1.1.2,hfr.1.2,hfr.2⟩|const v=>simp only[rV,hx0,AV.Vo]at hfr;cases hfr|func v=>simp only[rV,hx0,AV.Vo]at hfr;cases hfr|global v=>simp only[rV,hx0,AV.Vo]at hfr;cases hfr
 obtain⟨q,rfl,hX,hsb,hall,hself⟩:=hx1;split at h;rename_i cs hb0;rw[hb0]at hall;simp only at hall;cases hc:(cs.all (AC.wL (AX cs))&&xs.all (zH st))with
 |false=>rw[hc]at h;cases h
 |true=>
  rw[hc]at h;simp only[ah]at h;cases hres:(Γ k).fn (.val true (cs.map AC.ON)::xs.map (yE st))with
  |none=>rw[hres]at h;cases h
  |some y=>
   rw[hres]at h;simp only[aa]at h;cases hc2:(((Γ k).back y).all (AC.wL true)&&((Γ k).av y).Xk)with
   |false=>rw[hc2]at h;cases h
   |true=>
    rw[hc2]at h;simp only[ah,hcur,hall,dL,bj]at h;subst h;refine⟨⟨o.dst.toList.map λd=>(d,((Γ k).av y).AY st.ep (st.iu o.dst)),some (s,oL (AX cs) (λ_=>none) 0 ((Γ k).back y)),o.dst⟩,⟨λx hx=>?_,λb hb=>?_,λd hd=>hd⟩,?_,λst2 ha=>?_⟩;simp only[eQ]at hx;obtain⟨d,hd,rfl⟩:=hx;simp[writes,hd];cases hb;simp[Cf,ho,hargs,hsb];unfold Fo.apply AS.put AS.fU AS.fg;cases o.dst<;>rfl;have e1:st2.rd f=st.rd f:=ha.rd (λt ht=>by simp[dR,ho,ht]);have hl:∀x∈Operand.tmp q::xs,∀t∈tm x,t∈dR o:=by intro x hx t ht;simp only[dR,ho,aw,Ll,List.mem_flatMap,hargs];exact .inr ⟨x,hx,ht⟩
    have e2:st2.rd (.tmp q)=st.rd (.tmp q):=ha.rd (hl _ (by simp));have e3:nth st2.boxes s=nth st.boxes s:=ha.box s hX;have e4:∀x∈xs,yE st2 x=yE st x/\zH st2 x=zH st x:=λx hx=>To (aJ.1 hself x hx) ha.er λt ht=>ha.get t (hl x (by simp[hx]) t ht);have e5:xs.map (yE st2)=xs.map (yE st):=List.map_congr_left λx hx=>(e4 x hx).1;have e6:xs.all (zH st2)=xs.all (zH st):=by rw[dS];simp only[aJ];exact⟨λg x hx=>by rw[<-(e4 x hx).2];exact g x hx,λg x hx=>by rw[(e4 x hx).2];exact g x hx⟩
    simp only[dq,ho,Ba,e1,hf,hbx,ah,th,hargs,e2,hx0,e3,hb0,e5,e6,hc,hres,aa,hc2,hcur,hall,dL,ha.ep,ha.iu];unfold Fo.apply AS.put AS.fU AS.fg;cases o.dst<;>rfl
 cases h;cases h;cases h
theorem Tz (hΓ:∀f,(Γ f).io=false/\((Γ f).bx=true->(Γ f).cur=true)/\(Γ f).pr=false)(ho:o.op=.call {callee:=.value f,args,argTypes:=ts})(hfree:dF E an X o st=true)(h:Ba Γ o f args.toList st some=some st'):eJ E Γ an X o st st':=by
 have hr:∀st2,hH an X o st st2->st2.rd f=st.rd f/\(args.toList.map λx=>((st2.rd x).fresh st2).asArg st2.ep)=args.toList.map λx=>((st.rd x).fresh st).asArg st.ep:=by
  intro st2 ha;refine⟨ha.rd (λt ht=>by simp[dR,ho,ht]),?_⟩;apply List.map_congr_left;intro x hx;have hnow:(st.rd x).now st.ep=true:=by simp only[dF,ho,ae,aJ]at hfree;exact hfree.2 x hx
  rw[ha.rd (λt ht=>by simp only[dR,ho,aw,Ll,List.mem_flatMap];exact .inr ⟨x,hx,ht⟩),xF hnow,xF (s:=st2) (by rw[ha.ep];exact hnow),ha.ep]
 unfold Ba at h;split at h
 ·rename_i k hf
  cases hbx:(Γ k).bx with
  |true=>rw[hbx]at h;exact K4 ho hfree hf hbx ((hΓ k).2.1 hbx) h
  |false=>
  rw[hbx,(hΓ k).2.2,(hΓ k).1]at h
  simp only[af]at h
  cases hg:(Γ k).fn (args.toList.map λx=>((st.rd x).fresh st).asArg st.ep)with
  |none=>rw[hg]at h;cases h
  |some y=>
   rw[hg]at h
   simp only[aa]at h
   cases hsel:(Γ k).sel y with
   |true=>
    rw[hsel]at h
    cases h
    refine eJ.new rfl λst2 ha=>?_
    simp only[dq,ho,Ba,(hr st2 ha).1,hf,(hΓ k).1,hbx,(hΓ k).2.2,af]
    rw[(hr st2 ha).2,hg]
    simp only[aa,hsel,ah,ha.ep,ha.iu]
   |false=>
    rw[hsel]at h
    cases h
    refine eJ.new rfl λst2 ha=>?_
    simp only[dq,ho,Ba,(hr st2 ha).1,hf,(hΓ k).1,hbx,(hΓ k).2.2,af]
    rw[(hr st2 ha).2,hg]
    simp only[aa,hsel,af,ha.ep,ha.iu]
 cases h
theorem K5 {src dst:TypeId}(ho:o.op=.convert src dst x)(h:lq E o src dst x st some=some st'):eJ E Γ an X o st st':=by
 have hr:∀st2,hH an X o st st2->st2.rd x=st.rd x:=λst2 ha=>ha.rd (λt ht=>by simpa[dR,ho]using ht);unfold lq at h;split at h;rename_i h1 h2 h3;cases h;refine eJ.put rfl λst2 ha=>?_;simp only[dq,ho,lq,hr st2 ha,h1,h2,h3];rename_i h1 h2 h3;cases h;refine eJ.put rfl λst2 ha=>?_;simp only[dq,ho,lq,hr st2 ha,h1,h2,h3];rename_i offs val s hno h1 h2 h3;split at h;rename_i hb;unfold room at h;split at h;rename_i hrm;cases h;refine eJ.new (v:=.one (.sl (.own (st.iu o.dst 0)) (.int .u8) (dD s))) rfl λst2 ha=>?_;have hval:∀k:AS->aB AS,lq E o src dst x st2 k=if E.bytes dst then room s.length (k (st2.oV o.dst (.int .u8) (dD s))) else none:=by intro k;unfold lq;rw[hr st2 ha,h1,h2,h3];obtain⟨ag,ct,of⟩:=val;cases ag with|true=>rfl|false=>cases ct with|str=>exact(hno _ rfl).elim|_=>rfl
 simp only[dq,ho];rw[hval,aH hb,room,aH hrm,AS.oV,ha.iu];cases h;cases h;rename_i val offs fl xs h1 h2 h3;split at h;rename_i hb;cases h;refine eJ.put rfl λst2 ha=>?_;have hval:∀k:AS->aB AS,lq E o src dst x st2 k=if E.bytes src/\fl.live st2.ep then k (st2.put o.dst (.one (.str (aM xs)))) else none:=by intro k;unfold lq;rw[hr st2 ha,h1,h2,h3];obtain⟨ag,ct,of⟩:=val;cases ag with|true=>rfl|false=>cases ct<;>rfl
 simp only[dq,ho];rw[hval,ha.ep,aH hb];cases h;cases h
theorem Gu {d:Nat}:(⟨[(d,v)],some (d,cs),none⟩:Fo).apply st=(st.fg d (some cs)).put (some d) v:=rfl
theorem Q1 (ho:o.op=.alloc T)(h:zU E o T st some=some st'):eJ E Γ an X o st st':=by unfold zU at h;split at h;rename_i d sh hd hT;split at h;rename_i hb;cases h;refine⟨⟨[(d,.one (.ptr d 0))],some (d,cellsOf sh.ct (.own none) sh.ct.zero),none⟩,⟨λx hx=>?_,λb hb'=>?_,λ_ hh=>by cases hh⟩,?_,λst2 ha=>?_⟩;simp only[bG]at hx;subst hx;simp[writes,hd];cases hb';simp[Cf,ho,hd];rw[Gu,hd];simp only[dq,ho,zU,hd,hT,(ha.dst d hd).2,hb,Gu];cases h;cases h
def nE (st:AS):Operand->ax (Nat×AV)
 | .tmp t=>[(t,(st.get t).aV st.ep)]
 |_=>[]
theorem yY (l:ax AV)(a b:ax (Nat×AV)):jP l (a++b)=jP (jP l a) b:=by induction a generalizing l with|nil=>rfl|cons x a ih=>exact ih _
def AS.jY (st:AS)(l:ax (Nat×AV)):AS:={st with slots:=jP st.slots l}
theorem qb (a b:ax (Nat×AV)):st.jY (a++b)=(st.jY a).jY b:=by simp only[AS.jY,yY]
theorem zR (x:Operand):(st.take x).2=st.jY (nE st x):=by cases x<;>rfl
theorem AL (hep:st2.ep=st.ep)(h:∀t∈tm x,st2.get t=st.get t):(st2.take x).1=(st.take x).1/\(st2.take x).2=st2.jY (nE st x):=by cases x with|tmp t=>have:=h t (by simp[tm]);refine⟨this,?_⟩;rw[zR];simp only[nE,this,hep]|const v=>exact⟨rfl,rfl⟩|func f=>exact⟨rfl,rfl⟩|global g=>exact⟨rfl,rfl⟩
theorem Fi:∀y∈nE st x,y.1∈tm x:=by cases x<;>simp[nE,tm]
theorem TB (ho:o.op=.move x)(h:zK an o x st some=some st'):eJ E Γ an X o st st':=by
 unfold zK at h;cases hd:o.dst with
 |none=>rw[hd]at h;cases h
 |some d=>
  rw[hd]at h;cases hf:an.mv.contains d with
  |false=>simp only[hf,ba,cl]at h;cases h;refine eJ.put (v:=st.rd x) (by rw[hd]) λst2 ha=>?_;have hr:st2.rd x=st.rd x:=ha.rd (λt ht=>by simpa[dR,ho]using ht);simp only[dq,ho,zK,hd,hf,ba,cl,hr]
  |true=>
   simp only[hf,bU]at h;cases h;have hr:∀st2,hH an X o st st2->(st2.take x).1=(st.take x).1/\(st2.take x).2=st2.jY (nE st x):=λst2 ha=>AL ha.ep λt ht=>ha.get t (by simpa[dR,ho]using ht);refine⟨⟨nE st x++[(d,(st.take x).1)],none,none⟩,⟨λy hy=>?_,λ_ hh=>(by cases hh),λ_ hh=>(by cases hh)⟩,?_,λst2 ha=>?_⟩;rcases aw.1 hy with hy|hy;have:=Fi y hy;have hf':d∈an.mv:=by simpa using hf
   simp[writes,Ca,ho,hd,hf',dR,this];simp only[bG]at hy;subst hy;simp[writes,hd];rw[zR];show _=st.jY _;rw[qb];rfl;simp only[dq,ho,zK,hd,hf,bU,(hr st2 ha).1,(hr st2 ha).2];show some ((st2.jY (nE st x)).put (some d) (st.take x).1)=some (st2.jY _);rw[qb];rfl
theorem PN {ep:Nat}(h:cs.all AC.jx=true):aV ep cs=cs:=by
 rw[aJ]at h;unfold aV;have:cs.map (AC.borrow ep none)=cs.map id:=List.map_congr_left λc hc=>by have:=h c hc;cases c<;>first|rfl|(simp[AC.jx]at this)
 rw[this,List.map_id]
theorem acY {s:AS}{vs:ax (Bool×ax AC)}(h:s.get t=.tup vs):s.put (some t) (.tup vs)=s:=by cases s with|mk slots boxes ep iss io=>simp only[AS.put,AS.mk.injEq,iU];rw[fT];apply cV;intro i;rw[bC];split;rename_i hd;subst hd;simp only[AS.get,dX]at h;split;rename_i hlt;rw[al hlt]at h⊢;simp only[fX]at h;rw[h];rename_i hge;rw[bH (Nat.le_of_not_lt hge)];rfl
theorem K6 {i:Nat}(ho:o.op=.extract (.tmp t) i)(hfree:dF E an X o st=true)(h:lu o t i st some=some st'):eJ E Γ an X o st st':=by
 have hr:∀st2,hH an X o st st2->st2.get t=st.get t:=λst2 ha=>ha.get t (by simp[dR,ho]);unfold lu at h;simp only[dF,ho]at hfree;split at h
 ·rename_i vs hv;rw[hv]at hfree;split at h
  ·rename_i g cs hn;simp only[hn]at hfree;have hfl:cs.all AC.jx=true\/∃d,o.dst=some d/\an.mv.contains d=true:=by cases hd:o.dst with|none=>simp only[hd,Bool.or_false]at hfree;exact .inl hfree|some d=>simp only[hd,cG]at hfree;rcases hfree with h|h;exact .inl h;exact .inr ⟨d,rfl,h⟩
   rcases hfl with hfree|⟨d,hd,hmv⟩;rotate_left;cases h;refine⟨⟨[(t,.tup (ie vs i (g,aV 0 cs))),(d,.val g cs)],none,none⟩,⟨λx hx=>?_,(λ_ hb=>by cases hb),(λ_ hh=>by cases hh)⟩,?_,λst2 ha=>?_⟩;simp only[cA,List.not_mem_nil,or_false]at hx;rcases hx with rfl|rfl;simp only[writes,Ca,ho,hd,hmv,ah,dR];simp;simp only[writes,hd];simp;rw[hd];rfl;have h2:st2.get t=.tup vs:=by rw[hr st2 ha,hv]
   simp only[dq,ho,lu,h2,hn,hd];rfl;skip;have hset:ie vs i (g,cs)=vs:=by rw[fT];rw[dX]at hn;apply cV;intro k;rw[bC];split;rename_i hk;subst hk;obtain⟨hl,he⟩:=aA.1 hn;rw[aH hl,hn];rfl
   have key:∀s:AS,s.get t=.tup vs->(s.put (some t) (.tup (ie vs i (g,aV 0 cs))))=s:=λs hs=>by rw[PN hfree,hset,acY hs]
   rw[key st hv]at h;cases h;refine eJ.put rfl λst2 ha=>?_;have h2:st2.get t=.tup vs:=by rw[hr st2 ha,hv]
   simp only[dq,ho,lu,h2,hn];rw[key st2 h2]
  cases h
 cases h
def xz (st:AS):Operand->ax (Nat×AV)
 | .tmp t=>[(t,(st.get t).aV st.ep)]
 |_=>[]
theorem KC (st:AS)(x:Operand):(st.take x).2=⟨jP st.slots (xz st x),st.boxes,st.ep,st.iss,st.io⟩:=by cases x<;>rfl
theorem Q6 {pp:Nat}(ho:o.op=.store T (.tmp pp) x)(hd:o.dst=none)(hm:na an o=true)(hfree:dF E an X o st=true)(h:uT E T (.tmp pp) x st some=some st'):eJ E Γ an X o st st':=by
 have hr:∀st2,hH an X o st st2->st2.rd (.tmp pp)=st.rd (.tmp pp):=λst2 ha=>ha.rd (λt ht=>by simp only[dR,ho,aw];exact .inl ht);have hsb:(an.sb pp).isNone=false:=by simp only[na,ho,ae]at hm;cases hb:an.sb pp with|none=>rw[hb]at hm;cases hm.1|some _=>rfl
 simp only[dF,ho,hsb,fi,cz]at hfree;unfold uT at h;split at h;rename_i sh s off hT hp;rw[hp]at hfree;simp only[ae,aL,bq]at hfree;split at h;rename_i gg vs st1 htk;have htk1:(st.take x).1=.val gg vs:=by rw[htk]
 have hst1:st1=⟨jP st.slots (xz st x),st.boxes,st.ep,st.iss,st.io⟩:=by rw[<-KC,htk]
 split at h;rename_i cs hb;split at h;rename_i hlen;split at h;rename_i hfit;cases h;have hbx:∀st2,hH an X o st st2->nth st2.boxes s=nth st.boxes s:=λst2 ha=>ha.box s hfree.1;refine⟨⟨xz st x,some (s,eK cs off vs),none⟩,⟨λy hy=>?_,λb hb'=>?_,λ_ hh=>by cases hh⟩,?_,λst2 ha=>?_⟩;cases x with|tmp t=>simp only[xz,bG]at hy;subst hy;simp only[writes,Ca,ho,ah,dR,hd];simp[tm]|_=>simp[xz]at hy
 cases hb';simp only[Cf,ho,hfree.2];simp;rw[hst1];rfl;have hx2:(st2.take x).1=(st.take x).1/\xz st2 x=xz st x:=by cases x with|tmp t=>have hg:st2.get t=st.get t:=ha.get t (by simp[dR,ho,tm]);simp only[AS.take,xz,hg,ha.ep];simp|const v=>exact⟨rfl,rfl⟩|func f=>exact⟨rfl,rfl⟩|global g=>exact⟨rfl,rfl⟩
 have ht2:st2.take x=(.val gg vs,⟨jP st2.slots (xz st x),st2.boxes,st2.ep,st2.iss,st2.io⟩):=by rw[<-hx2.2,<-KC,<-htk1,<-hx2.1]
 have hb2:(nth st2.boxes s).getD none=some cs:=by rw[hbx st2 ha];rw[hst1]at hb;exact hb
 have hlate:yc an o=false:=by simp only[na,ho,ae,aL]at hm;exact hm.2
 simp only[dq,ho,hd,hlate,ba,cl,uT,hT,hr st2 ha,hp,ht2,hb2,aH hlen,aH hfit];rfl;cases h;cases h;cases h;cases h;rename_i r _ _ _ _ _ _ hp;rw[hp]at hfree;cases r<;>simp at hfree;cases h
theorem Og (ho:o.op=.assign x)(hm:na an o=true)(h:tf E an o x st some=some st'):eJ E Γ an X o st st':=by
 have hr:∀st2,hH an X o st st2->(st2.take x).1=(st.take x).1/\(st2.take x).2=st2.jY (nE st x):=λst2 ha=>AL ha.ep λt ht=>ha.get t (by simpa[dR,ho]using ht);have hlate:yc an o=false:=by simpa[na,ho]using hm
 unfold tf at h;split at h;rename_i st1 htk;split at h;rename_i e hT;cases h;refine eJ.put rfl λst2 ha=>?_;have h2:st2.take x=(.val false [.nilsl],st2.jY (nE st x)):=Prod.ext (by rw[(hr st2 ha).1,htk]) (hr st2 ha).2;simp only[dq,ho,tf,hlate,ba,cl,h2,hT];cases h;rename_i v st1 hno htk;cases h;have hst1:st1=st.jY (nE st x):=by rw[<-zR,htk]
 refine⟨⟨nE st x++o.dst.toList.map λd=>(d,v),none,none⟩,⟨λy hy=>?_,λ_ hh=>(by cases hh),λ_ hh=>(by cases hh)⟩,?_,λst2 ha=>?_⟩;rcases aw.1 hy with hy|hy;have:=Fi y hy;simp[writes,Ca,ho,dR,this];obtain⟨d,hd,rfl⟩:=eQ.1 hy;simp[writes,hd];rw[hst1];show _=st.jY _;rw[qb];cases o.dst<;>rfl;have h2:st2.take x=(v,st2.jY (nE st x)):=Prod.ext (by rw[(hr st2 ha).1,htk]) (hr st2 ha).2;simp only[dq,ho,tf,hlate,ba,cl,h2];show some ((st2.jY (nE st x)).put o.dst v)=some (st2.jY _);rw[qb];cases o.dst<;>rfl
theorem jA {α:Type}(l:ax α)(i:Nat)(v:α)(t:Nat):nth (ie l i v) t=if i=t then(if i<l.length then some v else none) else nth l t:=by rw[dX,fT,dX,bC]
theorem J6 (l:ax AV)(a:ax (Nat×AV)):(jP l a).length=l.length:=by induction a generalizing l with|nil=>rfl|cons x a ih=>rw[jP,ih,fT,az]
theorem TS {l l2:ax AV}(a:ax (Nat×AV))(hl:l2.length=l.length)(t:Nat)(h:nth l2 t=nth l t):nth (jP l2 a) t=nth (jP l a) t:=by induction a generalizing l l2 with|nil=>exact h|cons x a ih=>refine ih (by rw[fT,fT,az,az,hl]) ?_;rw[jA,jA,hl,h]
theorem TF (h:st2.get t=st.get t)(hl:st2.slots.length=st.slots.length):nth st2.slots t=nth st.slots t:=by unfold AS.get at h;rw[dX,dX]at h⊢;rcases ca t st.slots.length with hlt|hge;rw[al hlt,al (by omega)]at h⊢;simpa using h;rw[bH hge,bH (by omega)]
def jI (st:AS):ax Operand->ax (Nat×AV)
 |[]=>[]
 |x::xs=>nE st x++jI (st.jY (nE st x)) xs
theorem ym:∀(xs:ax Operand)(st:AS),∀y∈jI st xs,y.1∈Ll xs
 |[],_,y,hy=>by cases hy
 |x::xs,st,y,hy=>by simp only[Ll,List.flatMap_cons,aw];rcases aw.1 hy with hy|hy;exact .inl (Fi y hy);exact .inr (ym xs _ y hy)
theorem zb:∀(xs:ax Operand)(st st2:AS),st2.ep=st.ep->st2.slots.length=st.slots.length->(∀t∈Ll xs,nth st2.slots t=nth st.slots t)->
 (fC st2 xs).1=(fC st xs).1/\(fC st2 xs).2=st2.jY (jI st xs)
 |[],st,st2,_,_,_=>⟨rfl,rfl⟩
 |x::xs,st,st2,hep,hl,hg=>by
  have hx:∀t∈tm x,st2.get t=st.get t:=λt ht=>by unfold AS.get;rw[hg t (by simp[Ll,ht])]
  obtain⟨h1,h2⟩:=AL (st:=st) (st2:=st2) hep hx;have h3:=zR (st:=st) x;obtain⟨k1,k2⟩:=zb xs (st.jY (nE st x)) (st2.jY (nE st x)) hep (by simp only[AS.jY,J6,hl]) (λt ht=>TS _ hl t (hg t (by simp only[Ll,List.flatMap_cons,aw];exact .inr ht)));have e1:fC st (x::xs)=((st.take x).1::(fC (st.take x).2 xs).1,(fC (st.take x).2 xs).2):=rfl;have e2:fC st2 (x::xs)=((st2.take x).1::(fC (st2.take x).2 xs).1,(fC (st2.take x).2 xs).2):=rfl;rw[e1,e2,h1,h2,h3];refine⟨by rw[k1],?_⟩;show(fC (st2.jY (nE st x)) xs).2=_;rw[k2,jI,qb]
theorem AK (xs:ax Operand):(fC st xs).2=st.jY (jI st xs):=(zb xs st st rfl rfl (λ_ _=>rfl)).2
theorem hH.fC (ha:hH an X o st st2){xs:ax Operand}(hx:∀t∈Ll xs,t∈dR o):(fC st2 xs).1=(Dn.fC st xs).1/\(Dn.fC st2 xs).2=st2.jY (jI st xs):=zb xs st st2 ha.ep ha.len λt ht=>TF (ha.get t (hx t ht)) ha.len
theorem Q2 (ho:o.op=.build T parts)(h:yR E o T parts.toList st some=some st'):eJ E Γ an X o st st':=by
 have hl:∀t∈Ll (parts.toList.map (·.2)),t∈dR o:=λt ht=>by simp only[dR,ho];exact ht
 unfold yR at h;split at h;rename_i ct offs hT;split at h;rename_i vs st1 htk;have hst1:st1=st.jY (jI st (parts.toList.map (·.2))):=by rw[<-AK,htk]
 split at h;rename_i cs hb;cases h;refine⟨⟨jI st (parts.toList.map (·.2))++o.dst.toList.map λd=>(d,.val true cs),none,none⟩,⟨λy hy=>?_,λ_ hh=>(by cases hh),λ_ hh=>(by cases hh)⟩,?_,λst2 ha=>?_⟩;rcases aw.1 hy with hy|hy;have:=hl _ (ym _ _ y hy);simp[writes,Ca,ho,this];obtain⟨d,hd,rfl⟩:=eQ.1 hy;simp[writes,hd];rw[hst1];show _=st.jY _;rw[qb];cases o.dst<;>rfl;obtain⟨k1,k2⟩:=ha.fC hl;have h2:fC st2 (parts.toList.map (·.2))=(vs,st2.jY (jI st (parts.toList.map (·.2)))):=Prod.ext (by rw[k1,htk]) k2;simp only[dq,ho,yR,hT,h2,hb];show some ((st2.jY _).put o.dst _)=some (st2.jY _);rw[qb];cases o.dst<;>rfl;cases h;cases h
theorem eJ.ahC (ht:Ca an o=true)(hl:∀y∈tl,y.1∈dR o)(h:st'=((st.jY tl).fU o.dst).put o.dst v)(h2:∀st2,hH an X o st st2->dq E Γ an o st2 some=some (((st2.jY tl).fU o.dst).put o.dst v)):eJ E Γ an X o st st':=by
 have key:∀s:AS,(⟨tl++o.dst.toList.map λd=>(d,v),none,o.dst⟩:Fo).apply s=((s.jY tl).fU o.dst).put o.dst v:=by intro s;cases o.dst with|none=>simp only[Fo.apply,Option.toList,List.map_nil,bN,AS.jY,AS.fU,AS.put]|some d=>simp only[Fo.apply,Option.toList,cU,List.map_nil,yY,AS.jY,AS.fU,AS.put,jP]
 refine⟨⟨tl++o.dst.toList.map λd=>(d,v),none,o.dst⟩,⟨λy hy=>?_,λ_ hh=>(by cases hh),λd hh=>hh⟩,by rw[key];exact h,λst2 ha=>by rw[key];exact h2 st2 ha⟩;rcases aw.1 hy with hy|hy;simp[writes,ht,hl y hy];obtain⟨d,hd,rfl⟩:=eQ.1 hy;simp[writes,hd]
theorem xI {d:aB Nat}:(st.jY tl).iu d=st.iu d:=rfl
theorem FX {len:Nat}(ho:o.op=.buildSlice T len parts)(h:ll E o T len parts.toList st some=some st'):eJ E Γ an X o st st':=by
 have hl:∀t∈Ll (parts.toList.map (·.2)),t∈dR o:=λt ht=>by simp only[dR,ho];exact ht
 unfold ll at h;split at h;rename_i e hT;split at h;rename_i hc;split at h;rename_i vs st1 htk;have hst1:st1=st.jY (jI st (parts.toList.map (·.2))):=by rw[<-AK,htk]
 split at h;rename_i xs hb;cases h;refine eJ.ahC (tl:=jI st (parts.toList.map (·.2))) (v:=.one (.sl (.own (st.iu o.dst 0)) e xs)) (by simp[Ca,ho]) (λy hy=>hl _ (ym _ _ y hy)) ?_ λst2 ha=>?_;rw[hst1,AS.oV,xI];obtain⟨k1,k2⟩:=ha.fC hl;have h2:fC st2 (parts.toList.map (·.2))=(vs,st2.jY (jI st (parts.toList.map (·.2)))):=Prod.ext (by rw[k1,htk]) k2;simp only[dq,ho,ll,hT,h2,hb,aH hc];rw[AS.oV,xI,ha.iu];cases h;cases h;cases h
theorem HC {n c:Operand}(ho:o.op=.makeSlice T n c)(h:nU E o T n c st some=some st'):eJ E Γ an X o st st':=by
 have hr:∀st2,hH an X o st st2->st2.rd n=st.rd n/\st2.rd c=st.rd c:=λst2 ha=>
  ⟨ha.rd (λt ht=>by simp[dR,ho,ht]),ha.rd (λt ht=>by simp[dR,ho,ht])⟩
 unfold nU at h;split at h;rename_i e len cap hT hn hc;split at h;rename_i hlc;unfold room at h;split at h;rename_i hrm;cases h;refine eJ.new (v:=.one (.sl (.own (st.iu o.dst 0)) e (List.replicate len.toNat e.zero))) rfl λst2 ha=>?_;simp only[dq,ho,nU,(hr st2 ha).1,(hr st2 ha).2,hT,hn,hc,aH hlc,room,aH hrm,AS.oV,ha.iu];cases h;cases h;cases h
theorem Of (ho:o.op=.call {callee:=.builtin .append,args,argTypes:=ts})(h:uY E o ts.toList args.toList st some=some st'):eJ E Γ an X o st st':=by
 have hlk:∀t∈Ll args.toList,t∈dR o:=λt ht=>by simp only[dR,ho];exact ht
 unfold uY at h;split at h;rename_i t t' s x hts hargs;have hl:∀u∈Ll [s,x],u∈dR o:=by rw[<-hargs];exact hlk
 have hboth:∀st2,hH an X o st st2->(st2.take s).1=(st.take s).1/\((st2.take s).2.take x).1=((st.take s).2.take x).1/\((st2.take s).2.take x).2=st2.jY (jI st [s,x]):=by intro st2 ha;obtain⟨k1,k2⟩:=ha.fC hl;simp only[Dn.fC,List.cons.injEq,iU]at k1 k2;exact⟨k1.1,k1.2,k2⟩
 have hself:((st.take s).2.take x).2=st.jY (jI st [s,x]):=AK (st:=st) [s,x];split at h;rename_i tag e xs st1 htk1;split at h;rename_i fl e' ys st1' htk2;split at h;rename_i he;subst he;split at h;rename_i hc;unfold room at h;split at h;rename_i hrm;cases h;have hst1:(st.take s).2=st1:=by rw[htk1]
 have hst2:st1'=st.jY (jI st [s,x]):=by rw[<-hself,hst1,htk2]
 refine eJ.ahC (tl:=jI st [s,x]) (v:=.one (.sl (.own (st.iu o.dst 0)) e' (xs++ys))) (by simp[Ca,ho]) (λy hy=>hl _ (ym _ _ y hy)) ?_ λst2 ha=>?_;rw[hst2,AS.oV,xI];obtain⟨k1,k2,k3⟩:=hboth st2 ha;have e1:st2.take s=(.val false [.sl (.own tag) e' xs],(st2.take s).2):=Prod.ext (by rw[k1,htk1]) rfl;have e2:(st2.take s).2.take x=(.val false [.sl fl e' ys],st2.jY (jI st [s,x])):=Prod.ext (by rw[k2,hst1,htk2]) k3;simp only[dq,ho,uY,hts,hargs];rw[e1];simp only;rw[e2];simp only[dite_true,ha.ep,aH hc,room,aH hrm,AS.oV,xI,ha.iu];cases h;cases h;cases h;rename_i sx st1' htk2;split at h;rename_i he;subst he;split at h;rename_i hc;unfold room at h;split at h;rename_i hrm;cases h;have hst1:(st.take s).2=st1:=by rw[htk1]
 have hst2:st1'=st.jY (jI st [s,x]):=by rw[<-hself,hst1,htk2]
 refine eJ.ahC (tl:=jI st [s,x]) (v:=.one (.sl (.own (st.iu o.dst 0)) (.int .u8) (xs++dD sx))) (by simp[Ca,ho]) (λy hy=>hl _ (ym _ _ y hy)) ?_ λst2 ha=>?_;rw[hst2,AS.oV,xI];obtain⟨k1,k2,k3⟩:=hboth st2 ha;have e1:st2.take s=(.val false [.sl (.own tag) (.int .u8) xs],(st2.take s).2):=Prod.ext (by rw[k1,htk1]) rfl;have e2:(st2.take s).2.take x=(.val false [.str sx],st2.jY (jI st [s,x])):=Prod.ext (by rw[k2,hst1,htk2]) k3;simp only[dq,ho,uY,hts,hargs];rw[e1];simp only;rw[e2];simp only[dite_true,aH hc,room,aH hrm,AS.oV,xI,ha.iu];cases h;cases h;cases h;cases h;cases h;cases h
theorem Xe (ho:o.op=.box T x)(h:MV o x st some=some st'):eJ E Γ an X o st st':=by
 have hr:∀st2,hH an X o st st2->(st2.take x).1=(st.take x).1/\(st2.take x).2=st2.jY (nE st x):=λst2 ha=>AL ha.ep λt ht=>ha.get t (by simpa[dR,ho]using ht);unfold MV at h;split at h;rename_i d g cs st1 hd htk;have hst1:st1=st.jY (nE st x):=by rw[<-zR,htk]
 split at h;rename_i hb;split at h;rename_i hs;cases h;have hb0:nth st.boxes d=some none:=by rw[hst1]at hb;exact hb
 have key:∀s:AS,(⟨nE st x++[(d,.one (.ptr d 0))],some (d,cs),none⟩:Fo).apply s=((s.jY (nE st x)).fg d (some cs)).put (some d) (.one (.ptr d 0)):=by intro s;simp only[Fo.apply,yY,AS.jY,AS.fg,AS.put,jP]
 refine⟨⟨nE st x++[(d,.one (.ptr d 0))],some (d,cs),none⟩,⟨λy hy=>?_,λb hb'=>?_,λ_ hh=>(by cases hh)⟩,?_,λst2 ha=>?_⟩;rcases aw.1 hy with hy|hy;have:=Fi y hy;simp[writes,Ca,ho,dR,this];simp only[bG]at hy;subst hy;simp[writes,hd];cases hb';simp[Cf,ho,hd];rw[key,hst1,hd];have h2:st2.take x=(.val g cs,st2.jY (nE st x)):=Prod.ext (by rw[(hr st2 ha).1,htk]) (hr st2 ha).2;have hb2:nth (st2.jY (nE st x)).boxes d=some none:=by show nth st2.boxes d=_;rw[(ha.dst d hd).2];exact hb0
 simp only[dq,ho,MV,hd,h2,hb2,aH hs,key];cases h;cases h;cases h
theorem Kw (hΓ:∀f,(Γ f).io=false/\((Γ f).bx=true->(Γ f).cur=true)/\(Γ f).pr=false)(hm:na an o=true)(hfree:dF E an X o st=true)(h:dq E Γ an o st some=some st'):eJ E Γ an X o st st':=by
 have h0:=h;unfold dq at h;split at h;rename_i ho;exact TB ho h;rename_i ho;have hlate:yc an o=false:=by simpa[na,ho]using hm
 rw[aI (by simp[hlate])]at h;exact Og ho hm h;rename_i ho;exact TC ho h;rename_i ho;exact Q1 ho h;rename_i ho;exact Xe ho h;rename_i ho;exact TA ho hm hfree h;rename_i T p x ho;split at h;rename_i hd;cases p with
 |tmp pp=>
  have hlate:yc an o=false:=by simp only[na,ho,ae,aL]at hm;exact hm.2
  rw[aI (by simp[hlate])]at h;exact Q6 ho hd hm hfree h
 |const v=>simp[na,ho]at hm
 |func f=>simp[na,ho]at hm
 |global g=>simp[na,ho]at hm
 cases h;rename_i ho;exact JM ho h0;rename_i ho;exact Xd ho h;rename_i ho;exact ZM ho h;rename_i ho;exact Q3 ho h;rename_i ho;exact HB ho hfree h;rename_i ho;exact Q4 ho h;rename_i ho;exact Q2 ho h;rename_i ho;exact FX ho h;rename_i ho;exact HC ho h;rename_i ho;exact Q5 ho hm hfree h;rename_i ho;simp[na,ho]at hm;rename_i ho;simp[na,ho]at hm;rename_i ho;exact K5 ho h;rename_i ho;exact K6 ho hfree h;rename_i ho;exact Xf ho h;rename_i ho;exact Xh ho h;rename_i ho;exact Xg ho h;rename_i ho;exact Of ho h;rename_i ho;exact Tz hΓ ho hfree h;cases h
end Go.Dn
