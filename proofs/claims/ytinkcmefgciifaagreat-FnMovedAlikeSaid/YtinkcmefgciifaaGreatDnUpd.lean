import Derived.Test.YtinkcmefgciifaaGreatDnMask
/- What an operation looks at and what it turns: for regions whose order is drawn. -/
namespace Go.Dn
structure Hd where
 slots:List (Nat×AV):=[]
 box:Option (Nat×List AC):=none
 iss:Option Nat:=none
def jK (l:ax AV):ax (Nat×AV)->ax AV
 |[]=>l
 |x::r=>jK (gU l x.1 x.2) r
def Hd.apply (u:Hd)(st:AS):AS:=
 ⟨jK st.slots u.slots,(match u.box with|some b=>gU st.boxes b.1 (some b.2)|none=>st.boxes),st.ep,(match u.iss with|some d=>gU st.iss d true|none=>st.iss),st.io⟩
structure gL (an:An) (X:List Nat) (o:Oper) (st st2:AS):Prop where
 len:st2.slots.length=st.slots.length
 get:∀t∈dE o,st2.get t=st.get t
 ep:st2.ep=st.ep
 dst:∀d,o.dst=some d->nth st2.iss d=nth st.iss d/\nth st2.boxes d=nth st.boxes d
 box:∀s,X.contains s=false->nth st2.boxes s=nth st.boxes s
 er:∀t∈erS an o,st2.get t=st.get t
structure Hd.EC (an:An) (u:Hd) (o:Oper):Prop where
 slots:∀x∈u.slots,x.1∈writes an o
 box:∀b,u.box=some b->b.1∈Dg an o
 iss:∀d,u.iss=some d->o.dst=some d
variable {E:Env} {Γ:yk} {an:An} {X:fy} {o:Oper} {st st2 bN:AS}
variable {v:AV} {parts:Array (Nat×Operand)} {args:Array Operand} {ts:Array TypeId} {t:Nat} {f p x:Operand} {T:TypeId} {tl:ax (Nat×AV)} {cs:ax AC}
theorem adP (xh:st2.ep=st.ep)(h:∀t∈tm x,st2.get t=st.get t):st2.rd x=st.rd x:=by cases x with|tmp t=>simp only[AS.rd,xh,h t (by simp[tm])]|const v=>rfl|func f=>rfl|global g=>rfl
def dY (E:Env)(Γ:yk)(an:An)(X:fy)(o:Oper)(st bN:AS):Prop:=
 ∃u:Hd,u.EC an o/\bN=u.apply st/\∀st2,gL an X o st st2->da E Γ an o st2 some=some (u.apply st2)
def BJ (o:Oper)(v:AV):Hd:={slots:=o.dst.toList.map λd=>(d,v)}
theorem rp (v:AV):(BJ o v).apply st=st.put o.dst v:=by unfold BJ Hd.apply AS.put;cases o.dst<;>rfl
theorem Ak (v:AV):(BJ o v).EC an o:=by refine⟨λx hx=>?_,λb hb=>by simp[BJ]at hb,λd hd=>by simp[BJ]at hd⟩;simp only[BJ,List.mem_map]at hx;obtain⟨d,hd,rfl⟩:=hx;simp[writes,hd]
def Ff (o:Oper)(v:AV):Hd:={slots:=o.dst.toList.map λd=>(d,v),iss:=o.dst}
theorem Ha (v:AV):(Ff o v).apply st=(st.fz o.dst).put o.dst v:=by unfold Ff Hd.apply AS.put AS.fz;cases o.dst<;>rfl
theorem M5 (v:AV):(Ff o v).EC an o:=by refine⟨λx hx=>?_,λb hb=>by simp[Ff]at hb,λd hd=>by simpa[Ff]using hd⟩;simp only[Ff,List.mem_map]at hx;obtain⟨d,hd,rfl⟩:=hx;simp[writes,hd]
theorem dY.put (h:bN=st.put o.dst v)(h2:∀st2,gL an X o st st2->da E Γ an o st2 some=some (st2.put o.dst v)):dY E Γ an X o st bN:=⟨BJ o v,Ak v,by rw[rp];exact h,λst2 ha=>by rw[rp];exact h2 st2 ha⟩
theorem gL.rd (ha:gL an X o st st2)(hx:∀t∈tm x,t∈dE o):st2.rd x=st.rd x:=adP ha.ep λt ht=>ha.get t (hx t ht)
theorem Wi {c y:Operand}(ho:o.op=.pick c x y)(h:CV o c x y st some=some bN):dY E Γ an X o st bN:=by
 have hr:∀st2,gL an X o st st2->st2.rd c=st.rd c/\st2.rd x=st.rd x/\st2.rd y=st.rd y:=λst2 ha=>
  ⟨ha.rd (λt ht=>by simp[dE,ho,ht]),ha.rd (λt ht=>by simp[dE,ho,ht]),ha.rd (λt ht=>by simp[dE,ho,ht])⟩
 unfold CV at h;split at h;rename_i t hc;split at h;rename_i a b hx hy;cases h;refine dY.put rfl λst2 ha=>?_;obtain⟨h1,h2,h3⟩:=hr st2 ha;simp only[da,ho,CV,h1,h2,h3,hc,hx,hy];rename_i va vb Fm;have Zg:∀st2,gL an X o st st2->da E Γ an o st2 some=cond t (some (st2.put o.dst (st.rd x))) (some (st2.put o.dst (st.rd y))):=by intro st2 ha;obtain⟨h1,h2,h3⟩:=hr st2 ha;simp only[da,ho,CV,h1,h2,h3,hc]
 cases t with|true=>cases h;exact dY.put rfl λst2 ha=>Zg st2 ha|false=>cases h;exact dY.put rfl λst2 ha=>Zg st2 ha
 cases h
theorem Lh {d s:Nat}:(⟨[(d,v)],some (s,cs),none⟩:Hd).apply st=(st.eI s (some cs)).put (some d) v:=rfl
theorem Ow {o:Oper}(h:Db an o=true):∃T q d,o.op=.load T (.tmp q)/\o.dst=some d/\o.guard=none/\an.mv.contains d=true/\an.mb d=none:=by unfold Db at h;split at h;rename_i T q d ho hd hg;simp only[ae,Option.isNone_iff_eq_none]at h;exact⟨T,q,d,ho,hd,hg,h.1.1,h.1.2⟩;cases h
def G5 (st:AS)(b j t:Nat)(e:CT)(i:Int)(cs:ax AC)(ys:ax e.D):AS:=st.eI b (some (gU cs j (.sl (.fi (some t) i (some st.ep)) e ys)))
theorem L5 {q d:Nat}(ht:Db an o=true)(ho:o.op=.load T (.tmp q))(hd:o.dst=some d)(BW:an.mv.contains d=true)(T4:an.mb d=none):(dv E an X o st=true/\oG E an o T (.tmp q) st some=some bN)↔ ∃(g:Bool)(e:CT)(jJ:ax (Nat×Nat))(b j t Ks:Nat)(x:e.D)(i:Int)(cs:ax AC)(ys:ax e.D)(y:e.D),ja E.ty T=some ⟨g,e,jJ⟩/\st.rd (.tmp q)=.val false [.zX (.loc Ks (some (.box b j,t))) e x i 0]/\(nth st.boxes b).getD none=some cs/\nth cs j=some (.sl (.own (some t)) e ys)/\idx ys i=some y/\ X.contains b=false/\an.eb q=some b/\T0 an o=false/\bN=(G5 st b j t e i cs ys).put (some d) (.val g (cellsOf e (.own none) y)):=by
 have rK:De an o=true:=by unfold De;rw[hd];simp only[BW,T4];rfl
 have IG:Aj an o=false:=by unfold Aj;split;rename_i hd' _;rw[hd]at hd';cases hd';rw[T4];simp;rfl
 have hnp:zH an o=false:=by unfold zH;split;rename_i hd' _;rw[hd]at hd';cases hd';rw[BW];rfl;rfl
 constructor;rintro⟨hf,h⟩;unfold oG at h;split at h;rename_i hp;simp only[dv,ho,hp,hd,BW,T4]at hf;simp at hf;rename_i sh fl e x i off hT hp;rw[aH rK]at h;simp only[dv,ho,hp,ht,IG,hnp,Bool.or_false,cg,aj,cJ,dR,ae,aK]at hf;obtain⟨⟨Fl,JN⟩,hb⟩:=hf;unfold wV at h;split at h;rename_i Ks r t;cases r with
 |slot _ _=>cases hb
 |io _=>cases hb
 |box b j=>
  simp only[ae,aV,aK]at hb;split at h;rename_i t' e' ys T5;split at h;rename_i he;subst he;split at h;rename_i hc;obtain⟨rfl,rfl,ID⟩:=hc;obtain⟨g,ct,jJ⟩:=sh;simp only at ID;subst ID;cases hi:idx ys i with|none=>simp only[hi,aa]at h;cases h|some y=>simp only[hi,aa]at h;cases h;simp only[AS.eR]at T5;obtain⟨cs,Hv,hj⟩:=aO.1 T5;refine⟨g,_,jJ,b,j,_,Ks,x,i,cs,ys,y,hT,hp,Hv,hj,hi,hb.2,hb.1,JN,?_⟩;simp only[AS.eV,Hv,hd];rfl
  cases h;cases h;cases h
 cases h;cases h;rintro⟨g,e,jJ,b,j,t,Ks,x,i,cs,ys,y,hT,hp,Hv,hj,hi,hX,Py,JN,rfl⟩;constructor;simp only[dv,ho,hp,ht,IG,hnp,JN,hX,Py];simp;simp only[oG,hT,hp,rK,bQ,wV,AS.eR,Hv,eu,hj,dite_true,and_self,hi,aa,AS.eV,hd];rfl
theorem SP (ht:Db an o=true)(ho:o.op=.load T p)(ga:dv E an X o st=true)(h:oG E an o T p st some=some bN):dY E Γ an X o st bN:=by obtain⟨T',q,d,Js,hd,hg,BW,T4⟩:=Ow ht;rw[ho]at Js;cases Js;obtain⟨g,e,jJ,b,j,t,Ks,x,i,cs,ys,y,hT,hp,Hv,hj,hi,hX,Py,JN,rfl⟩:=(L5 ht ho hd BW T4).1 ⟨ga,h⟩;refine⟨⟨[(d,.val g (cellsOf e (.own none) y))],some (b,gU cs j (.sl (.fi (some t) i (some st.ep)) e ys)),none⟩,⟨λx hx=>?_,λb' gX=>?_,λ_ hh=>by cases hh⟩,rfl,λst2 ha=>?_⟩;simp only[cp]at hx;subst hx;simp[writes,hd];cases gX;simp only[Dg,ho,hd,BW,ah,ht,Py];simp;have h2:=((L5 (E:=E) (X:=X) (st:=st2) ht ho hd BW T4).2 ⟨g,e,jJ,b,j,t,Ks,x,i,cs,ys,y,hT,by rw[ha.rd (λt ht=>by simpa[dE,ho]using ht)];exact hp,by rw[ha.box b hX];exact Hv,hj,hi,hX,Py,JN,rfl⟩).2;simp only[da,ho];rw[h2];simp only[G5,ha.ep];rfl
theorem Wg (ho:o.op=.load T p)(hm:nk an o=true)(ga:dv E an X o st=true)(h:oG E an o T p st some=some bN):dY E Γ an X o st bN:=by
 cases hE:Db an o with|true=>exact SP hE ho ga h|false=> ?_
 have hr:∀st2,gL an X o st st2->st2.rd p=st.rd p:=λst2 ha=>ha.rd (λt ht=>by simpa[dE,ho]using ht);have rK:De an o=false:=by simp only[nk,ho,hE,Bool.or_false]at hm;unfold De;cases Px:o.dst with|none=>rfl|some d=>rw[Px]at hm;simp only[cE,aK]at hm;rcases hm with hm|hm;simp only[hm,eJ];cases T4:an.mb d with|none=>rw[T4]at hm;cases hm|some _=>simp[T4]
 unfold oG at h;split at h;rename_i sh s off hT hp;simp only[dv,ho,hp,ae,aK]at ga;split at h;rename_i cs hb;split at h;rename_i gF;split at h;rename_i d hd;have jH:∀st2,gL an X o st st2->nth st2.boxes s=nth st.boxes s:=λst2 ha=>ha.box s ga.1.1;cases hf:an.mv.contains d with
 |false=>simp only[hf,aY,bW]at h;cases h;refine dY.put (by rw[hd]) λst2 ha=>?_;simp only[da,ho,oG,hT,hr st2 ha,hp,jH st2 ha,hb,aH gF,hd,hf,aY,bW,ha.ep]
 |true=>
  simp only[hf,bQ]at h;have T4:an.mb d=some s:=by have:=ga.1.2;rw[hd]at this;simp only[hf,aj,cJ,aV]at this;exact this
  cases h;refine⟨⟨[(d,.val sh.agg ((cs.drop off).take sh.ct.size))],some (s,dZ cs off (aU st.ep ((cs.drop off).take sh.ct.size))),none⟩,⟨λx hx=>?_,λb gX=>?_,λ_ hh=>by cases hh⟩,?_,λst2 ha=>?_⟩;simp only[cp]at hx;subst hx;simp[writes,hd];cases gX;simp only[Dg,ho,hd,hf,ah,T4];simp;rw[Lh,hd];simp only[da,ho,oG,hT,hr st2 ha,hp,jH st2 ha,hb,aH gF,hd,hf,bQ,ha.ep,Lh]
 cases h;cases h;cases h;rename_i sh fl e x i off hT hp;rw[aI (by simp[rK])]at h;split at h;rename_i hl;split at h;rename_i gF;cases h;refine dY.put rfl λst2 ha=>?_;simp only[da,ho,oG,hT,hr st2 ha,hp,ha.ep,rK,aY,bW,aH hl,aH gF];cases h;rename_i hl;have Ed:∀r t Ks,fl=.loc Ks (some (r,t))->∀st2,gL an X o st st2->st2.eR r=st.eR r:=by rintro r t Ks rfl st2 ha;simp only[dv,ho,hp,hE,cg,iH,dR,ae,cE]at ga;rcases ga.1.1 with hq|hq;exact absurd hq hl;cases r with|slot b j=>simp only[AS.eR];rw[ha.er b (by simpa using hq)]|box b j=>simp only[AS.eR];rw[ha.box b (by simpa using hq)]|io j=>cases hq
 unfold BD at h;split at h;rename_i Ks r t;split at h;rename_i t' e' ys T5;split at h;rename_i he;split at h;rename_i hc;cases hi:idx (he▸ys:List _) i with|none=>rw[hi]at h;cases h|some y=>rw[hi]at h;simp only[aa]at h;cases h;refine dY.put rfl λst2 ha=>?_;simp only[da,ho,oG,hT,hr st2 ha,hp,ha.ep,rK,aY,bW,aI hl,BD,Ed _ _ _ rfl st2 ha,T5,dif_pos he,aH hc,hi,aa]
 cases h;cases h;cases h;cases h;cases h
theorem Lk (ho:o.op=.nilCheck x)(h:da E Γ an o st some=some bN):dY E Γ an X o st bN:=by have hr:∀st2,gL an X o st st2->st2.rd x=st.rd x:=λst2 ha=>ha.rd (λt ht=>by simpa[dE,ho]using ht);simp only[da,ho]at h;split at h;rename_i s off hx;cases h;refine dY.put rfl λst2 ha=>?_;simp only[da,ho,hr st2 ha,hx];rename_i fl e y i off hx;cases h;refine dY.put rfl λst2 ha=>?_;simp only[da,ho,hr st2 ha,hx];cases h
theorem Mc {op:BinOp}{x y:AV}(h:(DY op x y λc=>some (st.put o.dst (.one c)))=some bN):∃v,bN=st.put o.dst v/\∀st2:AS,(DY op x y λc=>some (st2.put o.dst (.one c)))=some (st2.put o.dst v):=by have key:∀s:AS,(DY op x y λc=>some (s.put o.dst (.one c)))=(DY op x y some).bind λc=>some (s.put o.dst (.one c)):=λs=>(Dp op x y some _).symm;rw[key st]at h;cases hb:DY op x y some with|none=>rw[hb]at h;cases h|some c=>rw[hb]at h;cases h;exact⟨_,rfl,λst2=>by rw[key st2,hb];rfl⟩
theorem Oy {op:BinOp}{b:Bool}(h:(BS op b λc=>some (st.put o.dst (.one c)))=some bN):∃v,bN=st.put o.dst v/\∀st2:AS,(BS op b λc=>some (st2.put o.dst (.one c)))=some (st2.put o.dst v):=by unfold BS at h;split at h;cases h;exact⟨_,rfl,λst2=>rfl⟩;cases h;exact⟨_,rfl,λst2=>rfl⟩;cases h
theorem aaa {op:BinOp}{T':TypeId}{y:Operand}(ho:o.op=.binOp op T x y T')(h:zj E o op T x y st some=some bN):dY E Γ an X o st bN:=by
 have hr:∀st2,gL an X o st st2->st2.rd x=st.rd x/\st2.rd y=st.rd y:=λst2 ha=>
  ⟨ha.rd (λt ht=>by simp[dE,ho,ht]),ha.rd (λt ht=>by simp[dE,ho,ht])⟩
 unfold zj at h;split at h;rename_i a b hx hy;split at h;rename_i hT;obtain⟨v,rfl,hv⟩:=Mc h;refine dY.put rfl λst2 ha=>?_;simp only[da,ho,zj,(hr st2 ha).1,(hr st2 ha).2,hx,hy,aH hT];exact hv st2;cases h;rename_i xs ys hx hy;split at h;rename_i ls hq;split at h;rename_i gF;obtain⟨v,rfl,hv⟩:=Mc h;refine dY.put rfl λst2 ha=>?_;simp only[da,ho,zj,(hr st2 ha).1,(hr st2 ha).2,hx,hy,hq,aH gF];exact hv st2;cases h;cases h;rename_i fl e xs hx hy;split at h;rename_i hT;split at h;cases h;rename_i hlen;obtain⟨v,rfl,hv⟩:=Oy h;refine dY.put rfl λst2 ha=>?_;simp only[da,ho,zj,(hr st2 ha).1,(hr st2 ha).2,hx,hy,ha.ep,aH hT,aI hlen];exact hv st2;cases h;rename_i hx hy;split at h;rename_i hT;obtain⟨v,rfl,hv⟩:=Oy h;refine dY.put rfl λst2 ha=>?_;simp only[da,ho,zj,(hr st2 ha).1,(hr st2 ha).2,hx,hy,aH hT];exact hv st2;cases h;rename_i a b Hx Cc hn3 hn4;obtain⟨v,rfl,hv⟩:=Mc h;refine dY.put rfl λst2 ha=>?_;simp only[da,ho,zj,(hr st2 ha).1,(hr st2 ha).2];exact hv st2
theorem adx {op:UnOp}(ho:o.op=.unOp op T x)(h:(unC op (st.rd x) λc=>some (st.put o.dst (.one c)))=some bN):dY E Γ an X o st bN:=by have hr:∀st2,gL an X o st st2->st2.rd x=st.rd x:=λst2 ha=>ha.rd (λt ht=>by simpa[dE,ho]using ht);have key:∀s:AS,(unC op (st.rd x) λc=>some (s.put o.dst (.one c)))=(unC op (st.rd x) some).bind λc=>some (s.put o.dst (.one c)):=λs=>(TQ op (st.rd x) some _).symm;rw[key st]at h;cases hb:unC op (st.rd x) some with|none=>rw[hb]at h;cases h|some c=>rw[hb]at h;cases h;refine dY.put rfl λst2 ha=>?_;simp only[da,ho,hr st2 ha];rw[key st2,hb];rfl
theorem SL {S:TypeId}{f:Nat}(ho:o.op=.fieldAddr S p f)(h:yA E o S p f st some=some bN):dY E Γ an X o st bN:=by have hr:∀st2,gL an X o st st2->st2.rd p=st.rd p:=λst2 ha=>ha.rd (λt ht=>by simpa[dE,ho]using ht);unfold yA at h;split at h;rename_i hT hp;split at h;rename_i hf;cases h;refine dY.put rfl λst2 ha=>?_;simp only[da,ho,yA,hr st2 ha,hT,hp,hf];cases h;rename_i hT hp;split at h;rename_i hf;cases h;refine dY.put rfl λst2 ha=>?_;simp only[da,ho,yA,hr st2 ha,hT,hp,hf];cases h;cases h
theorem ym {s:AS}(h:v.now s.ep=true):v.fresh s=v:=by
 cases v with
 |uW vs=>rfl
 |val g cs=>
  simp only[AV.now,aF]at h;simp only[AV.fresh];congr 1;have:cs.map s.fresh=cs.map id:=List.map_congr_left λc hc=>by have hn:=h c hc;unfold AS.fresh;split;simp only[AC.now]at hn;rw[hn];rfl;rfl
  rw[this,List.map_id]
theorem RA {st st2:AS}(he:st2.ep=st.ep)(h:v.now st.ep=true\/∃g ep b j t e xs,v=.val g [.sl (.loc ep (some (.box b j,t))) e xs]/\nth st2.boxes b=nth st.boxes b):v.fresh st2=v.fresh st:=by rcases h with h|⟨g,ep,b,j,t,e,xs,rfl,hb⟩;rw[ym h,ym (by rw[he];exact h)];simp only[AV.fresh,cS,List.map_nil];congr 2;unfold AS.fresh;simp only[AS.eR,he,hb]
theorem Jy {i:Operand}(ho:o.op=.indexAddr T x i)(ga:dv E an X o st=true)(h:mn E o T x i st some=some bN):dY E Γ an X o st bN:=by
 have hr:∀st2,gL an X o st st2->st2.rd x=st.rd x/\st2.rd i=st.rd i:=λst2 ha=>
  ⟨ha.rd (λt ht=>by simp[dE,ho,ht]),ha.rd (λt ht=>by simp[dE,ho,ht])⟩
 have Bf:∀st2,gL an X o st st2->(st.rd x).fresh st2=(st.rd x).fresh st:=λst2 ha=>by refine RA ha.ep ?_;simp only[dv,ho,cE]at ga;rcases ga with hn|hn;exact .inl hn;split at hn;rename_i g ep b j t e xs hx;exact .inr ⟨g,ep,b,j,t,e,xs,hx,ha.box b (by simpa using hn)⟩;cases hn
 unfold mn at h;split at h;rename_i e' fl e xs k n hT hx hi;split at h;rename_i hc;cases CE:idx xs n with|none=>rw[CE]at h;cases h|some y=>rw[CE]at h;cases h;refine dY.put rfl λst2 ha=>?_;have hf3:=Bf st2 ha;rw[hx]at hf3;simp only[da,ho,mn,(hr st2 ha).1,(hr st2 ha).2,hf3,hT,hi,ha.ep,aH hc,CE,aa]
 cases h;cases h
theorem SM {i:Operand}(ho:o.op=.index T x i)(h:Ad E o T x i st some=some bN):dY E Γ an X o st bN:=by
 have hr:∀st2,gL an X o st st2->st2.rd x=st.rd x/\st2.rd i=st.rd i:=λst2 ha=>
  ⟨ha.rd (λt ht=>by simp[dE,ho,ht]),ha.rd (λt ht=>by simp[dE,ho,ht])⟩
 unfold Ad at h;split at h;rename_i s k n hx hi;split at h;rename_i hc;cases CE:idx s n with|none=>rw[CE]at h;cases h|some y=>rw[CE]at h;cases h;refine dY.put rfl λst2 ha=>?_;simp only[da,ho,Ad,(hr st2 ha).1,(hr st2 ha).2,hx,hi,aH hc,CE,aa]
 cases h;cases h
theorem dY.new (h:bN=(st.fz o.dst).put o.dst v)(h2:∀st2,gL an X o st st2->da E Γ an o st2 some=some ((st2.fz o.dst).put o.dst v)):dY E Γ an X o st bN:=⟨Ff o v,M5 v,by rw[Ha];exact h,λst2 ha=>by rw[Ha];exact h2 st2 ha⟩
theorem gL.hZ (ha:gL an X o st st2):st2.hZ o.dst=st.hZ o.dst:=by funext j;cases hd:o.dst with|none=>rfl|some d=>simp only[AS.hZ,(ha.dst d hd).1]
theorem Gr {lo hi:ay Operand}{n:Nat}{f:AS->Int->Int->ay AS}(hs:∀st2,gL an X o st st2->lo.map st2.rd=lo.map st.rd/\hi.map st2.rd=hi.map st.rd)(h:mD st lo hi n (f st)=some bN):∃a b,f st a b=some bN/\∀st2,gL an X o st st2->mD st2 lo hi n (f st2)=f st2 a b:=by unfold mD at h;split at h;rename_i h1 h2;exact⟨_,_,h,λst2 ha=>by simp only[mD,(hs st2 ha).1,(hs st2 ha).2,h1,h2]⟩;rename_i h1 h2;exact⟨_,_,h,λst2 ha=>by simp only[mD,(hs st2 ha).1,(hs st2 ha).2,h1,h2]⟩;rename_i h1 h2;exact⟨_,_,h,λst2 ha=>by simp only[mD,(hs st2 ha).1,(hs st2 ha).2,h1,h2]⟩;rename_i h1 h2;exact⟨_,_,h,λst2 ha=>by simp only[mD,(hs st2 ha).1,(hs st2 ha).2,h1,h2]⟩;cases h
theorem SN {lo hi:ay Operand}(ho:o.op=.slice T x lo hi none)(hm:nk an o=true)(ga:dv E an X o st=true)(h:yV E an o T x lo hi st some=some bN):dY E Γ an X o st bN:=by
 have hr:∀st2,gL an X o st st2->st2.rd x=st.rd x:=λst2 ha=>ha.rd (λt ht=>by simp[dE,ho,ht]);have hb:∀st2,gL an X o st st2->lo.map st2.rd=lo.map st.rd/\hi.map st2.rd=hi.map st.rd:=by
  intro st2 ha;constructor;cases lo with|none=>rfl|some y=>simp only[de];rw[ha.rd (λt ht=>by simp[dE,ho,tmO,ht])]
  cases hi with|none=>rfl|some y=>simp only[de];rw[ha.rd (λt ht=>by simp[dE,ho,tmO,ht])]
 have CH:(st.rd x).now st.ep=true:=by simpa[dv,ho]using ga
 have Bf:∀st2,gL an X o st st2->(st.rd x).fresh st2=st.rd x:=λst2 ha=>ym (by rw[ha.ep];exact CH);have rK:De an o=false:=by simpa[nk,ho]using hm
 unfold yV at h;rw[aI (by simp[rK]),ym CH]at h;split at h;rename_i s hx;split at h;rename_i hT;obtain⟨a,b,h1,h2⟩:=Gr (f:=λs0 a b=>aa (sub s a b) λs'=>some (s0.put o.dst (.one (.str s')))) hb h;cases pt:sub s a b with|none=>rw[pt]at h1;cases h1|some s'=>rw[pt]at h1;cases h1;refine dY.put rfl λst2 ha=>?_;have hf3:=Bf st2 ha;rw[hx]at hf3;simp only[da,ho,yV,rK,aY,bW,hr st2 ha,hx,hf3,aH hT];rw[h2 st2 ha,pt];rfl
 cases h;rename_i fl e xs hx;split at h;rename_i hT;obtain⟨a,b,h1,h2⟩:=Gr (f:=λs0 a b=>aa (sub xs a b) λMo=>some (s0.put o.dst (.one (.sl (Lu an o fl a) e Mo)))) hb h;cases pt:sub xs a b with|none=>rw[pt]at h1;cases h1|some s'=>rw[pt]at h1;cases h1;refine dY.put rfl λst2 ha=>?_;have hf3:=Bf st2 ha;rw[hx]at hf3;simp only[da,ho,yV,rK,aY,bW,hr st2 ha,hx,hf3,ha.ep,aH hT];rw[h2 st2 ha,pt];rfl
 cases h;cases h
theorem ED {args:ax Operand}(hl:∀t,t∈M4 args->t∈dE o)(ha:gL an X o st st2):args.map st2.rd=args.map st.rd:=by apply List.map_congr_left;intro x hx;exact ha.rd (λt ht=>hl t (by simp only[M4,List.mem_flatMap];exact⟨x,hx,ht⟩))
theorem aac (ho:o.op=.call {callee:=.builtin .len,args,argTypes:=ts})(h:Lg E o ts.toList args.toList st some=some bN):dY E Γ an X o st bN:=by have hr:∀st2,gL an X o st st2->args.toList.map st2.rd=args.toList.map st.rd:=λst2 ha=>ED (λt ht=>by simp only[dE,ho];exact ht) ha;unfold Lg at h;split at h;rename_i t s su hx;split at h;rename_i hT;cases h;refine dY.put rfl λst2 ha=>?_;simp only[da,ho,Lg,hr st2 ha,su,hx,aH hT];cases h;rename_i t _ _ xs su hx;split at h;rename_i hT;cases h;refine dY.put rfl λst2 ha=>?_;simp only[da,ho,Lg,hr st2 ha,su,hx,aH hT];cases h;cases h
theorem aae (ho:o.op=.call {callee:=.builtin .min,args,argTypes:=ts})(h:ML o args.toList st some=some bN):dY E Γ an X o st bN:=by have hr:∀st2,gL an X o st st2->args.toList.map st2.rd=args.toList.map st.rd:=λst2 ha=>ED (λt ht=>by simp only[dE,ho];exact ht) ha;unfold ML at h;split at h;rename_i hx;cases h;refine dY.put rfl λst2 ha=>?_;simp only[da,ho,ML,hr st2 ha,hx];cases h
theorem aad (ho:o.op=.call {callee:=.builtin .max,args,argTypes:=ts})(h:MK o args.toList st some=some bN):dY E Γ an X o st bN:=by have hr:∀st2,gL an X o st st2->args.toList.map st2.rd=args.toList.map st.rd:=λst2 ha=>ED (λt ht=>by simp only[dE,ho];exact ht) ha;unfold MK at h;split at h;rename_i hx;cases h;refine dY.put rfl λst2 ha=>?_;simp only[da,ho,MK,hr st2 ha,hx];cases h
theorem ZY {l:fy}{c:AC}(h:c.ad2 l=true)(hl:∀t∈l,st2.get t=st.get t):st2.MJ c=st.MJ c:=by
 cases c with
 |sl fl e xs=>
  cases fl with
  |loc ep pv=>cases pv with|none=>rfl|some q=>obtain⟨r,t⟩:=q;cases r with|slot b j=>have hb:st2.get b=st.get b:=hl b (by simpa[AC.ad2]using h);simp only[AS.MJ,AS.eR,hb]|box _ _=>rfl|io _=>rfl
  |_=>rfl
 |_=>rfl
theorem V2 {l:fy}(hx:GL l st x=true)(hl:∀t∈l,st2.get t=st.get t)(h:∀t∈tm x,st2.get t=st.get t):zF st2 x=zF st x/\AE st2 x=AE st x:=by
 cases x with
 |tmp t=>have ht:=h t (by simp[tm]);simp only[GL]at hx;cases hg:st.get t with|uW vs=>exact⟨by simp only[zF,ht,hg],by simp only[AE,ht,hg]⟩|val g cs=>rw[hg]at hx;have hm:cs.map st2.MJ=cs.map st.MJ:=List.map_congr_left λc hc=>ZY (aF.1 hx c hc) hl;exact⟨by simp only[zF,ht,hg,hm],by simp only[AE,ht,hg,hm]⟩
 |const v=>exact⟨rfl,rfl⟩
 |func f=>exact⟨rfl,rfl⟩
 |global g=>exact⟨rfl,rfl⟩
theorem MM (ho:o.op=.call {callee:=.value f,args,argTypes:=ts})(ga:dv E an X o st=true){k:Nat}(hf:st.rd f=.val false [.fn k])(jH:(Γ k).bx=true)(hcur:(Γ k).cur=true)(h:tK Γ o k args.toList st some=some bN):dY E Γ an X o st bN:=by
 unfold tK at h;split at h;rename_i x0 xs fT;split at h;rename_i s hx0;have jq:sr an X (erS an o) st (x0::xs)=true:=by have h1:=ga;simp only[dv,ho,ae]at h1;rw[<-fT];exact h1.1
 have hx1:∃q,x0=.tmp q/\X.contains s=false/\an.sb q=some s/\(match (nth st.boxes s).getD none with|some cs=>cs.all AC.Fx|none=>true)=true/\xs.all (GL (erS an o) st)=true:=by cases x0 with|tmp q=>simp only[sr,hx0,abK,ae,aK,aV]at jq;exact⟨q,rfl,jq.1.1.1,jq.1.1.2,jq.1.2,jq.2⟩|const v=>simp only[sr,hx0,AV.X1]at jq;cases jq|func v=>simp only[sr,hx0,AV.X1]at jq;cases jq|global v=>simp only[sr,hx0,AV.X1]at jq;cases jq
 obtain⟨q,rfl,hX,XL,ES,zB⟩:=hx1;split at h;rename_i cs RM;rw[RM]at ES;simp only at ES;cases hc:(cs.all (AC.xv (BO cs))&&xs.all (AE st))with
 |false=>rw[hc]at h;cases h
 |true=>
  rw[hc]at h;simp only[ah]at h;cases gJ:(Γ k).fn (.val true (cs.map AC.Qy)::xs.map (zF st))with
  |none=>rw[gJ]at h;cases h
  |some y=>
   rw[gJ]at h;simp only[aa]at h;cases Vq:(((Γ k).back y).all (AC.xv true)&&((Γ k).av y).aah)with
   |false=>rw[Vq]at h;cases h
   |true=>
    rw[Vq]at h;simp only[ah,hcur,ES,dH,bc]at h;subst h;refine⟨⟨o.dst.toList.map λd=>(d,((Γ k).av y).BP st.ep (st.hZ o.dst)),some (s,oY (BO cs) (λ_=>none) 0 ((Γ k).back y)),o.dst⟩,⟨λx hx=>?_,λb hb=>?_,λd hd=>hd⟩,?_,λst2 ha=>?_⟩;simp only[List.mem_map]at hx;obtain⟨d,hd,rfl⟩:=hx;simp[writes,hd];cases hb;simp[Dg,ho,fT,XL];unfold Hd.apply AS.put AS.fz AS.eI;cases o.dst<;>rfl;have e1:st2.rd f=st.rd f:=ha.rd (λt ht=>by simp[dE,ho,ht]);have hl:∀x∈Operand.tmp q::xs,∀t∈tm x,t∈dE o:=by intro x hx t ht;simp only[dE,ho,az,M4,List.mem_flatMap,fT];exact .inr ⟨x,hx,ht⟩
    have e2:st2.rd (.tmp q)=st.rd (.tmp q):=ha.rd (hl _ (by simp));have e3:nth st2.boxes s=nth st.boxes s:=ha.box s hX;have e4:∀x∈xs,zF st2 x=zF st x/\AE st2 x=AE st x:=λx hx=>V2 (aF.1 zB x hx) ha.er λt ht=>ha.get t (hl x (by simp[hx]) t ht);have e5:xs.map (zF st2)=xs.map (zF st):=List.map_congr_left λx hx=>(e4 x hx).1;have e6:xs.all (AE st2)=xs.all (AE st):=by rw[cD];simp only[aF];exact⟨λg x hx=>by rw[<-(e4 x hx).2];exact g x hx,λg x hx=>by rw[(e4 x hx).2];exact g x hx⟩
    simp only[da,ho,BR,e1,hf,jH,ah,tK,fT,e2,hx0,e3,RM,e5,e6,hc,gJ,aa,Vq,hcur,ES,dH,ha.ep,ha.hZ];unfold Hd.apply AS.put AS.fz AS.eI;cases o.dst<;>rfl
 cases h;cases h;cases h
theorem Wf (zd:∀f,(Γ f).io=false/\((Γ f).bx=true->(Γ f).cur=true)/\(Γ f).pr=false)(ho:o.op=.call {callee:=.value f,args,argTypes:=ts})(ga:dv E an X o st=true)(h:BR Γ o f args.toList st some=some bN):dY E Γ an X o st bN:=by
 have hr:∀st2,gL an X o st st2->st2.rd f=st.rd f/\(args.toList.map λx=>((st2.rd x).fresh st2).asArg st2.ep)=args.toList.map λx=>((st.rd x).fresh st).asArg st.ep:=by
  intro st2 ha;refine⟨ha.rd (λt ht=>by simp[dE,ho,ht]),?_⟩;apply List.map_congr_left;intro x hx;have CH:(st.rd x).now st.ep=true:=by simp only[dv,ho,ae,aF]at ga;exact ga.2 x hx
  rw[ha.rd (λt ht=>by simp only[dE,ho,az,M4,List.mem_flatMap];exact .inr ⟨x,hx,ht⟩),ym CH,ym (s:=st2) (by rw[ha.ep];exact CH),ha.ep]
 unfold BR at h;split at h
 ·rename_i k hf
  cases jH:(Γ k).bx with
  |true=>rw[jH]at h;exact MM ho ga hf jH ((zd k).2.1 jH) h
  |false=>
  rw[jH,(zd k).2.2,(zd k).1]at h
  simp only[af]at h
  cases hg:(Γ k).fn (args.toList.map λx=>((st.rd x).fresh st).asArg st.ep)with
  |none=>rw[hg]at h;cases h
  |some y=>
   rw[hg]at h
   simp only[aa]at h
   cases ME:(Γ k).sel y with
   |true=>
    rw[ME]at h
    cases h
    refine dY.new rfl λst2 ha=>?_
    simp only[da,ho,BR,(hr st2 ha).1,hf,(zd k).1,jH,(zd k).2.2,af]
    rw[(hr st2 ha).2,hg]
    simp only[aa,ME,ah,ha.ep,ha.hZ]
   |false=>
    rw[ME]at h
    cases h
    refine dY.new rfl λst2 ha=>?_
    simp only[da,ho,BR,(hr st2 ha).1,hf,(zd k).1,jH,(zd k).2.2,af]
    rw[(hr st2 ha).2,hg]
    simp only[aa,ME,af,ha.ep,ha.hZ]
 cases h
theorem MN {src dst:TypeId}(ho:o.op=.convert src dst x)(h:lF E o src dst x st some=some bN):dY E Γ an X o st bN:=by
 have hr:∀st2,gL an X o st st2->st2.rd x=st.rd x:=λst2 ha=>ha.rd (λt ht=>by simpa[dE,ho]using ht);unfold lF at h;split at h;rename_i h1 h2 h3;cases h;refine dY.put rfl λst2 ha=>?_;simp only[da,ho,lF,hr st2 ha,h1,h2,h3];rename_i h1 h2 h3;cases h;refine dY.put rfl λst2 ha=>?_;simp only[da,ho,lF,hr st2 ha,h1,h2,h3];rename_i jJ val s Fm h1 h2 h3;split at h;rename_i hb;unfold room at h;split at h;rename_i hrm;cases h;refine dY.new (v:=.one (.sl (.own (st.hZ o.dst 0)) (.int .u8) (dk s))) rfl λst2 ha=>?_;have EV:∀k:AS->ay AS,lF E o src dst x st2 k=if E.bytes dst then room s.length (k (st2.pw o.dst (.int .u8) (dk s))) else none:=by intro k;unfold lF;rw[hr st2 ha,h1,h2,h3];obtain⟨ag,ct,of⟩:=val;cases ag with|true=>rfl|false=>cases ct with|str=>exact(Fm _ rfl).elim|_=>rfl
 simp only[da,ho];rw[EV,aH hb,room,aH hrm,AS.pw,ha.hZ];cases h;cases h;rename_i val jJ fl xs h1 h2 h3;split at h;rename_i hb;cases h;refine dY.put rfl λst2 ha=>?_;have EV:∀k:AS->ay AS,lF E o src dst x st2 k=if E.bytes src/\fl.live st2.ep then k (st2.put o.dst (.one (.str (aL xs)))) else none:=by intro k;unfold lF;rw[hr st2 ha,h1,h2,h3];obtain⟨ag,ct,of⟩:=val;cases ag with|true=>rfl|false=>cases ct<;>rfl
 simp only[da,ho];rw[EV,ha.ep,aH hb];cases h;cases h
theorem Io {d:Nat}:(⟨[(d,v)],some (d,cs),none⟩:Hd).apply st=(st.eI d (some cs)).put (some d) v:=rfl
theorem SJ (ho:o.op=.alloc T)(h:AY E o T st some=some bN):dY E Γ an X o st bN:=by unfold AY at h;split at h;rename_i d sh hd hT;split at h;rename_i hb;cases h;refine⟨⟨[(d,.one (.ptr d 0))],some (d,cellsOf sh.ct (.own none) sh.ct.zero),none⟩,⟨λx hx=>?_,λb gX=>?_,λ_ hh=>by cases hh⟩,?_,λst2 ha=>?_⟩;simp only[cp]at hx;subst hx;simp[writes,hd];cases gX;simp[Dg,ho,hd];rw[Io,hd];simp only[da,ho,AY,hd,hT,(ha.dst d hd).2,hb,Io];cases h;cases h
def nL (st:AS):Operand->ax (Nat×AV)
 | .tmp t=>[(t,(st.get t).aU st.ep)]
 |_=>[]
theorem Af (l:ax AV)(a b:ax (Nat×AV)):jK l (a++b)=jK (jK l a) b:=by induction a generalizing l with|nil=>rfl|cons x a ih=>exact ih _
def AS.jS (st:AS)(l:ax (Nat×AV)):AS:={st with slots:=jK st.slots l}
theorem qx (a b:ax (Nat×AV)):st.jS (a++b)=(st.jS a).jS b:=by simp only[AS.jS,Af]
theorem AQ (x:Operand):(st.take x).2=st.jS (nL st x):=by cases x<;>rfl
theorem BI (xh:st2.ep=st.ep)(h:∀t∈tm x,st2.get t=st.get t):(st2.take x).1=(st.take x).1/\(st2.take x).2=st2.jS (nL st x):=by cases x with|tmp t=>have:=h t (by simp[tm]);refine⟨this,?_⟩;rw[AQ];simp only[nL,this,xh]|const v=>exact⟨rfl,rfl⟩|func f=>exact⟨rfl,rfl⟩|global g=>exact⟨rfl,rfl⟩
theorem G6:∀y∈nL st x,y.1∈tm x:=by cases x<;>simp[nL,tm]
theorem Wh (ho:o.op=.move x)(h:AI an o x st some=some bN):dY E Γ an X o st bN:=by
 unfold AI at h;cases hd:o.dst with
 |none=>rw[hd]at h;cases h
 |some d=>
  rw[hd]at h;cases hf:an.mv.contains d with
  |false=>simp only[hf,aY,bW]at h;cases h;refine dY.put (v:=st.rd x) (by rw[hd]) λst2 ha=>?_;have hr:st2.rd x=st.rd x:=ha.rd (λt ht=>by simpa[dE,ho]using ht);simp only[da,ho,AI,hd,hf,aY,bW,hr]
  |true=>
   simp only[hf,bQ]at h;cases h;have hr:∀st2,gL an X o st st2->(st2.take x).1=(st.take x).1/\(st2.take x).2=st2.jS (nL st x):=λst2 ha=>BI ha.ep λt ht=>ha.get t (by simpa[dE,ho]using ht);refine⟨⟨nL st x++[(d,(st.take x).1)],none,none⟩,⟨λy hy=>?_,λ_ hh=>(by cases hh),λ_ hh=>(by cases hh)⟩,?_,λst2 ha=>?_⟩;rcases az.1 hy with hy|hy;have:=G6 y hy;have hf':d∈an.mv:=by simpa using hf
   simp[writes,Dd,ho,hd,hf',dE,this];simp only[cp]at hy;subst hy;simp[writes,hd];rw[AQ];show _=st.jS _;rw[qx];rfl;simp only[da,ho,AI,hd,hf,bQ,(hr st2 ha).1,(hr st2 ha).2];show some ((st2.jS (nL st x)).put (some d) (st.take x).1)=some (st2.jS _);rw[qx];rfl
theorem Rr {ep:Nat}(h:cs.all AC.jo=true):aU ep cs=cs:=by
 rw[aF]at h;unfold aU;have:cs.map (AC.borrow ep none)=cs.map id:=List.map_congr_left λc hc=>by have:=h c hc;cases c<;>first|rfl|(simp[AC.jo]at this)
 rw[this,List.map_id]
theorem afX {s:AS}{vs:ax (Bool×ax AC)}(h:s.get t=.uW vs):s.put (some t) (.uW vs)=s:=by cases s with|mk slots boxes ep iss io=>simp only[AS.put,AS.mk.injEq,iI];rw[fu];apply cA;intro i;rw[br];split;rename_i hd;subst hd;simp only[AS.get,dK]at h;split;rename_i gY;rw[aq gY]at h⊢;simp only[fC]at h;rw[h];rename_i yZ;rw[bn (Nat.le_of_not_lt yZ)];rfl
theorem MO {i:Nat}(ho:o.op=.extract (.tmp t) i)(ga:dv E an X o st=true)(h:lH o t i st some=some bN):dY E Γ an X o st bN:=by
 have hr:∀st2,gL an X o st st2->st2.get t=st.get t:=λst2 ha=>ha.get t (by simp[dE,ho]);unfold lH at h;simp only[dv,ho]at ga;split at h
 ·rename_i vs hv;rw[hv]at ga;split at h
  ·rename_i g cs hn;simp only[hn]at ga;have hfl:cs.all AC.jo=true\/∃d,o.dst=some d/\an.mv.contains d=true:=by cases hd:o.dst with|none=>simp only[hd,Bool.or_false]at ga;exact .inl ga|some d=>simp only[hd,cE]at ga;rcases ga with h|h;exact .inl h;exact .inr ⟨d,rfl,h⟩
   rcases hfl with ga|⟨d,hd,BW⟩;rotate_left;cases h;refine⟨⟨[(t,.uW (gU vs i (g,aU 0 cs))),(d,.val g cs)],none,none⟩,⟨λx hx=>?_,(λ_ hb=>by cases hb),(λ_ hh=>by cases hh)⟩,?_,λst2 ha=>?_⟩;simp only[cn,List.not_mem_nil,or_false]at hx;rcases hx with rfl|rfl;simp only[writes,Dd,ho,hd,BW,ah,dE];simp;simp only[writes,hd];simp;rw[hd];rfl;have h2:st2.get t=.uW vs:=by rw[hr st2 ha,hv]
   simp only[da,ho,lH,h2,hn,hd];rfl;skip;have CI:gU vs i (g,cs)=vs:=by rw[fu];rw[dK]at hn;apply cA;intro k;rw[br];split;rename_i hk;subst hk;obtain⟨hl,he⟩:=aG.1 hn;rw[aH hl,hn];rfl
   have key:∀s:AS,s.get t=.uW vs->(s.put (some t) (.uW (gU vs i (g,aU 0 cs))))=s:=λs hs=>by rw[Rr ga,CI,afX hs]
   rw[key st hv]at h;cases h;refine dY.put rfl λst2 ha=>?_;have h2:st2.get t=.uW vs:=by rw[hr st2 ha,hv]
   simp only[da,ho,lH,h2,hn];rw[key st2 h2]
  cases h
 cases h
def yg (st:AS):Operand->ax (Nat×AV)
 | .tmp t=>[(t,(st.get t).aU st.ep)]
 |_=>[]
theorem L8 (st:AS)(x:Operand):(st.take x).2=⟨jK st.slots (yg st x),st.boxes,st.ep,st.iss,st.io⟩:=by cases x<;>rfl
theorem SO {pp:Nat}(ho:o.op=.store T (.tmp pp) x)(hd:o.dst=none)(hm:nk an o=true)(ga:dv E an X o st=true)(h:vB E T (.tmp pp) x st some=some bN):dY E Γ an X o st bN:=by
 have hr:∀st2,gL an X o st st2->st2.rd (.tmp pp)=st.rd (.tmp pp):=λst2 ha=>ha.rd (λt ht=>by simp only[dE,ho,az];exact .inl ht);have XL:(an.sb pp).isNone=false:=by simp only[nk,ho,ae]at hm;cases hb:an.sb pp with|none=>rw[hb]at hm;cases hm.1|some _=>rfl
 simp only[dv,ho,XL,eJ,cJ]at ga;unfold vB at h;split at h;rename_i sh s off hT hp;rw[hp]at ga;simp only[ae,aK,aV]at ga;split at h;rename_i gg vs st1 rK;have PH:(st.take x).1=.val gg vs:=by rw[rK]
 have CJ:st1=⟨jK st.slots (yg st x),st.boxes,st.ep,st.iss,st.io⟩:=by rw[<-L8,rK]
 split at h;rename_i cs hb;split at h;rename_i hlen;split at h;rename_i gF;cases h;have jH:∀st2,gL an X o st st2->nth st2.boxes s=nth st.boxes s:=λst2 ha=>ha.box s ga.1;refine⟨⟨yg st x,some (s,dZ cs off vs),none⟩,⟨λy hy=>?_,λb gX=>?_,λ_ hh=>by cases hh⟩,?_,λst2 ha=>?_⟩;cases x with|tmp t=>simp only[yg,cp]at hy;subst hy;simp only[writes,Dd,ho,ah,dE,hd];simp[tm]|_=>simp[yg]at hy
 cases gX;simp only[Dg,ho,ga.2];simp;rw[CJ];rfl;have XM:(st2.take x).1=(st.take x).1/\yg st2 x=yg st x:=by cases x with|tmp t=>have hg:st2.get t=st.get t:=ha.get t (by simp[dE,ho,tm]);simp only[AS.take,yg,hg,ha.ep];simp|const v=>exact⟨rfl,rfl⟩|func f=>exact⟨rfl,rfl⟩|global g=>exact⟨rfl,rfl⟩
 have ht2:st2.take x=(.val gg vs,⟨jK st2.slots (yg st x),st2.boxes,st2.ep,st2.iss,st2.io⟩):=by rw[<-XM.2,<-L8,<-PH,<-XM.1]
 have JM:(nth st2.boxes s).getD none=some cs:=by rw[jH st2 ha];rw[CJ]at hb;exact hb
 have BV:yN an o=false:=by simp only[nk,ho,ae,aK]at hm;exact hm.2
 simp only[da,ho,hd,BV,aY,bW,vB,hT,hr st2 ha,hp,ht2,JM,aH hlen,aH gF];rfl;cases h;cases h;cases h;cases h;rename_i r _ _ _ _ _ _ hp;rw[hp]at ga;cases r<;>simp at ga;cases h
theorem P3 (ho:o.op=.assign x)(hm:nk an o=true)(h:tJ E an o x st some=some bN):dY E Γ an X o st bN:=by
 have hr:∀st2,gL an X o st st2->(st2.take x).1=(st.take x).1/\(st2.take x).2=st2.jS (nL st x):=λst2 ha=>BI ha.ep λt ht=>ha.get t (by simpa[dE,ho]using ht);have BV:yN an o=false:=by simpa[nk,ho]using hm
 unfold tJ at h;split at h;rename_i st1 rK;split at h;rename_i e hT;cases h;refine dY.put rfl λst2 ha=>?_;have h2:st2.take x=(.val false [.jB],st2.jS (nL st x)):=Prod.ext (by rw[(hr st2 ha).1,rK]) (hr st2 ha).2;simp only[da,ho,tJ,BV,aY,bW,h2,hT];cases h;rename_i v st1 Fm rK;cases h;have CJ:st1=st.jS (nL st x):=by rw[<-AQ,rK]
 refine⟨⟨nL st x++o.dst.toList.map λd=>(d,v),none,none⟩,⟨λy hy=>?_,λ_ hh=>(by cases hh),λ_ hh=>(by cases hh)⟩,?_,λst2 ha=>?_⟩;rcases az.1 hy with hy|hy;have:=G6 y hy;simp[writes,Dd,ho,dE,this];obtain⟨d,hd,rfl⟩:=List.mem_map.1 hy;simp[writes,hd];rw[CJ];show _=st.jS _;rw[qx];cases o.dst<;>rfl;have h2:st2.take x=(v,st2.jS (nL st x)):=Prod.ext (by rw[(hr st2 ha).1,rK]) (hr st2 ha).2;simp only[da,ho,tJ,BV,aY,bW,h2];show some ((st2.jS (nL st x)).put o.dst v)=some (st2.jS _);rw[qx];cases o.dst<;>rfl
theorem ju {α:Type}(l:ax α)(i:Nat)(v:α)(t:Nat):nth (gU l i v) t=if i=t then(if i<l.length then some v else none) else nth l t:=by rw[dK,fu,dK,br]
theorem LA (l:ax AV)(a:ax (Nat×AV)):(jK l a).length=l.length:=by induction a generalizing l with|nil=>rfl|cons x a ih=>rw[jK,ih,fu,aC]
theorem Wy {l l2:ax AV}(a:ax (Nat×AV))(hl:l2.length=l.length)(t:Nat)(h:nth l2 t=nth l t):nth (jK l2 a) t=nth (jK l a) t:=by induction a generalizing l l2 with|nil=>exact h|cons x a ih=>refine ih (by rw[fu,fu,aC,aC,hl]) ?_;rw[ju,ju,hl,h]
theorem Wm (h:st2.get t=st.get t)(hl:st2.slots.length=st.slots.length):nth st2.slots t=nth st.slots t:=by unfold AS.get at h;rw[dK,dK]at h⊢;rcases cd t st.slots.length with gY|yZ;rw[aq gY,aq (by omega)]at h⊢;simpa using h;rw[bn yZ,bn (by omega)]
def jE (st:AS):ax Operand->ax (Nat×AV)
 |[]=>[]
 |x::xs=>nL st x++jE (st.jS (nL st x)) xs
theorem yY:∀(xs:ax Operand)(st:AS),∀y∈jE st xs,y.1∈M4 xs
 |[],_,y,hy=>by cases hy
 |x::xs,st,y,hy=>by simp only[M4,List.flatMap_cons,az];rcases az.1 hy with hy|hy;exact .inl (G6 y hy);exact .inr (yY xs _ y hy)
theorem Ai:∀(xs:ax Operand)(st st2:AS),st2.ep=st.ep->st2.slots.length=st.slots.length->(∀t∈M4 xs,nth st2.slots t=nth st.slots t)->
 (eS st2 xs).1=(eS st xs).1/\(eS st2 xs).2=st2.jS (jE st xs)
 |[],st,st2,_,_,_=>⟨rfl,rfl⟩
 |x::xs,st,st2,xh,hl,hg=>by
  have hx:∀t∈tm x,st2.get t=st.get t:=λt ht=>by unfold AS.get;rw[hg t (by simp[M4,ht])]
  obtain⟨h1,h2⟩:=BI (st:=st) (st2:=st2) xh hx;have h3:=AQ (st:=st) x;obtain⟨k1,k2⟩:=Ai xs (st.jS (nL st x)) (st2.jS (nL st x)) xh (by simp only[AS.jS,LA,hl]) (λt ht=>Wy _ hl t (hg t (by simp only[M4,List.flatMap_cons,az];exact .inr ht)));have e1:eS st (x::xs)=((st.take x).1::(eS (st.take x).2 xs).1,(eS (st.take x).2 xs).2):=rfl;have e2:eS st2 (x::xs)=((st2.take x).1::(eS (st2.take x).2 xs).1,(eS (st2.take x).2 xs).2):=rfl;rw[e1,e2,h1,h2,h3];refine⟨by rw[k1],?_⟩;show(eS (st2.jS (nL st x)) xs).2=_;rw[k2,jE,qx]
theorem BH (xs:ax Operand):(eS st xs).2=st.jS (jE st xs):=(Ai xs st st rfl rfl (λ_ _=>rfl)).2
theorem gL.eS (ha:gL an X o st st2){xs:ax Operand}(hx:∀t∈M4 xs,t∈dE o):(eS st2 xs).1=(Dn.eS st xs).1/\(Dn.eS st2 xs).2=st2.jS (jE st xs):=Ai xs st st2 ha.ep ha.len λt ht=>Wm (ha.get t (hx t ht)) ha.len
theorem SK (ho:o.op=.build T parts)(h:zV E o T parts.toList st some=some bN):dY E Γ an X o st bN:=by
 have hl:∀t∈M4 (parts.toList.map (·.2)),t∈dE o:=λt ht=>by simp only[dE,ho];exact ht
 unfold zV at h;split at h;rename_i ct jJ hT;split at h;rename_i vs st1 rK;have CJ:st1=st.jS (jE st (parts.toList.map (·.2))):=by rw[<-BH,rK]
 split at h;rename_i cs hb;cases h;refine⟨⟨jE st (parts.toList.map (·.2))++o.dst.toList.map λd=>(d,.val true cs),none,none⟩,⟨λy hy=>?_,λ_ hh=>(by cases hh),λ_ hh=>(by cases hh)⟩,?_,λst2 ha=>?_⟩;rcases az.1 hy with hy|hy;have:=hl _ (yY _ _ y hy);simp[writes,Dd,ho,this];obtain⟨d,hd,rfl⟩:=List.mem_map.1 hy;simp[writes,hd];rw[CJ];show _=st.jS _;rw[qx];cases o.dst<;>rfl;obtain⟨k1,k2⟩:=ha.eS hl;have h2:eS st2 (parts.toList.map (·.2))=(vs,st2.jS (jE st (parts.toList.map (·.2)))):=Prod.ext (by rw[k1,rK]) k2;simp only[da,ho,zV,hT,h2,hb];show some ((st2.jS _).put o.dst _)=some (st2.jS _);rw[qx];cases o.dst<;>rfl;cases h;cases h
theorem dY.aiP (ht:Dd an o=true)(hl:∀y∈tl,y.1∈dE o)(h:bN=((st.jS tl).fz o.dst).put o.dst v)(h2:∀st2,gL an X o st st2->da E Γ an o st2 some=some (((st2.jS tl).fz o.dst).put o.dst v)):dY E Γ an X o st bN:=by
 have key:∀s:AS,(⟨tl++o.dst.toList.map λd=>(d,v),none,o.dst⟩:Hd).apply s=((s.jS tl).fz o.dst).put o.dst v:=by intro s;cases o.dst with|none=>simp only[Hd.apply,Option.toList,List.map_nil,bS,AS.jS,AS.fz,AS.put]|some d=>simp only[Hd.apply,Option.toList,cS,List.map_nil,Af,AS.jS,AS.fz,AS.put,jK]
 refine⟨⟨tl++o.dst.toList.map λd=>(d,v),none,o.dst⟩,⟨λy hy=>?_,λ_ hh=>(by cases hh),λd hh=>hh⟩,by rw[key];exact h,λst2 ha=>by rw[key];exact h2 st2 ha⟩;rcases az.1 hy with hy|hy;simp[writes,ht,hl y hy];obtain⟨d,hd,rfl⟩:=List.mem_map.1 hy;simp[writes,hd]
theorem yr {d:ay Nat}:(st.jS tl).hZ d=st.hZ d:=rfl
theorem HO {len:Nat}(ho:o.op=.buildSlice T len parts)(h:lD E o T len parts.toList st some=some bN):dY E Γ an X o st bN:=by
 have hl:∀t∈M4 (parts.toList.map (·.2)),t∈dE o:=λt ht=>by simp only[dE,ho];exact ht
 unfold lD at h;split at h;rename_i e hT;split at h;rename_i hc;split at h;rename_i vs st1 rK;have CJ:st1=st.jS (jE st (parts.toList.map (·.2))):=by rw[<-BH,rK]
 split at h;rename_i xs hb;cases h;refine dY.aiP (tl:=jE st (parts.toList.map (·.2))) (v:=.one (.sl (.own (st.hZ o.dst 0)) e xs)) (by simp[Dd,ho]) (λy hy=>hl _ (yY _ _ y hy)) ?_ λst2 ha=>?_;rw[CJ,AS.pw,yr];obtain⟨k1,k2⟩:=ha.eS hl;have h2:eS st2 (parts.toList.map (·.2))=(vs,st2.jS (jE st (parts.toList.map (·.2)))):=Prod.ext (by rw[k1,rK]) k2;simp only[da,ho,lD,hT,h2,hb,aH hc];rw[AS.pw,yr,ha.hZ];cases h;cases h;cases h
theorem Jz {n c:Operand}(ho:o.op=.makeSlice T n c)(h:nZ E o T n c st some=some bN):dY E Γ an X o st bN:=by
 have hr:∀st2,gL an X o st st2->st2.rd n=st.rd n/\st2.rd c=st.rd c:=λst2 ha=>
  ⟨ha.rd (λt ht=>by simp[dE,ho,ht]),ha.rd (λt ht=>by simp[dE,ho,ht])⟩
 unfold nZ at h;split at h;rename_i e len cap hT hn hc;split at h;rename_i hlc;unfold room at h;split at h;rename_i hrm;cases h;refine dY.new (v:=.one (.sl (.own (st.hZ o.dst 0)) e (List.replicate len.toNat e.zero))) rfl λst2 ha=>?_;simp only[da,ho,nZ,(hr st2 ha).1,(hr st2 ha).2,hT,hn,hc,aH hlc,room,aH hrm,AS.pw,ha.hZ];cases h;cases h;cases h
theorem P2 (ho:o.op=.call {callee:=.builtin .append,args,argTypes:=ts})(h:vG E o ts.toList args.toList st some=some bN):dY E Γ an X o st bN:=by
 have T3:∀t∈M4 args.toList,t∈dE o:=λt ht=>by simp only[dE,ho];exact ht
 unfold vG at h;split at h;rename_i t t' s x su fT;have hl:∀u∈M4 [s,x],u∈dE o:=by rw[<-fT];exact T3
 have agD:∀st2,gL an X o st st2->(st2.take s).1=(st.take s).1/\((st2.take s).2.take x).1=((st.take s).2.take x).1/\((st2.take s).2.take x).2=st2.jS (jE st [s,x]):=by intro st2 ha;obtain⟨k1,k2⟩:=ha.eS hl;simp only[Dn.eS,List.cons.injEq,iI]at k1 k2;exact⟨k1.1,k1.2,k2⟩
 have zB:((st.take s).2.take x).2=st.jS (jE st [s,x]):=BH (st:=st) [s,x];split at h;rename_i tag e xs st1 PH;split at h;rename_i fl e' ys aiM F0;split at h;rename_i he;subst he;split at h;rename_i hc;unfold room at h;split at h;rename_i hrm;cases h;have CJ:(st.take s).2=st1:=by rw[PH]
 have PG:aiM=st.jS (jE st [s,x]):=by rw[<-zB,CJ,F0]
 refine dY.aiP (tl:=jE st [s,x]) (v:=.one (.sl (.own (st.hZ o.dst 0)) e' (xs++ys))) (by simp[Dd,ho]) (λy hy=>hl _ (yY _ _ y hy)) ?_ λst2 ha=>?_;rw[PG,AS.pw,yr];obtain⟨k1,k2,k3⟩:=agD st2 ha;have e1:st2.take s=(.val false [.sl (.own tag) e' xs],(st2.take s).2):=Prod.ext (by rw[k1,PH]) rfl;have e2:(st2.take s).2.take x=(.val false [.sl fl e' ys],st2.jS (jE st [s,x])):=Prod.ext (by rw[k2,CJ,F0]) k3;simp only[da,ho,vG,su,fT];rw[e1];simp only;rw[e2];simp only[dite_true,ha.ep,aH hc,room,aH hrm,AS.pw,yr,ha.hZ];cases h;cases h;cases h;rename_i sx aiM F0;split at h;rename_i he;subst he;split at h;rename_i hc;unfold room at h;split at h;rename_i hrm;cases h;have CJ:(st.take s).2=st1:=by rw[PH]
 have PG:aiM=st.jS (jE st [s,x]):=by rw[<-zB,CJ,F0]
 refine dY.aiP (tl:=jE st [s,x]) (v:=.one (.sl (.own (st.hZ o.dst 0)) (.int .u8) (xs++dk sx))) (by simp[Dd,ho]) (λy hy=>hl _ (yY _ _ y hy)) ?_ λst2 ha=>?_;rw[PG,AS.pw,yr];obtain⟨k1,k2,k3⟩:=agD st2 ha;have e1:st2.take s=(.val false [.sl (.own tag) (.int .u8) xs],(st2.take s).2):=Prod.ext (by rw[k1,PH]) rfl;have e2:(st2.take s).2.take x=(.val false [.str sx],st2.jS (jE st [s,x])):=Prod.ext (by rw[k2,CJ,F0]) k3;simp only[da,ho,vG,su,fT];rw[e1];simp only;rw[e2];simp only[dite_true,aH hc,room,aH hrm,AS.pw,yr,ha.hZ];cases h;cases h;cases h;cases h;cases h;cases h
theorem aab (ho:o.op=.box T x)(h:OO o x st some=some bN):dY E Γ an X o st bN:=by
 have hr:∀st2,gL an X o st st2->(st2.take x).1=(st.take x).1/\(st2.take x).2=st2.jS (nL st x):=λst2 ha=>BI ha.ep λt ht=>ha.get t (by simpa[dE,ho]using ht);unfold OO at h;split at h;rename_i d g cs st1 hd rK;have CJ:st1=st.jS (nL st x):=by rw[<-AQ,rK]
 split at h;rename_i hb;split at h;rename_i hs;cases h;have RM:nth st.boxes d=some none:=by rw[CJ]at hb;exact hb
 have key:∀s:AS,(⟨nL st x++[(d,.one (.ptr d 0))],some (d,cs),none⟩:Hd).apply s=((s.jS (nL st x)).eI d (some cs)).put (some d) (.one (.ptr d 0)):=by intro s;simp only[Hd.apply,Af,AS.jS,AS.eI,AS.put,jK]
 refine⟨⟨nL st x++[(d,.one (.ptr d 0))],some (d,cs),none⟩,⟨λy hy=>?_,λb gX=>?_,λ_ hh=>(by cases hh)⟩,?_,λst2 ha=>?_⟩;rcases az.1 hy with hy|hy;have:=G6 y hy;simp[writes,Dd,ho,dE,this];simp only[cp]at hy;subst hy;simp[writes,hd];cases gX;simp[Dg,ho,hd];rw[key,CJ,hd];have h2:st2.take x=(.val g cs,st2.jS (nL st x)):=Prod.ext (by rw[(hr st2 ha).1,rK]) (hr st2 ha).2;have JM:nth (st2.jS (nL st x)).boxes d=some none:=by show nth st2.boxes d=_;rw[(ha.dst d hd).2];exact RM
 simp only[da,ho,OO,hd,h2,JM,aH hs,key];cases h;cases h;cases h
theorem L1 (zd:∀f,(Γ f).io=false/\((Γ f).bx=true->(Γ f).cur=true)/\(Γ f).pr=false)(hm:nk an o=true)(ga:dv E an X o st=true)(h:da E Γ an o st some=some bN):dY E Γ an X o st bN:=by
 have h0:=h;unfold da at h;split at h;rename_i ho;exact Wh ho h;rename_i ho;have BV:yN an o=false:=by simpa[nk,ho]using hm
 rw[aI (by simp[BV])]at h;exact P3 ho hm h;rename_i ho;exact Wi ho h;rename_i ho;exact SJ ho h;rename_i ho;exact aab ho h;rename_i ho;exact Wg ho hm ga h;rename_i T p x ho;split at h;rename_i hd;cases p with
 |tmp pp=>
  have BV:yN an o=false:=by simp only[nk,ho,ae,aK]at hm;exact hm.2
  rw[aI (by simp[BV])]at h;exact SO ho hd hm ga h
 |const v=>simp[nk,ho]at hm
 |func f=>simp[nk,ho]at hm
 |global g=>simp[nk,ho]at hm
 cases h;rename_i ho;exact Lk ho h0;rename_i ho;exact aaa ho h;rename_i ho;exact adx ho h;rename_i ho;exact SL ho h;rename_i ho;exact Jy ho ga h;rename_i ho;exact SM ho h;rename_i ho;exact SK ho h;rename_i ho;exact HO ho h;rename_i ho;exact Jz ho h;rename_i ho;exact SN ho hm ga h;rename_i ho;simp[nk,ho]at hm;rename_i ho;simp[nk,ho]at hm;rename_i ho;exact MN ho h;rename_i ho;exact MO ho ga h;rename_i ho;exact aac ho h;rename_i ho;exact aae ho h;rename_i ho;exact aad ho h;rename_i ho;exact P2 ho h;rename_i ho;exact Wf zd ho ga h;cases h
end Go.Dn
