import Derived.Test.YtinkcmefgciifaaGreatDnMask
/- What an operation looks at and what it turns: for regions whose order is drawn. -/
namespace Go.Dn
structure Ks where
 slots:List (Nat×AV):=[]
 box:Option (Nat×List AC):=none
 iss:Option Nat:=none
def lE (l:az AV):az (Nat×AV)->az AV
 |[]=>l
 |x::r=>lE (jt l x.1 x.2) r
def Ks.apply (u:Ks)(st:AS):AS:=
 ⟨lE st.slots u.slots,(match u.box with|some b=>jt st.boxes b.1 (some b.2)|none=>st.boxes),st.ep,(match u.iss with|some d=>jt st.iss d true|none=>st.iss),st.io⟩
structure ji (an:An) (X:List Nat) (o:Oper) (st st2:AS):Prop where
 len:st2.slots.length=st.slots.length
 get:∀t∈eF o,st2.get t=st.get t
 ep:st2.ep=st.ep
 dst:∀d,o.dst=some d->nth st2.iss d=nth st.iss d/\nth st2.boxes d=nth st.boxes d
 box:∀s,X.contains s=false->nth st2.boxes s=nth st.boxes s
 er:∀t∈erS an o,st2.get t=st.get t
structure Ks.HT (an:An) (u:Ks) (o:Oper):Prop where
 slots:∀x∈u.slots,x.1∈writes an o
 box:∀b,u.box=some b->b.1∈GF an o
 iss:∀d,u.iss=some d->o.dst=some d
variable {E:Env} {Γ:Bx} {an:An} {X:gk} {o:Oper} {st st2 cc:AS}
variable {v:AV} {parts:Array (Nat×Operand)} {args:Array Operand} {ts:Array TypeId} {t:Nat} {f p x:Operand} {T:TypeId} {tl:az (Nat×AV)} {cs:az AC}
theorem ah0 (Ae:st2.ep=st.ep)(h:∀t∈tm x,st2.get t=st.get t):st2.rd x=st.rd x:=by cases x with|tmp t=>simp only[AS.rd,Ae,h t (by simp[tm])]|const v=>rfl|func f=>rfl|global g=>rfl
def fB (E:Env)(Γ:Bx)(an:An)(X:gk)(o:Oper)(st cc:AS):Prop:=
 ∃u:Ks,u.HT an o/\cc=u.apply st/\∀st2,ji an X o st st2->dG E Γ an o st2 some=some (u.apply st2)
def E2 (o:Oper)(v:AV):Ks:={slots:=o.dst.toList.map λd=>(d,v)}
theorem ub (v:AV):(E2 o v).apply st=st.put o.dst v:=by unfold E2 Ks.apply AS.put;cases o.dst<;>rfl
theorem Dm (v:AV):(E2 o v).HT an o:=by refine⟨λx hx=>?_,λb hb=>by simp[E2]at hb,λd hd=>by simp[E2]at hd⟩;simp only[E2,dx]at hx;obtain⟨d,hd,rfl⟩:=hx;simp[writes,hd]
def Iy (o:Oper)(v:AV):Ks:={slots:=o.dst.toList.map λd=>(d,v),iss:=o.dst}
theorem Km (v:AV):(Iy o v).apply st=(st.gO o.dst).put o.dst v:=by unfold Iy Ks.apply AS.put AS.gO;cases o.dst<;>rfl
theorem RA (v:AV):(Iy o v).HT an o:=by refine⟨λx hx=>?_,λb hb=>by simp[Iy]at hb,λd hd=>by simpa[Iy]using hd⟩;simp only[Iy,dx]at hx;obtain⟨d,hd,rfl⟩:=hx;simp[writes,hd]
theorem fB.put (h:cc=st.put o.dst v)(h2:∀st2,ji an X o st st2->dG E Γ an o st2 some=some (st2.put o.dst v)):fB E Γ an X o st cc:=⟨E2 o v,Dm v,by rw[ub];exact h,λst2 ha=>by rw[ub];exact h2 st2 ha⟩
theorem ji.rd (ha:ji an X o st st2)(hx:∀t∈tm x,t∈eF o):st2.rd x=st.rd x:=ah0 ha.ep λt ht=>ha.get t (hx t ht)
theorem aaQ {c y:Operand}(ho:o.op=.pick c x y)(h:Ge o c x y st some=some cc):fB E Γ an X o st cc:=by
 have hr:∀st2,ji an X o st st2->st2.rd c=st.rd c/\st2.rd x=st.rd x/\st2.rd y=st.rd y:=λst2 ha=>
  ⟨ha.rd (λt ht=>by simp[eF,ho,ht]),ha.rd (λt ht=>by simp[eF,ho,ht]),ha.rd (λt ht=>by simp[eF,ho,ht])⟩
 unfold Ge at h;split at h;rename_i t hc;split at h;rename_i a b hx hy;cases h;refine fB.put rfl λst2 ha=>?_;obtain⟨h1,h2,h3⟩:=hr st2 ha;simp only[dG,ho,Ge,h1,h2,h3,hc,hx,hy];rename_i va vb IG;have hgo:∀st2,ji an X o st st2->dG E Γ an o st2 some=cond t (some (st2.put o.dst (st.rd x))) (some (st2.put o.dst (st.rd y))):=by intro st2 ha;obtain⟨h1,h2,h3⟩:=hr st2 ha;simp only[dG,ho,Ge,h1,h2,h3,hc]
 cases t with|true=>cases h;exact fB.put rfl λst2 ha=>hgo st2 ha|false=>cases h;exact fB.put rfl λst2 ha=>hgo st2 ha
 cases h
theorem Ps {d s:Nat}:(⟨[(d,v)],some (s,cs),none⟩:Ks).apply st=(st.fU s (some cs)).put (some d) v:=rfl
theorem Ti {o:Oper}(h:Gx an o=true):∃T q d,o.op=.load T (.tmp q)/\o.dst=some d/\o.guard=none/\an.mv.contains d=true/\an.mb d=none:=by unfold Gx at h;split at h;rename_i T q d ho hd hg;simp only[ae,Option.isNone_iff_eq_none]at h;exact⟨T,q,d,ho,hd,hg,h.1.1,h.1.2⟩;cases h
def Kk (st:AS)(b j t:Nat)(e:CT)(i:Int)(cs:az AC)(ys:az e.D):AS:=st.fU b (some (jt cs j (.sl (.gH (some t) i (some st.ep)) e ys)))
theorem Qs {q d:Nat}(ht:Gx an o=true)(ho:o.op=.load T (.tmp q))(hd:o.dst=some d)(Fj:an.mv.contains d=true)(YF:an.mb d=none):(dV E an X o st=true/\qO E an o T (.tmp q) st some=some cc)↔ ∃(g:Bool)(e:CT)(lD:az (Nat×Nat))(b j t Ol:Nat)(x:e.D)(i:Int)(cs:az AC)(ys:az e.D)(y:e.D),kv E.ty T=some ⟨g,e,lD⟩/\st.rd (.tmp q)=.val false [.C5 (.loc Ol (some (.box b j,t))) e x i 0]/\(nth st.boxes b).getD none=some cs/\nth cs j=some (.sl (.own (some t)) e ys)/\idx ys i=some y/\ X.contains b=false/\an.eb q=some b/\YC an o=false/\cc=(Kk st b j t e i cs ys).put (some d) (.val g (cellsOf e (.own none) y)):=by
 have uz:GB an o=true:=by unfold GB;rw[hd];simp only[Fj,YF];rfl
 have L8:Dk an o=false:=by unfold Dk;split;rename_i GU _;rw[hd]at GU;cases GU;rw[YF];simp;rfl
 have hnp:CK an o=false:=by unfold CK;split;rename_i GU _;rw[hd]at GU;cases GU;rw[Fj];rfl;rfl
 constructor;rintro⟨hf,h⟩;unfold qO at h;split at h;rename_i hp;simp only[dV,ho,hp,hd,Fj,YF]at hf;simp at hf;rename_i sh fl e x i off hT hp;rw[aJ uz]at h;simp only[dV,ho,hp,ht,L8,hnp,Bool.or_false,cl,ak,cj,iI,ae,aN]at hf;obtain⟨⟨IE,Nw⟩,hb⟩:=hf;unfold zS at h;split at h;rename_i Ol r t;cases r with
 |slot _ _=>cases hb
 |io _=>cases hb
 |box b j=>
  simp only[ae,bn,aN]at hb;split at h;rename_i t' e' ys YG;split at h;rename_i he;subst he;split at h;rename_i hc;obtain⟨rfl,rfl,L6⟩:=hc;obtain⟨g,ct,lD⟩:=sh;simp only at L6;subst L6;cases hi:idx ys i with|none=>simp only[hi,aa]at h;cases h|some y=>simp only[hi,aa]at h;cases h;simp only[AS.gh]at YG;obtain⟨cs,KN,hj⟩:=aZ.1 YG;refine⟨g,_,lD,b,j,_,Ol,x,i,cs,ys,y,hT,hp,KN,hj,hi,hb.2,hb.1,Nw,?_⟩;simp only[AS.gq,KN,hd];rfl
  cases h;cases h;cases h
 cases h;cases h;rintro⟨g,e,lD,b,j,t,Ol,x,i,cs,ys,y,hT,hp,KN,hj,hi,hX,Ui,Nw,rfl⟩;constructor;simp only[dV,ho,hp,ht,L8,hnp,Nw,hX,Ui];simp;simp only[qO,hT,hp,uz,cr,zS,AS.gh,KN,fM,hj,dite_true,and_self,hi,aa,AS.gq,hd];rfl
theorem Xr (ht:Gx an o=true)(ho:o.op=.load T p)(iC:dV E an X o st=true)(h:qO E an o T p st some=some cc):fB E Γ an X o st cc:=by obtain⟨T',q,d,M5,hd,hg,Fj,YF⟩:=Ti ht;rw[ho]at M5;cases M5;obtain⟨g,e,lD,b,j,t,Ol,x,i,cs,ys,y,hT,hp,KN,hj,hi,hX,Ui,Nw,rfl⟩:=(Qs ht ho hd Fj YF).1 ⟨iC,h⟩;refine⟨⟨[(d,.val g (cellsOf e (.own none) y))],some (b,jt cs j (.sl (.gH (some t) i (some st.ep)) e ys)),none⟩,⟨λx hx=>?_,λb' iB=>?_,λ_ hh=>by cases hh⟩,rfl,λst2 ha=>?_⟩;simp only[bA]at hx;subst hx;simp[writes,hd];cases iB;simp only[GF,ho,hd,Fj,ah,ht,Ui];simp;have h2:=((Qs (E:=E) (X:=X) (st:=st2) ht ho hd Fj YF).2 ⟨g,e,lD,b,j,t,Ol,x,i,cs,ys,y,hT,by rw[ha.rd (λt ht=>by simpa[eF,ho]using ht)];exact hp,by rw[ha.box b hX];exact KN,hj,hi,hX,Ui,Nw,rfl⟩).2;simp only[dG,ho];rw[h2];simp only[Kk,ha.ep];rfl
theorem aaO (ho:o.op=.load T p)(hm:px an o=true)(iC:dV E an X o st=true)(h:qO E an o T p st some=some cc):fB E Γ an X o st cc:=by
 cases hE:Gx an o with|true=>exact Xr hE ho iC h|false=> ?_
 have hr:∀st2,ji an X o st st2->st2.rd p=st.rd p:=λst2 ha=>ha.rd (λt ht=>by simpa[eF,ho]using ht);have uz:GB an o=false:=by simp only[px,ho,hE,Bool.or_false]at hm;unfold GB;cases Uh:o.dst with|none=>rfl|some d=>rw[Uh]at hm;simp only[cJ,aN]at hm;rcases hm with hm|hm;simp only[hm,eY];cases YF:an.mb d with|none=>rw[YF]at hm;cases hm|some _=>simp[YF]
 unfold qO at h;split at h;rename_i sh s off hT hp;simp only[dV,ho,hp,ae,aN]at iC;split at h;rename_i cs hb;split at h;rename_i iW;split at h;rename_i d hd;have lB:∀st2,ji an X o st st2->nth st2.boxes s=nth st.boxes s:=λst2 ha=>ha.box s iC.1.1;cases hf:an.mv.contains d with
 |false=>simp only[hf,bj,cy]at h;cases h;refine fB.put (by rw[hd]) λst2 ha=>?_;simp only[dG,ho,qO,hT,hr st2 ha,hp,lB st2 ha,hb,aJ iW,hd,hf,bj,cy,ha.ep]
 |true=>
  simp only[hf,cr]at h;have YF:an.mb d=some s:=by have:=iC.1.2;rw[hd]at this;simp only[hf,ak,cj,bn]at this;exact this
  cases h;refine⟨⟨[(d,.val sh.agg ((cs.drop off).take sh.ct.size))],some (s,fD cs off (bg st.ep ((cs.drop off).take sh.ct.size))),none⟩,⟨λx hx=>?_,λb iB=>?_,λ_ hh=>by cases hh⟩,?_,λst2 ha=>?_⟩;simp only[bA]at hx;subst hx;simp[writes,hd];cases iB;simp only[GF,ho,hd,hf,ah,YF];simp;rw[Ps,hd];simp only[dG,ho,qO,hT,hr st2 ha,hp,lB st2 ha,hb,aJ iW,hd,hf,cr,ha.ep,Ps]
 cases h;cases h;cases h;rename_i sh fl e x i off hT hp;rw[aI (by simp[uz])]at h;split at h;rename_i hl;split at h;rename_i iW;cases h;refine fB.put rfl λst2 ha=>?_;simp only[dG,ho,qO,hT,hr st2 ha,hp,ha.ep,uz,bj,cy,aJ hl,aJ iW];cases h;rename_i hl;have Hx:∀r t Ol,fl=.loc Ol (some (r,t))->∀st2,ji an X o st st2->st2.gh r=st.gh r:=by rintro r t Ol rfl st2 ha;simp only[dV,ho,hp,hE,cl,jU,iI,ae,cJ]at iC;rcases iC.1.1 with hq|hq;exact absurd hq hl;cases r with|slot b j=>simp only[AS.gh];rw[ha.er b (by simpa using hq)]|box b j=>simp only[AS.gh];rw[ha.box b (by simpa using hq)]|io j=>cases hq
 unfold EU at h;split at h;rename_i Ol r t;split at h;rename_i t' e' ys YG;split at h;rename_i he;split at h;rename_i hc;cases hi:idx (he▸ys:List _) i with|none=>rw[hi]at h;cases h|some y=>rw[hi]at h;simp only[aa]at h;cases h;refine fB.put rfl λst2 ha=>?_;simp only[dG,ho,qO,hT,hr st2 ha,hp,ha.ep,uz,bj,cy,aI hl,EU,Hx _ _ _ rfl st2 ha,YG,dif_pos he,aJ hc,hi,aa]
 cases h;cases h;cases h;cases h;cases h
theorem Px (ho:o.op=.nilCheck x)(h:dG E Γ an o st some=some cc):fB E Γ an X o st cc:=by have hr:∀st2,ji an X o st st2->st2.rd x=st.rd x:=λst2 ha=>ha.rd (λt ht=>by simpa[eF,ho]using ht);simp only[dG,ho]at h;split at h;rename_i s off hx;cases h;refine fB.put rfl λst2 ha=>?_;simp only[dG,ho,hr st2 ha,hx];rename_i fl e y i off hx;cases h;refine fB.put rfl λst2 ha=>?_;simp only[dG,ho,hr st2 ha,hx];cases h
theorem Qz {op:BinOp}{x y:AV}(h:(Hi op x y λc=>some (st.put o.dst (.one c)))=some cc):∃v,cc=st.put o.dst v/\∀st2:AS,(Hi op x y λc=>some (st2.put o.dst (.one c)))=some (st2.put o.dst v):=by have key:∀s:AS,(Hi op x y λc=>some (s.put o.dst (.one c)))=(Hi op x y some).bind λc=>some (s.put o.dst (.one c)):=λs=>(GK op x y some _).symm;rw[key st]at h;cases hb:Hi op x y some with|none=>rw[hb]at h;cases h|some c=>rw[hb]at h;cases h;exact⟨_,rfl,λst2=>by rw[key st2,hb];rfl⟩
theorem Tl {op:BinOp}{b:Bool}(h:(Fc op b λc=>some (st.put o.dst (.one c)))=some cc):∃v,cc=st.put o.dst v/\∀st2:AS,(Fc op b λc=>some (st2.put o.dst (.one c)))=some (st2.put o.dst v):=by unfold Fc at h;split at h;cases h;exact⟨_,rfl,λst2=>rfl⟩;cases h;exact⟨_,rfl,λst2=>rfl⟩;cases h
theorem aem {op:BinOp}{T':TypeId}{y:Operand}(ho:o.op=.binOp op T x y T')(h:Ct E o op T x y st some=some cc):fB E Γ an X o st cc:=by
 have hr:∀st2,ji an X o st st2->st2.rd x=st.rd x/\st2.rd y=st.rd y:=λst2 ha=>
  ⟨ha.rd (λt ht=>by simp[eF,ho,ht]),ha.rd (λt ht=>by simp[eF,ho,ht])⟩
 unfold Ct at h;split at h;rename_i a b hx hy;split at h;rename_i hT;obtain⟨v,rfl,hv⟩:=Qz h;refine fB.put rfl λst2 ha=>?_;simp only[dG,ho,Ct,(hr st2 ha).1,(hr st2 ha).2,hx,hy,aJ hT];exact hv st2;cases h;rename_i xs ys hx hy;split at h;rename_i ls hq;split at h;rename_i iW;obtain⟨v,rfl,hv⟩:=Qz h;refine fB.put rfl λst2 ha=>?_;simp only[dG,ho,Ct,(hr st2 ha).1,(hr st2 ha).2,hx,hy,hq,aJ iW];exact hv st2;cases h;cases h;rename_i fl e xs hx hy;split at h;rename_i hT;split at h;cases h;rename_i hlen;obtain⟨v,rfl,hv⟩:=Tl h;refine fB.put rfl λst2 ha=>?_;simp only[dG,ho,Ct,(hr st2 ha).1,(hr st2 ha).2,hx,hy,ha.ep,aJ hT,aI hlen];exact hv st2;cases h;rename_i hx hy;split at h;rename_i hT;obtain⟨v,rfl,hv⟩:=Tl h;refine fB.put rfl λst2 ha=>?_;simp only[dG,ho,Ct,(hr st2 ha).1,(hr st2 ha).2,hx,hy,aJ hT];exact hv st2;cases h;rename_i a b KP Fv hn3 hn4;obtain⟨v,rfl,hv⟩:=Qz h;refine fB.put rfl λst2 ha=>?_;simp only[dG,ho,Ct,(hr st2 ha).1,(hr st2 ha).2];exact hv st2
theorem ahF {op:UnOp}(ho:o.op=.unOp op T x)(h:(unC op (st.rd x) λc=>some (st.put o.dst (.one c)))=some cc):fB E Γ an X o st cc:=by have hr:∀st2,ji an X o st st2->st2.rd x=st.rd x:=λst2 ha=>ha.rd (λt ht=>by simpa[eF,ho]using ht);have key:∀s:AS,(unC op (st.rd x) λc=>some (s.put o.dst (.one c)))=(unC op (st.rd x) some).bind λc=>some (s.put o.dst (.one c)):=λs=>(Yr op (st.rd x) some _).symm;rw[key st]at h;cases hb:unC op (st.rd x) some with|none=>rw[hb]at h;cases h|some c=>rw[hb]at h;cases h;refine fB.put rfl λst2 ha=>?_;simp only[dG,ho,hr st2 ha];rw[key st2,hb];rfl
theorem Xn {S:TypeId}{f:Nat}(ho:o.op=.fieldAddr S p f)(h:BP E o S p f st some=some cc):fB E Γ an X o st cc:=by have hr:∀st2,ji an X o st st2->st2.rd p=st.rd p:=λst2 ha=>ha.rd (λt ht=>by simpa[eF,ho]using ht);unfold BP at h;split at h;rename_i hT hp;split at h;rename_i hf;cases h;refine fB.put rfl λst2 ha=>?_;simp only[dG,ho,BP,hr st2 ha,hT,hp,hf];cases h;rename_i hT hp;split at h;rename_i hf;cases h;refine fB.put rfl λst2 ha=>?_;simp only[dG,ho,BP,hr st2 ha,hT,hp,hf];cases h;cases h
theorem BB {s:AS}(h:v.now s.ep=true):v.fresh s=v:=by
 cases v with
 |xN vs=>rfl
 |val g cs=>
  simp only[AV.now,aL]at h;simp only[AV.fresh];congr 1;have:cs.map s.fresh=cs.map id:=List.map_congr_left λc hc=>by have hn:=h c hc;unfold AS.fresh;split;simp only[AC.now]at hn;rw[hn];rfl;rfl
  rw[this,List.map_id]
theorem We {st st2:AS}(he:st2.ep=st.ep)(h:v.now st.ep=true\/∃g ep b j t e xs,v=.val g [.sl (.loc ep (some (.box b j,t))) e xs]/\nth st2.boxes b=nth st.boxes b):v.fresh st2=v.fresh st:=by rcases h with h|⟨g,ep,b,j,t,e,xs,rfl,hb⟩;rw[BB h,BB (by rw[he];exact h)];simp only[AV.fresh,cS,List.map_nil];congr 2;unfold AS.fresh;simp only[AS.gh,he,hb]
theorem Nb {i:Operand}(ho:o.op=.indexAddr T x i)(iC:dV E an X o st=true)(h:oa E o T x i st some=some cc):fB E Γ an X o st cc:=by
 have hr:∀st2,ji an X o st st2->st2.rd x=st.rd x/\st2.rd i=st.rd i:=λst2 ha=>
  ⟨ha.rd (λt ht=>by simp[eF,ho,ht]),ha.rd (λt ht=>by simp[eF,ho,ht])⟩
 have DH:∀st2,ji an X o st st2->(st.rd x).fresh st2=(st.rd x).fresh st:=λst2 ha=>by refine We ha.ep ?_;simp only[dV,ho,cJ]at iC;rcases iC with hn|hn;exact .inl hn;split at hn;rename_i g ep b j t e xs hx;exact .inr ⟨g,ep,b,j,t,e,xs,hx,ha.box b (by simpa using hn)⟩;cases hn
 unfold oa at h;split at h;rename_i e' fl e xs k n hT hx hi;split at h;rename_i hc;cases FX:idx xs n with|none=>rw[FX]at h;cases h|some y=>rw[FX]at h;cases h;refine fB.put rfl λst2 ha=>?_;have hf3:=DH st2 ha;rw[hx]at hf3;simp only[dG,ho,oa,(hr st2 ha).1,(hr st2 ha).2,hf3,hT,hi,ha.ep,aJ hc,FX,aa]
 cases h;cases h
theorem Xo {i:Operand}(ho:o.op=.index T x i)(h:Dc E o T x i st some=some cc):fB E Γ an X o st cc:=by
 have hr:∀st2,ji an X o st st2->st2.rd x=st.rd x/\st2.rd i=st.rd i:=λst2 ha=>
  ⟨ha.rd (λt ht=>by simp[eF,ho,ht]),ha.rd (λt ht=>by simp[eF,ho,ht])⟩
 unfold Dc at h;split at h;rename_i s k n hx hi;split at h;rename_i hc;cases FX:idx s n with|none=>rw[FX]at h;cases h|some y=>rw[FX]at h;cases h;refine fB.put rfl λst2 ha=>?_;simp only[dG,ho,Dc,(hr st2 ha).1,(hr st2 ha).2,hx,hi,aJ hc,FX,aa]
 cases h;cases h
theorem fB.new (h:cc=(st.gO o.dst).put o.dst v)(h2:∀st2,ji an X o st st2->dG E Γ an o st2 some=some ((st2.gO o.dst).put o.dst v)):fB E Γ an X o st cc:=⟨Iy o v,RA v,by rw[Km];exact h,λst2 ha=>by rw[Km];exact h2 st2 ha⟩
theorem ji.jz (ha:ji an X o st st2):st2.jz o.dst=st.jz o.dst:=by funext j;cases hd:o.dst with|none=>rfl|some d=>simp only[AS.jz,(ha.dst d hd).1]
theorem JM {lo hi:aC Operand}{n:Nat}{f:AS->Int->Int->aC AS}(hs:∀st2,ji an X o st st2->lo.map st2.rd=lo.map st.rd/\hi.map st2.rd=hi.map st.rd)(h:oA st lo hi n (f st)=some cc):∃a b,f st a b=some cc/\∀st2,ji an X o st st2->oA st2 lo hi n (f st2)=f st2 a b:=by unfold oA at h;split at h;rename_i h1 h2;exact⟨_,_,h,λst2 ha=>by simp only[oA,(hs st2 ha).1,(hs st2 ha).2,h1,h2]⟩;rename_i h1 h2;exact⟨_,_,h,λst2 ha=>by simp only[oA,(hs st2 ha).1,(hs st2 ha).2,h1,h2]⟩;rename_i h1 h2;exact⟨_,_,h,λst2 ha=>by simp only[oA,(hs st2 ha).1,(hs st2 ha).2,h1,h2]⟩;rename_i h1 h2;exact⟨_,_,h,λst2 ha=>by simp only[oA,(hs st2 ha).1,(hs st2 ha).2,h1,h2]⟩;cases h
theorem Xp {lo hi:aC Operand}(ho:o.op=.slice T x lo hi none)(hm:px an o=true)(iC:dV E an X o st=true)(h:Cf E an o T x lo hi st some=some cc):fB E Γ an X o st cc:=by
 have hr:∀st2,ji an X o st st2->st2.rd x=st.rd x:=λst2 ha=>ha.rd (λt ht=>by simp[eF,ho,ht]);have hb:∀st2,ji an X o st st2->lo.map st2.rd=lo.map st.rd/\hi.map st2.rd=hi.map st.rd:=by
  intro st2 ha;constructor;cases lo with|none=>rfl|some y=>simp only[dL];rw[ha.rd (λt ht=>by simp[eF,ho,tmO,ht])]
  cases hi with|none=>rfl|some y=>simp only[dL];rw[ha.rd (λt ht=>by simp[eF,ho,tmO,ht])]
 have F0:(st.rd x).now st.ep=true:=by simpa[dV,ho]using iC
 have DH:∀st2,ji an X o st st2->(st.rd x).fresh st2=st.rd x:=λst2 ha=>BB (by rw[ha.ep];exact F0);have uz:GB an o=false:=by simpa[px,ho]using hm
 unfold Cf at h;rw[aI (by simp[uz]),BB F0]at h;split at h;rename_i s hx;split at h;rename_i hT;obtain⟨a,b,h1,h2⟩:=JM (f:=λs0 a b=>aa (sub s a b) λs'=>some (s0.put o.dst (.one (.str s')))) hb h;cases rE:sub s a b with|none=>rw[rE]at h1;cases h1|some s'=>rw[rE]at h1;cases h1;refine fB.put rfl λst2 ha=>?_;have hf3:=DH st2 ha;rw[hx]at hf3;simp only[dG,ho,Cf,uz,bj,cy,hr st2 ha,hx,hf3,aJ hT];rw[h2 st2 ha,rE];rfl
 cases h;rename_i fl e xs hx;split at h;rename_i hT;obtain⟨a,b,h1,h2⟩:=JM (f:=λs0 a b=>aa (sub xs a b) λQM=>some (s0.put o.dst (.one (.sl (PJ an o fl a) e QM)))) hb h;cases rE:sub xs a b with|none=>rw[rE]at h1;cases h1|some s'=>rw[rE]at h1;cases h1;refine fB.put rfl λst2 ha=>?_;have hf3:=DH st2 ha;rw[hx]at hf3;simp only[dG,ho,Cf,uz,bj,cy,hr st2 ha,hx,hf3,ha.ep,aJ hT];rw[h2 st2 ha,rE];rfl
 cases h;cases h
theorem HU {args:az Operand}(hl:∀t,t∈Rx args->t∈eF o)(ha:ji an X o st st2):args.map st2.rd=args.map st.rd:=by apply List.map_congr_left;intro x hx;exact ha.rd (λt ht=>hl t (by simp only[Rx,List.mem_flatMap];exact⟨x,hx,ht⟩))
theorem aeo (ho:o.op=.call {callee:=.builtin .len,args,argTypes:=ts})(h:Pq E o ts.toList args.toList st some=some cc):fB E Γ an X o st cc:=by have hr:∀st2,ji an X o st st2->args.toList.map st2.rd=args.toList.map st.rd:=λst2 ha=>HU (λt ht=>by simp only[eF,ho];exact ht) ha;unfold Pq at h;split at h;rename_i t s uW hx;split at h;rename_i hT;cases h;refine fB.put rfl λst2 ha=>?_;simp only[dG,ho,Pq,hr st2 ha,uW,hx,aJ hT];cases h;rename_i t _ _ xs uW hx;split at h;rename_i hT;cases h;refine fB.put rfl λst2 ha=>?_;simp only[dG,ho,Pq,hr st2 ha,uW,hx,aJ hT];cases h;cases h
theorem aeq (ho:o.op=.call {callee:=.builtin .min,args,argTypes:=ts})(h:Re o args.toList st some=some cc):fB E Γ an X o st cc:=by have hr:∀st2,ji an X o st st2->args.toList.map st2.rd=args.toList.map st.rd:=λst2 ha=>HU (λt ht=>by simp only[eF,ho];exact ht) ha;unfold Re at h;split at h;rename_i hx;cases h;refine fB.put rfl λst2 ha=>?_;simp only[dG,ho,Re,hr st2 ha,hx];cases h
theorem aep (ho:o.op=.call {callee:=.builtin .max,args,argTypes:=ts})(h:Rd o args.toList st some=some cc):fB E Γ an X o st cc:=by have hr:∀st2,ji an X o st st2->args.toList.map st2.rd=args.toList.map st.rd:=λst2 ha=>HU (λt ht=>by simp only[eF,ho];exact ht) ha;unfold Rd at h;split at h;rename_i hx;cases h;refine fB.put rfl λst2 ha=>?_;simp only[dG,ho,Rd,hr st2 ha,hx];cases h
theorem ad8 {l:gk}{c:AC}(h:c.aid l=true)(hl:∀t∈l,st2.get t=st.get t):st2.Rc c=st.Rc c:=by
 cases c with
 |sl fl e xs=>
  cases fl with
  |loc ep pv=>cases pv with|none=>rfl|some q=>obtain⟨r,t⟩:=q;cases r with|slot b j=>have hb:st2.get b=st.get b:=hl b (by simpa[AC.aid]using h);simp only[AS.Rc,AS.gh,hb]|box _ _=>rfl|io _=>rfl
  |_=>rfl
 |_=>rfl
theorem aaC {l:gk}(hx:J0 l st x=true)(hl:∀t∈l,st2.get t=st.get t)(h:∀t∈tm x,st2.get t=st.get t):CI st2 x=CI st x/\DQ st2 x=DQ st x:=by
 cases x with
 |tmp t=>have ht:=h t (by simp[tm]);simp only[J0]at hx;cases hg:st.get t with|xN vs=>exact⟨by simp only[CI,ht,hg],by simp only[DQ,ht,hg]⟩|val g cs=>rw[hg]at hx;have hm:cs.map st2.Rc=cs.map st.Rc:=List.map_congr_left λc hc=>ad8 (aL.1 hx c hc) hl;exact⟨by simp only[CI,ht,hg,hm],by simp only[DQ,ht,hg,hm]⟩
 |const v=>exact⟨rfl,rfl⟩
 |func f=>exact⟨rfl,rfl⟩
 |global g=>exact⟨rfl,rfl⟩
theorem Rf (ho:o.op=.call {callee:=.value f,args,argTypes:=ts})(iC:dV E an X o st=true){k:Nat}(hf:st.rd f=.val false [.fn k])(lB:(Γ k).bx=true)(hcur:(Γ k).cur=true)(h:wy Γ o k args.toList st some=some cc):fB E Γ an X o st cc:=by
 unfold wy at h;split at h;rename_i x0 xs il;split at h;rename_i s hx0;have kB:uV an X (erS an o) st (x0::xs)=true:=by have h1:=iC;simp only[dV,ho,ae]at h1;rw[<-il];exact h1.1
 have hx1:∃q,x0=.tmp q/\X.contains s=false/\an.sb q=some s/\(match (nth st.boxes s).getD none with|some cs=>cs.all AC.IL|none=>true)=true/\xs.all (J0 (erS an o) st)=true:=by cases x0 with|tmp q=>simp only[uV,hx0,afU,ae,aN,bn]at kB;exact⟨q,rfl,kB.1.1.1,kB.1.1.2,kB.1.2,kB.2⟩|const v=>simp only[uV,hx0,AV.acv]at kB;cases kB|func v=>simp only[uV,hx0,AV.acv]at kB;cases kB|global v=>simp only[uV,hx0,AV.acv]at kB;cases kB
 obtain⟨q,rfl,hX,hsb,Cn,CF⟩:=hx1;split at h;rename_i cs Wo;rw[Wo]at Cn;simp only at Cn;cases hc:(cs.all (AC.Aw (E7 cs))&&xs.all (DQ st))with
 |false=>rw[hc]at h;cases h
 |true=>
  rw[hc]at h;simp only[ah]at h;cases ja:(Γ k).fn (.val true (cs.map AC.Ve)::xs.map (CI st))with
  |none=>rw[ja]at h;cases h
  |some y=>
   rw[ja]at h;simp only[aa]at h;cases YD:(((Γ k).back y).all (AC.Aw true)&&((Γ k).av y).aet)with
   |false=>rw[YD]at h;cases h
   |true=>
    rw[YD]at h;simp only[ah,hcur,Cn,cK,bw]at h;subst h;refine⟨⟨o.dst.toList.map λd=>(d,((Γ k).av y).E8 st.ep (st.jz o.dst)),some (s,rk (E7 cs) (λ_=>none) 0 ((Γ k).back y)),o.dst⟩,⟨λx hx=>?_,λb hb=>?_,λd hd=>hd⟩,?_,λst2 ha=>?_⟩;simp only[dx]at hx;obtain⟨d,hd,rfl⟩:=hx;simp[writes,hd];cases hb;simp[GF,ho,il,hsb];unfold Ks.apply AS.put AS.gO AS.fU;cases o.dst<;>rfl;have e1:st2.rd f=st.rd f:=ha.rd (λt ht=>by simp[eF,ho,ht]);have hl:∀x∈Operand.tmp q::xs,∀t∈tm x,t∈eF o:=by intro x hx t ht;simp only[eF,ho,ay,Rx,List.mem_flatMap,il];exact .inr ⟨x,hx,ht⟩
    have e2:st2.rd (.tmp q)=st.rd (.tmp q):=ha.rd (hl _ (by simp));have e3:nth st2.boxes s=nth st.boxes s:=ha.box s hX;have e4:∀x∈xs,CI st2 x=CI st x/\DQ st2 x=DQ st x:=λx hx=>aaC (aL.1 CF x hx) ha.er λt ht=>ha.get t (hl x (by simp[hx]) t ht);have e5:xs.map (CI st2)=xs.map (CI st):=List.map_congr_left λx hx=>(e4 x hx).1;have e6:xs.all (DQ st2)=xs.all (DQ st):=by rw[dU];simp only[aL];exact⟨λg x hx=>by rw[<-(e4 x hx).2];exact g x hx,λg x hx=>by rw[(e4 x hx).2];exact g x hx⟩
    simp only[dG,ho,Fa,e1,hf,lB,ah,wy,il,e2,hx0,e3,Wo,e5,e6,hc,ja,aa,YD,hcur,Cn,cK,ha.ep,ha.jz];unfold Ks.apply AS.put AS.gO AS.fU;cases o.dst<;>rfl
 cases h;cases h;cases h
theorem aaN (Cm:∀f,(Γ f).io=false/\((Γ f).bx=true->(Γ f).cur=true)/\(Γ f).pr=false)(ho:o.op=.call {callee:=.value f,args,argTypes:=ts})(iC:dV E an X o st=true)(h:Fa Γ o f args.toList st some=some cc):fB E Γ an X o st cc:=by
 have hr:∀st2,ji an X o st st2->st2.rd f=st.rd f/\(args.toList.map λx=>((st2.rd x).fresh st2).asArg st2.ep)=args.toList.map λx=>((st.rd x).fresh st).asArg st.ep:=by
  intro st2 ha;refine⟨ha.rd (λt ht=>by simp[eF,ho,ht]),?_⟩;apply List.map_congr_left;intro x hx;have F0:(st.rd x).now st.ep=true:=by simp only[dV,ho,ae,aL]at iC;exact iC.2 x hx
  rw[ha.rd (λt ht=>by simp only[eF,ho,ay,Rx,List.mem_flatMap];exact .inr ⟨x,hx,ht⟩),BB F0,BB (s:=st2) (by rw[ha.ep];exact F0),ha.ep]
 unfold Fa at h;split at h
 ·rename_i k hf
  cases lB:(Γ k).bx with
  |true=>rw[lB]at h;exact Rf ho iC hf lB ((Cm k).2.1 lB) h
  |false=>
  rw[lB,(Cm k).2.2,(Cm k).1]at h
  simp only[af]at h
  cases hg:(Γ k).fn (args.toList.map λx=>((st.rd x).fresh st).asArg st.ep)with
  |none=>rw[hg]at h;cases h
  |some y=>
   rw[hg]at h
   simp only[aa]at h
   cases Q5:(Γ k).sel y with
   |true=>
    rw[Q5]at h
    cases h
    refine fB.new rfl λst2 ha=>?_
    simp only[dG,ho,Fa,(hr st2 ha).1,hf,(Cm k).1,lB,(Cm k).2.2,af]
    rw[(hr st2 ha).2,hg]
    simp only[aa,Q5,ah,ha.ep,ha.jz]
   |false=>
    rw[Q5]at h
    cases h
    refine fB.new rfl λst2 ha=>?_
    simp only[dG,ho,Fa,(hr st2 ha).1,hf,(Cm k).1,lB,(Cm k).2.2,af]
    rw[(hr st2 ha).2,hg]
    simp only[aa,Q5,af,ha.ep,ha.jz]
 cases h
theorem Rh {src dst:TypeId}(ho:o.op=.convert src dst x)(h:nw E o src dst x st some=some cc):fB E Γ an X o st cc:=by
 have hr:∀st2,ji an X o st st2->st2.rd x=st.rd x:=λst2 ha=>ha.rd (λt ht=>by simpa[eF,ho]using ht);unfold nw at h;split at h;rename_i h1 h2 h3;cases h;refine fB.put rfl λst2 ha=>?_;simp only[dG,ho,nw,hr st2 ha,h1,h2,h3];rename_i h1 h2 h3;cases h;refine fB.put rfl λst2 ha=>?_;simp only[dG,ho,nw,hr st2 ha,h1,h2,h3];rename_i lD val s IG h1 h2 h3;split at h;rename_i hb;unfold room at h;split at h;rename_i hrm;cases h;refine fB.new (v:=.one (.sl (.own (st.jz o.dst 0)) (.int .u8) (dQ s))) rfl λst2 ha=>?_;have H9:∀k:AS->aC AS,nw E o src dst x st2 k=if E.bytes dst then room s.length (k (st2.rF o.dst (.int .u8) (dQ s))) else none:=by intro k;unfold nw;rw[hr st2 ha,h1,h2,h3];obtain⟨ag,ct,of⟩:=val;cases ag with|true=>rfl|false=>cases ct with|str=>exact(IG _ rfl).elim|_=>rfl
 simp only[dG,ho];rw[H9,aJ hb,room,aJ hrm,AS.rF,ha.jz];cases h;cases h;rename_i val lD fl xs h1 h2 h3;split at h;rename_i hb;cases h;refine fB.put rfl λst2 ha=>?_;have H9:∀k:AS->aC AS,nw E o src dst x st2 k=if E.bytes src/\fl.live st2.ep then k (st2.put o.dst (.one (.str (aR xs)))) else none:=by intro k;unfold nw;rw[hr st2 ha,h1,h2,h3];obtain⟨ag,ct,of⟩:=val;cases ag with|true=>rfl|false=>cases ct<;>rfl
 simp only[dG,ho];rw[H9,ha.ep,aJ hb];cases h;cases h
theorem LM {d:Nat}:(⟨[(d,v)],some (d,cs),none⟩:Ks).apply st=(st.fU d (some cs)).put (some d) v:=rfl
theorem Xl (ho:o.op=.alloc T)(h:Ef E o T st some=some cc):fB E Γ an X o st cc:=by unfold Ef at h;split at h;rename_i d sh hd hT;split at h;rename_i hb;cases h;refine⟨⟨[(d,.one (.ptr d 0))],some (d,cellsOf sh.ct (.own none) sh.ct.zero),none⟩,⟨λx hx=>?_,λb iB=>?_,λ_ hh=>by cases hh⟩,?_,λst2 ha=>?_⟩;simp only[bA]at hx;subst hx;simp[writes,hd];cases iB;simp[GF,ho,hd];rw[LM,hd];simp only[dG,ho,Ef,hd,hT,(ha.dst d hd).2,hb,LM];cases h;cases h
def qa (st:AS):Operand->az (Nat×AV)
 | .tmp t=>[(t,(st.get t).bg st.ep)]
 |_=>[]
theorem Df (l:az AV)(a b:az (Nat×AV)):lE l (a++b)=lE (lE l a) b:=by induction a generalizing l with|nil=>rfl|cons x a ih=>exact ih _
def AS.lO (st:AS)(l:az (Nat×AV)):AS:={st with slots:=lE st.slots l}
theorem sT (a b:az (Nat×AV)):st.lO (a++b)=(st.lO a).lO b:=by simp only[AS.lO,Df]
theorem D8 (x:Operand):(st.take x).2=st.lO (qa st x):=by cases x<;>rfl
theorem E0 (Ae:st2.ep=st.ep)(h:∀t∈tm x,st2.get t=st.get t):(st2.take x).1=(st.take x).1/\(st2.take x).2=st2.lO (qa st x):=by cases x with|tmp t=>have:=h t (by simp[tm]);refine⟨this,?_⟩;rw[D8];simp only[qa,this,Ae]|const v=>exact⟨rfl,rfl⟩|func f=>exact⟨rfl,rfl⟩|global g=>exact⟨rfl,rfl⟩
theorem Kl:∀y∈qa st x,y.1∈tm x:=by cases x<;>simp[qa,tm]
theorem aaP (ho:o.op=.move x)(h:DT an o x st some=some cc):fB E Γ an X o st cc:=by
 unfold DT at h;cases hd:o.dst with
 |none=>rw[hd]at h;cases h
 |some d=>
  rw[hd]at h;cases hf:an.mv.contains d with
  |false=>simp only[hf,bj,cy]at h;cases h;refine fB.put (v:=st.rd x) (by rw[hd]) λst2 ha=>?_;have hr:st2.rd x=st.rd x:=ha.rd (λt ht=>by simpa[eF,ho]using ht);simp only[dG,ho,DT,hd,hf,bj,cy,hr]
  |true=>
   simp only[hf,cr]at h;cases h;have hr:∀st2,ji an X o st st2->(st2.take x).1=(st.take x).1/\(st2.take x).2=st2.lO (qa st x):=λst2 ha=>E0 ha.ep λt ht=>ha.get t (by simpa[eF,ho]using ht);refine⟨⟨qa st x++[(d,(st.take x).1)],none,none⟩,⟨λy hy=>?_,λ_ hh=>(by cases hh),λ_ hh=>(by cases hh)⟩,?_,λst2 ha=>?_⟩;rcases ay.1 hy with hy|hy;have:=Kl y hy;have hf':d∈an.mv:=by simpa using hf
   simp[writes,Gz,ho,hd,hf',eF,this];simp only[bA]at hy;subst hy;simp[writes,hd];rw[D8];show _=st.lO _;rw[sT];rfl;simp only[dG,ho,DT,hd,hf,cr,(hr st2 ha).1,(hr st2 ha).2];show some ((st2.lO (qa st x)).put (some d) (st.take x).1)=some (st2.lO _);rw[sT];rfl
theorem V1 {ep:Nat}(h:cs.all AC.kP=true):bg ep cs=cs:=by
 rw[aL]at h;unfold bg;have:cs.map (AC.borrow ep none)=cs.map id:=List.map_congr_left λc hc=>by have:=h c hc;cases c<;>first|rfl|(simp[AC.kP]at this)
 rw[this,List.map_id]
theorem aj6 {s:AS}{vs:az (Bool×az AC)}(h:s.get t=.xN vs):s.put (some t) (.xN vs)=s:=by cases s with|mk slots boxes ep iss io=>simp only[AS.put,AS.mk.injEq,jV];rw[gL];apply de;intro i;rw[bL];split;rename_i hd;subst hd;simp only[AS.get,eT]at h;split;rename_i iz;rw[aq iz]at h⊢;simp only[gR]at h;rw[h];rename_i BC;rw[bS (Nat.le_of_not_lt BC)];rfl
theorem Ri {i:Nat}(ho:o.op=.extract (.tmp t) i)(iC:dV E an X o st=true)(h:nA o t i st some=some cc):fB E Γ an X o st cc:=by
 have hr:∀st2,ji an X o st st2->st2.get t=st.get t:=λst2 ha=>ha.get t (by simp[eF,ho]);unfold nA at h;simp only[dV,ho]at iC;split at h
 ·rename_i vs hv;rw[hv]at iC;split at h
  ·rename_i g cs hn;simp only[hn]at iC;have hfl:cs.all AC.kP=true\/∃d,o.dst=some d/\an.mv.contains d=true:=by cases hd:o.dst with|none=>simp only[hd,Bool.or_false]at iC;exact .inl iC|some d=>simp only[hd,cJ]at iC;rcases iC with h|h;exact .inl h;exact .inr ⟨d,rfl,h⟩
   rcases hfl with iC|⟨d,hd,Fj⟩;rotate_left;cases h;refine⟨⟨[(t,.xN (jt vs i (g,bg 0 cs))),(d,.val g cs)],none,none⟩,⟨λx hx=>?_,(λ_ hb=>by cases hb),(λ_ hh=>by cases hh)⟩,?_,λst2 ha=>?_⟩;simp only[cD,List.not_mem_nil,or_false]at hx;rcases hx with rfl|rfl;simp only[writes,Gz,ho,hd,Fj,ah,eF];simp;simp only[writes,hd];simp;rw[hd];rfl;have h2:st2.get t=.xN vs:=by rw[hr st2 ha,hv]
   simp only[dG,ho,nA,h2,hn,hd];rfl;skip;have F1:jt vs i (g,cs)=vs:=by rw[gL];rw[eT]at hn;apply de;intro k;rw[bL];split;rename_i hk;subst hk;obtain⟨hl,he⟩:=aB.1 hn;rw[aJ hl,hn];rfl
   have key:∀s:AS,s.get t=.xN vs->(s.put (some t) (.xN (jt vs i (g,bg 0 cs))))=s:=λs hs=>by rw[V1 iC,F1,aj6 hs]
   rw[key st hv]at h;cases h;refine fB.put rfl λst2 ha=>?_;have h2:st2.get t=.xN vs:=by rw[hr st2 ha,hv]
   simp only[dG,ho,nA,h2,hn];rw[key st2 h2]
  cases h
 cases h
def Bt (st:AS):Operand->az (Nat×AV)
 | .tmp t=>[(t,(st.get t).bg st.ep)]
 |_=>[]
theorem Qv (st:AS)(x:Operand):(st.take x).2=⟨lE st.slots (Bt st x),st.boxes,st.ep,st.iss,st.io⟩:=by cases x<;>rfl
theorem Xq {pp:Nat}(ho:o.op=.store T (.tmp pp) x)(hd:o.dst=none)(hm:px an o=true)(iC:dV E an X o st=true)(h:yt E T (.tmp pp) x st some=some cc):fB E Γ an X o st cc:=by
 have hr:∀st2,ji an X o st st2->st2.rd (.tmp pp)=st.rd (.tmp pp):=λst2 ha=>ha.rd (λt ht=>by simp only[eF,ho,ay];exact .inl ht);have hsb:(an.sb pp).isNone=false:=by simp only[px,ho,ae]at hm;cases hb:an.sb pp with|none=>rw[hb]at hm;cases hm.1|some _=>rfl
 simp only[dV,ho,hsb,eY,cj]at iC;unfold yt at h;split at h;rename_i sh s off hT hp;rw[hp]at iC;simp only[ae,aN,bn]at iC;split at h;rename_i gg vs st1 uz;have Up:(st.take x).1=.val gg vs:=by rw[uz]
 have F2:st1=⟨lE st.slots (Bt st x),st.boxes,st.ep,st.iss,st.io⟩:=by rw[<-Qv,uz]
 split at h;rename_i cs hb;split at h;rename_i hlen;split at h;rename_i iW;cases h;have lB:∀st2,ji an X o st st2->nth st2.boxes s=nth st.boxes s:=λst2 ha=>ha.box s iC.1;refine⟨⟨Bt st x,some (s,fD cs off vs),none⟩,⟨λy hy=>?_,λb iB=>?_,λ_ hh=>by cases hh⟩,?_,λst2 ha=>?_⟩;cases x with|tmp t=>simp only[Bt,bA]at hy;subst hy;simp only[writes,Gz,ho,ah,eF,hd];simp[tm]|_=>simp[Bt]at hy
 cases iB;simp only[GF,ho,iC.2];simp;rw[F2];rfl;have hx2:(st2.take x).1=(st.take x).1/\Bt st2 x=Bt st x:=by cases x with|tmp t=>have hg:st2.get t=st.get t:=ha.get t (by simp[eF,ho,tm]);simp only[AS.take,Bt,hg,ha.ep];simp|const v=>exact⟨rfl,rfl⟩|func f=>exact⟨rfl,rfl⟩|global g=>exact⟨rfl,rfl⟩
 have ht2:st2.take x=(.val gg vs,⟨lE st2.slots (Bt st x),st2.boxes,st2.ep,st2.iss,st2.io⟩):=by rw[<-hx2.2,<-Qv,<-Up,<-hx2.1]
 have Nu:(nth st2.boxes s).getD none=some cs:=by rw[lB st2 ha];rw[F2]at hb;exact hb
 have Fi:B6 an o=false:=by simp only[px,ho,ae,aN]at hm;exact hm.2
 simp only[dG,ho,hd,Fi,bj,cy,yt,hT,hr st2 ha,hp,ht2,Nu,aJ hlen,aJ iW];rfl;cases h;cases h;cases h;cases h;rename_i r _ _ _ _ _ _ hp;rw[hp]at iC;cases r<;>simp at iC;cases h
theorem UF (ho:o.op=.assign x)(hm:px an o=true)(h:wx E an o x st some=some cc):fB E Γ an X o st cc:=by
 have hr:∀st2,ji an X o st st2->(st2.take x).1=(st.take x).1/\(st2.take x).2=st2.lO (qa st x):=λst2 ha=>E0 ha.ep λt ht=>ha.get t (by simpa[eF,ho]using ht);have Fi:B6 an o=false:=by simpa[px,ho]using hm
 unfold wx at h;split at h;rename_i st1 uz;split at h;rename_i e hT;cases h;refine fB.put rfl λst2 ha=>?_;have h2:st2.take x=(.val false [.lj],st2.lO (qa st x)):=Prod.ext (by rw[(hr st2 ha).1,uz]) (hr st2 ha).2;simp only[dG,ho,wx,Fi,bj,cy,h2,hT];cases h;rename_i v st1 IG uz;cases h;have F2:st1=st.lO (qa st x):=by rw[<-D8,uz]
 refine⟨⟨qa st x++o.dst.toList.map λd=>(d,v),none,none⟩,⟨λy hy=>?_,λ_ hh=>(by cases hh),λ_ hh=>(by cases hh)⟩,?_,λst2 ha=>?_⟩;rcases ay.1 hy with hy|hy;have:=Kl y hy;simp[writes,Gz,ho,eF,this];obtain⟨d,hd,rfl⟩:=dx.1 hy;simp[writes,hd];rw[F2];show _=st.lO _;rw[sT];cases o.dst<;>rfl;have h2:st2.take x=(v,st2.lO (qa st x)):=Prod.ext (by rw[(hr st2 ha).1,uz]) (hr st2 ha).2;simp only[dG,ho,wx,Fi,bj,cy,h2];show some ((st2.lO (qa st x)).put o.dst v)=some (st2.lO _);rw[sT];cases o.dst<;>rfl
theorem kS {α:Type}(l:az α)(i:Nat)(v:α)(t:Nat):nth (jt l i v) t=if i=t then(if i<l.length then some v else none) else nth l t:=by rw[eT,gL,eT,bL]
theorem PX (l:az AV)(a:az (Nat×AV)):(lE l a).length=l.length:=by induction a generalizing l with|nil=>rfl|cons x a ih=>rw[lE,ih,gL,aD]
theorem aa4 {l l2:az AV}(a:az (Nat×AV))(hl:l2.length=l.length)(t:Nat)(h:nth l2 t=nth l t):nth (lE l2 a) t=nth (lE l a) t:=by induction a generalizing l l2 with|nil=>exact h|cons x a ih=>refine ih (by rw[gL,gL,aD,aD,hl]) ?_;rw[kS,kS,hl,h]
theorem aaT (h:st2.get t=st.get t)(hl:st2.slots.length=st.slots.length):nth st2.slots t=nth st.slots t:=by unfold AS.get at h;rw[eT,eT]at h⊢;rcases ca t st.slots.length with iz|BC;rw[aq iz,aq (by omega)]at h⊢;simpa using h;rw[bS BC,bS (by omega)]
def lq (st:AS):az Operand->az (Nat×AV)
 |[]=>[]
 |x::xs=>qa st x++lq (st.lO (qa st x)) xs
theorem Ck:∀(xs:az Operand)(st:AS),∀y∈lq st xs,y.1∈Rx xs
 |[],_,y,hy=>by cases hy
 |x::xs,st,y,hy=>by simp only[Rx,List.flatMap_cons,ay];rcases ay.1 hy with hy|hy;exact .inl (Kl y hy);exact .inr (Ck xs _ y hy)
theorem Dj:∀(xs:az Operand)(st st2:AS),st2.ep=st.ep->st2.slots.length=st.slots.length->(∀t∈Rx xs,nth st2.slots t=nth st.slots t)->
 (gi st2 xs).1=(gi st xs).1/\(gi st2 xs).2=st2.lO (lq st xs)
 |[],st,st2,_,_,_=>⟨rfl,rfl⟩
 |x::xs,st,st2,Ae,hl,hg=>by
  have hx:∀t∈tm x,st2.get t=st.get t:=λt ht=>by unfold AS.get;rw[hg t (by simp[Rx,ht])]
  obtain⟨h1,h2⟩:=E0 (st:=st) (st2:=st2) Ae hx;have h3:=D8 (st:=st) x;obtain⟨k1,k2⟩:=Dj xs (st.lO (qa st x)) (st2.lO (qa st x)) Ae (by simp only[AS.lO,PX,hl]) (λt ht=>aa4 _ hl t (hg t (by simp only[Rx,List.flatMap_cons,ay];exact .inr ht)));have e1:gi st (x::xs)=((st.take x).1::(gi (st.take x).2 xs).1,(gi (st.take x).2 xs).2):=rfl;have e2:gi st2 (x::xs)=((st2.take x).1::(gi (st2.take x).2 xs).1,(gi (st2.take x).2 xs).2):=rfl;rw[e1,e2,h1,h2,h3];refine⟨by rw[k1],?_⟩;show(gi (st2.lO (qa st x)) xs).2=_;rw[k2,lq,sT]
theorem EY (xs:az Operand):(gi st xs).2=st.lO (lq st xs):=(Dj xs st st rfl rfl (λ_ _=>rfl)).2
theorem ji.gi (ha:ji an X o st st2){xs:az Operand}(hx:∀t∈Rx xs,t∈eF o):(gi st2 xs).1=(Dn.gi st xs).1/\(Dn.gi st2 xs).2=st2.lO (lq st xs):=Dj xs st st2 ha.ep ha.len λt ht=>aaT (ha.get t (hx t ht)) ha.len
theorem Xm (ho:o.op=.build T parts)(h:C1 E o T parts.toList st some=some cc):fB E Γ an X o st cc:=by
 have hl:∀t∈Rx (parts.toList.map (·.2)),t∈eF o:=λt ht=>by simp only[eF,ho];exact ht
 unfold C1 at h;split at h;rename_i ct lD hT;split at h;rename_i vs st1 uz;have F2:st1=st.lO (lq st (parts.toList.map (·.2))):=by rw[<-EY,uz]
 split at h;rename_i cs hb;cases h;refine⟨⟨lq st (parts.toList.map (·.2))++o.dst.toList.map λd=>(d,.val true cs),none,none⟩,⟨λy hy=>?_,λ_ hh=>(by cases hh),λ_ hh=>(by cases hh)⟩,?_,λst2 ha=>?_⟩;rcases ay.1 hy with hy|hy;have:=hl _ (Ck _ _ y hy);simp[writes,Gz,ho,this];obtain⟨d,hd,rfl⟩:=dx.1 hy;simp[writes,hd];rw[F2];show _=st.lO _;rw[sT];cases o.dst<;>rfl;obtain⟨k1,k2⟩:=ha.gi hl;have h2:gi st2 (parts.toList.map (·.2))=(vs,st2.lO (lq st (parts.toList.map (·.2)))):=Prod.ext (by rw[k1,uz]) k2;simp only[dG,ho,C1,hT,h2,hb];show some ((st2.lO _).put o.dst _)=some (st2.lO _);rw[sT];cases o.dst<;>rfl;cases h;cases h
theorem fB.amX (ht:Gz an o=true)(hl:∀y∈tl,y.1∈eF o)(h:cc=((st.lO tl).gO o.dst).put o.dst v)(h2:∀st2,ji an X o st st2->dG E Γ an o st2 some=some (((st2.lO tl).gO o.dst).put o.dst v)):fB E Γ an X o st cc:=by
 have key:∀s:AS,(⟨tl++o.dst.toList.map λd=>(d,v),none,o.dst⟩:Ks).apply s=((s.lO tl).gO o.dst).put o.dst v:=by intro s;cases o.dst with|none=>simp only[Ks.apply,Option.toList,List.map_nil,bB,AS.lO,AS.gO,AS.put]|some d=>simp only[Ks.apply,Option.toList,cS,List.map_nil,Df,AS.lO,AS.gO,AS.put,lE]
 refine⟨⟨tl++o.dst.toList.map λd=>(d,v),none,o.dst⟩,⟨λy hy=>?_,λ_ hh=>(by cases hh),λd hh=>hh⟩,by rw[key];exact h,λst2 ha=>by rw[key];exact h2 st2 ha⟩;rcases ay.1 hy with hy|hy;simp[writes,ht,hl y hy];obtain⟨d,hd,rfl⟩:=dx.1 hy;simp[writes,hd]
theorem BI {d:aC Nat}:(st.lO tl).jz d=st.jz d:=rfl
theorem K8 {len:Nat}(ho:o.op=.buildSlice T len parts)(h:nt E o T len parts.toList st some=some cc):fB E Γ an X o st cc:=by
 have hl:∀t∈Rx (parts.toList.map (·.2)),t∈eF o:=λt ht=>by simp only[eF,ho];exact ht
 unfold nt at h;split at h;rename_i e hT;split at h;rename_i hc;split at h;rename_i vs st1 uz;have F2:st1=st.lO (lq st (parts.toList.map (·.2))):=by rw[<-EY,uz]
 split at h;rename_i xs hb;cases h;refine fB.amX (tl:=lq st (parts.toList.map (·.2))) (v:=.one (.sl (.own (st.jz o.dst 0)) e xs)) (by simp[Gz,ho]) (λy hy=>hl _ (Ck _ _ y hy)) ?_ λst2 ha=>?_;rw[F2,AS.rF,BI];obtain⟨k1,k2⟩:=ha.gi hl;have h2:gi st2 (parts.toList.map (·.2))=(vs,st2.lO (lq st (parts.toList.map (·.2)))):=Prod.ext (by rw[k1,uz]) k2;simp only[dG,ho,nt,hT,h2,hb,aJ hc];rw[AS.rF,BI,ha.jz];cases h;cases h;cases h
theorem Nc {n c:Operand}(ho:o.op=.makeSlice T n c)(h:qs E o T n c st some=some cc):fB E Γ an X o st cc:=by
 have hr:∀st2,ji an X o st st2->st2.rd n=st.rd n/\st2.rd c=st.rd c:=λst2 ha=>
  ⟨ha.rd (λt ht=>by simp[eF,ho,ht]),ha.rd (λt ht=>by simp[eF,ho,ht])⟩
 unfold qs at h;split at h;rename_i e len cap hT hn hc;split at h;rename_i hlc;unfold room at h;split at h;rename_i hrm;cases h;refine fB.new (v:=.one (.sl (.own (st.jz o.dst 0)) e (List.replicate len.toNat e.zero))) rfl λst2 ha=>?_;simp only[dG,ho,qs,(hr st2 ha).1,(hr st2 ha).2,hT,hn,hc,aJ hlc,room,aJ hrm,AS.rF,ha.jz];cases h;cases h;cases h
theorem UE (ho:o.op=.call {callee:=.builtin .append,args,argTypes:=ts})(h:yA E o ts.toList args.toList st some=some cc):fB E Γ an X o st cc:=by
 have YE:∀t∈Rx args.toList,t∈eF o:=λt ht=>by simp only[eF,ho];exact ht
 unfold yA at h;split at h;rename_i t t' s x uW il;have hl:∀u∈Rx [s,x],u∈eF o:=by rw[<-il];exact YE
 have akP:∀st2,ji an X o st st2->(st2.take s).1=(st.take s).1/\((st2.take s).2.take x).1=((st.take s).2.take x).1/\((st2.take s).2.take x).2=st2.lO (lq st [s,x]):=by intro st2 ha;obtain⟨k1,k2⟩:=ha.gi hl;simp only[Dn.gi,List.cons.injEq,jV]at k1 k2;exact⟨k1.1,k1.2,k2⟩
 have CF:((st.take s).2.take x).2=st.lO (lq st [s,x]):=EY (st:=st) [s,x];split at h;rename_i tag e xs st1 Up;split at h;rename_i fl e' ys amV Jh;split at h;rename_i he;subst he;split at h;rename_i hc;unfold room at h;split at h;rename_i hrm;cases h;have F2:(st.take s).2=st1:=by rw[Up]
 have Uo:amV=st.lO (lq st [s,x]):=by rw[<-CF,F2,Jh]
 refine fB.amX (tl:=lq st [s,x]) (v:=.one (.sl (.own (st.jz o.dst 0)) e' (xs++ys))) (by simp[Gz,ho]) (λy hy=>hl _ (Ck _ _ y hy)) ?_ λst2 ha=>?_;rw[Uo,AS.rF,BI];obtain⟨k1,k2,k3⟩:=akP st2 ha;have e1:st2.take s=(.val false [.sl (.own tag) e' xs],(st2.take s).2):=Prod.ext (by rw[k1,Up]) rfl;have e2:(st2.take s).2.take x=(.val false [.sl fl e' ys],st2.lO (lq st [s,x])):=Prod.ext (by rw[k2,F2,Jh]) k3;simp only[dG,ho,yA,uW,il];rw[e1];simp only;rw[e2];simp only[dite_true,ha.ep,aJ hc,room,aJ hrm,AS.rF,BI,ha.jz];cases h;cases h;cases h;rename_i sx amV Jh;split at h;rename_i he;subst he;split at h;rename_i hc;unfold room at h;split at h;rename_i hrm;cases h;have F2:(st.take s).2=st1:=by rw[Up]
 have Uo:amV=st.lO (lq st [s,x]):=by rw[<-CF,F2,Jh]
 refine fB.amX (tl:=lq st [s,x]) (v:=.one (.sl (.own (st.jz o.dst 0)) (.int .u8) (xs++dQ sx))) (by simp[Gz,ho]) (λy hy=>hl _ (Ck _ _ y hy)) ?_ λst2 ha=>?_;rw[Uo,AS.rF,BI];obtain⟨k1,k2,k3⟩:=akP st2 ha;have e1:st2.take s=(.val false [.sl (.own tag) (.int .u8) xs],(st2.take s).2):=Prod.ext (by rw[k1,Up]) rfl;have e2:(st2.take s).2.take x=(.val false [.str sx],st2.lO (lq st [s,x])):=Prod.ext (by rw[k2,F2,Jh]) k3;simp only[dG,ho,yA,uW,il];rw[e1];simp only;rw[e2];simp only[dite_true,aJ hc,room,aJ hrm,AS.rF,BI,ha.jz];cases h;cases h;cases h;cases h;cases h;cases h
theorem aen (ho:o.op=.box T x)(h:Tz o x st some=some cc):fB E Γ an X o st cc:=by
 have hr:∀st2,ji an X o st st2->(st2.take x).1=(st.take x).1/\(st2.take x).2=st2.lO (qa st x):=λst2 ha=>E0 ha.ep λt ht=>ha.get t (by simpa[eF,ho]using ht);unfold Tz at h;split at h;rename_i d g cs st1 hd uz;have F2:st1=st.lO (qa st x):=by rw[<-D8,uz]
 split at h;rename_i hb;split at h;rename_i hs;cases h;have Wo:nth st.boxes d=some none:=by rw[F2]at hb;exact hb
 have key:∀s:AS,(⟨qa st x++[(d,.one (.ptr d 0))],some (d,cs),none⟩:Ks).apply s=((s.lO (qa st x)).fU d (some cs)).put (some d) (.one (.ptr d 0)):=by intro s;simp only[Ks.apply,Df,AS.lO,AS.fU,AS.put,lE]
 refine⟨⟨qa st x++[(d,.one (.ptr d 0))],some (d,cs),none⟩,⟨λy hy=>?_,λb iB=>?_,λ_ hh=>(by cases hh)⟩,?_,λst2 ha=>?_⟩;rcases ay.1 hy with hy|hy;have:=Kl y hy;simp[writes,Gz,ho,eF,this];simp only[bA]at hy;subst hy;simp[writes,hd];cases iB;simp[GF,ho,hd];rw[key,F2,hd];have h2:st2.take x=(.val g cs,st2.lO (qa st x)):=Prod.ext (by rw[(hr st2 ha).1,uz]) (hr st2 ha).2;have Nu:nth (st2.lO (qa st x)).boxes d=some none:=by show nth st2.boxes d=_;rw[(ha.dst d hd).2];exact Wo
 simp only[dG,ho,Tz,hd,h2,Nu,aJ hs,key];cases h;cases h;cases h
theorem Qp (Cm:∀f,(Γ f).io=false/\((Γ f).bx=true->(Γ f).cur=true)/\(Γ f).pr=false)(hm:px an o=true)(iC:dV E an X o st=true)(h:dG E Γ an o st some=some cc):fB E Γ an X o st cc:=by
 have h0:=h;unfold dG at h;split at h;rename_i ho;exact aaP ho h;rename_i ho;have Fi:B6 an o=false:=by simpa[px,ho]using hm
 rw[aI (by simp[Fi])]at h;exact UF ho hm h;rename_i ho;exact aaQ ho h;rename_i ho;exact Xl ho h;rename_i ho;exact aen ho h;rename_i ho;exact aaO ho hm iC h;rename_i T p x ho;split at h;rename_i hd;cases p with
 |tmp pp=>
  have Fi:B6 an o=false:=by simp only[px,ho,ae,aN]at hm;exact hm.2
  rw[aI (by simp[Fi])]at h;exact Xq ho hd hm iC h
 |const v=>simp[px,ho]at hm
 |func f=>simp[px,ho]at hm
 |global g=>simp[px,ho]at hm
 cases h;rename_i ho;exact Px ho h0;rename_i ho;exact aem ho h;rename_i ho;exact ahF ho h;rename_i ho;exact Xn ho h;rename_i ho;exact Nb ho iC h;rename_i ho;exact Xo ho h;rename_i ho;exact Xm ho h;rename_i ho;exact K8 ho h;rename_i ho;exact Nc ho h;rename_i ho;exact Xp ho hm iC h;rename_i ho;simp[px,ho]at hm;rename_i ho;simp[px,ho]at hm;rename_i ho;exact Rh ho h;rename_i ho;exact Ri ho iC h;rename_i ho;exact aeo ho h;rename_i ho;exact aeq ho h;rename_i ho;exact aep ho h;rename_i ho;exact UE ho h;rename_i ho;exact aaN Cm ho iC h;cases h
end Go.Dn
