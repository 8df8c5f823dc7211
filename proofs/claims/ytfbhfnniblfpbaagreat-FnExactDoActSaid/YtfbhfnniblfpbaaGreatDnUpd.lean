import Derived.Test.YtfbhfnniblfpbaaGreatDnMask
/- What an operation looks at and what it turns: for regions whose order is drawn. -/
namespace Go.Dn
structure K2 where
 slots:List (Nat×AV):=[]
 box:Option (Nat×List AC):=none
 iss:Option Nat:=none
def jW (l:ar AV):ar (Nat×AV)->ar AV
 |[]=>l
 |x::r=>jW (gZ l x.1 x.2) r
def K2.apply (u:K2)(st:AS):AS:=
 ⟨jW st.slots u.slots,(match u.box with|some b=>gZ st.boxes b.1 (some b.2)|none=>st.boxes),st.ep,(match u.iss with|some d=>gZ st.iss d true|none=>st.iss),st.io⟩
structure gP (an:An) (X:List Nat) (o:Oper) (st st2:AS):Prop where
 len:st2.slots.length=st.slots.length
 get:∀t∈dv o,st2.get t=st.get t
 ep:st2.ep=st.ep
 dst:∀d,o.dst=some d->nth st2.iss d=nth st.iss d/\nth st2.boxes d=nth st.boxes d
 box:∀s,X.contains s=false->nth st2.boxes s=nth st.boxes s
 er:∀t∈erS an o,st2.get t=st.get t
structure K2.IY (an:An) (u:K2) (o:Oper):Prop where
 slots:∀x∈u.slots,x.1∈writes an o
 box:∀b,u.box=some b->b.1∈Hu an o
 iss:∀d,u.iss=some d->o.dst=some d
variable {E:Env} {Γ:xO} {an:An} {X:dV} {o:Oper} {st st2 st':AS}
variable {parts:Array (Nat×Operand)} {args:Array Operand} {ts:Array TypeId} {t:Nat} {f p x:Operand} {T:TypeId} {tl:ar (Nat×AV)} {cs:ar AC}
theorem afe (xQ:st2.ep=st.ep)(h:∀t∈tm x,st2.get t=st.get t):st2.rd x=st.rd x:=by cases x with|tmp t=>simp only[AS.rd,xQ,h t (by simp[tm])]|const v=>rfl|func f=>rfl|global g=>rfl
def dU (E:Env)(Γ:xO)(an:An)(X:dV)(o:Oper)(st st':AS):Prop:=
 ∃u:K2,u.IY an o/\st'=u.apply st/\∀st2,gP an X o st st2->db E Γ an o st2 some=some (u.apply st2)
def FR (o:Oper)(v:AV):K2:={slots:=o.dst.toList.map λd=>(d,v)}
theorem sZ (v:AV):(FR o v).apply st=st.put o.dst v:=by unfold FR K2.apply AS.put;cases o.dst<;>rfl
theorem DU (v:AV):(FR o v).IY an o:=by refine⟨λx hx=>?_,λb hb=>by simp[FR]at hb,λd hd=>by simp[FR]at hd⟩;simp only[FR,List.mem_map]at hx;obtain⟨d,hd,rfl⟩:=hx;simp[writes,hd]
def Jz (o:Oper)(v:AV):K2:={slots:=o.dst.toList.map λd=>(d,v),iss:=o.dst}
theorem KY (v:AV):(Jz o v).apply st=(st.fu o.dst).put o.dst v:=by unfold Jz K2.apply AS.put AS.fu;cases o.dst<;>rfl
theorem QT (v:AV):(Jz o v).IY an o:=by refine⟨λx hx=>?_,λb hb=>by simp[Jz]at hb,λd hd=>by simpa[Jz]using hd⟩;simp only[Jz,List.mem_map]at hx;obtain⟨d,hd,rfl⟩:=hx;simp[writes,hd]
theorem dU.put {v:AV}(h:st'=st.put o.dst v)(h2:∀st2,gP an X o st st2->db E Γ an o st2 some=some (st2.put o.dst v)):dU E Γ an X o st st':=⟨FR o v,DU v,by rw[sZ];exact h,λst2 ha=>by rw[sZ];exact h2 st2 ha⟩
theorem gP.rd (ha:gP an X o st st2)(hx:∀t∈tm x,t∈dv o):st2.rd x=st.rd x:=afe ha.ep λt ht=>ha.get t (hx t ht)
theorem YM {c y:Operand}(ho:o.op=.pick c x y)(h:Hb o c x y st some=some st'):dU E Γ an X o st st':=by
 have hr:∀st2,gP an X o st st2->st2.rd c=st.rd c/\st2.rd x=st.rd x/\st2.rd y=st.rd y:=λst2 ha=>
  ⟨ha.rd (λt ht=>by simp[dv,ho,ht]),ha.rd (λt ht=>by simp[dv,ho,ht]),ha.rd (λt ht=>by simp[dv,ho,ht])⟩
 unfold Hb at h;split at h;rename_i t hc;split at h;rename_i a b hx hy;cases h;refine dU.put rfl λst2 ha=>?_;obtain⟨h1,h2,h3⟩:=hr st2 ha;simp only[db,ho,Hb,h1,h2,h3,hc,hx,hy];rename_i va vb JE;have hgo:∀st2,gP an X o st st2->db E Γ an o st2 some=cond t (some (st2.put o.dst (st.rd x))) (some (st2.put o.dst (st.rd y))):=by intro st2 ha;obtain⟨h1,h2,h3⟩:=hr st2 ha;simp only[db,ho,Hb,h1,h2,h3,hc]
 cases t with|true=>cases h;exact dU.put rfl λst2 ha=>hgo st2 ha|false=>cases h;exact dU.put rfl λst2 ha=>hgo st2 ha
 cases h
theorem OS {d s:Nat}{v:AV}:(⟨[(d,v)],some (s,cs),none⟩:K2).apply st=(st.eD s (some cs)).put (some d) v:=rfl
theorem Sl {o:Oper}(h:Hq an o=true):∃T q d,o.op=.load T (.tmp q)/\o.dst=some d/\o.guard=none/\an.mv.contains d=true/\an.mb d=none:=by unfold Hq at h;split at h;rename_i T q d ho hd hg;simp only[ah,Option.isNone_iff_eq_none]at h;exact⟨T,q,d,ho,hd,hg,h.1.1,h.1.2⟩;cases h
def KV (st:AS)(b j t:Nat)(e:CT)(i:Int)(cs:ar AC)(ys:ar e.D):AS:=st.eD b (some (gZ cs j (.sl (.fe (some t) i (some st.ep)) e ys)))
theorem PL {q d:Nat}(ht:Hq an o=true)(ho:o.op=.load T (.tmp q))(hd:o.dst=some d)(F5:an.mv.contains d=true)(Xd:an.mb d=none):(dq E an X o st=true/\px E an o T (.tmp q) st some=some st')↔ ∃(g:Bool)(e:CT)(jV:ar (Nat×Nat))(b j t N2:Nat)(x:e.D)(i:Int)(cs:ar AC)(ys:ar e.D)(y:e.D),iT E.ty T=some ⟨g,e,jV⟩/\st.rd (.tmp q)=.val false [.C1 (.loc N2 (some (.box b j,t))) e x i 0]/\(nth st.boxes b).getD none=some cs/\nth cs j=some (.sl (.own (some t)) e ys)/\idx ys i=some y/\ X.contains b=false/\an.eb q=some b/\W8 an o=false/\st'=(KV st b j t e i cs ys).put (some d) (.val g (cellsOf e (.own none) y)):=by
 have tD:Ht an o=true:=by unfold Ht;rw[hd];simp only[F5,Xd];rfl
 have JD:DT an o=false:=by unfold DT;split;rename_i X1 _;rw[hd]at X1;cases X1;rw[Xd];simp;rfl
 have hnp:Ds an o=false:=by unfold Ds;split;rename_i X1 _;rw[hd]at X1;cases X1;rw[F5];rfl;rfl
 constructor;rintro⟨hf,h⟩;unfold px at h;split at h;rename_i hp;simp only[dq,ho,hp,hd,F5,Xd]at hf;simp at hf;rename_i sh fl e x i off hT hp;rw[aG tD]at h;simp only[dq,ho,hp,ht,JD,hnp,Bool.or_false,cf,ai,cI,ie,ah,aP]at hf;obtain⟨⟨Ih,Nn⟩,hb⟩:=hf;unfold Ae at h;split at h;rename_i N2 r t;cases r with
 |slot _ _=>cases hb
 |io _=>cases hb
 |box b j=>
  simp only[ah,bD,aP]at hb;split at h;rename_i t' e' ys Vm;split at h;rename_i he;subst he;split at h;rename_i hc;obtain⟨rfl,rfl,Mc⟩:=hc;obtain⟨g,ct,jV⟩:=sh;simp only at Mc;subst Mc;cases hi:idx ys i with|none=>simp only[hi,aa]at h;cases h|some y=>simp only[hi,aa]at h;cases h;simp only[AS.eM]at Vm;obtain⟨cs,Li,hj⟩:=aL.1 Vm;refine⟨g,_,jV,b,j,_,N2,x,i,cs,ys,y,hT,hp,Li,hj,hi,hb.2,hb.1,Nn,?_⟩;simp only[AS.eU,Li,hd];rfl
  cases h;cases h;cases h
 cases h;cases h;rintro⟨g,e,jV,b,j,t,N2,x,i,cs,ys,y,hT,hp,Li,hj,hi,hX,S1,Nn,rfl⟩;constructor;simp only[dq,ho,hp,ht,JD,hnp,Nn,hX,S1];simp;simp only[px,hT,hp,tD,bL,Ae,AS.eM,Li,eu,hj,dite_true,and_self,hi,aa,AS.eU,hd];rfl
theorem VY (ht:Hq an o=true)(ho:o.op=.load T p)(gm:dq E an X o st=true)(h:px E an o T p st some=some st'):dU E Γ an X o st st':=by obtain⟨T',q,d,MV,hd,hg,F5,Xd⟩:=Sl ht;rw[ho]at MV;cases MV;obtain⟨g,e,jV,b,j,t,N2,x,i,cs,ys,y,hT,hp,Li,hj,hi,hX,S1,Nn,rfl⟩:=(PL ht ho hd F5 Xd).1 ⟨gm,h⟩;refine⟨⟨[(d,.val g (cellsOf e (.own none) y))],some (b,gZ cs j (.sl (.fe (some t) i (some st.ep)) e ys)),none⟩,⟨λx hx=>?_,λb' gH=>?_,λ_ hh=>by cases hh⟩,rfl,λst2 ha=>?_⟩;simp only[eL]at hx;subst hx;simp[writes,hd];cases gH;simp only[Hu,ho,hd,F5,af,ht,S1];simp;have h2:=((PL (E:=E) (X:=X) (st:=st2) ht ho hd F5 Xd).2 ⟨g,e,jV,b,j,t,N2,x,i,cs,ys,y,hT,by rw[ha.rd (λt ht=>by simpa[dv,ho]using ht)];exact hp,by rw[ha.box b hX];exact Li,hj,hi,hX,S1,Nn,rfl⟩).2;simp only[db,ho];rw[h2];simp only[KV,ha.ep];rfl
theorem YK (ho:o.op=.load T p)(hm:nP an o=true)(gm:dq E an X o st=true)(h:px E an o T p st some=some st'):dU E Γ an X o st st':=by
 cases hE:Hq an o with|true=>exact VY hE ho gm h|false=> ?_
 have hr:∀st2,gP an X o st st2->st2.rd p=st.rd p:=λst2 ha=>ha.rd (λt ht=>by simpa[dv,ho]using ht);have tD:Ht an o=false:=by simp only[nP,ho,hE,Bool.or_false]at hm;unfold Ht;cases S0:o.dst with|none=>rfl|some d=>rw[S0]at hm;simp only[de,aP]at hm;rcases hm with hm|hm;simp only[hm,gL];cases Xd:an.mb d with|none=>rw[Xd]at hm;cases hm|some _=>simp[Xd]
 unfold px at h;split at h;rename_i sh s off hT hp;simp only[dq,ho,hp,ah,aP]at gm;split at h;rename_i cs hb;split at h;rename_i gF;split at h;rename_i d hd;have jA:∀st2,gP an X o st st2->nth st2.boxes s=nth st.boxes s:=λst2 ha=>ha.box s gm.1.1;cases hf:an.mv.contains d with
 |false=>simp only[hf,aY,cc]at h;cases h;refine dU.put (by rw[hd]) λst2 ha=>?_;simp only[db,ho,px,hT,hr st2 ha,hp,jA st2 ha,hb,aG gF,hd,hf,aY,cc,ha.ep]
 |true=>
  simp only[hf,bL]at h;have Xd:an.mb d=some s:=by have:=gm.1.2;rw[hd]at this;simp only[hf,ai,cI,bD]at this;exact this
  cases h;refine⟨⟨[(d,.val sh.agg ((cs.drop off).take sh.ct.size))],some (s,da cs off (aR st.ep ((cs.drop off).take sh.ct.size))),none⟩,⟨λx hx=>?_,λb gH=>?_,λ_ hh=>by cases hh⟩,?_,λst2 ha=>?_⟩;simp only[eL]at hx;subst hx;simp[writes,hd];cases gH;simp only[Hu,ho,hd,hf,af,Xd];simp;rw[OS,hd];simp only[db,ho,px,hT,hr st2 ha,hp,jA st2 ha,hb,aG gF,hd,hf,bL,ha.ep,OS]
 cases h;cases h;cases h;rename_i sh fl e x i off hT hp;rw[aF (by simp[tD])]at h;split at h;rename_i hl;split at h;rename_i gF;cases h;refine dU.put rfl λst2 ha=>?_;simp only[db,ho,px,hT,hr st2 ha,hp,ha.ep,tD,aY,cc,aG hl,aG gF];cases h;rename_i hl;have Iv:∀r t N2,fl=.loc N2 (some (r,t))->∀st2,gP an X o st st2->st2.eM r=st.eM r:=by rintro r t N2 rfl st2 ha;simp only[dq,ho,hp,hE,cf,jQ,ie,ah,de]at gm;rcases gm.1.1 with hq|hq;exact absurd hq hl;cases r with|slot b j=>simp only[AS.eM];rw[ha.er b (by simpa using hq)]|box b j=>simp only[AS.eM];rw[ha.box b (by simpa using hq)]|io j=>cases hq
 unfold FI at h;split at h;rename_i N2 r t;split at h;rename_i t' e' ys Vm;split at h;rename_i he;split at h;rename_i hc;cases hi:idx (he▸ys:List _) i with|none=>rw[hi]at h;cases h|some y=>rw[hi]at h;simp only[aa]at h;cases h;refine dU.put rfl λst2 ha=>?_;simp only[db,ho,px,hT,hr st2 ha,hp,ha.ep,tD,aY,cc,aF hl,FI,Iv _ _ _ rfl st2 ha,Vm,dif_pos he,aG hc,hi,aa]
 cases h;cases h;cases h;cases h;cases h
theorem OY (ho:o.op=.nilCheck x)(h:db E Γ an o st some=some st'):dU E Γ an X o st st':=by have hr:∀st2,gP an X o st st2->st2.rd x=st.rd x:=λst2 ha=>ha.rd (λt ht=>by simpa[dv,ho]using ht);simp only[db,ho]at h;split at h;rename_i s off hx;cases h;refine dU.put rfl λst2 ha=>?_;simp only[db,ho,hr st2 ha,hx];rename_i fl e y i off hx;cases h;refine dU.put rfl λst2 ha=>?_;simp only[db,ho,hr st2 ha,hx];cases h
theorem P0 {op:BinOp}{x y:AV}(h:(Ic op x y λc=>some (st.put o.dst (.one c)))=some st'):∃v,st'=st.put o.dst v/\∀st2:AS,(Ic op x y λc=>some (st2.put o.dst (.one c)))=some (st2.put o.dst v):=by have key:∀s:AS,(Ic op x y λc=>some (s.put o.dst (.one c)))=(Ic op x y some).bind λc=>some (s.put o.dst (.one c)):=λs=>(Hy op x y some _).symm;rw[key st]at h;cases hb:Ic op x y some with|none=>rw[hb]at h;cases h|some c=>rw[hb]at h;cases h;exact⟨_,rfl,λst2=>by rw[key st2,hb];rfl⟩
theorem Sq {op:BinOp}{b:Bool}(h:(F3 op b λc=>some (st.put o.dst (.one c)))=some st'):∃v,st'=st.put o.dst v/\∀st2:AS,(F3 op b λc=>some (st2.put o.dst (.one c)))=some (st2.put o.dst v):=by unfold F3 at h;split at h;cases h;exact⟨_,rfl,λst2=>rfl⟩;cases h;exact⟨_,rfl,λst2=>rfl⟩;cases h
theorem ab1 {op:BinOp}{T':TypeId}{y:Operand}(ho:o.op=.binOp op T x y T')(h:CW E o op T x y st some=some st'):dU E Γ an X o st st':=by
 have hr:∀st2,gP an X o st st2->st2.rd x=st.rd x/\st2.rd y=st.rd y:=λst2 ha=>
  ⟨ha.rd (λt ht=>by simp[dv,ho,ht]),ha.rd (λt ht=>by simp[dv,ho,ht])⟩
 unfold CW at h;split at h;rename_i a b hx hy;split at h;rename_i hT;obtain⟨v,rfl,hv⟩:=P0 h;refine dU.put rfl λst2 ha=>?_;simp only[db,ho,CW,(hr st2 ha).1,(hr st2 ha).2,hx,hy,aG hT];exact hv st2;cases h;rename_i xs ys hx hy;split at h;rename_i ls hq;split at h;rename_i gF;obtain⟨v,rfl,hv⟩:=P0 h;refine dU.put rfl λst2 ha=>?_;simp only[db,ho,CW,(hr st2 ha).1,(hr st2 ha).2,hx,hy,hq,aG gF];exact hv st2;cases h;cases h;rename_i fl e xs hx hy;split at h;rename_i hT;split at h;cases h;rename_i hlen;obtain⟨v,rfl,hv⟩:=Sq h;refine dU.put rfl λst2 ha=>?_;simp only[db,ho,CW,(hr st2 ha).1,(hr st2 ha).2,hx,hy,ha.ep,aG hT,aF hlen];exact hv st2;cases h;rename_i hx hy;split at h;rename_i hT;obtain⟨v,rfl,hv⟩:=Sq h;refine dU.put rfl λst2 ha=>?_;simp only[db,ho,CW,(hr st2 ha).1,(hr st2 ha).2,hx,hy,aG hT];exact hv st2;cases h;rename_i a b EA CQ hn3 hn4;obtain⟨v,rfl,hv⟩:=P0 h;refine dU.put rfl λst2 ha=>?_;simp only[db,ho,CW,(hr st2 ha).1,(hr st2 ha).2];exact hv st2
theorem aeZ {op:UnOp}(ho:o.op=.unOp op T x)(h:(unC op (st.rd x) λc=>some (st.put o.dst (.one c)))=some st'):dU E Γ an X o st st':=by have hr:∀st2,gP an X o st st2->st2.rd x=st.rd x:=λst2 ha=>ha.rd (λt ht=>by simpa[dv,ho]using ht);have key:∀s:AS,(unC op (st.rd x) λc=>some (s.put o.dst (.one c)))=(unC op (st.rd x) some).bind λc=>some (s.put o.dst (.one c)):=λs=>(WY op (st.rd x) some _).symm;rw[key st]at h;cases hb:unC op (st.rd x) some with|none=>rw[hb]at h;cases h|some c=>rw[hb]at h;cases h;refine dU.put rfl λst2 ha=>?_;simp only[db,ho,hr st2 ha];rw[key st2,hb];rfl
theorem VU {S:TypeId}{f:Nat}(ho:o.op=.fieldAddr S p f)(h:BR E o S p f st some=some st'):dU E Γ an X o st st':=by have hr:∀st2,gP an X o st st2->st2.rd p=st.rd p:=λst2 ha=>ha.rd (λt ht=>by simpa[dv,ho]using ht);unfold BR at h;split at h;rename_i hT hp;split at h;rename_i hf;cases h;refine dU.put rfl λst2 ha=>?_;simp only[db,ho,BR,hr st2 ha,hT,hp,hf];cases h;rename_i hT hp;split at h;rename_i hf;cases h;refine dU.put rfl λst2 ha=>?_;simp only[db,ho,BR,hr st2 ha,hT,hp,hf];cases h;cases h
theorem BC {v:AV}{s:AS}(h:v.now s.ep=true):v.fresh s=v:=by
 cases v with
 |vQ vs=>rfl
 |val g cs=>
  simp only[AV.now,aW]at h;simp only[AV.fresh];congr 1;have:cs.map s.fresh=cs.map id:=List.map_congr_left λc hc=>by have hn:=h c hc;unfold AS.fresh;split;simp only[AC.now]at hn;rw[hn];rfl;rfl
  rw[this,List.map_id]
theorem U7 {v:AV}{st st2:AS}(he:st2.ep=st.ep)(h:v.now st.ep=true\/∃g ep b j t e xs,v=.val g [.sl (.loc ep (some (.box b j,t))) e xs]/\nth st2.boxes b=nth st.boxes b):v.fresh st2=v.fresh st:=by rcases h with h|⟨g,ep,b,j,t,e,xs,rfl,hb⟩;rw[BC h,BC (by rw[he];exact h)];simp only[AV.fresh,dZ,List.map_nil];congr 2;unfold AS.fresh;simp only[AS.eM,he,hb]
theorem MZ {i:Operand}(ho:o.op=.indexAddr T x i)(gm:dq E an X o st=true)(h:mM E o T x i st some=some st'):dU E Γ an X o st st':=by
 have hr:∀st2,gP an X o st st2->st2.rd x=st.rd x/\st2.rd i=st.rd i:=λst2 ha=>
  ⟨ha.rd (λt ht=>by simp[dv,ho,ht]),ha.rd (λt ht=>by simp[dv,ho,ht])⟩
 have HM:∀st2,gP an X o st st2->(st.rd x).fresh st2=(st.rd x).fresh st:=λst2 ha=>by refine U7 ha.ep ?_;simp only[dq,ho,de]at gm;rcases gm with hn|hn;exact .inl hn;split at hn;rename_i g ep b j t e xs hx;exact .inr ⟨g,ep,b,j,t,e,xs,hx,ha.box b (by simpa using hn)⟩;cases hn
 unfold mM at h;split at h;rename_i e' fl e xs k n hT hx hi;split at h;rename_i hc;cases EP:idx xs n with|none=>rw[EP]at h;cases h|some y=>rw[EP]at h;cases h;refine dU.put rfl λst2 ha=>?_;have hf3:=HM st2 ha;rw[hx]at hf3;simp only[db,ho,mM,(hr st2 ha).1,(hr st2 ha).2,hf3,hT,hi,ha.ep,aG hc,EP,aa]
 cases h;cases h
theorem VV {i:Operand}(ho:o.op=.index T x i)(h:DJ E o T x i st some=some st'):dU E Γ an X o st st':=by
 have hr:∀st2,gP an X o st st2->st2.rd x=st.rd x/\st2.rd i=st.rd i:=λst2 ha=>
  ⟨ha.rd (λt ht=>by simp[dv,ho,ht]),ha.rd (λt ht=>by simp[dv,ho,ht])⟩
 unfold DJ at h;split at h;rename_i s k n hx hi;split at h;rename_i hc;cases EP:idx s n with|none=>rw[EP]at h;cases h|some y=>rw[EP]at h;cases h;refine dU.put rfl λst2 ha=>?_;simp only[db,ho,DJ,(hr st2 ha).1,(hr st2 ha).2,hx,hi,aG hc,EP,aa]
 cases h;cases h
theorem dU.new {v:AV}(h:st'=(st.fu o.dst).put o.dst v)(h2:∀st2,gP an X o st st2->db E Γ an o st2 some=some ((st2.fu o.dst).put o.dst v)):dU E Γ an X o st st':=⟨Jz o v,QT v,by rw[KY];exact h,λst2 ha=>by rw[KY];exact h2 st2 ha⟩
theorem gP.ik (ha:gP an X o st st2):st2.ik o.dst=st.ik o.dst:=by funext j;cases hd:o.dst with|none=>rfl|some d=>simp only[AS.ik,(ha.dst d hd).1]
theorem Kn {lo hi:aw Operand}{n:Nat}{f:AS->Int->Int->aw AS}(hs:∀st2,gP an X o st st2->lo.map st2.rd=lo.map st.rd/\hi.map st2.rd=hi.map st.rd)(h:nd st lo hi n (f st)=some st'):∃a b,f st a b=some st'/\∀st2,gP an X o st st2->nd st2 lo hi n (f st2)=f st2 a b:=by unfold nd at h;split at h;rename_i h1 h2;exact⟨_,_,h,λst2 ha=>by simp only[nd,(hs st2 ha).1,(hs st2 ha).2,h1,h2]⟩;rename_i h1 h2;exact⟨_,_,h,λst2 ha=>by simp only[nd,(hs st2 ha).1,(hs st2 ha).2,h1,h2]⟩;rename_i h1 h2;exact⟨_,_,h,λst2 ha=>by simp only[nd,(hs st2 ha).1,(hs st2 ha).2,h1,h2]⟩;rename_i h1 h2;exact⟨_,_,h,λst2 ha=>by simp only[nd,(hs st2 ha).1,(hs st2 ha).2,h1,h2]⟩;cases h
theorem VW {lo hi:aw Operand}(ho:o.op=.slice T x lo hi none)(hm:nP an o=true)(gm:dq E an X o st=true)(h:CG E an o T x lo hi st some=some st'):dU E Γ an X o st st':=by
 have hr:∀st2,gP an X o st st2->st2.rd x=st.rd x:=λst2 ha=>ha.rd (λt ht=>by simp[dv,ho,ht]);have hb:∀st2,gP an X o st st2->lo.map st2.rd=lo.map st.rd/\hi.map st2.rd=hi.map st.rd:=by
  intro st2 ha;constructor;cases lo with|none=>rfl|some y=>simp only[dg];rw[ha.rd (λt ht=>by simp[dv,ho,tmO,ht])]
  cases hi with|none=>rfl|some y=>simp only[dg];rw[ha.rd (λt ht=>by simp[dv,ho,tmO,ht])]
 have GX:(st.rd x).now st.ep=true:=by simpa[dq,ho]using gm
 have HM:∀st2,gP an X o st st2->(st.rd x).fresh st2=st.rd x:=λst2 ha=>BC (by rw[ha.ep];exact GX);have tD:Ht an o=false:=by simpa[nP,ho]using hm
 unfold CG at h;rw[aF (by simp[tD]),BC GX]at h;split at h;rename_i s hx;split at h;rename_i hT;obtain⟨a,b,h1,h2⟩:=Kn (f:=λs0 a b=>aa (sub s a b) λs'=>some (s0.put o.dst (.one (.str s')))) hb h;cases pZ:sub s a b with|none=>rw[pZ]at h1;cases h1|some s'=>rw[pZ]at h1;cases h1;refine dU.put rfl λst2 ha=>?_;have hf3:=HM st2 ha;rw[hx]at hf3;simp only[db,ho,CG,tD,aY,cc,hr st2 ha,hx,hf3,aG hT];rw[h2 st2 ha,pZ];rfl
 cases h;rename_i fl e xs hx;split at h;rename_i hT;obtain⟨a,b,h1,h2⟩:=Kn (f:=λs0 a b=>aa (sub xs a b) λQc=>some (s0.put o.dst (.one (.sl (O5 an o fl a) e Qc)))) hb h;cases pZ:sub xs a b with|none=>rw[pZ]at h1;cases h1|some s'=>rw[pZ]at h1;cases h1;refine dU.put rfl λst2 ha=>?_;have hf3:=HM st2 ha;rw[hx]at hf3;simp only[db,ho,CG,tD,aY,cc,hr st2 ha,hx,hf3,ha.ep,aG hT];rw[h2 st2 ha,pZ];rfl
 cases h;cases h
theorem I0 {args:ar Operand}(hl:∀t,t∈QS args->t∈dv o)(ha:gP an X o st st2):args.map st2.rd=args.map st.rd:=by apply List.map_congr_left;intro x hx;exact ha.rd (λt ht=>hl t (by simp only[QS,List.mem_flatMap];exact⟨x,hx,ht⟩))
theorem ab3 (ho:o.op=.call {callee:=.builtin .len,args,argTypes:=ts})(h:OR E o ts.toList args.toList st some=some st'):dU E Γ an X o st st':=by have hr:∀st2,gP an X o st st2->args.toList.map st2.rd=args.toList.map st.rd:=λst2 ha=>I0 (λt ht=>by simp only[dv,ho];exact ht) ha;unfold OR at h;split at h;rename_i t s qT hx;split at h;rename_i hT;cases h;refine dU.put rfl λst2 ha=>?_;simp only[db,ho,OR,hr st2 ha,qT,hx,aG hT];cases h;rename_i t _ _ xs qT hx;split at h;rename_i hT;cases h;refine dU.put rfl λst2 ha=>?_;simp only[db,ho,OR,hr st2 ha,qT,hx,aG hT];cases h;cases h
theorem ab5 (ho:o.op=.call {callee:=.builtin .min,args,argTypes:=ts})(h:Qz o args.toList st some=some st'):dU E Γ an X o st st':=by have hr:∀st2,gP an X o st st2->args.toList.map st2.rd=args.toList.map st.rd:=λst2 ha=>I0 (λt ht=>by simp only[dv,ho];exact ht) ha;unfold Qz at h;split at h;rename_i hx;cases h;refine dU.put rfl λst2 ha=>?_;simp only[db,ho,Qz,hr st2 ha,hx];cases h
theorem ab4 (ho:o.op=.call {callee:=.builtin .max,args,argTypes:=ts})(h:Qy o args.toList st some=some st'):dU E Γ an X o st st':=by have hr:∀st2,gP an X o st st2->args.toList.map st2.rd=args.toList.map st.rd:=λst2 ha=>I0 (λt ht=>by simp only[dv,ho];exact ht) ha;unfold Qy at h;split at h;rename_i hx;cases h;refine dU.put rfl λst2 ha=>?_;simp only[db,ho,Qy,hr st2 ha,hx];cases h
theorem abV {l:dV}{c:AC}(h:c.afm l=true)(hl:∀t∈l,st2.get t=st.get t):st2.Qw c=st.Qw c:=by
 cases c with
 |sl fl e xs=>
  cases fl with
  |loc ep pv=>cases pv with|none=>rfl|some q=>obtain⟨r,t⟩:=q;cases r with|slot b j=>have hb:st2.get b=st.get b:=hl b (by simpa[AC.afm]using h);simp only[AS.Qw,AS.eM,hb]|box _ _=>rfl|io _=>rfl
  |_=>rfl
 |_=>rfl
theorem YC {l:dV}(hx:KA l st x=true)(hl:∀t∈l,st2.get t=st.get t)(h:∀t∈tm x,st2.get t=st.get t):Dq st2 x=Dq st x/\Eg st2 x=Eg st x:=by
 cases x with
 |tmp t=>have ht:=h t (by simp[tm]);simp only[KA]at hx;cases hg:st.get t with|vQ vs=>exact⟨by simp only[Dq,ht,hg],by simp only[Eg,ht,hg]⟩|val g cs=>rw[hg]at hx;have hm:cs.map st2.Qw=cs.map st.Qw:=List.map_congr_left λc hc=>abV (aW.1 hx c hc) hl;exact⟨by simp only[Dq,ht,hg,hm],by simp only[Eg,ht,hg,hm]⟩
 |const v=>exact⟨rfl,rfl⟩
 |func f=>exact⟨rfl,rfl⟩
 |global g=>exact⟨rfl,rfl⟩
theorem QA (ho:o.op=.call {callee:=.value f,args,argTypes:=ts})(gm:dq E an X o st=true){k:Nat}(hf:st.rd f=.val false [.fn k])(jA:(Γ k).bx=true)(hcur:(Γ k).cur=true)(h:vS Γ o k args.toList st some=some st'):dU E Γ an X o st st':=by
 unfold vS at h;split at h;rename_i x0 xs fb;split at h;rename_i s Uq;have gM:ur an X (erS an o) st (x0::xs)=true:=by have h1:=gm;simp only[dq,ho,ah]at h1;rw[<-fb];exact h1.1
 have hx1:∃q,x0=.tmp q/\X.contains s=false/\an.sb q=some s/\(match (nth st.boxes s).getD none with|some cs=>cs.all AC.JG|none=>true)=true/\xs.all (KA (erS an o) st)=true:=by cases x0 with|tmp q=>simp only[ur,Uq,adw,ah,aP,bD]at gM;exact⟨q,rfl,gM.1.1.1,gM.1.1.2,gM.1.2,gM.2⟩|const v=>simp only[ur,Uq,AV.aao]at gM;cases gM|func v=>simp only[ur,Uq,AV.aao]at gM;cases gM|global v=>simp only[ur,Uq,AV.aao]at gM;cases gM
 obtain⟨q,rfl,hX,hsb,Gt,C8⟩:=hx1;split at h;rename_i cs Uo;rw[Uo]at Gt;simp only at Gt;cases hc:(cs.all (AC.AF (FZ cs))&&xs.all (Eg st))with
 |false=>rw[hc]at h;cases h
 |true=>
  rw[hc]at h;simp only[af]at h;cases fj:(Γ k).fn (.val true (cs.map AC.Ub)::xs.map (Dq st))with
  |none=>rw[fj]at h;cases h
  |some y=>
   rw[fj]at h;simp only[aa]at h;cases XZ:(((Γ k).back y).all (AC.AF true)&&((Γ k).av y).aca)with
   |false=>rw[XZ]at h;cases h
   |true=>
    rw[XZ]at h;simp only[af,hcur,Gt,dX,aZ]at h;subst h;refine⟨⟨o.dst.toList.map λd=>(d,((Γ k).av y).F0 st.ep (st.ik o.dst)),some (s,pL (FZ cs) (λ_=>none) 0 ((Γ k).back y)),o.dst⟩,⟨λx hx=>?_,λb hb=>?_,λd hd=>hd⟩,?_,λst2 ha=>?_⟩;simp only[List.mem_map]at hx;obtain⟨d,hd,rfl⟩:=hx;simp[writes,hd];cases hb;simp[Hu,ho,fb,hsb];unfold K2.apply AS.put AS.fu AS.eD;cases o.dst<;>rfl;have e1:st2.rd f=st.rd f:=ha.rd (λt ht=>by simp[dv,ho,ht]);have hl:∀x∈Operand.tmp q::xs,∀t∈tm x,t∈dv o:=by intro x hx t ht;simp only[dv,ho,az,QS,List.mem_flatMap,fb];exact .inr ⟨x,hx,ht⟩
    have e2:st2.rd (.tmp q)=st.rd (.tmp q):=ha.rd (hl _ (by simp));have e3:nth st2.boxes s=nth st.boxes s:=ha.box s hX;have e4:∀x∈xs,Dq st2 x=Dq st x/\Eg st2 x=Eg st x:=λx hx=>YC (aW.1 C8 x hx) ha.er λt ht=>ha.get t (hl x (by simp[hx]) t ht);have e5:xs.map (Dq st2)=xs.map (Dq st):=List.map_congr_left λx hx=>(e4 x hx).1;have e6:xs.all (Eg st2)=xs.all (Eg st):=by rw[fi];simp only[aW];exact⟨λg x hx=>by rw[<-(e4 x hx).2];exact g x hx,λg x hx=>by rw[(e4 x hx).2];exact g x hx⟩
    simp only[db,ho,F1,e1,hf,jA,af,vS,fb,e2,Uq,e3,Uo,e5,e6,hc,fj,aa,XZ,hcur,Gt,dX,ha.ep,ha.ik];unfold K2.apply AS.put AS.fu AS.eD;cases o.dst<;>rfl
 cases h;cases h;cases h
theorem YJ (Ag:∀f,(Γ f).io=false/\((Γ f).bx=true->(Γ f).cur=true)/\(Γ f).pr=false)(ho:o.op=.call {callee:=.value f,args,argTypes:=ts})(gm:dq E an X o st=true)(h:F1 Γ o f args.toList st some=some st'):dU E Γ an X o st st':=by
 have hr:∀st2,gP an X o st st2->st2.rd f=st.rd f/\(args.toList.map λx=>((st2.rd x).fresh st2).asArg st2.ep)=args.toList.map λx=>((st.rd x).fresh st).asArg st.ep:=by
  intro st2 ha;refine⟨ha.rd (λt ht=>by simp[dv,ho,ht]),?_⟩;apply List.map_congr_left;intro x hx;have GX:(st.rd x).now st.ep=true:=by simp only[dq,ho,ah,aW]at gm;exact gm.2 x hx
  rw[ha.rd (λt ht=>by simp only[dv,ho,az,QS,List.mem_flatMap];exact .inr ⟨x,hx,ht⟩),BC GX,BC (s:=st2) (by rw[ha.ep];exact GX),ha.ep]
 unfold F1 at h;split at h
 ·rename_i k hf
  cases jA:(Γ k).bx with
  |true=>rw[jA]at h;exact QA ho gm hf jA ((Ag k).2.1 jA) h
  |false=>
  rw[jA,(Ag k).2.2,(Ag k).1]at h
  simp only[ae]at h
  cases hg:(Γ k).fn (args.toList.map λx=>((st.rd x).fresh st).asArg st.ep)with
  |none=>rw[hg]at h;cases h
  |some y=>
   rw[hg]at h
   simp only[aa]at h
   cases Qp:(Γ k).sel y with
   |true=>
    rw[Qp]at h
    cases h
    refine dU.new rfl λst2 ha=>?_
    simp only[db,ho,F1,(hr st2 ha).1,hf,(Ag k).1,jA,(Ag k).2.2,ae]
    rw[(hr st2 ha).2,hg]
    simp only[aa,Qp,af,ha.ep,ha.ik]
   |false=>
    rw[Qp]at h
    cases h
    refine dU.new rfl λst2 ha=>?_
    simp only[db,ho,F1,(hr st2 ha).1,hf,(Ag k).1,jA,(Ag k).2.2,ae]
    rw[(hr st2 ha).2,hg]
    simp only[aa,Qp,ae,ha.ep,ha.ik]
 cases h
theorem QB {src dst:TypeId}(ho:o.op=.convert src dst x)(h:lZ E o src dst x st some=some st'):dU E Γ an X o st st':=by
 have hr:∀st2,gP an X o st st2->st2.rd x=st.rd x:=λst2 ha=>ha.rd (λt ht=>by simpa[dv,ho]using ht);unfold lZ at h;split at h;rename_i h1 h2 h3;cases h;refine dU.put rfl λst2 ha=>?_;simp only[db,ho,lZ,hr st2 ha,h1,h2,h3];rename_i h1 h2 h3;cases h;refine dU.put rfl λst2 ha=>?_;simp only[db,ho,lZ,hr st2 ha,h1,h2,h3];rename_i jV val s JE h1 h2 h3;split at h;rename_i hb;unfold room at h;split at h;rename_i hrm;cases h;refine dU.new (v:=.one (.sl (.own (st.ik o.dst 0)) (.int .u8) (dm s))) rfl λst2 ha=>?_;have Ij:∀k:AS->aw AS,lZ E o src dst x st2 k=if E.bytes dst then room s.length (k (st2.qa o.dst (.int .u8) (dm s))) else none:=by intro k;unfold lZ;rw[hr st2 ha,h1,h2,h3];obtain⟨ag,ct,of⟩:=val;cases ag with|true=>rfl|false=>cases ct with|str=>exact(JE _ rfl).elim|_=>rfl
 simp only[db,ho];rw[Ij,aG hb,room,aG hrm,AS.qa,ha.ik];cases h;cases h;rename_i val jV fl xs h1 h2 h3;split at h;rename_i hb;cases h;refine dU.put rfl λst2 ha=>?_;have Ij:∀k:AS->aw AS,lZ E o src dst x st2 k=if E.bytes src/\fl.live st2.ep then k (st2.put o.dst (.one (.str (aM xs)))) else none:=by intro k;unfold lZ;rw[hr st2 ha,h1,h2,h3];obtain⟨ag,ct,of⟩:=val;cases ag with|true=>rfl|false=>cases ct<;>rfl
 simp only[db,ho];rw[Ij,ha.ep,aG hb];cases h;cases h
theorem L2 {d:Nat}{v:AV}:(⟨[(d,v)],some (d,cs),none⟩:K2).apply st=(st.eD d (some cs)).put (some d) v:=rfl
theorem VS (ho:o.op=.alloc T)(h:ED E o T st some=some st'):dU E Γ an X o st st':=by unfold ED at h;split at h;rename_i d sh hd hT;split at h;rename_i hb;cases h;refine⟨⟨[(d,.one (.ptr d 0))],some (d,cellsOf sh.ct (.own none) sh.ct.zero),none⟩,⟨λx hx=>?_,λb gH=>?_,λ_ hh=>by cases hh⟩,?_,λst2 ha=>?_⟩;simp only[eL]at hx;subst hx;simp[writes,hd];cases gH;simp[Hu,ho,hd];rw[L2,hd];simp only[db,ho,ED,hd,hT,(ha.dst d hd).2,hb,L2];cases h;cases h
def oz (st:AS):Operand->ar (Nat×AV)
 | .tmp t=>[(t,(st.get t).aR st.ep)]
 |_=>[]
theorem DM (l:ar AV)(a b:ar (Nat×AV)):jW l (a++b)=jW (jW l a) b:=by induction a generalizing l with|nil=>rfl|cons x a ih=>exact ih _
def AS.ki (st:AS)(l:ar (Nat×AV)):AS:={st with slots:=jW st.slots l}
theorem rp (a b:ar (Nat×AV)):st.ki (a++b)=(st.ki a).ki b:=by simp only[AS.ki,DM]
theorem Ev (x:Operand):(st.take x).2=st.ki (oz st x):=by cases x<;>rfl
theorem FN (xQ:st2.ep=st.ep)(h:∀t∈tm x,st2.get t=st.get t):(st2.take x).1=(st.take x).1/\(st2.take x).2=st2.ki (oz st x):=by cases x with|tmp t=>have:=h t (by simp[tm]);refine⟨this,?_⟩;rw[Ev];simp only[oz,this,xQ]|const v=>exact⟨rfl,rfl⟩|func f=>exact⟨rfl,rfl⟩|global g=>exact⟨rfl,rfl⟩
theorem KW:∀y∈oz st x,y.1∈tm x:=by cases x<;>simp[oz,tm]
theorem YL (ho:o.op=.move x)(h:Ej an o x st some=some st'):dU E Γ an X o st st':=by
 unfold Ej at h;cases hd:o.dst with
 |none=>rw[hd]at h;cases h
 |some d=>
  rw[hd]at h;cases hf:an.mv.contains d with
  |false=>simp only[hf,aY,cc]at h;cases h;refine dU.put (v:=st.rd x) (by rw[hd]) λst2 ha=>?_;have hr:st2.rd x=st.rd x:=ha.rd (λt ht=>by simpa[dv,ho]using ht);simp only[db,ho,Ej,hd,hf,aY,cc,hr]
  |true=>
   simp only[hf,bL]at h;cases h;have hr:∀st2,gP an X o st st2->(st2.take x).1=(st.take x).1/\(st2.take x).2=st2.ki (oz st x):=λst2 ha=>FN ha.ep λt ht=>ha.get t (by simpa[dv,ho]using ht);refine⟨⟨oz st x++[(d,(st.take x).1)],none,none⟩,⟨λy hy=>?_,λ_ hh=>(by cases hh),λ_ hh=>(by cases hh)⟩,?_,λst2 ha=>?_⟩;rcases az.1 hy with hy|hy;have:=KW y hy;have hf':d∈an.mv:=by simpa using hf
   simp[writes,Hr,ho,hd,hf',dv,this];simp only[eL]at hy;subst hy;simp[writes,hd];rw[Ev];show _=st.ki _;rw[rp];rfl;simp only[db,ho,Ej,hd,hf,bL,(hr st2 ha).1,(hr st2 ha).2];show some ((st2.ki (oz st x)).put (some d) (st.take x).1)=some (st2.ki _);rw[rp];rfl
theorem U1 {ep:Nat}(h:cs.all AC.gu=true):aR ep cs=cs:=by
 rw[aW]at h;unfold aR;have:cs.map (AC.borrow ep none)=cs.map id:=List.map_congr_left λc hc=>by have:=h c hc;cases c<;>first|rfl|(simp[AC.gu]at this)
 rw[this,List.map_id]
theorem agN {s:AS}{vs:ar (Bool×ar AC)}(h:s.get t=.vQ vs):s.put (some t) (.vQ vs)=s:=by cases s with|mk slots boxes ep iss io=>simp only[AS.put,AS.mk.injEq,ig];rw[eV];apply cL;intro i;rw[bk];split;rename_i hd;subst hd;simp only[AS.get,dA]at h;split;rename_i gV;rw[al gV]at h⊢;simp only[fy]at h;rw[h];rename_i BD;rw[bH (Nat.le_of_not_lt BD)];rfl
theorem QC {i:Nat}(ho:o.op=.extract (.tmp t) i)(gm:dq E an X o st=true)(h:ma o t i st some=some st'):dU E Γ an X o st st':=by
 have hr:∀st2,gP an X o st st2->st2.get t=st.get t:=λst2 ha=>ha.get t (by simp[dv,ho]);unfold ma at h;simp only[dq,ho]at gm;split at h
 ·rename_i vs hv;rw[hv]at gm;split at h
  ·rename_i g cs hn;simp only[hn]at gm;have hfl:cs.all AC.gu=true\/∃d,o.dst=some d/\an.mv.contains d=true:=by cases hd:o.dst with|none=>simp only[hd,Bool.or_false]at gm;exact .inl gm|some d=>simp only[hd,de]at gm;rcases gm with h|h;exact .inl h;exact .inr ⟨d,rfl,h⟩
   rcases hfl with gm|⟨d,hd,F5⟩;rotate_left;cases h;refine⟨⟨[(t,.vQ (gZ vs i (g,aR 0 cs))),(d,.val g cs)],none,none⟩,⟨λx hx=>?_,(λ_ hb=>by cases hb),(λ_ hh=>by cases hh)⟩,?_,λst2 ha=>?_⟩;simp only[cv,List.not_mem_nil,or_false]at hx;rcases hx with rfl|rfl;simp only[writes,Hr,ho,hd,F5,af,dv];simp;simp only[writes,hd];simp;rw[hd];rfl;have h2:st2.get t=.vQ vs:=by rw[hr st2 ha,hv]
   simp only[db,ho,ma,h2,hn,hd];rfl;skip;have DG:gZ vs i (g,cs)=vs:=by rw[eV];rw[dA]at hn;apply cL;intro k;rw[bk];split;rename_i hk;subst hk;obtain⟨hl,he⟩:=aD.1 hn;rw[aG hl,hn];rfl
   have key:∀s:AS,s.get t=.vQ vs->(s.put (some t) (.vQ (gZ vs i (g,aR 0 cs))))=s:=λs hs=>by rw[U1 gm,DG,agN hs]
   rw[key st hv]at h;cases h;refine dU.put rfl λst2 ha=>?_;have h2:st2.get t=.vQ vs:=by rw[hr st2 ha,hv]
   simp only[db,ho,ma,h2,hn];rw[key st2 h2]
  cases h
 cases h
def Bx (st:AS):Operand->ar (Nat×AV)
 | .tmp t=>[(t,(st.get t).aR st.ep)]
 |_=>[]
theorem PO (st:AS)(x:Operand):(st.take x).2=⟨jW st.slots (Bx st x),st.boxes,st.ep,st.iss,st.io⟩:=by cases x<;>rfl
theorem VX {pp:Nat}(ho:o.op=.store T (.tmp pp) x)(hd:o.dst=none)(hm:nP an o=true)(gm:dq E an X o st=true)(h:yo E T (.tmp pp) x st some=some st'):dU E Γ an X o st st':=by
 have hr:∀st2,gP an X o st st2->st2.rd (.tmp pp)=st.rd (.tmp pp):=λst2 ha=>ha.rd (λt ht=>by simp only[dv,ho,az];exact .inl ht);have hsb:(an.sb pp).isNone=false:=by simp only[nP,ho,ah]at hm;cases hb:an.sb pp with|none=>rw[hb]at hm;cases hm.1|some _=>rfl
 simp only[dq,ho,hsb,gL,cI]at gm;unfold yo at h;split at h;rename_i sh s off hT hp;rw[hp]at gm;simp only[ah,aP,bD]at gm;split at h;rename_i gg vs st1 tD;have Tc:(st.take x).1=.val gg vs:=by rw[tD]
 have G1:st1=⟨jW st.slots (Bx st x),st.boxes,st.ep,st.iss,st.io⟩:=by rw[<-PO,tD]
 split at h;rename_i cs hb;split at h;rename_i hlen;split at h;rename_i gF;cases h;have jA:∀st2,gP an X o st st2->nth st2.boxes s=nth st.boxes s:=λst2 ha=>ha.box s gm.1;refine⟨⟨Bx st x,some (s,da cs off vs),none⟩,⟨λy hy=>?_,λb gH=>?_,λ_ hh=>by cases hh⟩,?_,λst2 ha=>?_⟩;cases x with|tmp t=>simp only[Bx,eL]at hy;subst hy;simp only[writes,Hr,ho,af,dv,hd];simp[tm]|_=>simp[Bx]at hy
 cases gH;simp only[Hu,ho,gm.2];simp;rw[G1];rfl;have hx2:(st2.take x).1=(st.take x).1/\Bx st2 x=Bx st x:=by cases x with|tmp t=>have hg:st2.get t=st.get t:=ha.get t (by simp[dv,ho,tm]);simp only[AS.take,Bx,hg,ha.ep];simp|const v=>exact⟨rfl,rfl⟩|func f=>exact⟨rfl,rfl⟩|global g=>exact⟨rfl,rfl⟩
 have ht2:st2.take x=(.val gg vs,⟨jW st2.slots (Bx st x),st2.boxes,st2.ep,st2.iss,st2.io⟩):=by rw[<-hx2.2,<-PO,<-Tc,<-hx2.1]
 have Gu:(nth st2.boxes s).getD none=some cs:=by rw[jA st2 ha];rw[G1]at hb;exact hb
 have F4:Ca an o=false:=by simp only[nP,ho,ah,aP]at hm;exact hm.2
 simp only[db,ho,hd,F4,aY,cc,yo,hT,hr st2 ha,hp,ht2,Gu,aG hlen,aG gF];rfl;cases h;cases h;cases h;cases h;rename_i r _ _ _ _ _ _ hp;rw[hp]at gm;cases r<;>simp at gm;cases h
theorem Tz (ho:o.op=.assign x)(hm:nP an o=true)(h:vR E an o x st some=some st'):dU E Γ an X o st st':=by
 have hr:∀st2,gP an X o st st2->(st2.take x).1=(st.take x).1/\(st2.take x).2=st2.ki (oz st x):=λst2 ha=>FN ha.ep λt ht=>ha.get t (by simpa[dv,ho]using ht);have F4:Ca an o=false:=by simpa[nP,ho]using hm
 unfold vR at h;split at h;rename_i st1 tD;split at h;rename_i e hT;cases h;refine dU.put rfl λst2 ha=>?_;have h2:st2.take x=(.val false [.jw],st2.ki (oz st x)):=Prod.ext (by rw[(hr st2 ha).1,tD]) (hr st2 ha).2;simp only[db,ho,vR,F4,aY,cc,h2,hT];cases h;rename_i v st1 JE tD;cases h;have G1:st1=st.ki (oz st x):=by rw[<-Ev,tD]
 refine⟨⟨oz st x++o.dst.toList.map λd=>(d,v),none,none⟩,⟨λy hy=>?_,λ_ hh=>(by cases hh),λ_ hh=>(by cases hh)⟩,?_,λst2 ha=>?_⟩;rcases az.1 hy with hy|hy;have:=KW y hy;simp[writes,Hr,ho,dv,this];obtain⟨d,hd,rfl⟩:=List.mem_map.1 hy;simp[writes,hd];rw[G1];show _=st.ki _;rw[rp];cases o.dst<;>rfl;have h2:st2.take x=(v,st2.ki (oz st x)):=Prod.ext (by rw[(hr st2 ha).1,tD]) (hr st2 ha).2;simp only[db,ho,vR,F4,aY,cc,h2];show some ((st2.ki (oz st x)).put o.dst v)=some (st2.ki _);rw[rp];cases o.dst<;>rfl
theorem jx {α:Type}(l:ar α)(i:Nat)(v:α)(t:Nat):nth (gZ l i v) t=if i=t then(if i<l.length then some v else none) else nth l t:=by rw[dA,eV,dA,bk]
theorem Pc (l:ar AV)(a:ar (Nat×AV)):(jW l a).length=l.length:=by induction a generalizing l with|nil=>rfl|cons x a ih=>rw[jW,ih,eV,aH]
theorem YY {l l2:ar AV}(a:ar (Nat×AV))(hl:l2.length=l.length)(t:Nat)(h:nth l2 t=nth l t):nth (jW l2 a) t=nth (jW l a) t:=by induction a generalizing l l2 with|nil=>exact h|cons x a ih=>refine ih (by rw[eV,eV,aH,aH,hl]) ?_;rw[jx,jx,hl,h]
theorem YR (h:st2.get t=st.get t)(hl:st2.slots.length=st.slots.length):nth st2.slots t=nth st.slots t:=by unfold AS.get at h;rw[dA,dA]at h⊢;rcases bQ t st.slots.length with gV|BD;rw[al gV,al (by omega)]at h⊢;simpa using h;rw[bH BD,bH (by omega)]
def jO (st:AS):ar Operand->ar (Nat×AV)
 |[]=>[]
 |x::xs=>oz st x++jO (st.ki (oz st x)) xs
theorem CN:∀(xs:ar Operand)(st:AS),∀y∈jO st xs,y.1∈QS xs
 |[],_,y,hy=>by cases hy
 |x::xs,st,y,hy=>by simp only[QS,List.flatMap_cons,az];rcases az.1 hy with hy|hy;exact .inl (KW y hy);exact .inr (CN xs _ y hy)
theorem DS:∀(xs:ar Operand)(st st2:AS),st2.ep=st.ep->st2.slots.length=st.slots.length->(∀t∈QS xs,nth st2.slots t=nth st.slots t)->
 (eO st2 xs).1=(eO st xs).1/\(eO st2 xs).2=st2.ki (jO st xs)
 |[],st,st2,_,_,_=>⟨rfl,rfl⟩
 |x::xs,st,st2,xQ,hl,hg=>by
  have hx:∀t∈tm x,st2.get t=st.get t:=λt ht=>by unfold AS.get;rw[hg t (by simp[QS,ht])]
  obtain⟨h1,h2⟩:=FN (st:=st) (st2:=st2) xQ hx;have h3:=Ev (st:=st) x;obtain⟨k1,k2⟩:=DS xs (st.ki (oz st x)) (st2.ki (oz st x)) xQ (by simp only[AS.ki,Pc,hl]) (λt ht=>YY _ hl t (hg t (by simp only[QS,List.flatMap_cons,az];exact .inr ht)));have e1:eO st (x::xs)=((st.take x).1::(eO (st.take x).2 xs).1,(eO (st.take x).2 xs).2):=rfl;have e2:eO st2 (x::xs)=((st2.take x).1::(eO (st2.take x).2 xs).1,(eO (st2.take x).2 xs).2):=rfl;rw[e1,e2,h1,h2,h3];refine⟨by rw[k1],?_⟩;show(eO (st2.ki (oz st x)) xs).2=_;rw[k2,jO,rp]
theorem FL (xs:ar Operand):(eO st xs).2=st.ki (jO st xs):=(DS xs st st rfl rfl (λ_ _=>rfl)).2
theorem gP.eO (ha:gP an X o st st2){xs:ar Operand}(hx:∀t∈QS xs,t∈dv o):(eO st2 xs).1=(Dn.eO st xs).1/\(Dn.eO st2 xs).2=st2.ki (jO st xs):=DS xs st st2 ha.ep ha.len λt ht=>YR (ha.get t (hx t ht)) ha.len
theorem VT (ho:o.op=.build T parts)(h:DC E o T parts.toList st some=some st'):dU E Γ an X o st st':=by
 have hl:∀t∈QS (parts.toList.map (·.2)),t∈dv o:=λt ht=>by simp only[dv,ho];exact ht
 unfold DC at h;split at h;rename_i ct jV hT;split at h;rename_i vs st1 tD;have G1:st1=st.ki (jO st (parts.toList.map (·.2))):=by rw[<-FL,tD]
 split at h;rename_i cs hb;cases h;refine⟨⟨jO st (parts.toList.map (·.2))++o.dst.toList.map λd=>(d,.val true cs),none,none⟩,⟨λy hy=>?_,λ_ hh=>(by cases hh),λ_ hh=>(by cases hh)⟩,?_,λst2 ha=>?_⟩;rcases az.1 hy with hy|hy;have:=hl _ (CN _ _ y hy);simp[writes,Hr,ho,this];obtain⟨d,hd,rfl⟩:=List.mem_map.1 hy;simp[writes,hd];rw[G1];show _=st.ki _;rw[rp];cases o.dst<;>rfl;obtain⟨k1,k2⟩:=ha.eO hl;have h2:eO st2 (parts.toList.map (·.2))=(vs,st2.ki (jO st (parts.toList.map (·.2)))):=Prod.ext (by rw[k1,tD]) k2;simp only[db,ho,DC,hT,h2,hb];show some ((st2.ki _).put o.dst _)=some (st2.ki _);rw[rp];cases o.dst<;>rfl;cases h;cases h
theorem dU.aiz {v:AV}(ht:Hr an o=true)(hl:∀y∈tl,y.1∈dv o)(h:st'=((st.ki tl).fu o.dst).put o.dst v)(h2:∀st2,gP an X o st st2->db E Γ an o st2 some=some (((st2.ki tl).fu o.dst).put o.dst v)):dU E Γ an X o st st':=by
 have key:∀s:AS,(⟨tl++o.dst.toList.map λd=>(d,v),none,o.dst⟩:K2).apply s=((s.ki tl).fu o.dst).put o.dst v:=by intro s;cases o.dst with|none=>simp only[K2.apply,Option.toList,List.map_nil,bp,AS.ki,AS.fu,AS.put]|some d=>simp only[K2.apply,Option.toList,dZ,List.map_nil,DM,AS.ki,AS.fu,AS.put,jW]
 refine⟨⟨tl++o.dst.toList.map λd=>(d,v),none,o.dst⟩,⟨λy hy=>?_,λ_ hh=>(by cases hh),λd hh=>hh⟩,by rw[key];exact h,λst2 ha=>by rw[key];exact h2 st2 ha⟩;rcases az.1 hy with hy|hy;simp[writes,ht,hl y hy];obtain⟨d,hd,rfl⟩:=List.mem_map.1 hy;simp[writes,hd]
theorem BH {d:aw Nat}:(st.ki tl).ik d=st.ik d:=rfl
theorem Lz {len:Nat}(ho:o.op=.buildSlice T len parts)(h:lV E o T len parts.toList st some=some st'):dU E Γ an X o st st':=by
 have hl:∀t∈QS (parts.toList.map (·.2)),t∈dv o:=λt ht=>by simp only[dv,ho];exact ht
 unfold lV at h;split at h;rename_i e hT;split at h;rename_i hc;split at h;rename_i vs st1 tD;have G1:st1=st.ki (jO st (parts.toList.map (·.2))):=by rw[<-FL,tD]
 split at h;rename_i xs hb;cases h;refine dU.aiz (tl:=jO st (parts.toList.map (·.2))) (v:=.one (.sl (.own (st.ik o.dst 0)) e xs)) (by simp[Hr,ho]) (λy hy=>hl _ (CN _ _ y hy)) ?_ λst2 ha=>?_;rw[G1,AS.qa,BH];obtain⟨k1,k2⟩:=ha.eO hl;have h2:eO st2 (parts.toList.map (·.2))=(vs,st2.ki (jO st (parts.toList.map (·.2)))):=Prod.ext (by rw[k1,tD]) k2;simp only[db,ho,lV,hT,h2,hb,aG hc];rw[AS.qa,BH,ha.ik];cases h;cases h;cases h
theorem M0 {n c:Operand}(ho:o.op=.makeSlice T n c)(h:oN E o T n c st some=some st'):dU E Γ an X o st st':=by
 have hr:∀st2,gP an X o st st2->st2.rd n=st.rd n/\st2.rd c=st.rd c:=λst2 ha=>
  ⟨ha.rd (λt ht=>by simp[dv,ho,ht]),ha.rd (λt ht=>by simp[dv,ho,ht])⟩
 unfold oN at h;split at h;rename_i e len cap hT hn hc;split at h;rename_i hlc;unfold room at h;split at h;rename_i hrm;cases h;refine dU.new (v:=.one (.sl (.own (st.ik o.dst 0)) e (List.replicate len.toNat e.zero))) rfl λst2 ha=>?_;simp only[db,ho,oN,(hr st2 ha).1,(hr st2 ha).2,hT,hn,hc,aG hlc,room,aG hrm,AS.qa,ha.ik];cases h;cases h;cases h
theorem Tx (ho:o.op=.call {callee:=.builtin .append,args,argTypes:=ts})(h:yt E o ts.toList args.toList st some=some st'):dU E Γ an X o st st':=by
 have Xc:∀t∈QS args.toList,t∈dv o:=λt ht=>by simp only[dv,ho];exact ht
 unfold yt at h;split at h;rename_i t t' s x qT fb;have hl:∀u∈QS [s,x],u∈dv o:=by rw[<-fb];exact Xc
 have ahp:∀st2,gP an X o st st2->(st2.take s).1=(st.take s).1/\((st2.take s).2.take x).1=((st.take s).2.take x).1/\((st2.take s).2.take x).2=st2.ki (jO st [s,x]):=by intro st2 ha;obtain⟨k1,k2⟩:=ha.eO hl;simp only[Dn.eO,List.cons.injEq,ig]at k1 k2;exact⟨k1.1,k1.2,k2⟩
 have C8:((st.take s).2.take x).2=st.ki (jO st [s,x]):=FL (st:=st) [s,x];split at h;rename_i tag e xs st1 Tc;split at h;rename_i fl e' ys aiu J3;split at h;rename_i he;subst he;split at h;rename_i hc;unfold room at h;split at h;rename_i hrm;cases h;have G1:(st.take s).2=st1:=by rw[Tc]
 have Ta:aiu=st.ki (jO st [s,x]):=by rw[<-C8,G1,J3]
 refine dU.aiz (tl:=jO st [s,x]) (v:=.one (.sl (.own (st.ik o.dst 0)) e' (xs++ys))) (by simp[Hr,ho]) (λy hy=>hl _ (CN _ _ y hy)) ?_ λst2 ha=>?_;rw[Ta,AS.qa,BH];obtain⟨k1,k2,k3⟩:=ahp st2 ha;have e1:st2.take s=(.val false [.sl (.own tag) e' xs],(st2.take s).2):=Prod.ext (by rw[k1,Tc]) rfl;have e2:(st2.take s).2.take x=(.val false [.sl fl e' ys],st2.ki (jO st [s,x])):=Prod.ext (by rw[k2,G1,J3]) k3;simp only[db,ho,yt,qT,fb];rw[e1];simp only;rw[e2];simp only[dite_true,ha.ep,aG hc,room,aG hrm,AS.qa,BH,ha.ik];cases h;cases h;cases h;rename_i sx aiu J3;split at h;rename_i he;subst he;split at h;rename_i hc;unfold room at h;split at h;rename_i hrm;cases h;have G1:(st.take s).2=st1:=by rw[Tc]
 have Ta:aiu=st.ki (jO st [s,x]):=by rw[<-C8,G1,J3]
 refine dU.aiz (tl:=jO st [s,x]) (v:=.one (.sl (.own (st.ik o.dst 0)) (.int .u8) (xs++dm sx))) (by simp[Hr,ho]) (λy hy=>hl _ (CN _ _ y hy)) ?_ λst2 ha=>?_;rw[Ta,AS.qa,BH];obtain⟨k1,k2,k3⟩:=ahp st2 ha;have e1:st2.take s=(.val false [.sl (.own tag) (.int .u8) xs],(st2.take s).2):=Prod.ext (by rw[k1,Tc]) rfl;have e2:(st2.take s).2.take x=(.val false [.str sx],st2.ki (jO st [s,x])):=Prod.ext (by rw[k2,G1,J3]) k3;simp only[db,ho,yt,qT,fb];rw[e1];simp only;rw[e2];simp only[dite_true,aG hc,room,aG hrm,AS.qa,BH,ha.ik];cases h;cases h;cases h;cases h;cases h;cases h
theorem ab2 (ho:o.op=.box T x)(h:SC o x st some=some st'):dU E Γ an X o st st':=by
 have hr:∀st2,gP an X o st st2->(st2.take x).1=(st.take x).1/\(st2.take x).2=st2.ki (oz st x):=λst2 ha=>FN ha.ep λt ht=>ha.get t (by simpa[dv,ho]using ht);unfold SC at h;split at h;rename_i d g cs st1 hd tD;have G1:st1=st.ki (oz st x):=by rw[<-Ev,tD]
 split at h;rename_i hb;split at h;rename_i hs;cases h;have Uo:nth st.boxes d=some none:=by rw[G1]at hb;exact hb
 have key:∀s:AS,(⟨oz st x++[(d,.one (.ptr d 0))],some (d,cs),none⟩:K2).apply s=((s.ki (oz st x)).eD d (some cs)).put (some d) (.one (.ptr d 0)):=by intro s;simp only[K2.apply,DM,AS.ki,AS.eD,AS.put,jW]
 refine⟨⟨oz st x++[(d,.one (.ptr d 0))],some (d,cs),none⟩,⟨λy hy=>?_,λb gH=>?_,λ_ hh=>(by cases hh)⟩,?_,λst2 ha=>?_⟩;rcases az.1 hy with hy|hy;have:=KW y hy;simp[writes,Hr,ho,dv,this];simp only[eL]at hy;subst hy;simp[writes,hd];cases gH;simp[Hu,ho,hd];rw[key,G1,hd];have h2:st2.take x=(.val g cs,st2.ki (oz st x)):=Prod.ext (by rw[(hr st2 ha).1,tD]) (hr st2 ha).2;have Gu:nth (st2.ki (oz st x)).boxes d=some none:=by show nth st2.boxes d=_;rw[(ha.dst d hd).2];exact Uo
 simp only[db,ho,SC,hd,h2,Gu,aG hs,key];cases h;cases h;cases h
theorem PE (Ag:∀f,(Γ f).io=false/\((Γ f).bx=true->(Γ f).cur=true)/\(Γ f).pr=false)(hm:nP an o=true)(gm:dq E an X o st=true)(h:db E Γ an o st some=some st'):dU E Γ an X o st st':=by
 have h0:=h;unfold db at h;split at h;rename_i ho;exact YL ho h;rename_i ho;have F4:Ca an o=false:=by simpa[nP,ho]using hm
 rw[aF (by simp[F4])]at h;exact Tz ho hm h;rename_i ho;exact YM ho h;rename_i ho;exact VS ho h;rename_i ho;exact ab2 ho h;rename_i ho;exact YK ho hm gm h;rename_i T p x ho;split at h;rename_i hd;cases p with
 |tmp pp=>
  have F4:Ca an o=false:=by simp only[nP,ho,ah,aP]at hm;exact hm.2
  rw[aF (by simp[F4])]at h;exact VX ho hd hm gm h
 |const v=>simp[nP,ho]at hm
 |func f=>simp[nP,ho]at hm
 |global g=>simp[nP,ho]at hm
 cases h;rename_i ho;exact OY ho h0;rename_i ho;exact ab1 ho h;rename_i ho;exact aeZ ho h;rename_i ho;exact VU ho h;rename_i ho;exact MZ ho gm h;rename_i ho;exact VV ho h;rename_i ho;exact VT ho h;rename_i ho;exact Lz ho h;rename_i ho;exact M0 ho h;rename_i ho;exact VW ho hm gm h;rename_i ho;simp[nP,ho]at hm;rename_i ho;simp[nP,ho]at hm;rename_i ho;exact QB ho h;rename_i ho;exact QC ho gm h;rename_i ho;exact ab3 ho h;rename_i ho;exact ab5 ho h;rename_i ho;exact ab4 ho h;rename_i ho;exact Tx ho h;rename_i ho;exact YJ Ag ho gm h;cases h
end Go.Dn
