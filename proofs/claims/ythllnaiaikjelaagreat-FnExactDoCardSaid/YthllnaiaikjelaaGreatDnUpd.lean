import Derived.Test.YthllnaiaikjelaaGreatDnMask
/- What an operation looks at and what it turns: for regions whose order is drawn. -/
namespace Go.Dn
structure Q2 where
 slots:List (Nat×AV):=[]
 box:Option (Nat×List AC):=none
 iss:Option Nat:=none
def lC (l:ar AV):ar (Nat×AV)->ar AV
 |[]=>l
 |x::r=>lC (iO l x.1 x.2) r
def Q2.apply (u:Q2)(st:AS):AS:=
 ⟨lC st.slots u.slots,(match u.box with|some b=>iO st.boxes b.1 (some b.2)|none=>st.boxes),st.ep,(match u.iss with|some d=>iO st.iss d true|none=>st.iss),st.io⟩
structure iH (an:An) (X:List Nat) (o:Oper) (st st2:AS):Prop where
 len:st2.slots.length=st.slots.length
 get:∀t∈dL o,st2.get t=st.get t
 ep:st2.ep=st.ep
 dst:∀d,o.dst=some d->nth st2.iss d=nth st.iss d/\nth st2.boxes d=nth st.boxes d
 box:∀s,X.contains s=false->nth st2.boxes s=nth st.boxes s
 er:∀t∈erS an o,st2.get t=st.get t
structure Q2.Oq (an:An) (u:Q2) (o:Oper):Prop where
 slots:∀x∈u.slots,x.1∈writes an o
 box:∀b,u.box=some b->b.1∈MI an o
 iss:∀d,u.iss=some d->o.dst=some d
variable {E:Env} {Γ:Ci} {an:An} {X:ec} {o:Oper} {st st2 st':AS}
variable {parts:Array (Nat×Operand)} {args:Array Operand} {ts:Array TypeId} {t:Nat} {f p x:Operand} {T:TypeId} {tl:ar (Nat×AV)} {cs:ar AC}
theorem amZ (Ck:st2.ep=st.ep)(h:∀t∈tm x,st2.get t=st.get t):st2.rd x=st.rd x:=by cases x with|tmp t=>simp only[AS.rd,Ck,h t (by simp[tm])]|const v=>rfl|func f=>rfl|global g=>rfl
def eK (E:Env)(Γ:Ci)(an:An)(X:ec)(o:Oper)(st st':AS):Prop:=
 ∃u:Q2,u.Oq an o/\st'=u.apply st/\∀st2,iH an X o st st2->db E Γ an o st2 some=some (u.apply st2)
def KK (o:Oper)(v:AV):Q2:={slots:=o.dst.toList.map λd=>(d,v)}
theorem xd (v:AV):(KK o v).apply st=st.put o.dst v:=by unfold KK Q2.apply AS.put;cases o.dst<;>rfl
theorem Iy (v:AV):(KK o v).Oq an o:=by refine⟨λx hx=>?_,λb hb=>by simp[KK]at hb,λd hd=>by simp[KK]at hd⟩;simp only[KK,List.mem_map]at hx;obtain⟨d,hd,rfl⟩:=hx;simp[writes,hd]
def O8 (o:Oper)(v:AV):Q2:={slots:=o.dst.toList.map λd=>(d,v),iss:=o.dst}
theorem QY (v:AV):(O8 o v).apply st=(st.fQ o.dst).put o.dst v:=by unfold O8 Q2.apply AS.put AS.fQ;cases o.dst<;>rfl
theorem Xr (v:AV):(O8 o v).Oq an o:=by refine⟨λx hx=>?_,λb hb=>by simp[O8]at hb,λd hd=>by simpa[O8]using hd⟩;simp only[O8,List.mem_map]at hx;obtain⟨d,hd,rfl⟩:=hx;simp[writes,hd]
theorem eK.put {v:AV}(h:st'=st.put o.dst v)(h2:∀st2,iH an X o st st2->db E Γ an o st2 some=some (st2.put o.dst v)):eK E Γ an X o st st':=⟨KK o v,Iy v,by rw[xd];exact h,λst2 ha=>by rw[xd];exact h2 st2 ha⟩
theorem iH.rd (ha:iH an X o st st2)(hx:∀t∈tm x,t∈dL o):st2.rd x=st.rd x:=amZ ha.ep λt ht=>ha.get t (hx t ht)
theorem afW {c y:Operand}(ho:o.op=.pick c x y)(h:Ml o c x y st some=some st'):eK E Γ an X o st st':=by
 have hr:∀st2,iH an X o st st2->st2.rd c=st.rd c/\st2.rd x=st.rd x/\st2.rd y=st.rd y:=λst2 ha=>
  ⟨ha.rd (λt ht=>by simp[dL,ho,ht]),ha.rd (λt ht=>by simp[dL,ho,ht]),ha.rd (λt ht=>by simp[dL,ho,ht])⟩
 unfold Ml at h;split at h;rename_i t hc;split at h;rename_i a b hx hy;cases h;refine eK.put rfl λst2 ha=>?_;obtain⟨h1,h2,h3⟩:=hr st2 ha;simp only[db,ho,Ml,h1,h2,h3,hc,hx,hy];rename_i va vb M4;have hgo:∀st2,iH an X o st st2->db E Γ an o st2 some=cond t (some (st2.put o.dst (st.rd x))) (some (st2.put o.dst (st.rd y))):=by intro st2 ha;obtain⟨h1,h2,h3⟩:=hr st2 ha;simp only[db,ho,Ml,h1,h2,h3,hc]
 cases t with|true=>cases h;exact eK.put rfl λst2 ha=>hgo st2 ha|false=>cases h;exact eK.put rfl λst2 ha=>hgo st2 ha
 cases h
theorem Vu {d s:Nat}{v:AV}:(⟨[(d,v)],some (s,cs),none⟩:Q2).apply st=(st.eY s (some cs)).put (some d) v:=rfl
theorem Y9 {o:Oper}(h:ME an o=true):∃T q d,o.op=.load T (.tmp q)/\o.dst=some d/\o.guard=none/\an.mv.contains d=true/\an.mb d=none:=by unfold ME at h;split at h;rename_i T q d ho hd hg;simp only[ah,Option.isNone_iff_eq_none]at h;exact⟨T,q,d,ho,hd,hg,h.1.1,h.1.2⟩;cases h
def QV (st:AS)(b j t:Nat)(e:CT)(i:Int)(cs:ar AC)(ys:ar e.D):AS:=st.eY b (some (iO cs j (.sl (.fK (some t) i (some st.ep)) e ys)))
theorem Wl {q d:Nat}(ht:ME an o=true)(ho:o.op=.load T (.tmp q))(hd:o.dst=some d)(KX:an.mv.contains d=true)(Q3:an.mb d=none):(dH E an X o st=true/\sy E an o T (.tmp q) st some=some st')↔ ∃(g:Bool)(e:CT)(lA:ar (Nat×Nat))(b j t UC:Nat)(x:e.D)(i:Int)(cs:ar AC)(ys:ar e.D)(y:e.D),jR E.ty T=some ⟨g,e,lA⟩/\st.rd (.tmp q)=.val false [.Hy (.loc UC (some (.box b j,t))) e x i 0]/\(nth st.boxes b).getD none=some cs/\nth cs j=some (.sl (.own (some t)) e ys)/\idx ys i=some y/\ X.contains b=false/\an.eb q=some b/\fmB an o=false/\st'=(QV st b j t e i cs ys).put (some d) (.val g (cellsOf e (.own none) y)):=by
 have xv:MG an o=true:=by unfold MG;rw[hd];simp only[KX,Q3];rfl
 have Pf:Ix an o=false:=by unfold Ix;split;rename_i hd' _;rw[hd]at hd';cases hd';rw[Q3];simp;rfl
 have hnp:HY an o=false:=by unfold HY;split;rename_i hd' _;rw[hd]at hd';cases hd';rw[KX];rfl;rfl
 constructor;rintro⟨hf,h⟩;unfold sy at h;split at h;rename_i hp;simp only[dH,ho,hp,hd,KX,Q3]at hf;simp at hf;rename_i sh fl e x i off hT hp;rw[aM xv]at h;simp only[dH,ho,hp,ht,Pf,hnp,Bool.or_false,bz,ai,cB,gu,ah,aU]at hf;obtain⟨⟨ND,TM⟩,hb⟩:=hf;unfold Et at h;split at h;rename_i UC r t;cases r with
 |slot _ _=>cases hb
 |io _=>cases hb
 |box b j=>
  simp only[ah,bn,aU]at hb;split at h;rename_i t' e' ys hrg;split at h;rename_i he;subst he;split at h;rename_i hc;obtain⟨rfl,rfl,Sv⟩:=hc;obtain⟨g,ct,lA⟩:=sh;simp only at Sv;subst Sv;cases hi:idx ys i with|none=>simp only[hi,aa]at h;cases h|some y=>simp only[hi,aa]at h;cases h;simp only[AS.fi]at hrg;obtain⟨cs,Rn,hj⟩:=aX.1 hrg;refine⟨g,_,lA,b,j,_,UC,x,i,cs,ys,y,hT,hp,Rn,hj,hi,hb.2,hb.1,TM,?_⟩;simp only[AS.fC,Rn,hd];rfl
  cases h;cases h;cases h
 cases h;cases h;rintro⟨g,e,lA,b,j,t,UC,x,i,cs,ys,y,hT,hp,Rn,hj,hi,hX,ZQ,TM,rfl⟩;constructor;simp only[dH,ho,hp,ht,Pf,hnp,TM,hX,ZQ];simp;simp only[sy,hT,hp,xv,cd,Et,AS.fi,Rn,eU,hj,dite_true,and_self,hi,aa,AS.fC,hd];rfl
theorem acZ (ht:ME an o=true)(ho:o.op=.load T p)(gT:dH E an X o st=true)(h:sy E an o T p st some=some st'):eK E Γ an X o st st':=by obtain⟨T',q,d,Tl,hd,hg,KX,Q3⟩:=Y9 ht;rw[ho]at Tl;cases Tl;obtain⟨g,e,lA,b,j,t,UC,x,i,cs,ys,y,hT,hp,Rn,hj,hi,hX,ZQ,TM,rfl⟩:=(Wl ht ho hd KX Q3).1 ⟨gT,h⟩;refine⟨⟨[(d,.val g (cellsOf e (.own none) y))],some (b,iO cs j (.sl (.fK (some t) i (some st.ep)) e ys)),none⟩,⟨λx hx=>?_,λb' ib=>?_,λ_ hh=>by cases hh⟩,rfl,λst2 ha=>?_⟩;simp only[dA]at hx;subst hx;simp[writes,hd];cases ib;simp only[MI,ho,hd,KX,af,ht,ZQ];simp;have h2:=((Wl (E:=E) (X:=X) (st:=st2) ht ho hd KX Q3).2 ⟨g,e,lA,b,j,t,UC,x,i,cs,ys,y,hT,by rw[ha.rd (λt ht=>by simpa[dL,ho]using ht)];exact hp,by rw[ha.box b hX];exact Rn,hj,hi,hX,ZQ,TM,rfl⟩).2;simp only[db,ho];rw[h2];simp only[QV,ha.ep];rfl
theorem afU (ho:o.op=.load T p)(hm:qx an o=true)(gT:dH E an X o st=true)(h:sy E an o T p st some=some st'):eK E Γ an X o st st':=by
 cases hE:ME an o with|true=>exact acZ hE ho gT h|false=> ?_
 have hr:∀st2,iH an X o st st2->st2.rd p=st.rd p:=λst2 ha=>ha.rd (λt ht=>by simpa[dL,ho]using ht);have xv:MG an o=false:=by simp only[qx,ho,hE,Bool.or_false]at hm;unfold MG;cases ZP:o.dst with|none=>rfl|some d=>rw[ZP]at hm;simp only[dy,aU]at hm;rcases hm with hm|hm;simp only[hm,gI];cases Q3:an.mb d with|none=>rw[Q3]at hm;cases hm|some _=>simp[Q3]
 unfold sy at h;split at h;rename_i sh s off hT hp;simp only[dH,ho,hp,ah,aU]at gT;split at h;rename_i cs hb;split at h;rename_i iy;split at h;rename_i d hd;have kR:∀st2,iH an X o st st2->nth st2.boxes s=nth st.boxes s:=λst2 ha=>ha.box s gT.1.1;cases hf:an.mv.contains d with
 |false=>simp only[hf,bg,cD]at h;cases h;refine eK.put (by rw[hd]) λst2 ha=>?_;simp only[db,ho,sy,hT,hr st2 ha,hp,kR st2 ha,hb,aM iy,hd,hf,bg,cD,ha.ep]
 |true=>
  simp only[hf,cd]at h;have Q3:an.mb d=some s:=by have:=gT.1.2;rw[hd]at this;simp only[hf,ai,cB,bn]at this;exact this
  cases h;refine⟨⟨[(d,.val sh.agg ((cs.drop off).take sh.ct.size))],some (s,du cs off (bc st.ep ((cs.drop off).take sh.ct.size))),none⟩,⟨λx hx=>?_,λb ib=>?_,λ_ hh=>by cases hh⟩,?_,λst2 ha=>?_⟩;simp only[dA]at hx;subst hx;simp[writes,hd];cases ib;simp only[MI,ho,hd,hf,af,Q3];simp;rw[Vu,hd];simp only[db,ho,sy,hT,hr st2 ha,hp,kR st2 ha,hb,aM iy,hd,hf,cd,ha.ep,Vu]
 cases h;cases h;cases h;rename_i sh fl e x i off hT hp;rw[aK (by simp[xv])]at h;split at h;rename_i hl;split at h;rename_i iy;cases h;refine eK.put rfl λst2 ha=>?_;simp only[db,ho,sy,hT,hr st2 ha,hp,ha.ep,xv,bg,cD,aM hl,aM iy];cases h;rename_i hl;have NS:∀r t UC,fl=.loc UC (some (r,t))->∀st2,iH an X o st st2->st2.fi r=st.fi r:=by rintro r t UC rfl st2 ha;simp only[dH,ho,hp,hE,bz,jy,gu,ah,dy]at gT;rcases gT.1.1 with hq|hq;exact absurd hq hl;cases r with|slot b j=>simp only[AS.fi];rw[ha.er b (by simpa using hq)]|box b j=>simp only[AS.fi];rw[ha.box b (by simpa using hq)]|io j=>cases hq
 unfold Ky at h;split at h;rename_i UC r t;split at h;rename_i t' e' ys hrg;split at h;rename_i he;split at h;rename_i hc;cases hi:idx (he▸ys:List _) i with|none=>rw[hi]at h;cases h|some y=>rw[hi]at h;simp only[aa]at h;cases h;refine eK.put rfl λst2 ha=>?_;simp only[db,ho,sy,hT,hr st2 ha,hp,ha.ep,xv,bg,cD,aK hl,Ky,NS _ _ _ rfl st2 ha,hrg,dif_pos he,aM hc,hi,aa]
 cases h;cases h;cases h;cases h;cases h
theorem Vx (ho:o.op=.nilCheck x)(h:db E Γ an o st some=some st'):eK E Γ an X o st st':=by have hr:∀st2,iH an X o st st2->st2.rd x=st.rd x:=λst2 ha=>ha.rd (λt ht=>by simpa[dL,ho]using ht);simp only[db,ho]at h;split at h;rename_i s off hx;cases h;refine eK.put rfl λst2 ha=>?_;simp only[db,ho,hr st2 ha,hx];rename_i fl e y i off hx;cases h;refine eK.put rfl λst2 ha=>?_;simp only[db,ho,hr st2 ha,hx];cases h
theorem Wx {op:BinOp}{x y:AV}(h:(Ny op x y λc=>some (st.put o.dst (.one c)))=some st'):∃v,st'=st.put o.dst v/\∀st2:AS,(Ny op x y λc=>some (st2.put o.dst (.one c)))=some (st2.put o.dst v):=by have key:∀s:AS,(Ny op x y λc=>some (s.put o.dst (.one c)))=(Ny op x y some).bind λc=>some (s.put o.dst (.one c)):=λs=>(MQ op x y some _).symm;rw[key st]at h;cases hb:Ny op x y some with|none=>rw[hb]at h;cases h|some c=>rw[hb]at h;cases h;exact⟨_,rfl,λst2=>by rw[key st2,hb];rfl⟩
theorem Zf {op:BinOp}{b:Bool}(h:(KU op b λc=>some (st.put o.dst (.one c)))=some st'):∃v,st'=st.put o.dst v/\∀st2:AS,(KU op b λc=>some (st2.put o.dst (.one c)))=some (st2.put o.dst v):=by unfold KU at h;split at h;cases h;exact⟨_,rfl,λst2=>rfl⟩;cases h;exact⟨_,rfl,λst2=>rfl⟩;cases h
theorem ajv {op:BinOp}{T':TypeId}{y:Operand}(ho:o.op=.binOp op T x y T')(h:Hu E o op T x y st some=some st'):eK E Γ an X o st st':=by
 have hr:∀st2,iH an X o st st2->st2.rd x=st.rd x/\st2.rd y=st.rd y:=λst2 ha=>
  ⟨ha.rd (λt ht=>by simp[dL,ho,ht]),ha.rd (λt ht=>by simp[dL,ho,ht])⟩
 unfold Hu at h;split at h;rename_i a b hx hy;split at h;rename_i hT;obtain⟨v,rfl,hv⟩:=Wx h;refine eK.put rfl λst2 ha=>?_;simp only[db,ho,Hu,(hr st2 ha).1,(hr st2 ha).2,hx,hy,aM hT];exact hv st2;cases h;rename_i xs ys hx hy;split at h;rename_i ls hq;split at h;rename_i iy;obtain⟨v,rfl,hv⟩:=Wx h;refine eK.put rfl λst2 ha=>?_;simp only[db,ho,Hu,(hr st2 ha).1,(hr st2 ha).2,hx,hy,hq,aM iy];exact hv st2;cases h;cases h;rename_i fl e xs hx hy;split at h;rename_i hT;split at h;cases h;rename_i hlen;obtain⟨v,rfl,hv⟩:=Zf h;refine eK.put rfl λst2 ha=>?_;simp only[db,ho,Hu,(hr st2 ha).1,(hr st2 ha).2,hx,hy,ha.ep,aM hT,aK hlen];exact hv st2;cases h;rename_i hx hy;split at h;rename_i hT;obtain⟨v,rfl,hv⟩:=Zf h;refine eK.put rfl λst2 ha=>?_;simp only[db,ho,Hu,(hr st2 ha).1,(hr st2 ha).2,hx,hy,aM hT];exact hv st2;cases h;rename_i a b Hq C1 hn3 hn4;obtain⟨v,rfl,hv⟩:=Wx h;refine eK.put rfl λst2 ha=>?_;simp only[db,ho,Hu,(hr st2 ha).1,(hr st2 ha).2];exact hv st2
theorem amI {op:UnOp}(ho:o.op=.unOp op T x)(h:(unC op (st.rd x) λc=>some (st.put o.dst (.one c)))=some st'):eK E Γ an X o st st':=by have hr:∀st2,iH an X o st st2->st2.rd x=st.rd x:=λst2 ha=>ha.rd (λt ht=>by simpa[dL,ho]using ht);have key:∀s:AS,(unC op (st.rd x) λc=>some (s.put o.dst (.one c)))=(unC op (st.rd x) some).bind λc=>some (s.put o.dst (.one c)):=λs=>(aej op (st.rd x) some _).symm;rw[key st]at h;cases hb:unC op (st.rd x) some with|none=>rw[hb]at h;cases h|some c=>rw[hb]at h;cases h;refine eK.put rfl λst2 ha=>?_;simp only[db,ho,hr st2 ha];rw[key st2,hb];rfl
theorem acV {S:TypeId}{f:Nat}(ho:o.op=.fieldAddr S p f)(h:Gr E o S p f st some=some st'):eK E Γ an X o st st':=by have hr:∀st2,iH an X o st st2->st2.rd p=st.rd p:=λst2 ha=>ha.rd (λt ht=>by simpa[dL,ho]using ht);unfold Gr at h;split at h;rename_i hT hp;split at h;rename_i hf;cases h;refine eK.put rfl λst2 ha=>?_;simp only[db,ho,Gr,hr st2 ha,hT,hp,hf];cases h;rename_i hT hp;split at h;rename_i hf;cases h;refine eK.put rfl λst2 ha=>?_;simp only[db,ho,Gr,hr st2 ha,hT,hp,hf];cases h;cases h
theorem F5 {v:AV}{s:AS}(h:v.now s.ep=true):v.fresh s=v:=by
 cases v with
 |zU vs=>rfl
 |val g cs=>
  simp only[AV.now,aO]at h;simp only[AV.fresh];congr 1;have:cs.map s.fresh=cs.map id:=List.map_congr_left λc hc=>by have hn:=h c hc;unfold AS.fresh;split;simp only[AC.now]at hn;rw[hn];rfl;rfl
  rw[this,List.map_id]
theorem abS {v:AV}{st st2:AS}(he:st2.ep=st.ep)(h:v.now st.ep=true\/∃g ep b j t e xs,v=.val g [.sl (.loc ep (some (.box b j,t))) e xs]/\nth st2.boxes b=nth st.boxes b):v.fresh st2=v.fresh st:=by rcases h with h|⟨g,ep,b,j,t,e,xs,rfl,hb⟩;rw[F5 h,F5 (by rw[he];exact h)];simp only[AV.fresh,ei,List.map_nil];congr 2;unfold AS.fresh;simp only[AS.fi,he,hb]
theorem Tq {i:Operand}(ho:o.op=.indexAddr T x i)(gT:dH E an X o st=true)(h:oL E o T x i st some=some st'):eK E Γ an X o st st':=by
 have hr:∀st2,iH an X o st st2->st2.rd x=st.rd x/\st2.rd i=st.rd i:=λst2 ha=>
  ⟨ha.rd (λt ht=>by simp[dL,ho,ht]),ha.rd (λt ht=>by simp[dL,ho,ht])⟩
 have Jn:∀st2,iH an X o st st2->(st.rd x).fresh st2=(st.rd x).fresh st:=λst2 ha=>by refine abS ha.ep ?_;simp only[dH,ho,dy]at gT;rcases gT with hn|hn;exact .inl hn;split at hn;rename_i g ep b j t e xs hx;exact .inr ⟨g,ep,b,j,t,e,xs,hx,ha.box b (by simpa using hn)⟩;cases hn
 unfold oL at h;split at h;rename_i e' fl e xs k n hT hx hi;split at h;rename_i hc;cases JI:idx xs n with|none=>rw[JI]at h;cases h|some y=>rw[JI]at h;cases h;refine eK.put rfl λst2 ha=>?_;have hf3:=Jn st2 ha;rw[hx]at hf3;simp only[db,ho,oL,(hr st2 ha).1,(hr st2 ha).2,hf3,hT,hi,ha.ep,aM hc,JI,aa]
 cases h;cases h
theorem acW {i:Operand}(ho:o.op=.index T x i)(h:Ik E o T x i st some=some st'):eK E Γ an X o st st':=by
 have hr:∀st2,iH an X o st st2->st2.rd x=st.rd x/\st2.rd i=st.rd i:=λst2 ha=>
  ⟨ha.rd (λt ht=>by simp[dL,ho,ht]),ha.rd (λt ht=>by simp[dL,ho,ht])⟩
 unfold Ik at h;split at h;rename_i s k n hx hi;split at h;rename_i hc;cases JI:idx s n with|none=>rw[JI]at h;cases h|some y=>rw[JI]at h;cases h;refine eK.put rfl λst2 ha=>?_;simp only[db,ho,Ik,(hr st2 ha).1,(hr st2 ha).2,hx,hi,aM hc,JI,aa]
 cases h;cases h
theorem eK.new {v:AV}(h:st'=(st.fQ o.dst).put o.dst v)(h2:∀st2,iH an X o st st2->db E Γ an o st2 some=some ((st2.fQ o.dst).put o.dst v)):eK E Γ an X o st st':=⟨O8 o v,Xr v,by rw[QY];exact h,λst2 ha=>by rw[QY];exact h2 st2 ha⟩
theorem iH.iZ (ha:iH an X o st st2):st2.iZ o.dst=st.iZ o.dst:=by funext j;cases hd:o.dst with|none=>rfl|some d=>simp only[AS.iZ,(ha.dst d hd).1]
theorem Qh {lo hi:au Operand}{n:Nat}{f:AS->Int->Int->au AS}(hs:∀st2,iH an X o st st2->lo.map st2.rd=lo.map st.rd/\hi.map st2.rd=hi.map st.rd)(h:pa st lo hi n (f st)=some st'):∃a b,f st a b=some st'/\∀st2,iH an X o st st2->pa st2 lo hi n (f st2)=f st2 a b:=by unfold pa at h;split at h;rename_i h1 h2;exact⟨_,_,h,λst2 ha=>by simp only[pa,(hs st2 ha).1,(hs st2 ha).2,h1,h2]⟩;rename_i h1 h2;exact⟨_,_,h,λst2 ha=>by simp only[pa,(hs st2 ha).1,(hs st2 ha).2,h1,h2]⟩;rename_i h1 h2;exact⟨_,_,h,λst2 ha=>by simp only[pa,(hs st2 ha).1,(hs st2 ha).2,h1,h2]⟩;rename_i h1 h2;exact⟨_,_,h,λst2 ha=>by simp only[pa,(hs st2 ha).1,(hs st2 ha).2,h1,h2]⟩;cases h
theorem acX {lo hi:au Operand}(ho:o.op=.slice T x lo hi none)(hm:qx an o=true)(gT:dH E an X o st=true)(h:Hg E an o T x lo hi st some=some st'):eK E Γ an X o st st':=by
 have hr:∀st2,iH an X o st st2->st2.rd x=st.rd x:=λst2 ha=>ha.rd (λt ht=>by simp[dL,ho,ht]);have hb:∀st2,iH an X o st st2->lo.map st2.rd=lo.map st.rd/\hi.map st2.rd=hi.map st.rd:=by
  intro st2 ha;constructor;cases lo with|none=>rfl|some y=>simp only[dz];rw[ha.rd (λt ht=>by simp[dL,ho,tmO,ht])]
  cases hi with|none=>rfl|some y=>simp only[dz];rw[ha.rd (λt ht=>by simp[dL,ho,tmO,ht])]
 have L1:(st.rd x).now st.ep=true:=by simpa[dH,ho]using gT
 have Jn:∀st2,iH an X o st st2->(st.rd x).fresh st2=st.rd x:=λst2 ha=>F5 (by rw[ha.ep];exact L1);have xv:MG an o=false:=by simpa[qx,ho]using hm
 unfold Hg at h;rw[aK (by simp[xv]),F5 L1]at h;split at h;rename_i s hx;split at h;rename_i hT;obtain⟨a,b,h1,h2⟩:=Qh (f:=λs0 a b=>aa (sub s a b) λs'=>some (s0.put o.dst (.one (.str s')))) hb h;cases th:sub s a b with|none=>rw[th]at h1;cases h1|some s'=>rw[th]at h1;cases h1;refine eK.put rfl λst2 ha=>?_;have hf3:=Jn st2 ha;rw[hx]at hf3;simp only[db,ho,Hg,xv,bg,cD,hr st2 ha,hx,hf3,aM hT];rw[h2 st2 ha,th];rfl
 cases h;rename_i fl e xs hx;split at h;rename_i hT;obtain⟨a,b,h1,h2⟩:=Qh (f:=λs0 a b=>aa (sub xs a b) λWI=>some (s0.put o.dst (.one (.sl (VE an o fl a) e WI)))) hb h;cases th:sub xs a b with|none=>rw[th]at h1;cases h1|some s'=>rw[th]at h1;cases h1;refine eK.put rfl λst2 ha=>?_;have hf3:=Jn st2 ha;rw[hx]at hf3;simp only[db,ho,Hg,xv,bg,cD,hr st2 ha,hx,hf3,ha.ep,aM hT];rw[h2 st2 ha,th];rfl
 cases h;cases h
theorem Ot {args:ar Operand}(hl:∀t,t∈Xo args->t∈dL o)(ha:iH an X o st st2):args.map st2.rd=args.map st.rd:=by apply List.map_congr_left;intro x hx;exact ha.rd (λt ht=>hl t (by simp only[Xo,List.mem_flatMap];exact⟨x,hx,ht⟩))
theorem ajx (ho:o.op=.call {callee:=.builtin .len,args,argTypes:=ts})(h:Vt E o ts.toList args.toList st some=some st'):eK E Γ an X o st st':=by have hr:∀st2,iH an X o st st2->args.toList.map st2.rd=args.toList.map st.rd:=λst2 ha=>Ot (λt ht=>by simp only[dL,ho];exact ht) ha;unfold Vt at h;split at h;rename_i t s uH hx;split at h;rename_i hT;cases h;refine eK.put rfl λst2 ha=>?_;simp only[db,ho,Vt,hr st2 ha,uH,hx,aM hT];cases h;rename_i t _ _ xs uH hx;split at h;rename_i hT;cases h;refine eK.put rfl λst2 ha=>?_;simp only[db,ho,Vt,hr st2 ha,uH,hx,aM hT];cases h;cases h
theorem ajz (ho:o.op=.call {callee:=.builtin .min,args,argTypes:=ts})(h:W5 o args.toList st some=some st'):eK E Γ an X o st st':=by have hr:∀st2,iH an X o st st2->args.toList.map st2.rd=args.toList.map st.rd:=λst2 ha=>Ot (λt ht=>by simp only[dL,ho];exact ht) ha;unfold W5 at h;split at h;rename_i hx;cases h;refine eK.put rfl λst2 ha=>?_;simp only[db,ho,W5,hr st2 ha,hx];cases h
theorem ajy (ho:o.op=.call {callee:=.builtin .max,args,argTypes:=ts})(h:W4 o args.toList st some=some st'):eK E Γ an X o st st':=by have hr:∀st2,iH an X o st st2->args.toList.map st2.rd=args.toList.map st.rd:=λst2 ha=>Ot (λt ht=>by simp only[dL,ho];exact ht) ha;unfold W4 at h;split at h;rename_i hx;cases h;refine eK.put rfl λst2 ha=>?_;simp only[db,ho,W4,hr st2 ha,hx];cases h
theorem ajp {l:ec}{c:AC}(h:c.am9 l=true)(hl:∀t∈l,st2.get t=st.get t):st2.W2 c=st.W2 c:=by
 cases c with
 |sl fl e xs=>
  cases fl with
  |loc ep pv=>cases pv with|none=>rfl|some q=>obtain⟨r,t⟩:=q;cases r with|slot b j=>have hb:st2.get b=st.get b:=hl b (by simpa[AC.am9]using h);simp only[AS.W2,AS.fi,hb]|box _ _=>rfl|io _=>rfl
  |_=>rfl
 |_=>rfl
theorem afM {l:ec}(hx:Qu l st x=true)(hl:∀t∈l,st2.get t=st.get t)(h:∀t∈tm x,st2.get t=st.get t):HW st2 x=HW st x/\I1 st2 x=I1 st x:=by
 cases x with
 |tmp t=>have ht:=h t (by simp[tm]);simp only[Qu]at hx;cases hg:st.get t with|zU vs=>exact⟨by simp only[HW,ht,hg],by simp only[I1,ht,hg]⟩|val g cs=>rw[hg]at hx;have hm:cs.map st2.W2=cs.map st.W2:=List.map_congr_left λc hc=>ajp (aO.1 hx c hc) hl;exact⟨by simp only[HW,ht,hg,hm],by simp only[I1,ht,hg,hm]⟩
 |const v=>exact⟨rfl,rfl⟩
 |func f=>exact⟨rfl,rfl⟩
 |global g=>exact⟨rfl,rfl⟩
theorem W6 (ho:o.op=.call {callee:=.value f,args,argTypes:=ts})(gT:dH E an X o st=true){k:Nat}(hf:st.rd f=.val false [.fn k])(kR:(Γ k).bx=true)(hcur:(Γ k).cur=true)(h:zZ Γ o k args.toList st some=some st'):eK E Γ an X o st st':=by
 unfold zZ at h;split at h;rename_i x0 xs fJ;split at h;rename_i s hx0;have iw:yj an X (erS an o) st (x0::xs)=true:=by have h1:=gT;simp only[dH,ho,ah]at h1;rw[<-fJ];exact h1.1
 have hx1:∃q,x0=.tmp q/\X.contains s=false/\an.sb q=some s/\(match (nth st.boxes s).getD none with|some cs=>cs.all AC.Ph|none=>true)=true/\xs.all (Qu (erS an o) st)=true:=by cases x0 with|tmp q=>simp only[yj,hx0,ak2,ah,aU,bn]at iw;exact⟨q,rfl,iw.1.1.1,iw.1.1.2,iw.1.2,iw.2⟩|const v=>simp only[yj,hx0,AV.ahI]at iw;cases iw|func v=>simp only[yj,hx0,AV.ahI]at iw;cases iw|global v=>simp only[yj,hx0,AV.ahI]at iw;cases iw
 obtain⟨q,rfl,hX,hsb,Ln,HE⟩:=hx1;split at h;rename_i cs U2;rw[U2]at Ln;simp only at Ln;cases hc:(cs.all (AC.EZ (KQ cs))&&xs.all (I1 st))with
 |false=>rw[hc]at h;cases h
 |true=>
  rw[hc]at h;simp only[af]at h;cases fL:(Γ k).fn (.val true (cs.map AC.aaU)::xs.map (HW st))with
  |none=>rw[fL]at h;cases h
  |some y=>
   rw[fL]at h;simp only[aa]at h;cases hc2:(((Γ k).back y).all (AC.EZ true)&&((Γ k).av y).ajC)with
   |false=>rw[hc2]at h;cases h
   |true=>
    rw[hc2]at h;simp only[af,hcur,Ln,cA,bf]at h;subst h;refine⟨⟨o.dst.toList.map λd=>(d,((Γ k).av y).KR st.ep (st.iZ o.dst)),some (s,sM (KQ cs) (λ_=>none) 0 ((Γ k).back y)),o.dst⟩,⟨λx hx=>?_,λb hb=>?_,λd hd=>hd⟩,?_,λst2 ha=>?_⟩;simp only[List.mem_map]at hx;obtain⟨d,hd,rfl⟩:=hx;simp[writes,hd];cases hb;simp[MI,ho,fJ,hsb];unfold Q2.apply AS.put AS.fQ AS.eY;cases o.dst<;>rfl;have e1:st2.rd f=st.rd f:=ha.rd (λt ht=>by simp[dL,ho,ht]);have hl:∀x∈Operand.tmp q::xs,∀t∈tm x,t∈dL o:=by intro x hx t ht;simp only[dL,ho,aA,Xo,List.mem_flatMap,fJ];exact .inr ⟨x,hx,ht⟩
    have e2:st2.rd (.tmp q)=st.rd (.tmp q):=ha.rd (hl _ (by simp));have e3:nth st2.boxes s=nth st.boxes s:=ha.box s hX;have e4:∀x∈xs,HW st2 x=HW st x/\I1 st2 x=I1 st x:=λx hx=>afM (aO.1 HE x hx) ha.er λt ht=>ha.get t (hl x (by simp[hx]) t ht);have e5:xs.map (HW st2)=xs.map (HW st):=List.map_congr_left λx hx=>(e4 x hx).1;have e6:xs.all (I1 st2)=xs.all (I1 st):=by rw[dQ];simp only[aO];exact⟨λg x hx=>by rw[<-(e4 x hx).2];exact g x hx,λg x hx=>by rw[(e4 x hx).2];exact g x hx⟩
    simp only[db,ho,KS,e1,hf,kR,af,zZ,fJ,e2,hx0,e3,U2,e5,e6,hc,fL,aa,hc2,hcur,Ln,cA,ha.ep,ha.iZ];unfold Q2.apply AS.put AS.fQ AS.eY;cases o.dst<;>rfl
 cases h;cases h;cases h
theorem afT (Ey:∀f,(Γ f).io=false/\((Γ f).bx=true->(Γ f).cur=true)/\(Γ f).pr=false)(ho:o.op=.call {callee:=.value f,args,argTypes:=ts})(gT:dH E an X o st=true)(h:KS Γ o f args.toList st some=some st'):eK E Γ an X o st st':=by
 have hr:∀st2,iH an X o st st2->st2.rd f=st.rd f/\(args.toList.map λx=>((st2.rd x).fresh st2).asArg st2.ep)=args.toList.map λx=>((st.rd x).fresh st).asArg st.ep:=by
  intro st2 ha;refine⟨ha.rd (λt ht=>by simp[dL,ho,ht]),?_⟩;apply List.map_congr_left;intro x hx;have L1:(st.rd x).now st.ep=true:=by simp only[dH,ho,ah,aO]at gT;exact gT.2 x hx
  rw[ha.rd (λt ht=>by simp only[dL,ho,aA,Xo,List.mem_flatMap];exact .inr ⟨x,hx,ht⟩),F5 L1,F5 (s:=st2) (by rw[ha.ep];exact L1),ha.ep]
 unfold KS at h;split at h
 ·rename_i k hf
  cases kR:(Γ k).bx with
  |true=>rw[kR]at h;exact W6 ho gT hf kR ((Ey k).2.1 kR) h
  |false=>
  rw[kR,(Ey k).2.2,(Ey k).1]at h
  simp only[ae]at h
  cases hg:(Γ k).fn (args.toList.map λx=>((st.rd x).fresh st).asArg st.ep)with
  |none=>rw[hg]at h;cases h
  |some y=>
   rw[hg]at h
   simp only[aa]at h
   cases WW:(Γ k).sel y with
   |true=>
    rw[WW]at h
    cases h
    refine eK.new rfl λst2 ha=>?_
    simp only[db,ho,KS,(hr st2 ha).1,hf,(Ey k).1,kR,(Ey k).2.2,ae]
    rw[(hr st2 ha).2,hg]
    simp only[aa,WW,af,ha.ep,ha.iZ]
   |false=>
    rw[WW]at h
    cases h
    refine eK.new rfl λst2 ha=>?_
    simp only[db,ho,KS,(hr st2 ha).1,hf,(Ey k).1,kR,(Ey k).2.2,ae]
    rw[(hr st2 ha).2,hg]
    simp only[aa,WW,ae,ha.ep,ha.iZ]
 cases h
theorem W7 {src dst:TypeId}(ho:o.op=.convert src dst x)(h:nL E o src dst x st some=some st'):eK E Γ an X o st st':=by
 have hr:∀st2,iH an X o st st2->st2.rd x=st.rd x:=λst2 ha=>ha.rd (λt ht=>by simpa[dL,ho]using ht);unfold nL at h;split at h;rename_i h1 h2 h3;cases h;refine eK.put rfl λst2 ha=>?_;simp only[db,ho,nL,hr st2 ha,h1,h2,h3];rename_i h1 h2 h3;cases h;refine eK.put rfl λst2 ha=>?_;simp only[db,ho,nL,hr st2 ha,h1,h2,h3];rename_i lA val s M4 h1 h2 h3;split at h;rename_i hb;unfold room at h;split at h;rename_i hrm;cases h;refine eK.new (v:=.one (.sl (.own (st.iZ o.dst 0)) (.int .u8) (da s))) rfl λst2 ha=>?_;have NG:∀k:AS->au AS,nL E o src dst x st2 k=if E.bytes dst then room s.length (k (st2.ti o.dst (.int .u8) (da s))) else none:=by intro k;unfold nL;rw[hr st2 ha,h1,h2,h3];obtain⟨ag,ct,of⟩:=val;cases ag with|true=>rfl|false=>cases ct with|str=>exact(M4 _ rfl).elim|_=>rfl
 simp only[db,ho];rw[NG,aM hb,room,aM hrm,AS.ti,ha.iZ];cases h;cases h;rename_i val lA fl xs h1 h2 h3;split at h;rename_i hb;cases h;refine eK.put rfl λst2 ha=>?_;have NG:∀k:AS->au AS,nL E o src dst x st2 k=if E.bytes src/\fl.live st2.ep then k (st2.put o.dst (.one (.str (aS xs)))) else none:=by intro k;unfold nL;rw[hr st2 ha,h1,h2,h3];obtain⟨ag,ct,of⟩:=val;cases ag with|true=>rfl|false=>cases ct<;>rfl
 simp only[db,ho];rw[NG,ha.ep,aM hb];cases h;cases h
theorem Sj {d:Nat}{v:AV}:(⟨[(d,v)],some (d,cs),none⟩:Q2).apply st=(st.eY d (some cs)).put (some d) v:=rfl
theorem acT (ho:o.op=.alloc T)(h:Jq E o T st some=some st'):eK E Γ an X o st st':=by unfold Jq at h;split at h;rename_i d sh hd hT;split at h;rename_i hb;cases h;refine⟨⟨[(d,.one (.ptr d 0))],some (d,cellsOf sh.ct (.own none) sh.ct.zero),none⟩,⟨λx hx=>?_,λb ib=>?_,λ_ hh=>by cases hh⟩,?_,λst2 ha=>?_⟩;simp only[dA]at hx;subst hx;simp[writes,hd];cases ib;simp[MI,ho,hd];rw[Sj,hd];simp only[db,ho,Jq,hd,hT,(ha.dst d hd).2,hb,Sj];cases h;cases h
def rh (st:AS):Operand->ar (Nat×AV)
 | .tmp t=>[(t,(st.get t).bc st.ep)]
 |_=>[]
theorem Ir (l:ar AV)(a b:ar (Nat×AV)):lC l (a++b)=lC (lC l a) b:=by induction a generalizing l with|nil=>rfl|cons x a ih=>exact ih _
def AS.lN (st:AS)(l:ar (Nat×AV)):AS:={st with slots:=lC st.slots l}
theorem vl (a b:ar (Nat×AV)):st.lN (a++b)=(st.lN a).lN b:=by simp only[AS.lN,Ir]
theorem Ji (x:Operand):(st.take x).2=st.lN (rh st x):=by cases x<;>rfl
theorem KG (Ck:st2.ep=st.ep)(h:∀t∈tm x,st2.get t=st.get t):(st2.take x).1=(st.take x).1/\(st2.take x).2=st2.lN (rh st x):=by cases x with|tmp t=>have:=h t (by simp[tm]);refine⟨this,?_⟩;rw[Ji];simp only[rh,this,Ck]|const v=>exact⟨rfl,rfl⟩|func f=>exact⟨rfl,rfl⟩|global g=>exact⟨rfl,rfl⟩
theorem QW:∀y∈rh st x,y.1∈tm x:=by cases x<;>simp[rh,tm]
theorem afV (ho:o.op=.move x)(h:I5 an o x st some=some st'):eK E Γ an X o st st':=by
 unfold I5 at h;cases hd:o.dst with
 |none=>rw[hd]at h;cases h
 |some d=>
  rw[hd]at h;cases hf:an.mv.contains d with
  |false=>simp only[hf,bg,cD]at h;cases h;refine eK.put (v:=st.rd x) (by rw[hd]) λst2 ha=>?_;have hr:st2.rd x=st.rd x:=ha.rd (λt ht=>by simpa[dL,ho]using ht);simp only[db,ho,I5,hd,hf,bg,cD,hr]
  |true=>
   simp only[hf,cd]at h;cases h;have hr:∀st2,iH an X o st st2->(st2.take x).1=(st.take x).1/\(st2.take x).2=st2.lN (rh st x):=λst2 ha=>KG ha.ep λt ht=>ha.get t (by simpa[dL,ho]using ht);refine⟨⟨rh st x++[(d,(st.take x).1)],none,none⟩,⟨λy hy=>?_,λ_ hh=>(by cases hh),λ_ hh=>(by cases hh)⟩,?_,λst2 ha=>?_⟩;rcases aA.1 hy with hy|hy;have:=QW y hy;have hf':d∈an.mv:=by simpa using hf
   simp[writes,MF,ho,hd,hf',dL,this];simp only[dA]at hy;subst hy;simp[writes,hd];rw[Ji];show _=st.lN _;rw[vl];rfl;simp only[db,ho,I5,hd,hf,cd,(hr st2 ha).1,(hr st2 ha).2];show some ((st2.lN (rh st x)).put (some d) (st.take x).1)=some (st2.lN _);rw[vl];rfl
theorem abM {ep:Nat}(h:cs.all AC.gZ=true):bc ep cs=cs:=by
 rw[aO]at h;unfold bc;have:cs.map (AC.borrow ep none)=cs.map id:=List.map_congr_left λc hc=>by have:=h c hc;cases c<;>first|rfl|(simp[AC.gZ]at this)
 rw[this,List.map_id]
theorem aoP {s:AS}{vs:ar (Bool×ar AC)}(h:s.get t=.zU vs):s.put (some t) (.zU vs)=s:=by cases s with|mk slots boxes ep iss io=>simp only[AS.put,AS.mk.injEq,iV];rw[fD];apply cU;intro i;rw[bt];split;rename_i hd;subst hd;simp only[AS.get,dV]at h;split;rename_i iG;rw[al iG]at h⊢;simp only[fT]at h;rw[h];rename_i Fe;rw[bJ (Nat.le_of_not_lt Fe)];rfl
theorem W8 {i:Nat}(ho:o.op=.extract (.tmp t) i)(gT:dH E an X o st=true)(h:nN o t i st some=some st'):eK E Γ an X o st st':=by
 have hr:∀st2,iH an X o st st2->st2.get t=st.get t:=λst2 ha=>ha.get t (by simp[dL,ho]);unfold nN at h;simp only[dH,ho]at gT;split at h
 ·rename_i vs hv;rw[hv]at gT;split at h
  ·rename_i g cs hn;simp only[hn]at gT;have hfl:cs.all AC.gZ=true\/∃d,o.dst=some d/\an.mv.contains d=true:=by cases hd:o.dst with|none=>simp only[hd,Bool.or_false]at gT;exact .inl gT|some d=>simp only[hd,dy]at gT;rcases gT with h|h;exact .inl h;exact .inr ⟨d,rfl,h⟩
   rcases hfl with gT|⟨d,hd,KX⟩;rotate_left;cases h;refine⟨⟨[(t,.zU (iO vs i (g,bc 0 cs))),(d,.val g cs)],none,none⟩,⟨λx hx=>?_,(λ_ hb=>by cases hb),(λ_ hh=>by cases hh)⟩,?_,λst2 ha=>?_⟩;simp only[cp,List.not_mem_nil,or_false]at hx;rcases hx with rfl|rfl;simp only[writes,MF,ho,hd,KX,af,dL];simp;simp only[writes,hd];simp;rw[hd];rfl;have h2:st2.get t=.zU vs:=by rw[hr st2 ha,hv]
   simp only[db,ho,nN,h2,hn,hd];rfl;skip;have Ih:iO vs i (g,cs)=vs:=by rw[fD];rw[dV]at hn;apply cU;intro k;rw[bt];split;rename_i hk;subst hk;obtain⟨hl,he⟩:=aJ.1 hn;rw[aM hl,hn];rfl
   have key:∀s:AS,s.get t=.zU vs->(s.put (some t) (.zU (iO vs i (g,bc 0 cs))))=s:=λs hs=>by rw[abM gT,Ih,aoP hs]
   rw[key st hv]at h;cases h;refine eK.put rfl λst2 ha=>?_;have h2:st2.get t=.zU vs:=by rw[hr st2 ha,hv]
   simp only[db,ho,nN,h2,hn];rw[key st2 h2]
  cases h
 cases h
def FY (st:AS):Operand->ar (Nat×AV)
 | .tmp t=>[(t,(st.get t).bc st.ep)]
 |_=>[]
theorem Wo (st:AS)(x:Operand):(st.take x).2=⟨lC st.slots (FY st x),st.boxes,st.ep,st.iss,st.io⟩:=by cases x<;>rfl
theorem acY {pp:Nat}(ho:o.op=.store T (.tmp pp) x)(hd:o.dst=none)(hm:qx an o=true)(gT:dH E an X o st=true)(h:CR E T (.tmp pp) x st some=some st'):eK E Γ an X o st st':=by
 have hr:∀st2,iH an X o st st2->st2.rd (.tmp pp)=st.rd (.tmp pp):=λst2 ha=>ha.rd (λt ht=>by simp only[dL,ho,aA];exact .inl ht);have hsb:(an.sb pp).isNone=false:=by simp only[qx,ho,ah]at hm;cases hb:an.sb pp with|none=>rw[hb]at hm;cases hm.1|some _=>rfl
 simp only[dH,ho,hsb,gI,cB]at gT;unfold CR at h;split at h;rename_i sh s off hT hp;rw[hp]at gT;simp only[ah,aU,bn]at gT;split at h;rename_i gg vs st1 xv;have Z0:(st.take x).1=.val gg vs:=by rw[xv]
 have L4:st1=⟨lC st.slots (FY st x),st.boxes,st.ep,st.iss,st.io⟩:=by rw[<-Wo,xv]
 split at h;rename_i cs hb;split at h;rename_i hlen;split at h;rename_i iy;cases h;have kR:∀st2,iH an X o st st2->nth st2.boxes s=nth st.boxes s:=λst2 ha=>ha.box s gT.1;refine⟨⟨FY st x,some (s,du cs off vs),none⟩,⟨λy hy=>?_,λb ib=>?_,λ_ hh=>by cases hh⟩,?_,λst2 ha=>?_⟩;cases x with|tmp t=>simp only[FY,dA]at hy;subst hy;simp only[writes,MF,ho,af,dL,hd];simp[tm]|_=>simp[FY]at hy
 cases ib;simp only[MI,ho,gT.2];simp;rw[L4];rfl;have hx2:(st2.take x).1=(st.take x).1/\FY st2 x=FY st x:=by cases x with|tmp t=>have hg:st2.get t=st.get t:=ha.get t (by simp[dL,ho,tm]);simp only[AS.take,FY,hg,ha.ep];simp|const v=>exact⟨rfl,rfl⟩|func f=>exact⟨rfl,rfl⟩|global g=>exact⟨rfl,rfl⟩
 have ht2:st2.take x=(.val gg vs,⟨lC st2.slots (FY st x),st2.boxes,st2.ep,st2.iss,st2.io⟩):=by rw[<-hx2.2,<-Wo,<-Z0,<-hx2.1]
 have Lo:(nth st2.boxes s).getD none=some cs:=by rw[kR st2 ha];rw[L4]at hb;exact hb
 have KW:GJ an o=false:=by simp only[qx,ho,ah,aU]at hm;exact hm.2
 simp only[db,ho,hd,KW,bg,cD,CR,hT,hr st2 ha,hp,ht2,Lo,aM hlen,aM iy];rfl;cases h;cases h;cases h;cases h;rename_i r _ _ _ _ _ _ hp;rw[hp]at gT;cases r<;>simp at gT;cases h
theorem aal (ho:o.op=.assign x)(hm:qx an o=true)(h:zY E an o x st some=some st'):eK E Γ an X o st st':=by
 have hr:∀st2,iH an X o st st2->(st2.take x).1=(st.take x).1/\(st2.take x).2=st2.lN (rh st x):=λst2 ha=>KG ha.ep λt ht=>ha.get t (by simpa[dL,ho]using ht);have KW:GJ an o=false:=by simpa[qx,ho]using hm
 unfold zY at h;split at h;rename_i st1 xv;split at h;rename_i e hT;cases h;refine eK.put rfl λst2 ha=>?_;have h2:st2.take x=(.val false [.kL],st2.lN (rh st x)):=Prod.ext (by rw[(hr st2 ha).1,xv]) (hr st2 ha).2;simp only[db,ho,zY,KW,bg,cD,h2,hT];cases h;rename_i v st1 M4 xv;cases h;have L4:st1=st.lN (rh st x):=by rw[<-Ji,xv]
 refine⟨⟨rh st x++o.dst.toList.map λd=>(d,v),none,none⟩,⟨λy hy=>?_,λ_ hh=>(by cases hh),λ_ hh=>(by cases hh)⟩,?_,λst2 ha=>?_⟩;rcases aA.1 hy with hy|hy;have:=QW y hy;simp[writes,MF,ho,dL,this];obtain⟨d,hd,rfl⟩:=List.mem_map.1 hy;simp[writes,hd];rw[L4];show _=st.lN _;rw[vl];cases o.dst<;>rfl;have h2:st2.take x=(v,st2.lN (rh st x)):=Prod.ext (by rw[(hr st2 ha).1,xv]) (hr st2 ha).2;simp only[db,ho,zY,KW,bg,cD,h2];show some ((st2.lN (rh st x)).put o.dst v)=some (st2.lN _);rw[vl];cases o.dst<;>rfl
theorem kM {α:Type}(l:ar α)(i:Nat)(v:α)(t:Nat):nth (iO l i v) t=if i=t then(if i<l.length then some v else none) else nth l t:=by rw[dV,fD,dV,bt]
theorem VM (l:ar AV)(a:ar (Nat×AV)):(lC l a).length=l.length:=by induction a generalizing l with|nil=>rfl|cons x a ih=>rw[lC,ih,fD,aL]
theorem af6 {l l2:ar AV}(a:ar (Nat×AV))(hl:l2.length=l.length)(t:Nat)(h:nth l2 t=nth l t):nth (lC l2 a) t=nth (lC l a) t:=by induction a generalizing l l2 with|nil=>exact h|cons x a ih=>refine ih (by rw[fD,fD,aL,aL,hl]) ?_;rw[kM,kM,hl,h]
theorem af0 (h:st2.get t=st.get t)(hl:st2.slots.length=st.slots.length):nth st2.slots t=nth st.slots t:=by unfold AS.get at h;rw[dV,dV]at h⊢;rcases bS t st.slots.length with iG|Fe;rw[al iG,al (by omega)]at h⊢;simpa using h;rw[bJ Fe,bJ (by omega)]
def ll (st:AS):ar Operand->ar (Nat×AV)
 |[]=>[]
 |x::xs=>rh st x++ll (st.lN (rh st x)) xs
theorem Hn:∀(xs:ar Operand)(st:AS),∀y∈ll st xs,y.1∈Xo xs
 |[],_,y,hy=>by cases hy
 |x::xs,st,y,hy=>by simp only[Xo,List.flatMap_cons,aA];rcases aA.1 hy with hy|hy;exact .inl (QW y hy);exact .inr (Hn xs _ y hy)
theorem Iw:∀(xs:ar Operand)(st st2:AS),st2.ep=st.ep->st2.slots.length=st.slots.length->(∀t∈Xo xs,nth st2.slots t=nth st.slots t)->
 (fj st2 xs).1=(fj st xs).1/\(fj st2 xs).2=st2.lN (ll st xs)
 |[],st,st2,_,_,_=>⟨rfl,rfl⟩
 |x::xs,st,st2,Ck,hl,hg=>by
  have hx:∀t∈tm x,st2.get t=st.get t:=λt ht=>by unfold AS.get;rw[hg t (by simp[Xo,ht])]
  obtain⟨h1,h2⟩:=KG (st:=st) (st2:=st2) Ck hx;have h3:=Ji (st:=st) x;obtain⟨k1,k2⟩:=Iw xs (st.lN (rh st x)) (st2.lN (rh st x)) Ck (by simp only[AS.lN,VM,hl]) (λt ht=>af6 _ hl t (hg t (by simp only[Xo,List.flatMap_cons,aA];exact .inr ht)));have e1:fj st (x::xs)=((st.take x).1::(fj (st.take x).2 xs).1,(fj (st.take x).2 xs).2):=rfl;have e2:fj st2 (x::xs)=((st2.take x).1::(fj (st2.take x).2 xs).1,(fj (st2.take x).2 xs).2):=rfl;rw[e1,e2,h1,h2,h3];refine⟨by rw[k1],?_⟩;show(fj (st2.lN (rh st x)) xs).2=_;rw[k2,ll,vl]
theorem KF (xs:ar Operand):(fj st xs).2=st.lN (ll st xs):=(Iw xs st st rfl rfl (λ_ _=>rfl)).2
theorem iH.fj (ha:iH an X o st st2){xs:ar Operand}(hx:∀t∈Xo xs,t∈dL o):(fj st2 xs).1=(Dn.fj st xs).1/\(Dn.fj st2 xs).2=st2.lN (ll st xs):=Iw xs st st2 ha.ep ha.len λt ht=>af0 (ha.get t (hx t ht)) ha.len
theorem acU (ho:o.op=.build T parts)(h:Ib E o T parts.toList st some=some st'):eK E Γ an X o st st':=by
 have hl:∀t∈Xo (parts.toList.map (·.2)),t∈dL o:=λt ht=>by simp only[dL,ho];exact ht
 unfold Ib at h;split at h;rename_i ct lA hT;split at h;rename_i vs st1 xv;have L4:st1=st.lN (ll st (parts.toList.map (·.2))):=by rw[<-KF,xv]
 split at h;rename_i cs hb;cases h;refine⟨⟨ll st (parts.toList.map (·.2))++o.dst.toList.map λd=>(d,.val true cs),none,none⟩,⟨λy hy=>?_,λ_ hh=>(by cases hh),λ_ hh=>(by cases hh)⟩,?_,λst2 ha=>?_⟩;rcases aA.1 hy with hy|hy;have:=hl _ (Hn _ _ y hy);simp[writes,MF,ho,this];obtain⟨d,hd,rfl⟩:=List.mem_map.1 hy;simp[writes,hd];rw[L4];show _=st.lN _;rw[vl];cases o.dst<;>rfl;obtain⟨k1,k2⟩:=ha.fj hl;have h2:fj st2 (parts.toList.map (·.2))=(vs,st2.lN (ll st (parts.toList.map (·.2)))):=Prod.ext (by rw[k1,xv]) k2;simp only[db,ho,Ib,hT,h2,hb];show some ((st2.lN _).put o.dst _)=some (st2.lN _);rw[vl];cases o.dst<;>rfl;cases h;cases h
theorem eK.aqF {v:AV}(ht:MF an o=true)(hl:∀y∈tl,y.1∈dL o)(h:st'=((st.lN tl).fQ o.dst).put o.dst v)(h2:∀st2,iH an X o st st2->db E Γ an o st2 some=some (((st2.lN tl).fQ o.dst).put o.dst v)):eK E Γ an X o st st':=by
 have key:∀s:AS,(⟨tl++o.dst.toList.map λd=>(d,v),none,o.dst⟩:Q2).apply s=((s.lN tl).fQ o.dst).put o.dst v:=by intro s;cases o.dst with|none=>simp only[Q2.apply,Option.toList,List.map_nil,bC,AS.lN,AS.fQ,AS.put]|some d=>simp only[Q2.apply,Option.toList,ei,List.map_nil,Ir,AS.lN,AS.fQ,AS.put,lC]
 refine⟨⟨tl++o.dst.toList.map λd=>(d,v),none,o.dst⟩,⟨λy hy=>?_,λ_ hh=>(by cases hh),λd hh=>hh⟩,by rw[key];exact h,λst2 ha=>by rw[key];exact h2 st2 ha⟩;rcases aA.1 hy with hy|hy;simp[writes,ht,hl y hy];obtain⟨d,hd,rfl⟩:=List.mem_map.1 hy;simp[writes,hd]
theorem Gc {d:au Nat}:(st.lN tl).iZ d=st.iZ d:=rfl
theorem RK {len:Nat}(ho:o.op=.buildSlice T len parts)(h:nH E o T len parts.toList st some=some st'):eK E Γ an X o st st':=by
 have hl:∀t∈Xo (parts.toList.map (·.2)),t∈dL o:=λt ht=>by simp only[dL,ho];exact ht
 unfold nH at h;split at h;rename_i e hT;split at h;rename_i hc;split at h;rename_i vs st1 xv;have L4:st1=st.lN (ll st (parts.toList.map (·.2))):=by rw[<-KF,xv]
 split at h;rename_i xs hb;cases h;refine eK.aqF (tl:=ll st (parts.toList.map (·.2))) (v:=.one (.sl (.own (st.iZ o.dst 0)) e xs)) (by simp[MF,ho]) (λy hy=>hl _ (Hn _ _ y hy)) ?_ λst2 ha=>?_;rw[L4,AS.ti,Gc];obtain⟨k1,k2⟩:=ha.fj hl;have h2:fj st2 (parts.toList.map (·.2))=(vs,st2.lN (ll st (parts.toList.map (·.2)))):=Prod.ext (by rw[k1,xv]) k2;simp only[db,ho,nH,hT,h2,hb,aM hc];rw[AS.ti,Gc,ha.iZ];cases h;cases h;cases h
theorem Tr {n c:Operand}(ho:o.op=.makeSlice T n c)(h:rF E o T n c st some=some st'):eK E Γ an X o st st':=by
 have hr:∀st2,iH an X o st st2->st2.rd n=st.rd n/\st2.rd c=st.rd c:=λst2 ha=>
  ⟨ha.rd (λt ht=>by simp[dL,ho,ht]),ha.rd (λt ht=>by simp[dL,ho,ht])⟩
 unfold rF at h;split at h;rename_i e len cap hT hn hc;split at h;rename_i hlc;unfold room at h;split at h;rename_i hrm;cases h;refine eK.new (v:=.one (.sl (.own (st.iZ o.dst 0)) e (List.replicate len.toNat e.zero))) rfl λst2 ha=>?_;simp only[db,ho,rF,(hr st2 ha).1,(hr st2 ha).2,hT,hn,hc,aM hlc,room,aM hrm,AS.ti,ha.iZ];cases h;cases h;cases h
theorem aak (ho:o.op=.call {callee:=.builtin .append,args,argTypes:=ts})(h:CY E o ts.toList args.toList st some=some st'):eK E Γ an X o st st':=by
 have hlk:∀t∈Xo args.toList,t∈dL o:=λt ht=>by simp only[dL,ho];exact ht
 unfold CY at h;split at h;rename_i t t' s x uH fJ;have hl:∀u∈Xo [s,x],u∈dL o:=by rw[<-fJ];exact hlk
 have apq:∀st2,iH an X o st st2->(st2.take s).1=(st.take s).1/\((st2.take s).2.take x).1=((st.take s).2.take x).1/\((st2.take s).2.take x).2=st2.lN (ll st [s,x]):=by intro st2 ha;obtain⟨k1,k2⟩:=ha.fj hl;simp only[Dn.fj,List.cons.injEq,iV]at k1 k2;exact⟨k1.1,k1.2,k2⟩
 have HE:((st.take s).2.take x).2=st.lN (ll st [s,x]):=KF (st:=st) [s,x];split at h;rename_i tag e xs st1 Z0;split at h;rename_i fl e' ys aqC PR;split at h;rename_i he;subst he;split at h;rename_i hc;unfold room at h;split at h;rename_i hrm;cases h;have L4:(st.take s).2=st1:=by rw[Z0]
 have ZZ:aqC=st.lN (ll st [s,x]):=by rw[<-HE,L4,PR]
 refine eK.aqF (tl:=ll st [s,x]) (v:=.one (.sl (.own (st.iZ o.dst 0)) e' (xs++ys))) (by simp[MF,ho]) (λy hy=>hl _ (Hn _ _ y hy)) ?_ λst2 ha=>?_;rw[ZZ,AS.ti,Gc];obtain⟨k1,k2,k3⟩:=apq st2 ha;have e1:st2.take s=(.val false [.sl (.own tag) e' xs],(st2.take s).2):=Prod.ext (by rw[k1,Z0]) rfl;have e2:(st2.take s).2.take x=(.val false [.sl fl e' ys],st2.lN (ll st [s,x])):=Prod.ext (by rw[k2,L4,PR]) k3;simp only[db,ho,CY,uH,fJ];rw[e1];simp only;rw[e2];simp only[dite_true,ha.ep,aM hc,room,aM hrm,AS.ti,Gc,ha.iZ];cases h;cases h;cases h;rename_i sx aqC PR;split at h;rename_i he;subst he;split at h;rename_i hc;unfold room at h;split at h;rename_i hrm;cases h;have L4:(st.take s).2=st1:=by rw[Z0]
 have ZZ:aqC=st.lN (ll st [s,x]):=by rw[<-HE,L4,PR]
 refine eK.aqF (tl:=ll st [s,x]) (v:=.one (.sl (.own (st.iZ o.dst 0)) (.int .u8) (xs++da sx))) (by simp[MF,ho]) (λy hy=>hl _ (Hn _ _ y hy)) ?_ λst2 ha=>?_;rw[ZZ,AS.ti,Gc];obtain⟨k1,k2,k3⟩:=apq st2 ha;have e1:st2.take s=(.val false [.sl (.own tag) (.int .u8) xs],(st2.take s).2):=Prod.ext (by rw[k1,Z0]) rfl;have e2:(st2.take s).2.take x=(.val false [.str sx],st2.lN (ll st [s,x])):=Prod.ext (by rw[k2,L4,PR]) k3;simp only[db,ho,CY,uH,fJ];rw[e1];simp only;rw[e2];simp only[dite_true,aM hc,room,aM hrm,AS.ti,Gc,ha.iZ];cases h;cases h;cases h;cases h;cases h;cases h
theorem ajw (ho:o.op=.box T x)(h:Zr o x st some=some st'):eK E Γ an X o st st':=by
 have hr:∀st2,iH an X o st st2->(st2.take x).1=(st.take x).1/\(st2.take x).2=st2.lN (rh st x):=λst2 ha=>KG ha.ep λt ht=>ha.get t (by simpa[dL,ho]using ht);unfold Zr at h;split at h;rename_i d g cs st1 hd xv;have L4:st1=st.lN (rh st x):=by rw[<-Ji,xv]
 split at h;rename_i hb;split at h;rename_i hs;cases h;have U2:nth st.boxes d=some none:=by rw[L4]at hb;exact hb
 have key:∀s:AS,(⟨rh st x++[(d,.one (.ptr d 0))],some (d,cs),none⟩:Q2).apply s=((s.lN (rh st x)).eY d (some cs)).put (some d) (.one (.ptr d 0)):=by intro s;simp only[Q2.apply,Ir,AS.lN,AS.eY,AS.put,lC]
 refine⟨⟨rh st x++[(d,.one (.ptr d 0))],some (d,cs),none⟩,⟨λy hy=>?_,λb ib=>?_,λ_ hh=>(by cases hh)⟩,?_,λst2 ha=>?_⟩;rcases aA.1 hy with hy|hy;have:=QW y hy;simp[writes,MF,ho,dL,this];simp only[dA]at hy;subst hy;simp[writes,hd];cases ib;simp[MI,ho,hd];rw[key,L4,hd];have h2:st2.take x=(.val g cs,st2.lN (rh st x)):=Prod.ext (by rw[(hr st2 ha).1,xv]) (hr st2 ha).2;have Lo:nth (st2.lN (rh st x)).boxes d=some none:=by show nth st2.boxes d=_;rw[(ha.dst d hd).2];exact U2
 simp only[db,ho,Zr,hd,h2,Lo,aM hs,key];cases h;cases h;cases h
theorem We (Ey:∀f,(Γ f).io=false/\((Γ f).bx=true->(Γ f).cur=true)/\(Γ f).pr=false)(hm:qx an o=true)(gT:dH E an X o st=true)(h:db E Γ an o st some=some st'):eK E Γ an X o st st':=by
 have h0:=h;unfold db at h;split at h;rename_i ho;exact afV ho h;rename_i ho;have KW:GJ an o=false:=by simpa[qx,ho]using hm
 rw[aK (by simp[KW])]at h;exact aal ho hm h;rename_i ho;exact afW ho h;rename_i ho;exact acT ho h;rename_i ho;exact ajw ho h;rename_i ho;exact afU ho hm gT h;rename_i T p x ho;split at h;rename_i hd;cases p with
 |tmp pp=>
  have KW:GJ an o=false:=by simp only[qx,ho,ah,aU]at hm;exact hm.2
  rw[aK (by simp[KW])]at h;exact acY ho hd hm gT h
 |const v=>simp[qx,ho]at hm
 |func f=>simp[qx,ho]at hm
 |global g=>simp[qx,ho]at hm
 cases h;rename_i ho;exact Vx ho h0;rename_i ho;exact ajv ho h;rename_i ho;exact amI ho h;rename_i ho;exact acV ho h;rename_i ho;exact Tq ho gT h;rename_i ho;exact acW ho h;rename_i ho;exact acU ho h;rename_i ho;exact RK ho h;rename_i ho;exact Tr ho h;rename_i ho;exact acX ho hm gT h;rename_i ho;simp[qx,ho]at hm;rename_i ho;simp[qx,ho]at hm;rename_i ho;exact W7 ho h;rename_i ho;exact W8 ho gT h;rename_i ho;exact ajx ho h;rename_i ho;exact ajz ho h;rename_i ho;exact ajy ho h;rename_i ho;exact aak ho h;rename_i ho;exact afT Ey ho gT h;cases h
end Go.Dn
