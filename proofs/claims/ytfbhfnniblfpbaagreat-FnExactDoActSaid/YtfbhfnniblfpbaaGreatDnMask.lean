import Derived.Test.YtfbhfnniblfpbaaGreatDnDen
import Derived.Test.YtfbhfnniblfpbaaGreatDnNat
/- What is kept at a loop's door; what a region whose ways meet again leaves. -/
namespace Go.Dn
open Go.RowKit
variable {P:Program} {C:Ctx} {st:AS} {a:Act} {w:World} {R:Type} {r:R}
variable {an:An} {Γ:xO} {io:ar AC} {d:aw Nat} {ds keep:dV}
theorem ID (keep:dV)(ep:Nat)(io:ar AC):∀(l:ar AV)(n i:Nat),(nO keep ep io n l)[i]?=(l[i]?).map λv=>if keep.contains (n+i) then v.mask keep ep io (n+i) else .bot
 |[],n,i=>by simp[nO]
 |v::l,n,0=>by simp[nO]
 |v::l,n,i+1=>by simp only[nO,eG];rw[ID keep ep io l (n+1) i,show n+1+i=n+(i+1) by omega]
theorem DK (keep:dV)(ep:Nat)(io:ar AC):∀(l:ar (aw (ar AC)))(n i:Nat),(nN keep ep io n l)[i]?=(l[i]?).map λb=>if keep.contains (n+i) then b.map (Lv keep ep io (.box (n+i)) 0) else none
 |[],n,i=>by simp[nN]
 |v::l,n,0=>by simp[nN]
 |v::l,n,i+1=>by simp only[nN,eG];rw[DK keep ep io l (n+1) i,show n+1+i=n+(i+1) by omega]
theorem yg (keep:dV)(ep:Nat)(io:ar AC):∀(l:ar AV)(n:Nat),(nO keep ep io n l).length=l.length
 |[],_=>rfl
 |_::l,n=>by simp[nO,yg keep ep io l]
theorem Ei (keep:dV)(ep:Nat)(io:ar AC):∀(l:ar (aw (ar AC)))(n:Nat),(nN keep ep io n l).length=l.length
 |[],_=>rfl
 |_::l,n=>by simp[nN,Ei keep ep io l]
def XD:Value->AV->ic
 | .agg vs,.val true _=>vs.toList
 |v,_=>[v]
theorem XF {g:Bool}{v:Value}{vs:ic}{cs:ar AC}(h:Cut g v vs):XD v (.val g cs)=vs:=by cases g with|true=>simp only[Cut,bL]at h;subst h;simp[XD]|false=>simp only[Cut]at h;subst h;cases v<;>rfl
def EO (ioV:ic)(st:AS)(a:Act)(w:World)(β:Nat->Nat)(t:Nat):Value:=
 if t%3=0/\t/3/4096=1000003 then(ioV[t/3%4096]?).getD undef
 else if t%3=0 then((XD (a.tmps.getD (t/3/4096) undef) (st.get (t/3/4096)))[t/3%4096]?).getD undef
 else match w.heap[β (t/3/4096)]? with
  |some (.cells arr _ _)=>(arr.toList[t/3%4096]?).getD undef
  |_=>undef
def Xj (c c':RC)(io:ar AC):Prop:=∀j n (e:CT)(ys:ar e.D),AC.aeI io j n e=some ys->∃v0 Z3,eo c.hw c.w (.sl e) [v0] ys Z3/\v0=c.hdr n/\∀q,(kq.io j).Hp=some q->c'.iss q/\v0=c'.hdr q
theorem abX {c c':RC}(JX:Xj c c' io){rt:kq}{v:Value}{x:AC}{fp:dV}(h:gI c v x fp)(BX:c'.hw=c.hw)(hw:c'.w=c.w)(hA:c'.A=c.A)(xQ:c'.ep=0)(Ji:c'.β=c.β)(qR:∀s,keep.contains s=true->c.Ku s->c'.Ku s)(lE:∀t,rt.Hp=some t->c'.iss t/\v=c'.hdr t):gI c' v (x.mask keep c.ep io rt) fp:=by
 have hS:c'.S=c.S:=by funext b o;simp[RC.S,BX,hA]
 cases x with
 |int k n=>exact h
 |bool b=>exact h
 |str s=>exact h
 |jw=>exact h
 |fn f=>exact h
 |un=>exact h
 |bot=>exact h
 |ptr s off=>simp only[AC.mask];split;rename_i hk;exact⟨by rw[Ji];exact h.1,qR s hk h.2.1,h.2.2⟩;exact h.2.2
 |C1 fl e y i off=>cases fl with|own t=>exact h.elim|nest _ _ _ _ _ _=>exact h.elim|part _ _ _ _=>exact h.elim|fe _ _ _=>exact h.elim|arg _=>exact h.1|loc ep pv=>exact h.1
 |sl fl e xs=>
  cases fl with
  |own t=>exact⟨eo.mono h.1 (λb _=>⟨by rw[hw],by rw[BX]⟩),lE⟩
  |nest _ _ _ _ _ _=>exact h.1
  |part _ _ _ _=>exact h.1
  |fe _ _ _=>obtain⟨_,⟨k,hk,h3⟩,_⟩:=h;exact⟨λq hq=>(by cases hq),⟨k,hk,h3.mono (λb hb=>⟨by rw[hw],by rw[BX]⟩)⟩,by simp⟩
  |arg _=>exact⟨h.1,by rw[hA,hw];exact h.2⟩
  |loc ep pv=>
   obtain⟨h1,h2,h3,h4,h5⟩:=h;have plain:gI c' v (if(ep==c.ep)=true then AC.sl (.loc 0 none) e xs else .bot) fp:=by split;rename_i he;refine⟨h1,by rw[xQ];exact aU _,h3,λ_=>?_,by simp⟩;rw[hS,hw];exact h4 (by simpa using he);exact h1
   simp only[AC.mask];split;rename_i j n;split;rename_i ys GX;obtain⟨v0,Z3,eR,Mg,hq⟩:=JX j n e ys GX;obtain⟨_,k2⟩:=h5 _ _ rfl;have hv:v0=v:=Mg.trans k2.symm;subst hv;refine⟨h1,by rw[xQ];exact aU _,Kr eR,λ_=>?_,λr t hp=>?_⟩;rw[hS,hw];exact eo.rep (λb o ho=> .inr ho) eR;cases kb:(kq.io j).Hp with|none=>rw[kb]at hp;cases hp|some q=>rw[kb]at hp;simp at hp;obtain⟨_,rfl⟩:=hp;exact⟨(hq q kb).1,(hq q kb).2⟩
   exact plain;exact plain
theorem Jo {c c':RC}(JX:Xj c c' io){f:Nat->kq}(BX:c'.hw=c.hw)(hw:c'.w=c.w)(hA:c'.A=c.A)(xQ:c'.ep=0)(Ji:c'.β=c.β)
 (qR:∀s,keep.contains s=true->c.Ku s->c'.Ku s):∀{vs:ic}{xs:ar AC}{fp:dV}(j:Nat),bn c vs xs fp->
  (∀i v,vs[i]?=some v->∀t,(f (j+i)).Hp=some t->c'.iss t/\v=c'.hdr t)->bn c' vs (Lv keep c.ep io f j xs) fp
 |[],[],_,_,h,_=>h
 |v::_,_::_,_,j,h,hm=>by obtain⟨f1,f2,rfl,h1,h2⟩:=h;exact⟨f1,f2,rfl,abX JX h1 BX hw hA xQ Ji qR (λt ht=>hm 0 v rfl t ht),Jo JX BX hw hA xQ Ji qR (j+1) h2 (λi u hu t ht=>hm (i+1) u (by simpa using hu) t (by rwa[show j+(i+1)=j+1+i by omega]))⟩
 |[],_::_,_,_,h,_=>h.elim
 |_::_,[],_,_,h,_=>h.elim
theorem ae2 {c:RC}{v:Value}{x:AC}{fp:dV}(h:gI c v x fp)(JE:∀(tag:aw Nat)(e:CT)(xs:ar e.D),x=.sl (.own tag) e xs->False)(ah4:∀(tag:aw Nat)(i:Int)(ep:aw Nat)(e:CT)(xs:ar e.D),x=.sl (.fe tag i ep) e xs->False):fp=[]:=by
 cases x with
 |int k n=>exact h.2
 |bool b=>exact h.2
 |str s=>exact h.2
 |jw=>exact h.2
 |fn f=>exact h.2
 |un=>exact h.2
 |bot=>exact h
 |ptr s off=>exact h.2.2
 |C1 fl e y i off=>cases fl with|own t=>exact h.elim|nest _ _ _ _ _ _=>exact h.elim|part _ _ _ _=>exact h.elim|fe _ _ _=>exact h.elim|arg _=>exact h.1|loc ep pv=>exact h.1
 |sl fl e xs=>cases fl with|own t=>exact(JE _ _ _ rfl).elim|nest _ _ _ _ _ _=>exact h.1|part _ _ _ _=>exact h.1|fe _ _ _=>exact(ah4 _ _ _ _ _ rfl).elim|arg _=>exact h.1|loc ep pv=>exact h.1
theorem nt.mask (h:nt C st a w)(keep:dV):nt C (st.mask keep) a w:=by
 obtain⟨g,h⟩:=h;let g':Gh:={g with hdr:=EO C.ioV st a w g.β}
 have qR:∀s,keep.contains s=true->gx st s->gx (st.mask keep) s:=by rintro s hk ⟨cs,hs⟩;refine⟨Lv keep st.ep st.io (.box s) 0 cs,?_⟩;show(nN keep st.ep st.io 0 st.boxes)[s]?=_;rw[DK,hs];simp only[dg,cm,aG hk]
 obtain⟨fpi,hri,hni,hli⟩:=h.io;have aiZ:∀j v,C.ioV[j]?=some v->∀q,(kq.io j).Hp=some q->lI (st.mask keep) q/\v=EO C.ioV st a w g.β q:=by
  intro j v hv q hq;simp only[kq.Hp]at hq;cases hb:Nat.ble 4096 j with
  |true=>rw[hb]at hq;cases hq
  |false=>
   rw[hb]at hq;simp only[ae,aZ,Bc]at hq;have hj:j<4096:=by rcases bQ j 4096 with gV|BD;exact gV;rw[gQ BD]at hb;cases hb
   have h0:q%3=0:=by omega
   have h1:q/3/4096=1000003:=by omega
   have h2:q/3%4096=j:=by omega
   refine⟨.inl (by omega),?_⟩;rw[EO,aG ⟨h0,h1⟩,h2,hv];rfl
 have ahv:Xj (cy C g st w) (cy C g' (st.mask keep) w) st.io:=by
  intro j n e ys GX;unfold AC.aeI at GX;split at GX;rename_i t' e' ys' hj;split at GX;rename_i he;subst he;cases ht:(t'==n)with
  |false=>rw[ht]at GX;cases GX
  |true=>
   rw[ht]at GX;have:t'=n:=by simpa using ht
   subst this;cases GX;rw[dA]at hj;obtain⟨v,f,hv,hr,_⟩:=hri.get j _ hj;exact⟨v,f,hr.1,(hr.2 t' rfl).2,λq hq=>aiZ j v hv q hq⟩
  cases GX;cases GX
 have aqc:∀(j:Nat){vs:ic}{xs:ar AC}{fp:dV},bn (cy C g st w) vs xs fp->(∀i v,vs[i]?=some v->C.ioV[j+i]?=some v)->bn (cy C g' (st.mask keep) w) vs (YE keep j xs) fp:=by
  intro j vs
  induction vs generalizing j with
  |nil=>intro xs fp hr _;cases xs with
   |nil=>exact hr
   |cons _ _=>exact hr.elim
  |cons v vs ih=>
   intro xs fp hr hv
   cases xs with
   |nil=>exact hr.elim
   |cons x xs=>
    obtain⟨f1,f2,rfl,r1,r2⟩:=hr
    refine⟨f1,f2,rfl,?_,ih (j+1) r2 (λi u hu=>by rw[show j+1+i=j+(i+1) by omega];exact hv (i+1) u (by simpa using hu))⟩
    have Mg:=hv 0 v rfl
    rw[dL]at Mg
    split
    ·rename_i tg e ys
     exact⟨r1.1,λq hq=>aiZ j v Mg q hq⟩
    ·rename_i tag i ep e ys
     obtain⟨_,⟨k,hk,h3⟩,_⟩:=r1
     exact⟨λq hq=>(by cases hq),⟨k,hk,h3⟩,by simp⟩
    ·rename_i s off
     split
     ·rename_i hk
      exact⟨r1.1,qR s hk r1.2.1,r1.2.2⟩
     ·exact r1.2.2
    ·rename_i JE ah4 _
     cases hfl:x.gu with
     |true=>
      obtain⟨rfl,k⟩:=lQ (c':=cy C g' (st.mask keep) w) r1 hfl
      exact k
     |false=>exact ae2 r1 JE ah4
 refine⟨g',h.defers,?_,?_,λi av hi=>?_,λs cs hs=>?_,λk v av hk=>by simp at hk,h.fA,h.frame,⟨fpi,aqc 0 hri (λi v hv=>by rw[cm];exact hv),hni,hli⟩⟩;show _=(nO keep st.ep st.io 0 st.slots).length;rw[yg];exact h.size;show(nN keep st.ep st.io 0 st.boxes).length=(nO keep st.ep st.io 0 st.slots).length;rw[yg,Ei];exact h.bsize;have rF:(nO keep st.ep st.io 0 st.slots)[i]?=some av:=hi;rw[ID,cm]at rF;cases hv:st.slots[i]? with
 |none=>rw[hv]at rF;cases rF
 |some x=>
  rw[hv]at rF;simp only[dg,aZ]at rF;split at rF
  ·subst rF
   cases hx:x with
   |vQ ts=>exact⟨[],fL.bot _ _,by simp,by simp⟩
   |val gg cs=>
    rw[hx]at hv
    obtain⟨fp,⟨vs,ee,hr⟩,hn,hl⟩:=h.slots i _ hv
    refine⟨fp,⟨vs,ee,Jo (io:=st.io) ahv (c:=cy C g st w) (c':=cy C g' (st.mask keep) w) rfl rfl rfl rfl rfl qR 0 hr ?_⟩,hn,hl⟩
    intro j u hu t ht
    simp only[cm,kq.Hp]at ht
    cases hb:Nat.ble 4096 j with
    |true=>rw[hb]at ht;cases ht
    |false=>
     rw[hb]at ht
     simp only[ae]at ht
     cases Ir:Nat.ble 1000000 i with
     |true=>rw[Ir]at ht;cases ht
     |false=>
     rw[Ir]at ht
     simp only[ae,aZ]at ht
     have hi6:i<1000000:=by rcases bQ i 1000000 with gV|BD;exact gV;rw[gQ BD]at Ir;cases Ir
     have hj:j<4096:=by rcases bQ j 4096 with gV|BD;exact gV;rw[gQ BD]at hb;cases hb
     have h0:t%3=0:=by omega
     have h1:t/3/4096=i:=by omega
     have h2:t/3%4096=j:=by omega
     refine⟨.inl (by omega),?_⟩
     show u=EO C.ioV st a w g.β t
     rw[EO,mG,aG h0,h1,h2,get_eq hv,XF ee,hu];rfl
  subst rF;exact⟨[],fL.bot _ _,by simp,by simp⟩
 have uv:(nN keep st.ep st.io 0 st.boxes)[s]?=some (some cs):=hs;rw[DK,cm]at uv;cases hv:st.boxes[s]? with
 |none=>rw[hv]at uv;cases uv
 |some x=>
  rw[hv]at uv;simp only[dg,aZ]at uv;split at uv;cases hx:x with
  |none=>rw[hx]at uv;cases uv
  |some xs=>
   rw[hx]at uv hv;simp only[dg,aZ]at uv;subst uv;obtain⟨arr,T,fr,fp,hb,qS,hr,hn,hni,hl,Ih,Ix⟩:=h.boxes s xs hv;refine⟨arr,T,fr,fp,hb,qS,Jo (io:=st.io) ahv (c:=cy C g st w) (c':=cy C g' (st.mask keep) w) rfl rfl rfl rfl rfl qR 0 hr ?_,hn,hni,hl,Ih,Ix⟩;intro j u hu t ht;simp only[cm,kq.Hp]at ht;cases XY:Nat.ble 4096 j with
   |true=>rw[XY]at ht;cases ht
   |false=>
    rw[XY]at ht;simp only[ae,aZ]at ht;have hj:j<4096:=by rcases bQ j 4096 with gV|BD;exact gV;rw[gQ BD]at XY;cases XY
    have h0:¬t%3=0:=by omega
    have h1:t/3/4096=s:=by omega
    have h2:t/3%4096=j:=by omega
    refine⟨.inl (by omega),?_⟩;show u=EO C.ioV st a w g.β t;rw[EO,mG,aF h0,h1,h2,hb];simp only;rw[hu];rfl
  cases uv
structure iS (ds:List Nat) (st st':AS):Prop where
 len:st'.slots.length=st.slots.length
 slot:∀i,i∉ds->st'.slots[i]?=st.slots[i]?
 boxes:st'.boxes=st.boxes
 ep:st'.ep=st.ep
 iss:∀i,i∉ds->nth st'.iss i=nth st.iss i
 aji:st'.iss.length=st.iss.length
 io:st'.io=st.io
theorem iS.refl (ds:dV)(st:AS):iS ds st st:=⟨rfl,λ_ _=>rfl,rfl,rfl,λ_ _=>rfl,rfl,rfl⟩
theorem iS.trans {st st1 st2:AS}(h:iS ds st st1)(k:iS ds st1 st2):iS ds st st2:=⟨k.len.trans h.len,λi hi=>(k.slot i hi).trans (h.slot i hi),k.boxes.trans h.boxes,k.ep.trans h.ep,λi hi=>(k.iss i hi).trans (h.iss i hi),k.aji.trans h.aji,k.io.trans h.io⟩
theorem iS.put {st:AS}(hd:∀i,d=some i->i∈ds)(v:AV):iS ds st (st.put d v):=by cases d with|none=>exact iS.refl _ _|some d=>refine⟨by rw[fK,aH],λi hi=>?_,kO,Lc,λi _=>by rw[Tp],by rw[Tp],Lp⟩;rw[fK,aO];rintro rfl;exact hi (hd _ rfl)
theorem iS.fu {st:AS}(hd:∀i,d=some i->i∈ds):iS ds st (st.fu d):=by cases d with|none=>exact iS.refl _ _|some d=>refine⟨rfl,λi _=>rfl,rfl,rfl,λi hi=>?_,?_,rfl⟩;simp only[AS.fu,dA,eV];rw[aO];rintro rfl;exact hi (hd _ rfl);simp only[AS.fu,eV,aH]
theorem vm {α:Type}{o:aw α}{k:α->aw AS}{st':AS}(h:aa o k=some st')(hk:∀x,k x=some st'->iS ds st st'):iS ds st st':=by cases o with|none=>cases h|some x=>exact hk x h
theorem ab9 {n:Nat}{k:aw AS}{st':AS}(h:room n k=some st')(hk:k=some st'->iS ds st st'):iS ds st st':=by unfold room at h;split at h;exact hk h;cases h
theorem YO {op:BinOp}{k:IntKind}{x y:Int}{K:AC->aw AS}{st':AS}(h:Ki op k x y K=some st')(hk:∀z,K z=some st'->iS ds st st'):iS ds st st':=by
 unfold Ki at h
 split at h<;>first
  |exact hk _ h
  |(split at h
    ·cases h
    ·exact hk _ h)
  |cases h
theorem YP {op:BinOp}{x y:ar UInt8}{K:AC->aw AS}{st':AS}(h:MF op x y K=some st')(hk:∀z,K z=some st'->iS ds st st'):iS ds st st':=by
 unfold MF at h
 split at h<;>first
  |exact ab9 h (hk _)
  |exact hk _ h
  |cases h
theorem LA {op:BinOp}{x y:AV}{K:AC->aw AS}{st':AS}(h:Ic op x y K=some st')(hk:∀z,K z=some st'->iS ds st st'):iS ds st st':=by unfold Ic at h;split at h;split at h;split at h;cases h;exact hk _ h;split at h;cases h;exact hk _ h;split at h;exact YO h hk;cases h;exact YP h hk;split at h;exact hk _ h;exact hk _ h;cases h;split at h;exact vm h λb hb=>hk _ hb;exact vm h λb hb=>hk _ hb;cases h;cases h
theorem Ko {lo hi:aw Operand}{n:Nat}{K:Int->Int->aw AS}{st0 st':AS}(h:nd st0 lo hi n K=some st')(hk:∀x y,K x y=some st'->iS ds st st'):iS ds st st':=by
 unfold nd at h
 split at h<;>first
  |exact hk _ _ h
  |cases h
theorem OZ {op:BinOp}{b:Bool}{K:AC->aw AS}{st':AS}(h:F3 op b K=some st')(hk:∀c,K c=some st'->iS ds st st'):iS ds st st':=by unfold F3 at h;split at h;exact hk _ h;exact hk _ h;cases h
theorem RP {E:Env}(Ag:∀f,(Γ f).io=false/\(Γ f).bx=false/\(Γ f).pr=false){o:Oper}{st':AS}(hq:gB an ds o=true)(hd:∀i,o.dst=some i->i∈ds)(h:db E Γ an o st some=some st'):iS ds st st':=by
 have xN:∀v,some (st.put o.dst v)=some st'->iS ds st st':=λv hv=>by cases hv;exact iS.put hd v
 unfold db at h;split at h;rename_i x ho;simp only[gB,ho]at hq;unfold Ej at h;cases S0:o.dst with
 |none=>rw[S0]at h;cases h
 |some d=>
  rw[S0]at h hq;simp only at h hq;have hf:an.mv.contains d=false:=by simpa using hq
  rw[hf]at h;simp only[aY,cc]at h;cases h;exact iS.put (λi hi=>hd i (by rw[S0];exact hi)) _
 rename_i x ho;have F4:Ca an o=false\/∃y,x=y/\(∀v,y≠ .const v)/\(∀t,y≠ .tmp t):=by cases x with|tmp t=>left;simp only[gB,ho,ah,aP]at hq;exact hq.2|const v=>left;simpa only[gB,ho,aP]using hq|func f=>simp[gB,ho]at hq|global g=>simp[gB,ho]at hq
 have F4:Ca an o=false:=by rcases F4 with h1|⟨y,rfl,h1,h2⟩;exact h1;cases x with|tmp t=>exact absurd rfl (h2 t)|const v=>exact absurd rfl (h1 v)|func f=>simp[gB,ho]at hq|global g=>simp[gB,ho]at hq
 simp only[gB,ho]at hq;rw[aF (by simp[F4])]at h;unfold vR at h;have hx:iS ds st (st.take x).2:=by
  cases x with
  |tmp t=>
   have ht:t∈ds:=by simp only[ah]at hq;simpa using hq.1
   exact iS.put (d:=some t) (λi hi=>by cases hi;exact ht) _
  |const v=>exact iS.refl _ _
  |func f=>exact iS.refl _ _
  |global g=>exact iS.refl _ _
 split at h;split at h;exact xN _ h;cases h;rename_i v st1 _ tD;cases h;have:(st.take x).2=st1:=by rw[tD]
 rw[this]at hx;exact hx.trans (iS.put hd _);unfold Hb at h;split at h;rename_i t _;split at h;exact xN _ h;cases t with|true=>exact xN _ h|false=>exact xN _ h
 cases h;rename_i ho;simp[gB,ho]at hq;rename_i ho;simp[gB,ho]at hq;rename_i T p ho;simp only[gB,ho]at hq;have tD:Ht an o=false:=by unfold Ht;cases S0:o.dst with|none=>rfl|some d=>rw[S0]at hq;simp only[aP]at hq;simp only[hq,gL]
 unfold px at h;split at h;split at h;split at h;split at h;rename_i d S0;rw[S0]at hq;simp only at hq;have hf:an.mv.contains d=false:=by simpa using hq
 rw[hf]at h;simp only[aY,cc]at h;exact xN _ h;cases h;cases h;cases h;rw[aF (by simp[tD])]at h;split at h;split at h;exact xN _ h;cases h;unfold FI at h;split at h;split at h;split at h;split at h;obtain⟨y,_,h⟩:=NK h;exact xN _ h;cases h;cases h;cases h;cases h;cases h;rename_i ho;simp[gB,ho]at hq;split at h;exact xN _ h;exact xN _ h;cases h;unfold CW at h;split at h;split at h;exact LA h λz hz=>xN _ hz;cases h;split at h;split at h;exact LA h λz hz=>xN _ hz;cases h;cases h;split at h;split at h;cases h;exact OZ h λz hz=>xN _ hz;cases h;split at h;exact OZ h λz hz=>xN _ hz;cases h;exact LA h λz hz=>xN _ hz;unfold unC at h;split at h;exact xN _ h;exact xN _ h;exact xN _ h;cases h;unfold BR at h;split at h;split at h;exact xN _ h;cases h;split at h;exact xN _ h;cases h;cases h;unfold mM at h;split at h;split at h;exact vm h λy hy=>xN _ hy;cases h;cases h;unfold DJ at h;split at h;split at h;exact vm h λy hy=>xN _ hy;cases h;cases h;rename_i T parts ho;simp only[gB,ho]at hq;have he:parts=#[]:=by simpa using hq
 subst he;unfold DC at h;split at h;simp only[eO,List.map_nil]at h;split at h;exact xN _ h;cases h;cases h;rename_i ho;simp[gB,ho]at hq;rename_i ho;simp[gB,ho]at hq;rename_i ho;simp only[gB,ho,aP]at hq;unfold CG at h;rw[aF (by simp[hq])]at h;split at h;split at h;exact Ko h λx y hxy=>vm hxy λz hz=>xN _ hz;cases h;split at h;exact Ko h λx y hxy=>vm hxy λz hz=>xN _ hz;cases h;cases h;rename_i ho;simp[gB,ho]at hq;rename_i ho;simp[gB,ho]at hq;rename_i ho;simp[gB,ho]at hq;rename_i ho;simp[gB,ho]at hq;unfold OR at h;split at h;split at h;exact xN _ h;cases h;split at h;exact xN _ h;cases h;cases h;unfold Qz at h;split at h;exact xN _ h;cases h;unfold Qy at h;split at h;exact xN _ h;cases h;rename_i ho;simp[gB,ho]at hq;unfold F1 at h;split at h;rename_i k _;rw[(Ag k).2.1,(Ag k).2.2,(Ag k).1]at h;simp only[ae]at h;refine vm h λy hy=>?_;cases Qp:(Γ k).sel y with|true=>rw[Qp]at hy;cases hy;exact(iS.fu hd).trans (iS.put hd _)|false=>rw[Qp]at hy;cases hy;exact(iS.fu hd).trans (iS.put hd _)
 cases h;cases h
theorem VP {ops:ar Oper}{o:Oper}(ho:o∈ops){i:Nat}(hi:o.dst=some i):i∈I7 ops:=List.mem_filterMap.2 ⟨o,ho,hi⟩
theorem O0 {E:Env}(Ag:∀f,(Γ f).io=false/\(Γ f).bx=false/\(Γ f).pr=false){ops:ar Oper}{o:Oper}{st':AS}(ho:o∈ops)(hq:gB an (I7 ops) o=true)(h:gy E Γ an ops o st some=some st'):iS (I7 ops) st st':=by
 have hd:∀i,o.dst=some i->i∈I7 ops:=λi hi=>VP ho hi;unfold gy at h;split at h;exact RP Ag hq hd h;rename_i j JA hg;split at h;rename_i d S0;have hdm:d∈I7 ops:=by rw[dA]at S0;cases MV:ops[j]? with|none=>rw[MV]at S0;cases S0|some o'=>rw[MV]at S0;exact VP (cR MV) S0
 have hp:∀t,iS (I7 ops) st (st.put (some d) (.one (.bool t))):=λt=>iS.put (λi hi=>by cases hi;exact hdm) _;split at h;rename_i b hb;have main:∀t,(if(t==JA)=true then db E Γ an o (st.put (some d) (.one (.bool t))) some else some ((st.put (some d) (.one (.bool t))).put o.dst (.one .un)))=some st'->iS (I7 ops) st st':=by intro t ht;split at ht;exact(hp t).trans (RP Ag hq hd ht);cases ht;exact(hp t).trans (iS.put hd _)
 cases b with|true=>exact main true h|false=>exact main false h
 cases h;exact iS.put hd _;cases h;cases h
theorem V0 {E:Env}(Ag:∀f,(Γ f).io=false/\(Γ f).bx=false/\(Γ f).pr=false){ops:ar Oper}(hq:∀o∈ops,gB an (I7 ops) o=true):∀(l:ar Oper)(st st':AS),(∀o∈l,o∈ops)->TF E Γ an ops l st some=some st'->iS (I7 ops) st st'
 |[],st,st',_,h=>by cases h;exact iS.refl _ _
 |o::l,st,st',hl,h=>by simp only[TF]at h;rw[qP]at h;cases hg:gy E Γ an ops o st some with|none=>rw[hg]at h;cases h|some st1=>rw[hg]at h;exact(O0 Ag (hl o (by simp)) (hq o (hl o (by simp))) hg).trans (V0 Ag hq l st1 st' (λo' MV=>hl o' (by simp[MV])) h)
theorem I6:∀(l:dV)(st:AS),(∀i∈l,i∈ds)->iS ds st (st.C0 l)
 |[],st,_=>iS.refl _ _
 |d::l,st,h=>by
  have hd:∀i,some d=some i->i∈ds:=λi hi=>by cases hi;exact h d (by simp)
  exact((iS.put hd _).trans (iS.fu hd)).trans (I6 l _ (λi hi=>h i (by simp[hi])))
theorem Q3:∀(l:dV)(st:AS)(i:Nat)(av:AV),(st.C0 l).slots[i]?=some av->i∈l\/st.slots[i]?=some .bot->av=.bot
 |[],st,i,av,h,hi=>by rcases hi with hi|hi;cases hi;have:st.slots[i]?=some av:=h;rw[hi]at this;cases this;rfl
 |d::l,st,i,av,h,hi=>by
  refine Q3 l _ i av h ?_;by_cases Ov:i∈l;exact .inl Ov;refine .inr ?_;rw[vJ,fK,bk];have gV:i<st.slots.length:=by
   have h1:=(I6 (ds:=d::l) l ((st.put (some d) .bot).fu (some d)) (λi hi=>by simp[hi])).len;have h2:=(aD.1 h).1;have h3:(AS.C0 ((st.put (some d) .bot).fu (some d)) l).slots.length=st.slots.length:=by rw[h1,vJ,fK,aH]
   have h4:i<(AS.C0 ((st.put (some d) .bot).fu (some d)) l).slots.length:=h2;omega
  split;rename_i hdi;subst hdi;rw[aG gV];rename_i hdi;rcases hi with hi|hi;simp only[cv]at hi;rcases hi with hi|hi;exact absurd hi.symm hdi;exact absurd hi Ov;exact hi
theorem Q4:∀(l:dV)(st:AS)(i:Nat),i∈l\/(nth st.iss i).getD true=true->(nth (st.C0 l).iss i).getD true=true
 |[],st,i,hi=>by rcases hi with hi|hi;cases hi;exact hi
 |d::l,st,i,hi=>by refine Q4 l _ i ?_;by_cases Ov:i∈l;exact .inl Ov;refine .inr ?_;have he:(AS.fu (st.put (some d) .bot) (some d)).iss=gZ st.iss d true:=rfl;rw[he,eV,dA,bk];split;split<;>rfl;rename_i hdi;rcases hi with hi|hi;simp only[cv]at hi;rcases hi with hi|hi;exact absurd hi.symm hdi;exact absurd hi Ov;rw[dA]at hi;exact hi
theorem nt.weaken {st':AS}(h:nt C st' a w)(hn:iS ds st st'){s:Nat}{b:Bool}(hb:getBool st' s=some b):nt C ((st.C0 ds).put (some s) (.one (.bool b))) a w:=by
 have Ir:st'.get s=.val false [.bool b]:=by unfold getBool at hb;split at hb;rename_i b' hg;cases hb;exact hg;cases hb
 have hkn:=h.known Ir;obtain⟨g,h⟩:=h;have hdn:=I6 (ds:=ds) ds st (λ_ hi=>hi);have vk:((st.C0 ds).put (some s) (.one (.bool b))).boxes=st'.boxes:=by rw[kO,hdn.boxes,hn.boxes]
 have xQ:((st.C0 ds).put (some s) (.one (.bool b))).ep=st'.ep:=by rw[Lc,hdn.ep,hn.ep]
 have hlen:((st.C0 ds).put (some s) (.one (.bool b))).slots.length=st'.slots.length:=by rw[fK,aH,hdn.len,hn.len]
 have Gv:∀t,lI st' t->lI ((st.C0 ds).put (some s) (.one (.bool b))) t:=by intro t ht;rw[Kl];rcases ht with ht|ht;exact .inl ht;refine .inr (Q4 ds st _ ?_);by_cases hi:t/3/4096∈ds;exact .inl hi;exact .inr (by rw[<-hn.iss _ hi];exact ht)
 have qR:∀s',gx st' s'->gx ((st.C0 ds).put (some s) (.one (.bool b))) s':=λs' hs=>by unfold gx at hs⊢;rw[vk];exact hs
 have hle:(cy C g st' w).Le (cy C g ((st.C0 ds).put (some s) (.one (.bool b))) w):=⟨rfl,λt ht=>⟨Gv t ht,rfl⟩,λ_ _ _ _ _ hv=>hv,by show st'.ep<=_;rw[<-xQ];exact aU _,λs' hs=>⟨qR s' hs,rfl⟩,λ_ b o u ho hu=>⟨ho,hu⟩⟩
 refine⟨g,h.step (λ_=>True) hle h.defers (by rw[hlen];exact h.size) (by rw[vk,hlen];exact h.bsize) h.frame h.fA (λb x _ hx=>⟨hx,rfl,rfl⟩) ?_ ?_ ?_ (.inl ⟨bV,by rw[Lp,hdn.io,hn.io]⟩)⟩;intro i av hi;rw[fK,bk]at hi;split at hi;rename_i hsi;subst hsi;split at hi;cases hi;refine .inr ⟨[],mN ?_,by simp,by simp⟩;exact⟨hkn,rfl⟩;cases hi;by_cases Vf:i∈ds;have:=Q3 ds st i av hi (.inl Vf);subst this;exact .inr ⟨[],fL.bot _ _,by simp,by simp⟩;rw[hdn.slot i Vf]at hi;exact .inl ⟨bV,by rw[hn.slot i Vf];exact hi,rfl⟩;intro s' cs hs;rw[vk]at hs;exact .inl ⟨bV,hs,rfl⟩;intro k v av hk;simp at hk
theorem af4 (Γ:xO)(f:Nat):(Γ.calm f).io=false/\(Γ.calm f).bx=false/\(Γ.calm f).pr=false:=by unfold xO.calm;cases h:(Γ f).io with|true=>exact⟨rfl,rfl,rfl⟩|false=>cases h2:(Γ f).bx with|true=>exact⟨rfl,rfl,rfl⟩|false=>cases h3:(Γ f).pr with|true=>exact⟨rfl,rfl,rfl⟩|false=>exact⟨h,h2,h3⟩
theorem ag7 (Γ:xO)(f:Nat):(Γ.Jx f).io=false/\((Γ.Jx f).bx=true->(Γ.Jx f).cur=true)/\(Γ.Jx f).pr=false:=by unfold xO.Jx;cases h:(Γ f).io with|true=>exact⟨rfl,λh=>(by cases h),rfl⟩|false=>cases h3:(Γ f).pr with|true=>exact⟨rfl,λh=>(by cases h),rfl⟩|false=>cases h2:(Γ f).bx with|false=>exact⟨h,λh=>(by simp[h2]at h),h3⟩|true=>cases h4:(Γ f).cur with|true=>exact⟨h,λ_=>h4,h3⟩|false=>exact⟨rfl,λh=>(by cases h),rfl⟩
theorem ag8 (Ag:∀f,(Γ f).io=false/\(Γ f).bx=false/\(Γ f).pr=false)(f:Nat):(Γ.Jx f).io=false/\(Γ.Jx f).bx=false/\(Γ.Jx f).pr=false:=by have h:=Ag f;unfold xO.Jx;rw[h.1,h.2.1,h.2.2];exact h
theorem Sound.Jx {E:Env}(h:Sound P E Γ):Sound P E Γ.Jx:=by refine⟨h.ty,h.eqs,h.fts,λf=>?_,h.mixed⟩;unfold xO.Jx;cases (Γ f).io||(Γ f).pr||((Γ f).bx&& !(Γ f).cur)with|true=>intro xs y hy;cases hy|false=>exact h.fns f
theorem Sound.calm {E:Env}(h:Sound P E Γ):Sound P E Γ.calm:=by refine⟨h.ty,h.eqs,h.fts,λf=>?_,h.mixed⟩;unfold xO.calm;cases (Γ f).io with|true=>intro xs y hy;cases hy|false=>cases (Γ f).bx with|true=>intro xs y hy;cases hy|false=>cases (Γ f).pr with|true=>intro xs y hy;cases hy|false=>exact h.fns f
end Go.Dn
