import Derived.Test.YtfbhfnniblfpbaaGreatDnDen
import Derived.Test.YtfbhfnniblfpbaaGreatDnNat
/- What is kept at a loop's door; what a region whose ways meet again leaves. -/
namespace Go.Dn
open Go.RowKit
variable {P:Program} {C:Ctx} {st:AS} {a:Act} {w:World} {R:Type} {r:R}
variable {an:An} {Γ:xV} {io:aq AC} {d:au Nat} {ds keep:dX}
theorem IX (keep:dX)(ep:Nat)(io:aq AC):∀(l:aq AV)(n i:Nat),(nQ keep ep io n l)[i]?=(l[i]?).map λv=>if keep.contains (n+i) then v.mask keep ep io (n+i) else .bot
 |[],n,i=>by simp[nQ]
 |v::l,n,0=>by simp[nQ]
 |v::l,n,i+1=>by simp only[nQ,eI];rw[IX keep ep io l (n+1) i,show n+1+i=n+(i+1) by omega]
theorem DX (keep:dX)(ep:Nat)(io:aq AC):∀(l:aq (au (aq AC)))(n i:Nat),(nP keep ep io n l)[i]?=(l[i]?).map λb=>if keep.contains (n+i) then b.map (LQ keep ep io (.box (n+i)) 0) else none
 |[],n,i=>by simp[nP]
 |v::l,n,0=>by simp[nP]
 |v::l,n,i+1=>by simp only[nP,eI];rw[DX keep ep io l (n+1) i,show n+1+i=n+(i+1) by omega]
theorem yp (keep:dX)(ep:Nat)(io:aq AC):∀(l:aq AV)(n:Nat),(nQ keep ep io n l).length=l.length
 |[],_=>rfl
 |_::l,n=>by simp[nQ,yp keep ep io l]
theorem Ev (keep:dX)(ep:Nat)(io:aq AC):∀(l:aq (au (aq AC)))(n:Nat),(nP keep ep io n l).length=l.length
 |[],_=>rfl
 |_::l,n=>by simp[nP,Ev keep ep io l]
def X2:Value->AV->ie
 | .agg vs,.val true _=>vs.toList
 |v,_=>[v]
theorem X4 {g:Bool}{v:Value}{vs:ie}{cs:aq AC}(h:Cut g v vs):X2 v (.val g cs)=vs:=by cases g with|true=>simp only[Cut,bL]at h;subst h;simp[X2]|false=>simp only[Cut]at h;subst h;cases v<;>rfl
def E0 (ioV:ie)(st:AS)(a:Act)(w:World)(β:Nat->Nat)(t:Nat):Value:=
 if t%3=0/\t/3/4096=1000003 then(ioV[t/3%4096]?).getD undef
 else if t%3=0 then((X2 (a.tmps.getD (t/3/4096) undef) (st.get (t/3/4096)))[t/3%4096]?).getD undef
 else match w.heap[β (t/3/4096)]? with
  |some (.cells arr _ _)=>(arr.toList[t/3%4096]?).getD undef
  |_=>undef
def XI (c c':RC)(io:aq AC):Prop:=∀j n (e:CT)(ys:aq e.D),AC.aeX io j n e=some ys->∃v0 fp0,ez c.hw c.w (.sl e) [v0] ys fp0/\v0=c.hdr n/\∀q,(kv.io j).HI=some q->c'.iss q/\v0=c'.hdr q
theorem ace {c c':RC}(Kb:XI c c' io){rt:kv}{v:Value}{x:AC}{fp:dX}(h:gM c v x fp)(Ca:c'.hw=c.hw)(hw:c'.w=c.w)(hA:c'.A=c.A)(xY:c'.ep=0)(Jx:c'.β=c.β)(qU:∀s,keep.contains s=true->c.KJ s->c'.KJ s)(lH:∀t,rt.HI=some t->c'.iss t/\v=c'.hdr t):gM c' v (x.mask keep c.ep io rt) fp:=by
 have hS:c'.S=c.S:=by funext b o;simp[RC.S,Ca,hA]
 cases x with
 |int k n=>exact h
 |bool b=>exact h
 |str s=>exact h
 |jB=>exact h
 |fn f=>exact h
 |un=>exact h
 |bot=>exact h
 |ptr s off=>simp only[AC.mask];split;rename_i hk;exact⟨by rw[Jx];exact h.1,qU s hk h.2.1,h.2.2⟩;exact h.2.2
 |Da fl e y i off=>cases fl with|own t=>exact h.elim|nest _ _ _ _ _ _=>exact h.elim|part _ _ _ _=>exact h.elim|fe _ _ _=>exact h.elim|arg _=>exact h.1|loc ep pv=>exact h.1
 |sl fl e xs=>
  cases fl with
  |own t=>exact⟨ez.mono h.1 (λb _=>⟨by rw[hw],by rw[Ca]⟩),lH⟩
  |nest _ _ _ _ _ _=>exact h.1
  |part _ _ _ _=>exact h.1
  |fe _ _ _=>obtain⟨_,⟨k,hk,h3⟩,_⟩:=h;exact⟨λq hq=>(by cases hq),⟨k,hk,h3.mono (λb hb=>⟨by rw[hw],by rw[Ca]⟩)⟩,by simp⟩
  |arg _=>exact⟨h.1,by rw[hA,hw];exact h.2⟩
  |loc ep pv=>
   obtain⟨h1,h2,h3,h4,h5⟩:=h;have plain:gM c' v (if(ep==c.ep)=true then AC.sl (.loc 0 none) e xs else .bot) fp:=by split;rename_i he;refine⟨h1,by rw[xY];exact aR _,h3,λ_=>?_,by simp⟩;rw[hS,hw];exact h4 (by simpa using he);exact h1
   simp only[AC.mask];split;rename_i j n;split;rename_i ys Hd;obtain⟨v0,fp0,eR,MA,hq⟩:=Kb j n e ys Hd;obtain⟨_,k2⟩:=h5 _ _ rfl;have hv:v0=v:=MA.trans k2.symm;subst hv;refine⟨h1,by rw[xY];exact aR _,KG eR,λ_=>?_,λr t hp=>?_⟩;rw[hS,hw];exact ez.rep (λb o ho=> .inr ho) eR;cases kh:(kv.io j).HI with|none=>rw[kh]at hp;cases hp|some q=>rw[kh]at hp;simp at hp;obtain⟨_,rfl⟩:=hp;exact⟨(hq q kh).1,(hq q kh).2⟩
   exact plain;exact plain
theorem JD {c c':RC}(Kb:XI c c' io){f:Nat->kv}(Ca:c'.hw=c.hw)(hw:c'.w=c.w)(hA:c'.A=c.A)(xY:c'.ep=0)(Jx:c'.β=c.β)
 (qU:∀s,keep.contains s=true->c.KJ s->c'.KJ s):∀{vs:ie}{xs:aq AC}{fp:dX}(j:Nat),bn c vs xs fp->
  (∀i v,vs[i]?=some v->∀t,(f (j+i)).HI=some t->c'.iss t/\v=c'.hdr t)->bn c' vs (LQ keep c.ep io f j xs) fp
 |[],[],_,_,h,_=>h
 |v::_,_::_,_,j,h,hm=>by obtain⟨f1,f2,rfl,h1,h2⟩:=h;exact⟨f1,f2,rfl,ace Kb h1 Ca hw hA xY Jx qU (λt ht=>hm 0 v rfl t ht),JD Kb Ca hw hA xY Jx qU (j+1) h2 (λi u hu t ht=>hm (i+1) u (by simpa using hu) t (by rwa[show j+(i+1)=j+1+i by omega]))⟩
 |[],_::_,_,_,h,_=>h.elim
 |_::_,[],_,_,h,_=>h.elim
theorem afh {c:RC}{v:Value}{x:AC}{fp:dX}(h:gM c v x fp)(JT:∀(tag:au Nat)(e:CT)(xs:aq e.D),x=.sl (.own tag) e xs->False)(aiq:∀(tag:au Nat)(i:Int)(ep:au Nat)(e:CT)(xs:aq e.D),x=.sl (.fe tag i ep) e xs->False):fp=[]:=by
 cases x with
 |int k n=>exact h.2
 |bool b=>exact h.2
 |str s=>exact h.2
 |jB=>exact h.2
 |fn f=>exact h.2
 |un=>exact h.2
 |bot=>exact h
 |ptr s off=>exact h.2.2
 |Da fl e y i off=>cases fl with|own t=>exact h.elim|nest _ _ _ _ _ _=>exact h.elim|part _ _ _ _=>exact h.elim|fe _ _ _=>exact h.elim|arg _=>exact h.1|loc ep pv=>exact h.1
 |sl fl e xs=>cases fl with|own t=>exact(JT _ _ _ rfl).elim|nest _ _ _ _ _ _=>exact h.1|part _ _ _ _=>exact h.1|fe _ _ _=>exact(aiq _ _ _ _ _ rfl).elim|arg _=>exact h.1|loc ep pv=>exact h.1
theorem nv.mask (h:nv C st a w)(keep:dX):nv C (st.mask keep) a w:=by
 obtain⟨g,h⟩:=h;let g':Gh:={g with hdr:=E0 C.ioV st a w g.β}
 have qU:∀s,keep.contains s=true->gA st s->gA (st.mask keep) s:=by rintro s hk ⟨cs,hs⟩;refine⟨LQ keep st.ep st.io (.box s) 0 cs,?_⟩;show(nP keep st.ep st.io 0 st.boxes)[s]?=_;rw[DX,hs];simp only[dg,cm,aG hk]
 obtain⟨fpi,hri,hni,hli⟩:=h.io;have ajk:∀j v,C.ioV[j]?=some v->∀q,(kv.io j).HI=some q->lL (st.mask keep) q/\v=E0 C.ioV st a w g.β q:=by
  intro j v hv q hq;simp only[kv.HI]at hq;cases hb:Nat.ble 4096 j with
  |true=>rw[hb]at hq;cases hq
  |false=>
   rw[hb]at hq;simp only[ae,aZ,Bk]at hq;have hj:j<4096:=by rcases bS j 4096 with gV|BM;exact gV;rw[gU BM]at hb;cases hb
   have h0:q%3=0:=by omega
   have h1:q/3/4096=1000003:=by omega
   have h2:q/3%4096=j:=by omega
   refine⟨.inl (by omega),?_⟩;rw[E0,aG ⟨h0,h1⟩,h2,hv];rfl
 have ahO:XI (cy C g st w) (cy C g' (st.mask keep) w) st.io:=by
  intro j n e ys Hd;unfold AC.aeX at Hd;split at Hd;rename_i t' e' ys' hj;split at Hd;rename_i he;subst he;cases ht:(t'==n)with
  |false=>rw[ht]at Hd;cases Hd
  |true=>
   rw[ht]at Hd;have:t'=n:=by simpa using ht
   subst this;cases Hd;rw[dB]at hj;obtain⟨v,f,hv,hr,_⟩:=hri.get j _ hj;exact⟨v,f,hr.1,(hr.2 t' rfl).2,λq hq=>ajk j v hv q hq⟩
  cases Hd;cases Hd
 have aqy:∀(j:Nat){vs:ie}{xs:aq AC}{fp:dX},bn (cy C g st w) vs xs fp->(∀i v,vs[i]?=some v->C.ioV[j+i]?=some v)->bn (cy C g' (st.mask keep) w) vs (Y5 keep j xs) fp:=by
  intro j vs
  induction vs generalizing j with
  |nil=>intro xs fp hr _;cases xs with
   |nil=>exact hr
   |cons _ _=>exact hr.elim
  |cons v vs ih=>
   intro xs fp hr hv
   cases xs with
   |nil=>exact hr.elim
   |cons x xs=>
    obtain⟨f1,f2,rfl,r1,r2⟩:=hr
    refine⟨f1,f2,rfl,?_,ih (j+1) r2 (λi u hu=>by rw[show j+1+i=j+(i+1) by omega];exact hv (i+1) u (by simpa using hu))⟩
    have MA:=hv 0 v rfl
    rw[dM]at MA
    split
    ·rename_i tg e ys
     exact⟨r1.1,λq hq=>ajk j v MA q hq⟩
    ·rename_i tag i ep e ys
     obtain⟨_,⟨k,hk,h3⟩,_⟩:=r1
     exact⟨λq hq=>(by cases hq),⟨k,hk,h3⟩,by simp⟩
    ·rename_i s off
     split
     ·rename_i hk
      exact⟨r1.1,qU s hk r1.2.1,r1.2.2⟩
     ·exact r1.2.2
    ·rename_i JT aiq _
     cases hfl:x.gv with
     |true=>
      obtain⟨rfl,k⟩:=lT (c':=cy C g' (st.mask keep) w) r1 hfl
      exact k
     |false=>exact afh r1 JT aiq
 refine⟨g',h.defers,?_,?_,λi av hi=>?_,λs cs hs=>?_,λk v av hk=>by simp at hk,h.fB,h.frame,⟨fpi,aqy 0 hri (λi v hv=>by rw[cm];exact hv),hni,hli⟩⟩;show _=(nQ keep st.ep st.io 0 st.slots).length;rw[yp];exact h.size;show(nP keep st.ep st.io 0 st.boxes).length=(nQ keep st.ep st.io 0 st.slots).length;rw[yp,Ev];exact h.bsize;have rJ:(nQ keep st.ep st.io 0 st.slots)[i]?=some av:=hi;rw[IX,cm]at rJ;cases hv:st.slots[i]? with
 |none=>rw[hv]at rJ;cases rJ
 |some x=>
  rw[hv]at rJ;simp only[dg,aZ]at rJ;split at rJ
  ·subst rJ
   cases hx:x with
   |vU ts=>exact⟨[],fL.bot _ _,by simp,by simp⟩
   |val gg cs=>
    rw[hx]at hv
    obtain⟨fp,⟨vs,eh,hr⟩,hn,hl⟩:=h.slots i _ hv
    refine⟨fp,⟨vs,eh,JD (io:=st.io) ahO (c:=cy C g st w) (c':=cy C g' (st.mask keep) w) rfl rfl rfl rfl rfl qU 0 hr ?_⟩,hn,hl⟩
    intro j u hu t ht
    simp only[cm,kv.HI]at ht
    cases hb:Nat.ble 4096 j with
    |true=>rw[hb]at ht;cases ht
    |false=>
     rw[hb]at ht
     simp only[ae]at ht
     cases II:Nat.ble 1000000 i with
     |true=>rw[II]at ht;cases ht
     |false=>
     rw[II]at ht
     simp only[ae,aZ]at ht
     have hi6:i<1000000:=by rcases bS i 1000000 with gV|BM;exact gV;rw[gU BM]at II;cases II
     have hj:j<4096:=by rcases bS j 4096 with gV|BM;exact gV;rw[gU BM]at hb;cases hb
     have h0:t%3=0:=by omega
     have h1:t/3/4096=i:=by omega
     have h2:t/3%4096=j:=by omega
     refine⟨.inl (by omega),?_⟩
     show u=E0 C.ioV st a w g.β t
     rw[E0,mI,aG h0,h1,h2,get_eq hv,X4 eh,hu];rfl
  subst rJ;exact⟨[],fL.bot _ _,by simp,by simp⟩
 have ux:(nP keep st.ep st.io 0 st.boxes)[s]?=some (some cs):=hs;rw[DX,cm]at ux;cases hv:st.boxes[s]? with
 |none=>rw[hv]at ux;cases ux
 |some x=>
  rw[hv]at ux;simp only[dg,aZ]at ux;split at ux;cases hx:x with
  |none=>rw[hx]at ux;cases ux
  |some xs=>
   rw[hx]at ux hv;simp only[dg,aZ]at ux;subst ux;obtain⟨arr,T,fr,fp,hb,qV,hr,hn,hni,hl,Hb,IQ⟩:=h.boxes s xs hv;refine⟨arr,T,fr,fp,hb,qV,JD (io:=st.io) ahO (c:=cy C g st w) (c':=cy C g' (st.mask keep) w) rfl rfl rfl rfl rfl qU 0 hr ?_,hn,hni,hl,Hb,IQ⟩;intro j u hu t ht;simp only[cm,kv.HI]at ht;cases Ym:Nat.ble 4096 j with
   |true=>rw[Ym]at ht;cases ht
   |false=>
    rw[Ym]at ht;simp only[ae,aZ]at ht;have hj:j<4096:=by rcases bS j 4096 with gV|BM;exact gV;rw[gU BM]at Ym;cases Ym
    have h0:¬t%3=0:=by omega
    have h1:t/3/4096=s:=by omega
    have h2:t/3%4096=j:=by omega
    refine⟨.inl (by omega),?_⟩;show u=E0 C.ioV st a w g.β t;rw[E0,mI,aF h0,h1,h2,hb];simp only;rw[hu];rfl
  cases ux
structure iU (ds:List Nat) (st st':AS):Prop where
 len:st'.slots.length=st.slots.length
 slot:∀i,i∉ds->st'.slots[i]?=st.slots[i]?
 boxes:st'.boxes=st.boxes
 ep:st'.ep=st.ep
 iss:∀i,i∉ds->nth st'.iss i=nth st.iss i
 ajD:st'.iss.length=st.iss.length
 io:st'.io=st.io
theorem iU.refl (ds:dX)(st:AS):iU ds st st:=⟨rfl,λ_ _=>rfl,rfl,rfl,λ_ _=>rfl,rfl,rfl⟩
theorem iU.trans {st st1 st2:AS}(h:iU ds st st1)(k:iU ds st1 st2):iU ds st st2:=⟨k.len.trans h.len,λi hi=>(k.slot i hi).trans (h.slot i hi),k.boxes.trans h.boxes,k.ep.trans h.ep,λi hi=>(k.iss i hi).trans (h.iss i hi),k.ajD.trans h.ajD,k.io.trans h.io⟩
theorem iU.put {st:AS}(hd:∀i,d=some i->i∈ds)(v:AV):iU ds st (st.put d v):=by cases d with|none=>exact iU.refl _ _|some d=>refine⟨by rw[fK,aH],λi hi=>?_,kR,Lv,λi _=>by rw[TL],by rw[TL],LI⟩;rw[fK,aO];rintro rfl;exact hi (hd _ rfl)
theorem iU.fw {st:AS}(hd:∀i,d=some i->i∈ds):iU ds st (st.fw d):=by cases d with|none=>exact iU.refl _ _|some d=>refine⟨rfl,λi _=>rfl,rfl,rfl,λi hi=>?_,?_,rfl⟩;simp only[AS.fw,dB,eV];rw[aO];rintro rfl;exact hi (hd _ rfl);simp only[AS.fw,eV,aH]
theorem vp {α:Type}{o:au α}{k:α->au AS}{st':AS}(h:aa o k=some st')(hk:∀x,k x=some st'->iU ds st st'):iU ds st st':=by cases o with|none=>cases h|some x=>exact hk x h
theorem acr {n:Nat}{k:au AS}{st':AS}(h:room n k=some st')(hk:k=some st'->iU ds st st'):iU ds st st':=by unfold room at h;split at h;exact hk h;cases h
theorem Zf {op:BinOp}{k:IntKind}{x y:Int}{K:AC->au AS}{st':AS}(h:Kx op k x y K=some st')(hk:∀z,K z=some st'->iU ds st st'):iU ds st st':=by
 unfold Kx at h
 split at h<;>first
  |exact hk _ h
  |(split at h
    ·cases h
    ·exact hk _ h)
  |cases h
theorem Zg {op:BinOp}{x y:aq UInt8}{K:AC->au AS}{st':AS}(h:MY op x y K=some st')(hk:∀z,K z=some st'->iU ds st st'):iU ds st st':=by
 unfold MY at h
 split at h<;>first
  |exact acr h (hk _)
  |exact hk _ h
  |cases h
theorem LX {op:BinOp}{x y:AV}{K:AC->au AS}{st':AS}(h:Iy op x y K=some st')(hk:∀z,K z=some st'->iU ds st st'):iU ds st st':=by unfold Iy at h;split at h;split at h;split at h;cases h;exact hk _ h;split at h;cases h;exact hk _ h;split at h;exact Zf h hk;cases h;exact Zg h hk;split at h;exact hk _ h;exact hk _ h;cases h;split at h;exact vp h λb hb=>hk _ hb;exact vp h λb hb=>hk _ hb;cases h;cases h
theorem KE {lo hi:au Operand}{n:Nat}{K:Int->Int->au AS}{st0 st':AS}(h:ng st0 lo hi n K=some st')(hk:∀x y,K x y=some st'->iU ds st st'):iU ds st st':=by
 unfold ng at h
 split at h<;>first
  |exact hk _ _ h
  |cases h
theorem Pj {op:BinOp}{b:Bool}{K:AC->au AS}{st':AS}(h:Gd op b K=some st')(hk:∀c,K c=some st'->iU ds st st'):iU ds st st':=by unfold Gd at h;split at h;exact hk _ h;exact hk _ h;cases h
theorem Sa {E:Env}(Ap:∀f,(Γ f).io=false/\(Γ f).bx=false/\(Γ f).pr=false){o:Oper}{st':AS}(hq:gE an ds o=true)(hd:∀i,o.dst=some i->i∈ds)(h:dc E Γ an o st some=some st'):iU ds st st':=by
 have xT:∀v,some (st.put o.dst v)=some st'->iU ds st st':=λv hv=>by cases hv;exact iU.put hd v
 unfold dc at h;split at h;rename_i x ho;simp only[gE,ho]at hq;unfold Ew at h;cases Tk:o.dst with
 |none=>rw[Tk]at h;cases h
 |some d=>
  rw[Tk]at h hq;simp only at h hq;have hf:an.mv.contains d=false:=by simpa using hq
  rw[hf]at h;simp only[aY,cc]at h;cases h;exact iU.put (λi hi=>hd i (by rw[Tk];exact hi)) _
 rename_i x ho;have Ge:Ci an o=false\/∃y,x=y/\(∀v,y≠ .const v)/\(∀t,y≠ .tmp t):=by cases x with|tmp t=>left;simp only[gE,ho,ah,aP]at hq;exact hq.2|const v=>left;simpa only[gE,ho,aP]using hq|func f=>simp[gE,ho]at hq|global g=>simp[gE,ho]at hq
 have Ge:Ci an o=false:=by rcases Ge with h1|⟨y,rfl,h1,h2⟩;exact h1;cases x with|tmp t=>exact absurd rfl (h2 t)|const v=>exact absurd rfl (h1 v)|func f=>simp[gE,ho]at hq|global g=>simp[gE,ho]at hq
 simp only[gE,ho]at hq;rw[aF (by simp[Ge])]at h;unfold vV at h;have hx:iU ds st (st.take x).2:=by
  cases x with
  |tmp t=>
   have ht:t∈ds:=by simp only[ah]at hq;simpa using hq.1
   exact iU.put (d:=some t) (λi hi=>by cases hi;exact ht) _
  |const v=>exact iU.refl _ _
  |func f=>exact iU.refl _ _
  |global g=>exact iU.refl _ _
 split at h;split at h;exact xT _ h;cases h;rename_i v st1 _ tF;cases h;have:(st.take x).2=st1:=by rw[tF]
 rw[this]at hx;exact hx.trans (iU.put hd _);unfold Hv at h;split at h;rename_i t _;split at h;exact xT _ h;cases t with|true=>exact xT _ h|false=>exact xT _ h
 cases h;rename_i ho;simp[gE,ho]at hq;rename_i ho;simp[gE,ho]at hq;rename_i T p ho;simp only[gE,ho]at hq;have tF:HM an o=false:=by unfold HM;cases Tk:o.dst with|none=>rfl|some d=>rw[Tk]at hq;simp only[aP]at hq;simp only[hq,gO]
 unfold py at h;split at h;split at h;split at h;split at h;rename_i d Tk;rw[Tk]at hq;simp only at hq;have hf:an.mv.contains d=false:=by simpa using hq
 rw[hf]at h;simp only[aY,cc]at h;exact xT _ h;cases h;cases h;cases h;rw[aF (by simp[tF])]at h;split at h;split at h;exact xT _ h;cases h;unfold FW at h;split at h;split at h;split at h;split at h;obtain⟨y,_,h⟩:=N3 h;exact xT _ h;cases h;cases h;cases h;cases h;cases h;rename_i ho;simp[gE,ho]at hq;split at h;exact xT _ h;exact xT _ h;cases h;unfold C5 at h;split at h;split at h;exact LX h λz hz=>xT _ hz;cases h;split at h;split at h;exact LX h λz hz=>xT _ hz;cases h;cases h;split at h;split at h;cases h;exact Pj h λz hz=>xT _ hz;cases h;split at h;exact Pj h λz hz=>xT _ hz;cases h;exact LX h λz hz=>xT _ hz;unfold unC at h;split at h;exact xT _ h;exact xT _ h;exact xT _ h;cases h;unfold B4 at h;split at h;split at h;exact xT _ h;cases h;split at h;exact xT _ h;cases h;cases h;unfold mN at h;split at h;split at h;exact vp h λy hy=>xT _ hy;cases h;cases h;unfold DV at h;split at h;split at h;exact vp h λy hy=>xT _ hy;cases h;cases h;rename_i T parts ho;simp only[gE,ho]at hq;have he:parts=#[]:=by simpa using hq
 subst he;unfold DP at h;split at h;simp only[eO,List.map_nil]at h;split at h;exact xT _ h;cases h;cases h;rename_i ho;simp[gE,ho]at hq;rename_i ho;simp[gE,ho]at hq;rename_i ho;simp only[gE,ho,aP]at hq;unfold CQ at h;rw[aF (by simp[hq])]at h;split at h;split at h;exact KE h λx y hxy=>vp hxy λz hz=>xT _ hz;cases h;split at h;exact KE h λx y hxy=>vp hxy λz hz=>xT _ hz;cases h;cases h;rename_i ho;simp[gE,ho]at hq;rename_i ho;simp[gE,ho]at hq;rename_i ho;simp[gE,ho]at hq;rename_i ho;simp[gE,ho]at hq;unfold Pa at h;split at h;split at h;exact xT _ h;cases h;split at h;exact xT _ h;cases h;cases h;unfold QS at h;split at h;exact xT _ h;cases h;unfold QR at h;split at h;exact xT _ h;cases h;rename_i ho;simp[gE,ho]at hq;unfold Gb at h;split at h;rename_i k _;rw[(Ap k).2.1,(Ap k).2.2,(Ap k).1]at h;simp only[ae]at h;refine vp h λy hy=>?_;cases QI:(Γ k).sel y with|true=>rw[QI]at hy;cases hy;exact(iU.fw hd).trans (iU.put hd _)|false=>rw[QI]at hy;cases hy;exact(iU.fw hd).trans (iU.put hd _)
 cases h;cases h
theorem Wc {ops:aq Oper}{o:Oper}(ho:o∈ops){i:Nat}(hi:o.dst=some i):i∈Jm ops:=List.mem_filterMap.2 ⟨o,ho,hi⟩
theorem Pk {E:Env}(Ap:∀f,(Γ f).io=false/\(Γ f).bx=false/\(Γ f).pr=false){ops:aq Oper}{o:Oper}{st':AS}(ho:o∈ops)(hq:gE an (Jm ops) o=true)(h:gB E Γ an ops o st some=some st'):iU (Jm ops) st st':=by
 have hd:∀i,o.dst=some i->i∈Jm ops:=λi hi=>Wc ho hi;unfold gB at h;split at h;exact Sa Ap hq hd h;rename_i j JP hg;split at h;rename_i d Tk;have hdm:d∈Jm ops:=by rw[dB]at Tk;cases Nj:ops[j]? with|none=>rw[Nj]at Tk;cases Tk|some o'=>rw[Nj]at Tk;exact Wc (cU Nj) Tk
 have hp:∀t,iU (Jm ops) st (st.put (some d) (.one (.bool t))):=λt=>iU.put (λi hi=>by cases hi;exact hdm) _;split at h;rename_i b hb;have main:∀t,(if(t==JP)=true then dc E Γ an o (st.put (some d) (.one (.bool t))) some else some ((st.put (some d) (.one (.bool t))).put o.dst (.one .un)))=some st'->iU (Jm ops) st st':=by intro t ht;split at ht;exact(hp t).trans (Sa Ap hq hd ht);cases ht;exact(hp t).trans (iU.put hd _)
 cases b with|true=>exact main true h|false=>exact main false h
 cases h;exact iU.put hd _;cases h;cases h
theorem Wn {E:Env}(Ap:∀f,(Γ f).io=false/\(Γ f).bx=false/\(Γ f).pr=false){ops:aq Oper}(hq:∀o∈ops,gE an (Jm ops) o=true):∀(l:aq Oper)(st st':AS),(∀o∈l,o∈ops)->T0 E Γ an ops l st some=some st'->iU (Jm ops) st st'
 |[],st,st',_,h=>by cases h;exact iU.refl _ _
 |o::l,st,st',hl,h=>by simp only[T0]at h;rw[qS]at h;cases hg:gB E Γ an ops o st some with|none=>rw[hg]at h;cases h|some st1=>rw[hg]at h;exact(Pk Ap (hl o (by simp)) (hq o (hl o (by simp))) hg).trans (Wn Ap hq l st1 st' (λo' Nj=>hl o' (by simp[Nj])) h)
theorem Jl:∀(l:dX)(st:AS),(∀i∈l,i∈ds)->iU ds st (st.C9 l)
 |[],st,_=>iU.refl _ _
 |d::l,st,h=>by
  have hd:∀i,some d=some i->i∈ds:=λi hi=>by cases hi;exact h d (by simp)
  exact((iU.put hd _).trans (iU.fw hd)).trans (Jl l _ (λi hi=>h i (by simp[hi])))
theorem Rn:∀(l:dX)(st:AS)(i:Nat)(av:AV),(st.C9 l).slots[i]?=some av->i∈l\/st.slots[i]?=some .bot->av=.bot
 |[],st,i,av,h,hi=>by rcases hi with hi|hi;cases hi;have:st.slots[i]?=some av:=h;rw[hi]at this;cases this;rfl
 |d::l,st,i,av,h,hi=>by
  refine Rn l _ i av h ?_;by_cases OP:i∈l;exact .inl OP;refine .inr ?_;rw[vN,fK,bl];have gV:i<st.slots.length:=by
   have h1:=(Jl (ds:=d::l) l ((st.put (some d) .bot).fw (some d)) (λi hi=>by simp[hi])).len;have h2:=(aD.1 h).1;have h3:(AS.C9 ((st.put (some d) .bot).fw (some d)) l).slots.length=st.slots.length:=by rw[h1,vN,fK,aH]
   have h4:i<(AS.C9 ((st.put (some d) .bot).fw (some d)) l).slots.length:=h2;omega
  split;rename_i hdi;subst hdi;rw[aG gV];rename_i hdi;rcases hi with hi|hi;simp only[cv]at hi;rcases hi with hi|hi;exact absurd hi.symm hdi;exact absurd hi OP;exact hi
theorem Ro:∀(l:dX)(st:AS)(i:Nat),i∈l\/(nth st.iss i).getD true=true->(nth (st.C9 l).iss i).getD true=true
 |[],st,i,hi=>by rcases hi with hi|hi;cases hi;exact hi
 |d::l,st,i,hi=>by refine Ro l _ i ?_;by_cases OP:i∈l;exact .inl OP;refine .inr ?_;have he:(AS.fw (st.put (some d) .bot) (some d)).iss=gZ st.iss d true:=rfl;rw[he,eV,dB,bl];split;split<;>rfl;rename_i hdi;rcases hi with hi|hi;simp only[cv]at hi;rcases hi with hi|hi;exact absurd hi.symm hdi;exact absurd hi OP;rw[dB]at hi;exact hi
theorem nv.weaken {st':AS}(h:nv C st' a w)(hn:iU ds st st'){s:Nat}{b:Bool}(hb:getBool st' s=some b):nv C ((st.C9 ds).put (some s) (.one (.bool b))) a w:=by
 have II:st'.get s=.val false [.bool b]:=by unfold getBool at hb;split at hb;rename_i b' hg;cases hb;exact hg;cases hb
 have hkn:=h.known II;obtain⟨g,h⟩:=h;have hdn:=Jl (ds:=ds) ds st (λ_ hi=>hi);have vo:((st.C9 ds).put (some s) (.one (.bool b))).boxes=st'.boxes:=by rw[kR,hdn.boxes,hn.boxes]
 have xY:((st.C9 ds).put (some s) (.one (.bool b))).ep=st'.ep:=by rw[Lv,hdn.ep,hn.ep]
 have hlen:((st.C9 ds).put (some s) (.one (.bool b))).slots.length=st'.slots.length:=by rw[fK,aH,hdn.len,hn.len]
 have GH:∀t,lL st' t->lL ((st.C9 ds).put (some s) (.one (.bool b))) t:=by intro t ht;rw[KA];rcases ht with ht|ht;exact .inl ht;refine .inr (Ro ds st _ ?_);by_cases hi:t/3/4096∈ds;exact .inl hi;exact .inr (by rw[<-hn.iss _ hi];exact ht)
 have qU:∀s',gA st' s'->gA ((st.C9 ds).put (some s) (.one (.bool b))) s':=λs' hs=>by unfold gA at hs⊢;rw[vo];exact hs
 have hle:(cy C g st' w).Le (cy C g ((st.C9 ds).put (some s) (.one (.bool b))) w):=⟨rfl,λt ht=>⟨GH t ht,rfl⟩,λ_ _ _ _ _ hv=>hv,by show st'.ep<=_;rw[<-xY];exact aR _,λs' hs=>⟨qU s' hs,rfl⟩,λ_ b o u ho hu=>⟨ho,hu⟩⟩
 refine⟨g,h.step (λ_=>True) hle h.defers (by rw[hlen];exact h.size) (by rw[vo,hlen];exact h.bsize) h.frame h.fB (λb x _ hx=>⟨hx,rfl,rfl⟩) ?_ ?_ ?_ (.inl ⟨bN,by rw[LI,hdn.io,hn.io]⟩)⟩;intro i av hi;rw[fK,bl]at hi;split at hi;rename_i hsi;subst hsi;split at hi;cases hi;refine .inr ⟨[],mO ?_,by simp,by simp⟩;exact⟨hkn,rfl⟩;cases hi;by_cases VB:i∈ds;have:=Rn ds st i av hi (.inl VB);subst this;exact .inr ⟨[],fL.bot _ _,by simp,by simp⟩;rw[hdn.slot i VB]at hi;exact .inl ⟨bN,by rw[hn.slot i VB];exact hi,rfl⟩;intro s' cs hs;rw[vo]at hs;exact .inl ⟨bN,hs,rfl⟩;intro k v av hk;simp at hk
theorem agk (Γ:xV)(f:Nat):(Γ.calm f).io=false/\(Γ.calm f).bx=false/\(Γ.calm f).pr=false:=by unfold xV.calm;cases h:(Γ f).io with|true=>exact⟨rfl,rfl,rfl⟩|false=>cases h2:(Γ f).bx with|true=>exact⟨rfl,rfl,rfl⟩|false=>cases h3:(Γ f).pr with|true=>exact⟨rfl,rfl,rfl⟩|false=>exact⟨h,h2,h3⟩
theorem ahp (Γ:xV)(f:Nat):(Γ.JM f).io=false/\((Γ.JM f).bx=true->(Γ.JM f).cur=true)/\(Γ.JM f).pr=false:=by unfold xV.JM;cases h:(Γ f).io with|true=>exact⟨rfl,λh=>(by cases h),rfl⟩|false=>cases h3:(Γ f).pr with|true=>exact⟨rfl,λh=>(by cases h),rfl⟩|false=>cases h2:(Γ f).bx with|false=>exact⟨h,λh=>(by simp[h2]at h),h3⟩|true=>cases h4:(Γ f).cur with|true=>exact⟨h,λ_=>h4,h3⟩|false=>exact⟨rfl,λh=>(by cases h),rfl⟩
theorem ahq (Ap:∀f,(Γ f).io=false/\(Γ f).bx=false/\(Γ f).pr=false)(f:Nat):(Γ.JM f).io=false/\(Γ.JM f).bx=false/\(Γ.JM f).pr=false:=by have h:=Ap f;unfold xV.JM;rw[h.1,h.2.1,h.2.2];exact h
theorem Sound.JM {E:Env}(h:Sound P E Γ):Sound P E Γ.JM:=by refine⟨h.ty,h.eqs,h.fts,λf=>?_,h.mixed⟩;unfold xV.JM;cases (Γ f).io||(Γ f).pr||((Γ f).bx&& !(Γ f).cur)with|true=>intro xs y hy;cases hy|false=>exact h.fns f
theorem Sound.calm {E:Env}(h:Sound P E Γ):Sound P E Γ.calm:=by refine⟨h.ty,h.eqs,h.fts,λf=>?_,h.mixed⟩;unfold xV.calm;cases (Γ f).io with|true=>intro xs y hy;cases hy|false=>cases (Γ f).bx with|true=>intro xs y hy;cases hy|false=>cases (Γ f).pr with|true=>intro xs y hy;cases hy|false=>exact h.fns f
end Go.Dn
