import Derived.Test.YthllnaiaikjelaaGreatDnDen
import Derived.Test.YthllnaiaikjelaaGreatDnNat
/- What is kept at a loop's door; what a region whose ways meet again leaves. -/
namespace Go.Dn
open Go.RowKit
variable {P:Program} {C:Ctx} {st:AS} {a:Act} {w:World} {R:Type} {r:R}
variable {an:An} {Γ:Cr} {io:ar AC} {d:au Nat} {ds keep:ei}
theorem Om (keep:ei)(ep:Nat)(io:ar AC):∀(l:ar AV)(n i:Nat),(qB keep ep io n l)[i]?=(l[i]?).map λv=>if keep.contains (n+i) then v.mask keep ep io (n+i) else .bot
 |[],n,i=>by simp[qB]
 |v::l,n,0=>by simp[qB]
 |v::l,n,i+1=>by simp only[qB,fg];rw[Om keep ep io l (n+1) i,show n+1+i=n+(i+1) by omega]
theorem IH (keep:ei)(ep:Nat)(io:ar AC):∀(l:ar (au (ar AC)))(n i:Nat),(qA keep ep io n l)[i]?=(l[i]?).map λb=>if keep.contains (n+i) then b.map (R0 keep ep io (.box (n+i)) 0) else none
 |[],n,i=>by simp[qA]
 |v::l,n,0=>by simp[qA]
 |v::l,n,i+1=>by simp only[qA,fg];rw[IH keep ep io l (n+1) i,show n+1+i=n+(i+1) by omega]
theorem CP (keep:ei)(ep:Nat)(io:ar AC):∀(l:ar AV)(n:Nat),(qB keep ep io n l).length=l.length
 |[],_=>rfl
 |_::l,n=>by simp[qB,CP keep ep io l]
theorem Jm (keep:ei)(ep:Nat)(io:ar AC):∀(l:ar (au (ar AC)))(n:Nat),(qA keep ep io n l).length=l.length
 |[],_=>rfl
 |_::l,n=>by simp[qA,Jm keep ep io l]
def ae9:Value->AV->iW
 | .agg vs,.val true _=>vs.toList
 |v,_=>[v]
theorem afb {g:Bool}{v:Value}{vs:iW}{cs:ar AC}(h:Cut g v vs):ae9 v (.val g cs)=vs:=by cases g with|true=>simp only[Cut,cd]at h;subst h;simp[ae9]|false=>simp only[Cut]at h;subst h;cases v<;>rfl
def JX (ioV:iW)(st:AS)(a:Act)(w:World)(β:Nat->Nat)(t:Nat):Value:=
 if t%3=0/\t/3/4096=1000003 then(ioV[t/3%4096]?).getD undef
 else if t%3=0 then((ae9 (a.tmps.getD (t/3/4096) undef) (st.get (t/3/4096)))[t/3%4096]?).getD undef
 else match w.heap[β (t/3/4096)]? with
  |some (.cells arr _ _)=>(arr.toList[t/3%4096]?).getD undef
  |_=>undef
def aeN (c c':RC)(io:ar AC):Prop:=∀j n (e:CT)(ys:ar e.D),AC.amO io j n e=some ys->∃v0 fp0,eU c.hw c.w (.sl e) [v0] ys fp0/\v0=c.hdr n/\∀q,(lW.io j).MU=some q->c'.iss q/\v0=c'.hdr q
theorem ajP {c c':RC}(P5:aeN c c' io){rt:lW}{v:Value}{x:AC}{fp:ei}(h:iD c v x fp)(GL:c'.hw=c.hw)(hw:c'.w=c.w)(hA:c'.A=c.A)(Cw:c'.ep=0)(O4:c'.β=c.β)(uH:∀s,keep.contains s=true->c.QF s->c'.QF s)(nm:∀t,rt.MU=some t->c'.iss t/\v=c'.hdr t):iD c' v (x.mask keep c.ep io rt) fp:=by
 have hS:c'.S=c.S:=by funext b o;simp[RC.S,GL,hA]
 cases x with
 |int k n=>exact h
 |bool b=>exact h
 |str s=>exact h
 |kS=>exact h
 |fn f=>exact h
 |un=>exact h
 |bot=>exact h
 |ptr s off=>simp only[AC.mask];split;rename_i hk;exact⟨by rw[O4];exact h.1,uH s hk h.2.1,h.2.2⟩;exact h.2.2
 |HM fl e y i off=>cases fl with|own t=>exact h.elim|nest _ _ _ _ _ _=>exact h.elim|part _ _ _ _=>exact h.elim|fL _ _ _=>exact h.elim|arg _=>exact h.1|loc ep pv=>exact h.1
 |sl fl e xs=>
  cases fl with
  |own t=>exact⟨eU.mono h.1 (λb _=>⟨by rw[hw],by rw[GL]⟩),nm⟩
  |nest _ _ _ _ _ _=>exact h.1
  |part _ _ _ _=>exact h.1
  |fL _ _ _=>obtain⟨_,⟨k,hk,h3⟩,_⟩:=h;exact⟨λq hq=>(by cases hq),⟨k,hk,h3.mono (λb hb=>⟨by rw[hw],by rw[GL]⟩)⟩,by simp⟩
  |arg _=>exact⟨h.1,by rw[hA,hw];exact h.2⟩
  |loc ep pv=>
   obtain⟨h1,h2,h3,h4,h5⟩:=h;have plain:iD c' v (if(ep==c.ep)=true then AC.sl (.loc 0 none) e xs else .bot) fp:=by split;rename_i he;refine⟨h1,by rw[Cw];exact ba _,h3,λ_=>?_,by simp⟩;rw[hS,hw];exact h4 (by simpa using he);exact h1
   simp only[AC.mask];split;rename_i j n;split;rename_i ys Mm;obtain⟨v0,fp0,fB,SW,hq⟩:=P5 j n e ys Mm;obtain⟨_,k2⟩:=h5 _ _ rfl;have hv:v0=v:=SW.trans k2.symm;subst hv;refine⟨h1,by rw[Cw];exact ba _,QC fB,λ_=>?_,λr t hp=>?_⟩;rw[hS,hw];exact eU.rep (λb o ho=> .inr ho) fB;cases lN:(lW.io j).MU with|none=>rw[lN]at hp;cases hp|some q=>rw[lN]at hp;simp at hp;obtain⟨_,rfl⟩:=hp;exact⟨(hq q lN).1,(hq q lN).2⟩
   exact plain;exact plain
theorem Pc {c c':RC}(P5:aeN c c' io){f:Nat->lW}(GL:c'.hw=c.hw)(hw:c'.w=c.w)(hA:c'.A=c.A)(Cw:c'.ep=0)(O4:c'.β=c.β)
 (uH:∀s,keep.contains s=true->c.QF s->c'.QF s):∀{vs:iW}{xs:ar AC}{fp:ei}(j:Nat),bE c vs xs fp->
  (∀i v,vs[i]?=some v->∀t,(f (j+i)).MU=some t->c'.iss t/\v=c'.hdr t)->bE c' vs (R0 keep c.ep io f j xs) fp
 |[],[],_,_,h,_=>h
 |v::_,_::_,_,j,h,hm=>by obtain⟨f1,f2,rfl,h1,h2⟩:=h;exact⟨f1,f2,rfl,ajP P5 h1 GL hw hA Cw O4 uH (λt ht=>hm 0 v rfl t ht),Pc P5 GL hw hA Cw O4 uH (j+1) h2 (λi u hu t ht=>hm (i+1) u (by simpa using hu) t (by rwa[show j+(i+1)=j+1+i by omega]))⟩
 |[],_::_,_,_,h,_=>h.elim
 |_::_,[],_,_,h,_=>h.elim
theorem ana {c:RC}{v:Value}{x:AC}{fp:ei}(h:iD c v x fp)(Nn:∀(tag:au Nat)(e:CT)(xs:ar e.D),x=.sl (.own tag) e xs->False)(aqB:∀(tag:au Nat)(i:Int)(ep:au Nat)(e:CT)(xs:ar e.D),x=.sl (.fL tag i ep) e xs->False):fp=[]:=by
 cases x with
 |int k n=>exact h.2
 |bool b=>exact h.2
 |str s=>exact h.2
 |kS=>exact h.2
 |fn f=>exact h.2
 |un=>exact h.2
 |bot=>exact h
 |ptr s off=>exact h.2.2
 |HM fl e y i off=>cases fl with|own t=>exact h.elim|nest _ _ _ _ _ _=>exact h.elim|part _ _ _ _=>exact h.elim|fL _ _ _=>exact h.elim|arg _=>exact h.1|loc ep pv=>exact h.1
 |sl fl e xs=>cases fl with|own t=>exact(Nn _ _ _ rfl).elim|nest _ _ _ _ _ _=>exact h.1|part _ _ _ _=>exact h.1|fL _ _ _=>exact(aqB _ _ _ _ _ rfl).elim|arg _=>exact h.1|loc ep pv=>exact h.1
theorem pL.mask (h:pL C st a w)(keep:ei):pL C (st.mask keep) a w:=by
 obtain⟨g,h⟩:=h;let g':Gh:={g with hdr:=JX C.ioV st a w g.β}
 have uH:∀s,keep.contains s=true->ij st s->ij (st.mask keep) s:=by rintro s hk ⟨cs,hs⟩;refine⟨R0 keep st.ep st.io (.box s) 0 cs,?_⟩;show(qA keep st.ep st.io 0 st.boxes)[s]?=_;rw[IH,hs];simp only[dB,cv,aM hk]
 obtain⟨fpi,hri,hni,hli⟩:=h.io;have arE:∀j v,C.ioV[j]?=some v->∀q,(lW.io j).MU=some q->nr (st.mask keep) q/\v=JX C.ioV st a w g.β q:=by
  intro j v hv q hq;simp only[lW.MU]at hq;cases hb:Nat.ble 4096 j with
  |true=>rw[hb]at hq;cases hq
  |false=>
   rw[hb]at hq;simp only[ae,bf,FC]at hq;have hj:j<4096:=by rcases bS j 4096 with iJ|Fp;exact iJ;rw[iL Fp]at hb;cases hb
   have h0:q%3=0:=by omega
   have h1:q/3/4096=1000003:=by omega
   have h2:q/3%4096=j:=by omega
   refine⟨.inl (by omega),?_⟩;rw[JX,aM ⟨h0,h1⟩,h2,hv];rfl
 have apU:aeN (cP C g st w) (cP C g' (st.mask keep) w) st.io:=by
  intro j n e ys Mm;unfold AC.amO at Mm;split at Mm;rename_i t' e' ys' hj;split at Mm;rename_i he;subst he;cases ht:(t'==n)with
  |false=>rw[ht]at Mm;cases Mm
  |true=>
   rw[ht]at Mm;have:t'=n:=by simpa using ht
   subst this;cases Mm;rw[dY]at hj;obtain⟨v,f,hv,hr,_⟩:=hri.get j _ hj;exact⟨v,f,hr.1,(hr.2 t' rfl).2,λq hq=>arE j v hv q hq⟩
  cases Mm;cases Mm
 have aAc:∀(j:Nat){vs:iW}{xs:ar AC}{fp:ei},bE (cP C g st w) vs xs fp->(∀i v,vs[i]?=some v->C.ioV[j+i]?=some v)->bE (cP C g' (st.mask keep) w) vs (age keep j xs) fp:=by
  intro j vs
  induction vs generalizing j with
  |nil=>intro xs fp hr _;cases xs with
   |nil=>exact hr
   |cons _ _=>exact hr.elim
  |cons v vs ih=>
   intro xs fp hr hv
   cases xs with
   |nil=>exact hr.elim
   |cons x xs=>
    obtain⟨f1,f2,rfl,r1,r2⟩:=hr
    refine⟨f1,f2,rfl,?_,ih (j+1) r2 (λi u hu=>by rw[show j+1+i=j+(i+1) by omega];exact hv (i+1) u (by simpa using hu))⟩
    have SW:=hv 0 v rfl
    rw[dZ]at SW
    split
    ·rename_i tg e ys
     exact⟨r1.1,λq hq=>arE j v SW q hq⟩
    ·rename_i tag i ep e ys
     obtain⟨_,⟨k,hk,h3⟩,_⟩:=r1
     exact⟨λq hq=>(by cases hq),⟨k,hk,h3⟩,by simp⟩
    ·rename_i s off
     split
     ·rename_i hk
      exact⟨r1.1,uH s hk r1.2.1,r1.2.2⟩
     ·exact r1.2.2
    ·rename_i Nn aqB _
     cases hfl:x.hY with
     |true=>
      obtain⟨rfl,k⟩:=nA (c':=cP C g' (st.mask keep) w) r1 hfl
      exact k
     |false=>exact ana r1 Nn aqB
 refine⟨g',h.defers,?_,?_,λi av hi=>?_,λs cs hs=>?_,λk v av hk=>by simp at hk,h.fW,h.frame,⟨fpi,aAc 0 hri (λi v hv=>by rw[cv];exact hv),hni,hli⟩⟩;show _=(qB keep st.ep st.io 0 st.slots).length;rw[CP];exact h.size;show(qA keep st.ep st.io 0 st.boxes).length=(qB keep st.ep st.io 0 st.slots).length;rw[CP,Jm];exact h.bsize;have uw:(qB keep st.ep st.io 0 st.slots)[i]?=some av:=hi;rw[Om,cv]at uw;cases hv:st.slots[i]? with
 |none=>rw[hv]at uw;cases uw
 |some x=>
  rw[hv]at uw;simp only[dB,bf]at uw;split at uw
  ·subst uw
   cases hx:x with
   |Af ts=>exact⟨[],gj.bot _ _,by simp,by simp⟩
   |val gg cs=>
    rw[hx]at hv
    obtain⟨fp,⟨vs,eP,hr⟩,hn,hl⟩:=h.slots i _ hv
    refine⟨fp,⟨vs,eP,Pc (io:=st.io) apU (c:=cP C g st w) (c':=cP C g' (st.mask keep) w) rfl rfl rfl rfl rfl uH 0 hr ?_⟩,hn,hl⟩
    intro j u hu t ht
    simp only[cv,lW.MU]at ht
    cases hb:Nat.ble 4096 j with
    |true=>rw[hb]at ht;cases ht
    |false=>
     rw[hb]at ht
     simp only[ae]at ht
     cases LU:Nat.ble 1000000 i with
     |true=>rw[LU]at ht;cases ht
     |false=>
     rw[LU]at ht
     simp only[ae,bf]at ht
     have hi6:i<1000000:=by rcases bS i 1000000 with iJ|Fp;exact iJ;rw[iL Fp]at LU;cases LU
     have hj:j<4096:=by rcases bS j 4096 with iJ|Fp;exact iJ;rw[iL Fp]at hb;cases hb
     have h0:t%3=0:=by omega
     have h1:t/3/4096=i:=by omega
     have h2:t/3%4096=j:=by omega
     refine⟨.inl (by omega),?_⟩
     show u=JX C.ioV st a w g.β t
     rw[JX,ny,aM h0,h1,h2,get_eq hv,afb eP,hu];rfl
  subst uw;exact⟨[],gj.bot _ _,by simp,by simp⟩
 have yu:(qA keep st.ep st.io 0 st.boxes)[s]?=some (some cs):=hs;rw[IH,cv]at yu;cases hv:st.boxes[s]? with
 |none=>rw[hv]at yu;cases yu
 |some x=>
  rw[hv]at yu;simp only[dB,bf]at yu;split at yu;cases hx:x with
  |none=>rw[hx]at yu;cases yu
  |some xs=>
   rw[hx]at yu hv;simp only[dB,bf]at yu;subst yu;obtain⟨arr,T,fr,fp,hb,uI,hr,hn,hni,hl,LW,Ob⟩:=h.boxes s xs hv;refine⟨arr,T,fr,fp,hb,uI,Pc (io:=st.io) apU (c:=cP C g st w) (c':=cP C g' (st.mask keep) w) rfl rfl rfl rfl rfl uH 0 hr ?_,hn,hni,hl,LW,Ob⟩;intro j u hu t ht;simp only[cv,lW.MU]at ht;cases hbb:Nat.ble 4096 j with
   |true=>rw[hbb]at ht;cases ht
   |false=>
    rw[hbb]at ht;simp only[ae,bf]at ht;have hj:j<4096:=by rcases bS j 4096 with iJ|Fp;exact iJ;rw[iL Fp]at hbb;cases hbb
    have h0:¬t%3=0:=by omega
    have h1:t/3/4096=s:=by omega
    have h2:t/3%4096=j:=by omega
    refine⟨.inl (by omega),?_⟩;show u=JX C.ioV st a w g.β t;rw[JX,ny,aK h0,h1,h2,hb];simp only;rw[hu];rfl
  cases yu
structure jS (ds:List Nat) (st st':AS):Prop where
 len:st'.slots.length=st.slots.length
 slot:∀i,i∉ds->st'.slots[i]?=st.slots[i]?
 boxes:st'.boxes=st.boxes
 ep:st'.ep=st.ep
 iss:∀i,i∉ds->nth st'.iss i=nth st.iss i
 arX:st'.iss.length=st.iss.length
 io:st'.io=st.io
theorem jS.refl (ds:ei)(st:AS):jS ds st st:=⟨rfl,λ_ _=>rfl,rfl,rfl,λ_ _=>rfl,rfl,rfl⟩
theorem jS.trans {st st1 st2:AS}(h:jS ds st st1)(k:jS ds st1 st2):jS ds st st2:=⟨k.len.trans h.len,λi hi=>(k.slot i hi).trans (h.slot i hi),k.boxes.trans h.boxes,k.ep.trans h.ep,λi hi=>(k.iss i hi).trans (h.iss i hi),k.arX.trans h.arX,k.io.trans h.io⟩
theorem jS.put {st:AS}(hd:∀i,d=some i->i∈ds)(v:AV):jS ds st (st.put d v):=by cases d with|none=>exact jS.refl _ _|some d=>refine⟨by rw[gi,aL],λi hi=>?_,mx,RB,λi _=>by rw[aau],by rw[aau],RU⟩;rw[gi,aZ];rintro rfl;exact hi (hd _ rfl)
theorem jS.fR {st:AS}(hd:∀i,d=some i->i∈ds):jS ds st (st.fR d):=by cases d with|none=>exact jS.refl _ _|some d=>refine⟨rfl,λi _=>rfl,rfl,rfl,λi hi=>?_,?_,rfl⟩;simp only[AS.fR,dY,fE];rw[aZ];rintro rfl;exact hi (hd _ rfl);simp only[AS.fR,fE,aL]
theorem zv {α:Type}{o:au α}{k:α->au AS}{st':AS}(h:aa o k=some st')(hk:∀x,k x=some st'->jS ds st st'):jS ds st st':=by cases o with|none=>cases h|some x=>exact hk x h
theorem ajZ {n:Nat}{k:au AS}{st':AS}(h:room n k=some st')(hk:k=some st'->jS ds st st'):jS ds st st':=by unfold room at h;split at h;exact hk h;cases h
theorem ago {op:BinOp}{k:IntKind}{x y:Int}{K:AC->au AS}{st':AS}(h:Qu op k x y K=some st')(hk:∀z,K z=some st'->jS ds st st'):jS ds st st':=by
 unfold Qu at h
 split at h<;>first
  |exact hk _ h
  |(split at h
    ·cases h
    ·exact hk _ h)
  |cases h
theorem agp {op:BinOp}{x y:ar UInt8}{K:AC->au AS}{st':AS}(h:Tm op x y K=some st')(hk:∀z,K z=some st'->jS ds st st'):jS ds st st':=by
 unfold Tm at h
 split at h<;>first
  |exact ajZ h (hk _)
  |exact hk _ h
  |cases h
theorem R6 {op:BinOp}{x y:AV}{K:AC->au AS}{st':AS}(h:NQ op x y K=some st')(hk:∀z,K z=some st'->jS ds st st'):jS ds st st':=by unfold NQ at h;split at h;split at h;split at h;cases h;exact hk _ h;split at h;cases h;exact hk _ h;split at h;exact ago h hk;cases h;exact agp h hk;split at h;exact hk _ h;exact hk _ h;cases h;split at h;exact zv h λb hb=>hk _ hb;exact zv h λb hb=>hk _ hb;cases h;cases h
theorem QA {lo hi:au Operand}{n:Nat}{K:Int->Int->au AS}{st0 st':AS}(h:pe st0 lo hi n K=some st')(hk:∀x y,K x y=some st'->jS ds st st'):jS ds st st':=by
 unfold pe at h
 split at h<;>first
  |exact hk _ _ h
  |cases h
theorem VS {op:BinOp}{b:Bool}{K:AC->au AS}{st':AS}(h:Lc op b K=some st')(hk:∀c,K c=some st'->jS ds st st'):jS ds st st':=by unfold Lc at h;split at h;exact hk _ h;exact hk _ h;cases h
theorem YP {E:Env}(EH:∀f,(Γ f).io=false/\(Γ f).bx=false/\(Γ f).pr=false){o:Oper}{st':AS}(hq:ix an ds o=true)(hd:∀i,o.dst=some i->i∈ds)(h:df E Γ an o st some=some st'):jS ds st st':=by
 have Cq:∀v,some (st.put o.dst v)=some st'->jS ds st st':=λv hv=>by cases hv;exact jS.put hd v
 unfold df at h;split at h;rename_i x ho;simp only[ix,ho]at hq;unfold Jn at h;cases hdd:o.dst with
 |none=>rw[hdd]at h;cases h
 |some d=>
  rw[hdd]at h hq;simp only at h hq;have hf:an.mv.contains d=false:=by simpa using hq
  rw[hf]at h;simp only[bg,cE]at h;cases h;exact jS.put (λi hi=>hd i (by rw[hdd];exact hi)) _
 rename_i x ho;have Lf:GV an o=false\/∃y,x=y/\(∀v,y≠ .const v)/\(∀t,y≠ .tmp t):=by cases x with|tmp t=>left;simp only[ix,ho,ah,aW]at hq;exact hq.2|const v=>left;simpa only[ix,ho,aW]using hq|func f=>simp[ix,ho]at hq|global g=>simp[ix,ho]at hq
 have Lf:GV an o=false:=by rcases Lf with h1|⟨y,rfl,h1,h2⟩;exact h1;cases x with|tmp t=>exact absurd rfl (h2 t)|const v=>exact absurd rfl (h1 v)|func f=>simp[ix,ho]at hq|global g=>simp[ix,ho]at hq
 simp only[ix,ho]at hq;rw[aK (by simp[Lf])]at h;unfold Ai at h;have hx:jS ds st (st.take x).2:=by
  cases x with
  |tmp t=>
   have ht:t∈ds:=by simp only[ah]at hq;simpa using hq.1
   exact jS.put (d:=some t) (λi hi=>by cases hi;exact ht) _
  |const v=>exact jS.refl _ _
  |func f=>exact jS.refl _ _
  |global g=>exact jS.refl _ _
 split at h;split at h;exact Cq _ h;cases h;rename_i v st1 _ xC;cases h;have:(st.take x).2=st1:=by rw[xC]
 rw[this]at hx;exact hx.trans (jS.put hd _);unfold MD at h;split at h;rename_i t _;split at h;exact Cq _ h;cases t with|true=>exact Cq _ h|false=>exact Cq _ h
 cases h;rename_i ho;simp[ix,ho]at hq;rename_i ho;simp[ix,ho]at hq;rename_i T p ho;simp only[ix,ho]at hq;have xC:MY an o=false:=by unfold MY;cases hdd:o.dst with|none=>rfl|some d=>rw[hdd]at hq;simp only[aW]at hq;simp only[hq,gN]
 unfold sC at h;split at h;split at h;split at h;split at h;rename_i d hdd;rw[hdd]at hq;simp only at hq;have hf:an.mv.contains d=false:=by simpa using hq
 rw[hf]at h;simp only[bg,cE]at h;exact Cq _ h;cases h;cases h;cases h;rw[aK (by simp[xC])]at h;split at h;split at h;exact Cq _ h;cases h;unfold KQ at h;split at h;split at h;split at h;split at h;obtain⟨y,_,h⟩:=UE h;exact Cq _ h;cases h;cases h;cases h;cases h;cases h;rename_i ho;simp[ix,ho]at hq;split at h;exact Cq _ h;exact Cq _ h;cases h;unfold HI at h;split at h;split at h;exact R6 h λz hz=>Cq _ hz;cases h;split at h;split at h;exact R6 h λz hz=>Cq _ hz;cases h;cases h;split at h;split at h;cases h;exact VS h λz hz=>Cq _ hz;cases h;split at h;exact VS h λz hz=>Cq _ hz;cases h;exact R6 h λz hz=>Cq _ hz;unfold unC at h;split at h;exact Cq _ h;exact Cq _ h;exact Cq _ h;cases h;unfold GC at h;split at h;split at h;exact Cq _ h;cases h;split at h;exact Cq _ h;cases h;cases h;unfold oO at h;split at h;split at h;exact zv h λy hy=>Cq _ hy;cases h;cases h;unfold ID at h;split at h;split at h;exact zv h λy hy=>Cq _ hy;cases h;cases h;rename_i T parts ho;simp only[ix,ho]at hq;have he:parts=#[]:=by simpa using hq
 subst he;unfold Iw at h;split at h;simp only[ft,List.map_nil]at h;split at h;exact Cq _ h;cases h;cases h;rename_i ho;simp[ix,ho]at hq;rename_i ho;simp[ix,ho]at hq;rename_i ho;simp only[ix,ho,aW]at hq;unfold Hu at h;rw[aK (by simp[hq])]at h;split at h;split at h;exact QA h λx y hxy=>zv hxy λz hz=>Cq _ hz;cases h;split at h;exact QA h λx y hxy=>zv hxy λz hz=>Cq _ hz;cases h;cases h;rename_i ho;simp[ix,ho]at hq;rename_i ho;simp[ix,ho]at hq;rename_i ho;simp[ix,ho]at hq;rename_i ho;simp[ix,ho]at hq;unfold VN at h;split at h;split at h;exact Cq _ h;cases h;split at h;exact Cq _ h;cases h;cases h;unfold Xo at h;split at h;exact Cq _ h;cases h;unfold Xn at h;split at h;exact Cq _ h;cases h;rename_i ho;simp[ix,ho]at hq;unfold La at h;split at h;rename_i k _;rw[(EH k).2.1,(EH k).2.2,(EH k).1]at h;simp only[ae]at h;refine zv h λy hy=>?_;cases Xf:(Γ k).sel y with|true=>rw[Xf]at hy;cases hy;exact(jS.fR hd).trans (jS.put hd _)|false=>rw[Xf]at hy;cases hy;exact(jS.fR hd).trans (jS.put hd _)
 cases h;cases h
theorem ac7 {ops:ar Oper}{o:Oper}(ho:o∈ops){i:Nat}(hi:o.dst=some i):i∈OT ops:=List.mem_filterMap.2 ⟨o,ho,hi⟩
theorem VT {E:Env}(EH:∀f,(Γ f).io=false/\(Γ f).bx=false/\(Γ f).pr=false){ops:ar Oper}{o:Oper}{st':AS}(ho:o∈ops)(hq:ix an (OT ops) o=true)(h:im E Γ an ops o st some=some st'):jS (OT ops) st st':=by
 have hd:∀i,o.dst=some i->i∈OT ops:=λi hi=>ac7 ho hi;unfold im at h;split at h;exact YP EH hq hd h;rename_i j Pt hg;split at h;rename_i d hdd;have hdm:d∈OT ops:=by rw[dY]at hdd;cases TH:ops[j]? with|none=>rw[TH]at hdd;cases hdd|some o'=>rw[TH]at hdd;exact ac7 (bM TH) hdd
 have hp:∀t,jS (OT ops) st (st.put (some d) (.one (.bool t))):=λt=>jS.put (λi hi=>by cases hi;exact hdm) _;split at h;rename_i b hb;have main:∀t,(if(t==Pt)=true then df E Γ an o (st.put (some d) (.one (.bool t))) some else some ((st.put (some d) (.one (.bool t))).put o.dst (.one .un)))=some st'->jS (OT ops) st st':=by intro t ht;split at ht;exact(hp t).trans (YP EH hq hd ht);cases ht;exact(hp t).trans (jS.put hd _)
 cases b with|true=>exact main true h|false=>exact main false h
 cases h;exact jS.put hd _;cases h;cases h
theorem ado {E:Env}(EH:∀f,(Γ f).io=false/\(Γ f).bx=false/\(Γ f).pr=false){ops:ar Oper}(hq:∀o∈ops,ix an (OT ops) o=true):∀(l:ar Oper)(st st':AS),(∀o∈l,o∈ops)->aaH E Γ an ops l st some=some st'->jS (OT ops) st st'
 |[],st,st',_,h=>by cases h;exact jS.refl _ _
 |o::l,st,st',hl,h=>by simp only[aaH]at h;rw[uF]at h;cases hg:im E Γ an ops o st some with|none=>rw[hg]at h;cases h|some st1=>rw[hg]at h;exact(VT EH (hl o (by simp)) (hq o (hl o (by simp))) hg).trans (ado EH hq l st1 st' (λo' TH=>hl o' (by simp[TH])) h)
theorem OS:∀(l:ei)(st:AS),(∀i∈l,i∈ds)->jS ds st (st.HL l)
 |[],st,_=>jS.refl _ _
 |d::l,st,h=>by
  have hd:∀i,some d=some i->i∈ds:=λi hi=>by cases hi;exact h d (by simp)
  exact((jS.put hd _).trans (jS.fR hd)).trans (OS l _ (λi hi=>h i (by simp[hi])))
theorem X1:∀(l:ei)(st:AS)(i:Nat)(av:AV),(st.HL l).slots[i]?=some av->i∈l\/st.slots[i]?=some .bot->av=.bot
 |[],st,i,av,h,hi=>by rcases hi with hi|hi;cases hi;have:st.slots[i]?=some av:=h;rw[hi]at this;cases this;rfl
 |d::l,st,i,av,h,hi=>by
  refine X1 l _ i av h ?_;by_cases Vq:i∈l;exact .inl Vq;refine .inr ?_;rw[zY,gi,bu];have iJ:i<st.slots.length:=by
   have h1:=(OS (ds:=d::l) l ((st.put (some d) .bot).fR (some d)) (λi hi=>by simp[hi])).len;have h2:=(aJ.1 h).1;have h3:(AS.HL ((st.put (some d) .bot).fR (some d)) l).slots.length=st.slots.length:=by rw[h1,zY,gi,aL]
   have h4:i<(AS.HL ((st.put (some d) .bot).fR (some d)) l).slots.length:=h2;omega
  split;rename_i hdi;subst hdi;rw[aM iJ];rename_i hdi;rcases hi with hi|hi;simp only[cq]at hi;rcases hi with hi|hi;exact absurd hi.symm hdi;exact absurd hi Vq;exact hi
theorem X2:∀(l:ei)(st:AS)(i:Nat),i∈l\/(nth st.iss i).getD true=true->(nth (st.HL l).iss i).getD true=true
 |[],st,i,hi=>by rcases hi with hi|hi;cases hi;exact hi
 |d::l,st,i,hi=>by refine X2 l _ i ?_;by_cases Vq:i∈l;exact .inl Vq;refine .inr ?_;have he:(AS.fR (st.put (some d) .bot) (some d)).iss=iQ st.iss d true:=rfl;rw[he,fE,dY,bu];split;split<;>rfl;rename_i hdi;rcases hi with hi|hi;simp only[cq]at hi;rcases hi with hi|hi;exact absurd hi.symm hdi;exact absurd hi Vq;rw[dY]at hi;exact hi
theorem pL.weaken {st':AS}(h:pL C st' a w)(hn:jS ds st st'){s:Nat}{b:Bool}(hb:getBool st' s=some b):pL C ((st.HL ds).put (some s) (.one (.bool b))) a w:=by
 have LU:st'.get s=.val false [.bool b]:=by unfold getBool at hb;split at hb;rename_i b' hg;cases hb;exact hg;cases hb
 have hkn:=h.known LU;obtain⟨g,h⟩:=h;have hdn:=OS (ds:=ds) ds st (λ_ hi=>hi);have zn:((st.HL ds).put (some s) (.one (.bool b))).boxes=st'.boxes:=by rw[mx,hdn.boxes,hn.boxes]
 have Cw:((st.HL ds).put (some s) (.one (.bool b))).ep=st'.ep:=by rw[RB,hdn.ep,hn.ep]
 have hlen:((st.HL ds).put (some s) (.one (.bool b))).slots.length=st'.slots.length:=by rw[gi,aL,hdn.len,hn.len]
 have LJ:∀t,nr st' t->nr ((st.HL ds).put (some s) (.one (.bool b))) t:=by intro t ht;rw[Qx];rcases ht with ht|ht;exact .inl ht;refine .inr (X2 ds st _ ?_);by_cases hi:t/3/4096∈ds;exact .inl hi;exact .inr (by rw[<-hn.iss _ hi];exact ht)
 have uH:∀s',ij st' s'->ij ((st.HL ds).put (some s) (.one (.bool b))) s':=λs' hs=>by unfold ij at hs⊢;rw[zn];exact hs
 have hle:(cP C g st' w).Le (cP C g ((st.HL ds).put (some s) (.one (.bool b))) w):=⟨rfl,λt ht=>⟨LJ t ht,rfl⟩,λ_ _ _ _ _ hv=>hv,by show st'.ep<=_;rw[<-Cw];exact ba _,λs' hs=>⟨uH s' hs,rfl⟩,λ_ b o u ho hu=>⟨ho,hu⟩⟩
 refine⟨g,h.step (λ_=>True) hle h.defers (by rw[hlen];exact h.size) (by rw[zn,hlen];exact h.bsize) h.frame h.fW (λb x _ hx=>⟨hx,rfl,rfl⟩) ?_ ?_ ?_ (.inl ⟨bF,by rw[RU,hdn.io,hn.io]⟩)⟩;intro i av hi;rw[gi,bu]at hi;split at hi;rename_i hsi;subst hsi;split at hi;cases hi;refine .inr ⟨[],oP ?_,by simp,by simp⟩;exact⟨hkn,rfl⟩;cases hi;by_cases hid:i∈ds;have:=X1 ds st i av hi (.inl hid);subst this;exact .inr ⟨[],gj.bot _ _,by simp,by simp⟩;rw[hdn.slot i hid]at hi;exact .inl ⟨bF,by rw[hn.slot i hid];exact hi,rfl⟩;intro s' cs hs;rw[zn]at hs;exact .inl ⟨bF,hs,rfl⟩;intro k v av hk;simp at hk
theorem aot (Γ:Cr)(f:Nat):(Γ.calm f).io=false/\(Γ.calm f).bx=false/\(Γ.calm f).pr=false:=by unfold Cr.calm;cases h:(Γ f).io with|true=>exact⟨rfl,rfl,rfl⟩|false=>cases h2:(Γ f).bx with|true=>exact⟨rfl,rfl,rfl⟩|false=>cases h3:(Γ f).pr with|true=>exact⟨rfl,rfl,rfl⟩|false=>exact⟨h,h2,h3⟩
theorem apv (Γ:Cr)(f:Nat):(Γ.Pp f).io=false/\((Γ.Pp f).bx=true->(Γ.Pp f).cur=true)/\(Γ.Pp f).pr=false:=by unfold Cr.Pp;cases h:(Γ f).io with|true=>exact⟨rfl,λh=>(by cases h),rfl⟩|false=>cases h3:(Γ f).pr with|true=>exact⟨rfl,λh=>(by cases h),rfl⟩|false=>cases h2:(Γ f).bx with|false=>exact⟨h,λh=>(by simp[h2]at h),h3⟩|true=>cases h4:(Γ f).cur with|true=>exact⟨h,λ_=>h4,h3⟩|false=>exact⟨rfl,λh=>(by cases h),rfl⟩
theorem apw (EH:∀f,(Γ f).io=false/\(Γ f).bx=false/\(Γ f).pr=false)(f:Nat):(Γ.Pp f).io=false/\(Γ.Pp f).bx=false/\(Γ.Pp f).pr=false:=by have h:=EH f;unfold Cr.Pp;rw[h.1,h.2.1,h.2.2];exact h
theorem Sound.Pp {E:Env}(h:Sound P E Γ):Sound P E Γ.Pp:=by refine⟨h.ty,h.eqs,h.fts,λf=>?_,h.mixed⟩;unfold Cr.Pp;cases (Γ f).io||(Γ f).pr||((Γ f).bx&& !(Γ f).cur)with|true=>intro xs y hy;cases hy|false=>exact h.fns f
theorem Sound.calm {E:Env}(h:Sound P E Γ):Sound P E Γ.calm:=by refine⟨h.ty,h.eqs,h.fts,λf=>?_,h.mixed⟩;unfold Cr.calm;cases (Γ f).io with|true=>intro xs y hy;cases hy|false=>cases (Γ f).bx with|true=>intro xs y hy;cases hy|false=>cases (Γ f).pr with|true=>intro xs y hy;cases hy|false=>exact h.fns f
end Go.Dn
