import Derived.Test.YtfbhfnniblfpbaaGreatDnDen
import Derived.Test.YtfbhfnniblfpbaaGreatDnNat
/- What is kept at a loop's door; what a region whose ways meet again leaves. -/
namespace Go.Dn
open Go.RowKit
variable {P:Program} {C:Ctx} {st:AS} {a:Act} {w:World} {R:Type} {r:R}
variable {an:An} {Γ:xg} {io:au AC} {d:aw Nat} {ds keep:dI}
theorem H2 (keep:dI)(ep:Nat)(io:au AC):∀(l:au AV)(n i:Nat),(nA keep ep io n l)[i]?=(l[i]?).map λv=>if keep.contains (n+i) then v.mask keep ep io (n+i) else .bot
 |[],n,i=>by simp[nA]
 |v::l,n,0=>by simp[nA]
 |v::l,n,i+1=>by simp only[nA,eh];rw[H2 keep ep io l (n+1) i,show n+1+i=n+(i+1) by omega]
theorem C3 (keep:dI)(ep:Nat)(io:au AC):∀(l:au (aw (au AC)))(n i:Nat),(nz keep ep io n l)[i]?=(l[i]?).map λb=>if keep.contains (n+i) then b.map (K5 keep ep io (.box (n+i)) 0) else none
 |[],n,i=>by simp[nz]
 |v::l,n,0=>by simp[nz]
 |v::l,n,i+1=>by simp only[nz,eh];rw[C3 keep ep io l (n+1) i,show n+1+i=n+(i+1) by omega]
theorem xz (keep:dI)(ep:Nat)(io:au AC):∀(l:au AV)(n:Nat),(nA keep ep io n l).length=l.length
 |[],_=>rfl
 |_::l,n=>by simp[nA,xz keep ep io l]
theorem DE (keep:dI)(ep:Nat)(io:au AC):∀(l:au (aw (au AC)))(n:Nat),(nz keep ep io n l).length=l.length
 |[],_=>rfl
 |_::l,n=>by simp[nz,DE keep ep io l]
def Xb:Value->AV->gP
 | .agg vs,.val true _=>vs.toList
 |v,_=>[v]
theorem Xd {g:Bool}{v:Value}{vs:gP}{cs:au AC}(h:Cut g v vs):Xb v (.val g cs)=vs:=by cases g with|true=>simp only[Cut,bN]at h;subst h;simp[Xb]|false=>simp only[Cut]at h;subst h;cases v<;>rfl
def D6 (ioV:gP)(st:AS)(a:Act)(w:World)(β:Nat->Nat)(t:Nat):Value:=
 if t%3=0/\t/3/4096=1000003 then(ioV[t/3%4096]?).getD undef
 else if t%3=0 then((Xb (a.tmps.getD (t/3/4096) undef) (st.get (t/3/4096)))[t/3%4096]?).getD undef
 else match w.heap[β (t/3/4096)]? with
  |some (.cells arr _ _)=>(arr.toList[t/3%4096]?).getD undef
  |_=>undef
def WR (c c':RC)(io:au AC):Prop:=∀j n (e:CT)(ys:au e.D),AC.adV io j n e=some ys->∃v0 Zr,dW c.hw c.w (.sl e) [v0] ys Zr/\v0=c.hdr n/\∀q,(ka.io j).GQ=some q->c'.iss q/\v0=c'.hdr q
theorem abl {c c':RC}(Jp:WR c c' io){rt:ka}{v:Value}{x:AC}{fp:dI}(h:gr c v x fp)(Bl:c'.hw=c.hw)(hw:c'.w=c.w)(hA:c'.A=c.A)(xl:c'.ep=0)(ID:c'.β=c.β)(qF:∀s,keep.contains s=true->c.JW s->c'.JW s)(lf:∀t,rt.GQ=some t->c'.iss t/\v=c'.hdr t):gr c' v (x.mask keep c.ep io rt) fp:=by
 have hS:c'.S=c.S:=by funext b o;simp[RC.S,Bl,hA]
 cases x with
 |int k n=>exact h
 |bool b=>exact h
 |str s=>exact h
 |jl=>exact h
 |fn f=>exact h
 |un=>exact h
 |bot=>exact h
 |ptr s off=>simp only[AC.mask];split;rename_i hk;exact⟨by rw[ID];exact h.1,qF s hk h.2.1,h.2.2⟩;exact h.2.2
 |Cg fl e y i off=>cases fl with|own t=>exact h.elim|nest _ _ _ _ _ _=>exact h.elim|part _ _ _ _=>exact h.elim|eQ _ _ _=>exact h.elim|arg _=>exact h.1|loc ep pv=>exact h.1
 |sl fl e xs=>
  cases fl with
  |own t=>exact⟨dW.mono h.1 (λb _=>⟨by rw[hw],by rw[Bl]⟩),lf⟩
  |nest _ _ _ _ _ _=>exact h.1
  |part _ _ _ _=>exact h.1
  |eQ _ _ _=>obtain⟨_,⟨k,hk,h3⟩,_⟩:=h;exact⟨λq hq=>(by cases hq),⟨k,hk,h3.mono (λb hb=>⟨by rw[hw],by rw[Bl]⟩)⟩,by simp⟩
  |arg _=>exact⟨h.1,by rw[hA,hw];exact h.2⟩
  |loc ep pv=>
   obtain⟨h1,h2,h3,h4,h5⟩:=h;have plain:gr c' v (if(ep==c.ep)=true then AC.sl (.loc 0 none) e xs else .bot) fp:=by split;rename_i he;refine⟨h1,by rw[xl];exact aX _,h3,λ_=>?_,by simp⟩;rw[hS,hw];exact h4 (by simpa using he);exact h1
   simp only[AC.mask];split;rename_i j n;split;rename_i ys Gj;obtain⟨v0,Zr,eE,LU,hq⟩:=Jp j n e ys Gj;obtain⟨_,k2⟩:=h5 _ _ rfl;have hv:v0=v:=LU.trans k2.symm;subst hv;refine⟨h1,by rw[xl];exact aX _,JT eE,λ_=>?_,λr t hp=>?_⟩;rw[hS,hw];exact dW.rep (λb o ho=> .inr ho) eE;cases jP:(ka.io j).GQ with|none=>rw[jP]at hp;cases hp|some q=>rw[jP]at hp;simp at hp;obtain⟨_,rfl⟩:=hp;exact⟨(hq q jP).1,(hq q jP).2⟩
   exact plain;exact plain
theorem IL {c c':RC}(Jp:WR c c' io){f:Nat->ka}(Bl:c'.hw=c.hw)(hw:c'.w=c.w)(hA:c'.A=c.A)(xl:c'.ep=0)(ID:c'.β=c.β)
 (qF:∀s,keep.contains s=true->c.JW s->c'.JW s):∀{vs:gP}{xs:au AC}{fp:dI}(j:Nat),bp c vs xs fp->
  (∀i v,vs[i]?=some v->∀t,(f (j+i)).GQ=some t->c'.iss t/\v=c'.hdr t)->bp c' vs (K5 keep c.ep io f j xs) fp
 |[],[],_,_,h,_=>h
 |v::_,_::_,_,j,h,hm=>by obtain⟨f1,f2,rfl,h1,h2⟩:=h;exact⟨f1,f2,rfl,abl Jp h1 Bl hw hA xl ID qF (λt ht=>hm 0 v rfl t ht),IL Jp Bl hw hA xl ID qF (j+1) h2 (λi u hu t ht=>hm (i+1) u (by simpa using hu) t (by rwa[show j+(i+1)=j+1+i by omega]))⟩
 |[],_::_,_,_,h,_=>h.elim
 |_::_,[],_,_,h,_=>h.elim
theorem aea {c:RC}{v:Value}{x:AC}{fp:dI}(h:gr c v x fp)(I4:∀(tag:aw Nat)(e:CT)(xs:au e.D),x=.sl (.own tag) e xs->False)(ahd:∀(tag:aw Nat)(i:Int)(ep:aw Nat)(e:CT)(xs:au e.D),x=.sl (.eQ tag i ep) e xs->False):fp=[]:=by
 cases x with
 |int k n=>exact h.2
 |bool b=>exact h.2
 |str s=>exact h.2
 |jl=>exact h.2
 |fn f=>exact h.2
 |un=>exact h.2
 |bot=>exact h
 |ptr s off=>exact h.2.2
 |Cg fl e y i off=>cases fl with|own t=>exact h.elim|nest _ _ _ _ _ _=>exact h.elim|part _ _ _ _=>exact h.elim|eQ _ _ _=>exact h.elim|arg _=>exact h.1|loc ep pv=>exact h.1
 |sl fl e xs=>cases fl with|own t=>exact(I4 _ _ _ rfl).elim|nest _ _ _ _ _ _=>exact h.1|part _ _ _ _=>exact h.1|eQ _ _ _=>exact(ahd _ _ _ _ _ rfl).elim|arg _=>exact h.1|loc ep pv=>exact h.1
theorem nb.mask (h:nb C st a w)(keep:dI):nb C (st.mask keep) a w:=by
 obtain⟨g,h⟩:=h;let g':Gh:={g with hdr:=D6 C.ioV st a w g.β}
 have qF:∀s,keep.contains s=true->fX st s->fX (st.mask keep) s:=by rintro s hk ⟨cs,hs⟩;refine⟨K5 keep st.ep st.io (.box s) 0 cs,?_⟩;show(nz keep st.ep st.io 0 st.boxes)[s]?=_;rw[C3,hs];simp only[cY,cc,aF hk]
 obtain⟨fpi,hri,hni,hli⟩:=h.io;have ah7:∀j v,C.ioV[j]?=some v->∀q,(ka.io j).GQ=some q->ll (st.mask keep) q/\v=D6 C.ioV st a w g.β q:=by
  intro j v hv q hq;simp only[ka.GQ]at hq;cases hb:Nat.ble 4096 j with
  |true=>rw[hb]at hq;cases hq
  |false=>
   rw[hb]at hq;simp only[ae,aZ,Ar]at hq;have hj:j<4096:=by rcases bL j 4096 with gq|zX;exact gq;rw[gC zX]at hb;cases hb
   have h0:q%3=0:=by omega
   have h1:q/3/4096=1000003:=by omega
   have h2:q/3%4096=j:=by omega
   refine⟨.inl (by omega),?_⟩;rw[D6,aF ⟨h0,h1⟩,h2,hv];rfl
 have agz:WR (cq C g st w) (cq C g' (st.mask keep) w) st.io:=by
  intro j n e ys Gj;unfold AC.adV at Gj;split at Gj;rename_i t' e' ys' hj;split at Gj;rename_i he;subst he;cases ht:(t'==n)with
  |false=>rw[ht]at Gj;cases Gj
  |true=>
   rw[ht]at Gj;have:t'=n:=by simpa using ht
   subst this;cases Gj;rw[dv]at hj;obtain⟨v,f,hv,hr,_⟩:=hri.get j _ hj;exact⟨v,f,hr.1,(hr.2 t' rfl).2,λq hq=>ah7 j v hv q hq⟩
  cases Gj;cases Gj
 have aoT:∀(j:Nat){vs:gP}{xs:au AC}{fp:dI},bp (cq C g st w) vs xs fp->(∀i v,vs[i]?=some v->C.ioV[j+i]?=some v)->bp (cq C g' (st.mask keep) w) vs (X8 keep j xs) fp:=by
  intro j vs
  induction vs generalizing j with
  |nil=>intro xs fp hr _;cases xs with
   |nil=>exact hr
   |cons _ _=>exact hr.elim
  |cons v vs ih=>
   intro xs fp hr hv
   cases xs with
   |nil=>exact hr.elim
   |cons x xs=>
    obtain⟨f1,f2,rfl,r1,r2⟩:=hr
    refine⟨f1,f2,rfl,?_,ih (j+1) r2 (λi u hu=>by rw[show j+1+i=j+(i+1) by omega];exact hv (i+1) u (by simpa using hu))⟩
    have LU:=hv 0 v rfl
    rw[dC]at LU
    split
    ·rename_i tg e ys
     exact⟨r1.1,λq hq=>ah7 j v LU q hq⟩
    ·rename_i tag i ep e ys
     obtain⟨_,⟨k,hk,h3⟩,_⟩:=r1
     exact⟨λq hq=>(by cases hq),⟨k,hk,h3⟩,by simp⟩
    ·rename_i s off
     split
     ·rename_i hk
      exact⟨r1.1,qF s hk r1.2.1,r1.2.2⟩
     ·exact r1.2.2
    ·rename_i I4 ahd _
     cases hfl:x.fS with
     |true=>
      obtain⟨rfl,k⟩:=lr (c':=cq C g' (st.mask keep) w) r1 hfl
      exact k
     |false=>exact aea r1 I4 ahd
 refine⟨g',h.defers,?_,?_,λi av hi=>?_,λs cs hs=>?_,λk v av hk=>by simp at hk,h.fa,h.frame,⟨fpi,aoT 0 hri (λi v hv=>by rw[cc];exact hv),hni,hli⟩⟩;show _=(nA keep st.ep st.io 0 st.slots).length;rw[xz];exact h.size;show(nz keep st.ep st.io 0 st.boxes).length=(nA keep st.ep st.io 0 st.slots).length;rw[xz,DE];exact h.bsize;have rn:(nA keep st.ep st.io 0 st.slots)[i]?=some av:=hi;rw[H2,cc]at rn;cases hv:st.slots[i]? with
 |none=>rw[hv]at rn;cases rn
 |some x=>
  rw[hv]at rn;simp only[cY,aZ]at rn;split at rn
  ·subst rn
   cases hx:x with
   |vq ts=>exact⟨[],fy.bot _ _,by simp,by simp⟩
   |val gg cs=>
    rw[hx]at hv
    obtain⟨fp,⟨vs,dM,hr⟩,hn,hl⟩:=h.slots i _ hv
    refine⟨fp,⟨vs,dM,IL (io:=st.io) agz (c:=cq C g st w) (c':=cq C g' (st.mask keep) w) rfl rfl rfl rfl rfl qF 0 hr ?_⟩,hn,hl⟩
    intro j u hu t ht
    simp only[cc,ka.GQ]at ht
    cases hb:Nat.ble 4096 j with
    |true=>rw[hb]at ht;cases ht
    |false=>
     rw[hb]at ht
     simp only[ae]at ht
     cases HP:Nat.ble 1000000 i with
     |true=>rw[HP]at ht;cases ht
     |false=>
     rw[HP]at ht
     simp only[ae,aZ]at ht
     have hi6:i<1000000:=by rcases bL i 1000000 with gq|zX;exact gq;rw[gC zX]at HP;cases HP
     have hj:j<4096:=by rcases bL j 4096 with gq|zX;exact gq;rw[gC zX]at hb;cases hb
     have h0:t%3=0:=by omega
     have h1:t/3/4096=i:=by omega
     have h2:t/3%4096=j:=by omega
     refine⟨.inl (by omega),?_⟩
     show u=D6 C.ioV st a w g.β t
     rw[D6,mG,aF h0,h1,h2,get_eq hv,Xd dM,hu];rfl
  subst rn;exact⟨[],fy.bot _ _,by simp,by simp⟩
 have tV:(nz keep st.ep st.io 0 st.boxes)[s]?=some (some cs):=hs;rw[C3,cc]at tV;cases hv:st.boxes[s]? with
 |none=>rw[hv]at tV;cases tV
 |some x=>
  rw[hv]at tV;simp only[cY,aZ]at tV;split at tV;cases hx:x with
  |none=>rw[hx]at tV;cases tV
  |some xs=>
   rw[hx]at tV hv;simp only[cY,aZ]at tV;subst tV;obtain⟨arr,T,fr,fp,hb,qG,hr,hn,hni,hl,Gg,HV⟩:=h.boxes s xs hv;refine⟨arr,T,fr,fp,hb,qG,IL (io:=st.io) agz (c:=cq C g st w) (c':=cq C g' (st.mask keep) w) rfl rfl rfl rfl rfl qF 0 hr ?_,hn,hni,hl,Gg,HV⟩;intro j u hu t ht;simp only[cc,ka.GQ]at ht;cases Xv:Nat.ble 4096 j with
   |true=>rw[Xv]at ht;cases ht
   |false=>
    rw[Xv]at ht;simp only[ae,aZ]at ht;have hj:j<4096:=by rcases bL j 4096 with gq|zX;exact gq;rw[gC zX]at Xv;cases Xv
    have h0:¬t%3=0:=by omega
    have h1:t/3/4096=s:=by omega
    have h2:t/3%4096=j:=by omega
    refine⟨.inl (by omega),?_⟩;show u=D6 C.ioV st a w g.β t;rw[D6,mG,aE h0,h1,h2,hb];simp only;rw[hu];rfl
  cases tV
structure iG (ds:List Nat) (st st':AS):Prop where
 len:st'.slots.length=st.slots.length
 slot:∀i,i∉ds->st'.slots[i]?=st.slots[i]?
 boxes:st'.boxes=st.boxes
 ep:st'.ep=st.ep
 iss:∀i,i∉ds->nth st'.iss i=nth st.iss i
 air:st'.iss.length=st.iss.length
 io:st'.io=st.io
theorem iG.refl (ds:dI)(st:AS):iG ds st st:=⟨rfl,λ_ _=>rfl,rfl,rfl,λ_ _=>rfl,rfl,rfl⟩
theorem iG.trans {st st1 st2:AS}(h:iG ds st st1)(k:iG ds st1 st2):iG ds st st2:=⟨k.len.trans h.len,λi hi=>(k.slot i hi).trans (h.slot i hi),k.boxes.trans h.boxes,k.ep.trans h.ep,λi hi=>(k.iss i hi).trans (h.iss i hi),k.air.trans h.air,k.io.trans h.io⟩
theorem iG.put {st:AS}(hd:∀i,d=some i->i∈ds)(v:AV):iG ds st (st.put d v):=by cases d with|none=>exact iG.refl _ _|some d=>refine⟨by rw[fw,aJ],λi hi=>?_,kx,KN,λi _=>by rw[S1],by rw[S1],KZ⟩;rw[fw,aN];rintro rfl;exact hi (hd _ rfl)
theorem iG.eX {st:AS}(hd:∀i,d=some i->i∈ds):iG ds st (st.eX d):=by cases d with|none=>exact iG.refl _ _|some d=>refine⟨rfl,λi _=>rfl,rfl,rfl,λi hi=>?_,?_,rfl⟩;simp only[AS.eX,dv,eJ];rw[aN];rintro rfl;exact hi (hd _ rfl);simp only[AS.eX,eJ,aJ]
theorem uJ {α:Type}{o:aw α}{k:α->aw AS}{st':AS}(h:aa o k=some st')(hk:∀x,k x=some st'->iG ds st st'):iG ds st st':=by cases o with|none=>cases h|some x=>exact hk x h
theorem abw {n:Nat}{k:aw AS}{st':AS}(h:room n k=some st')(hk:k=some st'->iG ds st st'):iG ds st st':=by unfold room at h;split at h;exact hk h;cases h
theorem Yf {op:BinOp}{k:IntKind}{x y:Int}{K:AC->aw AS}{st':AS}(h:JL op k x y K=some st')(hk:∀z,K z=some st'->iG ds st st'):iG ds st st':=by
 unfold JL at h
 split at h<;>first
  |exact hk _ h
  |(split at h
    ·cases h
    ·exact hk _ h)
  |cases h
theorem Yg {op:BinOp}{x y:au UInt8}{K:AC->aw AS}{st':AS}(h:Mn op x y K=some st')(hk:∀z,K z=some st'->iG ds st st'):iG ds st st':=by
 unfold Mn at h
 split at h<;>first
  |exact abw h (hk _)
  |exact hk _ h
  |cases h
theorem K8 {op:BinOp}{x y:AV}{K:AC->aw AS}{st':AS}(h:HG op x y K=some st')(hk:∀z,K z=some st'->iG ds st st'):iG ds st st':=by unfold HG at h;split at h;split at h;split at h;cases h;exact hk _ h;split at h;cases h;exact hk _ h;split at h;exact Yf h hk;cases h;exact Yg h hk;split at h;exact hk _ h;exact hk _ h;cases h;split at h;exact uJ h λb hb=>hk _ hb;exact uJ h λb hb=>hk _ hb;cases h;cases h
theorem JR {lo hi:aw Operand}{n:Nat}{K:Int->Int->aw AS}{st0 st':AS}(h:mM st0 lo hi n K=some st')(hk:∀x y,K x y=some st'->iG ds st st'):iG ds st st':=by
 unfold mM at h
 split at h<;>first
  |exact hk _ _ h
  |cases h
theorem OF {op:BinOp}{b:Bool}{K:AC->aw AS}{st':AS}(h:Fj op b K=some st')(hk:∀c,K c=some st'->iG ds st st'):iG ds st st':=by unfold Fj at h;split at h;exact hk _ h;exact hk _ h;cases h
theorem Rr {E:Env}(zw:∀f,(Γ f).io=false/\(Γ f).bx=false/\(Γ f).pr=false){o:Oper}{st':AS}(hq:gb an ds o=true)(hd:∀i,o.dst=some i->i∈ds)(h:cU E Γ an o st some=some st'):iG ds st st':=by
 have xf:∀v,some (st.put o.dst v)=some st'->iG ds st st':=λv hv=>by cases hv;exact iG.put hd v
 unfold cU at h;split at h;rename_i x ho;simp only[gb,ho]at hq;unfold DF at h;cases SA:o.dst with
 |none=>rw[SA]at h;cases h
 |some d=>
  rw[SA]at h hq;simp only at h hq;have hf:an.mv.contains d=false:=by simpa using hq
  rw[hf]at h;simp only[aY,bV]at h;cases h;exact iG.put (λi hi=>hd i (by rw[SA];exact hi)) _
 rename_i x ho;have Fk:Bu an o=false\/∃y,x=y/\(∀v,y≠ .const v)/\(∀t,y≠ .tmp t):=by cases x with|tmp t=>left;simp only[gb,ho,ah,aO]at hq;exact hq.2|const v=>left;simpa only[gb,ho,aO]using hq|func f=>simp[gb,ho]at hq|global g=>simp[gb,ho]at hq
 have Fk:Bu an o=false:=by rcases Fk with h1|⟨y,rfl,h1,h2⟩;exact h1;cases x with|tmp t=>exact absurd rfl (h2 t)|const v=>exact absurd rfl (h1 v)|func f=>simp[gb,ho]at hq|global g=>simp[gb,ho]at hq
 simp only[gb,ho]at hq;rw[aE (by simp[Fk])]at h;unfold vw at h;have hx:iG ds st (st.take x).2:=by
  cases x with
  |tmp t=>
   have ht:t∈ds:=by simp only[ah]at hq;simpa using hq.1
   exact iG.put (d:=some t) (λi hi=>by cases hi;exact ht) _
  |const v=>exact iG.refl _ _
  |func f=>exact iG.refl _ _
  |global g=>exact iG.refl _ _
 split at h;split at h;exact xf _ h;cases h;rename_i v st1 _ sX;cases h;have:(st.take x).2=st1:=by rw[sX]
 rw[this]at hx;exact hx.trans (iG.put hd _);unfold GD at h;split at h;rename_i t _;split at h;exact xf _ h;cases t with|true=>exact xf _ h|false=>exact xf _ h
 cases h;rename_i ho;simp[gb,ho]at hq;rename_i ho;simp[gb,ho]at hq;rename_i T p ho;simp only[gb,ho]at hq;have sX:GU an o=false:=by unfold GU;cases SA:o.dst with|none=>rfl|some d=>rw[SA]at hq;simp only[aO]at hq;simp only[hq,gv]
 unfold oW at h;split at h;split at h;split at h;split at h;rename_i d SA;rw[SA]at hq;simp only at hq;have hf:an.mv.contains d=false:=by simpa using hq
 rw[hf]at h;simp only[aY,bV]at h;exact xf _ h;cases h;cases h;cases h;rw[aE (by simp[sX])]at h;split at h;split at h;exact xf _ h;cases h;unfold E0 at h;split at h;split at h;split at h;split at h;obtain⟨y,_,h⟩:=No h;exact xf _ h;cases h;cases h;cases h;cases h;cases h;rename_i ho;simp[gb,ho]at hq;split at h;exact xf _ h;exact xf _ h;cases h;unfold Cc at h;split at h;split at h;exact K8 h λz hz=>xf _ hz;cases h;split at h;split at h;exact K8 h λz hz=>xf _ hz;cases h;cases h;split at h;split at h;cases h;exact OF h λz hz=>xf _ hz;cases h;split at h;exact OF h λz hz=>xf _ hz;cases h;exact K8 h λz hz=>xf _ hz;unfold unC at h;split at h;exact xf _ h;exact xf _ h;exact xf _ h;cases h;unfold Bf at h;split at h;split at h;exact xf _ h;cases h;split at h;exact xf _ h;cases h;cases h;unfold mq at h;split at h;split at h;exact uJ h λy hy=>xf _ hy;cases h;cases h;unfold C2 at h;split at h;split at h;exact uJ h λy hy=>xf _ hy;cases h;cases h;rename_i T parts ho;simp only[gb,ho]at hq;have he:parts=#[]:=by simpa using hq
 subst he;unfold CW at h;split at h;simp only[ez,List.map_nil]at h;split at h;exact xf _ h;cases h;cases h;rename_i ho;simp[gb,ho]at hq;rename_i ho;simp[gb,ho]at hq;rename_i ho;simp only[gb,ho,aO]at hq;unfold BR at h;rw[aE (by simp[hq])]at h;split at h;split at h;exact JR h λx y hxy=>uJ hxy λz hz=>xf _ hz;cases h;split at h;exact JR h λx y hxy=>uJ hxy λz hz=>xf _ hz;cases h;cases h;rename_i ho;simp[gb,ho]at hq;rename_i ho;simp[gb,ho]at hq;rename_i ho;simp[gb,ho]at hq;rename_i ho;simp[gb,ho]at hq;unfold Oy at h;split at h;split at h;exact xf _ h;cases h;split at h;exact xf _ h;cases h;cases h;unfold Qd at h;split at h;exact xf _ h;cases h;unfold Qc at h;split at h;exact xf _ h;cases h;rename_i ho;simp[gb,ho]at hq;unfold Fh at h;split at h;rename_i k _;rw[(zw k).2.1,(zw k).2.2,(zw k).1]at h;simp only[ae]at h;refine uJ h λy hy=>?_;cases P5:(Γ k).sel y with|true=>rw[P5]at hy;cases hy;exact(iG.eX hd).trans (iG.put hd _)|false=>rw[P5]at hy;cases hy;exact(iG.eX hd).trans (iG.put hd _)
 cases h;cases h
theorem Vn {ops:au Oper}{o:Oper}(ho:o∈ops){i:Nat}(hi:o.dst=some i):i∈It ops:=List.mem_filterMap.2 ⟨o,ho,hi⟩
theorem OG {E:Env}(zw:∀f,(Γ f).io=false/\(Γ f).bx=false/\(Γ f).pr=false){ops:au Oper}{o:Oper}{st':AS}(ho:o∈ops)(hq:gb an (It ops) o=true)(h:fY E Γ an ops o st some=some st'):iG (It ops) st st':=by
 have hd:∀i,o.dst=some i->i∈It ops:=λi hi=>Vn ho hi;unfold fY at h;split at h;exact Rr zw hq hd h;rename_i j I0 hg;split at h;rename_i d SA;have hdm:d∈It ops:=by rw[dv]at SA;cases MF:ops[j]? with|none=>rw[MF]at SA;cases SA|some o'=>rw[MF]at SA;exact Vn (cL MF) SA
 have hp:∀t,iG (It ops) st (st.put (some d) (.one (.bool t))):=λt=>iG.put (λi hi=>by cases hi;exact hdm) _;split at h;rename_i b hb;have main:∀t,(if(t==I0)=true then cU E Γ an o (st.put (some d) (.one (.bool t))) some else some ((st.put (some d) (.one (.bool t))).put o.dst (.one .un)))=some st'->iG (It ops) st st':=by intro t ht;split at ht;exact(hp t).trans (Rr zw hq hd ht);cases ht;exact(hp t).trans (iG.put hd _)
 cases b with|true=>exact main true h|false=>exact main false h
 cases h;exact iG.put hd _;cases h;cases h
theorem Vv {E:Env}(zw:∀f,(Γ f).io=false/\(Γ f).bx=false/\(Γ f).pr=false){ops:au Oper}(hq:∀o∈ops,gb an (It ops) o=true):∀(l:au Oper)(st st':AS),(∀o∈l,o∈ops)->Tc E Γ an ops l st some=some st'->iG (It ops) st st'
 |[],st,st',_,h=>by cases h;exact iG.refl _ _
 |o::l,st,st',hl,h=>by simp only[Tc]at h;rw[qD]at h;cases hg:fY E Γ an ops o st some with|none=>rw[hg]at h;cases h|some st1=>rw[hg]at h;exact(OG zw (hl o (by simp)) (hq o (hl o (by simp))) hg).trans (Vv zw hq l st1 st' (λo' MF=>hl o' (by simp[MF])) h)
theorem Is:∀(l:dI)(st:AS),(∀i∈l,i∈ds)->iG ds st (st.Cf l)
 |[],st,_=>iG.refl _ _
 |d::l,st,h=>by
  have hd:∀i,some d=some i->i∈ds:=λi hi=>by cases hi;exact h d (by simp)
  exact((iG.put hd _).trans (iG.eX hd)).trans (Is l _ (λi hi=>h i (by simp[hi])))
theorem QJ:∀(l:dI)(st:AS)(i:Nat)(av:AV),(st.Cf l).slots[i]?=some av->i∈l\/st.slots[i]?=some .bot->av=.bot
 |[],st,i,av,h,hi=>by rcases hi with hi|hi;cases hi;have:st.slots[i]?=some av:=h;rw[hi]at this;cases this;rfl
 |d::l,st,i,av,h,hi=>by
  refine QJ l _ i av h ?_;by_cases N9:i∈l;exact .inl N9;refine .inr ?_;rw[vj,fw,bk];have gq:i<st.slots.length:=by
   have h1:=(Is (ds:=d::l) l ((st.put (some d) .bot).eX (some d)) (λi hi=>by simp[hi])).len;have h2:=(aD.1 h).1;have h3:(AS.Cf ((st.put (some d) .bot).eX (some d)) l).slots.length=st.slots.length:=by rw[h1,vj,fw,aJ]
   have h4:i<(AS.Cf ((st.put (some d) .bot).eX (some d)) l).slots.length:=h2;omega
  split;rename_i hdi;subst hdi;rw[aF gq];rename_i hdi;rcases hi with hi|hi;simp only[cg]at hi;rcases hi with hi|hi;exact absurd hi.symm hdi;exact absurd hi N9;exact hi
theorem QK:∀(l:dI)(st:AS)(i:Nat),i∈l\/(nth st.iss i).getD true=true->(nth (st.Cf l).iss i).getD true=true
 |[],st,i,hi=>by rcases hi with hi|hi;cases hi;exact hi
 |d::l,st,i,hi=>by refine QK l _ i ?_;by_cases N9:i∈l;exact .inl N9;refine .inr ?_;have he:(AS.eX (st.put (some d) .bot) (some d)).iss=gG st.iss d true:=rfl;rw[he,eJ,dv,bk];split;split<;>rfl;rename_i hdi;rcases hi with hi|hi;simp only[cg]at hi;rcases hi with hi|hi;exact absurd hi.symm hdi;exact absurd hi N9;rw[dv]at hi;exact hi
theorem nb.weaken {st':AS}(h:nb C st' a w)(hn:iG ds st st'){s:Nat}{b:Bool}(hb:getBool st' s=some b):nb C ((st.Cf ds).put (some s) (.one (.bool b))) a w:=by
 have HP:st'.get s=.val false [.bool b]:=by unfold getBool at hb;split at hb;rename_i b' hg;cases hb;exact hg;cases hb
 have hkn:=h.known HP;obtain⟨g,h⟩:=h;have hdn:=Is (ds:=ds) ds st (λ_ hi=>hi);have uI:((st.Cf ds).put (some s) (.one (.bool b))).boxes=st'.boxes:=by rw[kx,hdn.boxes,hn.boxes]
 have xl:((st.Cf ds).put (some s) (.one (.bool b))).ep=st'.ep:=by rw[KN,hdn.ep,hn.ep]
 have hlen:((st.Cf ds).put (some s) (.one (.bool b))).slots.length=st'.slots.length:=by rw[fw,aJ,hdn.len,hn.len]
 have FO:∀t,ll st' t->ll ((st.Cf ds).put (some s) (.one (.bool b))) t:=by intro t ht;rw[JO];rcases ht with ht|ht;exact .inl ht;refine .inr (QK ds st _ ?_);by_cases hi:t/3/4096∈ds;exact .inl hi;exact .inr (by rw[<-hn.iss _ hi];exact ht)
 have qF:∀s',fX st' s'->fX ((st.Cf ds).put (some s) (.one (.bool b))) s':=λs' hs=>by unfold fX at hs⊢;rw[uI];exact hs
 have hle:(cq C g st' w).Le (cq C g ((st.Cf ds).put (some s) (.one (.bool b))) w):=⟨rfl,λt ht=>⟨FO t ht,rfl⟩,λ_ _ _ _ _ hv=>hv,by show st'.ep<=_;rw[<-xl];exact aX _,λs' hs=>⟨qF s' hs,rfl⟩,λ_ b o u ho hu=>⟨ho,hu⟩⟩
 refine⟨g,h.step (λ_=>True) hle h.defers (by rw[hlen];exact h.size) (by rw[uI,hlen];exact h.bsize) h.frame h.fa (λb x _ hx=>⟨hx,rfl,rfl⟩) ?_ ?_ ?_ (.inl ⟨df,by rw[KZ,hdn.io,hn.io]⟩)⟩;intro i av hi;rw[fw,bk]at hi;split at hi;rename_i hsi;subst hsi;split at hi;cases hi;refine .inr ⟨[],mu ?_,by simp,by simp⟩;exact⟨hkn,rfl⟩;cases hi;by_cases UJ:i∈ds;have:=QJ ds st i av hi (.inl UJ);subst this;exact .inr ⟨[],fy.bot _ _,by simp,by simp⟩;rw[hdn.slot i UJ]at hi;exact .inl ⟨df,by rw[hn.slot i UJ];exact hi,rfl⟩;intro s' cs hs;rw[uI]at hs;exact .inl ⟨df,hs,rfl⟩;intro k v av hk;simp at hk
theorem afb (Γ:xg)(f:Nat):(Γ.calm f).io=false/\(Γ.calm f).bx=false/\(Γ.calm f).pr=false:=by unfold xg.calm;cases h:(Γ f).io with|true=>exact⟨rfl,rfl,rfl⟩|false=>cases h2:(Γ f).bx with|true=>exact⟨rfl,rfl,rfl⟩|false=>cases h3:(Γ f).pr with|true=>exact⟨rfl,rfl,rfl⟩|false=>exact⟨h,h2,h3⟩
theorem af9 (Γ:xg)(f:Nat):(Γ.IX f).io=false/\((Γ.IX f).bx=true->(Γ.IX f).cur=true)/\(Γ.IX f).pr=false:=by unfold xg.IX;cases h:(Γ f).io with|true=>exact⟨rfl,λh=>(by cases h),rfl⟩|false=>cases h3:(Γ f).pr with|true=>exact⟨rfl,λh=>(by cases h),rfl⟩|false=>cases h2:(Γ f).bx with|false=>exact⟨h,λh=>(by simp[h2]at h),h3⟩|true=>cases h4:(Γ f).cur with|true=>exact⟨h,λ_=>h4,h3⟩|false=>exact⟨rfl,λh=>(by cases h),rfl⟩
theorem aga (zw:∀f,(Γ f).io=false/\(Γ f).bx=false/\(Γ f).pr=false)(f:Nat):(Γ.IX f).io=false/\(Γ.IX f).bx=false/\(Γ.IX f).pr=false:=by have h:=zw f;unfold xg.IX;rw[h.1,h.2.1,h.2.2];exact h
theorem Sound.IX {E:Env}(h:Sound P E Γ):Sound P E Γ.IX:=by refine⟨h.ty,h.eqs,h.fts,λf=>?_,h.mixed⟩;unfold xg.IX;cases (Γ f).io||(Γ f).pr||((Γ f).bx&& !(Γ f).cur)with|true=>intro xs y hy;cases hy|false=>exact h.fns f
theorem Sound.calm {E:Env}(h:Sound P E Γ):Sound P E Γ.calm:=by refine⟨h.ty,h.eqs,h.fts,λf=>?_,h.mixed⟩;unfold xg.calm;cases (Γ f).io with|true=>intro xs y hy;cases hy|false=>cases (Γ f).bx with|true=>intro xs y hy;cases hy|false=>cases (Γ f).pr with|true=>intro xs y hy;cases hy|false=>exact h.fns f
end Go.Dn
