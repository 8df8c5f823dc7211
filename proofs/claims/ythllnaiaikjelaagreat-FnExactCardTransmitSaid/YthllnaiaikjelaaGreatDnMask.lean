import Derived.Test.YthllnaiaikjelaaGreatDnDen
import Derived.Test.YthllnaiaikjelaaGreatDnNat
/- What is kept at a loop's door; what a region whose ways meet again leaves. -/
namespace Go.Dn
open Go.RowKit
variable {P:Program} {C:Ctx} {st:AS} {a:Act} {w:World} {R:Type} {r:R}
variable {an:An} {Γ:xf} {io:aq AC} {d:ar Nat} {ds keep:dy}
theorem Ih (keep:dy)(ep:Nat)(io:aq AC):∀(l:aq AV)(n i:Nat),(nq keep ep io n l)[i]?=(l[i]?).map λv=>if keep.contains (n+i) then v.mask keep ep io (n+i) else .bot
 |[],n,i=>by simp[nq]
 |v::l,n,0=>by simp[nq]
 |v::l,n,i+1=>by simp only[nq,eC];rw[Ih keep ep io l (n+1) i,show n+1+i=n+(i+1) by omega]
theorem CZ (keep:dy)(ep:Nat)(io:aq AC):∀(l:aq (ar (aq AC)))(n i:Nat),(np keep ep io n l)[i]?=(l[i]?).map λb=>if keep.contains (n+i) then b.map (Lj keep ep io (.box (n+i)) 0) else none
 |[],n,i=>by simp[np]
 |v::l,n,0=>by simp[np]
 |v::l,n,i+1=>by simp only[np,eC];rw[CZ keep ep io l (n+1) i,show n+1+i=n+(i+1) by omega]
theorem xq (keep:dy)(ep:Nat)(io:aq AC):∀(l:aq AV)(n:Nat),(nq keep ep io n l).length=l.length
 |[],_=>rfl
 |_::l,n=>by simp[nq,xq keep ep io l]
theorem DG (keep:dy)(ep:Nat)(io:aq AC):∀(l:aq (ar (aq AC)))(n:Nat),(np keep ep io n l).length=l.length
 |[],_=>rfl
 |_::l,n=>by simp[np,DG keep ep io l]
def W7:Value->AV->gO
 | .agg vs,.val true _=>vs.toList
 |v,_=>[v]
theorem W9 {g:Bool}{v:Value}{vs:gO}{cs:aq AC}(h:Cut g v vs):W7 v (.val g cs)=vs:=by cases g with|true=>simp only[Cut,bF]at h;subst h;simp[W7]|false=>simp only[Cut]at h;subst h;cases v<;>rfl
def Ei (ioV:gO)(st:AS)(a:Act)(w:World)(β:Nat->Nat)(t:Nat):Value:=
 if t%3=0/\t/3/4096=1000003 then(ioV[t/3%4096]?).getD undef
 else if t%3=0 then((W7 (a.tmps.getD (t/3/4096) undef) (st.get (t/3/4096)))[t/3%4096]?).getD undef
 else match w.heap[β (t/3/4096)]? with
  |some (.cells arr _ _)=>(arr.toList[t/3%4096]?).getD undef
  |_=>undef
def WO (c c':RC)(io:aq AC):Prop:=∀j n (e:CT)(ys:aq e.D),AC.adX io j n e=some ys->∃v0 Zl,dY c.hw c.w (.sl e) [v0] ys Zl/\v0=c.hdr n/\∀q,(jR.io j).GS=some q->c'.iss q/\v0=c'.hdr q
theorem abh {c c':RC}(JJ:WO c c' io){rt:jR}{v:Value}{x:AC}{fp:dy}(h:gy c v x fp)(Br:c'.hw=c.hw)(hw:c'.w=c.w)(hA:c'.A=c.A)(xg:c'.ep=0)(IT:c'.β=c.β)(qe:∀s,keep.contains s=true->c.Kh s->c'.Kh s)(lh:∀t,rt.GS=some t->c'.iss t/\v=c'.hdr t):gy c' v (x.mask keep c.ep io rt) fp:=by
 have hS:c'.S=c.S:=by funext b o;simp[RC.S,Br,hA]
 cases x with
 |int k n=>exact h
 |bool b=>exact h
 |str s=>exact h
 |jd=>exact h
 |fn f=>exact h
 |un=>exact h
 |bot=>exact h
 |ptr s off=>simp only[AC.mask];split;rename_i hk;exact⟨by rw[IT];exact h.1,qe s hk h.2.1,h.2.2⟩;exact h.2.2
 |Cg fl e y i off=>cases fl with|own t=>exact h.elim|nest _ _ _ _ _ _=>exact h.elim|part _ _ _ _=>exact h.elim|eS _ _ _=>exact h.elim|arg _=>exact h.1|loc ep pv=>exact h.1
 |sl fl e xs=>
  cases fl with
  |own t=>exact⟨dY.mono h.1 (λb _=>⟨by rw[hw],by rw[Br]⟩),lh⟩
  |nest _ _ _ _ _ _=>exact h.1
  |part _ _ _ _=>exact h.1
  |eS _ _ _=>obtain⟨_,⟨k,hk,h3⟩,_⟩:=h;exact⟨λq hq=>(by cases hq),⟨k,hk,h3.mono (λb hb=>⟨by rw[hw],by rw[Br]⟩)⟩,by simp⟩
  |arg _=>exact⟨h.1,by rw[hA,hw];exact h.2⟩
  |loc ep pv=>
   obtain⟨h1,h2,h3,h4,h5⟩:=h;have plain:gy c' v (if(ep==c.ep)=true then AC.sl (.loc 0 none) e xs else .bot) fp:=by split;rename_i he;refine⟨h1,by rw[xg];exact bc _,h3,λ_=>?_,by simp⟩;rw[hS,hw];exact h4 (by simpa using he);exact h1
   simp only[AC.mask];split;rename_i j n;split;rename_i ys Gm;obtain⟨v0,Zl,eK,L3,hq⟩:=JJ j n e ys Gm;obtain⟨_,k2⟩:=h5 _ _ rfl;have hv:v0=v:=L3.trans k2.symm;subst hv;refine⟨h1,by rw[xg];exact bc _,Kf eK,λ_=>?_,λr t hp=>?_⟩;rw[hS,hw];exact dY.rep (λb o ho=> .inr ho) eK;cases jL:(jR.io j).GS with|none=>rw[jL]at hp;cases hp|some q=>rw[jL]at hp;simp at hp;obtain⟨_,rfl⟩:=hp;exact⟨(hq q jL).1,(hq q jL).2⟩
   exact plain;exact plain
theorem I0 {c c':RC}(JJ:WO c c' io){f:Nat->jR}(Br:c'.hw=c.hw)(hw:c'.w=c.w)(hA:c'.A=c.A)(xg:c'.ep=0)(IT:c'.β=c.β)
 (qe:∀s,keep.contains s=true->c.Kh s->c'.Kh s):∀{vs:gO}{xs:aq AC}{fp:dy}(j:Nat),bn c vs xs fp->
  (∀i v,vs[i]?=some v->∀t,(f (j+i)).GS=some t->c'.iss t/\v=c'.hdr t)->bn c' vs (Lj keep c.ep io f j xs) fp
 |[],[],_,_,h,_=>h
 |v::_,_::_,_,j,h,hm=>by obtain⟨f1,f2,rfl,h1,h2⟩:=h;exact⟨f1,f2,rfl,abh JJ h1 Br hw hA xg IT qe (λt ht=>hm 0 v rfl t ht),I0 JJ Br hw hA xg IT qe (j+1) h2 (λi u hu t ht=>hm (i+1) u (by simpa using hu) t (by rwa[show j+(i+1)=j+1+i by omega]))⟩
 |[],_::_,_,_,h,_=>h.elim
 |_::_,[],_,_,h,_=>h.elim
theorem aei {c:RC}{v:Value}{x:AC}{fp:dy}(h:gy c v x fp)(Hj:∀(tag:ar Nat)(e:CT)(xs:aq e.D),x=.sl (.own tag) e xs->False)(aho:∀(tag:ar Nat)(i:Int)(ep:ar Nat)(e:CT)(xs:aq e.D),x=.sl (.eS tag i ep) e xs->False):fp=[]:=by
 cases x with
 |int k n=>exact h.2
 |bool b=>exact h.2
 |str s=>exact h.2
 |jd=>exact h.2
 |fn f=>exact h.2
 |un=>exact h.2
 |bot=>exact h
 |ptr s off=>exact h.2.2
 |Cg fl e y i off=>cases fl with|own t=>exact h.elim|nest _ _ _ _ _ _=>exact h.elim|part _ _ _ _=>exact h.elim|eS _ _ _=>exact h.elim|arg _=>exact h.1|loc ep pv=>exact h.1
 |sl fl e xs=>cases fl with|own t=>exact(Hj _ _ _ rfl).elim|nest _ _ _ _ _ _=>exact h.1|part _ _ _ _=>exact h.1|eS _ _ _=>exact(aho _ _ _ _ _ rfl).elim|arg _=>exact h.1|loc ep pv=>exact h.1
theorem mM.mask (h:mM C st a w)(keep:dy):mM C (st.mask keep) a w:=by
 obtain⟨g,h⟩:=h;let g':Gh:={g with hdr:=Ei C.ioV st a w g.β}
 have qe:∀s,keep.contains s=true->fY st s->fY (st.mask keep) s:=by rintro s hk ⟨cs,hs⟩;refine⟨Lj keep st.ep st.io (.box s) 0 cs,?_⟩;show(np keep st.ep st.io 0 st.boxes)[s]?=_;rw[CZ,hs];simp only[db,cj,aH hk]
 obtain⟨fpi,hri,hni,hli⟩:=h.io;have aij:∀j v,C.ioV[j]?=some v->∀q,(jR.io j).GS=some q->kO (st.mask keep) q/\v=Ei C.ioV st a w g.β q:=by
  intro j v hv q hq;simp only[jR.GS]at hq;cases hb:Nat.ble 4096 j with
  |true=>rw[hb]at hq;cases hq
  |false=>
   rw[hb]at hq;simp only[ae,aZ,Ao]at hq;have hj:j<4096:=by rcases bH j 4096 with gM|Ad;exact gM;rw[gE Ad]at hb;cases hb
   have h0:q%3=0:=by omega
   have h1:q/3/4096=1000003:=by omega
   have h2:q/3%4096=j:=by omega
   refine⟨.inl (by omega),?_⟩;rw[Ei,aH ⟨h0,h1⟩,h2,hv];rfl
 have agH:WO (cv C g st w) (cv C g' (st.mask keep) w) st.io:=by
  intro j n e ys Gm;unfold AC.adX at Gm;split at Gm;rename_i t' e' ys' hj;split at Gm;rename_i he;subst he;cases ht:(t'==n)with
  |false=>rw[ht]at Gm;cases Gm
  |true=>
   rw[ht]at Gm;have:t'=n:=by simpa using ht
   subst this;cases Gm;rw[dv]at hj;obtain⟨v,f,hv,hr,_⟩:=hri.get j _ hj;exact⟨v,f,hr.1,(hr.2 t' rfl).2,λq hq=>aij j v hv q hq⟩
  cases Gm;cases Gm
 have apF:∀(j:Nat){vs:gO}{xs:aq AC}{fp:dy},bn (cv C g st w) vs xs fp->(∀i v,vs[i]?=some v->C.ioV[j+i]?=some v)->bn (cv C g' (st.mask keep) w) vs (X7 keep j xs) fp:=by
  intro j vs
  induction vs generalizing j with
  |nil=>intro xs fp hr _;cases xs with
   |nil=>exact hr
   |cons _ _=>exact hr.elim
  |cons v vs ih=>
   intro xs fp hr hv
   cases xs with
   |nil=>exact hr.elim
   |cons x xs=>
    obtain⟨f1,f2,rfl,r1,r2⟩:=hr
    refine⟨f1,f2,rfl,?_,ih (j+1) r2 (λi u hu=>by rw[show j+1+i=j+(i+1) by omega];exact hv (i+1) u (by simpa using hu))⟩
    have L3:=hv 0 v rfl
    rw[dF]at L3
    split
    ·rename_i tg e ys
     exact⟨r1.1,λq hq=>aij j v L3 q hq⟩
    ·rename_i tag i ep e ys
     obtain⟨_,⟨k,hk,h3⟩,_⟩:=r1
     exact⟨λq hq=>(by cases hq),⟨k,hk,h3⟩,by simp⟩
    ·rename_i s off
     split
     ·rename_i hk
      exact⟨r1.1,qe s hk r1.2.1,r1.2.2⟩
     ·exact r1.2.2
    ·rename_i Hj aho _
     cases hfl:x.fT with
     |true=>
      obtain⟨rfl,k⟩:=kT (c':=cv C g' (st.mask keep) w) r1 hfl
      exact k
     |false=>exact aei r1 Hj aho
 refine⟨g',h.defers,?_,?_,λi av hi=>?_,λs cs hs=>?_,λk v av hk=>by simp at hk,h.ff,h.frame,⟨fpi,apF 0 hri (λi v hv=>by rw[cj];exact hv),hni,hli⟩⟩;show _=(nq keep st.ep st.io 0 st.slots).length;rw[xq];exact h.size;show(np keep st.ep st.io 0 st.boxes).length=(nq keep st.ep st.io 0 st.slots).length;rw[xq,DG];exact h.bsize;have pV:(nq keep st.ep st.io 0 st.slots)[i]?=some av:=hi;rw[Ih,cj]at pV;cases hv:st.slots[i]? with
 |none=>rw[hv]at pV;cases pV
 |some x=>
  rw[hv]at pV;simp only[db,aZ]at pV;split at pV
  ·subst pV
   cases hx:x with
   |uT ts=>exact⟨[],fA.bot _ _,by simp,by simp⟩
   |val gg cs=>
    rw[hx]at hv
    obtain⟨fp,⟨vs,dU,hr⟩,hn,hl⟩:=h.slots i _ hv
    refine⟨fp,⟨vs,dU,I0 (io:=st.io) agH (c:=cv C g st w) (c':=cv C g' (st.mask keep) w) rfl rfl rfl rfl rfl qe 0 hr ?_⟩,hn,hl⟩
    intro j u hu t ht
    simp only[cj,jR.GS]at ht
    cases hb:Nat.ble 4096 j with
    |true=>rw[hb]at ht;cases ht
    |false=>
     rw[hb]at ht
     simp only[ae]at ht
     cases H0:Nat.ble 1000000 i with
     |true=>rw[H0]at ht;cases ht
     |false=>
     rw[H0]at ht
     simp only[ae,aZ]at ht
     have hi6:i<1000000:=by rcases bH i 1000000 with gM|Ad;exact gM;rw[gE Ad]at H0;cases H0
     have hj:j<4096:=by rcases bH j 4096 with gM|Ad;exact gM;rw[gE Ad]at hb;cases hb
     have h0:t%3=0:=by omega
     have h1:t/3/4096=i:=by omega
     have h2:t/3%4096=j:=by omega
     refine⟨.inl (by omega),?_⟩
     show u=Ei C.ioV st a w g.β t
     rw[Ei,mL,aH h0,h1,h2,get_eq hv,W9 dU,hu];rfl
  subst pV;exact⟨[],fA.bot _ _,by simp,by simp⟩
 have tB:(np keep st.ep st.io 0 st.boxes)[s]?=some (some cs):=hs;rw[CZ,cj]at tB;cases hv:st.boxes[s]? with
 |none=>rw[hv]at tB;cases tB
 |some x=>
  rw[hv]at tB;simp only[db,aZ]at tB;split at tB;cases hx:x with
  |none=>rw[hx]at tB;cases tB
  |some xs=>
   rw[hx]at tB hv;simp only[db,aZ]at tB;subst tB;obtain⟨arr,T,fr,fp,hb,qf,hr,hn,hni,hl,HQ,H8⟩:=h.boxes s xs hv;refine⟨arr,T,fr,fp,hb,qf,I0 (io:=st.io) agH (c:=cv C g st w) (c':=cv C g' (st.mask keep) w) rfl rfl rfl rfl rfl qe 0 hr ?_,hn,hni,hl,HQ,H8⟩;intro j u hu t ht;simp only[cj,jR.GS]at ht;cases Xt:Nat.ble 4096 j with
   |true=>rw[Xt]at ht;cases ht
   |false=>
    rw[Xt]at ht;simp only[ae,aZ]at ht;have hj:j<4096:=by rcases bH j 4096 with gM|Ad;exact gM;rw[gE Ad]at Xt;cases Xt
    have h0:¬t%3=0:=by omega
    have h1:t/3/4096=s:=by omega
    have h2:t/3%4096=j:=by omega
    refine⟨.inl (by omega),?_⟩;show u=Ei C.ioV st a w g.β t;rw[Ei,mL,aG h0,h1,h2,hb];simp only;rw[hu];rfl
  cases tB
structure iA (ds:List Nat) (st st':AS):Prop where
 len:st'.slots.length=st.slots.length
 slot:∀i,i∉ds->st'.slots[i]?=st.slots[i]?
 boxes:st'.boxes=st.boxes
 ep:st'.ep=st.ep
 iss:∀i,i∉ds->nth st'.iss i=nth st.iss i
 aiC:st'.iss.length=st.iss.length
 io:st'.io=st.io
theorem iA.refl (ds:dy)(st:AS):iA ds st st:=⟨rfl,λ_ _=>rfl,rfl,rfl,λ_ _=>rfl,rfl,rfl⟩
theorem iA.trans {st st1 st2:AS}(h:iA ds st st1)(k:iA ds st1 st2):iA ds st st2:=⟨k.len.trans h.len,λi hi=>(k.slot i hi).trans (h.slot i hi),k.boxes.trans h.boxes,k.ep.trans h.ep,λi hi=>(k.iss i hi).trans (h.iss i hi),k.aiC.trans h.aiC,k.io.trans h.io⟩
theorem iA.put {st:AS}(hd:∀i,d=some i->i∈ds)(v:AV):iA ds st (st.put d v):=by cases d with|none=>exact iA.refl _ _|some d=>refine⟨by rw[fz,bg],λi hi=>?_,ki,K2,λi _=>by rw[SU],by rw[SU],Lc⟩;rw[fz,aS];rintro rfl;exact hi (hd _ rfl)
theorem iA.eX {st:AS}(hd:∀i,d=some i->i∈ds):iA ds st (st.eX d):=by cases d with|none=>exact iA.refl _ _|some d=>refine⟨rfl,λi _=>rfl,rfl,rfl,λi hi=>?_,?_,rfl⟩;simp only[AS.eX,dv,eN];rw[aS];rintro rfl;exact hi (hd _ rfl);simp only[AS.eX,eN,bg]
theorem ur {α:Type}{o:ar α}{k:α->ar AS}{st':AS}(h:aa o k=some st')(hk:∀x,k x=some st'->iA ds st st'):iA ds st st':=by cases o with|none=>cases h|some x=>exact hk x h
theorem abr {n:Nat}{k:ar AS}{st':AS}(h:room n k=some st')(hk:k=some st'->iA ds st st'):iA ds st st':=by unfold room at h;split at h;exact hk h;cases h
theorem Yg {op:BinOp}{k:IntKind}{x y:Int}{K:AC->ar AS}{st':AS}(h:J6 op k x y K=some st')(hk:∀z,K z=some st'->iA ds st st'):iA ds st st':=by
 unfold J6 at h
 split at h<;>first
  |exact hk _ h
  |(split at h
    ·cases h
    ·exact hk _ h)
  |cases h
theorem Yh {op:BinOp}{x y:aq UInt8}{K:AC->ar AS}{st':AS}(h:Mn op x y K=some st')(hk:∀z,K z=some st'->iA ds st st'):iA ds st st':=by
 unfold Mn at h
 split at h<;>first
  |exact abr h (hk _)
  |exact hk _ h
  |cases h
theorem Lo {op:BinOp}{x y:AV}{K:AC->ar AS}{st':AS}(h:HL op x y K=some st')(hk:∀z,K z=some st'->iA ds st st'):iA ds st st':=by unfold HL at h;split at h;split at h;split at h;cases h;exact hk _ h;split at h;cases h;exact hk _ h;split at h;exact Yg h hk;cases h;exact Yh h hk;split at h;exact hk _ h;exact hk _ h;cases h;split at h;exact ur h λb hb=>hk _ hb;exact ur h λb hb=>hk _ hb;cases h;cases h
theorem Kd {lo hi:ar Operand}{n:Nat}{K:Int->Int->ar AS}{st0 st':AS}(h:mw st0 lo hi n K=some st')(hk:∀x y,K x y=some st'->iA ds st st'):iA ds st st':=by
 unfold mw at h
 split at h<;>first
  |exact hk _ _ h
  |cases h
theorem OD {op:BinOp}{b:Bool}{K:AC->ar AS}{st':AS}(h:Fp op b K=some st')(hk:∀c,K c=some st'->iA ds st st'):iA ds st st':=by unfold Fp at h;split at h;exact hk _ h;exact hk _ h;cases h
theorem Rl {E:Env}(zr:∀f,(Γ f).io=false/\(Γ f).bx=false/\(Γ f).pr=false){o:Oper}{st':AS}(hq:gp an ds o=true)(hd:∀i,o.dst=some i->i∈ds)(h:cO E Γ an o st some=some st'):iA ds st st':=by
 have xd:∀v,some (st.put o.dst v)=some st'->iA ds st st':=λv hv=>by cases hv;exact iA.put hd v
 unfold cO at h;split at h;rename_i x ho;simp only[gp,ho]at hq;unfold DH at h;cases Sv:o.dst with
 |none=>rw[Sv]at h;cases h
 |some d=>
  rw[Sv]at h hq;simp only at h hq;have hf:an.mv.contains d=false:=by simpa using hq
  rw[hf]at h;simp only[aW,bV]at h;cases h;exact iA.put (λi hi=>hd i (by rw[Sv];exact hi)) _
 rename_i x ho;have Fs:Bx an o=false\/∃y,x=y/\(∀v,y≠ .const v)/\(∀t,y≠ .tmp t):=by cases x with|tmp t=>left;simp only[gp,ho,ah,aQ]at hq;exact hq.2|const v=>left;simpa only[gp,ho,aQ]using hq|func f=>simp[gp,ho]at hq|global g=>simp[gp,ho]at hq
 have Fs:Bx an o=false:=by rcases Fs with h1|⟨y,rfl,h1,h2⟩;exact h1;cases x with|tmp t=>exact absurd rfl (h2 t)|const v=>exact absurd rfl (h1 v)|func f=>simp[gp,ho]at hq|global g=>simp[gp,ho]at hq
 simp only[gp,ho]at hq;rw[aG (by simp[Fs])]at h;unfold uW at h;have hx:iA ds st (st.take x).2:=by
  cases x with
  |tmp t=>
   have ht:t∈ds:=by simp only[ah]at hq;simpa using hq.1
   exact iA.put (d:=some t) (λi hi=>by cases hi;exact ht) _
  |const v=>exact iA.refl _ _
  |func f=>exact iA.refl _ _
  |global g=>exact iA.refl _ _
 split at h;split at h;exact xd _ h;cases h;rename_i v st1 _ sI;cases h;have:(st.take x).2=st1:=by rw[sI]
 rw[this]at hx;exact hx.trans (iA.put hd _);unfold GD at h;split at h;rename_i t _;split at h;exact xd _ h;cases t with|true=>exact xd _ h|false=>exact xd _ h
 cases h;rename_i ho;simp[gp,ho]at hq;rename_i ho;simp[gp,ho]at hq;rename_i T p ho;simp only[gp,ho]at hq;have sI:GY an o=false:=by unfold GY;cases Sv:o.dst with|none=>rfl|some d=>rw[Sv]at hq;simp only[aQ]at hq;simp only[hq,fM]
 unfold oz at h;split at h;split at h;split at h;split at h;rename_i d Sv;rw[Sv]at hq;simp only at hq;have hf:an.mv.contains d=false:=by simpa using hq
 rw[hf]at h;simp only[aW,bV]at h;exact xd _ h;cases h;cases h;cases h;rw[aG (by simp[sI])]at h;split at h;split at h;exact xd _ h;cases h;unfold E7 at h;split at h;split at h;split at h;split at h;obtain⟨y,_,h⟩:=No h;exact xd _ h;cases h;cases h;cases h;cases h;cases h;rename_i ho;simp[gp,ho]at hq;split at h;exact xd _ h;exact xd _ h;cases h;unfold Cb at h;split at h;split at h;exact Lo h λz hz=>xd _ hz;cases h;split at h;split at h;exact Lo h λz hz=>xd _ hz;cases h;cases h;split at h;split at h;cases h;exact OD h λz hz=>xd _ hz;cases h;split at h;exact OD h λz hz=>xd _ hz;cases h;exact Lo h λz hz=>xd _ hz;unfold unC at h;split at h;exact xd _ h;exact xd _ h;exact xd _ h;cases h;unfold Bk at h;split at h;split at h;exact xd _ h;cases h;split at h;exact xd _ h;cases h;cases h;unfold lY at h;split at h;split at h;exact ur h λy hy=>xd _ hy;cases h;cases h;unfold CW at h;split at h;split at h;exact ur h λy hy=>xd _ hy;cases h;cases h;rename_i T parts ho;simp only[gp,ho]at hq;have he:parts=#[]:=by simpa using hq
 subst he;unfold CP at h;split at h;simp only[eG,List.map_nil]at h;split at h;exact xd _ h;cases h;cases h;rename_i ho;simp[gp,ho]at hq;rename_i ho;simp[gp,ho]at hq;rename_i ho;simp only[gp,ho,aQ]at hq;unfold BW at h;rw[aG (by simp[hq])]at h;split at h;split at h;exact Kd h λx y hxy=>ur hxy λz hz=>xd _ hz;cases h;split at h;exact Kd h λx y hxy=>ur hxy λz hz=>xd _ hz;cases h;cases h;rename_i ho;simp[gp,ho]at hq;rename_i ho;simp[gp,ho]at hq;rename_i ho;simp[gp,ho]at hq;rename_i ho;simp[gp,ho]at hq;unfold Ox at h;split at h;split at h;exact xd _ h;cases h;split at h;exact xd _ h;cases h;cases h;unfold Qa at h;split at h;exact xd _ h;cases h;unfold P9 at h;split at h;exact xd _ h;cases h;rename_i ho;simp[gp,ho]at hq;unfold Fm at h;split at h;rename_i k _;rw[(zr k).2.1,(zr k).2.2,(zr k).1]at h;simp only[ae]at h;refine ur h λy hy=>?_;cases P1:(Γ k).sel y with|true=>rw[P1]at hy;cases hy;exact(iA.eX hd).trans (iA.put hd _)|false=>rw[P1]at hy;cases hy;exact(iA.eX hd).trans (iA.put hd _)
 cases h;cases h
theorem Vj {ops:aq Oper}{o:Oper}(ho:o∈ops){i:Nat}(hi:o.dst=some i):i∈IH ops:=List.mem_filterMap.2 ⟨o,ho,hi⟩
theorem OE {E:Env}(zr:∀f,(Γ f).io=false/\(Γ f).bx=false/\(Γ f).pr=false){ops:aq Oper}{o:Oper}{st':AS}(ho:o∈ops)(hq:gp an (IH ops) o=true)(h:gh E Γ an ops o st some=some st'):iA (IH ops) st st':=by
 have hd:∀i,o.dst=some i->i∈IH ops:=λi hi=>Vj ho hi;unfold gh at h;split at h;exact Rl zr hq hd h;rename_i j Ji hg;split at h;rename_i d Sv;have hdm:d∈IH ops:=by rw[dv]at Sv;cases MB:ops[j]? with|none=>rw[MB]at Sv;cases Sv|some o'=>rw[MB]at Sv;exact Vj (dw MB) Sv
 have hp:∀t,iA (IH ops) st (st.put (some d) (.one (.bool t))):=λt=>iA.put (λi hi=>by cases hi;exact hdm) _;split at h;rename_i b hb;have main:∀t,(if(t==Ji)=true then cO E Γ an o (st.put (some d) (.one (.bool t))) some else some ((st.put (some d) (.one (.bool t))).put o.dst (.one .un)))=some st'->iA (IH ops) st st':=by intro t ht;split at ht;exact(hp t).trans (Rl zr hq hd ht);cases ht;exact(hp t).trans (iA.put hd _)
 cases b with|true=>exact main true h|false=>exact main false h
 cases h;exact iA.put hd _;cases h;cases h
theorem Vx {E:Env}(zr:∀f,(Γ f).io=false/\(Γ f).bx=false/\(Γ f).pr=false){ops:aq Oper}(hq:∀o∈ops,gp an (IH ops) o=true):∀(l:aq Oper)(st st':AS),(∀o∈l,o∈ops)->S2 E Γ an ops l st some=some st'->iA (IH ops) st st'
 |[],st,st',_,h=>by cases h;exact iA.refl _ _
 |o::l,st,st',hl,h=>by simp only[S2]at h;rw[qc]at h;cases hg:gh E Γ an ops o st some with|none=>rw[hg]at h;cases h|some st1=>rw[hg]at h;exact(OE zr (hl o (by simp)) (hq o (hl o (by simp))) hg).trans (Vx zr hq l st1 st' (λo' MB=>hl o' (by simp[MB])) h)
theorem IG:∀(l:dy)(st:AS),(∀i∈l,i∈ds)->iA ds st (st.Cf l)
 |[],st,_=>iA.refl _ _
 |d::l,st,h=>by
  have hd:∀i,some d=some i->i∈ds:=λi hi=>by cases hi;exact h d (by simp)
  exact((iA.put hd _).trans (iA.eX hd)).trans (IG l _ (λi hi=>h i (by simp[hi])))
theorem QG:∀(l:dy)(st:AS)(i:Nat)(av:AV),(st.Cf l).slots[i]?=some av->i∈l\/st.slots[i]?=some .bot->av=.bot
 |[],st,i,av,h,hi=>by rcases hi with hi|hi;cases hi;have:st.slots[i]?=some av:=h;rw[hi]at this;cases this;rfl
 |d::l,st,i,av,h,hi=>by
  refine QG l _ i av h ?_;by_cases N6:i∈l;exact .inl N6;refine .inr ?_;rw[uM,fz,bj];have gM:i<st.slots.length:=by
   have h1:=(IG (ds:=d::l) l ((st.put (some d) .bot).eX (some d)) (λi hi=>by simp[hi])).len;have h2:=(aD.1 h).1;have h3:(AS.Cf ((st.put (some d) .bot).eX (some d)) l).slots.length=st.slots.length:=by rw[h1,uM,fz,bg]
   have h4:i<(AS.Cf ((st.put (some d) .bot).eX (some d)) l).slots.length:=h2;omega
  split;rename_i hdi;subst hdi;rw[aH gM];rename_i hdi;rcases hi with hi|hi;simp only[bU]at hi;rcases hi with hi|hi;exact absurd hi.symm hdi;exact absurd hi N6;exact hi
theorem QH:∀(l:dy)(st:AS)(i:Nat),i∈l\/(nth st.iss i).getD true=true->(nth (st.Cf l).iss i).getD true=true
 |[],st,i,hi=>by rcases hi with hi|hi;cases hi;exact hi
 |d::l,st,i,hi=>by refine QH l _ i ?_;by_cases N6:i∈l;exact .inl N6;refine .inr ?_;have he:(AS.eX (st.put (some d) .bot) (some d)).iss=gL st.iss d true:=rfl;rw[he,eN,dv,bj];split;split<;>rfl;rename_i hdi;rcases hi with hi|hi;simp only[bU]at hi;rcases hi with hi|hi;exact absurd hi.symm hdi;exact absurd hi N6;rw[dv]at hi;exact hi
theorem mM.weaken {st':AS}(h:mM C st' a w)(hn:iA ds st st'){s:Nat}{b:Bool}(hb:getBool st' s=some b):mM C ((st.Cf ds).put (some s) (.one (.bool b))) a w:=by
 have H0:st'.get s=.val false [.bool b]:=by unfold getBool at hb;split at hb;rename_i b' hg;cases hb;exact hg;cases hb
 have hkn:=h.known H0;obtain⟨g,h⟩:=h;have hdn:=IG (ds:=ds) ds st (λ_ hi=>hi);have um:((st.Cf ds).put (some s) (.one (.bool b))).boxes=st'.boxes:=by rw[ki,hdn.boxes,hn.boxes]
 have xg:((st.Cf ds).put (some s) (.one (.bool b))).ep=st'.ep:=by rw[K2,hdn.ep,hn.ep]
 have hlen:((st.Cf ds).put (some s) (.one (.bool b))).slots.length=st'.slots.length:=by rw[fz,bg,hdn.len,hn.len]
 have FV:∀t,kO st' t->kO ((st.Cf ds).put (some s) (.one (.bool b))) t:=by intro t ht;rw[J9];rcases ht with ht|ht;exact .inl ht;refine .inr (QH ds st _ ?_);by_cases hi:t/3/4096∈ds;exact .inl hi;exact .inr (by rw[<-hn.iss _ hi];exact ht)
 have qe:∀s',fY st' s'->fY ((st.Cf ds).put (some s) (.one (.bool b))) s':=λs' hs=>by unfold fY at hs⊢;rw[um];exact hs
 have hle:(cv C g st' w).Le (cv C g ((st.Cf ds).put (some s) (.one (.bool b))) w):=⟨rfl,λt ht=>⟨FV t ht,rfl⟩,λ_ _ _ _ _ hv=>hv,by show st'.ep<=_;rw[<-xg];exact bc _,λs' hs=>⟨qe s' hs,rfl⟩,λ_ b o u ho hu=>⟨ho,hu⟩⟩
 refine⟨g,h.step (λ_=>True) hle h.defers (by rw[hlen];exact h.size) (by rw[um,hlen];exact h.bsize) h.frame h.ff (λb x _ hx=>⟨hx,rfl,rfl⟩) ?_ ?_ ?_ (.inl ⟨bX,by rw[Lc,hdn.io,hn.io]⟩)⟩;intro i av hi;rw[fz,bj]at hi;split at hi;rename_i hsi;subst hsi;split at hi;cases hi;refine .inr ⟨[],ma ?_,by simp,by simp⟩;exact⟨hkn,rfl⟩;cases hi;by_cases UJ:i∈ds;have:=QG ds st i av hi (.inl UJ);subst this;exact .inr ⟨[],fA.bot _ _,by simp,by simp⟩;rw[hdn.slot i UJ]at hi;exact .inl ⟨bX,by rw[hn.slot i UJ];exact hi,rfl⟩;intro s' cs hs;rw[um]at hs;exact .inl ⟨bX,hs,rfl⟩;intro k v av hk;simp at hk
theorem afl (Γ:xf)(f:Nat):(Γ.calm f).io=false/\(Γ.calm f).bx=false/\(Γ.calm f).pr=false:=by unfold xf.calm;cases h:(Γ f).io with|true=>exact⟨rfl,rfl,rfl⟩|false=>cases h2:(Γ f).bx with|true=>exact⟨rfl,rfl,rfl⟩|false=>cases h3:(Γ f).pr with|true=>exact⟨rfl,rfl,rfl⟩|false=>exact⟨h,h2,h3⟩
theorem agh (Γ:xf)(f:Nat):(Γ.Je f).io=false/\((Γ.Je f).bx=true->(Γ.Je f).cur=true)/\(Γ.Je f).pr=false:=by unfold xf.Je;cases h:(Γ f).io with|true=>exact⟨rfl,λh=>(by cases h),rfl⟩|false=>cases h3:(Γ f).pr with|true=>exact⟨rfl,λh=>(by cases h),rfl⟩|false=>cases h2:(Γ f).bx with|false=>exact⟨h,λh=>(by simp[h2]at h),h3⟩|true=>cases h4:(Γ f).cur with|true=>exact⟨h,λ_=>h4,h3⟩|false=>exact⟨rfl,λh=>(by cases h),rfl⟩
theorem agi (zr:∀f,(Γ f).io=false/\(Γ f).bx=false/\(Γ f).pr=false)(f:Nat):(Γ.Je f).io=false/\(Γ.Je f).bx=false/\(Γ.Je f).pr=false:=by have h:=zr f;unfold xf.Je;rw[h.1,h.2.1,h.2.2];exact h
theorem Sound.Je {E:Env}(h:Sound P E Γ):Sound P E Γ.Je:=by refine⟨h.ty,h.eqs,h.fts,λf=>?_,h.mixed⟩;unfold xf.Je;cases (Γ f).io||(Γ f).pr||((Γ f).bx&& !(Γ f).cur)with|true=>intro xs y hy;cases hy|false=>exact h.fns f
theorem Sound.calm {E:Env}(h:Sound P E Γ):Sound P E Γ.calm:=by refine⟨h.ty,h.eqs,h.fts,λf=>?_,h.mixed⟩;unfold xf.calm;cases (Γ f).io with|true=>intro xs y hy;cases hy|false=>cases (Γ f).bx with|true=>intro xs y hy;cases hy|false=>cases (Γ f).pr with|true=>intro xs y hy;cases hy|false=>exact h.fns f
end Go.Dn
