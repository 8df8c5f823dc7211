import Derived.Test.YtinkcmefgciifaaGreatDnDen
import Derived.Test.YtinkcmefgciifaaGreatDnNat
/- What is kept at a loop's door; what a region whose ways meet again leaves. -/
namespace Go.Dn
open Go.RowKit
variable {P:Program} {C:Ctx} {st:AS} {a:Act} {w:World} {R:Type} {r:R}
variable {an:An} {Γ:Bx} {v:Value} {io:az AC} {d:aC Nat} {ds:gk}
theorem HD (jn:gk)(ep:Nat)(io:az AC):∀(l:az AV)(n i:Nat),(pw jn ep io n l)[i]?=(l[i]?).map λv=>if jn.contains (n+i) then v.mask jn ep io (n+i) else .bot
 |[],n,i=>by simp[pw]
 |v::l,n,0=>by simp[pw]
 |v::l,n,i+1=>by simp only[pw,fW];rw[HD jn ep io l (n+1) i,show n+1+i=n+(i+1) by omega]
theorem De (jn:gk)(ep:Nat)(io:az AC):∀(l:az (aC (az AC)))(n i:Nat),(pt jn ep io n l)[i]?=(l[i]?).map λb=>if jn.contains (n+i) then b.map (K6 jn ep io (.box (n+i)) 0) else none
 |[],n,i=>by simp[pt]
 |v::l,n,0=>by simp[pt]
 |v::l,n,i+1=>by simp only[pt,fW];rw[De jn ep io l (n+1) i,show n+1+i=n+(i+1) by omega]
theorem yf (jn:gk)(ep:Nat)(io:az AC):∀(l:az AV)(n:Nat),(pw jn ep io n l).length=l.length
 |[],_=>rfl
 |_::l,n=>by simp[pw,yf jn ep io l]
theorem DS (jn:gk)(ep:Nat)(io:az AC):∀(l:az (aC (az AC)))(n:Nat),(pt jn ep io n l).length=l.length
 |[],_=>rfl
 |_::l,n=>by simp[pt,DS jn ep io l]
def Zh:Value->AV->jT
 | .agg vs,.val true _=>vs.toList
 |v,_=>[v]
theorem Zl {g:Bool}{vs:jT}{cs:az AC}(h:Cut g v vs):Zh v (.val g cs)=vs:=by cases g with|true=>simp only[Cut,cr]at h;subst h;simp[Zh]|false=>simp only[Cut]at h;subst h;cases v<;>rfl
def Eo (ioV:jT)(st:AS)(a:Act)(w:World)(β:Nat->Nat)(t:Nat):Value:=
 if t%3=0/\t/3/4096=1000003 then(ioV[t/3%4096]?).getD undef
 else if t%3=0 then((Zh (a.tmps.getD (t/3/4096) undef) (st.get (t/3/4096)))[t/3%4096]?).getD undef
 else match w.heap[β (t/3/4096)]? with
  |some (.cells arr _ _)=>(arr.toList[t/3%4096]?).getD undef
  |_=>undef
def YM (c c':RC)(io:az AC):Prop:=∀j n (e:CT)(ys:az e.D),AC.aht io j n e=some ys->∃v0 fp0,gG c.hw c.w (.sl e) [v0] ys fp0/\v0=c.hdr n/\∀q,(mq.io j).Gw=some q->c'.iss q/\v0=c'.hdr q
theorem aef {c c':RC}(Q1:YM c c' io){jn:gk}{rt:mq}{x:AC}{fp:gk}(h:jh c v x fp)(GV:c'.hw=c.hw)(hw:c'.w=c.w)(hA:c'.A=c.A)(Ae:c'.ep=0)(KS:c'.β=c.β)(wG:∀s,jn.contains s=true->c.JT s->c'.JT s)(oB:∀t,rt.Gw=some t->c'.iss t/\v=c'.hdr t):jh c' v (x.mask jn c.ep io rt) fp:=by
 have hS:c'.S=c.S:=by funext b o;simp[RC.S,GV,hA]
 cases x with
 |int k n=>exact h
 |bool b=>exact h
 |str s=>exact h
 |lj=>exact h
 |fn f=>exact h
 |un=>exact h
 |bot=>exact h
 |ptr s off=>simp only[AC.mask];split;rename_i hk;exact⟨by rw[KS];exact h.1,wG s hk h.2.1,h.2.2⟩;exact h.2.2
 |C5 fl e y i off=>cases fl with|own t=>exact h.elim|nest _ _ _ _ _ _=>exact h.elim|part _ _ _ _=>exact h.elim|gH _ _ _=>exact h.elim|arg _=>exact h.1|loc ep pv=>exact h.1
 |sl fl e xs=>
  cases fl with
  |own t=>exact⟨gG.mono h.1 (λb _=>⟨by rw[hw],by rw[GV]⟩),oB⟩
  |nest _ _ _ _ _ _=>exact h.1
  |part _ _ _ _=>exact h.1
  |gH _ _ _=>obtain⟨_,⟨k,hk,h3⟩,_⟩:=h;exact⟨λq hq=>(by cases hq),⟨k,hk,h3.mono (λb hb=>⟨by rw[hw],by rw[GV]⟩)⟩,by simp⟩
  |arg _=>exact⟨h.1,by rw[hA,hw];exact h.2⟩
  |loc ep pv=>
   obtain⟨h1,h2,h3,h4,h5⟩:=h;have plain:jh c' v (if(ep==c.ep)=true then AC.sl (.loc 0 none) e xs else .bot) fp:=by split;rename_i he;refine⟨h1,by rw[Ae];exact aX _,h3,λ_=>?_,by simp⟩;rw[hS,hw];exact h4 (by simpa using he);exact h1
   simp only[AC.mask];split;rename_i j n;split;rename_i ys F0;obtain⟨v0,fp0,jl,O4,hq⟩:=Q1 j n e ys F0;obtain⟨_,k2⟩:=h5 _ _ rfl;have hv:v0=v:=O4.trans k2.symm;subst hv;refine⟨h1,by rw[Ae];exact aX _,PG jl,λ_=>?_,λr t hp=>?_⟩;rw[hS,hw];exact gG.rep (λb o ho=> .inr ho) jl;cases xT:(mq.io j).Gw with|none=>rw[xT]at hp;cases hp|some q=>rw[xT]at hp;simp at hp;obtain⟨_,rfl⟩:=hp;exact⟨(hq q xT).1,(hq q xT).2⟩
   exact plain;exact plain
theorem Ij {c c':RC}(Q1:YM c c' io){jn:gk}{f:Nat->mq}(GV:c'.hw=c.hw)(hw:c'.w=c.w)(hA:c'.A=c.A)(Ae:c'.ep=0)(KS:c'.β=c.β)
 (wG:∀s,jn.contains s=true->c.JT s->c'.JT s):∀{vs:jT}{xs:az AC}{fp:gk}(j:Nat),bT c vs xs fp->
  (∀i v,vs[i]?=some v->∀t,(f (j+i)).Gw=some t->c'.iss t/\v=c'.hdr t)->bT c' vs (K6 jn c.ep io f j xs) fp
 |[],[],_,_,h,_=>h
 |v::_,_::_,_,j,h,hm=>by obtain⟨f1,f2,rfl,h1,h2⟩:=h;exact⟨f1,f2,rfl,aef Q1 h1 GV hw hA Ae KS wG (λt ht=>hm 0 v rfl t ht),Ij Q1 GV hw hA Ae KS wG (j+1) h2 (λi u hu t ht=>hm (i+1) u (by simpa using hu) t (by rwa[show j+(i+1)=j+1+i by omega]))⟩
 |[],_::_,_,_,h,_=>h.elim
 |_::_,[],_,_,h,_=>h.elim
theorem ahM {c:RC}{x:AC}{fp:gk}(h:jh c v x fp)(IG:∀(tag:aC Nat)(e:CT)(xs:az e.D),x=.sl (.own tag) e xs->False)(alU:∀(tag:aC Nat)(i:Int)(ep:aC Nat)(e:CT)(xs:az e.D),x=.sl (.gH tag i ep) e xs->False):fp=[]:=by
 cases x with
 |int k n=>exact h.2
 |bool b=>exact h.2
 |str s=>exact h.2
 |lj=>exact h.2
 |fn f=>exact h.2
 |un=>exact h.2
 |bot=>exact h
 |ptr s off=>exact h.2.2
 |C5 fl e y i off=>cases fl with|own t=>exact h.elim|nest _ _ _ _ _ _=>exact h.elim|part _ _ _ _=>exact h.elim|gH _ _ _=>exact h.elim|arg _=>exact h.1|loc ep pv=>exact h.1
 |sl fl e xs=>cases fl with|own t=>exact(IG _ _ _ rfl).elim|nest _ _ _ _ _ _=>exact h.1|part _ _ _ _=>exact h.1|gH _ _ _=>exact(alU _ _ _ _ _ rfl).elim|arg _=>exact h.1|loc ep pv=>exact h.1
theorem pT.mask (h:pT C st a w)(jn:gk):pT C (st.mask jn) a w:=by
 obtain⟨g,h⟩:=h;let g':Gh:={g with hdr:=Eo C.ioV st a w g.β}
 have wG:∀s,jn.contains s=true->ky st s->ky (st.mask jn) s:=by rintro s hk ⟨cs,hs⟩;refine⟨K6 jn st.ep st.io (.box s) 0 cs,?_⟩;show(pt jn st.ep st.io 0 st.boxes)[s]?=_;rw[De,hs];simp only[dL,cP,aJ hk]
 obtain⟨fpi,hri,hni,hli⟩:=h.io;have anO:∀j v,C.ioV[j]?=some v->∀q,(mq.io j).Gw=some q->oz (st.mask jn) q/\v=Eo C.ioV st a w g.β q:=by
  intro j v hv q hq;simp only[mq.Gw]at hq;cases hb:Nat.ble 4096 j with
  |true=>rw[hb]at hq;cases hq
  |false=>
   rw[hb]at hq;simp only[af,bw,acm]at hq;have hj:j<4096:=by rcases ca j 4096 with iz|BC;exact iz;rw[jk BC]at hb;cases hb
   have h0:q%3=0:=by omega
   have h1:q/3/4096=1000003:=by omega
   have h2:q/3%4096=j:=by omega
   refine⟨.inl (by omega),?_⟩;rw[Eo,aJ ⟨h0,h1⟩,h2,hv];rfl
 have akW:YM (dp C g st w) (dp C g' (st.mask jn) w) st.io:=by
  intro j n e ys F0;unfold AC.aht at F0;split at F0;rename_i t' e' ys' hj;split at F0;rename_i he;subst he;cases ht:(t'==n)with
  |false=>rw[ht]at F0;cases F0
  |true=>
   rw[ht]at F0;have:t'=n:=by simpa using ht
   subst this;cases F0;rw[eT]at hj;obtain⟨v,f,hv,hr,_⟩:=hri.get j _ hj;exact⟨v,f,hr.1,(hr.2 t' rfl).2,λq hq=>anO j v hv q hq⟩
  cases F0;cases F0
 have asw:∀(j:Nat){vs:jT}{xs:az AC}{fp:gk},bT (dp C g st w) vs xs fp->(∀i v,vs[i]?=some v->C.ioV[j+i]?=some v)->bT (dp C g' (st.mask jn) w) vs (aaJ jn j xs) fp:=by
  intro j vs
  induction vs generalizing j with
  |nil=>intro xs fp hr _;cases xs with
   |nil=>exact hr
   |cons _ _=>exact hr.elim
  |cons v vs ih=>
   intro xs fp hr hv
   cases xs with
   |nil=>exact hr.elim
   |cons x xs=>
    obtain⟨f1,f2,rfl,r1,r2⟩:=hr
    refine⟨f1,f2,rfl,?_,ih (j+1) r2 (λi u hu=>by rw[show j+1+i=j+(i+1) by omega];exact hv (i+1) u (by simpa using hu))⟩
    have O4:=hv 0 v rfl
    rw[eE]at O4
    split
    ·rename_i tg e ys
     exact⟨r1.1,λq hq=>anO j v O4 q hq⟩
    ·rename_i tag i ep e ys
     obtain⟨_,⟨k,hk,h3⟩,_⟩:=r1
     exact⟨λq hq=>(by cases hq),⟨k,hk,h3⟩,by simp⟩
    ·rename_i s off
     split
     ·rename_i hk
      exact⟨r1.1,wG s hk r1.2.1,r1.2.2⟩
     ·exact r1.2.2
    ·rename_i IG alU _
     cases hfl:x.kP with
     |true=>
      obtain⟨rfl,k⟩:=tp (c':=dp C g' (st.mask jn) w) r1 hfl
      exact k
     |false=>exact ahM r1 IG alU
 refine⟨g',h.defers,?_,?_,λi av hi=>?_,λs cs hs=>?_,λk v av hk=>by simp at hk,h.iw,h.frame,⟨fpi,asw 0 hri (λi v hv=>by rw[cP];exact hv),hni,hli⟩⟩;show _=(pw jn st.ep st.io 0 st.slots).length;rw[yf];exact h.size;show(pt jn st.ep st.io 0 st.boxes).length=(pw jn st.ep st.io 0 st.slots).length;rw[yf,DS];exact h.bsize;have wF:(pw jn st.ep st.io 0 st.slots)[i]?=some av:=hi;rw[HD,cP]at wF;cases hv:st.slots[i]? with
 |none=>rw[hv]at wF;cases wF
 |some x=>
  rw[hv]at wF;simp only[dL,bw]at wF;split at wF
  ·subst wF
   cases hx:x with
   |xN ts=>exact⟨[],iu.bot _ _,by simp,by simp⟩
   |val gg cs=>
    rw[hx]at hv
    obtain⟨fp,⟨vs,gJ,hr⟩,hn,hl⟩:=h.slots i _ hv
    refine⟨fp,⟨vs,gJ,Ij (io:=st.io) akW (c:=dp C g st w) (c':=dp C g' (st.mask jn) w) rfl rfl rfl rfl rfl wG 0 hr ?_⟩,hn,hl⟩
    intro j u hu t ht
    simp only[cP,mq.Gw]at ht
    cases hb:Nat.ble 4096 j with
    |true=>rw[hb]at ht;cases ht
    |false=>
     rw[hb]at ht
     simp only[af]at ht
     cases Hv:Nat.ble 1000000 i with
     |true=>rw[Hv]at ht;cases ht
     |false=>
     rw[Hv]at ht
     simp only[af,bw]at ht
     have hi6:i<1000000:=by rcases ca i 1000000 with iz|BC;exact iz;rw[jk BC]at Hv;cases Hv
     have hj:j<4096:=by rcases ca j 4096 with iz|BC;exact iz;rw[jk BC]at hb;cases hb
     have h0:t%3=0:=by omega
     have h1:t/3/4096=i:=by omega
     have h2:t/3%4096=j:=by omega
     refine⟨.inl (by omega),?_⟩
     show u=Eo C.ioV st a w g.β t
     rw[Eo,kz,aJ h0,h1,h2,get_eq hv,Zl gJ,hu];rfl
  subst wF;exact⟨[],iu.bot _ _,by simp,by simp⟩
 have Af:(pt jn st.ep st.io 0 st.boxes)[s]?=some (some cs):=hs;rw[De,cP]at Af;cases hv:st.boxes[s]? with
 |none=>rw[hv]at Af;cases Af
 |some x=>
  rw[hv]at Af;simp only[dL,bw]at Af;split at Af;cases hx:x with
  |none=>rw[hx]at Af;cases Af
  |some xs=>
   rw[hx]at Af hv;simp only[dL,bw]at Af;subst Af;obtain⟨arr,T,fr,fp,hb,uj,hr,hn,hni,hl,IE,IH⟩:=h.boxes s xs hv;refine⟨arr,T,fr,fp,hb,uj,Ij (io:=st.io) akW (c:=dp C g st w) (c':=dp C g' (st.mask jn) w) rfl rfl rfl rfl rfl wG 0 hr ?_,hn,hni,hl,IE,IH⟩;intro j u hu t ht;simp only[cP,mq.Gw]at ht;cases Z1:Nat.ble 4096 j with
   |true=>rw[Z1]at ht;cases ht
   |false=>
    rw[Z1]at ht;simp only[af,bw]at ht;have hj:j<4096:=by rcases ca j 4096 with iz|BC;exact iz;rw[jk BC]at Z1;cases Z1
    have h0:¬t%3=0:=by omega
    have h1:t/3/4096=s:=by omega
    have h2:t/3%4096=j:=by omega
    refine⟨.inl (by omega),?_⟩;show u=Eo C.ioV st a w g.β t;rw[Eo,kz,aI h0,h1,h2,hb];simp only;rw[hu];rfl
  cases Af
structure ki (ds:List Nat) (st cc:AS):Prop where
 len:cc.slots.length=st.slots.length
 slot:∀i,i∉ds->cc.slots[i]?=st.slots[i]?
 boxes:cc.boxes=st.boxes
 ep:cc.ep=st.ep
 iss:∀i,i∉ds->nth cc.iss i=nth st.iss i
 aoa:cc.iss.length=st.iss.length
 io:cc.io=st.io
theorem ki.refl (ds:gk)(st:AS):ki ds st st:=⟨rfl,λ_ _=>rfl,rfl,rfl,λ_ _=>rfl,rfl,rfl⟩
theorem ki.trans {st st1 st2:AS}(h:ki ds st st1)(k:ki ds st1 st2):ki ds st st2:=⟨k.len.trans h.len,λi hi=>(k.slot i hi).trans (h.slot i hi),k.boxes.trans h.boxes,k.ep.trans h.ep,λi hi=>(k.iss i hi).trans (h.iss i hi),k.aoa.trans h.aoa,k.io.trans h.io⟩
theorem ki.put {st:AS}(hd:∀i,d=some i->i∈ds)(v:AV):ki ds st (st.put d v):=by cases d with|none=>exact ki.refl _ _|some d=>refine⟨by rw[gW,aD],λi hi=>?_,mr,KG,λi _=>by rw[UA],by rw[UA],KY⟩;rw[gW,aF];rintro rfl;exact hi (hd _ rfl)
theorem ki.gO {st:AS}(hd:∀i,d=some i->i∈ds):ki ds st (st.gO d):=by cases d with|none=>exact ki.refl _ _|some d=>refine⟨rfl,λi _=>rfl,rfl,rfl,λi hi=>?_,?_,rfl⟩;simp only[AS.gO,eT,gL];rw[aF];rintro rfl;exact hi (hd _ rfl);simp only[AS.gO,gL,aD]
theorem vF {α:Type}{o:aC α}{k:α->aC AS}{cc:AS}(h:aa o k=some cc)(hk:∀x,k x=some cc->ki ds st cc):ki ds st cc:=by cases o with|none=>cases h|some x=>exact hk x h
theorem aes {n:Nat}{k:aC AS}{cc:AS}(h:room n k=some cc)(hk:k=some cc->ki ds st cc):ki ds st cc:=by unfold room at h;split at h;exact hk h;cases h
theorem aaR {op:BinOp}{k:IntKind}{x y:Int}{K:AC->aC AS}{cc:AS}(h:Jy op k x y K=some cc)(hk:∀z,K z=some cc->ki ds st cc):ki ds st cc:=by
 unfold Jy at h
 split at h<;>first
  |exact hk _ h
  |(split at h
    ·cases h
    ·exact hk _ h)
  |cases h
theorem aaS {op:BinOp}{x y:az UInt8}{K:AC->aC AS}{cc:AS}(h:MB op x y K=some cc)(hk:∀z,K z=some cc->ki ds st cc):ki ds st cc:=by
 unfold MB at h
 split at h<;>first
  |exact aes h (hk _)
  |exact hk _ h
  |cases h
theorem K9 {op:BinOp}{x y:AV}{K:AC->aC AS}{cc:AS}(h:Hi op x y K=some cc)(hk:∀z,K z=some cc->ki ds st cc):ki ds st cc:=by unfold Hi at h;split at h;split at h;split at h;cases h;exact hk _ h;split at h;cases h;exact hk _ h;split at h;exact aaR h hk;cases h;exact aaS h hk;split at h;exact hk _ h;exact hk _ h;cases h;split at h;exact vF h λb hb=>hk _ hb;exact vF h λb hb=>hk _ hb;cases h;cases h
theorem JN {lo hi:aC Operand}{n:Nat}{K:Int->Int->aC AS}{st0 cc:AS}(h:oA st0 lo hi n K=some cc)(hk:∀x y,K x y=some cc->ki ds st cc):ki ds st cc:=by
 unfold oA at h
 split at h<;>first
  |exact hk _ _ h
  |cases h
theorem Py {op:BinOp}{b:Bool}{K:AC->aC AS}{cc:AS}(h:Fc op b K=some cc)(hk:∀c,K c=some cc->ki ds st cc):ki ds st cc:=by unfold Fc at h;split at h;exact hk _ h;exact hk _ h;cases h
theorem SA {E:Env}(Cm:∀f,(Γ f).io=false/\(Γ f).bx=false/\(Γ f).pr=false){o:Oper}{cc:AS}(hq:iP an ds o=true)(hd:∀i,o.dst=some i->i∈ds)(h:dG E Γ an o st some=some cc):ki ds st cc:=by
 have xS:∀v,some (st.put o.dst v)=some cc->ki ds st cc:=λv hv=>by cases hv;exact ki.put hd v
 unfold dG at h;split at h;rename_i x ho;simp only[iP,ho]at hq;unfold DT at h;cases Uh:o.dst with
 |none=>rw[Uh]at h;cases h
 |some d=>
  rw[Uh]at h hq;simp only at h hq;have hf:an.mv.contains d=false:=by simpa using hq
  rw[hf]at h;simp only[bj,cy]at h;cases h;exact ki.put (λi hi=>hd i (by rw[Uh];exact hi)) _
 rename_i x ho;have Fi:B6 an o=false\/∃y,x=y/\(∀v,y≠ .const v)/\(∀t,y≠ .tmp t):=by cases x with|tmp t=>left;simp only[iP,ho,ae,aN]at hq;exact hq.2|const v=>left;simpa only[iP,ho,aN]using hq|func f=>simp[iP,ho]at hq|global g=>simp[iP,ho]at hq
 have Fi:B6 an o=false:=by rcases Fi with h1|⟨y,rfl,h1,h2⟩;exact h1;cases x with|tmp t=>exact absurd rfl (h2 t)|const v=>exact absurd rfl (h1 v)|func f=>simp[iP,ho]at hq|global g=>simp[iP,ho]at hq
 simp only[iP,ho]at hq;rw[aI (by simp[Fi])]at h;unfold wx at h;have hx:ki ds st (st.take x).2:=by
  cases x with
  |tmp t=>
   have ht:t∈ds:=by simp only[ae]at hq;simpa using hq.1
   exact ki.put (d:=some t) (λi hi=>by cases hi;exact ht) _
  |const v=>exact ki.refl _ _
  |func f=>exact ki.refl _ _
  |global g=>exact ki.refl _ _
 split at h;split at h;exact xS _ h;cases h;rename_i v st1 _ uz;cases h;have:(st.take x).2=st1:=by rw[uz]
 rw[this]at hx;exact hx.trans (ki.put hd _);unfold Ge at h;split at h;rename_i t _;split at h;exact xS _ h;cases t with|true=>exact xS _ h|false=>exact xS _ h
 cases h;rename_i ho;simp[iP,ho]at hq;rename_i ho;simp[iP,ho]at hq;rename_i T p ho;simp only[iP,ho]at hq;have uz:GB an o=false:=by unfold GB;cases Uh:o.dst with|none=>rfl|some d=>rw[Uh]at hq;simp only[aN]at hq;simp only[hq,eY]
 unfold qO at h;split at h;split at h;split at h;split at h;rename_i d Uh;rw[Uh]at hq;simp only at hq;have hf:an.mv.contains d=false:=by simpa using hq
 rw[hf]at h;simp only[bj,cy]at h;exact xS _ h;cases h;cases h;cases h;rw[aI (by simp[uz])]at h;split at h;split at h;exact xS _ h;cases h;unfold EU at h;split at h;split at h;split at h;split at h;obtain⟨y,_,h⟩:=NT h;exact xS _ h;cases h;cases h;cases h;cases h;cases h;rename_i ho;simp[iP,ho]at hq;split at h;exact xS _ h;exact xS _ h;cases h;unfold Ct at h;split at h;split at h;exact K9 h λz hz=>xS _ hz;cases h;split at h;split at h;exact K9 h λz hz=>xS _ hz;cases h;cases h;split at h;split at h;cases h;exact Py h λz hz=>xS _ hz;cases h;split at h;exact Py h λz hz=>xS _ hz;cases h;exact K9 h λz hz=>xS _ hz;unfold unC at h;split at h;exact xS _ h;exact xS _ h;exact xS _ h;cases h;unfold BP at h;split at h;split at h;exact xS _ h;cases h;split at h;exact xS _ h;cases h;cases h;unfold oa at h;split at h;split at h;exact vF h λy hy=>xS _ hy;cases h;cases h;unfold Dc at h;split at h;split at h;exact vF h λy hy=>xS _ hy;cases h;cases h;rename_i T parts ho;simp only[iP,ho]at hq;have he:parts=#[]:=by simpa using hq
 subst he;unfold C1 at h;split at h;simp only[gi,List.map_nil]at h;split at h;exact xS _ h;cases h;cases h;rename_i ho;simp[iP,ho]at hq;rename_i ho;simp[iP,ho]at hq;rename_i ho;simp only[iP,ho,aN]at hq;unfold Cf at h;rw[aI (by simp[hq])]at h;split at h;split at h;exact JN h λx y hxy=>vF hxy λz hz=>xS _ hz;cases h;split at h;exact JN h λx y hxy=>vF hxy λz hz=>xS _ hz;cases h;cases h;rename_i ho;simp[iP,ho]at hq;rename_i ho;simp[iP,ho]at hq;rename_i ho;simp[iP,ho]at hq;rename_i ho;simp[iP,ho]at hq;unfold Pq at h;split at h;split at h;exact xS _ h;cases h;split at h;exact xS _ h;cases h;cases h;unfold Re at h;split at h;exact xS _ h;cases h;unfold Rd at h;split at h;exact xS _ h;cases h;rename_i ho;simp[iP,ho]at hq;unfold Fa at h;split at h;rename_i k _;rw[(Cm k).2.1,(Cm k).2.2,(Cm k).1]at h;simp only[af]at h;refine vF h λy hy=>?_;cases Q5:(Γ k).sel y with|true=>rw[Q5]at hy;cases hy;exact(ki.gO hd).trans (ki.put hd _)|false=>rw[Q5]at hy;cases hy;exact(ki.gO hd).trans (ki.put hd _)
 cases h;cases h
theorem Xj {ops:az Oper}{o:Oper}(ho:o∈ops){i:Nat}(hi:o.dst=some i):i∈H0 ops:=List.mem_filterMap.2 ⟨o,ho,hi⟩
theorem Pz {E:Env}(Cm:∀f,(Γ f).io=false/\(Γ f).bx=false/\(Γ f).pr=false){ops:az Oper}{o:Oper}{cc:AS}(ho:o∈ops)(hq:iP an (H0 ops) o=true)(h:iK E Γ an ops o st some=some cc):ki (H0 ops) st cc:=by
 have hd:∀i,o.dst=some i->i∈H0 ops:=λi hi=>Xj ho hi;unfold iK at h;split at h;exact SA Cm hq hd h;rename_i j Iz hg;split at h;rename_i d Uh;have hdm:d∈H0 ops:=by rw[eT]at Uh;cases M5:ops[j]? with|none=>rw[M5]at Uh;cases Uh|some o'=>rw[M5]at Uh;exact Xj (aQ M5) Uh
 have hp:∀t,ki (H0 ops) st (st.put (some d) (.one (.bool t))):=λt=>ki.put (λi hi=>by cases hi;exact hdm) _;split at h;rename_i b hb;have main:∀t,(if(t==Iz)=true then dG E Γ an o (st.put (some d) (.one (.bool t))) some else some ((st.put (some d) (.one (.bool t))).put o.dst (.one .un)))=some cc->ki (H0 ops) st cc:=by intro t ht;split at ht;exact(hp t).trans (SA Cm hq hd ht);cases ht;exact(hp t).trans (ki.put hd _)
 cases b with|true=>exact main true h|false=>exact main false h
 cases h;exact ki.put hd _;cases h;cases h
theorem Xs {E:Env}(Cm:∀f,(Γ f).io=false/\(Γ f).bx=false/\(Γ f).pr=false){ops:az Oper}(hq:∀o∈ops,iP an (H0 ops) o=true):∀(l:az Oper)(st cc:AS),(∀o∈l,o∈ops)->UI E Γ an ops l st some=some cc->ki (H0 ops) st cc
 |[],st,cc,_,h=>by cases h;exact ki.refl _ _
 |o::l,st,cc,hl,h=>by simp only[UI]at h;rw[sH]at h;cases hg:iK E Γ an ops o st some with|none=>rw[hg]at h;cases h|some st1=>rw[hg]at h;exact(Pz Cm (hl o (by simp)) (hq o (hl o (by simp))) hg).trans (Xs Cm hq l st1 cc (λo' M5=>hl o' (by simp[M5])) h)
theorem HZ:∀(l:gk)(st:AS),(∀i∈l,i∈ds)->ki ds st (st.iG l)
 |[],st,_=>ki.refl _ _
 |d::l,st,h=>by
  have hd:∀i,some d=some i->i∈ds:=λi hi=>by cases hi;exact h d (by simp)
  exact((ki.put hd _).trans (ki.gO hd)).trans (HZ l _ (λi hi=>h i (by simp[hi])))
theorem RQ:∀(l:gk)(st:AS)(i:Nat)(av:AV),(st.iG l).slots[i]?=some av->i∈l\/st.slots[i]?=some .bot->av=.bot
 |[],st,i,av,h,hi=>by rcases hi with hi|hi;cases hi;have:st.slots[i]?=some av:=h;rw[hi]at this;cases this;rfl
 |d::l,st,i,av,h,hi=>by
  refine RQ l _ i av h ?_;by_cases Q0:i∈l;exact .inl Q0;refine .inr ?_;rw[vZ,gW,bL];have iz:i<st.slots.length:=by
   have h1:=(HZ (ds:=d::l) l ((st.put (some d) .bot).gO (some d)) (λi hi=>by simp[hi])).len;have h2:=(aB.1 h).1;have h3:(AS.iG ((st.put (some d) .bot).gO (some d)) l).slots.length=st.slots.length:=by rw[h1,vZ,gW,aD]
   have h4:i<(AS.iG ((st.put (some d) .bot).gO (some d)) l).slots.length:=h2;omega
  split;rename_i hdi;subst hdi;rw[aJ iz];rename_i hdi;rcases hi with hi|hi;simp only[cD]at hi;rcases hi with hi|hi;exact absurd hi.symm hdi;exact absurd hi Q0;exact hi
theorem RR:∀(l:gk)(st:AS)(i:Nat),i∈l\/(nth st.iss i).getD true=true->(nth (st.iG l).iss i).getD true=true
 |[],st,i,hi=>by rcases hi with hi|hi;cases hi;exact hi
 |d::l,st,i,hi=>by refine RR l _ i ?_;by_cases Q0:i∈l;exact .inl Q0;refine .inr ?_;have he:(AS.gO (st.put (some d) .bot) (some d)).iss=jt st.iss d true:=rfl;rw[he,gL,eT,bL];split;split<;>rfl;rename_i hdi;rcases hi with hi|hi;simp only[cD]at hi;rcases hi with hi|hi;exact absurd hi.symm hdi;exact absurd hi Q0;rw[eT]at hi;exact hi
theorem pT.weaken {cc:AS}(h:pT C cc a w)(hn:ki ds st cc){s:Nat}{b:Bool}(hb:getBool cc s=some b):pT C ((st.iG ds).put (some s) (.one (.bool b))) a w:=by
 have Hv:cc.get s=.val false [.bool b]:=by unfold getBool at hb;split at hb;rename_i b' hg;cases hb;exact hg;cases hb
 have hkn:=h.known Hv;obtain⟨g,h⟩:=h;have hdn:=HZ (ds:=ds) ds st (λ_ hi=>hi);have vE:((st.iG ds).put (some s) (.one (.bool b))).boxes=cc.boxes:=by rw[mr,hdn.boxes,hn.boxes]
 have Ae:((st.iG ds).put (some s) (.one (.bool b))).ep=cc.ep:=by rw[KG,hdn.ep,hn.ep]
 have hlen:((st.iG ds).put (some s) (.one (.bool b))).slots.length=cc.slots.length:=by rw[gW,aD,hdn.len,hn.len]
 have M0:∀t,oz cc t->oz ((st.iG ds).put (some s) (.one (.bool b))) t:=by intro t ht;rw[JC];rcases ht with ht|ht;exact .inl ht;refine .inr (RR ds st _ ?_);by_cases hi:t/3/4096∈ds;exact .inl hi;exact .inr (by rw[<-hn.iss _ hi];exact ht)
 have wG:∀s',ky cc s'->ky ((st.iG ds).put (some s) (.one (.bool b))) s':=λs' hs=>by unfold ky at hs⊢;rw[vE];exact hs
 have hle:(dp C g cc w).Le (dp C g ((st.iG ds).put (some s) (.one (.bool b))) w):=⟨rfl,λt ht=>⟨M0 t ht,rfl⟩,λ_ _ _ _ _ hv=>hv,by show cc.ep<=_;rw[<-Ae];exact aX _,λs' hs=>⟨wG s' hs,rfl⟩,λ_ b o u ho hu=>⟨ho,hu⟩⟩
 refine⟨g,h.step (λ_=>True) hle h.defers (by rw[hlen];exact h.size) (by rw[vE,hlen];exact h.bsize) h.frame h.iw (λb x _ hx=>⟨hx,rfl,rfl⟩) ?_ ?_ ?_ (.inl ⟨cM,by rw[KY,hdn.io,hn.io]⟩)⟩;intro i av hi;rw[gW,bL]at hi;split at hi;rename_i hsi;subst hsi;split at hi;cases hi;refine .inr ⟨[],oc ?_,by simp,by simp⟩;exact⟨hkn,rfl⟩;cases hi;by_cases Wt:i∈ds;have:=RQ ds st i av hi (.inl Wt);subst this;exact .inr ⟨[],iu.bot _ _,by simp,by simp⟩;rw[hdn.slot i Wt]at hi;exact .inl ⟨cM,by rw[hn.slot i Wt];exact hi,rfl⟩;intro s' cs hs;rw[vE]at hs;exact .inl ⟨cM,hs,rfl⟩;intro k v av hk;simp at hk
theorem ajk (Γ:Bx)(f:Nat):(Γ.calm f).io=false/\(Γ.calm f).bx=false/\(Γ.calm f).pr=false:=by unfold Bx.calm;cases h:(Γ f).io with|true=>exact⟨rfl,rfl,rfl⟩|false=>cases h2:(Γ f).bx with|true=>exact⟨rfl,rfl,rfl⟩|false=>cases h3:(Γ f).pr with|true=>exact⟨rfl,rfl,rfl⟩|false=>exact⟨h,h2,h3⟩
theorem akq (Γ:Bx)(f:Nat):(Γ.Iu f).io=false/\((Γ.Iu f).bx=true->(Γ.Iu f).cur=true)/\(Γ.Iu f).pr=false:=by unfold Bx.Iu;cases h:(Γ f).io with|true=>exact⟨rfl,λh=>(by cases h),rfl⟩|false=>cases h3:(Γ f).pr with|true=>exact⟨rfl,λh=>(by cases h),rfl⟩|false=>cases h2:(Γ f).bx with|false=>exact⟨h,λh=>(by simp[h2]at h),h3⟩|true=>cases h4:(Γ f).cur with|true=>exact⟨h,λ_=>h4,h3⟩|false=>exact⟨rfl,λh=>(by cases h),rfl⟩
theorem akr (Cm:∀f,(Γ f).io=false/\(Γ f).bx=false/\(Γ f).pr=false)(f:Nat):(Γ.Iu f).io=false/\(Γ.Iu f).bx=false/\(Γ.Iu f).pr=false:=by have h:=Cm f;unfold Bx.Iu;rw[h.1,h.2.1,h.2.2];exact h
theorem Sound.Iu {E:Env}(h:Sound P E Γ):Sound P E Γ.Iu:=by refine⟨h.ty,h.eqs,h.fts,λf=>?_,h.mixed⟩;unfold Bx.Iu;cases (Γ f).io||(Γ f).pr||((Γ f).bx&& !(Γ f).cur)with|true=>intro xs y hy;cases hy|false=>exact h.fns f
theorem Sound.calm {E:Env}(h:Sound P E Γ):Sound P E Γ.calm:=by refine⟨h.ty,h.eqs,h.fts,λf=>?_,h.mixed⟩;unfold Bx.calm;cases (Γ f).io with|true=>intro xs y hy;cases hy|false=>cases (Γ f).bx with|true=>intro xs y hy;cases hy|false=>cases (Γ f).pr with|true=>intro xs y hy;cases hy|false=>exact h.fns f
end Go.Dn
