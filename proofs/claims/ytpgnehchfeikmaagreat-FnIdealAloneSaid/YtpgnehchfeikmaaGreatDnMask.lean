import Derived.Test.YtpgnehchfeikmaaGreatDnDen
import Derived.Test.YtpgnehchfeikmaaGreatDnNat
/- What is kept at a loop's door; what a region whose ways meet again leaves. -/
namespace Go.Dn
open Go.RowKit
variable {P:Program} {C:Ctx} {st:AS} {a:Act} {w:World} {R:Type} {r:R}
theorem wT (keep:List Nat)(ep:Nat)(io:List AC):∀(l:List AV)(n i:Nat),(iO keep ep io n l)[i]?=(l[i]?).map λv=>if keep.contains (n+i) then v.mask keep ep io (n+i) else .bot
 |[],n,i=>by simp[iO]
 |v::l,n,0=>by simp[iO]
 |v::l,n,i+1=>by simp only[iO,List.getElem?_cons_succ];rw[wT keep ep io l (n+1) i,show n+1+i=n+(i+1) by omega]
theorem tt (keep:List Nat)(ep:Nat)(io:List AC):∀(l:List (Option (List AC)))(n i:Nat),(iM keep ep io n l)[i]?=(l[i]?).map λb=>if keep.contains (n+i) then b.map (zt keep ep io (.box (n+i)) 0) else none
 |[],n,i=>by simp[iM]
 |v::l,n,0=>by simp[iM]
 |v::l,n,i+1=>by simp only[iM,List.getElem?_cons_succ];rw[tt keep ep io l (n+1) i,show n+1+i=n+(i+1) by omega]
theorem pe (keep:List Nat)(ep:Nat)(io:List AC):∀(l:List AV)(n:Nat),(iO keep ep io n l).length=l.length
 |[],_=>rfl
 |_::l,n=>by simp[iO,pe keep ep io l]
theorem tP (keep:List Nat)(ep:Nat)(io:List AC):∀(l:List (Option (List AC)))(n:Nat),(iM keep ep io n l).length=l.length
 |[],_=>rfl
 |_::l,n=>by simp[iM,tP keep ep io l]
def Kw:Value→AV→List Value
 | .agg vs,.val true _=>vs.toList
 |v,_=>[v]
theorem Kz {g:Bool}{v:Value}{vs:List Value}{cs:List AC}(h:Cut g v vs):Kw v (.val g cs)=vs:=by cases g with|true=>simp only[Cut,bj]at h;subst h;simp[Kw]|false=>simp only[Cut]at h;subst h;cases v<;>rfl
def um (ioV:List Value)(st:AS)(a:Act)(w:World)(β:Nat→Nat)(t:Nat):Value:=
 if t%3=0∧t/3/4096=1000003 then(ioV[t/3%4096]?).getD undef
 else if t%3=0 then((Kw (a.tmps.getD (t/3/4096) undef) (st.get (t/3/4096)))[t/3%4096]?).getD undef
 else match w.heap[β (t/3/4096)]? with
  |some (.cells arr _ _)=>(arr.toList[t/3%4096]?).getD undef
  |_=>undef
def Kb (c c':RC)(io:List AC):Prop:=∀j n (e:CT)(ys:List e.D),AC.QE io j n e=some ys→∃v0 fp0,cR c.hw c.w (.sl e) [v0] ys fp0∧v0=c.hdr n∧∀q,(fV.io j).vR=some q→c'.iss q∧v0=c'.hdr q
theorem Om {c c':RC}{io:List AC}(hio:Kb c c' io){keep:List Nat}{rt:fV}{v:Value}{x:AC}{fp:List Nat}(h:eg c v x fp)(hhw:c'.hw=c.hw)(hw:c'.w=c.w)(hA:c'.A=c.A)(hep:c'.ep=0)(hβ:c'.β=c.β)(hpres:∀s,keep.contains s=true→c.pres s→c'.pres s)(hst:∀t,rt.vR=some t→c'.iss t∧v=c'.hdr t):eg c' v (x.mask keep c.ep io rt) fp:=by
 have hS:c'.S=c.S:=by funext b o;simp[RC.S,hhw,hA]
 cases x with
 |int k n=>exact h
 |bool b=>exact h
 |str s=>exact h
 |nilsl=>exact h
 |fn f=>exact h
 |un=>exact h
 |bot=>exact h
 |ptr s off=>simp only[AC.mask];split;rename_i hk;exact⟨by rw[hβ];exact h.1,hpres s hk h.2.1,h.2.2⟩;exact h.2.2
 |elt fl e y i off=>cases fl with|own t=>exact h.elim|nest _ _ _ _ _ _=>exact h.elim|part _ _ _ _=>exact h.elim|holed _ _ _=>exact h.elim|arg _=>exact h.1|loc ep pv=>exact h.1
 |sl fl e xs=>
  cases fl with
  |own t=>exact⟨cR.mono h.1 (λb _=>⟨by rw[hw],by rw[hhw]⟩),hst⟩
  |nest _ _ _ _ _ _=>exact h.1
  |part _ _ _ _=>exact h.1
  |holed _ _ _=>obtain⟨_,⟨k,hk,h3⟩,_⟩:=h;exact⟨λq hq=>(by cases hq),⟨k,hk,h3.mono (λb hb=>⟨by rw[hw],by rw[hhw]⟩)⟩,by simp⟩
  |arg _=>exact⟨h.1,by rw[hA,hw];exact h.2⟩
  |loc ep pv=>
   obtain⟨h1,h2,h3,h4,h5⟩:=h;have plain:eg c' v (if(ep==c.ep)=true then AC.sl (.loc 0 none) e xs else .bot) fp:=by split;rename_i he;refine⟨h1,by rw[hep];exact aQ _,h3,λ_=>?_,by simp⟩;rw[hS,hw];exact h4 (by simpa using he);exact h1
   simp only[AC.mask];split;rename_i j n;split;rename_i ys hnow;obtain⟨v0,fp0,hown,hv0,hq⟩:=hio j n e ys hnow;obtain⟨_,k2⟩:=h5 _ _ rfl;have hv:v0=v:=hv0.trans k2.symm;subst hv;refine⟨h1,by rw[hep];exact aQ _,yq hown,λ_=>?_,λr t hp=>?_⟩;rw[hS,hw];exact cR.rep (λb o ho=> .inr ho) hown;cases hst':(fV.io j).vR with|none=>rw[hst']at hp;cases hp|some q=>rw[hst']at hp;simp at hp;obtain⟨_,rfl⟩:=hp;exact⟨(hq q hst').1,(hq q hst').2⟩
   exact plain;exact plain
theorem xl {c c':RC}{io:List AC}(hio:Kb c c' io){keep:List Nat}{f:Nat→fV}(hhw:c'.hw=c.hw)(hw:c'.w=c.w)(hA:c'.A=c.A)(hep:c'.ep=0)(hβ:c'.β=c.β)
 (hpres:∀s,keep.contains s=true→c.pres s→c'.pres s):∀{vs:List Value}{xs:List AC}{fp:List Nat}(j:Nat),aV c vs xs fp→
  (∀i v,vs[i]?=some v→∀t,(f (j+i)).vR=some t→c'.iss t∧v=c'.hdr t)→aV c' vs (zt keep c.ep io f j xs) fp
 |[],[],_,_,h,_=>h
 |v::_,_::_,_,j,h,hm=>by obtain⟨f1,f2,rfl,h1,h2⟩:=h;exact⟨f1,f2,rfl,Om hio h1 hhw hw hA hep hβ hpres (λt ht=>hm 0 v rfl t ht),xl hio hhw hw hA hep hβ hpres (j+1) h2 (λi u hu t ht=>hm (i+1) u (by simpa using hu) t (by rwa[show j+(i+1)=j+1+i by omega]))⟩
 |[],_::_,_,_,h,_=>h.elim
 |_::_,[],_,_,h,_=>h.elim
theorem QX {c:RC}{v:Value}{x:AC}{fp:List Nat}(h:eg c v x fp)(hno:∀(tag:Option Nat)(e:CT)(xs:List e.D),x=.sl (.own tag) e xs→False)(hno2:∀(tag:Option Nat)(i:Int)(ep:Option Nat)(e:CT)(xs:List e.D),x=.sl (.holed tag i ep) e xs→False):fp=[]:=by
 cases x with
 |int k n=>exact h.2
 |bool b=>exact h.2
 |str s=>exact h.2
 |nilsl=>exact h.2
 |fn f=>exact h.2
 |un=>exact h.2
 |bot=>exact h
 |ptr s off=>exact h.2.2
 |elt fl e y i off=>cases fl with|own t=>exact h.elim|nest _ _ _ _ _ _=>exact h.elim|part _ _ _ _=>exact h.elim|holed _ _ _=>exact h.elim|arg _=>exact h.1|loc ep pv=>exact h.1
 |sl fl e xs=>cases fl with|own t=>exact(hno _ _ _ rfl).elim|nest _ _ _ _ _ _=>exact h.1|part _ _ _ _=>exact h.1|holed _ _ _=>exact(hno2 _ _ _ _ _ rfl).elim|arg _=>exact h.1|loc ep pv=>exact h.1
theorem iD.mask (h:iD C st a w)(keep:List Nat):iD C (st.mask keep) a w:=by
 obtain⟨g,h⟩:=h;let g':Gh:={g with hdr:=um C.ioV st a w g.β}
 have hpres:∀s,keep.contains s=true→dS st s→dS (st.mask keep) s:=by rintro s hk ⟨cs,hs⟩;refine⟨zt keep st.ep st.io (.box s) 0 cs,?_⟩;show(iM keep st.ep st.io 0 st.boxes)[s]?=_;rw[tt,hs];simp only[ch,bM,au hk]
 obtain⟨fpi,hri,hni,hli⟩:=h.io;have hioq:∀j v,C.ioV[j]?=some v→∀q,(fV.io j).vR=some q→gJ (st.mask keep) q∧v=um C.ioV st a w g.β q:=by
  intro j v hv q hq;simp only[fV.vR]at hq;cases hb:Nat.ble 4096 j with
  |true=>rw[hb]at hq;cases hq
  |false=>
   rw[hb]at hq;simp only[ai,aO,qT]at hq;have hj:j<4096:=by rcases bB j 4096 with hlt|hge;exact hlt;rw[eu hge]at hb;cases hb
   have h0:q%3=0:=by omega
   have h1:q/3/4096=1000003:=by omega
   have h2:q/3%4096=j:=by omega
   refine⟨.inl (by omega),?_⟩;rw[um,au ⟨h0,h1⟩,h2,hv];rfl
 have hseen:Kb (bH C g st w) (bH C g' (st.mask keep) w) st.io:=by
  intro j n e ys hnow;unfold AC.QE at hnow;split at hnow;rename_i t' e' ys' hj;split at hnow;rename_i he;subst he;cases ht:(t'==n)with
  |false=>rw[ht]at hnow;cases hnow
  |true=>
   rw[ht]at hnow;have:t'=n:=by simpa using ht
   subst this;cases hnow;rw[cz]at hj;obtain⟨v,f,hv,hr,_⟩:=hri.get j _ hj;exact⟨v,f,hr.1,(hr.2 t' rfl).2,λq hq=>hioq j v hv q hq⟩
  cases hnow;cases hnow
 have hmio:∀(j:Nat){vs:List Value}{xs:List AC}{fp:List Nat},aV (bH C g st w) vs xs fp→(∀i v,vs[i]?=some v→C.ioV[j+i]?=some v)→aV (bH C g' (st.mask keep) w) vs (Lm keep j xs) fp:=by
  intro j vs
  induction vs generalizing j with
  |nil=>intro xs fp hr _;cases xs with
   |nil=>exact hr
   |cons _ _=>exact hr.elim
  |cons v vs ih=>
   intro xs fp hr hv
   cases xs with
   |nil=>exact hr.elim
   |cons x xs=>
    obtain⟨f1,f2,rfl,r1,r2⟩:=hr
    refine⟨f1,f2,rfl,?_,ih (j+1) r2 (λi u hu=>by rw[show j+1+i=j+(i+1) by omega];exact hv (i+1) u (by simpa using hu))⟩
    have hv0:=hv 0 v rfl
    rw[db]at hv0
    split
    ·rename_i tg e ys
     exact⟨r1.1,λq hq=>hioq j v hv0 q hq⟩
    ·rename_i tag i ep e ys
     obtain⟨_,⟨k,hk,h3⟩,_⟩:=r1
     exact⟨λq hq=>(by cases hq),⟨k,hk,h3⟩,by simp⟩
    ·rename_i s off
     split
     ·rename_i hk
      exact⟨r1.1,hpres s hk r1.2.1,r1.2.2⟩
     ·exact r1.2.2
    ·rename_i hno hno2 _
     cases hfl:x.dW with
     |true=>
      obtain⟨rfl,k⟩:=gK (c':=bH C g' (st.mask keep) w) r1 hfl
      exact k
     |false=>exact QX r1 hno hno2
 refine⟨g',h.defers,?_,?_,λi av hi=>?_,λs cs hs=>?_,λk v av hk=>by simp at hk,h.labs,h.frame,⟨fpi,hmio 0 hri (λi v hv=>by rw[bM];exact hv),hni,hli⟩⟩;show _=(iO keep st.ep st.io 0 st.slots).length;rw[pe];exact h.size;show(iM keep st.ep st.io 0 st.boxes).length=(iO keep st.ep st.io 0 st.slots).length;rw[pe,tP];exact h.bsize;have hi':(iO keep st.ep st.io 0 st.slots)[i]?=some av:=hi;rw[wT,bM]at hi';cases hv:st.slots[i]? with
 |none=>rw[hv]at hi';cases hi'
 |some x=>
  rw[hv]at hi';simp only[ch,aO]at hi';split at hi'
  ·subst hi'
   cases hx:x with
   |tup ts=>exact⟨[],dG.bot _ _,by simp,by simp⟩
   |val gg cs=>
    rw[hx]at hv
    obtain⟨fp,⟨vs,hcut,hr⟩,hn,hl⟩:=h.slots i _ hv
    refine⟨fp,⟨vs,hcut,xl (io:=st.io) hseen (c:=bH C g st w) (c':=bH C g' (st.mask keep) w) rfl rfl rfl rfl rfl hpres 0 hr ?_⟩,hn,hl⟩
    intro j u hu t ht
    simp only[bM,fV.vR]at ht
    cases hb:Nat.ble 4096 j with
    |true=>rw[hb]at ht;cases ht
    |false=>
     rw[hb]at ht
     simp only[ai]at ht
     cases hbs:Nat.ble 1000000 i with
     |true=>rw[hbs]at ht;cases ht
     |false=>
     rw[hbs]at ht
     simp only[ai,aO]at ht
     have hi6:i<1000000:=by rcases bB i 1000000 with hlt|hge;exact hlt;rw[eu hge]at hbs;cases hbs
     have hj:j<4096:=by rcases bB j 4096 with hlt|hge;exact hlt;rw[eu hge]at hb;cases hb
     have h0:t%3=0:=by omega
     have h1:t/3/4096=i:=by omega
     have h2:t/3%4096=j:=by omega
     refine⟨.inl (by omega),?_⟩
     show u=um C.ioV st a w g.β t
     rw[um,aq (by omega),au h0,h1,h2,get_eq hv,Kz hcut,hu];rfl
  subst hi';exact⟨[],dG.bot _ _,by simp,by simp⟩
 have hs':(iM keep st.ep st.io 0 st.boxes)[s]?=some (some cs):=hs;rw[tt,bM]at hs';cases hv:st.boxes[s]? with
 |none=>rw[hv]at hs';cases hs'
 |some x=>
  rw[hv]at hs';simp only[ch,aO]at hs';split at hs';cases hx:x with
  |none=>rw[hx]at hs';cases hs'
  |some xs=>
   rw[hx]at hs' hv;simp only[ch,aO]at hs';subst hs';obtain⟨arr,T,fr,fp,hb,hth,hr,hn,hni,hl,hl0,hw0⟩:=h.boxes s xs hv;refine⟨arr,T,fr,fp,hb,hth,xl (io:=st.io) hseen (c:=bH C g st w) (c':=bH C g' (st.mask keep) w) rfl rfl rfl rfl rfl hpres 0 hr ?_,hn,hni,hl,hl0,hw0⟩;intro j u hu t ht;simp only[bM,fV.vR]at ht;cases hbb:Nat.ble 4096 j with
   |true=>rw[hbb]at ht;cases ht
   |false=>
    rw[hbb]at ht;simp only[ai,aO]at ht;have hj:j<4096:=by rcases bB j 4096 with hlt|hge;exact hlt;rw[eu hge]at hbb;cases hbb
    have h0:¬t%3=0:=by omega
    have h1:t/3/4096=s:=by omega
    have h2:t/3%4096=j:=by omega
    refine⟨.inl (by omega),?_⟩;show u=um C.ioV st a w g.β t;rw[um,aq (by omega),aq h0,h1,h2,hb];simp only;rw[hu];rfl
  cases hs'
structure eT (ds:List Nat) (st st':AS):Prop where
 len:st'.slots.length=st.slots.length
 slot:∀i,i∉ds→st'.slots[i]?=st.slots[i]?
 boxes:st'.boxes=st.boxes
 ep:st'.ep=st.ep
 iss:∀i,i∉ds→nth st'.iss i=nth st.iss i
 ilen:st'.iss.length=st.iss.length
 io:st'.io=st.io
theorem eT.refl (ds:List Nat)(st:AS):eT ds st st:=⟨rfl,λ_ _=>rfl,rfl,rfl,λ_ _=>rfl,rfl,rfl⟩
theorem eT.trans {ds:List Nat}{st st1 st2:AS}(h:eT ds st st1)(k:eT ds st1 st2):eT ds st st2:=⟨k.len.trans h.len,λi hi=>(k.slot i hi).trans (h.slot i hi),k.boxes.trans h.boxes,k.ep.trans h.ep,λi hi=>(k.iss i hi).trans (h.iss i hi),k.ilen.trans h.ilen,k.io.trans h.io⟩
theorem eT.put {ds:List Nat}{st:AS}{d:Option Nat}(hd:∀i,d=some i→i∈ds)(v:AV):eT ds st (st.put d v):=by cases d with|none=>exact eT.refl _ _|some d=>refine⟨by rw[dE,aP],λi hi=>?_,fH,zd,λi _=>by rw[Gl],by rw[Gl],zn⟩;rw[dE,List.getElem?_set_ne];rintro rfl;exact hi (hd _ rfl)
theorem eT.dp {ds:List Nat}{st:AS}{d:Option Nat}(hd:∀i,d=some i→i∈ds):eT ds st (st.dp d):=by cases d with|none=>exact eT.refl _ _|some d=>refine⟨rfl,λi _=>rfl,rfl,rfl,λi hi=>?_,?_,rfl⟩;simp only[AS.dp,cz,di];rw[List.getElem?_set_ne];rintro rfl;exact hi (hd _ rfl);simp only[AS.dp,di,aP]
theorem nm {α:Type}{ds:List Nat}{o:Option α}{k:α→Option AS}{st':AS}(h:aa o k=some st')(hk:∀x,k x=some st'→eT ds st st'):eT ds st st':=by cases o with|none=>cases h|some x=>exact hk x h
theorem OB {ds:List Nat}{n:Nat}{k:Option AS}{st':AS}(h:room n k=some st')(hk:k=some st'→eT ds st st'):eT ds st st':=by unfold room at h;split at h;exact hk h;cases h
theorem Lv {ds:List Nat}{op:BinOp}{k:IntKind}{x y:Int}{K:AC→Option AS}{st':AS}(h:yd op k x y K=some st')(hk:∀z,K z=some st'→eT ds st st'):eT ds st st':=by
 unfold yd at h
 split at h<;>first
  |exact hk _ h
  |(split at h
    ·cases h
    ·exact hk _ h)
  |cases h
theorem Lw {ds:List Nat}{op:BinOp}{x y:List UInt8}{K:AC→Option AS}{st':AS}(h:As op x y K=some st')(hk:∀z,K z=some st'→eT ds st st'):eT ds st st':=by
 unfold As at h
 split at h<;>first
  |exact OB h (hk _)
  |exact hk _ h
  |cases h
theorem zx {ds:List Nat}{op:BinOp}{x y:AV}{K:AC→Option AS}{st':AS}(h:wG op x y K=some st')(hk:∀z,K z=some st'→eT ds st st'):eT ds st st':=by unfold wG at h;split at h;split at h;split at h;cases h;exact hk _ h;split at h;cases h;exact hk _ h;split at h;exact Lv h hk;cases h;exact Lw h hk;split at h;exact hk _ h;exact hk _ h;cases h;split at h;exact nm h λb hb=>hk _ hb;exact nm h λb hb=>hk _ hb;cases h;cases h
theorem yn {ds:List Nat}{lo hi:Option Operand}{n:Nat}{K:Int→Int→Option AS}{st0 st':AS}(h:im st0 lo hi n K=some st')(hk:∀x y,K x y=some st'→eT ds st st'):eT ds st st':=by
 unfold im at h
 split at h<;>first
  |exact hk _ _ h
  |cases h
theorem CJ {ds:List Nat}{op:BinOp}{b:Bool}{K:AC→Option AS}{st':AS}(h:uW op b K=some st')(hk:∀c,K c=some st'→eT ds st st'):eT ds st st':=by unfold uW at h;split at h;exact hk _ h;exact hk _ h;cases h
theorem EL {E:Env}{Γ:cG}(hΓ:∀f,(Γ f).io=false∧(Γ f).bx=false∧(Γ f).pr=false){an:An}{ds:List Nat}{o:Oper}{st':AS}(hq:ef an ds o=true)(hd:∀i,o.dst=some i→i∈ds)(h:cf E Γ an o st some=some st'):eT ds st st':=by
 have hput:∀v,some (st.put o.dst v)=some st'→eT ds st st':=λv hv=>by cases hv;exact eT.put hd v
 unfold cf at h;split at h;rename_i x ho;simp only[ef,ho]at hq;unfold tQ at h;cases hdd:o.dst with
 |none=>rw[hdd]at h;cases h
 |some d=>
  rw[hdd]at h hq;simp only at h hq;have hf:an.mv.contains d=false:=by simpa using hq
  rw[hf]at h;simp only[aG,bC]at h;cases h;exact eT.put (λi hi=>hd i (by rw[hdd];exact hi)) _
 rename_i x ho;have hlate:rV an o=false∨∃y,x=y∧(∀v,y≠ .const v)∧(∀t,y≠ .tmp t):=by cases x with|tmp t=>left;simp only[ef,ho,ab,aB]at hq;exact hq.2|const v=>left;simpa only[ef,ho,aB]using hq|func f=>simp[ef,ho]at hq|global g=>simp[ef,ho]at hq
 have hlate:rV an o=false:=by rcases hlate with h1|⟨y,rfl,h1,h2⟩;exact h1;cases x with|tmp t=>exact absurd rfl (h2 t)|const v=>exact absurd rfl (h1 v)|func f=>simp[ef,ho]at hq|global g=>simp[ef,ho]at hq
 simp only[ef,ho]at hq;rw[aq (by simp[hlate])]at h;unfold nJ at h;have hx:eT ds st (st.take x).2:=by
  cases x with
  |tmp t=>
   have ht:t∈ds:=by simp only[ab]at hq;simpa using hq.1
   exact eT.put (d:=some t) (λi hi=>by cases hi;exact ht) _
  |const v=>exact eT.refl _ _
  |func f=>exact eT.refl _ _
  |global g=>exact eT.refl _ _
 split at h;split at h;exact hput _ h;cases h;rename_i v st1 _ htk;cases h;have:(st.take x).2=st1:=by rw[htk]
 rw[this]at hx;exact hx.trans (eT.put hd _);unfold vH at h;split at h;rename_i t _;split at h;exact hput _ h;cases t with|true=>exact hput _ h|false=>exact hput _ h
 cases h;rename_i ho;simp[ef,ho]at hq;rename_i ho;simp[ef,ho]at hq;rename_i T p ho;simp only[ef,ho]at hq;have htk:vX an o=false:=by unfold vX;cases hdd:o.dst with|none=>rfl|some d=>rw[hdd]at hq;simp only[aB]at hq;simp only[hq,dQ]
 unfold jF at h;split at h;split at h;split at h;split at h;rename_i d hdd;rw[hdd]at hq;simp only at hq;have hf:an.mv.contains d=false:=by simpa using hq
 rw[hf]at h;simp only[aG,bC]at h;exact hput _ h;cases h;cases h;cases h;rw[aq (by simp[htk])]at h;split at h;split at h;exact hput _ h;cases h;unfold uJ at h;split at h;split at h;split at h;split at h;obtain⟨y,_,h⟩:=Bv h;exact hput _ h;cases h;cases h;cases h;cases h;cases h;rename_i ho;simp[ef,ho]at hq;split at h;exact hput _ h;exact hput _ h;cases h;unfold sE at h;split at h;split at h;exact zx h λz hz=>hput _ hz;cases h;split at h;split at h;exact zx h λz hz=>hput _ hz;cases h;cases h;split at h;split at h;cases h;exact CJ h λz hz=>hput _ hz;cases h;split at h;exact CJ h λz hz=>hput _ hz;cases h;exact zx h λz hz=>hput _ hz;unfold SB at h;split at h;exact hput _ h;exact hput _ h;exact hput _ h;cases h;unfold rK at h;split at h;split at h;exact hput _ h;cases h;split at h;exact hput _ h;cases h;cases h;unfold hZ at h;split at h;split at h;exact nm h λy hy=>hput _ hy;cases h;cases h;unfold tr at h;split at h;split at h;exact nm h λy hy=>hput _ hy;cases h;cases h;rename_i T parts ho;simp only[ef,ho]at hq;have he:parts=#[]:=by simpa using hq
 subst he;unfold tj at h;split at h;simp only[dg,List.map_nil]at h;split at h;exact hput _ h;cases h;cases h;rename_i ho;simp[ef,ho]at hq;rename_i ho;simp[ef,ho]at hq;rename_i ho;simp only[ef,ho,aB]at hq;unfold sk at h;rw[aq (by simp[hq])]at h;split at h;split at h;exact yn h λx y hxy=>nm hxy λz hz=>hput _ hz;cases h;split at h;exact yn h λx y hxy=>nm hxy λz hz=>hput _ hz;cases h;cases h;rename_i ho;simp[ef,ho]at hq;rename_i ho;simp[ef,ho]at hq;rename_i ho;simp[ef,ho]at hq;rename_i ho;simp[ef,ho]at hq;unfold CD at h;split at h;split at h;exact hput _ h;cases h;split at h;exact hput _ h;cases h;cases h;unfold DU at h;split at h;exact hput _ h;cases h;unfold DT at h;split at h;exact hput _ h;cases h;rename_i ho;simp[ef,ho]at hq;unfold uV at h;split at h;rename_i k _;rw[(hΓ k).2.1,(hΓ k).2.2,(hΓ k).1]at h;simp only[ai]at h;refine nm h λy hy=>?_;cases hsel:(Γ k).sel y with|true=>rw[hsel]at hy;cases hy;exact(eT.dp hd).trans (eT.put hd _)|false=>rw[hsel]at hy;cases hy;exact(eT.dp hd).trans (eT.put hd _)
 cases h;cases h
theorem I8 {ops:List Oper}{o:Oper}(ho:o∈ops){i:Nat}(hi:o.dst=some i):i∈xe ops:=List.mem_filterMap.2 ⟨o,ho,hi⟩
theorem CK {E:Env}{Γ:cG}(hΓ:∀f,(Γ f).io=false∧(Γ f).bx=false∧(Γ f).pr=false){an:An}{ops:List Oper}{o:Oper}{st':AS}(ho:o∈ops)(hq:ef an (xe ops) o=true)(h:ec E Γ an ops o st some=some st'):eT (xe ops) st st':=by
 have hd:∀i,o.dst=some i→i∈xe ops:=λi hi=>I8 ho hi;unfold ec at h;split at h;exact EL hΓ hq hd h;rename_i j want hg;split at h;rename_i d hdd;have hdm:d∈xe ops:=by rw[cz]at hdd;cases ho':ops[j]? with|none=>rw[ho']at hdd;cases hdd|some o'=>rw[ho']at hdd;exact I8 (List.mem_of_getElem? ho') hdd
 have hp:∀t,eT (xe ops) st (st.put (some d) (.one (.bool t))):=λt=>eT.put (λi hi=>by cases hi;exact hdm) _;split at h;rename_i b hb;have main:∀t,(if(t==want)=true then cf E Γ an o (st.put (some d) (.one (.bool t))) some else some ((st.put (some d) (.one (.bool t))).put o.dst (.one .un)))=some st'→eT (xe ops) st st':=by intro t ht;split at ht;exact(hp t).trans (EL hΓ hq hd ht);cases ht;exact(hp t).trans (eT.put hd _)
 cases b with|true=>exact main true h|false=>exact main false h
 cases h;exact eT.put hd _;cases h;cases h
theorem Jj {E:Env}{Γ:cG}(hΓ:∀f,(Γ f).io=false∧(Γ f).bx=false∧(Γ f).pr=false){an:An}{ops:List Oper}(hq:∀o∈ops,ef an (xe ops) o=true):∀(l:List Oper)(st st':AS),(∀o∈l,o∈ops)→Gw E Γ an ops l st some=some st'→eT (xe ops) st st'
 |[],st,st',_,h=>by cases h;exact eT.refl _ _
 |o::l,st,st',hl,h=>by simp only[Gw]at h;rw[kP]at h;cases hg:ec E Γ an ops o st some with|none=>rw[hg]at h;cases h|some st1=>rw[hg]at h;exact(CK hΓ (hl o (by simp)) (hq o (hl o (by simp))) hg).trans (Jj hΓ hq l st1 st' (λo' ho'=>hl o' (by simp[ho'])) h)
theorem xd {ds:List Nat}:∀(l:List Nat)(st:AS),(∀i∈l,i∈ds)→eT ds st (st.sP l)
 |[],st,_=>eT.refl _ _
 |d::l,st,h=>by
  have hd:∀i,some d=some i→i∈ds:=λi hi=>by cases hi;exact h d (by simp)
  exact((eT.put hd _).trans (eT.dp hd)).trans (xd l _ (λi hi=>h i (by simp[hi])))
theorem Em:∀(l:List Nat)(st:AS)(i:Nat)(av:AV),(st.sP l).slots[i]?=some av→i∈l∨st.slots[i]?=some .bot→av=.bot
 |[],st,i,av,h,hi=>by rcases hi with hi|hi;cases hi;have:st.slots[i]?=some av:=h;rw[hi]at this;cases this;rfl
 |d::l,st,i,av,h,hi=>by
  refine Em l _ i av h ?_;by_cases hil:i∈l;exact .inl hil;refine .inr ?_;rw[nB,dE,List.getElem?_set];have hlt:i<st.slots.length:=by
   have h1:=(xd (ds:=d::l) l ((st.put (some d) .bot).dp (some d)) (λi hi=>by simp[hi])).len;have h2:=(List.getElem?_eq_some_iff.1 h).1;have h3:(AS.sP ((st.put (some d) .bot).dp (some d)) l).slots.length=st.slots.length:=by rw[h1,nB,dE,aP]
   have h4:i<(AS.sP ((st.put (some d) .bot).dp (some d)) l).slots.length:=h2;omega
  split;rename_i hdi;subst hdi;rw[au hlt];rename_i hdi;rcases hi with hi|hi;simp only[bl]at hi;rcases hi with hi|hi;exact absurd hi.symm hdi;exact absurd hi hil;exact hi
theorem En:∀(l:List Nat)(st:AS)(i:Nat),i∈l∨(nth st.iss i).getD true=true→(nth (st.sP l).iss i).getD true=true
 |[],st,i,hi=>by rcases hi with hi|hi;cases hi;exact hi
 |d::l,st,i,hi=>by refine En l _ i ?_;by_cases hil:i∈l;exact .inl hil;refine .inr ?_;have he:(AS.dp (st.put (some d) .bot) (some d)).iss=ez st.iss d true:=rfl;rw[he,di,cz,List.getElem?_set];split;split<;>rfl;rename_i hdi;rcases hi with hi|hi;simp only[bl]at hi;rcases hi with hi|hi;exact absurd hi.symm hdi;exact absurd hi hil;rw[cz]at hi;exact hi
theorem iD.weaken {st':AS}(h:iD C st' a w){ds:List Nat}(hn:eT ds st st'){s:Nat}{b:Bool}(hb:getBool st' s=some b):iD C ((st.sP ds).put (some s) (.one (.bool b))) a w:=by
 have hbs:st'.get s=.val false [.bool b]:=by unfold getBool at hb;split at hb;rename_i b' hg;cases hb;exact hg;cases hb
 have hkn:=h.known hbs;obtain⟨g,h⟩:=h;have hdn:=xd (ds:=ds) ds st (λ_ hi=>hi);have hboxes:((st.sP ds).put (some s) (.one (.bool b))).boxes=st'.boxes:=by rw[fH,hdn.boxes,hn.boxes]
 have hep:((st.sP ds).put (some s) (.one (.bool b))).ep=st'.ep:=by rw[zd,hdn.ep,hn.ep]
 have hlen:((st.sP ds).put (some s) (.one (.bool b))).slots.length=st'.slots.length:=by rw[dE,aP,hdn.len,hn.len]
 have hiss:∀t,gJ st' t→gJ ((st.sP ds).put (some s) (.one (.bool b))) t:=by intro t ht;rw[yg];rcases ht with ht|ht;exact .inl ht;refine .inr (En ds st _ ?_);by_cases hi:t/3/4096∈ds;exact .inl hi;exact .inr (by rw[←hn.iss _ hi];exact ht)
 have hpres:∀s',dS st' s'→dS ((st.sP ds).put (some s) (.one (.bool b))) s':=λs' hs=>by unfold dS at hs⊢;rw[hboxes];exact hs
 have hle:(bH C g st' w).Le (bH C g ((st.sP ds).put (some s) (.one (.bool b))) w):=⟨rfl,λt ht=>⟨hiss t ht,rfl⟩,λ_ _ _ _ _ hv=>hv,by show st'.ep≤_;rw[←hep];exact aQ _,λs' hs=>⟨hpres s' hs,rfl⟩,λ_ b o u ho hu=>⟨ho,hu⟩⟩
 refine⟨g,h.step (λ_=>True) hle h.defers (by rw[hlen];exact h.size) (by rw[hboxes,hlen];exact h.bsize) h.frame h.labs (λb x _ hx=>⟨hx,rfl,rfl⟩) ?_ ?_ ?_ (.inl ⟨trivial,by rw[zn,hdn.io,hn.io]⟩)⟩;intro i av hi;rw[dE,List.getElem?_set]at hi;split at hi;rename_i hsi;subst hsi;split at hi;cases hi;refine .inr ⟨[],ia ?_,by simp,by simp⟩;exact⟨hkn,rfl⟩;cases hi;by_cases hid:i∈ds;have:=Em ds st i av hi (.inl hid);subst this;exact .inr ⟨[],dG.bot _ _,by simp,by simp⟩;rw[hdn.slot i hid]at hi;exact .inl ⟨trivial,by rw[hn.slot i hid];exact hi,rfl⟩;intro s' cs hs;rw[hboxes]at hs;exact .inl ⟨trivial,hs,rfl⟩;intro k v av hk;simp at hk
theorem S2 (Γ:cG)(f:Nat):(Γ.calm f).io=false∧(Γ.calm f).bx=false∧(Γ.calm f).pr=false:=by unfold cG.calm;cases h:(Γ f).io with|true=>exact⟨rfl,rfl,rfl⟩|false=>cases h2:(Γ f).bx with|true=>exact⟨rfl,rfl,rfl⟩|false=>cases h3:(Γ f).pr with|true=>exact⟨rfl,rfl,rfl⟩|false=>exact⟨h,h2,h3⟩
theorem T7 (Γ:cG)(f:Nat):(Γ.xv f).io=false∧((Γ.xv f).bx=true→(Γ.xv f).cur=true)∧(Γ.xv f).pr=false:=by unfold cG.xv;cases h:(Γ f).io with|true=>exact⟨rfl,λh=>(by cases h),rfl⟩|false=>cases h3:(Γ f).pr with|true=>exact⟨rfl,λh=>(by cases h),rfl⟩|false=>cases h2:(Γ f).bx with|false=>exact⟨h,λh=>(by simp[h2]at h),h3⟩|true=>cases h4:(Γ f).cur with|true=>exact⟨h,λ_=>h4,h3⟩|false=>exact⟨rfl,λh=>(by cases h),rfl⟩
theorem T8 {Γ:cG}(hΓ:∀f,(Γ f).io=false∧(Γ f).bx=false∧(Γ f).pr=false)(f:Nat):(Γ.xv f).io=false∧(Γ.xv f).bx=false∧(Γ.xv f).pr=false:=by have h:=hΓ f;unfold cG.xv;rw[h.1,h.2.1,h.2.2];exact h
theorem Sound.xv {E:Env}{Γ:cG}(h:Sound P E Γ):Sound P E Γ.xv:=by refine⟨h.ty,h.eqs,h.fts,λf=>?_,h.mixed⟩;unfold cG.xv;cases (Γ f).io||(Γ f).pr||((Γ f).bx&& !(Γ f).cur)with|true=>intro xs y hy;cases hy|false=>exact h.fns f
theorem Sound.calm {E:Env}{Γ:cG}(h:Sound P E Γ):Sound P E Γ.calm:=by refine⟨h.ty,h.eqs,h.fts,λf=>?_,h.mixed⟩;unfold cG.calm;cases (Γ f).io with|true=>intro xs y hy;cases hy|false=>cases (Γ f).bx with|true=>intro xs y hy;cases hy|false=>cases (Γ f).pr with|true=>intro xs y hy;cases hy|false=>exact h.fns f
end Go.Dn
