import Derived.Test.YthjhpjjgcfedbaaGreatDnDen
import Derived.Test.YthjhpjjgcfedbaaGreatDnNat
/- What is kept at a loop's door; what a region whose ways meet again leaves. -/
namespace Go.Dn
open Go.RowKit
variable {P:Program} {C:Ctx} {st:AS} {a:Act} {w:World} {R:Type} {r:R}
theorem rQ (keep:List Nat)(ep:Nat)(io:List AC):∀(l:List AV)(n i:Nat),(gu keep ep io n l)[i]?=(l[i]?).map λv=>if keep.contains (n+i) then v.mask keep ep io (n+i) else .bot
 |[],n,i=>by simp[gu]
 |v::l,n,0=>by simp[gu]
 |v::l,n,i+1=>by simp only[gu,List.getElem?_cons_succ];rw[rQ keep ep io l (n+1) i,show n+1+i=n+(i+1) by omega]
theorem oQ (keep:List Nat)(ep:Nat)(io:List AC):∀(l:List (Option (List AC)))(n i:Nat),(gr keep ep io n l)[i]?=(l[i]?).map λb=>if keep.contains (n+i) then b.map (uk keep ep io (.box (n+i)) 0) else none
 |[],n,i=>by simp[gr]
 |v::l,n,0=>by simp[gr]
 |v::l,n,i+1=>by simp only[gr,List.getElem?_cons_succ];rw[oQ keep ep io l (n+1) i,show n+1+i=n+(i+1) by omega]
theorem lL (keep:List Nat)(ep:Nat)(io:List AC):∀(l:List AV)(n:Nat),(gu keep ep io n l).length=l.length
 |[],_=>rfl
 |_::l,n=>by simp[gu,lL keep ep io l]
theorem po (keep:List Nat)(ep:Nat)(io:List AC):∀(l:List (Option (List AC)))(n:Nat),(gr keep ep io n l).length=l.length
 |[],_=>rfl
 |_::l,n=>by simp[gr,po keep ep io l]
def DD:Value→AV→List Value
 | .agg vs,.val true _=>vs.toList
 |v,_=>[v]
theorem DH {g:Bool}{v:Value}{vs:List Value}{cs:List AC}(h:Cut g v vs):DD v (.val g cs)=vs:=by cases g with|true=>simp only[Cut,aU]at h;subst h;simp[DD]|false=>simp only[Cut]at h;subst h;cases v<;>rfl
def pF (ioV:List Value)(st:AS)(a:Act)(w:World)(β:Nat→Nat)(t:Nat):Value:=
 if t%3=0∧t/3/4096=1000003 then(ioV[t/3%4096]?).getD undef
 else if t%3=0 then((DD (a.tmps.getD (t/3/4096) undef) (st.get (t/3/4096)))[t/3%4096]?).getD undef
 else match w.heap[β (t/3/4096)]? with
  |some (.cells arr _ _)=>(arr.toList[t/3%4096]?).getD undef
  |_=>undef
def Dg (c c':RC)(io:List AC):Prop:=∀j n (e:CT)(ys:List e.D),AC.II io j n e=some ys→∃v0 fp0,cm c.hw c.w (.sl e) [v0] ys fp0∧v0=c.hdr n∧∀q,(eL.io j).qX=some q→c'.iss q∧v0=c'.hdr q
theorem GR {c c':RC}{io:List AC}(hio:Dg c c' io){keep:List Nat}{rt:eL}{v:Value}{x:AC}{fp:List Nat}(h:dq c v x fp)(hhw:c'.hw=c.hw)(hw:c'.w=c.w)(hA:c'.A=c.A)(hep:c'.ep=0)(hβ:c'.β=c.β)(hpres:∀s,keep.contains s=true→c.pres s→c'.pres s)(hst:∀t,rt.qX=some t→c'.iss t∧v=c'.hdr t):dq c' v (x.mask keep c.ep io rt) fp:=by
 have hS:c'.S=c.S:=by funext b o;simp[RC.S,hhw,hA]
 cases x with
 |int k n=>exact h
 |bool b=>exact h
 |str s=>exact h
 |nilsl=>exact h
 |fn f=>exact h
 |un=>exact h
 |bot=>exact h
 |ptr s off=>simp only[AC.mask];split;rename_i hk;exact⟨by rw[hβ];exact h.1,hpres s hk h.2.1,h.2.2⟩;exact h.2.2
 |elt fl e y i off=>cases fl with|own t=>exact h.elim|nest _ _ _ _ _ _=>exact h.elim|part _ _ _ _=>exact h.elim|holed _ _ _=>exact h.elim|arg _=>exact h.1|loc ep pv=>exact h.1
 |sl fl e xs=>
  cases fl with
  |own t=>exact⟨cm.mono h.1 (λb _=>⟨by rw[hw],by rw[hhw]⟩),hst⟩
  |nest _ _ _ _ _ _=>exact h.1
  |part _ _ _ _=>exact h.1
  |holed _ _ _=>obtain⟨_,⟨k,hk,h3⟩,_⟩:=h;exact⟨λq hq=>(by cases hq),⟨k,hk,h3.mono (λb hb=>⟨by rw[hw],by rw[hhw]⟩)⟩,by simp⟩
  |arg _=>exact⟨h.1,by rw[hA,hw];exact h.2⟩
  |loc ep pv=>
   obtain⟨h1,h2,h3,h4,h5⟩:=h;have plain:dq c' v (if(ep==c.ep)=true then AC.sl (.loc 0 none) e xs else .bot) fp:=by split;rename_i he;refine⟨h1,by rw[hep];exact aK _,h3,λ_=>?_,by simp⟩;rw[hS,hw];exact h4 (by simpa using he);exact h1
   simp only[AC.mask];split;rename_i j n;split;rename_i ys hnow;obtain⟨v0,fp0,hown,hv0,hq⟩:=hio j n e ys hnow;obtain⟨_,k2⟩:=h5 _ _ rfl;have hv:v0=v:=hv0.trans k2.symm;subst hv;refine⟨h1,by rw[hep];exact aK _,tj hown,λ_=>?_,λr t hp=>?_⟩;rw[hS,hw];exact cm.rep (λb o ho=> .inr ho) hown;cases hst':(eL.io j).qX with|none=>rw[hst']at hp;cases hp|some q=>rw[hst']at hp;simp at hp;obtain⟨_,rfl⟩:=hp;exact⟨(hq q hst').1,(hq q hst').2⟩
   exact plain;exact plain
theorem sr {c c':RC}{io:List AC}(hio:Dg c c' io){keep:List Nat}{f:Nat→eL}(hhw:c'.hw=c.hw)(hw:c'.w=c.w)(hA:c'.A=c.A)(hep:c'.ep=0)(hβ:c'.β=c.β)
 (hpres:∀s,keep.contains s=true→c.pres s→c'.pres s):∀{vs:List Value}{xs:List AC}{fp:List Nat}(j:Nat),aM c vs xs fp→
  (∀i v,vs[i]?=some v→∀t,(f (j+i)).qX=some t→c'.iss t∧v=c'.hdr t)→aM c' vs (uk keep c.ep io f j xs) fp
 |[],[],_,_,h,_=>h
 |v::_,_::_,_,j,h,hm=>by obtain⟨f1,f2,rfl,h1,h2⟩:=h;exact⟨f1,f2,rfl,GR hio h1 hhw hw hA hep hβ hpres (λt ht=>hm 0 v rfl t ht),sr hio hhw hw hA hep hβ hpres (j+1) h2 (λi u hu t ht=>hm (i+1) u (by simpa using hu) t (by rwa[show j+(i+1)=j+1+i by omega]))⟩
 |[],_::_,_,_,h,_=>h.elim
 |_::_,[],_,_,h,_=>h.elim
theorem I1 {c:RC}{v:Value}{x:AC}{fp:List Nat}(h:dq c v x fp)(hno:∀(tag:Option Nat)(e:CT)(xs:List e.D),x=.sl (.own tag) e xs→False)(hno2:∀(tag:Option Nat)(i:Int)(ep:Option Nat)(e:CT)(xs:List e.D),x=.sl (.holed tag i ep) e xs→False):fp=[]:=by
 cases x with
 |int k n=>exact h.2
 |bool b=>exact h.2
 |str s=>exact h.2
 |nilsl=>exact h.2
 |fn f=>exact h.2
 |un=>exact h.2
 |bot=>exact h
 |ptr s off=>exact h.2.2
 |elt fl e y i off=>cases fl with|own t=>exact h.elim|nest _ _ _ _ _ _=>exact h.elim|part _ _ _ _=>exact h.elim|holed _ _ _=>exact h.elim|arg _=>exact h.1|loc ep pv=>exact h.1
 |sl fl e xs=>cases fl with|own t=>exact(hno _ _ _ rfl).elim|nest _ _ _ _ _ _=>exact h.1|part _ _ _ _=>exact h.1|holed _ _ _=>exact(hno2 _ _ _ _ _ rfl).elim|arg _=>exact h.1|loc ep pv=>exact h.1
theorem gh.mask (h:gh C st a w)(keep:List Nat):gh C (st.mask keep) a w:=by
 obtain⟨g,h⟩:=h;let g':Gh:={g with hdr:=pF C.ioV st a w g.β}
 have hpres:∀s,keep.contains s=true→dc st s→dc (st.mask keep) s:=by rintro s hk ⟨cs,hs⟩;refine⟨uk keep st.ep st.io (.box s) 0 cs,?_⟩;show(gr keep st.ep st.io 0 st.boxes)[s]?=_;rw[oQ,hs];simp only[bI,bC,ar hk]
 obtain⟨fpi,hri,hni,hli⟩:=h.io;have hioq:∀j v,C.ioV[j]?=some v→∀q,(eL.io j).qX=some q→fi (st.mask keep) q∧v=pF C.ioV st a w g.β q:=by
  intro j v hv q hq;simp only[eL.qX]at hq;cases hb:Nat.ble 4096 j with
  |true=>rw[hb]at hq;cases hq
  |false=>
   rw[hb]at hq;simp only[al,aH,ng]at hq;have hj:j<4096:=by rcases aX j 4096 with hlt|hge;exact hlt;rw[dA hge]at hb;cases hb
   have h0:q%3=0:=by omega
   have h1:q/3/4096=1000003:=by omega
   have h2:q/3%4096=j:=by omega
   refine⟨.inl (by omega),?_⟩;rw[pF,ar ⟨h0,h1⟩,h2,hv];rfl
 have hseen:Dg (br C g st w) (br C g' (st.mask keep) w) st.io:=by
  intro j n e ys hnow;unfold AC.II at hnow;split at hnow;rename_i t' e' ys' hj;split at hnow;rename_i he;subst he;cases ht:(t'==n)with
  |false=>rw[ht]at hnow;cases hnow
  |true=>
   rw[ht]at hnow;have:t'=n:=by simpa using ht
   subst this;cases hnow;rw[bZ]at hj;obtain⟨v,f,hv,hr,_⟩:=hri.get j _ hj;exact⟨v,f,hr.1,(hr.2 t' rfl).2,λq hq=>hioq j v hv q hq⟩
  cases hnow;cases hnow
 have hmio:∀(j:Nat){vs:List Value}{xs:List AC}{fp:List Nat},aM (br C g st w) vs xs fp→(∀i v,vs[i]?=some v→C.ioV[j+i]?=some v)→aM (br C g' (st.mask keep) w) vs (En keep j xs) fp:=by
  intro j vs
  induction vs generalizing j with
  |nil=>intro xs fp hr _;cases xs with
   |nil=>exact hr
   |cons _ _=>exact hr.elim
  |cons v vs ih=>
   intro xs fp hr hv
   cases xs with
   |nil=>exact hr.elim
   |cons x xs=>
    obtain⟨f1,f2,rfl,r1,r2⟩:=hr
    refine⟨f1,f2,rfl,?_,ih (j+1) r2 (λi u hu=>by rw[show j+1+i=j+(i+1) by omega];exact hv (i+1) u (by simpa using hu))⟩
    have hv0:=hv 0 v rfl
    rw[cu]at hv0
    split
    ·rename_i tg e ys
     exact⟨r1.1,λq hq=>hioq j v hv0 q hq⟩
    ·rename_i tag i ep e ys
     obtain⟨_,⟨k,hk,h3⟩,_⟩:=r1
     exact⟨λq hq=>(by cases hq),⟨k,hk,h3⟩,by simp⟩
    ·rename_i s off
     split
     ·rename_i hk
      exact⟨r1.1,hpres s hk r1.2.1,r1.2.2⟩
     ·exact r1.2.2
    ·rename_i hno hno2 _
     cases hfl:x.dg with
     |true=>
      obtain⟨rfl,k⟩:=fu (c':=br C g' (st.mask keep) w) r1 hfl
      exact k
     |false=>exact I1 r1 hno hno2
 refine⟨g',h.defers,?_,?_,λi av hi=>?_,λs cs hs=>?_,λk v av hk=>by simp at hk,h.labs,h.frame,⟨fpi,hmio 0 hri (λi v hv=>by rw[bC];exact hv),hni,hli⟩⟩;show _=(gu keep st.ep st.io 0 st.slots).length;rw[lL];exact h.size;show(gr keep st.ep st.io 0 st.boxes).length=(gu keep st.ep st.io 0 st.slots).length;rw[lL,po];exact h.bsize;have hi':(gu keep st.ep st.io 0 st.slots)[i]?=some av:=hi;rw[rQ,bC]at hi';cases hv:st.slots[i]? with
 |none=>rw[hv]at hi';cases hi'
 |some x=>
  rw[hv]at hi';simp only[bI,aH]at hi';split at hi'
  ·subst hi'
   cases hx:x with
   |tup ts=>exact⟨[],cY.bot _ _,by simp,by simp⟩
   |val gg cs=>
    rw[hx]at hv
    obtain⟨fp,⟨vs,hcut,hr⟩,hn,hl⟩:=h.slots i _ hv
    refine⟨fp,⟨vs,hcut,sr (io:=st.io) hseen (c:=br C g st w) (c':=br C g' (st.mask keep) w) rfl rfl rfl rfl rfl hpres 0 hr ?_⟩,hn,hl⟩
    intro j u hu t ht
    simp only[bC,eL.qX]at ht
    cases hb:Nat.ble 4096 j with
    |true=>rw[hb]at ht;cases ht
    |false=>
     rw[hb]at ht
     simp only[al]at ht
     cases hbs:Nat.ble 1000000 i with
     |true=>rw[hbs]at ht;cases ht
     |false=>
     rw[hbs]at ht
     simp only[al,aH]at ht
     have hi6:i<1000000:=by rcases aX i 1000000 with hlt|hge;exact hlt;rw[dA hge]at hbs;cases hbs
     have hj:j<4096:=by rcases aX j 4096 with hlt|hge;exact hlt;rw[dA hge]at hb;cases hb
     have h0:t%3=0:=by omega
     have h1:t/3/4096=i:=by omega
     have h2:t/3%4096=j:=by omega
     refine⟨.inl (by omega),?_⟩
     show u=pF C.ioV st a w g.β t
     rw[pF,aq (by omega),ar h0,h1,h2,get_eq hv,DH hcut,hu];rfl
  subst hi';exact⟨[],cY.bot _ _,by simp,by simp⟩
 have hs':(gr keep st.ep st.io 0 st.boxes)[s]?=some (some cs):=hs;rw[oQ,bC]at hs';cases hv:st.boxes[s]? with
 |none=>rw[hv]at hs';cases hs'
 |some x=>
  rw[hv]at hs';simp only[bI,aH]at hs';split at hs';cases hx:x with
  |none=>rw[hx]at hs';cases hs'
  |some xs=>
   rw[hx]at hs' hv;simp only[bI,aH]at hs';subst hs';obtain⟨arr,T,fr,fp,hb,hth,hr,hn,hni,hl,hl0,hw0⟩:=h.boxes s xs hv;refine⟨arr,T,fr,fp,hb,hth,sr (io:=st.io) hseen (c:=br C g st w) (c':=br C g' (st.mask keep) w) rfl rfl rfl rfl rfl hpres 0 hr ?_,hn,hni,hl,hl0,hw0⟩;intro j u hu t ht;simp only[bC,eL.qX]at ht;cases hbb:Nat.ble 4096 j with
   |true=>rw[hbb]at ht;cases ht
   |false=>
    rw[hbb]at ht;simp only[al,aH]at ht;have hj:j<4096:=by rcases aX j 4096 with hlt|hge;exact hlt;rw[dA hge]at hbb;cases hbb
    have h0:¬t%3=0:=by omega
    have h1:t/3/4096=s:=by omega
    have h2:t/3%4096=j:=by omega
    refine⟨.inl (by omega),?_⟩;show u=pF C.ioV st a w g.β t;rw[pF,aq (by omega),aq h0,h1,h2,hb];simp only;rw[hu];rfl
  cases hs'
structure dZ (ds:List Nat) (st st':AS):Prop where
 len:st'.slots.length=st.slots.length
 slot:∀i,i∉ds→st'.slots[i]?=st.slots[i]?
 boxes:st'.boxes=st.boxes
 ep:st'.ep=st.ep
 iss:∀i,i∉ds→nth st'.iss i=nth st.iss i
 ilen:st'.iss.length=st.iss.length
 io:st'.io=st.io
theorem dZ.refl (ds:List Nat)(st:AS):dZ ds st st:=⟨rfl,λ_ _=>rfl,rfl,rfl,λ_ _=>rfl,rfl,rfl⟩
theorem dZ.trans {ds:List Nat}{st st1 st2:AS}(h:dZ ds st st1)(k:dZ ds st1 st2):dZ ds st st2:=⟨k.len.trans h.len,λi hi=>(k.slot i hi).trans (h.slot i hi),k.boxes.trans h.boxes,k.ep.trans h.ep,λi hi=>(k.iss i hi).trans (h.iss i hi),k.ilen.trans h.ilen,k.io.trans h.io⟩
theorem dZ.put {ds:List Nat}{st:AS}{d:Option Nat}(hd:∀i,d=some i→i∈ds)(v:AV):dZ ds st (st.put d v):=by cases d with|none=>exact dZ.refl _ _|some d=>refine⟨by rw[cX,aL],λi hi=>?_,eE,tY,λi _=>by rw[Ah],by rw[Ah],uf⟩;rw[cX,List.getElem?_set_ne];rintro rfl;exact hi (hd _ rfl)
theorem dZ.cM {ds:List Nat}{st:AS}{d:Option Nat}(hd:∀i,d=some i→i∈ds):dZ ds st (st.cM d):=by cases d with|none=>exact dZ.refl _ _|some d=>refine⟨rfl,λi _=>rfl,rfl,rfl,λi hi=>?_,?_,rfl⟩;simp only[AS.cM,bZ,cE];rw[List.getElem?_set_ne];rintro rfl;exact hi (hd _ rfl);simp only[AS.cM,cE,aL]
theorem kv {α:Type}{ds:List Nat}{o:Option α}{k:α→Option AS}{st':AS}(h:ab o k=some st')(hk:∀x,k x=some st'→dZ ds st st'):dZ ds st st':=by cases o with|none=>cases h|some x=>exact hk x h
theorem G5 {ds:List Nat}{n:Nat}{k:Option AS}{st':AS}(h:room n k=some st')(hk:k=some st'→dZ ds st st'):dZ ds st st':=by unfold room at h;split at h;exact hk h;cases h
theorem Ew {ds:List Nat}{op:BinOp}{k:IntKind}{x y:Int}{K:AC→Option AS}{st':AS}(h:s6 op k x y K=some st')(hk:∀z,K z=some st'→dZ ds st st'):dZ ds st st':=by
 unfold s6 at h
 split at h<;>first
  |exact hk _ h
  |(split at h
    ·cases h
    ·exact hk _ h)
  |cases h
theorem Ey {ds:List Nat}{op:BinOp}{x y:List UInt8}{K:AC→Option AS}{st':AS}(h:u3 op x y K=some st')(hk:∀z,K z=some st'→dZ ds st st'):dZ ds st st':=by
 unfold u3 at h
 split at h<;>first
  |exact G5 h (hk _)
  |exact hk _ h
  |cases h
theorem uo {ds:List Nat}{op:BinOp}{x y:AV}{K:AC→Option AS}{st':AS}(h:rL op x y K=some st')(hk:∀z,K z=some st'→dZ ds st st'):dZ ds st st':=by unfold rL at h;split at h;split at h;split at h;cases h;exact hk _ h;split at h;cases h;exact hk _ h;split at h;exact Ew h hk;cases h;exact Ey h hk;split at h;exact hk _ h;exact hk _ h;cases h;split at h;exact kv h λb hb=>hk _ hb;exact kv h λb hb=>hk _ hb;cases h;cases h
theorem tf {ds:List Nat}{lo hi:Option Operand}{n:Nat}{K:Int→Int→Option AS}{st0 st':AS}(h:fU st0 lo hi n K=some st')(hk:∀x y,K x y=some st'→dZ ds st st'):dZ ds st st':=by
 unfold fU at h
 split at h<;>first
  |exact hk _ _ h
  |cases h
theorem w4 {ds:List Nat}{op:BinOp}{b:Bool}{K:AC→Option AS}{st':AS}(h:qm op b K=some st')(hk:∀c,K c=some st'→dZ ds st st'):dZ ds st st':=by unfold qm at h;split at h;exact hk _ h;exact hk _ h;cases h
theorem yT {E:Env}{Γ:cH}(hΓ:∀f,(Γ f).io=false∧(Γ f).bx=false∧(Γ f).pr=false){an:An}{ds:List Nat}{o:Oper}{st':AS}(hq:dk an ds o=true)(hd:∀i,o.dst=some i→i∈ds)(h:bG E Γ an o st some=some st'):dZ ds st st':=by
 have hput:∀v,some (st.put o.dst v)=some st'→dZ ds st st':=λv hv=>by cases hv;exact dZ.put hd v
 unfold bG at h;split at h;rename_i x ho;simp only[dk,ho]at hq;unfold pq at h;cases hdd:o.dst with
 |none=>rw[hdd]at h;cases h
 |some d=>
  rw[hdd]at h hq;simp only at h hq;have hf:an.mv.contains d=false:=by simpa using hq
  rw[hf]at h;simp only[aB,ba]at h;cases h;exact dZ.put (λi hi=>hd i (by rw[hdd];exact hi)) _
 rename_i x ho;have hlate:nU an o=false∨∃y,x=y∧(∀v,y≠ .const v)∧(∀t,y≠ .tmp t):=by cases x with|tmp t=>left;simp only[dk,ho,aa,aC]at hq;exact hq.2|const v=>left;simpa only[dk,ho,aC]using hq|func f=>simp[dk,ho]at hq|global g=>simp[dk,ho]at hq
 have hlate:nU an o=false:=by rcases hlate with h1|⟨y,rfl,h1,h2⟩;exact h1;cases x with|tmp t=>exact absurd rfl (h2 t)|const v=>exact absurd rfl (h1 v)|func f=>simp[dk,ho]at hq|global g=>simp[dk,ho]at hq
 simp only[dk,ho]at hq;rw[aq (by simp[hlate])]at h;unfold kO at h;have hx:dZ ds st (st.take x).2:=by
  cases x with
  |tmp t=>
   have ht:t∈ds:=by simp only[aa]at hq;simpa using hq.1
   exact dZ.put (d:=some t) (λi hi=>by cases hi;exact ht) _
  |const v=>exact dZ.refl _ _
  |func f=>exact dZ.refl _ _
  |global g=>exact dZ.refl _ _
 split at h;split at h;exact hput _ h;cases h;rename_i v st1 _ htk;cases h;have:(st.take x).2=st1:=by rw[htk]
 rw[this]at hx;exact hx.trans (dZ.put hd _);unfold qN at h;split at h;rename_i t _;split at h;exact hput _ h;cases t with|true=>exact hput _ h|false=>exact hput _ h
 cases h;rename_i ho;simp[dk,ho]at hq;rename_i ho;simp[dk,ho]at hq;rename_i T p ho;simp only[dk,ho]at hq;have htk:ra an o=false:=by unfold ra;cases hdd:o.dst with|none=>rfl|some d=>rw[hdd]at hq;simp only[aC]at hq;simp only[hq,du]
 unfold gU at h;split at h;split at h;split at h;split at h;rename_i d hdd;rw[hdd]at hq;simp only at hq;have hf:an.mv.contains d=false:=by simpa using hq
 rw[hf]at h;simp only[aB,ba]at h;exact hput _ h;cases h;cases h;cases h;rw[aq (by simp[htk])]at h;split at h;split at h;exact hput _ h;cases h;unfold pY at h;split at h;split at h;split at h;split at h;obtain⟨y,_,h⟩:=vP h;exact hput _ h;cases h;cases h;cases h;cases h;cases h;rename_i ho;simp[dk,ho]at hq;split at h;exact hput _ h;exact hput _ h;cases h;unfold n8 at h;split at h;split at h;exact uo h λz hz=>hput _ hz;cases h;split at h;split at h;exact uo h λz hz=>hput _ hz;cases h;cases h;split at h;split at h;cases h;exact w4 h λz hz=>hput _ hz;cases h;split at h;exact w4 h λz hz=>hput _ hz;cases h;exact uo h λz hz=>hput _ hz;unfold Kh at h;split at h;exact hput _ h;exact hput _ h;exact hput _ h;cases h;unfold nO at h;split at h;split at h;exact hput _ h;cases h;split at h;exact hput _ h;cases h;cases h;unfold fM at h;split at h;split at h;exact kv h λy hy=>hput _ hy;cases h;cases h;unfold oP at h;split at h;split at h;exact kv h λy hy=>hput _ hy;cases h;cases h;rename_i T parts ho;simp only[dk,ho]at hq;have he:parts=#[]:=by simpa using hq
 subst he;unfold oK at h;split at h;simp only[cA,List.map_nil]at h;split at h;exact hput _ h;cases h;cases h;rename_i ho;simp[dk,ho]at hq;rename_i ho;simp[dk,ho]at hq;rename_i ho;simp only[dk,ho,aC]at hq;unfold nY at h;rw[aq (by simp[hq])]at h;split at h;split at h;exact tf h λx y hxy=>kv hxy λz hz=>hput _ hz;cases h;split at h;exact tf h λx y hxy=>kv hxy λz hz=>hput _ hz;cases h;cases h;rename_i ho;simp[dk,ho]at hq;rename_i ho;simp[dk,ho]at hq;rename_i ho;simp[dk,ho]at hq;rename_i ho;simp[dk,ho]at hq;unfold wT at h;split at h;split at h;exact hput _ h;cases h;split at h;exact hput _ h;cases h;cases h;unfold ye at h;split at h;exact hput _ h;cases h;unfold yd at h;split at h;exact hput _ h;cases h;rename_i ho;simp[dk,ho]at hq;unfold ql at h;split at h;rename_i k _;rw[(hΓ k).2.1,(hΓ k).2.2,(hΓ k).1]at h;simp only[al]at h;refine kv h λy hy=>?_;cases hsel:(Γ k).sel y with|true=>rw[hsel]at hy;cases hy;exact(dZ.cM hd).trans (dZ.put hd _)|false=>rw[hsel]at hy;cases hy;exact(dZ.cM hd).trans (dZ.put hd _)
 cases h;cases h
theorem Cm {ops:List Oper}{o:Oper}(ho:o∈ops){i:Nat}(hi:o.dst=some i):i∈sk ops:=List.mem_filterMap.2 ⟨o,ho,hi⟩
theorem w5 {E:Env}{Γ:cH}(hΓ:∀f,(Γ f).io=false∧(Γ f).bx=false∧(Γ f).pr=false){an:An}{ops:List Oper}{o:Oper}{st':AS}(ho:o∈ops)(hq:dk an (sk ops) o=true)(h:dj E Γ an ops o st some=some st'):dZ (sk ops) st st':=by
 have hd:∀i,o.dst=some i→i∈sk ops:=λi hi=>Cm ho hi;unfold dj at h;split at h;exact yT hΓ hq hd h;rename_i j want hg;split at h;rename_i d hdd;have hdm:d∈sk ops:=by rw[bZ]at hdd;cases ho':ops[j]? with|none=>rw[ho']at hdd;cases hdd|some o'=>rw[ho']at hdd;exact Cm (List.mem_of_getElem? ho') hdd
 have hp:∀t,dZ (sk ops) st (st.put (some d) (.one (.bool t))):=λt=>dZ.put (λi hi=>by cases hi;exact hdm) _;split at h;rename_i b hb;have main:∀t,(if(t==want)=true then bG E Γ an o (st.put (some d) (.one (.bool t))) some else some ((st.put (some d) (.one (.bool t))).put o.dst (.one .un)))=some st'→dZ (sk ops) st st':=by intro t ht;split at ht;exact(hp t).trans (yT hΓ hq hd ht);cases ht;exact(hp t).trans (dZ.put hd _)
 cases b with|true=>exact main true h|false=>exact main false h
 cases h;exact dZ.put hd _;cases h;cases h
theorem Cy {E:Env}{Γ:cH}(hΓ:∀f,(Γ f).io=false∧(Γ f).bx=false∧(Γ f).pr=false){an:An}{ops:List Oper}(hq:∀o∈ops,dk an (sk ops) o=true):∀(l:List Oper)(st st':AS),(∀o∈l,o∈ops)→Ao E Γ an ops l st some=some st'→dZ (sk ops) st st'
 |[],st,st',_,h=>by cases h;exact dZ.refl _ _
 |o::l,st,st',hl,h=>by simp only[Ao]at h;rw[iD]at h;cases hg:dj E Γ an ops o st some with|none=>rw[hg]at h;cases h|some st1=>rw[hg]at h;exact(w5 hΓ (hl o (by simp)) (hq o (hl o (by simp))) hg).trans (Cy hΓ hq l st1 st' (λo' ho'=>hl o' (by simp[ho'])) h)
theorem sj {ds:List Nat}:∀(l:List Nat)(st:AS),(∀i∈l,i∈ds)→dZ ds st (st.om l)
 |[],st,_=>dZ.refl _ _
 |d::l,st,h=>by
  have hd:∀i,some d=some i→i∈ds:=λi hi=>by cases hi;exact h d (by simp)
  exact((dZ.put hd _).trans (dZ.cM hd)).trans (sj l _ (λi hi=>h i (by simp[hi])))
theorem yE:∀(l:List Nat)(st:AS)(i:Nat)(av:AV),(st.om l).slots[i]?=some av→i∈l∨st.slots[i]?=some .bot→av=.bot
 |[],st,i,av,h,hi=>by rcases hi with hi|hi;cases hi;have:st.slots[i]?=some av:=h;rw[hi]at this;cases this;rfl
 |d::l,st,i,av,h,hi=>by
  refine yE l _ i av h ?_;by_cases hil:i∈l;exact .inl hil;refine .inr ?_;rw[kH,cX,List.getElem?_set];have hlt:i<st.slots.length:=by
   have h1:=(sj (ds:=d::l) l ((st.put (some d) .bot).cM (some d)) (λi hi=>by simp[hi])).len;have h2:=(List.getElem?_eq_some_iff.1 h).1;have h3:(AS.om ((st.put (some d) .bot).cM (some d)) l).slots.length=st.slots.length:=by rw[h1,kH,cX,aL]
   have h4:i<(AS.om ((st.put (some d) .bot).cM (some d)) l).slots.length:=h2;omega
  split;rename_i hdi;subst hdi;rw[ar hlt];rename_i hdi;rcases hi with hi|hi;simp only[bn]at hi;rcases hi with hi|hi;exact absurd hi.symm hdi;exact absurd hi hil;exact hi
theorem yF:∀(l:List Nat)(st:AS)(i:Nat),i∈l∨(nth st.iss i).getD true=true→(nth (st.om l).iss i).getD true=true
 |[],st,i,hi=>by rcases hi with hi|hi;cases hi;exact hi
 |d::l,st,i,hi=>by refine yF l _ i ?_;by_cases hil:i∈l;exact .inl hil;refine .inr ?_;have he:(AS.cM (st.put (some d) .bot) (some d)).iss=dD st.iss d true:=rfl;rw[he,cE,bZ,List.getElem?_set];split;split<;>rfl;rename_i hdi;rcases hi with hi|hi;simp only[bn]at hi;rcases hi with hi|hi;exact absurd hi.symm hdi;exact absurd hi hil;rw[bZ]at hi;exact hi
theorem gh.weaken {st':AS}(h:gh C st' a w){ds:List Nat}(hn:dZ ds st st'){s:Nat}{b:Bool}(hb:getBool st' s=some b):gh C ((st.om ds).put (some s) (.one (.bool b))) a w:=by
 have hbs:st'.get s=.val false [.bool b]:=by unfold getBool at hb;split at hb;rename_i b' hg;cases hb;exact hg;cases hb
 have hkn:=h.known hbs;obtain⟨g,h⟩:=h;have hdn:=sj (ds:=ds) ds st (λ_ hi=>hi);have hboxes:((st.om ds).put (some s) (.one (.bool b))).boxes=st'.boxes:=by rw[eE,hdn.boxes,hn.boxes]
 have hep:((st.om ds).put (some s) (.one (.bool b))).ep=st'.ep:=by rw[tY,hdn.ep,hn.ep]
 have hlen:((st.om ds).put (some s) (.one (.bool b))).slots.length=st'.slots.length:=by rw[cX,aL,hdn.len,hn.len]
 have hiss:∀t,fi st' t→fi ((st.om ds).put (some s) (.one (.bool b))) t:=by intro t ht;rw[s8];rcases ht with ht|ht;exact .inl ht;refine .inr (yF ds st _ ?_);by_cases hi:t/3/4096∈ds;exact .inl hi;exact .inr (by rw[←hn.iss _ hi];exact ht)
 have hpres:∀s',dc st' s'→dc ((st.om ds).put (some s) (.one (.bool b))) s':=λs' hs=>by unfold dc at hs⊢;rw[hboxes];exact hs
 have hle:(br C g st' w).Le (br C g ((st.om ds).put (some s) (.one (.bool b))) w):=⟨rfl,λt ht=>⟨hiss t ht,rfl⟩,λ_ _ _ _ _ hv=>hv,by show st'.ep≤_;rw[←hep];exact aK _,λs' hs=>⟨hpres s' hs,rfl⟩,λ_ b o u ho hu=>⟨ho,hu⟩⟩
 refine⟨g,h.step (λ_=>True) hle h.defers (by rw[hlen];exact h.size) (by rw[hboxes,hlen];exact h.bsize) h.frame h.labs (λb x _ hx=>⟨hx,rfl,rfl⟩) ?_ ?_ ?_ (.inl ⟨trivial,by rw[uf,hdn.io,hn.io]⟩)⟩;intro i av hi;rw[cX,List.getElem?_set]at hi;split at hi;rename_i hsi;subst hsi;split at hi;cases hi;refine .inr ⟨[],fN ?_,by simp,by simp⟩;exact⟨hkn,rfl⟩;cases hi;by_cases hid:i∈ds;have:=yE ds st i av hi (.inl hid);subst this;exact .inr ⟨[],cY.bot _ _,by simp,by simp⟩;rw[hdn.slot i hid]at hi;exact .inl ⟨trivial,by rw[hn.slot i hid];exact hi,rfl⟩;intro s' cs hs;rw[hboxes]at hs;exact .inl ⟨trivial,hs,rfl⟩;intro k v av hk;simp at hk
theorem Kz (Γ:cH)(f:Nat):(Γ.calm f).io=false∧(Γ.calm f).bx=false∧(Γ.calm f).pr=false:=by unfold cH.calm;cases h:(Γ f).io with|true=>exact⟨rfl,rfl,rfl⟩|false=>cases h2:(Γ f).bx with|true=>exact⟨rfl,rfl,rfl⟩|false=>cases h3:(Γ f).pr with|true=>exact⟨rfl,rfl,rfl⟩|false=>exact⟨h,h2,h3⟩
theorem LB (Γ:cH)(f:Nat):(Γ.sE f).io=false∧((Γ.sE f).bx=true→(Γ.sE f).cur=true)∧(Γ.sE f).pr=false:=by unfold cH.sE;cases h:(Γ f).io with|true=>exact⟨rfl,λh=>(by cases h),rfl⟩|false=>cases h3:(Γ f).pr with|true=>exact⟨rfl,λh=>(by cases h),rfl⟩|false=>cases h2:(Γ f).bx with|false=>exact⟨h,λh=>(by simp[h2]at h),h3⟩|true=>cases h4:(Γ f).cur with|true=>exact⟨h,λ_=>h4,h3⟩|false=>exact⟨rfl,λh=>(by cases h),rfl⟩
theorem LC {Γ:cH}(hΓ:∀f,(Γ f).io=false∧(Γ f).bx=false∧(Γ f).pr=false)(f:Nat):(Γ.sE f).io=false∧(Γ.sE f).bx=false∧(Γ.sE f).pr=false:=by have h:=hΓ f;unfold cH.sE;rw[h.1,h.2.1,h.2.2];exact h
theorem Sound.sE {E:Env}{Γ:cH}(h:Sound P E Γ):Sound P E Γ.sE:=by refine⟨h.ty,h.eqs,h.fts,λf=>?_,h.mixed⟩;unfold cH.sE;cases (Γ f).io||(Γ f).pr||((Γ f).bx&& !(Γ f).cur)with|true=>intro xs y hy;cases hy|false=>exact h.fns f
theorem Sound.calm {E:Env}{Γ:cH}(h:Sound P E Γ):Sound P E Γ.calm:=by refine⟨h.ty,h.eqs,h.fts,λf=>?_,h.mixed⟩;unfold cH.calm;cases (Γ f).io with|true=>intro xs y hy;cases hy|false=>cases (Γ f).bx with|true=>intro xs y hy;cases hy|false=>cases (Γ f).pr with|true=>intro xs y hy;cases hy|false=>exact h.fns f
end Go.Dn
