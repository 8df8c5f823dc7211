import Derived.Test.YtgbaemfepmabgaaGreatDnDen
import Derived.Test.YtgbaemfepmabgaaGreatDnNat
/- What is kept at a loop's door; what a region whose ways meet again leaves. -/
namespace Go.Dn
open Go.RowKit
variable {P:Program} {C:Ctx} {st:AS} {a:Act} {w:World} {R:Type} {r:R}
theorem tE (keep:List Nat)(ep:Nat)(io:List AC):∀(l:List AV)(n i:Nat),(gV keep ep io n l)[i]?=(l[i]?).map λv=>if keep.contains (n+i) then v.mask keep ep io (n+i) else .bot
 |[],n,i=>by simp[gV]
 |v::l,n,0=>by simp[gV]
 |v::l,n,i+1=>by simp only[gV,List.getElem?_cons_succ];rw[tE keep ep io l (n+1) i,show n+1+i=n+(i+1) by omega]
theorem qF (keep:List Nat)(ep:Nat)(io:List AC):∀(l:List (Option (List AC)))(n i:Nat),(gU keep ep io n l)[i]?=(l[i]?).map λb=>if keep.contains (n+i) then b.map (vN keep ep io (.box (n+i)) 0) else none
 |[],n,i=>by simp[gU]
 |v::l,n,0=>by simp[gU]
 |v::l,n,i+1=>by simp only[gU,List.getElem?_cons_succ];rw[qF keep ep io l (n+1) i,show n+1+i=n+(i+1) by omega]
theorem nf (keep:List Nat)(ep:Nat)(io:List AC):∀(l:List AV)(n:Nat),(gV keep ep io n l).length=l.length
 |[],_=>rfl
 |_::l,n=>by simp[gV,nf keep ep io l]
theorem qV (keep:List Nat)(ep:Nat)(io:List AC):∀(l:List (Option (List AC)))(n:Nat),(gU keep ep io n l).length=l.length
 |[],_=>rfl
 |_::l,n=>by simp[gU,qV keep ep io l]
def GB:Value→AV→List Value
 | .agg vs,.val true _=>vs.toList
 |v,_=>[v]
theorem GD {g:Bool}{v:Value}{vs:List Value}{cs:List AC}(h:Cut g v vs):GB v (.val g cs)=vs:=by cases g with|true=>simp only[Cut,aX]at h;subst h;simp[GB]|false=>simp only[Cut]at h;subst h;cases v<;>rfl
def rk (ioV:List Value)(st:AS)(a:Act)(w:World)(β:Nat→Nat)(t:Nat):Value:=
 if t%3=0∧t/3/4096=1000003 then(ioV[t/3%4096]?).getD undef
 else if t%3=0 then((GB (a.tmps.getD (t/3/4096) undef) (st.get (t/3/4096)))[t/3%4096]?).getD undef
 else match w.heap[β (t/3/4096)]? with
  |some (.cells arr _ _)=>(arr.toList[t/3%4096]?).getD undef
  |_=>undef
def Gb (c c':RC)(io:List AC):Prop:=∀j n (e:CT)(ys:List e.D),AC.LQ io j n e=some ys→∃v0 fp0,cz c.hw c.w (.sl e) [v0] ys fp0∧v0=c.hdr n∧∀q,(fg.io j).sV=some q→c'.iss q∧v0=c'.hdr q
theorem JJ {c c':RC}{io:List AC}(hio:Gb c c' io){keep:List Nat}{rt:fg}{v:Value}{x:AC}{fp:List Nat}(h:dM c v x fp)(hhw:c'.hw=c.hw)(hw:c'.w=c.w)(hA:c'.A=c.A)(hep:c'.ep=0)(hβ:c'.β=c.β)(hpres:∀s,keep.contains s=true→c.pres s→c'.pres s)(hst:∀t,rt.sV=some t→c'.iss t∧v=c'.hdr t):dM c' v (x.mask keep c.ep io rt) fp:=by
 have hS:c'.S=c.S:=by funext b o;simp[RC.S,hhw,hA]
 cases x with
 |int k n=>exact h
 |bool b=>exact h
 |str s=>exact h
 |nilsl=>exact h
 |fn f=>exact h
 |un=>exact h
 |bot=>exact h
 |ptr s off=>simp only[AC.mask];split;rename_i hk;exact⟨by rw[hβ];exact h.1,hpres s hk h.2.1,h.2.2⟩;exact h.2.2
 |elt fl e y i off=>cases fl with|own t=>exact h.elim|nest _ _ _ _ _ _=>exact h.elim|part _ _ _ _=>exact h.elim|holed _ _ _=>exact h.elim|arg _=>exact h.1|loc ep pv=>exact h.1
 |sl fl e xs=>
  cases fl with
  |own t=>exact⟨cz.mono h.1 (λb _=>⟨by rw[hw],by rw[hhw]⟩),hst⟩
  |nest _ _ _ _ _ _=>exact h.1
  |part _ _ _ _=>exact h.1
  |holed _ _ _=>obtain⟨_,⟨k,hk,h3⟩,_⟩:=h;exact⟨λq hq=>(by cases hq),⟨k,hk,h3.mono (λb hb=>⟨by rw[hw],by rw[hhw]⟩)⟩,by simp⟩
  |arg _=>exact⟨h.1,by rw[hA,hw];exact h.2⟩
  |loc ep pv=>
   obtain⟨h1,h2,h3,h4,h5⟩:=h;have plain:dM c' v (if(ep==c.ep)=true then AC.sl (.loc 0 none) e xs else .bot) fp:=by split;rename_i he;refine⟨h1,by rw[hep];exact aL _,h3,λ_=>?_,by simp⟩;rw[hS,hw];exact h4 (by simpa using he);exact h1
   simp only[AC.mask];split;rename_i j n;split;rename_i ys hnow;obtain⟨v0,fp0,hown,hv0,hq⟩:=hio j n e ys hnow;obtain⟨_,k2⟩:=h5 _ _ rfl;have hv:v0=v:=hv0.trans k2.symm;subst hv;refine⟨h1,by rw[hep];exact aL _,uX hown,λ_=>?_,λr t hp=>?_⟩;rw[hS,hw];exact cz.rep (λb o ho=> .inr ho) hown;cases hst':(fg.io j).sV with|none=>rw[hst']at hp;cases hp|some q=>rw[hst']at hp;simp at hp;obtain⟨_,rfl⟩:=hp;exact⟨(hq q hst').1,(hq q hst').2⟩
   exact plain;exact plain
theorem tZ {c c':RC}{io:List AC}(hio:Gb c c' io){keep:List Nat}{f:Nat→fg}(hhw:c'.hw=c.hw)(hw:c'.w=c.w)(hA:c'.A=c.A)(hep:c'.ep=0)(hβ:c'.β=c.β)
 (hpres:∀s,keep.contains s=true→c.pres s→c'.pres s):∀{vs:List Value}{xs:List AC}{fp:List Nat}(j:Nat),aN c vs xs fp→
  (∀i v,vs[i]?=some v→∀t,(f (j+i)).sV=some t→c'.iss t∧v=c'.hdr t)→aN c' vs (vN keep c.ep io f j xs) fp
 |[],[],_,_,h,_=>h
 |v::_,_::_,_,j,h,hm=>by obtain⟨f1,f2,rfl,h1,h2⟩:=h;exact⟨f1,f2,rfl,JJ hio h1 hhw hw hA hep hβ hpres (λt ht=>hm 0 v rfl t ht),tZ hio hhw hw hA hep hβ hpres (j+1) h2 (λi u hu t ht=>hm (i+1) u (by simpa using hu) t (by rwa[show j+(i+1)=j+1+i by omega]))⟩
 |[],_::_,_,_,h,_=>h.elim
 |_::_,[],_,_,h,_=>h.elim
theorem Ma {c:RC}{v:Value}{x:AC}{fp:List Nat}(h:dM c v x fp)(hno:∀(tag:Option Nat)(e:CT)(xs:List e.D),x=.sl (.own tag) e xs→False)(hno2:∀(tag:Option Nat)(i:Int)(ep:Option Nat)(e:CT)(xs:List e.D),x=.sl (.holed tag i ep) e xs→False):fp=[]:=by
 cases x with
 |int k n=>exact h.2
 |bool b=>exact h.2
 |str s=>exact h.2
 |nilsl=>exact h.2
 |fn f=>exact h.2
 |un=>exact h.2
 |bot=>exact h
 |ptr s off=>exact h.2.2
 |elt fl e y i off=>cases fl with|own t=>exact h.elim|nest _ _ _ _ _ _=>exact h.elim|part _ _ _ _=>exact h.elim|holed _ _ _=>exact h.elim|arg _=>exact h.1|loc ep pv=>exact h.1
 |sl fl e xs=>cases fl with|own t=>exact(hno _ _ _ rfl).elim|nest _ _ _ _ _ _=>exact h.1|part _ _ _ _=>exact h.1|holed _ _ _=>exact(hno2 _ _ _ _ _ rfl).elim|arg _=>exact h.1|loc ep pv=>exact h.1
theorem gO.mask (h:gO C st a w)(keep:List Nat):gO C (st.mask keep) a w:=by
 obtain⟨g,h⟩:=h;let g':Gh:={g with hdr:=rk C.ioV st a w g.β}
 have hpres:∀s,keep.contains s=true→dz st s→dz (st.mask keep) s:=by rintro s hk ⟨cs,hs⟩;refine⟨vN keep st.ep st.io (.box s) 0 cs,?_⟩;show(gU keep st.ep st.io 0 st.boxes)[s]?=_;rw[qF,hs];simp only[bV,bM,ar hk]
 obtain⟨fpi,hri,hni,hli⟩:=h.io;have hioq:∀j v,C.ioV[j]?=some v→∀q,(fg.io j).sV=some q→fR (st.mask keep) q∧v=rk C.ioV st a w g.β q:=by
  intro j v hv q hq;simp only[fg.sV]at hq;cases hb:Nat.ble 4096 j with
  |true=>rw[hb]at hq;cases hq
  |false=>
   rw[hb]at hq;simp only[ak,aH,oG]at hq;have hj:j<4096:=by rcases bl j 4096 with hlt|hge;exact hlt;rw[dT hge]at hb;cases hb
   have h0:q%3=0:=by omega
   have h1:q/3/4096=1000003:=by omega
   have h2:q/3%4096=j:=by omega
   refine⟨.inl (by omega),?_⟩;rw[rk,ar ⟨h0,h1⟩,h2,hv];rfl
 have hseen:Gb (bA C g st w) (bA C g' (st.mask keep) w) st.io:=by
  intro j n e ys hnow;unfold AC.LQ at hnow;split at hnow;rename_i t' e' ys' hj;split at hnow;rename_i he;subst he;cases ht:(t'==n)with
  |false=>rw[ht]at hnow;cases hnow
  |true=>
   rw[ht]at hnow;have:t'=n:=by simpa using ht
   subst this;cases hnow;rw[cf]at hj;obtain⟨v,f,hv,hr,_⟩:=hri.get j _ hj;exact⟨v,f,hr.1,(hr.2 t' rfl).2,λq hq=>hioq j v hv q hq⟩
  cases hnow;cases hnow
 have hmio:∀(j:Nat){vs:List Value}{xs:List AC}{fp:List Nat},aN (bA C g st w) vs xs fp→(∀i v,vs[i]?=some v→C.ioV[j+i]?=some v)→aN (bA C g' (st.mask keep) w) vs (Hg keep j xs) fp:=by
  intro j vs
  induction vs generalizing j with
  |nil=>intro xs fp hr _;cases xs with
   |nil=>exact hr
   |cons _ _=>exact hr.elim
  |cons v vs ih=>
   intro xs fp hr hv
   cases xs with
   |nil=>exact hr.elim
   |cons x xs=>
    obtain⟨f1,f2,rfl,r1,r2⟩:=hr
    refine⟨f1,f2,rfl,?_,ih (j+1) r2 (λi u hu=>by rw[show j+1+i=j+(i+1) by omega];exact hv (i+1) u (by simpa using hu))⟩
    have hv0:=hv 0 v rfl
    rw[cJ]at hv0
    split
    ·rename_i tg e ys
     exact⟨r1.1,λq hq=>hioq j v hv0 q hq⟩
    ·rename_i tag i ep e ys
     obtain⟨_,⟨k,hk,h3⟩,_⟩:=r1
     exact⟨λq hq=>(by cases hq),⟨k,hk,h3⟩,by simp⟩
    ·rename_i s off
     split
     ·rename_i hk
      exact⟨r1.1,hpres s hk r1.2.1,r1.2.2⟩
     ·exact r1.2.2
    ·rename_i hno hno2 _
     cases hfl:x.dF with
     |true=>
      obtain⟨rfl,k⟩:=fS (c':=bA C g' (st.mask keep) w) r1 hfl
      exact k
     |false=>exact Ma r1 hno hno2
 refine⟨g',h.defers,?_,?_,λi av hi=>?_,λs cs hs=>?_,λk v av hk=>by simp at hk,h.labs,h.frame,⟨fpi,hmio 0 hri (λi v hv=>by rw[bM];exact hv),hni,hli⟩⟩;show _=(gV keep st.ep st.io 0 st.slots).length;rw[nf];exact h.size;show(gU keep st.ep st.io 0 st.boxes).length=(gV keep st.ep st.io 0 st.slots).length;rw[nf,qV];exact h.bsize;have hi':(gV keep st.ep st.io 0 st.slots)[i]?=some av:=hi;rw[tE,bM]at hi';cases hv:st.slots[i]? with
 |none=>rw[hv]at hi';cases hi'
 |some x=>
  rw[hv]at hi';simp only[bV,aH]at hi';split at hi'
  ·subst hi'
   cases hx:x with
   |tup ts=>exact⟨[],dp.bot _ _,by simp,by simp⟩
   |val gg cs=>
    rw[hx]at hv
    obtain⟨fp,⟨vs,hcut,hr⟩,hn,hl⟩:=h.slots i _ hv
    refine⟨fp,⟨vs,hcut,tZ (io:=st.io) hseen (c:=bA C g st w) (c':=bA C g' (st.mask keep) w) rfl rfl rfl rfl rfl hpres 0 hr ?_⟩,hn,hl⟩
    intro j u hu t ht
    simp only[bM,fg.sV]at ht
    cases hb:Nat.ble 4096 j with
    |true=>rw[hb]at ht;cases ht
    |false=>
     rw[hb]at ht
     simp only[ak]at ht
     cases hbs:Nat.ble 1000000 i with
     |true=>rw[hbs]at ht;cases ht
     |false=>
     rw[hbs]at ht
     simp only[ak,aH]at ht
     have hi6:i<1000000:=by rcases bl i 1000000 with hlt|hge;exact hlt;rw[dT hge]at hbs;cases hbs
     have hj:j<4096:=by rcases bl j 4096 with hlt|hge;exact hlt;rw[dT hge]at hb;cases hb
     have h0:t%3=0:=by omega
     have h1:t/3/4096=i:=by omega
     have h2:t/3%4096=j:=by omega
     refine⟨.inl (by omega),?_⟩
     show u=rk C.ioV st a w g.β t
     rw[rk,aq (by omega),ar h0,h1,h2,get_eq hv,GD hcut,hu];rfl
  subst hi';exact⟨[],dp.bot _ _,by simp,by simp⟩
 have hs':(gU keep st.ep st.io 0 st.boxes)[s]?=some (some cs):=hs;rw[qF,bM]at hs';cases hv:st.boxes[s]? with
 |none=>rw[hv]at hs';cases hs'
 |some x=>
  rw[hv]at hs';simp only[bV,aH]at hs';split at hs';cases hx:x with
  |none=>rw[hx]at hs';cases hs'
  |some xs=>
   rw[hx]at hs' hv;simp only[bV,aH]at hs';subst hs';obtain⟨arr,T,fr,fp,hb,hth,hr,hn,hni,hl,hl0,hw0⟩:=h.boxes s xs hv;refine⟨arr,T,fr,fp,hb,hth,tZ (io:=st.io) hseen (c:=bA C g st w) (c':=bA C g' (st.mask keep) w) rfl rfl rfl rfl rfl hpres 0 hr ?_,hn,hni,hl,hl0,hw0⟩;intro j u hu t ht;simp only[bM,fg.sV]at ht;cases hbb:Nat.ble 4096 j with
   |true=>rw[hbb]at ht;cases ht
   |false=>
    rw[hbb]at ht;simp only[ak,aH]at ht;have hj:j<4096:=by rcases bl j 4096 with hlt|hge;exact hlt;rw[dT hge]at hbb;cases hbb
    have h0:¬t%3=0:=by omega
    have h1:t/3/4096=s:=by omega
    have h2:t/3%4096=j:=by omega
    refine⟨.inl (by omega),?_⟩;show u=rk C.ioV st a w g.β t;rw[rk,aq (by omega),aq h0,h1,h2,hb];simp only;rw[hu];rfl
  cases hs'
structure ew (ds:List Nat) (st st':AS):Prop where
 len:st'.slots.length=st.slots.length
 slot:∀i,i∉ds→st'.slots[i]?=st.slots[i]?
 boxes:st'.boxes=st.boxes
 ep:st'.ep=st.ep
 iss:∀i,i∉ds→nth st'.iss i=nth st.iss i
 ilen:st'.iss.length=st.iss.length
 io:st'.io=st.io
theorem ew.refl (ds:List Nat)(st:AS):ew ds st st:=⟨rfl,λ_ _=>rfl,rfl,rfl,λ_ _=>rfl,rfl,rfl⟩
theorem ew.trans {ds:List Nat}{st st1 st2:AS}(h:ew ds st st1)(k:ew ds st1 st2):ew ds st st2:=⟨k.len.trans h.len,λi hi=>(k.slot i hi).trans (h.slot i hi),k.boxes.trans h.boxes,k.ep.trans h.ep,λi hi=>(k.iss i hi).trans (h.iss i hi),k.ilen.trans h.ilen,k.io.trans h.io⟩
theorem ew.put {ds:List Nat}{st:AS}{d:Option Nat}(hd:∀i,d=some i→i∈ds)(v:AV):ew ds st (st.put d v):=by cases d with|none=>exact ew.refl _ _|some d=>refine⟨by rw[dn,aG],λi hi=>?_,eV,vC,λi _=>by rw[CA],by rw[CA],vK⟩;rw[dn,List.getElem?_set_ne];rintro rfl;exact hi (hd _ rfl)
theorem ew.cW {ds:List Nat}{st:AS}{d:Option Nat}(hd:∀i,d=some i→i∈ds):ew ds st (st.cW d):=by cases d with|none=>exact ew.refl _ _|some d=>refine⟨rfl,λi _=>rfl,rfl,rfl,λi hi=>?_,?_,rfl⟩;simp only[AS.cW,cf,cS];rw[List.getElem?_set_ne];rintro rfl;exact hi (hd _ rfl);simp only[AS.cW,cS,aG]
theorem lM {α:Type}{ds:List Nat}{o:Option α}{k:α→Option AS}{st':AS}(h:aa o k=some st')(hk:∀x,k x=some st'→ew ds st st'):ew ds st st':=by cases o with|none=>cases h|some x=>exact hk x h
theorem JV {ds:List Nat}{n:Nat}{k:Option AS}{st':AS}(h:room n k=some st')(hk:k=some st'→ew ds st st'):ew ds st st':=by unfold room at h;split at h;exact hk h;cases h
theorem Hp {ds:List Nat}{op:BinOp}{k:IntKind}{x y:Int}{K:AC→Option AS}{st':AS}(h:uM op k x y K=some st')(hk:∀z,K z=some st'→ew ds st st'):ew ds st st':=by
 unfold uM at h
 split at h<;>first
  |exact hk _ h
  |(split at h
    ·cases h
    ·exact hk _ h)
  |cases h
theorem Hq {ds:List Nat}{op:BinOp}{x y:List UInt8}{K:AC→Option AS}{st':AS}(h:wN op x y K=some st')(hk:∀z,K z=some st'→ew ds st st'):ew ds st st':=by
 unfold wN at h
 split at h<;>first
  |exact JV h (hk _)
  |exact hk _ h
  |cases h
theorem vQ {ds:List Nat}{op:BinOp}{x y:AV}{K:AC→Option AS}{st':AS}(h:tw op x y K=some st')(hk:∀z,K z=some st'→ew ds st st'):ew ds st st':=by unfold tw at h;split at h;split at h;split at h;cases h;exact hk _ h;split at h;cases h;exact hk _ h;split at h;exact Hp h hk;cases h;exact Hq h hk;split at h;exact hk _ h;exact hk _ h;cases h;split at h;exact lM h λb hb=>hk _ hb;exact lM h λb hb=>hk _ hb;cases h;cases h
theorem uU {ds:List Nat}{lo hi:Option Operand}{n:Nat}{K:Int→Int→Option AS}{st0 st':AS}(h:gF st0 lo hi n K=some st')(hk:∀x y,K x y=some st'→ew ds st st'):ew ds st st':=by
 unfold gF at h
 split at h<;>first
  |exact hk _ _ h
  |cases h
theorem yK {ds:List Nat}{op:BinOp}{b:Bool}{K:AC→Option AS}{st':AS}(h:sc op b K=some st')(hk:∀c,K c=some st'→ew ds st st'):ew ds st st':=by unfold sc at h;split at h;exact hk _ h;exact hk _ h;cases h
theorem Bd {E:Env}{Γ:cG}(hΓ:∀f,(Γ f).io=false∧(Γ f).bx=false∧(Γ f).pr=false){an:An}{ds:List Nat}{o:Oper}{st':AS}(hq:dI an ds o=true)(hd:∀i,o.dst=some i→i∈ds)(h:bT E Γ an o st some=some st'):ew ds st st':=by
 have hput:∀v,some (st.put o.dst v)=some st'→ew ds st st':=λv hv=>by cases hv;exact ew.put hd v
 unfold bT at h;split at h;rename_i x ho;simp only[dI,ho]at hq;unfold qW at h;cases hdd:o.dst with
 |none=>rw[hdd]at h;cases h
 |some d=>
  rw[hdd]at h hq;simp only at h hq;have hf:an.mv.contains d=false:=by simpa using hq
  rw[hf]at h;simp only[aD,bp]at h;cases h;exact ew.put (λi hi=>hd i (by rw[hdd];exact hi)) _
 rename_i x ho;have hlate:pz an o=false∨∃y,x=y∧(∀v,y≠ .const v)∧(∀t,y≠ .tmp t):=by cases x with|tmp t=>left;simp only[dI,ho,ab,aA]at hq;exact hq.2|const v=>left;simpa only[dI,ho,aA]using hq|func f=>simp[dI,ho]at hq|global g=>simp[dI,ho]at hq
 have hlate:pz an o=false:=by rcases hlate with h1|⟨y,rfl,h1,h2⟩;exact h1;cases x with|tmp t=>exact absurd rfl (h2 t)|const v=>exact absurd rfl (h1 v)|func f=>simp[dI,ho]at hq|global g=>simp[dI,ho]at hq
 simp only[dI,ho]at hq;rw[aq (by simp[hlate])]at h;unfold mc at h;have hx:ew ds st (st.take x).2:=by
  cases x with
  |tmp t=>
   have ht:t∈ds:=by simp only[ab]at hq;simpa using hq.1
   exact ew.put (d:=some t) (λi hi=>by cases hi;exact ht) _
  |const v=>exact ew.refl _ _
  |func f=>exact ew.refl _ _
  |global g=>exact ew.refl _ _
 split at h;split at h;exact hput _ h;cases h;rename_i v st1 _ htk;cases h;have:(st.take x).2=st1:=by rw[htk]
 rw[this]at hx;exact hx.trans (ew.put hd _);unfold sN at h;split at h;rename_i t _;split at h;exact hput _ h;cases t with|true=>exact hput _ h|false=>exact hput _ h
 cases h;rename_i ho;simp[dI,ho]at hq;rename_i ho;simp[dI,ho]at hq;rename_i T p ho;simp only[dI,ho]at hq;have htk:sY an o=false:=by unfold sY;cases hdd:o.dst with|none=>rfl|some d=>rw[hdd]at hq;simp only[aA]at hq;simp only[hq,dx]
 unfold iL at h;split at h;split at h;split at h;split at h;rename_i d hdd;rw[hdd]at hq;simp only at hq;have hf:an.mv.contains d=false:=by simpa using hq
 rw[hf]at h;simp only[aD,bp]at h;exact hput _ h;cases h;cases h;cases h;rw[aq (by simp[htk])]at h;split at h;split at h;exact hput _ h;cases h;unfold rM at h;split at h;split at h;split at h;split at h;obtain⟨y,_,h⟩:=xB h;exact hput _ h;cases h;cases h;cases h;cases h;cases h;rename_i ho;simp[dI,ho]at hq;split at h;exact hput _ h;exact hput _ h;cases h;unfold pT at h;split at h;split at h;exact vQ h λz hz=>hput _ hz;cases h;split at h;split at h;exact vQ h λz hz=>hput _ hz;cases h;cases h;split at h;split at h;cases h;exact yK h λz hz=>hput _ hz;cases h;split at h;exact yK h λz hz=>hput _ hz;cases h;exact vQ h λz hz=>hput _ hz;unfold NH at h;split at h;exact hput _ h;exact hput _ h;exact hput _ h;cases h;unfold pj at h;split at h;split at h;exact hput _ h;cases h;split at h;exact hput _ h;cases h;cases h;unfold gw at h;split at h;split at h;exact lM h λy hy=>hput _ hy;cases h;cases h;unfold qE at h;split at h;split at h;exact lM h λy hy=>hput _ hy;cases h;cases h;rename_i T parts ho;simp only[dI,ho]at hq;have he:parts=#[]:=by simpa using hq
 subst he;unfold qw at h;split at h;simp only[cO,List.map_nil]at h;split at h;exact hput _ h;cases h;cases h;rename_i ho;simp[dI,ho]at hq;rename_i ho;simp[dI,ho]at hq;rename_i ho;simp only[dI,ho,aA]at hq;unfold pH at h;rw[aq (by simp[hq])]at h;split at h;split at h;exact uU h λx y hxy=>lM hxy λz hz=>hput _ hz;cases h;split at h;exact uU h λx y hxy=>lM hxy λz hz=>hput _ hz;cases h;cases h;rename_i ho;simp[dI,ho]at hq;rename_i ho;simp[dI,ho]at hq;rename_i ho;simp[dI,ho]at hq;rename_i ho;simp[dI,ho]at hq;unfold yB at h;split at h;split at h;exact hput _ h;cases h;split at h;exact hput _ h;cases h;cases h;unfold Ad at h;split at h;exact hput _ h;cases h;unfold Ac at h;split at h;exact hput _ h;cases h;rename_i ho;simp[dI,ho]at hq;unfold sa at h;split at h;rename_i k _;rw[(hΓ k).2.1,(hΓ k).2.2,(hΓ k).1]at h;simp only[ak]at h;refine lM h λy hy=>?_;cases hsel:(Γ k).sel y with|true=>rw[hsel]at hy;cases hy;exact(ew.cW hd).trans (ew.put hd _)|false=>rw[hsel]at hy;cases hy;exact(ew.cW hd).trans (ew.put hd _)
 cases h;cases h
theorem E9 {ops:List Oper}{o:Oper}(ho:o∈ops){i:Nat}(hi:o.dst=some i):i∈tV ops:=List.mem_filterMap.2 ⟨o,ho,hi⟩
theorem yL {E:Env}{Γ:cG}(hΓ:∀f,(Γ f).io=false∧(Γ f).bx=false∧(Γ f).pr=false){an:An}{ops:List Oper}{o:Oper}{st':AS}(ho:o∈ops)(hq:dI an (tV ops) o=true)(h:dH E Γ an ops o st some=some st'):ew (tV ops) st st':=by
 have hd:∀i,o.dst=some i→i∈tV ops:=λi hi=>E9 ho hi;unfold dH at h;split at h;exact Bd hΓ hq hd h;rename_i j want hg;split at h;rename_i d hdd;have hdm:d∈tV ops:=by rw[cf]at hdd;cases ho':ops[j]? with|none=>rw[ho']at hdd;cases hdd|some o'=>rw[ho']at hdd;exact E9 (List.mem_of_getElem? ho') hdd
 have hp:∀t,ew (tV ops) st (st.put (some d) (.one (.bool t))):=λt=>ew.put (λi hi=>by cases hi;exact hdm) _;split at h;rename_i b hb;have main:∀t,(if(t==want)=true then bT E Γ an o (st.put (some d) (.one (.bool t))) some else some ((st.put (some d) (.one (.bool t))).put o.dst (.one .un)))=some st'→ew (tV ops) st st':=by intro t ht;split at ht;exact(hp t).trans (Bd hΓ hq hd ht);cases ht;exact(hp t).trans (ew.put hd _)
 cases b with|true=>exact main true h|false=>exact main false h
 cases h;exact ew.put hd _;cases h;cases h
theorem Fl {E:Env}{Γ:cG}(hΓ:∀f,(Γ f).io=false∧(Γ f).bx=false∧(Γ f).pr=false){an:An}{ops:List Oper}(hq:∀o∈ops,dI an (tV ops) o=true):∀(l:List Oper)(st st':AS),(∀o∈l,o∈ops)→CI E Γ an ops l st some=some st'→ew (tV ops) st st'
 |[],st,st',_,h=>by cases h;exact ew.refl _ _
 |o::l,st,st',hl,h=>by simp only[CI]at h;rw[jJ]at h;cases hg:dH E Γ an ops o st some with|none=>rw[hg]at h;cases h|some st1=>rw[hg]at h;exact(yL hΓ (hl o (by simp)) (hq o (hl o (by simp))) hg).trans (Fl hΓ hq l st1 st' (λo' ho'=>hl o' (by simp[ho'])) h)
theorem tU {ds:List Nat}:∀(l:List Nat)(st:AS),(∀i∈l,i∈ds)→ew ds st (st.qe l)
 |[],st,_=>ew.refl _ _
 |d::l,st,h=>by
  have hd:∀i,some d=some i→i∈ds:=λi hi=>by cases hi;exact h d (by simp)
  exact((ew.put hd _).trans (ew.cW hd)).trans (tU l _ (λi hi=>h i (by simp[hi])))
theorem AH:∀(l:List Nat)(st:AS)(i:Nat)(av:AV),(st.qe l).slots[i]?=some av→i∈l∨st.slots[i]?=some .bot→av=.bot
 |[],st,i,av,h,hi=>by rcases hi with hi|hi;cases hi;have:st.slots[i]?=some av:=h;rw[hi]at this;cases this;rfl
 |d::l,st,i,av,h,hi=>by
  refine AH l _ i av h ?_;by_cases hil:i∈l;exact .inl hil;refine .inr ?_;rw[lZ,dn,List.getElem?_set];have hlt:i<st.slots.length:=by
   have h1:=(tU (ds:=d::l) l ((st.put (some d) .bot).cW (some d)) (λi hi=>by simp[hi])).len;have h2:=(List.getElem?_eq_some_iff.1 h).1;have h3:(AS.qe ((st.put (some d) .bot).cW (some d)) l).slots.length=st.slots.length:=by rw[h1,lZ,dn,aG]
   have h4:i<(AS.qe ((st.put (some d) .bot).cW (some d)) l).slots.length:=h2;omega
  split;rename_i hdi;subst hdi;rw[ar hlt];rename_i hdi;rcases hi with hi|hi;simp only[bg]at hi;rcases hi with hi|hi;exact absurd hi.symm hdi;exact absurd hi hil;exact hi
theorem AI:∀(l:List Nat)(st:AS)(i:Nat),i∈l∨(nth st.iss i).getD true=true→(nth (st.qe l).iss i).getD true=true
 |[],st,i,hi=>by rcases hi with hi|hi;cases hi;exact hi
 |d::l,st,i,hi=>by refine AI l _ i ?_;by_cases hil:i∈l;exact .inl hil;refine .inr ?_;have he:(AS.cW (st.put (some d) .bot) (some d)).iss=dW st.iss d true:=rfl;rw[he,cS,cf,List.getElem?_set];split;split<;>rfl;rename_i hdi;rcases hi with hi|hi;simp only[bg]at hi;rcases hi with hi|hi;exact absurd hi.symm hdi;exact absurd hi hil;rw[cf]at hi;exact hi
theorem gO.weaken {st':AS}(h:gO C st' a w){ds:List Nat}(hn:ew ds st st'){s:Nat}{b:Bool}(hb:getBool st' s=some b):gO C ((st.qe ds).put (some s) (.one (.bool b))) a w:=by
 have hbs:st'.get s=.val false [.bool b]:=by unfold getBool at hb;split at hb;rename_i b' hg;cases hb;exact hg;cases hb
 have hkn:=h.known hbs;obtain⟨g,h⟩:=h;have hdn:=tU (ds:=ds) ds st (λ_ hi=>hi);have hboxes:((st.qe ds).put (some s) (.one (.bool b))).boxes=st'.boxes:=by rw[eV,hdn.boxes,hn.boxes]
 have hep:((st.qe ds).put (some s) (.one (.bool b))).ep=st'.ep:=by rw[vC,hdn.ep,hn.ep]
 have hlen:((st.qe ds).put (some s) (.one (.bool b))).slots.length=st'.slots.length:=by rw[dn,aG,hdn.len,hn.len]
 have hiss:∀t,fR st' t→fR ((st.qe ds).put (some s) (.one (.bool b))) t:=by intro t ht;rw[uO];rcases ht with ht|ht;exact .inl ht;refine .inr (AI ds st _ ?_);by_cases hi:t/3/4096∈ds;exact .inl hi;exact .inr (by rw[←hn.iss _ hi];exact ht)
 have hpres:∀s',dz st' s'→dz ((st.qe ds).put (some s) (.one (.bool b))) s':=λs' hs=>by unfold dz at hs⊢;rw[hboxes];exact hs
 have hle:(bA C g st' w).Le (bA C g ((st.qe ds).put (some s) (.one (.bool b))) w):=⟨rfl,λt ht=>⟨hiss t ht,rfl⟩,λ_ _ _ _ _ hv=>hv,by show st'.ep≤_;rw[←hep];exact aL _,λs' hs=>⟨hpres s' hs,rfl⟩,λ_ b o u ho hu=>⟨ho,hu⟩⟩
 refine⟨g,h.step (λ_=>True) hle h.defers (by rw[hlen];exact h.size) (by rw[hboxes,hlen];exact h.bsize) h.frame h.labs (λb x _ hx=>⟨hx,rfl,rfl⟩) ?_ ?_ ?_ (.inl ⟨trivial,by rw[vK,hdn.io,hn.io]⟩)⟩;intro i av hi;rw[dn,List.getElem?_set]at hi;split at hi;rename_i hsi;subst hsi;split at hi;cases hi;refine .inr ⟨[],gx ?_,by simp,by simp⟩;exact⟨hkn,rfl⟩;cases hi;by_cases hid:i∈ds;have:=AH ds st i av hi (.inl hid);subst this;exact .inr ⟨[],dp.bot _ _,by simp,by simp⟩;rw[hdn.slot i hid]at hi;exact .inl ⟨trivial,by rw[hn.slot i hid];exact hi,rfl⟩;intro s' cs hs;rw[hboxes]at hs;exact .inl ⟨trivial,hs,rfl⟩;intro k v av hk;simp at hk
theorem N1 (Γ:cG)(f:Nat):(Γ.calm f).io=false∧(Γ.calm f).bx=false∧(Γ.calm f).pr=false:=by unfold cG.calm;cases h:(Γ f).io with|true=>exact⟨rfl,rfl,rfl⟩|false=>cases h2:(Γ f).bx with|true=>exact⟨rfl,rfl,rfl⟩|false=>cases h3:(Γ f).pr with|true=>exact⟨rfl,rfl,rfl⟩|false=>exact⟨h,h2,h3⟩
theorem OX (Γ:cG)(f:Nat):(Γ.uh f).io=false∧((Γ.uh f).bx=true→(Γ.uh f).cur=true)∧(Γ.uh f).pr=false:=by unfold cG.uh;cases h:(Γ f).io with|true=>exact⟨rfl,λh=>(by cases h),rfl⟩|false=>cases h3:(Γ f).pr with|true=>exact⟨rfl,λh=>(by cases h),rfl⟩|false=>cases h2:(Γ f).bx with|false=>exact⟨h,λh=>(by simp[h2]at h),h3⟩|true=>cases h4:(Γ f).cur with|true=>exact⟨h,λ_=>h4,h3⟩|false=>exact⟨rfl,λh=>(by cases h),rfl⟩
theorem OY {Γ:cG}(hΓ:∀f,(Γ f).io=false∧(Γ f).bx=false∧(Γ f).pr=false)(f:Nat):(Γ.uh f).io=false∧(Γ.uh f).bx=false∧(Γ.uh f).pr=false:=by have h:=hΓ f;unfold cG.uh;rw[h.1,h.2.1,h.2.2];exact h
theorem Sound.uh {E:Env}{Γ:cG}(h:Sound P E Γ):Sound P E Γ.uh:=by refine⟨h.ty,h.eqs,h.fts,λf=>?_,h.mixed⟩;unfold cG.uh;cases (Γ f).io||(Γ f).pr||((Γ f).bx&& !(Γ f).cur)with|true=>intro xs y hy;cases hy|false=>exact h.fns f
theorem Sound.calm {E:Env}{Γ:cG}(h:Sound P E Γ):Sound P E Γ.calm:=by refine⟨h.ty,h.eqs,h.fts,λf=>?_,h.mixed⟩;unfold cG.calm;cases (Γ f).io with|true=>intro xs y hy;cases hy|false=>cases (Γ f).bx with|true=>intro xs y hy;cases hy|false=>cases (Γ f).pr with|true=>intro xs y hy;cases hy|false=>exact h.fns f
end Go.Dn
