import Derived.Test.YtjoicgadhgkphacGreatDnDen
import Derived.Test.YtjoicgadhgkphacGreatDnNat
/- What is kept at a loop's door; what a region whose ways meet again leaves. -/
namespace Go.Dn
open Go.RowKit
variable {P:Program} {C:Ctx} {st:AS} {a:Act} {w:World} {R:Type} {r:R}
theorem AD (keep:List Nat)(ep:Nat)(io:List AC):∀(l:List AV)(n i:Nat),(jP keep ep io n l)[i]?=(l[i]?).map λv=>if keep.contains (n+i) then v.mask keep ep io (n+i) else .bot
 |[],n,i=>by simp[jP]
 |v::l,n,0=>by simp[jP]
 |v::l,n,i+1=>by simp only[jP,List.getElem?_cons_succ];rw[AD keep ep io l (n+1) i,show n+1+i=n+(i+1) by omega]
theorem wD (keep:List Nat)(ep:Nat)(io:List AC):∀(l:List (Option (List AC)))(n i:Nat),(jO keep ep io n l)[i]?=(l[i]?).map λb=>if keep.contains (n+i) then b.map (C6 keep ep io (.box (n+i)) 0) else none
 |[],n,i=>by simp[jO]
 |v::l,n,0=>by simp[jO]
 |v::l,n,i+1=>by simp only[jO,List.getElem?_cons_succ];rw[wD keep ep io l (n+1) i,show n+1+i=n+(i+1) by omega]
theorem rH (keep:List Nat)(ep:Nat)(io:List AC):∀(l:List AV)(n:Nat),(jP keep ep io n l).length=l.length
 |[],_=>rfl
 |_::l,n=>by simp[jP,rH keep ep io l]
theorem wY (keep:List Nat)(ep:Nat)(io:List AC):∀(l:List (Option (List AC)))(n:Nat),(jO keep ep io n l).length=l.length
 |[],_=>rfl
 |_::l,n=>by simp[jO,wY keep ep io l]
def OQ:Value→AV→List Value
 | .agg vs,.val true _=>vs.toList
 |v,_=>[v]
theorem OT {g:Bool}{v:Value}{vs:List Value}{cs:List AC}(h:Cut g v vs):OQ v (.val g cs)=vs:=by cases g with|true=>simp only[Cut,bk]at h;subst h;simp[OQ]|false=>simp only[Cut]at h;subst h;cases v<;>rfl
def xu (ioV:List Value)(st:AS)(a:Act)(w:World)(β:Nat→Nat)(t:Nat):Value:=
 if t%3=0∧t/3/4096=1000003 then(ioV[t/3%4096]?).getD undef
 else if t%3=0 then((OQ (a.tmps.getD (t/3/4096) undef) (st.get (t/3/4096)))[t/3%4096]?).getD undef
 else match w.heap[β (t/3/4096)]? with
  |some (.cells arr _ _)=>(arr.toList[t/3%4096]?).getD undef
  |_=>undef
def OD (c c':RC)(io:List AC):Prop:=∀j n (e:CT)(ys:List e.D),AC.U0 io j n e=some ys→∃v0 fp0,dg c.hw c.w (.sl e) [v0] ys fp0∧v0=c.hdr n∧∀q,(gC.io j).zA=some q→c'.iss q∧v0=c'.hdr q
theorem SQ {c c':RC}{io:List AC}(hio:OD c c' io){keep:List Nat}{rt:gC}{v:Value}{x:AC}{fp:List Nat}(h:eK c v x fp)(hhw:c'.hw=c.hw)(hw:c'.w=c.w)(hA:c'.A=c.A)(hep:c'.ep=0)(hβ:c'.β=c.β)(hpres:∀s,keep.contains s=true→c.pres s→c'.pres s)(hst:∀t,rt.zA=some t→c'.iss t∧v=c'.hdr t):eK c' v (x.mask keep c.ep io rt) fp:=by
 have hS:c'.S=c.S:=by funext b o;simp[RC.S,hhw,hA]
 cases x with
 |int k n=>exact h
 |bool b=>exact h
 |str s=>exact h
 |nilsl=>exact h
 |fn f=>exact h
 |un=>exact h
 |bot=>exact h
 |ptr s off=>simp only[AC.mask];split;rename_i hk;exact⟨by rw[hβ];exact h.1,hpres s hk h.2.1,h.2.2⟩;exact h.2.2
 |elt fl e y i off=>cases fl with|own t=>exact h.elim|nest _ _ _ _ _ _=>exact h.elim|part _ _ _ _=>exact h.elim|holed _ _ _=>exact h.elim|arg=>exact h.1|loc ep pv=>exact h.1
 |sl fl e xs=>
  cases fl with
  |own t=>exact⟨dg.mono h.1 (λb _=>⟨by rw[hw],by rw[hhw]⟩),hst⟩
  |nest _ _ _ _ _ _=>exact h.1
  |part _ _ _ _=>exact h.1
  |holed _ _ _=>obtain⟨_,⟨k,hk,h3⟩,_⟩:=h;exact⟨λq hq=>(by cases hq),⟨k,hk,h3.mono (λb hb=>⟨by rw[hw],by rw[hhw]⟩)⟩,by simp⟩
  |arg=>exact⟨h.1,by rw[hA,hw];exact h.2⟩
  |loc ep pv=>
   obtain⟨h1,h2,h3,h4,h5⟩:=h;have plain:eK c' v (if(ep==c.ep)=true then AC.sl (.loc 0 none) e xs else .bot) fp:=by split;rename_i he;refine⟨h1,by rw[hep];exact aV _,h3,λ_=>?_,by simp⟩;rw[hS,hw];exact h4 (by simpa using he);exact h1
   simp only[AC.mask];split;rename_i j n;split;rename_i ys hnow;obtain⟨v0,fp0,hown,hv0,hq⟩:=hio j n e ys hnow;obtain⟨_,k2⟩:=h5 _ _ rfl;have hv:v0=v:=hv0.trans k2.symm;subst hv;refine⟨h1,by rw[hep];exact aV _,Cg hown,λ_=>?_,λr t hp=>?_⟩;rw[hS,hw];exact dg.rep (λb o ho=> .inr ho) hown;cases hst':(gC.io j).zA with|none=>rw[hst']at hp;cases hp|some q=>rw[hst']at hp;simp at hp;obtain⟨_,rfl⟩:=hp;exact⟨(hq q hst').1,(hq q hst').2⟩
   exact plain;exact plain
theorem Bi {c c':RC}{io:List AC}(hio:OD c c' io){keep:List Nat}{f:Nat→gC}(hhw:c'.hw=c.hw)(hw:c'.w=c.w)(hA:c'.A=c.A)(hep:c'.ep=0)(hβ:c'.β=c.β)
 (hpres:∀s,keep.contains s=true→c.pres s→c'.pres s):∀{vs:List Value}{xs:List AC}{fp:List Nat}(j:Nat),ba c vs xs fp→
  (∀i v,vs[i]?=some v→∀t,(f (j+i)).zA=some t→c'.iss t∧v=c'.hdr t)→ba c' vs (C6 keep c.ep io f j xs) fp
 |[],[],_,_,h,_=>h
 |v::_,_::_,_,j,h,hm=>by obtain⟨f1,f2,rfl,h1,h2⟩:=h;exact⟨f1,f2,rfl,SQ hio h1 hhw hw hA hep hβ hpres (λt ht=>hm 0 v rfl t ht),Bi hio hhw hw hA hep hβ hpres (j+1) h2 (λi u hu t ht=>hm (i+1) u (by simpa using hu) t (by rwa[show j+(i+1)=j+1+i by omega]))⟩
 |[],_::_,_,_,h,_=>h.elim
 |_::_,[],_,_,h,_=>h.elim
theorem Vk {c:RC}{v:Value}{x:AC}{fp:List Nat}(h:eK c v x fp)(hno:∀(tag:Option Nat)(e:CT)(xs:List e.D),x=.sl (.own tag) e xs→False)(hno2:∀(tag:Option Nat)(i:Int)(ep:Option Nat)(e:CT)(xs:List e.D),x=.sl (.holed tag i ep) e xs→False):fp=[]:=by
 cases x with
 |int k n=>exact h.2
 |bool b=>exact h.2
 |str s=>exact h.2
 |nilsl=>exact h.2
 |fn f=>exact h.2
 |un=>exact h.2
 |bot=>exact h
 |ptr s off=>exact h.2.2
 |elt fl e y i off=>cases fl with|own t=>exact h.elim|nest _ _ _ _ _ _=>exact h.elim|part _ _ _ _=>exact h.elim|holed _ _ _=>exact h.elim|arg=>exact h.1|loc ep pv=>exact h.1
 |sl fl e xs=>cases fl with|own t=>exact(hno _ _ _ rfl).elim|nest _ _ _ _ _ _=>exact h.1|part _ _ _ _=>exact h.1|holed _ _ _=>exact(hno2 _ _ _ _ _ rfl).elim|arg=>exact h.1|loc ep pv=>exact h.1
theorem ka.mask (h:ka C st a w)(keep:List Nat):ka C (st.mask keep) a w:=by
 obtain⟨g,h⟩:=h;let g':Gh:={g with hdr:=xu C.ioV st a w g.β}
 have hpres:∀s,keep.contains s=true→eH st s→eH (st.mask keep) s:=by rintro s hk ⟨cs,hs⟩;refine⟨C6 keep st.ep st.io (.box s) 0 cs,?_⟩;show(jO keep st.ep st.io 0 st.boxes)[s]?=_;rw[wD,hs];simp only[cp,bU,ay hk]
 obtain⟨fpi,hri,hni,hli⟩:=h.io;have hioq:∀j v,C.ioV[j]?=some v→∀q,(gC.io j).zA=some q→jk (st.mask keep) q∧v=xu C.ioV st a w g.β q:=by
  intro j v hv q hq;simp only[gC.zA]at hq;cases hb:Nat.ble 4096 j with
  |true=>rw[hb]at hq;cases hq
  |false=>
   rw[hb]at hq;simp only[af,aS,uc]at hq;have hj:j<4096:=by rcases bw j 4096 with hlt|hge;exact hlt;rw[eO hge]at hb;cases hb
   have h0:q%3=0:=by omega
   have h1:q/3/4096=1000003:=by omega
   have h2:q/3%4096=j:=by omega
   refine⟨.inl (by omega),?_⟩;rw[xu,ay ⟨h0,h1⟩,h2,hv];rfl
 have hseen:OD (bS C g st w) (bS C g' (st.mask keep) w) st.io:=by
  intro j n e ys hnow;unfold AC.U0 at hnow;split at hnow;rename_i t' e' ys' hj;split at hnow;rename_i he;subst he;cases ht:(t'==n)with
  |false=>rw[ht]at hnow;cases hnow
  |true=>
   rw[ht]at hnow;have:t'=n:=by simpa using ht
   subst this;cases hnow;rw[cR]at hj;obtain⟨v,f,hv,hr,_⟩:=hri.get j _ hj;exact⟨v,f,hr.1,(hr.2 t' rfl).2,λq hq=>hioq j v hv q hq⟩
  cases hnow;cases hnow
 have hmio:∀(j:Nat){vs:List Value}{xs:List AC}{fp:List Nat},ba (bS C g st w) vs xs fp→(∀i v,vs[i]?=some v→C.ioV[j+i]?=some v)→ba (bS C g' (st.mask keep) w) vs (PF keep j xs) fp:=by
  intro j vs
  induction vs generalizing j with
  |nil=>intro xs fp hr _;cases xs with
   |nil=>exact hr
   |cons _ _=>exact hr.elim
  |cons v vs ih=>
   intro xs fp hr hv
   cases xs with
   |nil=>exact hr.elim
   |cons x xs=>
    obtain⟨f1,f2,rfl,r1,r2⟩:=hr
    refine⟨f1,f2,rfl,?_,ih (j+1) r2 (λi u hu=>by rw[show j+1+i=j+(i+1) by omega];exact hv (i+1) u (by simpa using hu))⟩
    have hv0:=hv 0 v rfl
    rw[cD]at hv0
    split
    ·rename_i tg e ys
     exact⟨r1.1,λq hq=>hioq j v hv0 q hq⟩
    ·rename_i tag i ep e ys
     obtain⟨_,⟨k,hk,h3⟩,_⟩:=r1
     exact⟨λq hq=>(by cases hq),⟨k,hk,h3⟩,by simp⟩
    ·rename_i s off
     split
     ·rename_i hk
      exact⟨r1.1,hpres s hk r1.2.1,r1.2.2⟩
     ·exact r1.2.2
    ·rename_i hno hno2 _
     cases hfl:x.eA with
     |true=>
      obtain⟨rfl,k⟩:=pn (c':=bS C g' (st.mask keep) w) r1 hfl
      exact k
     |false=>exact Vk r1 hno hno2
 refine⟨g',h.defers,?_,?_,λi av hi=>?_,λs cs hs=>?_,λk v av hk=>by simp at hk,h.labs,h.frame,⟨fpi,hmio 0 hri (λi v hv=>by rw[bU];exact hv),hni,hli⟩⟩;show _=(jP keep st.ep st.io 0 st.slots).length;rw[rH];exact h.size;show(jO keep st.ep st.io 0 st.boxes).length=(jP keep st.ep st.io 0 st.slots).length;rw[rH,wY];exact h.bsize;have hi':(jP keep st.ep st.io 0 st.slots)[i]?=some av:=hi;rw[AD,bU]at hi';cases hv:st.slots[i]? with
 |none=>rw[hv]at hi';cases hi'
 |some x=>
  rw[hv]at hi';simp only[cp,aS]at hi';split at hi'
  ·subst hi'
   cases hx:x with
   |tup ts=>exact⟨[],ek.bot _ _,by simp,by simp⟩
   |val gg cs=>
    rw[hx]at hv
    obtain⟨fp,⟨vs,hcut,hr⟩,hn,hl⟩:=h.slots i _ hv
    refine⟨fp,⟨vs,hcut,Bi (io:=st.io) hseen (c:=bS C g st w) (c':=bS C g' (st.mask keep) w) rfl rfl rfl rfl rfl hpres 0 hr ?_⟩,hn,hl⟩
    intro j u hu t ht
    simp only[bU,gC.zA]at ht
    cases hb:Nat.ble 4096 j with
    |true=>rw[hb]at ht;cases ht
    |false=>
     rw[hb]at ht
     simp only[af]at ht
     cases hbs:Nat.ble 1000000 i with
     |true=>rw[hbs]at ht;cases ht
     |false=>
     rw[hbs]at ht
     simp only[af,aS]at ht
     have hi6:i<1000000:=by rcases bw i 1000000 with hlt|hge;exact hlt;rw[eO hge]at hbs;cases hbs
     have hj:j<4096:=by rcases bw j 4096 with hlt|hge;exact hlt;rw[eO hge]at hb;cases hb
     have h0:t%3=0:=by omega
     have h1:t/3/4096=i:=by omega
     have h2:t/3%4096=j:=by omega
     refine⟨.inl (by omega),?_⟩
     show u=xu C.ioV st a w g.β t
     rw[xu,ao (by omega),ay h0,h1,h2,get_eq hv,OT hcut,hu];rfl
  subst hi';exact⟨[],ek.bot _ _,by simp,by simp⟩
 have hs':(jO keep st.ep st.io 0 st.boxes)[s]?=some (some cs):=hs;rw[wD,bU]at hs';cases hv:st.boxes[s]? with
 |none=>rw[hv]at hs';cases hs'
 |some x=>
  rw[hv]at hs';simp only[cp,aS]at hs';split at hs';cases hx:x with
  |none=>rw[hx]at hs';cases hs'
  |some xs=>
   rw[hx]at hs' hv;simp only[cp,aS]at hs';subst hs';obtain⟨arr,T,fr,fp,hb,hth,hr,hn,hni,hl,hl0,hw0⟩:=h.boxes s xs hv;refine⟨arr,T,fr,fp,hb,hth,Bi (io:=st.io) hseen (c:=bS C g st w) (c':=bS C g' (st.mask keep) w) rfl rfl rfl rfl rfl hpres 0 hr ?_,hn,hni,hl,hl0,hw0⟩;intro j u hu t ht;simp only[bU,gC.zA]at ht;cases hbb:Nat.ble 4096 j with
   |true=>rw[hbb]at ht;cases ht
   |false=>
    rw[hbb]at ht;simp only[af,aS]at ht;have hj:j<4096:=by rcases bw j 4096 with hlt|hge;exact hlt;rw[eO hge]at hbb;cases hbb
    have h0:¬t%3=0:=by omega
    have h1:t/3/4096=s:=by omega
    have h2:t/3%4096=j:=by omega
    refine⟨.inl (by omega),?_⟩;show u=xu C.ioV st a w g.β t;rw[xu,ao (by omega),ao h0,h1,h2,hb];simp only;rw[hu];rfl
  cases hs'
structure fN (ds:List Nat) (st st':AS):Prop where
 len:st'.slots.length=st.slots.length
 slot:∀i,i∉ds→st'.slots[i]?=st.slots[i]?
 boxes:st'.boxes=st.boxes
 ep:st'.ep=st.ep
 iss:∀i,i∉ds→nth st'.iss i=nth st.iss i
 ilen:st'.iss.length=st.iss.length
 io:st'.io=st.io
theorem fN.refl (ds:List Nat)(st:AS):fN ds st st:=⟨rfl,λ_ _=>rfl,rfl,rfl,λ_ _=>rfl,rfl,rfl⟩
theorem fN.trans {ds:List Nat}{st st1 st2:AS}(h:fN ds st st1)(k:fN ds st1 st2):fN ds st st2:=⟨k.len.trans h.len,λi hi=>(k.slot i hi).trans (h.slot i hi),k.boxes.trans h.boxes,k.ep.trans h.ep,λi hi=>(k.iss i hi).trans (h.iss i hi),k.ilen.trans h.ilen,k.io.trans h.io⟩
theorem fN.put {ds:List Nat}{st:AS}{d:Option Nat}(hd:∀i,d=some i→i∈ds)(v:AV):fN ds st (st.put d v):=by cases d with|none=>exact fN.refl _ _|some d=>refine⟨by rw[dU,aY],λi hi=>?_,gk,CU,λi _=>by rw[KK],by rw[KK],C1⟩;rw[dU,List.getElem?_set_ne];rintro rfl;exact hi (hd _ rfl)
theorem fN.ej {ds:List Nat}{st:AS}{d:Option Nat}(hd:∀i,d=some i→i∈ds):fN ds st (st.ej d):=by cases d with|none=>exact fN.refl _ _|some d=>refine⟨rfl,λi _=>rfl,rfl,rfl,λi hi=>?_,?_,rfl⟩;simp only[AS.ej,cR,dD];rw[List.getElem?_set_ne];rintro rfl;exact hi (hd _ rfl);simp only[AS.ej,dD,aY]
theorem pe {α:Type}{ds:List Nat}{o:Option α}{k:α→Option AS}{st':AS}(h:aa o k=some st')(hk:∀x,k x=some st'→fN ds st st'):fN ds st st':=by cases o with|none=>cases h|some x=>exact hk x h
theorem S1 {ds:List Nat}{n:Nat}{k:Option AS}{st':AS}(h:room n k=some st')(hk:k=some st'→fN ds st st'):fN ds st st':=by unfold room at h;split at h;exact hk h;cases h
theorem PO {ds:List Nat}{op:BinOp}{k:IntKind}{x y:Int}{K:AC→Option AS}{st':AS}(h:B7 op k x y K=some st')(hk:∀z,K z=some st'→fN ds st st'):fN ds st st':=by
 unfold B7 at h
 split at h<;>first
  |exact hk _ h
  |(split at h
    ·cases h
    ·exact hk _ h)
  |cases h
theorem PQ {ds:List Nat}{op:BinOp}{x y:List UInt8}{K:AC→Option AS}{st':AS}(h:DR op x y K=some st')(hk:∀z,K z=some st'→fN ds st st'):fN ds st st':=by
 unfold DR at h
 split at h<;>first
  |exact S1 h (hk _)
  |exact hk _ h
  |cases h
theorem Db {ds:List Nat}{op:BinOp}{x y:AV}{K:AC→Option AS}{st':AS}(h:Al op x y K=some st')(hk:∀z,K z=some st'→fN ds st st'):fN ds st st':=by unfold Al at h;split at h;split at h;split at h;cases h;exact hk _ h;split at h;cases h;exact hk _ h;split at h;exact PO h hk;cases h;exact PQ h hk;split at h;exact hk _ h;exact hk _ h;cases h;split at h;exact pe h λb hb=>hk _ hb;exact pe h λb hb=>hk _ hb;cases h;cases h
theorem Ce {ds:List Nat}{lo hi:Option Operand}{n:Nat}{K:Int→Int→Option AS}{st0 st':AS}(h:jl st0 lo hi n K=some st')(hk:∀x y,K x y=some st'→fN ds st st'):fN ds st st':=by
 unfold jl at h
 split at h<;>first
  |exact hk _ _ h
  |cases h
theorem Gz {ds:List Nat}{op:BinOp}{b:Bool}{K:AC→Option AS}{st':AS}(h:yo op b K=some st')(hk:∀c,K c=some st'→fN ds st st'):fN ds st st':=by unfold yo at h;split at h;exact hk _ h;exact hk _ h;cases h
theorem ID {E:Env}{Γ:bH}(hΓ:∀f,(Γ f).io=false∧(Γ f).bx=false){an:An}{ds:List Nat}{o:Oper}{st':AS}(hq:eG an ds o=true)(hd:∀i,o.dst=some i→i∈ds)(h:cf E Γ an o st some=some st'):fN ds st st':=by
 have hput:∀v,some (st.put o.dst v)=some st'→fN ds st st':=λv hv=>by cases hv;exact fN.put hd v
 unfold cf at h;split at h;rename_i x ho;simp only[eG,ho]at hq;unfold wZ at h;cases hdd:o.dst with
 |none=>rw[hdd]at h;cases h
 |some d=>
  rw[hdd]at h hq;simp only at h hq;have hf:an.mv.contains d=false:=by simpa using hq
  rw[hf]at h;simp only[aP,bB]at h;cases h;exact fN.put (λi hi=>hd i (by rw[hdd];exact hi)) _
 rename_i x ho;have hlate:u0 an o=false∨∃y,x=y∧(∀v,y≠ .const v)∧(∀t,y≠ .tmp t):=by cases x with|tmp t=>left;simp only[eG,ho,aj,aR]at hq;exact hq.2|const v=>left;simpa only[eG,ho,aR]using hq|func f=>simp[eG,ho]at hq|global g=>simp[eG,ho]at hq
 have hlate:u0 an o=false:=by rcases hlate with h1|⟨y,rfl,h1,h2⟩;exact h1;cases x with|tmp t=>exact absurd rfl (h2 t)|const v=>exact absurd rfl (h1 v)|func f=>simp[eG,ho]at hq|global g=>simp[eG,ho]at hq
 simp only[eG,ho]at hq;rw[ao (by simp[hlate])]at h;unfold pJ at h;have hx:fN ds st (st.take x).2:=by
  cases x with
  |tmp t=>
   have ht:t∈ds:=by simp only[aj]at hq;simpa using hq.1
   exact fN.put (d:=some t) (λi hi=>by cases hi;exact ht) _
  |const v=>exact fN.refl _ _
  |func f=>exact fN.refl _ _
  |global g=>exact fN.refl _ _
 split at h;split at h;exact hput _ h;cases h;rename_i v st1 _ htk;cases h;have:(st.take x).2=st1:=by rw[htk]
 rw[this]at hx;exact hx.trans (fN.put hd _);unfold zn at h;split at h;rename_i t _;split at h;exact hput _ h;cases t with|true=>exact hput _ h|false=>exact hput _ h
 cases h;rename_i ho;simp[eG,ho]at hq;rename_i ho;simp[eG,ho]at hq;rename_i T p ho;simp only[eG,ho]at hq;have htk:CE an o=false:=by unfold CE;cases hdd:o.dst with|none=>rfl|some d=>rw[hdd]at hq;simp only[aR]at hq;simp only[hq,gj]
 unfold qL at h;split at h;split at h;split at h;split at h;rename_i d hdd;rw[hdd]at hq;simp only at hq;have hf:an.mv.contains d=false:=by simpa using hq
 rw[hf]at h;simp only[aP,bB]at h;exact hput _ h;cases h;cases h;cases h;rw[ao (by simp[htk])]at h;split at h;split at h;exact hput _ h;cases h;unfold ye at h;split at h;split at h;split at h;split at h;obtain⟨y,_,h⟩:=ED h;exact hput _ h;cases h;cases h;cases h;cases h;cases h;rename_i ho;simp[eG,ho]at hq;split at h;exact hput _ h;exact hput _ h;cases h;unfold vI at h;split at h;split at h;exact Db h λz hz=>hput _ hz;cases h;split at h;split at h;exact Db h λz hz=>hput _ hz;cases h;cases h;split at h;split at h;cases h;exact Gz h λz hz=>hput _ hz;cases h;split at h;exact Gz h λz hz=>hput _ hz;cases h;exact Db h λz hz=>hput _ hz;unfold XV at h;split at h;exact hput _ h;exact hput _ h;exact hput _ h;cases h;unfold uQ at h;split at h;split at h;exact hput _ h;cases h;split at h;exact hput _ h;cases h;cases h;unfold ja at h;split at h;split at h;exact pe h λy hy=>hput _ hy;cases h;cases h;unfold wA at h;split at h;split at h;exact pe h λy hy=>hput _ hy;cases h;cases h;rename_i T parts ho;simp only[eG,ho]at hq;have he:parts=#[]:=by simpa using hq
 subst he;unfold wu at h;split at h;simp only[dm,List.map_nil]at h;split at h;exact hput _ h;cases h;cases h;rename_i ho;simp[eG,ho]at hq;rename_i ho;simp[eG,ho]at hq;rename_i ho;simp only[eG,ho,aR]at hq;unfold vy at h;rw[ao (by simp[hq])]at h;split at h;split at h;exact Ce h λx y hxy=>pe hxy λz hz=>hput _ hz;cases h;split at h;exact Ce h λx y hxy=>pe hxy λz hz=>hput _ hz;cases h;cases h;rename_i ho;simp[eG,ho]at hq;rename_i ho;simp[eG,ho]at hq;rename_i ho;simp[eG,ho]at hq;rename_i ho;simp[eG,ho]at hq;unfold Gu at h;split at h;split at h;exact hput _ h;cases h;split at h;exact hput _ h;cases h;cases h;unfold HE at h;split at h;exact hput _ h;cases h;unfold HD at h;split at h;exact hput _ h;cases h;rename_i ho;simp[eG,ho]at hq;unfold yN at h;split at h;rename_i k _;rw[(hΓ k).2,(hΓ k).1]at h;simp only[af]at h;refine pe h λy hy=>?_;cases hsel:(Γ k).sel y with|true=>rw[hsel]at hy;cases hy;exact(fN.ej hd).trans (fN.put hd _)|false=>rw[hsel]at hy;cases hy;exact(fN.ej hd).trans (fN.put hd _)
 cases h;cases h
theorem Nc {ops:List Oper}{o:Oper}(ho:o∈ops){i:Nat}(hi:o.dst=some i):i∈AX ops:=List.mem_filterMap.2 ⟨o,ho,hi⟩
theorem GA {E:Env}{Γ:bH}(hΓ:∀f,(Γ f).io=false∧(Γ f).bx=false){an:An}{ops:List Oper}{o:Oper}{st':AS}(ho:o∈ops)(hq:eG an (AX ops) o=true)(h:eZ E Γ an ops o st some=some st'):fN (AX ops) st st':=by
 have hd:∀i,o.dst=some i→i∈AX ops:=λi hi=>Nc ho hi;unfold eZ at h;split at h;exact ID hΓ hq hd h;rename_i j want hg;split at h;rename_i d hdd;have hdm:d∈AX ops:=by rw[cR]at hdd;cases ho':ops[j]? with|none=>rw[ho']at hdd;cases hdd|some o'=>rw[ho']at hdd;exact Nc (List.mem_of_getElem? ho') hdd
 have hp:∀t,fN (AX ops) st (st.put (some d) (.one (.bool t))):=λt=>fN.put (λi hi=>by cases hi;exact hdm) _;split at h;rename_i b hb;have main:∀t,(if(t==want)=true then cf E Γ an o (st.put (some d) (.one (.bool t))) some else some ((st.put (some d) (.one (.bool t))).put o.dst (.one .un)))=some st'→fN (AX ops) st st':=by intro t ht;split at ht;exact(hp t).trans (ID hΓ hq hd ht);cases ht;exact(hp t).trans (fN.put hd _)
 cases b with|true=>exact main true h|false=>exact main false h
 cases h;exact fN.put hd _;cases h;cases h
theorem Nq {E:Env}{Γ:bH}(hΓ:∀f,(Γ f).io=false∧(Γ f).bx=false){an:An}{ops:List Oper}(hq:∀o∈ops,eG an (AX ops) o=true):∀(l:List Oper)(st st':AS),(∀o∈l,o∈ops)→KT E Γ an ops l st some=some st'→fN (AX ops) st st'
 |[],st,st',_,h=>by cases h;exact fN.refl _ _
 |o::l,st,st',hl,h=>by simp only[KT]at h;rw[lU]at h;cases hg:eZ E Γ an ops o st some with|none=>rw[hg]at h;cases h|some st1=>rw[hg]at h;exact(GA hΓ (hl o (by simp)) (hq o (hl o (by simp))) hg).trans (Nq hΓ hq l st1 st' (λo' ho'=>hl o' (by simp[ho'])) h)
theorem AW {ds:List Nat}:∀(l:List Nat)(st:AS),(∀i∈l,i∈ds)→fN ds st (st.vK l)
 |[],st,_=>fN.refl _ _
 |d::l,st,h=>by
  have hd:∀i,some d=some i→i∈ds:=λi hi=>by cases hi;exact h d (by simp)
  exact((fN.put hd _).trans (fN.ej hd)).trans (AW l _ (λi hi=>h i (by simp[hi])))
theorem H6:∀(l:List Nat)(st:AS)(i:Nat)(av:AV),(st.vK l).slots[i]?=some av→i∈l∨st.slots[i]?=some .bot→av=.bot
 |[],st,i,av,h,hi=>by rcases hi with hi|hi;cases hi;have:st.slots[i]?=some av:=h;rw[hi]at this;cases this;rfl
 |d::l,st,i,av,h,hi=>by
  refine H6 l _ i av h ?_;by_cases hil:i∈l;exact .inl hil;refine .inr ?_;rw[tj,dU,List.getElem?_set];have hlt:i<st.slots.length:=by
   have h1:=(AW (ds:=d::l) l ((st.put (some d) .bot).ej (some d)) (λi hi=>by simp[hi])).len;have h2:=(List.getElem?_eq_some_iff.1 h).1;have h3:(AS.vK ((st.put (some d) .bot).ej (some d)) l).slots.length=st.slots.length:=by rw[h1,tj,dU,aY]
   have h4:i<(AS.vK ((st.put (some d) .bot).ej (some d)) l).slots.length:=h2;omega
  split;rename_i hdi;subst hdi;rw[ay hlt];rename_i hdi;rcases hi with hi|hi;simp only[bE]at hi;rcases hi with hi|hi;exact absurd hi.symm hdi;exact absurd hi hil;exact hi
theorem H7:∀(l:List Nat)(st:AS)(i:Nat),i∈l∨(nth st.iss i).getD true=true→(nth (st.vK l).iss i).getD true=true
 |[],st,i,hi=>by rcases hi with hi|hi;cases hi;exact hi
 |d::l,st,i,hi=>by refine H7 l _ i ?_;by_cases hil:i∈l;exact .inl hil;refine .inr ?_;have he:(AS.ej (st.put (some d) .bot) (some d)).iss=fD st.iss d true:=rfl;rw[he,dD,cR,List.getElem?_set];split;split<;>rfl;rename_i hdi;rcases hi with hi|hi;simp only[bE]at hi;rcases hi with hi|hi;exact absurd hi.symm hdi;exact absurd hi hil;rw[cR]at hi;exact hi
theorem ka.weaken {st':AS}(h:ka C st' a w){ds:List Nat}(hn:fN ds st st'){s:Nat}{b:Bool}(hb:getBool st' s=some b):ka C ((st.vK ds).put (some s) (.one (.bool b))) a w:=by
 have hbs:st'.get s=.val false [.bool b]:=by unfold getBool at hb;split at hb;rename_i b' hg;cases hb;exact hg;cases hb
 have hkn:=h.known hbs;obtain⟨g,h⟩:=h;have hdn:=AW (ds:=ds) ds st (λ_ hi=>hi);have hboxes:((st.vK ds).put (some s) (.one (.bool b))).boxes=st'.boxes:=by rw[gk,hdn.boxes,hn.boxes]
 have hep:((st.vK ds).put (some s) (.one (.bool b))).ep=st'.ep:=by rw[CU,hdn.ep,hn.ep]
 have hlen:((st.vK ds).put (some s) (.one (.bool b))).slots.length=st'.slots.length:=by rw[dU,aY,hdn.len,hn.len]
 have hiss:∀t,jk st' t→jk ((st.vK ds).put (some s) (.one (.bool b))) t:=by intro t ht;rw[Ca];rcases ht with ht|ht;exact .inl ht;refine .inr (H7 ds st _ ?_);by_cases hi:t/3/4096∈ds;exact .inl hi;exact .inr (by rw[←hn.iss _ hi];exact ht)
 have hpres:∀s',eH st' s'→eH ((st.vK ds).put (some s) (.one (.bool b))) s':=λs' hs=>by unfold eH at hs⊢;rw[hboxes];exact hs
 have hle:(bS C g st' w).Le (bS C g ((st.vK ds).put (some s) (.one (.bool b))) w):=⟨rfl,λt ht=>⟨hiss t ht,rfl⟩,λ_ _ _ _ hv=>hv,by show st'.ep≤_;rw[←hep];exact aV _,λs' hs=>⟨hpres s' hs,rfl⟩,λ_ b o u ho hu=>⟨ho,hu⟩⟩
 refine⟨g,h.step (λ_=>True) hle h.defers (by rw[hlen];exact h.size) (by rw[hboxes,hlen];exact h.bsize) h.frame h.labs (λb x _ hx=>⟨hx,rfl,rfl⟩) ?_ ?_ ?_ (.inl ⟨trivial,by rw[C1,hdn.io,hn.io]⟩)⟩;intro i av hi;rw[dU,List.getElem?_set]at hi;split at hi;rename_i hsi;subst hsi;split at hi;cases hi;refine .inr ⟨[],jR ?_,by simp,by simp⟩;exact⟨hkn,rfl⟩;cases hi;by_cases hid:i∈ds;have:=H6 ds st i av hi (.inl hid);subst this;exact .inr ⟨[],ek.bot _ _,by simp,by simp⟩;rw[hdn.slot i hid]at hi;exact .inl ⟨trivial,by rw[hn.slot i hid];exact hi,rfl⟩;intro s' cs hs;rw[hboxes]at hs;exact .inl ⟨trivial,hs,rfl⟩;intro k v av hk;simp at hk
theorem Jt (Γ:bH)(f:Nat):(Γ.calm f).io=false∧(Γ.calm f).bx=false:=by unfold bH.calm;cases h:(Γ f).io with|true=>exact⟨rfl,rfl⟩|false=>cases h2:(Γ f).bx with|true=>exact⟨rfl,rfl⟩|false=>exact⟨h,h2⟩
theorem Sound.calm {E:Env}{Γ:bH}(h:Sound P E Γ):Sound P E Γ.calm:=by refine⟨h.ty,h.eqs,h.fts,λf=>?_,h.mixed⟩;unfold bH.calm;cases (Γ f).io with|true=>intro xs y hy;cases hy|false=>cases (Γ f).bx with|true=>intro xs y hy;cases hy|false=>exact h.fns f
end Go.Dn
