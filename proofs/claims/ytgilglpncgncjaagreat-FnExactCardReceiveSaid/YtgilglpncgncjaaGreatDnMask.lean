import Derived.Test.YtgilglpncgncjaaGreatDnDen
import Derived.Test.YtgilglpncgncjaaGreatDnNat
/- What is kept at a loop's door; what a region whose ways meet again leaves. -/
namespace Go.Dn
open Go.RowKit
variable {P:Program} {C:Ctx} {st:AS} {a:Act} {w:World} {R:Type} {r:R}
theorem yy (keep:List Nat)(ep:Nat)(io:List AC):∀(l:List AV)(n i:Nat),(gT keep ep io n l)[i]?=(l[i]?).map fun v=>if keep.contains (n+i) then v.mask keep ep io (n+i) else .bot
 |[],n,i=>by simp [gT]
 |v::l,n,0=>by simp [gT]
 |v::l,n,i+1=>by
  simp only [gT,List.getElem?_cons_succ]
  rw [yy keep ep io l (n+1) i,show n+1+i=n+(i+1) by omega]
theorem uC (keep:List Nat)(ep:Nat)(io:List AC):∀(l:List (Option (List AC)))(n i:Nat),(gS keep ep io n l)[i]?=(l[i]?).map fun b=>if keep.contains (n+i) then b.map (Bt keep ep io (.box (n+i)) 0) else none
 |[],n,i=>by simp [gS]
 |v::l,n,0=>by simp [gS]
 |v::l,n,i+1=>by
  simp only [gS,List.getElem?_cons_succ]
  rw [uC keep ep io l (n+1) i,show n+1+i=n+(i+1) by omega]
theorem pF (keep:List Nat)(ep:Nat)(io:List AC):∀(l:List AV)(n:Nat),(gT keep ep io n l).length=l.length
 |[],_=>rfl
 |_::l,n=>by simp [gT,pF keep ep io l]
theorem uV (keep:List Nat)(ep:Nat)(io:List AC):∀(l:List (Option (List AC)))(n:Nat),(gS keep ep io n l).length=l.length
 |[],_=>rfl
 |_::l,n=>by simp [gS,uV keep ep io l]
def Ng:Value→AV→List Value
 | .agg vs,.val true _=>vs.toList
 |v,_=>[v]
theorem Nj {g:Bool}{v:Value}{vs:List Value}{cs:List AC}(h:Cut g v vs):Ng v (.val g cs)=vs:=by
 cases g with
 |true=>simp only [Cut,if_true] at h;subst h;simp [Ng]
 |false=>simp only [Cut] at h;subst h;cases v<;>rfl
def vp (ioV:List Value)(st:AS)(a:Act)(w:World)(β:Nat→Nat)(t:Nat):Value:=
 if t%3=0∧t/3/4096=1000003 then (ioV[t/3%4096]?).getD undef
 else if t%3=0 then ((Ng (a.tmps.getD (t/3/4096) undef) (st.get (t/3/4096)))[t/3%4096]?).getD undef
 else match w.heap[β (t/3/4096)]? with
  |some (.cells arr _ _)=>(arr.toList[t/3%4096]?).getD undef
  |_=>undef
def M1 (c c':RC)(io:List AC):Prop:=∀j n (e:CT)(ys:List e.D),AC.To io j n e=some ys→∃v0 fp0,bD c.hw c.w (.sl e) [v0] ys fp0∧v0=c.hdr n∧∀q,(dX.io j).xu=some q→c'.iss q∧v0=c'.hdr q
theorem Rd {c c':RC}{io:List AC}(hio:M1 c c' io){keep:List Nat}{rt:dX}{v:Value}{x:AC}{fp:List Nat}(h:cG c v x fp)(hhw:c'.hw=c.hw)(hw:c'.w=c.w)(hA:c'.A=c.A)(hep:c'.ep=0)(hβ:c'.β=c.β)
 (hpres:∀s,keep.contains s=true→c.pres s→c'.pres s) (hst:∀t,rt.xu=some t→c'.iss t∧v=c'.hdr t):cG c' v (x.mask keep c.ep io rt) fp:=by
 have hS:c'.S=c.S:=by funext b o;simp [RC.S,hhw,hA]
 cases x with
 |int k n=>exact h
 |bool b=>exact h
 |str s=>exact h
 |nilsl=>exact h
 |fn f=>exact h
 |un=>exact h
 |bot=>exact h
 |ptr s off=>
  simp only [AC.mask]
  split
  ·rename_i hk
   exact ⟨by rw [hβ];exact h.1,hpres s hk h.2.1,h.2.2⟩
  ·exact h.2.2
 |elt fl e y i off=>
  cases fl with
  |own t=>exact h.elim
  |nest _ _ _ _ _ _=>exact h.elim
  |part _ _ _ _=>exact h.elim
  |holed _ _ _=>exact h.elim
  |arg=>exact h.1
  |loc ep pv=>exact h.1
 |sl fl e xs=>
  cases fl with
  |own t=>exact ⟨bD.mono h.1 (fun b _=>⟨by rw [hw],by rw [hhw]⟩),hst⟩
  |nest _ _ _ _ _ _=>exact h.1
  |part _ _ _ _=>exact h.1
  |holed _ _ _=>
   obtain ⟨_,⟨k,hk,h3⟩,_⟩:=h
   exact ⟨fun q hq=>(by cases hq),⟨k,hk,h3.mono (fun b hb=>⟨by rw [hw],by rw [hhw]⟩)⟩,by simp⟩
  |arg=>exact ⟨h.1,by rw [hA,hw];exact h.2⟩
  |loc ep pv=>
   obtain ⟨h1,h2,h3,h4,h5⟩:=h
   have plain:cG c' v (if (ep==c.ep)=true then AC.sl (.loc 0 none) e xs else .bot) fp:=by
    split
    ·rename_i he
     refine ⟨h1,by rw [hep];exact Nat.le_refl _,h3,fun _=> ?_,by simp⟩
     rw [hS,hw]
     exact h4 (by simpa using he)
    ·exact h1
   simp only [AC.mask]
   split
   ·rename_i j n
    split
    ·rename_i ys hnow
     obtain ⟨v0,fp0,hown,hv0,hq⟩:=hio j n e ys hnow
     obtain ⟨_,k2⟩:=h5 _ _ rfl
     have hv:v0=v:=hv0.trans k2.symm
     subst hv
     refine ⟨h1,by rw [hep];exact Nat.le_refl _,Ao hown,fun _=> ?_,fun r t hp=> ?_⟩
     ·rw [hS,hw];exact bD.rep (fun b o ho=> .inr ho) hown
     ·cases hst':(dX.io j).xu with
      |none=>rw [hst'] at hp;cases hp
      |some q=>
       rw [hst'] at hp
       simp at hp
       obtain ⟨_,rfl⟩:=hp
       exact ⟨(hq q hst').1,(hq q hst').2⟩
    ·exact plain
   ·exact plain
theorem za {c c':RC}{io:List AC}(hio:M1 c c' io){keep:List Nat}{f:Nat→dX}(hhw:c'.hw=c.hw)(hw:c'.w=c.w)(hA:c'.A=c.A)(hep:c'.ep=0)(hβ:c'.β=c.β)
 (hpres:∀s,keep.contains s=true→c.pres s→c'.pres s):∀{vs:List Value}{xs:List AC}{fp:List Nat}(j:Nat),aA c vs xs fp→
  (∀i v,vs[i]?=some v→∀t,(f (j+i)).xu=some t→c'.iss t∧v=c'.hdr t)→aA c' vs (Bt keep c.ep io f j xs) fp
 |[],[],_,_,h,_=>h
 |v::_,_::_,_,j,h,hm=>by
  obtain ⟨f1,f2,rfl,h1,h2⟩:=h
  exact ⟨f1,f2,rfl,Rd hio h1 hhw hw hA hep hβ hpres (fun t ht=>hm 0 v rfl t ht),
   za hio hhw hw hA hep hβ hpres (j+1) h2 (fun i u hu t ht=>hm (i+1) u (by simpa using hu) t (by rwa [show j+(i+1)=j+1+i by omega]))⟩
 |[],_::_,_,_,h,_=>h.elim
 |_::_,[],_,_,h,_=>h.elim
theorem TI {c:RC}{v:Value}{x:AC}{fp:List Nat}(h:cG c v x fp)(hno:∀(tag:Option Nat)(e:CT)(xs:List e.D),x= .sl (.own tag) e xs→False)
 (hno2:∀(tag:Option Nat)(i:Int)(ep:Option Nat)(e:CT)(xs:List e.D),x= .sl (.holed tag i ep) e xs→False):fp=[]:=by
 cases x with
 |int k n=>exact h.2
 |bool b=>exact h.2
 |str s=>exact h.2
 |nilsl=>exact h.2
 |fn f=>exact h.2
 |un=>exact h.2
 |bot=>exact h
 |ptr s off=>exact h.2.2
 |elt fl e y i off=>
  cases fl with
  |own t=>exact h.elim
  |nest _ _ _ _ _ _=>exact h.elim
  |part _ _ _ _=>exact h.elim
  |holed _ _ _=>exact h.elim
  |arg=>exact h.1
  |loc ep pv=>exact h.1
 |sl fl e xs=>
  cases fl with
  |own t=>exact (hno _ _ _ rfl).elim
  |nest _ _ _ _ _ _=>exact h.1
  |part _ _ _ _=>exact h.1
  |holed _ _ _=>exact (hno2 _ _ _ _ _ rfl).elim
  |arg=>exact h.1
  |loc ep pv=>exact h.1
theorem g8.mask (h:g8 C st a w)(keep:List Nat):g8 C (st.mask keep) a w:=by
 obtain ⟨g,h⟩:=h
 let g':Gh:={g with hdr:=vp C.ioV st a w g.β}
 have hpres:∀s,keep.contains s=true→cC st s→cC (st.mask keep) s:=by
  rintro s hk ⟨cs,hs⟩
  refine ⟨Bt keep st.ep st.io (.box s) 0 cs, ?_⟩
  show (gS keep st.ep st.io 0 st.boxes)[s]?=_
  rw [uC,hs]
  simp only [Option.map_some,Nat.zero_add,if_pos hk]
 obtain ⟨fpi,hri,hni,hli⟩:=h.io
 have hioq:∀j v,C.ioV[j]?=some v→∀q,(dX.io j).xu=some q→gk (st.mask keep) q∧v=vp C.ioV st a w g.β q:=by
  intro j v hv q hq
  simp only [dX.xu] at hq
  cases hb:Nat.ble 4096 j with
  |true=>rw [hb] at hq;cases hq
  |false=>
   rw [hb] at hq
   simp only [cond_false,Option.some.injEq,rU] at hq
   have hj:j<4096:=by
    rcases Nat.lt_or_ge j 4096 with hlt|hge
    ·exact hlt
    ·rw [Nat.ble_eq_true_of_le hge] at hb;cases hb
   have h0:q%3=0:=by omega
   have h1:q/3/4096=1000003:=by omega
   have h2:q/3%4096=j:=by omega
   refine ⟨.inl (by omega), ?_⟩
   rw [vp,if_pos ⟨h0,h1⟩,h2,hv];rfl
 have hseen:M1 (aP C g st w) (aP C g' (st.mask keep) w) st.io:=by
  intro j n e ys hnow
  unfold AC.To at hnow
  split at hnow
  ·rename_i t' e' ys' hj
   split at hnow
   ·rename_i he
    subst he
    cases ht:(t'==n) with
    |false=>rw [ht] at hnow;cases hnow
    |true=>
     rw [ht] at hnow
     have:t'=n:=by simpa using ht
     subst this
     cases hnow
     rw [bm] at hj
     obtain ⟨v,f,hv,hr,_⟩:=hri.get j _ hj
     exact ⟨v,f,hr.1,(hr.2 t' rfl).2,fun q hq=>hioq j v hv q hq⟩
   ·cases hnow
  ·cases hnow
 have hmio:∀(j:Nat){vs:List Value}{xs:List AC}{fp:List Nat},aA (aP C g st w) vs xs fp→(∀i v,vs[i]?=some v→C.ioV[j+i]?=some v)→aA (aP C g' (st.mask keep) w) vs (N2 keep j xs) fp:=by
  intro j vs
  induction vs generalizing j with
  |nil=>intro xs fp hr _;cases xs with
   |nil=>exact hr
   |cons _ _=>exact hr.elim
  |cons v vs ih=>
   intro xs fp hr hv
   cases xs with
   |nil=>exact hr.elim
   |cons x xs=>
    obtain ⟨f1,f2,rfl,r1,r2⟩:=hr
    refine ⟨f1,f2,rfl, ?_,ih (j+1) r2 (fun i u hu=>by rw [show j+1+i=j+(i+1) by omega];exact hv (i+1) u (by simpa using hu))⟩
    have hv0:=hv 0 v rfl
    rw [Nat.add_zero] at hv0
    split
    ·rename_i tg e ys
     exact ⟨r1.1,fun q hq=>hioq j v hv0 q hq⟩
    ·rename_i tag i ep e ys
     obtain ⟨_,⟨k,hk,h3⟩,_⟩:=r1
     exact ⟨fun q hq=>(by cases hq),⟨k,hk,h3⟩,by simp⟩
    ·rename_i s off
     split
     ·rename_i hk
      exact ⟨r1.1,hpres s hk r1.2.1,r1.2.2⟩
     ·exact r1.2.2
    ·rename_i hno hno2 _
     cases hfl:x.cv with
     |true=>
      obtain ⟨rfl,k⟩:=nm (c':=aP C g' (st.mask keep) w) r1 hfl
      exact k
     |false=>exact TI r1 hno hno2
 refine ⟨g',h.defers, ?_, ?_,fun i av hi=> ?_,fun s cs hs=> ?_,fun k v av hk=>by simp at hk,h.labs,h.frame,⟨fpi,hmio 0 hri (fun i v hv=>by rw [Nat.zero_add];exact hv),hni,hli⟩⟩
 ·show _=(gT keep st.ep st.io 0 st.slots).length
  rw [pF];exact h.size
 ·show (gS keep st.ep st.io 0 st.boxes).length=(gT keep st.ep st.io 0 st.slots).length
  rw [pF,uV];exact h.bsize
 ·have hi':(gT keep st.ep st.io 0 st.slots)[i]?=some av:=hi
  rw [yy,Nat.zero_add] at hi'
  cases hv:st.slots[i]? with
  |none=>rw [hv] at hi';cases hi'
  |some x=>
   rw [hv] at hi'
   simp only [Option.map_some,Option.some.injEq] at hi'
   split at hi'
   ·subst hi'
    cases hx:x with
    |tup ts=>exact ⟨[],cq.bot _ _,by simp,by simp⟩
    |val gg cs=>
     rw [hx] at hv
     obtain ⟨fp,⟨vs,hcut,hr⟩,hn,hl⟩:=h.slots i _ hv
     refine ⟨fp,⟨vs,hcut,za (io:=st.io) hseen (c:=aP C g st w) (c':=aP C g' (st.mask keep) w) rfl rfl rfl rfl rfl hpres 0 hr ?_⟩,hn,hl⟩
     intro j u hu t ht
     simp only [Nat.zero_add,dX.xu] at ht
     cases hb:Nat.ble 4096 j with
     |true=>rw [hb] at ht;cases ht
     |false=>
      rw [hb] at ht
      simp only [cond_false] at ht
      cases hbs:Nat.ble 1000000 i with
      |true=>rw [hbs] at ht;cases ht
      |false=>
      rw [hbs] at ht
      simp only [cond_false,Option.some.injEq] at ht
      have hi6:i<1000000:=by
       rcases Nat.lt_or_ge i 1000000 with hlt|hge
       ·exact hlt
       ·rw [Nat.ble_eq_true_of_le hge] at hbs;cases hbs
      have hj:j<4096:=by
       rcases Nat.lt_or_ge j 4096 with hlt|hge
       ·exact hlt
       ·rw [Nat.ble_eq_true_of_le hge] at hb;cases hb
      have h0:t%3=0:=by omega
      have h1:t/3/4096=i:=by omega
      have h2:t/3%4096=j:=by omega
      refine ⟨.inl (by omega), ?_⟩
      show u=vp C.ioV st a w g.β t
      rw [vp,if_neg (by omega),if_pos h0,h1,h2,get_eq hv,Nj hcut,hu];rfl
   ·subst hi'
    exact ⟨[],cq.bot _ _,by simp,by simp⟩
 ·have hs':(gS keep st.ep st.io 0 st.boxes)[s]?=some (some cs):=hs
  rw [uC,Nat.zero_add] at hs'
  cases hv:st.boxes[s]? with
  |none=>rw [hv] at hs';cases hs'
  |some x=>
   rw [hv] at hs'
   simp only [Option.map_some,Option.some.injEq] at hs'
   split at hs'
   ·cases hx:x with
    |none=>rw [hx] at hs';cases hs'
    |some xs=>
     rw [hx] at hs' hv
     simp only [Option.map_some,Option.some.injEq] at hs'
     subst hs'
     obtain ⟨arr,T,fr,fp,hb,hth,hr,hn,hni,hl,hl0,hw0⟩:=h.boxes s xs hv
     refine ⟨arr,T,fr,fp,hb,hth,za (io:=st.io) hseen (c:=aP C g st w) (c':=aP C g' (st.mask keep) w) rfl rfl rfl rfl rfl hpres 0 hr ?_,hn,hni,hl,hl0,hw0⟩
     intro j u hu t ht
     simp only [Nat.zero_add,dX.xu] at ht
     cases hbb:Nat.ble 4096 j with
     |true=>rw [hbb] at ht;cases ht
     |false=>
      rw [hbb] at ht
      simp only [cond_false,Option.some.injEq] at ht
      have hj:j<4096:=by
       rcases Nat.lt_or_ge j 4096 with hlt|hge
       ·exact hlt
       ·rw [Nat.ble_eq_true_of_le hge] at hbb;cases hbb
      have h0:¬t%3=0:=by omega
      have h1:t/3/4096=s:=by omega
      have h2:t/3%4096=j:=by omega
      refine ⟨.inl (by omega), ?_⟩
      show u=vp C.ioV st a w g.β t
      rw [vp,if_neg (by omega),if_neg h0,h1,h2,hb]
      simp only
      rw [hu];rfl
   ·cases hs'
structure dv (ds:List Nat) (st st':AS):Prop where
 len:st'.slots.length=st.slots.length
 slot:∀i,i∉ds→st'.slots[i]?=st.slots[i]?
 boxes:st'.boxes=st.boxes
 ep:st'.ep=st.ep
 iss:∀i,i∉ds→nth st'.iss i=nth st.iss i
 ilen:st'.iss.length=st.iss.length
 io:st'.io=st.io
theorem dv.refl (ds:List Nat)(st:AS):dv ds st st:=⟨rfl,fun _ _=>rfl,rfl,rfl,fun _ _=>rfl,rfl,rfl⟩
theorem dv.trans {ds:List Nat}{st st1 st2:AS}(h:dv ds st st1)(k:dv ds st1 st2):dv ds st st2:=
 ⟨k.len.trans h.len,fun i hi=>(k.slot i hi).trans (h.slot i hi),k.boxes.trans h.boxes,k.ep.trans h.ep,fun i hi=>(k.iss i hi).trans (h.iss i hi),k.ilen.trans h.ilen,k.io.trans h.io⟩
theorem dv.put {ds:List Nat}{st:AS}{d:Option Nat}(hd:∀i,d=some i→i∈ds)(v:AV):dv ds st (st.put d v):=by
 cases d with
 |none=>exact dv.refl _ _
 |some d=>
  refine ⟨by rw [bZ,List.length_set],fun i hi=> ?_,dJ,Bh,fun i _=>by rw [Jc],by rw [Jc],Bo⟩
  rw [bZ,List.getElem?_set_ne]
  rintro rfl
  exact hi (hd _ rfl)
theorem dv.cp {ds:List Nat}{st:AS}{d:Option Nat}(hd:∀i,d=some i→i∈ds):dv ds st (st.cp d):=by
 cases d with
 |none=>exact dv.refl _ _
 |some d=>
  refine ⟨rfl,fun i _=>rfl,rfl,rfl,fun i hi=> ?_, ?_,rfl⟩
  ·simp only [AS.cp,bm,bL]
   rw [List.getElem?_set_ne]
   rintro rfl
   exact hi (hd _ rfl)
  ·simp only [AS.cp,bL,List.length_set]
theorem ng {α:Type}{ds:List Nat}{o:Option α}{k:α→Option AS}{st':AS}(h:aa o k=some st')(hk:∀x,k x=some st'→dv ds st st'):dv ds st st':=by
 cases o with
 |none=>cases h
 |some x=>exact hk x h
theorem Rn {ds:List Nat}{n:Nat}{k:Option AS}{st':AS}(h:room n k=some st')(hk:k=some st'→dv ds st st'):dv ds st st':=by
 unfold room at h
 split at h
 ·exact hk h
 ·cases h
theorem Ob {ds:List Nat}{op:BinOp}{k:IntKind}{x y:Int}{K:AC→Option AS}{st':AS}(h:Ae op k x y K=some st')(hk:∀z,K z=some st'→dv ds st st'):dv ds st st':=by
 unfold Ae at h
 split at h<;>first
  |exact hk _ h
  |(split at h
    ·cases h
    ·exact hk _ h)
  |cases h
theorem Oc {ds:List Nat}{op:BinOp}{x y:List UInt8}{K:AC→Option AS}{st':AS}(h:Cc op x y K=some st')(hk:∀z,K z=some st'→dv ds st st'):dv ds st st':=by
 unfold Cc at h
 split at h<;>first
  |exact Rn h (hk _)
  |exact hk _ h
  |cases h
theorem Bz {ds:List Nat}{op:BinOp}{x y:AV}{K:AC→Option AS}{st':AS}(h:yi op x y K=some st')(hk:∀z,K z=some st'→dv ds st st'):dv ds st st':=by
 unfold yi at h
 split at h
 ·split at h
  ·split at h
   ·cases h
   ·exact hk _ h
  ·split at h
   ·cases h
   ·exact hk _ h
  ·split at h
   ·exact Ob h hk
   ·cases h
 ·exact Oc h hk
 ·split at h
  ·exact hk _ h
  ·exact hk _ h
  ·cases h
 ·split at h
  ·exact ng h fun b hb=>hk _ hb
  ·exact ng h fun b hb=>hk _ hb
  ·cases h
 ·cases h
theorem Al {ds:List Nat}{lo hi:Option Operand}{n:Nat}{K:Int→Int→Option AS}{st0 st':AS}(h:gm st0 lo hi n K=some st')(hk:∀x y,K x y=some st'→dv ds st st'):dv ds st st':=by
 unfold gm at h
 split at h<;>first
  |exact hk _ _ h
  |cases h
theorem ES {ds:List Nat}{op:BinOp}{b:Bool}{K:AC→Option AS}{st':AS}(h:wu op b K=some st')(hk:∀c,K c=some st'→dv ds st st'):dv ds st st':=by
 unfold wu at h
 split at h
 ·exact hk _ h
 ·exact hk _ h
 ·cases h
theorem G0 {E:Env}{Γ:aJ}(hΓ:∀f,(Γ f).io=false∧(Γ f).bx=false){an:An}{ds:List Nat}{o:Oper}{st':AS}(hq:cB an ds o=true)(hd:∀i,o.dst=some i→i∈ds)(h:aV E Γ an o st some=some st'):dv ds st st':=by
 have hput:∀v,some (st.put o.dst v)=some st'→dv ds st st':=fun v hv=>by cases hv;exact dv.put hd v
 unfold aV at h
 split at h
 ·rename_i x ho
  simp only [cB,ho] at hq
  unfold uW at h
  cases hdd:o.dst with
  |none=>rw [hdd] at h;cases h
  |some d=>
   rw [hdd] at h hq
   simp only at h hq
   have hf:an.mv.contains d=false:=by simpa using hq
   rw [hf] at h
   simp only [Bool.false_eq_true,if_false] at h
   cases h
   exact dv.put (fun i hi=>hd i (by rw [hdd];exact hi)) _
 ·rename_i x ho
  have hlate:sY an o=false∨∃y,x=y∧(∀v,y≠ .const v)∧(∀t,y≠ .tmp t):=by
   cases x with
   |tmp t=>left;simp only [cB,ho,Bool.and_eq_true,Bool.not_eq_true'] at hq;exact hq.2
   |const v=>left;simpa only [cB,ho,Bool.not_eq_true'] using hq
   |func f=>simp [cB,ho] at hq
   |global g=>simp [cB,ho] at hq
  have hlate:sY an o=false:=by
   rcases hlate with h1|⟨y,rfl,h1,h2⟩
   ·exact h1
   ·cases x with
    |tmp t=>exact absurd rfl (h2 t)
    |const v=>exact absurd rfl (h1 v)
    |func f=>simp [cB,ho] at hq
    |global g=>simp [cB,ho] at hq
  simp only [cB,ho] at hq
  rw [if_neg (by simp [hlate])] at h
  unfold nG at h
  have hx:dv ds st (st.take x).2:=by
   cases x with
   |tmp t=>
    have ht:t∈ds:=by simp only [Bool.and_eq_true] at hq;simpa using hq.1
    exact dv.put (d:=some t) (fun i hi=>by cases hi;exact ht) _
   |const v=>exact dv.refl _ _
   |func f=>exact dv.refl _ _
   |global g=>exact dv.refl _ _
  split at h
  ·split at h
   ·exact hput _ h
   ·cases h
  ·rename_i v st1 _ htk
   cases h
   have:(st.take x).2=st1:=by rw [htk]
   rw [this] at hx
   exact hx.trans (dv.put hd _)
 ·unfold xj at h
  split at h
  ·rename_i t _
   split at h
   ·exact hput _ h
   ·cases t with
    |true=>exact hput _ h
    |false=>exact hput _ h
  ·cases h
 ·rename_i ho;simp [cB,ho] at hq
 ·rename_i ho;simp [cB,ho] at hq
 ·rename_i T p ho
  simp only [cB,ho] at hq
  have htk:AP an o=false:=by
   unfold AP
   cases hdd:o.dst with
   |none=>rfl
   |some d=>rw [hdd] at hq;simp only [Bool.not_eq_true'] at hq;simp only [hq,Bool.false_and]
  unfold oP at h
  split at h
  ·split at h
   ·split at h
    ·split at h
     ·rename_i d hdd
      rw [hdd] at hq
      simp only at hq
      have hf:an.mv.contains d=false:=by simpa using hq
      rw [hf] at h
      simp only [Bool.false_eq_true,if_false] at h
      exact hput _ h
     ·cases h
    ·cases h
   ·cases h
  ·rw [if_neg (by simp [htk])] at h
   split at h
   ·split at h
    ·exact hput _ h
    ·cases h
   ·unfold we at h
    split at h
    ·split at h
     ·split at h
      ·split at h
       ·obtain ⟨y,_,h⟩:=CY h
        exact hput _ h
       ·cases h
      ·cases h
     ·cases h
    ·cases h
  ·cases h
 ·rename_i ho;simp [cB,ho] at hq
 ·split at h
  ·exact hput _ h
  ·exact hput _ h
  ·cases h
 ·unfold tM at h
  split at h
  ·split at h
   ·exact Bz h fun z hz=>hput _ hz
   ·cases h
  ·split at h
   ·split at h
    ·exact Bz h fun z hz=>hput _ hz
    ·cases h
   ·cases h
  ·split at h
   ·split at h
    ·cases h
    ·exact ES h fun z hz=>hput _ hz
   ·cases h
  ·split at h
   ·exact ES h fun z hz=>hput _ hz
   ·cases h
  ·exact Bz h fun z hz=>hput _ hz
 ·unfold Wm at h
  split at h
  ·exact hput _ h
  ·exact hput _ h
  ·exact hput _ h
  ·cases h
 ·unfold sO at h
  split at h
  ·split at h
   ·exact hput _ h
   ·cases h
  ·split at h
   ·exact hput _ h
   ·cases h
  ·cases h
 ·unfold fV at h
  split at h
  ·split at h
   ·exact ng h fun y hy=>hput _ hy
   ·cases h
  ·cases h
 ·unfold uz at h
  split at h
  ·split at h
   ·exact ng h fun y hy=>hput _ hy
   ·cases h
  ·cases h
 ·rename_i T parts ho
  simp only [cB,ho] at hq
  have he:parts=#[]:=by simpa using hq
  subst he
  unfold uu at h
  split at h
  ·simp only [bE,List.map_nil] at h
   split at h
   ·exact hput _ h
   ·cases h
  ·cases h
 ·rename_i ho;simp [cB,ho] at hq
 ·rename_i ho;simp [cB,ho] at hq
 ·rename_i ho
  simp only [cB,ho,Bool.not_eq_true'] at hq
  unfold tD at h
  rw [if_neg (by simp [hq])] at h
  split at h
  ·split at h
   ·exact Al h fun x y hxy=>ng hxy fun z hz=>hput _ hz
   ·cases h
  ·split at h
   ·exact Al h fun x y hxy=>ng hxy fun z hz=>hput _ hz
   ·cases h
  ·cases h
 ·rename_i ho;simp [cB,ho] at hq
 ·rename_i ho;simp [cB,ho] at hq
 ·rename_i ho;simp [cB,ho] at hq
 ·rename_i ho;simp [cB,ho] at hq
 ·unfold EM at h
  split at h
  ·split at h
   ·exact hput _ h
   ·cases h
  ·split at h
   ·exact hput _ h
   ·cases h
  ·cases h
 ·unfold F0 at h
  split at h
  ·exact hput _ h
  ·cases h
 ·unfold FZ at h
  split at h
  ·exact hput _ h
  ·cases h
 ·rename_i ho;simp [cB,ho] at hq
 ·unfold wT at h
  split at h
  ·rename_i k _
   rw [(hΓ k).2,(hΓ k).1] at h
   simp only [cond_false] at h
   refine ng h fun y hy=> ?_
   cases hsel:(Γ k).sel y with
   |true=>rw [hsel] at hy;cases hy;exact (dv.cp hd).trans (dv.put hd _)
   |false=>rw [hsel] at hy;cases hy;exact (dv.cp hd).trans (dv.put hd _)
  ·cases h
 ·cases h
theorem LB {ops:List Oper}{o:Oper}(ho:o∈ops){i:Nat}(hi:o.dst=some i):i∈yP ops:=List.mem_filterMap.2 ⟨o,ho,hi⟩
theorem ET {E:Env}{Γ:aJ}(hΓ:∀f,(Γ f).io=false∧(Γ f).bx=false){an:An}{ops:List Oper}{o:Oper}{st':AS}(ho:o∈ops)(hq:cB an (yP ops) o=true)(h:cU E Γ an ops o st some=some st'):dv (yP ops) st st':=by
 have hd:∀i,o.dst=some i→i∈yP ops:=fun i hi=>LB ho hi
 unfold cU at h
 split at h
 ·exact G0 hΓ hq hd h
 ·rename_i j want hg
  split at h
  ·rename_i d hdd
   have hdm:d∈yP ops:=by
    rw [bm] at hdd
    cases ho':ops[j]? with
    |none=>rw [ho'] at hdd;cases hdd
    |some o'=>rw [ho'] at hdd;exact LB (List.mem_of_getElem? ho') hdd
   have hp:∀t,dv (yP ops) st (st.put (some d) (.one (.bool t))):=fun t=>dv.put (fun i hi=>by cases hi;exact hdm) _
   split at h
   ·rename_i b hb
    have main:∀t,(if (t==want)=true then aV E Γ an o (st.put (some d) (.one (.bool t))) some else some ((st.put (some d) (.one (.bool t))).put o.dst (.one .un)))=some st'→dv (yP ops) st st':=by
     intro t ht
     split at ht
     ·exact (hp t).trans (G0 hΓ hq hd ht)
     ·cases ht;exact (hp t).trans (dv.put hd _)
    cases b with
    |true=>exact main true h
    |false=>exact main false h
   ·cases h;exact dv.put hd _
   ·cases h
  ·cases h
theorem LQ {E:Env}{Γ:aJ}(hΓ:∀f,(Γ f).io=false∧(Γ f).bx=false){an:An}{ops:List Oper}(hq:∀o∈ops,cB an (yP ops) o=true):∀(l:List Oper)(st st':AS),(∀o∈l,o∈ops)→Jl E Γ an ops l st some=some st'→dv (yP ops) st st'
 |[],st,st',_,h=>by cases h;exact dv.refl _ _
 |o::l,st,st',hl,h=>by
  simp only [Jl] at h
  rw [jN] at h
  cases hg:cU E Γ an ops o st some with
  |none=>rw [hg] at h;cases h
  |some st1=>
   rw [hg] at h
   exact (ET hΓ (hl o (by simp)) (hq o (hl o (by simp))) hg).trans (LQ hΓ hq l st1 st' (fun o' ho'=>hl o' (by simp [ho'])) h)
theorem yO {ds:List Nat}:∀(l:List Nat)(st:AS),(∀i∈l,i∈ds)→dv ds st (st.tO l)
 |[],st,_=>dv.refl _ _
 |d::l,st,h=>by
  have hd:∀i,some d=some i→i∈ds:=fun i hi=>by cases hi;exact h d (by simp)
  exact ((dv.put hd _).trans (dv.cp hd)).trans (yO l _ (fun i hi=>h i (by simp [hi])))
theorem Gt:∀(l:List Nat)(st:AS)(i:Nat)(av:AV),(st.tO l).slots[i]?=some av→i∈l∨st.slots[i]?=some .bot→av= .bot
 |[],st,i,av,h,hi=>by
  rcases hi with hi|hi
  ·cases hi
  ·have:st.slots[i]?=some av:=h
   rw [hi] at this;cases this;rfl
 |d::l,st,i,av,h,hi=>by
  refine Gt l _ i av h ?_
  by_cases hil:i∈l
  ·exact .inl hil
  ·refine .inr ?_
   rw [qU,bZ,List.getElem?_set]
   have hlt:i<st.slots.length:=by
    have h1:=(yO (ds:=d::l) l ((st.put (some d) .bot).cp (some d)) (fun i hi=>by simp [hi])).len
    have h2:=(List.getElem?_eq_some_iff.1 h).1
    have h3:(AS.tO ((st.put (some d) .bot).cp (some d)) l).slots.length=st.slots.length:=by rw [h1,qU,bZ,List.length_set]
    have h4:i<(AS.tO ((st.put (some d) .bot).cp (some d)) l).slots.length:=h2
    omega
   split
   ·rename_i hdi
    subst hdi
    rw [if_pos hlt]
   ·rename_i hdi
    rcases hi with hi|hi
    ·simp only [List.mem_cons] at hi
     rcases hi with hi|hi
     ·exact absurd hi.symm hdi
     ·exact absurd hi hil
    ·exact hi
theorem Gu:∀(l:List Nat)(st:AS)(i:Nat),i∈l∨(nth st.iss i).getD true=true→(nth (st.tO l).iss i).getD true=true
 |[],st,i,hi=>by
  rcases hi with hi|hi
  ·cases hi
  ·exact hi
 |d::l,st,i,hi=>by
  refine Gu l _ i ?_
  by_cases hil:i∈l
  ·exact .inl hil
  ·refine .inr ?_
   have he:(AS.cp (st.put (some d) .bot) (some d)).iss=dj st.iss d true:=rfl
   rw [he,bL,bm,List.getElem?_set]
   split
   ·split<;>rfl
   ·rename_i hdi
    rcases hi with hi|hi
    ·simp only [List.mem_cons] at hi
     rcases hi with hi|hi
     ·exact absurd hi.symm hdi
     ·exact absurd hi hil
    ·rw [bm] at hi;exact hi
theorem g8.weaken {st':AS}(h:g8 C st' a w){ds:List Nat}(hn:dv ds st st'){s:Nat}{b:Bool}(hb:getBool st' s=some b):g8 C ((st.tO ds).put (some s) (.one (.bool b))) a w:=by
 have hbs:st'.get s= .val false [.bool b]:=by
  unfold getBool at hb
  split at hb
  ·rename_i b' hg;cases hb;exact hg
  ·cases hb
 have hkn:=h.known hbs
 obtain ⟨g,h⟩:=h
 have hdn:=yO (ds:=ds) ds st (fun _ hi=>hi)
 have hboxes:((st.tO ds).put (some s) (.one (.bool b))).boxes=st'.boxes:=by rw [dJ,hdn.boxes,hn.boxes]
 have hep:((st.tO ds).put (some s) (.one (.bool b))).ep=st'.ep:=by rw [Bh,hdn.ep,hn.ep]
 have hlen:((st.tO ds).put (some s) (.one (.bool b))).slots.length=st'.slots.length:=by rw [bZ,List.length_set,hdn.len,hn.len]
 have hiss:∀t,gk st' t→gk ((st.tO ds).put (some s) (.one (.bool b))) t:=by
  intro t ht
  rw [Ah]
  rcases ht with ht|ht
  ·exact .inl ht
  ·refine .inr (Gu ds st _ ?_)
   by_cases hi:t/3/4096∈ds
   ·exact .inl hi
   ·exact .inr (by rw [←hn.iss _ hi];exact ht)
 have hpres:∀s',cC st' s'→cC ((st.tO ds).put (some s) (.one (.bool b))) s':=fun s' hs=>by unfold cC at hs⊢;rw [hboxes];exact hs
 have hle:(aP C g st' w).Le (aP C g ((st.tO ds).put (some s) (.one (.bool b))) w):=
  ⟨rfl,fun t ht=>⟨hiss t ht,rfl⟩,fun _ _ _ _ hv=>hv,by show st'.ep≤_;rw [←hep];exact Nat.le_refl _,fun s' hs=>⟨hpres s' hs,rfl⟩,fun _ b o u ho hu=>⟨ho,hu⟩⟩
 refine ⟨g,h.step (fun _=>True) hle h.defers (by rw [hlen];exact h.size) (by rw [hboxes,hlen];exact h.bsize) h.frame h.labs (fun b x _ hx=>⟨hx,rfl,rfl⟩) ?_ ?_ ?_ (.inl ⟨trivial,by rw [Bo,hdn.io,hn.io]⟩)⟩
 ·intro i av hi
  rw [bZ,List.getElem?_set] at hi
  split at hi
  ·rename_i hsi
   subst hsi
   split at hi
   ·cases hi
    refine .inr ⟨[],gV ?_,by simp,by simp⟩
    exact ⟨hkn,rfl⟩
   ·cases hi
  ·by_cases hid:i∈ds
   ·have:=Gt ds st i av hi (.inl hid)
    subst this
    exact .inr ⟨[],cq.bot _ _,by simp,by simp⟩
   ·rw [hdn.slot i hid] at hi
    exact .inl ⟨trivial,by rw [hn.slot i hid];exact hi,rfl⟩
 ·intro s' cs hs
  rw [hboxes] at hs
  exact .inl ⟨trivial,hs,rfl⟩
 ·intro k v av hk
  simp at hk
theorem HN (Γ:aJ)(f:Nat):(Γ.calm f).io=false∧(Γ.calm f).bx=false:=by
 unfold aJ.calm
 cases h:(Γ f).io with
 |true=>exact ⟨rfl,rfl⟩
 |false=>
  cases h2:(Γ f).bx with
  |true=>exact ⟨rfl,rfl⟩
  |false=>exact ⟨h,h2⟩
theorem Sound.calm {E:Env}{Γ:aJ}(h:Sound P E Γ):Sound P E Γ.calm:=by
 refine ⟨h.ty,h.eqs,h.fts,fun f=> ?_,h.mixed⟩
 unfold aJ.calm
 cases (Γ f).io with
 |true=>intro xs y hy;cases hy
 |false=>
  cases (Γ f).bx with
  |true=>intro xs y hy;cases hy
  |false=>exact h.fns f
end Go.Dn
