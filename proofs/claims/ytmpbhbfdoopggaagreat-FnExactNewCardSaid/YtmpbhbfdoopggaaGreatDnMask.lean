import Derived.Test.YtmpbhbfdoopggaaGreatDnDen
import Derived.Test.YtmpbhbfdoopggaaGreatDnNat
/- What is kept at a loop's door; what a region whose ways meet again leaves. -/
namespace Go.Dn
open Go.RowKit
variable {P:Program} {C:Ctx} {st:AS} {a:Act} {w:World} {R:Type} {r:R}
theorem sG (keep:List Nat)(ep:Nat)(io:List AC):∀(l:List AV)(n i:Nat),(eN keep ep io n l)[i]?=(l[i]?).map fun v=>if keep.contains (n+i) then v.mask keep ep io (n+i) else .bot
 |[],n,i=>by simp [eN]
 |v::l,n,0=>by simp [eN]
 |v::l,n,i+1=>by
  simp only [eN,List.getElem?_cons_succ]
  rw [sG keep ep io l (n+1) i,show n+1+i=n+(i+1) by omega]
theorem oY (keep:List Nat)(ep:Nat)(io:List AC):∀(l:List (Option (List AC)))(n i:Nat),(eM keep ep io n l)[i]?=(l[i]?).map fun b=>if keep.contains (n+i) then b.map (uH keep ep io (.box (n+i)) 0) else none
 |[],n,i=>by simp [eM]
 |v::l,n,0=>by simp [eM]
 |v::l,n,i+1=>by
  simp only [eM,List.getElem?_cons_succ]
  rw [oY keep ep io l (n+1) i,show n+1+i=n+(i+1) by omega]
theorem lx (keep:List Nat)(ep:Nat)(io:List AC):∀(l:List AV)(n:Nat),(eN keep ep io n l).length=l.length
 |[],_=>rfl
 |_::l,n=>by simp [eN,lx keep ep io l]
theorem px (keep:List Nat)(ep:Nat)(io:List AC):∀(l:List (Option (List AC)))(n:Nat),(eM keep ep io n l).length=l.length
 |[],_=>rfl
 |_::l,n=>by simp [eM,px keep ep io l]
def EE:Value→AV→List Value
 | .agg vs,.val true _=>vs.toList
 |v,_=>[v]
theorem EH {g:Bool}{v:Value}{vs:List Value}{cs:List AC}(h:Cut g v vs):EE v (.val g cs)=vs:=by
 cases g with
 |true=>simp only [Cut,if_true] at h;subst h;simp [EE]
 |false=>simp only [Cut] at h;subst h;cases v<;>rfl
def pY (ioV:List Value)(st:AS)(a:Act)(w:World)(β:Nat→Nat)(t:Nat):Value:=
 if t%3=0∧t/3/4096=1000003 then (ioV[t/3%4096]?).getD undef
 else if t%3=0 then ((EE (a.tmps.getD (t/3/4096) undef) (st.get (t/3/4096)))[t/3%4096]?).getD undef
 else match w.heap[β (t/3/4096)]? with
  |some (.cells arr _ _)=>(arr.toList[t/3%4096]?).getD undef
  |_=>undef
def En (c c':RC)(io:List AC):Prop:=∀j n (e:CT)(ys:List e.D),AC.JP io j n e=some ys→∃v0 fp0,a8 c.hw c.w (.sl e) [v0] ys fp0∧v0=c.hdr n∧∀q,(cV.io j).rK=some q→c'.iss q∧v0=c'.hdr q
theorem HW {c c':RC}{io:List AC}(hio:En c c' io){keep:List Nat}{rt:cV}{v:Value}{x:AC}{fp:List Nat}(h:bP c v x fp)(hhw:c'.hw=c.hw)(hw:c'.w=c.w)(hA:c'.A=c.A)(hep:c'.ep=0)(hβ:c'.β=c.β)
 (hpres:∀s,keep.contains s=true→c.pres s→c'.pres s) (hst:∀t,rt.rK=some t→c'.iss t∧v=c'.hdr t):bP c' v (x.mask keep c.ep io rt) fp:=by
 have hS:c'.S=c.S:=by funext b o;simp [RC.S,hhw,hA]
 cases x with
 |int k n=>exact h
 |bool b=>exact h
 |str s=>exact h
 |nilsl=>exact h
 |fn f=>exact h
 |un=>exact h
 |bot=>exact h
 |ptr s off=>
  simp only [AC.mask]
  split
  ·rename_i hk
   exact ⟨by rw [hβ];exact h.1,hpres s hk h.2.1,h.2.2⟩
  ·exact h.2.2
 |elt fl e y i off=>
  cases fl with
  |own t=>exact h.elim
  |nest _ _ _ _ _ _=>exact h.elim
  |part _ _ _ _=>exact h.elim
  |holed _ _ _=>exact h.elim
  |arg=>exact h.1
  |loc ep pv=>exact h.1
 |sl fl e xs=>
  cases fl with
  |own t=>exact ⟨a8.mono h.1 (fun b _=>⟨by rw [hw],by rw [hhw]⟩),hst⟩
  |nest _ _ _ _ _ _=>exact h.1
  |part _ _ _ _=>exact h.1
  |holed _ _ _=>
   obtain ⟨_,⟨k,hk,h3⟩,_⟩:=h
   exact ⟨fun q hq=>(by cases hq),⟨k,hk,h3.mono (fun b hb=>⟨by rw [hw],by rw [hhw]⟩)⟩,by simp⟩
  |arg=>exact ⟨h.1,by rw [hA,hw];exact h.2⟩
  |loc ep pv=>
   obtain ⟨h1,h2,h3,h4,h5⟩:=h
   have plain:bP c' v (if (ep==c.ep)=true then AC.sl (.loc 0 none) e xs else .bot) fp:=by
    split
    ·rename_i he
     refine ⟨h1,by rw [hep];exact Nat.le_refl _,h3,fun _=> ?_,by simp⟩
     rw [hS,hw]
     exact h4 (by simpa using he)
    ·exact h1
   simp only [AC.mask]
   split
   ·rename_i j n
    split
    ·rename_i ys hnow
     obtain ⟨v0,fp0,hown,hv0,hq⟩:=hio j n e ys hnow
     obtain ⟨_,k2⟩:=h5 _ _ rfl
     have hv:v0=v:=hv0.trans k2.symm
     subst hv
     refine ⟨h1,by rw [hep];exact Nat.le_refl _,tS hown,fun _=> ?_,fun r t hp=> ?_⟩
     ·rw [hS,hw];exact a8.rep (fun b o ho=> .inr ho) hown
     ·cases hst':(cV.io j).rK with
      |none=>rw [hst'] at hp;cases hp
      |some q=>
       rw [hst'] at hp
       simp at hp
       obtain ⟨_,rfl⟩:=hp
       exact ⟨(hq q hst').1,(hq q hst').2⟩
    ·exact plain
   ·exact plain
theorem tf {c c':RC}{io:List AC}(hio:En c c' io){keep:List Nat}{f:Nat→cV}(hhw:c'.hw=c.hw)(hw:c'.w=c.w)(hA:c'.A=c.A)(hep:c'.ep=0)(hβ:c'.β=c.β)
 (hpres:∀s,keep.contains s=true→c.pres s→c'.pres s):∀{vs:List Value}{xs:List AC}{fp:List Nat}(j:Nat),ax c vs xs fp→
  (∀i v,vs[i]?=some v→∀t,(f (j+i)).rK=some t→c'.iss t∧v=c'.hdr t)→ax c' vs (uH keep c.ep io f j xs) fp
 |[],[],_,_,h,_=>h
 |v::_,_::_,_,j,h,hm=>by
  obtain ⟨f1,f2,rfl,h1,h2⟩:=h
  exact ⟨f1,f2,rfl,HW hio h1 hhw hw hA hep hβ hpres (fun t ht=>hm 0 v rfl t ht),
   tf hio hhw hw hA hep hβ hpres (j+1) h2 (fun i u hu t ht=>hm (i+1) u (by simpa using hu) t (by rwa [show j+(i+1)=j+1+i by omega]))⟩
 |[],_::_,_,_,h,_=>h.elim
 |_::_,[],_,_,h,_=>h.elim
theorem J8 {c:RC}{v:Value}{x:AC}{fp:List Nat}(h:bP c v x fp)(hno:∀(tag:Option Nat)(e:CT)(xs:List e.D),x= .sl (.own tag) e xs→False)
 (hno2:∀(tag:Option Nat)(i:Int)(ep:Option Nat)(e:CT)(xs:List e.D),x= .sl (.holed tag i ep) e xs→False):fp=[]:=by
 cases x with
 |int k n=>exact h.2
 |bool b=>exact h.2
 |str s=>exact h.2
 |nilsl=>exact h.2
 |fn f=>exact h.2
 |un=>exact h.2
 |bot=>exact h
 |ptr s off=>exact h.2.2
 |elt fl e y i off=>
  cases fl with
  |own t=>exact h.elim
  |nest _ _ _ _ _ _=>exact h.elim
  |part _ _ _ _=>exact h.elim
  |holed _ _ _=>exact h.elim
  |arg=>exact h.1
  |loc ep pv=>exact h.1
 |sl fl e xs=>
  cases fl with
  |own t=>exact (hno _ _ _ rfl).elim
  |nest _ _ _ _ _ _=>exact h.1
  |part _ _ _ _=>exact h.1
  |holed _ _ _=>exact (hno2 _ _ _ _ _ rfl).elim
  |arg=>exact h.1
  |loc ep pv=>exact h.1
theorem eY.mask (h:eY C st a w)(keep:List Nat):eY C (st.mask keep) a w:=by
 obtain ⟨g,h⟩:=h
 let g':Gh:={g with hdr:=pY C.ioV st a w g.β}
 have hpres:∀s,keep.contains s=true→bN st s→bN (st.mask keep) s:=by
  rintro s hk ⟨cs,hs⟩
  refine ⟨uH keep st.ep st.io (.box s) 0 cs, ?_⟩
  show (eM keep st.ep st.io 0 st.boxes)[s]?=_
  rw [oY,hs]
  simp only [Option.map_some,Nat.zero_add,if_pos hk]
 obtain ⟨fpi,hri,hni,hli⟩:=h.io
 have hioq:∀j v,C.ioV[j]?=some v→∀q,(cV.io j).rK=some q→eg (st.mask keep) q∧v=pY C.ioV st a w g.β q:=by
  intro j v hv q hq
  simp only [cV.rK] at hq
  cases hb:Nat.ble 4096 j with
  |true=>rw [hb] at hq;cases hq
  |false=>
   rw [hb] at hq
   simp only [cond_false,Option.some.injEq,mV] at hq
   have hj:j<4096:=by
    rcases Nat.lt_or_ge j 4096 with hlt|hge
    ·exact hlt
    ·rw [Nat.ble_eq_true_of_le hge] at hb;cases hb
   have h0:q%3=0:=by omega
   have h1:q/3/4096=1000003:=by omega
   have h2:q/3%4096=j:=by omega
   refine ⟨.inl (by omega), ?_⟩
   rw [pY,if_pos ⟨h0,h1⟩,h2,hv];rfl
 have hseen:En (aE C g st w) (aE C g' (st.mask keep) w) st.io:=by
  intro j n e ys hnow
  unfold AC.JP at hnow
  split at hnow
  ·rename_i t' e' ys' hj
   split at hnow
   ·rename_i he
    subst he
    cases ht:(t'==n) with
    |false=>rw [ht] at hnow;cases hnow
    |true=>
     rw [ht] at hnow
     have:t'=n:=by simpa using ht
     subst this
     cases hnow
     rw [aU] at hj
     obtain ⟨v,f,hv,hr,_⟩:=hri.get j _ hj
     exact ⟨v,f,hr.1,(hr.2 t' rfl).2,fun q hq=>hioq j v hv q hq⟩
   ·cases hnow
  ·cases hnow
 have hmio:∀(j:Nat){vs:List Value}{xs:List AC}{fp:List Nat},ax (aE C g st w) vs xs fp→(∀i v,vs[i]?=some v→C.ioV[j+i]?=some v)→ax (aE C g' (st.mask keep) w) vs (Fp keep j xs) fp:=by
  intro j vs
  induction vs generalizing j with
  |nil=>intro xs fp hr _;cases xs with
   |nil=>exact hr
   |cons _ _=>exact hr.elim
  |cons v vs ih=>
   intro xs fp hr hv
   cases xs with
   |nil=>exact hr.elim
   |cons x xs=>
    obtain ⟨f1,f2,rfl,r1,r2⟩:=hr
    refine ⟨f1,f2,rfl, ?_,ih (j+1) r2 (fun i u hu=>by rw [show j+1+i=j+(i+1) by omega];exact hv (i+1) u (by simpa using hu))⟩
    have hv0:=hv 0 v rfl
    rw [Nat.add_zero] at hv0
    split
    ·rename_i tg e ys
     exact ⟨r1.1,fun q hq=>hioq j v hv0 q hq⟩
    ·rename_i tag i ep e ys
     obtain ⟨_,⟨k,hk,h3⟩,_⟩:=r1
     exact ⟨fun q hq=>(by cases hq),⟨k,hk,h3⟩,by simp⟩
    ·rename_i s off
     split
     ·rename_i hk
      exact ⟨r1.1,hpres s hk r1.2.1,r1.2.2⟩
     ·exact r1.2.2
    ·rename_i hno hno2 _
     cases hfl:x.bJ with
     |true=>
      obtain ⟨rfl,k⟩:=jQ (c':=aE C g' (st.mask keep) w) r1 hfl
      exact k
     |false=>exact J8 r1 hno hno2
 refine ⟨g',h.defers, ?_, ?_,fun i av hi=> ?_,fun s cs hs=> ?_,fun k v av hk=>by simp at hk,h.labs,h.frame,⟨fpi,hmio 0 hri (fun i v hv=>by rw [Nat.zero_add];exact hv),hni,hli⟩⟩
 ·show _=(eN keep st.ep st.io 0 st.slots).length
  rw [lx];exact h.size
 ·show (eM keep st.ep st.io 0 st.boxes).length=(eN keep st.ep st.io 0 st.slots).length
  rw [lx,px];exact h.bsize
 ·have hi':(eN keep st.ep st.io 0 st.slots)[i]?=some av:=hi
  rw [sG,Nat.zero_add] at hi'
  cases hv:st.slots[i]? with
  |none=>rw [hv] at hi';cases hi'
  |some x=>
   rw [hv] at hi'
   simp only [Option.map_some,Option.some.injEq] at hi'
   split at hi'
   ·subst hi'
    cases hx:x with
    |tup ts=>exact ⟨[],bF.bot _ _,by simp,by simp⟩
    |val gg cs=>
     rw [hx] at hv
     obtain ⟨fp,⟨vs,hcut,hr⟩,hn,hl⟩:=h.slots i _ hv
     refine ⟨fp,⟨vs,hcut,tf (io:=st.io) hseen (c:=aE C g st w) (c':=aE C g' (st.mask keep) w) rfl rfl rfl rfl rfl hpres 0 hr ?_⟩,hn,hl⟩
     intro j u hu t ht
     simp only [Nat.zero_add,cV.rK] at ht
     cases hb:Nat.ble 4096 j with
     |true=>rw [hb] at ht;cases ht
     |false=>
      rw [hb] at ht
      simp only [cond_false] at ht
      cases hbs:Nat.ble 1000000 i with
      |true=>rw [hbs] at ht;cases ht
      |false=>
      rw [hbs] at ht
      simp only [cond_false,Option.some.injEq] at ht
      have hi6:i<1000000:=by
       rcases Nat.lt_or_ge i 1000000 with hlt|hge
       ·exact hlt
       ·rw [Nat.ble_eq_true_of_le hge] at hbs;cases hbs
      have hj:j<4096:=by
       rcases Nat.lt_or_ge j 4096 with hlt|hge
       ·exact hlt
       ·rw [Nat.ble_eq_true_of_le hge] at hb;cases hb
      have h0:t%3=0:=by omega
      have h1:t/3/4096=i:=by omega
      have h2:t/3%4096=j:=by omega
      refine ⟨.inl (by omega), ?_⟩
      show u=pY C.ioV st a w g.β t
      rw [pY,if_neg (by omega),if_pos h0,h1,h2,get_eq hv,EH hcut,hu];rfl
   ·subst hi'
    exact ⟨[],bF.bot _ _,by simp,by simp⟩
 ·have hs':(eM keep st.ep st.io 0 st.boxes)[s]?=some (some cs):=hs
  rw [oY,Nat.zero_add] at hs'
  cases hv:st.boxes[s]? with
  |none=>rw [hv] at hs';cases hs'
  |some x=>
   rw [hv] at hs'
   simp only [Option.map_some,Option.some.injEq] at hs'
   split at hs'
   ·cases hx:x with
    |none=>rw [hx] at hs';cases hs'
    |some xs=>
     rw [hx] at hs' hv
     simp only [Option.map_some,Option.some.injEq] at hs'
     subst hs'
     obtain ⟨arr,T,fr,fp,hb,hth,hr,hn,hni,hl,hl0,hw0⟩:=h.boxes s xs hv
     refine ⟨arr,T,fr,fp,hb,hth,tf (io:=st.io) hseen (c:=aE C g st w) (c':=aE C g' (st.mask keep) w) rfl rfl rfl rfl rfl hpres 0 hr ?_,hn,hni,hl,hl0,hw0⟩
     intro j u hu t ht
     simp only [Nat.zero_add,cV.rK] at ht
     cases hbb:Nat.ble 4096 j with
     |true=>rw [hbb] at ht;cases ht
     |false=>
      rw [hbb] at ht
      simp only [cond_false,Option.some.injEq] at ht
      have hj:j<4096:=by
       rcases Nat.lt_or_ge j 4096 with hlt|hge
       ·exact hlt
       ·rw [Nat.ble_eq_true_of_le hge] at hbb;cases hbb
      have h0:¬t%3=0:=by omega
      have h1:t/3/4096=s:=by omega
      have h2:t/3%4096=j:=by omega
      refine ⟨.inl (by omega), ?_⟩
      show u=pY C.ioV st a w g.β t
      rw [pY,if_neg (by omega),if_neg h0,h1,h2,hb]
      simp only
      rw [hu];rfl
   ·cases hs'
structure cr (ds:List Nat) (st st':AS):Prop where
 len:st'.slots.length=st.slots.length
 slot:∀i,i∉ds→st'.slots[i]?=st.slots[i]?
 boxes:st'.boxes=st.boxes
 ep:st'.ep=st.ep
 iss:∀i,i∉ds→nth st'.iss i=nth st.iss i
 ilen:st'.iss.length=st.iss.length
 io:st'.io=st.io
theorem cr.refl (ds:List Nat)(st:AS):cr ds st st:=⟨rfl,fun _ _=>rfl,rfl,rfl,fun _ _=>rfl,rfl,rfl⟩
theorem cr.trans {ds:List Nat}{st st1 st2:AS}(h:cr ds st st1)(k:cr ds st1 st2):cr ds st st2:=
 ⟨k.len.trans h.len,fun i hi=>(k.slot i hi).trans (h.slot i hi),k.boxes.trans h.boxes,k.ep.trans h.ep,fun i hi=>(k.iss i hi).trans (h.iss i hi),k.ilen.trans h.ilen,k.io.trans h.io⟩
theorem cr.put {ds:List Nat}{st:AS}{d:Option Nat}(hd:∀i,d=some i→i∈ds)(v:AV):cr ds st (st.put d v):=by
 cases d with
 |none=>exact cr.refl _ _
 |some d=>
  refine ⟨by rw [bw,List.length_set],fun i hi=> ?_,cM,uz,fun i _=>by rw [Bg],by rw [Bg],uF⟩
  rw [bw,List.getElem?_set_ne]
  rintro rfl
  exact hi (hd _ rfl)
theorem cr.bE {ds:List Nat}{st:AS}{d:Option Nat}(hd:∀i,d=some i→i∈ds):cr ds st (st.bE d):=by
 cases d with
 |none=>exact cr.refl _ _
 |some d=>
  refine ⟨rfl,fun i _=>rfl,rfl,rfl,fun i hi=> ?_, ?_,rfl⟩
  ·simp only [AS.bE,aU,bn]
   rw [List.getElem?_set_ne]
   rintro rfl
   exact hi (hd _ rfl)
  ·simp only [AS.bE,bn,List.length_set]
theorem jK {α:Type}{ds:List Nat}{o:Option α}{k:α→Option AS}{st':AS}(h:aa o k=some st')(hk:∀x,k x=some st'→cr ds st st'):cr ds st st':=by
 cases o with
 |none=>cases h
 |some x=>exact hk x h
theorem Ia {ds:List Nat}{n:Nat}{k:Option AS}{st':AS}(h:room n k=some st')(hk:k=some st'→cr ds st st'):cr ds st st':=by
 unfold room at h
 split at h
 ·exact hk h
 ·cases h
theorem Fz {ds:List Nat}{op:BinOp}{k:IntKind}{x y:Int}{K:AC→Option AS}{st':AS}(h:tN op k x y K=some st')(hk:∀z,K z=some st'→cr ds st st'):cr ds st st':=by
 unfold tN at h
 split at h<;>first
  |exact hk _ h
  |(split at h
    ·cases h
    ·exact hk _ h)
  |cases h
theorem FA {ds:List Nat}{op:BinOp}{x y:List UInt8}{K:AC→Option AS}{st':AS}(h:vt op x y K=some st')(hk:∀z,K z=some st'→cr ds st st'):cr ds st st':=by
 unfold vt at h
 split at h<;>first
  |exact Ia h (hk _)
  |exact hk _ h
  |cases h
theorem uM {ds:List Nat}{op:BinOp}{x y:AV}{K:AC→Option AS}{st':AS}(h:sw op x y K=some st')(hk:∀z,K z=some st'→cr ds st st'):cr ds st st':=by
 unfold sw at h
 split at h
 ·split at h
  ·split at h
   ·cases h
   ·exact hk _ h
  ·split at h
   ·cases h
   ·exact hk _ h
  ·split at h
   ·exact Fz h hk
   ·cases h
 ·exact FA h hk
 ·split at h
  ·exact hk _ h
  ·exact hk _ h
  ·cases h
 ·split at h
  ·exact jK h fun b hb=>hk _ hb
  ·exact jK h fun b hb=>hk _ hb
  ·cases h
 ·cases h
theorem tQ {ds:List Nat}{lo hi:Option Operand}{n:Nat}{K:Int→Int→Option AS}{st0 st':AS}(h:eh st0 lo hi n K=some st')(hk:∀x y,K x y=some st'→cr ds st st'):cr ds st st':=by
 unfold eh at h
 split at h<;>first
  |exact hk _ _ h
  |cases h
theorem xz {ds:List Nat}{op:BinOp}{b:Bool}{K:AC→Option AS}{st':AS}(h:qH op b K=some st')(hk:∀c,K c=some st'→cr ds st st'):cr ds st st':=by
 unfold qH at h
 split at h
 ·exact hk _ h
 ·exact hk _ h
 ·cases h
theorem zx {E:Env}{Γ:aJ}(hΓ:∀f,(Γ f).io=false∧(Γ f).bx=false){an:An}{ds:List Nat}{o:Oper}{st':AS}(hq:bL an ds o=true)(hd:∀i,o.dst=some i→i∈ds)(h:aI E Γ an o st some=some st'):cr ds st st':=by
 have hput:∀v,some (st.put o.dst v)=some st'→cr ds st st':=fun v hv=>by cases hv;exact cr.put hd v
 unfold aI at h
 split at h
 ·rename_i x ho
  simp only [bL,ho] at hq
  unfold pA at h
  cases hdd:o.dst with
  |none=>rw [hdd] at h;cases h
  |some d=>
   rw [hdd] at h hq
   simp only at h hq
   have hf:an.mv.contains d=false:=by simpa using hq
   rw [hf] at h
   simp only [Bool.false_eq_true,if_false] at h
   cases h
   exact cr.put (fun i hi=>hd i (by rw [hdd];exact hi)) _
 ·rename_i x ho
  have hlate:nL an o=false∨∃y,x=y∧(∀v,y≠ .const v)∧(∀t,y≠ .tmp t):=by
   cases x with
   |tmp t=>left;simp only [bL,ho,Bool.and_eq_true,Bool.not_eq_true'] at hq;exact hq.2
   |const v=>left;simpa only [bL,ho,Bool.not_eq_true'] using hq
   |func f=>simp [bL,ho] at hq
   |global g=>simp [bL,ho] at hq
  have hlate:nL an o=false:=by
   rcases hlate with h1|⟨y,rfl,h1,h2⟩
   ·exact h1
   ·cases x with
    |tmp t=>exact absurd rfl (h2 t)
    |const v=>exact absurd rfl (h1 v)
    |func f=>simp [bL,ho] at hq
    |global g=>simp [bL,ho] at hq
  simp only [bL,ho] at hq
  rw [if_neg (by simp [hlate])] at h
  unfold kg at h
  have hx:cr ds st (st.take x).2:=by
   cases x with
   |tmp t=>
    have ht:t∈ds:=by simp only [Bool.and_eq_true] at hq;simpa using hq.1
    exact cr.put (d:=some t) (fun i hi=>by cases hi;exact ht) _
   |const v=>exact cr.refl _ _
   |func f=>exact cr.refl _ _
   |global g=>exact cr.refl _ _
  split at h
  ·split at h
   ·exact hput _ h
   ·cases h
  ·rename_i v st1 _ htk
   cases h
   have:(st.take x).2=st1:=by rw [htk]
   rw [this] at hx
   exact hx.trans (cr.put hd _)
 ·unfold rz at h
  split at h
  ·rename_i t _
   split at h
   ·exact hput _ h
   ·cases t with
    |true=>exact hput _ h
    |false=>exact hput _ h
  ·cases h
 ·rename_i ho;simp [bL,ho] at hq
 ·rename_i ho;simp [bL,ho] at hq
 ·rename_i T p ho
  simp only [bL,ho] at hq
  have htk:uh an o=false:=by
   unfold uh
   cases hdd:o.dst with
   |none=>rfl
   |some d=>rw [hdd] at hq;simp only [Bool.not_eq_true'] at hq;simp only [hq,Bool.false_and]
  unfold kW at h
  split at h
  ·split at h
   ·split at h
    ·split at h
     ·rename_i d hdd
      rw [hdd] at hq
      simp only at hq
      have hf:an.mv.contains d=false:=by simpa using hq
      rw [hf] at h
      simp only [Bool.false_eq_true,if_false] at h
      exact hput _ h
     ·cases h
    ·cases h
   ·cases h
  ·rw [if_neg (by simp [htk])] at h
   split at h
   ·split at h
    ·exact hput _ h
    ·cases h
   ·unfold qw at h
    split at h
    ·split at h
     ·split at h
      ·split at h
       ·obtain ⟨y,_,h⟩:=vZ h
        exact hput _ h
       ·cases h
      ·cases h
     ·cases h
    ·cases h
  ·cases h
 ·rename_i ho;simp [bL,ho] at hq
 ·split at h
  ·exact hput _ h
  ·exact hput _ h
  ·cases h
 ·unfold oo at h
  split at h
  ·split at h
   ·exact uM h fun z hz=>hput _ hz
   ·cases h
  ·split at h
   ·split at h
    ·exact uM h fun z hz=>hput _ hz
    ·cases h
   ·cases h
  ·split at h
   ·split at h
    ·cases h
    ·exact xz h fun z hz=>hput _ hz
   ·cases h
  ·split at h
   ·exact xz h fun z hz=>hput _ hz
   ·cases h
  ·exact uM h fun z hz=>hput _ hz
 ·unfold L1 at h
  split at h
  ·exact hput _ h
  ·exact hput _ h
  ·exact hput _ h
  ·cases h
 ·unfold nB at h
  split at h
  ·split at h
   ·exact hput _ h
   ·cases h
  ·split at h
   ·exact hput _ h
   ·cases h
  ·cases h
 ·unfold dX at h
  split at h
  ·split at h
   ·exact jK h fun y hy=>hput _ hy
   ·cases h
  ·cases h
 ·unfold oX at h
  split at h
  ·split at h
   ·exact jK h fun y hy=>hput _ hy
   ·cases h
  ·cases h
 ·rename_i T parts ho
  simp only [bL,ho] at hq
  have he:parts=#[]:=by simpa using hq
  subst he
  unfold oR at h
  split at h
  ·simp only [a9,List.map_nil] at h
   split at h
   ·exact hput _ h
   ·cases h
  ·cases h
 ·rename_i ho;simp [bL,ho] at hq
 ·rename_i ho;simp [bL,ho] at hq
 ·rename_i ho
  simp only [bL,ho,Bool.not_eq_true'] at hq
  unfold n5 at h
  rw [if_neg (by simp [hq])] at h
  split at h
  ·split at h
   ·exact tQ h fun x y hxy=>jK hxy fun z hz=>hput _ hz
   ·cases h
  ·split at h
   ·exact tQ h fun x y hxy=>jK hxy fun z hz=>hput _ hz
   ·cases h
  ·cases h
 ·rename_i ho;simp [bL,ho] at hq
 ·rename_i ho;simp [bL,ho] at hq
 ·rename_i ho;simp [bL,ho] at hq
 ·rename_i ho;simp [bL,ho] at hq
 ·unfold xq at h
  split at h
  ·split at h
   ·exact hput _ h
   ·cases h
  ·split at h
   ·exact hput _ h
   ·cases h
  ·cases h
 ·unfold yA at h
  split at h
  ·exact hput _ h
  ·cases h
 ·unfold yz at h
  split at h
  ·exact hput _ h
  ·cases h
 ·rename_i ho;simp [bL,ho] at hq
 ·unfold qY at h
  split at h
  ·rename_i k _
   rw [(hΓ k).2,(hΓ k).1] at h
   simp only [cond_false] at h
   refine jK h fun y hy=> ?_
   cases hsel:(Γ k).sel y with
   |true=>rw [hsel] at hy;cases hy;exact (cr.bE hd).trans (cr.put hd _)
   |false=>rw [hsel] at hy;cases hy;exact (cr.bE hd).trans (cr.put hd _)
  ·cases h
 ·cases h
theorem Dl {ops:List Oper}{o:Oper}(ho:o∈ops){i:Nat}(hi:o.dst=some i):i∈sX ops:=List.mem_filterMap.2 ⟨o,ho,hi⟩
theorem xA {E:Env}{Γ:aJ}(hΓ:∀f,(Γ f).io=false∧(Γ f).bx=false){an:An}{ops:List Oper}{o:Oper}{st':AS}(ho:o∈ops)(hq:bL an (sX ops) o=true)(h:bT E Γ an ops o st some=some st'):cr (sX ops) st st':=by
 have hd:∀i,o.dst=some i→i∈sX ops:=fun i hi=>Dl ho hi
 unfold bT at h
 split at h
 ·exact zx hΓ hq hd h
 ·rename_i j want hg
  split at h
  ·rename_i d hdd
   have hdm:d∈sX ops:=by
    rw [aU] at hdd
    cases ho':ops[j]? with
    |none=>rw [ho'] at hdd;cases hdd
    |some o'=>rw [ho'] at hdd;exact Dl (List.mem_of_getElem? ho') hdd
   have hp:∀t,cr (sX ops) st (st.put (some d) (.one (.bool t))):=fun t=>cr.put (fun i hi=>by cases hi;exact hdm) _
   split at h
   ·rename_i b hb
    have main:∀t,(if (t==want)=true then aI E Γ an o (st.put (some d) (.one (.bool t))) some else some ((st.put (some d) (.one (.bool t))).put o.dst (.one .un)))=some st'→cr (sX ops) st st':=by
     intro t ht
     split at ht
     ·exact (hp t).trans (zx hΓ hq hd ht)
     ·cases ht;exact (hp t).trans (cr.put hd _)
    cases b with
    |true=>exact main true h
    |false=>exact main false h
   ·cases h;exact cr.put hd _
   ·cases h
  ·cases h
theorem Dz {E:Env}{Γ:aJ}(hΓ:∀f,(Γ f).io=false∧(Γ f).bx=false){an:An}{ops:List Oper}(hq:∀o∈ops,bL an (sX ops) o=true):∀(l:List Oper)(st st':AS),(∀o∈l,o∈ops)→Bv E Γ an ops l st some=some st'→cr (sX ops) st st'
 |[],st,st',_,h=>by cases h;exact cr.refl _ _
 |o::l,st,st',hl,h=>by
  simp only [Bv] at h
  rw [gG] at h
  cases hg:bT E Γ an ops o st some with
  |none=>rw [hg] at h;cases h
  |some st1=>
   rw [hg] at h
   exact (xA hΓ (hl o (by simp)) (hq o (hl o (by simp))) hg).trans (Dz hΓ hq l st1 st' (fun o' ho'=>hl o' (by simp [ho'])) h)
theorem sW {ds:List Nat}:∀(l:List Nat)(st:AS),(∀i∈l,i∈ds)→cr ds st (st.ow l)
 |[],st,_=>cr.refl _ _
 |d::l,st,h=>by
  have hd:∀i,some d=some i→i∈ds:=fun i hi=>by cases hi;exact h d (by simp)
  exact ((cr.put hd _).trans (cr.bE hd)).trans (sW l _ (fun i hi=>h i (by simp [hi])))
theorem yZ:∀(l:List Nat)(st:AS)(i:Nat)(av:AV),(st.ow l).slots[i]?=some av→i∈l∨st.slots[i]?=some .bot→av= .bot
 |[],st,i,av,h,hi=>by
  rcases hi with hi|hi
  ·cases hi
  ·have:st.slots[i]?=some av:=h
   rw [hi] at this;cases this;rfl
 |d::l,st,i,av,h,hi=>by
  refine yZ l _ i av h ?_
  by_cases hil:i∈l
  ·exact .inl hil
  ·refine .inr ?_
   rw [mE,bw,List.getElem?_set]
   have hlt:i<st.slots.length:=by
    have h1:=(sW (ds:=d::l) l ((st.put (some d) .bot).bE (some d)) (fun i hi=>by simp [hi])).len
    have h2:=(List.getElem?_eq_some_iff.1 h).1
    have h3:(AS.ow ((st.put (some d) .bot).bE (some d)) l).slots.length=st.slots.length:=by rw [h1,mE,bw,List.length_set]
    have h4:i<(AS.ow ((st.put (some d) .bot).bE (some d)) l).slots.length:=h2
    omega
   split
   ·rename_i hdi
    subst hdi
    rw [if_pos hlt]
   ·rename_i hdi
    rcases hi with hi|hi
    ·simp only [List.mem_cons] at hi
     rcases hi with hi|hi
     ·exact absurd hi.symm hdi
     ·exact absurd hi hil
    ·exact hi
theorem za:∀(l:List Nat)(st:AS)(i:Nat),i∈l∨(nth st.iss i).getD true=true→(nth (st.ow l).iss i).getD true=true
 |[],st,i,hi=>by
  rcases hi with hi|hi
  ·cases hi
  ·exact hi
 |d::l,st,i,hi=>by
  refine za l _ i ?_
  by_cases hil:i∈l
  ·exact .inl hil
  ·refine .inr ?_
   have he:(AS.bE (st.put (some d) .bot) (some d)).iss=ch st.iss d true:=rfl
   rw [he,bn,aU,List.getElem?_set]
   split
   ·split<;>rfl
   ·rename_i hdi
    rcases hi with hi|hi
    ·simp only [List.mem_cons] at hi
     rcases hi with hi|hi
     ·exact absurd hi.symm hdi
     ·exact absurd hi hil
    ·rw [aU] at hi;exact hi
theorem eY.weaken {st':AS}(h:eY C st' a w){ds:List Nat}(hn:cr ds st st'){s:Nat}{b:Bool}(hb:getBool st' s=some b):eY C ((st.ow ds).put (some s) (.one (.bool b))) a w:=by
 have hbs:st'.get s= .val false [.bool b]:=by
  unfold getBool at hb
  split at hb
  ·rename_i b' hg;cases hb;exact hg
  ·cases hb
 have hkn:=h.known hbs
 obtain ⟨g,h⟩:=h
 have hdn:=sW (ds:=ds) ds st (fun _ hi=>hi)
 have hboxes:((st.ow ds).put (some s) (.one (.bool b))).boxes=st'.boxes:=by rw [cM,hdn.boxes,hn.boxes]
 have hep:((st.ow ds).put (some s) (.one (.bool b))).ep=st'.ep:=by rw [uz,hdn.ep,hn.ep]
 have hlen:((st.ow ds).put (some s) (.one (.bool b))).slots.length=st'.slots.length:=by rw [bw,List.length_set,hdn.len,hn.len]
 have hiss:∀t,eg st' t→eg ((st.ow ds).put (some s) (.one (.bool b))) t:=by
  intro t ht
  rw [tO]
  rcases ht with ht|ht
  ·exact .inl ht
  ·refine .inr (za ds st _ ?_)
   by_cases hi:t/3/4096∈ds
   ·exact .inl hi
   ·exact .inr (by rw [←hn.iss _ hi];exact ht)
 have hpres:∀s',bN st' s'→bN ((st.ow ds).put (some s) (.one (.bool b))) s':=fun s' hs=>by unfold bN at hs⊢;rw [hboxes];exact hs
 have hle:(aE C g st' w).Le (aE C g ((st.ow ds).put (some s) (.one (.bool b))) w):=
  ⟨rfl,fun t ht=>⟨hiss t ht,rfl⟩,fun _ _ _ _ hv=>hv,by show st'.ep≤_;rw [←hep];exact Nat.le_refl _,fun s' hs=>⟨hpres s' hs,rfl⟩,fun _ b o u ho hu=>⟨ho,hu⟩⟩
 refine ⟨g,h.step (fun _=>True) hle h.defers (by rw [hlen];exact h.size) (by rw [hboxes,hlen];exact h.bsize) h.frame h.labs (fun b x _ hx=>⟨hx,rfl,rfl⟩) ?_ ?_ ?_ (.inl ⟨trivial,by rw [uF,hdn.io,hn.io]⟩)⟩
 ·intro i av hi
  rw [bw,List.getElem?_set] at hi
  split at hi
  ·rename_i hsi
   subst hsi
   split at hi
   ·cases hi
    refine .inr ⟨[],eP ?_,by simp,by simp⟩
    exact ⟨hkn,rfl⟩
   ·cases hi
  ·by_cases hid:i∈ds
   ·have:=yZ ds st i av hi (.inl hid)
    subst this
    exact .inr ⟨[],bF.bot _ _,by simp,by simp⟩
   ·rw [hdn.slot i hid] at hi
    exact .inl ⟨trivial,by rw [hn.slot i hid];exact hi,rfl⟩
 ·intro s' cs hs
  rw [hboxes] at hs
  exact .inl ⟨trivial,hs,rfl⟩
 ·intro k v av hk
  simp at hk
theorem Ab (Γ:aJ)(f:Nat):(Γ.calm f).io=false∧(Γ.calm f).bx=false:=by
 unfold aJ.calm
 cases h:(Γ f).io with
 |true=>exact ⟨rfl,rfl⟩
 |false=>
  cases h2:(Γ f).bx with
  |true=>exact ⟨rfl,rfl⟩
  |false=>exact ⟨h,h2⟩
theorem Sound.calm {E:Env}{Γ:aJ}(h:Sound P E Γ):Sound P E Γ.calm:=by
 refine ⟨h.ty,h.eqs,h.fts,fun f=> ?_,h.mixed⟩
 unfold aJ.calm
 cases (Γ f).io with
 |true=>intro xs y hy;cases hy
 |false=>
  cases (Γ f).bx with
  |true=>intro xs y hy;cases hy
  |false=>exact h.fns f
end Go.Dn
