import Derived.Test.YtmpbhbfdoopggabGreatDnDen
import Derived.Test.YtmpbhbfdoopggabGreatDnNat
/- What is kept at a loop's door; what a region whose ways meet again leaves. -/
namespace Go.Dn
open Go.RowKit
variable {P:Program} {C:Ctx} {st:AS} {a:Act} {w:World} {R:Type} {r:R}
theorem ux (keep:List Nat)(ep:Nat)(io:List AC):∀(l:List AV)(n i:Nat),(fG keep ep io n l)[i]?=(l[i]?).map fun v=>if keep.contains (n+i) then v.mask keep ep io (n+i) else .bot
 |[],n,i=>by simp [fG]
 |v::l,n,0=>by simp [fG]
 |v::l,n,i+1=>by
  simp only [fG,List.getElem?_cons_succ]
  rw [ux keep ep io l (n+1) i,show n+1+i=n+(i+1) by omega]
theorem qE (keep:List Nat)(ep:Nat)(io:List AC):∀(l:List (Option (List AC)))(n i:Nat),(fF keep ep io n l)[i]?=(l[i]?).map fun b=>if keep.contains (n+i) then b.map (wO keep ep io (.box (n+i)) 0) else none
 |[],n,i=>by simp [fF]
 |v::l,n,0=>by simp [fF]
 |v::l,n,i+1=>by
  simp only [fF,List.getElem?_cons_succ]
  rw [qE keep ep io l (n+1) i,show n+1+i=n+(i+1) by omega]
theorem mK (keep:List Nat)(ep:Nat)(io:List AC):∀(l:List AV)(n:Nat),(fG keep ep io n l).length=l.length
 |[],_=>rfl
 |_::l,n=>by simp [fG,mK keep ep io l]
theorem qR (keep:List Nat)(ep:Nat)(io:List AC):∀(l:List (Option (List AC)))(n:Nat),(fF keep ep io n l).length=l.length
 |[],_=>rfl
 |_::l,n=>by simp [fF,qR keep ep io l]
def G2:Value→AV→List Value
 | .agg vs,.val true _=>vs.toList
 |v,_=>[v]
theorem G8 {g:Bool}{v:Value}{vs:List Value}{cs:List AC}(h:Cut g v vs):G2 v (.val g cs)=vs:=by
 cases g with
 |true=>simp only [Cut,if_true] at h;subst h;simp [G2]
 |false=>simp only [Cut] at h;subst h;cases v<;>rfl
def rn (ioV:List Value)(st:AS)(a:Act)(w:World)(β:Nat→Nat)(t:Nat):Value:=
 if t%3=0∧t/3/4096=1000003 then (ioV[t/3%4096]?).getD undef
 else if t%3=0 then ((G2 (a.tmps.getD (t/3/4096) undef) (st.get (t/3/4096)))[t/3%4096]?).getD undef
 else match w.heap[β (t/3/4096)]? with
  |some (.cells arr _ _)=>(arr.toList[t/3%4096]?).getD undef
  |_=>undef
def GO (c c':RC)(io:List AC):Prop:=∀j n (e:CT)(ys:List e.D),AC.MN io j n e=some ys→∃v0 fp0,bq c.hw c.w (.sl e) [v0] ys fp0∧v0=c.hdr n∧∀q,(dm.io j).tE=some q→c'.iss q∧v0=c'.hdr q
theorem KO {c c':RC}{io:List AC}(hio:GO c c' io){keep:List Nat}{rt:dm}{v:Value}{x:AC}{fp:List Nat}(h:cp c v x fp)(hhw:c'.hw=c.hw)(hw:c'.w=c.w)(hA:c'.A=c.A)(hep:c'.ep=0)(hβ:c'.β=c.β)
 (hpres:∀s,keep.contains s=true→c.pres s→c'.pres s) (hst:∀t,rt.tE=some t→c'.iss t∧v=c'.hdr t):cp c' v (x.mask keep c.ep io rt) fp:=by
 have hS:c'.S=c.S:=by funext b o;simp [RC.S,hhw,hA]
 cases x with
 |int k n=>exact h
 |bool b=>exact h
 |str s=>exact h
 |nilsl=>exact h
 |fn f=>exact h
 |un=>exact h
 |bot=>exact h
 |ptr s off=>
  simp only [AC.mask]
  split
  ·rename_i hk
   exact ⟨by rw [hβ];exact h.1,hpres s hk h.2.1,h.2.2⟩
  ·exact h.2.2
 |elt fl e y i off=>
  cases fl with
  |own t=>exact h.elim
  |nest _ _ _ _ _ _=>exact h.elim
  |part _ _ _ _=>exact h.elim
  |holed _ _ _=>exact h.elim
  |arg=>exact h.1
  |loc ep pv=>exact h.1
 |sl fl e xs=>
  cases fl with
  |own t=>exact ⟨bq.mono h.1 (fun b _=>⟨by rw [hw],by rw [hhw]⟩),hst⟩
  |nest _ _ _ _ _ _=>exact h.1
  |part _ _ _ _=>exact h.1
  |holed _ _ _=>
   obtain ⟨_,⟨k,hk,h3⟩,_⟩:=h
   exact ⟨fun q hq=>(by cases hq),⟨k,hk,h3.mono (fun b hb=>⟨by rw [hw],by rw [hhw]⟩)⟩,by simp⟩
  |arg=>exact ⟨h.1,by rw [hA,hw];exact h.2⟩
  |loc ep pv=>
   obtain ⟨h1,h2,h3,h4,h5⟩:=h
   have plain:cp c' v (if (ep==c.ep)=true then AC.sl (.loc 0 none) e xs else .bot) fp:=by
    split
    ·rename_i he
     refine ⟨h1,by rw [hep];exact Nat.le_refl _,h3,fun _=> ?_,by simp⟩
     rw [hS,hw]
     exact h4 (by simpa using he)
    ·exact h1
   simp only [AC.mask]
   split
   ·rename_i j n
    split
    ·rename_i ys hnow
     obtain ⟨v0,fp0,hown,hv0,hq⟩:=hio j n e ys hnow
     obtain ⟨_,k2⟩:=h5 _ _ rfl
     have hv:v0=v:=hv0.trans k2.symm
     subst hv
     refine ⟨h1,by rw [hep];exact Nat.le_refl _,vQ hown,fun _=> ?_,fun r t hp=> ?_⟩
     ·rw [hS,hw];exact bq.rep (fun b o ho=> .inr ho) hown
     ·cases hst':(dm.io j).tE with
      |none=>rw [hst'] at hp;cases hp
      |some q=>
       rw [hst'] at hp
       simp at hp
       obtain ⟨_,rfl⟩:=hp
       exact ⟨(hq q hst').1,(hq q hst').2⟩
    ·exact plain
   ·exact plain
theorem uZ {c c':RC}{io:List AC}(hio:GO c c' io){keep:List Nat}{f:Nat→dm}(hhw:c'.hw=c.hw)(hw:c'.w=c.w)(hA:c'.A=c.A)(hep:c'.ep=0)(hβ:c'.β=c.β)
 (hpres:∀s,keep.contains s=true→c.pres s→c'.pres s):∀{vs:List Value}{xs:List AC}{fp:List Nat}(j:Nat),aw c vs xs fp→
  (∀i v,vs[i]?=some v→∀t,(f (j+i)).tE=some t→c'.iss t∧v=c'.hdr t)→aw c' vs (wO keep c.ep io f j xs) fp
 |[],[],_,_,h,_=>h
 |v::_,_::_,_,j,h,hm=>by
  obtain ⟨f1,f2,rfl,h1,h2⟩:=h
  exact ⟨f1,f2,rfl,KO hio h1 hhw hw hA hep hβ hpres (fun t ht=>hm 0 v rfl t ht),
   uZ hio hhw hw hA hep hβ hpres (j+1) h2 (fun i u hu t ht=>hm (i+1) u (by simpa using hu) t (by rwa [show j+(i+1)=j+1+i by omega]))⟩
 |[],_::_,_,_,h,_=>h.elim
 |_::_,[],_,_,h,_=>h.elim
theorem M7 {c:RC}{v:Value}{x:AC}{fp:List Nat}(h:cp c v x fp)(hno:∀(tag:Option Nat)(e:CT)(xs:List e.D),x= .sl (.own tag) e xs→False)
 (hno2:∀(tag:Option Nat)(i:Int)(ep:Option Nat)(e:CT)(xs:List e.D),x= .sl (.holed tag i ep) e xs→False):fp=[]:=by
 cases x with
 |int k n=>exact h.2
 |bool b=>exact h.2
 |str s=>exact h.2
 |nilsl=>exact h.2
 |fn f=>exact h.2
 |un=>exact h.2
 |bot=>exact h
 |ptr s off=>exact h.2.2
 |elt fl e y i off=>
  cases fl with
  |own t=>exact h.elim
  |nest _ _ _ _ _ _=>exact h.elim
  |part _ _ _ _=>exact h.elim
  |holed _ _ _=>exact h.elim
  |arg=>exact h.1
  |loc ep pv=>exact h.1
 |sl fl e xs=>
  cases fl with
  |own t=>exact (hno _ _ _ rfl).elim
  |nest _ _ _ _ _ _=>exact h.1
  |part _ _ _ _=>exact h.1
  |holed _ _ _=>exact (hno2 _ _ _ _ _ rfl).elim
  |arg=>exact h.1
  |loc ep pv=>exact h.1
theorem fQ.mask (h:fQ C st a w)(keep:List Nat):fQ C (st.mask keep) a w:=by
 obtain ⟨g,h⟩:=h
 let g':Gh:={g with hdr:=rn C.ioV st a w g.β}
 have hpres:∀s,keep.contains s=true→cl st s→cl (st.mask keep) s:=by
  rintro s hk ⟨cs,hs⟩
  refine ⟨wO keep st.ep st.io (.box s) 0 cs, ?_⟩
  show (fF keep st.ep st.io 0 st.boxes)[s]?=_
  rw [qE,hs]
  simp only [Option.map_some,Nat.zero_add,if_pos hk]
 obtain ⟨fpi,hri,hni,hli⟩:=h.io
 have hioq:∀j v,C.ioV[j]?=some v→∀q,(dm.io j).tE=some q→eV (st.mask keep) q∧v=rn C.ioV st a w g.β q:=by
  intro j v hv q hq
  simp only [dm.tE] at hq
  cases hb:Nat.ble 4096 j with
  |true=>rw [hb] at hq;cases hq
  |false=>
   rw [hb] at hq
   simp only [cond_false,Option.some.injEq,ot] at hq
   have hj:j<4096:=by
    rcases Nat.lt_or_ge j 4096 with hlt|hge
    ·exact hlt
    ·rw [Nat.ble_eq_true_of_le hge] at hb;cases hb
   have h0:q%3=0:=by omega
   have h1:q/3/4096=1000003:=by omega
   have h2:q/3%4096=j:=by omega
   refine ⟨.inl (by omega), ?_⟩
   rw [rn,if_pos ⟨h0,h1⟩,h2,hv];rfl
 have hseen:GO (aG C g st w) (aG C g' (st.mask keep) w) st.io:=by
  intro j n e ys hnow
  unfold AC.MN at hnow
  split at hnow
  ·rename_i t' e' ys' hj
   split at hnow
   ·rename_i he
    subst he
    cases ht:(t'==n) with
    |false=>rw [ht] at hnow;cases hnow
    |true=>
     rw [ht] at hnow
     have:t'=n:=by simpa using ht
     subst this
     cases hnow
     rw [ba] at hj
     obtain ⟨v,f,hv,hr,_⟩:=hri.get j _ hj
     exact ⟨v,f,hr.1,(hr.2 t' rfl).2,fun q hq=>hioq j v hv q hq⟩
   ·cases hnow
  ·cases hnow
 have hmio:∀(j:Nat){vs:List Value}{xs:List AC}{fp:List Nat},aw (aG C g st w) vs xs fp→(∀i v,vs[i]?=some v→C.ioV[j+i]?=some v)→aw (aG C g' (st.mask keep) w) vs (HP keep j xs) fp:=by
  intro j vs
  induction vs generalizing j with
  |nil=>intro xs fp hr _;cases xs with
   |nil=>exact hr
   |cons _ _=>exact hr.elim
  |cons v vs ih=>
   intro xs fp hr hv
   cases xs with
   |nil=>exact hr.elim
   |cons x xs=>
    obtain ⟨f1,f2,rfl,r1,r2⟩:=hr
    refine ⟨f1,f2,rfl, ?_,ih (j+1) r2 (fun i u hu=>by rw [show j+1+i=j+(i+1) by omega];exact hv (i+1) u (by simpa using hu))⟩
    have hv0:=hv 0 v rfl
    rw [Nat.add_zero] at hv0
    split
    ·rename_i tg e ys
     exact ⟨r1.1,fun q hq=>hioq j v hv0 q hq⟩
    ·rename_i tag i ep e ys
     obtain ⟨_,⟨k,hk,h3⟩,_⟩:=r1
     exact ⟨fun q hq=>(by cases hq),⟨k,hk,h3⟩,by simp⟩
    ·rename_i s off
     split
     ·rename_i hk
      exact ⟨r1.1,hpres s hk r1.2.1,r1.2.2⟩
     ·exact r1.2.2
    ·rename_i hno hno2 _
     cases hfl:x.b5 with
     |true=>
      obtain ⟨rfl,k⟩:=kV (c':=aG C g' (st.mask keep) w) r1 hfl
      exact k
     |false=>exact M7 r1 hno hno2
 refine ⟨g',h.defers, ?_, ?_,fun i av hi=> ?_,fun s cs hs=> ?_,fun k v av hk=>by simp at hk,h.labs,h.frame,⟨fpi,hmio 0 hri (fun i v hv=>by rw [Nat.zero_add];exact hv),hni,hli⟩⟩
 ·show _=(fG keep st.ep st.io 0 st.slots).length
  rw [mK];exact h.size
 ·show (fF keep st.ep st.io 0 st.boxes).length=(fG keep st.ep st.io 0 st.slots).length
  rw [mK,qR];exact h.bsize
 ·have hi':(fG keep st.ep st.io 0 st.slots)[i]?=some av:=hi
  rw [ux,Nat.zero_add] at hi'
  cases hv:st.slots[i]? with
  |none=>rw [hv] at hi';cases hi'
  |some x=>
   rw [hv] at hi'
   simp only [Option.map_some,Option.some.injEq] at hi'
   split at hi'
   ·subst hi'
    cases hx:x with
    |tup ts=>exact ⟨[],bZ.bot _ _,by simp,by simp⟩
    |val gg cs=>
     rw [hx] at hv
     obtain ⟨fp,⟨vs,hcut,hr⟩,hn,hl⟩:=h.slots i _ hv
     refine ⟨fp,⟨vs,hcut,uZ (io:=st.io) hseen (c:=aG C g st w) (c':=aG C g' (st.mask keep) w) rfl rfl rfl rfl rfl hpres 0 hr ?_⟩,hn,hl⟩
     intro j u hu t ht
     simp only [Nat.zero_add,dm.tE] at ht
     cases hb:Nat.ble 4096 j with
     |true=>rw [hb] at ht;cases ht
     |false=>
      rw [hb] at ht
      simp only [cond_false] at ht
      cases hbs:Nat.ble 1000000 i with
      |true=>rw [hbs] at ht;cases ht
      |false=>
      rw [hbs] at ht
      simp only [cond_false,Option.some.injEq] at ht
      have hi6:i<1000000:=by
       rcases Nat.lt_or_ge i 1000000 with hlt|hge
       ·exact hlt
       ·rw [Nat.ble_eq_true_of_le hge] at hbs;cases hbs
      have hj:j<4096:=by
       rcases Nat.lt_or_ge j 4096 with hlt|hge
       ·exact hlt
       ·rw [Nat.ble_eq_true_of_le hge] at hb;cases hb
      have h0:t%3=0:=by omega
      have h1:t/3/4096=i:=by omega
      have h2:t/3%4096=j:=by omega
      refine ⟨.inl (by omega), ?_⟩
      show u=rn C.ioV st a w g.β t
      rw [rn,if_neg (by omega),if_pos h0,h1,h2,get_eq hv,G8 hcut,hu];rfl
   ·subst hi'
    exact ⟨[],bZ.bot _ _,by simp,by simp⟩
 ·have hs':(fF keep st.ep st.io 0 st.boxes)[s]?=some (some cs):=hs
  rw [qE,Nat.zero_add] at hs'
  cases hv:st.boxes[s]? with
  |none=>rw [hv] at hs';cases hs'
  |some x=>
   rw [hv] at hs'
   simp only [Option.map_some,Option.some.injEq] at hs'
   split at hs'
   ·cases hx:x with
    |none=>rw [hx] at hs';cases hs'
    |some xs=>
     rw [hx] at hs' hv
     simp only [Option.map_some,Option.some.injEq] at hs'
     subst hs'
     obtain ⟨arr,T,fr,fp,hb,hth,hr,hn,hni,hl,hl0,hw0⟩:=h.boxes s xs hv
     refine ⟨arr,T,fr,fp,hb,hth,uZ (io:=st.io) hseen (c:=aG C g st w) (c':=aG C g' (st.mask keep) w) rfl rfl rfl rfl rfl hpres 0 hr ?_,hn,hni,hl,hl0,hw0⟩
     intro j u hu t ht
     simp only [Nat.zero_add,dm.tE] at ht
     cases hbb:Nat.ble 4096 j with
     |true=>rw [hbb] at ht;cases ht
     |false=>
      rw [hbb] at ht
      simp only [cond_false,Option.some.injEq] at ht
      have hj:j<4096:=by
       rcases Nat.lt_or_ge j 4096 with hlt|hge
       ·exact hlt
       ·rw [Nat.ble_eq_true_of_le hge] at hbb;cases hbb
      have h0:¬t%3=0:=by omega
      have h1:t/3/4096=s:=by omega
      have h2:t/3%4096=j:=by omega
      refine ⟨.inl (by omega), ?_⟩
      show u=rn C.ioV st a w g.β t
      rw [rn,if_neg (by omega),if_neg h0,h1,h2,hb]
      simp only
      rw [hu];rfl
   ·cases hs'
structure cP (ds:List Nat) (st st':AS):Prop where
 len:st'.slots.length=st.slots.length
 slot:∀i,i∉ds→st'.slots[i]?=st.slots[i]?
 boxes:st'.boxes=st.boxes
 ep:st'.ep=st.ep
 iss:∀i,i∉ds→nth st'.iss i=nth st.iss i
 ilen:st'.iss.length=st.iss.length
 io:st'.io=st.io
theorem cP.refl (ds:List Nat)(st:AS):cP ds st st:=⟨rfl,fun _ _=>rfl,rfl,rfl,fun _ _=>rfl,rfl,rfl⟩
theorem cP.trans {ds:List Nat}{st st1 st2:AS}(h:cP ds st st1)(k:cP ds st1 st2):cP ds st st2:=
 ⟨k.len.trans h.len,fun i hi=>(k.slot i hi).trans (h.slot i hi),k.boxes.trans h.boxes,k.ep.trans h.ep,fun i hi=>(k.iss i hi).trans (h.iss i hi),k.ilen.trans h.ilen,k.io.trans h.io⟩
theorem cP.put {ds:List Nat}{st:AS}{d:Option Nat}(hd:∀i,d=some i→i∈ds)(v:AV):cP ds st (st.put d v):=by
 cases d with
 |none=>exact cP.refl _ _
 |some d=>
  refine ⟨by rw [bN,List.length_set],fun i hi=> ?_,df,wE,fun i _=>by rw [Dy],by rw [Dy],wL⟩
  rw [bN,List.getElem?_set_ne]
  rintro rfl
  exact hi (hd _ rfl)
theorem cP.bX {ds:List Nat}{st:AS}{d:Option Nat}(hd:∀i,d=some i→i∈ds):cP ds st (st.bX d):=by
 cases d with
 |none=>exact cP.refl _ _
 |some d=>
  refine ⟨rfl,fun i _=>rfl,rfl,rfl,fun i hi=> ?_, ?_,rfl⟩
  ·simp only [AS.bX,ba,bE]
   rw [List.getElem?_set_ne]
   rintro rfl
   exact hi (hd _ rfl)
  ·simp only [AS.bX,bE,List.length_set]
theorem kP {α:Type}{ds:List Nat}{o:Option α}{k:α→Option AS}{st':AS}(h:aa o k=some st')(hk:∀x,k x=some st'→cP ds st st'):cP ds st st':=by
 cases o with
 |none=>cases h
 |some x=>exact hk x h
theorem K1 {ds:List Nat}{n:Nat}{k:Option AS}{st':AS}(h:room n k=some st')(hk:k=some st'→cP ds st st'):cP ds st st':=by
 unfold room at h
 split at h
 ·exact hk h
 ·cases h
theorem HZ {ds:List Nat}{op:BinOp}{k:IntKind}{x y:Int}{K:AC→Option AS}{st':AS}(h:vJ op k x y K=some st')(hk:∀z,K z=some st'→cP ds st st'):cP ds st st':=by
 unfold vJ at h
 split at h<;>first
  |exact hk _ h
  |(split at h
    ·cases h
    ·exact hk _ h)
  |cases h
theorem H0 {ds:List Nat}{op:BinOp}{x y:List UInt8}{K:AC→Option AS}{st':AS}(h:xC op x y K=some st')(hk:∀z,K z=some st'→cP ds st st'):cP ds st st':=by
 unfold xC at h
 split at h<;>first
  |exact K1 h (hk _)
  |exact hk _ h
  |cases h
theorem wS {ds:List Nat}{op:BinOp}{x y:AV}{K:AC→Option AS}{st':AS}(h:um op x y K=some st')(hk:∀z,K z=some st'→cP ds st st'):cP ds st st':=by
 unfold um at h
 split at h
 ·split at h
  ·split at h
   ·cases h
   ·exact hk _ h
  ·split at h
   ·cases h
   ·exact hk _ h
  ·split at h
   ·exact HZ h hk
   ·cases h
 ·exact H0 h hk
 ·split at h
  ·exact hk _ h
  ·exact hk _ h
  ·cases h
 ·split at h
  ·exact kP h fun b hb=>hk _ hb
  ·exact kP h fun b hb=>hk _ hb
  ·cases h
 ·cases h
theorem vO {ds:List Nat}{lo hi:Option Operand}{n:Nat}{K:Int→Int→Option AS}{st0 st':AS}(h:eX st0 lo hi n K=some st')(hk:∀x y,K x y=some st'→cP ds st st'):cP ds st st':=by
 unfold eX at h
 split at h<;>first
  |exact hk _ _ h
  |cases h
theorem zX {ds:List Nat}{op:BinOp}{b:Bool}{K:AC→Option AS}{st':AS}(h:sC op b K=some st')(hk:∀c,K c=some st'→cP ds st st'):cP ds st st':=by
 unfold sC at h
 split at h
 ·exact hk _ h
 ·exact hk _ h
 ·cases h
theorem B8 {E:Env}{Γ:aM}(hΓ:∀f,(Γ f).io=false∧(Γ f).bx=false){an:An}{ds:List Nat}{o:Oper}{st':AS}(hq:cj an ds o=true)(hd:∀i,o.dst=some i→i∈ds)(h:aN E Γ an o st some=some st'):cP ds st st':=by
 have hput:∀v,some (st.put o.dst v)=some st'→cP ds st st':=fun v hv=>by cases hv;exact cP.put hd v
 unfold aN at h
 split at h
 ·rename_i x ho
  simp only [cj,ho] at hq
  unfold qS at h
  cases hdd:o.dst with
  |none=>rw [hdd] at h;cases h
  |some d=>
   rw [hdd] at h hq
   simp only at h hq
   have hf:an.mv.contains d=false:=by simpa using hq
   rw [hf] at h
   simp only [Bool.false_eq_true,if_false] at h
   cases h
   exact cP.put (fun i hi=>hd i (by rw [hdd];exact hi)) _
 ·rename_i x ho
  have hlate:pe an o=false∨∃y,x=y∧(∀v,y≠ .const v)∧(∀t,y≠ .tmp t):=by
   cases x with
   |tmp t=>left;simp only [cj,ho,Bool.and_eq_true,Bool.not_eq_true'] at hq;exact hq.2
   |const v=>left;simpa only [cj,ho,Bool.not_eq_true'] using hq
   |func f=>simp [cj,ho] at hq
   |global g=>simp [cj,ho] at hq
  have hlate:pe an o=false:=by
   rcases hlate with h1|⟨y,rfl,h1,h2⟩
   ·exact h1
   ·cases x with
    |tmp t=>exact absurd rfl (h2 t)
    |const v=>exact absurd rfl (h1 v)
    |func f=>simp [cj,ho] at hq
    |global g=>simp [cj,ho] at hq
  simp only [cj,ho] at hq
  rw [if_neg (by simp [hlate])] at h
  unfold ld at h
  have hx:cP ds st (st.take x).2:=by
   cases x with
   |tmp t=>
    have ht:t∈ds:=by simp only [Bool.and_eq_true] at hq;simpa using hq.1
    exact cP.put (d:=some t) (fun i hi=>by cases hi;exact ht) _
   |const v=>exact cP.refl _ _
   |func f=>exact cP.refl _ _
   |global g=>exact cP.refl _ _
  split at h
  ·split at h
   ·exact hput _ h
   ·cases h
  ·rename_i v st1 _ htk
   cases h
   have:(st.take x).2=st1:=by rw [htk]
   rw [this] at hx
   exact hx.trans (cP.put hd _)
 ·unfold tk at h
  split at h
  ·rename_i t _
   split at h
   ·exact hput _ h
   ·cases t with
    |true=>exact hput _ h
    |false=>exact hput _ h
  ·cases h
 ·rename_i ho;simp [cj,ho] at hq
 ·rename_i ho;simp [cj,ho] at hq
 ·rename_i T p ho
  simp only [cj,ho] at hq
  have htk:wu an o=false:=by
   unfold wu
   cases hdd:o.dst with
   |none=>rfl
   |some d=>rw [hdd] at hq;simp only [Bool.not_eq_true'] at hq;simp only [hq,Bool.false_and]
  unfold l5 at h
  split at h
  ·split at h
   ·split at h
    ·split at h
     ·rename_i d hdd
      rw [hdd] at hq
      simp only at hq
      have hf:an.mv.contains d=false:=by simpa using hq
      rw [hf] at h
      simp only [Bool.false_eq_true,if_false] at h
      exact hput _ h
     ·cases h
    ·cases h
   ·cases h
  ·rw [if_neg (by simp [htk])] at h
   split at h
   ·split at h
    ·exact hput _ h
    ·cases h
   ·unfold sm at h
    split at h
    ·split at h
     ·split at h
      ·split at h
       ·obtain ⟨y,_,h⟩:=yr h
        exact hput _ h
       ·cases h
      ·cases h
     ·cases h
    ·cases h
  ·cases h
 ·rename_i ho;simp [cj,ho] at hq
 ·split at h
  ·exact hput _ h
  ·exact hput _ h
  ·cases h
 ·unfold pY at h
  split at h
  ·split at h
   ·exact wS h fun z hz=>hput _ hz
   ·cases h
  ·split at h
   ·split at h
    ·exact wS h fun z hz=>hput _ hz
    ·cases h
   ·cases h
  ·split at h
   ·split at h
    ·cases h
    ·exact zX h fun z hz=>hput _ hz
   ·cases h
  ·split at h
   ·exact zX h fun z hz=>hput _ hz
   ·cases h
  ·exact wS h fun z hz=>hput _ hz
 ·unfold OU at h
  split at h
  ·exact hput _ h
  ·exact hput _ h
  ·exact hput _ h
  ·cases h
 ·unfold oW at h
  split at h
  ·split at h
   ·exact hput _ h
   ·cases h
  ·split at h
   ·exact hput _ h
   ·cases h
  ·cases h
 ·unfold eQ at h
  split at h
  ·split at h
   ·exact kP h fun y hy=>hput _ hy
   ·cases h
  ·cases h
 ·unfold qD at h
  split at h
  ·split at h
   ·exact kP h fun y hy=>hput _ hy
   ·cases h
  ·cases h
 ·rename_i T parts ho
  simp only [cj,ho] at hq
  have he:parts=#[]:=by simpa using hq
  subst he
  unfold qz at h
  split at h
  ·simp only [bt,List.map_nil] at h
   split at h
   ·exact hput _ h
   ·cases h
  ·cases h
 ·rename_i ho;simp [cj,ho] at hq
 ·rename_i ho;simp [cj,ho] at hq
 ·rename_i ho
  simp only [cj,ho,Bool.not_eq_true'] at hq
  unfold pP at h
  rw [if_neg (by simp [hq])] at h
  split at h
  ·split at h
   ·exact vO h fun x y hxy=>kP hxy fun z hz=>hput _ hz
   ·cases h
  ·split at h
   ·exact vO h fun x y hxy=>kP hxy fun z hz=>hput _ hz
   ·cases h
  ·cases h
 ·rename_i ho;simp [cj,ho] at hq
 ·rename_i ho;simp [cj,ho] at hq
 ·rename_i ho;simp [cj,ho] at hq
 ·rename_i ho;simp [cj,ho] at hq
 ·unfold zQ at h
  split at h
  ·split at h
   ·exact hput _ h
   ·cases h
  ·split at h
   ·exact hput _ h
   ·cases h
  ·cases h
 ·unfold Bh at h
  split at h
  ·exact hput _ h
  ·cases h
 ·unfold Bg at h
  split at h
  ·exact hput _ h
  ·cases h
 ·rename_i ho;simp [cj,ho] at hq
 ·unfold sU at h
  split at h
  ·rename_i k _
   rw [(hΓ k).2,(hΓ k).1] at h
   simp only [cond_false] at h
   refine kP h fun y hy=> ?_
   cases hsel:(Γ k).sel y with
   |true=>rw [hsel] at hy;cases hy;exact (cP.bX hd).trans (cP.put hd _)
   |false=>rw [hsel] at hy;cases hy;exact (cP.bX hd).trans (cP.put hd _)
  ·cases h
 ·cases h
theorem FG {ops:List Oper}{o:Oper}(ho:o∈ops){i:Nat}(hi:o.dst=some i):i∈uM ops:=List.mem_filterMap.2 ⟨o,ho,hi⟩
theorem zY {E:Env}{Γ:aM}(hΓ:∀f,(Γ f).io=false∧(Γ f).bx=false){an:An}{ops:List Oper}{o:Oper}{st':AS}(ho:o∈ops)(hq:cj an (uM ops) o=true)(h:cz E Γ an ops o st some=some st'):cP (uM ops) st st':=by
 have hd:∀i,o.dst=some i→i∈uM ops:=fun i hi=>FG ho hi
 unfold cz at h
 split at h
 ·exact B8 hΓ hq hd h
 ·rename_i j want hg
  split at h
  ·rename_i d hdd
   have hdm:d∈uM ops:=by
    rw [ba] at hdd
    cases ho':ops[j]? with
    |none=>rw [ho'] at hdd;cases hdd
    |some o'=>rw [ho'] at hdd;exact FG (List.mem_of_getElem? ho') hdd
   have hp:∀t,cP (uM ops) st (st.put (some d) (.one (.bool t))):=fun t=>cP.put (fun i hi=>by cases hi;exact hdm) _
   split at h
   ·rename_i b hb
    have main:∀t,(if (t==want)=true then aN E Γ an o (st.put (some d) (.one (.bool t))) some else some ((st.put (some d) (.one (.bool t))).put o.dst (.one .un)))=some st'→cP (uM ops) st st':=by
     intro t ht
     split at ht
     ·exact (hp t).trans (B8 hΓ hq hd ht)
     ·cases ht;exact (hp t).trans (cP.put hd _)
    cases b with
    |true=>exact main true h
    |false=>exact main false h
   ·cases h;exact cP.put hd _
   ·cases h
  ·cases h
theorem FV {E:Env}{Γ:aM}(hΓ:∀f,(Γ f).io=false∧(Γ f).bx=false){an:An}{ops:List Oper}(hq:∀o∈ops,cj an (uM ops) o=true):∀(l:List Oper)(st st':AS),(∀o∈l,o∈ops)→DM E Γ an ops l st some=some st'→cP (uM ops) st st'
 |[],st,st',_,h=>by cases h;exact cP.refl _ _
 |o::l,st,st',hl,h=>by
  simp only [DM] at h
  rw [im] at h
  cases hg:cz E Γ an ops o st some with
  |none=>rw [hg] at h;cases h
  |some st1=>
   rw [hg] at h
   exact (zY hΓ (hl o (by simp)) (hq o (hl o (by simp))) hg).trans (FV hΓ hq l st1 st' (fun o' ho'=>hl o' (by simp [ho'])) h)
theorem uL {ds:List Nat}:∀(l:List Nat)(st:AS),(∀i∈l,i∈ds)→cP ds st (st.p5 l)
 |[],st,_=>cP.refl _ _
 |d::l,st,h=>by
  have hd:∀i,some d=some i→i∈ds:=fun i hi=>by cases hi;exact h d (by simp)
  exact ((cP.put hd _).trans (cP.bX hd)).trans (uL l _ (fun i hi=>h i (by simp [hi])))
theorem BF:∀(l:List Nat)(st:AS)(i:Nat)(av:AV),(st.p5 l).slots[i]?=some av→i∈l∨st.slots[i]?=some .bot→av= .bot
 |[],st,i,av,h,hi=>by
  rcases hi with hi|hi
  ·cases hi
  ·have:st.slots[i]?=some av:=h
   rw [hi] at this;cases this;rfl
 |d::l,st,i,av,h,hi=>by
  refine BF l _ i av h ?_
  by_cases hil:i∈l
  ·exact .inl hil
  ·refine .inr ?_
   rw [nR,bN,List.getElem?_set]
   have hlt:i<st.slots.length:=by
    have h1:=(uL (ds:=d::l) l ((st.put (some d) .bot).bX (some d)) (fun i hi=>by simp [hi])).len
    have h2:=(List.getElem?_eq_some_iff.1 h).1
    have h3:(AS.p5 ((st.put (some d) .bot).bX (some d)) l).slots.length=st.slots.length:=by rw [h1,nR,bN,List.length_set]
    have h4:i<(AS.p5 ((st.put (some d) .bot).bX (some d)) l).slots.length:=h2
    omega
   split
   ·rename_i hdi
    subst hdi
    rw [if_pos hlt]
   ·rename_i hdi
    rcases hi with hi|hi
    ·simp only [List.mem_cons] at hi
     rcases hi with hi|hi
     ·exact absurd hi.symm hdi
     ·exact absurd hi hil
    ·exact hi
theorem BG:∀(l:List Nat)(st:AS)(i:Nat),i∈l∨(nth st.iss i).getD true=true→(nth (st.p5 l).iss i).getD true=true
 |[],st,i,hi=>by
  rcases hi with hi|hi
  ·cases hi
  ·exact hi
 |d::l,st,i,hi=>by
  refine BG l _ i ?_
  by_cases hil:i∈l
  ·exact .inl hil
  ·refine .inr ?_
   have he:(AS.bX (st.put (some d) .bot) (some d)).iss=cH st.iss d true:=rfl
   rw [he,bE,ba,List.getElem?_set]
   split
   ·split<;>rfl
   ·rename_i hdi
    rcases hi with hi|hi
    ·simp only [List.mem_cons] at hi
     rcases hi with hi|hi
     ·exact absurd hi.symm hdi
     ·exact absurd hi hil
    ·rw [ba] at hi;exact hi
theorem fQ.weaken {st':AS}(h:fQ C st' a w){ds:List Nat}(hn:cP ds st st'){s:Nat}{b:Bool}(hb:getBool st' s=some b):fQ C ((st.p5 ds).put (some s) (.one (.bool b))) a w:=by
 have hbs:st'.get s= .val false [.bool b]:=by
  unfold getBool at hb
  split at hb
  ·rename_i b' hg;cases hb;exact hg
  ·cases hb
 have hkn:=h.known hbs
 obtain ⟨g,h⟩:=h
 have hdn:=uL (ds:=ds) ds st (fun _ hi=>hi)
 have hboxes:((st.p5 ds).put (some s) (.one (.bool b))).boxes=st'.boxes:=by rw [df,hdn.boxes,hn.boxes]
 have hep:((st.p5 ds).put (some s) (.one (.bool b))).ep=st'.ep:=by rw [wE,hdn.ep,hn.ep]
 have hlen:((st.p5 ds).put (some s) (.one (.bool b))).slots.length=st'.slots.length:=by rw [bN,List.length_set,hdn.len,hn.len]
 have hiss:∀t,eV st' t→eV ((st.p5 ds).put (some s) (.one (.bool b))) t:=by
  intro t ht
  rw [vM]
  rcases ht with ht|ht
  ·exact .inl ht
  ·refine .inr (BG ds st _ ?_)
   by_cases hi:t/3/4096∈ds
   ·exact .inl hi
   ·exact .inr (by rw [←hn.iss _ hi];exact ht)
 have hpres:∀s',cl st' s'→cl ((st.p5 ds).put (some s) (.one (.bool b))) s':=fun s' hs=>by unfold cl at hs⊢;rw [hboxes];exact hs
 have hle:(aG C g st' w).Le (aG C g ((st.p5 ds).put (some s) (.one (.bool b))) w):=
  ⟨rfl,fun t ht=>⟨hiss t ht,rfl⟩,fun _ _ _ _ hv=>hv,by show st'.ep≤_;rw [←hep];exact Nat.le_refl _,fun s' hs=>⟨hpres s' hs,rfl⟩,fun _ b o u ho hu=>⟨ho,hu⟩⟩
 refine ⟨g,h.step (fun _=>True) hle h.defers (by rw [hlen];exact h.size) (by rw [hboxes,hlen];exact h.bsize) h.frame h.labs (fun b x _ hx=>⟨hx,rfl,rfl⟩) ?_ ?_ ?_ (.inl ⟨trivial,by rw [wL,hdn.io,hn.io]⟩)⟩
 ·intro i av hi
  rw [bN,List.getElem?_set] at hi
  split at hi
  ·rename_i hsi
   subst hsi
   split at hi
   ·cases hi
    refine .inr ⟨[],fI ?_,by simp,by simp⟩
    exact ⟨hkn,rfl⟩
   ·cases hi
  ·by_cases hid:i∈ds
   ·have:=BF ds st i av hi (.inl hid)
    subst this
    exact .inr ⟨[],bZ.bot _ _,by simp,by simp⟩
   ·rw [hdn.slot i hid] at hi
    exact .inl ⟨trivial,by rw [hn.slot i hid];exact hi,rfl⟩
 ·intro s' cs hs
  rw [hboxes] at hs
  exact .inl ⟨trivial,hs,rfl⟩
 ·intro k v av hk
  simp at hk
theorem CI (Γ:aM)(f:Nat):(Γ.calm f).io=false∧(Γ.calm f).bx=false:=by
 unfold aM.calm
 cases h:(Γ f).io with
 |true=>exact ⟨rfl,rfl⟩
 |false=>
  cases h2:(Γ f).bx with
  |true=>exact ⟨rfl,rfl⟩
  |false=>exact ⟨h,h2⟩
theorem Sound.calm {E:Env}{Γ:aM}(h:Sound P E Γ):Sound P E Γ.calm:=by
 refine ⟨h.ty,h.eqs,h.fts,fun f=> ?_,h.mixed⟩
 unfold aM.calm
 cases (Γ f).io with
 |true=>intro xs y hy;cases hy
 |false=>
  cases (Γ f).bx with
  |true=>intro xs y hy;cases hy
  |false=>exact h.fns f
end Go.Dn
