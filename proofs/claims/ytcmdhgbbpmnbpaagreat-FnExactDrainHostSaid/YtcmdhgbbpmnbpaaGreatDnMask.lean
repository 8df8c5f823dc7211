import Derived.Test.YtcmdhgbbpmnbpaaGreatDnDen
import Derived.Test.YtcmdhgbbpmnbpaaGreatDnNat
/- What is kept at a loop's door; what a region whose ways meet again leaves. -/
namespace Go.Dn
open Go.RowKit
variable {P:Program} {C:Ctx} {st:AS} {a:Act} {w:World} {R:Type} {r:R}
theorem zg (keep:List Nat)(ep:Nat)(io:List AC):∀(l:List AV)(n i:Nat),(iC keep ep io n l)[i]?=(l[i]?).map fun v=>if keep.contains (n+i) then v.mask keep ep io (n+i) else .bot
 |[],n,i=>by simp [iC]
 |v::l,n,0=>by simp [iC]
 |v::l,n,i+1=>by
  simp only [iC,List.getElem?_cons_succ]
  rw [zg keep ep io l (n+1) i,show n+1+i=n+(i+1) by omega]
theorem uW (keep:List Nat)(ep:Nat)(io:List AC):∀(l:List (Option (List AC)))(n i:Nat),(iB keep ep io n l)[i]?=(l[i]?).map fun b=>if keep.contains (n+i) then b.map (BV keep ep io (.box (n+i)) 0) else none
 |[],n,i=>by simp [iB]
 |v::l,n,0=>by simp [iB]
 |v::l,n,i+1=>by
  simp only [iB,List.getElem?_cons_succ]
  rw [uW keep ep io l (n+1) i,show n+1+i=n+(i+1) by omega]
theorem p8 (keep:List Nat)(ep:Nat)(io:List AC):∀(l:List AV)(n:Nat),(iC keep ep io n l).length=l.length
 |[],_=>rfl
 |_::l,n=>by simp [iC,p8 keep ep io l]
theorem vq (keep:List Nat)(ep:Nat)(io:List AC):∀(l:List (Option (List AC)))(n:Nat),(iB keep ep io n l).length=l.length
 |[],_=>rfl
 |_::l,n=>by simp [iB,vq keep ep io l]
def MU:Value→AV→List Value
 | .agg vs,.val true _=>vs.toList
 |v,_=>[v]
theorem MW {g:Bool}{v:Value}{vs:List Value}{cs:List AC}(h:Cut g v vs):MU v (.val g cs)=vs:=by
 cases g with
 |true=>simp only [Cut,if_true] at h;subst h;simp [MU]
 |false=>simp only [Cut] at h;subst h;cases v<;>rfl
def vW (ioV:List Value)(st:AS)(a:Act)(w:World)(β:Nat→Nat)(t:Nat):Value:=
 if t%3=0∧t/3/4096=1000003 then (ioV[t/3%4096]?).getD undef
 else if t%3=0 then ((MU (a.tmps.getD (t/3/4096) undef) (st.get (t/3/4096)))[t/3%4096]?).getD undef
 else match w.heap[β (t/3/4096)]? with
  |some (.cells arr _ _)=>(arr.toList[t/3%4096]?).getD undef
  |_=>undef
def MH (c c':RC)(io:List AC):Prop:=∀j n (e:CT)(ys:List e.D),AC.Tf io j n e=some ys→∃v0 fp0,bO c.hw c.w (.sl e) [v0] ys fp0∧v0=c.hdr n∧∀q,(eE.io j).yf=some q→c'.iss q∧v0=c'.hdr q
theorem Q1 {c c':RC}{io:List AC}(hio:MH c c' io){keep:List Nat}{rt:eE}{v:Value}{x:AC}{fp:List Nat}(h:cU c v x fp)(hhw:c'.hw=c.hw)(hw:c'.w=c.w)(hA:c'.A=c.A)(hep:c'.ep=0)(hβ:c'.β=c.β)
 (hpres:∀s,keep.contains s=true→c.pres s→c'.pres s) (hst:∀t,rt.yf=some t→c'.iss t∧v=c'.hdr t):cU c' v (x.mask keep c.ep io rt) fp:=by
 have hS:c'.S=c.S:=by funext b o;simp [RC.S,hhw,hA]
 cases x with
 |int k n=>exact h
 |bool b=>exact h
 |str s=>exact h
 |nilsl=>exact h
 |fn f=>exact h
 |un=>exact h
 |bot=>exact h
 |ptr s off=>
  simp only [AC.mask]
  split
  ·rename_i hk
   exact ⟨by rw [hβ];exact h.1,hpres s hk h.2.1,h.2.2⟩
  ·exact h.2.2
 |elt fl e y i off=>
  cases fl with
  |own t=>exact h.elim
  |nest _ _ _ _ _ _=>exact h.elim
  |part _ _ _ _=>exact h.elim
  |holed _ _ _=>exact h.elim
  |arg=>exact h.1
  |loc ep pv=>exact h.1
 |sl fl e xs=>
  cases fl with
  |own t=>exact ⟨bO.mono h.1 (fun b _=>⟨by rw [hw],by rw [hhw]⟩),hst⟩
  |nest _ _ _ _ _ _=>exact h.1
  |part _ _ _ _=>exact h.1
  |holed _ _ _=>
   obtain ⟨_,⟨k,hk,h3⟩,_⟩:=h
   exact ⟨fun q hq=>(by cases hq),⟨k,hk,h3.mono (fun b hb=>⟨by rw [hw],by rw [hhw]⟩)⟩,by simp⟩
  |arg=>exact ⟨h.1,by rw [hA,hw];exact h.2⟩
  |loc ep pv=>
   obtain ⟨h1,h2,h3,h4,h5⟩:=h
   have plain:cU c' v (if (ep==c.ep)=true then AC.sl (.loc 0 none) e xs else .bot) fp:=by
    split
    ·rename_i he
     refine ⟨h1,by rw [hep];exact Nat.le_refl _,h3,fun _=> ?_,by simp⟩
     rw [hS,hw]
     exact h4 (by simpa using he)
    ·exact h1
   simp only [AC.mask]
   split
   ·rename_i j n
    split
    ·rename_i ys hnow
     obtain ⟨v0,fp0,hown,hv0,hq⟩:=hio j n e ys hnow
     obtain ⟨_,k2⟩:=h5 _ _ rfl
     have hv:v0=v:=hv0.trans k2.symm
     subst hv
     refine ⟨h1,by rw [hep];exact Nat.le_refl _,AR hown,fun _=> ?_,fun r t hp=> ?_⟩
     ·rw [hS,hw];exact bO.rep (fun b o ho=> .inr ho) hown
     ·cases hst':(eE.io j).yf with
      |none=>rw [hst'] at hp;cases hp
      |some q=>
       rw [hst'] at hp
       simp at hp
       obtain ⟨_,rfl⟩:=hp
       exact ⟨(hq q hst').1,(hq q hst').2⟩
    ·exact plain
   ·exact plain
theorem zT {c c':RC}{io:List AC}(hio:MH c c' io){keep:List Nat}{f:Nat→eE}(hhw:c'.hw=c.hw)(hw:c'.w=c.w)(hA:c'.A=c.A)(hep:c'.ep=0)(hβ:c'.β=c.β)
 (hpres:∀s,keep.contains s=true→c.pres s→c'.pres s):∀{vs:List Value}{xs:List AC}{fp:List Nat}(j:Nat),ay c vs xs fp→
  (∀i v,vs[i]?=some v→∀t,(f (j+i)).yf=some t→c'.iss t∧v=c'.hdr t)→ay c' vs (BV keep c.ep io f j xs) fp
 |[],[],_,_,h,_=>h
 |v::_,_::_,_,j,h,hm=>by
  obtain ⟨f1,f2,rfl,h1,h2⟩:=h
  exact ⟨f1,f2,rfl,Q1 hio h1 hhw hw hA hep hβ hpres (fun t ht=>hm 0 v rfl t ht),
   zT hio hhw hw hA hep hβ hpres (j+1) h2 (fun i u hu t ht=>hm (i+1) u (by simpa using hu) t (by rwa [show j+(i+1)=j+1+i by omega]))⟩
 |[],_::_,_,_,h,_=>h.elim
 |_::_,[],_,_,h,_=>h.elim
theorem Ty {c:RC}{v:Value}{x:AC}{fp:List Nat}(h:cU c v x fp)(hno:∀(tag:Option Nat)(e:CT)(xs:List e.D),x= .sl (.own tag) e xs→False)
 (hno2:∀(tag:Option Nat)(i:Int)(ep:Option Nat)(e:CT)(xs:List e.D),x= .sl (.holed tag i ep) e xs→False):fp=[]:=by
 cases x with
 |int k n=>exact h.2
 |bool b=>exact h.2
 |str s=>exact h.2
 |nilsl=>exact h.2
 |fn f=>exact h.2
 |un=>exact h.2
 |bot=>exact h
 |ptr s off=>exact h.2.2
 |elt fl e y i off=>
  cases fl with
  |own t=>exact h.elim
  |nest _ _ _ _ _ _=>exact h.elim
  |part _ _ _ _=>exact h.elim
  |holed _ _ _=>exact h.elim
  |arg=>exact h.1
  |loc ep pv=>exact h.1
 |sl fl e xs=>
  cases fl with
  |own t=>exact (hno _ _ _ rfl).elim
  |nest _ _ _ _ _ _=>exact h.1
  |part _ _ _ _=>exact h.1
  |holed _ _ _=>exact (hno2 _ _ _ _ _ rfl).elim
  |arg=>exact h.1
  |loc ep pv=>exact h.1
theorem iS.mask (h:iS C st a w)(keep:List Nat):iS C (st.mask keep) a w:=by
 obtain ⟨g,h⟩:=h
 let g':Gh:={g with hdr:=vW C.ioV st a w g.β}
 have hpres:∀s,keep.contains s=true→cP st s→cP (st.mask keep) s:=by
  rintro s hk ⟨cs,hs⟩
  refine ⟨BV keep st.ep st.io (.box s) 0 cs, ?_⟩
  show (iB keep st.ep st.io 0 st.boxes)[s]?=_
  rw [uW,hs]
  simp only [Option.map_some,Nat.zero_add,if_pos hk]
 obtain ⟨fpi,hri,hni,hli⟩:=h.io
 have hioq:∀j v,C.ioV[j]?=some v→∀q,(eE.io j).yf=some q→gW (st.mask keep) q∧v=vW C.ioV st a w g.β q:=by
  intro j v hv q hq
  simp only [eE.yf] at hq
  cases hb:Nat.ble 4096 j with
  |true=>rw [hb] at hq;cases hq
  |false=>
   rw [hb] at hq
   simp only [cond_false,Option.some.injEq,su] at hq
   have hj:j<4096:=by
    rcases Nat.lt_or_ge j 4096 with hlt|hge
    ·exact hlt
    ·rw [Nat.ble_eq_true_of_le hge] at hb;cases hb
   have h0:q%3=0:=by omega
   have h1:q/3/4096=1000003:=by omega
   have h2:q/3%4096=j:=by omega
   refine ⟨.inl (by omega), ?_⟩
   rw [vW,if_pos ⟨h0,h1⟩,h2,hv];rfl
 have hseen:MH (aX C g st w) (aX C g' (st.mask keep) w) st.io:=by
  intro j n e ys hnow
  unfold AC.Tf at hnow
  split at hnow
  ·rename_i t' e' ys' hj
   split at hnow
   ·rename_i he
    subst he
    cases ht:(t'==n) with
    |false=>rw [ht] at hnow;cases hnow
    |true=>
     rw [ht] at hnow
     have:t'=n:=by simpa using ht
     subst this
     cases hnow
     rw [bC] at hj
     obtain ⟨v,f,hv,hr,_⟩:=hri.get j _ hj
     exact ⟨v,f,hr.1,(hr.2 t' rfl).2,fun q hq=>hioq j v hv q hq⟩
   ·cases hnow
  ·cases hnow
 have hmio:∀(j:Nat){vs:List Value}{xs:List AC}{fp:List Nat},ay (aX C g st w) vs xs fp→(∀i v,vs[i]?=some v→C.ioV[j+i]?=some v)→ay (aX C g' (st.mask keep) w) vs (NO keep j xs) fp:=by
  intro j vs
  induction vs generalizing j with
  |nil=>intro xs fp hr _;cases xs with
   |nil=>exact hr
   |cons _ _=>exact hr.elim
  |cons v vs ih=>
   intro xs fp hr hv
   cases xs with
   |nil=>exact hr.elim
   |cons x xs=>
    obtain ⟨f1,f2,rfl,r1,r2⟩:=hr
    refine ⟨f1,f2,rfl, ?_,ih (j+1) r2 (fun i u hu=>by rw [show j+1+i=j+(i+1) by omega];exact hv (i+1) u (by simpa using hu))⟩
    have hv0:=hv 0 v rfl
    rw [Nat.add_zero] at hv0
    split
    ·rename_i tg e ys
     exact ⟨r1.1,fun q hq=>hioq j v hv0 q hq⟩
    ·rename_i tag i ep e ys
     obtain ⟨_,⟨k,hk,h3⟩,_⟩:=r1
     exact ⟨fun q hq=>(by cases hq),⟨k,hk,h3⟩,by simp⟩
    ·rename_i s off
     split
     ·rename_i hk
      exact ⟨r1.1,hpres s hk r1.2.1,r1.2.2⟩
     ·exact r1.2.2
    ·rename_i hno hno2 _
     cases hfl:x.cH with
     |true=>
      obtain ⟨rfl,k⟩:=nS (c':=aX C g' (st.mask keep) w) r1 hfl
      exact k
     |false=>exact Ty r1 hno hno2
 refine ⟨g',h.defers, ?_, ?_,fun i av hi=> ?_,fun s cs hs=> ?_,fun k v av hk=>by simp at hk,h.labs,h.frame,⟨fpi,hmio 0 hri (fun i v hv=>by rw [Nat.zero_add];exact hv),hni,hli⟩⟩
 ·show _=(iC keep st.ep st.io 0 st.slots).length
  rw [p8];exact h.size
 ·show (iB keep st.ep st.io 0 st.boxes).length=(iC keep st.ep st.io 0 st.slots).length
  rw [p8,vq];exact h.bsize
 ·have hi':(iC keep st.ep st.io 0 st.slots)[i]?=some av:=hi
  rw [zg,Nat.zero_add] at hi'
  cases hv:st.slots[i]? with
  |none=>rw [hv] at hi';cases hi'
  |some x=>
   rw [hv] at hi'
   simp only [Option.map_some,Option.some.injEq] at hi'
   split at hi'
   ·subst hi'
    cases hx:x with
    |tup ts=>exact ⟨[],cE.bot _ _,by simp,by simp⟩
    |val gg cs=>
     rw [hx] at hv
     obtain ⟨fp,⟨vs,hcut,hr⟩,hn,hl⟩:=h.slots i _ hv
     refine ⟨fp,⟨vs,hcut,zT (io:=st.io) hseen (c:=aX C g st w) (c':=aX C g' (st.mask keep) w) rfl rfl rfl rfl rfl hpres 0 hr ?_⟩,hn,hl⟩
     intro j u hu t ht
     simp only [Nat.zero_add,eE.yf] at ht
     cases hb:Nat.ble 4096 j with
     |true=>rw [hb] at ht;cases ht
     |false=>
      rw [hb] at ht
      simp only [cond_false] at ht
      cases hbs:Nat.ble 1000000 i with
      |true=>rw [hbs] at ht;cases ht
      |false=>
      rw [hbs] at ht
      simp only [cond_false,Option.some.injEq] at ht
      have hi6:i<1000000:=by
       rcases Nat.lt_or_ge i 1000000 with hlt|hge
       ·exact hlt
       ·rw [Nat.ble_eq_true_of_le hge] at hbs;cases hbs
      have hj:j<4096:=by
       rcases Nat.lt_or_ge j 4096 with hlt|hge
       ·exact hlt
       ·rw [Nat.ble_eq_true_of_le hge] at hb;cases hb
      have h0:t%3=0:=by omega
      have h1:t/3/4096=i:=by omega
      have h2:t/3%4096=j:=by omega
      refine ⟨.inl (by omega), ?_⟩
      show u=vW C.ioV st a w g.β t
      rw [vW,if_neg (by omega),if_pos h0,h1,h2,get_eq hv,MW hcut,hu];rfl
   ·subst hi'
    exact ⟨[],cE.bot _ _,by simp,by simp⟩
 ·have hs':(iB keep st.ep st.io 0 st.boxes)[s]?=some (some cs):=hs
  rw [uW,Nat.zero_add] at hs'
  cases hv:st.boxes[s]? with
  |none=>rw [hv] at hs';cases hs'
  |some x=>
   rw [hv] at hs'
   simp only [Option.map_some,Option.some.injEq] at hs'
   split at hs'
   ·cases hx:x with
    |none=>rw [hx] at hs';cases hs'
    |some xs=>
     rw [hx] at hs' hv
     simp only [Option.map_some,Option.some.injEq] at hs'
     subst hs'
     obtain ⟨arr,T,fr,fp,hb,hth,hr,hn,hni,hl,hl0,hw0⟩:=h.boxes s xs hv
     refine ⟨arr,T,fr,fp,hb,hth,zT (io:=st.io) hseen (c:=aX C g st w) (c':=aX C g' (st.mask keep) w) rfl rfl rfl rfl rfl hpres 0 hr ?_,hn,hni,hl,hl0,hw0⟩
     intro j u hu t ht
     simp only [Nat.zero_add,eE.yf] at ht
     cases hbb:Nat.ble 4096 j with
     |true=>rw [hbb] at ht;cases ht
     |false=>
      rw [hbb] at ht
      simp only [cond_false,Option.some.injEq] at ht
      have hj:j<4096:=by
       rcases Nat.lt_or_ge j 4096 with hlt|hge
       ·exact hlt
       ·rw [Nat.ble_eq_true_of_le hge] at hbb;cases hbb
      have h0:¬t%3=0:=by omega
      have h1:t/3/4096=s:=by omega
      have h2:t/3%4096=j:=by omega
      refine ⟨.inl (by omega), ?_⟩
      show u=vW C.ioV st a w g.β t
      rw [vW,if_neg (by omega),if_neg h0,h1,h2,hb]
      simp only
      rw [hu];rfl
   ·cases hs'
structure dC (ds:List Nat) (st st':AS):Prop where
 len:st'.slots.length=st.slots.length
 slot:∀i,i∉ds→st'.slots[i]?=st.slots[i]?
 boxes:st'.boxes=st.boxes
 ep:st'.ep=st.ep
 iss:∀i,i∉ds→nth st'.iss i=nth st.iss i
 ilen:st'.iss.length=st.iss.length
 io:st'.io=st.io
theorem dC.refl (ds:List Nat)(st:AS):dC ds st st:=⟨rfl,fun _ _=>rfl,rfl,rfl,fun _ _=>rfl,rfl,rfl⟩
theorem dC.trans {ds:List Nat}{st st1 st2:AS}(h:dC ds st st1)(k:dC ds st1 st2):dC ds st st2:=
 ⟨k.len.trans h.len,fun i hi=>(k.slot i hi).trans (h.slot i hi),k.boxes.trans h.boxes,k.ep.trans h.ep,fun i hi=>(k.iss i hi).trans (h.iss i hi),k.ilen.trans h.ilen,k.io.trans h.io⟩
theorem dC.put {ds:List Nat}{st:AS}{d:Option Nat}(hd:∀i,d=some i→i∈ds)(v:AV):dC ds st (st.put d v):=by
 cases d with
 |none=>exact dC.refl _ _
 |some d=>
  refine ⟨by rw [cp,List.length_set],fun i hi=> ?_,dZ,BE,fun i _=>by rw [Jb],by rw [Jb],BR⟩
  rw [cp,List.getElem?_set_ne]
  rintro rfl
  exact hi (hd _ rfl)
theorem dC.cC {ds:List Nat}{st:AS}{d:Option Nat}(hd:∀i,d=some i→i∈ds):dC ds st (st.cC d):=by
 cases d with
 |none=>exact dC.refl _ _
 |some d=>
  refine ⟨rfl,fun i _=>rfl,rfl,rfl,fun i hi=> ?_, ?_,rfl⟩
  ·simp only [AS.cC,bC,cc]
   rw [List.getElem?_set_ne]
   rintro rfl
   exact hi (hd _ rfl)
  ·simp only [AS.cC,cc,List.length_set]
theorem nM {α:Type}{ds:List Nat}{o:Option α}{k:α→Option AS}{st':AS}(h:aa o k=some st')(hk:∀x,k x=some st'→dC ds st st'):dC ds st st':=by
 cases o with
 |none=>cases h
 |some x=>exact hk x h
theorem Rd {ds:List Nat}{n:Nat}{k:Option AS}{st':AS}(h:room n k=some st')(hk:k=some st'→dC ds st st'):dC ds st st':=by
 unfold room at h
 split at h
 ·exact hk h
 ·cases h
theorem NY {ds:List Nat}{op:BinOp}{k:IntKind}{x y:Int}{K:AC→Option AS}{st':AS}(h:AK op k x y K=some st')(hk:∀z,K z=some st'→dC ds st st'):dC ds st st':=by
 unfold AK at h
 split at h<;>first
  |exact hk _ h
  |(split at h
    ·cases h
    ·exact hk _ h)
  |cases h
theorem NZ {ds:List Nat}{op:BinOp}{x y:List UInt8}{K:AC→Option AS}{st':AS}(h:CO op x y K=some st')(hk:∀z,K z=some st'→dC ds st st'):dC ds st st':=by
 unfold CO at h
 split at h<;>first
  |exact Rd h (hk _)
  |exact hk _ h
  |cases h
theorem B4 {ds:List Nat}{op:BinOp}{x y:AV}{K:AC→Option AS}{st':AS}(h:yT op x y K=some st')(hk:∀z,K z=some st'→dC ds st st'):dC ds st st':=by
 unfold yT at h
 split at h
 ·split at h
  ·split at h
   ·cases h
   ·exact hk _ h
  ·split at h
   ·cases h
   ·exact hk _ h
  ·split at h
   ·exact NY h hk
   ·cases h
 ·exact NZ h hk
 ·split at h
  ·exact hk _ h
  ·exact hk _ h
  ·cases h
 ·split at h
  ·exact nM h fun b hb=>hk _ hb
  ·exact nM h fun b hb=>hk _ hb
  ·cases h
 ·cases h
theorem AP {ds:List Nat}{lo hi:Option Operand}{n:Nat}{K:Int→Int→Option AS}{st0 st':AS}(h:gX st0 lo hi n K=some st')(hk:∀x y,K x y=some st'→dC ds st st'):dC ds st st':=by
 unfold gX at h
 split at h<;>first
  |exact hk _ _ h
  |cases h
theorem Ff {ds:List Nat}{op:BinOp}{b:Bool}{K:AC→Option AS}{st':AS}(h:xh op b K=some st')(hk:∀c,K c=some st'→dC ds st st'):dC ds st st':=by
 unfold xh at h
 split at h
 ·exact hk _ h
 ·exact hk _ h
 ·cases h
theorem Hm {E:Env}{Γ:aO}(hΓ:∀f,(Γ f).io=false∧(Γ f).bx=false){an:An}{ds:List Nat}{o:Oper}{st':AS}(hq:cL an ds o=true)(hd:∀i,o.dst=some i→i∈ds)(h:bg E Γ an o st some=some st'):dC ds st st':=by
 have hput:∀v,some (st.put o.dst v)=some st'→dC ds st st':=fun v hv=>by cases hv;exact dC.put hd v
 unfold bg at h
 split at h
 ·rename_i x ho
  simp only [cL,ho] at hq
  unfold vt at h
  cases hdd:o.dst with
  |none=>rw [hdd] at h;cases h
  |some d=>
   rw [hdd] at h hq
   simp only at h hq
   have hf:an.mv.contains d=false:=by simpa using hq
   rw [hf] at h
   simp only [Bool.false_eq_true,if_false] at h
   cases h
   exact dC.put (fun i hi=>hd i (by rw [hdd];exact hi)) _
 ·rename_i x ho
  have hlate:tu an o=false∨∃y,x=y∧(∀v,y≠ .const v)∧(∀t,y≠ .tmp t):=by
   cases x with
   |tmp t=>left;simp only [cL,ho,Bool.and_eq_true,Bool.not_eq_true'] at hq;exact hq.2
   |const v=>left;simpa only [cL,ho,Bool.not_eq_true'] using hq
   |func f=>simp [cL,ho] at hq
   |global g=>simp [cL,ho] at hq
  have hlate:tu an o=false:=by
   rcases hlate with h1|⟨y,rfl,h1,h2⟩
   ·exact h1
   ·cases x with
    |tmp t=>exact absurd rfl (h2 t)
    |const v=>exact absurd rfl (h1 v)
    |func f=>simp [cL,ho] at hq
    |global g=>simp [cL,ho] at hq
  simp only [cL,ho] at hq
  rw [if_neg (by simp [hlate])] at h
  unfold og at h
  have hx:dC ds st (st.take x).2:=by
   cases x with
   |tmp t=>
    have ht:t∈ds:=by simp only [Bool.and_eq_true] at hq;simpa using hq.1
    exact dC.put (d:=some t) (fun i hi=>by cases hi;exact ht) _
   |const v=>exact dC.refl _ _
   |func f=>exact dC.refl _ _
   |global g=>exact dC.refl _ _
  split at h
  ·split at h
   ·exact hput _ h
   ·cases h
  ·rename_i v st1 _ htk
   cases h
   have:(st.take x).2=st1:=by rw [htk]
   rw [this] at hx
   exact hx.trans (dC.put hd _)
 ·unfold xT at h
  split at h
  ·rename_i t _
   split at h
   ·exact hput _ h
   ·cases t with
    |true=>exact hput _ h
    |false=>exact hput _ h
  ·cases h
 ·rename_i ho;simp [cL,ho] at hq
 ·rename_i ho;simp [cL,ho] at hq
 ·rename_i T p ho
  simp only [cL,ho] at hq
  have htk:Bq an o=false:=by
   unfold Bq
   cases hdd:o.dst with
   |none=>rfl
   |some d=>rw [hdd] at hq;simp only [Bool.not_eq_true'] at hq;simp only [hq,Bool.false_and]
  unfold po at h
  split at h
  ·split at h
   ·split at h
    ·split at h
     ·rename_i d hdd
      rw [hdd] at hq
      simp only at hq
      have hf:an.mv.contains d=false:=by simpa using hq
      rw [hf] at h
      simp only [Bool.false_eq_true,if_false] at h
      exact hput _ h
     ·cases h
    ·cases h
   ·cases h
  ·rw [if_neg (by simp [htk])] at h
   split at h
   ·split at h
    ·exact hput _ h
    ·cases h
   ·unfold wZ at h
    split at h
    ·split at h
     ·split at h
      ·split at h
       ·obtain ⟨y,_,h⟩:=DH h
        exact hput _ h
       ·cases h
      ·cases h
     ·cases h
    ·cases h
  ·cases h
 ·rename_i ho;simp [cL,ho] at hq
 ·split at h
  ·exact hput _ h
  ·exact hput _ h
  ·cases h
 ·unfold ui at h
  split at h
  ·split at h
   ·exact B4 h fun z hz=>hput _ hz
   ·cases h
  ·split at h
   ·split at h
    ·exact B4 h fun z hz=>hput _ hz
    ·cases h
   ·cases h
  ·split at h
   ·split at h
    ·cases h
    ·exact Ff h fun z hz=>hput _ hz
   ·cases h
  ·split at h
   ·exact Ff h fun z hz=>hput _ hz
   ·cases h
  ·exact B4 h fun z hz=>hput _ hz
 ·unfold VQ at h
  split at h
  ·exact hput _ h
  ·exact hput _ h
  ·exact hput _ h
  ·cases h
 ·unfold tf at h
  split at h
  ·split at h
   ·exact hput _ h
   ·cases h
  ·split at h
   ·exact hput _ h
   ·cases h
  ·cases h
 ·unfold gP at h
  split at h
  ·split at h
   ·exact nM h fun y hy=>hput _ hy
   ·cases h
  ·cases h
 ·unfold uV at h
  split at h
  ·split at h
   ·exact nM h fun y hy=>hput _ hy
   ·cases h
  ·cases h
 ·rename_i T parts ho
  simp only [cL,ho] at hq
  have he:parts=#[]:=by simpa using hq
  subst he
  unfold uS at h
  split at h
  ·simp only [bS,List.map_nil] at h
   split at h
   ·exact hput _ h
   ·cases h
  ·cases h
 ·rename_i ho;simp [cL,ho] at hq
 ·rename_i ho;simp [cL,ho] at hq
 ·rename_i ho
  simp only [cL,ho,Bool.not_eq_true'] at hq
  unfold tY at h
  rw [if_neg (by simp [hq])] at h
  split at h
  ·split at h
   ·exact AP h fun x y hxy=>nM hxy fun z hz=>hput _ hz
   ·cases h
  ·split at h
   ·exact AP h fun x y hxy=>nM hxy fun z hz=>hput _ hz
   ·cases h
  ·cases h
 ·rename_i ho;simp [cL,ho] at hq
 ·rename_i ho;simp [cL,ho] at hq
 ·rename_i ho;simp [cL,ho] at hq
 ·rename_i ho;simp [cL,ho] at hq
 ·unfold E7 at h
  split at h
  ·split at h
   ·exact hput _ h
   ·cases h
  ·split at h
   ·exact hput _ h
   ·cases h
  ·cases h
 ·unfold Gy at h
  split at h
  ·exact hput _ h
  ·cases h
 ·unfold Gx at h
  split at h
  ·exact hput _ h
  ·cases h
 ·rename_i ho;simp [cL,ho] at hq
 ·unfold xC at h
  split at h
  ·rename_i k _
   rw [(hΓ k).2,(hΓ k).1] at h
   simp only [cond_false] at h
   refine nM h fun y hy=> ?_
   cases hsel:(Γ k).sel y with
   |true=>rw [hsel] at hy;cases hy;exact (dC.cC hd).trans (dC.put hd _)
   |false=>rw [hsel] at hy;cases hy;exact (dC.cC hd).trans (dC.put hd _)
  ·cases h
 ·cases h
theorem Lx {ops:List Oper}{o:Oper}(ho:o∈ops){i:Nat}(hi:o.dst=some i):i∈zG ops:=List.mem_filterMap.2 ⟨o,ho,hi⟩
theorem Fg {E:Env}{Γ:aO}(hΓ:∀f,(Γ f).io=false∧(Γ f).bx=false){an:An}{ops:List Oper}{o:Oper}{st':AS}(ho:o∈ops)(hq:cL an (zG ops) o=true)(h:de E Γ an ops o st some=some st'):dC (zG ops) st st':=by
 have hd:∀i,o.dst=some i→i∈zG ops:=fun i hi=>Lx ho hi
 unfold de at h
 split at h
 ·exact Hm hΓ hq hd h
 ·rename_i j want hg
  split at h
  ·rename_i d hdd
   have hdm:d∈zG ops:=by
    rw [bC] at hdd
    cases ho':ops[j]? with
    |none=>rw [ho'] at hdd;cases hdd
    |some o'=>rw [ho'] at hdd;exact Lx (List.mem_of_getElem? ho') hdd
   have hp:∀t,dC (zG ops) st (st.put (some d) (.one (.bool t))):=fun t=>dC.put (fun i hi=>by cases hi;exact hdm) _
   split at h
   ·rename_i b hb
    have main:∀t,(if (t==want)=true then bg E Γ an o (st.put (some d) (.one (.bool t))) some else some ((st.put (some d) (.one (.bool t))).put o.dst (.one .un)))=some st'→dC (zG ops) st st':=by
     intro t ht
     split at ht
     ·exact (hp t).trans (Hm hΓ hq hd ht)
     ·cases ht;exact (hp t).trans (dC.put hd _)
    cases b with
    |true=>exact main true h
    |false=>exact main false h
   ·cases h;exact dC.put hd _
   ·cases h
  ·cases h
theorem LI {E:Env}{Γ:aO}(hΓ:∀f,(Γ f).io=false∧(Γ f).bx=false){an:An}{ops:List Oper}(hq:∀o∈ops,cL an (zG ops) o=true):∀(l:List Oper)(st st':AS),(∀o∈l,o∈ops)→Jm E Γ an ops l st some=some st'→dC (zG ops) st st'
 |[],st,st',_,h=>by cases h;exact dC.refl _ _
 |o::l,st,st',hl,h=>by
  simp only [Jm] at h
  rw [kX] at h
  cases hg:de E Γ an ops o st some with
  |none=>rw [hg] at h;cases h
  |some st1=>
   rw [hg] at h
   exact (Fg hΓ (hl o (by simp)) (hq o (hl o (by simp))) hg).trans (LI hΓ hq l st1 st' (fun o' ho'=>hl o' (by simp [ho'])) h)
theorem zF {ds:List Nat}:∀(l:List Nat)(st:AS),(∀i∈l,i∈ds)→dC ds st (st.uo l)
 |[],st,_=>dC.refl _ _
 |d::l,st,h=>by
  have hd:∀i,some d=some i→i∈ds:=fun i hi=>by cases hi;exact h d (by simp)
  exact ((dC.put hd _).trans (dC.cC hd)).trans (zF l _ (fun i hi=>h i (by simp [hi])))
theorem GW:∀(l:List Nat)(st:AS)(i:Nat)(av:AV),(st.uo l).slots[i]?=some av→i∈l∨st.slots[i]?=some .bot→av= .bot
 |[],st,i,av,h,hi=>by
  rcases hi with hi|hi
  ·cases hi
  ·have:st.slots[i]?=some av:=h
   rw [hi] at this;cases this;rfl
 |d::l,st,i,av,h,hi=>by
  refine GW l _ i av h ?_
  by_cases hil:i∈l
  ·exact .inl hil
  ·refine .inr ?_
   rw [rG,cp,List.getElem?_set]
   have hlt:i<st.slots.length:=by
    have h1:=(zF (ds:=d::l) l ((st.put (some d) .bot).cC (some d)) (fun i hi=>by simp [hi])).len
    have h2:=(List.getElem?_eq_some_iff.1 h).1
    have h3:(AS.uo ((st.put (some d) .bot).cC (some d)) l).slots.length=st.slots.length:=by rw [h1,rG,cp,List.length_set]
    have h4:i<(AS.uo ((st.put (some d) .bot).cC (some d)) l).slots.length:=h2
    omega
   split
   ·rename_i hdi
    subst hdi
    rw [if_pos hlt]
   ·rename_i hdi
    rcases hi with hi|hi
    ·simp only [List.mem_cons] at hi
     rcases hi with hi|hi
     ·exact absurd hi.symm hdi
     ·exact absurd hi hil
    ·exact hi
theorem GX:∀(l:List Nat)(st:AS)(i:Nat),i∈l∨(nth st.iss i).getD true=true→(nth (st.uo l).iss i).getD true=true
 |[],st,i,hi=>by
  rcases hi with hi|hi
  ·cases hi
  ·exact hi
 |d::l,st,i,hi=>by
  refine GX l _ i ?_
  by_cases hil:i∈l
  ·exact .inl hil
  ·refine .inr ?_
   have he:(AS.cC (st.put (some d) .bot) (some d)).iss=dv st.iss d true:=rfl
   rw [he,cc,bC,List.getElem?_set]
   split
   ·split<;>rfl
   ·rename_i hdi
    rcases hi with hi|hi
    ·simp only [List.mem_cons] at hi
     rcases hi with hi|hi
     ·exact absurd hi.symm hdi
     ·exact absurd hi hil
    ·rw [bC] at hi;exact hi
theorem iS.weaken {st':AS}(h:iS C st' a w){ds:List Nat}(hn:dC ds st st'){s:Nat}{b:Bool}(hb:getBool st' s=some b):iS C ((st.uo ds).put (some s) (.one (.bool b))) a w:=by
 have hbs:st'.get s= .val false [.bool b]:=by
  unfold getBool at hb
  split at hb
  ·rename_i b' hg;cases hb;exact hg
  ·cases hb
 have hkn:=h.known hbs
 obtain ⟨g,h⟩:=h
 have hdn:=zF (ds:=ds) ds st (fun _ hi=>hi)
 have hboxes:((st.uo ds).put (some s) (.one (.bool b))).boxes=st'.boxes:=by rw [dZ,hdn.boxes,hn.boxes]
 have hep:((st.uo ds).put (some s) (.one (.bool b))).ep=st'.ep:=by rw [BE,hdn.ep,hn.ep]
 have hlen:((st.uo ds).put (some s) (.one (.bool b))).slots.length=st'.slots.length:=by rw [cp,List.length_set,hdn.len,hn.len]
 have hiss:∀t,gW st' t→gW ((st.uo ds).put (some s) (.one (.bool b))) t:=by
  intro t ht
  rw [AM]
  rcases ht with ht|ht
  ·exact .inl ht
  ·refine .inr (GX ds st _ ?_)
   by_cases hi:t/3/4096∈ds
   ·exact .inl hi
   ·exact .inr (by rw [←hn.iss _ hi];exact ht)
 have hpres:∀s',cP st' s'→cP ((st.uo ds).put (some s) (.one (.bool b))) s':=fun s' hs=>by unfold cP at hs⊢;rw [hboxes];exact hs
 have hle:(aX C g st' w).Le (aX C g ((st.uo ds).put (some s) (.one (.bool b))) w):=
  ⟨rfl,fun t ht=>⟨hiss t ht,rfl⟩,fun _ _ _ _ hv=>hv,by show st'.ep≤_;rw [←hep];exact Nat.le_refl _,fun s' hs=>⟨hpres s' hs,rfl⟩,fun _ b o u ho hu=>⟨ho,hu⟩⟩
 refine ⟨g,h.step (fun _=>True) hle h.defers (by rw [hlen];exact h.size) (by rw [hboxes,hlen];exact h.bsize) h.frame h.labs (fun b x _ hx=>⟨hx,rfl,rfl⟩) ?_ ?_ ?_ (.inl ⟨trivial,by rw [BR,hdn.io,hn.io]⟩)⟩
 ·intro i av hi
  rw [cp,List.getElem?_set] at hi
  split at hi
  ·rename_i hsi
   subst hsi
   split at hi
   ·cases hi
    refine .inr ⟨[],iE ?_,by simp,by simp⟩
    exact ⟨hkn,rfl⟩
   ·cases hi
  ·by_cases hid:i∈ds
   ·have:=GW ds st i av hi (.inl hid)
    subst this
    exact .inr ⟨[],cE.bot _ _,by simp,by simp⟩
   ·rw [hdn.slot i hid] at hi
    exact .inl ⟨trivial,by rw [hn.slot i hid];exact hi,rfl⟩
 ·intro s' cs hs
  rw [hboxes] at hs
  exact .inl ⟨trivial,hs,rfl⟩
 ·intro k v av hk
  simp at hk
theorem HS (Γ:aO)(f:Nat):(Γ.calm f).io=false∧(Γ.calm f).bx=false:=by
 unfold aO.calm
 cases h:(Γ f).io with
 |true=>exact ⟨rfl,rfl⟩
 |false=>
  cases h2:(Γ f).bx with
  |true=>exact ⟨rfl,rfl⟩
  |false=>exact ⟨h,h2⟩
theorem Sound.calm {E:Env}{Γ:aO}(h:Sound P E Γ):Sound P E Γ.calm:=by
 refine ⟨h.ty,h.eqs,h.fts,fun f=> ?_,h.mixed⟩
 unfold aO.calm
 cases (Γ f).io with
 |true=>intro xs y hy;cases hy
 |false=>
  cases (Γ f).bx with
  |true=>intro xs y hy;cases hy
  |false=>exact h.fns f
end Go.Dn
