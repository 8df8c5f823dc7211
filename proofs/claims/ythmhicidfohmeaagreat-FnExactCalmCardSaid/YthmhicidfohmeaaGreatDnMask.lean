import Derived.Test.YthmhicidfohmeaaGreatDnDen
import Derived.Test.YthmhicidfohmeaaGreatDnNat
/- What is kept at a loop's door; what a region whose ways meet again leaves. -/
namespace Go.Dn
open Go.RowKit
variable {P:Program} {C:Ctx} {st:AS} {a:Act} {w:World} {R:Type} {r:R}
theorem AR (keep:List Nat)(ep:Nat)(io:List AC):∀(l:List AV)(n i:Nat),(ka keep ep io n l)[i]?=(l[i]?).map λv=>if keep.contains (n+i) then v.mask keep ep io (n+i) else .bot
 |[],n,i=>by simp[ka]
 |v::l,n,0=>by simp[ka]
 |v::l,n,i+1=>by simp only[ka,List.getElem?_cons_succ];rw[AR keep ep io l (n+1) i,show n+1+i=n+(i+1) by omega]
theorem wJ (keep:List Nat)(ep:Nat)(io:List AC):∀(l:List (Option (List AC)))(n i:Nat),(jZ keep ep io n l)[i]?=(l[i]?).map λb=>if keep.contains (n+i) then b.map (Dh keep ep io (.box (n+i)) 0) else none
 |[],n,i=>by simp[jZ]
 |v::l,n,0=>by simp[jZ]
 |v::l,n,i+1=>by simp only[jZ,List.getElem?_cons_succ];rw[wJ keep ep io l (n+1) i,show n+1+i=n+(i+1) by omega]
theorem rP (keep:List Nat)(ep:Nat)(io:List AC):∀(l:List AV)(n:Nat),(ka keep ep io n l).length=l.length
 |[],_=>rfl
 |_::l,n=>by simp[ka,rP keep ep io l]
theorem xa (keep:List Nat)(ep:Nat)(io:List AC):∀(l:List (Option (List AC)))(n:Nat),(jZ keep ep io n l).length=l.length
 |[],_=>rfl
 |_::l,n=>by simp[jZ,xa keep ep io l]
def OC:Value→AV→List Value
 | .agg vs,.val true _=>vs.toList
 |v,_=>[v]
theorem OF {g:Bool}{v:Value}{vs:List Value}{cs:List AC}(h:Cut g v vs):OC v (.val g cs)=vs:=by cases g with|true=>simp only[Cut,bl]at h;subst h;simp[OC]|false=>simp only[Cut]at h;subst h;cases v<;>rfl
def xD (ioV:List Value)(st:AS)(a:Act)(w:World)(β:Nat→Nat)(t:Nat):Value:=
 if t%3=0∧t/3/4096=1000003 then(ioV[t/3%4096]?).getD undef
 else if t%3=0 then((OC (a.tmps.getD (t/3/4096) undef) (st.get (t/3/4096)))[t/3%4096]?).getD undef
 else match w.heap[β (t/3/4096)]? with
  |some (.cells arr _ _)=>(arr.toList[t/3%4096]?).getD undef
  |_=>undef
def Om (c c':RC)(io:List AC):Prop:=∀j n (e:CT)(ys:List e.D),AC.U9 io j n e=some ys→∃v0 fp0,dg c.hw c.w (.sl e) [v0] ys fp0∧v0=c.hdr n∧∀q,(gE.io j).zS=some q→c'.iss q∧v0=c'.hdr q
theorem SM {c c':RC}{io:List AC}(hio:Om c c' io){keep:List Nat}{rt:gE}{v:Value}{x:AC}{fp:List Nat}(h:eN c v x fp)(hhw:c'.hw=c.hw)(hw:c'.w=c.w)(hA:c'.A=c.A)(hep:c'.ep=0)(hβ:c'.β=c.β)(hpres:∀s,keep.contains s=true→c.pres s→c'.pres s)(hst:∀t,rt.zS=some t→c'.iss t∧v=c'.hdr t):eN c' v (x.mask keep c.ep io rt) fp:=by
 have hS:c'.S=c.S:=by funext b o;simp[RC.S,hhw,hA]
 cases x with
 |int k n=>exact h
 |bool b=>exact h
 |str s=>exact h
 |nilsl=>exact h
 |fn f=>exact h
 |un=>exact h
 |bot=>exact h
 |ptr s off=>simp only[AC.mask];split;rename_i hk;exact⟨by rw[hβ];exact h.1,hpres s hk h.2.1,h.2.2⟩;exact h.2.2
 |elt fl e y i off=>cases fl with|own t=>exact h.elim|nest _ _ _ _ _ _=>exact h.elim|part _ _ _ _=>exact h.elim|holed _ _ _=>exact h.elim|arg=>exact h.1|loc ep pv=>exact h.1
 |sl fl e xs=>
  cases fl with
  |own t=>exact⟨dg.mono h.1 (λb _=>⟨by rw[hw],by rw[hhw]⟩),hst⟩
  |nest _ _ _ _ _ _=>exact h.1
  |part _ _ _ _=>exact h.1
  |holed _ _ _=>obtain⟨_,⟨k,hk,h3⟩,_⟩:=h;exact⟨λq hq=>(by cases hq),⟨k,hk,h3.mono (λb hb=>⟨by rw[hw],by rw[hhw]⟩)⟩,by simp⟩
  |arg=>exact⟨h.1,by rw[hA,hw];exact h.2⟩
  |loc ep pv=>
   obtain⟨h1,h2,h3,h4,h5⟩:=h;have plain:eN c' v (if(ep==c.ep)=true then AC.sl (.loc 0 none) e xs else .bot) fp:=by split;rename_i he;refine⟨h1,by rw[hep];exact aM _,h3,λ_=>?_,by simp⟩;rw[hS,hw];exact h4 (by simpa using he);exact h1
   simp only[AC.mask];split;rename_i j n;split;rename_i ys hnow;obtain⟨v0,fp0,hown,hv0,hq⟩:=hio j n e ys hnow;obtain⟨_,k2⟩:=h5 _ _ rfl;have hv:v0=v:=hv0.trans k2.symm;subst hv;refine⟨h1,by rw[hep];exact aM _,Ct hown,λ_=>?_,λr t hp=>?_⟩;rw[hS,hw];exact dg.rep (λb o ho=> .inr ho) hown;cases hst':(gE.io j).zS with|none=>rw[hst']at hp;cases hp|some q=>rw[hst']at hp;simp at hp;obtain⟨_,rfl⟩:=hp;exact⟨(hq q hst').1,(hq q hst').2⟩
   exact plain;exact plain
theorem Bx {c c':RC}{io:List AC}(hio:Om c c' io){keep:List Nat}{f:Nat→gE}(hhw:c'.hw=c.hw)(hw:c'.w=c.w)(hA:c'.A=c.A)(hep:c'.ep=0)(hβ:c'.β=c.β)
 (hpres:∀s,keep.contains s=true→c.pres s→c'.pres s):∀{vs:List Value}{xs:List AC}{fp:List Nat}(j:Nat),bf c vs xs fp→
  (∀i v,vs[i]?=some v→∀t,(f (j+i)).zS=some t→c'.iss t∧v=c'.hdr t)→bf c' vs (Dh keep c.ep io f j xs) fp
 |[],[],_,_,h,_=>h
 |v::_,_::_,_,j,h,hm=>by obtain⟨f1,f2,rfl,h1,h2⟩:=h;exact⟨f1,f2,rfl,SM hio h1 hhw hw hA hep hβ hpres (λt ht=>hm 0 v rfl t ht),Bx hio hhw hw hA hep hβ hpres (j+1) h2 (λi u hu t ht=>hm (i+1) u (by simpa using hu) t (by rwa[show j+(i+1)=j+1+i by omega]))⟩
 |[],_::_,_,_,h,_=>h.elim
 |_::_,[],_,_,h,_=>h.elim
theorem Vt {c:RC}{v:Value}{x:AC}{fp:List Nat}(h:eN c v x fp)(hno:∀(tag:Option Nat)(e:CT)(xs:List e.D),x=.sl (.own tag) e xs→False)(hno2:∀(tag:Option Nat)(i:Int)(ep:Option Nat)(e:CT)(xs:List e.D),x=.sl (.holed tag i ep) e xs→False):fp=[]:=by
 cases x with
 |int k n=>exact h.2
 |bool b=>exact h.2
 |str s=>exact h.2
 |nilsl=>exact h.2
 |fn f=>exact h.2
 |un=>exact h.2
 |bot=>exact h
 |ptr s off=>exact h.2.2
 |elt fl e y i off=>cases fl with|own t=>exact h.elim|nest _ _ _ _ _ _=>exact h.elim|part _ _ _ _=>exact h.elim|holed _ _ _=>exact h.elim|arg=>exact h.1|loc ep pv=>exact h.1
 |sl fl e xs=>cases fl with|own t=>exact(hno _ _ _ rfl).elim|nest _ _ _ _ _ _=>exact h.1|part _ _ _ _=>exact h.1|holed _ _ _=>exact(hno2 _ _ _ _ _ rfl).elim|arg=>exact h.1|loc ep pv=>exact h.1
theorem ku.mask (h:ku C st a w)(keep:List Nat):ku C (st.mask keep) a w:=by
 obtain⟨g,h⟩:=h;let g':Gh:={g with hdr:=xD C.ioV st a w g.β}
 have hpres:∀s,keep.contains s=true→eG st s→eG (st.mask keep) s:=by rintro s hk ⟨cs,hs⟩;refine⟨Dh keep st.ep st.io (.box s) 0 cs,?_⟩;show(jZ keep st.ep st.io 0 st.boxes)[s]?=_;rw[wJ,hs];simp only[cg,bJ,ay hk]
 obtain⟨fpi,hri,hni,hli⟩:=h.io;have hioq:∀j v,C.ioV[j]?=some v→∀q,(gE.io j).zS=some q→jl (st.mask keep) q∧v=xD C.ioV st a w g.β q:=by
  intro j v hv q hq;simp only[gE.zS]at hq;cases hb:Nat.ble 4096 j with
  |true=>rw[hb]at hq;cases hq
  |false=>
   rw[hb]at hq;simp only[af,aS,uc]at hq;have hj:j<4096:=by rcases bB j 4096 with hlt|hge;exact hlt;rw[eR hge]at hb;cases hb
   have h0:q%3=0:=by omega
   have h1:q/3/4096=1000003:=by omega
   have h2:q/3%4096=j:=by omega
   refine⟨.inl (by omega),?_⟩;rw[xD,ay ⟨h0,h1⟩,h2,hv];rfl
 have hseen:Om (bU C g st w) (bU C g' (st.mask keep) w) st.io:=by
  intro j n e ys hnow;unfold AC.U9 at hnow;split at hnow;rename_i t' e' ys' hj;split at hnow;rename_i he;subst he;cases ht:(t'==n)with
  |false=>rw[ht]at hnow;cases hnow
  |true=>
   rw[ht]at hnow;have:t'=n:=by simpa using ht
   subst this;cases hnow;rw[cR]at hj;obtain⟨v,f,hv,hr,_⟩:=hri.get j _ hj;exact⟨v,f,hr.1,(hr.2 t' rfl).2,λq hq=>hioq j v hv q hq⟩
  cases hnow;cases hnow
 have hmio:∀(j:Nat){vs:List Value}{xs:List AC}{fp:List Nat},bf (bU C g st w) vs xs fp→(∀i v,vs[i]?=some v→C.ioV[j+i]?=some v)→bf (bU C g' (st.mask keep) w) vs (Ps keep j xs) fp:=by
  intro j vs
  induction vs generalizing j with
  |nil=>intro xs fp hr _;cases xs with
   |nil=>exact hr
   |cons _ _=>exact hr.elim
  |cons v vs ih=>
   intro xs fp hr hv
   cases xs with
   |nil=>exact hr.elim
   |cons x xs=>
    obtain⟨f1,f2,rfl,r1,r2⟩:=hr
    refine⟨f1,f2,rfl,?_,ih (j+1) r2 (λi u hu=>by rw[show j+1+i=j+(i+1) by omega];exact hv (i+1) u (by simpa using hu))⟩
    have hv0:=hv 0 v rfl
    rw[ck]at hv0
    split
    ·rename_i tg e ys
     exact⟨r1.1,λq hq=>hioq j v hv0 q hq⟩
    ·rename_i tag i ep e ys
     obtain⟨_,⟨k,hk,h3⟩,_⟩:=r1
     exact⟨λq hq=>(by cases hq),⟨k,hk,h3⟩,by simp⟩
    ·rename_i s off
     split
     ·rename_i hk
      exact⟨r1.1,hpres s hk r1.2.1,r1.2.2⟩
     ·exact r1.2.2
    ·rename_i hno hno2 _
     cases hfl:x.ew with
     |true=>
      obtain⟨rfl,k⟩:=pz (c':=bU C g' (st.mask keep) w) r1 hfl
      exact k
     |false=>exact Vt r1 hno hno2
 refine⟨g',h.defers,?_,?_,λi av hi=>?_,λs cs hs=>?_,λk v av hk=>by simp at hk,h.labs,h.frame,⟨fpi,hmio 0 hri (λi v hv=>by rw[bJ];exact hv),hni,hli⟩⟩;show _=(ka keep st.ep st.io 0 st.slots).length;rw[rP];exact h.size;show(jZ keep st.ep st.io 0 st.boxes).length=(ka keep st.ep st.io 0 st.slots).length;rw[rP,xa];exact h.bsize;have hi':(ka keep st.ep st.io 0 st.slots)[i]?=some av:=hi;rw[AR,bJ]at hi';cases hv:st.slots[i]? with
 |none=>rw[hv]at hi';cases hi'
 |some x=>
  rw[hv]at hi';simp only[cg,aS]at hi';split at hi'
  ·subst hi'
   cases hx:x with
   |tup ts=>exact⟨[],ej.bot _ _,by simp,by simp⟩
   |val gg cs=>
    rw[hx]at hv
    obtain⟨fp,⟨vs,hcut,hr⟩,hn,hl⟩:=h.slots i _ hv
    refine⟨fp,⟨vs,hcut,Bx (io:=st.io) hseen (c:=bU C g st w) (c':=bU C g' (st.mask keep) w) rfl rfl rfl rfl rfl hpres 0 hr ?_⟩,hn,hl⟩
    intro j u hu t ht
    simp only[bJ,gE.zS]at ht
    cases hb:Nat.ble 4096 j with
    |true=>rw[hb]at ht;cases ht
    |false=>
     rw[hb]at ht
     simp only[af]at ht
     cases hbs:Nat.ble 1000000 i with
     |true=>rw[hbs]at ht;cases ht
     |false=>
     rw[hbs]at ht
     simp only[af,aS]at ht
     have hi6:i<1000000:=by rcases bB i 1000000 with hlt|hge;exact hlt;rw[eR hge]at hbs;cases hbs
     have hj:j<4096:=by rcases bB j 4096 with hlt|hge;exact hlt;rw[eR hge]at hb;cases hb
     have h0:t%3=0:=by omega
     have h1:t/3/4096=i:=by omega
     have h2:t/3%4096=j:=by omega
     refine⟨.inl (by omega),?_⟩
     show u=xD C.ioV st a w g.β t
     rw[xD,aq (by omega),ay h0,h1,h2,get_eq hv,OF hcut,hu];rfl
  subst hi';exact⟨[],ej.bot _ _,by simp,by simp⟩
 have hs':(jZ keep st.ep st.io 0 st.boxes)[s]?=some (some cs):=hs;rw[wJ,bJ]at hs';cases hv:st.boxes[s]? with
 |none=>rw[hv]at hs';cases hs'
 |some x=>
  rw[hv]at hs';simp only[cg,aS]at hs';split at hs';cases hx:x with
  |none=>rw[hx]at hs';cases hs'
  |some xs=>
   rw[hx]at hs' hv;simp only[cg,aS]at hs';subst hs';obtain⟨arr,T,fr,fp,hb,hth,hr,hn,hni,hl,hl0,hw0⟩:=h.boxes s xs hv;refine⟨arr,T,fr,fp,hb,hth,Bx (io:=st.io) hseen (c:=bU C g st w) (c':=bU C g' (st.mask keep) w) rfl rfl rfl rfl rfl hpres 0 hr ?_,hn,hni,hl,hl0,hw0⟩;intro j u hu t ht;simp only[bJ,gE.zS]at ht;cases hbb:Nat.ble 4096 j with
   |true=>rw[hbb]at ht;cases ht
   |false=>
    rw[hbb]at ht;simp only[af,aS]at ht;have hj:j<4096:=by rcases bB j 4096 with hlt|hge;exact hlt;rw[eR hge]at hbb;cases hbb
    have h0:¬t%3=0:=by omega
    have h1:t/3/4096=s:=by omega
    have h2:t/3%4096=j:=by omega
    refine⟨.inl (by omega),?_⟩;show u=xD C.ioV st a w g.β t;rw[xD,aq (by omega),aq h0,h1,h2,hb];simp only;rw[hu];rfl
  cases hs'
structure fL (ds:List Nat) (st st':AS):Prop where
 len:st'.slots.length=st.slots.length
 slot:∀i,i∉ds→st'.slots[i]?=st.slots[i]?
 boxes:st'.boxes=st.boxes
 ep:st'.ep=st.ep
 iss:∀i,i∉ds→nth st'.iss i=nth st.iss i
 ilen:st'.iss.length=st.iss.length
 io:st'.io=st.io
theorem fL.refl (ds:List Nat)(st:AS):fL ds st st:=⟨rfl,λ_ _=>rfl,rfl,rfl,λ_ _=>rfl,rfl,rfl⟩
theorem fL.trans {ds:List Nat}{st st1 st2:AS}(h:fL ds st st1)(k:fL ds st1 st2):fL ds st st2:=⟨k.len.trans h.len,λi hi=>(k.slot i hi).trans (h.slot i hi),k.boxes.trans h.boxes,k.ep.trans h.ep,λi hi=>(k.iss i hi).trans (h.iss i hi),k.ilen.trans h.ilen,k.io.trans h.io⟩
theorem fL.put {ds:List Nat}{st:AS}{d:Option Nat}(hd:∀i,d=some i→i∈ds)(v:AV):fL ds st (st.put d v):=by cases d with|none=>exact fL.refl _ _|some d=>refine⟨by rw[dR,aL],λi hi=>?_,gj,C3,λi _=>by rw[Kw],by rw[Kw],Dd⟩;rw[dR,List.getElem?_set_ne];rintro rfl;exact hi (hd _ rfl)
theorem fL.eh {ds:List Nat}{st:AS}{d:Option Nat}(hd:∀i,d=some i→i∈ds):fL ds st (st.eh d):=by cases d with|none=>exact fL.refl _ _|some d=>refine⟨rfl,λi _=>rfl,rfl,rfl,λi hi=>?_,?_,rfl⟩;simp only[AS.eh,cR,dz];rw[List.getElem?_set_ne];rintro rfl;exact hi (hd _ rfl);simp only[AS.eh,dz,aL]
theorem pq {α:Type}{ds:List Nat}{o:Option α}{k:α→Option AS}{st':AS}(h:aa o k=some st')(hk:∀x,k x=some st'→fL ds st st'):fL ds st st':=by cases o with|none=>cases h|some x=>exact hk x h
theorem SX {ds:List Nat}{n:Nat}{k:Option AS}{st':AS}(h:room n k=some st')(hk:k=some st'→fL ds st st'):fL ds st st':=by unfold room at h;split at h;exact hk h;cases h
theorem PC {ds:List Nat}{op:BinOp}{k:IntKind}{x y:Int}{K:AC→Option AS}{st':AS}(h:Ck op k x y K=some st')(hk:∀z,K z=some st'→fL ds st st'):fL ds st st':=by
 unfold Ck at h
 split at h<;>first
  |exact hk _ h
  |(split at h
    ·cases h
    ·exact hk _ h)
  |cases h
theorem PE {ds:List Nat}{op:BinOp}{x y:List UInt8}{K:AC→Option AS}{st':AS}(h:D2 op x y K=some st')(hk:∀z,K z=some st'→fL ds st st'):fL ds st st':=by
 unfold D2 at h
 split at h<;>first
  |exact SX h (hk _)
  |exact hk _ h
  |cases h
theorem Dp {ds:List Nat}{op:BinOp}{x y:AV}{K:AC→Option AS}{st':AS}(h:AD op x y K=some st')(hk:∀z,K z=some st'→fL ds st st'):fL ds st st':=by unfold AD at h;split at h;split at h;split at h;cases h;exact hk _ h;split at h;cases h;exact hk _ h;split at h;exact PC h hk;cases h;exact PE h hk;split at h;exact hk _ h;exact hk _ h;cases h;split at h;exact pq h λb hb=>hk _ hb;exact pq h λb hb=>hk _ hb;cases h;cases h
theorem Cr {ds:List Nat}{lo hi:Option Operand}{n:Nat}{K:Int→Int→Option AS}{st0 st':AS}(h:jm st0 lo hi n K=some st')(hk:∀x y,K x y=some st'→fL ds st st'):fL ds st st':=by
 unfold jm at h
 split at h<;>first
  |exact hk _ _ h
  |cases h
theorem GB {ds:List Nat}{op:BinOp}{b:Bool}{K:AC→Option AS}{st':AS}(h:yD op b K=some st')(hk:∀c,K c=some st'→fL ds st st'):fL ds st st':=by unfold yD at h;split at h;exact hk _ h;exact hk _ h;cases h
theorem ID {E:Env}{Γ:bH}(hΓ:∀f,(Γ f).io=false∧(Γ f).bx=false){an:An}{ds:List Nat}{o:Oper}{st':AS}(hq:eE an ds o=true)(hd:∀i,o.dst=some i→i∈ds)(h:cj E Γ an o st some=some st'):fL ds st st':=by
 have hput:∀v,some (st.put o.dst v)=some st'→fL ds st st':=λv hv=>by cases hv;exact fL.put hd v
 unfold cj at h;split at h;rename_i x ho;simp only[eE,ho]at hq;unfold xb at h;cases hdd:o.dst with
 |none=>rw[hdd]at h;cases h
 |some d=>
  rw[hdd]at h hq;simp only at h hq;have hf:an.mv.contains d=false:=by simpa using hq
  rw[hf]at h;simp only[aQ,bF]at h;cases h;exact fL.put (λi hi=>hd i (by rw[hdd];exact hi)) _
 rename_i x ho;have hlate:u9 an o=false∨∃y,x=y∧(∀v,y≠ .const v)∧(∀t,y≠ .tmp t):=by cases x with|tmp t=>left;simp only[eE,ho,aj,aY]at hq;exact hq.2|const v=>left;simpa only[eE,ho,aY]using hq|func f=>simp[eE,ho]at hq|global g=>simp[eE,ho]at hq
 have hlate:u9 an o=false:=by rcases hlate with h1|⟨y,rfl,h1,h2⟩;exact h1;cases x with|tmp t=>exact absurd rfl (h2 t)|const v=>exact absurd rfl (h1 v)|func f=>simp[eE,ho]at hq|global g=>simp[eE,ho]at hq
 simp only[eE,ho]at hq;rw[aq (by simp[hlate])]at h;unfold pS at h;have hx:fL ds st (st.take x).2:=by
  cases x with
  |tmp t=>
   have ht:t∈ds:=by simp only[aj]at hq;simpa using hq.1
   exact fL.put (d:=some t) (λi hi=>by cases hi;exact ht) _
  |const v=>exact fL.refl _ _
  |func f=>exact fL.refl _ _
  |global g=>exact fL.refl _ _
 split at h;split at h;exact hput _ h;cases h;rename_i v st1 _ htk;cases h;have:(st.take x).2=st1:=by rw[htk]
 rw[this]at hx;exact hx.trans (fL.put hd _);unfold zH at h;split at h;rename_i t _;split at h;exact hput _ h;cases t with|true=>exact hput _ h|false=>exact hput _ h
 cases h;rename_i ho;simp[eE,ho]at hq;rename_i ho;simp[eE,ho]at hq;rename_i T p ho;simp only[eE,ho]at hq;have htk:CP an o=false:=by unfold CP;cases hdd:o.dst with|none=>rfl|some d=>rw[hdd]at hq;simp only[aY]at hq;simp only[hq,gi]
 unfold qZ at h;split at h;split at h;split at h;split at h;rename_i d hdd;rw[hdd]at hq;simp only at hq;have hf:an.mv.contains d=false:=by simpa using hq
 rw[hf]at h;simp only[aQ,bF]at h;exact hput _ h;cases h;cases h;cases h;rw[aq (by simp[htk])]at h;split at h;split at h;exact hput _ h;cases h;unfold yt at h;split at h;split at h;split at h;split at h;obtain⟨y,_,h⟩:=EK h;exact hput _ h;cases h;cases h;cases h;cases h;cases h;rename_i ho;simp[eE,ho]at hq;split at h;exact hput _ h;exact hput _ h;cases h;unfold vM at h;split at h;split at h;exact Dp h λz hz=>hput _ hz;cases h;split at h;split at h;exact Dp h λz hz=>hput _ hz;cases h;cases h;split at h;split at h;cases h;exact GB h λz hz=>hput _ hz;cases h;split at h;exact GB h λz hz=>hput _ hz;cases h;exact Dp h λz hz=>hput _ hz;unfold Ya at h;split at h;exact hput _ h;exact hput _ h;exact hput _ h;cases h;unfold uW at h;split at h;split at h;exact hput _ h;cases h;split at h;exact hput _ h;cases h;cases h;unfold jb at h;split at h;split at h;exact pq h λy hy=>hput _ hy;cases h;cases h;unfold wH at h;split at h;split at h;exact pq h λy hy=>hput _ hy;cases h;cases h;rename_i T parts ho;simp only[eE,ho]at hq;have he:parts=#[]:=by simpa using hq
 subst he;unfold wC at h;split at h;simp only[dm,List.map_nil]at h;split at h;exact hput _ h;cases h;cases h;rename_i ho;simp[eE,ho]at hq;rename_i ho;simp[eE,ho]at hq;rename_i ho;simp only[eE,ho,aY]at hq;unfold vE at h;rw[aq (by simp[hq])]at h;split at h;split at h;exact Cr h λx y hxy=>pq hxy λz hz=>hput _ hz;cases h;split at h;exact Cr h λx y hxy=>pq hxy λz hz=>hput _ hz;cases h;cases h;rename_i ho;simp[eE,ho]at hq;rename_i ho;simp[eE,ho]at hq;rename_i ho;simp[eE,ho]at hq;rename_i ho;simp[eE,ho]at hq;unfold Gw at h;split at h;split at h;exact hput _ h;cases h;split at h;exact hput _ h;cases h;cases h;unfold HJ at h;split at h;exact hput _ h;cases h;unfold HI at h;split at h;exact hput _ h;cases h;rename_i ho;simp[eE,ho]at hq;unfold zd at h;split at h;rename_i k _;rw[(hΓ k).2,(hΓ k).1]at h;simp only[af]at h;refine pq h λy hy=>?_;cases hsel:(Γ k).sel y with|true=>rw[hsel]at hy;cases hy;exact(fL.eh hd).trans (fL.put hd _)|false=>rw[hsel]at hy;cases hy;exact(fL.eh hd).trans (fL.put hd _)
 cases h;cases h
theorem MX {ops:List Oper}{o:Oper}(ho:o∈ops){i:Nat}(hi:o.dst=some i):i∈Bm ops:=List.mem_filterMap.2 ⟨o,ho,hi⟩
theorem GC {E:Env}{Γ:bH}(hΓ:∀f,(Γ f).io=false∧(Γ f).bx=false){an:An}{ops:List Oper}{o:Oper}{st':AS}(ho:o∈ops)(hq:eE an (Bm ops) o=true)(h:eX E Γ an ops o st some=some st'):fL (Bm ops) st st':=by
 have hd:∀i,o.dst=some i→i∈Bm ops:=λi hi=>MX ho hi;unfold eX at h;split at h;exact ID hΓ hq hd h;rename_i j want hg;split at h;rename_i d hdd;have hdm:d∈Bm ops:=by rw[cR]at hdd;cases ho':ops[j]? with|none=>rw[ho']at hdd;cases hdd|some o'=>rw[ho']at hdd;exact MX (List.mem_of_getElem? ho') hdd
 have hp:∀t,fL (Bm ops) st (st.put (some d) (.one (.bool t))):=λt=>fL.put (λi hi=>by cases hi;exact hdm) _;split at h;rename_i b hb;have main:∀t,(if(t==want)=true then cj E Γ an o (st.put (some d) (.one (.bool t))) some else some ((st.put (some d) (.one (.bool t))).put o.dst (.one .un)))=some st'→fL (Bm ops) st st':=by intro t ht;split at ht;exact(hp t).trans (ID hΓ hq hd ht);cases ht;exact(hp t).trans (fL.put hd _)
 cases b with|true=>exact main true h|false=>exact main false h
 cases h;exact fL.put hd _;cases h;cases h
theorem Nb {E:Env}{Γ:bH}(hΓ:∀f,(Γ f).io=false∧(Γ f).bx=false){an:An}{ops:List Oper}(hq:∀o∈ops,eE an (Bm ops) o=true):∀(l:List Oper)(st st':AS),(∀o∈l,o∈ops)→KH E Γ an ops l st some=some st'→fL (Bm ops) st st'
 |[],st,st',_,h=>by cases h;exact fL.refl _ _
 |o::l,st,st',hl,h=>by simp only[KH]at h;rw[ml]at h;cases hg:eX E Γ an ops o st some with|none=>rw[hg]at h;cases h|some st1=>rw[hg]at h;exact(GC hΓ (hl o (by simp)) (hq o (hl o (by simp))) hg).trans (Nb hΓ hq l st1 st' (λo' ho'=>hl o' (by simp[ho'])) h)
theorem Bl {ds:List Nat}:∀(l:List Nat)(st:AS),(∀i∈l,i∈ds)→fL ds st (st.vO l)
 |[],st,_=>fL.refl _ _
 |d::l,st,h=>by
  have hd:∀i,some d=some i→i∈ds:=λi hi=>by cases hi;exact h d (by simp)
  exact((fL.put hd _).trans (fL.eh hd)).trans (Bl l _ (λi hi=>h i (by simp[hi])))
theorem Ib:∀(l:List Nat)(st:AS)(i:Nat)(av:AV),(st.vO l).slots[i]?=some av→i∈l∨st.slots[i]?=some .bot→av=.bot
 |[],st,i,av,h,hi=>by rcases hi with hi|hi;cases hi;have:st.slots[i]?=some av:=h;rw[hi]at this;cases this;rfl
 |d::l,st,i,av,h,hi=>by
  refine Ib l _ i av h ?_;by_cases hil:i∈l;exact .inl hil;refine .inr ?_;rw[tp,dR,List.getElem?_set];have hlt:i<st.slots.length:=by
   have h1:=(Bl (ds:=d::l) l ((st.put (some d) .bot).eh (some d)) (λi hi=>by simp[hi])).len;have h2:=(List.getElem?_eq_some_iff.1 h).1;have h3:(AS.vO ((st.put (some d) .bot).eh (some d)) l).slots.length=st.slots.length:=by rw[h1,tp,dR,aL]
   have h4:i<(AS.vO ((st.put (some d) .bot).eh (some d)) l).slots.length:=h2;omega
  split;rename_i hdi;subst hdi;rw[ay hlt];rename_i hdi;rcases hi with hi|hi;simp only[bM]at hi;rcases hi with hi|hi;exact absurd hi.symm hdi;exact absurd hi hil;exact hi
theorem Ic:∀(l:List Nat)(st:AS)(i:Nat),i∈l∨(nth st.iss i).getD true=true→(nth (st.vO l).iss i).getD true=true
 |[],st,i,hi=>by rcases hi with hi|hi;cases hi;exact hi
 |d::l,st,i,hi=>by refine Ic l _ i ?_;by_cases hil:i∈l;exact .inl hil;refine .inr ?_;have he:(AS.eh (st.put (some d) .bot) (some d)).iss=fD st.iss d true:=rfl;rw[he,dz,cR,List.getElem?_set];split;split<;>rfl;rename_i hdi;rcases hi with hi|hi;simp only[bM]at hi;rcases hi with hi|hi;exact absurd hi.symm hdi;exact absurd hi hil;rw[cR]at hi;exact hi
theorem ku.weaken {st':AS}(h:ku C st' a w){ds:List Nat}(hn:fL ds st st'){s:Nat}{b:Bool}(hb:getBool st' s=some b):ku C ((st.vO ds).put (some s) (.one (.bool b))) a w:=by
 have hbs:st'.get s=.val false [.bool b]:=by unfold getBool at hb;split at hb;rename_i b' hg;cases hb;exact hg;cases hb
 have hkn:=h.known hbs;obtain⟨g,h⟩:=h;have hdn:=Bl (ds:=ds) ds st (λ_ hi=>hi);have hboxes:((st.vO ds).put (some s) (.one (.bool b))).boxes=st'.boxes:=by rw[gj,hdn.boxes,hn.boxes]
 have hep:((st.vO ds).put (some s) (.one (.bool b))).ep=st'.ep:=by rw[C3,hdn.ep,hn.ep]
 have hlen:((st.vO ds).put (some s) (.one (.bool b))).slots.length=st'.slots.length:=by rw[dR,aL,hdn.len,hn.len]
 have hiss:∀t,jl st' t→jl ((st.vO ds).put (some s) (.one (.bool b))) t:=by intro t ht;rw[Cn];rcases ht with ht|ht;exact .inl ht;refine .inr (Ic ds st _ ?_);by_cases hi:t/3/4096∈ds;exact .inl hi;exact .inr (by rw[←hn.iss _ hi];exact ht)
 have hpres:∀s',eG st' s'→eG ((st.vO ds).put (some s) (.one (.bool b))) s':=λs' hs=>by unfold eG at hs⊢;rw[hboxes];exact hs
 have hle:(bU C g st' w).Le (bU C g ((st.vO ds).put (some s) (.one (.bool b))) w):=⟨rfl,λt ht=>⟨hiss t ht,rfl⟩,λ_ _ _ _ hv=>hv,by show st'.ep≤_;rw[←hep];exact aM _,λs' hs=>⟨hpres s' hs,rfl⟩,λ_ b o u ho hu=>⟨ho,hu⟩⟩
 refine⟨g,h.step (λ_=>True) hle h.defers (by rw[hlen];exact h.size) (by rw[hboxes,hlen];exact h.bsize) h.frame h.labs (λb x _ hx=>⟨hx,rfl,rfl⟩) ?_ ?_ ?_ (.inl ⟨trivial,by rw[Dd,hdn.io,hn.io]⟩)⟩;intro i av hi;rw[dR,List.getElem?_set]at hi;split at hi;rename_i hsi;subst hsi;split at hi;cases hi;refine .inr ⟨[],kc ?_,by simp,by simp⟩;exact⟨hkn,rfl⟩;cases hi;by_cases hid:i∈ds;have:=Ib ds st i av hi (.inl hid);subst this;exact .inr ⟨[],ej.bot _ _,by simp,by simp⟩;rw[hdn.slot i hid]at hi;exact .inl ⟨trivial,by rw[hn.slot i hid];exact hi,rfl⟩;intro s' cs hs;rw[hboxes]at hs;exact .inl ⟨trivial,hs,rfl⟩;intro k v av hk;simp at hk
theorem Jl (Γ:bH)(f:Nat):(Γ.calm f).io=false∧(Γ.calm f).bx=false:=by unfold bH.calm;cases h:(Γ f).io with|true=>exact⟨rfl,rfl⟩|false=>cases h2:(Γ f).bx with|true=>exact⟨rfl,rfl⟩|false=>exact⟨h,h2⟩
theorem Sound.calm {E:Env}{Γ:bH}(h:Sound P E Γ):Sound P E Γ.calm:=by refine⟨h.ty,h.eqs,h.fts,λf=>?_,h.mixed⟩;unfold bH.calm;cases (Γ f).io with|true=>intro xs y hy;cases hy|false=>cases (Γ f).bx with|true=>intro xs y hy;cases hy|false=>exact h.fns f
end Go.Dn
