import Derived.Test.YthjhpjjgcfedbaaGreatDnDen
import Derived.Test.YthjhpjjgcfedbaaGreatDnNat
/- What is kept at a loop's door; what a region whose ways meet again leaves. -/
namespace Go.Dn
open Go.RowKit
variable {P:Program} {C:Ctx} {st:AS} {a:Act} {w:World} {R:Type} {r:R}
theorem tB (keep:List Nat)(ep:Nat)(io:List AC):∀(l:List AV)(n i:Nat),(gP keep ep io n l)[i]?=(l[i]?).map λv=>if keep.contains (n+i) then v.mask keep ep io (n+i) else .bot
 |[],n,i=>by simp[gP]
 |v::l,n,0=>by simp[gP]
 |v::l,n,i+1=>by simp only[gP,List.getElem?_cons_succ];rw[tB keep ep io l (n+1) i,show n+1+i=n+(i+1) by omega]
theorem qq (keep:List Nat)(ep:Nat)(io:List AC):∀(l:List (Option (List AC)))(n i:Nat),(gO keep ep io n l)[i]?=(l[i]?).map λb=>if keep.contains (n+i) then b.map (vL keep ep io (.box (n+i)) 0) else none
 |[],n,i=>by simp[gO]
 |v::l,n,0=>by simp[gO]
 |v::l,n,i+1=>by simp only[gO,List.getElem?_cons_succ];rw[qq keep ep io l (n+1) i,show n+1+i=n+(i+1) by omega]
theorem mL (keep:List Nat)(ep:Nat)(io:List AC):∀(l:List AV)(n:Nat),(gP keep ep io n l).length=l.length
 |[],_=>rfl
 |_::l,n=>by simp[gP,mL keep ep io l]
theorem qL (keep:List Nat)(ep:Nat)(io:List AC):∀(l:List (Option (List AC)))(n:Nat),(gO keep ep io n l).length=l.length
 |[],_=>rfl
 |_::l,n=>by simp[gO,qL keep ep io l]
def FL:Value→AV→List Value
 | .agg vs,.val true _=>vs.toList
 |v,_=>[v]
theorem FP {g:Bool}{v:Value}{vs:List Value}{cs:List AC}(h:Cut g v vs):FL v (.val g cs)=vs:=by cases g with|true=>simp only[Cut,aY]at h;subst h;simp[FL]|false=>simp only[Cut]at h;subst h;cases v<;>rfl
def qX (ioV:List Value)(st:AS)(a:Act)(w:World)(β:Nat→Nat)(t:Nat):Value:=
 if t%3=0∧t/3/4096=1000003 then(ioV[t/3%4096]?).getD undef
 else if t%3=0 then((FL (a.tmps.getD (t/3/4096) undef) (st.get (t/3/4096)))[t/3%4096]?).getD undef
 else match w.heap[β (t/3/4096)]? with
  |some (.cells arr _ _)=>(arr.toList[t/3%4096]?).getD undef
  |_=>undef
def Fp (c c':RC)(io:List AC):Prop:=∀j n (e:CT)(ys:List e.D),AC.KR io j n e=some ys→∃v0 fp0,cw c.hw c.w (.sl e) [v0] ys fp0∧v0=c.hdr n∧∀q,(eY.io j).sM=some q→c'.iss q∧v0=c'.hdr q
theorem I1 {c c':RC}{io:List AC}(hio:Fp c c' io){keep:List Nat}{rt:eY}{v:Value}{x:AC}{fp:List Nat}(h:dB c v x fp)(hhw:c'.hw=c.hw)(hw:c'.w=c.w)(hA:c'.A=c.A)(hep:c'.ep=0)(hβ:c'.β=c.β)(hpres:∀s,keep.contains s=true→c.pres s→c'.pres s)(hst:∀t,rt.sM=some t→c'.iss t∧v=c'.hdr t):dB c' v (x.mask keep c.ep io rt) fp:=by
 have hS:c'.S=c.S:=by funext b o;simp[RC.S,hhw,hA]
 cases x with
 |int k n=>exact h
 |bool b=>exact h
 |str s=>exact h
 |nilsl=>exact h
 |fn f=>exact h
 |un=>exact h
 |bot=>exact h
 |ptr s off=>simp only[AC.mask];split;rename_i hk;exact⟨by rw[hβ];exact h.1,hpres s hk h.2.1,h.2.2⟩;exact h.2.2
 |elt fl e y i off=>cases fl with|own t=>exact h.elim|nest _ _ _ _ _ _=>exact h.elim|part _ _ _ _=>exact h.elim|holed _ _ _=>exact h.elim|arg _=>exact h.1|loc ep pv=>exact h.1
 |sl fl e xs=>
  cases fl with
  |own t=>exact⟨cw.mono h.1 (λb _=>⟨by rw[hw],by rw[hhw]⟩),hst⟩
  |nest _ _ _ _ _ _=>exact h.1
  |part _ _ _ _=>exact h.1
  |holed _ _ _=>obtain⟨_,⟨k,hk,h3⟩,_⟩:=h;exact⟨λq hq=>(by cases hq),⟨k,hk,h3.mono (λb hb=>⟨by rw[hw],by rw[hhw]⟩)⟩,by simp⟩
  |arg _=>exact⟨h.1,by rw[hA,hw];exact h.2⟩
  |loc ep pv=>
   obtain⟨h1,h2,h3,h4,h5⟩:=h;have plain:dB c' v (if(ep==c.ep)=true then AC.sl (.loc 0 none) e xs else .bot) fp:=by split;rename_i he;refine⟨h1,by rw[hep];exact aK _,h3,λ_=>?_,by simp⟩;rw[hS,hw];exact h4 (by simpa using he);exact h1
   simp only[AC.mask];split;rename_i j n;split;rename_i ys hnow;obtain⟨v0,fp0,hown,hv0,hq⟩:=hio j n e ys hnow;obtain⟨_,k2⟩:=h5 _ _ rfl;have hv:v0=v:=hv0.trans k2.symm;subst hv;refine⟨h1,by rw[hep];exact aK _,uQ hown,λ_=>?_,λr t hp=>?_⟩;rw[hS,hw];exact cw.rep (λb o ho=> .inr ho) hown;cases hst':(eY.io j).sM with|none=>rw[hst']at hp;cases hp|some q=>rw[hst']at hp;simp at hp;obtain⟨_,rfl⟩:=hp;exact⟨(hq q hst').1,(hq q hst').2⟩
   exact plain;exact plain
theorem tW {c c':RC}{io:List AC}(hio:Fp c c' io){keep:List Nat}{f:Nat→eY}(hhw:c'.hw=c.hw)(hw:c'.w=c.w)(hA:c'.A=c.A)(hep:c'.ep=0)(hβ:c'.β=c.β)
 (hpres:∀s,keep.contains s=true→c.pres s→c'.pres s):∀{vs:List Value}{xs:List AC}{fp:List Nat}(j:Nat),aR c vs xs fp→
  (∀i v,vs[i]?=some v→∀t,(f (j+i)).sM=some t→c'.iss t∧v=c'.hdr t)→aR c' vs (vL keep c.ep io f j xs) fp
 |[],[],_,_,h,_=>h
 |v::_,_::_,_,j,h,hm=>by obtain⟨f1,f2,rfl,h1,h2⟩:=h;exact⟨f1,f2,rfl,I1 hio h1 hhw hw hA hep hβ hpres (λt ht=>hm 0 v rfl t ht),tW hio hhw hw hA hep hβ hpres (j+1) h2 (λi u hu t ht=>hm (i+1) u (by simpa using hu) t (by rwa[show j+(i+1)=j+1+i by omega]))⟩
 |[],_::_,_,_,h,_=>h.elim
 |_::_,[],_,_,h,_=>h.elim
theorem K8 {c:RC}{v:Value}{x:AC}{fp:List Nat}(h:dB c v x fp)(hno:∀(tag:Option Nat)(e:CT)(xs:List e.D),x=.sl (.own tag) e xs→False)(hno2:∀(tag:Option Nat)(i:Int)(ep:Option Nat)(e:CT)(xs:List e.D),x=.sl (.holed tag i ep) e xs→False):fp=[]:=by
 cases x with
 |int k n=>exact h.2
 |bool b=>exact h.2
 |str s=>exact h.2
 |nilsl=>exact h.2
 |fn f=>exact h.2
 |un=>exact h.2
 |bot=>exact h
 |ptr s off=>exact h.2.2
 |elt fl e y i off=>cases fl with|own t=>exact h.elim|nest _ _ _ _ _ _=>exact h.elim|part _ _ _ _=>exact h.elim|holed _ _ _=>exact h.elim|arg _=>exact h.1|loc ep pv=>exact h.1
 |sl fl e xs=>cases fl with|own t=>exact(hno _ _ _ rfl).elim|nest _ _ _ _ _ _=>exact h.1|part _ _ _ _=>exact h.1|holed _ _ _=>exact(hno2 _ _ _ _ _ rfl).elim|arg _=>exact h.1|loc ep pv=>exact h.1
theorem gH.mask (h:gH C st a w)(keep:List Nat):gH C (st.mask keep) a w:=by
 obtain⟨g,h⟩:=h;let g':Gh:={g with hdr:=qX C.ioV st a w g.β}
 have hpres:∀s,keep.contains s=true→dp st s→dp (st.mask keep) s:=by rintro s hk ⟨cs,hs⟩;refine⟨vL keep st.ep st.io (.box s) 0 cs,?_⟩;show(gO keep st.ep st.io 0 st.boxes)[s]?=_;rw[qq,hs];simp only[bQ,bG,au hk]
 obtain⟨fpi,hri,hni,hli⟩:=h.io;have hioq:∀j v,C.ioV[j]?=some v→∀q,(eY.io j).sM=some q→fM (st.mask keep) q∧v=qX C.ioV st a w g.β q:=by
  intro j v hv q hq;simp only[eY.sM]at hq;cases hb:Nat.ble 4096 j with
  |true=>rw[hb]at hq;cases hq
  |false=>
   rw[hb]at hq;simp only[ai,aJ,oD]at hq;have hj:j<4096:=by rcases bd j 4096 with hlt|hge;exact hlt;rw[dJ hge]at hb;cases hb
   have h0:q%3=0:=by omega
   have h1:q/3/4096=1000003:=by omega
   have h2:q/3%4096=j:=by omega
   refine⟨.inl (by omega),?_⟩;rw[qX,au ⟨h0,h1⟩,h2,hv];rfl
 have hseen:Fp (bt C g st w) (bt C g' (st.mask keep) w) st.io:=by
  intro j n e ys hnow;unfold AC.KR at hnow;split at hnow;rename_i t' e' ys' hj;split at hnow;rename_i he;subst he;cases ht:(t'==n)with
  |false=>rw[ht]at hnow;cases hnow
  |true=>
   rw[ht]at hnow;have:t'=n:=by simpa using ht
   subst this;cases hnow;rw[cg]at hj;obtain⟨v,f,hv,hr,_⟩:=hri.get j _ hj;exact⟨v,f,hr.1,(hr.2 t' rfl).2,λq hq=>hioq j v hv q hq⟩
  cases hnow;cases hnow
 have hmio:∀(j:Nat){vs:List Value}{xs:List AC}{fp:List Nat},aR (bt C g st w) vs xs fp→(∀i v,vs[i]?=some v→C.ioV[j+i]?=some v)→aR (bt C g' (st.mask keep) w) vs (Gz keep j xs) fp:=by
  intro j vs
  induction vs generalizing j with
  |nil=>intro xs fp hr _;cases xs with
   |nil=>exact hr
   |cons _ _=>exact hr.elim
  |cons v vs ih=>
   intro xs fp hr hv
   cases xs with
   |nil=>exact hr.elim
   |cons x xs=>
    obtain⟨f1,f2,rfl,r1,r2⟩:=hr
    refine⟨f1,f2,rfl,?_,ih (j+1) r2 (λi u hu=>by rw[show j+1+i=j+(i+1) by omega];exact hv (i+1) u (by simpa using hu))⟩
    have hv0:=hv 0 v rfl
    rw[cG]at hv0
    split
    ·rename_i tg e ys
     exact⟨r1.1,λq hq=>hioq j v hv0 q hq⟩
    ·rename_i tag i ep e ys
     obtain⟨_,⟨k,hk,h3⟩,_⟩:=r1
     exact⟨λq hq=>(by cases hq),⟨k,hk,h3⟩,by simp⟩
    ·rename_i s off
     split
     ·rename_i hk
      exact⟨r1.1,hpres s hk r1.2.1,r1.2.2⟩
     ·exact r1.2.2
    ·rename_i hno hno2 _
     cases hfl:x.du with
     |true=>
      obtain⟨rfl,k⟩:=fO (c':=bt C g' (st.mask keep) w) r1 hfl
      exact k
     |false=>exact K8 r1 hno hno2
 refine⟨g',h.defers,?_,?_,λi av hi=>?_,λs cs hs=>?_,λk v av hk=>by simp at hk,h.labs,h.frame,⟨fpi,hmio 0 hri (λi v hv=>by rw[bG];exact hv),hni,hli⟩⟩;show _=(gP keep st.ep st.io 0 st.slots).length;rw[mL];exact h.size;show(gO keep st.ep st.io 0 st.boxes).length=(gP keep st.ep st.io 0 st.slots).length;rw[mL,qL];exact h.bsize;have hi':(gP keep st.ep st.io 0 st.slots)[i]?=some av:=hi;rw[tB,bG]at hi';cases hv:st.slots[i]? with
 |none=>rw[hv]at hi';cases hi'
 |some x=>
  rw[hv]at hi';simp only[bQ,aJ]at hi';split at hi'
  ·subst hi'
   cases hx:x with
   |tup ts=>exact⟨[],di.bot _ _,by simp,by simp⟩
   |val gg cs=>
    rw[hx]at hv
    obtain⟨fp,⟨vs,hcut,hr⟩,hn,hl⟩:=h.slots i _ hv
    refine⟨fp,⟨vs,hcut,tW (io:=st.io) hseen (c:=bt C g st w) (c':=bt C g' (st.mask keep) w) rfl rfl rfl rfl rfl hpres 0 hr ?_⟩,hn,hl⟩
    intro j u hu t ht
    simp only[bG,eY.sM]at ht
    cases hb:Nat.ble 4096 j with
    |true=>rw[hb]at ht;cases ht
    |false=>
     rw[hb]at ht
     simp only[ai]at ht
     cases hbs:Nat.ble 1000000 i with
     |true=>rw[hbs]at ht;cases ht
     |false=>
     rw[hbs]at ht
     simp only[ai,aJ]at ht
     have hi6:i<1000000:=by rcases bd i 1000000 with hlt|hge;exact hlt;rw[dJ hge]at hbs;cases hbs
     have hj:j<4096:=by rcases bd j 4096 with hlt|hge;exact hlt;rw[dJ hge]at hb;cases hb
     have h0:t%3=0:=by omega
     have h1:t/3/4096=i:=by omega
     have h2:t/3%4096=j:=by omega
     refine⟨.inl (by omega),?_⟩
     show u=qX C.ioV st a w g.β t
     rw[qX,aq (by omega),au h0,h1,h2,get_eq hv,FP hcut,hu];rfl
  subst hi';exact⟨[],di.bot _ _,by simp,by simp⟩
 have hs':(gO keep st.ep st.io 0 st.boxes)[s]?=some (some cs):=hs;rw[qq,bG]at hs';cases hv:st.boxes[s]? with
 |none=>rw[hv]at hs';cases hs'
 |some x=>
  rw[hv]at hs';simp only[bQ,aJ]at hs';split at hs';cases hx:x with
  |none=>rw[hx]at hs';cases hs'
  |some xs=>
   rw[hx]at hs' hv;simp only[bQ,aJ]at hs';subst hs';obtain⟨arr,T,fr,fp,hb,hth,hr,hn,hni,hl,hl0,hw0⟩:=h.boxes s xs hv;refine⟨arr,T,fr,fp,hb,hth,tW (io:=st.io) hseen (c:=bt C g st w) (c':=bt C g' (st.mask keep) w) rfl rfl rfl rfl rfl hpres 0 hr ?_,hn,hni,hl,hl0,hw0⟩;intro j u hu t ht;simp only[bG,eY.sM]at ht;cases hbb:Nat.ble 4096 j with
   |true=>rw[hbb]at ht;cases ht
   |false=>
    rw[hbb]at ht;simp only[ai,aJ]at ht;have hj:j<4096:=by rcases bd j 4096 with hlt|hge;exact hlt;rw[dJ hge]at hbb;cases hbb
    have h0:¬t%3=0:=by omega
    have h1:t/3/4096=s:=by omega
    have h2:t/3%4096=j:=by omega
    refine⟨.inl (by omega),?_⟩;show u=qX C.ioV st a w g.β t;rw[qX,aq (by omega),aq h0,h1,h2,hb];simp only;rw[hu];rfl
  cases hs'
structure eu (ds:List Nat) (st st':AS):Prop where
 len:st'.slots.length=st.slots.length
 slot:∀i,i∉ds→st'.slots[i]?=st.slots[i]?
 boxes:st'.boxes=st.boxes
 ep:st'.ep=st.ep
 iss:∀i,i∉ds→nth st'.iss i=nth st.iss i
 ilen:st'.iss.length=st.iss.length
 io:st'.io=st.io
theorem eu.refl (ds:List Nat)(st:AS):eu ds st st:=⟨rfl,λ_ _=>rfl,rfl,rfl,λ_ _=>rfl,rfl,rfl⟩
theorem eu.trans {ds:List Nat}{st st1 st2:AS}(h:eu ds st st1)(k:eu ds st1 st2):eu ds st st2:=⟨k.len.trans h.len,λi hi=>(k.slot i hi).trans (h.slot i hi),k.boxes.trans h.boxes,k.ep.trans h.ep,λi hi=>(k.iss i hi).trans (h.iss i hi),k.ilen.trans h.ilen,k.io.trans h.io⟩
theorem eu.put {ds:List Nat}{st:AS}{d:Option Nat}(hd:∀i,d=some i→i∈ds)(v:AV):eu ds st (st.put d v):=by cases d with|none=>exact eu.refl _ _|some d=>refine⟨by rw[dg,aO],λi hi=>?_,eP,vx,λi _=>by rw[Cb],by rw[Cb],vG⟩;rw[dg,List.getElem?_set_ne];rintro rfl;exact hi (hd _ rfl)
theorem eu.cU {ds:List Nat}{st:AS}{d:Option Nat}(hd:∀i,d=some i→i∈ds):eu ds st (st.cU d):=by cases d with|none=>exact eu.refl _ _|some d=>refine⟨rfl,λi _=>rfl,rfl,rfl,λi hi=>?_,?_,rfl⟩;simp only[AS.cU,cg,cP];rw[List.getElem?_set_ne];rintro rfl;exact hi (hd _ rfl);simp only[AS.cU,cP,aO]
theorem lj {α:Type}{ds:List Nat}{o:Option α}{k:α→Option AS}{st':AS}(h:aa o k=some st')(hk:∀x,k x=some st'→eu ds st st'):eu ds st st':=by cases o with|none=>cases h|some x=>exact hk x h
theorem Jd {ds:List Nat}{n:Nat}{k:Option AS}{st':AS}(h:room n k=some st')(hk:k=some st'→eu ds st st'):eu ds st st':=by unfold room at h;split at h;exact hk h;cases h
theorem GI {ds:List Nat}{op:BinOp}{k:IntKind}{x y:Int}{K:AC→Option AS}{st':AS}(h:uF op k x y K=some st')(hk:∀z,K z=some st'→eu ds st st'):eu ds st st':=by
 unfold uF at h
 split at h<;>first
  |exact hk _ h
  |(split at h
    ·cases h
    ·exact hk _ h)
  |cases h
theorem GJ {ds:List Nat}{op:BinOp}{x y:List UInt8}{K:AC→Option AS}{st':AS}(h:wK op x y K=some st')(hk:∀z,K z=some st'→eu ds st st'):eu ds st st':=by
 unfold wK at h
 split at h<;>first
  |exact Jd h (hk _)
  |exact hk _ h
  |cases h
theorem vN {ds:List Nat}{op:BinOp}{x y:AV}{K:AC→Option AS}{st':AS}(h:tq op x y K=some st')(hk:∀z,K z=some st'→eu ds st st'):eu ds st st':=by unfold tq at h;split at h;split at h;split at h;cases h;exact hk _ h;split at h;cases h;exact hk _ h;split at h;exact GI h hk;cases h;exact GJ h hk;split at h;exact hk _ h;exact hk _ h;cases h;split at h;exact lj h λb hb=>hk _ hb;exact lj h λb hb=>hk _ hb;cases h;cases h
theorem uN {ds:List Nat}{lo hi:Option Operand}{n:Nat}{K:Int→Int→Option AS}{st0 st':AS}(h:gz st0 lo hi n K=some st')(hk:∀x y,K x y=some st'→eu ds st st'):eu ds st st':=by
 unfold gz at h
 split at h<;>first
  |exact hk _ _ h
  |cases h
theorem yB {ds:List Nat}{op:BinOp}{b:Bool}{K:AC→Option AS}{st':AS}(h:rJ op b K=some st')(hk:∀c,K c=some st'→eu ds st st'):eu ds st st':=by unfold rJ at h;split at h;exact hk _ h;exact hk _ h;cases h
theorem AI {E:Env}{Γ:cD}(hΓ:∀f,(Γ f).io=false∧(Γ f).bx=false∧(Γ f).pr=false){an:An}{ds:List Nat}{o:Oper}{st':AS}(hq:dy an ds o=true)(hd:∀i,o.dst=some i→i∈ds)(h:bN E Γ an o st some=some st'):eu ds st st':=by
 have hput:∀v,some (st.put o.dst v)=some st'→eu ds st st':=λv hv=>by cases hv;exact eu.put hd v
 unfold bN at h;split at h;rename_i x ho;simp only[dy,ho]at hq;unfold qM at h;cases hdd:o.dst with
 |none=>rw[hdd]at h;cases h
 |some d=>
  rw[hdd]at h hq;simp only at h hq;have hf:an.mv.contains d=false:=by simpa using hq
  rw[hf]at h;simp only[aD,bf]at h;cases h;exact eu.put (λi hi=>hd i (by rw[hdd];exact hi)) _
 rename_i x ho;have hlate:px an o=false∨∃y,x=y∧(∀v,y≠ .const v)∧(∀t,y≠ .tmp t):=by cases x with|tmp t=>left;simp only[dy,ho,ab,aA]at hq;exact hq.2|const v=>left;simpa only[dy,ho,aA]using hq|func f=>simp[dy,ho]at hq|global g=>simp[dy,ho]at hq
 have hlate:px an o=false:=by rcases hlate with h1|⟨y,rfl,h1,h2⟩;exact h1;cases x with|tmp t=>exact absurd rfl (h2 t)|const v=>exact absurd rfl (h1 v)|func f=>simp[dy,ho]at hq|global g=>simp[dy,ho]at hq
 simp only[dy,ho]at hq;rw[aq (by simp[hlate])]at h;unfold lH at h;have hx:eu ds st (st.take x).2:=by
  cases x with
  |tmp t=>
   have ht:t∈ds:=by simp only[ab]at hq;simpa using hq.1
   exact eu.put (d:=some t) (λi hi=>by cases hi;exact ht) _
  |const v=>exact eu.refl _ _
  |func f=>exact eu.refl _ _
  |global g=>exact eu.refl _ _
 split at h;split at h;exact hput _ h;cases h;rename_i v st1 _ htk;cases h;have:(st.take x).2=st1:=by rw[htk]
 rw[this]at hx;exact hx.trans (eu.put hd _);unfold sE at h;split at h;rename_i t _;split at h;exact hput _ h;cases t with|true=>exact hput _ h|false=>exact hput _ h
 cases h;rename_i ho;simp[dy,ho]at hq;rename_i ho;simp[dy,ho]at hq;rename_i T p ho;simp only[dy,ho]at hq;have htk:sP an o=false:=by unfold sP;cases hdd:o.dst with|none=>rfl|some d=>rw[hdd]at hq;simp only[aA]at hq;simp only[hq,dE]
 unfold im at h;split at h;split at h;split at h;split at h;rename_i d hdd;rw[hdd]at hq;simp only at hq;have hf:an.mv.contains d=false:=by simpa using hq
 rw[hf]at h;simp only[aD,bf]at h;exact hput _ h;cases h;cases h;cases h;rw[aq (by simp[htk])]at h;split at h;split at h;exact hput _ h;cases h;unfold rr at h;split at h;split at h;split at h;split at h;obtain⟨y,_,h⟩:=xt h;exact hput _ h;cases h;cases h;cases h;cases h;cases h;rename_i ho;simp[dy,ho]at hq;split at h;exact hput _ h;exact hput _ h;cases h;unfold pL at h;split at h;split at h;exact vN h λz hz=>hput _ hz;cases h;split at h;split at h;exact vN h λz hz=>hput _ hz;cases h;cases h;split at h;split at h;cases h;exact yB h λz hz=>hput _ hz;cases h;split at h;exact yB h λz hz=>hput _ hz;cases h;exact vN h λz hz=>hput _ hz;unfold Mr at h;split at h;exact hput _ h;exact hput _ h;exact hput _ h;cases h;unfold pj at h;split at h;split at h;exact hput _ h;cases h;split at h;exact hput _ h;cases h;cases h;unfold gn at h;split at h;split at h;exact lj h λy hy=>hput _ hy;cases h;cases h;unfold qp at h;split at h;split at h;exact lj h λy hy=>hput _ hy;cases h;cases h;rename_i T parts ho;simp only[dy,ho]at hq;have he:parts=#[]:=by simpa using hq
 subst he;unfold ql at h;split at h;simp only[cK,List.map_nil]at h;split at h;exact hput _ h;cases h;cases h;rename_i ho;simp[dy,ho]at hq;rename_i ho;simp[dy,ho]at hq;rename_i ho;simp only[dy,ho,aA]at hq;unfold pE at h;rw[aq (by simp[hq])]at h;split at h;split at h;exact uN h λx y hxy=>lj hxy λz hz=>hput _ hz;cases h;split at h;exact uN h λx y hxy=>lj hxy λz hz=>hput _ hz;cases h;cases h;rename_i ho;simp[dy,ho]at hq;rename_i ho;simp[dy,ho]at hq;rename_i ho;simp[dy,ho]at hq;rename_i ho;simp[dy,ho]at hq;unfold yt at h;split at h;split at h;exact hput _ h;cases h;split at h;exact hput _ h;cases h;cases h;unfold zQ at h;split at h;exact hput _ h;cases h;unfold zP at h;split at h;exact hput _ h;cases h;rename_i ho;simp[dy,ho]at hq;unfold rH at h;split at h;rename_i k _;rw[(hΓ k).2.1,(hΓ k).2.2,(hΓ k).1]at h;simp only[ai]at h;refine lj h λy hy=>?_;cases hsel:(Γ k).sel y with|true=>rw[hsel]at hy;cases hy;exact(eu.cU hd).trans (eu.put hd _)|false=>rw[hsel]at hy;cases hy;exact(eu.cU hd).trans (eu.put hd _)
 cases h;cases h
theorem En {ops:List Oper}{o:Oper}(ho:o∈ops){i:Nat}(hi:o.dst=some i):i∈tP ops:=List.mem_filterMap.2 ⟨o,ho,hi⟩
theorem yC {E:Env}{Γ:cD}(hΓ:∀f,(Γ f).io=false∧(Γ f).bx=false∧(Γ f).pr=false){an:An}{ops:List Oper}{o:Oper}{st':AS}(ho:o∈ops)(hq:dy an (tP ops) o=true)(h:dx E Γ an ops o st some=some st'):eu (tP ops) st st':=by
 have hd:∀i,o.dst=some i→i∈tP ops:=λi hi=>En ho hi;unfold dx at h;split at h;exact AI hΓ hq hd h;rename_i j want hg;split at h;rename_i d hdd;have hdm:d∈tP ops:=by rw[cg]at hdd;cases ho':ops[j]? with|none=>rw[ho']at hdd;cases hdd|some o'=>rw[ho']at hdd;exact En (List.mem_of_getElem? ho') hdd
 have hp:∀t,eu (tP ops) st (st.put (some d) (.one (.bool t))):=λt=>eu.put (λi hi=>by cases hi;exact hdm) _;split at h;rename_i b hb;have main:∀t,(if(t==want)=true then bN E Γ an o (st.put (some d) (.one (.bool t))) some else some ((st.put (some d) (.one (.bool t))).put o.dst (.one .un)))=some st'→eu (tP ops) st st':=by intro t ht;split at ht;exact(hp t).trans (AI hΓ hq hd ht);cases ht;exact(hp t).trans (eu.put hd _)
 cases b with|true=>exact main true h|false=>exact main false h
 cases h;exact eu.put hd _;cases h;cases h
theorem EA {E:Env}{Γ:cD}(hΓ:∀f,(Γ f).io=false∧(Γ f).bx=false∧(Γ f).pr=false){an:An}{ops:List Oper}(hq:∀o∈ops,dy an (tP ops) o=true):∀(l:List Oper)(st st':AS),(∀o∈l,o∈ops)→Ch E Γ an ops l st some=some st'→eu (tP ops) st st'
 |[],st,st',_,h=>by cases h;exact eu.refl _ _
 |o::l,st,st',hl,h=>by simp only[Ch]at h;rw[jn]at h;cases hg:dx E Γ an ops o st some with|none=>rw[hg]at h;cases h|some st1=>rw[hg]at h;exact(yC hΓ (hl o (by simp)) (hq o (hl o (by simp))) hg).trans (EA hΓ hq l st1 st' (λo' ho'=>hl o' (by simp[ho'])) h)
theorem tO {ds:List Nat}:∀(l:List Nat)(st:AS),(∀i∈l,i∈ds)→eu ds st (st.pT l)
 |[],st,_=>eu.refl _ _
 |d::l,st,h=>by
  have hd:∀i,some d=some i→i∈ds:=λi hi=>by cases hi;exact h d (by simp)
  exact((eu.put hd _).trans (eu.cU hd)).trans (tO l _ (λi hi=>h i (by simp[hi])))
theorem Ao:∀(l:List Nat)(st:AS)(i:Nat)(av:AV),(st.pT l).slots[i]?=some av→i∈l∨st.slots[i]?=some .bot→av=.bot
 |[],st,i,av,h,hi=>by rcases hi with hi|hi;cases hi;have:st.slots[i]?=some av:=h;rw[hi]at this;cases this;rfl
 |d::l,st,i,av,h,hi=>by
  refine Ao l _ i av h ?_;by_cases hil:i∈l;exact .inl hil;refine .inr ?_;rw[lz,dg,List.getElem?_set];have hlt:i<st.slots.length:=by
   have h1:=(tO (ds:=d::l) l ((st.put (some d) .bot).cU (some d)) (λi hi=>by simp[hi])).len;have h2:=(List.getElem?_eq_some_iff.1 h).1;have h3:(AS.pT ((st.put (some d) .bot).cU (some d)) l).slots.length=st.slots.length:=by rw[h1,lz,dg,aO]
   have h4:i<(AS.pT ((st.put (some d) .bot).cU (some d)) l).slots.length:=h2;omega
  split;rename_i hdi;subst hdi;rw[au hlt];rename_i hdi;rcases hi with hi|hi;simp only[bl]at hi;rcases hi with hi|hi;exact absurd hi.symm hdi;exact absurd hi hil;exact hi
theorem Ap:∀(l:List Nat)(st:AS)(i:Nat),i∈l∨(nth st.iss i).getD true=true→(nth (st.pT l).iss i).getD true=true
 |[],st,i,hi=>by rcases hi with hi|hi;cases hi;exact hi
 |d::l,st,i,hi=>by refine Ap l _ i ?_;by_cases hil:i∈l;exact .inl hil;refine .inr ?_;have he:(AS.cU (st.put (some d) .bot) (some d)).iss=dM st.iss d true:=rfl;rw[he,cP,cg,List.getElem?_set];split;split<;>rfl;rename_i hdi;rcases hi with hi|hi;simp only[bl]at hi;rcases hi with hi|hi;exact absurd hi.symm hdi;exact absurd hi hil;rw[cg]at hi;exact hi
theorem gH.weaken {st':AS}(h:gH C st' a w){ds:List Nat}(hn:eu ds st st'){s:Nat}{b:Bool}(hb:getBool st' s=some b):gH C ((st.pT ds).put (some s) (.one (.bool b))) a w:=by
 have hbs:st'.get s=.val false [.bool b]:=by unfold getBool at hb;split at hb;rename_i b' hg;cases hb;exact hg;cases hb
 have hkn:=h.known hbs;obtain⟨g,h⟩:=h;have hdn:=tO (ds:=ds) ds st (λ_ hi=>hi);have hboxes:((st.pT ds).put (some s) (.one (.bool b))).boxes=st'.boxes:=by rw[eP,hdn.boxes,hn.boxes]
 have hep:((st.pT ds).put (some s) (.one (.bool b))).ep=st'.ep:=by rw[vx,hdn.ep,hn.ep]
 have hlen:((st.pT ds).put (some s) (.one (.bool b))).slots.length=st'.slots.length:=by rw[dg,aO,hdn.len,hn.len]
 have hiss:∀t,fM st' t→fM ((st.pT ds).put (some s) (.one (.bool b))) t:=by intro t ht;rw[uI];rcases ht with ht|ht;exact .inl ht;refine .inr (Ap ds st _ ?_);by_cases hi:t/3/4096∈ds;exact .inl hi;exact .inr (by rw[←hn.iss _ hi];exact ht)
 have hpres:∀s',dp st' s'→dp ((st.pT ds).put (some s) (.one (.bool b))) s':=λs' hs=>by unfold dp at hs⊢;rw[hboxes];exact hs
 have hle:(bt C g st' w).Le (bt C g ((st.pT ds).put (some s) (.one (.bool b))) w):=⟨rfl,λt ht=>⟨hiss t ht,rfl⟩,λ_ _ _ _ _ hv=>hv,by show st'.ep≤_;rw[←hep];exact aK _,λs' hs=>⟨hpres s' hs,rfl⟩,λ_ b o u ho hu=>⟨ho,hu⟩⟩
 refine⟨g,h.step (λ_=>True) hle h.defers (by rw[hlen];exact h.size) (by rw[hboxes,hlen];exact h.bsize) h.frame h.labs (λb x _ hx=>⟨hx,rfl,rfl⟩) ?_ ?_ ?_ (.inl ⟨trivial,by rw[vG,hdn.io,hn.io]⟩)⟩;intro i av hi;rw[dg,List.getElem?_set]at hi;split at hi;rename_i hsi;subst hsi;split at hi;cases hi;refine .inr ⟨[],gp ?_,by simp,by simp⟩;exact⟨hkn,rfl⟩;cases hi;by_cases hid:i∈ds;have:=Ao ds st i av hi (.inl hid);subst this;exact .inr ⟨[],di.bot _ _,by simp,by simp⟩;rw[hdn.slot i hid]at hi;exact .inl ⟨trivial,by rw[hn.slot i hid];exact hi,rfl⟩;intro s' cs hs;rw[hboxes]at hs;exact .inl ⟨trivial,hs,rfl⟩;intro k v av hk;simp at hk
theorem MJ (Γ:cD)(f:Nat):(Γ.calm f).io=false∧(Γ.calm f).bx=false∧(Γ.calm f).pr=false:=by unfold cD.calm;cases h:(Γ f).io with|true=>exact⟨rfl,rfl,rfl⟩|false=>cases h2:(Γ f).bx with|true=>exact⟨rfl,rfl,rfl⟩|false=>cases h3:(Γ f).pr with|true=>exact⟨rfl,rfl,rfl⟩|false=>exact⟨h,h2,h3⟩
theorem NN (Γ:cD)(f:Nat):(Γ.uf f).io=false∧((Γ.uf f).bx=true→(Γ.uf f).cur=true)∧(Γ.uf f).pr=false:=by unfold cD.uf;cases h:(Γ f).io with|true=>exact⟨rfl,λh=>(by cases h),rfl⟩|false=>cases h3:(Γ f).pr with|true=>exact⟨rfl,λh=>(by cases h),rfl⟩|false=>cases h2:(Γ f).bx with|false=>exact⟨h,λh=>(by simp[h2]at h),h3⟩|true=>cases h4:(Γ f).cur with|true=>exact⟨h,λ_=>h4,h3⟩|false=>exact⟨rfl,λh=>(by cases h),rfl⟩
theorem NO {Γ:cD}(hΓ:∀f,(Γ f).io=false∧(Γ f).bx=false∧(Γ f).pr=false)(f:Nat):(Γ.uf f).io=false∧(Γ.uf f).bx=false∧(Γ.uf f).pr=false:=by have h:=hΓ f;unfold cD.uf;rw[h.1,h.2.1,h.2.2];exact h
theorem Sound.uf {E:Env}{Γ:cD}(h:Sound P E Γ):Sound P E Γ.uf:=by refine⟨h.ty,h.eqs,h.fts,λf=>?_,h.mixed⟩;unfold cD.uf;cases (Γ f).io||(Γ f).pr||((Γ f).bx&& !(Γ f).cur)with|true=>intro xs y hy;cases hy|false=>exact h.fns f
theorem Sound.calm {E:Env}{Γ:cD}(h:Sound P E Γ):Sound P E Γ.calm:=by refine⟨h.ty,h.eqs,h.fts,λf=>?_,h.mixed⟩;unfold cD.calm;cases (Γ f).io with|true=>intro xs y hy;cases hy|false=>cases (Γ f).bx with|true=>intro xs y hy;cases hy|false=>cases (Γ f).pr with|true=>intro xs y hy;cases hy|false=>exact h.fns f
end Go.Dn
