import Derived.Test.YtjoicgadhgkphabGreatDnDen
import Derived.Test.YtjoicgadhgkphabGreatDnNat
/- What is kept at a loop's door; what a region whose ways meet again leaves. -/
namespace Go.Dn
open Go.RowKit
variable {P:Program} {C:Ctx} {st:AS} {a:Act} {w:World} {R:Type} {r:R}
theorem xn (keep:List Nat)(ep:Nat)(io:List AC):∀(l:List AV)(n i:Nat),(jo keep ep io n l)[i]?=(l[i]?).map λv=>if keep.contains (n+i) then v.mask keep ep io (n+i) else .bot
 |[],n,i=>by simp[jo]
 |v::l,n,0=>by simp[jo]
 |v::l,n,i+1=>by simp only[jo,List.getElem?_cons_succ];rw[xn keep ep io l (n+1) i,show n+1+i=n+(i+1) by omega]
theorem tV (keep:List Nat)(ep:Nat)(io:List AC):∀(l:List (Option (List AC)))(n i:Nat),(jn keep ep io n l)[i]?=(l[i]?).map λb=>if keep.contains (n+i) then b.map (zO keep ep io (.box (n+i)) 0) else none
 |[],n,i=>by simp[jn]
 |v::l,n,0=>by simp[jn]
 |v::l,n,i+1=>by simp only[jn,List.getElem?_cons_succ];rw[tV keep ep io l (n+1) i,show n+1+i=n+(i+1) by omega]
theorem pB (keep:List Nat)(ep:Nat)(io:List AC):∀(l:List AV)(n:Nat),(jo keep ep io n l).length=l.length
 |[],_=>rfl
 |_::l,n=>by simp[jo,pB keep ep io l]
theorem uv (keep:List Nat)(ep:Nat)(io:List AC):∀(l:List (Option (List AC)))(n:Nat),(jn keep ep io n l).length=l.length
 |[],_=>rfl
 |_::l,n=>by simp[jn,uv keep ep io l]
def Kr:Value→AV→List Value
 | .agg vs,.val true _=>vs.toList
 |v,_=>[v]
theorem Ku {g:Bool}{v:Value}{vs:List Value}{cs:List AC}(h:Cut g v vs):Kr v (.val g cs)=vs:=by cases g with|true=>simp only[Cut,bd]at h;subst h;simp[Kr]|false=>simp only[Cut]at h;subst h;cases v<;>rfl
def uI (ioV:List Value)(st:AS)(a:Act)(w:World)(β:Nat→Nat)(t:Nat):Value:=
 if t%3=0∧t/3/4096=1000003 then(ioV[t/3%4096]?).getD undef
 else if t%3=0 then((Kr (a.tmps.getD (t/3/4096) undef) (st.get (t/3/4096)))[t/3%4096]?).getD undef
 else match w.heap[β (t/3/4096)]? with
  |some (.cells arr _ _)=>(arr.toList[t/3%4096]?).getD undef
  |_=>undef
def J7 (c c':RC)(io:List AC):Prop:=∀j n (e:CT)(ys:List e.D),AC.PY io j n e=some ys→∃v0 fp0,cS c.hw c.w (.sl e) [v0] ys fp0∧v0=c.hdr n∧∀q,(fT.io j).wm=some q→c'.iss q∧v0=c'.hdr q
theorem N6 {c c':RC}{io:List AC}(hio:J7 c c' io){keep:List Nat}{rt:fT}{v:Value}{x:AC}{fp:List Nat}(h:ef c v x fp)(hhw:c'.hw=c.hw)(hw:c'.w=c.w)(hA:c'.A=c.A)(hep:c'.ep=0)(hβ:c'.β=c.β)(hpres:∀s,keep.contains s=true→c.pres s→c'.pres s)(hst:∀t,rt.wm=some t→c'.iss t∧v=c'.hdr t):ef c' v (x.mask keep c.ep io rt) fp:=by
 have hS:c'.S=c.S:=by funext b o;simp[RC.S,hhw,hA]
 cases x with
 |int k n=>exact h
 |bool b=>exact h
 |str s=>exact h
 |nilsl=>exact h
 |fn f=>exact h
 |un=>exact h
 |bot=>exact h
 |ptr s off=>simp only[AC.mask];split;rename_i hk;exact⟨by rw[hβ];exact h.1,hpres s hk h.2.1,h.2.2⟩;exact h.2.2
 |elt fl e y i off=>cases fl with|own t=>exact h.elim|nest _ _ _ _ _ _=>exact h.elim|part _ _ _ _=>exact h.elim|holed _ _ _=>exact h.elim|arg _=>exact h.1|loc ep pv=>exact h.1
 |sl fl e xs=>
  cases fl with
  |own t=>exact⟨cS.mono h.1 (λb _=>⟨by rw[hw],by rw[hhw]⟩),hst⟩
  |nest _ _ _ _ _ _=>exact h.1
  |part _ _ _ _=>exact h.1
  |holed _ _ _=>obtain⟨_,⟨k,hk,h3⟩,_⟩:=h;exact⟨λq hq=>(by cases hq),⟨k,hk,h3.mono (λb hb=>⟨by rw[hw],by rw[hhw]⟩)⟩,by simp⟩
  |arg _=>exact⟨h.1,by rw[hA,hw];exact h.2⟩
  |loc ep pv=>
   obtain⟨h1,h2,h3,h4,h5⟩:=h;have plain:ef c' v (if(ep==c.ep)=true then AC.sl (.loc 0 none) e xs else .bot) fp:=by split;rename_i he;refine⟨h1,by rw[hep];exact a5 _,h3,λ_=>?_,by simp⟩;rw[hS,hw];exact h4 (by simpa using he);exact h1
   simp only[AC.mask];split;rename_i j n;split;rename_i ys hnow;obtain⟨v0,fp0,hown,hv0,hq⟩:=hio j n e ys hnow;obtain⟨_,k2⟩:=h5 _ _ rfl;have hv:v0=v:=hv0.trans k2.symm;subst hv;refine⟨h1,by rw[hep];exact a5 _,yK hown,λ_=>?_,λr t hp=>?_⟩;rw[hS,hw];exact cS.rep (λb o ho=> .inr ho) hown;cases hst':(fT.io j).wm with|none=>rw[hst']at hp;cases hp|some q=>rw[hst']at hp;simp at hp;obtain⟨_,rfl⟩:=hp;exact⟨(hq q hst').1,(hq q hst').2⟩
   exact plain;exact plain
theorem xP {c c':RC}{io:List AC}(hio:J7 c c' io){keep:List Nat}{f:Nat→fT}(hhw:c'.hw=c.hw)(hw:c'.w=c.w)(hA:c'.A=c.A)(hep:c'.ep=0)(hβ:c'.β=c.β)
 (hpres:∀s,keep.contains s=true→c.pres s→c'.pres s):∀{vs:List Value}{xs:List AC}{fp:List Nat}(j:Nat),a6 c vs xs fp→
  (∀i v,vs[i]?=some v→∀t,(f (j+i)).wm=some t→c'.iss t∧v=c'.hdr t)→a6 c' vs (zO keep c.ep io f j xs) fp
 |[],[],_,_,h,_=>h
 |v::_,_::_,_,j,h,hm=>by obtain⟨f1,f2,rfl,h1,h2⟩:=h;exact⟨f1,f2,rfl,N6 hio h1 hhw hw hA hep hβ hpres (λt ht=>hm 0 v rfl t ht),xP hio hhw hw hA hep hβ hpres (j+1) h2 (λi u hu t ht=>hm (i+1) u (by simpa using hu) t (by rwa[show j+(i+1)=j+1+i by omega]))⟩
 |[],_::_,_,_,h,_=>h.elim
 |_::_,[],_,_,h,_=>h.elim
theorem Qe {c:RC}{v:Value}{x:AC}{fp:List Nat}(h:ef c v x fp)(hno:∀(tag:Option Nat)(e:CT)(xs:List e.D),x=.sl (.own tag) e xs→False)(hno2:∀(tag:Option Nat)(i:Int)(ep:Option Nat)(e:CT)(xs:List e.D),x=.sl (.holed tag i ep) e xs→False):fp=[]:=by
 cases x with
 |int k n=>exact h.2
 |bool b=>exact h.2
 |str s=>exact h.2
 |nilsl=>exact h.2
 |fn f=>exact h.2
 |un=>exact h.2
 |bot=>exact h
 |ptr s off=>exact h.2.2
 |elt fl e y i off=>cases fl with|own t=>exact h.elim|nest _ _ _ _ _ _=>exact h.elim|part _ _ _ _=>exact h.elim|holed _ _ _=>exact h.elim|arg _=>exact h.1|loc ep pv=>exact h.1
 |sl fl e xs=>cases fl with|own t=>exact(hno _ _ _ rfl).elim|nest _ _ _ _ _ _=>exact h.1|part _ _ _ _=>exact h.1|holed _ _ _=>exact(hno2 _ _ _ _ _ rfl).elim|arg _=>exact h.1|loc ep pv=>exact h.1
theorem iJ.mask (h:iJ C st a w)(keep:List Nat):iJ C (st.mask keep) a w:=by
 obtain⟨g,h⟩:=h;let g':Gh:={g with hdr:=uI C.ioV st a w g.β}
 have hpres:∀s,keep.contains s=true→dP st s→dP (st.mask keep) s:=by rintro s hk ⟨cs,hs⟩;refine⟨zO keep st.ep st.io (.box s) 0 cs,?_⟩;show(jn keep st.ep st.io 0 st.boxes)[s]?=_;rw[tV,hs];simp only[cc,bH,az hk]
 obtain⟨fpi,hri,hni,hli⟩:=h.io;have hioq:∀j v,C.ioV[j]?=some v→∀q,(fT.io j).wm=some q→gO (st.mask keep) q∧v=uI C.ioV st a w g.β q:=by
  intro j v hv q hq;simp only[fT.wm]at hq;cases hb:Nat.ble 4096 j with
  |true=>rw[hb]at hq;cases hq
  |false=>
   rw[hb]at hq;simp only[af,aU,rG]at hq;have hj:j<4096:=by rcases bc j 4096 with hlt|hge;exact hlt;rw[eo hge]at hb;cases hb
   have h0:q%3=0:=by omega
   have h1:q/3/4096=1000003:=by omega
   have h2:q/3%4096=j:=by omega
   refine⟨.inl (by omega),?_⟩;rw[uI,az ⟨h0,h1⟩,h2,hv];rfl
 have hseen:J7 (bw C g st w) (bw C g' (st.mask keep) w) st.io:=by
  intro j n e ys hnow;unfold AC.PY at hnow;split at hnow;rename_i t' e' ys' hj;split at hnow;rename_i he;subst he;cases ht:(t'==n)with
  |false=>rw[ht]at hnow;cases hnow
  |true=>
   rw[ht]at hnow;have:t'=n:=by simpa using ht
   subst this;cases hnow;rw[cy]at hj;obtain⟨v,f,hv,hr,_⟩:=hri.get j _ hj;exact⟨v,f,hr.1,(hr.2 t' rfl).2,λq hq=>hioq j v hv q hq⟩
  cases hnow;cases hnow
 have hmio:∀(j:Nat){vs:List Value}{xs:List AC}{fp:List Nat},a6 (bw C g st w) vs xs fp→(∀i v,vs[i]?=some v→C.ioV[j+i]?=some v)→a6 (bw C g' (st.mask keep) w) vs (K9 keep j xs) fp:=by
  intro j vs
  induction vs generalizing j with
  |nil=>intro xs fp hr _;cases xs with
   |nil=>exact hr
   |cons _ _=>exact hr.elim
  |cons v vs ih=>
   intro xs fp hr hv
   cases xs with
   |nil=>exact hr.elim
   |cons x xs=>
    obtain⟨f1,f2,rfl,r1,r2⟩:=hr
    refine⟨f1,f2,rfl,?_,ih (j+1) r2 (λi u hu=>by rw[show j+1+i=j+(i+1) by omega];exact hv (i+1) u (by simpa using hu))⟩
    have hv0:=hv 0 v rfl
    rw[cG]at hv0
    split
    ·rename_i tg e ys
     exact⟨r1.1,λq hq=>hioq j v hv0 q hq⟩
    ·rename_i tag i ep e ys
     obtain⟨_,⟨k,hk,h3⟩,_⟩:=r1
     exact⟨λq hq=>(by cases hq),⟨k,hk,h3⟩,by simp⟩
    ·rename_i s off
     split
     ·rename_i hk
      exact⟨r1.1,hpres s hk r1.2.1,r1.2.2⟩
     ·exact r1.2.2
    ·rename_i hno hno2 _
     cases hfl:x.dV with
     |true=>
      obtain⟨rfl,k⟩:=gS (c':=bw C g' (st.mask keep) w) r1 hfl
      exact k
     |false=>exact Qe r1 hno hno2
 refine⟨g',h.defers,?_,?_,λi av hi=>?_,λs cs hs=>?_,λk v av hk=>by simp at hk,h.labs,h.frame,⟨fpi,hmio 0 hri (λi v hv=>by rw[bH];exact hv),hni,hli⟩⟩;show _=(jo keep st.ep st.io 0 st.slots).length;rw[pB];exact h.size;show(jn keep st.ep st.io 0 st.boxes).length=(jo keep st.ep st.io 0 st.slots).length;rw[pB,uv];exact h.bsize;have hi':(jo keep st.ep st.io 0 st.slots)[i]?=some av:=hi;rw[xn,bH]at hi';cases hv:st.slots[i]? with
 |none=>rw[hv]at hi';cases hi'
 |some x=>
  rw[hv]at hi';simp only[cc,aU]at hi';split at hi'
  ·subst hi'
   cases hx:x with
   |tup ts=>exact⟨[],dC.bot _ _,by simp,by simp⟩
   |val gg cs=>
    rw[hx]at hv
    obtain⟨fp,⟨vs,hcut,hr⟩,hn,hl⟩:=h.slots i _ hv
    refine⟨fp,⟨vs,hcut,xP (io:=st.io) hseen (c:=bw C g st w) (c':=bw C g' (st.mask keep) w) rfl rfl rfl rfl rfl hpres 0 hr ?_⟩,hn,hl⟩
    intro j u hu t ht
    simp only[bH,fT.wm]at ht
    cases hb:Nat.ble 4096 j with
    |true=>rw[hb]at ht;cases ht
    |false=>
     rw[hb]at ht
     simp only[af]at ht
     cases hbs:Nat.ble 1000000 i with
     |true=>rw[hbs]at ht;cases ht
     |false=>
     rw[hbs]at ht
     simp only[af,aU]at ht
     have hi6:i<1000000:=by rcases bc i 1000000 with hlt|hge;exact hlt;rw[eo hge]at hbs;cases hbs
     have hj:j<4096:=by rcases bc j 4096 with hlt|hge;exact hlt;rw[eo hge]at hb;cases hb
     have h0:t%3=0:=by omega
     have h1:t/3/4096=i:=by omega
     have h2:t/3%4096=j:=by omega
     refine⟨.inl (by omega),?_⟩
     show u=uI C.ioV st a w g.β t
     rw[uI,ar (by omega),az h0,h1,h2,get_eq hv,Ku hcut,hu];rfl
  subst hi';exact⟨[],dC.bot _ _,by simp,by simp⟩
 have hs':(jn keep st.ep st.io 0 st.boxes)[s]?=some (some cs):=hs;rw[tV,bH]at hs';cases hv:st.boxes[s]? with
 |none=>rw[hv]at hs';cases hs'
 |some x=>
  rw[hv]at hs';simp only[cc,aU]at hs';split at hs';cases hx:x with
  |none=>rw[hx]at hs';cases hs'
  |some xs=>
   rw[hx]at hs' hv;simp only[cc,aU]at hs';subst hs';obtain⟨arr,T,fr,fp,hb,hth,hr,hn,hni,hl,hl0,hw0⟩:=h.boxes s xs hv;refine⟨arr,T,fr,fp,hb,hth,xP (io:=st.io) hseen (c:=bw C g st w) (c':=bw C g' (st.mask keep) w) rfl rfl rfl rfl rfl hpres 0 hr ?_,hn,hni,hl,hl0,hw0⟩;intro j u hu t ht;simp only[bH,fT.wm]at ht;cases hbb:Nat.ble 4096 j with
   |true=>rw[hbb]at ht;cases ht
   |false=>
    rw[hbb]at ht;simp only[af,aU]at ht;have hj:j<4096:=by rcases bc j 4096 with hlt|hge;exact hlt;rw[eo hge]at hbb;cases hbb
    have h0:¬t%3=0:=by omega
    have h1:t/3/4096=s:=by omega
    have h2:t/3%4096=j:=by omega
    refine⟨.inl (by omega),?_⟩;show u=uI C.ioV st a w g.β t;rw[uI,ar (by omega),ar h0,h1,h2,hb];simp only;rw[hu];rfl
  cases hs'
structure eU (ds:List Nat) (st st':AS):Prop where
 len:st'.slots.length=st.slots.length
 slot:∀i,i∉ds→st'.slots[i]?=st.slots[i]?
 boxes:st'.boxes=st.boxes
 ep:st'.ep=st.ep
 iss:∀i,i∉ds→nth st'.iss i=nth st.iss i
 ilen:st'.iss.length=st.iss.length
 io:st'.io=st.io
theorem eU.refl (ds:List Nat)(st:AS):eU ds st st:=⟨rfl,λ_ _=>rfl,rfl,rfl,λ_ _=>rfl,rfl,rfl⟩
theorem eU.trans {ds:List Nat}{st st1 st2:AS}(h:eU ds st st1)(k:eU ds st1 st2):eU ds st st2:=⟨k.len.trans h.len,λi hi=>(k.slot i hi).trans (h.slot i hi),k.boxes.trans h.boxes,k.ep.trans h.ep,λi hi=>(k.iss i hi).trans (h.iss i hi),k.ilen.trans h.ilen,k.io.trans h.io⟩
theorem eU.put {ds:List Nat}{st:AS}{d:Option Nat}(hd:∀i,d=some i→i∈ds)(v:AV):eU ds st (st.put d v):=by cases d with|none=>exact eU.refl _ _|some d=>refine⟨by rw[dB,aO],λi hi=>?_,fI,zy,λi _=>by rw[GC],by rw[GC],zJ⟩;rw[dB,List.getElem?_set_ne];rintro rfl;exact hi (hd _ rfl)
theorem eU.di {ds:List Nat}{st:AS}{d:Option Nat}(hd:∀i,d=some i→i∈ds):eU ds st (st.di d):=by cases d with|none=>exact eU.refl _ _|some d=>refine⟨rfl,λi _=>rfl,rfl,rfl,λi hi=>?_,?_,rfl⟩;simp only[AS.di,cy,dg];rw[List.getElem?_set_ne];rintro rfl;exact hi (hd _ rfl);simp only[AS.di,dg,aO]
theorem nQ {α:Type}{ds:List Nat}{o:Option α}{k:α→Option AS}{st':AS}(h:aa o k=some st')(hk:∀x,k x=some st'→eU ds st st'):eU ds st st':=by cases o with|none=>cases h|some x=>exact hk x h
theorem Oh {ds:List Nat}{n:Nat}{k:Option AS}{st':AS}(h:room n k=some st')(hk:k=some st'→eU ds st st'):eU ds st st':=by unfold room at h;split at h;exact hk h;cases h
theorem Li {ds:List Nat}{op:BinOp}{k:IntKind}{x y:Int}{K:AC→Option AS}{st':AS}(h:yC op k x y K=some st')(hk:∀z,K z=some st'→eU ds st st'):eU ds st st':=by
 unfold yC at h
 split at h<;>first
  |exact hk _ h
  |(split at h
    ·cases h
    ·exact hk _ h)
  |cases h
theorem Lj {ds:List Nat}{op:BinOp}{x y:List UInt8}{K:AC→Option AS}{st':AS}(h:AH op x y K=some st')(hk:∀z,K z=some st'→eU ds st st'):eU ds st st':=by
 unfold AH at h
 split at h<;>first
  |exact Oh h (hk _)
  |exact hk _ h
  |cases h
theorem zT {ds:List Nat}{op:BinOp}{x y:AV}{K:AC→Option AS}{st':AS}(h:w6 op x y K=some st')(hk:∀z,K z=some st'→eU ds st st'):eU ds st st':=by unfold w6 at h;split at h;split at h;split at h;cases h;exact hk _ h;split at h;cases h;exact hk _ h;split at h;exact Li h hk;cases h;exact Lj h hk;split at h;exact hk _ h;exact hk _ h;cases h;split at h;exact nQ h λb hb=>hk _ hb;exact nQ h λb hb=>hk _ hb;cases h;cases h
theorem yH {ds:List Nat}{lo hi:Option Operand}{n:Nat}{K:Int→Int→Option AS}{st0 st':AS}(h:iz st0 lo hi n K=some st')(hk:∀x y,K x y=some st'→eU ds st st'):eU ds st st':=by
 unfold iz at h
 split at h<;>first
  |exact hk _ _ h
  |cases h
theorem CY {ds:List Nat}{op:BinOp}{b:Bool}{K:AC→Option AS}{st':AS}(h:vt op b K=some st')(hk:∀c,K c=some st'→eU ds st st'):eU ds st st':=by unfold vt at h;split at h;exact hk _ h;exact hk _ h;cases h
theorem ET {E:Env}{Γ:bL}(hΓ:∀f,(Γ f).io=false∧(Γ f).bx=false∧(Γ f).pr=false){an:An}{ds:List Nat}{o:Oper}{st':AS}(hq:ed an ds o=true)(hd:∀i,o.dst=some i→i∈ds)(h:bX E Γ an o st some=some st'):eU ds st st':=by
 have hput:∀v,some (st.put o.dst v)=some st'→eU ds st st':=λv hv=>by cases hv;exact eU.put hd v
 unfold bX at h;split at h;rename_i x ho;simp only[ed,ho]at hq;unfold uw at h;cases hdd:o.dst with
 |none=>rw[hdd]at h;cases h
 |some d=>
  rw[hdd]at h hq;simp only at h hq;have hf:an.mv.contains d=false:=by simpa using hq
  rw[hf]at h;simp only[aK,bj]at h;cases h;exact eU.put (λi hi=>hd i (by rw[hdd];exact hi)) _
 rename_i x ho;have hlate:sA an o=false∨∃y,x=y∧(∀v,y≠ .const v)∧(∀t,y≠ .tmp t):=by cases x with|tmp t=>left;simp only[ed,ho,ai,aJ]at hq;exact hq.2|const v=>left;simpa only[ed,ho,aJ]using hq|func f=>simp[ed,ho]at hq|global g=>simp[ed,ho]at hq
 have hlate:sA an o=false:=by rcases hlate with h1|⟨y,rfl,h1,h2⟩;exact h1;cases x with|tmp t=>exact absurd rfl (h2 t)|const v=>exact absurd rfl (h1 v)|func f=>simp[ed,ho]at hq|global g=>simp[ed,ho]at hq
 simp only[ed,ho]at hq;rw[ar (by simp[hlate])]at h;unfold oa at h;have hx:eU ds st (st.take x).2:=by
  cases x with
  |tmp t=>
   have ht:t∈ds:=by simp only[ai]at hq;simpa using hq.1
   exact eU.put (d:=some t) (λi hi=>by cases hi;exact ht) _
  |const v=>exact eU.refl _ _
  |func f=>exact eU.refl _ _
  |global g=>exact eU.refl _ _
 split at h;split at h;exact hput _ h;cases h;rename_i v st1 _ htk;cases h;have:(st.take x).2=st1:=by rw[htk]
 rw[this]at hx;exact hx.trans (eU.put hd _);unfold wa at h;split at h;rename_i t _;split at h;exact hput _ h;cases t with|true=>exact hput _ h|false=>exact hput _ h
 cases h;rename_i ho;simp[ed,ho]at hq;rename_i ho;simp[ed,ho]at hq;rename_i T p ho;simp only[ed,ho]at hq;have htk:wx an o=false:=by unfold wx;cases hdd:o.dst with|none=>rfl|some d=>rw[hdd]at hq;simp only[aJ]at hq;simp only[hq,cD]
 unfold ks at h;split at h;split at h;split at h;split at h;rename_i d hdd;rw[hdd]at hq;simp only at hq;have hf:an.mv.contains d=false:=by simpa using hq
 rw[hf]at h;simp only[aK,bj]at h;exact hput _ h;cases h;cases h;cases h;rw[ar (by simp[htk])]at h;split at h;split at h;exact hput _ h;cases h;unfold vh at h;split at h;split at h;split at h;split at h;obtain⟨y,_,h⟩:=BE h;exact hput _ h;cases h;cases h;cases h;cases h;cases h;rename_i ho;simp[ed,ho]at hq;split at h;exact hput _ h;exact hput _ h;cases h;unfold s9 at h;split at h;split at h;exact zT h λz hz=>hput _ hz;cases h;split at h;split at h;exact zT h λz hz=>hput _ hz;cases h;cases h;split at h;split at h;cases h;exact CY h λz hz=>hput _ hz;cases h;split at h;exact CY h λz hz=>hput _ hz;cases h;exact zT h λz hz=>hput _ hz;unfold R0 at h;split at h;exact hput _ h;exact hput _ h;exact hput _ h;cases h;unfold sn at h;split at h;split at h;exact hput _ h;cases h;split at h;exact hput _ h;cases h;cases h;unfold im at h;split at h;split at h;exact nQ h λy hy=>hput _ hy;cases h;cases h;unfold tS at h;split at h;split at h;exact nQ h λy hy=>hput _ hy;cases h;cases h;rename_i T parts ho;simp only[ed,ho]at hq;have he:parts=#[]:=by simpa using hq
 subst he;unfold tO at h;split at h;simp only[dc,List.map_nil]at h;split at h;exact hput _ h;cases h;cases h;rename_i ho;simp[ed,ho]at hq;rename_i ho;simp[ed,ho]at hq;rename_i ho;simp only[ed,ho,aJ]at hq;unfold sZ at h;rw[ar (by simp[hq])]at h;split at h;split at h;exact yH h λx y hxy=>nQ hxy λz hz=>hput _ hz;cases h;split at h;exact yH h λx y hxy=>nQ hxy λz hz=>hput _ hz;cases h;cases h;rename_i ho;simp[ed,ho]at hq;rename_i ho;simp[ed,ho]at hq;rename_i ho;simp[ed,ho]at hq;rename_i ho;simp[ed,ho]at hq;unfold CR at h;split at h;split at h;exact hput _ h;cases h;split at h;exact hput _ h;cases h;cases h;unfold DY at h;split at h;exact hput _ h;cases h;unfold DX at h;split at h;exact hput _ h;cases h;rename_i ho;simp[ed,ho]at hq;unfold vq at h;split at h;rename_i k _;rw[(hΓ k).2.1,(hΓ k).2.2,(hΓ k).1]at h;simp only[af]at h;refine nQ h λy hy=>?_;cases hsel:(Γ k).sel y with|true=>rw[hsel]at hy;cases hy;exact(eU.di hd).trans (eU.put hd _)|false=>rw[hsel]at hy;cases hy;exact(eU.di hd).trans (eU.put hd _)
 cases h;cases h
theorem I4 {ops:List Oper}{o:Oper}(ho:o∈ops){i:Nat}(hi:o.dst=some i):i∈xE ops:=List.mem_filterMap.2 ⟨o,ho,hi⟩
theorem CZ {E:Env}{Γ:bL}(hΓ:∀f,(Γ f).io=false∧(Γ f).bx=false∧(Γ f).pr=false){an:An}{ops:List Oper}{o:Oper}{st':AS}(ho:o∈ops)(hq:ed an (xE ops) o=true)(h:dZ E Γ an ops o st some=some st'):eU (xE ops) st st':=by
 have hd:∀i,o.dst=some i→i∈xE ops:=λi hi=>I4 ho hi;unfold dZ at h;split at h;exact ET hΓ hq hd h;rename_i j want hg;split at h;rename_i d hdd;have hdm:d∈xE ops:=by rw[cy]at hdd;cases ho':ops[j]? with|none=>rw[ho']at hdd;cases hdd|some o'=>rw[ho']at hdd;exact I4 (List.mem_of_getElem? ho') hdd
 have hp:∀t,eU (xE ops) st (st.put (some d) (.one (.bool t))):=λt=>eU.put (λi hi=>by cases hi;exact hdm) _;split at h;rename_i b hb;have main:∀t,(if(t==want)=true then bX E Γ an o (st.put (some d) (.one (.bool t))) some else some ((st.put (some d) (.one (.bool t))).put o.dst (.one .un)))=some st'→eU (xE ops) st st':=by intro t ht;split at ht;exact(hp t).trans (ET hΓ hq hd ht);cases ht;exact(hp t).trans (eU.put hd _)
 cases b with|true=>exact main true h|false=>exact main false h
 cases h;exact eU.put hd _;cases h;cases h
theorem Jk {E:Env}{Γ:bL}(hΓ:∀f,(Γ f).io=false∧(Γ f).bx=false∧(Γ f).pr=false){an:An}{ops:List Oper}(hq:∀o∈ops,ed an (xE ops) o=true):∀(l:List Oper)(st st':AS),(∀o∈l,o∈ops)→GM E Γ an ops l st some=some st'→eU (xE ops) st st'
 |[],st,st',_,h=>by cases h;exact eU.refl _ _
 |o::l,st,st',hl,h=>by simp only[GM]at h;rw[lq]at h;cases hg:dZ E Γ an ops o st some with|none=>rw[hg]at h;cases h|some st1=>rw[hg]at h;exact(CZ hΓ (hl o (by simp)) (hq o (hl o (by simp))) hg).trans (Jk hΓ hq l st1 st' (λo' ho'=>hl o' (by simp[ho'])) h)
theorem xD {ds:List Nat}:∀(l:List Nat)(st:AS),(∀i∈l,i∈ds)→eU ds st (st.ta l)
 |[],st,_=>eU.refl _ _
 |d::l,st,h=>by
  have hd:∀i,some d=some i→i∈ds:=λi hi=>by cases hi;exact h d (by simp)
  exact((eU.put hd _).trans (eU.di hd)).trans (xD l _ (λi hi=>h i (by simp[hi])))
theorem Es:∀(l:List Nat)(st:AS)(i:Nat)(av:AV),(st.ta l).slots[i]?=some av→i∈l∨st.slots[i]?=some .bot→av=.bot
 |[],st,i,av,h,hi=>by rcases hi with hi|hi;cases hi;have:st.slots[i]?=some av:=h;rw[hi]at this;cases this;rfl
 |d::l,st,i,av,h,hi=>by
  refine Es l _ i av h ?_;by_cases hil:i∈l;exact .inl hil;refine .inr ?_;rw[nZ,dB,List.getElem?_set];have hlt:i<st.slots.length:=by
   have h1:=(xD (ds:=d::l) l ((st.put (some d) .bot).di (some d)) (λi hi=>by simp[hi])).len;have h2:=(List.getElem?_eq_some_iff.1 h).1;have h3:(AS.ta ((st.put (some d) .bot).di (some d)) l).slots.length=st.slots.length:=by rw[h1,nZ,dB,aO]
   have h4:i<(AS.ta ((st.put (some d) .bot).di (some d)) l).slots.length:=h2;omega
  split;rename_i hdi;subst hdi;rw[az hlt];rename_i hdi;rcases hi with hi|hi;simp only[bu]at hi;rcases hi with hi|hi;exact absurd hi.symm hdi;exact absurd hi hil;exact hi
theorem Et:∀(l:List Nat)(st:AS)(i:Nat),i∈l∨(nth st.iss i).getD true=true→(nth (st.ta l).iss i).getD true=true
 |[],st,i,hi=>by rcases hi with hi|hi;cases hi;exact hi
 |d::l,st,i,hi=>by refine Et l _ i ?_;by_cases hil:i∈l;exact .inl hil;refine .inr ?_;have he:(AS.di (st.put (some d) .bot) (some d)).iss=eC st.iss d true:=rfl;rw[he,dg,cy,List.getElem?_set];split;split<;>rfl;rename_i hdi;rcases hi with hi|hi;simp only[bu]at hi;rcases hi with hi|hi;exact absurd hi.symm hdi;exact absurd hi hil;rw[cy]at hi;exact hi
theorem iJ.weaken {st':AS}(h:iJ C st' a w){ds:List Nat}(hn:eU ds st st'){s:Nat}{b:Bool}(hb:getBool st' s=some b):iJ C ((st.ta ds).put (some s) (.one (.bool b))) a w:=by
 have hbs:st'.get s=.val false [.bool b]:=by unfold getBool at hb;split at hb;rename_i b' hg;cases hb;exact hg;cases hb
 have hkn:=h.known hbs;obtain⟨g,h⟩:=h;have hdn:=xD (ds:=ds) ds st (λ_ hi=>hi);have hboxes:((st.ta ds).put (some s) (.one (.bool b))).boxes=st'.boxes:=by rw[fI,hdn.boxes,hn.boxes]
 have hep:((st.ta ds).put (some s) (.one (.bool b))).ep=st'.ep:=by rw[zy,hdn.ep,hn.ep]
 have hlen:((st.ta ds).put (some s) (.one (.bool b))).slots.length=st'.slots.length:=by rw[dB,aO,hdn.len,hn.len]
 have hiss:∀t,gO st' t→gO ((st.ta ds).put (some s) (.one (.bool b))) t:=by intro t ht;rw[yF];rcases ht with ht|ht;exact .inl ht;refine .inr (Et ds st _ ?_);by_cases hi:t/3/4096∈ds;exact .inl hi;exact .inr (by rw[←hn.iss _ hi];exact ht)
 have hpres:∀s',dP st' s'→dP ((st.ta ds).put (some s) (.one (.bool b))) s':=λs' hs=>by unfold dP at hs⊢;rw[hboxes];exact hs
 have hle:(bw C g st' w).Le (bw C g ((st.ta ds).put (some s) (.one (.bool b))) w):=⟨rfl,λt ht=>⟨hiss t ht,rfl⟩,λ_ _ _ _ _ hv=>hv,by show st'.ep≤_;rw[←hep];exact a5 _,λs' hs=>⟨hpres s' hs,rfl⟩,λ_ b o u ho hu=>⟨ho,hu⟩⟩
 refine⟨g,h.step (λ_=>True) hle h.defers (by rw[hlen];exact h.size) (by rw[hboxes,hlen];exact h.bsize) h.frame h.labs (λb x _ hx=>⟨hx,rfl,rfl⟩) ?_ ?_ ?_ (.inl ⟨trivial,by rw[zJ,hdn.io,hn.io]⟩)⟩;intro i av hi;rw[dB,List.getElem?_set]at hi;split at hi;rename_i hsi;subst hsi;split at hi;cases hi;refine .inr ⟨[],iq ?_,by simp,by simp⟩;exact⟨hkn,rfl⟩;cases hi;by_cases hid:i∈ds;have:=Es ds st i av hi (.inl hid);subst this;exact .inr ⟨[],dC.bot _ _,by simp,by simp⟩;rw[hdn.slot i hid]at hi;exact .inl ⟨trivial,by rw[hn.slot i hid];exact hi,rfl⟩;intro s' cs hs;rw[hboxes]at hs;exact .inl ⟨trivial,hs,rfl⟩;intro k v av hk;simp at hk
theorem Sc (Γ:bL)(f:Nat):(Γ.calm f).io=false∧(Γ.calm f).bx=false∧(Γ.calm f).pr=false:=by unfold bL.calm;cases h:(Γ f).io with|true=>exact⟨rfl,rfl,rfl⟩|false=>cases h2:(Γ f).bx with|true=>exact⟨rfl,rfl,rfl⟩|false=>cases h3:(Γ f).pr with|true=>exact⟨rfl,rfl,rfl⟩|false=>exact⟨h,h2,h3⟩
theorem Ti (Γ:bL)(f:Nat):(Γ.yc f).io=false∧((Γ.yc f).bx=true→(Γ.yc f).cur=true)∧(Γ.yc f).pr=false:=by unfold bL.yc;cases h:(Γ f).io with|true=>exact⟨rfl,λh=>(by cases h),rfl⟩|false=>cases h3:(Γ f).pr with|true=>exact⟨rfl,λh=>(by cases h),rfl⟩|false=>cases h2:(Γ f).bx with|false=>exact⟨h,λh=>(by simp[h2]at h),h3⟩|true=>cases h4:(Γ f).cur with|true=>exact⟨h,λ_=>h4,h3⟩|false=>exact⟨rfl,λh=>(by cases h),rfl⟩
theorem Tj {Γ:bL}(hΓ:∀f,(Γ f).io=false∧(Γ f).bx=false∧(Γ f).pr=false)(f:Nat):(Γ.yc f).io=false∧(Γ.yc f).bx=false∧(Γ.yc f).pr=false:=by have h:=hΓ f;unfold bL.yc;rw[h.1,h.2.1,h.2.2];exact h
theorem Sound.yc {E:Env}{Γ:bL}(h:Sound P E Γ):Sound P E Γ.yc:=by refine⟨h.ty,h.eqs,h.fts,λf=>?_,h.mixed⟩;unfold bL.yc;cases (Γ f).io||(Γ f).pr||((Γ f).bx&& !(Γ f).cur)with|true=>intro xs y hy;cases hy|false=>exact h.fns f
theorem Sound.calm {E:Env}{Γ:bL}(h:Sound P E Γ):Sound P E Γ.calm:=by refine⟨h.ty,h.eqs,h.fts,λf=>?_,h.mixed⟩;unfold bL.calm;cases (Γ f).io with|true=>intro xs y hy;cases hy|false=>cases (Γ f).bx with|true=>intro xs y hy;cases hy|false=>cases (Γ f).pr with|true=>intro xs y hy;cases hy|false=>exact h.fns f
end Go.Dn
