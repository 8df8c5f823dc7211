import Derived.Test.YthllnaiaikjelaaGreatDnDen
import Derived.Test.YthllnaiaikjelaaGreatDnNat
/- What is kept at a loop's door; what a region whose ways meet again leaves. -/
namespace Go.Dn
open Go.RowKit
variable {P:Program} {C:Ctx} {st:AS} {a:Act} {w:World} {R:Type} {r:R}
variable {an:An} {Γ:Ci} {io:ar AC} {d:au Nat} {ds keep:ec}
theorem N5 (keep:ec)(ep:Nat)(io:ar AC):∀(l:ar AV)(n i:Nat),(qw keep ep io n l)[i]?=(l[i]?).map λv=>if keep.contains (n+i) then v.mask keep ep io (n+i) else .bot
 |[],n,i=>by simp[qw]
 |v::l,n,0=>by simp[qw]
 |v::l,n,i+1=>by simp only[qw,ff];rw[N5 keep ep io l (n+1) i,show n+1+i=n+(i+1) by omega]
theorem Io (keep:ec)(ep:Nat)(io:ar AC):∀(l:ar (au (ar AC)))(n i:Nat),(qv keep ep io n l)[i]?=(l[i]?).map λb=>if keep.contains (n+i) then b.map (RF keep ep io (.box (n+i)) 0) else none
 |[],n,i=>by simp[qv]
 |v::l,n,0=>by simp[qv]
 |v::l,n,i+1=>by simp only[qv,ff];rw[Io keep ep io l (n+1) i,show n+1+i=n+(i+1) by omega]
theorem CF (keep:ec)(ep:Nat)(io:ar AC):∀(l:ar AV)(n:Nat),(qw keep ep io n l).length=l.length
 |[],_=>rfl
 |_::l,n=>by simp[qw,CF keep ep io l]
theorem I4 (keep:ec)(ep:Nat)(io:ar AC):∀(l:ar (au (ar AC)))(n:Nat),(qv keep ep io n l).length=l.length
 |[],_=>rfl
 |_::l,n=>by simp[qv,I4 keep ep io l]
def aeL:Value->AV->iU
 | .agg vs,.val true _=>vs.toList
 |v,_=>[v]
theorem aeN {g:Bool}{v:Value}{vs:iU}{cs:ar AC}(h:Cut g v vs):aeL v (.val g cs)=vs:=by cases g with|true=>simp only[Cut,cd]at h;subst h;simp[aeL]|false=>simp only[Cut]at h;subst h;cases v<;>rfl
def JH (ioV:iU)(st:AS)(a:Act)(w:World)(β:Nat->Nat)(t:Nat):Value:=
 if t%3=0/\t/3/4096=1000003 then(ioV[t/3%4096]?).getD undef
 else if t%3=0 then((aeL (a.tmps.getD (t/3/4096) undef) (st.get (t/3/4096)))[t/3%4096]?).getD undef
 else match w.heap[β (t/3/4096)]? with
  |some (.cells arr _ _)=>(arr.toList[t/3%4096]?).getD undef
  |_=>undef
def aeq (c c':RC)(io:ar AC):Prop:=∀j n (e:CT)(ys:ar e.D),AC.amp io j n e=some ys->∃v0 fp0,eS c.hw c.w (.sl e) [v0] ys fp0/\v0=c.hdr n/\∀q,(lS.io j).MC=some q->c'.iss q/\v0=c'.hdr q
theorem ajr {c c':RC}(PJ:aeq c c' io){rt:lS}{v:Value}{x:AC}{fp:ec}(h:iA c v x fp)(Gz:c'.hw=c.hw)(hw:c'.w=c.w)(hA:c'.A=c.A)(Ck:c'.ep=0)(ON:c'.β=c.β)(uF:∀s,keep.contains s=true->c.Qn s->c'.Qn s)(nh:∀t,rt.MC=some t->c'.iss t/\v=c'.hdr t):iA c' v (x.mask keep c.ep io rt) fp:=by
 have hS:c'.S=c.S:=by funext b o;simp[RC.S,Gz,hA]
 cases x with
 |int k n=>exact h
 |bool b=>exact h
 |str s=>exact h
 |kL=>exact h
 |fn f=>exact h
 |un=>exact h
 |bot=>exact h
 |ptr s off=>simp only[AC.mask];split;rename_i hk;exact⟨by rw[ON];exact h.1,uF s hk h.2.1,h.2.2⟩;exact h.2.2
 |Hy fl e y i off=>cases fl with|own t=>exact h.elim|nest _ _ _ _ _ _=>exact h.elim|part _ _ _ _=>exact h.elim|fK _ _ _=>exact h.elim|arg _=>exact h.1|loc ep pv=>exact h.1
 |sl fl e xs=>
  cases fl with
  |own t=>exact⟨eS.mono h.1 (λb _=>⟨by rw[hw],by rw[Gz]⟩),nh⟩
  |nest _ _ _ _ _ _=>exact h.1
  |part _ _ _ _=>exact h.1
  |fK _ _ _=>obtain⟨_,⟨k,hk,h3⟩,_⟩:=h;exact⟨λq hq=>(by cases hq),⟨k,hk,h3.mono (λb hb=>⟨by rw[hw],by rw[Gz]⟩)⟩,by simp⟩
  |arg _=>exact⟨h.1,by rw[hA,hw];exact h.2⟩
  |loc ep pv=>
   obtain⟨h1,h2,h3,h4,h5⟩:=h;have plain:iA c' v (if(ep==c.ep)=true then AC.sl (.loc 0 none) e xs else .bot) fp:=by split;rename_i he;refine⟨h1,by rw[Ck];exact ba _,h3,λ_=>?_,by simp⟩;rw[hS,hw];exact h4 (by simpa using he);exact h1
   simp only[AC.mask];split;rename_i j n;split;rename_i ys L1;obtain⟨v0,fp0,fA,Sz,hq⟩:=PJ j n e ys L1;obtain⟨_,k2⟩:=h5 _ _ rfl;have hv:v0=v:=Sz.trans k2.symm;subst hv;refine⟨h1,by rw[Ck];exact ba _,Qk fA,λ_=>?_,λr t hp=>?_⟩;rw[hS,hw];exact eS.rep (λb o ho=> .inr ho) fA;cases lI:(lS.io j).MC with|none=>rw[lI]at hp;cases hp|some q=>rw[lI]at hp;simp at hp;obtain⟨_,rfl⟩:=hp;exact⟨(hq q lI).1,(hq q lI).2⟩
   exact plain;exact plain
theorem OV {c c':RC}(PJ:aeq c c' io){f:Nat->lS}(Gz:c'.hw=c.hw)(hw:c'.w=c.w)(hA:c'.A=c.A)(Ck:c'.ep=0)(ON:c'.β=c.β)
 (uF:∀s,keep.contains s=true->c.Qn s->c'.Qn s):∀{vs:iU}{xs:ar AC}{fp:ec}(j:Nat),bD c vs xs fp->
  (∀i v,vs[i]?=some v->∀t,(f (j+i)).MC=some t->c'.iss t/\v=c'.hdr t)->bD c' vs (RF keep c.ep io f j xs) fp
 |[],[],_,_,h,_=>h
 |v::_,_::_,_,j,h,hm=>by obtain⟨f1,f2,rfl,h1,h2⟩:=h;exact⟨f1,f2,rfl,ajr PJ h1 Gz hw hA Ck ON uF (λt ht=>hm 0 v rfl t ht),OV PJ Gz hw hA Ck ON uF (j+1) h2 (λi u hu t ht=>hm (i+1) u (by simpa using hu) t (by rwa[show j+(i+1)=j+1+i by omega]))⟩
 |[],_::_,_,_,h,_=>h.elim
 |_::_,[],_,_,h,_=>h.elim
theorem amL {c:RC}{v:Value}{x:AC}{fp:ec}(h:iA c v x fp)(M4:∀(tag:au Nat)(e:CT)(xs:ar e.D),x=.sl (.own tag) e xs->False)(aqb:∀(tag:au Nat)(i:Int)(ep:au Nat)(e:CT)(xs:ar e.D),x=.sl (.fK tag i ep) e xs->False):fp=[]:=by
 cases x with
 |int k n=>exact h.2
 |bool b=>exact h.2
 |str s=>exact h.2
 |kL=>exact h.2
 |fn f=>exact h.2
 |un=>exact h.2
 |bot=>exact h
 |ptr s off=>exact h.2.2
 |Hy fl e y i off=>cases fl with|own t=>exact h.elim|nest _ _ _ _ _ _=>exact h.elim|part _ _ _ _=>exact h.elim|fK _ _ _=>exact h.elim|arg _=>exact h.1|loc ep pv=>exact h.1
 |sl fl e xs=>cases fl with|own t=>exact(M4 _ _ _ rfl).elim|nest _ _ _ _ _ _=>exact h.1|part _ _ _ _=>exact h.1|fK _ _ _=>exact(aqb _ _ _ _ _ rfl).elim|arg _=>exact h.1|loc ep pv=>exact h.1
theorem pF.mask (h:pF C st a w)(keep:ec):pF C (st.mask keep) a w:=by
 obtain⟨g,h⟩:=h;let g':Gh:={g with hdr:=JH C.ioV st a w g.β}
 have uF:∀s,keep.contains s=true->ic st s->ic (st.mask keep) s:=by rintro s hk ⟨cs,hs⟩;refine⟨RF keep st.ep st.io (.box s) 0 cs,?_⟩;show(qv keep st.ep st.io 0 st.boxes)[s]?=_;rw[Io,hs];simp only[dz,cr,aM hk]
 obtain⟨fpi,hri,hni,hli⟩:=h.io;have arb:∀j v,C.ioV[j]?=some v->∀q,(lS.io j).MC=some q->nm (st.mask keep) q/\v=JH C.ioV st a w g.β q:=by
  intro j v hv q hq;simp only[lS.MC]at hq;cases hb:Nat.ble 4096 j with
  |true=>rw[hb]at hq;cases hq
  |false=>
   rw[hb]at hq;simp only[ae,bf,Fs]at hq;have hj:j<4096:=by rcases bS j 4096 with iG|Fe;exact iG;rw[iI Fe]at hb;cases hb
   have h0:q%3=0:=by omega
   have h1:q/3/4096=1000003:=by omega
   have h2:q/3%4096=j:=by omega
   refine⟨.inl (by omega),?_⟩;rw[JH,aM ⟨h0,h1⟩,h2,hv];rfl
 have apw:aeq (cO C g st w) (cO C g' (st.mask keep) w) st.io:=by
  intro j n e ys L1;unfold AC.amp at L1;split at L1;rename_i t' e' ys' hj;split at L1;rename_i he;subst he;cases ht:(t'==n)with
  |false=>rw[ht]at L1;cases L1
  |true=>
   rw[ht]at L1;have:t'=n:=by simpa using ht
   subst this;cases L1;rw[dV]at hj;obtain⟨v,f,hv,hr,_⟩:=hri.get j _ hj;exact⟨v,f,hr.1,(hr.2 t' rfl).2,λq hq=>arb j v hv q hq⟩
  cases L1;cases L1
 have azK:∀(j:Nat){vs:iU}{xs:ar AC}{fp:ec},bD (cO C g st w) vs xs fp->(∀i v,vs[i]?=some v->C.ioV[j+i]?=some v)->bD (cO C g' (st.mask keep) w) vs (afO keep j xs) fp:=by
  intro j vs
  induction vs generalizing j with
  |nil=>intro xs fp hr _;cases xs with
   |nil=>exact hr
   |cons _ _=>exact hr.elim
  |cons v vs ih=>
   intro xs fp hr hv
   cases xs with
   |nil=>exact hr.elim
   |cons x xs=>
    obtain⟨f1,f2,rfl,r1,r2⟩:=hr
    refine⟨f1,f2,rfl,?_,ih (j+1) r2 (λi u hu=>by rw[show j+1+i=j+(i+1) by omega];exact hv (i+1) u (by simpa using hu))⟩
    have Sz:=hv 0 v rfl
    rw[dW]at Sz
    split
    ·rename_i tg e ys
     exact⟨r1.1,λq hq=>arb j v Sz q hq⟩
    ·rename_i tag i ep e ys
     obtain⟨_,⟨k,hk,h3⟩,_⟩:=r1
     exact⟨λq hq=>(by cases hq),⟨k,hk,h3⟩,by simp⟩
    ·rename_i s off
     split
     ·rename_i hk
      exact⟨r1.1,uF s hk r1.2.1,r1.2.2⟩
     ·exact r1.2.2
    ·rename_i M4 aqb _
     cases hfl:x.gZ with
     |true=>
      obtain⟨rfl,k⟩:=nv (c':=cO C g' (st.mask keep) w) r1 hfl
      exact k
     |false=>exact amL r1 M4 aqb
 refine⟨g',h.defers,?_,?_,λi av hi=>?_,λs cs hs=>?_,λk v av hk=>by simp at hk,h.fV,h.frame,⟨fpi,azK 0 hri (λi v hv=>by rw[cr];exact hv),hni,hli⟩⟩;show _=(qw keep st.ep st.io 0 st.slots).length;rw[CF];exact h.size;show(qv keep st.ep st.io 0 st.boxes).length=(qw keep st.ep st.io 0 st.slots).length;rw[CF,I4];exact h.bsize;have uu:(qw keep st.ep st.io 0 st.slots)[i]?=some av:=hi;rw[N5,cr]at uu;cases hv:st.slots[i]? with
 |none=>rw[hv]at uu;cases uu
 |some x=>
  rw[hv]at uu;simp only[dz,bf]at uu;split at uu
  ·subst uu
   cases hx:x with
   |zU ts=>exact⟨[],gi.bot _ _,by simp,by simp⟩
   |val gg cs=>
    rw[hx]at hv
    obtain⟨fp,⟨vs,eM,hr⟩,hn,hl⟩:=h.slots i _ hv
    refine⟨fp,⟨vs,eM,OV (io:=st.io) apw (c:=cO C g st w) (c':=cO C g' (st.mask keep) w) rfl rfl rfl rfl rfl uF 0 hr ?_⟩,hn,hl⟩
    intro j u hu t ht
    simp only[cr,lS.MC]at ht
    cases hb:Nat.ble 4096 j with
    |true=>rw[hb]at ht;cases ht
    |false=>
     rw[hb]at ht
     simp only[ae]at ht
     cases Lv:Nat.ble 1000000 i with
     |true=>rw[Lv]at ht;cases ht
     |false=>
     rw[Lv]at ht
     simp only[ae,bf]at ht
     have hi6:i<1000000:=by rcases bS i 1000000 with iG|Fe;exact iG;rw[iI Fe]at Lv;cases Lv
     have hj:j<4096:=by rcases bS j 4096 with iG|Fe;exact iG;rw[iI Fe]at hb;cases hb
     have h0:t%3=0:=by omega
     have h1:t/3/4096=i:=by omega
     have h2:t/3%4096=j:=by omega
     refine⟨.inl (by omega),?_⟩
     show u=JH C.ioV st a w g.β t
     rw[JH,nt,aM h0,h1,h2,get_eq hv,aeN eM,hu];rfl
  subst uu;exact⟨[],gi.bot _ _,by simp,by simp⟩
 have yk:(qv keep st.ep st.io 0 st.boxes)[s]?=some (some cs):=hs;rw[Io,cr]at yk;cases hv:st.boxes[s]? with
 |none=>rw[hv]at yk;cases yk
 |some x=>
  rw[hv]at yk;simp only[dz,bf]at yk;split at yk;cases hx:x with
  |none=>rw[hx]at yk;cases yk
  |some xs=>
   rw[hx]at yk hv;simp only[dz,bf]at yk;subst yk;obtain⟨arr,T,fr,fp,hb,uG,hr,hn,hni,hl,ND,NU⟩:=h.boxes s xs hv;refine⟨arr,T,fr,fp,hb,uG,OV (io:=st.io) apw (c:=cO C g st w) (c':=cO C g' (st.mask keep) w) rfl rfl rfl rfl rfl uF 0 hr ?_,hn,hni,hl,ND,NU⟩;intro j u hu t ht;simp only[cr,lS.MC]at ht;cases hbb:Nat.ble 4096 j with
   |true=>rw[hbb]at ht;cases ht
   |false=>
    rw[hbb]at ht;simp only[ae,bf]at ht;have hj:j<4096:=by rcases bS j 4096 with iG|Fe;exact iG;rw[iI Fe]at hbb;cases hbb
    have h0:¬t%3=0:=by omega
    have h1:t/3/4096=s:=by omega
    have h2:t/3%4096=j:=by omega
    refine⟨.inl (by omega),?_⟩;show u=JH C.ioV st a w g.β t;rw[JH,nt,aK h0,h1,h2,hb];simp only;rw[hu];rfl
  cases yk
structure jP (ds:List Nat) (st st':AS):Prop where
 len:st'.slots.length=st.slots.length
 slot:∀i,i∉ds->st'.slots[i]?=st.slots[i]?
 boxes:st'.boxes=st.boxes
 ep:st'.ep=st.ep
 iss:∀i,i∉ds->nth st'.iss i=nth st.iss i
 arx:st'.iss.length=st.iss.length
 io:st'.io=st.io
theorem jP.refl (ds:ec)(st:AS):jP ds st st:=⟨rfl,λ_ _=>rfl,rfl,rfl,λ_ _=>rfl,rfl,rfl⟩
theorem jP.trans {st st1 st2:AS}(h:jP ds st st1)(k:jP ds st1 st2):jP ds st st2:=⟨k.len.trans h.len,λi hi=>(k.slot i hi).trans (h.slot i hi),k.boxes.trans h.boxes,k.ep.trans h.ep,λi hi=>(k.iss i hi).trans (h.iss i hi),k.arx.trans h.arx,k.io.trans h.io⟩
theorem jP.put {st:AS}(hd:∀i,d=some i->i∈ds)(v:AV):jP ds st (st.put d v):=by cases d with|none=>exact jP.refl _ _|some d=>refine⟨by rw[gh,aL],λi hi=>?_,mm,Rf,λi _=>by rw[aac],by rw[aac],Rz⟩;rw[gh,aZ];rintro rfl;exact hi (hd _ rfl)
theorem jP.fQ {st:AS}(hd:∀i,d=some i->i∈ds):jP ds st (st.fQ d):=by cases d with|none=>exact jP.refl _ _|some d=>refine⟨rfl,λi _=>rfl,rfl,rfl,λi hi=>?_,?_,rfl⟩;simp only[AS.fQ,dV,fD];rw[aZ];rintro rfl;exact hi (hd _ rfl);simp only[AS.fQ,fD,aL]
theorem yZ {α:Type}{o:au α}{k:α->au AS}{st':AS}(h:aa o k=some st')(hk:∀x,k x=some st'->jP ds st st'):jP ds st st':=by cases o with|none=>cases h|some x=>exact hk x h
theorem ajB {n:Nat}{k:au AS}{st':AS}(h:room n k=some st')(hk:k=some st'->jP ds st st'):jP ds st st':=by unfold room at h;split at h;exact hk h;cases h
theorem afX {op:BinOp}{k:IntKind}{x y:Int}{K:AC->au AS}{st':AS}(h:Qc op k x y K=some st')(hk:∀z,K z=some st'->jP ds st st'):jP ds st st':=by
 unfold Qc at h
 split at h<;>first
  |exact hk _ h
  |(split at h
    ·cases h
    ·exact hk _ h)
  |cases h
theorem afY {op:BinOp}{x y:ar UInt8}{K:AC->au AS}{st':AS}(h:S2 op x y K=some st')(hk:∀z,K z=some st'->jP ds st st'):jP ds st st':=by
 unfold S2 at h
 split at h<;>first
  |exact ajB h (hk _)
  |exact hk _ h
  |cases h
theorem RL {op:BinOp}{x y:AV}{K:AC->au AS}{st':AS}(h:Ny op x y K=some st')(hk:∀z,K z=some st'->jP ds st st'):jP ds st st':=by unfold Ny at h;split at h;split at h;split at h;cases h;exact hk _ h;split at h;cases h;exact hk _ h;split at h;exact afX h hk;cases h;exact afY h hk;split at h;exact hk _ h;exact hk _ h;cases h;split at h;exact yZ h λb hb=>hk _ hb;exact yZ h λb hb=>hk _ hb;cases h;cases h
theorem Qi {lo hi:au Operand}{n:Nat}{K:Int->Int->au AS}{st0 st':AS}(h:pa st0 lo hi n K=some st')(hk:∀x y,K x y=some st'->jP ds st st'):jP ds st st':=by
 unfold pa at h
 split at h<;>first
  |exact hk _ _ h
  |cases h
theorem Vy {op:BinOp}{b:Bool}{K:AC->au AS}{st':AS}(h:KU op b K=some st')(hk:∀c,K c=some st'->jP ds st st'):jP ds st st':=by unfold KU at h;split at h;exact hk _ h;exact hk _ h;cases h
theorem Yu {E:Env}(Ey:∀f,(Γ f).io=false/\(Γ f).bx=false/\(Γ f).pr=false){o:Oper}{st':AS}(hq:iq an ds o=true)(hd:∀i,o.dst=some i->i∈ds)(h:db E Γ an o st some=some st'):jP ds st st':=by
 have Ch:∀v,some (st.put o.dst v)=some st'->jP ds st st':=λv hv=>by cases hv;exact jP.put hd v
 unfold db at h;split at h;rename_i x ho;simp only[iq,ho]at hq;unfold I5 at h;cases ZP:o.dst with
 |none=>rw[ZP]at h;cases h
 |some d=>
  rw[ZP]at h hq;simp only at h hq;have hf:an.mv.contains d=false:=by simpa using hq
  rw[hf]at h;simp only[bg,cD]at h;cases h;exact jP.put (λi hi=>hd i (by rw[ZP];exact hi)) _
 rename_i x ho;have KW:GJ an o=false\/∃y,x=y/\(∀v,y≠ .const v)/\(∀t,y≠ .tmp t):=by cases x with|tmp t=>left;simp only[iq,ho,ah,aU]at hq;exact hq.2|const v=>left;simpa only[iq,ho,aU]using hq|func f=>simp[iq,ho]at hq|global g=>simp[iq,ho]at hq
 have KW:GJ an o=false:=by rcases KW with h1|⟨y,rfl,h1,h2⟩;exact h1;cases x with|tmp t=>exact absurd rfl (h2 t)|const v=>exact absurd rfl (h1 v)|func f=>simp[iq,ho]at hq|global g=>simp[iq,ho]at hq
 simp only[iq,ho]at hq;rw[aK (by simp[KW])]at h;unfold zY at h;have hx:jP ds st (st.take x).2:=by
  cases x with
  |tmp t=>
   have ht:t∈ds:=by simp only[ah]at hq;simpa using hq.1
   exact jP.put (d:=some t) (λi hi=>by cases hi;exact ht) _
  |const v=>exact jP.refl _ _
  |func f=>exact jP.refl _ _
  |global g=>exact jP.refl _ _
 split at h;split at h;exact Ch _ h;cases h;rename_i v st1 _ xv;cases h;have:(st.take x).2=st1:=by rw[xv]
 rw[this]at hx;exact hx.trans (jP.put hd _);unfold Ml at h;split at h;rename_i t _;split at h;exact Ch _ h;cases t with|true=>exact Ch _ h|false=>exact Ch _ h
 cases h;rename_i ho;simp[iq,ho]at hq;rename_i ho;simp[iq,ho]at hq;rename_i T p ho;simp only[iq,ho]at hq;have xv:MG an o=false:=by unfold MG;cases ZP:o.dst with|none=>rfl|some d=>rw[ZP]at hq;simp only[aU]at hq;simp only[hq,gI]
 unfold sy at h;split at h;split at h;split at h;split at h;rename_i d ZP;rw[ZP]at hq;simp only at hq;have hf:an.mv.contains d=false:=by simpa using hq
 rw[hf]at h;simp only[bg,cD]at h;exact Ch _ h;cases h;cases h;cases h;rw[aK (by simp[xv])]at h;split at h;split at h;exact Ch _ h;cases h;unfold Ky at h;split at h;split at h;split at h;split at h;obtain⟨y,_,h⟩:=Uj h;exact Ch _ h;cases h;cases h;cases h;cases h;cases h;rename_i ho;simp[iq,ho]at hq;split at h;exact Ch _ h;exact Ch _ h;cases h;unfold Hu at h;split at h;split at h;exact RL h λz hz=>Ch _ hz;cases h;split at h;split at h;exact RL h λz hz=>Ch _ hz;cases h;cases h;split at h;split at h;cases h;exact Vy h λz hz=>Ch _ hz;cases h;split at h;exact Vy h λz hz=>Ch _ hz;cases h;exact RL h λz hz=>Ch _ hz;unfold unC at h;split at h;exact Ch _ h;exact Ch _ h;exact Ch _ h;cases h;unfold Gr at h;split at h;split at h;exact Ch _ h;cases h;split at h;exact Ch _ h;cases h;cases h;unfold oL at h;split at h;split at h;exact yZ h λy hy=>Ch _ hy;cases h;cases h;unfold Ik at h;split at h;split at h;exact yZ h λy hy=>Ch _ hy;cases h;cases h;rename_i T parts ho;simp only[iq,ho]at hq;have he:parts=#[]:=by simpa using hq
 subst he;unfold Ib at h;split at h;simp only[fj,List.map_nil]at h;split at h;exact Ch _ h;cases h;cases h;rename_i ho;simp[iq,ho]at hq;rename_i ho;simp[iq,ho]at hq;rename_i ho;simp only[iq,ho,aU]at hq;unfold Hg at h;rw[aK (by simp[hq])]at h;split at h;split at h;exact Qi h λx y hxy=>yZ hxy λz hz=>Ch _ hz;cases h;split at h;exact Qi h λx y hxy=>yZ hxy λz hz=>Ch _ hz;cases h;cases h;rename_i ho;simp[iq,ho]at hq;rename_i ho;simp[iq,ho]at hq;rename_i ho;simp[iq,ho]at hq;rename_i ho;simp[iq,ho]at hq;unfold Vt at h;split at h;split at h;exact Ch _ h;cases h;split at h;exact Ch _ h;cases h;cases h;unfold W5 at h;split at h;exact Ch _ h;cases h;unfold W4 at h;split at h;exact Ch _ h;cases h;rename_i ho;simp[iq,ho]at hq;unfold KS at h;split at h;rename_i k _;rw[(Ey k).2.1,(Ey k).2.2,(Ey k).1]at h;simp only[ae]at h;refine yZ h λy hy=>?_;cases WW:(Γ k).sel y with|true=>rw[WW]at hy;cases hy;exact(jP.fQ hd).trans (jP.put hd _)|false=>rw[WW]at hy;cases hy;exact(jP.fQ hd).trans (jP.put hd _)
 cases h;cases h
theorem acN {ops:ar Oper}{o:Oper}(ho:o∈ops){i:Nat}(hi:o.dst=some i):i∈OB ops:=List.mem_filterMap.2 ⟨o,ho,hi⟩
theorem Vz {E:Env}(Ey:∀f,(Γ f).io=false/\(Γ f).bx=false/\(Γ f).pr=false){ops:ar Oper}{o:Oper}{st':AS}(ho:o∈ops)(hq:iq an (OB ops) o=true)(h:ig E Γ an ops o st some=some st'):jP (OB ops) st st':=by
 have hd:∀i,o.dst=some i->i∈OB ops:=λi hi=>acN ho hi;unfold ig at h;split at h;exact Yu Ey hq hd h;rename_i j O9 hg;split at h;rename_i d ZP;have hdm:d∈OB ops:=by rw[dV]at ZP;cases Tl:ops[j]? with|none=>rw[Tl]at ZP;cases ZP|some o'=>rw[Tl]at ZP;exact acN (bK Tl) ZP
 have hp:∀t,jP (OB ops) st (st.put (some d) (.one (.bool t))):=λt=>jP.put (λi hi=>by cases hi;exact hdm) _;split at h;rename_i b hb;have main:∀t,(if(t==O9)=true then db E Γ an o (st.put (some d) (.one (.bool t))) some else some ((st.put (some d) (.one (.bool t))).put o.dst (.one .un)))=some st'->jP (OB ops) st st':=by intro t ht;split at ht;exact(hp t).trans (Yu Ey hq hd ht);cases ht;exact(hp t).trans (jP.put hd _)
 cases b with|true=>exact main true h|false=>exact main false h
 cases h;exact jP.put hd _;cases h;cases h
theorem ac1 {E:Env}(Ey:∀f,(Γ f).io=false/\(Γ f).bx=false/\(Γ f).pr=false){ops:ar Oper}(hq:∀o∈ops,iq an (OB ops) o=true):∀(l:ar Oper)(st st':AS),(∀o∈l,o∈ops)->aap E Γ an ops l st some=some st'->jP (OB ops) st st'
 |[],st,st',_,h=>by cases h;exact jP.refl _ _
 |o::l,st,st',hl,h=>by simp only[aap]at h;rw[uD]at h;cases hg:ig E Γ an ops o st some with|none=>rw[hg]at h;cases h|some st1=>rw[hg]at h;exact(Vz Ey (hl o (by simp)) (hq o (hl o (by simp))) hg).trans (ac1 Ey hq l st1 st' (λo' Tl=>hl o' (by simp[Tl])) h)
theorem OA:∀(l:ec)(st:AS),(∀i∈l,i∈ds)->jP ds st (st.Hx l)
 |[],st,_=>jP.refl _ _
 |d::l,st,h=>by
  have hd:∀i,some d=some i->i∈ds:=λi hi=>by cases hi;exact h d (by simp)
  exact((jP.put hd _).trans (jP.fQ hd)).trans (OA l _ (λi hi=>h i (by simp[hi])))
theorem XI:∀(l:ec)(st:AS)(i:Nat)(av:AV),(st.Hx l).slots[i]?=some av->i∈l\/st.slots[i]?=some .bot->av=.bot
 |[],st,i,av,h,hi=>by rcases hi with hi|hi;cases hi;have:st.slots[i]?=some av:=h;rw[hi]at this;cases this;rfl
 |d::l,st,i,av,h,hi=>by
  refine XI l _ i av h ?_;by_cases U6:i∈l;exact .inl U6;refine .inr ?_;rw[zN,gh,bt];have iG:i<st.slots.length:=by
   have h1:=(OA (ds:=d::l) l ((st.put (some d) .bot).fQ (some d)) (λi hi=>by simp[hi])).len;have h2:=(aJ.1 h).1;have h3:(AS.Hx ((st.put (some d) .bot).fQ (some d)) l).slots.length=st.slots.length:=by rw[h1,zN,gh,aL]
   have h4:i<(AS.Hx ((st.put (some d) .bot).fQ (some d)) l).slots.length:=h2;omega
  split;rename_i hdi;subst hdi;rw[aM iG];rename_i hdi;rcases hi with hi|hi;simp only[cp]at hi;rcases hi with hi|hi;exact absurd hi.symm hdi;exact absurd hi U6;exact hi
theorem XJ:∀(l:ec)(st:AS)(i:Nat),i∈l\/(nth st.iss i).getD true=true->(nth (st.Hx l).iss i).getD true=true
 |[],st,i,hi=>by rcases hi with hi|hi;cases hi;exact hi
 |d::l,st,i,hi=>by refine XJ l _ i ?_;by_cases U6:i∈l;exact .inl U6;refine .inr ?_;have he:(AS.fQ (st.put (some d) .bot) (some d)).iss=iO st.iss d true:=rfl;rw[he,fD,dV,bt];split;split<;>rfl;rename_i hdi;rcases hi with hi|hi;simp only[cp]at hi;rcases hi with hi|hi;exact absurd hi.symm hdi;exact absurd hi U6;rw[dV]at hi;exact hi
theorem pF.weaken {st':AS}(h:pF C st' a w)(hn:jP ds st st'){s:Nat}{b:Bool}(hb:getBool st' s=some b):pF C ((st.Hx ds).put (some s) (.one (.bool b))) a w:=by
 have Lv:st'.get s=.val false [.bool b]:=by unfold getBool at hb;split at hb;rename_i b' hg;cases hb;exact hg;cases hb
 have hkn:=h.known Lv;obtain⟨g,h⟩:=h;have hdn:=OA (ds:=ds) ds st (λ_ hi=>hi);have yW:((st.Hx ds).put (some s) (.one (.bool b))).boxes=st'.boxes:=by rw[mm,hdn.boxes,hn.boxes]
 have Ck:((st.Hx ds).put (some s) (.one (.bool b))).ep=st'.ep:=by rw[Rf,hdn.ep,hn.ep]
 have hlen:((st.Hx ds).put (some s) (.one (.bool b))).slots.length=st'.slots.length:=by rw[gh,aL,hdn.len,hn.len]
 have Lp:∀t,nm st' t->nm ((st.Hx ds).put (some s) (.one (.bool b))) t:=by intro t ht;rw[Qf];rcases ht with ht|ht;exact .inl ht;refine .inr (XJ ds st _ ?_);by_cases hi:t/3/4096∈ds;exact .inl hi;exact .inr (by rw[<-hn.iss _ hi];exact ht)
 have uF:∀s',ic st' s'->ic ((st.Hx ds).put (some s) (.one (.bool b))) s':=λs' hs=>by unfold ic at hs⊢;rw[yW];exact hs
 have hle:(cO C g st' w).Le (cO C g ((st.Hx ds).put (some s) (.one (.bool b))) w):=⟨rfl,λt ht=>⟨Lp t ht,rfl⟩,λ_ _ _ _ _ hv=>hv,by show st'.ep<=_;rw[<-Ck];exact ba _,λs' hs=>⟨uF s' hs,rfl⟩,λ_ b o u ho hu=>⟨ho,hu⟩⟩
 refine⟨g,h.step (λ_=>True) hle h.defers (by rw[hlen];exact h.size) (by rw[yW,hlen];exact h.bsize) h.frame h.fV (λb x _ hx=>⟨hx,rfl,rfl⟩) ?_ ?_ ?_ (.inl ⟨bM,by rw[Rz,hdn.io,hn.io]⟩)⟩;intro i av hi;rw[gh,bt]at hi;split at hi;rename_i hsi;subst hsi;split at hi;cases hi;refine .inr ⟨[],oM ?_,by simp,by simp⟩;exact⟨hkn,rfl⟩;cases hi;by_cases hid:i∈ds;have:=XI ds st i av hi (.inl hid);subst this;exact .inr ⟨[],gi.bot _ _,by simp,by simp⟩;rw[hdn.slot i hid]at hi;exact .inl ⟨bM,by rw[hn.slot i hid];exact hi,rfl⟩;intro s' cs hs;rw[yW]at hs;exact .inl ⟨bM,hs,rfl⟩;intro k v av hk;simp at hk
theorem an4 (Γ:Ci)(f:Nat):(Γ.calm f).io=false/\(Γ.calm f).bx=false/\(Γ.calm f).pr=false:=by unfold Ci.calm;cases h:(Γ f).io with|true=>exact⟨rfl,rfl,rfl⟩|false=>cases h2:(Γ f).bx with|true=>exact⟨rfl,rfl,rfl⟩|false=>cases h3:(Γ f).pr with|true=>exact⟨rfl,rfl,rfl⟩|false=>exact⟨h,h2,h3⟩
theorem ao6 (Γ:Ci)(f:Nat):(Γ.O5 f).io=false/\((Γ.O5 f).bx=true->(Γ.O5 f).cur=true)/\(Γ.O5 f).pr=false:=by unfold Ci.O5;cases h:(Γ f).io with|true=>exact⟨rfl,λh=>(by cases h),rfl⟩|false=>cases h3:(Γ f).pr with|true=>exact⟨rfl,λh=>(by cases h),rfl⟩|false=>cases h2:(Γ f).bx with|false=>exact⟨h,λh=>(by simp[h2]at h),h3⟩|true=>cases h4:(Γ f).cur with|true=>exact⟨h,λ_=>h4,h3⟩|false=>exact⟨rfl,λh=>(by cases h),rfl⟩
theorem ao7 (Ey:∀f,(Γ f).io=false/\(Γ f).bx=false/\(Γ f).pr=false)(f:Nat):(Γ.O5 f).io=false/\(Γ.O5 f).bx=false/\(Γ.O5 f).pr=false:=by have h:=Ey f;unfold Ci.O5;rw[h.1,h.2.1,h.2.2];exact h
theorem Sound.O5 {E:Env}(h:Sound P E Γ):Sound P E Γ.O5:=by refine⟨h.ty,h.eqs,h.fts,λf=>?_,h.mixed⟩;unfold Ci.O5;cases (Γ f).io||(Γ f).pr||((Γ f).bx&& !(Γ f).cur)with|true=>intro xs y hy;cases hy|false=>exact h.fns f
theorem Sound.calm {E:Env}(h:Sound P E Γ):Sound P E Γ.calm:=by refine⟨h.ty,h.eqs,h.fts,λf=>?_,h.mixed⟩;unfold Ci.calm;cases (Γ f).io with|true=>intro xs y hy;cases hy|false=>cases (Γ f).bx with|true=>intro xs y hy;cases hy|false=>cases (Γ f).pr with|true=>intro xs y hy;cases hy|false=>exact h.fns f
end Go.Dn
