import Derived.Test.YtgbaemfepmabgaaGreatDnDen
import Derived.Test.YtgbaemfepmabgaaGreatDnNat
/- What is kept at a loop's door; what a region whose ways meet again leaves. -/
namespace Go.Dn
open Go.RowKit
variable {P:Program} {C:Ctx} {st:AS} {a:Act} {w:World} {R:Type} {r:R}
variable {Γ:dK} {v:Value} {d:az Nat} {ds:fu}
theorem E2 (keep:fu)(ep:Nat)(io:aw AC):∀(l:aw AV)(n i:Nat),(nE keep ep io n l)[i]?=(l[i]?).map λv=>if keep.contains (n+i) then v.mask keep ep io (n+i) else .bot
 |[],n,i=>by simp[nE]
 |v::l,n,0=>by simp[nE]
 |v::l,n,i+1=>by simp only[nE,fA];rw[E2 keep ep io l (n+1) i,show n+1+i=n+(i+1) by omega]
theorem Bn (keep:fu)(ep:Nat)(io:aw AC):∀(l:aw (az (aw AC)))(n i:Nat),(nD keep ep io n l)[i]?=(l[i]?).map λb=>if keep.contains (n+i) then b.map (Ij keep ep io (.box (n+i)) 0) else none
 |[],n,i=>by simp[nD]
 |v::l,n,0=>by simp[nD]
 |v::l,n,i+1=>by simp only[nD,fA];rw[Bn keep ep io l (n+1) i,show n+1+i=n+(i+1) by omega]
theorem wo (keep:fu)(ep:Nat)(io:aw AC):∀(l:aw AV)(n:Nat),(nE keep ep io n l).length=l.length
 |[],_=>rfl
 |_::l,n=>by simp[nE,wo keep ep io l]
theorem BL (keep:fu)(ep:Nat)(io:aw AC):∀(l:aw (az (aw AC)))(n:Nat),(nD keep ep io n l).length=l.length
 |[],_=>rfl
 |_::l,n=>by simp[nD,BL keep ep io l]
def Wr:Value->AV->iS
 | .agg vs,.val true _=>vs.toList
 |v,_=>[v]
theorem Ww {g:Bool}{vs:iS}{cs:aw AC}(h:Cut g v vs):Wr v (.val g cs)=vs:=by cases g with|true=>simp only[Cut,cg]at h;subst h;simp[Wr]|false=>simp only[Cut]at h;subst h;cases v<;>rfl
def Cb (ioV:iS)(st:AS)(a:Act)(w:World)(β:Nat->Nat)(t:Nat):Value:=
 if t%3=0/\t/3/4096=1000003 then(ioV[t/3%4096]?).getD undef
 else if t%3=0 then((Wr (a.tmps.getD (t/3/4096) undef) (st.get (t/3/4096)))[t/3%4096]?).getD undef
 else match w.heap[β (t/3/4096)]? with
  |some (.cells arr _ _)=>(arr.toList[t/3%4096]?).getD undef
  |_=>undef
def V4 (c c':RC)(io:aw AC):Prop:=∀j n (e:CT)(ys:aw e.D),AC.ad4 io j n e=some ys->∃v0 fp0,fM c.hw c.w (.sl e) [v0] ys fp0/\v0=c.hdr n/\∀q,(kG.io j).DZ=some q->c'.iss q/\v0=c'.hdr q
theorem abq {c c':RC}{io:aw AC}(hio:V4 c c' io){keep:fu}{rt:kG}{x:AC}{fp:fu}(h:hY c v x fp)(hhw:c'.hw=c.hw)(hw:c'.w=c.w)(hA:c'.A=c.A)(hep:c'.ep=0)(hβ:c'.β=c.β)(hpres:∀s,keep.contains s=true->c.pres s->c'.pres s)(hst:∀t,rt.DZ=some t->c'.iss t/\v=c'.hdr t):hY c' v (x.mask keep c.ep io rt) fp:=by
 have hS:c'.S=c.S:=by funext b o;simp[RC.S,hhw,hA]
 cases x with
 |int k n=>exact h
 |bool b=>exact h
 |str s=>exact h
 |nilsl=>exact h
 |fn f=>exact h
 |un=>exact h
 |bot=>exact h
 |ptr s off=>simp only[AC.mask];split;rename_i hk;exact⟨by rw[hβ];exact h.1,hpres s hk h.2.1,h.2.2⟩;exact h.2.2
 |elt fl e y i off=>cases fl with|own t=>exact h.elim|nest _ _ _ _ _ _=>exact h.elim|part _ _ _ _=>exact h.elim|holed _ _ _=>exact h.elim|arg _=>exact h.1|loc ep pv=>exact h.1
 |sl fl e xs=>
  cases fl with
  |own t=>exact⟨fM.mono h.1 (λb _=>⟨by rw[hw],by rw[hhw]⟩),hst⟩
  |nest _ _ _ _ _ _=>exact h.1
  |part _ _ _ _=>exact h.1
  |holed _ _ _=>obtain⟨_,⟨k,hk,h3⟩,_⟩:=h;exact⟨λq hq=>(by cases hq),⟨k,hk,h3.mono (λb hb=>⟨by rw[hw],by rw[hhw]⟩)⟩,by simp⟩
  |arg _=>exact⟨h.1,by rw[hA,hw];exact h.2⟩
  |loc ep pv=>
   obtain⟨h1,h2,h3,h4,h5⟩:=h;have plain:hY c' v (if(ep==c.ep)=true then AC.sl (.loc 0 none) e xs else .bot) fp:=by split;rename_i he;refine⟨h1,by rw[hep];exact bh _,h3,λ_=>?_,by simp⟩;rw[hS,hw];exact h4 (by simpa using he);exact h1
   simp only[AC.mask];split;rename_i j n;split;rename_i ys hnow;obtain⟨v0,fp0,hown,hv0,hq⟩:=hio j n e ys hnow;obtain⟨_,k2⟩:=h5 _ _ rfl;have hv:v0=v:=hv0.trans k2.symm;subst hv;refine⟨h1,by rw[hep];exact bh _,Ms hown,λ_=>?_,λr t hp=>?_⟩;rw[hS,hw];exact fM.rep (λb o ho=> .inr ho) hown;cases hst':(kG.io j).DZ with|none=>rw[hst']at hp;cases hp|some q=>rw[hst']at hp;simp at hp;obtain⟨_,rfl⟩:=hp;exact⟨(hq q hst').1,(hq q hst').2⟩
   exact plain;exact plain
theorem FJ {c c':RC}{io:aw AC}(hio:V4 c c' io){keep:fu}{f:Nat->kG}(hhw:c'.hw=c.hw)(hw:c'.w=c.w)(hA:c'.A=c.A)(hep:c'.ep=0)(hβ:c'.β=c.β)
 (hpres:∀s,keep.contains s=true->c.pres s->c'.pres s):∀{vs:iS}{xs:aw AC}{fp:fu}(j:Nat),bR c vs xs fp->
  (∀i v,vs[i]?=some v->∀t,(f (j+i)).DZ=some t->c'.iss t/\v=c'.hdr t)->bR c' vs (Ij keep c.ep io f j xs) fp
 |[],[],_,_,h,_=>h
 |v::_,_::_,_,j,h,hm=>by obtain⟨f1,f2,rfl,h1,h2⟩:=h;exact⟨f1,f2,rfl,abq hio h1 hhw hw hA hep hβ hpres (λt ht=>hm 0 v rfl t ht),FJ hio hhw hw hA hep hβ hpres (j+1) h2 (λi u hu t ht=>hm (i+1) u (by simpa using hu) t (by rwa[show j+(i+1)=j+1+i by omega]))⟩
 |[],_::_,_,_,h,_=>h.elim
 |_::_,[],_,_,h,_=>h.elim
theorem ael {c:RC}{x:AC}{fp:fu}(h:hY c v x fp)(hno:∀(tag:az Nat)(e:CT)(xs:aw e.D),x=.sl (.own tag) e xs->False)(hno2:∀(tag:az Nat)(i:Int)(ep:az Nat)(e:CT)(xs:aw e.D),x=.sl (.holed tag i ep) e xs->False):fp=[]:=by
 cases x with
 |int k n=>exact h.2
 |bool b=>exact h.2
 |str s=>exact h.2
 |nilsl=>exact h.2
 |fn f=>exact h.2
 |un=>exact h.2
 |bot=>exact h
 |ptr s off=>exact h.2.2
 |elt fl e y i off=>cases fl with|own t=>exact h.elim|nest _ _ _ _ _ _=>exact h.elim|part _ _ _ _=>exact h.elim|holed _ _ _=>exact h.elim|arg _=>exact h.1|loc ep pv=>exact h.1
 |sl fl e xs=>cases fl with|own t=>exact(hno _ _ _ rfl).elim|nest _ _ _ _ _ _=>exact h.1|part _ _ _ _=>exact h.1|holed _ _ _=>exact(hno2 _ _ _ _ _ rfl).elim|arg _=>exact h.1|loc ep pv=>exact h.1
theorem oa.mask (h:oa C st a w)(keep:fu):oa C (st.mask keep) a w:=by
 obtain⟨g,h⟩:=h;let g':Gh:={g with hdr:=Cb C.ioV st a w g.β}
 have hpres:∀s,keep.contains s=true->jq st s->jq (st.mask keep) s:=by rintro s hk ⟨cs,hs⟩;refine⟨Ij keep st.ep st.io (.box s) 0 cs,?_⟩;show(nD keep st.ep st.io 0 st.boxes)[s]?=_;rw[Bn,hs];simp only[dB,cw,aE hk]
 obtain⟨fpi,hri,hni,hli⟩:=h.io;have hioq:∀j v,C.ioV[j]?=some v->∀q,(kG.io j).DZ=some q->mM (st.mask keep) q/\v=Cb C.ioV st a w g.β q:=by
  intro j v hv q hq;simp only[kG.DZ]at hq;cases hb:Nat.ble 4096 j with
  |true=>rw[hb]at hq;cases hq
  |false=>
   rw[hb]at hq;simp only[af,br,Zq]at hq;have hj:j<4096:=by rcases cq j 4096 with hlt|hge;exact hlt;rw[ic hge]at hb;cases hb
   have h0:q%3=0:=by omega
   have h1:q/3/4096=1000003:=by omega
   have h2:q/3%4096=j:=by omega
   refine⟨.inl (by omega),?_⟩;rw[Cb,aE ⟨h0,h1⟩,h2,hv];rfl
 have hseen:V4 (dc C g st w) (dc C g' (st.mask keep) w) st.io:=by
  intro j n e ys hnow;unfold AC.ad4 at hnow;split at hnow;rename_i t' e' ys' hj;split at hnow;rename_i he;subst he;cases ht:(t'==n)with
  |false=>rw[ht]at hnow;cases hnow
  |true=>
   rw[ht]at hnow;have:t'=n:=by simpa using ht
   subst this;cases hnow;rw[ei]at hj;obtain⟨v,f,hv,hr,_⟩:=hri.get j _ hj;exact⟨v,f,hr.1,(hr.2 t' rfl).2,λq hq=>hioq j v hv q hq⟩
  cases hnow;cases hnow
 have hmio:∀(j:Nat){vs:iS}{xs:aw AC}{fp:fu},bR (dc C g st w) vs xs fp->(∀i v,vs[i]?=some v->C.ioV[j+i]?=some v)->bR (dc C g' (st.mask keep) w) vs (Xx keep j xs) fp:=by
  intro j vs
  induction vs generalizing j with
  |nil=>intro xs fp hr _;cases xs with
   |nil=>exact hr
   |cons _ _=>exact hr.elim
  |cons v vs ih=>
   intro xs fp hr hv
   cases xs with
   |nil=>exact hr.elim
   |cons x xs=>
    obtain⟨f1,f2,rfl,r1,r2⟩:=hr
    refine⟨f1,f2,rfl,?_,ih (j+1) r2 (λi u hu=>by rw[show j+1+i=j+(i+1) by omega];exact hv (i+1) u (by simpa using hu))⟩
    have hv0:=hv 0 v rfl
    rw[eG]at hv0
    split
    ·rename_i tg e ys
     exact⟨r1.1,λq hq=>hioq j v hv0 q hq⟩
    ·rename_i tag i ep e ys
     obtain⟨_,⟨k,hk,h3⟩,_⟩:=r1
     exact⟨λq hq=>(by cases hq),⟨k,hk,h3⟩,by simp⟩
    ·rename_i s off
     split
     ·rename_i hk
      exact⟨r1.1,hpres s hk r1.2.1,r1.2.2⟩
     ·exact r1.2.2
    ·rename_i hno hno2 _
     cases hfl:x.jE with
     |true=>
      obtain⟨rfl,k⟩:=re (c':=dc C g' (st.mask keep) w) r1 hfl
      exact k
     |false=>exact ael r1 hno hno2
 refine⟨g',h.defers,?_,?_,λi av hi=>?_,λs cs hs=>?_,λk v av hk=>by simp at hk,h.labs,h.frame,⟨fpi,hmio 0 hri (λi v hv=>by rw[cw];exact hv),hni,hli⟩⟩;show _=(nE keep st.ep st.io 0 st.slots).length;rw[wo];exact h.size;show(nD keep st.ep st.io 0 st.boxes).length=(nE keep st.ep st.io 0 st.slots).length;rw[wo,BL];exact h.bsize;have hi':(nE keep st.ep st.io 0 st.slots)[i]?=some av:=hi;rw[E2,cw]at hi';cases hv:st.slots[i]? with
 |none=>rw[hv]at hi';cases hi'
 |some x=>
  rw[hv]at hi';simp only[dB,br]at hi';split at hi'
  ·subst hi'
   cases hx:x with
   |tup ts=>exact⟨[],gE.bot _ _,by simp,by simp⟩
   |val gg cs=>
    rw[hx]at hv
    obtain⟨fp,⟨vs,hcut,hr⟩,hn,hl⟩:=h.slots i _ hv
    refine⟨fp,⟨vs,hcut,FJ (io:=st.io) hseen (c:=dc C g st w) (c':=dc C g' (st.mask keep) w) rfl rfl rfl rfl rfl hpres 0 hr ?_⟩,hn,hl⟩
    intro j u hu t ht
    simp only[cw,kG.DZ]at ht
    cases hb:Nat.ble 4096 j with
    |true=>rw[hb]at ht;cases ht
    |false=>
     rw[hb]at ht
     simp only[af]at ht
     cases hbs:Nat.ble 1000000 i with
     |true=>rw[hbs]at ht;cases ht
     |false=>
     rw[hbs]at ht
     simp only[af,br]at ht
     have hi6:i<1000000:=by rcases cq i 1000000 with hlt|hge;exact hlt;rw[ic hge]at hbs;cases hbs
     have hj:j<4096:=by rcases cq j 4096 with hlt|hge;exact hlt;rw[ic hge]at hb;cases hb
     have h0:t%3=0:=by omega
     have h1:t/3/4096=i:=by omega
     have h2:t/3%4096=j:=by omega
     refine⟨.inl (by omega),?_⟩
     show u=Cb C.ioV st a w g.β t
     rw[Cb,nf,aE h0,h1,h2,get_eq hv,Ww hcut,hu];rfl
  subst hi';exact⟨[],gE.bot _ _,by simp,by simp⟩
 have hs':(nD keep st.ep st.io 0 st.boxes)[s]?=some (some cs):=hs;rw[Bn,cw]at hs';cases hv:st.boxes[s]? with
 |none=>rw[hv]at hs';cases hs'
 |some x=>
  rw[hv]at hs';simp only[dB,br]at hs';split at hs';cases hx:x with
  |none=>rw[hx]at hs';cases hs'
  |some xs=>
   rw[hx]at hs' hv;simp only[dB,br]at hs';subst hs';obtain⟨arr,T,fr,fp,hb,hth,hr,hn,hni,hl,hl0,hw0⟩:=h.boxes s xs hv;refine⟨arr,T,fr,fp,hb,hth,FJ (io:=st.io) hseen (c:=dc C g st w) (c':=dc C g' (st.mask keep) w) rfl rfl rfl rfl rfl hpres 0 hr ?_,hn,hni,hl,hl0,hw0⟩;intro j u hu t ht;simp only[cw,kG.DZ]at ht;cases hbb:Nat.ble 4096 j with
   |true=>rw[hbb]at ht;cases ht
   |false=>
    rw[hbb]at ht;simp only[af,br]at ht;have hj:j<4096:=by rcases cq j 4096 with hlt|hge;exact hlt;rw[ic hge]at hbb;cases hbb
    have h0:¬t%3=0:=by omega
    have h1:t/3/4096=s:=by omega
    have h2:t/3%4096=j:=by omega
    refine⟨.inl (by omega),?_⟩;show u=Cb C.ioV st a w g.β t;rw[Cb,nf,aD h0,h1,h2,hb];simp only;rw[hu];rfl
  cases hs'
structure jd (ds:List Nat) (st st':AS):Prop where
 len:st'.slots.length=st.slots.length
 slot:∀i,i∉ds->st'.slots[i]?=st.slots[i]?
 boxes:st'.boxes=st.boxes
 ep:st'.ep=st.ep
 iss:∀i,i∉ds->nth st'.iss i=nth st.iss i
 ilen:st'.iss.length=st.iss.length
 io:st'.io=st.io
theorem jd.refl (ds:fu)(st:AS):jd ds st st:=⟨rfl,λ_ _=>rfl,rfl,rfl,λ_ _=>rfl,rfl,rfl⟩
theorem jd.trans {st st1 st2:AS}(h:jd ds st st1)(k:jd ds st1 st2):jd ds st st2:=⟨k.len.trans h.len,λi hi=>(k.slot i hi).trans (h.slot i hi),k.boxes.trans h.boxes,k.ep.trans h.ep,λi hi=>(k.iss i hi).trans (h.iss i hi),k.ilen.trans h.ilen,k.io.trans h.io⟩
theorem jd.put {st:AS}(hd:∀i,d=some i->i∈ds)(v:AV):jd ds st (st.put d v):=by cases d with|none=>exact jd.refl _ _|some d=>refine⟨by rw[gq,aB],λi hi=>?_,kH,HT,λi _=>by rw[Rt],by rw[Rt],H9⟩;rw[gq,aP];rintro rfl;exact hi (hd _ rfl)
theorem jd.fR {st:AS}(hd:∀i,d=some i->i∈ds):jd ds st (st.fR d):=by cases d with|none=>exact jd.refl _ _|some d=>refine⟨rfl,λi _=>rfl,rfl,rfl,λi hi=>?_,?_,rfl⟩;simp only[AS.fR,ei,fP];rw[aP];rintro rfl;exact hi (hd _ rfl);simp only[AS.fR,fP,aB]
theorem uf {α:Type}{o:az α}{k:α->az AS}{st':AS}(h:aa o k=some st')(hk:∀x,k x=some st'->jd ds st st'):jd ds st st':=by cases o with|none=>cases h|some x=>exact hk x h
theorem abE {n:Nat}{k:az AS}{st':AS}(h:room n k=some st')(hk:k=some st'->jd ds st st'):jd ds st st':=by unfold room at h;split at h;exact hk h;cases h
theorem XG {op:BinOp}{k:IntKind}{x y:Int}{K:AC->az AS}{st':AS}(h:GV op k x y K=some st')(hk:∀z,K z=some st'->jd ds st st'):jd ds st st':=by
 unfold GV at h
 split at h<;>first
  |exact hk _ h
  |(split at h
    ·cases h
    ·exact hk _ h)
  |cases h
theorem XH {op:BinOp}{x y:aw UInt8}{K:AC->az AS}{st':AS}(h:JA op x y K=some st')(hk:∀z,K z=some st'->jd ds st st'):jd ds st st':=by
 unfold JA at h
 split at h<;>first
  |exact abE h (hk _)
  |exact hk _ h
  |cases h
theorem Iq {op:BinOp}{x y:AV}{K:AC->az AS}{st':AS}(h:EH op x y K=some st')(hk:∀z,K z=some st'->jd ds st st'):jd ds st st':=by unfold EH at h;split at h;split at h;split at h;cases h;exact hk _ h;split at h;cases h;exact hk _ h;split at h;exact XG h hk;cases h;exact XH h hk;split at h;exact hk _ h;exact hk _ h;cases h;split at h;exact uf h λb hb=>hk _ hb;exact uf h λb hb=>hk _ hb;cases h;cases h
theorem G4 {lo hi:az Operand}{n:Nat}{K:Int->Int->az AS}{st0 st':AS}(h:mO st0 lo hi n K=some st')(hk:∀x y,K x y=some st'->jd ds st st'):jd ds st st':=by
 unfold mO at h
 split at h<;>first
  |exact hk _ _ h
  |cases h
theorem Mn {op:BinOp}{b:Bool}{K:AC->az AS}{st':AS}(h:CS op b K=some st')(hk:∀c,K c=some st'->jd ds st st'):jd ds st st':=by unfold CS at h;split at h;exact hk _ h;exact hk _ h;cases h
theorem OY {E:Env}(hΓ:∀f,(Γ f).io=false/\(Γ f).bx=false/\(Γ f).pr=false){an:An}{o:Oper}{st':AS}(hq:gT an ds o=true)(hd:∀i,o.dst=some i->i∈ds)(h:cW E Γ an o st some=some st'):jd ds st st':=by
 have hput:∀v,some (st.put o.dst v)=some st'->jd ds st st':=λv hv=>by cases hv;exact jd.put hd v
 unfold cW at h;split at h;rename_i x ho;simp only[gT,ho]at hq;unfold BM at h;cases hdd:o.dst with
 |none=>rw[hdd]at h;cases h
 |some d=>
  rw[hdd]at h hq;simp only at h hq;have hf:an.mv.contains d=false:=by simpa using hq
  rw[hf]at h;simp only[bj,cu]at h;cases h;exact jd.put (λi hi=>hd i (by rw[hdd];exact hi)) _
 rename_i x ho;have hlate:zT an o=false\/∃y,x=y/\(∀v,y≠ .const v)/\(∀t,y≠ .tmp t):=by cases x with|tmp t=>left;simp only[gT,ho,ae,aJ]at hq;exact hq.2|const v=>left;simpa only[gT,ho,aJ]using hq|func f=>simp[gT,ho]at hq|global g=>simp[gT,ho]at hq
 have hlate:zT an o=false:=by rcases hlate with h1|⟨y,rfl,h1,h2⟩;exact h1;cases x with|tmp t=>exact absurd rfl (h2 t)|const v=>exact absurd rfl (h1 v)|func f=>simp[gT,ho]at hq|global g=>simp[gT,ho]at hq
 simp only[gT,ho]at hq;rw[aD (by simp[hlate])]at h;unfold uI at h;have hx:jd ds st (st.take x).2:=by
  cases x with
  |tmp t=>
   have ht:t∈ds:=by simp only[ae]at hq;simpa using hq.1
   exact jd.put (d:=some t) (λi hi=>by cases hi;exact ht) _
  |const v=>exact jd.refl _ _
  |func f=>exact jd.refl _ _
  |global g=>exact jd.refl _ _
 split at h;split at h;exact hput _ h;cases h;rename_i v st1 _ htk;cases h;have:(st.take x).2=st1:=by rw[htk]
 rw[this]at hx;exact hx.trans (jd.put hd _);unfold DH at h;split at h;rename_i t _;split at h;exact hput _ h;cases t with|true=>exact hput _ h|false=>exact hput _ h
 cases h;rename_i ho;simp[gT,ho]at hq;rename_i ho;simp[gT,ho]at hq;rename_i T p ho;simp only[gT,ho]at hq;have htk:D4 an o=false:=by unfold D4;cases hdd:o.dst with|none=>rfl|some d=>rw[hdd]at hq;simp only[aJ]at hq;simp only[hq,dN]
 unfold ph at h;split at h;split at h;split at h;split at h;rename_i d hdd;rw[hdd]at hq;simp only at hq;have hf:an.mv.contains d=false:=by simpa using hq
 rw[hf]at h;simp only[bj,cu]at h;exact hput _ h;cases h;cases h;cases h;rw[aD (by simp[htk])]at h;split at h;split at h;exact hput _ h;cases h;unfold Cw at h;split at h;split at h;split at h;split at h;obtain⟨y,_,h⟩:=KI h;exact hput _ h;cases h;cases h;cases h;cases h;cases h;rename_i ho;simp[gT,ho]at hq;split at h;exact hput _ h;exact hput _ h;cases h;unfold Ay at h;split at h;split at h;exact Iq h λz hz=>hput _ hz;cases h;split at h;split at h;exact Iq h λz hz=>hput _ hz;cases h;cases h;split at h;split at h;cases h;exact Mn h λz hz=>hput _ hz;cases h;split at h;exact Mn h λz hz=>hput _ hz;cases h;exact Iq h λz hz=>hput _ hz;unfold unC at h;split at h;exact hput _ h;exact hput _ h;exact hput _ h;cases h;unfold zH at h;split at h;split at h;exact hput _ h;cases h;split at h;exact hput _ h;cases h;cases h;unfold mE at h;split at h;split at h;exact uf h λy hy=>hput _ hy;cases h;cases h;unfold Bm at h;split at h;split at h;exact uf h λy hy=>hput _ hy;cases h;cases h;rename_i T parts ho;simp only[gT,ho]at hq;have he:parts=#[]:=by simpa using hq
 subst he;unfold Bh at h;split at h;simp only[fE,List.map_nil]at h;split at h;exact hput _ h;cases h;cases h;rename_i ho;simp[gT,ho]at hq;rename_i ho;simp[gT,ho]at hq;rename_i ho;simp only[gT,ho,aJ]at hq;unfold Af at h;rw[aD (by simp[hq])]at h;split at h;split at h;exact G4 h λx y hxy=>uf hxy λz hz=>hput _ hz;cases h;split at h;exact G4 h λx y hxy=>uf hxy λz hz=>hput _ hz;cases h;cases h;rename_i ho;simp[gT,ho]at hq;rename_i ho;simp[gT,ho]at hq;rename_i ho;simp[gT,ho]at hq;rename_i ho;simp[gT,ho]at hq;unfold Mg at h;split at h;split at h;exact hput _ h;cases h;split at h;exact hput _ h;cases h;cases h;unfold NJ at h;split at h;exact hput _ h;cases h;unfold NI at h;split at h;exact hput _ h;cases h;rename_i ho;simp[gT,ho]at hq;unfold CR at h;split at h;rename_i k _;rw[(hΓ k).2.1,(hΓ k).2.2,(hΓ k).1]at h;simp only[af]at h;refine uf h λy hy=>?_;cases hsel:(Γ k).sel y with|true=>rw[hsel]at hy;cases hy;exact(jd.fR hd).trans (jd.put hd _)|false=>rw[hsel]at hy;cases hy;exact(jd.fR hd).trans (jd.put hd _)
 cases h;cases h
theorem UK {ops:aw Oper}{o:Oper}(ho:o∈ops){i:Nat}(hi:o.dst=some i):i∈Fs ops:=List.mem_filterMap.2 ⟨o,ho,hi⟩
theorem Mo {E:Env}(hΓ:∀f,(Γ f).io=false/\(Γ f).bx=false/\(Γ f).pr=false){an:An}{ops:aw Oper}{o:Oper}{st':AS}(ho:o∈ops)(hq:gT an (Fs ops) o=true)(h:gP E Γ an ops o st some=some st'):jd (Fs ops) st st':=by
 have hd:∀i,o.dst=some i->i∈Fs ops:=λi hi=>UK ho hi;unfold gP at h;split at h;exact OY hΓ hq hd h;rename_i j want hg;split at h;rename_i d hdd;have hdm:d∈Fs ops:=by rw[ei]at hdd;cases ho':ops[j]? with|none=>rw[ho']at hdd;cases hdd|some o'=>rw[ho']at hdd;exact UK (aX ho') hdd
 have hp:∀t,jd (Fs ops) st (st.put (some d) (.one (.bool t))):=λt=>jd.put (λi hi=>by cases hi;exact hdm) _;split at h;rename_i b hb;have main:∀t,(if(t==want)=true then cW E Γ an o (st.put (some d) (.one (.bool t))) some else some ((st.put (some d) (.one (.bool t))).put o.dst (.one .un)))=some st'->jd (Fs ops) st st':=by intro t ht;split at ht;exact(hp t).trans (OY hΓ hq hd ht);cases ht;exact(hp t).trans (jd.put hd _)
 cases b with|true=>exact main true h|false=>exact main false h
 cases h;exact jd.put hd _;cases h;cases h
theorem UT {E:Env}{Γ:dK}(hΓ:∀f,(Γ f).io=false/\(Γ f).bx=false/\(Γ f).pr=false){an:An}{ops:aw Oper}(hq:∀o∈ops,gT an (Fs ops) o=true):∀(l:aw Oper)(st st':AS),(∀o∈l,o∈ops)->RF E Γ an ops l st some=some st'->jd (Fs ops) st st'
 |[],st,st',_,h=>by cases h;exact jd.refl _ _
 |o::l,st,st',hl,h=>by simp only[RF]at h;rw[qC]at h;cases hg:gP E Γ an ops o st some with|none=>rw[hg]at h;cases h|some st1=>rw[hg]at h;exact(Mo hΓ (hl o (by simp)) (hq o (hl o (by simp))) hg).trans (UT hΓ hq l st1 st' (λo' ho'=>hl o' (by simp[ho'])) h)
theorem Fq {ds:fu}:∀(l:fu)(st:AS),(∀i∈l,i∈ds)->jd ds st (st.AL l)
 |[],st,_=>jd.refl _ _
 |d::l,st,h=>by
  have hd:∀i,some d=some i->i∈ds:=λi hi=>by cases hi;exact h d (by simp)
  exact((jd.put hd _).trans (jd.fR hd)).trans (Fq l _ (λi hi=>h i (by simp[hi])))
theorem Od:∀(l:fu)(st:AS)(i:Nat)(av:AV),(st.AL l).slots[i]?=some av->i∈l\/st.slots[i]?=some .bot->av=.bot
 |[],st,i,av,h,hi=>by rcases hi with hi|hi;cases hi;have:st.slots[i]?=some av:=h;rw[hi]at this;cases this;rfl
 |d::l,st,i,av,h,hi=>by
  refine Od l _ i av h ?_;by_cases hil:i∈l;exact .inl hil;refine .inr ?_;rw[uC,gq,bH];have hlt:i<st.slots.length:=by
   have h1:=(Fq (ds:=d::l) l ((st.put (some d) .bot).fR (some d)) (λi hi=>by simp[hi])).len;have h2:=(aC.1 h).1;have h3:(AS.AL ((st.put (some d) .bot).fR (some d)) l).slots.length=st.slots.length:=by rw[h1,uC,gq,aB]
   have h4:i<(AS.AL ((st.put (some d) .bot).fR (some d)) l).slots.length:=h2;omega
  split;rename_i hdi;subst hdi;rw[aE hlt];rename_i hdi;rcases hi with hi|hi;simp only[bQ]at hi;rcases hi with hi|hi;exact absurd hi.symm hdi;exact absurd hi hil;exact hi
theorem Oe:∀(l:fu)(st:AS)(i:Nat),i∈l\/(nth st.iss i).getD true=true->(nth (st.AL l).iss i).getD true=true
 |[],st,i,hi=>by rcases hi with hi|hi;cases hi;exact hi
 |d::l,st,i,hi=>by refine Oe l _ i ?_;by_cases hil:i∈l;exact .inl hil;refine .inr ?_;have he:(AS.fR (st.put (some d) .bot) (some d)).iss=ir st.iss d true:=rfl;rw[he,fP,ei,bH];split;split<;>rfl;rename_i hdi;rcases hi with hi|hi;simp only[bQ]at hi;rcases hi with hi|hi;exact absurd hi.symm hdi;exact absurd hi hil;rw[ei]at hi;exact hi
theorem oa.weaken {st':AS}(h:oa C st' a w)(hn:jd ds st st'){s:Nat}{b:Bool}(hb:getBool st' s=some b):oa C ((st.AL ds).put (some s) (.one (.bool b))) a w:=by
 have hbs:st'.get s=.val false [.bool b]:=by unfold getBool at hb;split at hb;rename_i b' hg;cases hb;exact hg;cases hb
 have hkn:=h.known hbs;obtain⟨g,h⟩:=h;have hdn:=Fq (ds:=ds) ds st (λ_ hi=>hi);have hboxes:((st.AL ds).put (some s) (.one (.bool b))).boxes=st'.boxes:=by rw[kH,hdn.boxes,hn.boxes]
 have hep:((st.AL ds).put (some s) (.one (.bool b))).ep=st'.ep:=by rw[HT,hdn.ep,hn.ep]
 have hlen:((st.AL ds).put (some s) (.one (.bool b))).slots.length=st'.slots.length:=by rw[gq,aB,hdn.len,hn.len]
 have hiss:∀t,mM st' t->mM ((st.AL ds).put (some s) (.one (.bool b))) t:=by intro t ht;rw[GY];rcases ht with ht|ht;exact .inl ht;refine .inr (Oe ds st _ ?_);by_cases hi:t/3/4096∈ds;exact .inl hi;exact .inr (by rw[<-hn.iss _ hi];exact ht)
 have hpres:∀s',jq st' s'->jq ((st.AL ds).put (some s) (.one (.bool b))) s':=λs' hs=>by unfold jq at hs⊢;rw[hboxes];exact hs
 have hle:(dc C g st' w).Le (dc C g ((st.AL ds).put (some s) (.one (.bool b))) w):=⟨rfl,λt ht=>⟨hiss t ht,rfl⟩,λ_ _ _ _ _ hv=>hv,by show st'.ep<=_;rw[<-hep];exact bh _,λs' hs=>⟨hpres s' hs,rfl⟩,λ_ b o u ho hu=>⟨ho,hu⟩⟩
 refine⟨g,h.step (λ_=>True) hle h.defers (by rw[hlen];exact h.size) (by rw[hboxes,hlen];exact h.bsize) h.frame h.labs (λb x _ hx=>⟨hx,rfl,rfl⟩) ?_ ?_ ?_ (.inl ⟨cx,by rw[H9,hdn.io,hn.io]⟩)⟩;intro i av hi;rw[gq,bH]at hi;split at hi;rename_i hsi;subst hsi;split at hi;cases hi;refine .inr ⟨[],mF ?_,by simp,by simp⟩;exact⟨hkn,rfl⟩;cases hi;by_cases hid:i∈ds;have:=Od ds st i av hi (.inl hid);subst this;exact .inr ⟨[],gE.bot _ _,by simp,by simp⟩;rw[hdn.slot i hid]at hi;exact .inl ⟨cx,by rw[hn.slot i hid];exact hi,rfl⟩;intro s' cs hs;rw[hboxes]at hs;exact .inl ⟨cx,hs,rfl⟩;intro k v av hk;simp at hk
theorem agJ (Γ:dK)(f:Nat):(Γ.calm f).io=false/\(Γ.calm f).bx=false/\(Γ.calm f).pr=false:=by unfold dK.calm;cases h:(Γ f).io with|true=>exact⟨rfl,rfl,rfl⟩|false=>cases h2:(Γ f).bx with|true=>exact⟨rfl,rfl,rfl⟩|false=>cases h3:(Γ f).pr with|true=>exact⟨rfl,rfl,rfl⟩|false=>exact⟨h,h2,h3⟩
theorem ah6 (Γ:dK)(f:Nat):(Γ.FZ f).io=false/\((Γ.FZ f).bx=true->(Γ.FZ f).cur=true)/\(Γ.FZ f).pr=false:=by unfold dK.FZ;cases h:(Γ f).io with|true=>exact⟨rfl,λh=>(by cases h),rfl⟩|false=>cases h3:(Γ f).pr with|true=>exact⟨rfl,λh=>(by cases h),rfl⟩|false=>cases h2:(Γ f).bx with|false=>exact⟨h,λh=>(by simp[h2]at h),h3⟩|true=>cases h4:(Γ f).cur with|true=>exact⟨h,λ_=>h4,h3⟩|false=>exact⟨rfl,λh=>(by cases h),rfl⟩
theorem ah7 (hΓ:∀f,(Γ f).io=false/\(Γ f).bx=false/\(Γ f).pr=false)(f:Nat):(Γ.FZ f).io=false/\(Γ.FZ f).bx=false/\(Γ.FZ f).pr=false:=by have h:=hΓ f;unfold dK.FZ;rw[h.1,h.2.1,h.2.2];exact h
theorem Sound.FZ {E:Env}(h:Sound P E Γ):Sound P E Γ.FZ:=by refine⟨h.ty,h.eqs,h.fts,λf=>?_,h.mixed⟩;unfold dK.FZ;cases (Γ f).io||(Γ f).pr||((Γ f).bx&& !(Γ f).cur)with|true=>intro xs y hy;cases hy|false=>exact h.fns f
theorem Sound.calm {E:Env}(h:Sound P E Γ):Sound P E Γ.calm:=by refine⟨h.ty,h.eqs,h.fts,λf=>?_,h.mixed⟩;unfold dK.calm;cases (Γ f).io with|true=>intro xs y hy;cases hy|false=>cases (Γ f).bx with|true=>intro xs y hy;cases hy|false=>cases (Γ f).pr with|true=>intro xs y hy;cases hy|false=>exact h.fns f
end Go.Dn
