import Derived.Test.YtainmjjkipbciaaGreatDnDen
import Derived.Test.YtainmjjkipbciaaGreatDnNat
/- What is kept at a loop's door; what a region whose ways meet again leaves. -/
namespace Go.Dn
open Go.RowKit
variable {P:Program} {C:Ctx} {st:AS} {a:Act} {w:World} {R:Type} {r:R}
variable {Γ:eE} {v:Value} {d:aB Nat} {ds:fF}
theorem Da (keep:fF)(ep:Nat)(io:ax AC):∀(l:ax AV)(n i:Nat),(mZ keep ep io n l)[i]?=(l[i]?).map λv=>if keep.contains (n+i) then v.mask keep ep io (n+i) else .bot
 |[],n,i=>by simp[mZ]
 |v::l,n,0=>by simp[mZ]
 |v::l,n,i+1=>by simp only[mZ,fz];rw[Da keep ep io l (n+1) i,show n+1+i=n+(i+1) by omega]
theorem yW (keep:fF)(ep:Nat)(io:ax AC):∀(l:ax (aB (ax AC)))(n i:Nat),(mY keep ep io n l)[i]?=(l[i]?).map λb=>if keep.contains (n+i) then b.map (FU keep ep io (.box (n+i)) 0) else none
 |[],n,i=>by simp[mY]
 |v::l,n,0=>by simp[mY]
 |v::l,n,i+1=>by simp only[mY,fz];rw[yW keep ep io l (n+1) i,show n+1+i=n+(i+1) by omega]
theorem uE (keep:fF)(ep:Nat)(io:ax AC):∀(l:ax AV)(n:Nat),(mZ keep ep io n l).length=l.length
 |[],_=>rfl
 |_::l,n=>by simp[mZ,uE keep ep io l]
theorem zJ (keep:fF)(ep:Nat)(io:ax AC):∀(l:ax (aB (ax AC)))(n:Nat),(mY keep ep io n l).length=l.length
 |[],_=>rfl
 |_::l,n=>by simp[mY,zJ keep ep io l]
def Sy:Value->AV->iS
 | .agg vs,.val true _=>vs.toList
 |v,_=>[v]
theorem SC {g:Bool}{vs:iS}{cs:ax AC}(h:Cut g v vs):Sy v (.val g cs)=vs:=by cases g with|true=>simp only[Cut,bU]at h;subst h;simp[Sy]|false=>simp only[Cut]at h;subst h;cases v<;>rfl
def Ag (ioV:iS)(st:AS)(a:Act)(w:World)(β:Nat->Nat)(t:Nat):Value:=
 if t%3=0/\t/3/4096=1000003 then(ioV[t/3%4096]?).getD undef
 else if t%3=0 then((Sy (a.tmps.getD (t/3/4096) undef) (st.get (t/3/4096)))[t/3%4096]?).getD undef
 else match w.heap[β (t/3/4096)]? with
  |some (.cells arr _ _)=>(arr.toList[t/3%4096]?).getD undef
  |_=>undef
def Sg (c c':RC)(io:ax AC):Prop:=∀j n (e:CT)(ys:ax e.D),AC.ZC io j n e=some ys->∃v0 fp0,fP c.hw c.w (.sl e) [v0] ys fp0/\v0=c.hdr n/\∀q,(kv.io j).B7=some q->c'.iss q/\v0=c'.hdr q
theorem W5 {c c':RC}{io:ax AC}(hio:Sg c c' io){keep:fF}{rt:kv}{x:AC}{fp:fF}(h:hG c v x fp)(hhw:c'.hw=c.hw)(hw:c'.w=c.w)(hA:c'.A=c.A)(hep:c'.ep=0)(hβ:c'.β=c.β)(hpres:∀s,keep.contains s=true->c.pres s->c'.pres s)(hst:∀t,rt.B7=some t->c'.iss t/\v=c'.hdr t):hG c' v (x.mask keep c.ep io rt) fp:=by
 have hS:c'.S=c.S:=by funext b o;simp[RC.S,hhw,hA]
 cases x with
 |int k n=>exact h
 |bool b=>exact h
 |str s=>exact h
 |nilsl=>exact h
 |fn f=>exact h
 |un=>exact h
 |bot=>exact h
 |ptr s off=>simp only[AC.mask];split;rename_i hk;exact⟨by rw[hβ];exact h.1,hpres s hk h.2.1,h.2.2⟩;exact h.2.2
 |elt fl e y i off=>cases fl with|own t=>exact h.elim|nest _ _ _ _ _ _=>exact h.elim|part _ _ _ _=>exact h.elim|holed _ _ _=>exact h.elim|arg _=>exact h.1|loc ep pv=>exact h.1
 |sl fl e xs=>
  cases fl with
  |own t=>exact⟨fP.mono h.1 (λb _=>⟨by rw[hw],by rw[hhw]⟩),hst⟩
  |nest _ _ _ _ _ _=>exact h.1
  |part _ _ _ _=>exact h.1
  |holed _ _ _=>obtain⟨_,⟨k,hk,h3⟩,_⟩:=h;exact⟨λq hq=>(by cases hq),⟨k,hk,h3.mono (λb hb=>⟨by rw[hw],by rw[hhw]⟩)⟩,by simp⟩
  |arg _=>exact⟨h.1,by rw[hA,hw];exact h.2⟩
  |loc ep pv=>
   obtain⟨h1,h2,h3,h4,h5⟩:=h;have plain:hG c' v (if(ep==c.ep)=true then AC.sl (.loc 0 none) e xs else .bot) fp:=by split;rename_i he;refine⟨h1,by rw[hep];exact aR _,h3,λ_=>?_,by simp⟩;rw[hS,hw];exact h4 (by simpa using he);exact h1
   simp only[AC.mask];split;rename_i j n;split;rename_i ys hnow;obtain⟨v0,fp0,hown,hv0,hq⟩:=hio j n e ys hnow;obtain⟨_,k2⟩:=h5 _ _ rfl;have hv:v0=v:=hv0.trans k2.symm;subst hv;refine⟨h1,by rw[hep];exact aR _,JU hown,λ_=>?_,λr t hp=>?_⟩;rw[hS,hw];exact fP.rep (λb o ho=> .inr ho) hown;cases hst':(kv.io j).B7 with|none=>rw[hst']at hp;cases hp|some q=>rw[hst']at hp;simp at hp;obtain⟨_,rfl⟩:=hp;exact⟨(hq q hst').1,(hq q hst').2⟩
   exact plain;exact plain
theorem DL {c c':RC}{io:ax AC}(hio:Sg c c' io){keep:fF}{f:Nat->kv}(hhw:c'.hw=c.hw)(hw:c'.w=c.w)(hA:c'.A=c.A)(hep:c'.ep=0)(hβ:c'.β=c.β)
 (hpres:∀s,keep.contains s=true->c.pres s->c'.pres s):∀{vs:iS}{xs:ax AC}{fp:fF}(j:Nat),bO c vs xs fp->
  (∀i v,vs[i]?=some v->∀t,(f (j+i)).B7=some t->c'.iss t/\v=c'.hdr t)->bO c' vs (FU keep c.ep io f j xs) fp
 |[],[],_,_,h,_=>h
 |v::_,_::_,_,j,h,hm=>by obtain⟨f1,f2,rfl,h1,h2⟩:=h;exact⟨f1,f2,rfl,W5 hio h1 hhw hw hA hep hβ hpres (λt ht=>hm 0 v rfl t ht),DL hio hhw hw hA hep hβ hpres (j+1) h2 (λi u hu t ht=>hm (i+1) u (by simpa using hu) t (by rwa[show j+(i+1)=j+1+i by omega]))⟩
 |[],_::_,_,_,h,_=>h.elim
 |_::_,[],_,_,h,_=>h.elim
theorem ZS {c:RC}{x:AC}{fp:fF}(h:hG c v x fp)(hno:∀(tag:aB Nat)(e:CT)(xs:ax e.D),x=.sl (.own tag) e xs->False)(hno2:∀(tag:aB Nat)(i:Int)(ep:aB Nat)(e:CT)(xs:ax e.D),x=.sl (.holed tag i ep) e xs->False):fp=[]:=by
 cases x with
 |int k n=>exact h.2
 |bool b=>exact h.2
 |str s=>exact h.2
 |nilsl=>exact h.2
 |fn f=>exact h.2
 |un=>exact h.2
 |bot=>exact h
 |ptr s off=>exact h.2.2
 |elt fl e y i off=>cases fl with|own t=>exact h.elim|nest _ _ _ _ _ _=>exact h.elim|part _ _ _ _=>exact h.elim|holed _ _ _=>exact h.elim|arg _=>exact h.1|loc ep pv=>exact h.1
 |sl fl e xs=>cases fl with|own t=>exact(hno _ _ _ rfl).elim|nest _ _ _ _ _ _=>exact h.1|part _ _ _ _=>exact h.1|holed _ _ _=>exact(hno2 _ _ _ _ _ rfl).elim|arg _=>exact h.1|loc ep pv=>exact h.1
theorem nz.mask (h:nz C st a w)(keep:fF):nz C (st.mask keep) a w:=by
 obtain⟨g,h⟩:=h;let g':Gh:={g with hdr:=Ag C.ioV st a w g.β}
 have hpres:∀s,keep.contains s=true->jf st s->jf (st.mask keep) s:=by rintro s hk ⟨cs,hs⟩;refine⟨FU keep st.ep st.io (.box s) 0 cs,?_⟩;show(mY keep st.ep st.io 0 st.boxes)[s]?=_;rw[yW,hs];simp only[dz,cD,aH hk]
 obtain⟨fpi,hri,hni,hli⟩:=h.io;have hioq:∀j v,C.ioV[j]?=some v->∀q,(kv.io j).B7=some q->mn (st.mask keep) q/\v=Ag C.ioV st a w g.β q:=by
  intro j v hv q hq;simp only[kv.B7]at hq;cases hb:Nat.ble 4096 j with
  |true=>rw[hb]at hq;cases hq
  |false=>
   rw[hb]at hq;simp only[af,bj,Vh]at hq;have hj:j<4096:=by rcases ca j 4096 with hlt|hge;exact hlt;rw[hU hge]at hb;cases hb
   have h0:q%3=0:=by omega
   have h1:q/3/4096=1000003:=by omega
   have h2:q/3%4096=j:=by omega
   refine⟨.inl (by omega),?_⟩;rw[Ag,aH ⟨h0,h1⟩,h2,hv];rfl
 have hseen:Sg (cW C g st w) (cW C g' (st.mask keep) w) st.io:=by
  intro j n e ys hnow;unfold AC.ZC at hnow;split at hnow;rename_i t' e' ys' hj;split at hnow;rename_i he;subst he;cases ht:(t'==n)with
  |false=>rw[ht]at hnow;cases hnow
  |true=>
   rw[ht]at hnow;have:t'=n:=by simpa using ht
   subst this;cases hnow;rw[dX]at hj;obtain⟨v,f,hv,hr,_⟩:=hri.get j _ hj;exact⟨v,f,hr.1,(hr.2 t' rfl).2,λq hq=>hioq j v hv q hq⟩
  cases hnow;cases hnow
 have hmio:∀(j:Nat){vs:iS}{xs:ax AC}{fp:fF},bO (cW C g st w) vs xs fp->(∀i v,vs[i]?=some v->C.ioV[j+i]?=some v)->bO (cW C g' (st.mask keep) w) vs (Tv keep j xs) fp:=by
  intro j vs
  induction vs generalizing j with
  |nil=>intro xs fp hr _;cases xs with
   |nil=>exact hr
   |cons _ _=>exact hr.elim
  |cons v vs ih=>
   intro xs fp hr hv
   cases xs with
   |nil=>exact hr.elim
   |cons x xs=>
    obtain⟨f1,f2,rfl,r1,r2⟩:=hr
    refine⟨f1,f2,rfl,?_,ih (j+1) r2 (λi u hu=>by rw[show j+1+i=j+(i+1) by omega];exact hv (i+1) u (by simpa using hu))⟩
    have hv0:=hv 0 v rfl
    rw[dQ]at hv0
    split
    ·rename_i tg e ys
     exact⟨r1.1,λq hq=>hioq j v hv0 q hq⟩
    ·rename_i tag i ep e ys
     obtain⟨_,⟨k,hk,h3⟩,_⟩:=r1
     exact⟨λq hq=>(by cases hq),⟨k,hk,h3⟩,by simp⟩
    ·rename_i s off
     split
     ·rename_i hk
      exact⟨r1.1,hpres s hk r1.2.1,r1.2.2⟩
     ·exact r1.2.2
    ·rename_i hno hno2 _
     cases hfl:x.jx with
     |true=>
      obtain⟨rfl,k⟩:=qq (c':=cW C g' (st.mask keep) w) r1 hfl
      exact k
     |false=>exact ZS r1 hno hno2
 refine⟨g',h.defers,?_,?_,λi av hi=>?_,λs cs hs=>?_,λk v av hk=>by simp at hk,h.labs,h.frame,⟨fpi,hmio 0 hri (λi v hv=>by rw[cD];exact hv),hni,hli⟩⟩;show _=(mZ keep st.ep st.io 0 st.slots).length;rw[uE];exact h.size;show(mY keep st.ep st.io 0 st.boxes).length=(mZ keep st.ep st.io 0 st.slots).length;rw[uE,zJ];exact h.bsize;have hi':(mZ keep st.ep st.io 0 st.slots)[i]?=some av:=hi;rw[Da,cD]at hi';cases hv:st.slots[i]? with
 |none=>rw[hv]at hi';cases hi'
 |some x=>
  rw[hv]at hi';simp only[dz,bj]at hi';split at hi'
  ·subst hi'
   cases hx:x with
   |tup ts=>exact⟨[],gE.bot _ _,by simp,by simp⟩
   |val gg cs=>
    rw[hx]at hv
    obtain⟨fp,⟨vs,hcut,hr⟩,hn,hl⟩:=h.slots i _ hv
    refine⟨fp,⟨vs,hcut,DL (io:=st.io) hseen (c:=cW C g st w) (c':=cW C g' (st.mask keep) w) rfl rfl rfl rfl rfl hpres 0 hr ?_⟩,hn,hl⟩
    intro j u hu t ht
    simp only[cD,kv.B7]at ht
    cases hb:Nat.ble 4096 j with
    |true=>rw[hb]at ht;cases ht
    |false=>
     rw[hb]at ht
     simp only[af]at ht
     cases hbs:Nat.ble 1000000 i with
     |true=>rw[hbs]at ht;cases ht
     |false=>
     rw[hbs]at ht
     simp only[af,bj]at ht
     have hi6:i<1000000:=by rcases ca i 1000000 with hlt|hge;exact hlt;rw[hU hge]at hbs;cases hbs
     have hj:j<4096:=by rcases ca j 4096 with hlt|hge;exact hlt;rw[hU hge]at hb;cases hb
     have h0:t%3=0:=by omega
     have h1:t/3/4096=i:=by omega
     have h2:t/3%4096=j:=by omega
     refine⟨.inl (by omega),?_⟩
     show u=Ag C.ioV st a w g.β t
     rw[Ag,jR,aH h0,h1,h2,get_eq hv,SC hcut,hu];rfl
  subst hi';exact⟨[],gE.bot _ _,by simp,by simp⟩
 have hs':(mY keep st.ep st.io 0 st.boxes)[s]?=some (some cs):=hs;rw[yW,cD]at hs';cases hv:st.boxes[s]? with
 |none=>rw[hv]at hs';cases hs'
 |some x=>
  rw[hv]at hs';simp only[dz,bj]at hs';split at hs';cases hx:x with
  |none=>rw[hx]at hs';cases hs'
  |some xs=>
   rw[hx]at hs' hv;simp only[dz,bj]at hs';subst hs';obtain⟨arr,T,fr,fp,hb,hth,hr,hn,hni,hl,hl0,hw0⟩:=h.boxes s xs hv;refine⟨arr,T,fr,fp,hb,hth,DL (io:=st.io) hseen (c:=cW C g st w) (c':=cW C g' (st.mask keep) w) rfl rfl rfl rfl rfl hpres 0 hr ?_,hn,hni,hl,hl0,hw0⟩;intro j u hu t ht;simp only[cD,kv.B7]at ht;cases hbb:Nat.ble 4096 j with
   |true=>rw[hbb]at ht;cases ht
   |false=>
    rw[hbb]at ht;simp only[af,bj]at ht;have hj:j<4096:=by rcases ca j 4096 with hlt|hge;exact hlt;rw[hU hge]at hbb;cases hbb
    have h0:¬t%3=0:=by omega
    have h1:t/3/4096=s:=by omega
    have h2:t/3%4096=j:=by omega
    refine⟨.inl (by omega),?_⟩;show u=Ag C.ioV st a w g.β t;rw[Ag,jR,aI h0,h1,h2,hb];simp only;rw[hu];rfl
  cases hs'
structure jb (ds:List Nat) (st st':AS):Prop where
 len:st'.slots.length=st.slots.length
 slot:∀i,i∉ds->st'.slots[i]?=st.slots[i]?
 boxes:st'.boxes=st.boxes
 ep:st'.ep=st.ep
 iss:∀i,i∉ds->nth st'.iss i=nth st.iss i
 ilen:st'.iss.length=st.iss.length
 io:st'.io=st.io
theorem jb.refl (ds:fF)(st:AS):jb ds st st:=⟨rfl,λ_ _=>rfl,rfl,rfl,λ_ _=>rfl,rfl,rfl⟩
theorem jb.trans {st st1 st2:AS}(h:jb ds st st1)(k:jb ds st1 st2):jb ds st st2:=⟨k.len.trans h.len,λi hi=>(k.slot i hi).trans (h.slot i hi),k.boxes.trans h.boxes,k.ep.trans h.ep,λi hi=>(k.iss i hi).trans (h.iss i hi),k.ilen.trans h.ilen,k.io.trans h.io⟩
theorem jb.put {st:AS}(hd:∀i,d=some i->i∈ds)(v:AV):jb ds st (st.put d v):=by cases d with|none=>exact jb.refl _ _|some d=>refine⟨by rw[gk,az],λi hi=>?_,kx,Fz,λi _=>by rw[Ob],by rw[Ob],FL⟩;rw[gk,aF];rintro rfl;exact hi (hd _ rfl)
theorem jb.fU {st:AS}(hd:∀i,d=some i->i∈ds):jb ds st (st.fU d):=by cases d with|none=>exact jb.refl _ _|some d=>refine⟨rfl,λi _=>rfl,rfl,rfl,λi hi=>?_,?_,rfl⟩;simp only[AS.fU,dX,fT];rw[aF];rintro rfl;exact hi (hd _ rfl);simp only[AS.fU,fT,az]
theorem sI {α:Type}{o:aB α}{k:α->aB AS}{st':AS}(h:aa o k=some st')(hk:∀x,k x=some st'->jb ds st st'):jb ds st st':=by cases o with|none=>cases h|some x=>exact hk x h
theorem Xj {n:Nat}{k:aB AS}{st':AS}(h:room n k=some st')(hk:k=some st'->jb ds st st'):jb ds st st':=by unfold room at h;split at h;exact hk h;cases h
theorem TD {op:BinOp}{k:IntKind}{x y:Int}{K:AC->aB AS}{st':AS}(h:EF op k x y K=some st')(hk:∀z,K z=some st'->jb ds st st'):jb ds st st':=by
 unfold EF at h
 split at h<;>first
  |exact hk _ h
  |(split at h
    ·cases h
    ·exact hk _ h)
  |cases h
theorem TE {op:BinOp}{x y:ax UInt8}{K:AC->aB AS}{st':AS}(h:Hc op x y K=some st')(hk:∀z,K z=some st'->jb ds st st'):jb ds st st':=by
 unfold Hc at h
 split at h<;>first
  |exact Xj h (hk _)
  |exact hk _ h
  |cases h
theorem FY {op:BinOp}{x y:AV}{K:AC->aB AS}{st':AS}(h:CN op x y K=some st')(hk:∀z,K z=some st'->jb ds st st'):jb ds st st':=by unfold CN at h;split at h;split at h;split at h;cases h;exact hk _ h;split at h;cases h;exact hk _ h;split at h;exact TD h hk;cases h;exact TE h hk;split at h;exact hk _ h;exact hk _ h;cases h;split at h;exact sI h λb hb=>hk _ hb;exact sI h λb hb=>hk _ hb;cases h;cases h
theorem EO {lo hi:aB Operand}{n:Nat}{K:Int->Int->aB AS}{st0 st':AS}(h:mr st0 lo hi n K=some st')(hk:∀x y,K x y=some st'->jb ds st st'):jb ds st st':=by
 unfold mr at h
 split at h<;>first
  |exact hk _ _ h
  |cases h
theorem JN {op:BinOp}{b:Bool}{K:AC->aB AS}{st':AS}(h:Bc op b K=some st')(hk:∀c,K c=some st'->jb ds st st'):jb ds st st':=by unfold Bc at h;split at h;exact hk _ h;exact hk _ h;cases h
theorem Me {E:Env}(hΓ:∀f,(Γ f).io=false/\(Γ f).bx=false/\(Γ f).pr=false){an:An}{o:Oper}{st':AS}(hq:gT an ds o=true)(hd:∀i,o.dst=some i->i∈ds)(h:dq E Γ an o st some=some st'):jb ds st st':=by
 have hput:∀v,some (st.put o.dst v)=some st'->jb ds st st':=λv hv=>by cases hv;exact jb.put hd v
 unfold dq at h;split at h;rename_i x ho;simp only[gT,ho]at hq;unfold zK at h;cases hdd:o.dst with
 |none=>rw[hdd]at h;cases h
 |some d=>
  rw[hdd]at h hq;simp only at h hq;have hf:an.mv.contains d=false:=by simpa using hq
  rw[hf]at h;simp only[ba,cl]at h;cases h;exact jb.put (λi hi=>hd i (by rw[hdd];exact hi)) _
 rename_i x ho;have hlate:yc an o=false\/∃y,x=y/\(∀v,y≠ .const v)/\(∀t,y≠ .tmp t):=by cases x with|tmp t=>left;simp only[gT,ho,ae,aL]at hq;exact hq.2|const v=>left;simpa only[gT,ho,aL]using hq|func f=>simp[gT,ho]at hq|global g=>simp[gT,ho]at hq
 have hlate:yc an o=false:=by rcases hlate with h1|⟨y,rfl,h1,h2⟩;exact h1;cases x with|tmp t=>exact absurd rfl (h2 t)|const v=>exact absurd rfl (h1 v)|func f=>simp[gT,ho]at hq|global g=>simp[gT,ho]at hq
 simp only[gT,ho]at hq;rw[aI (by simp[hlate])]at h;unfold tf at h;have hx:jb ds st (st.take x).2:=by
  cases x with
  |tmp t=>
   have ht:t∈ds:=by simp only[ae]at hq;simpa using hq.1
   exact jb.put (d:=some t) (λi hi=>by cases hi;exact ht) _
  |const v=>exact jb.refl _ _
  |func f=>exact jb.refl _ _
  |global g=>exact jb.refl _ _
 split at h;split at h;exact hput _ h;cases h;rename_i v st1 _ htk;cases h;have:(st.take x).2=st1:=by rw[htk]
 rw[this]at hx;exact hx.trans (jb.put hd _);unfold BO at h;split at h;rename_i t _;split at h;exact hput _ h;cases t with|true=>exact hput _ h|false=>exact hput _ h
 cases h;rename_i ho;simp[gT,ho]at hq;rename_i ho;simp[gT,ho]at hq;rename_i T p ho;simp only[gT,ho]at hq;have htk:Cc an o=false:=by unfold Cc;cases hdd:o.dst with|none=>rfl|some d=>rw[hdd]at hq;simp only[aL]at hq;simp only[hq,fi]
 unfold oy at h;split at h;split at h;split at h;split at h;rename_i d hdd;rw[hdd]at hq;simp only at hq;have hf:an.mv.contains d=false:=by simpa using hq
 rw[hf]at h;simp only[ba,cl]at h;exact hput _ h;cases h;cases h;cases h;rw[aI (by simp[htk])]at h;split at h;split at h;exact hput _ h;cases h;unfold AG at h;split at h;split at h;split at h;split at h;obtain⟨y,_,h⟩:=H9 h;exact hput _ h;cases h;cases h;cases h;cases h;cases h;rename_i ho;simp[gT,ho]at hq;split at h;exact hput _ h;exact hput _ h;cases h;unfold yq at h;split at h;split at h;exact FY h λz hz=>hput _ hz;cases h;split at h;split at h;exact FY h λz hz=>hput _ hz;cases h;cases h;split at h;split at h;cases h;exact JN h λz hz=>hput _ hz;cases h;split at h;exact JN h λz hz=>hput _ hz;cases h;exact FY h λz hz=>hput _ hz;unfold unC at h;split at h;exact hput _ h;exact hput _ h;exact hput _ h;cases h;unfold xQ at h;split at h;split at h;exact hput _ h;cases h;split at h;exact hput _ h;cases h;cases h;unfold lZ at h;split at h;split at h;exact sI h λy hy=>hput _ hy;cases h;cases h;unfold yV at h;split at h;split at h;exact sI h λy hy=>hput _ hy;cases h;cases h;rename_i T parts ho;simp only[gT,ho]at hq;have he:parts=#[]:=by simpa using hq
 subst he;unfold yR at h;split at h;simp only[fC,List.map_nil]at h;split at h;exact hput _ h;cases h;cases h;rename_i ho;simp[gT,ho]at hq;rename_i ho;simp[gT,ho]at hq;rename_i ho;simp only[gT,ho,aL]at hq;unfold yi at h;rw[aI (by simp[hq])]at h;split at h;split at h;exact EO h λx y hxy=>sI hxy λz hz=>hput _ hz;cases h;split at h;exact EO h λx y hxy=>sI hxy λz hz=>hput _ hz;cases h;cases h;rename_i ho;simp[gT,ho]at hq;rename_i ho;simp[gT,ho]at hq;rename_i ho;simp[gT,ho]at hq;rename_i ho;simp[gT,ho]at hq;unfold JF at h;split at h;split at h;exact hput _ h;cases h;split at h;exact hput _ h;cases h;cases h;unfold K3 at h;split at h;exact hput _ h;cases h;unfold K2 at h;split at h;exact hput _ h;cases h;rename_i ho;simp[gT,ho]at hq;unfold Ba at h;split at h;rename_i k _;rw[(hΓ k).2.1,(hΓ k).2.2,(hΓ k).1]at h;simp only[af]at h;refine sI h λy hy=>?_;cases hsel:(Γ k).sel y with|true=>rw[hsel]at hy;cases hy;exact(jb.fU hd).trans (jb.put hd _)|false=>rw[hsel]at hy;cases hy;exact(jb.fU hd).trans (jb.put hd _)
 cases h;cases h
theorem QZ {ops:ax Oper}{o:Oper}(ho:o∈ops){i:Nat}(hi:o.dst=some i):i∈Dx ops:=List.mem_filterMap.2 ⟨o,ho,hi⟩
theorem JO {E:Env}(hΓ:∀f,(Γ f).io=false/\(Γ f).bx=false/\(Γ f).pr=false){an:An}{ops:ax Oper}{o:Oper}{st':AS}(ho:o∈ops)(hq:gT an (Dx ops) o=true)(h:gQ E Γ an ops o st some=some st'):jb (Dx ops) st st':=by
 have hd:∀i,o.dst=some i->i∈Dx ops:=λi hi=>QZ ho hi;unfold gQ at h;split at h;exact Me hΓ hq hd h;rename_i j want hg;split at h;rename_i d hdd;have hdm:d∈Dx ops:=by rw[dX]at hdd;cases ho':ops[j]? with|none=>rw[ho']at hdd;cases hdd|some o'=>rw[ho']at hdd;exact QZ (aW ho') hdd
 have hp:∀t,jb (Dx ops) st (st.put (some d) (.one (.bool t))):=λt=>jb.put (λi hi=>by cases hi;exact hdm) _;split at h;rename_i b hb;have main:∀t,(if(t==want)=true then dq E Γ an o (st.put (some d) (.one (.bool t))) some else some ((st.put (some d) (.one (.bool t))).put o.dst (.one .un)))=some st'->jb (Dx ops) st st':=by intro t ht;split at ht;exact(hp t).trans (Me hΓ hq hd ht);cases ht;exact(hp t).trans (jb.put hd _)
 cases b with|true=>exact main true h|false=>exact main false h
 cases h;exact jb.put hd _;cases h;cases h
theorem Q8 {E:Env}{Γ:eE}(hΓ:∀f,(Γ f).io=false/\(Γ f).bx=false/\(Γ f).pr=false){an:An}{ops:ax Oper}(hq:∀o∈ops,gT an (Dx ops) o=true):∀(l:ax Oper)(st st':AS),(∀o∈l,o∈ops)->Oi E Γ an ops l st some=some st'->jb (Dx ops) st st'
 |[],st,st',_,h=>by cases h;exact jb.refl _ _
 |o::l,st,st',hl,h=>by simp only[Oi]at h;rw[pN]at h;cases hg:gQ E Γ an ops o st some with|none=>rw[hg]at h;cases h|some st1=>rw[hg]at h;exact(JO hΓ (hl o (by simp)) (hq o (hl o (by simp))) hg).trans (Q8 hΓ hq l st1 st' (λo' ho'=>hl o' (by simp[ho'])) h)
theorem Dw {ds:fF}:∀(l:fF)(st:AS),(∀i∈l,i∈ds)->jb ds st (st.yA l)
 |[],st,_=>jb.refl _ _
 |d::l,st,h=>by
  have hd:∀i,some d=some i->i∈ds:=λi hi=>by cases hi;exact h d (by simp)
  exact((jb.put hd _).trans (jb.fU hd)).trans (Dw l _ (λi hi=>h i (by simp[hi])))
theorem LB:∀(l:fF)(st:AS)(i:Nat)(av:AV),(st.yA l).slots[i]?=some av->i∈l\/st.slots[i]?=some .bot->av=.bot
 |[],st,i,av,h,hi=>by rcases hi with hi|hi;cases hi;have:st.slots[i]?=some av:=h;rw[hi]at this;cases this;rfl
 |d::l,st,i,av,h,hi=>by
  refine LB l _ i av h ?_;by_cases hil:i∈l;exact .inl hil;refine .inr ?_;rw[sW,gk,bC];have hlt:i<st.slots.length:=by
   have h1:=(Dw (ds:=d::l) l ((st.put (some d) .bot).fU (some d)) (λi hi=>by simp[hi])).len;have h2:=(aA.1 h).1;have h3:(AS.yA ((st.put (some d) .bot).fU (some d)) l).slots.length=st.slots.length:=by rw[h1,sW,gk,az]
   have h4:i<(AS.yA ((st.put (some d) .bot).fU (some d)) l).slots.length:=h2;omega
  split;rename_i hdi;subst hdi;rw[aH hlt];rename_i hdi;rcases hi with hi|hi;simp only[cA]at hi;rcases hi with hi|hi;exact absurd hi.symm hdi;exact absurd hi hil;exact hi
theorem LC:∀(l:fF)(st:AS)(i:Nat),i∈l\/(nth st.iss i).getD true=true->(nth (st.yA l).iss i).getD true=true
 |[],st,i,hi=>by rcases hi with hi|hi;cases hi;exact hi
 |d::l,st,i,hi=>by refine LC l _ i ?_;by_cases hil:i∈l;exact .inl hil;refine .inr ?_;have he:(AS.fU (st.put (some d) .bot) (some d)).iss=ie st.iss d true:=rfl;rw[he,fT,dX,bC];split;split<;>rfl;rename_i hdi;rcases hi with hi|hi;simp only[cA]at hi;rcases hi with hi|hi;exact absurd hi.symm hdi;exact absurd hi hil;rw[dX]at hi;exact hi
theorem nz.weaken {st':AS}(h:nz C st' a w)(hn:jb ds st st'){s:Nat}{b:Bool}(hb:getBool st' s=some b):nz C ((st.yA ds).put (some s) (.one (.bool b))) a w:=by
 have hbs:st'.get s=.val false [.bool b]:=by unfold getBool at hb;split at hb;rename_i b' hg;cases hb;exact hg;cases hb
 have hkn:=h.known hbs;obtain⟨g,h⟩:=h;have hdn:=Dw (ds:=ds) ds st (λ_ hi=>hi);have hboxes:((st.yA ds).put (some s) (.one (.bool b))).boxes=st'.boxes:=by rw[kx,hdn.boxes,hn.boxes]
 have hep:((st.yA ds).put (some s) (.one (.bool b))).ep=st'.ep:=by rw[Fz,hdn.ep,hn.ep]
 have hlen:((st.yA ds).put (some s) (.one (.bool b))).slots.length=st'.slots.length:=by rw[gk,az,hdn.len,hn.len]
 have hiss:∀t,mn st' t->mn ((st.yA ds).put (some s) (.one (.bool b))) t:=by intro t ht;rw[EI];rcases ht with ht|ht;exact .inl ht;refine .inr (LC ds st _ ?_);by_cases hi:t/3/4096∈ds;exact .inl hi;exact .inr (by rw[<-hn.iss _ hi];exact ht)
 have hpres:∀s',jf st' s'->jf ((st.yA ds).put (some s) (.one (.bool b))) s':=λs' hs=>by unfold jf at hs⊢;rw[hboxes];exact hs
 have hle:(cW C g st' w).Le (cW C g ((st.yA ds).put (some s) (.one (.bool b))) w):=⟨rfl,λt ht=>⟨hiss t ht,rfl⟩,λ_ _ _ _ _ hv=>hv,by show st'.ep<=_;rw[<-hep];exact aR _,λs' hs=>⟨hpres s' hs,rfl⟩,λ_ b o u ho hu=>⟨ho,hu⟩⟩
 refine⟨g,h.step (λ_=>True) hle h.defers (by rw[hlen];exact h.size) (by rw[hboxes,hlen];exact h.bsize) h.frame h.labs (λb x _ hx=>⟨hx,rfl,rfl⟩) ?_ ?_ ?_ (.inl ⟨cC,by rw[FL,hdn.io,hn.io]⟩)⟩;intro i av hi;rw[gk,bC]at hi;split at hi;rename_i hsi;subst hsi;split at hi;cases hi;refine .inr ⟨[],ma ?_,by simp,by simp⟩;exact⟨hkn,rfl⟩;cases hi;by_cases hid:i∈ds;have:=LB ds st i av hi (.inl hid);subst this;exact .inr ⟨[],gE.bot _ _,by simp,by simp⟩;rw[hdn.slot i hid]at hi;exact .inl ⟨cC,by rw[hn.slot i hid];exact hi,rfl⟩;intro s' cs hs;rw[hboxes]at hs;exact .inl ⟨cC,hs,rfl⟩;intro k v av hk;simp at hk
theorem abW (Γ:eE)(f:Nat):(Γ.calm f).io=false/\(Γ.calm f).bx=false/\(Γ.calm f).pr=false:=by unfold eE.calm;cases h:(Γ f).io with|true=>exact⟨rfl,rfl,rfl⟩|false=>cases h2:(Γ f).bx with|true=>exact⟨rfl,rfl,rfl⟩|false=>cases h3:(Γ f).pr with|true=>exact⟨rfl,rfl,rfl⟩|false=>exact⟨h,h2,h3⟩
theorem adi (Γ:eE)(f:Nat):(Γ.DU f).io=false/\((Γ.DU f).bx=true->(Γ.DU f).cur=true)/\(Γ.DU f).pr=false:=by unfold eE.DU;cases h:(Γ f).io with|true=>exact⟨rfl,λh=>(by cases h),rfl⟩|false=>cases h3:(Γ f).pr with|true=>exact⟨rfl,λh=>(by cases h),rfl⟩|false=>cases h2:(Γ f).bx with|false=>exact⟨h,λh=>(by simp[h2]at h),h3⟩|true=>cases h4:(Γ f).cur with|true=>exact⟨h,λ_=>h4,h3⟩|false=>exact⟨rfl,λh=>(by cases h),rfl⟩
theorem adj (hΓ:∀f,(Γ f).io=false/\(Γ f).bx=false/\(Γ f).pr=false)(f:Nat):(Γ.DU f).io=false/\(Γ.DU f).bx=false/\(Γ.DU f).pr=false:=by have h:=hΓ f;unfold eE.DU;rw[h.1,h.2.1,h.2.2];exact h
theorem Sound.DU {E:Env}(h:Sound P E Γ):Sound P E Γ.DU:=by refine⟨h.ty,h.eqs,h.fts,λf=>?_,h.mixed⟩;unfold eE.DU;cases (Γ f).io||(Γ f).pr||((Γ f).bx&& !(Γ f).cur)with|true=>intro xs y hy;cases hy|false=>exact h.fns f
theorem Sound.calm {E:Env}(h:Sound P E Γ):Sound P E Γ.calm:=by refine⟨h.ty,h.eqs,h.fts,λf=>?_,h.mixed⟩;unfold eE.calm;cases (Γ f).io with|true=>intro xs y hy;cases hy|false=>cases (Γ f).bx with|true=>intro xs y hy;cases hy|false=>cases (Γ f).pr with|true=>intro xs y hy;cases hy|false=>exact h.fns f
end Go.Dn
