import Derived.Test.YtgbaemfepmabgaaGreatDnDen
import Derived.Test.YtgbaemfepmabgaaGreatDnNat
/- What is kept at a loop's door; what a region whose ways meet again leaves. -/
namespace Go.Dn
open Go.RowKit
variable {P:Program} {C:Ctx} {st:AS} {a:Act} {w:World} {R:Type} {r:R}
variable {Γ:dm} {v:Value} {d:aw Nat} {ds:eG}
theorem DT (keep:eG)(ep:Nat)(io:au AC):∀(l:au AV)(n i:Nat),(mI keep ep io n l)[i]?=(l[i]?).map λv=>if keep.contains (n+i) then v.mask keep ep io (n+i) else .bot
 |[],n,i=>by simp[mI]
 |v::l,n,0=>by simp[mI]
 |v::l,n,i+1=>by simp only[mI,List.getElem?_cons_succ];rw[DT keep ep io l (n+1) i,show n+1+i=n+(i+1) by omega]
theorem zQ (keep:eG)(ep:Nat)(io:au AC):∀(l:au (aw (au AC)))(n i:Nat),(mH keep ep io n l)[i]?=(l[i]?).map λb=>if keep.contains (n+i) then b.map (Hd keep ep io (.box (n+i)) 0) else none
 |[],n,i=>by simp[mH]
 |v::l,n,0=>by simp[mH]
 |v::l,n,i+1=>by simp only[mH,List.getElem?_cons_succ];rw[zQ keep ep io l (n+1) i,show n+1+i=n+(i+1) by omega]
theorem u0 (keep:eG)(ep:Nat)(io:au AC):∀(l:au AV)(n:Nat),(mI keep ep io n l).length=l.length
 |[],_=>rfl
 |_::l,n=>by simp[mI,u0 keep ep io l]
theorem Ao (keep:eG)(ep:Nat)(io:au AC):∀(l:au (aw (au AC)))(n:Nat),(mH keep ep io n l).length=l.length
 |[],_=>rfl
 |_::l,n=>by simp[mH,Ao keep ep io l]
def Vm:Value->AV->ig
 | .agg vs,.val true _=>vs.toList
 |v,_=>[v]
theorem Vr {g:Bool}{vs:ig}{cs:au AC}(h:Cut g v vs):Vm v (.val g cs)=vs:=by cases g with|true=>simp only[Cut,bT]at h;subst h;simp[Vm]|false=>simp only[Cut]at h;subst h;cases v<;>rfl
def AL (ioV:ig)(st:AS)(a:Act)(w:World)(β:Nat->Nat)(t:Nat):Value:=
 if t%3=0/\t/3/4096=1000003 then(ioV[t/3%4096]?).getD undef
 else if t%3=0 then((Vm (a.tmps.getD (t/3/4096) undef) (st.get (t/3/4096)))[t/3%4096]?).getD undef
 else match w.heap[β (t/3/4096)]? with
  |some (.cells arr _ _)=>(arr.toList[t/3%4096]?).getD undef
  |_=>undef
def UZ (c c':RC)(io:au AC):Prop:=∀j n (e:CT)(ys:au e.D),AC.ac5 io j n e=some ys->∃v0 fp0,eU c.hw c.w (.sl e) [v0] ys fp0/\v0=c.hdr n/\∀q,(jQ.io j).CN=some q->c'.iss q/\v0=c'.hdr q
theorem aau {c c':RC}{io:au AC}(hio:UZ c c' io){keep:eG}{rt:jQ}{x:AC}{fp:eG}(h:gz c v x fp)(hhw:c'.hw=c.hw)(hw:c'.w=c.w)(hA:c'.A=c.A)(hep:c'.ep=0)(hβ:c'.β=c.β)(hpres:∀s,keep.contains s=true->c.pres s->c'.pres s)(hst:∀t,rt.CN=some t->c'.iss t/\v=c'.hdr t):gz c' v (x.mask keep c.ep io rt) fp:=by
 have hS:c'.S=c.S:=by funext b o;simp[RC.S,hhw,hA]
 cases x with
 |int k n=>exact h
 |bool b=>exact h
 |str s=>exact h
 |nilsl=>exact h
 |fn f=>exact h
 |un=>exact h
 |bot=>exact h
 |ptr s off=>simp only[AC.mask];split;rename_i hk;exact⟨by rw[hβ];exact h.1,hpres s hk h.2.1,h.2.2⟩;exact h.2.2
 |elt fl e y i off=>cases fl with|own t=>exact h.elim|nest _ _ _ _ _ _=>exact h.elim|part _ _ _ _=>exact h.elim|holed _ _ _=>exact h.elim|arg _=>exact h.1|loc ep pv=>exact h.1
 |sl fl e xs=>
  cases fl with
  |own t=>exact⟨eU.mono h.1 (λb _=>⟨by rw[hw],by rw[hhw]⟩),hst⟩
  |nest _ _ _ _ _ _=>exact h.1
  |part _ _ _ _=>exact h.1
  |holed _ _ _=>obtain⟨_,⟨k,hk,h3⟩,_⟩:=h;exact⟨λq hq=>(by cases hq),⟨k,hk,h3.mono (λb hb=>⟨by rw[hw],by rw[hhw]⟩)⟩,by simp⟩
  |arg _=>exact⟨h.1,by rw[hA,hw];exact h.2⟩
  |loc ep pv=>
   obtain⟨h1,h2,h3,h4,h5⟩:=h;have plain:gz c' v (if(ep==c.ep)=true then AC.sl (.loc 0 none) e xs else .bot) fp:=by split;rename_i he;refine⟨h1,by rw[hep];exact ba _,h3,λ_=>?_,by simp⟩;rw[hS,hw];exact h4 (by simpa using he);exact h1
   simp only[AC.mask];split;rename_i j n;split;rename_i ys hnow;obtain⟨v0,fp0,hown,hv0,hq⟩:=hio j n e ys hnow;obtain⟨_,k2⟩:=h5 _ _ rfl;have hv:v0=v:=hv0.trans k2.symm;subst hv;refine⟨h1,by rw[hep];exact ba _,Lm hown,λ_=>?_,λr t hp=>?_⟩;rw[hS,hw];exact eU.rep (λb o ho=> .inr ho) hown;cases hst':(jQ.io j).CN with|none=>rw[hst']at hp;cases hp|some q=>rw[hst']at hp;simp at hp;obtain⟨_,rfl⟩:=hp;exact⟨(hq q hst').1,(hq q hst').2⟩
   exact plain;exact plain
theorem EB {c c':RC}{io:au AC}(hio:UZ c c' io){keep:eG}{f:Nat->jQ}(hhw:c'.hw=c.hw)(hw:c'.w=c.w)(hA:c'.A=c.A)(hep:c'.ep=0)(hβ:c'.β=c.β)
 (hpres:∀s,keep.contains s=true->c.pres s->c'.pres s):∀{vs:ig}{xs:au AC}{fp:eG}(j:Nat),bH c vs xs fp->
  (∀i v,vs[i]?=some v->∀t,(f (j+i)).CN=some t->c'.iss t/\v=c'.hdr t)->bH c' vs (Hd keep c.ep io f j xs) fp
 |[],[],_,_,h,_=>h
 |v::_,_::_,_,j,h,hm=>by obtain⟨f1,f2,rfl,h1,h2⟩:=h;exact⟨f1,f2,rfl,aau hio h1 hhw hw hA hep hβ hpres (λt ht=>hm 0 v rfl t ht),EB hio hhw hw hA hep hβ hpres (j+1) h2 (λi u hu t ht=>hm (i+1) u (by simpa using hu) t (by rwa[show j+(i+1)=j+1+i by omega]))⟩
 |[],_::_,_,_,h,_=>h.elim
 |_::_,[],_,_,h,_=>h.elim
theorem ado {c:RC}{x:AC}{fp:eG}(h:gz c v x fp)(hno:∀(tag:aw Nat)(e:CT)(xs:au e.D),x=.sl (.own tag) e xs->False)(hno2:∀(tag:aw Nat)(i:Int)(ep:aw Nat)(e:CT)(xs:au e.D),x=.sl (.holed tag i ep) e xs->False):fp=[]:=by
 cases x with
 |int k n=>exact h.2
 |bool b=>exact h.2
 |str s=>exact h.2
 |nilsl=>exact h.2
 |fn f=>exact h.2
 |un=>exact h.2
 |bot=>exact h
 |ptr s off=>exact h.2.2
 |elt fl e y i off=>cases fl with|own t=>exact h.elim|nest _ _ _ _ _ _=>exact h.elim|part _ _ _ _=>exact h.elim|holed _ _ _=>exact h.elim|arg _=>exact h.1|loc ep pv=>exact h.1
 |sl fl e xs=>cases fl with|own t=>exact(hno _ _ _ rfl).elim|nest _ _ _ _ _ _=>exact h.1|part _ _ _ _=>exact h.1|holed _ _ _=>exact(hno2 _ _ _ _ _ rfl).elim|arg _=>exact h.1|loc ep pv=>exact h.1
theorem nf.mask (h:nf C st a w)(keep:eG):nf C (st.mask keep) a w:=by
 obtain⟨g,h⟩:=h;let g':Gh:={g with hdr:=AL C.ioV st a w g.β}
 have hpres:∀s,keep.contains s=true->iK st s->iK (st.mask keep) s:=by rintro s hk ⟨cs,hs⟩;refine⟨Hd keep st.ep st.io (.box s) 0 cs,?_⟩;show(mH keep st.ep st.io 0 st.boxes)[s]?=_;rw[zQ,hs];simp only[db,cg,aF hk]
 obtain⟨fpi,hri,hni,hli⟩:=h.io;have hioq:∀j v,C.ioV[j]?=some v->∀q,(jQ.io j).CN=some q->lU (st.mask keep) q/\v=AL C.ioV st a w g.β q:=by
  intro j v hv q hq;simp only[jQ.CN]at hq;cases hb:Nat.ble 4096 j with
  |true=>rw[hb]at hq;cases hq
  |false=>
   rw[hb]at hq;simp only[af,bl,Yi]at hq;have hj:j<4096:=by rcases bV j 4096 with hlt|hge;exact hlt;rw[gC hge]at hb;cases hb
   have h0:q%3=0:=by omega
   have h1:q/3/4096=1000003:=by omega
   have h2:q/3%4096=j:=by omega
   refine⟨.inl (by omega),?_⟩;rw[AL,aF ⟨h0,h1⟩,h2,hv];rfl
 have hseen:UZ (cO C g st w) (cO C g' (st.mask keep) w) st.io:=by
  intro j n e ys hnow;unfold AC.ac5 at hnow;split at hnow;rename_i t' e' ys' hj;split at hnow;rename_i he;subst he;cases ht:(t'==n)with
  |false=>rw[ht]at hnow;cases hnow
  |true=>
   rw[ht]at hnow;have:t'=n:=by simpa using ht
   subst this;cases hnow;rw[dI]at hj;obtain⟨v,f,hv,hr,_⟩:=hri.get j _ hj;exact⟨v,f,hr.1,(hr.2 t' rfl).2,λq hq=>hioq j v hv q hq⟩
  cases hnow;cases hnow
 have hmio:∀(j:Nat){vs:ig}{xs:au AC}{fp:eG},bH (cO C g st w) vs xs fp->(∀i v,vs[i]?=some v->C.ioV[j+i]?=some v)->bH (cO C g' (st.mask keep) w) vs (Wr keep j xs) fp:=by
  intro j vs
  induction vs generalizing j with
  |nil=>intro xs fp hr _;cases xs with
   |nil=>exact hr
   |cons _ _=>exact hr.elim
  |cons v vs ih=>
   intro xs fp hr hv
   cases xs with
   |nil=>exact hr.elim
   |cons x xs=>
    obtain⟨f1,f2,rfl,r1,r2⟩:=hr
    refine⟨f1,f2,rfl,?_,ih (j+1) r2 (λi u hu=>by rw[show j+1+i=j+(i+1) by omega];exact hv (i+1) u (by simpa using hu))⟩
    have hv0:=hv 0 v rfl
    rw[dQ]at hv0
    split
    ·rename_i tg e ys
     exact⟨r1.1,λq hq=>hioq j v hv0 q hq⟩
    ·rename_i tag i ep e ys
     obtain⟨_,⟨k,hk,h3⟩,_⟩:=r1
     exact⟨λq hq=>(by cases hq),⟨k,hk,h3⟩,by simp⟩
    ·rename_i s off
     split
     ·rename_i hk
      exact⟨r1.1,hpres s hk r1.2.1,r1.2.2⟩
     ·exact r1.2.2
    ·rename_i hno hno2 _
     cases hfl:x.iZ with
     |true=>
      obtain⟨rfl,k⟩:=qd (c':=cO C g' (st.mask keep) w) r1 hfl
      exact k
     |false=>exact ado r1 hno hno2
 refine⟨g',h.defers,?_,?_,λi av hi=>?_,λs cs hs=>?_,λk v av hk=>by simp at hk,h.labs,h.frame,⟨fpi,hmio 0 hri (λi v hv=>by rw[cg];exact hv),hni,hli⟩⟩;show _=(mI keep st.ep st.io 0 st.slots).length;rw[u0];exact h.size;show(mH keep st.ep st.io 0 st.boxes).length=(mI keep st.ep st.io 0 st.slots).length;rw[u0,Ao];exact h.bsize;have hi':(mI keep st.ep st.io 0 st.slots)[i]?=some av:=hi;rw[DT,cg]at hi';cases hv:st.slots[i]? with
 |none=>rw[hv]at hi';cases hi'
 |some x=>
  rw[hv]at hi';simp only[db,bl]at hi';split at hi'
  ·subst hi'
   cases hx:x with
   |tup ts=>exact⟨[],fS.bot _ _,by simp,by simp⟩
   |val gg cs=>
    rw[hx]at hv
    obtain⟨fp,⟨vs,hcut,hr⟩,hn,hl⟩:=h.slots i _ hv
    refine⟨fp,⟨vs,hcut,EB (io:=st.io) hseen (c:=cO C g st w) (c':=cO C g' (st.mask keep) w) rfl rfl rfl rfl rfl hpres 0 hr ?_⟩,hn,hl⟩
    intro j u hu t ht
    simp only[cg,jQ.CN]at ht
    cases hb:Nat.ble 4096 j with
    |true=>rw[hb]at ht;cases ht
    |false=>
     rw[hb]at ht
     simp only[af]at ht
     cases hbs:Nat.ble 1000000 i with
     |true=>rw[hbs]at ht;cases ht
     |false=>
     rw[hbs]at ht
     simp only[af,bl]at ht
     have hi6:i<1000000:=by rcases bV i 1000000 with hlt|hge;exact hlt;rw[gC hge]at hbs;cases hbs
     have hj:j<4096:=by rcases bV j 4096 with hlt|hge;exact hlt;rw[gC hge]at hb;cases hb
     have h0:t%3=0:=by omega
     have h1:t/3/4096=i:=by omega
     have h2:t/3%4096=j:=by omega
     refine⟨.inl (by omega),?_⟩
     show u=AL C.ioV st a w g.β t
     rw[AL,mi,aF h0,h1,h2,get_eq hv,Vr hcut,hu];rfl
  subst hi';exact⟨[],fS.bot _ _,by simp,by simp⟩
 have hs':(mH keep st.ep st.io 0 st.boxes)[s]?=some (some cs):=hs;rw[zQ,cg]at hs';cases hv:st.boxes[s]? with
 |none=>rw[hv]at hs';cases hs'
 |some x=>
  rw[hv]at hs';simp only[db,bl]at hs';split at hs';cases hx:x with
  |none=>rw[hx]at hs';cases hs'
  |some xs=>
   rw[hx]at hs' hv;simp only[db,bl]at hs';subst hs';obtain⟨arr,T,fr,fp,hb,hth,hr,hn,hni,hl,hl0,hw0⟩:=h.boxes s xs hv;refine⟨arr,T,fr,fp,hb,hth,EB (io:=st.io) hseen (c:=cO C g st w) (c':=cO C g' (st.mask keep) w) rfl rfl rfl rfl rfl hpres 0 hr ?_,hn,hni,hl,hl0,hw0⟩;intro j u hu t ht;simp only[cg,jQ.CN]at ht;cases hbb:Nat.ble 4096 j with
   |true=>rw[hbb]at ht;cases ht
   |false=>
    rw[hbb]at ht;simp only[af,bl]at ht;have hj:j<4096:=by rcases bV j 4096 with hlt|hge;exact hlt;rw[gC hge]at hbb;cases hbb
    have h0:¬t%3=0:=by omega
    have h1:t/3/4096=s:=by omega
    have h2:t/3%4096=j:=by omega
    refine⟨.inl (by omega),?_⟩;show u=AL C.ioV st a w g.β t;rw[AL,mi,aD h0,h1,h2,hb];simp only;rw[hu];rfl
  cases hs'
structure ix (ds:List Nat) (st st':AS):Prop where
 len:st'.slots.length=st.slots.length
 slot:∀i,i∉ds->st'.slots[i]?=st.slots[i]?
 boxes:st'.boxes=st.boxes
 ep:st'.ep=st.ep
 iss:∀i,i∉ds->nth st'.iss i=nth st.iss i
 ilen:st'.iss.length=st.iss.length
 io:st'.io=st.io
theorem ix.refl (ds:eG)(st:AS):ix ds st st:=⟨rfl,λ_ _=>rfl,rfl,rfl,λ_ _=>rfl,rfl,rfl⟩
theorem ix.trans {st st1 st2:AS}(h:ix ds st st1)(k:ix ds st1 st2):ix ds st st2:=⟨k.len.trans h.len,λi hi=>(k.slot i hi).trans (h.slot i hi),k.boxes.trans h.boxes,k.ep.trans h.ep,λi hi=>(k.iss i hi).trans (h.iss i hi),k.ilen.trans h.ilen,k.io.trans h.io⟩
theorem ix.put {st:AS}(hd:∀i,d=some i->i∈ds)(v:AV):ix ds st (st.put d v):=by cases d with|none=>exact ix.refl _ _|some d=>refine⟨by rw[fG,aA],λi hi=>?_,jR,GP,λi _=>by rw[Qn],by rw[Qn],G5⟩;rw[fG,List.getElem?_set_ne];rintro rfl;exact hi (hd _ rfl)
theorem ix.e9 {st:AS}(hd:∀i,d=some i->i∈ds):ix ds st (st.e9 d):=by cases d with|none=>exact ix.refl _ _|some d=>refine⟨rfl,λi _=>rfl,rfl,rfl,λi hi=>?_,?_,rfl⟩;simp only[AS.e9,dI,eY];rw[List.getElem?_set_ne];rintro rfl;exact hi (hd _ rfl);simp only[AS.e9,eY,aA]
theorem sV {α:Type}{o:aw α}{k:α->aw AS}{st':AS}(h:aa o k=some st')(hk:∀x,k x=some st'->ix ds st st'):ix ds st st':=by cases o with|none=>cases h|some x=>exact hk x h
theorem aaH {n:Nat}{k:aw AS}{st':AS}(h:room n k=some st')(hk:k=some st'->ix ds st st'):ix ds st st':=by unfold room at h;split at h;exact hk h;cases h
theorem WA {op:BinOp}{k:IntKind}{x y:Int}{K:AC->aw AS}{st':AS}(h:FJ op k x y K=some st')(hk:∀z,K z=some st'->ix ds st st'):ix ds st st':=by
 unfold FJ at h
 split at h<;>first
  |exact hk _ h
  |(split at h
    ·cases h
    ·exact hk _ h)
  |cases h
theorem WB {op:BinOp}{x y:au UInt8}{K:AC->aw AS}{st':AS}(h:It op x y K=some st')(hk:∀z,K z=some st'->ix ds st st'):ix ds st st':=by
 unfold It at h
 split at h<;>first
  |exact aaH h (hk _)
  |exact hk _ h
  |cases h
theorem Hi {op:BinOp}{x y:AV}{K:AC->aw AS}{st':AS}(h:Dw op x y K=some st')(hk:∀z,K z=some st'->ix ds st st'):ix ds st st':=by unfold Dw at h;split at h;split at h;split at h;cases h;exact hk _ h;split at h;cases h;exact hk _ h;split at h;exact WA h hk;cases h;exact WB h hk;split at h;exact hk _ h;exact hk _ h;cases h;split at h;exact sV h λb hb=>hk _ hb;exact sV h λb hb=>hk _ hb;cases h;cases h
theorem FX {lo hi:aw Operand}{n:Nat}{K:Int->Int->aw AS}{st0 st':AS}(h:lW st0 lo hi n K=some st')(hk:∀x y,K x y=some st'->ix ds st st'):ix ds st st':=by
 unfold lW at h
 split at h<;>first
  |exact hk _ _ h
  |cases h
theorem Lh {op:BinOp}{b:Bool}{K:AC->aw AS}{st':AS}(h:BG op b K=some st')(hk:∀c,K c=some st'->ix ds st st'):ix ds st st':=by unfold BG at h;split at h;exact hk _ h;exact hk _ h;cases h
theorem NR {E:Env}(hΓ:∀f,(Γ f).io=false/\(Γ f).bx=false/\(Γ f).pr=false){an:An}{o:Oper}{st':AS}(hq:gn an ds o=true)(hd:∀i,o.dst=some i->i∈ds)(h:cG E Γ an o st some=some st'):ix ds st st':=by
 have hput:∀v,some (st.put o.dst v)=some st'->ix ds st st':=λv hv=>by cases hv;exact ix.put hd v
 unfold cG at h;split at h;rename_i x ho;simp only[gn,ho]at hq;unfold Ap at h;cases hdd:o.dst with
 |none=>rw[hdd]at h;cases h
 |some d=>
  rw[hdd]at h hq;simp only at h hq;have hf:an.mv.contains d=false:=by simpa using hq
  rw[hf]at h;simp only[bf,cd]at h;cases h;exact ix.put (λi hi=>hd i (by rw[hdd];exact hi)) _
 rename_i x ho;have hlate:ym an o=false\/∃y,x=y/\(∀v,y≠ .const v)/\(∀t,y≠ .tmp t):=by cases x with|tmp t=>left;simp only[gn,ho,ae,aH]at hq;exact hq.2|const v=>left;simpa only[gn,ho,aH]using hq|func f=>simp[gn,ho]at hq|global g=>simp[gn,ho]at hq
 have hlate:ym an o=false:=by rcases hlate with h1|⟨y,rfl,h1,h2⟩;exact h1;cases x with|tmp t=>exact absurd rfl (h2 t)|const v=>exact absurd rfl (h1 v)|func f=>simp[gn,ho]at hq|global g=>simp[gn,ho]at hq
 simp only[gn,ho]at hq;rw[aD (by simp[hlate])]at h;unfold tt at h;have hx:ix ds st (st.take x).2:=by
  cases x with
  |tmp t=>
   have ht:t∈ds:=by simp only[ae]at hq;simpa using hq.1
   exact ix.put (d:=some t) (λi hi=>by cases hi;exact ht) _
  |const v=>exact ix.refl _ _
  |func f=>exact ix.refl _ _
  |global g=>exact ix.refl _ _
 split at h;split at h;exact hput _ h;cases h;rename_i v st1 _ htk;cases h;have:(st.take x).2=st1:=by rw[htk]
 rw[this]at hx;exact hx.trans (ix.put hd _);unfold Cx at h;split at h;rename_i t _;split at h;exact hput _ h;cases t with|true=>exact hput _ h|false=>exact hput _ h
 cases h;rename_i ho;simp[gn,ho]at hq;rename_i ho;simp[gn,ho]at hq;rename_i T p ho;simp only[gn,ho]at hq;have htk:CS an o=false:=by unfold CS;cases hdd:o.dst with|none=>rfl|some d=>rw[hdd]at hq;simp only[aH]at hq;simp only[hq,dw]
 unfold n9 at h;split at h;split at h;split at h;split at h;rename_i d hdd;rw[hdd]at hq;simp only at hq;have hf:an.mv.contains d=false:=by simpa using hq
 rw[hf]at h;simp only[bf,cd]at h;exact hput _ h;cases h;cases h;cases h;rw[aD (by simp[htk])]at h;split at h;split at h;exact hput _ h;cases h;unfold Bi at h;split at h;split at h;split at h;split at h;obtain⟨y,_,h⟩:=JF h;exact hput _ h;cases h;cases h;cases h;cases h;cases h;rename_i ho;simp[gn,ho]at hq;split at h;exact hput _ h;exact hput _ h;cases h;unfold yQ at h;split at h;split at h;exact Hi h λz hz=>hput _ hz;cases h;split at h;split at h;exact Hi h λz hz=>hput _ hz;cases h;cases h;split at h;split at h;cases h;exact Lh h λz hz=>hput _ hz;cases h;split at h;exact Lh h λz hz=>hput _ hz;cases h;exact Hi h λz hz=>hput _ hz;unfold unC at h;split at h;exact hput _ h;exact hput _ h;exact hput _ h;cases h;unfold ya at h;split at h;split at h;exact hput _ h;cases h;split at h;exact hput _ h;cases h;cases h;unfold lM at h;split at h;split at h;exact sV h λy hy=>hput _ hy;cases h;cases h;unfold zO at h;split at h;split at h;exact sV h λy hy=>hput _ hy;cases h;cases h;rename_i T parts ho;simp only[gn,ho]at hq;have he:parts=#[]:=by simpa using hq
 subst he;unfold zJ at h;split at h;simp only[eM,List.map_nil]at h;split at h;exact hput _ h;cases h;cases h;rename_i ho;simp[gn,ho]at hq;rename_i ho;simp[gn,ho]at hq;rename_i ho;simp only[gn,ho,aH]at hq;unfold yy at h;rw[aD (by simp[hq])]at h;split at h;split at h;exact FX h λx y hxy=>sV hxy λz hz=>hput _ hz;cases h;split at h;exact FX h λx y hxy=>sV hxy λz hz=>hput _ hz;cases h;cases h;rename_i ho;simp[gn,ho]at hq;rename_i ho;simp[gn,ho]at hq;rename_i ho;simp[gn,ho]at hq;rename_i ho;simp[gn,ho]at hq;unfold K9 at h;split at h;split at h;exact hput _ h;cases h;split at h;exact hput _ h;cases h;cases h;unfold MC at h;split at h;exact hput _ h;cases h;unfold MB at h;split at h;exact hput _ h;cases h;rename_i ho;simp[gn,ho]at hq;unfold BE at h;split at h;rename_i k _;rw[(hΓ k).2.1,(hΓ k).2.2,(hΓ k).1]at h;simp only[af]at h;refine sV h λy hy=>?_;cases hsel:(Γ k).sel y with|true=>rw[hsel]at hy;cases hy;exact(ix.e9 hd).trans (ix.put hd _)|false=>rw[hsel]at hy;cases hy;exact(ix.e9 hd).trans (ix.put hd _)
 cases h;cases h
theorem TE {ops:au Oper}{o:Oper}(ho:o∈ops){i:Nat}(hi:o.dst=some i):i∈Eh ops:=List.mem_filterMap.2 ⟨o,ho,hi⟩
theorem Li {E:Env}(hΓ:∀f,(Γ f).io=false/\(Γ f).bx=false/\(Γ f).pr=false){an:An}{ops:au Oper}{o:Oper}{st':AS}(ho:o∈ops)(hq:gn an (Eh ops) o=true)(h:gb E Γ an ops o st some=some st'):ix (Eh ops) st st':=by
 have hd:∀i,o.dst=some i->i∈Eh ops:=λi hi=>TE ho hi;unfold gb at h;split at h;exact NR hΓ hq hd h;rename_i j want hg;split at h;rename_i d hdd;have hdm:d∈Eh ops:=by rw[dI]at hdd;cases ho':ops[j]? with|none=>rw[ho']at hdd;cases hdd|some o'=>rw[ho']at hdd;exact TE (List.mem_of_getElem? ho') hdd
 have hp:∀t,ix (Eh ops) st (st.put (some d) (.one (.bool t))):=λt=>ix.put (λi hi=>by cases hi;exact hdm) _;split at h;rename_i b hb;have main:∀t,(if(t==want)=true then cG E Γ an o (st.put (some d) (.one (.bool t))) some else some ((st.put (some d) (.one (.bool t))).put o.dst (.one .un)))=some st'->ix (Eh ops) st st':=by intro t ht;split at ht;exact(hp t).trans (NR hΓ hq hd ht);cases ht;exact(hp t).trans (ix.put hd _)
 cases b with|true=>exact main true h|false=>exact main false h
 cases h;exact ix.put hd _;cases h;cases h
theorem TN {E:Env}{Γ:dm}(hΓ:∀f,(Γ f).io=false/\(Γ f).bx=false/\(Γ f).pr=false){an:An}{ops:au Oper}(hq:∀o∈ops,gn an (Eh ops) o=true):∀(l:au Oper)(st st':AS),(∀o∈l,o∈ops)->Qx E Γ an ops l st some=some st'->ix (Eh ops) st st'
 |[],st,st',_,h=>by cases h;exact ix.refl _ _
 |o::l,st,st',hl,h=>by simp only[Qx]at h;rw[pC]at h;cases hg:gb E Γ an ops o st some with|none=>rw[hg]at h;cases h|some st1=>rw[hg]at h;exact(Li hΓ (hl o (by simp)) (hq o (hl o (by simp))) hg).trans (TN hΓ hq l st1 st' (λo' ho'=>hl o' (by simp[ho'])) h)
theorem Eg {ds:eG}:∀(l:eG)(st:AS),(∀i∈l,i∈ds)->ix ds st (st.zd l)
 |[],st,_=>ix.refl _ _
 |d::l,st,h=>by
  have hd:∀i,some d=some i->i∈ds:=λi hi=>by cases hi;exact h d (by simp)
  exact((ix.put hd _).trans (ix.e9 hd)).trans (Eg l _ (λi hi=>h i (by simp[hi])))
theorem M8:∀(l:eG)(st:AS)(i:Nat)(av:AV),(st.zd l).slots[i]?=some av->i∈l\/st.slots[i]?=some .bot->av=.bot
 |[],st,i,av,h,hi=>by rcases hi with hi|hi;cases hi;have:st.slots[i]?=some av:=h;rw[hi]at this;cases this;rfl
 |d::l,st,i,av,h,hi=>by
  refine M8 l _ i av h ?_;by_cases hil:i∈l;exact .inl hil;refine .inr ?_;rw[tk,fG,List.getElem?_set];have hlt:i<st.slots.length:=by
   have h1:=(Eg (ds:=d::l) l ((st.put (some d) .bot).e9 (some d)) (λi hi=>by simp[hi])).len;have h2:=(List.getElem?_eq_some_iff.1 h).1;have h3:(AS.zd ((st.put (some d) .bot).e9 (some d)) l).slots.length=st.slots.length:=by rw[h1,tk,fG,aA]
   have h4:i<(AS.zd ((st.put (some d) .bot).e9 (some d)) l).slots.length:=h2;omega
  split;rename_i hdi;subst hdi;rw[aF hlt];rename_i hdi;rcases hi with hi|hi;simp only[bG]at hi;rcases hi with hi|hi;exact absurd hi.symm hdi;exact absurd hi hil;exact hi
theorem M9:∀(l:eG)(st:AS)(i:Nat),i∈l\/(nth st.iss i).getD true=true->(nth (st.zd l).iss i).getD true=true
 |[],st,i,hi=>by rcases hi with hi|hi;cases hi;exact hi
 |d::l,st,i,hi=>by refine M9 l _ i ?_;by_cases hil:i∈l;exact .inl hil;refine .inr ?_;have he:(AS.e9 (st.put (some d) .bot) (some d)).iss=gM st.iss d true:=rfl;rw[he,eY,dI,List.getElem?_set];split;split<;>rfl;rename_i hdi;rcases hi with hi|hi;simp only[bG]at hi;rcases hi with hi|hi;exact absurd hi.symm hdi;exact absurd hi hil;rw[dI]at hi;exact hi
theorem nf.weaken {st':AS}(h:nf C st' a w)(hn:ix ds st st'){s:Nat}{b:Bool}(hb:getBool st' s=some b):nf C ((st.zd ds).put (some s) (.one (.bool b))) a w:=by
 have hbs:st'.get s=.val false [.bool b]:=by unfold getBool at hb;split at hb;rename_i b' hg;cases hb;exact hg;cases hb
 have hkn:=h.known hbs;obtain⟨g,h⟩:=h;have hdn:=Eg (ds:=ds) ds st (λ_ hi=>hi);have hboxes:((st.zd ds).put (some s) (.one (.bool b))).boxes=st'.boxes:=by rw[jR,hdn.boxes,hn.boxes]
 have hep:((st.zd ds).put (some s) (.one (.bool b))).ep=st'.ep:=by rw[GP,hdn.ep,hn.ep]
 have hlen:((st.zd ds).put (some s) (.one (.bool b))).slots.length=st'.slots.length:=by rw[fG,aA,hdn.len,hn.len]
 have hiss:∀t,lU st' t->lU ((st.zd ds).put (some s) (.one (.bool b))) t:=by intro t ht;rw[FN];rcases ht with ht|ht;exact .inl ht;refine .inr (M9 ds st _ ?_);by_cases hi:t/3/4096∈ds;exact .inl hi;exact .inr (by rw[<-hn.iss _ hi];exact ht)
 have hpres:∀s',iK st' s'->iK ((st.zd ds).put (some s) (.one (.bool b))) s':=λs' hs=>by unfold iK at hs⊢;rw[hboxes];exact hs
 have hle:(cO C g st' w).Le (cO C g ((st.zd ds).put (some s) (.one (.bool b))) w):=⟨rfl,λt ht=>⟨hiss t ht,rfl⟩,λ_ _ _ _ _ hv=>hv,by show st'.ep<=_;rw[<-hep];exact ba _,λs' hs=>⟨hpres s' hs,rfl⟩,λ_ b o u ho hu=>⟨ho,hu⟩⟩
 refine⟨g,h.step (λ_=>True) hle h.defers (by rw[hlen];exact h.size) (by rw[hboxes,hlen];exact h.bsize) h.frame h.labs (λb x _ hx=>⟨hx,rfl,rfl⟩) ?_ ?_ ?_ (.inl ⟨ch,by rw[G5,hdn.io,hn.io]⟩)⟩;intro i av hi;rw[fG,List.getElem?_set]at hi;split at hi;rename_i hsi;subst hsi;split at hi;cases hi;refine .inr ⟨[],lN ?_,by simp,by simp⟩;exact⟨hkn,rfl⟩;cases hi;by_cases hid:i∈ds;have:=M8 ds st i av hi (.inl hid);subst this;exact .inr ⟨[],fS.bot _ _,by simp,by simp⟩;rw[hdn.slot i hid]at hi;exact .inl ⟨ch,by rw[hn.slot i hid];exact hi,rfl⟩;intro s' cs hs;rw[hboxes]at hs;exact .inl ⟨ch,hs,rfl⟩;intro k v av hk;simp at hk
theorem afM (Γ:dm)(f:Nat):(Γ.calm f).io=false/\(Γ.calm f).bx=false/\(Γ.calm f).pr=false:=by unfold dm.calm;cases h:(Γ f).io with|true=>exact⟨rfl,rfl,rfl⟩|false=>cases h2:(Γ f).bx with|true=>exact⟨rfl,rfl,rfl⟩|false=>cases h3:(Γ f).pr with|true=>exact⟨rfl,rfl,rfl⟩|false=>exact⟨h,h2,h3⟩
theorem aha (Γ:dm)(f:Nat):(Γ.EN f).io=false/\((Γ.EN f).bx=true->(Γ.EN f).cur=true)/\(Γ.EN f).pr=false:=by unfold dm.EN;cases h:(Γ f).io with|true=>exact⟨rfl,λh=>(by cases h),rfl⟩|false=>cases h3:(Γ f).pr with|true=>exact⟨rfl,λh=>(by cases h),rfl⟩|false=>cases h2:(Γ f).bx with|false=>exact⟨h,λh=>(by simp[h2]at h),h3⟩|true=>cases h4:(Γ f).cur with|true=>exact⟨h,λ_=>h4,h3⟩|false=>exact⟨rfl,λh=>(by cases h),rfl⟩
theorem ahb (hΓ:∀f,(Γ f).io=false/\(Γ f).bx=false/\(Γ f).pr=false)(f:Nat):(Γ.EN f).io=false/\(Γ.EN f).bx=false/\(Γ.EN f).pr=false:=by have h:=hΓ f;unfold dm.EN;rw[h.1,h.2.1,h.2.2];exact h
theorem Sound.EN {E:Env}(h:Sound P E Γ):Sound P E Γ.EN:=by refine⟨h.ty,h.eqs,h.fts,λf=>?_,h.mixed⟩;unfold dm.EN;cases (Γ f).io||(Γ f).pr||((Γ f).bx&& !(Γ f).cur)with|true=>intro xs y hy;cases hy|false=>exact h.fns f
theorem Sound.calm {E:Env}(h:Sound P E Γ):Sound P E Γ.calm:=by refine⟨h.ty,h.eqs,h.fts,λf=>?_,h.mixed⟩;unfold dm.calm;cases (Γ f).io with|true=>intro xs y hy;cases hy|false=>cases (Γ f).bx with|true=>intro xs y hy;cases hy|false=>cases (Γ f).pr with|true=>intro xs y hy;cases hy|false=>exact h.fns f
end Go.Dn
