import Derived.Test.YtfbhfnniblfpbaaGreatDnDen
import Derived.Test.YtfbhfnniblfpbaaGreatDnNat
/- What is kept at a loop's door; what a region whose ways meet again leaves. -/
namespace Go.Dn
open Go.RowKit
variable {P:Program} {C:Ctx} {st:AS} {a:Act} {w:World} {R:Type} {r:R}
variable {an:An} {Γ:xu} {io:au AC} {d:ax Nat} {ds keep:eo}
theorem Hf (keep:eo)(ep:Nat)(io:au AC):∀(l:au AV)(n i:Nat),(nN keep ep io n l)[i]?=(l[i]?).map λv=>if keep.contains (n+i) then v.mask keep ep io (n+i) else .bot
 |[],n,i=>by simp[nN]
 |v::l,n,0=>by simp[nN]
 |v::l,n,i+1=>by simp only[nN,eH];rw[Hf keep ep io l (n+1) i,show n+1+i=n+(i+1) by omega]
theorem CM (keep:eo)(ep:Nat)(io:au AC):∀(l:au (ax (au AC)))(n i:Nat),(nM keep ep io n l)[i]?=(l[i]?).map λb=>if keep.contains (n+i) then b.map (Kz keep ep io (.box (n+i)) 0) else none
 |[],n,i=>by simp[nM]
 |v::l,n,0=>by simp[nM]
 |v::l,n,i+1=>by simp only[nM,eH];rw[CM keep ep io l (n+1) i,show n+1+i=n+(i+1) by omega]
theorem xJ (keep:eo)(ep:Nat)(io:au AC):∀(l:au AV)(n:Nat),(nN keep ep io n l).length=l.length
 |[],_=>rfl
 |_::l,n=>by simp[nN,xJ keep ep io l]
theorem Dm (keep:eo)(ep:Nat)(io:au AC):∀(l:au (ax (au AC)))(n:Nat),(nM keep ep io n l).length=l.length
 |[],_=>rfl
 |_::l,n=>by simp[nM,Dm keep ep io l]
def W4:Value->AV->ie
 | .agg vs,.val true _=>vs.toList
 |v,_=>[v]
theorem W7 {g:Bool}{v:Value}{vs:ie}{cs:au AC}(h:Cut g v vs):W4 v (.val g cs)=vs:=by cases g with|true=>simp only[Cut,cp]at h;subst h;simp[W4]|false=>simp only[Cut]at h;subst h;cases v<;>rfl
def DR (ioV:ie)(st:AS)(a:Act)(w:World)(β:Nat->Nat)(t:Nat):Value:=
 if t%3=0/\t/3/4096=1000003 then(ioV[t/3%4096]?).getD undef
 else if t%3=0 then((W4 (a.tmps.getD (t/3/4096) undef) (st.get (t/3/4096)))[t/3%4096]?).getD undef
 else match w.heap[β (t/3/4096)]? with
  |some (.cells arr _ _)=>(arr.toList[t/3%4096]?).getD undef
  |_=>undef
def WD (c c':RC)(io:au AC):Prop:=∀j n (e:CT)(ys:au e.D),AC.adP io j n e=some ys->∃v0 fp0,eP c.hw c.w (.sl e) [v0] ys fp0/\v0=c.hdr n/\∀q,(kL.io j).F0=some q->c'.iss q/\v0=c'.hdr q
theorem abg {c c':RC}(Nz:WD c c' io){rt:kL}{v:Value}{x:AC}{fp:eo}(h:gE c v x fp)(Gs:c'.hw=c.hw)(hw:c'.w=c.w)(hA:c'.A=c.A)(zM:c'.ep=0)(Km:c'.β=c.β)(vT:∀s,keep.contains s=true->c.Jm s->c'.Jm s)(lE:∀t,rt.F0=some t->c'.iss t/\v=c'.hdr t):gE c' v (x.mask keep c.ep io rt) fp:=by
 have hS:c'.S=c.S:=by funext b o;simp[RC.S,Gs,hA]
 cases x with
 |int k n=>exact h
 |bool b=>exact h
 |str s=>exact h
 |jE=>exact h
 |fn f=>exact h
 |un=>exact h
 |bot=>exact h
 |ptr s off=>simp only[AC.mask];split;rename_i hk;exact⟨by rw[Km];exact h.1,vT s hk h.2.1,h.2.2⟩;exact h.2.2
 |Cd fl e y i off=>cases fl with|own t=>exact h.elim|nest _ _ _ _ _ _=>exact h.elim|part _ _ _ _=>exact h.elim|eY _ _ _=>exact h.elim|arg _=>exact h.1|loc ep pv=>exact h.1
 |sl fl e xs=>
  cases fl with
  |own t=>exact⟨eP.mono h.1 (λb _=>⟨by rw[hw],by rw[Gs]⟩),lE⟩
  |nest _ _ _ _ _ _=>exact h.1
  |part _ _ _ _=>exact h.1
  |eY _ _ _=>obtain⟨_,⟨k,hk,h3⟩,_⟩:=h;exact⟨λq hq=>(by cases hq),⟨k,hk,h3.mono (λb hb=>⟨by rw[hw],by rw[Gs]⟩)⟩,by simp⟩
  |arg _=>exact⟨h.1,by rw[hA,hw];exact h.2⟩
  |loc ep pv=>
   obtain⟨h1,h2,h3,h4,h5⟩:=h;have plain:gE c' v (if(ep==c.ep)=true then AC.sl (.loc 0 none) e xs else .bot) fp:=by split;rename_i he;refine⟨h1,by rw[zM];exact aU _,h3,λ_=>?_,by simp⟩;rw[hS,hw];exact h4 (by simpa using he);exact h1
   simp only[AC.mask];split;rename_i j n;split;rename_i ys Fu;obtain⟨v0,fp0,fU,Ll,hq⟩:=Nz j n e ys Fu;obtain⟨_,k2⟩:=h5 _ _ rfl;have hv:v0=v:=Ll.trans k2.symm;subst hv;refine⟨h1,by rw[zM];exact aU _,Ji fU,λ_=>?_,λr t hp=>?_⟩;rw[hS,hw];exact eP.rep (λb o ho=> .inr ho) fU;cases xt:(kL.io j).F0 with|none=>rw[xt]at hp;cases hp|some q=>rw[xt]at hp;simp at hp;obtain⟨_,rfl⟩:=hp;exact⟨(hq q xt).1,(hq q xt).2⟩
   exact plain;exact plain
theorem HV {c c':RC}(Nz:WD c c' io){f:Nat->kL}(Gs:c'.hw=c.hw)(hw:c'.w=c.w)(hA:c'.A=c.A)(zM:c'.ep=0)(Km:c'.β=c.β)
 (vT:∀s,keep.contains s=true->c.Jm s->c'.Jm s):∀{vs:ie}{xs:au AC}{fp:eo}(j:Nat),bE c vs xs fp->
  (∀i v,vs[i]?=some v->∀t,(f (j+i)).F0=some t->c'.iss t/\v=c'.hdr t)->bE c' vs (Kz keep c.ep io f j xs) fp
 |[],[],_,_,h,_=>h
 |v::_,_::_,_,j,h,hm=>by obtain⟨f1,f2,rfl,h1,h2⟩:=h;exact⟨f1,f2,rfl,abg Nz h1 Gs hw hA zM Km vT (λt ht=>hm 0 v rfl t ht),HV Nz Gs hw hA zM Km vT (j+1) h2 (λi u hu t ht=>hm (i+1) u (by simpa using hu) t (by rwa[show j+(i+1)=j+1+i by omega]))⟩
 |[],_::_,_,_,h,_=>h.elim
 |_::_,[],_,_,h,_=>h.elim
theorem ad7 {c:RC}{v:Value}{x:AC}{fp:eo}(h:gE c v x fp)(Ib:∀(tag:ax Nat)(e:CT)(xs:au e.D),x=.sl (.own tag) e xs->False)(ahj:∀(tag:ax Nat)(i:Int)(ep:ax Nat)(e:CT)(xs:au e.D),x=.sl (.eY tag i ep) e xs->False):fp=[]:=by
 cases x with
 |int k n=>exact h.2
 |bool b=>exact h.2
 |str s=>exact h.2
 |jE=>exact h.2
 |fn f=>exact h.2
 |un=>exact h.2
 |bot=>exact h
 |ptr s off=>exact h.2.2
 |Cd fl e y i off=>cases fl with|own t=>exact h.elim|nest _ _ _ _ _ _=>exact h.elim|part _ _ _ _=>exact h.elim|eY _ _ _=>exact h.elim|arg _=>exact h.1|loc ep pv=>exact h.1
 |sl fl e xs=>cases fl with|own t=>exact(Ib _ _ _ rfl).elim|nest _ _ _ _ _ _=>exact h.1|part _ _ _ _=>exact h.1|eY _ _ _=>exact(ahj _ _ _ _ _ rfl).elim|arg _=>exact h.1|loc ep pv=>exact h.1
theorem oz.mask (h:oz C st a w)(keep:eo):oz C (st.mask keep) a w:=by
 obtain⟨g,h⟩:=h;let g':Gh:={g with hdr:=DR C.ioV st a w g.β}
 have vT:∀s,keep.contains s=true->jm st s->jm (st.mask keep) s:=by rintro s hk ⟨cs,hs⟩;refine⟨Kz keep st.ep st.io (.box s) 0 cs,?_⟩;show(nM keep st.ep st.io 0 st.boxes)[s]?=_;rw[CM,hs];simp only[dk,cl,aF hk]
 obtain⟨fpi,hri,hni,hli⟩:=h.io;have aiq:∀j v,C.ioV[j]?=some v->∀q,(kL.io j).F0=some q->mX (st.mask keep) q/\v=DR C.ioV st a w g.β q:=by
  intro j v hv q hq;simp only[kL.F0]at hq;cases hb:Nat.ble 4096 j with
  |true=>rw[hb]at hq;cases hq
  |false=>
   rw[hb]at hq;simp only[ae,ba,AD]at hq;have hj:j<4096:=by rcases bQ j 4096 with gB|Ae;exact gB;rw[gG Ae]at hb;cases hb
   have h0:q%3=0:=by omega
   have h1:q/3/4096=1000003:=by omega
   have h2:q/3%4096=j:=by omega
   refine⟨.inl (by omega),?_⟩;rw[DR,aF ⟨h0,h1⟩,h2,hv];rfl
 have agD:WD (cQ C g st w) (cQ C g' (st.mask keep) w) st.io:=by
  intro j n e ys Fu;unfold AC.adP at Fu;split at Fu;rename_i t' e' ys' hj;split at Fu;rename_i he;subst he;cases ht:(t'==n)with
  |false=>rw[ht]at Fu;cases Fu
  |true=>
   rw[ht]at Fu;have:t'=n:=by simpa using ht
   subst this;cases Fu;rw[dJ]at hj;obtain⟨v,f,hv,hr,_⟩:=hri.get j _ hj;exact⟨v,f,hr.1,(hr.2 t' rfl).2,λq hq=>aiq j v hv q hq⟩
  cases Fu;cases Fu
 have aoq:∀(j:Nat){vs:ie}{xs:au AC}{fp:eo},bE (cQ C g st w) vs xs fp->(∀i v,vs[i]?=some v->C.ioV[j+i]?=some v)->bE (cQ C g' (st.mask keep) w) vs (XZ keep j xs) fp:=by
  intro j vs
  induction vs generalizing j with
  |nil=>intro xs fp hr _;cases xs with
   |nil=>exact hr
   |cons _ _=>exact hr.elim
  |cons v vs ih=>
   intro xs fp hr hv
   cases xs with
   |nil=>exact hr.elim
   |cons x xs=>
    obtain⟨f1,f2,rfl,r1,r2⟩:=hr
    refine⟨f1,f2,rfl,?_,ih (j+1) r2 (λi u hu=>by rw[show j+1+i=j+(i+1) by omega];exact hv (i+1) u (by simpa using hu))⟩
    have Ll:=hv 0 v rfl
    rw[eh]at Ll
    split
    ·rename_i tg e ys
     exact⟨r1.1,λq hq=>aiq j v Ll q hq⟩
    ·rename_i tag i ep e ys
     obtain⟨_,⟨k,hk,h3⟩,_⟩:=r1
     exact⟨λq hq=>(by cases hq),⟨k,hk,h3⟩,by simp⟩
    ·rename_i s off
     split
     ·rename_i hk
      exact⟨r1.1,vT s hk r1.2.1,r1.2.2⟩
     ·exact r1.2.2
    ·rename_i Ib ahj _
     cases hfl:x.jl with
     |true=>
      obtain⟨rfl,k⟩:=qe (c':=cQ C g' (st.mask keep) w) r1 hfl
      exact k
     |false=>exact ad7 r1 Ib ahj
 refine⟨g',h.defers,?_,?_,λi av hi=>?_,λs cs hs=>?_,λk v av hk=>by simp at hk,h.fR,h.frame,⟨fpi,aoq 0 hri (λi v hv=>by rw[cl];exact hv),hni,hli⟩⟩;show _=(nN keep st.ep st.io 0 st.slots).length;rw[xJ];exact h.size;show(nM keep st.ep st.io 0 st.boxes).length=(nN keep st.ep st.io 0 st.slots).length;rw[xJ,Dm];exact h.bsize;have vR:(nN keep st.ep st.io 0 st.slots)[i]?=some av:=hi;rw[Hf,cl]at vR;cases hv:st.slots[i]? with
 |none=>rw[hv]at vR;cases vR
 |some x=>
  rw[hv]at vR;simp only[dk,ba]at vR;split at vR
  ·subst vR
   cases hx:x with
   |xn ts=>exact⟨[],fF.bot _ _,by simp,by simp⟩
   |val gg cs=>
    rw[hx]at hv
    obtain⟨fp,⟨vs,eR,hr⟩,hn,hl⟩:=h.slots i _ hv
    refine⟨fp,⟨vs,eR,HV (io:=st.io) agD (c:=cQ C g st w) (c':=cQ C g' (st.mask keep) w) rfl rfl rfl rfl rfl vT 0 hr ?_⟩,hn,hl⟩
    intro j u hu t ht
    simp only[cl,kL.F0]at ht
    cases hb:Nat.ble 4096 j with
    |true=>rw[hb]at ht;cases ht
    |false=>
     rw[hb]at ht
     simp only[ae]at ht
     cases G5:Nat.ble 1000000 i with
     |true=>rw[G5]at ht;cases ht
     |false=>
     rw[G5]at ht
     simp only[ae,ba]at ht
     have hi6:i<1000000:=by rcases bQ i 1000000 with gB|Ae;exact gB;rw[gG Ae]at G5;cases G5
     have hj:j<4096:=by rcases bQ j 4096 with gB|Ae;exact gB;rw[gG Ae]at hb;cases hb
     have h0:t%3=0:=by omega
     have h1:t/3/4096=i:=by omega
     have h2:t/3%4096=j:=by omega
     refine⟨.inl (by omega),?_⟩
     show u=DR C.ioV st a w g.β t
     rw[DR,mQ,aF h0,h1,h2,get_eq hv,W7 eR,hu];rfl
  subst vR;exact⟨[],fF.bot _ _,by simp,by simp⟩
 have uo:(nM keep st.ep st.io 0 st.boxes)[s]?=some (some cs):=hs;rw[CM,cl]at uo;cases hv:st.boxes[s]? with
 |none=>rw[hv]at uo;cases uo
 |some x=>
  rw[hv]at uo;simp only[dk,ba]at uo;split at uo;cases hx:x with
  |none=>rw[hx]at uo;cases uo
  |some xs=>
   rw[hx]at uo hv;simp only[dk,ba]at uo;subst uo;obtain⟨arr,T,fr,fp,hb,tw,hr,hn,hni,hl,Ia,Ic⟩:=h.boxes s xs hv;refine⟨arr,T,fr,fp,hb,tw,HV (io:=st.io) agD (c:=cQ C g st w) (c':=cQ C g' (st.mask keep) w) rfl rfl rfl rfl rfl vT 0 hr ?_,hn,hni,hl,Ia,Ic⟩;intro j u hu t ht;simp only[cl,kL.F0]at ht;cases Xm:Nat.ble 4096 j with
   |true=>rw[Xm]at ht;cases ht
   |false=>
    rw[Xm]at ht;simp only[ae,ba]at ht;have hj:j<4096:=by rcases bQ j 4096 with gB|Ae;exact gB;rw[gG Ae]at Xm;cases Xm
    have h0:¬t%3=0:=by omega
    have h1:t/3/4096=s:=by omega
    have h2:t/3%4096=j:=by omega
    refine⟨.inl (by omega),?_⟩;show u=DR C.ioV st a w g.β t;rw[DR,mQ,aH h0,h1,h2,hb];simp only;rw[hu];rfl
  cases uo
structure iW (ds:List Nat) (st bM:AS):Prop where
 len:bM.slots.length=st.slots.length
 slot:∀i,i∉ds->bM.slots[i]?=st.slots[i]?
 boxes:bM.boxes=st.boxes
 ep:bM.ep=st.ep
 iss:∀i,i∉ds->nth bM.iss i=nth st.iss i
 aiL:bM.iss.length=st.iss.length
 io:bM.io=st.io
theorem iW.refl (ds:eo)(st:AS):iW ds st st:=⟨rfl,λ_ _=>rfl,rfl,rfl,λ_ _=>rfl,rfl,rfl⟩
theorem iW.trans {st st1 st2:AS}(h:iW ds st st1)(k:iW ds st1 st2):iW ds st st2:=⟨k.len.trans h.len,λi hi=>(k.slot i hi).trans (h.slot i hi),k.boxes.trans h.boxes,k.ep.trans h.ep,λi hi=>(k.iss i hi).trans (h.iss i hi),k.aiL.trans h.aiL,k.io.trans h.io⟩
theorem iW.put {st:AS}(hd:∀i,d=some i->i∈ds)(v:AV):iW ds st (st.put d v):=by cases d with|none=>exact iW.refl _ _|some d=>refine⟨by rw[fD,aB],λi hi=>?_,kM,Kf,λi _=>by rw[SK],by rw[SK],Kt⟩;rw[fD,aR];rintro rfl;exact hi (hd _ rfl)
theorem iW.fi {st:AS}(hd:∀i,d=some i->i∈ds):iW ds st (st.fi d):=by cases d with|none=>exact iW.refl _ _|some d=>refine⟨rfl,λi _=>rfl,rfl,rfl,λi hi=>?_,?_,rfl⟩;simp only[AS.fi,dJ,fg];rw[aR];rintro rfl;exact hi (hd _ rfl);simp only[AS.fi,fg,aB]
theorem vd {α:Type}{o:ax α}{k:α->ax AS}{bM:AS}(h:aa o k=some bM)(hk:∀x,k x=some bM->iW ds st bM):iW ds st bM:=by cases o with|none=>cases h|some x=>exact hk x h
theorem abu {n:Nat}{k:ax AS}{bM:AS}(h:room n k=some bM)(hk:k=some bM->iW ds st bM):iW ds st bM:=by unfold room at h;split at h;exact hk h;cases h
theorem X7 {op:BinOp}{k:IntKind}{x y:Int}{K:AC->ax AS}{bM:AS}(h:I6 op k x y K=some bM)(hk:∀z,K z=some bM->iW ds st bM):iW ds st bM:=by
 unfold I6 at h
 split at h<;>first
  |exact hk _ h
  |(split at h
    ·cases h
    ·exact hk _ h)
  |cases h
theorem X8 {op:BinOp}{x y:au UInt8}{K:AC->ax AS}{bM:AS}(h:LW op x y K=some bM)(hk:∀z,K z=some bM->iW ds st bM):iW ds st bM:=by
 unfold LW at h
 split at h<;>first
  |exact abu h (hk _)
  |exact hk _ h
  |cases h
theorem KC {op:BinOp}{x y:AV}{K:AC->ax AS}{bM:AS}(h:GQ op x y K=some bM)(hk:∀z,K z=some bM->iW ds st bM):iW ds st bM:=by unfold GQ at h;split at h;split at h;split at h;cases h;exact hk _ h;split at h;cases h;exact hk _ h;split at h;exact X7 h hk;cases h;exact X8 h hk;split at h;exact hk _ h;exact hk _ h;cases h;split at h;exact vd h λb hb=>hk _ hb;exact vd h λb hb=>hk _ hb;cases h;cases h
theorem Je {lo hi:ax Operand}{n:Nat}{K:Int->Int->ax AS}{st0 bM:AS}(h:mZ st0 lo hi n K=some bM)(hk:∀x y,K x y=some bM->iW ds st bM):iW ds st bM:=by
 unfold mZ at h
 split at h<;>first
  |exact hk _ _ h
  |cases h
theorem N8 {op:BinOp}{b:Bool}{K:AC->ax AS}{bM:AS}(h:EG op b K=some bM)(hk:∀c,K c=some bM->iW ds st bM):iW ds st bM:=by unfold EG at h;split at h;exact hk _ h;exact hk _ h;cases h
theorem Q3 {E:Env}(B5:∀f,(Γ f).io=false/\(Γ f).bx=false/\(Γ f).pr=false){o:Oper}{bM:AS}(hq:gq an ds o=true)(hd:∀i,o.dst=some i->i∈ds)(h:dg E Γ an o st some=some bM):iW ds st bM:=by
 have xr:∀v,some (st.put o.dst v)=some bM->iW ds st bM:=λv hv=>by cases hv;exact iW.put hd v
 unfold dg at h;split at h;rename_i x ho;simp only[gq,ho]at hq;unfold Dp at h;cases Si:o.dst with
 |none=>rw[Si]at h;cases h
 |some d=>
  rw[Si]at h hq;simp only at h hq;have hf:an.mv.contains d=false:=by simpa using hq
  rw[hf]at h;simp only[aX,cc]at h;cases h;exact iW.put (λi hi=>hd i (by rw[Si];exact hi)) _
 rename_i x ho;have EJ:BJ an o=false\/∃y,x=y/\(∀v,y≠ .const v)/\(∀t,y≠ .tmp t):=by cases x with|tmp t=>left;simp only[gq,ho,ah,aN]at hq;exact hq.2|const v=>left;simpa only[gq,ho,aN]using hq|func f=>simp[gq,ho]at hq|global g=>simp[gq,ho]at hq
 have EJ:BJ an o=false:=by rcases EJ with h1|⟨y,rfl,h1,h2⟩;exact h1;cases x with|tmp t=>exact absurd rfl (h2 t)|const v=>exact absurd rfl (h1 v)|func f=>simp[gq,ho]at hq|global g=>simp[gq,ho]at hq
 simp only[gq,ho]at hq;rw[aH (by simp[EJ])]at h;unfold vJ at h;have hx:iW ds st (st.take x).2:=by
  cases x with
  |tmp t=>
   have ht:t∈ds:=by simp only[ah]at hq;simpa using hq.1
   exact iW.put (d:=some t) (λi hi=>by cases hi;exact ht) _
  |const v=>exact iW.refl _ _
  |func f=>exact iW.refl _ _
  |global g=>exact iW.refl _ _
 split at h;split at h;exact xr _ h;cases h;rename_i v st1 _ tI;cases h;have:(st.take x).2=st1:=by rw[tI]
 rw[this]at hx;exact hx.trans (iW.put hd _);unfold FG at h;split at h;rename_i t _;split at h;exact xr _ h;cases t with|true=>exact xr _ h|false=>exact xr _ h
 cases h;rename_i ho;simp[gq,ho]at hq;rename_i ho;simp[gq,ho]at hq;rename_i T p ho;simp only[gq,ho]at hq;have tI:F3 an o=false:=by unfold F3;cases Si:o.dst with|none=>rfl|some d=>rw[Si]at hq;simp only[aN]at hq;simp only[hq,gD]
 unfold pL at h;split at h;split at h;split at h;split at h;rename_i d Si;rw[Si]at hq;simp only at hq;have hf:an.mv.contains d=false:=by simpa using hq
 rw[hf]at h;simp only[aX,cc]at h;exact xr _ h;cases h;cases h;cases h;rw[aH (by simp[tI])]at h;split at h;split at h;exact xr _ h;cases h;unfold Ep at h;split at h;split at h;split at h;split at h;obtain⟨y,_,h⟩:=MP h;exact xr _ h;cases h;cases h;cases h;cases h;cases h;rename_i ho;simp[gq,ho]at hq;split at h;exact xr _ h;exact xr _ h;cases h;unfold B9 at h;split at h;split at h;exact KC h λz hz=>xr _ hz;cases h;split at h;split at h;exact KC h λz hz=>xr _ hz;cases h;cases h;split at h;split at h;cases h;exact N8 h λz hz=>xr _ hz;cases h;split at h;exact N8 h λz hz=>xr _ hz;cases h;exact KC h λz hz=>xr _ hz;unfold unC at h;split at h;exact xr _ h;exact xr _ h;exact xr _ h;cases h;unfold Bu at h;split at h;split at h;exact xr _ h;cases h;split at h;exact xr _ h;cases h;cases h;unfold mG at h;split at h;split at h;exact vd h λy hy=>xr _ hy;cases h;cases h;unfold CL at h;split at h;split at h;exact vd h λy hy=>xr _ hy;cases h;cases h;rename_i T parts ho;simp only[gq,ho]at hq;have he:parts=#[]:=by simpa using hq
 subst he;unfold CE at h;split at h;simp only[eM,List.map_nil]at h;split at h;exact xr _ h;cases h;cases h;rename_i ho;simp[gq,ho]at hq;rename_i ho;simp[gq,ho]at hq;rename_i ho;simp only[gq,ho,aN]at hq;unfold BQ at h;rw[aH (by simp[hq])]at h;split at h;split at h;exact Je h λx y hxy=>vd hxy λz hz=>xr _ hz;cases h;split at h;exact Je h λx y hxy=>vd hxy λz hz=>xr _ hz;cases h;cases h;rename_i ho;simp[gq,ho]at hq;rename_i ho;simp[gq,ho]at hq;rename_i ho;simp[gq,ho]at hq;rename_i ho;simp[gq,ho]at hq;unfold N1 at h;split at h;split at h;exact xr _ h;cases h;split at h;exact xr _ h;cases h;cases h;unfold PH at h;split at h;exact xr _ h;cases h;unfold PG at h;split at h;exact xr _ h;cases h;rename_i ho;simp[gq,ho]at hq;unfold EE at h;split at h;rename_i k _;rw[(B5 k).2.1,(B5 k).2.2,(B5 k).1]at h;simp only[ae]at h;refine vd h λy hy=>?_;cases Pz:(Γ k).sel y with|true=>rw[Pz]at hy;cases hy;exact(iW.fi hd).trans (iW.put hd _)|false=>rw[Pz]at hy;cases hy;exact(iW.fi hd).trans (iW.put hd _)
 cases h;cases h
theorem Vc {ops:au Oper}{o:Oper}(ho:o∈ops){i:Nat}(hi:o.dst=some i):i∈HC ops:=List.mem_filterMap.2 ⟨o,ho,hi⟩
theorem N9 {E:Env}(B5:∀f,(Γ f).io=false/\(Γ f).bx=false/\(Γ f).pr=false){ops:au Oper}{o:Oper}{bM:AS}(ho:o∈ops)(hq:gq an (HC ops) o=true)(h:gi E Γ an ops o st some=some bM):iW (HC ops) st bM:=by
 have hd:∀i,o.dst=some i->i∈HC ops:=λi hi=>Vc ho hi;unfold gi at h;split at h;exact Q3 B5 hq hd h;rename_i j H4 hg;split at h;rename_i d Si;have hdm:d∈HC ops:=by rw[dJ]at Si;cases L5:ops[j]? with|none=>rw[L5]at Si;cases Si|some o'=>rw[L5]at Si;exact Vc (bn L5) Si
 have hp:∀t,iW (HC ops) st (st.put (some d) (.one (.bool t))):=λt=>iW.put (λi hi=>by cases hi;exact hdm) _;split at h;rename_i b hb;have main:∀t,(if(t==H4)=true then dg E Γ an o (st.put (some d) (.one (.bool t))) some else some ((st.put (some d) (.one (.bool t))).put o.dst (.one .un)))=some bM->iW (HC ops) st bM:=by intro t ht;split at ht;exact(hp t).trans (Q3 B5 hq hd ht);cases ht;exact(hp t).trans (iW.put hd _)
 cases b with|true=>exact main true h|false=>exact main false h
 cases h;exact iW.put hd _;cases h;cases h
theorem Vm {E:Env}(B5:∀f,(Γ f).io=false/\(Γ f).bx=false/\(Γ f).pr=false){ops:au Oper}(hq:∀o∈ops,gq an (HC ops) o=true):∀(l:au Oper)(st bM:AS),(∀o∈l,o∈ops)->SV E Γ an ops l st some=some bM->iW (HC ops) st bM
 |[],st,bM,_,h=>by cases h;exact iW.refl _ _
 |o::l,st,bM,hl,h=>by simp only[SV]at h;rw[rp]at h;cases hg:gi E Γ an ops o st some with|none=>rw[hg]at h;cases h|some st1=>rw[hg]at h;exact(N9 B5 (hl o (by simp)) (hq o (hl o (by simp))) hg).trans (Vm B5 hq l st1 bM (λo' L5=>hl o' (by simp[L5])) h)
theorem HB:∀(l:eo)(st:AS),(∀i∈l,i∈ds)->iW ds st (st.Cc l)
 |[],st,_=>iW.refl _ _
 |d::l,st,h=>by
  have hd:∀i,some d=some i->i∈ds:=λi hi=>by cases hi;exact h d (by simp)
  exact((iW.put hd _).trans (iW.fi hd)).trans (HB l _ (λi hi=>h i (by simp[hi])))
theorem Qi:∀(l:eo)(st:AS)(i:Nat)(av:AV),(st.Cc l).slots[i]?=some av->i∈l\/st.slots[i]?=some .bot->av=.bot
 |[],st,i,av,h,hi=>by rcases hi with hi|hi;cases hi;have:st.slots[i]?=some av:=h;rw[hi]at this;cases this;rfl
 |d::l,st,i,av,h,hi=>by
  refine Qi l _ i av h ?_;by_cases Pw:i∈l;exact .inl Pw;refine .inr ?_;rw[vC,fD,br];have gB:i<st.slots.length:=by
   have h1:=(HB (ds:=d::l) l ((st.put (some d) .bot).fi (some d)) (λi hi=>by simp[hi])).len;have h2:=(aE.1 h).1;have h3:(AS.Cc ((st.put (some d) .bot).fi (some d)) l).slots.length=st.slots.length:=by rw[h1,vC,fD,aB]
   have h4:i<(AS.Cc ((st.put (some d) .bot).fi (some d)) l).slots.length:=h2;omega
  split;rename_i hdi;subst hdi;rw[aF gB];rename_i hdi;rcases hi with hi|hi;simp only[cg]at hi;rcases hi with hi|hi;exact absurd hi.symm hdi;exact absurd hi Pw;exact hi
theorem Qj:∀(l:eo)(st:AS)(i:Nat),i∈l\/(nth st.iss i).getD true=true->(nth (st.Cc l).iss i).getD true=true
 |[],st,i,hi=>by rcases hi with hi|hi;cases hi;exact hi
 |d::l,st,i,hi=>by refine Qj l _ i ?_;by_cases Pw:i∈l;exact .inl Pw;refine .inr ?_;have he:(AS.fi (st.put (some d) .bot) (some d)).iss=gN st.iss d true:=rfl;rw[he,fg,dJ,br];split;split<;>rfl;rename_i hdi;rcases hi with hi|hi;simp only[cg]at hi;rcases hi with hi|hi;exact absurd hi.symm hdi;exact absurd hi Pw;rw[dJ]at hi;exact hi
theorem oz.weaken {bM:AS}(h:oz C bM a w)(hn:iW ds st bM){s:Nat}{b:Bool}(hb:getBool bM s=some b):oz C ((st.Cc ds).put (some s) (.one (.bool b))) a w:=by
 have G5:bM.get s=.val false [.bool b]:=by unfold getBool at hb;split at hb;rename_i b' hg;cases hb;exact hg;cases hb
 have hkn:=h.known G5;obtain⟨g,h⟩:=h;have hdn:=HB (ds:=ds) ds st (λ_ hi=>hi);have uZ:((st.Cc ds).put (some s) (.one (.bool b))).boxes=bM.boxes:=by rw[kM,hdn.boxes,hn.boxes]
 have zM:((st.Cc ds).put (some s) (.one (.bool b))).ep=bM.ep:=by rw[Kf,hdn.ep,hn.ep]
 have hlen:((st.Cc ds).put (some s) (.one (.bool b))).slots.length=bM.slots.length:=by rw[fD,aB,hdn.len,hn.len]
 have II:∀t,mX bM t->mX ((st.Cc ds).put (some s) (.one (.bool b))) t:=by intro t ht;rw[I9];rcases ht with ht|ht;exact .inl ht;refine .inr (Qj ds st _ ?_);by_cases hi:t/3/4096∈ds;exact .inl hi;exact .inr (by rw[<-hn.iss _ hi];exact ht)
 have vT:∀s',jm bM s'->jm ((st.Cc ds).put (some s) (.one (.bool b))) s':=λs' hs=>by unfold jm at hs⊢;rw[uZ];exact hs
 have hle:(cQ C g bM w).Le (cQ C g ((st.Cc ds).put (some s) (.one (.bool b))) w):=⟨rfl,λt ht=>⟨II t ht,rfl⟩,λ_ _ _ _ _ hv=>hv,by show bM.ep<=_;rw[<-zM];exact aU _,λs' hs=>⟨vT s' hs,rfl⟩,λ_ b o u ho hu=>⟨ho,hu⟩⟩
 refine⟨g,h.step (λ_=>True) hle h.defers (by rw[hlen];exact h.size) (by rw[uZ,hlen];exact h.bsize) h.frame h.fR (λb x _ hx=>⟨hx,rfl,rfl⟩) ?_ ?_ ?_ (.inl ⟨cv,by rw[Kt,hdn.io,hn.io]⟩)⟩;intro i av hi;rw[fD,br]at hi;split at hi;rename_i hsi;subst hsi;split at hi;cases hi;refine .inr ⟨[],mH ?_,by simp,by simp⟩;exact⟨hkn,rfl⟩;cases hi;by_cases Ux:i∈ds;have:=Qi ds st i av hi (.inl Ux);subst this;exact .inr ⟨[],fF.bot _ _,by simp,by simp⟩;rw[hdn.slot i Ux]at hi;exact .inl ⟨cv,by rw[hn.slot i Ux];exact hi,rfl⟩;intro s' cs hs;rw[uZ]at hs;exact .inl ⟨cv,hs,rfl⟩;intro k v av hk;simp at hk
theorem afe (Γ:xu)(f:Nat):(Γ.calm f).io=false/\(Γ.calm f).bx=false/\(Γ.calm f).pr=false:=by unfold xu.calm;cases h:(Γ f).io with|true=>exact⟨rfl,rfl,rfl⟩|false=>cases h2:(Γ f).bx with|true=>exact⟨rfl,rfl,rfl⟩|false=>cases h3:(Γ f).pr with|true=>exact⟨rfl,rfl,rfl⟩|false=>exact⟨h,h2,h3⟩
theorem agf (Γ:xu)(f:Nat):(Γ.H2 f).io=false/\((Γ.H2 f).bx=true->(Γ.H2 f).cur=true)/\(Γ.H2 f).pr=false:=by unfold xu.H2;cases h:(Γ f).io with|true=>exact⟨rfl,λh=>(by cases h),rfl⟩|false=>cases h3:(Γ f).pr with|true=>exact⟨rfl,λh=>(by cases h),rfl⟩|false=>cases h2:(Γ f).bx with|false=>exact⟨h,λh=>(by simp[h2]at h),h3⟩|true=>cases h4:(Γ f).cur with|true=>exact⟨h,λ_=>h4,h3⟩|false=>exact⟨rfl,λh=>(by cases h),rfl⟩
theorem agh (B5:∀f,(Γ f).io=false/\(Γ f).bx=false/\(Γ f).pr=false)(f:Nat):(Γ.H2 f).io=false/\(Γ.H2 f).bx=false/\(Γ.H2 f).pr=false:=by have h:=B5 f;unfold xu.H2;rw[h.1,h.2.1,h.2.2];exact h
theorem Sound.H2 {E:Env}(h:Sound P E Γ):Sound P E Γ.H2:=by refine⟨h.ty,h.eqs,h.fts,λf=>?_,h.mixed⟩;unfold xu.H2;cases (Γ f).io||(Γ f).pr||((Γ f).bx&& !(Γ f).cur)with|true=>intro xs y hy;cases hy|false=>exact h.fns f
theorem Sound.calm {E:Env}(h:Sound P E Γ):Sound P E Γ.calm:=by refine⟨h.ty,h.eqs,h.fts,λf=>?_,h.mixed⟩;unfold xu.calm;cases (Γ f).io with|true=>intro xs y hy;cases hy|false=>cases (Γ f).bx with|true=>intro xs y hy;cases hy|false=>cases (Γ f).pr with|true=>intro xs y hy;cases hy|false=>exact h.fns f
end Go.Dn
