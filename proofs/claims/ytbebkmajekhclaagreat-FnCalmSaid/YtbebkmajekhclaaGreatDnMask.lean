import Derived.Test.YtbebkmajekhclaaGreatDnDen
import Derived.Test.YtbebkmajekhclaaGreatDnNat
/- What is kept at a loop's door; what a region whose ways meet again leaves. -/
namespace Go.Dn
open Go.RowKit
variable {P:Program} {C:Ctx} {st:AS} {a:Act} {w:World} {R:Type} {r:R}
variable {an:An} {Γ:Cn} {v:Value} {io:aw AC} {d:aB Nat} {ds keep:fM}
theorem IZ (keep:fM)(ep:Nat)(io:aw AC):∀(l:aw AV)(n i:Nat),(pE keep ep io n l)[i]?=(l[i]?).map λv=>if keep.contains (n+i) then v.mask keep ep io (n+i) else .bot
 |[],n,i=>by simp[pE]
 |v::l,n,0=>by simp[pE]
 |v::l,n,i+1=>by simp only[pE,fW];rw[IZ keep ep io l (n+1) i,show n+1+i=n+(i+1) by omega]
theorem Ec (keep:fM)(ep:Nat)(io:aw AC):∀(l:aw (aB (aw AC)))(n i:Nat),(pD keep ep io n l)[i]?=(l[i]?).map λb=>if keep.contains (n+i) then b.map (MJ keep ep io (.box (n+i)) 0) else none
 |[],n,i=>by simp[pD]
 |v::l,n,0=>by simp[pD]
 |v::l,n,i+1=>by simp only[pD,fW];rw[Ec keep ep io l (n+1) i,show n+1+i=n+(i+1) by omega]
theorem yV (keep:fM)(ep:Nat)(io:aw AC):∀(l:aw AV)(n:Nat),(pE keep ep io n l).length=l.length
 |[],_=>rfl
 |_::l,n=>by simp[pE,yV keep ep io l]
theorem EL (keep:fM)(ep:Nat)(io:aw AC):∀(l:aw (aB (aw AC)))(n:Nat),(pD keep ep io n l).length=l.length
 |[],_=>rfl
 |_::l,n=>by simp[pD,EL keep ep io l]
def ab0:Value->AV->jJ
 | .agg vs,.val true _=>vs.toList
 |v,_=>[v]
theorem ab5 {g:Bool}{vs:jJ}{cs:aw AC}(h:Cut g v vs):ab0 v (.val g cs)=vs:=by cases g with|true=>simp only[Cut,cw]at h;subst h;simp[ab0]|false=>simp only[Cut]at h;subst h;cases v<;>rfl
def Fh (ioV:jJ)(st:AS)(a:Act)(w:World)(β:Nat->Nat)(t:Nat):Value:=
 if t%3=0/\t/3/4096=1000003 then(ioV[t/3%4096]?).getD undef
 else if t%3=0 then((ab0 (a.tmps.getD (t/3/4096) undef) (st.get (t/3/4096)))[t/3%4096]?).getD undef
 else match w.heap[β (t/3/4096)]? with
  |some (.cells arr _ _)=>(arr.toList[t/3%4096]?).getD undef
  |_=>undef
def abC (c c':RC)(io:aw AC):Prop:=∀j n (e:CT)(ys:aw e.D),AC.ale io j n e=some ys->∃v0 fp0,gA c.hw c.w (.sl e) [v0] ys fp0/\v0=c.hdr n/\∀q,(mi.io j).Ht=some q->c'.iss q/\v0=c'.hdr q
theorem ahL {c c':RC}(S3:abC c c' io){rt:mi}{x:AC}{fp:fM}(h:iV c v x fp)(HY:c'.hw=c.hw)(hw:c'.w=c.w)(hA:c'.A=c.A)(AY:c'.ep=0)(Mo:c'.β=c.β)(xy:∀s,keep.contains s=true->c.Lp s->c'.Lp s)(ow:∀t,rt.Ht=some t->c'.iss t/\v=c'.hdr t):iV c' v (x.mask keep c.ep io rt) fp:=by
 have hS:c'.S=c.S:=by funext b o;simp[RC.S,HY,hA]
 cases x with
 |int k n=>exact h
 |bool b=>exact h
 |str s=>exact h
 |kY=>exact h
 |fn f=>exact h
 |un=>exact h
 |bot=>exact h
 |ptr s off=>simp only[AC.mask];split;rename_i hk;exact⟨by rw[Mo];exact h.1,xy s hk h.2.1,h.2.2⟩;exact h.2.2
 |D3 fl e y i off=>cases fl with|own t=>exact h.elim|nest _ _ _ _ _ _=>exact h.elim|part _ _ _ _=>exact h.elim|gB _ _ _=>exact h.elim|arg _=>exact h.1|loc ep pv=>exact h.1
 |sl fl e xs=>
  cases fl with
  |own t=>exact⟨gA.mono h.1 (λb _=>⟨by rw[hw],by rw[HY]⟩),ow⟩
  |nest _ _ _ _ _ _=>exact h.1
  |part _ _ _ _=>exact h.1
  |gB _ _ _=>obtain⟨_,⟨k,hk,h3⟩,_⟩:=h;exact⟨λq hq=>(by cases hq),⟨k,hk,h3.mono (λb hb=>⟨by rw[hw],by rw[HY]⟩)⟩,by simp⟩
  |arg _=>exact⟨h.1,by rw[hA,hw];exact h.2⟩
  |loc ep pv=>
   obtain⟨h1,h2,h3,h4,h5⟩:=h;have plain:iV c' v (if(ep==c.ep)=true then AC.sl (.loc 0 none) e xs else .bot) fp:=by split;rename_i he;refine⟨h1,by rw[AY];exact bc _,h3,λ_=>?_,by simp⟩;rw[hS,hw];exact h4 (by simpa using he);exact h1
   simp only[AC.mask];split;rename_i j n;split;rename_i ys GS;obtain⟨v0,fp0,ja,QT,hq⟩:=S3 j n e ys GS;obtain⟨_,k2⟩:=h5 _ _ rfl;have hv:v0=v:=QT.trans k2.symm;subst hv;refine⟨h1,by rw[AY];exact bc _,Rx ja,λ_=>?_,λr t hp=>?_⟩;rw[hS,hw];exact gA.rep (λb o ho=> .inr ho) ja;cases yH:(mi.io j).Ht with|none=>rw[yH]at hp;cases hp|some q=>rw[yH]at hp;simp at hp;obtain⟨_,rfl⟩:=hp;exact⟨(hq q yH).1,(hq q yH).2⟩
   exact plain;exact plain
theorem JJ {c c':RC}(S3:abC c c' io){f:Nat->mi}(HY:c'.hw=c.hw)(hw:c'.w=c.w)(hA:c'.A=c.A)(AY:c'.ep=0)(Mo:c'.β=c.β)
 (xy:∀s,keep.contains s=true->c.Lp s->c'.Lp s):∀{vs:jJ}{xs:aw AC}{fp:fM}(j:Nat),bV c vs xs fp->
  (∀i v,vs[i]?=some v->∀t,(f (j+i)).Ht=some t->c'.iss t/\v=c'.hdr t)->bV c' vs (MJ keep c.ep io f j xs) fp
 |[],[],_,_,h,_=>h
 |v::_,_::_,_,j,h,hm=>by obtain⟨f1,f2,rfl,h1,h2⟩:=h;exact⟨f1,f2,rfl,ahL S3 h1 HY hw hA AY Mo xy (λt ht=>hm 0 v rfl t ht),JJ S3 HY hw hA AY Mo xy (j+1) h2 (λi u hu t ht=>hm (i+1) u (by simpa using hu) t (by rwa[show j+(i+1)=j+1+i by omega]))⟩
 |[],_::_,_,_,h,_=>h.elim
 |_::_,[],_,_,h,_=>h.elim
theorem alC {c:RC}{x:AC}{fp:fM}(h:iV c v x fp)(H0:∀(tag:aB Nat)(e:CT)(xs:aw e.D),x=.sl (.own tag) e xs->False)(aqi:∀(tag:aB Nat)(i:Int)(ep:aB Nat)(e:CT)(xs:aw e.D),x=.sl (.gB tag i ep) e xs->False):fp=[]:=by
 cases x with
 |int k n=>exact h.2
 |bool b=>exact h.2
 |str s=>exact h.2
 |kY=>exact h.2
 |fn f=>exact h.2
 |un=>exact h.2
 |bot=>exact h
 |ptr s off=>exact h.2.2
 |D3 fl e y i off=>cases fl with|own t=>exact h.elim|nest _ _ _ _ _ _=>exact h.elim|part _ _ _ _=>exact h.elim|gB _ _ _=>exact h.elim|arg _=>exact h.1|loc ep pv=>exact h.1
 |sl fl e xs=>cases fl with|own t=>exact(H0 _ _ _ rfl).elim|nest _ _ _ _ _ _=>exact h.1|part _ _ _ _=>exact h.1|gB _ _ _=>exact(aqi _ _ _ _ _ rfl).elim|arg _=>exact h.1|loc ep pv=>exact h.1
theorem qe.mask (h:qe C st a w)(keep:fM):qe C (st.mask keep) a w:=by
 obtain⟨g,h⟩:=h;let g':Gh:={g with hdr:=Fh C.ioV st a w g.β}
 have xy:∀s,keep.contains s=true->ku st s->ku (st.mask keep) s:=by rintro s hk ⟨cs,hs⟩;refine⟨MJ keep st.ep st.io (.box s) 0 cs,?_⟩;show(pD keep st.ep st.io 0 st.boxes)[s]?=_;rw[Ec,hs];simp only[dP,cE,aH hk]
 obtain⟨fpi,hri,hni,hli⟩:=h.io;have aso:∀j v,C.ioV[j]?=some v->∀q,(mi.io j).Ht=some q->oA (st.mask keep) q/\v=Fh C.ioV st a w g.β q:=by
  intro j v hv q hq;simp only[mi.Ht]at hq;cases hb:Nat.ble 4096 j with
  |true=>rw[hb]at hq;cases hq
  |false=>
   rw[hb]at hq;simp only[af,bu,aft]at hq;have hj:j<4096:=by rcases cg j 4096 with hG|CF;exact hG;rw[iY CF]at hb;cases hb
   have h0:q%3=0:=by omega
   have h1:q/3/4096=1000003:=by omega
   have h2:q/3%4096=j:=by omega
   refine⟨.inl (by omega),?_⟩;rw[Fh,aH ⟨h0,h1⟩,h2,hv];rfl
 have ao5:abC (dz C g st w) (dz C g' (st.mask keep) w) st.io:=by
  intro j n e ys GS;unfold AC.ale at GS;split at GS;rename_i t' e' ys' hj;split at GS;rename_i he;subst he;cases ht:(t'==n)with
  |false=>rw[ht]at GS;cases GS
  |true=>
   rw[ht]at GS;have:t'=n:=by simpa using ht
   subst this;cases GS;rw[eU]at hj;obtain⟨v,f,hv,hr,_⟩:=hri.get j _ hj;exact⟨v,f,hr.1,(hr.2 t' rfl).2,λq hq=>aso j v hv q hq⟩
  cases GS;cases GS
 have axr:∀(j:Nat){vs:jJ}{xs:aw AC}{fp:fM},bV (dz C g st w) vs xs fp->(∀i v,vs[i]?=some v->C.ioV[j+i]?=some v)->bV (dz C g' (st.mask keep) w) vs (adL keep j xs) fp:=by
  intro j vs
  induction vs generalizing j with
  |nil=>intro xs fp hr _;cases xs with
   |nil=>exact hr
   |cons _ _=>exact hr.elim
  |cons v vs ih=>
   intro xs fp hr hv
   cases xs with
   |nil=>exact hr.elim
   |cons x xs=>
    obtain⟨f1,f2,rfl,r1,r2⟩:=hr
    refine⟨f1,f2,rfl,?_,ih (j+1) r2 (λi u hu=>by rw[show j+1+i=j+(i+1) by omega];exact hv (i+1) u (by simpa using hu))⟩
    have QT:=hv 0 v rfl
    rw[dX]at QT
    split
    ·rename_i tg e ys
     exact⟨r1.1,λq hq=>aso j v QT q hq⟩
    ·rename_i tag i ep e ys
     obtain⟨_,⟨k,hk,h3⟩,_⟩:=r1
     exact⟨λq hq=>(by cases hq),⟨k,hk,h3⟩,by simp⟩
    ·rename_i s off
     split
     ·rename_i hk
      exact⟨r1.1,xy s hk r1.2.1,r1.2.2⟩
     ·exact r1.2.2
    ·rename_i H0 aqi _
     cases hfl:x.kL with
     |true=>
      obtain⟨rfl,k⟩:=tS (c':=dz C g' (st.mask keep) w) r1 hfl
      exact k
     |false=>exact alC r1 H0 aqi
 refine⟨g',h.defers,?_,?_,λi av hi=>?_,λs cs hs=>?_,λk v av hk=>by simp at hk,h.im,h.frame,⟨fpi,axr 0 hri (λi v hv=>by rw[cE];exact hv),hni,hli⟩⟩;show _=(pE keep st.ep st.io 0 st.slots).length;rw[yV];exact h.size;show(pD keep st.ep st.io 0 st.boxes).length=(pE keep st.ep st.io 0 st.slots).length;rw[yV,EL];exact h.bsize;have xk:(pE keep st.ep st.io 0 st.slots)[i]?=some av:=hi;rw[IZ,cE]at xk;cases hv:st.slots[i]? with
 |none=>rw[hv]at xk;cases xk
 |some x=>
  rw[hv]at xk;simp only[dP,bu]at xk;split at xk
  ·subst xk
   cases hx:x with
   |yE ts=>exact⟨[],il.bot _ _,by simp,by simp⟩
   |val gg cs=>
    rw[hx]at hv
    obtain⟨fp,⟨vs,gD,hr⟩,hn,hl⟩:=h.slots i _ hv
    refine⟨fp,⟨vs,gD,JJ (io:=st.io) ao5 (c:=dz C g st w) (c':=dz C g' (st.mask keep) w) rfl rfl rfl rfl rfl xy 0 hr ?_⟩,hn,hl⟩
    intro j u hu t ht
    simp only[cE,mi.Ht]at ht
    cases hb:Nat.ble 4096 j with
    |true=>rw[hb]at ht;cases ht
    |false=>
     rw[hb]at ht
     simp only[af]at ht
     cases HX:Nat.ble 1000000 i with
     |true=>rw[HX]at ht;cases ht
     |false=>
     rw[HX]at ht
     simp only[af,bu]at ht
     have hi6:i<1000000:=by rcases cg i 1000000 with hG|CF;exact hG;rw[iY CF]at HX;cases HX
     have hj:j<4096:=by rcases cg j 4096 with hG|CF;exact hG;rw[iY CF]at hb;cases hb
     have h0:t%3=0:=by omega
     have h1:t/3/4096=i:=by omega
     have h2:t/3%4096=j:=by omega
     refine⟨.inl (by omega),?_⟩
     show u=Fh C.ioV st a w g.β t
     rw[Fh,lI,aH h0,h1,h2,get_eq hv,ab5 gD,hu];rfl
  subst xk;exact⟨[],il.bot _ _,by simp,by simp⟩
 have yL:(pD keep st.ep st.io 0 st.boxes)[s]?=some (some cs):=hs;rw[Ec,cE]at yL;cases hv:st.boxes[s]? with
 |none=>rw[hv]at yL;cases yL
 |some x=>
  rw[hv]at yL;simp only[dP,bu]at yL;split at yL;cases hx:x with
  |none=>rw[hx]at yL;cases yL
  |some xs=>
   rw[hx]at yL hv;simp only[dP,bu]at yL;subst yL;obtain⟨arr,T,fr,fp,hb,uR,hr,hn,hni,hl,J2,J5⟩:=h.boxes s xs hv;refine⟨arr,T,fr,fp,hb,uR,JJ (io:=st.io) ao5 (c:=dz C g st w) (c':=dz C g' (st.mask keep) w) rfl rfl rfl rfl rfl xy 0 hr ?_,hn,hni,hl,J2,J5⟩;intro j u hu t ht;simp only[cE,mi.Ht]at ht;cases hbb:Nat.ble 4096 j with
   |true=>rw[hbb]at ht;cases ht
   |false=>
    rw[hbb]at ht;simp only[af,bu]at ht;have hj:j<4096:=by rcases cg j 4096 with hG|CF;exact hG;rw[iY CF]at hbb;cases hbb
    have h0:¬t%3=0:=by omega
    have h1:t/3/4096=s:=by omega
    have h2:t/3%4096=j:=by omega
    refine⟨.inl (by omega),?_⟩;show u=Fh C.ioV st a w g.β t;rw[Fh,lI,aG h0,h1,h2,hb];simp only;rw[hu];rfl
  cases yL
structure jS (ds:List Nat) (st cj:AS):Prop where
 len:cj.slots.length=st.slots.length
 slot:∀i,i∉ds->cj.slots[i]?=st.slots[i]?
 boxes:cj.boxes=st.boxes
 ep:cj.ep=st.ep
 iss:∀i,i∉ds->nth cj.iss i=nth st.iss i
 asL:cj.iss.length=st.iss.length
 io:cj.io=st.io
theorem jS.refl (ds:fM)(st:AS):jS ds st st:=⟨rfl,λ_ _=>rfl,rfl,rfl,λ_ _=>rfl,rfl,rfl⟩
theorem jS.trans {st st1 st2:AS}(h:jS ds st st1)(k:jS ds st1 st2):jS ds st st2:=⟨k.len.trans h.len,λi hi=>(k.slot i hi).trans (h.slot i hi),k.boxes.trans h.boxes,k.ep.trans h.ep,λi hi=>(k.iss i hi).trans (h.iss i hi),k.asL.trans h.asL,k.io.trans h.io⟩
theorem jS.put {st:AS}(hd:∀i,d=some i->i∈ds)(v:AV):jS ds st (st.put d v):=by cases d with|none=>exact jS.refl _ _|some d=>refine⟨by rw[gV,az],λi hi=>?_,mj,Mf,λi _=>by rw[W7],by rw[W7],Mz⟩;rw[gV,aE];rintro rfl;exact hi (hd _ rfl)
theorem jS.gJ {st:AS}(hd:∀i,d=some i->i∈ds):jS ds st (st.gJ d):=by cases d with|none=>exact jS.refl _ _|some d=>refine⟨rfl,λi _=>rfl,rfl,rfl,λi hi=>?_,?_,rfl⟩;simp only[AS.gJ,eU,gH];rw[aE];rintro rfl;exact hi (hd _ rfl);simp only[AS.gJ,gH,az]
theorem wK {α:Type}{o:aB α}{k:α->aB AS}{cj:AS}(h:aa o k=some cj)(hk:∀x,k x=some cj->jS ds st cj):jS ds st cj:=by cases o with|none=>cases h|some x=>exact hk x h
theorem ahY {n:Nat}{k:aB AS}{cj:AS}(h:room n k=some cj)(hk:k=some cj->jS ds st cj):jS ds st cj:=by unfold room at h;split at h;exact hk h;cases h
theorem adU {op:BinOp}{k:IntKind}{x y:Int}{K:AC->aB AS}{cj:AS}(h:K2 op k x y K=some cj)(hk:∀z,K z=some cj->jS ds st cj):jS ds st cj:=by
 unfold K2 at h
 split at h<;>first
  |exact hk _ h
  |(split at h
    ·cases h
    ·exact hk _ h)
  |cases h
theorem adV {op:BinOp}{x y:aw UInt8}{K:AC->aB AS}{cj:AS}(h:Oi op x y K=some cj)(hk:∀z,K z=some cj->jS ds st cj):jS ds st cj:=by
 unfold Oi at h
 split at h<;>first
  |exact ahY h (hk _)
  |exact hk _ h
  |cases h
theorem MO {op:BinOp}{x y:AV}{K:AC->aB AS}{cj:AS}(h:Iq op x y K=some cj)(hk:∀z,K z=some cj->jS ds st cj):jS ds st cj:=by unfold Iq at h;split at h;split at h;split at h;cases h;exact hk _ h;split at h;cases h;exact hk _ h;split at h;exact adU h hk;cases h;exact adV h hk;split at h;exact hk _ h;exact hk _ h;cases h;split at h;exact wK h λb hb=>hk _ hb;exact wK h λb hb=>hk _ hb;cases h;cases h
theorem Lf {lo hi:aB Operand}{n:Nat}{K:Int->Int->aB AS}{st0 cj:AS}(h:oB st0 lo hi n K=some cj)(hk:∀x y,K x y=some cj->jS ds st cj):jS ds st cj:=by
 unfold oB at h
 split at h<;>first
  |exact hk _ _ h
  |cases h
theorem Rr {op:BinOp}{b:Bool}{K:AC->aB AS}{cj:AS}(h:F3 op b K=some cj)(hk:∀c,K c=some cj->jS ds st cj):jS ds st cj:=by unfold F3 at h;split at h;exact hk _ h;exact hk _ h;cases h
theorem UN {E:Env}(Db:∀f,(Γ f).io=false/\(Γ f).bx=false/\(Γ f).pr=false){o:Oper}{cj:AS}(hq:iL an ds o=true)(hd:∀i,o.dst=some i->i∈ds)(h:dp E Γ an o st some=some cj):jS ds st cj:=by
 have yG:∀v,some (st.put o.dst v)=some cj->jS ds st cj:=λv hv=>by cases hv;exact jS.put hd v
 unfold dp at h;split at h;rename_i x ho;simp only[iL,ho]at hq;unfold EM at h;cases WG:o.dst with
 |none=>rw[WG]at h;cases h
 |some d=>
  rw[WG]at h hq;simp only at h hq;have hf:an.mv.contains d=false:=by simpa using hq
  rw[hf]at h;simp only[bm,cC]at h;cases h;exact jS.put (λi hi=>hd i (by rw[WG];exact hi)) _
 rename_i x ho;have F6:CL an o=false\/∃y,x=y/\(∀v,y≠ .const v)/\(∀t,y≠ .tmp t):=by cases x with|tmp t=>left;simp only[iL,ho,ae,aO]at hq;exact hq.2|const v=>left;simpa only[iL,ho,aO]using hq|func f=>simp[iL,ho]at hq|global g=>simp[iL,ho]at hq
 have F6:CL an o=false:=by rcases F6 with h1|⟨y,rfl,h1,h2⟩;exact h1;cases x with|tmp t=>exact absurd rfl (h2 t)|const v=>exact absurd rfl (h1 v)|func f=>simp[iL,ho]at hq|global g=>simp[iL,ho]at hq
 simp only[iL,ho]at hq;rw[aG (by simp[F6])]at h;unfold xr at h;have hx:jS ds st (st.take x).2:=by
  cases x with
  |tmp t=>
   have ht:t∈ds:=by simp only[ae]at hq;simpa using hq.1
   exact jS.put (d:=some t) (λi hi=>by cases hi;exact ht) _
  |const v=>exact jS.refl _ _
  |func f=>exact jS.refl _ _
  |global g=>exact jS.refl _ _
 split at h;split at h;exact yG _ h;cases h;rename_i v st1 _ vm;cases h;have:(st.take x).2=st1:=by rw[vm]
 rw[this]at hx;exact hx.trans (jS.put hd _);unfold Hd at h;split at h;rename_i t _;split at h;exact yG _ h;cases t with|true=>exact yG _ h|false=>exact yG _ h
 cases h;rename_i ho;simp[iL,ho]at hq;rename_i ho;simp[iL,ho]at hq;rename_i T p ho;simp only[iL,ho]at hq;have vm:Hy an o=false:=by unfold Hy;cases WG:o.dst with|none=>rfl|some d=>rw[WG]at hq;simp only[aO]at hq;simp only[hq,eo]
 unfold rf at h;split at h;split at h;split at h;split at h;rename_i d WG;rw[WG]at hq;simp only at hq;have hf:an.mv.contains d=false:=by simpa using hq
 rw[hf]at h;simp only[bm,cC]at h;exact yG _ h;cases h;cases h;cases h;rw[aG (by simp[vm])]at h;split at h;split at h;exact yG _ h;cases h;unfold FD at h;split at h;split at h;split at h;split at h;obtain⟨y,_,h⟩:=PH h;exact yG _ h;cases h;cases h;cases h;cases h;cases h;rename_i ho;simp[iL,ho]at hq;split at h;exact yG _ h;exact yG _ h;cases h;unfold Dm at h;split at h;split at h;exact MO h λz hz=>yG _ hz;cases h;split at h;split at h;exact MO h λz hz=>yG _ hz;cases h;cases h;split at h;split at h;cases h;exact Rr h λz hz=>yG _ hz;cases h;split at h;exact Rr h λz hz=>yG _ hz;cases h;exact MO h λz hz=>yG _ hz;unfold unC at h;split at h;exact yG _ h;exact yG _ h;exact yG _ h;cases h;unfold Cw at h;split at h;split at h;exact yG _ h;cases h;split at h;exact yG _ h;cases h;cases h;unfold om at h;split at h;split at h;exact wK h λy hy=>yG _ hy;cases h;cases h;unfold Eb at h;split at h;split at h;exact wK h λy hy=>yG _ hy;cases h;cases h;rename_i T parts ho;simp only[iL,ho]at hq;have he:parts=#[]:=by simpa using hq
 subst he;unfold D1 at h;split at h;simp only[gb,List.map_nil]at h;split at h;exact yG _ h;cases h;cases h;rename_i ho;simp[iL,ho]at hq;rename_i ho;simp[iL,ho]at hq;rename_i ho;simp only[iL,ho,aO]at hq;unfold CZ at h;rw[aG (by simp[hq])]at h;split at h;split at h;exact Lf h λx y hxy=>wK hxy λz hz=>yG _ hz;cases h;split at h;exact Lf h λx y hxy=>wK hxy λz hz=>yG _ hz;cases h;cases h;rename_i ho;simp[iL,ho]at hq;rename_i ho;simp[iL,ho]at hq;rename_i ho;simp[iL,ho]at hq;rename_i ho;simp[iL,ho]at hq;unfold Ri at h;split at h;split at h;exact yG _ h;cases h;split at h;exact yG _ h;cases h;cases h;unfold Th at h;split at h;exact yG _ h;cases h;unfold Tg at h;split at h;exact yG _ h;cases h;rename_i ho;simp[iL,ho]at hq;unfold F1 at h;split at h;rename_i k _;rw[(Db k).2.1,(Db k).2.2,(Db k).1]at h;simp only[af]at h;refine wK h λy hy=>?_;cases S8:(Γ k).sel y with|true=>rw[S8]at hy;cases hy;exact(jS.gJ hd).trans (jS.put hd _)|false=>rw[S8]at hy;cases hy;exact(jS.gJ hd).trans (jS.put hd _)
 cases h;cases h
theorem aah {ops:aw Oper}{o:Oper}(ho:o∈ops){i:Nat}(hi:o.dst=some i):i∈Jq ops:=List.mem_filterMap.2 ⟨o,ho,hi⟩
theorem Rs {E:Env}(Db:∀f,(Γ f).io=false/\(Γ f).bx=false/\(Γ f).pr=false){ops:aw Oper}{o:Oper}{cj:AS}(ho:o∈ops)(hq:iL an (Jq ops) o=true)(h:iI E Γ an ops o st some=some cj):jS (Jq ops) st cj:=by
 have hd:∀i,o.dst=some i->i∈Jq ops:=λi hi=>aah ho hi;unfold iI at h;split at h;exact UN Db hq hd h;rename_i j JZ hg;split at h;rename_i d WG;have hdm:d∈Jq ops:=by rw[eU]at WG;cases OQ:ops[j]? with|none=>rw[OQ]at WG;cases WG|some o'=>rw[OQ]at WG;exact aah (aL OQ) WG
 have hp:∀t,jS (Jq ops) st (st.put (some d) (.one (.bool t))):=λt=>jS.put (λi hi=>by cases hi;exact hdm) _;split at h;rename_i b hb;have main:∀t,(if(t==JZ)=true then dp E Γ an o (st.put (some d) (.one (.bool t))) some else some ((st.put (some d) (.one (.bool t))).put o.dst (.one .un)))=some cj->jS (Jq ops) st cj:=by intro t ht;split at ht;exact(hp t).trans (UN Db hq hd ht);cases ht;exact(hp t).trans (jS.put hd _)
 cases b with|true=>exact main true h|false=>exact main false h
 cases h;exact jS.put hd _;cases h;cases h
theorem aaq {E:Env}(Db:∀f,(Γ f).io=false/\(Γ f).bx=false/\(Γ f).pr=false){ops:aw Oper}(hq:∀o∈ops,iL an (Jq ops) o=true):∀(l:aw Oper)(st cj:AS),(∀o∈l,o∈ops)->Xj E Γ an ops l st some=some cj->jS (Jq ops) st cj
 |[],st,cj,_,h=>by cases h;exact jS.refl _ _
 |o::l,st,cj,hl,h=>by simp only[Xj]at h;rw[sX]at h;cases hg:iI E Γ an ops o st some with|none=>rw[hg]at h;cases h|some st1=>rw[hg]at h;exact(Rs Db (hl o (by simp)) (hq o (hl o (by simp))) hg).trans (aaq Db hq l st1 cj (λo' OQ=>hl o' (by simp[OQ])) h)
theorem Jp:∀(l:fM)(st:AS),(∀i∈l,i∈ds)->jS ds st (st.DA l)
 |[],st,_=>jS.refl _ _
 |d::l,st,h=>by
  have hd:∀i,some d=some i->i∈ds:=λi hi=>by cases hi;exact h d (by simp)
  exact((jS.put hd _).trans (jS.gJ hd)).trans (Jp l _ (λi hi=>h i (by simp[hi])))
theorem TV:∀(l:fM)(st:AS)(i:Nat)(av:AV),(st.DA l).slots[i]?=some av->i∈l\/st.slots[i]?=some .bot->av=.bot
 |[],st,i,av,h,hi=>by rcases hi with hi|hi;cases hi;have:st.slots[i]?=some av:=h;rw[hi]at this;cases this;rfl
 |d::l,st,i,av,h,hi=>by
  refine TV l _ i av h ?_;by_cases Pd:i∈l;exact .inl Pd;refine .inr ?_;rw[xe,gV,bJ];have hG:i<st.slots.length:=by
   have h1:=(Jp (ds:=d::l) l ((st.put (some d) .bot).gJ (some d)) (λi hi=>by simp[hi])).len;have h2:=(ay.1 h).1;have h3:(AS.DA ((st.put (some d) .bot).gJ (some d)) l).slots.length=st.slots.length:=by rw[h1,xe,gV,az]
   have h4:i<(AS.DA ((st.put (some d) .bot).gJ (some d)) l).slots.length:=h2;omega
  split;rename_i hdi;subst hdi;rw[aH hG];rename_i hdi;rcases hi with hi|hi;simp only[bU]at hi;rcases hi with hi|hi;exact absurd hi.symm hdi;exact absurd hi Pd;exact hi
theorem TW:∀(l:fM)(st:AS)(i:Nat),i∈l\/(nth st.iss i).getD true=true->(nth (st.DA l).iss i).getD true=true
 |[],st,i,hi=>by rcases hi with hi|hi;cases hi;exact hi
 |d::l,st,i,hi=>by refine TW l _ i ?_;by_cases Pd:i∈l;exact .inl Pd;refine .inr ?_;have he:(AS.gJ (st.put (some d) .bot) (some d)).iss=ji st.iss d true:=rfl;rw[he,gH,eU,bJ];split;split<;>rfl;rename_i hdi;rcases hi with hi|hi;simp only[bU]at hi;rcases hi with hi|hi;exact absurd hi.symm hdi;exact absurd hi Pd;rw[eU]at hi;exact hi
theorem qe.weaken {cj:AS}(h:qe C cj a w)(hn:jS ds st cj){s:Nat}{b:Bool}(hb:getBool cj s=some b):qe C ((st.DA ds).put (some s) (.one (.bool b))) a w:=by
 have HX:cj.get s=.val false [.bool b]:=by unfold getBool at hb;split at hb;rename_i b' hg;cases hb;exact hg;cases hb
 have hkn:=h.known HX;obtain⟨g,h⟩:=h;have hdn:=Jp (ds:=ds) ds st (λ_ hi=>hi);have wH:((st.DA ds).put (some s) (.one (.bool b))).boxes=cj.boxes:=by rw[mj,hdn.boxes,hn.boxes]
 have AY:((st.DA ds).put (some s) (.one (.bool b))).ep=cj.ep:=by rw[Mf,hdn.ep,hn.ep]
 have hlen:((st.DA ds).put (some s) (.one (.bool b))).slots.length=cj.slots.length:=by rw[gV,az,hdn.len,hn.len]
 have OO:∀t,oA cj t->oA ((st.DA ds).put (some s) (.one (.bool b))) t:=by intro t ht;rw[K5];rcases ht with ht|ht;exact .inl ht;refine .inr (TW ds st _ ?_);by_cases hi:t/3/4096∈ds;exact .inl hi;exact .inr (by rw[<-hn.iss _ hi];exact ht)
 have xy:∀s',ku cj s'->ku ((st.DA ds).put (some s) (.one (.bool b))) s':=λs' hs=>by unfold ku at hs⊢;rw[wH];exact hs
 have hle:(dz C g cj w).Le (dz C g ((st.DA ds).put (some s) (.one (.bool b))) w):=⟨rfl,λt ht=>⟨OO t ht,rfl⟩,λ_ _ _ _ _ hv=>hv,by show cj.ep<=_;rw[<-AY];exact bc _,λs' hs=>⟨xy s' hs,rfl⟩,λ_ b o u ho hu=>⟨ho,hu⟩⟩
 refine⟨g,h.step (λ_=>True) hle h.defers (by rw[hlen];exact h.size) (by rw[wH,hlen];exact h.bsize) h.frame h.im (λb x _ hx=>⟨hx,rfl,rfl⟩) ?_ ?_ ?_ (.inl ⟨cG,by rw[Mz,hdn.io,hn.io]⟩)⟩;intro i av hi;rw[gV,bJ]at hi;split at hi;rename_i hsi;subst hsi;split at hi;cases hi;refine .inr ⟨[],oo ?_,by simp,by simp⟩;exact⟨hkn,rfl⟩;cases hi;by_cases Zh:i∈ds;have:=TV ds st i av hi (.inl Zh);subst this;exact .inr ⟨[],il.bot _ _,by simp,by simp⟩;rw[hdn.slot i Zh]at hi;exact .inl ⟨cG,by rw[hn.slot i Zh];exact hi,rfl⟩;intro s' cs hs;rw[wH]at hs;exact .inl ⟨cG,hs,rfl⟩;intro k v av hk;simp at hk
theorem ank (Γ:Cn)(f:Nat):(Γ.calm f).io=false/\(Γ.calm f).bx=false/\(Γ.calm f).pr=false:=by unfold Cn.calm;cases h:(Γ f).io with|true=>exact⟨rfl,rfl,rfl⟩|false=>cases h2:(Γ f).bx with|true=>exact⟨rfl,rfl,rfl⟩|false=>cases h3:(Γ f).pr with|true=>exact⟨rfl,rfl,rfl⟩|false=>exact⟨h,h2,h3⟩
theorem aos (Γ:Cn)(f:Nat):(Γ.JV f).io=false/\((Γ.JV f).bx=true->(Γ.JV f).cur=true)/\(Γ.JV f).pr=false:=by unfold Cn.JV;cases h:(Γ f).io with|true=>exact⟨rfl,λh=>(by cases h),rfl⟩|false=>cases h3:(Γ f).pr with|true=>exact⟨rfl,λh=>(by cases h),rfl⟩|false=>cases h2:(Γ f).bx with|false=>exact⟨h,λh=>(by simp[h2]at h),h3⟩|true=>cases h4:(Γ f).cur with|true=>exact⟨h,λ_=>h4,h3⟩|false=>exact⟨rfl,λh=>(by cases h),rfl⟩
theorem aot (Db:∀f,(Γ f).io=false/\(Γ f).bx=false/\(Γ f).pr=false)(f:Nat):(Γ.JV f).io=false/\(Γ.JV f).bx=false/\(Γ.JV f).pr=false:=by have h:=Db f;unfold Cn.JV;rw[h.1,h.2.1,h.2.2];exact h
theorem Sound.JV {E:Env}(h:Sound P E Γ):Sound P E Γ.JV:=by refine⟨h.ty,h.eqs,h.fts,λf=>?_,h.mixed⟩;unfold Cn.JV;cases (Γ f).io||(Γ f).pr||((Γ f).bx&& !(Γ f).cur)with|true=>intro xs y hy;cases hy|false=>exact h.fns f
theorem Sound.calm {E:Env}(h:Sound P E Γ):Sound P E Γ.calm:=by refine⟨h.ty,h.eqs,h.fts,λf=>?_,h.mixed⟩;unfold Cn.calm;cases (Γ f).io with|true=>intro xs y hy;cases hy|false=>cases (Γ f).bx with|true=>intro xs y hy;cases hy|false=>cases (Γ f).pr with|true=>intro xs y hy;cases hy|false=>exact h.fns f
end Go.Dn
