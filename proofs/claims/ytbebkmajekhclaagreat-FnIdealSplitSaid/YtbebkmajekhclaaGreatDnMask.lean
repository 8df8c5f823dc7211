import Derived.Test.YtbebkmajekhclaaGreatDnDen
import Derived.Test.YtbebkmajekhclaaGreatDnNat
/- What is kept at a loop's door; what a region whose ways meet again leaves. -/
namespace Go.Dn
open Go.RowKit
variable {P:Program} {C:Ctx} {st:AS} {a:Act} {w:World} {R:Type} {r:R}
variable {an:An} {Γ:Dy} {v:Value} {io:aw AC} {d:az Nat} {ds keep:fA}
theorem JC (keep:fA)(ep:Nat)(io:aw AC):∀(l:aw AV)(n i:Nat),(oH keep ep io n l)[i]?=(l[i]?).map λv=>if keep.contains (n+i) then v.mask keep ep io (n+i) else .bot
 |[],n,i=>by simp[oH]
 |v::l,n,0=>by simp[oH]
 |v::l,n,i+1=>by simp only[oH,fI];rw[JC keep ep io l (n+1) i,show n+1+i=n+(i+1) by omega]
theorem EI (keep:fA)(ep:Nat)(io:aw AC):∀(l:aw (az (aw AC)))(n i:Nat),(oG keep ep io n l)[i]?=(l[i]?).map λb=>if keep.contains (n+i) then b.map (M5 keep ep io (.box (n+i)) 0) else none
 |[],n,i=>by simp[oG]
 |v::l,n,0=>by simp[oG]
 |v::l,n,i+1=>by simp only[oG,fI];rw[EI keep ep io l (n+1) i,show n+1+i=n+(i+1) by omega]
theorem yU (keep:fA)(ep:Nat)(io:aw AC):∀(l:aw AV)(n:Nat),(oH keep ep io n l).length=l.length
 |[],_=>rfl
 |_::l,n=>by simp[oH,yU keep ep io l]
theorem Fq (keep:fA)(ep:Nat)(io:aw AC):∀(l:aw (az (aw AC)))(n:Nat),(oG keep ep io n l).length=l.length
 |[],_=>rfl
 |_::l,n=>by simp[oG,Fq keep ep io l]
def ab3:Value->AV->jf
 | .agg vs,.val true _=>vs.toList
 |v,_=>[v]
theorem ab7 {g:Bool}{vs:jf}{cs:aw AC}(h:Cut g v vs):ab3 v (.val g cs)=vs:=by cases g with|true=>simp only[Cut,cz]at h;subst h;simp[ab3]|false=>simp only[Cut]at h;subst h;cases v<;>rfl
def FX (ioV:jf)(st:AS)(a:Act)(w:World)(β:Nat->Nat)(t:Nat):Value:=
 if t%3=0/\t/3/4096=1000003 then(ioV[t/3%4096]?).getD undef
 else if t%3=0 then((ab3 (a.tmps.getD (t/3/4096) undef) (st.get (t/3/4096)))[t/3%4096]?).getD undef
 else match w.heap[β (t/3/4096)]? with
  |some (.cells arr _ _)=>(arr.toList[t/3%4096]?).getD undef
  |_=>undef
def abJ (c c':RC)(io:aw AC):Prop:=∀j n (e:CT)(ys:aw e.D),AC.alk io j n e=some ys->∃v0 fp0,fR c.hw c.w (.sl e) [v0] ys fp0/\v0=c.hdr n/\∀q,(lx.io j).Ia=some q->c'.iss q/\v0=c'.hdr q
theorem ahD {c c':RC}(Tf:abJ c c' io){rt:lx}{x:AC}{fp:fA}(h:iy c v x fp)(II:c'.hw=c.hw)(hw:c'.w=c.w)(hA:c'.A=c.A)(Bs:c'.ep=0)(MU:c'.β=c.β)(xo:∀s,keep.contains s=true->c.LS s->c'.LS s)(nD:∀t,rt.Ia=some t->c'.iss t/\v=c'.hdr t):iy c' v (x.mask keep c.ep io rt) fp:=by
 have hS:c'.S=c.S:=by funext b o;simp[RC.S,II,hA]
 cases x with
 |int k n=>exact h
 |bool b=>exact h
 |str s=>exact h
 |kv=>exact h
 |fn f=>exact h
 |un=>exact h
 |bot=>exact h
 |ptr s off=>simp only[AC.mask];split;rename_i hk;exact⟨by rw[MU];exact h.1,xo s hk h.2.1,h.2.2⟩;exact h.2.2
 |Ey fl e y i off=>cases fl with|own t=>exact h.elim|nest _ _ _ _ _ _=>exact h.elim|part _ _ _ _=>exact h.elim|fS _ _ _=>exact h.elim|arg _=>exact h.1|loc ep pv=>exact h.1
 |sl fl e xs=>
  cases fl with
  |own t=>exact⟨fR.mono h.1 (λb _=>⟨by rw[hw],by rw[II]⟩),nD⟩
  |nest _ _ _ _ _ _=>exact h.1
  |part _ _ _ _=>exact h.1
  |fS _ _ _=>obtain⟨_,⟨k,hk,h3⟩,_⟩:=h;exact⟨λq hq=>(by cases hq),⟨k,hk,h3.mono (λb hb=>⟨by rw[hw],by rw[II]⟩)⟩,by simp⟩
  |arg _=>exact⟨h.1,by rw[hA,hw];exact h.2⟩
  |loc ep pv=>
   obtain⟨h1,h2,h3,h4,h5⟩:=h;have plain:iy c' v (if(ep==c.ep)=true then AC.sl (.loc 0 none) e xs else .bot) fp:=by split;rename_i he;refine⟨h1,by rw[Bs];exact bt _,h3,λ_=>?_,by simp⟩;rw[hS,hw];exact h4 (by simpa using he);exact h1
   simp only[AC.mask];split;rename_i j n;split;rename_i ys HG;obtain⟨v0,fp0,iG,Rb,hq⟩:=Tf j n e ys HG;obtain⟨_,k2⟩:=h5 _ _ rfl;have hv:v0=v:=Rb.trans k2.symm;subst hv;refine⟨h1,by rw[Bs];exact bt _,RJ iG,λ_=>?_,λr t hp=>?_⟩;rw[hS,hw];exact fR.rep (λb o ho=> .inr ho) iG;cases yF:(lx.io j).Ia with|none=>rw[yF]at hp;cases hp|some q=>rw[yF]at hp;simp at hp;obtain⟨_,rfl⟩:=hp;exact⟨(hq q yF).1,(hq q yF).2⟩
   exact plain;exact plain
theorem Kv {c c':RC}(Tf:abJ c c' io){f:Nat->lx}(II:c'.hw=c.hw)(hw:c'.w=c.w)(hA:c'.A=c.A)(Bs:c'.ep=0)(MU:c'.β=c.β)
 (xo:∀s,keep.contains s=true->c.LS s->c'.LS s):∀{vs:jf}{xs:aw AC}{fp:fA}(j:Nat),ca c vs xs fp->
  (∀i v,vs[i]?=some v->∀t,(f (j+i)).Ia=some t->c'.iss t/\v=c'.hdr t)->ca c' vs (M5 keep c.ep io f j xs) fp
 |[],[],_,_,h,_=>h
 |v::_,_::_,_,j,h,hm=>by obtain⟨f1,f2,rfl,h1,h2⟩:=h;exact⟨f1,f2,rfl,ahD Tf h1 II hw hA Bs MU xo (λt ht=>hm 0 v rfl t ht),Kv Tf II hw hA Bs MU xo (j+1) h2 (λi u hu t ht=>hm (i+1) u (by simpa using hu) t (by rwa[show j+(i+1)=j+1+i by omega]))⟩
 |[],_::_,_,_,h,_=>h.elim
 |_::_,[],_,_,h,_=>h.elim
theorem alF {c:RC}{x:AC}{fp:fA}(h:iy c v x fp)(Js:∀(tag:az Nat)(e:CT)(xs:aw e.D),x=.sl (.own tag) e xs->False)(aqu:∀(tag:az Nat)(i:Int)(ep:az Nat)(e:CT)(xs:aw e.D),x=.sl (.fS tag i ep) e xs->False):fp=[]:=by
 cases x with
 |int k n=>exact h.2
 |bool b=>exact h.2
 |str s=>exact h.2
 |kv=>exact h.2
 |fn f=>exact h.2
 |un=>exact h.2
 |bot=>exact h
 |ptr s off=>exact h.2.2
 |Ey fl e y i off=>cases fl with|own t=>exact h.elim|nest _ _ _ _ _ _=>exact h.elim|part _ _ _ _=>exact h.elim|fS _ _ _=>exact h.elim|arg _=>exact h.1|loc ep pv=>exact h.1
 |sl fl e xs=>cases fl with|own t=>exact(Js _ _ _ rfl).elim|nest _ _ _ _ _ _=>exact h.1|part _ _ _ _=>exact h.1|fS _ _ _=>exact(aqu _ _ _ _ _ rfl).elim|arg _=>exact h.1|loc ep pv=>exact h.1
theorem py.mask (h:py C st a w)(keep:fA):py C (st.mask keep) a w:=by
 obtain⟨g,h⟩:=h;let g':Gh:={g with hdr:=FX C.ioV st a w g.β}
 have xo:∀s,keep.contains s=true->jL st s->jL (st.mask keep) s:=by rintro s hk ⟨cs,hs⟩;refine⟨M5 keep st.ep st.io (.box s) 0 cs,?_⟩;show(oG keep st.ep st.io 0 st.boxes)[s]?=_;rw[EI,hs];simp only[dD,cO,aI hk]
 obtain⟨fpi,hri,hni,hli⟩:=h.io;have asA:∀j v,C.ioV[j]?=some v->∀q,(lx.io j).Ia=some q->nH (st.mask keep) q/\v=FX C.ioV st a w g.β q:=by
  intro j v hv q hq;simp only[lx.Ia]at hq;cases hb:Nat.ble 4096 j with
  |true=>rw[hb]at hq;cases hq
  |false=>
   rw[hb]at hq;simp only[ae,bq,afz]at hq;have hj:j<4096:=by rcases bT j 4096 with gr|BN;exact gr;rw[iE BN]at hb;cases hb
   have h0:q%3=0:=by omega
   have h1:q/3/4096=1000003:=by omega
   have h2:q/3%4096=j:=by omega
   refine⟨.inl (by omega),?_⟩;rw[FX,aI ⟨h0,h1⟩,h2,hv];rfl
 have apc:abJ (dq C g st w) (dq C g' (st.mask keep) w) st.io:=by
  intro j n e ys HG;unfold AC.alk at HG;split at HG;rename_i t' e' ys' hj;split at HG;rename_i he;subst he;cases ht:(t'==n)with
  |false=>rw[ht]at HG;cases HG
  |true=>
   rw[ht]at HG;have:t'=n:=by simpa using ht
   subst this;cases HG;rw[ez]at hj;obtain⟨v,f,hv,hr,_⟩:=hri.get j _ hj;exact⟨v,f,hr.1,(hr.2 t' rfl).2,λq hq=>asA j v hv q hq⟩
  cases HG;cases HG
 have ayq:∀(j:Nat){vs:jf}{xs:aw AC}{fp:fA},ca (dq C g st w) vs xs fp->(∀i v,vs[i]?=some v->C.ioV[j+i]?=some v)->ca (dq C g' (st.mask keep) w) vs (adN keep j xs) fp:=by
  intro j vs
  induction vs generalizing j with
  |nil=>intro xs fp hr _;cases xs with
   |nil=>exact hr
   |cons _ _=>exact hr.elim
  |cons v vs ih=>
   intro xs fp hr hv
   cases xs with
   |nil=>exact hr.elim
   |cons x xs=>
    obtain⟨f1,f2,rfl,r1,r2⟩:=hr
    refine⟨f1,f2,rfl,?_,ih (j+1) r2 (λi u hu=>by rw[show j+1+i=j+(i+1) by omega];exact hv (i+1) u (by simpa using hu))⟩
    have Rb:=hv 0 v rfl
    rw[eN]at Rb
    split
    ·rename_i tg e ys
     exact⟨r1.1,λq hq=>asA j v Rb q hq⟩
    ·rename_i tag i ep e ys
     obtain⟨_,⟨k,hk,h3⟩,_⟩:=r1
     exact⟨λq hq=>(by cases hq),⟨k,hk,h3⟩,by simp⟩
    ·rename_i s off
     split
     ·rename_i hk
      exact⟨r1.1,xo s hk r1.2.1,r1.2.2⟩
     ·exact r1.2.2
    ·rename_i Js aqu _
     cases hfl:x.kh with
     |true=>
      obtain⟨rfl,k⟩:=tA (c':=dq C g' (st.mask keep) w) r1 hfl
      exact k
     |false=>exact alF r1 Js aqu
 refine⟨g',h.defers,?_,?_,λi av hi=>?_,λs cs hs=>?_,λk v av hk=>by simp at hk,h.gN,h.frame,⟨fpi,ayq 0 hri (λi v hv=>by rw[cO];exact hv),hni,hli⟩⟩;show _=(oH keep st.ep st.io 0 st.slots).length;rw[yU];exact h.size;show(oG keep st.ep st.io 0 st.boxes).length=(oH keep st.ep st.io 0 st.slots).length;rw[yU,Fq];exact h.bsize;have wV:(oH keep st.ep st.io 0 st.slots)[i]?=some av:=hi;rw[JC,cO]at wV;cases hv:st.slots[i]? with
 |none=>rw[hv]at wV;cases wV
 |some x=>
  rw[hv]at wV;simp only[dD,bq]at wV;split at wV
  ·subst wV
   cases hx:x with
   |yC ts=>exact⟨[],gS.bot _ _,by simp,by simp⟩
   |val gg cs=>
    rw[hx]at hv
    obtain⟨fp,⟨vs,fU,hr⟩,hn,hl⟩:=h.slots i _ hv
    refine⟨fp,⟨vs,fU,Kv (io:=st.io) apc (c:=dq C g st w) (c':=dq C g' (st.mask keep) w) rfl rfl rfl rfl rfl xo 0 hr ?_⟩,hn,hl⟩
    intro j u hu t ht
    simp only[cO,lx.Ia]at ht
    cases hb:Nat.ble 4096 j with
    |true=>rw[hb]at ht;cases ht
    |false=>
     rw[hb]at ht
     simp only[ae]at ht
     cases IG:Nat.ble 1000000 i with
     |true=>rw[IG]at ht;cases ht
     |false=>
     rw[IG]at ht
     simp only[ae,bq]at ht
     have hi6:i<1000000:=by rcases bT i 1000000 with gr|BN;exact gr;rw[iE BN]at IG;cases IG
     have hj:j<4096:=by rcases bT j 4096 with gr|BN;exact gr;rw[iE BN]at hb;cases hb
     have h0:t%3=0:=by omega
     have h1:t/3/4096=i:=by omega
     have h2:t/3%4096=j:=by omega
     refine⟨.inl (by omega),?_⟩
     show u=FX C.ioV st a w g.β t
     rw[FX,nI,aI h0,h1,h2,get_eq hv,ab7 fU,hu];rfl
  subst wV;exact⟨[],gS.bot _ _,by simp,by simp⟩
 have yD:(oG keep st.ep st.io 0 st.boxes)[s]?=some (some cs):=hs;rw[EI,cO]at yD;cases hv:st.boxes[s]? with
 |none=>rw[hv]at yD;cases yD
 |some x=>
  rw[hv]at yD;simp only[dD,bq]at yD;split at yD;cases hx:x with
  |none=>rw[hx]at yD;cases yD
  |some xs=>
   rw[hx]at yD hv;simp only[dD,bq]at yD;subst yD;obtain⟨arr,T,fr,fp,hb,uO,hr,hn,hni,hl,KO,KR⟩:=h.boxes s xs hv;refine⟨arr,T,fr,fp,hb,uO,Kv (io:=st.io) apc (c:=dq C g st w) (c':=dq C g' (st.mask keep) w) rfl rfl rfl rfl rfl xo 0 hr ?_,hn,hni,hl,KO,KR⟩;intro j u hu t ht;simp only[cO,lx.Ia]at ht;cases hbb:Nat.ble 4096 j with
   |true=>rw[hbb]at ht;cases ht
   |false=>
    rw[hbb]at ht;simp only[ae,bq]at ht;have hj:j<4096:=by rcases bT j 4096 with gr|BN;exact gr;rw[iE BN]at hbb;cases hbb
    have h0:¬t%3=0:=by omega
    have h1:t/3/4096=s:=by omega
    have h2:t/3%4096=j:=by omega
    refine⟨.inl (by omega),?_⟩;show u=FX C.ioV st a w g.β t;rw[FX,nI,aK h0,h1,h2,hb];simp only;rw[hu];rfl
  cases yD
structure jr (ds:List Nat) (st cp:AS):Prop where
 len:cp.slots.length=st.slots.length
 slot:∀i,i∉ds->cp.slots[i]?=st.slots[i]?
 boxes:cp.boxes=st.boxes
 ep:cp.ep=st.ep
 iss:∀i,i∉ds->nth cp.iss i=nth st.iss i
 asW:cp.iss.length=st.iss.length
 io:cp.io=st.io
theorem jr.refl (ds:fA)(st:AS):jr ds st st:=⟨rfl,λ_ _=>rfl,rfl,rfl,λ_ _=>rfl,rfl,rfl⟩
theorem jr.trans {st st1 st2:AS}(h:jr ds st st1)(k:jr ds st1 st2):jr ds st st2:=⟨k.len.trans h.len,λi hi=>(k.slot i hi).trans (h.slot i hi),k.boxes.trans h.boxes,k.ep.trans h.ep,λi hi=>(k.iss i hi).trans (h.iss i hi),k.asW.trans h.asW,k.io.trans h.io⟩
theorem jr.put {st:AS}(hd:∀i,d=some i->i∈ds)(v:AV):jr ds st (st.put d v):=by cases d with|none=>exact jr.refl _ _|some d=>refine⟨by rw[gx,ay],λi hi=>?_,ly,MO,λi _=>by rw[W5],by rw[W5],M0⟩;rw[gx,aR];rintro rfl;exact hi (hd _ rfl)
theorem jr.fW {st:AS}(hd:∀i,d=some i->i∈ds):jr ds st (st.fW d):=by cases d with|none=>exact jr.refl _ _|some d=>refine⟨rfl,λi _=>rfl,rfl,rfl,λi hi=>?_,?_,rfl⟩;simp only[AS.fW,ez,fV];rw[aR];rintro rfl;exact hi (hd _ rfl);simp only[AS.fW,fV,ay]
theorem wK {α:Type}{o:az α}{k:α->az AS}{cp:AS}(h:aa o k=some cp)(hk:∀x,k x=some cp->jr ds st cp):jr ds st cp:=by cases o with|none=>cases h|some x=>exact hk x h
theorem ahR {n:Nat}{k:az AS}{cp:AS}(h:room n k=some cp)(hk:k=some cp->jr ds st cp):jr ds st cp:=by unfold room at h;split at h;exact hk h;cases h
theorem adW {op:BinOp}{k:IntKind}{x y:Int}{K:AC->az AS}{cp:AS}(h:LA op k x y K=some cp)(hk:∀z,K z=some cp->jr ds st cp):jr ds st cp:=by
 unfold LA at h
 split at h<;>first
  |exact hk _ h
  |(split at h
    ·cases h
    ·exact hk _ h)
  |cases h
theorem adX {op:BinOp}{x y:aw UInt8}{K:AC->az AS}{cp:AS}(h:Ow op x y K=some cp)(hk:∀z,K z=some cp->jr ds st cp):jr ds st cp:=by
 unfold Ow at h
 split at h<;>first
  |exact ahR h (hk _)
  |exact hk _ h
  |cases h
theorem M8 {op:BinOp}{x y:AV}{K:AC->az AS}{cp:AS}(h:Jc op x y K=some cp)(hk:∀z,K z=some cp->jr ds st cp):jr ds st cp:=by unfold Jc at h;split at h;split at h;split at h;cases h;exact hk _ h;split at h;cases h;exact hk _ h;split at h;exact adW h hk;cases h;exact adX h hk;split at h;exact hk _ h;exact hk _ h;cases h;split at h;exact wK h λb hb=>hk _ hb;exact wK h λb hb=>hk _ hb;cases h;cases h
theorem LI {lo hi:az Operand}{n:Nat}{K:Int->Int->az AS}{st0 cp:AS}(h:nK st0 lo hi n K=some cp)(hk:∀x y,K x y=some cp->jr ds st cp):jr ds st cp:=by
 unfold nK at h
 split at h<;>first
  |exact hk _ _ h
  |cases h
theorem RF {op:BinOp}{b:Bool}{K:AC->az AS}{cp:AS}(h:GP op b K=some cp)(hk:∀c,K c=some cp->jr ds st cp):jr ds st cp:=by unfold GP at h;split at h;exact hk _ h;exact hk _ h;cases h
theorem UX {E:Env}(DA:∀f,(Γ f).io=false/\(Γ f).bx=false/\(Γ f).pr=false){o:Oper}{cp:AS}(hq:ie an ds o=true)(hd:∀i,o.dst=some i->i∈ds)(h:dp E Γ an o st some=some cp):jr ds st cp:=by
 have yE:∀v,some (st.put o.dst v)=some cp->jr ds st cp:=λv hv=>by cases hv;exact jr.put hd v
 unfold dp at h;split at h;rename_i x ho;simp only[ie,ho]at hq;unfold Fs at h;cases WE:o.dst with
 |none=>rw[WE]at h;cases h
 |some d=>
  rw[WE]at h hq;simp only at h hq;have hf:an.mv.contains d=false:=by simpa using hq
  rw[hf]at h;simp only[bn,cJ]at h;cases h;exact jr.put (λi hi=>hd i (by rw[WE];exact hi)) _
 rename_i x ho;have GU:C2 an o=false\/∃y,x=y/\(∀v,y≠ .const v)/\(∀t,y≠ .tmp t):=by cases x with|tmp t=>left;simp only[ie,ho,af,aM]at hq;exact hq.2|const v=>left;simpa only[ie,ho,aM]using hq|func f=>simp[ie,ho]at hq|global g=>simp[ie,ho]at hq
 have GU:C2 an o=false:=by rcases GU with h1|⟨y,rfl,h1,h2⟩;exact h1;cases x with|tmp t=>exact absurd rfl (h2 t)|const v=>exact absurd rfl (h1 v)|func f=>simp[ie,ho]at hq|global g=>simp[ie,ho]at hq
 simp only[ie,ho]at hq;rw[aK (by simp[GU])]at h;unfold xg at h;have hx:jr ds st (st.take x).2:=by
  cases x with
  |tmp t=>
   have ht:t∈ds:=by simp only[af]at hq;simpa using hq.1
   exact jr.put (d:=some t) (λi hi=>by cases hi;exact ht) _
  |const v=>exact jr.refl _ _
  |func f=>exact jr.refl _ _
  |global g=>exact jr.refl _ _
 split at h;split at h;exact yE _ h;cases h;rename_i v st1 _ vd;cases h;have:(st.take x).2=st1:=by rw[vd]
 rw[this]at hx;exact hx.trans (jr.put hd _);unfold HO at h;split at h;rename_i t _;split at h;exact yE _ h;cases t with|true=>exact yE _ h|false=>exact yE _ h
 cases h;rename_i ho;simp[ie,ho]at hq;rename_i ho;simp[ie,ho]at hq;rename_i T p ho;simp only[ie,ho]at hq;have vd:Ih an o=false:=by unfold Ih;cases WE:o.dst with|none=>rfl|some d=>rw[WE]at hq;simp only[aM]at hq;simp only[hq,eF]
 unfold qv at h;split at h;split at h;split at h;split at h;rename_i d WE;rw[WE]at hq;simp only at hq;have hf:an.mv.contains d=false:=by simpa using hq
 rw[hf]at h;simp only[bn,cJ]at h;exact yE _ h;cases h;cases h;cases h;rw[aK (by simp[vd])]at h;split at h;split at h;exact yE _ h;cases h;unfold Gz at h;split at h;split at h;split at h;split at h;obtain⟨y,_,h⟩:=P0 h;exact yE _ h;cases h;cases h;cases h;cases h;cases h;rename_i ho;simp[ie,ho]at hq;split at h;exact yE _ h;exact yE _ h;cases h;unfold DK at h;split at h;split at h;exact M8 h λz hz=>yE _ hz;cases h;split at h;split at h;exact M8 h λz hz=>yE _ hz;cases h;cases h;split at h;split at h;cases h;exact RF h λz hz=>yE _ hz;cases h;split at h;exact RF h λz hz=>yE _ hz;cases h;exact M8 h λz hz=>yE _ hz;unfold unC at h;split at h;exact yE _ h;exact yE _ h;exact yE _ h;cases h;unfold CO at h;split at h;split at h;exact yE _ h;cases h;split at h;exact yE _ h;cases h;cases h;unfold np at h;split at h;split at h;exact wK h λy hy=>yE _ hy;cases h;cases h;unfold EH at h;split at h;split at h;exact wK h λy hy=>yE _ hy;cases h;cases h;rename_i T parts ho;simp only[ie,ho]at hq;have he:parts=#[]:=by simpa using hq
 subst he;unfold Eu at h;split at h;simp only[fM,List.map_nil]at h;split at h;exact yE _ h;cases h;cases h;rename_i ho;simp[ie,ho]at hq;rename_i ho;simp[ie,ho]at hq;rename_i ho;simp only[ie,ho,aM]at hq;unfold Dh at h;rw[aK (by simp[hq])]at h;split at h;split at h;exact LI h λx y hxy=>wK hxy λz hz=>yE _ hz;cases h;split at h;exact LI h λx y hxy=>wK hxy λz hz=>yE _ hz;cases h;cases h;rename_i ho;simp[ie,ho]at hq;rename_i ho;simp[ie,ho]at hq;rename_i ho;simp[ie,ho]at hq;rename_i ho;simp[ie,ho]at hq;unfold Rt at h;split at h;split at h;exact yE _ h;cases h;split at h;exact yE _ h;cases h;cases h;unfold Tq at h;split at h;exact yE _ h;cases h;unfold Tp at h;split at h;exact yE _ h;cases h;rename_i ho;simp[ie,ho]at hq;unfold GO at h;split at h;rename_i k _;rw[(DA k).2.1,(DA k).2.2,(DA k).1]at h;simp only[ae]at h;refine wK h λy hy=>?_;cases Ti:(Γ k).sel y with|true=>rw[Ti]at hy;cases hy;exact(jr.fW hd).trans (jr.put hd _)|false=>rw[Ti]at hy;cases hy;exact(jr.fW hd).trans (jr.put hd _)
 cases h;cases h
theorem aao {ops:aw Oper}{o:Oper}(ho:o∈ops){i:Nat}(hi:o.dst=some i):i∈Ke ops:=List.mem_filterMap.2 ⟨o,ho,hi⟩
theorem RG {E:Env}(DA:∀f,(Γ f).io=false/\(Γ f).bx=false/\(Γ f).pr=false){ops:aw Oper}{o:Oper}{cp:AS}(ho:o∈ops)(hq:ie an (Ke ops) o=true)(h:ia E Γ an ops o st some=some cp):jr (Ke ops) st cp:=by
 have hd:∀i,o.dst=some i->i∈Ke ops:=λi hi=>aao ho hi;unfold ia at h;split at h;exact UX DA hq hd h;rename_i j KI hg;split at h;rename_i d WE;have hdm:d∈Ke ops:=by rw[ez]at WE;cases O7:ops[j]? with|none=>rw[O7]at WE;cases WE|some o'=>rw[O7]at WE;exact aao (aU O7) WE
 have hp:∀t,jr (Ke ops) st (st.put (some d) (.one (.bool t))):=λt=>jr.put (λi hi=>by cases hi;exact hdm) _;split at h;rename_i b hb;have main:∀t,(if(t==KI)=true then dp E Γ an o (st.put (some d) (.one (.bool t))) some else some ((st.put (some d) (.one (.bool t))).put o.dst (.one .un)))=some cp->jr (Ke ops) st cp:=by intro t ht;split at ht;exact(hp t).trans (UX DA hq hd ht);cases ht;exact(hp t).trans (jr.put hd _)
 cases b with|true=>exact main true h|false=>exact main false h
 cases h;exact jr.put hd _;cases h;cases h
theorem aay {E:Env}(DA:∀f,(Γ f).io=false/\(Γ f).bx=false/\(Γ f).pr=false){ops:aw Oper}(hq:∀o∈ops,ie an (Ke ops) o=true):∀(l:aw Oper)(st cp:AS),(∀o∈l,o∈ops)->Xf E Γ an ops l st some=some cp->jr (Ke ops) st cp
 |[],st,cp,_,h=>by cases h;exact jr.refl _ _
 |o::l,st,cp,hl,h=>by simp only[Xf]at h;rw[sH]at h;cases hg:ia E Γ an ops o st some with|none=>rw[hg]at h;cases h|some st1=>rw[hg]at h;exact(RG DA (hl o (by simp)) (hq o (hl o (by simp))) hg).trans (aay DA hq l st1 cp (λo' O7=>hl o' (by simp[O7])) h)
theorem Kd:∀(l:fA)(st:AS),(∀i∈l,i∈ds)->jr ds st (st.D2 l)
 |[],st,_=>jr.refl _ _
 |d::l,st,h=>by
  have hd:∀i,some d=some i->i∈ds:=λi hi=>by cases hi;exact h d (by simp)
  exact((jr.put hd _).trans (jr.fW hd)).trans (Kd l _ (λi hi=>h i (by simp[hi])))
theorem T3:∀(l:fA)(st:AS)(i:Nat)(av:AV),(st.D2 l).slots[i]?=some av->i∈l\/st.slots[i]?=some .bot->av=.bot
 |[],st,i,av,h,hi=>by rcases hi with hi|hi;cases hi;have:st.slots[i]?=some av:=h;rw[hi]at this;cases this;rfl
 |d::l,st,i,av,h,hi=>by
  refine T3 l _ i av h ?_;by_cases Py:i∈l;exact .inl Py;refine .inr ?_;rw[xa,gx,bO];have gr:i<st.slots.length:=by
   have h1:=(Kd (ds:=d::l) l ((st.put (some d) .bot).fW (some d)) (λi hi=>by simp[hi])).len;have h2:=(aC.1 h).1;have h3:(AS.D2 ((st.put (some d) .bot).fW (some d)) l).slots.length=st.slots.length:=by rw[h1,xa,gx,ay]
   have h4:i<(AS.D2 ((st.put (some d) .bot).fW (some d)) l).slots.length:=h2;omega
  split;rename_i hdi;subst hdi;rw[aI gr];rename_i hdi;rcases hi with hi|hi;simp only[bZ]at hi;rcases hi with hi|hi;exact absurd hi.symm hdi;exact absurd hi Py;exact hi
theorem T4:∀(l:fA)(st:AS)(i:Nat),i∈l\/(nth st.iss i).getD true=true->(nth (st.D2 l).iss i).getD true=true
 |[],st,i,hi=>by rcases hi with hi|hi;cases hi;exact hi
 |d::l,st,i,hi=>by refine T4 l _ i ?_;by_cases Py:i∈l;exact .inl Py;refine .inr ?_;have he:(AS.fW (st.put (some d) .bot) (some d)).iss=iO st.iss d true:=rfl;rw[he,fV,ez,bO];split;split<;>rfl;rename_i hdi;rcases hi with hi|hi;simp only[bZ]at hi;rcases hi with hi|hi;exact absurd hi.symm hdi;exact absurd hi Py;rw[ez]at hi;exact hi
theorem py.weaken {cp:AS}(h:py C cp a w)(hn:jr ds st cp){s:Nat}{b:Bool}(hb:getBool cp s=some b):py C ((st.D2 ds).put (some s) (.one (.bool b))) a w:=by
 have IG:cp.get s=.val false [.bool b]:=by unfold getBool at hb;split at hb;rename_i b' hg;cases hb;exact hg;cases hb
 have hkn:=h.known IG;obtain⟨g,h⟩:=h;have hdn:=Kd (ds:=ds) ds st (λ_ hi=>hi);have wJ:((st.D2 ds).put (some s) (.one (.bool b))).boxes=cp.boxes:=by rw[ly,hdn.boxes,hn.boxes]
 have Bs:((st.D2 ds).put (some s) (.one (.bool b))).ep=cp.ep:=by rw[MO,hdn.ep,hn.ep]
 have hlen:((st.D2 ds).put (some s) (.one (.bool b))).slots.length=cp.slots.length:=by rw[gx,ay,hdn.len,hn.len]
 have O5:∀t,nH cp t->nH ((st.D2 ds).put (some s) (.one (.bool b))) t:=by intro t ht;rw[LC];rcases ht with ht|ht;exact .inl ht;refine .inr (T4 ds st _ ?_);by_cases hi:t/3/4096∈ds;exact .inl hi;exact .inr (by rw[<-hn.iss _ hi];exact ht)
 have xo:∀s',jL cp s'->jL ((st.D2 ds).put (some s) (.one (.bool b))) s':=λs' hs=>by unfold jL at hs⊢;rw[wJ];exact hs
 have hle:(dq C g cp w).Le (dq C g ((st.D2 ds).put (some s) (.one (.bool b))) w):=⟨rfl,λt ht=>⟨O5 t ht,rfl⟩,λ_ _ _ _ _ hv=>hv,by show cp.ep<=_;rw[<-Bs];exact bt _,λs' hs=>⟨xo s' hs,rfl⟩,λ_ b o u ho hu=>⟨ho,hu⟩⟩
 refine⟨g,h.step (λ_=>True) hle h.defers (by rw[hlen];exact h.size) (by rw[wJ,hlen];exact h.bsize) h.frame h.gN (λb x _ hx=>⟨hx,rfl,rfl⟩) ?_ ?_ ?_ (.inl ⟨cq,by rw[M0,hdn.io,hn.io]⟩)⟩;intro i av hi;rw[gx,bO]at hi;split at hi;rename_i hsi;subst hsi;split at hi;cases hi;refine .inr ⟨[],nq ?_,by simp,by simp⟩;exact⟨hkn,rfl⟩;cases hi;by_cases Zp:i∈ds;have:=T3 ds st i av hi (.inl Zp);subst this;exact .inr ⟨[],gS.bot _ _,by simp,by simp⟩;rw[hdn.slot i Zp]at hi;exact .inl ⟨cq,by rw[hn.slot i Zp];exact hi,rfl⟩;intro s' cs hs;rw[wJ]at hs;exact .inl ⟨cq,hs,rfl⟩;intro k v av hk;simp at hk
theorem anp (Γ:Dy)(f:Nat):(Γ.calm f).io=false/\(Γ.calm f).bx=false/\(Γ.calm f).pr=false:=by unfold Dy.calm;cases h:(Γ f).io with|true=>exact⟨rfl,rfl,rfl⟩|false=>cases h2:(Γ f).bx with|true=>exact⟨rfl,rfl,rfl⟩|false=>cases h3:(Γ f).pr with|true=>exact⟨rfl,rfl,rfl⟩|false=>exact⟨h,h2,h3⟩
theorem aoH (Γ:Dy)(f:Nat):(Γ.KF f).io=false/\((Γ.KF f).bx=true->(Γ.KF f).cur=true)/\(Γ.KF f).pr=false:=by unfold Dy.KF;cases h:(Γ f).io with|true=>exact⟨rfl,λh=>(by cases h),rfl⟩|false=>cases h3:(Γ f).pr with|true=>exact⟨rfl,λh=>(by cases h),rfl⟩|false=>cases h2:(Γ f).bx with|false=>exact⟨h,λh=>(by simp[h2]at h),h3⟩|true=>cases h4:(Γ f).cur with|true=>exact⟨h,λ_=>h4,h3⟩|false=>exact⟨rfl,λh=>(by cases h),rfl⟩
theorem aoI (DA:∀f,(Γ f).io=false/\(Γ f).bx=false/\(Γ f).pr=false)(f:Nat):(Γ.KF f).io=false/\(Γ.KF f).bx=false/\(Γ.KF f).pr=false:=by have h:=DA f;unfold Dy.KF;rw[h.1,h.2.1,h.2.2];exact h
theorem Sound.KF {E:Env}(h:Sound P E Γ):Sound P E Γ.KF:=by refine⟨h.ty,h.eqs,h.fts,λf=>?_,h.mixed⟩;unfold Dy.KF;cases (Γ f).io||(Γ f).pr||((Γ f).bx&& !(Γ f).cur)with|true=>intro xs y hy;cases hy|false=>exact h.fns f
theorem Sound.calm {E:Env}(h:Sound P E Γ):Sound P E Γ.calm:=by refine⟨h.ty,h.eqs,h.fts,λf=>?_,h.mixed⟩;unfold Dy.calm;cases (Γ f).io with|true=>intro xs y hy;cases hy|false=>cases (Γ f).bx with|true=>intro xs y hy;cases hy|false=>cases (Γ f).pr with|true=>intro xs y hy;cases hy|false=>exact h.fns f
end Go.Dn
