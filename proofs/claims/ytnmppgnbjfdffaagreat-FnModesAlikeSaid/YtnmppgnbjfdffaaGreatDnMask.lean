import Derived.Test.YtnmppgnbjfdffaaGreatDnDen
import Derived.Test.YtnmppgnbjfdffaaGreatDnNat
/- What is kept at a loop's door; what a region whose ways meet again leaves. -/
namespace Go.Dn
open Go.RowKit
variable {P:Program} {C:Ctx} {st:AS} {a:Act} {w:World} {R:Type} {r:R}
variable {an:An} {Γ:zP} {v:Value} {io:ay AC} {d:aC Nat} {ds:fR}
theorem FW (gX:fR)(ep:Nat)(io:ay AC):∀(l:ay AV)(n i:Nat),(nZ gX ep io n l)[i]?=(l[i]?).map λv=>if gX.contains (n+i) then v.mask gX ep io (n+i) else .bot
 |[],n,i=>by simp[nZ]
 |v::l,n,0=>by simp[nZ]
 |v::l,n,i+1=>by simp only[nZ,fG];rw[FW gX ep io l (n+1) i,show n+1+i=n+(i+1) by omega]
theorem BI (gX:fR)(ep:Nat)(io:ay AC):∀(l:ay (aC (ay AC)))(n i:Nat),(nY gX ep io n l)[i]?=(l[i]?).map λb=>if gX.contains (n+i) then b.map (Je gX ep io (.box (n+i)) 0) else none
 |[],n,i=>by simp[nY]
 |v::l,n,0=>by simp[nY]
 |v::l,n,i+1=>by simp only[nY,fG];rw[BI gX ep io l (n+1) i,show n+1+i=n+(i+1) by omega]
theorem wI (gX:fR)(ep:Nat)(io:ay AC):∀(l:ay AV)(n:Nat),(nZ gX ep io n l).length=l.length
 |[],_=>rfl
 |_::l,n=>by simp[nZ,wI gX ep io l]
theorem Ck (gX:fR)(ep:Nat)(io:ay AC):∀(l:ay (aC (ay AC)))(n:Nat),(nY gX ep io n l).length=l.length
 |[],_=>rfl
 |_::l,n=>by simp[nY,Ck gX ep io l]
def Wr:Value->AV->jz
 | .agg vs,.val true _=>vs.toList
 |v,_=>[v]
theorem Wv {g:Bool}{vs:jz}{cs:ay AC}(h:Cut g v vs):Wr v (.val g cs)=vs:=by cases g with|true=>simp only[Cut,cc]at h;subst h;simp[Wr]|false=>simp only[Cut]at h;subst h;cases v<;>rfl
def CH (ioV:jz)(st:AS)(a:Act)(w:World)(β:Nat->Nat)(t:Nat):Value:=
 if t%3=0/\t/3/4096=1000003 then(ioV[t/3%4096]?).getD undef
 else if t%3=0 then((Wr (a.tmps.getD (t/3/4096) undef) (st.get (t/3/4096)))[t/3%4096]?).getD undef
 else match w.heap[β (t/3/4096)]? with
  |some (.cells arr _ _)=>(arr.toList[t/3%4096]?).getD undef
  |_=>undef
def V5 (c c':RC)(io:ay AC):Prop:=∀j n (e:CT)(ys:ay e.D),AC.aeL io j n e=some ys->∃v0 fp0,gi c.hw c.w (.sl e) [v0] ys fp0/\v0=c.hdr n/\∀q,(lq.io j).EI=some q->c'.iss q/\v0=c'.hdr q
theorem abz {c c':RC}(Ot:V5 c c' io){gX:fR}{rt:lq}{x:AC}{fp:fR}(h:iI c v x fp)(Fb:c'.hw=c.hw)(hw:c'.w=c.w)(hA:c'.A=c.A)(yi:c'.ep=0)(IZ:c'.β=c.β)(uY:∀s,gX.contains s=true->c.H2 s->c'.H2 s)(nt:∀t,rt.EI=some t->c'.iss t/\v=c'.hdr t):iI c' v (x.mask gX c.ep io rt) fp:=by
 have hS:c'.S=c.S:=by funext b o;simp[RC.S,Fb,hA]
 cases x with
 |int k n=>exact h
 |bool b=>exact h
 |str s=>exact h
 |kx=>exact h
 |fn f=>exact h
 |un=>exact h
 |bot=>exact h
 |ptr s off=>simp only[AC.mask];split;rename_i hk;exact⟨by rw[IZ];exact h.1,uY s hk h.2.1,h.2.2⟩;exact h.2.2
 |BA fl e y i off=>cases fl with|own t=>exact h.elim|nest _ _ _ _ _ _=>exact h.elim|part _ _ _ _=>exact h.elim|gj _ _ _=>exact h.elim|arg _=>exact h.1|loc ep pv=>exact h.1
 |sl fl e xs=>
  cases fl with
  |own t=>exact⟨gi.mono h.1 (λb _=>⟨by rw[hw],by rw[Fb]⟩),nt⟩
  |nest _ _ _ _ _ _=>exact h.1
  |part _ _ _ _=>exact h.1
  |gj _ _ _=>obtain⟨_,⟨k,hk,h3⟩,_⟩:=h;exact⟨λq hq=>(by cases hq),⟨k,hk,h3.mono (λb hb=>⟨by rw[hw],by rw[Fb]⟩)⟩,by simp⟩
  |arg _=>exact⟨h.1,by rw[hA,hw];exact h.2⟩
  |loc ep pv=>
   obtain⟨h1,h2,h3,h4,h5⟩:=h;have plain:iI c' v (if(ep==c.ep)=true then AC.sl (.loc 0 none) e xs else .bot) fp:=by split;rename_i he;refine⟨h1,by rw[yi];exact aV _,h3,λ_=>?_,by simp⟩;rw[hS,hw];exact h4 (by simpa using he);exact h1
   simp only[AC.mask];split;rename_i j n;split;rename_i ys Eg;obtain⟨v0,fp0,iL,MD,hq⟩:=Ot j n e ys Eg;obtain⟨_,k2⟩:=h5 _ _ rfl;have hv:v0=v:=MD.trans k2.symm;subst hv;refine⟨h1,by rw[yi];exact aV _,Na iL,λ_=>?_,λr t hp=>?_⟩;rw[hS,hw];exact gi.rep (λb o ho=> .inr ho) iL;cases wx:(lq.io j).EI with|none=>rw[wx]at hp;cases hp|some q=>rw[wx]at hp;simp at hp;obtain⟨_,rfl⟩:=hp;exact⟨(hq q wx).1,(hq q wx).2⟩
   exact plain;exact plain
theorem Gv {c c':RC}(Ot:V5 c c' io){gX:fR}{f:Nat->lq}(Fb:c'.hw=c.hw)(hw:c'.w=c.w)(hA:c'.A=c.A)(yi:c'.ep=0)(IZ:c'.β=c.β)
 (uY:∀s,gX.contains s=true->c.H2 s->c'.H2 s):∀{vs:jz}{xs:ay AC}{fp:fR}(j:Nat),bR c vs xs fp->
  (∀i v,vs[i]?=some v->∀t,(f (j+i)).EI=some t->c'.iss t/\v=c'.hdr t)->bR c' vs (Je gX c.ep io f j xs) fp
 |[],[],_,_,h,_=>h
 |v::_,_::_,_,j,h,hm=>by obtain⟨f1,f2,rfl,h1,h2⟩:=h;exact⟨f1,f2,rfl,abz Ot h1 Fb hw hA yi IZ uY (λt ht=>hm 0 v rfl t ht),Gv Ot Fb hw hA yi IZ uY (j+1) h2 (λi u hu t ht=>hm (i+1) u (by simpa using hu) t (by rwa[show j+(i+1)=j+1+i by omega]))⟩
 |[],_::_,_,_,h,_=>h.elim
 |_::_,[],_,_,h,_=>h.elim
theorem ae2 {c:RC}{x:AC}{fp:fR}(h:iI c v x fp)(GR:∀(tag:aC Nat)(e:CT)(xs:ay e.D),x=.sl (.own tag) e xs->False)(ajo:∀(tag:aC Nat)(i:Int)(ep:aC Nat)(e:CT)(xs:ay e.D),x=.sl (.gj tag i ep) e xs->False):fp=[]:=by
 cases x with
 |int k n=>exact h.2
 |bool b=>exact h.2
 |str s=>exact h.2
 |kx=>exact h.2
 |fn f=>exact h.2
 |un=>exact h.2
 |bot=>exact h
 |ptr s off=>exact h.2.2
 |BA fl e y i off=>cases fl with|own t=>exact h.elim|nest _ _ _ _ _ _=>exact h.elim|part _ _ _ _=>exact h.elim|gj _ _ _=>exact h.elim|arg _=>exact h.1|loc ep pv=>exact h.1
 |sl fl e xs=>cases fl with|own t=>exact(GR _ _ _ rfl).elim|nest _ _ _ _ _ _=>exact h.1|part _ _ _ _=>exact h.1|gj _ _ _=>exact(ajo _ _ _ _ _ rfl).elim|arg _=>exact h.1|loc ep pv=>exact h.1
theorem oE.mask (h:oE C st a w)(gX:fR):oE C (st.mask gX) a w:=by
 obtain⟨g,h⟩:=h;let g':Gh:={g with hdr:=CH C.ioV st a w g.β}
 have uY:∀s,gX.contains s=true->jO st s->jO (st.mask gX) s:=by rintro s hk ⟨cs,hs⟩;refine⟨Je gX st.ep st.io (.box s) 0 cs,?_⟩;show(nY gX st.ep st.io 0 st.boxes)[s]?=_;rw[BI,hs];simp only[dJ,cK,aF hk]
 obtain⟨fpi,hri,hni,hli⟩:=h.io;have alb:∀j v,C.ioV[j]?=some v->∀q,(lq.io j).EI=some q->nq (st.mask gX) q/\v=CH C.ioV st a w g.β q:=by
  intro j v hv q hq;simp only[lq.EI]at hq;cases hb:Nat.ble 4096 j with
  |true=>rw[hb]at hq;cases hq
  |false=>
   rw[hb]at hq;simp only[af,bu,ZI]at hq;have hj:j<4096:=by rcases bW j 4096 with ir|zH;exact ir;rw[iK zH]at hb;cases hb
   have h0:q%3=0:=by omega
   have h1:q/3/4096=1000003:=by omega
   have h2:q/3%4096=j:=by omega
   refine⟨.inl (by omega),?_⟩;rw[CH,aF ⟨h0,h1⟩,h2,hv];rfl
 have aio:V5 (dk C g st w) (dk C g' (st.mask gX) w) st.io:=by
  intro j n e ys Eg;unfold AC.aeL at Eg;split at Eg;rename_i t' e' ys' hj;split at Eg;rename_i he;subst he;cases ht:(t'==n)with
  |false=>rw[ht]at Eg;cases Eg
  |true=>
   rw[ht]at Eg;have:t'=n:=by simpa using ht
   subst this;cases Eg;rw[eH]at hj;obtain⟨v,f,hv,hr,_⟩:=hri.get j _ hj;exact⟨v,f,hr.1,(hr.2 t' rfl).2,λq hq=>alb j v hv q hq⟩
  cases Eg;cases Eg
 have apz:∀(j:Nat){vs:jz}{xs:ay AC}{fp:fR},bR (dk C g st w) vs xs fp->(∀i v,vs[i]?=some v->C.ioV[j+i]?=some v)->bR (dk C g' (st.mask gX) w) vs (XW gX j xs) fp:=by
  intro j vs
  induction vs generalizing j with
  |nil=>intro xs fp hr _;cases xs with
   |nil=>exact hr
   |cons _ _=>exact hr.elim
  |cons v vs ih=>
   intro xs fp hr hv
   cases xs with
   |nil=>exact hr.elim
   |cons x xs=>
    obtain⟨f1,f2,rfl,r1,r2⟩:=hr
    refine⟨f1,f2,rfl,?_,ih (j+1) r2 (λi u hu=>by rw[show j+1+i=j+(i+1) by omega];exact hv (i+1) u (by simpa using hu))⟩
    have MD:=hv 0 v rfl
    rw[dX]at MD
    split
    ·rename_i tg e ys
     exact⟨r1.1,λq hq=>alb j v MD q hq⟩
    ·rename_i tag i ep e ys
     obtain⟨_,⟨k,hk,h3⟩,_⟩:=r1
     exact⟨λq hq=>(by cases hq),⟨k,hk,h3⟩,by simp⟩
    ·rename_i s off
     split
     ·rename_i hk
      exact⟨r1.1,uY s hk r1.2.1,r1.2.2⟩
     ·exact r1.2.2
    ·rename_i GR ajo _
     cases hfl:x.kc with
     |true=>
      obtain⟨rfl,k⟩:=rA (c':=dk C g' (st.mask gX) w) r1 hfl
      exact k
     |false=>exact ae2 r1 GR ajo
 refine⟨g',h.defers,?_,?_,λi av hi=>?_,λs cs hs=>?_,λk v av hk=>by simp at hk,h.gY,h.frame,⟨fpi,apz 0 hri (λi v hv=>by rw[cK];exact hv),hni,hli⟩⟩;show _=(nZ gX st.ep st.io 0 st.slots).length;rw[wI];exact h.size;show(nY gX st.ep st.io 0 st.boxes).length=(nZ gX st.ep st.io 0 st.slots).length;rw[wI,Ck];exact h.bsize;have wk:(nZ gX st.ep st.io 0 st.slots)[i]?=some av:=hi;rw[FW,cK]at wk;cases hv:st.slots[i]? with
 |none=>rw[hv]at wk;cases wk
 |some x=>
  rw[hv]at wk;simp only[dJ,bu]at wk;split at wk
  ·subst wk
   cases hx:x with
   |wh ts=>exact⟨[],gW.bot _ _,by simp,by simp⟩
   |val gg cs=>
    rw[hx]at hv
    obtain⟨fp,⟨vs,gm,hr⟩,hn,hl⟩:=h.slots i _ hv
    refine⟨fp,⟨vs,gm,Gv (io:=st.io) aio (c:=dk C g st w) (c':=dk C g' (st.mask gX) w) rfl rfl rfl rfl rfl uY 0 hr ?_⟩,hn,hl⟩
    intro j u hu t ht
    simp only[cK,lq.EI]at ht
    cases hb:Nat.ble 4096 j with
    |true=>rw[hb]at ht;cases ht
    |false=>
     rw[hb]at ht
     simp only[af]at ht
     cases FL:Nat.ble 1000000 i with
     |true=>rw[FL]at ht;cases ht
     |false=>
     rw[FL]at ht
     simp only[af,bu]at ht
     have hi6:i<1000000:=by rcases bW i 1000000 with ir|zH;exact ir;rw[iK zH]at FL;cases FL
     have hj:j<4096:=by rcases bW j 4096 with ir|zH;exact ir;rw[iK zH]at hb;cases hb
     have h0:t%3=0:=by omega
     have h1:t/3/4096=i:=by omega
     have h2:t/3%4096=j:=by omega
     refine⟨.inl (by omega),?_⟩
     show u=CH C.ioV st a w g.β t
     rw[CH,kl,aF h0,h1,h2,get_eq hv,Wv gm,hu];rfl
  subst wk;exact⟨[],gW.bot _ _,by simp,by simp⟩
 have yj:(nY gX st.ep st.io 0 st.boxes)[s]?=some (some cs):=hs;rw[BI,cK]at yj;cases hv:st.boxes[s]? with
 |none=>rw[hv]at yj;cases yj
 |some x=>
  rw[hv]at yj;simp only[dJ,bu]at yj;split at yj;cases hx:x with
  |none=>rw[hx]at yj;cases yj
  |some xs=>
   rw[hx]at yj hv;simp only[dJ,bu]at yj;subst yj;obtain⟨arr,T,fr,fp,hb,sE,hr,hn,hni,hl,GQ,GS⟩:=h.boxes s xs hv;refine⟨arr,T,fr,fp,hb,sE,Gv (io:=st.io) aio (c:=dk C g st w) (c':=dk C g' (st.mask gX) w) rfl rfl rfl rfl rfl uY 0 hr ?_,hn,hni,hl,GQ,GS⟩;intro j u hu t ht;simp only[cK,lq.EI]at ht;cases Xc:Nat.ble 4096 j with
   |true=>rw[Xc]at ht;cases ht
   |false=>
    rw[Xc]at ht;simp only[af,bu]at ht;have hj:j<4096:=by rcases bW j 4096 with ir|zH;exact ir;rw[iK zH]at Xc;cases Xc
    have h0:¬t%3=0:=by omega
    have h1:t/3/4096=s:=by omega
    have h2:t/3%4096=j:=by omega
    refine⟨.inl (by omega),?_⟩;show u=CH C.ioV st a w g.β t;rw[CH,kl,aH h0,h1,h2,hb];simp only;rw[hu];rfl
  cases yj
structure jI (ds:List Nat) (st bX:AS):Prop where
 len:bX.slots.length=st.slots.length
 slot:∀i,i∉ds->bX.slots[i]?=st.slots[i]?
 boxes:bX.boxes=st.boxes
 ep:bX.ep=st.ep
 iss:∀i,i∉ds->nth bX.iss i=nth st.iss i
 alz:bX.iss.length=st.iss.length
 io:bX.io=st.io
theorem jI.refl (ds:fR)(st:AS):jI ds st st:=⟨rfl,λ_ _=>rfl,rfl,rfl,λ_ _=>rfl,rfl,rfl⟩
theorem jI.trans {st st1 st2:AS}(h:jI ds st st1)(k:jI ds st1 st2):jI ds st st2:=⟨k.len.trans h.len,λi hi=>(k.slot i hi).trans (h.slot i hi),k.boxes.trans h.boxes,k.ep.trans h.ep,λi hi=>(k.iss i hi).trans (h.iss i hi),k.alz.trans h.alz,k.io.trans h.io⟩
theorem jI.put {st:AS}(hd:∀i,d=some i->i∈ds)(v:AV):jI ds st (st.put d v):=by cases d with|none=>exact jI.refl _ _|some d=>refine⟨by rw[gE,aK],λi hi=>?_,lr,IP,λi _=>by rw[R0],by rw[R0],I6⟩;rw[gE,aJ];rintro rfl;exact hi (hd _ rfl)
theorem jI.gv {st:AS}(hd:∀i,d=some i->i∈ds):jI ds st (st.gv d):=by cases d with|none=>exact jI.refl _ _|some d=>refine⟨rfl,λi _=>rfl,rfl,rfl,λi hi=>?_,?_,rfl⟩;simp only[AS.gv,eH,gr];rw[aJ];rintro rfl;exact hi (hd _ rfl);simp only[AS.gv,gr,aK]
theorem ue {α:Type}{o:aC α}{k:α->aC AS}{bX:AS}(h:aa o k=some bX)(hk:∀x,k x=some bX->jI ds st bX):jI ds st bX:=by cases o with|none=>cases h|some x=>exact hk x h
theorem abM {n:Nat}{k:aC AS}{bX:AS}(h:room n k=some bX)(hk:k=some bX->jI ds st bX):jI ds st bX:=by unfold room at h;split at h;exact hk h;cases h
theorem X5 {op:BinOp}{k:IntKind}{x y:Int}{K:AC->aC AS}{bX:AS}(h:HH op k x y K=some bX)(hk:∀z,K z=some bX->jI ds st bX):jI ds st bX:=by
 unfold HH at h
 split at h<;>first
  |exact hk _ h
  |(split at h
    ·cases h
    ·exact hk _ h)
  |cases h
theorem X6 {op:BinOp}{x y:ay UInt8}{K:AC->aC AS}{bX:AS}(h:Kw op x y K=some bX)(hk:∀z,K z=some bX->jI ds st bX):jI ds st bX:=by
 unfold Kw at h
 split at h<;>first
  |exact abM h (hk _)
  |exact hk _ h
  |cases h
theorem Jh {op:BinOp}{x y:AV}{K:AC->aC AS}{bX:AS}(h:FA op x y K=some bX)(hk:∀z,K z=some bX->jI ds st bX):jI ds st bX:=by unfold FA at h;split at h;split at h;split at h;cases h;exact hk _ h;split at h;cases h;exact hk _ h;split at h;exact X5 h hk;cases h;exact X6 h hk;split at h;exact hk _ h;exact hk _ h;cases h;split at h;exact ue h λb hb=>hk _ hb;exact ue h λb hb=>hk _ hb;cases h;cases h
theorem HU {lo hi:aC Operand}{n:Nat}{K:Int->Int->aC AS}{st0 bX:AS}(h:nr st0 lo hi n K=some bX)(hk:∀x y,K x y=some bX->jI ds st bX):jI ds st bX:=by
 unfold nr at h
 split at h<;>first
  |exact hk _ _ h
  |cases h
theorem M5 {op:BinOp}{b:Bool}{K:AC->aC AS}{bX:AS}(h:Du op b K=some bX)(hk:∀c,K c=some bX->jI ds st bX):jI ds st bX:=by unfold Du at h;split at h;exact hk _ h;exact hk _ h;cases h
theorem P8 {E:Env}(AD:∀f,(Γ f).io=false/\(Γ f).bx=false/\(Γ f).pr=false){o:Oper}{bX:AS}(hq:iw an ds o=true)(hd:∀i,o.dst=some i->i∈ds)(h:dD E Γ an o st some=some bX):jI ds st bX:=by
 have wv:∀v,some (st.put o.dst v)=some bX->jI ds st bX:=λv hv=>by cases hv;exact jI.put hd v
 unfold dD at h;split at h;rename_i x ho;simp only[iw,ho]at hq;unfold Cl at h;cases RE:o.dst with
 |none=>rw[RE]at h;cases h
 |some d=>
  rw[RE]at h hq;simp only at h hq;have hf:an.mv.contains d=false:=by simpa using hq
  rw[hf]at h;simp only[bh,cn]at h;cases h;exact jI.put (λi hi=>hd i (by rw[RE];exact hi)) _
 rename_i x ho;have Dx:Al an o=false\/∃y,x=y/\(∀v,y≠ .const v)/\(∀t,y≠ .tmp t):=by cases x with|tmp t=>left;simp only[iw,ho,ab,aN]at hq;exact hq.2|const v=>left;simpa only[iw,ho,aN]using hq|func f=>simp[iw,ho]at hq|global g=>simp[iw,ho]at hq
 have Dx:Al an o=false:=by rcases Dx with h1|⟨y,rfl,h1,h2⟩;exact h1;cases x with|tmp t=>exact absurd rfl (h2 t)|const v=>exact absurd rfl (h1 v)|func f=>simp[iw,ho]at hq|global g=>simp[iw,ho]at hq
 simp only[iw,ho]at hq;rw[aH (by simp[Dx])]at h;unfold uO at h;have hx:jI ds st (st.take x).2:=by
  cases x with
  |tmp t=>
   have ht:t∈ds:=by simp only[ab]at hq;simpa using hq.1
   exact jI.put (d:=some t) (λi hi=>by cases hi;exact ht) _
  |const v=>exact jI.refl _ _
  |func f=>exact jI.refl _ _
  |global g=>exact jI.refl _ _
 split at h;split at h;exact wv _ h;cases h;rename_i v st1 _ sN;cases h;have:(st.take x).2=st1:=by rw[sN]
 rw[this]at hx;exact hx.trans (jI.put hd _);unfold Et at h;split at h;rename_i t _;split at h;exact wv _ h;cases t with|true=>exact wv _ h|false=>exact wv _ h
 cases h;rename_i ho;simp[iw,ho]at hq;rename_i ho;simp[iw,ho]at hq;rename_i T p ho;simp only[iw,ho]at hq;have sN:EO an o=false:=by unfold EO;cases RE:o.dst with|none=>rfl|some d=>rw[RE]at hq;simp only[aN]at hq;simp only[hq,eZ]
 unfold pC at h;split at h;split at h;split at h;split at h;rename_i d RE;rw[RE]at hq;simp only at hq;have hf:an.mv.contains d=false:=by simpa using hq
 rw[hf]at h;simp only[bh,cn]at h;exact wv _ h;cases h;cases h;cases h;rw[aH (by simp[sN])]at h;split at h;split at h;exact wv _ h;cases h;unfold Da at h;split at h;split at h;split at h;split at h;obtain⟨y,_,h⟩:=LF h;exact wv _ h;cases h;cases h;cases h;cases h;cases h;rename_i ho;simp[iw,ho]at hq;split at h;exact wv _ h;exact wv _ h;cases h;unfold AM at h;split at h;split at h;exact Jh h λz hz=>wv _ hz;cases h;split at h;split at h;exact Jh h λz hz=>wv _ hz;cases h;cases h;split at h;split at h;cases h;exact M5 h λz hz=>wv _ hz;cases h;split at h;exact M5 h λz hz=>wv _ hz;cases h;exact Jh h λz hz=>wv _ hz;unfold unC at h;split at h;exact wv _ h;exact wv _ h;exact wv _ h;cases h;unfold zT at h;split at h;split at h;exact wv _ h;cases h;split at h;exact wv _ h;cases h;cases h;unfold mY at h;split at h;split at h;exact ue h λy hy=>wv _ hy;cases h;cases h;unfold BF at h;split at h;split at h;exact ue h λy hy=>wv _ hy;cases h;cases h;rename_i T parts ho;simp only[iw,ho]at hq;have he:parts=#[]:=by simpa using hq
 subst he;unfold Bw at h;split at h;simp only[fL,List.map_nil]at h;split at h;exact wv _ h;cases h;cases h;rename_i ho;simp[iw,ho]at hq;rename_i ho;simp[iw,ho]at hq;rename_i ho;simp only[iw,ho,aN]at hq;unfold Av at h;rw[aH (by simp[hq])]at h;split at h;split at h;exact HU h λx y hxy=>ue hxy λz hz=>wv _ hz;cases h;split at h;exact HU h λx y hxy=>ue hxy λz hz=>wv _ hz;cases h;cases h;rename_i ho;simp[iw,ho]at hq;rename_i ho;simp[iw,ho]at hq;rename_i ho;simp[iw,ho]at hq;rename_i ho;simp[iw,ho]at hq;unfold MX at h;split at h;split at h;exact wv _ h;cases h;split at h;exact wv _ h;cases h;cases h;unfold OG at h;split at h;exact wv _ h;cases h;unfold OF at h;split at h;exact wv _ h;cases h;rename_i ho;simp[iw,ho]at hq;unfold Dt at h;split at h;rename_i k _;rw[(AD k).2.1,(AD k).2.2,(AD k).1]at h;simp only[af]at h;refine ue h λy hy=>?_;cases Ox:(Γ k).sel y with|true=>rw[Ox]at hy;cases hy;exact(jI.gv hd).trans (jI.put hd _)|false=>rw[Ox]at hy;cases hy;exact(jI.gv hd).trans (jI.put hd _)
 cases h;cases h
theorem UI {ops:ay Oper}{o:Oper}(ho:o∈ops){i:Nat}(hi:o.dst=some i):i∈Ge ops:=List.mem_filterMap.2 ⟨o,ho,hi⟩
theorem M6 {E:Env}(AD:∀f,(Γ f).io=false/\(Γ f).bx=false/\(Γ f).pr=false){ops:ay Oper}{o:Oper}{bX:AS}(ho:o∈ops)(hq:iw an (Ge ops) o=true)(h:iq E Γ an ops o st some=some bX):jI (Ge ops) st bX:=by
 have hd:∀i,o.dst=some i->i∈Ge ops:=λi hi=>UI ho hi;unfold iq at h;split at h;exact P8 AD hq hd h;rename_i j GK hg;split at h;rename_i d RE;have hdm:d∈Ge ops:=by rw[eH]at RE;cases KS:ops[j]? with|none=>rw[KS]at RE;cases RE|some o'=>rw[KS]at RE;exact UI (aZ KS) RE
 have hp:∀t,jI (Ge ops) st (st.put (some d) (.one (.bool t))):=λt=>jI.put (λi hi=>by cases hi;exact hdm) _;split at h;rename_i b hb;have main:∀t,(if(t==GK)=true then dD E Γ an o (st.put (some d) (.one (.bool t))) some else some ((st.put (some d) (.one (.bool t))).put o.dst (.one .un)))=some bX->jI (Ge ops) st bX:=by intro t ht;split at ht;exact(hp t).trans (P8 AD hq hd ht);cases ht;exact(hp t).trans (jI.put hd _)
 cases b with|true=>exact main true h|false=>exact main false h
 cases h;exact jI.put hd _;cases h;cases h
theorem UR {E:Env}(AD:∀f,(Γ f).io=false/\(Γ f).bx=false/\(Γ f).pr=false){ops:ay Oper}(hq:∀o∈ops,iw an (Ge ops) o=true):∀(l:ay Oper)(st bX:AS),(∀o∈l,o∈ops)->Sa E Γ an ops l st some=some bX->jI (Ge ops) st bX
 |[],st,bX,_,h=>by cases h;exact jI.refl _ _
 |o::l,st,bX,hl,h=>by simp only[Sa]at h;rw[qR]at h;cases hg:iq E Γ an ops o st some with|none=>rw[hg]at h;cases h|some st1=>rw[hg]at h;exact(M6 AD (hl o (by simp)) (hq o (hl o (by simp))) hg).trans (UR AD hq l st1 bX (λo' KS=>hl o' (by simp[KS])) h)
theorem Gd:∀(l:fR)(st:AS),(∀i∈l,i∈ds)->jI ds st (st.AY l)
 |[],st,_=>jI.refl _ _
 |d::l,st,h=>by
  have hd:∀i,some d=some i->i∈ds:=λi hi=>by cases hi;exact h d (by simp)
  exact((jI.put hd _).trans (jI.gv hd)).trans (Gd l _ (λi hi=>h i (by simp[hi])))
theorem Ph:∀(l:fR)(st:AS)(i:Nat)(av:AV),(st.AY l).slots[i]?=some av->i∈l\/st.slots[i]?=some .bot->av=.bot
 |[],st,i,av,h,hi=>by rcases hi with hi|hi;cases hi;have:st.slots[i]?=some av:=h;rw[hi]at this;cases this;rfl
 |d::l,st,i,av,h,hi=>by
  refine Ph l _ i av h ?_;by_cases Oq:i∈l;exact .inl Oq;refine .inr ?_;rw[uC,gE,bH];have ir:i<st.slots.length:=by
   have h1:=(Gd (ds:=d::l) l ((st.put (some d) .bot).gv (some d)) (λi hi=>by simp[hi])).len;have h2:=(aB.1 h).1;have h3:(AS.AY ((st.put (some d) .bot).gv (some d)) l).slots.length=st.slots.length:=by rw[h1,uC,gE,aK]
   have h4:i<(AS.AY ((st.put (some d) .bot).gv (some d)) l).slots.length:=h2;omega
  split;rename_i hdi;subst hdi;rw[aF ir];rename_i hdi;rcases hi with hi|hi;simp only[cw]at hi;rcases hi with hi|hi;exact absurd hi.symm hdi;exact absurd hi Oq;exact hi
theorem Pj:∀(l:fR)(st:AS)(i:Nat),i∈l\/(nth st.iss i).getD true=true->(nth (st.AY l).iss i).getD true=true
 |[],st,i,hi=>by rcases hi with hi|hi;cases hi;exact hi
 |d::l,st,i,hi=>by refine Pj l _ i ?_;by_cases Oq:i∈l;exact .inl Oq;refine .inr ?_;have he:(AS.gv (st.put (some d) .bot) (some d)).iss=iR st.iss d true:=rfl;rw[he,gr,eH,bH];split;split<;>rfl;rename_i hdi;rcases hi with hi|hi;simp only[cw]at hi;rcases hi with hi|hi;exact absurd hi.symm hdi;exact absurd hi Oq;rw[eH]at hi;exact hi
theorem oE.weaken {bX:AS}(h:oE C bX a w)(hn:jI ds st bX){s:Nat}{b:Bool}(hb:getBool bX s=some b):oE C ((st.AY ds).put (some s) (.one (.bool b))) a w:=by
 have FL:bX.get s=.val false [.bool b]:=by unfold getBool at hb;split at hb;rename_i b' hg;cases hb;exact hg;cases hb
 have hkn:=h.known FL;obtain⟨g,h⟩:=h;have hdn:=Gd (ds:=ds) ds st (λ_ hi=>hi);have ud:((st.AY ds).put (some s) (.one (.bool b))).boxes=bX.boxes:=by rw[lr,hdn.boxes,hn.boxes]
 have yi:((st.AY ds).put (some s) (.one (.bool b))).ep=bX.ep:=by rw[IP,hdn.ep,hn.ep]
 have hlen:((st.AY ds).put (some s) (.one (.bool b))).slots.length=bX.slots.length:=by rw[gE,aK,hdn.len,hn.len]
 have KQ:∀t,nq bX t->nq ((st.AY ds).put (some s) (.one (.bool b))) t:=by intro t ht;rw[HL];rcases ht with ht|ht;exact .inl ht;refine .inr (Pj ds st _ ?_);by_cases hi:t/3/4096∈ds;exact .inl hi;exact .inr (by rw[<-hn.iss _ hi];exact ht)
 have uY:∀s',jO bX s'->jO ((st.AY ds).put (some s) (.one (.bool b))) s':=λs' hs=>by unfold jO at hs⊢;rw[ud];exact hs
 have hle:(dk C g bX w).Le (dk C g ((st.AY ds).put (some s) (.one (.bool b))) w):=⟨rfl,λt ht=>⟨KQ t ht,rfl⟩,λ_ _ _ _ _ hv=>hv,by show bX.ep<=_;rw[<-yi];exact aV _,λs' hs=>⟨uY s' hs,rfl⟩,λ_ b o u ho hu=>⟨ho,hu⟩⟩
 refine⟨g,h.step (λ_=>True) hle h.defers (by rw[hlen];exact h.size) (by rw[ud,hlen];exact h.bsize) h.frame h.gY (λb x _ hx=>⟨hx,rfl,rfl⟩) ?_ ?_ ?_ (.inl ⟨dq,by rw[I6,hdn.io,hn.io]⟩)⟩;intro i av hi;rw[gE,bH]at hi;split at hi;rename_i hsi;subst hsi;split at hi;cases hi;refine .inr ⟨[],mZ ?_,by simp,by simp⟩;exact⟨hkn,rfl⟩;cases hi;by_cases TV:i∈ds;have:=Ph ds st i av hi (.inl TV);subst this;exact .inr ⟨[],gW.bot _ _,by simp,by simp⟩;rw[hdn.slot i TV]at hi;exact .inl ⟨dq,by rw[hn.slot i TV];exact hi,rfl⟩;intro s' cs hs;rw[ud]at hs;exact .inl ⟨dq,hs,rfl⟩;intro k v av hk;simp at hk
theorem agz (Γ:zP)(f:Nat):(Γ.calm f).io=false/\(Γ.calm f).bx=false/\(Γ.calm f).pr=false:=by unfold zP.calm;cases h:(Γ f).io with|true=>exact⟨rfl,rfl,rfl⟩|false=>cases h2:(Γ f).bx with|true=>exact⟨rfl,rfl,rfl⟩|false=>cases h3:(Γ f).pr with|true=>exact⟨rfl,rfl,rfl⟩|false=>exact⟨h,h2,h3⟩
theorem ahO (Γ:zP)(f:Nat):(Γ.GH f).io=false/\((Γ.GH f).bx=true->(Γ.GH f).cur=true)/\(Γ.GH f).pr=false:=by unfold zP.GH;cases h:(Γ f).io with|true=>exact⟨rfl,λh=>(by cases h),rfl⟩|false=>cases h3:(Γ f).pr with|true=>exact⟨rfl,λh=>(by cases h),rfl⟩|false=>cases h2:(Γ f).bx with|false=>exact⟨h,λh=>(by simp[h2]at h),h3⟩|true=>cases h4:(Γ f).cur with|true=>exact⟨h,λ_=>h4,h3⟩|false=>exact⟨rfl,λh=>(by cases h),rfl⟩
theorem ahP (AD:∀f,(Γ f).io=false/\(Γ f).bx=false/\(Γ f).pr=false)(f:Nat):(Γ.GH f).io=false/\(Γ.GH f).bx=false/\(Γ.GH f).pr=false:=by have h:=AD f;unfold zP.GH;rw[h.1,h.2.1,h.2.2];exact h
theorem Sound.GH {E:Env}(h:Sound P E Γ):Sound P E Γ.GH:=by refine⟨h.ty,h.eqs,h.fts,λf=>?_,h.mixed⟩;unfold zP.GH;cases (Γ f).io||(Γ f).pr||((Γ f).bx&& !(Γ f).cur)with|true=>intro xs y hy;cases hy|false=>exact h.fns f
theorem Sound.calm {E:Env}(h:Sound P E Γ):Sound P E Γ.calm:=by refine⟨h.ty,h.eqs,h.fts,λf=>?_,h.mixed⟩;unfold zP.calm;cases (Γ f).io with|true=>intro xs y hy;cases hy|false=>cases (Γ f).bx with|true=>intro xs y hy;cases hy|false=>cases (Γ f).pr with|true=>intro xs y hy;cases hy|false=>exact h.fns f
end Go.Dn
