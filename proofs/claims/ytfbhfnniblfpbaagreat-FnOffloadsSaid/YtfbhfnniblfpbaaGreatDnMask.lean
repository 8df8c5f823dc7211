import Derived.Test.YtfbhfnniblfpbaaGreatDnDen
import Derived.Test.YtfbhfnniblfpbaaGreatDnNat
/- What is kept at a loop's door; what a region whose ways meet again leaves. -/
namespace Go.Dn
open Go.RowKit
variable {P:Program} {C:Ctx} {st:AS} {a:Act} {w:World} {R:Type} {r:R}
variable {an:An} {Γ:zu} {io:ax AC} {d:aA Nat} {ds:fi}
theorem JG (iC:fi)(ep:Nat)(io:ax AC):∀(l:ax AV)(n i:Nat),(pH iC ep io n l)[i]?=(l[i]?).map λv=>if iC.contains (n+i) then v.mask iC ep io (n+i) else .bot
 |[],n,i=>by simp[pH]
 |v::l,n,0=>by simp[pH]
 |v::l,n,i+1=>by simp only[pH,fS];rw[JG iC ep io l (n+1) i,show n+1+i=n+(i+1) by omega]
theorem EZ (iC:fi)(ep:Nat)(io:ax AC):∀(l:ax (aA (ax AC)))(n i:Nat),(pG iC ep io n l)[i]?=(l[i]?).map λb=>if iC.contains (n+i) then b.map (Nj iC ep io (.box (n+i)) 0) else none
 |[],n,i=>by simp[pG]
 |v::l,n,0=>by simp[pG]
 |v::l,n,i+1=>by simp only[pG,fS];rw[EZ iC ep io l (n+1) i,show n+1+i=n+(i+1) by omega]
theorem zN (iC:fi)(ep:Nat)(io:ax AC):∀(l:ax AV)(n:Nat),(pH iC ep io n l).length=l.length
 |[],_=>rfl
 |_::l,n=>by simp[pH,zN iC ep io l]
theorem FE (iC:fi)(ep:Nat)(io:ax AC):∀(l:ax (aA (ax AC)))(n:Nat),(pG iC ep io n l).length=l.length
 |[],_=>rfl
 |_::l,n=>by simp[pG,FE iC ep io l]
def aax:Value->AV->jI
 | .agg vs,.val true _=>vs.toList
 |v,_=>[v]
theorem aaA {g:Bool}{v:Value}{vs:jI}{cs:ax AC}(h:Cut g v vs):aax v (.val g cs)=vs:=by cases g with|true=>simp only[Cut,cL]at h;subst h;simp[aax]|false=>simp only[Cut]at h;subst h;cases v<;>rfl
def Gc (ioV:jI)(st:AS)(a:Act)(w:World)(β:Nat->Nat)(t:Nat):Value:=
 if t%3=0/\t/3/4096=1000003 then(ioV[t/3%4096]?).getD undef
 else if t%3=0 then((aax (a.tmps.getD (t/3/4096) undef) (st.get (t/3/4096)))[t/3%4096]?).getD undef
 else match w.heap[β (t/3/4096)]? with
  |some (.cells arr _ _)=>(arr.toList[t/3%4096]?).getD undef
  |_=>undef
def aac (c c':RC)(io:ax AC):Prop:=∀j n (e:CT)(ys:ax e.D),AC.ahW io j n e=some ys->∃v0 fp0,fZ c.hw c.w (.sl e) [v0] ys fp0/\v0=c.hdr n/\∀q,(mw.io j).Im=some q->c'.iss q/\v0=c'.hdr q
theorem ae4 {c c':RC}(QP:aac c c' io){iC:fi}{rt:mw}{v:Value}{x:AC}{fp:fi}(h:je c v x fp)(IT:c'.hw=c.hw)(hw:c'.w=c.w)(hA:c'.A=c.A)(BG:c'.ep=0)(M3:c'.β=c.β)(xR:∀s,iC.contains s=true->c.LQ s->c'.LQ s)(mI:∀t,rt.Im=some t->c'.iss t/\v=c'.hdr t):je c' v (x.mask iC c.ep io rt) fp:=by
 have hS:c'.S=c.S:=by funext b o;simp[RC.S,IT,hA]
 cases x with
 |int k n=>exact h
 |bool b=>exact h
 |str s=>exact h
 |kS=>exact h
 |fn f=>exact h
 |un=>exact h
 |bot=>exact h
 |ptr s off=>simp only[AC.mask];split;rename_i hk;exact⟨by rw[M3];exact h.1,xR s hk h.2.1,h.2.2⟩;exact h.2.2
 |Ef fl e y i off=>cases fl with|own t=>exact h.elim|nest _ _ _ _ _ _=>exact h.elim|part _ _ _ _=>exact h.elim|gr _ _ _=>exact h.elim|arg _=>exact h.1|loc ep pv=>exact h.1
 |sl fl e xs=>
  cases fl with
  |own t=>exact⟨fZ.mono h.1 (λb _=>⟨by rw[hw],by rw[IT]⟩),mI⟩
  |nest _ _ _ _ _ _=>exact h.1
  |part _ _ _ _=>exact h.1
  |gr _ _ _=>obtain⟨_,⟨k,hk,h3⟩,_⟩:=h;exact⟨λq hq=>(by cases hq),⟨k,hk,h3.mono (λb hb=>⟨by rw[hw],by rw[IT]⟩)⟩,by simp⟩
  |arg _=>exact⟨h.1,by rw[hA,hw];exact h.2⟩
  |loc ep pv=>
   obtain⟨h1,h2,h3,h4,h5⟩:=h;have plain:je c' v (if(ep==c.ep)=true then AC.sl (.loc 0 none) e xs else .bot) fp:=by split;rename_i he;refine⟨h1,by rw[BG];exact bc _,h3,λ_=>?_,by simp⟩;rw[hS,hw];exact h4 (by simpa using he);exact h1
   simp only[AC.mask];split;rename_i j n;split;rename_i ys HO;obtain⟨v0,fp0,ix,Ob,hq⟩:=QP j n e ys HO;obtain⟨_,k2⟩:=h5 _ _ rfl;have hv:v0=v:=Ob.trans k2.symm;subst hv;refine⟨h1,by rw[BG];exact bc _,LI ix,λ_=>?_,λr t hp=>?_⟩;rw[hS,hw];exact fZ.rep (λb o ho=> .inr ho) ix;cases zl:(mw.io j).Im with|none=>rw[zl]at hp;cases hp|some q=>rw[zl]at hp;simp at hp;obtain⟨_,rfl⟩:=hp;exact⟨(hq q zl).1,(hq q zl).2⟩
   exact plain;exact plain
theorem Ko {c c':RC}(QP:aac c c' io){iC:fi}{f:Nat->mw}(IT:c'.hw=c.hw)(hw:c'.w=c.w)(hA:c'.A=c.A)(BG:c'.ep=0)(M3:c'.β=c.β)
 (xR:∀s,iC.contains s=true->c.LQ s->c'.LQ s):∀{vs:jI}{xs:ax AC}{fp:fi}(j:Nat),bW c vs xs fp->
  (∀i v,vs[i]?=some v->∀t,(f (j+i)).Im=some t->c'.iss t/\v=c'.hdr t)->bW c' vs (Nj iC c.ep io f j xs) fp
 |[],[],_,_,h,_=>h
 |v::_,_::_,_,j,h,hm=>by obtain⟨f1,f2,rfl,h1,h2⟩:=h;exact⟨f1,f2,rfl,ae4 QP h1 IT hw hA BG M3 xR (λt ht=>hm 0 v rfl t ht),Ko QP IT hw hA BG M3 xR (j+1) h2 (λi u hu t ht=>hm (i+1) u (by simpa using hu) t (by rwa[show j+(i+1)=j+1+i by omega]))⟩
 |[],_::_,_,_,h,_=>h.elim
 |_::_,[],_,_,h,_=>h.elim
theorem aij {c:RC}{v:Value}{x:AC}{fp:fi}(h:je c v x fp)(KJ:∀(tag:aA Nat)(e:CT)(xs:ax e.D),x=.sl (.own tag) e xs->False)(alE:∀(tag:aA Nat)(i:Int)(ep:aA Nat)(e:CT)(xs:ax e.D),x=.sl (.gr tag i ep) e xs->False):fp=[]:=by
 cases x with
 |int k n=>exact h.2
 |bool b=>exact h.2
 |str s=>exact h.2
 |kS=>exact h.2
 |fn f=>exact h.2
 |un=>exact h.2
 |bot=>exact h
 |ptr s off=>exact h.2.2
 |Ef fl e y i off=>cases fl with|own t=>exact h.elim|nest _ _ _ _ _ _=>exact h.elim|part _ _ _ _=>exact h.elim|gr _ _ _=>exact h.elim|arg _=>exact h.1|loc ep pv=>exact h.1
 |sl fl e xs=>cases fl with|own t=>exact(KJ _ _ _ rfl).elim|nest _ _ _ _ _ _=>exact h.1|part _ _ _ _=>exact h.1|gr _ _ _=>exact(alE _ _ _ _ _ rfl).elim|arg _=>exact h.1|loc ep pv=>exact h.1
theorem qo.mask (h:qo C st a w)(iC:fi):qo C (st.mask iC) a w:=by
 obtain⟨g,h⟩:=h;let g':Gh:={g with hdr:=Gc C.ioV st a w g.β}
 have xR:∀s,iC.contains s=true->kD st s->kD (st.mask iC) s:=by rintro s hk ⟨cs,hs⟩;refine⟨Nj iC st.ep st.io (.box s) 0 cs,?_⟩;show(pG iC st.ep st.io 0 st.boxes)[s]?=_;rw[EZ,hs];simp only[dQ,cJ,aI hk]
 obtain⟨fpi,hri,hni,hli⟩:=h.io;have amM:∀j v,C.ioV[j]?=some v->∀q,(mw.io j).Im=some q->oL (st.mask iC) q/\v=Gc C.ioV st a w g.β q:=by
  intro j v hv q hq;simp only[mw.Im]at hq;cases hb:Nat.ble 4096 j with
  |true=>rw[hb]at hq;cases hq
  |false=>
   rw[hb]at hq;simp only[ae,br,Cr]at hq;have hj:j<4096:=by rcases ca j 4096 with iA|B0;exact iA;rw[jg B0]at hb;cases hb
   have h0:q%3=0:=by omega
   have h1:q/3/4096=1000003:=by omega
   have h2:q/3%4096=j:=by omega
   refine⟨.inl (by omega),?_⟩;rw[Gc,aI ⟨h0,h1⟩,h2,hv];rfl
 have akX:aac (dy C g st w) (dy C g' (st.mask iC) w) st.io:=by
  intro j n e ys HO;unfold AC.ahW at HO;split at HO;rename_i t' e' ys' hj;split at HO;rename_i he;subst he;cases ht:(t'==n)with
  |false=>rw[ht]at HO;cases HO
  |true=>
   rw[ht]at HO;have:t'=n:=by simpa using ht
   subst this;cases HO;rw[eV]at hj;obtain⟨v,f,hv,hr,_⟩:=hri.get j _ hj;exact⟨v,f,hr.1,(hr.2 t' rfl).2,λq hq=>amM j v hv q hq⟩
  cases HO;cases HO
 have asL:∀(j:Nat){vs:jI}{xs:ax AC}{fp:fi},bW (dy C g st w) vs xs fp->(∀i v,vs[i]?=some v->C.ioV[j+i]?=some v)->bW (dy C g' (st.mask iC) w) vs (abB iC j xs) fp:=by
  intro j vs
  induction vs generalizing j with
  |nil=>intro xs fp hr _;cases xs with
   |nil=>exact hr
   |cons _ _=>exact hr.elim
  |cons v vs ih=>
   intro xs fp hr hv
   cases xs with
   |nil=>exact hr.elim
   |cons x xs=>
    obtain⟨f1,f2,rfl,r1,r2⟩:=hr
    refine⟨f1,f2,rfl,?_,ih (j+1) r2 (λi u hu=>by rw[show j+1+i=j+(i+1) by omega];exact hv (i+1) u (by simpa using hu))⟩
    have Ob:=hv 0 v rfl
    rw[eT]at Ob
    split
    ·rename_i tg e ys
     exact⟨r1.1,λq hq=>amM j v Ob q hq⟩
    ·rename_i tag i ep e ys
     obtain⟨_,⟨k,hk,h3⟩,_⟩:=r1
     exact⟨λq hq=>(by cases hq),⟨k,hk,h3⟩,by simp⟩
    ·rename_i s off
     split
     ·rename_i hk
      exact⟨r1.1,xR s hk r1.2.1,r1.2.2⟩
     ·exact r1.2.2
    ·rename_i KJ alE _
     cases hfl:x.kB with
     |true=>
      obtain⟨rfl,k⟩:=rY (c':=dy C g' (st.mask iC) w) r1 hfl
      exact k
     |false=>exact aij r1 KJ alE
 refine⟨g',h.defers,?_,?_,λi av hi=>?_,λs cs hs=>?_,λk v av hk=>by simp at hk,h.ir,h.frame,⟨fpi,asL 0 hri (λi v hv=>by rw[cJ];exact hv),hni,hli⟩⟩;show _=(pH iC st.ep st.io 0 st.slots).length;rw[zN];exact h.size;show(pG iC st.ep st.io 0 st.boxes).length=(pH iC st.ep st.io 0 st.slots).length;rw[zN,FE];exact h.bsize;have xQ:(pH iC st.ep st.io 0 st.slots)[i]?=some av:=hi;rw[JG,cJ]at xQ;cases hv:st.slots[i]? with
 |none=>rw[hv]at xQ;cases xQ
 |some x=>
  rw[hv]at xQ;simp only[dQ,br]at xQ;split at xQ
  ·subst xQ
   cases hx:x with
   |yY ts=>exact⟨[],gV.bot _ _,by simp,by simp⟩
   |val gg cs=>
    rw[hx]at hv
    obtain⟨fp,⟨vs,gb,hr⟩,hn,hl⟩:=h.slots i _ hv
    refine⟨fp,⟨vs,gb,Ko (io:=st.io) akX (c:=dy C g st w) (c':=dy C g' (st.mask iC) w) rfl rfl rfl rfl rfl xR 0 hr ?_⟩,hn,hl⟩
    intro j u hu t ht
    simp only[cJ,mw.Im]at ht
    cases hb:Nat.ble 4096 j with
    |true=>rw[hb]at ht;cases ht
    |false=>
     rw[hb]at ht
     simp only[ae]at ht
     cases Jw:Nat.ble 1000000 i with
     |true=>rw[Jw]at ht;cases ht
     |false=>
     rw[Jw]at ht
     simp only[ae,br]at ht
     have hi6:i<1000000:=by rcases ca i 1000000 with iA|B0;exact iA;rw[jg B0]at Jw;cases Jw
     have hj:j<4096:=by rcases ca j 4096 with iA|B0;exact iA;rw[jg B0]at hb;cases hb
     have h0:t%3=0:=by omega
     have h1:t/3/4096=i:=by omega
     have h2:t/3%4096=j:=by omega
     refine⟨.inl (by omega),?_⟩
     show u=Gc C.ioV st a w g.β t
     rw[Gc,lH,aI h0,h1,h2,get_eq hv,aaA gb,hu];rfl
  subst xQ;exact⟨[],gV.bot _ _,by simp,by simp⟩
 have wu:(pG iC st.ep st.io 0 st.boxes)[s]?=some (some cs):=hs;rw[EZ,cJ]at wu;cases hv:st.boxes[s]? with
 |none=>rw[hv]at wu;cases wu
 |some x=>
  rw[hv]at wu;simp only[dQ,br]at wu;split at wu;cases hx:x with
  |none=>rw[hx]at wu;cases wu
  |some xs=>
   rw[hx]at wu hv;simp only[dQ,br]at wu;subst wu;obtain⟨arr,T,fr,fp,hb,vx,hr,hn,hni,hl,KI,KK⟩:=h.boxes s xs hv;refine⟨arr,T,fr,fp,hb,vx,Ko (io:=st.io) akX (c:=dy C g st w) (c':=dy C g' (st.mask iC) w) rfl rfl rfl rfl rfl xR 0 hr ?_,hn,hni,hl,KI,KK⟩;intro j u hu t ht;simp only[cJ,mw.Im]at ht;cases hbb:Nat.ble 4096 j with
   |true=>rw[hbb]at ht;cases ht
   |false=>
    rw[hbb]at ht;simp only[ae,br]at ht;have hj:j<4096:=by rcases ca j 4096 with iA|B0;exact iA;rw[jg B0]at hbb;cases hbb
    have h0:¬t%3=0:=by omega
    have h1:t/3/4096=s:=by omega
    have h2:t/3%4096=j:=by omega
    refine⟨.inl (by omega),?_⟩;show u=Gc C.ioV st a w g.β t;rw[Gc,lH,aK h0,h1,h2,hb];simp only;rw[hu];rfl
  cases wu
structure ki (ds:List Nat) (st cp:AS):Prop where
 len:cp.slots.length=st.slots.length
 slot:∀i,i∉ds->cp.slots[i]?=st.slots[i]?
 boxes:cp.boxes=st.boxes
 ep:cp.ep=st.ep
 iss:∀i,i∉ds->nth cp.iss i=nth st.iss i
 am8:cp.iss.length=st.iss.length
 io:cp.io=st.io
theorem ki.refl (ds:fi)(st:AS):ki ds st st:=⟨rfl,λ_ _=>rfl,rfl,rfl,λ_ _=>rfl,rfl,rfl⟩
theorem ki.trans {st st1 st2:AS}(h:ki ds st st1)(k:ki ds st1 st2):ki ds st st2:=⟨k.len.trans h.len,λi hi=>(k.slot i hi).trans (h.slot i hi),k.boxes.trans h.boxes,k.ep.trans h.ep,λi hi=>(k.iss i hi).trans (h.iss i hi),k.am8.trans h.am8,k.io.trans h.io⟩
theorem ki.put {st:AS}(hd:∀i,d=some i->i∈ds)(v:AV):ki ds st (st.put d v):=by cases d with|none=>exact ki.refl _ _|some d=>refine⟨by rw[gU,aL],λi hi=>?_,mx,MT,λi _=>by rw[We],by rw[We],Na⟩;rw[gU,aM];rintro rfl;exact hi (hd _ rfl)
theorem ki.gD {st:AS}(hd:∀i,d=some i->i∈ds):ki ds st (st.gD d):=by cases d with|none=>exact ki.refl _ _|some d=>refine⟨rfl,λi _=>rfl,rfl,rfl,λi hi=>?_,?_,rfl⟩;simp only[AS.gD,eV,gB];rw[aM];rintro rfl;exact hi (hd _ rfl);simp only[AS.gD,gB,aL]
theorem xf {α:Type}{o:aA α}{k:α->aA AS}{cp:AS}(h:aa o k=some cp)(hk:∀x,k x=some cp->ki ds st cp):ki ds st cp:=by cases o with|none=>cases h|some x=>exact hk x h
theorem afh {n:Nat}{k:aA AS}{cp:AS}(h:room n k=some cp)(hk:k=some cp->ki ds st cp):ki ds st cp:=by unfold room at h;split at h;exact hk h;cases h
theorem abK {op:BinOp}{k:IntKind}{x y:Int}{K:AC->aA AS}{cp:AS}(h:Ls op k x y K=some cp)(hk:∀z,K z=some cp->ki ds st cp):ki ds st cp:=by
 unfold Ls at h
 split at h<;>first
  |exact hk _ h
  |(split at h
    ·cases h
    ·exact hk _ h)
  |cases h
theorem abL {op:BinOp}{x y:ax UInt8}{K:AC->aA AS}{cp:AS}(h:OH op x y K=some cp)(hk:∀z,K z=some cp->ki ds st cp):ki ds st cp:=by
 unfold OH at h
 split at h<;>first
  |exact afh h (hk _)
  |exact hk _ h
  |cases h
theorem Nm {op:BinOp}{x y:AV}{K:AC->aA AS}{cp:AS}(h:Jj op x y K=some cp)(hk:∀z,K z=some cp->ki ds st cp):ki ds st cp:=by unfold Jj at h;split at h;split at h;split at h;cases h;exact hk _ h;split at h;cases h;exact hk _ h;split at h;exact abK h hk;cases h;exact abL h hk;split at h;exact hk _ h;exact hk _ h;cases h;split at h;exact xf h λb hb=>hk _ hb;exact xf h λb hb=>hk _ hb;cases h;cases h
theorem LD {lo hi:aA Operand}{n:Nat}{K:Int->Int->aA AS}{st0 cp:AS}(h:oN st0 lo hi n K=some cp)(hk:∀x y,K x y=some cp->ki ds st cp):ki ds st cp:=by
 unfold oN at h
 split at h<;>first
  |exact hk _ _ h
  |cases h
theorem Rp {op:BinOp}{b:Bool}{K:AC->aA AS}{cp:AS}(h:G6 op b K=some cp)(hk:∀c,K c=some cp->ki ds st cp):ki ds st cp:=by unfold G6 at h;split at h;exact hk _ h;exact hk _ h;cases h
theorem UD {E:Env}(D6:∀f,(Γ f).io=false/\(Γ f).bx=false/\(Γ f).pr=false){o:Oper}{cp:AS}(hq:iR an ds o=true)(hd:∀i,o.dst=some i->i∈ds)(h:dM E Γ an o st some=some cp):ki ds st cp:=by
 have zk:∀v,some (st.put o.dst v)=some cp->ki ds st cp:=λv hv=>by cases hv;exact ki.put hd v
 unfold dM at h;split at h;rename_i x ho;simp only[iR,ho]at hq;unfold FF at h;cases VU:o.dst with
 |none=>rw[VU]at h;cases h
 |some d=>
  rw[VU]at h hq;simp only at h hq;have hf:an.mv.contains d=false:=by simpa using hq
  rw[hf]at h;simp only[bm,cG]at h;cases h;exact ki.put (λi hi=>hd i (by rw[VU];exact hi)) _
 rename_i x ho;have Hb:DE an o=false\/∃y,x=y/\(∀v,y≠ .const v)/\(∀t,y≠ .tmp t):=by cases x with|tmp t=>left;simp only[iR,ho,ah,aP]at hq;exact hq.2|const v=>left;simpa only[iR,ho,aP]using hq|func f=>simp[iR,ho]at hq|global g=>simp[iR,ho]at hq
 have Hb:DE an o=false:=by rcases Hb with h1|⟨y,rfl,h1,h2⟩;exact h1;cases x with|tmp t=>exact absurd rfl (h2 t)|const v=>exact absurd rfl (h1 v)|func f=>simp[iR,ho]at hq|global g=>simp[iR,ho]at hq
 simp only[iR,ho]at hq;rw[aK (by simp[Hb])]at h;unfold xK at h;have hx:ki ds st (st.take x).2:=by
  cases x with
  |tmp t=>
   have ht:t∈ds:=by simp only[ah]at hq;simpa using hq.1
   exact ki.put (d:=some t) (λi hi=>by cases hi;exact ht) _
  |const v=>exact ki.refl _ _
  |func f=>exact ki.refl _ _
  |global g=>exact ki.refl _ _
 split at h;split at h;exact zk _ h;cases h;rename_i v st1 _ vF;cases h;have:(st.take x).2=st1:=by rw[vF]
 rw[this]at hx;exact hx.trans (ki.put hd _);unfold H4 at h;split at h;rename_i t _;split at h;exact zk _ h;cases t with|true=>exact zk _ h|false=>exact zk _ h
 cases h;rename_i ho;simp[iR,ho]at hq;rename_i ho;simp[iR,ho]at hq;rename_i T p ho;simp only[iR,ho]at hq;have vF:Ir an o=false:=by unfold Ir;cases VU:o.dst with|none=>rfl|some d=>rw[VU]at hq;simp only[aP]at hq;simp only[hq,iw]
 unfold rp at h;split at h;split at h;split at h;split at h;rename_i d VU;rw[VU]at hq;simp only at hq;have hf:an.mv.contains d=false:=by simpa using hq
 rw[hf]at h;simp only[bm,cG]at h;exact zk _ h;cases h;cases h;cases h;rw[aK (by simp[vF])]at h;split at h;split at h;exact zk _ h;cases h;unfold GO at h;split at h;split at h;split at h;split at h;obtain⟨y,_,h⟩:=P3 h;exact zk _ h;cases h;cases h;cases h;cases h;cases h;rename_i ho;simp[iR,ho]at hq;split at h;exact zk _ h;exact zk _ h;cases h;unfold D9 at h;split at h;split at h;exact Nm h λz hz=>zk _ hz;cases h;split at h;split at h;exact Nm h λz hz=>zk _ hz;cases h;cases h;split at h;split at h;cases h;exact Rp h λz hz=>zk _ hz;cases h;split at h;exact Rp h λz hz=>zk _ hz;cases h;exact Nm h λz hz=>zk _ hz;unfold unC at h;split at h;exact zk _ h;exact zk _ h;exact zk _ h;cases h;unfold Di at h;split at h;split at h;exact zk _ h;cases h;split at h;exact zk _ h;cases h;cases h;unfold oy at h;split at h;split at h;exact xf h λy hy=>zk _ hy;cases h;cases h;unfold EX at h;split at h;split at h;exact xf h λy hy=>zk _ hy;cases h;cases h;rename_i T parts ho;simp only[iR,ho]at hq;have he:parts=#[]:=by simpa using hq
 subst he;unfold EO at h;split at h;simp only[fV,List.map_nil]at h;split at h;exact zk _ h;cases h;cases h;rename_i ho;simp[iR,ho]at hq;rename_i ho;simp[iR,ho]at hq;rename_i ho;simp only[iR,ho,aP]at hq;unfold DN at h;rw[aK (by simp[hq])]at h;split at h;split at h;exact LD h λx y hxy=>xf hxy λz hz=>zk _ hz;cases h;split at h;exact LD h λx y hxy=>xf hxy λz hz=>zk _ hz;cases h;cases h;rename_i ho;simp[iR,ho]at hq;rename_i ho;simp[iR,ho]at hq;rename_i ho;simp[iR,ho]at hq;rename_i ho;simp[iR,ho]at hq;unfold Rj at h;split at h;split at h;exact zk _ h;cases h;split at h;exact zk _ h;cases h;cases h;unfold S6 at h;split at h;exact zk _ h;cases h;unfold S5 at h;split at h;exact zk _ h;cases h;rename_i ho;simp[iR,ho]at hq;unfold G4 at h;split at h;rename_i k _;rw[(D6 k).2.1,(D6 k).2.2,(D6 k).1]at h;simp only[ae]at h;refine xf h λy hy=>?_;cases SX:(Γ k).sel y with|true=>rw[SX]at hy;cases hy;exact(ki.gD hd).trans (ki.put hd _)|false=>rw[SX]at hy;cases hy;exact(ki.gD hd).trans (ki.put hd _)
 cases h;cases h
theorem YL {ops:ax Oper}{o:Oper}(ho:o∈ops){i:Nat}(hi:o.dst=some i):i∈J5 ops:=List.mem_filterMap.2 ⟨o,ho,hi⟩
theorem Rq {E:Env}(D6:∀f,(Γ f).io=false/\(Γ f).bx=false/\(Γ f).pr=false){ops:ax Oper}{o:Oper}{cp:AS}(ho:o∈ops)(hq:iR an (J5 ops) o=true)(h:iO E Γ an ops o st some=some cp):ki (J5 ops) st cp:=by
 have hd:∀i,o.dst=some i->i∈J5 ops:=λi hi=>YL ho hi;unfold iO at h;split at h;exact UD D6 hq hd h;rename_i j KE hg;split at h;rename_i d VU;have hdm:d∈J5 ops:=by rw[eV]at VU;cases OX:ops[j]? with|none=>rw[OX]at VU;cases VU|some o'=>rw[OX]at VU;exact YL (aX OX) VU
 have hp:∀t,ki (J5 ops) st (st.put (some d) (.one (.bool t))):=λt=>ki.put (λi hi=>by cases hi;exact hdm) _;split at h;rename_i b hb;have main:∀t,(if(t==KE)=true then dM E Γ an o (st.put (some d) (.one (.bool t))) some else some ((st.put (some d) (.one (.bool t))).put o.dst (.one .un)))=some cp->ki (J5 ops) st cp:=by intro t ht;split at ht;exact(hp t).trans (UD D6 hq hd ht);cases ht;exact(hp t).trans (ki.put hd _)
 cases b with|true=>exact main true h|false=>exact main false h
 cases h;exact ki.put hd _;cases h;cases h
theorem YU {E:Env}(D6:∀f,(Γ f).io=false/\(Γ f).bx=false/\(Γ f).pr=false){ops:ax Oper}(hq:∀o∈ops,iR an (J5 ops) o=true):∀(l:ax Oper)(st cp:AS),(∀o∈l,o∈ops)->Wq E Γ an ops l st some=some cp->ki (J5 ops) st cp
 |[],st,cp,_,h=>by cases h;exact ki.refl _ _
 |o::l,st,cp,hl,h=>by simp only[Wq]at h;rw[tB]at h;cases hg:iO E Γ an ops o st some with|none=>rw[hg]at h;cases h|some st1=>rw[hg]at h;exact(Rq D6 (hl o (by simp)) (hq o (hl o (by simp))) hg).trans (YU D6 hq l st1 cp (λo' OX=>hl o' (by simp[OX])) h)
theorem J4:∀(l:fi)(st:AS),(∀i∈l,i∈ds)->ki ds st (st.Ed l)
 |[],st,_=>ki.refl _ _
 |d::l,st,h=>by
  have hd:∀i,some d=some i->i∈ds:=λi hi=>by cases hi;exact h d (by simp)
  exact((ki.put hd _).trans (ki.gD hd)).trans (J4 l _ (λi hi=>h i (by simp[hi])))
theorem TK:∀(l:fi)(st:AS)(i:Nat)(av:AV),(st.Ed l).slots[i]?=some av->i∈l\/st.slots[i]?=some .bot->av=.bot
 |[],st,i,av,h,hi=>by rcases hi with hi|hi;cases hi;have:st.slots[i]?=some av:=h;rw[hi]at this;cases this;rfl
 |d::l,st,i,av,h,hi=>by
  refine TK l _ i av h ?_;by_cases SS:i∈l;exact .inl SS;refine .inr ?_;rw[xB,gU,bO];have iA:i<st.slots.length:=by
   have h1:=(J4 (ds:=d::l) l ((st.put (some d) .bot).gD (some d)) (λi hi=>by simp[hi])).len;have h2:=(aD.1 h).1;have h3:(AS.Ed ((st.put (some d) .bot).gD (some d)) l).slots.length=st.slots.length:=by rw[h1,xB,gU,aL]
   have h4:i<(AS.Ed ((st.put (some d) .bot).gD (some d)) l).slots.length:=h2;omega
  split;rename_i hdi;subst hdi;rw[aI iA];rename_i hdi;rcases hi with hi|hi;simp only[cy]at hi;rcases hi with hi|hi;exact absurd hi.symm hdi;exact absurd hi SS;exact hi
theorem TL:∀(l:fi)(st:AS)(i:Nat),i∈l\/(nth st.iss i).getD true=true->(nth (st.Ed l).iss i).getD true=true
 |[],st,i,hi=>by rcases hi with hi|hi;cases hi;exact hi
 |d::l,st,i,hi=>by refine TL l _ i ?_;by_cases SS:i∈l;exact .inl SS;refine .inr ?_;have he:(AS.gD (st.put (some d) .bot) (some d)).iss=jm st.iss d true:=rfl;rw[he,gB,eV,bO];split;split<;>rfl;rename_i hdi;rcases hi with hi|hi;simp only[cy]at hi;rcases hi with hi|hi;exact absurd hi.symm hdi;exact absurd hi SS;rw[eV]at hi;exact hi
theorem qo.weaken {cp:AS}(h:qo C cp a w)(hn:ki ds st cp){s:Nat}{b:Bool}(hb:getBool cp s=some b):qo C ((st.Ed ds).put (some s) (.one (.bool b))) a w:=by
 have Jw:cp.get s=.val false [.bool b]:=by unfold getBool at hb;split at hb;rename_i b' hg;cases hb;exact hg;cases hb
 have hkn:=h.known Jw;obtain⟨g,h⟩:=h;have hdn:=J4 (ds:=ds) ds st (λ_ hi=>hi);have xe:((st.Ed ds).put (some s) (.one (.bool b))).boxes=cp.boxes:=by rw[mx,hdn.boxes,hn.boxes]
 have BG:((st.Ed ds).put (some s) (.one (.bool b))).ep=cp.ep:=by rw[MT,hdn.ep,hn.ep]
 have hlen:((st.Ed ds).put (some s) (.one (.bool b))).slots.length=cp.slots.length:=by rw[gU,aL,hdn.len,hn.len]
 have K6:∀t,oL cp t->oL ((st.Ed ds).put (some s) (.one (.bool b))) t:=by intro t ht;rw[Lv];rcases ht with ht|ht;exact .inl ht;refine .inr (TL ds st _ ?_);by_cases hi:t/3/4096∈ds;exact .inl hi;exact .inr (by rw[<-hn.iss _ hi];exact ht)
 have xR:∀s',kD cp s'->kD ((st.Ed ds).put (some s) (.one (.bool b))) s':=λs' hs=>by unfold kD at hs⊢;rw[xe];exact hs
 have hle:(dy C g cp w).Le (dy C g ((st.Ed ds).put (some s) (.one (.bool b))) w):=⟨rfl,λt ht=>⟨K6 t ht,rfl⟩,λ_ _ _ _ _ hv=>hv,by show cp.ep<=_;rw[<-BG];exact bc _,λs' hs=>⟨xR s' hs,rfl⟩,λ_ b o u ho hu=>⟨ho,hu⟩⟩
 refine⟨g,h.step (λ_=>True) hle h.defers (by rw[hlen];exact h.size) (by rw[xe,hlen];exact h.bsize) h.frame h.ir (λb x _ hx=>⟨hx,rfl,rfl⟩) ?_ ?_ ?_ (.inl ⟨dx,by rw[Na,hdn.io,hn.io]⟩)⟩;intro i av hi;rw[gU,bO]at hi;split at hi;rename_i hsi;subst hsi;split at hi;cases hi;refine .inr ⟨[],oz ?_,by simp,by simp⟩;exact⟨hkn,rfl⟩;cases hi;by_cases X4:i∈ds;have:=TK ds st i av hi (.inl X4);subst this;exact .inr ⟨[],gV.bot _ _,by simp,by simp⟩;rw[hdn.slot i X4]at hi;exact .inl ⟨dx,by rw[hn.slot i X4];exact hi,rfl⟩;intro s' cs hs;rw[xe]at hs;exact .inl ⟨dx,hs,rfl⟩;intro k v av hk;simp at hk
theorem aju (Γ:zu)(f:Nat):(Γ.calm f).io=false/\(Γ.calm f).bx=false/\(Γ.calm f).pr=false:=by unfold zu.calm;cases h:(Γ f).io with|true=>exact⟨rfl,rfl,rfl⟩|false=>cases h2:(Γ f).bx with|true=>exact⟨rfl,rfl,rfl⟩|false=>cases h3:(Γ f).pr with|true=>exact⟨rfl,rfl,rfl⟩|false=>exact⟨h,h2,h3⟩
theorem akC (Γ:zu)(f:Nat):(Γ.KA f).io=false/\((Γ.KA f).bx=true->(Γ.KA f).cur=true)/\(Γ.KA f).pr=false:=by unfold zu.KA;cases h:(Γ f).io with|true=>exact⟨rfl,λh=>(by cases h),rfl⟩|false=>cases h3:(Γ f).pr with|true=>exact⟨rfl,λh=>(by cases h),rfl⟩|false=>cases h2:(Γ f).bx with|false=>exact⟨h,λh=>(by simp[h2]at h),h3⟩|true=>cases h4:(Γ f).cur with|true=>exact⟨h,λ_=>h4,h3⟩|false=>exact⟨rfl,λh=>(by cases h),rfl⟩
theorem akD (D6:∀f,(Γ f).io=false/\(Γ f).bx=false/\(Γ f).pr=false)(f:Nat):(Γ.KA f).io=false/\(Γ.KA f).bx=false/\(Γ.KA f).pr=false:=by have h:=D6 f;unfold zu.KA;rw[h.1,h.2.1,h.2.2];exact h
theorem Sound.KA {E:Env}(h:Sound P E Γ):Sound P E Γ.KA:=by refine⟨h.ty,h.eqs,h.fts,λf=>?_,h.mixed⟩;unfold zu.KA;cases (Γ f).io||(Γ f).pr||((Γ f).bx&& !(Γ f).cur)with|true=>intro xs y hy;cases hy|false=>exact h.fns f
theorem Sound.calm {E:Env}(h:Sound P E Γ):Sound P E Γ.calm:=by refine⟨h.ty,h.eqs,h.fts,λf=>?_,h.mixed⟩;unfold zu.calm;cases (Γ f).io with|true=>intro xs y hy;cases hy|false=>cases (Γ f).bx with|true=>intro xs y hy;cases hy|false=>cases (Γ f).pr with|true=>intro xs y hy;cases hy|false=>exact h.fns f
end Go.Dn
