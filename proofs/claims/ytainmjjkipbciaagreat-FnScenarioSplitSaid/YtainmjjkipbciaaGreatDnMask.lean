import Derived.Test.YtainmjjkipbciaaGreatDnDen
import Derived.Test.YtainmjjkipbciaaGreatDnNat
/- What is kept at a loop's door; what a region whose ways meet again leaves. -/
namespace Go.Dn
open Go.RowKit
variable {P:Program} {C:Ctx} {st:AS} {a:Act} {w:World} {R:Type} {r:R}
variable {an:An} {Γ:fy} {v:Value} {io:aw AC} {d:ax Nat} {ds keep:fg}
theorem DN (keep:fg)(ep:Nat)(io:aw AC):∀(l:aw AV)(n i:Nat),(mI keep ep io n l)[i]?=(l[i]?).map λv=>if keep.contains (n+i) then v.mask keep ep io (n+i) else .bot
 |[],n,i=>by simp[mI]
 |v::l,n,0=>by simp[mI]
 |v::l,n,i+1=>by simp only[mI,eH];rw[DN keep ep io l (n+1) i,show n+1+i=n+(i+1) by omega]
theorem zw (keep:fg)(ep:Nat)(io:aw AC):∀(l:aw (ax (aw AC)))(n i:Nat),(mH keep ep io n l)[i]?=(l[i]?).map λb=>if keep.contains (n+i) then b.map (GX keep ep io (.box (n+i)) 0) else none
 |[],n,i=>by simp[mH]
 |v::l,n,0=>by simp[mH]
 |v::l,n,i+1=>by simp only[mH,eH];rw[zw keep ep io l (n+1) i,show n+1+i=n+(i+1) by omega]
theorem uI (keep:fg)(ep:Nat)(io:aw AC):∀(l:aw AV)(n:Nat),(mI keep ep io n l).length=l.length
 |[],_=>rfl
 |_::l,n=>by simp[mI,uI keep ep io l]
theorem zY (keep:fg)(ep:Nat)(io:aw AC):∀(l:aw (ax (aw AC)))(n:Nat),(mH keep ep io n l).length=l.length
 |[],_=>rfl
 |_::l,n=>by simp[mH,zY keep ep io l]
def Us:Value->AV->ir
 | .agg vs,.val true _=>vs.toList
 |v,_=>[v]
theorem Uw {g:Bool}{vs:ir}{cs:aw AC}(h:Cut g v vs):Us v (.val g cs)=vs:=by cases g with|true=>simp only[Cut,bP]at h;subst h;simp[Us]|false=>simp only[Cut]at h;subst h;cases v<;>rfl
def Aw (ioV:ir)(st:AS)(a:Act)(w:World)(β:Nat->Nat)(t:Nat):Value:=
 if t%3=0/\t/3/4096=1000003 then(ioV[t/3%4096]?).getD undef
 else if t%3=0 then((Us (a.tmps.getD (t/3/4096) undef) (st.get (t/3/4096)))[t/3%4096]?).getD undef
 else match w.heap[β (t/3/4096)]? with
  |some (.cells arr _ _)=>(arr.toList[t/3%4096]?).getD undef
  |_=>undef
def T8 (c c':RC)(io:aw AC):Prop:=∀j n (e:CT)(ys:aw e.D),AC.ab8 io j n e=some ys->∃v0 fp0,eZ c.hw c.w (.sl e) [v0] ys fp0/\v0=c.hdr n/\∀q,(jW.io j).CI=some q->c'.iss q/\v0=c'.hdr q
theorem Zv {c c':RC}(L7:T8 c c' io){rt:jW}{x:AC}{fp:fg}(h:gB c v x fp)(C6:c'.hw=c.hw)(hw:c'.w=c.w)(hA:c'.A=c.A)(wB:c'.ep=0)(GI:c'.β=c.β)(tj:∀s,keep.contains s=true->c.FQ s->c'.FQ s)(lX:∀t,rt.CI=some t->c'.iss t/\v=c'.hdr t):gB c' v (x.mask keep c.ep io rt) fp:=by
 have hS:c'.S=c.S:=by funext b o;simp[RC.S,C6,hA]
 cases x with
 |int k n=>exact h
 |bool b=>exact h
 |str s=>exact h
 |jn=>exact h
 |fn f=>exact h
 |un=>exact h
 |bot=>exact h
 |ptr s off=>simp only[AC.mask];split;rename_i hk;exact⟨by rw[GI];exact h.1,tj s hk h.2.1,h.2.2⟩;exact h.2.2
 |zk fl e y i off=>cases fl with|own t=>exact h.elim|nest _ _ _ _ _ _=>exact h.elim|part _ _ _ _=>exact h.elim|fa _ _ _=>exact h.elim|arg _=>exact h.1|loc ep pv=>exact h.1
 |sl fl e xs=>
  cases fl with
  |own t=>exact⟨eZ.mono h.1 (λb _=>⟨by rw[hw],by rw[C6]⟩),lX⟩
  |nest _ _ _ _ _ _=>exact h.1
  |part _ _ _ _=>exact h.1
  |fa _ _ _=>obtain⟨_,⟨k,hk,h3⟩,_⟩:=h;exact⟨λq hq=>(by cases hq),⟨k,hk,h3.mono (λb hb=>⟨by rw[hw],by rw[C6]⟩)⟩,by simp⟩
  |arg _=>exact⟨h.1,by rw[hA,hw];exact h.2⟩
  |loc ep pv=>
   obtain⟨h1,h2,h3,h4,h5⟩:=h;have plain:gB c' v (if(ep==c.ep)=true then AC.sl (.loc 0 none) e xs else .bot) fp:=by split;rename_i he;refine⟨h1,by rw[wB];exact aU _,h3,λ_=>?_,by simp⟩;rw[hS,hw];exact h4 (by simpa using he);exact h1
   simp only[AC.mask];split;rename_i j n;split;rename_i ys Ci;obtain⟨v0,fp0,gE,Ks,hq⟩:=L7 j n e ys Ci;obtain⟨_,k2⟩:=h5 _ _ rfl;have hv:v0=v:=Ks.trans k2.symm;subst hv;refine⟨h1,by rw[wB];exact aU _,KW gE,λ_=>?_,λr t hp=>?_⟩;rw[hS,hw];exact eZ.rep (λb o ho=> .inr ho) gE;cases uy:(jW.io j).CI with|none=>rw[uy]at hp;cases hp|some q=>rw[uy]at hp;simp at hp;obtain⟨_,rfl⟩:=hp;exact⟨(hq q uy).1,(hq q uy).2⟩
   exact plain;exact plain
theorem Eu {c c':RC}(L7:T8 c c' io){f:Nat->jW}(C6:c'.hw=c.hw)(hw:c'.w=c.w)(hA:c'.A=c.A)(wB:c'.ep=0)(GI:c'.β=c.β)
 (tj:∀s,keep.contains s=true->c.FQ s->c'.FQ s):∀{vs:ir}{xs:aw AC}{fp:fg}(j:Nat),bE c vs xs fp->
  (∀i v,vs[i]?=some v->∀t,(f (j+i)).CI=some t->c'.iss t/\v=c'.hdr t)->bE c' vs (GX keep c.ep io f j xs) fp
 |[],[],_,_,h,_=>h
 |v::_,_::_,_,j,h,hm=>by obtain⟨f1,f2,rfl,h1,h2⟩:=h;exact⟨f1,f2,rfl,Zv L7 h1 C6 hw hA wB GI tj (λt ht=>hm 0 v rfl t ht),Eu L7 C6 hw hA wB GI tj (j+1) h2 (λi u hu t ht=>hm (i+1) u (by simpa using hu) t (by rwa[show j+(i+1)=j+1+i by omega]))⟩
 |[],_::_,_,_,h,_=>h.elim
 |_::_,[],_,_,h,_=>h.elim
theorem acr {c:RC}{x:AC}{fp:fg}(h:gB c v x fp)(EN:∀(tag:ax Nat)(e:CT)(xs:aw e.D),x=.sl (.own tag) e xs->False)(ahY:∀(tag:ax Nat)(i:Int)(ep:ax Nat)(e:CT)(xs:aw e.D),x=.sl (.fa tag i ep) e xs->False):fp=[]:=by
 cases x with
 |int k n=>exact h.2
 |bool b=>exact h.2
 |str s=>exact h.2
 |jn=>exact h.2
 |fn f=>exact h.2
 |un=>exact h.2
 |bot=>exact h
 |ptr s off=>exact h.2.2
 |zk fl e y i off=>cases fl with|own t=>exact h.elim|nest _ _ _ _ _ _=>exact h.elim|part _ _ _ _=>exact h.elim|fa _ _ _=>exact h.elim|arg _=>exact h.1|loc ep pv=>exact h.1
 |sl fl e xs=>cases fl with|own t=>exact(EN _ _ _ rfl).elim|nest _ _ _ _ _ _=>exact h.1|part _ _ _ _=>exact h.1|fa _ _ _=>exact(ahY _ _ _ _ _ rfl).elim|arg _=>exact h.1|loc ep pv=>exact h.1
theorem mZ.mask (h:mZ C st a w)(keep:fg):mZ C (st.mask keep) a w:=by
 obtain⟨g,h⟩:=h;let g':Gh:={g with hdr:=Aw C.ioV st a w g.β}
 have tj:∀s,keep.contains s=true->iR st s->iR (st.mask keep) s:=by rintro s hk ⟨cs,hs⟩;refine⟨GX keep st.ep st.io (.box s) 0 cs,?_⟩;show(mH keep st.ep st.io 0 st.boxes)[s]?=_;rw[zw,hs];simp only[dc,cp,aF hk]
 obtain⟨fpi,hri,hni,hli⟩:=h.io;have amH:∀j v,C.ioV[j]?=some v->∀q,(jW.io j).CI=some q->lT (st.mask keep) q/\v=Aw C.ioV st a w g.β q:=by
  intro j v hv q hq;simp only[jW.CI]at hq;cases hb:Nat.ble 4096 j with
  |true=>rw[hb]at hq;cases hq
  |false=>
   rw[hb]at hq;simp only[af,ba,Xk]at hq;have hj:j<4096:=by rcases cf j 4096 with gW|yt;exact gW;rw[gD yt]at hb;cases hb
   have h0:q%3=0:=by omega
   have h1:q/3/4096=1000003:=by omega
   have h2:q/3%4096=j:=by omega
   refine⟨.inl (by omega),?_⟩;rw[Aw,aF ⟨h0,h1⟩,h2,hv];rfl
 have agh:T8 (cG C g st w) (cG C g' (st.mask keep) w) st.io:=by
  intro j n e ys Ci;unfold AC.ab8 at Ci;split at Ci;rename_i t' e' ys' hj;split at Ci;rename_i he;subst he;cases ht:(t'==n)with
  |false=>rw[ht]at Ci;cases Ci
  |true=>
   rw[ht]at Ci;have:t'=n:=by simpa using ht
   subst this;cases Ci;rw[dI]at hj;obtain⟨v,f,hv,hr,_⟩:=hri.get j _ hj;exact⟨v,f,hr.1,(hr.2 t' rfl).2,λq hq=>amH j v hv q hq⟩
  cases Ci;cases Ci
 have arO:∀(j:Nat){vs:ir}{xs:aw AC}{fp:fg},bE (cG C g st w) vs xs fp->(∀i v,vs[i]?=some v->C.ioV[j+i]?=some v)->bE (cG C g' (st.mask keep) w) vs (Vw keep j xs) fp:=by
  intro j vs
  induction vs generalizing j with
  |nil=>intro xs fp hr _;cases xs with
   |nil=>exact hr
   |cons _ _=>exact hr.elim
  |cons v vs ih=>
   intro xs fp hr hv
   cases xs with
   |nil=>exact hr.elim
   |cons x xs=>
    obtain⟨f1,f2,rfl,r1,r2⟩:=hr
    refine⟨f1,f2,rfl,?_,ih (j+1) r2 (λi u hu=>by rw[show j+1+i=j+(i+1) by omega];exact hv (i+1) u (by simpa using hu))⟩
    have Ks:=hv 0 v rfl
    rw[dT]at Ks
    split
    ·rename_i tg e ys
     exact⟨r1.1,λq hq=>amH j v Ks q hq⟩
    ·rename_i tag i ep e ys
     obtain⟨_,⟨k,hk,h3⟩,_⟩:=r1
     exact⟨λq hq=>(by cases hq),⟨k,hk,h3⟩,by simp⟩
    ·rename_i s off
     split
     ·rename_i hk
      exact⟨r1.1,tj s hk r1.2.1,r1.2.2⟩
     ·exact r1.2.2
    ·rename_i EN ahY _
     cases hfl:x.je with
     |true=>
      obtain⟨rfl,k⟩:=pU (c':=cG C g' (st.mask keep) w) r1 hfl
      exact k
     |false=>exact acr r1 EN ahY
 refine⟨g',h.defers,?_,?_,λi av hi=>?_,λs cs hs=>?_,λk v av hk=>by simp at hk,h.fS,h.frame,⟨fpi,arO 0 hri (λi v hv=>by rw[cp];exact hv),hni,hli⟩⟩;show _=(mI keep st.ep st.io 0 st.slots).length;rw[uI];exact h.size;show(mH keep st.ep st.io 0 st.boxes).length=(mI keep st.ep st.io 0 st.slots).length;rw[uI,zY];exact h.bsize;have ng:(mI keep st.ep st.io 0 st.slots)[i]?=some av:=hi;rw[DN,cp]at ng;cases hv:st.slots[i]? with
 |none=>rw[hv]at ng;cases ng
 |some x=>
  rw[hv]at ng;simp only[dc,ba]at ng;split at ng
  ·subst ng
   cases hx:x with
   |uw ts=>exact⟨[],fR.bot _ _,by simp,by simp⟩
   |val gg cs=>
    rw[hx]at hv
    obtain⟨fp,⟨vs,fE,hr⟩,hn,hl⟩:=h.slots i _ hv
    refine⟨fp,⟨vs,fE,Eu (io:=st.io) agh (c:=cG C g st w) (c':=cG C g' (st.mask keep) w) rfl rfl rfl rfl rfl tj 0 hr ?_⟩,hn,hl⟩
    intro j u hu t ht
    simp only[cp,jW.CI]at ht
    cases hb:Nat.ble 4096 j with
    |true=>rw[hb]at ht;cases ht
    |false=>
     rw[hb]at ht
     simp only[af]at ht
     cases DD:Nat.ble 1000000 i with
     |true=>rw[DD]at ht;cases ht
     |false=>
     rw[DD]at ht
     simp only[af,ba]at ht
     have hi6:i<1000000:=by rcases cf i 1000000 with gW|yt;exact gW;rw[gD yt]at DD;cases DD
     have hj:j<4096:=by rcases cf j 4096 with gW|yt;exact gW;rw[gD yt]at hb;cases hb
     have h0:t%3=0:=by omega
     have h1:t/3/4096=i:=by omega
     have h2:t/3%4096=j:=by omega
     refine⟨.inl (by omega),?_⟩
     show u=Aw C.ioV st a w g.β t
     rw[Aw,lR,aF h0,h1,h2,get_eq hv,Uw fE,hu];rfl
  subst ng;exact⟨[],fR.bot _ _,by simp,by simp⟩
 have wC:(mH keep st.ep st.io 0 st.boxes)[s]?=some (some cs):=hs;rw[zw,cp]at wC;cases hv:st.boxes[s]? with
 |none=>rw[hv]at wC;cases wC
 |some x=>
  rw[hv]at wC;simp only[dc,ba]at wC;split at wC;cases hx:x with
  |none=>rw[hx]at wC;cases wC
  |some xs=>
   rw[hx]at wC hv;simp only[dc,ba]at wC;subst wC;obtain⟨arr,T,fr,fp,hb,qM,hr,hn,hni,hl,EM,EO⟩:=h.boxes s xs hv;refine⟨arr,T,fr,fp,hb,qM,Eu (io:=st.io) agh (c:=cG C g st w) (c':=cG C g' (st.mask keep) w) rfl rfl rfl rfl rfl tj 0 hr ?_,hn,hni,hl,EM,EO⟩;intro j u hu t ht;simp only[cp,jW.CI]at ht;cases UO:Nat.ble 4096 j with
   |true=>rw[UO]at ht;cases ht
   |false=>
    rw[UO]at ht;simp only[af,ba]at ht;have hj:j<4096:=by rcases cf j 4096 with gW|yt;exact gW;rw[gD yt]at UO;cases UO
    have h0:¬t%3=0:=by omega
    have h1:t/3/4096=s:=by omega
    have h2:t/3%4096=j:=by omega
    refine⟨.inl (by omega),?_⟩;show u=Aw C.ioV st a w g.β t;rw[Aw,lR,aH h0,h1,h2,hb];simp only;rw[hu];rfl
  cases wC
structure iG (ds:List Nat) (st bK:AS):Prop where
 len:bK.slots.length=st.slots.length
 slot:∀i,i∉ds->bK.slots[i]?=st.slots[i]?
 boxes:bK.boxes=st.boxes
 ep:bK.ep=st.ep
 iss:∀i,i∉ds->nth bK.iss i=nth st.iss i
 am3:bK.iss.length=st.iss.length
 io:bK.io=st.io
theorem iG.refl (ds:fg)(st:AS):iG ds st st:=⟨rfl,λ_ _=>rfl,rfl,rfl,λ_ _=>rfl,rfl,rfl⟩
theorem iG.trans {st st1 st2:AS}(h:iG ds st st1)(k:iG ds st1 st2):iG ds st st2:=⟨k.len.trans h.len,λi hi=>(k.slot i hi).trans (h.slot i hi),k.boxes.trans h.boxes,k.ep.trans h.ep,λi hi=>(k.iss i hi).trans (h.iss i hi),k.am3.trans h.am3,k.io.trans h.io⟩
theorem iG.put {st:AS}(hd:∀i,d=some i->i∈ds)(v:AV):iG ds st (st.put d v):=by cases d with|none=>exact iG.refl _ _|some d=>refine⟨by rw[fH,aC],λi hi=>?_,jX,GA,λi _=>by rw[PM],by rw[PM],GO⟩;rw[fH,aR];rintro rfl;exact hi (hd _ rfl)
theorem iG.fi {st:AS}(hd:∀i,d=some i->i∈ds):iG ds st (st.fi d):=by cases d with|none=>exact iG.refl _ _|some d=>refine⟨rfl,λi _=>rfl,rfl,rfl,λi hi=>?_,?_,rfl⟩;simp only[AS.fi,dI,fe];rw[aR];rintro rfl;exact hi (hd _ rfl);simp only[AS.fi,fe,aC]
theorem sy {α:Type}{o:ax α}{k:α->ax AS}{bK:AS}(h:aa o k=some bK)(hk:∀x,k x=some bK->iG ds st bK):iG ds st bK:=by cases o with|none=>cases h|some x=>exact hk x h
theorem ZJ {n:Nat}{k:ax AS}{bK:AS}(h:room n k=some bK)(hk:k=some bK->iG ds st bK):iG ds st bK:=by unfold room at h;split at h;exact hk h;cases h
theorem VE {op:BinOp}{k:IntKind}{x y:Int}{K:AC->ax AS}{bK:AS}(h:FB op k x y K=some bK)(hk:∀z,K z=some bK->iG ds st bK):iG ds st bK:=by
 unfold FB at h
 split at h<;>first
  |exact hk _ h
  |(split at h
    ·cases h
    ·exact hk _ h)
  |cases h
theorem VF {op:BinOp}{x y:aw UInt8}{K:AC->ax AS}{bK:AS}(h:H6 op x y K=some bK)(hk:∀z,K z=some bK->iG ds st bK):iG ds st bK:=by
 unfold H6 at h
 split at h<;>first
  |exact ZJ h (hk _)
  |exact hk _ h
  |cases h
theorem G1 {op:BinOp}{x y:AV}{K:AC->ax AS}{bK:AS}(h:Dq op x y K=some bK)(hk:∀z,K z=some bK->iG ds st bK):iG ds st bK:=by unfold Dq at h;split at h;split at h;split at h;cases h;exact hk _ h;split at h;cases h;exact hk _ h;split at h;exact VE h hk;cases h;exact VF h hk;split at h;exact hk _ h;exact hk _ h;cases h;split at h;exact sy h λb hb=>hk _ hb;exact sy h λb hb=>hk _ hb;cases h;cases h
theorem FL {lo hi:ax Operand}{n:Nat}{K:Int->Int->ax AS}{st0 bK:AS}(h:lU st0 lo hi n K=some bK)(hk:∀x y,K x y=some bK->iG ds st bK):iG ds st bK:=by
 unfold lU at h
 split at h<;>first
  |exact hk _ _ h
  |cases h
theorem KR {op:BinOp}{b:Bool}{K:AC->ax AS}{bK:AS}(h:Bu op b K=some bK)(hk:∀c,K c=some bK->iG ds st bK):iG ds st bK:=by unfold Bu at h;split at h;exact hk _ h;exact hk _ h;cases h
theorem Nu {E:Env}(yu:∀f,(Γ f).io=false/\(Γ f).bx=false/\(Γ f).pr=false){o:Oper}{bK:AS}(hq:gn an ds o=true)(hd:∀i,o.dst=some i->i∈ds)(h:cX E Γ an o st some=some bK):iG ds st bK:=by
 have ux:∀v,some (st.put o.dst v)=some bK->iG ds st bK:=λv hv=>by cases hv;exact iG.put hd v
 unfold cX at h;split at h;rename_i x ho;simp only[gn,ho]at hq;unfold zZ at h;cases Pk:o.dst with
 |none=>rw[Pk]at h;cases h
 |some d=>
  rw[Pk]at h hq;simp only at h hq;have hf:an.mv.contains d=false:=by simpa using hq
  rw[hf]at h;simp only[aW,bX]at h;cases h;exact iG.put (λi hi=>hd i (by rw[Pk];exact hi)) _
 rename_i x ho;have Bz:yf an o=false\/∃y,x=y/\(∀v,y≠ .const v)/\(∀t,y≠ .tmp t):=by cases x with|tmp t=>left;simp only[gn,ho,ae,aK]at hq;exact hq.2|const v=>left;simpa only[gn,ho,aK]using hq|func f=>simp[gn,ho]at hq|global g=>simp[gn,ho]at hq
 have Bz:yf an o=false:=by rcases Bz with h1|⟨y,rfl,h1,h2⟩;exact h1;cases x with|tmp t=>exact absurd rfl (h2 t)|const v=>exact absurd rfl (h1 v)|func f=>simp[gn,ho]at hq|global g=>simp[gn,ho]at hq
 simp only[gn,ho]at hq;rw[aH (by simp[Bz])]at h;unfold sX at h;have hx:iG ds st (st.take x).2:=by
  cases x with
  |tmp t=>
   have ht:t∈ds:=by simp only[ae]at hq;simpa using hq.1
   exact iG.put (d:=some t) (λi hi=>by cases hi;exact ht) _
  |const v=>exact iG.refl _ _
  |func f=>exact iG.refl _ _
  |global g=>exact iG.refl _ _
 split at h;split at h;exact ux _ h;cases h;rename_i v st1 _ qT;cases h;have:(st.take x).2=st1:=by rw[qT]
 rw[this]at hx;exact hx.trans (iG.put hd _);unfold Ct at h;split at h;rename_i t _;split at h;exact ux _ h;cases t with|true=>exact ux _ h|false=>exact ux _ h
 cases h;rename_i ho;simp[gn,ho]at hq;rename_i ho;simp[gn,ho]at hq;rename_i T p ho;simp only[gn,ho]at hq;have qT:CM an o=false:=by unfold CM;cases Pk:o.dst with|none=>rfl|some d=>rw[Pk]at hq;simp only[aK]at hq;simp only[hq,eE]
 unfold nS at h;split at h;split at h;split at h;split at h;rename_i d Pk;rw[Pk]at hq;simp only at hq;have hf:an.mv.contains d=false:=by simpa using hq
 rw[hf]at h;simp only[aW,bX]at h;exact ux _ h;cases h;cases h;cases h;rw[aH (by simp[qT])]at h;split at h;split at h;exact ux _ h;cases h;unfold Be at h;split at h;split at h;split at h;split at h;obtain⟨y,_,h⟩:=Jd h;exact ux _ h;cases h;cases h;cases h;cases h;cases h;rename_i ho;simp[gn,ho]at hq;split at h;exact ux _ h;exact ux _ h;cases h;unfold yA at h;split at h;split at h;exact G1 h λz hz=>ux _ hz;cases h;split at h;split at h;exact G1 h λz hz=>ux _ hz;cases h;cases h;split at h;split at h;cases h;exact KR h λz hz=>ux _ hz;cases h;split at h;exact KR h λz hz=>ux _ hz;cases h;exact G1 h λz hz=>ux _ hz;unfold unC at h;split at h;exact ux _ h;exact ux _ h;exact ux _ h;cases h;unfold xS at h;split at h;split at h;exact ux _ h;cases h;split at h;exact ux _ h;cases h;cases h;unfold lJ at h;split at h;split at h;exact sy h λy hy=>ux _ hy;cases h;cases h;unfold zv at h;split at h;split at h;exact sy h λy hy=>ux _ hy;cases h;cases h;rename_i T parts ho;simp only[gn,ho]at hq;have he:parts=#[]:=by simpa using hq
 subst he;unfold zh at h;split at h;simp only[eM,List.map_nil]at h;split at h;exact ux _ h;cases h;cases h;rename_i ho;simp[gn,ho]at hq;rename_i ho;simp[gn,ho]at hq;rename_i ho;simp only[gn,ho,aK]at hq;unfold yn at h;rw[aH (by simp[hq])]at h;split at h;split at h;exact FL h λx y hxy=>sy hxy λz hz=>ux _ hz;cases h;split at h;exact FL h λx y hxy=>sy hxy λz hz=>ux _ hz;cases h;cases h;rename_i ho;simp[gn,ho]at hq;rename_i ho;simp[gn,ho]at hq;rename_i ho;simp[gn,ho]at hq;rename_i ho;simp[gn,ho]at hq;unfold KL at h;split at h;split at h;exact ux _ h;cases h;split at h;exact ux _ h;cases h;cases h;unfold Mi at h;split at h;exact ux _ h;cases h;unfold Mh at h;split at h;exact ux _ h;cases h;rename_i ho;simp[gn,ho]at hq;unfold Bt at h;split at h;rename_i k _;rw[(yu k).2.1,(yu k).2.2,(yu k).1]at h;simp only[af]at h;refine sy h λy hy=>?_;cases Ma:(Γ k).sel y with|true=>rw[Ma]at hy;cases hy;exact(iG.fi hd).trans (iG.put hd _)|false=>rw[Ma]at hy;cases hy;exact(iG.fi hd).trans (iG.put hd _)
 cases h;cases h
theorem SN {ops:aw Oper}{o:Oper}(ho:o∈ops){i:Nat}(hi:o.dst=some i):i∈Ec ops:=List.mem_filterMap.2 ⟨o,ho,hi⟩
theorem KS {E:Env}(yu:∀f,(Γ f).io=false/\(Γ f).bx=false/\(Γ f).pr=false){ops:aw Oper}{o:Oper}{bK:AS}(ho:o∈ops)(hq:gn an (Ec ops) o=true)(h:gh E Γ an ops o st some=some bK):iG (Ec ops) st bK:=by
 have hd:∀i,o.dst=some i->i∈Ec ops:=λi hi=>SN ho hi;unfold gh at h;split at h;exact Nu yu hq hd h;rename_i j EH hg;split at h;rename_i d Pk;have hdm:d∈Ec ops:=by rw[dI]at Pk;cases Iu:ops[j]? with|none=>rw[Iu]at Pk;cases Pk|some o'=>rw[Iu]at Pk;exact SN (bp Iu) Pk
 have hp:∀t,iG (Ec ops) st (st.put (some d) (.one (.bool t))):=λt=>iG.put (λi hi=>by cases hi;exact hdm) _;split at h;rename_i b hb;have main:∀t,(if(t==EH)=true then cX E Γ an o (st.put (some d) (.one (.bool t))) some else some ((st.put (some d) (.one (.bool t))).put o.dst (.one .un)))=some bK->iG (Ec ops) st bK:=by intro t ht;split at ht;exact(hp t).trans (Nu yu hq hd ht);cases ht;exact(hp t).trans (iG.put hd _)
 cases b with|true=>exact main true h|false=>exact main false h
 cases h;exact iG.put hd _;cases h;cases h
theorem SX {E:Env}(yu:∀f,(Γ f).io=false/\(Γ f).bx=false/\(Γ f).pr=false){ops:aw Oper}(hq:∀o∈ops,gn an (Ec ops) o=true):∀(l:aw Oper)(st bK:AS),(∀o∈l,o∈ops)->PW E Γ an ops l st some=some bK->iG (Ec ops) st bK
 |[],st,bK,_,h=>by cases h;exact iG.refl _ _
 |o::l,st,bK,hl,h=>by simp only[PW]at h;rw[px]at h;cases hg:gh E Γ an ops o st some with|none=>rw[hg]at h;cases h|some st1=>rw[hg]at h;exact(KS yu (hl o (by simp)) (hq o (hl o (by simp))) hg).trans (SX yu hq l st1 bK (λo' Iu=>hl o' (by simp[Iu])) h)
theorem Eb:∀(l:fg)(st:AS),(∀i∈l,i∈ds)->iG ds st (st.yJ l)
 |[],st,_=>iG.refl _ _
 |d::l,st,h=>by
  have hd:∀i,some d=some i->i∈ds:=λi hi=>by cases hi;exact h d (by simp)
  exact((iG.put hd _).trans (iG.fi hd)).trans (Eb l _ (λi hi=>h i (by simp[hi])))
theorem MO:∀(l:fg)(st:AS)(i:Nat)(av:AV),(st.yJ l).slots[i]?=some av->i∈l\/st.slots[i]?=some .bot->av=.bot
 |[],st,i,av,h,hi=>by rcases hi with hi|hi;cases hi;have:st.slots[i]?=some av:=h;rw[hi]at this;cases this;rfl
 |d::l,st,i,av,h,hi=>by
  refine MO l _ i av h ?_;by_cases L6:i∈l;exact .inl L6;refine .inr ?_;rw[sP,fH,bu];have gW:i<st.slots.length:=by
   have h1:=(Eb (ds:=d::l) l ((st.put (some d) .bot).fi (some d)) (λi hi=>by simp[hi])).len;have h2:=(aG.1 h).1;have h3:(AS.yJ ((st.put (some d) .bot).fi (some d)) l).slots.length=st.slots.length:=by rw[h1,sP,fH,aC]
   have h4:i<(AS.yJ ((st.put (some d) .bot).fi (some d)) l).slots.length:=h2;omega
  split;rename_i hdi;subst hdi;rw[aF gW];rename_i hdi;rcases hi with hi|hi;simp only[cm]at hi;rcases hi with hi|hi;exact absurd hi.symm hdi;exact absurd hi L6;exact hi
theorem MP:∀(l:fg)(st:AS)(i:Nat),i∈l\/(nth st.iss i).getD true=true->(nth (st.yJ l).iss i).getD true=true
 |[],st,i,hi=>by rcases hi with hi|hi;cases hi;exact hi
 |d::l,st,i,hi=>by refine MP l _ i ?_;by_cases L6:i∈l;exact .inl L6;refine .inr ?_;have he:(AS.fi (st.put (some d) .bot) (some d)).iss=gK st.iss d true:=rfl;rw[he,fe,dI,bu];split;split<;>rfl;rename_i hdi;rcases hi with hi|hi;simp only[cm]at hi;rcases hi with hi|hi;exact absurd hi.symm hdi;exact absurd hi L6;rw[dI]at hi;exact hi
theorem mZ.weaken {bK:AS}(h:mZ C bK a w)(hn:iG ds st bK){s:Nat}{b:Bool}(hb:getBool bK s=some b):mZ C ((st.yJ ds).put (some s) (.one (.bool b))) a w:=by
 have DD:bK.get s=.val false [.bool b]:=by unfold getBool at hb;split at hb;rename_i b' hg;cases hb;exact hg;cases hb
 have hkn:=h.known DD;obtain⟨g,h⟩:=h;have hdn:=Eb (ds:=ds) ds st (λ_ hi=>hi);have su:((st.yJ ds).put (some s) (.one (.bool b))).boxes=bK.boxes:=by rw[jX,hdn.boxes,hn.boxes]
 have wB:((st.yJ ds).put (some s) (.one (.bool b))).ep=bK.ep:=by rw[GA,hdn.ep,hn.ep]
 have hlen:((st.yJ ds).put (some s) (.one (.bool b))).slots.length=bK.slots.length:=by rw[fH,aC,hdn.len,hn.len]
 have Is:∀t,lT bK t->lT ((st.yJ ds).put (some s) (.one (.bool b))) t:=by intro t ht;rw[FE];rcases ht with ht|ht;exact .inl ht;refine .inr (MP ds st _ ?_);by_cases hi:t/3/4096∈ds;exact .inl hi;exact .inr (by rw[<-hn.iss _ hi];exact ht)
 have tj:∀s',iR bK s'->iR ((st.yJ ds).put (some s) (.one (.bool b))) s':=λs' hs=>by unfold iR at hs⊢;rw[su];exact hs
 have hle:(cG C g bK w).Le (cG C g ((st.yJ ds).put (some s) (.one (.bool b))) w):=⟨rfl,λt ht=>⟨Is t ht,rfl⟩,λ_ _ _ _ _ hv=>hv,by show bK.ep<=_;rw[<-wB];exact aU _,λs' hs=>⟨tj s' hs,rfl⟩,λ_ b o u ho hu=>⟨ho,hu⟩⟩
 refine⟨g,h.step (λ_=>True) hle h.defers (by rw[hlen];exact h.size) (by rw[su,hlen];exact h.bsize) h.frame h.fS (λb x _ hx=>⟨hx,rfl,rfl⟩) ?_ ?_ ?_ (.inl ⟨cx,by rw[GO,hdn.io,hn.io]⟩)⟩;intro i av hi;rw[fH,bu]at hi;split at hi;rename_i hsi;subst hsi;split at hi;cases hi;refine .inr ⟨[],lK ?_,by simp,by simp⟩;exact⟨hkn,rfl⟩;cases hi;by_cases RZ:i∈ds;have:=MO ds st i av hi (.inl RZ);subst this;exact .inr ⟨[],fR.bot _ _,by simp,by simp⟩;rw[hdn.slot i RZ]at hi;exact .inl ⟨cx,by rw[hn.slot i RZ];exact hi,rfl⟩;intro s' cs hs;rw[su]at hs;exact .inl ⟨cx,hs,rfl⟩;intro k v av hk;simp at hk
theorem aeD (Γ:fy)(f:Nat):(Γ.calm f).io=false/\(Γ.calm f).bx=false/\(Γ.calm f).pr=false:=by unfold fy.calm;cases h:(Γ f).io with|true=>exact⟨rfl,rfl,rfl⟩|false=>cases h2:(Γ f).bx with|true=>exact⟨rfl,rfl,rfl⟩|false=>cases h3:(Γ f).pr with|true=>exact⟨rfl,rfl,rfl⟩|false=>exact⟨h,h2,h3⟩
theorem afS (Γ:fy)(f:Nat):(Γ.EE f).io=false/\((Γ.EE f).bx=true->(Γ.EE f).cur=true)/\(Γ.EE f).pr=false:=by unfold fy.EE;cases h:(Γ f).io with|true=>exact⟨rfl,λh=>(by cases h),rfl⟩|false=>cases h3:(Γ f).pr with|true=>exact⟨rfl,λh=>(by cases h),rfl⟩|false=>cases h2:(Γ f).bx with|false=>exact⟨h,λh=>(by simp[h2]at h),h3⟩|true=>cases h4:(Γ f).cur with|true=>exact⟨h,λ_=>h4,h3⟩|false=>exact⟨rfl,λh=>(by cases h),rfl⟩
theorem afT (yu:∀f,(Γ f).io=false/\(Γ f).bx=false/\(Γ f).pr=false)(f:Nat):(Γ.EE f).io=false/\(Γ.EE f).bx=false/\(Γ.EE f).pr=false:=by have h:=yu f;unfold fy.EE;rw[h.1,h.2.1,h.2.2];exact h
theorem Sound.EE {E:Env}(h:Sound P E Γ):Sound P E Γ.EE:=by refine⟨h.ty,h.eqs,h.fts,λf=>?_,h.mixed⟩;unfold fy.EE;cases (Γ f).io||(Γ f).pr||((Γ f).bx&& !(Γ f).cur)with|true=>intro xs y hy;cases hy|false=>exact h.fns f
theorem Sound.calm {E:Env}(h:Sound P E Γ):Sound P E Γ.calm:=by refine⟨h.ty,h.eqs,h.fts,λf=>?_,h.mixed⟩;unfold fy.calm;cases (Γ f).io with|true=>intro xs y hy;cases hy|false=>cases (Γ f).bx with|true=>intro xs y hy;cases hy|false=>cases (Γ f).pr with|true=>intro xs y hy;cases hy|false=>exact h.fns f
end Go.Dn
