import Derived.Test.YtnmppgnbjfdffaaGreatDnDen
import Derived.Test.YtnmppgnbjfdffaaGreatDnNat
/- What is kept at a loop's door; what a region whose ways meet again leaves. -/
namespace Go.Dn
open Go.RowKit
variable {P:Program} {C:Ctx} {st:AS} {a:Act} {w:World} {R:Type} {r:R}
variable {an:An} {Γ:xl} {v:Value} {io:aw AC} {d:ay Nat} {ds keep:ff}
theorem Dl (keep:ff)(ep:Nat)(io:aw AC):∀(l:aw AV)(n i:Nat),(my keep ep io n l)[i]?=(l[i]?).map λv=>if keep.contains (n+i) then v.mask keep ep io (n+i) else .bot
 |[],n,i=>by simp[my]
 |v::l,n,0=>by simp[my]
 |v::l,n,i+1=>by simp only[my,eF];rw[Dl keep ep io l (n+1) i,show n+1+i=n+(i+1) by omega]
theorem yX (keep:ff)(ep:Nat)(io:aw AC):∀(l:aw (ay (aw AC)))(n i:Nat),(mx keep ep io n l)[i]?=(l[i]?).map λb=>if keep.contains (n+i) then b.map (GF keep ep io (.box (n+i)) 0) else none
 |[],n,i=>by simp[mx]
 |v::l,n,0=>by simp[mx]
 |v::l,n,i+1=>by simp only[mx,eF];rw[yX keep ep io l (n+1) i,show n+1+i=n+(i+1) by omega]
theorem ui (keep:ff)(ep:Nat)(io:aw AC):∀(l:aw AV)(n:Nat),(my keep ep io n l).length=l.length
 |[],_=>rfl
 |_::l,n=>by simp[my,ui keep ep io l]
theorem zF (keep:ff)(ep:Nat)(io:aw AC):∀(l:aw (ay (aw AC)))(n:Nat),(mx keep ep io n l).length=l.length
 |[],_=>rfl
 |_::l,n=>by simp[mx,zF keep ep io l]
def S1:Value->AV->ir
 | .agg vs,.val true _=>vs.toList
 |v,_=>[v]
theorem S5 {g:Bool}{vs:ir}{cs:aw AC}(h:Cut g v vs):S1 v (.val g cs)=vs:=by cases g with|true=>simp only[Cut,bM]at h;subst h;simp[S1]|false=>simp only[Cut]at h;subst h;cases v<;>rfl
def zZ (ioV:ir)(st:AS)(a:Act)(w:World)(β:Nat->Nat)(t:Nat):Value:=
 if t%3=0/\t/3/4096=1000003 then(ioV[t/3%4096]?).getD undef
 else if t%3=0 then((S1 (a.tmps.getD (t/3/4096) undef) (st.get (t/3/4096)))[t/3%4096]?).getD undef
 else match w.heap[β (t/3/4096)]? with
  |some (.cells arr _ _)=>(arr.toList[t/3%4096]?).getD undef
  |_=>undef
def SF (c c':RC)(io:aw AC):Prop:=∀j n (e:CT)(ys:aw e.D),AC.aa9 io j n e=some ys->∃v0 fp0,eV c.hw c.w (.sl e) [v0] ys fp0/\v0=c.hdr n/\∀q,(jU.io j).Ch=some q->c'.iss q/\v0=c'.hdr q
theorem XR {c c':RC}(Lp:SF c c' io){rt:jU}{x:AC}{fp:ff}(h:gy c v x fp)(CH:c'.hw=c.hw)(hw:c'.w=c.w)(hA:c'.A=c.A)(vY:c'.ep=0)(Gq:c'.β=c.β)(sL:∀s,keep.contains s=true->c.FA s->c'.FA s)(lN:∀t,rt.Ch=some t->c'.iss t/\v=c'.hdr t):gy c' v (x.mask keep c.ep io rt) fp:=by
 have hS:c'.S=c.S:=by funext b o;simp[RC.S,CH,hA]
 cases x with
 |int k n=>exact h
 |bool b=>exact h
 |str s=>exact h
 |jm=>exact h
 |fn f=>exact h
 |un=>exact h
 |bot=>exact h
 |ptr s off=>simp only[AC.mask];split;rename_i hk;exact⟨by rw[Gq];exact h.1,sL s hk h.2.1,h.2.2⟩;exact h.2.2
 |yP fl e y i off=>cases fl with|own t=>exact h.elim|nest _ _ _ _ _ _=>exact h.elim|part _ _ _ _=>exact h.elim|eX _ _ _=>exact h.elim|arg _=>exact h.1|loc ep pv=>exact h.1
 |sl fl e xs=>
  cases fl with
  |own t=>exact⟨eV.mono h.1 (λb _=>⟨by rw[hw],by rw[CH]⟩),lN⟩
  |nest _ _ _ _ _ _=>exact h.1
  |part _ _ _ _=>exact h.1
  |eX _ _ _=>obtain⟨_,⟨k,hk,h3⟩,_⟩:=h;exact⟨λq hq=>(by cases hq),⟨k,hk,h3.mono (λb hb=>⟨by rw[hw],by rw[CH]⟩)⟩,by simp⟩
  |arg _=>exact⟨h.1,by rw[hA,hw];exact h.2⟩
  |loc ep pv=>
   obtain⟨h1,h2,h3,h4,h5⟩:=h;have plain:gy c' v (if(ep==c.ep)=true then AC.sl (.loc 0 none) e xs else .bot) fp:=by split;rename_i he;refine⟨h1,by rw[vY];exact aS _,h3,λ_=>?_,by simp⟩;rw[hS,hw];exact h4 (by simpa using he);exact h1
   simp only[AC.mask];split;rename_i j n;split;rename_i ys BM;obtain⟨v0,fp0,gC,JM,hq⟩:=Lp j n e ys BM;obtain⟨_,k2⟩:=h5 _ _ rfl;have hv:v0=v:=JM.trans k2.symm;subst hv;refine⟨h1,by rw[vY];exact aS _,Kh gC,λ_=>?_,λr t hp=>?_⟩;rw[hS,hw];exact eV.rep (λb o ho=> .inr ho) gC;cases tW:(jU.io j).Ch with|none=>rw[tW]at hp;cases hp|some q=>rw[tW]at hp;simp at hp;obtain⟨_,rfl⟩:=hp;exact⟨(hq q tW).1,(hq q tW).2⟩
   exact plain;exact plain
theorem D5 {c c':RC}(Lp:SF c c' io){f:Nat->jU}(CH:c'.hw=c.hw)(hw:c'.w=c.w)(hA:c'.A=c.A)(vY:c'.ep=0)(Gq:c'.β=c.β)
 (sL:∀s,keep.contains s=true->c.FA s->c'.FA s):∀{vs:ir}{xs:aw AC}{fp:ff}(j:Nat),bA c vs xs fp->
  (∀i v,vs[i]?=some v->∀t,(f (j+i)).Ch=some t->c'.iss t/\v=c'.hdr t)->bA c' vs (GF keep c.ep io f j xs) fp
 |[],[],_,_,h,_=>h
 |v::_,_::_,_,j,h,hm=>by obtain⟨f1,f2,rfl,h1,h2⟩:=h;exact⟨f1,f2,rfl,XR Lp h1 CH hw hA vY Gq sL (λt ht=>hm 0 v rfl t ht),D5 Lp CH hw hA vY Gq sL (j+1) h2 (λi u hu t ht=>hm (i+1) u (by simpa using hu) t (by rwa[show j+(i+1)=j+1+i by omega]))⟩
 |[],_::_,_,_,h,_=>h.elim
 |_::_,[],_,_,h,_=>h.elim
theorem abr {c:RC}{x:AC}{fp:ff}(h:gy c v x fp)(Ep:∀(tag:ay Nat)(e:CT)(xs:aw e.D),x=.sl (.own tag) e xs->False)(aft:∀(tag:ay Nat)(i:Int)(ep:ay Nat)(e:CT)(xs:aw e.D),x=.sl (.eX tag i ep) e xs->False):fp=[]:=by
 cases x with
 |int k n=>exact h.2
 |bool b=>exact h.2
 |str s=>exact h.2
 |jm=>exact h.2
 |fn f=>exact h.2
 |un=>exact h.2
 |bot=>exact h
 |ptr s off=>exact h.2.2
 |yP fl e y i off=>cases fl with|own t=>exact h.elim|nest _ _ _ _ _ _=>exact h.elim|part _ _ _ _=>exact h.elim|eX _ _ _=>exact h.elim|arg _=>exact h.1|loc ep pv=>exact h.1
 |sl fl e xs=>cases fl with|own t=>exact(Ep _ _ _ rfl).elim|nest _ _ _ _ _ _=>exact h.1|part _ _ _ _=>exact h.1|eX _ _ _=>exact(aft _ _ _ _ _ rfl).elim|arg _=>exact h.1|loc ep pv=>exact h.1
theorem mP.mask (h:mP C st a w)(keep:ff):mP C (st.mask keep) a w:=by
 obtain⟨g,h⟩:=h;let g':Gh:={g with hdr:=zZ C.ioV st a w g.β}
 have sL:∀s,keep.contains s=true->iQ st s->iQ (st.mask keep) s:=by rintro s hk ⟨cs,hs⟩;refine⟨GF keep st.ep st.io (.box s) 0 cs,?_⟩;show(mx keep st.ep st.io 0 st.boxes)[s]?=_;rw[yX,hs];simp only[da,cl,aF hk]
 obtain⟨fpi,hri,hni,hli⟩:=h.io;have ahl:∀j v,C.ioV[j]?=some v->∀q,(jU.io j).Ch=some q->lJ (st.mask keep) q/\v=zZ C.ioV st a w g.β q:=by
  intro j v hv q hq;simp only[jU.Ch]at hq;cases hb:Nat.ble 4096 j with
  |true=>rw[hb]at hq;cases hq
  |false=>
   rw[hb]at hq;simp only[af,aZ,V0]at hq;have hj:j<4096:=by rcases bW j 4096 with hG|yc;exact hG;rw[gB yc]at hb;cases hb
   have h0:q%3=0:=by omega
   have h1:q/3/4096=1000003:=by omega
   have h2:q/3%4096=j:=by omega
   refine⟨.inl (by omega),?_⟩;rw[zZ,aF ⟨h0,h1⟩,h2,hv];rfl
 have aeu:SF (cH C g st w) (cH C g' (st.mask keep) w) st.io:=by
  intro j n e ys BM;unfold AC.aa9 at BM;split at BM;rename_i t' e' ys' hj;split at BM;rename_i he;subst he;cases ht:(t'==n)with
  |false=>rw[ht]at BM;cases BM
  |true=>
   rw[ht]at BM;have:t'=n:=by simpa using ht
   subst this;cases BM;rw[dF]at hj;obtain⟨v,f,hv,hr,_⟩:=hri.get j _ hj;exact⟨v,f,hr.1,(hr.2 t' rfl).2,λq hq=>ahl j v hv q hq⟩
  cases BM;cases BM
 have alE:∀(j:Nat){vs:ir}{xs:aw AC}{fp:ff},bA (cH C g st w) vs xs fp->(∀i v,vs[i]?=some v->C.ioV[j+i]?=some v)->bA (cH C g' (st.mask keep) w) vs (Up keep j xs) fp:=by
  intro j vs
  induction vs generalizing j with
  |nil=>intro xs fp hr _;cases xs with
   |nil=>exact hr
   |cons _ _=>exact hr.elim
  |cons v vs ih=>
   intro xs fp hr hv
   cases xs with
   |nil=>exact hr.elim
   |cons x xs=>
    obtain⟨f1,f2,rfl,r1,r2⟩:=hr
    refine⟨f1,f2,rfl,?_,ih (j+1) r2 (λi u hu=>by rw[show j+1+i=j+(i+1) by omega];exact hv (i+1) u (by simpa using hu))⟩
    have JM:=hv 0 v rfl
    rw[dK]at JM
    split
    ·rename_i tg e ys
     exact⟨r1.1,λq hq=>ahl j v JM q hq⟩
    ·rename_i tag i ep e ys
     obtain⟨_,⟨k,hk,h3⟩,_⟩:=r1
     exact⟨λq hq=>(by cases hq),⟨k,hk,h3⟩,by simp⟩
    ·rename_i s off
     split
     ·rename_i hk
      exact⟨r1.1,sL s hk r1.2.1,r1.2.2⟩
     ·exact r1.2.2
    ·rename_i Ep aft _
     cases hfl:x.jd with
     |true=>
      obtain⟨rfl,k⟩:=pD (c':=cH C g' (st.mask keep) w) r1 hfl
      exact k
     |false=>exact abr r1 Ep aft
 refine⟨g',h.defers,?_,?_,λi av hi=>?_,λs cs hs=>?_,λk v av hk=>by simp at hk,h.fQ,h.frame,⟨fpi,alE 0 hri (λi v hv=>by rw[cl];exact hv),hni,hli⟩⟩;show _=(my keep st.ep st.io 0 st.slots).length;rw[ui];exact h.size;show(mx keep st.ep st.io 0 st.boxes).length=(my keep st.ep st.io 0 st.slots).length;rw[ui,zF];exact h.bsize;have tU:(my keep st.ep st.io 0 st.slots)[i]?=some av:=hi;rw[Dl,cl]at tU;cases hv:st.slots[i]? with
 |none=>rw[hv]at tU;cases tU
 |some x=>
  rw[hv]at tU;simp only[da,aZ]at tU;split at tU
  ·subst tU
   cases hx:x with
   |tS ts=>exact⟨[],fP.bot _ _,by simp,by simp⟩
   |val gg cs=>
    rw[hx]at hv
    obtain⟨fp,⟨vs,eY,hr⟩,hn,hl⟩:=h.slots i _ hv
    refine⟨fp,⟨vs,eY,D5 (io:=st.io) aeu (c:=cH C g st w) (c':=cH C g' (st.mask keep) w) rfl rfl rfl rfl rfl sL 0 hr ?_⟩,hn,hl⟩
    intro j u hu t ht
    simp only[cl,jU.Ch]at ht
    cases hb:Nat.ble 4096 j with
    |true=>rw[hb]at ht;cases ht
    |false=>
     rw[hb]at ht
     simp only[af]at ht
     cases Dc:Nat.ble 1000000 i with
     |true=>rw[Dc]at ht;cases ht
     |false=>
     rw[Dc]at ht
     simp only[af,aZ]at ht
     have hi6:i<1000000:=by rcases bW i 1000000 with hG|yc;exact hG;rw[gB yc]at Dc;cases Dc
     have hj:j<4096:=by rcases bW j 4096 with hG|yc;exact hG;rw[gB yc]at hb;cases hb
     have h0:t%3=0:=by omega
     have h1:t/3/4096=i:=by omega
     have h2:t/3%4096=j:=by omega
     refine⟨.inl (by omega),?_⟩
     show u=zZ C.ioV st a w g.β t
     rw[zZ,lF,aF h0,h1,h2,get_eq hv,S5 eY,hu];rfl
  subst tU;exact⟨[],fP.bot _ _,by simp,by simp⟩
 have vZ:(mx keep st.ep st.io 0 st.boxes)[s]?=some (some cs):=hs;rw[yX,cl]at vZ;cases hv:st.boxes[s]? with
 |none=>rw[hv]at vZ;cases vZ
 |some x=>
  rw[hv]at vZ;simp only[da,aZ]at vZ;split at vZ;cases hx:x with
  |none=>rw[hx]at vZ;cases vZ
  |some xs=>
   rw[hx]at vZ hv;simp only[da,aZ]at vZ;subst vZ;obtain⟨arr,T,fr,fp,hb,qv,hr,hn,hni,hl,Eo,Er⟩:=h.boxes s xs hv;refine⟨arr,T,fr,fp,hb,qv,D5 (io:=st.io) aeu (c:=cH C g st w) (c':=cH C g' (st.mask keep) w) rfl rfl rfl rfl rfl sL 0 hr ?_,hn,hni,hl,Eo,Er⟩;intro j u hu t ht;simp only[cl,jU.Ch]at ht;cases TG:Nat.ble 4096 j with
   |true=>rw[TG]at ht;cases ht
   |false=>
    rw[TG]at ht;simp only[af,aZ]at ht;have hj:j<4096:=by rcases bW j 4096 with hG|yc;exact hG;rw[gB yc]at TG;cases TG
    have h0:¬t%3=0:=by omega
    have h1:t/3/4096=s:=by omega
    have h2:t/3%4096=j:=by omega
    refine⟨.inl (by omega),?_⟩;show u=zZ C.ioV st a w g.β t;rw[zZ,lF,aG h0,h1,h2,hb];simp only;rw[hu];rfl
  cases vZ
structure iG (ds:List Nat) (st bI:AS):Prop where
 len:bI.slots.length=st.slots.length
 slot:∀i,i∉ds->bI.slots[i]?=st.slots[i]?
 boxes:bI.boxes=st.boxes
 ep:bI.ep=st.ep
 iss:∀i,i∉ds->nth bI.iss i=nth st.iss i
 ahH:bI.iss.length=st.iss.length
 io:bI.io=st.io
theorem iG.refl (ds:ff)(st:AS):iG ds st st:=⟨rfl,λ_ _=>rfl,rfl,rfl,λ_ _=>rfl,rfl,rfl⟩
theorem iG.trans {st st1 st2:AS}(h:iG ds st st1)(k:iG ds st1 st2):iG ds st st2:=⟨k.len.trans h.len,λi hi=>(k.slot i hi).trans (h.slot i hi),k.boxes.trans h.boxes,k.ep.trans h.ep,λi hi=>(k.iss i hi).trans (h.iss i hi),k.ahH.trans h.ahH,k.io.trans h.io⟩
theorem iG.put {st:AS}(hd:∀i,d=some i->i∈ds)(v:AV):iG ds st (st.put d v):=by cases d with|none=>exact iG.refl _ _|some d=>refine⟨by rw[fG,aB],λi hi=>?_,jV,Gi,λi _=>by rw[Oz],by rw[Oz],Gw⟩;rw[fG,aP];rintro rfl;exact hi (hd _ rfl)
theorem iG.fg {st:AS}(hd:∀i,d=some i->i∈ds):iG ds st (st.fg d):=by cases d with|none=>exact iG.refl _ _|some d=>refine⟨rfl,λi _=>rfl,rfl,rfl,λi hi=>?_,?_,rfl⟩;simp only[AS.fg,dF,fb];rw[aP];rintro rfl;exact hi (hd _ rfl);simp only[AS.fg,fb,aB]
theorem rR {α:Type}{o:ay α}{k:α->ay AS}{bI:AS}(h:aa o k=some bI)(hk:∀x,k x=some bI->iG ds st bI):iG ds st bI:=by cases o with|none=>cases h|some x=>exact hk x h
theorem X5 {n:Nat}{k:ay AS}{bI:AS}(h:room n k=some bI)(hk:k=some bI->iG ds st bI):iG ds st bI:=by unfold room at h;split at h;exact hk h;cases h
theorem Ux {op:BinOp}{k:IntKind}{x y:Int}{K:AC->ay AS}{bI:AS}(h:Fi op k x y K=some bI)(hk:∀z,K z=some bI->iG ds st bI):iG ds st bI:=by
 unfold Fi at h
 split at h<;>first
  |exact hk _ h
  |(split at h
    ·cases h
    ·exact hk _ h)
  |cases h
theorem Uy {op:BinOp}{x y:aw UInt8}{K:AC->ay AS}{bI:AS}(h:HS op x y K=some bI)(hk:∀z,K z=some bI->iG ds st bI):iG ds st bI:=by
 unfold HS at h
 split at h<;>first
  |exact X5 h (hk _)
  |exact hk _ h
  |cases h
theorem GJ {op:BinOp}{x y:AV}{K:AC->ay AS}{bI:AS}(h:C2 op x y K=some bI)(hk:∀z,K z=some bI->iG ds st bI):iG ds st bI:=by unfold C2 at h;split at h;split at h;split at h;cases h;exact hk _ h;split at h;cases h;exact hk _ h;split at h;exact Ux h hk;cases h;exact Uy h hk;split at h;exact hk _ h;exact hk _ h;cases h;split at h;exact rR h λb hb=>hk _ hb;exact rR h λb hb=>hk _ hb;cases h;cases h
theorem Fv {lo hi:ay Operand}{n:Nat}{K:Int->Int->ay AS}{st0 bI:AS}(h:lK st0 lo hi n K=some bI)(hk:∀x y,K x y=some bI->iG ds st bI):iG ds st bI:=by
 unfold lK at h
 split at h<;>first
  |exact hk _ _ h
  |cases h
theorem Kb {op:BinOp}{b:Bool}{K:AC->ay AS}{bI:AS}(h:AQ op b K=some bI)(hk:∀c,K c=some bI->iG ds st bI):iG ds st bI:=by unfold AQ at h;split at h;exact hk _ h;exact hk _ h;cases h
theorem MN {E:Env}(yd:∀f,(Γ f).io=false/\(Γ f).bx=false/\(Γ f).pr=false){o:Oper}{bI:AS}(hq:gi an ds o=true)(hd:∀i,o.dst=some i->i∈ds)(h:cU E Γ an o st some=some bI):iG ds st bI:=by
 have tV:∀v,some (st.put o.dst v)=some bI->iG ds st bI:=λv hv=>by cases hv;exact iG.put hd v
 unfold cU at h;split at h;rename_i x ho;simp only[gi,ho]at hq;unfold zG at h;cases N8:o.dst with
 |none=>rw[N8]at h;cases h
 |some d=>
  rw[N8]at h hq;simp only at h hq;have hf:an.mv.contains d=false:=by simpa using hq
  rw[hf]at h;simp only[aU,bQ]at h;cases h;exact iG.put (λi hi=>hd i (by rw[N8];exact hi)) _
 rename_i x ho;have AW:xP an o=false\/∃y,x=y/\(∀v,y≠ .const v)/\(∀t,y≠ .tmp t):=by cases x with|tmp t=>left;simp only[gi,ho,ae,aL]at hq;exact hq.2|const v=>left;simpa only[gi,ho,aL]using hq|func f=>simp[gi,ho]at hq|global g=>simp[gi,ho]at hq
 have AW:xP an o=false:=by rcases AW with h1|⟨y,rfl,h1,h2⟩;exact h1;cases x with|tmp t=>exact absurd rfl (h2 t)|const v=>exact absurd rfl (h1 v)|func f=>simp[gi,ho]at hq|global g=>simp[gi,ho]at hq
 simp only[gi,ho]at hq;rw[aG (by simp[AW])]at h;unfold sD at h;have hx:iG ds st (st.take x).2:=by
  cases x with
  |tmp t=>
   have ht:t∈ds:=by simp only[ae]at hq;simpa using hq.1
   exact iG.put (d:=some t) (λi hi=>by cases hi;exact ht) _
  |const v=>exact iG.refl _ _
  |func f=>exact iG.refl _ _
  |global g=>exact iG.refl _ _
 split at h;split at h;exact tV _ h;cases h;rename_i v st1 _ qD;cases h;have:(st.take x).2=st1:=by rw[qD]
 rw[this]at hx;exact hx.trans (iG.put hd _);unfold B0 at h;split at h;rename_i t _;split at h;exact tV _ h;cases t with|true=>exact tV _ h|false=>exact tV _ h
 cases h;rename_i ho;simp[gi,ho]at hq;rename_i ho;simp[gi,ho]at hq;rename_i T p ho;simp only[gi,ho]at hq;have qD:Cl an o=false:=by unfold Cl;cases N8:o.dst with|none=>rfl|some d=>rw[N8]at hq;simp only[aL]at hq;simp only[hq,ez]
 unfold nI at h;split at h;split at h;split at h;split at h;rename_i d N8;rw[N8]at hq;simp only at hq;have hf:an.mv.contains d=false:=by simpa using hq
 rw[hf]at h;simp only[aU,bQ]at h;exact tV _ h;cases h;cases h;cases h;rw[aG (by simp[qD])]at h;split at h;split at h;exact tV _ h;cases h;unfold AB at h;split at h;split at h;split at h;split at h;obtain⟨y,_,h⟩:=IW h;exact tV _ h;cases h;cases h;cases h;cases h;cases h;rename_i ho;simp[gi,ho]at hq;split at h;exact tV _ h;exact tV _ h;cases h;unfold yi at h;split at h;split at h;exact GJ h λz hz=>tV _ hz;cases h;split at h;split at h;exact GJ h λz hz=>tV _ hz;cases h;cases h;split at h;split at h;cases h;exact Kb h λz hz=>tV _ hz;cases h;split at h;exact Kb h λz hz=>tV _ hz;cases h;exact GJ h λz hz=>tV _ hz;unfold unC at h;split at h;exact tV _ h;exact tV _ h;exact tV _ h;cases h;unfold xC at h;split at h;split at h;exact tV _ h;cases h;split at h;exact tV _ h;cases h;cases h;unfold lx at h;split at h;split at h;exact rR h λy hy=>tV _ hy;cases h;cases h;unfold yW at h;split at h;split at h;exact rR h λy hy=>tV _ hy;cases h;cases h;rename_i T parts ho;simp only[gi,ho]at hq;have he:parts=#[]:=by simpa using hq
 subst he;unfold yM at h;split at h;simp only[eK,List.map_nil]at h;split at h;exact tV _ h;cases h;cases h;rename_i ho;simp[gi,ho]at hq;rename_i ho;simp[gi,ho]at hq;rename_i ho;simp only[gi,ho,aL]at hq;unfold xX at h;rw[aG (by simp[hq])]at h;split at h;split at h;exact Fv h λx y hxy=>rR hxy λz hz=>tV _ hz;cases h;split at h;exact Fv h λx y hxy=>rR hxy λz hz=>tV _ hz;cases h;cases h;rename_i ho;simp[gi,ho]at hq;rename_i ho;simp[gi,ho]at hq;rename_i ho;simp[gi,ho]at hq;rename_i ho;simp[gi,ho]at hq;unfold J5 at h;split at h;split at h;exact tV _ h;cases h;split at h;exact tV _ h;cases h;cases h;unfold Lz at h;split at h;exact tV _ h;cases h;unfold Ly at h;split at h;exact tV _ h;cases h;rename_i ho;simp[gi,ho]at hq;unfold AP at h;split at h;rename_i k _;rw[(yd k).2.1,(yd k).2.2,(yd k).1]at h;simp only[af]at h;refine rR h λy hy=>?_;cases Ls:(Γ k).sel y with|true=>rw[Ls]at hy;cases hy;exact(iG.fg hd).trans (iG.put hd _)|false=>rw[Ls]at hy;cases hy;exact(iG.fg hd).trans (iG.put hd _)
 cases h;cases h
theorem Rf {ops:aw Oper}{o:Oper}(ho:o∈ops){i:Nat}(hi:o.dst=some i):i∈DN ops:=List.mem_filterMap.2 ⟨o,ho,hi⟩
theorem Kc {E:Env}(yd:∀f,(Γ f).io=false/\(Γ f).bx=false/\(Γ f).pr=false){ops:aw Oper}{o:Oper}{bI:AS}(ho:o∈ops)(hq:gi an (DN ops) o=true)(h:fZ E Γ an ops o st some=some bI):iG (DN ops) st bI:=by
 have hd:∀i,o.dst=some i->i∈DN ops:=λi hi=>Rf ho hi;unfold fZ at h;split at h;exact MN yd hq hd h;rename_i j Ei hg;split at h;rename_i d N8;have hdm:d∈DN ops:=by rw[dF]at N8;cases Ie:ops[j]? with|none=>rw[Ie]at N8;cases N8|some o'=>rw[Ie]at N8;exact Rf (bj Ie) N8
 have hp:∀t,iG (DN ops) st (st.put (some d) (.one (.bool t))):=λt=>iG.put (λi hi=>by cases hi;exact hdm) _;split at h;rename_i b hb;have main:∀t,(if(t==Ei)=true then cU E Γ an o (st.put (some d) (.one (.bool t))) some else some ((st.put (some d) (.one (.bool t))).put o.dst (.one .un)))=some bI->iG (DN ops) st bI:=by intro t ht;split at ht;exact(hp t).trans (MN yd hq hd ht);cases ht;exact(hp t).trans (iG.put hd _)
 cases b with|true=>exact main true h|false=>exact main false h
 cases h;exact iG.put hd _;cases h;cases h
theorem Rp {E:Env}(yd:∀f,(Γ f).io=false/\(Γ f).bx=false/\(Γ f).pr=false){ops:aw Oper}(hq:∀o∈ops,gi an (DN ops) o=true):∀(l:aw Oper)(st bI:AS),(∀o∈l,o∈ops)->OI E Γ an ops l st some=some bI->iG (DN ops) st bI
 |[],st,bI,_,h=>by cases h;exact iG.refl _ _
 |o::l,st,bI,hl,h=>by simp only[OI]at h;rw[oV]at h;cases hg:fZ E Γ an ops o st some with|none=>rw[hg]at h;cases h|some st1=>rw[hg]at h;exact(Kc yd (hl o (by simp)) (hq o (hl o (by simp))) hg).trans (Rp yd hq l st1 bI (λo' Ie=>hl o' (by simp[Ie])) h)
theorem DM:∀(l:ff)(st:AS),(∀i∈l,i∈ds)->iG ds st (st.yr l)
 |[],st,_=>iG.refl _ _
 |d::l,st,h=>by
  have hd:∀i,some d=some i->i∈ds:=λi hi=>by cases hi;exact h d (by simp)
  exact((iG.put hd _).trans (iG.fg hd)).trans (DM l _ (λi hi=>h i (by simp[hi])))
theorem L8:∀(l:ff)(st:AS)(i:Nat)(av:AV),(st.yr l).slots[i]?=some av->i∈l\/st.slots[i]?=some .bot->av=.bot
 |[],st,i,av,h,hi=>by rcases hi with hi|hi;cases hi;have:st.slots[i]?=some av:=h;rw[hi]at this;cases this;rfl
 |d::l,st,i,av,h,hi=>by
  refine L8 l _ i av h ?_;by_cases Lo:i∈l;exact .inl Lo;refine .inr ?_;rw[sq,fG,bm];have hG:i<st.slots.length:=by
   have h1:=(DM (ds:=d::l) l ((st.put (some d) .bot).fg (some d)) (λi hi=>by simp[hi])).len;have h2:=(aE.1 h).1;have h3:(AS.yr ((st.put (some d) .bot).fg (some d)) l).slots.length=st.slots.length:=by rw[h1,sq,fG,aB]
   have h4:i<(AS.yr ((st.put (some d) .bot).fg (some d)) l).slots.length:=h2;omega
  split;rename_i hdi;subst hdi;rw[aF hG];rename_i hdi;rcases hi with hi|hi;simp only[cg]at hi;rcases hi with hi|hi;exact absurd hi.symm hdi;exact absurd hi Lo;exact hi
theorem Ma:∀(l:ff)(st:AS)(i:Nat),i∈l\/(nth st.iss i).getD true=true->(nth (st.yr l).iss i).getD true=true
 |[],st,i,hi=>by rcases hi with hi|hi;cases hi;exact hi
 |d::l,st,i,hi=>by refine Ma l _ i ?_;by_cases Lo:i∈l;exact .inl Lo;refine .inr ?_;have he:(AS.fg (st.put (some d) .bot) (some d)).iss=gI st.iss d true:=rfl;rw[he,fb,dF,bm];split;split<;>rfl;rename_i hdi;rcases hi with hi|hi;simp only[cg]at hi;rcases hi with hi|hi;exact absurd hi.symm hdi;exact absurd hi Lo;rw[dF]at hi;exact hi
theorem mP.weaken {bI:AS}(h:mP C bI a w)(hn:iG ds st bI){s:Nat}{b:Bool}(hb:getBool bI s=some b):mP C ((st.yr ds).put (some s) (.one (.bool b))) a w:=by
 have Dc:bI.get s=.val false [.bool b]:=by unfold getBool at hb;split at hb;rename_i b' hg;cases hb;exact hg;cases hb
 have Zk:=h.known Dc;obtain⟨g,h⟩:=h;have hdn:=DM (ds:=ds) ds st (λ_ hi=>hi);have rO:((st.yr ds).put (some s) (.one (.bool b))).boxes=bI.boxes:=by rw[jV,hdn.boxes,hn.boxes]
 have vY:((st.yr ds).put (some s) (.one (.bool b))).ep=bI.ep:=by rw[Gi,hdn.ep,hn.ep]
 have hlen:((st.yr ds).put (some s) (.one (.bool b))).slots.length=bI.slots.length:=by rw[fG,aB,hdn.len,hn.len]
 have Ib:∀t,lJ bI t->lJ ((st.yr ds).put (some s) (.one (.bool b))) t:=by intro t ht;rw[Fl];rcases ht with ht|ht;exact .inl ht;refine .inr (Ma ds st _ ?_);by_cases hi:t/3/4096∈ds;exact .inl hi;exact .inr (by rw[<-hn.iss _ hi];exact ht)
 have sL:∀s',iQ bI s'->iQ ((st.yr ds).put (some s) (.one (.bool b))) s':=λs' hs=>by unfold iQ at hs⊢;rw[rO];exact hs
 have hle:(cH C g bI w).Le (cH C g ((st.yr ds).put (some s) (.one (.bool b))) w):=⟨rfl,λt ht=>⟨Ib t ht,rfl⟩,λ_ _ _ _ _ hv=>hv,by show bI.ep<=_;rw[<-vY];exact aS _,λs' hs=>⟨sL s' hs,rfl⟩,λ_ b o u ho hu=>⟨ho,hu⟩⟩
 refine⟨g,h.step (λ_=>True) hle h.defers (by rw[hlen];exact h.size) (by rw[rO,hlen];exact h.bsize) h.frame h.fQ (λb x _ hx=>⟨hx,rfl,rfl⟩) ?_ ?_ ?_ (.inl ⟨cr,by rw[Gw,hdn.io,hn.io]⟩)⟩;intro i av hi;rw[fG,bm]at hi;split at hi;rename_i hsi;subst hsi;split at hi;cases hi;refine .inr ⟨[],ly ?_,by simp,by simp⟩;exact⟨Zk,rfl⟩;cases hi;by_cases Qu:i∈ds;have:=L8 ds st i av hi (.inl Qu);subst this;exact .inr ⟨[],fP.bot _ _,by simp,by simp⟩;rw[hdn.slot i Qu]at hi;exact .inl ⟨cr,by rw[hn.slot i Qu];exact hi,rfl⟩;intro s' cs hs;rw[rO]at hs;exact .inl ⟨cr,hs,rfl⟩;intro k v av hk;simp at hk
theorem acQ (Γ:xl)(f:Nat):(Γ.calm f).io=false/\(Γ.calm f).bx=false/\(Γ.calm f).pr=false:=by unfold xl.calm;cases h:(Γ f).io with|true=>exact⟨rfl,rfl,rfl⟩|false=>cases h2:(Γ f).bx with|true=>exact⟨rfl,rfl,rfl⟩|false=>cases h3:(Γ f).pr with|true=>exact⟨rfl,rfl,rfl⟩|false=>exact⟨h,h2,h3⟩
theorem adX (Γ:xl)(f:Nat):(Γ.Ee f).io=false/\((Γ.Ee f).bx=true->(Γ.Ee f).cur=true)/\(Γ.Ee f).pr=false:=by unfold xl.Ee;cases h:(Γ f).io with|true=>exact⟨rfl,λh=>(by cases h),rfl⟩|false=>cases h3:(Γ f).pr with|true=>exact⟨rfl,λh=>(by cases h),rfl⟩|false=>cases h2:(Γ f).bx with|false=>exact⟨h,λh=>(by simp[h2]at h),h3⟩|true=>cases h4:(Γ f).cur with|true=>exact⟨h,λ_=>h4,h3⟩|false=>exact⟨rfl,λh=>(by cases h),rfl⟩
theorem adY (yd:∀f,(Γ f).io=false/\(Γ f).bx=false/\(Γ f).pr=false)(f:Nat):(Γ.Ee f).io=false/\(Γ.Ee f).bx=false/\(Γ.Ee f).pr=false:=by have h:=yd f;unfold xl.Ee;rw[h.1,h.2.1,h.2.2];exact h
theorem Sound.Ee {E:Env}(h:Sound P E Γ):Sound P E Γ.Ee:=by refine⟨h.ty,h.eqs,h.fts,λf=>?_,h.mixed⟩;unfold xl.Ee;cases (Γ f).io||(Γ f).pr||((Γ f).bx&& !(Γ f).cur)with|true=>intro xs y hy;cases hy|false=>exact h.fns f
theorem Sound.calm {E:Env}(h:Sound P E Γ):Sound P E Γ.calm:=by refine⟨h.ty,h.eqs,h.fts,λf=>?_,h.mixed⟩;unfold xl.calm;cases (Γ f).io with|true=>intro xs y hy;cases hy|false=>cases (Γ f).bx with|true=>intro xs y hy;cases hy|false=>cases (Γ f).pr with|true=>intro xs y hy;cases hy|false=>exact h.fns f
end Go.Dn
