import Derived.Test.YtbebkmajekhclaaGreatDnDen
import Derived.Test.YtbebkmajekhclaaGreatDnNat
/- What is kept at a loop's door; what a region whose ways meet again leaves. -/
namespace Go.Dn
open Go.RowKit
variable {P:Program} {C:Ctx} {st:AS} {a:Act} {w:World} {R:Type} {r:R}
variable {an:An} {Γ:BA} {v:Value} {io:aw AC} {d:ay Nat} {ds keep:fE}
theorem HL (keep:fE)(ep:Nat)(io:aw AC):∀(l:aw AV)(n i:Nat),(oB keep ep io n l)[i]?=(l[i]?).map λv=>if keep.contains (n+i) then v.mask keep ep io (n+i) else .bot
 |[],n,i=>by simp[oB]
 |v::l,n,0=>by simp[oB]
 |v::l,n,i+1=>by simp only[oB,fD];rw[HL keep ep io l (n+1) i,show n+1+i=n+(i+1) by omega]
theorem Dl (keep:fE)(ep:Nat)(io:aw AC):∀(l:aw (ay (aw AC)))(n i:Nat),(oA keep ep io n l)[i]?=(l[i]?).map λb=>if keep.contains (n+i) then b.map (Lp keep ep io (.box (n+i)) 0) else none
 |[],n,i=>by simp[oA]
 |v::l,n,0=>by simp[oA]
 |v::l,n,i+1=>by simp only[oA,fD];rw[Dl keep ep io l (n+1) i,show n+1+i=n+(i+1) by omega]
theorem xX (keep:fE)(ep:Nat)(io:aw AC):∀(l:aw AV)(n:Nat),(oB keep ep io n l).length=l.length
 |[],_=>rfl
 |_::l,n=>by simp[oB,xX keep ep io l]
theorem DV (keep:fE)(ep:Nat)(io:aw AC):∀(l:aw (ay (aw AC)))(n:Nat),(oA keep ep io n l).length=l.length
 |[],_=>rfl
 |_::l,n=>by simp[oA,DV keep ep io l]
def aac:Value->AV->jd
 | .agg vs,.val true _=>vs.toList
 |v,_=>[v]
theorem aah {g:Bool}{vs:jd}{cs:aw AC}(h:Cut g v vs):aac v (.val g cs)=vs:=by cases g with|true=>simp only[Cut,cg]at h;subst h;simp[aac]|false=>simp only[Cut]at h;subst h;cases v<;>rfl
def Ei (ioV:jd)(st:AS)(a:Act)(w:World)(β:Nat->Nat)(t:Nat):Value:=
 if t%3=0/\t/3/4096=1000003 then(ioV[t/3%4096]?).getD undef
 else if t%3=0 then((aac (a.tmps.getD (t/3/4096) undef) (st.get (t/3/4096)))[t/3%4096]?).getD undef
 else match w.heap[β (t/3/4096)]? with
  |some (.cells arr _ _)=>(arr.toList[t/3%4096]?).getD undef
  |_=>undef
def ZM (c c':RC)(io:aw AC):Prop:=∀j n (e:CT)(ys:aw e.D),AC.ai4 io j n e=some ys->∃v0 fp0,fQ c.hw c.w (.sl e) [v0] ys fp0/\v0=c.hdr n/\∀q,(lh.io j).Gt=some q->c'.iss q/\v0=c'.hdr q
theorem afH {c c':RC}(Q0:ZM c c' io){rt:lh}{x:AC}{fp:fE}(h:iq c v x fp)(GW:c'.hw=c.hw)(hw:c'.w=c.w)(hA:c'.A=c.A)(Ac:c'.ep=0)(K5:c'.β=c.β)(wq:∀s,keep.contains s=true->c.Kb s->c'.Kb s)(nA:∀t,rt.Gt=some t->c'.iss t/\v=c'.hdr t):iq c' v (x.mask keep c.ep io rt) fp:=by
 have hS:c'.S=c.S:=by funext b o;simp[RC.S,GW,hA]
 cases x with
 |int k n=>exact h
 |bool b=>exact h
 |str s=>exact h
 |kh=>exact h
 |fn f=>exact h
 |un=>exact h
 |bot=>exact h
 |ptr s off=>simp only[AC.mask];split;rename_i hk;exact⟨by rw[K5];exact h.1,wq s hk h.2.1,h.2.2⟩;exact h.2.2
 |Dc fl e y i off=>cases fl with|own t=>exact h.elim|nest _ _ _ _ _ _=>exact h.elim|part _ _ _ _=>exact h.elim|fR _ _ _=>exact h.elim|arg _=>exact h.1|loc ep pv=>exact h.1
 |sl fl e xs=>
  cases fl with
  |own t=>exact⟨fQ.mono h.1 (λb _=>⟨by rw[hw],by rw[GW]⟩),nA⟩
  |nest _ _ _ _ _ _=>exact h.1
  |part _ _ _ _=>exact h.1
  |fR _ _ _=>obtain⟨_,⟨k,hk,h3⟩,_⟩:=h;exact⟨λq hq=>(by cases hq),⟨k,hk,h3.mono (λb hb=>⟨by rw[hw],by rw[GW]⟩)⟩,by simp⟩
  |arg _=>exact⟨h.1,by rw[hA,hw];exact h.2⟩
  |loc ep pv=>
   obtain⟨h1,h2,h3,h4,h5⟩:=h;have plain:iq c' v (if(ep==c.ep)=true then AC.sl (.loc 0 none) e xs else .bot) fp:=by split;rename_i he;refine⟨h1,by rw[Ac];exact bh _,h3,λ_=>?_,by simp⟩;rw[hS,hw];exact h4 (by simpa using he);exact h1
   simp only[AC.mask];split;rename_i j n;split;rename_i ys FW;obtain⟨v0,fp0,ik,O5,hq⟩:=Q0 j n e ys FW;obtain⟨_,k2⟩:=h5 _ _ rfl;have hv:v0=v:=O5.trans k2.symm;subst hv;refine⟨h1,by rw[Ac];exact bh _,PG ik,λ_=>?_,λr t hp=>?_⟩;rw[hS,hw];exact fQ.rep (λb o ho=> .inr ho) ik;cases xE:(lh.io j).Gt with|none=>rw[xE]at hp;cases hp|some q=>rw[xE]at hp;simp at hp;obtain⟨_,rfl⟩:=hp;exact⟨(hq q xE).1,(hq q xE).2⟩
   exact plain;exact plain
theorem Iy {c c':RC}(Q0:ZM c c' io){f:Nat->lh}(GW:c'.hw=c.hw)(hw:c'.w=c.w)(hA:c'.A=c.A)(Ac:c'.ep=0)(K5:c'.β=c.β)
 (wq:∀s,keep.contains s=true->c.Kb s->c'.Kb s):∀{vs:jd}{xs:aw AC}{fp:fE}(j:Nat),bO c vs xs fp->
  (∀i v,vs[i]?=some v->∀t,(f (j+i)).Gt=some t->c'.iss t/\v=c'.hdr t)->bO c' vs (Lp keep c.ep io f j xs) fp
 |[],[],_,_,h,_=>h
 |v::_,_::_,_,j,h,hm=>by obtain⟨f1,f2,rfl,h1,h2⟩:=h;exact⟨f1,f2,rfl,afH Q0 h1 GW hw hA Ac K5 wq (λt ht=>hm 0 v rfl t ht),Iy Q0 GW hw hA Ac K5 wq (j+1) h2 (λi u hu t ht=>hm (i+1) u (by simpa using hu) t (by rwa[show j+(i+1)=j+1+i by omega]))⟩
 |[],_::_,_,_,h,_=>h.elim
 |_::_,[],_,_,h,_=>h.elim
theorem ajn {c:RC}{x:AC}{fp:fE}(h:iq c v x fp)(GY:∀(tag:ay Nat)(e:CT)(xs:aw e.D),x=.sl (.own tag) e xs->False)(an9:∀(tag:ay Nat)(i:Int)(ep:ay Nat)(e:CT)(xs:aw e.D),x=.sl (.fR tag i ep) e xs->False):fp=[]:=by
 cases x with
 |int k n=>exact h.2
 |bool b=>exact h.2
 |str s=>exact h.2
 |kh=>exact h.2
 |fn f=>exact h.2
 |un=>exact h.2
 |bot=>exact h
 |ptr s off=>exact h.2.2
 |Dc fl e y i off=>cases fl with|own t=>exact h.elim|nest _ _ _ _ _ _=>exact h.elim|part _ _ _ _=>exact h.elim|fR _ _ _=>exact h.elim|arg _=>exact h.1|loc ep pv=>exact h.1
 |sl fl e xs=>cases fl with|own t=>exact(GY _ _ _ rfl).elim|nest _ _ _ _ _ _=>exact h.1|part _ _ _ _=>exact h.1|fR _ _ _=>exact(an9 _ _ _ _ _ rfl).elim|arg _=>exact h.1|loc ep pv=>exact h.1
theorem pc.mask (h:pc C st a w)(keep:fE):pc C (st.mask keep) a w:=by
 obtain⟨g,h⟩:=h;let g':Gh:={g with hdr:=Ei C.ioV st a w g.β}
 have wq:∀s,keep.contains s=true->jF st s->jF (st.mask keep) s:=by rintro s hk ⟨cs,hs⟩;refine⟨Lp keep st.ep st.io (.box s) 0 cs,?_⟩;show(oA keep st.ep st.io 0 st.boxes)[s]?=_;rw[Dl,hs];simp only[dE,cx,aH hk]
 obtain⟨fpi,hri,hni,hli⟩:=h.io;have aqg:∀j v,C.ioV[j]?=some v->∀q,(lh.io j).Gt=some q->nD (st.mask keep) q/\v=Ei C.ioV st a w g.β q:=by
  intro j v hv q hq;simp only[lh.Gt]at hq;cases hb:Nat.ble 4096 j with
  |true=>rw[hb]at hq;cases hq
  |false=>
   rw[hb]at hq;simp only[af,bp,adA]at hq;have hj:j<4096:=by rcases cn j 4096 with gF|BQ;exact gF;rw[iv BQ]at hb;cases hb
   have h0:q%3=0:=by omega
   have h1:q/3/4096=1000003:=by omega
   have h2:q/3%4096=j:=by omega
   refine⟨.inl (by omega),?_⟩;rw[Ei,aH ⟨h0,h1⟩,h2,hv];rfl
 have amO:ZM (db C g st w) (db C g' (st.mask keep) w) st.io:=by
  intro j n e ys FW;unfold AC.ai4 at FW;split at FW;rename_i t' e' ys' hj;split at FW;rename_i he;subst he;cases ht:(t'==n)with
  |false=>rw[ht]at FW;cases FW
  |true=>
   rw[ht]at FW;have:t'=n:=by simpa using ht
   subst this;cases FW;rw[ej]at hj;obtain⟨v,f,hv,hr,_⟩:=hri.get j _ hj;exact⟨v,f,hr.1,(hr.2 t' rfl).2,λq hq=>aqg j v hv q hq⟩
  cases FW;cases FW
 have avv:∀(j:Nat){vs:jd}{xs:aw AC}{fp:fE},bO (db C g st w) vs xs fp->(∀i v,vs[i]?=some v->C.ioV[j+i]?=some v)->bO (db C g' (st.mask keep) w) vs (abR keep j xs) fp:=by
  intro j vs
  induction vs generalizing j with
  |nil=>intro xs fp hr _;cases xs with
   |nil=>exact hr
   |cons _ _=>exact hr.elim
  |cons v vs ih=>
   intro xs fp hr hv
   cases xs with
   |nil=>exact hr.elim
   |cons x xs=>
    obtain⟨f1,f2,rfl,r1,r2⟩:=hr
    refine⟨f1,f2,rfl,?_,ih (j+1) r2 (λi u hu=>by rw[show j+1+i=j+(i+1) by omega];exact hv (i+1) u (by simpa using hu))⟩
    have O5:=hv 0 v rfl
    rw[eG]at O5
    split
    ·rename_i tg e ys
     exact⟨r1.1,λq hq=>aqg j v O5 q hq⟩
    ·rename_i tag i ep e ys
     obtain⟨_,⟨k,hk,h3⟩,_⟩:=r1
     exact⟨λq hq=>(by cases hq),⟨k,hk,h3⟩,by simp⟩
    ·rename_i s off
     split
     ·rename_i hk
      exact⟨r1.1,wq s hk r1.2.1,r1.2.2⟩
     ·exact r1.2.2
    ·rename_i GY an9 _
     cases hfl:x.jU with
     |true=>
      obtain⟨rfl,k⟩:=sA (c':=db C g' (st.mask keep) w) r1 hfl
      exact k
     |false=>exact ajn r1 GY an9
 refine⟨g',h.defers,?_,?_,λi av hi=>?_,λs cs hs=>?_,λk v av hk=>by simp at hk,h.gL,h.frame,⟨fpi,avv 0 hri (λi v hv=>by rw[cx];exact hv),hni,hli⟩⟩;show _=(oB keep st.ep st.io 0 st.slots).length;rw[xX];exact h.size;show(oA keep st.ep st.io 0 st.boxes).length=(oB keep st.ep st.io 0 st.slots).length;rw[xX,DV];exact h.bsize;have uL:(oB keep st.ep st.io 0 st.slots)[i]?=some av:=hi;rw[HL,cx]at uL;cases hv:st.slots[i]? with
 |none=>rw[hv]at uL;cases uL
 |some x=>
  rw[hv]at uL;simp only[dE,bp]at uL;split at uL
  ·subst uL
   cases hx:x with
   |xC ts=>exact⟨[],gK.bot _ _,by simp,by simp⟩
   |val gg cs=>
    rw[hx]at hv
    obtain⟨fp,⟨vs,fS,hr⟩,hn,hl⟩:=h.slots i _ hv
    refine⟨fp,⟨vs,fS,Iy (io:=st.io) amO (c:=db C g st w) (c':=db C g' (st.mask keep) w) rfl rfl rfl rfl rfl wq 0 hr ?_⟩,hn,hl⟩
    intro j u hu t ht
    simp only[cx,lh.Gt]at ht
    cases hb:Nat.ble 4096 j with
    |true=>rw[hb]at ht;cases ht
    |false=>
     rw[hb]at ht
     simp only[af]at ht
     cases GV:Nat.ble 1000000 i with
     |true=>rw[GV]at ht;cases ht
     |false=>
     rw[GV]at ht
     simp only[af,bp]at ht
     have hi6:i<1000000:=by rcases cn i 1000000 with gF|BQ;exact gF;rw[iv BQ]at GV;cases GV
     have hj:j<4096:=by rcases cn j 4096 with gF|BQ;exact gF;rw[iv BQ]at hb;cases hb
     have h0:t%3=0:=by omega
     have h1:t/3/4096=i:=by omega
     have h2:t/3%4096=j:=by omega
     refine⟨.inl (by omega),?_⟩
     show u=Ei C.ioV st a w g.β t
     rw[Ei,nX,aH h0,h1,h2,get_eq hv,aah fS,hu];rfl
  subst uL;exact⟨[],gK.bot _ _,by simp,by simp⟩
 have xJ:(oA keep st.ep st.io 0 st.boxes)[s]?=some (some cs):=hs;rw[Dl,cx]at xJ;cases hv:st.boxes[s]? with
 |none=>rw[hv]at xJ;cases xJ
 |some x=>
  rw[hv]at xJ;simp only[dE,bp]at xJ;split at xJ;cases hx:x with
  |none=>rw[hx]at xJ;cases xJ
  |some xs=>
   rw[hx]at xJ hv;simp only[dE,bp]at xJ;subst xJ;obtain⟨arr,T,fr,fp,hb,tN,hr,hn,hni,hl,IV,IY⟩:=h.boxes s xs hv;refine⟨arr,T,fr,fp,hb,tN,Iy (io:=st.io) amO (c:=db C g st w) (c':=db C g' (st.mask keep) w) rfl rfl rfl rfl rfl wq 0 hr ?_,hn,hni,hl,IV,IY⟩;intro j u hu t ht;simp only[cx,lh.Gt]at ht;cases hbb:Nat.ble 4096 j with
   |true=>rw[hbb]at ht;cases ht
   |false=>
    rw[hbb]at ht;simp only[af,bp]at ht;have hj:j<4096:=by rcases cn j 4096 with gF|BQ;exact gF;rw[iv BQ]at hbb;cases hbb
    have h0:¬t%3=0:=by omega
    have h1:t/3/4096=s:=by omega
    have h2:t/3%4096=j:=by omega
    refine⟨.inl (by omega),?_⟩;show u=Ei C.ioV st a w g.β t;rw[Ei,nX,aG h0,h1,h2,hb];simp only;rw[hu];rfl
  cases xJ
structure js (ds:List Nat) (st bU:AS):Prop where
 len:bU.slots.length=st.slots.length
 slot:∀i,i∉ds->bU.slots[i]?=st.slots[i]?
 boxes:bU.boxes=st.boxes
 ep:bU.ep=st.ep
 iss:∀i,i∉ds->nth bU.iss i=nth st.iss i
 aqD:bU.iss.length=st.iss.length
 io:bU.io=st.io
theorem js.refl (ds:fE)(st:AS):js ds st st:=⟨rfl,λ_ _=>rfl,rfl,rfl,λ_ _=>rfl,rfl,rfl⟩
theorem js.trans {st st1 st2:AS}(h:js ds st st1)(k:js ds st1 st2):js ds st st2:=⟨k.len.trans h.len,λi hi=>(k.slot i hi).trans (h.slot i hi),k.boxes.trans h.boxes,k.ep.trans h.ep,λi hi=>(k.iss i hi).trans (h.iss i hi),k.aqD.trans h.aqD,k.io.trans h.io⟩
theorem js.put {st:AS}(hd:∀i,d=some i->i∈ds)(v:AV):js ds st (st.put d v):=by cases d with|none=>exact js.refl _ _|some d=>refine⟨by rw[gw,aB],λi hi=>?_,ll,KW,λi _=>by rw[UU],by rw[UU],Lh⟩;rw[gw,aP];rintro rfl;exact hi (hd _ rfl)
theorem js.fX {st:AS}(hd:∀i,d=some i->i∈ds):js ds st (st.fX d):=by cases d with|none=>exact js.refl _ _|some d=>refine⟨rfl,λi _=>rfl,rfl,rfl,λi hi=>?_,?_,rfl⟩;simp only[AS.fX,ej,fV];rw[aP];rintro rfl;exact hi (hd _ rfl);simp only[AS.fX,fV,aB]
theorem vD {α:Type}{o:ay α}{k:α->ay AS}{bU:AS}(h:aa o k=some bU)(hk:∀x,k x=some bU->js ds st bU):js ds st bU:=by cases o with|none=>cases h|some x=>exact hk x h
theorem afU {n:Nat}{k:ay AS}{bU:AS}(h:room n k=some bU)(hk:k=some bU->js ds st bU):js ds st bU:=by unfold room at h;split at h;exact hk h;cases h
theorem ab0 {op:BinOp}{k:IntKind}{x y:Int}{K:AC->ay AS}{bU:AS}(h:JT op k x y K=some bU)(hk:∀z,K z=some bU->js ds st bU):js ds st bU:=by
 unfold JT at h
 split at h<;>first
  |exact hk _ h
  |(split at h
    ·cases h
    ·exact hk _ h)
  |cases h
theorem ab1 {op:BinOp}{x y:aw UInt8}{K:AC->ay AS}{bU:AS}(h:MK op x y K=some bU)(hk:∀z,K z=some bU->js ds st bU):js ds st bU:=by
 unfold MK at h
 split at h<;>first
  |exact afU h (hk _)
  |exact hk _ h
  |cases h
theorem Lu {op:BinOp}{x y:AV}{K:AC->ay AS}{bU:AS}(h:Hm op x y K=some bU)(hk:∀z,K z=some bU->js ds st bU):js ds st bU:=by unfold Hm at h;split at h;split at h;split at h;cases h;exact hk _ h;split at h;cases h;exact hk _ h;split at h;exact ab0 h hk;cases h;exact ab1 h hk;split at h;exact hk _ h;exact hk _ h;cases h;split at h;exact vD h λb hb=>hk _ hb;exact vD h λb hb=>hk _ hb;cases h;cases h
theorem J4 {lo hi:ay Operand}{n:Nat}{K:Int->Int->ay AS}{st0 bU:AS}(h:nE st0 lo hi n K=some bU)(hk:∀x y,K x y=some bU->js ds st bU):js ds st bU:=by
 unfold nE at h
 split at h<;>first
  |exact hk _ _ h
  |cases h
theorem PA {op:BinOp}{b:Bool}{K:AC->ay AS}{bU:AS}(h:E5 op b K=some bU)(hk:∀c,K c=some bU->js ds st bU):js ds st bU:=by unfold E5 at h;split at h;exact hk _ h;exact hk _ h;cases h
theorem SE {E:Env}(Cq:∀f,(Γ f).io=false/\(Γ f).bx=false/\(Γ f).pr=false){o:Oper}{bU:AS}(hq:hH an ds o=true)(hd:∀i,o.dst=some i->i∈ds)(h:cW E Γ an o st some=some bU):js ds st bU:=by
 have xD:∀v,some (st.put o.dst v)=some bU->js ds st bU:=λv hv=>by cases hv;exact js.put hd v
 unfold cW at h;split at h;rename_i x ho;simp only[hH,ho]at hq;unfold DW at h;cases Ut:o.dst with
 |none=>rw[Ut]at h;cases h
 |some d=>
  rw[Ut]at h hq;simp only at h hq;have hf:an.mv.contains d=false:=by simpa using hq
  rw[hf]at h;simp only[bm,cv]at h;cases h;exact js.put (λi hi=>hd i (by rw[Ut];exact hi)) _
 rename_i x ho;have E8:BW an o=false\/∃y,x=y/\(∀v,y≠ .const v)/\(∀t,y≠ .tmp t):=by cases x with|tmp t=>left;simp only[hH,ho,ae,aK]at hq;exact hq.2|const v=>left;simpa only[hH,ho,aK]using hq|func f=>simp[hH,ho]at hq|global g=>simp[hH,ho]at hq
 have E8:BW an o=false:=by rcases E8 with h1|⟨y,rfl,h1,h2⟩;exact h1;cases x with|tmp t=>exact absurd rfl (h2 t)|const v=>exact absurd rfl (h1 v)|func f=>simp[hH,ho]at hq|global g=>simp[hH,ho]at hq
 simp only[hH,ho]at hq;rw[aG (by simp[E8])]at h;unfold wb at h;have hx:js ds st (st.take x).2:=by
  cases x with
  |tmp t=>
   have ht:t∈ds:=by simp only[ae]at hq;simpa using hq.1
   exact js.put (d:=some t) (λi hi=>by cases hi;exact ht) _
  |const v=>exact js.refl _ _
  |func f=>exact js.refl _ _
  |global g=>exact js.refl _ _
 split at h;split at h;exact xD _ h;cases h;rename_i v st1 _ ue;cases h;have:(st.take x).2=st1:=by rw[ue]
 rw[this]at hx;exact hx.trans (js.put hd _);unfold Ga at h;split at h;rename_i t _;split at h;exact xD _ h;cases t with|true=>exact xD _ h|false=>exact xD _ h
 cases h;rename_i ho;simp[hH,ho]at hq;rename_i ho;simp[hH,ho]at hq;rename_i T p ho;simp only[hH,ho]at hq;have ue:Gy an o=false:=by unfold Gy;cases Ut:o.dst with|none=>rfl|some d=>rw[Ut]at hq;simp only[aK]at hq;simp only[hq,dQ]
 unfold qj at h;split at h;split at h;split at h;split at h;rename_i d Ut;rw[Ut]at hq;simp only at hq;have hf:an.mv.contains d=false:=by simpa using hq
 rw[hf]at h;simp only[bm,cv]at h;exact xD _ h;cases h;cases h;cases h;rw[aG (by simp[ue])]at h;split at h;split at h;exact xD _ h;cases h;unfold EJ at h;split at h;split at h;split at h;split at h;obtain⟨y,_,h⟩:=N4 h;exact xD _ h;cases h;cases h;cases h;cases h;cases h;rename_i ho;simp[hH,ho]at hq;split at h;exact xD _ h;exact xD _ h;cases h;unfold Cz at h;split at h;split at h;exact Lu h λz hz=>xD _ hz;cases h;split at h;split at h;exact Lu h λz hz=>xD _ hz;cases h;cases h;split at h;split at h;cases h;exact PA h λz hz=>xD _ hz;cases h;split at h;exact PA h λz hz=>xD _ hz;cases h;exact Lu h λz hz=>xD _ hz;unfold unC at h;split at h;exact xD _ h;exact xD _ h;exact xD _ h;cases h;unfold BJ at h;split at h;split at h;exact xD _ h;cases h;split at h;exact xD _ h;cases h;cases h;unfold np at h;split at h;split at h;exact vD h λy hy=>xD _ hy;cases h;cases h;unfold Dk at h;split at h;split at h;exact vD h λy hy=>xD _ hy;cases h;cases h;rename_i T parts ho;simp only[hH,ho]at hq;have he:parts=#[]:=by simpa using hq
 subst he;unfold C9 at h;split at h;simp only[fI,List.map_nil]at h;split at h;exact xD _ h;cases h;cases h;rename_i ho;simp[hH,ho]at hq;rename_i ho;simp[hH,ho]at hq;rename_i ho;simp only[hH,ho,aK]at hq;unfold Ce at h;rw[aG (by simp[hq])]at h;split at h;split at h;exact J4 h λx y hxy=>vD hxy λz hz=>xD _ hz;cases h;split at h;exact J4 h λx y hxy=>vD hxy λz hz=>xD _ hz;cases h;cases h;rename_i ho;simp[hH,ho]at hq;rename_i ho;simp[hH,ho]at hq;rename_i ho;simp[hH,ho]at hq;rename_i ho;simp[hH,ho]at hq;unfold Pt at h;split at h;split at h;exact xD _ h;cases h;split at h;exact xD _ h;cases h;cases h;unfold Ra at h;split at h;exact xD _ h;cases h;unfold Q9 at h;split at h;exact xD _ h;cases h;rename_i ho;simp[hH,ho]at hq;unfold E4 at h;split at h;rename_i k _;rw[(Cq k).2.1,(Cq k).2.2,(Cq k).1]at h;simp only[af]at h;refine vD h λy hy=>?_;cases Q3:(Γ k).sel y with|true=>rw[Q3]at hy;cases hy;exact(js.fX hd).trans (js.put hd _)|false=>rw[Q3]at hy;cases hy;exact(js.fX hd).trans (js.put hd _)
 cases h;cases h
theorem X8 {ops:aw Oper}{o:Oper}(ho:o∈ops){i:Nat}(hi:o.dst=some i):i∈Ib ops:=List.mem_filterMap.2 ⟨o,ho,hi⟩
theorem PB {E:Env}(Cq:∀f,(Γ f).io=false/\(Γ f).bx=false/\(Γ f).pr=false){ops:aw Oper}{o:Oper}{bU:AS}(ho:o∈ops)(hq:hH an (Ib ops) o=true)(h:gX E Γ an ops o st some=some bU):js (Ib ops) st bU:=by
 have hd:∀i,o.dst=some i->i∈Ib ops:=λi hi=>X8 ho hi;unfold gX at h;split at h;exact SE Cq hq hd h;rename_i j IM hg;split at h;rename_i d Ut;have hdm:d∈Ib ops:=by rw[ej]at Ut;cases Ni:ops[j]? with|none=>rw[Ni]at Ut;cases Ut|some o'=>rw[Ni]at Ut;exact X8 (aW Ni) Ut
 have hp:∀t,js (Ib ops) st (st.put (some d) (.one (.bool t))):=λt=>js.put (λi hi=>by cases hi;exact hdm) _;split at h;rename_i b hb;have main:∀t,(if(t==IM)=true then cW E Γ an o (st.put (some d) (.one (.bool t))) some else some ((st.put (some d) (.one (.bool t))).put o.dst (.one .un)))=some bU->js (Ib ops) st bU:=by intro t ht;split at ht;exact(hp t).trans (SE Cq hq hd ht);cases ht;exact(hp t).trans (js.put hd _)
 cases b with|true=>exact main true h|false=>exact main false h
 cases h;exact js.put hd _;cases h;cases h
theorem Yh {E:Env}(Cq:∀f,(Γ f).io=false/\(Γ f).bx=false/\(Γ f).pr=false){ops:aw Oper}(hq:∀o∈ops,hH an (Ib ops) o=true):∀(l:aw Oper)(st bU:AS),(∀o∈l,o∈ops)->U6 E Γ an ops l st some=some bU->js (Ib ops) st bU
 |[],st,bU,_,h=>by cases h;exact js.refl _ _
 |o::l,st,bU,hl,h=>by simp only[U6]at h;rw[rO]at h;cases hg:gX E Γ an ops o st some with|none=>rw[hg]at h;cases h|some st1=>rw[hg]at h;exact(PB Cq (hl o (by simp)) (hq o (hl o (by simp))) hg).trans (Yh Cq hq l st1 bU (λo' Ni=>hl o' (by simp[Ni])) h)
theorem Ia:∀(l:fE)(st:AS),(∀i∈l,i∈ds)->js ds st (st.CL l)
 |[],st,_=>js.refl _ _
 |d::l,st,h=>by
  have hd:∀i,some d=some i->i∈ds:=λi hi=>by cases hi;exact h d (by simp)
  exact((js.put hd _).trans (js.fX hd)).trans (Ia l _ (λi hi=>h i (by simp[hi])))
theorem RK:∀(l:fE)(st:AS)(i:Nat)(av:AV),(st.CL l).slots[i]?=some av->i∈l\/st.slots[i]?=some .bot->av=.bot
 |[],st,i,av,h,hi=>by rcases hi with hi|hi;cases hi;have:st.slots[i]?=some av:=h;rw[hi]at this;cases this;rfl
 |d::l,st,i,av,h,hi=>by
  refine RK l _ i av h ?_;by_cases NJ:i∈l;exact .inl NJ;refine .inr ?_;rw[vW,gw,bG];have gF:i<st.slots.length:=by
   have h1:=(Ia (ds:=d::l) l ((st.put (some d) .bot).fX (some d)) (λi hi=>by simp[hi])).len;have h2:=(aC.1 h).1;have h3:(AS.CL ((st.put (some d) .bot).fX (some d)) l).slots.length=st.slots.length:=by rw[h1,vW,gw,aB]
   have h4:i<(AS.CL ((st.put (some d) .bot).fX (some d)) l).slots.length:=h2;omega
  split;rename_i hdi;subst hdi;rw[aH gF];rename_i hdi;rcases hi with hi|hi;simp only[bM]at hi;rcases hi with hi|hi;exact absurd hi.symm hdi;exact absurd hi NJ;exact hi
theorem RL:∀(l:fE)(st:AS)(i:Nat),i∈l\/(nth st.iss i).getD true=true->(nth (st.CL l).iss i).getD true=true
 |[],st,i,hi=>by rcases hi with hi|hi;cases hi;exact hi
 |d::l,st,i,hi=>by refine RL l _ i ?_;by_cases NJ:i∈l;exact .inl NJ;refine .inr ?_;have he:(AS.fX (st.put (some d) .bot) (some d)).iss=iG st.iss d true:=rfl;rw[he,fV,ej,bG];split;split<;>rfl;rename_i hdi;rcases hi with hi|hi;simp only[bM]at hi;rcases hi with hi|hi;exact absurd hi.symm hdi;exact absurd hi NJ;rw[ej]at hi;exact hi
theorem pc.weaken {bU:AS}(h:pc C bU a w)(hn:js ds st bU){s:Nat}{b:Bool}(hb:getBool bU s=some b):pc C ((st.CL ds).put (some s) (.one (.bool b))) a w:=by
 have GV:bU.get s=.val false [.bool b]:=by unfold getBool at hb;split at hb;rename_i b' hg;cases hb;exact hg;cases hb
 have hkn:=h.known GV;obtain⟨g,h⟩:=h;have hdn:=Ia (ds:=ds) ds st (λ_ hi=>hi);have vA:((st.CL ds).put (some s) (.one (.bool b))).boxes=bU.boxes:=by rw[ll,hdn.boxes,hn.boxes]
 have Ac:((st.CL ds).put (some s) (.one (.bool b))).ep=bU.ep:=by rw[KW,hdn.ep,hn.ep]
 have hlen:((st.CL ds).put (some s) (.one (.bool b))).slots.length=bU.slots.length:=by rw[gw,aB,hdn.len,hn.len]
 have Ng:∀t,nD bU t->nD ((st.CL ds).put (some s) (.one (.bool b))) t:=by intro t ht;rw[JW];rcases ht with ht|ht;exact .inl ht;refine .inr (RL ds st _ ?_);by_cases hi:t/3/4096∈ds;exact .inl hi;exact .inr (by rw[<-hn.iss _ hi];exact ht)
 have wq:∀s',jF bU s'->jF ((st.CL ds).put (some s) (.one (.bool b))) s':=λs' hs=>by unfold jF at hs⊢;rw[vA];exact hs
 have hle:(db C g bU w).Le (db C g ((st.CL ds).put (some s) (.one (.bool b))) w):=⟨rfl,λt ht=>⟨Ng t ht,rfl⟩,λ_ _ _ _ _ hv=>hv,by show bU.ep<=_;rw[<-Ac];exact bh _,λs' hs=>⟨wq s' hs,rfl⟩,λ_ b o u ho hu=>⟨ho,hu⟩⟩
 refine⟨g,h.step (λ_=>True) hle h.defers (by rw[hlen];exact h.size) (by rw[vA,hlen];exact h.bsize) h.frame h.gL (λb x _ hx=>⟨hx,rfl,rfl⟩) ?_ ?_ ?_ (.inl ⟨cy,by rw[Lh,hdn.io,hn.io]⟩)⟩;intro i av hi;rw[gw,bG]at hi;split at hi;rename_i hsi;subst hsi;split at hi;cases hi;refine .inr ⟨[],nq ?_,by simp,by simp⟩;exact⟨hkn,rfl⟩;cases hi;by_cases W9:i∈ds;have:=RK ds st i av hi (.inl W9);subst this;exact .inr ⟨[],gK.bot _ _,by simp,by simp⟩;rw[hdn.slot i W9]at hi;exact .inl ⟨cy,by rw[hn.slot i W9];exact hi,rfl⟩;intro s' cs hs;rw[vA]at hs;exact .inl ⟨cy,hs,rfl⟩;intro k v av hk;simp at hk
theorem ak5 (Γ:BA)(f:Nat):(Γ.calm f).io=false/\(Γ.calm f).bx=false/\(Γ.calm f).pr=false:=by unfold BA.calm;cases h:(Γ f).io with|true=>exact⟨rfl,rfl,rfl⟩|false=>cases h2:(Γ f).bx with|true=>exact⟨rfl,rfl,rfl⟩|false=>cases h3:(Γ f).pr with|true=>exact⟨rfl,rfl,rfl⟩|false=>exact⟨h,h2,h3⟩
theorem amc (Γ:BA)(f:Nat):(Γ.IJ f).io=false/\((Γ.IJ f).bx=true->(Γ.IJ f).cur=true)/\(Γ.IJ f).pr=false:=by unfold BA.IJ;cases h:(Γ f).io with|true=>exact⟨rfl,λh=>(by cases h),rfl⟩|false=>cases h3:(Γ f).pr with|true=>exact⟨rfl,λh=>(by cases h),rfl⟩|false=>cases h2:(Γ f).bx with|false=>exact⟨h,λh=>(by simp[h2]at h),h3⟩|true=>cases h4:(Γ f).cur with|true=>exact⟨h,λ_=>h4,h3⟩|false=>exact⟨rfl,λh=>(by cases h),rfl⟩
theorem amd (Cq:∀f,(Γ f).io=false/\(Γ f).bx=false/\(Γ f).pr=false)(f:Nat):(Γ.IJ f).io=false/\(Γ.IJ f).bx=false/\(Γ.IJ f).pr=false:=by have h:=Cq f;unfold BA.IJ;rw[h.1,h.2.1,h.2.2];exact h
theorem Sound.IJ {E:Env}(h:Sound P E Γ):Sound P E Γ.IJ:=by refine⟨h.ty,h.eqs,h.fts,λf=>?_,h.mixed⟩;unfold BA.IJ;cases (Γ f).io||(Γ f).pr||((Γ f).bx&& !(Γ f).cur)with|true=>intro xs y hy;cases hy|false=>exact h.fns f
theorem Sound.calm {E:Env}(h:Sound P E Γ):Sound P E Γ.calm:=by refine⟨h.ty,h.eqs,h.fts,λf=>?_,h.mixed⟩;unfold BA.calm;cases (Γ f).io with|true=>intro xs y hy;cases hy|false=>cases (Γ f).bx with|true=>intro xs y hy;cases hy|false=>cases (Γ f).pr with|true=>intro xs y hy;cases hy|false=>exact h.fns f
end Go.Dn
