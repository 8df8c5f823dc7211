import Derived.Test.YtnmppgnbjfdffaaGreatDnDen
import Derived.Test.YtnmppgnbjfdffaaGreatDnNat
/- What is kept at a loop's door; what a region whose ways meet again leaves. -/
namespace Go.Dn
open Go.RowKit
variable {P:Program} {C:Ctx} {st:AS} {a:Act} {w:World} {R:Type} {r:R}
variable {an:An} {Γ:xT} {v:Value} {io:aw AC} {d:ax Nat} {ds keep:fw}
theorem D9 (keep:fw)(ep:Nat)(io:aw AC):∀(l:aw AV)(n i:Nat),(mU keep ep io n l)[i]?=(l[i]?).map λv=>if keep.contains (n+i) then v.mask keep ep io (n+i) else .bot
 |[],n,i=>by simp[mU]
 |v::l,n,0=>by simp[mU]
 |v::l,n,i+1=>by simp only[mU,dW];rw[D9 keep ep io l (n+1) i,show n+1+i=n+(i+1) by omega]
theorem zT (keep:fw)(ep:Nat)(io:aw AC):∀(l:aw (ax (aw AC)))(n i:Nat),(mT keep ep io n l)[i]?=(l[i]?).map λb=>if keep.contains (n+i) then b.map (Hw keep ep io (.box (n+i)) 0) else none
 |[],n,i=>by simp[mT]
 |v::l,n,0=>by simp[mT]
 |v::l,n,i+1=>by simp only[mT,dW];rw[zT keep ep io l (n+1) i,show n+1+i=n+(i+1) by omega]
theorem uT (keep:fw)(ep:Nat)(io:aw AC):∀(l:aw AV)(n:Nat),(mU keep ep io n l).length=l.length
 |[],_=>rfl
 |_::l,n=>by simp[mU,uT keep ep io l]
theorem Ax (keep:fw)(ep:Nat)(io:aw AC):∀(l:aw (ax (aw AC)))(n:Nat),(mT keep ep io n l).length=l.length
 |[],_=>rfl
 |_::l,n=>by simp[mT,Ax keep ep io l]
def T8:Value->AV->iq
 | .agg vs,.val true _=>vs.toList
 |v,_=>[v]
theorem Uc {g:Bool}{vs:iq}{cs:aw AC}(h:Cut g v vs):T8 v (.val g cs)=vs:=by cases g with|true=>simp only[Cut,bN]at h;subst h;simp[T8]|false=>simp only[Cut]at h;subst h;cases v<;>rfl
def AU (ioV:iq)(st:AS)(a:Act)(w:World)(β:Nat->Nat)(t:Nat):Value:=
 if t%3=0/\t/3/4096=1000003 then(ioV[t/3%4096]?).getD undef
 else if t%3=0 then((T8 (a.tmps.getD (t/3/4096) undef) (st.get (t/3/4096)))[t/3%4096]?).getD undef
 else match w.heap[β (t/3/4096)]? with
  |some (.cells arr _ _)=>(arr.toList[t/3%4096]?).getD undef
  |_=>undef
def TN (c c':RC)(io:aw AC):Prop:=∀j n (e:CT)(ys:aw e.D),AC.acI io j n e=some ys->∃v0 fp0,ff c.hw c.w (.sl e) [v0] ys fp0/\v0=c.hdr n/\∀q,(ka.io j).CX=some q->c'.iss q/\v0=c'.hdr q
theorem Zp {c c':RC}(Mm:TN c c' io){rt:ka}{x:AC}{fp:fw}(h:gA c v x fp)(Dp:c'.hw=c.hw)(hw:c'.w=c.w)(hA:c'.A=c.A)(wN:c'.ep=0)(Hg:c'.β=c.β)(tz:∀s,keep.contains s=true->c.Gl s->c'.Gl s)(mi:∀t,rt.CX=some t->c'.iss t/\v=c'.hdr t):gA c' v (x.mask keep c.ep io rt) fp:=by
 have hS:c'.S=c.S:=by funext b o;simp[RC.S,Dp,hA]
 cases x with
 |int k n=>exact h
 |bool b=>exact h
 |str s=>exact h
 |jm=>exact h
 |fn f=>exact h
 |un=>exact h
 |bot=>exact h
 |ptr s off=>simp only[AC.mask];split;rename_i hk;exact⟨by rw[Hg];exact h.1,tz s hk h.2.1,h.2.2⟩;exact h.2.2
 |zM fl e y i off=>cases fl with|own t=>exact h.elim|nest _ _ _ _ _ _=>exact h.elim|part _ _ _ _=>exact h.elim|fg _ _ _=>exact h.elim|arg _=>exact h.1|loc ep pv=>exact h.1
 |sl fl e xs=>
  cases fl with
  |own t=>exact⟨ff.mono h.1 (λb _=>⟨by rw[hw],by rw[Dp]⟩),mi⟩
  |nest _ _ _ _ _ _=>exact h.1
  |part _ _ _ _=>exact h.1
  |fg _ _ _=>obtain⟨_,⟨k,hk,h3⟩,_⟩:=h;exact⟨λq hq=>(by cases hq),⟨k,hk,h3.mono (λb hb=>⟨by rw[hw],by rw[Dp]⟩)⟩,by simp⟩
  |arg _=>exact⟨h.1,by rw[hA,hw];exact h.2⟩
  |loc ep pv=>
   obtain⟨h1,h2,h3,h4,h5⟩:=h;have plain:gA c' v (if(ep==c.ep)=true then AC.sl (.loc 0 none) e xs else .bot) fp:=by split;rename_i he;refine⟨h1,by rw[wN];exact aU _,h3,λ_=>?_,by simp⟩;rw[hS,hw];exact h4 (by simpa using he);exact h1
   simp only[AC.mask];split;rename_i j n;split;rename_i ys Cx;obtain⟨v0,fp0,gE,KB,hq⟩:=Mm j n e ys Cx;obtain⟨_,k2⟩:=h5 _ _ rfl;have hv:v0=v:=KB.trans k2.symm;subst hv;refine⟨h1,by rw[wN];exact aU _,K9 gE,λ_=>?_,λr t hp=>?_⟩;rw[hS,hw];exact ff.rep (λb o ho=> .inr ho) gE;cases uI:(ka.io j).CX with|none=>rw[uI]at hp;cases hp|some q=>rw[uI]at hp;simp at hp;obtain⟨_,rfl⟩:=hp;exact⟨(hq q uI).1,(hq q uI).2⟩
   exact plain;exact plain
theorem ER {c c':RC}(Mm:TN c c' io){f:Nat->ka}(Dp:c'.hw=c.hw)(hw:c'.w=c.w)(hA:c'.A=c.A)(wN:c'.ep=0)(Hg:c'.β=c.β)
 (tz:∀s,keep.contains s=true->c.Gl s->c'.Gl s):∀{vs:iq}{xs:aw AC}{fp:fw}(j:Nat),bB c vs xs fp->
  (∀i v,vs[i]?=some v->∀t,(f (j+i)).CX=some t->c'.iss t/\v=c'.hdr t)->bB c' vs (Hw keep c.ep io f j xs) fp
 |[],[],_,_,h,_=>h
 |v::_,_::_,_,j,h,hm=>by obtain⟨f1,f2,rfl,h1,h2⟩:=h;exact⟨f1,f2,rfl,Zp Mm h1 Dp hw hA wN Hg tz (λt ht=>hm 0 v rfl t ht),ER Mm Dp hw hA wN Hg tz (j+1) h2 (λi u hu t ht=>hm (i+1) u (by simpa using hu) t (by rwa[show j+(i+1)=j+1+i by omega]))⟩
 |[],_::_,_,_,h,_=>h.elim
 |_::_,[],_,_,h,_=>h.elim
theorem ac0 {c:RC}{x:AC}{fp:fw}(h:gA c v x fp)(Fc:∀(tag:ax Nat)(e:CT)(xs:aw e.D),x=.sl (.own tag) e xs->False)(aha:∀(tag:ax Nat)(i:Int)(ep:ax Nat)(e:CT)(xs:aw e.D),x=.sl (.fg tag i ep) e xs->False):fp=[]:=by
 cases x with
 |int k n=>exact h.2
 |bool b=>exact h.2
 |str s=>exact h.2
 |jm=>exact h.2
 |fn f=>exact h.2
 |un=>exact h.2
 |bot=>exact h
 |ptr s off=>exact h.2.2
 |zM fl e y i off=>cases fl with|own t=>exact h.elim|nest _ _ _ _ _ _=>exact h.elim|part _ _ _ _=>exact h.elim|fg _ _ _=>exact h.elim|arg _=>exact h.1|loc ep pv=>exact h.1
 |sl fl e xs=>cases fl with|own t=>exact(Fc _ _ _ rfl).elim|nest _ _ _ _ _ _=>exact h.1|part _ _ _ _=>exact h.1|fg _ _ _=>exact(aha _ _ _ _ _ rfl).elim|arg _=>exact h.1|loc ep pv=>exact h.1
theorem np.mask (h:np C st a w)(keep:fw):np C (st.mask keep) a w:=by
 obtain⟨g,h⟩:=h;let g':Gh:={g with hdr:=AU C.ioV st a w g.β}
 have tz:∀s,keep.contains s=true->iS st s->iS (st.mask keep) s:=by rintro s hk ⟨cs,hs⟩;refine⟨Hw keep st.ep st.io (.box s) 0 cs,?_⟩;show(mT keep st.ep st.io 0 st.boxes)[s]?=_;rw[zT,hs];simp only[dc,ca,aE hk]
 obtain⟨fpi,hri,hni,hli⟩:=h.io;have ai1:∀j v,C.ioV[j]?=some v->∀q,(ka.io j).CX=some q->md (st.mask keep) q/\v=AU C.ioV st a w g.β q:=by
  intro j v hv q hq;simp only[ka.CX]at hq;cases hb:Nat.ble 4096 j with
  |true=>rw[hb]at hq;cases hq
  |false=>
   rw[hb]at hq;simp only[af,aZ,Xj]at hq;have hj:j<4096:=by rcases cc j 4096 with gQ|yP;exact gQ;rw[gD yP]at hb;cases hb
   have h0:q%3=0:=by omega
   have h1:q/3/4096=1000003:=by omega
   have h2:q/3%4096=j:=by omega
   refine⟨.inl (by omega),?_⟩;rw[AU,aE ⟨h0,h1⟩,h2,hv];rfl
 have af7:TN (cH C g st w) (cH C g' (st.mask keep) w) st.io:=by
  intro j n e ys Cx;unfold AC.acI at Cx;split at Cx;rename_i t' e' ys' hj;split at Cx;rename_i he;subst he;cases ht:(t'==n)with
  |false=>rw[ht]at Cx;cases Cx
  |true=>
   rw[ht]at Cx;have:t'=n:=by simpa using ht
   subst this;cases Cx;rw[dJ]at hj;obtain⟨v,f,hv,hr,_⟩:=hri.get j _ hj;exact⟨v,f,hr.1,(hr.2 t' rfl).2,λq hq=>ai1 j v hv q hq⟩
  cases Cx;cases Cx
 have anp:∀(j:Nat){vs:iq}{xs:aw AC}{fp:fw},bB (cH C g st w) vs xs fp->(∀i v,vs[i]?=some v->C.ioV[j+i]?=some v)->bB (cH C g' (st.mask keep) w) vs (VB keep j xs) fp:=by
  intro j vs
  induction vs generalizing j with
  |nil=>intro xs fp hr _;cases xs with
   |nil=>exact hr
   |cons _ _=>exact hr.elim
  |cons v vs ih=>
   intro xs fp hr hv
   cases xs with
   |nil=>exact hr.elim
   |cons x xs=>
    obtain⟨f1,f2,rfl,r1,r2⟩:=hr
    refine⟨f1,f2,rfl,?_,ih (j+1) r2 (λi u hu=>by rw[show j+1+i=j+(i+1) by omega];exact hv (i+1) u (by simpa using hu))⟩
    have KB:=hv 0 v rfl
    rw[dT]at KB
    split
    ·rename_i tg e ys
     exact⟨r1.1,λq hq=>ai1 j v KB q hq⟩
    ·rename_i tag i ep e ys
     obtain⟨_,⟨k,hk,h3⟩,_⟩:=r1
     exact⟨λq hq=>(by cases hq),⟨k,hk,h3⟩,by simp⟩
    ·rename_i s off
     split
     ·rename_i hk
      exact⟨r1.1,tz s hk r1.2.1,r1.2.2⟩
     ·exact r1.2.2
    ·rename_i Fc aha _
     cases hfl:x.je with
     |true=>
      obtain⟨rfl,k⟩:=qg (c':=cH C g' (st.mask keep) w) r1 hfl
      exact k
     |false=>exact ac0 r1 Fc aha
 refine⟨g',h.defers,?_,?_,λi av hi=>?_,λs cs hs=>?_,λk v av hk=>by simp at hk,h.fS,h.frame,⟨fpi,anp 0 hri (λi v hv=>by rw[ca];exact hv),hni,hli⟩⟩;show _=(mU keep st.ep st.io 0 st.slots).length;rw[uT];exact h.size;show(mT keep st.ep st.io 0 st.boxes).length=(mU keep st.ep st.io 0 st.slots).length;rw[uT,Ax];exact h.bsize;have nu:(mU keep st.ep st.io 0 st.slots)[i]?=some av:=hi;rw[D9,ca]at nu;cases hv:st.slots[i]? with
 |none=>rw[hv]at nu;cases nu
 |some x=>
  rw[hv]at nu;simp only[dc,aZ]at nu;split at nu
  ·subst nu
   cases hx:x with
   |uF ts=>exact⟨[],fR.bot _ _,by simp,by simp⟩
   |val gg cs=>
    rw[hx]at hv
    obtain⟨fp,⟨vs,fi,hr⟩,hn,hl⟩:=h.slots i _ hv
    refine⟨fp,⟨vs,fi,ER (io:=st.io) af7 (c:=cH C g st w) (c':=cH C g' (st.mask keep) w) rfl rfl rfl rfl rfl tz 0 hr ?_⟩,hn,hl⟩
    intro j u hu t ht
    simp only[ca,ka.CX]at ht
    cases hb:Nat.ble 4096 j with
    |true=>rw[hb]at ht;cases ht
    |false=>
     rw[hb]at ht
     simp only[af]at ht
     cases DY:Nat.ble 1000000 i with
     |true=>rw[DY]at ht;cases ht
     |false=>
     rw[DY]at ht
     simp only[af,aZ]at ht
     have hi6:i<1000000:=by rcases cc i 1000000 with gQ|yP;exact gQ;rw[gD yP]at DY;cases DY
     have hj:j<4096:=by rcases cc j 4096 with gQ|yP;exact gQ;rw[gD yP]at hb;cases hb
     have h0:t%3=0:=by omega
     have h1:t/3/4096=i:=by omega
     have h2:t/3%4096=j:=by omega
     refine⟨.inl (by omega),?_⟩
     show u=AU C.ioV st a w g.β t
     rw[AU,lZ,aE h0,h1,h2,get_eq hv,Uc fi,hu];rfl
  subst nu;exact⟨[],fR.bot _ _,by simp,by simp⟩
 have wO:(mT keep st.ep st.io 0 st.boxes)[s]?=some (some cs):=hs;rw[zT,ca]at wO;cases hv:st.boxes[s]? with
 |none=>rw[hv]at wO;cases wO
 |some x=>
  rw[hv]at wO;simp only[dc,aZ]at wO;split at wO;cases hx:x with
  |none=>rw[hx]at wO;cases wO
  |some xs=>
   rw[hx]at wO hv;simp only[dc,aZ]at wO;subst wO;obtain⟨arr,T,fr,fp,hb,qZ,hr,hn,hni,hl,Fa,Fe⟩:=h.boxes s xs hv;refine⟨arr,T,fr,fp,hb,qZ,ER (io:=st.io) af7 (c:=cH C g st w) (c':=cH C g' (st.mask keep) w) rfl rfl rfl rfl rfl tz 0 hr ?_,hn,hni,hl,Fa,Fe⟩;intro j u hu t ht;simp only[ca,ka.CX]at ht;cases US:Nat.ble 4096 j with
   |true=>rw[US]at ht;cases ht
   |false=>
    rw[US]at ht;simp only[af,aZ]at ht;have hj:j<4096:=by rcases cc j 4096 with gQ|yP;exact gQ;rw[gD yP]at US;cases US
    have h0:¬t%3=0:=by omega
    have h1:t/3/4096=s:=by omega
    have h2:t/3%4096=j:=by omega
    refine⟨.inl (by omega),?_⟩;show u=AU C.ioV st a w g.β t;rw[AU,lZ,aH h0,h1,h2,hb];simp only;rw[hu];rfl
  cases wO
structure iH (ds:List Nat) (st bH:AS):Prop where
 len:bH.slots.length=st.slots.length
 slot:∀i,i∉ds->bH.slots[i]?=st.slots[i]?
 boxes:bH.boxes=st.boxes
 ep:bH.ep=st.ep
 iss:∀i,i∉ds->nth bH.iss i=nth st.iss i
 ajn:bH.iss.length=st.iss.length
 io:bH.io=st.io
theorem iH.refl (ds:fw)(st:AS):iH ds st st:=⟨rfl,λ_ _=>rfl,rfl,rfl,λ_ _=>rfl,rfl,rfl⟩
theorem iH.trans {st st1 st2:AS}(h:iH ds st st1)(k:iH ds st1 st2):iH ds st st2:=⟨k.len.trans h.len,λi hi=>(k.slot i hi).trans (h.slot i hi),k.boxes.trans h.boxes,k.ep.trans h.ep,λi hi=>(k.iss i hi).trans (h.iss i hi),k.ajn.trans h.ajn,k.io.trans h.io⟩
theorem iH.put {st:AS}(hd:∀i,d=some i->i∈ds)(v:AV):iH ds st (st.put d v):=by cases d with|none=>exact iH.refl _ _|some d=>refine⟨by rw[fK,aC],λi hi=>?_,kb,G5,λi _=>by rw[PF],by rw[PF],Hn⟩;rw[fK,aO];rintro rfl;exact hi (hd _ rfl)
theorem iH.fz {st:AS}(hd:∀i,d=some i->i∈ds):iH ds st (st.fz d):=by cases d with|none=>exact iH.refl _ _|some d=>refine⟨rfl,λi _=>rfl,rfl,rfl,λi hi=>?_,?_,rfl⟩;simp only[AS.fz,dJ,ft];rw[aO];rintro rfl;exact hi (hd _ rfl);simp only[AS.fz,ft,aC]
theorem sK {α:Type}{o:ax α}{k:α->ax AS}{bH:AS}(h:aa o k=some bH)(hk:∀x,k x=some bH->iH ds st bH):iH ds st bH:=by cases o with|none=>cases h|some x=>exact hk x h
theorem ZE {n:Nat}{k:ax AS}{bH:AS}(h:room n k=some bH)(hk:k=some bH->iH ds st bH):iH ds st bH:=by unfold room at h;split at h;exact hk h;cases h
theorem VK {op:BinOp}{k:IntKind}{x y:Int}{K:AC->ax AS}{bH:AS}(h:F5 op k x y K=some bH)(hk:∀z,K z=some bH->iH ds st bH):iH ds st bH:=by
 unfold F5 at h
 split at h<;>first
  |exact hk _ h
  |(split at h
    ·cases h
    ·exact hk _ h)
  |cases h
theorem VL {op:BinOp}{x y:aw UInt8}{K:AC->ax AS}{bH:AS}(h:IM op x y K=some bH)(hk:∀z,K z=some bH->iH ds st bH):iH ds st bH:=by
 unfold IM at h
 split at h<;>first
  |exact ZE h (hk _)
  |exact hk _ h
  |cases h
theorem HA {op:BinOp}{x y:AV}{K:AC->ax AS}{bH:AS}(h:DM op x y K=some bH)(hk:∀z,K z=some bH->iH ds st bH):iH ds st bH:=by unfold DM at h;split at h;split at h;split at h;cases h;exact hk _ h;split at h;cases h;exact hk _ h;split at h;exact VK h hk;cases h;exact VL h hk;split at h;exact hk _ h;exact hk _ h;cases h;split at h;exact sK h λb hb=>hk _ hb;exact sK h λb hb=>hk _ hb;cases h;cases h
theorem Gf {lo hi:ax Operand}{n:Nat}{K:Int->Int->ax AS}{st0 bH:AS}(h:me st0 lo hi n K=some bH)(hk:∀x y,K x y=some bH->iH ds st bH):iH ds st bH:=by
 unfold me at h
 split at h<;>first
  |exact hk _ _ h
  |cases h
theorem K0 {op:BinOp}{b:Bool}{K:AC->ax AS}{bH:AS}(h:BL op b K=some bH)(hk:∀c,K c=some bH->iH ds st bH):iH ds st bH:=by unfold BL at h;split at h;exact hk _ h;exact hk _ h;cases h
theorem NL {E:Env}(yQ:∀f,(Γ f).io=false/\(Γ f).bx=false/\(Γ f).pr=false){o:Oper}{bH:AS}(hq:gk an ds o=true)(hd:∀i,o.dst=some i->i∈ds)(h:cY E Γ an o st some=some bH):iH ds st bH:=by
 have uH:∀v,some (st.put o.dst v)=some bH->iH ds st bH:=λv hv=>by cases hv;exact iH.put hd v
 unfold cY at h;split at h;rename_i x ho;simp only[gk,ho]at hq;unfold Ay at h;cases Pb:o.dst with
 |none=>rw[Pb]at h;cases h
 |some d=>
  rw[Pb]at h hq;simp only at h hq;have hf:an.mv.contains d=false:=by simpa using hq
  rw[hf]at h;simp only[aW,bU]at h;cases h;exact iH.put (λi hi=>hd i (by rw[Pb];exact hi)) _
 rename_i x ho;have BN:yA an o=false\/∃y,x=y/\(∀v,y≠ .const v)/\(∀t,y≠ .tmp t):=by cases x with|tmp t=>left;simp only[gk,ho,ae,aK]at hq;exact hq.2|const v=>left;simpa only[gk,ho,aK]using hq|func f=>simp[gk,ho]at hq|global g=>simp[gk,ho]at hq
 have BN:yA an o=false:=by rcases BN with h1|⟨y,rfl,h1,h2⟩;exact h1;cases x with|tmp t=>exact absurd rfl (h2 t)|const v=>exact absurd rfl (h1 v)|func f=>simp[gk,ho]at hq|global g=>simp[gk,ho]at hq
 simp only[gk,ho]at hq;rw[aH (by simp[BN])]at h;unfold tk at h;have hx:iH ds st (st.take x).2:=by
  cases x with
  |tmp t=>
   have ht:t∈ds:=by simp only[ae]at hq;simpa using hq.1
   exact iH.put (d:=some t) (λi hi=>by cases hi;exact ht) _
  |const v=>exact iH.refl _ _
  |func f=>exact iH.refl _ _
  |global g=>exact iH.refl _ _
 split at h;split at h;exact uH _ h;cases h;rename_i v st1 _ rk;cases h;have:(st.take x).2=st1:=by rw[rk]
 rw[this]at hx;exact hx.trans (iH.put hd _);unfold CI at h;split at h;rename_i t _;split at h;exact uH _ h;cases t with|true=>exact uH _ h|false=>exact uH _ h
 cases h;rename_i ho;simp[gk,ho]at hq;rename_i ho;simp[gk,ho]at hq;rename_i T p ho;simp only[gk,ho]at hq;have rk:C2 an o=false:=by unfold C2;cases Pb:o.dst with|none=>rfl|some d=>rw[Pb]at hq;simp only[aK]at hq;simp only[hq,dN]
 unfold oh at h;split at h;split at h;split at h;split at h;rename_i d Pb;rw[Pb]at hq;simp only at hq;have hf:an.mv.contains d=false:=by simpa using hq
 rw[hf]at h;simp only[aW,bU]at h;exact uH _ h;cases h;cases h;cases h;rw[aH (by simp[rk])]at h;split at h;split at h;exact uH _ h;cases h;unfold Bw at h;split at h;split at h;split at h;split at h;obtain⟨y,_,h⟩:=JL h;exact uH _ h;cases h;cases h;cases h;cases h;cases h;rename_i ho;simp[gk,ho]at hq;split at h;exact uH _ h;exact uH _ h;cases h;unfold yV at h;split at h;split at h;exact HA h λz hz=>uH _ hz;cases h;split at h;split at h;exact HA h λz hz=>uH _ hz;cases h;cases h;split at h;split at h;cases h;exact K0 h λz hz=>uH _ hz;cases h;split at h;exact K0 h λz hz=>uH _ hz;cases h;exact HA h λz hz=>uH _ hz;unfold unC at h;split at h;exact uH _ h;exact uH _ h;exact uH _ h;cases h;unfold ym at h;split at h;split at h;exact uH _ h;cases h;split at h;exact uH _ h;cases h;cases h;unfold lS at h;split at h;split at h;exact sK h λy hy=>uH _ hy;cases h;cases h;unfold zS at h;split at h;split at h;exact sK h λy hy=>uH _ hy;cases h;cases h;rename_i T parts ho;simp only[gk,ho]at hq;have he:parts=#[]:=by simpa using hq
 subst he;unfold zJ at h;split at h;simp only[eO,List.map_nil]at h;split at h;exact uH _ h;cases h;cases h;rename_i ho;simp[gk,ho]at hq;rename_i ho;simp[gk,ho]at hq;rename_i ho;simp only[gk,ho,aK]at hq;unfold yJ at h;rw[aH (by simp[hq])]at h;split at h;split at h;exact Gf h λx y hxy=>sK hxy λz hz=>uH _ hz;cases h;split at h;exact Gf h λx y hxy=>sK hxy λz hz=>uH _ hz;cases h;cases h;rename_i ho;simp[gk,ho]at hq;rename_i ho;simp[gk,ho]at hq;rename_i ho;simp[gk,ho]at hq;rename_i ho;simp[gk,ho]at hq;unfold KU at h;split at h;split at h;exact uH _ h;cases h;split at h;exact uH _ h;cases h;cases h;unfold Mw at h;split at h;exact uH _ h;cases h;unfold Mv at h;split at h;exact uH _ h;cases h;rename_i ho;simp[gk,ho]at hq;unfold BK at h;split at h;rename_i k _;rw[(yQ k).2.1,(yQ k).2.2,(yQ k).1]at h;simp only[af]at h;refine sK h λy hy=>?_;cases Mp:(Γ k).sel y with|true=>rw[Mp]at hy;cases hy;exact(iH.fz hd).trans (iH.put hd _)|false=>rw[Mp]at hy;cases hy;exact(iH.fz hd).trans (iH.put hd _)
 cases h;cases h
theorem Sq {ops:aw Oper}{o:Oper}(ho:o∈ops){i:Nat}(hi:o.dst=some i):i∈Ez ops:=List.mem_filterMap.2 ⟨o,ho,hi⟩
theorem K1 {E:Env}(yQ:∀f,(Γ f).io=false/\(Γ f).bx=false/\(Γ f).pr=false){ops:aw Oper}{o:Oper}{bH:AS}(ho:o∈ops)(hq:gk an (Ez ops) o=true)(h:gb E Γ an ops o st some=some bH):iH (Ez ops) st bH:=by
 have hd:∀i,o.dst=some i->i∈Ez ops:=λi hi=>Sq ho hi;unfold gb at h;split at h;exact NL yQ hq hd h;rename_i j E5 hg;split at h;rename_i d Pb;have hdm:d∈Ez ops:=by rw[dJ]at Pb;cases I9:ops[j]? with|none=>rw[I9]at Pb;cases Pb|some o'=>rw[I9]at Pb;exact Sq (bn I9) Pb
 have hp:∀t,iH (Ez ops) st (st.put (some d) (.one (.bool t))):=λt=>iH.put (λi hi=>by cases hi;exact hdm) _;split at h;rename_i b hb;have main:∀t,(if(t==E5)=true then cY E Γ an o (st.put (some d) (.one (.bool t))) some else some ((st.put (some d) (.one (.bool t))).put o.dst (.one .un)))=some bH->iH (Ez ops) st bH:=by intro t ht;split at ht;exact(hp t).trans (NL yQ hq hd ht);cases ht;exact(hp t).trans (iH.put hd _)
 cases b with|true=>exact main true h|false=>exact main false h
 cases h;exact iH.put hd _;cases h;cases h
theorem SA {E:Env}(yQ:∀f,(Γ f).io=false/\(Γ f).bx=false/\(Γ f).pr=false){ops:aw Oper}(hq:∀o∈ops,gk an (Ez ops) o=true):∀(l:aw Oper)(st bH:AS),(∀o∈l,o∈ops)->PN E Γ an ops l st some=some bH->iH (Ez ops) st bH
 |[],st,bH,_,h=>by cases h;exact iH.refl _ _
 |o::l,st,bH,hl,h=>by simp only[PN]at h;rw[pM]at h;cases hg:gb E Γ an ops o st some with|none=>rw[hg]at h;cases h|some st1=>rw[hg]at h;exact(K1 yQ (hl o (by simp)) (hq o (hl o (by simp))) hg).trans (SA yQ hq l st1 bH (λo' I9=>hl o' (by simp[I9])) h)
theorem Ey:∀(l:fw)(st:AS),(∀i∈l,i∈ds)->iH ds st (st.zi l)
 |[],st,_=>iH.refl _ _
 |d::l,st,h=>by
  have hd:∀i,some d=some i->i∈ds:=λi hi=>by cases hi;exact h d (by simp)
  exact((iH.put hd _).trans (iH.fz hd)).trans (Ey l _ (λi hi=>h i (by simp[hi])))
theorem M0:∀(l:fw)(st:AS)(i:Nat)(av:AV),(st.zi l).slots[i]?=some av->i∈l\/st.slots[i]?=some .bot->av=.bot
 |[],st,i,av,h,hi=>by rcases hi with hi|hi;cases hi;have:st.slots[i]?=some av:=h;rw[hi]at this;cases this;rfl
 |d::l,st,i,av,h,hi=>by
  refine M0 l _ i av h ?_;by_cases Ml:i∈l;exact .inl Ml;refine .inr ?_;rw[sZ,fK,br];have gQ:i<st.slots.length:=by
   have h1:=(Ey (ds:=d::l) l ((st.put (some d) .bot).fz (some d)) (λi hi=>by simp[hi])).len;have h2:=(aF.1 h).1;have h3:(AS.zi ((st.put (some d) .bot).fz (some d)) l).slots.length=st.slots.length:=by rw[h1,sZ,fK,aC]
   have h4:i<(AS.zi ((st.put (some d) .bot).fz (some d)) l).slots.length:=h2;omega
  split;rename_i hdi;subst hdi;rw[aE gQ];rename_i hdi;rcases hi with hi|hi;simp only[bO]at hi;rcases hi with hi|hi;exact absurd hi.symm hdi;exact absurd hi Ml;exact hi
theorem M3:∀(l:fw)(st:AS)(i:Nat),i∈l\/(nth st.iss i).getD true=true->(nth (st.zi l).iss i).getD true=true
 |[],st,i,hi=>by rcases hi with hi|hi;cases hi;exact hi
 |d::l,st,i,hi=>by refine M3 l _ i ?_;by_cases Ml:i∈l;exact .inl Ml;refine .inr ?_;have he:(AS.fz (st.put (some d) .bot) (some d)).iss=gK st.iss d true:=rfl;rw[he,ft,dJ,br];split;split<;>rfl;rename_i hdi;rcases hi with hi|hi;simp only[bO]at hi;rcases hi with hi|hi;exact absurd hi.symm hdi;exact absurd hi Ml;rw[dJ]at hi;exact hi
theorem np.weaken {bH:AS}(h:np C bH a w)(hn:iH ds st bH){s:Nat}{b:Bool}(hb:getBool bH s=some b):np C ((st.zi ds).put (some s) (.one (.bool b))) a w:=by
 have DY:bH.get s=.val false [.bool b]:=by unfold getBool at hb;split at hb;rename_i b' hg;cases hb;exact hg;cases hb
 have hkn:=h.known DY;obtain⟨g,h⟩:=h;have hdn:=Ey (ds:=ds) ds st (λ_ hi=>hi);have sI:((st.zi ds).put (some s) (.one (.bool b))).boxes=bH.boxes:=by rw[kb,hdn.boxes,hn.boxes]
 have wN:((st.zi ds).put (some s) (.one (.bool b))).ep=bH.ep:=by rw[G5,hdn.ep,hn.ep]
 have hlen:((st.zi ds).put (some s) (.one (.bool b))).slots.length=bH.slots.length:=by rw[fK,aC,hdn.len,hn.len]
 have I7:∀t,md bH t->md ((st.zi ds).put (some s) (.one (.bool b))) t:=by intro t ht;rw[F8];rcases ht with ht|ht;exact .inl ht;refine .inr (M3 ds st _ ?_);by_cases hi:t/3/4096∈ds;exact .inl hi;exact .inr (by rw[<-hn.iss _ hi];exact ht)
 have tz:∀s',iS bH s'->iS ((st.zi ds).put (some s) (.one (.bool b))) s':=λs' hs=>by unfold iS at hs⊢;rw[sI];exact hs
 have hle:(cH C g bH w).Le (cH C g ((st.zi ds).put (some s) (.one (.bool b))) w):=⟨rfl,λt ht=>⟨I7 t ht,rfl⟩,λ_ _ _ _ _ hv=>hv,by show bH.ep<=_;rw[<-wN];exact aU _,λs' hs=>⟨tz s' hs,rfl⟩,λ_ b o u ho hu=>⟨ho,hu⟩⟩
 refine⟨g,h.step (λ_=>True) hle h.defers (by rw[hlen];exact h.size) (by rw[sI,hlen];exact h.bsize) h.frame h.fS (λb x _ hx=>⟨hx,rfl,rfl⟩) ?_ ?_ ?_ (.inl ⟨cv,by rw[Hn,hdn.io,hn.io]⟩)⟩;intro i av hi;rw[fK,br]at hi;split at hi;rename_i hsi;subst hsi;split at hi;cases hi;refine .inr ⟨[],lT ?_,by simp,by simp⟩;exact⟨hkn,rfl⟩;cases hi;by_cases RB:i∈ds;have:=M0 ds st i av hi (.inl RB);subst this;exact .inr ⟨[],fR.bot _ _,by simp,by simp⟩;rw[hdn.slot i RB]at hi;exact .inl ⟨cv,by rw[hn.slot i RB];exact hi,rfl⟩;intro s' cs hs;rw[sI]at hs;exact .inl ⟨cv,hs,rfl⟩;intro k v av hk;simp at hk
theorem aep (Γ:xT)(f:Nat):(Γ.calm f).io=false/\(Γ.calm f).bx=false/\(Γ.calm f).pr=false:=by unfold xT.calm;cases h:(Γ f).io with|true=>exact⟨rfl,rfl,rfl⟩|false=>cases h2:(Γ f).bx with|true=>exact⟨rfl,rfl,rfl⟩|false=>cases h3:(Γ f).pr with|true=>exact⟨rfl,rfl,rfl⟩|false=>exact⟨h,h2,h3⟩
theorem afw (Γ:xT)(f:Nat):(Γ.E1 f).io=false/\((Γ.E1 f).bx=true->(Γ.E1 f).cur=true)/\(Γ.E1 f).pr=false:=by unfold xT.E1;cases h:(Γ f).io with|true=>exact⟨rfl,λh=>(by cases h),rfl⟩|false=>cases h3:(Γ f).pr with|true=>exact⟨rfl,λh=>(by cases h),rfl⟩|false=>cases h2:(Γ f).bx with|false=>exact⟨h,λh=>(by simp[h2]at h),h3⟩|true=>cases h4:(Γ f).cur with|true=>exact⟨h,λ_=>h4,h3⟩|false=>exact⟨rfl,λh=>(by cases h),rfl⟩
theorem afx (yQ:∀f,(Γ f).io=false/\(Γ f).bx=false/\(Γ f).pr=false)(f:Nat):(Γ.E1 f).io=false/\(Γ.E1 f).bx=false/\(Γ.E1 f).pr=false:=by have h:=yQ f;unfold xT.E1;rw[h.1,h.2.1,h.2.2];exact h
theorem Sound.E1 {E:Env}(h:Sound P E Γ):Sound P E Γ.E1:=by refine⟨h.ty,h.eqs,h.fts,λf=>?_,h.mixed⟩;unfold xT.E1;cases (Γ f).io||(Γ f).pr||((Γ f).bx&& !(Γ f).cur)with|true=>intro xs y hy;cases hy|false=>exact h.fns f
theorem Sound.calm {E:Env}(h:Sound P E Γ):Sound P E Γ.calm:=by refine⟨h.ty,h.eqs,h.fts,λf=>?_,h.mixed⟩;unfold xT.calm;cases (Γ f).io with|true=>intro xs y hy;cases hy|false=>cases (Γ f).bx with|true=>intro xs y hy;cases hy|false=>cases (Γ f).pr with|true=>intro xs y hy;cases hy|false=>exact h.fns f
end Go.Dn
