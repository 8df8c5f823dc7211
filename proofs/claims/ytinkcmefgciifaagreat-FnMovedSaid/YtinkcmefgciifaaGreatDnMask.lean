import Derived.Test.YtinkcmefgciifaaGreatDnDen
import Derived.Test.YtinkcmefgciifaaGreatDnNat
/- What is kept at a loop's door; what a region whose ways meet again leaves. -/
namespace Go.Dn
open Go.RowKit
variable {P:Program} {C:Ctx} {st:AS} {a:Act} {w:World} {R:Type} {r:R}
variable {an:An} {Γ:xU} {v:Value} {io:aw AC} {d:ax Nat} {ds keep:fw}
theorem Ea (keep:fw)(ep:Nat)(io:aw AC):∀(l:aw AV)(n i:Nat),(mU keep ep io n l)[i]?=(l[i]?).map λv=>if keep.contains (n+i) then v.mask keep ep io (n+i) else .bot
 |[],n,i=>by simp[mU]
 |v::l,n,0=>by simp[mU]
 |v::l,n,i+1=>by simp only[mU,dW];rw[Ea keep ep io l (n+1) i,show n+1+i=n+(i+1) by omega]
theorem zT (keep:fw)(ep:Nat)(io:aw AC):∀(l:aw (ax (aw AC)))(n i:Nat),(mT keep ep io n l)[i]?=(l[i]?).map λb=>if keep.contains (n+i) then b.map (Hv keep ep io (.box (n+i)) 0) else none
 |[],n,i=>by simp[mT]
 |v::l,n,0=>by simp[mT]
 |v::l,n,i+1=>by simp only[mT,dW];rw[zT keep ep io l (n+1) i,show n+1+i=n+(i+1) by omega]
theorem uU (keep:fw)(ep:Nat)(io:aw AC):∀(l:aw AV)(n:Nat),(mU keep ep io n l).length=l.length
 |[],_=>rfl
 |_::l,n=>by simp[mU,uU keep ep io l]
theorem Ax (keep:fw)(ep:Nat)(io:aw AC):∀(l:aw (ax (aw AC)))(n:Nat),(mT keep ep io n l).length=l.length
 |[],_=>rfl
 |_::l,n=>by simp[mT,Ax keep ep io l]
def T6:Value->AV->iu
 | .agg vs,.val true _=>vs.toList
 |v,_=>[v]
theorem Ua {g:Bool}{vs:iu}{cs:aw AC}(h:Cut g v vs):T6 v (.val g cs)=vs:=by cases g with|true=>simp only[Cut,bN]at h;subst h;simp[T6]|false=>simp only[Cut]at h;subst h;cases v<;>rfl
def AU (ioV:iu)(st:AS)(a:Act)(w:World)(β:Nat->Nat)(t:Nat):Value:=
 if t%3=0/\t/3/4096=1000003 then(ioV[t/3%4096]?).getD undef
 else if t%3=0 then((T6 (a.tmps.getD (t/3/4096) undef) (st.get (t/3/4096)))[t/3%4096]?).getD undef
 else match w.heap[β (t/3/4096)]? with
  |some (.cells arr _ _)=>(arr.toList[t/3%4096]?).getD undef
  |_=>undef
def TL (c c':RC)(io:aw AC):Prop:=∀j n (e:CT)(ys:aw e.D),AC.acJ io j n e=some ys->∃v0 fp0,ff c.hw c.w (.sl e) [v0] ys fp0/\v0=c.hdr n/\∀q,(ka.io j).CY=some q->c'.iss q/\v0=c'.hdr q
theorem Zs {c c':RC}(Mk:TL c c' io){rt:ka}{x:AC}{fp:fw}(h:gC c v x fp)(Dq:c'.hw=c.hw)(hw:c'.w=c.w)(hA:c'.A=c.A)(wN:c'.ep=0)(Hf:c'.β=c.β)(tA:∀s,keep.contains s=true->c.Gm s->c'.Gm s)(mi:∀t,rt.CY=some t->c'.iss t/\v=c'.hdr t):gC c' v (x.mask keep c.ep io rt) fp:=by
 have hS:c'.S=c.S:=by funext b o;simp[RC.S,Dq,hA]
 cases x with
 |int k n=>exact h
 |bool b=>exact h
 |str s=>exact h
 |jo=>exact h
 |fn f=>exact h
 |un=>exact h
 |bot=>exact h
 |ptr s off=>simp only[AC.mask];split;rename_i hk;exact⟨by rw[Hf];exact h.1,tA s hk h.2.1,h.2.2⟩;exact h.2.2
 |zM fl e y i off=>cases fl with|own t=>exact h.elim|nest _ _ _ _ _ _=>exact h.elim|part _ _ _ _=>exact h.elim|fg _ _ _=>exact h.elim|arg _=>exact h.1|loc ep pv=>exact h.1
 |sl fl e xs=>
  cases fl with
  |own t=>exact⟨ff.mono h.1 (λb _=>⟨by rw[hw],by rw[Dq]⟩),mi⟩
  |nest _ _ _ _ _ _=>exact h.1
  |part _ _ _ _=>exact h.1
  |fg _ _ _=>obtain⟨_,⟨k,hk,h3⟩,_⟩:=h;exact⟨λq hq=>(by cases hq),⟨k,hk,h3.mono (λb hb=>⟨by rw[hw],by rw[Dq]⟩)⟩,by simp⟩
  |arg _=>exact⟨h.1,by rw[hA,hw];exact h.2⟩
  |loc ep pv=>
   obtain⟨h1,h2,h3,h4,h5⟩:=h;have plain:gC c' v (if(ep==c.ep)=true then AC.sl (.loc 0 none) e xs else .bot) fp:=by split;rename_i he;refine⟨h1,by rw[wN];exact aU _,h3,λ_=>?_,by simp⟩;rw[hS,hw];exact h4 (by simpa using he);exact h1
   simp only[AC.mask];split;rename_i j n;split;rename_i ys Cx;obtain⟨v0,fp0,gG,KA,hq⟩:=Mk j n e ys Cx;obtain⟨_,k2⟩:=h5 _ _ rfl;have hv:v0=v:=KA.trans k2.symm;subst hv;refine⟨h1,by rw[wN];exact aU _,K8 gG,λ_=>?_,λr t hp=>?_⟩;rw[hS,hw];exact ff.rep (λb o ho=> .inr ho) gG;cases uJ:(ka.io j).CY with|none=>rw[uJ]at hp;cases hp|some q=>rw[uJ]at hp;simp at hp;obtain⟨_,rfl⟩:=hp;exact⟨(hq q uJ).1,(hq q uJ).2⟩
   exact plain;exact plain
theorem ES {c c':RC}(Mk:TL c c' io){f:Nat->ka}(Dq:c'.hw=c.hw)(hw:c'.w=c.w)(hA:c'.A=c.A)(wN:c'.ep=0)(Hf:c'.β=c.β)
 (tA:∀s,keep.contains s=true->c.Gm s->c'.Gm s):∀{vs:iu}{xs:aw AC}{fp:fw}(j:Nat),bB c vs xs fp->
  (∀i v,vs[i]?=some v->∀t,(f (j+i)).CY=some t->c'.iss t/\v=c'.hdr t)->bB c' vs (Hv keep c.ep io f j xs) fp
 |[],[],_,_,h,_=>h
 |v::_,_::_,_,j,h,hm=>by obtain⟨f1,f2,rfl,h1,h2⟩:=h;exact⟨f1,f2,rfl,Zs Mk h1 Dq hw hA wN Hf tA (λt ht=>hm 0 v rfl t ht),ES Mk Dq hw hA wN Hf tA (j+1) h2 (λi u hu t ht=>hm (i+1) u (by simpa using hu) t (by rwa[show j+(i+1)=j+1+i by omega]))⟩
 |[],_::_,_,_,h,_=>h.elim
 |_::_,[],_,_,h,_=>h.elim
theorem ac1 {c:RC}{x:AC}{fp:fw}(h:gC c v x fp)(Fe:∀(tag:ax Nat)(e:CT)(xs:aw e.D),x=.sl (.own tag) e xs->False)(ag8:∀(tag:ax Nat)(i:Int)(ep:ax Nat)(e:CT)(xs:aw e.D),x=.sl (.fg tag i ep) e xs->False):fp=[]:=by
 cases x with
 |int k n=>exact h.2
 |bool b=>exact h.2
 |str s=>exact h.2
 |jo=>exact h.2
 |fn f=>exact h.2
 |un=>exact h.2
 |bot=>exact h
 |ptr s off=>exact h.2.2
 |zM fl e y i off=>cases fl with|own t=>exact h.elim|nest _ _ _ _ _ _=>exact h.elim|part _ _ _ _=>exact h.elim|fg _ _ _=>exact h.elim|arg _=>exact h.1|loc ep pv=>exact h.1
 |sl fl e xs=>cases fl with|own t=>exact(Fe _ _ _ rfl).elim|nest _ _ _ _ _ _=>exact h.1|part _ _ _ _=>exact h.1|fg _ _ _=>exact(ag8 _ _ _ _ _ rfl).elim|arg _=>exact h.1|loc ep pv=>exact h.1
theorem nq.mask (h:nq C st a w)(keep:fw):nq C (st.mask keep) a w:=by
 obtain⟨g,h⟩:=h;let g':Gh:={g with hdr:=AU C.ioV st a w g.β}
 have tA:∀s,keep.contains s=true->iU st s->iU (st.mask keep) s:=by rintro s hk ⟨cs,hs⟩;refine⟨Hv keep st.ep st.io (.box s) 0 cs,?_⟩;show(mT keep st.ep st.io 0 st.boxes)[s]?=_;rw[zT,hs];simp only[dc,ca,aE hk]
 obtain⟨fpi,hri,hni,hli⟩:=h.io;have ai4:∀j v,C.ioV[j]?=some v->∀q,(ka.io j).CY=some q->md (st.mask keep) q/\v=AU C.ioV st a w g.β q:=by
  intro j v hv q hq;simp only[ka.CY]at hq;cases hb:Nat.ble 4096 j with
  |true=>rw[hb]at hq;cases hq
  |false=>
   rw[hb]at hq;simp only[af,aZ,Xm]at hq;have hj:j<4096:=by rcases cc j 4096 with gS|yP;exact gS;rw[gF yP]at hb;cases hb
   have h0:q%3=0:=by omega
   have h1:q/3/4096=1000003:=by omega
   have h2:q/3%4096=j:=by omega
   refine⟨.inl (by omega),?_⟩;rw[AU,aE ⟨h0,h1⟩,h2,hv];rfl
 have af7:TL (cH C g st w) (cH C g' (st.mask keep) w) st.io:=by
  intro j n e ys Cx;unfold AC.acJ at Cx;split at Cx;rename_i t' e' ys' hj;split at Cx;rename_i he;subst he;cases ht:(t'==n)with
  |false=>rw[ht]at Cx;cases Cx
  |true=>
   rw[ht]at Cx;have:t'=n:=by simpa using ht
   subst this;cases Cx;rw[dJ]at hj;obtain⟨v,f,hv,hr,_⟩:=hri.get j _ hj;exact⟨v,f,hr.1,(hr.2 t' rfl).2,λq hq=>ai4 j v hv q hq⟩
  cases Cx;cases Cx
 have anG:∀(j:Nat){vs:iu}{xs:aw AC}{fp:fw},bB (cH C g st w) vs xs fp->(∀i v,vs[i]?=some v->C.ioV[j+i]?=some v)->bB (cH C g' (st.mask keep) w) vs (VF keep j xs) fp:=by
  intro j vs
  induction vs generalizing j with
  |nil=>intro xs fp hr _;cases xs with
   |nil=>exact hr
   |cons _ _=>exact hr.elim
  |cons v vs ih=>
   intro xs fp hr hv
   cases xs with
   |nil=>exact hr.elim
   |cons x xs=>
    obtain⟨f1,f2,rfl,r1,r2⟩:=hr
    refine⟨f1,f2,rfl,?_,ih (j+1) r2 (λi u hu=>by rw[show j+1+i=j+(i+1) by omega];exact hv (i+1) u (by simpa using hu))⟩
    have KA:=hv 0 v rfl
    rw[dT]at KA
    split
    ·rename_i tg e ys
     exact⟨r1.1,λq hq=>ai4 j v KA q hq⟩
    ·rename_i tag i ep e ys
     obtain⟨_,⟨k,hk,h3⟩,_⟩:=r1
     exact⟨λq hq=>(by cases hq),⟨k,hk,h3⟩,by simp⟩
    ·rename_i s off
     split
     ·rename_i hk
      exact⟨r1.1,tA s hk r1.2.1,r1.2.2⟩
     ·exact r1.2.2
    ·rename_i Fe ag8 _
     cases hfl:x.jg with
     |true=>
      obtain⟨rfl,k⟩:=qg (c':=cH C g' (st.mask keep) w) r1 hfl
      exact k
     |false=>exact ac1 r1 Fe ag8
 refine⟨g',h.defers,?_,?_,λi av hi=>?_,λs cs hs=>?_,λk v av hk=>by simp at hk,h.fS,h.frame,⟨fpi,anG 0 hri (λi v hv=>by rw[ca];exact hv),hni,hli⟩⟩;show _=(mU keep st.ep st.io 0 st.slots).length;rw[uU];exact h.size;show(mT keep st.ep st.io 0 st.boxes).length=(mU keep st.ep st.io 0 st.slots).length;rw[uU,Ax];exact h.bsize;have np:(mU keep st.ep st.io 0 st.slots)[i]?=some av:=hi;rw[Ea,ca]at np;cases hv:st.slots[i]? with
 |none=>rw[hv]at np;cases np
 |some x=>
  rw[hv]at np;simp only[dc,aZ]at np;split at np
  ·subst np
   cases hx:x with
   |uG ts=>exact⟨[],fR.bot _ _,by simp,by simp⟩
   |val gg cs=>
    rw[hx]at hv
    obtain⟨fp,⟨vs,fi,hr⟩,hn,hl⟩:=h.slots i _ hv
    refine⟨fp,⟨vs,fi,ES (io:=st.io) af7 (c:=cH C g st w) (c':=cH C g' (st.mask keep) w) rfl rfl rfl rfl rfl tA 0 hr ?_⟩,hn,hl⟩
    intro j u hu t ht
    simp only[ca,ka.CY]at ht
    cases hb:Nat.ble 4096 j with
    |true=>rw[hb]at ht;cases ht
    |false=>
     rw[hb]at ht
     simp only[af]at ht
     cases DZ:Nat.ble 1000000 i with
     |true=>rw[DZ]at ht;cases ht
     |false=>
     rw[DZ]at ht
     simp only[af,aZ]at ht
     have hi6:i<1000000:=by rcases cc i 1000000 with gS|yP;exact gS;rw[gF yP]at DZ;cases DZ
     have hj:j<4096:=by rcases cc j 4096 with gS|yP;exact gS;rw[gF yP]at hb;cases hb
     have h0:t%3=0:=by omega
     have h1:t/3/4096=i:=by omega
     have h2:t/3%4096=j:=by omega
     refine⟨.inl (by omega),?_⟩
     show u=AU C.ioV st a w g.β t
     rw[AU,lZ,aE h0,h1,h2,get_eq hv,Ua fi,hu];rfl
  subst np;exact⟨[],fR.bot _ _,by simp,by simp⟩
 have wO:(mT keep st.ep st.io 0 st.boxes)[s]?=some (some cs):=hs;rw[zT,ca]at wO;cases hv:st.boxes[s]? with
 |none=>rw[hv]at wO;cases wO
 |some x=>
  rw[hv]at wO;simp only[dc,aZ]at wO;split at wO;cases hx:x with
  |none=>rw[hx]at wO;cases wO
  |some xs=>
   rw[hx]at wO hv;simp only[dc,aZ]at wO;subst wO;obtain⟨arr,T,fr,fp,hb,qZ,hr,hn,hni,hl,Fb,Ff⟩:=h.boxes s xs hv;refine⟨arr,T,fr,fp,hb,qZ,ES (io:=st.io) af7 (c:=cH C g st w) (c':=cH C g' (st.mask keep) w) rfl rfl rfl rfl rfl tA 0 hr ?_,hn,hni,hl,Fb,Ff⟩;intro j u hu t ht;simp only[ca,ka.CY]at ht;cases UX:Nat.ble 4096 j with
   |true=>rw[UX]at ht;cases ht
   |false=>
    rw[UX]at ht;simp only[af,aZ]at ht;have hj:j<4096:=by rcases cc j 4096 with gS|yP;exact gS;rw[gF yP]at UX;cases UX
    have h0:¬t%3=0:=by omega
    have h1:t/3/4096=s:=by omega
    have h2:t/3%4096=j:=by omega
    refine⟨.inl (by omega),?_⟩;show u=AU C.ioV st a w g.β t;rw[AU,lZ,aH h0,h1,h2,hb];simp only;rw[hu];rfl
  cases wO
structure iJ (ds:List Nat) (st bH:AS):Prop where
 len:bH.slots.length=st.slots.length
 slot:∀i,i∉ds->bH.slots[i]?=st.slots[i]?
 boxes:bH.boxes=st.boxes
 ep:bH.ep=st.ep
 iss:∀i,i∉ds->nth bH.iss i=nth st.iss i
 ajq:bH.iss.length=st.iss.length
 io:bH.io=st.io
theorem iJ.refl (ds:fw)(st:AS):iJ ds st st:=⟨rfl,λ_ _=>rfl,rfl,rfl,λ_ _=>rfl,rfl,rfl⟩
theorem iJ.trans {st st1 st2:AS}(h:iJ ds st st1)(k:iJ ds st1 st2):iJ ds st st2:=⟨k.len.trans h.len,λi hi=>(k.slot i hi).trans (h.slot i hi),k.boxes.trans h.boxes,k.ep.trans h.ep,λi hi=>(k.iss i hi).trans (h.iss i hi),k.ajq.trans h.ajq,k.io.trans h.io⟩
theorem iJ.put {st:AS}(hd:∀i,d=some i->i∈ds)(v:AV):iJ ds st (st.put d v):=by cases d with|none=>exact iJ.refl _ _|some d=>refine⟨by rw[fK,aC],λi hi=>?_,kb,G6,λi _=>by rw[PE],by rw[PE],Hm⟩;rw[fK,aO];rintro rfl;exact hi (hd _ rfl)
theorem iJ.fz {st:AS}(hd:∀i,d=some i->i∈ds):iJ ds st (st.fz d):=by cases d with|none=>exact iJ.refl _ _|some d=>refine⟨rfl,λi _=>rfl,rfl,rfl,λi hi=>?_,?_,rfl⟩;simp only[AS.fz,dJ,ft];rw[aO];rintro rfl;exact hi (hd _ rfl);simp only[AS.fz,ft,aC]
theorem sK {α:Type}{o:ax α}{k:α->ax AS}{bH:AS}(h:aa o k=some bH)(hk:∀x,k x=some bH->iJ ds st bH):iJ ds st bH:=by cases o with|none=>cases h|some x=>exact hk x h
theorem ZH {n:Nat}{k:ax AS}{bH:AS}(h:room n k=some bH)(hk:k=some bH->iJ ds st bH):iJ ds st bH:=by unfold room at h;split at h;exact hk h;cases h
theorem VO {op:BinOp}{k:IntKind}{x y:Int}{K:AC->ax AS}{bH:AS}(h:F6 op k x y K=some bH)(hk:∀z,K z=some bH->iJ ds st bH):iJ ds st bH:=by
 unfold F6 at h
 split at h<;>first
  |exact hk _ h
  |(split at h
    ·cases h
    ·exact hk _ h)
  |cases h
theorem VP {op:BinOp}{x y:aw UInt8}{K:AC->ax AS}{bH:AS}(h:IK op x y K=some bH)(hk:∀z,K z=some bH->iJ ds st bH):iJ ds st bH:=by
 unfold IK at h
 split at h<;>first
  |exact ZH h (hk _)
  |exact hk _ h
  |cases h
theorem Hz {op:BinOp}{x y:AV}{K:AC->ax AS}{bH:AS}(h:DN op x y K=some bH)(hk:∀z,K z=some bH->iJ ds st bH):iJ ds st bH:=by unfold DN at h;split at h;split at h;split at h;cases h;exact hk _ h;split at h;cases h;exact hk _ h;split at h;exact VO h hk;cases h;exact VP h hk;split at h;exact hk _ h;exact hk _ h;cases h;split at h;exact sK h λb hb=>hk _ hb;exact sK h λb hb=>hk _ hb;cases h;cases h
theorem Gg {lo hi:ax Operand}{n:Nat}{K:Int->Int->ax AS}{st0 bH:AS}(h:me st0 lo hi n K=some bH)(hk:∀x y,K x y=some bH->iJ ds st bH):iJ ds st bH:=by
 unfold me at h
 split at h<;>first
  |exact hk _ _ h
  |cases h
theorem KZ {op:BinOp}{b:Bool}{K:AC->ax AS}{bH:AS}(h:BL op b K=some bH)(hk:∀c,K c=some bH->iJ ds st bH):iJ ds st bH:=by unfold BL at h;split at h;exact hk _ h;exact hk _ h;cases h
theorem NJ {E:Env}(yQ:∀f,(Γ f).io=false/\(Γ f).bx=false/\(Γ f).pr=false){o:Oper}{bH:AS}(hq:gk an ds o=true)(hd:∀i,o.dst=some i->i∈ds)(h:cY E Γ an o st some=some bH):iJ ds st bH:=by
 have uI:∀v,some (st.put o.dst v)=some bH->iJ ds st bH:=λv hv=>by cases hv;exact iJ.put hd v
 unfold cY at h;split at h;rename_i x ho;simp only[gk,ho]at hq;unfold Ay at h;cases Pa:o.dst with
 |none=>rw[Pa]at h;cases h
 |some d=>
  rw[Pa]at h hq;simp only at h hq;have hf:an.mv.contains d=false:=by simpa using hq
  rw[hf]at h;simp only[aW,bU]at h;cases h;exact iJ.put (λi hi=>hd i (by rw[Pa];exact hi)) _
 rename_i x ho;have BN:yA an o=false\/∃y,x=y/\(∀v,y≠ .const v)/\(∀t,y≠ .tmp t):=by cases x with|tmp t=>left;simp only[gk,ho,ae,aK]at hq;exact hq.2|const v=>left;simpa only[gk,ho,aK]using hq|func f=>simp[gk,ho]at hq|global g=>simp[gk,ho]at hq
 have BN:yA an o=false:=by rcases BN with h1|⟨y,rfl,h1,h2⟩;exact h1;cases x with|tmp t=>exact absurd rfl (h2 t)|const v=>exact absurd rfl (h1 v)|func f=>simp[gk,ho]at hq|global g=>simp[gk,ho]at hq
 simp only[gk,ho]at hq;rw[aH (by simp[BN])]at h;unfold tk at h;have hx:iJ ds st (st.take x).2:=by
  cases x with
  |tmp t=>
   have ht:t∈ds:=by simp only[ae]at hq;simpa using hq.1
   exact iJ.put (d:=some t) (λi hi=>by cases hi;exact ht) _
  |const v=>exact iJ.refl _ _
  |func f=>exact iJ.refl _ _
  |global g=>exact iJ.refl _ _
 split at h;split at h;exact uI _ h;cases h;rename_i v st1 _ rk;cases h;have:(st.take x).2=st1:=by rw[rk]
 rw[this]at hx;exact hx.trans (iJ.put hd _);unfold CJ at h;split at h;rename_i t _;split at h;exact uI _ h;cases t with|true=>exact uI _ h|false=>exact uI _ h
 cases h;rename_i ho;simp[gk,ho]at hq;rename_i ho;simp[gk,ho]at hq;rename_i T p ho;simp only[gk,ho]at hq;have rk:C3 an o=false:=by unfold C3;cases Pa:o.dst with|none=>rfl|some d=>rw[Pa]at hq;simp only[aK]at hq;simp only[hq,dN]
 unfold oh at h;split at h;split at h;split at h;split at h;rename_i d Pa;rw[Pa]at hq;simp only at hq;have hf:an.mv.contains d=false:=by simpa using hq
 rw[hf]at h;simp only[aW,bU]at h;exact uI _ h;cases h;cases h;cases h;rw[aH (by simp[rk])]at h;split at h;split at h;exact uI _ h;cases h;unfold Bw at h;split at h;split at h;split at h;split at h;obtain⟨y,_,h⟩:=JJ h;exact uI _ h;cases h;cases h;cases h;cases h;cases h;rename_i ho;simp[gk,ho]at hq;split at h;exact uI _ h;exact uI _ h;cases h;unfold yV at h;split at h;split at h;exact Hz h λz hz=>uI _ hz;cases h;split at h;split at h;exact Hz h λz hz=>uI _ hz;cases h;cases h;split at h;split at h;cases h;exact KZ h λz hz=>uI _ hz;cases h;split at h;exact KZ h λz hz=>uI _ hz;cases h;exact Hz h λz hz=>uI _ hz;unfold unC at h;split at h;exact uI _ h;exact uI _ h;exact uI _ h;cases h;unfold ym at h;split at h;split at h;exact uI _ h;cases h;split at h;exact uI _ h;cases h;cases h;unfold lS at h;split at h;split at h;exact sK h λy hy=>uI _ hy;cases h;cases h;unfold zS at h;split at h;split at h;exact sK h λy hy=>uI _ hy;cases h;cases h;rename_i T parts ho;simp only[gk,ho]at hq;have he:parts=#[]:=by simpa using hq
 subst he;unfold zJ at h;split at h;simp only[eO,List.map_nil]at h;split at h;exact uI _ h;cases h;cases h;rename_i ho;simp[gk,ho]at hq;rename_i ho;simp[gk,ho]at hq;rename_i ho;simp only[gk,ho,aK]at hq;unfold yJ at h;rw[aH (by simp[hq])]at h;split at h;split at h;exact Gg h λx y hxy=>sK hxy λz hz=>uI _ hz;cases h;split at h;exact Gg h λx y hxy=>sK hxy λz hz=>uI _ hz;cases h;cases h;rename_i ho;simp[gk,ho]at hq;rename_i ho;simp[gk,ho]at hq;rename_i ho;simp[gk,ho]at hq;rename_i ho;simp[gk,ho]at hq;unfold KT at h;split at h;split at h;exact uI _ h;cases h;split at h;exact uI _ h;cases h;cases h;unfold Mu at h;split at h;exact uI _ h;cases h;unfold Mt at h;split at h;exact uI _ h;cases h;rename_i ho;simp[gk,ho]at hq;unfold BK at h;split at h;rename_i k _;rw[(yQ k).2.1,(yQ k).2.2,(yQ k).1]at h;simp only[af]at h;refine sK h λy hy=>?_;cases Mn:(Γ k).sel y with|true=>rw[Mn]at hy;cases hy;exact(iJ.fz hd).trans (iJ.put hd _)|false=>rw[Mn]at hy;cases hy;exact(iJ.fz hd).trans (iJ.put hd _)
 cases h;cases h
theorem So {ops:aw Oper}{o:Oper}(ho:o∈ops){i:Nat}(hi:o.dst=some i):i∈EA ops:=List.mem_filterMap.2 ⟨o,ho,hi⟩
theorem K0 {E:Env}(yQ:∀f,(Γ f).io=false/\(Γ f).bx=false/\(Γ f).pr=false){ops:aw Oper}{o:Oper}{bH:AS}(ho:o∈ops)(hq:gk an (EA ops) o=true)(h:gb E Γ an ops o st some=some bH):iJ (EA ops) st bH:=by
 have hd:∀i,o.dst=some i->i∈EA ops:=λi hi=>So ho hi;unfold gb at h;split at h;exact NJ yQ hq hd h;rename_i j E6 hg;split at h;rename_i d Pa;have hdm:d∈EA ops:=by rw[dJ]at Pa;cases I7:ops[j]? with|none=>rw[I7]at Pa;cases Pa|some o'=>rw[I7]at Pa;exact So (bn I7) Pa
 have hp:∀t,iJ (EA ops) st (st.put (some d) (.one (.bool t))):=λt=>iJ.put (λi hi=>by cases hi;exact hdm) _;split at h;rename_i b hb;have main:∀t,(if(t==E6)=true then cY E Γ an o (st.put (some d) (.one (.bool t))) some else some ((st.put (some d) (.one (.bool t))).put o.dst (.one .un)))=some bH->iJ (EA ops) st bH:=by intro t ht;split at ht;exact(hp t).trans (NJ yQ hq hd ht);cases ht;exact(hp t).trans (iJ.put hd _)
 cases b with|true=>exact main true h|false=>exact main false h
 cases h;exact iJ.put hd _;cases h;cases h
theorem Sy {E:Env}(yQ:∀f,(Γ f).io=false/\(Γ f).bx=false/\(Γ f).pr=false){ops:aw Oper}(hq:∀o∈ops,gk an (EA ops) o=true):∀(l:aw Oper)(st bH:AS),(∀o∈l,o∈ops)->PM E Γ an ops l st some=some bH->iJ (EA ops) st bH
 |[],st,bH,_,h=>by cases h;exact iJ.refl _ _
 |o::l,st,bH,hl,h=>by simp only[PM]at h;rw[pM]at h;cases hg:gb E Γ an ops o st some with|none=>rw[hg]at h;cases h|some st1=>rw[hg]at h;exact(K0 yQ (hl o (by simp)) (hq o (hl o (by simp))) hg).trans (Sy yQ hq l st1 bH (λo' I7=>hl o' (by simp[I7])) h)
theorem Ez:∀(l:fw)(st:AS),(∀i∈l,i∈ds)->iJ ds st (st.zi l)
 |[],st,_=>iJ.refl _ _
 |d::l,st,h=>by
  have hd:∀i,some d=some i->i∈ds:=λi hi=>by cases hi;exact h d (by simp)
  exact((iJ.put hd _).trans (iJ.fz hd)).trans (Ez l _ (λi hi=>h i (by simp[hi])))
theorem MY:∀(l:fw)(st:AS)(i:Nat)(av:AV),(st.zi l).slots[i]?=some av->i∈l\/st.slots[i]?=some .bot->av=.bot
 |[],st,i,av,h,hi=>by rcases hi with hi|hi;cases hi;have:st.slots[i]?=some av:=h;rw[hi]at this;cases this;rfl
 |d::l,st,i,av,h,hi=>by
  refine MY l _ i av h ?_;by_cases Mj:i∈l;exact .inl Mj;refine .inr ?_;rw[sZ,fK,br];have gS:i<st.slots.length:=by
   have h1:=(Ez (ds:=d::l) l ((st.put (some d) .bot).fz (some d)) (λi hi=>by simp[hi])).len;have h2:=(aF.1 h).1;have h3:(AS.zi ((st.put (some d) .bot).fz (some d)) l).slots.length=st.slots.length:=by rw[h1,sZ,fK,aC]
   have h4:i<(AS.zi ((st.put (some d) .bot).fz (some d)) l).slots.length:=h2;omega
  split;rename_i hdi;subst hdi;rw[aE gS];rename_i hdi;rcases hi with hi|hi;simp only[bO]at hi;rcases hi with hi|hi;exact absurd hi.symm hdi;exact absurd hi Mj;exact hi
theorem MZ:∀(l:fw)(st:AS)(i:Nat),i∈l\/(nth st.iss i).getD true=true->(nth (st.zi l).iss i).getD true=true
 |[],st,i,hi=>by rcases hi with hi|hi;cases hi;exact hi
 |d::l,st,i,hi=>by refine MZ l _ i ?_;by_cases Mj:i∈l;exact .inl Mj;refine .inr ?_;have he:(AS.fz (st.put (some d) .bot) (some d)).iss=gM st.iss d true:=rfl;rw[he,ft,dJ,br];split;split<;>rfl;rename_i hdi;rcases hi with hi|hi;simp only[bO]at hi;rcases hi with hi|hi;exact absurd hi.symm hdi;exact absurd hi Mj;rw[dJ]at hi;exact hi
theorem nq.weaken {bH:AS}(h:nq C bH a w)(hn:iJ ds st bH){s:Nat}{b:Bool}(hb:getBool bH s=some b):nq C ((st.zi ds).put (some s) (.one (.bool b))) a w:=by
 have DZ:bH.get s=.val false [.bool b]:=by unfold getBool at hb;split at hb;rename_i b' hg;cases hb;exact hg;cases hb
 have hkn:=h.known DZ;obtain⟨g,h⟩:=h;have hdn:=Ez (ds:=ds) ds st (λ_ hi=>hi);have sI:((st.zi ds).put (some s) (.one (.bool b))).boxes=bH.boxes:=by rw[kb,hdn.boxes,hn.boxes]
 have wN:((st.zi ds).put (some s) (.one (.bool b))).ep=bH.ep:=by rw[G6,hdn.ep,hn.ep]
 have hlen:((st.zi ds).put (some s) (.one (.bool b))).slots.length=bH.slots.length:=by rw[fK,aC,hdn.len,hn.len]
 have I5:∀t,md bH t->md ((st.zi ds).put (some s) (.one (.bool b))) t:=by intro t ht;rw[F9];rcases ht with ht|ht;exact .inl ht;refine .inr (MZ ds st _ ?_);by_cases hi:t/3/4096∈ds;exact .inl hi;exact .inr (by rw[<-hn.iss _ hi];exact ht)
 have tA:∀s',iU bH s'->iU ((st.zi ds).put (some s) (.one (.bool b))) s':=λs' hs=>by unfold iU at hs⊢;rw[sI];exact hs
 have hle:(cH C g bH w).Le (cH C g ((st.zi ds).put (some s) (.one (.bool b))) w):=⟨rfl,λt ht=>⟨I5 t ht,rfl⟩,λ_ _ _ _ _ hv=>hv,by show bH.ep<=_;rw[<-wN];exact aU _,λs' hs=>⟨tA s' hs,rfl⟩,λ_ b o u ho hu=>⟨ho,hu⟩⟩
 refine⟨g,h.step (λ_=>True) hle h.defers (by rw[hlen];exact h.size) (by rw[sI,hlen];exact h.bsize) h.frame h.fS (λb x _ hx=>⟨hx,rfl,rfl⟩) ?_ ?_ ?_ (.inl ⟨cv,by rw[Hm,hdn.io,hn.io]⟩)⟩;intro i av hi;rw[fK,br]at hi;split at hi;rename_i hsi;subst hsi;split at hi;cases hi;refine .inr ⟨[],lT ?_,by simp,by simp⟩;exact⟨hkn,rfl⟩;cases hi;by_cases Rz:i∈ds;have:=MY ds st i av hi (.inl Rz);subst this;exact .inr ⟨[],fR.bot _ _,by simp,by simp⟩;rw[hdn.slot i Rz]at hi;exact .inl ⟨cv,by rw[hn.slot i Rz];exact hi,rfl⟩;intro s' cs hs;rw[sI]at hs;exact .inl ⟨cv,hs,rfl⟩;intro k v av hk;simp at hk
theorem aet (Γ:xU)(f:Nat):(Γ.calm f).io=false/\(Γ.calm f).bx=false/\(Γ.calm f).pr=false:=by unfold xU.calm;cases h:(Γ f).io with|true=>exact⟨rfl,rfl,rfl⟩|false=>cases h2:(Γ f).bx with|true=>exact⟨rfl,rfl,rfl⟩|false=>cases h3:(Γ f).pr with|true=>exact⟨rfl,rfl,rfl⟩|false=>exact⟨h,h2,h3⟩
theorem afz (Γ:xU)(f:Nat):(Γ.E2 f).io=false/\((Γ.E2 f).bx=true->(Γ.E2 f).cur=true)/\(Γ.E2 f).pr=false:=by unfold xU.E2;cases h:(Γ f).io with|true=>exact⟨rfl,λh=>(by cases h),rfl⟩|false=>cases h3:(Γ f).pr with|true=>exact⟨rfl,λh=>(by cases h),rfl⟩|false=>cases h2:(Γ f).bx with|false=>exact⟨h,λh=>(by simp[h2]at h),h3⟩|true=>cases h4:(Γ f).cur with|true=>exact⟨h,λ_=>h4,h3⟩|false=>exact⟨rfl,λh=>(by cases h),rfl⟩
theorem afA (yQ:∀f,(Γ f).io=false/\(Γ f).bx=false/\(Γ f).pr=false)(f:Nat):(Γ.E2 f).io=false/\(Γ.E2 f).bx=false/\(Γ.E2 f).pr=false:=by have h:=yQ f;unfold xU.E2;rw[h.1,h.2.1,h.2.2];exact h
theorem Sound.E2 {E:Env}(h:Sound P E Γ):Sound P E Γ.E2:=by refine⟨h.ty,h.eqs,h.fts,λf=>?_,h.mixed⟩;unfold xU.E2;cases (Γ f).io||(Γ f).pr||((Γ f).bx&& !(Γ f).cur)with|true=>intro xs y hy;cases hy|false=>exact h.fns f
theorem Sound.calm {E:Env}(h:Sound P E Γ):Sound P E Γ.calm:=by refine⟨h.ty,h.eqs,h.fts,λf=>?_,h.mixed⟩;unfold xU.calm;cases (Γ f).io with|true=>intro xs y hy;cases hy|false=>cases (Γ f).bx with|true=>intro xs y hy;cases hy|false=>cases (Γ f).pr with|true=>intro xs y hy;cases hy|false=>exact h.fns f
end Go.Dn
