import Derived.Test.YtinkcmefgciifaaGreatDnDen
import Derived.Test.YtinkcmefgciifaaGreatDnNat
/- What is kept at a loop's door; what a region whose ways meet again leaves. -/
namespace Go.Dn
open Go.RowKit
variable {P:Program} {C:Ctx} {st:AS} {a:Act} {w:World} {R:Type} {r:R}
variable {an:An} {Γ:yk} {v:Value} {io:ax AC} {d:ay Nat} {ds keep:fy}
theorem El (keep:fy)(ep:Nat)(io:ax AC):∀(l:ax AV)(n i:Nat),(nj keep ep io n l)[i]?=(l[i]?).map λv=>if keep.contains (n+i) then v.mask keep ep io (n+i) else .bot
 |[],n,i=>by simp[nj]
 |v::l,n,0=>by simp[nj]
 |v::l,n,i+1=>by simp only[nj,eM];rw[El keep ep io l (n+1) i,show n+1+i=n+(i+1) by omega]
theorem Ae (keep:fy)(ep:Nat)(io:ax AC):∀(l:ax (ay (ax AC)))(n i:Nat),(ni keep ep io n l)[i]?=(l[i]?).map λb=>if keep.contains (n+i) then b.map (HL keep ep io (.box (n+i)) 0) else none
 |[],n,i=>by simp[ni]
 |v::l,n,0=>by simp[ni]
 |v::l,n,i+1=>by simp only[ni,eM];rw[Ae keep ep io l (n+1) i,show n+1+i=n+(i+1) by omega]
theorem vm (keep:fy)(ep:Nat)(io:ax AC):∀(l:ax AV)(n:Nat),(nj keep ep io n l).length=l.length
 |[],_=>rfl
 |_::l,n=>by simp[nj,vm keep ep io l]
theorem AH (keep:fy)(ep:Nat)(io:ax AC):∀(l:ax (ay (ax AC)))(n:Nat),(ni keep ep io n l).length=l.length
 |[],_=>rfl
 |_::l,n=>by simp[ni,AH keep ep io l]
def Uw:Value->AV->iG
 | .agg vs,.val true _=>vs.toList
 |v,_=>[v]
theorem UA {g:Bool}{vs:iG}{cs:ax AC}(h:Cut g v vs):Uw v (.val g cs)=vs:=by cases g with|true=>simp only[Cut,bQ]at h;subst h;simp[Uw]|false=>simp only[Cut]at h;subst h;cases v<;>rfl
def Be (ioV:iG)(st:AS)(a:Act)(w:World)(β:Nat->Nat)(t:Nat):Value:=
 if t%3=0/\t/3/4096=1000003 then(ioV[t/3%4096]?).getD undef
 else if t%3=0 then((Uw (a.tmps.getD (t/3/4096) undef) (st.get (t/3/4096)))[t/3%4096]?).getD undef
 else match w.heap[β (t/3/4096)]? with
  |some (.cells arr _ _)=>(arr.toList[t/3%4096]?).getD undef
  |_=>undef
def Ub (c c':RC)(io:ax AC):Prop:=∀j n (e:CT)(ys:ax e.D),AC.adm io j n e=some ys->∃v0 fp0,fg c.hw c.w (.sl e) [v0] ys fp0/\v0=c.hdr n/\∀q,(ky.io j).C9=some q->c'.iss q/\v0=c'.hdr q
theorem Z2 {c c':RC}(MB:Ub c c' io){rt:ky}{x:AC}{fp:fy}(h:gK c v x fp)(Dz:c'.hw=c.hw)(hw:c'.w=c.w)(hA:c'.A=c.A)(xh:c'.ep=0)(Hz:c'.β=c.β)(tQ:∀s,keep.contains s=true->c.Gy s->c'.Gy s)(mF:∀t,rt.C9=some t->c'.iss t/\v=c'.hdr t):gK c' v (x.mask keep c.ep io rt) fp:=by
 have hS:c'.S=c.S:=by funext b o;simp[RC.S,Dz,hA]
 cases x with
 |int k n=>exact h
 |bool b=>exact h
 |str s=>exact h
 |jB=>exact h
 |fn f=>exact h
 |un=>exact h
 |bot=>exact h
 |ptr s off=>simp only[AC.mask];split;rename_i hk;exact⟨by rw[Hz];exact h.1,tQ s hk h.2.1,h.2.2⟩;exact h.2.2
 |zX fl e y i off=>cases fl with|own t=>exact h.elim|nest _ _ _ _ _ _=>exact h.elim|part _ _ _ _=>exact h.elim|fi _ _ _=>exact h.elim|arg _=>exact h.1|loc ep pv=>exact h.1
 |sl fl e xs=>
  cases fl with
  |own t=>exact⟨fg.mono h.1 (λb _=>⟨by rw[hw],by rw[Dz]⟩),mF⟩
  |nest _ _ _ _ _ _=>exact h.1
  |part _ _ _ _=>exact h.1
  |fi _ _ _=>obtain⟨_,⟨k,hk,h3⟩,_⟩:=h;exact⟨λq hq=>(by cases hq),⟨k,hk,h3.mono (λb hb=>⟨by rw[hw],by rw[Dz]⟩)⟩,by simp⟩
  |arg _=>exact⟨h.1,by rw[hA,hw];exact h.2⟩
  |loc ep pv=>
   obtain⟨h1,h2,h3,h4,h5⟩:=h;have plain:gK c' v (if(ep==c.ep)=true then AC.sl (.loc 0 none) e xs else .bot) fp:=by split;rename_i he;refine⟨h1,by rw[xh];exact aS _,h3,λ_=>?_,by simp⟩;rw[hS,hw];exact h4 (by simpa using he);exact h1
   simp only[AC.mask];split;rename_i j n;split;rename_i ys CH;obtain⟨v0,fp0,gO,KW,hq⟩:=MB j n e ys CH;obtain⟨_,k2⟩:=h5 _ _ rfl;have hv:v0=v:=KW.trans k2.symm;subst hv;refine⟨h1,by rw[xh];exact aS _,Lr gO,λ_=>?_,λr t hp=>?_⟩;rw[hS,hw];exact fg.rep (λb o ho=> .inr ho) gO;cases uZ:(ky.io j).C9 with|none=>rw[uZ]at hp;cases hp|some q=>rw[uZ]at hp;simp at hp;obtain⟨_,rfl⟩:=hp;exact⟨(hq q uZ).1,(hq q uZ).2⟩
   exact plain;exact plain
theorem E0 {c c':RC}(MB:Ub c c' io){f:Nat->ky}(Dz:c'.hw=c.hw)(hw:c'.w=c.w)(hA:c'.A=c.A)(xh:c'.ep=0)(Hz:c'.β=c.β)
 (tQ:∀s,keep.contains s=true->c.Gy s->c'.Gy s):∀{vs:iG}{xs:ax AC}{fp:fy}(j:Nat),bD c vs xs fp->
  (∀i v,vs[i]?=some v->∀t,(f (j+i)).C9=some t->c'.iss t/\v=c'.hdr t)->bD c' vs (HL keep c.ep io f j xs) fp
 |[],[],_,_,h,_=>h
 |v::_,_::_,_,j,h,hm=>by obtain⟨f1,f2,rfl,h1,h2⟩:=h;exact⟨f1,f2,rfl,Z2 MB h1 Dz hw hA xh Hz tQ (λt ht=>hm 0 v rfl t ht),E0 MB Dz hw hA xh Hz tQ (j+1) h2 (λi u hu t ht=>hm (i+1) u (by simpa using hu) t (by rwa[show j+(i+1)=j+1+i by omega]))⟩
 |[],_::_,_,_,h,_=>h.elim
 |_::_,[],_,_,h,_=>h.elim
theorem adC {c:RC}{x:AC}{fp:fy}(h:gK c v x fp)(Fm:∀(tag:ay Nat)(e:CT)(xs:ax e.D),x=.sl (.own tag) e xs->False)(ahL:∀(tag:ay Nat)(i:Int)(ep:ay Nat)(e:CT)(xs:ax e.D),x=.sl (.fi tag i ep) e xs->False):fp=[]:=by
 cases x with
 |int k n=>exact h.2
 |bool b=>exact h.2
 |str s=>exact h.2
 |jB=>exact h.2
 |fn f=>exact h.2
 |un=>exact h.2
 |bot=>exact h
 |ptr s off=>exact h.2.2
 |zX fl e y i off=>cases fl with|own t=>exact h.elim|nest _ _ _ _ _ _=>exact h.elim|part _ _ _ _=>exact h.elim|fi _ _ _=>exact h.elim|arg _=>exact h.1|loc ep pv=>exact h.1
 |sl fl e xs=>cases fl with|own t=>exact(Fm _ _ _ rfl).elim|nest _ _ _ _ _ _=>exact h.1|part _ _ _ _=>exact h.1|fi _ _ _=>exact(ahL _ _ _ _ _ rfl).elim|arg _=>exact h.1|loc ep pv=>exact h.1
theorem ij.mask (h:ij C st a w)(keep:fy):ij C (st.mask keep) a w:=by
 obtain⟨g,h⟩:=h;let g':Gh:={g with hdr:=Be C.ioV st a w g.β}
 have tQ:∀s,keep.contains s=true->jb st s->jb (st.mask keep) s:=by rintro s hk ⟨cs,hs⟩;refine⟨HL keep st.ep st.io (.box s) 0 cs,?_⟩;show(ni keep st.ep st.io 0 st.boxes)[s]?=_;rw[Ae,hs];simp only[de,cr,aH hk]
 obtain⟨fpi,hri,hni,hli⟩:=h.io;have ajK:∀j v,C.ioV[j]?=some v->∀q,(ky.io j).C9=some q->mC (st.mask keep) q/\v=Be C.ioV st a w g.β q:=by
  intro j v hv q hq;simp only[ky.C9]at hq;cases hb:Nat.ble 4096 j with
  |true=>rw[hb]at hq;cases hq
  |false=>
   rw[hb]at hq;simp only[af,bc,XU]at hq;have hj:j<4096:=by rcases cd j 4096 with gY|yZ;exact gY;rw[gN yZ]at hb;cases hb
   have h0:q%3=0:=by omega
   have h1:q/3/4096=1000003:=by omega
   have h2:q/3%4096=j:=by omega
   refine⟨.inl (by omega),?_⟩;rw[Be,aH ⟨h0,h1⟩,h2,hv];rfl
 have agK:Ub (cM C g st w) (cM C g' (st.mask keep) w) st.io:=by
  intro j n e ys CH;unfold AC.adm at CH;split at CH;rename_i t' e' ys' hj;split at CH;rename_i he;subst he;cases ht:(t'==n)with
  |false=>rw[ht]at CH;cases CH
  |true=>
   rw[ht]at CH;have:t'=n:=by simpa using ht
   subst this;cases CH;rw[dK]at hj;obtain⟨v,f,hv,hr,_⟩:=hri.get j _ hj;exact⟨v,f,hr.1,(hr.2 t' rfl).2,λq hq=>ajK j v hv q hq⟩
  cases CH;cases CH
 have aoo:∀(j:Nat){vs:iG}{xs:ax AC}{fp:fy},bD (cM C g st w) vs xs fp->(∀i v,vs[i]?=some v->C.ioV[j+i]?=some v)->bD (cM C g' (st.mask keep) w) vs (Wb keep j xs) fp:=by
  intro j vs
  induction vs generalizing j with
  |nil=>intro xs fp hr _;cases xs with
   |nil=>exact hr
   |cons _ _=>exact hr.elim
  |cons v vs ih=>
   intro xs fp hr hv
   cases xs with
   |nil=>exact hr.elim
   |cons x xs=>
    obtain⟨f1,f2,rfl,r1,r2⟩:=hr
    refine⟨f1,f2,rfl,?_,ih (j+1) r2 (λi u hu=>by rw[show j+1+i=j+(i+1) by omega];exact hv (i+1) u (by simpa using hu))⟩
    have KW:=hv 0 v rfl
    rw[dT]at KW
    split
    ·rename_i tg e ys
     exact⟨r1.1,λq hq=>ajK j v KW q hq⟩
    ·rename_i tag i ep e ys
     obtain⟨_,⟨k,hk,h3⟩,_⟩:=r1
     exact⟨λq hq=>(by cases hq),⟨k,hk,h3⟩,by simp⟩
    ·rename_i s off
     split
     ·rename_i hk
      exact⟨r1.1,tQ s hk r1.2.1,r1.2.2⟩
     ·exact r1.2.2
    ·rename_i Fm ahL _
     cases hfl:x.jo with
     |true=>
      obtain⟨rfl,k⟩:=qG (c':=cM C g' (st.mask keep) w) r1 hfl
      exact k
     |false=>exact adC r1 Fm ahL
 refine⟨g',h.defers,?_,?_,λi av hi=>?_,λs cs hs=>?_,λk v av hk=>by simp at hk,h.fY,h.frame,⟨fpi,aoo 0 hri (λi v hv=>by rw[cr];exact hv),hni,hli⟩⟩;show _=(nj keep st.ep st.io 0 st.slots).length;rw[vm];exact h.size;show(ni keep st.ep st.io 0 st.boxes).length=(nj keep st.ep st.io 0 st.slots).length;rw[vm,AH];exact h.bsize;have nN:(nj keep st.ep st.io 0 st.slots)[i]?=some av:=hi;rw[El,cr]at nN;cases hv:st.slots[i]? with
 |none=>rw[hv]at nN;cases nN
 |some x=>
  rw[hv]at nN;simp only[de,bc]at nN;split at nN
  ·subst nN
   cases hx:x with
   |uW ts=>exact⟨[],fX.bot _ _,by simp,by simp⟩
   |val gg cs=>
    rw[hx]at hv
    obtain⟨fp,⟨vs,fj,hr⟩,hn,hl⟩:=h.slots i _ hv
    refine⟨fp,⟨vs,fj,E0 (io:=st.io) agK (c:=cM C g st w) (c':=cM C g' (st.mask keep) w) rfl rfl rfl rfl rfl tQ 0 hr ?_⟩,hn,hl⟩
    intro j u hu t ht
    simp only[cr,ky.C9]at ht
    cases hb:Nat.ble 4096 j with
    |true=>rw[hb]at ht;cases ht
    |false=>
     rw[hb]at ht
     simp only[af]at ht
     cases Eb:Nat.ble 1000000 i with
     |true=>rw[Eb]at ht;cases ht
     |false=>
     rw[Eb]at ht
     simp only[af,bc]at ht
     have hi6:i<1000000:=by rcases cd i 1000000 with gY|yZ;exact gY;rw[gN yZ]at Eb;cases Eb
     have hj:j<4096:=by rcases cd j 4096 with gY|yZ;exact gY;rw[gN yZ]at hb;cases hb
     have h0:t%3=0:=by omega
     have h1:t/3/4096=i:=by omega
     have h2:t/3%4096=j:=by omega
     refine⟨.inl (by omega),?_⟩
     show u=Be C.ioV st a w g.β t
     rw[Be,lv,aH h0,h1,h2,get_eq hv,UA fj,hu];rfl
  subst nN;exact⟨[],fX.bot _ _,by simp,by simp⟩
 have xi:(ni keep st.ep st.io 0 st.boxes)[s]?=some (some cs):=hs;rw[Ae,cr]at xi;cases hv:st.boxes[s]? with
 |none=>rw[hv]at xi;cases xi
 |some x=>
  rw[hv]at xi;simp only[de,bc]at xi;split at xi;cases hx:x with
  |none=>rw[hx]at xi;cases xi
  |some xs=>
   rw[hx]at xi hv;simp only[de,bc]at xi;subst xi;obtain⟨arr,T,fr,fp,hb,rz,hr,hn,hni,hl,Fl,Fo⟩:=h.boxes s xs hv;refine⟨arr,T,fr,fp,hb,rz,E0 (io:=st.io) agK (c:=cM C g st w) (c':=cM C g' (st.mask keep) w) rfl rfl rfl rfl rfl tQ 0 hr ?_,hn,hni,hl,Fl,Fo⟩;intro j u hu t ht;simp only[cr,ky.C9]at ht;cases Vp:Nat.ble 4096 j with
   |true=>rw[Vp]at ht;cases ht
   |false=>
    rw[Vp]at ht;simp only[af,bc]at ht;have hj:j<4096:=by rcases cd j 4096 with gY|yZ;exact gY;rw[gN yZ]at Vp;cases Vp
    have h0:¬t%3=0:=by omega
    have h1:t/3/4096=s:=by omega
    have h2:t/3%4096=j:=by omega
    refine⟨.inl (by omega),?_⟩;show u=Be C.ioV st a w g.β t;rw[Be,lv,aI h0,h1,h2,hb];simp only;rw[hu];rfl
  cases xi
structure iS (ds:List Nat) (st bN:AS):Prop where
 len:bN.slots.length=st.slots.length
 slot:∀i,i∉ds->bN.slots[i]?=st.slots[i]?
 boxes:bN.boxes=st.boxes
 ep:bN.ep=st.ep
 iss:∀i,i∉ds->nth bN.iss i=nth st.iss i
 aj7:bN.iss.length=st.iss.length
 io:bN.io=st.io
theorem iS.refl (ds:fy)(st:AS):iS ds st st:=⟨rfl,λ_ _=>rfl,rfl,rfl,λ_ _=>rfl,rfl,rfl⟩
theorem iS.trans {st st1 st2:AS}(h:iS ds st st1)(k:iS ds st1 st2):iS ds st st2:=⟨k.len.trans h.len,λi hi=>(k.slot i hi).trans (h.slot i hi),k.boxes.trans h.boxes,k.ep.trans h.ep,λi hi=>(k.iss i hi).trans (h.iss i hi),k.aj7.trans h.aj7,k.io.trans h.io⟩
theorem iS.put {st:AS}(hd:∀i,d=some i->i∈ds)(v:AV):iS ds st (st.put d v):=by cases d with|none=>exact iS.refl _ _|some d=>refine⟨by rw[fM,aC],λi hi=>?_,kA,Hq,λi _=>by rw[PZ],by rw[PZ],HF⟩;rw[fM,aN];rintro rfl;exact hi (hd _ rfl)
theorem iS.fz {st:AS}(hd:∀i,d=some i->i∈ds):iS ds st (st.fz d):=by cases d with|none=>exact iS.refl _ _|some d=>refine⟨rfl,λi _=>rfl,rfl,rfl,λi hi=>?_,?_,rfl⟩;simp only[AS.fz,dK,fu];rw[aN];rintro rfl;exact hi (hd _ rfl);simp only[AS.fz,fu,aC]
theorem tc {α:Type}{o:ay α}{k:α->ay AS}{bN:AS}(h:aa o k=some bN)(hk:∀x,k x=some bN->iS ds st bN):iS ds st bN:=by cases o with|none=>cases h|some x=>exact hk x h
theorem aag {n:Nat}{k:ay AS}{bN:AS}(h:room n k=some bN)(hk:k=some bN->iS ds st bN):iS ds st bN:=by unfold room at h;split at h;exact hk h;cases h
theorem Wj {op:BinOp}{k:IntKind}{x y:Int}{K:AC->ay AS}{bN:AS}(h:Gg op k x y K=some bN)(hk:∀z,K z=some bN->iS ds st bN):iS ds st bN:=by
 unfold Gg at h
 split at h<;>first
  |exact hk _ h
  |(split at h
    ·cases h
    ·exact hk _ h)
  |cases h
theorem Wk {op:BinOp}{x y:ax UInt8}{K:AC->ay AS}{bN:AS}(h:I6 op x y K=some bN)(hk:∀z,K z=some bN->iS ds st bN):iS ds st bN:=by
 unfold I6 at h
 split at h<;>first
  |exact aag h (hk _)
  |exact hk _ h
  |cases h
theorem HP {op:BinOp}{x y:AV}{K:AC->ay AS}{bN:AS}(h:DY op x y K=some bN)(hk:∀z,K z=some bN->iS ds st bN):iS ds st bN:=by unfold DY at h;split at h;split at h;split at h;cases h;exact hk _ h;split at h;cases h;exact hk _ h;split at h;exact Wj h hk;cases h;exact Wk h hk;split at h;exact hk _ h;exact hk _ h;cases h;split at h;exact tc h λb hb=>hk _ hb;exact tc h λb hb=>hk _ hb;cases h;cases h
theorem Gs {lo hi:ay Operand}{n:Nat}{K:Int->Int->ay AS}{st0 bN:AS}(h:mD st0 lo hi n K=some bN)(hk:∀x y,K x y=some bN->iS ds st bN):iS ds st bN:=by
 unfold mD at h
 split at h<;>first
  |exact hk _ _ h
  |cases h
theorem Ll {op:BinOp}{b:Bool}{K:AC->ay AS}{bN:AS}(h:BS op b K=some bN)(hk:∀c,K c=some bN->iS ds st bN):iS ds st bN:=by unfold BS at h;split at h;exact hk _ h;exact hk _ h;cases h
theorem N2 {E:Env}(zd:∀f,(Γ f).io=false/\(Γ f).bx=false/\(Γ f).pr=false){o:Oper}{bN:AS}(hq:gz an ds o=true)(hd:∀i,o.dst=some i->i∈ds)(h:da E Γ an o st some=some bN):iS ds st bN:=by
 have uY:∀v,some (st.put o.dst v)=some bN->iS ds st bN:=λv hv=>by cases hv;exact iS.put hd v
 unfold da at h;split at h;rename_i x ho;simp only[gz,ho]at hq;unfold AI at h;cases Px:o.dst with
 |none=>rw[Px]at h;cases h
 |some d=>
  rw[Px]at h hq;simp only at h hq;have hf:an.mv.contains d=false:=by simpa using hq
  rw[hf]at h;simp only[aY,bW]at h;cases h;exact iS.put (λi hi=>hd i (by rw[Px];exact hi)) _
 rename_i x ho;have BV:yN an o=false\/∃y,x=y/\(∀v,y≠ .const v)/\(∀t,y≠ .tmp t):=by cases x with|tmp t=>left;simp only[gz,ho,ae,aK]at hq;exact hq.2|const v=>left;simpa only[gz,ho,aK]using hq|func f=>simp[gz,ho]at hq|global g=>simp[gz,ho]at hq
 have BV:yN an o=false:=by rcases BV with h1|⟨y,rfl,h1,h2⟩;exact h1;cases x with|tmp t=>exact absurd rfl (h2 t)|const v=>exact absurd rfl (h1 v)|func f=>simp[gz,ho]at hq|global g=>simp[gz,ho]at hq
 simp only[gz,ho]at hq;rw[aI (by simp[BV])]at h;unfold tJ at h;have hx:iS ds st (st.take x).2:=by
  cases x with
  |tmp t=>
   have ht:t∈ds:=by simp only[ae]at hq;simpa using hq.1
   exact iS.put (d:=some t) (λi hi=>by cases hi;exact ht) _
  |const v=>exact iS.refl _ _
  |func f=>exact iS.refl _ _
  |global g=>exact iS.refl _ _
 split at h;split at h;exact uY _ h;cases h;rename_i v st1 _ rK;cases h;have:(st.take x).2=st1:=by rw[rK]
 rw[this]at hx;exact hx.trans (iS.put hd _);unfold CV at h;split at h;rename_i t _;split at h;exact uY _ h;cases t with|true=>exact uY _ h|false=>exact uY _ h
 cases h;rename_i ho;simp[gz,ho]at hq;rename_i ho;simp[gz,ho]at hq;rename_i T p ho;simp only[gz,ho]at hq;have rK:De an o=false:=by unfold De;cases Px:o.dst with|none=>rfl|some d=>rw[Px]at hq;simp only[aK]at hq;simp only[hq,eJ]
 unfold oG at h;split at h;split at h;split at h;split at h;rename_i d Px;rw[Px]at hq;simp only at hq;have hf:an.mv.contains d=false:=by simpa using hq
 rw[hf]at h;simp only[aY,bW]at h;exact uY _ h;cases h;cases h;cases h;rw[aI (by simp[rK])]at h;split at h;split at h;exact uY _ h;cases h;unfold BD at h;split at h;split at h;split at h;split at h;obtain⟨y,_,h⟩:=J5 h;exact uY _ h;cases h;cases h;cases h;cases h;cases h;rename_i ho;simp[gz,ho]at hq;split at h;exact uY _ h;exact uY _ h;cases h;unfold zj at h;split at h;split at h;exact HP h λz hz=>uY _ hz;cases h;split at h;split at h;exact HP h λz hz=>uY _ hz;cases h;cases h;split at h;split at h;cases h;exact Ll h λz hz=>uY _ hz;cases h;split at h;exact Ll h λz hz=>uY _ hz;cases h;exact HP h λz hz=>uY _ hz;unfold unC at h;split at h;exact uY _ h;exact uY _ h;exact uY _ h;cases h;unfold yA at h;split at h;split at h;exact uY _ h;cases h;split at h;exact uY _ h;cases h;cases h;unfold mn at h;split at h;split at h;exact tc h λy hy=>uY _ hy;cases h;cases h;unfold Ad at h;split at h;split at h;exact tc h λy hy=>uY _ hy;cases h;cases h;rename_i T parts ho;simp only[gz,ho]at hq;have he:parts=#[]:=by simpa using hq
 subst he;unfold zV at h;split at h;simp only[eS,List.map_nil]at h;split at h;exact uY _ h;cases h;cases h;rename_i ho;simp[gz,ho]at hq;rename_i ho;simp[gz,ho]at hq;rename_i ho;simp only[gz,ho,aK]at hq;unfold yV at h;rw[aI (by simp[hq])]at h;split at h;split at h;exact Gs h λx y hxy=>tc hxy λz hz=>uY _ hz;cases h;split at h;exact Gs h λx y hxy=>tc hxy λz hz=>uY _ hz;cases h;cases h;rename_i ho;simp[gz,ho]at hq;rename_i ho;simp[gz,ho]at hq;rename_i ho;simp[gz,ho]at hq;rename_i ho;simp[gz,ho]at hq;unfold Lg at h;split at h;split at h;exact uY _ h;cases h;split at h;exact uY _ h;cases h;cases h;unfold ML at h;split at h;exact uY _ h;cases h;unfold MK at h;split at h;exact uY _ h;cases h;rename_i ho;simp[gz,ho]at hq;unfold BR at h;split at h;rename_i k _;rw[(zd k).2.1,(zd k).2.2,(zd k).1]at h;simp only[af]at h;refine tc h λy hy=>?_;cases ME:(Γ k).sel y with|true=>rw[ME]at hy;cases hy;exact(iS.fz hd).trans (iS.put hd _)|false=>rw[ME]at hy;cases hy;exact(iS.fz hd).trans (iS.put hd _)
 cases h;cases h
theorem SH {ops:ax Oper}{o:Oper}(ho:o∈ops){i:Nat}(hi:o.dst=some i):i∈EJ ops:=List.mem_filterMap.2 ⟨o,ho,hi⟩
theorem Lm {E:Env}(zd:∀f,(Γ f).io=false/\(Γ f).bx=false/\(Γ f).pr=false){ops:ax Oper}{o:Oper}{bN:AS}(ho:o∈ops)(hq:gz an (EJ ops) o=true)(h:gu E Γ an ops o st some=some bN):iS (EJ ops) st bN:=by
 have hd:∀i,o.dst=some i->i∈EJ ops:=λi hi=>SH ho hi;unfold gu at h;split at h;exact N2 zd hq hd h;rename_i j Fg hg;split at h;rename_i d Px;have hdm:d∈EJ ops:=by rw[dK]at Px;cases Js:ops[j]? with|none=>rw[Js]at Px;cases Px|some o'=>rw[Js]at Px;exact SH (bp Js) Px
 have hp:∀t,iS (EJ ops) st (st.put (some d) (.one (.bool t))):=λt=>iS.put (λi hi=>by cases hi;exact hdm) _;split at h;rename_i b hb;have main:∀t,(if(t==Fg)=true then da E Γ an o (st.put (some d) (.one (.bool t))) some else some ((st.put (some d) (.one (.bool t))).put o.dst (.one .un)))=some bN->iS (EJ ops) st bN:=by intro t ht;split at ht;exact(hp t).trans (N2 zd hq hd ht);cases ht;exact(hp t).trans (iS.put hd _)
 cases b with|true=>exact main true h|false=>exact main false h
 cases h;exact iS.put hd _;cases h;cases h
theorem SQ {E:Env}(zd:∀f,(Γ f).io=false/\(Γ f).bx=false/\(Γ f).pr=false){ops:ax Oper}(hq:∀o∈ops,gz an (EJ ops) o=true):∀(l:ax Oper)(st bN:AS),(∀o∈l,o∈ops)->P6 E Γ an ops l st some=some bN->iS (EJ ops) st bN
 |[],st,bN,_,h=>by cases h;exact iS.refl _ _
 |o::l,st,bN,hl,h=>by simp only[P6]at h;rw[ql]at h;cases hg:gu E Γ an ops o st some with|none=>rw[hg]at h;cases h|some st1=>rw[hg]at h;exact(Lm zd (hl o (by simp)) (hq o (hl o (by simp))) hg).trans (SQ zd hq l st1 bN (λo' Js=>hl o' (by simp[Js])) h)
theorem EI:∀(l:fy)(st:AS),(∀i∈l,i∈ds)->iS ds st (st.zy l)
 |[],st,_=>iS.refl _ _
 |d::l,st,h=>by
  have hd:∀i,some d=some i->i∈ds:=λi hi=>by cases hi;exact h d (by simp)
  exact((iS.put hd _).trans (iS.fz hd)).trans (EI l _ (λi hi=>h i (by simp[hi])))
theorem Ni:∀(l:fy)(st:AS)(i:Nat)(av:AV),(st.zy l).slots[i]?=some av->i∈l\/st.slots[i]?=some .bot->av=.bot
 |[],st,i,av,h,hi=>by rcases hi with hi|hi;cases hi;have:st.slots[i]?=some av:=h;rw[hi]at this;cases this;rfl
 |d::l,st,i,av,h,hi=>by
  refine Ni l _ i av h ?_;by_cases MA:i∈l;exact .inl MA;refine .inr ?_;rw[tA,fM,br];have gY:i<st.slots.length:=by
   have h1:=(EI (ds:=d::l) l ((st.put (some d) .bot).fz (some d)) (λi hi=>by simp[hi])).len;have h2:=(aG.1 h).1;have h3:(AS.zy ((st.put (some d) .bot).fz (some d)) l).slots.length=st.slots.length:=by rw[h1,tA,fM,aC]
   have h4:i<(AS.zy ((st.put (some d) .bot).fz (some d)) l).slots.length:=h2;omega
  split;rename_i hdi;subst hdi;rw[aH gY];rename_i hdi;rcases hi with hi|hi;simp only[cn]at hi;rcases hi with hi|hi;exact absurd hi.symm hdi;exact absurd hi MA;exact hi
theorem Nj:∀(l:fy)(st:AS)(i:Nat),i∈l\/(nth st.iss i).getD true=true->(nth (st.zy l).iss i).getD true=true
 |[],st,i,hi=>by rcases hi with hi|hi;cases hi;exact hi
 |d::l,st,i,hi=>by refine Nj l _ i ?_;by_cases MA:i∈l;exact .inl MA;refine .inr ?_;have he:(AS.fz (st.put (some d) .bot) (some d)).iss=gU st.iss d true:=rfl;rw[he,fu,dK,br];split;split<;>rfl;rename_i hdi;rcases hi with hi|hi;simp only[cn]at hi;rcases hi with hi|hi;exact absurd hi.symm hdi;exact absurd hi MA;rw[dK]at hi;exact hi
theorem ij.weaken {bN:AS}(h:ij C bN a w)(hn:iS ds st bN){s:Nat}{b:Bool}(hb:getBool bN s=some b):ij C ((st.zy ds).put (some s) (.one (.bool b))) a w:=by
 have Eb:bN.get s=.val false [.bool b]:=by unfold getBool at hb;split at hb;rename_i b' hg;cases hb;exact hg;cases hb
 have hkn:=h.known Eb;obtain⟨g,h⟩:=h;have hdn:=EI (ds:=ds) ds st (λ_ hi=>hi);have sZ:((st.zy ds).put (some s) (.one (.bool b))).boxes=bN.boxes:=by rw[kA,hdn.boxes,hn.boxes]
 have xh:((st.zy ds).put (some s) (.one (.bool b))).ep=bN.ep:=by rw[Hq,hdn.ep,hn.ep]
 have hlen:((st.zy ds).put (some s) (.one (.bool b))).slots.length=bN.slots.length:=by rw[fM,aC,hdn.len,hn.len]
 have Jq:∀t,mC bN t->mC ((st.zy ds).put (some s) (.one (.bool b))) t:=by intro t ht;rw[Gk];rcases ht with ht|ht;exact .inl ht;refine .inr (Nj ds st _ ?_);by_cases hi:t/3/4096∈ds;exact .inl hi;exact .inr (by rw[<-hn.iss _ hi];exact ht)
 have tQ:∀s',jb bN s'->jb ((st.zy ds).put (some s) (.one (.bool b))) s':=λs' hs=>by unfold jb at hs⊢;rw[sZ];exact hs
 have hle:(cM C g bN w).Le (cM C g ((st.zy ds).put (some s) (.one (.bool b))) w):=⟨rfl,λt ht=>⟨Jq t ht,rfl⟩,λ_ _ _ _ _ hv=>hv,by show bN.ep<=_;rw[<-xh];exact aS _,λs' hs=>⟨tQ s' hs,rfl⟩,λ_ b o u ho hu=>⟨ho,hu⟩⟩
 refine⟨g,h.step (λ_=>True) hle h.defers (by rw[hlen];exact h.size) (by rw[sZ,hlen];exact h.bsize) h.frame h.fY (λb x _ hx=>⟨hx,rfl,rfl⟩) ?_ ?_ ?_ (.inl ⟨cq,by rw[HF,hdn.io,hn.io]⟩)⟩;intro i av hi;rw[fM,br]at hi;split at hi;rename_i hsi;subst hsi;split at hi;cases hi;refine .inr ⟨[],mq ?_,by simp,by simp⟩;exact⟨hkn,rfl⟩;cases hi;by_cases RR:i∈ds;have:=Ni ds st i av hi (.inl RR);subst this;exact .inr ⟨[],fX.bot _ _,by simp,by simp⟩;rw[hdn.slot i RR]at hi;exact .inl ⟨cq,by rw[hn.slot i RR];exact hi,rfl⟩;intro s' cs hs;rw[sZ]at hs;exact .inl ⟨cq,hs,rfl⟩;intro k v av hk;simp at hk
theorem afb (Γ:yk)(f:Nat):(Γ.calm f).io=false/\(Γ.calm f).bx=false/\(Γ.calm f).pr=false:=by unfold yk.calm;cases h:(Γ f).io with|true=>exact⟨rfl,rfl,rfl⟩|false=>cases h2:(Γ f).bx with|true=>exact⟨rfl,rfl,rfl⟩|false=>cases h3:(Γ f).pr with|true=>exact⟨rfl,rfl,rfl⟩|false=>exact⟨h,h2,h3⟩
theorem agh (Γ:yk)(f:Nat):(Γ.Fb f).io=false/\((Γ.Fb f).bx=true->(Γ.Fb f).cur=true)/\(Γ.Fb f).pr=false:=by unfold yk.Fb;cases h:(Γ f).io with|true=>exact⟨rfl,λh=>(by cases h),rfl⟩|false=>cases h3:(Γ f).pr with|true=>exact⟨rfl,λh=>(by cases h),rfl⟩|false=>cases h2:(Γ f).bx with|false=>exact⟨h,λh=>(by simp[h2]at h),h3⟩|true=>cases h4:(Γ f).cur with|true=>exact⟨h,λ_=>h4,h3⟩|false=>exact⟨rfl,λh=>(by cases h),rfl⟩
theorem agi (zd:∀f,(Γ f).io=false/\(Γ f).bx=false/\(Γ f).pr=false)(f:Nat):(Γ.Fb f).io=false/\(Γ.Fb f).bx=false/\(Γ.Fb f).pr=false:=by have h:=zd f;unfold yk.Fb;rw[h.1,h.2.1,h.2.2];exact h
theorem Sound.Fb {E:Env}(h:Sound P E Γ):Sound P E Γ.Fb:=by refine⟨h.ty,h.eqs,h.fts,λf=>?_,h.mixed⟩;unfold yk.Fb;cases (Γ f).io||(Γ f).pr||((Γ f).bx&& !(Γ f).cur)with|true=>intro xs y hy;cases hy|false=>exact h.fns f
theorem Sound.calm {E:Env}(h:Sound P E Γ):Sound P E Γ.calm:=by refine⟨h.ty,h.eqs,h.fts,λf=>?_,h.mixed⟩;unfold yk.calm;cases (Γ f).io with|true=>intro xs y hy;cases hy|false=>cases (Γ f).bx with|true=>intro xs y hy;cases hy|false=>cases (Γ f).pr with|true=>intro xs y hy;cases hy|false=>exact h.fns f
end Go.Dn
