import Derived.Test.YtbebkmajekhclaaGreatDnDen
import Derived.Test.YtbebkmajekhclaaGreatDnNat
/- What is kept at a loop's door; what a region whose ways meet again leaves. -/
namespace Go.Dn
open Go.RowKit
variable {P:Program} {C:Ctx} {st:AS} {a:Act} {w:World} {R:Type} {r:R}
variable {an:An} {Γ:BV} {v:Value} {io:ax AC} {d:az Nat} {ds keep:fK}
theorem Ij (keep:fK)(ep:Nat)(io:ax AC):∀(l:ax AV)(n i:Nat),(pg keep ep io n l)[i]?=(l[i]?).map λv=>if keep.contains (n+i) then v.mask keep ep io (n+i) else .bot
 |[],n,i=>by simp[pg]
 |v::l,n,0=>by simp[pg]
 |v::l,n,i+1=>by simp only[pg,eT];rw[Ij keep ep io l (n+1) i,show n+1+i=n+(i+1) by omega]
theorem DN (keep:fK)(ep:Nat)(io:ax AC):∀(l:ax (az (ax AC)))(n i:Nat),(pc keep ep io n l)[i]?=(l[i]?).map λb=>if keep.contains (n+i) then b.map (LY keep ep io (.box (n+i)) 0) else none
 |[],n,i=>by simp[pc]
 |v::l,n,0=>by simp[pc]
 |v::l,n,i+1=>by simp only[pc,eT];rw[DN keep ep io l (n+1) i,show n+1+i=n+(i+1) by omega]
theorem yC (keep:fK)(ep:Nat)(io:ax AC):∀(l:ax AV)(n:Nat),(pg keep ep io n l).length=l.length
 |[],_=>rfl
 |_::l,n=>by simp[pg,yC keep ep io l]
theorem Ek (keep:fK)(ep:Nat)(io:ax AC):∀(l:ax (az (ax AC)))(n:Nat),(pc keep ep io n l).length=l.length
 |[],_=>rfl
 |_::l,n=>by simp[pc,Ek keep ep io l]
def aaz:Value->AV->jt
 | .agg vs,.val true _=>vs.toList
 |v,_=>[v]
theorem aaD {g:Bool}{vs:jt}{cs:ax AC}(h:Cut g v vs):aaz v (.val g cs)=vs:=by cases g with|true=>simp only[Cut,ch]at h;subst h;simp[aaz]|false=>simp only[Cut]at h;subst h;cases v<;>rfl
def ER (ioV:jt)(st:AS)(a:Act)(w:World)(β:Nat->Nat)(t:Nat):Value:=
 if t%3=0/\t/3/4096=1000003 then(ioV[t/3%4096]?).getD undef
 else if t%3=0 then((aaz (a.tmps.getD (t/3/4096) undef) (st.get (t/3/4096)))[t/3%4096]?).getD undef
 else match w.heap[β (t/3/4096)]? with
  |some (.cells arr _ _)=>(arr.toList[t/3%4096]?).getD undef
  |_=>undef
def aab (c c':RC)(io:ax AC):Prop:=∀j n (e:CT)(ys:ax e.D),AC.ajD io j n e=some ys->∃v0 fp0,fZ c.hw c.w (.sl e) [v0] ys fp0/\v0=c.hdr n/\∀q,(lQ.io j).GU=some q->c'.iss q/\v0=c'.hdr q
theorem agd {c c':RC}(RS:aab c c' io){rt:lQ}{x:AC}{fp:fK}(h:iC c v x fp)(Hr:c'.hw=c.hw)(hw:c'.w=c.w)(hA:c'.A=c.A)(Aw:c'.ep=0)(LC:c'.β=c.β)(wX:∀s,keep.contains s=true->c.KI s->c'.KI s)(nY:∀t,rt.GU=some t->c'.iss t/\v=c'.hdr t):iC c' v (x.mask keep c.ep io rt) fp:=by
 have hS:c'.S=c.S:=by funext b o;simp[RC.S,Hr,hA]
 cases x with
 |int k n=>exact h
 |bool b=>exact h
 |str s=>exact h
 |kI=>exact h
 |fn f=>exact h
 |un=>exact h
 |bot=>exact h
 |ptr s off=>simp only[AC.mask];split;rename_i hk;exact⟨by rw[LC];exact h.1,wX s hk h.2.1,h.2.2⟩;exact h.2.2
 |Dy fl e y i off=>cases fl with|own t=>exact h.elim|nest _ _ _ _ _ _=>exact h.elim|part _ _ _ _=>exact h.elim|ga _ _ _=>exact h.elim|arg _=>exact h.1|loc ep pv=>exact h.1
 |sl fl e xs=>
  cases fl with
  |own t=>exact⟨fZ.mono h.1 (λb _=>⟨by rw[hw],by rw[Hr]⟩),nY⟩
  |nest _ _ _ _ _ _=>exact h.1
  |part _ _ _ _=>exact h.1
  |ga _ _ _=>obtain⟨_,⟨k,hk,h3⟩,_⟩:=h;exact⟨λq hq=>(by cases hq),⟨k,hk,h3.mono (λb hb=>⟨by rw[hw],by rw[Hr]⟩)⟩,by simp⟩
  |arg _=>exact⟨h.1,by rw[hA,hw];exact h.2⟩
  |loc ep pv=>
   obtain⟨h1,h2,h3,h4,h5⟩:=h;have plain:iC c' v (if(ep==c.ep)=true then AC.sl (.loc 0 none) e xs else .bot) fp:=by split;rename_i he;refine⟨h1,by rw[Aw];exact bj _,h3,λ_=>?_,by simp⟩;rw[hS,hw];exact h4 (by simpa using he);exact h1
   simp only[AC.mask];split;rename_i j n;split;rename_i ys Gp;obtain⟨v0,fp0,iz,PX,hq⟩:=RS j n e ys Gp;obtain⟨_,k2⟩:=h5 _ _ rfl;have hv:v0=v:=PX.trans k2.symm;subst hv;refine⟨h1,by rw[Aw];exact bj _,Qt iz,λ_=>?_,λr t hp=>?_⟩;rw[hS,hw];exact fZ.rep (λb o ho=> .inr ho) iz;cases yk:(lQ.io j).GU with|none=>rw[yk]at hp;cases hp|some q=>rw[yk]at hp;simp at hp;obtain⟨_,rfl⟩:=hp;exact⟨(hq q yk).1,(hq q yk).2⟩
   exact plain;exact plain
theorem I6 {c c':RC}(RS:aab c c' io){f:Nat->lQ}(Hr:c'.hw=c.hw)(hw:c'.w=c.w)(hA:c'.A=c.A)(Aw:c'.ep=0)(LC:c'.β=c.β)
 (wX:∀s,keep.contains s=true->c.KI s->c'.KI s):∀{vs:jt}{xs:ax AC}{fp:fK}(j:Nat),bU c vs xs fp->
  (∀i v,vs[i]?=some v->∀t,(f (j+i)).GU=some t->c'.iss t/\v=c'.hdr t)->bU c' vs (LY keep c.ep io f j xs) fp
 |[],[],_,_,h,_=>h
 |v::_,_::_,_,j,h,hm=>by obtain⟨f1,f2,rfl,h1,h2⟩:=h;exact⟨f1,f2,rfl,agd RS h1 Hr hw hA Aw LC wX (λt ht=>hm 0 v rfl t ht),I6 RS Hr hw hA Aw LC wX (j+1) h2 (λi u hu t ht=>hm (i+1) u (by simpa using hu) t (by rwa[show j+(i+1)=j+1+i by omega]))⟩
 |[],_::_,_,_,h,_=>h.elim
 |_::_,[],_,_,h,_=>h.elim
theorem ajX {c:RC}{x:AC}{fp:fK}(h:iC c v x fp)(Ht:∀(tag:az Nat)(e:CT)(xs:ax e.D),x=.sl (.own tag) e xs->False)(aot:∀(tag:az Nat)(i:Int)(ep:az Nat)(e:CT)(xs:ax e.D),x=.sl (.ga tag i ep) e xs->False):fp=[]:=by
 cases x with
 |int k n=>exact h.2
 |bool b=>exact h.2
 |str s=>exact h.2
 |kI=>exact h.2
 |fn f=>exact h.2
 |un=>exact h.2
 |bot=>exact h
 |ptr s off=>exact h.2.2
 |Dy fl e y i off=>cases fl with|own t=>exact h.elim|nest _ _ _ _ _ _=>exact h.elim|part _ _ _ _=>exact h.elim|ga _ _ _=>exact h.elim|arg _=>exact h.1|loc ep pv=>exact h.1
 |sl fl e xs=>cases fl with|own t=>exact(Ht _ _ _ rfl).elim|nest _ _ _ _ _ _=>exact h.1|part _ _ _ _=>exact h.1|ga _ _ _=>exact(aot _ _ _ _ _ rfl).elim|arg _=>exact h.1|loc ep pv=>exact h.1
theorem pL.mask (h:pL C st a w)(keep:fK):pL C (st.mask keep) a w:=by
 obtain⟨g,h⟩:=h;let g':Gh:={g with hdr:=ER C.ioV st a w g.β}
 have wX:∀s,keep.contains s=true->jW st s->jW (st.mask keep) s:=by rintro s hk ⟨cs,hs⟩;refine⟨LY keep st.ep st.io (.box s) 0 cs,?_⟩;show(pc keep st.ep st.io 0 st.boxes)[s]?=_;rw[DN,hs];simp only[dH,cy,aI hk]
 obtain⟨fpi,hri,hni,hli⟩:=h.io;have aqw:∀j v,C.ioV[j]?=some v->∀q,(lQ.io j).GU=some q->oc (st.mask keep) q/\v=ER C.ioV st a w g.β q:=by
  intro j v hv q hq;simp only[lQ.GU]at hq;cases hb:Nat.ble 4096 j with
  |true=>rw[hb]at hq;cases hq
  |false=>
   rw[hb]at hq;simp only[af,bq,adX]at hq;have hj:j<4096:=by rcases cr j 4096 with gH|Cg;exact gH;rw[iG Cg]at hb;cases hb
   have h0:q%3=0:=by omega
   have h1:q/3/4096=1000003:=by omega
   have h2:q/3%4096=j:=by omega
   refine⟨.inl (by omega),?_⟩;rw[ER,aI ⟨h0,h1⟩,h2,hv];rfl
 have ani:aab (df C g st w) (df C g' (st.mask keep) w) st.io:=by
  intro j n e ys Gp;unfold AC.ajD at Gp;split at Gp;rename_i t' e' ys' hj;split at Gp;rename_i he;subst he;cases ht:(t'==n)with
  |false=>rw[ht]at Gp;cases Gp
  |true=>
   rw[ht]at Gp;have:t'=n:=by simpa using ht
   subst this;cases Gp;rw[eH]at hj;obtain⟨v,f,hv,hr,_⟩:=hri.get j _ hj;exact⟨v,f,hr.1,(hr.2 t' rfl).2,λq hq=>aqw j v hv q hq⟩
  cases Gp;cases Gp
 have avE:∀(j:Nat){vs:jt}{xs:ax AC}{fp:fK},bU (df C g st w) vs xs fp->(∀i v,vs[i]?=some v->C.ioV[j+i]?=some v)->bU (df C g' (st.mask keep) w) vs (ach keep j xs) fp:=by
  intro j vs
  induction vs generalizing j with
  |nil=>intro xs fp hr _;cases xs with
   |nil=>exact hr
   |cons _ _=>exact hr.elim
  |cons v vs ih=>
   intro xs fp hr hv
   cases xs with
   |nil=>exact hr.elim
   |cons x xs=>
    obtain⟨f1,f2,rfl,r1,r2⟩:=hr
    refine⟨f1,f2,rfl,?_,ih (j+1) r2 (λi u hu=>by rw[show j+1+i=j+(i+1) by omega];exact hv (i+1) u (by simpa using hu))⟩
    have PX:=hv 0 v rfl
    rw[eP]at PX
    split
    ·rename_i tg e ys
     exact⟨r1.1,λq hq=>aqw j v PX q hq⟩
    ·rename_i tag i ep e ys
     obtain⟨_,⟨k,hk,h3⟩,_⟩:=r1
     exact⟨λq hq=>(by cases hq),⟨k,hk,h3⟩,by simp⟩
    ·rename_i s off
     split
     ·rename_i hk
      exact⟨r1.1,wX s hk r1.2.1,r1.2.2⟩
     ·exact r1.2.2
    ·rename_i Ht aot _
     cases hfl:x.kx with
     |true=>
      obtain⟨rfl,k⟩:=ti (c':=df C g' (st.mask keep) w) r1 hfl
      exact k
     |false=>exact ajX r1 Ht aot
 refine⟨g',h.defers,?_,?_,λi av hi=>?_,λs cs hs=>?_,λk v av hk=>by simp at hk,h.gW,h.frame,⟨fpi,avE 0 hri (λi v hv=>by rw[cy];exact hv),hni,hli⟩⟩;show _=(pg keep st.ep st.io 0 st.slots).length;rw[yC];exact h.size;show(pc keep st.ep st.io 0 st.boxes).length=(pg keep st.ep st.io 0 st.slots).length;rw[yC,Ek];exact h.bsize;have wL:(pg keep st.ep st.io 0 st.slots)[i]?=some av:=hi;rw[Ij,cy]at wL;cases hv:st.slots[i]? with
 |none=>rw[hv]at wL;cases wL
 |some x=>
  rw[hv]at wL;simp only[dH,bq]at wL;split at wL
  ·subst wL
   cases hx:x with
   |yh ts=>exact⟨[],gU.bot _ _,by simp,by simp⟩
   |val gg cs=>
    rw[hx]at hv
    obtain⟨fp,⟨vs,gb,hr⟩,hn,hl⟩:=h.slots i _ hv
    refine⟨fp,⟨vs,gb,I6 (io:=st.io) ani (c:=df C g st w) (c':=df C g' (st.mask keep) w) rfl rfl rfl rfl rfl wX 0 hr ?_⟩,hn,hl⟩
    intro j u hu t ht
    simp only[cy,lQ.GU]at ht
    cases hb:Nat.ble 4096 j with
    |true=>rw[hb]at ht;cases ht
    |false=>
     rw[hb]at ht
     simp only[af]at ht
     cases Hq:Nat.ble 1000000 i with
     |true=>rw[Hq]at ht;cases ht
     |false=>
     rw[Hq]at ht
     simp only[af,bq]at ht
     have hi6:i<1000000:=by rcases cr i 1000000 with gH|Cg;exact gH;rw[iG Cg]at Hq;cases Hq
     have hj:j<4096:=by rcases cr j 4096 with gH|Cg;exact gH;rw[iG Cg]at hb;cases hb
     have h0:t%3=0:=by omega
     have h1:t/3/4096=i:=by omega
     have h2:t/3%4096=j:=by omega
     refine⟨.inl (by omega),?_⟩
     show u=ER C.ioV st a w g.β t
     rw[ER,nU,aI h0,h1,h2,get_eq hv,aaD gb,hu];rfl
  subst wL;exact⟨[],gU.bot _ _,by simp,by simp⟩
 have yp:(pc keep st.ep st.io 0 st.boxes)[s]?=some (some cs):=hs;rw[DN,cy]at yp;cases hv:st.boxes[s]? with
 |none=>rw[hv]at yp;cases yp
 |some x=>
  rw[hv]at yp;simp only[dH,bq]at yp;split at yp;cases hx:x with
  |none=>rw[hx]at yp;cases yp
  |some xs=>
   rw[hx]at yp hv;simp only[dH,bq]at yp;subst yp;obtain⟨arr,T,fr,fp,hb,uv,hr,hn,hni,hl,Jq,Jt⟩:=h.boxes s xs hv;refine⟨arr,T,fr,fp,hb,uv,I6 (io:=st.io) ani (c:=df C g st w) (c':=df C g' (st.mask keep) w) rfl rfl rfl rfl rfl wX 0 hr ?_,hn,hni,hl,Jq,Jt⟩;intro j u hu t ht;simp only[cy,lQ.GU]at ht;cases hbb:Nat.ble 4096 j with
   |true=>rw[hbb]at ht;cases ht
   |false=>
    rw[hbb]at ht;simp only[af,bq]at ht;have hj:j<4096:=by rcases cr j 4096 with gH|Cg;exact gH;rw[iG Cg]at hbb;cases hbb
    have h0:¬t%3=0:=by omega
    have h1:t/3/4096=s:=by omega
    have h2:t/3%4096=j:=by omega
    refine⟨.inl (by omega),?_⟩;show u=ER C.ioV st a w g.β t;rw[ER,nU,aG h0,h1,h2,hb];simp only;rw[hu];rfl
  cases yp
structure jF (ds:List Nat) (st bZ:AS):Prop where
 len:bZ.slots.length=st.slots.length
 slot:∀i,i∉ds->bZ.slots[i]?=st.slots[i]?
 boxes:bZ.boxes=st.boxes
 ep:bZ.ep=st.ep
 iss:∀i,i∉ds->nth bZ.iss i=nth st.iss i
 aqT:bZ.iss.length=st.iss.length
 io:bZ.io=st.io
theorem jF.refl (ds:fK)(st:AS):jF ds st st:=⟨rfl,λ_ _=>rfl,rfl,rfl,λ_ _=>rfl,rfl,rfl⟩
theorem jF.trans {st st1 st2:AS}(h:jF ds st st1)(k:jF ds st1 st2):jF ds st st2:=⟨k.len.trans h.len,λi hi=>(k.slot i hi).trans (h.slot i hi),k.boxes.trans h.boxes,k.ep.trans h.ep,λi hi=>(k.iss i hi).trans (h.iss i hi),k.aqT.trans h.aqT,k.io.trans h.io⟩
theorem jF.put {st:AS}(hd:∀i,d=some i->i∈ds)(v:AV):jF ds st (st.put d v):=by cases d with|none=>exact jF.refl _ _|some d=>refine⟨by rw[gG,aC],λi hi=>?_,lR,Lw,λi _=>by rw[VH],by rw[VH],LP⟩;rw[gG,aP];rintro rfl;exact hi (hd _ rfl)
theorem jF.gn {st:AS}(hd:∀i,d=some i->i∈ds):jF ds st (st.gn d):=by cases d with|none=>exact jF.refl _ _|some d=>refine⟨rfl,λi _=>rfl,rfl,rfl,λi hi=>?_,?_,rfl⟩;simp only[AS.gn,eH,gj];rw[aP];rintro rfl;exact hi (hd _ rfl);simp only[AS.gn,gj,aC]
theorem wb {α:Type}{o:az α}{k:α->az AS}{bZ:AS}(h:aa o k=some bZ)(hk:∀x,k x=some bZ->jF ds st bZ):jF ds st bZ:=by cases o with|none=>cases h|some x=>exact hk x h
theorem agr {n:Nat}{k:az AS}{bZ:AS}(h:room n k=some bZ)(hk:k=some bZ->jF ds st bZ):jF ds st bZ:=by unfold room at h;split at h;exact hk h;cases h
theorem acr {op:BinOp}{k:IntKind}{x y:Int}{K:AC->az AS}{bZ:AS}(h:Kl op k x y K=some bZ)(hk:∀z,K z=some bZ->jF ds st bZ):jF ds st bZ:=by
 unfold Kl at h
 split at h<;>first
  |exact hk _ h
  |(split at h
    ·cases h
    ·exact hk _ h)
  |cases h
theorem acs {op:BinOp}{x y:ax UInt8}{K:AC->az AS}{bZ:AS}(h:Ns op x y K=some bZ)(hk:∀z,K z=some bZ->jF ds st bZ):jF ds st bZ:=by
 unfold Ns at h
 split at h<;>first
  |exact agr h (hk _)
  |exact hk _ h
  |cases h
theorem L3 {op:BinOp}{x y:AV}{K:AC->az AS}{bZ:AS}(h:HP op x y K=some bZ)(hk:∀z,K z=some bZ->jF ds st bZ):jF ds st bZ:=by unfold HP at h;split at h;split at h;split at h;cases h;exact hk _ h;split at h;cases h;exact hk _ h;split at h;exact acr h hk;cases h;exact acs h hk;split at h;exact hk _ h;exact hk _ h;cases h;split at h;exact wb h λb hb=>hk _ hb;exact wb h λb hb=>hk _ hb;cases h;cases h
theorem KB {lo hi:az Operand}{n:Nat}{K:Int->Int->az AS}{st0 bZ:AS}(h:od st0 lo hi n K=some bZ)(hk:∀x y,K x y=some bZ->jF ds st bZ):jF ds st bZ:=by
 unfold od at h
 split at h<;>first
  |exact hk _ _ h
  |cases h
theorem Qp {op:BinOp}{b:Bool}{K:AC->az AS}{bZ:AS}(h:Fz op b K=some bZ)(hk:∀c,K c=some bZ->jF ds st bZ):jF ds st bZ:=by unfold Fz at h;split at h;exact hk _ h;exact hk _ h;cases h
theorem Ts {E:Env}(CK:∀f,(Γ f).io=false/\(Γ f).bx=false/\(Γ f).pr=false){o:Oper}{bZ:AS}(hq:iq an ds o=true)(hd:∀i,o.dst=some i->i∈ds)(h:cX E Γ an o st some=some bZ):jF ds st bZ:=by
 have yj:∀v,some (st.put o.dst v)=some bZ->jF ds st bZ:=λv hv=>by cases hv;exact jF.put hd v
 unfold cX at h;split at h;rename_i x ho;simp only[iq,ho]at hq;unfold El at h;cases Vf:o.dst with
 |none=>rw[Vf]at h;cases h
 |some d=>
  rw[Vf]at h hq;simp only at h hq;have hf:an.mv.contains d=false:=by simpa using hq
  rw[hf]at h;simp only[bm,cw]at h;cases h;exact jF.put (λi hi=>hd i (by rw[Vf];exact hi)) _
 rename_i x ho;have FD:Cn an o=false\/∃y,x=y/\(∀v,y≠ .const v)/\(∀t,y≠ .tmp t):=by cases x with|tmp t=>left;simp only[iq,ho,ae,aN]at hq;exact hq.2|const v=>left;simpa only[iq,ho,aN]using hq|func f=>simp[iq,ho]at hq|global g=>simp[iq,ho]at hq
 have FD:Cn an o=false:=by rcases FD with h1|⟨y,rfl,h1,h2⟩;exact h1;cases x with|tmp t=>exact absurd rfl (h2 t)|const v=>exact absurd rfl (h1 v)|func f=>simp[iq,ho]at hq|global g=>simp[iq,ho]at hq
 simp only[iq,ho]at hq;rw[aG (by simp[FD])]at h;unfold wQ at h;have hx:jF ds st (st.take x).2:=by
  cases x with
  |tmp t=>
   have ht:t∈ds:=by simp only[ae]at hq;simpa using hq.1
   exact jF.put (d:=some t) (λi hi=>by cases hi;exact ht) _
  |const v=>exact jF.refl _ _
  |func f=>exact jF.refl _ _
  |global g=>exact jF.refl _ _
 split at h;split at h;exact yj _ h;cases h;rename_i v st1 _ uH;cases h;have:(st.take x).2=st1:=by rw[uH]
 rw[this]at hx;exact hx.trans (jF.put hd _);unfold GD at h;split at h;rename_i t _;split at h;exact yj _ h;cases t with|true=>exact yj _ h|false=>exact yj _ h
 cases h;rename_i ho;simp[iq,ho]at hq;rename_i ho;simp[iq,ho]at hq;rename_i T p ho;simp only[iq,ho]at hq;have uH:GZ an o=false:=by unfold GZ;cases Vf:o.dst with|none=>rfl|some d=>rw[Vf]at hq;simp only[aN]at hq;simp only[hq,dJ]
 unfold qK at h;split at h;split at h;split at h;split at h;rename_i d Vf;rw[Vf]at hq;simp only at hq;have hf:an.mv.contains d=false:=by simpa using hq
 rw[hf]at h;simp only[bm,cw]at h;exact yj _ h;cases h;cases h;cases h;rw[aG (by simp[uH])]at h;split at h;split at h;exact yj _ h;cases h;unfold Fc at h;split at h;split at h;split at h;split at h;obtain⟨y,_,h⟩:=OQ h;exact yj _ h;cases h;cases h;cases h;cases h;cases h;rename_i ho;simp[iq,ho]at hq;split at h;exact yj _ h;exact yj _ h;cases h;unfold CU at h;split at h;split at h;exact L3 h λz hz=>yj _ hz;cases h;split at h;split at h;exact L3 h λz hz=>yj _ hz;cases h;cases h;split at h;split at h;cases h;exact Qp h λz hz=>yj _ hz;cases h;split at h;exact Qp h λz hz=>yj _ hz;cases h;exact L3 h λz hz=>yj _ hz;unfold unC at h;split at h;exact yj _ h;exact yj _ h;exact yj _ h;cases h;unfold B7 at h;split at h;split at h;exact yj _ h;cases h;split at h;exact yj _ h;cases h;cases h;unfold nO at h;split at h;split at h;exact wb h λy hy=>yj _ hy;cases h;cases h;unfold DH at h;split at h;split at h;exact wb h λy hy=>yj _ hy;cases h;cases h;rename_i T parts ho;simp only[iq,ho]at hq;have he:parts=#[]:=by simpa using hq
 subst he;unfold Dv at h;split at h;simp only[fO,List.map_nil]at h;split at h;exact yj _ h;cases h;cases h;rename_i ho;simp[iq,ho]at hq;rename_i ho;simp[iq,ho]at hq;rename_i ho;simp only[iq,ho,aN]at hq;unfold Cz at h;rw[aG (by simp[hq])]at h;split at h;split at h;exact KB h λx y hxy=>wb hxy λz hz=>yj _ hz;cases h;split at h;exact KB h λx y hxy=>wb hxy λz hz=>yj _ hz;cases h;cases h;rename_i ho;simp[iq,ho]at hq;rename_i ho;simp[iq,ho]at hq;rename_i ho;simp[iq,ho]at hq;rename_i ho;simp[iq,ho]at hq;unfold Qi at h;split at h;split at h;exact yj _ h;cases h;split at h;exact yj _ h;cases h;cases h;unfold R5 at h;split at h;exact yj _ h;cases h;unfold R4 at h;split at h;exact yj _ h;cases h;rename_i ho;simp[iq,ho]at hq;unfold Fy at h;split at h;rename_i k _;rw[(CK k).2.1,(CK k).2.2,(CK k).1]at h;simp only[af]at h;refine wb h λy hy=>?_;cases RX:(Γ k).sel y with|true=>rw[RX]at hy;cases hy;exact(jF.gn hd).trans (jF.put hd _)|false=>rw[RX]at hy;cases hy;exact(jF.gn hd).trans (jF.put hd _)
 cases h;cases h
theorem YK {ops:ax Oper}{o:Oper}(ho:o∈ops){i:Nat}(hi:o.dst=some i):i∈IK ops:=List.mem_filterMap.2 ⟨o,ho,hi⟩
theorem Qq {E:Env}(CK:∀f,(Γ f).io=false/\(Γ f).bx=false/\(Γ f).pr=false){ops:ax Oper}{o:Oper}{bZ:AS}(ho:o∈ops)(hq:iq an (IK ops) o=true)(h:ig E Γ an ops o st some=some bZ):jF (IK ops) st bZ:=by
 have hd:∀i,o.dst=some i->i∈IK ops:=λi hi=>YK ho hi;unfold ig at h;split at h;exact Ts CK hq hd h;rename_i j Jl hg;split at h;rename_i d Vf;have hdm:d∈IK ops:=by rw[eH]at Vf;cases NY:ops[j]? with|none=>rw[NY]at Vf;cases Vf|some o'=>rw[NY]at Vf;exact YK (aY NY) Vf
 have hp:∀t,jF (IK ops) st (st.put (some d) (.one (.bool t))):=λt=>jF.put (λi hi=>by cases hi;exact hdm) _;split at h;rename_i b hb;have main:∀t,(if(t==Jl)=true then cX E Γ an o (st.put (some d) (.one (.bool t))) some else some ((st.put (some d) (.one (.bool t))).put o.dst (.one .un)))=some bZ->jF (IK ops) st bZ:=by intro t ht;split at ht;exact(hp t).trans (Ts CK hq hd ht);cases ht;exact(hp t).trans (jF.put hd _)
 cases b with|true=>exact main true h|false=>exact main false h
 cases h;exact jF.put hd _;cases h;cases h
theorem YT {E:Env}(CK:∀f,(Γ f).io=false/\(Γ f).bx=false/\(Γ f).pr=false){ops:ax Oper}(hq:∀o∈ops,iq an (IK ops) o=true):∀(l:ax Oper)(st bZ:AS),(∀o∈l,o∈ops)->VS E Γ an ops l st some=some bZ->jF (IK ops) st bZ
 |[],st,bZ,_,h=>by cases h;exact jF.refl _ _
 |o::l,st,bZ,hl,h=>by simp only[VS]at h;rw[sA]at h;cases hg:ig E Γ an ops o st some with|none=>rw[hg]at h;cases h|some st1=>rw[hg]at h;exact(Qq CK (hl o (by simp)) (hq o (hl o (by simp))) hg).trans (YT CK hq l st1 bZ (λo' NY=>hl o' (by simp[NY])) h)
theorem IJ:∀(l:fK)(st:AS),(∀i∈l,i∈ds)->jF ds st (st.C6 l)
 |[],st,_=>jF.refl _ _
 |d::l,st,h=>by
  have hd:∀i,some d=some i->i∈ds:=λi hi=>by cases hi;exact h d (by simp)
  exact((jF.put hd _).trans (jF.gn hd)).trans (IJ l _ (λi hi=>h i (by simp[hi])))
theorem SB:∀(l:fK)(st:AS)(i:Nat)(av:AV),(st.C6 l).slots[i]?=some av->i∈l\/st.slots[i]?=some .bot->av=.bot
 |[],st,i,av,h,hi=>by rcases hi with hi|hi;cases hi;have:st.slots[i]?=some av:=h;rw[hi]at this;cases this;rfl
 |d::l,st,i,av,h,hi=>by
  refine SB l _ i av h ?_;by_cases Oo:i∈l;exact .inl Oo;refine .inr ?_;rw[wF,gG,bJ];have gH:i<st.slots.length:=by
   have h1:=(IJ (ds:=d::l) l ((st.put (some d) .bot).gn (some d)) (λi hi=>by simp[hi])).len;have h2:=(aA.1 h).1;have h3:(AS.C6 ((st.put (some d) .bot).gn (some d)) l).slots.length=st.slots.length:=by rw[h1,wF,gG,aC]
   have h4:i<(AS.C6 ((st.put (some d) .bot).gn (some d)) l).slots.length:=h2;omega
  split;rename_i hdi;subst hdi;rw[aI gH];rename_i hdi;rcases hi with hi|hi;simp only[bS]at hi;rcases hi with hi|hi;exact absurd hi.symm hdi;exact absurd hi Oo;exact hi
theorem SC:∀(l:fK)(st:AS)(i:Nat),i∈l\/(nth st.iss i).getD true=true->(nth (st.C6 l).iss i).getD true=true
 |[],st,i,hi=>by rcases hi with hi|hi;cases hi;exact hi
 |d::l,st,i,hi=>by refine SC l _ i ?_;by_cases Oo:i∈l;exact .inl Oo;refine .inr ?_;have he:(AS.gn (st.put (some d) .bot) (some d)).iss=iS st.iss d true:=rfl;rw[he,gj,eH,bJ];split;split<;>rfl;rename_i hdi;rcases hi with hi|hi;simp only[bS]at hi;rcases hi with hi|hi;exact absurd hi.symm hdi;exact absurd hi Oo;rw[eH]at hi;exact hi
theorem pL.weaken {bZ:AS}(h:pL C bZ a w)(hn:jF ds st bZ){s:Nat}{b:Bool}(hb:getBool bZ s=some b):pL C ((st.C6 ds).put (some s) (.one (.bool b))) a w:=by
 have Hq:bZ.get s=.val false [.bool b]:=by unfold getBool at hb;split at hb;rename_i b' hg;cases hb;exact hg;cases hb
 have hkn:=h.known Hq;obtain⟨g,h⟩:=h;have hdn:=IJ (ds:=ds) ds st (λ_ hi=>hi);have vY:((st.C6 ds).put (some s) (.one (.bool b))).boxes=bZ.boxes:=by rw[lR,hdn.boxes,hn.boxes]
 have Aw:((st.C6 ds).put (some s) (.one (.bool b))).ep=bZ.ep:=by rw[Lw,hdn.ep,hn.ep]
 have hlen:((st.C6 ds).put (some s) (.one (.bool b))).slots.length=bZ.slots.length:=by rw[gG,aC,hdn.len,hn.len]
 have NW:∀t,oc bZ t->oc ((st.C6 ds).put (some s) (.one (.bool b))) t:=by intro t ht;rw[Kq];rcases ht with ht|ht;exact .inl ht;refine .inr (SC ds st _ ?_);by_cases hi:t/3/4096∈ds;exact .inl hi;exact .inr (by rw[<-hn.iss _ hi];exact ht)
 have wX:∀s',jW bZ s'->jW ((st.C6 ds).put (some s) (.one (.bool b))) s':=λs' hs=>by unfold jW at hs⊢;rw[vY];exact hs
 have hle:(df C g bZ w).Le (df C g ((st.C6 ds).put (some s) (.one (.bool b))) w):=⟨rfl,λt ht=>⟨NW t ht,rfl⟩,λ_ _ _ _ _ hv=>hv,by show bZ.ep<=_;rw[<-Aw];exact bj _,λs' hs=>⟨wX s' hs,rfl⟩,λ_ b o u ho hu=>⟨ho,hu⟩⟩
 refine⟨g,h.step (λ_=>True) hle h.defers (by rw[hlen];exact h.size) (by rw[vY,hlen];exact h.bsize) h.frame h.gW (λb x _ hx=>⟨hx,rfl,rfl⟩) ?_ ?_ ?_ (.inl ⟨cB,by rw[LP,hdn.io,hn.io]⟩)⟩;intro i av hi;rw[gG,bJ]at hi;split at hi;rename_i hsi;subst hsi;split at hi;cases hi;refine .inr ⟨[],nP ?_,by simp,by simp⟩;exact⟨hkn,rfl⟩;cases hi;by_cases XM:i∈ds;have:=SB ds st i av hi (.inl XM);subst this;exact .inr ⟨[],gU.bot _ _,by simp,by simp⟩;rw[hdn.slot i XM]at hi;exact .inl ⟨cB,by rw[hn.slot i XM];exact hi,rfl⟩;intro s' cs hs;rw[vY]at hs;exact .inl ⟨cB,hs,rfl⟩;intro k v av hk;simp at hk
theorem alF (Γ:BV)(f:Nat):(Γ.calm f).io=false/\(Γ.calm f).bx=false/\(Γ.calm f).pr=false:=by unfold BV.calm;cases h:(Γ f).io with|true=>exact⟨rfl,rfl,rfl⟩|false=>cases h2:(Γ f).bx with|true=>exact⟨rfl,rfl,rfl⟩|false=>cases h3:(Γ f).pr with|true=>exact⟨rfl,rfl,rfl⟩|false=>exact⟨h,h2,h3⟩
theorem amG (Γ:BV)(f:Nat):(Γ.Ji f).io=false/\((Γ.Ji f).bx=true->(Γ.Ji f).cur=true)/\(Γ.Ji f).pr=false:=by unfold BV.Ji;cases h:(Γ f).io with|true=>exact⟨rfl,λh=>(by cases h),rfl⟩|false=>cases h3:(Γ f).pr with|true=>exact⟨rfl,λh=>(by cases h),rfl⟩|false=>cases h2:(Γ f).bx with|false=>exact⟨h,λh=>(by simp[h2]at h),h3⟩|true=>cases h4:(Γ f).cur with|true=>exact⟨h,λ_=>h4,h3⟩|false=>exact⟨rfl,λh=>(by cases h),rfl⟩
theorem amH (CK:∀f,(Γ f).io=false/\(Γ f).bx=false/\(Γ f).pr=false)(f:Nat):(Γ.Ji f).io=false/\(Γ.Ji f).bx=false/\(Γ.Ji f).pr=false:=by have h:=CK f;unfold BV.Ji;rw[h.1,h.2.1,h.2.2];exact h
theorem Sound.Ji {E:Env}(h:Sound P E Γ):Sound P E Γ.Ji:=by refine⟨h.ty,h.eqs,h.fts,λf=>?_,h.mixed⟩;unfold BV.Ji;cases (Γ f).io||(Γ f).pr||((Γ f).bx&& !(Γ f).cur)with|true=>intro xs y hy;cases hy|false=>exact h.fns f
theorem Sound.calm {E:Env}(h:Sound P E Γ):Sound P E Γ.calm:=by refine⟨h.ty,h.eqs,h.fts,λf=>?_,h.mixed⟩;unfold BV.calm;cases (Γ f).io with|true=>intro xs y hy;cases hy|false=>cases (Γ f).bx with|true=>intro xs y hy;cases hy|false=>cases (Γ f).pr with|true=>intro xs y hy;cases hy|false=>exact h.fns f
end Go.Dn
