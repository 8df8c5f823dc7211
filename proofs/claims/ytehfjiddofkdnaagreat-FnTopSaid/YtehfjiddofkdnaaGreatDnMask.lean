import Derived.Test.YtehfjiddofkdnaaGreatDnDen
import Derived.Test.YtehfjiddofkdnaaGreatDnNat
/- What is kept at a loop's door; what a region whose ways meet again leaves. -/
open Bool renaming false->G,true->O
open Option renaming some->I
namespace Go.Dn
open Go.RowKit
variable {P:Program} {C:Ctx} {st:AS} {a:Act} {w:World} {R:Type} {r:R}
variable {X:An} {Y:IY} {io:Z AC} {d:aS Nat} {ds:gw}
theorem O5 (jY:gw)(a:Nat)(io:Z AC):∀(l:Z AV)(n i:Nat),(ta jY a io n l)[i]?=(l[i]?).map λv=>if jY.contains (n+i) then v.mask jY a io (n+i) else .bot
 |[],n,i=>by simp[ta]
 |v::l,n,0=>by simp[ta]
 |v::l,n,i+1=>by simp only[ta,gI];rw[O5 jY a io l (n+1) i,(J:n+1+i=n+(i+1))]
theorem JP (jY:gw)(a:Nat)(io:Z AC):∀(l:Z (aS (Z AC)))(n i:Nat),(sZ jY a io n l)[i]?=(l[i]?).map λb=>if jY.contains (n+i) then b.map (S7 jY a io (.box (n+i)) 0) else none
 |[],n,i=>by simp[sZ]
 |v::l,n,0=>by simp[sZ]
 |v::l,n,i+1=>by simp only[sZ,gI];rw[JP jY a io l (n+1) i,(J:n+1+i=n+(i+1))]
theorem EA (jY:gw)(a:Nat)(io:Z AC):∀(l:Z AV)(n:Nat),(ta jY a io n l).length=l.length
 |[],_=>rfl
 |_::l,n=>by simp[ta,EA jY a io l]
theorem Kx (jY:gw)(a:Nat)(io:Z AC):∀(l:Z (aS (Z AC)))(n:Nat),(sZ jY a io n l).length=l.length
 |[],_=>rfl
 |_::l,n=>by simp[sZ,Kx jY a io l]
def ahp:Value->AV->oz
 | .agg a,.val O _=>a.toList
 |v,_=>[v]
theorem ahs {g v a b}(h:Cut g v a):ahp v (.val g b)=a:=by cases g with|true=>simp only[Cut,dm]at h;subst h;simp[ahp]|false=>simp only[Cut]at h;subst h;cases v<;>rfl
def Lc (c:oz)(st:AS)(a:Act)(w:World)(β:Nat->Nat)t:=
 if t%3=0/\t/3/4096=1000003 then(c[t/3%4096]?).getD undef
 else if t%3=0 then((ahp (a.tmps.getD (t/3/4096) undef) (st.get (t/3/4096)))[t/3%4096]?).getD undef
 else match w.heap[β (t/3/4096)]? with
  |some (.cells b _ _)=>(b.toList[t/3%4096]?).getD undef
  |_=>undef
def agZ (c d:RC)io:=∀j n (e:CT)(f:Z e.D),AC.apV io j n e=I f->∃b a,gX c.hw c.w (.sl e) [b] f a/\b=c.hdr n/\∀q,(sn.io j).ND=I q->d.iss q/\b=d.hdr q
theorem amR {c a}(F:agZ c a io){jY U v x C}(h:kh c v x C)(g:a.hw=c.hw)(u:a.w=c.w)(R:a.A=c.A)(l:a.ep=0)(N:a.β=c.β)(K:∀s,jY.contains s=O->c.Rv s->a.Rv s)(L:∀t,U.ND=I t->a.iss t/\v=a.hdr t):kh a v (x.mask jY c.ep io U) C:=by
 have T:a.S=c.S:=by funext b o;simp[RC.S,g,R]
 cases x with
 |int k n=>exact h
 |bool b=>exact h
 |str s=>exact h
 |mP=>exact h
 |fn f=>exact h
 |un=>exact h
 |bot=>exact h
 |ptr s P=>simp only[AC.mask];split;rename_i H;exact⟨by rw[N];exact h.1,K s H h.2.1,h.2.2⟩;exact h.2.2
 |I7 B e y i P=>cases B with|own t=>exact h.elim|nest _ _ _ _ _ _=>exact h.elim|part _ _ _ _=>exact h.elim|im _ _ _=>exact h.elim|arg _=>exact h.1|loc Q pv=>exact h.1
 |sl B e xs=>
  cases B with
  |own t=>exact⟨gX.mono h.1 (λb _=>⟨by rw[u],by rw[g]⟩),L⟩
  |nest _ _ _ _ _ _=>exact h.1
  |part _ _ _ _=>exact h.1
  |im _ _ _=>obtain⟨_,⟨k,H,E⟩,_⟩:=h;exact⟨λq z=>(by cases z),⟨k,H,E.mono (λb hb=>⟨by rw[u],by rw[g]⟩)⟩,aD⟩
  |arg _=>exact⟨h.1,by rw[R,u];exact h.2⟩
  |loc Q pv=>
   obtain⟨D,h2,E,X,Y⟩:=h;have plain:kh a v (if(Q==c.ep)=O then AC.sl (.loc 0 none) e xs else .bot) C:=by split;rename_i Z;refine⟨D,by rw[l];exact bq _,E,λ_=>?_,aD⟩;rw[T,u];exact X (by simpa using Z);exact D
   simp only[AC.mask];split;rename_i j n;split;rename_i ys J;obtain⟨v0,V,m,M,z⟩:=F j n e ys J;obtain⟨_,k2⟩:=Y _ _ rfl;have hv:v0=v:=M.trans k2.symm;subst hv;refine⟨D,by rw[l];exact bq _,Ro m,λ_=>?_,λr t p=>?_⟩;rw[T,u];exact gX.rep (λb o ho=> .inr ho) m;cases d:(sn.io j).ND with|none=>rw[d]at p;cases p|some q=>rw[d]at p;simp at p;obtain⟨_,rfl⟩:=p;exact⟨(z q d).1,(z q d).2⟩
   exact plain;exact plain
theorem P7 {c c':RC}(d:agZ c c' io){jY:gw}{f:Nat->sn}(b:c'.hw=c.hw)(p:c'.w=c.w)(m:c'.A=c.A)(a:c'.ep=0)(g:c'.β=c.β)
 (e:∀s,jY.contains s=O->c.Rv s->c'.Rv s):∀{k:oz}{q:Z AC}{l:gw}(j:Nat),cv c k q l->
  (∀i v,k[i]?=I v->∀t,(f (j+i)).ND=I t->c'.iss t/\v=c'.hdr t)->cv c' k (S7 jY c.ep io f j q) l
 |[],[],_,_,h,_=>h
 |v::_,_::_,_,j,h,n=>by obtain⟨f1,f2,rfl,r,x⟩:=h;exact⟨f1,f2,rfl,amR d r b p m a g e (λt o=>n 0 v rfl t o),P7 d b p m a g e (j+1) x (λi u y t o=>n (i+1) u (by simpa using y) t (by rwa[(J:j+(i+1)=j+1+i)]))⟩
 |[],_::_,_,_,h,_=>h.elim
 |_::_,[],_,_,h,_=>h.elim
theorem aqh {c v x p}(h:kh c v x p)(l:∀(a:aS Nat)(e:CT)(d:Z e.D),x=.sl (.own a) e d->False)(m:∀(a:aS Nat)(i:Int)(g:aS Nat)(e:CT)(d:Z e.D),x=.sl (.im a i g) e d->False):p=[]:=by
 cases x with
 |int k n=>exact h.2
 |bool b=>exact h.2
 |str s=>exact h.2
 |mP=>exact h.2
 |fn f=>exact h.2
 |un=>exact h.2
 |bot=>exact h
 |ptr s o=>exact h.2.2
 |I7 j e y i o=>cases j with|own t=>exact h.elim|nest _ _ _ _ _ _=>exact h.elim|part _ _ _ _=>exact h.elim|im _ _ _=>exact h.elim|arg _=>exact h.1|loc g q=>exact h.1
 |sl j e d=>cases j with|own t=>exact(l _ _ _ rfl).elim|nest _ _ _ _ _ _=>exact h.1|part _ _ _ _=>exact h.1|im _ _ _=>exact(m _ _ _ _ _ rfl).elim|arg _=>exact h.1|loc g q=>exact h.1
theorem ub.mask (h:ub C st a w)jY:ub C (st.mask jY) a w:=by
 obtain⟨g,h⟩:=h;let P:Gh:={g with hdr:=Lc C.ioV st a w g.β}
 have N:∀s,jY.contains s=O->mn st s->mn (st.mask jY) s:=by rintro s K ⟨cs,hs⟩;refine⟨S7 jY st.ep st.io (.box s) 0 cs,?_⟩;show(sZ jY st.ep st.io 0 st.boxes)[s]?=_;rw[JP,hs];simp only[eP,cR,aI K]
 obtain⟨fpi,X,M,hli⟩:=h.io;have U:∀j v,C.ioV[j]?=I v->∀q,(sn.io j).ND=I q->rE (st.mask jY) q/\v=Lc C.ioV st a w g.β q:=by
  intro j v m q z;simp only[sn.ND]at z;cases r:Nat.ble 4096 j with
  |true=>rw[r]at z;cases z
  |false=>
   rw[r]at z;simp only[ab,bI,Hb]at z;have V:j<4096:=by rcases ca j 4096 with L|p;exact L;rw[kj p]at r;cases r
   have Q:q%3=0:=J;have R:q/3/4096=1000003:=J;have S:q/3%4096=j:=J;refine⟨.inl J,?_⟩;rw[Lc,aI ⟨Q,R⟩,S,m];rfl
 have Y:agZ (dQ C g st w) (dQ C P (st.mask jY) w) st.io:=by
  intro j n e ys d;unfold AC.apV at d;split at d;rename_i t' e' ys' V;split at d;rename_i he;subst he;cases l:(t'==n)with
  |false=>rw[l]at d;cases d
  |true=>
   rw[l]at d;have:t'=n:=by simpa using l
   subst this;cases d;rw[fJ]at V;obtain⟨v,f,m,y,_⟩:=X.get j _ V;exact⟨v,f,y.1,(y.2 t' rfl).2,λq z=>U j v m q z⟩
  cases d;cases d
 have aDg:∀(j:Nat){H:oz}{D:Z AC}{E:gw},cv (dQ C g st w) H D E->(∀i v,H[i]?=I v->C.ioV[j+i]?=I v)->cv (dQ C P (st.mask jY) w) H (aiD jY j D) E:=by
  intro j H
  induction H generalizing j with
  |nil=>intro D E y _;cases D with
   |nil=>exact y
   |cons _ _=>exact y.elim
  |cons v H ih=>
   intro D E y m
   cases D with
   |nil=>exact y.elim
   |cons x D=>
    obtain⟨f1,f2,rfl,F,r2⟩:=y
    refine⟨f1,f2,rfl,?_,ih (j+1) r2 (λi u hu=>by rw[(J:j+1+i=j+(i+1))];exact m (i+1) u (by simpa using hu))⟩
    have hv0:=m 0 v rfl
    rw[eY]at hv0
    split
    ·rename_i tg e ys
     exact⟨F.1,λq z=>U j v hv0 q z⟩
    ·rename_i tag i ep e ys
     obtain⟨_,⟨k,K,h3⟩,_⟩:=F
     exact⟨λq z=>(by cases z),⟨k,K,h3⟩,aD⟩
    ·rename_i s off
     split
     ·rename_i K
      exact⟨F.1,N s K F.2.1,F.2.2⟩
     ·exact F.2.2
    ·rename_i hno aDm _
     cases hfl:x.mj with
     |true=>
      obtain⟨rfl,k⟩:=wh (c':=dQ C P (st.mask jY) w) F hfl
      exact k
     |false=>exact aqh F hno aDm
 refine⟨P,h.defers,?_,?_,λi av hi=>?_,λs cs hs=>?_,λk v av K=>by simp at K,h.ju,h.frame,⟨fpi,aDg 0 X (λi v m=>by rw[cR];exact m),M,hli⟩⟩;show _=(ta jY st.ep st.io 0 st.slots).length;rw[EA];exact h.size;show(sZ jY st.ep st.io 0 st.boxes).length=(ta jY st.ep st.io 0 st.slots).length;rw[EA,Kx];exact h.bsize;have o:(ta jY st.ep st.io 0 st.slots)[i]?=I av:=hi;rw[O5,cR]at o;cases m:st.slots[i]? with
 |none=>rw[m]at o;cases o
 |some x=>
  rw[m]at o;simp only[eP,bI]at o;split at o
  ·subst o
   cases hx:x with
   |DZ ts=>exact⟨[],iY.bot _ _,aD,aD⟩
   |val gg cs=>
    rw[hx]at m
    obtain⟨E,⟨H,WO,y⟩,hn,hl⟩:=h.slots i _ m
    refine⟨E,⟨H,WO,P7 (io:=st.io) Y (c:=dQ C g st w) (c':=dQ C P (st.mask jY) w) rfl rfl rfl rfl rfl N 0 y ?_⟩,hn,hl⟩
    intro j u hu t l
    simp only[cR,sn.ND]at l
    cases r:Nat.ble 4096 j with
    |true=>rw[r]at l;cases l
    |false=>
     rw[r]at l
     simp only[ab]at l
     cases B:Nat.ble 1000000 i with
     |true=>rw[B]at l;cases l
     |false=>
     rw[B]at l
     simp only[ab,bI]at l
     have hi6:i<1000000:=by rcases ca i 1000000 with L|p;exact L;rw[kj p]at B;cases B
     have V:j<4096:=by rcases ca j 4096 with L|p;exact L;rw[kj p]at r;cases r
     have Q:t%3=0:=J
     have R:t/3/4096=i:=J
     have S:t/3%4096=j:=J
     refine⟨.inl J,?_⟩
     show u=Lc C.ioV st a w g.β t
     rw[Lc,nQ,aI Q,R,S,get_eq m,ahs WO,hu];rfl
  subst o;exact⟨[],iY.bot _ _,aD,aD⟩
 have b:(sZ jY st.ep st.io 0 st.boxes)[s]?=I (I cs):=hs;rw[JP,cR]at b;cases m:st.boxes[s]? with
 |none=>rw[m]at b;cases b
 |some x=>
  rw[m]at b;simp only[eP,bI]at b;split at b;cases hx:x with
  |none=>rw[hx]at b;cases b
  |some D=>
   rw[hx]at b m;simp only[eP,bI]at b;subst b;obtain⟨arr,T,fr,E,r,MY,y,hn,M,hl,hl0,hw0⟩:=h.boxes s D m;refine⟨arr,T,fr,E,r,MY,P7 (io:=st.io) Y (c:=dQ C g st w) (c':=dQ C P (st.mask jY) w) rfl rfl rfl rfl rfl N 0 y ?_,hn,M,hl,hl0,hw0⟩;intro j u hu t l;simp only[cR,sn.ND]at l;cases A:Nat.ble 4096 j with
   |true=>rw[A]at l;cases l
   |false=>
    rw[A]at l;simp only[ab,bI]at l;have V:j<4096:=by rcases ca j 4096 with L|p;exact L;rw[kj p]at A;cases A
    have Q:¬t%3=0:=J;have R:t/3/4096=s:=J;have S:t/3%4096=j:=J;refine⟨.inl J,?_⟩;show u=Lc C.ioV st a w g.β t;rw[Lc,nQ,aK Q,R,S,r];simp only;rw[hu];rfl
  cases b
structure lU (ds:List Nat) (st st':AS):Prop where
 len:st'.slots.length=st.slots.length
 slot:∀i,i∉ds->st'.slots[i]?=st.slots[i]?
 boxes:st'.boxes=st.boxes
 ep:st'.ep=st.ep
 iss:∀i,i∉ds->nth st'.iss i=nth st.iss i
 auI:st'.iss.length=st.iss.length
 io:st'.io=st.io
theorem lU.refl ds st:lU ds st st:=⟨rfl,λ_ _=>rfl,rfl,rfl,λ_ _=>rfl,rfl,rfl⟩
theorem lU.trans {st b M}(h:lU ds st b)(k:lU ds b M):lU ds st M:=⟨k.len.trans h.len,λi a=>(k.slot i a).trans (h.slot i a),k.boxes.trans h.boxes,k.ep.trans h.ep,λi a=>(k.iss i a).trans (h.iss i a),k.auI.trans h.auI,k.io.trans h.io⟩
theorem lU.put {st}(a:∀i,d=I i->i∈ds)v:lU ds st (st.put d v):=by cases d with|none=>exact lU.refl _ _|some d=>refine⟨by rw[iX,aC],λi b=>?_,oA,SE,λi _=>by rw[acz],by rw[acz],S0⟩;rw[iX,aJ];rintro rfl;exact b (a _ rfl)
theorem lU.iC {st}(a:∀i,d=I i->i∈ds):lU ds st (st.iC d):=by cases d with|none=>exact lU.refl _ _|some d=>refine⟨rfl,λi _=>rfl,rfl,rfl,λi b=>?_,?_,rfl⟩;simp only[AS.iC,fJ,iA];rw[aJ];rintro rfl;exact b (a _ rfl);simp only[AS.iC,iA,aC]
theorem BP {α o}{k:α->aS AS}{a}(h:U o k=I a)(b:∀x,k x=I a->lU ds st a):lU ds st a:=by cases o with|none=>cases h|some x=>exact b x h
theorem am4 {n k a}(h:room n k=I a)(b:k=I a->lU ds st a):lU ds st a:=by unfold room at h;split at h;exact b h;cases h
theorem aiM {op k x y K a}(h:Q7 op k x y K=I a)(b:∀z,K z=I a->lU ds st a):lU ds st a:=by
 unfold Q7 at h
 split at h<;>first
  |exact b _ h
  |(split at h
    ·cases h
    ·exact b _ h)
  |cases h
theorem aiN {op x y K a}(h:UM op x y K=I a)(b:∀z,K z=I a->lU ds st a):lU ds st a:=by
 unfold UM at h
 split at h<;>first
  |exact am4 h (b _)
  |exact b _ h
  |cases h
theorem Tb {op x y K a}(h:OI op x y K=I a)(c:∀z,K z=I a->lU ds st a):lU ds st a:=by unfold OI at h;split at h;split at h;split at h;cases h;exact c _ h;split at h;cases h;exact c _ h;split at h;exact aiM h c;cases h;exact aiN h c;split at h;exact c _ h;exact c _ h;cases h;split at h;exact BP h λb d=>c _ d;exact BP h λb d=>c _ d;cases h;cases h
theorem Rl {e c n K b a}(h:rG b e c n K=I a)(d:∀x y,K x y=I a->lU ds st a):lU ds st a:=by
 unfold rG at h
 split at h<;>first
  |exact d _ _ h
  |cases h
theorem Xr {op b K a}(h:Mc op b K=I a)(d:∀c,K c=I a->lU ds st a):lU ds st a:=by unfold Mc at h;split at h;exact d _ h;exact d _ h;cases h
theorem aaI {E}(u:∀f,(Y f).io=G/\(Y f).bx=G/\(Y f).pr=G){o l}(c:jV X ds o=O)(n:∀i,o.dst=I i->i∈ds)(h:dM E Y X o st I=I l):lU ds st l:=by
 have a:∀v,I (st.put o.dst v)=I l->lU ds st l:=λv L=>by cases L;exact lU.put n v
 unfold dM at h;split at h;rename_i x b;simp only[jV,b]at c;unfold Ky at h;cases e:o.dst with
 |none=>rw[e]at h;cases h
 |some d=>
  rw[e]at h c;simp only at h c;have B:X.mv.contains d=false:=by simpa using c
  rw[B]at h;simp only[bD,cY]at h;cases h;exact lU.put (λi C=>n i (by rw[e];exact C)) _
 rename_i x b;have q:Ii X o=G\/∃y,x=y/\(∀v,y≠ .const v)/\(∀t,y≠ .tmp t):=by cases x with|tmp t=>left;simp only[jV,b,af,aW]at c;exact c.2|const v=>left;simpa only[jV,b,aW]using c|func f=>simp[jV,b]at c|global g=>simp[jV,b]at c
 have q:Ii X o=false:=by rcases q with A|⟨y,rfl,A,H⟩;exact A;cases x with|tmp t=>exact absurd rfl (H t)|const v=>exact absurd rfl (A v)|func f=>simp[jV,b]at c|global g=>simp[jV,b]at c
 simp only[jV,b]at c;rw[aK (by simp[q])]at h;unfold Cs at h;have F:lU ds st (st.take x).2:=by
  cases x with
  |tmp t=>
   have K:t∈ds:=by simp only[af]at c;simpa using c.1
   exact lU.put (d:=some t) (λi C=>by cases C;exact K) _
  |const v=>exact lU.refl _ _
  |func f=>exact lU.refl _ _
  |global g=>exact lU.refl _ _
 split at h;split at h;exact a _ h;cases h;rename_i v D _ r;cases h;have:(st.take x).2=D:=by rw[r]
 rw[this]at F;exact F.trans (lU.put n _);unfold Nh at h;split at h;rename_i t _;split at h;exact a _ h;cases t with|true=>exact a _ h|false=>exact a _ h
 cases h;rename_i b;simp[jV,b]at c;rename_i b;simp[jV,b]at c;rename_i T p b;simp only[jV,b]at c;have r:NJ X o=false:=by unfold NJ;cases e:o.dst with|none=>rfl|some d=>rw[e]at c;simp only[aW]at c;simp only[c,iR]
 unfold vD at h;split at h;split at h;split at h;split at h;rename_i d e;rw[e]at c;simp only at c;have B:X.mv.contains d=false:=by simpa using c
 rw[B]at h;simp only[bD,cY]at h;exact a _ h;cases h;cases h;cases h;rw[aK (by simp[r])]at h;split at h;split at h;exact a _ h;cases h;unfold LQ at h;split at h;split at h;split at h;split at h;obtain⟨y,_,h⟩:=VY h;exact a _ h;cases h;cases h;cases h;cases h;cases h;rename_i b;simp[jV,b]at c;split at h;exact a _ h;exact a _ h;cases h;unfold I3 at h;split at h;split at h;exact Tb h λz j=>a _ j;cases h;split at h;split at h;exact Tb h λz j=>a _ j;cases h;cases h;split at h;split at h;cases h;exact Xr h λz j=>a _ j;cases h;split at h;exact Xr h λz j=>a _ j;cases h;exact Tb h λz j=>a _ j;unfold unC at h;split at h;exact a _ h;exact a _ h;exact a _ h;cases h;unfold HY at h;split at h;split at h;exact a _ h;cases h;split at h;exact a _ h;cases h;cases h;unfold qY at h;split at h;split at h;exact BP h λy m=>a _ m;cases h;cases h;unfold JO at h;split at h;split at h;exact BP h λy m=>a _ m;cases h;cases h;rename_i T parts b;simp only[jV,b]at c;have J:parts=#[]:=by simpa using c
 subst J;unfold JF at h;split at h;simp only[gQ,List.map_nil]at h;split at h;exact a _ h;cases h;cases h;rename_i b;simp[jV,b]at c;rename_i b;simp[jV,b]at c;rename_i b;simp only[jV,b,aW]at c;unfold Ix at h;rw[aK (by simp[c])]at h;split at h;split at h;exact Rl h λx y s=>BP s λz j=>a _ j;cases h;split at h;exact Rl h λx y s=>BP s λz j=>a _ j;cases h;cases h;rename_i b;simp[jV,b]at c;rename_i b;simp[jV,b]at c;rename_i b;simp[jV,b]at c;rename_i b;simp[jV,b]at c;unfold Xj at h;split at h;split at h;exact a _ h;cases h;split at h;exact a _ h;cases h;cases h;unfold Zc at h;split at h;exact a _ h;cases h;unfold Zb at h;split at h;exact a _ h;cases h;rename_i b;simp[jV,b]at c;unfold Ma at h;split at h;rename_i k _;rw[(u k).2.1,(u k).2.2,(u k).1]at h;simp only[ab]at h;refine BP h λy m=>?_;cases w:(Y k).sel y with|true=>rw[w]at m;cases m;exact(lU.iC n).trans (lU.put n _)|false=>rw[w]at m;cases m;exact(lU.iC n).trans (lU.put n _)
 cases h;cases h
theorem afj {a}{o:Oper}(c:o∈a){i:Nat}(b:o.dst=I i):i∈PF a:=List.mem_filterMap.2 ⟨o,c,b⟩
theorem Xs {E}(k:∀f,(Y f).io=G/\(Y f).bx=G/\(Y f).pr=G){a o e}(u:o∈a)(s:jV X (PF a) o=O)(h:jS E Y X a o st I=I e):lU (PF a) st e:=by
 have l:∀i,o.dst=I i->i∈PF a:=λi n=>afj u n;unfold jS at h;split at h;exact aaI k s l h;rename_i j q w;split at h;rename_i d c;have m:d∈PF a:=by rw[fJ]at c;cases g:a[j]? with|none=>rw[g]at c;cases c|some x=>rw[g]at c;exact afj (aF g) c
 have r:∀t,lU (PF a) st (st.put (I d) (.one (.bool t))):=λt=>lU.put (λi n=>by cases n;exact m) _;split at h;rename_i b v;have main:∀t,(if(t==q)=O then dM E Y X o (st.put (I d) (.one (.bool t))) I else I ((st.put (I d) (.one (.bool t))).put o.dst (.one .un)))=I e->lU (PF a) st e:=by intro t p;split at p;exact(r t).trans (aaI k s l p);cases p;exact(r t).trans (lU.put l _)
 cases b with|true=>exact main O h|false=>exact main G h
 cases h;exact lU.put l _;cases h;cases h
theorem aft {E:Env}(c:∀f,(Y f).io=G/\(Y f).bx=G/\(Y f).pr=G){a:Z Oper}(j:∀o∈a,jV X (PF a) o=O):∀(l:Z Oper)(st b:AS),(∀o∈l,o∈a)->acM E Y X a l st I=I b->lU (PF a) st b
 |[],st,b,_,h=>by cases h;exact lU.refl _ _
 |o::l,st,b,e,h=>by simp only[acM]at h;rw[xC]at h;cases d:jS E Y X a o st I with|none=>rw[d]at h;cases h|some i=>rw[d]at h;exact(Xs c (e o aD) (j o (e o aD)) d).trans (aft c j l i b (λk g=>e k (by simp[g])) h)
theorem PE:∀(l:gw)(st:AS),(∀i∈l,i∈ds)->lU ds st (st.I6 l)
 |[],st,_=>lU.refl _ _
 |d::l,st,h=>by
  have b:∀i,I d=I i->i∈ds:=λi a=>by cases a;exact h d aD
  exact((lU.put b _).trans (lU.iC b)).trans (PE l _ (λi a=>h i (by simp[a])))
theorem ZQ:∀(l:gw)(st:AS)(i:Nat)(c:AV),(st.I6 l).slots[i]?=I c->i∈l\/st.slots[i]?=I .bot->c=.bot
 |[],st,i,c,h,a=>by rcases a with a|a;cases a;have:st.slots[i]?=I c:=h;rw[a]at this;cases this;rfl
 |d::l,st,i,c,h,a=>by
  refine ZQ l _ i c h ?_;by_cases e:i∈l;exact .inl e;refine .inr ?_;rw[Cj,iX,bX];have j:i<st.slots.length:=by
   have f:=(PE (ds:=d::l) l ((st.put (I d) .bot).iC (I d)) (λi a=>by simp[a])).len;have g:=(aA.1 h).1;have k:(AS.I6 ((st.put (I d) .bot).iC (I d)) l).slots.length=st.slots.length:=by rw[f,Cj,iX,aC]
   have m:i<(AS.I6 ((st.put (I d) .bot).iC (I d)) l).slots.length:=g;omega
  split;rename_i b;subst b;rw[aI j];rename_i b;rcases a with a|a;simp only[bW]at a;rcases a with a|a;exact absurd a.symm b;exact absurd a e;exact a
theorem ZR:∀(l:gw)(st:AS)(i:Nat),i∈l\/(nth st.iss i).getD O=O->(nth (st.I6 l).iss i).getD O=O
 |[],st,i,a=>by rcases a with a|a;cases a;exact a
 |d::l,st,i,a=>by refine ZR l _ i ?_;by_cases b:i∈l;exact .inl b;refine .inr ?_;have e:(AS.iC (st.put (I d) .bot) (I d)).iss=kA st.iss d true:=rfl;rw[e,iA,fJ,bX];split;split<;>rfl;rename_i c;rcases a with a|a;simp only[bW]at a;rcases a with a|a;exact absurd a.symm c;exact absurd a b;rw[fJ]at a;exact a
theorem ub.weaken {c}(h:ub C c a w)(p:lU ds st c){s b}(r:getBool c s=I b):ub C ((st.I6 ds).put (I s) (.one (.bool b))) a w:=by
 have y:c.get s=.val G [.bool b]:=by unfold getBool at r;split at r;rename_i R K;cases r;exact K;cases r
 have D:=h.known y;obtain⟨g,h⟩:=h;have e:=PE (ds:=ds) ds st (λ_ d=>d);have j:((st.I6 ds).put (I s) (.one (.bool b))).boxes=c.boxes:=by rw[oA,e.boxes,p.boxes]
 have z:((st.I6 ds).put (I s) (.one (.bool b))).ep=c.ep:=by rw[SE,e.ep,p.ep]
 have f:((st.I6 ds).put (I s) (.one (.bool b))).slots.length=c.slots.length:=by rw[iX,aC,e.len,p.len]
 have A:∀t,rE c t->rE ((st.I6 ds).put (I s) (.one (.bool b))) t:=by intro t n;rw[Ra];rcases n with n|n;exact .inl n;refine .inr (ZR ds st _ ?_);by_cases d:t/3/4096∈ds;exact .inl d;exact .inr (by rw[<-p.iss _ d];exact n)
 have F:∀q,mn c q->mn ((st.I6 ds).put (I s) (.one (.bool b))) q:=λq m=>by unfold mn at m⊢;rw[j];exact m
 have E:(dQ C g c w).Le (dQ C g ((st.I6 ds).put (I s) (.one (.bool b))) w):=⟨rfl,λt n=>⟨A t n,rfl⟩,λ_ _ _ _ _ P=>P,by show c.ep<=_;rw[<-z];exact bq _,λq m=>⟨F q m,rfl⟩,λ_ b o u M N=>⟨M,N⟩⟩
 refine⟨g,h.step (λ_=>True) E h.defers (by rw[f];exact h.size) (by rw[j,f];exact h.bsize) h.frame h.ju (λb x _ Q=>⟨Q,rfl,rfl⟩) ?_ ?_ ?_ (.inl ⟨B,by rw[S0,e.io,p.io]⟩)⟩;intro i J d;rw[iX,bX]at d;split at d;rename_i H;subst H;split at d;cases d;refine .inr ⟨[],qZ ?_,aD,aD⟩;exact⟨D,rfl⟩;cases d;by_cases l:i∈ds;have:=ZQ ds st i J d (.inl l);subst this;exact .inr ⟨[],iY.bot _ _,aD,aD⟩;rw[e.slot i l]at d;exact .inl ⟨B,by rw[p.slot i l];exact d,rfl⟩;intro q S m;rw[j]at m;exact .inl ⟨B,m,rfl⟩;intro k v J L;simp at L
theorem arA (Y:IY)f:(Y.calm f).io=G/\(Y.calm f).bx=G/\(Y.calm f).pr=false:=by unfold IY.calm;cases h:(Y f).io with|true=>exact⟨rfl,rfl,rfl⟩|false=>cases a:(Y f).bx with|true=>exact⟨rfl,rfl,rfl⟩|false=>cases b:(Y f).pr with|true=>exact⟨rfl,rfl,rfl⟩|false=>exact⟨h,a,b⟩
theorem asG (Y:IY)f:(Y.Qh f).io=G/\((Y.Qh f).bx=O->(Y.Qh f).cur=O)/\(Y.Qh f).pr=false:=by unfold IY.Qh;cases h:(Y f).io with|true=>exact⟨rfl,λh=>(by cases h),rfl⟩|false=>cases a:(Y f).pr with|true=>exact⟨rfl,λh=>(by cases h),rfl⟩|false=>cases b:(Y f).bx with|false=>exact⟨h,λh=>(by simp[b]at h),a⟩|true=>cases c:(Y f).cur with|true=>exact⟨h,λ_=>c,a⟩|false=>exact⟨rfl,λh=>(by cases h),rfl⟩
theorem asH (a:∀f,(Y f).io=G/\(Y f).bx=G/\(Y f).pr=G)f:(Y.Qh f).io=G/\(Y.Qh f).bx=G/\(Y.Qh f).pr=false:=by have h:=a f;unfold IY.Qh;rw[h.1,h.2.1,h.2.2];exact h
theorem Sound.Qh {E}(h:Sound P E Y):Sound P E Y.Qh:=by refine⟨h.ty,h.eqs,h.fts,λf=>?_,h.mixed⟩;unfold IY.Qh;cases (Y f).io||(Y f).pr||((Y f).bx&& !(Y f).cur)with|true=>intro b y a;cases a|false=>exact h.fns f
theorem Sound.calm {E}(h:Sound P E Y):Sound P E Y.calm:=by refine⟨h.ty,h.eqs,h.fts,λf=>?_,h.mixed⟩;unfold IY.calm;cases (Y f).io with|true=>intro b y a;cases a|false=>cases (Y f).bx with|true=>intro b y a;cases a|false=>cases (Y f).pr with|true=>intro b y a;cases a|false=>exact h.fns f
end Go.Dn
