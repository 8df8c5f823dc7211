import Derived.Test.YtfbhfnniblfpbaaGreatDnCall
/- The soundness of the abstract semantics: operations, regions, loops, functions. -/
namespace Go.Dn
open Go.RowKit
variable {P:Program} {C:Ctx} {st:AS} {a:Act} {w:World} {R:Type} {r:R}
variable {an:An} {Γ:xu} {d:Nat} {x:Operand}
theorem abV:∀(os ss:au AC){r:au AC},nQ os ss=some r->r.all AC.XM=true/\r.map AC.strip=r:=by
 intro os;induction os with
 |nil=>intro ss r h;cases ss with|nil=>simp[nQ]at h;subst h;exact⟨rfl,rfl⟩|cons _ _=>simp[nQ]at h
 |cons o os ih=>
  intro ss r h;cases ss with
  |nil=>unfold nQ at h;split at h<;>first|contradiction|cases h
  |cons s ss=>
   unfold nQ at h;split at h;contradiction;rename_i h1 h2;injection h1 with h1 Sg;subst Sg;injection h2 with h2 TB;subst TB;rw[Bool.cond_eq_ite]at h;split at h;obtain⟨r',hr,h⟩:=aO.1 h;cases h;obtain⟨k1,k2⟩:=ih _ hr;exact⟨by simp[AC.XM,k1],by simp[AC.strip,k2]⟩;cases h
   all_goals first
    |cases h
    |(rename_i h1 h2
      injection h1 with h1 Sg;subst Sg
      injection h2 with h2 TB;subst TB
      obtain⟨r',hr,h⟩:=aO.1 h
      cases h
      obtain⟨k1,k2⟩:=ih _ hr
      exact⟨by simp[AC.XM,AC.jl,k1],by simp[AC.strip,k2]⟩)
theorem Zy:∀{cs:au AC},cs.all AC.XM=true->∀{c:RC}{A:Rg}{hw:Nat->Nat}{w:World}{vs:ie}{fp:eo},bE (eS A hw w) vs cs fp->c.w=w->c.hw=hw->bE c vs (cs.map AC.strip) fp
 |[],_,c,A,hw,w,vs,fp,h,_,_=>by cases vs with|nil=>exact h|cons _ _=>exact h.elim
 |x::cs,jY,c,A,hw,w,vs,fp,h,Qz,EV=>by
  cases vs with
  |nil=>exact h.elim
  |cons v vs=>
   obtain⟨f1,f2,rfl,h1,h2⟩:=h;simp only[bR,ah]at jY;refine⟨f1,f2,rfl,?_,Zy jY.2 h2 Qz EV⟩;cases x with
   |sl fl e xs=>cases fl with|own t=>exact⟨by rw[Qz,EV];exact h1.1,by simp⟩|arg _=>cases jY.1|loc _ _=>cases jY.1|nest _ _ _ _ _ _=>cases jY.1|part _ _ _ _=>cases jY.1|eY _ _ _=>cases jY.1
   |int k n=>exact h1
   |bool b=>exact h1
   |str s=>exact h1
   |fn f=>exact h1
   |jE=>cases jY.1
   |ptr s off=>cases jY.1
   |Cd fl e y i off=>cases jY.1
   |un=>cases jY.1
   |bot=>cases jY.1
theorem dN.agu {g:Gh}(h:dN C g st a w []){v:AV}{bM:AS}(hc:R0 st x=some (v,bM)):∃g',(∀s,g'.β s=g.β s)/\dN C g' bM a w [(a.eval x,v)]:=by
 unfold R0 at hc;have NG:=h.rd x;split at hc;rename_i gg cs hx;rw[hx]at NG;obtain⟨vs0,eR,QB⟩:=NG;split at hc;rename_i rt j Sm;split at hc;rename_i Ze fU;split at hc;rename_i rf aaH;cases hc;have ahh:=PQ _ _ aaH;have Nz:=abV _ _ aaH
 have core:∀(o:jI)(YI:AS){vs:ie}{fp:eo},bE (cQ C g st w) vs Ze fp->fp.Nodup->(∀b∈fp,g.ej b=some o)->YI.ep=st.ep->YI.iss=st.iss->(∀s,jm st s->jm YI s)->
  ∃f1 f2 f3,fp=f1++f2++f3/\(∀b∈f1++f3,b∉f2)/\
   (cQ C g st w).Le (cQ C {g with ej:=λb=>if b∈f2 then some (.hand 0) else g.ej b} YI w)/\
   bE (cQ C {g with ej:=λb=>if b∈f2 then some (.hand 0) else g.ej b} YI w) vs (dZ Ze (rt.pos-j) (aS st.ep ((Ze.drop (rt.pos-j)).take cs.length))) (f1++f3)/\(f1++f3).Nodup/\
   J5 C {g with ej:=λb=>if b∈f2 then some (.hand 0) else g.ej b} YI w 0 (a.eval x) (.val gg rf):=by
  intro o YI vs fp hr hn hl zM II vT
  obtain⟨f1,f2,f3,rfl,r1,r2,r3⟩:=hr.mid (rt.pos-j) cs.length
  have Dc:=hn
  rw[aZ]at Dc
  have n1:=aJ.1 Dc
  have n2:=aJ.1 n1.2.1
  have hle:(cQ C g st w).Le (cQ C {g with ej:=λb=>if b∈f2 then some (.hand 0) else g.ej b} YI w):=
   ⟨rfl,λt ht=>⟨by show mX YI t;have WB:mX st t:=ht;simpa[mX,II]using WB,rfl⟩,λ_ _ _ _ _ hu=>hu,by show st.ep<=YI.ep;omega,λs hs=>⟨vT s hs,rfl⟩,λ_ b o u ho hu=>⟨ho,hu⟩⟩
  refine⟨f1,f2,f3,rfl,?_,hle,?_,?_,?_⟩
  ·intro b hb h2
   rcases aA.1 hb with hb|hb
   ·exact n1.2.2 b hb b (bt _ h2) rfl
   ·exact n2.2.2 b h2 b hb rfl
  ·have Kl:=YH (c':=cQ C {g with ej:=λb=>if b∈f2 then some (.hand 0) else g.ej b} YI w) (seg:=aS st.ep ((Ze.drop (rt.pos-j)).take cs.length)) rfl (by rw[r2.length];exact ahh)
    (r1.mono hle (λb _=>⟨rfl,rfl⟩)) ((r2.aS).mono hle (by simp)) (r3.mono hle (λb _=>⟨rfl,rfl⟩))
   rw[bA]at Kl
   exact Kl
  ·refine aJ.2 ⟨n1.1,n2.2.1,?_⟩
   rintro b hb c hc rfl
   exact n1.2.2 b hb b (bk _ hc) rfl
  ·have an9:=Yn (A:=λ_ _ _=>False) _ _ aaH QB r2
   have vS:=Zy Nz.1 (c:=cQ C g st w) an9 rfl rfl
   rw[Nz.2]at vS
   refine⟨f2,⟨vs0,eR,vS.mono hle (λb _=>⟨rfl,rfl⟩)⟩,n2.1,λb hb=>?_⟩
   show(if b∈f2 then _ else _)=_
   rw[aF hb]
 have NZ:∀(f2:eo)(o:jI),(∀b∈f2,g.ej b=some o)->∀b y,(if b∈f2 then some (jI.hand 0) else g.ej b)=some y->b<w.heap.size/\(C.w0.heap.size<=b\/C.M b):=by intro f2 o hf b y hy;by_cases hm:b∈f2;exact h.fR b _ (hf b hm);rw[aH hm]at hy;exact h.fR b y hy
 have XR:∀(f2:eo)(o:jI),(∀b∈f2,g.ej b=some o)->∀b y,y≠o->g.ej b=some y->(if b∈f2 then some (jI.hand 0) else g.ej b)=some y:=by intro f2 o hf b y hyo hb;rw[aH (λhm=>hyo (by have:=hf b hm;rw[hb]at this;simpa using this))];exact hb
 have hh1:∀{g2:Gh}{YI:AS},J5 C g2 YI w 0 (a.eval x) (.val gg rf)->∀k u bv,[(a.eval x,AV.val gg rf)][k]?=some (u,bv)->J5 C g2 YI w k u bv:=by
  intro g2 YI hh k u bv hk;cases k with
  |zero=>simp only[cz,ba,Prod.mk.injEq]at hk;obtain⟨rfl,rfl⟩:=hk;exact hh
  |succ k=>simp at hk
 cases rt with
 |slot s j0=>
  simp only[AS.Jh]at fU;cases hg:st.get s with
  |xn ts=>rw[hg]at fU;cases fU
  |val g1 cs1=>
   rw[hg]at fU;cases fU;have lE:∀E0,st.FR (.slot s j0) E0={st with slots:=st.slots.set s (.val g1 E0)}:=λE0=>by simp only[AS.FR,hg,AS.put,fg]
   obtain⟨fp,hr,hn,hl⟩:=h.slot s;rw[hg]at hr;obtain⟨vs,aii,hr⟩:=hr;obtain⟨f1,f2,f3,rfl,EW,hle,Kl,NB,Fp⟩:=core (.slot s) (st.FR (.slot s j0) (dZ Ze (kL.pos (.slot s j0)-j) (aS st.ep ((Ze.drop (kL.pos (.slot s j0)-j)).take cs.length)))) hr hn hl (by rw[lE]) (by rw[lE]) (λ_ q=>by rw[lE];exact q);have EH:∀b∈f2,g.ej b=some (.slot s):=λb hb=>hl b (by simp[hb]);refine⟨{g with ej:=λb=>if b∈f2 then some (.hand 0) else g.ej b},λ_=>rfl,h.step (λy=>y≠ .slot s) hle h.defers ?_ ?_ h.frame (NZ f2 _ EH) (λb y hk hb=>⟨XR f2 _ EH b y hk hb,rfl,rfl⟩) ?_ ?_ (λk u bv hk=> .inr (hh1 Fp k u bv hk)) (.inl ⟨by simp,by rw[lE]⟩)⟩;rw[lE];simpa using h.size;rw[lE];simpa using h.bsize;intro i bv hi;rw[lE]at hi;have vR:(st.slots.set s (.val g1 _))[i]?=some bv:=hi;by_cases his:i=s;subst his;rw[br]at vR;simp only[cp]at vR;split at vR;simp at vR;subst vR;refine .inr ⟨f1++f3,⟨vs,aii,Kl⟩,NB,λb hb=>?_⟩;show(if b∈f2 then _ else _)=_;rw[aH (EW b hb)];exact hl b (by rcases aA.1 hb with k|k<;>simp[k]);cases vR;rw[aR (cY his)]at vR;exact .inl ⟨by simpa using his,vR,rfl⟩;intro t E0 hb;rw[lE]at hb;exact .inl ⟨by simp,hb,rfl⟩
 |box s j0=>
  have jX:st.boxes[s]?=some (some Ze):=by simp only[AS.Jh,dJ]at fU;cases hb:st.boxes[s]? with|none=>simp[hb]at fU|some q=>rw[hb]at fU;simp at fU;rw[fU]
  have As:s<st.boxes.length:=(aE.1 jX).1;have lE:∀E0,st.FR (.box s j0) E0={st with boxes:=st.boxes.set s (some E0)}:=λE0=>by simp only[AS.FR,AS.eE,fg]
  obtain⟨arr,T,fr,fp,kz,tw,hr,hn,xx,hl,Ia,Ic⟩:=h.boxes s Ze jX;obtain⟨f1,f2,f3,rfl,EW,hle,Kl,NB,Fp⟩:=core (.box s) (st.FR (.box s j0) (dZ Ze (kL.pos (.box s j0)-j) (aS st.ep ((Ze.drop (kL.pos (.box s j0)-j)).take cs.length)))) hr hn hl (by rw[lE]) (by rw[lE]) (λt ht=>by rw[lE];obtain⟨c0,Zk⟩:=ht;by_cases ur:s=t;subst ur;exact⟨_,by simp[As];rfl⟩;exact⟨c0,by rw[aR ur];exact Zk⟩);have EH:∀b∈f2,g.ej b=some (.box s):=λb hb=>hl b (by simp[hb]);refine⟨{g with ej:=λb=>if b∈f2 then some (.hand 0) else g.ej b},λ_=>rfl,h.step (λy=>y≠ .box s) hle h.defers ?_ ?_ h.frame (NZ f2 _ EH) (λb y hk hb=>⟨XR f2 _ EH b y hk hb,rfl,rfl⟩) ?_ ?_ (λk u bv hk=> .inr (hh1 Fp k u bv hk)) (.inl ⟨by simp,by rw[lE]⟩)⟩;rw[lE];exact h.size;rw[lE];simpa using h.bsize;intro i bv hi;rw[lE]at hi;exact .inl ⟨by simp,hi,rfl⟩;intro t E0 hb;rw[lE]at hb;have gQ:(st.boxes.set s (some _))[t]?=some (some E0):=hb;by_cases ur:t=s;subst ur;rw[br]at gQ;simp only[cp,As]at gQ;simp at gQ;subst gQ;have Km:g.β t∉f2:=λhm=>xx (by simp[hm]);refine .inr ⟨arr,T,fr,f1++f3,kz,tw,Kl,NB,λhm=>xx (by rcases aA.1 hm with k|k<;>simp[k]),λb hb=>?_,?_,Ic⟩;show(if b∈f2 then _ else _)=_;rw[aH (EW b hb)];exact hl b (by rcases aA.1 hb with k|k<;>simp[k]);show(if g.β t∈f2 then _ else _)=_;rw[aH Km];exact Ia;rw[aR (cY ur)]at gQ;exact .inl ⟨by simpa using ur,gQ,rfl⟩
 |io j0=>simp only[AS.Jh,ba]at fU;subst fU;obtain⟨fp,hr,hn,hl⟩:=h.io;obtain⟨f1,f2,f3,rfl,EW,hle,Kl,NB,Fp⟩:=core .io (st.FR (.io j0) (dZ st.io (kL.pos (.io j0)-j) (aS st.ep ((st.io.drop (kL.pos (.io j0)-j)).take cs.length)))) hr hn hl rfl rfl (λ_ q=>q);have EH:∀b∈f2,g.ej b=some .io:=λb hb=>hl b (by simp[hb]);refine⟨{g with ej:=λb=>if b∈f2 then some (.hand 0) else g.ej b},λ_=>rfl,h.step (λy=>y≠ .io) hle h.defers h.size h.bsize h.frame (NZ f2 _ EH) (λb y hk hb=>⟨XR f2 _ EH b y hk hb,rfl,rfl⟩) (λi bv hi=> .inl ⟨by simp,hi,rfl⟩) (λt E0 hb=> .inl ⟨by simp,hb,rfl⟩) (λk u bv hk=> .inr (hh1 Fp k u bv hk)) (.inr ⟨f1++f3,Kl,NB,λb hb=>?_⟩)⟩;show(if b∈f2 then _ else _)=_;rw[aH (EW b hb)];exact hl b (by rcases aA.1 hb with k|k<;>simp[k])
 cases hc;cases hc;cases hc;cases hc
theorem aa9 {o:Oper}(ho:o.op=.assign x)(h:oz C st a w){K:AS->ax R}(hk:QV o x st K=some r):mW P C o a w K r:=by
 have dX:(execOp a.eval o).run P w=.ok (.value (a.eval x)) w:=by simp[execOp,ho]
 obtain⟨g,hg⟩:=h;unfold QV at hk;split at hk;rename_i v bM hc;obtain⟨g',_,oy⟩:=hg.agu hc;exact⟨_,_,_,.inl dX,dN.Ea oy o.dst,hk⟩;cases hk
theorem OW {E:Env}(hE:jA P E.ty){o:Oper}{T:TypeId}{p:Operand}(hd:o.dst=none)(ho:o.op=.store T p x)(h:oz C st a w){K:AS->ax R}(hk:xZ E T p x st K=some r):mW P C o a w K r:=by obtain⟨g,hg⟩:=h;unfold xZ at hk;split at hk;rename_i sh s off hT hp;have vG:=hg.rd p;rw[hp]at vG;have vG:=Cq vG;split at hk;rename_i gg vs bM hc;obtain⟨g',Km,oy⟩:=hg.agu hc;split at hk;rename_i cs jX;split at hk;rename_i hlen;split at hk;rename_i gy;exact Hr hE hd ho hT (by rw[Km];exact vG) oy jX hlen.1 hlen.2 gy hk;cases hk;cases hk;cases hk;cases hk;cases hk
structure Sound (P:Program) (E:Env) (Γ:xu):Prop where
 ty:jA P E.ty
 eqs:TI P E.eqs
 fts:YZ P E.fts
 fns:∀f,lH P f (Γ f)
 mixed:P.follows .mixedOrders=true
theorem mW.wp {o:Oper}{K:AS->ax R}(h:mW P C o a w K r)(next:Act->World->Prop)(Q:Exit->Act->World->Prop)(gz:∀bM a' w',oz C bM a' w'->K bM=some r->next a' w'):o.wp P a w next Q:=by obtain⟨v,w',bM,dX,hs,hk⟩:=h;unfold Oper.wp;rcases dX with dX|⟨rfl,dX⟩;rw[dX];exact gz _ _ _ hs hk;rw[dX];exact gz _ _ _ hs hk
theorem ZY {E:Env}(hS:Sound P E Γ){o:Oper}(h:oz C st a w){K:AS->ax R}(hk:dg E Γ an o st K=some r)(next:Act->World->Prop)(Q:Exit->Act->World->Prop)(gz:∀bM a' w',oz C bM a' w'->K bM=some r->next a' w'):o.wp P a w next Q:=by
 unfold dg at hk;split at hk;·rename_i x ho;exact(abm ho h hk).wp next Q gz
 ·rename_i x ho;split at hk;·exact(aa9 ho h hk).wp next Q gz
  ·exact(TS ho h hk).wp next Q gz
 ·rename_i c x y ho;exact(abK ho h hk).wp next Q gz
 ·rename_i T ho;exact(WN hS.ty ho h hk).wp next Q gz
 ·rename_i T x ho;exact(acP ho h hk).wp next Q gz
 ·rename_i T p ho;exact(abe hS.ty ho h hk).wp next Q gz
 ·rename_i T p x ho;split at hk
  ·rename_i hd;split at hk;·exact(OW hS.ty hd ho h hk).wp next Q gz
   ·exact(YN hS.ty hd ho h hk).wp next Q gz
  cases hk
 ·rename_i x ho;split at hk;·rename_i s off hx;exact(PM ho h hx hk).wp next Q gz
  ·rename_i fl e y i off hx;exact(KE ho h hx hk).wp next Q gz
  cases hk
 ·rename_i op T x y T' ho;exact(acN hS.ty hS.eqs ho h hk).wp next Q gz
 ·rename_i op T x ho;exact(agk ho h hk).wp next Q gz
 ·rename_i S p f ho;exact(Xf hS.ty ho h hk).wp next Q gz
 ·rename_i T x i ho;exact(NT hS.ty ho h hk).wp next Q gz
 ·rename_i T x i ho;exact(XJ hS.ty ho h hk).wp next Q gz
 ·rename_i T parts ho;exact(WZ hS.ty ho h hk).wp next Q gz
 ·rename_i T len parts ho;exact(L1 hS.ty ho h hk).wp next Q gz
 ·rename_i T n c ho;exact(N4 hS.ty ho h hk).wp next Q gz
 ·rename_i T x lo hi ho;exact(Yp hS.ty ho h hk).wp next Q gz
 ·rename_i S t f ho;exact(T9 hS.ty hS.fts ho h hk).wp next Q gz
 ·rename_i args ts ho;exact(aaj hS.ty ho h hk).wp next Q gz
 ·rename_i src dst x ho;exact(R1 hS.ty ho h hk).wp next Q gz
 ·rename_i t i ho;exact(R9 ho h hk).wp next Q gz
 ·rename_i args ts ho;exact(adT hS.ty ho h hk).wp next Q gz
 ·rename_i args ts ho;exact(ad1 ho h hk).wp next Q gz
 ·rename_i args ts ho;exact(ad0 ho h hk).wp next Q gz
 ·rename_i args ts ho;exact(TO hS.ty ho h hk).wp next Q gz
 ·rename_i f args ts ho;exact afd hS.fns ho h hk next Q gz
 cases hk
theorem oz.forget (h:oz C st a w)(d:ax Nat):oz C (st.put d (.one .un)) (a.put d undef) w:=h.put d (λ_ _=>mH ⟨rfl,rfl⟩)
theorem oz.known (h:oz C st a w){b:Bool}(hg:st.get d=.val false [.bool b]):a.tmps.getD d undef=.bool b:=by obtain⟨g,oy⟩:=h;obtain⟨fp,hr,_⟩:=oy.slot d;rw[hg]at hr;exact wE hr
theorem S0:a.put (some d) (a.tmps.getD d undef)=a:=by cases a with|mk tmps defers=>simp only[Act.put];congr 1;apply Array.ext_getElem?;intro i;rw[Array.getElem?_setIfInBounds];by_cases h:d=i;subst h;by_cases hs:d<tmps.size;simp[hs,Array.getD];simp[hs];simp[h]
theorem oz.refine(h:oz C st a w){b:Bool}(hg:st.get d=.val false [.bool b]):oz C (st.put (some d) (.one (.bool b))) a w:=by have hk:=h.known hg;have:=h.put (some d) (v:=.bool b) (av:=.one (.bool b)) (λ_ _=>mH ⟨rfl,rfl⟩);rw[<-hk,S0]at this;exact this
theorem Ur {E:Env}(hS:Sound P E Γ){ops:Array Oper}{o:Oper}(h:oz C st a w){K:AS->ax R}(hk:gi E Γ an ops.toList o st K=some r)(next:Act->World->Prop)(Q:Exit->Act->World->Prop)(gz:∀bM a' w',oz C bM a' w'->K bM=some r->next a' w'): if Region.wanted o (yielded ops a.tmps) then o.wp P a w next Q\/(o.asks P a w/\LetsOut Q) else next (a.put o.dst undef) w:=by
 unfold gi at hk;split at hk;·rename_i hgd;rw[aF (by simp[Region.wanted,hgd])];exact .inl (ZY hS h hk next Q gz)
 ·rename_i j H4 hgd;split at hk
  ·rename_i d aaB;have agx:(ops[j]?).bind (·.dst)=some d:=by rw[dJ]at aaB;simpa using aaB
   split at hk
   ·rename_i b hb;have hkn:=h.known hb;have hdl:d<a.tmps.size:=by rcases bQ d a.tmps.size with gB|Ae;exact gB;simp[Array.getD,Nat.not_lt.2 Ae,undef]at hkn
    have hy:yielded ops a.tmps j=some b:=by
     unfold yielded;rw[agx];have:a.tmps[d]?=some (.bool b):=by rw[Array.getElem?_eq_getElem hdl];simp[Array.getD,hdl]at hkn;rw[hkn]
     simp[this]
    have hr:=h.refine hb
    have main:∀t,b=t->(if t==H4 then dg E Γ an o (st.put (some d) (.one (.bool t))) K else K ((st.put (some d) (.one (.bool t))).put o.dst (.one .un)))=some r->
     if Region.wanted o (yielded ops a.tmps) then o.wp P a w next Q\/(o.asks P a w/\LetsOut Q) else next (a.put o.dst undef) w:=by
     rintro t rfl hk
     have hw:Region.wanted o (yielded ops a.tmps)=(b==H4):=by simp only[Region.wanted,hgd,hy];cases b<;>cases H4<;>rfl
     rw[hw]
     cases hbw:(b==H4)with
     |true=>
      rw[hbw]at hk
      simp only[cp]at hk⊢
      exact .inl (ZY hS hr hk next Q gz)
     |false=>
      rw[hbw]at hk
      simp only[aX,cc]at hk⊢
      exact gz _ _ _ (hr.forget o.dst) hk
    cases b with|true=>exact main true rfl hk|false=>exact main false rfl hk
   rename_i hb;obtain⟨g,hg⟩:=id h;obtain⟨fp,hr,_⟩:=hg.slot d;rw[hb]at hr;have hun:=(ew hr).1;have hy:yielded ops a.tmps j=none:=by
    unfold yielded;rw[agx];simp only[eu];rcases bQ d a.tmps.size with gB|Ae;have:a.tmps[d]?=some undef:=by rw[Array.getElem?_eq_getElem gB];simp[Array.getD,gB]at hun;rw[hun]
    rw[this];rfl;rw[Array.getElem?_eq_none Ae]
   have hw:Region.wanted o (yielded ops a.tmps)=false:=by simp only[Region.wanted,hgd,hy];cases H4<;>rfl
   rw[hw];exact gz _ _ _ (h.forget o.dst) hk;cases hk
  cases hk
theorem aea {E:Env}(hS:Sound P E Γ){ops:Array Oper}{Q:Exit->Act->World->Prop}{K:AS->ax R}
 (hq:∀bM a' w',oz C bM a' w'->K bM=some r->Q .normal a' w'):∀(n i:Nat)(st:AS)(a:Act)(w:World),i+n=ops.size->oz C st a w->SV E Γ an ops.toList (ops.toList.drop i) st K=some r->
  wpOps P ops Q ((List.range' i n)) a w
 |0,i,st,a,w,hi,h,hk=>by rw[df (by simp;omega)]at hk;exact hq st a w h hk
 |n+1,i,st,a,w,hi,h,hk=>by
  have Pw:i<ops.toList.length:=by simp;omega
  rw[bN Pw]at hk;have ho:ops[i]?=some ops.toList[i]:=by rw[<-cm];exact al Pw
  rw[List.range'_succ,wpOps,ho];simp only;have:=Ur hS (ops:=ops) h hk (wpOps P ops Q (List.range' (i+1) n)) Q (λbM a' w' hs Fs=>aea hS hq n (i+1) bM a' w' (by omega) hs Fs);exact this
end Go.Dn
