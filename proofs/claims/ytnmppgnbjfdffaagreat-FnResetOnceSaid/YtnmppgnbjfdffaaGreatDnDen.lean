import Derived.Test.YtnmppgnbjfdffaaGreatDnCall
/- The soundness of the abstract semantics: operations, regions, loops, functions. -/
namespace Go.Dn
open Go.RowKit
variable {P:Program} {C:Ctx} {st:AS} {a:Act} {w:World} {R:Type} {r:R}
variable {an:An} {Γ:xl} {d:Nat} {x:Operand}
theorem Yz:∀(os ss:aw AC){r:aw AC},mD os ss=some r->r.all AC.adm=true/\r.map AC.strip=r:=by
 intro os;induction os with
 |nil=>intro ss r h;cases ss with|nil=>simp[mD]at h;subst h;exact⟨rfl,rfl⟩|cons _ _=>simp[mD]at h
 |cons o os ih=>
  intro ss r h;cases ss with
  |nil=>unfold mD at h;split at h<;>first|contradiction|cases h
  |cons s ss=>
   unfold mD at h;split at h;contradiction;rename_i h1 h2;injection h1 with h1 K9;subst K9;injection h2 with h2 Pp;subst Pp;rw[Bool.cond_eq_ite]at h;split at h;obtain⟨r',hr,h⟩:=aM.1 h;cases h;obtain⟨k1,k2⟩:=ih _ hr;exact⟨by simp[AC.adm,k1],by simp[AC.strip,k2]⟩;cases h
   all_goals first
    |cases h
    |(rename_i h1 h2
      injection h1 with h1 K9;subst K9
      injection h2 with h2 Pp;subst Pp
      obtain⟨r',hr,h⟩:=aM.1 h
      cases h
      obtain⟨k1,k2⟩:=ih _ hr
      exact⟨by simp[AC.adm,AC.jd,k1],by simp[AC.strip,k2]⟩)
theorem VZ:∀{cs:aw AC},cs.all AC.adm=true->∀{c:RC}{A:Rg}{hw:Nat->Nat}{w:World}{vs:ir}{fp:ff},bA (fD A hw w) vs cs fp->c.w=w->c.hw=hw->bA c vs (cs.map AC.strip) fp
 |[],_,c,A,hw,w,vs,fp,h,_,_=>by cases vs with|nil=>exact h|cons _ _=>exact h.elim
 |x::cs,lI,c,A,hw,w,vs,fp,h,Pq,C4=>by
  cases vs with
  |nil=>exact h.elim
  |cons v vs=>
   obtain⟨f1,f2,rfl,h1,h2⟩:=h;simp only[bV,ae]at lI;refine⟨f1,f2,rfl,?_,VZ lI.2 h2 Pq C4⟩;cases x with
   |sl fl e xs=>cases fl with|own t=>exact⟨by rw[Pq,C4];exact h1.1,by simp⟩|arg _=>cases lI.1|loc _ _=>cases lI.1|nest _ _ _ _ _ _=>cases lI.1|part _ _ _ _=>cases lI.1|eX _ _ _=>cases lI.1
   |int k n=>exact h1
   |bool b=>exact h1
   |str s=>exact h1
   |fn f=>exact h1
   |jm=>cases lI.1
   |ptr s off=>cases lI.1
   |yP fl e y i off=>cases lI.1
   |un=>cases lI.1
   |bot=>cases lI.1
theorem dH.aeb {g:Gh}(h:dH C g st a w []){v:AV}{bI:AS}(hc:Nx st x=some (v,bI)):∃g',(∀s,g'.β s=g.β s)/\dH C g' bI a w [(a.eval x,v)]:=by
 unfold Nx at hc;have JJ:=h.rd x;split at hc;rename_i gg cs hx;rw[hx]at JJ;obtain⟨vs0,eY,Mr⟩:=JJ;split at hc;rename_i rt j Oc;split at hc;rename_i Vv gC;split at hc;rename_i oS aaP;cases hc;have afq:=LH _ _ aaP;have Lp:=Yz _ _ aaP
 have core:∀(o:jy)(U2:AS){vs:ir}{fp:ff},bA (cH C g st w) vs Vv fp->fp.Nodup->(∀b∈fp,g.dX b=some o)->U2.ep=st.ep->U2.iss=st.iss->(∀s,iQ st s->iQ U2 s)->
  ∃f1 f2 f3,fp=f1++f2++f3/\(∀b∈f1++f3,b∉f2)/\
   (cH C g st w).Le (cH C {g with dX:=λb=>if b∈f2 then some (.hand 0) else g.dX b} U2 w)/\
   bA (cH C {g with dX:=λb=>if b∈f2 then some (.hand 0) else g.dX b} U2 w) vs (dT Vv (rt.pos-j) (aQ st.ep ((Vv.drop (rt.pos-j)).take cs.length))) (f1++f3)/\(f1++f3).Nodup/\
   F7 C {g with dX:=λb=>if b∈f2 then some (.hand 0) else g.dX b} U2 w 0 (a.eval x) (.val gg oS):=by
  intro o U2 vs fp hr hn hl vY Ib sL
  obtain⟨f1,f2,f3,rfl,r1,r2,r3⟩:=hr.mid (rt.pos-j) cs.length
  have AY:=hn
  rw[aJ]at AY
  have n1:=aH.1 AY
  have n2:=aH.1 n1.2.1
  have hle:(cH C g st w).Le (cH C {g with dX:=λb=>if b∈f2 then some (.hand 0) else g.dX b} U2 w):=
   ⟨rfl,λt ht=>⟨by show lJ U2 t;have SA:lJ st t:=ht;simpa[lJ,Ib]using SA,rfl⟩,λ_ _ _ _ _ hu=>hu,by show st.ep<=U2.ep;omega,λs hs=>⟨sL s hs,rfl⟩,λ_ b o u ho hu=>⟨ho,hu⟩⟩
  refine⟨f1,f2,f3,rfl,?_,hle,?_,?_,?_⟩
  ·intro b hb h2
   rcases ax.1 hb with hb|hb
   ·exact n1.2.2 b hb b (bn _ h2) rfl
   ·exact n2.2.2 b h2 b hb rfl
  ·have Gp:=U1 (c':=cH C {g with dX:=λb=>if b∈f2 then some (.hand 0) else g.dX b} U2 w) (seg:=aQ st.ep ((Vv.drop (rt.pos-j)).take cs.length)) rfl (by rw[r2.length];exact afq)
    (r1.mono hle (λb _=>⟨rfl,rfl⟩)) ((r2.aQ).mono hle (by simp)) (r3.mono hle (λb _=>⟨rfl,rfl⟩))
   rw[bt]at Gp
   exact Gp
  ·refine aH.2 ⟨n1.1,n2.2.1,?_⟩
   rintro b hb c hc rfl
   exact n1.2.2 b hb b (ba _ hc) rfl
  ·have alm:=UP (A:=λ_ _ _=>False) _ _ aaP Mr r2
   have rP:=VZ Lp.1 (c:=cH C g st w) alm rfl rfl
   rw[Lp.2]at rP
   refine⟨f2,⟨vs0,eY,rP.mono hle (λb _=>⟨rfl,rfl⟩)⟩,n2.1,λb hb=>?_⟩
   show(if b∈f2 then _ else _)=_
   rw[aF hb]
 have J1:∀(f2:ff)(o:jy),(∀b∈f2,g.dX b=some o)->∀b y,(if b∈f2 then some (jy.hand 0) else g.dX b)=some y->b<w.heap.size/\(C.w0.heap.size<=b\/C.M b):=by intro f2 o hf b y hy;by_cases hm:b∈f2;exact h.fQ b _ (hf b hm);rw[aG hm]at hy;exact h.fQ b y hy
 have Ud:∀(f2:ff)(o:jy),(∀b∈f2,g.dX b=some o)->∀b y,y≠o->g.dX b=some y->(if b∈f2 then some (jy.hand 0) else g.dX b)=some y:=by intro f2 o hf b y hyo hb;rw[aG (λhm=>hyo (by have:=hf b hm;rw[hb]at this;simpa using this))];exact hb
 have hh1:∀{g2:Gh}{U2:AS},F7 C g2 U2 w 0 (a.eval x) (.val gg oS)->∀k u bv,[(a.eval x,AV.val gg oS)][k]?=some (u,bv)->F7 C g2 U2 w k u bv:=by
  intro g2 U2 hh k u bv hk;cases k with
  |zero=>simp only[cn,aZ,Prod.mk.injEq]at hk;obtain⟨rfl,rfl⟩:=hk;exact hh
  |succ k=>simp at hk
 cases rt with
 |slot s j0=>
  simp only[AS.Fx]at gC;cases hg:st.get s with
  |tS ts=>rw[hg]at gC;cases gC
  |val g1 cs1=>
   rw[hg]at gC;cases gC;have lN:∀Bf,st.Cb (.slot s j0) Bf={st with slots:=st.slots.set s (.val g1 Bf)}:=λBf=>by simp only[AS.Cb,hg,AS.put,fb]
   obtain⟨fp,hr,hn,hl⟩:=h.slot s;rw[hg]at hr;obtain⟨vs,ahd,hr⟩:=hr;obtain⟨f1,f2,f3,rfl,Bd,hle,Gp,JE,BI⟩:=core (.slot s) (st.Cb (.slot s j0) (dT Vv (jU.pos (.slot s j0)-j) (aQ st.ep ((Vv.drop (jU.pos (.slot s j0)-j)).take cs.length)))) hr hn hl (by rw[lN]) (by rw[lN]) (λ_ q=>by rw[lN];exact q);have Aa:∀b∈f2,g.dX b=some (.slot s):=λb hb=>hl b (by simp[hb]);refine⟨{g with dX:=λb=>if b∈f2 then some (.hand 0) else g.dX b},λ_=>rfl,h.step (λy=>y≠ .slot s) hle h.defers ?_ ?_ h.frame (J1 f2 _ Aa) (λb y hk hb=>⟨Ud f2 _ Aa b y hk hb,rfl,rfl⟩) ?_ ?_ (λk u bv hk=> .inr (hh1 BI k u bv hk)) (.inl ⟨by simp,by rw[lN]⟩)⟩;rw[lN];simpa using h.size;rw[lN];simpa using h.bsize;intro i bv hi;rw[lN]at hi;have tU:(st.slots.set s (.val g1 _))[i]?=some bv:=hi;by_cases his:i=s;subst his;rw[bm]at tU;simp only[bM]at tU;split at tU;simp at tU;subst tU;refine .inr ⟨f1++f3,⟨vs,ahd,Gp⟩,JE,λb hb=>?_⟩;show(if b∈f2 then _ else _)=_;rw[aG (Bd b hb)];exact hl b (by rcases ax.1 hb with k|k<;>simp[k]);cases tU;rw[aP (cL his)]at tU;exact .inl ⟨by simpa using his,tU,rfl⟩;intro t Bf hb;rw[lN]at hb;exact .inl ⟨by simp,hb,rfl⟩
 |box s j0=>
  have jt:st.boxes[s]?=some (some Vv):=by simp only[AS.Fx,dF]at gC;cases hb:st.boxes[s]? with|none=>simp[hb]at gC|some q=>rw[hb]at gC;simp at gC;rw[gC]
  have wF:s<st.boxes.length:=(aE.1 jt).1;have lN:∀Bf,st.Cb (.box s j0) Bf={st with boxes:=st.boxes.set s (some Bf)}:=λBf=>by simp only[AS.Cb,AS.eu,fb]
  obtain⟨arr,T,fr,fp,jK,qv,hr,hn,tZ,hl,Eo,Er⟩:=h.boxes s Vv jt;obtain⟨f1,f2,f3,rfl,Bd,hle,Gp,JE,BI⟩:=core (.box s) (st.Cb (.box s j0) (dT Vv (jU.pos (.box s j0)-j) (aQ st.ep ((Vv.drop (jU.pos (.box s j0)-j)).take cs.length)))) hr hn hl (by rw[lN]) (by rw[lN]) (λt ht=>by rw[lN];obtain⟨c0,VO⟩:=ht;by_cases rb:s=t;subst rb;exact⟨_,by simp[wF];rfl⟩;exact⟨c0,by rw[aP rb];exact VO⟩);have Aa:∀b∈f2,g.dX b=some (.box s):=λb hb=>hl b (by simp[hb]);refine⟨{g with dX:=λb=>if b∈f2 then some (.hand 0) else g.dX b},λ_=>rfl,h.step (λy=>y≠ .box s) hle h.defers ?_ ?_ h.frame (J1 f2 _ Aa) (λb y hk hb=>⟨Ud f2 _ Aa b y hk hb,rfl,rfl⟩) ?_ ?_ (λk u bv hk=> .inr (hh1 BI k u bv hk)) (.inl ⟨by simp,by rw[lN]⟩)⟩;rw[lN];exact h.size;rw[lN];simpa using h.bsize;intro i bv hi;rw[lN]at hi;exact .inl ⟨by simp,hi,rfl⟩;intro t Bf hb;rw[lN]at hb;have gK:(st.boxes.set s (some _))[t]?=some (some Bf):=hb;by_cases rb:t=s;subst rb;rw[bm]at gK;simp only[bM,wF]at gK;simp at gK;subst gK;have Gq:g.β t∉f2:=λhm=>tZ (by simp[hm]);refine .inr ⟨arr,T,fr,f1++f3,jK,qv,Gp,JE,λhm=>tZ (by rcases ax.1 hm with k|k<;>simp[k]),λb hb=>?_,?_,Er⟩;show(if b∈f2 then _ else _)=_;rw[aG (Bd b hb)];exact hl b (by rcases ax.1 hb with k|k<;>simp[k]);show(if g.β t∈f2 then _ else _)=_;rw[aG Gq];exact Eo;rw[aP (cL rb)]at gK;exact .inl ⟨by simpa using rb,gK,rfl⟩
 |io j0=>simp only[AS.Fx,aZ]at gC;subst gC;obtain⟨fp,hr,hn,hl⟩:=h.io;obtain⟨f1,f2,f3,rfl,Bd,hle,Gp,JE,BI⟩:=core .io (st.Cb (.io j0) (dT st.io (jU.pos (.io j0)-j) (aQ st.ep ((st.io.drop (jU.pos (.io j0)-j)).take cs.length)))) hr hn hl rfl rfl (λ_ q=>q);have Aa:∀b∈f2,g.dX b=some .io:=λb hb=>hl b (by simp[hb]);refine⟨{g with dX:=λb=>if b∈f2 then some (.hand 0) else g.dX b},λ_=>rfl,h.step (λy=>y≠ .io) hle h.defers h.size h.bsize h.frame (J1 f2 _ Aa) (λb y hk hb=>⟨Ud f2 _ Aa b y hk hb,rfl,rfl⟩) (λi bv hi=> .inl ⟨by simp,hi,rfl⟩) (λt Bf hb=> .inl ⟨by simp,hb,rfl⟩) (λk u bv hk=> .inr (hh1 BI k u bv hk)) (.inr ⟨f1++f3,Gp,JE,λb hb=>?_⟩)⟩;show(if b∈f2 then _ else _)=_;rw[aG (Bd b hb)];exact hl b (by rcases ax.1 hb with k|k<;>simp[k])
 cases hc;cases hc;cases hc;cases hc
theorem XI {o:Oper}(ho:o.op=.assign x)(h:mP C st a w){K:AS->ay R}(hk:MG o x st K=some r):lH P C o a w K r:=by
 have dV:(execOp a.eval o).run P w=.ok (.value (a.eval x)) w:=by simp[execOp,ho]
 obtain⟨g,hg⟩:=h;unfold MG at hk;split at hk;rename_i v bI hc;obtain⟨g',_,mO⟩:=hg.aeb hc;exact⟨_,_,_,.inl dV,dH.Av mO o.dst,hk⟩;cases hk
theorem KS {E:Env}(hE:iY P E.ty){o:Oper}{T:TypeId}{p:Operand}(hd:o.dst=none)(ho:o.op=.store T p x)(h:mP C st a w){K:AS->ay R}(hk:uD E T p x st K=some r):lH P C o a w K r:=by obtain⟨g,hg⟩:=h;unfold uD at hk;split at hk;rename_i sh s off hT hp;have sA:=hg.rd p;rw[hp]at sA;have sA:=yB sA;split at hk;rename_i gg vs bI hc;obtain⟨g',Gq,mO⟩:=hg.aeb hc;split at hk;rename_i cs jt;split at hk;rename_i hlen;split at hk;rename_i gu;exact Dy hE hd ho hT (by rw[Gq];exact sA) mO jt hlen.1 hlen.2 gu hk;cases hk;cases hk;cases hk;cases hk;cases hk
structure Sound (P:Program) (E:Env) (Γ:xl):Prop where
 ty:iY P E.ty
 eqs:Pv P E.eqs
 fts:Vk P E.fts
 fns:∀f,gA P f (Γ f)
 mixed:P.follows .mixedOrders=true
theorem lH.wp {o:Oper}{K:AS->ay R}(h:lH P C o a w K r)(next:Act->World->Prop)(Q:Exit->Act->World->Prop)(gv:∀bI a' w',mP C bI a' w'->K bI=some r->next a' w'):o.wp P a w next Q:=by obtain⟨v,w',bI,dV,hs,hk⟩:=h;unfold Oper.wp;rcases dV with dV|⟨rfl,dV⟩;rw[dV];exact gv _ _ _ hs hk;rw[dV];exact gv _ _ _ hs hk
theorem Wn {E:Env}(hS:Sound P E Γ){o:Oper}(h:mP C st a w){K:AS->ay R}(hk:cU E Γ an o st K=some r)(next:Act->World->Prop)(Q:Exit->Act->World->Prop)(gv:∀bI a' w',mP C bI a' w'->K bI=some r->next a' w'):o.wp P a w next Q:=by
 unfold cU at hk;split at hk;·rename_i x ho;exact(XY ho h hk).wp next Q gv
 ·rename_i x ho;split at hk;·exact(XI ho h hk).wp next Q gv
  ·exact(PG ho h hk).wp next Q gv
 ·rename_i c x y ho;exact(Yk ho h hk).wp next Q gv
 ·rename_i T ho;exact(SJ hS.ty ho h hk).wp next Q gv
 ·rename_i T x ho;exact(ZI ho h hk).wp next Q gv
 ·rename_i T p ho;exact(XO hS.ty ho h hk).wp next Q gv
 ·rename_i T p x ho;split at hk
  ·rename_i hd;split at hk;·exact(KS hS.ty hd ho h hk).wp next Q gv
   ·exact(U7 hS.ty hd ho h hk).wp next Q gv
  cases hk
 ·rename_i x ho;split at hk;·rename_i s off hx;exact(LD ho h hx hk).wp next Q gv
  ·rename_i fl e y i off hx;exact(GK ho h hx hk).wp next Q gv
  cases hk
 ·rename_i op T x y T' ho;exact(ZF hS.ty hS.eqs ho h hk).wp next Q gv
 ·rename_i op T x ho;exact(ad0 ho h hk).wp next Q gv
 ·rename_i S p f ho;exact(Ty hS.ty ho h hk).wp next Q gv
 ·rename_i T x i ho;exact(JW hS.ty ho h hk).wp next Q gv
 ·rename_i T x i ho;exact(T5 hS.ty ho h hk).wp next Q gv
 ·rename_i T parts ho;exact(SW hS.ty ho h hk).wp next Q gv
 ·rename_i T len parts ho;exact(H9 hS.ty ho h hk).wp next Q gv
 ·rename_i T n c ho;exact(J7 hS.ty ho h hk).wp next Q gv
 ·rename_i T x lo hi ho;exact(US hS.ty ho h hk).wp next Q gv
 ·rename_i S t f ho;exact(P2 hS.ty hS.fts ho h hk).wp next Q gv
 ·rename_i args ts ho;exact(WK hS.ty ho h hk).wp next Q gv
 ·rename_i src dst x ho;exact(Nz hS.ty ho h hk).wp next Q gv
 ·rename_i t i ho;exact(NZ ho h hk).wp next Q gv
 ·rename_i args ts ho;exact(abe hS.ty ho h hk).wp next Q gv
 ·rename_i args ts ho;exact(abl ho h hk).wp next Q gv
 ·rename_i args ts ho;exact(abk ho h hk).wp next Q gv
 ·rename_i args ts ho;exact(PB hS.ty ho h hk).wp next Q gv
 ·rename_i f args ts ho;exact acP hS.fns ho h hk next Q gv
 cases hk
theorem mP.forget (h:mP C st a w)(d:ay Nat):mP C (st.put d (.one .un)) (a.put d undef) w:=h.put d (λ_ _=>ly ⟨rfl,rfl⟩)
theorem mP.known (h:mP C st a w){b:Bool}(hg:st.get d=.val false [.bool b]):a.tmps.getD d undef=.bool b:=by obtain⟨g,mO⟩:=h;obtain⟨fp,hr,_⟩:=mO.slot d;rw[hg]at hr;exact tp hr
theorem OO:a.put (some d) (a.tmps.getD d undef)=a:=by cases a with|mk tmps defers=>simp only[Act.put];congr 1;apply Array.ext_getElem?;intro i;rw[Array.getElem?_setIfInBounds];by_cases h:d=i;subst h;by_cases hs:d<tmps.size;simp[hs,Array.getD];simp[hs];simp[h]
theorem mP.refine(h:mP C st a w){b:Bool}(hg:st.get d=.val false [.bool b]):mP C (st.put (some d) (.one (.bool b))) a w:=by have hk:=h.known hg;have:=h.put (some d) (v:=.bool b) (av:=.one (.bool b)) (λ_ _=>ly ⟨rfl,rfl⟩);rw[<-hk,OO]at this;exact this
theorem Qn {E:Env}(hS:Sound P E Γ){ops:Array Oper}{o:Oper}(h:mP C st a w){K:AS->ay R}(hk:fZ E Γ an ops.toList o st K=some r)(next:Act->World->Prop)(Q:Exit->Act->World->Prop)(gv:∀bI a' w',mP C bI a' w'->K bI=some r->next a' w'): if Region.wanted o (yielded ops a.tmps) then o.wp P a w next Q\/(o.asks P a w/\LetsOut Q) else next (a.put o.dst undef) w:=by
 unfold fZ at hk;split at hk;·rename_i hgd;rw[aF (by simp[Region.wanted,hgd])];exact .inl (Wn hS h hk next Q gv)
 ·rename_i j Ei hgd;split at hk
  ·rename_i d W5;have aeo:(ops[j]?).bind (·.dst)=some d:=by rw[dF]at W5;simpa using W5
   split at hk
   ·rename_i b hb;have Zk:=h.known hb;have hdl:d<a.tmps.size:=by rcases bW d a.tmps.size with hG|yc;exact hG;simp[Array.getD,Nat.not_lt.2 yc,undef]at Zk
    have hy:yielded ops a.tmps j=some b:=by
     unfold yielded;rw[aeo];have:a.tmps[d]?=some (.bool b):=by rw[Array.getElem?_eq_getElem hdl];simp[Array.getD,hdl]at Zk;rw[Zk]
     simp[this]
    have hr:=h.refine hb
    have main:∀t,b=t->(if t==Ei then cU E Γ an o (st.put (some d) (.one (.bool t))) K else K ((st.put (some d) (.one (.bool t))).put o.dst (.one .un)))=some r->
     if Region.wanted o (yielded ops a.tmps) then o.wp P a w next Q\/(o.asks P a w/\LetsOut Q) else next (a.put o.dst undef) w:=by
     rintro t rfl hk
     have hw:Region.wanted o (yielded ops a.tmps)=(b==Ei):=by simp only[Region.wanted,hgd,hy];cases b<;>cases Ei<;>rfl
     rw[hw]
     cases hbw:(b==Ei)with
     |true=>
      rw[hbw]at hk
      simp only[bM]at hk⊢
      exact .inl (Wn hS hr hk next Q gv)
     |false=>
      rw[hbw]at hk
      simp only[aU,bQ]at hk⊢
      exact gv _ _ _ (hr.forget o.dst) hk
    cases b with|true=>exact main true rfl hk|false=>exact main false rfl hk
   rename_i hb;obtain⟨g,hg⟩:=id h;obtain⟨fp,hr,_⟩:=hg.slot d;rw[hb]at hr;have hun:=(ee hr).1;have hy:yielded ops a.tmps j=none:=by
    unfold yielded;rw[aeo];simp only[ec];rcases bW d a.tmps.size with hG|yc;have:a.tmps[d]?=some undef:=by rw[Array.getElem?_eq_getElem hG];simp[Array.getD,hG]at hun;rw[hun]
    rw[this];rfl;rw[Array.getElem?_eq_none yc]
   have hw:Region.wanted o (yielded ops a.tmps)=false:=by simp only[Region.wanted,hgd,hy];cases Ei<;>rfl
   rw[hw];exact gv _ _ _ (h.forget o.dst) hk;cases hk
  cases hk
theorem abu {E:Env}(hS:Sound P E Γ){ops:Array Oper}{Q:Exit->Act->World->Prop}{K:AS->ay R}
 (hq:∀bI a' w',mP C bI a' w'->K bI=some r->Q .normal a' w'):∀(n i:Nat)(st:AS)(a:Act)(w:World),i+n=ops.size->mP C st a w->OI E Γ an ops.toList (ops.toList.drop i) st K=some r->
  wpOps P ops Q ((List.range' i n)) a w
 |0,i,st,a,w,hi,h,hk=>by rw[cy (by simp;omega)]at hk;exact hq st a w h hk
 |n+1,i,st,a,w,hi,h,hk=>by
  have Lo:i<ops.toList.length:=by simp;omega
  rw[bK Lo]at hk;have ho:ops[i]?=some ops.toList[i]:=by rw[<-cf];exact al Lo
  rw[List.range'_succ,wpOps,ho];simp only;have:=Qn hS (ops:=ops) h hk (wpOps P ops Q (List.range' (i+1) n)) Q (λbI a' w' hs BK=>abu hS hq n (i+1) bI a' w' (by omega) hs BK);exact this
end Go.Dn
