import Derived.Test.YtbebkmajekhclaaGreatDnCall
/- The soundness of the abstract semantics: operations, regions, loops, functions. -/
namespace Go.Dn
open Go.RowKit
variable {P:Program} {C:Ctx} {st:AS} {a:Act} {w:World} {R:Type} {r:R}
variable {an:An} {Γ:Dy} {d:Nat} {x:Operand}
theorem aio:∀(os ss:aw AC){r:aw AC},oL os ss=some r->r.all AC.anY=true/\r.map AC.strip=r:=by
 intro os;induction os with
 |nil=>intro ss r h;cases ss with|nil=>simp[oL]at h;subst h;exact⟨rfl,rfl⟩|cons _ _=>simp[oL]at h
 |cons o os ih=>
  intro ss r h;cases ss with
  |nil=>unfold oL at h;split at h<;>first|contradiction|cases h
  |cons s ss=>
   unfold oL at h;split at h;contradiction;rename_i h1 h2;injection h1 with h1 SP;subst SP;injection h2 with h2 WC;subst WC;rw[Bool.cond_eq_ite]at h;split at h;obtain⟨r',hr,h⟩:=aY.1 h;cases h;obtain⟨k1,k2⟩:=ih _ hr;exact⟨by simp[AC.anY,k1],by simp[AC.strip,k2]⟩;cases h
   all_goals first
    |cases h
    |(rename_i h1 h2
      injection h1 with h1 SP;subst SP
      injection h2 with h2 WC;subst WC
      obtain⟨r',hr,h⟩:=aY.1 h
      cases h
      obtain⟨k1,k2⟩:=ih _ hr
      exact⟨by simp[AC.anY,AC.kh,k1],by simp[AC.strip,k2]⟩)
theorem afy:∀{cs:aw AC},cs.all AC.anY=true->∀{c:RC}{A:Rg}{hw:Nat->Nat}{w:World}{vs:jf}{fp:fA},ca (gC A hw w) vs cs fp->c.w=w->c.hw=hw->ca c vs (cs.map AC.strip) fp
 |[],_,c,A,hw,w,vs,fp,h,_,_=>by cases vs with|nil=>exact h|cons _ _=>exact h.elim
 |x::cs,px,c,A,hw,w,vs,fp,h,XZ,Je=>by
  cases vs with
  |nil=>exact h.elim
  |cons v vs=>
   obtain⟨f1,f2,rfl,h1,h2⟩:=h;simp only[bX,af]at px;refine⟨f1,f2,rfl,?_,afy px.2 h2 XZ Je⟩;cases x with
   |sl fl e xs=>cases fl with|own t=>exact⟨by rw[XZ,Je];exact h1.1,by simp⟩|arg _=>cases px.1|loc _ _=>cases px.1|nest _ _ _ _ _ _=>cases px.1|part _ _ _ _=>cases px.1|fS _ _ _=>cases px.1
   |int k n=>exact h1
   |bool b=>exact h1
   |str s=>exact h1
   |fn f=>exact h1
   |kv=>cases px.1
   |ptr s off=>cases px.1
   |Ey fl e y i off=>cases px.1
   |un=>cases px.1
   |bot=>cases px.1
theorem eE.aoX {g:Gh}(h:eE C g st a w []){v:AV}{cp:AS}(hc:VY st x=some (v,cp)):∃g',(∀s,g'.β s=g.β s)/\eE C g' cp a w [(a.eval x,v)]:=by
 unfold VY at hc;have Q8:=h.rd x;split at hc;rename_i gg cs hx;rw[hx]at Q8;obtain⟨vs0,fU,UD⟩:=Q8;split at hc;rename_i rt j WJ;split at hc;rename_i csO iG;split at hc;rename_i sB anL;cases hc;have aqr:=Tz _ _ anL;have Tf:=aio _ _ anL
 have core:∀(o:kK)(stN:AS){vs:jf}{fp:fA},ca (dq C g st w) vs csO fp->fp.Nodup->(∀b∈fp,g.fj b=some o)->stN.ep=st.ep->stN.iss=st.iss->(∀s,jL st s->jL stN s)->
  ∃f1 f2 f3,fp=f1++f2++f3/\(∀b∈f1++f3,b∉f2)/\
   (dq C g st w).Le (dq C {g with fj:=λb=>if b∈f2 then some (.hand 0) else g.fj b} stN w)/\
   ca (dq C {g with fj:=λb=>if b∈f2 then some (.hand 0) else g.fj b} stN w) vs (eX csO (rt.pos-j) (bl st.ep ((csO.drop (rt.pos-j)).take cs.length))) (f1++f3)/\(f1++f3).Nodup/\
   ME C {g with fj:=λb=>if b∈f2 then some (.hand 0) else g.fj b} stN w 0 (a.eval x) (.val gg sB):=by
  intro o stN vs fp hr hn hl Bs O5 xo
  obtain⟨f1,f2,f3,rfl,r1,r2,r3⟩:=hr.mid (rt.pos-j) cs.length
  have Fb:=hn
  rw[bj]at Fb
  have n1:=aQ.1 Fb
  have n2:=aQ.1 n1.2.1
  have hle:(dq C g st w).Le (dq C {g with fj:=λb=>if b∈f2 then some (.hand 0) else g.fj b} stN w):=
   ⟨rfl,λt ht=>⟨by show nH stN t;have ht':nH st t:=ht;simpa[nH,O5]using ht',rfl⟩,λ_ _ _ _ _ hu=>hu,by show st.ep<=stN.ep;omega,λs hs=>⟨xo s hs,rfl⟩,λ_ b o u ho hu=>⟨ho,hu⟩⟩
  refine⟨f1,f2,f3,rfl,?_,hle,?_,?_,?_⟩
  ·intro b hb h2
   rcases aA.1 hb with hb|hb
   ·exact n1.2.2 b hb b (bP _ h2) rfl
   ·exact n2.2.2 b h2 b hb rfl
  ·have MT:=aeG (c':=dq C {g with fj:=λb=>if b∈f2 then some (.hand 0) else g.fj b} stN w) (seg:=bl st.ep ((csO.drop (rt.pos-j)).take cs.length)) rfl (by rw[r2.length];exact aqr)
    (r1.mono hle (λb _=>⟨rfl,rfl⟩)) ((r2.bl).mono hle (by simp)) (r3.mono hle (λb _=>⟨rfl,rfl⟩))
   rw[bR]at MT
   exact MT
  ·refine aQ.2 ⟨n1.1,n2.2.1,?_⟩
   rintro b hb c hc rfl
   exact n1.2.2 b hb b (bD _ hc) rfl
  ·have ax6:=aej (A:=λ_ _ _=>False) _ _ anL UD r2
   have yK:=afy Tf.1 (c:=dq C g st w) ax6 rfl rfl
   rw[Tf.2]at yK
   refine⟨f2,⟨vs0,fU,yK.mono hle (λb _=>⟨rfl,rfl⟩)⟩,n2.1,λb hb=>?_⟩
   show(if b∈f2 then _ else _)=_
   rw[aI hb]
 have Rr:∀(f2:fA)(o:kK),(∀b∈f2,g.fj b=some o)->∀b y,(if b∈f2 then some (kK.hand 0) else g.fj b)=some y->b<w.heap.size/\(C.w0.heap.size<=b\/C.M b):=by intro f2 o hf b y hy;by_cases hm:b∈f2;exact h.gN b _ (hf b hm);rw[aK hm]at hy;exact h.gN b y hy
 have adG:∀(f2:fA)(o:kK),(∀b∈f2,g.fj b=some o)->∀b y,y≠o->g.fj b=some y->(if b∈f2 then some (kK.hand 0) else g.fj b)=some y:=by intro f2 o hf b y hyo hb;rw[aK (λhm=>hyo (by have:=hf b hm;rw[hb]at this;simpa using this))];exact hb
 have hh1:∀{g2:Gh}{stN:AS},ME C g2 stN w 0 (a.eval x) (.val gg sB)->∀k u bv,[(a.eval x,AV.val gg sB)][k]?=some (u,bv)->ME C g2 stN w k u bv:=by
  intro g2 stN hh k u bv hk;cases k with
  |zero=>simp only[cR,bq,Prod.mk.injEq]at hk;obtain⟨rfl,rfl⟩:=hk;exact hh
  |succ k=>simp at hk
 cases rt with
 |slot s j0=>
  simp only[AS.LM]at iG;cases hg:st.get s with
  |yC ts=>rw[hg]at iG;cases iG
  |val g1 cs1=>
   rw[hg]at iG;cases iG;have nD:∀Hd,st.H3 (.slot s j0) Hd={st with slots:=st.slots.set s (.val g1 Hd)}:=λHd=>by simp only[AS.H3,hg,AS.put,fV]
   obtain⟨fp,hr,hn,hl⟩:=h.slot s;rw[hg]at hr;obtain⟨vs,ass,hr⟩:=hr;obtain⟨f1,f2,f3,rfl,G9,hle,MT,Q3,HC⟩:=core (.slot s) (st.H3 (.slot s j0) (eX csO (lx.pos (.slot s j0)-j) (bl st.ep ((csO.drop (lx.pos (.slot s j0)-j)).take cs.length)))) hr hn hl (by rw[nD]) (by rw[nD]) (λ_ q=>by rw[nD];exact q);have CV:∀b∈f2,g.fj b=some (.slot s):=λb hb=>hl b (by simp[hb]);refine⟨{g with fj:=λb=>if b∈f2 then some (.hand 0) else g.fj b},λ_=>rfl,h.step (λy=>y≠ .slot s) hle h.defers ?_ ?_ h.frame (Rr f2 _ CV) (λb y hk hb=>⟨adG f2 _ CV b y hk hb,rfl,rfl⟩) ?_ ?_ (λk u bv hk=> .inr (hh1 HC k u bv hk)) (.inl ⟨by simp,by rw[nD]⟩)⟩;rw[nD];simpa using h.size;rw[nD];simpa using h.bsize;intro i bv hi;rw[nD]at hi;have wV:(st.slots.set s (.val g1 _))[i]?=some bv:=hi;by_cases his:i=s;subst his;rw[bO]at wV;simp only[cz]at wV;split at wV;simp at wV;subst wV;refine .inr ⟨f1++f3,⟨vs,ass,MT⟩,Q3,λb hb=>?_⟩;show(if b∈f2 then _ else _)=_;rw[aK (G9 b hb)];exact hl b (by rcases aA.1 hb with k|k<;>simp[k]);cases wV;rw[aR (df his)]at wV;exact .inl ⟨by simpa using his,wV,rfl⟩;intro t Hd hb;rw[nD]at hb;exact .inl ⟨by simp,hb,rfl⟩
 |box s j0=>
  have kD:st.boxes[s]?=some (some csO):=by simp only[AS.LM,ez]at iG;cases hb:st.boxes[s]? with|none=>simp[hb]at iG|some q=>rw[hb]at iG;simp at iG;rw[iG]
  have BO:s<st.boxes.length:=(aC.1 kD).1;have nD:∀Hd,st.H3 (.box s j0) Hd={st with boxes:=st.boxes.set s (some Hd)}:=λHd=>by simp only[AS.H3,AS.fD,fV]
  obtain⟨arr,T,fr,fp,lf,uO,hr,hn,yL,hl,KO,KR⟩:=h.boxes s csO kD;obtain⟨f1,f2,f3,rfl,G9,hle,MT,Q3,HC⟩:=core (.box s) (st.H3 (.box s j0) (eX csO (lx.pos (.box s j0)-j) (bl st.ep ((csO.drop (lx.pos (.box s j0)-j)).take cs.length)))) hr hn hl (by rw[nD]) (by rw[nD]) (λt ht=>by rw[nD];obtain⟨c0,hc0⟩:=ht;by_cases vK:s=t;subst vK;exact⟨_,by simp[BO];rfl⟩;exact⟨c0,by rw[aR vK];exact hc0⟩);have CV:∀b∈f2,g.fj b=some (.box s):=λb hb=>hl b (by simp[hb]);refine⟨{g with fj:=λb=>if b∈f2 then some (.hand 0) else g.fj b},λ_=>rfl,h.step (λy=>y≠ .box s) hle h.defers ?_ ?_ h.frame (Rr f2 _ CV) (λb y hk hb=>⟨adG f2 _ CV b y hk hb,rfl,rfl⟩) ?_ ?_ (λk u bv hk=> .inr (hh1 HC k u bv hk)) (.inl ⟨by simp,by rw[nD]⟩)⟩;rw[nD];exact h.size;rw[nD];simpa using h.bsize;intro i bv hi;rw[nD]at hi;exact .inl ⟨by simp,hi,rfl⟩;intro t Hd hb;rw[nD]at hb;have iz:(st.boxes.set s (some _))[t]?=some (some Hd):=hb;by_cases vK:t=s;subst vK;rw[bO]at iz;simp only[cz,BO]at iz;simp at iz;subst iz;have MU:g.β t∉f2:=λhm=>yL (by simp[hm]);refine .inr ⟨arr,T,fr,f1++f3,lf,uO,MT,Q3,λhm=>yL (by rcases aA.1 hm with k|k<;>simp[k]),λb hb=>?_,?_,KR⟩;show(if b∈f2 then _ else _)=_;rw[aK (G9 b hb)];exact hl b (by rcases aA.1 hb with k|k<;>simp[k]);show(if g.β t∈f2 then _ else _)=_;rw[aK MU];exact KO;rw[aR (df vK)]at iz;exact .inl ⟨by simpa using vK,iz,rfl⟩
 |io j0=>simp only[AS.LM,bq]at iG;subst iG;obtain⟨fp,hr,hn,hl⟩:=h.io;obtain⟨f1,f2,f3,rfl,G9,hle,MT,Q3,HC⟩:=core .io (st.H3 (.io j0) (eX st.io (lx.pos (.io j0)-j) (bl st.ep ((st.io.drop (lx.pos (.io j0)-j)).take cs.length)))) hr hn hl rfl rfl (λ_ q=>q);have CV:∀b∈f2,g.fj b=some .io:=λb hb=>hl b (by simp[hb]);refine⟨{g with fj:=λb=>if b∈f2 then some (.hand 0) else g.fj b},λ_=>rfl,h.step (λy=>y≠ .io) hle h.defers h.size h.bsize h.frame (Rr f2 _ CV) (λb y hk hb=>⟨adG f2 _ CV b y hk hb,rfl,rfl⟩) (λi bv hi=> .inl ⟨by simp,hi,rfl⟩) (λt Hd hb=> .inl ⟨by simp,hb,rfl⟩) (λk u bv hk=> .inr (hh1 HC k u bv hk)) (.inr ⟨f1++f3,MT,Q3,λb hb=>?_⟩)⟩;show(if b∈f2 then _ else _)=_;rw[aK (G9 b hb)];exact hl b (by rcases aA.1 hb with k|k<;>simp[k])
 cases hc;cases hc;cases hc;cases hc
theorem ahw {o:Oper}(ho:o.op=.assign x)(h:py C st a w){K:AS->az R}(hk:UO o x st K=some r):nG P C o a w K r:=by
 have fg:(execOp a.eval o).run P w=.ok (.value (a.eval x)) w:=by simp[execOp,ho]
 obtain⟨g,hg⟩:=h;unfold UO at hk;split at hk;rename_i v cp hc;obtain⟨g',_,pw⟩:=hg.aoX hc;exact⟨_,_,_,.inl fg,eE.Gj pw o.dst,hk⟩;cases hk
theorem Sw {E:Env}(hE:ka P E.ty){o:Oper}{T:TypeId}{p:Operand}(hd:o.dst=none)(ho:o.op=.store T p x)(h:py C st a w){K:AS->az R}(hk:zD E T p x st K=some r):nG P C o a w K r:=by obtain⟨g,hg⟩:=h;unfold zD at hk;split at hk;rename_i sh s off hT hp;have xd:=hg.rd p;rw[hp]at xd;have xd:=Eg xd;split at hk;rename_i gg vs cp hc;obtain⟨g',MU,pw⟩:=hg.aoX hc;split at hk;rename_i cs kD;split at hk;rename_i hlen;split at hk;rename_i ik;exact JU hE hd ho hT (by rw[MU];exact xd) pw kD hlen.1 hlen.2 ik hk;cases hk;cases hk;cases hk;cases hk;cases hk
structure Sound (P:Program) (E:Env) (Γ:Dy):Prop where
 ty:ka P E.ty
 eqs:X2 P E.eqs
 fts:aeV P E.fts
 fns:∀f,jl P f (Γ f)
 mixed:P.follows .mixedOrders=true
theorem nG.wp {o:Oper}{K:AS->az R}(h:nG P C o a w K r)(next:Act->World->Prop)(Q:Exit->Act->World->Prop)(il:∀cp a' w',py C cp a' w'->K cp=some r->next a' w'):o.wp P a w next Q:=by obtain⟨v,w',cp,fg,hs,hk⟩:=h;unfold Oper.wp;rcases fg with fg|⟨rfl,fg⟩;rw[fg];exact il _ _ _ hs hk;rw[fg];exact il _ _ _ hs hk
theorem af7 {E:Env}(hS:Sound P E Γ){o:Oper}(h:py C st a w){K:AS->az R}(hk:dp E Γ an o st K=some r)(next:Act->World->Prop)(Q:Exit->Act->World->Prop)(il:∀cp a' w',py C cp a' w'->K cp=some r->next a' w'):o.wp P a w next Q:=by
 unfold dp at hk;split at hk;·rename_i x ho;exact(ahK ho h hk).wp next Q il
 ·rename_i x ho;split at hk;·exact(ahw ho h hk).wp next Q il
  ·exact(Yd ho h hk).wp next Q il
 ·rename_i c x y ho;exact(ah6 ho h hk).wp next Q il
 ·rename_i T ho;exact(abL hS.ty ho h hk).wp next Q il
 ·rename_i T x ho;exact(ajq ho h hk).wp next Q il
 ·rename_i T p ho;exact(ahA hS.ty ho h hk).wp next Q il
 ·rename_i T p x ho;split at hk
  ·rename_i hd;split at hk;·exact(Sw hS.ty hd ho h hk).wp next Q il
   ·exact(aeJ hS.ty hd ho h hk).wp next Q il
  cases hk
 ·rename_i x ho;split at hk;·rename_i s off hx;exact(Tw ho h hx hk).wp next Q il
  ·rename_i fl e y i off hx;exact(Na ho h hx hk).wp next Q il
  cases hk
 ·rename_i op T x y T' ho;exact(ajo hS.ty hS.eqs ho h hk).wp next Q il
 ·rename_i op T x ho;exact(aoL ho h hk).wp next Q il
 ·rename_i S p f ho;exact(acU hS.ty ho h hk).wp next Q il
 ·rename_i T x i ho;exact(Rk hS.ty ho h hk).wp next Q il
 ·rename_i T x i ho;exact(adx hS.ty ho h hk).wp next Q il
 ·rename_i T parts ho;exact(abW hS.ty ho h hk).wp next Q il
 ·rename_i T len parts ho;exact(O2 hS.ty ho h hk).wp next Q il
 ·rename_i T n c ho;exact(Ry hS.ty ho h hk).wp next Q il
 ·rename_i T x lo hi ho;exact(aen hS.ty ho h hk).wp next Q il
 ·rename_i S t f ho;exact(YE hS.ty hS.fts ho h hk).wp next Q il
 ·rename_i args ts ho;exact(agH hS.ty ho h hk).wp next Q il
 ·rename_i src dst x ho;exact(V0 hS.ty ho h hk).wp next Q il
 ·rename_i t i ho;exact(Wt ho h hk).wp next Q il
 ·rename_i args ts ho;exact(alo hS.ty ho h hk).wp next Q il
 ·rename_i args ts ho;exact(aly ho h hk).wp next Q il
 ·rename_i args ts ho;exact(alw ho h hk).wp next Q il
 ·rename_i args ts ho;exact(X9 hS.ty ho h hk).wp next Q il
 ·rename_i f args ts ho;exact ano hS.fns ho h hk next Q il
 cases hk
theorem py.forget (h:py C st a w)(d:az Nat):py C (st.put d (.one .un)) (a.put d undef) w:=h.put d (λ_ _=>nq ⟨rfl,rfl⟩)
theorem py.known (h:py C st a w){b:Bool}(hg:st.get d=.val false [.bool b]):a.tmps.getD d undef=.bool b:=by obtain⟨g,pw⟩:=h;obtain⟨fp,hr,_⟩:=pw.slot d;rw[hg]at hr;exact xP hr
theorem Xn:a.put (some d) (a.tmps.getD d undef)=a:=by cases a with|mk tmps defers=>simp only[Act.put];congr 1;apply Array.ext_getElem?;intro i;rw[Array.getElem?_setIfInBounds];by_cases h:d=i;subst h;by_cases hs:d<tmps.size;simp[hs,Array.getD];simp[hs];simp[h]
theorem py.refine(h:py C st a w){b:Bool}(hg:st.get d=.val false [.bool b]):py C (st.put (some d) (.one (.bool b))) a w:=by have hk:=h.known hg;have:=h.put (some d) (v:=.bool b) (av:=.one (.bool b)) (λ_ _=>nq ⟨rfl,rfl⟩);rw[<-hk,Xn]at this;exact this
theorem Zk {E:Env}(hS:Sound P E Γ){ops:Array Oper}{o:Oper}(h:py C st a w){K:AS->az R}(hk:ia E Γ an ops.toList o st K=some r)(next:Act->World->Prop)(Q:Exit->Act->World->Prop)(il:∀cp a' w',py C cp a' w'->K cp=some r->next a' w'): if Region.wanted o (yielded ops a.tmps) then o.wp P a w next Q\/(o.asks P a w/\LetsOut Q) else next (a.put o.dst undef) w:=by
 unfold ia at hk;split at hk;·rename_i hgd;rw[aI (by simp[Region.wanted,hgd])];exact .inl (af7 hS h hk next Q il)
 ·rename_i j KI hgd;split at hk
  ·rename_i d ag4;have ao5:(ops[j]?).bind (·.dst)=some d:=by rw[ez]at ag4;simpa using ag4
   split at hk
   ·rename_i b hb;have hkn:=h.known hb;have hdl:d<a.tmps.size:=by rcases bT d a.tmps.size with gr|BN;exact gr;simp[Array.getD,Nat.not_lt.2 BN,undef]at hkn
    have hy:yielded ops a.tmps j=some b:=by
     unfold yielded;rw[ao5];have:a.tmps[d]?=some (.bool b):=by rw[Array.getElem?_eq_getElem hdl];simp[Array.getD,hdl]at hkn;rw[hkn]
     simp[this]
    have hr:=h.refine hb
    have main:∀t,b=t->(if t==KI then dp E Γ an o (st.put (some d) (.one (.bool t))) K else K ((st.put (some d) (.one (.bool t))).put o.dst (.one .un)))=some r->
     if Region.wanted o (yielded ops a.tmps) then o.wp P a w next Q\/(o.asks P a w/\LetsOut Q) else next (a.put o.dst undef) w:=by
     rintro t rfl hk
     have hw:Region.wanted o (yielded ops a.tmps)=(b==KI):=by simp only[Region.wanted,hgd,hy];cases b<;>cases KI<;>rfl
     rw[hw]
     cases hbw:(b==KI)with
     |true=>
      rw[hbw]at hk
      simp only[cz]at hk⊢
      exact .inl (af7 hS hr hk next Q il)
     |false=>
      rw[hbw]at hk
      simp only[bn,cJ]at hk⊢
      exact il _ _ _ (hr.forget o.dst) hk
    cases b with|true=>exact main true rfl hk|false=>exact main false rfl hk
   rename_i hb;obtain⟨g,hg⟩:=id h;obtain⟨fp,hr,_⟩:=hg.slot d;rw[hb]at hr;have hun:=(fu hr).1;have hy:yielded ops a.tmps j=none:=by
    unfold yielded;rw[ao5];simp only[ft];rcases bT d a.tmps.size with gr|BN;have:a.tmps[d]?=some undef:=by rw[Array.getElem?_eq_getElem gr];simp[Array.getD,gr]at hun;rw[hun]
    rw[this];rfl;rw[Array.getElem?_eq_none BN]
   have hw:Region.wanted o (yielded ops a.tmps)=false:=by simp only[Region.wanted,hgd,hy];cases KI<;>rfl
   rw[hw];exact il _ _ _ (h.forget o.dst) hk;cases hk
  cases hk
theorem alI {E:Env}(hS:Sound P E Γ){ops:Array Oper}{Q:Exit->Act->World->Prop}{K:AS->az R}
 (hq:∀cp a' w',py C cp a' w'->K cp=some r->Q .normal a' w'):∀(n i:Nat)(st:AS)(a:Act)(w:World),i+n=ops.size->py C st a w->Xf E Γ an ops.toList (ops.toList.drop i) st K=some r->
  wpOps P ops Q ((List.range' i n)) a w
 |0,i,st,a,w,hi,h,hk=>by rw[dP (by simp;omega)]at hk;exact hq st a w h hk
 |n+1,i,st,a,w,hi,h,hk=>by
  have Py:i<ops.toList.length:=by simp;omega
  rw[cv Py]at hk;have ho:ops[i]?=some ops.toList[i]:=by rw[<-cV];exact ak Py
  rw[List.range'_succ,wpOps,ho];simp only;have:=Zk hS (ops:=ops) h hk (wpOps P ops Q (List.range' (i+1) n)) Q (λcp a' w' hs HE=>alI hS hq n (i+1) cp a' w' (by omega) hs HE);exact this
end Go.Dn
