import Derived.Test.YthllnaiaikjelaaGreatDnCall
/- The soundness of the abstract semantics: operations, regions, loops, functions. -/
namespace Go.Dn
open Go.RowKit
variable {P:Program} {C:Ctx} {st:AS} {a:Act} {w:World} {R:Type} {r:R}
variable {an:An} {Γ:Ci} {d:Nat} {x:Operand}
theorem aj0:∀(os ss:ar AC){r:ar AC},oP os ss=some r->r.all AC.afE=true/\r.map AC.strip=r:=by
 intro os;induction os with
 |nil=>intro ss r h;cases ss with|nil=>simp[oP]at h;subst h;exact⟨rfl,rfl⟩|cons _ _=>simp[oP]at h
 |cons o os ih=>
  intro ss r h;cases ss with
  |nil=>unfold oP at h;split at h<;>first|contradiction|cases h
  |cons s ss=>
   unfold oP at h;split at h;contradiction;rename_i h1 h2;injection h1 with h1 UZ;subst UZ;injection h2 with h2 h2';subst h2';rw[Bool.cond_eq_ite]at h;split at h;obtain⟨r',hr,h⟩:=aX.1 h;cases h;obtain⟨k1,k2⟩:=ih _ hr;exact⟨by simp[AC.afE,k1],by simp[AC.strip,k2]⟩;cases h
   all_goals first
    |cases h
    |(rename_i h1 h2
      injection h1 with h1 UZ;subst UZ
      injection h2 with h2 h2';subst h2'
      obtain⟨r',hr,h⟩:=aX.1 h
      cases h
      obtain⟨k1,k2⟩:=ih _ hr
      exact⟨by simp[AC.afE,AC.gZ,k1],by simp[AC.strip,k2]⟩)
theorem ahw:∀{cs:ar AC},cs.all AC.afE=true->∀{c:RC}{A:Rg}{hw:Nat->Nat}{w:World}{vs:iU}{fp:ec},bD (fy A hw w) vs cs fp->c.w=w->c.hw=hw->bD c vs (cs.map AC.strip) fp
 |[],_,c,A,hw,w,vs,fp,h,_,_=>by cases vs with|nil=>exact h|cons _ _=>exact h.elim
 |x::cs,kX,c,A,hw,w,vs,fp,h,Tj,Gv=>by
  cases vs with
  |nil=>exact h.elim
  |cons v vs=>
   obtain⟨f1,f2,rfl,h1,h2⟩:=h;simp only[bV,ah]at kX;refine⟨f1,f2,rfl,?_,ahw kX.2 h2 Tj Gv⟩;cases x with
   |sl fl e xs=>cases fl with|own t=>exact⟨by rw[Tj,Gv];exact h1.1,by simp⟩|arg _=>cases kX.1|loc _ _=>cases kX.1|nest _ _ _ _ _ _=>cases kX.1|part _ _ _ _=>cases kX.1|fK _ _ _=>cases kX.1
   |int k n=>exact h1
   |bool b=>exact h1
   |str s=>exact h1
   |fn f=>exact h1
   |kL=>cases kX.1
   |ptr s off=>cases kX.1
   |Hy fl e y i off=>cases kX.1
   |un=>cases kX.1
   |bot=>cases kX.1
theorem dM.apn {g:Gh}(h:dM C g st a w []){v:AV}{st':AS}(hc:Zv st x=some (v,st')):∃g',(∀s,g'.β s=g.β s)/\dM C g' st' a w [(a.eval x,v)]:=by
 unfold Zv at hc;have PM:=h.rd x;split at hc;rename_i gg cs hx;rw[hx]at PM;obtain⟨vs0,eM,L2⟩:=PM;split at hc;rename_i rt j U5;split at hc;rename_i IA fA;split at hc;rename_i oY L3;cases hc;have ZU:=Ob _ _ L3;have PJ:=aj0 _ _ L3
 have core:∀(o:kb)(stN:AS){vs:iU}{fp:ec},bD (cO C g st w) vs IA fp->fp.Nodup->(∀b∈fp,g.eo b=some o)->stN.ep=st.ep->stN.iss=st.iss->(∀s,ic st s->ic stN s)->
  ∃f1 f2 f3,fp=f1++f2++f3/\(∀b∈f1++f3,b∉f2)/\
   (cO C g st w).Le (cO C {g with eo:=λb=>if b∈f2 then some (.hand 0) else g.eo b} stN w)/\
   bD (cO C {g with eo:=λb=>if b∈f2 then some (.hand 0) else g.eo b} stN w) vs (du IA (rt.pos-j) (bc st.ep ((IA.drop (rt.pos-j)).take cs.length))) (f1++f3)/\(f1++f3).Nodup/\
   Q5 C {g with eo:=λb=>if b∈f2 then some (.hand 0) else g.eo b} stN w 0 (a.eval x) (.val gg oY):=by
  intro o stN vs fp hr hn hl Ck Lp uF
  obtain⟨f1,f2,f3,rfl,r1,r2,r3⟩:=hr.mid (rt.pos-j) cs.length
  have Ff:=hn
  rw[aW]at Ff
  have n1:=aG.1 Ff
  have n2:=aG.1 n1.2.1
  have hle:(cO C g st w).Le (cO C {g with eo:=λb=>if b∈f2 then some (.hand 0) else g.eo b} stN w):=
   ⟨rfl,λt ht=>⟨by show nm stN t;have ht':nm st t:=ht;simpa[nm,Lp]using ht',rfl⟩,λ_ _ _ _ _ hu=>hu,by show st.ep<=stN.ep;omega,λs hs=>⟨uF s hs,rfl⟩,λ_ b o u ho hu=>⟨ho,hu⟩⟩
  refine⟨f1,f2,f3,rfl,?_,hle,?_,?_,?_⟩
  ·intro b hb h2
   rcases aA.1 hb with hb|hb
   ·exact n1.2.2 b hb b (br _ h2) rfl
   ·exact n2.2.2 b h2 b hb rfl
  ·have PO:=O3 (c':=cO C {g with eo:=λb=>if b∈f2 then some (.hand 0) else g.eo b} stN w) (seg:=bc st.ep ((IA.drop (rt.pos-j)).take cs.length)) rfl (by rw[r2.length];exact ZU)
    (r1.mono hle (λb _=>⟨rfl,rfl⟩)) ((r2.bc).mono hle (by simp)) (r3.mono hle (λb _=>⟨rfl,rfl⟩))
   rw[bC]at PO
   exact PO
  ·refine aG.2 ⟨n1.1,n2.2.1,?_⟩
   rintro b hb c hc rfl
   exact n1.2.2 b hb b (bh _ hc) rfl
  ·have apU:=VW (A:=λ_ _ _=>False) _ _ L3 L2 r2
   have vC:=ahw PJ.1 (c:=cO C g st w) apU rfl rfl
   rw[PJ.2]at vC
   refine⟨f2,⟨vs0,eM,vC.mono hle (λb _=>⟨rfl,rfl⟩)⟩,n2.1,λb hb=>?_⟩
   show(if b∈f2 then _ else _)=_
   rw[aM hb]
 have Vr:∀(f2:ec)(o:kb),(∀b∈f2,g.eo b=some o)->∀b y,(if b∈f2 then some (kb.hand 0) else g.eo b)=some y->b<w.heap.size/\(C.w0.heap.size<=b\/C.M b):=by intro f2 o hf b y hy;by_cases hm:b∈f2;exact h.fV b _ (hf b hm);rw[aK hm]at hy;exact h.fV b y hy
 have afJ:∀(f2:ec)(o:kb),(∀b∈f2,g.eo b=some o)->∀b y,y≠o->g.eo b=some y->(if b∈f2 then some (kb.hand 0) else g.eo b)=some y:=by intro f2 o hf b y hyo hb;rw[aK (λhm=>hyo (by have:=hf b hm;rw[hb]at this;simpa using this))];exact hb
 have hh1:∀{g2:Gh}{stN:AS},Q5 C g2 stN w 0 (a.eval x) (.val gg oY)->∀k u bv,[(a.eval x,AV.val gg oY)][k]?=some (u,bv)->Q5 C g2 stN w k u bv:=by
  intro g2 stN hh k u bv hk;cases k with
  |zero=>simp only[cL,bf,Prod.mk.injEq]at hk;obtain⟨rfl,rfl⟩:=hk;exact hh
  |succ k=>simp at hk
 cases rt with
 |slot s j0=>
  simp only[AS.xT]at fA;cases hg:st.get s with
  |zU ts=>rw[hg]at fA;cases fA
  |val g1 cs1=>
   rw[hg]at fA;cases fA;have nh:∀Lu,st.tj (.slot s j0) Lu={st with slots:=st.slots.set s (.val g1 Lu)}:=λLu=>by simp only[AS.tj,hg,AS.put,fD]
   obtain⟨fp,hr,hn,hl⟩:=h.slot s;rw[hg]at hr;obtain⟨vs,PH,hr⟩:=hr;obtain⟨f1,f2,f3,rfl,EG,hle,PO,OL,LX⟩:=core (.slot s) (st.tj (.slot s j0) (du IA (lS.pos (.slot s j0)-j) (bc st.ep ((IA.drop (lS.pos (.slot s j0)-j)).take cs.length)))) hr hn hl (by rw[nh]) (by rw[nh]) (λ_ q=>by rw[nh];exact q);have Jn:∀b∈f2,g.eo b=some (.slot s):=λb hb=>hl b (by simp[hb]);refine⟨{g with eo:=λb=>if b∈f2 then some (.hand 0) else g.eo b},λ_=>rfl,h.step (λy=>y≠ .slot s) hle h.defers ?_ ?_ h.frame (Vr f2 _ Jn) (λb y hk hb=>⟨afJ f2 _ Jn b y hk hb,rfl,rfl⟩) ?_ ?_ (λk u bv hk=> .inr (hh1 LX k u bv hk)) (.inl ⟨by simp,by rw[nh]⟩)⟩;rw[nh];simpa using h.size;rw[nh];simpa using h.bsize;intro i bv hi;rw[nh]at hi;have uu:(st.slots.set s (.val g1 _))[i]?=some bv:=hi;by_cases his:i=s;subst his;rw[bt]at uu;simp only[cd]at uu;split at uu;simp at uu;subst uu;refine .inr ⟨f1++f3,⟨vs,PH,PO⟩,OL,λb hb=>?_⟩;show(if b∈f2 then _ else _)=_;rw[aK (EG b hb)];exact hl b (by rcases aA.1 hb with k|k<;>simp[k]);cases uu;rw[aZ (cW his)]at uu;exact .inl ⟨by simpa using his,uu,rfl⟩;intro t Lu hb;rw[nh]at hb;exact .inl ⟨by simp,hb,rfl⟩
 |box s j0=>
  have kR:st.boxes[s]?=some (some IA):=by simp only[AS.xT,dV]at fA;cases hb:st.boxes[s]? with|none=>simp[hb]at fA|some q=>rw[hb]at fA;simp at fA;rw[fA]
  have Cs:s<st.boxes.length:=(aJ.1 kR).1;have nh:∀Lu,st.tj (.box s j0) Lu={st with boxes:=st.boxes.set s (some Lu)}:=λLu=>by simp only[AS.tj,AS.eY,fD]
  obtain⟨arr,T,fr,fp,kG,uG,hr,hn,xe,hl,ND,NU⟩:=h.boxes s IA kR;obtain⟨f1,f2,f3,rfl,EG,hle,PO,OL,LX⟩:=core (.box s) (st.tj (.box s j0) (du IA (lS.pos (.box s j0)-j) (bc st.ep ((IA.drop (lS.pos (.box s j0)-j)).take cs.length)))) hr hn hl (by rw[nh]) (by rw[nh]) (λt ht=>by rw[nh];obtain⟨c0,hc0⟩:=ht;by_cases uH:s=t;subst uH;exact⟨_,by simp[Cs];rfl⟩;exact⟨c0,by rw[aZ uH];exact hc0⟩);have Jn:∀b∈f2,g.eo b=some (.box s):=λb hb=>hl b (by simp[hb]);refine⟨{g with eo:=λb=>if b∈f2 then some (.hand 0) else g.eo b},λ_=>rfl,h.step (λy=>y≠ .box s) hle h.defers ?_ ?_ h.frame (Vr f2 _ Jn) (λb y hk hb=>⟨afJ f2 _ Jn b y hk hb,rfl,rfl⟩) ?_ ?_ (λk u bv hk=> .inr (hh1 LX k u bv hk)) (.inl ⟨by simp,by rw[nh]⟩)⟩;rw[nh];exact h.size;rw[nh];simpa using h.bsize;intro i bv hi;rw[nh]at hi;exact .inl ⟨by simp,hi,rfl⟩;intro t Lu hb;rw[nh]at hb;have ib:(st.boxes.set s (some _))[t]?=some (some Lu):=hb;by_cases uH:t=s;subst uH;rw[bt]at ib;simp only[cd,Cs]at ib;simp at ib;subst ib;have ON:g.β t∉f2:=λhm=>xe (by simp[hm]);refine .inr ⟨arr,T,fr,f1++f3,kG,uG,PO,OL,λhm=>xe (by rcases aA.1 hm with k|k<;>simp[k]),λb hb=>?_,?_,NU⟩;show(if b∈f2 then _ else _)=_;rw[aK (EG b hb)];exact hl b (by rcases aA.1 hb with k|k<;>simp[k]);show(if g.β t∈f2 then _ else _)=_;rw[aK ON];exact ND;rw[aZ (cW uH)]at ib;exact .inl ⟨by simpa using uH,ib,rfl⟩
 |io j0=>simp only[AS.xT,bf]at fA;subst fA;obtain⟨fp,hr,hn,hl⟩:=h.io;obtain⟨f1,f2,f3,rfl,EG,hle,PO,OL,LX⟩:=core .io (st.tj (.io j0) (du st.io (lS.pos (.io j0)-j) (bc st.ep ((st.io.drop (lS.pos (.io j0)-j)).take cs.length)))) hr hn hl rfl rfl (λ_ q=>q);have Jn:∀b∈f2,g.eo b=some .io:=λb hb=>hl b (by simp[hb]);refine⟨{g with eo:=λb=>if b∈f2 then some (.hand 0) else g.eo b},λ_=>rfl,h.step (λy=>y≠ .io) hle h.defers h.size h.bsize h.frame (Vr f2 _ Jn) (λb y hk hb=>⟨afJ f2 _ Jn b y hk hb,rfl,rfl⟩) (λi bv hi=> .inl ⟨by simp,hi,rfl⟩) (λt Lu hb=> .inl ⟨by simp,hb,rfl⟩) (λk u bv hk=> .inr (hh1 LX k u bv hk)) (.inr ⟨f1++f3,PO,OL,λb hb=>?_⟩)⟩;show(if b∈f2 then _ else _)=_;rw[aK (EG b hb)];exact hl b (by rcases aA.1 hb with k|k<;>simp[k])
 cases hc;cases hc;cases hc;cases hc
theorem ajm {o:Oper}(ho:o.op=.assign x)(h:pF C st a w){K:AS->au R}(hk:Ym o x st K=some r):oX P C o a w K r:=by
 have ej:(execOp a.eval o).run P w=.ok (.value (a.eval x)) w:=by simp[execOp,ho]
 obtain⟨g,hg⟩:=h;unfold Ym at hk;split at hk;rename_i v st' hc;obtain⟨g',_,oV⟩:=hg.apn hc;exact⟨_,_,_,.inl ej,dM.Kj oV o.dst,hk⟩;cases hk
theorem Wg {E:Env}(hE:kA P E.ty){o:Oper}{T:TypeId}{p:Operand}(hd:o.dst=none)(ho:o.op=.store T p x)(h:pF C st a w){K:AS->au R}(hk:CU E T p x st K=some r):oX P C o a w K r:=by obtain⟨g,hg⟩:=h;unfold CU at hk;split at hk;rename_i sh s off hT hp;have zQ:=hg.rd p;rw[hp]at zQ;have zQ:=H2 zQ;split at hk;rename_i gg vs st' hc;obtain⟨g',ON,oV⟩:=hg.apn hc;split at hk;rename_i cs kR;split at hk;rename_i hlen;split at hk;rename_i iy;exact Ok hE hd ho hT (by rw[ON];exact zQ) oV kR hlen.1 hlen.2 iy hk;cases hk;cases hk;cases hk;cases hk;cases hk
structure Sound (P:Program) (E:Env) (Γ:Ci):Prop where
 ty:kA P E.ty
 eqs:aa5 P E.eqs
 fts:agW P E.fts
 fns:∀f,mz P f (Γ f)
 mixed:P.follows .mixedOrders=true
theorem oX.wp {o:Oper}{K:AS->au R}(h:oX P C o a w K r)(next:Act->World->Prop)(Q:Exit->Act->World->Prop)(gm:∀st' a' w',pF C st' a' w'->K st'=some r->next a' w'):o.wp P a w next Q:=by obtain⟨v,w',st',ej,hs,hk⟩:=h;unfold Oper.wp;rcases ej with ej|⟨rfl,ej⟩;rw[ej];exact gm _ _ _ hs hk;rw[ej];exact gm _ _ _ hs hk
theorem ahZ {E:Env}(hS:Sound P E Γ){o:Oper}(h:pF C st a w){K:AS->au R}(hk:db E Γ an o st K=some r)(next:Act->World->Prop)(Q:Exit->Act->World->Prop)(gm:∀st' a' w',pF C st' a' w'->K st'=some r->next a' w'):o.wp P a w next Q:=by
 unfold db at hk;split at hk;·rename_i x ho;exact(aju ho h hk).wp next Q gm
 ·rename_i x ho;split at hk;·exact(ajm ho h hk).wp next Q gm
  ·exact(abd ho h hk).wp next Q gm
 ·rename_i c x y ho;exact(ajT ho h hk).wp next Q gm
 ·rename_i T ho;exact(aeu hS.ty ho h hk).wp next Q gm
 ·rename_i T x ho;exact(akX ho h hk).wp next Q gm
 ·rename_i T p ho;exact(ajq hS.ty ho h hk).wp next Q gm
 ·rename_i T p x ho;split at hk
  ·rename_i hd;split at hk;·exact(Wg hS.ty hd ho h hk).wp next Q gm
   ·exact(agD hS.ty hd ho h hk).wp next Q gm
  cases hk
 ·rename_i x ho;split at hk;·rename_i s off hx;exact(W9 ho h hx hk).wp next Q gm
  ·rename_i fl e y i off hx;exact(RO ho h hx hk).wp next Q gm
  cases hk
 ·rename_i op T x y T' ho;exact(akV hS.ty hS.eqs ho h hk).wp next Q gm
 ·rename_i op T x ho;exact(ape ho h hk).wp next Q gm
 ·rename_i S p f ho;exact(ae5 hS.ty ho h hk).wp next Q gm
 ·rename_i T x i ho;exact(Vm hS.ty ho h hk).wp next Q gm
 ·rename_i T x i ho;exact(afA hS.ty ho h hk).wp next Q gm
 ·rename_i T parts ho;exact(aeG hS.ty ho h hk).wp next Q gm
 ·rename_i T len parts ho;exact(Th hS.ty ho h hk).wp next Q gm
 ·rename_i T n c ho;exact(Vv hS.ty ho h hk).wp next Q gm
 ·rename_i T x lo hi ho;exact(agf hS.ty ho h hk).wp next Q gm
 ·rename_i S t f ho;exact(abH hS.ty hS.fts ho h hk).wp next Q gm
 ·rename_i args ts ho;exact(aio hS.ty ho h hk).wp next Q gm
 ·rename_i src dst x ho;exact(ZA hS.ty ho h hk).wp next Q gm
 ·rename_i t i ho;exact(ZJ ho h hk).wp next Q gm
 ·rename_i args ts ho;exact(amu hS.ty ho h hk).wp next Q gm
 ·rename_i args ts ho;exact(amB ho h hk).wp next Q gm
 ·rename_i args ts ho;exact(amz ho h hk).wp next Q gm
 ·rename_i args ts ho;exact(aba hS.ty ho h hk).wp next Q gm
 ·rename_i f args ts ho;exact an3 hS.fns ho h hk next Q gm
 cases hk
theorem pF.forget (h:pF C st a w)(d:au Nat):pF C (st.put d (.one .un)) (a.put d undef) w:=h.put d (λ_ _=>oM ⟨rfl,rfl⟩)
theorem pF.known (h:pF C st a w){b:Bool}(hg:st.get d=.val false [.bool b]):a.tmps.getD d undef=.bool b:=by obtain⟨g,oV⟩:=h;obtain⟨fp,hr,_⟩:=oV.slot d;rw[hg]at hr;exact BB hr
theorem aaw:a.put (some d) (a.tmps.getD d undef)=a:=by cases a with|mk tmps defers=>simp only[Act.put];congr 1;apply Array.ext_getElem?;intro i;rw[Array.getElem?_setIfInBounds];by_cases h:d=i;subst h;by_cases hs:d<tmps.size;simp[hs,Array.getD];simp[hs];simp[h]
theorem pF.refine(h:pF C st a w){b:Bool}(hg:st.get d=.val false [.bool b]):pF C (st.put (some d) (.one (.bool b))) a w:=by have hk:=h.known hg;have:=h.put (some d) (v:=.bool b) (av:=.one (.bool b)) (λ_ _=>oM ⟨rfl,rfl⟩);rw[<-hk,aaw]at this;exact this
theorem abX {E:Env}(hS:Sound P E Γ){ops:Array Oper}{o:Oper}(h:pF C st a w){K:AS->au R}(hk:ig E Γ an ops.toList o st K=some r)(next:Act->World->Prop)(Q:Exit->Act->World->Prop)(gm:∀st' a' w',pF C st' a' w'->K st'=some r->next a' w'): if Region.wanted o (yielded ops a.tmps) then o.wp P a w next Q\/(o.asks P a w/\LetsOut Q) else next (a.put o.dst undef) w:=by
 unfold ig at hk;split at hk;·rename_i hgd;rw[aM (by simp[Region.wanted,hgd])];exact .inl (ahZ hS h hk next Q gm)
 ·rename_i j O9 hgd;split at hk
  ·rename_i d aiK;have apr:(ops[j]?).bind (·.dst)=some d:=by rw[dV]at aiK;simpa using aiK
   split at hk
   ·rename_i b hb;have hkn:=h.known hb;have hdl:d<a.tmps.size:=by rcases bS d a.tmps.size with iG|Fe;exact iG;simp[Array.getD,Nat.not_lt.2 Fe,undef]at hkn
    have hy:yielded ops a.tmps j=some b:=by
     unfold yielded;rw[apr];have:a.tmps[d]?=some (.bool b):=by rw[Array.getElem?_eq_getElem hdl];simp[Array.getD,hdl]at hkn;rw[hkn]
     simp[this]
    have hr:=h.refine hb
    have main:∀t,b=t->(if t==O9 then db E Γ an o (st.put (some d) (.one (.bool t))) K else K ((st.put (some d) (.one (.bool t))).put o.dst (.one .un)))=some r->
     if Region.wanted o (yielded ops a.tmps) then o.wp P a w next Q\/(o.asks P a w/\LetsOut Q) else next (a.put o.dst undef) w:=by
     rintro t rfl hk
     have hw:Region.wanted o (yielded ops a.tmps)=(b==O9):=by simp only[Region.wanted,hgd,hy];cases b<;>cases O9<;>rfl
     rw[hw]
     cases hbw:(b==O9)with
     |true=>
      rw[hbw]at hk
      simp only[cd]at hk⊢
      exact .inl (ahZ hS hr hk next Q gm)
     |false=>
      rw[hbw]at hk
      simp only[bg,cD]at hk⊢
      exact gm _ _ _ (hr.forget o.dst) hk
    cases b with|true=>exact main true rfl hk|false=>exact main false rfl hk
   rename_i hb;obtain⟨g,hg⟩:=id h;obtain⟨fp,hr,_⟩:=hg.slot d;rw[hb]at hr;have hun:=(eG hr).1;have hy:yielded ops a.tmps j=none:=by
    unfold yielded;rw[apr];simp only[eU];rcases bS d a.tmps.size with iG|Fe;have:a.tmps[d]?=some undef:=by rw[Array.getElem?_eq_getElem iG];simp[Array.getD,iG]at hun;rw[hun]
    rw[this];rfl;rw[Array.getElem?_eq_none Fe]
   have hw:Region.wanted o (yielded ops a.tmps)=false:=by simp only[Region.wanted,hgd,hy];cases O9<;>rfl
   rw[hw];exact gm _ _ _ (h.forget o.dst) hk;cases hk
  cases hk
theorem amN {E:Env}(hS:Sound P E Γ){ops:Array Oper}{Q:Exit->Act->World->Prop}{K:AS->au R}
 (hq:∀st' a' w',pF C st' a' w'->K st'=some r->Q .normal a' w'):∀(n i:Nat)(st:AS)(a:Act)(w:World),i+n=ops.size->pF C st a w->aap E Γ an ops.toList (ops.toList.drop i) st K=some r->
  wpOps P ops Q ((List.range' i n)) a w
 |0,i,st,a,w,hi,h,hk=>by rw[dj (by simp;omega)]at hk;exact hq st a w h hk
 |n+1,i,st,a,w,hi,h,hk=>by
  have U6:i<ops.toList.length:=by simp;omega
  rw[cf U6]at hk;have ho:ops[i]?=some ops.toList[i]:=by rw[<-cm];exact al U6
  rw[List.range'_succ,wpOps,ho];simp only;have:=abX hS (ops:=ops) h hk (wpOps P ops Q (List.range' (i+1) n)) Q (λst' a' w' hs LY=>amN hS hq n (i+1) st' a' w' (by omega) hs LY);exact this
end Go.Dn
