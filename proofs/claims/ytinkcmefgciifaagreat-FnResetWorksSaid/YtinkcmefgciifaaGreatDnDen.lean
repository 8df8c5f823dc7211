import Derived.Test.YtinkcmefgciifaaGreatDnCall
/- The soundness of the abstract semantics: operations, regions, loops, functions. -/
namespace Go.Dn
open Go.RowKit
variable {P:Program} {C:Ctx} {st:AS} {a:Act} {w:World} {R:Type} {r:R}
variable {an:An} {Γ:Bx} {d:Nat} {x:Operand}
theorem aeV:∀(os ss:az AC){r:az AC},pB os ss=some r->r.all AC.ajN=true/\r.map AC.strip=r:=by
 intro os;induction os with
 |nil=>intro ss r h;cases ss with|nil=>simp[pB]at h;subst h;exact⟨rfl,rfl⟩|cons _ _=>simp[pB]at h
 |cons o os ih=>
  intro ss r h;cases ss with
  |nil=>unfold pB at h;split at h<;>first|contradiction|cases h
  |cons s ss=>
   unfold pB at h;split at h;contradiction;rename_i h1 h2;injection h1 with h1 QJ;subst QJ;injection h2 with h2 Vp;subst Vp;rw[Bool.cond_eq_ite]at h;split at h;obtain⟨r',hr,h⟩:=aZ.1 h;cases h;obtain⟨k1,k2⟩:=ih _ hr;exact⟨by simp[AC.ajN,k1],by simp[AC.strip,k2]⟩;cases h
   all_goals first
    |cases h
    |(rename_i h1 h2
      injection h1 with h1 QJ;subst QJ
      injection h2 with h2 Vp;subst Vp
      obtain⟨r',hr,h⟩:=aZ.1 h
      cases h
      obtain⟨k1,k2⟩:=ih _ hr
      exact⟨by simp[AC.ajN,AC.kP,k1],by simp[AC.strip,k2]⟩)
theorem ack:∀{cs:az AC},cs.all AC.ajN=true->∀{c:RC}{A:Rg}{hw:Nat->Nat}{w:World}{vs:jT}{fp:gk},bT (gT A hw w) vs cs fp->c.w=w->c.hw=hw->bT c vs (cs.map AC.strip) fp
 |[],_,c,A,hw,w,vs,fp,h,_,_=>by cases vs with|nil=>exact h|cons _ _=>exact h.elim
 |x::cs,pR,c,A,hw,w,vs,fp,h,Vr,Hl=>by
  cases vs with
  |nil=>exact h.elim
  |cons v vs=>
   obtain⟨f1,f2,rfl,h1,h2⟩:=h;simp only[cw,ae]at pR;refine⟨f1,f2,rfl,?_,ack pR.2 h2 Vr Hl⟩;cases x with
   |sl fl e xs=>cases fl with|own t=>exact⟨by rw[Vr,Hl];exact h1.1,by simp⟩|arg _=>cases pR.1|loc _ _=>cases pR.1|nest _ _ _ _ _ _=>cases pR.1|part _ _ _ _=>cases pR.1|gH _ _ _=>cases pR.1
   |int k n=>exact h1
   |bool b=>exact h1
   |str s=>exact h1
   |fn f=>exact h1
   |lj=>cases pR.1
   |ptr s off=>cases pR.1
   |C5 fl e y i off=>cases pR.1
   |un=>cases pR.1
   |bot=>cases pR.1
theorem eX.akF {g:Gh}(h:eX C g st a w []){v:AV}{cc:AS}(hc:TE st x=some (v,cc)):∃g',(∀s,g'.β s=g.β s)/\eX C g' cc a w [(a.eval x,v)]:=by
 unfold TE at hc;have O1:=h.rd x;split at hc;rename_i gg cs hx;rw[hx]at O1;obtain⟨vs0,gJ,R9⟩:=O1;split at hc;rename_i rt j Ul;split at hc;rename_i csO jl;split at hc;rename_i sF ahc;cases hc;have alR:=Rm _ _ ahc;have Q1:=aeV _ _ ahc
 have core:∀(o:lI)(stN:AS){vs:jT}{fp:gk},bT (dp C g st w) vs csO fp->fp.Nodup->(∀b∈fp,g.fL b=some o)->stN.ep=st.ep->stN.iss=st.iss->(∀s,ky st s->ky stN s)->
  ∃f1 f2 f3,fp=f1++f2++f3/\(∀b∈f1++f3,b∉f2)/\
   (dp C g st w).Le (dp C {g with fL:=λb=>if b∈f2 then some (.hand 0) else g.fL b} stN w)/\
   bT (dp C {g with fL:=λb=>if b∈f2 then some (.hand 0) else g.fL b} stN w) vs (fD csO (rt.pos-j) (bg st.ep ((csO.drop (rt.pos-j)).take cs.length))) (f1++f3)/\(f1++f3).Nodup/\
   Kv C {g with fL:=λb=>if b∈f2 then some (.hand 0) else g.fL b} stN w 0 (a.eval x) (.val gg sF):=by
  intro o stN vs fp hr hn hl Ae M0 wG
  obtain⟨f1,f2,f3,rfl,r1,r2,r3⟩:=hr.mid (rt.pos-j) cs.length
  have Eb:=hn
  rw[aE]at Eb
  have n1:=aO.1 Eb
  have n2:=aO.1 n1.2.1
  have hle:(dp C g st w).Le (dp C {g with fL:=λb=>if b∈f2 then some (.hand 0) else g.fL b} stN w):=
   ⟨rfl,λt ht=>⟨by show oz stN t;have YI:oz st t:=ht;simpa[oz,M0]using YI,rfl⟩,λ_ _ _ _ _ hu=>hu,by show st.ep<=stN.ep;omega,λs hs=>⟨wG s hs,rfl⟩,λ_ b o u ho hu=>⟨ho,hu⟩⟩
  refine⟨f1,f2,f3,rfl,?_,hle,?_,?_,?_⟩
  ·intro b hb h2
   rcases ay.1 hb with hb|hb
   ·exact n1.2.2 b hb b (aU _ h2) rfl
   ·exact n2.2.2 b h2 b hb rfl
  ·have KQ:=abn (c':=dp C {g with fL:=λb=>if b∈f2 then some (.hand 0) else g.fL b} stN w) (seg:=bg st.ep ((csO.drop (rt.pos-j)).take cs.length)) rfl (by rw[r2.length];exact alR)
    (r1.mono hle (λb _=>⟨rfl,rfl⟩)) ((r2.bg).mono hle (by simp)) (r3.mono hle (λb _=>⟨rfl,rfl⟩))
   rw[bB]at KQ
   exact KQ
  ·refine aO.2 ⟨n1.1,n2.2.1,?_⟩
   rintro b hb c hc rfl
   exact n1.2.2 b hb b (bm _ hc) rfl
  ·have ase:=aba (A:=λ_ _ _=>False) _ _ ahc R9 r2
   have ux:=ack Q1.1 (c:=dp C g st w) ase rfl rfl
   rw[Q1.2]at ux
   refine⟨f2,⟨vs0,gJ,ux.mono hle (λb _=>⟨rfl,rfl⟩)⟩,n2.1,λb hb=>?_⟩
   show(if b∈f2 then _ else _)=_
   rw[aJ hb]
 have Po:∀(f2:gk)(o:lI),(∀b∈f2,g.fL b=some o)->∀b y,(if b∈f2 then some (lI.hand 0) else g.fL b)=some y->b<w.heap.size/\(C.w0.heap.size<=b\/C.M b):=by intro f2 o hf b y hy;by_cases hm:b∈f2;exact h.iw b _ (hf b hm);rw[aI hm]at hy;exact h.iw b y hy
 have aaw:∀(f2:gk)(o:lI),(∀b∈f2,g.fL b=some o)->∀b y,y≠o->g.fL b=some y->(if b∈f2 then some (lI.hand 0) else g.fL b)=some y:=by intro f2 o hf b y hyo hb;rw[aI (λhm=>hyo (by have:=hf b hm;rw[hb]at this;simpa using this))];exact hb
 have hh1:∀{g2:Gh}{stN:AS},Kv C g2 stN w 0 (a.eval x) (.val gg sF)->∀k u bv,[(a.eval x,AV.val gg sF)][k]?=some (u,bv)->Kv C g2 stN w k u bv:=by
  intro g2 stN hh k u bv hk;cases k with
  |zero=>simp only[cR,bw,Prod.mk.injEq]at hk;obtain⟨rfl,rfl⟩:=hk;exact hh
  |succ k=>simp at hk
 cases rt with
 |slot s j0=>
  simp only[AS.JQ]at jl;cases hg:st.get s with
  |xN ts=>rw[hg]at jl;cases jl
  |val g1 cs1=>
   rw[hg]at jl;cases jl;have oB:∀Fu,st.Gp (.slot s j0) Fu={st with slots:=st.slots.set s (.val g1 Fu)}:=λFu=>by simp only[AS.Gp,hg,AS.put,gL]
   obtain⟨fp,hr,hn,hl⟩:=h.slot s;rw[hg]at hr;obtain⟨vs,anG,hr⟩:=hr;obtain⟨f1,f2,f3,rfl,DE,hle,KQ,OV,FW⟩:=core (.slot s) (st.Gp (.slot s j0) (fD csO (mq.pos (.slot s j0)-j) (bg st.ep ((csO.drop (mq.pos (.slot s j0)-j)).take cs.length)))) hr hn hl (by rw[oB]) (by rw[oB]) (λ_ q=>by rw[oB];exact q);have DH:∀b∈f2,g.fL b=some (.slot s):=λb hb=>hl b (by simp[hb]);refine⟨{g with fL:=λb=>if b∈f2 then some (.hand 0) else g.fL b},λ_=>rfl,h.step (λy=>y≠ .slot s) hle h.defers ?_ ?_ h.frame (Po f2 _ DH) (λb y hk hb=>⟨aaw f2 _ DH b y hk hb,rfl,rfl⟩) ?_ ?_ (λk u bv hk=> .inr (hh1 FW k u bv hk)) (.inl ⟨by simp,by rw[oB]⟩)⟩;rw[oB];simpa using h.size;rw[oB];simpa using h.bsize;intro i bv hi;rw[oB]at hi;have wF:(st.slots.set s (.val g1 _))[i]?=some bv:=hi;by_cases his:i=s;subst his;rw[bL]at wF;simp only[cr]at wF;split at wF;simp at wF;subst wF;refine .inr ⟨f1++f3,⟨vs,anG,KQ⟩,OV,λb hb=>?_⟩;show(if b∈f2 then _ else _)=_;rw[aI (DE b hb)];exact hl b (by rcases ay.1 hb with k|k<;>simp[k]);cases wF;rw[aF (cd his)]at wF;exact .inl ⟨by simpa using his,wF,rfl⟩;intro t Fu hb;rw[oB]at hb;exact .inl ⟨by simp,hb,rfl⟩
 |box s j0=>
  have lB:st.boxes[s]?=some (some csO):=by simp only[AS.JQ,eT]at jl;cases hb:st.boxes[s]? with|none=>simp[hb]at jl|some q=>rw[hb]at jl;simp at jl;rw[jl]
  have AL:s<st.boxes.length:=(aB.1 lB).1;have oB:∀Fu,st.Gp (.box s j0) Fu={st with boxes:=st.boxes.set s (some Fu)}:=λFu=>by simp only[AS.Gp,AS.fU,gL]
  obtain⟨arr,T,fr,fp,lV,uj,hr,hn,xY,hl,IE,IH⟩:=h.boxes s csO lB;obtain⟨f1,f2,f3,rfl,DE,hle,KQ,OV,FW⟩:=core (.box s) (st.Gp (.box s j0) (fD csO (mq.pos (.box s j0)-j) (bg st.ep ((csO.drop (mq.pos (.box s j0)-j)).take cs.length)))) hr hn hl (by rw[oB]) (by rw[oB]) (λt ht=>by rw[oB];obtain⟨c0,Vq⟩:=ht;by_cases uW:s=t;subst uW;exact⟨_,by simp[AL];rfl⟩;exact⟨c0,by rw[aF uW];exact Vq⟩);have DH:∀b∈f2,g.fL b=some (.box s):=λb hb=>hl b (by simp[hb]);refine⟨{g with fL:=λb=>if b∈f2 then some (.hand 0) else g.fL b},λ_=>rfl,h.step (λy=>y≠ .box s) hle h.defers ?_ ?_ h.frame (Po f2 _ DH) (λb y hk hb=>⟨aaw f2 _ DH b y hk hb,rfl,rfl⟩) ?_ ?_ (λk u bv hk=> .inr (hh1 FW k u bv hk)) (.inl ⟨by simp,by rw[oB]⟩)⟩;rw[oB];exact h.size;rw[oB];simpa using h.bsize;intro i bv hi;rw[oB]at hi;exact .inl ⟨by simp,hi,rfl⟩;intro t Fu hb;rw[oB]at hb;have iB:(st.boxes.set s (some _))[t]?=some (some Fu):=hb;by_cases uW:t=s;subst uW;rw[bL]at iB;simp only[cr,AL]at iB;simp at iB;subst iB;have KS:g.β t∉f2:=λhm=>xY (by simp[hm]);refine .inr ⟨arr,T,fr,f1++f3,lV,uj,KQ,OV,λhm=>xY (by rcases ay.1 hm with k|k<;>simp[k]),λb hb=>?_,?_,IH⟩;show(if b∈f2 then _ else _)=_;rw[aI (DE b hb)];exact hl b (by rcases ay.1 hb with k|k<;>simp[k]);show(if g.β t∈f2 then _ else _)=_;rw[aI KS];exact IE;rw[aF (cd uW)]at iB;exact .inl ⟨by simpa using uW,iB,rfl⟩
 |io j0=>simp only[AS.JQ,bw]at jl;subst jl;obtain⟨fp,hr,hn,hl⟩:=h.io;obtain⟨f1,f2,f3,rfl,DE,hle,KQ,OV,FW⟩:=core .io (st.Gp (.io j0) (fD st.io (mq.pos (.io j0)-j) (bg st.ep ((st.io.drop (mq.pos (.io j0)-j)).take cs.length)))) hr hn hl rfl rfl (λ_ q=>q);have DH:∀b∈f2,g.fL b=some .io:=λb hb=>hl b (by simp[hb]);refine⟨{g with fL:=λb=>if b∈f2 then some (.hand 0) else g.fL b},λ_=>rfl,h.step (λy=>y≠ .io) hle h.defers h.size h.bsize h.frame (Po f2 _ DH) (λb y hk hb=>⟨aaw f2 _ DH b y hk hb,rfl,rfl⟩) (λi bv hi=> .inl ⟨by simp,hi,rfl⟩) (λt Fu hb=> .inl ⟨by simp,hb,rfl⟩) (λk u bv hk=> .inr (hh1 FW k u bv hk)) (.inr ⟨f1++f3,KQ,OV,λb hb=>?_⟩)⟩;show(if b∈f2 then _ else _)=_;rw[aI (DE b hb)];exact hl b (by rcases ay.1 hb with k|k<;>simp[k])
 cases hc;cases hc;cases hc;cases hc
theorem ad4 {o:Oper}(ho:o.op=.assign x)(h:pT C st a w){K:AS->aC R}(hk:Sq o x st K=some r):ox P C o a w K r:=by
 have fG:(execOp a.eval o).run P w=.ok (.value (a.eval x)) w:=by simp[execOp,ho]
 obtain⟨g,hg⟩:=h;unfold Sq at hk;split at hk;rename_i v cc hc;obtain⟨g',_,pQ⟩:=hg.akF hc;exact⟨_,_,_,.inl fG,eX.EJ pQ o.dst,hk⟩;cases hk
theorem Qq {E:Env}(hE:kJ P E.ty){o:Oper}{T:TypeId}{p:Operand}(hd:o.dst=none)(ho:o.op=.store T p x)(h:pT C st a w){K:AS->aC R}(hk:yu E T p x st K=some r):ox P C o a w K r:=by obtain⟨g,hg⟩:=h;unfold yu at hk;split at hk;rename_i sh s off hT hp;have wo:=hg.rd p;rw[hp]at wo;have wo:=CM wo;split at hk;rename_i gg vs cc hc;obtain⟨g',KS,pQ⟩:=hg.akF hc;split at hk;rename_i cs lB;split at hk;rename_i hlen;split at hk;rename_i iW;exact HN hE hd ho hT (by rw[KS];exact wo) pQ lB hlen.1 hlen.2 iW hk;cases hk;cases hk;cases hk;cases hk;cases hk
structure Sound (P:Program) (E:Env) (Γ:Bx):Prop where
 ty:kJ P E.ty
 eqs:Vw P E.eqs
 fts:abF P E.fts
 fns:∀f,jj P f (Γ f)
 mixed:P.follows .mixedOrders=true
theorem ox.wp {o:Oper}{K:AS->aC R}(h:ox P C o a w K r)(next:Act->World->Prop)(Q:Exit->Act->World->Prop)(iX:∀cc a' w',pT C cc a' w'->K cc=some r->next a' w'):o.wp P a w next Q:=by obtain⟨v,w',cc,fG,hs,hk⟩:=h;unfold Oper.wp;rcases fG with fG|⟨rfl,fG⟩;rw[fG];exact iX _ _ _ hs hk;rw[fG];exact iX _ _ _ hs hk
theorem acK {E:Env}(hS:Sound P E Γ){o:Oper}(h:pT C st a w){K:AS->aC R}(hk:dG E Γ an o st K=some r)(next:Act->World->Prop)(Q:Exit->Act->World->Prop)(iX:∀cc a' w',pT C cc a' w'->K cc=some r->next a' w'):o.wp P a w next Q:=by
 unfold dG at hk;split at hk;·rename_i x ho;exact(ael ho h hk).wp next Q iX
 ·rename_i x ho;split at hk;·exact(ad4 ho h hk).wp next Q iX
  ·exact(VF ho h hk).wp next Q iX
 ·rename_i c x y ho;exact(aeI ho h hk).wp next Q iX
 ·rename_i T ho;exact(YQ hS.ty ho h hk).wp next Q iX
 ·rename_i T x ho;exact(afO ho h hk).wp next Q iX
 ·rename_i T p ho;exact(aed hS.ty ho h hk).wp next Q iX
 ·rename_i T p x ho;split at hk
  ·rename_i hd;split at hk;·exact(Qq hS.ty hd ho h hk).wp next Q iX
   ·exact(abv hS.ty hd ho h hk).wp next Q iX
  cases hk
 ·rename_i x ho;split at hk;·rename_i s off hx;exact(Rj ho h hx hk).wp next Q iX
  ·rename_i fl e y i off hx;exact(Lc ho h hx hk).wp next Q iX
  cases hk
 ·rename_i op T x y T' ho;exact(afM hS.ty hS.eqs ho h hk).wp next Q iX
 ·rename_i op T x ho;exact(akv ho h hk).wp next Q iX
 ·rename_i S p f ho;exact(ZR hS.ty ho h hk).wp next Q iX
 ·rename_i T x i ho;exact(Pg hS.ty ho h hk).wp next Q iX
 ·rename_i T x i ho;exact(aaq hS.ty ho h hk).wp next Q iX
 ·rename_i T parts ho;exact(Zc hS.ty ho h hk).wp next Q iX
 ·rename_i T len parts ho;exact(MW hS.ty ho h hk).wp next Q iX
 ·rename_i T n c ho;exact(Pt hS.ty ho h hk).wp next Q iX
 ·rename_i T x lo hi ho;exact(abe hS.ty ho h hk).wp next Q iX
 ·rename_i S t f ho;exact(VZ hS.ty hS.fts ho h hk).wp next Q iX
 ·rename_i args ts ho;exact(ac4 hS.ty ho h hk).wp next Q iX
 ·rename_i src dst x ho;exact(TG hS.ty ho h hk).wp next Q iX
 ·rename_i t i ho;exact(T6 ho h hk).wp next Q iX
 ·rename_i args ts ho;exact(ahw hS.ty ho h hk).wp next Q iX
 ·rename_i args ts ho;exact(ahE ho h hk).wp next Q iX
 ·rename_i args ts ho;exact(ahD ho h hk).wp next Q iX
 ·rename_i args ts ho;exact(VA hS.ty ho h hk).wp next Q iX
 ·rename_i f args ts ho;exact ajj hS.fns ho h hk next Q iX
 cases hk
theorem pT.forget (h:pT C st a w)(d:aC Nat):pT C (st.put d (.one .un)) (a.put d undef) w:=h.put d (λ_ _=>oc ⟨rfl,rfl⟩)
theorem pT.known (h:pT C st a w){b:Bool}(hg:st.get d=.val false [.bool b]):a.tmps.getD d undef=.bool b:=by obtain⟨g,pQ⟩:=h;obtain⟨fp,hr,_⟩:=pQ.slot d;rw[hg]at hr;exact xf hr
theorem UP:a.put (some d) (a.tmps.getD d undef)=a:=by cases a with|mk tmps defers=>simp only[Act.put];congr 1;apply Array.ext_getElem?;intro i;rw[Array.getElem?_setIfInBounds];by_cases h:d=i;subst h;by_cases hs:d<tmps.size;simp[hs,Array.getD];simp[hs];simp[h]
theorem pT.refine(h:pT C st a w){b:Bool}(hg:st.get d=.val false [.bool b]):pT C (st.put (some d) (.one (.bool b))) a w:=by have hk:=h.known hg;have:=h.put (some d) (v:=.bool b) (av:=.one (.bool b)) (λ_ _=>oc ⟨rfl,rfl⟩);rw[<-hk,UP]at this;exact this
theorem Wm {E:Env}(hS:Sound P E Γ){ops:Array Oper}{o:Oper}(h:pT C st a w){K:AS->aC R}(hk:iK E Γ an ops.toList o st K=some r)(next:Act->World->Prop)(Q:Exit->Act->World->Prop)(iX:∀cc a' w',pT C cc a' w'->K cc=some r->next a' w'): if Region.wanted o (yielded ops a.tmps) then o.wp P a w next Q\/(o.asks P a w/\LetsOut Q) else next (a.put o.dst undef) w:=by
 unfold iK at hk;split at hk;·rename_i hgd;rw[aJ (by simp[Region.wanted,hgd])];exact .inl (acK hS h hk next Q iX)
 ·rename_i j Iz hgd;split at hk
  ·rename_i d adt;have akQ:(ops[j]?).bind (·.dst)=some d:=by rw[eT]at adt;simpa using adt
   split at hk
   ·rename_i b hb;have hkn:=h.known hb;have hdl:d<a.tmps.size:=by rcases ca d a.tmps.size with iz|BC;exact iz;simp[Array.getD,Nat.not_lt.2 BC,undef]at hkn
    have hy:yielded ops a.tmps j=some b:=by
     unfold yielded;rw[akQ];have:a.tmps[d]?=some (.bool b):=by rw[Array.getElem?_eq_getElem hdl];simp[Array.getD,hdl]at hkn;rw[hkn]
     simp[this]
    have hr:=h.refine hb
    have main:∀t,b=t->(if t==Iz then dG E Γ an o (st.put (some d) (.one (.bool t))) K else K ((st.put (some d) (.one (.bool t))).put o.dst (.one .un)))=some r->
     if Region.wanted o (yielded ops a.tmps) then o.wp P a w next Q\/(o.asks P a w/\LetsOut Q) else next (a.put o.dst undef) w:=by
     rintro t rfl hk
     have hw:Region.wanted o (yielded ops a.tmps)=(b==Iz):=by simp only[Region.wanted,hgd,hy];cases b<;>cases Iz<;>rfl
     rw[hw]
     cases hbw:(b==Iz)with
     |true=>
      rw[hbw]at hk
      simp only[cr]at hk⊢
      exact .inl (acK hS hr hk next Q iX)
     |false=>
      rw[hbw]at hk
      simp only[bj,cy]at hk⊢
      exact iX _ _ _ (hr.forget o.dst) hk
    cases b with|true=>exact main true rfl hk|false=>exact main false rfl hk
   rename_i hb;obtain⟨g,hg⟩:=id h;obtain⟨fp,hr,_⟩:=hg.slot d;rw[hb]at hr;have hun:=(fO hr).1;have hy:yielded ops a.tmps j=none:=by
    unfold yielded;rw[akQ];simp only[fM];rcases ca d a.tmps.size with iz|BC;have:a.tmps[d]?=some undef:=by rw[Array.getElem?_eq_getElem iz];simp[Array.getD,iz]at hun;rw[hun]
    rw[this];rfl;rw[Array.getElem?_eq_none BC]
   have hw:Region.wanted o (yielded ops a.tmps)=false:=by simp only[Region.wanted,hgd,hy];cases Iz<;>rfl
   rw[hw];exact iX _ _ _ (h.forget o.dst) hk;cases hk
  cases hk
theorem ahO {E:Env}(hS:Sound P E Γ){ops:Array Oper}{Q:Exit->Act->World->Prop}{K:AS->aC R}
 (hq:∀cc a' w',pT C cc a' w'->K cc=some r->Q .normal a' w'):∀(n i:Nat)(st:AS)(a:Act)(w:World),i+n=ops.size->pT C st a w->UI E Γ an ops.toList (ops.toList.drop i) st K=some r->
  wpOps P ops Q ((List.range' i n)) a w
 |0,i,st,a,w,hi,h,hk=>by rw[cx (by simp;omega)]at hk;exact hq st a w h hk
 |n+1,i,st,a,w,hi,h,hk=>by
  have Q0:i<ops.toList.length:=by simp;omega
  rw[bV Q0]at hk;have ho:ops[i]?=some ops.toList[i]:=by rw[<-cI];exact aq Q0
  rw[List.range'_succ,wpOps,ho];simp only;have:=Wm hS (ops:=ops) h hk (wpOps P ops Q (List.range' (i+1) n)) Q (λcc a' w' hs FY=>ahO hS hq n (i+1) cc a' w' (by omega) hs FY);exact this
end Go.Dn
