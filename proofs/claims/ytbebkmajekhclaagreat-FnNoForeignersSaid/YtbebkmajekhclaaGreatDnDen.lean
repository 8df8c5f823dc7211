import Derived.Test.YtbebkmajekhclaaGreatDnCall
/- The soundness of the abstract semantics: operations, regions, loops, functions. -/
namespace Go.Dn
open Go.RowKit
variable {P:Program} {C:Ctx} {st:AS} {a:Act} {w:World} {R:Type} {r:R}
variable {an:An} {Γ:BV} {d:Nat} {x:Operand}
theorem agY:∀(os ss:ax AC){r:ax AC},pn os ss=some r->r.all AC.al6=true/\r.map AC.strip=r:=by
 intro os;induction os with
 |nil=>intro ss r h;cases ss with|nil=>simp[pn]at h;subst h;exact⟨rfl,rfl⟩|cons _ _=>simp[pn]at h
 |cons o os ih=>
  intro ss r h;cases ss with
  |nil=>unfold pn at h;split at h<;>first|contradiction|cases h
  |cons s ss=>
   unfold pn at h;split at h;contradiction;rename_i h1 h2;injection h1 with h1 Ru;subst Ru;injection h2 with h2 Wt;subst Wt;rw[Bool.cond_eq_ite]at h;split at h;obtain⟨r',hr,h⟩:=aZ.1 h;cases h;obtain⟨k1,k2⟩:=ih _ hr;exact⟨by simp[AC.al6,k1],by simp[AC.strip,k2]⟩;cases h
   all_goals first
    |cases h
    |(rename_i h1 h2
      injection h1 with h1 Ru;subst Ru
      injection h2 with h2 Wt;subst Wt
      obtain⟨r',hr,h⟩:=aZ.1 h
      cases h
      obtain⟨k1,k2⟩:=ih _ hr
      exact⟨by simp[AC.al6,AC.kx,k1],by simp[AC.strip,k2]⟩)
theorem adW:∀{cs:ax AC},cs.all AC.al6=true->∀{c:RC}{A:Rg}{hw:Nat->Nat}{w:World}{vs:jt}{fp:fK},bU (gD A hw w) vs cs fp->c.w=w->c.hw=hw->bU c vs (cs.map AC.strip) fp
 |[],_,c,A,hw,w,vs,fp,h,_,_=>by cases vs with|nil=>exact h|cons _ _=>exact h.elim
 |x::cs,pK,c,A,hw,w,vs,fp,h,Wu,HS=>by
  cases vs with
  |nil=>exact h.elim
  |cons v vs=>
   obtain⟨f1,f2,rfl,h1,h2⟩:=h;simp only[cj,ae]at pK;refine⟨f1,f2,rfl,?_,adW pK.2 h2 Wu HS⟩;cases x with
   |sl fl e xs=>cases fl with|own t=>exact⟨by rw[Wu,HS];exact h1.1,by simp⟩|arg _=>cases pK.1|loc _ _=>cases pK.1|nest _ _ _ _ _ _=>cases pK.1|part _ _ _ _=>cases pK.1|ga _ _ _=>cases pK.1
   |int k n=>exact h1
   |bool b=>exact h1
   |str s=>exact h1
   |fn f=>exact h1
   |kI=>cases pK.1
   |ptr s off=>cases pK.1
   |Dy fl e y i off=>cases pK.1
   |un=>cases pK.1
   |bot=>cases pK.1
theorem eJ.amV {g:Gh}(h:eJ C g st a w []){v:AV}{bZ:AS}(hc:Uv st x=some (v,bZ)):∃g',(∀s,g'.β s=g.β s)/\eJ C g' bZ a w [(a.eval x,v)]:=by
 unfold Uv at hc;have PU:=h.rd x;split at hc;rename_i gg cs hx;rw[hx]at PU;obtain⟨vs0,gb,S2⟩:=PU;split at hc;rename_i rt j Vj;split at hc;rename_i csO iz;split at hc;rename_i sq ajh;cases hc;have aoq:=Sf _ _ ajh;have RS:=agY _ _ ajh
 have core:∀(o:kZ)(stN:AS){vs:jt}{fp:fK},bU (df C g st w) vs csO fp->fp.Nodup->(∀b∈fp,g.ft b=some o)->stN.ep=st.ep->stN.iss=st.iss->(∀s,jW st s->jW stN s)->
  ∃f1 f2 f3,fp=f1++f2++f3/\(∀b∈f1++f3,b∉f2)/\
   (df C g st w).Le (df C {g with ft:=λb=>if b∈f2 then some (.hand 0) else g.ft b} stN w)/\
   bU (df C {g with ft:=λb=>if b∈f2 then some (.hand 0) else g.ft b} stN w) vs (eZ csO (rt.pos-j) (bf st.ep ((csO.drop (rt.pos-j)).take cs.length))) (f1++f3)/\(f1++f3).Nodup/\
   Ll C {g with ft:=λb=>if b∈f2 then some (.hand 0) else g.ft b} stN w 0 (a.eval x) (.val gg sq):=by
  intro o stN vs fp hr hn hl Aw NW wX
  obtain⟨f1,f2,f3,rfl,r1,r2,r3⟩:=hr.mid (rt.pos-j) cs.length
  have D7:=hn
  rw[aL]at D7
  have n1:=aQ.1 D7
  have n2:=aQ.1 n1.2.1
  have hle:(df C g st w).Le (df C {g with ft:=λb=>if b∈f2 then some (.hand 0) else g.ft b} stN w):=
   ⟨rfl,λt ht=>⟨by show oc stN t;have ht':oc st t:=ht;simpa[oc,NW]using ht',rfl⟩,λ_ _ _ _ _ hu=>hu,by show st.ep<=stN.ep;omega,λs hs=>⟨wX s hs,rfl⟩,λ_ b o u ho hu=>⟨ho,hu⟩⟩
  refine⟨f1,f2,f3,rfl,?_,hle,?_,?_,?_⟩
  ·intro b hb h2
   rcases ay.1 hb with hb|hb
   ·exact n1.2.2 b hb b (bK _ h2) rfl
   ·exact n2.2.2 b h2 b hb rfl
  ·have LB:=ac1 (c':=df C {g with ft:=λb=>if b∈f2 then some (.hand 0) else g.ft b} stN w) (seg:=bf st.ep ((csO.drop (rt.pos-j)).take cs.length)) rfl (by rw[r2.length];exact aoq)
    (r1.mono hle (λb _=>⟨rfl,rfl⟩)) ((r2.bf).mono hle (by simp)) (r3.mono hle (λb _=>⟨rfl,rfl⟩))
   rw[bD]at LB
   exact LB
  ·refine aQ.2 ⟨n1.1,n2.2.1,?_⟩
   rintro b hb c hc rfl
   exact n1.2.2 b hb b (bw _ hc) rfl
  ·have avm:=acS (A:=λ_ _ _=>False) _ _ ajh S2 r2
   have uB:=adW RS.1 (c:=df C g st w) avm rfl rfl
   rw[RS.2]at uB
   refine⟨f2,⟨vs0,gb,uB.mono hle (λb _=>⟨rfl,rfl⟩)⟩,n2.1,λb hb=>?_⟩
   show(if b∈f2 then _ else _)=_
   rw[aI hb]
 have Qe:∀(f2:fK)(o:kZ),(∀b∈f2,g.ft b=some o)->∀b y,(if b∈f2 then some (kZ.hand 0) else g.ft b)=some y->b<w.heap.size/\(C.w0.heap.size<=b\/C.M b):=by intro f2 o hf b y hy;by_cases hm:b∈f2;exact h.gW b _ (hf b hm);rw[aG hm]at hy;exact h.gW b y hy
 have ab5:∀(f2:fK)(o:kZ),(∀b∈f2,g.ft b=some o)->∀b y,y≠o->g.ft b=some y->(if b∈f2 then some (kZ.hand 0) else g.ft b)=some y:=by intro f2 o hf b y hyo hb;rw[aG (λhm=>hyo (by have:=hf b hm;rw[hb]at this;simpa using this))];exact hb
 have hh1:∀{g2:Gh}{stN:AS},Ll C g2 stN w 0 (a.eval x) (.val gg sq)->∀k u bv,[(a.eval x,AV.val gg sq)][k]?=some (u,bv)->Ll C g2 stN w k u bv:=by
  intro g2 stN hh k u bv hk;cases k with
  |zero=>simp only[cD,bq,Prod.mk.injEq]at hk;obtain⟨rfl,rfl⟩:=hk;exact hh
  |succ k=>simp at hk
 cases rt with
 |slot s j0=>
  simp only[AS.KE]at iz;cases hg:st.get s with
  |yh ts=>rw[hg]at iz;cases iz
  |val g1 cs1=>
   rw[hg]at iz;cases iz;have nY:∀FM,st.GO (.slot s j0) FM={st with slots:=st.slots.set s (.val g1 FM)}:=λFM=>by simp only[AS.GO,hg,AS.put,gj]
   obtain⟨fp,hr,hn,hl⟩:=h.slot s;rw[hg]at hr;obtain⟨vs,aqo,hr⟩:=hr;obtain⟨f1,f2,f3,rfl,FI,hle,LB,PO,Gk⟩:=core (.slot s) (st.GO (.slot s j0) (eZ csO (lQ.pos (.slot s j0)-j) (bf st.ep ((csO.drop (lQ.pos (.slot s j0)-j)).take cs.length)))) hr hn hl (by rw[nY]) (by rw[nY]) (λ_ q=>by rw[nY];exact q);have CN:∀b∈f2,g.ft b=some (.slot s):=λb hb=>hl b (by simp[hb]);refine⟨{g with ft:=λb=>if b∈f2 then some (.hand 0) else g.ft b},λ_=>rfl,h.step (λy=>y≠ .slot s) hle h.defers ?_ ?_ h.frame (Qe f2 _ CN) (λb y hk hb=>⟨ab5 f2 _ CN b y hk hb,rfl,rfl⟩) ?_ ?_ (λk u bv hk=> .inr (hh1 Gk k u bv hk)) (.inl ⟨by simp,by rw[nY]⟩)⟩;rw[nY];simpa using h.size;rw[nY];simpa using h.bsize;intro i bv hi;rw[nY]at hi;have wL:(st.slots.set s (.val g1 _))[i]?=some bv:=hi;by_cases his:i=s;subst his;rw[bJ]at wL;simp only[ch]at wL;split at wL;simp at wL;subst wL;refine .inr ⟨f1++f3,⟨vs,aqo,LB⟩,PO,λb hb=>?_⟩;show(if b∈f2 then _ else _)=_;rw[aG (FI b hb)];exact hl b (by rcases ay.1 hb with k|k<;>simp[k]);cases wL;rw[aP (cZ his)]at wL;exact .inl ⟨by simpa using his,wL,rfl⟩;intro t FM hb;rw[nY]at hb;exact .inl ⟨by simp,hb,rfl⟩
 |box s j0=>
  have kQ:st.boxes[s]?=some (some csO):=by simp only[AS.KE,eH]at iz;cases hb:st.boxes[s]? with|none=>simp[hb]at iz|some q=>rw[hb]at iz;simp at iz;rw[iz]
  have AW:s<st.boxes.length:=(aA.1 kQ).1;have nY:∀FM,st.GO (.box s j0) FM={st with boxes:=st.boxes.set s (some FM)}:=λFM=>by simp only[AS.GO,AS.fD,gj]
  obtain⟨arr,T,fr,fp,lz,uv,hr,hn,yn,hl,Jq,Jt⟩:=h.boxes s csO kQ;obtain⟨f1,f2,f3,rfl,FI,hle,LB,PO,Gk⟩:=core (.box s) (st.GO (.box s j0) (eZ csO (lQ.pos (.box s j0)-j) (bf st.ep ((csO.drop (lQ.pos (.box s j0)-j)).take cs.length)))) hr hn hl (by rw[nY]) (by rw[nY]) (λt ht=>by rw[nY];obtain⟨c0,hc0⟩:=ht;by_cases vr:s=t;subst vr;exact⟨_,by simp[AW];rfl⟩;exact⟨c0,by rw[aP vr];exact hc0⟩);have CN:∀b∈f2,g.ft b=some (.box s):=λb hb=>hl b (by simp[hb]);refine⟨{g with ft:=λb=>if b∈f2 then some (.hand 0) else g.ft b},λ_=>rfl,h.step (λy=>y≠ .box s) hle h.defers ?_ ?_ h.frame (Qe f2 _ CN) (λb y hk hb=>⟨ab5 f2 _ CN b y hk hb,rfl,rfl⟩) ?_ ?_ (λk u bv hk=> .inr (hh1 Gk k u bv hk)) (.inl ⟨by simp,by rw[nY]⟩)⟩;rw[nY];exact h.size;rw[nY];simpa using h.bsize;intro i bv hi;rw[nY]at hi;exact .inl ⟨by simp,hi,rfl⟩;intro t FM hb;rw[nY]at hb;have iI:(st.boxes.set s (some _))[t]?=some (some FM):=hb;by_cases vr:t=s;subst vr;rw[bJ]at iI;simp only[ch,AW]at iI;simp at iI;subst iI;have LC:g.β t∉f2:=λhm=>yn (by simp[hm]);refine .inr ⟨arr,T,fr,f1++f3,lz,uv,LB,PO,λhm=>yn (by rcases ay.1 hm with k|k<;>simp[k]),λb hb=>?_,?_,Jt⟩;show(if b∈f2 then _ else _)=_;rw[aG (FI b hb)];exact hl b (by rcases ay.1 hb with k|k<;>simp[k]);show(if g.β t∈f2 then _ else _)=_;rw[aG LC];exact Jq;rw[aP (cZ vr)]at iI;exact .inl ⟨by simpa using vr,iI,rfl⟩
 |io j0=>simp only[AS.KE,bq]at iz;subst iz;obtain⟨fp,hr,hn,hl⟩:=h.io;obtain⟨f1,f2,f3,rfl,FI,hle,LB,PO,Gk⟩:=core .io (st.GO (.io j0) (eZ st.io (lQ.pos (.io j0)-j) (bf st.ep ((st.io.drop (lQ.pos (.io j0)-j)).take cs.length)))) hr hn hl rfl rfl (λ_ q=>q);have CN:∀b∈f2,g.ft b=some .io:=λb hb=>hl b (by simp[hb]);refine⟨{g with ft:=λb=>if b∈f2 then some (.hand 0) else g.ft b},λ_=>rfl,h.step (λy=>y≠ .io) hle h.defers h.size h.bsize h.frame (Qe f2 _ CN) (λb y hk hb=>⟨ab5 f2 _ CN b y hk hb,rfl,rfl⟩) (λi bv hi=> .inl ⟨by simp,hi,rfl⟩) (λt FM hb=> .inl ⟨by simp,hb,rfl⟩) (λk u bv hk=> .inr (hh1 Gk k u bv hk)) (.inr ⟨f1++f3,LB,PO,λb hb=>?_⟩)⟩;show(if b∈f2 then _ else _)=_;rw[aG (FI b hb)];exact hl b (by rcases ay.1 hb with k|k<;>simp[k])
 cases hc;cases hc;cases hc;cases hc
theorem af4 {o:Oper}(ho:o.op=.assign x)(h:pL C st a w){K:AS->az R}(hk:Tl o x st K=some r):oa P C o a w K r:=by
 have fg:(execOp a.eval o).run P w=.ok (.value (a.eval x)) w:=by simp[execOp,ho]
 obtain⟨g,hg⟩:=h;unfold Tl at hk;split at hk;rename_i v bZ hc;obtain⟨g',_,pJ⟩:=hg.amV hc;exact⟨_,_,_,.inl fg,eJ.E5 pJ o.dst,hk⟩;cases hk
theorem Rc {E:Env}(hE:kq P E.ty){o:Oper}{T:TypeId}{p:Operand}(hd:o.dst=none)(ho:o.op=.store T p x)(h:pL C st a w){K:AS->az R}(hk:yP E T p x st K=some r):oa P C o a w K r:=by obtain⟨g,hg⟩:=h;unfold yP at hk;split at hk;rename_i sh s off hT hp;have wM:=hg.rd p;rw[hp]at wM;have wM:=Dg wM;split at hk;rename_i gg vs bZ hc;obtain⟨g',LC,pJ⟩:=hg.amV hc;split at hk;rename_i cs kQ;split at hk;rename_i hlen;split at hk;rename_i iw;exact Ix hE hd ho hT (by rw[LC];exact wM) pJ kQ hlen.1 hlen.2 iw hk;cases hk;cases hk;cases hk;cases hk;cases hk
structure Sound (P:Program) (E:Env) (Γ:BV):Prop where
 ty:kq P E.ty
 eqs:Wz P E.eqs
 fts:adk P E.fts
 fns:∀f,iZ P f (Γ f)
 mixed:P.follows .mixedOrders=true
theorem oa.wp {o:Oper}{K:AS->az R}(h:oa P C o a w K r)(next:Act->World->Prop)(Q:Exit->Act->World->Prop)(ix:∀bZ a' w',pL C bZ a' w'->K bZ=some r->next a' w'):o.wp P a w next Q:=by obtain⟨v,w',bZ,fg,hs,hk⟩:=h;unfold Oper.wp;rcases fg with fg|⟨rfl,fg⟩;rw[fg];exact ix _ _ _ hs hk;rw[fg];exact ix _ _ _ hs hk
theorem aex {E:Env}(hS:Sound P E Γ){o:Oper}(h:pL C st a w){K:AS->az R}(hk:cX E Γ an o st K=some r)(next:Act->World->Prop)(Q:Exit->Act->World->Prop)(ix:∀bZ a' w',pL C bZ a' w'->K bZ=some r->next a' w'):o.wp P a w next Q:=by
 unfold cX at hk;split at hk;·rename_i x ho;exact(agk ho h hk).wp next Q ix
 ·rename_i x ho;split at hk;·exact(af4 ho h hk).wp next Q ix
  ·exact(WK ho h hk).wp next Q ix
 ·rename_i c x y ho;exact(agI ho h hk).wp next Q ix
 ·rename_i T ho;exact(aad hS.ty ho h hk).wp next Q ix
 ·rename_i T x ho;exact(ahU ho h hk).wp next Q ix
 ·rename_i T p ho;exact(agb hS.ty ho h hk).wp next Q ix
 ·rename_i T p x ho;split at hk
  ·rename_i hd;split at hk;·exact(Rc hS.ty hd ho h hk).wp next Q ix
   ·exact(ac7 hS.ty hd ho h hk).wp next Q ix
  cases hk
 ·rename_i x ho;split at hk;·rename_i s off hx;exact(Sb ho h hx hk).wp next Q ix
  ·rename_i fl e y i off hx;exact(L4 ho h hx hk).wp next Q ix
  cases hk
 ·rename_i op T x y T' ho;exact(ahR hS.ty hS.eqs ho h hk).wp next Q ix
 ·rename_i op T x ho;exact(amJ ho h hk).wp next Q ix
 ·rename_i S p f ho;exact(abi hS.ty ho h hk).wp next Q ix
 ·rename_i T x i ho;exact(P9 hS.ty ho h hk).wp next Q ix
 ·rename_i T x i ho;exact(abW hS.ty ho h hk).wp next Q ix
 ·rename_i T parts ho;exact(aas hS.ty ho h hk).wp next Q ix
 ·rename_i T len parts ho;exact(NS hS.ty ho h hk).wp next Q ix
 ·rename_i T n c ho;exact(Ql hS.ty ho h hk).wp next Q ix
 ·rename_i T x lo hi ho;exact(acW hS.ty ho h hk).wp next Q ix
 ·rename_i S t f ho;exact(Xc hS.ty hS.fts ho h hk).wp next Q ix
 ·rename_i args ts ho;exact(ae5 hS.ty ho h hk).wp next Q ix
 ·rename_i src dst x ho;exact(Ux hS.ty ho h hk).wp next Q ix
 ·rename_i t i ho;exact(U4 ho h hk).wp next Q ix
 ·rename_i args ts ho;exact(ajH hS.ty ho h hk).wp next Q ix
 ·rename_i args ts ho;exact(ajQ ho h hk).wp next Q ix
 ·rename_i args ts ho;exact(ajN ho h hk).wp next Q ix
 ·rename_i args ts ho;exact(WG hS.ty ho h hk).wp next Q ix
 ·rename_i f args ts ho;exact alE hS.fns ho h hk next Q ix
 cases hk
theorem pL.forget (h:pL C st a w)(d:az Nat):pL C (st.put d (.one .un)) (a.put d undef) w:=h.put d (λ_ _=>nP ⟨rfl,rfl⟩)
theorem pL.known (h:pL C st a w){b:Bool}(hg:st.get d=.val false [.bool b]):a.tmps.getD d undef=.bool b:=by obtain⟨g,pJ⟩:=h;obtain⟨fp,hr,_⟩:=pJ.slot d;rw[hg]at hr;exact xG hr
theorem VY:a.put (some d) (a.tmps.getD d undef)=a:=by cases a with|mk tmps defers=>simp only[Act.put];congr 1;apply Array.ext_getElem?;intro i;rw[Array.getElem?_setIfInBounds];by_cases h:d=i;subst h;by_cases hs:d<tmps.size;simp[hs,Array.getD];simp[hs];simp[h]
theorem pL.refine(h:pL C st a w){b:Bool}(hg:st.get d=.val false [.bool b]):pL C (st.put (some d) (.one (.bool b))) a w:=by have hk:=h.known hg;have:=h.put (some d) (v:=.bool b) (av:=.one (.bool b)) (λ_ _=>nP ⟨rfl,rfl⟩);rw[<-hk,VY]at this;exact this
theorem XH {E:Env}(hS:Sound P E Γ){ops:Array Oper}{o:Oper}(h:pL C st a w){K:AS->az R}(hk:ig E Γ an ops.toList o st K=some r)(next:Act->World->Prop)(Q:Exit->Act->World->Prop)(ix:∀bZ a' w',pL C bZ a' w'->K bZ=some r->next a' w'): if Region.wanted o (yielded ops a.tmps) then o.wp P a w next Q\/(o.asks P a w/\LetsOut Q) else next (a.put o.dst undef) w:=by
 unfold ig at hk;split at hk;·rename_i hgd;rw[aI (by simp[Region.wanted,hgd])];exact .inl (aex hS h hk next Q ix)
 ·rename_i j Jl hgd;split at hk
  ·rename_i d aft;have ana:(ops[j]?).bind (·.dst)=some d:=by rw[eH]at aft;simpa using aft
   split at hk
   ·rename_i b hb;have hkn:=h.known hb;have hdl:d<a.tmps.size:=by rcases cr d a.tmps.size with gH|Cg;exact gH;simp[Array.getD,Nat.not_lt.2 Cg,undef]at hkn
    have hy:yielded ops a.tmps j=some b:=by
     unfold yielded;rw[ana];have:a.tmps[d]?=some (.bool b):=by rw[Array.getElem?_eq_getElem hdl];simp[Array.getD,hdl]at hkn;rw[hkn]
     simp[this]
    have hr:=h.refine hb
    have main:∀t,b=t->(if t==Jl then cX E Γ an o (st.put (some d) (.one (.bool t))) K else K ((st.put (some d) (.one (.bool t))).put o.dst (.one .un)))=some r->
     if Region.wanted o (yielded ops a.tmps) then o.wp P a w next Q\/(o.asks P a w/\LetsOut Q) else next (a.put o.dst undef) w:=by
     rintro t rfl hk
     have hw:Region.wanted o (yielded ops a.tmps)=(b==Jl):=by simp only[Region.wanted,hgd,hy];cases b<;>cases Jl<;>rfl
     rw[hw]
     cases hbw:(b==Jl)with
     |true=>
      rw[hbw]at hk
      simp only[ch]at hk⊢
      exact .inl (aex hS hr hk next Q ix)
     |false=>
      rw[hbw]at hk
      simp only[bm,cw]at hk⊢
      exact ix _ _ _ (hr.forget o.dst) hk
    cases b with|true=>exact main true rfl hk|false=>exact main false rfl hk
   rename_i hb;obtain⟨g,hg⟩:=id h;obtain⟨fp,hr,_⟩:=hg.slot d;rw[hb]at hr;have hun:=(fw hr).1;have hy:yielded ops a.tmps j=none:=by
    unfold yielded;rw[ana];simp only[fu];rcases cr d a.tmps.size with gH|Cg;have:a.tmps[d]?=some undef:=by rw[Array.getElem?_eq_getElem gH];simp[Array.getD,gH]at hun;rw[hun]
    rw[this];rfl;rw[Array.getElem?_eq_none Cg]
   have hw:Region.wanted o (yielded ops a.tmps)=false:=by simp only[Region.wanted,hgd,hy];cases Jl<;>rfl
   rw[hw];exact ix _ _ _ (h.forget o.dst) hk;cases hk
  cases hk
theorem aj1 {E:Env}(hS:Sound P E Γ){ops:Array Oper}{Q:Exit->Act->World->Prop}{K:AS->az R}
 (hq:∀bZ a' w',pL C bZ a' w'->K bZ=some r->Q .normal a' w'):∀(n i:Nat)(st:AS)(a:Act)(w:World),i+n=ops.size->pL C st a w->VS E Γ an ops.toList (ops.toList.drop i) st K=some r->
  wpOps P ops Q ((List.range' i n)) a w
 |0,i,st,a,w,hi,h,hk=>by rw[di (by simp;omega)]at hk;exact hq st a w h hk
 |n+1,i,st,a,w,hi,h,hk=>by
  have Oo:i<ops.toList.length:=by simp;omega
  rw[cc Oo]at hk;have ho:ops[i]?=some ops.toList[i]:=by rw[<-cG];exact al Oo
  rw[List.range'_succ,wpOps,ho];simp only;have:=XH hS (ops:=ops) h hk (wpOps P ops Q (List.range' (i+1) n)) Q (λbZ a' w' hs Gm=>aj1 hS hq n (i+1) bZ a' w' (by omega) hs Gm);exact this
end Go.Dn
