import Derived.Test.YthllnaiaikjelaaGreatDnCall
/- The soundness of the abstract semantics: operations, regions, loops, functions. -/
namespace Go.Dn
open Go.RowKit
variable {P:Program} {C:Ctx} {st:AS} {a:Act} {w:World} {R:Type} {r:R}
variable {an:An} {Γ:Cr} {d:Nat} {x:Operand}
theorem ako:∀(os ss:ar AC){r:ar AC},oS os ss=some r->r.all AC.af4=true/\r.map AC.strip=r:=by
 intro os;induction os with
 |nil=>intro ss r h;cases ss with|nil=>simp[oS]at h;subst h;exact⟨rfl,rfl⟩|cons _ _=>simp[oS]at h
 |cons o os ih=>
  intro ss r h;cases ss with
  |nil=>unfold oS at h;split at h<;>first|contradiction|cases h
  |cons s ss=>
   unfold oS at h;split at h;contradiction;rename_i h1 h2;injection h1 with h1 Vk;subst Vk;injection h2 with h2 h2';subst h2';rw[Bool.cond_eq_ite]at h;split at h;obtain⟨r',hr,h⟩:=aY.1 h;cases h;obtain⟨k1,k2⟩:=ih _ hr;exact⟨by simp[AC.af4,k1],by simp[AC.strip,k2]⟩;cases h
   all_goals first
    |cases h
    |(rename_i h1 h2
      injection h1 with h1 Vk;subst Vk
      injection h2 with h2 h2';subst h2'
      obtain⟨r',hr,h⟩:=aY.1 h
      cases h
      obtain⟨k1,k2⟩:=ih _ hr
      exact⟨by simp[AC.af4,AC.hY,k1],by simp[AC.strip,k2]⟩)
theorem ahW:∀{cs:ar AC},cs.all AC.af4=true->∀{c:RC}{A:Rg}{hw:Nat->Nat}{w:World}{vs:iW}{fp:ei},bE (fA A hw w) vs cs fp->c.w=w->c.hw=hw->bE c vs (cs.map AC.strip) fp
 |[],_,c,A,hw,w,vs,fp,h,_,_=>by cases vs with|nil=>exact h|cons _ _=>exact h.elim
 |x::cs,lg,c,A,hw,w,vs,fp,h,TF,GH=>by
  cases vs with
  |nil=>exact h.elim
  |cons v vs=>
   obtain⟨f1,f2,rfl,h1,h2⟩:=h;simp only[bV,ah]at lg;refine⟨f1,f2,rfl,?_,ahW lg.2 h2 TF GH⟩;cases x with
   |sl fl e xs=>cases fl with|own t=>exact⟨by rw[TF,GH];exact h1.1,by simp⟩|arg _=>cases lg.1|loc _ _=>cases lg.1|nest _ _ _ _ _ _=>cases lg.1|part _ _ _ _=>cases lg.1|fL _ _ _=>cases lg.1
   |int k n=>exact h1
   |bool b=>exact h1
   |str s=>exact h1
   |fn f=>exact h1
   |kS=>cases lg.1
   |ptr s off=>cases lg.1
   |HM fl e y i off=>cases lg.1
   |un=>cases lg.1
   |bot=>cases lg.1
theorem dN.apM {g:Gh}(h:dN C g st a w []){v:AV}{st':AS}(hc:ZQ st x=some (v,st')):∃g',(∀s,g'.β s=g.β s)/\dN C g' st' a w [(a.eval x,v)]:=by
 unfold ZQ at hc;have P7:=h.rd x;split at hc;rename_i gg cs hx;rw[hx]at P7;obtain⟨vs0,eP,Mn⟩:=P7;split at hc;rename_i rt j Vp;split at hc;rename_i IW fB;split at hc;rename_i pb Mo;cases hc;have aad:=Ov _ _ Mo;have P5:=ako _ _ Mo
 have core:∀(o:ki)(stN:AS){vs:iW}{fp:ei},bE (cP C g st w) vs IW fp->fp.Nodup->(∀b∈fp,g.eC b=some o)->stN.ep=st.ep->stN.iss=st.iss->(∀s,ij st s->ij stN s)->
  ∃f1 f2 f3,fp=f1++f2++f3/\(∀b∈f1++f3,b∉f2)/\
   (cP C g st w).Le (cP C {g with eC:=λb=>if b∈f2 then some (.hand 0) else g.eC b} stN w)/\
   bE (cP C {g with eC:=λb=>if b∈f2 then some (.hand 0) else g.eC b} stN w) vs (dw IW (rt.pos-j) (bc st.ep ((IW.drop (rt.pos-j)).take cs.length))) (f1++f3)/\(f1++f3).Nodup/\
   Rq C {g with eC:=λb=>if b∈f2 then some (.hand 0) else g.eC b} stN w 0 (a.eval x) (.val gg pb):=by
  intro o stN vs fp hr hn hl Cw LJ uH
  obtain⟨f1,f2,f3,rfl,r1,r2,r3⟩:=hr.mid (rt.pos-j) cs.length
  have Fq:=hn
  rw[aX]at Fq
  have n1:=aG.1 Fq
  have n2:=aG.1 n1.2.1
  have hle:(cP C g st w).Le (cP C {g with eC:=λb=>if b∈f2 then some (.hand 0) else g.eC b} stN w):=
   ⟨rfl,λt ht=>⟨by show nr stN t;have ht':nr st t:=ht;simpa[nr,LJ]using ht',rfl⟩,λ_ _ _ _ _ hu=>hu,by show st.ep<=stN.ep;omega,λs hs=>⟨uH s hs,rfl⟩,λ_ b o u ho hu=>⟨ho,hu⟩⟩
  refine⟨f1,f2,f3,rfl,?_,hle,?_,?_,?_⟩
  ·intro b hb h2
   rcases aA.1 hb with hb|hb
   ·exact n1.2.2 b hb b (br _ h2) rfl
   ·exact n2.2.2 b h2 b hb rfl
  ·have P9:=Pn (c':=cP C {g with eC:=λb=>if b∈f2 then some (.hand 0) else g.eC b} stN w) (seg:=bc st.ep ((IW.drop (rt.pos-j)).take cs.length)) rfl (by rw[r2.length];exact aad)
    (r1.mono hle (λb _=>⟨rfl,rfl⟩)) ((r2.bc).mono hle (by simp)) (r3.mono hle (λb _=>⟨rfl,rfl⟩))
   rw[bD]at P9
   exact P9
  ·refine aG.2 ⟨n1.1,n2.2.1,?_⟩
   rintro b hb c hc rfl
   exact n1.2.2 b hb b (bh _ hc) rfl
  ·have aqk:=Wf (A:=λ_ _ _=>False) _ _ Mo Mn r2
   have vG:=ahW P5.1 (c:=cP C g st w) aqk rfl rfl
   rw[P5.2]at vG
   refine⟨f2,⟨vs0,eP,vG.mono hle (λb _=>⟨rfl,rfl⟩)⟩,n2.1,λb hb=>?_⟩
   show(if b∈f2 then _ else _)=_
   rw[aM hb]
 have VL:∀(f2:ei)(o:ki),(∀b∈f2,g.eC b=some o)->∀b y,(if b∈f2 then some (ki.hand 0) else g.eC b)=some y->b<w.heap.size/\(C.w0.heap.size<=b\/C.M b):=by intro f2 o hf b y hy;by_cases hm:b∈f2;exact h.fW b _ (hf b hm);rw[aK hm]at hy;exact h.fW b y hy
 have af9:∀(f2:ei)(o:ki),(∀b∈f2,g.eC b=some o)->∀b y,y≠o->g.eC b=some y->(if b∈f2 then some (ki.hand 0) else g.eC b)=some y:=by intro f2 o hf b y hyo hb;rw[aK (λhm=>hyo (by have:=hf b hm;rw[hb]at this;simpa using this))];exact hb
 have hh1:∀{g2:Gh}{stN:AS},Rq C g2 stN w 0 (a.eval x) (.val gg pb)->∀k u bv,[(a.eval x,AV.val gg pb)][k]?=some (u,bv)->Rq C g2 stN w k u bv:=by
  intro g2 stN hh k u bv hk;cases k with
  |zero=>simp only[cL,bf,Prod.mk.injEq]at hk;obtain⟨rfl,rfl⟩:=hk;exact hh
  |succ k=>simp at hk
 cases rt with
 |slot s j0=>
  simp only[AS.yb]at fB;cases hg:st.get s with
  |Af ts=>rw[hg]at fB;cases fB
  |val g1 cs1=>
   rw[hg]at fB;cases fB;have nm:∀LR,st.tn (.slot s j0) LR={st with slots:=st.slots.set s (.val g1 LR)}:=λLR=>by simp only[AS.tn,hg,AS.put,fE]
   obtain⟨fp,hr,hn,hl⟩:=h.slot s;rw[hg]at hr;obtain⟨vs,P3,hr⟩:=hr;obtain⟨f1,f2,f3,rfl,EP,hle,P9,O2,Mj⟩:=core (.slot s) (st.tn (.slot s j0) (dw IW (lW.pos (.slot s j0)-j) (bc st.ep ((IW.drop (lW.pos (.slot s j0)-j)).take cs.length)))) hr hn hl (by rw[nm]) (by rw[nm]) (λ_ q=>by rw[nm];exact q);have JF:∀b∈f2,g.eC b=some (.slot s):=λb hb=>hl b (by simp[hb]);refine⟨{g with eC:=λb=>if b∈f2 then some (.hand 0) else g.eC b},λ_=>rfl,h.step (λy=>y≠ .slot s) hle h.defers ?_ ?_ h.frame (VL f2 _ JF) (λb y hk hb=>⟨af9 f2 _ JF b y hk hb,rfl,rfl⟩) ?_ ?_ (λk u bv hk=> .inr (hh1 Mj k u bv hk)) (.inl ⟨by simp,by rw[nm]⟩)⟩;rw[nm];simpa using h.size;rw[nm];simpa using h.bsize;intro i bv hi;rw[nm]at hi;have uw:(st.slots.set s (.val g1 _))[i]?=some bv:=hi;by_cases his:i=s;subst his;rw[bu]at uw;simp only[cd]at uw;split at uw;simp at uw;subst uw;refine .inr ⟨f1++f3,⟨vs,P3,P9⟩,O2,λb hb=>?_⟩;show(if b∈f2 then _ else _)=_;rw[aK (EP b hb)];exact hl b (by rcases aA.1 hb with k|k<;>simp[k]);cases uw;rw[aZ (cX his)]at uw;exact .inl ⟨by simpa using his,uw,rfl⟩;intro t LR hb;rw[nm]at hb;exact .inl ⟨by simp,hb,rfl⟩
 |box s j0=>
  have kW:st.boxes[s]?=some (some IW):=by simp only[AS.yb,dY]at fB;cases hb:st.boxes[s]? with|none=>simp[hb]at fB|some q=>rw[hb]at fB;simp at fB;rw[fB]
  have CG:s<st.boxes.length:=(aJ.1 kW).1;have nm:∀LR,st.tn (.box s j0) LR={st with boxes:=st.boxes.set s (some LR)}:=λLR=>by simp only[AS.tn,AS.eZ,fE]
  obtain⟨arr,T,fr,fp,kL,uI,hr,hn,xk,hl,LW,Ob⟩:=h.boxes s IW kW;obtain⟨f1,f2,f3,rfl,EP,hle,P9,O2,Mj⟩:=core (.box s) (st.tn (.box s j0) (dw IW (lW.pos (.box s j0)-j) (bc st.ep ((IW.drop (lW.pos (.box s j0)-j)).take cs.length)))) hr hn hl (by rw[nm]) (by rw[nm]) (λt ht=>by rw[nm];obtain⟨c0,hc0⟩:=ht;by_cases uJ:s=t;subst uJ;exact⟨_,by simp[CG];rfl⟩;exact⟨c0,by rw[aZ uJ];exact hc0⟩);have JF:∀b∈f2,g.eC b=some (.box s):=λb hb=>hl b (by simp[hb]);refine⟨{g with eC:=λb=>if b∈f2 then some (.hand 0) else g.eC b},λ_=>rfl,h.step (λy=>y≠ .box s) hle h.defers ?_ ?_ h.frame (VL f2 _ JF) (λb y hk hb=>⟨af9 f2 _ JF b y hk hb,rfl,rfl⟩) ?_ ?_ (λk u bv hk=> .inr (hh1 Mj k u bv hk)) (.inl ⟨by simp,by rw[nm]⟩)⟩;rw[nm];exact h.size;rw[nm];simpa using h.bsize;intro i bv hi;rw[nm]at hi;exact .inl ⟨by simp,hi,rfl⟩;intro t LR hb;rw[nm]at hb;have ig:(st.boxes.set s (some _))[t]?=some (some LR):=hb;by_cases uJ:t=s;subst uJ;rw[bu]at ig;simp only[cd,CG]at ig;simp at ig;subst ig;have O4:g.β t∉f2:=λhm=>xk (by simp[hm]);refine .inr ⟨arr,T,fr,f1++f3,kL,uI,P9,O2,λhm=>xk (by rcases aA.1 hm with k|k<;>simp[k]),λb hb=>?_,?_,Ob⟩;show(if b∈f2 then _ else _)=_;rw[aK (EP b hb)];exact hl b (by rcases aA.1 hb with k|k<;>simp[k]);show(if g.β t∈f2 then _ else _)=_;rw[aK O4];exact LW;rw[aZ (cX uJ)]at ig;exact .inl ⟨by simpa using uJ,ig,rfl⟩
 |io j0=>simp only[AS.yb,bf]at fB;subst fB;obtain⟨fp,hr,hn,hl⟩:=h.io;obtain⟨f1,f2,f3,rfl,EP,hle,P9,O2,Mj⟩:=core .io (st.tn (.io j0) (dw st.io (lW.pos (.io j0)-j) (bc st.ep ((st.io.drop (lW.pos (.io j0)-j)).take cs.length)))) hr hn hl rfl rfl (λ_ q=>q);have JF:∀b∈f2,g.eC b=some .io:=λb hb=>hl b (by simp[hb]);refine⟨{g with eC:=λb=>if b∈f2 then some (.hand 0) else g.eC b},λ_=>rfl,h.step (λy=>y≠ .io) hle h.defers h.size h.bsize h.frame (VL f2 _ JF) (λb y hk hb=>⟨af9 f2 _ JF b y hk hb,rfl,rfl⟩) (λi bv hi=> .inl ⟨by simp,hi,rfl⟩) (λt LR hb=> .inl ⟨by simp,hb,rfl⟩) (λk u bv hk=> .inr (hh1 Mj k u bv hk)) (.inr ⟨f1++f3,P9,O2,λb hb=>?_⟩)⟩;show(if b∈f2 then _ else _)=_;rw[aK (EP b hb)];exact hl b (by rcases aA.1 hb with k|k<;>simp[k])
 cases hc;cases hc;cases hc;cases hc
theorem ajK {o:Oper}(ho:o.op=.assign x)(h:pL C st a w){K:AS->au R}(hk:YH o x st K=some r):pa P C o a w K r:=by
 have ez:(execOp a.eval o).run P w=.ok (.value (a.eval x)) w:=by simp[execOp,ho]
 obtain⟨g,hg⟩:=h;unfold YH at hk;split at hk;rename_i v st' hc;obtain⟨g',_,oY⟩:=hg.apM hc;exact⟨_,_,_,.inl ez,dN.KB oY o.dst,hk⟩;cases hk
theorem Wz {E:Env}(hE:kG P E.ty){o:Oper}{T:TypeId}{p:Operand}(hd:o.dst=none)(ho:o.op=.store T p x)(h:pL C st a w){K:AS->au R}(hk:C4 E T p x st K=some r):pa P C o a w K r:=by obtain⟨g,hg⟩:=h;unfold C4 at hk;split at hk;rename_i sh s off hT hp;have Ab:=hg.rd p;rw[hp]at Ab;have Ab:=Ik Ab;split at hk;rename_i gg vs st' hc;obtain⟨g',O4,oY⟩:=hg.apM hc;split at hk;rename_i cs kW;split at hk;rename_i hlen;split at hk;rename_i iB;exact OE hE hd ho hT (by rw[O4];exact Ab) oY kW hlen.1 hlen.2 iB hk;cases hk;cases hk;cases hk;cases hk;cases hk
structure Sound (P:Program) (E:Env) (Γ:Cr):Prop where
 ty:kG P E.ty
 eqs:abq P E.eqs
 fts:ahp P E.fts
 fns:∀f,mD P f (Γ f)
 mixed:P.follows .mixedOrders=true
theorem pa.wp {o:Oper}{K:AS->au R}(h:pa P C o a w K r)(next:Act->World->Prop)(Q:Exit->Act->World->Prop)(gq:∀st' a' w',pL C st' a' w'->K st'=some r->next a' w'):o.wp P a w next Q:=by obtain⟨v,w',st',ez,hs,hk⟩:=h;unfold Oper.wp;rcases ez with ez|⟨rfl,ez⟩;rw[ez];exact gq _ _ _ hs hk;rw[ez];exact gq _ _ _ hs hk
theorem aiq {E:Env}(hS:Sound P E Γ){o:Oper}(h:pL C st a w){K:AS->au R}(hk:df E Γ an o st K=some r)(next:Act->World->Prop)(Q:Exit->Act->World->Prop)(gq:∀st' a' w',pL C st' a' w'->K st'=some r->next a' w'):o.wp P a w next Q:=by
 unfold df at hk;split at hk;·rename_i x ho;exact(ajS ho h hk).wp next Q gq
 ·rename_i x ho;split at hk;·exact(ajK ho h hk).wp next Q gq
  ·exact(abz ho h hk).wp next Q gq
 ·rename_i c x y ho;exact(akh ho h hk).wp next Q gq
 ·rename_i T ho;exact(aeS hS.ty ho h hk).wp next Q gq
 ·rename_i T x ho;exact(aln ho h hk).wp next Q gq
 ·rename_i T p ho;exact(ajO hS.ty ho h hk).wp next Q gq
 ·rename_i T p x ho;split at hk
  ·rename_i hd;split at hk;·exact(Wz hS.ty hd ho h hk).wp next Q gq
   ·exact(ag6 hS.ty hd ho h hk).wp next Q gq
  cases hk
 ·rename_i x ho;split at hk;·rename_i s off hx;exact(Xs ho h hx hk).wp next Q gq
  ·rename_i fl e y i off hx;exact(R9 ho h hx hk).wp next Q gq
  cases hk
 ·rename_i op T x y T' ho;exact(alk hS.ty hS.eqs ho h hk).wp next Q gq
 ·rename_i op T x ho;exact(apD ho h hk).wp next Q gq
 ·rename_i S p f ho;exact(afv hS.ty ho h hk).wp next Q gq
 ·rename_i T x i ho;exact(VG hS.ty ho h hk).wp next Q gq
 ·rename_i T x i ho;exact(af0 hS.ty ho h hk).wp next Q gq
 ·rename_i T parts ho;exact(ae4 hS.ty ho h hk).wp next Q gq
 ·rename_i T len parts ho;exact(TD hS.ty ho h hk).wp next Q gq
 ·rename_i T n c ho;exact(VP hS.ty ho h hk).wp next Q gq
 ·rename_i T x lo hi ho;exact(agG hS.ty ho h hk).wp next Q gq
 ·rename_i S t f ho;exact(ab1 hS.ty hS.fts ho h hk).wp next Q gq
 ·rename_i args ts ho;exact(aiN hS.ty ho h hk).wp next Q gq
 ·rename_i src dst x ho;exact(ZV hS.ty ho h hk).wp next Q gq
 ·rename_i t i ho;exact(Z4 ho h hk).wp next Q gq
 ·rename_i args ts ho;exact(amT hS.ty ho h hk).wp next Q gq
 ·rename_i args ts ho;exact(am0 ho h hk).wp next Q gq
 ·rename_i args ts ho;exact(amY ho h hk).wp next Q gq
 ·rename_i args ts ho;exact(abw hS.ty ho h hk).wp next Q gq
 ·rename_i f args ts ho;exact aos hS.fns ho h hk next Q gq
 cases hk
theorem pL.forget (h:pL C st a w)(d:au Nat):pL C (st.put d (.one .un)) (a.put d undef) w:=h.put d (λ_ _=>oP ⟨rfl,rfl⟩)
theorem pL.known (h:pL C st a w){b:Bool}(hg:st.get d=.val false [.bool b]):a.tmps.getD d undef=.bool b:=by obtain⟨g,oY⟩:=h;obtain⟨fp,hr,_⟩:=oY.slot d;rw[hg]at hr;exact BM hr
theorem aaO:a.put (some d) (a.tmps.getD d undef)=a:=by cases a with|mk tmps defers=>simp only[Act.put];congr 1;apply Array.ext_getElem?;intro i;rw[Array.getElem?_setIfInBounds];by_cases h:d=i;subst h;by_cases hs:d<tmps.size;simp[hs,Array.getD];simp[hs];simp[h]
theorem pL.refine(h:pL C st a w){b:Bool}(hg:st.get d=.val false [.bool b]):pL C (st.put (some d) (.one (.bool b))) a w:=by have hk:=h.known hg;have:=h.put (some d) (v:=.bool b) (av:=.one (.bool b)) (λ_ _=>oP ⟨rfl,rfl⟩);rw[<-hk,aaO]at this;exact this
theorem aci {E:Env}(hS:Sound P E Γ){ops:Array Oper}{o:Oper}(h:pL C st a w){K:AS->au R}(hk:im E Γ an ops.toList o st K=some r)(next:Act->World->Prop)(Q:Exit->Act->World->Prop)(gq:∀st' a' w',pL C st' a' w'->K st'=some r->next a' w'): if Region.wanted o (yielded ops a.tmps) then o.wp P a w next Q\/(o.asks P a w/\LetsOut Q) else next (a.put o.dst undef) w:=by
 unfold im at hk;split at hk;·rename_i hgd;rw[aM (by simp[Region.wanted,hgd])];exact .inl (aiq hS h hk next Q gq)
 ·rename_i j Pt hgd;split at hk
  ·rename_i d ai8;have apP:(ops[j]?).bind (·.dst)=some d:=by rw[dY]at ai8;simpa using ai8
   split at hk
   ·rename_i b hb;have hkn:=h.known hb;have hdl:d<a.tmps.size:=by rcases bS d a.tmps.size with iJ|Fp;exact iJ;simp[Array.getD,Nat.not_lt.2 Fp,undef]at hkn
    have hy:yielded ops a.tmps j=some b:=by
     unfold yielded;rw[apP];have:a.tmps[d]?=some (.bool b):=by rw[Array.getElem?_eq_getElem hdl];simp[Array.getD,hdl]at hkn;rw[hkn]
     simp[this]
    have hr:=h.refine hb
    have main:∀t,b=t->(if t==Pt then df E Γ an o (st.put (some d) (.one (.bool t))) K else K ((st.put (some d) (.one (.bool t))).put o.dst (.one .un)))=some r->
     if Region.wanted o (yielded ops a.tmps) then o.wp P a w next Q\/(o.asks P a w/\LetsOut Q) else next (a.put o.dst undef) w:=by
     rintro t rfl hk
     have hw:Region.wanted o (yielded ops a.tmps)=(b==Pt):=by simp only[Region.wanted,hgd,hy];cases b<;>cases Pt<;>rfl
     rw[hw]
     cases hbw:(b==Pt)with
     |true=>
      rw[hbw]at hk
      simp only[cd]at hk⊢
      exact .inl (aiq hS hr hk next Q gq)
     |false=>
      rw[hbw]at hk
      simp only[bg,cE]at hk⊢
      exact gq _ _ _ (hr.forget o.dst) hk
    cases b with|true=>exact main true rfl hk|false=>exact main false rfl hk
   rename_i hb;obtain⟨g,hg⟩:=id h;obtain⟨fp,hr,_⟩:=hg.slot d;rw[hb]at hr;have hun:=(eI hr).1;have hy:yielded ops a.tmps j=none:=by
    unfold yielded;rw[apP];simp only[eV];rcases bS d a.tmps.size with iJ|Fp;have:a.tmps[d]?=some undef:=by rw[Array.getElem?_eq_getElem iJ];simp[Array.getD,iJ]at hun;rw[hun]
    rw[this];rfl;rw[Array.getElem?_eq_none Fp]
   have hw:Region.wanted o (yielded ops a.tmps)=false:=by simp only[Region.wanted,hgd,hy];cases Pt<;>rfl
   rw[hw];exact gq _ _ _ (h.forget o.dst) hk;cases hk
  cases hk
theorem anc {E:Env}(hS:Sound P E Γ){ops:Array Oper}{Q:Exit->Act->World->Prop}{K:AS->au R}
 (hq:∀st' a' w',pL C st' a' w'->K st'=some r->Q .normal a' w'):∀(n i:Nat)(st:AS)(a:Act)(w:World),i+n=ops.size->pL C st a w->aaH E Γ an ops.toList (ops.toList.drop i) st K=some r->
  wpOps P ops Q ((List.range' i n)) a w
 |0,i,st,a,w,hi,h,hk=>by rw[dk (by simp;omega)]at hk;exact hq st a w h hk
 |n+1,i,st,a,w,hi,h,hk=>by
  have Vq:i<ops.toList.length:=by simp;omega
  rw[cg Vq]at hk;have ho:ops[i]?=some ops.toList[i]:=by rw[<-cp];exact al Vq
  rw[List.range'_succ,wpOps,ho];simp only;have:=aci hS (ops:=ops) h hk (wpOps P ops Q (List.range' (i+1) n)) Q (λst' a' w' hs Mk=>anc hS hq n (i+1) st' a' w' (by omega) hs Mk);exact this
end Go.Dn
