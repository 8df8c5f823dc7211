import Derived.Test.YtinkcmefgciifaaGreatDnCall
/- The soundness of the abstract semantics: operations, regions, loops, functions. -/
namespace Go.Dn
open Go.RowKit
variable {P:Program} {C:Ctx} {st:AS} {a:Act} {w:World} {R:Type} {r:R}
variable {an:An} {Γ:xU} {d:Nat} {x:Operand}
theorem aaf:∀(os ss:aw AC){r:aw AC},mY os ss=some r->r.all AC.aeY=true/\r.map AC.strip=r:=by
 intro os;induction os with
 |nil=>intro ss r h;cases ss with|nil=>simp[mY]at h;subst h;exact⟨rfl,rfl⟩|cons _ _=>simp[mY]at h
 |cons o os ih=>
  intro ss r h;cases ss with
  |nil=>unfold mY at h;split at h<;>first|contradiction|cases h
  |cons s ss=>
   unfold mY at h;split at h;contradiction;rename_i h1 h2;injection h1 with h1 L4;subst L4;injection h2 with h2 Qv;subst Qv;rw[Bool.cond_eq_ite]at h;split at h;obtain⟨r',hr,h⟩:=aL.1 h;cases h;obtain⟨k1,k2⟩:=ih _ hr;exact⟨by simp[AC.aeY,k1],by simp[AC.strip,k2]⟩;cases h
   all_goals first
    |cases h
    |(rename_i h1 h2
      injection h1 with h1 L4;subst L4
      injection h2 with h2 Qv;subst Qv
      obtain⟨r',hr,h⟩:=aL.1 h
      cases h
      obtain⟨k1,k2⟩:=ih _ hr
      exact⟨by simp[AC.aeY,AC.jg,k1],by simp[AC.strip,k2]⟩)
theorem Xl:∀{cs:aw AC},cs.all AC.aeY=true->∀{c:RC}{A:Rg}{hw:Nat->Nat}{w:World}{vs:iu}{fp:fw},bB (fH A hw w) vs cs fp->c.w=w->c.hw=hw->bB c vs (cs.map AC.strip) fp
 |[],_,c,A,hw,w,vs,fp,h,_,_=>by cases vs with|nil=>exact h|cons _ _=>exact h.elim
 |x::cs,nn,c,A,hw,w,vs,fp,h,Qw,DQ=>by
  cases vs with
  |nil=>exact h.elim
  |cons v vs=>
   obtain⟨f1,f2,rfl,h1,h2⟩:=h;simp only[cb,ae]at nn;refine⟨f1,f2,rfl,?_,Xl nn.2 h2 Qw DQ⟩;cases x with
   |sl fl e xs=>cases fl with|own t=>exact⟨by rw[Qw,DQ];exact h1.1,by simp⟩|arg _=>cases nn.1|loc _ _=>cases nn.1|nest _ _ _ _ _ _=>cases nn.1|part _ _ _ _=>cases nn.1|fg _ _ _=>cases nn.1
   |int k n=>exact h1
   |bool b=>exact h1
   |str s=>exact h1
   |fn f=>exact h1
   |jo=>cases nn.1
   |ptr s off=>cases nn.1
   |zM fl e y i off=>cases nn.1
   |un=>cases nn.1
   |bot=>cases nn.1
theorem dM.afO {g:Gh}(h:dM C g st a w []){v:AV}{bH:AS}(hc:Oy st x=some (v,bH)):∃g',(∀s,g'.β s=g.β s)/\dM C g' bH a w [(a.eval x,v)]:=by
 unfold Oy at hc;have Kx:=h.rd x;split at hc;rename_i gg cs hx;rw[hx]at Kx;obtain⟨vs0,fi,Nk⟩:=Kx;split at hc;rename_i rt j Pe;split at hc;rename_i WT gG;split at hc;rename_i pH ach;cases hc;have ag5:=MB _ _ ach;have Mk:=aaf _ _ ach
 have core:∀(o:jA)(Wo:AS){vs:iu}{fp:fw},bB (cH C g st w) vs WT fp->fp.Nodup->(∀b∈fp,g.ej b=some o)->Wo.ep=st.ep->Wo.iss=st.iss->(∀s,iU st s->iU Wo s)->
  ∃f1 f2 f3,fp=f1++f2++f3/\(∀b∈f1++f3,b∉f2)/\
   (cH C g st w).Le (cH C {g with ej:=λb=>if b∈f2 then some (.hand 0) else g.ej b} Wo w)/\
   bB (cH C {g with ej:=λb=>if b∈f2 then some (.hand 0) else g.ej b} Wo w) vs (dZ WT (rt.pos-j) (aS st.ep ((WT.drop (rt.pos-j)).take cs.length))) (f1++f3)/\(f1++f3).Nodup/\
   GV C {g with ej:=λb=>if b∈f2 then some (.hand 0) else g.ej b} Wo w 0 (a.eval x) (.val gg pH):=by
  intro o Wo vs fp hr hn hl wN I5 tA
  obtain⟨f1,f2,f3,rfl,r1,r2,r3⟩:=hr.mid (rt.pos-j) cs.length
  have BP:=hn
  rw[aR]at BP
  have n1:=aI.1 BP
  have n2:=aI.1 n1.2.1
  have hle:(cH C g st w).Le (cH C {g with ej:=λb=>if b∈f2 then some (.hand 0) else g.ej b} Wo w):=
   ⟨rfl,λt ht=>⟨by show md Wo t;have TJ:md st t:=ht;simpa[md,I5]using TJ,rfl⟩,λ_ _ _ _ _ hu=>hu,by show st.ep<=Wo.ep;omega,λs hs=>⟨tA s hs,rfl⟩,λ_ b o u ho hu=>⟨ho,hu⟩⟩
  refine⟨f1,f2,f3,rfl,?_,hle,?_,?_,?_⟩
  ·intro b hb h2
   rcases ay.1 hb with hb|hb
   ·exact n1.2.2 b hb b (bt _ h2) rfl
   ·exact n2.2.2 b h2 b hb rfl
  ·have He:=Wn (c':=cH C {g with ej:=λb=>if b∈f2 then some (.hand 0) else g.ej b} Wo w) (seg:=aS st.ep ((WT.drop (rt.pos-j)).take cs.length)) rfl (by rw[r2.length];exact ag5)
    (r1.mono hle (λb _=>⟨rfl,rfl⟩)) ((r2.aS).mono hle (by simp)) (r3.mono hle (λb _=>⟨rfl,rfl⟩))
   rw[bV]at He
   exact He
  ·refine aI.2 ⟨n1.1,n2.2.1,?_⟩
   rintro b hb c hc rfl
   exact n1.2.2 b hb b (bj _ hc) rfl
  ·have ano:=Wa (A:=λ_ _ _=>False) _ _ ach Nk r2
   have sJ:=Xl Mk.1 (c:=cH C g st w) ano rfl rfl
   rw[Mk.2]at sJ
   refine⟨f2,⟨vs0,fi,sJ.mono hle (λb _=>⟨rfl,rfl⟩)⟩,n2.1,λb hb=>?_⟩
   show(if b∈f2 then _ else _)=_
   rw[aE hb]
 have KR:∀(f2:fw)(o:jA),(∀b∈f2,g.ej b=some o)->∀b y,(if b∈f2 then some (jA.hand 0) else g.ej b)=some y->b<w.heap.size/\(C.w0.heap.size<=b\/C.M b):=by intro f2 o hf b y hy;by_cases hm:b∈f2;exact h.fS b _ (hf b hm);rw[aH hm]at hy;exact h.fS b y hy
 have Vx:∀(f2:fw)(o:jA),(∀b∈f2,g.ej b=some o)->∀b y,y≠o->g.ej b=some y->(if b∈f2 then some (jA.hand 0) else g.ej b)=some y:=by intro f2 o hf b y hyo hb;rw[aH (λhm=>hyo (by have:=hf b hm;rw[hb]at this;simpa using this))];exact hb
 have hh1:∀{g2:Gh}{Wo:AS},GV C g2 Wo w 0 (a.eval x) (.val gg pH)->∀k u bv,[(a.eval x,AV.val gg pH)][k]?=some (u,bv)->GV C g2 Wo w k u bv:=by
  intro g2 Wo hh k u bv hk;cases k with
  |zero=>simp only[cr,aZ,Prod.mk.injEq]at hk;obtain⟨rfl,rfl⟩:=hk;exact hh
  |succ k=>simp at hk
 cases rt with
 |slot s j0=>
  simp only[AS.Gj]at gG;cases hg:st.get s with
  |uG ts=>rw[hg]at gG;cases gG
  |val g1 cs1=>
   rw[hg]at gG;cases gG;have mi:∀BV,st.CR (.slot s j0) BV={st with slots:=st.slots.set s (.val g1 BV)}:=λBV=>by simp only[AS.CR,hg,AS.put,ft]
   obtain⟨fp,hr,hn,hl⟩:=h.slot s;rw[hg]at hr;obtain⟨vs,aiW,hr⟩:=hr;obtain⟨f1,f2,f3,rfl,BU,hle,He,Ks,Cs⟩:=core (.slot s) (st.CR (.slot s j0) (dZ WT (ka.pos (.slot s j0)-j) (aS st.ep ((WT.drop (ka.pos (.slot s j0)-j)).take cs.length)))) hr hn hl (by rw[mi]) (by rw[mi]) (λ_ q=>by rw[mi];exact q);have AW:∀b∈f2,g.ej b=some (.slot s):=λb hb=>hl b (by simp[hb]);refine⟨{g with ej:=λb=>if b∈f2 then some (.hand 0) else g.ej b},λ_=>rfl,h.step (λy=>y≠ .slot s) hle h.defers ?_ ?_ h.frame (KR f2 _ AW) (λb y hk hb=>⟨Vx f2 _ AW b y hk hb,rfl,rfl⟩) ?_ ?_ (λk u bv hk=> .inr (hh1 Cs k u bv hk)) (.inl ⟨by simp,by rw[mi]⟩)⟩;rw[mi];simpa using h.size;rw[mi];simpa using h.bsize;intro i bv hi;rw[mi]at hi;have np:(st.slots.set s (.val g1 _))[i]?=some bv:=hi;by_cases his:i=s;subst his;rw[br]at np;simp only[bN]at np;split at np;simp at np;subst np;refine .inr ⟨f1++f3,⟨vs,aiW,He⟩,Ks,λb hb=>?_⟩;show(if b∈f2 then _ else _)=_;rw[aH (BU b hb)];exact hl b (by rcases ay.1 hb with k|k<;>simp[k]);cases np;rw[aO (cO his)]at np;exact .inl ⟨by simpa using his,np,rfl⟩;intro t BV hb;rw[mi]at hb;exact .inl ⟨by simp,hb,rfl⟩
 |box s j0=>
  have jw:st.boxes[s]?=some (some WT):=by simp only[AS.Gj,dJ]at gG;cases hb:st.boxes[s]? with|none=>simp[hb]at gG|some q=>rw[hb]at gG;simp at gG;rw[gG]
  have xn:s<st.boxes.length:=(aF.1 jw).1;have mi:∀BV,st.CR (.box s j0) BV={st with boxes:=st.boxes.set s (some BV)}:=λBV=>by simp only[AS.CR,AS.eF,ft]
  obtain⟨arr,T,fr,fp,jN,qZ,hr,hn,uK,hl,Fb,Ff⟩:=h.boxes s WT jw;obtain⟨f1,f2,f3,rfl,BU,hle,He,Ks,Cs⟩:=core (.box s) (st.CR (.box s j0) (dZ WT (ka.pos (.box s j0)-j) (aS st.ep ((WT.drop (ka.pos (.box s j0)-j)).take cs.length)))) hr hn hl (by rw[mi]) (by rw[mi]) (λt ht=>by rw[mi];obtain⟨c0,W9⟩:=ht;by_cases rU:s=t;subst rU;exact⟨_,by simp[xn];rfl⟩;exact⟨c0,by rw[aO rU];exact W9⟩);have AW:∀b∈f2,g.ej b=some (.box s):=λb hb=>hl b (by simp[hb]);refine⟨{g with ej:=λb=>if b∈f2 then some (.hand 0) else g.ej b},λ_=>rfl,h.step (λy=>y≠ .box s) hle h.defers ?_ ?_ h.frame (KR f2 _ AW) (λb y hk hb=>⟨Vx f2 _ AW b y hk hb,rfl,rfl⟩) ?_ ?_ (λk u bv hk=> .inr (hh1 Cs k u bv hk)) (.inl ⟨by simp,by rw[mi]⟩)⟩;rw[mi];exact h.size;rw[mi];simpa using h.bsize;intro i bv hi;rw[mi]at hi;exact .inl ⟨by simp,hi,rfl⟩;intro t BV hb;rw[mi]at hb;have gO:(st.boxes.set s (some _))[t]?=some (some BV):=hb;by_cases rU:t=s;subst rU;rw[br]at gO;simp only[bN,xn]at gO;simp at gO;subst gO;have Hf:g.β t∉f2:=λhm=>uK (by simp[hm]);refine .inr ⟨arr,T,fr,f1++f3,jN,qZ,He,Ks,λhm=>uK (by rcases ay.1 hm with k|k<;>simp[k]),λb hb=>?_,?_,Ff⟩;show(if b∈f2 then _ else _)=_;rw[aH (BU b hb)];exact hl b (by rcases ay.1 hb with k|k<;>simp[k]);show(if g.β t∈f2 then _ else _)=_;rw[aH Hf];exact Fb;rw[aO (cO rU)]at gO;exact .inl ⟨by simpa using rU,gO,rfl⟩
 |io j0=>simp only[AS.Gj,aZ]at gG;subst gG;obtain⟨fp,hr,hn,hl⟩:=h.io;obtain⟨f1,f2,f3,rfl,BU,hle,He,Ks,Cs⟩:=core .io (st.CR (.io j0) (dZ st.io (ka.pos (.io j0)-j) (aS st.ep ((st.io.drop (ka.pos (.io j0)-j)).take cs.length)))) hr hn hl rfl rfl (λ_ q=>q);have AW:∀b∈f2,g.ej b=some .io:=λb hb=>hl b (by simp[hb]);refine⟨{g with ej:=λb=>if b∈f2 then some (.hand 0) else g.ej b},λ_=>rfl,h.step (λy=>y≠ .io) hle h.defers h.size h.bsize h.frame (KR f2 _ AW) (λb y hk hb=>⟨Vx f2 _ AW b y hk hb,rfl,rfl⟩) (λi bv hi=> .inl ⟨by simp,hi,rfl⟩) (λt BV hb=> .inl ⟨by simp,hb,rfl⟩) (λk u bv hk=> .inr (hh1 Cs k u bv hk)) (.inr ⟨f1++f3,He,Ks,λb hb=>?_⟩)⟩;show(if b∈f2 then _ else _)=_;rw[aH (BU b hb)];exact hl b (by rcases ay.1 hb with k|k<;>simp[k])
 cases hc;cases hc;cases hc;cases hc
theorem Zk {o:Oper}(ho:o.op=.assign x)(h:nq C st a w){K:AS->ax R}(hk:Nz o x st K=some r):ma P C o a w K r:=by
 have ee:(execOp a.eval o).run P w=.ok (.value (a.eval x)) w:=by simp[execOp,ho]
 obtain⟨g,hg⟩:=h;unfold Nz at hk;split at hk;rename_i v bH hc;obtain⟨g',_,nm⟩:=hg.afO hc;exact⟨_,_,_,.inl ee,dM.Bp nm o.dst,hk⟩;cases hk
theorem LM {E:Env}(hE:jc P E.ty){o:Oper}{T:TypeId}{p:Operand}(hd:o.dst=none)(ho:o.op=.store T p x)(h:nq C st a w){K:AS->ax R}(hk:vk E T p x st K=some r):ma P C o a w K r:=by obtain⟨g,hg⟩:=h;unfold vk at hk;split at hk;rename_i sh s off hT hp;have th:=hg.rd p;rw[hp]at th;have th:=zy th;split at hk;rename_i gg vs bH hc;obtain⟨g',Hf,nm⟩:=hg.afO hc;split at hk;rename_i cs jw;split at hk;rename_i hlen;split at hk;rename_i gx;exact El hE hd ho hT (by rw[Hf];exact th) nm jw hlen.1 hlen.2 gx hk;cases hk;cases hk;cases hk;cases hk;cases hk
structure Sound (P:Program) (E:Env) (Γ:xU):Prop where
 ty:jc P E.ty
 eqs:QB P E.eqs
 fts:WI P E.fts
 fns:∀f,gE P f (Γ f)
 mixed:P.follows .mixedOrders=true
theorem ma.wp {o:Oper}{K:AS->ax R}(h:ma P C o a w K r)(next:Act->World->Prop)(Q:Exit->Act->World->Prop)(gy:∀bH a' w',nq C bH a' w'->K bH=some r->next a' w'):o.wp P a w next Q:=by obtain⟨v,w',bH,ee,hs,hk⟩:=h;unfold Oper.wp;rcases ee with ee|⟨rfl,ee⟩;rw[ee];exact gy _ _ _ hs hk;rw[ee];exact gy _ _ _ hs hk
theorem XJ {E:Env}(hS:Sound P E Γ){o:Oper}(h:nq C st a w){K:AS->ax R}(hk:cY E Γ an o st K=some r)(next:Act->World->Prop)(Q:Exit->Act->World->Prop)(gy:∀bH a' w',nq C bH a' w'->K bH=some r->next a' w'):o.wp P a w next Q:=by
 unfold cY at hk;split at hk;·rename_i x ho;exact(ZA ho h hk).wp next Q gy
 ·rename_i x ho;split at hk;·exact(Zk ho h hk).wp next Q gy
  ·exact(QJ ho h hk).wp next Q gy
 ·rename_i c x y ho;exact(ZW ho h hk).wp next Q gy
 ·rename_i T ho;exact(TO hS.ty ho h hk).wp next Q gy
 ·rename_i T x ho;exact(aa2 ho h hk).wp next Q gy
 ·rename_i T p ho;exact(Zo hS.ty ho h hk).wp next Q gy
 ·rename_i T p x ho;split at hk
  ·rename_i hd;split at hk;·exact(LM hS.ty hd ho h hk).wp next Q gy
   ·exact(Wt hS.ty hd ho h hk).wp next Q gy
  cases hk
 ·rename_i x ho;split at hk;·rename_i s off hx;exact(My ho h hx hk).wp next Q gy
  ·rename_i fl e y i off hx;exact(HA ho h hx hk).wp next Q gy
  cases hk
 ·rename_i op T x y T' ho;exact(aaZ hS.ty hS.eqs ho h hk).wp next Q gy
 ·rename_i op T x ho;exact(afC ho h hk).wp next Q gy
 ·rename_i S p f ho;exact(UM hS.ty ho h hk).wp next Q gy
 ·rename_i T x i ho;exact(KM hS.ty ho h hk).wp next Q gy
 ·rename_i T x i ho;exact(Vp hS.ty ho h hk).wp next Q gy
 ·rename_i T parts ho;exact(T0 hS.ty ho h hk).wp next Q gy
 ·rename_i T len parts ho;exact(I3 hS.ty ho h hk).wp next Q gy
 ·rename_i T n c ho;exact(KW hS.ty ho h hk).wp next Q gy
 ·rename_i T x lo hi ho;exact(Wd hS.ty ho h hk).wp next Q gy
 ·rename_i S t f ho;exact(Q5 hS.ty hS.fts ho h hk).wp next Q gy
 ·rename_i args ts ho;exact(X7 hS.ty ho h hk).wp next Q gy
 ·rename_i src dst x ho;exact(Oz hS.ty ho h hk).wp next Q gy
 ·rename_i t i ho;exact(O0 ho h hk).wp next Q gy
 ·rename_i args ts ho;exact(acM hS.ty ho h hk).wp next Q gy
 ·rename_i args ts ho;exact(acU ho h hk).wp next Q gy
 ·rename_i args ts ho;exact(acT ho h hk).wp next Q gy
 ·rename_i args ts ho;exact(QF hS.ty ho h hk).wp next Q gy
 ·rename_i f args ts ho;exact aes hS.fns ho h hk next Q gy
 cases hk
theorem nq.forget (h:nq C st a w)(d:ax Nat):nq C (st.put d (.one .un)) (a.put d undef) w:=h.put d (λ_ _=>lT ⟨rfl,rfl⟩)
theorem nq.known (h:nq C st a w){b:Bool}(hg:st.get d=.val false [.bool b]):a.tmps.getD d undef=.bool b:=by obtain⟨g,nm⟩:=h;obtain⟨fp,hr,_⟩:=nm.slot d;rw[hg]at hr;exact tZ hr
theorem PU:a.put (some d) (a.tmps.getD d undef)=a:=by cases a with|mk tmps defers=>simp only[Act.put];congr 1;apply Array.ext_getElem?;intro i;rw[Array.getElem?_setIfInBounds];by_cases h:d=i;subst h;by_cases hs:d<tmps.size;simp[hs,Array.getD];simp[hs];simp[h]
theorem nq.refine(h:nq C st a w){b:Bool}(hg:st.get d=.val false [.bool b]):nq C (st.put (some d) (.one (.bool b))) a w:=by have hk:=h.known hg;have:=h.put (some d) (v:=.bool b) (av:=.one (.bool b)) (λ_ _=>lT ⟨rfl,rfl⟩);rw[<-hk,PU]at this;exact this
theorem Rr {E:Env}(hS:Sound P E Γ){ops:Array Oper}{o:Oper}(h:nq C st a w){K:AS->ax R}(hk:gb E Γ an ops.toList o st K=some r)(next:Act->World->Prop)(Q:Exit->Act->World->Prop)(gy:∀bH a' w',nq C bH a' w'->K bH=some r->next a' w'): if Region.wanted o (yielded ops a.tmps) then o.wp P a w next Q\/(o.asks P a w/\LetsOut Q) else next (a.put o.dst undef) w:=by
 unfold gb at hk;split at hk;·rename_i hgd;rw[aE (by simp[Region.wanted,hgd])];exact .inl (XJ hS h hk next Q gy)
 ·rename_i j E6 hgd;split at hk
  ·rename_i d Yt;have af1:(ops[j]?).bind (·.dst)=some d:=by rw[dJ]at Yt;simpa using Yt
   split at hk
   ·rename_i b hb;have hkn:=h.known hb;have hdl:d<a.tmps.size:=by rcases cc d a.tmps.size with gS|yP;exact gS;simp[Array.getD,Nat.not_lt.2 yP,undef]at hkn
    have hy:yielded ops a.tmps j=some b:=by
     unfold yielded;rw[af1];have:a.tmps[d]?=some (.bool b):=by rw[Array.getElem?_eq_getElem hdl];simp[Array.getD,hdl]at hkn;rw[hkn]
     simp[this]
    have hr:=h.refine hb
    have main:∀t,b=t->(if t==E6 then cY E Γ an o (st.put (some d) (.one (.bool t))) K else K ((st.put (some d) (.one (.bool t))).put o.dst (.one .un)))=some r->
     if Region.wanted o (yielded ops a.tmps) then o.wp P a w next Q\/(o.asks P a w/\LetsOut Q) else next (a.put o.dst undef) w:=by
     rintro t rfl hk
     have hw:Region.wanted o (yielded ops a.tmps)=(b==E6):=by simp only[Region.wanted,hgd,hy];cases b<;>cases E6<;>rfl
     rw[hw]
     cases hbw:(b==E6)with
     |true=>
      rw[hbw]at hk
      simp only[bN]at hk⊢
      exact .inl (XJ hS hr hk next Q gy)
     |false=>
      rw[hbw]at hk
      simp only[aW,bU]at hk⊢
      exact gy _ _ _ (hr.forget o.dst) hk
    cases b with|true=>exact main true rfl hk|false=>exact main false rfl hk
   rename_i hb;obtain⟨g,hg⟩:=id h;obtain⟨fp,hr,_⟩:=hg.slot d;rw[hb]at hr;have hun:=(ew hr).1;have hy:yielded ops a.tmps j=none:=by
    unfold yielded;rw[af1];simp only[eo];rcases cc d a.tmps.size with gS|yP;have:a.tmps[d]?=some undef:=by rw[Array.getElem?_eq_getElem gS];simp[Array.getD,gS]at hun;rw[hun]
    rw[this];rfl;rw[Array.getElem?_eq_none yP]
   have hw:Region.wanted o (yielded ops a.tmps)=false:=by simp only[Region.wanted,hgd,hy];cases E6<;>rfl
   rw[hw];exact gy _ _ _ (h.forget o.dst) hk;cases hk
  cases hk
theorem ac3 {E:Env}(hS:Sound P E Γ){ops:Array Oper}{Q:Exit->Act->World->Prop}{K:AS->ax R}
 (hq:∀bH a' w',nq C bH a' w'->K bH=some r->Q .normal a' w'):∀(n i:Nat)(st:AS)(a:Act)(w:World),i+n=ops.size->nq C st a w->PM E Γ an ops.toList (ops.toList.drop i) st K=some r->
  wpOps P ops Q ((List.range' i n)) a w
 |0,i,st,a,w,hi,h,hk=>by rw[cK (by simp;omega)]at hk;exact hq st a w h hk
 |n+1,i,st,a,w,hi,h,hk=>by
  have Mj:i<ops.toList.length:=by simp;omega
  rw[bJ Mj]at hk;have ho:ops[i]?=some ops.toList[i]:=by rw[<-cj];exact al Mj
  rw[List.range'_succ,wpOps,ho];simp only;have:=Rr hS (ops:=ops) h hk (wpOps P ops Q (List.range' (i+1) n)) Q (λbH a' w' hs Cv=>ac3 hS hq n (i+1) bH a' w' (by omega) hs Cv);exact this
end Go.Dn
