import Derived.Test.YtnmppgnbjfdffaaGreatDnCall
/- The soundness of the abstract semantics: operations, regions, loops, functions. -/
namespace Go.Dn
open Go.RowKit
variable {P:Program} {C:Ctx} {st:AS} {a:Act} {w:World} {R:Type} {r:R}
variable {an:An} {Γ:xT} {d:Nat} {x:Operand}
theorem aac:∀(os ss:aw AC){r:aw AC},mY os ss=some r->r.all AC.aeV=true/\r.map AC.strip=r:=by
 intro os;induction os with
 |nil=>intro ss r h;cases ss with|nil=>simp[mY]at h;subst h;exact⟨rfl,rfl⟩|cons _ _=>simp[mY]at h
 |cons o os ih=>
  intro ss r h;cases ss with
  |nil=>unfold mY at h;split at h<;>first|contradiction|cases h
  |cons s ss=>
   unfold mY at h;split at h;contradiction;rename_i h1 h2;injection h1 with h1 L5;subst L5;injection h2 with h2 Qw;subst Qw;rw[Bool.cond_eq_ite]at h;split at h;obtain⟨r',hr,h⟩:=aL.1 h;cases h;obtain⟨k1,k2⟩:=ih _ hr;exact⟨by simp[AC.aeV,k1],by simp[AC.strip,k2]⟩;cases h
   all_goals first
    |cases h
    |(rename_i h1 h2
      injection h1 with h1 L5;subst L5
      injection h2 with h2 Qw;subst Qw
      obtain⟨r',hr,h⟩:=aL.1 h
      cases h
      obtain⟨k1,k2⟩:=ih _ hr
      exact⟨by simp[AC.aeV,AC.je,k1],by simp[AC.strip,k2]⟩)
theorem Xi:∀{cs:aw AC},cs.all AC.aeV=true->∀{c:RC}{A:Rg}{hw:Nat->Nat}{w:World}{vs:iq}{fp:fw},bB (fH A hw w) vs cs fp->c.w=w->c.hw=hw->bB c vs (cs.map AC.strip) fp
 |[],_,c,A,hw,w,vs,fp,h,_,_=>by cases vs with|nil=>exact h|cons _ _=>exact h.elim
 |x::cs,nn,c,A,hw,w,vs,fp,h,Qx,DP=>by
  cases vs with
  |nil=>exact h.elim
  |cons v vs=>
   obtain⟨f1,f2,rfl,h1,h2⟩:=h;simp only[cb,ae]at nn;refine⟨f1,f2,rfl,?_,Xi nn.2 h2 Qx DP⟩;cases x with
   |sl fl e xs=>cases fl with|own t=>exact⟨by rw[Qx,DP];exact h1.1,by simp⟩|arg _=>cases nn.1|loc _ _=>cases nn.1|nest _ _ _ _ _ _=>cases nn.1|part _ _ _ _=>cases nn.1|fg _ _ _=>cases nn.1
   |int k n=>exact h1
   |bool b=>exact h1
   |str s=>exact h1
   |fn f=>exact h1
   |jm=>cases nn.1
   |ptr s off=>cases nn.1
   |zM fl e y i off=>cases nn.1
   |un=>cases nn.1
   |bot=>cases nn.1
theorem dM.afL {g:Gh}(h:dM C g st a w []){v:AV}{bH:AS}(hc:OA st x=some (v,bH)):∃g',(∀s,g'.β s=g.β s)/\dM C g' bH a w [(a.eval x,v)]:=by
 unfold OA at hc;have Ky:=h.rd x;split at hc;rename_i gg cs hx;rw[hx]at Ky;obtain⟨vs0,fi,Nm⟩:=Ky;split at hc;rename_i rt j Pf;split at hc;rename_i WO gE;split at hc;rename_i pH acg;cases hc;have ag7:=MD _ _ acg;have Mm:=aac _ _ acg
 have core:∀(o:jy)(Wk:AS){vs:iq}{fp:fw},bB (cH C g st w) vs WO fp->fp.Nodup->(∀b∈fp,g.ej b=some o)->Wk.ep=st.ep->Wk.iss=st.iss->(∀s,iS st s->iS Wk s)->
  ∃f1 f2 f3,fp=f1++f2++f3/\(∀b∈f1++f3,b∉f2)/\
   (cH C g st w).Le (cH C {g with ej:=λb=>if b∈f2 then some (.hand 0) else g.ej b} Wk w)/\
   bB (cH C {g with ej:=λb=>if b∈f2 then some (.hand 0) else g.ej b} Wk w) vs (dZ WO (rt.pos-j) (aR st.ep ((WO.drop (rt.pos-j)).take cs.length))) (f1++f3)/\(f1++f3).Nodup/\
   GU C {g with ej:=λb=>if b∈f2 then some (.hand 0) else g.ej b} Wk w 0 (a.eval x) (.val gg pH):=by
  intro o Wk vs fp hr hn hl wN I7 tz
  obtain⟨f1,f2,f3,rfl,r1,r2,r3⟩:=hr.mid (rt.pos-j) cs.length
  have BP:=hn
  rw[aQ]at BP
  have n1:=aI.1 BP
  have n2:=aI.1 n1.2.1
  have hle:(cH C g st w).Le (cH C {g with ej:=λb=>if b∈f2 then some (.hand 0) else g.ej b} Wk w):=
   ⟨rfl,λt ht=>⟨by show md Wk t;have TL:md st t:=ht;simpa[md,I7]using TL,rfl⟩,λ_ _ _ _ _ hu=>hu,by show st.ep<=Wk.ep;omega,λs hs=>⟨tz s hs,rfl⟩,λ_ b o u ho hu=>⟨ho,hu⟩⟩
  refine⟨f1,f2,f3,rfl,?_,hle,?_,?_,?_⟩
  ·intro b hb h2
   rcases ay.1 hb with hb|hb
   ·exact n1.2.2 b hb b (bt _ h2) rfl
   ·exact n2.2.2 b h2 b hb rfl
  ·have Hf:=Wj (c':=cH C {g with ej:=λb=>if b∈f2 then some (.hand 0) else g.ej b} Wk w) (seg:=aR st.ep ((WO.drop (rt.pos-j)).take cs.length)) rfl (by rw[r2.length];exact ag7)
    (r1.mono hle (λb _=>⟨rfl,rfl⟩)) ((r2.aR).mono hle (by simp)) (r3.mono hle (λb _=>⟨rfl,rfl⟩))
   rw[bV]at Hf
   exact Hf
  ·refine aI.2 ⟨n1.1,n2.2.1,?_⟩
   rintro b hb c hc rfl
   exact n1.2.2 b hb b (bj _ hc) rfl
  ·have am7:=V6 (A:=λ_ _ _=>False) _ _ acg Nm r2
   have sJ:=Xi Mm.1 (c:=cH C g st w) am7 rfl rfl
   rw[Mm.2]at sJ
   refine⟨f2,⟨vs0,fi,sJ.mono hle (λb _=>⟨rfl,rfl⟩)⟩,n2.1,λb hb=>?_⟩
   show(if b∈f2 then _ else _)=_
   rw[aE hb]
 have KS:∀(f2:fw)(o:jy),(∀b∈f2,g.ej b=some o)->∀b y,(if b∈f2 then some (jy.hand 0) else g.ej b)=some y->b<w.heap.size/\(C.w0.heap.size<=b\/C.M b):=by intro f2 o hf b y hy;by_cases hm:b∈f2;exact h.fS b _ (hf b hm);rw[aH hm]at hy;exact h.fS b y hy
 have Vt:∀(f2:fw)(o:jy),(∀b∈f2,g.ej b=some o)->∀b y,y≠o->g.ej b=some y->(if b∈f2 then some (jy.hand 0) else g.ej b)=some y:=by intro f2 o hf b y hyo hb;rw[aH (λhm=>hyo (by have:=hf b hm;rw[hb]at this;simpa using this))];exact hb
 have hh1:∀{g2:Gh}{Wk:AS},GU C g2 Wk w 0 (a.eval x) (.val gg pH)->∀k u bv,[(a.eval x,AV.val gg pH)][k]?=some (u,bv)->GU C g2 Wk w k u bv:=by
  intro g2 Wk hh k u bv hk;cases k with
  |zero=>simp only[cr,aZ,Prod.mk.injEq]at hk;obtain⟨rfl,rfl⟩:=hk;exact hh
  |succ k=>simp at hk
 cases rt with
 |slot s j0=>
  simp only[AS.Gi]at gE;cases hg:st.get s with
  |uF ts=>rw[hg]at gE;cases gE
  |val g1 cs1=>
   rw[hg]at gE;cases gE;have mi:∀BV,st.CQ (.slot s j0) BV={st with slots:=st.slots.set s (.val g1 BV)}:=λBV=>by simp only[AS.CQ,hg,AS.put,ft]
   obtain⟨fp,hr,hn,hl⟩:=h.slot s;rw[hg]at hr;obtain⟨vs,aiT,hr⟩:=hr;obtain⟨f1,f2,f3,rfl,BU,hle,Hf,Kt,Cs⟩:=core (.slot s) (st.CQ (.slot s j0) (dZ WO (ka.pos (.slot s j0)-j) (aR st.ep ((WO.drop (ka.pos (.slot s j0)-j)).take cs.length)))) hr hn hl (by rw[mi]) (by rw[mi]) (λ_ q=>by rw[mi];exact q);have AW:∀b∈f2,g.ej b=some (.slot s):=λb hb=>hl b (by simp[hb]);refine⟨{g with ej:=λb=>if b∈f2 then some (.hand 0) else g.ej b},λ_=>rfl,h.step (λy=>y≠ .slot s) hle h.defers ?_ ?_ h.frame (KS f2 _ AW) (λb y hk hb=>⟨Vt f2 _ AW b y hk hb,rfl,rfl⟩) ?_ ?_ (λk u bv hk=> .inr (hh1 Cs k u bv hk)) (.inl ⟨by simp,by rw[mi]⟩)⟩;rw[mi];simpa using h.size;rw[mi];simpa using h.bsize;intro i bv hi;rw[mi]at hi;have nu:(st.slots.set s (.val g1 _))[i]?=some bv:=hi;by_cases his:i=s;subst his;rw[br]at nu;simp only[bN]at nu;split at nu;simp at nu;subst nu;refine .inr ⟨f1++f3,⟨vs,aiT,Hf⟩,Kt,λb hb=>?_⟩;show(if b∈f2 then _ else _)=_;rw[aH (BU b hb)];exact hl b (by rcases ay.1 hb with k|k<;>simp[k]);cases nu;rw[aO (cO his)]at nu;exact .inl ⟨by simpa using his,nu,rfl⟩;intro t BV hb;rw[mi]at hb;exact .inl ⟨by simp,hb,rfl⟩
 |box s j0=>
  have ju:st.boxes[s]?=some (some WO):=by simp only[AS.Gi,dJ]at gE;cases hb:st.boxes[s]? with|none=>simp[hb]at gE|some q=>rw[hb]at gE;simp at gE;rw[gE]
  have xm:s<st.boxes.length:=(aF.1 ju).1;have mi:∀BV,st.CQ (.box s j0) BV={st with boxes:=st.boxes.set s (some BV)}:=λBV=>by simp only[AS.CQ,AS.eF,ft]
  obtain⟨arr,T,fr,fp,jL,qZ,hr,hn,uJ,hl,Fa,Fe⟩:=h.boxes s WO ju;obtain⟨f1,f2,f3,rfl,BU,hle,Hf,Kt,Cs⟩:=core (.box s) (st.CQ (.box s j0) (dZ WO (ka.pos (.box s j0)-j) (aR st.ep ((WO.drop (ka.pos (.box s j0)-j)).take cs.length)))) hr hn hl (by rw[mi]) (by rw[mi]) (λt ht=>by rw[mi];obtain⟨c0,W6⟩:=ht;by_cases rU:s=t;subst rU;exact⟨_,by simp[xm];rfl⟩;exact⟨c0,by rw[aO rU];exact W6⟩);have AW:∀b∈f2,g.ej b=some (.box s):=λb hb=>hl b (by simp[hb]);refine⟨{g with ej:=λb=>if b∈f2 then some (.hand 0) else g.ej b},λ_=>rfl,h.step (λy=>y≠ .box s) hle h.defers ?_ ?_ h.frame (KS f2 _ AW) (λb y hk hb=>⟨Vt f2 _ AW b y hk hb,rfl,rfl⟩) ?_ ?_ (λk u bv hk=> .inr (hh1 Cs k u bv hk)) (.inl ⟨by simp,by rw[mi]⟩)⟩;rw[mi];exact h.size;rw[mi];simpa using h.bsize;intro i bv hi;rw[mi]at hi;exact .inl ⟨by simp,hi,rfl⟩;intro t BV hb;rw[mi]at hb;have gM:(st.boxes.set s (some _))[t]?=some (some BV):=hb;by_cases rU:t=s;subst rU;rw[br]at gM;simp only[bN,xm]at gM;simp at gM;subst gM;have Hg:g.β t∉f2:=λhm=>uJ (by simp[hm]);refine .inr ⟨arr,T,fr,f1++f3,jL,qZ,Hf,Kt,λhm=>uJ (by rcases ay.1 hm with k|k<;>simp[k]),λb hb=>?_,?_,Fe⟩;show(if b∈f2 then _ else _)=_;rw[aH (BU b hb)];exact hl b (by rcases ay.1 hb with k|k<;>simp[k]);show(if g.β t∈f2 then _ else _)=_;rw[aH Hg];exact Fa;rw[aO (cO rU)]at gM;exact .inl ⟨by simpa using rU,gM,rfl⟩
 |io j0=>simp only[AS.Gi,aZ]at gE;subst gE;obtain⟨fp,hr,hn,hl⟩:=h.io;obtain⟨f1,f2,f3,rfl,BU,hle,Hf,Kt,Cs⟩:=core .io (st.CQ (.io j0) (dZ st.io (ka.pos (.io j0)-j) (aR st.ep ((st.io.drop (ka.pos (.io j0)-j)).take cs.length)))) hr hn hl rfl rfl (λ_ q=>q);have AW:∀b∈f2,g.ej b=some .io:=λb hb=>hl b (by simp[hb]);refine⟨{g with ej:=λb=>if b∈f2 then some (.hand 0) else g.ej b},λ_=>rfl,h.step (λy=>y≠ .io) hle h.defers h.size h.bsize h.frame (KS f2 _ AW) (λb y hk hb=>⟨Vt f2 _ AW b y hk hb,rfl,rfl⟩) (λi bv hi=> .inl ⟨by simp,hi,rfl⟩) (λt BV hb=> .inl ⟨by simp,hb,rfl⟩) (λk u bv hk=> .inr (hh1 Cs k u bv hk)) (.inr ⟨f1++f3,Hf,Kt,λb hb=>?_⟩)⟩;show(if b∈f2 then _ else _)=_;rw[aH (BU b hb)];exact hl b (by rcases ay.1 hb with k|k<;>simp[k])
 cases hc;cases hc;cases hc;cases hc
theorem Zh {o:Oper}(ho:o.op=.assign x)(h:np C st a w){K:AS->ax R}(hk:NB o x st K=some r):ma P C o a w K r:=by
 have ee:(execOp a.eval o).run P w=.ok (.value (a.eval x)) w:=by simp[execOp,ho]
 obtain⟨g,hg⟩:=h;unfold NB at hk;split at hk;rename_i v bH hc;obtain⟨g',_,nm⟩:=hg.afL hc;exact⟨_,_,_,.inl ee,dM.Bp nm o.dst,hk⟩;cases hk
theorem LN {E:Env}(hE:ja P E.ty){o:Oper}{T:TypeId}{p:Operand}(hd:o.dst=none)(ho:o.op=.store T p x)(h:np C st a w){K:AS->ax R}(hk:vj E T p x st K=some r):ma P C o a w K r:=by obtain⟨g,hg⟩:=h;unfold vj at hk;split at hk;rename_i sh s off hT hp;have th:=hg.rd p;rw[hp]at th;have th:=zy th;split at hk;rename_i gg vs bH hc;obtain⟨g',Hg,nm⟩:=hg.afL hc;split at hk;rename_i cs ju;split at hk;rename_i hlen;split at hk;rename_i gw;exact Ek hE hd ho hT (by rw[Hg];exact th) nm ju hlen.1 hlen.2 gw hk;cases hk;cases hk;cases hk;cases hk;cases hk
structure Sound (P:Program) (E:Env) (Γ:xT):Prop where
 ty:ja P E.ty
 eqs:QC P E.eqs
 fts:WD P E.fts
 fns:∀f,gC P f (Γ f)
 mixed:P.follows .mixedOrders=true
theorem ma.wp {o:Oper}{K:AS->ax R}(h:ma P C o a w K r)(next:Act->World->Prop)(Q:Exit->Act->World->Prop)(gx:∀bH a' w',np C bH a' w'->K bH=some r->next a' w'):o.wp P a w next Q:=by obtain⟨v,w',bH,ee,hs,hk⟩:=h;unfold Oper.wp;rcases ee with ee|⟨rfl,ee⟩;rw[ee];exact gx _ _ _ hs hk;rw[ee];exact gx _ _ _ hs hk
theorem XG {E:Env}(hS:Sound P E Γ){o:Oper}(h:np C st a w){K:AS->ax R}(hk:cY E Γ an o st K=some r)(next:Act->World->Prop)(Q:Exit->Act->World->Prop)(gx:∀bH a' w',np C bH a' w'->K bH=some r->next a' w'):o.wp P a w next Q:=by
 unfold cY at hk;split at hk;·rename_i x ho;exact(Zx ho h hk).wp next Q gx
 ·rename_i x ho;split at hk;·exact(Zh ho h hk).wp next Q gx
  ·exact(QK ho h hk).wp next Q gx
 ·rename_i c x y ho;exact(ZT ho h hk).wp next Q gx
 ·rename_i T ho;exact(TQ hS.ty ho h hk).wp next Q gx
 ·rename_i T x ho;exact(aaZ ho h hk).wp next Q gx
 ·rename_i T p ho;exact(Zl hS.ty ho h hk).wp next Q gx
 ·rename_i T p x ho;split at hk
  ·rename_i hd;split at hk;·exact(LN hS.ty hd ho h hk).wp next Q gx
   ·exact(Wp hS.ty hd ho h hk).wp next Q gx
  cases hk
 ·rename_i x ho;split at hk;·rename_i s off hx;exact(MA ho h hx hk).wp next Q gx
  ·rename_i fl e y i off hx;exact(HB ho h hx hk).wp next Q gx
  cases hk
 ·rename_i op T x y T' ho;exact(aaW hS.ty hS.eqs ho h hk).wp next Q gx
 ·rename_i op T x ho;exact(afz ho h hk).wp next Q gx
 ·rename_i S p f ho;exact(UI hS.ty ho h hk).wp next Q gx
 ·rename_i T x i ho;exact(KN hS.ty ho h hk).wp next Q gx
 ·rename_i T x i ho;exact(Vk hS.ty ho h hk).wp next Q gx
 ·rename_i T parts ho;exact(T3 hS.ty ho h hk).wp next Q gx
 ·rename_i T len parts ho;exact(I5 hS.ty ho h hk).wp next Q gx
 ·rename_i T n c ho;exact(KX hS.ty ho h hk).wp next Q gx
 ·rename_i T x lo hi ho;exact(V9 hS.ty ho h hk).wp next Q gx
 ·rename_i S t f ho;exact(Q7 hS.ty hS.fts ho h hk).wp next Q gx
 ·rename_i args ts ho;exact(X4 hS.ty ho h hk).wp next Q gx
 ·rename_i src dst x ho;exact(OB hS.ty ho h hk).wp next Q gx
 ·rename_i t i ho;exact(O1 ho h hk).wp next Q gx
 ·rename_i args ts ho;exact(acL hS.ty ho h hk).wp next Q gx
 ·rename_i args ts ho;exact(acT ho h hk).wp next Q gx
 ·rename_i args ts ho;exact(acS ho h hk).wp next Q gx
 ·rename_i args ts ho;exact(QG hS.ty ho h hk).wp next Q gx
 ·rename_i f args ts ho;exact aeo hS.fns ho h hk next Q gx
 cases hk
theorem np.forget (h:np C st a w)(d:ax Nat):np C (st.put d (.one .un)) (a.put d undef) w:=h.put d (λ_ _=>lT ⟨rfl,rfl⟩)
theorem np.known (h:np C st a w){b:Bool}(hg:st.get d=.val false [.bool b]):a.tmps.getD d undef=.bool b:=by obtain⟨g,nm⟩:=h;obtain⟨fp,hr,_⟩:=nm.slot d;rw[hg]at hr;exact tY hr
theorem PV:a.put (some d) (a.tmps.getD d undef)=a:=by cases a with|mk tmps defers=>simp only[Act.put];congr 1;apply Array.ext_getElem?;intro i;rw[Array.getElem?_setIfInBounds];by_cases h:d=i;subst h;by_cases hs:d<tmps.size;simp[hs,Array.getD];simp[hs];simp[h]
theorem np.refine(h:np C st a w){b:Bool}(hg:st.get d=.val false [.bool b]):np C (st.put (some d) (.one (.bool b))) a w:=by have hk:=h.known hg;have:=h.put (some d) (v:=.bool b) (av:=.one (.bool b)) (λ_ _=>lT ⟨rfl,rfl⟩);rw[<-hk,PV]at this;exact this
theorem Rt {E:Env}(hS:Sound P E Γ){ops:Array Oper}{o:Oper}(h:np C st a w){K:AS->ax R}(hk:gb E Γ an ops.toList o st K=some r)(next:Act->World->Prop)(Q:Exit->Act->World->Prop)(gx:∀bH a' w',np C bH a' w'->K bH=some r->next a' w'): if Region.wanted o (yielded ops a.tmps) then o.wp P a w next Q\/(o.asks P a w/\LetsOut Q) else next (a.put o.dst undef) w:=by
 unfold gb at hk;split at hk;·rename_i hgd;rw[aE (by simp[Region.wanted,hgd])];exact .inl (XG hS h hk next Q gx)
 ·rename_i j E5 hgd;split at hk
  ·rename_i d Yq;have af1:(ops[j]?).bind (·.dst)=some d:=by rw[dJ]at Yq;simpa using Yq
   split at hk
   ·rename_i b hb;have hkn:=h.known hb;have hdl:d<a.tmps.size:=by rcases cc d a.tmps.size with gQ|yP;exact gQ;simp[Array.getD,Nat.not_lt.2 yP,undef]at hkn
    have hy:yielded ops a.tmps j=some b:=by
     unfold yielded;rw[af1];have:a.tmps[d]?=some (.bool b):=by rw[Array.getElem?_eq_getElem hdl];simp[Array.getD,hdl]at hkn;rw[hkn]
     simp[this]
    have hr:=h.refine hb
    have main:∀t,b=t->(if t==E5 then cY E Γ an o (st.put (some d) (.one (.bool t))) K else K ((st.put (some d) (.one (.bool t))).put o.dst (.one .un)))=some r->
     if Region.wanted o (yielded ops a.tmps) then o.wp P a w next Q\/(o.asks P a w/\LetsOut Q) else next (a.put o.dst undef) w:=by
     rintro t rfl hk
     have hw:Region.wanted o (yielded ops a.tmps)=(b==E5):=by simp only[Region.wanted,hgd,hy];cases b<;>cases E5<;>rfl
     rw[hw]
     cases hbw:(b==E5)with
     |true=>
      rw[hbw]at hk
      simp only[bN]at hk⊢
      exact .inl (XG hS hr hk next Q gx)
     |false=>
      rw[hbw]at hk
      simp only[aW,bU]at hk⊢
      exact gx _ _ _ (hr.forget o.dst) hk
    cases b with|true=>exact main true rfl hk|false=>exact main false rfl hk
   rename_i hb;obtain⟨g,hg⟩:=id h;obtain⟨fp,hr,_⟩:=hg.slot d;rw[hb]at hr;have hun:=(ew hr).1;have hy:yielded ops a.tmps j=none:=by
    unfold yielded;rw[af1];simp only[eo];rcases cc d a.tmps.size with gQ|yP;have:a.tmps[d]?=some undef:=by rw[Array.getElem?_eq_getElem gQ];simp[Array.getD,gQ]at hun;rw[hun]
    rw[this];rfl;rw[Array.getElem?_eq_none yP]
   have hw:Region.wanted o (yielded ops a.tmps)=false:=by simp only[Region.wanted,hgd,hy];cases E5<;>rfl
   rw[hw];exact gx _ _ _ (h.forget o.dst) hk;cases hk
  cases hk
theorem ac2 {E:Env}(hS:Sound P E Γ){ops:Array Oper}{Q:Exit->Act->World->Prop}{K:AS->ax R}
 (hq:∀bH a' w',np C bH a' w'->K bH=some r->Q .normal a' w'):∀(n i:Nat)(st:AS)(a:Act)(w:World),i+n=ops.size->np C st a w->PN E Γ an ops.toList (ops.toList.drop i) st K=some r->
  wpOps P ops Q ((List.range' i n)) a w
 |0,i,st,a,w,hi,h,hk=>by rw[cK (by simp;omega)]at hk;exact hq st a w h hk
 |n+1,i,st,a,w,hi,h,hk=>by
  have Ml:i<ops.toList.length:=by simp;omega
  rw[bJ Ml]at hk;have ho:ops[i]?=some ops.toList[i]:=by rw[<-cj];exact al Ml
  rw[List.range'_succ,wpOps,ho];simp only;have:=Rt hS (ops:=ops) h hk (wpOps P ops Q (List.range' (i+1) n)) Q (λbH a' w' hs Cv=>ac2 hS hq n (i+1) bH a' w' (by omega) hs Cv);exact this
end Go.Dn
