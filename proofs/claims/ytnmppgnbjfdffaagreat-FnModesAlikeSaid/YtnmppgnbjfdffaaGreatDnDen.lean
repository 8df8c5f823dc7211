import Derived.Test.YtnmppgnbjfdffaaGreatDnCall
/- The soundness of the abstract semantics: operations, regions, loops, functions. -/
namespace Go.Dn
open Go.RowKit
variable {P:Program} {C:Ctx} {st:AS} {a:Act} {w:World} {R:Type} {r:R}
variable {an:An} {Γ:zP} {d:Nat} {x:Operand}
theorem acp:∀(os ss:ay AC){r:ay AC},oh os ss=some r->r.all AC.ag6=true/\r.map AC.strip=r:=by
 intro os;induction os with
 |nil=>intro ss r h;cases ss with|nil=>simp[oh]at h;subst h;exact⟨rfl,rfl⟩|cons _ _=>simp[oh]at h
 |cons o os ih=>
  intro ss r h;cases ss with
  |nil=>unfold oh at h;split at h<;>first|contradiction|cases h
  |cons s ss=>
   unfold oh at h;split at h;contradiction;rename_i h1 h2;injection h1 with h1 N9;subst N9;injection h2 with h2 SN;subst SN;rw[Bool.cond_eq_ite]at h;split at h;obtain⟨r',hr,h⟩:=aW.1 h;cases h;obtain⟨k1,k2⟩:=ih _ hr;exact⟨by simp[AC.ag6,k1],by simp[AC.strip,k2]⟩;cases h
   all_goals first
    |cases h
    |(rename_i h1 h2
      injection h1 with h1 N9;subst N9
      injection h2 with h2 SN;subst SN
      obtain⟨r',hr,h⟩:=aW.1 h
      cases h
      obtain⟨k1,k2⟩:=ih _ hr
      exact⟨by simp[AC.ag6,AC.kc,k1],by simp[AC.strip,k2]⟩)
theorem ZH:∀{cs:ay AC},cs.all AC.ag6=true->∀{c:RC}{A:Rg}{hw:Nat->Nat}{w:World}{vs:jz}{fp:fR},bR (gC A hw w) vs cs fp->c.w=w->c.hw=hw->bR c vs (cs.map AC.strip) fp
 |[],_,c,A,hw,w,vs,fp,h,_,_=>by cases vs with|nil=>exact h|cons _ _=>exact h.elim
 |x::cs,oC,c,A,hw,w,vs,fp,h,SP,FC=>by
  cases vs with
  |nil=>exact h.elim
  |cons v vs=>
   obtain⟨f1,f2,rfl,h1,h2⟩:=h;simp only[cv,ab]at oC;refine⟨f1,f2,rfl,?_,ZH oC.2 h2 SP FC⟩;cases x with
   |sl fl e xs=>cases fl with|own t=>exact⟨by rw[SP,FC];exact h1.1,by simp⟩|arg _=>cases oC.1|loc _ _=>cases oC.1|nest _ _ _ _ _ _=>cases oC.1|part _ _ _ _=>cases oC.1|gj _ _ _=>cases oC.1
   |int k n=>exact h1
   |bool b=>exact h1
   |str s=>exact h1
   |fn f=>exact h1
   |kx=>cases oC.1
   |ptr s off=>cases oC.1
   |BA fl e y i off=>cases oC.1
   |un=>cases oC.1
   |bot=>cases oC.1
theorem eK.ah3 {g:Gh}(h:eK C g st a w []){v:AV}{bX:AS}(hc:Q2 st x=some (v,bX)):∃g',(∀s,g'.β s=g.β s)/\eK C g' bX a w [(a.eval x,v)]:=by
 unfold Q2 at hc;have MA:=h.rd x;split at hc;rename_i gg cs hx;rw[hx]at MA;obtain⟨vs0,gm,PE⟩:=MA;split at hc;rename_i rt j RJ;split at hc;rename_i Za iL;split at hc;rename_i qO aeq;cases hc;have ajl:=OP _ _ aeq;have Ot:=acp _ _ aeq
 have core:∀(o:kI)(Yx:AS){vs:jz}{fp:fR},bR (dk C g st w) vs Za fp->fp.Nodup->(∀b∈fp,g.fe b=some o)->Yx.ep=st.ep->Yx.iss=st.iss->(∀s,jO st s->jO Yx s)->
  ∃f1 f2 f3,fp=f1++f2++f3/\(∀b∈f1++f3,b∉f2)/\
   (dk C g st w).Le (dk C {g with fe:=λb=>if b∈f2 then some (.hand 0) else g.fe b} Yx w)/\
   bR (dk C {g with fe:=λb=>if b∈f2 then some (.hand 0) else g.fe b} Yx w) vs (eX Za (rt.pos-j) (bf st.ep ((Za.drop (rt.pos-j)).take cs.length))) (f1++f3)/\(f1++f3).Nodup/\
   IC C {g with fe:=λb=>if b∈f2 then some (.hand 0) else g.fe b} Yx w 0 (a.eval x) (.val gg qO):=by
  intro o Yx vs fp hr hn hl yi KQ uY
  obtain⟨f1,f2,f3,rfl,r1,r2,r3⟩:=hr.mid (rt.pos-j) cs.length
  have Cx:=hn
  rw[aD]at Cx
  have n1:=aM.1 Cx
  have n2:=aM.1 n1.2.1
  have hle:(dk C g st w).Le (dk C {g with fe:=λb=>if b∈f2 then some (.hand 0) else g.fe b} Yx w):=
   ⟨rfl,λt ht=>⟨by show nq Yx t;have V1:nq st t:=ht;simpa[nq,KQ]using V1,rfl⟩,λ_ _ _ _ _ hu=>hu,by show st.ep<=Yx.ep;omega,λs hs=>⟨uY s hs,rfl⟩,λ_ b o u ho hu=>⟨ho,hu⟩⟩
  refine⟨f1,f2,f3,rfl,?_,hle,?_,?_,?_⟩
  ·intro b hb h2
   rcases ax.1 hb with hb|hb
   ·exact n1.2.2 b hb b (aR _ h2) rfl
   ·exact n2.2.2 b h2 b hb rfl
  ·have IY:=Yw (c':=dk C {g with fe:=λb=>if b∈f2 then some (.hand 0) else g.fe b} Yx w) (seg:=bf st.ep ((Za.drop (rt.pos-j)).take cs.length)) rfl (by rw[r2.length];exact ajl)
    (r1.mono hle (λb _=>⟨rfl,rfl⟩)) ((r2.bf).mono hle (by simp)) (r3.mono hle (λb _=>⟨rfl,rfl⟩))
   rw[bA]at IY
   exact IY
  ·refine aM.2 ⟨n1.1,n2.2.1,?_⟩
   rintro b hb c hc rfl
   exact n1.2.2 b hb b (bj _ hc) rfl
  ·have aph:=Yl (A:=λ_ _ _=>False) _ _ aeq PE r2
   have uN:=ZH Ot.1 (c:=dk C g st w) aph rfl rfl
   rw[Ot.2]at uN
   refine⟨f2,⟨vs0,gm,uN.mono hle (λb _=>⟨rfl,rfl⟩)⟩,n2.1,λb hb=>?_⟩
   show(if b∈f2 then _ else _)=_
   rw[aF hb]
 have MV:∀(f2:fR)(o:kI),(∀b∈f2,g.fe b=some o)->∀b y,(if b∈f2 then some (kI.hand 0) else g.fe b)=some y->b<w.heap.size/\(C.w0.heap.size<=b\/C.M b):=by intro f2 o hf b y hy;by_cases hm:b∈f2;exact h.gY b _ (hf b hm);rw[aH hm]at hy;exact h.gY b y hy
 have XM:∀(f2:fR)(o:kI),(∀b∈f2,g.fe b=some o)->∀b y,y≠o->g.fe b=some y->(if b∈f2 then some (kI.hand 0) else g.fe b)=some y:=by intro f2 o hf b y hyo hb;rw[aH (λhm=>hyo (by have:=hf b hm;rw[hb]at this;simpa using this))];exact hb
 have hh1:∀{g2:Gh}{Yx:AS},IC C g2 Yx w 0 (a.eval x) (.val gg qO)->∀k u bv,[(a.eval x,AV.val gg qO)][k]?=some (u,bv)->IC C g2 Yx w k u bv:=by
  intro g2 Yx hh k u bv hk;cases k with
  |zero=>simp only[cM,bu,Prod.mk.injEq]at hk;obtain⟨rfl,rfl⟩:=hk;exact hh
  |succ k=>simp at hk
 cases rt with
 |slot s j0=>
  simp only[AS.HX]at iL;cases hg:st.get s with
  |wh ts=>rw[hg]at iL;cases iL
  |val g1 cs1=>
   rw[hg]at iL;cases iL;have nt:∀DH,st.EC (.slot s j0) DH={st with slots:=st.slots.set s (.val g1 DH)}:=λDH=>by simp only[AS.EC,hg,AS.put,gr]
   obtain⟨fp,hr,hn,hl⟩:=h.slot s;rw[hg]at hr;obtain⟨vs,ak3,hr⟩:=hr;obtain⟨f1,f2,f3,rfl,B6,hle,IY,Mv,Ec⟩:=core (.slot s) (st.EC (.slot s j0) (eX Za (lq.pos (.slot s j0)-j) (bf st.ep ((Za.drop (lq.pos (.slot s j0)-j)).take cs.length)))) hr hn hl (by rw[nt]) (by rw[nt]) (λ_ q=>by rw[nt];exact q);have B8:∀b∈f2,g.fe b=some (.slot s):=λb hb=>hl b (by simp[hb]);refine⟨{g with fe:=λb=>if b∈f2 then some (.hand 0) else g.fe b},λ_=>rfl,h.step (λy=>y≠ .slot s) hle h.defers ?_ ?_ h.frame (MV f2 _ B8) (λb y hk hb=>⟨XM f2 _ B8 b y hk hb,rfl,rfl⟩) ?_ ?_ (λk u bv hk=> .inr (hh1 Ec k u bv hk)) (.inl ⟨by simp,by rw[nt]⟩)⟩;rw[nt];simpa using h.size;rw[nt];simpa using h.bsize;intro i bv hi;rw[nt]at hi;have wk:(st.slots.set s (.val g1 _))[i]?=some bv:=hi;by_cases his:i=s;subst his;rw[bH]at wk;simp only[cc]at wk;split at wk;simp at wk;subst wk;refine .inr ⟨f1++f3,⟨vs,ak3,IY⟩,Mv,λb hb=>?_⟩;show(if b∈f2 then _ else _)=_;rw[aH (B6 b hb)];exact hl b (by rcases ax.1 hb with k|k<;>simp[k]);cases wk;rw[aJ (cr his)]at wk;exact .inl ⟨by simpa using his,wk,rfl⟩;intro t DH hb;rw[nt]at hb;exact .inl ⟨by simp,hb,rfl⟩
 |box s j0=>
  have kC:st.boxes[s]?=some (some Za):=by simp only[AS.HX,eH]at iL;cases hb:st.boxes[s]? with|none=>simp[hb]at iL|some q=>rw[hb]at iL;simp at iL;rw[iL]
  have yL:s<st.boxes.length:=(aB.1 kC).1;have nt:∀DH,st.EC (.box s j0) DH={st with boxes:=st.boxes.set s (some DH)}:=λDH=>by simp only[AS.EC,AS.fD,gr]
  obtain⟨arr,T,fr,fp,kU,sE,hr,hn,wA,hl,GQ,GS⟩:=h.boxes s Za kC;obtain⟨f1,f2,f3,rfl,B6,hle,IY,Mv,Ec⟩:=core (.box s) (st.EC (.box s j0) (eX Za (lq.pos (.box s j0)-j) (bf st.ep ((Za.drop (lq.pos (.box s j0)-j)).take cs.length)))) hr hn hl (by rw[nt]) (by rw[nt]) (λt ht=>by rw[nt];obtain⟨c0,SO⟩:=ht;by_cases tz:s=t;subst tz;exact⟨_,by simp[yL];rfl⟩;exact⟨c0,by rw[aJ tz];exact SO⟩);have B8:∀b∈f2,g.fe b=some (.box s):=λb hb=>hl b (by simp[hb]);refine⟨{g with fe:=λb=>if b∈f2 then some (.hand 0) else g.fe b},λ_=>rfl,h.step (λy=>y≠ .box s) hle h.defers ?_ ?_ h.frame (MV f2 _ B8) (λb y hk hb=>⟨XM f2 _ B8 b y hk hb,rfl,rfl⟩) ?_ ?_ (λk u bv hk=> .inr (hh1 Ec k u bv hk)) (.inl ⟨by simp,by rw[nt]⟩)⟩;rw[nt];exact h.size;rw[nt];simpa using h.bsize;intro i bv hi;rw[nt]at hi;exact .inl ⟨by simp,hi,rfl⟩;intro t DH hb;rw[nt]at hb;have im:(st.boxes.set s (some _))[t]?=some (some DH):=hb;by_cases tz:t=s;subst tz;rw[bH]at im;simp only[cc,yL]at im;simp at im;subst im;have IZ:g.β t∉f2:=λhm=>wA (by simp[hm]);refine .inr ⟨arr,T,fr,f1++f3,kU,sE,IY,Mv,λhm=>wA (by rcases ax.1 hm with k|k<;>simp[k]),λb hb=>?_,?_,GS⟩;show(if b∈f2 then _ else _)=_;rw[aH (B6 b hb)];exact hl b (by rcases ax.1 hb with k|k<;>simp[k]);show(if g.β t∈f2 then _ else _)=_;rw[aH IZ];exact GQ;rw[aJ (cr tz)]at im;exact .inl ⟨by simpa using tz,im,rfl⟩
 |io j0=>simp only[AS.HX,bu]at iL;subst iL;obtain⟨fp,hr,hn,hl⟩:=h.io;obtain⟨f1,f2,f3,rfl,B6,hle,IY,Mv,Ec⟩:=core .io (st.EC (.io j0) (eX st.io (lq.pos (.io j0)-j) (bf st.ep ((st.io.drop (lq.pos (.io j0)-j)).take cs.length)))) hr hn hl rfl rfl (λ_ q=>q);have B8:∀b∈f2,g.fe b=some .io:=λb hb=>hl b (by simp[hb]);refine⟨{g with fe:=λb=>if b∈f2 then some (.hand 0) else g.fe b},λ_=>rfl,h.step (λy=>y≠ .io) hle h.defers h.size h.bsize h.frame (MV f2 _ B8) (λb y hk hb=>⟨XM f2 _ B8 b y hk hb,rfl,rfl⟩) (λi bv hi=> .inl ⟨by simp,hi,rfl⟩) (λt DH hb=> .inl ⟨by simp,hb,rfl⟩) (λk u bv hk=> .inr (hh1 Ec k u bv hk)) (.inr ⟨f1++f3,IY,Mv,λb hb=>?_⟩)⟩;show(if b∈f2 then _ else _)=_;rw[aH (B6 b hb)];exact hl b (by rcases ax.1 hb with k|k<;>simp[k])
 cases hc;cases hc;cases hc;cases hc
theorem abo {o:Oper}(ho:o.op=.assign x)(h:oE C st a w){K:AS->aC R}(hk:PW o x st K=some r):nm P C o a w K r:=by
 have fb:(execOp a.eval o).run P w=.ok (.value (a.eval x)) w:=by simp[execOp,ho]
 obtain⟨g,hg⟩:=h;unfold PW at hk;split at hk;rename_i v bX hc;obtain⟨g',_,oB⟩:=hg.ah3 hc;exact⟨_,_,_,.inl fb,eK.C1 oB o.dst,hk⟩;cases hk
theorem NR {E:Env}(hE:jX P E.ty){o:Oper}{T:TypeId}{p:Operand}(hd:o.dst=none)(ho:o.op=.store T p x)(h:oE C st a w){K:AS->aC R}(hk:wU E T p x st K=some r):nm P C o a w K r:=by obtain⟨g,hg⟩:=h;unfold wU at hk;split at hk;rename_i sh s off hT hp;have uK:=hg.rd p;rw[hp]at uK;have uK:=Bk uK;split at hk;rename_i gg vs bX hc;obtain⟨g',IZ,oB⟩:=hg.ah3 hc;split at hk;rename_i cs kC;split at hk;rename_i hlen;split at hk;rename_i iB;exact F3 hE hd ho hT (by rw[IZ];exact uK) oB kC hlen.1 hlen.2 iB hk;cases hk;cases hk;cases hk;cases hk;cases hk
structure Sound (P:Program) (E:Env) (Γ:zP):Prop where
 ty:jX P E.ty
 eqs:SU P E.eqs
 fts:YN P E.fts
 fns:∀f,iW P f (Γ f)
 mixed:P.follows .mixedOrders=true
theorem nm.wp {o:Oper}{K:AS->aC R}(h:nm P C o a w K r)(next:Act->World->Prop)(Q:Exit->Act->World->Prop)(iC:∀bX a' w',oE C bX a' w'->K bX=some r->next a' w'):o.wp P a w next Q:=by obtain⟨v,w',bX,fb,hs,hk⟩:=h;unfold Oper.wp;rcases fb with fb|⟨rfl,fb⟩;rw[fb];exact iC _ _ _ hs hk;rw[fb];exact iC _ _ _ hs hk
theorem Z5 {E:Env}(hS:Sound P E Γ){o:Oper}(h:oE C st a w){K:AS->aC R}(hk:dD E Γ an o st K=some r)(next:Act->World->Prop)(Q:Exit->Act->World->Prop)(iC:∀bX a' w',oE C bX a' w'->K bX=some r->next a' w'):o.wp P a w next Q:=by
 unfold dD at hk;split at hk;·rename_i x ho;exact(abF ho h hk).wp next Q iC
 ·rename_i x ho;split at hk;·exact(abo ho h hk).wp next Q iC
  ·exact(S5 ho h hk).wp next Q iC
 ·rename_i c x y ho;exact(ab4 ho h hk).wp next Q iC
 ·rename_i T ho;exact(V8 hS.ty ho h hk).wp next Q iC
 ·rename_i T x ho;exact(ade ho h hk).wp next Q iC
 ·rename_i T p ho;exact(abw hS.ty ho h hk).wp next Q iC
 ·rename_i T p x ho;split at hk
  ·rename_i hd;split at hk;·exact(NR hS.ty hd ho h hk).wp next Q iC
   ·exact(YD hS.ty hd ho h hk).wp next Q iC
  cases hk
 ·rename_i x ho;split at hk;·rename_i s off hx;exact(OL ho h hx hk).wp next Q iC
  ·rename_i fl e y i off hx;exact(Jk ho h hx hk).wp next Q iC
  cases hk
 ·rename_i op T x y T' ho;exact(ac9 hS.ty hS.eqs ho h hk).wp next Q iC
 ·rename_i op T x ho;exact(ahT ho h hk).wp next Q iC
 ·rename_i S p f ho;exact(W2 hS.ty ho h hk).wp next Q iC
 ·rename_i T x i ho;exact(MQ hS.ty ho h hk).wp next Q iC
 ·rename_i T x i ho;exact(XC hS.ty ho h hk).wp next Q iC
 ·rename_i T parts ho;exact(Wm hS.ty ho h hk).wp next Q iC
 ·rename_i T len parts ho;exact(KN hS.ty ho h hk).wp next Q iC
 ·rename_i T n c ho;exact(MZ hS.ty ho h hk).wp next Q iC
 ·rename_i T x lo hi ho;exact(Yp hS.ty ho h hk).wp next Q iC
 ·rename_i S t f ho;exact(Ts hS.ty hS.fts ho h hk).wp next Q iC
 ·rename_i args ts ho;exact(aas hS.ty ho h hk).wp next Q iC
 ·rename_i src dst x ho;exact(Q4 hS.ty ho h hk).wp next Q iC
 ·rename_i t i ho;exact(Rt ho h hk).wp next Q iC
 ·rename_i args ts ho;exact(aeO hS.ty ho h hk).wp next Q iC
 ·rename_i args ts ho;exact(aeV ho h hk).wp next Q iC
 ·rename_i args ts ho;exact(aeU ho h hk).wp next Q iC
 ·rename_i args ts ho;exact(S1 hS.ty ho h hk).wp next Q iC
 ·rename_i f args ts ho;exact agy hS.fns ho h hk next Q iC
 cases hk
theorem oE.forget (h:oE C st a w)(d:aC Nat):oE C (st.put d (.one .un)) (a.put d undef) w:=h.put d (λ_ _=>mZ ⟨rfl,rfl⟩)
theorem oE.known (h:oE C st a w){b:Bool}(hg:st.get d=.val false [.bool b]):a.tmps.getD d undef=.bool b:=by obtain⟨g,oB⟩:=h;obtain⟨fp,hr,_⟩:=oB.slot d;rw[hg]at hr;exact vF hr
theorem Sg:a.put (some d) (a.tmps.getD d undef)=a:=by cases a with|mk tmps defers=>simp only[Act.put];congr 1;apply Array.ext_getElem?;intro i;rw[Array.getElem?_setIfInBounds];by_cases h:d=i;subst h;by_cases hs:d<tmps.size;simp[hs,Array.getD];simp[hs];simp[h]
theorem oE.refine(h:oE C st a w){b:Bool}(hg:st.get d=.val false [.bool b]):oE C (st.put (some d) (.one (.bool b))) a w:=by have hk:=h.known hg;have:=h.put (some d) (v:=.bool b) (av:=.one (.bool b)) (λ_ _=>mZ ⟨rfl,rfl⟩);rw[<-hk,Sg]at this;exact this
theorem TO {E:Env}(hS:Sound P E Γ){ops:Array Oper}{o:Oper}(h:oE C st a w){K:AS->aC R}(hk:iq E Γ an ops.toList o st K=some r)(next:Act->World->Prop)(Q:Exit->Act->World->Prop)(iC:∀bX a' w',oE C bX a' w'->K bX=some r->next a' w'): if Region.wanted o (yielded ops a.tmps) then o.wp P a w next Q\/(o.asks P a w/\LetsOut Q) else next (a.put o.dst undef) w:=by
 unfold iq at hk;split at hk;·rename_i hgd;rw[aF (by simp[Region.wanted,hgd])];exact .inl (Z5 hS h hk next Q iC)
 ·rename_i j GK hgd;split at hk
  ·rename_i d aaQ;have aii:(ops[j]?).bind (·.dst)=some d:=by rw[eH]at aaQ;simpa using aaQ
   split at hk
   ·rename_i b hb;have hkn:=h.known hb;have hdl:d<a.tmps.size:=by rcases bW d a.tmps.size with ir|zH;exact ir;simp[Array.getD,Nat.not_lt.2 zH,undef]at hkn
    have hy:yielded ops a.tmps j=some b:=by
     unfold yielded;rw[aii];have:a.tmps[d]?=some (.bool b):=by rw[Array.getElem?_eq_getElem hdl];simp[Array.getD,hdl]at hkn;rw[hkn]
     simp[this]
    have hr:=h.refine hb
    have main:∀t,b=t->(if t==GK then dD E Γ an o (st.put (some d) (.one (.bool t))) K else K ((st.put (some d) (.one (.bool t))).put o.dst (.one .un)))=some r->
     if Region.wanted o (yielded ops a.tmps) then o.wp P a w next Q\/(o.asks P a w/\LetsOut Q) else next (a.put o.dst undef) w:=by
     rintro t rfl hk
     have hw:Region.wanted o (yielded ops a.tmps)=(b==GK):=by simp only[Region.wanted,hgd,hy];cases b<;>cases GK<;>rfl
     rw[hw]
     cases hbw:(b==GK)with
     |true=>
      rw[hbw]at hk
      simp only[cc]at hk⊢
      exact .inl (Z5 hS hr hk next Q iC)
     |false=>
      rw[hbw]at hk
      simp only[bh,cn]at hk⊢
      exact iC _ _ _ (hr.forget o.dst) hk
    cases b with|true=>exact main true rfl hk|false=>exact main false rfl hk
   rename_i hb;obtain⟨g,hg⟩:=id h;obtain⟨fp,hr,_⟩:=hg.slot d;rw[hb]at hr;have hun:=(fi hr).1;have hy:yielded ops a.tmps j=none:=by
    unfold yielded;rw[aii];simp only[fg];rcases bW d a.tmps.size with ir|zH;have:a.tmps[d]?=some undef:=by rw[Array.getElem?_eq_getElem ir];simp[Array.getD,ir]at hun;rw[hun]
    rw[this];rfl;rw[Array.getElem?_eq_none zH]
   have hw:Region.wanted o (yielded ops a.tmps)=false:=by simp only[Region.wanted,hgd,hy];cases GK<;>rfl
   rw[hw];exact iC _ _ _ (h.forget o.dst) hk;cases hk
  cases hk
theorem ae5 {E:Env}(hS:Sound P E Γ){ops:Array Oper}{Q:Exit->Act->World->Prop}{K:AS->aC R}
 (hq:∀bX a' w',oE C bX a' w'->K bX=some r->Q .normal a' w'):∀(n i:Nat)(st:AS)(a:Act)(w:World),i+n=ops.size->oE C st a w->Sa E Γ an ops.toList (ops.toList.drop i) st K=some r->
  wpOps P ops Q ((List.range' i n)) a w
 |0,i,st,a,w,hi,h,hk=>by rw[cB (by simp;omega)]at hk;exact hq st a w h hk
 |n+1,i,st,a,w,hi,h,hk=>by
  have Oq:i<ops.toList.length:=by simp;omega
  rw[ca Oq]at hk;have ho:ops[i]?=some ops.toList[i]:=by rw[<-cG];exact aw Oq
  rw[List.range'_succ,wpOps,ho];simp only;have:=TO hS (ops:=ops) h hk (wpOps P ops Q (List.range' (i+1) n)) Q (λbX a' w' hs Ee=>ae5 hS hq n (i+1) bX a' w' (by omega) hs Ee);exact this
end Go.Dn
