import Derived.Test.YthllnaiaikjelaaGreatDnCall
/- The soundness of the abstract semantics: operations, regions, loops, functions. -/
namespace Go.Dn
open Go.RowKit
variable {P:Program} {C:Ctx} {st:AS} {a:Act} {w:World} {R:Type} {r:R}
variable {an:An} {Γ:xf} {d:Nat} {x:Operand}
theorem abP:∀(os ss:aq AC){r:aq AC},md os ss=some r->r.all AC.XW=true/\r.map AC.strip=r:=by
 intro os;induction os with
 |nil=>intro ss r h;cases ss with|nil=>simp[md]at h;subst h;exact⟨rfl,rfl⟩|cons _ _=>simp[md]at h
 |cons o os ih=>
  intro ss r h;cases ss with
  |nil=>unfold md at h;split at h<;>first|contradiction|cases h
  |cons s ss=>
   unfold md at h;split at h;contradiction;rename_i h1 h2;injection h1 with h1 N0;subst N0;injection h2 with h2 TL;subst TL;rw[Bool.cond_eq_ite]at h;split at h;obtain⟨r',hr,h⟩:=aI.1 h;cases h;obtain⟨k1,k2⟩:=ih _ hr;exact⟨by simp[AC.XW,k1],by simp[AC.strip,k2]⟩;cases h
   all_goals first
    |cases h
    |(rename_i h1 h2
      injection h1 with h1 N0;subst N0
      injection h2 with h2 TL;subst TL
      obtain⟨r',hr,h⟩:=aI.1 h
      cases h
      obtain⟨k1,k2⟩:=ih _ hr
      exact⟨by simp[AC.XW,AC.fT,k1],by simp[AC.strip,k2]⟩)
theorem ZD:∀{cs:aq AC},cs.all AC.XW=true->∀{c:RC}{A:Rg}{hw:Nat->Nat}{w:World}{vs:gO}{fp:dy},bn (eJ A hw w) vs cs fp->c.w=w->c.hw=hw->bn c vs (cs.map AC.strip) fp
 |[],_,c,A,hw,w,vs,fp,h,_,_=>by cases vs with|nil=>exact h|cons _ _=>exact h.elim
 |x::cs,jQ,c,A,hw,w,vs,fp,h,Mz,Bn=>by
  cases vs with
  |nil=>exact h.elim
  |cons v vs=>
   obtain⟨f1,f2,rfl,h1,h2⟩:=h;simp only[bC,ah]at jQ;refine⟨f1,f2,rfl,?_,ZD jQ.2 h2 Mz Bn⟩;cases x with
   |sl fl e xs=>cases fl with|own t=>exact⟨by rw[Mz,Bn];exact h1.1,by simp⟩|arg _=>cases jQ.1|loc _ _=>cases jQ.1|nest _ _ _ _ _ _=>cases jQ.1|part _ _ _ _=>cases jQ.1|eS _ _ _=>cases jQ.1
   |int k n=>exact h1
   |bool b=>exact h1
   |str s=>exact h1
   |fn f=>exact h1
   |jd=>cases jQ.1
   |ptr s off=>cases jQ.1
   |Cg fl e y i off=>cases jQ.1
   |un=>cases jQ.1
   |bot=>cases jQ.1
theorem dr.agy {g:Gh}(h:dr C g st a w []){v:AV}{st':AS}(hc:Se st x=some (v,st')):∃g',(∀s,g'.β s=g.β s)/\dr C g' st' a w [(a.eval x,v)]:=by
 unfold Se at hc;have JL:=h.rd x;split at hc;rename_i gg cs hx;rw[hx]at JL;obtain⟨vs0,dU,Gn⟩:=JL;split at hc;rename_i rt j N5;split at hc;rename_i C8 eK;split at hc;rename_i mr Gp;cases hc;have SA:=Im _ _ Gp;have JJ:=abP _ _ Gp
 have core:∀(o:iO)(YI:AS){vs:gO}{fp:dy},bn (cv C g st w) vs C8 fp->fp.Nodup->(∀b∈fp,g.dE b=some o)->YI.ep=st.ep->YI.iss=st.iss->(∀s,fY st s->fY YI s)->
  ∃f1 f2 f3,fp=f1++f2++f3/\(∀b∈f1++f3,b∉f2)/\
   (cv C g st w).Le (cv C {g with dE:=λb=>if b∈f2 then some (.hand 0) else g.dE b} YI w)/\
   bn (cv C {g with dE:=λb=>if b∈f2 then some (.hand 0) else g.dE b} YI w) vs (cY C8 (rt.pos-j) (aR st.ep ((C8.drop (rt.pos-j)).take cs.length))) (f1++f3)/\(f1++f3).Nodup/\
   KT C {g with dE:=λb=>if b∈f2 then some (.hand 0) else g.dE b} YI w 0 (a.eval x) (.val gg mr):=by
  intro o YI vs fp hr hn hl xg FV qe
  obtain⟨f1,f2,f3,rfl,r1,r2,r3⟩:=hr.mid (rt.pos-j) cs.length
  have Ae:=hn
  rw[aO]at Ae
  have n1:=aB.1 Ae
  have n2:=aB.1 n1.2.1
  have hle:(cv C g st w).Le (cv C {g with dE:=λb=>if b∈f2 then some (.hand 0) else g.dE b} YI w):=
   ⟨rfl,λt ht=>⟨by show kO YI t;have TN:kO st t:=ht;simpa[kO,FV]using TN,rfl⟩,λ_ _ _ _ _ hu=>hu,by show st.ep<=YI.ep;omega,λs hs=>⟨qe s hs,rfl⟩,λ_ b o u ho hu=>⟨ho,hu⟩⟩
  refine⟨f1,f2,f3,rfl,?_,hle,?_,?_,?_⟩
  ·intro b hb h2
   rcases ay.1 hb with hb|hb
   ·exact n1.2.2 b hb b (bh _ h2) rfl
   ·exact n2.2.2 b h2 b hb rfl
  ·have JN:=Jc (c':=cv C {g with dE:=λb=>if b∈f2 then some (.hand 0) else g.dE b} YI w) (seg:=aR st.ep ((C8.drop (rt.pos-j)).take cs.length)) rfl (by rw[r2.length];exact SA)
    (r1.mono hle (λb _=>⟨rfl,rfl⟩)) ((r2.aR).mono hle (by simp)) (r3.mono hle (λb _=>⟨rfl,rfl⟩))
   rw[bt]at JN
   exact JN
  ·refine aB.2 ⟨n1.1,n2.2.1,?_⟩
   rintro b hb c hc rfl
   exact n1.2.2 b hb b (aX _ hc) rfl
  ·have ag7:=O1 (A:=λ_ _ _=>False) _ _ Gp Gn r2
   have uQ:=ZD JJ.1 (c:=cv C g st w) ag7 rfl rfl
   rw[JJ.2]at uQ
   refine⟨f2,⟨vs0,dU,uQ.mono hle (λb _=>⟨rfl,rfl⟩)⟩,n2.1,λb hb=>?_⟩
   show(if b∈f2 then _ else _)=_
   rw[aH hb]
 have Ou:∀(f2:dy)(o:iO),(∀b∈f2,g.dE b=some o)->∀b y,(if b∈f2 then some (iO.hand 0) else g.dE b)=some y->b<w.heap.size/\(C.w0.heap.size<=b\/C.M b):=by intro f2 o hf b y hy;by_cases hm:b∈f2;exact h.ff b _ (hf b hm);rw[aG hm]at hy;exact h.ff b y hy
 have X1:∀(f2:dy)(o:iO),(∀b∈f2,g.dE b=some o)->∀b y,y≠o->g.dE b=some y->(if b∈f2 then some (iO.hand 0) else g.dE b)=some y:=by intro f2 o hf b y hyo hb;rw[aG (λhm=>hyo (by have:=hf b hm;rw[hb]at this;simpa using this))];exact hb
 have hh1:∀{g2:Gh}{YI:AS},KT C g2 YI w 0 (a.eval x) (.val gg mr)->∀k u bv,[(a.eval x,AV.val gg mr)][k]?=some (u,bv)->KT C g2 YI w k u bv:=by
  intro g2 YI hh k u bv hk;cases k with
  |zero=>simp only[cm,aZ,Prod.mk.injEq]at hk;obtain⟨rfl,rfl⟩:=hk;exact hh
  |succ k=>simp at hk
 cases rt with
 |slot s j0=>
  simp only[AS.th]at eK;cases hg:st.get s with
  |uT ts=>rw[hg]at eK;cases eK
  |val g1 cs1=>
   rw[hg]at eK;cases eK;have lh:∀FY,st.pc (.slot s j0) FY={st with slots:=st.slots.set s (.val g1 FY)}:=λFY=>by simp only[AS.pc,hg,AS.put,eN]
   obtain⟨fp,hr,hn,hl⟩:=h.slot s;rw[hg]at hr;obtain⟨vs,JG,hr⟩:=hr;obtain⟨f1,f2,f3,rfl,zB,hle,JN,IQ,Gj⟩:=core (.slot s) (st.pc (.slot s j0) (cY C8 (jR.pos (.slot s j0)-j) (aR st.ep ((C8.drop (jR.pos (.slot s j0)-j)).take cs.length)))) hr hn hl (by rw[lh]) (by rw[lh]) (λ_ q=>by rw[lh];exact q);have D0:∀b∈f2,g.dE b=some (.slot s):=λb hb=>hl b (by simp[hb]);refine⟨{g with dE:=λb=>if b∈f2 then some (.hand 0) else g.dE b},λ_=>rfl,h.step (λy=>y≠ .slot s) hle h.defers ?_ ?_ h.frame (Ou f2 _ D0) (λb y hk hb=>⟨X1 f2 _ D0 b y hk hb,rfl,rfl⟩) ?_ ?_ (λk u bv hk=> .inr (hh1 Gj k u bv hk)) (.inl ⟨by simp,by rw[lh]⟩)⟩;rw[lh];simpa using h.size;rw[lh];simpa using h.bsize;intro i bv hi;rw[lh]at hi;have pV:(st.slots.set s (.val g1 _))[i]?=some bv:=hi;by_cases XA:i=s;subst XA;rw[bj]at pV;simp only[bF]at pV;split at pV;simp at pV;subst pV;refine .inr ⟨f1++f3,⟨vs,JG,JN⟩,IQ,λb hb=>?_⟩;show(if b∈f2 then _ else _)=_;rw[aG (zB b hb)];exact hl b (by rcases ay.1 hb with k|k<;>simp[k]);cases pV;rw[aS (cC XA)]at pV;exact .inl ⟨by simpa using XA,pV,rfl⟩;intro t FY hb;rw[lh]at hb;exact .inl ⟨by simp,hb,rfl⟩
 |box s j0=>
  have ji:st.boxes[s]?=some (some C8):=by simp only[AS.th,dv]at eK;cases hb:st.boxes[s]? with|none=>simp[hb]at eK|some q=>rw[hb]at eK;simp at eK;rw[eK]
  have xn:s<st.boxes.length:=(aD.1 ji).1;have lh:∀FY,st.pc (.box s j0) FY={st with boxes:=st.boxes.set s (some FY)}:=λFY=>by simp only[AS.pc,AS.eh,eN]
  obtain⟨arr,T,fr,fp,iZ,qf,hr,hn,sr,hl,HQ,H8⟩:=h.boxes s C8 ji;obtain⟨f1,f2,f3,rfl,zB,hle,JN,IQ,Gj⟩:=core (.box s) (st.pc (.box s j0) (cY C8 (jR.pos (.box s j0)-j) (aR st.ep ((C8.drop (jR.pos (.box s j0)-j)).take cs.length)))) hr hn hl (by rw[lh]) (by rw[lh]) (λt ht=>by rw[lh];obtain⟨c0,WC⟩:=ht;by_cases qg:s=t;subst qg;exact⟨_,by simp[xn];rfl⟩;exact⟨c0,by rw[aS qg];exact WC⟩);have D0:∀b∈f2,g.dE b=some (.box s):=λb hb=>hl b (by simp[hb]);refine⟨{g with dE:=λb=>if b∈f2 then some (.hand 0) else g.dE b},λ_=>rfl,h.step (λy=>y≠ .box s) hle h.defers ?_ ?_ h.frame (Ou f2 _ D0) (λb y hk hb=>⟨X1 f2 _ D0 b y hk hb,rfl,rfl⟩) ?_ ?_ (λk u bv hk=> .inr (hh1 Gj k u bv hk)) (.inl ⟨by simp,by rw[lh]⟩)⟩;rw[lh];exact h.size;rw[lh];simpa using h.bsize;intro i bv hi;rw[lh]at hi;exact .inl ⟨by simp,hi,rfl⟩;intro t FY hb;rw[lh]at hb;have gA:(st.boxes.set s (some _))[t]?=some (some FY):=hb;by_cases qg:t=s;subst qg;rw[bj]at gA;simp only[bF,xn]at gA;simp at gA;subst gA;have IT:g.β t∉f2:=λhm=>sr (by simp[hm]);refine .inr ⟨arr,T,fr,f1++f3,iZ,qf,JN,IQ,λhm=>sr (by rcases ay.1 hm with k|k<;>simp[k]),λb hb=>?_,?_,H8⟩;show(if b∈f2 then _ else _)=_;rw[aG (zB b hb)];exact hl b (by rcases ay.1 hb with k|k<;>simp[k]);show(if g.β t∈f2 then _ else _)=_;rw[aG IT];exact HQ;rw[aS (cC qg)]at gA;exact .inl ⟨by simpa using qg,gA,rfl⟩
 |io j0=>simp only[AS.th,aZ]at eK;subst eK;obtain⟨fp,hr,hn,hl⟩:=h.io;obtain⟨f1,f2,f3,rfl,zB,hle,JN,IQ,Gj⟩:=core .io (st.pc (.io j0) (cY st.io (jR.pos (.io j0)-j) (aR st.ep ((st.io.drop (jR.pos (.io j0)-j)).take cs.length)))) hr hn hl rfl rfl (λ_ q=>q);have D0:∀b∈f2,g.dE b=some .io:=λb hb=>hl b (by simp[hb]);refine⟨{g with dE:=λb=>if b∈f2 then some (.hand 0) else g.dE b},λ_=>rfl,h.step (λy=>y≠ .io) hle h.defers h.size h.bsize h.frame (Ou f2 _ D0) (λb y hk hb=>⟨X1 f2 _ D0 b y hk hb,rfl,rfl⟩) (λi bv hi=> .inl ⟨by simp,hi,rfl⟩) (λt FY hb=> .inl ⟨by simp,hb,rfl⟩) (λk u bv hk=> .inr (hh1 Gj k u bv hk)) (.inr ⟨f1++f3,JN,IQ,λb hb=>?_⟩)⟩;show(if b∈f2 then _ else _)=_;rw[aG (zB b hb)];exact hl b (by rcases ay.1 hb with k|k<;>simp[k])
 cases hc;cases hc;cases hc;cases hc
theorem abb {o:Oper}(ho:o.op=.assign x)(h:mM C st a w){K:AS->ar R}(hk:Rb o x st K=some r):mq P C o a w K r:=by
 have dD:(execOp a.eval o).run P w=.ok (.value (a.eval x)) w:=by simp[execOp,ho]
 obtain⟨g,hg⟩:=h;unfold Rb at hk;split at hk;rename_i v st' hc;obtain⟨g',_,ml⟩:=hg.agy hc;exact⟨_,_,_,.inl dD,dr.EV ml o.dst,hk⟩;cases hk
theorem Ph {E:Env}(hE:iV P E.ty){o:Oper}{T:TypeId}{p:Operand}(hd:o.dst=none)(ho:o.op=.store T p x)(h:mM C st a w){K:AS->ar R}(hk:xz E T p x st K=some r):mq P C o a w K r:=by obtain⟨g,hg⟩:=h;unfold xz at hk;split at hk;rename_i sh s off hT hp;have uR:=hg.rd p;rw[hp]at uR;have uR:=CJ uR;split at hk;rename_i gg vs st' hc;obtain⟨g',IT,ml⟩:=hg.agy hc;split at hk;rename_i cs ji;split at hk;rename_i hlen;split at hk;rename_i gv;exact Iu hE hd ho hT (by rw[IT];exact uR) ml ji hlen.1 hlen.2 gv hk;cases hk;cases hk;cases hk;cases hk;cases hk
structure Sound (P:Program) (E:Env) (Γ:xf):Prop where
 ty:iV P E.ty
 eqs:TR P E.eqs
 fts:Y5 P E.fts
 fns:∀f,kh P f (Γ f)
 mixed:P.follows .mixedOrders=true
theorem mq.wp {o:Oper}{K:AS->ar R}(h:mq P C o a w K r)(next:Act->World->Prop)(Q:Exit->Act->World->Prop)(fC:∀st' a' w',mM C st' a' w'->K st'=some r->next a' w'):o.wp P a w next Q:=by obtain⟨v,w',st',dD,hs,hk⟩:=h;unfold Oper.wp;rcases dD with dD|⟨rfl,dD⟩;rw[dD];exact fC _ _ _ hs hk;rw[dD];exact fC _ _ _ hs hk
theorem Z5 {E:Env}(hS:Sound P E Γ){o:Oper}(h:mM C st a w){K:AS->ar R}(hk:cO E Γ an o st K=some r)(next:Act->World->Prop)(Q:Exit->Act->World->Prop)(fC:∀st' a' w',mM C st' a' w'->K st'=some r->next a' w'):o.wp P a w next Q:=by
 unfold cO at hk;split at hk;·rename_i x ho;exact(abk ho h hk).wp next Q fC
 ·rename_i x ho;split at hk;·exact(abb ho h hk).wp next Q fC
  ·exact(TZ ho h hk).wp next Q fC
 ·rename_i c x y ho;exact(abH ho h hk).wp next Q fC
 ·rename_i T ho;exact(WS hS.ty ho h hk).wp next Q fC
 ·rename_i T x ho;exact(acy ho h hk).wp next Q fC
 ·rename_i T p ho;exact(abf hS.ty ho h hk).wp next Q fC
 ·rename_i T p x ho;split at hk
  ·rename_i hd;split at hk;·exact(Ph hS.ty hd ho h hk).wp next Q fC
   ·exact(YL hS.ty hd ho h hk).wp next Q fC
  cases hk
 ·rename_i x ho;split at hk;·rename_i s off hx;exact(Qe ho h hx hk).wp next Q fC
  ·rename_i fl e y i off hx;exact(Lr ho h hx hk).wp next Q fC
  cases hk
 ·rename_i op T x y T' ho;exact(acw hS.ty hS.eqs ho h hk).wp next Q fC
 ·rename_i op T x ho;exact(ago ho h hk).wp next Q fC
 ·rename_i S p f ho;exact(Xp hS.ty ho h hk).wp next Q fC
 ·rename_i T x i ho;exact(On hS.ty ho h hk).wp next Q fC
 ·rename_i T x i ho;exact(XT hS.ty ho h hk).wp next Q fC
 ·rename_i T parts ho;exact(W3 hS.ty ho h hk).wp next Q fC
 ·rename_i T len parts ho;exact(Mx hS.ty ho h hk).wp next Q fC
 ·rename_i T n c ho;exact(OA hS.ty ho h hk).wp next Q fC
 ·rename_i T x lo hi ho;exact(Yu hS.ty ho h hk).wp next Q fC
 ·rename_i S t f ho;exact(Uo hS.ty hS.fts ho h hk).wp next Q fC
 ·rename_i args ts ho;exact(aan hS.ty ho h hk).wp next Q fC
 ·rename_i src dst x ho;exact(Sh hS.ty ho h hk).wp next Q fC
 ·rename_i t i ho;exact(So ho h hk).wp next Q fC
 ·rename_i args ts ho;exact(ad2 hS.ty ho h hk).wp next Q fC
 ·rename_i args ts ho;exact(ad8 ho h hk).wp next Q fC
 ·rename_i args ts ho;exact(ad6 ho h hk).wp next Q fC
 ·rename_i args ts ho;exact(TW hS.ty ho h hk).wp next Q fC
 ·rename_i f args ts ho;exact afk hS.fns ho h hk next Q fC
 cases hk
theorem mM.forget (h:mM C st a w)(d:ar Nat):mM C (st.put d (.one .un)) (a.put d undef) w:=h.put d (λ_ _=>ma ⟨rfl,rfl⟩)
theorem mM.known (h:mM C st a w){b:Bool}(hg:st.get d=.val false [.bool b]):a.tmps.getD d undef=.bool b:=by obtain⟨g,ml⟩:=h;obtain⟨fp,hr,_⟩:=ml.slot d;rw[hg]at hr;exact wv hr
theorem S9:a.put (some d) (a.tmps.getD d undef)=a:=by cases a with|mk tmps defers=>simp only[Act.put];congr 1;apply Array.ext_getElem?;intro i;rw[Array.getElem?_setIfInBounds];by_cases h:d=i;subst h;by_cases hs:d<tmps.size;simp[hs,Array.getD];simp[hs];simp[h]
theorem mM.refine(h:mM C st a w){b:Bool}(hg:st.get d=.val false [.bool b]):mM C (st.put (some d) (.one (.bool b))) a w:=by have hk:=h.known hg;have:=h.put (some d) (v:=.bool b) (av:=.one (.bool b)) (λ_ _=>ma ⟨rfl,rfl⟩);rw[<-hk,S9]at this;exact this
theorem UC {E:Env}(hS:Sound P E Γ){ops:Array Oper}{o:Oper}(h:mM C st a w){K:AS->ar R}(hk:gh E Γ an ops.toList o st K=some r)(next:Act->World->Prop)(Q:Exit->Act->World->Prop)(fC:∀st' a' w',mM C st' a' w'->K st'=some r->next a' w'): if Region.wanted o (yielded ops a.tmps) then o.wp P a w next Q\/(o.asks P a w/\LetsOut Q) else next (a.put o.dst undef) w:=by
 unfold gh at hk;split at hk;·rename_i hgd;rw[aH (by simp[Region.wanted,hgd])];exact .inl (Z5 hS h hk next Q fC)
 ·rename_i j Ji hgd;split at hk
  ·rename_i d aaE;have agC:(ops[j]?).bind (·.dst)=some d:=by rw[dv]at aaE;simpa using aaE
   split at hk
   ·rename_i b hb;have hkn:=h.known hb;have hdl:d<a.tmps.size:=by rcases bH d a.tmps.size with gM|Ad;exact gM;simp[Array.getD,Nat.not_lt.2 Ad,undef]at hkn
    have hy:yielded ops a.tmps j=some b:=by
     unfold yielded;rw[agC];have:a.tmps[d]?=some (.bool b):=by rw[Array.getElem?_eq_getElem hdl];simp[Array.getD,hdl]at hkn;rw[hkn]
     simp[this]
    have hr:=h.refine hb
    have main:∀t,b=t->(if t==Ji then cO E Γ an o (st.put (some d) (.one (.bool t))) K else K ((st.put (some d) (.one (.bool t))).put o.dst (.one .un)))=some r->
     if Region.wanted o (yielded ops a.tmps) then o.wp P a w next Q\/(o.asks P a w/\LetsOut Q) else next (a.put o.dst undef) w:=by
     rintro t rfl hk
     have hw:Region.wanted o (yielded ops a.tmps)=(b==Ji):=by simp only[Region.wanted,hgd,hy];cases b<;>cases Ji<;>rfl
     rw[hw]
     cases hbw:(b==Ji)with
     |true=>
      rw[hbw]at hk
      simp only[bF]at hk⊢
      exact .inl (Z5 hS hr hk next Q fC)
     |false=>
      rw[hbw]at hk
      simp only[aW,bV]at hk⊢
      exact fC _ _ _ (hr.forget o.dst) hk
    cases b with|true=>exact main true rfl hk|false=>exact main false rfl hk
   rename_i hb;obtain⟨g,hg⟩:=id h;obtain⟨fp,hr,_⟩:=hg.slot d;rw[hb]at hr;have hun:=(dM hr).1;have hy:yielded ops a.tmps j=none:=by
    unfold yielded;rw[agC];simp only[dZ];rcases bH d a.tmps.size with gM|Ad;have:a.tmps[d]?=some undef:=by rw[Array.getElem?_eq_getElem gM];simp[Array.getD,gM]at hun;rw[hun]
    rw[this];rfl;rw[Array.getElem?_eq_none Ad]
   have hw:Region.wanted o (yielded ops a.tmps)=false:=by simp only[Region.wanted,hgd,hy];cases Ji<;>rfl
   rw[hw];exact fC _ _ _ (h.forget o.dst) hk;cases hk
  cases hk
theorem aek {E:Env}(hS:Sound P E Γ){ops:Array Oper}{Q:Exit->Act->World->Prop}{K:AS->ar R}
 (hq:∀st' a' w',mM C st' a' w'->K st'=some r->Q .normal a' w'):∀(n i:Nat)(st:AS)(a:Act)(w:World),i+n=ops.size->mM C st a w->S2 E Γ an ops.toList (ops.toList.drop i) st K=some r->
  wpOps P ops Q ((List.range' i n)) a w
 |0,i,st,a,w,hi,h,hk=>by rw[cP (by simp;omega)]at hk;exact hq st a w h hk
 |n+1,i,st,a,w,hi,h,hk=>by
  have N6:i<ops.toList.length:=by simp;omega
  rw[cc N6]at hk;have ho:ops[i]?=some ops.toList[i]:=by rw[<-bK];exact ax N6
  rw[List.range'_succ,wpOps,ho];simp only;have:=UC hS (ops:=ops) h hk (wpOps P ops Q (List.range' (i+1) n)) Q (λst' a' w' hs Gk=>aek hS hq n (i+1) st' a' w' (by omega) hs Gk);exact this
end Go.Dn
