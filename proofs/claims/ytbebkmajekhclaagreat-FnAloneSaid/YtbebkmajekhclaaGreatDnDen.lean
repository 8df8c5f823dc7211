import Derived.Test.YtbebkmajekhclaaGreatDnCall
/- The soundness of the abstract semantics: operations, regions, loops, functions. -/
namespace Go.Dn
open Go.RowKit
variable {P:Program} {C:Ctx} {st:AS} {a:Act} {w:World} {R:Type} {r:R}
variable {an:An} {Γ:BA} {d:Nat} {x:Operand}
theorem agr:∀(os ss:aw AC){r:aw AC},oF os ss=some r->r.all AC.alz=true/\r.map AC.strip=r:=by
 intro os;induction os with
 |nil=>intro ss r h;cases ss with|nil=>simp[oF]at h;subst h;exact⟨rfl,rfl⟩|cons _ _=>simp[oF]at h
 |cons o os ih=>
  intro ss r h;cases ss with
  |nil=>unfold oF at h;split at h<;>first|contradiction|cases h
  |cons s ss=>
   unfold oF at h;split at h;contradiction;rename_i h1 h2;injection h1 with h1 QJ;subst QJ;injection h2 with h2 VJ;subst VJ;rw[Bool.cond_eq_ite]at h;split at h;obtain⟨r',hr,h⟩:=aS.1 h;cases h;obtain⟨k1,k2⟩:=ih _ hr;exact⟨by simp[AC.alz,k1],by simp[AC.strip,k2]⟩;cases h
   all_goals first
    |cases h
    |(rename_i h1 h2
      injection h1 with h1 QJ;subst QJ
      injection h2 with h2 VJ;subst VJ
      obtain⟨r',hr,h⟩:=aS.1 h
      cases h
      obtain⟨k1,k2⟩:=ih _ hr
      exact⟨by simp[AC.alz,AC.jU,k1],by simp[AC.strip,k2]⟩)
theorem adz:∀{cs:aw AC},cs.all AC.alz=true->∀{c:RC}{A:Rg}{hw:Nat->Nat}{w:World}{vs:jd}{fp:fE},bO (gr A hw w) vs cs fp->c.w=w->c.hw=hw->bO c vs (cs.map AC.strip) fp
 |[],_,c,A,hw,w,vs,fp,h,_,_=>by cases vs with|nil=>exact h|cons _ _=>exact h.elim
 |x::cs,oY,c,A,hw,w,vs,fp,h,VK,Ho=>by
  cases vs with
  |nil=>exact h.elim
  |cons v vs=>
   obtain⟨f1,f2,rfl,h1,h2⟩:=h;simp only[bX,ae]at oY;refine⟨f1,f2,rfl,?_,adz oY.2 h2 VK Ho⟩;cases x with
   |sl fl e xs=>cases fl with|own t=>exact⟨by rw[VK,Ho];exact h1.1,by simp⟩|arg _=>cases oY.1|loc _ _=>cases oY.1|nest _ _ _ _ _ _=>cases oY.1|part _ _ _ _=>cases oY.1|fR _ _ _=>cases oY.1
   |int k n=>exact h1
   |bool b=>exact h1
   |str s=>exact h1
   |fn f=>exact h1
   |kh=>cases oY.1
   |ptr s off=>cases oY.1
   |Dc fl e y i off=>cases oY.1
   |un=>cases oY.1
   |bot=>cases oY.1
theorem ew.ams {g:Gh}(h:ew C g st a w []){v:AV}{bU:AS}(hc:TK st x=some (v,bU)):∃g',(∀s,g'.β s=g.β s)/\ew C g' bU a w [(a.eval x,v)]:=by
 unfold TK at hc;have O2:=h.rd x;split at hc;rename_i gg cs hx;rw[hx]at O2;obtain⟨vs0,fS,Sf⟩:=O2;split at hc;rename_i rt j Ux;split at hc;rename_i csO ik;split at hc;rename_i rJ aiI;cases hc;have an6:=Rk _ _ aiI;have Q0:=agr _ _ aiI
 have core:∀(o:kz)(stN:AS){vs:jd}{fp:fE},bO (db C g st w) vs csO fp->fp.Nodup->(∀b∈fp,g.eX b=some o)->stN.ep=st.ep->stN.iss=st.iss->(∀s,jF st s->jF stN s)->
  ∃f1 f2 f3,fp=f1++f2++f3/\(∀b∈f1++f3,b∉f2)/\
   (db C g st w).Le (db C {g with eX:=λb=>if b∈f2 then some (.hand 0) else g.eX b} stN w)/\
   bO (db C {g with eX:=λb=>if b∈f2 then some (.hand 0) else g.eX b} stN w) vs (eP csO (rt.pos-j) (bg st.ep ((csO.drop (rt.pos-j)).take cs.length))) (f1++f3)/\(f1++f3).Nodup/\
   KK C {g with eX:=λb=>if b∈f2 then some (.hand 0) else g.eX b} stN w 0 (a.eval x) (.val gg rJ):=by
  intro o stN vs fp hr hn hl Ac Ng wq
  obtain⟨f1,f2,f3,rfl,r1,r2,r3⟩:=hr.mid (rt.pos-j) cs.length
  have DH:=hn
  rw[aY]at DH
  have n1:=aN.1 DH
  have n2:=aN.1 n1.2.1
  have hle:(db C g st w).Le (db C {g with eX:=λb=>if b∈f2 then some (.hand 0) else g.eX b} stN w):=
   ⟨rfl,λt ht=>⟨by show nD stN t;have ZH:nD st t:=ht;simpa[nD,Ng]using ZH,rfl⟩,λ_ _ _ _ _ hu=>hu,by show st.ep<=stN.ep;omega,λs hs=>⟨wq s hs,rfl⟩,λ_ b o u ho hu=>⟨ho,hu⟩⟩
  refine⟨f1,f2,f3,rfl,?_,hle,?_,?_,?_⟩
  ·intro b hb h2
   rcases az.1 hb with hb|hb
   ·exact n1.2.2 b hb b (bH _ h2) rfl
   ·exact n2.2.2 b h2 b hb rfl
  ·have K4:=acF (c':=db C {g with eX:=λb=>if b∈f2 then some (.hand 0) else g.eX b} stN w) (seg:=bg st.ep ((csO.drop (rt.pos-j)).take cs.length)) rfl (by rw[r2.length];exact an6)
    (r1.mono hle (λb _=>⟨rfl,rfl⟩)) ((r2.bg).mono hle (by simp)) (r3.mono hle (λb _=>⟨rfl,rfl⟩))
   rw[bI]at K4
   exact K4
  ·refine aN.2 ⟨n1.1,n2.2.1,?_⟩
   rintro b hb c hc rfl
   exact n1.2.2 b hb b (bu _ hc) rfl
  ·have avd:=acr (A:=λ_ _ _=>False) _ _ aiI Sf r2
   have tV:=adz Q0.1 (c:=db C g st w) avd rfl rfl
   rw[Q0.2]at tV
   refine⟨f2,⟨vs0,fS,tV.mono hle (λb _=>⟨rfl,rfl⟩)⟩,n2.1,λb hb=>?_⟩
   show(if b∈f2 then _ else _)=_
   rw[aH hb]
 have Pr:∀(f2:fE)(o:kz),(∀b∈f2,g.eX b=some o)->∀b y,(if b∈f2 then some (kz.hand 0) else g.eX b)=some y->b<w.heap.size/\(C.w0.heap.size<=b\/C.M b):=by intro f2 o hf b y hy;by_cases hm:b∈f2;exact h.gL b _ (hf b hm);rw[aG hm]at hy;exact h.gL b y hy
 have abK:∀(f2:fE)(o:kz),(∀b∈f2,g.eX b=some o)->∀b y,y≠o->g.eX b=some y->(if b∈f2 then some (kz.hand 0) else g.eX b)=some y:=by intro f2 o hf b y hyo hb;rw[aG (λhm=>hyo (by have:=hf b hm;rw[hb]at this;simpa using this))];exact hb
 have hh1:∀{g2:Gh}{stN:AS},KK C g2 stN w 0 (a.eval x) (.val gg rJ)->∀k u bv,[(a.eval x,AV.val gg rJ)][k]?=some (u,bv)->KK C g2 stN w k u bv:=by
  intro g2 stN hh k u bv hk;cases k with
  |zero=>simp only[cC,bp,Prod.mk.injEq]at hk;obtain⟨rfl,rfl⟩:=hk;exact hh
  |succ k=>simp at hk
 cases rt with
 |slot s j0=>
  simp only[AS.J6]at ik;cases hg:st.get s with
  |xC ts=>rw[hg]at ik;cases ik
  |val g1 cs1=>
   rw[hg]at ik;cases ik;have nA:∀Fk,st.Gn (.slot s j0) Fk={st with slots:=st.slots.set s (.val g1 Fk)}:=λFk=>by simp only[AS.Gn,hg,AS.put,fV]
   obtain⟨fp,hr,hn,hl⟩:=h.slot s;rw[hg]at hr;obtain⟨vs,ap8,hr⟩:=hr;obtain⟨f1,f2,f3,rfl,Fj,hle,K4,OY,FQ⟩:=core (.slot s) (st.Gn (.slot s j0) (eP csO (lh.pos (.slot s j0)-j) (bg st.ep ((csO.drop (lh.pos (.slot s j0)-j)).take cs.length)))) hr hn hl (by rw[nA]) (by rw[nA]) (λ_ q=>by rw[nA];exact q);have Ax:∀b∈f2,g.eX b=some (.slot s):=λb hb=>hl b (by simp[hb]);refine⟨{g with eX:=λb=>if b∈f2 then some (.hand 0) else g.eX b},λ_=>rfl,h.step (λy=>y≠ .slot s) hle h.defers ?_ ?_ h.frame (Pr f2 _ Ax) (λb y hk hb=>⟨abK f2 _ Ax b y hk hb,rfl,rfl⟩) ?_ ?_ (λk u bv hk=> .inr (hh1 FQ k u bv hk)) (.inl ⟨by simp,by rw[nA]⟩)⟩;rw[nA];simpa using h.size;rw[nA];simpa using h.bsize;intro i bv hi;rw[nA]at hi;have uL:(st.slots.set s (.val g1 _))[i]?=some bv:=hi;by_cases his:i=s;subst his;rw[bG]at uL;simp only[cg]at uL;split at uL;simp at uL;subst uL;refine .inr ⟨f1++f3,⟨vs,ap8,K4⟩,OY,λb hb=>?_⟩;show(if b∈f2 then _ else _)=_;rw[aG (Fj b hb)];exact hl b (by rcases az.1 hb with k|k<;>simp[k]);cases uL;rw[aP (cR his)]at uL;exact .inl ⟨by simpa using his,uL,rfl⟩;intro t Fk hb;rw[nA]at hb;exact .inl ⟨by simp,hb,rfl⟩
 |box s j0=>
  have kq:st.boxes[s]?=some (some csO):=by simp only[AS.J6,ej]at ik;cases hb:st.boxes[s]? with|none=>simp[hb]at ik|some q=>rw[hb]at ik;simp at ik;rw[ik]
  have Ay:s<st.boxes.length:=(aC.1 kq).1;have nA:∀Fk,st.Gn (.box s j0) Fk={st with boxes:=st.boxes.set s (some Fk)}:=λFk=>by simp only[AS.Gn,AS.fj,fV]
  obtain⟨arr,T,fr,fp,kL,tN,hr,hn,xH,hl,IV,IY⟩:=h.boxes s csO kq;obtain⟨f1,f2,f3,rfl,Fj,hle,K4,OY,FQ⟩:=core (.box s) (st.Gn (.box s j0) (eP csO (lh.pos (.box s j0)-j) (bg st.ep ((csO.drop (lh.pos (.box s j0)-j)).take cs.length)))) hr hn hl (by rw[nA]) (by rw[nA]) (λt ht=>by rw[nA];obtain⟨c0,hc0⟩:=ht;by_cases uM:s=t;subst uM;exact⟨_,by simp[Ay];rfl⟩;exact⟨c0,by rw[aP uM];exact hc0⟩);have Ax:∀b∈f2,g.eX b=some (.box s):=λb hb=>hl b (by simp[hb]);refine⟨{g with eX:=λb=>if b∈f2 then some (.hand 0) else g.eX b},λ_=>rfl,h.step (λy=>y≠ .box s) hle h.defers ?_ ?_ h.frame (Pr f2 _ Ax) (λb y hk hb=>⟨abK f2 _ Ax b y hk hb,rfl,rfl⟩) ?_ ?_ (λk u bv hk=> .inr (hh1 FQ k u bv hk)) (.inl ⟨by simp,by rw[nA]⟩)⟩;rw[nA];exact h.size;rw[nA];simpa using h.bsize;intro i bv hi;rw[nA]at hi;exact .inl ⟨by simp,hi,rfl⟩;intro t Fk hb;rw[nA]at hb;have ix:(st.boxes.set s (some _))[t]?=some (some Fk):=hb;by_cases uM:t=s;subst uM;rw[bG]at ix;simp only[cg,Ay]at ix;simp at ix;subst ix;have K5:g.β t∉f2:=λhm=>xH (by simp[hm]);refine .inr ⟨arr,T,fr,f1++f3,kL,tN,K4,OY,λhm=>xH (by rcases az.1 hm with k|k<;>simp[k]),λb hb=>?_,?_,IY⟩;show(if b∈f2 then _ else _)=_;rw[aG (Fj b hb)];exact hl b (by rcases az.1 hb with k|k<;>simp[k]);show(if g.β t∈f2 then _ else _)=_;rw[aG K5];exact IV;rw[aP (cR uM)]at ix;exact .inl ⟨by simpa using uM,ix,rfl⟩
 |io j0=>simp only[AS.J6,bp]at ik;subst ik;obtain⟨fp,hr,hn,hl⟩:=h.io;obtain⟨f1,f2,f3,rfl,Fj,hle,K4,OY,FQ⟩:=core .io (st.Gn (.io j0) (eP st.io (lh.pos (.io j0)-j) (bg st.ep ((st.io.drop (lh.pos (.io j0)-j)).take cs.length)))) hr hn hl rfl rfl (λ_ q=>q);have Ax:∀b∈f2,g.eX b=some .io:=λb hb=>hl b (by simp[hb]);refine⟨{g with eX:=λb=>if b∈f2 then some (.hand 0) else g.eX b},λ_=>rfl,h.step (λy=>y≠ .io) hle h.defers h.size h.bsize h.frame (Pr f2 _ Ax) (λb y hk hb=>⟨abK f2 _ Ax b y hk hb,rfl,rfl⟩) (λi bv hi=> .inl ⟨by simp,hi,rfl⟩) (λt Fk hb=> .inl ⟨by simp,hb,rfl⟩) (λk u bv hk=> .inr (hh1 FQ k u bv hk)) (.inr ⟨f1++f3,K4,OY,λb hb=>?_⟩)⟩;show(if b∈f2 then _ else _)=_;rw[aG (Fj b hb)];exact hl b (by rcases az.1 hb with k|k<;>simp[k])
 cases hc;cases hc;cases hc;cases hc
theorem afA {o:Oper}(ho:o.op=.assign x)(h:pc C st a w){K:AS->ay R}(hk:Sw o x st K=some r):nC P C o a w K r:=by
 have eU:(execOp a.eval o).run P w=.ok (.value (a.eval x)) w:=by simp[execOp,ho]
 obtain⟨g,hg⟩:=h;unfold Sw at hk;split at hk;rename_i v bU hc;obtain⟨g',_,oX⟩:=hg.ams hc;exact⟨_,_,_,.inl eU,ew.Ez oX o.dst,hk⟩;cases hk
theorem Qr {E:Env}(hE:jR P E.ty){o:Oper}{T:TypeId}{p:Operand}(hd:o.dst=none)(ho:o.op=.store T p x)(h:pc C st a w){K:AS->ay R}(hk:yo E T p x st K=some r):nC P C o a w K r:=by obtain⟨g,hg⟩:=h;unfold yo at hk;split at hk;rename_i sh s off hT hp;have vZ:=hg.rd p;rw[hp]at vZ;have vZ:=CV vZ;split at hk;rename_i gg vs bU hc;obtain⟨g',K5,oX⟩:=hg.ams hc;split at hk;rename_i cs kq;split at hk;rename_i hlen;split at hk;rename_i ib;exact HX hE hd ho hT (by rw[K5];exact vZ) oX kq hlen.1 hlen.2 ib hk;cases hk;cases hk;cases hk;cases hk;cases hk
structure Sound (P:Program) (E:Env) (Γ:BA):Prop where
 ty:jR P E.ty
 eqs:VQ P E.eqs
 fts:acW P E.fts
 fns:∀f,iJ P f (Γ f)
 mixed:P.follows .mixedOrders=true
theorem nC.wp {o:Oper}{K:AS->ay R}(h:nC P C o a w K r)(next:Act->World->Prop)(Q:Exit->Act->World->Prop)(ic:∀bU a' w',pc C bU a' w'->K bU=some r->next a' w'):o.wp P a w next Q:=by obtain⟨v,w',bU,eU,hs,hk⟩:=h;unfold Oper.wp;rcases eU with eU|⟨rfl,eU⟩;rw[eU];exact ic _ _ _ hs hk;rw[eU];exact ic _ _ _ hs hk
theorem ad4 {E:Env}(hS:Sound P E Γ){o:Oper}(h:pc C st a w){K:AS->ay R}(hk:cW E Γ an o st K=some r)(next:Act->World->Prop)(Q:Exit->Act->World->Prop)(ic:∀bU a' w',pc C bU a' w'->K bU=some r->next a' w'):o.wp P a w next Q:=by
 unfold cW at hk;split at hk;·rename_i x ho;exact(afN ho h hk).wp next Q ic
 ·rename_i x ho;split at hk;·exact(afA ho h hk).wp next Q ic
  ·exact(V1 ho h hk).wp next Q ic
 ·rename_i c x y ho;exact(af9 ho h hk).wp next Q ic
 ·rename_i T ho;exact(ZP hS.ty ho h hk).wp next Q ic
 ·rename_i T x ho;exact(ahn ho h hk).wp next Q ic
 ·rename_i T p ho;exact(afE hS.ty ho h hk).wp next Q ic
 ·rename_i T p x ho;split at hk
  ·rename_i hd;split at hk;·exact(Qr hS.ty hd ho h hk).wp next Q ic
   ·exact(acL hS.ty hd ho h hk).wp next Q ic
  cases hk
 ·rename_i x ho;split at hk;·rename_i s off hx;exact(Rh ho h hx hk).wp next Q ic
  ·rename_i fl e y i off hx;exact(Lw ho h hx hk).wp next Q ic
  cases hk
 ·rename_i op T x y T' ho;exact(ahk hS.ty hS.eqs ho h hk).wp next Q ic
 ·rename_i op T x ho;exact(amf ho h hk).wp next Q ic
 ·rename_i S p f ho;exact(aaX hS.ty ho h hk).wp next Q ic
 ·rename_i T x i ho;exact(Pg hS.ty ho h hk).wp next Q ic
 ·rename_i T x i ho;exact(abC hS.ty ho h hk).wp next Q ic
 ·rename_i T parts ho;exact(Z5 hS.ty ho h hk).wp next Q ic
 ·rename_i T len parts ho;exact(Nc hS.ty ho h hk).wp next Q ic
 ·rename_i T n c ho;exact(Px hS.ty ho h hk).wp next Q ic
 ·rename_i T x lo hi ho;exact(acx hS.ty ho h hk).wp next Q ic
 ·rename_i S t f ho;exact(Wy hS.ty hS.fts ho h hk).wp next Q ic
 ·rename_i args ts ho;exact(aeC hS.ty ho h hk).wp next Q ic
 ·rename_i src dst x ho;exact(TM hS.ty ho h hk).wp next Q ic
 ·rename_i t i ho;exact(Uh ho h hk).wp next Q ic
 ·rename_i args ts ho;exact(ai7 hS.ty ho h hk).wp next Q ic
 ·rename_i args ts ho;exact(ajg ho h hk).wp next Q ic
 ·rename_i args ts ho;exact(aje ho h hk).wp next Q ic
 ·rename_i args ts ho;exact(VX hS.ty ho h hk).wp next Q ic
 ·rename_i f args ts ho;exact ak4 hS.fns ho h hk next Q ic
 cases hk
theorem pc.forget (h:pc C st a w)(d:ay Nat):pc C (st.put d (.one .un)) (a.put d undef) w:=h.put d (λ_ _=>nq ⟨rfl,rfl⟩)
theorem pc.known (h:pc C st a w){b:Bool}(hg:st.get d=.val false [.bool b]):a.tmps.getD d undef=.bool b:=by obtain⟨g,oX⟩:=h;obtain⟨fp,hr,_⟩:=oX.slot d;rw[hg]at hr;exact xd hr
theorem Vd:a.put (some d) (a.tmps.getD d undef)=a:=by cases a with|mk tmps defers=>simp only[Act.put];congr 1;apply Array.ext_getElem?;intro i;rw[Array.getElem?_setIfInBounds];by_cases h:d=i;subst h;by_cases hs:d<tmps.size;simp[hs,Array.getD];simp[hs];simp[h]
theorem pc.refine(h:pc C st a w){b:Bool}(hg:st.get d=.val false [.bool b]):pc C (st.put (some d) (.one (.bool b))) a w:=by have hk:=h.known hg;have:=h.put (some d) (v:=.bool b) (av:=.one (.bool b)) (λ_ _=>nq ⟨rfl,rfl⟩);rw[<-hk,Vd]at this;exact this
theorem W3 {E:Env}(hS:Sound P E Γ){ops:Array Oper}{o:Oper}(h:pc C st a w){K:AS->ay R}(hk:gX E Γ an ops.toList o st K=some r)(next:Act->World->Prop)(Q:Exit->Act->World->Prop)(ic:∀bU a' w',pc C bU a' w'->K bU=some r->next a' w'): if Region.wanted o (yielded ops a.tmps) then o.wp P a w next Q\/(o.asks P a w/\LetsOut Q) else next (a.put o.dst undef) w:=by
 unfold gX at hk;split at hk;·rename_i hgd;rw[aH (by simp[Region.wanted,hgd])];exact .inl (ad4 hS h hk next Q ic)
 ·rename_i j IM hgd;split at hk
  ·rename_i d aeY;have amH:(ops[j]?).bind (·.dst)=some d:=by rw[ej]at aeY;simpa using aeY
   split at hk
   ·rename_i b hb;have hkn:=h.known hb;have hdl:d<a.tmps.size:=by rcases cn d a.tmps.size with gF|BQ;exact gF;simp[Array.getD,Nat.not_lt.2 BQ,undef]at hkn
    have hy:yielded ops a.tmps j=some b:=by
     unfold yielded;rw[amH];have:a.tmps[d]?=some (.bool b):=by rw[Array.getElem?_eq_getElem hdl];simp[Array.getD,hdl]at hkn;rw[hkn]
     simp[this]
    have hr:=h.refine hb
    have main:∀t,b=t->(if t==IM then cW E Γ an o (st.put (some d) (.one (.bool t))) K else K ((st.put (some d) (.one (.bool t))).put o.dst (.one .un)))=some r->
     if Region.wanted o (yielded ops a.tmps) then o.wp P a w next Q\/(o.asks P a w/\LetsOut Q) else next (a.put o.dst undef) w:=by
     rintro t rfl hk
     have hw:Region.wanted o (yielded ops a.tmps)=(b==IM):=by simp only[Region.wanted,hgd,hy];cases b<;>cases IM<;>rfl
     rw[hw]
     cases hbw:(b==IM)with
     |true=>
      rw[hbw]at hk
      simp only[cg]at hk⊢
      exact .inl (ad4 hS hr hk next Q ic)
     |false=>
      rw[hbw]at hk
      simp only[bm,cv]at hk⊢
      exact ic _ _ _ (hr.forget o.dst) hk
    cases b with|true=>exact main true rfl hk|false=>exact main false rfl hk
   rename_i hb;obtain⟨g,hg⟩:=id h;obtain⟨fp,hr,_⟩:=hg.slot d;rw[hb]at hr;have hun:=(fb hr).1;have hy:yielded ops a.tmps j=none:=by
    unfold yielded;rw[amH];simp only[eZ];rcases cn d a.tmps.size with gF|BQ;have:a.tmps[d]?=some undef:=by rw[Array.getElem?_eq_getElem gF];simp[Array.getD,gF]at hun;rw[hun]
    rw[this];rfl;rw[Array.getElem?_eq_none BQ]
   have hw:Region.wanted o (yielded ops a.tmps)=false:=by simp only[Region.wanted,hgd,hy];cases IM<;>rfl
   rw[hw];exact ic _ _ _ (h.forget o.dst) hk;cases hk
  cases hk
theorem ajq {E:Env}(hS:Sound P E Γ){ops:Array Oper}{Q:Exit->Act->World->Prop}{K:AS->ay R}
 (hq:∀bU a' w',pc C bU a' w'->K bU=some r->Q .normal a' w'):∀(n i:Nat)(st:AS)(a:Act)(w:World),i+n=ops.size->pc C st a w->U6 E Γ an ops.toList (ops.toList.drop i) st K=some r->
  wpOps P ops Q ((List.range' i n)) a w
 |0,i,st,a,w,hi,h,hk=>by rw[dg (by simp;omega)]at hk;exact hq st a w h hk
 |n+1,i,st,a,w,hi,h,hk=>by
  have NJ:i<ops.toList.length:=by simp;omega
  rw[ca NJ]at hk;have ho:ops[i]?=some ops.toList[i]:=by rw[<-cD];exact ak NJ
  rw[List.range'_succ,wpOps,ho];simp only;have:=W3 hS (ops:=ops) h hk (wpOps P ops Q (List.range' (i+1) n)) Q (λbU a' w' hs FU=>ajq hS hq n (i+1) bU a' w' (by omega) hs FU);exact this
end Go.Dn
