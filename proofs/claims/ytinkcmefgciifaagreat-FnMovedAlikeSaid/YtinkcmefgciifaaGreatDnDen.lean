import Derived.Test.YtinkcmefgciifaaGreatDnCall
/- The soundness of the abstract semantics: operations, regions, loops, functions. -/
namespace Go.Dn
open Go.RowKit
variable {P:Program} {C:Ctx} {st:AS} {a:Act} {w:World} {R:Type} {r:R}
variable {an:An} {Γ:yk} {d:Nat} {x:Operand}
theorem aaM:∀(os ss:ax AC){r:ax AC},np os ss=some r->r.all AC.afF=true/\r.map AC.strip=r:=by
 intro os;induction os with
 |nil=>intro ss r h;cases ss with|nil=>simp[np]at h;subst h;exact⟨rfl,rfl⟩|cons _ _=>simp[np]at h
 |cons o os ih=>
  intro ss r h;cases ss with
  |nil=>unfold np at h;split at h<;>first|contradiction|cases h
  |cons s ss=>
   unfold np at h;split at h;contradiction;rename_i h1 h2;injection h1 with h1 Ml;subst Ml;injection h2 with h2 QK;subst QK;rw[Bool.cond_eq_ite]at h;split at h;obtain⟨r',hr,h⟩:=aO.1 h;cases h;obtain⟨k1,k2⟩:=ih _ hr;exact⟨by simp[AC.afF,k1],by simp[AC.strip,k2]⟩;cases h
   all_goals first
    |cases h
    |(rename_i h1 h2
      injection h1 with h1 Ml;subst Ml
      injection h2 with h2 QK;subst QK
      obtain⟨r',hr,h⟩:=aO.1 h
      cases h
      obtain⟨k1,k2⟩:=ih _ hr
      exact⟨by simp[AC.afF,AC.jo,k1],by simp[AC.strip,k2]⟩)
theorem XT:∀{cs:ax AC},cs.all AC.afF=true->∀{c:RC}{A:Rg}{hw:Nat->Nat}{w:World}{vs:iG}{fp:fy},bD (fK A hw w) vs cs fp->c.w=w->c.hw=hw->bD c vs (cs.map AC.strip) fp
 |[],_,c,A,hw,w,vs,fp,h,_,_=>by cases vs with|nil=>exact h|cons _ _=>exact h.elim
 |x::cs,mB,c,A,hw,w,vs,fp,h,QL,D0=>by
  cases vs with
  |nil=>exact h.elim
  |cons v vs=>
   obtain⟨f1,f2,rfl,h1,h2⟩:=h;simp only[cc,ae]at mB;refine⟨f1,f2,rfl,?_,XT mB.2 h2 QL D0⟩;cases x with
   |sl fl e xs=>cases fl with|own t=>exact⟨by rw[QL,D0];exact h1.1,by simp⟩|arg _=>cases mB.1|loc _ _=>cases mB.1|nest _ _ _ _ _ _=>cases mB.1|part _ _ _ _=>cases mB.1|fi _ _ _=>cases mB.1
   |int k n=>exact h1
   |bool b=>exact h1
   |str s=>exact h1
   |fn f=>exact h1
   |jB=>cases mB.1
   |ptr s off=>cases mB.1
   |zX fl e y i off=>cases mB.1
   |un=>cases mB.1
   |bot=>cases mB.1
theorem dP.agv {g:Gh}(h:dP C g st a w []){v:AV}{bN:AS}(hc:OS st x=some (v,bN)):∃g',(∀s,g'.β s=g.β s)/\dP C g' bN a w [(a.eval x,v)]:=by
 unfold OS at hc;have KT:=h.rd x;split at hc;rename_i gg cs hx;rw[hx]at KT;obtain⟨vs0,fj,NG⟩:=KT;split at hc;rename_i rt j PB;split at hc;rename_i Xq gO;split at hc;rename_i qg acY;cases hc;have ahI:=MS _ _ acY;have MB:=aaM _ _ acY
 have core:∀(o:jM)(W1:AS){vs:iG}{fp:fy},bD (cM C g st w) vs Xq fp->fp.Nodup->(∀b∈fp,g.ej b=some o)->W1.ep=st.ep->W1.iss=st.iss->(∀s,jb st s->jb W1 s)->
  ∃f1 f2 f3,fp=f1++f2++f3/\(∀b∈f1++f3,b∉f2)/\
   (cM C g st w).Le (cM C {g with ej:=λb=>if b∈f2 then some (.hand 0) else g.ej b} W1 w)/\
   bD (cM C {g with ej:=λb=>if b∈f2 then some (.hand 0) else g.ej b} W1 w) vs (dZ Xq (rt.pos-j) (aU st.ep ((Xq.drop (rt.pos-j)).take cs.length))) (f1++f3)/\(f1++f3).Nodup/\
   Hf C {g with ej:=λb=>if b∈f2 then some (.hand 0) else g.ej b} W1 w 0 (a.eval x) (.val gg qg):=by
  intro o W1 vs fp hr hn hl xh Jq tQ
  obtain⟨f1,f2,f3,rfl,r1,r2,r3⟩:=hr.mid (rt.pos-j) cs.length
  have BX:=hn
  rw[aR]at BX
  have n1:=aJ.1 BX
  have n2:=aJ.1 n1.2.1
  have hle:(cM C g st w).Le (cM C {g with ej:=λb=>if b∈f2 then some (.hand 0) else g.ej b} W1 w):=
   ⟨rfl,λt ht=>⟨by show mC W1 t;have T7:mC st t:=ht;simpa[mC,Jq]using T7,rfl⟩,λ_ _ _ _ _ hu=>hu,by show st.ep<=W1.ep;omega,λs hs=>⟨tQ s hs,rfl⟩,λ_ b o u ho hu=>⟨ho,hu⟩⟩
  refine⟨f1,f2,f3,rfl,?_,hle,?_,?_,?_⟩
  ·intro b hb h2
   rcases az.1 hb with hb|hb
   ·exact n1.2.2 b hb b (bt _ h2) rfl
   ·exact n2.2.2 b h2 b hb rfl
  ·have Hy:=W0 (c':=cM C {g with ej:=λb=>if b∈f2 then some (.hand 0) else g.ej b} W1 w) (seg:=aU st.ep ((Xq.drop (rt.pos-j)).take cs.length)) rfl (by rw[r2.length];exact ahI)
    (r1.mono hle (λb _=>⟨rfl,rfl⟩)) ((r2.aU).mono hle (by simp)) (r3.mono hle (λb _=>⟨rfl,rfl⟩))
   rw[bS]at Hy
   exact Hy
  ·refine aJ.2 ⟨n1.1,n2.2.1,?_⟩
   rintro b hb c hc rfl
   exact n1.2.2 b hb b (bj _ hc) rfl
  ·have an6:=WJ (A:=λ_ _ _=>False) _ _ acY NG r2
   have ta:=XT MB.1 (c:=cM C g st w) an6 rfl rfl
   rw[MB.2]at ta
   refine⟨f2,⟨vs0,fj,ta.mono hle (λb _=>⟨rfl,rfl⟩)⟩,n2.1,λb hb=>?_⟩
   show(if b∈f2 then _ else _)=_
   rw[aH hb]
 have Ld:∀(f2:fy)(o:jM),(∀b∈f2,g.ej b=some o)->∀b y,(if b∈f2 then some (jM.hand 0) else g.ej b)=some y->b<w.heap.size/\(C.w0.heap.size<=b\/C.M b):=by intro f2 o hf b y hy;by_cases hm:b∈f2;exact h.fY b _ (hf b hm);rw[aI hm]at hy;exact h.fY b y hy
 have VY:∀(f2:fy)(o:jM),(∀b∈f2,g.ej b=some o)->∀b y,y≠o->g.ej b=some y->(if b∈f2 then some (jM.hand 0) else g.ej b)=some y:=by intro f2 o hf b y hyo hb;rw[aI (λhm=>hyo (by have:=hf b hm;rw[hb]at this;simpa using this))];exact hb
 have hh1:∀{g2:Gh}{W1:AS},Hf C g2 W1 w 0 (a.eval x) (.val gg qg)->∀k u bv,[(a.eval x,AV.val gg qg)][k]?=some (u,bv)->Hf C g2 W1 w k u bv:=by
  intro g2 W1 hh k u bv hk;cases k with
  |zero=>simp only[cv,bc,Prod.mk.injEq]at hk;obtain⟨rfl,rfl⟩:=hk;exact hh
  |succ k=>simp at hk
 cases rt with
 |slot s j0=>
  simp only[AS.Gu]at gO;cases hg:st.get s with
  |uW ts=>rw[hg]at gO;cases gO
  |val g1 cs1=>
   rw[hg]at gO;cases gO;have mF:∀Cb,st.C3 (.slot s j0) Cb={st with slots:=st.slots.set s (.val g1 Cb)}:=λCb=>by simp only[AS.C3,hg,AS.put,fu]
   obtain⟨fp,hr,hn,hl⟩:=h.slot s;rw[hg]at hr;obtain⟨vs,ajC,hr⟩:=hr;obtain⟨f1,f2,f3,rfl,B6,hle,Hy,KO,CD⟩:=core (.slot s) (st.C3 (.slot s j0) (dZ Xq (ky.pos (.slot s j0)-j) (aU st.ep ((Xq.drop (ky.pos (.slot s j0)-j)).take cs.length)))) hr hn hl (by rw[mF]) (by rw[mF]) (λ_ q=>by rw[mF];exact q);have Bf:∀b∈f2,g.ej b=some (.slot s):=λb hb=>hl b (by simp[hb]);refine⟨{g with ej:=λb=>if b∈f2 then some (.hand 0) else g.ej b},λ_=>rfl,h.step (λy=>y≠ .slot s) hle h.defers ?_ ?_ h.frame (Ld f2 _ Bf) (λb y hk hb=>⟨VY f2 _ Bf b y hk hb,rfl,rfl⟩) ?_ ?_ (λk u bv hk=> .inr (hh1 CD k u bv hk)) (.inl ⟨by simp,by rw[mF]⟩)⟩;rw[mF];simpa using h.size;rw[mF];simpa using h.bsize;intro i bv hi;rw[mF]at hi;have nN:(st.slots.set s (.val g1 _))[i]?=some bv:=hi;by_cases his:i=s;subst his;rw[br]at nN;simp only[bQ]at nN;split at nN;simp at nN;subst nN;refine .inr ⟨f1++f3,⟨vs,ajC,Hy⟩,KO,λb hb=>?_⟩;show(if b∈f2 then _ else _)=_;rw[aI (B6 b hb)];exact hl b (by rcases az.1 hb with k|k<;>simp[k]);cases nN;rw[aN (cO his)]at nN;exact .inl ⟨by simpa using his,nN,rfl⟩;intro t Cb hb;rw[mF]at hb;exact .inl ⟨by simp,hb,rfl⟩
 |box s j0=>
  have jH:st.boxes[s]?=some (some Xq):=by simp only[AS.Gu,dK]at gO;cases hb:st.boxes[s]? with|none=>simp[hb]at gO|some q=>rw[hb]at gO;simp at gO;rw[gO]
  have xD:s<st.boxes.length:=(aG.1 jH).1;have mF:∀Cb,st.C3 (.box s j0) Cb={st with boxes:=st.boxes.set s (some Cb)}:=λCb=>by simp only[AS.C3,AS.eI,fu]
  obtain⟨arr,T,fr,fp,kb,rz,hr,hn,vd,hl,Fl,Fo⟩:=h.boxes s Xq jH;obtain⟨f1,f2,f3,rfl,B6,hle,Hy,KO,CD⟩:=core (.box s) (st.C3 (.box s j0) (dZ Xq (ky.pos (.box s j0)-j) (aU st.ep ((Xq.drop (ky.pos (.box s j0)-j)).take cs.length)))) hr hn hl (by rw[mF]) (by rw[mF]) (λt ht=>by rw[mF];obtain⟨c0,T1⟩:=ht;by_cases su:s=t;subst su;exact⟨_,by simp[xD];rfl⟩;exact⟨c0,by rw[aN su];exact T1⟩);have Bf:∀b∈f2,g.ej b=some (.box s):=λb hb=>hl b (by simp[hb]);refine⟨{g with ej:=λb=>if b∈f2 then some (.hand 0) else g.ej b},λ_=>rfl,h.step (λy=>y≠ .box s) hle h.defers ?_ ?_ h.frame (Ld f2 _ Bf) (λb y hk hb=>⟨VY f2 _ Bf b y hk hb,rfl,rfl⟩) ?_ ?_ (λk u bv hk=> .inr (hh1 CD k u bv hk)) (.inl ⟨by simp,by rw[mF]⟩)⟩;rw[mF];exact h.size;rw[mF];simpa using h.bsize;intro i bv hi;rw[mF]at hi;exact .inl ⟨by simp,hi,rfl⟩;intro t Cb hb;rw[mF]at hb;have gX:(st.boxes.set s (some _))[t]?=some (some Cb):=hb;by_cases su:t=s;subst su;rw[br]at gX;simp only[bQ,xD]at gX;simp at gX;subst gX;have Hz:g.β t∉f2:=λhm=>vd (by simp[hm]);refine .inr ⟨arr,T,fr,f1++f3,kb,rz,Hy,KO,λhm=>vd (by rcases az.1 hm with k|k<;>simp[k]),λb hb=>?_,?_,Fo⟩;show(if b∈f2 then _ else _)=_;rw[aI (B6 b hb)];exact hl b (by rcases az.1 hb with k|k<;>simp[k]);show(if g.β t∈f2 then _ else _)=_;rw[aI Hz];exact Fl;rw[aN (cO su)]at gX;exact .inl ⟨by simpa using su,gX,rfl⟩
 |io j0=>simp only[AS.Gu,bc]at gO;subst gO;obtain⟨fp,hr,hn,hl⟩:=h.io;obtain⟨f1,f2,f3,rfl,B6,hle,Hy,KO,CD⟩:=core .io (st.C3 (.io j0) (dZ st.io (ky.pos (.io j0)-j) (aU st.ep ((st.io.drop (ky.pos (.io j0)-j)).take cs.length)))) hr hn hl rfl rfl (λ_ q=>q);have Bf:∀b∈f2,g.ej b=some .io:=λb hb=>hl b (by simp[hb]);refine⟨{g with ej:=λb=>if b∈f2 then some (.hand 0) else g.ej b},λ_=>rfl,h.step (λy=>y≠ .io) hle h.defers h.size h.bsize h.frame (Ld f2 _ Bf) (λb y hk hb=>⟨VY f2 _ Bf b y hk hb,rfl,rfl⟩) (λi bv hi=> .inl ⟨by simp,hi,rfl⟩) (λt Cb hb=> .inl ⟨by simp,hb,rfl⟩) (λk u bv hk=> .inr (hh1 CD k u bv hk)) (.inr ⟨f1++f3,Hy,KO,λb hb=>?_⟩)⟩;show(if b∈f2 then _ else _)=_;rw[aI (B6 b hb)];exact hl b (by rcases az.1 hb with k|k<;>simp[k])
 cases hc;cases hc;cases hc;cases hc
theorem ZV {o:Oper}(ho:o.op=.assign x)(h:ij C st a w){K:AS->ay R}(hk:NV o x st K=some r):mz P C o a w K r:=by
 have ed:(execOp a.eval o).run P w=.ok (.value (a.eval x)) w:=by simp[execOp,ho]
 obtain⟨g,hg⟩:=h;unfold NV at hk;split at hk;rename_i v bN hc;obtain⟨g',_,nE⟩:=hg.agv hc;exact⟨_,_,_,.inl ed,dP.Bw nE o.dst,hk⟩;cases hk
theorem L2 {E:Env}(hE:jk P E.ty){o:Oper}{T:TypeId}{p:Operand}(hd:o.dst=none)(ho:o.op=.store T p x)(h:ij C st a w){K:AS->ay R}(hk:vC E T p x st K=some r):mz P C o a w K r:=by obtain⟨g,hg⟩:=h;unfold vC at hk;split at hk;rename_i sh s off hT hp;have tG:=hg.rd p;rw[hp]at tG;have tG:=zK tG;split at hk;rename_i gg vs bN hc;obtain⟨g',Hz,nE⟩:=hg.agv hc;split at hk;rename_i cs jH;split at hk;rename_i hlen;split at hk;rename_i gF;exact Ew hE hd ho hT (by rw[Hz];exact tG) nE jH hlen.1 hlen.2 gF hk;cases hk;cases hk;cases hk;cases hk;cases hk
structure Sound (P:Program) (E:Env) (Γ:yk):Prop where
 ty:jk P E.ty
 eqs:QQ P E.eqs
 fts:Xh P E.fts
 fns:∀f,gM P f (Γ f)
 mixed:P.follows .mixedOrders=true
theorem mz.wp {o:Oper}{K:AS->ay R}(h:mz P C o a w K r)(next:Act->World->Prop)(Q:Exit->Act->World->Prop)(gG:∀bN a' w',ij C bN a' w'->K bN=some r->next a' w'):o.wp P a w next Q:=by obtain⟨v,w',bN,ed,hs,hk⟩:=h;unfold Oper.wp;rcases ed with ed|⟨rfl,ed⟩;rw[ed];exact gG _ _ _ hs hk;rw[ed];exact gG _ _ _ hs hk
theorem Yi {E:Env}(hS:Sound P E Γ){o:Oper}(h:ij C st a w){K:AS->ay R}(hk:da E Γ an o st K=some r)(next:Act->World->Prop)(Q:Exit->Act->World->Prop)(gG:∀bN a' w',ij C bN a' w'->K bN=some r->next a' w'):o.wp P a w next Q:=by
 unfold da at hk;split at hk;·rename_i x ho;exact(Z9 ho h hk).wp next Q gG
 ·rename_i x ho;split at hk;·exact(ZV ho h hk).wp next Q gG
  ·exact(QY ho h hk).wp next Q gG
 ·rename_i c x y ho;exact(aau ho h hk).wp next Q gG
 ·rename_i T ho;exact(Ue hS.ty ho h hk).wp next Q gG
 ·rename_i T x ho;exact(abF ho h hk).wp next Q gG
 ·rename_i T p ho;exact(ZZ hS.ty ho h hk).wp next Q gG
 ·rename_i T p x ho;split at hk
  ·rename_i hd;split at hk;·exact(L2 hS.ty hd ho h hk).wp next Q gG
   ·exact(W6 hS.ty hd ho h hk).wp next Q gG
  cases hk
 ·rename_i x ho;split at hk;·rename_i s off hx;exact(MP ho h hx hk).wp next Q gG
  ·rename_i fl e y i off hx;exact(HQ ho h hx hk).wp next Q gG
  cases hk
 ·rename_i op T x y T' ho;exact(abC hS.ty hS.eqs ho h hk).wp next Q gG
 ·rename_i op T x ho;exact(agk ho h hk).wp next Q gG
 ·rename_i S p f ho;exact(Ve hS.ty ho h hk).wp next Q gG
 ·rename_i T x i ho;exact(K8 hS.ty ho h hk).wp next Q gG
 ·rename_i T x i ho;exact(VQ hS.ty ho h hk).wp next Q gG
 ·rename_i T parts ho;exact(Ur hS.ty ho h hk).wp next Q gG
 ·rename_i T len parts ho;exact(Jn hS.ty ho h hk).wp next Q gG
 ·rename_i T n c ho;exact(Li hS.ty ho h hk).wp next Q gG
 ·rename_i T x lo hi ho;exact(WQ hS.ty ho h hk).wp next Q gG
 ·rename_i S t f ho;exact(Rm hS.ty hS.fts ho h hk).wp next Q gG
 ·rename_i args ts ho;exact(YH hS.ty ho h hk).wp next Q gG
 ·rename_i src dst x ho;exact(OT hS.ty ho h hk).wp next Q gG
 ·rename_i t i ho;exact(Pm ho h hk).wp next Q gG
 ·rename_i args ts ho;exact(adp hS.ty ho h hk).wp next Q gG
 ·rename_i args ts ho;exact(adw ho h hk).wp next Q gG
 ·rename_i args ts ho;exact(adv ho h hk).wp next Q gG
 ·rename_i args ts ho;exact(QU hS.ty ho h hk).wp next Q gG
 ·rename_i f args ts ho;exact afa hS.fns ho h hk next Q gG
 cases hk
theorem ij.forget (h:ij C st a w)(d:ay Nat):ij C (st.put d (.one .un)) (a.put d undef) w:=h.put d (λ_ _=>mq ⟨rfl,rfl⟩)
theorem ij.known (h:ij C st a w){b:Bool}(hg:st.get d=.val false [.bool b]):a.tmps.getD d undef=.bool b:=by obtain⟨g,nE⟩:=h;obtain⟨fp,hr,_⟩:=nE.slot d;rw[hg]at hr;exact uv hr
theorem Qc:a.put (some d) (a.tmps.getD d undef)=a:=by cases a with|mk tmps defers=>simp only[Act.put];congr 1;apply Array.ext_getElem?;intro i;rw[Array.getElem?_setIfInBounds];by_cases h:d=i;subst h;by_cases hs:d<tmps.size;simp[hs,Array.getD];simp[hs];simp[h]
theorem ij.refine(h:ij C st a w){b:Bool}(hg:st.get d=.val false [.bool b]):ij C (st.put (some d) (.one (.bool b))) a w:=by have hk:=h.known hg;have:=h.put (some d) (v:=.bool b) (av:=.one (.bool b)) (λ_ _=>mq ⟨rfl,rfl⟩);rw[<-hk,Qc]at this;exact this
theorem RK {E:Env}(hS:Sound P E Γ){ops:Array Oper}{o:Oper}(h:ij C st a w){K:AS->ay R}(hk:gu E Γ an ops.toList o st K=some r)(next:Act->World->Prop)(Q:Exit->Act->World->Prop)(gG:∀bN a' w',ij C bN a' w'->K bN=some r->next a' w'): if Region.wanted o (yielded ops a.tmps) then o.wp P a w next Q\/(o.asks P a w/\LetsOut Q) else next (a.put o.dst undef) w:=by
 unfold gu at hk;split at hk;·rename_i hgd;rw[aH (by simp[Region.wanted,hgd])];exact .inl (Yi hS h hk next Q gG)
 ·rename_i j Fg hgd;split at hk
  ·rename_i d Zc;have agE:(ops[j]?).bind (·.dst)=some d:=by rw[dK]at Zc;simpa using Zc
   split at hk
   ·rename_i b hb;have hkn:=h.known hb;have hdl:d<a.tmps.size:=by rcases cd d a.tmps.size with gY|yZ;exact gY;simp[Array.getD,Nat.not_lt.2 yZ,undef]at hkn
    have hy:yielded ops a.tmps j=some b:=by
     unfold yielded;rw[agE];have:a.tmps[d]?=some (.bool b):=by rw[Array.getElem?_eq_getElem hdl];simp[Array.getD,hdl]at hkn;rw[hkn]
     simp[this]
    have hr:=h.refine hb
    have main:∀t,b=t->(if t==Fg then da E Γ an o (st.put (some d) (.one (.bool t))) K else K ((st.put (some d) (.one (.bool t))).put o.dst (.one .un)))=some r->
     if Region.wanted o (yielded ops a.tmps) then o.wp P a w next Q\/(o.asks P a w/\LetsOut Q) else next (a.put o.dst undef) w:=by
     rintro t rfl hk
     have hw:Region.wanted o (yielded ops a.tmps)=(b==Fg):=by simp only[Region.wanted,hgd,hy];cases b<;>cases Fg<;>rfl
     rw[hw]
     cases hbw:(b==Fg)with
     |true=>
      rw[hbw]at hk
      simp only[bQ]at hk⊢
      exact .inl (Yi hS hr hk next Q gG)
     |false=>
      rw[hbw]at hk
      simp only[aY,bW]at hk⊢
      exact gG _ _ _ (hr.forget o.dst) hk
    cases b with|true=>exact main true rfl hk|false=>exact main false rfl hk
   rename_i hb;obtain⟨g,hg⟩:=id h;obtain⟨fp,hr,_⟩:=hg.slot d;rw[hb]at hr;have hun:=(eC hr).1;have hy:yielded ops a.tmps j=none:=by
    unfold yielded;rw[agE];simp only[eu];rcases cd d a.tmps.size with gY|yZ;have:a.tmps[d]?=some undef:=by rw[Array.getElem?_eq_getElem gY];simp[Array.getD,gY]at hun;rw[hun]
    rw[this];rfl;rw[Array.getElem?_eq_none yZ]
   have hw:Region.wanted o (yielded ops a.tmps)=false:=by simp only[Region.wanted,hgd,hy];cases Fg<;>rfl
   rw[hw];exact gG _ _ _ (h.forget o.dst) hk;cases hk
  cases hk
theorem adF {E:Env}(hS:Sound P E Γ){ops:Array Oper}{Q:Exit->Act->World->Prop}{K:AS->ay R}
 (hq:∀bN a' w',ij C bN a' w'->K bN=some r->Q .normal a' w'):∀(n i:Nat)(st:AS)(a:Act)(w:World),i+n=ops.size->ij C st a w->P6 E Γ an ops.toList (ops.toList.drop i) st K=some r->
  wpOps P ops Q ((List.range' i n)) a w
 |0,i,st,a,w,hi,h,hk=>by rw[cC (by simp;omega)]at hk;exact hq st a w h hk
 |n+1,i,st,a,w,hi,h,hk=>by
  have MA:i<ops.toList.length:=by simp;omega
  rw[bO MA]at hk;have ho:ops[i]?=some ops.toList[i]:=by rw[<-cl];exact aq MA
  rw[List.range'_succ,wpOps,ho];simp only;have:=RK hS (ops:=ops) h hk (wpOps P ops Q (List.range' (i+1) n)) Q (λbN a' w' hs CF=>adF hS hq n (i+1) bN a' w' (by omega) hs CF);exact this
end Go.Dn
