import Derived.Test.YtainmjjkipbciaaGreatDnCall
/- The soundness of the abstract semantics: operations, regions, loops, functions. -/
namespace Go.Dn
open Go.RowKit
variable {P:Program} {C:Ctx} {st:AS} {a:Act} {w:World} {R:Type} {r:R}
variable {an:An} {Γ:fy} {d:Nat} {x:Operand}
theorem aaj:∀(os ss:aw AC){r:aw AC},mM os ss=some r->r.all AC.ae8=true/\r.map AC.strip=r:=by
 intro os;induction os with
 |nil=>intro ss r h;cases ss with|nil=>simp[mM]at h;subst h;exact⟨rfl,rfl⟩|cons _ _=>simp[mM]at h
 |cons o os ih=>
  intro ss r h;cases ss with
  |nil=>unfold mM at h;split at h<;>first|contradiction|cases h
  |cons s ss=>
   unfold mM at h;split at h;contradiction;rename_i h1 h2;injection h1 with h1 LR;subst LR;injection h2 with h2 QB;subst QB;rw[Bool.cond_eq_ite]at h;split at h;obtain⟨r',hr,h⟩:=aM.1 h;cases h;obtain⟨k1,k2⟩:=ih _ hr;exact⟨by simp[AC.ae8,k1],by simp[AC.strip,k2]⟩;cases h
   all_goals first
    |cases h
    |(rename_i h1 h2
      injection h1 with h1 LR;subst LR
      injection h2 with h2 QB;subst QB
      obtain⟨r',hr,h⟩:=aM.1 h
      cases h
      obtain⟨k1,k2⟩:=ih _ hr
      exact⟨by simp[AC.ae8,AC.je,k1],by simp[AC.strip,k2]⟩)
theorem Xj:∀{cs:aw AC},cs.all AC.ae8=true->∀{c:RC}{A:Rg}{hw:Nat->Nat}{w:World}{vs:ir}{fp:fg},bE (fD A hw w) vs cs fp->c.w=w->c.hw=hw->bE c vs (cs.map AC.strip) fp
 |[],_,c,A,hw,w,vs,fp,h,_,_=>by cases vs with|nil=>exact h|cons _ _=>exact h.elim
 |x::cs,mY,c,A,hw,w,vs,fp,h,QC,Ds=>by
  cases vs with
  |nil=>exact h.elim
  |cons v vs=>
   obtain⟨f1,f2,rfl,h1,h2⟩:=h;simp only[cc,ae]at mY;refine⟨f1,f2,rfl,?_,Xj mY.2 h2 QC Ds⟩;cases x with
   |sl fl e xs=>cases fl with|own t=>exact⟨by rw[QC,Ds];exact h1.1,by simp⟩|arg _=>cases mY.1|loc _ _=>cases mY.1|nest _ _ _ _ _ _=>cases mY.1|part _ _ _ _=>cases mY.1|fa _ _ _=>cases mY.1
   |int k n=>exact h1
   |bool b=>exact h1
   |str s=>exact h1
   |fn f=>exact h1
   |jn=>cases mY.1
   |ptr s off=>cases mY.1
   |zk fl e y i off=>cases mY.1
   |un=>cases mY.1
   |bot=>cases mY.1
theorem dP.af7 {g:Gh}(h:dP C g st a w []){v:AV}{bK:AS}(hc:Og st x=some (v,bK)):∃g',(∀s,g'.β s=g.β s)/\dP C g' bK a w [(a.eval x,v)]:=by
 unfold Og at hc;have Ko:=h.rd x;split at hc;rename_i gg cs hx;rw[hx]at Ko;obtain⟨vs0,fE,M7⟩:=Ko;split at hc;rename_i rt j Kh;split at hc;rename_i WG gE;split at hc;rename_i po abL;cases hc;have ahV:=Mr _ _ abL;have L7:=aaj _ _ abL
 have core:∀(o:jx)(We:AS){vs:ir}{fp:fg},bE (cG C g st w) vs WG fp->fp.Nodup->(∀b∈fp,g.ef b=some o)->We.ep=st.ep->We.iss=st.iss->(∀s,iR st s->iR We s)->
  ∃f1 f2 f3,fp=f1++f2++f3/\(∀b∈f1++f3,b∉f2)/\
   (cG C g st w).Le (cG C {g with ef:=λb=>if b∈f2 then some (.hand 0) else g.ef b} We w)/\
   bE (cG C {g with ef:=λb=>if b∈f2 then some (.hand 0) else g.ef b} We w) vs (dZ WG (rt.pos-j) (aQ st.ep ((WG.drop (rt.pos-j)).take cs.length))) (f1++f3)/\(f1++f3).Nodup/\
   Gq C {g with ef:=λb=>if b∈f2 then some (.hand 0) else g.ef b} We w 0 (a.eval x) (.val gg po):=by
  intro o We vs fp hr hn hl wB Is tj
  obtain⟨f1,f2,f3,rfl,r1,r2,r3⟩:=hr.mid (rt.pos-j) cs.length
  have BB:=hn
  rw[aP]at BB
  have n1:=aI.1 BB
  have n2:=aI.1 n1.2.1
  have hle:(cG C g st w).Le (cG C {g with ef:=λb=>if b∈f2 then some (.hand 0) else g.ef b} We w):=
   ⟨rfl,λt ht=>⟨by show lT We t;have T6:lT st t:=ht;simpa[lT,Is]using T6,rfl⟩,λ_ _ _ _ _ hu=>hu,by show st.ep<=We.ep;omega,λs hs=>⟨tj s hs,rfl⟩,λ_ b o u ho hu=>⟨ho,hu⟩⟩
  refine⟨f1,f2,f3,rfl,?_,hle,?_,?_,?_⟩
  ·intro b hb h2
   rcases ay.1 hb with hb|hb
   ·exact n1.2.2 b hb b (bw _ h2) rfl
   ·exact n2.2.2 b h2 b hb rfl
  ·have GH:=Wd (c':=cG C {g with ef:=λb=>if b∈f2 then some (.hand 0) else g.ef b} We w) (seg:=aQ st.ep ((WG.drop (rt.pos-j)).take cs.length)) rfl (by rw[r2.length];exact ahV)
    (r1.mono hle (λb _=>⟨rfl,rfl⟩)) ((r2.aQ).mono hle (by simp)) (r3.mono hle (λb _=>⟨rfl,rfl⟩))
   rw[bR]at GH
   exact GH
  ·refine aI.2 ⟨n1.1,n2.2.1,?_⟩
   rintro b hb c hc rfl
   exact n1.2.2 b hb b (bj _ hc) rfl
  ·have arx:=V0 (A:=λ_ _ _=>False) _ _ abL M7 r2
   have sv:=Xj L7.1 (c:=cG C g st w) arx rfl rfl
   rw[L7.2]at sv
   refine⟨f2,⟨vs0,fE,sv.mono hle (λb _=>⟨rfl,rfl⟩)⟩,n2.1,λb hb=>?_⟩
   show(if b∈f2 then _ else _)=_
   rw[aF hb]
 have KJ:∀(f2:fg)(o:jx),(∀b∈f2,g.ef b=some o)->∀b y,(if b∈f2 then some (jx.hand 0) else g.ef b)=some y->b<w.heap.size/\(C.w0.heap.size<=b\/C.M b):=by intro f2 o hf b y hy;by_cases hm:b∈f2;exact h.fS b _ (hf b hm);rw[aH hm]at hy;exact h.fS b y hy
 have Vo:∀(f2:fg)(o:jx),(∀b∈f2,g.ef b=some o)->∀b y,y≠o->g.ef b=some y->(if b∈f2 then some (jx.hand 0) else g.ef b)=some y:=by intro f2 o hf b y hyo hb;rw[aH (λhm=>hyo (by have:=hf b hm;rw[hb]at this;simpa using this))];exact hb
 have hh1:∀{g2:Gh}{We:AS},Gq C g2 We w 0 (a.eval x) (.val gg po)->∀k u bv,[(a.eval x,AV.val gg po)][k]?=some (u,bv)->Gq C g2 We w k u bv:=by
  intro g2 We hh k u bv hk;cases k with
  |zero=>simp only[cr,ba,Prod.mk.injEq]at hk;obtain⟨rfl,rfl⟩:=hk;exact hh
  |succ k=>simp at hk
 cases rt with
 |slot s j0=>
  simp only[AS.FN]at gE;cases hg:st.get s with
  |uw ts=>rw[hg]at gE;cases gE
  |val g1 cs1=>
   rw[hg]at gE;cases gE;have lX:∀BK,st.CC (.slot s j0) BK={st with slots:=st.slots.set s (.val g1 BK)}:=λBK=>by simp only[AS.CC,hg,AS.put,fe]
   obtain⟨fp,hr,hn,hl⟩:=h.slot s;rw[hg]at hr;obtain⟨vs,amz,hr⟩:=hr;obtain⟨f1,f2,f3,rfl,BI,hle,GH,Kj,Ce⟩:=core (.slot s) (st.CC (.slot s j0) (dZ WG (jW.pos (.slot s j0)-j) (aQ st.ep ((WG.drop (jW.pos (.slot s j0)-j)).take cs.length)))) hr hn hl (by rw[lX]) (by rw[lX]) (λ_ q=>by rw[lX];exact q);have Ax:∀b∈f2,g.ef b=some (.slot s):=λb hb=>hl b (by simp[hb]);refine⟨{g with ef:=λb=>if b∈f2 then some (.hand 0) else g.ef b},λ_=>rfl,h.step (λy=>y≠ .slot s) hle h.defers ?_ ?_ h.frame (KJ f2 _ Ax) (λb y hk hb=>⟨Vo f2 _ Ax b y hk hb,rfl,rfl⟩) ?_ ?_ (λk u bv hk=> .inr (hh1 Ce k u bv hk)) (.inl ⟨by simp,by rw[lX]⟩)⟩;rw[lX];simpa using h.size;rw[lX];simpa using h.bsize;intro i bv hi;rw[lX]at hi;have ng:(st.slots.set s (.val g1 _))[i]?=some bv:=hi;by_cases his:i=s;subst his;rw[bu]at ng;simp only[bP]at ng;split at ng;simp at ng;subst ng;refine .inr ⟨f1++f3,⟨vs,amz,GH⟩,Kj,λb hb=>?_⟩;show(if b∈f2 then _ else _)=_;rw[aH (BI b hb)];exact hl b (by rcases ay.1 hb with k|k<;>simp[k]);cases ng;rw[aR (cM his)]at ng;exact .inl ⟨by simpa using his,ng,rfl⟩;intro t BK hb;rw[lX]at hb;exact .inl ⟨by simp,hb,rfl⟩
 |box s j0=>
  have jt:st.boxes[s]?=some (some WG):=by simp only[AS.FN,dI]at gE;cases hb:st.boxes[s]? with|none=>simp[hb]at gE|some q=>rw[hb]at gE;simp at gE;rw[gE]
  have wV:s<st.boxes.length:=(aG.1 jt).1;have lX:∀BK,st.CC (.box s j0) BK={st with boxes:=st.boxes.set s (some BK)}:=λBK=>by simp only[AS.CC,AS.eD,fe]
  obtain⟨arr,T,fr,fp,jJ,qM,hr,hn,uz,hl,EM,EO⟩:=h.boxes s WG jt;obtain⟨f1,f2,f3,rfl,BI,hle,GH,Kj,Ce⟩:=core (.box s) (st.CC (.box s j0) (dZ WG (jW.pos (.box s j0)-j) (aQ st.ep ((WG.drop (jW.pos (.box s j0)-j)).take cs.length)))) hr hn hl (by rw[lX]) (by rw[lX]) (λt ht=>by rw[lX];obtain⟨c0,W7⟩:=ht;by_cases rH:s=t;subst rH;exact⟨_,by simp[wV];rfl⟩;exact⟨c0,by rw[aR rH];exact W7⟩);have Ax:∀b∈f2,g.ef b=some (.box s):=λb hb=>hl b (by simp[hb]);refine⟨{g with ef:=λb=>if b∈f2 then some (.hand 0) else g.ef b},λ_=>rfl,h.step (λy=>y≠ .box s) hle h.defers ?_ ?_ h.frame (KJ f2 _ Ax) (λb y hk hb=>⟨Vo f2 _ Ax b y hk hb,rfl,rfl⟩) ?_ ?_ (λk u bv hk=> .inr (hh1 Ce k u bv hk)) (.inl ⟨by simp,by rw[lX]⟩)⟩;rw[lX];exact h.size;rw[lX];simpa using h.bsize;intro i bv hi;rw[lX]at hi;exact .inl ⟨by simp,hi,rfl⟩;intro t BK hb;rw[lX]at hb;have gM:(st.boxes.set s (some _))[t]?=some (some BK):=hb;by_cases rH:t=s;subst rH;rw[bu]at gM;simp only[bP,wV]at gM;simp at gM;subst gM;have GI:g.β t∉f2:=λhm=>uz (by simp[hm]);refine .inr ⟨arr,T,fr,f1++f3,jJ,qM,GH,Kj,λhm=>uz (by rcases ay.1 hm with k|k<;>simp[k]),λb hb=>?_,?_,EO⟩;show(if b∈f2 then _ else _)=_;rw[aH (BI b hb)];exact hl b (by rcases ay.1 hb with k|k<;>simp[k]);show(if g.β t∈f2 then _ else _)=_;rw[aH GI];exact EM;rw[aR (cM rH)]at gM;exact .inl ⟨by simpa using rH,gM,rfl⟩
 |io j0=>simp only[AS.FN,ba]at gE;subst gE;obtain⟨fp,hr,hn,hl⟩:=h.io;obtain⟨f1,f2,f3,rfl,BI,hle,GH,Kj,Ce⟩:=core .io (st.CC (.io j0) (dZ st.io (jW.pos (.io j0)-j) (aQ st.ep ((st.io.drop (jW.pos (.io j0)-j)).take cs.length)))) hr hn hl rfl rfl (λ_ q=>q);have Ax:∀b∈f2,g.ef b=some .io:=λb hb=>hl b (by simp[hb]);refine⟨{g with ef:=λb=>if b∈f2 then some (.hand 0) else g.ef b},λ_=>rfl,h.step (λy=>y≠ .io) hle h.defers h.size h.bsize h.frame (KJ f2 _ Ax) (λb y hk hb=>⟨Vo f2 _ Ax b y hk hb,rfl,rfl⟩) (λi bv hi=> .inl ⟨by simp,hi,rfl⟩) (λt BK hb=> .inl ⟨by simp,hb,rfl⟩) (λk u bv hk=> .inr (hh1 Ce k u bv hk)) (.inr ⟨f1++f3,GH,Kj,λb hb=>?_⟩)⟩;show(if b∈f2 then _ else _)=_;rw[aH (BI b hb)];exact hl b (by rcases ay.1 hb with k|k<;>simp[k])
 cases hc;cases hc;cases hc;cases hc
theorem Zn {o:Oper}(ho:o.op=.assign x)(h:mZ C st a w){K:AS->ax R}(hk:Nn o x st K=some r):lS P C o a w K r:=by
 have ec:(execOp a.eval o).run P w=.ok (.value (a.eval x)) w:=by simp[execOp,ho]
 obtain⟨g,hg⟩:=h;unfold Nn at hk;split at hk;rename_i v bK hc;obtain⟨g',_,mX⟩:=hg.af7 hc;exact⟨_,_,_,.inl ec,dP.AW mX o.dst,hk⟩;cases hk
theorem Lx {E:Env}(hE:ja P E.ty){o:Oper}{T:TypeId}{p:Operand}(hd:o.dst=none)(ho:o.op=.store T p x)(h:mZ C st a w){K:AS->ax R}(hk:uV E T p x st K=some r):lS P C o a w K r:=by obtain⟨g,hg⟩:=h;unfold uV at hk;split at hk;rename_i sh s off hT hp;have sU:=hg.rd p;rw[hp]at sU;have sU:=yT sU;split at hk;rename_i gg vs bK hc;obtain⟨g',GI,mX⟩:=hg.af7 hc;split at hk;rename_i cs jt;split at hk;rename_i hlen;split at hk;rename_i gx;exact DZ hE hd ho hT (by rw[GI];exact sU) mX jt hlen.1 hlen.2 gx hk;cases hk;cases hk;cases hk;cases hk;cases hk
structure Sound (P:Program) (E:Env) (Γ:fy):Prop where
 ty:ja P E.ty
 eqs:QH P E.eqs
 fts:Ww P E.fts
 fns:∀f,gY P f (Γ f)
 mixed:P.follows .mixedOrders=true
theorem lS.wp {o:Oper}{K:AS->ax R}(h:lS P C o a w K r)(next:Act->World->Prop)(Q:Exit->Act->World->Prop)(gy:∀bK a' w',mZ C bK a' w'->K bK=some r->next a' w'):o.wp P a w next Q:=by obtain⟨v,w',bK,ec,hs,hk⟩:=h;unfold Oper.wp;rcases ec with ec|⟨rfl,ec⟩;rw[ec];exact gy _ _ _ hs hk;rw[ec];exact gy _ _ _ hs hk
theorem XI {E:Env}(hS:Sound P E Γ){o:Oper}(h:mZ C st a w){K:AS->ax R}(hk:cX E Γ an o st K=some r)(next:Act->World->Prop)(Q:Exit->Act->World->Prop)(gy:∀bK a' w',mZ C bK a' w'->K bK=some r->next a' w'):o.wp P a w next Q:=by
 unfold cX at hk;split at hk;·rename_i x ho;exact(ZC ho h hk).wp next Q gy
 ·rename_i x ho;split at hk;·exact(Zn ho h hk).wp next Q gy
  ·exact(QQ ho h hk).wp next Q gy
 ·rename_i c x y ho;exact(Z1 ho h hk).wp next Q gy
 ·rename_i T ho;exact(Ub hS.ty ho h hk).wp next Q gy
 ·rename_i T x ho;exact(aa3 ho h hk).wp next Q gy
 ·rename_i T p ho;exact(Zr hS.ty ho h hk).wp next Q gy
 ·rename_i T p x ho;split at hk
  ·rename_i hd;split at hk;·exact(Lx hS.ty hd ho h hk).wp next Q gy
   ·exact(Wj hS.ty hd ho h hk).wp next Q gy
  cases hk
 ·rename_i x ho;split at hk;·rename_i s off hx;exact(Mm ho h hx hk).wp next Q gy
  ·rename_i fl e y i off hx;exact(G2 ho h hx hk).wp next Q gy
  cases hk
 ·rename_i op T x y T' ho;exact(aa0 hS.ty hS.eqs ho h hk).wp next Q gy
 ·rename_i op T x ho;exact(afV ho h hk).wp next Q gy
 ·rename_i S p f ho;exact(UH hS.ty ho h hk).wp next Q gy
 ·rename_i T x i ho;exact(KE hS.ty ho h hk).wp next Q gy
 ·rename_i T x i ho;exact(Vg hS.ty ho h hk).wp next Q gy
 ·rename_i T parts ho;exact(Un hS.ty ho h hk).wp next Q gy
 ·rename_i T len parts ho;exact(Iq hS.ty ho h hk).wp next Q gy
 ·rename_i T n c ho;exact(KO hS.ty ho h hk).wp next Q gy
 ·rename_i T x lo hi ho;exact(V3 hS.ty ho h hk).wp next Q gy
 ·rename_i S t f ho;exact(Rv hS.ty hS.fts ho h hk).wp next Q gy
 ·rename_i args ts ho;exact(X8 hS.ty ho h hk).wp next Q gy
 ·rename_i src dst x ho;exact(Oh hS.ty ho h hk).wp next Q gy
 ·rename_i t i ho;exact(O9 ho h hk).wp next Q gy
 ·rename_i args ts ho;exact(acb hS.ty ho h hk).wp next Q gy
 ·rename_i args ts ho;exact(ack ho h hk).wp next Q gy
 ·rename_i args ts ho;exact(acj ho h hk).wp next Q gy
 ·rename_i args ts ho;exact(QM hS.ty ho h hk).wp next Q gy
 ·rename_i f args ts ho;exact aeC hS.fns ho h hk next Q gy
 cases hk
theorem mZ.forget (h:mZ C st a w)(d:ax Nat):mZ C (st.put d (.one .un)) (a.put d undef) w:=h.put d (λ_ _=>lK ⟨rfl,rfl⟩)
theorem mZ.known (h:mZ C st a w){b:Bool}(hg:st.get d=.val false [.bool b]):a.tmps.getD d undef=.bool b:=by obtain⟨g,mX⟩:=h;obtain⟨fp,hr,_⟩:=mX.slot d;rw[hg]at hr;exact tP hr
theorem P2:a.put (some d) (a.tmps.getD d undef)=a:=by cases a with|mk tmps defers=>simp only[Act.put];congr 1;apply Array.ext_getElem?;intro i;rw[Array.getElem?_setIfInBounds];by_cases h:d=i;subst h;by_cases hs:d<tmps.size;simp[hs,Array.getD];simp[hs];simp[h]
theorem mZ.refine(h:mZ C st a w){b:Bool}(hg:st.get d=.val false [.bool b]):mZ C (st.put (some d) (.one (.bool b))) a w:=by have hk:=h.known hg;have:=h.put (some d) (v:=.bool b) (av:=.one (.bool b)) (λ_ _=>lK ⟨rfl,rfl⟩);rw[<-hk,P2]at this;exact this
theorem RR {E:Env}(hS:Sound P E Γ){ops:Array Oper}{o:Oper}(h:mZ C st a w){K:AS->ax R}(hk:gh E Γ an ops.toList o st K=some r)(next:Act->World->Prop)(Q:Exit->Act->World->Prop)(gy:∀bK a' w',mZ C bK a' w'->K bK=some r->next a' w'): if Region.wanted o (yielded ops a.tmps) then o.wp P a w next Q\/(o.asks P a w/\LetsOut Q) else next (a.put o.dst undef) w:=by
 unfold gh at hk;split at hk;·rename_i hgd;rw[aF (by simp[Region.wanted,hgd])];exact .inl (XI hS h hk next Q gy)
 ·rename_i j EH hgd;split at hk
  ·rename_i d Yv;have aga:(ops[j]?).bind (·.dst)=some d:=by rw[dI]at Yv;simpa using Yv
   split at hk
   ·rename_i b hb;have hkn:=h.known hb;have hdl:d<a.tmps.size:=by rcases cf d a.tmps.size with gW|yt;exact gW;simp[Array.getD,Nat.not_lt.2 yt,undef]at hkn
    have hy:yielded ops a.tmps j=some b:=by
     unfold yielded;rw[aga];have:a.tmps[d]?=some (.bool b):=by rw[Array.getElem?_eq_getElem hdl];simp[Array.getD,hdl]at hkn;rw[hkn]
     simp[this]
    have hr:=h.refine hb
    have main:∀t,b=t->(if t==EH then cX E Γ an o (st.put (some d) (.one (.bool t))) K else K ((st.put (some d) (.one (.bool t))).put o.dst (.one .un)))=some r->
     if Region.wanted o (yielded ops a.tmps) then o.wp P a w next Q\/(o.asks P a w/\LetsOut Q) else next (a.put o.dst undef) w:=by
     rintro t rfl hk
     have hw:Region.wanted o (yielded ops a.tmps)=(b==EH):=by simp only[Region.wanted,hgd,hy];cases b<;>cases EH<;>rfl
     rw[hw]
     cases hbw:(b==EH)with
     |true=>
      rw[hbw]at hk
      simp only[bP]at hk⊢
      exact .inl (XI hS hr hk next Q gy)
     |false=>
      rw[hbw]at hk
      simp only[aW,bX]at hk⊢
      exact gy _ _ _ (hr.forget o.dst) hk
    cases b with|true=>exact main true rfl hk|false=>exact main false rfl hk
   rename_i hb;obtain⟨g,hg⟩:=id h;obtain⟨fp,hr,_⟩:=hg.slot d;rw[hb]at hr;have hun:=(ej hr).1;have hy:yielded ops a.tmps j=none:=by
    unfold yielded;rw[aga];simp only[eh];rcases cf d a.tmps.size with gW|yt;have:a.tmps[d]?=some undef:=by rw[Array.getElem?_eq_getElem gW];simp[Array.getD,gW]at hun;rw[hun]
    rw[this];rfl;rw[Array.getElem?_eq_none yt]
   have hw:Region.wanted o (yielded ops a.tmps)=false:=by simp only[Region.wanted,hgd,hy];cases EH<;>rfl
   rw[hw];exact gy _ _ _ (h.forget o.dst) hk;cases hk
  cases hk
theorem acx {E:Env}(hS:Sound P E Γ){ops:Array Oper}{Q:Exit->Act->World->Prop}{K:AS->ax R}
 (hq:∀bK a' w',mZ C bK a' w'->K bK=some r->Q .normal a' w'):∀(n i:Nat)(st:AS)(a:Act)(w:World),i+n=ops.size->mZ C st a w->PW E Γ an ops.toList (ops.toList.drop i) st K=some r->
  wpOps P ops Q ((List.range' i n)) a w
 |0,i,st,a,w,hi,h,hk=>by rw[cW (by simp;omega)]at hk;exact hq st a w h hk
 |n+1,i,st,a,w,hi,h,hk=>by
  have L6:i<ops.toList.length:=by simp;omega
  rw[cd L6]at hk;have ho:ops[i]?=some ops.toList[i]:=by rw[<-cl];exact al L6
  rw[List.range'_succ,wpOps,ho];simp only;have:=RR hS (ops:=ops) h hk (wpOps P ops Q (List.range' (i+1) n)) Q (λbK a' w' hs Cg=>acx hS hq n (i+1) bK a' w' (by omega) hs Cg);exact this
end Go.Dn
