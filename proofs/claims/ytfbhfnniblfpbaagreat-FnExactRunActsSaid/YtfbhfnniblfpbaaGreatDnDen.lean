import Derived.Test.YtfbhfnniblfpbaaGreatDnCall
/- The soundness of the abstract semantics: operations, regions, loops, functions. -/
namespace Go.Dn
open Go.RowKit
variable {P:Program} {C:Ctx} {st:AS} {a:Act} {w:World} {R:Type} {r:R}
variable {an:An} {Γ:xV} {d:Nat} {x:Operand}
theorem acS:∀(os ss:aq AC){r:aq AC},mR os ss=some r->r.all AC.YS=true/\r.map AC.strip=r:=by
 intro os;induction os with
 |nil=>intro ss r h;cases ss with|nil=>simp[mR]at h;subst h;exact⟨rfl,rfl⟩|cons _ _=>simp[mR]at h
 |cons o os ih=>
  intro ss r h;cases ss with
  |nil=>unfold mR at h;split at h<;>first|contradiction|cases h
  |cons s ss=>
   unfold mR at h;split at h;contradiction;rename_i h1 h2;injection h1 with h1 OI;subst OI;injection h2 with h2 UI;subst UI;rw[Bool.cond_eq_ite]at h;split at h;obtain⟨r',hr,h⟩:=aL.1 h;cases h;obtain⟨k1,k2⟩:=ih _ hr;exact⟨by simp[AC.YS,k1],by simp[AC.strip,k2]⟩;cases h
   all_goals first
    |cases h
    |(rename_i h1 h2
      injection h1 with h1 OI;subst OI
      injection h2 with h2 UI;subst UI
      obtain⟨r',hr,h⟩:=aL.1 h
      cases h
      obtain⟨k1,k2⟩:=ih _ hr
      exact⟨by simp[AC.YS,AC.gv,k1],by simp[AC.strip,k2]⟩)
theorem aax:∀{cs:aq AC},cs.all AC.YS=true->∀{c:RC}{A:Rg}{hw:Nat->Nat}{w:World}{vs:ie}{fp:dX},bn (eQ A hw w) vs cs fp->c.w=w->c.hw=hw->bn c vs (cs.map AC.strip) fp
 |[],_,c,A,hw,w,vs,fp,h,_,_=>by cases vs with|nil=>exact h|cons _ _=>exact h.elim
 |x::cs,ku,c,A,hw,w,vs,fp,h,Nh,B7=>by
  cases vs with
  |nil=>exact h.elim
  |cons v vs=>
   obtain⟨f1,f2,rfl,h1,h2⟩:=h;simp only[bQ,ah]at ku;refine⟨f1,f2,rfl,?_,aax ku.2 h2 Nh B7⟩;cases x with
   |sl fl e xs=>cases fl with|own t=>exact⟨by rw[Nh,B7];exact h1.1,by simp⟩|arg _=>cases ku.1|loc _ _=>cases ku.1|nest _ _ _ _ _ _=>cases ku.1|part _ _ _ _=>cases ku.1|fe _ _ _=>cases ku.1
   |int k n=>exact h1
   |bool b=>exact h1
   |str s=>exact h1
   |fn f=>exact h1
   |jB=>cases ku.1
   |ptr s off=>cases ku.1
   |Da fl e y i off=>cases ku.1
   |un=>cases ku.1
   |bot=>cases ku.1
theorem dx.ahG {g:Gh}(h:dx C g st a w []){v:AV}{st':AS}(hc:S2 st x=some (v,st')):∃g',(∀s,g'.β s=g.β s)/\dx C g' st' a w [(a.eval x,v)]:=by
 unfold S2 at hc;have Kd:=h.rd x;split at hc;rename_i gg cs hx;rw[hx]at Kd;obtain⟨vs0,eh,He⟩:=Kd;split at hc;rename_i rt j OO;split at hc;rename_i D8 eR;split at hc;rename_i nd Hf;cases hc;have Tp:=I2 _ _ Hf;have Kb:=acS _ _ Hf
 have core:∀(o:je)(ZN:AS){vs:ie}{fp:dX},bn (cy C g st w) vs D8 fp->fp.Nodup->(∀b∈fp,g.dK b=some o)->ZN.ep=st.ep->ZN.iss=st.iss->(∀s,gA st s->gA ZN s)->
  ∃f1 f2 f3,fp=f1++f2++f3/\(∀b∈f1++f3,b∉f2)/\
   (cy C g st w).Le (cy C {g with dK:=λb=>if b∈f2 then some (.hand 0) else g.dK b} ZN w)/\
   bn (cy C {g with dK:=λb=>if b∈f2 then some (.hand 0) else g.dK b} ZN w) vs (db D8 (rt.pos-j) (aS st.ep ((D8.drop (rt.pos-j)).take cs.length))) (f1++f3)/\(f1++f3).Nodup/\
   Ln C {g with dK:=λb=>if b∈f2 then some (.hand 0) else g.dK b} ZN w 0 (a.eval x) (.val gg nd):=by
  intro o ZN vs fp hr hn hl xY GH qU
  obtain⟨f1,f2,f3,rfl,r1,r2,r3⟩:=hr.mid (rt.pos-j) cs.length
  have Cb:=hn
  rw[aN]at Cb
  have n1:=aB.1 Cb
  have n2:=aB.1 n1.2.1
  have hle:(cy C g st w).Le (cy C {g with dK:=λb=>if b∈f2 then some (.hand 0) else g.dK b} ZN w):=
   ⟨rfl,λt ht=>⟨by show lL ZN t;have UK:lL st t:=ht;simpa[lL,GH]using UK,rfl⟩,λ_ _ _ _ _ hu=>hu,by show st.ep<=ZN.ep;omega,λs hs=>⟨qU s hs,rfl⟩,λ_ b o u ho hu=>⟨ho,hu⟩⟩
  refine⟨f1,f2,f3,rfl,?_,hle,?_,?_,?_⟩
  ·intro b hb h2
   rcases az.1 hb with hb|hb
   ·exact n1.2.2 b hb b (bk _ h2) rfl
   ·exact n2.2.2 b h2 b hb rfl
  ·have Kf:=JK (c':=cy C {g with dK:=λb=>if b∈f2 then some (.hand 0) else g.dK b} ZN w) (seg:=aS st.ep ((D8.drop (rt.pos-j)).take cs.length)) rfl (by rw[r2.length];exact Tp)
    (r1.mono hle (λb _=>⟨rfl,rfl⟩)) ((r2.aS).mono hle (by simp)) (r3.mono hle (λb _=>⟨rfl,rfl⟩))
   rw[bp]at Kf
   exact Kf
  ·refine aB.2 ⟨n1.1,n2.2.1,?_⟩
   rintro b hb c hc rfl
   exact n1.2.2 b hb b (ba _ hc) rfl
  ·have ah9:=PH (A:=λ_ _ _=>False) _ _ Hf He r2
   have uw:=aax Kb.1 (c:=cy C g st w) ah9 rfl rfl
   rw[Kb.2]at uw
   refine⟨f2,⟨vs0,eh,uw.mono hle (λb _=>⟨rfl,rfl⟩)⟩,n2.1,λb hb=>?_⟩
   show(if b∈f2 then _ else _)=_
   rw[aG hb]
 have O8:∀(f2:dX)(o:je),(∀b∈f2,g.dK b=some o)->∀b y,(if b∈f2 then some (je.hand 0) else g.dK b)=some y->b<w.heap.size/\(C.w0.heap.size<=b\/C.M b):=by intro f2 o hf b y hy;by_cases hm:b∈f2;exact h.fB b _ (hf b hm);rw[aF hm]at hy;exact h.fB b y hy
 have YX:∀(f2:dX)(o:je),(∀b∈f2,g.dK b=some o)->∀b y,y≠o->g.dK b=some y->(if b∈f2 then some (je.hand 0) else g.dK b)=some y:=by intro f2 o hf b y hyo hb;rw[aF (λhm=>hyo (by have:=hf b hm;rw[hb]at this;simpa using this))];exact hb
 have hh1:∀{g2:Gh}{ZN:AS},Ln C g2 ZN w 0 (a.eval x) (.val gg nd)->∀k u bv,[(a.eval x,AV.val gg nd)][k]?=some (u,bv)->Ln C g2 ZN w k u bv:=by
  intro g2 ZN hh k u bv hk;cases k with
  |zero=>simp only[cq,aZ,Prod.mk.injEq]at hk;obtain⟨rfl,rfl⟩:=hk;exact hh
  |succ k=>simp at hk
 cases rt with
 |slot s j0=>
  simp only[AS.uc]at eR;cases hg:st.get s with
  |vU ts=>rw[hg]at eR;cases eR
  |val g1 cs1=>
   rw[hg]at eR;cases eR;have lH:∀GN,st.qd (.slot s j0) GN={st with slots:=st.slots.set s (.val g1 GN)}:=λGN=>by simp only[AS.qd,hg,AS.put,eV]
   obtain⟨fp,hr,hn,hl⟩:=h.slot s;rw[hg]at hr;obtain⟨vs,J9,hr⟩:=hr;obtain⟨f1,f2,f3,rfl,Az,hle,Kf,Jv,G9⟩:=core (.slot s) (st.qd (.slot s j0) (db D8 (kv.pos (.slot s j0)-j) (aS st.ep ((D8.drop (kv.pos (.slot s j0)-j)).take cs.length)))) hr hn hl (by rw[lH]) (by rw[lH]) (λ_ q=>by rw[lH];exact q);have H5:∀b∈f2,g.dK b=some (.slot s):=λb hb=>hl b (by simp[hb]);refine⟨{g with dK:=λb=>if b∈f2 then some (.hand 0) else g.dK b},λ_=>rfl,h.step (λy=>y≠ .slot s) hle h.defers ?_ ?_ h.frame (O8 f2 _ H5) (λb y hk hb=>⟨YX f2 _ H5 b y hk hb,rfl,rfl⟩) ?_ ?_ (λk u bv hk=> .inr (hh1 G9 k u bv hk)) (.inl ⟨by simp,by rw[lH]⟩)⟩;rw[lH];simpa using h.size;rw[lH];simpa using h.bsize;intro i bv hi;rw[lH]at hi;have rJ:(st.slots.set s (.val g1 _))[i]?=some bv:=hi;by_cases Yu:i=s;subst Yu;rw[bl]at rJ;simp only[bL]at rJ;split at rJ;simp at rJ;subst rJ;refine .inr ⟨f1++f3,⟨vs,J9,Kf⟩,Jv,λb hb=>?_⟩;show(if b∈f2 then _ else _)=_;rw[aF (Az b hb)];exact hl b (by rcases az.1 hb with k|k<;>simp[k]);cases rJ;rw[aO (cJ Yu)]at rJ;exact .inl ⟨by simpa using Yu,rJ,rfl⟩;intro t GN hb;rw[lH]at hb;exact .inl ⟨by simp,hb,rfl⟩
 |box s j0=>
  have jE:st.boxes[s]?=some (some D8):=by simp only[AS.uc,dB]at eR;cases hb:st.boxes[s]? with|none=>simp[hb]at eR|some q=>rw[hb]at eR;simp at eR;rw[eR]
  have yd:s<st.boxes.length:=(aD.1 jE).1;have lH:∀GN,st.qd (.box s j0) GN={st with boxes:=st.boxes.set s (some GN)}:=λGN=>by simp only[AS.qd,AS.eG,eV]
  obtain⟨arr,T,fr,fp,jw,qV,hr,hn,ti,hl,Hb,IQ⟩:=h.boxes s D8 jE;obtain⟨f1,f2,f3,rfl,Az,hle,Kf,Jv,G9⟩:=core (.box s) (st.qd (.box s j0) (db D8 (kv.pos (.box s j0)-j) (aS st.ep ((D8.drop (kv.pos (.box s j0)-j)).take cs.length)))) hr hn hl (by rw[lH]) (by rw[lH]) (λt ht=>by rw[lH];obtain⟨c0,Xy⟩:=ht;by_cases qW:s=t;subst qW;exact⟨_,by simp[yd];rfl⟩;exact⟨c0,by rw[aO qW];exact Xy⟩);have H5:∀b∈f2,g.dK b=some (.box s):=λb hb=>hl b (by simp[hb]);refine⟨{g with dK:=λb=>if b∈f2 then some (.hand 0) else g.dK b},λ_=>rfl,h.step (λy=>y≠ .box s) hle h.defers ?_ ?_ h.frame (O8 f2 _ H5) (λb y hk hb=>⟨YX f2 _ H5 b y hk hb,rfl,rfl⟩) ?_ ?_ (λk u bv hk=> .inr (hh1 G9 k u bv hk)) (.inl ⟨by simp,by rw[lH]⟩)⟩;rw[lH];exact h.size;rw[lH];simpa using h.bsize;intro i bv hi;rw[lH]at hi;exact .inl ⟨by simp,hi,rfl⟩;intro t GN hb;rw[lH]at hb;have gL:(st.boxes.set s (some _))[t]?=some (some GN):=hb;by_cases qW:t=s;subst qW;rw[bl]at gL;simp only[bL,yd]at gL;simp at gL;subst gL;have Jx:g.β t∉f2:=λhm=>ti (by simp[hm]);refine .inr ⟨arr,T,fr,f1++f3,jw,qV,Kf,Jv,λhm=>ti (by rcases az.1 hm with k|k<;>simp[k]),λb hb=>?_,?_,IQ⟩;show(if b∈f2 then _ else _)=_;rw[aF (Az b hb)];exact hl b (by rcases az.1 hb with k|k<;>simp[k]);show(if g.β t∈f2 then _ else _)=_;rw[aF Jx];exact Hb;rw[aO (cJ qW)]at gL;exact .inl ⟨by simpa using qW,gL,rfl⟩
 |io j0=>simp only[AS.uc,aZ]at eR;subst eR;obtain⟨fp,hr,hn,hl⟩:=h.io;obtain⟨f1,f2,f3,rfl,Az,hle,Kf,Jv,G9⟩:=core .io (st.qd (.io j0) (db st.io (kv.pos (.io j0)-j) (aS st.ep ((st.io.drop (kv.pos (.io j0)-j)).take cs.length)))) hr hn hl rfl rfl (λ_ q=>q);have H5:∀b∈f2,g.dK b=some .io:=λb hb=>hl b (by simp[hb]);refine⟨{g with dK:=λb=>if b∈f2 then some (.hand 0) else g.dK b},λ_=>rfl,h.step (λy=>y≠ .io) hle h.defers h.size h.bsize h.frame (O8 f2 _ H5) (λb y hk hb=>⟨YX f2 _ H5 b y hk hb,rfl,rfl⟩) (λi bv hi=> .inl ⟨by simp,hi,rfl⟩) (λt GN hb=> .inl ⟨by simp,hb,rfl⟩) (λk u bv hk=> .inr (hh1 G9 k u bv hk)) (.inr ⟨f1++f3,Kf,Jv,λb hb=>?_⟩)⟩;show(if b∈f2 then _ else _)=_;rw[aF (Az b hb)];exact hl b (by rcases az.1 hb with k|k<;>simp[k])
 cases hc;cases hc;cases hc;cases hc
theorem ab8 {o:Oper}(ho:o.op=.assign x)(h:nv C st a w){K:AS->au R}(hk:RZ o x st K=some r):nb P C o a w K r:=by
 have dJ:(execOp a.eval o).run P w=.ok (.value (a.eval x)) w:=by simp[execOp,ho]
 obtain⟨g,hg⟩:=h;unfold RZ at hk;split at hk;rename_i v st' hc;obtain⟨g',_,na⟩:=hg.ahG hc;exact⟨_,_,_,.inl dJ,dx.FC na o.dst,hk⟩;cases hk
theorem P2 {E:Env}(hE:js P E.ty){o:Oper}{T:TypeId}{p:Operand}(hd:o.dst=none)(ho:o.op=.store T p x)(h:nv C st a w){K:AS->au R}(hk:yz E T p x st K=some r):nb P C o a w K r:=by obtain⟨g,hg⟩:=h;unfold yz at hk;split at hk;rename_i sh s off hT hp;have vS:=hg.rd p;rw[hp]at vS;have vS:=DH vS;split at hk;rename_i gg vs st' hc;obtain⟨g',Jx,na⟩:=hg.ahG hc;split at hk;rename_i cs jE;split at hk;rename_i hlen;split at hk;rename_i gI;exact I8 hE hd ho hT (by rw[Jx];exact vS) na jE hlen.1 hlen.2 gI hk;cases hk;cases hk;cases hk;cases hk;cases hk
structure Sound (P:Program) (E:Env) (Γ:xV):Prop where
 ty:js P E.ty
 eqs:UQ P E.eqs
 fts:Z6 P E.fts
 fns:∀f,kX P f (Γ f)
 mixed:P.follows .mixedOrders=true
theorem nb.wp {o:Oper}{K:AS->au R}(h:nb P C o a w K r)(next:Act->World->Prop)(Q:Exit->Act->World->Prop)(fO:∀st' a' w',nv C st' a' w'->K st'=some r->next a' w'):o.wp P a w next Q:=by obtain⟨v,w',st',dJ,hs,hk⟩:=h;unfold Oper.wp;rcases dJ with dJ|⟨rfl,dJ⟩;rw[dJ];exact fO _ _ _ hs hk;rw[dJ];exact fO _ _ _ hs hk
theorem aaU {E:Env}(hS:Sound P E Γ){o:Oper}(h:nv C st a w){K:AS->au R}(hk:dc E Γ an o st K=some r)(next:Act->World->Prop)(Q:Exit->Act->World->Prop)(fO:∀st' a' w',nv C st' a' w'->K st'=some r->next a' w'):o.wp P a w next Q:=by
 unfold dc at hk;split at hk;·rename_i x ho;exact(ach ho h hk).wp next Q fO
 ·rename_i x ho;split at hk;·exact(ab8 ho h hk).wp next Q fO
  ·exact(U0 ho h hk).wp next Q fO
 ·rename_i c x y ho;exact(acK ho h hk).wp next Q fO
 ·rename_i T ho;exact(XN hS.ty ho h hk).wp next Q fO
 ·rename_i T x ho;exact(adG ho h hk).wp next Q fO
 ·rename_i T p ho;exact(acd hS.ty ho h hk).wp next Q fO
 ·rename_i T p x ho;split at hk
  ·rename_i hd;split at hk;·exact(P2 hS.ty hd ho h hk).wp next Q fO
   ·exact(ZQ hS.ty hd ho h hk).wp next Q fO
  cases hk
 ·rename_i x ho;split at hk;·rename_i s off hx;exact(QW ho h hx hk).wp next Q fO
  ·rename_i fl e y i off hx;exact(LZ ho h hx hk).wp next Q fO
  cases hk
 ·rename_i op T x y T' ho;exact(adE hS.ty hS.eqs ho h hk).wp next Q fO
 ·rename_i op T x ho;exact(ahx ho h hk).wp next Q fO
 ·rename_i S p f ho;exact(Yi hS.ty ho h hk).wp next Q fO
 ·rename_i T x i ho;exact(O4 hS.ty ho h hk).wp next Q fO
 ·rename_i T x i ho;exact(YP hS.ty ho h hk).wp next Q fO
 ·rename_i T parts ho;exact(XY hS.ty ho h hk).wp next Q fO
 ·rename_i T len parts ho;exact(Nf hS.ty ho h hk).wp next Q fO
 ·rename_i T n c ho;exact(Pd hS.ty ho h hk).wp next Q fO
 ·rename_i T x lo hi ho;exact(Zx hS.ty ho h hk).wp next Q fO
 ·rename_i S t f ho;exact(Vk hS.ty hS.fts ho h hk).wp next Q fO
 ·rename_i args ts ho;exact(abd hS.ty ho h hk).wp next Q fO
 ·rename_i src dst x ho;exact(S4 hS.ty ho h hk).wp next Q fO
 ·rename_i t i ho;exact(Td ho h hk).wp next Q fO
 ·rename_i args ts ho;exact(ae2 hS.ty ho h hk).wp next Q fO
 ·rename_i args ts ho;exact(ae8 ho h hk).wp next Q fO
 ·rename_i args ts ho;exact(ae7 ho h hk).wp next Q fO
 ·rename_i args ts ho;exact(UX hS.ty ho h hk).wp next Q fO
 ·rename_i f args ts ho;exact agj hS.fns ho h hk next Q fO
 cases hk
theorem nv.forget (h:nv C st a w)(d:au Nat):nv C (st.put d (.one .un)) (a.put d undef) w:=h.put d (λ_ _=>mO ⟨rfl,rfl⟩)
theorem nv.known (h:nv C st a w){b:Bool}(hg:st.get d=.val false [.bool b]):a.tmps.getD d undef=.bool b:=by obtain⟨g,na⟩:=h;obtain⟨fp,hr,_⟩:=na.slot d;rw[hg]at hr;exact xl hr
theorem T8:a.put (some d) (a.tmps.getD d undef)=a:=by cases a with|mk tmps defers=>simp only[Act.put];congr 1;apply Array.ext_getElem?;intro i;rw[Array.getElem?_setIfInBounds];by_cases h:d=i;subst h;by_cases hs:d<tmps.size;simp[hs,Array.getD];simp[hs];simp[h]
theorem nv.refine(h:nv C st a w){b:Bool}(hg:st.get d=.val false [.bool b]):nv C (st.put (some d) (.one (.bool b))) a w:=by have hk:=h.known hg;have:=h.put (some d) (v:=.bool b) (av:=.one (.bool b)) (λ_ _=>mO ⟨rfl,rfl⟩);rw[<-hk,T8]at this;exact this
theorem Vw {E:Env}(hS:Sound P E Γ){ops:Array Oper}{o:Oper}(h:nv C st a w){K:AS->au R}(hk:gB E Γ an ops.toList o st K=some r)(next:Act->World->Prop)(Q:Exit->Act->World->Prop)(fO:∀st' a' w',nv C st' a' w'->K st'=some r->next a' w'): if Region.wanted o (yielded ops a.tmps) then o.wp P a w next Q\/(o.asks P a w/\LetsOut Q) else next (a.put o.dst undef) w:=by
 unfold gB at hk;split at hk;·rename_i hgd;rw[aG (by simp[Region.wanted,hgd])];exact .inl (aaU hS h hk next Q fO)
 ·rename_i j JP hgd;split at hk
  ·rename_i d aby;have ahJ:(ops[j]?).bind (·.dst)=some d:=by rw[dB]at aby;simpa using aby
   split at hk
   ·rename_i b hb;have hkn:=h.known hb;have hdl:d<a.tmps.size:=by rcases bS d a.tmps.size with gV|BM;exact gV;simp[Array.getD,Nat.not_lt.2 BM,undef]at hkn
    have hy:yielded ops a.tmps j=some b:=by
     unfold yielded;rw[ahJ];have:a.tmps[d]?=some (.bool b):=by rw[Array.getElem?_eq_getElem hdl];simp[Array.getD,hdl]at hkn;rw[hkn]
     simp[this]
    have hr:=h.refine hb
    have main:∀t,b=t->(if t==JP then dc E Γ an o (st.put (some d) (.one (.bool t))) K else K ((st.put (some d) (.one (.bool t))).put o.dst (.one .un)))=some r->
     if Region.wanted o (yielded ops a.tmps) then o.wp P a w next Q\/(o.asks P a w/\LetsOut Q) else next (a.put o.dst undef) w:=by
     rintro t rfl hk
     have hw:Region.wanted o (yielded ops a.tmps)=(b==JP):=by simp only[Region.wanted,hgd,hy];cases b<;>cases JP<;>rfl
     rw[hw]
     cases hbw:(b==JP)with
     |true=>
      rw[hbw]at hk
      simp only[bL]at hk⊢
      exact .inl (aaU hS hr hk next Q fO)
     |false=>
      rw[hbw]at hk
      simp only[aY,cc]at hk⊢
      exact fO _ _ _ (hr.forget o.dst) hk
    cases b with|true=>exact main true rfl hk|false=>exact main false rfl hk
   rename_i hb;obtain⟨g,hg⟩:=id h;obtain⟨fp,hr,_⟩:=hg.slot d;rw[hb]at hr;have hun:=(dU hr).1;have hy:yielded ops a.tmps j=none:=by
    unfold yielded;rw[ahJ];simp only[eC];rcases bS d a.tmps.size with gV|BM;have:a.tmps[d]?=some undef:=by rw[Array.getElem?_eq_getElem gV];simp[Array.getD,gV]at hun;rw[hun]
    rw[this];rfl;rw[Array.getElem?_eq_none BM]
   have hw:Region.wanted o (yielded ops a.tmps)=false:=by simp only[Region.wanted,hgd,hy];cases JP<;>rfl
   rw[hw];exact fO _ _ _ (h.forget o.dst) hk;cases hk
  cases hk
theorem afj {E:Env}(hS:Sound P E Γ){ops:Array Oper}{Q:Exit->Act->World->Prop}{K:AS->au R}
 (hq:∀st' a' w',nv C st' a' w'->K st'=some r->Q .normal a' w'):∀(n i:Nat)(st:AS)(a:Act)(w:World),i+n=ops.size->nv C st a w->T0 E Γ an ops.toList (ops.toList.drop i) st K=some r->
  wpOps P ops Q ((List.range' i n)) a w
 |0,i,st,a,w,hi,h,hk=>by rw[cS (by simp;omega)]at hk;exact hq st a w h hk
 |n+1,i,st,a,w,hi,h,hk=>by
  have OP:i<ops.toList.length:=by simp;omega
  rw[cl OP]at hk;have ho:ops[i]?=some ops.toList[i]:=by rw[<-cg];exact al OP
  rw[List.range'_succ,wpOps,ho];simp only;have:=Vw hS (ops:=ops) h hk (wpOps P ops Q (List.range' (i+1) n)) Q (λst' a' w' hs Ha=>afj hS hq n (i+1) st' a' w' (by omega) hs Ha);exact this
end Go.Dn
