import Derived.Test.YtfbhfnniblfpbaaGreatDnCall
/- The soundness of the abstract semantics: operations, regions, loops, functions. -/
namespace Go.Dn
open Go.RowKit
variable {P:Program} {C:Ctx} {st:AS} {a:Act} {w:World} {R:Type} {r:R}
variable {an:An} {Γ:zu} {d:Nat} {x:Operand}
theorem afQ:∀(os ss:ax AC){r:ax AC},pN os ss=some r->r.all AC.abj=true/\r.map AC.strip=r:=by
 intro os;induction os with
 |nil=>intro ss r h;cases ss with|nil=>simp[pN]at h;subst h;exact⟨rfl,rfl⟩|cons _ _=>simp[pN]at h
 |cons o os ih=>
  intro ss r h;cases ss with
  |nil=>unfold pN at h;split at h<;>first|contradiction|cases h
  |cons s ss=>
   unfold pN at h;split at h;contradiction;rename_i h1 h2;injection h1 with h1 VS;subst VS;injection h2 with h2 W4;subst W4;rw[Bool.cond_eq_ite]at h;split at h;obtain⟨r',hr,h⟩:=aY.1 h;cases h;obtain⟨k1,k2⟩:=ih _ hr;exact⟨by simp[AC.abj,k1],by simp[AC.strip,k2]⟩;cases h
   all_goals first
    |cases h
    |(rename_i h1 h2
      injection h1 with h1 VS;subst VS
      injection h2 with h2 W4;subst W4
      obtain⟨r',hr,h⟩:=aY.1 h
      cases h
      obtain⟨k1,k2⟩:=ih _ hr
      exact⟨by simp[AC.abj,AC.kB,k1],by simp[AC.strip,k2]⟩)
theorem ac7:∀{cs:ax AC},cs.all AC.abj=true->∀{c:RC}{A:Rg}{hw:Nat->Nat}{w:World}{vs:jI}{fp:fi},bW (gh A hw w) vs cs fp->c.w=w->c.hw=hw->bW c vs (cs.map AC.strip) fp
 |[],_,c,A,hw,w,vs,fp,h,_,_=>by cases vs with|nil=>exact h|cons _ _=>exact h.elim
 |x::cs,lV,c,A,hw,w,vs,fp,h,T8,Hh=>by
  cases vs with
  |nil=>exact h.elim
  |cons v vs=>
   obtain⟨f1,f2,rfl,h1,h2⟩:=h;simp only[cx,ah]at lV;refine⟨f1,f2,rfl,?_,ac7 lV.2 h2 T8 Hh⟩;cases x with
   |sl fl e xs=>cases fl with|own t=>exact⟨by rw[T8,Hh];exact h1.1,by simp⟩|arg _=>cases lV.1|loc _ _=>cases lV.1|nest _ _ _ _ _ _=>cases lV.1|part _ _ _ _=>cases lV.1|gr _ _ _=>cases lV.1
   |int k n=>exact h1
   |bool b=>exact h1
   |str s=>exact h1
   |fn f=>exact h1
   |kS=>cases lV.1
   |ptr s off=>cases lV.1
   |Ef fl e y i off=>cases lV.1
   |un=>cases lV.1
   |bot=>cases lV.1
theorem eZ.akO {g:Gh}(h:eZ C g st a w []){v:AV}{cp:AS}(hc:VC st x=some (v,cp)):∃g',(∀s,g'.β s=g.β s)/\eZ C g' cp a w [(a.eval x,v)]:=by
 unfold VC at hc;have QW:=h.rd x;split at hc;rename_i gg cs hx;rw[hx]at QW;obtain⟨vs0,gb,Ua⟩:=QW;split at hc;rename_i rt j VZ;split at hc;rename_i csO ix;split at hc;rename_i tr aeq;cases hc;have alC:=Tg _ _ aeq;have QP:=afQ _ _ aeq
 have core:∀(o:kX)(stN:AS){vs:jI}{fp:fi},bW (dy C g st w) vs csO fp->fp.Nodup->(∀b∈fp,g.fK b=some o)->stN.ep=st.ep->stN.iss=st.iss->(∀s,kD st s->kD stN s)->
  ∃f1 f2 f3,fp=f1++f2++f3/\(∀b∈f1++f3,b∉f2)/\
   (dy C g st w).Le (dy C {g with fK:=λb=>if b∈f2 then some (.hand 0) else g.fK b} stN w)/\
   bW (dy C {g with fK:=λb=>if b∈f2 then some (.hand 0) else g.fK b} stN w) vs (fC csO (rt.pos-j) (bh st.ep ((csO.drop (rt.pos-j)).take cs.length))) (f1++f3)/\(f1++f3).Nodup/\
   MH C {g with fK:=λb=>if b∈f2 then some (.hand 0) else g.fK b} stN w 0 (a.eval x) (.val gg tr):=by
  intro o stN vs fp hr hn hl BG K6 xR
  obtain⟨f1,f2,f3,rfl,r1,r2,r3⟩:=hr.mid (rt.pos-j) cs.length
  have D5:=hn
  rw[aG]at D5
  have n1:=aN.1 D5
  have n2:=aN.1 n1.2.1
  have hle:(dy C g st w).Le (dy C {g with fK:=λb=>if b∈f2 then some (.hand 0) else g.fK b} stN w):=
   ⟨rfl,λt ht=>⟨by show oL stN t;have ht':oL st t:=ht;simpa[oL,K6]using ht',rfl⟩,λ_ _ _ _ _ hu=>hu,by show st.ep<=stN.ep;omega,λs hs=>⟨xR s hs,rfl⟩,λ_ b o u ho hu=>⟨ho,hu⟩⟩
  refine⟨f1,f2,f3,rfl,?_,hle,?_,?_,?_⟩
  ·intro b hb h2
   rcases aB.1 hb with hb|hb
   ·exact n1.2.2 b hb b (aU _ h2) rfl
   ·exact n2.2.2 b h2 b hb rfl
  ·have ME:=acm (c':=dy C {g with fK:=λb=>if b∈f2 then some (.hand 0) else g.fK b} stN w) (seg:=bh st.ep ((csO.drop (rt.pos-j)).take cs.length)) rfl (by rw[r2.length];exact alC)
    (r1.mono hle (λb _=>⟨rfl,rfl⟩)) ((r2.bh).mono hle (by simp)) (r3.mono hle (λb _=>⟨rfl,rfl⟩))
   rw[bg]at ME
   exact ME
  ·refine aN.2 ⟨n1.1,n2.2.1,?_⟩
   rintro b hb c hc rfl
   exact n1.2.2 b hb b (bj _ hc) rfl
  ·have asu:=abZ (A:=λ_ _ _=>False) _ _ aeq Ua r2
   have zw:=ac7 QP.1 (c:=dy C g st w) asu rfl rfl
   rw[QP.2]at zw
   refine⟨f2,⟨vs0,gb,zw.mono hle (λb _=>⟨rfl,rfl⟩)⟩,n2.1,λb hb=>?_⟩
   show(if b∈f2 then _ else _)=_
   rw[aI hb]
 have Rh:∀(f2:fi)(o:kX),(∀b∈f2,g.fK b=some o)->∀b y,(if b∈f2 then some (kX.hand 0) else g.fK b)=some y->b<w.heap.size/\(C.w0.heap.size<=b\/C.M b):=by intro f2 o hf b y hy;by_cases hm:b∈f2;exact h.ir b _ (hf b hm);rw[aK hm]at hy;exact h.ir b y hy
 have abq:∀(f2:fi)(o:kX),(∀b∈f2,g.fK b=some o)->∀b y,y≠o->g.fK b=some y->(if b∈f2 then some (kX.hand 0) else g.fK b)=some y:=by intro f2 o hf b y hyo hb;rw[aK (λhm=>hyo (by have:=hf b hm;rw[hb]at this;simpa using this))];exact hb
 have hh1:∀{g2:Gh}{stN:AS},MH C g2 stN w 0 (a.eval x) (.val gg tr)->∀k u bv,[(a.eval x,AV.val gg tr)][k]?=some (u,bv)->MH C g2 stN w k u bv:=by
  intro g2 stN hh k u bv hk;cases k with
  |zero=>simp only[df,br,Prod.mk.injEq]at hk;obtain⟨rfl,rfl⟩:=hk;exact hh
  |succ k=>simp at hk
 cases rt with
 |slot s j0=>
  simp only[AS.LH]at ix;cases hg:st.get s with
  |yY ts=>rw[hg]at ix;cases ix
  |val g1 cs1=>
   rw[hg]at ix;cases ix;have mI:∀Hm,st.Ic (.slot s j0) Hm={st with slots:=st.slots.set s (.val g1 Hm)}:=λHm=>by simp only[AS.Ic,hg,AS.put,gB]
   obtain⟨fp,hr,hn,hl⟩:=h.slot s;rw[hg]at hr;obtain⟨vs,amE,hr⟩:=hr;obtain⟨f1,f2,f3,rfl,Fs,hle,ME,QR,HK⟩:=core (.slot s) (st.Ic (.slot s j0) (fC csO (mw.pos (.slot s j0)-j) (bh st.ep ((csO.drop (mw.pos (.slot s j0)-j)).take cs.length)))) hr hn hl (by rw[mI]) (by rw[mI]) (λ_ q=>by rw[mI];exact q);have F1:∀b∈f2,g.fK b=some (.slot s):=λb hb=>hl b (by simp[hb]);refine⟨{g with fK:=λb=>if b∈f2 then some (.hand 0) else g.fK b},λ_=>rfl,h.step (λy=>y≠ .slot s) hle h.defers ?_ ?_ h.frame (Rh f2 _ F1) (λb y hk hb=>⟨abq f2 _ F1 b y hk hb,rfl,rfl⟩) ?_ ?_ (λk u bv hk=> .inr (hh1 HK k u bv hk)) (.inl ⟨by simp,by rw[mI]⟩)⟩;rw[mI];simpa using h.size;rw[mI];simpa using h.bsize;intro i bv hi;rw[mI]at hi;have xQ:(st.slots.set s (.val g1 _))[i]?=some bv:=hi;by_cases his:i=s;subst his;rw[bO]at xQ;simp only[cL]at xQ;split at xQ;simp at xQ;subst xQ;refine .inr ⟨f1++f3,⟨vs,amE,ME⟩,QR,λb hb=>?_⟩;show(if b∈f2 then _ else _)=_;rw[aK (Fs b hb)];exact hl b (by rcases aB.1 hb with k|k<;>simp[k]);cases xQ;rw[aM (cE his)]at xQ;exact .inl ⟨by simpa using his,xQ,rfl⟩;intro t Hm hb;rw[mI]at hb;exact .inl ⟨by simp,hb,rfl⟩
 |box s j0=>
  have lB:st.boxes[s]?=some (some csO):=by simp only[AS.LH,eV]at ix;cases hb:st.boxes[s]? with|none=>simp[hb]at ix|some q=>rw[hb]at ix;simp at ix;rw[ix]
  have Cg:s<st.boxes.length:=(aD.1 lB).1;have mI:∀Hm,st.Ic (.box s j0) Hm={st with boxes:=st.boxes.set s (some Hm)}:=λHm=>by simp only[AS.Ic,AS.fQ,gB]
  obtain⟨arr,T,fr,fp,ma,vx,hr,hn,zb,hl,KI,KK⟩:=h.boxes s csO lB;obtain⟨f1,f2,f3,rfl,Fs,hle,ME,QR,HK⟩:=core (.box s) (st.Ic (.box s j0) (fC csO (mw.pos (.box s j0)-j) (bh st.ep ((csO.drop (mw.pos (.box s j0)-j)).take cs.length)))) hr hn hl (by rw[mI]) (by rw[mI]) (λt ht=>by rw[mI];obtain⟨c0,W6⟩:=ht;by_cases wx:s=t;subst wx;exact⟨_,by simp[Cg];rfl⟩;exact⟨c0,by rw[aM wx];exact W6⟩);have F1:∀b∈f2,g.fK b=some (.box s):=λb hb=>hl b (by simp[hb]);refine⟨{g with fK:=λb=>if b∈f2 then some (.hand 0) else g.fK b},λ_=>rfl,h.step (λy=>y≠ .box s) hle h.defers ?_ ?_ h.frame (Rh f2 _ F1) (λb y hk hb=>⟨abq f2 _ F1 b y hk hb,rfl,rfl⟩) ?_ ?_ (λk u bv hk=> .inr (hh1 HK k u bv hk)) (.inl ⟨by simp,by rw[mI]⟩)⟩;rw[mI];exact h.size;rw[mI];simpa using h.bsize;intro i bv hi;rw[mI]at hi;exact .inl ⟨by simp,hi,rfl⟩;intro t Hm hb;rw[mI]at hb;have iq:(st.boxes.set s (some _))[t]?=some (some Hm):=hb;by_cases wx:t=s;subst wx;rw[bO]at iq;simp only[cL,Cg]at iq;simp at iq;subst iq;have M3:g.β t∉f2:=λhm=>zb (by simp[hm]);refine .inr ⟨arr,T,fr,f1++f3,ma,vx,ME,QR,λhm=>zb (by rcases aB.1 hm with k|k<;>simp[k]),λb hb=>?_,?_,KK⟩;show(if b∈f2 then _ else _)=_;rw[aK (Fs b hb)];exact hl b (by rcases aB.1 hb with k|k<;>simp[k]);show(if g.β t∈f2 then _ else _)=_;rw[aK M3];exact KI;rw[aM (cE wx)]at iq;exact .inl ⟨by simpa using wx,iq,rfl⟩
 |io j0=>simp only[AS.LH,br]at ix;subst ix;obtain⟨fp,hr,hn,hl⟩:=h.io;obtain⟨f1,f2,f3,rfl,Fs,hle,ME,QR,HK⟩:=core .io (st.Ic (.io j0) (fC st.io (mw.pos (.io j0)-j) (bh st.ep ((st.io.drop (mw.pos (.io j0)-j)).take cs.length)))) hr hn hl rfl rfl (λ_ q=>q);have F1:∀b∈f2,g.fK b=some .io:=λb hb=>hl b (by simp[hb]);refine⟨{g with fK:=λb=>if b∈f2 then some (.hand 0) else g.fK b},λ_=>rfl,h.step (λy=>y≠ .io) hle h.defers h.size h.bsize h.frame (Rh f2 _ F1) (λb y hk hb=>⟨abq f2 _ F1 b y hk hb,rfl,rfl⟩) (λi bv hi=> .inl ⟨by simp,hi,rfl⟩) (λt Hm hb=> .inl ⟨by simp,hb,rfl⟩) (λk u bv hk=> .inr (hh1 HK k u bv hk)) (.inr ⟨f1++f3,ME,QR,λb hb=>?_⟩)⟩;show(if b∈f2 then _ else _)=_;rw[aK (Fs b hb)];exact hl b (by rcases aB.1 hb with k|k<;>simp[k])
 cases hc;cases hc;cases hc;cases hc
theorem aeU {o:Oper}(ho:o.op=.assign x)(h:qo C st a w){K:AS->aA R}(hk:Us o x st K=some r):oK P C o a w K r:=by
 have fz:(execOp a.eval o).run P w=.ok (.value (a.eval x)) w:=by simp[execOp,ho]
 obtain⟨g,hg⟩:=h;unfold Us at hk;split at hk;rename_i v cp hc;obtain⟨g',_,qn⟩:=hg.akO hc;exact⟨_,_,_,.inl fz,eZ.Gy qn o.dst,hk⟩;cases hk
theorem Se {E:Env}(hE:kQ P E.ty){o:Oper}{T:TypeId}{p:Operand}(hd:o.dst=none)(ho:o.op=.store T p x)(h:qo C st a w){K:AS->aA R}(hk:zZ E T p x st K=some r):oK P C o a w K r:=by obtain⟨g,hg⟩:=h;unfold zZ at hk;split at hk;rename_i sh s off hT hp;have xH:=hg.rd p;rw[hp]at xH;have xH:=Ey xH;split at hk;rename_i gg vs cp hc;obtain⟨g',M3,qn⟩:=hg.akO hc;split at hk;rename_i cs lB;split at hk;rename_i hlen;split at hk;rename_i iW;exact JP hE hd ho hT (by rw[M3];exact xH) qn lB hlen.1 hlen.2 iW hk;cases hk;cases hk;cases hk;cases hk;cases hk
structure Sound (P:Program) (E:Env) (Γ:zu):Prop where
 ty:kQ P E.ty
 eqs:Xf P E.eqs
 fts:acE P E.fts
 fns:∀f,nn P f (Γ f)
 mixed:P.follows .mixedOrders=true
theorem oK.wp {o:Oper}{K:AS->aA R}(h:oK P C o a w K r)(next:Act->World->Prop)(Q:Exit->Act->World->Prop)(iX:∀cp a' w',qo C cp a' w'->K cp=some r->next a' w'):o.wp P a w next Q:=by obtain⟨v,w',cp,fz,hs,hk⟩:=h;unfold Oper.wp;rcases fz with fz|⟨rfl,fz⟩;rw[fz];exact iX _ _ _ hs hk;rw[fz];exact iX _ _ _ hs hk
theorem adB {E:Env}(hS:Sound P E Γ){o:Oper}(h:qo C st a w){K:AS->aA R}(hk:dM E Γ an o st K=some r)(next:Act->World->Prop)(Q:Exit->Act->World->Prop)(iX:∀cp a' w',qo C cp a' w'->K cp=some r->next a' w'):o.wp P a w next Q:=by
 unfold dM at hk;split at hk;·rename_i x ho;exact(afa ho h hk).wp next Q iX
 ·rename_i x ho;split at hk;·exact(aeU ho h hk).wp next Q iX
  ·exact(Xq ho h hk).wp next Q iX
 ·rename_i c x y ho;exact(afz ho h hk).wp next Q iX
 ·rename_i T ho;exact(aag hS.ty ho h hk).wp next Q iX
 ·rename_i T x ho;exact(agQ ho h hk).wp next Q iX
 ·rename_i T p ho;exact(ae1 hS.ty ho h hk).wp next Q iX
 ·rename_i T p x ho;split at hk
  ·rename_i hd;split at hk;·exact(Se hS.ty hd ho h hk).wp next Q iX
   ·exact(acs hS.ty hd ho h hk).wp next Q iX
  cases hk
 ·rename_i x ho;split at hk;·rename_i s off hx;exact(Ta ho h hx hk).wp next Q iX
  ·rename_i fl e y i off hx;exact(Nq ho h hx hk).wp next Q iX
  cases hk
 ·rename_i op T x y T' ho;exact(agO hS.ty hS.eqs ho h hk).wp next Q iX
 ·rename_i op T x ho;exact(akG ho h hk).wp next Q iX
 ·rename_i S p f ho;exact(aaJ hS.ty ho h hk).wp next Q iX
 ·rename_i T x i ho;exact(Rc hS.ty ho h hk).wp next Q iX
 ·rename_i T x i ho;exact(abf hS.ty ho h hk).wp next Q iX
 ·rename_i T parts ho;exact(aas hS.ty ho h hk).wp next Q iX
 ·rename_i T len parts ho;exact(OR hS.ty ho h hk).wp next Q iX
 ·rename_i T n c ho;exact(Rl hS.ty ho h hk).wp next Q iX
 ·rename_i T x lo hi ho;exact(ab1 hS.ty ho h hk).wp next Q iX
 ·rename_i S t f ho;exact(XE hS.ty hS.fts ho h hk).wp next Q iX
 ·rename_i args ts ho;exact(adW hS.ty ho h hk).wp next Q iX
 ·rename_i src dst x ho;exact(VE hS.ty ho h hk).wp next Q iX
 ·rename_i t i ho;exact(VL ho h hk).wp next Q iX
 ·rename_i args ts ho;exact(ah2 hS.ty ho h hk).wp next Q iX
 ·rename_i args ts ho;exact(aib ho h hk).wp next Q iX
 ·rename_i args ts ho;exact(aia ho h hk).wp next Q iX
 ·rename_i args ts ho;exact(Xm hS.ty ho h hk).wp next Q iX
 ·rename_i f args ts ho;exact ajt hS.fns ho h hk next Q iX
 cases hk
theorem qo.forget (h:qo C st a w)(d:aA Nat):qo C (st.put d (.one .un)) (a.put d undef) w:=h.put d (λ_ _=>oz ⟨rfl,rfl⟩)
theorem qo.known (h:qo C st a w){b:Bool}(hg:st.get d=.val false [.bool b]):a.tmps.getD d undef=.bool b:=by obtain⟨g,qn⟩:=h;obtain⟨fp,hr,_⟩:=qn.slot d;rw[hg]at hr;exact yp hr
theorem Wu:a.put (some d) (a.tmps.getD d undef)=a:=by cases a with|mk tmps defers=>simp only[Act.put];congr 1;apply Array.ext_getElem?;intro i;rw[Array.getElem?_setIfInBounds];by_cases h:d=i;subst h;by_cases hs:d<tmps.size;simp[hs,Array.getD];simp[hs];simp[h]
theorem qo.refine(h:qo C st a w){b:Bool}(hg:st.get d=.val false [.bool b]):qo C (st.put (some d) (.one (.bool b))) a w:=by have hk:=h.known hg;have:=h.put (some d) (v:=.bool b) (av:=.one (.bool b)) (λ_ _=>oz ⟨rfl,rfl⟩);rw[<-hk,Wu]at this;exact this
theorem XW {E:Env}(hS:Sound P E Γ){ops:Array Oper}{o:Oper}(h:qo C st a w){K:AS->aA R}(hk:iO E Γ an ops.toList o st K=some r)(next:Act->World->Prop)(Q:Exit->Act->World->Prop)(iX:∀cp a' w',qo C cp a' w'->K cp=some r->next a' w'): if Region.wanted o (yielded ops a.tmps) then o.wp P a w next Q\/(o.asks P a w/\LetsOut Q) else next (a.put o.dst undef) w:=by
 unfold iO at hk;split at hk;·rename_i hgd;rw[aI (by simp[Region.wanted,hgd])];exact .inl (adB hS h hk next Q iX)
 ·rename_i j KE hgd;split at hk
  ·rename_i d aek;have akR:(ops[j]?).bind (·.dst)=some d:=by rw[eV]at aek;simpa using aek
   split at hk
   ·rename_i b hb;have hkn:=h.known hb;have hdl:d<a.tmps.size:=by rcases ca d a.tmps.size with iA|B0;exact iA;simp[Array.getD,Nat.not_lt.2 B0,undef]at hkn
    have hy:yielded ops a.tmps j=some b:=by
     unfold yielded;rw[akR];have:a.tmps[d]?=some (.bool b):=by rw[Array.getElem?_eq_getElem hdl];simp[Array.getD,hdl]at hkn;rw[hkn]
     simp[this]
    have hr:=h.refine hb
    have main:∀t,b=t->(if t==KE then dM E Γ an o (st.put (some d) (.one (.bool t))) K else K ((st.put (some d) (.one (.bool t))).put o.dst (.one .un)))=some r->
     if Region.wanted o (yielded ops a.tmps) then o.wp P a w next Q\/(o.asks P a w/\LetsOut Q) else next (a.put o.dst undef) w:=by
     rintro t rfl hk
     have hw:Region.wanted o (yielded ops a.tmps)=(b==KE):=by simp only[Region.wanted,hgd,hy];cases b<;>cases KE<;>rfl
     rw[hw]
     cases hbw:(b==KE)with
     |true=>
      rw[hbw]at hk
      simp only[cL]at hk⊢
      exact .inl (adB hS hr hk next Q iX)
     |false=>
      rw[hbw]at hk
      simp only[bm,cG]at hk⊢
      exact iX _ _ _ (hr.forget o.dst) hk
    cases b with|true=>exact main true rfl hk|false=>exact main false rfl hk
   rename_i hb;obtain⟨g,hg⟩:=id h;obtain⟨fp,hr,_⟩:=hg.slot d;rw[hb]at hr;have hun:=(fN hr).1;have hy:yielded ops a.tmps j=none:=by
    unfold yielded;rw[akR];simp only[fL];rcases ca d a.tmps.size with iA|B0;have:a.tmps[d]?=some undef:=by rw[Array.getElem?_eq_getElem iA];simp[Array.getD,iA]at hun;rw[hun]
    rw[this];rfl;rw[Array.getElem?_eq_none B0]
   have hw:Region.wanted o (yielded ops a.tmps)=false:=by simp only[Region.wanted,hgd,hy];cases KE<;>rfl
   rw[hw];exact iX _ _ _ (h.forget o.dst) hk;cases hk
  cases hk
theorem aim {E:Env}(hS:Sound P E Γ){ops:Array Oper}{Q:Exit->Act->World->Prop}{K:AS->aA R}
 (hq:∀cp a' w',qo C cp a' w'->K cp=some r->Q .normal a' w'):∀(n i:Nat)(st:AS)(a:Act)(w:World),i+n=ops.size->qo C st a w->Wq E Γ an ops.toList (ops.toList.drop i) st K=some r->
  wpOps P ops Q ((List.range' i n)) a w
 |0,i,st,a,w,hi,h,hk=>by rw[cW (by simp;omega)]at hk;exact hq st a w h hk
 |n+1,i,st,a,w,hi,h,hk=>by
  have SS:i<ops.toList.length:=by simp;omega
  rw[cr SS]at hk;have ho:ops[i]?=some ops.toList[i]:=by rw[<-cK];exact ay SS
  rw[List.range'_succ,wpOps,ho];simp only;have:=XW hS (ops:=ops) h hk (wpOps P ops Q (List.range' (i+1) n)) Q (λcp a' w' hs HM=>aim hS hq n (i+1) cp a' w' (by omega) hs HM);exact this
end Go.Dn
