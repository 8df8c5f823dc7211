import Derived.Test.YtfbhfnniblfpbaaGreatDnCall
/- The soundness of the abstract semantics: operations, regions, loops, functions. -/
namespace Go.Dn
open Go.RowKit
variable {P:Program} {C:Ctx} {st:AS} {a:Act} {w:World} {R:Type} {r:R}
variable {an:An} {Γ:xg} {d:Nat} {x:Operand}
theorem abW:∀(os ss:au AC){r:au AC},my os ss=some r->r.all AC.XY=true/\r.map AC.strip=r:=by
 intro os;induction os with
 |nil=>intro ss r h;cases ss with|nil=>simp[my]at h;subst h;exact⟨rfl,rfl⟩|cons _ _=>simp[my]at h
 |cons o os ih=>
  intro ss r h;cases ss with
  |nil=>unfold my at h;split at h<;>first|contradiction|cases h
  |cons s ss=>
   unfold my at h;split at h;contradiction;rename_i h1 h2;injection h1 with h1 N3;subst N3;injection h2 with h2 TS;subst TS;rw[Bool.cond_eq_ite]at h;split at h;obtain⟨r',hr,h⟩:=aK.1 h;cases h;obtain⟨k1,k2⟩:=ih _ hr;exact⟨by simp[AC.XY,k1],by simp[AC.strip,k2]⟩;cases h
   all_goals first
    |cases h
    |(rename_i h1 h2
      injection h1 with h1 N3;subst N3
      injection h2 with h2 TS;subst TS
      obtain⟨r',hr,h⟩:=aK.1 h
      cases h
      obtain⟨k1,k2⟩:=ih _ hr
      exact⟨by simp[AC.XY,AC.fS,k1],by simp[AC.strip,k2]⟩)
theorem ZI:∀{cs:au AC},cs.all AC.XY=true->∀{c:RC}{A:Rg}{hw:Nat->Nat}{w:World}{vs:gP}{fp:dI},bp (eD A hw w) vs cs fp->c.w=w->c.hw=hw->bp c vs (cs.map AC.strip) fp
 |[],_,c,A,hw,w,vs,fp,h,_,_=>by cases vs with|nil=>exact h|cons _ _=>exact h.elim
 |x::cs,jZ,c,A,hw,w,vs,fp,h,MD,Bi=>by
  cases vs with
  |nil=>exact h.elim
  |cons v vs=>
   obtain⟨f1,f2,rfl,h1,h2⟩:=h;simp only[bO,ah]at jZ;refine⟨f1,f2,rfl,?_,ZI jZ.2 h2 MD Bi⟩;cases x with
   |sl fl e xs=>cases fl with|own t=>exact⟨by rw[MD,Bi];exact h1.1,by simp⟩|arg _=>cases jZ.1|loc _ _=>cases jZ.1|nest _ _ _ _ _ _=>cases jZ.1|part _ _ _ _=>cases jZ.1|eQ _ _ _=>cases jZ.1
   |int k n=>exact h1
   |bool b=>exact h1
   |str s=>exact h1
   |fn f=>exact h1
   |jl=>cases jZ.1
   |ptr s off=>cases jZ.1
   |Cg fl e y i off=>cases jZ.1
   |un=>cases jZ.1
   |bot=>cases jZ.1
theorem dk.agr {g:Gh}(h:dk C g st a w []){v:AV}{st':AS}(hc:Sk st x=some (v,st')):∃g',(∀s,g'.β s=g.β s)/\dk C g' st' a w [(a.eval x,v)]:=by
 unfold Sk at hc;have Jr:=h.rd x;split at hc;rename_i gg cs hx;rw[hx]at Jr;obtain⟨vs0,dM,Gk⟩:=Jr;split at hc;rename_i rt j N8;split at hc;rename_i Df eE;split at hc;rename_i mK Gl;cases hc;have SH:=H7 _ _ Gl;have Jp:=abW _ _ Gl
 have core:∀(o:iT)(YO:AS){vs:gP}{fp:dI},bp (cq C g st w) vs Df fp->fp.Nodup->(∀b∈fp,g.dB b=some o)->YO.ep=st.ep->YO.iss=st.iss->(∀s,fX st s->fX YO s)->
  ∃f1 f2 f3,fp=f1++f2++f3/\(∀b∈f1++f3,b∉f2)/\
   (cq C g st w).Le (cq C {g with dB:=λb=>if b∈f2 then some (.hand 0) else g.dB b} YO w)/\
   bp (cq C {g with dB:=λb=>if b∈f2 then some (.hand 0) else g.dB b} YO w) vs (cS Df (rt.pos-j) (aS st.ep ((Df.drop (rt.pos-j)).take cs.length))) (f1++f3)/\(f1++f3).Nodup/\
   KF C {g with dB:=λb=>if b∈f2 then some (.hand 0) else g.dB b} YO w 0 (a.eval x) (.val gg mK):=by
  intro o YO vs fp hr hn hl xl FO qF
  obtain⟨f1,f2,f3,rfl,r1,r2,r3⟩:=hr.mid (rt.pos-j) cs.length
  have Bm:=hn
  rw[aP]at Bm
  have n1:=aB.1 Bm
  have n2:=aB.1 n1.2.1
  have hle:(cq C g st w).Le (cq C {g with dB:=λb=>if b∈f2 then some (.hand 0) else g.dB b} YO w):=
   ⟨rfl,λt ht=>⟨by show ll YO t;have TV:ll st t:=ht;simpa[ll,FO]using TV,rfl⟩,λ_ _ _ _ _ hu=>hu,by show st.ep<=YO.ep;omega,λs hs=>⟨qF s hs,rfl⟩,λ_ b o u ho hu=>⟨ho,hu⟩⟩
  refine⟨f1,f2,f3,rfl,?_,hle,?_,?_,?_⟩
  ·intro b hb h2
   rcases ay.1 hb with hb|hb
   ·exact n1.2.2 b hb b (bj _ h2) rfl
   ·exact n2.2.2 b h2 b hb rfl
  ·have Jt:=IV (c':=cq C {g with dB:=λb=>if b∈f2 then some (.hand 0) else g.dB b} YO w) (seg:=aS st.ep ((Df.drop (rt.pos-j)).take cs.length)) rfl (by rw[r2.length];exact SH)
    (r1.mono hle (λb _=>⟨rfl,rfl⟩)) ((r2.aS).mono hle (by simp)) (r3.mono hle (λb _=>⟨rfl,rfl⟩))
   rw[br]at Jt
   exact Jt
  ·refine aB.2 ⟨n1.1,n2.2.1,?_⟩
   rintro b hb c hc rfl
   exact n1.2.2 b hb b (ba _ hc) rfl
  ·have agU:=O2 (A:=λ_ _ _=>False) _ _ Gl Gk r2
   have tU:=ZI Jp.1 (c:=cq C g st w) agU rfl rfl
   rw[Jp.2]at tU
   refine⟨f2,⟨vs0,dM,tU.mono hle (λb _=>⟨rfl,rfl⟩)⟩,n2.1,λb hb=>?_⟩
   show(if b∈f2 then _ else _)=_
   rw[aF hb]
 have Ow:∀(f2:dI)(o:iT),(∀b∈f2,g.dB b=some o)->∀b y,(if b∈f2 then some (iT.hand 0) else g.dB b)=some y->b<w.heap.size/\(C.w0.heap.size<=b\/C.M b):=by intro f2 o hf b y hy;by_cases hm:b∈f2;exact h.fa b _ (hf b hm);rw[aE hm]at hy;exact h.fa b y hy
 have X3:∀(f2:dI)(o:iT),(∀b∈f2,g.dB b=some o)->∀b y,y≠o->g.dB b=some y->(if b∈f2 then some (iT.hand 0) else g.dB b)=some y:=by intro f2 o hf b y hyo hb;rw[aE (λhm=>hyo (by have:=hf b hm;rw[hb]at this;simpa using this))];exact hb
 have hh1:∀{g2:Gh}{YO:AS},KF C g2 YO w 0 (a.eval x) (.val gg mK)->∀k u bv,[(a.eval x,AV.val gg mK)][k]?=some (u,bv)->KF C g2 YO w k u bv:=by
  intro g2 YO hh k u bv hk;cases k with
  |zero=>simp only[ch,aZ,Prod.mk.injEq]at hk;obtain⟨rfl,rfl⟩:=hk;exact hh
  |succ k=>simp at hk
 cases rt with
 |slot s j0=>
  simp only[AS.tD]at eE;cases hg:st.get s with
  |vq ts=>rw[hg]at eE;cases eE
  |val g1 cs1=>
   rw[hg]at eE;cases eE;have lf:∀FR,st.pJ (.slot s j0) FR={st with slots:=st.slots.set s (.val g1 FR)}:=λFR=>by simp only[AS.pJ,hg,AS.put,eJ]
   obtain⟨fp,hr,hn,hl⟩:=h.slot s;rw[hg]at hr;obtain⟨vs,Jn,hr⟩:=hr;obtain⟨f1,f2,f3,rfl,zG,hle,Jt,IB,Ge⟩:=core (.slot s) (st.pJ (.slot s j0) (cS Df (ka.pos (.slot s j0)-j) (aS st.ep ((Df.drop (ka.pos (.slot s j0)-j)).take cs.length)))) hr hn hl (by rw[lf]) (by rw[lf]) (λ_ q=>by rw[lf];exact q);have Hh:∀b∈f2,g.dB b=some (.slot s):=λb hb=>hl b (by simp[hb]);refine⟨{g with dB:=λb=>if b∈f2 then some (.hand 0) else g.dB b},λ_=>rfl,h.step (λy=>y≠ .slot s) hle h.defers ?_ ?_ h.frame (Ow f2 _ Hh) (λb y hk hb=>⟨X3 f2 _ Hh b y hk hb,rfl,rfl⟩) ?_ ?_ (λk u bv hk=> .inr (hh1 Ge k u bv hk)) (.inl ⟨by simp,by rw[lf]⟩)⟩;rw[lf];simpa using h.size;rw[lf];simpa using h.bsize;intro i bv hi;rw[lf]at hi;have rn:(st.slots.set s (.val g1 _))[i]?=some bv:=hi;by_cases XB:i=s;subst XB;rw[bk]at rn;simp only[bN]at rn;split at rn;simp at rn;subst rn;refine .inr ⟨f1++f3,⟨vs,Jn,Jt⟩,IB,λb hb=>?_⟩;show(if b∈f2 then _ else _)=_;rw[aE (zG b hb)];exact hl b (by rcases ay.1 hb with k|k<;>simp[k]);cases rn;rw[aN (cD XB)]at rn;exact .inl ⟨by simpa using XB,rn,rfl⟩;intro t FR hb;rw[lf]at hb;exact .inl ⟨by simp,hb,rfl⟩
 |box s j0=>
  have jq:st.boxes[s]?=some (some Df):=by simp only[AS.tD,dv]at eE;cases hb:st.boxes[s]? with|none=>simp[hb]at eE|some q=>rw[hb]at eE;simp at eE;rw[eE]
  have xq:s<st.boxes.length:=(aD.1 jq).1;have lf:∀FR,st.pJ (.box s j0) FR={st with boxes:=st.boxes.set s (some FR)}:=λFR=>by simp only[AS.pJ,AS.ed,eJ]
  obtain⟨arr,T,fr,fp,jh,qG,hr,hn,sO,hl,Gg,HV⟩:=h.boxes s Df jq;obtain⟨f1,f2,f3,rfl,zG,hle,Jt,IB,Ge⟩:=core (.box s) (st.pJ (.box s j0) (cS Df (ka.pos (.box s j0)-j) (aS st.ep ((Df.drop (ka.pos (.box s j0)-j)).take cs.length)))) hr hn hl (by rw[lf]) (by rw[lf]) (λt ht=>by rw[lf];obtain⟨c0,WJ⟩:=ht;by_cases qH:s=t;subst qH;exact⟨_,by simp[xq];rfl⟩;exact⟨c0,by rw[aN qH];exact WJ⟩);have Hh:∀b∈f2,g.dB b=some (.box s):=λb hb=>hl b (by simp[hb]);refine⟨{g with dB:=λb=>if b∈f2 then some (.hand 0) else g.dB b},λ_=>rfl,h.step (λy=>y≠ .box s) hle h.defers ?_ ?_ h.frame (Ow f2 _ Hh) (λb y hk hb=>⟨X3 f2 _ Hh b y hk hb,rfl,rfl⟩) ?_ ?_ (λk u bv hk=> .inr (hh1 Ge k u bv hk)) (.inl ⟨by simp,by rw[lf]⟩)⟩;rw[lf];exact h.size;rw[lf];simpa using h.bsize;intro i bv hi;rw[lf]at hi;exact .inl ⟨by simp,hi,rfl⟩;intro t FR hb;rw[lf]at hb;have gn:(st.boxes.set s (some _))[t]?=some (some FR):=hb;by_cases qH:t=s;subst qH;rw[bk]at gn;simp only[bN,xq]at gn;simp at gn;subst gn;have ID:g.β t∉f2:=λhm=>sO (by simp[hm]);refine .inr ⟨arr,T,fr,f1++f3,jh,qG,Jt,IB,λhm=>sO (by rcases ay.1 hm with k|k<;>simp[k]),λb hb=>?_,?_,HV⟩;show(if b∈f2 then _ else _)=_;rw[aE (zG b hb)];exact hl b (by rcases ay.1 hb with k|k<;>simp[k]);show(if g.β t∈f2 then _ else _)=_;rw[aE ID];exact Gg;rw[aN (cD qH)]at gn;exact .inl ⟨by simpa using qH,gn,rfl⟩
 |io j0=>simp only[AS.tD,aZ]at eE;subst eE;obtain⟨fp,hr,hn,hl⟩:=h.io;obtain⟨f1,f2,f3,rfl,zG,hle,Jt,IB,Ge⟩:=core .io (st.pJ (.io j0) (cS st.io (ka.pos (.io j0)-j) (aS st.ep ((st.io.drop (ka.pos (.io j0)-j)).take cs.length)))) hr hn hl rfl rfl (λ_ q=>q);have Hh:∀b∈f2,g.dB b=some .io:=λb hb=>hl b (by simp[hb]);refine⟨{g with dB:=λb=>if b∈f2 then some (.hand 0) else g.dB b},λ_=>rfl,h.step (λy=>y≠ .io) hle h.defers h.size h.bsize h.frame (Ow f2 _ Hh) (λb y hk hb=>⟨X3 f2 _ Hh b y hk hb,rfl,rfl⟩) (λi bv hi=> .inl ⟨by simp,hi,rfl⟩) (λt FR hb=> .inl ⟨by simp,hb,rfl⟩) (λk u bv hk=> .inr (hh1 Ge k u bv hk)) (.inr ⟨f1++f3,Jt,IB,λb hb=>?_⟩)⟩;show(if b∈f2 then _ else _)=_;rw[aE (zG b hb)];exact hl b (by rcases ay.1 hb with k|k<;>simp[k])
 cases hc;cases hc;cases hc;cases hc
theorem abg {o:Oper}(ho:o.op=.assign x)(h:nb C st a w){K:AS->aw R}(hk:Rk o x st K=some r):mJ P C o a w K r:=by
 have dA:(execOp a.eval o).run P w=.ok (.value (a.eval x)) w:=by simp[execOp,ho]
 obtain⟨g,hg⟩:=h;unfold Rk at hk;split at hk;rename_i v st' hc;obtain⟨g',_,mI⟩:=hg.agr hc;exact⟨_,_,_,.inl dA,dk.EI mI o.dst,hk⟩;cases hk
theorem Pm {E:Env}(hE:jf P E.ty){o:Oper}{T:TypeId}{p:Operand}(hd:o.dst=none)(ho:o.op=.store T p x)(h:nb C st a w){K:AS->aw R}(hk:xI E T p x st K=some r):mJ P C o a w K r:=by obtain⟨g,hg⟩:=h;unfold xI at hk;split at hk;rename_i sh s off hT hp;have vo:=hg.rd p;rw[hp]at vo;have vo:=CM vo;split at hk;rename_i gg vs st' hc;obtain⟨g',ID,mI⟩:=hg.agr hc;split at hk;rename_i cs jq;split at hk;rename_i hlen;split at hk;rename_i gk;exact Ie hE hd ho hT (by rw[ID];exact vo) mI jq hlen.1 hlen.2 gk hk;cases hk;cases hk;cases hk;cases hk;cases hk
structure Sound (P:Program) (E:Env) (Γ:xg):Prop where
 ty:jf P E.ty
 eqs:T3 P E.eqs
 fts:Za P E.fts
 fns:∀f,kB P f (Γ f)
 mixed:P.follows .mixedOrders=true
theorem mJ.wp {o:Oper}{K:AS->aw R}(h:mJ P C o a w K r)(next:Act->World->Prop)(Q:Exit->Act->World->Prop)(fB:∀st' a' w',nb C st' a' w'->K st'=some r->next a' w'):o.wp P a w next Q:=by obtain⟨v,w',st',dA,hs,hk⟩:=h;unfold Oper.wp;rcases dA with dA|⟨rfl,dA⟩;rw[dA];exact fB _ _ _ hs hk;rw[dA];exact fB _ _ _ hs hk
theorem Z7 {E:Env}(hS:Sound P E Γ){o:Oper}(h:nb C st a w){K:AS->aw R}(hk:cU E Γ an o st K=some r)(next:Act->World->Prop)(Q:Exit->Act->World->Prop)(fB:∀st' a' w',nb C st' a' w'->K st'=some r->next a' w'):o.wp P a w next Q:=by
 unfold cU at hk;split at hk;·rename_i x ho;exact(abo ho h hk).wp next Q fB
 ·rename_i x ho;split at hk;·exact(abg ho h hk).wp next Q fB
  ·exact(Ua ho h hk).wp next Q fB
 ·rename_i c x y ho;exact(abO ho h hk).wp next Q fB
 ·rename_i T ho;exact(WW hS.ty ho h hk).wp next Q fB
 ·rename_i T x ho;exact(acK ho h hk).wp next Q fB
 ·rename_i T p ho;exact(abk hS.ty ho h hk).wp next Q fB
 ·rename_i T p x ho;split at hk
  ·rename_i hd;split at hk;·exact(Pm hS.ty hd ho h hk).wp next Q fB
   ·exact(YR hS.ty hd ho h hk).wp next Q fB
  cases hk
 ·rename_i x ho;split at hk;·rename_i s off hx;exact(Qh ho h hx hk).wp next Q fB
  ·rename_i fl e y i off hx;exact(La ho h hx hk).wp next Q fB
  cases hk
 ·rename_i op T x y T' ho;exact(acI hS.ty hS.eqs ho h hk).wp next Q fB
 ·rename_i op T x ho;exact(agi ho h hk).wp next Q fB
 ·rename_i S p f ho;exact(Xr hS.ty ho h hk).wp next Q fB
 ·rename_i T x i ho;exact(Oo hS.ty ho h hk).wp next Q fB
 ·rename_i T x i ho;exact(XV hS.ty ho h hk).wp next Q fB
 ·rename_i T parts ho;exact(W7 hS.ty ho h hk).wp next Q fB
 ·rename_i T len parts ho;exact(MB hS.ty ho h hk).wp next Q fB
 ·rename_i T n c ho;exact(OB hS.ty ho h hk).wp next Q fB
 ·rename_i T x lo hi ho;exact(Yy hS.ty ho h hk).wp next Q fB
 ·rename_i S t f ho;exact(Uu hS.ty hS.fts ho h hk).wp next Q fB
 ·rename_i args ts ho;exact(aaq hS.ty ho h hk).wp next Q fB
 ·rename_i src dst x ho;exact(Sl hS.ty ho h hk).wp next Q fB
 ·rename_i t i ho;exact(Su ho h hk).wp next Q fB
 ·rename_i args ts ho;exact(ad0 hS.ty ho h hk).wp next Q fB
 ·rename_i args ts ho;exact(ad6 ho h hk).wp next Q fB
 ·rename_i args ts ho;exact(ad5 ho h hk).wp next Q fB
 ·rename_i args ts ho;exact(T7 hS.ty ho h hk).wp next Q fB
 ·rename_i f args ts ho;exact afa hS.fns ho h hk next Q fB
 cases hk
theorem nb.forget (h:nb C st a w)(d:aw Nat):nb C (st.put d (.one .un)) (a.put d undef) w:=h.put d (λ_ _=>mu ⟨rfl,rfl⟩)
theorem nb.known (h:nb C st a w){b:Bool}(hg:st.get d=.val false [.bool b]):a.tmps.getD d undef=.bool b:=by obtain⟨g,mI⟩:=h;obtain⟨fp,hr,_⟩:=mI.slot d;rw[hg]at hr;exact wz hr
theorem Tj:a.put (some d) (a.tmps.getD d undef)=a:=by cases a with|mk tmps defers=>simp only[Act.put];congr 1;apply Array.ext_getElem?;intro i;rw[Array.getElem?_setIfInBounds];by_cases h:d=i;subst h;by_cases hs:d<tmps.size;simp[hs,Array.getD];simp[hs];simp[h]
theorem nb.refine(h:nb C st a w){b:Bool}(hg:st.get d=.val false [.bool b]):nb C (st.put (some d) (.one (.bool b))) a w:=by have hk:=h.known hg;have:=h.put (some d) (v:=.bool b) (av:=.one (.bool b)) (λ_ _=>mu ⟨rfl,rfl⟩);rw[<-hk,Tj]at this;exact this
theorem UG {E:Env}(hS:Sound P E Γ){ops:Array Oper}{o:Oper}(h:nb C st a w){K:AS->aw R}(hk:fY E Γ an ops.toList o st K=some r)(next:Act->World->Prop)(Q:Exit->Act->World->Prop)(fB:∀st' a' w',nb C st' a' w'->K st'=some r->next a' w'): if Region.wanted o (yielded ops a.tmps) then o.wp P a w next Q\/(o.asks P a w/\LetsOut Q) else next (a.put o.dst undef) w:=by
 unfold fY at hk;split at hk;·rename_i hgd;rw[aF (by simp[Region.wanted,hgd])];exact .inl (Z7 hS h hk next Q fB)
 ·rename_i j I0 hgd;split at hk
  ·rename_i d aaJ;have agu:(ops[j]?).bind (·.dst)=some d:=by rw[dv]at aaJ;simpa using aaJ
   split at hk
   ·rename_i b hb;have hkn:=h.known hb;have hdl:d<a.tmps.size:=by rcases bL d a.tmps.size with gq|zX;exact gq;simp[Array.getD,Nat.not_lt.2 zX,undef]at hkn
    have hy:yielded ops a.tmps j=some b:=by
     unfold yielded;rw[agu];have:a.tmps[d]?=some (.bool b):=by rw[Array.getElem?_eq_getElem hdl];simp[Array.getD,hdl]at hkn;rw[hkn]
     simp[this]
    have hr:=h.refine hb
    have main:∀t,b=t->(if t==I0 then cU E Γ an o (st.put (some d) (.one (.bool t))) K else K ((st.put (some d) (.one (.bool t))).put o.dst (.one .un)))=some r->
     if Region.wanted o (yielded ops a.tmps) then o.wp P a w next Q\/(o.asks P a w/\LetsOut Q) else next (a.put o.dst undef) w:=by
     rintro t rfl hk
     have hw:Region.wanted o (yielded ops a.tmps)=(b==I0):=by simp only[Region.wanted,hgd,hy];cases b<;>cases I0<;>rfl
     rw[hw]
     cases hbw:(b==I0)with
     |true=>
      rw[hbw]at hk
      simp only[bN]at hk⊢
      exact .inl (Z7 hS hr hk next Q fB)
     |false=>
      rw[hbw]at hk
      simp only[aY,bV]at hk⊢
      exact fB _ _ _ (hr.forget o.dst) hk
    cases b with|true=>exact main true rfl hk|false=>exact main false rfl hk
   rename_i hb;obtain⟨g,hg⟩:=id h;obtain⟨fp,hr,_⟩:=hg.slot d;rw[hb]at hr;have hun:=(dE hr).1;have hy:yielded ops a.tmps j=none:=by
    unfold yielded;rw[agu];simp only[dX];rcases bL d a.tmps.size with gq|zX;have:a.tmps[d]?=some undef:=by rw[Array.getElem?_eq_getElem gq];simp[Array.getD,gq]at hun;rw[hun]
    rw[this];rfl;rw[Array.getElem?_eq_none zX]
   have hw:Region.wanted o (yielded ops a.tmps)=false:=by simp only[Region.wanted,hgd,hy];cases I0<;>rfl
   rw[hw];exact fB _ _ _ (h.forget o.dst) hk;cases hk
  cases hk
theorem aec {E:Env}(hS:Sound P E Γ){ops:Array Oper}{Q:Exit->Act->World->Prop}{K:AS->aw R}
 (hq:∀st' a' w',nb C st' a' w'->K st'=some r->Q .normal a' w'):∀(n i:Nat)(st:AS)(a:Act)(w:World),i+n=ops.size->nb C st a w->Tc E Γ an ops.toList (ops.toList.drop i) st K=some r->
  wpOps P ops Q ((List.range' i n)) a w
 |0,i,st,a,w,hi,h,hk=>by rw[cK (by simp;omega)]at hk;exact hq st a w h hk
 |n+1,i,st,a,w,hi,h,hk=>by
  have N9:i<ops.toList.length:=by simp;omega
  rw[bQ N9]at hk;have ho:ops[i]?=some ops.toList[i]:=by rw[<-bZ];exact al N9
  rw[List.range'_succ,wpOps,ho];simp only;have:=UG hS (ops:=ops) h hk (wpOps P ops Q (List.range' (i+1) n)) Q (λst' a' w' hs Gf=>aec hS hq n (i+1) st' a' w' (by omega) hs Gf);exact this
end Go.Dn
