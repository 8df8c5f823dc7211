import Derived.Test.YtbebkmajekhclaaGreatDnCall
/- The soundness of the abstract semantics: operations, regions, loops, functions. -/
namespace Go.Dn
open Go.RowKit
variable {P:Program} {C:Ctx} {st:AS} {a:Act} {w:World} {R:Type} {r:R}
variable {an:An} {Γ:Cn} {d:Nat} {x:Operand}
theorem aiz:∀(os ss:aw AC){r:aw AC},pL os ss=some r->r.all AC.anN=true/\r.map AC.strip=r:=by
 intro os;induction os with
 |nil=>intro ss r h;cases ss with|nil=>simp[pL]at h;subst h;exact⟨rfl,rfl⟩|cons _ _=>simp[pL]at h
 |cons o os ih=>
  intro ss r h;cases ss with
  |nil=>unfold pL at h;split at h<;>first|contradiction|cases h
  |cons s ss=>
   unfold pL at h;split at h;contradiction;rename_i h1 h2;injection h1 with h1 SH;subst SH;injection h2 with h2 XU;subst XU;rw[Bool.cond_eq_ite]at h;split at h;obtain⟨r',hr,h⟩:=ba.1 h;cases h;obtain⟨k1,k2⟩:=ih _ hr;exact⟨by simp[AC.anN,k1],by simp[AC.strip,k2]⟩;cases h
   all_goals first
    |cases h
    |(rename_i h1 h2
      injection h1 with h1 SH;subst SH
      injection h2 with h2 XU;subst XU
      obtain⟨r',hr,h⟩:=ba.1 h
      cases h
      obtain⟨k1,k2⟩:=ih _ hr
      exact⟨by simp[AC.anN,AC.kL,k1],by simp[AC.strip,k2]⟩)
theorem afs:∀{cs:aw AC},cs.all AC.anN=true->∀{c:RC}{A:Rg}{hw:Nat->Nat}{w:World}{vs:jJ}{fp:fM},bV (gU A hw w) vs cs fp->c.w=w->c.hw=hw->bV c vs (cs.map AC.strip) fp
 |[],_,c,A,hw,w,vs,fp,h,_,_=>by cases vs with|nil=>exact h|cons _ _=>exact h.elim
 |x::cs,oz,c,A,hw,w,vs,fp,h,XV,It=>by
  cases vs with
  |nil=>exact h.elim
  |cons v vs=>
   obtain⟨f1,f2,rfl,h1,h2⟩:=h;simp only[cz,ae]at oz;refine⟨f1,f2,rfl,?_,afs oz.2 h2 XV It⟩;cases x with
   |sl fl e xs=>cases fl with|own t=>exact⟨by rw[XV,It];exact h1.1,by simp⟩|arg _=>cases oz.1|loc _ _=>cases oz.1|nest _ _ _ _ _ _=>cases oz.1|part _ _ _ _=>cases oz.1|gB _ _ _=>cases oz.1
   |int k n=>exact h1
   |bool b=>exact h1
   |str s=>exact h1
   |fn f=>exact h1
   |kY=>cases oz.1
   |ptr s off=>cases oz.1
   |D3 fl e y i off=>cases oz.1
   |un=>cases oz.1
   |bot=>cases oz.1
theorem fb.aoJ {g:Gh}(h:fb C g st a w []){v:AV}{cj:AS}(hc:VW st x=some (v,cj)):∃g',(∀s,g'.β s=g.β s)/\fb C g' cj a w [(a.eval x,v)]:=by
 unfold VW at hc;have QQ:=h.rd x;split at hc;rename_i gg cs hx;rw[hx]at QQ;obtain⟨vs0,gD,Ul⟩:=QQ;split at hc;rename_i rt j WK;split at hc;rename_i csO ja;split at hc;rename_i sU akS;cases hc;have aqf:=Ts _ _ akS;have S3:=aiz _ _ akS
 have core:∀(o:lz)(stN:AS){vs:jJ}{fp:fM},bV (dz C g st w) vs csO fp->fp.Nodup->(∀b∈fp,g.fE b=some o)->stN.ep=st.ep->stN.iss=st.iss->(∀s,ku st s->ku stN s)->
  ∃f1 f2 f3,fp=f1++f2++f3/\(∀b∈f1++f3,b∉f2)/\
   (dz C g st w).Le (dz C {g with fE:=λb=>if b∈f2 then some (.hand 0) else g.fE b} stN w)/\
   bV (dz C {g with fE:=λb=>if b∈f2 then some (.hand 0) else g.fE b} stN w) vs (fu csO (rt.pos-j) (bg st.ep ((csO.drop (rt.pos-j)).take cs.length))) (f1++f3)/\(f1++f3).Nodup/\
   L2 C {g with fE:=λb=>if b∈f2 then some (.hand 0) else g.fE b} stN w 0 (a.eval x) (.val gg sU):=by
  intro o stN vs fp hr hn hl AY OO xy
  obtain⟨f1,f2,f3,rfl,r1,r2,r3⟩:=hr.mid (rt.pos-j) cs.length
  have En:=hn
  rw[aR]at En
  have n1:=aS.1 En
  have n2:=aS.1 n1.2.1
  have hle:(dz C g st w).Le (dz C {g with fE:=λb=>if b∈f2 then some (.hand 0) else g.fE b} stN w):=
   ⟨rfl,λt ht=>⟨by show oA stN t;have ht':oA st t:=ht;simpa[oA,OO]using ht',rfl⟩,λ_ _ _ _ _ hu=>hu,by show st.ep<=stN.ep;omega,λs hs=>⟨xy s hs,rfl⟩,λ_ b o u ho hu=>⟨ho,hu⟩⟩
  refine⟨f1,f2,f3,rfl,?_,hle,?_,?_,?_⟩
  ·intro b hb h2
   rcases aA.1 hb with hb|hb
   ·exact n1.2.2 b hb b (bH _ h2) rfl
   ·exact n2.2.2 b h2 b hb rfl
  ·have Mn:=aes (c':=dz C {g with fE:=λb=>if b∈f2 then some (.hand 0) else g.fE b} stN w) (seg:=bg st.ep ((csO.drop (rt.pos-j)).take cs.length)) rfl (by rw[r2.length];exact aqf)
    (r1.mono hle (λb _=>⟨rfl,rfl⟩)) ((r2.bg).mono hle (by simp)) (r3.mono hle (λb _=>⟨rfl,rfl⟩))
   rw[bD]at Mn
   exact Mn
  ·refine aS.2 ⟨n1.1,n2.2.1,?_⟩
   rintro b hb c hc rfl
   exact n1.2.2 b hb b (bz _ hc) rfl
  ·have aw9:=aei (A:=λ_ _ _=>False) _ _ akS Ul r2
   have uX:=afs S3.1 (c:=dz C g st w) aw9 rfl rfl
   rw[S3.2]at uX
   refine⟨f2,⟨vs0,gD,uX.mono hle (λb _=>⟨rfl,rfl⟩)⟩,n2.1,λb hb=>?_⟩
   show(if b∈f2 then _ else _)=_
   rw[aH hb]
 have Rf:∀(f2:fM)(o:lz),(∀b∈f2,g.fE b=some o)->∀b y,(if b∈f2 then some (lz.hand 0) else g.fE b)=some y->b<w.heap.size/\(C.w0.heap.size<=b\/C.M b):=by intro f2 o hf b y hy;by_cases hm:b∈f2;exact h.im b _ (hf b hm);rw[aG hm]at hy;exact h.im b y hy
 have adA:∀(f2:fM)(o:lz),(∀b∈f2,g.fE b=some o)->∀b y,y≠o->g.fE b=some y->(if b∈f2 then some (lz.hand 0) else g.fE b)=some y:=by intro f2 o hf b y hyo hb;rw[aG (λhm=>hyo (by have:=hf b hm;rw[hb]at this;simpa using this))];exact hb
 have hh1:∀{g2:Gh}{stN:AS},L2 C g2 stN w 0 (a.eval x) (.val gg sU)->∀k u bv,[(a.eval x,AV.val gg sU)][k]?=some (u,bv)->L2 C g2 stN w k u bv:=by
  intro g2 stN hh k u bv hk;cases k with
  |zero=>simp only[cM,bu,Prod.mk.injEq]at hk;obtain⟨rfl,rfl⟩:=hk;exact hh
  |succ k=>simp at hk
 cases rt with
 |slot s j0=>
  simp only[AS.Lk]at ja;cases hg:st.get s with
  |yE ts=>rw[hg]at ja;cases ja
  |val g1 cs1=>
   rw[hg]at ja;cases ja;have ow:∀Gk,st.Hp (.slot s j0) Gk={st with slots:=st.slots.set s (.val g1 Gk)}:=λGk=>by simp only[AS.Hp,hg,AS.put,gH]
   obtain⟨fp,hr,hn,hl⟩:=h.slot s;rw[hg]at hr;obtain⟨vs,asf,hr⟩:=hr;obtain⟨f1,f2,f3,rfl,Ge,hle,Mn,QK,GO⟩:=core (.slot s) (st.Hp (.slot s j0) (fu csO (mi.pos (.slot s j0)-j) (bg st.ep ((csO.drop (mi.pos (.slot s j0)-j)).take cs.length)))) hr hn hl (by rw[ow]) (by rw[ow]) (λ_ q=>by rw[ow];exact q);have Dc:∀b∈f2,g.fE b=some (.slot s):=λb hb=>hl b (by simp[hb]);refine⟨{g with fE:=λb=>if b∈f2 then some (.hand 0) else g.fE b},λ_=>rfl,h.step (λy=>y≠ .slot s) hle h.defers ?_ ?_ h.frame (Rf f2 _ Dc) (λb y hk hb=>⟨adA f2 _ Dc b y hk hb,rfl,rfl⟩) ?_ ?_ (λk u bv hk=> .inr (hh1 GO k u bv hk)) (.inl ⟨by simp,by rw[ow]⟩)⟩;rw[ow];simpa using h.size;rw[ow];simpa using h.bsize;intro i bv hi;rw[ow]at hi;have xk:(st.slots.set s (.val g1 _))[i]?=some bv:=hi;by_cases his:i=s;subst his;rw[bJ]at xk;simp only[cw]at xk;split at xk;simp at xk;subst xk;refine .inr ⟨f1++f3,⟨vs,asf,Mn⟩,QK,λb hb=>?_⟩;show(if b∈f2 then _ else _)=_;rw[aG (Ge b hb)];exact hl b (by rcases aA.1 hb with k|k<;>simp[k]);cases xk;rw[aE (cl his)]at xk;exact .inl ⟨by simpa using his,xk,rfl⟩;intro t Gk hb;rw[ow]at hb;exact .inl ⟨by simp,hb,rfl⟩
 |box s j0=>
  have lj:st.boxes[s]?=some (some csO):=by simp only[AS.Lk,eU]at ja;cases hb:st.boxes[s]? with|none=>simp[hb]at ja|some q=>rw[hb]at ja;simp at ja;rw[ja]
  have Bt:s<st.boxes.length:=(ay.1 lj).1;have ow:∀Gk,st.Hp (.box s j0) Gk={st with boxes:=st.boxes.set s (some Gk)}:=λGk=>by simp only[AS.Hp,AS.fO,gH]
  obtain⟨arr,T,fr,fp,lQ,uR,hr,hn,yJ,hl,J2,J5⟩:=h.boxes s csO lj;obtain⟨f1,f2,f3,rfl,Ge,hle,Mn,QK,GO⟩:=core (.box s) (st.Hp (.box s j0) (fu csO (mi.pos (.box s j0)-j) (bg st.ep ((csO.drop (mi.pos (.box s j0)-j)).take cs.length)))) hr hn hl (by rw[ow]) (by rw[ow]) (λt ht=>by rw[ow];obtain⟨c0,hc0⟩:=ht;by_cases vS:s=t;subst vS;exact⟨_,by simp[Bt];rfl⟩;exact⟨c0,by rw[aE vS];exact hc0⟩);have Dc:∀b∈f2,g.fE b=some (.box s):=λb hb=>hl b (by simp[hb]);refine⟨{g with fE:=λb=>if b∈f2 then some (.hand 0) else g.fE b},λ_=>rfl,h.step (λy=>y≠ .box s) hle h.defers ?_ ?_ h.frame (Rf f2 _ Dc) (λb y hk hb=>⟨adA f2 _ Dc b y hk hb,rfl,rfl⟩) ?_ ?_ (λk u bv hk=> .inr (hh1 GO k u bv hk)) (.inl ⟨by simp,by rw[ow]⟩)⟩;rw[ow];exact h.size;rw[ow];simpa using h.bsize;intro i bv hi;rw[ow]at hi;exact .inl ⟨by simp,hi,rfl⟩;intro t Gk hb;rw[ow]at hb;have iy:(st.boxes.set s (some _))[t]?=some (some Gk):=hb;by_cases vS:t=s;subst vS;rw[bJ]at iy;simp only[cw,Bt]at iy;simp at iy;subst iy;have Mo:g.β t∉f2:=λhm=>yJ (by simp[hm]);refine .inr ⟨arr,T,fr,f1++f3,lQ,uR,Mn,QK,λhm=>yJ (by rcases aA.1 hm with k|k<;>simp[k]),λb hb=>?_,?_,J5⟩;show(if b∈f2 then _ else _)=_;rw[aG (Ge b hb)];exact hl b (by rcases aA.1 hb with k|k<;>simp[k]);show(if g.β t∈f2 then _ else _)=_;rw[aG Mo];exact J2;rw[aE (cl vS)]at iy;exact .inl ⟨by simpa using vS,iy,rfl⟩
 |io j0=>simp only[AS.Lk,bu]at ja;subst ja;obtain⟨fp,hr,hn,hl⟩:=h.io;obtain⟨f1,f2,f3,rfl,Ge,hle,Mn,QK,GO⟩:=core .io (st.Hp (.io j0) (fu st.io (mi.pos (.io j0)-j) (bg st.ep ((st.io.drop (mi.pos (.io j0)-j)).take cs.length)))) hr hn hl rfl rfl (λ_ q=>q);have Dc:∀b∈f2,g.fE b=some .io:=λb hb=>hl b (by simp[hb]);refine⟨{g with fE:=λb=>if b∈f2 then some (.hand 0) else g.fE b},λ_=>rfl,h.step (λy=>y≠ .io) hle h.defers h.size h.bsize h.frame (Rf f2 _ Dc) (λb y hk hb=>⟨adA f2 _ Dc b y hk hb,rfl,rfl⟩) (λi bv hi=> .inl ⟨by simp,hi,rfl⟩) (λt Gk hb=> .inl ⟨by simp,hb,rfl⟩) (λk u bv hk=> .inr (hh1 GO k u bv hk)) (.inr ⟨f1++f3,Mn,QK,λb hb=>?_⟩)⟩;show(if b∈f2 then _ else _)=_;rw[aG (Ge b hb)];exact hl b (by rcases aA.1 hb with k|k<;>simp[k])
 cases hc;cases hc;cases hc;cases hc
theorem ahC {o:Oper}(ho:o.op=.assign x)(h:qe C st a w){K:AS->aB R}(hk:UE o x st K=some r):ox P C o a w K r:=by
 have fD:(execOp a.eval o).run P w=.ok (.value (a.eval x)) w:=by simp[execOp,ho]
 obtain⟨g,hg⟩:=h;unfold UE at hk;split at hk;rename_i v cj hc;obtain⟨g',_,qb⟩:=hg.aoJ hc;exact⟨_,_,_,.inl fD,fb.Fv qb o.dst,hk⟩;cases hk
theorem Sm {E:Env}(hE:kG P E.ty){o:Oper}{T:TypeId}{p:Operand}(hd:o.dst=none)(ho:o.op=.store T p x)(h:qe C st a w){K:AS->aB R}(hk:zx E T p x st K=some r):ox P C o a w K r:=by obtain⟨g,hg⟩:=h;unfold zx at hk;split at hk;rename_i sh s off hT hp;have xm:=hg.rd p;rw[hp]at xm;have xm:=DM xm;split at hk;rename_i gg vs cj hc;obtain⟨g',Mo,qb⟩:=hg.aoJ hc;split at hk;rename_i cs lj;split at hk;rename_i hlen;split at hk;rename_i iO;exact Jb hE hd ho hT (by rw[Mo];exact xm) qb lj hlen.1 hlen.2 iO hk;cases hk;cases hk;cases hk;cases hk;cases hk
structure Sound (P:Program) (E:Env) (Γ:Cn):Prop where
 ty:kG P E.ty
 eqs:X0 P E.eqs
 fts:aeK P E.fts
 fns:∀f,jl P f (Γ f)
 mixed:P.follows .mixedOrders=true
theorem ox.wp {o:Oper}{K:AS->aB R}(h:ox P C o a w K r)(next:Act->World->Prop)(Q:Exit->Act->World->Prop)(iP:∀cj a' w',qe C cj a' w'->K cj=some r->next a' w'):o.wp P a w next Q:=by obtain⟨v,w',cj,fD,hs,hk⟩:=h;unfold Oper.wp;rcases fD with fD|⟨rfl,fD⟩;rw[fD];exact iP _ _ _ hs hk;rw[fD];exact iP _ _ _ hs hk
theorem afX {E:Env}(hS:Sound P E Γ){o:Oper}(h:qe C st a w){K:AS->aB R}(hk:dp E Γ an o st K=some r)(next:Act->World->Prop)(Q:Exit->Act->World->Prop)(iP:∀cj a' w',qe C cj a' w'->K cj=some r->next a' w'):o.wp P a w next Q:=by
 unfold dp at hk;split at hk;·rename_i x ho;exact(ahR ho h hk).wp next Q iP
 ·rename_i x ho;split at hk;·exact(ahC ho h hk).wp next Q iP
  ·exact(Yb ho h hk).wp next Q iP
 ·rename_i c x y ho;exact(aih ho h hk).wp next Q iP
 ·rename_i T ho;exact(abE hS.ty ho h hk).wp next Q iP
 ·rename_i T x ho;exact(ajr ho h hk).wp next Q iP
 ·rename_i T p ho;exact(ahJ hS.ty ho h hk).wp next Q iP
 ·rename_i T p x ho;split at hk
  ·rename_i hd;split at hk;·exact(Sm hS.ty hd ho h hk).wp next Q iP
   ·exact(aez hS.ty hd ho h hk).wp next Q iP
  cases hk
 ·rename_i x ho;split at hk;·rename_i s off hx;exact(Tn ho h hx hk).wp next Q iP
  ·rename_i fl e y i off hx;exact(MP ho h hx hk).wp next Q iP
  cases hk
 ·rename_i op T x y T' ho;exact(ajo hS.ty hS.eqs ho h hk).wp next Q iP
 ·rename_i op T x ho;exact(aow ho h hk).wp next Q iP
 ·rename_i S p f ho;exact(acM hS.ty ho h hk).wp next Q iP
 ·rename_i T x i ho;exact(Q8 hS.ty ho h hk).wp next Q iP
 ·rename_i T x i ho;exact(adr hS.ty ho h hk).wp next Q iP
 ·rename_i T parts ho;exact(abS hS.ty ho h hk).wp next Q iP
 ·rename_i T len parts ho;exact(OL hS.ty ho h hk).wp next Q iP
 ·rename_i T n c ho;exact(Rn hS.ty ho h hk).wp next Q iP
 ·rename_i T x lo hi ho;exact(aen hS.ty ho h hk).wp next Q iP
 ·rename_i S t f ho;exact(YB hS.ty hS.fts ho h hk).wp next Q iP
 ·rename_i args ts ho;exact(agz hS.ty ho h hk).wp next Q iP
 ·rename_i src dst x ho;exact(VZ hS.ty ho h hk).wp next Q iP
 ·rename_i t i ho;exact(Wt ho h hk).wp next Q iP
 ·rename_i args ts ho;exact(alh hS.ty ho h hk).wp next Q iP
 ·rename_i args ts ho;exact(als ho h hk).wp next Q iP
 ·rename_i args ts ho;exact(alq ho h hk).wp next Q iP
 ·rename_i args ts ho;exact(X6 hS.ty ho h hk).wp next Q iP
 ·rename_i f args ts ho;exact anj hS.fns ho h hk next Q iP
 cases hk
theorem qe.forget (h:qe C st a w)(d:aB Nat):qe C (st.put d (.one .un)) (a.put d undef) w:=h.put d (λ_ _=>oo ⟨rfl,rfl⟩)
theorem qe.known (h:qe C st a w){b:Bool}(hg:st.get d=.val false [.bool b]):a.tmps.getD d undef=.bool b:=by obtain⟨g,qb⟩:=h;obtain⟨fp,hr,_⟩:=qb.slot d;rw[hg]at hr;exact yi hr
theorem Xr:a.put (some d) (a.tmps.getD d undef)=a:=by cases a with|mk tmps defers=>simp only[Act.put];congr 1;apply Array.ext_getElem?;intro i;rw[Array.getElem?_setIfInBounds];by_cases h:d=i;subst h;by_cases hs:d<tmps.size;simp[hs,Array.getD];simp[hs];simp[h]
theorem qe.refine(h:qe C st a w){b:Bool}(hg:st.get d=.val false [.bool b]):qe C (st.put (some d) (.one (.bool b))) a w:=by have hk:=h.known hg;have:=h.put (some d) (v:=.bool b) (av:=.one (.bool b)) (λ_ _=>oo ⟨rfl,rfl⟩);rw[<-hk,Xr]at this;exact this
theorem Zb {E:Env}(hS:Sound P E Γ){ops:Array Oper}{o:Oper}(h:qe C st a w){K:AS->aB R}(hk:iI E Γ an ops.toList o st K=some r)(next:Act->World->Prop)(Q:Exit->Act->World->Prop)(iP:∀cj a' w',qe C cj a' w'->K cj=some r->next a' w'): if Region.wanted o (yielded ops a.tmps) then o.wp P a w next Q\/(o.asks P a w/\LetsOut Q) else next (a.put o.dst undef) w:=by
 unfold iI at hk;split at hk;·rename_i hgd;rw[aH (by simp[Region.wanted,hgd])];exact .inl (afX hS h hk next Q iP)
 ·rename_i j JZ hgd;split at hk
  ·rename_i d agZ;have aoY:(ops[j]?).bind (·.dst)=some d:=by rw[eU]at agZ;simpa using agZ
   split at hk
   ·rename_i b hb;have hkn:=h.known hb;have hdl:d<a.tmps.size:=by rcases cg d a.tmps.size with hG|CF;exact hG;simp[Array.getD,Nat.not_lt.2 CF,undef]at hkn
    have hy:yielded ops a.tmps j=some b:=by
     unfold yielded;rw[aoY];have:a.tmps[d]?=some (.bool b):=by rw[Array.getElem?_eq_getElem hdl];simp[Array.getD,hdl]at hkn;rw[hkn]
     simp[this]
    have hr:=h.refine hb
    have main:∀t,b=t->(if t==JZ then dp E Γ an o (st.put (some d) (.one (.bool t))) K else K ((st.put (some d) (.one (.bool t))).put o.dst (.one .un)))=some r->
     if Region.wanted o (yielded ops a.tmps) then o.wp P a w next Q\/(o.asks P a w/\LetsOut Q) else next (a.put o.dst undef) w:=by
     rintro t rfl hk
     have hw:Region.wanted o (yielded ops a.tmps)=(b==JZ):=by simp only[Region.wanted,hgd,hy];cases b<;>cases JZ<;>rfl
     rw[hw]
     cases hbw:(b==JZ)with
     |true=>
      rw[hbw]at hk
      simp only[cw]at hk⊢
      exact .inl (afX hS hr hk next Q iP)
     |false=>
      rw[hbw]at hk
      simp only[bm,cC]at hk⊢
      exact iP _ _ _ (hr.forget o.dst) hk
    cases b with|true=>exact main true rfl hk|false=>exact main false rfl hk
   rename_i hb;obtain⟨g,hg⟩:=id h;obtain⟨fp,hr,_⟩:=hg.slot d;rw[hb]at hr;have hun:=(fH hr).1;have hy:yielded ops a.tmps j=none:=by
    unfold yielded;rw[aoY];simp only[fF];rcases cg d a.tmps.size with hG|CF;have:a.tmps[d]?=some undef:=by rw[Array.getElem?_eq_getElem hG];simp[Array.getD,hG]at hun;rw[hun]
    rw[this];rfl;rw[Array.getElem?_eq_none CF]
   have hw:Region.wanted o (yielded ops a.tmps)=false:=by simp only[Region.wanted,hgd,hy];cases JZ<;>rfl
   rw[hw];exact iP _ _ _ (h.forget o.dst) hk;cases hk
  cases hk
theorem alF {E:Env}(hS:Sound P E Γ){ops:Array Oper}{Q:Exit->Act->World->Prop}{K:AS->aB R}
 (hq:∀cj a' w',qe C cj a' w'->K cj=some r->Q .normal a' w'):∀(n i:Nat)(st:AS)(a:Act)(w:World),i+n=ops.size->qe C st a w->Xj E Γ an ops.toList (ops.toList.drop i) st K=some r->
  wpOps P ops Q ((List.range' i n)) a w
 |0,i,st,a,w,hi,h,hk=>by rw[cI (by simp;omega)]at hk;exact hq st a w h hk
 |n+1,i,st,a,w,hi,h,hk=>by
  have Pd:i<ops.toList.length:=by simp;omega
  rw[bW Pd]at hk;have ho:ops[i]?=some ops.toList[i]:=by rw[<-cP];exact al Pd
  rw[List.range'_succ,wpOps,ho];simp only;have:=Zb hS (ops:=ops) h hk (wpOps P ops Q (List.range' (i+1) n)) Q (λcj a' w' hs GQ=>alF hS hq n (i+1) cj a' w' (by omega) hs GQ);exact this
end Go.Dn
