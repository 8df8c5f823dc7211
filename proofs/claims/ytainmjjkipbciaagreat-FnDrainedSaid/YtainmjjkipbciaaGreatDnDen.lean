import Derived.Test.YtainmjjkipbciaaGreatDnCall
/- The soundness of the abstract semantics: operations, regions, loops, functions. -/
namespace Go.Dn
open Go.RowKit
variable {P:Program} {C:Ctx} {st:AS} {a:Act} {w:World} {R:Type} {r:R}
variable {d:Nat} {x:Operand}
theorem XS:∀(os ss:ax AC){r:ax AC},nj os ss=some r->r.all AC.acn=true/\r.map AC.strip=r:=by
 intro os;induction os with
 |nil=>intro ss r h;cases ss with|nil=>simp[nj]at h;subst h;exact⟨rfl,rfl⟩|cons _ _=>simp[nj]at h
 |cons o os ih=>
  intro ss r h;cases ss with
  |nil=>unfold nj at h;split at h<;>first|contradiction|cases h
  |cons s ss=>
   unfold nj at h;split at h;contradiction;rename_i h1 h2;injection h1 with h1 h1';subst h1';injection h2 with h2 h2';subst h2';rw[Bool.cond_eq_ite]at h;split at h;obtain⟨r',hr,h⟩:=aP.1 h;cases h;obtain⟨k1,k2⟩:=ih _ hr;exact⟨by simp[AC.acn,k1],by simp[AC.strip,k2]⟩;cases h
   all_goals first
    |cases h
    |(rename_i h1 h2
      injection h1 with h1 h1';subst h1'
      injection h2 with h2 h2';subst h2'
      obtain⟨r',hr,h⟩:=aP.1 h
      cases h
      obtain⟨k1,k2⟩:=ih _ hr
      exact⟨by simp[AC.acn,AC.jx,k1],by simp[AC.strip,k2]⟩)
theorem Vg:∀{cs:ax AC},cs.all AC.acn=true->∀{c:RC}{A:Rg}{hw:Nat->Nat}{w:World}{vs:iS}{fp:fF},bO (gh A hw w) vs cs fp->c.w=w->c.hw=hw->bO c vs (cs.map AC.strip) fp
 |[],_,c,A,hw,w,vs,fp,h,_,_=>by cases vs with|nil=>exact h|cons _ _=>exact h.elim
 |x::cs,hok,c,A,hw,w,vs,fp,h,hcw,hchw=>by
  cases vs with
  |nil=>exact h.elim
  |cons v vs=>
   obtain⟨f1,f2,rfl,h1,h2⟩:=h;simp only[cr,ae]at hok;refine⟨f1,f2,rfl,?_,Vg hok.2 h2 hcw hchw⟩;cases x with
   |sl fl e xs=>cases fl with|own t=>exact⟨by rw[hcw,hchw];exact h1.1,by simp⟩|arg _=>cases hok.1|loc _ _=>cases hok.1|nest _ _ _ _ _ _=>cases hok.1|part _ _ _ _=>cases hok.1|holed _ _ _=>cases hok.1
   |int k n=>exact h1
   |bool b=>exact h1
   |str s=>exact h1
   |fn f=>exact h1
   |nilsl=>cases hok.1
   |ptr s off=>cases hok.1
   |elt fl e y i off=>cases hok.1
   |un=>cases hok.1
   |bot=>cases hok.1
theorem ew.ady {g:Gh}(h:ew C g st a w []){v:AV}{st':AS}(hc:MZ st x=some (v,st')):∃g',(∀s,g'.β s=g.β s)/\ew C g' st' a w [(a.eval x,v)]:=by
 unfold MZ at hc;have hrd:=h.rd x;split at hc;rename_i gg cs hx;rw[hx]at hrd;obtain⟨vs0,hcut,hrel0⟩:=hrd;split at hc;rename_i rt j hfirst;split at hc;rename_i csO hown;split at hc;rename_i cs' hseg;cases hc;have hmid:=La _ _ hseg;have hio:=XS _ _ hseg
 have core:∀(o:jT)(stN:AS){vs:iS}{fp:fF},bO (cW C g st w) vs csO fp->fp.Nodup->(∀b∈fp,g.lab b=some o)->stN.ep=st.ep->stN.iss=st.iss->(∀s,jf st s->jf stN s)->
  ∃f1 f2 f3,fp=f1++f2++f3/\(∀b∈f1++f3,b∉f2)/\
   (cW C g st w).Le (cW C {g with lab:=λb=>if b∈f2 then some (.hand 0) else g.lab b} stN w)/\
   bO (cW C {g with lab:=λb=>if b∈f2 then some (.hand 0) else g.lab b} stN w) vs (eK csO (rt.pos-j) (aV st.ep ((csO.drop (rt.pos-j)).take cs.length))) (f1++f3)/\(f1++f3).Nodup/\
   Fp C {g with lab:=λb=>if b∈f2 then some (.hand 0) else g.lab b} stN w 0 (a.eval x) (.val gg cs'):=by
  intro o stN vs fp hr hn hl hep hiss hpres
  obtain⟨f1,f2,f3,rfl,r1,r2,r3⟩:=hr.mid (rt.pos-j) cs.length
  have hn':=hn
  rw[aN]at hn'
  have n1:=aK.1 hn'
  have n2:=aK.1 n1.2.1
  have hle:(cW C g st w).Le (cW C {g with lab:=λb=>if b∈f2 then some (.hand 0) else g.lab b} stN w):=
   ⟨rfl,λt ht=>⟨by show mn stN t;have ht':mn st t:=ht;simpa[mn,hiss]using ht',rfl⟩,λ_ _ _ _ _ hu=>hu,by show st.ep<=stN.ep;omega,λs hs=>⟨hpres s hs,rfl⟩,λ_ b o u ho hu=>⟨ho,hu⟩⟩
  refine⟨f1,f2,f3,rfl,?_,hle,?_,?_,?_⟩
  ·intro b hb h2
   rcases aw.1 hb with hb|hb
   ·exact n1.2.2 b hb b (bA _ h2) rfl
   ·exact n2.2.2 b h2 b hb rfl
  ·have hsp:=Ub (c':=cW C {g with lab:=λb=>if b∈f2 then some (.hand 0) else g.lab b} stN w) (seg:=aV st.ep ((csO.drop (rt.pos-j)).take cs.length)) rfl (by rw[r2.length];exact hmid)
    (r1.mono hle (λb _=>⟨rfl,rfl⟩)) ((r2.aV).mono hle (by simp)) (r3.mono hle (λb _=>⟨rfl,rfl⟩))
   rw[bN]at hsp
   exact hsp
  ·refine aK.2 ⟨n1.1,n2.2.1,?_⟩
   rintro b hb c hc rfl
   exact n1.2.2 b hb b (bg _ hc) rfl
  ·have harg:=TY (A:=λ_ _ _=>False) _ _ hseg hrel0 r2
   have hin:=Vg hio.1 (c:=cW C g st w) harg rfl rfl
   rw[hio.2]at hin
   refine⟨f2,⟨vs0,hcut,hin.mono hle (λb _=>⟨rfl,rfl⟩)⟩,n2.1,λb hb=>?_⟩
   show(if b∈f2 then _ else _)=_
   rw[aH hb]
 have labs':∀(f2:fF)(o:jT),(∀b∈f2,g.lab b=some o)->∀b y,(if b∈f2 then some (jT.hand 0) else g.lab b)=some y->b<w.heap.size/\(C.w0.heap.size<=b\/C.M b):=by intro f2 o hf b y hy;by_cases hm:b∈f2;exact h.labs b _ (hf b hm);rw[aI hm]at hy;exact h.labs b y hy
 have labk:∀(f2:fF)(o:jT),(∀b∈f2,g.lab b=some o)->∀b y,y≠o->g.lab b=some y->(if b∈f2 then some (jT.hand 0) else g.lab b)=some y:=by intro f2 o hf b y hyo hb;rw[aI (λhm=>hyo (by have:=hf b hm;rw[hb]at this;simpa using this))];exact hb
 have hh1:∀{g2:Gh}{stN:AS},Fp C g2 stN w 0 (a.eval x) (.val gg cs')->∀k u bv,[(a.eval x,AV.val gg cs')][k]?=some (u,bv)->Fp C g2 stN w k u bv:=by
  intro g2 stN hh k u bv hk;cases k with
  |zero=>simp only[cH,bj,Prod.mk.injEq]at hk;obtain⟨rfl,rfl⟩:=hk;exact hh
  |succ k=>simp at hk
 cases rt with
 |slot s j0=>
  simp only[AS.ES]at hown;cases hg:st.get s with
  |tup ts=>rw[hg]at hown;cases hown
  |val g1 cs1=>
   rw[hg]at hown;cases hown;have hst:∀cs2,st.BX (.slot s j0) cs2={st with slots:=st.slots.set s (.val g1 cs2)}:=λcs2=>by simp only[AS.BX,hg,AS.put,fT]
   obtain⟨fp,hr,hn,hl⟩:=h.slot s;rw[hg]at hr;obtain⟨vs,hcut1,hr⟩:=hr;obtain⟨f1,f2,f3,rfl,hdis,hle,hsp,hnn,hhand⟩:=core (.slot s) (st.BX (.slot s j0) (eK csO (kv.pos (.slot s j0)-j) (aV st.ep ((csO.drop (kv.pos (.slot s j0)-j)).take cs.length)))) hr hn hl (by rw[hst]) (by rw[hst]) (λ_ q=>by rw[hst];exact q);have hf2:∀b∈f2,g.lab b=some (.slot s):=λb hb=>hl b (by simp[hb]);refine⟨{g with lab:=λb=>if b∈f2 then some (.hand 0) else g.lab b},λ_=>rfl,h.step (λy=>y≠ .slot s) hle h.defers ?_ ?_ h.frame (labs' f2 _ hf2) (λb y hk hb=>⟨labk f2 _ hf2 b y hk hb,rfl,rfl⟩) ?_ ?_ (λk u bv hk=> .inr (hh1 hhand k u bv hk)) (.inl ⟨by simp,by rw[hst]⟩)⟩;rw[hst];simpa using h.size;rw[hst];simpa using h.bsize;intro i bv hi;rw[hst]at hi;have hi':(st.slots.set s (.val g1 _))[i]?=some bv:=hi;by_cases his:i=s;subst his;rw[bC]at hi';simp only[bU]at hi';split at hi';simp at hi';subst hi';refine .inr ⟨f1++f3,⟨vs,hcut1,hsp⟩,hnn,λb hb=>?_⟩;show(if b∈f2 then _ else _)=_;rw[aI (hdis b hb)];exact hl b (by rcases aw.1 hb with k|k<;>simp[k]);cases hi';rw[aF (cc his)]at hi';exact .inl ⟨by simpa using his,hi',rfl⟩;intro t cs2 hb;rw[hst]at hb;exact .inl ⟨by simp,hb,rfl⟩
 |box s j0=>
  have hbx:st.boxes[s]?=some (some csO):=by simp only[AS.ES,dX]at hown;cases hb:st.boxes[s]? with|none=>simp[hb]at hown|some q=>rw[hb]at hown;simp at hown;rw[hown]
  have hslt:s<st.boxes.length:=(aA.1 hbx).1;have hst:∀cs2,st.BX (.box s j0) cs2={st with boxes:=st.boxes.set s (some cs2)}:=λcs2=>by simp only[AS.BX,AS.fg,fT]
  obtain⟨arr,T,fr,fp,hblk,hth,hr,hn,hnb,hl,hl0,hw0⟩:=h.boxes s csO hbx;obtain⟨f1,f2,f3,rfl,hdis,hle,hsp,hnn,hhand⟩:=core (.box s) (st.BX (.box s j0) (eK csO (kv.pos (.box s j0)-j) (aV st.ep ((csO.drop (kv.pos (.box s j0)-j)).take cs.length)))) hr hn hl (by rw[hst]) (by rw[hst]) (λt ht=>by rw[hst];obtain⟨c0,hc0⟩:=ht;by_cases hts:s=t;subst hts;exact⟨_,by simp[hslt];rfl⟩;exact⟨c0,by rw[aF hts];exact hc0⟩);have hf2:∀b∈f2,g.lab b=some (.box s):=λb hb=>hl b (by simp[hb]);refine⟨{g with lab:=λb=>if b∈f2 then some (.hand 0) else g.lab b},λ_=>rfl,h.step (λy=>y≠ .box s) hle h.defers ?_ ?_ h.frame (labs' f2 _ hf2) (λb y hk hb=>⟨labk f2 _ hf2 b y hk hb,rfl,rfl⟩) ?_ ?_ (λk u bv hk=> .inr (hh1 hhand k u bv hk)) (.inl ⟨by simp,by rw[hst]⟩)⟩;rw[hst];exact h.size;rw[hst];simpa using h.bsize;intro i bv hi;rw[hst]at hi;exact .inl ⟨by simp,hi,rfl⟩;intro t cs2 hb;rw[hst]at hb;have hb':(st.boxes.set s (some _))[t]?=some (some cs2):=hb;by_cases hts:t=s;subst hts;rw[bC]at hb';simp only[bU,hslt]at hb';simp at hb';subst hb';have hβ:g.β t∉f2:=λhm=>hnb (by simp[hm]);refine .inr ⟨arr,T,fr,f1++f3,hblk,hth,hsp,hnn,λhm=>hnb (by rcases aw.1 hm with k|k<;>simp[k]),λb hb=>?_,?_,hw0⟩;show(if b∈f2 then _ else _)=_;rw[aI (hdis b hb)];exact hl b (by rcases aw.1 hb with k|k<;>simp[k]);show(if g.β t∈f2 then _ else _)=_;rw[aI hβ];exact hl0;rw[aF (cc hts)]at hb';exact .inl ⟨by simpa using hts,hb',rfl⟩
 |io j0=>simp only[AS.ES,bj]at hown;subst hown;obtain⟨fp,hr,hn,hl⟩:=h.io;obtain⟨f1,f2,f3,rfl,hdis,hle,hsp,hnn,hhand⟩:=core .io (st.BX (.io j0) (eK st.io (kv.pos (.io j0)-j) (aV st.ep ((st.io.drop (kv.pos (.io j0)-j)).take cs.length)))) hr hn hl rfl rfl (λ_ q=>q);have hf2:∀b∈f2,g.lab b=some .io:=λb hb=>hl b (by simp[hb]);refine⟨{g with lab:=λb=>if b∈f2 then some (.hand 0) else g.lab b},λ_=>rfl,h.step (λy=>y≠ .io) hle h.defers h.size h.bsize h.frame (labs' f2 _ hf2) (λb y hk hb=>⟨labk f2 _ hf2 b y hk hb,rfl,rfl⟩) (λi bv hi=> .inl ⟨by simp,hi,rfl⟩) (λt cs2 hb=> .inl ⟨by simp,hb,rfl⟩) (λk u bv hk=> .inr (hh1 hhand k u bv hk)) (.inr ⟨f1++f3,hsp,hnn,λb hb=>?_⟩)⟩;show(if b∈f2 then _ else _)=_;rw[aI (hdis b hb)];exact hl b (by rcases aw.1 hb with k|k<;>simp[k])
 cases hc;cases hc;cases hc;cases hc
theorem WU {o:Oper}(ho:o.op=.assign x)(h:nz C st a w){K:AS->aB R}(hk:L6 o x st K=some r):mj P C o a w K r:=by
 have hrun:(execOp a.eval o).run P w=.ok (.value (a.eval x)) w:=by simp[execOp,ho]
 obtain⟨g,hg⟩:=h;unfold L6 at hk;split at hk;rename_i v st' hc;obtain⟨g',_,hg'⟩:=hg.ady hc;exact⟨_,_,_,.inl hrun,ew.Ay hg' o.dst,hk⟩;cases hk
theorem Kx {E:Env}(hE:jr P E.ty){o:Oper}{T:TypeId}{p:Operand}(hd:o.dst=none)(ho:o.op=.store T p x)(h:nz C st a w){K:AS->aB R}(hk:uU E T p x st K=some r):mj P C o a w K r:=by obtain⟨g,hg⟩:=h;unfold uU at hk;split at hk;rename_i sh s off hT hp;have hpv:=hg.rd p;rw[hp]at hpv;have hpv:=yH hpv;split at hk;rename_i gg vs st' hc;obtain⟨g',hβ,hg'⟩:=hg.ady hc;split at hk;rename_i cs hbx;split at hk;rename_i hlen;split at hk;rename_i hfit;exact Dk hE hd ho hT (by rw[hβ];exact hpv) hg' hbx hlen.1 hlen.2 hfit hk;cases hk;cases hk;cases hk;cases hk;cases hk
structure Sound (P:Program) (E:Env) (Γ:eE):Prop where
 ty:jr P E.ty
 eqs:O2 P E.eqs
 fts:Ut P E.fts
 fns:∀f,im P f (Γ f)
 mixed:P.follows .mixedOrders=true
theorem mj.wp {o:Oper}{K:AS->aB R}(h:mj P C o a w K r)(next:Act->World->Prop)(Q:Exit->Act->World->Prop)(hnext:∀st' a' w',nz C st' a' w'->K st'=some r->next a' w'):o.wp P a w next Q:=by obtain⟨v,w',st',hrun,hs,hk⟩:=h;unfold Oper.wp;rcases hrun with hrun|⟨rfl,hrun⟩;rw[hrun];exact hnext _ _ _ hs hk;rw[hrun];exact hnext _ _ _ hs hk
theorem VE {E:Env}{Γ:eE}{an:An}(hS:Sound P E Γ){o:Oper}(h:nz C st a w){K:AS->aB R}(hk:dq E Γ an o st K=some r)(next:Act->World->Prop)(Q:Exit->Act->World->Prop)(hnext:∀st' a' w',nz C st' a' w'->K st'=some r->next a' w'):o.wp P a w next Q:=by
 unfold dq at hk;split at hk;·rename_i x ho;exact(Xc ho h hk).wp next Q hnext
 ·rename_i x ho;split at hk;·exact(WU ho h hk).wp next Q hnext
  ·exact(Pc ho h hk).wp next Q hnext
 ·rename_i c x y ho;exact(XD ho h hk).wp next Q hnext
 ·rename_i T ho;exact(Sj hS.ty ho h hk).wp next Q hnext
 ·rename_i T x ho;exact(YL ho h hk).wp next Q hnext
 ·rename_i T p ho;exact(W2 hS.ty ho h hk).wp next Q hnext
 ·rename_i T p x ho;split at hk
  ·rename_i hd;split at hk;·exact(Kx hS.ty hd ho h hk).wp next Q hnext
   ·exact(Uh hS.ty hd ho h hk).wp next Q hnext
  cases hk
 ·rename_i x ho;split at hk;·rename_i s off hx;exact(K7 ho h hx hk).wp next Q hnext
  ·rename_i fl e y i off hx;exact(FZ ho h hx hk).wp next Q hnext
  cases hk
 ·rename_i op T x y T' ho;exact(YI hS.ty hS.eqs ho h hk).wp next Q hnext
 ·rename_i op T x ho;exact(adn ho h hk).wp next Q hnext
 ·rename_i S p f ho;exact(SO hS.ty ho h hk).wp next Q hnext
 ·rename_i T x i ho;exact(Jz hS.ty ho h hk).wp next Q hnext
 ·rename_i T x i ho;exact(Td hS.ty ho h hk).wp next Q hnext
 ·rename_i T parts ho;exact(Su hS.ty ho h hk).wp next Q hnext
 ·rename_i T len parts ho;exact(Hv hS.ty ho h hk).wp next Q hnext
 ·rename_i T n c ho;exact(JJ hS.ty ho h hk).wp next Q hnext
 ·rename_i T x lo hi ho;exact(T3 hS.ty ho h hk).wp next Q hnext
 ·rename_i S t f ho;exact(PJ hS.ty hS.fts ho h hk).wp next Q hnext
 ·rename_i args ts ho;exact(V3 hS.ty ho h hk).wp next Q hnext
 ·rename_i src dst x ho;exact(M3 hS.ty ho h hk).wp next Q hnext
 ·rename_i t i ho;exact(NT ho h hk).wp next Q hnext
 ·rename_i args ts ho;exact(ZE hS.ty ho h hk).wp next Q hnext
 ·rename_i args ts ho;exact(ZL ho h hk).wp next Q hnext
 ·rename_i args ts ho;exact(ZK ho h hk).wp next Q hnext
 ·rename_i args ts ho;exact(O7 hS.ty ho h hk).wp next Q hnext
 ·rename_i f args ts ho;exact abV hS.fns ho h hk next Q hnext
 cases hk
theorem nz.forget (h:nz C st a w)(d:aB Nat):nz C (st.put d (.one .un)) (a.put d undef) w:=h.put d (λ_ _=>ma ⟨rfl,rfl⟩)
theorem nz.known (h:nz C st a w){b:Bool}(hg:st.get d=.val false [.bool b]):a.tmps.getD d undef=.bool b:=by obtain⟨g,hg'⟩:=h;obtain⟨fp,hr,_⟩:=hg'.slot d;rw[hg]at hr;exact tQ hr
theorem Oq:a.put (some d) (a.tmps.getD d undef)=a:=by cases a with|mk tmps defers=>simp only[Act.put];congr 1;apply Array.ext_getElem?;intro i;rw[Array.getElem?_setIfInBounds];by_cases h:d=i;subst h;by_cases hs:d<tmps.size;simp[hs,Array.getD];simp[hs];simp[h]
theorem nz.refine(h:nz C st a w){b:Bool}(hg:st.get d=.val false [.bool b]):nz C (st.put (some d) (.one (.bool b))) a w:=by have hk:=h.known hg;have:=h.put (some d) (v:=.bool b) (av:=.one (.bool b)) (λ_ _=>ma ⟨rfl,rfl⟩);rw[<-hk,Oq]at this;exact this
theorem P7 {E:Env}{Γ:eE}{an:An}(hS:Sound P E Γ){ops:Array Oper}{o:Oper}(h:nz C st a w){K:AS->aB R}(hk:gQ E Γ an ops.toList o st K=some r)(next:Act->World->Prop)(Q:Exit->Act->World->Prop)(hnext:∀st' a' w',nz C st' a' w'->K st'=some r->next a' w'): if Region.wanted o (yielded ops a.tmps) then o.wp P a w next Q\/(o.asks P a w/\LetsOut Q) else next (a.put o.dst undef) w:=by
 unfold gQ at hk;split at hk;·rename_i hgd;rw[aH (by simp[Region.wanted,hgd])];exact .inl (VE hS h hk next Q hnext)
 ·rename_i j want hgd;split at hk
  ·rename_i d hdst;have hdst':(ops[j]?).bind (·.dst)=some d:=by rw[dX]at hdst;simpa using hdst
   split at hk
   ·rename_i b hb;have hkn:=h.known hb;have hdl:d<a.tmps.size:=by rcases ca d a.tmps.size with hlt|hge;exact hlt;simp[Array.getD,Nat.not_lt.2 hge,undef]at hkn
    have hy:yielded ops a.tmps j=some b:=by
     unfold yielded;rw[hdst'];have:a.tmps[d]?=some (.bool b):=by rw[Array.getElem?_eq_getElem hdl];simp[Array.getD,hdl]at hkn;rw[hkn]
     simp[this]
    have hr:=h.refine hb
    have main:∀t,b=t->(if t==want then dq E Γ an o (st.put (some d) (.one (.bool t))) K else K ((st.put (some d) (.one (.bool t))).put o.dst (.one .un)))=some r->
     if Region.wanted o (yielded ops a.tmps) then o.wp P a w next Q\/(o.asks P a w/\LetsOut Q) else next (a.put o.dst undef) w:=by
     rintro t rfl hk
     have hw:Region.wanted o (yielded ops a.tmps)=(b==want):=by simp only[Region.wanted,hgd,hy];cases b<;>cases want<;>rfl
     rw[hw]
     cases hbw:(b==want)with
     |true=>
      rw[hbw]at hk
      simp only[bU]at hk⊢
      exact .inl (VE hS hr hk next Q hnext)
     |false=>
      rw[hbw]at hk
      simp only[ba,cl]at hk⊢
      exact hnext _ _ _ (hr.forget o.dst) hk
    cases b with|true=>exact main true rfl hk|false=>exact main false rfl hk
   rename_i hb;obtain⟨g,hg⟩:=id h;obtain⟨fp,hr,_⟩:=hg.slot d;rw[hb]at hr;have hun:=(eU hr).1;have hy:yielded ops a.tmps j=none:=by
    unfold yielded;rw[hdst'];simp only[eT];rcases ca d a.tmps.size with hlt|hge;have:a.tmps[d]?=some undef:=by rw[Array.getElem?_eq_getElem hlt];simp[Array.getD,hlt]at hun;rw[hun]
    rw[this];rfl;rw[Array.getElem?_eq_none hge]
   have hw:Region.wanted o (yielded ops a.tmps)=false:=by simp only[Region.wanted,hgd,hy];cases want<;>rfl
   rw[hw];exact hnext _ _ _ (h.forget o.dst) hk;cases hk
  cases hk
theorem ZX {E:Env}{Γ:eE}{an:An}(hS:Sound P E Γ){ops:Array Oper}{Q:Exit->Act->World->Prop}{K:AS->aB R}
 (hq:∀st' a' w',nz C st' a' w'->K st'=some r->Q .normal a' w'):∀(n i:Nat)(st:AS)(a:Act)(w:World),i+n=ops.size->nz C st a w->Oi E Γ an ops.toList (ops.toList.drop i) st K=some r->
  wpOps P ops Q ((List.range' i n)) a w
 |0,i,st,a,w,hi,h,hk=>by rw[cq (by simp;omega)]at hk;exact hq st a w h hk
 |n+1,i,st,a,w,hi,h,hk=>by
  have hil:i<ops.toList.length:=by simp;omega
  rw[cg hil]at hk;have ho:ops[i]?=some ops.toList[i]:=by rw[<-cx];exact al hil
  rw[List.range'_succ,wpOps,ho];simp only;have:=P7 hS (ops:=ops) h hk (wpOps P ops Q (List.range' (i+1) n)) Q (λst' a' w' hs hk'=>ZX hS hq n (i+1) st' a' w' (by omega) hs hk');exact this
end Go.Dn
