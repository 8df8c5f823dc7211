import Derived.Test.YtgbaemfepmabgaaGreatDnCall
/- The soundness of the abstract semantics: operations, regions, loops, functions. -/
namespace Go.Dn
open Go.RowKit
variable {P:Program} {C:Ctx} {st:AS} {a:Act} {w:World} {R:Type} {r:R}
variable {d:Nat} {x:Operand}
theorem abg:∀(os ss:au AC){r:au AC},mN os ss=some r->r.all AC.agi=true/\r.map AC.strip=r:=by
 intro os;induction os with
 |nil=>intro ss r h;cases ss with|nil=>simp[mN]at h;subst h;exact⟨rfl,rfl⟩|cons _ _=>simp[mN]at h
 |cons o os ih=>
  intro ss r h;cases ss with
  |nil=>unfold mN at h;split at h<;>first|contradiction|cases h
  |cons s ss=>
   unfold mN at h;split at h;contradiction;rename_i h1 h2;injection h1 with h1 h1';subst h1';injection h2 with h2 h2';subst h2';rw[Bool.cond_eq_ite]at h;split at h;obtain⟨r',hr,h⟩:=aQ.1 h;cases h;obtain⟨k1,k2⟩:=ih _ hr;exact⟨by simp[AC.agi,k1],by simp[AC.strip,k2]⟩;cases h
   all_goals first
    |cases h
    |(rename_i h1 h2
      injection h1 with h1 h1';subst h1'
      injection h2 with h2 h2';subst h2'
      obtain⟨r',hr,h⟩:=aQ.1 h
      cases h
      obtain⟨k1,k2⟩:=ih _ hr
      exact⟨by simp[AC.agi,AC.iZ,k1],by simp[AC.strip,k2]⟩)
theorem Yh:∀{cs:au AC},cs.all AC.agi=true->∀{c:RC}{A:Rg}{hw:Nat->Nat}{w:World}{vs:ig}{fp:eG},bH (fB A hw w) vs cs fp->c.w=w->c.hw=hw->bH c vs (cs.map AC.strip) fp
 |[],_,c,A,hw,w,vs,fp,h,_,_=>by cases vs with|nil=>exact h|cons _ _=>exact h.elim
 |x::cs,hok,c,A,hw,w,vs,fp,h,hcw,hchw=>by
  cases vs with
  |nil=>exact h.elim
  |cons v vs=>
   obtain⟨f1,f2,rfl,h1,h2⟩:=h;simp only[bU,ae]at hok;refine⟨f1,f2,rfl,?_,Yh hok.2 h2 hcw hchw⟩;cases x with
   |sl fl e xs=>cases fl with|own t=>exact⟨by rw[hcw,hchw];exact h1.1,by simp⟩|arg _=>cases hok.1|loc _ _=>cases hok.1|nest _ _ _ _ _ _=>cases hok.1|part _ _ _ _=>cases hok.1|holed _ _ _=>cases hok.1
   |int k n=>exact h1
   |bool b=>exact h1
   |str s=>exact h1
   |fn f=>exact h1
   |nilsl=>cases hok.1
   |ptr s off=>cases hok.1
   |elt fl e y i off=>cases hok.1
   |un=>cases hok.1
   |bot=>cases hok.1
theorem dL.ahn {g:Gh}(h:dL C g st a w []){v:AV}{st':AS}(hc:OR st x=some (v,st')):∃g',(∀s,g'.β s=g.β s)/\dL C g' st' a w [(a.eval x,v)]:=by
 unfold OR at hc;have hrd:=h.rd x;split at hc;rename_i gg cs hx;rw[hx]at hrd;obtain⟨vs0,hcut,hrel0⟩:=hrd;split at hc;rename_i rt j hfirst;split at hc;rename_i csO hown;split at hc;rename_i cs' hseg;cases hc;have hmid:=MK _ _ hseg;have hio:=abg _ _ hseg
 have core:∀(o:jr)(stN:AS){vs:ig}{fp:eG},bH (cO C g st w) vs csO fp->fp.Nodup->(∀b∈fp,g.lab b=some o)->stN.ep=st.ep->stN.iss=st.iss->(∀s,iK st s->iK stN s)->
  ∃f1 f2 f3,fp=f1++f2++f3/\(∀b∈f1++f3,b∉f2)/\
   (cO C g st w).Le (cO C {g with lab:=λb=>if b∈f2 then some (.hand 0) else g.lab b} stN w)/\
   bH (cO C {g with lab:=λb=>if b∈f2 then some (.hand 0) else g.lab b} stN w) vs (dY csO (rt.pos-j) (aX st.ep ((csO.drop (rt.pos-j)).take cs.length))) (f1++f3)/\(f1++f3).Nodup/\
   GC C {g with lab:=λb=>if b∈f2 then some (.hand 0) else g.lab b} stN w 0 (a.eval x) (.val gg cs'):=by
  intro o stN vs fp hr hn hl hep hiss hpres
  obtain⟨f1,f2,f3,rfl,r1,r2,r3⟩:=hr.mid (rt.pos-j) cs.length
  have hn':=hn
  rw[aU]at hn'
  have n1:=List.nodup_append.1 hn'
  have n2:=List.nodup_append.1 n1.2.1
  have hle:(cO C g st w).Le (cO C {g with lab:=λb=>if b∈f2 then some (.hand 0) else g.lab b} stN w):=
   ⟨rfl,λt ht=>⟨by show lU stN t;have ht':lU st t:=ht;simpa[lU,hiss]using ht',rfl⟩,λ_ _ _ _ _ hu=>hu,by show st.ep<=stN.ep;omega,λs hs=>⟨hpres s hs,rfl⟩,λ_ b o u ho hu=>⟨ho,hu⟩⟩
  refine⟨f1,f2,f3,rfl,?_,hle,?_,?_,?_⟩
  ·intro b hb h2
   rcases ay.1 hb with hb|hb
   ·exact n1.2.2 b hb b (bA _ h2) rfl
   ·exact n2.2.2 b h2 b hb rfl
  ·have hsp:=Xe (c':=cO C {g with lab:=λb=>if b∈f2 then some (.hand 0) else g.lab b} stN w) (seg:=aX st.ep ((csO.drop (rt.pos-j)).take cs.length)) rfl (by rw[r2.length];exact hmid)
    (r1.mono hle (λb _=>⟨rfl,rfl⟩)) ((r2.aX).mono hle (by simp)) (r3.mono hle (λb _=>⟨rfl,rfl⟩))
   rw[bw]at hsp
   exact hsp
  ·refine List.nodup_append.2 ⟨n1.1,n2.2.1,?_⟩
   rintro b hb c hc rfl
   exact n1.2.2 b hb b (bq _ hc) rfl
  ·have harg:=W4 (A:=λ_ _ _=>False) _ _ hseg hrel0 r2
   have hin:=Yh hio.1 (c:=cO C g st w) harg rfl rfl
   rw[hio.2]at hin
   refine⟨f2,⟨vs0,hcut,hin.mono hle (λb _=>⟨rfl,rfl⟩)⟩,n2.1,λb hb=>?_⟩
   show(if b∈f2 then _ else _)=_
   rw[aF hb]
 have labs':∀(f2:eG)(o:jr),(∀b∈f2,g.lab b=some o)->∀b y,(if b∈f2 then some (jr.hand 0) else g.lab b)=some y->b<w.heap.size/\(C.w0.heap.size<=b\/C.M b):=by intro f2 o hf b y hy;by_cases hm:b∈f2;exact h.labs b _ (hf b hm);rw[aD hm]at hy;exact h.labs b y hy
 have labk:∀(f2:eG)(o:jr),(∀b∈f2,g.lab b=some o)->∀b y,y≠o->g.lab b=some y->(if b∈f2 then some (jr.hand 0) else g.lab b)=some y:=by intro f2 o hf b y hyo hb;rw[aD (λhm=>hyo (by have:=hf b hm;rw[hb]at this;simpa using this))];exact hb
 have hh1:∀{g2:Gh}{stN:AS},GC C g2 stN w 0 (a.eval x) (.val gg cs')->∀k u bv,[(a.eval x,AV.val gg cs')][k]?=some (u,bv)->GC C g2 stN w k u bv:=by
  intro g2 stN hh k u bv hk;cases k with
  |zero=>simp only[List.getElem?_cons_zero,bl,Prod.mk.injEq]at hk;obtain⟨rfl,rfl⟩:=hk;exact hh
  |succ k=>simp at hk
 cases rt with
 |slot s j0=>
  simp only[AS.FZ]at hown;cases hg:st.get s with
  |tup ts=>rw[hg]at hown;cases hown
  |val g1 cs1=>
   rw[hg]at hown;cases hown;have hst:∀cs2,st.CJ (.slot s j0) cs2={st with slots:=st.slots.set s (.val g1 cs2)}:=λcs2=>by simp only[AS.CJ,hg,AS.put,eY]
   obtain⟨fp,hr,hn,hl⟩:=h.slot s;rw[hg]at hr;obtain⟨vs,hcut1,hr⟩:=hr;obtain⟨f1,f2,f3,rfl,hdis,hle,hsp,hnn,hhand⟩:=core (.slot s) (st.CJ (.slot s j0) (dY csO (jQ.pos (.slot s j0)-j) (aX st.ep ((csO.drop (jQ.pos (.slot s j0)-j)).take cs.length)))) hr hn hl (by rw[hst]) (by rw[hst]) (λ_ q=>by rw[hst];exact q);have hf2:∀b∈f2,g.lab b=some (.slot s):=λb hb=>hl b (by simp[hb]);refine⟨{g with lab:=λb=>if b∈f2 then some (.hand 0) else g.lab b},λ_=>rfl,h.step (λy=>y≠ .slot s) hle h.defers ?_ ?_ h.frame (labs' f2 _ hf2) (λb y hk hb=>⟨labk f2 _ hf2 b y hk hb,rfl,rfl⟩) ?_ ?_ (λk u bv hk=> .inr (hh1 hhand k u bv hk)) (.inl ⟨by simp,by rw[hst]⟩)⟩;rw[hst];simpa using h.size;rw[hst];simpa using h.bsize;intro i bv hi;rw[hst]at hi;have hi':(st.slots.set s (.val g1 _))[i]?=some bv:=hi;by_cases his:i=s;subst his;rw[List.getElem?_set]at hi';simp only[bT]at hi';split at hi';simp at hi';subst hi';refine .inr ⟨f1++f3,⟨vs,hcut1,hsp⟩,hnn,λb hb=>?_⟩;show(if b∈f2 then _ else _)=_;rw[aD (hdis b hb)];exact hl b (by rcases ay.1 hb with k|k<;>simp[k]);cases hi';rw[List.getElem?_set_ne (cC his)]at hi';exact .inl ⟨by simpa using his,hi',rfl⟩;intro t cs2 hb;rw[hst]at hb;exact .inl ⟨by simp,hb,rfl⟩
 |box s j0=>
  have hbx:st.boxes[s]?=some (some csO):=by simp only[AS.FZ,dI]at hown;cases hb:st.boxes[s]? with|none=>simp[hb]at hown|some q=>rw[hb]at hown;simp at hown;rw[hown]
  have hslt:s<st.boxes.length:=(List.getElem?_eq_some_iff.1 hbx).1;have hst:∀cs2,st.CJ (.box s j0) cs2={st with boxes:=st.boxes.set s (some cs2)}:=λcs2=>by simp only[AS.CJ,AS.eu,eY]
  obtain⟨arr,T,fr,fp,hblk,hth,hr,hn,hnb,hl,hl0,hw0⟩:=h.boxes s csO hbx;obtain⟨f1,f2,f3,rfl,hdis,hle,hsp,hnn,hhand⟩:=core (.box s) (st.CJ (.box s j0) (dY csO (jQ.pos (.box s j0)-j) (aX st.ep ((csO.drop (jQ.pos (.box s j0)-j)).take cs.length)))) hr hn hl (by rw[hst]) (by rw[hst]) (λt ht=>by rw[hst];obtain⟨c0,hc0⟩:=ht;by_cases hts:s=t;subst hts;exact⟨_,by simp[hslt];rfl⟩;exact⟨c0,by rw[List.getElem?_set_ne hts];exact hc0⟩);have hf2:∀b∈f2,g.lab b=some (.box s):=λb hb=>hl b (by simp[hb]);refine⟨{g with lab:=λb=>if b∈f2 then some (.hand 0) else g.lab b},λ_=>rfl,h.step (λy=>y≠ .box s) hle h.defers ?_ ?_ h.frame (labs' f2 _ hf2) (λb y hk hb=>⟨labk f2 _ hf2 b y hk hb,rfl,rfl⟩) ?_ ?_ (λk u bv hk=> .inr (hh1 hhand k u bv hk)) (.inl ⟨by simp,by rw[hst]⟩)⟩;rw[hst];exact h.size;rw[hst];simpa using h.bsize;intro i bv hi;rw[hst]at hi;exact .inl ⟨by simp,hi,rfl⟩;intro t cs2 hb;rw[hst]at hb;have hb':(st.boxes.set s (some _))[t]?=some (some cs2):=hb;by_cases hts:t=s;subst hts;rw[List.getElem?_set]at hb';simp only[bT,hslt]at hb';simp at hb';subst hb';have hβ:g.β t∉f2:=λhm=>hnb (by simp[hm]);refine .inr ⟨arr,T,fr,f1++f3,hblk,hth,hsp,hnn,λhm=>hnb (by rcases ay.1 hm with k|k<;>simp[k]),λb hb=>?_,?_,hw0⟩;show(if b∈f2 then _ else _)=_;rw[aD (hdis b hb)];exact hl b (by rcases ay.1 hb with k|k<;>simp[k]);show(if g.β t∈f2 then _ else _)=_;rw[aD hβ];exact hl0;rw[List.getElem?_set_ne (cC hts)]at hb';exact .inl ⟨by simpa using hts,hb',rfl⟩
 |io j0=>simp only[AS.FZ,bl]at hown;subst hown;obtain⟨fp,hr,hn,hl⟩:=h.io;obtain⟨f1,f2,f3,rfl,hdis,hle,hsp,hnn,hhand⟩:=core .io (st.CJ (.io j0) (dY st.io (jQ.pos (.io j0)-j) (aX st.ep ((st.io.drop (jQ.pos (.io j0)-j)).take cs.length)))) hr hn hl rfl rfl (λ_ q=>q);have hf2:∀b∈f2,g.lab b=some .io:=λb hb=>hl b (by simp[hb]);refine⟨{g with lab:=λb=>if b∈f2 then some (.hand 0) else g.lab b},λ_=>rfl,h.step (λy=>y≠ .io) hle h.defers h.size h.bsize h.frame (labs' f2 _ hf2) (λb y hk hb=>⟨labk f2 _ hf2 b y hk hb,rfl,rfl⟩) (λi bv hi=> .inl ⟨by simp,hi,rfl⟩) (λt cs2 hb=> .inl ⟨by simp,hb,rfl⟩) (λk u bv hk=> .inr (hh1 hhand k u bv hk)) (.inr ⟨f1++f3,hsp,hnn,λb hb=>?_⟩)⟩;show(if b∈f2 then _ else _)=_;rw[aD (hdis b hb)];exact hl b (by rcases ay.1 hb with k|k<;>simp[k])
 cases hc;cases hc;cases hc;cases hc
theorem aao {o:Oper}(ho:o.op=.assign x)(h:nf C st a w){K:AS->aw R}(hk:NK o x st K=some r):lT P C o a w K r:=by
 have hrun:(execOp a.eval o).run P w=.ok (.value (a.eval x)) w:=by simp[execOp,ho]
 obtain⟨g,hg⟩:=h;unfold NK at hk;split at hk;rename_i v st' hc;obtain⟨g',_,hg'⟩:=hg.ahn hc;exact⟨_,_,_,.inl hrun,dL.Ba hg' o.dst,hk⟩;cases hk
theorem L6 {E:Env}(hE:iW P E.ty){o:Oper}{T:TypeId}{p:Operand}(hd:o.dst=none)(ho:o.op=.store T p x)(h:nf C st a w){K:AS->aw R}(hk:vo E T p x st K=some r):lT P C o a w K r:=by obtain⟨g,hg⟩:=h;unfold vo at hk;split at hk;rename_i sh s off hT hp;have hpv:=hg.rd p;rw[hp]at hpv;have hpv:=zv hpv;split at hk;rename_i gg vs st' hc;obtain⟨g',hβ,hg'⟩:=hg.ahn hc;split at hk;rename_i cs hbx;split at hk;rename_i hlen;split at hk;rename_i hfit;exact D4 hE hd ho hT (by rw[hβ];exact hpv) hg' hbx hlen.1 hlen.2 hfit hk;cases hk;cases hk;cases hk;cases hk;cases hk
structure Sound (P:Program) (E:Env) (Γ:dm):Prop where
 ty:iW P E.ty
 eqs:Q5 P E.eqs
 fts:Xv P E.fts
 fns:∀f,g8 P f (Γ f)
 mixed:P.follows .mixedOrders=true
theorem lT.wp {o:Oper}{K:AS->aw R}(h:lT P C o a w K r)(next:Act->World->Prop)(Q:Exit->Act->World->Prop)(hnext:∀st' a' w',nf C st' a' w'->K st'=some r->next a' w'):o.wp P a w next Q:=by obtain⟨v,w',st',hrun,hs,hk⟩:=h;unfold Oper.wp;rcases hrun with hrun|⟨rfl,hrun⟩;rw[hrun];exact hnext _ _ _ hs hk;rw[hrun];exact hnext _ _ _ hs hk
theorem YO {E:Env}{Γ:dm}{an:An}(hS:Sound P E Γ){o:Oper}(h:nf C st a w){K:AS->aw R}(hk:cG E Γ an o st K=some r)(next:Act->World->Prop)(Q:Exit->Act->World->Prop)(hnext:∀st' a' w',nf C st' a' w'->K st'=some r->next a' w'):o.wp P a w next Q:=by
 unfold cG at hk;split at hk;·rename_i x ho;exact(aaA ho h hk).wp next Q hnext
 ·rename_i x ho;split at hk;·exact(aao ho h hk).wp next Q hnext
  ·exact(Rh ho h hk).wp next Q hnext
 ·rename_i c x y ho;exact(aa1 ho h hk).wp next Q hnext
 ·rename_i T ho;exact(U2 hS.ty ho h hk).wp next Q hnext
 ·rename_i T x ho;exact(ab8 ho h hk).wp next Q hnext
 ·rename_i T p ho;exact(aas hS.ty ho h hk).wp next Q hnext
 ·rename_i T p x ho;split at hk
  ·rename_i hd;split at hk;·exact(L6 hS.ty hd ho h hk).wp next Q hnext
   ·exact(Xk hS.ty hd ho h hk).wp next Q hnext
  cases hk
 ·rename_i x ho;split at hk;·rename_i s off hx;exact(MI ho h hx hk).wp next Q hnext
  ·rename_i fl e y i off hx;exact(Hk ho h hx hk).wp next Q hnext
  cases hk
 ·rename_i op T x y T' ho;exact(ab5 hS.ty hS.eqs ho h hk).wp next Q hnext
 ·rename_i op T x ho;exact(ahd ho h hk).wp next Q hnext
 ·rename_i S p f ho;exact(VC hS.ty ho h hk).wp next Q hnext
 ·rename_i T x i ho;exact(K0 hS.ty ho h hk).wp next Q hnext
 ·rename_i T x i ho;exact(Wb hS.ty ho h hk).wp next Q hnext
 ·rename_i T parts ho;exact(Vg hS.ty ho h hk).wp next Q hnext
 ·rename_i T len parts ho;exact(IU hS.ty ho h hk).wp next Q hnext
 ·rename_i T n c ho;exact(Lc hS.ty ho h hk).wp next Q hnext
 ·rename_i T x lo hi ho;exact(W9 hS.ty ho h hk).wp next Q hnext
 ·rename_i S t f ho;exact(RZ hS.ty hS.fts ho h hk).wp next Q hnext
 ·rename_i args ts ho;exact(Zx hS.ty ho h hk).wp next Q hnext
 ·rename_i src dst x ho;exact(OT hS.ty ho h hk).wp next Q hnext
 ·rename_i t i ho;exact(PY ho h hk).wp next Q hnext
 ·rename_i args ts ho;exact(ac7 hS.ty ho h hk).wp next Q hnext
 ·rename_i args ts ho;exact(adh ho h hk).wp next Q hnext
 ·rename_i args ts ho;exact(adf ho h hk).wp next Q hnext
 ·rename_i args ts ho;exact(Rc hS.ty ho h hk).wp next Q hnext
 ·rename_i f args ts ho;exact afL hS.fns ho h hk next Q hnext
 cases hk
theorem nf.forget (h:nf C st a w)(d:aw Nat):nf C (st.put d (.one .un)) (a.put d undef) w:=h.put d (λ_ _=>lN ⟨rfl,rfl⟩)
theorem nf.known (h:nf C st a w){b:Bool}(hg:st.get d=.val false [.bool b]):a.tmps.getD d undef=.bool b:=by obtain⟨g,hg'⟩:=h;obtain⟨fp,hr,_⟩:=hg'.slot d;rw[hg]at hr;exact uq hr
theorem QE:a.put (some d) (a.tmps.getD d undef)=a:=by cases a with|mk tmps defers=>simp only[Act.put];congr 1;apply Array.ext_getElem?;intro i;rw[Array.getElem?_setIfInBounds];by_cases h:d=i;subst h;by_cases hs:d<tmps.size;simp[hs,Array.getD];simp[hs];simp[h]
theorem nf.refine(h:nf C st a w){b:Bool}(hg:st.get d=.val false [.bool b]):nf C (st.put (some d) (.one (.bool b))) a w:=by have hk:=h.known hg;have:=h.put (some d) (v:=.bool b) (av:=.one (.bool b)) (λ_ _=>lN ⟨rfl,rfl⟩);rw[<-hk,QE]at this;exact this
theorem St {E:Env}{Γ:dm}{an:An}(hS:Sound P E Γ){ops:Array Oper}{o:Oper}(h:nf C st a w){K:AS->aw R}(hk:gb E Γ an ops.toList o st K=some r)(next:Act->World->Prop)(Q:Exit->Act->World->Prop)(hnext:∀st' a' w',nf C st' a' w'->K st'=some r->next a' w'): if Region.wanted o (yielded ops a.tmps) then o.wp P a w next Q\/(o.asks P a w/\LetsOut Q) else next (a.put o.dst undef) w:=by
 unfold gb at hk;split at hk;·rename_i hgd;rw[aF (by simp[Region.wanted,hgd])];exact .inl (YO hS h hk next Q hnext)
 ·rename_i j want hgd;split at hk
  ·rename_i d hdst;have hdst':(ops[j]?).bind (·.dst)=some d:=by rw[dI]at hdst;simpa using hdst
   split at hk
   ·rename_i b hb;have hkn:=h.known hb;have hdl:d<a.tmps.size:=by rcases bV d a.tmps.size with hlt|hge;exact hlt;simp[Array.getD,Nat.not_lt.2 hge,undef]at hkn
    have hy:yielded ops a.tmps j=some b:=by
     unfold yielded;rw[hdst'];have:a.tmps[d]?=some (.bool b):=by rw[Array.getElem?_eq_getElem hdl];simp[Array.getD,hdl]at hkn;rw[hkn]
     simp[this]
    have hr:=h.refine hb
    have main:∀t,b=t->(if t==want then cG E Γ an o (st.put (some d) (.one (.bool t))) K else K ((st.put (some d) (.one (.bool t))).put o.dst (.one .un)))=some r->
     if Region.wanted o (yielded ops a.tmps) then o.wp P a w next Q\/(o.asks P a w/\LetsOut Q) else next (a.put o.dst undef) w:=by
     rintro t rfl hk
     have hw:Region.wanted o (yielded ops a.tmps)=(b==want):=by simp only[Region.wanted,hgd,hy];cases b<;>cases want<;>rfl
     rw[hw]
     cases hbw:(b==want)with
     |true=>
      rw[hbw]at hk
      simp only[bT]at hk⊢
      exact .inl (YO hS hr hk next Q hnext)
     |false=>
      rw[hbw]at hk
      simp only[bf,cd]at hk⊢
      exact hnext _ _ _ (hr.forget o.dst) hk
    cases b with|true=>exact main true rfl hk|false=>exact main false rfl hk
   rename_i hb;obtain⟨g,hg⟩:=id h;obtain⟨fp,hr,_⟩:=hg.slot d;rw[hb]at hr;have hun:=(ee hr).1;have hy:yielded ops a.tmps j=none:=by
    unfold yielded;rw[hdst'];simp only[ed];rcases bV d a.tmps.size with hlt|hge;have:a.tmps[d]?=some undef:=by rw[Array.getElem?_eq_getElem hlt];simp[Array.getD,hlt]at hun;rw[hun]
    rw[this];rfl;rw[Array.getElem?_eq_none hge]
   have hw:Region.wanted o (yielded ops a.tmps)=false:=by simp only[Region.wanted,hgd,hy];cases want<;>rfl
   rw[hw];exact hnext _ _ _ (h.forget o.dst) hk;cases hk
  cases hk
theorem adt {E:Env}{Γ:dm}{an:An}(hS:Sound P E Γ){ops:Array Oper}{Q:Exit->Act->World->Prop}{K:AS->aw R}
 (hq:∀st' a' w',nf C st' a' w'->K st'=some r->Q .normal a' w'):∀(n i:Nat)(st:AS)(a:Act)(w:World),i+n=ops.size->nf C st a w->Qx E Γ an ops.toList (ops.toList.drop i) st K=some r->
  wpOps P ops Q ((List.range' i n)) a w
 |0,i,st,a,w,hi,h,hk=>by rw[cQ (by simp;omega)]at hk;exact hq st a w h hk
 |n+1,i,st,a,w,hi,h,hk=>by
  have hil:i<ops.toList.length:=by simp;omega
  rw[bQ hil]at hk;have ho:ops[i]?=some ops.toList[i]:=by rw[<-Array.getElem?_toList];exact List.getElem?_eq_getElem hil
  rw[List.range'_succ,wpOps,ho];simp only;have:=St hS (ops:=ops) h hk (wpOps P ops Q (List.range' (i+1) n)) Q (λst' a' w' hs hk'=>adt hS hq n (i+1) st' a' w' (by omega) hs hk');exact this
end Go.Dn
