import Derived.Test.YtgbaemfepmabgaaGreatDnCall
/- The soundness of the abstract semantics: operations, regions, loops, functions. -/
namespace Go.Dn
open Go.RowKit
variable {P:Program} {C:Ctx} {st:AS} {a:Act} {w:World} {R:Type} {r:R}
variable {d:Nat} {x:Operand}
theorem ace:∀(os ss:aw AC){r:aw AC},nK os ss=some r->r.all AC.ahh=true/\r.map AC.strip=r:=by
 intro os;induction os with
 |nil=>intro ss r h;cases ss with|nil=>simp[nK]at h;subst h;exact⟨rfl,rfl⟩|cons _ _=>simp[nK]at h
 |cons o os ih=>
  intro ss r h;cases ss with
  |nil=>unfold nK at h;split at h<;>first|contradiction|cases h
  |cons s ss=>
   unfold nK at h;split at h;contradiction;rename_i h1 h2;injection h1 with h1 h1';subst h1';injection h2 with h2 h2';subst h2';rw[Bool.cond_eq_ite]at h;split at h;obtain⟨r',hr,h⟩:=aU.1 h;cases h;obtain⟨k1,k2⟩:=ih _ hr;exact⟨by simp[AC.ahh,k1],by simp[AC.strip,k2]⟩;cases h
   all_goals first
    |cases h
    |(rename_i h1 h2
      injection h1 with h1 h1';subst h1'
      injection h2 with h2 h2';subst h2'
      obtain⟨r',hr,h⟩:=aU.1 h
      cases h
      obtain⟨k1,k2⟩:=ih _ hr
      exact⟨by simp[AC.ahh,AC.jE,k1],by simp[AC.strip,k2]⟩)
theorem Zp:∀{cs:aw AC},cs.all AC.ahh=true->∀{c:RC}{A:Rg}{hw:Nat->Nat}{w:World}{vs:iS}{fp:fu},bR (gi A hw w) vs cs fp->c.w=w->c.hw=hw->bR c vs (cs.map AC.strip) fp
 |[],_,c,A,hw,w,vs,fp,h,_,_=>by cases vs with|nil=>exact h|cons _ _=>exact h.elim
 |x::cs,hok,c,A,hw,w,vs,fp,h,hcw,hchw=>by
  cases vs with
  |nil=>exact h.elim
  |cons v vs=>
   obtain⟨f1,f2,rfl,h1,h2⟩:=h;simp only[ch,ae]at hok;refine⟨f1,f2,rfl,?_,Zp hok.2 h2 hcw hchw⟩;cases x with
   |sl fl e xs=>cases fl with|own t=>exact⟨by rw[hcw,hchw];exact h1.1,by simp⟩|arg _=>cases hok.1|loc _ _=>cases hok.1|nest _ _ _ _ _ _=>cases hok.1|part _ _ _ _=>cases hok.1|holed _ _ _=>cases hok.1
   |int k n=>exact h1
   |bool b=>exact h1
   |str s=>exact h1
   |fn f=>exact h1
   |nilsl=>cases hok.1
   |ptr s off=>cases hok.1
   |elt fl e y i off=>cases hok.1
   |un=>cases hok.1
   |bot=>cases hok.1
theorem ez.ail {g:Gh}(h:ez C g st a w []){v:AV}{st':AS}(hc:P1 st x=some (v,st')):∃g',(∀s,g'.β s=g.β s)/\ez C g' st' a w [(a.eval x,v)]:=by
 unfold P1 at hc;have hrd:=h.rd x;split at hc;rename_i gg cs hx;rw[hx]at hrd;obtain⟨vs0,hcut,hrel0⟩:=hrd;split at hc;rename_i rt j hfirst;split at hc;rename_i csO hown;split at hc;rename_i cs' hseg;cases hc;have hmid:=NR _ _ hseg;have hio:=ace _ _ hseg
 have core:∀(o:jX)(stN:AS){vs:iS}{fp:fu},bR (dc C g st w) vs csO fp->fp.Nodup->(∀b∈fp,g.lab b=some o)->stN.ep=st.ep->stN.iss=st.iss->(∀s,jq st s->jq stN s)->
  ∃f1 f2 f3,fp=f1++f2++f3/\(∀b∈f1++f3,b∉f2)/\
   (dc C g st w).Le (dc C {g with lab:=λb=>if b∈f2 then some (.hand 0) else g.lab b} stN w)/\
   bR (dc C {g with lab:=λb=>if b∈f2 then some (.hand 0) else g.lab b} stN w) vs (eQ csO (rt.pos-j) (bc st.ep ((csO.drop (rt.pos-j)).take cs.length))) (f1++f3)/\(f1++f3).Nodup/\
   HH C {g with lab:=λb=>if b∈f2 then some (.hand 0) else g.lab b} stN w 0 (a.eval x) (.val gg cs'):=by
  intro o stN vs fp hr hn hl hep hiss hpres
  obtain⟨f1,f2,f3,rfl,r1,r2,r3⟩:=hr.mid (rt.pos-j) cs.length
  have hn':=hn
  rw[aZ]at hn'
  have n1:=aO.1 hn'
  have n2:=aO.1 n1.2.1
  have hle:(dc C g st w).Le (dc C {g with lab:=λb=>if b∈f2 then some (.hand 0) else g.lab b} stN w):=
   ⟨rfl,λt ht=>⟨by show mM stN t;have ht':mM st t:=ht;simpa[mM,hiss]using ht',rfl⟩,λ_ _ _ _ _ hu=>hu,by show st.ep<=stN.ep;omega,λs hs=>⟨hpres s hs,rfl⟩,λ_ b o u ho hu=>⟨ho,hu⟩⟩
  refine⟨f1,f2,f3,rfl,?_,hle,?_,?_,?_⟩
  ·intro b hb h2
   rcases ay.1 hb with hb|hb
   ·exact n1.2.2 b hb b (bI _ h2) rfl
   ·exact n2.2.2 b h2 b hb rfl
  ·have hsp:=Yf (c':=dc C {g with lab:=λb=>if b∈f2 then some (.hand 0) else g.lab b} stN w) (seg:=bc st.ep ((csO.drop (rt.pos-j)).take cs.length)) rfl (by rw[r2.length];exact hmid)
    (r1.mono hle (λb _=>⟨rfl,rfl⟩)) ((r2.bc).mono hle (by simp)) (r3.mono hle (λb _=>⟨rfl,rfl⟩))
   rw[bK]at hsp
   exact hsp
  ·refine aO.2 ⟨n1.1,n2.2.1,?_⟩
   rintro b hb c hc rfl
   exact n1.2.2 b hb b (bw _ hc) rfl
  ·have harg:=X5 (A:=λ_ _ _=>False) _ _ hseg hrel0 r2
   have hin:=Zp hio.1 (c:=dc C g st w) harg rfl rfl
   rw[hio.2]at hin
   refine⟨f2,⟨vs0,hcut,hin.mono hle (λb _=>⟨rfl,rfl⟩)⟩,n2.1,λb hb=>?_⟩
   show(if b∈f2 then _ else _)=_
   rw[aE hb]
 have labs':∀(f2:fu)(o:jX),(∀b∈f2,g.lab b=some o)->∀b y,(if b∈f2 then some (jX.hand 0) else g.lab b)=some y->b<w.heap.size/\(C.w0.heap.size<=b\/C.M b):=by intro f2 o hf b y hy;by_cases hm:b∈f2;exact h.labs b _ (hf b hm);rw[aD hm]at hy;exact h.labs b y hy
 have labk:∀(f2:fu)(o:jX),(∀b∈f2,g.lab b=some o)->∀b y,y≠o->g.lab b=some y->(if b∈f2 then some (jX.hand 0) else g.lab b)=some y:=by intro f2 o hf b y hyo hb;rw[aD (λhm=>hyo (by have:=hf b hm;rw[hb]at this;simpa using this))];exact hb
 have hh1:∀{g2:Gh}{stN:AS},HH C g2 stN w 0 (a.eval x) (.val gg cs')->∀k u bv,[(a.eval x,AV.val gg cs')][k]?=some (u,bv)->HH C g2 stN w k u bv:=by
  intro g2 stN hh k u bv hk;cases k with
  |zero=>simp only[cA,br,Prod.mk.injEq]at hk;obtain⟨rfl,rfl⟩:=hk;exact hh
  |succ k=>simp at hk
 cases rt with
 |slot s j0=>
  simp only[AS.G6]at hown;cases hg:st.get s with
  |tup ts=>rw[hg]at hown;cases hown
  |val g1 cs1=>
   rw[hg]at hown;cases hown;have hst:∀cs2,st.DV (.slot s j0) cs2={st with slots:=st.slots.set s (.val g1 cs2)}:=λcs2=>by simp only[AS.DV,hg,AS.put,fP]
   obtain⟨fp,hr,hn,hl⟩:=h.slot s;rw[hg]at hr;obtain⟨vs,hcut1,hr⟩:=hr;obtain⟨f1,f2,f3,rfl,hdis,hle,hsp,hnn,hhand⟩:=core (.slot s) (st.DV (.slot s j0) (eQ csO (kG.pos (.slot s j0)-j) (bc st.ep ((csO.drop (kG.pos (.slot s j0)-j)).take cs.length)))) hr hn hl (by rw[hst]) (by rw[hst]) (λ_ q=>by rw[hst];exact q);have hf2:∀b∈f2,g.lab b=some (.slot s):=λb hb=>hl b (by simp[hb]);refine⟨{g with lab:=λb=>if b∈f2 then some (.hand 0) else g.lab b},λ_=>rfl,h.step (λy=>y≠ .slot s) hle h.defers ?_ ?_ h.frame (labs' f2 _ hf2) (λb y hk hb=>⟨labk f2 _ hf2 b y hk hb,rfl,rfl⟩) ?_ ?_ (λk u bv hk=> .inr (hh1 hhand k u bv hk)) (.inl ⟨by simp,by rw[hst]⟩)⟩;rw[hst];simpa using h.size;rw[hst];simpa using h.bsize;intro i bv hi;rw[hst]at hi;have hi':(st.slots.set s (.val g1 _))[i]?=some bv:=hi;by_cases his:i=s;subst his;rw[bH]at hi';simp only[cg]at hi';split at hi';simp at hi';subst hi';refine .inr ⟨f1++f3,⟨vs,hcut1,hsp⟩,hnn,λb hb=>?_⟩;show(if b∈f2 then _ else _)=_;rw[aD (hdis b hb)];exact hl b (by rcases ay.1 hb with k|k<;>simp[k]);cases hi';rw[aP (cR his)]at hi';exact .inl ⟨by simpa using his,hi',rfl⟩;intro t cs2 hb;rw[hst]at hb;exact .inl ⟨by simp,hb,rfl⟩
 |box s j0=>
  have hbx:st.boxes[s]?=some (some csO):=by simp only[AS.G6,ei]at hown;cases hb:st.boxes[s]? with|none=>simp[hb]at hown|some q=>rw[hb]at hown;simp at hown;rw[hown]
  have hslt:s<st.boxes.length:=(aC.1 hbx).1;have hst:∀cs2,st.DV (.box s j0) cs2={st with boxes:=st.boxes.set s (some cs2)}:=λcs2=>by simp only[AS.DV,AS.eZ,fP]
  obtain⟨arr,T,fr,fp,hblk,hth,hr,hn,hnb,hl,hl0,hw0⟩:=h.boxes s csO hbx;obtain⟨f1,f2,f3,rfl,hdis,hle,hsp,hnn,hhand⟩:=core (.box s) (st.DV (.box s j0) (eQ csO (kG.pos (.box s j0)-j) (bc st.ep ((csO.drop (kG.pos (.box s j0)-j)).take cs.length)))) hr hn hl (by rw[hst]) (by rw[hst]) (λt ht=>by rw[hst];obtain⟨c0,hc0⟩:=ht;by_cases hts:s=t;subst hts;exact⟨_,by simp[hslt];rfl⟩;exact⟨c0,by rw[aP hts];exact hc0⟩);have hf2:∀b∈f2,g.lab b=some (.box s):=λb hb=>hl b (by simp[hb]);refine⟨{g with lab:=λb=>if b∈f2 then some (.hand 0) else g.lab b},λ_=>rfl,h.step (λy=>y≠ .box s) hle h.defers ?_ ?_ h.frame (labs' f2 _ hf2) (λb y hk hb=>⟨labk f2 _ hf2 b y hk hb,rfl,rfl⟩) ?_ ?_ (λk u bv hk=> .inr (hh1 hhand k u bv hk)) (.inl ⟨by simp,by rw[hst]⟩)⟩;rw[hst];exact h.size;rw[hst];simpa using h.bsize;intro i bv hi;rw[hst]at hi;exact .inl ⟨by simp,hi,rfl⟩;intro t cs2 hb;rw[hst]at hb;have hb':(st.boxes.set s (some _))[t]?=some (some cs2):=hb;by_cases hts:t=s;subst hts;rw[bH]at hb';simp only[cg,hslt]at hb';simp at hb';subst hb';have hβ:g.β t∉f2:=λhm=>hnb (by simp[hm]);refine .inr ⟨arr,T,fr,f1++f3,hblk,hth,hsp,hnn,λhm=>hnb (by rcases ay.1 hm with k|k<;>simp[k]),λb hb=>?_,?_,hw0⟩;show(if b∈f2 then _ else _)=_;rw[aD (hdis b hb)];exact hl b (by rcases ay.1 hb with k|k<;>simp[k]);show(if g.β t∈f2 then _ else _)=_;rw[aD hβ];exact hl0;rw[aP (cR hts)]at hb';exact .inl ⟨by simpa using hts,hb',rfl⟩
 |io j0=>simp only[AS.G6,br]at hown;subst hown;obtain⟨fp,hr,hn,hl⟩:=h.io;obtain⟨f1,f2,f3,rfl,hdis,hle,hsp,hnn,hhand⟩:=core .io (st.DV (.io j0) (eQ st.io (kG.pos (.io j0)-j) (bc st.ep ((st.io.drop (kG.pos (.io j0)-j)).take cs.length)))) hr hn hl rfl rfl (λ_ q=>q);have hf2:∀b∈f2,g.lab b=some .io:=λb hb=>hl b (by simp[hb]);refine⟨{g with lab:=λb=>if b∈f2 then some (.hand 0) else g.lab b},λ_=>rfl,h.step (λy=>y≠ .io) hle h.defers h.size h.bsize h.frame (labs' f2 _ hf2) (λb y hk hb=>⟨labk f2 _ hf2 b y hk hb,rfl,rfl⟩) (λi bv hi=> .inl ⟨by simp,hi,rfl⟩) (λt cs2 hb=> .inl ⟨by simp,hb,rfl⟩) (λk u bv hk=> .inr (hh1 hhand k u bv hk)) (.inr ⟨f1++f3,hsp,hnn,λb hb=>?_⟩)⟩;show(if b∈f2 then _ else _)=_;rw[aD (hdis b hb)];exact hl b (by rcases ay.1 hb with k|k<;>simp[k])
 cases hc;cases hc;cases hc;cases hc
theorem abk {o:Oper}(ho:o.op=.assign x)(h:oa C st a w){K:AS->az R}(hk:OR o x st K=some r):mL P C o a w K r:=by
 have hrun:(execOp a.eval o).run P w=.ok (.value (a.eval x)) w:=by simp[execOp,ho]
 obtain⟨g,hg⟩:=h;unfold OR at hk;split at hk;rename_i v st' hc;obtain⟨g',_,hg'⟩:=hg.ail hc;exact⟨_,_,_,.inl hrun,ez.Cn hg' o.dst,hk⟩;cases hk
theorem Nb {E:Env}(hE:jA P E.ty){o:Oper}{T:TypeId}{p:Operand}(hd:o.dst=none)(ho:o.op=.store T p x)(h:oa C st a w){K:AS->az R}(hk:wL E T p x st K=some r):mL P C o a w K r:=by obtain⟨g,hg⟩:=h;unfold wL at hk;split at hk;rename_i sh s off hT hp;have hpv:=hg.rd p;rw[hp]at hpv;have hpv:=AU hpv;split at hk;rename_i gg vs st' hc;obtain⟨g',hβ,hg'⟩:=hg.ail hc;split at hk;rename_i cs hbx;split at hk;rename_i hlen;split at hk;rename_i hfit;exact Fe hE hd ho hT (by rw[hβ];exact hpv) hg' hbx hlen.1 hlen.2 hfit hk;cases hk;cases hk;cases hk;cases hk;cases hk
structure Sound (P:Program) (E:Env) (Γ:dK):Prop where
 ty:jA P E.ty
 eqs:Se P E.eqs
 fts:Yv P E.fts
 fns:∀f,iH P f (Γ f)
 mixed:P.follows .mixedOrders=true
theorem mL.wp {o:Oper}{K:AS->az R}(h:mL P C o a w K r)(next:Act->World->Prop)(Q:Exit->Act->World->Prop)(hnext:∀st' a' w',oa C st' a' w'->K st'=some r->next a' w'):o.wp P a w next Q:=by obtain⟨v,w',st',hrun,hs,hk⟩:=h;unfold Oper.wp;rcases hrun with hrun|⟨rfl,hrun⟩;rw[hrun];exact hnext _ _ _ hs hk;rw[hrun];exact hnext _ _ _ hs hk
theorem ZV {E:Env}{Γ:dK}{an:An}(hS:Sound P E Γ){o:Oper}(h:oa C st a w){K:AS->az R}(hk:cW E Γ an o st K=some r)(next:Act->World->Prop)(Q:Exit->Act->World->Prop)(hnext:∀st' a' w',oa C st' a' w'->K st'=some r->next a' w'):o.wp P a w next Q:=by
 unfold cW at hk;split at hk;·rename_i x ho;exact(abx ho h hk).wp next Q hnext
 ·rename_i x ho;split at hk;·exact(abk ho h hk).wp next Q hnext
  ·exact(Sq ho h hk).wp next Q hnext
 ·rename_i c x y ho;exact(abY ho h hk).wp next Q hnext
 ·rename_i T ho;exact(V7 hS.ty ho h hk).wp next Q hnext
 ·rename_i T x ho;exact(ac8 ho h hk).wp next Q hnext
 ·rename_i T p ho;exact(abo hS.ty ho h hk).wp next Q hnext
 ·rename_i T p x ho;split at hk
  ·rename_i hd;split at hk;·exact(Nb hS.ty hd ho h hk).wp next Q hnext
   ·exact(Yl hS.ty hd ho h hk).wp next Q hnext
  cases hk
 ·rename_i x ho;split at hk;·rename_i s off hx;exact(NP ho h hx hk).wp next Q hnext
  ·rename_i fl e y i off hx;exact(Is ho h hx hk).wp next Q hnext
  cases hk
 ·rename_i op T x y T' ho;exact(ac5 hS.ty hS.eqs ho h hk).wp next Q hnext
 ·rename_i op T x ho;exact(ah9 ho h hk).wp next Q hnext
 ·rename_i S p f ho;exact(WI hS.ty ho h hk).wp next Q hnext
 ·rename_i T x i ho;exact(L6 hS.ty ho h hk).wp next Q hnext
 ·rename_i T x i ho;exact(Xi hS.ty ho h hk).wp next Q hnext
 ·rename_i T parts ho;exact(Wl hS.ty ho h hk).wp next Q hnext
 ·rename_i T len parts ho;exact(JW hS.ty ho h hk).wp next Q hnext
 ·rename_i T n c ho;exact(Mj hS.ty ho h hk).wp next Q hnext
 ·rename_i T x lo hi ho;exact(Ya hS.ty ho h hk).wp next Q hnext
 ·rename_i S t f ho;exact(S7 hS.ty hS.fts ho h hk).wp next Q hnext
 ·rename_i args ts ho;exact(aau hS.ty ho h hk).wp next Q hnext
 ·rename_i src dst x ho;exact(P3 hS.ty ho h hk).wp next Q hnext
 ·rename_i t i ho;exact(Q2 ho h hk).wp next Q hnext
 ·rename_i args ts ho;exact(ad6 hS.ty ho h hk).wp next Q hnext
 ·rename_i args ts ho;exact(aee ho h hk).wp next Q hnext
 ·rename_i args ts ho;exact(aec ho h hk).wp next Q hnext
 ·rename_i args ts ho;exact(Sm hS.ty ho h hk).wp next Q hnext
 ·rename_i f args ts ho;exact agI hS.fns ho h hk next Q hnext
 cases hk
theorem oa.forget (h:oa C st a w)(d:az Nat):oa C (st.put d (.one .un)) (a.put d undef) w:=h.put d (λ_ _=>mF ⟨rfl,rfl⟩)
theorem oa.known (h:oa C st a w){b:Bool}(hg:st.get d=.val false [.bool b]):a.tmps.getD d undef=.bool b:=by obtain⟨g,hg'⟩:=h;obtain⟨fp,hr,_⟩:=hg'.slot d;rw[hg]at hr;exact vE hr
theorem RM:a.put (some d) (a.tmps.getD d undef)=a:=by cases a with|mk tmps defers=>simp only[Act.put];congr 1;apply Array.ext_getElem?;intro i;rw[Array.getElem?_setIfInBounds];by_cases h:d=i;subst h;by_cases hs:d<tmps.size;simp[hs,Array.getD];simp[hs];simp[h]
theorem oa.refine(h:oa C st a w){b:Bool}(hg:st.get d=.val false [.bool b]):oa C (st.put (some d) (.one (.bool b))) a w:=by have hk:=h.known hg;have:=h.put (some d) (v:=.bool b) (av:=.one (.bool b)) (λ_ _=>mF ⟨rfl,rfl⟩);rw[<-hk,RM]at this;exact this
theorem TA {E:Env}{Γ:dK}{an:An}(hS:Sound P E Γ){ops:Array Oper}{o:Oper}(h:oa C st a w){K:AS->az R}(hk:gP E Γ an ops.toList o st K=some r)(next:Act->World->Prop)(Q:Exit->Act->World->Prop)(hnext:∀st' a' w',oa C st' a' w'->K st'=some r->next a' w'): if Region.wanted o (yielded ops a.tmps) then o.wp P a w next Q\/(o.asks P a w/\LetsOut Q) else next (a.put o.dst undef) w:=by
 unfold gP at hk;split at hk;·rename_i hgd;rw[aE (by simp[Region.wanted,hgd])];exact .inl (ZV hS h hk next Q hnext)
 ·rename_i j want hgd;split at hk
  ·rename_i d hdst;have hdst':(ops[j]?).bind (·.dst)=some d:=by rw[ei]at hdst;simpa using hdst
   split at hk
   ·rename_i b hb;have hkn:=h.known hb;have hdl:d<a.tmps.size:=by rcases cq d a.tmps.size with hlt|hge;exact hlt;simp[Array.getD,Nat.not_lt.2 hge,undef]at hkn
    have hy:yielded ops a.tmps j=some b:=by
     unfold yielded;rw[hdst'];have:a.tmps[d]?=some (.bool b):=by rw[Array.getElem?_eq_getElem hdl];simp[Array.getD,hdl]at hkn;rw[hkn]
     simp[this]
    have hr:=h.refine hb
    have main:∀t,b=t->(if t==want then cW E Γ an o (st.put (some d) (.one (.bool t))) K else K ((st.put (some d) (.one (.bool t))).put o.dst (.one .un)))=some r->
     if Region.wanted o (yielded ops a.tmps) then o.wp P a w next Q\/(o.asks P a w/\LetsOut Q) else next (a.put o.dst undef) w:=by
     rintro t rfl hk
     have hw:Region.wanted o (yielded ops a.tmps)=(b==want):=by simp only[Region.wanted,hgd,hy];cases b<;>cases want<;>rfl
     rw[hw]
     cases hbw:(b==want)with
     |true=>
      rw[hbw]at hk
      simp only[cg]at hk⊢
      exact .inl (ZV hS hr hk next Q hnext)
     |false=>
      rw[hbw]at hk
      simp only[bj,cu]at hk⊢
      exact hnext _ _ _ (hr.forget o.dst) hk
    cases b with|true=>exact main true rfl hk|false=>exact main false rfl hk
   rename_i hb;obtain⟨g,hg⟩:=id h;obtain⟨fp,hr,_⟩:=hg.slot d;rw[hb]at hr;have hun:=(eU hr).1;have hy:yielded ops a.tmps j=none:=by
    unfold yielded;rw[hdst'];simp only[eT];rcases cq d a.tmps.size with hlt|hge;have:a.tmps[d]?=some undef:=by rw[Array.getElem?_eq_getElem hlt];simp[Array.getD,hlt]at hun;rw[hun]
    rw[this];rfl;rw[Array.getElem?_eq_none hge]
   have hw:Region.wanted o (yielded ops a.tmps)=false:=by simp only[Region.wanted,hgd,hy];cases want<;>rfl
   rw[hw];exact hnext _ _ _ (h.forget o.dst) hk;cases hk
  cases hk
theorem aeq {E:Env}{Γ:dK}{an:An}(hS:Sound P E Γ){ops:Array Oper}{Q:Exit->Act->World->Prop}{K:AS->az R}
 (hq:∀st' a' w',oa C st' a' w'->K st'=some r->Q .normal a' w'):∀(n i:Nat)(st:AS)(a:Act)(w:World),i+n=ops.size->oa C st a w->RF E Γ an ops.toList (ops.toList.drop i) st K=some r->
  wpOps P ops Q ((List.range' i n)) a w
 |0,i,st,a,w,hi,h,hk=>by rw[df (by simp;omega)]at hk;exact hq st a w h hk
 |n+1,i,st,a,w,hi,h,hk=>by
  have hil:i<ops.toList.length:=by simp;omega
  rw[ca hil]at hk;have ho:ops[i]?=some ops.toList[i]:=by rw[<-cB];exact al hil
  rw[List.range'_succ,wpOps,ho];simp only;have:=TA hS (ops:=ops) h hk (wpOps P ops Q (List.range' (i+1) n)) Q (λst' a' w' hs hk'=>aeq hS hq n (i+1) st' a' w' (by omega) hs hk');exact this
end Go.Dn
