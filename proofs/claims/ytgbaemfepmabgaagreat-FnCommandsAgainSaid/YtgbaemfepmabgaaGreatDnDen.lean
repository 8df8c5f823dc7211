import Derived.Test.YtgbaemfepmabgaaGreatDnCall
/- The soundness of the abstract semantics: operations, regions, loops, functions. -/
namespace Go.Dn
open Go.RowKit
variable {P:Program} {C:Ctx} {st:AS} {a:Act} {w:World} {R:Type} {r:R}
theorem Kr:∀(os ss:List AC){r:List AC},gy os ss=some r→r.all AC.Em=true∧r.map AC.strip=r:=by
 intro os;induction os with
 |nil=>intro ss r h;cases ss with|nil=>simp[gy]at h;subst h;exact⟨rfl,rfl⟩|cons _ _=>simp[gy]at h
 |cons o os ih=>
  intro ss r h;cases ss with
  |nil=>unfold gy at h;split at h<;>first|contradiction|cases h
  |cons s ss=>
   unfold gy at h;split at h;contradiction;rename_i h1 h2;injection h1 with h1 h1';subst h1';injection h2 with h2 h2';subst h2';rw[Bool.cond_eq_ite]at h;split at h;obtain⟨r',hr,h⟩:=au.1 h;cases h;obtain⟨k1,k2⟩:=ih _ hr;exact⟨by simp[AC.Em,k1],by simp[AC.strip,k2]⟩;cases h
   all_goals first
    |cases h
    |(rename_i h1 h2
      injection h1 with h1 h1';subst h1'
      injection h2 with h2 h2';subst h2'
      obtain⟨r',hr,h⟩:=au.1 h
      cases h
      obtain⟨k1,k2⟩:=ih _ hr
      exact⟨by simp[AC.Em,AC.dF,k1],by simp[AC.strip,k2]⟩)
theorem Is:∀{cs:List AC},cs.all AC.Em=true→∀{c:RC}{A:Rg}{hw:Nat→Nat}{w:World}{vs:List Value}{fp:List Nat},aN (cL A hw w) vs cs fp→c.w=w→c.hw=hw→aN c vs (cs.map AC.strip) fp
 |[],_,c,A,hw,w,vs,fp,h,_,_=>by cases vs with|nil=>exact h|cons _ _=>exact h.elim
 |x::cs,hok,c,A,hw,w,vs,fp,h,hcw,hchw=>by
  cases vs with
  |nil=>exact h.elim
  |cons v vs=>
   obtain⟨f1,f2,rfl,h1,h2⟩:=h;simp only[a6,ab]at hok;refine⟨f1,f2,rfl,?_,Is hok.2 h2 hcw hchw⟩;cases x with
   |sl fl e xs=>cases fl with|own t=>exact⟨by rw[hcw,hchw];exact h1.1,by simp⟩|arg _=>cases hok.1|loc _ _=>cases hok.1|nest _ _ _ _ _ _=>cases hok.1|part _ _ _ _=>cases hok.1|holed _ _ _=>cases hok.1
   |int k n=>exact h1
   |bool b=>exact h1
   |str s=>exact h1
   |fn f=>exact h1
   |nilsl=>cases hok.1
   |ptr s off=>cases hok.1
   |elt fl e y i off=>cases hok.1
   |un=>cases hok.1
   |bot=>cases hok.1
theorem cc.O6 {g:Gh}(h:cc C g st a w []){x:Operand}{v:AV}{st':AS}(hc:BK st x=some (v,st')):∃g',(∀s,g'.β s=g.β s)∧cc C g' st' a w [(a.eval x,v)]:=by
 unfold BK at hc;have hrd:=h.rd x;split at hc;rename_i gg cs hx;rw[hx]at hrd;obtain⟨vs0,hcut,hrel0⟩:=hrd;split at hc;rename_i rt j hfirst;split at hc;rename_i csO hown;split at hc;rename_i cs' hseg;cases hc;have hmid:=tH _ _ hseg;have hio:=Kr _ _ hseg
 have core:∀(o:eJ)(stN:AS){vs:List Value}{fp:List Nat},aN (bA C g st w) vs csO fp→fp.Nodup→(∀b∈fp,g.lab b=some o)→stN.ep=st.ep→stN.iss=st.iss→(∀s,dz st s→dz stN s)→
  ∃f1 f2 f3,fp=f1++f2++f3∧(∀b∈f1++f3,b∉f2)∧
   (bA C g st w).Le (bA C {g with lab:=λb=>if b∈f2 then some (.hand 0) else g.lab b} stN w)∧
   aN (bA C {g with lab:=λb=>if b∈f2 then some (.hand 0) else g.lab b} stN w) vs (bS csO (rt.pos-j) (aB st.ep ((csO.drop (rt.pos-j)).take cs.length))) (f1++f3)∧(f1++f3).Nodup∧
   vu C {g with lab:=λb=>if b∈f2 then some (.hand 0) else g.lab b} stN w 0 (a.eval x) (.val gg cs'):=by
  intro o stN vs fp hr hn hl hep hiss hpres
  obtain⟨f1,f2,f3,rfl,r1,r2,r3⟩:=hr.KR (rt.pos-j) cs.length
  have hn':=hn
  rw[aE]at hn'
  have n1:=List.nodup_append.1 hn'
  have n2:=List.nodup_append.1 n1.2.1
  have hle:(bA C g st w).Le (bA C {g with lab:=λb=>if b∈f2 then some (.hand 0) else g.lab b} stN w):=
   ⟨rfl,λt ht=>⟨by show fR stN t;have ht':fR st t:=ht;simpa[fR,hiss]using ht',rfl⟩,λ_ _ _ _ _ hu=>hu,by show st.ep≤stN.ep;omega,λs hs=>⟨hpres s hs,rfl⟩,λ_ b o u ho hu=>⟨ho,hu⟩⟩
  refine⟨f1,f2,f3,rfl,?_,hle,?_,?_,?_⟩
  ·intro b hb h2
   rcases al.1 hb with hb|hb
   ·exact n1.2.2 b hb b (aK _ h2) rfl
   ·exact n2.2.2 b h2 b hb rfl
  ·have hsp:=ug (c':=bA C {g with lab:=λb=>if b∈f2 then some (.hand 0) else g.lab b} stN w) (seg:=aB st.ep ((csO.drop (rt.pos-j)).take cs.length)) rfl (by rw[r2.length];exact hmid)
    (r1.mono hle (λb _=>⟨rfl,rfl⟩)) ((r2.aB).mono hle (by simp)) (r3.mono hle (λb _=>⟨rfl,rfl⟩))
   rw[aU]at hsp
   exact hsp
  ·refine List.nodup_append.2 ⟨n1.1,n2.2.1,?_⟩
   rintro b hb c hc rfl
   exact n1.2.2 b hb b (aF _ hc) rfl
  ·have harg:=zg (A:=λ_ _ _=>False) _ _ hseg hrel0 r2
   have hin:=Is hio.1 (c:=bA C g st w) harg rfl rfl
   rw[hio.2]at hin
   refine⟨f2,⟨vs0,hcut,hin.mono hle (λb _=>⟨rfl,rfl⟩)⟩,n2.1,λb hb=>?_⟩
   show(if b∈f2 then _ else _)=_
   rw[ar hb]
 have labs':∀(f2:List Nat)(o:eJ),(∀b∈f2,g.lab b=some o)→∀b y,(if b∈f2 then some (eJ.hand 0) else g.lab b)=some y→b<w.heap.size∧(C.w0.heap.size≤b∨C.M b):=by intro f2 o hf b y hy;by_cases hm:b∈f2;exact h.labs b _ (hf b hm);rw[aq hm]at hy;exact h.labs b y hy
 have labk:∀(f2:List Nat)(o:eJ),(∀b∈f2,g.lab b=some o)→∀b y,y≠o→g.lab b=some y→(if b∈f2 then some (eJ.hand 0) else g.lab b)=some y:=by intro f2 o hf b y hyo hb;rw[aq (λhm=>hyo (by have:=hf b hm;rw[hb]at this;simpa using this))];exact hb
 have hh1:∀{g2:Gh}{stN:AS},vu C g2 stN w 0 (a.eval x) (.val gg cs')→∀k u bv,[(a.eval x,AV.val gg cs')][k]?=some (u,bv)→vu C g2 stN w k u bv:=by
  intro g2 stN hh k u bv hk;cases k with
  |zero=>simp only[List.getElem?_cons_zero,aH,Prod.mk.injEq]at hk;obtain⟨rfl,rfl⟩:=hk;exact hh
  |succ k=>simp at hk
 cases rt with
 |slot s j0=>
  simp only[AS.kV]at hown;cases hg:st.get s with
  |tup ts=>rw[hg]at hown;cases hown
  |val g1 cs1=>
   rw[hg]at hown;cases hown;have hst:∀cs2,st.jj (.slot s j0) cs2={st with slots:=st.slots.set s (.val g1 cs2)}:=λcs2=>by simp only[AS.jj,hg,AS.put,cS]
   obtain⟨fp,hr,hn,hl⟩:=h.slot s;rw[hg]at hr;obtain⟨vs,hcut1,hr⟩:=hr;obtain⟨f1,f2,f3,rfl,hdis,hle,hsp,hnn,hhand⟩:=core (.slot s) (st.jj (.slot s j0) (bS csO (fg.pos (.slot s j0)-j) (aB st.ep ((csO.drop (fg.pos (.slot s j0)-j)).take cs.length)))) hr hn hl (by rw[hst]) (by rw[hst]) (λ_ q=>by rw[hst];exact q);have hf2:∀b∈f2,g.lab b=some (.slot s):=λb hb=>hl b (by simp[hb]);refine⟨{g with lab:=λb=>if b∈f2 then some (.hand 0) else g.lab b},λ_=>rfl,h.step (λy=>y≠ .slot s) hle h.defers ?_ ?_ h.frame (labs' f2 _ hf2) (λb y hk hb=>⟨labk f2 _ hf2 b y hk hb,rfl,rfl⟩) ?_ ?_ (λk u bv hk=> .inr (hh1 hhand k u bv hk)) (.inl ⟨by simp,by rw[hst]⟩)⟩;rw[hst];simpa using h.size;rw[hst];simpa using h.bsize;intro i bv hi;rw[hst]at hi;have hi':(st.slots.set s (.val g1 _))[i]?=some bv:=hi;by_cases his:i=s;subst his;rw[List.getElem?_set]at hi';simp only[aX]at hi';split at hi';simp at hi';subst hi';refine .inr ⟨f1++f3,⟨vs,hcut1,hsp⟩,hnn,λb hb=>?_⟩;show(if b∈f2 then _ else _)=_;rw[aq (hdis b hb)];exact hl b (by rcases al.1 hb with k|k<;>simp[k]);cases hi';rw[List.getElem?_set_ne (bF his)]at hi';exact .inl ⟨by simpa using his,hi',rfl⟩;intro t cs2 hb;rw[hst]at hb;exact .inl ⟨by simp,hb,rfl⟩
 |box s j0=>
  have hbx:st.boxes[s]?=some (some csO):=by simp only[AS.kV,cf]at hown;cases hb:st.boxes[s]? with|none=>simp[hb]at hown|some q=>rw[hb]at hown;simp at hown;rw[hown]
  have hslt:s<st.boxes.length:=(List.getElem?_eq_some_iff.1 hbx).1;have hst:∀cs2,st.jj (.box s j0) cs2={st with boxes:=st.boxes.set s (some cs2)}:=λcs2=>by simp only[AS.jj,AS.cC,cS]
  obtain⟨arr,T,fr,fp,hblk,hth,hr,hn,hnb,hl,hl0,hw0⟩:=h.boxes s csO hbx;obtain⟨f1,f2,f3,rfl,hdis,hle,hsp,hnn,hhand⟩:=core (.box s) (st.jj (.box s j0) (bS csO (fg.pos (.box s j0)-j) (aB st.ep ((csO.drop (fg.pos (.box s j0)-j)).take cs.length)))) hr hn hl (by rw[hst]) (by rw[hst]) (λt ht=>by rw[hst];obtain⟨c0,hc0⟩:=ht;by_cases hts:s=t;subst hts;exact⟨_,by simp[hslt];rfl⟩;exact⟨c0,by rw[List.getElem?_set_ne hts];exact hc0⟩);have hf2:∀b∈f2,g.lab b=some (.box s):=λb hb=>hl b (by simp[hb]);refine⟨{g with lab:=λb=>if b∈f2 then some (.hand 0) else g.lab b},λ_=>rfl,h.step (λy=>y≠ .box s) hle h.defers ?_ ?_ h.frame (labs' f2 _ hf2) (λb y hk hb=>⟨labk f2 _ hf2 b y hk hb,rfl,rfl⟩) ?_ ?_ (λk u bv hk=> .inr (hh1 hhand k u bv hk)) (.inl ⟨by simp,by rw[hst]⟩)⟩;rw[hst];exact h.size;rw[hst];simpa using h.bsize;intro i bv hi;rw[hst]at hi;exact .inl ⟨by simp,hi,rfl⟩;intro t cs2 hb;rw[hst]at hb;have hb':(st.boxes.set s (some _))[t]?=some (some cs2):=hb;by_cases hts:t=s;subst hts;rw[List.getElem?_set]at hb';simp only[aX,hslt]at hb';simp at hb';subst hb';have hβ:g.β t∉f2:=λhm=>hnb (by simp[hm]);refine .inr ⟨arr,T,fr,f1++f3,hblk,hth,hsp,hnn,λhm=>hnb (by rcases al.1 hm with k|k<;>simp[k]),λb hb=>?_,?_,hw0⟩;show(if b∈f2 then _ else _)=_;rw[aq (hdis b hb)];exact hl b (by rcases al.1 hb with k|k<;>simp[k]);show(if g.β t∈f2 then _ else _)=_;rw[aq hβ];exact hl0;rw[List.getElem?_set_ne (bF hts)]at hb';exact .inl ⟨by simpa using hts,hb',rfl⟩
 |io j0=>simp only[AS.kV,aH]at hown;subst hown;obtain⟨fp,hr,hn,hl⟩:=h.io;obtain⟨f1,f2,f3,rfl,hdis,hle,hsp,hnn,hhand⟩:=core .io (st.jj (.io j0) (bS st.io (fg.pos (.io j0)-j) (aB st.ep ((st.io.drop (fg.pos (.io j0)-j)).take cs.length)))) hr hn hl rfl rfl (λ_ q=>q);have hf2:∀b∈f2,g.lab b=some .io:=λb hb=>hl b (by simp[hb]);refine⟨{g with lab:=λb=>if b∈f2 then some (.hand 0) else g.lab b},λ_=>rfl,h.step (λy=>y≠ .io) hle h.defers h.size h.bsize h.frame (labs' f2 _ hf2) (λb y hk hb=>⟨labk f2 _ hf2 b y hk hb,rfl,rfl⟩) (λi bv hi=> .inl ⟨by simp,hi,rfl⟩) (λt cs2 hb=> .inl ⟨by simp,hb,rfl⟩) (λk u bv hk=> .inr (hh1 hhand k u bv hk)) (.inr ⟨f1++f3,hsp,hnn,λb hb=>?_⟩)⟩;show(if b∈f2 then _ else _)=_;rw[aq (hdis b hb)];exact hl b (by rcases al.1 hb with k|k<;>simp[k])
 cases hc;cases hc;cases hc;cases hc
theorem JC {o:Oper}{x:Operand}(ho:o.op=.assign x)(h:gO C st a w){K:AS→Option R}(hk:AW o x st K=some r):gC P C o a w K r:=by
 have hrun:(execOp a.eval o).run P w=.ok (.value (a.eval x)) w:=by simp[execOp,ho]
 obtain⟨g,hg⟩:=h;unfold AW at hk;split at hk;rename_i v st' hc;obtain⟨g',_,hg'⟩:=hg.O6 hc;exact⟨_,_,_,.inl hrun,cc.rD hg' o.dst,hk⟩;cases hk
theorem zC {E:Env}(hE:eQ P E.ty){o:Oper}{T:TypeId}{p x:Operand}(hd:o.dst=none)(ho:o.op=.store T p x)(h:gO C st a w){K:AS→Option R}(hk:nv E T p x st K=some r):gC P C o a w K r:=by obtain⟨g,hg⟩:=h;unfold nv at hk;split at hk;rename_i sh s off hT hp;have hpv:=hg.rd p;rw[hp]at hpv;have hpv:=qn hpv;split at hk;rename_i gg vs st' hc;obtain⟨g',hβ,hg'⟩:=hg.O6 hc;split at hk;rename_i cs hbx;split at hk;rename_i hlen;split at hk;rename_i hfit;exact tL hE hd ho hT (by rw[hβ];exact hpv) hg' hbx hlen.1 hlen.2 hfit hk;cases hk;cases hk;cases hk;cases hk;cases hk
structure Sound (P:Program) (E:Env) (Γ:cG):Prop where
 ty:eQ P E.ty
 eqs:Da P E.eqs
 fts:HU P E.fts
 fns:∀f,aR P f (Γ f)
 mixed:P.follows .mixedOrders=true
theorem gC.wp {o:Oper}{K:AS→Option R}(h:gC P C o a w K r)(next:Act→World→Prop)(Q:Exit→Act→World→Prop)(hnext:∀st' a' w',gO C st' a' w'→K st'=some r→next a' w'):o.wp P a w next Q:=by obtain⟨v,w',st',hrun,hs,hk⟩:=h;unfold Oper.wp;rcases hrun with hrun|⟨rfl,hrun⟩;rw[hrun];exact hnext _ _ _ hs hk;rw[hrun];exact hnext _ _ _ hs hk
theorem IT {E:Env}{Γ:cG}{an:An}(hS:Sound P E Γ){o:Oper}(h:gO C st a w){K:AS→Option R}(hk:bT E Γ an o st K=some r)(next:Act→World→Prop)(Q:Exit→Act→World→Prop)(hnext:∀st' a' w',gO C st' a' w'→K st'=some r→next a' w'):o.wp P a w next Q:=by
 unfold bT at hk;split at hk;·rename_i x ho;exact(JO ho h hk).wp next Q hnext
 ·rename_i x ho;split at hk;·exact(JC ho h hk).wp next Q hnext
  ·exact(Dk ho h hk).wp next Q hnext
 ·rename_i c x y ho;exact(Kd ho h hk).wp next Q hnext
 ·rename_i T ho;exact(Gg hS.ty ho h hk).wp next Q hnext
 ·rename_i T x ho;exact(K9 ho h hk).wp next Q hnext
 ·rename_i T p ho;exact(JG hS.ty ho h hk).wp next Q hnext
 ·rename_i T p x ho;split at hk
  ·rename_i hd;split at hk;·exact(zC hS.ty hd ho h hk).wp next Q hnext
   ·exact(HM hS.ty hd ho h hk).wp next Q hnext
  cases hk
 ·rename_i x ho;split at hk;·rename_i s off hx;exact(Aj ho h hx hk).wp next Q hnext
  ·rename_i fl e y i off hx;exact(vR ho h hx hk).wp next Q hnext
  cases hk
 ·rename_i op T x y T' ho;exact(K6 hS.ty hS.eqs ho h hk).wp next Q hnext
 ·rename_i op T x ho;exact(OZ ho h hk).wp next Q hnext
 ·rename_i S p f ho;exact(GK hS.ty ho h hk).wp next Q hnext
 ·rename_i T x i ho;exact(yy hS.ty ho h hk).wp next Q hnext
 ·rename_i T x i ho;exact(G1 hS.ty ho h hk).wp next Q hnext
 ·rename_i T parts ho;exact(Gv hS.ty ho h hk).wp next Q hnext
 ·rename_i T len parts ho;exact(xc hS.ty ho h hk).wp next Q hnext
 ·rename_i T n c ho;exact(yE hS.ty ho h hk).wp next Q hnext
 ·rename_i T x lo hi ho;exact(HE hS.ty ho h hk).wp next Q hnext
 ·rename_i S t f ho;exact(DW hS.ty hS.fts ho h hk).wp next Q hnext
 ·rename_i args ts ho;exact(Jf hS.ty ho h hk).wp next Q hnext
 ·rename_i src dst x ho;exact(BM hS.ty ho h hk).wp next Q hnext
 ·rename_i t i ho;exact(Cj ho h hk).wp next Q hnext
 ·rename_i args ts ho;exact(LW hS.ty ho h hk).wp next Q hnext
 ·rename_i args ts ho;exact(L4 ho h hk).wp next Q hnext
 ·rename_i args ts ho;exact(L2 ho h hk).wp next Q hnext
 ·rename_i args ts ho;exact(Dh hS.ty ho h hk).wp next Q hnext
 ·rename_i f args ts ho;exact N0 hS.fns ho h hk next Q hnext
 cases hk
theorem gO.forget (h:gO C st a w)(d:Option Nat):gO C (st.put d (.one .un)) (a.put d undef) w:=h.put d (λ_ _=>gx ⟨rfl,rfl⟩)
theorem gO.known (h:gO C st a w){d:Nat}{b:Bool}(hg:st.get d=.val false [.bool b]):a.tmps.getD d undef=.bool b:=by obtain⟨g,hg'⟩:=h;obtain⟨fp,hr,_⟩:=hg'.slot d;rw[hg]at hr;exact mF hr
theorem CP {d:Nat}:a.put (some d) (a.tmps.getD d undef)=a:=by cases a with|mk tmps defers=>simp only[Act.put];congr 1;apply Array.ext_getElem?;intro i;rw[Array.getElem?_setIfInBounds];by_cases h:d=i;subst h;by_cases hs:d<tmps.size;simp[hs,Array.getD];simp[hs];simp[h]
theorem gO.refine(h:gO C st a w){d:Nat}{b:Bool}(hg:st.get d=.val false [.bool b]):gO C (st.put (some d) (.one (.bool b))) a w:=by have hk:=h.known hg;have:=h.put (some d) (v:=.bool b) (av:=.one (.bool b)) (λ_ _=>gx ⟨rfl,rfl⟩);rw[←hk,CP]at this;exact this
theorem Eb {E:Env}{Γ:cG}{an:An}(hS:Sound P E Γ){ops:Array Oper}{o:Oper}(h:gO C st a w){K:AS→Option R}(hk:dH E Γ an ops.toList o st K=some r)(next:Act→World→Prop)(Q:Exit→Act→World→Prop)(hnext:∀st' a' w',gO C st' a' w'→K st'=some r→next a' w'): if Region.wanted o (yielded ops a.tmps) then o.wp P a w next Q∨(o.asks P a w∧LetsOut Q) else next (a.put o.dst undef) w:=by
 unfold dH at hk;split at hk;·rename_i hgd;rw[ar (by simp[Region.wanted,hgd])];exact .inl (IT hS h hk next Q hnext)
 ·rename_i j want hgd;split at hk
  ·rename_i d hdst;have hdst':(ops[j]?).bind (·.dst)=some d:=by rw[cf]at hdst;simpa using hdst
   split at hk
   ·rename_i b hb;have hkn:=h.known hb;have hdl:d<a.tmps.size:=by rcases bl d a.tmps.size with hlt|hge;exact hlt;simp[Array.getD,Nat.not_lt.2 hge,undef]at hkn
    have hy:yielded ops a.tmps j=some b:=by
     unfold yielded;rw[hdst'];have:a.tmps[d]?=some (.bool b):=by rw[Array.getElem?_eq_getElem hdl];simp[Array.getD,hdl]at hkn;rw[hkn]
     simp[this]
    have hr:=h.refine hb
    have main:∀t,b=t→(if t==want then bT E Γ an o (st.put (some d) (.one (.bool t))) K else K ((st.put (some d) (.one (.bool t))).put o.dst (.one .un)))=some r→
     if Region.wanted o (yielded ops a.tmps) then o.wp P a w next Q∨(o.asks P a w∧LetsOut Q) else next (a.put o.dst undef) w:=by
     rintro t rfl hk
     have hw:Region.wanted o (yielded ops a.tmps)=(b==want):=by simp only[Region.wanted,hgd,hy];cases b<;>cases want<;>rfl
     rw[hw]
     cases hbw:(b==want)with
     |true=>
      rw[hbw]at hk
      simp only[aX]at hk⊢
      exact .inl (IT hS hr hk next Q hnext)
     |false=>
      rw[hbw]at hk
      simp only[aD,bp]at hk⊢
      exact hnext _ _ _ (hr.forget o.dst) hk
    cases b with|true=>exact main true rfl hk|false=>exact main false rfl hk
   rename_i hb;obtain⟨g,hg⟩:=id h;obtain⟨fp,hr,_⟩:=hg.slot d;rw[hb]at hr;have hun:=(cu hr).1;have hy:yielded ops a.tmps j=none:=by
    unfold yielded;rw[hdst'];simp only[cA];rcases bl d a.tmps.size with hlt|hge;have:a.tmps[d]?=some undef:=by rw[Array.getElem?_eq_getElem hlt];simp[Array.getD,hlt]at hun;rw[hun]
    rw[this];rfl;rw[Array.getElem?_eq_none hge]
   have hw:Region.wanted o (yielded ops a.tmps)=false:=by simp only[Region.wanted,hgd,hy];cases want<;>rfl
   rw[hw];exact hnext _ _ _ (h.forget o.dst) hk;cases hk
  cases hk
theorem Mc {E:Env}{Γ:cG}{an:An}(hS:Sound P E Γ){ops:Array Oper}{Q:Exit→Act→World→Prop}{K:AS→Option R}
 (hq:∀st' a' w',gO C st' a' w'→K st'=some r→Q .normal a' w'):∀(n i:Nat)(st:AS)(a:Act)(w:World),i+n=ops.size→gO C st a w→CI E Γ an ops.toList (ops.toList.drop i) st K=some r→
  wpOps P ops Q ((List.range' i n)) a w
 |0,i,st,a,w,hi,h,hk=>by rw[bR (by simp;omega)]at hk;exact hq st a w h hk
 |n+1,i,st,a,w,hi,h,hk=>by
  have hil:i<ops.toList.length:=by simp;omega
  rw[bj hil]at hk;have ho:ops[i]?=some ops.toList[i]:=by rw[←Array.getElem?_toList];exact List.getElem?_eq_getElem hil
  rw[List.range'_succ,wpOps,ho];simp only;have:=Eb hS (ops:=ops) h hk (wpOps P ops Q (List.range' (i+1) n)) Q (λst' a' w' hs hk'=>Mc hS hq n (i+1) st' a' w' (by omega) hs hk');exact this
end Go.Dn
