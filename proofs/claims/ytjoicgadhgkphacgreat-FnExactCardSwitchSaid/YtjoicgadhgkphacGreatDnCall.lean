import Derived.Test.YtjoicgadhgkphacGreatDnOps8
/- A call by value: what a callee promises, and what the caller makes of it. -/
namespace Go.Dn
open Go.RowKit
variable {P:Program} {C:Ctx} {st:AS} {a:Act} {w:World} {R:Type} {r:R}
def dN (A:Nat→Nat→Prop)(hw:Nat→Nat)(w:World):RC:=⟨hw,λ_=>0,A,λ_=>undef,λ_=>False,0,λ_=>False,w⟩
def mF (A:Nat→Nat→Prop)(w:World):List Value→List AV→Prop
 |[],[]=>True
 |v::vs,x::xs=>ek (dN A (λ_=>0) w) v x []∧mF A w vs xs
 |_,_=>False
def amJ (P:Program)(f:Nat)(F:aD)(y:F.R)(g:Bool)(cs:List AC)(rest:List AV):Prop:=
 ∀(A:Nat→Nat→Prop)(w:World)(v0:Value)(vs:List Value)(hw:Nat→Nat)(fp:List Nat),(∀b o,A b o→b<w.heap.size∧b∉fp)→ek (dN A hw w) v0 (.val g cs) fp→fp.Nodup→(∀b∈fp,b<w.heap.size)→mF A w vs rest→
  Calls P f (v0::vs).toArray w λe w'=>∃v hw' fr fp',e=.returned v∧ek (dN A hw' w') v (F.av y) fr∧ek (dN A hw' w') v0 (.val g (F.back y)) fp'∧fp'.Nodup∧
   (∀b∈fp',b<w'.heap.size∧(b∈fp∨w.heap.size≤b))∧Fr (λb=>b∈fp) w w'
def agB (P:Program)(f:Nat)(F:aD)(y:F.R)(cs:List AC)(rest:List AV):Prop:=
 ∀(A:Nat→Nat→Prop)(w:World)(b:Nat)(vs:List Value)(arr:Array Value)(T:TypeId)(fr:Nat×Nat)(hw:Nat→Nat)(fp:List Nat),(∀b' o,A b' o→b'<w.heap.size∧b'≠b∧b'∉fp)→
  w.heap[b]?=some (.cells arr T fr)→ph arr fr→ba (dN A hw w) arr.toList cs fp→fp.Nodup→b∉fp→(∀b'∈fp,b'<w.heap.size)→hw b=0→mF A w vs rest→
  Calls P f (.pointer (some ⟨b,0,none⟩)::vs).toArray w λe w'=>∃v hw' fv arr' T' fr' fp',e=.returned v∧ek (dN A hw' w') v (F.av y) fv∧w'.heap[b]?=some (.cells arr' T' fr')∧ph arr' fr'∧
   ba (dN A hw' w') arr'.toList (F.back y) fp'∧fp'.Nodup∧b∉fp'∧(∀b'∈fp',b'<w'.heap.size∧(b'∈fp∨w.heap.size≤b'))∧Fr (λb'=>b'=b∨b'∈fp) w w'
def aA (P:Program)(f:Nat)(F:aD):Prop:=
 ∀(xs:List AV)(y:F.R),F.fn xs=some y→
  (∃fn c,P.funcs[f]?=some fn∧fn.body=some c∧(fn.name== "runtime.NumGoroutine")=false)∧
  (F.io=false→F.bx=false→∀(A:Nat→Nat→Prop)(w:World)(vs:List Value),(∀b o,A b o→b<w.heap.size)→mF A w vs xs→
    Calls P f vs.toArray w λe w'=>∃v hw fp,e=.returned v∧ek (dN A hw w') v (F.res y) fp∧fp.Nodup∧(∀b∈fp,w.heap.size≤b∧b<w'.heap.size)∧Fr (λ_=>False) w w')∧
  (F.io=true→∀g cs rest,xs=.val g cs::rest→amJ P f F y g cs rest)∧
  (F.bx=true→∀cs rest,xs=.val true cs::rest→agB P f F y cs rest)
theorem pn {c c':RC}{v:Value}{x:AC}{fp:List Nat}(h:eK c v x fp)(hf:x.eA=true):fp=[]∧eK c' v x []:=by cases x with|int k n=>exact⟨h.2,h.1,rfl⟩|bool b=>exact⟨h.2,h.1,rfl⟩|str s=>exact⟨h.2,h.1,rfl⟩|fn f=>exact⟨h.2,h.1,rfl⟩|_=>cases hf
theorem AZ {c c':RC}:∀{vs:List Value}{xs:List AC}{fp:List Nat},ba c vs xs fp→xs.all AC.eA=true→fp=[]∧ba c' vs xs []
 |[],[],_,h,_=>⟨h,rfl⟩
 |_::_,_::_,_,h,hf=>by obtain⟨f1,f2,rfl,h1,h2⟩:=h;simp only[bD,aj]at hf;obtain⟨rfl,k1⟩:=pn (c':=c') h1 hf.1;obtain⟨rfl,k2⟩:=AZ (c':=c') h2 hf.2;exact⟨rfl,[],[],rfl,k1,k2⟩
 |[],_::_,_,h,_=>h.elim
 |_::_,[],_,h,_=>h.elim
theorem Mw {c c':RC}:∀{ws:List Value}{ts:List (Bool×List AC)}{fp:List Nat},ek.lR c ws ts fp→(ts.all λx=>x.2.all AC.eA)=true→ek.lR c' ws ts []
 |[],[],_,_,_=>rfl
 |_::_,_::_,_,h,hf=>by obtain⟨f1,f2,rfl,⟨vs,hv,h1⟩,h2⟩:=h;simp only[bD,aj]at hf;exact⟨[],[],rfl,⟨vs,hv,(AZ h1 hf.1).2⟩,Mw h2 hf.2⟩
 |[],_::_,_,h,_=>h.elim
 |_::_,[],_,h,_=>h.elim
theorem BN {c c':RC}{v:Value}{x:AV}{fp:List Nat}(h:ek c v x fp)(hf:x.eA=true):ek c' v x []:=by
 cases x with
 |val g cs=>obtain⟨vs,hv,h⟩:=h;exact⟨vs,hv,(AZ h hf).2⟩
 |tup ts=>obtain⟨ws,hv,h⟩:=h;exact⟨ws,hv,Mw h hf⟩
theorem GS {c:RC}{A:Nat→Nat→Prop}:∀(os ss:List AC){r:List AC}{vs us:List Value}{f:List Nat},jd os ss=some r→ba c vs os []→ba c us ss f→ba (dN A c.hw c.w) vs r f:=by
 intro os;induction os with
 |nil=>intro ss r vs us f h hv hu;cases ss with|cons _ _=>simp[jd]at h|nil=>simp[jd]at h;subst h;cases vs with|cons _ _=>exact hv.elim|nil=>cases us with|cons _ _=>exact hu.elim|nil=>exact hu
 |cons o os ih=>
  intro ss r vs us f h hv hu;cases vs with
  |nil=>exact hv.elim
  |cons v vs=>
   cases ss with
   |nil=>unfold jd at h;split at h<;>first|contradiction|cases h
   |cons s ss=>
    cases us with
    |nil=>exact hu.elim
    |cons u us=>
     obtain⟨g1,g2,hg,hv1,hv2⟩:=hv;have e1:g1=[]:=by have:=hg.symm;simp at this;exact this.1
     have e2:g2=[]:=by have:=hg.symm;simp at this;exact this.2
     subst e1;subst e2;obtain⟨f1,f2,rfl,hu1,hu2⟩:=hu;have fl:∀{x:AC}{r'},x.eA=true→s.eA=true→o=x→jd os ss=some r'→r=x::r'→ba (dN A c.hw c.w) (v::vs) r (f1++f2):=by rintro x r' hx hs rfl hr rfl;obtain⟨rfl,_⟩:=pn (c':=c) hu1 hs;exact⟨[],f2,rfl,(pn hv1 hx).2,ih ss hr hv2 hu2⟩
     unfold jd at h;split at h;contradiction;rename_i ep rt t e0 xs0 os' t' e xs ss' h1 h2;injection h1 with h1 h1';subst h1;subst h1';injection h2 with h2 h2';subst h2;subst h2';cases ht:(t'==t)with
     |false=>rw[ht]at h;cases h
     |true=>
      have:t'=t:=by simpa using ht
      subst this;rw[ht]at h;simp only[ai]at h;obtain⟨r',hr,h⟩:=aF.1 h;cases h;have hv':=(hv1.2.2.2.2 rt t' rfl).2;have hu':=(hu1.2 t' rfl).2;have huv:u=v:=hu'.trans hv'.symm;subst huv;exact⟨f1,f2,rfl,⟨hu1.1,by simp⟩,ih _ hr hv2 hu2⟩
     rename_i k n os' k' n' ss' h1 h2;injection h1 with h1 h1';subst h1';injection h2 with h2 h2';subst h2;subst h2';obtain⟨r',hr,h⟩:=aF.1 h;cases h;exact fl (x:=.int k n) rfl rfl h1 hr rfl;rename_i k os' k' ss' h1 h2;injection h1 with h1 h1';subst h1';injection h2 with h2 h2';subst h2;subst h2';obtain⟨r',hr,h⟩:=aF.1 h;cases h;exact fl (x:=.bool k) rfl rfl h1 hr rfl;rename_i k os' k' ss' h1 h2;injection h1 with h1 h1';subst h1';injection h2 with h2 h2';subst h2;subst h2';obtain⟨r',hr,h⟩:=aF.1 h;cases h;exact fl (x:=.str k) rfl rfl h1 hr rfl;cases h
theorem NO {c c':RC}{A:Nat→Nat→Prop}{hw':Nat→Nat}(hle:c.Le c'):∀(os ss bs:List AC){seg:List AC}{vs us:List Value}{f f':List Nat},wi os ss bs=some seg→ba c vs os []→ba c us ss f→ ba (dN A hw' c'.w) vs bs f'→(∀b∈f',c'.hw b=hw' b)→ba c' us seg f':=by
 intro os;induction os with
 |nil=>
  intro ss bs seg vs us f f' h hv hu hb _;unfold wi at h;split at h;cases h;cases us with|cons _ _=>exact hu.elim|nil=>cases vs with|cons _ _=>exact hv.elim|nil=>exact hb
  all_goals first|contradiction|cases h
 |cons o os ih=>
  intro ss bs seg vs us f f' h hv hu hb hh;unfold wi at h;split at h;contradiction;rename_i ep rt t' e0 xs0 os' t e1 xs1 ss' tg e ys bs' h1;injection h1 with h1 h1';subst h1;subst h1';cases ht:(t==t')with
  |false=>rw[ht]at h;cases h
  |true=>
   have:t=t':=by simpa using ht
   subst this;rw[ht]at h;simp only[ai]at h;obtain⟨r',hr,h⟩:=aF.1 h;cases h;cases vs with
   |nil=>exact hv.elim
   |cons v vs=>
    cases us with
    |nil=>exact hu.elim
    |cons u us=>
     obtain⟨g1,g2,hg,hv1,hv2⟩:=hv;have e1:g1=[]:=by have:=hg.symm;simp at this;exact this.1
     have e2:g2=[]:=by have:=hg.symm;simp at this;exact this.2
     subst e1;subst e2;obtain⟨f1,f2,rfl,hu1,hu2⟩:=hu;obtain⟨f1',f2',rfl,hb1,hb2⟩:=hb;have hv':=(hv1.2.2.2.2 rt t rfl).2;have hu':=hu1.2 t rfl;have huv:u=v:=hu'.2.trans hv'.symm;refine⟨f1',f2',rfl,⟨?_,λq hq=>?_⟩,ih _ _ hr hv2 hu2 hb2 (λb hb=>hh b (aQ _ hb))⟩;rw[huv];exact dg.mono hb1.1 (λb hb=>⟨rfl,hh b (a8 _ hb)⟩);cases hq;exact⟨(hle.hdr t hu'.1).1,by rw[(hle.hdr t hu'.1).2];exact hu'.2⟩
  all_goals first
   |cases h
   |(rename_i h1
     injection h1 with h1 h1';subst h1'
     obtain⟨r',hr,h⟩:=aF.1 h
     cases h
     cases vs with
     |nil=>exact hv.elim
     |cons v vs=>
      cases us with
      |nil=>exact hu.elim
      |cons u us=>
       obtain⟨g1,g2,hg,hv1,hv2⟩:=hv
       have e1:g1=[]:=by have:=hg.symm;simp at this;exact this.1
       have e2:g2=[]:=by have:=hg.symm;simp at this;exact this.2
       subst e1;subst e2
       obtain⟨f1,f2,rfl,hu1,hu2⟩:=hu
       obtain⟨f1',f2',rfl,hb1,hb2⟩:=hb
       have k1:=(pn (c':=c) hb1 rfl).1
       subst k1
       exact⟨[],f2',rfl,(pn hu1 rfl).2,ih _ _ hr hv2 hu2 hb2 (λb hb=>hh b (aQ _ hb))⟩)
theorem OK {c:RC}{v:Value}{x:AC}{fp:List Nat}(h:eK c v x fp):eK (dN (λb o=>c.S b o∧b<c.w.heap.size) (λ_=>0) c.w) v (x.asArg c.ep) []:=by
 have hS:∀{e:CT}{xs:List e.D},fZ c.w c.S (.sl e) [v] xs→fZ c.w (λb o=>c.S b o∧b<c.w.heap.size) (.sl e) [v] xs:=λhr=>
  fZ.mono (λb o u hs hu=>⟨⟨hs,World.block_lt_of_cell? c.w _ hu⟩,hu⟩) hr
 cases x with|int k n=>exact⟨h.1,rfl⟩|bool b=>exact⟨h.1,rfl⟩|str s=>exact⟨h.1,rfl⟩|nilsl=>exact⟨h.1,rfl⟩|fn f=>exact⟨h.1,rfl⟩|ptr s off=>exact rfl|un=>exact rfl|bot=>exact rfl|elt fl e y i off=>exact rfl|sl fl e xs=>cases fl with|nest _ _ _ _ _ _=>exact rfl|part _ _ _ _=>exact rfl|holed _ _ _=>exact rfl|own t=>exact⟨rfl,hS (dg.rep (λb o ho=> .inr ho) h.1)⟩|arg=>exact⟨rfl,hS (fZ.mono (λb o u hs hu=>⟨.inl hs,hu⟩) h.2)⟩|loc ep pv=>simp only[AC.asArg];split;rename_i he;exact⟨rfl,hS (h.2.2.2.1 (by simpa using he))⟩;exact rfl
theorem Dv {c:RC}:∀{vs:List Value}{xs:List AC}{fp:List Nat},ba c vs xs fp→ba (dN (λb o=>c.S b o∧b<c.w.heap.size) (λ_=>0) c.w) vs (xs.map (AC.asArg c.ep)) []
 |[],[],_,_=>rfl
 |_::_,_::_,_,h=>by obtain⟨f1,f2,rfl,h1,h2⟩:=h;exact⟨[],[],rfl,OK h1,Dv h2⟩
 |[],_::_,_,h=>h.elim
 |_::_,[],_,h=>h.elim
theorem R5 {c:RC}{v:Value}{x:AV}{fp:List Nat}(h:ek c v x fp):ek (dN (λb o=>c.S b o∧b<c.w.heap.size) (λ_=>0) c.w) v (x.asArg c.ep) []:=by
 cases x with
 |val g cs=>obtain⟨vs,hv,h⟩:=h;exact⟨vs,hv,Dv h⟩
 |tup ts=>exact ek.bot _ _
theorem LD {g:Gh}(h:cH C g st a w []):∀(args:List Operand),
 mF (λb o=>(bS C g st w).S b o∧b<w.heap.size) w (args.map a.eval) (args.map λx=>((st.rd x).fresh st).asArg st.ep)
 |[]=>trivial
 |x::xs=>⟨R5 (c:=bS C g st w) (h.fresh (h.rd x)),LD h xs⟩
theorem OL {c:RC}{A':Nat→Nat→Prop}{hw:Nat→Nat}{v:Value}{x:AC}{fp:List Nat}{tag:Option Nat}(h:eK (dN A' hw c.w) v x fp)(hA:∀b o,A' b o→c.S b o)(hhw:∀b∈fp,c.hw b=hw b)(ht:∀t,tag=some t→c.iss t∧v=c.hdr t):eK c v (x.EB c.ep tag) fp:=by
 cases x with
 |int k n=>exact h
 |bool b=>exact h
 |str s=>exact h
 |nilsl=>exact h
 |fn f=>exact h
 |ptr s off=>exact h.2.2
 |un=>exact h
 |bot=>exact h
 |elt fl e y i off=>cases fl with|own t=>exact h.elim|nest _ _ _ _ _ _=>exact h.elim|part _ _ _ _=>exact h.elim|holed _ _ _=>exact h.elim|arg=>exact h.1|loc ep pv=>exact h.1
 |sl fl e xs=>
  cases fl with
  |nest _ _ _ _ _ _=>exact h.1
  |part _ _ _ _=>exact h.1
  |holed _ _ _=>obtain⟨_,⟨k,hk,h3⟩,_⟩:=h;exact⟨λq hq=>(by cases hq),⟨k,hk,h3.mono (λb hb=>⟨rfl,hhw b hb⟩)⟩,by simp⟩
  |own t=>exact⟨dg.mono h.1 (λb hb=>⟨rfl,hhw b hb⟩),ht⟩
  |loc ep pv=>exact h.1
  |arg=>have hr:fZ c.w c.S (.sl e) [v] xs:=fZ.mono (λb o u hs hu=>⟨hA b o hs,hu⟩) h.2;refine⟨h.1,aV _,?_,λ_=>hr,by simp⟩;obtain⟨u,hu,k⟩:=hr;simp at hu;subst hu;rcases k with⟨⟨ad,rfl⟩,rfl⟩|⟨b,o,cap,rfl,_⟩;exact⟨_,_,_,rfl,rfl⟩;exact⟨_,_,_,rfl,rfl⟩
theorem vH {c:RC}{A':Nat→Nat→Prop}{hw:Nat→Nat}{mk:Nat→Option Nat}(hA:∀b o,A' b o→c.S b o):∀{vs:List Value}{xs:List AC}{fp:List Nat}(j:Nat),ba (dN A' hw c.w) vs xs fp→(∀b∈fp,c.hw b=hw b)→
 (∀i v,vs[i]?=some v→∀t,mk (j+i)=some t→c.iss t∧v=c.hdr t)→ba c vs (vu c.ep mk j xs) fp
 |[],[],_,_,h,_,_=>h
 |v::_,_::_,_,j,h,hh,hm=>by obtain⟨f1,f2,rfl,h1,h2⟩:=h;exact⟨f1,f2,rfl,OL h1 hA (λb hb=>hh b (a8 _ hb)) (λt ht=>hm 0 v rfl t ht),vH hA (j+1) h2 (λb hb=>hh b (aQ _ hb)) (λi u hu t ht=>hm (i+1) u (by simpa using hu) t (by rwa[show j+(i+1)=j+1+i by omega]))⟩
 |[],_::_,_,_,h,_,_=>h.elim
 |_::_,[],_,_,h,_,_=>h.elim
inductive Leaves (A:Nat→Nat→Prop) (hw:Nat→Nat) (w:World):List Value→List (Bool×List AC)→List Nat→List Value→Prop
 |nil:Leaves A hw w [] [] [] []
 |cons {v:Value} {vs:List Value} {g:Bool} {cs:List AC} {ts:List (Bool×List AC)} {f1 f2:List Nat} {us all:List Value} (hcut:Cut g v us) (hr:ba (dN A hw w) us cs f1) (h:Leaves A hw w vs ts f2 all):
  Leaves A hw w (v::vs) ((g,cs)::ts) (f1++f2) (us++all)
theorem Ix {A:Nat→Nat→Prop}{hw:Nat→Nat}{w:World}:∀{ws:List Value}{ts:List (Bool×List AC)}{fp:List Nat},ek.lR (dN A hw w) ws ts fp→∃all,Leaves A hw w ws ts fp all
 |[],[],_,h=>by cases h;exact⟨[],.nil⟩
 |_::_,(g,cs)::_,_,h=>by obtain⟨f1,f2,rfl,⟨us,hcut,hr⟩,h2⟩:=h;obtain⟨all,hall⟩:=Ix h2;exact⟨us++all,.cons hcut hr hall⟩
 |[],_::_,_,h=>h.elim
 |_::_,[],_,h=>h.elim
theorem PC {c:RC}{A':Nat→Nat→Prop}{hw:Nat→Nat}{mk:Nat→Option Nat}(hA:∀b o,A' b o→c.S b o){ws:List Value}{ts:List (Bool×List AC)}{fp:List Nat}{all:List Value}(h:Leaves A' hw c.w ws ts fp all): ∀j,(∀b∈fp,c.hw b=hw b)→(∀i v,all[i]?=some v→∀t,mk (j+i)=some t→c.iss t∧v=c.hdr t)→ek.lR c ws (P1 c.ep mk j ts) fp:=by induction h with|nil=>intro j _ _;exact rfl| @cons v vs g cs ts f1 f2 us all hcut hr h ih=>intro j hh hm;have hl:=hr.length;refine⟨f1,f2,rfl,⟨us,hcut,vH hA j hr (λb hb=>hh b (a8 _ hb)) (λi u hu t ht=>?_)⟩,ih _ (λb hb=>hh b (aQ _ hb)) (λi u hu t ht=>?_)⟩;exact hm i u (by rw[List.getElem?_append_left (List.getElem?_eq_some_iff.1 hu).1];exact hu) t ht;have hl':us.length=cs.length:=hl;refine hm (us.length+i) u (by rw[List.getElem?_append_right (by omega)];simpa using hu) t ?_;rw[←dL,hl'];exact ht
def uT (hdr:Nat→Value)(mk:Nat→Option Nat)(all:List Value):Nat→Value:=λu=>if mk (u/3%4096)=some u then(all[u/3%4096]?).getD undef else hdr u
theorem Bc {hdr:Nat→Value}{d:Option Nat}{all:List Value}{t:Nat}(h:jk st t):uT hdr (st.hH d) all t=hdr t:=by unfold uT;rw[ao];intro e;exact(pB e).1 h
theorem Bb {hdr:Nat→Value}{d:Option Nat}{all:List Value}{i t:Nat}{v:Value}(hv:all[i]?=some v)(h:st.hH d i=some t):v=uT hdr (st.hH d) all t:=by
 obtain⟨_,_,d',rfl,ht,hi⟩:=pB h;have hidx:t/3%4096=i:=by rw[ht,CB];omega
 unfold uT;rw[hidx,ay h,hv];rfl
theorem cH.Ek {g:Gh}(h:cH C g st a w [])(o:gb)(hnh:¬cj (some o)){f1 f2 f3:List Nat}(hn:(f1++f2++f3).Nodup)(hl:∀b∈f1++f2++f3,g.lab b=some o){w':World}{hw':Nat→Nat}{st':AS}{fp1:List Nat}(hep:st'.ep=st.ep+1)(hiss:st'.iss=st.iss)(hpres:∀s,eH st s→eH st' s)(hn1:fp1.Nodup)(hfp1:∀b∈fp1,b<w'.heap.size∧(b∈f2∨w.heap.size≤b))(hfr:Fr (λb=>b∈f2) w w')(hhw:∀b,b<w.heap.size→b∉f2→hw' b=g.hw b): (bS C g st w).Le (bS C (g.wrote o (f1++fp1++f3) hw') st' w')∧(f1++fp1++f3).Nodup∧ (∀b∈f1++fp1++f3,(g.wrote o (f1++fp1++f3) hw').lab b=some o)∧ (∀b∈f1++f3,w'.heap[b]?=w.heap[b]?∧hw' b=g.hw b)∧ (∀b x,¬cj (some x)→x≠o→g.lab b=some x→(g.wrote o (f1++fp1++f3) hw').lab b=some x∧w'.heap[b]?=w.heap[b]?∧hw' b=g.hw b)∧ (∀b,g.lab b=some o→b∉f1++f2++f3→(g.wrote o (f1++fp1++f3) hw').lab b=some o∧w'.heap[b]?=w.heap[b]?∧hw' b=g.hw b)∧ Fr C.M C.w0 w'∧(∀b x,(g.wrote o (f1++fp1++f3) hw').lab b=some x→b<w'.heap.size∧(C.w0.heap.size≤b∨C.M b)):=by
 have hn':=hn;rw[aG]at hn';have n1:=List.nodup_append.1 hn';have n2:=List.nodup_append.1 n1.2.1;have hdis:∀b∈f1++f3,b∉f2:=by intro b hb h2;rcases ar.1 hb with hb|hb;exact n1.2.2 b hb b (a8 _ h2) rfl;exact n2.2.2 b h2 b hb rfl
 have hcA:∀b o u,C.A b o→w.cell? ⟨b,o,none⟩=some u→w'.cell? ⟨b,o,none⟩=some u:=by intro b o u hA hu;have hb:b<w.heap.size:=World.block_lt_of_cell? w _ hu;have hnl:¬(b∈f2):=λhm=>h.HA (hl b (by simp[hm])) o hA;rw[World.cell?_of_block (a:=⟨b,o,none⟩) (hfr.block b hb hnl)];exact hu
 have hle:(bS C g st w).Le (bS C (g.wrote o (f1++fp1++f3) hw') st' w'):=⟨rfl,λt ht=>⟨by show jk st' t;have ht':jk st t:=ht;simpa[jk,hiss]using ht',rfl⟩,hcA,by show st.ep≤st'.ep;omega,λs hs=>⟨hpres s hs,rfl⟩,λhe=>absurd he (by show st'.ep≠st.ep;omega)⟩
 have hkeep:∀b x,g.lab b=some x→b∉f2→w'.heap[b]?=w.heap[b]?∧hw' b=g.hw b:=by intro b x hb hm;exact⟨hfr.block b (h.labs b _ hb).1 hm,hhw b (h.labs b _ hb).1 hm⟩
 have hd1:∀b∈f1++f3,b∉fp1:=by intro b hb hm;rcases(hfp1 b hm).2 with h2|h2;exact hdis b hb h2;have:=(h.labs b _ (hl b (by rcases ar.1 hb with hb|hb<;>simp[hb]))).1;omega
 refine⟨hle,?_,?_,?_,?_,?_,?_,?_⟩;rw[aG];refine List.nodup_append.2 ⟨n1.1,List.nodup_append.2 ⟨hn1,n2.2.1,?_⟩,?_⟩;rintro b hb c hc rfl;exact hd1 b (by simp[hc]) hb;rintro b hb c hc rfl;rcases ar.1 hc with hc|hc;exact hd1 b (by simp[hb]) hc;exact n1.2.2 b hb b (aQ _ hc) rfl;intro b hb;show(if b∈f1++fp1++f3 then _ else _)=_;rw[ay hb];intro b hb;exact hkeep b o (hl b (by rcases ar.1 hb with hb|hb<;>simp[hb])) (hdis b hb);intro b x hh hxo hb;have hm2:b∉f2:=λhm=>hxo (by have:=hl b (by simp[hm]);rw[hb]at this;simpa using this);refine⟨?_,hkeep b x hb hm2⟩;show(if b∈f1++fp1++f3 then _ else if cj (g.lab b) then none else g.lab b)=_;have hnin:b∉f1++fp1++f3:=by intro hm;simp only[ar]at hm;rcases hm with(hm|hm)|hm;exact hxo (by have:=hl b (by simp[hm]);rw[hb]at this;simpa using this);rcases(hfp1 b hm).2 with h2|h2;exact hm2 h2;have:=(h.labs b _ hb).1;omega;exact hxo (by have:=hl b (by simp[hm]);rw[hb]at this;simpa using this)
 rw[ao hnin,ao (by rw[hb];exact hh),hb];intro b hb hm;have hm2:b∉f2:=λk=>hm (by simp[k]);refine⟨?_,hkeep b o hb hm2⟩;show(if b∈f1++fp1++f3 then _ else if cj (g.lab b) then none else g.lab b)=_;rw[ao (c:=cj (g.lab b)) (by rw[hb];exact hnh),hb];split<;>rfl;refine h.frame.trans hfr (λb hb hm=>?_);rcases(h.labs b o (hl b (by simp[hm]))).2 with h2|h2;omega;exact h2;intro b x hx;have hx':(if b∈f1++fp1++f3 then some o else if cj (g.lab b) then none else g.lab b)=some x:=hx;have hz:=hfr.size;have old:∀y,g.lab b=some y→b<w'.heap.size∧(C.w0.heap.size≤b∨C.M b):=λy hy=>⟨Nat.lt_of_lt_of_le (h.labs b y hy).1 hz,(h.labs b y hy).2⟩
 split at hx';rename_i hm;simp only[ar]at hm;rcases hm with(hm|hm)|hm;exact old o (hl b (by simp[hm]));rcases(hfp1 b hm).2 with h2|h2;exact old o (hl b (by simp[h2]));exact⟨(hfp1 b hm).1,.inl (a7 h.frame.size h2)⟩;exact old o (hl b (by simp[hm]));split at hx';cases hx';exact old x hx'
theorem Br {c':RC}{vs us:List Value}{cs seg:List AC}{f1 f2 f3:List Nat}{off n:Nat}(hus:us=(vs.drop off).take n)(hln:us.length=n)(r1:ba c' (vs.take off) (cs.take off) f1)(r2:ba c' us seg f2)(r3:ba c' (vs.drop (off+n)) (cs.drop (off+n)) f3): ba c' vs (ck cs off seg) (f1++f2++f3):=by
 have hl2:=r2.length;have e:vs=vs.take off++us++vs.drop (off+n):=by rw[hus,aG,←dx,bz,bz]
 rw[e,ck,show seg.length=n by omega];exact ba.append (ba.append r1 r2) r3
theorem cH.U1 {g:Gh}(h:cH C g st a w [])(r:gC){csO:List AC}(hown:st.oc r=some csO)(off n:Nat)(hmid:((csO.drop off).take n).length=n): ∃us f2,ba (bS C g st w) us ((csO.drop off).take n) f2∧f2.Nodup∧(∀b∈f2,b<w.heap.size∧∀o,¬C.A b o)∧ ∀(w':World)(hw':Nat→Nat)(seg:List AC)(fp1:List Nat),fp1.Nodup→(∀b∈fp1,b<w'.heap.size∧(b∈f2∨w.heap.size≤b))→Fr (λb=>b∈f2) w w'→ (∀b,b<w.heap.size→b∉f2→hw' b=g.hw b)→(∀c',(bS C g st w).Le c'→c'.w=w'→c'.hw=hw'→ba c' us seg fp1)→ ∃g',cH C g' {st.lq r (ck csO off seg)with ep:=st.ep+1} a w' []:=by
 have core:∀(o:gb),¬cj (some o)→∀{vs:List Value}{fp:List Nat},ba (bS C g st w) vs csO fp→fp.Nodup→(∀b∈fp,g.lab b=some o)→
  ∃us f1 f2 f3,fp=f1++f2++f3∧ba (bS C g st w) us ((csO.drop off).take n) f2∧f2.Nodup∧(∀b∈f2,b<w.heap.size∧∀o,¬C.A b o)∧
   ∀(w':World)(hw':Nat→Nat)(st':AS)(seg:List AC)(fp1:List Nat),st'.ep=st.ep+1→st'.iss=st.iss→(∀s,eH st s→eH st' s)→fp1.Nodup→(∀b∈fp1,b<w'.heap.size∧(b∈f2∨w.heap.size≤b))→Fr (λb=>b∈f2) w w'→
    (∀b,b<w.heap.size→b∉f2→hw' b=g.hw b)→(∀c',(bS C g st w).Le c'→c'.w=w'→c'.hw=hw'→ba c' us seg fp1)→
    ba (bS C (g.wrote o (f1++fp1++f3) hw') st' w') vs (ck csO off seg) (f1++fp1++f3):=by
  intro o hnh vs fp hr hn hl
  obtain⟨f1,f2,f3,rfl,r1,r2,r3⟩:=hr.TM off n
  have hn':=hn
  rw[aG]at hn'
  have n2:=List.nodup_append.1 (List.nodup_append.1 hn').2.1
  refine⟨_,f1,f2,f3,rfl,r2,n2.1,λb hb=>⟨(h.labs b o (hl b (by simp[hb]))).1,λq=>h.HA (hl b (by simp[hb])) q⟩,?_⟩
  intro w' hw' st' seg fp1 hep hiss hpres hn1 hfp1 hfr hhw hseg
  obtain⟨hle,_,_,hk,_⟩:=h.Ek o hnh hn hl hep hiss hpres hn1 hfp1 hfr hhw
  exact Br rfl (by rw[r2.length];exact hmid) (r1.mono hle λb hb=>hk b (by simp[hb])) (hseg _ hle rfl rfl) (r3.mono hle λb hb=>hk b (by simp[hb]))
 cases r with
 |slot s j=>
  simp only[AS.oc]at hown;cases hg:st.get s with
  |tup ts=>rw[hg]at hown;cases hown
  |val gg cs=>
   rw[hg]at hown;cases hown;have hlt0:s<st.slots.length∨¬s<st.slots.length:=bw s st.slots.length|>.imp id Nat.not_lt.2;obtain⟨fp,hr,hn,hl⟩:=h.slot s;rw[hg]at hr;obtain⟨vs,hcut,hr⟩:=hr;obtain⟨us,f1,f2,f3,rfl,hus,hn2,hb2,hfin⟩:=core (.slot s) (by simp[dJ]) hr hn hl;refine⟨us,f2,hus,hn2,hb2,?_⟩;intro w' hw' seg fp1 hn1 hfp1 hfr hhw hseg;let st':AS:={st.lq (.slot s j) (ck csO off seg)with ep:=st.ep+1}
   have hst':st'={st with slots:=st.slots.set s (.val gg (ck csO off seg)),ep:=st.ep+1}:=by show({st.lq (.slot s j) (ck csO off seg)with ep:=st.ep+1}:AS)=_;simp only[AS.lq,hg,AS.put,dD]
   have hpr:∀t,eH st t→eH st' t:=λt ht=>by rw[hst'];exact ht
   obtain⟨hle,hnn,hll,_,hk1,_,hfrC,hlabs⟩:=h.Ek (.slot s) (by simp[dJ]) hn hl (st':=st') rfl (by rw[hst']) hpr hn1 hfp1 hfr hhw;have hrel:=hfin w' hw' st' seg fp1 rfl (by rw[hst']) hpr hn1 hfp1 hfr hhw hseg;refine⟨_,h.step (λx=>¬cj (some x)∧x≠ .slot s) hle h.defers ?_ ?_ hfrC hlabs (λb x hk hx=>hk1 b x hk.1 hk.2 hx) ?_ ?_ (λk u bv hk=>by simp at hk) (.inl ⟨⟨by simp[dJ],by simp⟩,by show st'.io=st.io;rw[hst']⟩)⟩;show _=st'.slots.length;rw[hst'];simpa using h.size;show st'.boxes.length=st'.slots.length;rw[hst'];simpa using h.bsize;intro i av hi;have hi':(st.slots.set s (.val gg (ck csO off seg)))[i]?=some av:=by have:st'.slots[i]?=some av:=hi;rw[hst']at this;exact this
   by_cases his:i=s;subst his;rw[List.getElem?_set]at hi';simp only[bk]at hi';split at hi';simp at hi';subst hi';exact .inr ⟨_,⟨vs,hcut,hrel⟩,hnn,hll⟩;cases hi';rw[List.getElem?_set_ne (bR his)]at hi';exact .inl ⟨⟨by simp[dJ],by simpa using his⟩,hi',rfl⟩;intro t cs' hb;have hb':st.boxes[t]?=some (some cs'):=by have:st'.boxes[t]?=some (some cs'):=hb;rw[hst']at this;exact this
   exact .inl ⟨⟨by simp[dJ],by simp⟩,hb',rfl⟩
 |box s j=>
  have hbx:st.boxes[s]?=some (some csO):=by simp only[AS.oc,cR]at hown;cases hb:st.boxes[s]? with|none=>simp[hb]at hown|some q=>rw[hb]at hown;simp at hown;rw[hown]
  have hslt:s<st.boxes.length:=(List.getElem?_eq_some_iff.1 hbx).1;obtain⟨arr,T,fr,fp,hblk,hth,hr,hn,hnb,hl,hl0,hw0⟩:=h.boxes s csO hbx;obtain⟨us,f1,f2,f3,rfl,hus,hn2,hb2,hfin⟩:=core (.box s) (by simp[dJ]) hr hn hl;refine⟨us,f2,hus,hn2,hb2,?_⟩;intro w' hw' seg fp1 hn1 hfp1 hfr hhw hseg;let st':AS:={st.lq (.box s j) (ck csO off seg)with ep:=st.ep+1}
  have hst':st'={st with boxes:=st.boxes.set s (some (ck csO off seg)),ep:=st.ep+1}:=by show({st.lq (.box s j) (ck csO off seg)with ep:=st.ep+1}:AS)=_;simp only[AS.lq,AS.dG,dD]
  have hpr:∀t,eH st t→eH st' t:=λt ht=>by rw[hst'];obtain⟨c0,hc0⟩:=ht;by_cases hts:s=t;subst hts;exact⟨ck csO off seg,by simp[hslt]⟩;exact⟨c0,by rw[List.getElem?_set_ne hts];exact hc0⟩
  obtain⟨hle,hnn,hll,_,hk1,hk2,hfrC,hlabs⟩:=h.Ek (.box s) (by simp[dJ]) hn hl (st':=st') rfl (by rw[hst']) hpr hn1 hfp1 hfr hhw;have hrel:=hfin w' hw' st' seg fp1 rfl (by rw[hst']) hpr hn1 hfp1 hfr hhw hseg;have hβ:=hk2 (g.β s) hl0 hnb;refine⟨_,h.step (λx=>¬cj (some x)∧x≠ .box s) hle h.defers ?_ ?_ hfrC hlabs (λb x hk hx=>hk1 b x hk.1 hk.2 hx) ?_ ?_ (λk u bv hk=>by simp at hk) (.inl ⟨⟨by simp[dJ],by simp⟩,by show st'.io=st.io;rw[hst']⟩)⟩;show _=st'.slots.length;rw[hst'];exact h.size;show st'.boxes.length=st'.slots.length;rw[hst'];simpa using h.bsize;intro i av hi;have hi':st.slots[i]?=some av:=by have:st'.slots[i]?=some av:=hi;rw[hst']at this;exact this
  exact .inl ⟨⟨by simp[dJ],by simp⟩,hi',rfl⟩;intro t cs' hb;have hb':(st.boxes.set s (some (ck csO off seg)))[t]?=some (some cs'):=by have:st'.boxes[t]?=some (some cs'):=hb;rw[hst']at this;exact this
  by_cases hts:t=s;subst hts;rw[List.getElem?_set]at hb';simp only[bk,hslt]at hb';simp at hb';subst hb';have hnb':g.β t∉f1++fp1++f3:=by intro hm;simp only[ar]at hm;rcases hm with(hm|hm)|hm;exact hnb (by simp[hm]);rcases(hfp1 _ hm).2 with h2|h2;exact hnb (by simp[h2]);have:=(h.labs _ _ hl0).1;omega;exact hnb (by simp[hm])
  exact .inr ⟨arr,T,fr,_,hβ.2.1.trans hblk,hth,hrel,hnn,hnb',hll,hβ.1,hβ.2.2.trans hw0⟩;rw[List.getElem?_set_ne (bR hts)]at hb';exact .inl ⟨⟨by simp[dJ],by simpa using hts⟩,hb',rfl⟩
 |io j=>
  simp only[AS.oc,aS]at hown;subst hown;obtain⟨fp,hr,hn,hl⟩:=h.io;obtain⟨us,f1,f2,f3,rfl,hus,hn2,hb2,hfin⟩:=core .io (by simp[dJ]) hr hn hl;refine⟨us,f2,hus,hn2,hb2,?_⟩;intro w' hw' seg fp1 hn1 hfp1 hfr hhw hseg;let st':AS:={st.lq (.io j) (ck st.io off seg)with ep:=st.ep+1}
  have hst':st'={st with io:=ck st.io off seg,ep:=st.ep+1}:=rfl;have hpr:∀t,eH st t→eH st' t:=λt ht=>by rw[hst'];exact ht
  obtain⟨hle,hnn,hll,_,hk1,_,hfrC,hlabs⟩:=h.Ek .io (by simp[dJ]) hn hl (st':=st') rfl (by rw[hst']) hpr hn1 hfp1 hfr hhw;have hrel:=hfin w' hw' st' seg fp1 rfl (by rw[hst']) hpr hn1 hfp1 hfr hhw hseg;refine⟨_,h.step (λx=>¬cj (some x)∧x≠ .io) hle h.defers ?_ ?_ hfrC hlabs (λb x hk hx=>hk1 b x hk.1 hk.2 hx) ?_ ?_ (λk u bv hk=>by simp at hk) (.inr ⟨_,hrel,hnn,hll⟩)⟩;exact h.size;exact h.bsize;intro i av hi;exact .inl ⟨⟨by simp[dJ],by simp⟩,hi,rfl⟩;intro t cs' hb;exact .inl ⟨⟨by simp[dJ],by simp⟩,hb,rfl⟩
theorem AG:∀(os ss:List AC){r:List AC},jd os ss=some r→ss.length=os.length:=by
 intro os
 induction os with
 |nil=>intro ss r h;cases ss with
  |nil=>rfl
  |cons _ _=>simp[jd]at h
 |cons o os ih=>
  intro ss r h
  cases ss with
  |nil=>unfold jd at h;split at h<;>first|contradiction|cases h
  |cons s ss=>
   unfold jd at h
   split at h
   ·contradiction
   ·rename_i h1 h2
    injection h1 with h1 h1';subst h1'
    injection h2 with h2 h2';subst h2'
    rw[Bool.cond_eq_ite]at h
    split at h
    ·obtain⟨r',hr,h⟩:=aF.1 h
     simp[ih _ hr]
    ·cases h
   all_goals first
    |cases h
    |(rename_i h1 h2
      injection h1 with h1 h1';subst h1'
      injection h2 with h2 h2';subst h2'
      obtain⟨r',hr,h⟩:=aF.1 h
      simp[ih _ hr])
theorem zO {g:Gh}(h:cH C g st a w []){A:Nat→Nat→Prop}:∀(xs:List Operand),xs.all (λx=>(st.rd x).eA)=true→mF A w (xs.map a.eval) (xs.map st.rd)
 |[],_=>trivial
 |x::xs,hf=>by simp only[bD,aj]at hf;exact⟨BN (h.rd x) hf.1,zO h xs hf.2⟩
theorem Tb {hw:Nat→Nat}{w:World}{e:CT}{v:Value}{xs:List e.D}{fp0:List Nat}(h:dg hw w (.sl e) [v] xs fp0){n:Nat}{x:e.D}(hx:xs[n]?=some x): ∃b o0 cap arr T fr f1 fx f3,v=.slice (some ⟨b,o0,none⟩) xs.length cap∧w.heap[b]?=some (.cells arr T fr)∧ dg hw w e ((arr.toList.drop (o0+n*e.size)).take e.size) x fx∧fp0=b::(f1++fx++f3)∧ ∀(w':World)(hw':Nat→Nat)(x':e.D)(fx':List Nat),(∀b'∈b::(f1++f3),w'.heap[b']?=w.heap[b']?∧hw' b'=hw b')→ dg hw' w' e ((arr.toList.drop (o0+n*e.size)).take e.size) x' fx'→dg hw' w' (.sl e) [v] (xs.set n x') (b::(f1++fx'++f3)):=by
 obtain⟨u,hu,h⟩:=h;simp at hu;subst hu;have hnl:n<xs.length:=(List.getElem?_eq_some_iff.1 hx).1;rcases h with⟨⟨_,rfl⟩,rfl,rfl⟩|⟨b,o0,cap,arr,T,fr,fps,rfl,hb,hth,hs,hc,hh,rfl,hl,hr⟩;simp at hx;have hfn:fps[n]?=some fps[n]:=List.getElem?_eq_getElem (by omega);have hfs:=vL hfn;refine⟨b,o0,cap,arr,T,fr,(fps.take n).flatten,fps[n],(fps.drop (n+1)).flatten,rfl,hb,hr n x _ hx hfn,by rw[hfs.1],?_⟩;intro w' hw' x' fx' hk hown;have hkb:=hk b (by simp);refine⟨_,rfl,.inr ⟨b,o0,cap,arr,T,fr,fps.set n fx',by simp,hkb.1.trans hb,hth,hs,by simpa using hc,by rw[hkb.2];simpa using hh,by rw[hfs.2],by simp[hl],?_⟩⟩;intro i y f hy hf;by_cases hin:i=n;subst hin;rw[List.getElem?_set]at hy hf;simp only[bk,hnl]at hy;simp only[bk]at hf;rw[ay (by omega)]at hf;simp at hy hf;subst hy;subst hf;exact hown;rw[List.getElem?_set_ne (bR hin)]at hy hf;refine dg.mono (hr i y f hy hf) (λb' hb''=>hk b' (List.mem_cons_of_mem _ ?_));have hil:i<fps.length:=(List.getElem?_eq_some_iff.1 hf).1;have hfi:fps[i]=f:=by rw[List.getElem?_eq_getElem hil]at hf;simpa using hf
 rcases Nat.lt_or_gt_of_ne hin with hlt|hgt;refine a8 _ (List.mem_flatten.2 ⟨f,?_,hb''⟩);rw[List.mem_take_iff_getElem];exact⟨i,by omega,hfi⟩;refine aQ _ (List.mem_flatten.2 ⟨f,?_,hb''⟩);rw[List.mem_drop_iff_getElem];exact⟨i-(n+1),by omega,by rw[←hfi];congr 1;omega⟩
theorem ba.single {c:RC}{vs:List Value}{x:AC}{fp:List Nat}(h:ba c vs [x] fp):∃v,vs=[v]∧eK c v x fp:=by cases vs with|nil=>exact h.elim|cons v vs=>obtain⟨f1,f2,rfl,h1,h2⟩:=h;cases vs with|nil=>cases h2;exact⟨v,rfl,by simpa using h1⟩|cons _ _=>exact h2.elim
theorem X6 {g:Bool}{v:Value}{a b:List Value}(h:Cut g v a)(k:Cut g v b):b=a:=by cases g with|true=>simp only[Cut,bk]at h k;have:=h.symm.trans k;simp at this;exact this.symm|false=>simp only[Cut]at h k;simp at h k;rw[h,k]
theorem YH {Γ:bH}(hΓ:∀f,aA P f (Γ f)){o':Oper}{f:Operand}{args:Array Operand}{ts:Array TypeId}(ho:o'.op=.call {callee:=.value f,args,argTypes:=ts}){g:Gh}(hg:cH C g st a w []){k:Nat}(hf:st.rd f=.val false [.fn k])(hio:(Γ k).io=true){x0:Operand}{xs:List Operand}(hargs:args.toList=x0::xs){gg:Bool}{cs:List AC}(hx0:st.rd x0=.val gg cs){K:AS→Option R}(hk:IE Γ o' k gg cs xs st K=some r)(next:Act→World→Prop)(Q:Exit→Act→World→Prop)(hnext:∀st' a' w',ka C st' a' w'→K st'=some r→next a' w'):o'.wp P a w next Q:=by
 have hfv:=hg.rd f;rw[hf]at hfv;have hfv:=(cZ hfv).1;unfold IE at hk;split at hk
 ·rename_i ep rt t en i off e1 ws;split at hk
  ·rename_i csO hown;split at hk
   ·rename_i t' e ys hO;cases hc:((ep==st.ep)&&(t'==t)&&(en.size==e.size)&&xs.all (λx=>(st.rd x).eA))with
    |false=>rw[hc]at hk;cases hk
    |true=>
     rw[hc]at hk;simp only[ai]at hk;simp only[aj,aW]at hc;obtain⟨⟨⟨hep,htt⟩,hsz⟩,hflat⟩:=hc;subst htt;cases hix:idx ys i with
     |none=>rw[hix]at hk;cases hk
     |some x=>
      rw[hix]at hk;simp only[aa]at hk;split at hk
      ·rename_i tg0 e2 zs hmid;cases hres:(Γ k).fn (.val gg [.sl (.own none) e2 zs]::xs.map st.rd)with
       |none=>rw[hres]at hk;cases hk
       |some y=>
        rw[hres]at hk;simp only at hk;split at hk
        ·rename_i tg e3 zs' hback;split at hk
         ·rename_i x' hof;cases hfl:((Γ k).av y).eA with
          |false=>rw[hfl]at hk;cases hk
          |true=>
           rw[hfl]at hk;simp only[ai]at hk;obtain⟨⟨fn,c,hfn,hbody,hname⟩,_,hcalls,_⟩:=hΓ k _ y hres;have hcalls:=hcalls hio gg _ (xs.map st.rd) rfl;have hrd:=hg.rd x0;rw[hx0]at hrd;obtain⟨vs0,hcut,hrel0⟩:=hrd;obtain⟨v,rfl,hrelv⟩:=hrel0.single;obtain⟨us,f2,hus,hn2,hb2,hfin⟩:=hg.U1 rt hown rt.pos 1 (by rw[hO];rfl);rw[hO]at hus;obtain⟨u,rfl,hrelu⟩:=hus.single;obtain⟨n,hin,hxn⟩:=Gd hix;obtain⟨b,o0,cap,arr,T,fr,f1,fx,f3,hu,hblk,hownx,hfp2,hset⟩:=Tb hrelu.1 hxn;obtain⟨_,n2,b2,o2,len2,cap2,hin2,hhdr,_,_,hcell⟩:=hrelv.2.2.2 hep;have hun:=(hrelu.2 t' rfl).2;rw[hhdr,hu]at hun;simp only[Value.slice.injEq,aS,Addr.mk.injEq]at hun;obtain⟨⟨rfl,rfl,_⟩,_,_⟩:=hun;have hnn:n2=n:=by omega
           subst hnn;rw[hsz]at hcell;have hcell':arr[o0+n2*e.size+off]?=some v:=by rw[←cell_of hblk];exact hcell
           have hrelx:=jS (c:=bS C g st w) hownx;obtain⟨k1,k2,k3,hkx,r1,r2,r3⟩:=hrelx.TM off 1;rw[hmid]at r2;obtain⟨v',hv',hrelv'⟩:=r2.single;have hvv:v'=v:=by
            have h0:(((arr.toList.drop (o0+n2*e.size)).take e.size).drop off).take 1=[v']:=hv';have h1:((((arr.toList.drop (o0+n2*e.size)).take e.size).drop off).take 1)[0]?=some v':=by rw[h0];rfl
            rw[List.getElem?_take]at h1;simp only[Nat.zero_lt_one,bk]at h1;rw[List.getElem?_drop,List.getElem?_take]at h1;split at h1;rw[List.getElem?_drop,Array.getElem?_toList,cD,hcell']at h1;simpa using h1.symm;cases h1
           subst hvv;have hn2':=hn2;rw[hfp2,hkx]at hn2';have hnb:=List.nodup_cons.1 hn2';have m0:=hnb.2;rw[aG]at m0;have m1:=List.nodup_append.1 m0;have m2:=List.nodup_append.1 m1.2.1;have m2a:=m2.1;rw[aG]at m2a;have m3:=List.nodup_append.1 m2a;have m4:=List.nodup_append.1 m3.2.1;have hk2in:∀q∈k2,q∈f2:=λq hq=>by rw[hfp2,hkx];simp[hq]
           have hcall:=hcalls (λ_ _=>False) w (a.eval x0) (xs.map a.eval) g.hw k2 (λ_ _ hf=>hf.elim) ⟨[v'],hcut,k2,[],by simp,⟨hrelv'.1,by simp⟩,rfl⟩ m4.1 (λq hq=>(hb2 q (hk2in q hq)).1) (zO hg xs hflat);have hargs':(a.eval x0::xs.map a.eval).toArray=args.map a.eval:=by apply dn;simp[hargs]
           rw[hargs']at hcall;have hrun:(execOp a.eval o').run P w=.ok (.enter k (args.map a.eval)) w:=by simp[execOp,ho,resolve,hfv,Deferred.ofValue,invoke,callFunc,hfn,hbody];simpa using hname
           unfold Oper.wp;rw[hrun,Oper.upon_enter];refine hcall.mono ?_;rintro e' w' ⟨vr,hw',frr,fp',rfl,hrel,⟨vs1,hcut1,hbk⟩,hnd,hfp,hfr⟩;show next (a.put o'.dst vr) w'
           have hvs:=X6 hcut hcut1;subst hvs;rw[hback]at hbk;obtain⟨v2,hv2,hbk2⟩:=hbk.single;simp only[List.cons.injEq,fH]at hv2;subst hv2;have hdis:∀q,q∈f2→q∉k2→q∉fp':=λq hq hq2 hm=>by rcases(hfp q hm).2 with h2|h2;exact hq2 h2;have:=(hb2 q hq).1;omega
           have hrest:∀q,(q=b∨q∈f1∨q∈k1∨q∈k3∨q∈f3)→q∈f2∧q∉k2:=by intro q hq;constructor;rw[hfp2,hkx];rcases hq with hq|hq|hq|hq|hq<;>simp[hq];intro h2;rcases hq with hq|hq|hq|hq|hq;subst hq;exact hnb.1 (by simp[h2]);exact m1.2.2 q hq q (by simp[h2]) rfl;exact m3.2.2 q hq q (by simp[h2]) rfl;exact m4.2.2 q h2 q hq rfl;exact m2.2.2 q (by simp[h2]) q hq rfl
           have hnd1:(b::(f1++(k1++fp'++k3)++f3)).Nodup:=by refine List.nodup_cons.2 ⟨λhm=>?_,?_⟩;simp only[ar]at hm;rcases hm with(hm|((hm|hm)|hm))|hm;exact hnb.1 (by simp[hm]);exact hnb.1 (by simp[hm]);exact hdis b (hrest b (.inl rfl)).1 (hrest b (.inl rfl)).2 hm;exact hnb.1 (by simp[hm]);exact hnb.1 (by simp[hm]);have hd':∀q,(q∈f1∨q∈k1∨q∈k3∨q∈f3)→q∉fp':=λq hq=>hdis q (hrest q (.inr hq)).1 (hrest q (.inr hq)).2;rw[aG];refine List.nodup_append.2 ⟨m1.1,List.nodup_append.2 ⟨?_,m2.2.1,?_⟩,?_⟩;rw[aG];refine List.nodup_append.2 ⟨m3.1,List.nodup_append.2 ⟨hnd,m4.2.1,?_⟩,?_⟩;rintro c hc d hd rfl;exact hd' c (by simp[hd]) hc;rintro c hc d hd rfl;rcases ar.1 hd with hd|hd;exact hd' c (by simp[hc]) hd;exact m3.2.2 c hc c (aQ _ hd) rfl;rintro c hc d hd rfl;simp only[ar]at hc;rcases hc with(hc|hc)|hc;exact m2.2.2 c (by simp[hc]) c hd rfl;exact hd' c (by simp[hd]) hc;exact m2.2.2 c (by simp[hc]) c hd rfl;rintro c hc d hd rfl;simp only[ar]at hd;rcases hd with((hd|hd)|hd)|hd;exact m1.2.2 c hc c (by simp[hd]) rfl;exact hd' c (by simp[hc]) hd;exact m1.2.2 c hc c (by simp[hd]) rfl;exact m1.2.2 c hc c (by simp[hd]) rfl
           have hin':i.toNat=n2:=by omega
           obtain⟨g',hg'⟩:=hfin w' (λq=>if q∈fp' then hw' q else g.hw q) [.sl (.own (some t')) e (ys.set n2 x')] (b::(f1++(k1++fp'++k3)++f3)) hnd1
            (λq hq=>by
             have hz:=hfr.size;by_cases hm:q∈fp';refine⟨(hfp q hm).1,?_⟩;rcases(hfp q hm).2 with h2|h2;exact .inl (hk2in q h2);exact .inr h2;have h2:q∈f2:=by refine(hrest q ?_).1;simp only[bE,ar]at hq;rcases hq with hq|(hq|((hq|hq)|hq))|hq;exact .inl hq;simp[hq];simp[hq];exact absurd hq hm;simp[hq];simp[hq]
             exact⟨by have:=(hb2 q h2).1;omega,.inl h2⟩)
            ⟨hfr.os,hfr.tape,hfr.output,hfr.size,λq hq hm=>hfr.block q hq (λh2=>hm (hk2in q h2))⟩
            (λq hq hm=>by
             have:q∉fp':=λh2=>by rcases(hfp q h2).2 with h3|h3;exact hm (hk2in q h3);omega
             simp[this])
            (λc' hle hcw hchw=>by
             have hkeep:∀q,(q=b∨q∈f1∨q∈k1∨q∈k3∨q∈f3)→c'.w.heap[q]?=w.heap[q]?∧c'.hw q=g.hw q:=by intro q hq;have h2:=hrest q hq;rw[hcw,hchw];exact⟨hfr.block q (hb2 q h2.1).1 h2.2,by simp[hdis q h2.1 h2.2]⟩
             have hnew:ba c' [v'] [.sl (.own none) e3 zs'] fp':=by refine⟨fp',[],by simp,⟨?_,by simp⟩,rfl⟩;have h0:dg hw' w' (.sl e3) [v'] zs' fp':=hbk2.1;refine dg.mono h0 (λq hq=>?_);rw[hcw,hchw];exact⟨rfl,by simp[hq]⟩
             have hsp:=Br (c':=c') (vs:=(arr.toList.drop (o0+n2*e.size)).take e.size) (us:=[v']) (cs:=cellsOf e (.own none) x) (off:=off) (n:=1) hv'.symm rfl (r1.mono hle (λq hq=>hkeep q (by simp[hq]))) hnew (r3.mono hle (λq hq=>hkeep q (by simp[hq])));obtain⟨q1,q2,hq,hq1,hq2⟩:=gS hsp hof;have hln:((arr.toList.drop (o0+n2*e.size)).take e.size).length=e.size:=dg.length hownx;rw[bT (by omega)]at hq2;have hq2':q2=[]:=hq2;subst hq2';rw[bp (by omega)]at hq1;rw[bc]at hq;subst hq;have hO':=hset c'.w c'.hw x' _ (λq hq=>hkeep q (by simp only[bE,ar]at hq;rcases hq with hq|hq|hq<;>simp[hq])) hq1;refine⟨_,[],by simp,⟨hO',λq hq=>?_⟩,rfl⟩;cases hq;have h1:=hrelu.2 t' rfl;exact⟨(hle.hdr t' h1.1).1,by rw[(hle.hdr t' h1.1).2];exact h1.2⟩)
           rw[hin']at hk;exact hnext _ _ _ ⟨g',hg'.quiet o'.dst (BN hrel hfl)⟩ hk
         cases hk
        cases hk
      cases hk
   cases hk
  cases hk
 cases hk
theorem aiD {Γ:bH}(hΓ:∀f,aA P f (Γ f)){o':Oper}{f:Operand}{args:Array Operand}{ts:Array TypeId}(ho:o'.op=.call {callee:=.value f,args,argTypes:=ts}){g:Gh}(hg:cH C g st a w []){k:Nat}(hf:st.rd f=.val false [.fn k])(hio:(Γ k).io=true){K:AS→Option R}(hk:ioC Γ o' k args.toList st K=some r)(next:Act→World→Prop)(Q:Exit→Act→World→Prop)(hnext:∀st' a' w',ka C st' a' w'→K st'=some r→next a' w'):o'.wp P a w next Q:=by
 have hfv:=hg.rd f;rw[hf]at hfv;have hfv:=(cZ hfv).1;unfold ioC at hk;split at hk
 ·rename_i x0 xs hargs;split at hk
  ·rename_i gg cs hx0;split at hk
   ·rename_i rt j hfirst;split at hk
    ·rename_i csO hown;split at hk
     ·rename_i cs' hseg;cases hflat:(xs.all λx=>(st.rd x).eA)with
      |false=>rw[hflat]at hk;cases hk
      |true=>
       rw[hflat]at hk;simp only[ai]at hk;cases hres:(Γ k).fn (.val gg cs'::xs.map st.rd)with
       |none=>rw[hres]at hk;cases hk
       |some y=>
        rw[hres]at hk;simp only[aa]at hk;split at hk
        ·rename_i seg hback;cases hfl:((Γ k).av y).eA with
         |false=>rw[hfl]at hk;cases hk
         |true=>
          rw[hfl]at hk;simp only[ai]at hk;obtain⟨⟨fn,c,hfn,hbody,hname⟩,_,hcalls,_⟩:=hΓ k _ y hres;have hcalls:=hcalls hio gg cs' (xs.map st.rd) rfl;have hrd:=hg.rd x0;rw[hx0]at hrd;obtain⟨vs0,hcut,hrel0⟩:=hrd;have hmid:=AG _ _ hseg;obtain⟨us,f2,hus,hn2,hb2,hfin⟩:=hg.U1 rt hown (rt.pos-j) cs.length hmid;have harg:=GS (A:=λ_ _=>False) _ _ hseg hrel0 hus;have hcall:=hcalls (λ_ _=>False) w (a.eval x0) (xs.map a.eval) g.hw f2 (λ_ _ hf=>hf.elim) ⟨vs0,hcut,harg⟩ hn2 (λb hb=>(hb2 b hb).1) (zO hg xs hflat);have hargs':(a.eval x0::xs.map a.eval).toArray=args.map a.eval:=by apply dn;simp[hargs]
          rw[hargs']at hcall;have hrun:(execOp a.eval o').run P w=.ok (.enter k (args.map a.eval)) w:=by simp[execOp,ho,resolve,hfv,Deferred.ofValue,invoke,callFunc,hfn,hbody];simpa using hname
          unfold Oper.wp;rw[hrun,Oper.upon_enter];refine hcall.mono ?_;rintro e w' ⟨v,hw',fr,fp',rfl,hrel,⟨vs1,hcut1,hbk⟩,hnd,hfp,hfr⟩;show next (a.put o'.dst v) w'
          have hvs:vs1=vs0:=by cases gg with|true=>simp only[Cut,bk]at hcut hcut1;have:=hcut.symm.trans hcut1;simp at this;exact this.symm|false=>simp only[Cut]at hcut hcut1;simp at hcut hcut1;rw[hcut,hcut1]
          subst hvs;let hwn:Nat→Nat:=λb=>if b∈fp' then hw' b else g.hw b
          obtain⟨g',hg'⟩:=hfin w' (λb=>if b∈fp' then hw' b else g.hw b) seg fp' hnd hfp hfr (λb hb hm=>by
           have:b∉fp':=λhm'=>by rcases(hfp b hm').2 with h2|h2;exact hm h2;omega
           simp[this]) (λc' hle hcw hchw=>by
           refine NO (A:=λ_ _=>False) (hw':=hw') hle _ _ _ hback hrel0 hus (by rw[hcw];exact hbk) (λb hb=>by rw[hchw];simp[hb]))
          refine hnext _ _ _ ⟨g',hg'.quiet o'.dst (BN hrel hfl)⟩ hk
        cases hk
     cases hk
    cases hk
   ·exact YH hΓ ho hg hf hio hargs hx0 hk next Q hnext
  cases hk
 cases hk
theorem Gm:∀{cs:List AC},cs.all AC.Bf=true→∀{c:RC}{A:Nat→Nat→Prop}{hw:Nat→Nat}{w:World}{vs:List Value}{fp:List Nat},ba c vs cs fp→c.w=w→c.hw=hw→ba (dN A hw w) vs (cs.map AC.strip) fp
 |[],_,c,A,hw,w,vs,fp,h,_,_=>by cases vs with|nil=>exact h|cons _ _=>exact h.elim
 |x::cs,hok,c,A,hw,w,vs,fp,h,hcw,hchw=>by
  cases vs with
  |nil=>exact h.elim
  |cons v vs=>
   obtain⟨f1,f2,rfl,h1,h2⟩:=h;simp only[bD,aj]at hok;refine⟨f1,f2,rfl,?_,Gm hok.2 h2 hcw hchw⟩;cases x with
   |sl fl e xs=>cases fl with|own t=>exact⟨by have:=h1.1;rw[hcw,hchw]at this;exact this,by simp⟩|arg=>cases hok.1|loc _ _=>cases hok.1|nest _ _ _ _ _ _=>cases hok.1|part _ _ _ _=>cases hok.1|holed _ _ _=>cases hok.1
   |int k n=>exact h1
   |bool b=>exact h1
   |str s=>exact h1
   |fn f=>exact h1
   |nilsl=>cases hok.1
   |ptr s off=>cases hok.1
   |elt fl e y i off=>cases hok.1
   |un=>cases hok.1
   |bot=>cases hok.1
theorem cH.X3 {g:Gh}(h:cH C g st a w [])(s:Nat){cs:List AC}(hbx:st.boxes[s]?=some (some cs)): ∃arr T fr fp,w.heap[g.β s]?=some (.cells arr T fr)∧ph arr fr∧ba (bS C g st w) arr.toList cs fp∧fp.Nodup∧g.β s∉fp∧(∀b∈fp,b<w.heap.size)∧g.hw (g.β s)=0∧ ∀(w':World)(hw':Nat→Nat)(arr':Array Value)(T':TypeId)(fr':Nat×Nat)(cs':List AC)(fp':List Nat),Fr (λb=>b=g.β s∨b∈fp) w w'→w'.heap[g.β s]?=some (.cells arr' T' fr')→ph arr' fr'→ ba (dN (λ_ _=>False) hw' w') arr'.toList cs' fp'→fp'.Nodup→g.β s∉fp'→(∀b∈fp',b<w'.heap.size∧(b∈fp∨w.heap.size≤b))→ ∃g',cH C g' {(st.dG s (some (vu (st.ep+1) (st.hH (some s)) 0 cs'))).ej (some s)with ep:=st.ep+1} a w' []:=by
 obtain⟨arr,T,fr,fp,hblk,hth,hr,hn,hnb,hl,hl0,hw0⟩:=h.boxes s cs hbx;have hslt:s<st.boxes.length:=(List.getElem?_eq_some_iff.1 hbx).1;refine⟨arr,T,fr,fp,hblk,hth,hr,hn,hnb,λb hb=>(h.labs b _ (hl b hb)).1,hw0,?_⟩;intro w' hw' arr' T' fr' cs' fp' hfr hblk' hth' hrel' hn' hnb' hfp';let bx':List AC:=vu (st.ep+1) (st.hH (some s)) 0 cs';let st':AS:={(st.dG s (some bx')).ej (some s)with ep:=st.ep+1}
 let hw2:Nat→Nat:=λb=>if b∈fp' then hw' b else if b=g.β s then 0 else g.hw b
 let lab2:Nat→Option gb:=λb=>if b=g.β s∨b∈fp' then some (.box s) else g.lab b
 let g':Gh:=⟨hw2,g.β,lab2,uT g.hdr (st.hH (some s)) arr'.toList⟩
 have hboxes:st'.boxes=st.boxes.set s (some bx'):=by show((st.dG s (some bx')).ej (some s)).boxes=_;rw[vJ,kj]
 have hslots:st'.slots=st.slots:=by show((st.dG s (some bx')).ej (some s)).slots=_;rw[tj];rfl
 have hio:st'.io=st.io:=by show((st.dG s (some bx')).ej (some s)).io=_;rw[Gn];rfl
 have hiss:∀t,jk st t→jk st' t:=λt ht=>by have h1:jk (st.dG s (some bx')) t:=ht;exact Bg (d:=some s) h1
 have hpr:∀t,eH st t→eH st' t:=by rintro t ⟨c0,hc0⟩;by_cases hts:s=t;subst hts;exact⟨bx',by rw[hboxes];simp[hslt]⟩;exact⟨c0,by rw[hboxes,List.getElem?_set_ne hts];exact hc0⟩
 have hlab0:∀b,b=g.β s∨b∈fp→g.lab b=some (.box s):=by rintro b (rfl|hb);exact hl0;exact hl b hb
 have hcA:∀b o u,C.A b o→w.cell? ⟨b,o,none⟩=some u→w'.cell? ⟨b,o,none⟩=some u:=by intro b o u hA hu;have hb:b<w.heap.size:=World.block_lt_of_cell? w _ hu;rw[World.cell?_of_block (a:=⟨b,o,none⟩) (hfr.block b hb (λhm=>h.HA (hlab0 b hm) o hA))];exact hu
 have hle:(bS C g st w).Le (bS C g' st' w'):=⟨rfl,λt ht=>⟨hiss t ht,Bc ht⟩,hcA,Nat.le_succ _,λt ht=>⟨hpr t ht,rfl⟩,λhe=>absurd he (Nat.succ_ne_self _)⟩
 have hkeep:∀b x,x≠ .box s→g.lab b=some x→lab2 b=some x∧w'.heap[b]?=w.heap[b]?∧hw2 b=g.hw b:=by
  intro b x hx hb;have hnm:¬(b=g.β s∨b∈fp):=λhm=>hx (by have:=hlab0 b hm;rw[hb]at this;simpa using this);have hnm':b∉fp':=λhm=>by rcases(hfp' b hm).2 with h2|h2;exact hnm (.inr h2);have:=(h.labs b x hb).1;omega
  refine⟨?_,hfr.block b (h.labs b x hb).1 hnm,?_⟩;show(if b=g.β s∨b∈fp' then _ else _)=_;rw[ao (by rintro(h1|h1);exact hnm (.inl h1);exact hnm' h1)];exact hb;show(if b∈fp' then _ else if b=g.β s then _ else _)=_;rw[ao hnm',ao (λh1=>hnm (.inl h1))]
 refine⟨g',h.step (λx=>x≠ .box s) hle h.defers ?_ ?_ ?_ ?_ (λb x hk hb=>hkeep b x hk hb) ?_ ?_ (λk u bv hk=>by simp at hk) (.inl ⟨by simp,hio⟩)⟩;rw[hslots];exact h.size;rw[hslots,hboxes,aY];exact h.bsize;refine h.frame.trans hfr (λb hb hm=>?_);rcases(h.labs b _ (hlab0 b hm)).2 with h2|h2;omega;exact h2;intro b x hx;have hx':(if b=g.β s∨b∈fp' then some (gb.box s) else g.lab b)=some x:=hx;have hz:=hfr.size;split at hx';rename_i hm;rcases hm with rfl|hm;have:=h.labs _ _ hl0;exact⟨by omega,this.2⟩;refine⟨(hfp' b hm).1,?_⟩;rcases(hfp' b hm).2 with h2|h2;exact(h.labs b _ (hl b h2)).2;exact .inl (a7 h.frame.size h2);have:=h.labs b x hx';exact⟨by omega,this.2⟩;intro i av hi;rw[hslots]at hi;exact .inl ⟨by simp,hi,rfl⟩;intro t cs2 hb;rw[hboxes]at hb;by_cases hts:t=s;subst hts;rw[List.getElem?_set]at hb;simp only[bk,hslt]at hb;simp at hb;subst hb;refine .inr ⟨arr',T',fr',fp',hblk',hth',?_,hn',hnb',λb hb=>?_,?_,?_⟩
 have:=vH (c:=bS C g' st' w') (A':=λ_ _=>False) (hw:=hw') (mk:=st.hH (some t)) (λ_ _ hf=>hf.elim) 0 (vs:=arr'.toList) (xs:=cs') (fp:=fp') hrel'
  (λb hb=>by show(if b∈fp' then _ else _)=_;rw[ay hb])
  (λi u hu q hq=>by
   rw[bU]at hq;have hm:=pB hq;have hm2:jk st' q:=by have h1:st.hH (some t) i=some q:=hq;have h2:(st.dG t (some bx')).hH (some t) i=some q:=h1;exact(pB h2).2.1
   exact⟨hm2,Bb hu hq⟩)
 exact this;show(if b=g.β t∨b∈fp' then _ else _)=_;rw[ay (.inr hb)];show(if g.β t=g.β t∨g.β t∈fp' then _ else _)=_;rw[ay (.inl rfl)];show(if g.β t∈fp' then _ else if g.β t=g.β t then _ else _)=_;rw[ao hnb',ay rfl];rw[List.getElem?_set_ne (bR hts)]at hb;exact .inl ⟨by simpa using hts,hb,rfl⟩
theorem aaD {Γ:bH}(hΓ:∀f,aA P f (Γ f)){o':Oper}{f:Operand}{args:Array Operand}{ts:Array TypeId}(ho:o'.op=.call {callee:=.value f,args,argTypes:=ts}){g:Gh}(hg:cH C g st a w []){k:Nat}(hf:st.rd f=.val false [.fn k])(hbx:(Γ k).bx=true){K:AS→Option R}(hk:wM Γ o' k args.toList st K=some r)(next:Act→World→Prop)(Q:Exit→Act→World→Prop)(hnext:∀st' a' w',ka C st' a' w'→K st'=some r→next a' w'):o'.wp P a w next Q:=by
 have hfv:=hg.rd f;rw[hf]at hfv;have hfv:=(cZ hfv).1;unfold wM at hk;split at hk
 ·rename_i x0 xs hargs;split at hk
  ·rename_i s hx0;split at hk
   ·rename_i cs hb0;have hb:st.boxes[s]?=some (some cs):=by rw[cR]at hb0;cases hq:st.boxes[s]? with|none=>rw[hq]at hb0;simp at hb0|some q=>rw[hq]at hb0;simp at hb0;rw[hb0]
    cases hc:(cs.all AC.Bf&&xs.all (λx=>(st.rd x).eA))with
    |false=>rw[hc]at hk;cases hk
    |true=>
     rw[hc]at hk;simp only[ai]at hk;simp only[aj]at hc;cases hres:(Γ k).fn (.val true (cs.map AC.strip)::xs.map st.rd)with
     |none=>rw[hres]at hk;cases hk
     |some y=>
      rw[hres]at hk;simp only[aa]at hk;cases hc2:(((Γ k).back y).all AC.Bf&&((Γ k).av y).eA)with
      |false=>rw[hc2]at hk;cases hk
      |true=>
       rw[hc2]at hk;simp only[ai]at hk;simp only[aj]at hc2;obtain⟨⟨fn,c,hfn,hbody,hname⟩,_,_,hcalls⟩:=hΓ k _ y hres;have hcalls:=hcalls hbx _ _ rfl;have hrd:=hg.rd x0;rw[hx0]at hrd;have hpv:=xY hrd;obtain⟨arr,T,fr,fp,hblk,hth,hrel,hn,hnb,hlt,hw0,hfin⟩:=hg.X3 s hb;have hcall:=hcalls (λ_ _=>False) w (g.β s) (xs.map a.eval) arr T fr g.hw fp (λ_ _ hf=>hf.elim) hblk hth (Gm hc.1 hrel rfl rfl) hn hnb hlt hw0 (zO hg xs hc.2);have hpv':a.eval x0=.pointer (some ⟨g.β s,0,none⟩):=hpv;have hargs':(Value.pointer (some ⟨g.β s,0,none⟩)::xs.map a.eval).toArray=args.map a.eval:=by apply dn;simp[hargs,hpv']
       rw[hargs']at hcall;have hrun:(execOp a.eval o').run P w=.ok (.enter k (args.map a.eval)) w:=by simp[execOp,ho,resolve,hfv,Deferred.ofValue,invoke,callFunc,hfn,hbody];simpa using hname
       unfold Oper.wp;rw[hrun,Oper.upon_enter];refine hcall.mono ?_;rintro e w' ⟨v,hw',fv,arr',T',fr',fp',rfl,hrv,hblk',hth',hrel',hn',hnb',hfp',hfr⟩;show next (a.put o'.dst v) w'
       obtain⟨g',hg'⟩:=hfin w' hw' arr' T' fr' ((Γ k).back y) fp' hfr hblk' hth' hrel' hn' hnb' hfp';exact hnext _ _ _ ⟨g',hg'.quiet o'.dst (BN hrv hc2.2)⟩ hk
   cases hk
  cases hk
 cases hk
theorem X4 {Γ:bH}(hΓ:∀f,aA P f (Γ f)){o':Oper}{f:Operand}{args:Array Operand}{ts:Array TypeId}(ho:o'.op=.call {callee:=.value f,args,argTypes:=ts})(h:ka C st a w){K:AS→Option R}(hk:yN Γ o' f args.toList st K=some r)(next:Act→World→Prop)(Q:Exit→Act→World→Prop)(hnext:∀st' a' w',ka C st' a' w'→K st'=some r→next a' w'):o'.wp P a w next Q:=by
 obtain⟨g,hg⟩:=h;unfold yN at hk;split at hk
 ·rename_i k hf
  have hfv:=hg.rd f
  rw[hf]at hfv
  have hfv:=(cZ hfv).1
  cases hbx:(Γ k).bx with
  |true=>rw[hbx]at hk;exact aaD hΓ ho hg hf hbx hk next Q hnext
  |false=>
  rw[hbx]at hk
  simp only[af]at hk
  cases hio:(Γ k).io with
  |true=>rw[hio]at hk;exact aiD hΓ ho hg hf hio hk next Q hnext
  |false=>
  rw[hio]at hk
  simp only[af]at hk
  cases hres:(Γ k).fn (args.toList.map λx=>((st.rd x).fresh st).asArg st.ep)with
  |none=>rw[hres]at hk;cases hk
  |some y0=>
   rw[hres]at hk
   simp only[aa]at hk
   obtain⟨⟨fn,c,hfn,hbody,hname⟩,hcalls,_⟩:=hΓ k _ y0 hres
   have hcalls:=hcalls hio hbx
   have hk:K ((st.ej o'.dst).put o'.dst (((Γ k).res y0).EB st.ep (st.hH o'.dst)))=some r:=by unfold aD.res;cases hsel:(Γ k).sel y0 with|true=>rw[hsel]at hk;exact hk|false=>rw[hsel]at hk;exact hk
   generalize hy0:(Γ k).res y0=y at hk hcalls
   have hcall:=hcalls (λb o=>(bS C g st w).S b o∧b<w.heap.size) w (args.toList.map a.eval) (λ_ _ h=>h.2) (LD hg args.toList)
   have hargs:(args.toList.map a.eval).toArray=args.map a.eval:=by apply dn;simp
   rw[hargs]at hcall
   have hrun:(execOp a.eval o').run P w=.ok (.enter k (args.map a.eval)) w:=by simp[execOp,ho,resolve,hfv,Deferred.ofValue,invoke,callFunc,hfn,hbody];simpa using hname
   unfold Oper.wp
   rw[hrun,Oper.upon_enter]
   refine hcall.mono ?_
   rintro e w' ⟨v,hw,fp,rfl,hrel,hnd,hfp,hfr⟩
   show next (a.put o'.dst v) w'
   let hw':Nat→Nat:=λb=>if b∈fp then hw b else g.hw b
   have hnin:∀b,b<w.heap.size→b∉fp:=λb hb hm=>by have:=(hfp b hm).1;omega
   have hA':∀(hd:Nat→Value)(b o:Nat),((bS C g st w).S b o∧b<w.heap.size)→(bS C {g with hw:=hw',hdr:=hd} (st.ej o'.dst) w').S b o:=by rintro hd b o ⟨hs,hb⟩;rcases hs with hs|hs;exact .inl hs;exact .inr (by simp only[bS,hw',ao (hnin b hb)];exact hs)
   have hrel':∃hd,(∀t,jk st t→hd t=g.hdr t)∧ek (bS C {g with hw:=hw',hdr:=hd} (st.ej o'.dst) w') v (y.EB st.ep (st.hH o'.dst)) fp:=by
    have hfpw:∀b∈fp,hw' b=hw b:=λb hb=>by simp[hw',hb]
    cases y with
    |val gg cs=>obtain⟨vs,hcut,hr⟩:=hrel;refine⟨uT g.hdr (st.hH o'.dst) vs,λt ht=>Bc ht,vs,hcut,?_⟩;have:=vH (c:=bS C {g with hw:=hw',hdr:=uT g.hdr (st.hH o'.dst) vs} (st.ej o'.dst) w') (mk:=st.hH o'.dst) (hA' _) 0 hr hfpw (λi u hu t ht=>by rw[bU]at ht;exact⟨(pB ht).2.1,Bb hu ht⟩);have hep:(bS C {g with hw:=hw',hdr:=uT g.hdr (st.hH o'.dst) vs} (st.ej o'.dst) w').ep=st.ep:=BI;rw[hep]at this;exact this
    |tup ts=>obtain⟨ws,hv,hr⟩:=hrel;obtain⟨all,hall⟩:=Ix hr;refine⟨uT g.hdr (st.hH o'.dst) all,λt ht=>Bc ht,ws,hv,?_⟩;have:=PC (c:=bS C {g with hw:=hw',hdr:=uT g.hdr (st.hH o'.dst) all} (st.ej o'.dst) w') (mk:=st.hH o'.dst) (hA' _) hall 0 hfpw (λi u hu t ht=>by rw[bU]at ht;exact⟨(pB ht).2.1,Bb hu ht⟩);have hep:(bS C {g with hw:=hw',hdr:=uT g.hdr (st.hH o'.dst) all} (st.ej o'.dst) w').ep=st.ep:=BI;rw[hep]at this;exact this
   obtain⟨hd,hhd,hrel'⟩:=hrel'
   obtain⟨g',hg'⟩:=hg.KX o'.dst (hw':=hw') (hdr':=hd) (fp:=fp) (st1:=st.ej o'.dst) Gn tj vJ BI (λt ht=>⟨Bg ht,hhd t ht⟩)
    ⟨hfr.os,hfr.tape,hfr.output,hfr.size,λb hb _=>hfr.block b hb (λm=>m)⟩ (λb x hx _=>by simp[hw',hnin b (hg.labs b x hx).1])
    (λb o u ho hu=>by have hb:b<w.heap.size:=World.block_lt_of_cell? w _ hu;exact⟨by simp[hw',hnin b hb];exact ho,wO hfr hu⟩) hrel' hnd (λb hb=>⟨(hfp b hb).2,.inr (hfp b hb).1⟩)
   exact hnext _ _ _ ⟨g',hg'⟩ hk
 cases hk
end Go.Dn
