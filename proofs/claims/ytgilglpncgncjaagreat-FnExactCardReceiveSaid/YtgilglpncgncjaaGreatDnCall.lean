import Derived.Test.YtgilglpncgncjaaGreatDnOps8
/- A call by value: what a callee promises, and what the caller makes of it. -/
namespace Go.Dn
open Go.RowKit
variable {P:Program} {C:Ctx} {st:AS} {a:Act} {w:World} {R:Type} {r:R}
def bS (A:Nat→Nat→Prop)(hw:Nat→Nat)(w:World):RC:=⟨hw,fun _=>0,A,fun _=>undef,fun _=>False,0,fun _=>False,w⟩
def kH (A:Nat→Nat→Prop)(w:World):List Value→List AV→Prop
 |[],[]=>True
 |v::vs,x::xs=>cq (bS A (fun _=>0) w) v x []∧kH A w vs xs
 |_,_=>False
def alp (P:Program)(f:Nat)(F:al)(y:F.R)(g:Bool)(cs:List AC)(rest:List AV):Prop:=
 ∀(A:Nat→Nat→Prop)(w:World)(v0:Value)(vs:List Value)(hw:Nat→Nat)(fp:List Nat),(∀b o,A b o→b<w.heap.size∧b∉fp)→cq (bS A hw w) v0 (.val g cs) fp→fp.Nodup→(∀b∈fp,b<w.heap.size)→kH A w vs rest→
  Calls P f (v0::vs).toArray w fun e w'=>∃v hw' fr fp',e= .returned v∧cq (bS A hw' w') v (F.av y) fr∧cq (bS A hw' w') v0 (.val g (F.back y)) fp'∧fp'.Nodup∧
   (∀b∈fp',b<w'.heap.size∧(b∈fp∨w.heap.size≤b))∧Fr (fun b=>b∈fp) w w'
def aff (P:Program)(f:Nat)(F:al)(y:F.R)(cs:List AC)(rest:List AV):Prop:=
 ∀(A:Nat→Nat→Prop)(w:World)(b:Nat)(vs:List Value)(arr:Array Value)(T:TypeId)(fr:Nat×Nat)(hw:Nat→Nat)(fp:List Nat),(∀b' o,A b' o→b'<w.heap.size∧b'≠b∧b'∉fp)→
  w.heap[b]?=some (.cells arr T fr)→ni arr fr→aA (bS A hw w) arr.toList cs fp→fp.Nodup→b∉fp→(∀b'∈fp,b'<w.heap.size)→hw b=0→kH A w vs rest→
  Calls P f (.pointer (some ⟨b,0,none⟩)::vs).toArray w fun e w'=>∃v hw' fv arr' T' fr' fp',e= .returned v∧cq (bS A hw' w') v (F.av y) fv∧w'.heap[b]?=some (.cells arr' T' fr')∧ni arr' fr'∧
   aA (bS A hw' w') arr'.toList (F.back y) fp'∧fp'.Nodup∧b∉fp'∧(∀b'∈fp',b'<w'.heap.size∧(b'∈fp∨w.heap.size≤b'))∧Fr (fun b'=>b'=b∨b'∈fp) w w'
def ai (P:Program)(f:Nat)(F:al):Prop:=
 ∀(xs:List AV)(y:F.R),F.fn xs=some y→
  (∃fn c,P.funcs[f]?=some fn∧fn.body=some c∧(fn.name== "runtime.NumGoroutine")=false)∧
  (F.io=false→F.bx=false→∀(A:Nat→Nat→Prop)(w:World)(vs:List Value),(∀b o,A b o→b<w.heap.size)→kH A w vs xs→
    Calls P f vs.toArray w fun e w'=>∃v hw fp,e= .returned v∧cq (bS A hw w') v (F.res y) fp∧fp.Nodup∧(∀b∈fp,w.heap.size≤b∧b<w'.heap.size)∧Fr (fun _=>False) w w')∧
  (F.io=true→∀g cs rest,xs= .val g cs::rest→alp P f F y g cs rest)∧
  (F.bx=true→∀cs rest,xs= .val true cs::rest→aff P f F y cs rest)
theorem nm {c c':RC}{v:Value}{x:AC}{fp:List Nat}(h:cG c v x fp)(hf:x.cv=true):fp=[]∧cG c' v x []:=by
 cases x with
 |int k n=>exact ⟨h.2,h.1,rfl⟩
 |bool b=>exact ⟨h.2,h.1,rfl⟩
 |str s=>exact ⟨h.2,h.1,rfl⟩
 |fn f=>exact ⟨h.2,h.1,rfl⟩
 |_=>cases hf
theorem yR {c c':RC}:∀{vs:List Value}{xs:List AC}{fp:List Nat},aA c vs xs fp→xs.all AC.cv=true→fp=[]∧aA c' vs xs []
 |[],[],_,h,_=>⟨h,rfl⟩
 |_::_,_::_,_,h,hf=>by
  obtain ⟨f1,f2,rfl,h1,h2⟩:=h
  simp only [List.all_cons,Bool.and_eq_true] at hf
  obtain ⟨rfl,k1⟩:=nm (c':=c') h1 hf.1
  obtain ⟨rfl,k2⟩:=yR (c':=c') h2 hf.2
  exact ⟨rfl,[],[],rfl,k1,k2⟩
 |[],_::_,_,h,_=>h.elim
 |_::_,[],_,h,_=>h.elim
theorem KU {c c':RC}:∀{ws:List Value}{ts:List (Bool×List AC)}{fp:List Nat},cq.jK c ws ts fp→(ts.all fun x=>x.2.all AC.cv)=true→cq.jK c' ws ts []
 |[],[],_,_,_=>rfl
 |_::_,_::_,_,h,hf=>by
  obtain ⟨f1,f2,rfl,⟨vs,hv,h1⟩,h2⟩:=h
  simp only [List.all_cons,Bool.and_eq_true] at hf
  exact ⟨[],[],rfl,⟨vs,hv,(yR h1 hf.1).2⟩,KU h2 hf.2⟩
 |[],_::_,_,h,_=>h.elim
 |_::_,[],_,h,_=>h.elim
theorem zL {c c':RC}{v:Value}{x:AV}{fp:List Nat}(h:cq c v x fp)(hf:x.cv=true):cq c' v x []:=by
 cases x with
 |val g cs=>obtain ⟨vs,hv,h⟩:=h;exact ⟨vs,hv,(yR h hf).2⟩
 |tup ts=>obtain ⟨ws,hv,h⟩:=h;exact ⟨ws,hv,KU h hf⟩
theorem E8 {c:RC}{A:Nat→Nat→Prop}:∀(os ss:List AC){r:List AC}{vs us:List Value}{f:List Nat},fX os ss=some r→aA c vs os []→aA c us ss f→aA (bS A c.hw c.w) vs r f:=by
 intro os
 induction os with
 |nil=>
  intro ss r vs us f h hv hu
  cases ss with
  |cons _ _=>simp [fX] at h
  |nil=>
   simp [fX] at h;subst h
   cases vs with
   |cons _ _=>exact hv.elim
   |nil=>cases us with
    |cons _ _=>exact hu.elim
    |nil=>exact hu
 |cons o os ih=>
  intro ss r vs us f h hv hu
  cases vs with
  |nil=>exact hv.elim
  |cons v vs=>
   cases ss with
   |nil=>unfold fX at h;split at h<;>first|contradiction|cases h
   |cons s ss=>
    cases us with
    |nil=>exact hu.elim
    |cons u us=>
     obtain ⟨g1,g2,hg,hv1,hv2⟩:=hv
     have e1:g1=[]:=by have:=hg.symm;simp at this;exact this.1
     have e2:g2=[]:=by have:=hg.symm;simp at this;exact this.2
     subst e1;subst e2
     obtain ⟨f1,f2,rfl,hu1,hu2⟩:=hu
     have fl:∀{x:AC}{r'},x.cv=true→s.cv=true→o=x→fX os ss=some r'→r=x::r'→aA (bS A c.hw c.w) (v::vs) r (f1++f2):=by
      rintro x r' hx hs rfl hr rfl
      obtain ⟨rfl,_⟩:=nm (c':=c) hu1 hs
      exact ⟨[],f2,rfl,(nm hv1 hx).2,ih ss hr hv2 hu2⟩
     unfold fX at h
     split at h
     ·contradiction
     ·rename_i ep rt t e0 xs0 os' t' e xs ss' h1 h2
      injection h1 with h1 h1';subst h1;subst h1'
      injection h2 with h2 h2';subst h2;subst h2'
      cases ht:(t'==t) with
      |false=>rw [ht] at h;cases h
      |true=>
       have:t'=t:=by simpa using ht
       subst this
       rw [ht] at h
       simp only [cond_true] at h
       obtain ⟨r',hr,h⟩:=Option.bind_eq_some_iff.1 h
       cases h
       have hv':=(hv1.2.2.2.2 rt t' rfl).2
       have hu':=(hu1.2 t' rfl).2
       have huv:u=v:=hu'.trans hv'.symm
       subst huv
       exact ⟨f1,f2,rfl,⟨hu1.1,by simp⟩,ih _ hr hv2 hu2⟩
     ·rename_i k n os' k' n' ss' h1 h2
      injection h1 with h1 h1';subst h1'
      injection h2 with h2 h2';subst h2;subst h2'
      obtain ⟨r',hr,h⟩:=Option.bind_eq_some_iff.1 h
      cases h
      exact fl (x:= .int k n) rfl rfl h1 hr rfl
     ·rename_i k os' k' ss' h1 h2
      injection h1 with h1 h1';subst h1'
      injection h2 with h2 h2';subst h2;subst h2'
      obtain ⟨r',hr,h⟩:=Option.bind_eq_some_iff.1 h
      cases h
      exact fl (x:= .bool k) rfl rfl h1 hr rfl
     ·rename_i k os' k' ss' h1 h2
      injection h1 with h1 h1';subst h1'
      injection h2 with h2 h2';subst h2;subst h2'
      obtain ⟨r',hr,h⟩:=Option.bind_eq_some_iff.1 h
      cases h
      exact fl (x:= .str k) rfl rfl h1 hr rfl
     ·cases h
theorem Mg {c c':RC}{A:Nat→Nat→Prop}{hw':Nat→Nat}(hle:c.Le c'):∀(os ss bs:List AC){seg:List AC}{vs us:List Value}{f f':List Nat},uj os ss bs=some seg→aA c vs os []→aA c us ss f→
 aA (bS A hw' c'.w) vs bs f'→(∀b∈f',c'.hw b=hw' b)→aA c' us seg f':=by
 intro os
 induction os with
 |nil=>
  intro ss bs seg vs us f f' h hv hu hb _
  unfold uj at h
  split at h
  ·cases h
   cases us with
   |cons _ _=>exact hu.elim
   |nil=>cases vs with
    |cons _ _=>exact hv.elim
    |nil=>exact hb
  all_goals first|contradiction|cases h
 |cons o os ih=>
  intro ss bs seg vs us f f' h hv hu hb hh
  unfold uj at h
  split at h
  ·contradiction
  ·rename_i ep rt t' e0 xs0 os' t e1 xs1 ss' tg e ys bs' h1
   injection h1 with h1 h1';subst h1;subst h1'
   cases ht:(t==t') with
   |false=>rw [ht] at h;cases h
   |true=>
    have:t=t':=by simpa using ht
    subst this
    rw [ht] at h
    simp only [cond_true] at h
    obtain ⟨r',hr,h⟩:=Option.bind_eq_some_iff.1 h
    cases h
    cases vs with
    |nil=>exact hv.elim
    |cons v vs=>
     cases us with
     |nil=>exact hu.elim
     |cons u us=>
      obtain ⟨g1,g2,hg,hv1,hv2⟩:=hv
      have e1:g1=[]:=by have:=hg.symm;simp at this;exact this.1
      have e2:g2=[]:=by have:=hg.symm;simp at this;exact this.2
      subst e1;subst e2
      obtain ⟨f1,f2,rfl,hu1,hu2⟩:=hu
      obtain ⟨f1',f2',rfl,hb1,hb2⟩:=hb
      have hv':=(hv1.2.2.2.2 rt t rfl).2
      have hu':=hu1.2 t rfl
      have huv:u=v:=hu'.2.trans hv'.symm
      refine ⟨f1',f2',rfl,⟨?_,fun q hq=> ?_⟩,ih _ _ hr hv2 hu2 hb2 (fun b hb=>hh b (List.mem_append_right _ hb))⟩
      ·rw [huv]
       exact bD.mono hb1.1 (fun b hb=>⟨rfl,hh b (List.mem_append_left _ hb)⟩)
      ·cases hq
       exact ⟨(hle.hdr t hu'.1).1,by rw [(hle.hdr t hu'.1).2];exact hu'.2⟩
  all_goals first
   |cases h
   |(rename_i h1
     injection h1 with h1 h1';subst h1'
     obtain ⟨r',hr,h⟩:=Option.bind_eq_some_iff.1 h
     cases h
     cases vs with
     |nil=>exact hv.elim
     |cons v vs=>
      cases us with
      |nil=>exact hu.elim
      |cons u us=>
       obtain ⟨g1,g2,hg,hv1,hv2⟩:=hv
       have e1:g1=[]:=by have:=hg.symm;simp at this;exact this.1
       have e2:g2=[]:=by have:=hg.symm;simp at this;exact this.2
       subst e1;subst e2
       obtain ⟨f1,f2,rfl,hu1,hu2⟩:=hu
       obtain ⟨f1',f2',rfl,hb1,hb2⟩:=hb
       have k1:=(nm (c':=c) hb1 rfl).1
       subst k1
       exact ⟨[],f2',rfl,(nm hu1 rfl).2,ih _ _ hr hv2 hu2 hb2 (fun b hb=>hh b (List.mem_append_right _ hb))⟩)
theorem M9 {c:RC}{v:Value}{x:AC}{fp:List Nat}(h:cG c v x fp):cG (bS (fun b o=>c.S b o∧b<c.w.heap.size) (fun _=>0) c.w) v (x.asArg c.ep) []:=by
 have hS:∀{e:CT}{xs:List e.D},dF c.w c.S (.sl e) [v] xs→dF c.w (fun b o=>c.S b o∧b<c.w.heap.size) (.sl e) [v] xs:=fun hr=>
  dF.mono (fun b o u hs hu=>⟨⟨hs,World.block_lt_of_cell? c.w _ hu⟩,hu⟩) hr
 cases x with
 |int k n=>exact ⟨h.1,rfl⟩
 |bool b=>exact ⟨h.1,rfl⟩
 |str s=>exact ⟨h.1,rfl⟩
 |nilsl=>exact ⟨h.1,rfl⟩
 |fn f=>exact ⟨h.1,rfl⟩
 |ptr s off=>exact rfl
 |un=>exact rfl
 |bot=>exact rfl
 |elt fl e y i off=>exact rfl
 |sl fl e xs=>
  cases fl with
  |nest _ _ _ _ _ _=>exact rfl
  |part _ _ _ _=>exact rfl
  |holed _ _ _=>exact rfl
  |own t=>exact ⟨rfl,hS (bD.rep (fun b o ho=> .inr ho) h.1)⟩
  |arg=>exact ⟨rfl,hS (dF.mono (fun b o u hs hu=>⟨.inl hs,hu⟩) h.2)⟩
  |loc ep pv=>
   simp only [AC.asArg]
   split
   ·rename_i he
    exact ⟨rfl,hS (h.2.2.2.1 (by simpa using he))⟩
   ·exact rfl
theorem BR {c:RC}:∀{vs:List Value}{xs:List AC}{fp:List Nat},aA c vs xs fp→aA (bS (fun b o=>c.S b o∧b<c.w.heap.size) (fun _=>0) c.w) vs (xs.map (AC.asArg c.ep)) []
 |[],[],_,_=>rfl
 |_::_,_::_,_,h=>by
  obtain ⟨f1,f2,rfl,h1,h2⟩:=h
  exact ⟨[],[],rfl,M9 h1,BR h2⟩
 |[],_::_,_,h=>h.elim
 |_::_,[],_,h=>h.elim
theorem Qw {c:RC}{v:Value}{x:AV}{fp:List Nat}(h:cq c v x fp):cq (bS (fun b o=>c.S b o∧b<c.w.heap.size) (fun _=>0) c.w) v (x.asArg c.ep) []:=by
 cases x with
 |val g cs=>obtain ⟨vs,hv,h⟩:=h;exact ⟨vs,hv,BR h⟩
 |tup ts=>exact cq.bot _ _
theorem J7 {g:Gh}(h:bh C g st a w []):∀(args:List Operand),
 kH (fun b o=>(aP C g st w).S b o∧b<w.heap.size) w (args.map a.eval) (args.map fun x=>((st.rd x).fresh st).asArg st.ep)
 |[]=>trivial
 |x::xs=>⟨Qw (c:=aP C g st w) (h.fresh (h.rd x)),J7 h xs⟩
theorem Na {c:RC}{A':Nat→Nat→Prop}{hw:Nat→Nat}{v:Value}{x:AC}{fp:List Nat}{tag:Option Nat}(h:cG (bS A' hw c.w) v x fp)(hA:∀b o,A' b o→c.S b o)(hhw:∀b∈fp,c.hw b=hw b)
 (ht:∀t,tag=some t→c.iss t∧v=c.hdr t):cG c v (x.CW c.ep tag) fp:=by
 cases x with
 |int k n=>exact h
 |bool b=>exact h
 |str s=>exact h
 |nilsl=>exact h
 |fn f=>exact h
 |ptr s off=>exact h.2.2
 |un=>exact h
 |bot=>exact h
 |elt fl e y i off=>
  cases fl with
  |own t=>exact h.elim
  |nest _ _ _ _ _ _=>exact h.elim
  |part _ _ _ _=>exact h.elim
  |holed _ _ _=>exact h.elim
  |arg=>exact h.1
  |loc ep pv=>exact h.1
 |sl fl e xs=>
  cases fl with
  |nest _ _ _ _ _ _=>exact h.1
  |part _ _ _ _=>exact h.1
  |holed _ _ _=>
   obtain ⟨_,⟨k,hk,h3⟩,_⟩:=h
   exact ⟨fun q hq=>(by cases hq),⟨k,hk,h3.mono (fun b hb=>⟨rfl,hhw b hb⟩)⟩,by simp⟩
  |own t=>exact ⟨bD.mono h.1 (fun b hb=>⟨rfl,hhw b hb⟩),ht⟩
  |loc ep pv=>exact h.1
  |arg=>
   have hr:dF c.w c.S (.sl e) [v] xs:=dF.mono (fun b o u hs hu=>⟨hA b o hs,hu⟩) h.2
   refine ⟨h.1,Nat.le_refl _, ?_,fun _=>hr,by simp⟩
   obtain ⟨u,hu,k⟩:=hr
   simp at hu;subst hu
   rcases k with ⟨⟨ad,rfl⟩,rfl⟩|⟨b,o,cap,rfl,_⟩
   ·exact ⟨_,_,_,rfl,rfl⟩
   ·exact ⟨_,_,_,rfl,rfl⟩
theorem tL {c:RC}{A':Nat→Nat→Prop}{hw:Nat→Nat}{mk:Nat→Option Nat}(hA:∀b o,A' b o→c.S b o):∀{vs:List Value}{xs:List AC}{fp:List Nat}(j:Nat),aA (bS A' hw c.w) vs xs fp→(∀b∈fp,c.hw b=hw b)→
 (∀i v,vs[i]?=some v→∀t,mk (j+i)=some t→c.iss t∧v=c.hdr t)→aA c vs (tA c.ep mk j xs) fp
 |[],[],_,_,h,_,_=>h
 |v::_,_::_,_,j,h,hh,hm=>by
  obtain ⟨f1,f2,rfl,h1,h2⟩:=h
  exact ⟨f1,f2,rfl,Na h1 hA (fun b hb=>hh b (List.mem_append_left _ hb)) (fun t ht=>hm 0 v rfl t ht),
   tL hA (j+1) h2 (fun b hb=>hh b (List.mem_append_right _ hb)) (fun i u hu t ht=>hm (i+1) u (by simpa using hu) t (by rwa [show j+(i+1)=j+1+i by omega]))⟩
 |[],_::_,_,_,h,_,_=>h.elim
 |_::_,[],_,_,h,_,_=>h.elim
inductive Leaves (A:Nat→Nat→Prop) (hw:Nat→Nat) (w:World):List Value→List (Bool×List AC)→List Nat→List Value→Prop
 |nil:Leaves A hw w [] [] [] []
 |cons {v:Value} {vs:List Value} {g:Bool} {cs:List AC} {ts:List (Bool×List AC)} {f1 f2:List Nat} {us all:List Value} (hcut:Cut g v us) (hr:aA (bS A hw w) us cs f1) (h:Leaves A hw w vs ts f2 all):
  Leaves A hw w (v::vs) ((g,cs)::ts) (f1++f2) (us++all)
theorem GS {A:Nat→Nat→Prop}{hw:Nat→Nat}{w:World}:∀{ws:List Value}{ts:List (Bool×List AC)}{fp:List Nat},cq.jK (bS A hw w) ws ts fp→∃all,Leaves A hw w ws ts fp all
 |[],[],_,h=>by cases h;exact ⟨[],.nil⟩
 |_::_,(g,cs)::_,_,h=>by
  obtain ⟨f1,f2,rfl,⟨us,hcut,hr⟩,h2⟩:=h
  obtain ⟨all,hall⟩:=GS h2
  exact ⟨us++all,.cons hcut hr hall⟩
 |[],_::_,_,h=>h.elim
 |_::_,[],_,h=>h.elim
theorem N0 {c:RC}{A':Nat→Nat→Prop}{hw:Nat→Nat}{mk:Nat→Option Nat}(hA:∀b o,A' b o→c.S b o){ws:List Value}{ts:List (Bool×List AC)}{fp:List Nat}{all:List Value}(h:Leaves A' hw c.w ws ts fp all):
 ∀j,(∀b∈fp,c.hw b=hw b)→(∀i v,all[i]?=some v→∀t,mk (j+i)=some t→c.iss t∧v=c.hdr t)→cq.jK c ws (Om c.ep mk j ts) fp:=by
 induction h with
 |nil=>intro j _ _;exact rfl
 | @cons v vs g cs ts f1 f2 us all hcut hr h ih=>
   intro j hh hm
   have hl:=hr.length
   refine ⟨f1,f2,rfl,⟨us,hcut,tL hA j hr (fun b hb=>hh b (List.mem_append_left _ hb)) (fun i u hu t ht=> ?_)⟩,ih _ (fun b hb=>hh b (List.mem_append_right _ hb)) (fun i u hu t ht=> ?_)⟩
   ·exact hm i u (by rw [List.getElem?_append_left (List.getElem?_eq_some_iff.1 hu).1];exact hu) t ht
   ·have hl':us.length=cs.length:=hl
    refine hm (us.length+i) u (by rw [List.getElem?_append_right (by omega)];simpa using hu) t ?_
    rw [←Nat.add_assoc,hl']
    exact ht
def sR (hdr:Nat→Value)(mk:Nat→Option Nat)(all:List Value):Nat→Value:=fun u=>if mk (u/3%4096)=some u then (all[u/3%4096]?).getD undef else hdr u
theorem yU {hdr:Nat→Value}{d:Option Nat}{all:List Value}{t:Nat}(h:gk st t):sR hdr (st.eN d) all t=hdr t:=by
 unfold sR
 rw [if_neg]
 intro e
 exact (ny e).1 h
theorem yT {hdr:Nat→Value}{d:Option Nat}{all:List Value}{i t:Nat}{v:Value}(hv:all[i]?=some v)(h:st.eN d i=some t):v=sR hdr (st.eN d) all t:=by
 obtain ⟨_,_,d',rfl,ht,hi⟩:=ny h
 have hidx:t/3%4096=i:=by rw [ht,AM];omega
 unfold sR
 rw [hidx,if_pos h,hv];rfl
theorem bh.CG {g:Gh}(h:bh C g st a w [])(o:dH)(hnh:¬aX (some o)){f1 f2 f3:List Nat}(hn:(f1++f2++f3).Nodup)(hl:∀b∈f1++f2++f3,g.lab b=some o)
 {w':World} {hw':Nat→Nat} {st':AS} {fp1:List Nat} (hep:st'.ep=st.ep+1) (hiss:st'.iss=st.iss) (hpres:∀s,cC st s→cC st' s) (hn1:fp1.Nodup)
 (hfp1:∀b∈fp1,b<w'.heap.size∧(b∈f2∨w.heap.size≤b)) (hfr:Fr (fun b=>b∈f2) w w') (hhw:∀b,b<w.heap.size→b∉f2→hw' b=g.hw b):
 (aP C g st w).Le (aP C (g.wrote o (f1++fp1++f3) hw') st' w')∧(f1++fp1++f3).Nodup∧
 (∀b∈f1++fp1++f3,(g.wrote o (f1++fp1++f3) hw').lab b=some o)∧
 (∀b∈f1++f3,w'.heap[b]?=w.heap[b]?∧hw' b=g.hw b)∧
 (∀b x,¬aX (some x)→x≠o→g.lab b=some x→(g.wrote o (f1++fp1++f3) hw').lab b=some x∧w'.heap[b]?=w.heap[b]?∧hw' b=g.hw b)∧
 (∀b,g.lab b=some o→b∉f1++f2++f3→(g.wrote o (f1++fp1++f3) hw').lab b=some o∧w'.heap[b]?=w.heap[b]?∧hw' b=g.hw b)∧
 Fr C.M C.w0 w'∧(∀b x,(g.wrote o (f1++fp1++f3) hw').lab b=some x→b<w'.heap.size∧(C.w0.heap.size≤b∨C.M b)):=by
 have hn':=hn
 rw [List.append_assoc] at hn'
 have n1:=List.nodup_append.1 hn'
 have n2:=List.nodup_append.1 n1.2.1
 have hdis:∀b∈f1++f3,b∉f2:=by
  intro b hb h2
  rcases List.mem_append.1 hb with hb|hb
  ·exact n1.2.2 b hb b (List.mem_append_left _ h2) rfl
  ·exact n2.2.2 b h2 b hb rfl
 have hcA:∀b o u,C.A b o→w.cell? ⟨b,o,none⟩=some u→w'.cell? ⟨b,o,none⟩=some u:=by
  intro b o u hA hu
  have hb:b<w.heap.size:=World.block_lt_of_cell? w _ hu
  have hnl:¬(b∈f2):=fun hm=>h.FW (hl b (by simp [hm])) o hA
  rw [World.cell?_of_block (a:=⟨b,o,none⟩) (hfr.block b hb hnl)];exact hu
 have hle:(aP C g st w).Le (aP C (g.wrote o (f1++fp1++f3) hw') st' w'):=
  ⟨rfl,fun t ht=>⟨by show gk st' t;have ht':gk st t:=ht;simpa [gk,hiss] using ht',rfl⟩,hcA,by show st.ep≤st'.ep;omega,fun s hs=>⟨hpres s hs,rfl⟩,fun he=>absurd he (by show st'.ep≠st.ep;omega)⟩
 have hkeep:∀b x,g.lab b=some x→b∉f2→w'.heap[b]?=w.heap[b]?∧hw' b=g.hw b:=by
  intro b x hb hm
  exact ⟨hfr.block b (h.labs b _ hb).1 hm,hhw b (h.labs b _ hb).1 hm⟩
 have hd1:∀b∈f1++f3,b∉fp1:=by
  intro b hb hm
  rcases (hfp1 b hm).2 with h2|h2
  ·exact hdis b hb h2
  ·have:=(h.labs b _ (hl b (by rcases List.mem_append.1 hb with hb|hb<;>simp [hb]))).1
   omega
 refine ⟨hle, ?_, ?_, ?_, ?_, ?_, ?_, ?_⟩
 ·rw [List.append_assoc]
  refine List.nodup_append.2 ⟨n1.1,List.nodup_append.2 ⟨hn1,n2.2.1, ?_⟩, ?_⟩
  ·rintro b hb c hc rfl;exact hd1 b (by simp [hc]) hb
  ·rintro b hb c hc rfl
   rcases List.mem_append.1 hc with hc|hc
   ·exact hd1 b (by simp [hb]) hc
   ·exact n1.2.2 b hb b (List.mem_append_right _ hc) rfl
 ·intro b hb
  show (if b∈f1++fp1++f3 then _ else _)=_
  rw [if_pos hb]
 ·intro b hb
  exact hkeep b o (hl b (by rcases List.mem_append.1 hb with hb|hb<;>simp [hb])) (hdis b hb)
 ·intro b x hh hxo hb
  have hm2:b∉f2:=fun hm=>hxo (by have:=hl b (by simp [hm]);rw [hb] at this;simpa using this)
  refine ⟨?_,hkeep b x hb hm2⟩
  show (if b∈f1++fp1++f3 then _ else if aX (g.lab b) then none else g.lab b)=_
  have hnin:b∉f1++fp1++f3:=by
   intro hm
   simp only [List.mem_append] at hm
   rcases hm with (hm|hm)|hm
   ·exact hxo (by have:=hl b (by simp [hm]);rw [hb] at this;simpa using this)
   ·rcases (hfp1 b hm).2 with h2|h2
    ·exact hm2 h2
    ·have:=(h.labs b _ hb).1;omega
   ·exact hxo (by have:=hl b (by simp [hm]);rw [hb] at this;simpa using this)
  rw [if_neg hnin,if_neg (by rw [hb];exact hh),hb]
 ·intro b hb hm
  have hm2:b∉f2:=fun k=>hm (by simp [k])
  refine ⟨?_,hkeep b o hb hm2⟩
  show (if b∈f1++fp1++f3 then _ else if aX (g.lab b) then none else g.lab b)=_
  rw [if_neg (c:=aX (g.lab b)) (by rw [hb];exact hnh),hb]
  split<;>rfl
 ·refine h.frame.trans hfr (fun b hb hm=> ?_)
  rcases (h.labs b o (hl b (by simp [hm]))).2 with h2|h2
  ·omega
  ·exact h2
 ·intro b x hx
  have hx':(if b∈f1++fp1++f3 then some o else if aX (g.lab b) then none else g.lab b)=some x:=hx
  have hz:=hfr.size
  have old:∀y,g.lab b=some y→b<w'.heap.size∧(C.w0.heap.size≤b∨C.M b):=fun y hy=>⟨Nat.lt_of_lt_of_le (h.labs b y hy).1 hz,(h.labs b y hy).2⟩
  split at hx'
  ·rename_i hm
   simp only [List.mem_append] at hm
   rcases hm with (hm|hm)|hm
   ·exact old o (hl b (by simp [hm]))
   ·rcases (hfp1 b hm).2 with h2|h2
    ·exact old o (hl b (by simp [h2]))
    ·exact ⟨(hfp1 b hm).1,.inl (Nat.le_trans h.frame.size h2)⟩
   ·exact old o (hl b (by simp [hm]))
  ·split at hx'
   ·cases hx'
   ·exact old x hx'
theorem zm {c':RC}{vs us:List Value}{cs seg:List AC}{f1 f2 f3:List Nat}{off n:Nat}(hus:us=(vs.drop off).take n)(hln:us.length=n)(r1:aA c' (vs.take off) (cs.take off) f1)(r2:aA c' us seg f2)(r3:aA c' (vs.drop (off+n)) (cs.drop (off+n)) f3):
 aA c' vs (aY cs off seg) (f1++f2++f3):=by
 have hl2:=r2.length
 have e:vs=vs.take off++us++vs.drop (off+n):=by
  rw [hus,List.append_assoc,←List.drop_drop,List.take_append_drop,List.take_append_drop]
 rw [e,aY,show seg.length=n by omega]
 exact aA.append (aA.append r1 r2) r3
theorem bh.Tp {g:Gh}(h:bh C g st a w [])(r:dX){csO:List AC}(hown:st.mm r=some csO)(off n:Nat)(hmid:((csO.drop off).take n).length=n):
 ∃us f2,aA (aP C g st w) us ((csO.drop off).take n) f2∧f2.Nodup∧(∀b∈f2,b<w.heap.size∧∀o,¬C.A b o)∧
  ∀(w':World)(hw':Nat→Nat)(seg:List AC)(fp1:List Nat),fp1.Nodup→(∀b∈fp1,b<w'.heap.size∧(b∈f2∨w.heap.size≤b))→Fr (fun b=>b∈f2) w w'→
   (∀b,b<w.heap.size→b∉f2→hw' b=g.hw b)→(∀c',(aP C g st w).Le c'→c'.w=w'→c'.hw=hw'→aA c' us seg fp1)→
   ∃g',bh C g' {st.jl r (aY csO off seg) with ep:=st.ep+1} a w' []:=by
 have core:∀(o:dH),¬aX (some o)→∀{vs:List Value}{fp:List Nat},aA (aP C g st w) vs csO fp→fp.Nodup→(∀b∈fp,g.lab b=some o)→
  ∃us f1 f2 f3,fp=f1++f2++f3∧aA (aP C g st w) us ((csO.drop off).take n) f2∧f2.Nodup∧(∀b∈f2,b<w.heap.size∧∀o,¬C.A b o)∧
   ∀(w':World)(hw':Nat→Nat)(st':AS)(seg:List AC)(fp1:List Nat),st'.ep=st.ep+1→st'.iss=st.iss→(∀s,cC st s→cC st' s)→fp1.Nodup→(∀b∈fp1,b<w'.heap.size∧(b∈f2∨w.heap.size≤b))→Fr (fun b=>b∈f2) w w'→
    (∀b,b<w.heap.size→b∉f2→hw' b=g.hw b)→(∀c',(aP C g st w).Le c'→c'.w=w'→c'.hw=hw'→aA c' us seg fp1)→
    aA (aP C (g.wrote o (f1++fp1++f3) hw') st' w') vs (aY csO off seg) (f1++fp1++f3):=by
  intro o hnh vs fp hr hn hl
  obtain ⟨f1,f2,f3,rfl,r1,r2,r3⟩:=hr.Sb off n
  have hn':=hn
  rw [List.append_assoc] at hn'
  have n2:=List.nodup_append.1 (List.nodup_append.1 hn').2.1
  refine ⟨_,f1,f2,f3,rfl,r2,n2.1,fun b hb=>⟨(h.labs b o (hl b (by simp [hb]))).1,fun q=>h.FW (hl b (by simp [hb])) q⟩, ?_⟩
  intro w' hw' st' seg fp1 hep hiss hpres hn1 hfp1 hfr hhw hseg
  obtain ⟨hle,_,_,hk,_⟩:=h.CG o hnh hn hl hep hiss hpres hn1 hfp1 hfr hhw
  exact zm rfl (by rw [r2.length];exact hmid) (r1.mono hle fun b hb=>hk b (by simp [hb])) (hseg _ hle rfl rfl) (r3.mono hle fun b hb=>hk b (by simp [hb]))
 cases r with
 |slot s j=>
  simp only [AS.mm] at hown
  cases hg:st.get s with
  |tup ts=>rw [hg] at hown;cases hown
  |val gg cs=>
   rw [hg] at hown
   cases hown
   have hlt0:s<st.slots.length∨¬s<st.slots.length:=Nat.lt_or_ge s st.slots.length|>.imp id Nat.not_lt.2
   obtain ⟨fp,hr,hn,hl⟩:=h.slot s
   rw [hg] at hr
   obtain ⟨vs,hcut,hr⟩:=hr
   obtain ⟨us,f1,f2,f3,rfl,hus,hn2,hb2,hfin⟩:=core (.slot s) (by simp [bR]) hr hn hl
   refine ⟨us,f2,hus,hn2,hb2, ?_⟩
   intro w' hw' seg fp1 hn1 hfp1 hfr hhw hseg
   let st':AS:={st.jl (.slot s j) (aY csO off seg) with ep:=st.ep+1}
   have hst':st'={st with slots:=st.slots.set s (.val gg (aY csO off seg)),ep:=st.ep+1}:=by
    show ({st.jl (.slot s j) (aY csO off seg) with ep:=st.ep+1}:AS)=_
    simp only [AS.jl,hg,AS.put,bL]
   have hpr:∀t,cC st t→cC st' t:=fun t ht=>by rw [hst'];exact ht
   obtain ⟨hle,hnn,hll,_,hk1,_,hfrC,hlabs⟩:=h.CG (.slot s) (by simp [bR]) hn hl (st':=st') rfl (by rw [hst']) hpr hn1 hfp1 hfr hhw
   have hrel:=hfin w' hw' st' seg fp1 rfl (by rw [hst']) hpr hn1 hfp1 hfr hhw hseg
   refine ⟨_,h.step (fun x=>¬aX (some x)∧x≠ .slot s) hle h.defers ?_ ?_ hfrC hlabs (fun b x hk hx=>hk1 b x hk.1 hk.2 hx) ?_ ?_ (fun k u bv hk=>by simp at hk) (.inl ⟨⟨by simp [bR],by simp⟩,by show st'.io=st.io;rw [hst']⟩)⟩
   ·show _=st'.slots.length;rw [hst'];simpa using h.size
   ·show st'.boxes.length=st'.slots.length;rw [hst'];simpa using h.bsize
   ·intro i av hi
    have hi':(st.slots.set s (.val gg (aY csO off seg)))[i]?=some av:=by have:st'.slots[i]?=some av:=hi;rw [hst'] at this;exact this
    by_cases his:i=s
    ·subst his
     rw [List.getElem?_set] at hi'
     simp only [if_true] at hi'
     split at hi'
     ·simp at hi';subst hi'
      exact .inr ⟨_,⟨vs,hcut,hrel⟩,hnn,hll⟩
     ·cases hi'
    ·rw [List.getElem?_set_ne (Ne.symm his)] at hi'
     exact .inl ⟨⟨by simp [bR],by simpa using his⟩,hi',rfl⟩
   ·intro t cs' hb
    have hb':st.boxes[t]?=some (some cs'):=by have:st'.boxes[t]?=some (some cs'):=hb;rw [hst'] at this;exact this
    exact .inl ⟨⟨by simp [bR],by simp⟩,hb',rfl⟩
 |box s j=>
  have hbx:st.boxes[s]?=some (some csO):=by
   simp only [AS.mm,bm] at hown
   cases hb:st.boxes[s]? with
   |none=>simp [hb] at hown
   |some q=>rw [hb] at hown;simp at hown;rw [hown]
  have hslt:s<st.boxes.length:=(List.getElem?_eq_some_iff.1 hbx).1
  obtain ⟨arr,T,fr,fp,hblk,hth,hr,hn,hnb,hl,hl0,hw0⟩:=h.boxes s csO hbx
  obtain ⟨us,f1,f2,f3,rfl,hus,hn2,hb2,hfin⟩:=core (.box s) (by simp [bR]) hr hn hl
  refine ⟨us,f2,hus,hn2,hb2, ?_⟩
  intro w' hw' seg fp1 hn1 hfp1 hfr hhw hseg
  let st':AS:={st.jl (.box s j) (aY csO off seg) with ep:=st.ep+1}
  have hst':st'={st with boxes:=st.boxes.set s (some (aY csO off seg)),ep:=st.ep+1}:=by
   show ({st.jl (.box s j) (aY csO off seg) with ep:=st.ep+1}:AS)=_
   simp only [AS.jl,AS.bO,bL]
  have hpr:∀t,cC st t→cC st' t:=fun t ht=>by
   rw [hst']
   obtain ⟨c0,hc0⟩:=ht
   by_cases hts:s=t
   ·subst hts;exact ⟨aY csO off seg,by simp [hslt]⟩
   ·exact ⟨c0,by rw [List.getElem?_set_ne hts];exact hc0⟩
  obtain ⟨hle,hnn,hll,_,hk1,hk2,hfrC,hlabs⟩:=h.CG (.box s) (by simp [bR]) hn hl (st':=st') rfl (by rw [hst']) hpr hn1 hfp1 hfr hhw
  have hrel:=hfin w' hw' st' seg fp1 rfl (by rw [hst']) hpr hn1 hfp1 hfr hhw hseg
  have hβ:=hk2 (g.β s) hl0 hnb
  refine ⟨_,h.step (fun x=>¬aX (some x)∧x≠ .box s) hle h.defers ?_ ?_ hfrC hlabs (fun b x hk hx=>hk1 b x hk.1 hk.2 hx) ?_ ?_ (fun k u bv hk=>by simp at hk) (.inl ⟨⟨by simp [bR],by simp⟩,by show st'.io=st.io;rw [hst']⟩)⟩
  ·show _=st'.slots.length;rw [hst'];exact h.size
  ·show st'.boxes.length=st'.slots.length;rw [hst'];simpa using h.bsize
  ·intro i av hi
   have hi':st.slots[i]?=some av:=by have:st'.slots[i]?=some av:=hi;rw [hst'] at this;exact this
   exact .inl ⟨⟨by simp [bR],by simp⟩,hi',rfl⟩
  ·intro t cs' hb
   have hb':(st.boxes.set s (some (aY csO off seg)))[t]?=some (some cs'):=by have:st'.boxes[t]?=some (some cs'):=hb;rw [hst'] at this;exact this
   by_cases hts:t=s
   ·subst hts
    rw [List.getElem?_set] at hb'
    simp only [if_true,hslt] at hb'
    simp at hb';subst hb'
    have hnb':g.β t∉f1++fp1++f3:=by
     intro hm
     simp only [List.mem_append] at hm
     rcases hm with (hm|hm)|hm
     ·exact hnb (by simp [hm])
     ·rcases (hfp1 _ hm).2 with h2|h2
      ·exact hnb (by simp [h2])
      ·have:=(h.labs _ _ hl0).1;omega
     ·exact hnb (by simp [hm])
    exact .inr ⟨arr,T,fr,_,hβ.2.1.trans hblk,hth,hrel,hnn,hnb',hll,hβ.1,hβ.2.2.trans hw0⟩
   ·rw [List.getElem?_set_ne (Ne.symm hts)] at hb'
    exact .inl ⟨⟨by simp [bR],by simpa using hts⟩,hb',rfl⟩
 |io j=>
  simp only [AS.mm,Option.some.injEq] at hown
  subst hown
  obtain ⟨fp,hr,hn,hl⟩:=h.io
  obtain ⟨us,f1,f2,f3,rfl,hus,hn2,hb2,hfin⟩:=core .io (by simp [bR]) hr hn hl
  refine ⟨us,f2,hus,hn2,hb2, ?_⟩
  intro w' hw' seg fp1 hn1 hfp1 hfr hhw hseg
  let st':AS:={st.jl (.io j) (aY st.io off seg) with ep:=st.ep+1}
  have hst':st'={st with io:=aY st.io off seg,ep:=st.ep+1}:=rfl
  have hpr:∀t,cC st t→cC st' t:=fun t ht=>by rw [hst'];exact ht
  obtain ⟨hle,hnn,hll,_,hk1,_,hfrC,hlabs⟩:=h.CG .io (by simp [bR]) hn hl (st':=st') rfl (by rw [hst']) hpr hn1 hfp1 hfr hhw
  have hrel:=hfin w' hw' st' seg fp1 rfl (by rw [hst']) hpr hn1 hfp1 hfr hhw hseg
  refine ⟨_,h.step (fun x=>¬aX (some x)∧x≠ .io) hle h.defers ?_ ?_ hfrC hlabs (fun b x hk hx=>hk1 b x hk.1 hk.2 hx) ?_ ?_ (fun k u bv hk=>by simp at hk) (.inr ⟨_,hrel,hnn,hll⟩)⟩
  ·exact h.size
  ·exact h.bsize
  ·intro i av hi
   exact .inl ⟨⟨by simp [bR],by simp⟩,hi,rfl⟩
  ·intro t cs' hb
   exact .inl ⟨⟨by simp [bR],by simp⟩,hb,rfl⟩
theorem yB:∀(os ss:List AC){r:List AC},fX os ss=some r→ss.length=os.length:=by
 intro os
 induction os with
 |nil=>intro ss r h;cases ss with
  |nil=>rfl
  |cons _ _=>simp [fX] at h
 |cons o os ih=>
  intro ss r h
  cases ss with
  |nil=>unfold fX at h;split at h<;>first|contradiction|cases h
  |cons s ss=>
   unfold fX at h
   split at h
   ·contradiction
   ·rename_i h1 h2
    injection h1 with h1 h1';subst h1'
    injection h2 with h2 h2';subst h2'
    rw [Bool.cond_eq_ite] at h
    split at h
    ·obtain ⟨r',hr,h⟩:=Option.bind_eq_some_iff.1 h
     simp [ih _ hr]
    ·cases h
   all_goals first
    |cases h
    |(rename_i h1 h2
      injection h1 with h1 h1';subst h1'
      injection h2 with h2 h2';subst h2'
      obtain ⟨r',hr,h⟩:=Option.bind_eq_some_iff.1 h
      simp [ih _ hr])
theorem xJ {g:Gh}(h:bh C g st a w []){A:Nat→Nat→Prop}:∀(xs:List Operand),xs.all (fun x=>(st.rd x).cv)=true→kH A w (xs.map a.eval) (xs.map st.rd)
 |[],_=>trivial
 |x::xs,hf=>by
  simp only [List.all_cons,Bool.and_eq_true] at hf
  exact ⟨zL (h.rd x) hf.1,xJ h xs hf.2⟩
theorem Ry {hw:Nat→Nat}{w:World}{e:CT}{v:Value}{xs:List e.D}{fp0:List Nat}(h:bD hw w (.sl e) [v] xs fp0){n:Nat}{x:e.D}(hx:xs[n]?=some x):
 ∃b o0 cap arr T fr f1 fx f3,v= .slice (some ⟨b,o0,none⟩) xs.length cap∧w.heap[b]?=some (.cells arr T fr)∧
  bD hw w e ((arr.toList.drop (o0+n*e.size)).take e.size) x fx∧fp0=b::(f1++fx++f3)∧
  ∀(w':World)(hw':Nat→Nat)(x':e.D)(fx':List Nat),(∀b'∈b::(f1++f3),w'.heap[b']?=w.heap[b']?∧hw' b'=hw b')→
   bD hw' w' e ((arr.toList.drop (o0+n*e.size)).take e.size) x' fx'→bD hw' w' (.sl e) [v] (xs.set n x') (b::(f1++fx'++f3)):=by
 obtain ⟨u,hu,h⟩:=h
 simp at hu;subst hu
 have hnl:n<xs.length:=(List.getElem?_eq_some_iff.1 hx).1
 rcases h with ⟨⟨_,rfl⟩,rfl,rfl⟩|⟨b,o0,cap,arr,T,fr,fps,rfl,hb,hth,hs,hc,hh,rfl,hl,hr⟩
 ·simp at hx
 ·have hfn:fps[n]?=some fps[n]:=List.getElem?_eq_getElem (by omega)
  have hfs:=tP hfn
  refine ⟨b,o0,cap,arr,T,fr,(fps.take n).flatten,fps[n],(fps.drop (n+1)).flatten,rfl,hb,hr n x _ hx hfn,by rw [hfs.1], ?_⟩
  intro w' hw' x' fx' hk hown
  have hkb:=hk b (by simp)
  refine ⟨_,rfl,.inr ⟨b,o0,cap,arr,T,fr,fps.set n fx',by simp,hkb.1.trans hb,hth,hs,by simpa using hc,by rw [hkb.2];simpa using hh,by rw [hfs.2],by simp [hl], ?_⟩⟩
  intro i y f hy hf
  by_cases hin:i=n
  ·subst hin
   rw [List.getElem?_set] at hy hf
   simp only [if_true,hnl] at hy
   simp only [if_true] at hf
   rw [if_pos (by omega)] at hf
   simp at hy hf
   subst hy;subst hf
   exact hown
  ·rw [List.getElem?_set_ne (Ne.symm hin)] at hy hf
   refine bD.mono (hr i y f hy hf) (fun b' hb''=>hk b' (List.mem_cons_of_mem _ ?_))
   have hil:i<fps.length:=(List.getElem?_eq_some_iff.1 hf).1
   have hfi:fps[i]=f:=by rw [List.getElem?_eq_getElem hil] at hf;simpa using hf
   rcases Nat.lt_or_gt_of_ne hin with hlt|hgt
   ·refine List.mem_append_left _ (List.mem_flatten.2 ⟨f, ?_,hb''⟩)
    rw [List.mem_take_iff_getElem]
    exact ⟨i,by omega,hfi⟩
   ·refine List.mem_append_right _ (List.mem_flatten.2 ⟨f, ?_,hb''⟩)
    rw [List.mem_drop_iff_getElem]
    exact ⟨i-(n+1),by omega,by rw [←hfi];congr 1;omega⟩
theorem aA.single {c:RC}{vs:List Value}{x:AC}{fp:List Nat}(h:aA c vs [x] fp):∃v,vs=[v]∧cG c v x fp:=by
 cases vs with
 |nil=>exact h.elim
 |cons v vs=>
  obtain ⟨f1,f2,rfl,h1,h2⟩:=h
  cases vs with
  |nil=>cases h2;exact ⟨v,rfl,by simpa using h1⟩
  |cons _ _=>exact h2.elim
theorem Wy {g:Bool}{v:Value}{a b:List Value}(h:Cut g v a)(k:Cut g v b):b=a:=by
 cases g with
 |true=>
  simp only [Cut,if_true] at h k
  have:=h.symm.trans k
  simp at this
  exact this.symm
 |false=>simp only [Cut] at h k;simp at h k;rw [h,k]
theorem Xa {Γ:aJ}(hΓ:∀f,ai P f (Γ f)){o':Oper}{f:Operand}{args:Array Operand}{ts:Array TypeId}(ho:o'.op= .call {callee:= .value f,args,argTypes:=ts}){g:Gh}(hg:bh C g st a w []){k:Nat}
 (hf:st.rd f= .val false [.fn k]) (hio:(Γ k).io=true) {x0:Operand} {xs:List Operand} (hargs:args.toList=x0::xs) {gg:Bool} {cs:List AC} (hx0:st.rd x0= .val gg cs) {K:AS→Option R} (hk:G1 Γ o' k gg cs xs st K=some r)
 (next:Act→World→Prop) (Q:Exit→Act→World→Prop) (hnext:∀st' a' w',g8 C st' a' w'→K st'=some r→next a' w'):o'.wp P a w next Q:=by
 have hfv:=hg.rd f
 rw [hf] at hfv
 have hfv:=(bt hfv).1
 unfold G1 at hk
 split at hk
 ·rename_i ep rt t en i off e1 ws
  split at hk
  ·rename_i csO hown
   split at hk
   ·rename_i t' e ys hO
    cases hc:((ep==st.ep)&&(t'==t)&&(en.size==e.size)&&xs.all (fun x=>(st.rd x).cv)) with
    |false=>rw [hc] at hk;cases hk
    |true=>
     rw [hc] at hk
     simp only [cond_true] at hk
     simp only [Bool.and_eq_true,beq_iff_eq] at hc
     obtain ⟨⟨⟨hep,htt⟩,hsz⟩,hflat⟩:=hc
     subst htt
     cases hix:idx ys i with
     |none=>rw [hix] at hk;cases hk
     |some x=>
      rw [hix] at hk
      simp only [aa] at hk
      split at hk
      ·rename_i tg0 e2 zs hmid
       cases hres:(Γ k).fn (.val gg [.sl (.own none) e2 zs]::xs.map st.rd) with
       |none=>rw [hres] at hk;cases hk
       |some y=>
        rw [hres] at hk
        simp only at hk
        split at hk
        ·rename_i tg e3 zs' hback
         split at hk
         ·rename_i x' hof
          cases hfl:((Γ k).av y).cv with
          |false=>rw [hfl] at hk;cases hk
          |true=>
           rw [hfl] at hk
           simp only [cond_true] at hk
           obtain ⟨⟨fn,c,hfn,hbody,hname⟩,_,hcalls,_⟩:=hΓ k _ y hres
           have hcalls:=hcalls hio gg _ (xs.map st.rd) rfl
           have hrd:=hg.rd x0
           rw [hx0] at hrd
           obtain ⟨vs0,hcut,hrel0⟩:=hrd
           obtain ⟨v,rfl,hrelv⟩:=hrel0.single
           obtain ⟨us,f2,hus,hn2,hb2,hfin⟩:=hg.Tp rt hown rt.pos 1 (by rw [hO];rfl)
           rw [hO] at hus
           obtain ⟨u,rfl,hrelu⟩:=hus.single
           obtain ⟨n,hin,hxn⟩:=Ew hix
           obtain ⟨b,o0,cap,arr,T,fr,f1,fx,f3,hu,hblk,hownx,hfp2,hset⟩:=Ry hrelu.1 hxn
           obtain ⟨_,n2,b2,o2,len2,cap2,hin2,hhdr,_,_,hcell⟩:=hrelv.2.2.2 hep
           have hun:=(hrelu.2 t' rfl).2
           rw [hhdr,hu] at hun
           simp only [Value.slice.injEq,Option.some.injEq,Addr.mk.injEq] at hun
           obtain ⟨⟨rfl,rfl,_⟩,_,_⟩:=hun
           have hnn:n2=n:=by omega
           subst hnn
           rw [hsz] at hcell
           have hcell':arr[o0+n2*e.size+off]?=some v:=by rw [←cell_of hblk];exact hcell
           have hrelx:=gW (c:=aP C g st w) hownx
           obtain ⟨k1,k2,k3,hkx,r1,r2,r3⟩:=hrelx.Sb off 1
           rw [hmid] at r2
           obtain ⟨v',hv',hrelv'⟩:=r2.single
           have hvv:v'=v:=by
            have h0:(((arr.toList.drop (o0+n2*e.size)).take e.size).drop off).take 1=[v']:=hv'
            have h1:((((arr.toList.drop (o0+n2*e.size)).take e.size).drop off).take 1)[0]?=some v':=by rw [h0];rfl
            rw [List.getElem?_take] at h1
            simp only [Nat.zero_lt_one,if_true] at h1
            rw [List.getElem?_drop,List.getElem?_take] at h1
            split at h1
            ·rw [List.getElem?_drop,Array.getElem?_toList,Nat.add_zero,hcell'] at h1
             simpa using h1.symm
            ·cases h1
           subst hvv
           have hn2':=hn2
           rw [hfp2,hkx] at hn2'
           have hnb:=List.nodup_cons.1 hn2'
           have m0:=hnb.2
           rw [List.append_assoc] at m0
           have m1:=List.nodup_append.1 m0
           have m2:=List.nodup_append.1 m1.2.1
           have m2a:=m2.1
           rw [List.append_assoc] at m2a
           have m3:=List.nodup_append.1 m2a
           have m4:=List.nodup_append.1 m3.2.1
           have hk2in:∀q∈k2,q∈f2:=fun q hq=>by rw [hfp2,hkx];simp [hq]
           have hcall:=hcalls (fun _ _=>False) w (a.eval x0) (xs.map a.eval) g.hw k2 (fun _ _ hf=>hf.elim)
            ⟨[v'],hcut,k2,[],by simp,⟨hrelv'.1,by simp⟩,rfl⟩ m4.1 (fun q hq=>(hb2 q (hk2in q hq)).1) (xJ hg xs hflat)
           have hargs':(a.eval x0::xs.map a.eval).toArray=args.map a.eval:=by apply Array.ext';simp [hargs]
           rw [hargs'] at hcall
           have hrun:(execOp a.eval o').run P w= .ok (.enter k (args.map a.eval)) w:=by
            simp [execOp,ho,resolve,hfv,Deferred.ofValue,invoke,callFunc,hfn,hbody]
            simpa using hname
           unfold Oper.wp
           rw [hrun,Oper.upon_enter]
           refine hcall.mono ?_
           rintro e' w' ⟨vr,hw',frr,fp',rfl,hrel,⟨vs1,hcut1,hbk⟩,hnd,hfp,hfr⟩
           show next (a.put o'.dst vr) w'
           have hvs:=Wy hcut hcut1
           subst hvs
           rw [hback] at hbk
           obtain ⟨v2,hv2,hbk2⟩:=hbk.single
           simp only [List.cons.injEq,and_true] at hv2
           subst hv2
           have hdis:∀q,q∈f2→q∉k2→q∉fp':=fun q hq hq2 hm=>by
            rcases (hfp q hm).2 with h2|h2
            ·exact hq2 h2
            ·have:=(hb2 q hq).1;omega
           have hrest:∀q,(q=b∨q∈f1∨q∈k1∨q∈k3∨q∈f3)→q∈f2∧q∉k2:=by
            intro q hq
            constructor
            ·rw [hfp2,hkx]
             rcases hq with hq|hq|hq|hq|hq<;>simp [hq]
            ·intro h2
             rcases hq with hq|hq|hq|hq|hq
             ·subst hq;exact hnb.1 (by simp [h2])
             ·exact m1.2.2 q hq q (by simp [h2]) rfl
             ·exact m3.2.2 q hq q (by simp [h2]) rfl
             ·exact m4.2.2 q h2 q hq rfl
             ·exact m2.2.2 q (by simp [h2]) q hq rfl
           have hnd1:(b::(f1++(k1++fp'++k3)++f3)).Nodup:=by
            refine List.nodup_cons.2 ⟨fun hm=> ?_, ?_⟩
            ·simp only [List.mem_append] at hm
             rcases hm with (hm|((hm|hm)|hm))|hm
             ·exact hnb.1 (by simp [hm])
             ·exact hnb.1 (by simp [hm])
             ·exact hdis b (hrest b (.inl rfl)).1 (hrest b (.inl rfl)).2 hm
             ·exact hnb.1 (by simp [hm])
             ·exact hnb.1 (by simp [hm])
            ·have hd':∀q,(q∈f1∨q∈k1∨q∈k3∨q∈f3)→q∉fp':=fun q hq=>hdis q (hrest q (.inr hq)).1 (hrest q (.inr hq)).2
             rw [List.append_assoc]
             refine List.nodup_append.2 ⟨m1.1,List.nodup_append.2 ⟨?_,m2.2.1, ?_⟩, ?_⟩
             ·rw [List.append_assoc]
              refine List.nodup_append.2 ⟨m3.1,List.nodup_append.2 ⟨hnd,m4.2.1, ?_⟩, ?_⟩
              ·rintro c hc d hd rfl;exact hd' c (by simp [hd]) hc
              ·rintro c hc d hd rfl
               rcases List.mem_append.1 hd with hd|hd
               ·exact hd' c (by simp [hc]) hd
               ·exact m3.2.2 c hc c (List.mem_append_right _ hd) rfl
             ·rintro c hc d hd rfl
              simp only [List.mem_append] at hc
              rcases hc with (hc|hc)|hc
              ·exact m2.2.2 c (by simp [hc]) c hd rfl
              ·exact hd' c (by simp [hd]) hc
              ·exact m2.2.2 c (by simp [hc]) c hd rfl
             ·rintro c hc d hd rfl
              simp only [List.mem_append] at hd
              rcases hd with ((hd|hd)|hd)|hd
              ·exact m1.2.2 c hc c (by simp [hd]) rfl
              ·exact hd' c (by simp [hc]) hd
              ·exact m1.2.2 c hc c (by simp [hd]) rfl
              ·exact m1.2.2 c hc c (by simp [hd]) rfl
           have hin':i.toNat=n2:=by omega
           obtain ⟨g',hg'⟩:=hfin w' (fun q=>if q∈fp' then hw' q else g.hw q) [.sl (.own (some t')) e (ys.set n2 x')] (b::(f1++(k1++fp'++k3)++f3)) hnd1
            (fun q hq=>by
             have hz:=hfr.size
             by_cases hm:q∈fp'
             ·refine ⟨(hfp q hm).1, ?_⟩
              rcases (hfp q hm).2 with h2|h2
              ·exact .inl (hk2in q h2)
              ·exact .inr h2
             ·have h2:q∈f2:=by
               refine (hrest q ?_).1
               simp only [List.mem_cons,List.mem_append] at hq
               rcases hq with hq|(hq|((hq|hq)|hq))|hq
               ·exact .inl hq
               ·simp [hq]
               ·simp [hq]
               ·exact absurd hq hm
               ·simp [hq]
               ·simp [hq]
              exact ⟨by have:=(hb2 q h2).1;omega,.inl h2⟩)
            ⟨hfr.os,hfr.tape,hfr.output,hfr.size,fun q hq hm=>hfr.block q hq (fun h2=>hm (hk2in q h2))⟩
            (fun q hq hm=>by
             have:q∉fp':=fun h2=>by
              rcases (hfp q h2).2 with h3|h3
              ·exact hm (hk2in q h3)
              ·omega
             simp [this])
            (fun c' hle hcw hchw=>by
             have hkeep:∀q,(q=b∨q∈f1∨q∈k1∨q∈k3∨q∈f3)→c'.w.heap[q]?=w.heap[q]?∧c'.hw q=g.hw q:=by
              intro q hq
              have h2:=hrest q hq
              rw [hcw,hchw]
              exact ⟨hfr.block q (hb2 q h2.1).1 h2.2,by simp [hdis q h2.1 h2.2]⟩
             have hnew:aA c' [v'] [.sl (.own none) e3 zs'] fp':=by
              refine ⟨fp',[],by simp,⟨?_,by simp⟩,rfl⟩
              have h0:bD hw' w' (.sl e3) [v'] zs' fp':=hbk2.1
              refine bD.mono h0 (fun q hq=> ?_)
              rw [hcw,hchw]
              exact ⟨rfl,by simp [hq]⟩
             have hsp:=zm (c':=c') (vs:=(arr.toList.drop (o0+n2*e.size)).take e.size) (us:=[v']) (cs:=cellsOf e (.own none) x) (off:=off) (n:=1) hv'.symm rfl
              (r1.mono hle (fun q hq=>hkeep q (by simp [hq]))) hnew (r3.mono hle (fun q hq=>hkeep q (by simp [hq])))
             obtain ⟨q1,q2,hq,hq1,hq2⟩:=ez hsp hof
             have hln:((arr.toList.drop (o0+n2*e.size)).take e.size).length=e.size:=bD.length hownx
             rw [List.drop_of_length_le (by omega)] at hq2
             have hq2':q2=[]:=hq2
             subst hq2'
             rw [List.take_of_length_le (by omega)] at hq1
             rw [List.append_nil] at hq
             subst hq
             have hO':=hset c'.w c'.hw x' _ (fun q hq=>hkeep q (by
              simp only [List.mem_cons,List.mem_append] at hq
              rcases hq with hq|hq|hq<;>simp [hq])) hq1
             refine ⟨_,[],by simp,⟨hO',fun q hq=> ?_⟩,rfl⟩
             cases hq
             have h1:=hrelu.2 t' rfl
             exact ⟨(hle.hdr t' h1.1).1,by rw [(hle.hdr t' h1.1).2];exact h1.2⟩)
           rw [hin'] at hk
           exact hnext _ _ _ ⟨g',hg'.quiet o'.dst (zL hrel hfl)⟩ hk
         ·cases hk
        ·cases hk
      ·cases hk
   ·cases hk
  ·cases hk
 ·cases hk
theorem ahi {Γ:aJ}(hΓ:∀f,ai P f (Γ f)){o':Oper}{f:Operand}{args:Array Operand}{ts:Array TypeId}(ho:o'.op= .call {callee:= .value f,args,argTypes:=ts}){g:Gh}(hg:bh C g st a w []){k:Nat}
 (hf:st.rd f= .val false [.fn k]) (hio:(Γ k).io=true) {K:AS→Option R} (hk:ioC Γ o' k args.toList st K=some r) (next:Act→World→Prop) (Q:Exit→Act→World→Prop)
 (hnext:∀st' a' w',g8 C st' a' w'→K st'=some r→next a' w'):o'.wp P a w next Q:=by
 have hfv:=hg.rd f
 rw [hf] at hfv
 have hfv:=(bt hfv).1
 unfold ioC at hk
 split at hk
 ·rename_i x0 xs hargs
  split at hk
  ·rename_i gg cs hx0
   split at hk
   ·rename_i rt j hfirst
    split at hk
    ·rename_i csO hown
     split at hk
     ·rename_i cs' hseg
      cases hflat:(xs.all fun x=>(st.rd x).cv) with
      |false=>rw [hflat] at hk;cases hk
      |true=>
       rw [hflat] at hk
       simp only [cond_true] at hk
       cases hres:(Γ k).fn (.val gg cs'::xs.map st.rd) with
       |none=>rw [hres] at hk;cases hk
       |some y=>
        rw [hres] at hk
        simp only [aa] at hk
        split at hk
        ·rename_i seg hback
         cases hfl:((Γ k).av y).cv with
         |false=>rw [hfl] at hk;cases hk
         |true=>
          rw [hfl] at hk
          simp only [cond_true] at hk
          obtain ⟨⟨fn,c,hfn,hbody,hname⟩,_,hcalls,_⟩:=hΓ k _ y hres
          have hcalls:=hcalls hio gg cs' (xs.map st.rd) rfl
          have hrd:=hg.rd x0
          rw [hx0] at hrd
          obtain ⟨vs0,hcut,hrel0⟩:=hrd
          have hmid:=yB _ _ hseg
          obtain ⟨us,f2,hus,hn2,hb2,hfin⟩:=hg.Tp rt hown (rt.pos-j) cs.length hmid
          have harg:=E8 (A:=fun _ _=>False) _ _ hseg hrel0 hus
          have hcall:=hcalls (fun _ _=>False) w (a.eval x0) (xs.map a.eval) g.hw f2 (fun _ _ hf=>hf.elim) ⟨vs0,hcut,harg⟩ hn2 (fun b hb=>(hb2 b hb).1) (xJ hg xs hflat)
          have hargs':(a.eval x0::xs.map a.eval).toArray=args.map a.eval:=by apply Array.ext';simp [hargs]
          rw [hargs'] at hcall
          have hrun:(execOp a.eval o').run P w= .ok (.enter k (args.map a.eval)) w:=by
           simp [execOp,ho,resolve,hfv,Deferred.ofValue,invoke,callFunc,hfn,hbody]
           simpa using hname
          unfold Oper.wp
          rw [hrun,Oper.upon_enter]
          refine hcall.mono ?_
          rintro e w' ⟨v,hw',fr,fp',rfl,hrel,⟨vs1,hcut1,hbk⟩,hnd,hfp,hfr⟩
          show next (a.put o'.dst v) w'
          have hvs:vs1=vs0:=by
           cases gg with
           |true=>
            simp only [Cut,if_true] at hcut hcut1
            have:=hcut.symm.trans hcut1
            simp at this
            exact this.symm
           |false=>simp only [Cut] at hcut hcut1;simp at hcut hcut1;rw [hcut,hcut1]
          subst hvs
          let hwn:Nat→Nat:=fun b=>if b∈fp' then hw' b else g.hw b
          obtain ⟨g',hg'⟩:=hfin w' (fun b=>if b∈fp' then hw' b else g.hw b) seg fp' hnd hfp hfr (fun b hb hm=>by
           have:b∉fp':=fun hm'=>by
            rcases (hfp b hm').2 with h2|h2
            ·exact hm h2
            ·omega
           simp [this]) (fun c' hle hcw hchw=>by
           refine Mg (A:=fun _ _=>False) (hw':=hw') hle _ _ _ hback hrel0 hus (by rw [hcw];exact hbk) (fun b hb=>by rw [hchw];simp [hb]))
          refine hnext _ _ _ ⟨g',hg'.quiet o'.dst (zL hrel hfl)⟩ hk
        ·cases hk
     ·cases hk
    ·cases hk
   ·exact Xa hΓ ho hg hf hio hargs hx0 hk next Q hnext
  ·cases hk
 ·cases hk
theorem EF:∀{cs:List AC},cs.all AC.yX=true→∀{c:RC}{A:Nat→Nat→Prop}{hw:Nat→Nat}{w:World}{vs:List Value}{fp:List Nat},aA c vs cs fp→c.w=w→c.hw=hw→aA (bS A hw w) vs (cs.map AC.strip) fp
 |[],_,c,A,hw,w,vs,fp,h,_,_=>by
  cases vs with
  |nil=>exact h
  |cons _ _=>exact h.elim
 |x::cs,hok,c,A,hw,w,vs,fp,h,hcw,hchw=>by
  cases vs with
  |nil=>exact h.elim
  |cons v vs=>
   obtain ⟨f1,f2,rfl,h1,h2⟩:=h
   simp only [List.all_cons,Bool.and_eq_true] at hok
   refine ⟨f1,f2,rfl, ?_,EF hok.2 h2 hcw hchw⟩
   cases x with
   |sl fl e xs=>
    cases fl with
    |own t=>exact ⟨by have:=h1.1;rw [hcw,hchw] at this;exact this,by simp⟩
    |arg=>cases hok.1
    |loc _ _=>cases hok.1
    |nest _ _ _ _ _ _=>cases hok.1
    |part _ _ _ _=>cases hok.1
    |holed _ _ _=>cases hok.1
   |int k n=>exact h1
   |bool b=>exact h1
   |str s=>exact h1
   |fn f=>exact h1
   |nilsl=>cases hok.1
   |ptr s off=>cases hok.1
   |elt fl e y i off=>cases hok.1
   |un=>cases hok.1
   |bot=>cases hok.1
theorem bh.Wv {g:Gh}(h:bh C g st a w [])(s:Nat){cs:List AC}(hbx:st.boxes[s]?=some (some cs)):
 ∃arr T fr fp,w.heap[g.β s]?=some (.cells arr T fr)∧ni arr fr∧aA (aP C g st w) arr.toList cs fp∧fp.Nodup∧g.β s∉fp∧(∀b∈fp,b<w.heap.size)∧g.hw (g.β s)=0∧
  ∀(w':World)(hw':Nat→Nat)(arr':Array Value)(T':TypeId)(fr':Nat×Nat)(cs':List AC)(fp':List Nat),Fr (fun b=>b=g.β s∨b∈fp) w w'→w'.heap[g.β s]?=some (.cells arr' T' fr')→ni arr' fr'→
   aA (bS (fun _ _=>False) hw' w') arr'.toList cs' fp'→fp'.Nodup→g.β s∉fp'→(∀b∈fp',b<w'.heap.size∧(b∈fp∨w.heap.size≤b))→
   ∃g',bh C g' {(st.bO s (some (tA (st.ep+1) (st.eN (some s)) 0 cs'))).cp (some s) with ep:=st.ep+1} a w' []:=by
 obtain ⟨arr,T,fr,fp,hblk,hth,hr,hn,hnb,hl,hl0,hw0⟩:=h.boxes s cs hbx
 have hslt:s<st.boxes.length:=(List.getElem?_eq_some_iff.1 hbx).1
 refine ⟨arr,T,fr,fp,hblk,hth,hr,hn,hnb,fun b hb=>(h.labs b _ (hl b hb)).1,hw0, ?_⟩
 intro w' hw' arr' T' fr' cs' fp' hfr hblk' hth' hrel' hn' hnb' hfp'
 let bx':List AC:=tA (st.ep+1) (st.eN (some s)) 0 cs'
 let st':AS:={(st.bO s (some bx')).cp (some s) with ep:=st.ep+1}
 let hw2:Nat→Nat:=fun b=>if b∈fp' then hw' b else if b=g.β s then 0 else g.hw b
 let lab2:Nat→Option dH:=fun b=>if b=g.β s∨b∈fp' then some (.box s) else g.lab b
 let g':Gh:=⟨hw2,g.β,lab2,sR g.hdr (st.eN (some s)) arr'.toList⟩
 have hboxes:st'.boxes=st.boxes.set s (some bx'):=by show ((st.bO s (some bx')).cp (some s)).boxes=_;rw [tN,hZ]
 have hslots:st'.slots=st.slots:=by show ((st.bO s (some bx')).cp (some s)).slots=_;rw [qU];rfl
 have hio:st'.io=st.io:=by show ((st.bO s (some bx')).cp (some s)).io=_;rw [EG];rfl
 have hiss:∀t,gk st t→gk st' t:=fun t ht=>by
  have h1:gk (st.bO s (some bx')) t:=ht
  exact yY (d:=some s) h1
 have hpr:∀t,cC st t→cC st' t:=by
  rintro t ⟨c0,hc0⟩
  by_cases hts:s=t
  ·subst hts;exact ⟨bx',by rw [hboxes];simp [hslt]⟩
  ·exact ⟨c0,by rw [hboxes,List.getElem?_set_ne hts];exact hc0⟩
 have hlab0:∀b,b=g.β s∨b∈fp→g.lab b=some (.box s):=by
  rintro b (rfl|hb)
  ·exact hl0
  ·exact hl b hb
 have hcA:∀b o u,C.A b o→w.cell? ⟨b,o,none⟩=some u→w'.cell? ⟨b,o,none⟩=some u:=by
  intro b o u hA hu
  have hb:b<w.heap.size:=World.block_lt_of_cell? w _ hu
  rw [World.cell?_of_block (a:=⟨b,o,none⟩) (hfr.block b hb (fun hm=>h.FW (hlab0 b hm) o hA))];exact hu
 have hle:(aP C g st w).Le (aP C g' st' w'):=
  ⟨rfl,fun t ht=>⟨hiss t ht,yU ht⟩,hcA,Nat.le_succ _,fun t ht=>⟨hpr t ht,rfl⟩,fun he=>absurd he (Nat.succ_ne_self _)⟩
 have hkeep:∀b x,x≠ .box s→g.lab b=some x→lab2 b=some x∧w'.heap[b]?=w.heap[b]?∧hw2 b=g.hw b:=by
  intro b x hx hb
  have hnm:¬(b=g.β s∨b∈fp):=fun hm=>hx (by have:=hlab0 b hm;rw [hb] at this;simpa using this)
  have hnm':b∉fp':=fun hm=>by
   rcases (hfp' b hm).2 with h2|h2
   ·exact hnm (.inr h2)
   ·have:=(h.labs b x hb).1;omega
  refine ⟨?_,hfr.block b (h.labs b x hb).1 hnm, ?_⟩
  ·show (if b=g.β s∨b∈fp' then _ else _)=_
   rw [if_neg (by rintro (h1|h1);exact hnm (.inl h1);exact hnm' h1)];exact hb
  ·show (if b∈fp' then _ else if b=g.β s then _ else _)=_
   rw [if_neg hnm',if_neg (fun h1=>hnm (.inl h1))]
 refine ⟨g',h.step (fun x=>x≠ .box s) hle h.defers ?_ ?_ ?_ ?_ (fun b x hk hb=>hkeep b x hk hb) ?_ ?_ (fun k u bv hk=>by simp at hk) (.inl ⟨by simp,hio⟩)⟩
 ·rw [hslots];exact h.size
 ·rw [hslots,hboxes,List.length_set];exact h.bsize
 ·refine h.frame.trans hfr (fun b hb hm=> ?_)
  rcases (h.labs b _ (hlab0 b hm)).2 with h2|h2
  ·omega
  ·exact h2
 ·intro b x hx
  have hx':(if b=g.β s∨b∈fp' then some (dH.box s) else g.lab b)=some x:=hx
  have hz:=hfr.size
  split at hx'
  ·rename_i hm
   rcases hm with rfl|hm
   ·have:=h.labs _ _ hl0;exact ⟨by omega,this.2⟩
   ·refine ⟨(hfp' b hm).1, ?_⟩
    rcases (hfp' b hm).2 with h2|h2
    ·exact (h.labs b _ (hl b h2)).2
    ·exact .inl (Nat.le_trans h.frame.size h2)
  ·have:=h.labs b x hx';exact ⟨by omega,this.2⟩
 ·intro i av hi
  rw [hslots] at hi
  exact .inl ⟨by simp,hi,rfl⟩
 ·intro t cs2 hb
  rw [hboxes] at hb
  by_cases hts:t=s
  ·subst hts
   rw [List.getElem?_set] at hb
   simp only [if_true,hslt] at hb
   simp at hb;subst hb
   refine .inr ⟨arr',T',fr',fp',hblk',hth', ?_,hn',hnb',fun b hb=> ?_, ?_, ?_⟩
   ·have:=tL (c:=aP C g' st' w') (A':=fun _ _=>False) (hw:=hw') (mk:=st.eN (some t)) (fun _ _ hf=>hf.elim) 0 (vs:=arr'.toList) (xs:=cs') (fp:=fp') hrel'
     (fun b hb=>by show (if b∈fp' then _ else _)=_;rw [if_pos hb])
     (fun i u hu q hq=>by
      rw [Nat.zero_add] at hq
      have hm:=ny hq
      have hm2:gk st' q:=by
       have h1:st.eN (some t) i=some q:=hq
       have h2:(st.bO t (some bx')).eN (some t) i=some q:=h1
       exact (ny h2).2.1
      exact ⟨hm2,yT hu hq⟩)
    exact this
   ·show (if b=g.β t∨b∈fp' then _ else _)=_
    rw [if_pos (.inr hb)]
   ·show (if g.β t=g.β t∨g.β t∈fp' then _ else _)=_
    rw [if_pos (.inl rfl)]
   ·show (if g.β t∈fp' then _ else if g.β t=g.β t then _ else _)=_
    rw [if_neg hnb',if_pos rfl]
  ·rw [List.getElem?_set_ne (Ne.symm hts)] at hb
   exact .inl ⟨by simpa using hts,hb,rfl⟩
theorem YW {Γ:aJ}(hΓ:∀f,ai P f (Γ f)){o':Oper}{f:Operand}{args:Array Operand}{ts:Array TypeId}(ho:o'.op= .call {callee:= .value f,args,argTypes:=ts}){g:Gh}(hg:bh C g st a w []){k:Nat}
 (hf:st.rd f= .val false [.fn k]) (hbx:(Γ k).bx=true) {K:AS→Option R} (hk:uK Γ o' k args.toList st K=some r) (next:Act→World→Prop) (Q:Exit→Act→World→Prop)
 (hnext:∀st' a' w',g8 C st' a' w'→K st'=some r→next a' w'):o'.wp P a w next Q:=by
 have hfv:=hg.rd f
 rw [hf] at hfv
 have hfv:=(bt hfv).1
 unfold uK at hk
 split at hk
 ·rename_i x0 xs hargs
  split at hk
  ·rename_i s hx0
   split at hk
   ·rename_i cs hb0
    have hb:st.boxes[s]?=some (some cs):=by
     rw [bm] at hb0
     cases hq:st.boxes[s]? with
     |none=>rw [hq] at hb0;simp at hb0
     |some q=>rw [hq] at hb0;simp at hb0;rw [hb0]
    cases hc:(cs.all AC.yX&&xs.all (fun x=>(st.rd x).cv)) with
    |false=>rw [hc] at hk;cases hk
    |true=>
     rw [hc] at hk
     simp only [cond_true] at hk
     simp only [Bool.and_eq_true] at hc
     cases hres:(Γ k).fn (.val true (cs.map AC.strip)::xs.map st.rd) with
     |none=>rw [hres] at hk;cases hk
     |some y=>
      rw [hres] at hk
      simp only [aa] at hk
      cases hc2:(((Γ k).back y).all AC.yX&&((Γ k).av y).cv) with
      |false=>rw [hc2] at hk;cases hk
      |true=>
       rw [hc2] at hk
       simp only [cond_true] at hk
       simp only [Bool.and_eq_true] at hc2
       obtain ⟨⟨fn,c,hfn,hbody,hname⟩,_,_,hcalls⟩:=hΓ k _ y hres
       have hcalls:=hcalls hbx _ _ rfl
       have hrd:=hg.rd x0
       rw [hx0] at hrd
       have hpv:=vW hrd
       obtain ⟨arr,T,fr,fp,hblk,hth,hrel,hn,hnb,hlt,hw0,hfin⟩:=hg.Wv s hb
       have hcall:=hcalls (fun _ _=>False) w (g.β s) (xs.map a.eval) arr T fr g.hw fp (fun _ _ hf=>hf.elim) hblk hth (EF hc.1 hrel rfl rfl) hn hnb hlt hw0 (xJ hg xs hc.2)
       have hpv':a.eval x0= .pointer (some ⟨g.β s,0,none⟩):=hpv
       have hargs':(Value.pointer (some ⟨g.β s,0,none⟩)::xs.map a.eval).toArray=args.map a.eval:=by apply Array.ext';simp [hargs,hpv']
       rw [hargs'] at hcall
       have hrun:(execOp a.eval o').run P w= .ok (.enter k (args.map a.eval)) w:=by
        simp [execOp,ho,resolve,hfv,Deferred.ofValue,invoke,callFunc,hfn,hbody]
        simpa using hname
       unfold Oper.wp
       rw [hrun,Oper.upon_enter]
       refine hcall.mono ?_
       rintro e w' ⟨v,hw',fv,arr',T',fr',fp',rfl,hrv,hblk',hth',hrel',hn',hnb',hfp',hfr⟩
       show next (a.put o'.dst v) w'
       obtain ⟨g',hg'⟩:=hfin w' hw' arr' T' fr' ((Γ k).back y) fp' hfr hblk' hth' hrel' hn' hnb' hfp'
       exact hnext _ _ _ ⟨g',hg'.quiet o'.dst (zL hrv hc2.2)⟩ hk
   ·cases hk
  ·cases hk
 ·cases hk
theorem Ww {Γ:aJ}(hΓ:∀f,ai P f (Γ f)){o':Oper}{f:Operand}{args:Array Operand}{ts:Array TypeId}(ho:o'.op= .call {callee:= .value f,args,argTypes:=ts})(h:g8 C st a w){K:AS→Option R}
 (hk:wT Γ o' f args.toList st K=some r) (next:Act→World→Prop) (Q:Exit→Act→World→Prop) (hnext:∀st' a' w',g8 C st' a' w'→K st'=some r→next a' w'):o'.wp P a w next Q:=by
 obtain ⟨g,hg⟩:=h
 unfold wT at hk
 split at hk
 ·rename_i k hf
  have hfv:=hg.rd f
  rw [hf] at hfv
  have hfv:=(bt hfv).1
  cases hbx:(Γ k).bx with
  |true=>rw [hbx] at hk;exact YW hΓ ho hg hf hbx hk next Q hnext
  |false=>
  rw [hbx] at hk
  simp only [cond_false] at hk
  cases hio:(Γ k).io with
  |true=>rw [hio] at hk;exact ahi hΓ ho hg hf hio hk next Q hnext
  |false=>
  rw [hio] at hk
  simp only [cond_false] at hk
  cases hres:(Γ k).fn (args.toList.map fun x=>((st.rd x).fresh st).asArg st.ep) with
  |none=>rw [hres] at hk;cases hk
  |some y0=>
   rw [hres] at hk
   simp only [aa] at hk
   obtain ⟨⟨fn,c,hfn,hbody,hname⟩,hcalls,_⟩:=hΓ k _ y0 hres
   have hcalls:=hcalls hio hbx
   have hk:K ((st.cp o'.dst).put o'.dst (((Γ k).res y0).CW st.ep (st.eN o'.dst)))=some r:=by
    unfold al.res
    cases hsel:(Γ k).sel y0 with
    |true=>rw [hsel] at hk;exact hk
    |false=>rw [hsel] at hk;exact hk
   generalize hy0:(Γ k).res y0=y at hk hcalls
   have hcall:=hcalls (fun b o=>(aP C g st w).S b o∧b<w.heap.size) w (args.toList.map a.eval) (fun _ _ h=>h.2) (J7 hg args.toList)
   have hargs:(args.toList.map a.eval).toArray=args.map a.eval:=by apply Array.ext';simp
   rw [hargs] at hcall
   have hrun:(execOp a.eval o').run P w= .ok (.enter k (args.map a.eval)) w:=by
    simp [execOp,ho,resolve,hfv,Deferred.ofValue,invoke,callFunc,hfn,hbody]
    simpa using hname
   unfold Oper.wp
   rw [hrun,Oper.upon_enter]
   refine hcall.mono ?_
   rintro e w' ⟨v,hw,fp,rfl,hrel,hnd,hfp,hfr⟩
   show next (a.put o'.dst v) w'
   let hw':Nat→Nat:=fun b=>if b∈fp then hw b else g.hw b
   have hnin:∀b,b<w.heap.size→b∉fp:=fun b hb hm=>by have:=(hfp b hm).1;omega
   have hA':∀(hd:Nat→Value)(b o:Nat),((aP C g st w).S b o∧b<w.heap.size)→(aP C {g with hw:=hw',hdr:=hd} (st.cp o'.dst) w').S b o:=by
    rintro hd b o ⟨hs,hb⟩
    rcases hs with hs|hs
    ·exact .inl hs
    ·exact .inr (by simp only [aP,hw',if_neg (hnin b hb)];exact hs)
   have hrel':∃hd,(∀t,gk st t→hd t=g.hdr t)∧cq (aP C {g with hw:=hw',hdr:=hd} (st.cp o'.dst) w') v (y.CW st.ep (st.eN o'.dst)) fp:=by
    have hfpw:∀b∈fp,hw' b=hw b:=fun b hb=>by simp [hw',hb]
    cases y with
    |val gg cs=>
     obtain ⟨vs,hcut,hr⟩:=hrel
     refine ⟨sR g.hdr (st.eN o'.dst) vs,fun t ht=>yU ht,vs,hcut, ?_⟩
     have:=tL (c:=aP C {g with hw:=hw',hdr:=sR g.hdr (st.eN o'.dst) vs} (st.cp o'.dst) w') (mk:=st.eN o'.dst) (hA' _) 0 hr hfpw
      (fun i u hu t ht=>by rw [Nat.zero_add] at ht;exact ⟨(ny ht).2.1,yT hu ht⟩)
     have hep:(aP C {g with hw:=hw',hdr:=sR g.hdr (st.eN o'.dst) vs} (st.cp o'.dst) w').ep=st.ep:=zG
     rw [hep] at this
     exact this
    |tup ts=>
     obtain ⟨ws,hv,hr⟩:=hrel
     obtain ⟨all,hall⟩:=GS hr
     refine ⟨sR g.hdr (st.eN o'.dst) all,fun t ht=>yU ht,ws,hv, ?_⟩
     have:=N0 (c:=aP C {g with hw:=hw',hdr:=sR g.hdr (st.eN o'.dst) all} (st.cp o'.dst) w') (mk:=st.eN o'.dst) (hA' _) hall 0 hfpw
      (fun i u hu t ht=>by rw [Nat.zero_add] at ht;exact ⟨(ny ht).2.1,yT hu ht⟩)
     have hep:(aP C {g with hw:=hw',hdr:=sR g.hdr (st.eN o'.dst) all} (st.cp o'.dst) w').ep=st.ep:=zG
     rw [hep] at this
     exact this
   obtain ⟨hd,hhd,hrel'⟩:=hrel'
   obtain ⟨g',hg'⟩:=hg.Jp o'.dst (hw':=hw') (hdr':=hd) (fp:=fp) (st1:=st.cp o'.dst) EG qU tN zG (fun t ht=>⟨yY ht,hhd t ht⟩)
    ⟨hfr.os,hfr.tape,hfr.output,hfr.size,fun b hb _=>hfr.block b hb (fun m=>m)⟩ (fun b x hx _=>by simp [hw',hnin b (hg.labs b x hx).1])
    (fun b o u ho hu=>by
     have hb:b<w.heap.size:=World.block_lt_of_cell? w _ hu
     exact ⟨by simp [hw',hnin b hb];exact ho,uL hfr hu⟩) hrel' hnd (fun b hb=>⟨(hfp b hb).2,.inr (hfp b hb).1⟩)
   exact hnext _ _ _ ⟨g',hg'⟩ hk
 ·cases hk
end Go.Dn
