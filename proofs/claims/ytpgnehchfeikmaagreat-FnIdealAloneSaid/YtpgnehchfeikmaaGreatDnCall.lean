import Derived.Test.YtpgnehchfeikmaaGreatDnOps8
/- A call by value: what a callee promises, and what the caller makes of it. -/
namespace Go.Dn
open Go.RowKit
variable {P:Program} {C:Ctx} {st:AS} {a:Act} {w:World} {R:Type} {r:R}
def dc (A:Rg)(hw:Nat→Nat)(w:World):RC:=⟨hw,λ_=>0,A,λ_=>undef,λ_=>False,0,λ_=>False,w⟩
def il (A:Rg)(w:World):List Value→List AV→Prop
 |[],[]=>True
 |v::vs,x::xs=>dG (dc A (λ_=>0) w) v x []∧il A w vs xs
 |_,_=>False
def acv (P:Program)(f:Nat)(F:aW)(y:F.R)(g:Bool)(cs:List AC)(rest:List AV):Prop:=
 ∀(A:Rg)(w:World)(v0:Value)(vs:List Value)(hw:Nat→Nat)(fp:List Nat),(∀k b o,A k b o→b<w.heap.size∧b∉fp)→dG (dc A hw w) v0 (.val g cs) fp→fp.Nodup→(∀b∈fp,b<w.heap.size)→il A w vs rest→
  Calls P f (v0::vs).toArray w λe w'=>∃v hw' fr fp',e=.returned v∧dG (dc A hw' w') v (F.av y) fr∧dG (dc A hw' w') v0 (.val g (F.back y)) fp'∧fp'.Nodup∧
   (∀b∈fp',b<w'.heap.size∧(b∈fp∨w.heap.size≤b))∧Fr (λb=>b∈fp) w w'
def YH (P:Program)(f:Nat)(F:aW)(y:F.R)(cs:List AC)(rest:List AV):Prop:=
 ∀(A:Rg)(w:World)(b:Nat)(vs:List Value)(arr:Array Value)(T:TypeId)(fr:Nat×Nat)(hw:Nat→Nat)(fp:List Nat),(∀k b' o,A k b' o→b'<w.heap.size∧b'≠b∧b'∉fp)→
  w.heap[b]?=some (.cells arr T fr)→kj arr fr→aV (dc A hw w) arr.toList cs fp→fp.Nodup→b∉fp→(∀b'∈fp,b'<w.heap.size)→hw b=0→il A w vs rest→
  Calls P f (.pointer (some ⟨b,0,none⟩)::vs).toArray w λe w'=>∃v hw' fv arr' T' fr' fp',e=.returned v∧dG (dc A hw' w') v (F.av y) fv∧w'.heap[b]?=some (.cells arr' T' fr')∧kj arr' fr'∧
   aV (dc A hw' w') arr'.toList (F.back y) fp'∧fp'.Nodup∧b∉fp'∧(∀b'∈fp',b'<w'.heap.size∧(b'∈fp∨w.heap.size≤b'))∧fv.Nodup∧(∀b'∈fv,b'<w'.heap.size∧(b'∈fp∨w.heap.size≤b')∧b'∉fp'∧b'≠b)∧Fr (λb'=>b'=b∨b'∈fp) w w'
def Ui (P:Program)(f:Nat)(F:aW)(y:F.R)(xs:List AV):Prop:=
 ∀(A:Rg)(w:World)(vs:List Value),(∀k b o,A k b o→b<w.heap.size)→il A w vs xs→
  Calls P f vs.toArray w λe w'=>∃b arr T fr hw,e=.returned (.pointer (some ⟨b,0,none⟩))∧w.heap.size≤b∧w'.heap[b]?=some (.cells arr T fr)∧kj arr fr∧aV (dc A hw w') arr.toList (F.back y) []∧Fr (λ_=>False) w w'
def aU (P:Program)(f:Nat)(F:aW):Prop:=
 ∀(xs:List AV)(y:F.R),F.fn xs=some y→
  (∃fn c,P.funcs[f]?=some fn∧fn.body=some c∧(fn.name== "runtime.NumGoroutine")=false)∧
  (F.io=false→F.bx=false→∀(A:Rg)(w:World)(vs:List Value),(∀k b o,A k b o→b<w.heap.size)→il A w vs xs→
    Calls P f vs.toArray w λe w'=>∃v hw fp,e=.returned v∧dG (dc A hw w') v (F.res y) fp∧fp.Nodup∧(∀b∈fp,w.heap.size≤b∧b<w'.heap.size)∧Fr (λ_=>False) w w')∧
  (F.io=true→∀g cs rest,xs=.val g cs::rest→acv P f F y g cs rest)∧
  (F.bx=true→∀cs rest,xs=.val true cs::rest→YH P f F y cs rest)∧
  (F.pr=true→Ui P f F y xs)
theorem gK {c c':RC}{v:Value}{x:AC}{fp:List Nat}(h:eg c v x fp)(hf:x.dW=true):fp=[]∧eg c' v x []:=by cases x with|int k n=>exact⟨h.2,h.1,rfl⟩|bool b=>exact⟨h.2,h.1,rfl⟩|str s=>exact⟨h.2,h.1,rfl⟩|fn f=>exact⟨h.2,h.1,rfl⟩|_=>cases hf
theorem xf {c c':RC}:∀{vs:List Value}{xs:List AC}{fp:List Nat},aV c vs xs fp→xs.all AC.dW=true→fp=[]∧aV c' vs xs []
 |[],[],_,h,_=>⟨h,rfl⟩
 |_::_,_::_,_,h,hf=>by obtain⟨f1,f2,rfl,h1,h2⟩:=h;simp only[bp,ab]at hf;obtain⟨rfl,k1⟩:=gK (c':=c') h1 hf.1;obtain⟨rfl,k2⟩:=xf (c':=c') h2 hf.2;exact⟨rfl,[],[],rfl,k1,k2⟩
 |[],_::_,_,h,_=>h.elim
 |_::_,[],_,h,_=>h.elim
theorem HT {c c':RC}:∀{ws:List Value}{ts:List (Bool×List AC)}{fp:List Nat},dG.kM c ws ts fp→(ts.all λx=>x.2.all AC.dW)=true→dG.kM c' ws ts []
 |[],[],_,_,_=>rfl
 |_::_,_::_,_,h,hf=>by obtain⟨f1,f2,rfl,⟨vs,hv,h1⟩,h2⟩:=h;simp only[bp,ab]at hf;exact⟨[],[],rfl,⟨vs,hv,(xf h1 hf.1).2⟩,HT h2 hf.2⟩
 |[],_::_,_,h,_=>h.elim
 |_::_,[],_,h,_=>h.elim
theorem tI {c c':RC}{v:Value}{x:AV}{fp:List Nat}(h:dG c v x fp)(hf:x.dW=true):dG c' v x []:=by
 cases x with
 |val g cs=>obtain⟨vs,hv,h⟩:=h;exact⟨vs,hv,(xf h hf).2⟩
 |tup ts=>obtain⟨ws,hv,h⟩:=h;exact⟨ws,hv,HT h hf⟩
theorem C2 {c:RC}{A:Rg}:∀(os ss:List AC){r:List AC}{vs us:List Value}{f:List Nat},ib os ss=some r→aV c vs os []→aV c us ss f→aV (dc A c.hw c.w) vs r f:=by
 intro os;induction os with
 |nil=>intro ss r vs us f h hv hu;cases ss with|cons _ _=>simp[ib]at h|nil=>simp[ib]at h;subst h;cases vs with|cons _ _=>exact hv.elim|nil=>cases us with|cons _ _=>exact hu.elim|nil=>exact hu
 |cons o os ih=>
  intro ss r vs us f h hv hu;cases vs with
  |nil=>exact hv.elim
  |cons v vs=>
   cases ss with
   |nil=>unfold ib at h;split at h<;>first|contradiction|cases h
   |cons s ss=>
    cases us with
    |nil=>exact hu.elim
    |cons u us=>
     obtain⟨g1,g2,hg,hv1,hv2⟩:=hv;have e1:g1=[]:=by have:=hg.symm;simp at this;exact this.1
     have e2:g2=[]:=by have:=hg.symm;simp at this;exact this.2
     subst e1;subst e2;obtain⟨f1,f2,rfl,hu1,hu2⟩:=hu;have fl:∀{x:AC}{r'},x.dW=true→s.dW=true→o=x→ib os ss=some r'→r=x::r'→aV (dc A c.hw c.w) (v::vs) r (f1++f2):=by rintro x r' hx hs rfl hr rfl;obtain⟨rfl,_⟩:=gK (c':=c) hu1 hs;exact⟨[],f2,rfl,(gK hv1 hx).2,ih ss hr hv2 hu2⟩
     unfold ib at h;split at h;contradiction;rename_i ep rt t e0 xs0 os' t' e xs ss' h1 h2;injection h1 with h1 h1';subst h1;subst h1';injection h2 with h2 h2';subst h2;subst h2';cases ht:(t'==t)with
     |false=>rw[ht]at h;cases h
     |true=>
      have:t'=t:=by simpa using ht
      subst this;rw[ht]at h;simp only[ah]at h;obtain⟨r',hr,h⟩:=ay.1 h;cases h;have hv':=(hv1.2.2.2.2 rt t' rfl).2;have hu':=(hu1.2 t' rfl).2;have huv:u=v:=hu'.trans hv'.symm;subst huv;exact⟨f1,f2,rfl,⟨hu1.1,by simp⟩,ih _ hr hv2 hu2⟩
     rename_i k n os' k' n' ss' h1 h2;injection h1 with h1 h1';subst h1';injection h2 with h2 h2';subst h2;subst h2';obtain⟨r',hr,h⟩:=ay.1 h;cases h;exact fl (x:=.int k n) rfl rfl h1 hr rfl;rename_i k os' k' ss' h1 h2;injection h1 with h1 h1';subst h1';injection h2 with h2 h2';subst h2;subst h2';obtain⟨r',hr,h⟩:=ay.1 h;cases h;exact fl (x:=.bool k) rfl rfl h1 hr rfl;rename_i k os' k' ss' h1 h2;injection h1 with h1 h1';subst h1';injection h2 with h2 h2';subst h2;subst h2';obtain⟨r',hr,h⟩:=ay.1 h;cases h;exact fl (x:=.str k) rfl rfl h1 hr rfl;cases h
theorem JE {c c':RC}{A:Rg}{hw':Nat→Nat}(hle:c.Le c'):∀(os ss bs:List AC){seg:List AC}{vs us:List Value}{f f':List Nat},sY os ss bs=some seg→aV c vs os []→aV c us ss f→ aV (dc A hw' c'.w) vs bs f'→(∀b∈f',c'.hw b=hw' b)→aV c' us seg f':=by
 intro os;induction os with
 |nil=>
  intro ss bs seg vs us f f' h hv hu hb _;unfold sY at h;split at h;cases h;cases us with|cons _ _=>exact hu.elim|nil=>cases vs with|cons _ _=>exact hv.elim|nil=>exact hb
  all_goals first|contradiction|cases h
 |cons o os ih=>
  intro ss bs seg vs us f f' h hv hu hb hh;unfold sY at h;split at h;contradiction;rename_i ep rt t' e0 xs0 os' t e1 xs1 ss' tg e ys bs' h1;injection h1 with h1 h1';subst h1;subst h1';cases ht:(t==t')with
  |false=>rw[ht]at h;cases h
  |true=>
   have:t=t':=by simpa using ht
   subst this;rw[ht]at h;simp only[ah]at h;obtain⟨r',hr,h⟩:=ay.1 h;cases h;cases vs with
   |nil=>exact hv.elim
   |cons v vs=>
    cases us with
    |nil=>exact hu.elim
    |cons u us=>
     obtain⟨g1,g2,hg,hv1,hv2⟩:=hv;have e1:g1=[]:=by have:=hg.symm;simp at this;exact this.1
     have e2:g2=[]:=by have:=hg.symm;simp at this;exact this.2
     subst e1;subst e2;obtain⟨f1,f2,rfl,hu1,hu2⟩:=hu;obtain⟨f1',f2',rfl,hb1,hb2⟩:=hb;have hv':=(hv1.2.2.2.2 rt t rfl).2;have hu':=hu1.2 t rfl;have huv:u=v:=hu'.2.trans hv'.symm;refine⟨f1',f2',rfl,⟨?_,λq hq=>?_⟩,ih _ _ hr hv2 hu2 hb2 (λb hb=>hh b (aI _ hb))⟩;rw[huv];exact cR.mono hb1.1 (λb hb=>⟨rfl,hh b (aS _ hb)⟩);cases hq;exact⟨(hle.hdr t hu'.1).1,by rw[(hle.hdr t hu'.1).2];exact hu'.2⟩
  all_goals first
   |cases h
   |(rename_i h1
     injection h1 with h1 h1';subst h1'
     obtain⟨r',hr,h⟩:=ay.1 h
     cases h
     cases vs with
     |nil=>exact hv.elim
     |cons v vs=>
      cases us with
      |nil=>exact hu.elim
      |cons u us=>
       obtain⟨g1,g2,hg,hv1,hv2⟩:=hv
       have e1:g1=[]:=by have:=hg.symm;simp at this;exact this.1
       have e2:g2=[]:=by have:=hg.symm;simp at this;exact this.2
       subst e1;subst e2
       obtain⟨f1,f2,rfl,hu1,hu2⟩:=hu
       obtain⟨f1',f2',rfl,hb1,hb2⟩:=hb
       have k1:=(gK (c':=c) hb1 rfl).1
       subst k1
       exact⟨[],f2',rfl,(gK hu1 rfl).2,ih _ _ hr hv2 hu2 hb2 (λb hb=>hh b (aI _ hb))⟩)
theorem Kj {c:RC}{v:Value}{x:AC}{fp:List Nat}(h:eg c v x fp):eg (dc (λ_ b o=>c.S b o∧b<c.w.heap.size) (λ_=>0) c.w) v (x.asArg c.ep) []:=by
 have hS:∀{e:CT}{xs:List e.D},fu c.w c.S (.sl e) [v] xs→fu c.w (λb o=>c.S b o∧b<c.w.heap.size) (.sl e) [v] xs:=λhr=>
  fu.mono (λb o u hs hu=>⟨⟨hs,World.block_lt_of_cell? c.w _ hu⟩,hu⟩) hr
 cases x with|int k n=>exact⟨h.1,rfl⟩|bool b=>exact⟨h.1,rfl⟩|str s=>exact⟨h.1,rfl⟩|nilsl=>exact⟨h.1,rfl⟩|fn f=>exact⟨h.1,rfl⟩|ptr s off=>exact rfl|un=>exact rfl|bot=>exact rfl|elt fl e y i off=>exact rfl|sl fl e xs=>cases fl with|nest _ _ _ _ _ _=>exact rfl|part _ _ _ _=>exact rfl|holed _ _ _=>exact rfl|own t=>exact⟨rfl,hS (cR.rep (λb o ho=> .inr ho) h.1)⟩|arg k=>exact⟨rfl,hS (fu.mono (λb o u hs hu=>⟨.inl ⟨k,hs⟩,hu⟩) h.2)⟩|loc ep pv=>simp only[AC.asArg];split;rename_i he;exact⟨rfl,hS (h.2.2.2.1 (by simpa using he))⟩;exact rfl
theorem zS {c:RC}:∀{vs:List Value}{xs:List AC}{fp:List Nat},aV c vs xs fp→aV (dc (λ_ b o=>c.S b o∧b<c.w.heap.size) (λ_=>0) c.w) vs (xs.map (AC.asArg c.ep)) []
 |[],[],_,_=>rfl
 |_::_,_::_,_,h=>by obtain⟨f1,f2,rfl,h1,h2⟩:=h;exact⟨[],[],rfl,Kj h1,zS h2⟩
 |[],_::_,_,h=>h.elim
 |_::_,[],_,h=>h.elim
theorem ND {c:RC}{v:Value}{x:AV}{fp:List Nat}(h:dG c v x fp):dG (dc (λ_ b o=>c.S b o∧b<c.w.heap.size) (λ_=>0) c.w) v (x.asArg c.ep) []:=by
 cases x with
 |val g cs=>obtain⟨vs,hv,h⟩:=h;exact⟨vs,hv,zS h⟩
 |tup ts=>exact dG.bot _ _
theorem He {g:Gh}(h:cw C g st a w []):∀(args:List Operand),
 il (λ_ b o=>(bH C g st w).S b o∧b<w.heap.size) w (args.map a.eval) (args.map λx=>((st.rd x).fresh st).asArg st.ep)
 |[]=>trivial
 |x::xs=>⟨ND (c:=bH C g st w) (h.fresh (h.rd x)),He h xs⟩
theorem Kk {c:RC}{A':Rg}{hw:Nat→Nat}{v:Value}{x:AC}{fp:List Nat}{tag:Option Nat}(h:eg (dc A' hw c.w) v x fp)(hA:∀k b o,A' k b o→c.S b o)(hhw:∀b∈fp,c.hw b=hw b)(ht:∀t,tag=some t→c.iss t∧v=c.hdr t):eg c v (x.uT c.ep tag) fp:=by
 cases x with
 |int k n=>exact h
 |bool b=>exact h
 |str s=>exact h
 |nilsl=>exact h
 |fn f=>exact h
 |ptr s off=>exact h.2.2
 |un=>exact h
 |bot=>exact h
 |elt fl e y i off=>cases fl with|own t=>exact h.elim|nest _ _ _ _ _ _=>exact h.elim|part _ _ _ _=>exact h.elim|holed _ _ _=>exact h.elim|arg _=>exact h.1|loc ep pv=>exact h.1
 |sl fl e xs=>
  cases fl with
  |nest _ _ _ _ _ _=>exact h.1
  |part _ _ _ _=>exact h.1
  |holed _ _ _=>obtain⟨_,⟨k,hk,h3⟩,_⟩:=h;exact⟨λq hq=>(by cases hq),⟨k,hk,h3.mono (λb hb=>⟨rfl,hhw b hb⟩)⟩,by simp⟩
  |own t=>exact⟨cR.mono h.1 (λb hb=>⟨rfl,hhw b hb⟩),ht⟩
  |loc ep pv=>exact h.1
  |arg _=>have hr:fu c.w c.S (.sl e) [v] xs:=fu.mono (λb o u hs hu=>⟨hA _ b o hs,hu⟩) h.2;refine⟨h.1,aQ _,?_,λ_=>hr,by simp⟩;obtain⟨u,hu,k⟩:=hr;simp at hu;subst hu;rcases k with⟨⟨ad,rfl⟩,rfl⟩|⟨b,o,cap,rfl,_⟩;exact⟨_,_,_,rfl,rfl⟩;exact⟨_,_,_,rfl,rfl⟩
theorem sD {c:RC}{A':Rg}{hw:Nat→Nat}{mk:Nat→Option Nat}(hA:∀k b o,A' k b o→c.S b o):∀{vs:List Value}{xs:List AC}{fp:List Nat}(j:Nat),aV (dc A' hw c.w) vs xs fp→(∀b∈fp,c.hw b=hw b)→
 (∀i v,vs[i]?=some v→∀t,mk (j+i)=some t→c.iss t∧v=c.hdr t)→aV c vs (yz c.ep mk j xs) fp
 |[],[],_,_,h,_,_=>h
 |v::_,_::_,_,j,h,hh,hm=>by obtain⟨f1,f2,rfl,h1,h2⟩:=h;exact⟨f1,f2,rfl,Kk h1 hA (λb hb=>hh b (aS _ hb)) (λt ht=>hm 0 v rfl t ht),sD hA (j+1) h2 (λb hb=>hh b (aI _ hb)) (λi u hu t ht=>hm (i+1) u (by simpa using hu) t (by rwa[show j+(i+1)=j+1+i by omega]))⟩
 |[],_::_,_,_,h,_,_=>h.elim
 |_::_,[],_,_,h,_,_=>h.elim
inductive Leaves (A:Rg) (hw:Nat→Nat) (w:World):List Value→List (Bool×List AC)→List Nat→List Value→Prop
 |nil:Leaves A hw w [] [] [] []
 |cons {v:Value} {vs:List Value} {g:Bool} {cs:List AC} {ts:List (Bool×List AC)} {f1 f2:List Nat} {us all:List Value} (hcut:Cut g v us) (hr:aV (dc A hw w) us cs f1) (h:Leaves A hw w vs ts f2 all):
  Leaves A hw w (v::vs) ((g,cs)::ts) (f1++f2) (us++all)
theorem zr {A:Rg}{hw:Nat→Nat}{w:World}:∀{ws:List Value}{ts:List (Bool×List AC)}{fp:List Nat},dG.kM (dc A hw w) ws ts fp→∃all,Leaves A hw w ws ts fp all
 |[],[],_,h=>by cases h;exact⟨[],.nil⟩
 |_::_,(g,cs)::_,_,h=>by obtain⟨f1,f2,rfl,⟨us,hcut,hr⟩,h2⟩:=h;obtain⟨all,hall⟩:=zr h2;exact⟨us++all,.cons hcut hr hall⟩
 |[],_::_,_,h=>h.elim
 |_::_,[],_,h=>h.elim
theorem CC {c:RC}{A':Rg}{hw:Nat→Nat}{mk:Nat→Option Nat}(hA:∀k b o,A' k b o→c.S b o){ws:List Value}{ts:List (Bool×List AC)}{fp:List Nat}{all:List Value}(h:Leaves A' hw c.w ws ts fp all): ∀j,(∀b∈fp,c.hw b=hw b)→(∀i v,all[i]?=some v→∀t,mk (j+i)=some t→c.iss t∧v=c.hdr t)→dG.kM c ws (LI c.ep mk j ts) fp:=by induction h with|nil=>intro j _ _;exact rfl| @cons v vs g cs ts f1 f2 us all hcut hr h ih=>intro j hh hm;have hl:=hr.length;refine⟨f1,f2,rfl,⟨us,hcut,sD hA j hr (λb hb=>hh b (aS _ hb)) (λi u hu t ht=>?_)⟩,ih _ (λb hb=>hh b (aI _ hb)) (λi u hu t ht=>?_)⟩;exact hm i u (by rw[List.getElem?_append_left (List.getElem?_eq_some_iff.1 hu).1];exact hu) t ht;have hl':us.length=cs.length:=hl;refine hm (us.length+i) u (by rw[List.getElem?_append_right (by omega)];simpa using hu) t ?_;rw[←dw,hl'];exact ht
def kQ (hdr:Nat→Value)(mk:Nat→Option Nat)(all:List Value):Nat→Value:=λu=>if mk (u/3%4096)=some u then(all[u/3%4096]?).getD undef else hdr u
theorem rP {hdr:Nat→Value}{d:Option Nat}{all:List Value}{t:Nat}(h:gJ st t):kQ hdr (st.eD d) all t=hdr t:=by unfold kQ;rw[aq];intro e;exact(jY e).1 h
theorem rO {hdr:Nat→Value}{d:Option Nat}{all:List Value}{i t:Nat}{v:Value}(hv:all[i]?=some v)(h:st.eD d i=some t):v=kQ hdr (st.eD d) all t:=by
 obtain⟨_,_,d',rfl,ht,hi⟩:=jY h;have hidx:t/3%4096=i:=by rw[ht,yJ];omega
 unfold kQ;rw[hidx,au h,hv];rfl
theorem cw.Bi {g:Gh}(h:cw C g st a w [])(o:fj)(hnh:¬ca (some o)){f1 f2 f3:List Nat}(hn:(f1++f2++f3).Nodup)(hl:∀b∈f1++f2++f3,g.lab b=some o){w':World}{hw':Nat→Nat}{st':AS}{fp1:List Nat}(hep:st'.ep=st.ep+1)(hiss:st'.iss=st.iss)(hpres:∀s,dS st s→dS st' s)(hn1:fp1.Nodup)(hfp1:∀b∈fp1,b<w'.heap.size∧(b∈f2∨w.heap.size≤b))(hfr:Fr (λb=>b∈f2) w w')(hhw:∀b,b<w.heap.size→b∉f2→hw' b=g.hw b): (bH C g st w).Le (bH C (g.wrote o (f1++fp1++f3) hw') st' w')∧(f1++fp1++f3).Nodup∧ (∀b∈f1++fp1++f3,(g.wrote o (f1++fp1++f3) hw').lab b=some o)∧ (∀b∈f1++f3,w'.heap[b]?=w.heap[b]?∧hw' b=g.hw b)∧ (∀b x,¬ca (some x)→x≠o→g.lab b=some x→(g.wrote o (f1++fp1++f3) hw').lab b=some x∧w'.heap[b]?=w.heap[b]?∧hw' b=g.hw b)∧ (∀b,g.lab b=some o→b∉f1++f2++f3→(g.wrote o (f1++fp1++f3) hw').lab b=some o∧w'.heap[b]?=w.heap[b]?∧hw' b=g.hw b)∧ Fr C.M C.w0 w'∧(∀b x,(g.wrote o (f1++fp1++f3) hw').lab b=some x→b<w'.heap.size∧(C.w0.heap.size≤b∨C.M b)):=by
 have hn':=hn;rw[aC]at hn';have n1:=List.nodup_append.1 hn';have n2:=List.nodup_append.1 n1.2.1;have hdis:∀b∈f1++f3,b∉f2:=by intro b hb h2;rcases al.1 hb with hb|hb;exact n1.2.2 b hb b (aS _ h2) rfl;exact n2.2.2 b h2 b hb rfl
 have hcA:∀k b o u,C.A k b o→w.cell? ⟨b,o,none⟩=some u→w'.cell? ⟨b,o,none⟩=some u:=by intro k b o u hA hu;have hb:b<w.heap.size:=World.block_lt_of_cell? w _ hu;have hnl:¬(b∈f2):=λhm=>h.zq (hl b (by simp[hm])) k o hA;rw[World.cell?_of_block (a:=⟨b,o,none⟩) (hfr.block b hb hnl)];exact hu
 have hle:(bH C g st w).Le (bH C (g.wrote o (f1++fp1++f3) hw') st' w'):=⟨rfl,λt ht=>⟨by show gJ st' t;have ht':gJ st t:=ht;simpa[gJ,hiss]using ht',rfl⟩,hcA,by show st.ep≤st'.ep;omega,λs hs=>⟨hpres s hs,rfl⟩,λhe=>absurd he (by show st'.ep≠st.ep;omega)⟩
 have hkeep:∀b x,g.lab b=some x→b∉f2→w'.heap[b]?=w.heap[b]?∧hw' b=g.hw b:=by intro b x hb hm;exact⟨hfr.block b (h.labs b _ hb).1 hm,hhw b (h.labs b _ hb).1 hm⟩
 have hd1:∀b∈f1++f3,b∉fp1:=by intro b hb hm;rcases(hfp1 b hm).2 with h2|h2;exact hdis b hb h2;have:=(h.labs b _ (hl b (by rcases al.1 hb with hb|hb<;>simp[hb]))).1;omega
 refine⟨hle,?_,?_,?_,?_,?_,?_,?_⟩;rw[aC];refine List.nodup_append.2 ⟨n1.1,List.nodup_append.2 ⟨hn1,n2.2.1,?_⟩,?_⟩;rintro b hb c hc rfl;exact hd1 b (by simp[hc]) hb;rintro b hb c hc rfl;rcases al.1 hc with hc|hc;exact hd1 b (by simp[hb]) hc;exact n1.2.2 b hb b (aI _ hc) rfl;intro b hb;show(if b∈f1++fp1++f3 then _ else _)=_;rw[au hb];intro b hb;exact hkeep b o (hl b (by rcases al.1 hb with hb|hb<;>simp[hb])) (hdis b hb);intro b x hh hxo hb;have hm2:b∉f2:=λhm=>hxo (by have:=hl b (by simp[hm]);rw[hb]at this;simpa using this);refine⟨?_,hkeep b x hb hm2⟩;show(if b∈f1++fp1++f3 then _ else if ca (g.lab b) then none else g.lab b)=_;have hnin:b∉f1++fp1++f3:=by intro hm;simp only[al]at hm;rcases hm with(hm|hm)|hm;exact hxo (by have:=hl b (by simp[hm]);rw[hb]at this;simpa using this);rcases(hfp1 b hm).2 with h2|h2;exact hm2 h2;have:=(h.labs b _ hb).1;omega;exact hxo (by have:=hl b (by simp[hm]);rw[hb]at this;simpa using this)
 rw[aq hnin,aq (by rw[hb];exact hh),hb];intro b hb hm;have hm2:b∉f2:=λk=>hm (by simp[k]);refine⟨?_,hkeep b o hb hm2⟩;show(if b∈f1++fp1++f3 then _ else if ca (g.lab b) then none else g.lab b)=_;rw[aq (c:=ca (g.lab b)) (by rw[hb];exact hnh),hb];split<;>rfl;refine h.frame.trans hfr (λb hb hm=>?_);rcases(h.labs b o (hl b (by simp[hm]))).2 with h2|h2;omega;exact h2;intro b x hx;have hx':(if b∈f1++fp1++f3 then some o else if ca (g.lab b) then none else g.lab b)=some x:=hx;have hz:=hfr.size;have old:∀y,g.lab b=some y→b<w'.heap.size∧(C.w0.heap.size≤b∨C.M b):=λy hy=>⟨ek (h.labs b y hy).1 hz,(h.labs b y hy).2⟩
 split at hx';rename_i hm;simp only[al]at hm;rcases hm with(hm|hm)|hm;exact old o (hl b (by simp[hm]));rcases(hfp1 b hm).2 with h2|h2;exact old o (hl b (by simp[h2]));exact⟨(hfp1 b hm).1,.inl (bS h.frame.size h2)⟩;exact old o (hl b (by simp[hm]));split at hx';cases hx';exact old x hx'
theorem xu {c':RC}{vs us:List Value}{cs seg:List AC}{f1 f2 f3:List Nat}{off n:Nat}(hus:us=(vs.drop off).take n)(hln:us.length=n)(r1:aV c' (vs.take off) (cs.take off) f1)(r2:aV c' us seg f2)(r3:aV c' (vs.drop (off+n)) (cs.drop (off+n)) f3): aV c' vs (cd cs off seg) (f1++f2++f3):=by
 have hl2:=r2.length;have e:vs=vs.take off++us++vs.drop (off+n):=by rw[hus,aC,←List.drop_drop,bI,bI]
 rw[e,cd,show seg.length=n by omega];exact aV.append (aV.append r1 r2) r3
theorem cw.QF {g:Gh}(h:cw C g st a w [])(r:fV){csO:List AC}(hown:st.mu r=some csO)(off n:Nat)(hmid:((csO.drop off).take n).length=n): ∃us f2,aV (bH C g st w) us ((csO.drop off).take n) f2∧f2.Nodup∧(∀b∈f2,b<w.heap.size∧∀k o,¬C.A k b o)∧ ∀(w':World)(hw':Nat→Nat)(seg:List AC)(fp1:List Nat),fp1.Nodup→(∀b∈fp1,b<w'.heap.size∧(b∈f2∨w.heap.size≤b))→Fr (λb=>b∈f2) w w'→ (∀b,b<w.heap.size→b∉f2→hw' b=g.hw b)→(∀c',(bH C g st w).Le c'→c'.w=w'→c'.hw=hw'→aV c' us seg fp1)→ ∃g',cw C g' {st.ki r (cd csO off seg)with ep:=st.ep+1} a w' []:=by
 have core:∀(o:fj),¬ca (some o)→∀{vs:List Value}{fp:List Nat},aV (bH C g st w) vs csO fp→fp.Nodup→(∀b∈fp,g.lab b=some o)→
  ∃us f1 f2 f3,fp=f1++f2++f3∧aV (bH C g st w) us ((csO.drop off).take n) f2∧f2.Nodup∧(∀b∈f2,b<w.heap.size∧∀k o,¬C.A k b o)∧
   ∀(w':World)(hw':Nat→Nat)(st':AS)(seg:List AC)(fp1:List Nat),st'.ep=st.ep+1→st'.iss=st.iss→(∀s,dS st s→dS st' s)→fp1.Nodup→(∀b∈fp1,b<w'.heap.size∧(b∈f2∨w.heap.size≤b))→Fr (λb=>b∈f2) w w'→
    (∀b,b<w.heap.size→b∉f2→hw' b=g.hw b)→(∀c',(bH C g st w).Le c'→c'.w=w'→c'.hw=hw'→aV c' us seg fp1)→
    aV (bH C (g.wrote o (f1++fp1++f3) hw') st' w') vs (cd csO off seg) (f1++fp1++f3):=by
  intro o hnh vs fp hr hn hl
  obtain⟨f1,f2,f3,rfl,r1,r2,r3⟩:=hr.PC off n
  have hn':=hn
  rw[aC]at hn'
  have n2:=List.nodup_append.1 (List.nodup_append.1 hn').2.1
  refine⟨_,f1,f2,f3,rfl,r2,n2.1,λb hb=>⟨(h.labs b o (hl b (by simp[hb]))).1,λk q=>h.zq (hl b (by simp[hb])) k q⟩,?_⟩
  intro w' hw' st' seg fp1 hep hiss hpres hn1 hfp1 hfr hhw hseg
  obtain⟨hle,_,_,hk,_⟩:=h.Bi o hnh hn hl hep hiss hpres hn1 hfp1 hfr hhw
  exact xu rfl (by rw[r2.length];exact hmid) (r1.mono hle λb hb=>hk b (by simp[hb])) (hseg _ hle rfl rfl) (r3.mono hle λb hb=>hk b (by simp[hb]))
 cases r with
 |slot s j=>
  simp only[AS.mu]at hown;cases hg:st.get s with
  |tup ts=>rw[hg]at hown;cases hown
  |val gg cs=>
   rw[hg]at hown;cases hown;have hlt0:s<st.slots.length∨¬s<st.slots.length:=bB s st.slots.length|>.imp id Nat.not_lt.2;obtain⟨fp,hr,hn,hl⟩:=h.slot s;rw[hg]at hr;obtain⟨vs,hcut,hr⟩:=hr;obtain⟨us,f1,f2,f3,rfl,hus,hn2,hb2,hfin⟩:=core (.slot s) (by simp[dr]) hr hn hl;refine⟨us,f2,hus,hn2,hb2,?_⟩;intro w' hw' seg fp1 hn1 hfp1 hfr hhw hseg;let st':AS:={st.ki (.slot s j) (cd csO off seg)with ep:=st.ep+1}
   have hst':st'={st with slots:=st.slots.set s (.val gg (cd csO off seg)),ep:=st.ep+1}:=by show({st.ki (.slot s j) (cd csO off seg)with ep:=st.ep+1}:AS)=_;simp only[AS.ki,hg,AS.put,di]
   have hpr:∀t,dS st t→dS st' t:=λt ht=>by rw[hst'];exact ht
   obtain⟨hle,hnn,hll,_,hk1,_,hfrC,hlabs⟩:=h.Bi (.slot s) (by simp[dr]) hn hl (st':=st') rfl (by rw[hst']) hpr hn1 hfp1 hfr hhw;have hrel:=hfin w' hw' st' seg fp1 rfl (by rw[hst']) hpr hn1 hfp1 hfr hhw hseg;refine⟨_,h.step (λx=>¬ca (some x)∧x≠ .slot s) hle h.defers ?_ ?_ hfrC hlabs (λb x hk hx=>hk1 b x hk.1 hk.2 hx) ?_ ?_ (λk u bv hk=>by simp at hk) (.inl ⟨⟨by simp[dr],by simp⟩,by show st'.io=st.io;rw[hst']⟩)⟩;show _=st'.slots.length;rw[hst'];simpa using h.size;show st'.boxes.length=st'.slots.length;rw[hst'];simpa using h.bsize;intro i av hi;have hi':(st.slots.set s (.val gg (cd csO off seg)))[i]?=some av:=by have:st'.slots[i]?=some av:=hi;rw[hst']at this;exact this
   by_cases his:i=s;subst his;rw[List.getElem?_set]at hi';simp only[bj]at hi';split at hi';simp at hi';subst hi';exact .inr ⟨_,⟨vs,hcut,hrel⟩,hnn,hll⟩;cases hi';rw[List.getElem?_set_ne (bL his)]at hi';exact .inl ⟨⟨by simp[dr],by simpa using his⟩,hi',rfl⟩;intro t cs' hb;have hb':st.boxes[t]?=some (some cs'):=by have:st'.boxes[t]?=some (some cs'):=hb;rw[hst']at this;exact this
   exact .inl ⟨⟨by simp[dr],by simp⟩,hb',rfl⟩
 |box s j=>
  have hbx:st.boxes[s]?=some (some csO):=by simp only[AS.mu,cz]at hown;cases hb:st.boxes[s]? with|none=>simp[hb]at hown|some q=>rw[hb]at hown;simp at hown;rw[hown]
  have hslt:s<st.boxes.length:=(List.getElem?_eq_some_iff.1 hbx).1;obtain⟨arr,T,fr,fp,hblk,hth,hr,hn,hnb,hl,hl0,hw0⟩:=h.boxes s csO hbx;obtain⟨us,f1,f2,f3,rfl,hus,hn2,hb2,hfin⟩:=core (.box s) (by simp[dr]) hr hn hl;refine⟨us,f2,hus,hn2,hb2,?_⟩;intro w' hw' seg fp1 hn1 hfp1 hfr hhw hseg;let st':AS:={st.ki (.box s j) (cd csO off seg)with ep:=st.ep+1}
  have hst':st'={st with boxes:=st.boxes.set s (some (cd csO off seg)),ep:=st.ep+1}:=by show({st.ki (.box s j) (cd csO off seg)with ep:=st.ep+1}:AS)=_;simp only[AS.ki,AS.cX,di]
  have hpr:∀t,dS st t→dS st' t:=λt ht=>by rw[hst'];obtain⟨c0,hc0⟩:=ht;by_cases hts:s=t;subst hts;exact⟨cd csO off seg,by simp[hslt]⟩;exact⟨c0,by rw[List.getElem?_set_ne hts];exact hc0⟩
  obtain⟨hle,hnn,hll,_,hk1,hk2,hfrC,hlabs⟩:=h.Bi (.box s) (by simp[dr]) hn hl (st':=st') rfl (by rw[hst']) hpr hn1 hfp1 hfr hhw;have hrel:=hfin w' hw' st' seg fp1 rfl (by rw[hst']) hpr hn1 hfp1 hfr hhw hseg;have hβ:=hk2 (g.β s) hl0 hnb;refine⟨_,h.step (λx=>¬ca (some x)∧x≠ .box s) hle h.defers ?_ ?_ hfrC hlabs (λb x hk hx=>hk1 b x hk.1 hk.2 hx) ?_ ?_ (λk u bv hk=>by simp at hk) (.inl ⟨⟨by simp[dr],by simp⟩,by show st'.io=st.io;rw[hst']⟩)⟩;show _=st'.slots.length;rw[hst'];exact h.size;show st'.boxes.length=st'.slots.length;rw[hst'];simpa using h.bsize;intro i av hi;have hi':st.slots[i]?=some av:=by have:st'.slots[i]?=some av:=hi;rw[hst']at this;exact this
  exact .inl ⟨⟨by simp[dr],by simp⟩,hi',rfl⟩;intro t cs' hb;have hb':(st.boxes.set s (some (cd csO off seg)))[t]?=some (some cs'):=by have:st'.boxes[t]?=some (some cs'):=hb;rw[hst']at this;exact this
  by_cases hts:t=s;subst hts;rw[List.getElem?_set]at hb';simp only[bj,hslt]at hb';simp at hb';subst hb';have hnb':g.β t∉f1++fp1++f3:=by intro hm;simp only[al]at hm;rcases hm with(hm|hm)|hm;exact hnb (by simp[hm]);rcases(hfp1 _ hm).2 with h2|h2;exact hnb (by simp[h2]);have:=(h.labs _ _ hl0).1;omega;exact hnb (by simp[hm])
  exact .inr ⟨arr,T,fr,_,hβ.2.1.trans hblk,hth,hrel,hnn,hnb',hll,hβ.1,hβ.2.2.trans hw0⟩;rw[List.getElem?_set_ne (bL hts)]at hb';exact .inl ⟨⟨by simp[dr],by simpa using hts⟩,hb',rfl⟩
 |io j=>
  simp only[AS.mu,aO]at hown;subst hown;obtain⟨fp,hr,hn,hl⟩:=h.io;obtain⟨us,f1,f2,f3,rfl,hus,hn2,hb2,hfin⟩:=core .io (by simp[dr]) hr hn hl;refine⟨us,f2,hus,hn2,hb2,?_⟩;intro w' hw' seg fp1 hn1 hfp1 hfr hhw hseg;let st':AS:={st.ki (.io j) (cd st.io off seg)with ep:=st.ep+1}
  have hst':st'={st with io:=cd st.io off seg,ep:=st.ep+1}:=rfl;have hpr:∀t,dS st t→dS st' t:=λt ht=>by rw[hst'];exact ht
  obtain⟨hle,hnn,hll,_,hk1,_,hfrC,hlabs⟩:=h.Bi .io (by simp[dr]) hn hl (st':=st') rfl (by rw[hst']) hpr hn1 hfp1 hfr hhw;have hrel:=hfin w' hw' st' seg fp1 rfl (by rw[hst']) hpr hn1 hfp1 hfr hhw hseg;refine⟨_,h.step (λx=>¬ca (some x)∧x≠ .io) hle h.defers ?_ ?_ hfrC hlabs (λb x hk hx=>hk1 b x hk.1 hk.2 hx) ?_ ?_ (λk u bv hk=>by simp at hk) (.inr ⟨_,hrel,hnn,hll⟩)⟩;exact h.size;exact h.bsize;intro i av hi;exact .inl ⟨⟨by simp[dr],by simp⟩,hi,rfl⟩;intro t cs' hb;exact .inl ⟨⟨by simp[dr],by simp⟩,hb,rfl⟩
theorem wW:∀(os ss:List AC){r:List AC},ib os ss=some r→ss.length=os.length:=by
 intro os
 induction os with
 |nil=>intro ss r h;cases ss with
  |nil=>rfl
  |cons _ _=>simp[ib]at h
 |cons o os ih=>
  intro ss r h
  cases ss with
  |nil=>unfold ib at h;split at h<;>first|contradiction|cases h
  |cons s ss=>
   unfold ib at h
   split at h
   ·contradiction
   ·rename_i h1 h2
    injection h1 with h1 h1';subst h1'
    injection h2 with h2 h2';subst h2'
    rw[Bool.cond_eq_ite]at h
    split at h
    ·obtain⟨r',hr,h⟩:=ay.1 h
     simp[ih _ hr]
    ·cases h
   all_goals first
    |cases h
    |(rename_i h1 h2
      injection h1 with h1 h1';subst h1'
      injection h2 with h2 h2';subst h2'
      obtain⟨r',hr,h⟩:=ay.1 h
      simp[ih _ hr])
theorem zg {g:Gh}(h:cw C g st a w []){A:Rg}:∀(xs:List Operand),xs.all (λx=>(st.rd x).dW)=true→il A w (xs.map a.eval) (xs.map st.rd)
 |[],_=>trivial
 |x::xs,hf=>by simp only[bp,ab]at hf;exact⟨tI (h.rd x) hf.1,zg h xs hf.2⟩
theorem OS {hw:Nat→Nat}{w:World}{e:CT}{v:Value}{xs:List e.D}{fp0:List Nat}(h:cR hw w (.sl e) [v] xs fp0){n:Nat}{x:e.D}(hx:xs[n]?=some x): ∃b o0 cap arr T fr f1 fx f3,v=.slice (some ⟨b,o0,none⟩) xs.length cap∧w.heap[b]?=some (.cells arr T fr)∧ cR hw w e ((arr.toList.drop (o0+n*e.size)).take e.size) x fx∧fp0=b::(f1++fx++f3)∧ ∀(w':World)(hw':Nat→Nat)(x':e.D)(fx':List Nat),(∀b'∈b::(f1++f3),w'.heap[b']?=w.heap[b']?∧hw' b'=hw b')→ cR hw' w' e ((arr.toList.drop (o0+n*e.size)).take e.size) x' fx'→cR hw' w' (.sl e) [v] (xs.set n x') (b::(f1++fx'++f3)):=by
 obtain⟨u,hu,h⟩:=h;simp at hu;subst hu;have hnl:n<xs.length:=(List.getElem?_eq_some_iff.1 hx).1;rcases h with⟨⟨_,rfl⟩,rfl,rfl⟩|⟨b,o0,cap,arr,T,fr,fps,rfl,hb,hth,hs,hc,hh,rfl,hl,hr⟩;simp at hx;have hfn:fps[n]?=some fps[n]:=List.getElem?_eq_getElem (by omega);have hfs:=sQ hfn;refine⟨b,o0,cap,arr,T,fr,(fps.take n).flatten,fps[n],(fps.drop (n+1)).flatten,rfl,hb,hr n x _ hx hfn,by rw[hfs.1],?_⟩;intro w' hw' x' fx' hk hown;have hkb:=hk b (by simp);refine⟨_,rfl,.inr ⟨b,o0,cap,arr,T,fr,fps.set n fx',by simp,hkb.1.trans hb,hth,hs,by simpa using hc,by rw[hkb.2];simpa using hh,by rw[hfs.2],by simp[hl],?_⟩⟩;intro i y f hy hf;by_cases hin:i=n;subst hin;rw[List.getElem?_set]at hy hf;simp only[bj,hnl]at hy;simp only[bj]at hf;rw[au (by omega)]at hf;simp at hy hf;subst hy;subst hf;exact hown;rw[List.getElem?_set_ne (bL hin)]at hy hf;refine cR.mono (hr i y f hy hf) (λb' hb''=>hk b' (dv _ ?_));have hil:i<fps.length:=(List.getElem?_eq_some_iff.1 hf).1;have hfi:fps[i]=f:=by rw[List.getElem?_eq_getElem hil]at hf;simpa using hf
 rcases Nat.lt_or_gt_of_ne hin with hlt|hgt;refine aS _ (List.mem_flatten.2 ⟨f,?_,hb''⟩);rw[List.mem_take_iff_getElem];exact⟨i,by omega,hfi⟩;refine aI _ (List.mem_flatten.2 ⟨f,?_,hb''⟩);rw[List.mem_drop_iff_getElem];exact⟨i-(n+1),by omega,by rw[←hfi];congr 1;omega⟩
theorem aV.single {c:RC}{vs:List Value}{x:AC}{fp:List Nat}(h:aV c vs [x] fp):∃v,vs=[v]∧eg c v x fp:=by cases vs with|nil=>exact h.elim|cons v vs=>obtain⟨f1,f2,rfl,h1,h2⟩:=h;cases vs with|nil=>cases h2;exact⟨v,rfl,by simpa using h1⟩|cons _ _=>exact h2.elim
theorem S4 {g:Bool}{v:Value}{a b:List Value}(h:Cut g v a)(k:Cut g v b):b=a:=by cases g with|true=>simp only[Cut,bj]at h k;have:=h.symm.trans k;simp at this;exact this.symm|false=>simp only[Cut]at h k;simp at h k;rw[h,k]
theorem TE {Γ:cG}(hΓ:∀f,aU P f (Γ f)){o':Oper}{f:Operand}{args:Array Operand}{ts:Array TypeId}(ho:o'.op=.call {callee:=.value f,args,argTypes:=ts}){g:Gh}(hg:cw C g st a w []){k:Nat}(hf:st.rd f=.val false [.fn k])(hio:(Γ k).io=true){x0:Operand}{xs:List Operand}(hargs:args.toList=x0::xs){gg:Bool}{cs:List AC}(hx0:st.rd x0=.val gg cs){K:AS→Option R}(hk:EM Γ o' k gg cs xs st K=some r)(next:Act→World→Prop)(Q:Exit→Act→World→Prop)(hnext:∀st' a' w',iD C st' a' w'→K st'=some r→next a' w'):o'.wp P a w next Q:=by
 have hfv:=hg.rd f;rw[hf]at hfv;have hfv:=(cL hfv).1;unfold EM at hk;split at hk
 ·rename_i ep rt t en i off e1 ws;split at hk
  ·rename_i csO hown;split at hk
   ·rename_i t' e ys hO;cases hc:((ep==st.ep)&&(t'==t)&&(en.size==e.size)&&xs.all (λx=>(st.rd x).dW))with
    |false=>rw[hc]at hk;cases hk
    |true=>
     rw[hc]at hk;simp only[ah]at hk;simp only[ab,aL]at hc;obtain⟨⟨⟨hep,htt⟩,hsz⟩,hflat⟩:=hc;subst htt;cases hix:idx ys i with
     |none=>rw[hix]at hk;cases hk
     |some x=>
      rw[hix]at hk;simp only[aa]at hk;split at hk
      ·rename_i tg0 e2 zs hmid;cases hres:(Γ k).fn (.val gg [.sl (.own none) e2 zs]::xs.map st.rd)with
       |none=>rw[hres]at hk;cases hk
       |some y=>
        rw[hres]at hk;simp only at hk;split at hk
        ·rename_i tg e3 zs' hback;split at hk
         ·rename_i x' hof;cases hfl:((Γ k).av y).dW with
          |false=>rw[hfl]at hk;cases hk
          |true=>
           rw[hfl]at hk;simp only[ah]at hk;obtain⟨⟨fn,c,hfn,hbody,hname⟩,_,hcalls,_⟩:=hΓ k _ y hres;have hcalls:=hcalls hio gg _ (xs.map st.rd) rfl;have hrd:=hg.rd x0;rw[hx0]at hrd;obtain⟨vs0,hcut,hrel0⟩:=hrd;obtain⟨v,rfl,hrelv⟩:=hrel0.single;obtain⟨us,f2,hus,hn2,hb2,hfin⟩:=hg.QF rt hown rt.pos 1 (by rw[hO];rfl);rw[hO]at hus;obtain⟨u,rfl,hrelu⟩:=hus.single;obtain⟨n,hin,hxn⟩:=Co hix;obtain⟨b,o0,cap,arr,T,fr,f1,fx,f3,hu,hblk,hownx,hfp2,hset⟩:=OS hrelu.1 hxn;obtain⟨_,n2,b2,o2,len2,cap2,hin2,hhdr,_,_,hcell⟩:=hrelv.2.2.2 hep;have hun:=(hrelu.2 t' rfl).2;rw[hhdr,hu]at hun;simp only[Value.slice.injEq,aO,Addr.mk.injEq]at hun;obtain⟨⟨rfl,rfl,_⟩,_,_⟩:=hun;have hnn:n2=n:=by omega
           subst hnn;rw[hsz]at hcell;have hcell':arr[o0+n2*e.size+off]?=some v:=by rw[←cell_of hblk];exact hcell
           have hrelx:=lB (c:=bH C g st w) hownx;obtain⟨k1,k2,k3,hkx,r1,r2,r3⟩:=hrelx.PC off 1;rw[hmid]at r2;obtain⟨v',hv',hrelv'⟩:=r2.single;have hvv:v'=v:=by
            have h0:(((arr.toList.drop (o0+n2*e.size)).take e.size).drop off).take 1=[v']:=hv';have h1:((((arr.toList.drop (o0+n2*e.size)).take e.size).drop off).take 1)[0]?=some v':=by rw[h0];rfl
            rw[List.getElem?_take]at h1;simp only[Nat.zero_lt_one,bj]at h1;rw[List.getElem?_drop,List.getElem?_take]at h1;split at h1;rw[List.getElem?_drop,Array.getElem?_toList,db,hcell']at h1;simpa using h1.symm;cases h1
           subst hvv;have hn2':=hn2;rw[hfp2,hkx]at hn2';have hnb:=List.nodup_cons.1 hn2';have m0:=hnb.2;rw[aC]at m0;have m1:=List.nodup_append.1 m0;have m2:=List.nodup_append.1 m1.2.1;have m2a:=m2.1;rw[aC]at m2a;have m3:=List.nodup_append.1 m2a;have m4:=List.nodup_append.1 m3.2.1;have hk2in:∀q∈k2,q∈f2:=λq hq=>by rw[hfp2,hkx];simp[hq]
           have hcall:=hcalls (λ_ _ _=>False) w (a.eval x0) (xs.map a.eval) g.hw k2 (λ_ _ _ hf=>hf.elim) ⟨[v'],hcut,k2,[],by simp,⟨hrelv'.1,by simp⟩,rfl⟩ m4.1 (λq hq=>(hb2 q (hk2in q hq)).1) (zg hg xs hflat);have hargs':(a.eval x0::xs.map a.eval).toArray=args.map a.eval:=by apply cQ;simp[hargs]
           rw[hargs']at hcall;have hrun:(execOp a.eval o').run P w=.ok (.enter k (args.map a.eval)) w:=by simp[execOp,ho,resolve,hfv,Deferred.ofValue,invoke,callFunc,hfn,hbody];simpa using hname
           unfold Oper.wp;rw[hrun,Oper.upon_enter];refine hcall.mono ?_;rintro e' w' ⟨vr,hw',frr,fp',rfl,hrel,⟨vs1,hcut1,hbk⟩,hnd,hfp,hfr⟩;show next (a.put o'.dst vr) w'
           have hvs:=S4 hcut hcut1;subst hvs;rw[hback]at hbk;obtain⟨v2,hv2,hbk2⟩:=hbk.single;simp only[List.cons.injEq,eB]at hv2;subst hv2;have hdis:∀q,q∈f2→q∉k2→q∉fp':=λq hq hq2 hm=>by rcases(hfp q hm).2 with h2|h2;exact hq2 h2;have:=(hb2 q hq).1;omega
           have hrest:∀q,(q=b∨q∈f1∨q∈k1∨q∈k3∨q∈f3)→q∈f2∧q∉k2:=by intro q hq;constructor;rw[hfp2,hkx];rcases hq with hq|hq|hq|hq|hq<;>simp[hq];intro h2;rcases hq with hq|hq|hq|hq|hq;subst hq;exact hnb.1 (by simp[h2]);exact m1.2.2 q hq q (by simp[h2]) rfl;exact m3.2.2 q hq q (by simp[h2]) rfl;exact m4.2.2 q h2 q hq rfl;exact m2.2.2 q (by simp[h2]) q hq rfl
           have hnd1:(b::(f1++(k1++fp'++k3)++f3)).Nodup:=by refine List.nodup_cons.2 ⟨λhm=>?_,?_⟩;simp only[al]at hm;rcases hm with(hm|((hm|hm)|hm))|hm;exact hnb.1 (by simp[hm]);exact hnb.1 (by simp[hm]);exact hdis b (hrest b (.inl rfl)).1 (hrest b (.inl rfl)).2 hm;exact hnb.1 (by simp[hm]);exact hnb.1 (by simp[hm]);have hd':∀q,(q∈f1∨q∈k1∨q∈k3∨q∈f3)→q∉fp':=λq hq=>hdis q (hrest q (.inr hq)).1 (hrest q (.inr hq)).2;rw[aC];refine List.nodup_append.2 ⟨m1.1,List.nodup_append.2 ⟨?_,m2.2.1,?_⟩,?_⟩;rw[aC];refine List.nodup_append.2 ⟨m3.1,List.nodup_append.2 ⟨hnd,m4.2.1,?_⟩,?_⟩;rintro c hc d hd rfl;exact hd' c (by simp[hd]) hc;rintro c hc d hd rfl;rcases al.1 hd with hd|hd;exact hd' c (by simp[hc]) hd;exact m3.2.2 c hc c (aI _ hd) rfl;rintro c hc d hd rfl;simp only[al]at hc;rcases hc with(hc|hc)|hc;exact m2.2.2 c (by simp[hc]) c hd rfl;exact hd' c (by simp[hd]) hc;exact m2.2.2 c (by simp[hc]) c hd rfl;rintro c hc d hd rfl;simp only[al]at hd;rcases hd with((hd|hd)|hd)|hd;exact m1.2.2 c hc c (by simp[hd]) rfl;exact hd' c (by simp[hc]) hd;exact m1.2.2 c hc c (by simp[hd]) rfl;exact m1.2.2 c hc c (by simp[hd]) rfl
           have hin':i.toNat=n2:=by omega
           obtain⟨g',hg'⟩:=hfin w' (λq=>if q∈fp' then hw' q else g.hw q) [.sl (.own (some t')) e (ys.set n2 x')] (b::(f1++(k1++fp'++k3)++f3)) hnd1
            (λq hq=>by
             have hz:=hfr.size;by_cases hm:q∈fp';refine⟨(hfp q hm).1,?_⟩;rcases(hfp q hm).2 with h2|h2;exact .inl (hk2in q h2);exact .inr h2;have h2:q∈f2:=by refine(hrest q ?_).1;simp only[bl,al]at hq;rcases hq with hq|(hq|((hq|hq)|hq))|hq;exact .inl hq;simp[hq];simp[hq];exact absurd hq hm;simp[hq];simp[hq]
             exact⟨by have:=(hb2 q h2).1;omega,.inl h2⟩)
            ⟨hfr.os,hfr.tape,hfr.output,hfr.size,λq hq hm=>hfr.block q hq (λh2=>hm (hk2in q h2))⟩
            (λq hq hm=>by
             have:q∉fp':=λh2=>by rcases(hfp q h2).2 with h3|h3;exact hm (hk2in q h3);omega
             simp[this])
            (λc' hle hcw hchw=>by
             have hkeep:∀q,(q=b∨q∈f1∨q∈k1∨q∈k3∨q∈f3)→c'.w.heap[q]?=w.heap[q]?∧c'.hw q=g.hw q:=by intro q hq;have h2:=hrest q hq;rw[hcw,hchw];exact⟨hfr.block q (hb2 q h2.1).1 h2.2,by simp[hdis q h2.1 h2.2]⟩
             have hnew:aV c' [v'] [.sl (.own none) e3 zs'] fp':=by refine⟨fp',[],by simp,⟨?_,by simp⟩,rfl⟩;have h0:cR hw' w' (.sl e3) [v'] zs' fp':=hbk2.1;refine cR.mono h0 (λq hq=>?_);rw[hcw,hchw];exact⟨rfl,by simp[hq]⟩
             have hsp:=xu (c':=c') (vs:=(arr.toList.drop (o0+n2*e.size)).take e.size) (us:=[v']) (cs:=cellsOf e (.own none) x) (off:=off) (n:=1) hv'.symm rfl (r1.mono hle (λq hq=>hkeep q (by simp[hq]))) hnew (r3.mono hle (λq hq=>hkeep q (by simp[hq])));obtain⟨q1,q2,hq,hq1,hq2⟩:=jf hsp hof;have hln:((arr.toList.drop (o0+n2*e.size)).take e.size).length=e.size:=cR.length hownx;rw[cc (by omega)]at hq2;have hq2':q2=[]:=hq2;subst hq2';rw[bz (by omega)]at hq1;rw[ba]at hq;subst hq;have hO':=hset c'.w c'.hw x' _ (λq hq=>hkeep q (by simp only[bl,al]at hq;rcases hq with hq|hq|hq<;>simp[hq])) hq1;refine⟨_,[],by simp,⟨hO',λq hq=>?_⟩,rfl⟩;cases hq;have h1:=hrelu.2 t' rfl;exact⟨(hle.hdr t' h1.1).1,by rw[(hle.hdr t' h1.1).2];exact h1.2⟩)
           rw[hin']at hk;exact hnext _ _ _ ⟨g',hg'.quiet o'.dst (tI hrel hfl)⟩ hk
         cases hk
        cases hk
      cases hk
   cases hk
  cases hk
 cases hk
theorem ZT {Γ:cG}(hΓ:∀f,aU P f (Γ f)){o':Oper}{f:Operand}{args:Array Operand}{ts:Array TypeId}(ho:o'.op=.call {callee:=.value f,args,argTypes:=ts}){g:Gh}(hg:cw C g st a w []){k:Nat}(hf:st.rd f=.val false [.fn k])(hio:(Γ k).io=true){K:AS→Option R}(hk:X4 Γ o' k args.toList st K=some r)(next:Act→World→Prop)(Q:Exit→Act→World→Prop)(hnext:∀st' a' w',iD C st' a' w'→K st'=some r→next a' w'):o'.wp P a w next Q:=by
 have hfv:=hg.rd f;rw[hf]at hfv;have hfv:=(cL hfv).1;unfold X4 at hk;split at hk
 ·rename_i x0 xs hargs;split at hk
  ·rename_i gg cs hx0;split at hk
   ·rename_i rt j hfirst;split at hk
    ·rename_i csO hown;split at hk
     ·rename_i cs' hseg;cases hflat:(xs.all λx=>(st.rd x).dW)with
      |false=>rw[hflat]at hk;cases hk
      |true=>
       rw[hflat]at hk;simp only[ah]at hk;cases hres:(Γ k).fn (.val gg cs'::xs.map st.rd)with
       |none=>rw[hres]at hk;cases hk
       |some y=>
        rw[hres]at hk;simp only[aa]at hk;split at hk
        ·rename_i seg hback;cases hfl:((Γ k).av y).dW with
         |false=>rw[hfl]at hk;cases hk
         |true=>
          rw[hfl]at hk;simp only[ah]at hk;obtain⟨⟨fn,c,hfn,hbody,hname⟩,_,hcalls,_⟩:=hΓ k _ y hres;have hcalls:=hcalls hio gg cs' (xs.map st.rd) rfl;have hrd:=hg.rd x0;rw[hx0]at hrd;obtain⟨vs0,hcut,hrel0⟩:=hrd;have hmid:=wW _ _ hseg;obtain⟨us,f2,hus,hn2,hb2,hfin⟩:=hg.QF rt hown (rt.pos-j) cs.length hmid;have harg:=C2 (A:=λ_ _ _=>False) _ _ hseg hrel0 hus;have hcall:=hcalls (λ_ _ _=>False) w (a.eval x0) (xs.map a.eval) g.hw f2 (λ_ _ _ hf=>hf.elim) ⟨vs0,hcut,harg⟩ hn2 (λb hb=>(hb2 b hb).1) (zg hg xs hflat);have hargs':(a.eval x0::xs.map a.eval).toArray=args.map a.eval:=by apply cQ;simp[hargs]
          rw[hargs']at hcall;have hrun:(execOp a.eval o').run P w=.ok (.enter k (args.map a.eval)) w:=by simp[execOp,ho,resolve,hfv,Deferred.ofValue,invoke,callFunc,hfn,hbody];simpa using hname
          unfold Oper.wp;rw[hrun,Oper.upon_enter];refine hcall.mono ?_;rintro e w' ⟨v,hw',fr,fp',rfl,hrel,⟨vs1,hcut1,hbk⟩,hnd,hfp,hfr⟩;show next (a.put o'.dst v) w'
          have hvs:vs1=vs0:=by cases gg with|true=>simp only[Cut,bj]at hcut hcut1;have:=hcut.symm.trans hcut1;simp at this;exact this.symm|false=>simp only[Cut]at hcut hcut1;simp at hcut hcut1;rw[hcut,hcut1]
          subst hvs;let hwn:Nat→Nat:=λb=>if b∈fp' then hw' b else g.hw b
          obtain⟨g',hg'⟩:=hfin w' (λb=>if b∈fp' then hw' b else g.hw b) seg fp' hnd hfp hfr (λb hb hm=>by
           have:b∉fp':=λhm'=>by rcases(hfp b hm').2 with h2|h2;exact hm h2;omega
           simp[this]) (λc' hle hcw hchw=>by
           refine JE (A:=λ_ _ _=>False) (hw':=hw') hle _ _ _ hback hrel0 hus (by rw[hcw];exact hbk) (λb hb=>by rw[hchw];simp[hb]))
          refine hnext _ _ _ ⟨g',hg'.quiet o'.dst (tI hrel hfl)⟩ hk
        cases hk
     cases hk
    cases hk
   ·exact TE hΓ ho hg hf hio hargs hx0 hk next Q hnext
  cases hk
 cases hk
theorem KZ:∀{cs:List AC},cs.all AC.Ik=true→∀{c:RC}{A:Rg}{hw:Nat→Nat}{w:World}{vs:List Value}{fp:List Nat},aV c vs cs fp→c.w=w→c.hw=hw→aV (dc A hw w) vs (cs.map AC.strip) fp
 |[],_,c,A,hw,w,vs,fp,h,_,_=>by cases vs with|nil=>exact h|cons _ _=>exact h.elim
 |x::cs,hok,c,A,hw,w,vs,fp,h,hcw,hchw=>by
  cases vs with
  |nil=>exact h.elim
  |cons v vs=>
   obtain⟨f1,f2,rfl,h1,h2⟩:=h;simp only[bp,ab]at hok;refine⟨f1,f2,rfl,?_,KZ hok.2 h2 hcw hchw⟩;cases x with
   |sl fl e xs=>cases fl with|own t=>exact⟨by have:=h1.1;rw[hcw,hchw]at this;exact this,by simp⟩|arg _=>cases hok.1|loc _ _=>cases hok.1|nest _ _ _ _ _ _=>cases hok.1|part _ _ _ _=>cases hok.1|holed _ _ _=>cases hok.1
   |int k n=>exact h1
   |bool b=>exact h1
   |str s=>exact h1
   |fn f=>exact h1
   |nilsl=>cases hok.1
   |ptr s off=>cases hok.1
   |elt fl e y i off=>cases hok.1
   |un=>cases hok.1
   |bot=>cases hok.1
theorem xa {c:RC}{A':Rg}{hw:Nat→Nat}{mk:Nat→Option Nat}{k:Bool}(hA:A' true=c.A k):∀{vs:List Value}{xs:List AC}{fp:List Nat}(j:Nat),aV (dc A' hw c.w) vs xs fp→xs.all (AC.qI true)=true→
 (∀b∈fp,c.hw b=hw b)→(∀i v,vs[i]?=some v→∀t,mk (j+i)=some t→c.iss t∧v=c.hdr t)→aV c vs (jU k mk j xs) fp
 |[],[],_,_,h,_,_,_=>h
 |v::_,x::_,_,j,h,hok,hh,hm=>by
  obtain⟨f1,f2,rfl,h1,h2⟩:=h;simp only[bp,ab]at hok;refine⟨f1,f2,rfl,?_,xa hA (j+1) h2 hok.2 (λb hb=>hh b (aI _ hb)) (λi u hu t ht=>hm (i+1) u (by simpa using hu) t (by rwa[show j+(i+1)=j+1+i by omega]))⟩;have hhw:∀b∈f1,c.hw b=hw b:=λb hb=>hh b (aS _ hb);have ht:∀t,mk j=some t→c.iss t∧v=c.hdr t:=λt ht=>hm 0 v rfl t ht;have hok:=hok.1;cases x with
  |sl fl e xs=>
   cases fl with
   |own t=>exact⟨cR.mono h1.1 (λb hb=>⟨rfl,hhw b hb⟩),ht⟩
   |arg k'=>
    have hk:k'=true:=by simpa[AC.qI]using hok
    subst hk;exact⟨h1.1,by rw[←hA];exact h1.2⟩
   |loc _ _=>cases hok
   |nest _ _ _ _ _ _=>cases hok
   |part _ _ _ _=>cases hok
   |holed _ _ _=>cases hok
  |int _ _=>exact h1
  |bool _=>exact h1
  |str _=>exact h1
  |fn _=>exact h1
  |nilsl=>cases hok
  |ptr _ _=>cases hok
  |elt _ _ _ _ _=>cases hok
  |un=>cases hok
  |bot=>cases hok
 |[],_::_,_,_,h,_,_,_=>h.elim
 |_::_,[],_,_,h,_,_,_=>h.elim
theorem yK {A':Rg}{hw:Nat→Nat}{w:World}{k:Bool}:∀{cs:List AC},cs.all (AC.qI k)=true→∀{c:RC}{vs:List Value}{fp:List Nat},aV c vs cs fp→c.w=w→c.hw=hw→A' true=c.A k→aV (dc A' hw w) vs (cs.map AC.GY) fp
 |[],_,c,vs,fp,h,_,_,_=>by cases vs with|nil=>exact h|cons _ _=>exact h.elim
 |x::cs,hok,c,vs,fp,h,hcw,hchw,hA=>by
  cases vs with
  |nil=>exact h.elim
  |cons v vs=>
   obtain⟨f1,f2,rfl,h1,h2⟩:=h;simp only[bp,ab]at hok;refine⟨f1,f2,rfl,?_,yK hok.2 h2 hcw hchw hA⟩;have hok:=hok.1;cases x with
   |sl fl e xs=>
    cases fl with
    |own t=>exact⟨by have:=h1.1;rw[hcw,hchw]at this;exact this,by simp⟩
    |arg k'=>
     have hk:k'=k:=by simpa[AC.qI]using hok
     subst hk;exact⟨h1.1,by have:=h1.2;rw[hcw,←hA]at this;exact this⟩
    |loc _ _=>cases hok
    |nest _ _ _ _ _ _=>cases hok
    |part _ _ _ _=>cases hok
    |holed _ _ _=>cases hok
   |int _ _=>exact h1
   |bool _=>exact h1
   |str _=>exact h1
   |fn _=>exact h1
   |nilsl=>cases hok
   |ptr _ _=>cases hok
   |elt _ _ _ _ _=>cases hok
   |un=>cases hok
   |bot=>cases hok
theorem EH {g:Gh}(h:cw C g st a w [])(s:Nat){A':Rg}(hA:∀b o,(bH C g st w).S b o∧b<w.heap.size∧g.lab b≠some (.box s)→A' false b o):∀(xs:List Operand),xs.all (tL st)=true→
 il A' w (xs.map a.eval) (xs.map (sU st))
 |[],_=>trivial
 |x::xs,hx=>by
  simp only[bp,ab]at hx;refine⟨?_,EH h s hA xs hx.2⟩;have hx:=hx.1;cases x with
  |const _=>exact tI (h.rd _) hx
  |func _=>exact tI (h.rd _) hx
  |global _=>exact tI (h.rd _) hx
  |tmp t=>
   have hown:∀(t0:Nat){e:CT}{v:Value}{xs:List e.D}{fp:List Nat},cR g.hw w (.sl e) [v] xs fp→(∀b∈fp,g.lab b=some (.slot t0))→fu w (A' false) (.sl e) [v] xs:=by
    intro t0 e v xs fp h1 hl;have h3:cR (λb=>if b∈fp then g.hw b else 0) w (.sl e) [v] xs fp:=cR.mono h1 (λb hb=>⟨rfl,by simp[hb]⟩)
    exact cR.rep (λb o ho=>by
     by_cases hb:b∈fp;have ho:o<g.hw b:=by simpa[hb]using ho
     have hlb:=hl b hb;exact hA b o ⟨.inr ho,(h.labs b _ hlb).1,by rw[hlb];simp⟩;simp[hb]at ho) h3
   obtain⟨fp,hr,hn,hl⟩:=h.slot t;simp only[tL]at hx;show dG _ (a.tmps.getD t undef) (sU st (.tmp t)) _;simp only[sU];cases hv:st.get t with
   |tup _=>rw[hv]at hx;cases hx
   |val gg cs=>
    rw[hv]at hx hr;simp only at hx;obtain⟨vs,hcut,hr⟩:=hr
    have key:∀(cs:List AC)(vs:List Value)(fp:List Nat),(cs.map st.DR).all AC.yY=true→(∀b∈fp,g.lab b=some (.slot t))→aV (bH C g st w) vs cs fp→
     aV (dc A' (λ_=>0) w) vs (cs.map st.DR) []:=by
     intro cs
     induction cs with
     |nil=>intro vs fp _ _ h;cases vs with
      |nil=>rfl
      |cons _ _=>exact h.elim
     |cons c cs ih=>
      intro vs fp hc hl hr
      cases vs with
      |nil=>exact hr.elim
      |cons v vs=>
       obtain⟨f1,f2,rfl,h1,h2⟩:=hr
       simp only[cP,bp,ab]at hc
       refine⟨[],[],rfl,?_,ih vs f2 hc.2 (λb hb=>hl b (aI _ hb)) h2⟩
       have hc:=hc.1
       cases c with
       |sl fl e xs=>
        cases fl with
        |own tag=>exact⟨rfl,hown t h1.1 (λb hb=>hl b (aS _ hb))⟩
        |arg k=>exact⟨rfl,fu.mono (λb o u hs hu=>⟨hA b o ⟨.inl ⟨k,hs⟩,World.block_lt_of_cell? w _ hu,λhb=>h.zq hb k o hs⟩,hu⟩) h1.2⟩
        |loc ep pv=>
         cases pv with
         |none=>cases hc
         |some q=>
          obtain⟨r,tg⟩:=q
          cases r with
          |box _ _=>cases hc
          |io _=>cases hc
          |slot b j=>
           have hv2:=(h1.2.2.2.2 (.slot b j) tg rfl).2
           simp only[AS.DR]at hc⊢
           cases hrg:st.df (.slot b j)with
           |none=>rw[hrg]at hc;cases hc
           |some c0=>
            rw[hrg]at hc
            split at hc
            ·rename_i t' e' ys hc0
             split at hc
             ·rename_i ht
              subst ht
              cases hc0
              rw[au rfl]
              obtain⟨fp2,hr2,_,hl2⟩:=h.slot b
              simp only[AS.df]at hrg
              cases hgb:st.get b with
              |tup _=>rw[hgb]at hrg;cases hrg
              |val g2 cs2=>
               rw[hgb]at hrg hr2
               simp only at hrg
               obtain⟨vs2,_,hr2⟩:=hr2
               rw[cz]at hrg
               obtain⟨v2,f3,_,hrel2,hsub⟩:=hr2.get j _ hrg
               have hveq:v=v2:=by have:=(hrel2.2 t' rfl).2;rw[hv2,this]
               rw[hveq]
               exact⟨rfl,hown b hrel2.1 (λb' hb'=>hl2 b' (hsub b' hb'))⟩
             ·cases hc
            ·cases hc
        |nest _ _ _ _ _ _=>cases hc
        |part _ _ _ _=>cases hc
        |holed _ _ _=>cases hc
       |int _ _=>exact⟨h1.1,rfl⟩
       |bool _=>exact⟨h1.1,rfl⟩
       |str _=>exact⟨h1.1,rfl⟩
       |fn _=>exact⟨h1.1,rfl⟩
       |nilsl=>cases hc
       |ptr _ _=>cases hc
       |elt _ _ _ _ _=>cases hc
       |un=>cases hc
       |bot=>cases hc
    exact⟨vs,hcut,key cs vs fp hx hl hr⟩
theorem cw.SY {g:Gh}(h:cw C g st a w [])(s:Nat){cs:List AC}(hbx:st.boxes[s]?=some (some cs)): ∃arr T fr fp,w.heap[g.β s]?=some (.cells arr T fr)∧kj arr fr∧aV (bH C g st w) arr.toList cs fp∧fp.Nodup∧g.β s∉fp∧(∀b∈fp,b<w.heap.size)∧g.hw (g.β s)=0∧(∀b,b=g.β s∨b∈fp→g.lab b=some (.box s))∧ ∀(w':World)(hw':Nat→Nat)(arr':Array Value)(T':TypeId)(fr':Nat×Nat)(cs':List AC)(fp' fv:List Nat)(A':Rg)(k:Bool),Fr (λb=>b=g.β s∨b∈fp) w w'→w'.heap[g.β s]?=some (.cells arr' T' fr')→kj arr' fr'→ A' true=C.A k→aV (dc A' hw' w') arr'.toList cs' fp'→cs'.all (AC.qI true)=true→fp'.Nodup→g.β s∉fp'→(∀b∈fp',b<w'.heap.size∧(b∈fp∨w.heap.size≤b))→ (∀b∈fv,b<w'.heap.size∧(b∈fp∨w.heap.size≤b)∧b∉fp'∧b≠g.β s)→ ∃g',cw C g' (Mk st s (jU k (st.eD (some s)) 0 cs')) a w' []∧(∀b∈fv,g'.lab b=some (.hand 0)∧g'.hw b=hw' b)∧∀b,b<w.heap.size→g.lab b≠some (.box s)→g'.hw b=g.hw b:=by
 obtain⟨arr,T,fr,fp,hblk,hth,hr,hn,hnb,hl,hl0,hw0⟩:=h.boxes s cs hbx;have hslt:s<st.boxes.length:=(List.getElem?_eq_some_iff.1 hbx).1;have hlab0:∀b,b=g.β s∨b∈fp→g.lab b=some (.box s):=by rintro b (rfl|hb);exact hl0;exact hl b hb
 refine⟨arr,T,fr,fp,hblk,hth,hr,hn,hnb,λb hb=>(h.labs b _ (hl b hb)).1,hw0,hlab0,?_⟩;intro w' hw' arr' T' fr' cs' fp' fv A' k hfr hblk' hth' hA' hrel' hok' hn' hnb' hfp' hfv;let bx':List AC:=jU k (st.eD (some s)) 0 cs';let st':AS:=Mk st s bx';let hw2:Nat→Nat:=λb=>if b∈fp'∨b∈fv then hw' b else if b=g.β s then 0 else g.hw b
 let lab2:Nat→Option fj:=λb=>if b=g.β s∨b∈fp' then some (.box s) else if b∈fv then some (.hand 0) else g.lab b
 let g':Gh:=⟨hw2,g.β,lab2,kQ g.hdr (st.eD (some s)) arr'.toList⟩
 have hboxes:st'.boxes=st.boxes.set s (some bx'):=by show((st.cX s (some bx')).dp (some s)).boxes=_;rw[qg,fZ]
 have hslots:st'.slots=st.slots:=by show((st.cX s (some bx')).dp (some s)).slots=_;rw[nB];rfl
 have hio:st'.io=st.io:=by show((st.cX s (some bx')).dp (some s)).io=_;rw[ye];rfl
 have hiss:∀t,gJ st t→gJ st' t:=λt ht=>by have h1:gJ (st.cX s (some bx')) t:=ht;exact uv (d:=some s) h1
 have hpr:∀t,dS st t→dS st' t:=by rintro t ⟨c0,hc0⟩;by_cases hts:s=t;subst hts;exact⟨bx',by rw[hboxes];simp[hslt]⟩;exact⟨c0,by rw[hboxes,List.getElem?_set_ne hts];exact hc0⟩
 have hnew:∀b,b<w.heap.size→g.lab b≠some (.box s)→b∉fp'∧b∉fv∧b≠g.β s:=by intro b hb hlb;refine⟨λhm=>?_,λhm=>?_,λhm=>hlb (hlab0 b (.inl hm))⟩;rcases(hfp' b hm).2 with h2|h2;exact hlb (hlab0 b (.inr h2));omega;rcases(hfv b hm).2.1 with h2|h2;exact hlb (hlab0 b (.inr h2));omega
 have hkeep:∀b x,x≠ .box s→g.lab b=some x→lab2 b=some x∧w'.heap[b]?=w.heap[b]?∧hw2 b=g.hw b:=by intro b x hx hb;have hbs:=(h.labs b x hb).1;have hnm:¬(b=g.β s∨b∈fp):=λhm=>hx (by have:=hlab0 b hm;rw[hb]at this;simpa using this);obtain⟨n1,n2,n3⟩:=hnew b hbs (by rw[hb];simpa using hx);refine⟨?_,hfr.block b hbs hnm,?_⟩;show(if b=g.β s∨b∈fp' then _ else if b∈fv then _ else _)=_;rw[aq (by rintro(h1|h1);exact n3 h1;exact n1 h1),aq n2];exact hb;show(if b∈fp'∨b∈fv then _ else if b=g.β s then _ else _)=_;rw[aq (by rintro(h1|h1);exact n1 h1;exact n2 h1),aq n3]
 have hcA:∀k b o u,C.A k b o→w.cell? ⟨b,o,none⟩=some u→w'.cell? ⟨b,o,none⟩=some u:=by intro k b o u hA hu;have hb:b<w.heap.size:=World.block_lt_of_cell? w _ hu;rw[World.cell?_of_block (a:=⟨b,o,none⟩) (hfr.block b hb (λhm=>h.zq (hlab0 b hm) k o hA))];exact hu
 have hle:(bH C g st w).Le (bH C g' st' w'):=⟨rfl,λt ht=>⟨hiss t ht,rP ht⟩,hcA,Nat.le_succ _,λt ht=>⟨hpr t ht,rfl⟩,λhe=>absurd he (Nat.succ_ne_self _)⟩
 refine⟨g',h.step (λx=>x≠ .box s) hle h.defers ?_ ?_ ?_ ?_ (λb x hk hb=>hkeep b x hk hb) ?_ ?_ (λk u bv hk=>by simp at hk) (.inl ⟨by simp,hio⟩),λb hb=>?_,λb hb hlb=>?_⟩;rw[hslots];exact h.size;rw[hslots,hboxes,aP];exact h.bsize;refine h.frame.trans hfr (λb hb hm=>?_);rcases(h.labs b _ (hlab0 b hm)).2 with h2|h2;omega;exact h2;intro b x hx;have hx':(if b=g.β s∨b∈fp' then some (fj.box s) else if b∈fv then some (.hand 0) else g.lab b)=some x:=hx;have hz:=hfr.size;have hold:b∈fp∨w.heap.size≤b→C.w0.heap.size≤b∨C.M b:=by rintro(h2|h2);exact(h.labs b _ (hl b h2)).2;exact .inl (bS h.frame.size h2)
 split at hx';rename_i hm;rcases hm with rfl|hm;have:=h.labs _ _ hl0;exact⟨by omega,this.2⟩;exact⟨(hfp' b hm).1,hold (hfp' b hm).2⟩;split at hx';rename_i hm;exact⟨(hfv b hm).1,hold (hfv b hm).2.1⟩;have:=h.labs b x hx';exact⟨by omega,this.2⟩;intro i av hi;rw[hslots]at hi;exact .inl ⟨by simp,hi,rfl⟩;intro t cs2 hb;rw[hboxes]at hb;by_cases hts:t=s;subst hts;rw[List.getElem?_set]at hb;simp only[bj,hslt]at hb;simp at hb;subst hb;refine .inr ⟨arr',T',fr',fp',hblk',hth',?_,hn',hnb',λb hb=>?_,?_,?_⟩
 have:=xa (c:=bH C g' st' w') (A':=A') (hw:=hw') (mk:=st.eD (some t)) (k:=k) hA' 0 (vs:=arr'.toList) (xs:=cs') (fp:=fp') hrel' hok'
  (λb hb=>by show(if b∈fp'∨b∈fv then _ else _)=_;rw[au (.inl hb)])
  (λi u hu q hq=>by
   rw[bM]at hq;have hm:=jY hq;have hm2:gJ st' q:=by have h1:st.eD (some t) i=some q:=hq;have h2:(st.cX t (some bx')).eD (some t) i=some q:=h1;exact(jY h2).2.1
   exact⟨hm2,rO hu hq⟩)
 exact this;show(if b=g.β t∨b∈fp' then _ else _)=_;rw[au (.inr hb)];show(if g.β t=g.β t∨g.β t∈fp' then _ else _)=_;rw[au (.inl rfl)];show(if g.β t∈fp'∨g.β t∈fv then _ else if g.β t=g.β t then _ else _)=_;rw[aq (by rintro(h1|h1);exact hnb' h1;exact(hfv _ h1).2.2.2 rfl),au rfl];rw[List.getElem?_set_ne (bL hts)]at hb;exact .inl ⟨by simpa using hts,hb,rfl⟩;obtain⟨_,_,h3,h4⟩:=hfv b hb;refine⟨?_,?_⟩;show(if b=g.β s∨b∈fp' then _ else if b∈fv then _ else _)=_;rw[aq (by rintro(h1|h1);exact h4 h1;exact h3 h1),au hb];show(if b∈fp'∨b∈fv then _ else _)=_;rw[au (.inr hb)];obtain⟨n1,n2,n3⟩:=hnew b hb hlb;show(if b∈fp'∨b∈fv then _ else if b=g.β s then _ else _)=_;rw[aq (by rintro(h1|h1);exact n1 h1;exact n2 h1),aq n3]
theorem Fi {c:RC}:∀{vs:List Value}{cs:List AC}{fp:List Nat},aV c vs cs fp→cs.all AC.xC=true→fp=[]
 |[],[],_,h,_=>h
 |[],_::_,_,h,_=>h.elim
 |_::_,[],_,h,_=>h.elim
 |v::vs,x::cs,fp,h,hx=>by
  obtain⟨f1,f2,rfl,h1,h2⟩:=h;simp only[bp,ab]at hx;rw[Fi h2 hx.2,ba];have hx:=hx.1;cases x with
  |sl fl e xs=>cases fl<;>first|exact h1.1|cases hx
  |int k n=>exact h1.2
  |bool b=>exact h1.2
  |str s=>exact h1.2
  |fn f=>exact h1.2
  |nilsl=>cases hx
  |ptr _ _=>cases hx
  |elt _ _ _ _ _=>cases hx
  |un=>cases hx
  |bot=>cases hx
theorem cw.PX {g:Gh}(h:cw C g st a w [])(s:Nat){cs:List AC}(hbx:st.boxes[s]?=some (some cs))(hcs:cs.all AC.xC=true): ∀(w':World)(hw':Nat→Nat)(arr':Array Value)(T':TypeId)(fr':Nat×Nat)(cs':List AC)(fp' fv:List Nat)(A':Rg)(k:Bool),Fr (λb=>b=g.β s) w w'→w'.heap[g.β s]?=some (.cells arr' T' fr')→kj arr' fr'→ A' true=C.A k→aV (dc A' hw' w') arr'.toList cs' fp'→cs'.all (AC.qI true)=true→fp'.Nodup→g.β s∉fp'→(∀b∈fp',b<w'.heap.size∧w.heap.size≤b)→ (∀b∈fv,b<w'.heap.size∧w.heap.size≤b∧b∉fp'∧b≠g.β s)→ ∃g',cw C g' (st.cX s (some (jU k (λ_=>none) 0 cs'))) a w' []∧(∀b∈fv,g'.lab b=some (.hand 0)∧g'.hw b=hw' b)∧∀b,b<w.heap.size→g.lab b≠some (.box s)→g'.hw b=g.hw b:=by
 obtain⟨arr,T,fr,fp,hblk,hth,hr,hn,hnb,hl,hl0,hw0⟩:=h.boxes s cs hbx;have hfp0:fp=[]:=Fi hr hcs;subst hfp0;have hslt:s<st.boxes.length:=(List.getElem?_eq_some_iff.1 hbx).1;intro w' hw' arr' T' fr' cs' fp' fv A' k hfr hblk' hth' hA' hrel' hok' hn' hnb' hfp' hfv;let bx':List AC:=jU k (λ_=>none) 0 cs';let st':AS:=st.cX s (some bx');let hw2:Nat→Nat:=λb=>if b∈fp'∨b∈fv then hw' b else if b=g.β s then 0 else g.hw b
 let lab2:Nat→Option fj:=λb=>if b=g.β s∨b∈fp' then some (.box s) else if b∈fv then some (.hand 0) else g.lab b
 let g':Gh:=⟨hw2,g.β,lab2,g.hdr⟩
 have hboxes:st'.boxes=st.boxes.set s (some bx'):=by show(st.cX s (some bx')).boxes=_;rw[fZ]
 have hpr:∀t,dS st t→dS st' t:=by rintro t ⟨c0,hc0⟩;by_cases hts:s=t;subst hts;exact⟨bx',by rw[hboxes];simp[hslt]⟩;exact⟨c0,by rw[hboxes,List.getElem?_set_ne hts];exact hc0⟩
 have hold:∀b,b<w.heap.size→b∉fp'∧b∉fv:=by intro b hb;refine⟨λhm=>?_,λhm=>?_⟩;have:=(hfp' b hm).2;omega;have:=(hfv b hm).2.1;omega
 have hhw:∀b,b<w.heap.size→b≠g.β s→hw2 b=g.hw b:=by intro b hb hne;show(if b∈fp'∨b∈fv then _ else if b=g.β s then _ else _)=_;rw[aq (by rintro(h1|h1);exact(hold b hb).1 h1;exact(hold b hb).2 h1),aq hne]
 have hkeep:∀b x,x≠ .box s→g.lab b=some x→lab2 b=some x∧w'.heap[b]?=w.heap[b]?∧hw2 b=g.hw b:=by intro b x hx hb;have hbs:=(h.labs b x hb).1;have hne:b≠g.β s:=λhm=>hx (by rw[hm,hl0]at hb;simpa using hb.symm);refine⟨?_,hfr.block b hbs hne,hhw b hbs hne⟩;show(if b=g.β s∨b∈fp' then _ else if b∈fv then _ else _)=_;rw[aq (by rintro(h1|h1);exact hne h1;exact(hold b hbs).1 h1),aq (hold b hbs).2];exact hb
 have hcA:∀k b o u,C.A k b o→w.cell? ⟨b,o,none⟩=some u→w'.cell? ⟨b,o,none⟩=some u:=by intro k b o u hA hu;have hb:b<w.heap.size:=World.block_lt_of_cell? w _ hu;rw[World.cell?_of_block (a:=⟨b,o,none⟩) (hfr.block b hb (λhm=>h.zq (by rw[hm];exact hl0) k o hA))];exact hu
 have hle:(bH C g st w).Le (bH C g' st' w'):=by
  refine⟨rfl,λt ht=>⟨ht,rfl⟩,hcA,aQ _,λt ht=>⟨hpr t ht,rfl⟩,λ_ b o u ho hu=>?_⟩;have hb:b<w.heap.size:=World.block_lt_of_cell? w _ hu;have ho':o<g.hw b:=ho;have hne:b≠g.β s:=λe=>by rw[e,hw0]at ho';omega
  refine⟨by show o<hw2 b;rw[hhw b hb hne];exact ho',?_⟩;show w'.cell? ⟨b,o,none⟩=some u;rw[World.cell?_of_block (a:=⟨b,o,none⟩) (hfr.block b hb hne)];exact hu
 refine⟨g',h.step (λx=>x≠ .box s) hle h.defers h.size ?_ ?_ ?_ (λb x hk hb=>hkeep b x hk hb) ?_ ?_ (λk u bv hk=>by simp at hk) (.inl ⟨by simp,rfl⟩),λb hb=>?_,λb hb hlb=>?_⟩;rw[hboxes,aP];exact h.bsize;refine h.frame.trans hfr (λb hb hm=>?_);have hm:b=g.β s:=hm;subst hm;rcases(h.labs _ _ hl0).2 with h2|h2;omega;exact h2;intro b x hx;have hx':(if b=g.β s∨b∈fp' then some (fj.box s) else if b∈fv then some (.hand 0) else g.lab b)=some x:=hx;have hz:=hfr.size;split at hx';rename_i hm;rcases hm with rfl|hm;have:=h.labs _ _ hl0;exact⟨by omega,this.2⟩;exact⟨(hfp' b hm).1,.inl (bS h.frame.size (hfp' b hm).2)⟩;split at hx';rename_i hm;exact⟨(hfv b hm).1,.inl (bS h.frame.size (hfv b hm).2.1)⟩;have:=h.labs b x hx';exact⟨by omega,this.2⟩;intro i av hi;exact .inl ⟨by simp,hi,rfl⟩;intro t cs2 hb;rw[hboxes]at hb;by_cases hts:t=s;subst hts;rw[List.getElem?_set]at hb;simp only[bj,hslt]at hb;simp at hb;subst hb;refine .inr ⟨arr',T',fr',fp',hblk',hth',?_,hn',hnb',λb hb=>?_,?_,?_⟩;have:=xa (c:=bH C g' st' w') (A':=A') (hw:=hw') (mk:=λ_=>none) (k:=k) hA' 0 (vs:=arr'.toList) (xs:=cs') (fp:=fp') hrel' hok' (λb hb=>by show(if b∈fp'∨b∈fv then _ else _)=_;rw[au (.inl hb)]) (λi u hu q hq=>by cases hq);exact this;show(if b=g.β t∨b∈fp' then _ else _)=_;rw[au (.inr hb)];show(if g.β t=g.β t∨g.β t∈fp' then _ else _)=_;rw[au (.inl rfl)];show(if g.β t∈fp'∨g.β t∈fv then _ else if g.β t=g.β t then _ else _)=_;rw[aq (by rintro(h1|h1);exact hnb' h1;exact(hfv _ h1).2.2.2 rfl),au rfl];rw[List.getElem?_set_ne (bL hts)]at hb;exact .inl ⟨by simpa using hts,hb,rfl⟩;obtain⟨_,_,h3,h4⟩:=hfv b hb;refine⟨?_,?_⟩;show(if b=g.β s∨b∈fp' then _ else if b∈fv then _ else _)=_;rw[aq (by rintro(h1|h1);exact h4 h1;exact h3 h1),au hb];show(if b∈fp'∨b∈fv then _ else _)=_;rw[au (.inr hb)];exact hhw b hb (λe=>hlb (by rw[e];exact hl0))
theorem Vx {Γ:cG}(hΓ:∀f,aU P f (Γ f)){o':Oper}{f:Operand}{args:Array Operand}{ts:Array TypeId}(ho:o'.op=.call {callee:=.value f,args,argTypes:=ts}){g:Gh}(hg:cw C g st a w []){k:Nat}(hf:st.rd f=.val false [.fn k])(hbx:(Γ k).bx=true){K:AS→Option R}(hk:nL Γ o' k args.toList st K=some r)(next:Act→World→Prop)(Q:Exit→Act→World→Prop)(hnext:∀st' a' w',iD C st' a' w'→K st'=some r→next a' w'):o'.wp P a w next Q:=by
 have hfv:=hg.rd f;rw[hf]at hfv;have hfv:=(cL hfv).1;unfold nL at hk;split at hk
 ·rename_i x0 xs hargs;split at hk
  ·rename_i s hx0;split at hk
   ·rename_i cs hb0;have hb:st.boxes[s]?=some (some cs):=by rw[cz]at hb0;cases hq:st.boxes[s]? with|none=>rw[hq]at hb0;simp at hb0|some q=>rw[hq]at hb0;simp at hb0;rw[hb0]
    cases hc:(cs.all (AC.qI (uS cs))&&xs.all (tL st))with
    |false=>rw[hc]at hk;cases hk
    |true=>
     rw[hc]at hk;simp only[ah]at hk;simp only[ab]at hc;cases hres:(Γ k).fn (.val true (cs.map AC.GY)::xs.map (sU st))with
     |none=>rw[hres]at hk;cases hk
     |some y=>
      rw[hres]at hk;simp only[aa]at hk;cases hc2:(((Γ k).back y).all (AC.qI true)&&((Γ k).av y).OC)with
      |false=>rw[hc2]at hk;cases hk
      |true=>
       rw[hc2]at hk;simp only[ah]at hk;simp only[ab]at hc2;obtain⟨⟨fn,c,hfn,hbody,hname⟩,_,_,hcalls,_⟩:=hΓ k _ y hres;have hcalls:=hcalls hbx _ _ rfl;have hrd:=hg.rd x0;rw[hx0]at hrd;have hpv:=sX hrd;obtain⟨arr,T,fr,fp,hblk,hth,hrel,hn,hnb,hlt,hw0,hlab,hfin⟩:=hg.SY s hb;let A':Rg:=λq b o=>bif q then C.A (uS cs) b o else((bH C g st w).S b o∧b<w.heap.size∧g.lab b≠some (.box s))
       have hA':∀q b' o,A' q b' o→b'<w.heap.size∧b'≠g.β s∧b'∉fp:=by
        intro q b' o hq;have key:b'<w.heap.size∧g.lab b'≠some (.box s):=by cases q with|true=>have hq:C.A (uS cs) b' o:=hq;exact⟨ek (C.hA _ _ _ hq).1 hg.frame.size,λhb=>hg.zq hb _ o hq⟩|false=>exact hq.2
        exact⟨key.1,λe=>key.2 (hlab b' (.inl e)),λe=>key.2 (hlab b' (.inr e))⟩
       have hcall:=hcalls A' w (g.β s) (xs.map a.eval) arr T fr g.hw fp hA' hblk hth (yK (k:=uS cs) hc.1 hrel rfl rfl rfl) hn hnb hlt hw0 (EH hg s (λb o h=>h) xs hc.2);have hpv':a.eval x0=.pointer (some ⟨g.β s,0,none⟩):=hpv;have hargs':(Value.pointer (some ⟨g.β s,0,none⟩)::xs.map a.eval).toArray=args.map a.eval:=by apply cQ;simp[hargs,hpv']
       rw[hargs']at hcall;have hrun:(execOp a.eval o').run P w=.ok (.enter k (args.map a.eval)) w:=by simp[execOp,ho,resolve,hfv,Deferred.ofValue,invoke,callFunc,hfn,hbody];simpa using hname
       unfold Oper.wp;rw[hrun,Oper.upon_enter];refine hcall.mono ?_;rintro e w' ⟨v,hw',fv,arr',T',fr',fp',rfl,hrv,hblk',hth',hrel',hn',hnb',hfp',hnv,hfv',hfr⟩;show next (a.put o'.dst v) w'
       have tail:∀(st1:AS)(g':Gh),cw C g' st1 a w' []→(∀b∈fv,g'.lab b=some (.hand 0)∧g'.hw b=hw' b)→(∀b,b<w.heap.size→g.lab b≠some (.box s)→g'.hw b=g.hw b)→
        K ((st1.dp o'.dst).put o'.dst (((Γ k).av y).uT st1.ep (st1.eD o'.dst)))=some r→next (a.put o'.dst v) w':=by
        intro st1 g' hg' hlv hold hk
        have hAS:∀(hd:Nat→Value)(q:Bool)(b o:Nat),A' q b o→(bH C {g' with hdr:=hd} (st1.dp o'.dst) w').S b o:=by intro hd q b o hq;cases q with|true=>exact .inl ⟨_,hq⟩|false=>rcases hq.1 with hs|hs;exact .inl hs;exact .inr (by show o<g'.hw b;rw[hold b hq.2.1 hq.2.2];exact hs)
        have hfpw:∀b∈fv,g'.hw b=hw' b:=λb hb=>(hlv b hb).2
        have hrel':∃hd,(∀t,gJ st1 t→hd t=g'.hdr t)∧dG (bH C {g' with hdr:=hd} (st1.dp o'.dst) w') v (((Γ k).av y).uT st1.ep (st1.eD o'.dst)) fv:=by
         generalize (Γ k).av y=y at hrv;cases y with
         |val gg cs=>obtain⟨vs,hcut,hr⟩:=hrv;refine⟨kQ g'.hdr (st1.eD o'.dst) vs,λt ht=>rP ht,vs,hcut,?_⟩;have:=sD (c:=bH C {g' with hdr:=kQ g'.hdr (st1.eD o'.dst) vs} (st1.dp o'.dst) w') (mk:=st1.eD o'.dst) (hAS _) 0 hr hfpw (λi u hu t ht=>by rw[bM]at ht;exact⟨(jY ht).2.1,rO hu ht⟩);have hep:(bH C {g' with hdr:=kQ g'.hdr (st1.eD o'.dst) vs} (st1.dp o'.dst) w').ep=st1.ep:=rJ;rw[hep]at this;exact this
         |tup ts=>obtain⟨ws,hv,hr⟩:=hrv;obtain⟨all,hall⟩:=zr hr;refine⟨kQ g'.hdr (st1.eD o'.dst) all,λt ht=>rP ht,ws,hv,?_⟩;have:=CC (c:=bH C {g' with hdr:=kQ g'.hdr (st1.eD o'.dst) all} (st1.dp o'.dst) w') (mk:=st1.eD o'.dst) (hAS _) hall 0 hfpw (λi u hu t ht=>by rw[bM]at ht;exact⟨(jY ht).2.1,rO hu ht⟩);have hep:(bH C {g' with hdr:=kQ g'.hdr (st1.eD o'.dst) all} (st1.dp o'.dst) w').ep=st1.ep:=rJ;rw[hep]at this;exact this
        obtain⟨hd,hhd,hrel'⟩:=hrel'
        obtain⟨g2,hg2⟩:=hg'.CU o'.dst (hw':=g'.hw) (hdr':=hd) (fp:=fv) (st1:=st1.dp o'.dst) ye nB qg rJ (λt ht=>⟨uv ht,hhd t ht⟩)
         (Fr.refl _ _) (λ_ _ _ _=>rfl) (λ_ _ _ ho hu=>⟨ho,hu⟩) hrel' hnv (λb hb=>⟨(hfv' b hb).1,.inl (by rw[(hlv b hb).1];rfl)⟩)
        exact hnext _ _ _ ⟨g2,hg2⟩ hk
       cases hcur:((Γ k).cur&&cs.all AC.xC)with
       |false=>rw[hcur]at hk;obtain⟨g',hg',hlv,hold⟩:=hfin w' hw' arr' T' fr' ((Γ k).back y) fp' fv A' (uS cs) hfr hblk' hth' rfl hrel' hc2.1 hn' hnb' hfp' hfv';exact tail _ g' hg' hlv hold hk
       |true=>rw[hcur]at hk;simp only[ab]at hcur;have hfp0:fp=[]:=Fi hrel hcur.2;subst hfp0;obtain⟨g',hg',hlv,hold⟩:=hg.PX s hb hcur.2 w' hw' arr' T' fr' ((Γ k).back y) fp' fv A' (uS cs) ⟨hfr.os,hfr.tape,hfr.output,hfr.size,λb hb hm=>hfr.block b hb (λhh=>hm (hh.resolve_right (by simp)))⟩ hblk' hth' rfl hrel' hc2.1 hn' hnb' (λb hb=>⟨(hfp' b hb).1,(hfp' b hb).2.resolve_left (by simp)⟩) (λb hb=>⟨(hfv' b hb).1,(hfv' b hb).2.1.resolve_left (by simp),(hfv' b hb).2.2⟩);exact tail _ g' hg' hlv hold hk
   cases hk
  cases hk
 cases hk
theorem arg_val {c c':RC}(hA:c'.A=c.A)(hw:c'.w=c.w){v:Value}{x:AV}{fp:List Nat}(h:dG c v x fp)(hx:x.yY=true):fp=[]∧dG c' v x []:=by
 cases x with
 |tup _=>cases hx
 |val g cs=>
  obtain⟨vs,hcut,h⟩:=h
  have key:∀(cs:List AC)(vs:List Value)(fp:List Nat),aV c vs cs fp→cs.all AC.yY=true→fp=[]∧aV c' vs cs []:=by
   intro cs
   induction cs with
   |nil=>intro vs fp h _;cases vs with
    |nil=>exact⟨h,rfl⟩
    |cons _ _=>exact h.elim
   |cons x cs ih=>
    intro vs fp h hx
    cases vs with
    |nil=>exact h.elim
    |cons v vs=>
     obtain⟨f1,f2,rfl,h1,h2⟩:=h
     simp only[bp,ab]at hx
     obtain⟨rfl,k2⟩:=ih vs f2 h2 hx.2
     have hx:=hx.1
     have one:f1=[]∧eg c' v x []:=by
      cases x with
      |sl fl e xs=>cases fl with|arg k=>exact⟨h1.1,rfl,by rw[hA,hw];exact h1.2⟩|own _=>cases hx|loc _ _=>cases hx|nest _ _ _ _ _ _=>cases hx|part _ _ _ _=>cases hx|holed _ _ _=>cases hx
      |int _ _=>exact gK h1 rfl
      |bool _=>exact gK h1 rfl
      |str _=>exact gK h1 rfl
      |fn _=>exact gK h1 rfl
      |nilsl=>cases hx
      |ptr _ _=>cases hx
      |elt _ _ _ _ _=>cases hx
      |un=>cases hx
      |bot=>cases hx
     obtain⟨rfl,k1⟩:=one
     exact⟨rfl,[],[],rfl,k1,k2⟩
  obtain⟨e,k⟩:=key cs vs fp h hx;exact⟨e,vs,hcut,k⟩
theorem Hd {g:Gh}(h:cw C g st a w []):∀(xs:List Operand),xs.all (λx=>(st.rd x).yY)=true→il C.A w (xs.map a.eval) (xs.map st.rd)
 |[],_=>trivial
 |x::xs,hf=>by simp only[bp,ab]at hf;exact⟨(arg_val (c:=bH C g st w) (c':=dc C.A (λ_=>0) w) rfl rfl (h.rd x) hf.1).2,Hd h xs hf.2⟩
theorem XA {Γ:cG}(hΓ:∀f,aU P f (Γ f)){o':Oper}{f:Operand}{args:Array Operand}{ts:Array TypeId}(ho:o'.op=.call {callee:=.value f,args,argTypes:=ts}){g:Gh}(hg:cw C g st a w []){k:Nat}(hf:st.rd f=.val false [.fn k])(hpr:(Γ k).pr=true){K:AS→Option R}(hk:OD Γ o' k args.toList st K=some r)(next:Act→World→Prop)(Q:Exit→Act→World→Prop)(hnext:∀st' a' w',iD C st' a' w'→K st'=some r→next a' w'):o'.wp P a w next Q:=by
 have hfv:=hg.rd f;rw[hf]at hfv;have hfv:=(cL hfv).1;unfold OD at hk;split at hk
 ·rename_i d hd;split at hk
  ·rename_i hno;cases hc:args.toList.all (λx=>(st.rd x).yY)with
   |false=>rw[hc]at hk;cases hk
   |true=>
    rw[hc]at hk;simp only[ah]at hk;cases hres:(Γ k).fn (args.toList.map st.rd)with
    |none=>rw[hres]at hk;cases hk
    |some y=>
     rw[hres]at hk;simp only[aa]at hk;cases hc2:((Γ k).back y).all AC.yY with
     |false=>rw[hc2]at hk;cases hk
     |true=>
      rw[hc2]at hk;simp only[ah]at hk;obtain⟨⟨fn,c,hfn,hbody,hname⟩,_,_,_,hcalls⟩:=hΓ k _ y hres;have hcall:=hcalls hpr C.A w (args.toList.map a.eval) (λq b o hq=>ek (C.hA q b o hq).1 hg.frame.size) (Hd hg _ hc);have hargs:(args.toList.map a.eval).toArray=args.map a.eval:=by apply cQ;simp
      rw[hargs]at hcall;have hrun:(execOp a.eval o').run P w=.ok (.enter k (args.map a.eval)) w:=by simp[execOp,ho,resolve,hfv,Deferred.ofValue,invoke,callFunc,hfn,hbody];simpa using hname
      unfold Oper.wp;rw[hrun,Oper.upon_enter];refine hcall.mono ?_;rintro e w' ⟨b,arr,T,fr,hw,rfl,hb,hblk,hth,hrel,hfr⟩;show next (a.put o'.dst (.pointer (some ⟨b,0,none⟩))) w'
      rw[cz]at hno;have hbs:=gU hblk;have hne:∀b' x,g.lab b'=some x→b'≠b:=λb' x hx e=>by have:=(hg.labs b' x hx).1;omega
      have hr1:aV ⟨λb'=>if b'=b then 0 else g.hw b',λt=>if t=d then b else g.β t,C.A,g.hdr,gJ st,st.ep,dS st,w'⟩ arr.toList ((Γ k).back y) []:=by
       have hv:dG (dc C.A hw w') (.agg arr.toList.toArray) (.val true ((Γ k).back y)) []:=⟨arr.toList,rfl,hrel⟩
       obtain⟨_,vs,hcut,h⟩:=arg_val (c:=dc C.A hw w') (c':=⟨λb'=>if b'=b then 0 else g.hw b',λt=>if t=d then b else g.β t,C.A,g.hdr,gJ st,st.ep,dS st,w'⟩) rfl rfl hv hc2;have:arr.toList=vs:=by have hcut:Value.agg arr.toList.toArray=.agg vs.toArray:=hcut;simp only[Value.agg.injEq]at hcut;simpa using congrArg Array.toList hcut
       rw[this];exact h
      obtain⟨g',hβ,h'⟩:=hg.Kn d (cs:=(Γ k).back y) (arr:=arr) (T:=T) (fr:=fr) (fp:=[]) (w':=w') (bnew:=b) (hw':=λb'=>if b'=b then 0 else g.hw b') (.inr ⟨hb,hno⟩) ⟨hfr.os,hfr.tape,hfr.output,hfr.size,λb' hb' _=>hfr.block b' hb' (λm=>m)⟩ hblk hth hbs (by simp) (λb' x hx _ hn=>by simp[hn]) (λb' o u ho hu=>by have hb':b'<w.heap.size:=World.block_lt_of_cell? w _ hu;exact⟨by simp[show b'≠b by omega];exact ho,rz hfr hu⟩) hr1 List.nodup_nil (by simp) (λb' hb'=>by cases hb');have hdl:d<st.boxes.length:=(List.getElem?_eq_some_iff.1 hno).1;have hq:=h'.quiet (some d) (v:=.pointer (some ⟨b,0,none⟩)) (av:=.one (.ptr d 0)) (ia ⟨by simp[bH,hβ],⟨(Γ k).back y,by rw[fZ];simp[hdl]⟩,rfl⟩);rw[hd];exact hnext _ _ _ ⟨g',hq⟩ hk
  cases hk
 cases hk
theorem S1 {Γ:cG}(hΓ:∀f,aU P f (Γ f)){o':Oper}{f:Operand}{args:Array Operand}{ts:Array TypeId}(ho:o'.op=.call {callee:=.value f,args,argTypes:=ts})(h:iD C st a w){K:AS→Option R}(hk:uV Γ o' f args.toList st K=some r)(next:Act→World→Prop)(Q:Exit→Act→World→Prop)(hnext:∀st' a' w',iD C st' a' w'→K st'=some r→next a' w'):o'.wp P a w next Q:=by
 obtain⟨g,hg⟩:=h;unfold uV at hk;split at hk
 ·rename_i k hf
  have hfv:=hg.rd f
  rw[hf]at hfv
  have hfv:=(cL hfv).1
  cases hbx:(Γ k).bx with
  |true=>rw[hbx]at hk;exact Vx hΓ ho hg hf hbx hk next Q hnext
  |false=>
  rw[hbx]at hk
  simp only[ai]at hk
  cases hpr:(Γ k).pr with
  |true=>rw[hpr]at hk;exact XA hΓ ho hg hf hpr hk next Q hnext
  |false=>
  rw[hpr]at hk
  simp only[ai]at hk
  cases hio:(Γ k).io with
  |true=>rw[hio]at hk;exact ZT hΓ ho hg hf hio hk next Q hnext
  |false=>
  rw[hio]at hk
  simp only[ai]at hk
  cases hres:(Γ k).fn (args.toList.map λx=>((st.rd x).fresh st).asArg st.ep)with
  |none=>rw[hres]at hk;cases hk
  |some y0=>
   rw[hres]at hk
   simp only[aa]at hk
   obtain⟨⟨fn,c,hfn,hbody,hname⟩,hcalls,_⟩:=hΓ k _ y0 hres
   have hcalls:=hcalls hio hbx
   have hk:K ((st.dp o'.dst).put o'.dst (((Γ k).res y0).uT st.ep (st.eD o'.dst)))=some r:=by unfold aW.res;cases hsel:(Γ k).sel y0 with|true=>rw[hsel]at hk;exact hk|false=>rw[hsel]at hk;exact hk
   generalize hy0:(Γ k).res y0=y at hk hcalls
   have hcall:=hcalls (λ_ b o=>(bH C g st w).S b o∧b<w.heap.size) w (args.toList.map a.eval) (λ_ _ _ h=>h.2) (He hg args.toList)
   have hargs:(args.toList.map a.eval).toArray=args.map a.eval:=by apply cQ;simp
   rw[hargs]at hcall
   have hrun:(execOp a.eval o').run P w=.ok (.enter k (args.map a.eval)) w:=by simp[execOp,ho,resolve,hfv,Deferred.ofValue,invoke,callFunc,hfn,hbody];simpa using hname
   unfold Oper.wp
   rw[hrun,Oper.upon_enter]
   refine hcall.mono ?_
   rintro e w' ⟨v,hw,fp,rfl,hrel,hnd,hfp,hfr⟩
   show next (a.put o'.dst v) w'
   let hw':Nat→Nat:=λb=>if b∈fp then hw b else g.hw b
   have hnin:∀b,b<w.heap.size→b∉fp:=λb hb hm=>by have:=(hfp b hm).1;omega
   have hA':∀(hd:Nat→Value)(_:Bool)(b o:Nat),((bH C g st w).S b o∧b<w.heap.size)→(bH C {g with hw:=hw',hdr:=hd} (st.dp o'.dst) w').S b o:=by rintro hd _ b o ⟨hs,hb⟩;rcases hs with hs|hs;exact .inl hs;exact .inr (by simp only[bH,hw',aq (hnin b hb)];exact hs)
   have hrel':∃hd,(∀t,gJ st t→hd t=g.hdr t)∧dG (bH C {g with hw:=hw',hdr:=hd} (st.dp o'.dst) w') v (y.uT st.ep (st.eD o'.dst)) fp:=by
    have hfpw:∀b∈fp,hw' b=hw b:=λb hb=>by simp[hw',hb]
    cases y with
    |val gg cs=>obtain⟨vs,hcut,hr⟩:=hrel;refine⟨kQ g.hdr (st.eD o'.dst) vs,λt ht=>rP ht,vs,hcut,?_⟩;have:=sD (c:=bH C {g with hw:=hw',hdr:=kQ g.hdr (st.eD o'.dst) vs} (st.dp o'.dst) w') (mk:=st.eD o'.dst) (hA' _) 0 hr hfpw (λi u hu t ht=>by rw[bM]at ht;exact⟨(jY ht).2.1,rO hu ht⟩);have hep:(bH C {g with hw:=hw',hdr:=kQ g.hdr (st.eD o'.dst) vs} (st.dp o'.dst) w').ep=st.ep:=rJ;rw[hep]at this;exact this
    |tup ts=>obtain⟨ws,hv,hr⟩:=hrel;obtain⟨all,hall⟩:=zr hr;refine⟨kQ g.hdr (st.eD o'.dst) all,λt ht=>rP ht,ws,hv,?_⟩;have:=CC (c:=bH C {g with hw:=hw',hdr:=kQ g.hdr (st.eD o'.dst) all} (st.dp o'.dst) w') (mk:=st.eD o'.dst) (hA' _) hall 0 hfpw (λi u hu t ht=>by rw[bM]at ht;exact⟨(jY ht).2.1,rO hu ht⟩);have hep:(bH C {g with hw:=hw',hdr:=kQ g.hdr (st.eD o'.dst) all} (st.dp o'.dst) w').ep=st.ep:=rJ;rw[hep]at this;exact this
   obtain⟨hd,hhd,hrel'⟩:=hrel'
   obtain⟨g',hg'⟩:=hg.CU o'.dst (hw':=hw') (hdr':=hd) (fp:=fp) (st1:=st.dp o'.dst) ye nB qg rJ (λt ht=>⟨uv ht,hhd t ht⟩)
    ⟨hfr.os,hfr.tape,hfr.output,hfr.size,λb hb _=>hfr.block b hb (λm=>m)⟩ (λb x hx _=>by simp[hw',hnin b (hg.labs b x hx).1])
    (λb o u ho hu=>by have hb:b<w.heap.size:=World.block_lt_of_cell? w _ hu;exact⟨by simp[hw',hnin b hb];exact ho,rz hfr hu⟩) hrel' hnd (λb hb=>⟨(hfp b hb).2,.inr (hfp b hb).1⟩)
   exact hnext _ _ _ ⟨g',hg'⟩ hk
 cases hk
end Go.Dn
