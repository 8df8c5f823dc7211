import Derived.Test.YtfbhfnniblfpbaaGreatDnOps8
/- A call by value: what a callee promises, and what the caller makes of it. -/
namespace Go.Dn
open Go.RowKit
variable {P:Program} {C:Ctx} {st:AS} {a:Act} {w:World} {R:Type} {r:R}
variable {x:AC} {args:Array Operand} {ts:Array TypeId} {Γ:xV} {g:Gh} {k:Nat} {hw hw':Nat->Nat} {hdr:Nat->Value} {f:Operand} {c c':RC} {A:Rg} {cs:aq AC} {d:au Nat} {fp:dX}
def eQ (A:Rg)(hw:Nat->Nat)(w:World):RC:=⟨hw,λ_=>0,A,λ_=>undef,λ_=>False,0,λ_=>False,w⟩
def nf (A:Rg)(w:World):ie->aq AV->Prop
 |[],[]=>True
 |v::vs,x::xs=>fL (eQ A (λ_=>0) w) v x []/\nf A w vs xs
 |_,_=>False
def ap7 (P:Program)(f:Nat)(F:Aq)(y:F.R)(g:Bool)(cs:aq AC)(rest:aq AV):Prop:=
 ∀(A:Rg)(w:World)(v0:Value)(vs:ie)(hw:Nat->Nat)(fp:dX),(∀k b o,A k b o->b<w.heap.size/\b∉fp)->fL (eQ A hw w) v0 (.val g cs) fp->fp.Nodup->(∀b∈fp,b<w.heap.size)->nf A w vs rest->
  Calls P f (v0::vs).toArray w λe w'=>∃v hw' fr iw,e=.returned v/\fL (eQ A hw' w') v (F.av y) fr/\fL (eQ A hw' w') v0 (.val g (F.back y)) iw/\iw.Nodup/\
   (∀b∈iw,b<w'.heap.size/\(b∈fp\/w.heap.size<=b))/\Fr (λb=>b∈fp) w w'
def ai4 (P:Program)(f:Nat)(F:Aq)(y:F.R)(cs:aq AC)(rest:aq AV):Prop:=
 ∀(A:Rg)(w:World)(b:Nat)(vs:ie)(arr:Array Value)(T:TypeId)(fr:Nat×Nat)(hw:Nat->Nat)(fp:dX),(∀k b' o,A k b' o->b'<w.heap.size/\b'≠b/\b'∉fp)->
  w.heap[b]?=some (.cells arr T fr)->qe arr fr->bn (eQ A hw w) arr.toList cs fp->fp.Nodup->b∉fp->(∀b'∈fp,b'<w.heap.size)->hw b=0->nf A w vs rest->
  Calls P f (.pointer (some ⟨b,0,none⟩)::vs).toArray w λe w'=>∃v hw' fv iX T' RA iw,e=.returned v/\fL (eQ A hw' w') v (F.av y) fv/\w'.heap[b]?=some (.cells iX T' RA)/\qe iX RA/\
   bn (eQ A hw' w') iX.toList (F.back y) iw/\iw.Nodup/\b∉iw/\(∀b'∈iw,b'<w'.heap.size/\(b'∈fp\/w.heap.size<=b'))/\fv.Nodup/\(∀b'∈fv,b'<w'.heap.size/\(b'∈fp\/w.heap.size<=b')/\b'∉iw/\b'≠b)/\Fr (λb'=>b'=b\/b'∈fp) w w'
def ahC (P:Program)(f:Nat)(F:Aq)(y:F.R)(xs:aq AV):Prop:=
 ∀(A:Rg)(w:World)(vs:ie),(∀k b o,A k b o->b<w.heap.size)->nf A w vs xs->
  Calls P f vs.toArray w λe w'=>∃b arr T fr hw,e=.returned (.pointer (some ⟨b,0,none⟩))/\w.heap.size<=b/\w'.heap[b]?=some (.cells arr T fr)/\qe arr fr/\bn (eQ A hw w') arr.toList (F.back y) []/\Fr (λ_=>False) w w'
def kX (P:Program)(f:Nat)(F:Aq):Prop:=
 ∀(xs:aq AV)(y:F.R),F.fn xs=some y->
  (∃fn c,P.funcs[f]?=some fn/\fn.body=some c/\(fn.name== "runtime.NumGoroutine")=false)/\
  (F.io=false->F.bx=false->∀(A:Rg)(w:World)(vs:ie),(∀k b o,A k b o->b<w.heap.size)->nf A w vs xs->
    Calls P f vs.toArray w λe w'=>∃v hw fp,e=.returned v/\fL (eQ A hw w') v (F.res y) fp/\fp.Nodup/\(∀b∈fp,w.heap.size<=b/\b<w'.heap.size)/\Fr (λ_=>False) w w')/\
  (F.io=true->∀g cs rest,xs=.val g cs::rest->ap7 P f F y g cs rest)/\
  (F.bx=true->∀cs rest,xs=.val true cs::rest->ai4 P f F y cs rest)/\
  (F.pr=true->ahC P f F y xs)
theorem lT {v:Value}(h:gM c v x fp)(hf:x.gv=true):fp=[]/\gM c' v x []:=by cases x with|int k n=>exact⟨h.2,h.1,rfl⟩|bool b=>exact⟨h.2,h.1,rfl⟩|str s=>exact⟨h.2,h.1,rfl⟩|fn f=>exact⟨h.2,h.1,rfl⟩|_=>cases hf
theorem Jo {c':RC}:∀{vs:ie}{xs:aq AC}{fp:dX},bn c vs xs fp->xs.all AC.gv=true->fp=[]/\bn c' vs xs []
 |[],[],_,h,_=>⟨h,rfl⟩
 |_::_,_::_,_,h,hf=>by obtain⟨f1,f2,rfl,h1,h2⟩:=h;simp only[bQ,ah]at hf;obtain⟨rfl,k1⟩:=lT (c':=c') h1 hf.1;obtain⟨rfl,k2⟩:=Jo (c':=c') h2 hf.2;exact⟨rfl,[],[],rfl,k1,k2⟩
 |[],_::_,_,h,_=>h.elim
 |_::_,[],_,h,_=>h.elim
theorem Vp:∀{ws:ie}{ts:aq (Bool×aq AC)}{fp:dX},fL.qM c ws ts fp->(ts.all λx=>x.2.all AC.gv)=true->fL.qM c' ws ts []
 |[],[],_,_,_=>rfl
 |_::_,_::_,_,h,hf=>by obtain⟨f1,f2,rfl,⟨vs,hv,h1⟩,h2⟩:=h;simp only[bQ,ah]at hf;exact⟨[],[],rfl,⟨vs,hv,(Jo h1 hf.1).2⟩,Vp h2 hf.2⟩
 |[],_::_,_,h,_=>h.elim
 |_::_,[],_,h,_=>h.elim
theorem Ej {v:Value}{x:AV}(h:fL c v x fp)(hf:x.gv=true):fL c' v x []:=by
 cases x with
 |val g cs=>obtain⟨vs,hv,h⟩:=h;exact⟨vs,hv,(Jo h hf).2⟩
 |vU ts=>obtain⟨ws,hv,h⟩:=h;exact⟨ws,hv,Vp h hf⟩
theorem PH:∀(os ss:aq AC){r:aq AC}{vs us:ie}{f:dX},mR os ss=some r->bn c vs os []->bn c us ss f->bn (eQ A c.hw c.w) vs r f:=by
 intro os;induction os with
 |nil=>intro ss r vs us f h hv hu;cases ss with|cons _ _=>simp[mR]at h|nil=>simp[mR]at h;subst h;cases vs with|cons _ _=>exact hv.elim|nil=>cases us with|cons _ _=>exact hu.elim|nil=>exact hu
 |cons o os ih=>
  intro ss r vs us f h hv hu;cases vs with
  |nil=>exact hv.elim
  |cons v vs=>
   cases ss with
   |nil=>unfold mR at h;split at h<;>first|contradiction|cases h
   |cons s ss=>
    cases us with
    |nil=>exact hu.elim
    |cons u us=>
     obtain⟨g1,g2,hg,hv1,MB⟩:=hv;have e1:g1=[]:=by have:=hg.symm;simp at this;exact this.1
     have e2:g2=[]:=by have:=hg.symm;simp at this;exact this.2
     subst e1;subst e2;obtain⟨f1,f2,rfl,hu1,hu2⟩:=hu;have fl:∀{x:AC}{r'},x.gv=true->s.gv=true->o=x->mR os ss=some r'->r=x::r'->bn (eQ A c.hw c.w) (v::vs) r (f1++f2):=by rintro x r' hx hs rfl hr rfl;obtain⟨rfl,_⟩:=lT (c':=c) hu1 hs;exact⟨[],f2,rfl,(lT hv1 hx).2,ih ss hr MB hu2⟩
     unfold mR at h;split at h;contradiction;rename_i ep rt t e0 xs0 os' t' e xs ss' h1 h2;injection h1 with h1 OI;subst h1;subst OI;injection h2 with h2 UI;subst h2;subst UI;cases ht:(t'==t)with
     |false=>rw[ht]at h;cases h
     |true=>
      have:t'=t:=by simpa using ht
      subst this;rw[ht]at h;simp only[af]at h;obtain⟨r',hr,h⟩:=aL.1 h;cases h;have Tx:=(hv1.2.2.2.2 rt t' rfl).2;have RI:=(hu1.2 t' rfl).2;have huv:u=v:=RI.trans Tx.symm;subst huv;exact⟨f1,f2,rfl,⟨hu1.1,by simp⟩,ih _ hr MB hu2⟩
     rename_i k n os' k' n' ss' h1 h2;injection h1 with h1 OI;subst OI;injection h2 with h2 UI;subst h2;subst UI;obtain⟨r',hr,h⟩:=aL.1 h;cases h;exact fl (x:=.int k n) rfl rfl h1 hr rfl;rename_i k os' k' ss' h1 h2;injection h1 with h1 OI;subst OI;injection h2 with h2 UI;subst h2;subst UI;obtain⟨r',hr,h⟩:=aL.1 h;cases h;exact fl (x:=.bool k) rfl rfl h1 hr rfl;rename_i k os' k' ss' h1 h2;injection h1 with h1 OI;subst OI;injection h2 with h2 UI;subst h2;subst UI;obtain⟨r',hr,h⟩:=aL.1 h;cases h;exact fl (x:=.str k) rfl rfl h1 hr rfl;cases h
theorem WJ (hle:c.Le c'):∀(os ss bs:aq AC){seg:aq AC}{vs us:ie}{f f':dX},DK os ss bs=some seg->bn c vs os []->bn c us ss f-> bn (eQ A hw' c'.w) vs bs f'->(∀b∈f',c'.hw b=hw' b)->bn c' us seg f':=by
 intro os;induction os with
 |nil=>
  intro ss bs seg vs us f f' h hv hu hb _;unfold DK at h;split at h;cases h;cases us with|cons _ _=>exact hu.elim|nil=>cases vs with|cons _ _=>exact hv.elim|nil=>exact hb
  all_goals first|contradiction|cases h
 |cons o os ih=>
  intro ss bs seg vs us f f' h hv hu hb hh;unfold DK at h;split at h;contradiction;rename_i ep rt t' e0 xs0 os' t e1 xs1 ss' tg e ys bs' h1;injection h1 with h1 OI;subst h1;subst OI;cases ht:(t==t')with
  |false=>rw[ht]at h;cases h
  |true=>
   have:t=t':=by simpa using ht
   subst this;rw[ht]at h;simp only[af]at h;obtain⟨r',hr,h⟩:=aL.1 h;cases h;cases vs with
   |nil=>exact hv.elim
   |cons v vs=>
    cases us with
    |nil=>exact hu.elim
    |cons u us=>
     obtain⟨g1,g2,hg,hv1,MB⟩:=hv;have e1:g1=[]:=by have:=hg.symm;simp at this;exact this.1
     have e2:g2=[]:=by have:=hg.symm;simp at this;exact this.2
     subst e1;subst e2;obtain⟨f1,f2,rfl,hu1,hu2⟩:=hu;obtain⟨f1',f2',rfl,hb1,GG⟩:=hb;have Tx:=(hv1.2.2.2.2 rt t rfl).2;have RI:=hu1.2 t rfl;have huv:u=v:=RI.2.trans Tx.symm;refine⟨f1',f2',rfl,⟨?_,λq hq=>?_⟩,ih _ _ hr MB hu2 GG (λb hb=>hh b (ba _ hb))⟩;rw[huv];exact ez.mono hb1.1 (λb hb=>⟨rfl,hh b (bk _ hb)⟩);cases hq;exact⟨(hle.hdr t RI.1).1,by rw[(hle.hdr t RI.1).2];exact RI.2⟩
  all_goals first
   |cases h
   |(rename_i h1
     injection h1 with h1 OI;subst OI
     obtain⟨r',hr,h⟩:=aL.1 h
     cases h
     cases vs with
     |nil=>exact hv.elim
     |cons v vs=>
      cases us with
      |nil=>exact hu.elim
      |cons u us=>
       obtain⟨g1,g2,hg,hv1,MB⟩:=hv
       have e1:g1=[]:=by have:=hg.symm;simp at this;exact this.1
       have e2:g2=[]:=by have:=hg.symm;simp at this;exact this.2
       subst e1;subst e2
       obtain⟨f1,f2,rfl,hu1,hu2⟩:=hu
       obtain⟨f1',f2',rfl,hb1,GG⟩:=hb
       have k1:=(lT (c':=c) hb1 rfl).1
       subst k1
       exact⟨[],f2',rfl,(lT hu1 rfl).2,ih _ _ hr MB hu2 GG (λb hb=>hh b (ba _ hb))⟩)
theorem XR {v:Value}(h:gM c v x fp):gM (eQ (λ_ b o=>c.S b o/\b<c.w.heap.size) (λ_=>0) c.w) v (x.asArg c.ep) []:=by
 have hS:∀{e:CT}{xs:aq e.D},jf c.w c.S (.sl e) [v] xs->jf c.w (λb o=>c.S b o/\b<c.w.heap.size) (.sl e) [v] xs:=λhr=>
  jf.mono (λb o u hs hu=>⟨⟨hs,World.block_lt_of_cell? c.w _ hu⟩,hu⟩) hr
 cases x with|int k n=>exact⟨h.1,rfl⟩|bool b=>exact⟨h.1,rfl⟩|str s=>exact⟨h.1,rfl⟩|jB=>exact⟨h.1,rfl⟩|fn f=>exact⟨h.1,rfl⟩|ptr s off=>exact rfl|un=>exact rfl|bot=>exact rfl|Da fl e y i off=>exact rfl|sl fl e xs=>cases fl with|nest _ _ _ _ _ _=>exact rfl|part _ _ _ _=>exact rfl|fe _ _ _=>exact rfl|own t=>exact⟨rfl,hS (ez.rep (λb o ho=> .inr ho) h.1)⟩|arg k=>exact⟨rfl,hS (jf.mono (λb o u hs hu=>⟨.inl ⟨k,hs⟩,hu⟩) h.2)⟩|loc ep pv=>simp only[AC.asArg];split;rename_i he;exact⟨rfl,hS (h.2.2.2.1 (by simpa using he))⟩;exact rfl
theorem Mn:∀{vs:ie}{xs:aq AC}{fp:dX},bn c vs xs fp->bn (eQ (λ_ b o=>c.S b o/\b<c.w.heap.size) (λ_=>0) c.w) vs (xs.map (AC.asArg c.ep)) []
 |[],[],_,_=>rfl
 |_::_,_::_,_,h=>by obtain⟨f1,f2,rfl,h1,h2⟩:=h;exact⟨[],[],rfl,XR h1,Mn h2⟩
 |[],_::_,_,h=>h.elim
 |_::_,[],_,h=>h.elim
theorem aa8 {v:Value}{x:AV}(h:fL c v x fp):fL (eQ (λ_ b o=>c.S b o/\b<c.w.heap.size) (λ_=>0) c.w) v (x.asArg c.ep) []:=by
 cases x with
 |val g cs=>obtain⟨vs,hv,h⟩:=h;exact⟨vs,hv,Mn h⟩
 |vU ts=>exact fL.bot _ _
theorem UZ (h:dx C g st a w []):∀(args:aq Operand),
 nf (λ_ b o=>(cy C g st w).S b o/\b<w.heap.size) w (args.map a.eval) (args.map λx=>((st.rd x).fresh st).asArg st.ep)
 |[]=>trivial
 |x::xs=>⟨aa8 (c:=cy C g st w) (h.fresh (h.rd x)),UZ h xs⟩
theorem XS {A':Rg}{v:Value}{tag:au Nat}(h:gM (eQ A' hw c.w) v x fp)(hA:∀k b o,A' k b o->c.S b o)(Ca:∀b∈fp,c.hw b=hw b)(ht:∀t,tag=some t->c.iss t/\v=c.hdr t):gM c v (x.Ga c.ep tag) fp:=by
 cases x with
 |int k n=>exact h
 |bool b=>exact h
 |str s=>exact h
 |jB=>exact h
 |fn f=>exact h
 |ptr s off=>exact h.2.2
 |un=>exact h
 |bot=>exact h
 |Da fl e y i off=>cases fl with|own t=>exact h.elim|nest _ _ _ _ _ _=>exact h.elim|part _ _ _ _=>exact h.elim|fe _ _ _=>exact h.elim|arg _=>exact h.1|loc ep pv=>exact h.1
 |sl fl e xs=>
  cases fl with
  |nest _ _ _ _ _ _=>exact h.1
  |part _ _ _ _=>exact h.1
  |fe _ _ _=>obtain⟨_,⟨k,hk,h3⟩,_⟩:=h;exact⟨λq hq=>(by cases hq),⟨k,hk,h3.mono (λb hb=>⟨rfl,Ca b hb⟩)⟩,by simp⟩
  |own t=>exact⟨ez.mono h.1 (λb hb=>⟨rfl,Ca b hb⟩),ht⟩
  |loc ep pv=>exact h.1
  |arg _=>have hr:jf c.w c.S (.sl e) [v] xs:=jf.mono (λb o u hs hu=>⟨hA _ b o hs,hu⟩) h.2;refine⟨h.1,aR _,?_,λ_=>hr,by simp⟩;obtain⟨u,hu,k⟩:=hr;simp at hu;subst hu;rcases k with⟨⟨ad,rfl⟩,rfl⟩|⟨b,o,cap,rfl,_⟩;exact⟨_,_,_,rfl,rfl⟩;exact⟨_,_,_,rfl,rfl⟩
theorem C4 {A':Rg}{mk:Nat->au Nat}(hA:∀k b o,A' k b o->c.S b o):∀{vs:ie}{xs:aq AC}{fp:dX}(j:Nat),bn (eQ A' hw c.w) vs xs fp->(∀b∈fp,c.hw b=hw b)->
 (∀i v,vs[i]?=some v->∀t,mk (j+i)=some t->c.iss t/\v=c.hdr t)->bn c vs (KM c.ep mk j xs) fp
 |[],[],_,_,h,_,_=>h
 |v::_,_::_,_,j,h,hh,hm=>by obtain⟨f1,f2,rfl,h1,h2⟩:=h;exact⟨f1,f2,rfl,XS h1 hA (λb hb=>hh b (bk _ hb)) (λt ht=>hm 0 v rfl t ht),C4 hA (j+1) h2 (λb hb=>hh b (ba _ hb)) (λi u hu t ht=>hm (i+1) u (by simpa using hu) t (by rwa[show j+(i+1)=j+1+i by omega]))⟩
 |[],_::_,_,_,h,_,_=>h.elim
 |_::_,[],_,_,h,_,_=>h.elim
inductive Leaves (A:Rg) (hw:Nat->Nat) (w:World):List Value->List (Bool×List AC)->List Nat->List Value->Prop
 |nil:Leaves A hw w [] [] [] []
 |cons {v:Value} {vs:List Value} {g:Bool} {cs:List AC} {ts:List (Bool×List AC)} {f1 f2:List Nat} {us all:List Value} (eh:Cut g v us) (hr:bn (eQ A hw w) us cs f1) (h:Leaves A hw w vs ts f2 all):
  Leaves A hw w (v::vs) ((g,cs)::ts) (f1++f2) (us++all)
theorem LN {w:World}:∀{ws:ie}{ts:aq (Bool×aq AC)}{fp:dX},fL.qM (eQ A hw w) ws ts fp->∃all,Leaves A hw w ws ts fp all
 |[],[],_,h=>by cases h;exact⟨[],.nil⟩
 |_::_,(g,cs)::_,_,h=>by obtain⟨f1,f2,rfl,⟨us,eh,hr⟩,h2⟩:=h;obtain⟨all,GF⟩:=LN h2;exact⟨us++all,.cons eh hr GF⟩
 |[],_::_,_,h=>h.elim
 |_::_,[],_,h=>h.elim
theorem O9 {A':Rg}{mk:Nat->au Nat}(hA:∀k b o,A' k b o->c.S b o){ws:ie}{ts:aq (Bool×aq AC)}{all:ie}(h:Leaves A' hw c.w ws ts fp all): ∀j,(∀b∈fp,c.hw b=hw b)->(∀i v,all[i]?=some v->∀t,mk (j+i)=some t->c.iss t/\v=c.hdr t)->fL.qM c ws (Zs c.ep mk j ts) fp:=by induction h with|nil=>intro j _ _;exact rfl| @cons v vs g cs ts f1 f2 us all eh hr h ih=>intro j hh hm;have hl:=hr.length;refine⟨f1,f2,rfl,⟨us,eh,C4 hA j hr (λb hb=>hh b (bk _ hb)) (λi u hu t ht=>?_)⟩,ih _ (λb hb=>hh b (ba _ hb)) (λi u hu t ht=>?_)⟩;exact hm i u (by rw[bw (aD.1 hu).1];exact hu) t ht;have hl':us.length=cs.length:=hl;refine hm (us.length+i) u (by rw[bq (by omega)];simpa using hu) t ?_;rw[<-fF,hl'];exact ht
def qT (hdr:Nat->Value)(mk:Nat->au Nat)(all:ie):Nat->Value:=λu=>if mk (u/3%4096)=some u then(all[u/3%4096]?).getD undef else hdr u
theorem B9 {all:ie}{t:Nat}(h:lL st t):qT hdr (st.il d) all t=hdr t:=by unfold qT;rw[aF];intro e;exact(pU e).1 h
theorem B8 {all:ie}{i t:Nat}{v:Value}(hv:all[i]?=some v)(h:st.il d i=some t):v=qT hdr (st.il d) all t:=by
 obtain⟨_,_,d',rfl,ht,hi⟩:=pU h;have agB:t/3%4096=i:=by rw[ht,K6];omega
 unfold qT;rw[agB,aG h,hv];rfl
theorem dx.NM (h:dx C g st a w [])(o:je)(Mz:¬cY (some o)){f1 f2 f3:dX}(hn:(f1++f2++f3).Nodup)(hl:∀b∈f1++f2++f3,g.dK b=some o){w':World}{st':AS}{jG:dX}(xY:st'.ep=st.ep+1)(GH:st'.iss=st.iss)(qU:∀s,gA st s->gA st' s)(EM:jG.Nodup)(oo:∀b∈jG,b<w'.heap.size/\(b∈f2\/w.heap.size<=b))(gP:Fr (λb=>b∈f2) w w')(Ca:∀b,b<w.heap.size->b∉f2->hw' b=g.hw b): (cy C g st w).Le (cy C (g.wrote o (f1++jG++f3) hw') st' w')/\(f1++jG++f3).Nodup/\ (∀b∈f1++jG++f3,(g.wrote o (f1++jG++f3) hw').dK b=some o)/\ (∀b∈f1++f3,w'.heap[b]?=w.heap[b]?/\hw' b=g.hw b)/\ (∀b x,¬cY (some x)->x≠o->g.dK b=some x->(g.wrote o (f1++jG++f3) hw').dK b=some x/\w'.heap[b]?=w.heap[b]?/\hw' b=g.hw b)/\ (∀b,g.dK b=some o->b∉f1++f2++f3->(g.wrote o (f1++jG++f3) hw').dK b=some o/\w'.heap[b]?=w.heap[b]?/\hw' b=g.hw b)/\ Fr C.M C.w0 w'/\(∀b x,(g.wrote o (f1++jG++f3) hw').dK b=some x->b<w'.heap.size/\(C.w0.heap.size<=b\/C.M b)):=by
 have Cb:=hn;rw[aN]at Cb;have n1:=aB.1 Cb;have n2:=aB.1 n1.2.1;have Az:∀b∈f1++f3,b∉f2:=by intro b hb h2;rcases az.1 hb with hb|hb;exact n1.2.2 b hb b (bk _ h2) rfl;exact n2.2.2 b h2 b hb rfl
 have Yo:∀k b o u,C.A k b o->w.cell? ⟨b,o,none⟩=some u->w'.cell? ⟨b,o,none⟩=some u:=by intro k b o u hA hu;have hb:b<w.heap.size:=World.block_lt_of_cell? w _ hu;have JS:¬(b∈f2):=λhm=>h.LM (hl b (by simp[hm])) k o hA;rw[World.cell?_of_block (a:=⟨b,o,none⟩) (gP.block b hb JS)];exact hu
 have hle:(cy C g st w).Le (cy C (g.wrote o (f1++jG++f3) hw') st' w'):=⟨rfl,λt ht=>⟨by show lL st' t;have UK:lL st t:=ht;simpa[lL,GH]using UK,rfl⟩,Yo,by show st.ep<=st'.ep;omega,λs hs=>⟨qU s hs,rfl⟩,λhe=>absurd he (by show st'.ep≠st.ep;omega)⟩
 have me:∀b x,g.dK b=some x->b∉f2->w'.heap[b]?=w.heap[b]?/\hw' b=g.hw b:=by intro b x hb hm;exact⟨gP.block b (h.fB b _ hb).1 hm,Ca b (h.fB b _ hb).1 hm⟩
 have hd1:∀b∈f1++f3,b∉jG:=by intro b hb hm;rcases(oo b hm).2 with h2|h2;exact Az b hb h2;have:=(h.fB b _ (hl b (by rcases az.1 hb with hb|hb<;>simp[hb]))).1;omega
 refine⟨hle,?_,?_,?_,?_,?_,?_,?_⟩;rw[aN];refine aB.2 ⟨n1.1,aB.2 ⟨EM,n2.2.1,?_⟩,?_⟩;rintro b hb c hc rfl;exact hd1 b (by simp[hc]) hb;rintro b hb c hc rfl;rcases az.1 hc with hc|hc;exact hd1 b (by simp[hb]) hc;exact n1.2.2 b hb b (ba _ hc) rfl;intro b hb;show(if b∈f1++jG++f3 then _ else _)=_;rw[aG hb];intro b hb;exact me b o (hl b (by rcases az.1 hb with hb|hb<;>simp[hb])) (Az b hb);intro b x hh hxo hb;have hm2:b∉f2:=λhm=>hxo (by have:=hl b (by simp[hm]);rw[hb]at this;simpa using this);refine⟨?_,me b x hb hm2⟩;show(if b∈f1++jG++f3 then _ else if cY (g.dK b) then none else g.dK b)=_;have Ts:b∉f1++jG++f3:=by intro hm;simp only[az]at hm;rcases hm with(hm|hm)|hm;exact hxo (by have:=hl b (by simp[hm]);rw[hb]at this;simpa using this);rcases(oo b hm).2 with h2|h2;exact hm2 h2;have:=(h.fB b _ hb).1;omega;exact hxo (by have:=hl b (by simp[hm]);rw[hb]at this;simpa using this)
 rw[aF Ts,aF (by rw[hb];exact hh),hb];intro b hb hm;have hm2:b∉f2:=λk=>hm (by simp[k]);refine⟨?_,me b o hb hm2⟩;show(if b∈f1++jG++f3 then _ else if cY (g.dK b) then none else g.dK b)=_;rw[aF (c:=cY (g.dK b)) (by rw[hb];exact Mz),hb];split<;>rfl;refine h.frame.trans gP (λb hb hm=>?_);rcases(h.fB b o (hl b (by simp[hm]))).2 with h2|h2;omega;exact h2;intro b x hx;have AR:(if b∈f1++jG++f3 then some o else if cY (g.dK b) then none else g.dK b)=some x:=hx;have hz:=gP.size;have Zj:∀y,g.dK b=some y->b<w'.heap.size/\(C.w0.heap.size<=b\/C.M b):=λy hy=>⟨gR (h.fB b y hy).1 hz,(h.fB b y hy).2⟩
 split at AR;rename_i hm;simp only[az]at hm;rcases hm with(hm|hm)|hm;exact Zj o (hl b (by simp[hm]));rcases(oo b hm).2 with h2|h2;exact Zj o (hl b (by simp[h2]));exact⟨(oo b hm).1,.inl (aE h.frame.size h2)⟩;exact Zj o (hl b (by simp[hm]));split at AR;cases AR;exact Zj x AR
theorem JK {vs us:ie}{seg:aq AC}{f1 f2 f3:dX}{off n:Nat}(QJ:us=(vs.drop off).take n)(hln:us.length=n)(r1:bn c' (vs.take off) (cs.take off) f1)(r2:bn c' us seg f2)(r3:bn c' (vs.drop (off+n)) (cs.drop (off+n)) f3): bn c' vs (db cs off seg) (f1++f2++f3):=by
 have AA:=r2.length;have e:vs=vs.take off++us++vs.drop (off+n):=by rw[QJ,aN,<-ec,cp,cp]
 rw[e,db,show seg.length=n by omega];exact bn.append (bn.append r1 r2) r3
theorem dx.aeY (h:dx C g st a w [])(r:kv){D8:aq AC}(eR:st.uc r=some D8)(off n:Nat)(Tp:((D8.drop off).take n).length=n): ∃us f2,bn (cy C g st w) us ((D8.drop off).take n) f2/\f2.Nodup/\(∀b∈f2,b<w.heap.size/\∀k o,¬C.A k b o)/\ ∀(w':World)(hw':Nat->Nat)(seg:aq AC)(jG:dX),jG.Nodup->(∀b∈jG,b<w'.heap.size/\(b∈f2\/w.heap.size<=b))->Fr (λb=>b∈f2) w w'-> (∀b,b<w.heap.size->b∉f2->hw' b=g.hw b)->(∀c',(cy C g st w).Le c'->c'.w=w'->c'.hw=hw'->bn c' us seg jG)-> ∃g',dx C g' {st.qd r (db D8 off seg)with ep:=st.ep+1} a w' []:=by
 have core:∀(o:je),¬cY (some o)->∀{vs:ie}{fp:dX},bn (cy C g st w) vs D8 fp->fp.Nodup->(∀b∈fp,g.dK b=some o)->
  ∃us f1 f2 f3,fp=f1++f2++f3/\bn (cy C g st w) us ((D8.drop off).take n) f2/\f2.Nodup/\(∀b∈f2,b<w.heap.size/\∀k o,¬C.A k b o)/\
   ∀(w':World)(hw':Nat->Nat)(st':AS)(seg:aq AC)(jG:dX),st'.ep=st.ep+1->st'.iss=st.iss->(∀s,gA st s->gA st' s)->jG.Nodup->(∀b∈jG,b<w'.heap.size/\(b∈f2\/w.heap.size<=b))->Fr (λb=>b∈f2) w w'->
    (∀b,b<w.heap.size->b∉f2->hw' b=g.hw b)->(∀c',(cy C g st w).Le c'->c'.w=w'->c'.hw=hw'->bn c' us seg jG)->
    bn (cy C (g.wrote o (f1++jG++f3) hw') st' w') vs (db D8 off seg) (f1++jG++f3):=by
  intro o Mz vs fp hr hn hl
  obtain⟨f1,f2,f3,rfl,r1,r2,r3⟩:=hr.mid off n
  have Cb:=hn
  rw[aN]at Cb
  have n2:=aB.1 (aB.1 Cb).2.1
  refine⟨_,f1,f2,f3,rfl,r2,n2.1,λb hb=>⟨(h.fB b o (hl b (by simp[hb]))).1,λk q=>h.LM (hl b (by simp[hb])) k q⟩,?_⟩
  intro w' hw' st' seg jG xY GH qU EM oo gP Ca Hf
  obtain⟨hle,_,_,hk,_⟩:=h.NM o Mz hn hl xY GH qU EM oo gP Ca
  exact JK rfl (by rw[r2.length];exact Tp) (r1.mono hle λb hb=>hk b (by simp[hb])) (Hf _ hle rfl rfl) (r3.mono hle λb hb=>hk b (by simp[hb]))
 cases r with
 |slot s j=>
  simp only[AS.uc]at eR;cases hg:st.get s with
  |vU ts=>rw[hg]at eR;cases eR
  |val gg cs=>
   rw[hg]at eR;cases eR;have aq6:s<st.slots.length\/¬s<st.slots.length:=bS s st.slots.length|>.imp id Nat.not_lt.2;obtain⟨fp,hr,hn,hl⟩:=h.slot s;rw[hg]at hr;obtain⟨vs,eh,hr⟩:=hr;obtain⟨us,f1,f2,f3,rfl,QJ,C2,GG,lG⟩:=core (.slot s) (by simp[fA]) hr hn hl;refine⟨us,f2,QJ,C2,GG,?_⟩;intro w' hw' seg jG EM oo gP Ca Hf;let st':AS:={st.qd (.slot s j) (db D8 off seg)with ep:=st.ep+1}
   have kh:st'={st with slots:=st.slots.set s (.val gg (db D8 off seg)),ep:=st.ep+1}:=by show({st.qd (.slot s j) (db D8 off seg)with ep:=st.ep+1}:AS)=_;simp only[AS.qd,hg,AS.put,eV]
   have Qs:∀t,gA st t->gA st' t:=λt ht=>by rw[kh];exact ht
   obtain⟨hle,Jv,hll,_,hk1,_,Jt,Hc⟩:=h.NM (.slot s) (by simp[fA]) hn hl (st':=st') rfl (by rw[kh]) Qs EM oo gP Ca;have dD:=lG w' hw' st' seg jG rfl (by rw[kh]) Qs EM oo gP Ca Hf;refine⟨_,h.step (λx=>¬cY (some x)/\x≠ .slot s) hle h.defers ?_ ?_ Jt Hc (λb x hk hx=>hk1 b x hk.1 hk.2 hx) ?_ ?_ (λk u bv hk=>by simp at hk) (.inl ⟨⟨by simp[fA],by simp⟩,by show st'.io=st.io;rw[kh]⟩)⟩;show _=st'.slots.length;rw[kh];simpa using h.size;show st'.boxes.length=st'.slots.length;rw[kh];simpa using h.bsize;intro i av hi;have rJ:(st.slots.set s (.val gg (db D8 off seg)))[i]?=some av:=by have:st'.slots[i]?=some av:=hi;rw[kh]at this;exact this
   by_cases Yu:i=s;subst Yu;rw[bl]at rJ;simp only[bL]at rJ;split at rJ;simp at rJ;subst rJ;exact .inr ⟨_,⟨vs,eh,dD⟩,Jv,hll⟩;cases rJ;rw[aO (cJ Yu)]at rJ;exact .inl ⟨⟨by simp[fA],by simpa using Yu⟩,rJ,rfl⟩;intro t nd hb;have gL:st.boxes[t]?=some (some nd):=by have:st'.boxes[t]?=some (some nd):=hb;rw[kh]at this;exact this
   exact .inl ⟨⟨by simp[fA],by simp⟩,gL,rfl⟩
 |box s j=>
  have jE:st.boxes[s]?=some (some D8):=by simp only[AS.uc,dB]at eR;cases hb:st.boxes[s]? with|none=>simp[hb]at eR|some q=>rw[hb]at eR;simp at eR;rw[eR]
  have yd:s<st.boxes.length:=(aD.1 jE).1;obtain⟨arr,T,fr,fp,jw,qV,hr,hn,ti,hl,Hb,IQ⟩:=h.boxes s D8 jE;obtain⟨us,f1,f2,f3,rfl,QJ,C2,GG,lG⟩:=core (.box s) (by simp[fA]) hr hn hl;refine⟨us,f2,QJ,C2,GG,?_⟩;intro w' hw' seg jG EM oo gP Ca Hf;let st':AS:={st.qd (.box s j) (db D8 off seg)with ep:=st.ep+1}
  have kh:st'={st with boxes:=st.boxes.set s (some (db D8 off seg)),ep:=st.ep+1}:=by show({st.qd (.box s j) (db D8 off seg)with ep:=st.ep+1}:AS)=_;simp only[AS.qd,AS.eG,eV]
  have Qs:∀t,gA st t->gA st' t:=λt ht=>by rw[kh];obtain⟨c0,Xy⟩:=ht;by_cases qW:s=t;subst qW;exact⟨db D8 off seg,by simp[yd]⟩;exact⟨c0,by rw[aO qW];exact Xy⟩
  obtain⟨hle,Jv,hll,_,hk1,hk2,Jt,Hc⟩:=h.NM (.box s) (by simp[fA]) hn hl (st':=st') rfl (by rw[kh]) Qs EM oo gP Ca;have dD:=lG w' hw' st' seg jG rfl (by rw[kh]) Qs EM oo gP Ca Hf;have Jx:=hk2 (g.β s) Hb ti;refine⟨_,h.step (λx=>¬cY (some x)/\x≠ .box s) hle h.defers ?_ ?_ Jt Hc (λb x hk hx=>hk1 b x hk.1 hk.2 hx) ?_ ?_ (λk u bv hk=>by simp at hk) (.inl ⟨⟨by simp[fA],by simp⟩,by show st'.io=st.io;rw[kh]⟩)⟩;show _=st'.slots.length;rw[kh];exact h.size;show st'.boxes.length=st'.slots.length;rw[kh];simpa using h.bsize;intro i av hi;have rJ:st.slots[i]?=some av:=by have:st'.slots[i]?=some av:=hi;rw[kh]at this;exact this
  exact .inl ⟨⟨by simp[fA],by simp⟩,rJ,rfl⟩;intro t nd hb;have gL:(st.boxes.set s (some (db D8 off seg)))[t]?=some (some nd):=by have:st'.boxes[t]?=some (some nd):=hb;rw[kh]at this;exact this
  by_cases qW:t=s;subst qW;rw[bl]at gL;simp only[bL,yd]at gL;simp at gL;subst gL;have IB:g.β t∉f1++jG++f3:=by intro hm;simp only[az]at hm;rcases hm with(hm|hm)|hm;exact ti (by simp[hm]);rcases(oo _ hm).2 with h2|h2;exact ti (by simp[h2]);have:=(h.fB _ _ Hb).1;omega;exact ti (by simp[hm])
  exact .inr ⟨arr,T,fr,_,Jx.2.1.trans jw,qV,dD,Jv,IB,hll,Jx.1,Jx.2.2.trans IQ⟩;rw[aO (cJ qW)]at gL;exact .inl ⟨⟨by simp[fA],by simpa using qW⟩,gL,rfl⟩
 |io j=>
  simp only[AS.uc,aZ]at eR;subst eR;obtain⟨fp,hr,hn,hl⟩:=h.io;obtain⟨us,f1,f2,f3,rfl,QJ,C2,GG,lG⟩:=core .io (by simp[fA]) hr hn hl;refine⟨us,f2,QJ,C2,GG,?_⟩;intro w' hw' seg jG EM oo gP Ca Hf;let st':AS:={st.qd (.io j) (db st.io off seg)with ep:=st.ep+1}
  have kh:st'={st with io:=db st.io off seg,ep:=st.ep+1}:=rfl;have Qs:∀t,gA st t->gA st' t:=λt ht=>by rw[kh];exact ht
  obtain⟨hle,Jv,hll,_,hk1,_,Jt,Hc⟩:=h.NM .io (by simp[fA]) hn hl (st':=st') rfl (by rw[kh]) Qs EM oo gP Ca;have dD:=lG w' hw' st' seg jG rfl (by rw[kh]) Qs EM oo gP Ca Hf;refine⟨_,h.step (λx=>¬cY (some x)/\x≠ .io) hle h.defers ?_ ?_ Jt Hc (λb x hk hx=>hk1 b x hk.1 hk.2 hx) ?_ ?_ (λk u bv hk=>by simp at hk) (.inr ⟨_,dD,Jv,hll⟩)⟩;exact h.size;exact h.bsize;intro i av hi;exact .inl ⟨⟨by simp[fA],by simp⟩,hi,rfl⟩;intro t nd hb;exact .inl ⟨⟨by simp[fA],by simp⟩,hb,rfl⟩
theorem I2:∀(os ss:aq AC){r:aq AC},mR os ss=some r->ss.length=os.length:=by
 intro os
 induction os with
 |nil=>intro ss r h;cases ss with
  |nil=>rfl
  |cons _ _=>simp[mR]at h
 |cons o os ih=>
  intro ss r h
  cases ss with
  |nil=>unfold mR at h;split at h<;>first|contradiction|cases h
  |cons s ss=>
   unfold mR at h
   split at h
   ·contradiction
   ·rename_i h1 h2
    injection h1 with h1 OI;subst OI
    injection h2 with h2 UI;subst UI
    rw[Bool.cond_eq_ite]at h
    split at h
    ·obtain⟨r',hr,h⟩:=aL.1 h
     simp[ih _ hr]
    ·cases h
   all_goals first
    |cases h
    |(rename_i h1 h2
      injection h1 with h1 OI;subst OI
      injection h2 with h2 UI;subst UI
      obtain⟨r',hr,h⟩:=aL.1 h
      simp[ih _ hr])
theorem Ly (h:dx C g st a w []):∀(xs:aq Operand),xs.all (λx=>(st.rd x).gv)=true->nf A w (xs.map a.eval) (xs.map st.rd)
 |[],_=>trivial
 |x::xs,hf=>by simp only[bQ,ah]at hf;exact⟨Ej (h.rd x) hf.1,Ly h xs hf.2⟩
theorem acG {w:World}{e:CT}{v:Value}{xs:aq e.D}{fp0:dX}(h:ez hw w (.sl e) [v] xs fp0){n:Nat}{x:e.D}(hx:xs[n]?=some x): ∃b o0 cap arr T fr f1 fx f3,v=.slice (some ⟨b,o0,none⟩) xs.length cap/\w.heap[b]?=some (.cells arr T fr)/\ ez hw w e ((arr.toList.drop (o0+n*e.size)).take e.size) x fx/\fp0=b::(f1++fx++f3)/\ ∀(w':World)(hw':Nat->Nat)(x':e.D)(fx':dX),(∀b'∈b::(f1++f3),w'.heap[b']?=w.heap[b']?/\hw' b'=hw b')-> ez hw' w' e ((arr.toList.drop (o0+n*e.size)).take e.size) x' fx'->ez hw' w' (.sl e) [v] (xs.set n x') (b::(f1++fx'++f3)):=by
 obtain⟨u,hu,h⟩:=h;simp at hu;subst hu;have JS:n<xs.length:=(aD.1 hx).1;rcases h with⟨⟨_,rfl⟩,rfl,rfl⟩|⟨b,o0,cap,arr,T,fr,fps,rfl,hb,qV,hs,hc,hh,rfl,hl,hr⟩;simp at hx;have NI:fps[n]?=some fps[n]:=al (by omega);have IA:=Dc NI;refine⟨b,o0,cap,arr,T,fr,(fps.take n).flatten,fps[n],(fps.drop (n+1)).flatten,rfl,hb,hr n x _ hx NI,by rw[IA.1],?_⟩;intro w' hw' x' fx' hk eR;have RE:=hk b (by simp);refine⟨_,rfl,.inr ⟨b,o0,cap,arr,T,fr,fps.set n fx',by simp,RE.1.trans hb,qV,hs,by simpa using hc,by rw[RE.2];simpa using hh,by rw[IA.2],by simp[hl],?_⟩⟩;intro i y f hy hf;by_cases uw:i=n;subst uw;rw[bl]at hy hf;simp only[bL,JS]at hy;simp only[bL]at hf;rw[zip]at hf;simp at hy hf;subst hy;subst hf;exact eR;rw[aO (cJ uw)]at hy hf;refine ez.mono (hr i y f hy hf) (λb' aeb=>hk b' (ee _ ?_));have OP:i<fps.length:=(aD.1 hf).1;have hfi:fps[i]=f:=by rw[al OP]at hf;simpa using hf
 rcases Nat.lt_or_gt_of_ne uw with gV|hgt;refine bk _ (List.mem_flatten.2 ⟨f,?_,aeb⟩);rw[List.mem_take_iff_getElem];exact⟨i,by omega,hfi⟩;refine ba _ (List.mem_flatten.2 ⟨f,?_,aeb⟩);rw[List.mem_drop_iff_getElem];exact⟨i-(n+1),by omega,by rw[<-hfi];congr 1;omega⟩
theorem bn.single {vs:ie}(h:bn c vs [x] fp):∃v,vs=[v]/\gM c v x fp:=by cases vs with|nil=>exact h.elim|cons v vs=>obtain⟨f1,f2,rfl,h1,h2⟩:=h;cases vs with|nil=>cases h2;exact⟨v,rfl,by simpa using h1⟩|cons _ _=>exact h2.elim
theorem agm {g:Bool}{v:Value}{a b:ie}(h:Cut g v a)(k:Cut g v b):b=a:=by cases g with|true=>simp only[Cut,bL]at h k;have:=h.symm.trans k;simp at this;exact this.symm|false=>simp only[Cut]at h k;simp at h k;rw[h,k]
theorem agY (Ap:∀f,kX P f (Γ f)){o':Oper}(ho:o'.op=.call {callee:=.value f,args,argTypes:=ts})(hg:dx C g st a w [])(hf:st.rd f=.val false [.fn k])(Kb:(Γ k).io=true){x0:Operand}{xs:aq Operand}(fb:args.toList=x0::xs){gg:Bool}(XD:st.rd x0=.val gg cs){K:AS->au R}(hk:Sb Γ o' k gg cs xs st K=some r)(next:Act->World->Prop)(Q:Exit->Act->World->Prop)(fO:∀st' a' w',nv C st' a' w'->K st'=some r->next a' w'):o'.wp P a w next Q:=by
 have GO:=hg.rd f;rw[hf]at GO;have GO:=(dU GO).1;unfold Sb at hk;split at hk
 ·rename_i ep rt t en i off e1 ws;split at hk
  ·rename_i D8 eR;split at hk
   ·rename_i t' e ys hO;cases hc:((ep==st.ep)&&(t'==t)&&(en.size==e.size)&&xs.all (λx=>(st.rd x).gv))with
    |false=>rw[hc]at hk;cases hk
    |true=>
     rw[hc]at hk;simp only[af]at hk;simp only[ah,bD]at hc;obtain⟨⟨⟨xY,htt⟩,tw⟩,My⟩:=hc;subst htt;cases E1:idx ys i with
     |none=>rw[E1]at hk;cases hk
     |some x=>
      rw[E1]at hk;simp only[aa]at hk;split at hk
      ·rename_i tg0 e2 zs Tp;cases ft:(Γ k).fn (.val gg [.sl (.own none) e2 zs]::xs.map st.rd)with
       |none=>rw[ft]at hk;cases hk
       |some y=>
        rw[ft]at hk;simp only at hk;split at hk
        ·rename_i tg e3 zs' aec;split at hk
         ·rename_i x' hof;cases hfl:((Γ k).av y).gv with
          |false=>rw[hfl]at hk;cases hk
          |true=>
           rw[hfl]at hk;simp only[af]at hk;obtain⟨⟨fn,c,NI,J8,we⟩,_,pZ,_⟩:=Ap k _ y ft;have pZ:=pZ Kb gg _ (xs.map st.rd) rfl;have Kd:=hg.rd x0;rw[XD]at Kd;obtain⟨vs0,eh,He⟩:=Kd;obtain⟨v,rfl,ajv⟩:=He.single;obtain⟨us,f2,QJ,C2,GG,lG⟩:=hg.aeY rt eR rt.pos 1 (by rw[hO];rfl);rw[hO]at QJ;obtain⟨u,rfl,aex⟩:=QJ.single;obtain⟨n,uw,hxn⟩:=OU E1;obtain⟨b,o0,cap,arr,T,fr,f1,fx,f3,hu,jw,IK,aif,DT⟩:=acG aex.1 hxn;obtain⟨_,n2,b2,o2,aq9,U6,aij,Ka,_,_,AQ⟩:=ajv.2.2.2 xY;have hun:=(aex.2 t' rfl).2;rw[Ka,hu]at hun;simp only[Value.slice.injEq,aZ,Addr.mk.injEq]at hun;obtain⟨⟨rfl,rfl,_⟩,_,_⟩:=hun;have Jv:n2=n:=by omega
           subst Jv;rw[tw]at AQ;have aib:arr[o0+n2*e.size+off]?=some v:=by rw[<-mZ jw];exact AQ
           have aey:=sE (c:=cy C g st w) IK;obtain⟨k1,k2,k3,hkx,r1,r2,r3⟩:=aey.mid off 1;rw[Tp]at r2;obtain⟨v',Tx,aiy⟩:=r2.single;have hvv:v'=v:=by
            have h0:(((arr.toList.drop (o0+n2*e.size)).take e.size).drop off).take 1=[v']:=Tx;have h1:((((arr.toList.drop (o0+n2*e.size)).take e.size).drop off).take 1)[0]?=some v':=by rw[h0];rfl
            rw[cW]at h1;simp only[Nat.zero_lt_one,bL]at h1;rw[bJ,cW]at h1;split at h1;rw[bJ,cg,dM,aib]at h1;simpa using h1.symm;cases h1
           subst hvv;have agC:=C2;rw[aif,hkx]at agC;have ti:=cQ.1 agC;have m0:=ti.2;rw[aN]at m0;have m1:=aB.1 m0;have m2:=aB.1 m1.2.1;have m2a:=m2.1;rw[aN]at m2a;have m3:=aB.1 m2a;have m4:=aB.1 m3.2.1;have aaq:∀q∈k2,q∈f2:=λq hq=>by rw[aif,hkx];simp[hq]
           have Dg:=pZ (λ_ _ _=>False) w (a.eval x0) (xs.map a.eval) g.hw k2 (λ_ _ _ hf=>hf.elim) ⟨[v'],eh,k2,[],by simp,⟨aiy.1,by simp⟩,rfl⟩ m4.1 (λq hq=>(GG q (aaq q hq)).1) (Ly hg xs My);have OJ:(a.eval x0::xs.map a.eval).toArray=args.map a.eval:=by apply ei;simp[fb]
           rw[OJ]at Dg;have dJ:(execOp a.eval o').run P w=.ok (.enter k (args.map a.eval)) w:=by simp[execOp,ho,resolve,GO,Deferred.ofValue,invoke,callFunc,NI,J8];simpa using we
           unfold Oper.wp;rw[dJ,Oper.upon_enter];refine Dg.mono ?_;rintro e' w' ⟨vr,hw',frr,iw,rfl,dD,⟨vs1,J9,hbk⟩,E3,C1,gP⟩;show next (a.put o'.dst vr) w'
           have hvs:=agm eh J9;subst hvs;rw[aec]at hbk;obtain⟨v2,MB,aqk⟩:=hbk.single;simp only[List.cons.injEq,ij]at MB;subst MB;have Az:∀q,q∈f2->q∉k2->q∉iw:=λq hq Yy hm=>by rcases(C1 q hm).2 with h2|h2;exact Yy h2;have:=(GG q hq).1;omega
           have jx:∀q,(q=b\/q∈f1\/q∈k1\/q∈k3\/q∈f3)->q∈f2/\q∉k2:=by intro q hq;constructor;rw[aif,hkx];rcases hq with hq|hq|hq|hq|hq<;>simp[hq];intro h2;rcases hq with hq|hq|hq|hq|hq;subst hq;exact ti.1 (by simp[h2]);exact m1.2.2 q hq q (by simp[h2]) rfl;exact m3.2.2 q hq q (by simp[h2]) rfl;exact m4.2.2 q h2 q hq rfl;exact m2.2.2 q (by simp[h2]) q hq rfl
           have aqz:(b::(f1++(k1++iw++k3)++f3)).Nodup:=by refine cQ.2 ⟨λhm=>?_,?_⟩;simp only[az]at hm;rcases hm with(hm|((hm|hm)|hm))|hm;exact ti.1 (by simp[hm]);exact ti.1 (by simp[hm]);exact Az b (jx b (.inl rfl)).1 (jx b (.inl rfl)).2 hm;exact ti.1 (by simp[hm]);exact ti.1 (by simp[hm]);have Yp:∀q,(q∈f1\/q∈k1\/q∈k3\/q∈f3)->q∉iw:=λq hq=>Az q (jx q (.inr hq)).1 (jx q (.inr hq)).2;rw[aN];refine aB.2 ⟨m1.1,aB.2 ⟨?_,m2.2.1,?_⟩,?_⟩;rw[aN];refine aB.2 ⟨m3.1,aB.2 ⟨E3,m4.2.1,?_⟩,?_⟩;rintro c hc d hd rfl;exact Yp c (by simp[hd]) hc;rintro c hc d hd rfl;rcases az.1 hd with hd|hd;exact Yp c (by simp[hc]) hd;exact m3.2.2 c hc c (ba _ hd) rfl;rintro c hc d hd rfl;simp only[az]at hc;rcases hc with(hc|hc)|hc;exact m2.2.2 c (by simp[hc]) c hd rfl;exact Yp c (by simp[hd]) hc;exact m2.2.2 c (by simp[hc]) c hd rfl;rintro c hc d hd rfl;simp only[az]at hd;rcases hd with((hd|hd)|hd)|hd;exact m1.2.2 c hc c (by simp[hd]) rfl;exact Yp c (by simp[hc]) hd;exact m1.2.2 c hc c (by simp[hd]) rfl;exact m1.2.2 c hc c (by simp[hd]) rfl
           have aep:i.toNat=n2:=by omega
           obtain⟨g',na⟩:=lG w' (λq=>if q∈iw then hw' q else g.hw q) [.sl (.own (some t')) e (ys.set n2 x')] (b::(f1++(k1++iw++k3)++f3)) aqz
            (λq hq=>by
             have hz:=gP.size;by_cases hm:q∈iw;refine⟨(C1 q hm).1,?_⟩;rcases(C1 q hm).2 with h2|h2;exact .inl (aaq q h2);exact .inr h2;have h2:q∈f2:=by refine(jx q ?_).1;simp only[cv,az]at hq;rcases hq with hq|(hq|((hq|hq)|hq))|hq;exact .inl hq;simp[hq];simp[hq];exact absurd hq hm;simp[hq];simp[hq]
             exact⟨by have:=(GG q h2).1;omega,.inl h2⟩)
            ⟨gP.os,gP.tape,gP.output,gP.size,λq hq hm=>gP.block q hq (λh2=>hm (aaq q h2))⟩
            (λq hq hm=>by
             have:q∉iw:=λh2=>by rcases(C1 q h2).2 with h3|h3;exact hm (aaq q h3);omega
             simp[this])
            (λc' hle Nh B7=>by
             have me:∀q,(q=b\/q∈f1\/q∈k1\/q∈k3\/q∈f3)->c'.w.heap[q]?=w.heap[q]?/\c'.hw q=g.hw q:=by intro q hq;have h2:=jx q hq;rw[Nh,B7];exact⟨gP.block q (GG q h2.1).1 h2.2,by simp[Az q h2.1 h2.2]⟩
             have VF:bn c' [v'] [.sl (.own none) e3 zs'] iw:=by refine⟨iw,[],by simp,⟨?_,by simp⟩,rfl⟩;have h0:ez hw' w' (.sl e3) [v'] zs' iw:=aqk.1;refine ez.mono h0 (λq hq=>?_);rw[Nh,B7];exact⟨rfl,by simp[hq]⟩
             have Kf:=JK (c':=c') (vs:=(arr.toList.drop (o0+n2*e.size)).take e.size) (us:=[v']) (cs:=cellsOf e (.own none) x) (off:=off) (n:=1) Tx.symm rfl (r1.mono hle (λq hq=>me q (by simp[hq]))) VF (r3.mono hle (λq hq=>me q (by simp[hq])));obtain⟨q1,q2,hq,Yx,Yy⟩:=oz Kf hof;have hln:((arr.toList.drop (o0+n2*e.size)).take e.size).length=e.size:=ez.length IK;rw[cS (by omega)]at Yy;have aev:q2=[]:=Yy;subst aev;rw[bB (by omega)]at Yx;rw[bp]at hq;subst hq;have hO':=DT c'.w c'.hw x' _ (λq hq=>me q (by simp only[cv,az]at hq;rcases hq with hq|hq|hq<;>simp[hq])) Yx;refine⟨_,[],by simp,⟨hO',λq hq=>?_⟩,rfl⟩;cases hq;have h1:=aex.2 t' rfl;exact⟨(hle.hdr t' h1.1).1,by rw[(hle.hdr t' h1.1).2];exact h1.2⟩)
           rw[aep]at hk;exact fO _ _ _ ⟨g',na.quiet o'.dst (Ej dD hfl)⟩ hk
         cases hk
        cases hk
      cases hk
   cases hk
  cases hk
 cases hk
theorem ajE (Ap:∀f,kX P f (Γ f)){o':Oper}(ho:o'.op=.call {callee:=.value f,args,argTypes:=ts})(hg:dx C g st a w [])(hf:st.rd f=.val false [.fn k])(Kb:(Γ k).io=true){K:AS->au R}(hk:ioC Γ o' k args.toList st K=some r)(next:Act->World->Prop)(Q:Exit->Act->World->Prop)(fO:∀st' a' w',nv C st' a' w'->K st'=some r->next a' w'):o'.wp P a w next Q:=by
 have GO:=hg.rd f;rw[hf]at GO;have GO:=(dU GO).1;unfold ioC at hk;split at hk
 ·rename_i x0 xs fb;split at hk
  ·rename_i gg cs XD;split at hk
   ·rename_i rt j OO;split at hk
    ·rename_i D8 eR;split at hk
     ·rename_i nd Hf;cases My:(xs.all λx=>(st.rd x).gv)with
      |false=>rw[My]at hk;cases hk
      |true=>
       rw[My]at hk;simp only[af]at hk;cases ft:(Γ k).fn (.val gg nd::xs.map st.rd)with
       |none=>rw[ft]at hk;cases hk
       |some y=>
        rw[ft]at hk;simp only[aa]at hk;split at hk
        ·rename_i seg aec;cases hfl:((Γ k).av y).gv with
         |false=>rw[hfl]at hk;cases hk
         |true=>
          rw[hfl]at hk;simp only[af]at hk;obtain⟨⟨fn,c,NI,J8,we⟩,_,pZ,_⟩:=Ap k _ y ft;have pZ:=pZ Kb gg nd (xs.map st.rd) rfl;have Kd:=hg.rd x0;rw[XD]at Kd;obtain⟨vs0,eh,He⟩:=Kd;have Tp:=I2 _ _ Hf;obtain⟨us,f2,QJ,C2,GG,lG⟩:=hg.aeY rt eR (rt.pos-j) cs.length Tp;have ah9:=PH (A:=λ_ _ _=>False) _ _ Hf He QJ;have Dg:=pZ (λ_ _ _=>False) w (a.eval x0) (xs.map a.eval) g.hw f2 (λ_ _ _ hf=>hf.elim) ⟨vs0,eh,ah9⟩ C2 (λb hb=>(GG b hb).1) (Ly hg xs My);have OJ:(a.eval x0::xs.map a.eval).toArray=args.map a.eval:=by apply ei;simp[fb]
          rw[OJ]at Dg;have dJ:(execOp a.eval o').run P w=.ok (.enter k (args.map a.eval)) w:=by simp[execOp,ho,resolve,GO,Deferred.ofValue,invoke,callFunc,NI,J8];simpa using we
          unfold Oper.wp;rw[dJ,Oper.upon_enter];refine Dg.mono ?_;rintro e w' ⟨v,hw',fr,iw,rfl,dD,⟨vs1,J9,hbk⟩,E3,C1,gP⟩;show next (a.put o'.dst v) w'
          have hvs:vs1=vs0:=by cases gg with|true=>simp only[Cut,bL]at eh J9;have:=eh.symm.trans J9;simp at this;exact this.symm|false=>simp only[Cut]at eh J9;simp at eh J9;rw[eh,J9]
          subst hvs;let hwn:Nat->Nat:=λb=>if b∈iw then hw' b else g.hw b
          obtain⟨g',na⟩:=lG w' (λb=>if b∈iw then hw' b else g.hw b) seg iw E3 C1 gP (λb hb hm=>by
           have:b∉iw:=λhm'=>by rcases(C1 b hm').2 with h2|h2;exact hm h2;omega
           simp[this]) (λc' hle Nh B7=>by
           refine WJ (A:=λ_ _ _=>False) (hw':=hw') hle _ _ _ aec He QJ (by rw[Nh];exact hbk) (λb hb=>by rw[B7];simp[hb]))
          refine fO _ _ _ ⟨g',na.quiet o'.dst (Ej dD hfl)⟩ hk
        cases hk
     cases hk
    cases hk
   ·exact agY Ap ho hg hf Kb fb XD hk next Q fO
  cases hk
 cases hk
theorem Jh {A':Rg}{mk:Nat->au Nat}{k:Bool}(hA:A' true=c.A k):∀{vs:ie}{xs:aq AC}{fp:dX}(j:Nat),bn (eQ A' hw c.w) vs xs fp->xs.all (AC.AO true)=true->
 (∀b∈fp,c.hw b=hw b)->(∀i v,vs[i]?=some v->∀t,mk (j+i)=some t->c.iss t/\v=c.hdr t)->bn c vs (pM k mk j xs) fp
 |[],[],_,_,h,_,_,_=>h
 |v::_,x::_,_,j,h,ku,hh,hm=>by
  obtain⟨f1,f2,rfl,h1,h2⟩:=h;simp only[bQ,ah]at ku;refine⟨f1,f2,rfl,?_,Jh hA (j+1) h2 ku.2 (λb hb=>hh b (ba _ hb)) (λi u hu t ht=>hm (i+1) u (by simpa using hu) t (by rwa[show j+(i+1)=j+1+i by omega]))⟩;have Ca:∀b∈f1,c.hw b=hw b:=λb hb=>hh b (bk _ hb);have ht:∀t,mk j=some t->c.iss t/\v=c.hdr t:=λt ht=>hm 0 v rfl t ht;have ku:=ku.1;cases x with
  |sl fl e xs=>
   cases fl with
   |own t=>exact⟨ez.mono h1.1 (λb hb=>⟨rfl,Ca b hb⟩),ht⟩
   |arg k'=>
    have hk:k'=true:=by simpa[AC.AO]using ku
    subst hk;exact⟨h1.1,by rw[<-hA];exact h1.2⟩
   |loc _ _=>cases ku
   |nest _ _ _ _ _ _=>cases ku
   |part _ _ _ _=>cases ku
   |fe _ _ _=>cases ku
  |int _ _=>exact h1
  |bool _=>exact h1
  |str _=>exact h1
  |fn _=>exact h1
  |jB=>cases ku
  |ptr _ _=>cases ku
  |Da _ _ _ _ _=>cases ku
  |un=>cases ku
  |bot=>cases ku
 |[],_::_,_,_,h,_,_,_=>h.elim
 |_::_,[],_,_,h,_,_,_=>h.elim
theorem K7 {A':Rg}{w:World}{k:Bool}:∀{cs:aq AC},cs.all (AC.AO k)=true->∀{c:RC}{vs:ie}{fp:dX},bn c vs cs fp->c.w=w->c.hw=hw->A' true=c.A k->bn (eQ A' hw w) vs (cs.map AC.Uw) fp
 |[],_,c,vs,fp,h,_,_,_=>by cases vs with|nil=>exact h|cons _ _=>exact h.elim
 |x::cs,ku,c,vs,fp,h,Nh,B7,hA=>by
  cases vs with
  |nil=>exact h.elim
  |cons v vs=>
   obtain⟨f1,f2,rfl,h1,h2⟩:=h;simp only[bQ,ah]at ku;refine⟨f1,f2,rfl,?_,K7 ku.2 h2 Nh B7 hA⟩;have ku:=ku.1;cases x with
   |sl fl e xs=>
    cases fl with
    |own t=>exact⟨by have:=h1.1;rw[Nh,B7]at this;exact this,by simp⟩
    |arg k'=>
     have hk:k'=k:=by simpa[AC.AO]using ku
     subst hk;exact⟨h1.1,by have:=h1.2;rw[Nh,<-hA]at this;exact this⟩
    |loc _ _=>cases ku
    |nest _ _ _ _ _ _=>cases ku
    |part _ _ _ _=>cases ku
    |fe _ _ _=>cases ku
   |int _ _=>exact h1
   |bool _=>exact h1
   |str _=>exact h1
   |fn _=>exact h1
   |jB=>cases ku
   |ptr _ _=>cases ku
   |Da _ _ _ _ _=>cases ku
   |un=>cases ku
   |bot=>cases ku
theorem R1 (h:dx C g st a w [])(s:Nat){A':Rg}(hA:∀b o,(cy C g st w).S b o/\b<w.heap.size/\g.dK b≠some (.box s)->A' false b o):∀(xs:aq Operand),xs.all (Et st)=true->
 nf A' w (xs.map a.eval) (xs.map (DA st))
 |[],_=>trivial
 |x::xs,hx=>by
  simp only[bQ,ah]at hx;refine⟨?_,R1 h s hA xs hx.2⟩;have hx:=hx.1;cases x with
  |const _=>exact Ej (h.rd _) hx
  |func _=>exact Ej (h.rd _) hx
  |global _=>exact Ej (h.rd _) hx
  |tmp t=>
   have eR:∀(t0:Nat){e:CT}{v:Value}{xs:aq e.D}{fp:dX},ez g.hw w (.sl e) [v] xs fp->(∀b∈fp,g.dK b=some (.slot t0))->jf w (A' false) (.sl e) [v] xs:=by
    intro t0 e v xs fp h1 hl;have h3:ez (λb=>if b∈fp then g.hw b else 0) w (.sl e) [v] xs fp:=ez.mono h1 (λb hb=>⟨rfl,by simp[hb]⟩)
    exact ez.rep (λb o ho=>by
     by_cases hb:b∈fp;have ho:o<g.hw b:=by simpa[hb]using ho
     have RF:=hl b hb;exact hA b o ⟨.inr ho,(h.fB b _ RF).1,by rw[RF];simp⟩;simp[hb]at ho) h3
   obtain⟨fp,hr,hn,hl⟩:=h.slot t;simp only[Et]at hx;show fL _ (a.tmps.getD t undef) (DA st (.tmp t)) _;simp only[DA];cases hv:st.get t with
   |vU _=>rw[hv]at hx;cases hx
   |val gg cs=>
    rw[hv]at hx hr;simp only at hx;obtain⟨vs,eh,hr⟩:=hr
    have key:∀(cs:aq AC)(vs:ie)(fp:dX),(cs.map st.QP).all AC.Lq=true->(∀b∈fp,g.dK b=some (.slot t))->bn (cy C g st w) vs cs fp->
     bn (eQ A' (λ_=>0) w) vs (cs.map st.QP) []:=by
     intro cs
     induction cs with
     |nil=>intro vs fp _ _ h;cases vs with
      |nil=>rfl
      |cons _ _=>exact h.elim
     |cons c cs ih=>
      intro vs fp hc hl hr
      cases vs with
      |nil=>exact hr.elim
      |cons v vs=>
       obtain⟨f1,f2,rfl,h1,h2⟩:=hr
       simp only[ed,bQ,ah]at hc
       refine⟨[],[],rfl,?_,ih vs f2 hc.2 (λb hb=>hl b (ba _ hb)) h2⟩
       have hc:=hc.1
       cases c with
       |sl fl e xs=>
        cases fl with
        |own tag=>exact⟨rfl,eR t h1.1 (λb hb=>hl b (bk _ hb))⟩
        |arg k=>exact⟨rfl,jf.mono (λb o u hs hu=>⟨hA b o ⟨.inl ⟨k,hs⟩,World.block_lt_of_cell? w _ hu,λhb=>h.LM hb k o hs⟩,hu⟩) h1.2⟩
        |loc ep pv=>
         cases pv with
         |none=>cases hc
         |some q=>
          obtain⟨r,tg⟩:=q
          cases r with
          |box _ _=>cases hc
          |io _=>cases hc
          |slot b j=>
           have MB:=(h1.2.2.2.2 (.slot b j) tg rfl).2
           simp only[AS.QP]at hc⊢
           cases VI:st.eM (.slot b j)with
           |none=>rw[VI]at hc;cases hc
           |some c0=>
            rw[VI]at hc
            split at hc
            ·rename_i t' e' ys Xy
             split at hc
             ·rename_i ht
              subst ht
              cases Xy
              rw[aG rfl]
              obtain⟨fp2,QH,_,AA⟩:=h.slot b
              simp only[AS.eM]at VI
              cases hgb:st.get b with
              |vU _=>rw[hgb]at VI;cases VI
              |val g2 GN=>
               rw[hgb]at VI QH
               simp only at VI
               obtain⟨vs2,_,QH⟩:=QH
               rw[dB]at VI
               obtain⟨v2,f3,_,OR,qa⟩:=QH.get j _ VI
               have aqM:v=v2:=by have:=(OR.2 t' rfl).2;rw[MB,this]
               rw[aqM]
               exact⟨rfl,eR b OR.1 (λb' gL=>AA b' (qa b' gL))⟩
             ·cases hc
            ·cases hc
        |nest _ _ _ _ _ _=>cases hc
        |part _ _ _ _=>cases hc
        |fe _ _ _=>cases hc
       |int _ _=>exact⟨h1.1,rfl⟩
       |bool _=>exact⟨h1.1,rfl⟩
       |str _=>exact⟨h1.1,rfl⟩
       |fn _=>exact⟨h1.1,rfl⟩
       |jB=>cases hc
       |ptr _ _=>cases hc
       |Da _ _ _ _ _=>cases hc
       |un=>cases hc
       |bot=>cases hc
    exact⟨vs,eh,key cs vs fp hx hl hr⟩
theorem dx.agh (h:dx C g st a w [])(s:Nat)(jE:st.boxes[s]?=some (some cs)): ∃arr T fr fp,w.heap[g.β s]?=some (.cells arr T fr)/\qe arr fr/\bn (cy C g st w) arr.toList cs fp/\fp.Nodup/\g.β s∉fp/\(∀b∈fp,b<w.heap.size)/\g.hw (g.β s)=0/\(∀b,b=g.β s\/b∈fp->g.dK b=some (.box s))/\ ∀(w':World)(hw':Nat->Nat)(iX:Array Value)(T':TypeId)(RA:Nat×Nat)(nd:aq AC)(iw fv:dX)(A':Rg)(k:Bool),Fr (λb=>b=g.β s\/b∈fp) w w'->w'.heap[g.β s]?=some (.cells iX T' RA)->qe iX RA-> A' true=C.A k->bn (eQ A' hw' w') iX.toList nd iw->nd.all (AC.AO true)=true->iw.Nodup->g.β s∉iw->(∀b∈iw,b<w'.heap.size/\(b∈fp\/w.heap.size<=b))-> (∀b∈fv,b<w'.heap.size/\(b∈fp\/w.heap.size<=b)/\b∉iw/\b≠g.β s)-> ∃g',dx C g' (aab st s (pM k (st.il (some s)) 0 nd)) a w' []/\(∀b∈fv,g'.dK b=some (.hand 0)/\g'.hw b=hw' b)/\∀b,b<w.heap.size->g.dK b≠some (.box s)->g'.hw b=g.hw b:=by
 obtain⟨arr,T,fr,fp,jw,qV,hr,hn,ti,hl,Hb,IQ⟩:=h.boxes s cs jE;have yd:s<st.boxes.length:=(aD.1 jE).1;have OQ:∀b,b=g.β s\/b∈fp->g.dK b=some (.box s):=by rintro b (rfl|hb);exact Hb;exact hl b hb
 refine⟨arr,T,fr,fp,jw,qV,hr,hn,ti,λb hb=>(h.fB b _ (hl b hb)).1,IQ,OQ,?_⟩;intro w' hw' iX T' RA nd iw fv A' k gP J7 VM hA' vy ait Cb IB LB GO;let bx':aq AC:=pM k (st.il (some s)) 0 nd;let st':AS:=aab st s bx';let hw2:Nat->Nat:=λb=>if b∈iw\/b∈fv then hw' b else if b=g.β s then 0 else g.hw b
 let ae0:Nat->au je:=λb=>if b=g.β s\/b∈iw then some (.box s) else if b∈fv then some (.hand 0) else g.dK b
 let g':Gh:=⟨hw2,g.β,ae0,qT g.hdr (st.il (some s)) iX.toList⟩
 have vo:st'.boxes=st.boxes.set s (some bx'):=by show((st.eG s (some bx')).fw (some s)).boxes=_;rw[C6,kx]
 have OT:st'.slots=st.slots:=by show((st.eG s (some bx')).fw (some s)).slots=_;rw[vN];rfl
 have Kb:st'.io=st.io:=by show((st.eG s (some bx')).fw (some s)).io=_;rw[Kz];rfl
 have GH:∀t,lL st t->lL st' t:=λt ht=>by have h1:lL (st.eG s (some bx')) t:=ht;exact Fg (d:=some s) h1
 have Qs:∀t,gA st t->gA st' t:=by rintro t ⟨c0,Xy⟩;by_cases qW:s=t;subst qW;exact⟨bx',by rw[vo];simp[yd]⟩;exact⟨c0,by rw[vo,aO qW];exact Xy⟩
 have VF:∀b,b<w.heap.size->g.dK b≠some (.box s)->b∉iw/\b∉fv/\b≠g.β s:=by intro b hb RF;refine⟨λhm=>?_,λhm=>?_,λhm=>RF (OQ b (.inl hm))⟩;rcases(LB b hm).2 with h2|h2;exact RF (OQ b (.inr h2));omega;rcases(GO b hm).2.1 with h2|h2;exact RF (OQ b (.inr h2));omega
 have me:∀b x,x≠ .box s->g.dK b=some x->ae0 b=some x/\w'.heap[b]?=w.heap[b]?/\hw2 b=g.hw b:=by intro b x hx hb;have II:=(h.fB b x hb).1;have hnm:¬(b=g.β s\/b∈fp):=λhm=>hx (by have:=OQ b hm;rw[hb]at this;simpa using this);obtain⟨n1,n2,n3⟩:=VF b II (by rw[hb];simpa using hx);refine⟨?_,gP.block b II hnm,?_⟩;show(if b=g.β s\/b∈iw then _ else if b∈fv then _ else _)=_;rw[aF (by rintro(h1|h1);exact n3 h1;exact n1 h1),aF n2];exact hb;show(if b∈iw\/b∈fv then _ else if b=g.β s then _ else _)=_;rw[aF (by rintro(h1|h1);exact n1 h1;exact n2 h1),aF n3]
 have Yo:∀k b o u,C.A k b o->w.cell? ⟨b,o,none⟩=some u->w'.cell? ⟨b,o,none⟩=some u:=by intro k b o u hA hu;have hb:b<w.heap.size:=World.block_lt_of_cell? w _ hu;rw[World.cell?_of_block (a:=⟨b,o,none⟩) (gP.block b hb (λhm=>h.LM (OQ b hm) k o hA))];exact hu
 have hle:(cy C g st w).Le (cy C g' st' w'):=⟨rfl,λt ht=>⟨GH t ht,B9 ht⟩,Yo,Nat.le_succ _,λt ht=>⟨Qs t ht,rfl⟩,λhe=>absurd he (Nat.succ_ne_self _)⟩
 refine⟨g',h.step (λx=>x≠ .box s) hle h.defers ?_ ?_ ?_ ?_ (λb x hk hb=>me b x hk hb) ?_ ?_ (λk u bv hk=>by simp at hk) (.inl ⟨by simp,Kb⟩),λb hb=>?_,λb hb RF=>?_⟩;rw[OT];exact h.size;rw[OT,vo,aH];exact h.bsize;refine h.frame.trans gP (λb hb hm=>?_);rcases(h.fB b _ (OQ b hm)).2 with h2|h2;omega;exact h2;intro b x hx;have AR:(if b=g.β s\/b∈iw then some (je.box s) else if b∈fv then some (.hand 0) else g.dK b)=some x:=hx;have hz:=gP.size;have hold:b∈fp\/w.heap.size<=b->C.w0.heap.size<=b\/C.M b:=by rintro(h2|h2);exact(h.fB b _ (hl b h2)).2;exact .inl (aE h.frame.size h2)
 split at AR;rename_i hm;rcases hm with rfl|hm;have:=h.fB _ _ Hb;exact⟨by omega,this.2⟩;exact⟨(LB b hm).1,hold (LB b hm).2⟩;split at AR;rename_i hm;exact⟨(GO b hm).1,hold (GO b hm).2.1⟩;have:=h.fB b x AR;exact⟨by omega,this.2⟩;intro i av hi;rw[OT]at hi;exact .inl ⟨by simp,hi,rfl⟩;intro t GN hb;rw[vo]at hb;by_cases qW:t=s;subst qW;rw[bl]at hb;simp only[bL,yd]at hb;simp at hb;subst hb;refine .inr ⟨iX,T',RA,iw,J7,VM,?_,Cb,IB,λb hb=>?_,?_,?_⟩
 have:=Jh (c:=cy C g' st' w') (A':=A') (hw:=hw') (mk:=st.il (some t)) (k:=k) hA' 0 (vs:=iX.toList) (xs:=nd) (fp:=iw) vy ait
  (λb hb=>by show(if b∈iw\/b∈fv then _ else _)=_;rw[aG (.inl hb)])
  (λi u hu q hq=>by
   rw[cm]at hq;have hm:=pU hq;have hm2:lL st' q:=by have h1:st.il (some t) i=some q:=hq;have h2:(st.eG t (some bx')).il (some t) i=some q:=h1;exact(pU h2).2.1
   exact⟨hm2,B8 hu hq⟩)
 exact this;show(if b=g.β t\/b∈iw then _ else _)=_;rw[aG (.inr hb)];show(if g.β t=g.β t\/g.β t∈iw then _ else _)=_;rw[aG (.inl rfl)];show(if g.β t∈iw\/g.β t∈fv then _ else if g.β t=g.β t then _ else _)=_;rw[aF (by rintro(h1|h1);exact IB h1;exact(GO _ h1).2.2.2 rfl),aG rfl];rw[aO (cJ qW)]at hb;exact .inl ⟨by simpa using qW,hb,rfl⟩;obtain⟨_,_,h3,h4⟩:=GO b hb;refine⟨?_,?_⟩;show(if b=g.β s\/b∈iw then _ else if b∈fv then _ else _)=_;rw[aF (by rintro(h1|h1);exact h4 h1;exact h3 h1),aG hb];show(if b∈iw\/b∈fv then _ else _)=_;rw[aG (.inr hb)];obtain⟨n1,n2,n3⟩:=VF b hb RF;show(if b∈iw\/b∈fv then _ else if b=g.β s then _ else _)=_;rw[aF (by rintro(h1|h1);exact n1 h1;exact n2 h1),aF n3]
theorem SV:∀{vs:ie}{cs:aq AC}{fp:dX},bn c vs cs fp->cs.all AC.JU=true->fp=[]
 |[],[],_,h,_=>h
 |[],_::_,_,h,_=>h.elim
 |_::_,[],_,h,_=>h.elim
 |v::vs,x::cs,fp,h,hx=>by
  obtain⟨f1,f2,rfl,h1,h2⟩:=h;simp only[bQ,ah]at hx;rw[SV h2 hx.2,bp];have hx:=hx.1;cases x with
  |sl fl e xs=>cases fl<;>first|exact h1.1|cases hx
  |int k n=>exact h1.2
  |bool b=>exact h1.2
  |str s=>exact h1.2
  |fn f=>exact h1.2
  |jB=>cases hx
  |ptr _ _=>cases hx
  |Da _ _ _ _ _=>cases hx
  |un=>cases hx
  |bot=>cases hx
theorem dx.adF (h:dx C g st a w [])(s:Nat)(jE:st.boxes[s]?=some (some cs))(LA:cs.all AC.JU=true): ∀(w':World)(hw':Nat->Nat)(iX:Array Value)(T':TypeId)(RA:Nat×Nat)(nd:aq AC)(iw fv:dX)(A':Rg)(k:Bool),Fr (λb=>b=g.β s) w w'->w'.heap[g.β s]?=some (.cells iX T' RA)->qe iX RA-> A' true=C.A k->bn (eQ A' hw' w') iX.toList nd iw->nd.all (AC.AO true)=true->iw.Nodup->g.β s∉iw->(∀b∈iw,b<w'.heap.size/\w.heap.size<=b)-> (∀b∈fv,b<w'.heap.size/\w.heap.size<=b/\b∉iw/\b≠g.β s)-> ∃g',dx C g' (st.eG s (some (pM k (λ_=>none) 0 nd))) a w' []/\(∀b∈fv,g'.dK b=some (.hand 0)/\g'.hw b=hw' b)/\∀b,b<w.heap.size->g.dK b≠some (.box s)->g'.hw b=g.hw b:=by
 obtain⟨arr,T,fr,fp,jw,qV,hr,hn,ti,hl,Hb,IQ⟩:=h.boxes s cs jE;have aie:fp=[]:=SV hr LA;subst aie;have yd:s<st.boxes.length:=(aD.1 jE).1;intro w' hw' iX T' RA nd iw fv A' k gP J7 VM hA' vy ait Cb IB LB GO;let bx':aq AC:=pM k (λ_=>none) 0 nd;let st':AS:=st.eG s (some bx');let hw2:Nat->Nat:=λb=>if b∈iw\/b∈fv then hw' b else if b=g.β s then 0 else g.hw b
 let ae0:Nat->au je:=λb=>if b=g.β s\/b∈iw then some (.box s) else if b∈fv then some (.hand 0) else g.dK b
 let g':Gh:=⟨hw2,g.β,ae0,g.hdr⟩
 have vo:st'.boxes=st.boxes.set s (some bx'):=by show(st.eG s (some bx')).boxes=_;rw[kx]
 have Qs:∀t,gA st t->gA st' t:=by rintro t ⟨c0,Xy⟩;by_cases qW:s=t;subst qW;exact⟨bx',by rw[vo];simp[yd]⟩;exact⟨c0,by rw[vo,aO qW];exact Xy⟩
 have hold:∀b,b<w.heap.size->b∉iw/\b∉fv:=by intro b hb;refine⟨λhm=>?_,λhm=>?_⟩;have:=(LB b hm).2;omega;have:=(GO b hm).2.1;omega
 have Ca:∀b,b<w.heap.size->b≠g.β s->hw2 b=g.hw b:=by intro b hb E4;show(if b∈iw\/b∈fv then _ else if b=g.β s then _ else _)=_;rw[aF (by rintro(h1|h1);exact(hold b hb).1 h1;exact(hold b hb).2 h1),aF E4]
 have me:∀b x,x≠ .box s->g.dK b=some x->ae0 b=some x/\w'.heap[b]?=w.heap[b]?/\hw2 b=g.hw b:=by intro b x hx hb;have II:=(h.fB b x hb).1;have E4:b≠g.β s:=λhm=>hx (by rw[hm,Hb]at hb;simpa using hb.symm);refine⟨?_,gP.block b II E4,Ca b II E4⟩;show(if b=g.β s\/b∈iw then _ else if b∈fv then _ else _)=_;rw[aF (by rintro(h1|h1);exact E4 h1;exact(hold b II).1 h1),aF (hold b II).2];exact hb
 have Yo:∀k b o u,C.A k b o->w.cell? ⟨b,o,none⟩=some u->w'.cell? ⟨b,o,none⟩=some u:=by intro k b o u hA hu;have hb:b<w.heap.size:=World.block_lt_of_cell? w _ hu;rw[World.cell?_of_block (a:=⟨b,o,none⟩) (gP.block b hb (λhm=>h.LM (by rw[hm];exact Hb) k o hA))];exact hu
 have hle:(cy C g st w).Le (cy C g' st' w'):=by
  refine⟨rfl,λt ht=>⟨ht,rfl⟩,Yo,aR _,λt ht=>⟨Qs t ht,rfl⟩,λ_ b o u ho hu=>?_⟩;have hb:b<w.heap.size:=World.block_lt_of_cell? w _ hu;have Nj:o<g.hw b:=ho;have E4:b≠g.β s:=λe=>by rw[e,IQ]at Nj;omega
  refine⟨by show o<hw2 b;rw[Ca b hb E4];exact Nj,?_⟩;show w'.cell? ⟨b,o,none⟩=some u;rw[World.cell?_of_block (a:=⟨b,o,none⟩) (gP.block b hb E4)];exact hu
 refine⟨g',h.step (λx=>x≠ .box s) hle h.defers h.size ?_ ?_ ?_ (λb x hk hb=>me b x hk hb) ?_ ?_ (λk u bv hk=>by simp at hk) (.inl ⟨by simp,rfl⟩),λb hb=>?_,λb hb RF=>?_⟩;rw[vo,aH];exact h.bsize;refine h.frame.trans gP (λb hb hm=>?_);have hm:b=g.β s:=hm;subst hm;rcases(h.fB _ _ Hb).2 with h2|h2;omega;exact h2;intro b x hx;have AR:(if b=g.β s\/b∈iw then some (je.box s) else if b∈fv then some (.hand 0) else g.dK b)=some x:=hx;have hz:=gP.size;split at AR;rename_i hm;rcases hm with rfl|hm;have:=h.fB _ _ Hb;exact⟨by omega,this.2⟩;exact⟨(LB b hm).1,.inl (aE h.frame.size (LB b hm).2)⟩;split at AR;rename_i hm;exact⟨(GO b hm).1,.inl (aE h.frame.size (GO b hm).2.1)⟩;have:=h.fB b x AR;exact⟨by omega,this.2⟩;intro i av hi;exact .inl ⟨by simp,hi,rfl⟩;intro t GN hb;rw[vo]at hb;by_cases qW:t=s;subst qW;rw[bl]at hb;simp only[bL,yd]at hb;simp at hb;subst hb;refine .inr ⟨iX,T',RA,iw,J7,VM,?_,Cb,IB,λb hb=>?_,?_,?_⟩;have:=Jh (c:=cy C g' st' w') (A':=A') (hw:=hw') (mk:=λ_=>none) (k:=k) hA' 0 (vs:=iX.toList) (xs:=nd) (fp:=iw) vy ait (λb hb=>by show(if b∈iw\/b∈fv then _ else _)=_;rw[aG (.inl hb)]) (λi u hu q hq=>by cases hq);exact this;show(if b=g.β t\/b∈iw then _ else _)=_;rw[aG (.inr hb)];show(if g.β t=g.β t\/g.β t∈iw then _ else _)=_;rw[aG (.inl rfl)];show(if g.β t∈iw\/g.β t∈fv then _ else if g.β t=g.β t then _ else _)=_;rw[aF (by rintro(h1|h1);exact IB h1;exact(GO _ h1).2.2.2 rfl),aG rfl];rw[aO (cJ qW)]at hb;exact .inl ⟨by simpa using qW,hb,rfl⟩;obtain⟨_,_,h3,h4⟩:=GO b hb;refine⟨?_,?_⟩;show(if b=g.β s\/b∈iw then _ else if b∈fv then _ else _)=_;rw[aF (by rintro(h1|h1);exact h4 h1;exact h3 h1),aG hb];show(if b∈iw\/b∈fv then _ else _)=_;rw[aG (.inr hb)];exact Ca b hb (λe=>RF (by rw[e];exact Hb))
theorem ah3 (Ap:∀f,kX P f (Γ f)){o':Oper}(ho:o'.op=.call {callee:=.value f,args,argTypes:=ts})(hg:dx C g st a w [])(hf:st.rd f=.val false [.fn k])(jE:(Γ k).bx=true){K:AS->au R}(hk:vW Γ o' k args.toList st K=some r)(next:Act->World->Prop)(Q:Exit->Act->World->Prop)(fO:∀st' a' w',nv C st' a' w'->K st'=some r->next a' w'):o'.wp P a w next Q:=by
 have GO:=hg.rd f;rw[hf]at GO;have GO:=(dU GO).1;unfold vW at hk;split at hk
 ·rename_i x0 xs fb;split at hk
  ·rename_i s XD;split at hk
   ·rename_i cs UJ;have hb:st.boxes[s]?=some (some cs):=by rw[dB]at UJ;cases hq:st.boxes[s]? with|none=>rw[hq]at UJ;simp at UJ|some q=>rw[hq]at UJ;simp at UJ;rw[UJ]
    cases hc:(cs.all (AC.AO (F9 cs))&&xs.all (Et st))with
    |false=>rw[hc]at hk;cases hk
    |true=>
     rw[hc]at hk;simp only[af]at hk;simp only[ah]at hc;cases ft:(Γ k).fn (.val true (cs.map AC.Uw)::xs.map (DA st))with
     |none=>rw[ft]at hk;cases hk
     |some y=>
      rw[ft]at hk;simp only[aa]at hk;cases Yn:(((Γ k).back y).all (AC.AO true)&&((Γ k).av y).acs)with
      |false=>rw[Yn]at hk;cases hk
      |true=>
       rw[Yn]at hk;simp only[af]at hk;simp only[ah]at Yn;obtain⟨⟨fn,c,NI,J8,we⟩,_,_,pZ,_⟩:=Ap k _ y ft;have pZ:=pZ jE _ _ rfl;have Kd:=hg.rd x0;rw[XD]at Kd;have vS:=DH Kd;obtain⟨arr,T,fr,fp,jw,qV,dD,hn,ti,gV,IQ,GI,lG⟩:=hg.agh s hb;let A':Rg:=λq b o=>bif q then C.A (F9 cs) b o else((cy C g st w).S b o/\b<w.heap.size/\g.dK b≠some (.box s))
       have hA':∀q b' o,A' q b' o->b'<w.heap.size/\b'≠g.β s/\b'∉fp:=by
        intro q b' o hq;have key:b'<w.heap.size/\g.dK b'≠some (.box s):=by cases q with|true=>have hq:C.A (F9 cs) b' o:=hq;exact⟨gR (C.hA _ _ _ hq).1 hg.frame.size,λhb=>hg.LM hb _ o hq⟩|false=>exact hq.2
        exact⟨key.1,λe=>key.2 (GI b' (.inl e)),λe=>key.2 (GI b' (.inr e))⟩
       have Dg:=pZ A' w (g.β s) (xs.map a.eval) arr T fr g.hw fp hA' jw qV (K7 (k:=F9 cs) hc.1 dD rfl rfl rfl) hn ti gV IQ (R1 hg s (λb o h=>h) xs hc.2);have aqI:a.eval x0=.pointer (some ⟨g.β s,0,none⟩):=vS;have OJ:(Value.pointer (some ⟨g.β s,0,none⟩)::xs.map a.eval).toArray=args.map a.eval:=by apply ei;simp[fb,aqI]
       rw[OJ]at Dg;have dJ:(execOp a.eval o').run P w=.ok (.enter k (args.map a.eval)) w:=by simp[execOp,ho,resolve,GO,Deferred.ofValue,invoke,callFunc,NI,J8];simpa using we
       unfold Oper.wp;rw[dJ,Oper.upon_enter];refine Dg.mono ?_;rintro e w' ⟨v,hw',fv,iX,T',RA,iw,rfl,RG,J7,VM,vy,Cb,IB,LB,hnv,aeo,gP⟩;show next (a.put o'.dst v) w'
       have tail:∀(st1:AS)(g':Gh),dx C g' st1 a w' []->(∀b∈fv,g'.dK b=some (.hand 0)/\g'.hw b=hw' b)->(∀b,b<w.heap.size->g.dK b≠some (.box s)->g'.hw b=g.hw b)->
        K ((st1.fw o'.dst).put o'.dst (((Γ k).av y).Ga st1.ep (st1.il o'.dst)))=some r->next (a.put o'.dst v) w':=by
        intro st1 g' na hlv hold hk
        have hAS:∀(hd:Nat->Value)(q:Bool)(b o:Nat),A' q b o->(cy C {g' with hdr:=hd} (st1.fw o'.dst) w').S b o:=by intro hd q b o hq;cases q with|true=>exact .inl ⟨_,hq⟩|false=>rcases hq.1 with hs|hs;exact .inl hs;exact .inr (by show o<g'.hw b;rw[hold b hq.2.1 hq.2.2];exact hs)
        have aem:∀b∈fv,g'.hw b=hw' b:=λb hb=>(hlv b hb).2
        have vy:∃hd,(∀t,lL st1 t->hd t=g'.hdr t)/\fL (cy C {g' with hdr:=hd} (st1.fw o'.dst) w') v (((Γ k).av y).Ga st1.ep (st1.il o'.dst)) fv:=by
         generalize (Γ k).av y=y at RG;cases y with
         |val gg cs=>obtain⟨vs,eh,hr⟩:=RG;refine⟨qT g'.hdr (st1.il o'.dst) vs,λt ht=>B9 ht,vs,eh,?_⟩;have:=C4 (c:=cy C {g' with hdr:=qT g'.hdr (st1.il o'.dst) vs} (st1.fw o'.dst) w') (mk:=st1.il o'.dst) (hAS _) 0 hr aem (λi u hu t ht=>by rw[cm]at ht;exact⟨(pU ht).2.1,B8 hu ht⟩);have xY:(cy C {g' with hdr:=qT g'.hdr (st1.il o'.dst) vs} (st1.fw o'.dst) w').ep=st1.ep:=BX;rw[xY]at this;exact this
         |vU ts=>obtain⟨ws,hv,hr⟩:=RG;obtain⟨all,GF⟩:=LN hr;refine⟨qT g'.hdr (st1.il o'.dst) all,λt ht=>B9 ht,ws,hv,?_⟩;have:=O9 (c:=cy C {g' with hdr:=qT g'.hdr (st1.il o'.dst) all} (st1.fw o'.dst) w') (mk:=st1.il o'.dst) (hAS _) GF 0 aem (λi u hu t ht=>by rw[cm]at ht;exact⟨(pU ht).2.1,B8 hu ht⟩);have xY:(cy C {g' with hdr:=qT g'.hdr (st1.il o'.dst) all} (st1.fw o'.dst) w').ep=st1.ep:=BX;rw[xY]at this;exact this
        obtain⟨hd,hhd,vy⟩:=vy
        obtain⟨g2,Ju⟩:=na.Pz o'.dst (hw':=g'.hw) (hdr':=hd) (fp:=fv) (st1:=st1.fw o'.dst) Kz vN C6 BX (λt ht=>⟨Fg ht,hhd t ht⟩)
         (Fr.refl _ _) (λ_ _ _ _=>rfl) (λ_ _ _ ho hu=>⟨ho,hu⟩) vy hnv (λb hb=>⟨(aeo b hb).1,.inl (by rw[(hlv b hb).1];rfl)⟩)
        exact fO _ _ _ ⟨g2,Ju⟩ hk
       cases hcur:((Γ k).cur&&cs.all AC.JU)with
       |false=>rw[hcur]at hk;obtain⟨g',na,hlv,hold⟩:=lG w' hw' iX T' RA ((Γ k).back y) iw fv A' (F9 cs) gP J7 VM rfl vy Yn.1 Cb IB LB aeo;exact tail _ g' na hlv hold hk
       |true=>rw[hcur]at hk;simp only[ah]at hcur;have aie:fp=[]:=SV dD hcur.2;subst aie;obtain⟨g',na,hlv,hold⟩:=hg.adF s hb hcur.2 w' hw' iX T' RA ((Γ k).back y) iw fv A' (F9 cs) ⟨gP.os,gP.tape,gP.output,gP.size,λb hb hm=>gP.block b hb (λhh=>hm (hh.resolve_right (by simp)))⟩ J7 VM rfl vy Yn.1 Cb IB (λb hb=>⟨(LB b hb).1,(LB b hb).2.resolve_left (by simp)⟩) (λb hb=>⟨(aeo b hb).1,(aeo b hb).2.1.resolve_left (by simp),(aeo b hb).2.2⟩);exact tail _ g' na hlv hold hk
   cases hk
  cases hk
 cases hk
theorem arg_val (hA:c'.A=c.A)(hw:c'.w=c.w){v:Value}{x:AV}(h:fL c v x fp)(hx:x.Lq=true):fp=[]/\fL c' v x []:=by
 cases x with
 |vU _=>cases hx
 |val g cs=>
  obtain⟨vs,eh,h⟩:=h
  have key:∀(cs:aq AC)(vs:ie)(fp:dX),bn c vs cs fp->cs.all AC.Lq=true->fp=[]/\bn c' vs cs []:=by
   intro cs
   induction cs with
   |nil=>intro vs fp h _;cases vs with
    |nil=>exact⟨h,rfl⟩
    |cons _ _=>exact h.elim
   |cons x cs ih=>
    intro vs fp h hx
    cases vs with
    |nil=>exact h.elim
    |cons v vs=>
     obtain⟨f1,f2,rfl,h1,h2⟩:=h
     simp only[bQ,ah]at hx
     obtain⟨rfl,k2⟩:=ih vs f2 h2 hx.2
     have hx:=hx.1
     have one:f1=[]/\gM c' v x []:=by
      cases x with
      |sl fl e xs=>cases fl with|arg k=>exact⟨h1.1,rfl,by rw[hA,hw];exact h1.2⟩|own _=>cases hx|loc _ _=>cases hx|nest _ _ _ _ _ _=>cases hx|part _ _ _ _=>cases hx|fe _ _ _=>cases hx
      |int _ _=>exact lT h1 rfl
      |bool _=>exact lT h1 rfl
      |str _=>exact lT h1 rfl
      |fn _=>exact lT h1 rfl
      |jB=>cases hx
      |ptr _ _=>cases hx
      |Da _ _ _ _ _=>cases hx
      |un=>cases hx
      |bot=>cases hx
     obtain⟨rfl,k1⟩:=one
     exact⟨rfl,[],[],rfl,k1,k2⟩
  obtain⟨e,k⟩:=key cs vs fp h hx;exact⟨e,vs,eh,k⟩
theorem UY (h:dx C g st a w []):∀(xs:aq Operand),xs.all (λx=>(st.rd x).Lq)=true->nf C.A w (xs.map a.eval) (xs.map st.rd)
 |[],_=>trivial
 |x::xs,hf=>by simp only[bQ,ah]at hf;exact⟨(arg_val (c:=cy C g st w) (c':=eQ C.A (λ_=>0) w) rfl rfl (h.rd x) hf.1).2,UY h xs hf.2⟩
theorem aiH (Ap:∀f,kX P f (Γ f)){o':Oper}(ho:o'.op=.call {callee:=.value f,args,argTypes:=ts})(hg:dx C g st a w [])(hf:st.rd f=.val false [.fn k])(Qs:(Γ k).pr=true){K:AS->au R}(hk:acu Γ o' k args.toList st K=some r)(next:Act->World->Prop)(Q:Exit->Act->World->Prop)(fO:∀st' a' w',nv C st' a' w'->K st'=some r->next a' w'):o'.wp P a w next Q:=by
 have GO:=hg.rd f;rw[hf]at GO;have GO:=(dU GO).1;unfold acu at hk;split at hk
 ·rename_i d hd;split at hk
  ·rename_i JT;cases hc:args.toList.all (λx=>(st.rd x).Lq)with
   |false=>rw[hc]at hk;cases hk
   |true=>
    rw[hc]at hk;simp only[af]at hk;cases ft:(Γ k).fn (args.toList.map st.rd)with
    |none=>rw[ft]at hk;cases hk
    |some y=>
     rw[ft]at hk;simp only[aa]at hk;cases Yn:((Γ k).back y).all AC.Lq with
     |false=>rw[Yn]at hk;cases hk
     |true=>
      rw[Yn]at hk;simp only[af]at hk;obtain⟨⟨fn,c,NI,J8,we⟩,_,_,_,pZ⟩:=Ap k _ y ft;have Dg:=pZ Qs C.A w (args.toList.map a.eval) (λq b o hq=>gR (C.hA q b o hq).1 hg.frame.size) (UY hg _ hc);have fb:(args.toList.map a.eval).toArray=args.map a.eval:=by apply ei;simp
      rw[fb]at Dg;have dJ:(execOp a.eval o').run P w=.ok (.enter k (args.map a.eval)) w:=by simp[execOp,ho,resolve,GO,Deferred.ofValue,invoke,callFunc,NI,J8];simpa using we
      unfold Oper.wp;rw[dJ,Oper.upon_enter];refine Dg.mono ?_;rintro e w' ⟨b,arr,T,fr,hw,rfl,hb,jw,qV,dD,gP⟩;show next (a.put o'.dst (.pointer (some ⟨b,0,none⟩))) w'
      rw[dB]at JT;have II:=mr jw;have E4:∀b' x,g.dK b'=some x->b'≠b:=λb' x hx e=>by have:=(hg.fB b' x hx).1;omega
      have hr1:bn ⟨λb'=>if b'=b then 0 else g.hw b',λt=>if t=d then b else g.β t,C.A,g.hdr,lL st,st.ep,gA st,w'⟩ arr.toList ((Γ k).back y) []:=by
       have hv:fL (eQ C.A hw w') (.agg arr.toList.toArray) (.val true ((Γ k).back y)) []:=⟨arr.toList,rfl,dD⟩
       obtain⟨_,vs,eh,h⟩:=arg_val (c:=eQ C.A hw w') (c':=⟨λb'=>if b'=b then 0 else g.hw b',λt=>if t=d then b else g.β t,C.A,g.hdr,lL st,st.ep,gA st,w'⟩) rfl rfl hv Yn;have:arr.toList=vs:=by have eh:Value.agg arr.toList.toArray=.agg vs.toArray:=eh;simp only[Value.agg.injEq]at eh;simpa using congrArg Array.toList eh
       rw[this];exact h
      obtain⟨g',Jx,h'⟩:=hg.XV d (cs:=(Γ k).back y) (arr:=arr) (T:=T) (fr:=fr) (fp:=[]) (w':=w') (bnew:=b) (hw':=λb'=>if b'=b then 0 else g.hw b') (.inr ⟨hb,JT⟩) ⟨gP.os,gP.tape,gP.output,gP.size,λb' gL _=>gP.block b' gL (λm=>m)⟩ jw qV II (by simp) (λb' x hx _ hn=>by simp[hn]) (λb' o u ho hu=>by have gL:b'<w.heap.size:=World.block_lt_of_cell? w _ hu;exact⟨by simp[show b'≠b by omega];exact ho,BJ gP hu⟩) hr1 List.nodup_nil (by simp) (λb' gL=>by cases gL);have hdl:d<st.boxes.length:=(aD.1 JT).1;have hq:=h'.quiet (some d) (v:=.pointer (some ⟨b,0,none⟩)) (av:=.one (.ptr d 0)) (mO ⟨by simp[cy,Jx],⟨(Γ k).back y,by rw[kx];simp[hdl]⟩,rfl⟩);rw[hd];exact fO _ _ _ ⟨g',hq⟩ hk
  cases hk
 cases hk
theorem agj (Ap:∀f,kX P f (Γ f)){o':Oper}(ho:o'.op=.call {callee:=.value f,args,argTypes:=ts})(h:nv C st a w){K:AS->au R}(hk:Gb Γ o' f args.toList st K=some r)(next:Act->World->Prop)(Q:Exit->Act->World->Prop)(fO:∀st' a' w',nv C st' a' w'->K st'=some r->next a' w'):o'.wp P a w next Q:=by
 obtain⟨g,hg⟩:=h;unfold Gb at hk;split at hk
 ·rename_i k hf
  have GO:=hg.rd f
  rw[hf]at GO
  have GO:=(dU GO).1
  cases jE:(Γ k).bx with
  |true=>rw[jE]at hk;exact ah3 Ap ho hg hf jE hk next Q fO
  |false=>
  rw[jE]at hk
  simp only[ae]at hk
  cases Qs:(Γ k).pr with
  |true=>rw[Qs]at hk;exact aiH Ap ho hg hf Qs hk next Q fO
  |false=>
  rw[Qs]at hk
  simp only[ae]at hk
  cases Kb:(Γ k).io with
  |true=>rw[Kb]at hk;exact ajE Ap ho hg hf Kb hk next Q fO
  |false=>
  rw[Kb]at hk
  simp only[ae]at hk
  cases ft:(Γ k).fn (args.toList.map λx=>((st.rd x).fresh st).asArg st.ep)with
  |none=>rw[ft]at hk;cases hk
  |some y0=>
   rw[ft]at hk
   simp only[aa]at hk
   obtain⟨⟨fn,c,NI,J8,we⟩,pZ,_⟩:=Ap k _ y0 ft
   have pZ:=pZ Kb jE
   have hk:K ((st.fw o'.dst).put o'.dst (((Γ k).res y0).Ga st.ep (st.il o'.dst)))=some r:=by unfold Aq.res;cases QI:(Γ k).sel y0 with|true=>rw[QI]at hk;exact hk|false=>rw[QI]at hk;exact hk
   generalize hy0:(Γ k).res y0=y at hk pZ
   have Dg:=pZ (λ_ b o=>(cy C g st w).S b o/\b<w.heap.size) w (args.toList.map a.eval) (λ_ _ _ h=>h.2) (UZ hg args.toList)
   have fb:(args.toList.map a.eval).toArray=args.map a.eval:=by apply ei;simp
   rw[fb]at Dg
   have dJ:(execOp a.eval o').run P w=.ok (.enter k (args.map a.eval)) w:=by simp[execOp,ho,resolve,GO,Deferred.ofValue,invoke,callFunc,NI,J8];simpa using we
   unfold Oper.wp
   rw[dJ,Oper.upon_enter]
   refine Dg.mono ?_
   rintro e w' ⟨v,hw,fp,rfl,dD,E3,C1,gP⟩
   show next (a.put o'.dst v) w'
   let hw':Nat->Nat:=λb=>if b∈fp then hw b else g.hw b
   have Ts:∀b,b<w.heap.size->b∉fp:=λb hb hm=>by have:=(C1 b hm).1;omega
   have hA':∀(hd:Nat->Value)(_:Bool)(b o:Nat),((cy C g st w).S b o/\b<w.heap.size)->(cy C {g with hw:=hw',hdr:=hd} (st.fw o'.dst) w').S b o:=by rintro hd _ b o ⟨hs,hb⟩;rcases hs with hs|hs;exact .inl hs;exact .inr (by simp only[cy,hw',aF (Ts b hb)];exact hs)
   have vy:∃hd,(∀t,lL st t->hd t=g.hdr t)/\fL (cy C {g with hw:=hw',hdr:=hd} (st.fw o'.dst) w') v (y.Ga st.ep (st.il o'.dst)) fp:=by
    have aem:∀b∈fp,hw' b=hw b:=λb hb=>by simp[hw',hb]
    cases y with
    |val gg cs=>obtain⟨vs,eh,hr⟩:=dD;refine⟨qT g.hdr (st.il o'.dst) vs,λt ht=>B9 ht,vs,eh,?_⟩;have:=C4 (c:=cy C {g with hw:=hw',hdr:=qT g.hdr (st.il o'.dst) vs} (st.fw o'.dst) w') (mk:=st.il o'.dst) (hA' _) 0 hr aem (λi u hu t ht=>by rw[cm]at ht;exact⟨(pU ht).2.1,B8 hu ht⟩);have xY:(cy C {g with hw:=hw',hdr:=qT g.hdr (st.il o'.dst) vs} (st.fw o'.dst) w').ep=st.ep:=BX;rw[xY]at this;exact this
    |vU ts=>obtain⟨ws,hv,hr⟩:=dD;obtain⟨all,GF⟩:=LN hr;refine⟨qT g.hdr (st.il o'.dst) all,λt ht=>B9 ht,ws,hv,?_⟩;have:=O9 (c:=cy C {g with hw:=hw',hdr:=qT g.hdr (st.il o'.dst) all} (st.fw o'.dst) w') (mk:=st.il o'.dst) (hA' _) GF 0 aem (λi u hu t ht=>by rw[cm]at ht;exact⟨(pU ht).2.1,B8 hu ht⟩);have xY:(cy C {g with hw:=hw',hdr:=qT g.hdr (st.il o'.dst) all} (st.fw o'.dst) w').ep=st.ep:=BX;rw[xY]at this;exact this
   obtain⟨hd,hhd,vy⟩:=vy
   obtain⟨g',na⟩:=hg.Pz o'.dst (hw':=hw') (hdr':=hd) (fp:=fp) (st1:=st.fw o'.dst) Kz vN C6 BX (λt ht=>⟨Fg ht,hhd t ht⟩)
    ⟨gP.os,gP.tape,gP.output,gP.size,λb hb _=>gP.block b hb (λm=>m)⟩ (λb x hx _=>by simp[hw',Ts b (hg.fB b x hx).1])
    (λb o u ho hu=>by have hb:b<w.heap.size:=World.block_lt_of_cell? w _ hu;exact⟨by simp[hw',Ts b hb];exact ho,BJ gP hu⟩) vy E3 (λb hb=>⟨(C1 b hb).2,.inr (C1 b hb).1⟩)
   exact fO _ _ _ ⟨g',na⟩ hk
 cases hk
end Go.Dn
