import Derived.Test.YtfbhfnniblfpbaaGreatDnOps8
/- A call by value: what a callee promises, and what the caller makes of it. -/
namespace Go.Dn
open Go.RowKit
variable {P:Program} {C:Ctx} {st:AS} {a:Act} {w:World} {R:Type} {r:R}
variable {x:AC} {args:Array Operand} {ts:Array TypeId} {Γ:xO} {g:Gh} {k:Nat} {hw hw':Nat->Nat} {hdr:Nat->Value} {f:Operand} {c c':RC} {A:Rg} {cs:ar AC} {d:aw Nat} {fp:dV}
def eQ (A:Rg)(hw:Nat->Nat)(w:World):RC:=⟨hw,λ_=>0,A,λ_=>undef,λ_=>False,0,λ_=>False,w⟩
def nb (A:Rg)(w:World):ic->ar AV->Prop
 |[],[]=>True
 |v::vs,x::xs=>fL (eQ A (λ_=>0) w) v x []/\nb A w vs xs
 |_,_=>False
def apL (P:Program)(f:Nat)(F:Ai)(y:F.R)(g:Bool)(cs:ar AC)(rest:ar AV):Prop:=
 ∀(A:Rg)(w:World)(v0:Value)(vs:ic)(hw:Nat->Nat)(fp:dV),(∀k b o,A k b o->b<w.heap.size/\b∉fp)->fL (eQ A hw w) v0 (.val g cs) fp->fp.Nodup->(∀b∈fp,b<w.heap.size)->nb A w vs rest->
  Calls P f (v0::vs).toArray w λe w'=>∃v hw' fr iu,e=.returned v/\fL (eQ A hw' w') v (F.av y) fr/\fL (eQ A hw' w') v0 (.val g (F.back y)) iu/\iu.Nodup/\
   (∀b∈iu,b<w'.heap.size/\(b∈fp\/w.heap.size<=b))/\Fr (λb=>b∈fp) w w'
def aiJ (P:Program)(f:Nat)(F:Ai)(y:F.R)(cs:ar AC)(rest:ar AV):Prop:=
 ∀(A:Rg)(w:World)(b:Nat)(vs:ic)(arr:Array Value)(T:TypeId)(fr:Nat×Nat)(hw:Nat->Nat)(fp:dV),(∀k b' o,A k b' o->b'<w.heap.size/\b'≠b/\b'∉fp)->
  w.heap[b]?=some (.cells arr T fr)->qc arr fr->bn (eQ A hw w) arr.toList cs fp->fp.Nodup->b∉fp->(∀b'∈fp,b'<w.heap.size)->hw b=0->nb A w vs rest->
  Calls P f (.pointer (some ⟨b,0,none⟩)::vs).toArray w λe w'=>∃v hw' fv iV T' Re iu,e=.returned v/\fL (eQ A hw' w') v (F.av y) fv/\w'.heap[b]?=some (.cells iV T' Re)/\qc iV Re/\
   bn (eQ A hw' w') iV.toList (F.back y) iu/\iu.Nodup/\b∉iu/\(∀b'∈iu,b'<w'.heap.size/\(b'∈fp\/w.heap.size<=b'))/\fv.Nodup/\(∀b'∈fv,b'<w'.heap.size/\(b'∈fp\/w.heap.size<=b')/\b'∉iu/\b'≠b)/\Fr (λb'=>b'=b\/b'∈fp) w w'
def ahj (P:Program)(f:Nat)(F:Ai)(y:F.R)(xs:ar AV):Prop:=
 ∀(A:Rg)(w:World)(vs:ic),(∀k b o,A k b o->b<w.heap.size)->nb A w vs xs->
  Calls P f vs.toArray w λe w'=>∃b arr T fr hw,e=.returned (.pointer (some ⟨b,0,none⟩))/\w.heap.size<=b/\w'.heap[b]?=some (.cells arr T fr)/\qc arr fr/\bn (eQ A hw w') arr.toList (F.back y) []/\Fr (λ_=>False) w w'
def kV (P:Program)(f:Nat)(F:Ai):Prop:=
 ∀(xs:ar AV)(y:F.R),F.fn xs=some y->
  (∃fn c,P.funcs[f]?=some fn/\fn.body=some c/\(fn.name== "runtime.NumGoroutine")=false)/\
  (F.io=false->F.bx=false->∀(A:Rg)(w:World)(vs:ic),(∀k b o,A k b o->b<w.heap.size)->nb A w vs xs->
    Calls P f vs.toArray w λe w'=>∃v hw fp,e=.returned v/\fL (eQ A hw w') v (F.res y) fp/\fp.Nodup/\(∀b∈fp,w.heap.size<=b/\b<w'.heap.size)/\Fr (λ_=>False) w w')/\
  (F.io=true->∀g cs rest,xs=.val g cs::rest->apL P f F y g cs rest)/\
  (F.bx=true->∀cs rest,xs=.val true cs::rest->aiJ P f F y cs rest)/\
  (F.pr=true->ahj P f F y xs)
theorem lQ {v:Value}(h:gI c v x fp)(hf:x.gu=true):fp=[]/\gI c' v x []:=by cases x with|int k n=>exact⟨h.2,h.1,rfl⟩|bool b=>exact⟨h.2,h.1,rfl⟩|str s=>exact⟨h.2,h.1,rfl⟩|fn f=>exact⟨h.2,h.1,rfl⟩|_=>cases hf
theorem I9 {c':RC}:∀{vs:ic}{xs:ar AC}{fp:dV},bn c vs xs fp->xs.all AC.gu=true->fp=[]/\bn c' vs xs []
 |[],[],_,h,_=>⟨h,rfl⟩
 |_::_,_::_,_,h,hf=>by obtain⟨f1,f2,rfl,h1,h2⟩:=h;simp only[bN,ah]at hf;obtain⟨rfl,k1⟩:=lQ (c':=c') h1 hf.1;obtain⟨rfl,k2⟩:=I9 (c':=c') h2 hf.2;exact⟨rfl,[],[],rfl,k1,k2⟩
 |[],_::_,_,h,_=>h.elim
 |_::_,[],_,h,_=>h.elim
theorem U3:∀{ws:ic}{ts:ar (Bool×ar AC)}{fp:dV},fL.qJ c ws ts fp->(ts.all λx=>x.2.all AC.gu)=true->fL.qJ c' ws ts []
 |[],[],_,_,_=>rfl
 |_::_,_::_,_,h,hf=>by obtain⟨f1,f2,rfl,⟨vs,hv,h1⟩,h2⟩:=h;simp only[bN,ah]at hf;exact⟨[],[],rfl,⟨vs,hv,(I9 h1 hf.1).2⟩,U3 h2 hf.2⟩
 |[],_::_,_,h,_=>h.elim
 |_::_,[],_,h,_=>h.elim
theorem D7 {v:Value}{x:AV}(h:fL c v x fp)(hf:x.gu=true):fL c' v x []:=by
 cases x with
 |val g cs=>obtain⟨vs,hv,h⟩:=h;exact⟨vs,hv,(I9 h hf).2⟩
 |vQ ts=>obtain⟨ws,hv,h⟩:=h;exact⟨ws,hv,U3 h hf⟩
theorem Pm:∀(os ss:ar AC){r:ar AC}{vs us:ic}{f:dV},mQ os ss=some r->bn c vs os []->bn c us ss f->bn (eQ A c.hw c.w) vs r f:=by
 intro os;induction os with
 |nil=>intro ss r vs us f h hv hu;cases ss with|cons _ _=>simp[mQ]at h|nil=>simp[mQ]at h;subst h;cases vs with|cons _ _=>exact hv.elim|nil=>cases us with|cons _ _=>exact hu.elim|nil=>exact hu
 |cons o os ih=>
  intro ss r vs us f h hv hu;cases vs with
  |nil=>exact hv.elim
  |cons v vs=>
   cases ss with
   |nil=>unfold mQ at h;split at h<;>first|contradiction|cases h
   |cons s ss=>
    cases us with
    |nil=>exact hu.elim
    |cons u us=>
     obtain⟨g1,g2,hg,hv1,Mh⟩:=hv;have e1:g1=[]:=by have:=hg.symm;simp at this;exact this.1
     have e2:g2=[]:=by have:=hg.symm;simp at this;exact this.2
     subst e1;subst e2;obtain⟨f1,f2,rfl,hu1,hu2⟩:=hu;have fl:∀{x:AC}{r'},x.gu=true->s.gu=true->o=x->mQ os ss=some r'->r=x::r'->bn (eQ A c.hw c.w) (v::vs) r (f1++f2):=by rintro x r' hx hs rfl hr rfl;obtain⟨rfl,_⟩:=lQ (c':=c) hu1 hs;exact⟨[],f2,rfl,(lQ hv1 hx).2,ih ss hr Mh hu2⟩
     unfold mQ at h;split at h;contradiction;rename_i ep rt t e0 xs0 os' t' e xs ss' h1 h2;injection h1 with h1 Om;subst h1;subst Om;injection h2 with h2 Un;subst h2;subst Un;cases ht:(t'==t)with
     |false=>rw[ht]at h;cases h
     |true=>
      have:t'=t:=by simpa using ht
      subst this;rw[ht]at h;simp only[af]at h;obtain⟨r',hr,h⟩:=aL.1 h;cases h;have Td:=(hv1.2.2.2.2 rt t' rfl).2;have Rm:=(hu1.2 t' rfl).2;have huv:u=v:=Rm.trans Td.symm;subst huv;exact⟨f1,f2,rfl,⟨hu1.1,by simp⟩,ih _ hr Mh hu2⟩
     rename_i k n os' k' n' ss' h1 h2;injection h1 with h1 Om;subst Om;injection h2 with h2 Un;subst h2;subst Un;obtain⟨r',hr,h⟩:=aL.1 h;cases h;exact fl (x:=.int k n) rfl rfl h1 hr rfl;rename_i k os' k' ss' h1 h2;injection h1 with h1 Om;subst Om;injection h2 with h2 Un;subst h2;subst Un;obtain⟨r',hr,h⟩:=aL.1 h;cases h;exact fl (x:=.bool k) rfl rfl h1 hr rfl;rename_i k os' k' ss' h1 h2;injection h1 with h1 Om;subst Om;injection h2 with h2 Un;subst h2;subst Un;obtain⟨r',hr,h⟩:=aL.1 h;cases h;exact fl (x:=.str k) rfl rfl h1 hr rfl;cases h
theorem Wk (hle:c.Le c'):∀(os ss bs:ar AC){seg:ar AC}{vs us:ic}{f f':dV},Dx os ss bs=some seg->bn c vs os []->bn c us ss f-> bn (eQ A hw' c'.w) vs bs f'->(∀b∈f',c'.hw b=hw' b)->bn c' us seg f':=by
 intro os;induction os with
 |nil=>
  intro ss bs seg vs us f f' h hv hu hb _;unfold Dx at h;split at h;cases h;cases us with|cons _ _=>exact hu.elim|nil=>cases vs with|cons _ _=>exact hv.elim|nil=>exact hb
  all_goals first|contradiction|cases h
 |cons o os ih=>
  intro ss bs seg vs us f f' h hv hu hb hh;unfold Dx at h;split at h;contradiction;rename_i ep rt t' e0 xs0 os' t e1 xs1 ss' tg e ys bs' h1;injection h1 with h1 Om;subst h1;subst Om;cases ht:(t==t')with
  |false=>rw[ht]at h;cases h
  |true=>
   have:t=t':=by simpa using ht
   subst this;rw[ht]at h;simp only[af]at h;obtain⟨r',hr,h⟩:=aL.1 h;cases h;cases vs with
   |nil=>exact hv.elim
   |cons v vs=>
    cases us with
    |nil=>exact hu.elim
    |cons u us=>
     obtain⟨g1,g2,hg,hv1,Mh⟩:=hv;have e1:g1=[]:=by have:=hg.symm;simp at this;exact this.1
     have e2:g2=[]:=by have:=hg.symm;simp at this;exact this.2
     subst e1;subst e2;obtain⟨f1,f2,rfl,hu1,hu2⟩:=hu;obtain⟨f1',f2',rfl,Z5,Gu⟩:=hb;have Td:=(hv1.2.2.2.2 rt t rfl).2;have Rm:=hu1.2 t rfl;have huv:u=v:=Rm.2.trans Td.symm;refine⟨f1',f2',rfl,⟨?_,λq hq=>?_⟩,ih _ _ hr Mh hu2 Gu (λb hb=>hh b (ba _ hb))⟩;rw[huv];exact eo.mono Z5.1 (λb hb=>⟨rfl,hh b (bg _ hb)⟩);cases hq;exact⟨(hle.hdr t Rm.1).1,by rw[(hle.hdr t Rm.1).2];exact Rm.2⟩
  all_goals first
   |cases h
   |(rename_i h1
     injection h1 with h1 Om;subst Om
     obtain⟨r',hr,h⟩:=aL.1 h
     cases h
     cases vs with
     |nil=>exact hv.elim
     |cons v vs=>
      cases us with
      |nil=>exact hu.elim
      |cons u us=>
       obtain⟨g1,g2,hg,hv1,Mh⟩:=hv
       have e1:g1=[]:=by have:=hg.symm;simp at this;exact this.1
       have e2:g2=[]:=by have:=hg.symm;simp at this;exact this.2
       subst e1;subst e2
       obtain⟨f1,f2,rfl,hu1,hu2⟩:=hu
       obtain⟨f1',f2',rfl,Z5,Gu⟩:=hb
       have k1:=(lQ (c':=c) Z5 rfl).1
       subst k1
       exact⟨[],f2',rfl,(lQ hu1 rfl).2,ih _ _ hr Mh hu2 Gu (λb hb=>hh b (ba _ hb))⟩)
theorem Xs {v:Value}(h:gI c v x fp):gI (eQ (λ_ b o=>c.S b o/\b<c.w.heap.size) (λ_=>0) c.w) v (x.asArg c.ep) []:=by
 have hS:∀{e:CT}{xs:ar e.D},jd c.w c.S (.sl e) [v] xs->jd c.w (λb o=>c.S b o/\b<c.w.heap.size) (.sl e) [v] xs:=λhr=>
  jd.mono (λb o u hs hu=>⟨⟨hs,World.block_lt_of_cell? c.w _ hu⟩,hu⟩) hr
 cases x with|int k n=>exact⟨h.1,rfl⟩|bool b=>exact⟨h.1,rfl⟩|str s=>exact⟨h.1,rfl⟩|jw=>exact⟨h.1,rfl⟩|fn f=>exact⟨h.1,rfl⟩|ptr s off=>exact rfl|un=>exact rfl|bot=>exact rfl|C1 fl e y i off=>exact rfl|sl fl e xs=>cases fl with|nest _ _ _ _ _ _=>exact rfl|part _ _ _ _=>exact rfl|fe _ _ _=>exact rfl|own t=>exact⟨rfl,hS (eo.rep (λb o ho=> .inr ho) h.1)⟩|arg k=>exact⟨rfl,hS (jd.mono (λb o u hs hu=>⟨.inl ⟨k,hs⟩,hu⟩) h.2)⟩|loc ep pv=>simp only[AC.asArg];split;rename_i he;exact⟨rfl,hS (h.2.2.2.1 (by simpa using he))⟩;exact rfl
theorem L3:∀{vs:ic}{xs:ar AC}{fp:dV},bn c vs xs fp->bn (eQ (λ_ b o=>c.S b o/\b<c.w.heap.size) (λ_=>0) c.w) vs (xs.map (AC.asArg c.ep)) []
 |[],[],_,_=>rfl
 |_::_,_::_,_,h=>by obtain⟨f1,f2,rfl,h1,h2⟩:=h;exact⟨[],[],rfl,Xs h1,L3 h2⟩
 |[],_::_,_,h=>h.elim
 |_::_,[],_,h=>h.elim
theorem aaR {v:Value}{x:AV}(h:fL c v x fp):fL (eQ (λ_ b o=>c.S b o/\b<c.w.heap.size) (λ_=>0) c.w) v (x.asArg c.ep) []:=by
 cases x with
 |val g cs=>obtain⟨vs,hv,h⟩:=h;exact⟨vs,hv,L3 h⟩
 |vQ ts=>exact fL.bot _ _
theorem UC (h:dw C g st a w []):∀(args:ar Operand),
 nb (λ_ b o=>(cy C g st w).S b o/\b<w.heap.size) w (args.map a.eval) (args.map λx=>((st.rd x).fresh st).asArg st.ep)
 |[]=>trivial
 |x::xs=>⟨aaR (c:=cy C g st w) (h.fresh (h.rd x)),UC h xs⟩
theorem Xt {A':Rg}{v:Value}{tag:aw Nat}(h:gI (eQ A' hw c.w) v x fp)(hA:∀k b o,A' k b o->c.S b o)(BX:∀b∈fp,c.hw b=hw b)(ht:∀t,tag=some t->c.iss t/\v=c.hdr t):gI c v (x.F0 c.ep tag) fp:=by
 cases x with
 |int k n=>exact h
 |bool b=>exact h
 |str s=>exact h
 |jw=>exact h
 |fn f=>exact h
 |ptr s off=>exact h.2.2
 |un=>exact h
 |bot=>exact h
 |C1 fl e y i off=>cases fl with|own t=>exact h.elim|nest _ _ _ _ _ _=>exact h.elim|part _ _ _ _=>exact h.elim|fe _ _ _=>exact h.elim|arg _=>exact h.1|loc ep pv=>exact h.1
 |sl fl e xs=>
  cases fl with
  |nest _ _ _ _ _ _=>exact h.1
  |part _ _ _ _=>exact h.1
  |fe _ _ _=>obtain⟨_,⟨k,hk,h3⟩,_⟩:=h;exact⟨λq hq=>(by cases hq),⟨k,hk,h3.mono (λb hb=>⟨rfl,BX b hb⟩)⟩,by simp⟩
  |own t=>exact⟨eo.mono h.1 (λb hb=>⟨rfl,BX b hb⟩),ht⟩
  |loc ep pv=>exact h.1
  |arg _=>have hr:jd c.w c.S (.sl e) [v] xs:=jd.mono (λb o u hs hu=>⟨hA _ b o hs,hu⟩) h.2;refine⟨h.1,aU _,?_,λ_=>hr,by simp⟩;obtain⟨u,hu,k⟩:=hr;simp at hu;subst hu;rcases k with⟨⟨ad,rfl⟩,rfl⟩|⟨b,o,cap,rfl,_⟩;exact⟨_,_,_,rfl,rfl⟩;exact⟨_,_,_,rfl,rfl⟩
theorem CV {A':Rg}{mk:Nat->aw Nat}(hA:∀k b o,A' k b o->c.S b o):∀{vs:ic}{xs:ar AC}{fp:dV}(j:Nat),bn (eQ A' hw c.w) vs xs fp->(∀b∈fp,c.hw b=hw b)->
 (∀i v,vs[i]?=some v->∀t,mk (j+i)=some t->c.iss t/\v=c.hdr t)->bn c vs (Kw c.ep mk j xs) fp
 |[],[],_,_,h,_,_=>h
 |v::_,_::_,_,j,h,hh,hm=>by obtain⟨f1,f2,rfl,h1,h2⟩:=h;exact⟨f1,f2,rfl,Xt h1 hA (λb hb=>hh b (bg _ hb)) (λt ht=>hm 0 v rfl t ht),CV hA (j+1) h2 (λb hb=>hh b (ba _ hb)) (λi u hu t ht=>hm (i+1) u (by simpa using hu) t (by rwa[show j+(i+1)=j+1+i by omega]))⟩
 |[],_::_,_,_,h,_,_=>h.elim
 |_::_,[],_,_,h,_,_=>h.elim
inductive Leaves (A:Rg) (hw:Nat->Nat) (w:World):List Value->List (Bool×List AC)->List Nat->List Value->Prop
 |nil:Leaves A hw w [] [] [] []
 |cons {v:Value} {vs:List Value} {g:Bool} {cs:List AC} {ts:List (Bool×List AC)} {f1 f2:List Nat} {us all:List Value} (ee:Cut g v us) (hr:bn (eQ A hw w) us cs f1) (h:Leaves A hw w vs ts f2 all):
  Leaves A hw w (v::vs) ((g,cs)::ts) (f1++f2) (us++all)
theorem Ls {w:World}:∀{ws:ic}{ts:ar (Bool×ar AC)}{fp:dV},fL.qJ (eQ A hw w) ws ts fp->∃all,Leaves A hw w ws ts fp all
 |[],[],_,h=>by cases h;exact⟨[],.nil⟩
 |_::_,(g,cs)::_,_,h=>by obtain⟨f1,f2,rfl,⟨us,ee,hr⟩,h2⟩:=h;obtain⟨all,Gt⟩:=Ls h2;exact⟨us++all,.cons ee hr Gt⟩
 |[],_::_,_,h=>h.elim
 |_::_,[],_,h=>h.elim
theorem OQ {A':Rg}{mk:Nat->aw Nat}(hA:∀k b o,A' k b o->c.S b o){ws:ic}{ts:ar (Bool×ar AC)}{all:ic}(h:Leaves A' hw c.w ws ts fp all): ∀j,(∀b∈fp,c.hw b=hw b)->(∀i v,all[i]?=some v->∀t,mk (j+i)=some t->c.iss t/\v=c.hdr t)->fL.qJ c ws (Y7 c.ep mk j ts) fp:=by induction h with|nil=>intro j _ _;exact rfl| @cons v vs g cs ts f1 f2 us all ee hr h ih=>intro j hh hm;have hl:=hr.length;refine⟨f1,f2,rfl,⟨us,ee,CV hA j hr (λb hb=>hh b (bg _ hb)) (λi u hu t ht=>?_)⟩,ih _ (λb hb=>hh b (ba _ hb)) (λi u hu t ht=>?_)⟩;exact hm i u (by rw[bw (aD.1 hu).1];exact hu) t ht;have hl':us.length=cs.length:=hl;refine hm (us.length+i) u (by rw[bq (by omega)];simpa using hu) t ?_;rw[<-fE,hl'];exact ht
def qQ (hdr:Nat->Value)(mk:Nat->aw Nat)(all:ic):Nat->Value:=λu=>if mk (u/3%4096)=some u then(all[u/3%4096]?).getD undef else hdr u
theorem BW {all:ic}{t:Nat}(h:lI st t):qQ hdr (st.ik d) all t=hdr t:=by unfold qQ;rw[aF];intro e;exact(pT e).1 h
theorem BV {all:ic}{i t:Nat}{v:Value}(hv:all[i]?=some v)(h:st.ik d i=some t):v=qQ hdr (st.ik d) all t:=by
 obtain⟨_,_,d',rfl,ht,hi⟩:=pT h;have agl:t/3%4096=i:=by rw[ht,KP];omega
 unfold qQ;rw[agl,aG h,hv];rfl
theorem dw.Ns (h:dw C g st a w [])(o:jc)(Mf:¬cX (some o)){f1 f2 f3:dV}(hn:(f1++f2++f3).Nodup)(hl:∀b∈f1++f2++f3,g.dJ b=some o){w':World}{st':AS}{jB:dV}(xQ:st'.ep=st.ep+1)(Gv:st'.iss=st.iss)(qR:∀s,gx st s->gx st' s)(EA:jB.Nodup)(og:∀b∈jB,b<w'.heap.size/\(b∈f2\/w.heap.size<=b))(gM:Fr (λb=>b∈f2) w w')(BX:∀b,b<w.heap.size->b∉f2->hw' b=g.hw b): (cy C g st w).Le (cy C (g.wrote o (f1++jB++f3) hw') st' w')/\(f1++jB++f3).Nodup/\ (∀b∈f1++jB++f3,(g.wrote o (f1++jB++f3) hw').dJ b=some o)/\ (∀b∈f1++f3,w'.heap[b]?=w.heap[b]?/\hw' b=g.hw b)/\ (∀b x,¬cX (some x)->x≠o->g.dJ b=some x->(g.wrote o (f1++jB++f3) hw').dJ b=some x/\w'.heap[b]?=w.heap[b]?/\hw' b=g.hw b)/\ (∀b,g.dJ b=some o->b∉f1++f2++f3->(g.wrote o (f1++jB++f3) hw').dJ b=some o/\w'.heap[b]?=w.heap[b]?/\hw' b=g.hw b)/\ Fr C.M C.w0 w'/\(∀b x,(g.wrote o (f1++jB++f3) hw').dJ b=some x->b<w'.heap.size/\(C.w0.heap.size<=b\/C.M b)):=by
 have BZ:=hn;rw[aN]at BZ;have n1:=aB.1 BZ;have n2:=aB.1 n1.2.1;have Ap:∀b∈f1++f3,b∉f2:=by intro b hb h2;rcases az.1 hb with hb|hb;exact n1.2.2 b hb b (bg _ h2) rfl;exact n2.2.2 b h2 b hb rfl
 have X0:∀k b o u,C.A k b o->w.cell? ⟨b,o,none⟩=some u->w'.cell? ⟨b,o,none⟩=some u:=by intro k b o u hA hu;have hb:b<w.heap.size:=World.block_lt_of_cell? w _ hu;have JD:¬(b∈f2):=λhm=>h.Lr (hl b (by simp[hm])) k o hA;rw[World.cell?_of_block (a:=⟨b,o,none⟩) (gM.block b hb JD)];exact hu
 have hle:(cy C g st w).Le (cy C (g.wrote o (f1++jB++f3) hw') st' w'):=⟨rfl,λt ht=>⟨by show lI st' t;have Up:lI st t:=ht;simpa[lI,Gv]using Up,rfl⟩,X0,by show st.ep<=st'.ep;omega,λs hs=>⟨qR s hs,rfl⟩,λhe=>absurd he (by show st'.ep≠st.ep;omega)⟩
 have mc:∀b x,g.dJ b=some x->b∉f2->w'.heap[b]?=w.heap[b]?/\hw' b=g.hw b:=by intro b x hb hm;exact⟨gM.block b (h.fA b _ hb).1 hm,BX b (h.fA b _ hb).1 hm⟩
 have hd1:∀b∈f1++f3,b∉jB:=by intro b hb hm;rcases(og b hm).2 with h2|h2;exact Ap b hb h2;have:=(h.fA b _ (hl b (by rcases az.1 hb with hb|hb<;>simp[hb]))).1;omega
 refine⟨hle,?_,?_,?_,?_,?_,?_,?_⟩;rw[aN];refine aB.2 ⟨n1.1,aB.2 ⟨EA,n2.2.1,?_⟩,?_⟩;rintro b hb c hc rfl;exact hd1 b (by simp[hc]) hb;rintro b hb c hc rfl;rcases az.1 hc with hc|hc;exact hd1 b (by simp[hb]) hc;exact n1.2.2 b hb b (ba _ hc) rfl;intro b hb;show(if b∈f1++jB++f3 then _ else _)=_;rw[aG hb];intro b hb;exact mc b o (hl b (by rcases az.1 hb with hb|hb<;>simp[hb])) (Ap b hb);intro b x hh hxo hb;have Z9:b∉f2:=λhm=>hxo (by have:=hl b (by simp[hm]);rw[hb]at this;simpa using this);refine⟨?_,mc b x hb Z9⟩;show(if b∈f1++jB++f3 then _ else if cX (g.dJ b) then none else g.dJ b)=_;have S8:b∉f1++jB++f3:=by intro hm;simp only[az]at hm;rcases hm with(hm|hm)|hm;exact hxo (by have:=hl b (by simp[hm]);rw[hb]at this;simpa using this);rcases(og b hm).2 with h2|h2;exact Z9 h2;have:=(h.fA b _ hb).1;omega;exact hxo (by have:=hl b (by simp[hm]);rw[hb]at this;simpa using this)
 rw[aF S8,aF (by rw[hb];exact hh),hb];intro b hb hm;have Z9:b∉f2:=λk=>hm (by simp[k]);refine⟨?_,mc b o hb Z9⟩;show(if b∈f1++jB++f3 then _ else if cX (g.dJ b) then none else g.dJ b)=_;rw[aF (c:=cX (g.dJ b)) (by rw[hb];exact Mf),hb];split<;>rfl;refine h.frame.trans gM (λb hb hm=>?_);rcases(h.fA b o (hl b (by simp[hm]))).2 with h2|h2;omega;exact h2;intro b x hx;have AJ:(if b∈f1++jB++f3 then some o else if cX (g.dJ b) then none else g.dJ b)=some x:=hx;have hz:=gM.size;have YS:∀y,g.dJ b=some y->b<w'.heap.size/\(C.w0.heap.size<=b\/C.M b):=λy hy=>⟨gO (h.fA b y hy).1 hz,(h.fA b y hy).2⟩
 split at AJ;rename_i hm;simp only[az]at hm;rcases hm with(hm|hm)|hm;exact YS o (hl b (by simp[hm]));rcases(og b hm).2 with h2|h2;exact YS o (hl b (by simp[h2]));exact⟨(og b hm).1,.inl (aE h.frame.size h2)⟩;exact YS o (hl b (by simp[hm]));split at AJ;cases AJ;exact YS x AJ
theorem Jv {vs us:ic}{seg:ar AC}{f1 f2 f3:dV}{off n:Nat}(Qq:us=(vs.drop off).take n)(hln:us.length=n)(r1:bn c' (vs.take off) (cs.take off) f1)(r2:bn c' us seg f2)(r3:bn c' (vs.drop (off+n)) (cs.drop (off+n)) f3): bn c' vs (da cs off seg) (f1++f2++f3):=by
 have Aq:=r2.length;have e:vs=vs.take off++us++vs.drop (off+n):=by rw[Qq,aN,<-dY,cp,cp]
 rw[e,da,show seg.length=n by omega];exact bn.append (bn.append r1 r2) r3
theorem dw.aeJ (h:dw C g st a w [])(r:kq){DW:ar AC}(eR:st.tZ r=some DW)(off n:Nat)(S5:((DW.drop off).take n).length=n): ∃us f2,bn (cy C g st w) us ((DW.drop off).take n) f2/\f2.Nodup/\(∀b∈f2,b<w.heap.size/\∀k o,¬C.A k b o)/\ ∀(w':World)(hw':Nat->Nat)(seg:ar AC)(jB:dV),jB.Nodup->(∀b∈jB,b<w'.heap.size/\(b∈f2\/w.heap.size<=b))->Fr (λb=>b∈f2) w w'-> (∀b,b<w.heap.size->b∉f2->hw' b=g.hw b)->(∀c',(cy C g st w).Le c'->c'.w=w'->c'.hw=hw'->bn c' us seg jB)-> ∃g',dw C g' {st.qb r (da DW off seg)with ep:=st.ep+1} a w' []:=by
 have core:∀(o:jc),¬cX (some o)->∀{vs:ic}{fp:dV},bn (cy C g st w) vs DW fp->fp.Nodup->(∀b∈fp,g.dJ b=some o)->
  ∃us f1 f2 f3,fp=f1++f2++f3/\bn (cy C g st w) us ((DW.drop off).take n) f2/\f2.Nodup/\(∀b∈f2,b<w.heap.size/\∀k o,¬C.A k b o)/\
   ∀(w':World)(hw':Nat->Nat)(st':AS)(seg:ar AC)(jB:dV),st'.ep=st.ep+1->st'.iss=st.iss->(∀s,gx st s->gx st' s)->jB.Nodup->(∀b∈jB,b<w'.heap.size/\(b∈f2\/w.heap.size<=b))->Fr (λb=>b∈f2) w w'->
    (∀b,b<w.heap.size->b∉f2->hw' b=g.hw b)->(∀c',(cy C g st w).Le c'->c'.w=w'->c'.hw=hw'->bn c' us seg jB)->
    bn (cy C (g.wrote o (f1++jB++f3) hw') st' w') vs (da DW off seg) (f1++jB++f3):=by
  intro o Mf vs fp hr hn hl
  obtain⟨f1,f2,f3,rfl,r1,r2,r3⟩:=hr.mid off n
  have BZ:=hn
  rw[aN]at BZ
  have n2:=aB.1 (aB.1 BZ).2.1
  refine⟨_,f1,f2,f3,rfl,r2,n2.1,λb hb=>⟨(h.fA b o (hl b (by simp[hb]))).1,λk q=>h.Lr (hl b (by simp[hb])) k q⟩,?_⟩
  intro w' hw' st' seg jB xQ Gv qR EA og gM BX GZ
  obtain⟨hle,_,_,hk,_⟩:=h.Ns o Mf hn hl xQ Gv qR EA og gM BX
  exact Jv rfl (by rw[r2.length];exact S5) (r1.mono hle λb hb=>hk b (by simp[hb])) (GZ _ hle rfl rfl) (r3.mono hle λb hb=>hk b (by simp[hb]))
 cases r with
 |slot s j=>
  simp only[AS.tZ]at eR;cases hg:st.get s with
  |vQ ts=>rw[hg]at eR;cases eR
  |val gg cs=>
   rw[hg]at eR;cases eR;have aqK:s<st.slots.length\/¬s<st.slots.length:=bQ s st.slots.length|>.imp id Nat.not_lt.2;obtain⟨fp,hr,hn,hl⟩:=h.slot s;rw[hg]at hr;obtain⟨vs,ee,hr⟩:=hr;obtain⟨us,f1,f2,f3,rfl,Qq,CQ,Gu,lD⟩:=core (.slot s) (by simp[fz]) hr hn hl;refine⟨us,f2,Qq,CQ,Gu,?_⟩;intro w' hw' seg jB EA og gM BX GZ;let st':AS:={st.qb (.slot s j) (da DW off seg)with ep:=st.ep+1}
   have kb:st'={st with slots:=st.slots.set s (.val gg (da DW off seg)),ep:=st.ep+1}:=by show({st.qb (.slot s j) (da DW off seg)with ep:=st.ep+1}:AS)=_;simp only[AS.qb,hg,AS.put,eV]
   have P9:∀t,gx st t->gx st' t:=λt ht=>by rw[kb];exact ht
   obtain⟨hle,Jg,hll,_,hk1,_,Je,GW⟩:=h.Ns (.slot s) (by simp[fz]) hn hl (st':=st') rfl (by rw[kb]) P9 EA og gM BX;have dC:=lD w' hw' st' seg jB rfl (by rw[kb]) P9 EA og gM BX GZ;refine⟨_,h.step (λx=>¬cX (some x)/\x≠ .slot s) hle h.defers ?_ ?_ Je GW (λb x hk hx=>hk1 b x hk.1 hk.2 hx) ?_ ?_ (λk u bv hk=>by simp at hk) (.inl ⟨⟨by simp[fz],by simp⟩,by show st'.io=st.io;rw[kb]⟩)⟩;show _=st'.slots.length;rw[kb];simpa using h.size;show st'.boxes.length=st'.slots.length;rw[kb];simpa using h.bsize;intro i av hi;have rF:(st.slots.set s (.val gg (da DW off seg)))[i]?=some av:=by have:st'.slots[i]?=some av:=hi;rw[kb]at this;exact this
   by_cases X6:i=s;subst X6;rw[bk]at rF;simp only[bL]at rF;split at rF;simp at rF;subst rF;exact .inr ⟨_,⟨vs,ee,dC⟩,Jg,hll⟩;cases rF;rw[aO (cG X6)]at rF;exact .inl ⟨⟨by simp[fz],by simpa using X6⟩,rF,rfl⟩;intro t na hb;have gH:st.boxes[t]?=some (some na):=by have:st'.boxes[t]?=some (some na):=hb;rw[kb]at this;exact this
   exact .inl ⟨⟨by simp[fz],by simp⟩,gH,rfl⟩
 |box s j=>
  have jA:st.boxes[s]?=some (some DW):=by simp only[AS.tZ,dA]at eR;cases hb:st.boxes[s]? with|none=>simp[hb]at eR|some q=>rw[hb]at eR;simp at eR;rw[eR]
  have xW:s<st.boxes.length:=(aD.1 jA).1;obtain⟨arr,T,fr,fp,jr,qS,hr,hn,tc,hl,Ih,Ix⟩:=h.boxes s DW jA;obtain⟨us,f1,f2,f3,rfl,Qq,CQ,Gu,lD⟩:=core (.box s) (by simp[fz]) hr hn hl;refine⟨us,f2,Qq,CQ,Gu,?_⟩;intro w' hw' seg jB EA og gM BX GZ;let st':AS:={st.qb (.box s j) (da DW off seg)with ep:=st.ep+1}
  have kb:st'={st with boxes:=st.boxes.set s (some (da DW off seg)),ep:=st.ep+1}:=by show({st.qb (.box s j) (da DW off seg)with ep:=st.ep+1}:AS)=_;simp only[AS.qb,AS.eD,eV]
  have P9:∀t,gx st t->gx st' t:=λt ht=>by rw[kb];obtain⟨c0,Xa⟩:=ht;by_cases qT:s=t;subst qT;exact⟨da DW off seg,by simp[xW]⟩;exact⟨c0,by rw[aO qT];exact Xa⟩
  obtain⟨hle,Jg,hll,_,hk1,hk2,Je,GW⟩:=h.Ns (.box s) (by simp[fz]) hn hl (st':=st') rfl (by rw[kb]) P9 EA og gM BX;have dC:=lD w' hw' st' seg jB rfl (by rw[kb]) P9 EA og gM BX GZ;have Ji:=hk2 (g.β s) Ih tc;refine⟨_,h.step (λx=>¬cX (some x)/\x≠ .box s) hle h.defers ?_ ?_ Je GW (λb x hk hx=>hk1 b x hk.1 hk.2 hx) ?_ ?_ (λk u bv hk=>by simp at hk) (.inl ⟨⟨by simp[fz],by simp⟩,by show st'.io=st.io;rw[kb]⟩)⟩;show _=st'.slots.length;rw[kb];exact h.size;show st'.boxes.length=st'.slots.length;rw[kb];simpa using h.bsize;intro i av hi;have rF:st.slots[i]?=some av:=by have:st'.slots[i]?=some av:=hi;rw[kb]at this;exact this
  exact .inl ⟨⟨by simp[fz],by simp⟩,rF,rfl⟩;intro t na hb;have gH:(st.boxes.set s (some (da DW off seg)))[t]?=some (some na):=by have:st'.boxes[t]?=some (some na):=hb;rw[kb]at this;exact this
  by_cases qT:t=s;subst qT;rw[bk]at gH;simp only[bL,xW]at gH;simp at gH;subst gH;have Ii:g.β t∉f1++jB++f3:=by intro hm;simp only[az]at hm;rcases hm with(hm|hm)|hm;exact tc (by simp[hm]);rcases(og _ hm).2 with h2|h2;exact tc (by simp[h2]);have:=(h.fA _ _ Ih).1;omega;exact tc (by simp[hm])
  exact .inr ⟨arr,T,fr,_,Ji.2.1.trans jr,qS,dC,Jg,Ii,hll,Ji.1,Ji.2.2.trans Ix⟩;rw[aO (cG qT)]at gH;exact .inl ⟨⟨by simp[fz],by simpa using qT⟩,gH,rfl⟩
 |io j=>
  simp only[AS.tZ,aZ]at eR;subst eR;obtain⟨fp,hr,hn,hl⟩:=h.io;obtain⟨us,f1,f2,f3,rfl,Qq,CQ,Gu,lD⟩:=core .io (by simp[fz]) hr hn hl;refine⟨us,f2,Qq,CQ,Gu,?_⟩;intro w' hw' seg jB EA og gM BX GZ;let st':AS:={st.qb (.io j) (da st.io off seg)with ep:=st.ep+1}
  have kb:st'={st with io:=da st.io off seg,ep:=st.ep+1}:=rfl;have P9:∀t,gx st t->gx st' t:=λt ht=>by rw[kb];exact ht
  obtain⟨hle,Jg,hll,_,hk1,_,Je,GW⟩:=h.Ns .io (by simp[fz]) hn hl (st':=st') rfl (by rw[kb]) P9 EA og gM BX;have dC:=lD w' hw' st' seg jB rfl (by rw[kb]) P9 EA og gM BX GZ;refine⟨_,h.step (λx=>¬cX (some x)/\x≠ .io) hle h.defers ?_ ?_ Je GW (λb x hk hx=>hk1 b x hk.1 hk.2 hx) ?_ ?_ (λk u bv hk=>by simp at hk) (.inr ⟨_,dC,Jg,hll⟩)⟩;exact h.size;exact h.bsize;intro i av hi;exact .inl ⟨⟨by simp[fz],by simp⟩,hi,rfl⟩;intro t na hb;exact .inl ⟨⟨by simp[fz],by simp⟩,hb,rfl⟩
theorem IJ:∀(os ss:ar AC){r:ar AC},mQ os ss=some r->ss.length=os.length:=by
 intro os
 induction os with
 |nil=>intro ss r h;cases ss with
  |nil=>rfl
  |cons _ _=>simp[mQ]at h
 |cons o os ih=>
  intro ss r h
  cases ss with
  |nil=>unfold mQ at h;split at h<;>first|contradiction|cases h
  |cons s ss=>
   unfold mQ at h
   split at h
   ·contradiction
   ·rename_i h1 h2
    injection h1 with h1 Om;subst Om
    injection h2 with h2 Un;subst Un
    rw[Bool.cond_eq_ite]at h
    split at h
    ·obtain⟨r',hr,h⟩:=aL.1 h
     simp[ih _ hr]
    ·cases h
   all_goals first
    |cases h
    |(rename_i h1 h2
      injection h1 with h1 Om;subst Om
      injection h2 with h2 Un;subst Un
      obtain⟨r',hr,h⟩:=aL.1 h
      simp[ih _ hr])
theorem Lg (h:dw C g st a w []):∀(xs:ar Operand),xs.all (λx=>(st.rd x).gu)=true->nb A w (xs.map a.eval) (xs.map st.rd)
 |[],_=>trivial
 |x::xs,hf=>by simp only[bN,ah]at hf;exact⟨D7 (h.rd x) hf.1,Lg h xs hf.2⟩
theorem acp {w:World}{e:CT}{v:Value}{xs:ar e.D}{Z3:dV}(h:eo hw w (.sl e) [v] xs Z3){n:Nat}{x:e.D}(hx:xs[n]?=some x): ∃b o0 cap arr T fr f1 fx f3,v=.slice (some ⟨b,o0,none⟩) xs.length cap/\w.heap[b]?=some (.cells arr T fr)/\ eo hw w e ((arr.toList.drop (o0+n*e.size)).take e.size) x fx/\Z3=b::(f1++fx++f3)/\ ∀(w':World)(hw':Nat->Nat)(x':e.D)(fx':dV),(∀b'∈b::(f1++f3),w'.heap[b']?=w.heap[b']?/\hw' b'=hw b')-> eo hw' w' e ((arr.toList.drop (o0+n*e.size)).take e.size) x' fx'->eo hw' w' (.sl e) [v] (xs.set n x') (b::(f1++fx'++f3)):=by
 obtain⟨u,hu,h⟩:=h;simp at hu;subst hu;have JD:n<xs.length:=(aD.1 hx).1;rcases h with⟨⟨_,rfl⟩,rfl,rfl⟩|⟨b,o0,cap,arr,T,fr,fps,rfl,hb,qS,hs,hc,hh,rfl,hl,hr⟩;simp at hx;have No:fps[n]?=some fps[n]:=al (by omega);have Ig:=C3 No;refine⟨b,o0,cap,arr,T,fr,(fps.take n).flatten,fps[n],(fps.drop (n+1)).flatten,rfl,hb,hr n x _ hx No,by rw[Ig.1],?_⟩;intro w' hw' x' fx' hk eR;have Ri:=hk b (by simp);refine⟨_,rfl,.inr ⟨b,o0,cap,arr,T,fr,fps.set n fx',by simp,Ri.1.trans hb,qS,hs,by simpa using hc,by rw[Ri.2];simpa using hh,by rw[Ig.2],by simp[hl],?_⟩⟩;intro i y f hy hf;by_cases uu:i=n;subst uu;rw[bk]at hy hf;simp only[bL,JD]at hy;simp only[bL]at hf;rw[zip]at hf;simp at hy hf;subst hy;subst hf;exact eR;rw[aO (cG uu)]at hy hf;refine eo.mono (hr i y f hy hf) (λb' adW=>hk b' (ec _ ?_));have Ov:i<fps.length:=(aD.1 hf).1;have hfi:fps[i]=f:=by rw[al Ov]at hf;simpa using hf
 rcases Nat.lt_or_gt_of_ne uu with gV|hgt;refine bg _ (List.mem_flatten.2 ⟨f,?_,adW⟩);rw[List.mem_take_iff_getElem];exact⟨i,by omega,hfi⟩;refine ba _ (List.mem_flatten.2 ⟨f,?_,adW⟩);rw[List.mem_drop_iff_getElem];exact⟨i-(n+1),by omega,by rw[<-hfi];congr 1;omega⟩
theorem bn.single {vs:ic}(h:bn c vs [x] fp):∃v,vs=[v]/\gI c v x fp:=by cases vs with|nil=>exact h.elim|cons v vs=>obtain⟨f1,f2,rfl,h1,h2⟩:=h;cases vs with|nil=>cases h2;exact⟨v,rfl,by simpa using h1⟩|cons _ _=>exact h2.elim
theorem af6 {g:Bool}{v:Value}{a b:ic}(h:Cut g v a)(k:Cut g v b):b=a:=by cases g with|true=>simp only[Cut,bL]at h k;have:=h.symm.trans k;simp at this;exact this.symm|false=>simp only[Cut]at h k;simp at h k;rw[h,k]
theorem agH (Ag:∀f,kV P f (Γ f)){o':Oper}(ho:o'.op=.call {callee:=.value f,args,argTypes:=ts})(hg:dw C g st a w [])(hf:st.rd f=.val false [.fn k])(JX:(Γ k).io=true){x0:Operand}{xs:ar Operand}(fb:args.toList=x0::xs){gg:Bool}(Uq:st.rd x0=.val gg cs){K:AS->aw R}(hk:RQ Γ o' k gg cs xs st K=some r)(next:Act->World->Prop)(Q:Exit->Act->World->Prop)(fO:∀st' a' w',nt C st' a' w'->K st'=some r->next a' w'):o'.wp P a w next Q:=by
 have Gz:=hg.rd f;rw[hf]at Gz;have Gz:=(dQ Gz).1;unfold RQ at hk;split at hk
 ·rename_i ep rt t en i off e1 ws;split at hk
  ·rename_i DW eR;split at hk
   ·rename_i t' e ys hO;cases hc:((ep==st.ep)&&(t'==t)&&(en.size==e.size)&&xs.all (λx=>(st.rd x).gu))with
    |false=>rw[hc]at hk;cases hk
    |true=>
     rw[hc]at hk;simp only[af]at hk;simp only[ah,bD]at hc;obtain⟨⟨⟨xQ,htt⟩,tu⟩,Me⟩:=hc;subst htt;cases EP:idx ys i with
     |none=>rw[EP]at hk;cases hk
     |some x=>
      rw[EP]at hk;simp only[aa]at hk;split at hk
      ·rename_i tg0 e2 zs S5;cases fj:(Γ k).fn (.val gg [.sl (.own none) e2 zs]::xs.map st.rd)with
       |none=>rw[fj]at hk;cases hk
       |some y=>
        rw[fj]at hk;simp only at hk;split at hk
        ·rename_i tg e3 zs' adX;split at hk
         ·rename_i x' hof;cases hfl:((Γ k).av y).gu with
          |false=>rw[hfl]at hk;cases hk
          |true=>
           rw[hfl]at hk;simp only[af]at hk;obtain⟨⟨fn,c,No,JU,vX⟩,_,pY,_⟩:=Ag k _ y fj;have pY:=pY JX gg _ (xs.map st.rd) rfl;have JZ:=hg.rd x0;rw[Uq]at JZ;obtain⟨vs0,ee,GY⟩:=JZ;obtain⟨v,rfl,aja⟩:=GY.single;obtain⟨us,f2,Qq,CQ,Gu,lD⟩:=hg.aeJ rt eR rt.pos 1 (by rw[hO];rfl);rw[hO]at Qq;obtain⟨u,rfl,aei⟩:=Qq.single;obtain⟨n,uu,hxn⟩:=OA EP;obtain⟨b,o0,cap,arr,T,fr,f1,fx,f3,hu,jr,It,ahU,DG⟩:=acp aei.1 hxn;obtain⟨_,n2,b2,o2,aqN,UJ,ahX,JW,_,_,AI⟩:=aja.2.2.2 xQ;have hun:=(aei.2 t' rfl).2;rw[JW,hu]at hun;simp only[Value.slice.injEq,aZ,Addr.mk.injEq]at hun;obtain⟨⟨rfl,rfl,_⟩,_,_⟩:=hun;have Jg:n2=n:=by omega
           subst Jg;rw[tu]at AI;have ahQ:arr[o0+n2*e.size+off]?=some v:=by rw[<-mX jr];exact AI
           have aej:=sA (c:=cy C g st w) It;obtain⟨k1,k2,k3,hkx,r1,r2,r3⟩:=aej.mid off 1;rw[S5]at r2;obtain⟨v',Td,aic⟩:=r2.single;have hvv:v'=v:=by
            have h0:(((arr.toList.drop (o0+n2*e.size)).take e.size).drop off).take 1=[v']:=Td;have h1:((((arr.toList.drop (o0+n2*e.size)).take e.size).drop off).take 1)[0]?=some v':=by rw[h0];rfl
            rw[cU]at h1;simp only[Nat.zero_lt_one,bL]at h1;rw[bJ,cU]at h1;split at h1;rw[bJ,cg,dL,ahQ]at h1;simpa using h1.symm;cases h1
           subst hvv;have agm:=CQ;rw[ahU,hkx]at agm;have tc:=cP.1 agm;have m0:=tc.2;rw[aN]at m0;have m1:=aB.1 m0;have m2:=aB.1 m1.2.1;have m2a:=m2.1;rw[aN]at m2a;have m3:=aB.1 m2a;have m4:=aB.1 m3.2.1;have Z8:∀q∈k2,q∈f2:=λq hq=>by rw[ahU,hkx];simp[hq]
           have C7:=pY (λ_ _ _=>False) w (a.eval x0) (xs.map a.eval) g.hw k2 (λ_ _ _ hf=>hf.elim) ⟨[v'],ee,k2,[],by simp,⟨aic.1,by simp⟩,rfl⟩ m4.1 (λq hq=>(Gu q (Z8 q hq)).1) (Lg hg xs Me);have On:(a.eval x0::xs.map a.eval).toArray=args.map a.eval:=by apply ef;simp[fb]
           rw[On]at C7;have dI:(execOp a.eval o').run P w=.ok (.enter k (args.map a.eval)) w:=by simp[execOp,ho,resolve,Gz,Deferred.ofValue,invoke,callFunc,No,JU];simpa using vX
           unfold Oper.wp;rw[dI,Oper.upon_enter];refine C7.mono ?_;rintro e' w' ⟨vr,hw',frr,iu,rfl,dC,⟨vs1,JV,hbk⟩,ES,CP,gM⟩;show next (a.put o'.dst vr) w'
           have hvs:=af6 ee JV;subst hvs;rw[adX]at hbk;obtain⟨v2,Mh,apY⟩:=hbk.single;simp only[List.cons.injEq,ig]at Mh;subst Mh;have Ap:∀q,q∈f2->q∉k2->q∉iu:=λq hq Ya hm=>by rcases(CP q hm).2 with h2|h2;exact Ya h2;have:=(Gu q hq).1;omega
           have js:∀q,(q=b\/q∈f1\/q∈k1\/q∈k3\/q∈f3)->q∈f2/\q∉k2:=by intro q hq;constructor;rw[ahU,hkx];rcases hq with hq|hq|hq|hq|hq<;>simp[hq];intro h2;rcases hq with hq|hq|hq|hq|hq;subst hq;exact tc.1 (by simp[h2]);exact m1.2.2 q hq q (by simp[h2]) rfl;exact m3.2.2 q hq q (by simp[h2]) rfl;exact m4.2.2 q h2 q hq rfl;exact m2.2.2 q (by simp[h2]) q hq rfl
           have aqd:(b::(f1++(k1++iu++k3)++f3)).Nodup:=by refine cP.2 ⟨λhm=>?_,?_⟩;simp only[az]at hm;rcases hm with(hm|((hm|hm)|hm))|hm;exact tc.1 (by simp[hm]);exact tc.1 (by simp[hm]);exact Ap b (js b (.inl rfl)).1 (js b (.inl rfl)).2 hm;exact tc.1 (by simp[hm]);exact tc.1 (by simp[hm]);have X1:∀q,(q∈f1\/q∈k1\/q∈k3\/q∈f3)->q∉iu:=λq hq=>Ap q (js q (.inr hq)).1 (js q (.inr hq)).2;rw[aN];refine aB.2 ⟨m1.1,aB.2 ⟨?_,m2.2.1,?_⟩,?_⟩;rw[aN];refine aB.2 ⟨m3.1,aB.2 ⟨ES,m4.2.1,?_⟩,?_⟩;rintro c hc d hd rfl;exact X1 c (by simp[hd]) hc;rintro c hc d hd rfl;rcases az.1 hd with hd|hd;exact X1 c (by simp[hc]) hd;exact m3.2.2 c hc c (ba _ hd) rfl;rintro c hc d hd rfl;simp only[az]at hc;rcases hc with(hc|hc)|hc;exact m2.2.2 c (by simp[hc]) c hd rfl;exact X1 c (by simp[hd]) hc;exact m2.2.2 c (by simp[hc]) c hd rfl;rintro c hc d hd rfl;simp only[az]at hd;rcases hd with((hd|hd)|hd)|hd;exact m1.2.2 c hc c (by simp[hd]) rfl;exact X1 c (by simp[hc]) hd;exact m1.2.2 c hc c (by simp[hd]) rfl;exact m1.2.2 c hc c (by simp[hd]) rfl
           have aea:i.toNat=n2:=by omega
           obtain⟨g',mY⟩:=lD w' (λq=>if q∈iu then hw' q else g.hw q) [.sl (.own (some t')) e (ys.set n2 x')] (b::(f1++(k1++iu++k3)++f3)) aqd
            (λq hq=>by
             have hz:=gM.size;by_cases hm:q∈iu;refine⟨(CP q hm).1,?_⟩;rcases(CP q hm).2 with h2|h2;exact .inl (Z8 q h2);exact .inr h2;have h2:q∈f2:=by refine(js q ?_).1;simp only[cv,az]at hq;rcases hq with hq|(hq|((hq|hq)|hq))|hq;exact .inl hq;simp[hq];simp[hq];exact absurd hq hm;simp[hq];simp[hq]
             exact⟨by have:=(Gu q h2).1;omega,.inl h2⟩)
            ⟨gM.os,gM.tape,gM.output,gM.size,λq hq hm=>gM.block q hq (λh2=>hm (Z8 q h2))⟩
            (λq hq hm=>by
             have:q∉iu:=λh2=>by rcases(CP q h2).2 with h3|h3;exact hm (Z8 q h3);omega
             simp[this])
            (λc' hle MT BU=>by
             have mc:∀q,(q=b\/q∈f1\/q∈k1\/q∈k3\/q∈f3)->c'.w.heap[q]?=w.heap[q]?/\c'.hw q=g.hw q:=by intro q hq;have h2:=js q hq;rw[MT,BU];exact⟨gM.block q (Gu q h2.1).1 h2.2,by simp[Ap q h2.1 h2.2]⟩
             have Vj:bn c' [v'] [.sl (.own none) e3 zs'] iu:=by refine⟨iu,[],by simp,⟨?_,by simp⟩,rfl⟩;have h0:eo hw' w' (.sl e3) [v'] zs' iu:=apY.1;refine eo.mono h0 (λq hq=>?_);rw[MT,BU];exact⟨rfl,by simp[hq]⟩
             have J1:=Jv (c':=c') (vs:=(arr.toList.drop (o0+n2*e.size)).take e.size) (us:=[v']) (cs:=cellsOf e (.own none) x) (off:=off) (n:=1) Td.symm rfl (r1.mono hle (λq hq=>mc q (by simp[hq]))) Vj (r3.mono hle (λq hq=>mc q (by simp[hq])));obtain⟨q1,q2,hq,X9,Ya⟩:=ox J1 hof;have hln:((arr.toList.drop (o0+n2*e.size)).take e.size).length=e.size:=eo.length It;rw[cQ (by omega)]at Ya;have aeg:q2=[]:=Ya;subst aeg;rw[bB (by omega)]at X9;rw[bp]at hq;subst hq;have hO':=DG c'.w c'.hw x' _ (λq hq=>mc q (by simp only[cv,az]at hq;rcases hq with hq|hq|hq<;>simp[hq])) X9;refine⟨_,[],by simp,⟨hO',λq hq=>?_⟩,rfl⟩;cases hq;have h1:=aei.2 t' rfl;exact⟨(hle.hdr t' h1.1).1,by rw[(hle.hdr t' h1.1).2];exact h1.2⟩)
           rw[aea]at hk;exact fO _ _ _ ⟨g',mY.quiet o'.dst (D7 dC hfl)⟩ hk
         cases hk
        cases hk
      cases hk
   cases hk
  cases hk
 cases hk
theorem ajj (Ag:∀f,kV P f (Γ f)){o':Oper}(ho:o'.op=.call {callee:=.value f,args,argTypes:=ts})(hg:dw C g st a w [])(hf:st.rd f=.val false [.fn k])(JX:(Γ k).io=true){K:AS->aw R}(hk:ioC Γ o' k args.toList st K=some r)(next:Act->World->Prop)(Q:Exit->Act->World->Prop)(fO:∀st' a' w',nt C st' a' w'->K st'=some r->next a' w'):o'.wp P a w next Q:=by
 have Gz:=hg.rd f;rw[hf]at Gz;have Gz:=(dQ Gz).1;unfold ioC at hk;split at hk
 ·rename_i x0 xs fb;split at hk
  ·rename_i gg cs Uq;split at hk
   ·rename_i rt j Ou;split at hk
    ·rename_i DW eR;split at hk
     ·rename_i na GZ;cases Me:(xs.all λx=>(st.rd x).gu)with
      |false=>rw[Me]at hk;cases hk
      |true=>
       rw[Me]at hk;simp only[af]at hk;cases fj:(Γ k).fn (.val gg na::xs.map st.rd)with
       |none=>rw[fj]at hk;cases hk
       |some y=>
        rw[fj]at hk;simp only[aa]at hk;split at hk
        ·rename_i seg adX;cases hfl:((Γ k).av y).gu with
         |false=>rw[hfl]at hk;cases hk
         |true=>
          rw[hfl]at hk;simp only[af]at hk;obtain⟨⟨fn,c,No,JU,vX⟩,_,pY,_⟩:=Ag k _ y fj;have pY:=pY JX gg na (xs.map st.rd) rfl;have JZ:=hg.rd x0;rw[Uq]at JZ;obtain⟨vs0,ee,GY⟩:=JZ;have S5:=IJ _ _ GZ;obtain⟨us,f2,Qq,CQ,Gu,lD⟩:=hg.aeJ rt eR (rt.pos-j) cs.length S5;have ahO:=Pm (A:=λ_ _ _=>False) _ _ GZ GY Qq;have C7:=pY (λ_ _ _=>False) w (a.eval x0) (xs.map a.eval) g.hw f2 (λ_ _ _ hf=>hf.elim) ⟨vs0,ee,ahO⟩ CQ (λb hb=>(Gu b hb).1) (Lg hg xs Me);have On:(a.eval x0::xs.map a.eval).toArray=args.map a.eval:=by apply ef;simp[fb]
          rw[On]at C7;have dI:(execOp a.eval o').run P w=.ok (.enter k (args.map a.eval)) w:=by simp[execOp,ho,resolve,Gz,Deferred.ofValue,invoke,callFunc,No,JU];simpa using vX
          unfold Oper.wp;rw[dI,Oper.upon_enter];refine C7.mono ?_;rintro e w' ⟨v,hw',fr,iu,rfl,dC,⟨vs1,JV,hbk⟩,ES,CP,gM⟩;show next (a.put o'.dst v) w'
          have hvs:vs1=vs0:=by cases gg with|true=>simp only[Cut,bL]at ee JV;have:=ee.symm.trans JV;simp at this;exact this.symm|false=>simp only[Cut]at ee JV;simp at ee JV;rw[ee,JV]
          subst hvs;let hwn:Nat->Nat:=λb=>if b∈iu then hw' b else g.hw b
          obtain⟨g',mY⟩:=lD w' (λb=>if b∈iu then hw' b else g.hw b) seg iu ES CP gM (λb hb hm=>by
           have:b∉iu:=λhm'=>by rcases(CP b hm').2 with h2|h2;exact hm h2;omega
           simp[this]) (λc' hle MT BU=>by
           refine Wk (A:=λ_ _ _=>False) (hw':=hw') hle _ _ _ adX GY Qq (by rw[MT];exact hbk) (λb hb=>by rw[BU];simp[hb]))
          refine fO _ _ _ ⟨g',mY.quiet o'.dst (D7 dC hfl)⟩ hk
        cases hk
     cases hk
    cases hk
   ·exact agH Ag ho hg hf JX fb Uq hk next Q fO
  cases hk
 cases hk
theorem I2 {A':Rg}{mk:Nat->aw Nat}{k:Bool}(hA:A' true=c.A k):∀{vs:ic}{xs:ar AC}{fp:dV}(j:Nat),bn (eQ A' hw c.w) vs xs fp->xs.all (AC.AF true)=true->
 (∀b∈fp,c.hw b=hw b)->(∀i v,vs[i]?=some v->∀t,mk (j+i)=some t->c.iss t/\v=c.hdr t)->bn c vs (pL k mk j xs) fp
 |[],[],_,_,h,_,_,_=>h
 |v::_,x::_,_,j,h,ko,hh,hm=>by
  obtain⟨f1,f2,rfl,h1,h2⟩:=h;simp only[bN,ah]at ko;refine⟨f1,f2,rfl,?_,I2 hA (j+1) h2 ko.2 (λb hb=>hh b (ba _ hb)) (λi u hu t ht=>hm (i+1) u (by simpa using hu) t (by rwa[show j+(i+1)=j+1+i by omega]))⟩;have BX:∀b∈f1,c.hw b=hw b:=λb hb=>hh b (bg _ hb);have ht:∀t,mk j=some t->c.iss t/\v=c.hdr t:=λt ht=>hm 0 v rfl t ht;have ko:=ko.1;cases x with
  |sl fl e xs=>
   cases fl with
   |own t=>exact⟨eo.mono h1.1 (λb hb=>⟨rfl,BX b hb⟩),ht⟩
   |arg k'=>
    have hk:k'=true:=by simpa[AC.AF]using ko
    subst hk;exact⟨h1.1,by rw[<-hA];exact h1.2⟩
   |loc _ _=>cases ko
   |nest _ _ _ _ _ _=>cases ko
   |part _ _ _ _=>cases ko
   |fe _ _ _=>cases ko
  |int _ _=>exact h1
  |bool _=>exact h1
  |str _=>exact h1
  |fn _=>exact h1
  |jw=>cases ko
  |ptr _ _=>cases ko
  |C1 _ _ _ _ _=>cases ko
  |un=>cases ko
  |bot=>cases ko
 |[],_::_,_,_,h,_,_,_=>h.elim
 |_::_,[],_,_,h,_,_,_=>h.elim
theorem KQ {A':Rg}{w:World}{k:Bool}:∀{cs:ar AC},cs.all (AC.AF k)=true->∀{c:RC}{vs:ic}{fp:dV},bn c vs cs fp->c.w=w->c.hw=hw->A' true=c.A k->bn (eQ A' hw w) vs (cs.map AC.Ub) fp
 |[],_,c,vs,fp,h,_,_,_=>by cases vs with|nil=>exact h|cons _ _=>exact h.elim
 |x::cs,ko,c,vs,fp,h,MT,BU,hA=>by
  cases vs with
  |nil=>exact h.elim
  |cons v vs=>
   obtain⟨f1,f2,rfl,h1,h2⟩:=h;simp only[bN,ah]at ko;refine⟨f1,f2,rfl,?_,KQ ko.2 h2 MT BU hA⟩;have ko:=ko.1;cases x with
   |sl fl e xs=>
    cases fl with
    |own t=>exact⟨by have:=h1.1;rw[MT,BU]at this;exact this,by simp⟩
    |arg k'=>
     have hk:k'=k:=by simpa[AC.AF]using ko
     subst hk;exact⟨h1.1,by have:=h1.2;rw[MT,<-hA]at this;exact this⟩
    |loc _ _=>cases ko
    |nest _ _ _ _ _ _=>cases ko
    |part _ _ _ _=>cases ko
    |fe _ _ _=>cases ko
   |int _ _=>exact h1
   |bool _=>exact h1
   |str _=>exact h1
   |fn _=>exact h1
   |jw=>cases ko
   |ptr _ _=>cases ko
   |C1 _ _ _ _ _=>cases ko
   |un=>cases ko
   |bot=>cases ko
theorem RG (h:dw C g st a w [])(s:Nat){A':Rg}(hA:∀b o,(cy C g st w).S b o/\b<w.heap.size/\g.dJ b≠some (.box s)->A' false b o):∀(xs:ar Operand),xs.all (Eg st)=true->
 nb A' w (xs.map a.eval) (xs.map (Dq st))
 |[],_=>trivial
 |x::xs,hx=>by
  simp only[bN,ah]at hx;refine⟨?_,RG h s hA xs hx.2⟩;have hx:=hx.1;cases x with
  |const _=>exact D7 (h.rd _) hx
  |func _=>exact D7 (h.rd _) hx
  |global _=>exact D7 (h.rd _) hx
  |tmp t=>
   have eR:∀(t0:Nat){e:CT}{v:Value}{xs:ar e.D}{fp:dV},eo g.hw w (.sl e) [v] xs fp->(∀b∈fp,g.dJ b=some (.slot t0))->jd w (A' false) (.sl e) [v] xs:=by
    intro t0 e v xs fp h1 hl;have h3:eo (λb=>if b∈fp then g.hw b else 0) w (.sl e) [v] xs fp:=eo.mono h1 (λb hb=>⟨rfl,by simp[hb]⟩)
    exact eo.rep (λb o ho=>by
     by_cases hb:b∈fp;have ho:o<g.hw b:=by simpa[hb]using ho
     have Rj:=hl b hb;exact hA b o ⟨.inr ho,(h.fA b _ Rj).1,by rw[Rj];simp⟩;simp[hb]at ho) h3
   obtain⟨fp,hr,hn,hl⟩:=h.slot t;simp only[Eg]at hx;show fL _ (a.tmps.getD t undef) (Dq st (.tmp t)) _;simp only[Dq];cases hv:st.get t with
   |vQ _=>rw[hv]at hx;cases hx
   |val gg cs=>
    rw[hv]at hx hr;simp only at hx;obtain⟨vs,ee,hr⟩:=hr
    have key:∀(cs:ar AC)(vs:ic)(fp:dV),(cs.map st.Qw).all AC.K7=true->(∀b∈fp,g.dJ b=some (.slot t))->bn (cy C g st w) vs cs fp->
     bn (eQ A' (λ_=>0) w) vs (cs.map st.Qw) []:=by
     intro cs
     induction cs with
     |nil=>intro vs fp _ _ h;cases vs with
      |nil=>rfl
      |cons _ _=>exact h.elim
     |cons c cs ih=>
      intro vs fp hc hl hr
      cases vs with
      |nil=>exact hr.elim
      |cons v vs=>
       obtain⟨f1,f2,rfl,h1,h2⟩:=hr
       simp only[dZ,bN,ah]at hc
       refine⟨[],[],rfl,?_,ih vs f2 hc.2 (λb hb=>hl b (ba _ hb)) h2⟩
       have hc:=hc.1
       cases c with
       |sl fl e xs=>
        cases fl with
        |own tag=>exact⟨rfl,eR t h1.1 (λb hb=>hl b (bg _ hb))⟩
        |arg k=>exact⟨rfl,jd.mono (λb o u hs hu=>⟨hA b o ⟨.inl ⟨k,hs⟩,World.block_lt_of_cell? w _ hu,λhb=>h.Lr hb k o hs⟩,hu⟩) h1.2⟩
        |loc ep pv=>
         cases pv with
         |none=>cases hc
         |some q=>
          obtain⟨r,tg⟩:=q
          cases r with
          |box _ _=>cases hc
          |io _=>cases hc
          |slot b j=>
           have Mh:=(h1.2.2.2.2 (.slot b j) tg rfl).2
           simp only[AS.Qw]at hc⊢
           cases Vm:st.eM (.slot b j)with
           |none=>rw[Vm]at hc;cases hc
           |some c0=>
            rw[Vm]at hc
            split at hc
            ·rename_i t' e' ys Xa
             split at hc
             ·rename_i ht
              subst ht
              cases Xa
              rw[aG rfl]
              obtain⟨fp2,Qo,_,Aq⟩:=h.slot b
              simp only[AS.eM]at Vm
              cases hgb:st.get b with
              |vQ _=>rw[hgb]at Vm;cases Vm
              |val g2 Gy=>
               rw[hgb]at Vm Qo
               simp only at Vm
               obtain⟨vs2,_,Qo⟩:=Qo
               rw[dA]at Vm
               obtain⟨v2,f3,_,Ox,pZ⟩:=Qo.get j _ Vm
               have aqq:v=v2:=by have:=(Ox.2 t' rfl).2;rw[Mh,this]
               rw[aqq]
               exact⟨rfl,eR b Ox.1 (λb' gH=>Aq b' (pZ b' gH))⟩
             ·cases hc
            ·cases hc
        |nest _ _ _ _ _ _=>cases hc
        |part _ _ _ _=>cases hc
        |fe _ _ _=>cases hc
       |int _ _=>exact⟨h1.1,rfl⟩
       |bool _=>exact⟨h1.1,rfl⟩
       |str _=>exact⟨h1.1,rfl⟩
       |fn _=>exact⟨h1.1,rfl⟩
       |jw=>cases hc
       |ptr _ _=>cases hc
       |C1 _ _ _ _ _=>cases hc
       |un=>cases hc
       |bot=>cases hc
    exact⟨vs,ee,key cs vs fp hx hl hr⟩
theorem dw.af1 (h:dw C g st a w [])(s:Nat)(jA:st.boxes[s]?=some (some cs)): ∃arr T fr fp,w.heap[g.β s]?=some (.cells arr T fr)/\qc arr fr/\bn (cy C g st w) arr.toList cs fp/\fp.Nodup/\g.β s∉fp/\(∀b∈fp,b<w.heap.size)/\g.hw (g.β s)=0/\(∀b,b=g.β s\/b∈fp->g.dJ b=some (.box s))/\ ∀(w':World)(hw':Nat->Nat)(iV:Array Value)(T':TypeId)(Re:Nat×Nat)(na:ar AC)(iu fv:dV)(A':Rg)(k:Bool),Fr (λb=>b=g.β s\/b∈fp) w w'->w'.heap[g.β s]?=some (.cells iV T' Re)->qc iV Re-> A' true=C.A k->bn (eQ A' hw' w') iV.toList na iu->na.all (AC.AF true)=true->iu.Nodup->g.β s∉iu->(∀b∈iu,b<w'.heap.size/\(b∈fp\/w.heap.size<=b))-> (∀b∈fv,b<w'.heap.size/\(b∈fp\/w.heap.size<=b)/\b∉iu/\b≠g.β s)-> ∃g',dw C g' (ZQ st s (pL k (st.ik (some s)) 0 na)) a w' []/\(∀b∈fv,g'.dJ b=some (.hand 0)/\g'.hw b=hw' b)/\∀b,b<w.heap.size->g.dJ b≠some (.box s)->g'.hw b=g.hw b:=by
 obtain⟨arr,T,fr,fp,jr,qS,hr,hn,tc,hl,Ih,Ix⟩:=h.boxes s cs jA;have xW:s<st.boxes.length:=(aD.1 jA).1;have Ow:∀b,b=g.β s\/b∈fp->g.dJ b=some (.box s):=by rintro b (rfl|hb);exact Ih;exact hl b hb
 refine⟨arr,T,fr,fp,jr,qS,hr,hn,tc,λb hb=>(h.fA b _ (hl b hb)).1,Ix,Ow,?_⟩;intro w' hw' iV T' Re na iu fv A' k gM JT Vq hA' vu ah7 BZ Ii Lj Gz;let bx':ar AC:=pL k (st.ik (some s)) 0 na;let st':AS:=ZQ st s bx';let hw2:Nat->Nat:=λb=>if b∈iu\/b∈fv then hw' b else if b=g.β s then 0 else g.hw b
 let aeL:Nat->aw jc:=λb=>if b=g.β s\/b∈iu then some (.box s) else if b∈fv then some (.hand 0) else g.dJ b
 let g':Gh:=⟨hw2,g.β,aeL,qQ g.hdr (st.ik (some s)) iV.toList⟩
 have vk:st'.boxes=st.boxes.set s (some bx'):=by show((st.eD s (some bx')).fu (some s)).boxes=_;rw[CX,ks]
 have Oz:st'.slots=st.slots:=by show((st.eD s (some bx')).fu (some s)).slots=_;rw[vJ];rfl
 have JX:st'.io=st.io:=by show((st.eD s (some bx')).fu (some s)).io=_;rw[Kk];rfl
 have Gv:∀t,lI st t->lI st' t:=λt ht=>by have h1:lI (st.eD s (some bx')) t:=ht;exact E3 (d:=some s) h1
 have P9:∀t,gx st t->gx st' t:=by rintro t ⟨c0,Xa⟩;by_cases qT:s=t;subst qT;exact⟨bx',by rw[vk];simp[xW]⟩;exact⟨c0,by rw[vk,aO qT];exact Xa⟩
 have Vj:∀b,b<w.heap.size->g.dJ b≠some (.box s)->b∉iu/\b∉fv/\b≠g.β s:=by intro b hb Rj;refine⟨λhm=>?_,λhm=>?_,λhm=>Rj (Ow b (.inl hm))⟩;rcases(Lj b hm).2 with h2|h2;exact Rj (Ow b (.inr h2));omega;rcases(Gz b hm).2.1 with h2|h2;exact Rj (Ow b (.inr h2));omega
 have mc:∀b x,x≠ .box s->g.dJ b=some x->aeL b=some x/\w'.heap[b]?=w.heap[b]?/\hw2 b=g.hw b:=by intro b x hx hb;have Ir:=(h.fA b x hb).1;have hnm:¬(b=g.β s\/b∈fp):=λhm=>hx (by have:=Ow b hm;rw[hb]at this;simpa using this);obtain⟨n1,n2,n3⟩:=Vj b Ir (by rw[hb];simpa using hx);refine⟨?_,gM.block b Ir hnm,?_⟩;show(if b=g.β s\/b∈iu then _ else if b∈fv then _ else _)=_;rw[aF (by rintro(h1|h1);exact n3 h1;exact n1 h1),aF n2];exact hb;show(if b∈iu\/b∈fv then _ else if b=g.β s then _ else _)=_;rw[aF (by rintro(h1|h1);exact n1 h1;exact n2 h1),aF n3]
 have X0:∀k b o u,C.A k b o->w.cell? ⟨b,o,none⟩=some u->w'.cell? ⟨b,o,none⟩=some u:=by intro k b o u hA hu;have hb:b<w.heap.size:=World.block_lt_of_cell? w _ hu;rw[World.cell?_of_block (a:=⟨b,o,none⟩) (gM.block b hb (λhm=>h.Lr (Ow b hm) k o hA))];exact hu
 have hle:(cy C g st w).Le (cy C g' st' w'):=⟨rfl,λt ht=>⟨Gv t ht,BW ht⟩,X0,Nat.le_succ _,λt ht=>⟨P9 t ht,rfl⟩,λhe=>absurd he (Nat.succ_ne_self _)⟩
 refine⟨g',h.step (λx=>x≠ .box s) hle h.defers ?_ ?_ ?_ ?_ (λb x hk hb=>mc b x hk hb) ?_ ?_ (λk u bv hk=>by simp at hk) (.inl ⟨by simp,JX⟩),λb hb=>?_,λb hb Rj=>?_⟩;rw[Oz];exact h.size;rw[Oz,vk,aH];exact h.bsize;refine h.frame.trans gM (λb hb hm=>?_);rcases(h.fA b _ (Ow b hm)).2 with h2|h2;omega;exact h2;intro b x hx;have AJ:(if b=g.β s\/b∈iu then some (jc.box s) else if b∈fv then some (.hand 0) else g.dJ b)=some x:=hx;have hz:=gM.size;have hold:b∈fp\/w.heap.size<=b->C.w0.heap.size<=b\/C.M b:=by rintro(h2|h2);exact(h.fA b _ (hl b h2)).2;exact .inl (aE h.frame.size h2)
 split at AJ;rename_i hm;rcases hm with rfl|hm;have:=h.fA _ _ Ih;exact⟨by omega,this.2⟩;exact⟨(Lj b hm).1,hold (Lj b hm).2⟩;split at AJ;rename_i hm;exact⟨(Gz b hm).1,hold (Gz b hm).2.1⟩;have:=h.fA b x AJ;exact⟨by omega,this.2⟩;intro i av hi;rw[Oz]at hi;exact .inl ⟨by simp,hi,rfl⟩;intro t Gy hb;rw[vk]at hb;by_cases qT:t=s;subst qT;rw[bk]at hb;simp only[bL,xW]at hb;simp at hb;subst hb;refine .inr ⟨iV,T',Re,iu,JT,Vq,?_,BZ,Ii,λb hb=>?_,?_,?_⟩
 have:=I2 (c:=cy C g' st' w') (A':=A') (hw:=hw') (mk:=st.ik (some t)) (k:=k) hA' 0 (vs:=iV.toList) (xs:=na) (fp:=iu) vu ah7
  (λb hb=>by show(if b∈iu\/b∈fv then _ else _)=_;rw[aG (.inl hb)])
  (λi u hu q hq=>by
   rw[cm]at hq;have hm:=pT hq;have Z9:lI st' q:=by have h1:st.ik (some t) i=some q:=hq;have h2:(st.eD t (some bx')).ik (some t) i=some q:=h1;exact(pT h2).2.1
   exact⟨Z9,BV hu hq⟩)
 exact this;show(if b=g.β t\/b∈iu then _ else _)=_;rw[aG (.inr hb)];show(if g.β t=g.β t\/g.β t∈iu then _ else _)=_;rw[aG (.inl rfl)];show(if g.β t∈iu\/g.β t∈fv then _ else if g.β t=g.β t then _ else _)=_;rw[aF (by rintro(h1|h1);exact Ii h1;exact(Gz _ h1).2.2.2 rfl),aG rfl];rw[aO (cG qT)]at hb;exact .inl ⟨by simpa using qT,hb,rfl⟩;obtain⟨_,_,h3,h4⟩:=Gz b hb;refine⟨?_,?_⟩;show(if b=g.β s\/b∈iu then _ else if b∈fv then _ else _)=_;rw[aF (by rintro(h1|h1);exact h4 h1;exact h3 h1),aG hb];show(if b∈iu\/b∈fv then _ else _)=_;rw[aG (.inr hb)];obtain⟨n1,n2,n3⟩:=Vj b hb Rj;show(if b∈iu\/b∈fv then _ else if b=g.β s then _ else _)=_;rw[aF (by rintro(h1|h1);exact n1 h1;exact n2 h1),aF n3]
theorem Sz:∀{vs:ic}{cs:ar AC}{fp:dV},bn c vs cs fp->cs.all AC.JG=true->fp=[]
 |[],[],_,h,_=>h
 |[],_::_,_,h,_=>h.elim
 |_::_,[],_,h,_=>h.elim
 |v::vs,x::cs,fp,h,hx=>by
  obtain⟨f1,f2,rfl,h1,h2⟩:=h;simp only[bN,ah]at hx;rw[Sz h2 hx.2,bp];have hx:=hx.1;cases x with
  |sl fl e xs=>cases fl<;>first|exact h1.1|cases hx
  |int k n=>exact h1.2
  |bool b=>exact h1.2
  |str s=>exact h1.2
  |fn f=>exact h1.2
  |jw=>cases hx
  |ptr _ _=>cases hx
  |C1 _ _ _ _ _=>cases hx
  |un=>cases hx
  |bot=>cases hx
theorem dw.adp (h:dw C g st a w [])(s:Nat)(jA:st.boxes[s]?=some (some cs))(Li:cs.all AC.JG=true): ∀(w':World)(hw':Nat->Nat)(iV:Array Value)(T':TypeId)(Re:Nat×Nat)(na:ar AC)(iu fv:dV)(A':Rg)(k:Bool),Fr (λb=>b=g.β s) w w'->w'.heap[g.β s]?=some (.cells iV T' Re)->qc iV Re-> A' true=C.A k->bn (eQ A' hw' w') iV.toList na iu->na.all (AC.AF true)=true->iu.Nodup->g.β s∉iu->(∀b∈iu,b<w'.heap.size/\w.heap.size<=b)-> (∀b∈fv,b<w'.heap.size/\w.heap.size<=b/\b∉iu/\b≠g.β s)-> ∃g',dw C g' (st.eD s (some (pL k (λ_=>none) 0 na))) a w' []/\(∀b∈fv,g'.dJ b=some (.hand 0)/\g'.hw b=hw' b)/\∀b,b<w.heap.size->g.dJ b≠some (.box s)->g'.hw b=g.hw b:=by
 obtain⟨arr,T,fr,fp,jr,qS,hr,hn,tc,hl,Ih,Ix⟩:=h.boxes s cs jA;have ahT:fp=[]:=Sz hr Li;subst ahT;have xW:s<st.boxes.length:=(aD.1 jA).1;intro w' hw' iV T' Re na iu fv A' k gM JT Vq hA' vu ah7 BZ Ii Lj Gz;let bx':ar AC:=pL k (λ_=>none) 0 na;let st':AS:=st.eD s (some bx');let hw2:Nat->Nat:=λb=>if b∈iu\/b∈fv then hw' b else if b=g.β s then 0 else g.hw b
 let aeL:Nat->aw jc:=λb=>if b=g.β s\/b∈iu then some (.box s) else if b∈fv then some (.hand 0) else g.dJ b
 let g':Gh:=⟨hw2,g.β,aeL,g.hdr⟩
 have vk:st'.boxes=st.boxes.set s (some bx'):=by show(st.eD s (some bx')).boxes=_;rw[ks]
 have P9:∀t,gx st t->gx st' t:=by rintro t ⟨c0,Xa⟩;by_cases qT:s=t;subst qT;exact⟨bx',by rw[vk];simp[xW]⟩;exact⟨c0,by rw[vk,aO qT];exact Xa⟩
 have hold:∀b,b<w.heap.size->b∉iu/\b∉fv:=by intro b hb;refine⟨λhm=>?_,λhm=>?_⟩;have:=(Lj b hm).2;omega;have:=(Gz b hm).2.1;omega
 have BX:∀b,b<w.heap.size->b≠g.β s->hw2 b=g.hw b:=by intro b hb ET;show(if b∈iu\/b∈fv then _ else if b=g.β s then _ else _)=_;rw[aF (by rintro(h1|h1);exact(hold b hb).1 h1;exact(hold b hb).2 h1),aF ET]
 have mc:∀b x,x≠ .box s->g.dJ b=some x->aeL b=some x/\w'.heap[b]?=w.heap[b]?/\hw2 b=g.hw b:=by intro b x hx hb;have Ir:=(h.fA b x hb).1;have ET:b≠g.β s:=λhm=>hx (by rw[hm,Ih]at hb;simpa using hb.symm);refine⟨?_,gM.block b Ir ET,BX b Ir ET⟩;show(if b=g.β s\/b∈iu then _ else if b∈fv then _ else _)=_;rw[aF (by rintro(h1|h1);exact ET h1;exact(hold b Ir).1 h1),aF (hold b Ir).2];exact hb
 have X0:∀k b o u,C.A k b o->w.cell? ⟨b,o,none⟩=some u->w'.cell? ⟨b,o,none⟩=some u:=by intro k b o u hA hu;have hb:b<w.heap.size:=World.block_lt_of_cell? w _ hu;rw[World.cell?_of_block (a:=⟨b,o,none⟩) (gM.block b hb (λhm=>h.Lr (by rw[hm];exact Ih) k o hA))];exact hu
 have hle:(cy C g st w).Le (cy C g' st' w'):=by
  refine⟨rfl,λt ht=>⟨ht,rfl⟩,X0,aU _,λt ht=>⟨P9 t ht,rfl⟩,λ_ b o u ho hu=>?_⟩;have hb:b<w.heap.size:=World.block_lt_of_cell? w _ hu;have MV:o<g.hw b:=ho;have ET:b≠g.β s:=λe=>by rw[e,Ix]at MV;omega
  refine⟨by show o<hw2 b;rw[BX b hb ET];exact MV,?_⟩;show w'.cell? ⟨b,o,none⟩=some u;rw[World.cell?_of_block (a:=⟨b,o,none⟩) (gM.block b hb ET)];exact hu
 refine⟨g',h.step (λx=>x≠ .box s) hle h.defers h.size ?_ ?_ ?_ (λb x hk hb=>mc b x hk hb) ?_ ?_ (λk u bv hk=>by simp at hk) (.inl ⟨by simp,rfl⟩),λb hb=>?_,λb hb Rj=>?_⟩;rw[vk,aH];exact h.bsize;refine h.frame.trans gM (λb hb hm=>?_);have hm:b=g.β s:=hm;subst hm;rcases(h.fA _ _ Ih).2 with h2|h2;omega;exact h2;intro b x hx;have AJ:(if b=g.β s\/b∈iu then some (jc.box s) else if b∈fv then some (.hand 0) else g.dJ b)=some x:=hx;have hz:=gM.size;split at AJ;rename_i hm;rcases hm with rfl|hm;have:=h.fA _ _ Ih;exact⟨by omega,this.2⟩;exact⟨(Lj b hm).1,.inl (aE h.frame.size (Lj b hm).2)⟩;split at AJ;rename_i hm;exact⟨(Gz b hm).1,.inl (aE h.frame.size (Gz b hm).2.1)⟩;have:=h.fA b x AJ;exact⟨by omega,this.2⟩;intro i av hi;exact .inl ⟨by simp,hi,rfl⟩;intro t Gy hb;rw[vk]at hb;by_cases qT:t=s;subst qT;rw[bk]at hb;simp only[bL,xW]at hb;simp at hb;subst hb;refine .inr ⟨iV,T',Re,iu,JT,Vq,?_,BZ,Ii,λb hb=>?_,?_,?_⟩;have:=I2 (c:=cy C g' st' w') (A':=A') (hw:=hw') (mk:=λ_=>none) (k:=k) hA' 0 (vs:=iV.toList) (xs:=na) (fp:=iu) vu ah7 (λb hb=>by show(if b∈iu\/b∈fv then _ else _)=_;rw[aG (.inl hb)]) (λi u hu q hq=>by cases hq);exact this;show(if b=g.β t\/b∈iu then _ else _)=_;rw[aG (.inr hb)];show(if g.β t=g.β t\/g.β t∈iu then _ else _)=_;rw[aG (.inl rfl)];show(if g.β t∈iu\/g.β t∈fv then _ else if g.β t=g.β t then _ else _)=_;rw[aF (by rintro(h1|h1);exact Ii h1;exact(Gz _ h1).2.2.2 rfl),aG rfl];rw[aO (cG qT)]at hb;exact .inl ⟨by simpa using qT,hb,rfl⟩;obtain⟨_,_,h3,h4⟩:=Gz b hb;refine⟨?_,?_⟩;show(if b=g.β s\/b∈iu then _ else if b∈fv then _ else _)=_;rw[aF (by rintro(h1|h1);exact h4 h1;exact h3 h1),aG hb];show(if b∈iu\/b∈fv then _ else _)=_;rw[aG (.inr hb)];exact BX b hb (λe=>Rj (by rw[e];exact Ih))
theorem ahJ (Ag:∀f,kV P f (Γ f)){o':Oper}(ho:o'.op=.call {callee:=.value f,args,argTypes:=ts})(hg:dw C g st a w [])(hf:st.rd f=.val false [.fn k])(jA:(Γ k).bx=true){K:AS->aw R}(hk:vS Γ o' k args.toList st K=some r)(next:Act->World->Prop)(Q:Exit->Act->World->Prop)(fO:∀st' a' w',nt C st' a' w'->K st'=some r->next a' w'):o'.wp P a w next Q:=by
 have Gz:=hg.rd f;rw[hf]at Gz;have Gz:=(dQ Gz).1;unfold vS at hk;split at hk
 ·rename_i x0 xs fb;split at hk
  ·rename_i s Uq;split at hk
   ·rename_i cs Uo;have hb:st.boxes[s]?=some (some cs):=by rw[dA]at Uo;cases hq:st.boxes[s]? with|none=>rw[hq]at Uo;simp at Uo|some q=>rw[hq]at Uo;simp at Uo;rw[Uo]
    cases hc:(cs.all (AC.AF (FZ cs))&&xs.all (Eg st))with
    |false=>rw[hc]at hk;cases hk
    |true=>
     rw[hc]at hk;simp only[af]at hk;simp only[ah]at hc;cases fj:(Γ k).fn (.val true (cs.map AC.Ub)::xs.map (Dq st))with
     |none=>rw[fj]at hk;cases hk
     |some y=>
      rw[fj]at hk;simp only[aa]at hk;cases XZ:(((Γ k).back y).all (AC.AF true)&&((Γ k).av y).aca)with
      |false=>rw[XZ]at hk;cases hk
      |true=>
       rw[XZ]at hk;simp only[af]at hk;simp only[ah]at XZ;obtain⟨⟨fn,c,No,JU,vX⟩,_,_,pY,_⟩:=Ag k _ y fj;have pY:=pY jA _ _ rfl;have JZ:=hg.rd x0;rw[Uq]at JZ;have vO:=Dv JZ;obtain⟨arr,T,fr,fp,jr,qS,dC,hn,tc,gV,Ix,Gw,lD⟩:=hg.af1 s hb;let A':Rg:=λq b o=>bif q then C.A (FZ cs) b o else((cy C g st w).S b o/\b<w.heap.size/\g.dJ b≠some (.box s))
       have hA':∀q b' o,A' q b' o->b'<w.heap.size/\b'≠g.β s/\b'∉fp:=by
        intro q b' o hq;have key:b'<w.heap.size/\g.dJ b'≠some (.box s):=by cases q with|true=>have hq:C.A (FZ cs) b' o:=hq;exact⟨gO (C.hA _ _ _ hq).1 hg.frame.size,λhb=>hg.Lr hb _ o hq⟩|false=>exact hq.2
        exact⟨key.1,λe=>key.2 (Gw b' (.inl e)),λe=>key.2 (Gw b' (.inr e))⟩
       have C7:=pY A' w (g.β s) (xs.map a.eval) arr T fr g.hw fp hA' jr qS (KQ (k:=FZ cs) hc.1 dC rfl rfl rfl) hn tc gV Ix (RG hg s (λb o h=>h) xs hc.2);have aqm:a.eval x0=.pointer (some ⟨g.β s,0,none⟩):=vO;have On:(Value.pointer (some ⟨g.β s,0,none⟩)::xs.map a.eval).toArray=args.map a.eval:=by apply ef;simp[fb,aqm]
       rw[On]at C7;have dI:(execOp a.eval o').run P w=.ok (.enter k (args.map a.eval)) w:=by simp[execOp,ho,resolve,Gz,Deferred.ofValue,invoke,callFunc,No,JU];simpa using vX
       unfold Oper.wp;rw[dI,Oper.upon_enter];refine C7.mono ?_;rintro e w' ⟨v,hw',fv,iV,T',Re,iu,rfl,Rk,JT,Vq,vu,BZ,Ii,Lj,hnv,ad9,gM⟩;show next (a.put o'.dst v) w'
       have tail:∀(st1:AS)(g':Gh),dw C g' st1 a w' []->(∀b∈fv,g'.dJ b=some (.hand 0)/\g'.hw b=hw' b)->(∀b,b<w.heap.size->g.dJ b≠some (.box s)->g'.hw b=g.hw b)->
        K ((st1.fu o'.dst).put o'.dst (((Γ k).av y).F0 st1.ep (st1.ik o'.dst)))=some r->next (a.put o'.dst v) w':=by
        intro st1 g' mY hlv hold hk
        have hAS:∀(hd:Nat->Value)(q:Bool)(b o:Nat),A' q b o->(cy C {g' with hdr:=hd} (st1.fu o'.dst) w').S b o:=by intro hd q b o hq;cases q with|true=>exact .inl ⟨_,hq⟩|false=>rcases hq.1 with hs|hs;exact .inl hs;exact .inr (by show o<g'.hw b;rw[hold b hq.2.1 hq.2.2];exact hs)
        have ad7:∀b∈fv,g'.hw b=hw' b:=λb hb=>(hlv b hb).2
        have vu:∃hd,(∀t,lI st1 t->hd t=g'.hdr t)/\fL (cy C {g' with hdr:=hd} (st1.fu o'.dst) w') v (((Γ k).av y).F0 st1.ep (st1.ik o'.dst)) fv:=by
         generalize (Γ k).av y=y at Rk;cases y with
         |val gg cs=>obtain⟨vs,ee,hr⟩:=Rk;refine⟨qQ g'.hdr (st1.ik o'.dst) vs,λt ht=>BW ht,vs,ee,?_⟩;have:=CV (c:=cy C {g' with hdr:=qQ g'.hdr (st1.ik o'.dst) vs} (st1.fu o'.dst) w') (mk:=st1.ik o'.dst) (hAS _) 0 hr ad7 (λi u hu t ht=>by rw[cm]at ht;exact⟨(pT ht).2.1,BV hu ht⟩);have xQ:(cy C {g' with hdr:=qQ g'.hdr (st1.ik o'.dst) vs} (st1.fu o'.dst) w').ep=st1.ep:=BO;rw[xQ]at this;exact this
         |vQ ts=>obtain⟨ws,hv,hr⟩:=Rk;obtain⟨all,Gt⟩:=Ls hr;refine⟨qQ g'.hdr (st1.ik o'.dst) all,λt ht=>BW ht,ws,hv,?_⟩;have:=OQ (c:=cy C {g' with hdr:=qQ g'.hdr (st1.ik o'.dst) all} (st1.fu o'.dst) w') (mk:=st1.ik o'.dst) (hAS _) Gt 0 ad7 (λi u hu t ht=>by rw[cm]at ht;exact⟨(pT ht).2.1,BV hu ht⟩);have xQ:(cy C {g' with hdr:=qQ g'.hdr (st1.ik o'.dst) all} (st1.fu o'.dst) w').ep=st1.ep:=BO;rw[xQ]at this;exact this
        obtain⟨hd,hhd,vu⟩:=vu
        obtain⟨g2,Jf⟩:=mY.Pd o'.dst (hw':=g'.hw) (hdr':=hd) (fp:=fv) (st1:=st1.fu o'.dst) Kk vJ CX BO (λt ht=>⟨E3 ht,hhd t ht⟩)
         (Fr.refl _ _) (λ_ _ _ _=>rfl) (λ_ _ _ ho hu=>⟨ho,hu⟩) vu hnv (λb hb=>⟨(ad9 b hb).1,.inl (by rw[(hlv b hb).1];rfl)⟩)
        exact fO _ _ _ ⟨g2,Jf⟩ hk
       cases hcur:((Γ k).cur&&cs.all AC.JG)with
       |false=>rw[hcur]at hk;obtain⟨g',mY,hlv,hold⟩:=lD w' hw' iV T' Re ((Γ k).back y) iu fv A' (FZ cs) gM JT Vq rfl vu XZ.1 BZ Ii Lj ad9;exact tail _ g' mY hlv hold hk
       |true=>rw[hcur]at hk;simp only[ah]at hcur;have ahT:fp=[]:=Sz dC hcur.2;subst ahT;obtain⟨g',mY,hlv,hold⟩:=hg.adp s hb hcur.2 w' hw' iV T' Re ((Γ k).back y) iu fv A' (FZ cs) ⟨gM.os,gM.tape,gM.output,gM.size,λb hb hm=>gM.block b hb (λhh=>hm (hh.resolve_right (by simp)))⟩ JT Vq rfl vu XZ.1 BZ Ii (λb hb=>⟨(Lj b hb).1,(Lj b hb).2.resolve_left (by simp)⟩) (λb hb=>⟨(ad9 b hb).1,(ad9 b hb).2.1.resolve_left (by simp),(ad9 b hb).2.2⟩);exact tail _ g' mY hlv hold hk
   cases hk
  cases hk
 cases hk
theorem arg_val (hA:c'.A=c.A)(hw:c'.w=c.w){v:Value}{x:AV}(h:fL c v x fp)(hx:x.K7=true):fp=[]/\fL c' v x []:=by
 cases x with
 |vQ _=>cases hx
 |val g cs=>
  obtain⟨vs,ee,h⟩:=h
  have key:∀(cs:ar AC)(vs:ic)(fp:dV),bn c vs cs fp->cs.all AC.K7=true->fp=[]/\bn c' vs cs []:=by
   intro cs
   induction cs with
   |nil=>intro vs fp h _;cases vs with
    |nil=>exact⟨h,rfl⟩
    |cons _ _=>exact h.elim
   |cons x cs ih=>
    intro vs fp h hx
    cases vs with
    |nil=>exact h.elim
    |cons v vs=>
     obtain⟨f1,f2,rfl,h1,h2⟩:=h
     simp only[bN,ah]at hx
     obtain⟨rfl,k2⟩:=ih vs f2 h2 hx.2
     have hx:=hx.1
     have one:f1=[]/\gI c' v x []:=by
      cases x with
      |sl fl e xs=>cases fl with|arg k=>exact⟨h1.1,rfl,by rw[hA,hw];exact h1.2⟩|own _=>cases hx|loc _ _=>cases hx|nest _ _ _ _ _ _=>cases hx|part _ _ _ _=>cases hx|fe _ _ _=>cases hx
      |int _ _=>exact lQ h1 rfl
      |bool _=>exact lQ h1 rfl
      |str _=>exact lQ h1 rfl
      |fn _=>exact lQ h1 rfl
      |jw=>cases hx
      |ptr _ _=>cases hx
      |C1 _ _ _ _ _=>cases hx
      |un=>cases hx
      |bot=>cases hx
     obtain⟨rfl,k1⟩:=one
     exact⟨rfl,[],[],rfl,k1,k2⟩
  obtain⟨e,k⟩:=key cs vs fp h hx;exact⟨e,vs,ee,k⟩
theorem UB (h:dw C g st a w []):∀(xs:ar Operand),xs.all (λx=>(st.rd x).K7)=true->nb C.A w (xs.map a.eval) (xs.map st.rd)
 |[],_=>trivial
 |x::xs,hf=>by simp only[bN,ah]at hf;exact⟨(arg_val (c:=cy C g st w) (c':=eQ C.A (λ_=>0) w) rfl rfl (h.rd x) hf.1).2,UB h xs hf.2⟩
theorem aim (Ag:∀f,kV P f (Γ f)){o':Oper}(ho:o'.op=.call {callee:=.value f,args,argTypes:=ts})(hg:dw C g st a w [])(hf:st.rd f=.val false [.fn k])(P9:(Γ k).pr=true){K:AS->aw R}(hk:acb Γ o' k args.toList st K=some r)(next:Act->World->Prop)(Q:Exit->Act->World->Prop)(fO:∀st' a' w',nt C st' a' w'->K st'=some r->next a' w'):o'.wp P a w next Q:=by
 have Gz:=hg.rd f;rw[hf]at Gz;have Gz:=(dQ Gz).1;unfold acb at hk;split at hk
 ·rename_i d hd;split at hk
  ·rename_i JE;cases hc:args.toList.all (λx=>(st.rd x).K7)with
   |false=>rw[hc]at hk;cases hk
   |true=>
    rw[hc]at hk;simp only[af]at hk;cases fj:(Γ k).fn (args.toList.map st.rd)with
    |none=>rw[fj]at hk;cases hk
    |some y=>
     rw[fj]at hk;simp only[aa]at hk;cases XZ:((Γ k).back y).all AC.K7 with
     |false=>rw[XZ]at hk;cases hk
     |true=>
      rw[XZ]at hk;simp only[af]at hk;obtain⟨⟨fn,c,No,JU,vX⟩,_,_,_,pY⟩:=Ag k _ y fj;have C7:=pY P9 C.A w (args.toList.map a.eval) (λq b o hq=>gO (C.hA q b o hq).1 hg.frame.size) (UB hg _ hc);have fb:(args.toList.map a.eval).toArray=args.map a.eval:=by apply ef;simp
      rw[fb]at C7;have dI:(execOp a.eval o').run P w=.ok (.enter k (args.map a.eval)) w:=by simp[execOp,ho,resolve,Gz,Deferred.ofValue,invoke,callFunc,No,JU];simpa using vX
      unfold Oper.wp;rw[dI,Oper.upon_enter];refine C7.mono ?_;rintro e w' ⟨b,arr,T,fr,hw,rfl,hb,jr,qS,dC,gM⟩;show next (a.put o'.dst (.pointer (some ⟨b,0,none⟩))) w'
      rw[dA]at JE;have Ir:=mn jr;have ET:∀b' x,g.dJ b'=some x->b'≠b:=λb' x hx e=>by have:=(hg.fA b' x hx).1;omega
      have hr1:bn ⟨λb'=>if b'=b then 0 else g.hw b',λt=>if t=d then b else g.β t,C.A,g.hdr,lI st,st.ep,gx st,w'⟩ arr.toList ((Γ k).back y) []:=by
       have hv:fL (eQ C.A hw w') (.agg arr.toList.toArray) (.val true ((Γ k).back y)) []:=⟨arr.toList,rfl,dC⟩
       obtain⟨_,vs,ee,h⟩:=arg_val (c:=eQ C.A hw w') (c':=⟨λb'=>if b'=b then 0 else g.hw b',λt=>if t=d then b else g.β t,C.A,g.hdr,lI st,st.ep,gx st,w'⟩) rfl rfl hv XZ;have:arr.toList=vs:=by have ee:Value.agg arr.toList.toArray=.agg vs.toArray:=ee;simp only[Value.agg.injEq]at ee;simpa using congrArg Array.toList ee
       rw[this];exact h
      obtain⟨g',Ji,h'⟩:=hg.Xw d (cs:=(Γ k).back y) (arr:=arr) (T:=T) (fr:=fr) (fp:=[]) (w':=w') (bnew:=b) (hw':=λb'=>if b'=b then 0 else g.hw b') (.inr ⟨hb,JE⟩) ⟨gM.os,gM.tape,gM.output,gM.size,λb' gH _=>gM.block b' gH (λm=>m)⟩ jr qS Ir (by simp) (λb' x hx _ hn=>by simp[hn]) (λb' o u ho hu=>by have gH:b'<w.heap.size:=World.block_lt_of_cell? w _ hu;exact⟨by simp[show b'≠b by omega];exact ho,BA gM hu⟩) hr1 List.nodup_nil (by simp) (λb' gH=>by cases gH);have hdl:d<st.boxes.length:=(aD.1 JE).1;have hq:=h'.quiet (some d) (v:=.pointer (some ⟨b,0,none⟩)) (av:=.one (.ptr d 0)) (mN ⟨by simp[cy,Ji],⟨(Γ k).back y,by rw[ks];simp[hdl]⟩,rfl⟩);rw[hd];exact fO _ _ _ ⟨g',hq⟩ hk
  cases hk
 cases hk
theorem af3 (Ag:∀f,kV P f (Γ f)){o':Oper}(ho:o'.op=.call {callee:=.value f,args,argTypes:=ts})(h:nt C st a w){K:AS->aw R}(hk:F1 Γ o' f args.toList st K=some r)(next:Act->World->Prop)(Q:Exit->Act->World->Prop)(fO:∀st' a' w',nt C st' a' w'->K st'=some r->next a' w'):o'.wp P a w next Q:=by
 obtain⟨g,hg⟩:=h;unfold F1 at hk;split at hk
 ·rename_i k hf
  have Gz:=hg.rd f
  rw[hf]at Gz
  have Gz:=(dQ Gz).1
  cases jA:(Γ k).bx with
  |true=>rw[jA]at hk;exact ahJ Ag ho hg hf jA hk next Q fO
  |false=>
  rw[jA]at hk
  simp only[ae]at hk
  cases P9:(Γ k).pr with
  |true=>rw[P9]at hk;exact aim Ag ho hg hf P9 hk next Q fO
  |false=>
  rw[P9]at hk
  simp only[ae]at hk
  cases JX:(Γ k).io with
  |true=>rw[JX]at hk;exact ajj Ag ho hg hf JX hk next Q fO
  |false=>
  rw[JX]at hk
  simp only[ae]at hk
  cases fj:(Γ k).fn (args.toList.map λx=>((st.rd x).fresh st).asArg st.ep)with
  |none=>rw[fj]at hk;cases hk
  |some y0=>
   rw[fj]at hk
   simp only[aa]at hk
   obtain⟨⟨fn,c,No,JU,vX⟩,pY,_⟩:=Ag k _ y0 fj
   have pY:=pY JX jA
   have hk:K ((st.fu o'.dst).put o'.dst (((Γ k).res y0).F0 st.ep (st.ik o'.dst)))=some r:=by unfold Ai.res;cases Qp:(Γ k).sel y0 with|true=>rw[Qp]at hk;exact hk|false=>rw[Qp]at hk;exact hk
   generalize hy0:(Γ k).res y0=y at hk pY
   have C7:=pY (λ_ b o=>(cy C g st w).S b o/\b<w.heap.size) w (args.toList.map a.eval) (λ_ _ _ h=>h.2) (UC hg args.toList)
   have fb:(args.toList.map a.eval).toArray=args.map a.eval:=by apply ef;simp
   rw[fb]at C7
   have dI:(execOp a.eval o').run P w=.ok (.enter k (args.map a.eval)) w:=by simp[execOp,ho,resolve,Gz,Deferred.ofValue,invoke,callFunc,No,JU];simpa using vX
   unfold Oper.wp
   rw[dI,Oper.upon_enter]
   refine C7.mono ?_
   rintro e w' ⟨v,hw,fp,rfl,dC,ES,CP,gM⟩
   show next (a.put o'.dst v) w'
   let hw':Nat->Nat:=λb=>if b∈fp then hw b else g.hw b
   have S8:∀b,b<w.heap.size->b∉fp:=λb hb hm=>by have:=(CP b hm).1;omega
   have hA':∀(hd:Nat->Value)(_:Bool)(b o:Nat),((cy C g st w).S b o/\b<w.heap.size)->(cy C {g with hw:=hw',hdr:=hd} (st.fu o'.dst) w').S b o:=by rintro hd _ b o ⟨hs,hb⟩;rcases hs with hs|hs;exact .inl hs;exact .inr (by simp only[cy,hw',aF (S8 b hb)];exact hs)
   have vu:∃hd,(∀t,lI st t->hd t=g.hdr t)/\fL (cy C {g with hw:=hw',hdr:=hd} (st.fu o'.dst) w') v (y.F0 st.ep (st.ik o'.dst)) fp:=by
    have ad7:∀b∈fp,hw' b=hw b:=λb hb=>by simp[hw',hb]
    cases y with
    |val gg cs=>obtain⟨vs,ee,hr⟩:=dC;refine⟨qQ g.hdr (st.ik o'.dst) vs,λt ht=>BW ht,vs,ee,?_⟩;have:=CV (c:=cy C {g with hw:=hw',hdr:=qQ g.hdr (st.ik o'.dst) vs} (st.fu o'.dst) w') (mk:=st.ik o'.dst) (hA' _) 0 hr ad7 (λi u hu t ht=>by rw[cm]at ht;exact⟨(pT ht).2.1,BV hu ht⟩);have xQ:(cy C {g with hw:=hw',hdr:=qQ g.hdr (st.ik o'.dst) vs} (st.fu o'.dst) w').ep=st.ep:=BO;rw[xQ]at this;exact this
    |vQ ts=>obtain⟨ws,hv,hr⟩:=dC;obtain⟨all,Gt⟩:=Ls hr;refine⟨qQ g.hdr (st.ik o'.dst) all,λt ht=>BW ht,ws,hv,?_⟩;have:=OQ (c:=cy C {g with hw:=hw',hdr:=qQ g.hdr (st.ik o'.dst) all} (st.fu o'.dst) w') (mk:=st.ik o'.dst) (hA' _) Gt 0 ad7 (λi u hu t ht=>by rw[cm]at ht;exact⟨(pT ht).2.1,BV hu ht⟩);have xQ:(cy C {g with hw:=hw',hdr:=qQ g.hdr (st.ik o'.dst) all} (st.fu o'.dst) w').ep=st.ep:=BO;rw[xQ]at this;exact this
   obtain⟨hd,hhd,vu⟩:=vu
   obtain⟨g',mY⟩:=hg.Pd o'.dst (hw':=hw') (hdr':=hd) (fp:=fp) (st1:=st.fu o'.dst) Kk vJ CX BO (λt ht=>⟨E3 ht,hhd t ht⟩)
    ⟨gM.os,gM.tape,gM.output,gM.size,λb hb _=>gM.block b hb (λm=>m)⟩ (λb x hx _=>by simp[hw',S8 b (hg.fA b x hx).1])
    (λb o u ho hu=>by have hb:b<w.heap.size:=World.block_lt_of_cell? w _ hu;exact⟨by simp[hw',S8 b hb];exact ho,BA gM hu⟩) vu ES (λb hb=>⟨(CP b hb).2,.inr (CP b hb).1⟩)
   exact fO _ _ _ ⟨g',mY⟩ hk
 cases hk
end Go.Dn
