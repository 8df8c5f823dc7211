import Derived.Test.YtfbhfnniblfpbaaGreatDnOps8
/- A call by value: what a callee promises, and what the caller makes of it. -/
namespace Go.Dn
open Go.RowKit
variable {P:Program} {C:Ctx} {st:AS} {a:Act} {w:World} {R:Type} {r:R}
variable {x:AC} {args:Array Operand} {ts:Array TypeId} {Γ:xg} {g:Gh} {k:Nat} {hw hw':Nat->Nat} {hdr:Nat->Value} {f:Operand} {c c':RC} {A:Rg} {cs:au AC} {d:aw Nat} {fp:dI}
def eD (A:Rg)(hw:Nat->Nat)(w:World):RC:=⟨hw,λ_=>0,A,λ_=>undef,λ_=>False,0,λ_=>False,w⟩
def mL (A:Rg)(w:World):gP->au AV->Prop
 |[],[]=>True
 |v::vs,x::xs=>fy (eD A (λ_=>0) w) v x []/\mL A w vs xs
 |_,_=>False
def aor (P:Program)(f:Nat)(F:zy)(y:F.R)(g:Bool)(cs:au AC)(rest:au AV):Prop:=
 ∀(A:Rg)(w:World)(v0:Value)(vs:gP)(hw:Nat->Nat)(fp:dI),(∀k b o,A k b o->b<w.heap.size/\b∉fp)->fy (eD A hw w) v0 (.val g cs) fp->fp.Nodup->(∀b∈fp,b<w.heap.size)->mL A w vs rest->
  Calls P f (v0::vs).toArray w λe w'=>∃v hw' fr hY,e=.returned v/\fy (eD A hw' w') v (F.av y) fr/\fy (eD A hw' w') v0 (.val g (F.back y)) hY/\hY.Nodup/\
   (∀b∈hY,b<w'.heap.size/\(b∈fp\/w.heap.size<=b))/\Fr (λb=>b∈fp) w w'
def ahR (P:Program)(f:Nat)(F:zy)(y:F.R)(cs:au AC)(rest:au AV):Prop:=
 ∀(A:Rg)(w:World)(b:Nat)(vs:gP)(arr:Array Value)(T:TypeId)(fr:Nat×Nat)(hw:Nat->Nat)(fp:dI),(∀k b' o,A k b' o->b'<w.heap.size/\b'≠b/\b'∉fp)->
  w.heap[b]?=some (.cells arr T fr)->pL arr fr->bp (eD A hw w) arr.toList cs fp->fp.Nodup->b∉fp->(∀b'∈fp,b'<w.heap.size)->hw b=0->mL A w vs rest->
  Calls P f (.pointer (some ⟨b,0,none⟩)::vs).toArray w λe w'=>∃v hw' fv iJ T' QV hY,e=.returned v/\fy (eD A hw' w') v (F.av y) fv/\w'.heap[b]?=some (.cells iJ T' QV)/\pL iJ QV/\
   bp (eD A hw' w') iJ.toList (F.back y) hY/\hY.Nodup/\b∉hY/\(∀b'∈hY,b'<w'.heap.size/\(b'∈fp\/w.heap.size<=b'))/\fv.Nodup/\(∀b'∈fv,b'<w'.heap.size/\(b'∈fp\/w.heap.size<=b')/\b'∉hY/\b'≠b)/\Fr (λb'=>b'=b\/b'∈fp) w w'
def agn (P:Program)(f:Nat)(F:zy)(y:F.R)(xs:au AV):Prop:=
 ∀(A:Rg)(w:World)(vs:gP),(∀k b o,A k b o->b<w.heap.size)->mL A w vs xs->
  Calls P f vs.toArray w λe w'=>∃b arr T fr hw,e=.returned (.pointer (some ⟨b,0,none⟩))/\w.heap.size<=b/\w'.heap[b]?=some (.cells arr T fr)/\pL arr fr/\bp (eD A hw w') arr.toList (F.back y) []/\Fr (λ_=>False) w w'
def kB (P:Program)(f:Nat)(F:zy):Prop:=
 ∀(xs:au AV)(y:F.R),F.fn xs=some y->
  (∃fn c,P.funcs[f]?=some fn/\fn.body=some c/\(fn.name== "runtime.NumGoroutine")=false)/\
  (F.io=false->F.bx=false->∀(A:Rg)(w:World)(vs:gP),(∀k b o,A k b o->b<w.heap.size)->mL A w vs xs->
    Calls P f vs.toArray w λe w'=>∃v hw fp,e=.returned v/\fy (eD A hw w') v (F.res y) fp/\fp.Nodup/\(∀b∈fp,w.heap.size<=b/\b<w'.heap.size)/\Fr (λ_=>False) w w')/\
  (F.io=true->∀g cs rest,xs=.val g cs::rest->aor P f F y g cs rest)/\
  (F.bx=true->∀cs rest,xs=.val true cs::rest->ahR P f F y cs rest)/\
  (F.pr=true->agn P f F y xs)
theorem lr {v:Value}(h:gr c v x fp)(hf:x.fS=true):fp=[]/\gr c' v x []:=by cases x with|int k n=>exact⟨h.2,h.1,rfl⟩|bool b=>exact⟨h.2,h.1,rfl⟩|str s=>exact⟨h.2,h.1,rfl⟩|fn f=>exact⟨h.2,h.1,rfl⟩|_=>cases hf
theorem Iv {c':RC}:∀{vs:gP}{xs:au AC}{fp:dI},bp c vs xs fp->xs.all AC.fS=true->fp=[]/\bp c' vs xs []
 |[],[],_,h,_=>⟨h,rfl⟩
 |_::_,_::_,_,h,hf=>by obtain⟨f1,f2,rfl,h1,h2⟩:=h;simp only[bO,ah]at hf;obtain⟨rfl,k1⟩:=lr (c':=c') h1 hf.1;obtain⟨rfl,k2⟩:=Iv (c':=c') h2 hf.2;exact⟨rfl,[],[],rfl,k1,k2⟩
 |[],_::_,_,h,_=>h.elim
 |_::_,[],_,h,_=>h.elim
theorem Uz:∀{ws:gP}{ts:au (Bool×au AC)}{fp:dI},fy.qu c ws ts fp->(ts.all λx=>x.2.all AC.fS)=true->fy.qu c' ws ts []
 |[],[],_,_,_=>rfl
 |_::_,_::_,_,h,hf=>by obtain⟨f1,f2,rfl,⟨vs,hv,h1⟩,h2⟩:=h;simp only[bO,ah]at hf;exact⟨[],[],rfl,⟨vs,hv,(Iv h1 hf.1).2⟩,Uz h2 hf.2⟩
 |[],_::_,_,h,_=>h.elim
 |_::_,[],_,h,_=>h.elim
theorem Ds {v:Value}{x:AV}(h:fy c v x fp)(hf:x.fS=true):fy c' v x []:=by
 cases x with
 |val g cs=>obtain⟨vs,hv,h⟩:=h;exact⟨vs,hv,(Iv h hf).2⟩
 |vq ts=>obtain⟨ws,hv,h⟩:=h;exact⟨ws,hv,Uz h hf⟩
theorem O2:∀(os ss:au AC){r:au AC}{vs us:gP}{f:dI},my os ss=some r->bp c vs os []->bp c us ss f->bp (eD A c.hw c.w) vs r f:=by
 intro os;induction os with
 |nil=>intro ss r vs us f h hv hu;cases ss with|cons _ _=>simp[my]at h|nil=>simp[my]at h;subst h;cases vs with|cons _ _=>exact hv.elim|nil=>cases us with|cons _ _=>exact hu.elim|nil=>exact hu
 |cons o os ih=>
  intro ss r vs us f h hv hu;cases vs with
  |nil=>exact hv.elim
  |cons v vs=>
   cases ss with
   |nil=>unfold my at h;split at h<;>first|contradiction|cases h
   |cons s ss=>
    cases us with
    |nil=>exact hu.elim
    |cons u us=>
     obtain⟨g1,g2,hg,hv1,LV⟩:=hv;have e1:g1=[]:=by have:=hg.symm;simp at this;exact this.1
     have e2:g2=[]:=by have:=hg.symm;simp at this;exact this.2
     subst e1;subst e2;obtain⟨f1,f2,rfl,hu1,hu2⟩:=hu;have fl:∀{x:AC}{r'},x.fS=true->s.fS=true->o=x->my os ss=some r'->r=x::r'->bp (eD A c.hw c.w) (v::vs) r (f1++f2):=by rintro x r' hx hs rfl hr rfl;obtain⟨rfl,_⟩:=lr (c':=c) hu1 hs;exact⟨[],f2,rfl,(lr hv1 hx).2,ih ss hr LV hu2⟩
     unfold my at h;split at h;contradiction;rename_i ep rt t e0 xs0 os' t' e xs ss' h1 h2;injection h1 with h1 N3;subst h1;subst N3;injection h2 with h2 TS;subst h2;subst TS;cases ht:(t'==t)with
     |false=>rw[ht]at h;cases h
     |true=>
      have:t'=t:=by simpa using ht
      subst this;rw[ht]at h;simp only[af]at h;obtain⟨r',hr,h⟩:=aK.1 h;cases h;have SO:=(hv1.2.2.2.2 rt t' rfl).2;have Q0:=(hu1.2 t' rfl).2;have huv:u=v:=Q0.trans SO.symm;subst huv;exact⟨f1,f2,rfl,⟨hu1.1,by simp⟩,ih _ hr LV hu2⟩
     rename_i k n os' k' n' ss' h1 h2;injection h1 with h1 N3;subst N3;injection h2 with h2 TS;subst h2;subst TS;obtain⟨r',hr,h⟩:=aK.1 h;cases h;exact fl (x:=.int k n) rfl rfl h1 hr rfl;rename_i k os' k' ss' h1 h2;injection h1 with h1 N3;subst N3;injection h2 with h2 TS;subst h2;subst TS;obtain⟨r',hr,h⟩:=aK.1 h;cases h;exact fl (x:=.bool k) rfl rfl h1 hr rfl;rename_i k os' k' ss' h1 h2;injection h1 with h1 N3;subst N3;injection h2 with h2 TS;subst h2;subst TS;obtain⟨r',hr,h⟩:=aK.1 h;cases h;exact fl (x:=.str k) rfl rfl h1 hr rfl;cases h
theorem VR (hle:c.Le c'):∀(os ss bs:au AC){seg:au AC}{vs us:gP}{f f':dI},CO os ss bs=some seg->bp c vs os []->bp c us ss f-> bp (eD A hw' c'.w) vs bs f'->(∀b∈f',c'.hw b=hw' b)->bp c' us seg f':=by
 intro os;induction os with
 |nil=>
  intro ss bs seg vs us f f' h hv hu hb _;unfold CO at h;split at h;cases h;cases us with|cons _ _=>exact hu.elim|nil=>cases vs with|cons _ _=>exact hv.elim|nil=>exact hb
  all_goals first|contradiction|cases h
 |cons o os ih=>
  intro ss bs seg vs us f f' h hv hu hb hh;unfold CO at h;split at h;contradiction;rename_i ep rt t' e0 xs0 os' t e1 xs1 ss' tg e ys bs' h1;injection h1 with h1 N3;subst h1;subst N3;cases ht:(t==t')with
  |false=>rw[ht]at h;cases h
  |true=>
   have:t=t':=by simpa using ht
   subst this;rw[ht]at h;simp only[af]at h;obtain⟨r',hr,h⟩:=aK.1 h;cases h;cases vs with
   |nil=>exact hv.elim
   |cons v vs=>
    cases us with
    |nil=>exact hu.elim
    |cons u us=>
     obtain⟨g1,g2,hg,hv1,LV⟩:=hv;have e1:g1=[]:=by have:=hg.symm;simp at this;exact this.1
     have e2:g2=[]:=by have:=hg.symm;simp at this;exact this.2
     subst e1;subst e2;obtain⟨f1,f2,rfl,hu1,hu2⟩:=hu;obtain⟨f1',f2',rfl,Zt,FN⟩:=hb;have SO:=(hv1.2.2.2.2 rt t rfl).2;have Q0:=hu1.2 t rfl;have huv:u=v:=Q0.2.trans SO.symm;refine⟨f1',f2',rfl,⟨?_,λq hq=>?_⟩,ih _ _ hr LV hu2 FN (λb hb=>hh b (ba _ hb))⟩;rw[huv];exact dW.mono Zt.1 (λb hb=>⟨rfl,hh b (bj _ hb)⟩);cases hq;exact⟨(hle.hdr t Q0.1).1,by rw[(hle.hdr t Q0.1).2];exact Q0.2⟩
  all_goals first
   |cases h
   |(rename_i h1
     injection h1 with h1 N3;subst N3
     obtain⟨r',hr,h⟩:=aK.1 h
     cases h
     cases vs with
     |nil=>exact hv.elim
     |cons v vs=>
      cases us with
      |nil=>exact hu.elim
      |cons u us=>
       obtain⟨g1,g2,hg,hv1,LV⟩:=hv
       have e1:g1=[]:=by have:=hg.symm;simp at this;exact this.1
       have e2:g2=[]:=by have:=hg.symm;simp at this;exact this.2
       subst e1;subst e2
       obtain⟨f1,f2,rfl,hu1,hu2⟩:=hu
       obtain⟨f1',f2',rfl,Zt,FN⟩:=hb
       have k1:=(lr (c':=c) Zt rfl).1
       subst k1
       exact⟨[],f2',rfl,(lr hu1 rfl).2,ih _ _ hr LV hu2 FN (λb hb=>hh b (ba _ hb))⟩)
theorem W0 {v:Value}(h:gr c v x fp):gr (eD (λ_ b o=>c.S b o/\b<c.w.heap.size) (λ_=>0) c.w) v (x.asArg c.ep) []:=by
 have hS:∀{e:CT}{xs:au e.D},iU c.w c.S (.sl e) [v] xs->iU c.w (λb o=>c.S b o/\b<c.w.heap.size) (.sl e) [v] xs:=λhr=>
  iU.mono (λb o u hs hu=>⟨⟨hs,World.block_lt_of_cell? c.w _ hu⟩,hu⟩) hr
 cases x with|int k n=>exact⟨h.1,rfl⟩|bool b=>exact⟨h.1,rfl⟩|str s=>exact⟨h.1,rfl⟩|jl=>exact⟨h.1,rfl⟩|fn f=>exact⟨h.1,rfl⟩|ptr s off=>exact rfl|un=>exact rfl|bot=>exact rfl|Cg fl e y i off=>exact rfl|sl fl e xs=>cases fl with|nest _ _ _ _ _ _=>exact rfl|part _ _ _ _=>exact rfl|eQ _ _ _=>exact rfl|own t=>exact⟨rfl,hS (dW.rep (λb o ho=> .inr ho) h.1)⟩|arg k=>exact⟨rfl,hS (iU.mono (λb o u hs hu=>⟨.inl ⟨k,hs⟩,hu⟩) h.2)⟩|loc ep pv=>simp only[AC.asArg];split;rename_i he;exact⟨rfl,hS (h.2.2.2.1 (by simpa using he))⟩;exact rfl
theorem LC:∀{vs:gP}{xs:au AC}{fp:dI},bp c vs xs fp->bp (eD (λ_ b o=>c.S b o/\b<c.w.heap.size) (λ_=>0) c.w) vs (xs.map (AC.asArg c.ep)) []
 |[],[],_,_=>rfl
 |_::_,_::_,_,h=>by obtain⟨f1,f2,rfl,h1,h2⟩:=h;exact⟨[],[],rfl,W0 h1,LC h2⟩
 |[],_::_,_,h=>h.elim
 |_::_,[],_,h=>h.elim
theorem aal {v:Value}{x:AV}(h:fy c v x fp):fy (eD (λ_ b o=>c.S b o/\b<c.w.heap.size) (λ_=>0) c.w) v (x.asArg c.ep) []:=by
 cases x with
 |val g cs=>obtain⟨vs,hv,h⟩:=h;exact⟨vs,hv,LC h⟩
 |vq ts=>exact fy.bot _ _
theorem T9 (h:dk C g st a w []):∀(args:au Operand),
 mL (λ_ b o=>(cq C g st w).S b o/\b<w.heap.size) w (args.map a.eval) (args.map λx=>((st.rd x).fresh st).asArg st.ep)
 |[]=>trivial
 |x::xs=>⟨aal (c:=cq C g st w) (h.fresh (h.rd x)),T9 h xs⟩
theorem W1 {A':Rg}{v:Value}{tag:aw Nat}(h:gr (eD A' hw c.w) v x fp)(hA:∀k b o,A' k b o->c.S b o)(Bl:∀b∈fp,c.hw b=hw b)(ht:∀t,tag=some t->c.iss t/\v=c.hdr t):gr c v (x.Fg c.ep tag) fp:=by
 cases x with
 |int k n=>exact h
 |bool b=>exact h
 |str s=>exact h
 |jl=>exact h
 |fn f=>exact h
 |ptr s off=>exact h.2.2
 |un=>exact h
 |bot=>exact h
 |Cg fl e y i off=>cases fl with|own t=>exact h.elim|nest _ _ _ _ _ _=>exact h.elim|part _ _ _ _=>exact h.elim|eQ _ _ _=>exact h.elim|arg _=>exact h.1|loc ep pv=>exact h.1
 |sl fl e xs=>
  cases fl with
  |nest _ _ _ _ _ _=>exact h.1
  |part _ _ _ _=>exact h.1
  |eQ _ _ _=>obtain⟨_,⟨k,hk,h3⟩,_⟩:=h;exact⟨λq hq=>(by cases hq),⟨k,hk,h3.mono (λb hb=>⟨rfl,Bl b hb⟩)⟩,by simp⟩
  |own t=>exact⟨dW.mono h.1 (λb hb=>⟨rfl,Bl b hb⟩),ht⟩
  |loc ep pv=>exact h.1
  |arg _=>have hr:iU c.w c.S (.sl e) [v] xs:=iU.mono (λb o u hs hu=>⟨hA _ b o hs,hu⟩) h.2;refine⟨h.1,aX _,?_,λ_=>hr,by simp⟩;obtain⟨u,hu,k⟩:=hr;simp at hu;subst hu;rcases k with⟨⟨ad,rfl⟩,rfl⟩|⟨b,o,cap,rfl,_⟩;exact⟨_,_,_,rfl,rfl⟩;exact⟨_,_,_,rfl,rfl⟩
theorem Cb {A':Rg}{mk:Nat->aw Nat}(hA:∀k b o,A' k b o->c.S b o):∀{vs:gP}{xs:au AC}{fp:dI}(j:Nat),bp (eD A' hw c.w) vs xs fp->(∀b∈fp,c.hw b=hw b)->
 (∀i v,vs[i]?=some v->∀t,mk (j+i)=some t->c.iss t/\v=c.hdr t)->bp c vs (JY c.ep mk j xs) fp
 |[],[],_,_,h,_,_=>h
 |v::_,_::_,_,j,h,hh,hm=>by obtain⟨f1,f2,rfl,h1,h2⟩:=h;exact⟨f1,f2,rfl,W1 h1 hA (λb hb=>hh b (bj _ hb)) (λt ht=>hm 0 v rfl t ht),Cb hA (j+1) h2 (λb hb=>hh b (ba _ hb)) (λi u hu t ht=>hm (i+1) u (by simpa using hu) t (by rwa[show j+(i+1)=j+1+i by omega]))⟩
 |[],_::_,_,_,h,_,_=>h.elim
 |_::_,[],_,_,h,_,_=>h.elim
inductive Leaves (A:Rg) (hw:Nat->Nat) (w:World):List Value->List (Bool×List AC)->List Nat->List Value->Prop
 |nil:Leaves A hw w [] [] [] []
 |cons {v:Value} {vs:List Value} {g:Bool} {cs:List AC} {ts:List (Bool×List AC)} {f1 f2:List Nat} {us all:List Value} (dM:Cut g v us) (hr:bp (eD A hw w) us cs f1) (h:Leaves A hw w vs ts f2 all):
  Leaves A hw w (v::vs) ((g,cs)::ts) (f1++f2) (us++all)
theorem K2 {w:World}:∀{ws:gP}{ts:au (Bool×au AC)}{fp:dI},fy.qu (eD A hw w) ws ts fp->∃all,Leaves A hw w ws ts fp all
 |[],[],_,h=>by cases h;exact⟨[],.nil⟩
 |_::_,(g,cs)::_,_,h=>by obtain⟨f1,f2,rfl,⟨us,dM,hr⟩,h2⟩:=h;obtain⟨all,FM⟩:=K2 h2;exact⟨us++all,.cons dM hr FM⟩
 |[],_::_,_,h=>h.elim
 |_::_,[],_,h=>h.elim
theorem Ox {A':Rg}{mk:Nat->aw Nat}(hA:∀k b o,A' k b o->c.S b o){ws:gP}{ts:au (Bool×au AC)}{all:gP}(h:Leaves A' hw c.w ws ts fp all): ∀j,(∀b∈fp,c.hw b=hw b)->(∀i v,all[i]?=some v->∀t,mk (j+i)=some t->c.iss t/\v=c.hdr t)->fy.qu c ws (Ys c.ep mk j ts) fp:=by induction h with|nil=>intro j _ _;exact rfl| @cons v vs g cs ts f1 f2 us all dM hr h ih=>intro j hh hm;have hl:=hr.length;refine⟨f1,f2,rfl,⟨us,dM,Cb hA j hr (λb hb=>hh b (bj _ hb)) (λi u hu t ht=>?_)⟩,ih _ (λb hb=>hh b (ba _ hb)) (λi u hu t ht=>?_)⟩;exact hm i u (by rw[bA (aD.1 hu).1];exact hu) t ht;have hl':us.length=cs.length:=hl;refine hm (us.length+i) u (by rw[bq (by omega)];simpa using hu) t ?_;rw[<-fb,hl'];exact ht
def qE (hdr:Nat->Value)(mk:Nat->aw Nat)(all:gP):Nat->Value:=λu=>if mk (u/3%4096)=some u then(all[u/3%4096]?).getD undef else hdr u
theorem Bk {all:gP}{t:Nat}(h:ll st t):qE hdr (st.gV d) all t=hdr t:=by unfold qE;rw[aE];intro e;exact(py e).1 h
theorem Bj {all:gP}{i t:Nat}{v:Value}(hv:all[i]?=some v)(h:st.gV d i=some t):v=qE hdr (st.gV d) all t:=by
 obtain⟨_,_,d',rfl,ht,hi⟩:=py h;have afs:t/3%4096=i:=by rw[ht,Kn];omega
 unfold qE;rw[afs,aF h,hv];rfl
theorem dk.M5 (h:dk C g st a w [])(o:iT)(LR:¬cQ (some o)){f1 f2 f3:dI}(hn:(f1++f2++f3).Nodup)(hl:∀b∈f1++f2++f3,g.dB b=some o){w':World}{st':AS}{jr:dI}(xl:st'.ep=st.ep+1)(FO:st'.iss=st.iss)(qF:∀s,fX st s->fX st' s)(DW:jr.Nodup)(nT:∀b∈jr,b<w'.heap.size/\(b∈f2\/w.heap.size<=b))(gw:Fr (λb=>b∈f2) w w')(Bl:∀b,b<w.heap.size->b∉f2->hw' b=g.hw b): (cq C g st w).Le (cq C (g.wrote o (f1++jr++f3) hw') st' w')/\(f1++jr++f3).Nodup/\ (∀b∈f1++jr++f3,(g.wrote o (f1++jr++f3) hw').dB b=some o)/\ (∀b∈f1++f3,w'.heap[b]?=w.heap[b]?/\hw' b=g.hw b)/\ (∀b x,¬cQ (some x)->x≠o->g.dB b=some x->(g.wrote o (f1++jr++f3) hw').dB b=some x/\w'.heap[b]?=w.heap[b]?/\hw' b=g.hw b)/\ (∀b,g.dB b=some o->b∉f1++f2++f3->(g.wrote o (f1++jr++f3) hw').dB b=some o/\w'.heap[b]?=w.heap[b]?/\hw' b=g.hw b)/\ Fr C.M C.w0 w'/\(∀b x,(g.wrote o (f1++jr++f3) hw').dB b=some x->b<w'.heap.size/\(C.w0.heap.size<=b\/C.M b)):=by
 have Bm:=hn;rw[aP]at Bm;have n1:=aB.1 Bm;have n2:=aB.1 n1.2.1;have zG:∀b∈f1++f3,b∉f2:=by intro b hb h2;rcases ay.1 hb with hb|hb;exact n1.2.2 b hb b (bj _ h2) rfl;exact n2.2.2 b h2 b hb rfl
 have Xx:∀k b o u,C.A k b o->w.cell? ⟨b,o,none⟩=some u->w'.cell? ⟨b,o,none⟩=some u:=by intro k b o u hA hu;have hb:b<w.heap.size:=World.block_lt_of_cell? w _ hu;have I3:¬(b∈f2):=λhm=>h.K1 (hl b (by simp[hm])) k o hA;rw[World.cell?_of_block (a:=⟨b,o,none⟩) (gw.block b hb I3)];exact hu
 have hle:(cq C g st w).Le (cq C (g.wrote o (f1++jr++f3) hw') st' w'):=⟨rfl,λt ht=>⟨by show ll st' t;have TV:ll st t:=ht;simpa[ll,FO]using TV,rfl⟩,Xx,by show st.ep<=st'.ep;omega,λs hs=>⟨qF s hs,rfl⟩,λhe=>absurd he (by show st'.ep≠st.ep;omega)⟩
 have lH:∀b x,g.dB b=some x->b∉f2->w'.heap[b]?=w.heap[b]?/\hw' b=g.hw b:=by intro b x hb hm;exact⟨gw.block b (h.fa b _ hb).1 hm,Bl b (h.fa b _ hb).1 hm⟩
 have hd1:∀b∈f1++f3,b∉jr:=by intro b hb hm;rcases(nT b hm).2 with h2|h2;exact zG b hb h2;have:=(h.fa b _ (hl b (by rcases ay.1 hb with hb|hb<;>simp[hb]))).1;omega
 refine⟨hle,?_,?_,?_,?_,?_,?_,?_⟩;rw[aP];refine aB.2 ⟨n1.1,aB.2 ⟨DW,n2.2.1,?_⟩,?_⟩;rintro b hb c hc rfl;exact hd1 b (by simp[hc]) hb;rintro b hb c hc rfl;rcases ay.1 hc with hc|hc;exact hd1 b (by simp[hb]) hc;exact n1.2.2 b hb b (ba _ hc) rfl;intro b hb;show(if b∈f1++jr++f3 then _ else _)=_;rw[aF hb];intro b hb;exact lH b o (hl b (by rcases ay.1 hb with hb|hb<;>simp[hb])) (zG b hb);intro b x hh hxo hb;have Zx:b∉f2:=λhm=>hxo (by have:=hl b (by simp[hm]);rw[hb]at this;simpa using this);refine⟨?_,lH b x hb Zx⟩;show(if b∈f1++jr++f3 then _ else if cQ (g.dB b) then none else g.dB b)=_;have SK:b∉f1++jr++f3:=by intro hm;simp only[ay]at hm;rcases hm with(hm|hm)|hm;exact hxo (by have:=hl b (by simp[hm]);rw[hb]at this;simpa using this);rcases(nT b hm).2 with h2|h2;exact Zx h2;have:=(h.fa b _ hb).1;omega;exact hxo (by have:=hl b (by simp[hm]);rw[hb]at this;simpa using this)
 rw[aE SK,aE (by rw[hb];exact hh),hb];intro b hb hm;have Zx:b∉f2:=λk=>hm (by simp[k]);refine⟨?_,lH b o hb Zx⟩;show(if b∈f1++jr++f3 then _ else if cQ (g.dB b) then none else g.dB b)=_;rw[aE (c:=cQ (g.dB b)) (by rw[hb];exact LR),hb];split<;>rfl;refine h.frame.trans gw (λb hb hm=>?_);rcases(h.fa b o (hl b (by simp[hm]))).2 with h2|h2;omega;exact h2;intro b x hx;have zY:(if b∈f1++jr++f3 then some o else if cQ (g.dB b) then none else g.dB b)=some x:=hx;have hz:=gw.size;have Yj:∀y,g.dB b=some y->b<w'.heap.size/\(C.w0.heap.size<=b\/C.M b):=λy hy=>⟨gy (h.fa b y hy).1 hz,(h.fa b y hy).2⟩
 split at zY;rename_i hm;simp only[ay]at hm;rcases hm with(hm|hm)|hm;exact Yj o (hl b (by simp[hm]));rcases(nT b hm).2 with h2|h2;exact Yj o (hl b (by simp[h2]));exact⟨(nT b hm).1,.inl (aH h.frame.size h2)⟩;exact Yj o (hl b (by simp[hm]));split at zY;cases zY;exact Yj x zY
theorem IV {vs us:gP}{seg:au AC}{f1 f2 f3:dI}{off n:Nat}(P6:us=(vs.drop off).take n)(hln:us.length=n)(r1:bp c' (vs.take off) (cs.take off) f1)(r2:bp c' us seg f2)(r3:bp c' (vs.drop (off+n)) (cs.drop (off+n)) f3): bp c' vs (cS cs off seg) (f1++f2++f3):=by
 have zH:=r2.length;have e:vs=vs.take off++us++vs.drop (off+n):=by rw[P6,aP,<-dJ,cf,cf]
 rw[e,cS,show seg.length=n by omega];exact bp.append (bp.append r1 r2) r3
theorem dk.adW (h:dk C g st a w [])(r:ka){Df:au AC}(eE:st.tD r=some Df)(off n:Nat)(SH:((Df.drop off).take n).length=n): ∃us f2,bp (cq C g st w) us ((Df.drop off).take n) f2/\f2.Nodup/\(∀b∈f2,b<w.heap.size/\∀k o,¬C.A k b o)/\ ∀(w':World)(hw':Nat->Nat)(seg:au AC)(jr:dI),jr.Nodup->(∀b∈jr,b<w'.heap.size/\(b∈f2\/w.heap.size<=b))->Fr (λb=>b∈f2) w w'-> (∀b,b<w.heap.size->b∉f2->hw' b=g.hw b)->(∀c',(cq C g st w).Le c'->c'.w=w'->c'.hw=hw'->bp c' us seg jr)-> ∃g',dk C g' {st.pJ r (cS Df off seg)with ep:=st.ep+1} a w' []:=by
 have core:∀(o:iT),¬cQ (some o)->∀{vs:gP}{fp:dI},bp (cq C g st w) vs Df fp->fp.Nodup->(∀b∈fp,g.dB b=some o)->
  ∃us f1 f2 f3,fp=f1++f2++f3/\bp (cq C g st w) us ((Df.drop off).take n) f2/\f2.Nodup/\(∀b∈f2,b<w.heap.size/\∀k o,¬C.A k b o)/\
   ∀(w':World)(hw':Nat->Nat)(st':AS)(seg:au AC)(jr:dI),st'.ep=st.ep+1->st'.iss=st.iss->(∀s,fX st s->fX st' s)->jr.Nodup->(∀b∈jr,b<w'.heap.size/\(b∈f2\/w.heap.size<=b))->Fr (λb=>b∈f2) w w'->
    (∀b,b<w.heap.size->b∉f2->hw' b=g.hw b)->(∀c',(cq C g st w).Le c'->c'.w=w'->c'.hw=hw'->bp c' us seg jr)->
    bp (cq C (g.wrote o (f1++jr++f3) hw') st' w') vs (cS Df off seg) (f1++jr++f3):=by
  intro o LR vs fp hr hn hl
  obtain⟨f1,f2,f3,rfl,r1,r2,r3⟩:=hr.mid off n
  have Bm:=hn
  rw[aP]at Bm
  have n2:=aB.1 (aB.1 Bm).2.1
  refine⟨_,f1,f2,f3,rfl,r2,n2.1,λb hb=>⟨(h.fa b o (hl b (by simp[hb]))).1,λk q=>h.K1 (hl b (by simp[hb])) k q⟩,?_⟩
  intro w' hw' st' seg jr xl FO qF DW nT gw Bl Gl
  obtain⟨hle,_,_,hk,_⟩:=h.M5 o LR hn hl xl FO qF DW nT gw Bl
  exact IV rfl (by rw[r2.length];exact SH) (r1.mono hle λb hb=>hk b (by simp[hb])) (Gl _ hle rfl rfl) (r3.mono hle λb hb=>hk b (by simp[hb]))
 cases r with
 |slot s j=>
  simp only[AS.tD]at eE;cases hg:st.get s with
  |vq ts=>rw[hg]at eE;cases eE
  |val gg cs=>
   rw[hg]at eE;cases eE;have aps:s<st.slots.length\/¬s<st.slots.length:=bL s st.slots.length|>.imp id Nat.not_lt.2;obtain⟨fp,hr,hn,hl⟩:=h.slot s;rw[hg]at hr;obtain⟨vs,dM,hr⟩:=hr;obtain⟨us,f1,f2,f3,rfl,P6,B8,FN,la⟩:=core (.slot s) (by simp[eZ]) hr hn hl;refine⟨us,f2,P6,B8,FN,?_⟩;intro w' hw' seg jr DW nT gw Bl Gl;let st':AS:={st.pJ (.slot s j) (cS Df off seg)with ep:=st.ep+1}
   have jP:st'={st with slots:=st.slots.set s (.val gg (cS Df off seg)),ep:=st.ep+1}:=by show({st.pJ (.slot s j) (cS Df off seg)with ep:=st.ep+1}:AS)=_;simp only[AS.pJ,hg,AS.put,eJ]
   have PO:∀t,fX st t->fX st' t:=λt ht=>by rw[jP];exact ht
   obtain⟨hle,IB,hll,_,hk1,_,Iz,Gi⟩:=h.M5 (.slot s) (by simp[eZ]) hn hl (st':=st') rfl (by rw[jP]) PO DW nT gw Bl;have dx:=la w' hw' st' seg jr rfl (by rw[jP]) PO DW nT gw Bl Gl;refine⟨_,h.step (λx=>¬cQ (some x)/\x≠ .slot s) hle h.defers ?_ ?_ Iz Gi (λb x hk hx=>hk1 b x hk.1 hk.2 hx) ?_ ?_ (λk u bv hk=>by simp at hk) (.inl ⟨⟨by simp[eZ],by simp⟩,by show st'.io=st.io;rw[jP]⟩)⟩;show _=st'.slots.length;rw[jP];simpa using h.size;show st'.boxes.length=st'.slots.length;rw[jP];simpa using h.bsize;intro i av hi;have rn:(st.slots.set s (.val gg (cS Df off seg)))[i]?=some av:=by have:st'.slots[i]?=some av:=hi;rw[jP]at this;exact this
   by_cases XB:i=s;subst XB;rw[bk]at rn;simp only[bN]at rn;split at rn;simp at rn;subst rn;exact .inr ⟨_,⟨vs,dM,dx⟩,IB,hll⟩;cases rn;rw[aN (cD XB)]at rn;exact .inl ⟨⟨by simp[eZ],by simpa using XB⟩,rn,rfl⟩;intro t mK hb;have gn:st.boxes[t]?=some (some mK):=by have:st'.boxes[t]?=some (some mK):=hb;rw[jP]at this;exact this
   exact .inl ⟨⟨by simp[eZ],by simp⟩,gn,rfl⟩
 |box s j=>
  have jq:st.boxes[s]?=some (some Df):=by simp only[AS.tD,dv]at eE;cases hb:st.boxes[s]? with|none=>simp[hb]at eE|some q=>rw[hb]at eE;simp at eE;rw[eE]
  have xq:s<st.boxes.length:=(aD.1 jq).1;obtain⟨arr,T,fr,fp,jh,qG,hr,hn,sO,hl,Gg,HV⟩:=h.boxes s Df jq;obtain⟨us,f1,f2,f3,rfl,P6,B8,FN,la⟩:=core (.box s) (by simp[eZ]) hr hn hl;refine⟨us,f2,P6,B8,FN,?_⟩;intro w' hw' seg jr DW nT gw Bl Gl;let st':AS:={st.pJ (.box s j) (cS Df off seg)with ep:=st.ep+1}
  have jP:st'={st with boxes:=st.boxes.set s (some (cS Df off seg)),ep:=st.ep+1}:=by show({st.pJ (.box s j) (cS Df off seg)with ep:=st.ep+1}:AS)=_;simp only[AS.pJ,AS.ed,eJ]
  have PO:∀t,fX st t->fX st' t:=λt ht=>by rw[jP];obtain⟨c0,WJ⟩:=ht;by_cases qH:s=t;subst qH;exact⟨cS Df off seg,by simp[xq]⟩;exact⟨c0,by rw[aN qH];exact WJ⟩
  obtain⟨hle,IB,hll,_,hk1,hk2,Iz,Gi⟩:=h.M5 (.box s) (by simp[eZ]) hn hl (st':=st') rfl (by rw[jP]) PO DW nT gw Bl;have dx:=la w' hw' st' seg jr rfl (by rw[jP]) PO DW nT gw Bl Gl;have ID:=hk2 (g.β s) Gg sO;refine⟨_,h.step (λx=>¬cQ (some x)/\x≠ .box s) hle h.defers ?_ ?_ Iz Gi (λb x hk hx=>hk1 b x hk.1 hk.2 hx) ?_ ?_ (λk u bv hk=>by simp at hk) (.inl ⟨⟨by simp[eZ],by simp⟩,by show st'.io=st.io;rw[jP]⟩)⟩;show _=st'.slots.length;rw[jP];exact h.size;show st'.boxes.length=st'.slots.length;rw[jP];simpa using h.bsize;intro i av hi;have rn:st.slots[i]?=some av:=by have:st'.slots[i]?=some av:=hi;rw[jP]at this;exact this
  exact .inl ⟨⟨by simp[eZ],by simp⟩,rn,rfl⟩;intro t mK hb;have gn:(st.boxes.set s (some (cS Df off seg)))[t]?=some (some mK):=by have:st'.boxes[t]?=some (some mK):=hb;rw[jP]at this;exact this
  by_cases qH:t=s;subst qH;rw[bk]at gn;simp only[bN,xq]at gn;simp at gn;subst gn;have HJ:g.β t∉f1++jr++f3:=by intro hm;simp only[ay]at hm;rcases hm with(hm|hm)|hm;exact sO (by simp[hm]);rcases(nT _ hm).2 with h2|h2;exact sO (by simp[h2]);have:=(h.fa _ _ Gg).1;omega;exact sO (by simp[hm])
  exact .inr ⟨arr,T,fr,_,ID.2.1.trans jh,qG,dx,IB,HJ,hll,ID.1,ID.2.2.trans HV⟩;rw[aN (cD qH)]at gn;exact .inl ⟨⟨by simp[eZ],by simpa using qH⟩,gn,rfl⟩
 |io j=>
  simp only[AS.tD,aZ]at eE;subst eE;obtain⟨fp,hr,hn,hl⟩:=h.io;obtain⟨us,f1,f2,f3,rfl,P6,B8,FN,la⟩:=core .io (by simp[eZ]) hr hn hl;refine⟨us,f2,P6,B8,FN,?_⟩;intro w' hw' seg jr DW nT gw Bl Gl;let st':AS:={st.pJ (.io j) (cS st.io off seg)with ep:=st.ep+1}
  have jP:st'={st with io:=cS st.io off seg,ep:=st.ep+1}:=rfl;have PO:∀t,fX st t->fX st' t:=λt ht=>by rw[jP];exact ht
  obtain⟨hle,IB,hll,_,hk1,_,Iz,Gi⟩:=h.M5 .io (by simp[eZ]) hn hl (st':=st') rfl (by rw[jP]) PO DW nT gw Bl;have dx:=la w' hw' st' seg jr rfl (by rw[jP]) PO DW nT gw Bl Gl;refine⟨_,h.step (λx=>¬cQ (some x)/\x≠ .io) hle h.defers ?_ ?_ Iz Gi (λb x hk hx=>hk1 b x hk.1 hk.2 hx) ?_ ?_ (λk u bv hk=>by simp at hk) (.inr ⟨_,dx,IB,hll⟩)⟩;exact h.size;exact h.bsize;intro i av hi;exact .inl ⟨⟨by simp[eZ],by simp⟩,hi,rfl⟩;intro t mK hb;exact .inl ⟨⟨by simp[eZ],by simp⟩,hb,rfl⟩
theorem H7:∀(os ss:au AC){r:au AC},my os ss=some r->ss.length=os.length:=by
 intro os
 induction os with
 |nil=>intro ss r h;cases ss with
  |nil=>rfl
  |cons _ _=>simp[my]at h
 |cons o os ih=>
  intro ss r h
  cases ss with
  |nil=>unfold my at h;split at h<;>first|contradiction|cases h
  |cons s ss=>
   unfold my at h
   split at h
   ·contradiction
   ·rename_i h1 h2
    injection h1 with h1 N3;subst N3
    injection h2 with h2 TS;subst TS
    rw[Bool.cond_eq_ite]at h
    split at h
    ·obtain⟨r',hr,h⟩:=aK.1 h
     simp[ih _ hr]
    ·cases h
   all_goals first
    |cases h
    |(rename_i h1 h2
      injection h1 with h1 N3;subst N3
      injection h2 with h2 TS;subst TS
      obtain⟨r',hr,h⟩:=aK.1 h
      simp[ih _ hr])
theorem KQ (h:dk C g st a w []):∀(xs:au Operand),xs.all (λx=>(st.rd x).fS)=true->mL A w (xs.map a.eval) (xs.map st.rd)
 |[],_=>trivial
 |x::xs,hf=>by simp only[bO,ah]at hf;exact⟨Ds (h.rd x) hf.1,KQ h xs hf.2⟩
theorem abK {w:World}{e:CT}{v:Value}{xs:au e.D}{Zr:dI}(h:dW hw w (.sl e) [v] xs Zr){n:Nat}{x:e.D}(hx:xs[n]?=some x): ∃b o0 cap arr T fr f1 fx f3,v=.slice (some ⟨b,o0,none⟩) xs.length cap/\w.heap[b]?=some (.cells arr T fr)/\ dW hw w e ((arr.toList.drop (o0+n*e.size)).take e.size) x fx/\Zr=b::(f1++fx++f3)/\ ∀(w':World)(hw':Nat->Nat)(x':e.D)(fx':dI),(∀b'∈b::(f1++f3),w'.heap[b']?=w.heap[b']?/\hw' b'=hw b')-> dW hw' w' e ((arr.toList.drop (o0+n*e.size)).take e.size) x' fx'->dW hw' w' (.sl e) [v] (xs.set n x') (b::(f1++fx'++f3)):=by
 obtain⟨u,hu,h⟩:=h;simp at hu;subst hu;have I3:n<xs.length:=(aD.1 hx).1;rcases h with⟨⟨_,rfl⟩,rfl,rfl⟩|⟨b,o0,cap,arr,T,fr,fps,rfl,hb,qG,hs,hc,hh,rfl,hl,hr⟩;simp at hx;have M0:fps[n]?=some fps[n]:=al (by omega);have HI:=Ch M0;refine⟨b,o0,cap,arr,T,fr,(fps.take n).flatten,fps[n],(fps.drop (n+1)).flatten,rfl,hb,hr n x _ hx M0,by rw[HI.1],?_⟩;intro w' hw' x' fx' hk eE;have QX:=hk b (by simp);refine⟨_,rfl,.inr ⟨b,o0,cap,arr,T,fr,fps.set n fx',by simp,QX.1.trans hb,qG,hs,by simpa using hc,by rw[QX.2];simpa using hh,by rw[HI.2],by simp[hl],?_⟩⟩;intro i y f hy hf;by_cases tU:i=n;subst tU;rw[bk]at hy hf;simp only[bN,I3]at hy;simp only[bN]at hf;rw[zip]at hf;simp at hy hf;subst hy;subst hf;exact eE;rw[aN (cD tU)]at hy hf;refine dW.mono (hr i y f hy hf) (λb' adf=>hk b' (dK _ ?_));have N9:i<fps.length:=(aD.1 hf).1;have hfi:fps[i]=f:=by rw[al N9]at hf;simpa using hf
 rcases Nat.lt_or_gt_of_ne tU with gq|hgt;refine bj _ (List.mem_flatten.2 ⟨f,?_,adf⟩);rw[List.mem_take_iff_getElem];exact⟨i,by omega,hfi⟩;refine ba _ (List.mem_flatten.2 ⟨f,?_,adf⟩);rw[List.mem_drop_iff_getElem];exact⟨i-(n+1),by omega,by rw[<-hfi];congr 1;omega⟩
theorem bp.single {vs:gP}(h:bp c vs [x] fp):∃v,vs=[v]/\gr c v x fp:=by cases vs with|nil=>exact h.elim|cons v vs=>obtain⟨f1,f2,rfl,h1,h2⟩:=h;cases vs with|nil=>cases h2;exact⟨v,rfl,by simpa using h1⟩|cons _ _=>exact h2.elim
theorem afd {g:Bool}{v:Value}{a b:gP}(h:Cut g v a)(k:Cut g v b):b=a:=by cases g with|true=>simp only[Cut,bN]at h k;have:=h.symm.trans k;simp at this;exact this.symm|false=>simp only[Cut]at h k;simp at h k;rw[h,k]
theorem afL (zw:∀f,kB P f (Γ f)){o':Oper}(ho:o'.op=.call {callee:=.value f,args,argTypes:=ts})(hg:dk C g st a w [])(hf:st.rd f=.val false [.fn k])(Jp:(Γ k).io=true){x0:Operand}{xs:au Operand}(eP:args.toList=x0::xs){gg:Bool}(WO:st.rd x0=.val gg cs){K:AS->aw R}(hk:Rs Γ o' k gg cs xs st K=some r)(next:Act->World->Prop)(Q:Exit->Act->World->Prop)(fB:∀st' a' w',nb C st' a' w'->K st'=some r->next a' w'):o'.wp P a w next Q:=by
 have FU:=hg.rd f;rw[hf]at FU;have FU:=(dE FU).1;unfold Rs at hk;split at hk
 ·rename_i ep rt t en i off e1 ws;split at hk
  ·rename_i Df eE;split at hk
   ·rename_i t' e ys hO;cases hc:((ep==st.ep)&&(t'==t)&&(en.size==e.size)&&xs.all (λx=>(st.rd x).fS))with
    |false=>rw[hc]at hk;cases hk
    |true=>
     rw[hc]at hk;simp only[af]at hk;simp only[ah,bC]at hc;obtain⟨⟨⟨xl,htt⟩,sR⟩,LQ⟩:=hc;subst htt;cases D7:idx ys i with
     |none=>rw[D7]at hk;cases hk
     |some x=>
      rw[D7]at hk;simp only[aa]at hk;split at hk
      ·rename_i tg0 e2 zs SH;cases eU:(Γ k).fn (.val gg [.sl (.own none) e2 zs]::xs.map st.rd)with
       |none=>rw[eU]at hk;cases hk
       |some y=>
        rw[eU]at hk;simp only at hk;split at hk
        ·rename_i tg e3 zs' adg;split at hk
         ·rename_i x' Zy;cases hfl:((Γ k).av y).fS with
          |false=>rw[hfl]at hk;cases hk
          |true=>
           rw[hfl]at hk;simp only[af]at hk;obtain⟨⟨fn,c,M0,Jm,vD⟩,_,pF,_⟩:=zw k _ y eU;have pF:=pF Jp gg _ (xs.map st.rd) rfl;have Jr:=hg.rd x0;rw[WO]at Jr;obtain⟨vs0,dM,Gk⟩:=Jr;obtain⟨v,rfl,aij⟩:=Gk.single;obtain⟨us,f2,P6,B8,FN,la⟩:=hg.adW rt eE rt.pos 1 (by rw[hO];rfl);rw[hO]at P6;obtain⟨u,rfl,adw⟩:=P6.single;obtain⟨n,tU,hxn⟩:=Oe D7;obtain⟨b,o0,cap,arr,T,fr,f1,fx,f3,hu,jh,HR,ag3,Eb⟩:=abK adw.1 hxn;obtain⟨_,n2,b2,o2,apv,Ug,ag6,Jo,_,_,zW⟩:=aij.2.2.2 xl;have hun:=(adw.2 t' rfl).2;rw[Jo,hu]at hun;simp only[Value.slice.injEq,aZ,Addr.mk.injEq]at hun;obtain⟨⟨rfl,rfl,_⟩,_,_⟩:=hun;have IB:n2=n:=by omega
           subst IB;rw[sR]at zW;have agW:arr[o0+n2*e.size+off]?=some v:=by rw[<-mH jh];exact zW
           have adx:=sa (c:=cq C g st w) HR;obtain⟨k1,k2,k3,hkx,r1,r2,r3⟩:=adx.mid off 1;rw[SH]at r2;obtain⟨v',SO,ahl⟩:=r2.single;have ZA:v'=v:=by
            have h0:(((arr.toList.drop (o0+n2*e.size)).take e.size).drop off).take 1=[v']:=SO;have h1:((((arr.toList.drop (o0+n2*e.size)).take e.size).drop off).take 1)[0]?=some v':=by rw[h0];rfl
            rw[cP]at h1;simp only[Nat.zero_lt_one,bN]at h1;rw[bH,cP]at h1;split at h1;rw[bH,bZ,dC,agW]at h1;simpa using h1.symm;cases h1
           subst ZA;have aft:=B8;rw[ag3,hkx]at aft;have sO:=cJ.1 aft;have m0:=sO.2;rw[aP]at m0;have m1:=aB.1 m0;have m2:=aB.1 m1.2.1;have m2a:=m2.1;rw[aP]at m2a;have m3:=aB.1 m2a;have m4:=aB.1 m3.2.1;have Zw:∀q∈k2,q∈f2:=λq hq=>by rw[ag3,hkx];simp[hq]
           have Cl:=pF (λ_ _ _=>False) w (a.eval x0) (xs.map a.eval) g.hw k2 (λ_ _ _ hf=>hf.elim) ⟨[v'],dM,k2,[],by simp,⟨ahl.1,by simp⟩,rfl⟩ m4.1 (λq hq=>(FN q (Zw q hq)).1) (KQ hg xs LQ);have N4:(a.eval x0::xs.map a.eval).toArray=args.map a.eval:=by apply dQ;simp[eP]
           rw[N4]at Cl;have dA:(execOp a.eval o').run P w=.ok (.enter k (args.map a.eval)) w:=by simp[execOp,ho,resolve,FU,Deferred.ofValue,invoke,callFunc,M0,Jm];simpa using vD
           unfold Oper.wp;rw[dA,Oper.upon_enter];refine Cl.mono ?_;rintro e' w' ⟨vr,hw',frr,hY,rfl,dx,⟨vs1,Jn,hbk⟩,D9,B7,gw⟩;show next (a.put o'.dst vr) w'
           have hvs:=afd dM Jn;subst hvs;rw[adg]at hbk;obtain⟨v2,LV,aoF⟩:=hbk.single;simp only[List.cons.injEq,gR]at LV;subst LV;have zG:∀q,q∈f2->q∉k2->q∉hY:=λq hq XF hm=>by rcases(B7 q hm).2 with h2|h2;exact XF h2;have:=(FN q hq).1;omega
           have ji:∀q,(q=b\/q∈f1\/q∈k1\/q∈k3\/q∈f3)->q∈f2/\q∉k2:=by intro q hq;constructor;rw[ag3,hkx];rcases hq with hq|hq|hq|hq|hq<;>simp[hq];intro h2;rcases hq with hq|hq|hq|hq|hq;subst hq;exact sO.1 (by simp[h2]);exact m1.2.2 q hq q (by simp[h2]) rfl;exact m3.2.2 q hq q (by simp[h2]) rfl;exact m4.2.2 q h2 q hq rfl;exact m2.2.2 q (by simp[h2]) q hq rfl
           have aoU:(b::(f1++(k1++hY++k3)++f3)).Nodup:=by refine cJ.2 ⟨λhm=>?_,?_⟩;simp only[ay]at hm;rcases hm with(hm|((hm|hm)|hm))|hm;exact sO.1 (by simp[hm]);exact sO.1 (by simp[hm]);exact zG b (ji b (.inl rfl)).1 (ji b (.inl rfl)).2 hm;exact sO.1 (by simp[hm]);exact sO.1 (by simp[hm]);have Xy:∀q,(q∈f1\/q∈k1\/q∈k3\/q∈f3)->q∉hY:=λq hq=>zG q (ji q (.inr hq)).1 (ji q (.inr hq)).2;rw[aP];refine aB.2 ⟨m1.1,aB.2 ⟨?_,m2.2.1,?_⟩,?_⟩;rw[aP];refine aB.2 ⟨m3.1,aB.2 ⟨D9,m4.2.1,?_⟩,?_⟩;rintro c hc d hd rfl;exact Xy c (by simp[hd]) hc;rintro c hc d hd rfl;rcases ay.1 hd with hd|hd;exact Xy c (by simp[hc]) hd;exact m3.2.2 c hc c (ba _ hd) rfl;rintro c hc d hd rfl;simp only[ay]at hc;rcases hc with(hc|hc)|hc;exact m2.2.2 c (by simp[hc]) c hd rfl;exact Xy c (by simp[hd]) hc;exact m2.2.2 c (by simp[hc]) c hd rfl;rintro c hc d hd rfl;simp only[ay]at hd;rcases hd with((hd|hd)|hd)|hd;exact m1.2.2 c hc c (by simp[hd]) rfl;exact Xy c (by simp[hc]) hd;exact m1.2.2 c hc c (by simp[hd]) rfl;exact m1.2.2 c hc c (by simp[hd]) rfl
           have ado:i.toNat=n2:=by omega
           obtain⟨g',mI⟩:=la w' (λq=>if q∈hY then hw' q else g.hw q) [.sl (.own (some t')) e (ys.set n2 x')] (b::(f1++(k1++hY++k3)++f3)) aoU
            (λq hq=>by
             have hz:=gw.size;by_cases hm:q∈hY;refine⟨(B7 q hm).1,?_⟩;rcases(B7 q hm).2 with h2|h2;exact .inl (Zw q h2);exact .inr h2;have h2:q∈f2:=by refine(ji q ?_).1;simp only[cg,ay]at hq;rcases hq with hq|(hq|((hq|hq)|hq))|hq;exact .inl hq;simp[hq];simp[hq];exact absurd hq hm;simp[hq];simp[hq]
             exact⟨by have:=(FN q h2).1;omega,.inl h2⟩)
            ⟨gw.os,gw.tape,gw.output,gw.size,λq hq hm=>gw.block q hq (λh2=>hm (Zw q h2))⟩
            (λq hq hm=>by
             have:q∉hY:=λh2=>by rcases(B7 q h2).2 with h3|h3;exact hm (Zw q h3);omega
             simp[this])
            (λc' hle MD Bi=>by
             have lH:∀q,(q=b\/q∈f1\/q∈k1\/q∈k3\/q∈f3)->c'.w.heap[q]?=w.heap[q]?/\c'.hw q=g.hw q:=by intro q hq;have h2:=ji q hq;rw[MD,Bi];exact⟨gw.block q (FN q h2.1).1 h2.2,by simp[zG q h2.1 h2.2]⟩
             have UN:bp c' [v'] [.sl (.own none) e3 zs'] hY:=by refine⟨hY,[],by simp,⟨?_,by simp⟩,rfl⟩;have h0:dW hw' w' (.sl e3) [v'] zs' hY:=aoF.1;refine dW.mono h0 (λq hq=>?_);rw[MD,Bi];exact⟨rfl,by simp[hq]⟩
             have Jt:=IV (c':=c') (vs:=(arr.toList.drop (o0+n2*e.size)).take e.size) (us:=[v']) (cs:=cellsOf e (.own none) x) (off:=off) (n:=1) SO.symm rfl (r1.mono hle (λq hq=>lH q (by simp[hq]))) UN (r3.mono hle (λq hq=>lH q (by simp[hq])));obtain⟨q1,q2,hq,XE,XF⟩:=oc Jt Zy;have hln:((arr.toList.drop (o0+n2*e.size)).take e.size).length=e.size:=dW.length HR;rw[cK (by omega)]at XF;have adu:q2=[]:=XF;subst adu;rw[bB (by omega)]at XE;rw[br]at hq;subst hq;have hO':=Eb c'.w c'.hw x' _ (λq hq=>lH q (by simp only[cg,ay]at hq;rcases hq with hq|hq|hq<;>simp[hq])) XE;refine⟨_,[],by simp,⟨hO',λq hq=>?_⟩,rfl⟩;cases hq;have h1:=adw.2 t' rfl;exact⟨(hle.hdr t' h1.1).1,by rw[(hle.hdr t' h1.1).2];exact h1.2⟩)
           rw[ado]at hk;exact fB _ _ _ ⟨g',mI.quiet o'.dst (Ds dx hfl)⟩ hk
         cases hk
        cases hk
      cases hk
   cases hk
  cases hk
 cases hk
theorem ais (zw:∀f,kB P f (Γ f)){o':Oper}(ho:o'.op=.call {callee:=.value f,args,argTypes:=ts})(hg:dk C g st a w [])(hf:st.rd f=.val false [.fn k])(Jp:(Γ k).io=true){K:AS->aw R}(hk:ioC Γ o' k args.toList st K=some r)(next:Act->World->Prop)(Q:Exit->Act->World->Prop)(fB:∀st' a' w',nb C st' a' w'->K st'=some r->next a' w'):o'.wp P a w next Q:=by
 have FU:=hg.rd f;rw[hf]at FU;have FU:=(dE FU).1;unfold ioC at hk;split at hk
 ·rename_i x0 xs eP;split at hk
  ·rename_i gg cs WO;split at hk
   ·rename_i rt j N8;split at hk
    ·rename_i Df eE;split at hk
     ·rename_i mK Gl;cases LQ:(xs.all λx=>(st.rd x).fS)with
      |false=>rw[LQ]at hk;cases hk
      |true=>
       rw[LQ]at hk;simp only[af]at hk;cases eU:(Γ k).fn (.val gg mK::xs.map st.rd)with
       |none=>rw[eU]at hk;cases hk
       |some y=>
        rw[eU]at hk;simp only[aa]at hk;split at hk
        ·rename_i seg adg;cases hfl:((Γ k).av y).fS with
         |false=>rw[hfl]at hk;cases hk
         |true=>
          rw[hfl]at hk;simp only[af]at hk;obtain⟨⟨fn,c,M0,Jm,vD⟩,_,pF,_⟩:=zw k _ y eU;have pF:=pF Jp gg mK (xs.map st.rd) rfl;have Jr:=hg.rd x0;rw[WO]at Jr;obtain⟨vs0,dM,Gk⟩:=Jr;have SH:=H7 _ _ Gl;obtain⟨us,f2,P6,B8,FN,la⟩:=hg.adW rt eE (rt.pos-j) cs.length SH;have agU:=O2 (A:=λ_ _ _=>False) _ _ Gl Gk P6;have Cl:=pF (λ_ _ _=>False) w (a.eval x0) (xs.map a.eval) g.hw f2 (λ_ _ _ hf=>hf.elim) ⟨vs0,dM,agU⟩ B8 (λb hb=>(FN b hb).1) (KQ hg xs LQ);have N4:(a.eval x0::xs.map a.eval).toArray=args.map a.eval:=by apply dQ;simp[eP]
          rw[N4]at Cl;have dA:(execOp a.eval o').run P w=.ok (.enter k (args.map a.eval)) w:=by simp[execOp,ho,resolve,FU,Deferred.ofValue,invoke,callFunc,M0,Jm];simpa using vD
          unfold Oper.wp;rw[dA,Oper.upon_enter];refine Cl.mono ?_;rintro e w' ⟨v,hw',fr,hY,rfl,dx,⟨vs1,Jn,hbk⟩,D9,B7,gw⟩;show next (a.put o'.dst v) w'
          have hvs:vs1=vs0:=by cases gg with|true=>simp only[Cut,bN]at dM Jn;have:=dM.symm.trans Jn;simp at this;exact this.symm|false=>simp only[Cut]at dM Jn;simp at dM Jn;rw[dM,Jn]
          subst hvs;let hwn:Nat->Nat:=λb=>if b∈hY then hw' b else g.hw b
          obtain⟨g',mI⟩:=la w' (λb=>if b∈hY then hw' b else g.hw b) seg hY D9 B7 gw (λb hb hm=>by
           have:b∉hY:=λhm'=>by rcases(B7 b hm').2 with h2|h2;exact hm h2;omega
           simp[this]) (λc' hle MD Bi=>by
           refine VR (A:=λ_ _ _=>False) (hw':=hw') hle _ _ _ adg Gk P6 (by rw[MD];exact hbk) (λb hb=>by rw[Bi];simp[hb]))
          refine fB _ _ _ ⟨g',mI.quiet o'.dst (Ds dx hfl)⟩ hk
        cases hk
     cases hk
    cases hk
   ·exact afL zw ho hg hf Jp eP WO hk next Q fB
  cases hk
 cases hk
theorem Im {A':Rg}{mk:Nat->aw Nat}{k:Bool}(hA:A' true=c.A k):∀{vs:gP}{xs:au AC}{fp:dI}(j:Nat),bp (eD A' hw c.w) vs xs fp->xs.all (AC.zU true)=true->
 (∀b∈fp,c.hw b=hw b)->(∀i v,vs[i]?=some v->∀t,mk (j+i)=some t->c.iss t/\v=c.hdr t)->bp c vs (pj k mk j xs) fp
 |[],[],_,_,h,_,_,_=>h
 |v::_,x::_,_,j,h,jZ,hh,hm=>by
  obtain⟨f1,f2,rfl,h1,h2⟩:=h;simp only[bO,ah]at jZ;refine⟨f1,f2,rfl,?_,Im hA (j+1) h2 jZ.2 (λb hb=>hh b (ba _ hb)) (λi u hu t ht=>hm (i+1) u (by simpa using hu) t (by rwa[show j+(i+1)=j+1+i by omega]))⟩;have Bl:∀b∈f1,c.hw b=hw b:=λb hb=>hh b (bj _ hb);have ht:∀t,mk j=some t->c.iss t/\v=c.hdr t:=λt ht=>hm 0 v rfl t ht;have jZ:=jZ.1;cases x with
  |sl fl e xs=>
   cases fl with
   |own t=>exact⟨dW.mono h1.1 (λb hb=>⟨rfl,Bl b hb⟩),ht⟩
   |arg k'=>
    have hk:k'=true:=by simpa[AC.zU]using jZ
    subst hk;exact⟨h1.1,by rw[<-hA];exact h1.2⟩
   |loc _ _=>cases jZ
   |nest _ _ _ _ _ _=>cases jZ
   |part _ _ _ _=>cases jZ
   |eQ _ _ _=>cases jZ
  |int _ _=>exact h1
  |bool _=>exact h1
  |str _=>exact h1
  |fn _=>exact h1
  |jl=>cases jZ
  |ptr _ _=>cases jZ
  |Cg _ _ _ _ _=>cases jZ
  |un=>cases jZ
  |bot=>cases jZ
 |[],_::_,_,_,h,_,_,_=>h.elim
 |_::_,[],_,_,h,_,_,_=>h.elim
theorem Ko {A':Rg}{w:World}{k:Bool}:∀{cs:au AC},cs.all (AC.zU k)=true->∀{c:RC}{vs:gP}{fp:dI},bp c vs cs fp->c.w=w->c.hw=hw->A' true=c.A k->bp (eD A' hw w) vs (cs.map AC.TG) fp
 |[],_,c,vs,fp,h,_,_,_=>by cases vs with|nil=>exact h|cons _ _=>exact h.elim
 |x::cs,jZ,c,vs,fp,h,MD,Bi,hA=>by
  cases vs with
  |nil=>exact h.elim
  |cons v vs=>
   obtain⟨f1,f2,rfl,h1,h2⟩:=h;simp only[bO,ah]at jZ;refine⟨f1,f2,rfl,?_,Ko jZ.2 h2 MD Bi hA⟩;have jZ:=jZ.1;cases x with
   |sl fl e xs=>
    cases fl with
    |own t=>exact⟨by have:=h1.1;rw[MD,Bi]at this;exact this,by simp⟩
    |arg k'=>
     have hk:k'=k:=by simpa[AC.zU]using jZ
     subst hk;exact⟨h1.1,by have:=h1.2;rw[MD,<-hA]at this;exact this⟩
    |loc _ _=>cases jZ
    |nest _ _ _ _ _ _=>cases jZ
    |part _ _ _ _=>cases jZ
    |eQ _ _ _=>cases jZ
   |int _ _=>exact h1
   |bool _=>exact h1
   |str _=>exact h1
   |fn _=>exact h1
   |jl=>cases jZ
   |ptr _ _=>cases jZ
   |Cg _ _ _ _ _=>cases jZ
   |un=>cases jZ
   |bot=>cases jZ
theorem Rm (h:dk C g st a w [])(s:Nat){A':Rg}(hA:∀b o,(cq C g st w).S b o/\b<w.heap.size/\g.dB b≠some (.box s)->A' false b o):∀(xs:au Operand),xs.all (DC st)=true->
 mL A' w (xs.map a.eval) (xs.map (CI st))
 |[],_=>trivial
 |x::xs,hx=>by
  simp only[bO,ah]at hx;refine⟨?_,Rm h s hA xs hx.2⟩;have hx:=hx.1;cases x with
  |const _=>exact Ds (h.rd _) hx
  |func _=>exact Ds (h.rd _) hx
  |global _=>exact Ds (h.rd _) hx
  |tmp t=>
   have eE:∀(t0:Nat){e:CT}{v:Value}{xs:au e.D}{fp:dI},dW g.hw w (.sl e) [v] xs fp->(∀b∈fp,g.dB b=some (.slot t0))->iU w (A' false) (.sl e) [v] xs:=by
    intro t0 e v xs fp h1 hl;have h3:dW (λb=>if b∈fp then g.hw b else 0) w (.sl e) [v] xs fp:=dW.mono h1 (λb hb=>⟨rfl,by simp[hb]⟩)
    exact dW.rep (λb o ho=>by
     by_cases hb:b∈fp;have ho:o<g.hw b:=by simpa[hb]using ho
     have QY:=hl b hb;exact hA b o ⟨.inr ho,(h.fa b _ QY).1,by rw[QY];simp⟩;simp[hb]at ho) h3
   obtain⟨fp,hr,hn,hl⟩:=h.slot t;simp only[DC]at hx;show fy _ (a.tmps.getD t undef) (CI st (.tmp t)) _;simp only[CI];cases hv:st.get t with
   |vq _=>rw[hv]at hx;cases hx
   |val gg cs=>
    rw[hv]at hx hr;simp only at hx;obtain⟨vs,dM,hr⟩:=hr
    have key:∀(cs:au AC)(vs:gP)(fp:dI),(cs.map st.Qb).all AC.KI=true->(∀b∈fp,g.dB b=some (.slot t))->bp (cq C g st w) vs cs fp->
     bp (eD A' (λ_=>0) w) vs (cs.map st.Qb) []:=by
     intro cs
     induction cs with
     |nil=>intro vs fp _ _ h;cases vs with
      |nil=>rfl
      |cons _ _=>exact h.elim
     |cons c cs ih=>
      intro vs fp hc hl hr
      cases vs with
      |nil=>exact hr.elim
      |cons v vs=>
       obtain⟨f1,f2,rfl,h1,h2⟩:=hr
       simp only[List.map_cons,bO,ah]at hc
       refine⟨[],[],rfl,?_,ih vs f2 hc.2 (λb hb=>hl b (ba _ hb)) h2⟩
       have hc:=hc.1
       cases c with
       |sl fl e xs=>
        cases fl with
        |own tag=>exact⟨rfl,eE t h1.1 (λb hb=>hl b (bj _ hb))⟩
        |arg k=>exact⟨rfl,iU.mono (λb o u hs hu=>⟨hA b o ⟨.inl ⟨k,hs⟩,World.block_lt_of_cell? w _ hu,λhb=>h.K1 hb k o hs⟩,hu⟩) h1.2⟩
        |loc ep pv=>
         cases pv with
         |none=>cases hc
         |some q=>
          obtain⟨r,tg⟩:=q
          cases r with
          |box _ _=>cases hc
          |io _=>cases hc
          |slot b j=>
           have LV:=(h1.2.2.2.2 (.slot b j) tg rfl).2
           simp only[AS.Qb]at hc⊢
           cases UQ:st.ew (.slot b j)with
           |none=>rw[UQ]at hc;cases hc
           |some c0=>
            rw[UQ]at hc
            split at hc
            ·rename_i t' e' ys WJ
             split at hc
             ·rename_i ht
              subst ht
              cases WJ
              rw[aF rfl]
              obtain⟨fp2,P4,_,zH⟩:=h.slot b
              simp only[AS.ew]at UQ
              cases hgb:st.get b with
              |vq _=>rw[hgb]at UQ;cases UQ
              |val g2 FR=>
               rw[hgb]at UQ P4
               simp only at UQ
               obtain⟨vs2,_,P4⟩:=P4
               rw[dv]at UQ
               obtain⟨v2,f3,_,Ob,pG⟩:=P4.get j _ UQ
               have ao7:v=v2:=by have:=(Ob.2 t' rfl).2;rw[LV,this]
               rw[ao7]
               exact⟨rfl,eE b Ob.1 (λb' gn=>zH b' (pG b' gn))⟩
             ·cases hc
            ·cases hc
        |nest _ _ _ _ _ _=>cases hc
        |part _ _ _ _=>cases hc
        |eQ _ _ _=>cases hc
       |int _ _=>exact⟨h1.1,rfl⟩
       |bool _=>exact⟨h1.1,rfl⟩
       |str _=>exact⟨h1.1,rfl⟩
       |fn _=>exact⟨h1.1,rfl⟩
       |jl=>cases hc
       |ptr _ _=>cases hc
       |Cg _ _ _ _ _=>cases hc
       |un=>cases hc
       |bot=>cases hc
    exact⟨vs,dM,key cs vs fp hx hl hr⟩
theorem dk.ae8 (h:dk C g st a w [])(s:Nat)(jq:st.boxes[s]?=some (some cs)): ∃arr T fr fp,w.heap[g.β s]?=some (.cells arr T fr)/\pL arr fr/\bp (cq C g st w) arr.toList cs fp/\fp.Nodup/\g.β s∉fp/\(∀b∈fp,b<w.heap.size)/\g.hw (g.β s)=0/\(∀b,b=g.β s\/b∈fp->g.dB b=some (.box s))/\ ∀(w':World)(hw':Nat->Nat)(iJ:Array Value)(T':TypeId)(QV:Nat×Nat)(mK:au AC)(hY fv:dI)(A':Rg)(k:Bool),Fr (λb=>b=g.β s\/b∈fp) w w'->w'.heap[g.β s]?=some (.cells iJ T' QV)->pL iJ QV-> A' true=C.A k->bp (eD A' hw' w') iJ.toList mK hY->mK.all (AC.zU true)=true->hY.Nodup->g.β s∉hY->(∀b∈hY,b<w'.heap.size/\(b∈fp\/w.heap.size<=b))-> (∀b∈fv,b<w'.heap.size/\(b∈fp\/w.heap.size<=b)/\b∉hY/\b≠g.β s)-> ∃g',dk C g' (Zf st s (pj k (st.gV (some s)) 0 mK)) a w' []/\(∀b∈fv,g'.dB b=some (.hand 0)/\g'.hw b=hw' b)/\∀b,b<w.heap.size->g.dB b≠some (.box s)->g'.hw b=g.hw b:=by
 obtain⟨arr,T,fr,fp,jh,qG,hr,hn,sO,hl,Gg,HV⟩:=h.boxes s cs jq;have xq:s<st.boxes.length:=(aD.1 jq).1;have Oa:∀b,b=g.β s\/b∈fp->g.dB b=some (.box s):=by rintro b (rfl|hb);exact Gg;exact hl b hb
 refine⟨arr,T,fr,fp,jh,qG,hr,hn,sO,λb hb=>(h.fa b _ (hl b hb)).1,HV,Oa,?_⟩;intro w' hw' iJ T' QV mK hY fv A' k gw Jl UT hA' uR ahg Bm HJ KT FU;let bx':au AC:=pj k (st.gV (some s)) 0 mK;let st':AS:=Zf st s bx';let hw2:Nat->Nat:=λb=>if b∈hY\/b∈fv then hw' b else if b=g.β s then 0 else g.hw b
 let adY:Nat->aw iT:=λb=>if b=g.β s\/b∈hY then some (.box s) else if b∈fv then some (.hand 0) else g.dB b
 let g':Gh:=⟨hw2,g.β,adY,qE g.hdr (st.gV (some s)) iJ.toList⟩
 have uI:st'.boxes=st.boxes.set s (some bx'):=by show((st.ed s (some bx')).eX (some s)).boxes=_;rw[Cd,kb]
 have Od:st'.slots=st.slots:=by show((st.ed s (some bx')).eX (some s)).slots=_;rw[vj];rfl
 have Jp:st'.io=st.io:=by show((st.ed s (some bx')).eX (some s)).io=_;rw[JN];rfl
 have FO:∀t,ll st t->ll st' t:=λt ht=>by have h1:ll (st.ed s (some bx')) t:=ht;exact Em (d:=some s) h1
 have PO:∀t,fX st t->fX st' t:=by rintro t ⟨c0,WJ⟩;by_cases qH:s=t;subst qH;exact⟨bx',by rw[uI];simp[xq]⟩;exact⟨c0,by rw[uI,aN qH];exact WJ⟩
 have UN:∀b,b<w.heap.size->g.dB b≠some (.box s)->b∉hY/\b∉fv/\b≠g.β s:=by intro b hb QY;refine⟨λhm=>?_,λhm=>?_,λhm=>QY (Oa b (.inl hm))⟩;rcases(KT b hm).2 with h2|h2;exact QY (Oa b (.inr h2));omega;rcases(FU b hm).2.1 with h2|h2;exact QY (Oa b (.inr h2));omega
 have lH:∀b x,x≠ .box s->g.dB b=some x->adY b=some x/\w'.heap[b]?=w.heap[b]?/\hw2 b=g.hw b:=by intro b x hx hb;have HP:=(h.fa b x hb).1;have hnm:¬(b=g.β s\/b∈fp):=λhm=>hx (by have:=Oa b hm;rw[hb]at this;simpa using this);obtain⟨n1,n2,n3⟩:=UN b HP (by rw[hb];simpa using hx);refine⟨?_,gw.block b HP hnm,?_⟩;show(if b=g.β s\/b∈hY then _ else if b∈fv then _ else _)=_;rw[aE (by rintro(h1|h1);exact n3 h1;exact n1 h1),aE n2];exact hb;show(if b∈hY\/b∈fv then _ else if b=g.β s then _ else _)=_;rw[aE (by rintro(h1|h1);exact n1 h1;exact n2 h1),aE n3]
 have Xx:∀k b o u,C.A k b o->w.cell? ⟨b,o,none⟩=some u->w'.cell? ⟨b,o,none⟩=some u:=by intro k b o u hA hu;have hb:b<w.heap.size:=World.block_lt_of_cell? w _ hu;rw[World.cell?_of_block (a:=⟨b,o,none⟩) (gw.block b hb (λhm=>h.K1 (Oa b hm) k o hA))];exact hu
 have hle:(cq C g st w).Le (cq C g' st' w'):=⟨rfl,λt ht=>⟨FO t ht,Bk ht⟩,Xx,Nat.le_succ _,λt ht=>⟨PO t ht,rfl⟩,λhe=>absurd he (Nat.succ_ne_self _)⟩
 refine⟨g',h.step (λx=>x≠ .box s) hle h.defers ?_ ?_ ?_ ?_ (λb x hk hb=>lH b x hk hb) ?_ ?_ (λk u bv hk=>by simp at hk) (.inl ⟨by simp,Jp⟩),λb hb=>?_,λb hb QY=>?_⟩;rw[Od];exact h.size;rw[Od,uI,aJ];exact h.bsize;refine h.frame.trans gw (λb hb hm=>?_);rcases(h.fa b _ (Oa b hm)).2 with h2|h2;omega;exact h2;intro b x hx;have zY:(if b=g.β s\/b∈hY then some (iT.box s) else if b∈fv then some (.hand 0) else g.dB b)=some x:=hx;have hz:=gw.size;have hold:b∈fp\/w.heap.size<=b->C.w0.heap.size<=b\/C.M b:=by rintro(h2|h2);exact(h.fa b _ (hl b h2)).2;exact .inl (aH h.frame.size h2)
 split at zY;rename_i hm;rcases hm with rfl|hm;have:=h.fa _ _ Gg;exact⟨by omega,this.2⟩;exact⟨(KT b hm).1,hold (KT b hm).2⟩;split at zY;rename_i hm;exact⟨(FU b hm).1,hold (FU b hm).2.1⟩;have:=h.fa b x zY;exact⟨by omega,this.2⟩;intro i av hi;rw[Od]at hi;exact .inl ⟨by simp,hi,rfl⟩;intro t FR hb;rw[uI]at hb;by_cases qH:t=s;subst qH;rw[bk]at hb;simp only[bN,xq]at hb;simp at hb;subst hb;refine .inr ⟨iJ,T',QV,hY,Jl,UT,?_,Bm,HJ,λb hb=>?_,?_,?_⟩
 have:=Im (c:=cq C g' st' w') (A':=A') (hw:=hw') (mk:=st.gV (some t)) (k:=k) hA' 0 (vs:=iJ.toList) (xs:=mK) (fp:=hY) uR ahg
  (λb hb=>by show(if b∈hY\/b∈fv then _ else _)=_;rw[aF (.inl hb)])
  (λi u hu q hq=>by
   rw[cc]at hq;have hm:=py hq;have Zx:ll st' q:=by have h1:st.gV (some t) i=some q:=hq;have h2:(st.ed t (some bx')).gV (some t) i=some q:=h1;exact(py h2).2.1
   exact⟨Zx,Bj hu hq⟩)
 exact this;show(if b=g.β t\/b∈hY then _ else _)=_;rw[aF (.inr hb)];show(if g.β t=g.β t\/g.β t∈hY then _ else _)=_;rw[aF (.inl rfl)];show(if g.β t∈hY\/g.β t∈fv then _ else if g.β t=g.β t then _ else _)=_;rw[aE (by rintro(h1|h1);exact HJ h1;exact(FU _ h1).2.2.2 rfl),aF rfl];rw[aN (cD qH)]at hb;exact .inl ⟨by simpa using qH,hb,rfl⟩;obtain⟨_,_,h3,h4⟩:=FU b hb;refine⟨?_,?_⟩;show(if b=g.β s\/b∈hY then _ else if b∈fv then _ else _)=_;rw[aE (by rintro(h1|h1);exact h4 h1;exact h3 h1),aF hb];show(if b∈hY\/b∈fv then _ else _)=_;rw[aF (.inr hb)];obtain⟨n1,n2,n3⟩:=UN b hb QY;show(if b∈hY\/b∈fv then _ else if b=g.β s then _ else _)=_;rw[aE (by rintro(h1|h1);exact n1 h1;exact n2 h1),aE n3]
theorem Sd:∀{vs:gP}{cs:au AC}{fp:dI},bp c vs cs fp->cs.all AC.I6=true->fp=[]
 |[],[],_,h,_=>h
 |[],_::_,_,h,_=>h.elim
 |_::_,[],_,h,_=>h.elim
 |v::vs,x::cs,fp,h,hx=>by
  obtain⟨f1,f2,rfl,h1,h2⟩:=h;simp only[bO,ah]at hx;rw[Sd h2 hx.2,br];have hx:=hx.1;cases x with
  |sl fl e xs=>cases fl<;>first|exact h1.1|cases hx
  |int k n=>exact h1.2
  |bool b=>exact h1.2
  |str s=>exact h1.2
  |fn f=>exact h1.2
  |jl=>cases hx
  |ptr _ _=>cases hx
  |Cg _ _ _ _ _=>cases hx
  |un=>cases hx
  |bot=>cases hx
theorem dk.acJ (h:dk C g st a w [])(s:Nat)(jq:st.boxes[s]?=some (some cs))(KS:cs.all AC.I6=true): ∀(w':World)(hw':Nat->Nat)(iJ:Array Value)(T':TypeId)(QV:Nat×Nat)(mK:au AC)(hY fv:dI)(A':Rg)(k:Bool),Fr (λb=>b=g.β s) w w'->w'.heap[g.β s]?=some (.cells iJ T' QV)->pL iJ QV-> A' true=C.A k->bp (eD A' hw' w') iJ.toList mK hY->mK.all (AC.zU true)=true->hY.Nodup->g.β s∉hY->(∀b∈hY,b<w'.heap.size/\w.heap.size<=b)-> (∀b∈fv,b<w'.heap.size/\w.heap.size<=b/\b∉hY/\b≠g.β s)-> ∃g',dk C g' (st.ed s (some (pj k (λ_=>none) 0 mK))) a w' []/\(∀b∈fv,g'.dB b=some (.hand 0)/\g'.hw b=hw' b)/\∀b,b<w.heap.size->g.dB b≠some (.box s)->g'.hw b=g.hw b:=by
 obtain⟨arr,T,fr,fp,jh,qG,hr,hn,sO,hl,Gg,HV⟩:=h.boxes s cs jq;have agZ:fp=[]:=Sd hr KS;subst agZ;have xq:s<st.boxes.length:=(aD.1 jq).1;intro w' hw' iJ T' QV mK hY fv A' k gw Jl UT hA' uR ahg Bm HJ KT FU;let bx':au AC:=pj k (λ_=>none) 0 mK;let st':AS:=st.ed s (some bx');let hw2:Nat->Nat:=λb=>if b∈hY\/b∈fv then hw' b else if b=g.β s then 0 else g.hw b
 let adY:Nat->aw iT:=λb=>if b=g.β s\/b∈hY then some (.box s) else if b∈fv then some (.hand 0) else g.dB b
 let g':Gh:=⟨hw2,g.β,adY,g.hdr⟩
 have uI:st'.boxes=st.boxes.set s (some bx'):=by show(st.ed s (some bx')).boxes=_;rw[kb]
 have PO:∀t,fX st t->fX st' t:=by rintro t ⟨c0,WJ⟩;by_cases qH:s=t;subst qH;exact⟨bx',by rw[uI];simp[xq]⟩;exact⟨c0,by rw[uI,aN qH];exact WJ⟩
 have hold:∀b,b<w.heap.size->b∉hY/\b∉fv:=by intro b hb;refine⟨λhm=>?_,λhm=>?_⟩;have:=(KT b hm).2;omega;have:=(FU b hm).2.1;omega
 have Bl:∀b,b<w.heap.size->b≠g.β s->hw2 b=g.hw b:=by intro b hb Ea;show(if b∈hY\/b∈fv then _ else if b=g.β s then _ else _)=_;rw[aE (by rintro(h1|h1);exact(hold b hb).1 h1;exact(hold b hb).2 h1),aE Ea]
 have lH:∀b x,x≠ .box s->g.dB b=some x->adY b=some x/\w'.heap[b]?=w.heap[b]?/\hw2 b=g.hw b:=by intro b x hx hb;have HP:=(h.fa b x hb).1;have Ea:b≠g.β s:=λhm=>hx (by rw[hm,Gg]at hb;simpa using hb.symm);refine⟨?_,gw.block b HP Ea,Bl b HP Ea⟩;show(if b=g.β s\/b∈hY then _ else if b∈fv then _ else _)=_;rw[aE (by rintro(h1|h1);exact Ea h1;exact(hold b HP).1 h1),aE (hold b HP).2];exact hb
 have Xx:∀k b o u,C.A k b o->w.cell? ⟨b,o,none⟩=some u->w'.cell? ⟨b,o,none⟩=some u:=by intro k b o u hA hu;have hb:b<w.heap.size:=World.block_lt_of_cell? w _ hu;rw[World.cell?_of_block (a:=⟨b,o,none⟩) (gw.block b hb (λhm=>h.K1 (by rw[hm];exact Gg) k o hA))];exact hu
 have hle:(cq C g st w).Le (cq C g' st' w'):=by
  refine⟨rfl,λt ht=>⟨ht,rfl⟩,Xx,aX _,λt ht=>⟨PO t ht,rfl⟩,λ_ b o u ho hu=>?_⟩;have hb:b<w.heap.size:=World.block_lt_of_cell? w _ hu;have MF:o<g.hw b:=ho;have Ea:b≠g.β s:=λe=>by rw[e,HV]at MF;omega
  refine⟨by show o<hw2 b;rw[Bl b hb Ea];exact MF,?_⟩;show w'.cell? ⟨b,o,none⟩=some u;rw[World.cell?_of_block (a:=⟨b,o,none⟩) (gw.block b hb Ea)];exact hu
 refine⟨g',h.step (λx=>x≠ .box s) hle h.defers h.size ?_ ?_ ?_ (λb x hk hb=>lH b x hk hb) ?_ ?_ (λk u bv hk=>by simp at hk) (.inl ⟨by simp,rfl⟩),λb hb=>?_,λb hb QY=>?_⟩;rw[uI,aJ];exact h.bsize;refine h.frame.trans gw (λb hb hm=>?_);have hm:b=g.β s:=hm;subst hm;rcases(h.fa _ _ Gg).2 with h2|h2;omega;exact h2;intro b x hx;have zY:(if b=g.β s\/b∈hY then some (iT.box s) else if b∈fv then some (.hand 0) else g.dB b)=some x:=hx;have hz:=gw.size;split at zY;rename_i hm;rcases hm with rfl|hm;have:=h.fa _ _ Gg;exact⟨by omega,this.2⟩;exact⟨(KT b hm).1,.inl (aH h.frame.size (KT b hm).2)⟩;split at zY;rename_i hm;exact⟨(FU b hm).1,.inl (aH h.frame.size (FU b hm).2.1)⟩;have:=h.fa b x zY;exact⟨by omega,this.2⟩;intro i av hi;exact .inl ⟨by simp,hi,rfl⟩;intro t FR hb;rw[uI]at hb;by_cases qH:t=s;subst qH;rw[bk]at hb;simp only[bN,xq]at hb;simp at hb;subst hb;refine .inr ⟨iJ,T',QV,hY,Jl,UT,?_,Bm,HJ,λb hb=>?_,?_,?_⟩;have:=Im (c:=cq C g' st' w') (A':=A') (hw:=hw') (mk:=λ_=>none) (k:=k) hA' 0 (vs:=iJ.toList) (xs:=mK) (fp:=hY) uR ahg (λb hb=>by show(if b∈hY\/b∈fv then _ else _)=_;rw[aF (.inl hb)]) (λi u hu q hq=>by cases hq);exact this;show(if b=g.β t\/b∈hY then _ else _)=_;rw[aF (.inr hb)];show(if g.β t=g.β t\/g.β t∈hY then _ else _)=_;rw[aF (.inl rfl)];show(if g.β t∈hY\/g.β t∈fv then _ else if g.β t=g.β t then _ else _)=_;rw[aE (by rintro(h1|h1);exact HJ h1;exact(FU _ h1).2.2.2 rfl),aF rfl];rw[aN (cD qH)]at hb;exact .inl ⟨by simpa using qH,hb,rfl⟩;obtain⟨_,_,h3,h4⟩:=FU b hb;refine⟨?_,?_⟩;show(if b=g.β s\/b∈hY then _ else if b∈fv then _ else _)=_;rw[aE (by rintro(h1|h1);exact h4 h1;exact h3 h1),aF hb];show(if b∈hY\/b∈fv then _ else _)=_;rw[aF (.inr hb)];exact Bl b hb (λe=>QY (by rw[e];exact Gg))
theorem agO (zw:∀f,kB P f (Γ f)){o':Oper}(ho:o'.op=.call {callee:=.value f,args,argTypes:=ts})(hg:dk C g st a w [])(hf:st.rd f=.val false [.fn k])(jq:(Γ k).bx=true){K:AS->aw R}(hk:vx Γ o' k args.toList st K=some r)(next:Act->World->Prop)(Q:Exit->Act->World->Prop)(fB:∀st' a' w',nb C st' a' w'->K st'=some r->next a' w'):o'.wp P a w next Q:=by
 have FU:=hg.rd f;rw[hf]at FU;have FU:=(dE FU).1;unfold vx at hk;split at hk
 ·rename_i x0 xs eP;split at hk
  ·rename_i s WO;split at hk
   ·rename_i cs TU;have hb:st.boxes[s]?=some (some cs):=by rw[dv]at TU;cases hq:st.boxes[s]? with|none=>rw[hq]at TU;simp at TU|some q=>rw[hq]at TU;simp at TU;rw[TU]
    cases hc:(cs.all (AC.zU (Ff cs))&&xs.all (DC st))with
    |false=>rw[hc]at hk;cases hk
    |true=>
     rw[hc]at hk;simp only[af]at hk;simp only[ah]at hc;cases eU:(Γ k).fn (.val true (cs.map AC.TG)::xs.map (CI st))with
     |none=>rw[eU]at hk;cases hk
     |some y=>
      rw[eU]at hk;simp only[aa]at hk;cases Xw:(((Γ k).back y).all (AC.zU true)&&((Γ k).av y).abx)with
      |false=>rw[Xw]at hk;cases hk
      |true=>
       rw[Xw]at hk;simp only[af]at hk;simp only[ah]at Xw;obtain⟨⟨fn,c,M0,Jm,vD⟩,_,_,pF,_⟩:=zw k _ y eU;have pF:=pF jq _ _ rfl;have Jr:=hg.rd x0;rw[WO]at Jr;have vo:=CM Jr;obtain⟨arr,T,fr,fp,jh,qG,dx,hn,sO,gq,HV,FP,la⟩:=hg.ae8 s hb;let A':Rg:=λq b o=>bif q then C.A (Ff cs) b o else((cq C g st w).S b o/\b<w.heap.size/\g.dB b≠some (.box s))
       have hA':∀q b' o,A' q b' o->b'<w.heap.size/\b'≠g.β s/\b'∉fp:=by
        intro q b' o hq;have key:b'<w.heap.size/\g.dB b'≠some (.box s):=by cases q with|true=>have hq:C.A (Ff cs) b' o:=hq;exact⟨gy (C.hA _ _ _ hq).1 hg.frame.size,λhb=>hg.K1 hb _ o hq⟩|false=>exact hq.2
        exact⟨key.1,λe=>key.2 (FP b' (.inl e)),λe=>key.2 (FP b' (.inr e))⟩
       have Cl:=pF A' w (g.β s) (xs.map a.eval) arr T fr g.hw fp hA' jh qG (Ko (k:=Ff cs) hc.1 dx rfl rfl rfl) hn sO gq HV (Rm hg s (λb o h=>h) xs hc.2);have ao3:a.eval x0=.pointer (some ⟨g.β s,0,none⟩):=vo;have N4:(Value.pointer (some ⟨g.β s,0,none⟩)::xs.map a.eval).toArray=args.map a.eval:=by apply dQ;simp[eP,ao3]
       rw[N4]at Cl;have dA:(execOp a.eval o').run P w=.ok (.enter k (args.map a.eval)) w:=by simp[execOp,ho,resolve,FU,Deferred.ofValue,invoke,callFunc,M0,Jm];simpa using vD
       unfold Oper.wp;rw[dA,Oper.upon_enter];refine Cl.mono ?_;rintro e w' ⟨v,hw',fv,iJ,T',QV,hY,rfl,QZ,Jl,UT,uR,Bm,HJ,KT,hnv,adn,gw⟩;show next (a.put o'.dst v) w'
       have tail:∀(st1:AS)(g':Gh),dk C g' st1 a w' []->(∀b∈fv,g'.dB b=some (.hand 0)/\g'.hw b=hw' b)->(∀b,b<w.heap.size->g.dB b≠some (.box s)->g'.hw b=g.hw b)->
        K ((st1.eX o'.dst).put o'.dst (((Γ k).av y).Fg st1.ep (st1.gV o'.dst)))=some r->next (a.put o'.dst v) w':=by
        intro st1 g' mI hlv hold hk
        have hAS:∀(hd:Nat->Value)(q:Bool)(b o:Nat),A' q b o->(cq C {g' with hdr:=hd} (st1.eX o'.dst) w').S b o:=by intro hd q b o hq;cases q with|true=>exact .inl ⟨_,hq⟩|false=>rcases hq.1 with hs|hs;exact .inl hs;exact .inr (by show o<g'.hw b;rw[hold b hq.2.1 hq.2.2];exact hs)
        have adl:∀b∈fv,g'.hw b=hw' b:=λb hb=>(hlv b hb).2
        have uR:∃hd,(∀t,ll st1 t->hd t=g'.hdr t)/\fy (cq C {g' with hdr:=hd} (st1.eX o'.dst) w') v (((Γ k).av y).Fg st1.ep (st1.gV o'.dst)) fv:=by
         generalize (Γ k).av y=y at QZ;cases y with
         |val gg cs=>obtain⟨vs,dM,hr⟩:=QZ;refine⟨qE g'.hdr (st1.gV o'.dst) vs,λt ht=>Bk ht,vs,dM,?_⟩;have:=Cb (c:=cq C {g' with hdr:=qE g'.hdr (st1.gV o'.dst) vs} (st1.eX o'.dst) w') (mk:=st1.gV o'.dst) (hAS _) 0 hr adl (λi u hu t ht=>by rw[cc]at ht;exact⟨(py ht).2.1,Bj hu ht⟩);have xl:(cq C {g' with hdr:=qE g'.hdr (st1.gV o'.dst) vs} (st1.eX o'.dst) w').ep=st1.ep:=Bc;rw[xl]at this;exact this
         |vq ts=>obtain⟨ws,hv,hr⟩:=QZ;obtain⟨all,FM⟩:=K2 hr;refine⟨qE g'.hdr (st1.gV o'.dst) all,λt ht=>Bk ht,ws,hv,?_⟩;have:=Ox (c:=cq C {g' with hdr:=qE g'.hdr (st1.gV o'.dst) all} (st1.eX o'.dst) w') (mk:=st1.gV o'.dst) (hAS _) FM 0 adl (λi u hu t ht=>by rw[cc]at ht;exact⟨(py ht).2.1,Bj hu ht⟩);have xl:(cq C {g' with hdr:=qE g'.hdr (st1.gV o'.dst) all} (st1.eX o'.dst) w').ep=st1.ep:=Bc;rw[xl]at this;exact this
        obtain⟨hd,hhd,uR⟩:=uR
        obtain⟨g2,IA⟩:=mI.OU o'.dst (hw':=g'.hw) (hdr':=hd) (fp:=fv) (st1:=st1.eX o'.dst) JN vj Cd Bc (λt ht=>⟨Em ht,hhd t ht⟩)
         (Fr.refl _ _) (λ_ _ _ _=>rfl) (λ_ _ _ ho hu=>⟨ho,hu⟩) uR hnv (λb hb=>⟨(adn b hb).1,.inl (by rw[(hlv b hb).1];rfl)⟩)
        exact fB _ _ _ ⟨g2,IA⟩ hk
       cases hcur:((Γ k).cur&&cs.all AC.I6)with
       |false=>rw[hcur]at hk;obtain⟨g',mI,hlv,hold⟩:=la w' hw' iJ T' QV ((Γ k).back y) hY fv A' (Ff cs) gw Jl UT rfl uR Xw.1 Bm HJ KT adn;exact tail _ g' mI hlv hold hk
       |true=>rw[hcur]at hk;simp only[ah]at hcur;have agZ:fp=[]:=Sd dx hcur.2;subst agZ;obtain⟨g',mI,hlv,hold⟩:=hg.acJ s hb hcur.2 w' hw' iJ T' QV ((Γ k).back y) hY fv A' (Ff cs) ⟨gw.os,gw.tape,gw.output,gw.size,λb hb hm=>gw.block b hb (λhh=>hm (hh.resolve_right (by simp)))⟩ Jl UT rfl uR Xw.1 Bm HJ (λb hb=>⟨(KT b hb).1,(KT b hb).2.resolve_left (by simp)⟩) (λb hb=>⟨(adn b hb).1,(adn b hb).2.1.resolve_left (by simp),(adn b hb).2.2⟩);exact tail _ g' mI hlv hold hk
   cases hk
  cases hk
 cases hk
theorem arg_val (hA:c'.A=c.A)(hw:c'.w=c.w){v:Value}{x:AV}(h:fy c v x fp)(hx:x.KI=true):fp=[]/\fy c' v x []:=by
 cases x with
 |vq _=>cases hx
 |val g cs=>
  obtain⟨vs,dM,h⟩:=h
  have key:∀(cs:au AC)(vs:gP)(fp:dI),bp c vs cs fp->cs.all AC.KI=true->fp=[]/\bp c' vs cs []:=by
   intro cs
   induction cs with
   |nil=>intro vs fp h _;cases vs with
    |nil=>exact⟨h,rfl⟩
    |cons _ _=>exact h.elim
   |cons x cs ih=>
    intro vs fp h hx
    cases vs with
    |nil=>exact h.elim
    |cons v vs=>
     obtain⟨f1,f2,rfl,h1,h2⟩:=h
     simp only[bO,ah]at hx
     obtain⟨rfl,k2⟩:=ih vs f2 h2 hx.2
     have hx:=hx.1
     have one:f1=[]/\gr c' v x []:=by
      cases x with
      |sl fl e xs=>cases fl with|arg k=>exact⟨h1.1,rfl,by rw[hA,hw];exact h1.2⟩|own _=>cases hx|loc _ _=>cases hx|nest _ _ _ _ _ _=>cases hx|part _ _ _ _=>cases hx|eQ _ _ _=>cases hx
      |int _ _=>exact lr h1 rfl
      |bool _=>exact lr h1 rfl
      |str _=>exact lr h1 rfl
      |fn _=>exact lr h1 rfl
      |jl=>cases hx
      |ptr _ _=>cases hx
      |Cg _ _ _ _ _=>cases hx
      |un=>cases hx
      |bot=>cases hx
     obtain⟨rfl,k1⟩:=one
     exact⟨rfl,[],[],rfl,k1,k2⟩
  obtain⟨e,k⟩:=key cs vs fp h hx;exact⟨e,vs,dM,k⟩
theorem T8 (h:dk C g st a w []):∀(xs:au Operand),xs.all (λx=>(st.rd x).KI)=true->mL C.A w (xs.map a.eval) (xs.map st.rd)
 |[],_=>trivial
 |x::xs,hf=>by simp only[bO,ah]at hf;exact⟨(arg_val (c:=cq C g st w) (c':=eD C.A (λ_=>0) w) rfl rfl (h.rd x) hf.1).2,T8 h xs hf.2⟩
theorem ahu (zw:∀f,kB P f (Γ f)){o':Oper}(ho:o'.op=.call {callee:=.value f,args,argTypes:=ts})(hg:dk C g st a w [])(hf:st.rd f=.val false [.fn k])(PO:(Γ k).pr=true){K:AS->aw R}(hk:aby Γ o' k args.toList st K=some r)(next:Act->World->Prop)(Q:Exit->Act->World->Prop)(fB:∀st' a' w',nb C st' a' w'->K st'=some r->next a' w'):o'.wp P a w next Q:=by
 have FU:=hg.rd f;rw[hf]at FU;have FU:=(dE FU).1;unfold aby at hk;split at hk
 ·rename_i d hd;split at hk
  ·rename_i I4;cases hc:args.toList.all (λx=>(st.rd x).KI)with
   |false=>rw[hc]at hk;cases hk
   |true=>
    rw[hc]at hk;simp only[af]at hk;cases eU:(Γ k).fn (args.toList.map st.rd)with
    |none=>rw[eU]at hk;cases hk
    |some y=>
     rw[eU]at hk;simp only[aa]at hk;cases Xw:((Γ k).back y).all AC.KI with
     |false=>rw[Xw]at hk;cases hk
     |true=>
      rw[Xw]at hk;simp only[af]at hk;obtain⟨⟨fn,c,M0,Jm,vD⟩,_,_,_,pF⟩:=zw k _ y eU;have Cl:=pF PO C.A w (args.toList.map a.eval) (λq b o hq=>gy (C.hA q b o hq).1 hg.frame.size) (T8 hg _ hc);have eP:(args.toList.map a.eval).toArray=args.map a.eval:=by apply dQ;simp
      rw[eP]at Cl;have dA:(execOp a.eval o').run P w=.ok (.enter k (args.map a.eval)) w:=by simp[execOp,ho,resolve,FU,Deferred.ofValue,invoke,callFunc,M0,Jm];simpa using vD
      unfold Oper.wp;rw[dA,Oper.upon_enter];refine Cl.mono ?_;rintro e w' ⟨b,arr,T,fr,hw,rfl,hb,jh,qG,dx,gw⟩;show next (a.put o'.dst (.pointer (some ⟨b,0,none⟩))) w'
      rw[dv]at I4;have HP:=lQ jh;have Ea:∀b' x,g.dB b'=some x->b'≠b:=λb' x hx e=>by have:=(hg.fa b' x hx).1;omega
      have hr1:bp ⟨λb'=>if b'=b then 0 else g.hw b',λt=>if t=d then b else g.β t,C.A,g.hdr,ll st,st.ep,fX st,w'⟩ arr.toList ((Γ k).back y) []:=by
       have hv:fy (eD C.A hw w') (.agg arr.toList.toArray) (.val true ((Γ k).back y)) []:=⟨arr.toList,rfl,dx⟩
       obtain⟨_,vs,dM,h⟩:=arg_val (c:=eD C.A hw w') (c':=⟨λb'=>if b'=b then 0 else g.hw b',λt=>if t=d then b else g.β t,C.A,g.hdr,ll st,st.ep,fX st,w'⟩) rfl rfl hv Xw;have:arr.toList=vs:=by have dM:Value.agg arr.toList.toArray=.agg vs.toArray:=dM;simp only[Value.agg.injEq]at dM;simpa using congrArg Array.toList dM
       rw[this];exact h
      obtain⟨g',ID,h'⟩:=hg.W4 d (cs:=(Γ k).back y) (arr:=arr) (T:=T) (fr:=fr) (fp:=[]) (w':=w') (bnew:=b) (hw':=λb'=>if b'=b then 0 else g.hw b') (.inr ⟨hb,I4⟩) ⟨gw.os,gw.tape,gw.output,gw.size,λb' gn _=>gw.block b' gn (λm=>m)⟩ jh qG HP (by simp) (λb' x hx _ hn=>by simp[hn]) (λb' o u ho hu=>by have gn:b'<w.heap.size:=World.block_lt_of_cell? w _ hu;exact⟨by simp[show b'≠b by omega];exact ho,AP gw hu⟩) hr1 List.nodup_nil (by simp) (λb' gn=>by cases gn);have hdl:d<st.boxes.length:=(aD.1 I4).1;have hq:=h'.quiet (some d) (v:=.pointer (some ⟨b,0,none⟩)) (av:=.one (.ptr d 0)) (mu ⟨by simp[cq,ID],⟨(Γ k).back y,by rw[kb];simp[hdl]⟩,rfl⟩);rw[hd];exact fB _ _ _ ⟨g',hq⟩ hk
  cases hk
 cases hk
theorem afa (zw:∀f,kB P f (Γ f)){o':Oper}(ho:o'.op=.call {callee:=.value f,args,argTypes:=ts})(h:nb C st a w){K:AS->aw R}(hk:Fh Γ o' f args.toList st K=some r)(next:Act->World->Prop)(Q:Exit->Act->World->Prop)(fB:∀st' a' w',nb C st' a' w'->K st'=some r->next a' w'):o'.wp P a w next Q:=by
 obtain⟨g,hg⟩:=h;unfold Fh at hk;split at hk
 ·rename_i k hf
  have FU:=hg.rd f
  rw[hf]at FU
  have FU:=(dE FU).1
  cases jq:(Γ k).bx with
  |true=>rw[jq]at hk;exact agO zw ho hg hf jq hk next Q fB
  |false=>
  rw[jq]at hk
  simp only[ae]at hk
  cases PO:(Γ k).pr with
  |true=>rw[PO]at hk;exact ahu zw ho hg hf PO hk next Q fB
  |false=>
  rw[PO]at hk
  simp only[ae]at hk
  cases Jp:(Γ k).io with
  |true=>rw[Jp]at hk;exact ais zw ho hg hf Jp hk next Q fB
  |false=>
  rw[Jp]at hk
  simp only[ae]at hk
  cases eU:(Γ k).fn (args.toList.map λx=>((st.rd x).fresh st).asArg st.ep)with
  |none=>rw[eU]at hk;cases hk
  |some y0=>
   rw[eU]at hk
   simp only[aa]at hk
   obtain⟨⟨fn,c,M0,Jm,vD⟩,pF,_⟩:=zw k _ y0 eU
   have pF:=pF Jp jq
   have hk:K ((st.eX o'.dst).put o'.dst (((Γ k).res y0).Fg st.ep (st.gV o'.dst)))=some r:=by unfold zy.res;cases P5:(Γ k).sel y0 with|true=>rw[P5]at hk;exact hk|false=>rw[P5]at hk;exact hk
   generalize hy0:(Γ k).res y0=y at hk pF
   have Cl:=pF (λ_ b o=>(cq C g st w).S b o/\b<w.heap.size) w (args.toList.map a.eval) (λ_ _ _ h=>h.2) (T9 hg args.toList)
   have eP:(args.toList.map a.eval).toArray=args.map a.eval:=by apply dQ;simp
   rw[eP]at Cl
   have dA:(execOp a.eval o').run P w=.ok (.enter k (args.map a.eval)) w:=by simp[execOp,ho,resolve,FU,Deferred.ofValue,invoke,callFunc,M0,Jm];simpa using vD
   unfold Oper.wp
   rw[dA,Oper.upon_enter]
   refine Cl.mono ?_
   rintro e w' ⟨v,hw,fp,rfl,dx,D9,B7,gw⟩
   show next (a.put o'.dst v) w'
   let hw':Nat->Nat:=λb=>if b∈fp then hw b else g.hw b
   have SK:∀b,b<w.heap.size->b∉fp:=λb hb hm=>by have:=(B7 b hm).1;omega
   have hA':∀(hd:Nat->Value)(_:Bool)(b o:Nat),((cq C g st w).S b o/\b<w.heap.size)->(cq C {g with hw:=hw',hdr:=hd} (st.eX o'.dst) w').S b o:=by rintro hd _ b o ⟨hs,hb⟩;rcases hs with hs|hs;exact .inl hs;exact .inr (by simp only[cq,hw',aE (SK b hb)];exact hs)
   have uR:∃hd,(∀t,ll st t->hd t=g.hdr t)/\fy (cq C {g with hw:=hw',hdr:=hd} (st.eX o'.dst) w') v (y.Fg st.ep (st.gV o'.dst)) fp:=by
    have adl:∀b∈fp,hw' b=hw b:=λb hb=>by simp[hw',hb]
    cases y with
    |val gg cs=>obtain⟨vs,dM,hr⟩:=dx;refine⟨qE g.hdr (st.gV o'.dst) vs,λt ht=>Bk ht,vs,dM,?_⟩;have:=Cb (c:=cq C {g with hw:=hw',hdr:=qE g.hdr (st.gV o'.dst) vs} (st.eX o'.dst) w') (mk:=st.gV o'.dst) (hA' _) 0 hr adl (λi u hu t ht=>by rw[cc]at ht;exact⟨(py ht).2.1,Bj hu ht⟩);have xl:(cq C {g with hw:=hw',hdr:=qE g.hdr (st.gV o'.dst) vs} (st.eX o'.dst) w').ep=st.ep:=Bc;rw[xl]at this;exact this
    |vq ts=>obtain⟨ws,hv,hr⟩:=dx;obtain⟨all,FM⟩:=K2 hr;refine⟨qE g.hdr (st.gV o'.dst) all,λt ht=>Bk ht,ws,hv,?_⟩;have:=Ox (c:=cq C {g with hw:=hw',hdr:=qE g.hdr (st.gV o'.dst) all} (st.eX o'.dst) w') (mk:=st.gV o'.dst) (hA' _) FM 0 adl (λi u hu t ht=>by rw[cc]at ht;exact⟨(py ht).2.1,Bj hu ht⟩);have xl:(cq C {g with hw:=hw',hdr:=qE g.hdr (st.gV o'.dst) all} (st.eX o'.dst) w').ep=st.ep:=Bc;rw[xl]at this;exact this
   obtain⟨hd,hhd,uR⟩:=uR
   obtain⟨g',mI⟩:=hg.OU o'.dst (hw':=hw') (hdr':=hd) (fp:=fp) (st1:=st.eX o'.dst) JN vj Cd Bc (λt ht=>⟨Em ht,hhd t ht⟩)
    ⟨gw.os,gw.tape,gw.output,gw.size,λb hb _=>gw.block b hb (λm=>m)⟩ (λb x hx _=>by simp[hw',SK b (hg.fa b x hx).1])
    (λb o u ho hu=>by have hb:b<w.heap.size:=World.block_lt_of_cell? w _ hu;exact⟨by simp[hw',SK b hb];exact ho,AP gw hu⟩) uR D9 (λb hb=>⟨(B7 b hb).2,.inr (B7 b hb).1⟩)
   exact fB _ _ _ ⟨g',mI⟩ hk
 cases hk
end Go.Dn
