import Derived.Test.YtinkcmefgciifaaGreatDnOps8
/- A call by value: what a callee promises, and what the caller makes of it. -/
namespace Go.Dn
open Go.RowKit
variable {P:Program} {C:Ctx} {st:AS} {a:Act} {w:World} {R:Type} {r:R}
variable {x:AC} {args:Array Operand} {ts:Array TypeId} {Γ:yk} {g:Gh} {hw:Nat->Nat} {hdr:Nat->Value} {f:Operand} {c c':RC} {v:Value} {cs:ax AC} {d:ay Nat} {fp:fy} {all:iG}
def fK (A:Rg)(hw:Nat->Nat)(w:World):RC:=⟨hw,λ_=>0,A,λ_=>undef,λ_=>False,0,λ_=>False,w⟩
def pA (A:Rg)(w:World):iG->ax AV->Prop
 |[],[]=>True
 |v::vs,x::xs=>fX (fK A (λ_=>0) w) v x []/\pA A w vs xs
 |_,_=>False
def anK (P:Program)(f:Nat)(F:jj)(y:F.R)(g:Bool)(cs:ax AC)(rest:ax AV):Prop:=
 ∀(A:Rg)(w:World)(v0:Value)(vs:iG)(hw:Nat->Nat)(fp:fy),(∀k b o,A k b o->b<w.heap.size/\b∉fp)->fX (fK A hw w) v0 (.val g cs) fp->fp.Nodup->(∀b∈fp,b<w.heap.size)->pA A w vs rest->
  Calls P f (v0::vs).toArray w λe w'=>∃v hw' fr jZ,e=.returned v/\fX (fK A hw' w') v (F.av y) fr/\fX (fK A hw' w') v0 (.val g (F.back y)) jZ/\jZ.Nodup/\
   (∀b∈jZ,b<w'.heap.size/\(b∈fp\/w.heap.size<=b))/\Fr (λb=>b∈fp) w w'
def ajn (P:Program)(f:Nat)(F:jj)(y:F.R)(cs:ax AC)(rest:ax AV):Prop:=
 ∀(A:Rg)(w:World)(b:Nat)(vs:iG)(arr:Array Value)(T:TypeId)(fr:Nat×Nat)(hw:Nat->Nat)(fp:fy),(∀k b' o,A k b' o->b'<w.heap.size/\b'≠b/\b'∉fp)->
  w.heap[b]?=some (.cells arr T fr)->px arr fr->bD (fK A hw w) arr.toList cs fp->fp.Nodup->b∉fp->(∀b'∈fp,b'<w.heap.size)->hw b=0->pA A w vs rest->
  Calls P f (.pointer (some ⟨b,0,none⟩)::vs).toArray w λe w'=>∃v hw' fv iU T' Nw jZ,e=.returned v/\fX (fK A hw' w') v (F.av y) fv/\w'.heap[b]?=some (.cells iU T' Nw)/\px iU Nw/\
   bD (fK A hw' w') iU.toList (F.back y) jZ/\jZ.Nodup/\b∉jZ/\(∀b'∈jZ,b'<w'.heap.size/\(b'∈fp\/w.heap.size<=b'))/\fv.Nodup/\(∀b'∈fv,b'<w'.heap.size/\(b'∈fp\/w.heap.size<=b')/\b'∉jZ/\b'≠b)/\Fr (λb'=>b'=b\/b'∈fp) w w'
def agq (P:Program)(f:Nat)(F:jj)(y:F.R)(xs:ax AV):Prop:=
 ∀(A:Rg)(w:World)(vs:iG),(∀k b o,A k b o->b<w.heap.size)->pA A w vs xs->
  Calls P f vs.toArray w λe w'=>∃b arr T fr hw,e=.returned (.pointer (some ⟨b,0,none⟩))/\w.heap.size<=b/\w'.heap[b]?=some (.cells arr T fr)/\px arr fr/\bD (fK A hw w') arr.toList (F.back y) []/\Fr (λ_=>False) w w'
def gM (P:Program)(f:Nat)(F:jj):Prop:=
 ∀(xs:ax AV)(y:F.R),F.fn xs=some y->
  (∃fn c,P.funcs[f]?=some fn/\fn.body=some c/\(fn.name== "runtime.NumGoroutine")=false)/\
  (F.io=false->F.bx=false->∀(A:Rg)(w:World)(vs:iG),(∀k b o,A k b o->b<w.heap.size)->pA A w vs xs->
    Calls P f vs.toArray w λe w'=>∃v hw fp,e=.returned v/\fX (fK A hw w') v (F.res y) fp/\fp.Nodup/\(∀b∈fp,w.heap.size<=b/\b<w'.heap.size)/\Fr (λ_=>False) w w')/\
  (F.io=true->∀g cs rest,xs=.val g cs::rest->anK P f F y g cs rest)/\
  (F.bx=true->∀cs rest,xs=.val true cs::rest->ajn P f F y cs rest)/\
  (F.pr=true->agq P f F y xs)
theorem qG (h:gK c v x fp)(hf:x.jo=true):fp=[]/\gK c' v x []:=by cases x with|int k n=>exact⟨h.2,h.1,rfl⟩|bool b=>exact⟨h.2,h.1,rfl⟩|str s=>exact⟨h.2,h.1,rfl⟩|fn f=>exact⟨h.2,h.1,rfl⟩|_=>cases hf
theorem EM {c':RC}:∀{vs:iG}{xs:ax AC}{fp:fy},bD c vs xs fp->xs.all AC.jo=true->fp=[]/\bD c' vs xs []
 |[],[],_,h,_=>⟨h,rfl⟩
 |_::_,_::_,_,h,hf=>by obtain⟨f1,f2,rfl,h1,h2⟩:=h;simp only[cc,ae]at hf;obtain⟨rfl,k1⟩:=qG (c':=c') h1 hf.1;obtain⟨rfl,k2⟩:=EM (c':=c') h2 hf.2;exact⟨rfl,[],[],rfl,k1,k2⟩
 |[],_::_,_,h,_=>h.elim
 |_::_,[],_,h,_=>h.elim
theorem Rt:∀{ws:iG}{ts:ax (Bool×ax AC)}{fp:fy},fX.qe c ws ts fp->(ts.all λx=>x.2.all AC.jo)=true->fX.qe c' ws ts []
 |[],[],_,_,_=>rfl
 |_::_,_::_,_,h,hf=>by obtain⟨f1,f2,rfl,⟨vs,hv,h1⟩,h2⟩:=h;simp only[cc,ae]at hf;exact⟨[],[],rfl,⟨vs,hv,(EM h1 hf.1).2⟩,Rt h2 hf.2⟩
 |[],_::_,_,h,_=>h.elim
 |_::_,[],_,h,_=>h.elim
theorem KD {x:AV}(h:fX c v x fp)(hf:x.jo=true):fX c' v x []:=by
 cases x with
 |val g cs=>obtain⟨vs,hv,h⟩:=h;exact⟨vs,hv,(EM h hf).2⟩
 |uW ts=>obtain⟨ws,hv,h⟩:=h;exact⟨ws,hv,Rt h hf⟩
theorem WJ {A:Rg}:∀(os ss:ax AC){r:ax AC}{vs us:iG}{f:fy},np os ss=some r->bD c vs os []->bD c us ss f->bD (fK A c.hw c.w) vs r f:=by
 intro os;induction os with
 |nil=>intro ss r vs us f h hv hu;cases ss with|cons _ _=>simp[np]at h|nil=>simp[np]at h;subst h;cases vs with|cons _ _=>exact hv.elim|nil=>cases us with|cons _ _=>exact hu.elim|nil=>exact hu
 |cons o os ih=>
  intro ss r vs us f h hv hu;cases vs with
  |nil=>exact hv.elim
  |cons v vs=>
   cases ss with
   |nil=>unfold np at h;split at h<;>first|contradiction|cases h
   |cons s ss=>
    cases us with
    |nil=>exact hu.elim
    |cons u us=>
     obtain⟨g1,g2,hg,hv1,PK⟩:=hv;have e1:g1=[]:=by have:=hg.symm;simp at this;exact this.1
     have e2:g2=[]:=by have:=hg.symm;simp at this;exact this.2
     subst e1;subst e2;obtain⟨f1,f2,rfl,hu1,hu2⟩:=hu;have fl:∀{x:AC}{r'},x.jo=true->s.jo=true->o=x->np os ss=some r'->r=x::r'->bD (fK A c.hw c.w) (v::vs) r (f1++f2):=by rintro x r' hx hs rfl hr rfl;obtain⟨rfl,_⟩:=qG (c':=c) hu1 hs;exact⟨[],f2,rfl,(qG hv1 hx).2,ih ss hr PK hu2⟩
     unfold np at h;split at h;contradiction;rename_i ep rt t e0 xs0 os' t' e xs ss' h1 h2;injection h1 with h1 Ml;subst h1;subst Ml;injection h2 with h2 QK;subst h2;subst QK;cases ht:(t'==t)with
     |false=>rw[ht]at h;cases h
     |true=>
      have:t'=t:=by simpa using ht
      subst this;rw[ht]at h;simp only[ah]at h;obtain⟨r',hr,h⟩:=aO.1 h;cases h;have PJ:=(hv1.2.2.2.2 rt t' rfl).2;have PI:=(hu1.2 t' rfl).2;have huv:u=v:=PI.trans PJ.symm;subst huv;exact⟨f1,f2,rfl,⟨hu1.1,by simp⟩,ih _ hr PK hu2⟩
     rename_i k n os' k' n' ss' h1 h2;injection h1 with h1 Ml;subst Ml;injection h2 with h2 QK;subst h2;subst QK;obtain⟨r',hr,h⟩:=aO.1 h;cases h;exact fl (x:=.int k n) rfl rfl h1 hr rfl;rename_i k os' k' ss' h1 h2;injection h1 with h1 Ml;subst Ml;injection h2 with h2 QK;subst h2;subst QK;obtain⟨r',hr,h⟩:=aO.1 h;cases h;exact fl (x:=.bool k) rfl rfl h1 hr rfl;rename_i k os' k' ss' h1 h2;injection h1 with h1 Ml;subst Ml;injection h2 with h2 QK;subst h2;subst QK;obtain⟨r',hr,h⟩:=aO.1 h;cases h;exact fl (x:=.str k) rfl rfl h1 hr rfl;cases h
theorem Uj (h:gK c v x fp):gK (fK (λ_ b o=>c.S b o/\b<c.w.heap.size) (λ_=>0) c.w) v (x.asArg c.ep) []:=by
 have hS:∀{e:CT}{xs:ax e.D},jc c.w c.S (.sl e) [v] xs->jc c.w (λb o=>c.S b o/\b<c.w.heap.size) (.sl e) [v] xs:=λhr=>
  jc.mono (λb o u hs hu=>⟨⟨hs,World.block_lt_of_cell? c.w _ hu⟩,hu⟩) hr
 cases x with|int k n=>exact⟨h.1,rfl⟩|bool b=>exact⟨h.1,rfl⟩|str s=>exact⟨h.1,rfl⟩|jB=>exact⟨h.1,rfl⟩|fn f=>exact⟨h.1,rfl⟩|ptr s off=>exact rfl|un=>exact rfl|bot=>exact rfl|zX fl e y i off=>exact rfl|sl fl e xs=>cases fl with|nest _ _ _ _ _ _=>exact rfl|part _ _ _ _=>exact rfl|fi _ _ _=>exact rfl|own t=>exact⟨rfl,hS (fg.rep (λb o ho=> .inr ho) h.1)⟩|arg k=>exact⟨rfl,hS (jc.mono (λb o u hs hu=>⟨.inl ⟨k,hs⟩,hu⟩) h.2)⟩|loc ep pv=>simp only[AC.asArg];split;rename_i he;exact⟨rfl,hS (h.2.2.2.1 (by simpa using he))⟩;exact rfl
theorem Iq:∀{vs:iG}{xs:ax AC}{fp:fy},bD c vs xs fp->bD (fK (λ_ b o=>c.S b o/\b<c.w.heap.size) (λ_=>0) c.w) vs (xs.map (AC.asArg c.ep)) []
 |[],[],_,_=>rfl
 |_::_,_::_,_,h=>by obtain⟨f1,f2,rfl,h1,h2⟩:=h;exact⟨[],[],rfl,Uj h1,Iq h2⟩
 |[],_::_,_,h=>h.elim
 |_::_,[],_,h=>h.elim
theorem YA {x:AV}(h:fX c v x fp):fX (fK (λ_ b o=>c.S b o/\b<c.w.heap.size) (λ_=>0) c.w) v (x.asArg c.ep) []:=by
 cases x with
 |val g cs=>obtain⟨vs,hv,h⟩:=h;exact⟨vs,hv,Iq h⟩
 |uW ts=>exact fX.bot _ _
theorem QW (h:dP C g st a w []):∀(args:ax Operand),
 pA (λ_ b o=>(cM C g st w).S b o/\b<w.heap.size) w (args.map a.eval) (args.map λx=>((st.rd x).fresh st).asArg st.ep)
 |[]=>trivial
 |x::xs=>⟨YA (c:=cM C g st w) (h.fresh (h.rd x)),QW h xs⟩
theorem Uk {A':Rg}{tag:ay Nat}(h:gK (fK A' hw c.w) v x fp)(hA:∀k b o,A' k b o->c.S b o)(Dz:∀b∈fp,c.hw b=hw b)(ht:∀t,tag=some t->c.iss t/\v=c.hdr t):gK c v (x.BP c.ep tag) fp:=by
 cases x with
 |int k n=>exact h
 |bool b=>exact h
 |str s=>exact h
 |jB=>exact h
 |fn f=>exact h
 |ptr s off=>exact h.2.2
 |un=>exact h
 |bot=>exact h
 |zX fl e y i off=>cases fl with|own t=>exact h.elim|nest _ _ _ _ _ _=>exact h.elim|part _ _ _ _=>exact h.elim|fi _ _ _=>exact h.elim|arg _=>exact h.1|loc ep pv=>exact h.1
 |sl fl e xs=>
  cases fl with
  |nest _ _ _ _ _ _=>exact h.1
  |part _ _ _ _=>exact h.1
  |fi _ _ _=>obtain⟨_,⟨k,hk,h3⟩,_⟩:=h;exact⟨λq hq=>(by cases hq),⟨k,hk,h3.mono (λb hb=>⟨rfl,Dz b hb⟩)⟩,by simp⟩
  |own t=>exact⟨fg.mono h.1 (λb hb=>⟨rfl,Dz b hb⟩),ht⟩
  |loc ep pv=>exact h.1
  |arg _=>have hr:jc c.w c.S (.sl e) [v] xs:=jc.mono (λb o u hs hu=>⟨hA _ b o hs,hu⟩) h.2;refine⟨h.1,aS _,?_,λ_=>hr,by simp⟩;obtain⟨u,hu,k⟩:=hr;simp at hu;subst hu;rcases k with⟨⟨ad,rfl⟩,rfl⟩|⟨b,o,cap,rfl,_⟩;exact⟨_,_,_,rfl,rfl⟩;exact⟨_,_,_,rfl,rfl⟩
theorem zi {A':Rg}{mk:Nat->ay Nat}(hA:∀k b o,A' k b o->c.S b o):∀{vs:iG}{xs:ax AC}{fp:fy}(j:Nat),bD (fK A' hw c.w) vs xs fp->(∀b∈fp,c.hw b=hw b)->
 (∀i v,vs[i]?=some v->∀t,mk (j+i)=some t->c.iss t/\v=c.hdr t)->bD c vs (GG c.ep mk j xs) fp
 |[],[],_,_,h,_,_=>h
 |v::_,_::_,_,j,h,hh,hm=>by obtain⟨f1,f2,rfl,h1,h2⟩:=h;exact⟨f1,f2,rfl,Uk h1 hA (λb hb=>hh b (bt _ hb)) (λt ht=>hm 0 v rfl t ht),zi hA (j+1) h2 (λb hb=>hh b (bj _ hb)) (λi u hu t ht=>hm (i+1) u (by simpa using hu) t (by rwa[show j+(i+1)=j+1+i by omega]))⟩
 |[],_::_,_,_,h,_,_=>h.elim
 |_::_,[],_,_,h,_,_=>h.elim
inductive Leaves (A:Rg) (hw:Nat->Nat) (w:World):List Value->List (Bool×List AC)->List Nat->List Value->Prop
 |nil:Leaves A hw w [] [] [] []
 |cons {v:Value} {vs:List Value} {g:Bool} {cs:List AC} {ts:List (Bool×List AC)} {f1 f2:List Nat} {us all:List Value} (fj:Cut g v us) (hr:bD (fK A hw w) us cs f1) (h:Leaves A hw w vs ts f2 all):
  Leaves A hw w (v::vs) ((g,cs)::ts) (f1++f2) (us++all)
theorem HH {A:Rg}{w:World}:∀{ws:iG}{ts:ax (Bool×ax AC)}{fp:fy},fX.qe (fK A hw w) ws ts fp->∃all,Leaves A hw w ws ts fp all
 |[],[],_,h=>by cases h;exact⟨[],.nil⟩
 |_::_,(g,cs)::_,_,h=>by obtain⟨f1,f2,rfl,⟨us,fj,hr⟩,h2⟩:=h;obtain⟨all,ES⟩:=HH h2;exact⟨us++all,.cons fj hr ES⟩
 |[],_::_,_,h=>h.elim
 |_::_,[],_,h=>h.elim
theorem Lf {A':Rg}{mk:Nat->ay Nat}(hA:∀k b o,A' k b o->c.S b o){ws:iG}{ts:ax (Bool×ax AC)}(h:Leaves A' hw c.w ws ts fp all): ∀j,(∀b∈fp,c.hw b=hw b)->(∀i v,all[i]?=some v->∀t,mk (j+i)=some t->c.iss t/\v=c.hdr t)->fX.qe c ws (WC c.ep mk j ts) fp:=by induction h with|nil=>intro j _ _;exact rfl| @cons v vs g cs ts f1 f2 us all fj hr h ih=>intro j hh hm;have hl:=hr.length;refine⟨f1,f2,rfl,⟨us,fj,zi hA j hr (λb hb=>hh b (bt _ hb)) (λi u hu t ht=>?_)⟩,ih _ (λb hb=>hh b (bj _ hb)) (λi u hu t ht=>?_)⟩;exact hm i u (by rw[bB (aG.1 hu).1];exact hu) t ht;have Zi:us.length=cs.length:=hl;refine hm (us.length+i) u (by rw[bm (by omega)];simpa using hu) t ?_;rw[<-fD,Zi];exact ht
def qm (hdr:Nat->Value)(mk:Nat->ay Nat)(all:iG):Nat->Value:=λu=>if mk (u/3%4096)=some u then(all[u/3%4096]?).getD undef else hdr u
theorem yF {t:Nat}(h:mC st t):qm hdr (st.hZ d) all t=hdr t:=by unfold qm;rw[aI];intro e;exact(pj e).1 h
theorem yE {i t:Nat}(hv:all[i]?=some v)(h:st.hZ d i=some t):v=qm hdr (st.hZ d) all t:=by
 obtain⟨_,_,d',rfl,ht,hi⟩:=pj h;have afo:t/3%4096=i:=by rw[ht,GW];omega
 unfold qm;rw[afo,aH h,hv];rfl
theorem W0 {vs us:iG}{seg:ax AC}{f1 f2 f3:fy}{off n:Nat}(hus:us=(vs.drop off).take n)(hln:us.length=n)(r1:bD c' (vs.take off) (cs.take off) f1)(r2:bD c' us seg f2)(r3:bD c' (vs.drop (off+n)) (cs.drop (off+n)) f3): bD c' vs (dZ cs off seg) (f1++f2++f3):=by
 have yn:=r2.length;have e:vs=vs.take off++us++vs.drop (off+n):=by rw[hus,aR,<-eK,cm,cm]
 rw[e,dZ,show seg.length=n by omega];exact bD.append (bD.append r1 r2) r3
theorem MS:∀(os ss:ax AC){r:ax AC},np os ss=some r->ss.length=os.length:=by
 intro os
 induction os with
 |nil=>intro ss r h;cases ss with
  |nil=>rfl
  |cons _ _=>simp[np]at h
 |cons o os ih=>
  intro ss r h
  cases ss with
  |nil=>unfold np at h;split at h<;>first|contradiction|cases h
  |cons s ss=>
   unfold np at h
   split at h
   ·contradiction
   ·rename_i h1 h2
    injection h1 with h1 Ml;subst Ml
    injection h2 with h2 QK;subst QK
    rw[Bool.cond_eq_ite]at h
    split at h
    ·obtain⟨r',hr,h⟩:=aO.1 h
     simp[ih _ hr]
    ·cases h
   all_goals first
    |cases h
    |(rename_i h1 h2
      injection h1 with h1 Ml;subst Ml
      injection h2 with h2 QK;subst QK
      obtain⟨r',hr,h⟩:=aO.1 h
      simp[ih _ hr])
theorem EF {A':Rg}{mk:Nat->ay Nat}{k:Bool}(hA:A' true=c.A k):∀{vs:iG}{xs:ax AC}{fp:fy}(j:Nat),bD (fK A' hw c.w) vs xs fp->xs.all (AC.xv true)=true->
 (∀b∈fp,c.hw b=hw b)->(∀i v,vs[i]?=some v->∀t,mk (j+i)=some t->c.iss t/\v=c.hdr t)->bD c vs (oY k mk j xs) fp
 |[],[],_,_,h,_,_,_=>h
 |v::_,x::_,_,j,h,mB,hh,hm=>by
  obtain⟨f1,f2,rfl,h1,h2⟩:=h;simp only[cc,ae]at mB;refine⟨f1,f2,rfl,?_,EF hA (j+1) h2 mB.2 (λb hb=>hh b (bj _ hb)) (λi u hu t ht=>hm (i+1) u (by simpa using hu) t (by rwa[show j+(i+1)=j+1+i by omega]))⟩;have Dz:∀b∈f1,c.hw b=hw b:=λb hb=>hh b (bt _ hb);have ht:∀t,mk j=some t->c.iss t/\v=c.hdr t:=λt ht=>hm 0 v rfl t ht;have mB:=mB.1;cases x with
  |sl fl e xs=>
   cases fl with
   |own t=>exact⟨fg.mono h1.1 (λb hb=>⟨rfl,Dz b hb⟩),ht⟩
   |arg k'=>
    have hk:k'=true:=by simpa[AC.xv]using mB
    subst hk;exact⟨h1.1,by rw[<-hA];exact h1.2⟩
   |loc _ _=>cases mB
   |nest _ _ _ _ _ _=>cases mB
   |part _ _ _ _=>cases mB
   |fi _ _ _=>cases mB
  |int _ _=>exact h1
  |bool _=>exact h1
  |str _=>exact h1
  |fn _=>exact h1
  |jB=>cases mB
  |ptr _ _=>cases mB
  |zX _ _ _ _ _=>cases mB
  |un=>cases mB
  |bot=>cases mB
 |[],_::_,_,_,h,_,_,_=>h.elim
 |_::_,[],_,_,h,_,_,_=>h.elim
theorem GY {A':Rg}{w:World}{k:Bool}:∀{cs:ax AC},cs.all (AC.xv k)=true->∀{c:RC}{vs:iG}{fp:fy},bD c vs cs fp->c.w=w->c.hw=hw->A' true=c.A k->bD (fK A' hw w) vs (cs.map AC.Qy) fp
 |[],_,c,vs,fp,h,_,_,_=>by cases vs with|nil=>exact h|cons _ _=>exact h.elim
 |x::cs,mB,c,vs,fp,h,QL,D0,hA=>by
  cases vs with
  |nil=>exact h.elim
  |cons v vs=>
   obtain⟨f1,f2,rfl,h1,h2⟩:=h;simp only[cc,ae]at mB;refine⟨f1,f2,rfl,?_,GY mB.2 h2 QL D0 hA⟩;have mB:=mB.1;cases x with
   |sl fl e xs=>
    cases fl with
    |own t=>exact⟨by have:=h1.1;rw[QL,D0]at this;exact this,by simp⟩
    |arg k'=>
     have hk:k'=k:=by simpa[AC.xv]using mB
     subst hk;exact⟨h1.1,by have:=h1.2;rw[QL,<-hA]at this;exact this⟩
    |loc _ _=>cases mB
    |nest _ _ _ _ _ _=>cases mB
    |part _ _ _ _=>cases mB
    |fi _ _ _=>cases mB
   |int _ _=>exact h1
   |bool _=>exact h1
   |str _=>exact h1
   |fn _=>exact h1
   |jB=>cases mB
   |ptr _ _=>cases mB
   |zX _ _ _ _ _=>cases mB
   |un=>cases mB
   |bot=>cases mB
theorem NX (h:dP C g st a w [])(s:Nat){A':Rg}(hA:∀b o,(cM C g st w).S b o/\b<w.heap.size/\g.ej b≠some (.box s)->A' false b o):∀(xs:ax Operand),xs.all (AE st)=true->
 pA A' w (xs.map a.eval) (xs.map (zF st))
 |[],_=>trivial
 |x::xs,hx=>by
  simp only[cc,ae]at hx;refine⟨?_,NX h s hA xs hx.2⟩;have hx:=hx.1;cases x with
  |const _=>exact KD (h.rd _) hx
  |func _=>exact KD (h.rd _) hx
  |global _=>exact KD (h.rd _) hx
  |tmp t=>
   have gO:∀(t0:Nat){e:CT}{v:Value}{xs:ax e.D}{fp:fy},fg g.hw w (.sl e) [v] xs fp->(∀b∈fp,g.ej b=some (.slot t0))->jc w (A' false) (.sl e) [v] xs:=by
    intro t0 e v xs fp h1 hl;have h3:fg (λb=>if b∈fp then g.hw b else 0) w (.sl e) [v] xs fp:=fg.mono h1 (λb hb=>⟨rfl,by simp[hb]⟩)
    exact fg.rep (λb o ho=>by
     by_cases hb:b∈fp;have ho:o<g.hw b:=by simpa[hb]using ho
     have NC:=hl b hb;exact hA b o ⟨.inr ho,(h.fY b _ NC).1,by rw[NC];simp⟩;simp[hb]at ho) h3
   obtain⟨fp,hr,hn,hl⟩:=h.slot t;simp only[AE]at hx;show fX _ (a.tmps.getD t undef) (zF st (.tmp t)) _;simp only[zF];cases hv:st.get t with
   |uW _=>rw[hv]at hx;cases hx
   |val gg cs=>
    rw[hv]at hx hr;simp only at hx;obtain⟨vs,fj,hr⟩:=hr
    have key:∀(cs:ax AC)(vs:iG)(fp:fy),(cs.map st.MJ).all AC.Hk=true->(∀b∈fp,g.ej b=some (.slot t))->bD (cM C g st w) vs cs fp->
     bD (fK A' (λ_=>0) w) vs (cs.map st.MJ) []:=by
     intro cs
     induction cs with
     |nil=>intro vs fp _ _ h;cases vs with
      |nil=>rfl
      |cons _ _=>exact h.elim
     |cons c cs ih=>
      intro vs fp hc hl hr
      cases vs with
      |nil=>exact hr.elim
      |cons v vs=>
       obtain⟨f1,f2,rfl,h1,h2⟩:=hr
       simp only[cS,cc,ae]at hc
       refine⟨[],[],rfl,?_,ih vs f2 hc.2 (λb hb=>hl b (bj _ hb)) h2⟩
       have hc:=hc.1
       cases c with
       |sl fl e xs=>
        cases fl with
        |own tag=>exact⟨rfl,gO t h1.1 (λb hb=>hl b (bt _ hb))⟩
        |arg k=>exact⟨rfl,jc.mono (λb o u hs hu=>⟨hA b o ⟨.inl ⟨k,hs⟩,World.block_lt_of_cell? w _ hu,λhb=>h.Lc hb k o hs⟩,hu⟩) h1.2⟩
        |loc ep pv=>
         cases pv with
         |none=>cases hc
         |some q=>
          obtain⟨r,tg⟩:=q
          cases r with
          |box _ _=>cases hc
          |io _=>cases hc
          |slot b j=>
           have PK:=(h1.2.2.2.2 (.slot b j) tg rfl).2
           simp only[AS.MJ]at hc⊢
           cases T5:st.eR (.slot b j)with
           |none=>rw[T5]at hc;cases hc
           |some c0=>
            rw[T5]at hc
            split at hc
            ·rename_i t' e' ys T1
             split at hc
             ·rename_i ht
              subst ht
              cases T1
              rw[aH rfl]
              obtain⟨fp2,MD,_,yn⟩:=h.slot b
              simp only[AS.eR]at T5
              cases hgb:st.get b with
              |uW _=>rw[hgb]at T5;cases T5
              |val g2 Cb=>
               rw[hgb]at T5 MD
               simp only at T5
               obtain⟨vs2,_,MD⟩:=MD
               rw[dK]at T5
               obtain⟨v2,f3,_,KU,pt⟩:=MD.get j _ T5
               have aoC:v=v2:=by have:=(KU.2 t' rfl).2;rw[PK,this]
               rw[aoC]
               exact⟨rfl,gO b KU.1 (λb' gX=>yn b' (pt b' gX))⟩
             ·cases hc
            ·cases hc
        |nest _ _ _ _ _ _=>cases hc
        |part _ _ _ _=>cases hc
        |fi _ _ _=>cases hc
       |int _ _=>exact⟨h1.1,rfl⟩
       |bool _=>exact⟨h1.1,rfl⟩
       |str _=>exact⟨h1.1,rfl⟩
       |fn _=>exact⟨h1.1,rfl⟩
       |jB=>cases hc
       |ptr _ _=>cases hc
       |zX _ _ _ _ _=>cases hc
       |un=>cases hc
       |bot=>cases hc
    exact⟨vs,fj,key cs vs fp hx hl hr⟩
theorem dP.ae6 (h:dP C g st a w [])(s:Nat)(jH:st.boxes[s]?=some (some cs)): ∃arr T fr fp,w.heap[g.β s]?=some (.cells arr T fr)/\px arr fr/\bD (cM C g st w) arr.toList cs fp/\fp.Nodup/\g.β s∉fp/\(∀b∈fp,b<w.heap.size)/\g.hw (g.β s)=0/\(∀b,b=g.β s\/b∈fp->g.ej b=some (.box s))/\ ∀(w':World)(hw':Nat->Nat)(iU:Array Value)(T':TypeId)(Nw:Nat×Nat)(qg:ax AC)(jZ fv:fy)(A':Rg)(k:Bool),Fr (λb=>b=g.β s\/b∈fp) w w'->w'.heap[g.β s]?=some (.cells iU T' Nw)->px iU Nw-> A' true=C.A k->bD (fK A' hw' w') iU.toList qg jZ->qg.all (AC.xv true)=true->jZ.Nodup->g.β s∉jZ->(∀b∈jZ,b<w'.heap.size/\(b∈fp\/w.heap.size<=b))-> (∀b∈fv,b<w'.heap.size/\(b∈fp\/w.heap.size<=b)/\b∉jZ/\b≠g.β s)-> ∃g',dP C g' (Xm st s (oY k (st.hZ (some s)) 0 qg)) a w' []/\(∀b∈fv,g'.ej b=some (.hand 0)/\g'.hw b=hw' b)/\∀b,b<w.heap.size->g.ej b≠some (.box s)->g'.hw b=g.hw b:=by
 obtain⟨arr,T,fr,fp,kb,rz,hr,hn,vd,hl,Fl,Fo⟩:=h.boxes s cs jH;have xD:s<st.boxes.length:=(aG.1 jH).1;have KN:∀b,b=g.β s\/b∈fp->g.ej b=some (.box s):=by rintro b (rfl|hb);exact Fl;exact hl b hb
 refine⟨arr,T,fr,fp,kb,rz,hr,hn,vd,λb hb=>(h.fY b _ (hl b hb)).1,Fo,KN,?_⟩;intro w' hw' iU T' Nw qg jZ fv A' k jq FR R0 hA' vf ahO BX FV Hw IE;let YF:ax AC:=oY k (st.hZ (some s)) 0 qg;let bN:AS:=Xm st s YF;let hw2:Nat->Nat:=λb=>if b∈jZ\/b∈fv then hw' b else if b=g.β s then 0 else g.hw b
 let adn:Nat->ay jM:=λb=>if b=g.β s\/b∈jZ then some (.box s) else if b∈fv then some (.hand 0) else g.ej b
 let g':Gh:=⟨hw2,g.β,adn,qm g.hdr (st.hZ (some s)) iU.toList⟩
 have sZ:bN.boxes=st.boxes.set s (some YF):=by show((st.eI s (some YF)).fz (some s)).boxes=_;rw[zk,jY]
 have KV:bN.slots=st.slots:=by show((st.eI s (some YF)).fz (some s)).slots=_;rw[tA];rfl
 have MB:bN.io=st.io:=by show((st.eI s (some YF)).fz (some s)).io=_;rw[Gj];rfl
 have Jq:∀t,mC st t->mC bN t:=λt ht=>by have h1:mC (st.eI s (some YF)) t:=ht;exact Br (d:=some s) h1
 have Zl:∀t,jb st t->jb bN t:=by rintro t ⟨c0,T1⟩;by_cases su:s=t;subst su;exact⟨YF,by rw[sZ];simp[xD]⟩;exact⟨c0,by rw[sZ,aN su];exact T1⟩
 have RX:∀b,b<w.heap.size->g.ej b≠some (.box s)->b∉jZ/\b∉fv/\b≠g.β s:=by intro b hb NC;refine⟨λhm=>?_,λhm=>?_,λhm=>NC (KN b (.inl hm))⟩;rcases(Hw b hm).2 with h2|h2;exact NC (KN b (.inr h2));omega;rcases(IE b hm).2.1 with h2|h2;exact NC (KN b (.inr h2));omega
 have rJ:∀b x,x≠ .box s->g.ej b=some x->adn b=some x/\w'.heap[b]?=w.heap[b]?/\hw2 b=g.hw b:=by intro b x hx hb;have Eb:=(h.fY b x hb).1;have hnm:¬(b=g.β s\/b∈fp):=λhm=>hx (by have:=KN b hm;rw[hb]at this;simpa using this);obtain⟨n1,n2,n3⟩:=RX b Eb (by rw[hb];simpa using hx);refine⟨?_,jq.block b Eb hnm,?_⟩;show(if b=g.β s\/b∈jZ then _ else if b∈fv then _ else _)=_;rw[aI (by rintro(h1|h1);exact n3 h1;exact n1 h1),aI n2];exact hb;show(if b∈jZ\/b∈fv then _ else if b=g.β s then _ else _)=_;rw[aI (by rintro(h1|h1);exact n1 h1;exact n2 h1),aI n3]
 have Zb:∀k b o u,C.A k b o->w.cell? ⟨b,o,none⟩=some u->w'.cell? ⟨b,o,none⟩=some u:=by intro k b o u hA hu;have hb:b<w.heap.size:=World.block_lt_of_cell? w _ hu;rw[World.cell?_of_block (a:=⟨b,o,none⟩) (jq.block b hb (λhm=>h.Lc (KN b hm) k o hA))];exact hu
 have hle:(cM C g st w).Le (cM C g' bN w'):=⟨rfl,λt ht=>⟨Jq t ht,yF ht⟩,Zb,Nat.le_succ _,λt ht=>⟨Zl t ht,rfl⟩,λhe=>absurd he (Nat.succ_ne_self _)⟩
 refine⟨g',h.step (λx=>x≠ .box s) hle h.defers ?_ ?_ ?_ ?_ (λb x hk hb=>rJ b x hk hb) ?_ ?_ (λk u bv hk=>by simp at hk) (.inl ⟨by simp,MB⟩),λb hb=>?_,λb hb NC=>?_⟩;rw[KV];exact h.size;rw[KV,sZ,aC];exact h.bsize;refine h.frame.trans jq (λb hb hm=>?_);rcases(h.fY b _ (KN b hm)).2 with h2|h2;omega;exact h2;intro b x hx;have Ab:(if b=g.β s\/b∈jZ then some (jM.box s) else if b∈fv then some (.hand 0) else g.ej b)=some x:=hx;have hz:=jq.size;have hold:b∈fp\/w.heap.size<=b->C.w0.heap.size<=b\/C.M b:=by rintro(h2|h2);exact(h.fY b _ (hl b h2)).2;exact .inl (bw h.frame.size h2)
 split at Ab;rename_i hm;rcases hm with rfl|hm;have:=h.fY _ _ Fl;exact⟨by omega,this.2⟩;exact⟨(Hw b hm).1,hold (Hw b hm).2⟩;split at Ab;rename_i hm;exact⟨(IE b hm).1,hold (IE b hm).2.1⟩;have:=h.fY b x Ab;exact⟨by omega,this.2⟩;intro i av hi;rw[KV]at hi;exact .inl ⟨by simp,hi,rfl⟩;intro t Cb hb;rw[sZ]at hb;by_cases su:t=s;subst su;rw[br]at hb;simp only[bQ,xD]at hb;simp at hb;subst hb;refine .inr ⟨iU,T',Nw,jZ,FR,R0,?_,BX,FV,λb hb=>?_,?_,?_⟩
 have:=EF (c:=cM C g' bN w') (A':=A') (hw:=hw') (mk:=st.hZ (some t)) (k:=k) hA' 0 (vs:=iU.toList) (xs:=qg) (fp:=jZ) vf ahO
  (λb hb=>by show(if b∈jZ\/b∈fv then _ else _)=_;rw[aH (.inl hb)])
  (λi u hu q hq=>by
   rw[cr]at hq;have hm:=pj hq;have hm2:mC bN q:=by have h1:st.hZ (some t) i=some q:=hq;have h2:(st.eI t (some YF)).hZ (some t) i=some q:=h1;exact(pj h2).2.1
   exact⟨hm2,yE hu hq⟩)
 exact this;show(if b=g.β t\/b∈jZ then _ else _)=_;rw[aH (.inr hb)];show(if g.β t=g.β t\/g.β t∈jZ then _ else _)=_;rw[aH (.inl rfl)];show(if g.β t∈jZ\/g.β t∈fv then _ else if g.β t=g.β t then _ else _)=_;rw[aI (by rintro(h1|h1);exact FV h1;exact(IE _ h1).2.2.2 rfl),aH rfl];rw[aN (cO su)]at hb;exact .inl ⟨by simpa using su,hb,rfl⟩;obtain⟨_,_,h3,h4⟩:=IE b hb;refine⟨?_,?_⟩;show(if b=g.β s\/b∈jZ then _ else if b∈fv then _ else _)=_;rw[aI (by rintro(h1|h1);exact h4 h1;exact h3 h1),aH hb];show(if b∈jZ\/b∈fv then _ else _)=_;rw[aH (.inr hb)];obtain⟨n1,n2,n3⟩:=RX b hb NC;show(if b∈jZ\/b∈fv then _ else if b=g.β s then _ else _)=_;rw[aI (by rintro(h1|h1);exact n1 h1;exact n2 h1),aI n3]
theorem OK:∀{vs:iG}{cs:ax AC}{fp:fy},bD c vs cs fp->cs.all AC.Fx=true->fp=[]
 |[],[],_,h,_=>h
 |[],_::_,_,h,_=>h.elim
 |_::_,[],_,h,_=>h.elim
 |v::vs,x::cs,fp,h,hx=>by
  obtain⟨f1,f2,rfl,h1,h2⟩:=h;simp only[cc,ae]at hx;rw[OK h2 hx.2,bS];have hx:=hx.1;cases x with
  |sl fl e xs=>cases fl<;>first|exact h1.1|cases hx
  |int k n=>exact h1.2
  |bool b=>exact h1.2
  |str s=>exact h1.2
  |fn f=>exact h1.2
  |jB=>cases hx
  |ptr _ _=>cases hx
  |zX _ _ _ _ _=>cases hx
  |un=>cases hx
  |bot=>cases hx
theorem dP.abE (h:dP C g st a w [])(s:Nat)(jH:st.boxes[s]?=some (some cs))(Hv:cs.all AC.Fx=true): ∀(w':World)(hw':Nat->Nat)(iU:Array Value)(T':TypeId)(Nw:Nat×Nat)(qg:ax AC)(jZ fv:fy)(A':Rg)(k:Bool),Fr (λb=>b=g.β s) w w'->w'.heap[g.β s]?=some (.cells iU T' Nw)->px iU Nw-> A' true=C.A k->bD (fK A' hw' w') iU.toList qg jZ->qg.all (AC.xv true)=true->jZ.Nodup->g.β s∉jZ->(∀b∈jZ,b<w'.heap.size/\w.heap.size<=b)-> (∀b∈fv,b<w'.heap.size/\w.heap.size<=b/\b∉jZ/\b≠g.β s)-> ∃g',dP C g' (st.eI s (some (oY k (λ_=>none) 0 qg))) a w' []/\(∀b∈fv,g'.ej b=some (.hand 0)/\g'.hw b=hw' b)/\∀b,b<w.heap.size->g.ej b≠some (.box s)->g'.hw b=g.hw b:=by
 obtain⟨arr,T,fr,fp,kb,rz,hr,hn,vd,hl,Fl,Fo⟩:=h.boxes s cs jH;have ahz:fp=[]:=OK hr Hv;subst ahz;have xD:s<st.boxes.length:=(aG.1 jH).1;intro w' hw' iU T' Nw qg jZ fv A' k jq FR R0 hA' vf ahO BX FV Hw IE;let YF:ax AC:=oY k (λ_=>none) 0 qg;let bN:AS:=st.eI s (some YF);let hw2:Nat->Nat:=λb=>if b∈jZ\/b∈fv then hw' b else if b=g.β s then 0 else g.hw b
 let adn:Nat->ay jM:=λb=>if b=g.β s\/b∈jZ then some (.box s) else if b∈fv then some (.hand 0) else g.ej b
 let g':Gh:=⟨hw2,g.β,adn,g.hdr⟩
 have sZ:bN.boxes=st.boxes.set s (some YF):=by show(st.eI s (some YF)).boxes=_;rw[jY]
 have Zl:∀t,jb st t->jb bN t:=by rintro t ⟨c0,T1⟩;by_cases su:s=t;subst su;exact⟨YF,by rw[sZ];simp[xD]⟩;exact⟨c0,by rw[sZ,aN su];exact T1⟩
 have hold:∀b,b<w.heap.size->b∉jZ/\b∉fv:=by intro b hb;refine⟨λhm=>?_,λhm=>?_⟩;have:=(Hw b hm).2;omega;have:=(IE b hm).2.1;omega
 have Dz:∀b,b<w.heap.size->b≠g.β s->hw2 b=g.hw b:=by intro b hb Al;show(if b∈jZ\/b∈fv then _ else if b=g.β s then _ else _)=_;rw[aI (by rintro(h1|h1);exact(hold b hb).1 h1;exact(hold b hb).2 h1),aI Al]
 have rJ:∀b x,x≠ .box s->g.ej b=some x->adn b=some x/\w'.heap[b]?=w.heap[b]?/\hw2 b=g.hw b:=by intro b x hx hb;have Eb:=(h.fY b x hb).1;have Al:b≠g.β s:=λhm=>hx (by rw[hm,Fl]at hb;simpa using hb.symm);refine⟨?_,jq.block b Eb Al,Dz b Eb Al⟩;show(if b=g.β s\/b∈jZ then _ else if b∈fv then _ else _)=_;rw[aI (by rintro(h1|h1);exact Al h1;exact(hold b Eb).1 h1),aI (hold b Eb).2];exact hb
 have Zb:∀k b o u,C.A k b o->w.cell? ⟨b,o,none⟩=some u->w'.cell? ⟨b,o,none⟩=some u:=by intro k b o u hA hu;have hb:b<w.heap.size:=World.block_lt_of_cell? w _ hu;rw[World.cell?_of_block (a:=⟨b,o,none⟩) (jq.block b hb (λhm=>h.Lc (by rw[hm];exact Fl) k o hA))];exact hu
 have hle:(cM C g st w).Le (cM C g' bN w'):=by
  refine⟨rfl,λt ht=>⟨ht,rfl⟩,Zb,aS _,λt ht=>⟨Zl t ht,rfl⟩,λ_ b o u ho hu=>?_⟩;have hb:b<w.heap.size:=World.block_lt_of_cell? w _ hu;have Js:o<g.hw b:=ho;have Al:b≠g.β s:=λe=>by rw[e,Fo]at Js;omega
  refine⟨by show o<hw2 b;rw[Dz b hb Al];exact Js,?_⟩;show w'.cell? ⟨b,o,none⟩=some u;rw[World.cell?_of_block (a:=⟨b,o,none⟩) (jq.block b hb Al)];exact hu
 refine⟨g',h.step (λx=>x≠ .box s) hle h.defers h.size ?_ ?_ ?_ (λb x hk hb=>rJ b x hk hb) ?_ ?_ (λk u bv hk=>by simp at hk) (.inl ⟨by simp,rfl⟩),λb hb=>?_,λb hb NC=>?_⟩;rw[sZ,aC];exact h.bsize;refine h.frame.trans jq (λb hb hm=>?_);have hm:b=g.β s:=hm;subst hm;rcases(h.fY _ _ Fl).2 with h2|h2;omega;exact h2;intro b x hx;have Ab:(if b=g.β s\/b∈jZ then some (jM.box s) else if b∈fv then some (.hand 0) else g.ej b)=some x:=hx;have hz:=jq.size;split at Ab;rename_i hm;rcases hm with rfl|hm;have:=h.fY _ _ Fl;exact⟨by omega,this.2⟩;exact⟨(Hw b hm).1,.inl (bw h.frame.size (Hw b hm).2)⟩;split at Ab;rename_i hm;exact⟨(IE b hm).1,.inl (bw h.frame.size (IE b hm).2.1)⟩;have:=h.fY b x Ab;exact⟨by omega,this.2⟩;intro i av hi;exact .inl ⟨by simp,hi,rfl⟩;intro t Cb hb;rw[sZ]at hb;by_cases su:t=s;subst su;rw[br]at hb;simp only[bQ,xD]at hb;simp at hb;subst hb;refine .inr ⟨iU,T',Nw,jZ,FR,R0,?_,BX,FV,λb hb=>?_,?_,?_⟩;have:=EF (c:=cM C g' bN w') (A':=A') (hw:=hw') (mk:=λ_=>none) (k:=k) hA' 0 (vs:=iU.toList) (xs:=qg) (fp:=jZ) vf ahO (λb hb=>by show(if b∈jZ\/b∈fv then _ else _)=_;rw[aH (.inl hb)]) (λi u hu q hq=>by cases hq);exact this;show(if b=g.β t\/b∈jZ then _ else _)=_;rw[aH (.inr hb)];show(if g.β t=g.β t\/g.β t∈jZ then _ else _)=_;rw[aH (.inl rfl)];show(if g.β t∈jZ\/g.β t∈fv then _ else if g.β t=g.β t then _ else _)=_;rw[aI (by rintro(h1|h1);exact FV h1;exact(IE _ h1).2.2.2 rfl),aH rfl];rw[aN (cO su)]at hb;exact .inl ⟨by simpa using su,hb,rfl⟩;obtain⟨_,_,h3,h4⟩:=IE b hb;refine⟨?_,?_⟩;show(if b=g.β s\/b∈jZ then _ else if b∈fv then _ else _)=_;rw[aI (by rintro(h1|h1);exact h4 h1;exact h3 h1),aH hb];show(if b∈jZ\/b∈fv then _ else _)=_;rw[aH (.inr hb)];exact Dz b hb (λe=>NC (by rw[e];exact Fl))
theorem ahn (zd:∀f,gM P f (Γ f)){o':Oper}(ho:o'.op=.call {callee:=.value f,args,argTypes:=ts})(hg:dP C g st a w []){k:Nat}(hf:st.rd f=.val false [.fn k])(jH:(Γ k).bx=true){K:AS->ay R}(hk:tK Γ o' k args.toList st K=some r)(next:Act->World->Prop)(Q:Exit->Act->World->Prop)(gG:∀bN a' w',ij C bN a' w'->K bN=some r->next a' w'):o'.wp P a w next Q:=by
 have IE:=hg.rd f;rw[hf]at IE;have IE:=(eC IE).1;unfold tK at hk;split at hk
 ·rename_i x0 xs fT;split at hk
  ·rename_i s hx0;split at hk
   ·rename_i cs RM;have hb:st.boxes[s]?=some (some cs):=by rw[dK]at RM;cases hq:st.boxes[s]? with|none=>rw[hq]at RM;simp at RM|some q=>rw[hq]at RM;simp at RM;rw[RM]
    cases hc:(cs.all (AC.xv (BO cs))&&xs.all (AE st))with
    |false=>rw[hc]at hk;cases hk
    |true=>
     rw[hc]at hk;simp only[ah]at hk;simp only[ae]at hc;cases gJ:(Γ k).fn (.val true (cs.map AC.Qy)::xs.map (zF st))with
     |none=>rw[gJ]at hk;cases hk
     |some y=>
      rw[gJ]at hk;simp only[aa]at hk;cases Vq:(((Γ k).back y).all (AC.xv true)&&((Γ k).av y).aah)with
      |false=>rw[Vq]at hk;cases hk
      |true=>
       rw[Vq]at hk;simp only[ah]at hk;simp only[ae]at Vq;obtain⟨⟨fn,c,RQ,RN,Ax⟩,_,_,zZ,_⟩:=zd k _ y gJ;have zZ:=zZ jH _ _ rfl;have KT:=hg.rd x0;rw[hx0]at KT;have tG:=zK KT;obtain⟨arr,T,fr,fp,kb,rz,eQ,hn,vd,gY,Fo,CG,qc⟩:=hg.ae6 s hb;let A':Rg:=λq b o=>bif q then C.A (BO cs) b o else((cM C g st w).S b o/\b<w.heap.size/\g.ej b≠some (.box s))
       have hA':∀q b' o,A' q b' o->b'<w.heap.size/\b'≠g.β s/\b'∉fp:=by
        intro q b' o hq;have key:b'<w.heap.size/\g.ej b'≠some (.box s):=by cases q with|true=>have hq:C.A (BO cs) b' o:=hq;exact⟨Nat.lt_of_lt_of_le (C.hA _ _ _ hq).1 hg.frame.size,λhb=>hg.Lc hb _ o hq⟩|false=>exact hq.2
        exact⟨key.1,λe=>key.2 (CG b' (.inl e)),λe=>key.2 (CG b' (.inr e))⟩
       have IC:=zZ A' w (g.β s) (xs.map a.eval) arr T fr g.hw fp hA' kb rz (GY (k:=BO cs) hc.1 eQ rfl rfl rfl) hn vd gY Fo (NX hg s (λb o h=>h) xs hc.2);have aoy:a.eval x0=.pointer (some ⟨g.β s,0,none⟩):=tG;have ahv:(Value.pointer (some ⟨g.β s,0,none⟩)::xs.map a.eval).toArray=args.map a.eval:=by apply eU;simp[fT,aoy]
       rw[ahv]at IC;have ed:(execOp a.eval o').run P w=.ok (.enter k (args.map a.eval)) w:=by simp[execOp,ho,resolve,IE,Deferred.ofValue,invoke,callFunc,RQ,RN];simpa using Ax
       unfold Oper.wp;rw[ed,Oper.upon_enter];refine IC.mono ?_;rintro e w' ⟨v,hw',fv,iU,T',Nw,jZ,rfl,NH,FR,R0,vf,BX,FV,Hw,hnv,acO,jq⟩;show next (a.put o'.dst v) w'
       have tail:∀(st1:AS)(g':Gh),dP C g' st1 a w' []->(∀b∈fv,g'.ej b=some (.hand 0)/\g'.hw b=hw' b)->(∀b,b<w.heap.size->g.ej b≠some (.box s)->g'.hw b=g.hw b)->
        K ((st1.fz o'.dst).put o'.dst (((Γ k).av y).BP st1.ep (st1.hZ o'.dst)))=some r->next (a.put o'.dst v) w':=by
        intro st1 g' nE hlv hold hk
        have hAS:∀(hd:Nat->Value)(q:Bool)(b o:Nat),A' q b o->(cM C {g' with hdr:=hd} (st1.fz o'.dst) w').S b o:=by intro hd q b o hq;cases q with|true=>exact .inl ⟨_,hq⟩|false=>rcases hq.1 with hs|hs;exact .inl hs;exact .inr (by show o<g'.hw b;rw[hold b hq.2.1 hq.2.2];exact hs)
        have acM:∀b∈fv,g'.hw b=hw' b:=λb hb=>(hlv b hb).2
        have vf:∃hd,(∀t,mC st1 t->hd t=g'.hdr t)/\fX (cM C {g' with hdr:=hd} (st1.fz o'.dst) w') v (((Γ k).av y).BP st1.ep (st1.hZ o'.dst)) fv:=by
         generalize (Γ k).av y=y at NH;cases y with
         |val gg cs=>obtain⟨vs,fj,hr⟩:=NH;refine⟨qm g'.hdr (st1.hZ o'.dst) vs,λt ht=>yF ht,vs,fj,?_⟩;have:=zi (c:=cM C {g' with hdr:=qm g'.hdr (st1.hZ o'.dst) vs} (st1.fz o'.dst) w') (mk:=st1.hZ o'.dst) (hAS _) 0 hr acM (λi u hu t ht=>by rw[cr]at ht;exact⟨(pj ht).2.1,yE hu ht⟩);have xh:(cM C {g' with hdr:=qm g'.hdr (st1.hZ o'.dst) vs} (st1.fz o'.dst) w').ep=st1.ep:=yy;rw[xh]at this;exact this
         |uW ts=>obtain⟨ws,hv,hr⟩:=NH;obtain⟨all,ES⟩:=HH hr;refine⟨qm g'.hdr (st1.hZ o'.dst) all,λt ht=>yF ht,ws,hv,?_⟩;have:=Lf (c:=cM C {g' with hdr:=qm g'.hdr (st1.hZ o'.dst) all} (st1.fz o'.dst) w') (mk:=st1.hZ o'.dst) (hAS _) ES 0 acM (λi u hu t ht=>by rw[cr]at ht;exact⟨(pj ht).2.1,yE hu ht⟩);have xh:(cM C {g' with hdr:=qm g'.hdr (st1.hZ o'.dst) all} (st1.fz o'.dst) w').ep=st1.ep:=yy;rw[xh]at this;exact this
        obtain⟨hd,hhd,vf⟩:=vf
        obtain⟨g2,ET⟩:=nE.LB o'.dst (hw':=g'.hw) (hdr':=hd) (fp:=fv) (st1:=st1.fz o'.dst) Gj tA zk yy (λt ht=>⟨Br ht,hhd t ht⟩)
         (Fr.refl _ _) (λ_ _ _ _=>rfl) (λ_ _ _ ho hu=>⟨ho,hu⟩) vf hnv (λb hb=>⟨(acO b hb).1,.inl (by rw[(hlv b hb).1];rfl)⟩)
        exact gG _ _ _ ⟨g2,ET⟩ hk
       cases hcur:((Γ k).cur&&cs.all AC.Fx)with
       |false=>rw[hcur]at hk;obtain⟨g',nE,hlv,hold⟩:=qc w' hw' iU T' Nw ((Γ k).back y) jZ fv A' (BO cs) jq FR R0 rfl vf Vq.1 BX FV Hw acO;exact tail _ g' nE hlv hold hk
       |true=>rw[hcur]at hk;simp only[ae]at hcur;have ahz:fp=[]:=OK eQ hcur.2;subst ahz;obtain⟨g',nE,hlv,hold⟩:=hg.abE s hb hcur.2 w' hw' iU T' Nw ((Γ k).back y) jZ fv A' (BO cs) ⟨jq.os,jq.tape,jq.output,jq.size,λb hb hm=>jq.block b hb (λhh=>hm (hh.resolve_right (by simp)))⟩ FR R0 rfl vf Vq.1 BX FV (λb hb=>⟨(Hw b hb).1,(Hw b hb).2.resolve_left (by simp)⟩) (λb hb=>⟨(acO b hb).1,(acO b hb).2.1.resolve_left (by simp),(acO b hb).2.2⟩);exact tail _ g' nE hlv hold hk
   cases hk
  cases hk
 cases hk
theorem arg_val (hA:c'.A=c.A)(hw:c'.w=c.w){x:AV}(h:fX c v x fp)(hx:x.Hk=true):fp=[]/\fX c' v x []:=by
 cases x with
 |uW _=>cases hx
 |val g cs=>
  obtain⟨vs,fj,h⟩:=h
  have key:∀(cs:ax AC)(vs:iG)(fp:fy),bD c vs cs fp->cs.all AC.Hk=true->fp=[]/\bD c' vs cs []:=by
   intro cs
   induction cs with
   |nil=>intro vs fp h _;cases vs with
    |nil=>exact⟨h,rfl⟩
    |cons _ _=>exact h.elim
   |cons x cs ih=>
    intro vs fp h hx
    cases vs with
    |nil=>exact h.elim
    |cons v vs=>
     obtain⟨f1,f2,rfl,h1,h2⟩:=h
     simp only[cc,ae]at hx
     obtain⟨rfl,k2⟩:=ih vs f2 h2 hx.2
     have hx:=hx.1
     have one:f1=[]/\gK c' v x []:=by
      cases x with
      |sl fl e xs=>cases fl with|arg k=>exact⟨h1.1,rfl,by rw[hA,hw];exact h1.2⟩|own _=>cases hx|loc _ _=>cases hx|nest _ _ _ _ _ _=>cases hx|part _ _ _ _=>cases hx|fi _ _ _=>cases hx
      |int _ _=>exact qG h1 rfl
      |bool _=>exact qG h1 rfl
      |str _=>exact qG h1 rfl
      |fn _=>exact qG h1 rfl
      |jB=>cases hx
      |ptr _ _=>cases hx
      |zX _ _ _ _ _=>cases hx
      |un=>cases hx
      |bot=>cases hx
     obtain⟨rfl,k1⟩:=one
     exact⟨rfl,[],[],rfl,k1,k2⟩
  obtain⟨e,k⟩:=key cs vs fp h hx;exact⟨e,vs,fj,k⟩
theorem QV (h:dP C g st a w []):∀(xs:ax Operand),xs.all (λx=>(st.rd x).Hk)=true->pA C.A w (xs.map a.eval) (xs.map st.rd)
 |[],_=>trivial
 |x::xs,hf=>by simp only[cc,ae]at hf;exact⟨(arg_val (c:=cM C g st w) (c':=fK C.A (λ_=>0) w) rfl rfl (h.rd x) hf.1).2,QV h xs hf.2⟩
theorem aiz (zd:∀f,gM P f (Γ f)){o':Oper}(ho:o'.op=.call {callee:=.value f,args,argTypes:=ts})(hg:dP C g st a w []){k:Nat}(hf:st.rd f=.val false [.fn k])(Zl:(Γ k).pr=true){K:AS->ay R}(hk:aai Γ o' k args.toList st K=some r)(next:Act->World->Prop)(Q:Exit->Act->World->Prop)(gG:∀bN a' w',ij C bN a' w'->K bN=some r->next a' w'):o'.wp P a w next Q:=by
 have IE:=hg.rd f;rw[hf]at IE;have IE:=(eC IE).1;unfold aai at hk;split at hk
 ·rename_i d hd;split at hk
  ·rename_i Fm;cases hc:args.toList.all (λx=>(st.rd x).Hk)with
   |false=>rw[hc]at hk;cases hk
   |true=>
    rw[hc]at hk;simp only[ah]at hk;cases gJ:(Γ k).fn (args.toList.map st.rd)with
    |none=>rw[gJ]at hk;cases hk
    |some y=>
     rw[gJ]at hk;simp only[aa]at hk;cases Vq:((Γ k).back y).all AC.Hk with
     |false=>rw[Vq]at hk;cases hk
     |true=>
      rw[Vq]at hk;simp only[ah]at hk;obtain⟨⟨fn,c,RQ,RN,Ax⟩,_,_,_,zZ⟩:=zd k _ y gJ;have IC:=zZ Zl C.A w (args.toList.map a.eval) (λq b o hq=>Nat.lt_of_lt_of_le (C.hA q b o hq).1 hg.frame.size) (QV hg _ hc);have fT:(args.toList.map a.eval).toArray=args.map a.eval:=by apply eU;simp
      rw[fT]at IC;have ed:(execOp a.eval o').run P w=.ok (.enter k (args.map a.eval)) w:=by simp[execOp,ho,resolve,IE,Deferred.ofValue,invoke,callFunc,RQ,RN];simpa using Ax
      unfold Oper.wp;rw[ed,Oper.upon_enter];refine IC.mono ?_;rintro e w' ⟨b,arr,T,fr,hw,rfl,hb,kb,rz,eQ,jq⟩;show next (a.put o'.dst (.pointer (some ⟨b,0,none⟩))) w'
      rw[dK]at Fm;have Eb:=lP kb;have Al:∀b' x,g.ej b'=some x->b'≠b:=λb' x hx e=>by have:=(hg.fY b' x hx).1;omega
      have hr1:bD ⟨λb'=>if b'=b then 0 else g.hw b',λt=>if t=d then b else g.β t,C.A,g.hdr,mC st,st.ep,jb st,w'⟩ arr.toList ((Γ k).back y) []:=by
       have hv:fX (fK C.A hw w') (.agg arr.toList.toArray) (.val true ((Γ k).back y)) []:=⟨arr.toList,rfl,eQ⟩
       obtain⟨_,vs,fj,h⟩:=arg_val (c:=fK C.A hw w') (c':=⟨λb'=>if b'=b then 0 else g.hw b',λt=>if t=d then b else g.β t,C.A,g.hdr,mC st,st.ep,jb st,w'⟩) rfl rfl hv Vq;have:arr.toList=vs:=by have fj:Value.agg arr.toList.toArray=.agg vs.toArray:=fj;simp only[Value.agg.injEq]at fj;simpa using congrArg Array.toList fj
       rw[this];exact h
      obtain⟨g',Hz,h'⟩:=hg.Uo d (cs:=(Γ k).back y) (arr:=arr) (T:=T) (fr:=fr) (fp:=[]) (w':=w') (bnew:=b) (hw':=λb'=>if b'=b then 0 else g.hw b') (.inr ⟨hb,Fm⟩) ⟨jq.os,jq.tape,jq.output,jq.size,λb' gX _=>jq.block b' gX (λm=>m)⟩ kb rz Eb (by simp) (λb' x hx _ hn=>by simp[hn]) (λb' o u ho hu=>by have gX:b'<w.heap.size:=World.block_lt_of_cell? w _ hu;exact⟨by simp[show b'≠b by omega];exact ho,yl jq hu⟩) hr1 List.nodup_nil (by simp) (λb' gX=>by cases gX);have hdl:d<st.boxes.length:=(aG.1 Fm).1;have hq:=h'.quiet (some d) (v:=.pointer (some ⟨b,0,none⟩)) (av:=.one (.ptr d 0)) (mq ⟨by simp[cM,Hz],⟨(Γ k).back y,by rw[jY];simp[hdl]⟩,rfl⟩);rw[hd];exact gG _ _ _ ⟨g',hq⟩ hk
  cases hk
 cases hk
theorem afa (zd:∀f,gM P f (Γ f)){o':Oper}(ho:o'.op=.call {callee:=.value f,args,argTypes:=ts})(h:ij C st a w){K:AS->ay R}(hk:BR Γ o' f args.toList st K=some r)(next:Act->World->Prop)(Q:Exit->Act->World->Prop)(gG:∀bN a' w',ij C bN a' w'->K bN=some r->next a' w'):o'.wp P a w next Q:=by
 obtain⟨g,hg⟩:=h;unfold BR at hk;split at hk
 ·rename_i k hf
  have IE:=hg.rd f
  rw[hf]at IE
  have IE:=(eC IE).1
  cases jH:(Γ k).bx with
  |true=>rw[jH]at hk;exact ahn zd ho hg hf jH hk next Q gG
  |false=>
  rw[jH]at hk
  simp only[af]at hk
  cases Zl:(Γ k).pr with
  |true=>rw[Zl]at hk;exact aiz zd ho hg hf Zl hk next Q gG
  |false=>
  rw[Zl]at hk
  simp only[af]at hk
  cases MB:(Γ k).io with
  |true=>rw[MB]at hk;cases hk
  |false=>
  rw[MB]at hk
  simp only[af]at hk
  cases gJ:(Γ k).fn (args.toList.map λx=>((st.rd x).fresh st).asArg st.ep)with
  |none=>rw[gJ]at hk;cases hk
  |some y0=>
   rw[gJ]at hk
   simp only[aa]at hk
   obtain⟨⟨fn,c,RQ,RN,Ax⟩,zZ,_⟩:=zd k _ y0 gJ
   have zZ:=zZ MB jH
   have hk:K ((st.fz o'.dst).put o'.dst (((Γ k).res y0).BP st.ep (st.hZ o'.dst)))=some r:=by unfold jj.res;cases ME:(Γ k).sel y0 with|true=>rw[ME]at hk;exact hk|false=>rw[ME]at hk;exact hk
   generalize hy0:(Γ k).res y0=y at hk zZ
   have IC:=zZ (λ_ b o=>(cM C g st w).S b o/\b<w.heap.size) w (args.toList.map a.eval) (λ_ _ _ h=>h.2) (QW hg args.toList)
   have fT:(args.toList.map a.eval).toArray=args.map a.eval:=by apply eU;simp
   rw[fT]at IC
   have ed:(execOp a.eval o').run P w=.ok (.enter k (args.map a.eval)) w:=by simp[execOp,ho,resolve,IE,Deferred.ofValue,invoke,callFunc,RQ,RN];simpa using Ax
   unfold Oper.wp
   rw[ed,Oper.upon_enter]
   refine IC.mono ?_
   rintro e w' ⟨v,hw,fp,rfl,eQ,DA,BU,jq⟩
   show next (a.put o'.dst v) w'
   let hw':Nat->Nat:=λb=>if b∈fp then hw b else g.hw b
   have Vu:∀b,b<w.heap.size->b∉fp:=λb hb hm=>by have:=(BU b hm).1;omega
   have hA':∀(hd:Nat->Value)(_:Bool)(b o:Nat),((cM C g st w).S b o/\b<w.heap.size)->(cM C {g with hw:=hw',hdr:=hd} (st.fz o'.dst) w').S b o:=by rintro hd _ b o ⟨hs,hb⟩;rcases hs with hs|hs;exact .inl hs;exact .inr (by simp only[cM,hw',aI (Vu b hb)];exact hs)
   have vf:∃hd,(∀t,mC st t->hd t=g.hdr t)/\fX (cM C {g with hw:=hw',hdr:=hd} (st.fz o'.dst) w') v (y.BP st.ep (st.hZ o'.dst)) fp:=by
    have acM:∀b∈fp,hw' b=hw b:=λb hb=>by simp[hw',hb]
    cases y with
    |val gg cs=>obtain⟨vs,fj,hr⟩:=eQ;refine⟨qm g.hdr (st.hZ o'.dst) vs,λt ht=>yF ht,vs,fj,?_⟩;have:=zi (c:=cM C {g with hw:=hw',hdr:=qm g.hdr (st.hZ o'.dst) vs} (st.fz o'.dst) w') (mk:=st.hZ o'.dst) (hA' _) 0 hr acM (λi u hu t ht=>by rw[cr]at ht;exact⟨(pj ht).2.1,yE hu ht⟩);have xh:(cM C {g with hw:=hw',hdr:=qm g.hdr (st.hZ o'.dst) vs} (st.fz o'.dst) w').ep=st.ep:=yy;rw[xh]at this;exact this
    |uW ts=>obtain⟨ws,hv,hr⟩:=eQ;obtain⟨all,ES⟩:=HH hr;refine⟨qm g.hdr (st.hZ o'.dst) all,λt ht=>yF ht,ws,hv,?_⟩;have:=Lf (c:=cM C {g with hw:=hw',hdr:=qm g.hdr (st.hZ o'.dst) all} (st.fz o'.dst) w') (mk:=st.hZ o'.dst) (hA' _) ES 0 acM (λi u hu t ht=>by rw[cr]at ht;exact⟨(pj ht).2.1,yE hu ht⟩);have xh:(cM C {g with hw:=hw',hdr:=qm g.hdr (st.hZ o'.dst) all} (st.fz o'.dst) w').ep=st.ep:=yy;rw[xh]at this;exact this
   obtain⟨hd,hhd,vf⟩:=vf
   obtain⟨g',nE⟩:=hg.LB o'.dst (hw':=hw') (hdr':=hd) (fp:=fp) (st1:=st.fz o'.dst) Gj tA zk yy (λt ht=>⟨Br ht,hhd t ht⟩)
    ⟨jq.os,jq.tape,jq.output,jq.size,λb hb _=>jq.block b hb (λm=>m)⟩ (λb x hx _=>by simp[hw',Vu b (hg.fY b x hx).1])
    (λb o u ho hu=>by have hb:b<w.heap.size:=World.block_lt_of_cell? w _ hu;exact⟨by simp[hw',Vu b hb];exact ho,yl jq hu⟩) vf DA (λb hb=>⟨(BU b hb).2,.inr (BU b hb).1⟩)
   exact gG _ _ _ ⟨g',nE⟩ hk
 cases hk
end Go.Dn
