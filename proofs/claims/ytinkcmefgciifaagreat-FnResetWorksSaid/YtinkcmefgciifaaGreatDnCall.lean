import Derived.Test.YtinkcmefgciifaaGreatDnOps8
/- A call by value: what a callee promises, and what the caller makes of it. -/
namespace Go.Dn
open Go.RowKit
variable {P:Program} {C:Ctx} {st:AS} {a:Act} {w:World} {R:Type} {r:R}
variable {x:AC} {args:Array Operand} {ts:Array TypeId} {Γ:Bx} {g:Gh} {hw:Nat->Nat} {hdr:Nat->Value} {f:Operand} {c c':RC} {v:Value} {cs:az AC} {d:aC Nat} {fp:gk} {all:jT}
def gT (A:Rg)(hw:Nat->Nat)(w:World):RC:=⟨hw,λ_=>0,A,λ_=>undef,λ_=>False,0,λ_=>False,w⟩
def rK (A:Rg)(w:World):jT->az AV->Prop
 |[],[]=>True
 |v::vs,x::xs=>iu (gT A (λ_=>0) w) v x []/\rK A w vs xs
 |_,_=>False
def arQ (P:Program)(f:Nat)(F:kH)(y:F.R)(g:Bool)(cs:az AC)(rest:az AV):Prop:=
 ∀(A:Rg)(w:World)(v0:Value)(vs:jT)(hw:Nat->Nat)(fp:gk),(∀k b o,A k b o->b<w.heap.size/\b∉fp)->iu (gT A hw w) v0 (.val g cs) fp->fp.Nodup->(∀b∈fp,b<w.heap.size)->rK A w vs rest->
  Calls P f (v0::vs).toArray w λe w'=>∃v hw' fr lT,e=.returned v/\iu (gT A hw' w') v (F.av y) fr/\iu (gT A hw' w') v0 (.val g (F.back y)) lT/\lT.Nodup/\
   (∀b∈lT,b<w'.heap.size/\(b∈fp\/w.heap.size<=b))/\Fr (λb=>b∈fp) w w'
def ant (P:Program)(f:Nat)(F:kH)(y:F.R)(cs:az AC)(rest:az AV):Prop:=
 ∀(A:Rg)(w:World)(b:Nat)(vs:jT)(arr:Array Value)(T:TypeId)(fr:Nat×Nat)(hw:Nat->Nat)(fp:gk),(∀k b' o,A k b' o->b'<w.heap.size/\b'≠b/\b'∉fp)->
  w.heap[b]?=some (.cells arr T fr)->rH arr fr->bT (gT A hw w) arr.toList cs fp->fp.Nodup->b∉fp->(∀b'∈fp,b'<w.heap.size)->hw b=0->rK A w vs rest->
  Calls P f (.pointer (some ⟨b,0,none⟩)::vs).toArray w λe w'=>∃v hw' fv kl T' LY lT,e=.returned v/\iu (gT A hw' w') v (F.av y) fv/\w'.heap[b]?=some (.cells kl T' LY)/\rH kl LY/\
   bT (gT A hw' w') kl.toList (F.back y) lT/\lT.Nodup/\b∉lT/\(∀b'∈lT,b'<w'.heap.size/\(b'∈fp\/w.heap.size<=b'))/\fv.Nodup/\(∀b'∈fv,b'<w'.heap.size/\(b'∈fp\/w.heap.size<=b')/\b'∉lT/\b'≠b)/\Fr (λb'=>b'=b\/b'∈fp) w w'
def akB (P:Program)(f:Nat)(F:kH)(y:F.R)(xs:az AV):Prop:=
 ∀(A:Rg)(w:World)(vs:jT),(∀k b o,A k b o->b<w.heap.size)->rK A w vs xs->
  Calls P f vs.toArray w λe w'=>∃b arr T fr hw,e=.returned (.pointer (some ⟨b,0,none⟩))/\w.heap.size<=b/\w'.heap[b]?=some (.cells arr T fr)/\rH arr fr/\bT (gT A hw w') arr.toList (F.back y) []/\Fr (λ_=>False) w w'
def jj (P:Program)(f:Nat)(F:kH):Prop:=
 ∀(xs:az AV)(y:F.R),F.fn xs=some y->
  (∃fn c,P.funcs[f]?=some fn/\fn.body=some c/\(fn.name== "runtime.NumGoroutine")=false)/\
  (F.io=false->F.bx=false->∀(A:Rg)(w:World)(vs:jT),(∀k b o,A k b o->b<w.heap.size)->rK A w vs xs->
    Calls P f vs.toArray w λe w'=>∃v hw fp,e=.returned v/\iu (gT A hw w') v (F.res y) fp/\fp.Nodup/\(∀b∈fp,w.heap.size<=b/\b<w'.heap.size)/\Fr (λ_=>False) w w')/\
  (F.io=true->∀g cs rest,xs=.val g cs::rest->arQ P f F y g cs rest)/\
  (F.bx=true->∀cs rest,xs=.val true cs::rest->ant P f F y cs rest)/\
  (F.pr=true->akB P f F y xs)
theorem tp (h:jh c v x fp)(hf:x.kP=true):fp=[]/\jh c' v x []:=by cases x with|int k n=>exact⟨h.2,h.1,rfl⟩|bool b=>exact⟨h.2,h.1,rfl⟩|str s=>exact⟨h.2,h.1,rfl⟩|fn f=>exact⟨h.2,h.1,rfl⟩|_=>cases hf
theorem H4 {c':RC}:∀{vs:jT}{xs:az AC}{fp:gk},bT c vs xs fp->xs.all AC.kP=true->fp=[]/\bT c' vs xs []
 |[],[],_,h,_=>⟨h,rfl⟩
 |_::_,_::_,_,h,hf=>by obtain⟨f1,f2,rfl,h1,h2⟩:=h;simp only[cw,ae]at hf;obtain⟨rfl,k1⟩:=tp (c':=c') h1 hf.1;obtain⟨rfl,k2⟩:=H4 (c':=c') h2 hf.2;exact⟨rfl,[],[],rfl,k1,k2⟩
 |[],_::_,_,h,_=>h.elim
 |_::_,[],_,h,_=>h.elim
theorem V3:∀{ws:jT}{ts:az (Bool×az AC)}{fp:gk},iu.sD c ws ts fp->(ts.all λx=>x.2.all AC.kP)=true->iu.sD c' ws ts []
 |[],[],_,_,_=>rfl
 |_::_,_::_,_,h,hf=>by obtain⟨f1,f2,rfl,⟨vs,hv,h1⟩,h2⟩:=h;simp only[cw,ae]at hf;exact⟨[],[],rfl,⟨vs,hv,(H4 h1 hf.1).2⟩,V3 h2 hf.2⟩
 |[],_::_,_,h,_=>h.elim
 |_::_,[],_,h,_=>h.elim
theorem OF {x:AV}(h:iu c v x fp)(hf:x.kP=true):iu c' v x []:=by
 cases x with
 |val g cs=>obtain⟨vs,hv,h⟩:=h;exact⟨vs,hv,(H4 h hf).2⟩
 |xN ts=>obtain⟨ws,hv,h⟩:=h;exact⟨ws,hv,V3 h hf⟩
theorem aba {A:Rg}:∀(os ss:az AC){r:az AC}{vs us:jT}{f:gk},pB os ss=some r->bT c vs os []->bT c us ss f->bT (gT A c.hw c.w) vs r f:=by
 intro os;induction os with
 |nil=>intro ss r vs us f h hv hu;cases ss with|cons _ _=>simp[pB]at h|nil=>simp[pB]at h;subst h;cases vs with|cons _ _=>exact hv.elim|nil=>cases us with|cons _ _=>exact hu.elim|nil=>exact hu
 |cons o os ih=>
  intro ss r vs us f h hv hu;cases vs with
  |nil=>exact hv.elim
  |cons v vs=>
   cases ss with
   |nil=>unfold pB at h;split at h<;>first|contradiction|cases h
   |cons s ss=>
    cases us with
    |nil=>exact hu.elim
    |cons u us=>
     obtain⟨g1,g2,hg,hv1,Ur⟩:=hv;have e1:g1=[]:=by have:=hg.symm;simp at this;exact this.1
     have e2:g2=[]:=by have:=hg.symm;simp at this;exact this.2
     subst e1;subst e2;obtain⟨f1,f2,rfl,hu1,hu2⟩:=hu;have fl:∀{x:AC}{r'},x.kP=true->s.kP=true->o=x->pB os ss=some r'->r=x::r'->bT (gT A c.hw c.w) (v::vs) r (f1++f2):=by rintro x r' hx hs rfl hr rfl;obtain⟨rfl,_⟩:=tp (c':=c) hu1 hs;exact⟨[],f2,rfl,(tp hv1 hx).2,ih ss hr Ur hu2⟩
     unfold pB at h;split at h;contradiction;rename_i ep rt t e0 xs0 os' t' e xs ss' h1 h2;injection h1 with h1 QJ;subst h1;subst QJ;injection h2 with h2 Vp;subst h2;subst Vp;cases ht:(t'==t)with
     |false=>rw[ht]at h;cases h
     |true=>
      have:t'=t:=by simpa using ht
      subst this;rw[ht]at h;simp only[ah]at h;obtain⟨r',hr,h⟩:=aZ.1 h;cases h;have KR:=(hv1.2.2.2.2 rt t' rfl).2;have Uq:=(hu1.2 t' rfl).2;have huv:u=v:=Uq.trans KR.symm;subst huv;exact⟨f1,f2,rfl,⟨hu1.1,by simp⟩,ih _ hr Ur hu2⟩
     rename_i k n os' k' n' ss' h1 h2;injection h1 with h1 QJ;subst QJ;injection h2 with h2 Vp;subst h2;subst Vp;obtain⟨r',hr,h⟩:=aZ.1 h;cases h;exact fl (x:=.int k n) rfl rfl h1 hr rfl;rename_i k os' k' ss' h1 h2;injection h1 with h1 QJ;subst QJ;injection h2 with h2 Vp;subst h2;subst Vp;obtain⟨r',hr,h⟩:=aZ.1 h;cases h;exact fl (x:=.bool k) rfl rfl h1 hr rfl;rename_i k os' k' ss' h1 h2;injection h1 with h1 QJ;subst QJ;injection h2 with h2 Vp;subst h2;subst Vp;obtain⟨r',hr,h⟩:=aZ.1 h;cases h;exact fl (x:=.str k) rfl rfl h1 hr rfl;cases h
theorem YV (h:jh c v x fp):jh (gT (λ_ b o=>c.S b o/\b<c.w.heap.size) (λ_=>0) c.w) v (x.asArg c.ep) []:=by
 have hS:∀{e:CT}{xs:az e.D},kA c.w c.S (.sl e) [v] xs->kA c.w (λb o=>c.S b o/\b<c.w.heap.size) (.sl e) [v] xs:=λhr=>
  kA.mono (λb o u hs hu=>⟨⟨hs,World.block_lt_of_cell? c.w _ hu⟩,hu⟩) hr
 cases x with|int k n=>exact⟨h.1,rfl⟩|bool b=>exact⟨h.1,rfl⟩|str s=>exact⟨h.1,rfl⟩|lj=>exact⟨h.1,rfl⟩|fn f=>exact⟨h.1,rfl⟩|ptr s off=>exact rfl|un=>exact rfl|bot=>exact rfl|C5 fl e y i off=>exact rfl|sl fl e xs=>cases fl with|nest _ _ _ _ _ _=>exact rfl|part _ _ _ _=>exact rfl|gH _ _ _=>exact rfl|own t=>exact⟨rfl,hS (gG.rep (λb o ho=> .inr ho) h.1)⟩|arg k=>exact⟨rfl,hS (kA.mono (λb o u hs hu=>⟨.inl ⟨k,hs⟩,hu⟩) h.2)⟩|loc ep pv=>simp only[AC.asArg];split;rename_i he;exact⟨rfl,hS (h.2.2.2.1 (by simpa using he))⟩;exact rfl
theorem LO:∀{vs:jT}{xs:az AC}{fp:gk},bT c vs xs fp->bT (gT (λ_ b o=>c.S b o/\b<c.w.heap.size) (λ_=>0) c.w) vs (xs.map (AC.asArg c.ep)) []
 |[],[],_,_=>rfl
 |_::_,_::_,_,h=>by obtain⟨f1,f2,rfl,h1,h2⟩:=h;exact⟨[],[],rfl,YV h1,LO h2⟩
 |[],_::_,_,h=>h.elim
 |_::_,[],_,h=>h.elim
theorem acZ {x:AV}(h:iu c v x fp):iu (gT (λ_ b o=>c.S b o/\b<c.w.heap.size) (λ_=>0) c.w) v (x.asArg c.ep) []:=by
 cases x with
 |val g cs=>obtain⟨vs,hv,h⟩:=h;exact⟨vs,hv,LO h⟩
 |xN ts=>exact iu.bot _ _
theorem VC (h:eX C g st a w []):∀(args:az Operand),
 rK (λ_ b o=>(dp C g st w).S b o/\b<w.heap.size) w (args.map a.eval) (args.map λx=>((st.rd x).fresh st).asArg st.ep)
 |[]=>trivial
 |x::xs=>⟨acZ (c:=dp C g st w) (h.fresh (h.rd x)),VC h xs⟩
theorem YW {A':Rg}{tag:aC Nat}(h:jh (gT A' hw c.w) v x fp)(hA:∀k b o,A' k b o->c.S b o)(GV:∀b∈fp,c.hw b=hw b)(ht:∀t,tag=some t->c.iss t/\v=c.hdr t):jh c v (x.E8 c.ep tag) fp:=by
 cases x with
 |int k n=>exact h
 |bool b=>exact h
 |str s=>exact h
 |lj=>exact h
 |fn f=>exact h
 |ptr s off=>exact h.2.2
 |un=>exact h
 |bot=>exact h
 |C5 fl e y i off=>cases fl with|own t=>exact h.elim|nest _ _ _ _ _ _=>exact h.elim|part _ _ _ _=>exact h.elim|gH _ _ _=>exact h.elim|arg _=>exact h.1|loc ep pv=>exact h.1
 |sl fl e xs=>
  cases fl with
  |nest _ _ _ _ _ _=>exact h.1
  |part _ _ _ _=>exact h.1
  |gH _ _ _=>obtain⟨_,⟨k,hk,h3⟩,_⟩:=h;exact⟨λq hq=>(by cases hq),⟨k,hk,h3.mono (λb hb=>⟨rfl,GV b hb⟩)⟩,by simp⟩
  |own t=>exact⟨gG.mono h.1 (λb hb=>⟨rfl,GV b hb⟩),ht⟩
  |loc ep pv=>exact h.1
  |arg _=>have hr:kA c.w c.S (.sl e) [v] xs:=kA.mono (λb o u hs hu=>⟨hA _ b o hs,hu⟩) h.2;refine⟨h.1,aX _,?_,λ_=>hr,by simp⟩;obtain⟨u,hu,k⟩:=hr;simp at hu;subst hu;rcases k with⟨⟨ad,rfl⟩,rfl⟩|⟨b,o,cap,rfl,_⟩;exact⟨_,_,_,rfl,rfl⟩;exact⟨_,_,_,rfl,rfl⟩
theorem Cs {A':Rg}{mk:Nat->aC Nat}(hA:∀k b o,A' k b o->c.S b o):∀{vs:jT}{xs:az AC}{fp:gk}(j:Nat),bT (gT A' hw c.w) vs xs fp->(∀b∈fp,c.hw b=hw b)->
 (∀i v,vs[i]?=some v->∀t,mk (j+i)=some t->c.iss t/\v=c.hdr t)->bT c vs (JX c.ep mk j xs) fp
 |[],[],_,_,h,_,_=>h
 |v::_,_::_,_,j,h,hh,hm=>by obtain⟨f1,f2,rfl,h1,h2⟩:=h;exact⟨f1,f2,rfl,YW h1 hA (λb hb=>hh b (aU _ hb)) (λt ht=>hm 0 v rfl t ht),Cs hA (j+1) h2 (λb hb=>hh b (bm _ hb)) (λi u hu t ht=>hm (i+1) u (by simpa using hu) t (by rwa[show j+(i+1)=j+1+i by omega]))⟩
 |[],_::_,_,_,h,_,_=>h.elim
 |_::_,[],_,_,h,_,_=>h.elim
inductive Leaves (A:Rg) (hw:Nat->Nat) (w:World):List Value->List (Bool×List AC)->List Nat->List Value->Prop
 |nil:Leaves A hw w [] [] [] []
 |cons {v:Value} {vs:List Value} {g:Bool} {cs:List AC} {ts:List (Bool×List AC)} {f1 f2:List Nat} {us all:List Value} (gJ:Cut g v us) (hr:bT (gT A hw w) us cs f1) (h:Leaves A hw w vs ts f2 all):
  Leaves A hw w (v::vs) ((g,cs)::ts) (f1++f2) (us++all)
theorem K0 {A:Rg}{w:World}:∀{ws:jT}{ts:az (Bool×az AC)}{fp:gk},iu.sD (gT A hw w) ws ts fp->∃all,Leaves A hw w ws ts fp all
 |[],[],_,h=>by cases h;exact⟨[],.nil⟩
 |_::_,(g,cs)::_,_,h=>by obtain⟨f1,f2,rfl,⟨us,gJ,hr⟩,h2⟩:=h;obtain⟨all,Cn⟩:=K0 h2;exact⟨us++all,.cons gJ hr Cn⟩
 |[],_::_,_,h=>h.elim
 |_::_,[],_,h=>h.elim
theorem Pp {A':Rg}{mk:Nat->aC Nat}(hA:∀k b o,A' k b o->c.S b o){ws:jT}{ts:az (Bool×az AC)}(h:Leaves A' hw c.w ws ts fp all): ∀j,(∀b∈fp,c.hw b=hw b)->(∀i v,all[i]?=some v->∀t,mk (j+i)=some t->c.iss t/\v=c.hdr t)->iu.sD c ws (aa6 c.ep mk j ts) fp:=by induction h with|nil=>intro j _ _;exact rfl| @cons v vs g cs ts f1 f2 us all gJ hr h ih=>intro j hh hm;have hl:=hr.length;refine⟨f1,f2,rfl,⟨us,gJ,Cs hA j hr (λb hb=>hh b (aU _ hb)) (λi u hu t ht=>?_)⟩,ih _ (λb hb=>hh b (bm _ hb)) (λi u hu t ht=>?_)⟩;exact hm i u (by rw[bu (aB.1 hu).1];exact hu) t ht;have hl':us.length=cs.length:=hl;refine hm (us.length+i) u (by rw[bE (by omega)];simpa using hu) t ?_;rw[<-gw,hl'];exact ht
def sI (hdr:Nat->Value)(mk:Nat->aC Nat)(all:jT):Nat->Value:=λu=>if mk (u/3%4096)=some u then(all[u/3%4096]?).getD undef else hdr u
theorem BW {t:Nat}(h:oz st t):sI hdr (st.jz d) all t=hdr t:=by unfold sI;rw[aI];intro e;exact(rr e).1 h
theorem BV {i t:Nat}(hv:all[i]?=some v)(h:st.jz d i=some t):v=sI hdr (st.jz d) all t:=by
 obtain⟨_,_,d',rfl,ht,hi⟩:=rr h;have ajx:t/3%4096=i:=by rw[ht,Kc];omega
 unfold sI;rw[ajx,aJ h,hv];rfl
theorem abn {vs us:jT}{seg:az AC}{f1 f2 f3:gk}{off n:Nat}(hus:us=(vs.drop off).take n)(hln:us.length=n)(r1:bT c' (vs.take off) (cs.take off) f1)(r2:bT c' us seg f2)(r3:bT c' (vs.drop (off+n)) (cs.drop (off+n)) f3): bT c' vs (fD cs off seg) (f1++f2++f3):=by
 have BD:=r2.length;have e:vs=vs.take off++us++vs.drop (off+n):=by rw[hus,aE,<-eZ,cC,cC]
 rw[e,fD,show seg.length=n by omega];exact bT.append (bT.append r1 r2) r3
theorem Rm:∀(os ss:az AC){r:az AC},pB os ss=some r->ss.length=os.length:=by
 intro os
 induction os with
 |nil=>intro ss r h;cases ss with
  |nil=>rfl
  |cons _ _=>simp[pB]at h
 |cons o os ih=>
  intro ss r h
  cases ss with
  |nil=>unfold pB at h;split at h<;>first|contradiction|cases h
  |cons s ss=>
   unfold pB at h
   split at h
   ·contradiction
   ·rename_i h1 h2
    injection h1 with h1 QJ;subst QJ
    injection h2 with h2 Vp;subst Vp
    rw[Bool.cond_eq_ite]at h
    split at h
    ·obtain⟨r',hr,h⟩:=aZ.1 h
     simp[ih _ hr]
    ·cases h
   all_goals first
    |cases h
    |(rename_i h1 h2
      injection h1 with h1 QJ;subst QJ
      injection h2 with h2 Vp;subst Vp
      obtain⟨r',hr,h⟩:=aZ.1 h
      simp[ih _ hr])
theorem HW {A':Rg}{mk:Nat->aC Nat}{k:Bool}(hA:A' true=c.A k):∀{vs:jT}{xs:az AC}{fp:gk}(j:Nat),bT (gT A' hw c.w) vs xs fp->xs.all (AC.Aw true)=true->
 (∀b∈fp,c.hw b=hw b)->(∀i v,vs[i]?=some v->∀t,mk (j+i)=some t->c.iss t/\v=c.hdr t)->bT c vs (rk k mk j xs) fp
 |[],[],_,_,h,_,_,_=>h
 |v::_,x::_,_,j,h,pR,hh,hm=>by
  obtain⟨f1,f2,rfl,h1,h2⟩:=h;simp only[cw,ae]at pR;refine⟨f1,f2,rfl,?_,HW hA (j+1) h2 pR.2 (λb hb=>hh b (bm _ hb)) (λi u hu t ht=>hm (i+1) u (by simpa using hu) t (by rwa[show j+(i+1)=j+1+i by omega]))⟩;have GV:∀b∈f1,c.hw b=hw b:=λb hb=>hh b (aU _ hb);have ht:∀t,mk j=some t->c.iss t/\v=c.hdr t:=λt ht=>hm 0 v rfl t ht;have pR:=pR.1;cases x with
  |sl fl e xs=>
   cases fl with
   |own t=>exact⟨gG.mono h1.1 (λb hb=>⟨rfl,GV b hb⟩),ht⟩
   |arg k'=>
    have hk:k'=true:=by simpa[AC.Aw]using pR
    subst hk;exact⟨h1.1,by rw[<-hA];exact h1.2⟩
   |loc _ _=>cases pR
   |nest _ _ _ _ _ _=>cases pR
   |part _ _ _ _=>cases pR
   |gH _ _ _=>cases pR
  |int _ _=>exact h1
  |bool _=>exact h1
  |str _=>exact h1
  |fn _=>exact h1
  |lj=>cases pR
  |ptr _ _=>cases pR
  |C5 _ _ _ _ _=>cases pR
  |un=>cases pR
  |bot=>cases pR
 |[],_::_,_,_,h,_,_,_=>h.elim
 |_::_,[],_,_,h,_,_,_=>h.elim
theorem Kg {A':Rg}{w:World}{k:Bool}:∀{cs:az AC},cs.all (AC.Aw k)=true->∀{c:RC}{vs:jT}{fp:gk},bT c vs cs fp->c.w=w->c.hw=hw->A' true=c.A k->bT (gT A' hw w) vs (cs.map AC.Ve) fp
 |[],_,c,vs,fp,h,_,_,_=>by cases vs with|nil=>exact h|cons _ _=>exact h.elim
 |x::cs,pR,c,vs,fp,h,Vr,Hl,hA=>by
  cases vs with
  |nil=>exact h.elim
  |cons v vs=>
   obtain⟨f1,f2,rfl,h1,h2⟩:=h;simp only[cw,ae]at pR;refine⟨f1,f2,rfl,?_,Kg pR.2 h2 Vr Hl hA⟩;have pR:=pR.1;cases x with
   |sl fl e xs=>
    cases fl with
    |own t=>exact⟨by have:=h1.1;rw[Vr,Hl]at this;exact this,by simp⟩
    |arg k'=>
     have hk:k'=k:=by simpa[AC.Aw]using pR
     subst hk;exact⟨h1.1,by have:=h1.2;rw[Vr,<-hA]at this;exact this⟩
    |loc _ _=>cases pR
    |nest _ _ _ _ _ _=>cases pR
    |part _ _ _ _=>cases pR
    |gH _ _ _=>cases pR
   |int _ _=>exact h1
   |bool _=>exact h1
   |str _=>exact h1
   |fn _=>exact h1
   |lj=>cases pR
   |ptr _ _=>cases pR
   |C5 _ _ _ _ _=>cases pR
   |un=>cases pR
   |bot=>cases pR
theorem Ss (h:eX C g st a w [])(s:Nat){A':Rg}(hA:∀b o,(dp C g st w).S b o/\b<w.heap.size/\g.fL b≠some (.box s)->A' false b o):∀(xs:az Operand),xs.all (DQ st)=true->
 rK A' w (xs.map a.eval) (xs.map (CI st))
 |[],_=>trivial
 |x::xs,hx=>by
  simp only[cw,ae]at hx;refine⟨?_,Ss h s hA xs hx.2⟩;have hx:=hx.1;cases x with
  |const _=>exact OF (h.rd _) hx
  |func _=>exact OF (h.rd _) hx
  |global _=>exact OF (h.rd _) hx
  |tmp t=>
   have jl:∀(t0:Nat){e:CT}{v:Value}{xs:az e.D}{fp:gk},gG g.hw w (.sl e) [v] xs fp->(∀b∈fp,g.fL b=some (.slot t0))->kA w (A' false) (.sl e) [v] xs:=by
    intro t0 e v xs fp h1 hl;have h3:gG (λb=>if b∈fp then g.hw b else 0) w (.sl e) [v] xs fp:=gG.mono h1 (λb hb=>⟨rfl,by simp[hb]⟩)
    exact gG.rep (λb o ho=>by
     by_cases hb:b∈fp;have ho:o<g.hw b:=by simpa[hb]using ho
     have R8:=hl b hb;exact hA b o ⟨.inr ho,(h.iw b _ R8).1,by rw[R8];simp⟩;simp[hb]at ho) h3
   obtain⟨fp,hr,hn,hl⟩:=h.slot t;simp only[DQ]at hx;show iu _ (a.tmps.getD t undef) (CI st (.tmp t)) _;simp only[CI];cases hv:st.get t with
   |xN _=>rw[hv]at hx;cases hx
   |val gg cs=>
    rw[hv]at hx hr;simp only at hx;obtain⟨vs,gJ,hr⟩:=hr
    have key:∀(cs:az AC)(vs:jT)(fp:gk),(cs.map st.Rc).all AC.Ky=true->(∀b∈fp,g.fL b=some (.slot t))->bT (dp C g st w) vs cs fp->
     bT (gT A' (λ_=>0) w) vs (cs.map st.Rc) []:=by
     intro cs
     induction cs with
     |nil=>intro vs fp _ _ h;cases vs with
      |nil=>rfl
      |cons _ _=>exact h.elim
     |cons c cs ih=>
      intro vs fp hc hl hr
      cases vs with
      |nil=>exact hr.elim
      |cons v vs=>
       obtain⟨f1,f2,rfl,h1,h2⟩:=hr
       simp only[cS,cw,ae]at hc
       refine⟨[],[],rfl,?_,ih vs f2 hc.2 (λb hb=>hl b (bm _ hb)) h2⟩
       have hc:=hc.1
       cases c with
       |sl fl e xs=>
        cases fl with
        |own tag=>exact⟨rfl,jl t h1.1 (λb hb=>hl b (aU _ hb))⟩
        |arg k=>exact⟨rfl,kA.mono (λb o u hs hu=>⟨hA b o ⟨.inl ⟨k,hs⟩,World.block_lt_of_cell? w _ hu,λhb=>h.Pn hb k o hs⟩,hu⟩) h1.2⟩
        |loc ep pv=>
         cases pv with
         |none=>cases hc
         |some q=>
          obtain⟨r,tg⟩:=q
          cases r with
          |box _ _=>cases hc
          |io _=>cases hc
          |slot b j=>
           have Ur:=(h1.2.2.2.2 (.slot b j) tg rfl).2
           simp only[AS.Rc]at hc⊢
           cases YG:st.gh (.slot b j)with
           |none=>rw[YG]at hc;cases hc
           |some c0=>
            rw[YG]at hc
            split at hc
            ·rename_i t' e' ys Vq
             split at hc
             ·rename_i ht
              subst ht
              cases Vq
              rw[aJ rfl]
              obtain⟨fp2,Q4,_,BD⟩:=h.slot b
              simp only[AS.gh]at YG
              cases hgb:st.get b with
              |xN _=>rw[hgb]at YG;cases YG
              |val g2 Fu=>
               rw[hgb]at YG Q4
               simp only at YG
               obtain⟨vs2,_,Q4⟩:=Q4
               rw[eT]at YG
               obtain⟨v2,f3,_,O2,rE⟩:=Q4.get j _ YG
               have asL:v=v2:=by have:=(O2.2 t' rfl).2;rw[Ur,this]
               rw[asL]
               exact⟨rfl,jl b O2.1 (λb' iB=>BD b' (rE b' iB))⟩
             ·cases hc
            ·cases hc
        |nest _ _ _ _ _ _=>cases hc
        |part _ _ _ _=>cases hc
        |gH _ _ _=>cases hc
       |int _ _=>exact⟨h1.1,rfl⟩
       |bool _=>exact⟨h1.1,rfl⟩
       |str _=>exact⟨h1.1,rfl⟩
       |fn _=>exact⟨h1.1,rfl⟩
       |lj=>cases hc
       |ptr _ _=>cases hc
       |C5 _ _ _ _ _=>cases hc
       |un=>cases hc
       |bot=>cases hc
    exact⟨vs,gJ,key cs vs fp hx hl hr⟩
theorem eX.aje (h:eX C g st a w [])(s:Nat)(lB:st.boxes[s]?=some (some cs)): ∃arr T fr fp,w.heap[g.β s]?=some (.cells arr T fr)/\rH arr fr/\bT (dp C g st w) arr.toList cs fp/\fp.Nodup/\g.β s∉fp/\(∀b∈fp,b<w.heap.size)/\g.hw (g.β s)=0/\(∀b,b=g.β s\/b∈fp->g.fL b=some (.box s))/\ ∀(w':World)(hw':Nat->Nat)(kl:Array Value)(T':TypeId)(LY:Nat×Nat)(sF:az AC)(lT fv:gk)(A':Rg)(k:Bool),Fr (λb=>b=g.β s\/b∈fp) w w'->w'.heap[g.β s]?=some (.cells kl T' LY)->rH kl LY-> A' true=C.A k->bT (gT A' hw' w') kl.toList sF lT->sF.all (AC.Aw true)=true->lT.Nodup->g.β s∉lT->(∀b∈lT,b<w'.heap.size/\(b∈fp\/w.heap.size<=b))-> (∀b∈fv,b<w'.heap.size/\(b∈fp\/w.heap.size<=b)/\b∉lT/\b≠g.β s)-> ∃g',eX C g' (abK st s (rk k (st.jz (some s)) 0 sF)) a w' []/\(∀b∈fv,g'.fL b=some (.hand 0)/\g'.hw b=hw' b)/\∀b,b<w.heap.size->g.fL b≠some (.box s)->g'.hw b=g.hw b:=by
 obtain⟨arr,T,fr,fp,lV,uj,hr,hn,xY,hl,IE,IH⟩:=h.boxes s cs lB;have AL:s<st.boxes.length:=(aB.1 lB).1;have OU:∀b,b=g.β s\/b∈fp->g.fL b=some (.box s):=by rintro b (rfl|hb);exact IE;exact hl b hb
 refine⟨arr,T,fr,fp,lV,uj,hr,hn,xY,λb hb=>(h.iw b _ (hl b hb)).1,IH,OU,?_⟩;intro w' hw' kl T' LY sF lT fv A' k kB Ja WC hA' xZ alX Eb Jc KO L7;let bx':az AC:=rk k (st.jz (some s)) 0 sF;let cc:AS:=abK st s bx';let hw2:Nat->Nat:=λb=>if b∈lT\/b∈fv then hw' b else if b=g.β s then 0 else g.hw b
 let ahu:Nat->aC lI:=λb=>if b=g.β s\/b∈lT then some (.box s) else if b∈fv then some (.hand 0) else g.fL b
 let g':Gh:=⟨hw2,g.β,ahu,sI g.hdr (st.jz (some s)) kl.toList⟩
 have vE:cc.boxes=st.boxes.set s (some bx'):=by show((st.fU s (some bx')).gO (some s)).boxes=_;rw[Cv,lS]
 have O3:cc.slots=st.slots:=by show((st.fU s (some bx')).gO (some s)).slots=_;rw[vZ];rfl
 have Q1:cc.io=st.io:=by show((st.fU s (some bx')).gO (some s)).io=_;rw[JA];rfl
 have M0:∀t,oz st t->oz cc t:=λt ht=>by have h1:oz (st.fU s (some bx')) t:=ht;exact EC (d:=some s) h1
 have hpr:∀t,ky st t->ky cc t:=by rintro t ⟨c0,Vq⟩;by_cases uW:s=t;subst uW;exact⟨bx',by rw[vE];simp[AL]⟩;exact⟨c0,by rw[vE,aF uW];exact Vq⟩
 have Wy:∀b,b<w.heap.size->g.fL b≠some (.box s)->b∉lT/\b∉fv/\b≠g.β s:=by intro b hb R8;refine⟨λhm=>?_,λhm=>?_,λhm=>R8 (OU b (.inl hm))⟩;rcases(KO b hm).2 with h2|h2;exact R8 (OU b (.inr h2));omega;rcases(L7 b hm).2.1 with h2|h2;exact R8 (OU b (.inr h2));omega
 have uy:∀b x,x≠ .box s->g.fL b=some x->ahu b=some x/\w'.heap[b]?=w.heap[b]?/\hw2 b=g.hw b:=by intro b x hx hb;have Hv:=(h.iw b x hb).1;have hnm:¬(b=g.β s\/b∈fp):=λhm=>hx (by have:=OU b hm;rw[hb]at this;simpa using this);obtain⟨n1,n2,n3⟩:=Wy b Hv (by rw[hb];simpa using hx);refine⟨?_,kB.block b Hv hnm,?_⟩;show(if b=g.β s\/b∈lT then _ else if b∈fv then _ else _)=_;rw[aI (by rintro(h1|h1);exact n3 h1;exact n1 h1),aI n2];exact hb;show(if b∈lT\/b∈fv then _ else if b=g.β s then _ else _)=_;rw[aI (by rintro(h1|h1);exact n1 h1;exact n2 h1),aI n3]
 have hcA:∀k b o u,C.A k b o->w.cell? ⟨b,o,none⟩=some u->w'.cell? ⟨b,o,none⟩=some u:=by intro k b o u hA hu;have hb:b<w.heap.size:=World.block_lt_of_cell? w _ hu;rw[World.cell?_of_block (a:=⟨b,o,none⟩) (kB.block b hb (λhm=>h.Pn (OU b hm) k o hA))];exact hu
 have hle:(dp C g st w).Le (dp C g' cc w'):=⟨rfl,λt ht=>⟨M0 t ht,BW ht⟩,hcA,Nat.le_succ _,λt ht=>⟨hpr t ht,rfl⟩,λhe=>absurd he (Nat.succ_ne_self _)⟩
 refine⟨g',h.step (λx=>x≠ .box s) hle h.defers ?_ ?_ ?_ ?_ (λb x hk hb=>uy b x hk hb) ?_ ?_ (λk u bv hk=>by simp at hk) (.inl ⟨by simp,Q1⟩),λb hb=>?_,λb hb R8=>?_⟩;rw[O3];exact h.size;rw[O3,vE,aD];exact h.bsize;refine h.frame.trans kB (λb hb hm=>?_);rcases(h.iw b _ (OU b hm)).2 with h2|h2;omega;exact h2;intro b x hx;have BE:(if b=g.β s\/b∈lT then some (lI.box s) else if b∈fv then some (.hand 0) else g.fL b)=some x:=hx;have hz:=kB.size;have hold:b∈fp\/w.heap.size<=b->C.w0.heap.size<=b\/C.M b:=by rintro(h2|h2);exact(h.iw b _ (hl b h2)).2;exact .inl (bH h.frame.size h2)
 split at BE;rename_i hm;rcases hm with rfl|hm;have:=h.iw _ _ IE;exact⟨by omega,this.2⟩;exact⟨(KO b hm).1,hold (KO b hm).2⟩;split at BE;rename_i hm;exact⟨(L7 b hm).1,hold (L7 b hm).2.1⟩;have:=h.iw b x BE;exact⟨by omega,this.2⟩;intro i av hi;rw[O3]at hi;exact .inl ⟨by simp,hi,rfl⟩;intro t Fu hb;rw[vE]at hb;by_cases uW:t=s;subst uW;rw[bL]at hb;simp only[cr,AL]at hb;simp at hb;subst hb;refine .inr ⟨kl,T',LY,lT,Ja,WC,?_,Eb,Jc,λb hb=>?_,?_,?_⟩
 have:=HW (c:=dp C g' cc w') (A':=A') (hw:=hw') (mk:=st.jz (some t)) (k:=k) hA' 0 (vs:=kl.toList) (xs:=sF) (fp:=lT) xZ alX
  (λb hb=>by show(if b∈lT\/b∈fv then _ else _)=_;rw[aJ (.inl hb)])
  (λi u hu q hq=>by
   rw[cP]at hq;have hm:=rr hq;have hm2:oz cc q:=by have h1:st.jz (some t) i=some q:=hq;have h2:(st.fU t (some bx')).jz (some t) i=some q:=h1;exact(rr h2).2.1
   exact⟨hm2,BV hu hq⟩)
 exact this;show(if b=g.β t\/b∈lT then _ else _)=_;rw[aJ (.inr hb)];show(if g.β t=g.β t\/g.β t∈lT then _ else _)=_;rw[aJ (.inl rfl)];show(if g.β t∈lT\/g.β t∈fv then _ else if g.β t=g.β t then _ else _)=_;rw[aI (by rintro(h1|h1);exact Jc h1;exact(L7 _ h1).2.2.2 rfl),aJ rfl];rw[aF (cd uW)]at hb;exact .inl ⟨by simpa using uW,hb,rfl⟩;obtain⟨_,_,h3,h4⟩:=L7 b hb;refine⟨?_,?_⟩;show(if b=g.β s\/b∈lT then _ else if b∈fv then _ else _)=_;rw[aI (by rintro(h1|h1);exact h4 h1;exact h3 h1),aJ hb];show(if b∈lT\/b∈fv then _ else _)=_;rw[aJ (.inr hb)];obtain⟨n1,n2,n3⟩:=Wy b hb R8;show(if b∈lT\/b∈fv then _ else if b=g.β s then _ else _)=_;rw[aI (by rintro(h1|h1);exact n1 h1;exact n2 h1),aI n3]
theorem Tx:∀{vs:jT}{cs:az AC}{fp:gk},bT c vs cs fp->cs.all AC.IL=true->fp=[]
 |[],[],_,h,_=>h
 |[],_::_,_,h,_=>h.elim
 |_::_,[],_,h,_=>h.elim
 |v::vs,x::cs,fp,h,hx=>by
  obtain⟨f1,f2,rfl,h1,h2⟩:=h;simp only[cw,ae]at hx;rw[Tx h2 hx.2,bB];have hx:=hx.1;cases x with
  |sl fl e xs=>cases fl<;>first|exact h1.1|cases hx
  |int k n=>exact h1.2
  |bool b=>exact h1.2
  |str s=>exact h1.2
  |fn f=>exact h1.2
  |lj=>cases hx
  |ptr _ _=>cases hx
  |C5 _ _ _ _ _=>cases hx
  |un=>cases hx
  |bot=>cases hx
theorem eX.afN (h:eX C g st a w [])(s:Nat)(lB:st.boxes[s]?=some (some cs))(KN:cs.all AC.IL=true): ∀(w':World)(hw':Nat->Nat)(kl:Array Value)(T':TypeId)(LY:Nat×Nat)(sF:az AC)(lT fv:gk)(A':Rg)(k:Bool),Fr (λb=>b=g.β s) w w'->w'.heap[g.β s]?=some (.cells kl T' LY)->rH kl LY-> A' true=C.A k->bT (gT A' hw' w') kl.toList sF lT->sF.all (AC.Aw true)=true->lT.Nodup->g.β s∉lT->(∀b∈lT,b<w'.heap.size/\w.heap.size<=b)-> (∀b∈fv,b<w'.heap.size/\w.heap.size<=b/\b∉lT/\b≠g.β s)-> ∃g',eX C g' (st.fU s (some (rk k (λ_=>none) 0 sF))) a w' []/\(∀b∈fv,g'.fL b=some (.hand 0)/\g'.hw b=hw' b)/\∀b,b<w.heap.size->g.fL b≠some (.box s)->g'.hw b=g.hw b:=by
 obtain⟨arr,T,fr,fp,lV,uj,hr,hn,xY,hl,IE,IH⟩:=h.boxes s cs lB;have alJ:fp=[]:=Tx hr KN;subst alJ;have AL:s<st.boxes.length:=(aB.1 lB).1;intro w' hw' kl T' LY sF lT fv A' k kB Ja WC hA' xZ alX Eb Jc KO L7;let bx':az AC:=rk k (λ_=>none) 0 sF;let cc:AS:=st.fU s (some bx');let hw2:Nat->Nat:=λb=>if b∈lT\/b∈fv then hw' b else if b=g.β s then 0 else g.hw b
 let ahu:Nat->aC lI:=λb=>if b=g.β s\/b∈lT then some (.box s) else if b∈fv then some (.hand 0) else g.fL b
 let g':Gh:=⟨hw2,g.β,ahu,g.hdr⟩
 have vE:cc.boxes=st.boxes.set s (some bx'):=by show(st.fU s (some bx')).boxes=_;rw[lS]
 have hpr:∀t,ky st t->ky cc t:=by rintro t ⟨c0,Vq⟩;by_cases uW:s=t;subst uW;exact⟨bx',by rw[vE];simp[AL]⟩;exact⟨c0,by rw[vE,aF uW];exact Vq⟩
 have hold:∀b,b<w.heap.size->b∉lT/\b∉fv:=by intro b hb;refine⟨λhm=>?_,λhm=>?_⟩;have:=(KO b hm).2;omega;have:=(L7 b hm).2.1;omega
 have GV:∀b,b<w.heap.size->b≠g.β s->hw2 b=g.hw b:=by intro b hb Ec;show(if b∈lT\/b∈fv then _ else if b=g.β s then _ else _)=_;rw[aI (by rintro(h1|h1);exact(hold b hb).1 h1;exact(hold b hb).2 h1),aI Ec]
 have uy:∀b x,x≠ .box s->g.fL b=some x->ahu b=some x/\w'.heap[b]?=w.heap[b]?/\hw2 b=g.hw b:=by intro b x hx hb;have Hv:=(h.iw b x hb).1;have Ec:b≠g.β s:=λhm=>hx (by rw[hm,IE]at hb;simpa using hb.symm);refine⟨?_,kB.block b Hv Ec,GV b Hv Ec⟩;show(if b=g.β s\/b∈lT then _ else if b∈fv then _ else _)=_;rw[aI (by rintro(h1|h1);exact Ec h1;exact(hold b Hv).1 h1),aI (hold b Hv).2];exact hb
 have hcA:∀k b o u,C.A k b o->w.cell? ⟨b,o,none⟩=some u->w'.cell? ⟨b,o,none⟩=some u:=by intro k b o u hA hu;have hb:b<w.heap.size:=World.block_lt_of_cell? w _ hu;rw[World.cell?_of_block (a:=⟨b,o,none⟩) (kB.block b hb (λhm=>h.Pn (by rw[hm];exact IE) k o hA))];exact hu
 have hle:(dp C g st w).Le (dp C g' cc w'):=by
  refine⟨rfl,λt ht=>⟨ht,rfl⟩,hcA,aX _,λt ht=>⟨hpr t ht,rfl⟩,λ_ b o u ho hu=>?_⟩;have hb:b<w.heap.size:=World.block_lt_of_cell? w _ hu;have M5:o<g.hw b:=ho;have Ec:b≠g.β s:=λe=>by rw[e,IH]at M5;omega
  refine⟨by show o<hw2 b;rw[GV b hb Ec];exact M5,?_⟩;show w'.cell? ⟨b,o,none⟩=some u;rw[World.cell?_of_block (a:=⟨b,o,none⟩) (kB.block b hb Ec)];exact hu
 refine⟨g',h.step (λx=>x≠ .box s) hle h.defers h.size ?_ ?_ ?_ (λb x hk hb=>uy b x hk hb) ?_ ?_ (λk u bv hk=>by simp at hk) (.inl ⟨by simp,rfl⟩),λb hb=>?_,λb hb R8=>?_⟩;rw[vE,aD];exact h.bsize;refine h.frame.trans kB (λb hb hm=>?_);have hm:b=g.β s:=hm;subst hm;rcases(h.iw _ _ IE).2 with h2|h2;omega;exact h2;intro b x hx;have BE:(if b=g.β s\/b∈lT then some (lI.box s) else if b∈fv then some (.hand 0) else g.fL b)=some x:=hx;have hz:=kB.size;split at BE;rename_i hm;rcases hm with rfl|hm;have:=h.iw _ _ IE;exact⟨by omega,this.2⟩;exact⟨(KO b hm).1,.inl (bH h.frame.size (KO b hm).2)⟩;split at BE;rename_i hm;exact⟨(L7 b hm).1,.inl (bH h.frame.size (L7 b hm).2.1)⟩;have:=h.iw b x BE;exact⟨by omega,this.2⟩;intro i av hi;exact .inl ⟨by simp,hi,rfl⟩;intro t Fu hb;rw[vE]at hb;by_cases uW:t=s;subst uW;rw[bL]at hb;simp only[cr,AL]at hb;simp at hb;subst hb;refine .inr ⟨kl,T',LY,lT,Ja,WC,?_,Eb,Jc,λb hb=>?_,?_,?_⟩;have:=HW (c:=dp C g' cc w') (A':=A') (hw:=hw') (mk:=λ_=>none) (k:=k) hA' 0 (vs:=kl.toList) (xs:=sF) (fp:=lT) xZ alX (λb hb=>by show(if b∈lT\/b∈fv then _ else _)=_;rw[aJ (.inl hb)]) (λi u hu q hq=>by cases hq);exact this;show(if b=g.β t\/b∈lT then _ else _)=_;rw[aJ (.inr hb)];show(if g.β t=g.β t\/g.β t∈lT then _ else _)=_;rw[aJ (.inl rfl)];show(if g.β t∈lT\/g.β t∈fv then _ else if g.β t=g.β t then _ else _)=_;rw[aI (by rintro(h1|h1);exact Jc h1;exact(L7 _ h1).2.2.2 rfl),aJ rfl];rw[aF (cd uW)]at hb;exact .inl ⟨by simpa using uW,hb,rfl⟩;obtain⟨_,_,h3,h4⟩:=L7 b hb;refine⟨?_,?_⟩;show(if b=g.β s\/b∈lT then _ else if b∈fv then _ else _)=_;rw[aI (by rintro(h1|h1);exact h4 h1;exact h3 h1),aJ hb];show(if b∈lT\/b∈fv then _ else _)=_;rw[aJ (.inr hb)];exact GV b hb (λe=>R8 (by rw[e];exact IE))
theorem alA (Cm:∀f,jj P f (Γ f)){o':Oper}(ho:o'.op=.call {callee:=.value f,args,argTypes:=ts})(hg:eX C g st a w []){k:Nat}(hf:st.rd f=.val false [.fn k])(lB:(Γ k).bx=true){K:AS->aC R}(hk:wy Γ o' k args.toList st K=some r)(next:Act->World->Prop)(Q:Exit->Act->World->Prop)(iX:∀cc a' w',pT C cc a' w'->K cc=some r->next a' w'):o'.wp P a w next Q:=by
 have L7:=hg.rd f;rw[hf]at L7;have L7:=(fO L7).1;unfold wy at hk;split at hk
 ·rename_i x0 xs il;split at hk
  ·rename_i s hx0;split at hk
   ·rename_i cs Wo;have hb:st.boxes[s]?=some (some cs):=by rw[eT]at Wo;cases hq:st.boxes[s]? with|none=>rw[hq]at Wo;simp at Wo|some q=>rw[hq]at Wo;simp at Wo;rw[Wo]
    cases hc:(cs.all (AC.Aw (E7 cs))&&xs.all (DQ st))with
    |false=>rw[hc]at hk;cases hk
    |true=>
     rw[hc]at hk;simp only[ah]at hk;simp only[ae]at hc;cases ja:(Γ k).fn (.val true (cs.map AC.Ve)::xs.map (CI st))with
     |none=>rw[ja]at hk;cases hk
     |some y=>
      rw[ja]at hk;simp only[aa]at hk;cases YD:(((Γ k).back y).all (AC.Aw true)&&((Γ k).av y).aet)with
      |false=>rw[YD]at hk;cases hk
      |true=>
       rw[YD]at hk;simp only[ah]at hk;simp only[ae]at YD;obtain⟨⟨fn,c,Ws,Wp,DK⟩,_,_,C7,_⟩:=Cm k _ y ja;have C7:=C7 lB _ _ rfl;have O1:=hg.rd x0;rw[hx0]at O1;have wo:=CM O1;obtain⟨arr,T,fr,fp,lV,uj,ga,hn,xY,iz,IH,FZ,qb⟩:=hg.aje s hb;let A':Rg:=λq b o=>bif q then C.A (E7 cs) b o else((dp C g st w).S b o/\b<w.heap.size/\g.fL b≠some (.box s))
       have hA':∀q b' o,A' q b' o->b'<w.heap.size/\b'≠g.β s/\b'∉fp:=by
        intro q b' o hq;have key:b'<w.heap.size/\g.fL b'≠some (.box s):=by cases q with|true=>have hq:C.A (E7 cs) b' o:=hq;exact⟨Nat.lt_of_lt_of_le (C.hA _ _ _ hq).1 hg.frame.size,λhb=>hg.Pn hb _ o hq⟩|false=>exact hq.2
        exact⟨key.1,λe=>key.2 (FZ b' (.inl e)),λe=>key.2 (FZ b' (.inr e))⟩
       have L5:=C7 A' w (g.β s) (xs.map a.eval) arr T fr g.hw fp hA' lV uj (Kg (k:=E7 cs) hc.1 ga rfl rfl rfl) hn xY iz IH (Ss hg s (λb o h=>h) xs hc.2);have asG:a.eval x0=.pointer (some ⟨g.β s,0,none⟩):=wo;have alF:(Value.pointer (some ⟨g.β s,0,none⟩)::xs.map a.eval).toArray=args.map a.eval:=by apply gj;simp[il,asG]
       rw[alF]at L5;have fG:(execOp a.eval o').run P w=.ok (.enter k (args.map a.eval)) w:=by simp[execOp,ho,resolve,L7,Deferred.ofValue,invoke,callFunc,Ws,Wp];simpa using DK
       unfold Oper.wp;rw[fG,Oper.upon_enter];refine L5.mono ?_;rintro e w' ⟨v,hw',fv,kl,T',LY,lT,rfl,Sa,Ja,WC,xZ,Eb,Jc,KO,hnv,agY,kB⟩;show next (a.put o'.dst v) w'
       have tail:∀(st1:AS)(g':Gh),eX C g' st1 a w' []->(∀b∈fv,g'.fL b=some (.hand 0)/\g'.hw b=hw' b)->(∀b,b<w.heap.size->g.fL b≠some (.box s)->g'.hw b=g.hw b)->
        K ((st1.gO o'.dst).put o'.dst (((Γ k).av y).E8 st1.ep (st1.jz o'.dst)))=some r->next (a.put o'.dst v) w':=by
        intro st1 g' pQ hlv hold hk
        have hAS:∀(hd:Nat->Value)(q:Bool)(b o:Nat),A' q b o->(dp C {g' with hdr:=hd} (st1.gO o'.dst) w').S b o:=by intro hd q b o hq;cases q with|true=>exact .inl ⟨_,hq⟩|false=>rcases hq.1 with hs|hs;exact .inl hs;exact .inr (by show o<g'.hw b;rw[hold b hq.2.1 hq.2.2];exact hs)
        have agW:∀b∈fv,g'.hw b=hw' b:=λb hb=>(hlv b hb).2
        have xZ:∃hd,(∀t,oz st1 t->hd t=g'.hdr t)/\iu (dp C {g' with hdr:=hd} (st1.gO o'.dst) w') v (((Γ k).av y).E8 st1.ep (st1.jz o'.dst)) fv:=by
         generalize (Γ k).av y=y at Sa;cases y with
         |val gg cs=>obtain⟨vs,gJ,hr⟩:=Sa;refine⟨sI g'.hdr (st1.jz o'.dst) vs,λt ht=>BW ht,vs,gJ,?_⟩;have:=Cs (c:=dp C {g' with hdr:=sI g'.hdr (st1.jz o'.dst) vs} (st1.gO o'.dst) w') (mk:=st1.jz o'.dst) (hAS _) 0 hr agW (λi u hu t ht=>by rw[cP]at ht;exact⟨(rr ht).2.1,BV hu ht⟩);have Ae:(dp C {g' with hdr:=sI g'.hdr (st1.jz o'.dst) vs} (st1.gO o'.dst) w').ep=st1.ep:=BO;rw[Ae]at this;exact this
         |xN ts=>obtain⟨ws,hv,hr⟩:=Sa;obtain⟨all,Cn⟩:=K0 hr;refine⟨sI g'.hdr (st1.jz o'.dst) all,λt ht=>BW ht,ws,hv,?_⟩;have:=Pp (c:=dp C {g' with hdr:=sI g'.hdr (st1.jz o'.dst) all} (st1.gO o'.dst) w') (mk:=st1.jz o'.dst) (hAS _) Cn 0 agW (λi u hu t ht=>by rw[cP]at ht;exact⟨(rr ht).2.1,BV hu ht⟩);have Ae:(dp C {g' with hdr:=sI g'.hdr (st1.jz o'.dst) all} (st1.gO o'.dst) w').ep=st1.ep:=BO;rw[Ae]at this;exact this
        obtain⟨hd,hhd,xZ⟩:=xZ
        obtain⟨g2,H7⟩:=pQ.PY o'.dst (hw':=g'.hw) (hdr':=hd) (fp:=fv) (st1:=st1.gO o'.dst) JA vZ Cv BO (λt ht=>⟨EC ht,hhd t ht⟩)
         (Fr.refl _ _) (λ_ _ _ _=>rfl) (λ_ _ _ ho hu=>⟨ho,hu⟩) xZ hnv (λb hb=>⟨(agY b hb).1,.inl (by rw[(hlv b hb).1];rfl)⟩)
        exact iX _ _ _ ⟨g2,H7⟩ hk
       cases hcur:((Γ k).cur&&cs.all AC.IL)with
       |false=>rw[hcur]at hk;obtain⟨g',pQ,hlv,hold⟩:=qb w' hw' kl T' LY ((Γ k).back y) lT fv A' (E7 cs) kB Ja WC rfl xZ YD.1 Eb Jc KO agY;exact tail _ g' pQ hlv hold hk
       |true=>rw[hcur]at hk;simp only[ae]at hcur;have alJ:fp=[]:=Tx ga hcur.2;subst alJ;obtain⟨g',pQ,hlv,hold⟩:=hg.afN s hb hcur.2 w' hw' kl T' LY ((Γ k).back y) lT fv A' (E7 cs) ⟨kB.os,kB.tape,kB.output,kB.size,λb hb hm=>kB.block b hb (λhh=>hm (hh.resolve_right (by simp)))⟩ Ja WC rfl xZ YD.1 Eb Jc (λb hb=>⟨(KO b hb).1,(KO b hb).2.resolve_left (by simp)⟩) (λb hb=>⟨(agY b hb).1,(agY b hb).2.1.resolve_left (by simp),(agY b hb).2.2⟩);exact tail _ g' pQ hlv hold hk
   cases hk
  cases hk
 cases hk
theorem arg_val (hA:c'.A=c.A)(hw:c'.w=c.w){x:AV}(h:iu c v x fp)(hx:x.Ky=true):fp=[]/\iu c' v x []:=by
 cases x with
 |xN _=>cases hx
 |val g cs=>
  obtain⟨vs,gJ,h⟩:=h
  have key:∀(cs:az AC)(vs:jT)(fp:gk),bT c vs cs fp->cs.all AC.Ky=true->fp=[]/\bT c' vs cs []:=by
   intro cs
   induction cs with
   |nil=>intro vs fp h _;cases vs with
    |nil=>exact⟨h,rfl⟩
    |cons _ _=>exact h.elim
   |cons x cs ih=>
    intro vs fp h hx
    cases vs with
    |nil=>exact h.elim
    |cons v vs=>
     obtain⟨f1,f2,rfl,h1,h2⟩:=h
     simp only[cw,ae]at hx
     obtain⟨rfl,k2⟩:=ih vs f2 h2 hx.2
     have hx:=hx.1
     have one:f1=[]/\jh c' v x []:=by
      cases x with
      |sl fl e xs=>cases fl with|arg k=>exact⟨h1.1,rfl,by rw[hA,hw];exact h1.2⟩|own _=>cases hx|loc _ _=>cases hx|nest _ _ _ _ _ _=>cases hx|part _ _ _ _=>cases hx|gH _ _ _=>cases hx
      |int _ _=>exact tp h1 rfl
      |bool _=>exact tp h1 rfl
      |str _=>exact tp h1 rfl
      |fn _=>exact tp h1 rfl
      |lj=>cases hx
      |ptr _ _=>cases hx
      |C5 _ _ _ _ _=>cases hx
      |un=>cases hx
      |bot=>cases hx
     obtain⟨rfl,k1⟩:=one
     exact⟨rfl,[],[],rfl,k1,k2⟩
  obtain⟨e,k⟩:=key cs vs fp h hx;exact⟨e,vs,gJ,k⟩
theorem VB (h:eX C g st a w []):∀(xs:az Operand),xs.all (λx=>(st.rd x).Ky)=true->rK C.A w (xs.map a.eval) (xs.map st.rd)
 |[],_=>trivial
 |x::xs,hf=>by simp only[cw,ae]at hf;exact⟨(arg_val (c:=dp C g st w) (c':=gT C.A (λ_=>0) w) rfl rfl (h.rd x) hf.1).2,VB h xs hf.2⟩
theorem amF (Cm:∀f,jj P f (Γ f)){o':Oper}(ho:o'.op=.call {callee:=.value f,args,argTypes:=ts})(hg:eX C g st a w []){k:Nat}(hf:st.rd f=.val false [.fn k])(hpr:(Γ k).pr=true){K:AS->aC R}(hk:aeu Γ o' k args.toList st K=some r)(next:Act->World->Prop)(Q:Exit->Act->World->Prop)(iX:∀cc a' w',pT C cc a' w'->K cc=some r->next a' w'):o'.wp P a w next Q:=by
 have L7:=hg.rd f;rw[hf]at L7;have L7:=(fO L7).1;unfold aeu at hk;split at hk
 ·rename_i d hd;split at hk
  ·rename_i IG;cases hc:args.toList.all (λx=>(st.rd x).Ky)with
   |false=>rw[hc]at hk;cases hk
   |true=>
    rw[hc]at hk;simp only[ah]at hk;cases ja:(Γ k).fn (args.toList.map st.rd)with
    |none=>rw[ja]at hk;cases hk
    |some y=>
     rw[ja]at hk;simp only[aa]at hk;cases YD:((Γ k).back y).all AC.Ky with
     |false=>rw[YD]at hk;cases hk
     |true=>
      rw[YD]at hk;simp only[ah]at hk;obtain⟨⟨fn,c,Ws,Wp,DK⟩,_,_,_,C7⟩:=Cm k _ y ja;have L5:=C7 hpr C.A w (args.toList.map a.eval) (λq b o hq=>Nat.lt_of_lt_of_le (C.hA q b o hq).1 hg.frame.size) (VB hg _ hc);have il:(args.toList.map a.eval).toArray=args.map a.eval:=by apply gj;simp
      rw[il]at L5;have fG:(execOp a.eval o').run P w=.ok (.enter k (args.map a.eval)) w:=by simp[execOp,ho,resolve,L7,Deferred.ofValue,invoke,callFunc,Ws,Wp];simpa using DK
      unfold Oper.wp;rw[fG,Oper.upon_enter];refine L5.mono ?_;rintro e w' ⟨b,arr,T,fr,hw,rfl,hb,lV,uj,ga,kB⟩;show next (a.put o'.dst (.pointer (some ⟨b,0,none⟩))) w'
      rw[eT]at IG;have Hv:=nN lV;have Ec:∀b' x,g.fL b'=some x->b'≠b:=λb' x hx e=>by have:=(hg.iw b' x hx).1;omega
      have hr1:bT ⟨λb'=>if b'=b then 0 else g.hw b',λt=>if t=d then b else g.β t,C.A,g.hdr,oz st,st.ep,ky st,w'⟩ arr.toList ((Γ k).back y) []:=by
       have hv:iu (gT C.A hw w') (.agg arr.toList.toArray) (.val true ((Γ k).back y)) []:=⟨arr.toList,rfl,ga⟩
       obtain⟨_,vs,gJ,h⟩:=arg_val (c:=gT C.A hw w') (c':=⟨λb'=>if b'=b then 0 else g.hw b',λt=>if t=d then b else g.β t,C.A,g.hdr,oz st,st.ep,ky st,w'⟩) rfl rfl hv YD;have:arr.toList=vs:=by have gJ:Value.agg arr.toList.toArray=.agg vs.toArray:=gJ;simp only[Value.agg.injEq]at gJ;simpa using congrArg Array.toList gJ
       rw[this];exact h
      obtain⟨g',KS,h'⟩:=hg.YZ d (cs:=(Γ k).back y) (arr:=arr) (T:=T) (fr:=fr) (fp:=[]) (w':=w') (bnew:=b) (hw':=λb'=>if b'=b then 0 else g.hw b') (.inr ⟨hb,IG⟩) ⟨kB.os,kB.tape,kB.output,kB.size,λb' iB _=>kB.block b' iB (λm=>m)⟩ lV uj Hv (by simp) (λb' x hx _ hn=>by simp[hn]) (λb' o u ho hu=>by have iB:b'<w.heap.size:=World.block_lt_of_cell? w _ hu;exact⟨by simp[show b'≠b by omega];exact ho,Bz kB hu⟩) hr1 List.nodup_nil (by simp) (λb' iB=>by cases iB);have hdl:d<st.boxes.length:=(aB.1 IG).1;have hq:=h'.quiet (some d) (v:=.pointer (some ⟨b,0,none⟩)) (av:=.one (.ptr d 0)) (oc ⟨by simp[dp,KS],⟨(Γ k).back y,by rw[lS];simp[hdl]⟩,rfl⟩);rw[hd];exact iX _ _ _ ⟨g',hq⟩ hk
  cases hk
 cases hk
theorem ajj (Cm:∀f,jj P f (Γ f)){o':Oper}(ho:o'.op=.call {callee:=.value f,args,argTypes:=ts})(h:pT C st a w){K:AS->aC R}(hk:Fa Γ o' f args.toList st K=some r)(next:Act->World->Prop)(Q:Exit->Act->World->Prop)(iX:∀cc a' w',pT C cc a' w'->K cc=some r->next a' w'):o'.wp P a w next Q:=by
 obtain⟨g,hg⟩:=h;unfold Fa at hk;split at hk
 ·rename_i k hf
  have L7:=hg.rd f
  rw[hf]at L7
  have L7:=(fO L7).1
  cases lB:(Γ k).bx with
  |true=>rw[lB]at hk;exact alA Cm ho hg hf lB hk next Q iX
  |false=>
  rw[lB]at hk
  simp only[af]at hk
  cases hpr:(Γ k).pr with
  |true=>rw[hpr]at hk;exact amF Cm ho hg hf hpr hk next Q iX
  |false=>
  rw[hpr]at hk
  simp only[af]at hk
  cases Q1:(Γ k).io with
  |true=>rw[Q1]at hk;cases hk
  |false=>
  rw[Q1]at hk
  simp only[af]at hk
  cases ja:(Γ k).fn (args.toList.map λx=>((st.rd x).fresh st).asArg st.ep)with
  |none=>rw[ja]at hk;cases hk
  |some y0=>
   rw[ja]at hk
   simp only[aa]at hk
   obtain⟨⟨fn,c,Ws,Wp,DK⟩,C7,_⟩:=Cm k _ y0 ja
   have C7:=C7 Q1 lB
   have hk:K ((st.gO o'.dst).put o'.dst (((Γ k).res y0).E8 st.ep (st.jz o'.dst)))=some r:=by unfold kH.res;cases Q5:(Γ k).sel y0 with|true=>rw[Q5]at hk;exact hk|false=>rw[Q5]at hk;exact hk
   generalize hy0:(Γ k).res y0=y at hk C7
   have L5:=C7 (λ_ b o=>(dp C g st w).S b o/\b<w.heap.size) w (args.toList.map a.eval) (λ_ _ _ h=>h.2) (VC hg args.toList)
   have il:(args.toList.map a.eval).toArray=args.map a.eval:=by apply gj;simp
   rw[il]at L5
   have fG:(execOp a.eval o').run P w=.ok (.enter k (args.map a.eval)) w:=by simp[execOp,ho,resolve,L7,Deferred.ofValue,invoke,callFunc,Ws,Wp];simpa using DK
   unfold Oper.wp
   rw[fG,Oper.upon_enter]
   refine L5.mono ?_
   rintro e w' ⟨v,hw,fp,rfl,ga,GW,Fh,kB⟩
   show next (a.put o'.dst v) w'
   let hw':Nat->Nat:=λb=>if b∈fp then hw b else g.hw b
   have Z6:∀b,b<w.heap.size->b∉fp:=λb hb hm=>by have:=(Fh b hm).1;omega
   have hA':∀(hd:Nat->Value)(_:Bool)(b o:Nat),((dp C g st w).S b o/\b<w.heap.size)->(dp C {g with hw:=hw',hdr:=hd} (st.gO o'.dst) w').S b o:=by rintro hd _ b o ⟨hs,hb⟩;rcases hs with hs|hs;exact .inl hs;exact .inr (by simp only[dp,hw',aI (Z6 b hb)];exact hs)
   have xZ:∃hd,(∀t,oz st t->hd t=g.hdr t)/\iu (dp C {g with hw:=hw',hdr:=hd} (st.gO o'.dst) w') v (y.E8 st.ep (st.jz o'.dst)) fp:=by
    have agW:∀b∈fp,hw' b=hw b:=λb hb=>by simp[hw',hb]
    cases y with
    |val gg cs=>obtain⟨vs,gJ,hr⟩:=ga;refine⟨sI g.hdr (st.jz o'.dst) vs,λt ht=>BW ht,vs,gJ,?_⟩;have:=Cs (c:=dp C {g with hw:=hw',hdr:=sI g.hdr (st.jz o'.dst) vs} (st.gO o'.dst) w') (mk:=st.jz o'.dst) (hA' _) 0 hr agW (λi u hu t ht=>by rw[cP]at ht;exact⟨(rr ht).2.1,BV hu ht⟩);have Ae:(dp C {g with hw:=hw',hdr:=sI g.hdr (st.jz o'.dst) vs} (st.gO o'.dst) w').ep=st.ep:=BO;rw[Ae]at this;exact this
    |xN ts=>obtain⟨ws,hv,hr⟩:=ga;obtain⟨all,Cn⟩:=K0 hr;refine⟨sI g.hdr (st.jz o'.dst) all,λt ht=>BW ht,ws,hv,?_⟩;have:=Pp (c:=dp C {g with hw:=hw',hdr:=sI g.hdr (st.jz o'.dst) all} (st.gO o'.dst) w') (mk:=st.jz o'.dst) (hA' _) Cn 0 agW (λi u hu t ht=>by rw[cP]at ht;exact⟨(rr ht).2.1,BV hu ht⟩);have Ae:(dp C {g with hw:=hw',hdr:=sI g.hdr (st.jz o'.dst) all} (st.gO o'.dst) w').ep=st.ep:=BO;rw[Ae]at this;exact this
   obtain⟨hd,hhd,xZ⟩:=xZ
   obtain⟨g',pQ⟩:=hg.PY o'.dst (hw':=hw') (hdr':=hd) (fp:=fp) (st1:=st.gO o'.dst) JA vZ Cv BO (λt ht=>⟨EC ht,hhd t ht⟩)
    ⟨kB.os,kB.tape,kB.output,kB.size,λb hb _=>kB.block b hb (λm=>m)⟩ (λb x hx _=>by simp[hw',Z6 b (hg.iw b x hx).1])
    (λb o u ho hu=>by have hb:b<w.heap.size:=World.block_lt_of_cell? w _ hu;exact⟨by simp[hw',Z6 b hb];exact ho,Bz kB hu⟩) xZ GW (λb hb=>⟨(Fh b hb).2,.inr (Fh b hb).1⟩)
   exact iX _ _ _ ⟨g',pQ⟩ hk
 cases hk
end Go.Dn
