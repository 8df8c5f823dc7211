import Derived.Test.YthllnaiaikjelaaGreatDnOps8
/- A call by value: what a callee promises, and what the caller makes of it. -/
namespace Go.Dn
open Go.RowKit
variable {P:Program} {C:Ctx} {st:AS} {a:Act} {w:World} {R:Type} {r:R}
variable {x:AC} {args:Array Operand} {ts:Array TypeId} {Γ:xf} {g:Gh} {k:Nat} {hw hw':Nat->Nat} {hdr:Nat->Value} {f:Operand} {c c':RC} {A:Rg} {cs:aq AC} {d:ar Nat} {fp:dy}
def eJ (A:Rg)(hw:Nat->Nat)(w:World):RC:=⟨hw,λ_=>0,A,λ_=>undef,λ_=>False,0,λ_=>False,w⟩
def mu (A:Rg)(w:World):gO->aq AV->Prop
 |[],[]=>True
 |v::vs,x::xs=>fA (eJ A (λ_=>0) w) v x []/\mu A w vs xs
 |_,_=>False
def apc (P:Program)(f:Nat)(F:zY)(y:F.R)(g:Bool)(cs:aq AC)(rest:aq AV):Prop:=
 ∀(A:Rg)(w:World)(v0:Value)(vs:gO)(hw:Nat->Nat)(fp:dy),(∀k b o,A k b o->b<w.heap.size/\b∉fp)->fA (eJ A hw w) v0 (.val g cs) fp->fp.Nodup->(∀b∈fp,b<w.heap.size)->mu A w vs rest->
  Calls P f (v0::vs).toArray w λe w'=>∃v hw' fr hZ,e=.returned v/\fA (eJ A hw' w') v (F.av y) fr/\fA (eJ A hw' w') v0 (.val g (F.back y)) hZ/\hZ.Nodup/\
   (∀b∈hZ,b<w'.heap.size/\(b∈fp\/w.heap.size<=b))/\Fr (λb=>b∈fp) w w'
def ah1 (P:Program)(f:Nat)(F:zY)(y:F.R)(cs:aq AC)(rest:aq AV):Prop:=
 ∀(A:Rg)(w:World)(b:Nat)(vs:gO)(arr:Array Value)(T:TypeId)(fr:Nat×Nat)(hw:Nat->Nat)(fp:dy),(∀k b' o,A k b' o->b'<w.heap.size/\b'≠b/\b'∉fp)->
  w.heap[b]?=some (.cells arr T fr)->pe arr fr->bn (eJ A hw w) arr.toList cs fp->fp.Nodup->b∉fp->(∀b'∈fp,b'<w.heap.size)->hw b=0->mu A w vs rest->
  Calls P f (.pointer (some ⟨b,0,none⟩)::vs).toArray w λe w'=>∃v hw' fv iG T' QQ hZ,e=.returned v/\fA (eJ A hw' w') v (F.av y) fv/\w'.heap[b]?=some (.cells iG T' QQ)/\pe iG QQ/\
   bn (eJ A hw' w') iG.toList (F.back y) hZ/\hZ.Nodup/\b∉hZ/\(∀b'∈hZ,b'<w'.heap.size/\(b'∈fp\/w.heap.size<=b'))/\fv.Nodup/\(∀b'∈fv,b'<w'.heap.size/\(b'∈fp\/w.heap.size<=b')/\b'∉hZ/\b'≠b)/\Fr (λb'=>b'=b\/b'∈fp) w w'
def agu (P:Program)(f:Nat)(F:zY)(y:F.R)(xs:aq AV):Prop:=
 ∀(A:Rg)(w:World)(vs:gO),(∀k b o,A k b o->b<w.heap.size)->mu A w vs xs->
  Calls P f vs.toArray w λe w'=>∃b arr T fr hw,e=.returned (.pointer (some ⟨b,0,none⟩))/\w.heap.size<=b/\w'.heap[b]?=some (.cells arr T fr)/\pe arr fr/\bn (eJ A hw w') arr.toList (F.back y) []/\Fr (λ_=>False) w w'
def kh (P:Program)(f:Nat)(F:zY):Prop:=
 ∀(xs:aq AV)(y:F.R),F.fn xs=some y->
  (∃fn c,P.funcs[f]?=some fn/\fn.body=some c/\(fn.name== "runtime.NumGoroutine")=false)/\
  (F.io=false->F.bx=false->∀(A:Rg)(w:World)(vs:gO),(∀k b o,A k b o->b<w.heap.size)->mu A w vs xs->
    Calls P f vs.toArray w λe w'=>∃v hw fp,e=.returned v/\fA (eJ A hw w') v (F.res y) fp/\fp.Nodup/\(∀b∈fp,w.heap.size<=b/\b<w'.heap.size)/\Fr (λ_=>False) w w')/\
  (F.io=true->∀g cs rest,xs=.val g cs::rest->apc P f F y g cs rest)/\
  (F.bx=true->∀cs rest,xs=.val true cs::rest->ah1 P f F y cs rest)/\
  (F.pr=true->agu P f F y xs)
theorem kT {v:Value}(h:gy c v x fp)(hf:x.fT=true):fp=[]/\gy c' v x []:=by cases x with|int k n=>exact⟨h.2,h.1,rfl⟩|bool b=>exact⟨h.2,h.1,rfl⟩|str s=>exact⟨h.2,h.1,rfl⟩|fn f=>exact⟨h.2,h.1,rfl⟩|_=>cases hf
theorem IJ {c':RC}:∀{vs:gO}{xs:aq AC}{fp:dy},bn c vs xs fp->xs.all AC.fT=true->fp=[]/\bn c' vs xs []
 |[],[],_,h,_=>⟨h,rfl⟩
 |_::_,_::_,_,h,hf=>by obtain⟨f1,f2,rfl,h1,h2⟩:=h;simp only[bC,ah]at hf;obtain⟨rfl,k1⟩:=kT (c':=c') h1 hf.1;obtain⟨rfl,k2⟩:=IJ (c':=c') h2 hf.2;exact⟨rfl,[],[],rfl,k1,k2⟩
 |[],_::_,_,h,_=>h.elim
 |_::_,[],_,h,_=>h.elim
theorem Ut:∀{ws:gO}{ts:aq (Bool×aq AC)}{fp:dy},fA.pX c ws ts fp->(ts.all λx=>x.2.all AC.fT)=true->fA.pX c' ws ts []
 |[],[],_,_,_=>rfl
 |_::_,_::_,_,h,hf=>by obtain⟨f1,f2,rfl,⟨vs,hv,h1⟩,h2⟩:=h;simp only[bC,ah]at hf;exact⟨[],[],rfl,⟨vs,hv,(IJ h1 hf.1).2⟩,Ut h2 hf.2⟩
 |[],_::_,_,h,_=>h.elim
 |_::_,[],_,h,_=>h.elim
theorem Dm {v:Value}{x:AV}(h:fA c v x fp)(hf:x.fT=true):fA c' v x []:=by
 cases x with
 |val g cs=>obtain⟨vs,hv,h⟩:=h;exact⟨vs,hv,(IJ h hf).2⟩
 |uT ts=>obtain⟨ws,hv,h⟩:=h;exact⟨ws,hv,Ut h hf⟩
theorem O1:∀(os ss:aq AC){r:aq AC}{vs us:gO}{f:dy},md os ss=some r->bn c vs os []->bn c us ss f->bn (eJ A c.hw c.w) vs r f:=by
 intro os;induction os with
 |nil=>intro ss r vs us f h hv hu;cases ss with|cons _ _=>simp[md]at h|nil=>simp[md]at h;subst h;cases vs with|cons _ _=>exact hv.elim|nil=>cases us with|cons _ _=>exact hu.elim|nil=>exact hu
 |cons o os ih=>
  intro ss r vs us f h hv hu;cases vs with
  |nil=>exact hv.elim
  |cons v vs=>
   cases ss with
   |nil=>unfold md at h;split at h<;>first|contradiction|cases h
   |cons s ss=>
    cases us with
    |nil=>exact hu.elim
    |cons u us=>
     obtain⟨g1,g2,hg,hv1,L4⟩:=hv;have e1:g1=[]:=by have:=hg.symm;simp at this;exact this.1
     have e2:g2=[]:=by have:=hg.symm;simp at this;exact this.2
     subst e1;subst e2;obtain⟨f1,f2,rfl,hu1,hu2⟩:=hu;have fl:∀{x:AC}{r'},x.fT=true->s.fT=true->o=x->md os ss=some r'->r=x::r'->bn (eJ A c.hw c.w) (v::vs) r (f1++f2):=by rintro x r' hx hs rfl hr rfl;obtain⟨rfl,_⟩:=kT (c':=c) hu1 hs;exact⟨[],f2,rfl,(kT hv1 hx).2,ih ss hr L4 hu2⟩
     unfold md at h;split at h;contradiction;rename_i ep rt t e0 xs0 os' t' e xs ss' h1 h2;injection h1 with h1 N0;subst h1;subst N0;injection h2 with h2 TL;subst h2;subst TL;cases ht:(t'==t)with
     |false=>rw[ht]at h;cases h
     |true=>
      have:t'=t:=by simpa using ht
      subst this;rw[ht]at h;simp only[af]at h;obtain⟨r',hr,h⟩:=aI.1 h;cases h;have SJ:=(hv1.2.2.2.2 rt t' rfl).2;have QX:=(hu1.2 t' rfl).2;have huv:u=v:=QX.trans SJ.symm;subst huv;exact⟨f1,f2,rfl,⟨hu1.1,by simp⟩,ih _ hr L4 hu2⟩
     rename_i k n os' k' n' ss' h1 h2;injection h1 with h1 N0;subst N0;injection h2 with h2 TL;subst h2;subst TL;obtain⟨r',hr,h⟩:=aI.1 h;cases h;exact fl (x:=.int k n) rfl rfl h1 hr rfl;rename_i k os' k' ss' h1 h2;injection h1 with h1 N0;subst N0;injection h2 with h2 TL;subst h2;subst TL;obtain⟨r',hr,h⟩:=aI.1 h;cases h;exact fl (x:=.bool k) rfl rfl h1 hr rfl;rename_i k os' k' ss' h1 h2;injection h1 with h1 N0;subst N0;injection h2 with h2 TL;subst h2;subst TL;obtain⟨r',hr,h⟩:=aI.1 h;cases h;exact fl (x:=.str k) rfl rfl h1 hr rfl;cases h
theorem VO (hle:c.Le c'):∀(os ss bs:aq AC){seg:aq AC}{vs us:gO}{f f':dy},CL os ss bs=some seg->bn c vs os []->bn c us ss f-> bn (eJ A hw' c'.w) vs bs f'->(∀b∈f',c'.hw b=hw' b)->bn c' us seg f':=by
 intro os;induction os with
 |nil=>
  intro ss bs seg vs us f f' h hv hu hb _;unfold CL at h;split at h;cases h;cases us with|cons _ _=>exact hu.elim|nil=>cases vs with|cons _ _=>exact hv.elim|nil=>exact hb
  all_goals first|contradiction|cases h
 |cons o os ih=>
  intro ss bs seg vs us f f' h hv hu hb hh;unfold CL at h;split at h;contradiction;rename_i ep rt t' e0 xs0 os' t e1 xs1 ss' tg e ys bs' h1;injection h1 with h1 N0;subst h1;subst N0;cases ht:(t==t')with
  |false=>rw[ht]at h;cases h
  |true=>
   have:t=t':=by simpa using ht
   subst this;rw[ht]at h;simp only[af]at h;obtain⟨r',hr,h⟩:=aI.1 h;cases h;cases vs with
   |nil=>exact hv.elim
   |cons v vs=>
    cases us with
    |nil=>exact hu.elim
    |cons u us=>
     obtain⟨g1,g2,hg,hv1,L4⟩:=hv;have e1:g1=[]:=by have:=hg.symm;simp at this;exact this.1
     have e2:g2=[]:=by have:=hg.symm;simp at this;exact this.2
     subst e1;subst e2;obtain⟨f1,f2,rfl,hu1,hu2⟩:=hu;obtain⟨f1',f2',rfl,Zn,Gg⟩:=hb;have SJ:=(hv1.2.2.2.2 rt t rfl).2;have QX:=hu1.2 t rfl;have huv:u=v:=QX.2.trans SJ.symm;refine⟨f1',f2',rfl,⟨?_,λq hq=>?_⟩,ih _ _ hr L4 hu2 Gg (λb hb=>hh b (aX _ hb))⟩;rw[huv];exact dY.mono Zn.1 (λb hb=>⟨rfl,hh b (bh _ hb)⟩);cases hq;exact⟨(hle.hdr t QX.1).1,by rw[(hle.hdr t QX.1).2];exact QX.2⟩
  all_goals first
   |cases h
   |(rename_i h1
     injection h1 with h1 N0;subst N0
     obtain⟨r',hr,h⟩:=aI.1 h
     cases h
     cases vs with
     |nil=>exact hv.elim
     |cons v vs=>
      cases us with
      |nil=>exact hu.elim
      |cons u us=>
       obtain⟨g1,g2,hg,hv1,L4⟩:=hv
       have e1:g1=[]:=by have:=hg.symm;simp at this;exact this.1
       have e2:g2=[]:=by have:=hg.symm;simp at this;exact this.2
       subst e1;subst e2
       obtain⟨f1,f2,rfl,hu1,hu2⟩:=hu
       obtain⟨f1',f2',rfl,Zn,Gg⟩:=hb
       have k1:=(kT (c':=c) Zn rfl).1
       subst k1
       exact⟨[],f2',rfl,(kT hu1 rfl).2,ih _ _ hr L4 hu2 Gg (λb hb=>hh b (aX _ hb))⟩)
theorem WW {v:Value}(h:gy c v x fp):gy (eJ (λ_ b o=>c.S b o/\b<c.w.heap.size) (λ_=>0) c.w) v (x.asArg c.ep) []:=by
 have hS:∀{e:CT}{xs:aq e.D},iQ c.w c.S (.sl e) [v] xs->iQ c.w (λb o=>c.S b o/\b<c.w.heap.size) (.sl e) [v] xs:=λhr=>
  iQ.mono (λb o u hs hu=>⟨⟨hs,World.block_lt_of_cell? c.w _ hu⟩,hu⟩) hr
 cases x with|int k n=>exact⟨h.1,rfl⟩|bool b=>exact⟨h.1,rfl⟩|str s=>exact⟨h.1,rfl⟩|jd=>exact⟨h.1,rfl⟩|fn f=>exact⟨h.1,rfl⟩|ptr s off=>exact rfl|un=>exact rfl|bot=>exact rfl|Cg fl e y i off=>exact rfl|sl fl e xs=>cases fl with|nest _ _ _ _ _ _=>exact rfl|part _ _ _ _=>exact rfl|eS _ _ _=>exact rfl|own t=>exact⟨rfl,hS (dY.rep (λb o ho=> .inr ho) h.1)⟩|arg k=>exact⟨rfl,hS (iQ.mono (λb o u hs hu=>⟨.inl ⟨k,hs⟩,hu⟩) h.2)⟩|loc ep pv=>simp only[AC.asArg];split;rename_i he;exact⟨rfl,hS (h.2.2.2.1 (by simpa using he))⟩;exact rfl
theorem LO:∀{vs:gO}{xs:aq AC}{fp:dy},bn c vs xs fp->bn (eJ (λ_ b o=>c.S b o/\b<c.w.heap.size) (λ_=>0) c.w) vs (xs.map (AC.asArg c.ep)) []
 |[],[],_,_=>rfl
 |_::_,_::_,_,h=>by obtain⟨f1,f2,rfl,h1,h2⟩:=h;exact⟨[],[],rfl,WW h1,LO h2⟩
 |[],_::_,_,h=>h.elim
 |_::_,[],_,h=>h.elim
theorem aaj {v:Value}{x:AV}(h:fA c v x fp):fA (eJ (λ_ b o=>c.S b o/\b<c.w.heap.size) (λ_=>0) c.w) v (x.asArg c.ep) []:=by
 cases x with
 |val g cs=>obtain⟨vs,hv,h⟩:=h;exact⟨vs,hv,LO h⟩
 |uT ts=>exact fA.bot _ _
theorem TY (h:dr C g st a w []):∀(args:aq Operand),
 mu (λ_ b o=>(cv C g st w).S b o/\b<w.heap.size) w (args.map a.eval) (args.map λx=>((st.rd x).fresh st).asArg st.ep)
 |[]=>trivial
 |x::xs=>⟨aaj (c:=cv C g st w) (h.fresh (h.rd x)),TY h xs⟩
theorem WX {A':Rg}{v:Value}{tag:ar Nat}(h:gy (eJ A' hw c.w) v x fp)(hA:∀k b o,A' k b o->c.S b o)(Br:∀b∈fp,c.hw b=hw b)(ht:∀t,tag=some t->c.iss t/\v=c.hdr t):gy c v (x.Fl c.ep tag) fp:=by
 cases x with
 |int k n=>exact h
 |bool b=>exact h
 |str s=>exact h
 |jd=>exact h
 |fn f=>exact h
 |ptr s off=>exact h.2.2
 |un=>exact h
 |bot=>exact h
 |Cg fl e y i off=>cases fl with|own t=>exact h.elim|nest _ _ _ _ _ _=>exact h.elim|part _ _ _ _=>exact h.elim|eS _ _ _=>exact h.elim|arg _=>exact h.1|loc ep pv=>exact h.1
 |sl fl e xs=>
  cases fl with
  |nest _ _ _ _ _ _=>exact h.1
  |part _ _ _ _=>exact h.1
  |eS _ _ _=>obtain⟨_,⟨k,hk,h3⟩,_⟩:=h;exact⟨λq hq=>(by cases hq),⟨k,hk,h3.mono (λb hb=>⟨rfl,Br b hb⟩)⟩,by simp⟩
  |own t=>exact⟨dY.mono h.1 (λb hb=>⟨rfl,Br b hb⟩),ht⟩
  |loc ep pv=>exact h.1
  |arg _=>have hr:iQ c.w c.S (.sl e) [v] xs:=iQ.mono (λb o u hs hu=>⟨hA _ b o hs,hu⟩) h.2;refine⟨h.1,bc _,?_,λ_=>hr,by simp⟩;obtain⟨u,hu,k⟩:=hr;simp at hu;subst hu;rcases k with⟨⟨ad,rfl⟩,rfl⟩|⟨b,o,cap,rfl,_⟩;exact⟨_,_,_,rfl,rfl⟩;exact⟨_,_,_,rfl,rfl⟩
theorem Ca {A':Rg}{mk:Nat->ar Nat}(hA:∀k b o,A' k b o->c.S b o):∀{vs:gO}{xs:aq AC}{fp:dy}(j:Nat),bn (eJ A' hw c.w) vs xs fp->(∀b∈fp,c.hw b=hw b)->
 (∀i v,vs[i]?=some v->∀t,mk (j+i)=some t->c.iss t/\v=c.hdr t)->bn c vs (Ki c.ep mk j xs) fp
 |[],[],_,_,h,_,_=>h
 |v::_,_::_,_,j,h,hh,hm=>by obtain⟨f1,f2,rfl,h1,h2⟩:=h;exact⟨f1,f2,rfl,WX h1 hA (λb hb=>hh b (bh _ hb)) (λt ht=>hm 0 v rfl t ht),Ca hA (j+1) h2 (λb hb=>hh b (aX _ hb)) (λi u hu t ht=>hm (i+1) u (by simpa using hu) t (by rwa[show j+(i+1)=j+1+i by omega]))⟩
 |[],_::_,_,_,h,_,_=>h.elim
 |_::_,[],_,_,h,_,_=>h.elim
inductive Leaves (A:Rg) (hw:Nat->Nat) (w:World):List Value->List (Bool×List AC)->List Nat->List Value->Prop
 |nil:Leaves A hw w [] [] [] []
 |cons {v:Value} {vs:List Value} {g:Bool} {cs:List AC} {ts:List (Bool×List AC)} {f1 f2:List Nat} {us all:List Value} (dU:Cut g v us) (hr:bn (eJ A hw w) us cs f1) (h:Leaves A hw w vs ts f2 all):
  Leaves A hw w (v::vs) ((g,cs)::ts) (f1++f2) (us++all)
theorem Lg {w:World}:∀{ws:gO}{ts:aq (Bool×aq AC)}{fp:dy},fA.pX (eJ A hw w) ws ts fp->∃all,Leaves A hw w ws ts fp all
 |[],[],_,h=>by cases h;exact⟨[],.nil⟩
 |_::_,(g,cs)::_,_,h=>by obtain⟨f1,f2,rfl,⟨us,dU,hr⟩,h2⟩:=h;obtain⟨all,FU⟩:=Lg h2;exact⟨us++all,.cons dU hr FU⟩
 |[],_::_,_,h=>h.elim
 |_::_,[],_,h=>h.elim
theorem Ov {A':Rg}{mk:Nat->ar Nat}(hA:∀k b o,A' k b o->c.S b o){ws:gO}{ts:aq (Bool×aq AC)}{all:gO}(h:Leaves A' hw c.w ws ts fp all): ∀j,(∀b∈fp,c.hw b=hw b)->(∀i v,all[i]?=some v->∀t,mk (j+i)=some t->c.iss t/\v=c.hdr t)->fA.pX c ws (Yr c.ep mk j ts) fp:=by induction h with|nil=>intro j _ _;exact rfl| @cons v vs g cs ts f1 f2 us all dU hr h ih=>intro j hh hm;have hl:=hr.length;refine⟨f1,f2,rfl,⟨us,dU,Ca hA j hr (λb hb=>hh b (bh _ hb)) (λi u hu t ht=>?_)⟩,ih _ (λb hb=>hh b (aX _ hb)) (λi u hu t ht=>?_)⟩;exact hm i u (by rw[bu (aD.1 hu).1];exact hu) t ht;have hl':us.length=cs.length:=hl;refine hm (us.length+i) u (by rw[bq (by omega)];simpa using hu) t ?_;rw[<-fg,hl'];exact ht
def qd (hdr:Nat->Value)(mk:Nat->ar Nat)(all:gO):Nat->Value:=λu=>if mk (u/3%4096)=some u then(all[u/3%4096]?).getD undef else hdr u
theorem Bq {all:gO}{t:Nat}(h:kO st t):qd hdr (st.gV d) all t=hdr t:=by unfold qd;rw[aG];intro e;exact(oS e).1 h
theorem Bp {all:gO}{i t:Nat}{v:Value}(hv:all[i]?=some v)(h:st.gV d i=some t):v=qd hdr (st.gV d) all t:=by
 obtain⟨_,_,d',rfl,ht,hi⟩:=oS h;have afB:t/3%4096=i:=by rw[ht,KE];omega
 unfold qd;rw[afB,aH h,hv];rfl
theorem dr.M5 (h:dr C g st a w [])(o:iO)(L2:¬cX (some o)){f1 f2 f3:dy}(hn:(f1++f2++f3).Nodup)(hl:∀b∈f1++f2++f3,g.dE b=some o){w':World}{st':AS}{jj:dy}(xg:st'.ep=st.ep+1)(FV:st'.iss=st.iss)(qe:∀s,fY st s->fY st' s)(D1:jj.Nodup)(nH:∀b∈jj,b<w'.heap.size/\(b∈f2\/w.heap.size<=b))(gu:Fr (λb=>b∈f2) w w')(Br:∀b,b<w.heap.size->b∉f2->hw' b=g.hw b): (cv C g st w).Le (cv C (g.wrote o (f1++jj++f3) hw') st' w')/\(f1++jj++f3).Nodup/\ (∀b∈f1++jj++f3,(g.wrote o (f1++jj++f3) hw').dE b=some o)/\ (∀b∈f1++f3,w'.heap[b]?=w.heap[b]?/\hw' b=g.hw b)/\ (∀b x,¬cX (some x)->x≠o->g.dE b=some x->(g.wrote o (f1++jj++f3) hw').dE b=some x/\w'.heap[b]?=w.heap[b]?/\hw' b=g.hw b)/\ (∀b,g.dE b=some o->b∉f1++f2++f3->(g.wrote o (f1++jj++f3) hw').dE b=some o/\w'.heap[b]?=w.heap[b]?/\hw' b=g.hw b)/\ Fr C.M C.w0 w'/\(∀b x,(g.wrote o (f1++jj++f3) hw').dE b=some x->b<w'.heap.size/\(C.w0.heap.size<=b\/C.M b)):=by
 have Ae:=hn;rw[aO]at Ae;have n1:=aB.1 Ae;have n2:=aB.1 n1.2.1;have zB:∀b∈f1++f3,b∉f2:=by intro b hb h2;rcases ay.1 hb with hb|hb;exact n1.2.2 b hb b (bh _ h2) rfl;exact n2.2.2 b h2 b hb rfl
 have Xu:∀k b o u,C.A k b o->w.cell? ⟨b,o,none⟩=some u->w'.cell? ⟨b,o,none⟩=some u:=by intro k b o u hA hu;have hb:b<w.heap.size:=World.block_lt_of_cell? w _ hu;have Jm:¬(b∈f2):=λhm=>h.Lf (hl b (by simp[hm])) k o hA;rw[World.cell?_of_block (a:=⟨b,o,none⟩) (gu.block b hb Jm)];exact hu
 have hle:(cv C g st w).Le (cv C (g.wrote o (f1++jj++f3) hw') st' w'):=⟨rfl,λt ht=>⟨by show kO st' t;have TN:kO st t:=ht;simpa[kO,FV]using TN,rfl⟩,Xu,by show st.ep<=st'.ep;omega,λs hs=>⟨qe s hs,rfl⟩,λhe=>absurd he (by show st'.ep≠st.ep;omega)⟩
 have lg:∀b x,g.dE b=some x->b∉f2->w'.heap[b]?=w.heap[b]?/\hw' b=g.hw b:=by intro b x hb hm;exact⟨gu.block b (h.ff b _ hb).1 hm,Br b (h.ff b _ hb).1 hm⟩
 have hd1:∀b∈f1++f3,b∉jj:=by intro b hb hm;rcases(nH b hm).2 with h2|h2;exact zB b hb h2;have:=(h.ff b _ (hl b (by rcases ay.1 hb with hb|hb<;>simp[hb]))).1;omega
 refine⟨hle,?_,?_,?_,?_,?_,?_,?_⟩;rw[aO];refine aB.2 ⟨n1.1,aB.2 ⟨D1,n2.2.1,?_⟩,?_⟩;rintro b hb c hc rfl;exact hd1 b (by simp[hc]) hb;rintro b hb c hc rfl;rcases ay.1 hc with hc|hc;exact hd1 b (by simp[hb]) hc;exact n1.2.2 b hb b (aX _ hc) rfl;intro b hb;show(if b∈f1++jj++f3 then _ else _)=_;rw[aH hb];intro b hb;exact lg b o (hl b (by rcases ay.1 hb with hb|hb<;>simp[hb])) (zB b hb);intro b x hh hxo hb;have Zt:b∉f2:=λhm=>hxo (by have:=hl b (by simp[hm]);rw[hb]at this;simpa using this);refine⟨?_,lg b x hb Zt⟩;show(if b∈f1++jj++f3 then _ else if cX (g.dE b) then none else g.dE b)=_;have SE:b∉f1++jj++f3:=by intro hm;simp only[ay]at hm;rcases hm with(hm|hm)|hm;exact hxo (by have:=hl b (by simp[hm]);rw[hb]at this;simpa using this);rcases(nH b hm).2 with h2|h2;exact Zt h2;have:=(h.ff b _ hb).1;omega;exact hxo (by have:=hl b (by simp[hm]);rw[hb]at this;simpa using this)
 rw[aG SE,aG (by rw[hb];exact hh),hb];intro b hb hm;have Zt:b∉f2:=λk=>hm (by simp[k]);refine⟨?_,lg b o hb Zt⟩;show(if b∈f1++jj++f3 then _ else if cX (g.dE b) then none else g.dE b)=_;rw[aG (c:=cX (g.dE b)) (by rw[hb];exact L2),hb];split<;>rfl;refine h.frame.trans gu (λb hb hm=>?_);rcases(h.ff b o (hl b (by simp[hm]))).2 with h2|h2;omega;exact h2;intro b x hx;have zU:(if b∈f1++jj++f3 then some o else if cX (g.dE b) then none else g.dE b)=some x:=hx;have hz:=gu.size;have old:∀y,g.dE b=some y->b<w'.heap.size/\(C.w0.heap.size<=b\/C.M b):=λy hy=>⟨gC (h.ff b y hy).1 hz,(h.ff b y hy).2⟩
 split at zU;rename_i hm;simp only[ay]at hm;rcases hm with(hm|hm)|hm;exact old o (hl b (by simp[hm]));rcases(nH b hm).2 with h2|h2;exact old o (hl b (by simp[h2]));exact⟨(nH b hm).1,.inl (bf h.frame.size h2)⟩;exact old o (hl b (by simp[hm]));split at zU;cases zU;exact old x zU
theorem Jc {vs us:gO}{seg:aq AC}{f1 f2 f3:dy}{off n:Nat}(P2:us=(vs.drop off).take n)(hln:us.length=n)(r1:bn c' (vs.take off) (cs.take off) f1)(r2:bn c' us seg f2)(r3:bn c' (vs.drop (off+n)) (cs.drop (off+n)) f3): bn c' vs (cY cs off seg) (f1++f2++f3):=by
 have zT:=r2.length;have e:vs=vs.take off++us++vs.drop (off+n):=by rw[P2,aO,<-eo,cg,cg]
 rw[e,cY,show seg.length=n by omega];exact bn.append (bn.append r1 r2) r3
theorem dr.adY (h:dr C g st a w [])(r:jR){C8:aq AC}(eK:st.th r=some C8)(off n:Nat)(SA:((C8.drop off).take n).length=n): ∃us f2,bn (cv C g st w) us ((C8.drop off).take n) f2/\f2.Nodup/\(∀b∈f2,b<w.heap.size/\∀k o,¬C.A k b o)/\ ∀(w':World)(hw':Nat->Nat)(seg:aq AC)(jj:dy),jj.Nodup->(∀b∈jj,b<w'.heap.size/\(b∈f2\/w.heap.size<=b))->Fr (λb=>b∈f2) w w'-> (∀b,b<w.heap.size->b∉f2->hw' b=g.hw b)->(∀c',(cv C g st w).Le c'->c'.w=w'->c'.hw=hw'->bn c' us seg jj)-> ∃g',dr C g' {st.pc r (cY C8 off seg)with ep:=st.ep+1} a w' []:=by
 have core:∀(o:iO),¬cX (some o)->∀{vs:gO}{fp:dy},bn (cv C g st w) vs C8 fp->fp.Nodup->(∀b∈fp,g.dE b=some o)->
  ∃us f1 f2 f3,fp=f1++f2++f3/\bn (cv C g st w) us ((C8.drop off).take n) f2/\f2.Nodup/\(∀b∈f2,b<w.heap.size/\∀k o,¬C.A k b o)/\
   ∀(w':World)(hw':Nat->Nat)(st':AS)(seg:aq AC)(jj:dy),st'.ep=st.ep+1->st'.iss=st.iss->(∀s,fY st s->fY st' s)->jj.Nodup->(∀b∈jj,b<w'.heap.size/\(b∈f2\/w.heap.size<=b))->Fr (λb=>b∈f2) w w'->
    (∀b,b<w.heap.size->b∉f2->hw' b=g.hw b)->(∀c',(cv C g st w).Le c'->c'.w=w'->c'.hw=hw'->bn c' us seg jj)->
    bn (cv C (g.wrote o (f1++jj++f3) hw') st' w') vs (cY C8 off seg) (f1++jj++f3):=by
  intro o L2 vs fp hr hn hl
  obtain⟨f1,f2,f3,rfl,r1,r2,r3⟩:=hr.mid off n
  have Ae:=hn
  rw[aO]at Ae
  have n2:=aB.1 (aB.1 Ae).2.1
  refine⟨_,f1,f2,f3,rfl,r2,n2.1,λb hb=>⟨(h.ff b o (hl b (by simp[hb]))).1,λk q=>h.Lf (hl b (by simp[hb])) k q⟩,?_⟩
  intro w' hw' st' seg jj xg FV qe D1 nH gu Br Gp
  obtain⟨hle,_,_,hk,_⟩:=h.M5 o L2 hn hl xg FV qe D1 nH gu Br
  exact Jc rfl (by rw[r2.length];exact SA) (r1.mono hle λb hb=>hk b (by simp[hb])) (Gp _ hle rfl rfl) (r3.mono hle λb hb=>hk b (by simp[hb]))
 cases r with
 |slot s j=>
  simp only[AS.th]at eK;cases hg:st.get s with
  |uT ts=>rw[hg]at eK;cases eK
  |val gg cs=>
   rw[hg]at eK;cases eK;have aqc:s<st.slots.length\/¬s<st.slots.length:=bH s st.slots.length|>.imp id Nat.not_lt.2;obtain⟨fp,hr,hn,hl⟩:=h.slot s;rw[hg]at hr;obtain⟨vs,dU,hr⟩:=hr;obtain⟨us,f1,f2,f3,rfl,P2,B6,Gg,kJ⟩:=core (.slot s) (by simp[fe]) hr hn hl;refine⟨us,f2,P2,B6,Gg,?_⟩;intro w' hw' seg jj D1 nH gu Br Gp;let st':AS:={st.pc (.slot s j) (cY C8 off seg)with ep:=st.ep+1}
   have jL:st'={st with slots:=st.slots.set s (.val gg (cY C8 off seg)),ep:=st.ep+1}:=by show({st.pc (.slot s j) (cY C8 off seg)with ep:=st.ep+1}:AS)=_;simp only[AS.pc,hg,AS.put,eN]
   have PI:∀t,fY st t->fY st' t:=λt ht=>by rw[jL];exact ht
   obtain⟨hle,IQ,hll,_,hk1,_,IM,Gl⟩:=h.M5 (.slot s) (by simp[fe]) hn hl (st':=st') rfl (by rw[jL]) PI D1 nH gu Br;have dx:=kJ w' hw' st' seg jj rfl (by rw[jL]) PI D1 nH gu Br Gp;refine⟨_,h.step (λx=>¬cX (some x)/\x≠ .slot s) hle h.defers ?_ ?_ IM Gl (λb x hk hx=>hk1 b x hk.1 hk.2 hx) ?_ ?_ (λk u bv hk=>by simp at hk) (.inl ⟨⟨by simp[fe],by simp⟩,by show st'.io=st.io;rw[jL]⟩)⟩;show _=st'.slots.length;rw[jL];simpa using h.size;show st'.boxes.length=st'.slots.length;rw[jL];simpa using h.bsize;intro i av hi;have pV:(st.slots.set s (.val gg (cY C8 off seg)))[i]?=some av:=by have:st'.slots[i]?=some av:=hi;rw[jL]at this;exact this
   by_cases XA:i=s;subst XA;rw[bj]at pV;simp only[bF]at pV;split at pV;simp at pV;subst pV;exact .inr ⟨_,⟨vs,dU,dx⟩,IQ,hll⟩;cases pV;rw[aS (cC XA)]at pV;exact .inl ⟨⟨by simp[fe],by simpa using XA⟩,pV,rfl⟩;intro t mr hb;have gA:st.boxes[t]?=some (some mr):=by have:st'.boxes[t]?=some (some mr):=hb;rw[jL]at this;exact this
   exact .inl ⟨⟨by simp[fe],by simp⟩,gA,rfl⟩
 |box s j=>
  have ji:st.boxes[s]?=some (some C8):=by simp only[AS.th,dv]at eK;cases hb:st.boxes[s]? with|none=>simp[hb]at eK|some q=>rw[hb]at eK;simp at eK;rw[eK]
  have xn:s<st.boxes.length:=(aD.1 ji).1;obtain⟨arr,T,fr,fp,iZ,qf,hr,hn,sr,hl,HQ,H8⟩:=h.boxes s C8 ji;obtain⟨us,f1,f2,f3,rfl,P2,B6,Gg,kJ⟩:=core (.box s) (by simp[fe]) hr hn hl;refine⟨us,f2,P2,B6,Gg,?_⟩;intro w' hw' seg jj D1 nH gu Br Gp;let st':AS:={st.pc (.box s j) (cY C8 off seg)with ep:=st.ep+1}
  have jL:st'={st with boxes:=st.boxes.set s (some (cY C8 off seg)),ep:=st.ep+1}:=by show({st.pc (.box s j) (cY C8 off seg)with ep:=st.ep+1}:AS)=_;simp only[AS.pc,AS.eh,eN]
  have PI:∀t,fY st t->fY st' t:=λt ht=>by rw[jL];obtain⟨c0,WC⟩:=ht;by_cases qg:s=t;subst qg;exact⟨cY C8 off seg,by simp[xn]⟩;exact⟨c0,by rw[aS qg];exact WC⟩
  obtain⟨hle,IQ,hll,_,hk1,hk2,IM,Gl⟩:=h.M5 (.box s) (by simp[fe]) hn hl (st':=st') rfl (by rw[jL]) PI D1 nH gu Br;have dx:=kJ w' hw' st' seg jj rfl (by rw[jL]) PI D1 nH gu Br Gp;have IT:=hk2 (g.β s) HQ sr;refine⟨_,h.step (λx=>¬cX (some x)/\x≠ .box s) hle h.defers ?_ ?_ IM Gl (λb x hk hx=>hk1 b x hk.1 hk.2 hx) ?_ ?_ (λk u bv hk=>by simp at hk) (.inl ⟨⟨by simp[fe],by simp⟩,by show st'.io=st.io;rw[jL]⟩)⟩;show _=st'.slots.length;rw[jL];exact h.size;show st'.boxes.length=st'.slots.length;rw[jL];simpa using h.bsize;intro i av hi;have pV:st.slots[i]?=some av:=by have:st'.slots[i]?=some av:=hi;rw[jL]at this;exact this
  exact .inl ⟨⟨by simp[fe],by simp⟩,pV,rfl⟩;intro t mr hb;have gA:(st.boxes.set s (some (cY C8 off seg)))[t]?=some (some mr):=by have:st'.boxes[t]?=some (some mr):=hb;rw[jL]at this;exact this
  by_cases qg:t=s;subst qg;rw[bj]at gA;simp only[bF,xn]at gA;simp at gA;subst gA;have HR:g.β t∉f1++jj++f3:=by intro hm;simp only[ay]at hm;rcases hm with(hm|hm)|hm;exact sr (by simp[hm]);rcases(nH _ hm).2 with h2|h2;exact sr (by simp[h2]);have:=(h.ff _ _ HQ).1;omega;exact sr (by simp[hm])
  exact .inr ⟨arr,T,fr,_,IT.2.1.trans iZ,qf,dx,IQ,HR,hll,IT.1,IT.2.2.trans H8⟩;rw[aS (cC qg)]at gA;exact .inl ⟨⟨by simp[fe],by simpa using qg⟩,gA,rfl⟩
 |io j=>
  simp only[AS.th,aZ]at eK;subst eK;obtain⟨fp,hr,hn,hl⟩:=h.io;obtain⟨us,f1,f2,f3,rfl,P2,B6,Gg,kJ⟩:=core .io (by simp[fe]) hr hn hl;refine⟨us,f2,P2,B6,Gg,?_⟩;intro w' hw' seg jj D1 nH gu Br Gp;let st':AS:={st.pc (.io j) (cY st.io off seg)with ep:=st.ep+1}
  have jL:st'={st with io:=cY st.io off seg,ep:=st.ep+1}:=rfl;have PI:∀t,fY st t->fY st' t:=λt ht=>by rw[jL];exact ht
  obtain⟨hle,IQ,hll,_,hk1,_,IM,Gl⟩:=h.M5 .io (by simp[fe]) hn hl (st':=st') rfl (by rw[jL]) PI D1 nH gu Br;have dx:=kJ w' hw' st' seg jj rfl (by rw[jL]) PI D1 nH gu Br Gp;refine⟨_,h.step (λx=>¬cX (some x)/\x≠ .io) hle h.defers ?_ ?_ IM Gl (λb x hk hx=>hk1 b x hk.1 hk.2 hx) ?_ ?_ (λk u bv hk=>by simp at hk) (.inr ⟨_,dx,IQ,hll⟩)⟩;exact h.size;exact h.bsize;intro i av hi;exact .inl ⟨⟨by simp[fe],by simp⟩,hi,rfl⟩;intro t mr hb;exact .inl ⟨⟨by simp[fe],by simp⟩,hb,rfl⟩
theorem Im:∀(os ss:aq AC){r:aq AC},md os ss=some r->ss.length=os.length:=by
 intro os
 induction os with
 |nil=>intro ss r h;cases ss with
  |nil=>rfl
  |cons _ _=>simp[md]at h
 |cons o os ih=>
  intro ss r h
  cases ss with
  |nil=>unfold md at h;split at h<;>first|contradiction|cases h
  |cons s ss=>
   unfold md at h
   split at h
   ·contradiction
   ·rename_i h1 h2
    injection h1 with h1 N0;subst N0
    injection h2 with h2 TL;subst TL
    rw[Bool.cond_eq_ite]at h
    split at h
    ·obtain⟨r',hr,h⟩:=aI.1 h
     simp[ih _ hr]
    ·cases h
   all_goals first
    |cases h
    |(rename_i h1 h2
      injection h1 with h1 N0;subst N0
      injection h2 with h2 TL;subst TL
      obtain⟨r',hr,h⟩:=aI.1 h
      simp[ih _ hr])
theorem K5 (h:dr C g st a w []):∀(xs:aq Operand),xs.all (λx=>(st.rd x).fT)=true->mu A w (xs.map a.eval) (xs.map st.rd)
 |[],_=>trivial
 |x::xs,hf=>by simp only[bC,ah]at hf;exact⟨Dm (h.rd x) hf.1,K5 h xs hf.2⟩
theorem abD {w:World}{e:CT}{v:Value}{xs:aq e.D}{Zl:dy}(h:dY hw w (.sl e) [v] xs Zl){n:Nat}{x:e.D}(hx:xs[n]?=some x): ∃b o0 cap arr T fr f1 fx f3,v=.slice (some ⟨b,o0,none⟩) xs.length cap/\w.heap[b]?=some (.cells arr T fr)/\ dY hw w e ((arr.toList.drop (o0+n*e.size)).take e.size) x fx/\Zl=b::(f1++fx++f3)/\ ∀(w':World)(hw':Nat->Nat)(x':e.D)(fx':dy),(∀b'∈b::(f1++f3),w'.heap[b']?=w.heap[b']?/\hw' b'=hw b')-> dY hw' w' e ((arr.toList.drop (o0+n*e.size)).take e.size) x' fx'->dY hw' w' (.sl e) [v] (xs.set n x') (b::(f1++fx'++f3)):=by
 obtain⟨u,hu,h⟩:=h;simp at hu;subst hu;have Jm:n<xs.length:=(aD.1 hx).1;rcases h with⟨⟨_,rfl⟩,rfl,rfl⟩|⟨b,o0,cap,arr,T,fr,fps,rfl,hb,qf,hs,hc,hh,rfl,hl,hr⟩;simp at hx;have MZ:fps[n]?=some fps[n]:=ax (by omega);have HP:=Ch MZ;refine⟨b,o0,cap,arr,T,fr,(fps.take n).flatten,fps[n],(fps.drop (n+1)).flatten,rfl,hb,hr n x _ hx MZ,by rw[HP.1],?_⟩;intro w' hw' x' fx' hk eK;have WE:=hk b (by simp);refine⟨_,rfl,.inr ⟨b,o0,cap,arr,T,fr,fps.set n fx',by simp,WE.1.trans hb,qf,hs,by simpa using hc,by rw[WE.2];simpa using hh,by rw[HP.2],by simp[hl],?_⟩⟩;intro i y f hy hf;by_cases uQ:i=n;subst uQ;rw[bj]at hy hf;simp only[bF,Jm]at hy;simp only[bF]at hf;rw[zip]at hf;simp at hy hf;subst hy;subst hf;exact eK;rw[aS (cC uQ)]at hy hf;refine dY.mono (hr i y f hy hf) (λb' ac4=>hk b' (eH _ ?_));have N6:i<fps.length:=(aD.1 hf).1;have hfi:fps[i]=f:=by rw[ax N6]at hf;simpa using hf
 rcases Nat.lt_or_gt_of_ne uQ with gM|hgt;refine bh _ (List.mem_flatten.2 ⟨f,?_,ac4⟩);rw[List.mem_take_iff_getElem];exact⟨i,by omega,hfi⟩;refine aX _ (List.mem_flatten.2 ⟨f,?_,ac4⟩);rw[List.mem_drop_iff_getElem];exact⟨i-(n+1),by omega,by rw[<-hfi];congr 1;omega⟩
theorem bn.single {vs:gO}(h:bn c vs [x] fp):∃v,vs=[v]/\gy c v x fp:=by cases vs with|nil=>exact h.elim|cons v vs=>obtain⟨f1,f2,rfl,h1,h2⟩:=h;cases vs with|nil=>cases h2;exact⟨v,rfl,by simpa using h1⟩|cons _ _=>exact h2.elim
theorem afn {g:Bool}{v:Value}{a b:gO}(h:Cut g v a)(k:Cut g v b):b=a:=by cases g with|true=>simp only[Cut,bF]at h k;have:=h.symm.trans k;simp at this;exact this.symm|false=>simp only[Cut]at h k;simp at h k;rw[h,k]
theorem afW (zr:∀f,kh P f (Γ f)){o':Oper}(ho:o'.op=.call {callee:=.value f,args,argTypes:=ts})(hg:dr C g st a w [])(hf:st.rd f=.val false [.fn k])(JJ:(Γ k).io=true){x0:Operand}{xs:aq Operand}(eR:args.toList=x0::xs){gg:Bool}(WJ:st.rd x0=.val gg cs){K:AS->ar R}(hk:Rm Γ o' k gg cs xs st K=some r)(next:Act->World->Prop)(Q:Exit->Act->World->Prop)(fC:∀st' a' w',mM C st' a' w'->K st'=some r->next a' w'):o'.wp P a w next Q:=by
 have FZ:=hg.rd f;rw[hf]at FZ;have FZ:=(dM FZ).1;unfold Rm at hk;split at hk
 ·rename_i ep rt t en i off e1 ws;split at hk
  ·rename_i C8 eK;split at hk
   ·rename_i t' e ys hO;cases hc:((ep==st.ep)&&(t'==t)&&(en.size==e.size)&&xs.all (λx=>(st.rd x).fT))with
    |false=>rw[hc]at hk;cases hk
    |true=>
     rw[hc]at hk;simp only[af]at hk;simp only[ah,bk]at hc;obtain⟨⟨⟨xg,htt⟩,sD⟩,L1⟩:=hc;subst htt;cases Ej:idx ys i with
     |none=>rw[Ej]at hk;cases hk
     |some x=>
      rw[Ej]at hk;simp only[aa]at hk;split at hk
      ·rename_i tg0 e2 zs SA;cases eT:(Γ k).fn (.val gg [.sl (.own none) e2 zs]::xs.map st.rd)with
       |none=>rw[eT]at hk;cases hk
       |some y=>
        rw[eT]at hk;simp only at hk;split at hk
        ·rename_i tg e3 zs' ac5;split at hk
         ·rename_i x' Zu;cases hfl:((Γ k).av y).fT with
          |false=>rw[hfl]at hk;cases hk
          |true=>
           rw[hfl]at hk;simp only[af]at hk;obtain⟨⟨fn,c,MZ,JF,vc⟩,_,oZ,_⟩:=zr k _ y eT;have oZ:=oZ JJ gg _ (xs.map st.rd) rfl;have JL:=hg.rd x0;rw[WJ]at JL;obtain⟨vs0,dU,Gn⟩:=JL;obtain⟨v,rfl,aiu⟩:=Gn.single;obtain⟨us,f2,P2,B6,Gg,kJ⟩:=hg.adY rt eK rt.pos 1 (by rw[hO];rfl);rw[hO]at P2;obtain⟨u,rfl,adt⟩:=P2.single;obtain⟨n,uQ,hxn⟩:=Oc Ej;obtain⟨b,o0,cap,arr,T,fr,f1,fx,f3,hu,iZ,H3,ahe,Dt⟩:=abD adt.1 hxn;obtain⟨_,n2,b2,o2,aqf,T6,ahh,JI,_,_,zS⟩:=aiu.2.2.2 xg;have hun:=(adt.2 t' rfl).2;rw[JI,hu]at hun;simp only[Value.slice.injEq,aZ,Addr.mk.injEq]at hun;obtain⟨⟨rfl,rfl,_⟩,_,_⟩:=hun;have IQ:n2=n:=by omega
           subst IQ;rw[sD]at zS;have aha:arr[o0+n2*e.size+off]?=some v:=by rw[<-mh iZ];exact zS
           have adu:=rN (c:=cv C g st w) H3;obtain⟨k1,k2,k3,hkx,r1,r2,r3⟩:=adu.mid off 1;rw[SA]at r2;obtain⟨v',SJ,ahw⟩:=r2.single;have WI:v'=v:=by
            have h0:(((arr.toList.drop (o0+n2*e.size)).take e.size).drop off).take 1=[v']:=SJ;have h1:((((arr.toList.drop (o0+n2*e.size)).take e.size).drop off).take 1)[0]?=some v':=by rw[h0];rfl
            rw[cS]at h1;simp only[Nat.zero_lt_one,bF]at h1;rw[bB,cS]at h1;split at h1;rw[bB,bK,dF,aha]at h1;simpa using h1.symm;cases h1
           subst WI;have afC:=B6;rw[ahe,hkx]at afC;have sr:=cJ.1 afC;have m0:=sr.2;rw[aO]at m0;have m1:=aB.1 m0;have m2:=aB.1 m1.2.1;have m2a:=m2.1;rw[aO]at m2a;have m3:=aB.1 m2a;have m4:=aB.1 m3.2.1;have Zs:∀q∈k2,q∈f2:=λq hq=>by rw[ahe,hkx];simp[hq]
           have Ck:=oZ (λ_ _ _=>False) w (a.eval x0) (xs.map a.eval) g.hw k2 (λ_ _ _ hf=>hf.elim) ⟨[v'],dU,k2,[],by simp,⟨ahw.1,by simp⟩,rfl⟩ m4.1 (λq hq=>(Gg q (Zs q hq)).1) (K5 hg xs L1);have N1:(a.eval x0::xs.map a.eval).toArray=args.map a.eval:=by apply dV;simp[eR]
           rw[N1]at Ck;have dD:(execOp a.eval o').run P w=.ok (.enter k (args.map a.eval)) w:=by simp[execOp,ho,resolve,FZ,Deferred.ofValue,invoke,callFunc,MZ,JF];simpa using vc
           unfold Oper.wp;rw[dD,Oper.upon_enter];refine Ck.mono ?_;rintro e' w' ⟨vr,hw',frr,hZ,rfl,dx,⟨vs1,JG,hbk⟩,El,B5,gu⟩;show next (a.put o'.dst vr) w'
           have hvs:=afn dU JG;subst hvs;rw[ac5]at hbk;obtain⟨v2,L4,apq⟩:=hbk.single;simp only[List.cons.injEq,gQ]at L4;subst L4;have zB:∀q,q∈f2->q∉k2->q∉hZ:=λq hq XE hm=>by rcases(B5 q hm).2 with h2|h2;exact XE h2;have:=(Gg q hq).1;omega
           have ja:∀q,(q=b\/q∈f1\/q∈k1\/q∈k3\/q∈f3)->q∈f2/\q∉k2:=by intro q hq;constructor;rw[ahe,hkx];rcases hq with hq|hq|hq|hq|hq<;>simp[hq];intro h2;rcases hq with hq|hq|hq|hq|hq;subst hq;exact sr.1 (by simp[h2]);exact m1.2.2 q hq q (by simp[h2]) rfl;exact m3.2.2 q hq q (by simp[h2]) rfl;exact m4.2.2 q h2 q hq rfl;exact m2.2.2 q (by simp[h2]) q hq rfl
           have apG:(b::(f1++(k1++hZ++k3)++f3)).Nodup:=by refine cJ.2 ⟨λhm=>?_,?_⟩;simp only[ay]at hm;rcases hm with(hm|((hm|hm)|hm))|hm;exact sr.1 (by simp[hm]);exact sr.1 (by simp[hm]);exact zB b (ja b (.inl rfl)).1 (ja b (.inl rfl)).2 hm;exact sr.1 (by simp[hm]);exact sr.1 (by simp[hm]);have Xv:∀q,(q∈f1\/q∈k1\/q∈k3\/q∈f3)->q∉hZ:=λq hq=>zB q (ja q (.inr hq)).1 (ja q (.inr hq)).2;rw[aO];refine aB.2 ⟨m1.1,aB.2 ⟨?_,m2.2.1,?_⟩,?_⟩;rw[aO];refine aB.2 ⟨m3.1,aB.2 ⟨El,m4.2.1,?_⟩,?_⟩;rintro c hc d hd rfl;exact Xv c (by simp[hd]) hc;rintro c hc d hd rfl;rcases ay.1 hd with hd|hd;exact Xv c (by simp[hc]) hd;exact m3.2.2 c hc c (aX _ hd) rfl;rintro c hc d hd rfl;simp only[ay]at hc;rcases hc with(hc|hc)|hc;exact m2.2.2 c (by simp[hc]) c hd rfl;exact Xv c (by simp[hd]) hc;exact m2.2.2 c (by simp[hc]) c hd rfl;rintro c hc d hd rfl;simp only[ay]at hd;rcases hd with((hd|hd)|hd)|hd;exact m1.2.2 c hc c (by simp[hd]) rfl;exact Xv c (by simp[hc]) hd;exact m1.2.2 c hc c (by simp[hd]) rfl;exact m1.2.2 c hc c (by simp[hd]) rfl
           have adl:i.toNat=n2:=by omega
           obtain⟨g',ml⟩:=kJ w' (λq=>if q∈hZ then hw' q else g.hw q) [.sl (.own (some t')) e (ys.set n2 x')] (b::(f1++(k1++hZ++k3)++f3)) apG
            (λq hq=>by
             have hz:=gu.size;by_cases hm:q∈hZ;refine⟨(B5 q hm).1,?_⟩;rcases(B5 q hm).2 with h2|h2;exact .inl (Zs q h2);exact .inr h2;have h2:q∈f2:=by refine(ja q ?_).1;simp only[bU,ay]at hq;rcases hq with hq|(hq|((hq|hq)|hq))|hq;exact .inl hq;simp[hq];simp[hq];exact absurd hq hm;simp[hq];simp[hq]
             exact⟨by have:=(Gg q h2).1;omega,.inl h2⟩)
            ⟨gu.os,gu.tape,gu.output,gu.size,λq hq hm=>gu.block q hq (λh2=>hm (Zs q h2))⟩
            (λq hq hm=>by
             have:q∉hZ:=λh2=>by rcases(B5 q h2).2 with h3|h3;exact hm (Zs q h3);omega
             simp[this])
            (λc' hle Mz Bn=>by
             have lg:∀q,(q=b\/q∈f1\/q∈k1\/q∈k3\/q∈f3)->c'.w.heap[q]?=w.heap[q]?/\c'.hw q=g.hw q:=by intro q hq;have h2:=ja q hq;rw[Mz,Bn];exact⟨gu.block q (Gg q h2.1).1 h2.2,by simp[zB q h2.1 h2.2]⟩
             have UN:bn c' [v'] [.sl (.own none) e3 zs'] hZ:=by refine⟨hZ,[],by simp,⟨?_,by simp⟩,rfl⟩;have h0:dY hw' w' (.sl e3) [v'] zs' hZ:=apq.1;refine dY.mono h0 (λq hq=>?_);rw[Mz,Bn];exact⟨rfl,by simp[hq]⟩
             have JN:=Jc (c':=c') (vs:=(arr.toList.drop (o0+n2*e.size)).take e.size) (us:=[v']) (cs:=cellsOf e (.own none) x) (off:=off) (n:=1) SJ.symm rfl (r1.mono hle (λq hq=>lg q (by simp[hq]))) UN (r3.mono hle (λq hq=>lg q (by simp[hq])));obtain⟨q1,q2,hq,XD,XE⟩:=nK JN Zu;have hln:((arr.toList.drop (o0+n2*e.size)).take e.size).length=e.size:=dY.length H3;rw[cP (by omega)]at XE;have adr:q2=[]:=XE;subst adr;rw[bI (by omega)]at XD;rw[bt]at hq;subst hq;have hO':=Dt c'.w c'.hw x' _ (λq hq=>lg q (by simp only[bU,ay]at hq;rcases hq with hq|hq|hq<;>simp[hq])) XD;refine⟨_,[],by simp,⟨hO',λq hq=>?_⟩,rfl⟩;cases hq;have h1:=adt.2 t' rfl;exact⟨(hle.hdr t' h1.1).1,by rw[(hle.hdr t' h1.1).2];exact h1.2⟩)
           rw[adl]at hk;exact fC _ _ _ ⟨g',ml.quiet o'.dst (Dm dx hfl)⟩ hk
         cases hk
        cases hk
      cases hk
   cases hk
  cases hk
 cases hk
theorem aiD (zr:∀f,kh P f (Γ f)){o':Oper}(ho:o'.op=.call {callee:=.value f,args,argTypes:=ts})(hg:dr C g st a w [])(hf:st.rd f=.val false [.fn k])(JJ:(Γ k).io=true){K:AS->ar R}(hk:ioC Γ o' k args.toList st K=some r)(next:Act->World->Prop)(Q:Exit->Act->World->Prop)(fC:∀st' a' w',mM C st' a' w'->K st'=some r->next a' w'):o'.wp P a w next Q:=by
 have FZ:=hg.rd f;rw[hf]at FZ;have FZ:=(dM FZ).1;unfold ioC at hk;split at hk
 ·rename_i x0 xs eR;split at hk
  ·rename_i gg cs WJ;split at hk
   ·rename_i rt j N5;split at hk
    ·rename_i C8 eK;split at hk
     ·rename_i mr Gp;cases L1:(xs.all λx=>(st.rd x).fT)with
      |false=>rw[L1]at hk;cases hk
      |true=>
       rw[L1]at hk;simp only[af]at hk;cases eT:(Γ k).fn (.val gg mr::xs.map st.rd)with
       |none=>rw[eT]at hk;cases hk
       |some y=>
        rw[eT]at hk;simp only[aa]at hk;split at hk
        ·rename_i seg ac5;cases hfl:((Γ k).av y).fT with
         |false=>rw[hfl]at hk;cases hk
         |true=>
          rw[hfl]at hk;simp only[af]at hk;obtain⟨⟨fn,c,MZ,JF,vc⟩,_,oZ,_⟩:=zr k _ y eT;have oZ:=oZ JJ gg mr (xs.map st.rd) rfl;have JL:=hg.rd x0;rw[WJ]at JL;obtain⟨vs0,dU,Gn⟩:=JL;have SA:=Im _ _ Gp;obtain⟨us,f2,P2,B6,Gg,kJ⟩:=hg.adY rt eK (rt.pos-j) cs.length SA;have ag7:=O1 (A:=λ_ _ _=>False) _ _ Gp Gn P2;have Ck:=oZ (λ_ _ _=>False) w (a.eval x0) (xs.map a.eval) g.hw f2 (λ_ _ _ hf=>hf.elim) ⟨vs0,dU,ag7⟩ B6 (λb hb=>(Gg b hb).1) (K5 hg xs L1);have N1:(a.eval x0::xs.map a.eval).toArray=args.map a.eval:=by apply dV;simp[eR]
          rw[N1]at Ck;have dD:(execOp a.eval o').run P w=.ok (.enter k (args.map a.eval)) w:=by simp[execOp,ho,resolve,FZ,Deferred.ofValue,invoke,callFunc,MZ,JF];simpa using vc
          unfold Oper.wp;rw[dD,Oper.upon_enter];refine Ck.mono ?_;rintro e w' ⟨v,hw',fr,hZ,rfl,dx,⟨vs1,JG,hbk⟩,El,B5,gu⟩;show next (a.put o'.dst v) w'
          have hvs:vs1=vs0:=by cases gg with|true=>simp only[Cut,bF]at dU JG;have:=dU.symm.trans JG;simp at this;exact this.symm|false=>simp only[Cut]at dU JG;simp at dU JG;rw[dU,JG]
          subst hvs;let hwn:Nat->Nat:=λb=>if b∈hZ then hw' b else g.hw b
          obtain⟨g',ml⟩:=kJ w' (λb=>if b∈hZ then hw' b else g.hw b) seg hZ El B5 gu (λb hb hm=>by
           have:b∉hZ:=λhm'=>by rcases(B5 b hm').2 with h2|h2;exact hm h2;omega
           simp[this]) (λc' hle Mz Bn=>by
           refine VO (A:=λ_ _ _=>False) (hw':=hw') hle _ _ _ ac5 Gn P2 (by rw[Mz];exact hbk) (λb hb=>by rw[Bn];simp[hb]))
          refine fC _ _ _ ⟨g',ml.quiet o'.dst (Dm dx hfl)⟩ hk
        cases hk
     cases hk
    cases hk
   ·exact afW zr ho hg hf JJ eR WJ hk next Q fC
  cases hk
 cases hk
theorem IB {A':Rg}{mk:Nat->ar Nat}{k:Bool}(hA:A' true=c.A k):∀{vs:gO}{xs:aq AC}{fp:dy}(j:Nat),bn (eJ A' hw c.w) vs xs fp->xs.all (AC.zR true)=true->
 (∀b∈fp,c.hw b=hw b)->(∀i v,vs[i]?=some v->∀t,mk (j+i)=some t->c.iss t/\v=c.hdr t)->bn c vs (oJ k mk j xs) fp
 |[],[],_,_,h,_,_,_=>h
 |v::_,x::_,_,j,h,jQ,hh,hm=>by
  obtain⟨f1,f2,rfl,h1,h2⟩:=h;simp only[bC,ah]at jQ;refine⟨f1,f2,rfl,?_,IB hA (j+1) h2 jQ.2 (λb hb=>hh b (aX _ hb)) (λi u hu t ht=>hm (i+1) u (by simpa using hu) t (by rwa[show j+(i+1)=j+1+i by omega]))⟩;have Br:∀b∈f1,c.hw b=hw b:=λb hb=>hh b (bh _ hb);have ht:∀t,mk j=some t->c.iss t/\v=c.hdr t:=λt ht=>hm 0 v rfl t ht;have jQ:=jQ.1;cases x with
  |sl fl e xs=>
   cases fl with
   |own t=>exact⟨dY.mono h1.1 (λb hb=>⟨rfl,Br b hb⟩),ht⟩
   |arg k'=>
    have hk:k'=true:=by simpa[AC.zR]using jQ
    subst hk;exact⟨h1.1,by rw[<-hA];exact h1.2⟩
   |loc _ _=>cases jQ
   |nest _ _ _ _ _ _=>cases jQ
   |part _ _ _ _=>cases jQ
   |eS _ _ _=>cases jQ
  |int _ _=>exact h1
  |bool _=>exact h1
  |str _=>exact h1
  |fn _=>exact h1
  |jd=>cases jQ
  |ptr _ _=>cases jQ
  |Cg _ _ _ _ _=>cases jQ
  |un=>cases jQ
  |bot=>cases jQ
 |[],_::_,_,_,h,_,_,_=>h.elim
 |_::_,[],_,_,h,_,_,_=>h.elim
theorem KF {A':Rg}{w:World}{k:Bool}:∀{cs:aq AC},cs.all (AC.zR k)=true->∀{c:RC}{vs:gO}{fp:dy},bn c vs cs fp->c.w=w->c.hw=hw->A' true=c.A k->bn (eJ A' hw w) vs (cs.map AC.Tw) fp
 |[],_,c,vs,fp,h,_,_,_=>by cases vs with|nil=>exact h|cons _ _=>exact h.elim
 |x::cs,jQ,c,vs,fp,h,Mz,Bn,hA=>by
  cases vs with
  |nil=>exact h.elim
  |cons v vs=>
   obtain⟨f1,f2,rfl,h1,h2⟩:=h;simp only[bC,ah]at jQ;refine⟨f1,f2,rfl,?_,KF jQ.2 h2 Mz Bn hA⟩;have jQ:=jQ.1;cases x with
   |sl fl e xs=>
    cases fl with
    |own t=>exact⟨by have:=h1.1;rw[Mz,Bn]at this;exact this,by simp⟩
    |arg k'=>
     have hk:k'=k:=by simpa[AC.zR]using jQ
     subst hk;exact⟨h1.1,by have:=h1.2;rw[Mz,<-hA]at this;exact this⟩
    |loc _ _=>cases jQ
    |nest _ _ _ _ _ _=>cases jQ
    |part _ _ _ _=>cases jQ
    |eS _ _ _=>cases jQ
   |int _ _=>exact h1
   |bool _=>exact h1
   |str _=>exact h1
   |fn _=>exact h1
   |jd=>cases jQ
   |ptr _ _=>cases jQ
   |Cg _ _ _ _ _=>cases jQ
   |un=>cases jQ
   |bot=>cases jQ
theorem Rd (h:dr C g st a w [])(s:Nat){A':Rg}(hA:∀b o,(cv C g st w).S b o/\b<w.heap.size/\g.dE b≠some (.box s)->A' false b o):∀(xs:aq Operand),xs.all (DD st)=true->
 mu A' w (xs.map a.eval) (xs.map (CF st))
 |[],_=>trivial
 |x::xs,hx=>by
  simp only[bC,ah]at hx;refine⟨?_,Rd h s hA xs hx.2⟩;have hx:=hx.1;cases x with
  |const _=>exact Dm (h.rd _) hx
  |func _=>exact Dm (h.rd _) hx
  |global _=>exact Dm (h.rd _) hx
  |tmp t=>
   have eK:∀(t0:Nat){e:CT}{v:Value}{xs:aq e.D}{fp:dy},dY g.hw w (.sl e) [v] xs fp->(∀b∈fp,g.dE b=some (.slot t0))->iQ w (A' false) (.sl e) [v] xs:=by
    intro t0 e v xs fp h1 hl;have h3:dY (λb=>if b∈fp then g.hw b else 0) w (.sl e) [v] xs fp:=dY.mono h1 (λb hb=>⟨rfl,by simp[hb]⟩)
    exact dY.rep (λb o ho=>by
     by_cases hb:b∈fp;have ho:o<g.hw b:=by simpa[hb]using ho
     have QU:=hl b hb;exact hA b o ⟨.inr ho,(h.ff b _ QU).1,by rw[QU];simp⟩;simp[hb]at ho) h3
   obtain⟨fp,hr,hn,hl⟩:=h.slot t;simp only[DD]at hx;show fA _ (a.tmps.getD t undef) (CF st (.tmp t)) _;simp only[CF];cases hv:st.get t with
   |uT _=>rw[hv]at hx;cases hx
   |val gg cs=>
    rw[hv]at hx hr;simp only at hx;obtain⟨vs,dU,hr⟩:=hr
    have key:∀(cs:aq AC)(vs:gO)(fp:dy),(cs.map st.P7).all AC.KV=true->(∀b∈fp,g.dE b=some (.slot t))->bn (cv C g st w) vs cs fp->
     bn (eJ A' (λ_=>0) w) vs (cs.map st.P7) []:=by
     intro cs
     induction cs with
     |nil=>intro vs fp _ _ h;cases vs with
      |nil=>rfl
      |cons _ _=>exact h.elim
     |cons c cs ih=>
      intro vs fp hc hl hr
      cases vs with
      |nil=>exact hr.elim
      |cons v vs=>
       obtain⟨f1,f2,rfl,h1,h2⟩:=hr
       simp only[dC,bC,ah]at hc
       refine⟨[],[],rfl,?_,ih vs f2 hc.2 (λb hb=>hl b (aX _ hb)) h2⟩
       have hc:=hc.1
       cases c with
       |sl fl e xs=>
        cases fl with
        |own tag=>exact⟨rfl,eK t h1.1 (λb hb=>hl b (bh _ hb))⟩
        |arg k=>exact⟨rfl,iQ.mono (λb o u hs hu=>⟨hA b o ⟨.inl ⟨k,hs⟩,World.block_lt_of_cell? w _ hu,λhb=>h.Lf hb k o hs⟩,hu⟩) h1.2⟩
        |loc ep pv=>
         cases pv with
         |none=>cases hc
         |some q=>
          obtain⟨r,tg⟩:=q
          cases r with
          |box _ _=>cases hc
          |io _=>cases hc
          |slot b j=>
           have L4:=(h1.2.2.2.2 (.slot b j) tg rfl).2
           simp only[AS.P7]at hc⊢
           cases Zv:st.eF (.slot b j)with
           |none=>rw[Zv]at hc;cases hc
           |some c0=>
            rw[Zv]at hc
            split at hc
            ·rename_i t' e' ys WC
             split at hc
             ·rename_i ht
              subst ht
              cases WC
              rw[aH rfl]
              obtain⟨fp2,P0,_,zT⟩:=h.slot b
              simp only[AS.eF]at Zv
              cases hgb:st.get b with
              |uT _=>rw[hgb]at Zv;cases Zv
              |val g2 FY=>
               rw[hgb]at Zv P0
               simp only at Zv
               obtain⟨vs2,_,P0⟩:=P0
               rw[dv]at Zv
               obtain⟨v2,f3,_,N9,pa⟩:=P0.get j _ Zv
               have apT:v=v2:=by have:=(N9.2 t' rfl).2;rw[L4,this]
               rw[apT]
               exact⟨rfl,eK b N9.1 (λb' gA=>zT b' (pa b' gA))⟩
             ·cases hc
            ·cases hc
        |nest _ _ _ _ _ _=>cases hc
        |part _ _ _ _=>cases hc
        |eS _ _ _=>cases hc
       |int _ _=>exact⟨h1.1,rfl⟩
       |bool _=>exact⟨h1.1,rfl⟩
       |str _=>exact⟨h1.1,rfl⟩
       |fn _=>exact⟨h1.1,rfl⟩
       |jd=>cases hc
       |ptr _ _=>cases hc
       |Cg _ _ _ _ _=>cases hc
       |un=>cases hc
       |bot=>cases hc
    exact⟨vs,dU,key cs vs fp hx hl hr⟩
theorem dr.afi (h:dr C g st a w [])(s:Nat)(ji:st.boxes[s]?=some (some cs)): ∃arr T fr fp,w.heap[g.β s]?=some (.cells arr T fr)/\pe arr fr/\bn (cv C g st w) arr.toList cs fp/\fp.Nodup/\g.β s∉fp/\(∀b∈fp,b<w.heap.size)/\g.hw (g.β s)=0/\(∀b,b=g.β s\/b∈fp->g.dE b=some (.box s))/\ ∀(w':World)(hw':Nat->Nat)(iG:Array Value)(T':TypeId)(QQ:Nat×Nat)(mr:aq AC)(hZ fv:dy)(A':Rg)(k:Bool),Fr (λb=>b=g.β s\/b∈fp) w w'->w'.heap[g.β s]?=some (.cells iG T' QQ)->pe iG QQ-> A' true=C.A k->bn (eJ A' hw' w') iG.toList mr hZ->mr.all (AC.zR true)=true->hZ.Nodup->g.β s∉hZ->(∀b∈hZ,b<w'.heap.size/\(b∈fp\/w.heap.size<=b))-> (∀b∈fv,b<w'.heap.size/\(b∈fp\/w.heap.size<=b)/\b∉hZ/\b≠g.β s)-> ∃g',dr C g' (Za st s (oJ k (st.gV (some s)) 0 mr)) a w' []/\(∀b∈fv,g'.dE b=some (.hand 0)/\g'.hw b=hw' b)/\∀b,b<w.heap.size->g.dE b≠some (.box s)->g'.hw b=g.hw b:=by
 obtain⟨arr,T,fr,fp,iZ,qf,hr,hn,sr,hl,HQ,H8⟩:=h.boxes s cs ji;have xn:s<st.boxes.length:=(aD.1 ji).1;have N7:∀b,b=g.β s\/b∈fp->g.dE b=some (.box s):=by rintro b (rfl|hb);exact HQ;exact hl b hb
 refine⟨arr,T,fr,fp,iZ,qf,hr,hn,sr,λb hb=>(h.ff b _ (hl b hb)).1,H8,N7,?_⟩;intro w' hw' iG T' QQ mr hZ fv A' k gu JE US hA' uC ahr Ae HR K8 FZ;let bx':aq AC:=oJ k (st.gV (some s)) 0 mr;let st':AS:=Za st s bx';let hw2:Nat->Nat:=λb=>if b∈hZ\/b∈fv then hw' b else if b=g.β s then 0 else g.hw b
 let ad0:Nat->ar iO:=λb=>if b=g.β s\/b∈hZ then some (.box s) else if b∈fv then some (.hand 0) else g.dE b
 let g':Gh:=⟨hw2,g.β,ad0,qd g.hdr (st.gV (some s)) iG.toList⟩
 have um:st'.boxes=st.boxes.set s (some bx'):=by show((st.eh s (some bx')).eX (some s)).boxes=_;rw[Cc,jS]
 have Ob:st'.slots=st.slots:=by show((st.eh s (some bx')).eX (some s)).slots=_;rw[uM];rfl
 have JJ:st'.io=st.io:=by show((st.eh s (some bx')).eX (some s)).io=_;rw[J8];rfl
 have FV:∀t,kO st t->kO st' t:=λt ht=>by have h1:kO (st.eh s (some bx')) t:=ht;exact Eu (d:=some s) h1
 have PI:∀t,fY st t->fY st' t:=by rintro t ⟨c0,WC⟩;by_cases qg:s=t;subst qg;exact⟨bx',by rw[um];simp[xn]⟩;exact⟨c0,by rw[um,aS qg];exact WC⟩
 have UN:∀b,b<w.heap.size->g.dE b≠some (.box s)->b∉hZ/\b∉fv/\b≠g.β s:=by intro b hb QU;refine⟨λhm=>?_,λhm=>?_,λhm=>QU (N7 b (.inl hm))⟩;rcases(K8 b hm).2 with h2|h2;exact QU (N7 b (.inr h2));omega;rcases(FZ b hm).2.1 with h2|h2;exact QU (N7 b (.inr h2));omega
 have lg:∀b x,x≠ .box s->g.dE b=some x->ad0 b=some x/\w'.heap[b]?=w.heap[b]?/\hw2 b=g.hw b:=by intro b x hx hb;have H0:=(h.ff b x hb).1;have hnm:¬(b=g.β s\/b∈fp):=λhm=>hx (by have:=N7 b hm;rw[hb]at this;simpa using this);obtain⟨n1,n2,n3⟩:=UN b H0 (by rw[hb];simpa using hx);refine⟨?_,gu.block b H0 hnm,?_⟩;show(if b=g.β s\/b∈hZ then _ else if b∈fv then _ else _)=_;rw[aG (by rintro(h1|h1);exact n3 h1;exact n1 h1),aG n2];exact hb;show(if b∈hZ\/b∈fv then _ else if b=g.β s then _ else _)=_;rw[aG (by rintro(h1|h1);exact n1 h1;exact n2 h1),aG n3]
 have Xu:∀k b o u,C.A k b o->w.cell? ⟨b,o,none⟩=some u->w'.cell? ⟨b,o,none⟩=some u:=by intro k b o u hA hu;have hb:b<w.heap.size:=World.block_lt_of_cell? w _ hu;rw[World.cell?_of_block (a:=⟨b,o,none⟩) (gu.block b hb (λhm=>h.Lf (N7 b hm) k o hA))];exact hu
 have hle:(cv C g st w).Le (cv C g' st' w'):=⟨rfl,λt ht=>⟨FV t ht,Bq ht⟩,Xu,Nat.le_succ _,λt ht=>⟨PI t ht,rfl⟩,λhe=>absurd he (Nat.succ_ne_self _)⟩
 refine⟨g',h.step (λx=>x≠ .box s) hle h.defers ?_ ?_ ?_ ?_ (λb x hk hb=>lg b x hk hb) ?_ ?_ (λk u bv hk=>by simp at hk) (.inl ⟨by simp,JJ⟩),λb hb=>?_,λb hb QU=>?_⟩;rw[Ob];exact h.size;rw[Ob,um,bg];exact h.bsize;refine h.frame.trans gu (λb hb hm=>?_);rcases(h.ff b _ (N7 b hm)).2 with h2|h2;omega;exact h2;intro b x hx;have zU:(if b=g.β s\/b∈hZ then some (iO.box s) else if b∈fv then some (.hand 0) else g.dE b)=some x:=hx;have hz:=gu.size;have hold:b∈fp\/w.heap.size<=b->C.w0.heap.size<=b\/C.M b:=by rintro(h2|h2);exact(h.ff b _ (hl b h2)).2;exact .inl (bf h.frame.size h2)
 split at zU;rename_i hm;rcases hm with rfl|hm;have:=h.ff _ _ HQ;exact⟨by omega,this.2⟩;exact⟨(K8 b hm).1,hold (K8 b hm).2⟩;split at zU;rename_i hm;exact⟨(FZ b hm).1,hold (FZ b hm).2.1⟩;have:=h.ff b x zU;exact⟨by omega,this.2⟩;intro i av hi;rw[Ob]at hi;exact .inl ⟨by simp,hi,rfl⟩;intro t FY hb;rw[um]at hb;by_cases qg:t=s;subst qg;rw[bj]at hb;simp only[bF,xn]at hb;simp at hb;subst hb;refine .inr ⟨iG,T',QQ,hZ,JE,US,?_,Ae,HR,λb hb=>?_,?_,?_⟩
 have:=IB (c:=cv C g' st' w') (A':=A') (hw:=hw') (mk:=st.gV (some t)) (k:=k) hA' 0 (vs:=iG.toList) (xs:=mr) (fp:=hZ) uC ahr
  (λb hb=>by show(if b∈hZ\/b∈fv then _ else _)=_;rw[aH (.inl hb)])
  (λi u hu q hq=>by
   rw[cj]at hq;have hm:=oS hq;have Zt:kO st' q:=by have h1:st.gV (some t) i=some q:=hq;have h2:(st.eh t (some bx')).gV (some t) i=some q:=h1;exact(oS h2).2.1
   exact⟨Zt,Bp hu hq⟩)
 exact this;show(if b=g.β t\/b∈hZ then _ else _)=_;rw[aH (.inr hb)];show(if g.β t=g.β t\/g.β t∈hZ then _ else _)=_;rw[aH (.inl rfl)];show(if g.β t∈hZ\/g.β t∈fv then _ else if g.β t=g.β t then _ else _)=_;rw[aG (by rintro(h1|h1);exact HR h1;exact(FZ _ h1).2.2.2 rfl),aH rfl];rw[aS (cC qg)]at hb;exact .inl ⟨by simpa using qg,hb,rfl⟩;obtain⟨_,_,h3,h4⟩:=FZ b hb;refine⟨?_,?_⟩;show(if b=g.β s\/b∈hZ then _ else if b∈fv then _ else _)=_;rw[aG (by rintro(h1|h1);exact h4 h1;exact h3 h1),aH hb];show(if b∈hZ\/b∈fv then _ else _)=_;rw[aH (.inr hb)];obtain⟨n1,n2,n3⟩:=UN b hb QU;show(if b∈hZ\/b∈fv then _ else if b=g.β s then _ else _)=_;rw[aG (by rintro(h1|h1);exact n1 h1;exact n2 h1),aG n3]
theorem R7:∀{vs:gO}{cs:aq AC}{fp:dy},bn c vs cs fp->cs.all AC.Jo=true->fp=[]
 |[],[],_,h,_=>h
 |[],_::_,_,h,_=>h.elim
 |_::_,[],_,h,_=>h.elim
 |v::vs,x::cs,fp,h,hx=>by
  obtain⟨f1,f2,rfl,h1,h2⟩:=h;simp only[bC,ah]at hx;rw[R7 h2 hx.2,bt];have hx:=hx.1;cases x with
  |sl fl e xs=>cases fl<;>first|exact h1.1|cases hx
  |int k n=>exact h1.2
  |bool b=>exact h1.2
  |str s=>exact h1.2
  |fn f=>exact h1.2
  |jd=>cases hx
  |ptr _ _=>cases hx
  |Cg _ _ _ _ _=>cases hx
  |un=>cases hx
  |bot=>cases hx
theorem dr.acx (h:dr C g st a w [])(s:Nat)(ji:st.boxes[s]?=some (some cs))(K7:cs.all AC.Jo=true): ∀(w':World)(hw':Nat->Nat)(iG:Array Value)(T':TypeId)(QQ:Nat×Nat)(mr:aq AC)(hZ fv:dy)(A':Rg)(k:Bool),Fr (λb=>b=g.β s) w w'->w'.heap[g.β s]?=some (.cells iG T' QQ)->pe iG QQ-> A' true=C.A k->bn (eJ A' hw' w') iG.toList mr hZ->mr.all (AC.zR true)=true->hZ.Nodup->g.β s∉hZ->(∀b∈hZ,b<w'.heap.size/\w.heap.size<=b)-> (∀b∈fv,b<w'.heap.size/\w.heap.size<=b/\b∉hZ/\b≠g.β s)-> ∃g',dr C g' (st.eh s (some (oJ k (λ_=>none) 0 mr))) a w' []/\(∀b∈fv,g'.dE b=some (.hand 0)/\g'.hw b=hw' b)/\∀b,b<w.heap.size->g.dE b≠some (.box s)->g'.hw b=g.hw b:=by
 obtain⟨arr,T,fr,fp,iZ,qf,hr,hn,sr,hl,HQ,H8⟩:=h.boxes s cs ji;have ahd:fp=[]:=R7 hr K7;subst ahd;have xn:s<st.boxes.length:=(aD.1 ji).1;intro w' hw' iG T' QQ mr hZ fv A' k gu JE US hA' uC ahr Ae HR K8 FZ;let bx':aq AC:=oJ k (λ_=>none) 0 mr;let st':AS:=st.eh s (some bx');let hw2:Nat->Nat:=λb=>if b∈hZ\/b∈fv then hw' b else if b=g.β s then 0 else g.hw b
 let ad0:Nat->ar iO:=λb=>if b=g.β s\/b∈hZ then some (.box s) else if b∈fv then some (.hand 0) else g.dE b
 let g':Gh:=⟨hw2,g.β,ad0,g.hdr⟩
 have um:st'.boxes=st.boxes.set s (some bx'):=by show(st.eh s (some bx')).boxes=_;rw[jS]
 have PI:∀t,fY st t->fY st' t:=by rintro t ⟨c0,WC⟩;by_cases qg:s=t;subst qg;exact⟨bx',by rw[um];simp[xn]⟩;exact⟨c0,by rw[um,aS qg];exact WC⟩
 have hold:∀b,b<w.heap.size->b∉hZ/\b∉fv:=by intro b hb;refine⟨λhm=>?_,λhm=>?_⟩;have:=(K8 b hm).2;omega;have:=(FZ b hm).2.1;omega
 have Br:∀b,b<w.heap.size->b≠g.β s->hw2 b=g.hw b:=by intro b hb D2;show(if b∈hZ\/b∈fv then _ else if b=g.β s then _ else _)=_;rw[aG (by rintro(h1|h1);exact(hold b hb).1 h1;exact(hold b hb).2 h1),aG D2]
 have lg:∀b x,x≠ .box s->g.dE b=some x->ad0 b=some x/\w'.heap[b]?=w.heap[b]?/\hw2 b=g.hw b:=by intro b x hx hb;have H0:=(h.ff b x hb).1;have D2:b≠g.β s:=λhm=>hx (by rw[hm,HQ]at hb;simpa using hb.symm);refine⟨?_,gu.block b H0 D2,Br b H0 D2⟩;show(if b=g.β s\/b∈hZ then _ else if b∈fv then _ else _)=_;rw[aG (by rintro(h1|h1);exact D2 h1;exact(hold b H0).1 h1),aG (hold b H0).2];exact hb
 have Xu:∀k b o u,C.A k b o->w.cell? ⟨b,o,none⟩=some u->w'.cell? ⟨b,o,none⟩=some u:=by intro k b o u hA hu;have hb:b<w.heap.size:=World.block_lt_of_cell? w _ hu;rw[World.cell?_of_block (a:=⟨b,o,none⟩) (gu.block b hb (λhm=>h.Lf (by rw[hm];exact HQ) k o hA))];exact hu
 have hle:(cv C g st w).Le (cv C g' st' w'):=by
  refine⟨rfl,λt ht=>⟨ht,rfl⟩,Xu,bc _,λt ht=>⟨PI t ht,rfl⟩,λ_ b o u ho hu=>?_⟩;have hb:b<w.heap.size:=World.block_lt_of_cell? w _ hu;have MB:o<g.hw b:=ho;have D2:b≠g.β s:=λe=>by rw[e,H8]at MB;omega
  refine⟨by show o<hw2 b;rw[Br b hb D2];exact MB,?_⟩;show w'.cell? ⟨b,o,none⟩=some u;rw[World.cell?_of_block (a:=⟨b,o,none⟩) (gu.block b hb D2)];exact hu
 refine⟨g',h.step (λx=>x≠ .box s) hle h.defers h.size ?_ ?_ ?_ (λb x hk hb=>lg b x hk hb) ?_ ?_ (λk u bv hk=>by simp at hk) (.inl ⟨by simp,rfl⟩),λb hb=>?_,λb hb QU=>?_⟩;rw[um,bg];exact h.bsize;refine h.frame.trans gu (λb hb hm=>?_);have hm:b=g.β s:=hm;subst hm;rcases(h.ff _ _ HQ).2 with h2|h2;omega;exact h2;intro b x hx;have zU:(if b=g.β s\/b∈hZ then some (iO.box s) else if b∈fv then some (.hand 0) else g.dE b)=some x:=hx;have hz:=gu.size;split at zU;rename_i hm;rcases hm with rfl|hm;have:=h.ff _ _ HQ;exact⟨by omega,this.2⟩;exact⟨(K8 b hm).1,.inl (bf h.frame.size (K8 b hm).2)⟩;split at zU;rename_i hm;exact⟨(FZ b hm).1,.inl (bf h.frame.size (FZ b hm).2.1)⟩;have:=h.ff b x zU;exact⟨by omega,this.2⟩;intro i av hi;exact .inl ⟨by simp,hi,rfl⟩;intro t FY hb;rw[um]at hb;by_cases qg:t=s;subst qg;rw[bj]at hb;simp only[bF,xn]at hb;simp at hb;subst hb;refine .inr ⟨iG,T',QQ,hZ,JE,US,?_,Ae,HR,λb hb=>?_,?_,?_⟩;have:=IB (c:=cv C g' st' w') (A':=A') (hw:=hw') (mk:=λ_=>none) (k:=k) hA' 0 (vs:=iG.toList) (xs:=mr) (fp:=hZ) uC ahr (λb hb=>by show(if b∈hZ\/b∈fv then _ else _)=_;rw[aH (.inl hb)]) (λi u hu q hq=>by cases hq);exact this;show(if b=g.β t\/b∈hZ then _ else _)=_;rw[aH (.inr hb)];show(if g.β t=g.β t\/g.β t∈hZ then _ else _)=_;rw[aH (.inl rfl)];show(if g.β t∈hZ\/g.β t∈fv then _ else if g.β t=g.β t then _ else _)=_;rw[aG (by rintro(h1|h1);exact HR h1;exact(FZ _ h1).2.2.2 rfl),aH rfl];rw[aS (cC qg)]at hb;exact .inl ⟨by simpa using qg,hb,rfl⟩;obtain⟨_,_,h3,h4⟩:=FZ b hb;refine⟨?_,?_⟩;show(if b=g.β s\/b∈hZ then _ else if b∈fv then _ else _)=_;rw[aG (by rintro(h1|h1);exact h4 h1;exact h3 h1),aH hb];show(if b∈hZ\/b∈fv then _ else _)=_;rw[aH (.inr hb)];exact Br b hb (λe=>QU (by rw[e];exact HQ))
theorem agY (zr:∀f,kh P f (Γ f)){o':Oper}(ho:o'.op=.call {callee:=.value f,args,argTypes:=ts})(hg:dr C g st a w [])(hf:st.rd f=.val false [.fn k])(ji:(Γ k).bx=true){K:AS->ar R}(hk:uX Γ o' k args.toList st K=some r)(next:Act->World->Prop)(Q:Exit->Act->World->Prop)(fC:∀st' a' w',mM C st' a' w'->K st'=some r->next a' w'):o'.wp P a w next Q:=by
 have FZ:=hg.rd f;rw[hf]at FZ;have FZ:=(dM FZ).1;unfold uX at hk;split at hk
 ·rename_i x0 xs eR;split at hk
  ·rename_i s WJ;split at hk
   ·rename_i cs TM;have hb:st.boxes[s]?=some (some cs):=by rw[dv]at TM;cases hq:st.boxes[s]? with|none=>rw[hq]at TM;simp at TM|some q=>rw[hq]at TM;simp at TM;rw[TM]
    cases hc:(cs.all (AC.zR (Fk cs))&&xs.all (DD st))with
    |false=>rw[hc]at hk;cases hk
    |true=>
     rw[hc]at hk;simp only[af]at hk;simp only[ah]at hc;cases eT:(Γ k).fn (.val true (cs.map AC.Tw)::xs.map (CF st))with
     |none=>rw[eT]at hk;cases hk
     |some y=>
      rw[eT]at hk;simp only[aa]at hk;cases Zo:(((Γ k).back y).all (AC.zR true)&&((Γ k).av y).abt)with
      |false=>rw[Zo]at hk;cases hk
      |true=>
       rw[Zo]at hk;simp only[af]at hk;simp only[ah]at Zo;obtain⟨⟨fn,c,MZ,JF,vc⟩,_,_,oZ,_⟩:=zr k _ y eT;have oZ:=oZ ji _ _ rfl;have JL:=hg.rd x0;rw[WJ]at JL;have uR:=CJ JL;obtain⟨arr,T,fr,fp,iZ,qf,dx,hn,sr,gM,H8,FW,kJ⟩:=hg.afi s hb;let A':Rg:=λq b o=>bif q then C.A (Fk cs) b o else((cv C g st w).S b o/\b<w.heap.size/\g.dE b≠some (.box s))
       have hA':∀q b' o,A' q b' o->b'<w.heap.size/\b'≠g.β s/\b'∉fp:=by
        intro q b' o hq;have key:b'<w.heap.size/\g.dE b'≠some (.box s):=by cases q with|true=>have hq:C.A (Fk cs) b' o:=hq;exact⟨gC (C.hA _ _ _ hq).1 hg.frame.size,λhb=>hg.Lf hb _ o hq⟩|false=>exact hq.2
        exact⟨key.1,λe=>key.2 (FW b' (.inl e)),λe=>key.2 (FW b' (.inr e))⟩
       have Ck:=oZ A' w (g.β s) (xs.map a.eval) arr T fr g.hw fp hA' iZ qf (KF (k:=Fk cs) hc.1 dx rfl rfl rfl) hn sr gM H8 (Rd hg s (λb o h=>h) xs hc.2);have apP:a.eval x0=.pointer (some ⟨g.β s,0,none⟩):=uR;have N1:(Value.pointer (some ⟨g.β s,0,none⟩)::xs.map a.eval).toArray=args.map a.eval:=by apply dV;simp[eR,apP]
       rw[N1]at Ck;have dD:(execOp a.eval o').run P w=.ok (.enter k (args.map a.eval)) w:=by simp[execOp,ho,resolve,FZ,Deferred.ofValue,invoke,callFunc,MZ,JF];simpa using vc
       unfold Oper.wp;rw[dD,Oper.upon_enter];refine Ck.mono ?_;rintro e w' ⟨v,hw',fv,iG,T',QQ,hZ,rfl,QW,JE,US,uC,Ae,HR,K8,hnv,adk,gu⟩;show next (a.put o'.dst v) w'
       have tail:∀(st1:AS)(g':Gh),dr C g' st1 a w' []->(∀b∈fv,g'.dE b=some (.hand 0)/\g'.hw b=hw' b)->(∀b,b<w.heap.size->g.dE b≠some (.box s)->g'.hw b=g.hw b)->
        K ((st1.eX o'.dst).put o'.dst (((Γ k).av y).Fl st1.ep (st1.gV o'.dst)))=some r->next (a.put o'.dst v) w':=by
        intro st1 g' ml hlv hold hk
        have hAS:∀(hd:Nat->Value)(q:Bool)(b o:Nat),A' q b o->(cv C {g' with hdr:=hd} (st1.eX o'.dst) w').S b o:=by intro hd q b o hq;cases q with|true=>exact .inl ⟨_,hq⟩|false=>rcases hq.1 with hs|hs;exact .inl hs;exact .inr (by show o<g'.hw b;rw[hold b hq.2.1 hq.2.2];exact hs)
        have adi:∀b∈fv,g'.hw b=hw' b:=λb hb=>(hlv b hb).2
        have uC:∃hd,(∀t,kO st1 t->hd t=g'.hdr t)/\fA (cv C {g' with hdr:=hd} (st1.eX o'.dst) w') v (((Γ k).av y).Fl st1.ep (st1.gV o'.dst)) fv:=by
         generalize (Γ k).av y=y at QW;cases y with
         |val gg cs=>obtain⟨vs,dU,hr⟩:=QW;refine⟨qd g'.hdr (st1.gV o'.dst) vs,λt ht=>Bq ht,vs,dU,?_⟩;have:=Ca (c:=cv C {g' with hdr:=qd g'.hdr (st1.gV o'.dst) vs} (st1.eX o'.dst) w') (mk:=st1.gV o'.dst) (hAS _) 0 hr adi (λi u hu t ht=>by rw[cj]at ht;exact⟨(oS ht).2.1,Bp hu ht⟩);have xg:(cv C {g' with hdr:=qd g'.hdr (st1.gV o'.dst) vs} (st1.eX o'.dst) w').ep=st1.ep:=Bh;rw[xg]at this;exact this
         |uT ts=>obtain⟨ws,hv,hr⟩:=QW;obtain⟨all,FU⟩:=Lg hr;refine⟨qd g'.hdr (st1.gV o'.dst) all,λt ht=>Bq ht,ws,hv,?_⟩;have:=Ov (c:=cv C {g' with hdr:=qd g'.hdr (st1.gV o'.dst) all} (st1.eX o'.dst) w') (mk:=st1.gV o'.dst) (hAS _) FU 0 adi (λi u hu t ht=>by rw[cj]at ht;exact⟨(oS ht).2.1,Bp hu ht⟩);have xg:(cv C {g' with hdr:=qd g'.hdr (st1.gV o'.dst) all} (st1.eX o'.dst) w').ep=st1.ep:=Bh;rw[xg]at this;exact this
        obtain⟨hd,hhd,uC⟩:=uC
        obtain⟨g2,IP⟩:=ml.OT o'.dst (hw':=g'.hw) (hdr':=hd) (fp:=fv) (st1:=st1.eX o'.dst) J8 uM Cc Bh (λt ht=>⟨Eu ht,hhd t ht⟩)
         (Fr.refl _ _) (λ_ _ _ _=>rfl) (λ_ _ _ ho hu=>⟨ho,hu⟩) uC hnv (λb hb=>⟨(adk b hb).1,.inl (by rw[(hlv b hb).1];rfl)⟩)
        exact fC _ _ _ ⟨g2,IP⟩ hk
       cases hcur:((Γ k).cur&&cs.all AC.Jo)with
       |false=>rw[hcur]at hk;obtain⟨g',ml,hlv,hold⟩:=kJ w' hw' iG T' QQ ((Γ k).back y) hZ fv A' (Fk cs) gu JE US rfl uC Zo.1 Ae HR K8 adk;exact tail _ g' ml hlv hold hk
       |true=>rw[hcur]at hk;simp only[ah]at hcur;have ahd:fp=[]:=R7 dx hcur.2;subst ahd;obtain⟨g',ml,hlv,hold⟩:=hg.acx s hb hcur.2 w' hw' iG T' QQ ((Γ k).back y) hZ fv A' (Fk cs) ⟨gu.os,gu.tape,gu.output,gu.size,λb hb hm=>gu.block b hb (λhh=>hm (hh.resolve_right (by simp)))⟩ JE US rfl uC Zo.1 Ae HR (λb hb=>⟨(K8 b hb).1,(K8 b hb).2.resolve_left (by simp)⟩) (λb hb=>⟨(adk b hb).1,(adk b hb).2.1.resolve_left (by simp),(adk b hb).2.2⟩);exact tail _ g' ml hlv hold hk
   cases hk
  cases hk
 cases hk
theorem arg_val (hA:c'.A=c.A)(hw:c'.w=c.w){v:Value}{x:AV}(h:fA c v x fp)(hx:x.KV=true):fp=[]/\fA c' v x []:=by
 cases x with
 |uT _=>cases hx
 |val g cs=>
  obtain⟨vs,dU,h⟩:=h
  have key:∀(cs:aq AC)(vs:gO)(fp:dy),bn c vs cs fp->cs.all AC.KV=true->fp=[]/\bn c' vs cs []:=by
   intro cs
   induction cs with
   |nil=>intro vs fp h _;cases vs with
    |nil=>exact⟨h,rfl⟩
    |cons _ _=>exact h.elim
   |cons x cs ih=>
    intro vs fp h hx
    cases vs with
    |nil=>exact h.elim
    |cons v vs=>
     obtain⟨f1,f2,rfl,h1,h2⟩:=h
     simp only[bC,ah]at hx
     obtain⟨rfl,k2⟩:=ih vs f2 h2 hx.2
     have hx:=hx.1
     have one:f1=[]/\gy c' v x []:=by
      cases x with
      |sl fl e xs=>cases fl with|arg k=>exact⟨h1.1,rfl,by rw[hA,hw];exact h1.2⟩|own _=>cases hx|loc _ _=>cases hx|nest _ _ _ _ _ _=>cases hx|part _ _ _ _=>cases hx|eS _ _ _=>cases hx
      |int _ _=>exact kT h1 rfl
      |bool _=>exact kT h1 rfl
      |str _=>exact kT h1 rfl
      |fn _=>exact kT h1 rfl
      |jd=>cases hx
      |ptr _ _=>cases hx
      |Cg _ _ _ _ _=>cases hx
      |un=>cases hx
      |bot=>cases hx
     obtain⟨rfl,k1⟩:=one
     exact⟨rfl,[],[],rfl,k1,k2⟩
  obtain⟨e,k⟩:=key cs vs fp h hx;exact⟨e,vs,dU,k⟩
theorem TX (h:dr C g st a w []):∀(xs:aq Operand),xs.all (λx=>(st.rd x).KV)=true->mu C.A w (xs.map a.eval) (xs.map st.rd)
 |[],_=>trivial
 |x::xs,hf=>by simp only[bC,ah]at hf;exact⟨(arg_val (c:=cv C g st w) (c':=eJ C.A (λ_=>0) w) rfl rfl (h.rd x) hf.1).2,TX h xs hf.2⟩
theorem ahG (zr:∀f,kh P f (Γ f)){o':Oper}(ho:o'.op=.call {callee:=.value f,args,argTypes:=ts})(hg:dr C g st a w [])(hf:st.rd f=.val false [.fn k])(PI:(Γ k).pr=true){K:AS->ar R}(hk:abu Γ o' k args.toList st K=some r)(next:Act->World->Prop)(Q:Exit->Act->World->Prop)(fC:∀st' a' w',mM C st' a' w'->K st'=some r->next a' w'):o'.wp P a w next Q:=by
 have FZ:=hg.rd f;rw[hf]at FZ;have FZ:=(dM FZ).1;unfold abu at hk;split at hk
 ·rename_i d hd;split at hk
  ·rename_i Hj;cases hc:args.toList.all (λx=>(st.rd x).KV)with
   |false=>rw[hc]at hk;cases hk
   |true=>
    rw[hc]at hk;simp only[af]at hk;cases eT:(Γ k).fn (args.toList.map st.rd)with
    |none=>rw[eT]at hk;cases hk
    |some y=>
     rw[eT]at hk;simp only[aa]at hk;cases Zo:((Γ k).back y).all AC.KV with
     |false=>rw[Zo]at hk;cases hk
     |true=>
      rw[Zo]at hk;simp only[af]at hk;obtain⟨⟨fn,c,MZ,JF,vc⟩,_,_,_,oZ⟩:=zr k _ y eT;have Ck:=oZ PI C.A w (args.toList.map a.eval) (λq b o hq=>gC (C.hA q b o hq).1 hg.frame.size) (TX hg _ hc);have eR:(args.toList.map a.eval).toArray=args.map a.eval:=by apply dV;simp
      rw[eR]at Ck;have dD:(execOp a.eval o').run P w=.ok (.enter k (args.map a.eval)) w:=by simp[execOp,ho,resolve,FZ,Deferred.ofValue,invoke,callFunc,MZ,JF];simpa using vc
      unfold Oper.wp;rw[dD,Oper.upon_enter];refine Ck.mono ?_;rintro e w' ⟨b,arr,T,fr,hw,rfl,hb,iZ,qf,dx,gu⟩;show next (a.put o'.dst (.pointer (some ⟨b,0,none⟩))) w'
      rw[dv]at Hj;have H0:=lE iZ;have D2:∀b' x,g.dE b'=some x->b'≠b:=λb' x hx e=>by have:=(hg.ff b' x hx).1;omega
      have hr1:bn ⟨λb'=>if b'=b then 0 else g.hw b',λt=>if t=d then b else g.β t,C.A,g.hdr,kO st,st.ep,fY st,w'⟩ arr.toList ((Γ k).back y) []:=by
       have hv:fA (eJ C.A hw w') (.agg arr.toList.toArray) (.val true ((Γ k).back y)) []:=⟨arr.toList,rfl,dx⟩
       obtain⟨_,vs,dU,h⟩:=arg_val (c:=eJ C.A hw w') (c':=⟨λb'=>if b'=b then 0 else g.hw b',λt=>if t=d then b else g.β t,C.A,g.hdr,kO st,st.ep,fY st,w'⟩) rfl rfl hv Zo;have:arr.toList=vs:=by have dU:Value.agg arr.toList.toArray=.agg vs.toArray:=dU;simp only[Value.agg.injEq]at dU;simpa using congrArg Array.toList dU
       rw[this];exact h
      obtain⟨g',IT,h'⟩:=hg.W0 d (cs:=(Γ k).back y) (arr:=arr) (T:=T) (fr:=fr) (fp:=[]) (w':=w') (bnew:=b) (hw':=λb'=>if b'=b then 0 else g.hw b') (.inr ⟨hb,Hj⟩) ⟨gu.os,gu.tape,gu.output,gu.size,λb' gA _=>gu.block b' gA (λm=>m)⟩ iZ qf H0 (by simp) (λb' x hx _ hn=>by simp[hn]) (λb' o u ho hu=>by have gA:b'<w.heap.size:=World.block_lt_of_cell? w _ hu;exact⟨by simp[show b'≠b by omega];exact ho,AW gu hu⟩) hr1 List.nodup_nil (by simp) (λb' gA=>by cases gA);have hdl:d<st.boxes.length:=(aD.1 Hj).1;have hq:=h'.quiet (some d) (v:=.pointer (some ⟨b,0,none⟩)) (av:=.one (.ptr d 0)) (ma ⟨by simp[cv,IT],⟨(Γ k).back y,by rw[jS];simp[hdl]⟩,rfl⟩);rw[hd];exact fC _ _ _ ⟨g',hq⟩ hk
  cases hk
 cases hk
theorem afk (zr:∀f,kh P f (Γ f)){o':Oper}(ho:o'.op=.call {callee:=.value f,args,argTypes:=ts})(h:mM C st a w){K:AS->ar R}(hk:Fm Γ o' f args.toList st K=some r)(next:Act->World->Prop)(Q:Exit->Act->World->Prop)(fC:∀st' a' w',mM C st' a' w'->K st'=some r->next a' w'):o'.wp P a w next Q:=by
 obtain⟨g,hg⟩:=h;unfold Fm at hk;split at hk
 ·rename_i k hf
  have FZ:=hg.rd f
  rw[hf]at FZ
  have FZ:=(dM FZ).1
  cases ji:(Γ k).bx with
  |true=>rw[ji]at hk;exact agY zr ho hg hf ji hk next Q fC
  |false=>
  rw[ji]at hk
  simp only[ae]at hk
  cases PI:(Γ k).pr with
  |true=>rw[PI]at hk;exact ahG zr ho hg hf PI hk next Q fC
  |false=>
  rw[PI]at hk
  simp only[ae]at hk
  cases JJ:(Γ k).io with
  |true=>rw[JJ]at hk;exact aiD zr ho hg hf JJ hk next Q fC
  |false=>
  rw[JJ]at hk
  simp only[ae]at hk
  cases eT:(Γ k).fn (args.toList.map λx=>((st.rd x).fresh st).asArg st.ep)with
  |none=>rw[eT]at hk;cases hk
  |some y0=>
   rw[eT]at hk
   simp only[aa]at hk
   obtain⟨⟨fn,c,MZ,JF,vc⟩,oZ,_⟩:=zr k _ y0 eT
   have oZ:=oZ JJ ji
   have hk:K ((st.eX o'.dst).put o'.dst (((Γ k).res y0).Fl st.ep (st.gV o'.dst)))=some r:=by unfold zY.res;cases P1:(Γ k).sel y0 with|true=>rw[P1]at hk;exact hk|false=>rw[P1]at hk;exact hk
   generalize hy0:(Γ k).res y0=y at hk oZ
   have Ck:=oZ (λ_ b o=>(cv C g st w).S b o/\b<w.heap.size) w (args.toList.map a.eval) (λ_ _ _ h=>h.2) (TY hg args.toList)
   have eR:(args.toList.map a.eval).toArray=args.map a.eval:=by apply dV;simp
   rw[eR]at Ck
   have dD:(execOp a.eval o').run P w=.ok (.enter k (args.map a.eval)) w:=by simp[execOp,ho,resolve,FZ,Deferred.ofValue,invoke,callFunc,MZ,JF];simpa using vc
   unfold Oper.wp
   rw[dD,Oper.upon_enter]
   refine Ck.mono ?_
   rintro e w' ⟨v,hw,fp,rfl,dx,El,B5,gu⟩
   show next (a.put o'.dst v) w'
   let hw':Nat->Nat:=λb=>if b∈fp then hw b else g.hw b
   have SE:∀b,b<w.heap.size->b∉fp:=λb hb hm=>by have:=(B5 b hm).1;omega
   have hA':∀(hd:Nat->Value)(_:Bool)(b o:Nat),((cv C g st w).S b o/\b<w.heap.size)->(cv C {g with hw:=hw',hdr:=hd} (st.eX o'.dst) w').S b o:=by rintro hd _ b o ⟨hs,hb⟩;rcases hs with hs|hs;exact .inl hs;exact .inr (by simp only[cv,hw',aG (SE b hb)];exact hs)
   have uC:∃hd,(∀t,kO st t->hd t=g.hdr t)/\fA (cv C {g with hw:=hw',hdr:=hd} (st.eX o'.dst) w') v (y.Fl st.ep (st.gV o'.dst)) fp:=by
    have adi:∀b∈fp,hw' b=hw b:=λb hb=>by simp[hw',hb]
    cases y with
    |val gg cs=>obtain⟨vs,dU,hr⟩:=dx;refine⟨qd g.hdr (st.gV o'.dst) vs,λt ht=>Bq ht,vs,dU,?_⟩;have:=Ca (c:=cv C {g with hw:=hw',hdr:=qd g.hdr (st.gV o'.dst) vs} (st.eX o'.dst) w') (mk:=st.gV o'.dst) (hA' _) 0 hr adi (λi u hu t ht=>by rw[cj]at ht;exact⟨(oS ht).2.1,Bp hu ht⟩);have xg:(cv C {g with hw:=hw',hdr:=qd g.hdr (st.gV o'.dst) vs} (st.eX o'.dst) w').ep=st.ep:=Bh;rw[xg]at this;exact this
    |uT ts=>obtain⟨ws,hv,hr⟩:=dx;obtain⟨all,FU⟩:=Lg hr;refine⟨qd g.hdr (st.gV o'.dst) all,λt ht=>Bq ht,ws,hv,?_⟩;have:=Ov (c:=cv C {g with hw:=hw',hdr:=qd g.hdr (st.gV o'.dst) all} (st.eX o'.dst) w') (mk:=st.gV o'.dst) (hA' _) FU 0 adi (λi u hu t ht=>by rw[cj]at ht;exact⟨(oS ht).2.1,Bp hu ht⟩);have xg:(cv C {g with hw:=hw',hdr:=qd g.hdr (st.gV o'.dst) all} (st.eX o'.dst) w').ep=st.ep:=Bh;rw[xg]at this;exact this
   obtain⟨hd,hhd,uC⟩:=uC
   obtain⟨g',ml⟩:=hg.OT o'.dst (hw':=hw') (hdr':=hd) (fp:=fp) (st1:=st.eX o'.dst) J8 uM Cc Bh (λt ht=>⟨Eu ht,hhd t ht⟩)
    ⟨gu.os,gu.tape,gu.output,gu.size,λb hb _=>gu.block b hb (λm=>m)⟩ (λb x hx _=>by simp[hw',SE b (hg.ff b x hx).1])
    (λb o u ho hu=>by have hb:b<w.heap.size:=World.block_lt_of_cell? w _ hu;exact⟨by simp[hw',SE b hb];exact ho,AW gu hu⟩) uC El (λb hb=>⟨(B5 b hb).2,.inr (B5 b hb).1⟩)
   exact fC _ _ _ ⟨g',ml⟩ hk
 cases hk
end Go.Dn
