import Derived.Test.YtfbhfnniblfpbaaGreatDnOps8
/- A call by value: what a callee promises, and what the caller makes of it. -/
namespace Go.Dn
open Go.RowKit
variable {P:Program} {C:Ctx} {st:AS} {a:Act} {w:World} {R:Type} {r:R}
variable {x:AC} {args:Array Operand} {ts:Array TypeId} {Γ:xu} {g:Gh} {hw:Nat->Nat} {hdr:Nat->Value} {f:Operand} {c c':RC} {cs:au AC} {d:ax Nat} {fp:eo}
def eS (A:Rg)(hw:Nat->Nat)(w:World):RC:=⟨hw,λ_=>0,A,λ_=>undef,λ_=>False,0,λ_=>False,w⟩
def oI (A:Rg)(w:World):ie->au AV->Prop
 |[],[]=>True
 |v::vs,x::xs=>fF (eS A (λ_=>0) w) v x []/\oI A w vs xs
 |_,_=>False
def anZ (P:Program)(f:Nat)(F:zH)(y:F.R)(g:Bool)(cs:au AC)(rest:au AV):Prop:=
 ∀(A:Rg)(w:World)(v0:Value)(vs:ie)(hw:Nat->Nat)(fp:eo),(∀k b o,A k b o->b<w.heap.size/\b∉fp)->fF (eS A hw w) v0 (.val g cs) fp->fp.Nodup->(∀b∈fp,b<w.heap.size)->oI A w vs rest->
  Calls P f (v0::vs).toArray w λe w'=>∃v hw' fr jL,e=.returned v/\fF (eS A hw' w') v (F.av y) fr/\fF (eS A hw' w') v0 (.val g (F.back y)) jL/\jL.Nodup/\
   (∀b∈jL,b<w'.heap.size/\(b∈fp\/w.heap.size<=b))/\Fr (λb=>b∈fp) w w'
def ah3 (P:Program)(f:Nat)(F:zH)(y:F.R)(cs:au AC)(rest:au AV):Prop:=
 ∀(A:Rg)(w:World)(b:Nat)(vs:ie)(arr:Array Value)(T:TypeId)(fr:Nat×Nat)(hw:Nat->Nat)(fp:eo),(∀k b' o,A k b' o->b'<w.heap.size/\b'≠b/\b'∉fp)->
  w.heap[b]?=some (.cells arr T fr)->qw arr fr->bE (eS A hw w) arr.toList cs fp->fp.Nodup->b∉fp->(∀b'∈fp,b'<w.heap.size)->hw b=0->oI A w vs rest->
  Calls P f (.pointer (some ⟨b,0,none⟩)::vs).toArray w λe w'=>∃v hw' fv jb T' Qv jL,e=.returned v/\fF (eS A hw' w') v (F.av y) fv/\w'.heap[b]?=some (.cells jb T' Qv)/\qw jb Qv/\
   bE (eS A hw' w') jb.toList (F.back y) jL/\jL.Nodup/\b∉jL/\(∀b'∈jL,b'<w'.heap.size/\(b'∈fp\/w.heap.size<=b'))/\fv.Nodup/\(∀b'∈fv,b'<w'.heap.size/\(b'∈fp\/w.heap.size<=b')/\b'∉jL/\b'≠b)/\Fr (λb'=>b'=b\/b'∈fp) w w'
def agp (P:Program)(f:Nat)(F:zH)(y:F.R)(xs:au AV):Prop:=
 ∀(A:Rg)(w:World)(vs:ie),(∀k b o,A k b o->b<w.heap.size)->oI A w vs xs->
  Calls P f vs.toArray w λe w'=>∃b arr T fr hw,e=.returned (.pointer (some ⟨b,0,none⟩))/\w.heap.size<=b/\w'.heap[b]?=some (.cells arr T fr)/\qw arr fr/\bE (eS A hw w') arr.toList (F.back y) []/\Fr (λ_=>False) w w'
def lH (P:Program)(f:Nat)(F:zH):Prop:=
 ∀(xs:au AV)(y:F.R),F.fn xs=some y->
  (∃fn c,P.funcs[f]?=some fn/\fn.body=some c/\(fn.name== "runtime.NumGoroutine")=false)/\
  (F.io=false->F.bx=false->∀(A:Rg)(w:World)(vs:ie),(∀k b o,A k b o->b<w.heap.size)->oI A w vs xs->
    Calls P f vs.toArray w λe w'=>∃v hw fp,e=.returned v/\fF (eS A hw w') v (F.res y) fp/\fp.Nodup/\(∀b∈fp,w.heap.size<=b/\b<w'.heap.size)/\Fr (λ_=>False) w w')/\
  (F.io=true->∀g cs rest,xs=.val g cs::rest->anZ P f F y g cs rest)/\
  (F.bx=true->∀cs rest,xs=.val true cs::rest->ah3 P f F y cs rest)/\
  (F.pr=true->agp P f F y xs)
theorem qe {v:Value}(h:gE c v x fp)(hf:x.jl=true):fp=[]/\gE c' v x []:=by cases x with|int k n=>exact⟨h.2,h.1,rfl⟩|bool b=>exact⟨h.2,h.1,rfl⟩|str s=>exact⟨h.2,h.1,rfl⟩|fn f=>exact⟨h.2,h.1,rfl⟩|_=>cases hf
theorem HG {c':RC}:∀{vs:ie}{xs:au AC}{fp:eo},bE c vs xs fp->xs.all AC.jl=true->fp=[]/\bE c' vs xs []
 |[],[],_,h,_=>⟨h,rfl⟩
 |_::_,_::_,_,h,hf=>by obtain⟨f1,f2,rfl,h1,h2⟩:=h;simp only[bR,ah]at hf;obtain⟨rfl,k1⟩:=qe (c':=c') h1 hf.1;obtain⟨rfl,k2⟩:=HG (c':=c') h2 hf.2;exact⟨rfl,[],[],rfl,k1,k2⟩
 |[],_::_,_,h,_=>h.elim
 |_::_,[],_,h,_=>h.elim
theorem Ue:∀{ws:ie}{ts:au (Bool×au AC)}{fp:eo},fF.rk c ws ts fp->(ts.all λx=>x.2.all AC.jl)=true->fF.rk c' ws ts []
 |[],[],_,_,_=>rfl
 |_::_,_::_,_,h,hf=>by obtain⟨f1,f2,rfl,⟨vs,hv,h1⟩,h2⟩:=h;simp only[bR,ah]at hf;exact⟨[],[],rfl,⟨vs,hv,(HG h1 hf.1).2⟩,Ue h2 hf.2⟩
 |[],_::_,_,h,_=>h.elim
 |_::_,[],_,h,_=>h.elim
theorem No {v:Value}{x:AV}(h:fF c v x fp)(hf:x.jl=true):fF c' v x []:=by
 cases x with
 |val g cs=>obtain⟨vs,hv,h⟩:=h;exact⟨vs,hv,(HG h hf).2⟩
 |xn ts=>obtain⟨ws,hv,h⟩:=h;exact⟨ws,hv,Ue h hf⟩
theorem Yn {A:Rg}:∀(os ss:au AC){r:au AC}{vs us:ie}{f:eo},nQ os ss=some r->bE c vs os []->bE c us ss f->bE (eS A c.hw c.w) vs r f:=by
 intro os;induction os with
 |nil=>intro ss r vs us f h hv hu;cases ss with|cons _ _=>simp[nQ]at h|nil=>simp[nQ]at h;subst h;cases vs with|cons _ _=>exact hv.elim|nil=>cases us with|cons _ _=>exact hu.elim|nil=>exact hu
 |cons o os ih=>
  intro ss r vs us f h hv hu;cases vs with
  |nil=>exact hv.elim
  |cons v vs=>
   cases ss with
   |nil=>unfold nQ at h;split at h<;>first|contradiction|cases h
   |cons s ss=>
    cases us with
    |nil=>exact hu.elim
    |cons u us=>
     obtain⟨g1,g2,hg,hv1,Sv⟩:=hv;have e1:g1=[]:=by have:=hg.symm;simp at this;exact this.1
     have e2:g2=[]:=by have:=hg.symm;simp at this;exact this.2
     subst e1;subst e2;obtain⟨f1,f2,rfl,hu1,hu2⟩:=hu;have fl:∀{x:AC}{r'},x.jl=true->s.jl=true->o=x->nQ os ss=some r'->r=x::r'->bE (eS A c.hw c.w) (v::vs) r (f1++f2):=by rintro x r' hx hs rfl hr rfl;obtain⟨rfl,_⟩:=qe (c':=c) hu1 hs;exact⟨[],f2,rfl,(qe hv1 hx).2,ih ss hr Sv hu2⟩
     unfold nQ at h;split at h;contradiction;rename_i ep rt t e0 xs0 os' t' e xs ss' h1 h2;injection h1 with h1 Sg;subst h1;subst Sg;injection h2 with h2 TB;subst h2;subst TB;cases ht:(t'==t)with
     |false=>rw[ht]at h;cases h
     |true=>
      have:t'=t:=by simpa using ht
      subst this;rw[ht]at h;simp only[af]at h;obtain⟨r',hr,h⟩:=aO.1 h;cases h;have Zq:=(hv1.2.2.2.2 rt t' rfl).2;have Xt:=(hu1.2 t' rfl).2;have huv:u=v:=Xt.trans Zq.symm;subst huv;exact⟨f1,f2,rfl,⟨hu1.1,by simp⟩,ih _ hr Sv hu2⟩
     rename_i k n os' k' n' ss' h1 h2;injection h1 with h1 Sg;subst Sg;injection h2 with h2 TB;subst h2;subst TB;obtain⟨r',hr,h⟩:=aO.1 h;cases h;exact fl (x:=.int k n) rfl rfl h1 hr rfl;rename_i k os' k' ss' h1 h2;injection h1 with h1 Sg;subst Sg;injection h2 with h2 TB;subst h2;subst TB;obtain⟨r',hr,h⟩:=aO.1 h;cases h;exact fl (x:=.bool k) rfl rfl h1 hr rfl;rename_i k os' k' ss' h1 h2;injection h1 with h1 Sg;subst Sg;injection h2 with h2 TB;subst h2;subst TB;obtain⟨r',hr,h⟩:=aO.1 h;cases h;exact fl (x:=.str k) rfl rfl h1 hr rfl;cases h
theorem WS {v:Value}(h:gE c v x fp):gE (eS (λ_ b o=>c.S b o/\b<c.w.heap.size) (λ_=>0) c.w) v (x.asArg c.ep) []:=by
 have hS:∀{e:CT}{xs:au e.D},jn c.w c.S (.sl e) [v] xs->jn c.w (λb o=>c.S b o/\b<c.w.heap.size) (.sl e) [v] xs:=λhr=>
  jn.mono (λb o u hs hu=>⟨⟨hs,World.block_lt_of_cell? c.w _ hu⟩,hu⟩) hr
 cases x with|int k n=>exact⟨h.1,rfl⟩|bool b=>exact⟨h.1,rfl⟩|str s=>exact⟨h.1,rfl⟩|jE=>exact⟨h.1,rfl⟩|fn f=>exact⟨h.1,rfl⟩|ptr s off=>exact rfl|un=>exact rfl|bot=>exact rfl|Cd fl e y i off=>exact rfl|sl fl e xs=>cases fl with|nest _ _ _ _ _ _=>exact rfl|part _ _ _ _=>exact rfl|eY _ _ _=>exact rfl|own t=>exact⟨rfl,hS (eP.rep (λb o ho=> .inr ho) h.1)⟩|arg k=>exact⟨rfl,hS (jn.mono (λb o u hs hu=>⟨.inl ⟨k,hs⟩,hu⟩) h.2)⟩|loc ep pv=>simp only[AC.asArg];split;rename_i he;exact⟨rfl,hS (h.2.2.2.1 (by simpa using he))⟩;exact rfl
theorem K5:∀{vs:ie}{xs:au AC}{fp:eo},bE c vs xs fp->bE (eS (λ_ b o=>c.S b o/\b<c.w.heap.size) (λ_=>0) c.w) vs (xs.map (AC.asArg c.ep)) []
 |[],[],_,_=>rfl
 |_::_,_::_,_,h=>by obtain⟨f1,f2,rfl,h1,h2⟩:=h;exact⟨[],[],rfl,WS h1,K5 h2⟩
 |[],_::_,_,h=>h.elim
 |_::_,[],_,h=>h.elim
theorem aae {v:Value}{x:AV}(h:fF c v x fp):fF (eS (λ_ b o=>c.S b o/\b<c.w.heap.size) (λ_=>0) c.w) v (x.asArg c.ep) []:=by
 cases x with
 |val g cs=>obtain⟨vs,hv,h⟩:=h;exact⟨vs,hv,K5 h⟩
 |xn ts=>exact fF.bot _ _
theorem TQ (h:dN C g st a w []):∀(args:au Operand),
 oI (λ_ b o=>(cQ C g st w).S b o/\b<w.heap.size) w (args.map a.eval) (args.map λx=>((st.rd x).fresh st).asArg st.ep)
 |[]=>trivial
 |x::xs=>⟨aae (c:=cQ C g st w) (h.fresh (h.rd x)),TQ h xs⟩
theorem WT {A':Rg}{v:Value}{tag:ax Nat}(h:gE (eS A' hw c.w) v x fp)(hA:∀k b o,A' k b o->c.S b o)(Gs:∀b∈fp,c.hw b=hw b)(ht:∀t,tag=some t->c.iss t/\v=c.hdr t):gE c v (x.ED c.ep tag) fp:=by
 cases x with
 |int k n=>exact h
 |bool b=>exact h
 |str s=>exact h
 |jE=>exact h
 |fn f=>exact h
 |ptr s off=>exact h.2.2
 |un=>exact h
 |bot=>exact h
 |Cd fl e y i off=>cases fl with|own t=>exact h.elim|nest _ _ _ _ _ _=>exact h.elim|part _ _ _ _=>exact h.elim|eY _ _ _=>exact h.elim|arg _=>exact h.1|loc ep pv=>exact h.1
 |sl fl e xs=>
  cases fl with
  |nest _ _ _ _ _ _=>exact h.1
  |part _ _ _ _=>exact h.1
  |eY _ _ _=>obtain⟨_,⟨k,hk,h3⟩,_⟩:=h;exact⟨λq hq=>(by cases hq),⟨k,hk,h3.mono (λb hb=>⟨rfl,Gs b hb⟩)⟩,by simp⟩
  |own t=>exact⟨eP.mono h.1 (λb hb=>⟨rfl,Gs b hb⟩),ht⟩
  |loc ep pv=>exact h.1
  |arg _=>have hr:jn c.w c.S (.sl e) [v] xs:=jn.mono (λb o u hs hu=>⟨hA _ b o hs,hu⟩) h.2;refine⟨h.1,aU _,?_,λ_=>hr,by simp⟩;obtain⟨u,hu,k⟩:=hr;simp at hu;subst hu;rcases k with⟨⟨ad,rfl⟩,rfl⟩|⟨b,o,cap,rfl,_⟩;exact⟨_,_,_,rfl,rfl⟩;exact⟨_,_,_,rfl,rfl⟩
theorem B8 {A':Rg}{mk:Nat->ax Nat}(hA:∀k b o,A' k b o->c.S b o):∀{vs:ie}{xs:au AC}{fp:eo}(j:Nat),bE (eS A' hw c.w) vs xs fp->(∀b∈fp,c.hw b=hw b)->
 (∀i v,vs[i]?=some v->∀t,mk (j+i)=some t->c.iss t/\v=c.hdr t)->bE c vs (Jp c.ep mk j xs) fp
 |[],[],_,_,h,_,_=>h
 |v::_,_::_,_,j,h,hh,hm=>by obtain⟨f1,f2,rfl,h1,h2⟩:=h;exact⟨f1,f2,rfl,WT h1 hA (λb hb=>hh b (bt _ hb)) (λt ht=>hm 0 v rfl t ht),B8 hA (j+1) h2 (λb hb=>hh b (bk _ hb)) (λi u hu t ht=>hm (i+1) u (by simpa using hu) t (by rwa[show j+(i+1)=j+1+i by omega]))⟩
 |[],_::_,_,_,h,_,_=>h.elim
 |_::_,[],_,_,h,_,_=>h.elim
inductive Leaves (A:Rg) (hw:Nat->Nat) (w:World):List Value->List (Bool×List AC)->List Nat->List Value->Prop
 |nil:Leaves A hw w [] [] [] []
 |cons {v:Value} {vs:List Value} {g:Bool} {cs:List AC} {ts:List (Bool×List AC)} {f1 f2:List Nat} {us all:List Value} (eR:Cut g v us) (hr:bE (eS A hw w) us cs f1) (h:Leaves A hw w vs ts f2 all):
  Leaves A hw w (v::vs) ((g,cs)::ts) (f1++f2) (us++all)
theorem Kv {A:Rg}{w:World}:∀{ws:ie}{ts:au (Bool×au AC)}{fp:eo},fF.rk (eS A hw w) ws ts fp->∃all,Leaves A hw w ws ts fp all
 |[],[],_,h=>by cases h;exact⟨[],.nil⟩
 |_::_,(g,cs)::_,_,h=>by obtain⟨f1,f2,rfl,⟨us,eR,hr⟩,h2⟩:=h;obtain⟨all,EU⟩:=Kv h2;exact⟨us++all,.cons eR hr EU⟩
 |[],_::_,_,h=>h.elim
 |_::_,[],_,h=>h.elim
theorem N0 {A':Rg}{mk:Nat->ax Nat}(hA:∀k b o,A' k b o->c.S b o){ws:ie}{ts:au (Bool×au AC)}{all:ie}(h:Leaves A' hw c.w ws ts fp all): ∀j,(∀b∈fp,c.hw b=hw b)->(∀i v,all[i]?=some v->∀t,mk (j+i)=some t->c.iss t/\v=c.hdr t)->fF.rk c ws (Yj c.ep mk j ts) fp:=by induction h with|nil=>intro j _ _;exact rfl| @cons v vs g cs ts f1 f2 us all eR hr h ih=>intro j hh hm;have hl:=hr.length;refine⟨f1,f2,rfl,⟨us,eR,B8 hA j hr (λb hb=>hh b (bt _ hb)) (λi u hu t ht=>?_)⟩,ih _ (λb hb=>hh b (bk _ hb)) (λi u hu t ht=>?_)⟩;exact hm i u (by rw[bH (aE.1 hu).1];exact hu) t ht;have hl':us.length=cs.length:=hl;refine hm (us.length+i) u (by rw[bz (by omega)];simpa using hu) t ?_;rw[<-fu,hl'];exact ht
def rq (hdr:Nat->Value)(mk:Nat->ax Nat)(all:ie):Nat->Value:=λu=>if mk (u/3%4096)=some u then(all[u/3%4096]?).getD undef else hdr u
theorem Bz {all:ie}{t:Nat}(h:mX st t):rq hdr (st.gZ d) all t=hdr t:=by unfold rq;rw[aH];intro e;exact(qj e).1 h
theorem Bx {all:ie}{i t:Nat}{v:Value}(hv:all[i]?=some v)(h:st.gZ d i=some t):v=rq hdr (st.gZ d) all t:=by
 obtain⟨_,_,d',rfl,ht,hi⟩:=qj h;have afs:t/3%4096=i:=by rw[ht,JO];omega
 unfold rq;rw[afs,aF h,hv];rfl
theorem YH {vs us:ie}{seg:au AC}{f1 f2 f3:eo}{off n:Nat}(hus:us=(vs.drop off).take n)(hln:us.length=n)(r1:bE c' (vs.take off) (cs.take off) f1)(r2:bE c' us seg f2)(r3:bE c' (vs.drop (off+n)) (cs.drop (off+n)) f3): bE c' vs (dZ cs off seg) (f1++f2++f3):=by
 have Af:=r2.length;have e:vs=vs.take off++us++vs.drop (off+n):=by rw[hus,aZ,<-ec,bW,bW]
 rw[e,dZ,show seg.length=n by omega];exact bE.append (bE.append r1 r2) r3
theorem PQ:∀(os ss:au AC){r:au AC},nQ os ss=some r->ss.length=os.length:=by
 intro os
 induction os with
 |nil=>intro ss r h;cases ss with
  |nil=>rfl
  |cons _ _=>simp[nQ]at h
 |cons o os ih=>
  intro ss r h
  cases ss with
  |nil=>unfold nQ at h;split at h<;>first|contradiction|cases h
  |cons s ss=>
   unfold nQ at h
   split at h
   ·contradiction
   ·rename_i h1 h2
    injection h1 with h1 Sg;subst Sg
    injection h2 with h2 TB;subst TB
    rw[Bool.cond_eq_ite]at h
    split at h
    ·obtain⟨r',hr,h⟩:=aO.1 h
     simp[ih _ hr]
    ·cases h
   all_goals first
    |cases h
    |(rename_i h1 h2
      injection h1 with h1 Sg;subst Sg
      injection h2 with h2 TB;subst TB
      obtain⟨r',hr,h⟩:=aO.1 h
      simp[ih _ hr])
theorem Hx {A':Rg}{mk:Nat->ax Nat}{k:Bool}(hA:A' true=c.A k):∀{vs:ie}{xs:au AC}{fp:eo}(j:Nat),bE (eS A' hw c.w) vs xs fp->xs.all (AC.Ac true)=true->
 (∀b∈fp,c.hw b=hw b)->(∀i v,vs[i]?=some v->∀t,mk (j+i)=some t->c.iss t/\v=c.hdr t)->bE c vs (qd k mk j xs) fp
 |[],[],_,_,h,_,_,_=>h
 |v::_,x::_,_,j,h,jY,hh,hm=>by
  obtain⟨f1,f2,rfl,h1,h2⟩:=h;simp only[bR,ah]at jY;refine⟨f1,f2,rfl,?_,Hx hA (j+1) h2 jY.2 (λb hb=>hh b (bk _ hb)) (λi u hu t ht=>hm (i+1) u (by simpa using hu) t (by rwa[show j+(i+1)=j+1+i by omega]))⟩;have Gs:∀b∈f1,c.hw b=hw b:=λb hb=>hh b (bt _ hb);have ht:∀t,mk j=some t->c.iss t/\v=c.hdr t:=λt ht=>hm 0 v rfl t ht;have jY:=jY.1;cases x with
  |sl fl e xs=>
   cases fl with
   |own t=>exact⟨eP.mono h1.1 (λb hb=>⟨rfl,Gs b hb⟩),ht⟩
   |arg k'=>
    have hk:k'=true:=by simpa[AC.Ac]using jY
    subst hk;exact⟨h1.1,by rw[<-hA];exact h1.2⟩
   |loc _ _=>cases jY
   |nest _ _ _ _ _ _=>cases jY
   |part _ _ _ _=>cases jY
   |eY _ _ _=>cases jY
  |int _ _=>exact h1
  |bool _=>exact h1
  |str _=>exact h1
  |fn _=>exact h1
  |jE=>cases jY
  |ptr _ _=>cases jY
  |Cd _ _ _ _ _=>cases jY
  |un=>cases jY
  |bot=>cases jY
 |[],_::_,_,_,h,_,_,_=>h.elim
 |_::_,[],_,_,h,_,_,_=>h.elim
theorem JQ {A':Rg}{w:World}{k:Bool}:∀{cs:au AC},cs.all (AC.Ac k)=true->∀{c:RC}{vs:ie}{fp:eo},bE c vs cs fp->c.w=w->c.hw=hw->A' true=c.A k->bE (eS A' hw w) vs (cs.map AC.To) fp
 |[],_,c,vs,fp,h,_,_,_=>by cases vs with|nil=>exact h|cons _ _=>exact h.elim
 |x::cs,jY,c,vs,fp,h,Qz,EV,hA=>by
  cases vs with
  |nil=>exact h.elim
  |cons v vs=>
   obtain⟨f1,f2,rfl,h1,h2⟩:=h;simp only[bR,ah]at jY;refine⟨f1,f2,rfl,?_,JQ jY.2 h2 Qz EV hA⟩;have jY:=jY.1;cases x with
   |sl fl e xs=>
    cases fl with
    |own t=>exact⟨by have:=h1.1;rw[Qz,EV]at this;exact this,by simp⟩
    |arg k'=>
     have hk:k'=k:=by simpa[AC.Ac]using jY
     subst hk;exact⟨h1.1,by have:=h1.2;rw[Qz,<-hA]at this;exact this⟩
    |loc _ _=>cases jY
    |nest _ _ _ _ _ _=>cases jY
    |part _ _ _ _=>cases jY
    |eY _ _ _=>cases jY
   |int _ _=>exact h1
   |bool _=>exact h1
   |str _=>exact h1
   |fn _=>exact h1
   |jE=>cases jY
   |ptr _ _=>cases jY
   |Cd _ _ _ _ _=>cases jY
   |un=>cases jY
   |bot=>cases jY
theorem QX (h:dN C g st a w [])(s:Nat){A':Rg}(hA:∀b o,(cQ C g st w).S b o/\b<w.heap.size/\g.ej b≠some (.box s)->A' false b o):∀(xs:au Operand),xs.all (Dj st)=true->
 oI A' w (xs.map a.eval) (xs.map (Cl st))
 |[],_=>trivial
 |x::xs,hx=>by
  simp only[bR,ah]at hx;refine⟨?_,QX h s hA xs hx.2⟩;have hx:=hx.1;cases x with
  |const _=>exact No (h.rd _) hx
  |func _=>exact No (h.rd _) hx
  |global _=>exact No (h.rd _) hx
  |tmp t=>
   have fU:∀(t0:Nat){e:CT}{v:Value}{xs:au e.D}{fp:eo},eP g.hw w (.sl e) [v] xs fp->(∀b∈fp,g.ej b=some (.slot t0))->jn w (A' false) (.sl e) [v] xs:=by
    intro t0 e v xs fp h1 hl;have h3:eP (λb=>if b∈fp then g.hw b else 0) w (.sl e) [v] xs fp:=eP.mono h1 (λb hb=>⟨rfl,by simp[hb]⟩)
    exact eP.rep (λb o ho=>by
     by_cases hb:b∈fp;have ho:o<g.hw b:=by simpa[hb]using ho
     have QA:=hl b hb;exact hA b o ⟨.inr ho,(h.fR b _ QA).1,by rw[QA];simp⟩;simp[hb]at ho) h3
   obtain⟨fp,hr,hn,hl⟩:=h.slot t;simp only[Dj]at hx;show fF _ (a.tmps.getD t undef) (Cl st (.tmp t)) _;simp only[Cl];cases hv:st.get t with
   |xn _=>rw[hv]at hx;cases hx
   |val gg cs=>
    rw[hv]at hx hr;simp only at hx;obtain⟨vs,eR,hr⟩:=hr
    have key:∀(cs:au AC)(vs:ie)(fp:eo),(cs.map st.PF).all AC.J9=true->(∀b∈fp,g.ej b=some (.slot t))->bE (cQ C g st w) vs cs fp->
     bE (eS A' (λ_=>0) w) vs (cs.map st.PF) []:=by
     intro cs
     induction cs with
     |nil=>intro vs fp _ _ h;cases vs with
      |nil=>rfl
      |cons _ _=>exact h.elim
     |cons c cs ih=>
      intro vs fp hc hl hr
      cases vs with
      |nil=>exact hr.elim
      |cons v vs=>
       obtain⟨f1,f2,rfl,h1,h2⟩:=hr
       simp only[List.map_cons,bR,ah]at hc
       refine⟨[],[],rfl,?_,ih vs f2 hc.2 (λb hb=>hl b (bk _ hb)) h2⟩
       have hc:=hc.1
       cases c with
       |sl fl e xs=>
        cases fl with
        |own tag=>exact⟨rfl,fU t h1.1 (λb hb=>hl b (bt _ hb))⟩
        |arg k=>exact⟨rfl,jn.mono (λb o u hs hu=>⟨hA b o ⟨.inl ⟨k,hs⟩,World.block_lt_of_cell? w _ hu,λhb=>h.NY hb k o hs⟩,hu⟩) h1.2⟩
        |loc ep pv=>
         cases pv with
         |none=>cases hc
         |some q=>
          obtain⟨r,tg⟩:=q
          cases r with
          |box _ _=>cases hc
          |io _=>cases hc
          |slot b j=>
           have Sv:=(h1.2.2.2.2 (.slot b j) tg rfl).2
           simp only[AS.PF]at hc⊢
           cases UF:st.eL (.slot b j)with
           |none=>rw[UF]at hc;cases hc
           |some c0=>
            rw[UF]at hc
            split at hc
            ·rename_i t' e' ys Zk
             split at hc
             ·rename_i ht
              subst ht
              cases Zk
              rw[aF rfl]
              obtain⟨fp2,Py,_,Af⟩:=h.slot b
              simp only[AS.eL]at UF
              cases hgb:st.get b with
              |xn _=>rw[hgb]at UF;cases UF
              |val g2 E0=>
               rw[hgb]at UF Py
               simp only at UF
               obtain⟨vs2,_,Py⟩:=Py
               rw[dJ]at UF
               obtain⟨v2,f3,_,NH,qs⟩:=Py.get j _ UF
               have aoE:v=v2:=by have:=(NH.2 t' rfl).2;rw[Sv,this]
               rw[aoE]
               exact⟨rfl,fU b NH.1 (λb' gQ=>Af b' (qs b' gQ))⟩
             ·cases hc
            ·cases hc
        |nest _ _ _ _ _ _=>cases hc
        |part _ _ _ _=>cases hc
        |eY _ _ _=>cases hc
       |int _ _=>exact⟨h1.1,rfl⟩
       |bool _=>exact⟨h1.1,rfl⟩
       |str _=>exact⟨h1.1,rfl⟩
       |fn _=>exact⟨h1.1,rfl⟩
       |jE=>cases hc
       |ptr _ _=>cases hc
       |Cd _ _ _ _ _=>cases hc
       |un=>cases hc
       |bot=>cases hc
    exact⟨vs,eR,key cs vs fp hx hl hr⟩
theorem dN.afb (h:dN C g st a w [])(s:Nat)(jX:st.boxes[s]?=some (some cs)): ∃arr T fr fp,w.heap[g.β s]?=some (.cells arr T fr)/\qw arr fr/\bE (cQ C g st w) arr.toList cs fp/\fp.Nodup/\g.β s∉fp/\(∀b∈fp,b<w.heap.size)/\g.hw (g.β s)=0/\(∀b,b=g.β s\/b∈fp->g.ej b=some (.box s))/\ ∀(w':World)(hw':Nat->Nat)(jb:Array Value)(T':TypeId)(Qv:Nat×Nat)(rf:au AC)(jL fv:eo)(A':Rg)(k:Bool),Fr (λb=>b=g.β s\/b∈fp) w w'->w'.heap[g.β s]?=some (.cells jb T' Qv)->qw jb Qv-> A' true=C.A k->bE (eS A' hw' w') jb.toList rf jL->rf.all (AC.Ac true)=true->jL.Nodup->g.β s∉jL->(∀b∈jL,b<w'.heap.size/\(b∈fp\/w.heap.size<=b))-> (∀b∈fv,b<w'.heap.size/\(b∈fp\/w.heap.size<=b)/\b∉jL/\b≠g.β s)-> ∃g',dN C g' (Y9 st s (qd k (st.gZ (some s)) 0 rf)) a w' []/\(∀b∈fv,g'.ej b=some (.hand 0)/\g'.hw b=hw' b)/\∀b,b<w.heap.size->g.ej b≠some (.box s)->g'.hw b=g.hw b:=by
 obtain⟨arr,T,fr,fp,kz,tw,hr,hn,xx,hl,Ia,Ic⟩:=h.boxes s cs jX;have As:s<st.boxes.length:=(aE.1 jX).1;have NA:∀b,b=g.β s\/b∈fp->g.ej b=some (.box s):=by rintro b (rfl|hb);exact Ia;exact hl b hb
 refine⟨arr,T,fr,fp,kz,tw,hr,hn,xx,λb hb=>(h.fR b _ (hl b hb)).1,Ic,NA,?_⟩;intro w' hw' jb T' Qv rf jL fv A' k jz IH UI hA' vn ahm Dc IJ Kj Lj;let bx':au AC:=qd k (st.gZ (some s)) 0 rf;let bM:AS:=Y9 st s bx';let hw2:Nat->Nat:=λb=>if b∈jL\/b∈fv then hw' b else if b=g.β s then 0 else g.hw b
 let adR:Nat->ax jI:=λb=>if b=g.β s\/b∈jL then some (.box s) else if b∈fv then some (.hand 0) else g.ej b
 let g':Gh:=⟨hw2,g.β,adR,rq g.hdr (st.gZ (some s)) jb.toList⟩
 have uZ:bM.boxes=st.boxes.set s (some bx'):=by show((st.eE s (some bx')).fi (some s)).boxes=_;rw[Ca,kv]
 have NJ:bM.slots=st.slots:=by show((st.eE s (some bx')).fi (some s)).slots=_;rw[vC];rfl
 have Nz:bM.io=st.io:=by show((st.eE s (some bx')).fi (some s)).io=_;rw[I8];rfl
 have II:∀t,mX st t->mX bM t:=λt ht=>by have h1:mX (st.eE s (some bx')) t:=ht;exact D4 (d:=some s) h1
 have hpr:∀t,jm st t->jm bM t:=by rintro t ⟨c0,Zk⟩;by_cases ur:s=t;subst ur;exact⟨bx',by rw[uZ];simp[As]⟩;exact⟨c0,by rw[uZ,aR ur];exact Zk⟩
 have UD:∀b,b<w.heap.size->g.ej b≠some (.box s)->b∉jL/\b∉fv/\b≠g.β s:=by intro b hb QA;refine⟨λhm=>?_,λhm=>?_,λhm=>QA (NA b (.inl hm))⟩;rcases(Kj b hm).2 with h2|h2;exact QA (NA b (.inr h2));omega;rcases(Lj b hm).2.1 with h2|h2;exact QA (NA b (.inr h2));omega
 have tH:∀b x,x≠ .box s->g.ej b=some x->adR b=some x/\w'.heap[b]?=w.heap[b]?/\hw2 b=g.hw b:=by intro b x hx hb;have G5:=(h.fR b x hb).1;have hnm:¬(b=g.β s\/b∈fp):=λhm=>hx (by have:=NA b hm;rw[hb]at this;simpa using this);obtain⟨n1,n2,n3⟩:=UD b G5 (by rw[hb];simpa using hx);refine⟨?_,jz.block b G5 hnm,?_⟩;show(if b=g.β s\/b∈jL then _ else if b∈fv then _ else _)=_;rw[aH (by rintro(h1|h1);exact n3 h1;exact n1 h1),aH n2];exact hb;show(if b∈jL\/b∈fv then _ else if b=g.β s then _ else _)=_;rw[aH (by rintro(h1|h1);exact n1 h1;exact n2 h1),aH n3]
 have hcA:∀k b o u,C.A k b o->w.cell? ⟨b,o,none⟩=some u->w'.cell? ⟨b,o,none⟩=some u:=by intro k b o u hA hu;have hb:b<w.heap.size:=World.block_lt_of_cell? w _ hu;rw[World.cell?_of_block (a:=⟨b,o,none⟩) (jz.block b hb (λhm=>h.NY (NA b hm) k o hA))];exact hu
 have hle:(cQ C g st w).Le (cQ C g' bM w'):=⟨rfl,λt ht=>⟨II t ht,Bz ht⟩,hcA,Nat.le_succ _,λt ht=>⟨hpr t ht,rfl⟩,λhe=>absurd he (Nat.succ_ne_self _)⟩
 refine⟨g',h.step (λx=>x≠ .box s) hle h.defers ?_ ?_ ?_ ?_ (λb x hk hb=>tH b x hk hb) ?_ ?_ (λk u bv hk=>by simp at hk) (.inl ⟨by simp,Nz⟩),λb hb=>?_,λb hb QA=>?_⟩;rw[NJ];exact h.size;rw[NJ,uZ,aB];exact h.bsize;refine h.frame.trans jz (λb hb hm=>?_);rcases(h.fR b _ (NA b hm)).2 with h2|h2;omega;exact h2;intro b x hx;have B7:(if b=g.β s\/b∈jL then some (jI.box s) else if b∈fv then some (.hand 0) else g.ej b)=some x:=hx;have hz:=jz.size;have hold:b∈fp\/w.heap.size<=b->C.w0.heap.size<=b\/C.M b:=by rintro(h2|h2);exact(h.fR b _ (hl b h2)).2;exact .inl (aP h.frame.size h2)
 split at B7;rename_i hm;rcases hm with rfl|hm;have:=h.fR _ _ Ia;exact⟨by omega,this.2⟩;exact⟨(Kj b hm).1,hold (Kj b hm).2⟩;split at B7;rename_i hm;exact⟨(Lj b hm).1,hold (Lj b hm).2.1⟩;have:=h.fR b x B7;exact⟨by omega,this.2⟩;intro i av hi;rw[NJ]at hi;exact .inl ⟨by simp,hi,rfl⟩;intro t E0 hb;rw[uZ]at hb;by_cases ur:t=s;subst ur;rw[br]at hb;simp only[cp,As]at hb;simp at hb;subst hb;refine .inr ⟨jb,T',Qv,jL,IH,UI,?_,Dc,IJ,λb hb=>?_,?_,?_⟩
 have:=Hx (c:=cQ C g' bM w') (A':=A') (hw:=hw') (mk:=st.gZ (some t)) (k:=k) hA' 0 (vs:=jb.toList) (xs:=rf) (fp:=jL) vn ahm
  (λb hb=>by show(if b∈jL\/b∈fv then _ else _)=_;rw[aF (.inl hb)])
  (λi u hu q hq=>by
   rw[cl]at hq;have hm:=qj hq;have hm2:mX bM q:=by have h1:st.gZ (some t) i=some q:=hq;have h2:(st.eE t (some bx')).gZ (some t) i=some q:=h1;exact(qj h2).2.1
   exact⟨hm2,Bx hu hq⟩)
 exact this;show(if b=g.β t\/b∈jL then _ else _)=_;rw[aF (.inr hb)];show(if g.β t=g.β t\/g.β t∈jL then _ else _)=_;rw[aF (.inl rfl)];show(if g.β t∈jL\/g.β t∈fv then _ else if g.β t=g.β t then _ else _)=_;rw[aH (by rintro(h1|h1);exact IJ h1;exact(Lj _ h1).2.2.2 rfl),aF rfl];rw[aR (cY ur)]at hb;exact .inl ⟨by simpa using ur,hb,rfl⟩;obtain⟨_,_,h3,h4⟩:=Lj b hb;refine⟨?_,?_⟩;show(if b=g.β s\/b∈jL then _ else if b∈fv then _ else _)=_;rw[aH (by rintro(h1|h1);exact h4 h1;exact h3 h1),aF hb];show(if b∈jL\/b∈fv then _ else _)=_;rw[aF (.inr hb)];obtain⟨n1,n2,n3⟩:=UD b hb QA;show(if b∈jL\/b∈fv then _ else if b=g.β s then _ else _)=_;rw[aH (by rintro(h1|h1);exact n1 h1;exact n2 h1),aH n3]
theorem RT:∀{vs:ie}{cs:au AC}{fp:eo},bE c vs cs fp->cs.all AC.Ii=true->fp=[]
 |[],[],_,h,_=>h
 |[],_::_,_,h,_=>h.elim
 |_::_,[],_,h,_=>h.elim
 |v::vs,x::cs,fp,h,hx=>by
  obtain⟨f1,f2,rfl,h1,h2⟩:=h;simp only[bR,ah]at hx;rw[RT h2 hx.2,bA];have hx:=hx.1;cases x with
  |sl fl e xs=>cases fl<;>first|exact h1.1|cases hx
  |int k n=>exact h1.2
  |bool b=>exact h1.2
  |str s=>exact h1.2
  |fn f=>exact h1.2
  |jE=>cases hx
  |ptr _ _=>cases hx
  |Cd _ _ _ _ _=>cases hx
  |un=>cases hx
  |bot=>cases hx
theorem dN.acO (h:dN C g st a w [])(s:Nat)(jX:st.boxes[s]?=some (some cs))(Ki:cs.all AC.Ii=true): ∀(w':World)(hw':Nat->Nat)(jb:Array Value)(T':TypeId)(Qv:Nat×Nat)(rf:au AC)(jL fv:eo)(A':Rg)(k:Bool),Fr (λb=>b=g.β s) w w'->w'.heap[g.β s]?=some (.cells jb T' Qv)->qw jb Qv-> A' true=C.A k->bE (eS A' hw' w') jb.toList rf jL->rf.all (AC.Ac true)=true->jL.Nodup->g.β s∉jL->(∀b∈jL,b<w'.heap.size/\w.heap.size<=b)-> (∀b∈fv,b<w'.heap.size/\w.heap.size<=b/\b∉jL/\b≠g.β s)-> ∃g',dN C g' (st.eE s (some (qd k (λ_=>none) 0 rf))) a w' []/\(∀b∈fv,g'.ej b=some (.hand 0)/\g'.hw b=hw' b)/\∀b,b<w.heap.size->g.ej b≠some (.box s)->g'.hw b=g.hw b:=by
 obtain⟨arr,T,fr,fp,kz,tw,hr,hn,xx,hl,Ia,Ic⟩:=h.boxes s cs jX;have ag8:fp=[]:=RT hr Ki;subst ag8;have As:s<st.boxes.length:=(aE.1 jX).1;intro w' hw' jb T' Qv rf jL fv A' k jz IH UI hA' vn ahm Dc IJ Kj Lj;let bx':au AC:=qd k (λ_=>none) 0 rf;let bM:AS:=st.eE s (some bx');let hw2:Nat->Nat:=λb=>if b∈jL\/b∈fv then hw' b else if b=g.β s then 0 else g.hw b
 let adR:Nat->ax jI:=λb=>if b=g.β s\/b∈jL then some (.box s) else if b∈fv then some (.hand 0) else g.ej b
 let g':Gh:=⟨hw2,g.β,adR,g.hdr⟩
 have uZ:bM.boxes=st.boxes.set s (some bx'):=by show(st.eE s (some bx')).boxes=_;rw[kv]
 have hpr:∀t,jm st t->jm bM t:=by rintro t ⟨c0,Zk⟩;by_cases ur:s=t;subst ur;exact⟨bx',by rw[uZ];simp[As]⟩;exact⟨c0,by rw[uZ,aR ur];exact Zk⟩
 have hold:∀b,b<w.heap.size->b∉jL/\b∉fv:=by intro b hb;refine⟨λhm=>?_,λhm=>?_⟩;have:=(Kj b hm).2;omega;have:=(Lj b hm).2.1;omega
 have Gs:∀b,b<w.heap.size->b≠g.β s->hw2 b=g.hw b:=by intro b hb DT;show(if b∈jL\/b∈fv then _ else if b=g.β s then _ else _)=_;rw[aH (by rintro(h1|h1);exact(hold b hb).1 h1;exact(hold b hb).2 h1),aH DT]
 have tH:∀b x,x≠ .box s->g.ej b=some x->adR b=some x/\w'.heap[b]?=w.heap[b]?/\hw2 b=g.hw b:=by intro b x hx hb;have G5:=(h.fR b x hb).1;have DT:b≠g.β s:=λhm=>hx (by rw[hm,Ia]at hb;simpa using hb.symm);refine⟨?_,jz.block b G5 DT,Gs b G5 DT⟩;show(if b=g.β s\/b∈jL then _ else if b∈fv then _ else _)=_;rw[aH (by rintro(h1|h1);exact DT h1;exact(hold b G5).1 h1),aH (hold b G5).2];exact hb
 have hcA:∀k b o u,C.A k b o->w.cell? ⟨b,o,none⟩=some u->w'.cell? ⟨b,o,none⟩=some u:=by intro k b o u hA hu;have hb:b<w.heap.size:=World.block_lt_of_cell? w _ hu;rw[World.cell?_of_block (a:=⟨b,o,none⟩) (jz.block b hb (λhm=>h.NY (by rw[hm];exact Ia) k o hA))];exact hu
 have hle:(cQ C g st w).Le (cQ C g' bM w'):=by
  refine⟨rfl,λt ht=>⟨ht,rfl⟩,hcA,aU _,λt ht=>⟨hpr t ht,rfl⟩,λ_ b o u ho hu=>?_⟩;have hb:b<w.heap.size:=World.block_lt_of_cell? w _ hu;have L5:o<g.hw b:=ho;have DT:b≠g.β s:=λe=>by rw[e,Ic]at L5;omega
  refine⟨by show o<hw2 b;rw[Gs b hb DT];exact L5,?_⟩;show w'.cell? ⟨b,o,none⟩=some u;rw[World.cell?_of_block (a:=⟨b,o,none⟩) (jz.block b hb DT)];exact hu
 refine⟨g',h.step (λx=>x≠ .box s) hle h.defers h.size ?_ ?_ ?_ (λb x hk hb=>tH b x hk hb) ?_ ?_ (λk u bv hk=>by simp at hk) (.inl ⟨by simp,rfl⟩),λb hb=>?_,λb hb QA=>?_⟩;rw[uZ,aB];exact h.bsize;refine h.frame.trans jz (λb hb hm=>?_);have hm:b=g.β s:=hm;subst hm;rcases(h.fR _ _ Ia).2 with h2|h2;omega;exact h2;intro b x hx;have B7:(if b=g.β s\/b∈jL then some (jI.box s) else if b∈fv then some (.hand 0) else g.ej b)=some x:=hx;have hz:=jz.size;split at B7;rename_i hm;rcases hm with rfl|hm;have:=h.fR _ _ Ia;exact⟨by omega,this.2⟩;exact⟨(Kj b hm).1,.inl (aP h.frame.size (Kj b hm).2)⟩;split at B7;rename_i hm;exact⟨(Lj b hm).1,.inl (aP h.frame.size (Lj b hm).2.1)⟩;have:=h.fR b x B7;exact⟨by omega,this.2⟩;intro i av hi;exact .inl ⟨by simp,hi,rfl⟩;intro t E0 hb;rw[uZ]at hb;by_cases ur:t=s;subst ur;rw[br]at hb;simp only[cp,As]at hb;simp at hb;subst hb;refine .inr ⟨jb,T',Qv,jL,IH,UI,?_,Dc,IJ,λb hb=>?_,?_,?_⟩;have:=Hx (c:=cQ C g' bM w') (A':=A') (hw:=hw') (mk:=λ_=>none) (k:=k) hA' 0 (vs:=jb.toList) (xs:=rf) (fp:=jL) vn ahm (λb hb=>by show(if b∈jL\/b∈fv then _ else _)=_;rw[aF (.inl hb)]) (λi u hu q hq=>by cases hq);exact this;show(if b=g.β t\/b∈jL then _ else _)=_;rw[aF (.inr hb)];show(if g.β t=g.β t\/g.β t∈jL then _ else _)=_;rw[aF (.inl rfl)];show(if g.β t∈jL\/g.β t∈fv then _ else if g.β t=g.β t then _ else _)=_;rw[aH (by rintro(h1|h1);exact IJ h1;exact(Lj _ h1).2.2.2 rfl),aF rfl];rw[aR (cY ur)]at hb;exact .inl ⟨by simpa using ur,hb,rfl⟩;obtain⟨_,_,h3,h4⟩:=Lj b hb;refine⟨?_,?_⟩;show(if b=g.β s\/b∈jL then _ else if b∈fv then _ else _)=_;rw[aH (by rintro(h1|h1);exact h4 h1;exact h3 h1),aF hb];show(if b∈jL\/b∈fv then _ else _)=_;rw[aF (.inr hb)];exact Gs b hb (λe=>QA (by rw[e];exact Ia))
theorem agW (B5:∀f,lH P f (Γ f)){o':Oper}(ho:o'.op=.call {callee:=.value f,args,argTypes:=ts})(hg:dN C g st a w []){k:Nat}(hf:st.rd f=.val false [.fn k])(jX:(Γ k).bx=true){K:AS->ax R}(hk:vK Γ o' k args.toList st K=some r)(next:Act->World->Prop)(Q:Exit->Act->World->Prop)(gz:∀bM a' w',oz C bM a' w'->K bM=some r->next a' w'):o'.wp P a w next Q:=by
 have Lj:=hg.rd f;rw[hf]at Lj;have Lj:=(ew Lj).1;unfold vK at hk;split at hk
 ·rename_i x0 xs fy;split at hk
  ·rename_i s hx0;split at hk
   ·rename_i cs TD;have hb:st.boxes[s]?=some (some cs):=by rw[dJ]at TD;cases hq:st.boxes[s]? with|none=>rw[hq]at TD;simp at TD|some q=>rw[hq]at TD;simp at TD;rw[TD]
    cases hc:(cs.all (AC.Ac (EC cs))&&xs.all (Dj st))with
    |false=>rw[hc]at hk;cases hk
    |true=>
     rw[hc]at hk;simp only[af]at hk;simp only[ah]at hc;cases fG:(Γ k).fn (.val true (cs.map AC.To)::xs.map (Cl st))with
     |none=>rw[fG]at hk;cases hk
     |some y=>
      rw[fG]at hk;simp only[aa]at hk;cases Xn:(((Γ k).back y).all (AC.Ac true)&&((Γ k).av y).abv)with
      |false=>rw[Xn]at hk;cases hk
      |true=>
       rw[Xn]at hk;simp only[af]at hk;simp only[ah]at Xn;obtain⟨⟨fn,c,Uw,Ut,BB⟩,_,_,CI,_⟩:=B5 k _ y fG;have CI:=CI jX _ _ rfl;have NG:=hg.rd x0;rw[hx0]at NG;have vG:=Cq NG;obtain⟨arr,T,fr,fp,kz,tw,ed,hn,xx,gB,Ic,EX,ri⟩:=hg.afb s hb;let A':Rg:=λq b o=>bif q then C.A (EC cs) b o else((cQ C g st w).S b o/\b<w.heap.size/\g.ej b≠some (.box s))
       have hA':∀q b' o,A' q b' o->b'<w.heap.size/\b'≠g.β s/\b'∉fp:=by
        intro q b' o hq;have key:b'<w.heap.size/\g.ej b'≠some (.box s):=by cases q with|true=>have hq:C.A (EC cs) b' o:=hq;exact⟨Nat.lt_of_lt_of_le (C.hA _ _ _ hq).1 hg.frame.size,λhb=>hg.NY hb _ o hq⟩|false=>exact hq.2
        exact⟨key.1,λe=>key.2 (EX b' (.inl e)),λe=>key.2 (EX b' (.inr e))⟩
       have Lh:=CI A' w (g.β s) (xs.map a.eval) arr T fr g.hw fp hA' kz tw (JQ (k:=EC cs) hc.1 ed rfl rfl rfl) hn xx gB Ic (QX hg s (λb o h=>h) xs hc.2);have aoA:a.eval x0=.pointer (some ⟨g.β s,0,none⟩):=vG;have ag4:(Value.pointer (some ⟨g.β s,0,none⟩)::xs.map a.eval).toArray=args.map a.eval:=by apply eO;simp[fy,aoA]
       rw[ag4]at Lh;have dX:(execOp a.eval o').run P w=.ok (.enter k (args.map a.eval)) w:=by simp[execOp,ho,resolve,Lj,Deferred.ofValue,invoke,callFunc,Uw,Ut];simpa using BB
       unfold Oper.wp;rw[dX,Oper.upon_enter];refine Lh.mono ?_;rintro e w' ⟨v,hw',fv,jb,T',Qv,jL,rfl,QC,IH,UI,vn,Dc,IJ,Kj,hnv,adm,jz⟩;show next (a.put o'.dst v) w'
       have tail:∀(st1:AS)(g':Gh),dN C g' st1 a w' []->(∀b∈fv,g'.ej b=some (.hand 0)/\g'.hw b=hw' b)->(∀b,b<w.heap.size->g.ej b≠some (.box s)->g'.hw b=g.hw b)->
        K ((st1.fi o'.dst).put o'.dst (((Γ k).av y).ED st1.ep (st1.gZ o'.dst)))=some r->next (a.put o'.dst v) w':=by
        intro st1 g' oy hlv hold hk
        have hAS:∀(hd:Nat->Value)(q:Bool)(b o:Nat),A' q b o->(cQ C {g' with hdr:=hd} (st1.fi o'.dst) w').S b o:=by intro hd q b o hq;cases q with|true=>exact .inl ⟨_,hq⟩|false=>rcases hq.1 with hs|hs;exact .inl hs;exact .inr (by show o<g'.hw b;rw[hold b hq.2.1 hq.2.2];exact hs)
        have adk:∀b∈fv,g'.hw b=hw' b:=λb hb=>(hlv b hb).2
        have vn:∃hd,(∀t,mX st1 t->hd t=g'.hdr t)/\fF (cQ C {g' with hdr:=hd} (st1.fi o'.dst) w') v (((Γ k).av y).ED st1.ep (st1.gZ o'.dst)) fv:=by
         generalize (Γ k).av y=y at QC;cases y with
         |val gg cs=>obtain⟨vs,eR,hr⟩:=QC;refine⟨rq g'.hdr (st1.gZ o'.dst) vs,λt ht=>Bz ht,vs,eR,?_⟩;have:=B8 (c:=cQ C {g' with hdr:=rq g'.hdr (st1.gZ o'.dst) vs} (st1.fi o'.dst) w') (mk:=st1.gZ o'.dst) (hAS _) 0 hr adk (λi u hu t ht=>by rw[cl]at ht;exact⟨(qj ht).2.1,Bx hu ht⟩);have zM:(cQ C {g' with hdr:=rq g'.hdr (st1.gZ o'.dst) vs} (st1.fi o'.dst) w').ep=st1.ep:=Bs;rw[zM]at this;exact this
         |xn ts=>obtain⟨ws,hv,hr⟩:=QC;obtain⟨all,EU⟩:=Kv hr;refine⟨rq g'.hdr (st1.gZ o'.dst) all,λt ht=>Bz ht,ws,hv,?_⟩;have:=N0 (c:=cQ C {g' with hdr:=rq g'.hdr (st1.gZ o'.dst) all} (st1.fi o'.dst) w') (mk:=st1.gZ o'.dst) (hAS _) EU 0 adk (λi u hu t ht=>by rw[cl]at ht;exact⟨(qj ht).2.1,Bx hu ht⟩);have zM:(cQ C {g' with hdr:=rq g'.hdr (st1.gZ o'.dst) all} (st1.fi o'.dst) w').ep=st1.ep:=Bs;rw[zM]at this;exact this
        obtain⟨hd,hhd,vn⟩:=vn
        obtain⟨g2,HM⟩:=oy.On o'.dst (hw':=g'.hw) (hdr':=hd) (fp:=fv) (st1:=st1.fi o'.dst) I8 vC Ca Bs (λt ht=>⟨D4 ht,hhd t ht⟩)
         (Fr.refl _ _) (λ_ _ _ _=>rfl) (λ_ _ _ ho hu=>⟨ho,hu⟩) vn hnv (λb hb=>⟨(adm b hb).1,.inl (by rw[(hlv b hb).1];rfl)⟩)
        exact gz _ _ _ ⟨g2,HM⟩ hk
       cases hcur:((Γ k).cur&&cs.all AC.Ii)with
       |false=>rw[hcur]at hk;obtain⟨g',oy,hlv,hold⟩:=ri w' hw' jb T' Qv ((Γ k).back y) jL fv A' (EC cs) jz IH UI rfl vn Xn.1 Dc IJ Kj adm;exact tail _ g' oy hlv hold hk
       |true=>rw[hcur]at hk;simp only[ah]at hcur;have ag8:fp=[]:=RT ed hcur.2;subst ag8;obtain⟨g',oy,hlv,hold⟩:=hg.acO s hb hcur.2 w' hw' jb T' Qv ((Γ k).back y) jL fv A' (EC cs) ⟨jz.os,jz.tape,jz.output,jz.size,λb hb hm=>jz.block b hb (λhh=>hm (hh.resolve_right (by simp)))⟩ IH UI rfl vn Xn.1 Dc IJ (λb hb=>⟨(Kj b hb).1,(Kj b hb).2.resolve_left (by simp)⟩) (λb hb=>⟨(adm b hb).1,(adm b hb).2.1.resolve_left (by simp),(adm b hb).2.2⟩);exact tail _ g' oy hlv hold hk
   cases hk
  cases hk
 cases hk
theorem arg_val (hA:c'.A=c.A)(hw:c'.w=c.w){v:Value}{x:AV}(h:fF c v x fp)(hx:x.J9=true):fp=[]/\fF c' v x []:=by
 cases x with
 |xn _=>cases hx
 |val g cs=>
  obtain⟨vs,eR,h⟩:=h
  have key:∀(cs:au AC)(vs:ie)(fp:eo),bE c vs cs fp->cs.all AC.J9=true->fp=[]/\bE c' vs cs []:=by
   intro cs
   induction cs with
   |nil=>intro vs fp h _;cases vs with
    |nil=>exact⟨h,rfl⟩
    |cons _ _=>exact h.elim
   |cons x cs ih=>
    intro vs fp h hx
    cases vs with
    |nil=>exact h.elim
    |cons v vs=>
     obtain⟨f1,f2,rfl,h1,h2⟩:=h
     simp only[bR,ah]at hx
     obtain⟨rfl,k2⟩:=ih vs f2 h2 hx.2
     have hx:=hx.1
     have one:f1=[]/\gE c' v x []:=by
      cases x with
      |sl fl e xs=>cases fl with|arg k=>exact⟨h1.1,rfl,by rw[hA,hw];exact h1.2⟩|own _=>cases hx|loc _ _=>cases hx|nest _ _ _ _ _ _=>cases hx|part _ _ _ _=>cases hx|eY _ _ _=>cases hx
      |int _ _=>exact qe h1 rfl
      |bool _=>exact qe h1 rfl
      |str _=>exact qe h1 rfl
      |fn _=>exact qe h1 rfl
      |jE=>cases hx
      |ptr _ _=>cases hx
      |Cd _ _ _ _ _=>cases hx
      |un=>cases hx
      |bot=>cases hx
     obtain⟨rfl,k1⟩:=one
     exact⟨rfl,[],[],rfl,k1,k2⟩
  obtain⟨e,k⟩:=key cs vs fp h hx;exact⟨e,vs,eR,k⟩
theorem TP (h:dN C g st a w []):∀(xs:au Operand),xs.all (λx=>(st.rd x).J9)=true->oI C.A w (xs.map a.eval) (xs.map st.rd)
 |[],_=>trivial
 |x::xs,hf=>by simp only[bR,ah]at hf;exact⟨(arg_val (c:=cQ C g st w) (c':=eS C.A (λ_=>0) w) rfl rfl (h.rd x) hf.1).2,TP h xs hf.2⟩
theorem ahD (B5:∀f,lH P f (Γ f)){o':Oper}(ho:o'.op=.call {callee:=.value f,args,argTypes:=ts})(hg:dN C g st a w []){k:Nat}(hf:st.rd f=.val false [.fn k])(hpr:(Γ k).pr=true){K:AS->ax R}(hk:abw Γ o' k args.toList st K=some r)(next:Act->World->Prop)(Q:Exit->Act->World->Prop)(gz:∀bM a' w',oz C bM a' w'->K bM=some r->next a' w'):o'.wp P a w next Q:=by
 have Lj:=hg.rd f;rw[hf]at Lj;have Lj:=(ew Lj).1;unfold abw at hk;split at hk
 ·rename_i d hd;split at hk
  ·rename_i Ib;cases hc:args.toList.all (λx=>(st.rd x).J9)with
   |false=>rw[hc]at hk;cases hk
   |true=>
    rw[hc]at hk;simp only[af]at hk;cases fG:(Γ k).fn (args.toList.map st.rd)with
    |none=>rw[fG]at hk;cases hk
    |some y=>
     rw[fG]at hk;simp only[aa]at hk;cases Xn:((Γ k).back y).all AC.J9 with
     |false=>rw[Xn]at hk;cases hk
     |true=>
      rw[Xn]at hk;simp only[af]at hk;obtain⟨⟨fn,c,Uw,Ut,BB⟩,_,_,_,CI⟩:=B5 k _ y fG;have Lh:=CI hpr C.A w (args.toList.map a.eval) (λq b o hq=>Nat.lt_of_lt_of_le (C.hA q b o hq).1 hg.frame.size) (TP hg _ hc);have fy:(args.toList.map a.eval).toArray=args.map a.eval:=by apply eO;simp
      rw[fy]at Lh;have dX:(execOp a.eval o').run P w=.ok (.enter k (args.map a.eval)) w:=by simp[execOp,ho,resolve,Lj,Deferred.ofValue,invoke,callFunc,Uw,Ut];simpa using BB
      unfold Oper.wp;rw[dX,Oper.upon_enter];refine Lh.mono ?_;rintro e w' ⟨b,arr,T,fr,hw,rfl,hb,kz,tw,ed,jz⟩;show next (a.put o'.dst (.pointer (some ⟨b,0,none⟩))) w'
      rw[dJ]at Ib;have G5:=mc kz;have DT:∀b' x,g.ej b'=some x->b'≠b:=λb' x hx e=>by have:=(hg.fR b' x hx).1;omega
      have hr1:bE ⟨λb'=>if b'=b then 0 else g.hw b',λt=>if t=d then b else g.β t,C.A,g.hdr,mX st,st.ep,jm st,w'⟩ arr.toList ((Γ k).back y) []:=by
       have hv:fF (eS C.A hw w') (.agg arr.toList.toArray) (.val true ((Γ k).back y)) []:=⟨arr.toList,rfl,ed⟩
       obtain⟨_,vs,eR,h⟩:=arg_val (c:=eS C.A hw w') (c':=⟨λb'=>if b'=b then 0 else g.hw b',λt=>if t=d then b else g.β t,C.A,g.hdr,mX st,st.ep,jm st,w'⟩) rfl rfl hv Xn;have:arr.toList=vs:=by have eR:Value.agg arr.toList.toArray=.agg vs.toArray:=eR;simp only[Value.agg.injEq]at eR;simpa using congrArg Array.toList eR
       rw[this];exact h
      obtain⟨g',Km,h'⟩:=hg.WW d (cs:=(Γ k).back y) (arr:=arr) (T:=T) (fr:=fr) (fp:=[]) (w':=w') (bnew:=b) (hw':=λb'=>if b'=b then 0 else g.hw b') (.inr ⟨hb,Ib⟩) ⟨jz.os,jz.tape,jz.output,jz.size,λb' gQ _=>jz.block b' gQ (λm=>m)⟩ kz tw G5 (by simp) (λb' x hx _ hn=>by simp[hn]) (λb' o u ho hu=>by have gQ:b'<w.heap.size:=World.block_lt_of_cell? w _ hu;exact⟨by simp[show b'≠b by omega];exact ho,Bf jz hu⟩) hr1 List.nodup_nil (by simp) (λb' gQ=>by cases gQ);have hdl:d<st.boxes.length:=(aE.1 Ib).1;have hq:=h'.quiet (some d) (v:=.pointer (some ⟨b,0,none⟩)) (av:=.one (.ptr d 0)) (mH ⟨by simp[cQ,Km],⟨(Γ k).back y,by rw[kv];simp[hdl]⟩,rfl⟩);rw[hd];exact gz _ _ _ ⟨g',hq⟩ hk
  cases hk
 cases hk
theorem afd (B5:∀f,lH P f (Γ f)){o':Oper}(ho:o'.op=.call {callee:=.value f,args,argTypes:=ts})(h:oz C st a w){K:AS->ax R}(hk:EE Γ o' f args.toList st K=some r)(next:Act->World->Prop)(Q:Exit->Act->World->Prop)(gz:∀bM a' w',oz C bM a' w'->K bM=some r->next a' w'):o'.wp P a w next Q:=by
 obtain⟨g,hg⟩:=h;unfold EE at hk;split at hk
 ·rename_i k hf
  have Lj:=hg.rd f
  rw[hf]at Lj
  have Lj:=(ew Lj).1
  cases jX:(Γ k).bx with
  |true=>rw[jX]at hk;exact agW B5 ho hg hf jX hk next Q gz
  |false=>
  rw[jX]at hk
  simp only[ae]at hk
  cases hpr:(Γ k).pr with
  |true=>rw[hpr]at hk;exact ahD B5 ho hg hf hpr hk next Q gz
  |false=>
  rw[hpr]at hk
  simp only[ae]at hk
  cases Nz:(Γ k).io with
  |true=>rw[Nz]at hk;cases hk
  |false=>
  rw[Nz]at hk
  simp only[ae]at hk
  cases fG:(Γ k).fn (args.toList.map λx=>((st.rd x).fresh st).asArg st.ep)with
  |none=>rw[fG]at hk;cases hk
  |some y0=>
   rw[fG]at hk
   simp only[aa]at hk
   obtain⟨⟨fn,c,Uw,Ut,BB⟩,CI,_⟩:=B5 k _ y0 fG
   have CI:=CI Nz jX
   have hk:K ((st.fi o'.dst).put o'.dst (((Γ k).res y0).ED st.ep (st.gZ o'.dst)))=some r:=by unfold zH.res;cases Pz:(Γ k).sel y0 with|true=>rw[Pz]at hk;exact hk|false=>rw[Pz]at hk;exact hk
   generalize hy0:(Γ k).res y0=y at hk CI
   have Lh:=CI (λ_ b o=>(cQ C g st w).S b o/\b<w.heap.size) w (args.toList.map a.eval) (λ_ _ _ h=>h.2) (TQ hg args.toList)
   have fy:(args.toList.map a.eval).toArray=args.map a.eval:=by apply eO;simp
   rw[fy]at Lh
   have dX:(execOp a.eval o').run P w=.ok (.enter k (args.map a.eval)) w:=by simp[execOp,ho,resolve,Lj,Deferred.ofValue,invoke,callFunc,Uw,Ut];simpa using BB
   unfold Oper.wp
   rw[dX,Oper.upon_enter]
   refine Lh.mono ?_
   rintro e w' ⟨v,hw,fp,rfl,ed,Ft,EI,jz⟩
   show next (a.put o'.dst v) w'
   let hw':Nat->Nat:=λb=>if b∈fp then hw b else g.hw b
   have Xq:∀b,b<w.heap.size->b∉fp:=λb hb hm=>by have:=(EI b hm).1;omega
   have hA':∀(hd:Nat->Value)(_:Bool)(b o:Nat),((cQ C g st w).S b o/\b<w.heap.size)->(cQ C {g with hw:=hw',hdr:=hd} (st.fi o'.dst) w').S b o:=by rintro hd _ b o ⟨hs,hb⟩;rcases hs with hs|hs;exact .inl hs;exact .inr (by simp only[cQ,hw',aH (Xq b hb)];exact hs)
   have vn:∃hd,(∀t,mX st t->hd t=g.hdr t)/\fF (cQ C {g with hw:=hw',hdr:=hd} (st.fi o'.dst) w') v (y.ED st.ep (st.gZ o'.dst)) fp:=by
    have adk:∀b∈fp,hw' b=hw b:=λb hb=>by simp[hw',hb]
    cases y with
    |val gg cs=>obtain⟨vs,eR,hr⟩:=ed;refine⟨rq g.hdr (st.gZ o'.dst) vs,λt ht=>Bz ht,vs,eR,?_⟩;have:=B8 (c:=cQ C {g with hw:=hw',hdr:=rq g.hdr (st.gZ o'.dst) vs} (st.fi o'.dst) w') (mk:=st.gZ o'.dst) (hA' _) 0 hr adk (λi u hu t ht=>by rw[cl]at ht;exact⟨(qj ht).2.1,Bx hu ht⟩);have zM:(cQ C {g with hw:=hw',hdr:=rq g.hdr (st.gZ o'.dst) vs} (st.fi o'.dst) w').ep=st.ep:=Bs;rw[zM]at this;exact this
    |xn ts=>obtain⟨ws,hv,hr⟩:=ed;obtain⟨all,EU⟩:=Kv hr;refine⟨rq g.hdr (st.gZ o'.dst) all,λt ht=>Bz ht,ws,hv,?_⟩;have:=N0 (c:=cQ C {g with hw:=hw',hdr:=rq g.hdr (st.gZ o'.dst) all} (st.fi o'.dst) w') (mk:=st.gZ o'.dst) (hA' _) EU 0 adk (λi u hu t ht=>by rw[cl]at ht;exact⟨(qj ht).2.1,Bx hu ht⟩);have zM:(cQ C {g with hw:=hw',hdr:=rq g.hdr (st.gZ o'.dst) all} (st.fi o'.dst) w').ep=st.ep:=Bs;rw[zM]at this;exact this
   obtain⟨hd,hhd,vn⟩:=vn
   obtain⟨g',oy⟩:=hg.On o'.dst (hw':=hw') (hdr':=hd) (fp:=fp) (st1:=st.fi o'.dst) I8 vC Ca Bs (λt ht=>⟨D4 ht,hhd t ht⟩)
    ⟨jz.os,jz.tape,jz.output,jz.size,λb hb _=>jz.block b hb (λm=>m)⟩ (λb x hx _=>by simp[hw',Xq b (hg.fR b x hx).1])
    (λb o u ho hu=>by have hb:b<w.heap.size:=World.block_lt_of_cell? w _ hu;exact⟨by simp[hw',Xq b hb];exact ho,Bf jz hu⟩) vn Ft (λb hb=>⟨(EI b hb).2,.inr (EI b hb).1⟩)
   exact gz _ _ _ ⟨g',oy⟩ hk
 cases hk
end Go.Dn
