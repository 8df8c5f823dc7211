import Derived.Test.YtnmppgnbjfdffaaGreatDnOps8
/- A call by value: what a callee promises, and what the caller makes of it. -/
namespace Go.Dn
open Go.RowKit
variable {P:Program} {C:Ctx} {st:AS} {a:Act} {w:World} {R:Type} {r:R}
variable {x:AC} {args:Array Operand} {ts:Array TypeId} {Γ:xT} {g:Gh} {hw:Nat->Nat} {hdr:Nat->Value} {f:Operand} {c c':RC} {v:Value} {cs:aw AC} {d:ax Nat} {fp:fw} {all:iq}
def fH (A:Rg)(hw:Nat->Nat)(w:World):RC:=⟨hw,λ_=>0,A,λ_=>undef,λ_=>False,0,λ_=>False,w⟩
def oT (A:Rg)(w:World):iq->aw AV->Prop
 |[],[]=>True
 |v::vs,x::xs=>fR (fH A (λ_=>0) w) v x []/\oT A w vs xs
 |_,_=>False
def amK (P:Program)(f:Nat)(F:iZ)(y:F.R)(g:Bool)(cs:aw AC)(rest:aw AV):Prop:=
 ∀(A:Rg)(w:World)(v0:Value)(vs:iq)(hw:Nat->Nat)(fp:fw),(∀k b o,A k b o->b<w.heap.size/\b∉fp)->fR (fH A hw w) v0 (.val g cs) fp->fp.Nodup->(∀b∈fp,b<w.heap.size)->oT A w vs rest->
  Calls P f (v0::vs).toArray w λe w'=>∃v hw' fr jK,e=.returned v/\fR (fH A hw' w') v (F.av y) fr/\fR (fH A hw' w') v0 (.val g (F.back y)) jK/\jK.Nodup/\
   (∀b∈jK,b<w'.heap.size/\(b∈fp\/w.heap.size<=b))/\Fr (λb=>b∈fp) w w'
def aiG (P:Program)(f:Nat)(F:iZ)(y:F.R)(cs:aw AC)(rest:aw AV):Prop:=
 ∀(A:Rg)(w:World)(b:Nat)(vs:iq)(arr:Array Value)(T:TypeId)(fr:Nat×Nat)(hw:Nat->Nat)(fp:fw),(∀k b' o,A k b' o->b'<w.heap.size/\b'≠b/\b'∉fp)->
  w.heap[b]?=some (.cells arr T fr)->oR arr fr->bB (fH A hw w) arr.toList cs fp->fp.Nodup->b∉fp->(∀b'∈fp,b'<w.heap.size)->hw b=0->oT A w vs rest->
  Calls P f (.pointer (some ⟨b,0,none⟩)::vs).toArray w λe w'=>∃v hw' fv iJ T' Nf jK,e=.returned v/\fR (fH A hw' w') v (F.av y) fv/\w'.heap[b]?=some (.cells iJ T' Nf)/\oR iJ Nf/\
   bB (fH A hw' w') iJ.toList (F.back y) jK/\jK.Nodup/\b∉jK/\(∀b'∈jK,b'<w'.heap.size/\(b'∈fp\/w.heap.size<=b'))/\fv.Nodup/\(∀b'∈fv,b'<w'.heap.size/\(b'∈fp\/w.heap.size<=b')/\b'∉jK/\b'≠b)/\Fr (λb'=>b'=b\/b'∈fp) w w'
def afG (P:Program)(f:Nat)(F:iZ)(y:F.R)(xs:aw AV):Prop:=
 ∀(A:Rg)(w:World)(vs:iq),(∀k b o,A k b o->b<w.heap.size)->oT A w vs xs->
  Calls P f vs.toArray w λe w'=>∃b arr T fr hw,e=.returned (.pointer (some ⟨b,0,none⟩))/\w.heap.size<=b/\w'.heap[b]?=some (.cells arr T fr)/\oR arr fr/\bB (fH A hw w') arr.toList (F.back y) []/\Fr (λ_=>False) w w'
def gC (P:Program)(f:Nat)(F:iZ):Prop:=
 ∀(xs:aw AV)(y:F.R),F.fn xs=some y->
  (∃fn c,P.funcs[f]?=some fn/\fn.body=some c/\(fn.name== "runtime.NumGoroutine")=false)/\
  (F.io=false->F.bx=false->∀(A:Rg)(w:World)(vs:iq),(∀k b o,A k b o->b<w.heap.size)->oT A w vs xs->
    Calls P f vs.toArray w λe w'=>∃v hw fp,e=.returned v/\fR (fH A hw w') v (F.res y) fp/\fp.Nodup/\(∀b∈fp,w.heap.size<=b/\b<w'.heap.size)/\Fr (λ_=>False) w w')/\
  (F.io=true->∀g cs rest,xs=.val g cs::rest->amK P f F y g cs rest)/\
  (F.bx=true->∀cs rest,xs=.val true cs::rest->aiG P f F y cs rest)/\
  (F.pr=true->afG P f F y xs)
theorem qg (h:gA c v x fp)(hf:x.je=true):fp=[]/\gA c' v x []:=by cases x with|int k n=>exact⟨h.2,h.1,rfl⟩|bool b=>exact⟨h.2,h.1,rfl⟩|str s=>exact⟨h.2,h.1,rfl⟩|fn f=>exact⟨h.2,h.1,rfl⟩|_=>cases hf
theorem EC {c':RC}:∀{vs:iq}{xs:aw AC}{fp:fw},bB c vs xs fp->xs.all AC.je=true->fp=[]/\bB c' vs xs []
 |[],[],_,h,_=>⟨h,rfl⟩
 |_::_,_::_,_,h,hf=>by obtain⟨f1,f2,rfl,h1,h2⟩:=h;simp only[cb,ae]at hf;obtain⟨rfl,k1⟩:=qg (c':=c') h1 hf.1;obtain⟨rfl,k2⟩:=EC (c':=c') h2 hf.2;exact⟨rfl,[],[],rfl,k1,k2⟩
 |[],_::_,_,h,_=>h.elim
 |_::_,[],_,h,_=>h.elim
theorem Rd:∀{ws:iq}{ts:aw (Bool×aw AC)}{fp:fw},fR.pF c ws ts fp->(ts.all λx=>x.2.all AC.je)=true->fR.pF c' ws ts []
 |[],[],_,_,_=>rfl
 |_::_,_::_,_,h,hf=>by obtain⟨f1,f2,rfl,⟨vs,hv,h1⟩,h2⟩:=h;simp only[cb,ae]at hf;exact⟨[],[],rfl,⟨vs,hv,(EC h1 hf.1).2⟩,Rd h2 hf.2⟩
 |[],_::_,_,h,_=>h.elim
 |_::_,[],_,h,_=>h.elim
theorem Kg {x:AV}(h:fR c v x fp)(hf:x.je=true):fR c' v x []:=by
 cases x with
 |val g cs=>obtain⟨vs,hv,h⟩:=h;exact⟨vs,hv,(EC h hf).2⟩
 |uF ts=>obtain⟨ws,hv,h⟩:=h;exact⟨ws,hv,Rd h hf⟩
theorem V6 {A:Rg}:∀(os ss:aw AC){r:aw AC}{vs us:iq}{f:fw},mY os ss=some r->bB c vs os []->bB c us ss f->bB (fH A c.hw c.w) vs r f:=by
 intro os;induction os with
 |nil=>intro ss r vs us f h hv hu;cases ss with|cons _ _=>simp[mY]at h|nil=>simp[mY]at h;subst h;cases vs with|cons _ _=>exact hv.elim|nil=>cases us with|cons _ _=>exact hu.elim|nil=>exact hu
 |cons o os ih=>
  intro ss r vs us f h hv hu;cases vs with
  |nil=>exact hv.elim
  |cons v vs=>
   cases ss with
   |nil=>unfold mY at h;split at h<;>first|contradiction|cases h
   |cons s ss=>
    cases us with
    |nil=>exact hu.elim
    |cons u us=>
     obtain⟨g1,g2,hg,hv1,Pp⟩:=hv;have e1:g1=[]:=by have:=hg.symm;simp at this;exact this.1
     have e2:g2=[]:=by have:=hg.symm;simp at this;exact this.2
     subst e1;subst e2;obtain⟨f1,f2,rfl,hu1,hu2⟩:=hu;have fl:∀{x:AC}{r'},x.je=true->s.je=true->o=x->mY os ss=some r'->r=x::r'->bB (fH A c.hw c.w) (v::vs) r (f1++f2):=by rintro x r' hx hs rfl hr rfl;obtain⟨rfl,_⟩:=qg (c':=c) hu1 hs;exact⟨[],f2,rfl,(qg hv1 hx).2,ih ss hr Pp hu2⟩
     unfold mY at h;split at h;contradiction;rename_i ep rt t e0 xs0 os' t' e xs ss' h1 h2;injection h1 with h1 L5;subst h1;subst L5;injection h2 with h2 Qw;subst h2;subst Qw;cases ht:(t'==t)with
     |false=>rw[ht]at h;cases h
     |true=>
      have:t'=t:=by simpa using ht
      subst this;rw[ht]at h;simp only[ah]at h;obtain⟨r',hr,h⟩:=aL.1 h;cases h;have Po:=(hv1.2.2.2.2 rt t' rfl).2;have Pn:=(hu1.2 t' rfl).2;have huv:u=v:=Pn.trans Po.symm;subst huv;exact⟨f1,f2,rfl,⟨hu1.1,by simp⟩,ih _ hr Pp hu2⟩
     rename_i k n os' k' n' ss' h1 h2;injection h1 with h1 L5;subst L5;injection h2 with h2 Qw;subst h2;subst Qw;obtain⟨r',hr,h⟩:=aL.1 h;cases h;exact fl (x:=.int k n) rfl rfl h1 hr rfl;rename_i k os' k' ss' h1 h2;injection h1 with h1 L5;subst L5;injection h2 with h2 Qw;subst h2;subst Qw;obtain⟨r',hr,h⟩:=aL.1 h;cases h;exact fl (x:=.bool k) rfl rfl h1 hr rfl;rename_i k os' k' ss' h1 h2;injection h1 with h1 L5;subst L5;injection h2 with h2 Qw;subst h2;subst Qw;obtain⟨r',hr,h⟩:=aL.1 h;cases h;exact fl (x:=.str k) rfl rfl h1 hr rfl;cases h
theorem TU (h:gA c v x fp):gA (fH (λ_ b o=>c.S b o/\b<c.w.heap.size) (λ_=>0) c.w) v (x.asArg c.ep) []:=by
 have hS:∀{e:CT}{xs:aw e.D},iT c.w c.S (.sl e) [v] xs->iT c.w (λb o=>c.S b o/\b<c.w.heap.size) (.sl e) [v] xs:=λhr=>
  iT.mono (λb o u hs hu=>⟨⟨hs,World.block_lt_of_cell? c.w _ hu⟩,hu⟩) hr
 cases x with|int k n=>exact⟨h.1,rfl⟩|bool b=>exact⟨h.1,rfl⟩|str s=>exact⟨h.1,rfl⟩|jm=>exact⟨h.1,rfl⟩|fn f=>exact⟨h.1,rfl⟩|ptr s off=>exact rfl|un=>exact rfl|bot=>exact rfl|zM fl e y i off=>exact rfl|sl fl e xs=>cases fl with|nest _ _ _ _ _ _=>exact rfl|part _ _ _ _=>exact rfl|fg _ _ _=>exact rfl|own t=>exact⟨rfl,hS (ff.rep (λb o ho=> .inr ho) h.1)⟩|arg k=>exact⟨rfl,hS (iT.mono (λb o u hs hu=>⟨.inl ⟨k,hs⟩,hu⟩) h.2)⟩|loc ep pv=>simp only[AC.asArg];split;rename_i he;exact⟨rfl,hS (h.2.2.2.1 (by simpa using he))⟩;exact rfl
theorem H5:∀{vs:iq}{xs:aw AC}{fp:fw},bB c vs xs fp->bB (fH (λ_ b o=>c.S b o/\b<c.w.heap.size) (λ_=>0) c.w) vs (xs.map (AC.asArg c.ep)) []
 |[],[],_,_=>rfl
 |_::_,_::_,_,h=>by obtain⟨f1,f2,rfl,h1,h2⟩:=h;exact⟨[],[],rfl,TU h1,H5 h2⟩
 |[],_::_,_,h=>h.elim
 |_::_,[],_,h=>h.elim
theorem XX {x:AV}(h:fR c v x fp):fR (fH (λ_ b o=>c.S b o/\b<c.w.heap.size) (λ_=>0) c.w) v (x.asArg c.ep) []:=by
 cases x with
 |val g cs=>obtain⟨vs,hv,h⟩:=h;exact⟨vs,hv,H5 h⟩
 |uF ts=>exact fR.bot _ _
theorem QI (h:dM C g st a w []):∀(args:aw Operand),
 oT (λ_ b o=>(cH C g st w).S b o/\b<w.heap.size) w (args.map a.eval) (args.map λx=>((st.rd x).fresh st).asArg st.ep)
 |[]=>trivial
 |x::xs=>⟨XX (c:=cH C g st w) (h.fresh (h.rd x)),QI h xs⟩
theorem TV {A':Rg}{tag:ax Nat}(h:gA (fH A' hw c.w) v x fp)(hA:∀k b o,A' k b o->c.S b o)(Dp:∀b∈fp,c.hw b=hw b)(ht:∀t,tag=some t->c.iss t/\v=c.hdr t):gA c v (x.BJ c.ep tag) fp:=by
 cases x with
 |int k n=>exact h
 |bool b=>exact h
 |str s=>exact h
 |jm=>exact h
 |fn f=>exact h
 |ptr s off=>exact h.2.2
 |un=>exact h
 |bot=>exact h
 |zM fl e y i off=>cases fl with|own t=>exact h.elim|nest _ _ _ _ _ _=>exact h.elim|part _ _ _ _=>exact h.elim|fg _ _ _=>exact h.elim|arg _=>exact h.1|loc ep pv=>exact h.1
 |sl fl e xs=>
  cases fl with
  |nest _ _ _ _ _ _=>exact h.1
  |part _ _ _ _=>exact h.1
  |fg _ _ _=>obtain⟨_,⟨k,hk,h3⟩,_⟩:=h;exact⟨λq hq=>(by cases hq),⟨k,hk,h3.mono (λb hb=>⟨rfl,Dp b hb⟩)⟩,by simp⟩
  |own t=>exact⟨ff.mono h.1 (λb hb=>⟨rfl,Dp b hb⟩),ht⟩
  |loc ep pv=>exact h.1
  |arg _=>have hr:iT c.w c.S (.sl e) [v] xs:=iT.mono (λb o u hs hu=>⟨hA _ b o hs,hu⟩) h.2;refine⟨h.1,aU _,?_,λ_=>hr,by simp⟩;obtain⟨u,hu,k⟩:=hr;simp at hu;subst hu;rcases k with⟨⟨ad,rfl⟩,rfl⟩|⟨b,o,cap,rfl,_⟩;exact⟨_,_,_,rfl,rfl⟩;exact⟨_,_,_,rfl,rfl⟩
theorem yU {A':Rg}{mk:Nat->ax Nat}(hA:∀k b o,A' k b o->c.S b o):∀{vs:iq}{xs:aw AC}{fp:fw}(j:Nat),bB (fH A' hw c.w) vs xs fp->(∀b∈fp,c.hw b=hw b)->
 (∀i v,vs[i]?=some v->∀t,mk (j+i)=some t->c.iss t/\v=c.hdr t)->bB c vs (Gq c.ep mk j xs) fp
 |[],[],_,_,h,_,_=>h
 |v::_,_::_,_,j,h,hh,hm=>by obtain⟨f1,f2,rfl,h1,h2⟩:=h;exact⟨f1,f2,rfl,TV h1 hA (λb hb=>hh b (bt _ hb)) (λt ht=>hm 0 v rfl t ht),yU hA (j+1) h2 (λb hb=>hh b (bj _ hb)) (λi u hu t ht=>hm (i+1) u (by simpa using hu) t (by rwa[show j+(i+1)=j+1+i by omega]))⟩
 |[],_::_,_,_,h,_,_=>h.elim
 |_::_,[],_,_,h,_,_=>h.elim
inductive Leaves (A:Rg) (hw:Nat->Nat) (w:World):List Value->List (Bool×List AC)->List Nat->List Value->Prop
 |nil:Leaves A hw w [] [] [] []
 |cons {v:Value} {vs:List Value} {g:Bool} {cs:List AC} {ts:List (Bool×List AC)} {f1 f2:List Nat} {us all:List Value} (fi:Cut g v us) (hr:bB (fH A hw w) us cs f1) (h:Leaves A hw w vs ts f2 all):
  Leaves A hw w (v::vs) ((g,cs)::ts) (f1++f2) (us++all)
theorem Hq {A:Rg}{w:World}:∀{ws:iq}{ts:aw (Bool×aw AC)}{fp:fw},fR.pF (fH A hw w) ws ts fp->∃all,Leaves A hw w ws ts fp all
 |[],[],_,h=>by cases h;exact⟨[],.nil⟩
 |_::_,(g,cs)::_,_,h=>by obtain⟨f1,f2,rfl,⟨us,fi,hr⟩,h2⟩:=h;obtain⟨all,EG⟩:=Hq h2;exact⟨us++all,.cons fi hr EG⟩
 |[],_::_,_,h=>h.elim
 |_::_,[],_,h=>h.elim
theorem KT {A':Rg}{mk:Nat->ax Nat}(hA:∀k b o,A' k b o->c.S b o){ws:iq}{ts:aw (Bool×aw AC)}(h:Leaves A' hw c.w ws ts fp all): ∀j,(∀b∈fp,c.hw b=hw b)->(∀i v,all[i]?=some v->∀t,mk (j+i)=some t->c.iss t/\v=c.hdr t)->fR.pF c ws (V0 c.ep mk j ts) fp:=by induction h with|nil=>intro j _ _;exact rfl| @cons v vs g cs ts f1 f2 us all fi hr h ih=>intro j hh hm;have hl:=hr.length;refine⟨f1,f2,rfl,⟨us,fi,yU hA j hr (λb hb=>hh b (bt _ hb)) (λi u hu t ht=>?_)⟩,ih _ (λb hb=>hh b (bj _ hb)) (λi u hu t ht=>?_)⟩;exact hm i u (by rw[bz (aF.1 hu).1];exact hu) t ht;have hl':us.length=cs.length:=hl;refine hm (us.length+i) u (by rw[bq (by omega)];simpa using hu) t ?_;rw[<-fC,hl'];exact ht
def pN (hdr:Nat->Value)(mk:Nat->ax Nat)(all:iq):Nat->Value:=λu=>if mk (u/3%4096)=some u then(all[u/3%4096]?).getD undef else hdr u
theorem yt {t:Nat}(h:md st t):pN hdr (st.gS d) all t=hdr t:=by unfold pN;rw[aH];intro e;exact(oK e).1 h
theorem yr {i t:Nat}(hv:all[i]?=some v)(h:st.gS d i=some t):v=pN hdr (st.gS d) all t:=by
 obtain⟨_,_,d',rfl,ht,hi⟩:=oK h;have aeD:t/3%4096=i:=by rw[ht,GF];omega
 unfold pN;rw[aeD,aE h,hv];rfl
theorem Wj {vs us:iq}{seg:aw AC}{f1 f2 f3:fw}{off n:Nat}(hus:us=(vs.drop off).take n)(hln:us.length=n)(r1:bB c' (vs.take off) (cs.take off) f1)(r2:bB c' us seg f2)(r3:bB c' (vs.drop (off+n)) (cs.drop (off+n)) f3): bB c' vs (dZ cs off seg) (f1++f2++f3):=by
 have xY:=r2.length;have e:vs=vs.take off++us++vs.drop (off+n):=by rw[hus,aQ,<-eH,cl,cl]
 rw[e,dZ,show seg.length=n by omega];exact bB.append (bB.append r1 r2) r3
theorem MD:∀(os ss:aw AC){r:aw AC},mY os ss=some r->ss.length=os.length:=by
 intro os
 induction os with
 |nil=>intro ss r h;cases ss with
  |nil=>rfl
  |cons _ _=>simp[mY]at h
 |cons o os ih=>
  intro ss r h
  cases ss with
  |nil=>unfold mY at h;split at h<;>first|contradiction|cases h
  |cons s ss=>
   unfold mY at h
   split at h
   ·contradiction
   ·rename_i h1 h2
    injection h1 with h1 L5;subst L5
    injection h2 with h2 Qw;subst Qw
    rw[Bool.cond_eq_ite]at h
    split at h
    ·obtain⟨r',hr,h⟩:=aL.1 h
     simp[ih _ hr]
    ·cases h
   all_goals first
    |cases h
    |(rename_i h1 h2
      injection h1 with h1 L5;subst L5
      injection h2 with h2 Qw;subst Qw
      obtain⟨r',hr,h⟩:=aL.1 h
      simp[ih _ hr])
theorem Eu {A':Rg}{mk:Nat->ax Nat}{k:Bool}(hA:A' true=c.A k):∀{vs:iq}{xs:aw AC}{fp:fw}(j:Nat),bB (fH A' hw c.w) vs xs fp->xs.all (AC.xc true)=true->
 (∀b∈fp,c.hw b=hw b)->(∀i v,vs[i]?=some v->∀t,mk (j+i)=some t->c.iss t/\v=c.hdr t)->bB c vs (oG k mk j xs) fp
 |[],[],_,_,h,_,_,_=>h
 |v::_,x::_,_,j,h,nn,hh,hm=>by
  obtain⟨f1,f2,rfl,h1,h2⟩:=h;simp only[cb,ae]at nn;refine⟨f1,f2,rfl,?_,Eu hA (j+1) h2 nn.2 (λb hb=>hh b (bj _ hb)) (λi u hu t ht=>hm (i+1) u (by simpa using hu) t (by rwa[show j+(i+1)=j+1+i by omega]))⟩;have Dp:∀b∈f1,c.hw b=hw b:=λb hb=>hh b (bt _ hb);have ht:∀t,mk j=some t->c.iss t/\v=c.hdr t:=λt ht=>hm 0 v rfl t ht;have nn:=nn.1;cases x with
  |sl fl e xs=>
   cases fl with
   |own t=>exact⟨ff.mono h1.1 (λb hb=>⟨rfl,Dp b hb⟩),ht⟩
   |arg k'=>
    have hk:k'=true:=by simpa[AC.xc]using nn
    subst hk;exact⟨h1.1,by rw[<-hA];exact h1.2⟩
   |loc _ _=>cases nn
   |nest _ _ _ _ _ _=>cases nn
   |part _ _ _ _=>cases nn
   |fg _ _ _=>cases nn
  |int _ _=>exact h1
  |bool _=>exact h1
  |str _=>exact h1
  |fn _=>exact h1
  |jm=>cases nn
  |ptr _ _=>cases nn
  |zM _ _ _ _ _=>cases nn
  |un=>cases nn
  |bot=>cases nn
 |[],_::_,_,_,h,_,_,_=>h.elim
 |_::_,[],_,_,h,_,_,_=>h.elim
theorem GH {A':Rg}{w:World}{k:Bool}:∀{cs:aw AC},cs.all (AC.xc k)=true->∀{c:RC}{vs:iq}{fp:fw},bB c vs cs fp->c.w=w->c.hw=hw->A' true=c.A k->bB (fH A' hw w) vs (cs.map AC.Ql) fp
 |[],_,c,vs,fp,h,_,_,_=>by cases vs with|nil=>exact h|cons _ _=>exact h.elim
 |x::cs,nn,c,vs,fp,h,Qx,DP,hA=>by
  cases vs with
  |nil=>exact h.elim
  |cons v vs=>
   obtain⟨f1,f2,rfl,h1,h2⟩:=h;simp only[cb,ae]at nn;refine⟨f1,f2,rfl,?_,GH nn.2 h2 Qx DP hA⟩;have nn:=nn.1;cases x with
   |sl fl e xs=>
    cases fl with
    |own t=>exact⟨by have:=h1.1;rw[Qx,DP]at this;exact this,by simp⟩
    |arg k'=>
     have hk:k'=k:=by simpa[AC.xc]using nn
     subst hk;exact⟨h1.1,by have:=h1.2;rw[Qx,<-hA]at this;exact this⟩
    |loc _ _=>cases nn
    |nest _ _ _ _ _ _=>cases nn
    |part _ _ _ _=>cases nn
    |fg _ _ _=>cases nn
   |int _ _=>exact h1
   |bool _=>exact h1
   |str _=>exact h1
   |fn _=>exact h1
   |jm=>cases nn
   |ptr _ _=>cases nn
   |zM _ _ _ _ _=>cases nn
   |un=>cases nn
   |bot=>cases nn
theorem ND (h:dM C g st a w [])(s:Nat){A':Rg}(hA:∀b o,(cH C g st w).S b o/\b<w.heap.size/\g.ej b≠some (.box s)->A' false b o):∀(xs:aw Operand),xs.all (Au st)=true->
 oT A' w (xs.map a.eval) (xs.map (zu st))
 |[],_=>trivial
 |x::xs,hx=>by
  simp only[cb,ae]at hx;refine⟨?_,ND h s hA xs hx.2⟩;have hx:=hx.1;cases x with
  |const _=>exact Kg (h.rd _) hx
  |func _=>exact Kg (h.rd _) hx
  |global _=>exact Kg (h.rd _) hx
  |tmp t=>
   have gE:∀(t0:Nat){e:CT}{v:Value}{xs:aw e.D}{fp:fw},ff g.hw w (.sl e) [v] xs fp->(∀b∈fp,g.ej b=some (.slot t0))->iT w (A' false) (.sl e) [v] xs:=by
    intro t0 e v xs fp h1 hl;have h3:ff (λb=>if b∈fp then g.hw b else 0) w (.sl e) [v] xs fp:=ff.mono h1 (λb hb=>⟨rfl,by simp[hb]⟩)
    exact ff.rep (λb o ho=>by
     by_cases hb:b∈fp;have ho:o<g.hw b:=by simpa[hb]using ho
     have Nk:=hl b hb;exact hA b o ⟨.inr ho,(h.fS b _ Nk).1,by rw[Nk];simp⟩;simp[hb]at ho) h3
   obtain⟨fp,hr,hn,hl⟩:=h.slot t;simp only[Au]at hx;show fR _ (a.tmps.getD t undef) (zu st (.tmp t)) _;simp only[zu];cases hv:st.get t with
   |uF _=>rw[hv]at hx;cases hx
   |val gg cs=>
    rw[hv]at hx hr;simp only at hx;obtain⟨vs,fi,hr⟩:=hr
    have key:∀(cs:aw AC)(vs:iq)(fp:fw),(cs.map st.Mu).all AC.GX=true->(∀b∈fp,g.ej b=some (.slot t))->bB (cH C g st w) vs cs fp->
     bB (fH A' (λ_=>0) w) vs (cs.map st.Mu) []:=by
     intro cs
     induction cs with
     |nil=>intro vs fp _ _ h;cases vs with
      |nil=>rfl
      |cons _ _=>exact h.elim
     |cons c cs ih=>
      intro vs fp hc hl hr
      cases vs with
      |nil=>exact hr.elim
      |cons v vs=>
       obtain⟨f1,f2,rfl,h1,h2⟩:=hr
       simp only[cV,cb,ae]at hc
       refine⟨[],[],rfl,?_,ih vs f2 hc.2 (λb hb=>hl b (bj _ hb)) h2⟩
       have hc:=hc.1
       cases c with
       |sl fl e xs=>
        cases fl with
        |own tag=>exact⟨rfl,gE t h1.1 (λb hb=>hl b (bt _ hb))⟩
        |arg k=>exact⟨rfl,iT.mono (λb o u hs hu=>⟨hA b o ⟨.inl ⟨k,hs⟩,World.block_lt_of_cell? w _ hu,λhb=>h.KR hb k o hs⟩,hu⟩) h1.2⟩
        |loc ep pv=>
         cases pv with
         |none=>cases hc
         |some q=>
          obtain⟨r,tg⟩:=q
          cases r with
          |box _ _=>cases hc
          |io _=>cases hc
          |slot b j=>
           have Pp:=(h1.2.2.2.2 (.slot b j) tg rfl).2
           simp only[AS.Mu]at hc⊢
           cases TJ:st.eM (.slot b j)with
           |none=>rw[TJ]at hc;cases hc
           |some c0=>
            rw[TJ]at hc
            split at hc
            ·rename_i t' e' ys W6
             split at hc
             ·rename_i ht
              subst ht
              cases W6
              rw[aE rfl]
              obtain⟨fp2,Mo,_,xY⟩:=h.slot b
              simp only[AS.eM]at TJ
              cases hgb:st.get b with
              |uF _=>rw[hgb]at TJ;cases TJ
              |val g2 BV=>
               rw[hgb]at TJ Mo
               simp only at TJ
               obtain⟨vs2,_,Mo⟩:=Mo
               rw[dJ]at TJ
               obtain⟨v2,f3,_,Kz,oP⟩:=Mo.get j _ TJ
               have anE:v=v2:=by have:=(Kz.2 t' rfl).2;rw[Pp,this]
               rw[anE]
               exact⟨rfl,gE b Kz.1 (λb' gM=>xY b' (oP b' gM))⟩
             ·cases hc
            ·cases hc
        |nest _ _ _ _ _ _=>cases hc
        |part _ _ _ _=>cases hc
        |fg _ _ _=>cases hc
       |int _ _=>exact⟨h1.1,rfl⟩
       |bool _=>exact⟨h1.1,rfl⟩
       |str _=>exact⟨h1.1,rfl⟩
       |fn _=>exact⟨h1.1,rfl⟩
       |jm=>cases hc
       |ptr _ _=>cases hc
       |zM _ _ _ _ _=>cases hc
       |un=>cases hc
       |bot=>cases hc
    exact⟨vs,fi,key cs vs fp hx hl hr⟩
theorem dM.aek (h:dM C g st a w [])(s:Nat)(ju:st.boxes[s]?=some (some cs)): ∃arr T fr fp,w.heap[g.β s]?=some (.cells arr T fr)/\oR arr fr/\bB (cH C g st w) arr.toList cs fp/\fp.Nodup/\g.β s∉fp/\(∀b∈fp,b<w.heap.size)/\g.hw (g.β s)=0/\(∀b,b=g.β s\/b∈fp->g.ej b=some (.box s))/\ ∀(w':World)(hw':Nat->Nat)(iJ:Array Value)(T':TypeId)(Nf:Nat×Nat)(pH:aw AC)(jK fv:fw)(A':Rg)(k:Bool),Fr (λb=>b=g.β s\/b∈fp) w w'->w'.heap[g.β s]?=some (.cells iJ T' Nf)->oR iJ Nf-> A' true=C.A k->bB (fH A' hw' w') iJ.toList pH jK->pH.all (AC.xc true)=true->jK.Nodup->g.β s∉jK->(∀b∈jK,b<w'.heap.size/\(b∈fp\/w.heap.size<=b))-> (∀b∈fv,b<w'.heap.size/\(b∈fp\/w.heap.size<=b)/\b∉jK/\b≠g.β s)-> ∃g',dM C g' (WK st s (oG k (st.gS (some s)) 0 pH)) a w' []/\(∀b∈fv,g'.ej b=some (.hand 0)/\g'.hw b=hw' b)/\∀b,b<w.heap.size->g.ej b≠some (.box s)->g'.hw b=g.hw b:=by
 obtain⟨arr,T,fr,fp,jL,qZ,hr,hn,uJ,hl,Fa,Fe⟩:=h.boxes s cs ju;have xm:s<st.boxes.length:=(aF.1 ju).1;have Ks:∀b,b=g.β s\/b∈fp->g.ej b=some (.box s):=by rintro b (rfl|hb);exact Fa;exact hl b hb
 refine⟨arr,T,fr,fp,jL,qZ,hr,hn,uJ,λb hb=>(h.fS b _ (hl b hb)).1,Fe,Ks,?_⟩;intro w' hw' iJ T' Nf pH jK fv A' k jf FF RK hA' uK ahd BP FH He Il;let X2:aw AC:=oG k (st.gS (some s)) 0 pH;let bH:AS:=WK st s X2;let hw2:Nat->Nat:=λb=>if b∈jK\/b∈fv then hw' b else if b=g.β s then 0 else g.hw b
 let acJ:Nat->ax jy:=λb=>if b=g.β s\/b∈jK then some (.box s) else if b∈fv then some (.hand 0) else g.ej b
 let g':Gh:=⟨hw2,g.β,acJ,pN g.hdr (st.gS (some s)) iJ.toList⟩
 have sI:bH.boxes=st.boxes.set s (some X2):=by show((st.eF s (some X2)).fz (some s)).boxes=_;rw[yW,jJ]
 have KA:bH.slots=st.slots:=by show((st.eF s (some X2)).fz (some s)).slots=_;rw[sZ];rfl
 have Mm:bH.io=st.io:=by show((st.eF s (some X2)).fz (some s)).io=_;rw[F7];rfl
 have I7:∀t,md st t->md bH t:=λt ht=>by have h1:md (st.eF s (some X2)) t:=ht;exact Bj (d:=some s) h1
 have Yy:∀t,iS st t->iS bH t:=by rintro t ⟨c0,W6⟩;by_cases rU:s=t;subst rU;exact⟨X2,by rw[sI];simp[xm]⟩;exact⟨c0,by rw[sI,aO rU];exact W6⟩
 have RH:∀b,b<w.heap.size->g.ej b≠some (.box s)->b∉jK/\b∉fv/\b≠g.β s:=by intro b hb Nk;refine⟨λhm=>?_,λhm=>?_,λhm=>Nk (Ks b (.inl hm))⟩;rcases(He b hm).2 with h2|h2;exact Nk (Ks b (.inr h2));omega;rcases(Il b hm).2.1 with h2|h2;exact Nk (Ks b (.inr h2));omega
 have rj:∀b x,x≠ .box s->g.ej b=some x->acJ b=some x/\w'.heap[b]?=w.heap[b]?/\hw2 b=g.hw b:=by intro b x hx hb;have DY:=(h.fS b x hb).1;have hnm:¬(b=g.β s\/b∈fp):=λhm=>hx (by have:=Ks b hm;rw[hb]at this;simpa using this);obtain⟨n1,n2,n3⟩:=RH b DY (by rw[hb];simpa using hx);refine⟨?_,jf.block b DY hnm,?_⟩;show(if b=g.β s\/b∈jK then _ else if b∈fv then _ else _)=_;rw[aH (by rintro(h1|h1);exact n3 h1;exact n1 h1),aH n2];exact hb;show(if b∈jK\/b∈fv then _ else if b=g.β s then _ else _)=_;rw[aH (by rintro(h1|h1);exact n1 h1;exact n2 h1),aH n3]
 have Yp:∀k b o u,C.A k b o->w.cell? ⟨b,o,none⟩=some u->w'.cell? ⟨b,o,none⟩=some u:=by intro k b o u hA hu;have hb:b<w.heap.size:=World.block_lt_of_cell? w _ hu;rw[World.cell?_of_block (a:=⟨b,o,none⟩) (jf.block b hb (λhm=>h.KR (Ks b hm) k o hA))];exact hu
 have hle:(cH C g st w).Le (cH C g' bH w'):=⟨rfl,λt ht=>⟨I7 t ht,yt ht⟩,Yp,Nat.le_succ _,λt ht=>⟨Yy t ht,rfl⟩,λhe=>absurd he (Nat.succ_ne_self _)⟩
 refine⟨g',h.step (λx=>x≠ .box s) hle h.defers ?_ ?_ ?_ ?_ (λb x hk hb=>rj b x hk hb) ?_ ?_ (λk u bv hk=>by simp at hk) (.inl ⟨by simp,Mm⟩),λb hb=>?_,λb hb Nk=>?_⟩;rw[KA];exact h.size;rw[KA,sI,aC];exact h.bsize;refine h.frame.trans jf (λb hb hm=>?_);rcases(h.fS b _ (Ks b hm)).2 with h2|h2;omega;exact h2;intro b x hx;have zQ:(if b=g.β s\/b∈jK then some (jy.box s) else if b∈fv then some (.hand 0) else g.ej b)=some x:=hx;have hz:=jf.size;have hold:b∈fp\/w.heap.size<=b->C.w0.heap.size<=b\/C.M b:=by rintro(h2|h2);exact(h.fS b _ (hl b h2)).2;exact .inl (bw h.frame.size h2)
 split at zQ;rename_i hm;rcases hm with rfl|hm;have:=h.fS _ _ Fa;exact⟨by omega,this.2⟩;exact⟨(He b hm).1,hold (He b hm).2⟩;split at zQ;rename_i hm;exact⟨(Il b hm).1,hold (Il b hm).2.1⟩;have:=h.fS b x zQ;exact⟨by omega,this.2⟩;intro i av hi;rw[KA]at hi;exact .inl ⟨by simp,hi,rfl⟩;intro t BV hb;rw[sI]at hb;by_cases rU:t=s;subst rU;rw[br]at hb;simp only[bN,xm]at hb;simp at hb;subst hb;refine .inr ⟨iJ,T',Nf,jK,FF,RK,?_,BP,FH,λb hb=>?_,?_,?_⟩
 have:=Eu (c:=cH C g' bH w') (A':=A') (hw:=hw') (mk:=st.gS (some t)) (k:=k) hA' 0 (vs:=iJ.toList) (xs:=pH) (fp:=jK) uK ahd
  (λb hb=>by show(if b∈jK\/b∈fv then _ else _)=_;rw[aE (.inl hb)])
  (λi u hu q hq=>by
   rw[ca]at hq;have hm:=oK hq;have hm2:md bH q:=by have h1:st.gS (some t) i=some q:=hq;have h2:(st.eF t (some X2)).gS (some t) i=some q:=h1;exact(oK h2).2.1
   exact⟨hm2,yr hu hq⟩)
 exact this;show(if b=g.β t\/b∈jK then _ else _)=_;rw[aE (.inr hb)];show(if g.β t=g.β t\/g.β t∈jK then _ else _)=_;rw[aE (.inl rfl)];show(if g.β t∈jK\/g.β t∈fv then _ else if g.β t=g.β t then _ else _)=_;rw[aH (by rintro(h1|h1);exact FH h1;exact(Il _ h1).2.2.2 rfl),aE rfl];rw[aO (cO rU)]at hb;exact .inl ⟨by simpa using rU,hb,rfl⟩;obtain⟨_,_,h3,h4⟩:=Il b hb;refine⟨?_,?_⟩;show(if b=g.β s\/b∈jK then _ else if b∈fv then _ else _)=_;rw[aH (by rintro(h1|h1);exact h4 h1;exact h3 h1),aE hb];show(if b∈jK\/b∈fv then _ else _)=_;rw[aE (.inr hb)];obtain⟨n1,n2,n3⟩:=RH b hb Nk;show(if b∈jK\/b∈fv then _ else if b=g.β s then _ else _)=_;rw[aH (by rintro(h1|h1);exact n1 h1;exact n2 h1),aH n3]
theorem On:∀{vs:iq}{cs:aw AC}{fp:fw},bB c vs cs fp->cs.all AC.Fm=true->fp=[]
 |[],[],_,h,_=>h
 |[],_::_,_,h,_=>h.elim
 |_::_,[],_,h,_=>h.elim
 |v::vs,x::cs,fp,h,hx=>by
  obtain⟨f1,f2,rfl,h1,h2⟩:=h;simp only[cb,ae]at hx;rw[On h2 hx.2,bV];have hx:=hx.1;cases x with
  |sl fl e xs=>cases fl<;>first|exact h1.1|cases hx
  |int k n=>exact h1.2
  |bool b=>exact h1.2
  |str s=>exact h1.2
  |fn f=>exact h1.2
  |jm=>cases hx
  |ptr _ _=>cases hx
  |zM _ _ _ _ _=>cases hx
  |un=>cases hx
  |bot=>cases hx
theorem dM.aaY (h:dM C g st a w [])(s:Nat)(ju:st.boxes[s]?=some (some cs))(Hd:cs.all AC.Fm=true): ∀(w':World)(hw':Nat->Nat)(iJ:Array Value)(T':TypeId)(Nf:Nat×Nat)(pH:aw AC)(jK fv:fw)(A':Rg)(k:Bool),Fr (λb=>b=g.β s) w w'->w'.heap[g.β s]?=some (.cells iJ T' Nf)->oR iJ Nf-> A' true=C.A k->bB (fH A' hw' w') iJ.toList pH jK->pH.all (AC.xc true)=true->jK.Nodup->g.β s∉jK->(∀b∈jK,b<w'.heap.size/\w.heap.size<=b)-> (∀b∈fv,b<w'.heap.size/\w.heap.size<=b/\b∉jK/\b≠g.β s)-> ∃g',dM C g' (st.eF s (some (oG k (λ_=>none) 0 pH))) a w' []/\(∀b∈fv,g'.ej b=some (.hand 0)/\g'.hw b=hw' b)/\∀b,b<w.heap.size->g.ej b≠some (.box s)->g'.hw b=g.hw b:=by
 obtain⟨arr,T,fr,fp,jL,qZ,hr,hn,uJ,hl,Fa,Fe⟩:=h.boxes s cs ju;have agV:fp=[]:=On hr Hd;subst agV;have xm:s<st.boxes.length:=(aF.1 ju).1;intro w' hw' iJ T' Nf pH jK fv A' k jf FF RK hA' uK ahd BP FH He Il;let X2:aw AC:=oG k (λ_=>none) 0 pH;let bH:AS:=st.eF s (some X2);let hw2:Nat->Nat:=λb=>if b∈jK\/b∈fv then hw' b else if b=g.β s then 0 else g.hw b
 let acJ:Nat->ax jy:=λb=>if b=g.β s\/b∈jK then some (.box s) else if b∈fv then some (.hand 0) else g.ej b
 let g':Gh:=⟨hw2,g.β,acJ,g.hdr⟩
 have sI:bH.boxes=st.boxes.set s (some X2):=by show(st.eF s (some X2)).boxes=_;rw[jJ]
 have Yy:∀t,iS st t->iS bH t:=by rintro t ⟨c0,W6⟩;by_cases rU:s=t;subst rU;exact⟨X2,by rw[sI];simp[xm]⟩;exact⟨c0,by rw[sI,aO rU];exact W6⟩
 have hold:∀b,b<w.heap.size->b∉jK/\b∉fv:=by intro b hb;refine⟨λhm=>?_,λhm=>?_⟩;have:=(He b hm).2;omega;have:=(Il b hm).2.1;omega
 have Dp:∀b,b<w.heap.size->b≠g.β s->hw2 b=g.hw b:=by intro b hb AY;show(if b∈jK\/b∈fv then _ else if b=g.β s then _ else _)=_;rw[aH (by rintro(h1|h1);exact(hold b hb).1 h1;exact(hold b hb).2 h1),aH AY]
 have rj:∀b x,x≠ .box s->g.ej b=some x->acJ b=some x/\w'.heap[b]?=w.heap[b]?/\hw2 b=g.hw b:=by intro b x hx hb;have DY:=(h.fS b x hb).1;have AY:b≠g.β s:=λhm=>hx (by rw[hm,Fa]at hb;simpa using hb.symm);refine⟨?_,jf.block b DY AY,Dp b DY AY⟩;show(if b=g.β s\/b∈jK then _ else if b∈fv then _ else _)=_;rw[aH (by rintro(h1|h1);exact AY h1;exact(hold b DY).1 h1),aH (hold b DY).2];exact hb
 have Yp:∀k b o u,C.A k b o->w.cell? ⟨b,o,none⟩=some u->w'.cell? ⟨b,o,none⟩=some u:=by intro k b o u hA hu;have hb:b<w.heap.size:=World.block_lt_of_cell? w _ hu;rw[World.cell?_of_block (a:=⟨b,o,none⟩) (jf.block b hb (λhm=>h.KR (by rw[hm];exact Fa) k o hA))];exact hu
 have hle:(cH C g st w).Le (cH C g' bH w'):=by
  refine⟨rfl,λt ht=>⟨ht,rfl⟩,Yp,aU _,λt ht=>⟨Yy t ht,rfl⟩,λ_ b o u ho hu=>?_⟩;have hb:b<w.heap.size:=World.block_lt_of_cell? w _ hu;have I9:o<g.hw b:=ho;have AY:b≠g.β s:=λe=>by rw[e,Fe]at I9;omega
  refine⟨by show o<hw2 b;rw[Dp b hb AY];exact I9,?_⟩;show w'.cell? ⟨b,o,none⟩=some u;rw[World.cell?_of_block (a:=⟨b,o,none⟩) (jf.block b hb AY)];exact hu
 refine⟨g',h.step (λx=>x≠ .box s) hle h.defers h.size ?_ ?_ ?_ (λb x hk hb=>rj b x hk hb) ?_ ?_ (λk u bv hk=>by simp at hk) (.inl ⟨by simp,rfl⟩),λb hb=>?_,λb hb Nk=>?_⟩;rw[sI,aC];exact h.bsize;refine h.frame.trans jf (λb hb hm=>?_);have hm:b=g.β s:=hm;subst hm;rcases(h.fS _ _ Fa).2 with h2|h2;omega;exact h2;intro b x hx;have zQ:(if b=g.β s\/b∈jK then some (jy.box s) else if b∈fv then some (.hand 0) else g.ej b)=some x:=hx;have hz:=jf.size;split at zQ;rename_i hm;rcases hm with rfl|hm;have:=h.fS _ _ Fa;exact⟨by omega,this.2⟩;exact⟨(He b hm).1,.inl (bw h.frame.size (He b hm).2)⟩;split at zQ;rename_i hm;exact⟨(Il b hm).1,.inl (bw h.frame.size (Il b hm).2.1)⟩;have:=h.fS b x zQ;exact⟨by omega,this.2⟩;intro i av hi;exact .inl ⟨by simp,hi,rfl⟩;intro t BV hb;rw[sI]at hb;by_cases rU:t=s;subst rU;rw[br]at hb;simp only[bN,xm]at hb;simp at hb;subst hb;refine .inr ⟨iJ,T',Nf,jK,FF,RK,?_,BP,FH,λb hb=>?_,?_,?_⟩;have:=Eu (c:=cH C g' bH w') (A':=A') (hw:=hw') (mk:=λ_=>none) (k:=k) hA' 0 (vs:=iJ.toList) (xs:=pH) (fp:=jK) uK ahd (λb hb=>by show(if b∈jK\/b∈fv then _ else _)=_;rw[aE (.inl hb)]) (λi u hu q hq=>by cases hq);exact this;show(if b=g.β t\/b∈jK then _ else _)=_;rw[aE (.inr hb)];show(if g.β t=g.β t\/g.β t∈jK then _ else _)=_;rw[aE (.inl rfl)];show(if g.β t∈jK\/g.β t∈fv then _ else if g.β t=g.β t then _ else _)=_;rw[aH (by rintro(h1|h1);exact FH h1;exact(Il _ h1).2.2.2 rfl),aE rfl];rw[aO (cO rU)]at hb;exact .inl ⟨by simpa using rU,hb,rfl⟩;obtain⟨_,_,h3,h4⟩:=Il b hb;refine⟨?_,?_⟩;show(if b=g.β s\/b∈jK then _ else if b∈fv then _ else _)=_;rw[aH (by rintro(h1|h1);exact h4 h1;exact h3 h1),aE hb];show(if b∈jK\/b∈fv then _ else _)=_;rw[aE (.inr hb)];exact Dp b hb (λe=>Nk (by rw[e];exact Fa))
theorem agJ (yQ:∀f,gC P f (Γ f)){o':Oper}(ho:o'.op=.call {callee:=.value f,args,argTypes:=ts})(hg:dM C g st a w []){k:Nat}(hf:st.rd f=.val false [.fn k])(ju:(Γ k).bx=true){K:AS->ax R}(hk:tn Γ o' k args.toList st K=some r)(next:Act->World->Prop)(Q:Exit->Act->World->Prop)(gx:∀bH a' w',np C bH a' w'->K bH=some r->next a' w'):o'.wp P a w next Q:=by
 have Il:=hg.rd f;rw[hf]at Il;have Il:=(ew Il).1;unfold tn at hk;split at hk
 ·rename_i x0 xs fN;split at hk
  ·rename_i s hx0;split at hk
   ·rename_i cs Rv;have hb:st.boxes[s]?=some (some cs):=by rw[dJ]at Rv;cases hq:st.boxes[s]? with|none=>rw[hq]at Rv;simp at Rv|some q=>rw[hq]at Rv;simp at Rv;rw[Rv]
    cases hc:(cs.all (AC.xc (BI cs))&&xs.all (Au st))with
    |false=>rw[hc]at hk;cases hk
    |true=>
     rw[hc]at hk;simp only[ah]at hk;simp only[ae]at hc;cases gy:(Γ k).fn (.val true (cs.map AC.Ql)::xs.map (zu st))with
     |none=>rw[gy]at hk;cases hk
     |some y=>
      rw[gy]at hk;simp only[aa]at hk;cases UT:(((Γ k).back y).all (AC.xc true)&&((Γ k).av y).ZF)with
      |false=>rw[UT]at hk;cases hk
      |true=>
       rw[UT]at hk;simp only[ah]at hk;simp only[ae]at UT;obtain⟨⟨fn,c,RA,Rx,Am⟩,_,_,zO,_⟩:=yQ k _ y gy;have zO:=zO ju _ _ rfl;have Ky:=hg.rd x0;rw[hx0]at Ky;have th:=zy Ky;obtain⟨arr,T,fr,fp,jL,qZ,eL,hn,uJ,gQ,Fe,Cw,pC⟩:=hg.aek s hb;let A':Rg:=λq b o=>bif q then C.A (BI cs) b o else((cH C g st w).S b o/\b<w.heap.size/\g.ej b≠some (.box s))
       have hA':∀q b' o,A' q b' o->b'<w.heap.size/\b'≠g.β s/\b'∉fp:=by
        intro q b' o hq;have key:b'<w.heap.size/\g.ej b'≠some (.box s):=by cases q with|true=>have hq:C.A (BI cs) b' o:=hq;exact⟨Nat.lt_of_lt_of_le (C.hA _ _ _ hq).1 hg.frame.size,λhb=>hg.KR hb _ o hq⟩|false=>exact hq.2
        exact⟨key.1,λe=>key.2 (Cw b' (.inl e)),λe=>key.2 (Cw b' (.inr e))⟩
       have Ij:=zO A' w (g.β s) (xs.map a.eval) arr T fr g.hw fp hA' jL qZ (GH (k:=BI cs) hc.1 eL rfl rfl rfl) hn uJ gQ Fe (ND hg s (λb o h=>h) xs hc.2);have anA:a.eval x0=.pointer (some ⟨g.β s,0,none⟩):=th;have agR:(Value.pointer (some ⟨g.β s,0,none⟩)::xs.map a.eval).toArray=args.map a.eval:=by apply eQ;simp[fN,anA]
       rw[agR]at Ij;have ee:(execOp a.eval o').run P w=.ok (.enter k (args.map a.eval)) w:=by simp[execOp,ho,resolve,Il,Deferred.ofValue,invoke,callFunc,RA,Rx];simpa using Am
       unfold Oper.wp;rw[ee,Oper.upon_enter];refine Ij.mono ?_;rintro e w' ⟨v,hw',fv,iJ,T',Nf,jK,rfl,Nn,FF,RK,uK,BP,FH,He,hnv,ab5,jf⟩;show next (a.put o'.dst v) w'
       have tail:∀(st1:AS)(g':Gh),dM C g' st1 a w' []->(∀b∈fv,g'.ej b=some (.hand 0)/\g'.hw b=hw' b)->(∀b,b<w.heap.size->g.ej b≠some (.box s)->g'.hw b=g.hw b)->
        K ((st1.fz o'.dst).put o'.dst (((Γ k).av y).BJ st1.ep (st1.gS o'.dst)))=some r->next (a.put o'.dst v) w':=by
        intro st1 g' nm hlv hold hk
        have hAS:∀(hd:Nat->Value)(q:Bool)(b o:Nat),A' q b o->(cH C {g' with hdr:=hd} (st1.fz o'.dst) w').S b o:=by intro hd q b o hq;cases q with|true=>exact .inl ⟨_,hq⟩|false=>rcases hq.1 with hs|hs;exact .inl hs;exact .inr (by show o<g'.hw b;rw[hold b hq.2.1 hq.2.2];exact hs)
        have ab3:∀b∈fv,g'.hw b=hw' b:=λb hb=>(hlv b hb).2
        have uK:∃hd,(∀t,md st1 t->hd t=g'.hdr t)/\fR (cH C {g' with hdr:=hd} (st1.fz o'.dst) w') v (((Γ k).av y).BJ st1.ep (st1.gS o'.dst)) fv:=by
         generalize (Γ k).av y=y at Nn;cases y with
         |val gg cs=>obtain⟨vs,fi,hr⟩:=Nn;refine⟨pN g'.hdr (st1.gS o'.dst) vs,λt ht=>yt ht,vs,fi,?_⟩;have:=yU (c:=cH C {g' with hdr:=pN g'.hdr (st1.gS o'.dst) vs} (st1.fz o'.dst) w') (mk:=st1.gS o'.dst) (hAS _) 0 hr ab3 (λi u hu t ht=>by rw[ca]at ht;exact⟨(oK ht).2.1,yr hu ht⟩);have wN:(cH C {g' with hdr:=pN g'.hdr (st1.gS o'.dst) vs} (st1.fz o'.dst) w').ep=st1.ep:=yl;rw[wN]at this;exact this
         |uF ts=>obtain⟨ws,hv,hr⟩:=Nn;obtain⟨all,EG⟩:=Hq hr;refine⟨pN g'.hdr (st1.gS o'.dst) all,λt ht=>yt ht,ws,hv,?_⟩;have:=KT (c:=cH C {g' with hdr:=pN g'.hdr (st1.gS o'.dst) all} (st1.fz o'.dst) w') (mk:=st1.gS o'.dst) (hAS _) EG 0 ab3 (λi u hu t ht=>by rw[ca]at ht;exact⟨(oK ht).2.1,yr hu ht⟩);have wN:(cH C {g' with hdr:=pN g'.hdr (st1.gS o'.dst) all} (st1.fz o'.dst) w').ep=st1.ep:=yl;rw[wN]at this;exact this
        obtain⟨hd,hhd,uK⟩:=uK
        obtain⟨g2,EH⟩:=nm.Ll o'.dst (hw':=g'.hw) (hdr':=hd) (fp:=fv) (st1:=st1.fz o'.dst) F7 sZ yW yl (λt ht=>⟨Bj ht,hhd t ht⟩)
         (Fr.refl _ _) (λ_ _ _ _=>rfl) (λ_ _ _ ho hu=>⟨ho,hu⟩) uK hnv (λb hb=>⟨(ab5 b hb).1,.inl (by rw[(hlv b hb).1];rfl)⟩)
        exact gx _ _ _ ⟨g2,EH⟩ hk
       cases hcur:((Γ k).cur&&cs.all AC.Fm)with
       |false=>rw[hcur]at hk;obtain⟨g',nm,hlv,hold⟩:=pC w' hw' iJ T' Nf ((Γ k).back y) jK fv A' (BI cs) jf FF RK rfl uK UT.1 BP FH He ab5;exact tail _ g' nm hlv hold hk
       |true=>rw[hcur]at hk;simp only[ae]at hcur;have agV:fp=[]:=On eL hcur.2;subst agV;obtain⟨g',nm,hlv,hold⟩:=hg.aaY s hb hcur.2 w' hw' iJ T' Nf ((Γ k).back y) jK fv A' (BI cs) ⟨jf.os,jf.tape,jf.output,jf.size,λb hb hm=>jf.block b hb (λhh=>hm (hh.resolve_right (by simp)))⟩ FF RK rfl uK UT.1 BP FH (λb hb=>⟨(He b hb).1,(He b hb).2.resolve_left (by simp)⟩) (λb hb=>⟨(ab5 b hb).1,(ab5 b hb).2.1.resolve_left (by simp),(ab5 b hb).2.2⟩);exact tail _ g' nm hlv hold hk
   cases hk
  cases hk
 cases hk
theorem arg_val (hA:c'.A=c.A)(hw:c'.w=c.w){x:AV}(h:fR c v x fp)(hx:x.GX=true):fp=[]/\fR c' v x []:=by
 cases x with
 |uF _=>cases hx
 |val g cs=>
  obtain⟨vs,fi,h⟩:=h
  have key:∀(cs:aw AC)(vs:iq)(fp:fw),bB c vs cs fp->cs.all AC.GX=true->fp=[]/\bB c' vs cs []:=by
   intro cs
   induction cs with
   |nil=>intro vs fp h _;cases vs with
    |nil=>exact⟨h,rfl⟩
    |cons _ _=>exact h.elim
   |cons x cs ih=>
    intro vs fp h hx
    cases vs with
    |nil=>exact h.elim
    |cons v vs=>
     obtain⟨f1,f2,rfl,h1,h2⟩:=h
     simp only[cb,ae]at hx
     obtain⟨rfl,k2⟩:=ih vs f2 h2 hx.2
     have hx:=hx.1
     have one:f1=[]/\gA c' v x []:=by
      cases x with
      |sl fl e xs=>cases fl with|arg k=>exact⟨h1.1,rfl,by rw[hA,hw];exact h1.2⟩|own _=>cases hx|loc _ _=>cases hx|nest _ _ _ _ _ _=>cases hx|part _ _ _ _=>cases hx|fg _ _ _=>cases hx
      |int _ _=>exact qg h1 rfl
      |bool _=>exact qg h1 rfl
      |str _=>exact qg h1 rfl
      |fn _=>exact qg h1 rfl
      |jm=>cases hx
      |ptr _ _=>cases hx
      |zM _ _ _ _ _=>cases hx
      |un=>cases hx
      |bot=>cases hx
     obtain⟨rfl,k1⟩:=one
     exact⟨rfl,[],[],rfl,k1,k2⟩
  obtain⟨e,k⟩:=key cs vs fp h hx;exact⟨e,vs,fi,k⟩
theorem QH (h:dM C g st a w []):∀(xs:aw Operand),xs.all (λx=>(st.rd x).GX)=true->oT C.A w (xs.map a.eval) (xs.map st.rd)
 |[],_=>trivial
 |x::xs,hf=>by simp only[cb,ae]at hf;exact⟨(arg_val (c:=cH C g st w) (c':=fH C.A (λ_=>0) w) rfl rfl (h.rd x) hf.1).2,QH h xs hf.2⟩
theorem ahT (yQ:∀f,gC P f (Γ f)){o':Oper}(ho:o'.op=.call {callee:=.value f,args,argTypes:=ts})(hg:dM C g st a w []){k:Nat}(hf:st.rd f=.val false [.fn k])(Yy:(Γ k).pr=true){K:AS->ax R}(hk:ZG Γ o' k args.toList st K=some r)(next:Act->World->Prop)(Q:Exit->Act->World->Prop)(gx:∀bH a' w',np C bH a' w'->K bH=some r->next a' w'):o'.wp P a w next Q:=by
 have Il:=hg.rd f;rw[hf]at Il;have Il:=(ew Il).1;unfold ZG at hk;split at hk
 ·rename_i d hd;split at hk
  ·rename_i Fc;cases hc:args.toList.all (λx=>(st.rd x).GX)with
   |false=>rw[hc]at hk;cases hk
   |true=>
    rw[hc]at hk;simp only[ah]at hk;cases gy:(Γ k).fn (args.toList.map st.rd)with
    |none=>rw[gy]at hk;cases hk
    |some y=>
     rw[gy]at hk;simp only[aa]at hk;cases UT:((Γ k).back y).all AC.GX with
     |false=>rw[UT]at hk;cases hk
     |true=>
      rw[UT]at hk;simp only[ah]at hk;obtain⟨⟨fn,c,RA,Rx,Am⟩,_,_,_,zO⟩:=yQ k _ y gy;have Ij:=zO Yy C.A w (args.toList.map a.eval) (λq b o hq=>Nat.lt_of_lt_of_le (C.hA q b o hq).1 hg.frame.size) (QH hg _ hc);have fN:(args.toList.map a.eval).toArray=args.map a.eval:=by apply eQ;simp
      rw[fN]at Ij;have ee:(execOp a.eval o').run P w=.ok (.enter k (args.map a.eval)) w:=by simp[execOp,ho,resolve,Il,Deferred.ofValue,invoke,callFunc,RA,Rx];simpa using Am
      unfold Oper.wp;rw[ee,Oper.upon_enter];refine Ij.mono ?_;rintro e w' ⟨b,arr,T,fr,hw,rfl,hb,jL,qZ,eL,jf⟩;show next (a.put o'.dst (.pointer (some ⟨b,0,none⟩))) w'
      rw[dJ]at Fc;have DY:=lB jL;have AY:∀b' x,g.ej b'=some x->b'≠b:=λb' x hx e=>by have:=(hg.fS b' x hx).1;omega
      have hr1:bB ⟨λb'=>if b'=b then 0 else g.hw b',λt=>if t=d then b else g.β t,C.A,g.hdr,md st,st.ep,iS st,w'⟩ arr.toList ((Γ k).back y) []:=by
       have hv:fR (fH C.A hw w') (.agg arr.toList.toArray) (.val true ((Γ k).back y)) []:=⟨arr.toList,rfl,eL⟩
       obtain⟨_,vs,fi,h⟩:=arg_val (c:=fH C.A hw w') (c':=⟨λb'=>if b'=b then 0 else g.hw b',λt=>if t=d then b else g.β t,C.A,g.hdr,md st,st.ep,iS st,w'⟩) rfl rfl hv UT;have:arr.toList=vs:=by have fi:Value.agg arr.toList.toArray=.agg vs.toArray:=fi;simp only[Value.agg.injEq]at fi;simpa using congrArg Array.toList fi
       rw[this];exact h
      obtain⟨g',Hg,h'⟩:=hg.TZ d (cs:=(Γ k).back y) (arr:=arr) (T:=T) (fr:=fr) (fp:=[]) (w':=w') (bnew:=b) (hw':=λb'=>if b'=b then 0 else g.hw b') (.inr ⟨hb,Fc⟩) ⟨jf.os,jf.tape,jf.output,jf.size,λb' gM _=>jf.block b' gM (λm=>m)⟩ jL qZ DY (by simp) (λb' x hx _ hn=>by simp[hn]) (λb' o u ho hu=>by have gM:b'<w.heap.size:=World.block_lt_of_cell? w _ hu;exact⟨by simp[show b'≠b by omega];exact ho,xV jf hu⟩) hr1 List.nodup_nil (by simp) (λb' gM=>by cases gM);have hdl:d<st.boxes.length:=(aF.1 Fc).1;have hq:=h'.quiet (some d) (v:=.pointer (some ⟨b,0,none⟩)) (av:=.one (.ptr d 0)) (lT ⟨by simp[cH,Hg],⟨(Γ k).back y,by rw[jJ];simp[hdl]⟩,rfl⟩);rw[hd];exact gx _ _ _ ⟨g',hq⟩ hk
  cases hk
 cases hk
theorem aeo (yQ:∀f,gC P f (Γ f)){o':Oper}(ho:o'.op=.call {callee:=.value f,args,argTypes:=ts})(h:np C st a w){K:AS->ax R}(hk:BK Γ o' f args.toList st K=some r)(next:Act->World->Prop)(Q:Exit->Act->World->Prop)(gx:∀bH a' w',np C bH a' w'->K bH=some r->next a' w'):o'.wp P a w next Q:=by
 obtain⟨g,hg⟩:=h;unfold BK at hk;split at hk
 ·rename_i k hf
  have Il:=hg.rd f
  rw[hf]at Il
  have Il:=(ew Il).1
  cases ju:(Γ k).bx with
  |true=>rw[ju]at hk;exact agJ yQ ho hg hf ju hk next Q gx
  |false=>
  rw[ju]at hk
  simp only[af]at hk
  cases Yy:(Γ k).pr with
  |true=>rw[Yy]at hk;exact ahT yQ ho hg hf Yy hk next Q gx
  |false=>
  rw[Yy]at hk
  simp only[af]at hk
  cases Mm:(Γ k).io with
  |true=>rw[Mm]at hk;cases hk
  |false=>
  rw[Mm]at hk
  simp only[af]at hk
  cases gy:(Γ k).fn (args.toList.map λx=>((st.rd x).fresh st).asArg st.ep)with
  |none=>rw[gy]at hk;cases hk
  |some y0=>
   rw[gy]at hk
   simp only[aa]at hk
   obtain⟨⟨fn,c,RA,Rx,Am⟩,zO,_⟩:=yQ k _ y0 gy
   have zO:=zO Mm ju
   have hk:K ((st.fz o'.dst).put o'.dst (((Γ k).res y0).BJ st.ep (st.gS o'.dst)))=some r:=by unfold iZ.res;cases Mp:(Γ k).sel y0 with|true=>rw[Mp]at hk;exact hk|false=>rw[Mp]at hk;exact hk
   generalize hy0:(Γ k).res y0=y at hk zO
   have Ij:=zO (λ_ b o=>(cH C g st w).S b o/\b<w.heap.size) w (args.toList.map a.eval) (λ_ _ _ h=>h.2) (QI hg args.toList)
   have fN:(args.toList.map a.eval).toArray=args.map a.eval:=by apply eQ;simp
   rw[fN]at Ij
   have ee:(execOp a.eval o').run P w=.ok (.enter k (args.map a.eval)) w:=by simp[execOp,ho,resolve,Il,Deferred.ofValue,invoke,callFunc,RA,Rx];simpa using Am
   unfold Oper.wp
   rw[ee,Oper.upon_enter]
   refine Ij.mono ?_
   rintro e w' ⟨v,hw,fp,rfl,eL,Dq,BM,jf⟩
   show next (a.put o'.dst v) w'
   let hw':Nat->Nat:=λb=>if b∈fp then hw b else g.hw b
   have UY:∀b,b<w.heap.size->b∉fp:=λb hb hm=>by have:=(BM b hm).1;omega
   have hA':∀(hd:Nat->Value)(_:Bool)(b o:Nat),((cH C g st w).S b o/\b<w.heap.size)->(cH C {g with hw:=hw',hdr:=hd} (st.fz o'.dst) w').S b o:=by rintro hd _ b o ⟨hs,hb⟩;rcases hs with hs|hs;exact .inl hs;exact .inr (by simp only[cH,hw',aH (UY b hb)];exact hs)
   have uK:∃hd,(∀t,md st t->hd t=g.hdr t)/\fR (cH C {g with hw:=hw',hdr:=hd} (st.fz o'.dst) w') v (y.BJ st.ep (st.gS o'.dst)) fp:=by
    have ab3:∀b∈fp,hw' b=hw b:=λb hb=>by simp[hw',hb]
    cases y with
    |val gg cs=>obtain⟨vs,fi,hr⟩:=eL;refine⟨pN g.hdr (st.gS o'.dst) vs,λt ht=>yt ht,vs,fi,?_⟩;have:=yU (c:=cH C {g with hw:=hw',hdr:=pN g.hdr (st.gS o'.dst) vs} (st.fz o'.dst) w') (mk:=st.gS o'.dst) (hA' _) 0 hr ab3 (λi u hu t ht=>by rw[ca]at ht;exact⟨(oK ht).2.1,yr hu ht⟩);have wN:(cH C {g with hw:=hw',hdr:=pN g.hdr (st.gS o'.dst) vs} (st.fz o'.dst) w').ep=st.ep:=yl;rw[wN]at this;exact this
    |uF ts=>obtain⟨ws,hv,hr⟩:=eL;obtain⟨all,EG⟩:=Hq hr;refine⟨pN g.hdr (st.gS o'.dst) all,λt ht=>yt ht,ws,hv,?_⟩;have:=KT (c:=cH C {g with hw:=hw',hdr:=pN g.hdr (st.gS o'.dst) all} (st.fz o'.dst) w') (mk:=st.gS o'.dst) (hA' _) EG 0 ab3 (λi u hu t ht=>by rw[ca]at ht;exact⟨(oK ht).2.1,yr hu ht⟩);have wN:(cH C {g with hw:=hw',hdr:=pN g.hdr (st.gS o'.dst) all} (st.fz o'.dst) w').ep=st.ep:=yl;rw[wN]at this;exact this
   obtain⟨hd,hhd,uK⟩:=uK
   obtain⟨g',nm⟩:=hg.Ll o'.dst (hw':=hw') (hdr':=hd) (fp:=fp) (st1:=st.fz o'.dst) F7 sZ yW yl (λt ht=>⟨Bj ht,hhd t ht⟩)
    ⟨jf.os,jf.tape,jf.output,jf.size,λb hb _=>jf.block b hb (λm=>m)⟩ (λb x hx _=>by simp[hw',UY b (hg.fS b x hx).1])
    (λb o u ho hu=>by have hb:b<w.heap.size:=World.block_lt_of_cell? w _ hu;exact⟨by simp[hw',UY b hb];exact ho,xV jf hu⟩) uK Dq (λb hb=>⟨(BM b hb).2,.inr (BM b hb).1⟩)
   exact gx _ _ _ ⟨g',nm⟩ hk
 cases hk
end Go.Dn
