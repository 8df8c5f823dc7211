import Derived.Test.YtinkcmefgciifaaGreatDnOps8
/- A call by value: what a callee promises, and what the caller makes of it. -/
namespace Go.Dn
open Go.RowKit
variable {P:Program} {C:Ctx} {st:AS} {a:Act} {w:World} {R:Type} {r:R}
variable {x:AC} {args:Array Operand} {ts:Array TypeId} {Γ:xU} {g:Gh} {hw:Nat->Nat} {hdr:Nat->Value} {f:Operand} {c c':RC} {v:Value} {cs:aw AC} {d:ax Nat} {fp:fw} {all:iu}
def fH (A:Rg)(hw:Nat->Nat)(w:World):RC:=⟨hw,λ_=>0,A,λ_=>undef,λ_=>False,0,λ_=>False,w⟩
def oT (A:Rg)(w:World):iu->aw AV->Prop
 |[],[]=>True
 |v::vs,x::xs=>fR (fH A (λ_=>0) w) v x []/\oT A w vs xs
 |_,_=>False
def amZ (P:Program)(f:Nat)(F:jb)(y:F.R)(g:Bool)(cs:aw AC)(rest:aw AV):Prop:=
 ∀(A:Rg)(w:World)(v0:Value)(vs:iu)(hw:Nat->Nat)(fp:fw),(∀k b o,A k b o->b<w.heap.size/\b∉fp)->fR (fH A hw w) v0 (.val g cs) fp->fp.Nodup->(∀b∈fp,b<w.heap.size)->oT A w vs rest->
  Calls P f (v0::vs).toArray w λe w'=>∃v hw' fr jM,e=.returned v/\fR (fH A hw' w') v (F.av y) fr/\fR (fH A hw' w') v0 (.val g (F.back y)) jM/\jM.Nodup/\
   (∀b∈jM,b<w'.heap.size/\(b∈fp\/w.heap.size<=b))/\Fr (λb=>b∈fp) w w'
def aiJ (P:Program)(f:Nat)(F:jb)(y:F.R)(cs:aw AC)(rest:aw AV):Prop:=
 ∀(A:Rg)(w:World)(b:Nat)(vs:iu)(arr:Array Value)(T:TypeId)(fr:Nat×Nat)(hw:Nat->Nat)(fp:fw),(∀k b' o,A k b' o->b'<w.heap.size/\b'≠b/\b'∉fp)->
  w.heap[b]?=some (.cells arr T fr)->oR arr fr->bB (fH A hw w) arr.toList cs fp->fp.Nodup->b∉fp->(∀b'∈fp,b'<w.heap.size)->hw b=0->oT A w vs rest->
  Calls P f (.pointer (some ⟨b,0,none⟩)::vs).toArray w λe w'=>∃v hw' fv iL T' Nc jM,e=.returned v/\fR (fH A hw' w') v (F.av y) fv/\w'.heap[b]?=some (.cells iL T' Nc)/\oR iL Nc/\
   bB (fH A hw' w') iL.toList (F.back y) jM/\jM.Nodup/\b∉jM/\(∀b'∈jM,b'<w'.heap.size/\(b'∈fp\/w.heap.size<=b'))/\fv.Nodup/\(∀b'∈fv,b'<w'.heap.size/\(b'∈fp\/w.heap.size<=b')/\b'∉jM/\b'≠b)/\Fr (λb'=>b'=b\/b'∈fp) w w'
def afJ (P:Program)(f:Nat)(F:jb)(y:F.R)(xs:aw AV):Prop:=
 ∀(A:Rg)(w:World)(vs:iu),(∀k b o,A k b o->b<w.heap.size)->oT A w vs xs->
  Calls P f vs.toArray w λe w'=>∃b arr T fr hw,e=.returned (.pointer (some ⟨b,0,none⟩))/\w.heap.size<=b/\w'.heap[b]?=some (.cells arr T fr)/\oR arr fr/\bB (fH A hw w') arr.toList (F.back y) []/\Fr (λ_=>False) w w'
def gE (P:Program)(f:Nat)(F:jb):Prop:=
 ∀(xs:aw AV)(y:F.R),F.fn xs=some y->
  (∃fn c,P.funcs[f]?=some fn/\fn.body=some c/\(fn.name== "runtime.NumGoroutine")=false)/\
  (F.io=false->F.bx=false->∀(A:Rg)(w:World)(vs:iu),(∀k b o,A k b o->b<w.heap.size)->oT A w vs xs->
    Calls P f vs.toArray w λe w'=>∃v hw fp,e=.returned v/\fR (fH A hw w') v (F.res y) fp/\fp.Nodup/\(∀b∈fp,w.heap.size<=b/\b<w'.heap.size)/\Fr (λ_=>False) w w')/\
  (F.io=true->∀g cs rest,xs=.val g cs::rest->amZ P f F y g cs rest)/\
  (F.bx=true->∀cs rest,xs=.val true cs::rest->aiJ P f F y cs rest)/\
  (F.pr=true->afJ P f F y xs)
theorem qg (h:gC c v x fp)(hf:x.jg=true):fp=[]/\gC c' v x []:=by cases x with|int k n=>exact⟨h.2,h.1,rfl⟩|bool b=>exact⟨h.2,h.1,rfl⟩|str s=>exact⟨h.2,h.1,rfl⟩|fn f=>exact⟨h.2,h.1,rfl⟩|_=>cases hf
theorem ED {c':RC}:∀{vs:iu}{xs:aw AC}{fp:fw},bB c vs xs fp->xs.all AC.jg=true->fp=[]/\bB c' vs xs []
 |[],[],_,h,_=>⟨h,rfl⟩
 |_::_,_::_,_,h,hf=>by obtain⟨f1,f2,rfl,h1,h2⟩:=h;simp only[cb,ae]at hf;obtain⟨rfl,k1⟩:=qg (c':=c') h1 hf.1;obtain⟨rfl,k2⟩:=ED (c':=c') h2 hf.2;exact⟨rfl,[],[],rfl,k1,k2⟩
 |[],_::_,_,h,_=>h.elim
 |_::_,[],_,h,_=>h.elim
theorem Rb:∀{ws:iu}{ts:aw (Bool×aw AC)}{fp:fw},fR.pF c ws ts fp->(ts.all λx=>x.2.all AC.jg)=true->fR.pF c' ws ts []
 |[],[],_,_,_=>rfl
 |_::_,_::_,_,h,hf=>by obtain⟨f1,f2,rfl,⟨vs,hv,h1⟩,h2⟩:=h;simp only[cb,ae]at hf;exact⟨[],[],rfl,⟨vs,hv,(ED h1 hf.1).2⟩,Rb h2 hf.2⟩
 |[],_::_,_,h,_=>h.elim
 |_::_,[],_,h,_=>h.elim
theorem Kf {x:AV}(h:fR c v x fp)(hf:x.jg=true):fR c' v x []:=by
 cases x with
 |val g cs=>obtain⟨vs,hv,h⟩:=h;exact⟨vs,hv,(ED h hf).2⟩
 |uG ts=>obtain⟨ws,hv,h⟩:=h;exact⟨ws,hv,Rb h hf⟩
theorem Wa {A:Rg}:∀(os ss:aw AC){r:aw AC}{vs us:iu}{f:fw},mY os ss=some r->bB c vs os []->bB c us ss f->bB (fH A c.hw c.w) vs r f:=by
 intro os;induction os with
 |nil=>intro ss r vs us f h hv hu;cases ss with|cons _ _=>simp[mY]at h|nil=>simp[mY]at h;subst h;cases vs with|cons _ _=>exact hv.elim|nil=>cases us with|cons _ _=>exact hu.elim|nil=>exact hu
 |cons o os ih=>
  intro ss r vs us f h hv hu;cases vs with
  |nil=>exact hv.elim
  |cons v vs=>
   cases ss with
   |nil=>unfold mY at h;split at h<;>first|contradiction|cases h
   |cons s ss=>
    cases us with
    |nil=>exact hu.elim
    |cons u us=>
     obtain⟨g1,g2,hg,hv1,Po⟩:=hv;have e1:g1=[]:=by have:=hg.symm;simp at this;exact this.1
     have e2:g2=[]:=by have:=hg.symm;simp at this;exact this.2
     subst e1;subst e2;obtain⟨f1,f2,rfl,hu1,hu2⟩:=hu;have fl:∀{x:AC}{r'},x.jg=true->s.jg=true->o=x->mY os ss=some r'->r=x::r'->bB (fH A c.hw c.w) (v::vs) r (f1++f2):=by rintro x r' hx hs rfl hr rfl;obtain⟨rfl,_⟩:=qg (c':=c) hu1 hs;exact⟨[],f2,rfl,(qg hv1 hx).2,ih ss hr Po hu2⟩
     unfold mY at h;split at h;contradiction;rename_i ep rt t e0 xs0 os' t' e xs ss' h1 h2;injection h1 with h1 L4;subst h1;subst L4;injection h2 with h2 Qv;subst h2;subst Qv;cases ht:(t'==t)with
     |false=>rw[ht]at h;cases h
     |true=>
      have:t'=t:=by simpa using ht
      subst this;rw[ht]at h;simp only[ah]at h;obtain⟨r',hr,h⟩:=aL.1 h;cases h;have Pn:=(hv1.2.2.2.2 rt t' rfl).2;have Pm:=(hu1.2 t' rfl).2;have huv:u=v:=Pm.trans Pn.symm;subst huv;exact⟨f1,f2,rfl,⟨hu1.1,by simp⟩,ih _ hr Po hu2⟩
     rename_i k n os' k' n' ss' h1 h2;injection h1 with h1 L4;subst L4;injection h2 with h2 Qv;subst h2;subst Qv;obtain⟨r',hr,h⟩:=aL.1 h;cases h;exact fl (x:=.int k n) rfl rfl h1 hr rfl;rename_i k os' k' ss' h1 h2;injection h1 with h1 L4;subst L4;injection h2 with h2 Qv;subst h2;subst Qv;obtain⟨r',hr,h⟩:=aL.1 h;cases h;exact fl (x:=.bool k) rfl rfl h1 hr rfl;rename_i k os' k' ss' h1 h2;injection h1 with h1 L4;subst L4;injection h2 with h2 Qv;subst h2;subst Qv;obtain⟨r',hr,h⟩:=aL.1 h;cases h;exact fl (x:=.str k) rfl rfl h1 hr rfl;cases h
theorem TS (h:gC c v x fp):gC (fH (λ_ b o=>c.S b o/\b<c.w.heap.size) (λ_=>0) c.w) v (x.asArg c.ep) []:=by
 have hS:∀{e:CT}{xs:aw e.D},iV c.w c.S (.sl e) [v] xs->iV c.w (λb o=>c.S b o/\b<c.w.heap.size) (.sl e) [v] xs:=λhr=>
  iV.mono (λb o u hs hu=>⟨⟨hs,World.block_lt_of_cell? c.w _ hu⟩,hu⟩) hr
 cases x with|int k n=>exact⟨h.1,rfl⟩|bool b=>exact⟨h.1,rfl⟩|str s=>exact⟨h.1,rfl⟩|jo=>exact⟨h.1,rfl⟩|fn f=>exact⟨h.1,rfl⟩|ptr s off=>exact rfl|un=>exact rfl|bot=>exact rfl|zM fl e y i off=>exact rfl|sl fl e xs=>cases fl with|nest _ _ _ _ _ _=>exact rfl|part _ _ _ _=>exact rfl|fg _ _ _=>exact rfl|own t=>exact⟨rfl,hS (ff.rep (λb o ho=> .inr ho) h.1)⟩|arg k=>exact⟨rfl,hS (iV.mono (λb o u hs hu=>⟨.inl ⟨k,hs⟩,hu⟩) h.2)⟩|loc ep pv=>simp only[AC.asArg];split;rename_i he;exact⟨rfl,hS (h.2.2.2.1 (by simpa using he))⟩;exact rfl
theorem H4:∀{vs:iu}{xs:aw AC}{fp:fw},bB c vs xs fp->bB (fH (λ_ b o=>c.S b o/\b<c.w.heap.size) (λ_=>0) c.w) vs (xs.map (AC.asArg c.ep)) []
 |[],[],_,_=>rfl
 |_::_,_::_,_,h=>by obtain⟨f1,f2,rfl,h1,h2⟩:=h;exact⟨[],[],rfl,TS h1,H4 h2⟩
 |[],_::_,_,h=>h.elim
 |_::_,[],_,h=>h.elim
theorem X0 {x:AV}(h:fR c v x fp):fR (fH (λ_ b o=>c.S b o/\b<c.w.heap.size) (λ_=>0) c.w) v (x.asArg c.ep) []:=by
 cases x with
 |val g cs=>obtain⟨vs,hv,h⟩:=h;exact⟨vs,hv,H4 h⟩
 |uG ts=>exact fR.bot _ _
theorem QH (h:dM C g st a w []):∀(args:aw Operand),
 oT (λ_ b o=>(cH C g st w).S b o/\b<w.heap.size) w (args.map a.eval) (args.map λx=>((st.rd x).fresh st).asArg st.ep)
 |[]=>trivial
 |x::xs=>⟨X0 (c:=cH C g st w) (h.fresh (h.rd x)),QH h xs⟩
theorem TT {A':Rg}{tag:ax Nat}(h:gC (fH A' hw c.w) v x fp)(hA:∀k b o,A' k b o->c.S b o)(Dq:∀b∈fp,c.hw b=hw b)(ht:∀t,tag=some t->c.iss t/\v=c.hdr t):gC c v (x.BJ c.ep tag) fp:=by
 cases x with
 |int k n=>exact h
 |bool b=>exact h
 |str s=>exact h
 |jo=>exact h
 |fn f=>exact h
 |ptr s off=>exact h.2.2
 |un=>exact h
 |bot=>exact h
 |zM fl e y i off=>cases fl with|own t=>exact h.elim|nest _ _ _ _ _ _=>exact h.elim|part _ _ _ _=>exact h.elim|fg _ _ _=>exact h.elim|arg _=>exact h.1|loc ep pv=>exact h.1
 |sl fl e xs=>
  cases fl with
  |nest _ _ _ _ _ _=>exact h.1
  |part _ _ _ _=>exact h.1
  |fg _ _ _=>obtain⟨_,⟨k,hk,h3⟩,_⟩:=h;exact⟨λq hq=>(by cases hq),⟨k,hk,h3.mono (λb hb=>⟨rfl,Dq b hb⟩)⟩,by simp⟩
  |own t=>exact⟨ff.mono h.1 (λb hb=>⟨rfl,Dq b hb⟩),ht⟩
  |loc ep pv=>exact h.1
  |arg _=>have hr:iV c.w c.S (.sl e) [v] xs:=iV.mono (λb o u hs hu=>⟨hA _ b o hs,hu⟩) h.2;refine⟨h.1,aU _,?_,λ_=>hr,by simp⟩;obtain⟨u,hu,k⟩:=hr;simp at hu;subst hu;rcases k with⟨⟨ad,rfl⟩,rfl⟩|⟨b,o,cap,rfl,_⟩;exact⟨_,_,_,rfl,rfl⟩;exact⟨_,_,_,rfl,rfl⟩
theorem yU {A':Rg}{mk:Nat->ax Nat}(hA:∀k b o,A' k b o->c.S b o):∀{vs:iu}{xs:aw AC}{fp:fw}(j:Nat),bB (fH A' hw c.w) vs xs fp->(∀b∈fp,c.hw b=hw b)->
 (∀i v,vs[i]?=some v->∀t,mk (j+i)=some t->c.iss t/\v=c.hdr t)->bB c vs (Gr c.ep mk j xs) fp
 |[],[],_,_,h,_,_=>h
 |v::_,_::_,_,j,h,hh,hm=>by obtain⟨f1,f2,rfl,h1,h2⟩:=h;exact⟨f1,f2,rfl,TT h1 hA (λb hb=>hh b (bt _ hb)) (λt ht=>hm 0 v rfl t ht),yU hA (j+1) h2 (λb hb=>hh b (bj _ hb)) (λi u hu t ht=>hm (i+1) u (by simpa using hu) t (by rwa[show j+(i+1)=j+1+i by omega]))⟩
 |[],_::_,_,_,h,_,_=>h.elim
 |_::_,[],_,_,h,_,_=>h.elim
inductive Leaves (A:Rg) (hw:Nat->Nat) (w:World):List Value->List (Bool×List AC)->List Nat->List Value->Prop
 |nil:Leaves A hw w [] [] [] []
 |cons {v:Value} {vs:List Value} {g:Bool} {cs:List AC} {ts:List (Bool×List AC)} {f1 f2:List Nat} {us all:List Value} (fi:Cut g v us) (hr:bB (fH A hw w) us cs f1) (h:Leaves A hw w vs ts f2 all):
  Leaves A hw w (v::vs) ((g,cs)::ts) (f1++f2) (us++all)
theorem Hp {A:Rg}{w:World}:∀{ws:iu}{ts:aw (Bool×aw AC)}{fp:fw},fR.pF (fH A hw w) ws ts fp->∃all,Leaves A hw w ws ts fp all
 |[],[],_,h=>by cases h;exact⟨[],.nil⟩
 |_::_,(g,cs)::_,_,h=>by obtain⟨f1,f2,rfl,⟨us,fi,hr⟩,h2⟩:=h;obtain⟨all,EH⟩:=Hp h2;exact⟨us++all,.cons fi hr EH⟩
 |[],_::_,_,h=>h.elim
 |_::_,[],_,h=>h.elim
theorem KS {A':Rg}{mk:Nat->ax Nat}(hA:∀k b o,A' k b o->c.S b o){ws:iu}{ts:aw (Bool×aw AC)}(h:Leaves A' hw c.w ws ts fp all): ∀j,(∀b∈fp,c.hw b=hw b)->(∀i v,all[i]?=some v->∀t,mk (j+i)=some t->c.iss t/\v=c.hdr t)->fR.pF c ws (V4 c.ep mk j ts) fp:=by induction h with|nil=>intro j _ _;exact rfl| @cons v vs g cs ts f1 f2 us all fi hr h ih=>intro j hh hm;have hl:=hr.length;refine⟨f1,f2,rfl,⟨us,fi,yU hA j hr (λb hb=>hh b (bt _ hb)) (λi u hu t ht=>?_)⟩,ih _ (λb hb=>hh b (bj _ hb)) (λi u hu t ht=>?_)⟩;exact hm i u (by rw[bz (aF.1 hu).1];exact hu) t ht;have hl':us.length=cs.length:=hl;refine hm (us.length+i) u (by rw[bq (by omega)];simpa using hu) t ?_;rw[<-fC,hl'];exact ht
def pN (hdr:Nat->Value)(mk:Nat->ax Nat)(all:iu):Nat->Value:=λu=>if mk (u/3%4096)=some u then(all[u/3%4096]?).getD undef else hdr u
theorem yt {t:Nat}(h:md st t):pN hdr (st.gU d) all t=hdr t:=by unfold pN;rw[aH];intro e;exact(oK e).1 h
theorem yr {i t:Nat}(hv:all[i]?=some v)(h:st.gU d i=some t):v=pN hdr (st.gU d) all t:=by
 obtain⟨_,_,d',rfl,ht,hi⟩:=oK h;have aeG:t/3%4096=i:=by rw[ht,GG];omega
 unfold pN;rw[aeG,aE h,hv];rfl
theorem Wn {vs us:iu}{seg:aw AC}{f1 f2 f3:fw}{off n:Nat}(hus:us=(vs.drop off).take n)(hln:us.length=n)(r1:bB c' (vs.take off) (cs.take off) f1)(r2:bB c' us seg f2)(r3:bB c' (vs.drop (off+n)) (cs.drop (off+n)) f3): bB c' vs (dZ cs off seg) (f1++f2++f3):=by
 have xY:=r2.length;have e:vs=vs.take off++us++vs.drop (off+n):=by rw[hus,aR,<-eH,cl,cl]
 rw[e,dZ,show seg.length=n by omega];exact bB.append (bB.append r1 r2) r3
theorem MB:∀(os ss:aw AC){r:aw AC},mY os ss=some r->ss.length=os.length:=by
 intro os
 induction os with
 |nil=>intro ss r h;cases ss with
  |nil=>rfl
  |cons _ _=>simp[mY]at h
 |cons o os ih=>
  intro ss r h
  cases ss with
  |nil=>unfold mY at h;split at h<;>first|contradiction|cases h
  |cons s ss=>
   unfold mY at h
   split at h
   ·contradiction
   ·rename_i h1 h2
    injection h1 with h1 L4;subst L4
    injection h2 with h2 Qv;subst Qv
    rw[Bool.cond_eq_ite]at h
    split at h
    ·obtain⟨r',hr,h⟩:=aL.1 h
     simp[ih _ hr]
    ·cases h
   all_goals first
    |cases h
    |(rename_i h1 h2
      injection h1 with h1 L4;subst L4
      injection h2 with h2 Qv;subst Qv
      obtain⟨r',hr,h⟩:=aL.1 h
      simp[ih _ hr])
theorem Ev {A':Rg}{mk:Nat->ax Nat}{k:Bool}(hA:A' true=c.A k):∀{vs:iu}{xs:aw AC}{fp:fw}(j:Nat),bB (fH A' hw c.w) vs xs fp->xs.all (AC.xc true)=true->
 (∀b∈fp,c.hw b=hw b)->(∀i v,vs[i]?=some v->∀t,mk (j+i)=some t->c.iss t/\v=c.hdr t)->bB c vs (oG k mk j xs) fp
 |[],[],_,_,h,_,_,_=>h
 |v::_,x::_,_,j,h,nn,hh,hm=>by
  obtain⟨f1,f2,rfl,h1,h2⟩:=h;simp only[cb,ae]at nn;refine⟨f1,f2,rfl,?_,Ev hA (j+1) h2 nn.2 (λb hb=>hh b (bj _ hb)) (λi u hu t ht=>hm (i+1) u (by simpa using hu) t (by rwa[show j+(i+1)=j+1+i by omega]))⟩;have Dq:∀b∈f1,c.hw b=hw b:=λb hb=>hh b (bt _ hb);have ht:∀t,mk j=some t->c.iss t/\v=c.hdr t:=λt ht=>hm 0 v rfl t ht;have nn:=nn.1;cases x with
  |sl fl e xs=>
   cases fl with
   |own t=>exact⟨ff.mono h1.1 (λb hb=>⟨rfl,Dq b hb⟩),ht⟩
   |arg k'=>
    have hk:k'=true:=by simpa[AC.xc]using nn
    subst hk;exact⟨h1.1,by rw[<-hA];exact h1.2⟩
   |loc _ _=>cases nn
   |nest _ _ _ _ _ _=>cases nn
   |part _ _ _ _=>cases nn
   |fg _ _ _=>cases nn
  |int _ _=>exact h1
  |bool _=>exact h1
  |str _=>exact h1
  |fn _=>exact h1
  |jo=>cases nn
  |ptr _ _=>cases nn
  |zM _ _ _ _ _=>cases nn
  |un=>cases nn
  |bot=>cases nn
 |[],_::_,_,_,h,_,_,_=>h.elim
 |_::_,[],_,_,h,_,_,_=>h.elim
theorem GI {A':Rg}{w:World}{k:Bool}:∀{cs:aw AC},cs.all (AC.xc k)=true->∀{c:RC}{vs:iu}{fp:fw},bB c vs cs fp->c.w=w->c.hw=hw->A' true=c.A k->bB (fH A' hw w) vs (cs.map AC.Qk) fp
 |[],_,c,vs,fp,h,_,_,_=>by cases vs with|nil=>exact h|cons _ _=>exact h.elim
 |x::cs,nn,c,vs,fp,h,Qw,DQ,hA=>by
  cases vs with
  |nil=>exact h.elim
  |cons v vs=>
   obtain⟨f1,f2,rfl,h1,h2⟩:=h;simp only[cb,ae]at nn;refine⟨f1,f2,rfl,?_,GI nn.2 h2 Qw DQ hA⟩;have nn:=nn.1;cases x with
   |sl fl e xs=>
    cases fl with
    |own t=>exact⟨by have:=h1.1;rw[Qw,DQ]at this;exact this,by simp⟩
    |arg k'=>
     have hk:k'=k:=by simpa[AC.xc]using nn
     subst hk;exact⟨h1.1,by have:=h1.2;rw[Qw,<-hA]at this;exact this⟩
    |loc _ _=>cases nn
    |nest _ _ _ _ _ _=>cases nn
    |part _ _ _ _=>cases nn
    |fg _ _ _=>cases nn
   |int _ _=>exact h1
   |bool _=>exact h1
   |str _=>exact h1
   |fn _=>exact h1
   |jo=>cases nn
   |ptr _ _=>cases nn
   |zM _ _ _ _ _=>cases nn
   |un=>cases nn
   |bot=>cases nn
theorem NB (h:dM C g st a w [])(s:Nat){A':Rg}(hA:∀b o,(cH C g st w).S b o/\b<w.heap.size/\g.ej b≠some (.box s)->A' false b o):∀(xs:aw Operand),xs.all (Au st)=true->
 oT A' w (xs.map a.eval) (xs.map (zu st))
 |[],_=>trivial
 |x::xs,hx=>by
  simp only[cb,ae]at hx;refine⟨?_,NB h s hA xs hx.2⟩;have hx:=hx.1;cases x with
  |const _=>exact Kf (h.rd _) hx
  |func _=>exact Kf (h.rd _) hx
  |global _=>exact Kf (h.rd _) hx
  |tmp t=>
   have gG:∀(t0:Nat){e:CT}{v:Value}{xs:aw e.D}{fp:fw},ff g.hw w (.sl e) [v] xs fp->(∀b∈fp,g.ej b=some (.slot t0))->iV w (A' false) (.sl e) [v] xs:=by
    intro t0 e v xs fp h1 hl;have h3:ff (λb=>if b∈fp then g.hw b else 0) w (.sl e) [v] xs fp:=ff.mono h1 (λb hb=>⟨rfl,by simp[hb]⟩)
    exact ff.rep (λb o ho=>by
     by_cases hb:b∈fp;have ho:o<g.hw b:=by simpa[hb]using ho
     have Ni:=hl b hb;exact hA b o ⟨.inr ho,(h.fS b _ Ni).1,by rw[Ni];simp⟩;simp[hb]at ho) h3
   obtain⟨fp,hr,hn,hl⟩:=h.slot t;simp only[Au]at hx;show fR _ (a.tmps.getD t undef) (zu st (.tmp t)) _;simp only[zu];cases hv:st.get t with
   |uG _=>rw[hv]at hx;cases hx
   |val gg cs=>
    rw[hv]at hx hr;simp only at hx;obtain⟨vs,fi,hr⟩:=hr
    have key:∀(cs:aw AC)(vs:iu)(fp:fw),(cs.map st.Ms).all AC.GY=true->(∀b∈fp,g.ej b=some (.slot t))->bB (cH C g st w) vs cs fp->
     bB (fH A' (λ_=>0) w) vs (cs.map st.Ms) []:=by
     intro cs
     induction cs with
     |nil=>intro vs fp _ _ h;cases vs with
      |nil=>rfl
      |cons _ _=>exact h.elim
     |cons c cs ih=>
      intro vs fp hc hl hr
      cases vs with
      |nil=>exact hr.elim
      |cons v vs=>
       obtain⟨f1,f2,rfl,h1,h2⟩:=hr
       simp only[cV,cb,ae]at hc
       refine⟨[],[],rfl,?_,ih vs f2 hc.2 (λb hb=>hl b (bj _ hb)) h2⟩
       have hc:=hc.1
       cases c with
       |sl fl e xs=>
        cases fl with
        |own tag=>exact⟨rfl,gG t h1.1 (λb hb=>hl b (bt _ hb))⟩
        |arg k=>exact⟨rfl,iV.mono (λb o u hs hu=>⟨hA b o ⟨.inl ⟨k,hs⟩,World.block_lt_of_cell? w _ hu,λhb=>h.KQ hb k o hs⟩,hu⟩) h1.2⟩
        |loc ep pv=>
         cases pv with
         |none=>cases hc
         |some q=>
          obtain⟨r,tg⟩:=q
          cases r with
          |box _ _=>cases hc
          |io _=>cases hc
          |slot b j=>
           have Po:=(h1.2.2.2.2 (.slot b j) tg rfl).2
           simp only[AS.Ms]at hc⊢
           cases TH:st.eM (.slot b j)with
           |none=>rw[TH]at hc;cases hc
           |some c0=>
            rw[TH]at hc
            split at hc
            ·rename_i t' e' ys W9
             split at hc
             ·rename_i ht
              subst ht
              cases W9
              rw[aE rfl]
              obtain⟨fp2,Mm,_,xY⟩:=h.slot b
              simp only[AS.eM]at TH
              cases hgb:st.get b with
              |uG _=>rw[hgb]at TH;cases TH
              |val g2 BV=>
               rw[hgb]at TH Mm
               simp only at TH
               obtain⟨vs2,_,Mm⟩:=Mm
               rw[dJ]at TH
               obtain⟨v2,f3,_,Ky,oP⟩:=Mm.get j _ TH
               have anU:v=v2:=by have:=(Ky.2 t' rfl).2;rw[Po,this]
               rw[anU]
               exact⟨rfl,gG b Ky.1 (λb' gO=>xY b' (oP b' gO))⟩
             ·cases hc
            ·cases hc
        |nest _ _ _ _ _ _=>cases hc
        |part _ _ _ _=>cases hc
        |fg _ _ _=>cases hc
       |int _ _=>exact⟨h1.1,rfl⟩
       |bool _=>exact⟨h1.1,rfl⟩
       |str _=>exact⟨h1.1,rfl⟩
       |fn _=>exact⟨h1.1,rfl⟩
       |jo=>cases hc
       |ptr _ _=>cases hc
       |zM _ _ _ _ _=>cases hc
       |un=>cases hc
       |bot=>cases hc
    exact⟨vs,fi,key cs vs fp hx hl hr⟩
theorem dM.aeo (h:dM C g st a w [])(s:Nat)(jw:st.boxes[s]?=some (some cs)): ∃arr T fr fp,w.heap[g.β s]?=some (.cells arr T fr)/\oR arr fr/\bB (cH C g st w) arr.toList cs fp/\fp.Nodup/\g.β s∉fp/\(∀b∈fp,b<w.heap.size)/\g.hw (g.β s)=0/\(∀b,b=g.β s\/b∈fp->g.ej b=some (.box s))/\ ∀(w':World)(hw':Nat->Nat)(iL:Array Value)(T':TypeId)(Nc:Nat×Nat)(pH:aw AC)(jM fv:fw)(A':Rg)(k:Bool),Fr (λb=>b=g.β s\/b∈fp) w w'->w'.heap[g.β s]?=some (.cells iL T' Nc)->oR iL Nc-> A' true=C.A k->bB (fH A' hw' w') iL.toList pH jM->pH.all (AC.xc true)=true->jM.Nodup->g.β s∉jM->(∀b∈jM,b<w'.heap.size/\(b∈fp\/w.heap.size<=b))-> (∀b∈fv,b<w'.heap.size/\(b∈fp\/w.heap.size<=b)/\b∉jM/\b≠g.β s)-> ∃g',dM C g' (WO st s (oG k (st.gU (some s)) 0 pH)) a w' []/\(∀b∈fv,g'.ej b=some (.hand 0)/\g'.hw b=hw' b)/\∀b,b<w.heap.size->g.ej b≠some (.box s)->g'.hw b=g.hw b:=by
 obtain⟨arr,T,fr,fp,jN,qZ,hr,hn,uK,hl,Fb,Ff⟩:=h.boxes s cs jw;have xn:s<st.boxes.length:=(aF.1 jw).1;have Kr:∀b,b=g.β s\/b∈fp->g.ej b=some (.box s):=by rintro b (rfl|hb);exact Fb;exact hl b hb
 refine⟨arr,T,fr,fp,jN,qZ,hr,hn,uK,λb hb=>(h.fS b _ (hl b hb)).1,Ff,Kr,?_⟩;intro w' hw' iL T' Nc pH jM fv A' k jh FG RI hA' uL ahb BP FI Hd Ik;let X5:aw AC:=oG k (st.gU (some s)) 0 pH;let bH:AS:=WO st s X5;let hw2:Nat->Nat:=λb=>if b∈jM\/b∈fv then hw' b else if b=g.β s then 0 else g.hw b
 let acK:Nat->ax jA:=λb=>if b=g.β s\/b∈jM then some (.box s) else if b∈fv then some (.hand 0) else g.ej b
 let g':Gh:=⟨hw2,g.β,acK,pN g.hdr (st.gU (some s)) iL.toList⟩
 have sI:bH.boxes=st.boxes.set s (some X5):=by show((st.eF s (some X5)).fz (some s)).boxes=_;rw[yW,jL]
 have Kz:bH.slots=st.slots:=by show((st.eF s (some X5)).fz (some s)).slots=_;rw[sZ];rfl
 have Mk:bH.io=st.io:=by show((st.eF s (some X5)).fz (some s)).io=_;rw[F8];rfl
 have I5:∀t,md st t->md bH t:=λt ht=>by have h1:md (st.eF s (some X5)) t:=ht;exact Bj (d:=some s) h1
 have YB:∀t,iU st t->iU bH t:=by rintro t ⟨c0,W9⟩;by_cases rU:s=t;subst rU;exact⟨X5,by rw[sI];simp[xn]⟩;exact⟨c0,by rw[sI,aO rU];exact W9⟩
 have RF:∀b,b<w.heap.size->g.ej b≠some (.box s)->b∉jM/\b∉fv/\b≠g.β s:=by intro b hb Ni;refine⟨λhm=>?_,λhm=>?_,λhm=>Ni (Kr b (.inl hm))⟩;rcases(Hd b hm).2 with h2|h2;exact Ni (Kr b (.inr h2));omega;rcases(Ik b hm).2.1 with h2|h2;exact Ni (Kr b (.inr h2));omega
 have rj:∀b x,x≠ .box s->g.ej b=some x->acK b=some x/\w'.heap[b]?=w.heap[b]?/\hw2 b=g.hw b:=by intro b x hx hb;have DZ:=(h.fS b x hb).1;have hnm:¬(b=g.β s\/b∈fp):=λhm=>hx (by have:=Kr b hm;rw[hb]at this;simpa using this);obtain⟨n1,n2,n3⟩:=RF b DZ (by rw[hb];simpa using hx);refine⟨?_,jh.block b DZ hnm,?_⟩;show(if b=g.β s\/b∈jM then _ else if b∈fv then _ else _)=_;rw[aH (by rintro(h1|h1);exact n3 h1;exact n1 h1),aH n2];exact hb;show(if b∈jM\/b∈fv then _ else if b=g.β s then _ else _)=_;rw[aH (by rintro(h1|h1);exact n1 h1;exact n2 h1),aH n3]
 have Ys:∀k b o u,C.A k b o->w.cell? ⟨b,o,none⟩=some u->w'.cell? ⟨b,o,none⟩=some u:=by intro k b o u hA hu;have hb:b<w.heap.size:=World.block_lt_of_cell? w _ hu;rw[World.cell?_of_block (a:=⟨b,o,none⟩) (jh.block b hb (λhm=>h.KQ (Kr b hm) k o hA))];exact hu
 have hle:(cH C g st w).Le (cH C g' bH w'):=⟨rfl,λt ht=>⟨I5 t ht,yt ht⟩,Ys,Nat.le_succ _,λt ht=>⟨YB t ht,rfl⟩,λhe=>absurd he (Nat.succ_ne_self _)⟩
 refine⟨g',h.step (λx=>x≠ .box s) hle h.defers ?_ ?_ ?_ ?_ (λb x hk hb=>rj b x hk hb) ?_ ?_ (λk u bv hk=>by simp at hk) (.inl ⟨by simp,Mk⟩),λb hb=>?_,λb hb Ni=>?_⟩;rw[Kz];exact h.size;rw[Kz,sI,aC];exact h.bsize;refine h.frame.trans jh (λb hb hm=>?_);rcases(h.fS b _ (Kr b hm)).2 with h2|h2;omega;exact h2;intro b x hx;have zQ:(if b=g.β s\/b∈jM then some (jA.box s) else if b∈fv then some (.hand 0) else g.ej b)=some x:=hx;have hz:=jh.size;have hold:b∈fp\/w.heap.size<=b->C.w0.heap.size<=b\/C.M b:=by rintro(h2|h2);exact(h.fS b _ (hl b h2)).2;exact .inl (bw h.frame.size h2)
 split at zQ;rename_i hm;rcases hm with rfl|hm;have:=h.fS _ _ Fb;exact⟨by omega,this.2⟩;exact⟨(Hd b hm).1,hold (Hd b hm).2⟩;split at zQ;rename_i hm;exact⟨(Ik b hm).1,hold (Ik b hm).2.1⟩;have:=h.fS b x zQ;exact⟨by omega,this.2⟩;intro i av hi;rw[Kz]at hi;exact .inl ⟨by simp,hi,rfl⟩;intro t BV hb;rw[sI]at hb;by_cases rU:t=s;subst rU;rw[br]at hb;simp only[bN,xn]at hb;simp at hb;subst hb;refine .inr ⟨iL,T',Nc,jM,FG,RI,?_,BP,FI,λb hb=>?_,?_,?_⟩
 have:=Ev (c:=cH C g' bH w') (A':=A') (hw:=hw') (mk:=st.gU (some t)) (k:=k) hA' 0 (vs:=iL.toList) (xs:=pH) (fp:=jM) uL ahb
  (λb hb=>by show(if b∈jM\/b∈fv then _ else _)=_;rw[aE (.inl hb)])
  (λi u hu q hq=>by
   rw[ca]at hq;have hm:=oK hq;have hm2:md bH q:=by have h1:st.gU (some t) i=some q:=hq;have h2:(st.eF t (some X5)).gU (some t) i=some q:=h1;exact(oK h2).2.1
   exact⟨hm2,yr hu hq⟩)
 exact this;show(if b=g.β t\/b∈jM then _ else _)=_;rw[aE (.inr hb)];show(if g.β t=g.β t\/g.β t∈jM then _ else _)=_;rw[aE (.inl rfl)];show(if g.β t∈jM\/g.β t∈fv then _ else if g.β t=g.β t then _ else _)=_;rw[aH (by rintro(h1|h1);exact FI h1;exact(Ik _ h1).2.2.2 rfl),aE rfl];rw[aO (cO rU)]at hb;exact .inl ⟨by simpa using rU,hb,rfl⟩;obtain⟨_,_,h3,h4⟩:=Ik b hb;refine⟨?_,?_⟩;show(if b=g.β s\/b∈jM then _ else if b∈fv then _ else _)=_;rw[aH (by rintro(h1|h1);exact h4 h1;exact h3 h1),aE hb];show(if b∈jM\/b∈fv then _ else _)=_;rw[aE (.inr hb)];obtain⟨n1,n2,n3⟩:=RF b hb Ni;show(if b∈jM\/b∈fv then _ else if b=g.β s then _ else _)=_;rw[aH (by rintro(h1|h1);exact n1 h1;exact n2 h1),aH n3]
theorem Ol:∀{vs:iu}{cs:aw AC}{fp:fw},bB c vs cs fp->cs.all AC.Fo=true->fp=[]
 |[],[],_,h,_=>h
 |[],_::_,_,h,_=>h.elim
 |_::_,[],_,h,_=>h.elim
 |v::vs,x::cs,fp,h,hx=>by
  obtain⟨f1,f2,rfl,h1,h2⟩:=h;simp only[cb,ae]at hx;rw[Ol h2 hx.2,bV];have hx:=hx.1;cases x with
  |sl fl e xs=>cases fl<;>first|exact h1.1|cases hx
  |int k n=>exact h1.2
  |bool b=>exact h1.2
  |str s=>exact h1.2
  |fn f=>exact h1.2
  |jo=>cases hx
  |ptr _ _=>cases hx
  |zM _ _ _ _ _=>cases hx
  |un=>cases hx
  |bot=>cases hx
theorem dM.aa1 (h:dM C g st a w [])(s:Nat)(jw:st.boxes[s]?=some (some cs))(Hc:cs.all AC.Fo=true): ∀(w':World)(hw':Nat->Nat)(iL:Array Value)(T':TypeId)(Nc:Nat×Nat)(pH:aw AC)(jM fv:fw)(A':Rg)(k:Bool),Fr (λb=>b=g.β s) w w'->w'.heap[g.β s]?=some (.cells iL T' Nc)->oR iL Nc-> A' true=C.A k->bB (fH A' hw' w') iL.toList pH jM->pH.all (AC.xc true)=true->jM.Nodup->g.β s∉jM->(∀b∈jM,b<w'.heap.size/\w.heap.size<=b)-> (∀b∈fv,b<w'.heap.size/\w.heap.size<=b/\b∉jM/\b≠g.β s)-> ∃g',dM C g' (st.eF s (some (oG k (λ_=>none) 0 pH))) a w' []/\(∀b∈fv,g'.ej b=some (.hand 0)/\g'.hw b=hw' b)/\∀b,b<w.heap.size->g.ej b≠some (.box s)->g'.hw b=g.hw b:=by
 obtain⟨arr,T,fr,fp,jN,qZ,hr,hn,uK,hl,Fb,Ff⟩:=h.boxes s cs jw;have agT:fp=[]:=Ol hr Hc;subst agT;have xn:s<st.boxes.length:=(aF.1 jw).1;intro w' hw' iL T' Nc pH jM fv A' k jh FG RI hA' uL ahb BP FI Hd Ik;let X5:aw AC:=oG k (λ_=>none) 0 pH;let bH:AS:=st.eF s (some X5);let hw2:Nat->Nat:=λb=>if b∈jM\/b∈fv then hw' b else if b=g.β s then 0 else g.hw b
 let acK:Nat->ax jA:=λb=>if b=g.β s\/b∈jM then some (.box s) else if b∈fv then some (.hand 0) else g.ej b
 let g':Gh:=⟨hw2,g.β,acK,g.hdr⟩
 have sI:bH.boxes=st.boxes.set s (some X5):=by show(st.eF s (some X5)).boxes=_;rw[jL]
 have YB:∀t,iU st t->iU bH t:=by rintro t ⟨c0,W9⟩;by_cases rU:s=t;subst rU;exact⟨X5,by rw[sI];simp[xn]⟩;exact⟨c0,by rw[sI,aO rU];exact W9⟩
 have hold:∀b,b<w.heap.size->b∉jM/\b∉fv:=by intro b hb;refine⟨λhm=>?_,λhm=>?_⟩;have:=(Hd b hm).2;omega;have:=(Ik b hm).2.1;omega
 have Dq:∀b,b<w.heap.size->b≠g.β s->hw2 b=g.hw b:=by intro b hb AY;show(if b∈jM\/b∈fv then _ else if b=g.β s then _ else _)=_;rw[aH (by rintro(h1|h1);exact(hold b hb).1 h1;exact(hold b hb).2 h1),aH AY]
 have rj:∀b x,x≠ .box s->g.ej b=some x->acK b=some x/\w'.heap[b]?=w.heap[b]?/\hw2 b=g.hw b:=by intro b x hx hb;have DZ:=(h.fS b x hb).1;have AY:b≠g.β s:=λhm=>hx (by rw[hm,Fb]at hb;simpa using hb.symm);refine⟨?_,jh.block b DZ AY,Dq b DZ AY⟩;show(if b=g.β s\/b∈jM then _ else if b∈fv then _ else _)=_;rw[aH (by rintro(h1|h1);exact AY h1;exact(hold b DZ).1 h1),aH (hold b DZ).2];exact hb
 have Ys:∀k b o u,C.A k b o->w.cell? ⟨b,o,none⟩=some u->w'.cell? ⟨b,o,none⟩=some u:=by intro k b o u hA hu;have hb:b<w.heap.size:=World.block_lt_of_cell? w _ hu;rw[World.cell?_of_block (a:=⟨b,o,none⟩) (jh.block b hb (λhm=>h.KQ (by rw[hm];exact Fb) k o hA))];exact hu
 have hle:(cH C g st w).Le (cH C g' bH w'):=by
  refine⟨rfl,λt ht=>⟨ht,rfl⟩,Ys,aU _,λt ht=>⟨YB t ht,rfl⟩,λ_ b o u ho hu=>?_⟩;have hb:b<w.heap.size:=World.block_lt_of_cell? w _ hu;have I7:o<g.hw b:=ho;have AY:b≠g.β s:=λe=>by rw[e,Ff]at I7;omega
  refine⟨by show o<hw2 b;rw[Dq b hb AY];exact I7,?_⟩;show w'.cell? ⟨b,o,none⟩=some u;rw[World.cell?_of_block (a:=⟨b,o,none⟩) (jh.block b hb AY)];exact hu
 refine⟨g',h.step (λx=>x≠ .box s) hle h.defers h.size ?_ ?_ ?_ (λb x hk hb=>rj b x hk hb) ?_ ?_ (λk u bv hk=>by simp at hk) (.inl ⟨by simp,rfl⟩),λb hb=>?_,λb hb Ni=>?_⟩;rw[sI,aC];exact h.bsize;refine h.frame.trans jh (λb hb hm=>?_);have hm:b=g.β s:=hm;subst hm;rcases(h.fS _ _ Fb).2 with h2|h2;omega;exact h2;intro b x hx;have zQ:(if b=g.β s\/b∈jM then some (jA.box s) else if b∈fv then some (.hand 0) else g.ej b)=some x:=hx;have hz:=jh.size;split at zQ;rename_i hm;rcases hm with rfl|hm;have:=h.fS _ _ Fb;exact⟨by omega,this.2⟩;exact⟨(Hd b hm).1,.inl (bw h.frame.size (Hd b hm).2)⟩;split at zQ;rename_i hm;exact⟨(Ik b hm).1,.inl (bw h.frame.size (Ik b hm).2.1)⟩;have:=h.fS b x zQ;exact⟨by omega,this.2⟩;intro i av hi;exact .inl ⟨by simp,hi,rfl⟩;intro t BV hb;rw[sI]at hb;by_cases rU:t=s;subst rU;rw[br]at hb;simp only[bN,xn]at hb;simp at hb;subst hb;refine .inr ⟨iL,T',Nc,jM,FG,RI,?_,BP,FI,λb hb=>?_,?_,?_⟩;have:=Ev (c:=cH C g' bH w') (A':=A') (hw:=hw') (mk:=λ_=>none) (k:=k) hA' 0 (vs:=iL.toList) (xs:=pH) (fp:=jM) uL ahb (λb hb=>by show(if b∈jM\/b∈fv then _ else _)=_;rw[aE (.inl hb)]) (λi u hu q hq=>by cases hq);exact this;show(if b=g.β t\/b∈jM then _ else _)=_;rw[aE (.inr hb)];show(if g.β t=g.β t\/g.β t∈jM then _ else _)=_;rw[aE (.inl rfl)];show(if g.β t∈jM\/g.β t∈fv then _ else if g.β t=g.β t then _ else _)=_;rw[aH (by rintro(h1|h1);exact FI h1;exact(Ik _ h1).2.2.2 rfl),aE rfl];rw[aO (cO rU)]at hb;exact .inl ⟨by simpa using rU,hb,rfl⟩;obtain⟨_,_,h3,h4⟩:=Ik b hb;refine⟨?_,?_⟩;show(if b=g.β s\/b∈jM then _ else if b∈fv then _ else _)=_;rw[aH (by rintro(h1|h1);exact h4 h1;exact h3 h1),aE hb];show(if b∈jM\/b∈fv then _ else _)=_;rw[aE (.inr hb)];exact Dq b hb (λe=>Ni (by rw[e];exact Fb))
theorem agH (yQ:∀f,gE P f (Γ f)){o':Oper}(ho:o'.op=.call {callee:=.value f,args,argTypes:=ts})(hg:dM C g st a w []){k:Nat}(hf:st.rd f=.val false [.fn k])(jw:(Γ k).bx=true){K:AS->ax R}(hk:tn Γ o' k args.toList st K=some r)(next:Act->World->Prop)(Q:Exit->Act->World->Prop)(gy:∀bH a' w',nq C bH a' w'->K bH=some r->next a' w'):o'.wp P a w next Q:=by
 have Ik:=hg.rd f;rw[hf]at Ik;have Ik:=(ew Ik).1;unfold tn at hk;split at hk
 ·rename_i x0 xs fN;split at hk
  ·rename_i s hx0;split at hk
   ·rename_i cs Rt;have hb:st.boxes[s]?=some (some cs):=by rw[dJ]at Rt;cases hq:st.boxes[s]? with|none=>rw[hq]at Rt;simp at Rt|some q=>rw[hq]at Rt;simp at Rt;rw[Rt]
    cases hc:(cs.all (AC.xc (BI cs))&&xs.all (Au st))with
    |false=>rw[hc]at hk;cases hk
    |true=>
     rw[hc]at hk;simp only[ah]at hk;simp only[ae]at hc;cases gz:(Γ k).fn (.val true (cs.map AC.Qk)::xs.map (zu st))with
     |none=>rw[gz]at hk;cases hk
     |some y=>
      rw[gz]at hk;simp only[aa]at hk;cases UY:(((Γ k).back y).all (AC.xc true)&&((Γ k).av y).ZI)with
      |false=>rw[UY]at hk;cases hk
      |true=>
       rw[UY]at hk;simp only[ah]at hk;simp only[ae]at UY;obtain⟨⟨fn,c,Ry,Ru,Am⟩,_,_,zO,_⟩:=yQ k _ y gz;have zO:=zO jw _ _ rfl;have Kx:=hg.rd x0;rw[hx0]at Kx;have th:=zy Kx;obtain⟨arr,T,fr,fp,jN,qZ,eL,hn,uK,gS,Ff,Cw,pC⟩:=hg.aeo s hb;let A':Rg:=λq b o=>bif q then C.A (BI cs) b o else((cH C g st w).S b o/\b<w.heap.size/\g.ej b≠some (.box s))
       have hA':∀q b' o,A' q b' o->b'<w.heap.size/\b'≠g.β s/\b'∉fp:=by
        intro q b' o hq;have key:b'<w.heap.size/\g.ej b'≠some (.box s):=by cases q with|true=>have hq:C.A (BI cs) b' o:=hq;exact⟨Nat.lt_of_lt_of_le (C.hA _ _ _ hq).1 hg.frame.size,λhb=>hg.KQ hb _ o hq⟩|false=>exact hq.2
        exact⟨key.1,λe=>key.2 (Cw b' (.inl e)),λe=>key.2 (Cw b' (.inr e))⟩
       have Ii:=zO A' w (g.β s) (xs.map a.eval) arr T fr g.hw fp hA' jN qZ (GI (k:=BI cs) hc.1 eL rfl rfl rfl) hn uK gS Ff (NB hg s (λb o h=>h) xs hc.2);have anQ:a.eval x0=.pointer (some ⟨g.β s,0,none⟩):=th;have agP:(Value.pointer (some ⟨g.β s,0,none⟩)::xs.map a.eval).toArray=args.map a.eval:=by apply eQ;simp[fN,anQ]
       rw[agP]at Ii;have ee:(execOp a.eval o').run P w=.ok (.enter k (args.map a.eval)) w:=by simp[execOp,ho,resolve,Ik,Deferred.ofValue,invoke,callFunc,Ry,Ru];simpa using Am
       unfold Oper.wp;rw[ee,Oper.upon_enter];refine Ii.mono ?_;rintro e w' ⟨v,hw',fv,iL,T',Nc,jM,rfl,Nl,FG,RI,uL,BP,FI,Hd,hnv,ab6,jh⟩;show next (a.put o'.dst v) w'
       have tail:∀(st1:AS)(g':Gh),dM C g' st1 a w' []->(∀b∈fv,g'.ej b=some (.hand 0)/\g'.hw b=hw' b)->(∀b,b<w.heap.size->g.ej b≠some (.box s)->g'.hw b=g.hw b)->
        K ((st1.fz o'.dst).put o'.dst (((Γ k).av y).BJ st1.ep (st1.gU o'.dst)))=some r->next (a.put o'.dst v) w':=by
        intro st1 g' nm hlv hold hk
        have hAS:∀(hd:Nat->Value)(q:Bool)(b o:Nat),A' q b o->(cH C {g' with hdr:=hd} (st1.fz o'.dst) w').S b o:=by intro hd q b o hq;cases q with|true=>exact .inl ⟨_,hq⟩|false=>rcases hq.1 with hs|hs;exact .inl hs;exact .inr (by show o<g'.hw b;rw[hold b hq.2.1 hq.2.2];exact hs)
        have ab4:∀b∈fv,g'.hw b=hw' b:=λb hb=>(hlv b hb).2
        have uL:∃hd,(∀t,md st1 t->hd t=g'.hdr t)/\fR (cH C {g' with hdr:=hd} (st1.fz o'.dst) w') v (((Γ k).av y).BJ st1.ep (st1.gU o'.dst)) fv:=by
         generalize (Γ k).av y=y at Nl;cases y with
         |val gg cs=>obtain⟨vs,fi,hr⟩:=Nl;refine⟨pN g'.hdr (st1.gU o'.dst) vs,λt ht=>yt ht,vs,fi,?_⟩;have:=yU (c:=cH C {g' with hdr:=pN g'.hdr (st1.gU o'.dst) vs} (st1.fz o'.dst) w') (mk:=st1.gU o'.dst) (hAS _) 0 hr ab4 (λi u hu t ht=>by rw[ca]at ht;exact⟨(oK ht).2.1,yr hu ht⟩);have wN:(cH C {g' with hdr:=pN g'.hdr (st1.gU o'.dst) vs} (st1.fz o'.dst) w').ep=st1.ep:=yl;rw[wN]at this;exact this
         |uG ts=>obtain⟨ws,hv,hr⟩:=Nl;obtain⟨all,EH⟩:=Hp hr;refine⟨pN g'.hdr (st1.gU o'.dst) all,λt ht=>yt ht,ws,hv,?_⟩;have:=KS (c:=cH C {g' with hdr:=pN g'.hdr (st1.gU o'.dst) all} (st1.fz o'.dst) w') (mk:=st1.gU o'.dst) (hAS _) EH 0 ab4 (λi u hu t ht=>by rw[ca]at ht;exact⟨(oK ht).2.1,yr hu ht⟩);have wN:(cH C {g' with hdr:=pN g'.hdr (st1.gU o'.dst) all} (st1.fz o'.dst) w').ep=st1.ep:=yl;rw[wN]at this;exact this
        obtain⟨hd,hhd,uL⟩:=uL
        obtain⟨g2,EI⟩:=nm.Lk o'.dst (hw':=g'.hw) (hdr':=hd) (fp:=fv) (st1:=st1.fz o'.dst) F8 sZ yW yl (λt ht=>⟨Bj ht,hhd t ht⟩)
         (Fr.refl _ _) (λ_ _ _ _=>rfl) (λ_ _ _ ho hu=>⟨ho,hu⟩) uL hnv (λb hb=>⟨(ab6 b hb).1,.inl (by rw[(hlv b hb).1];rfl)⟩)
        exact gy _ _ _ ⟨g2,EI⟩ hk
       cases hcur:((Γ k).cur&&cs.all AC.Fo)with
       |false=>rw[hcur]at hk;obtain⟨g',nm,hlv,hold⟩:=pC w' hw' iL T' Nc ((Γ k).back y) jM fv A' (BI cs) jh FG RI rfl uL UY.1 BP FI Hd ab6;exact tail _ g' nm hlv hold hk
       |true=>rw[hcur]at hk;simp only[ae]at hcur;have agT:fp=[]:=Ol eL hcur.2;subst agT;obtain⟨g',nm,hlv,hold⟩:=hg.aa1 s hb hcur.2 w' hw' iL T' Nc ((Γ k).back y) jM fv A' (BI cs) ⟨jh.os,jh.tape,jh.output,jh.size,λb hb hm=>jh.block b hb (λhh=>hm (hh.resolve_right (by simp)))⟩ FG RI rfl uL UY.1 BP FI (λb hb=>⟨(Hd b hb).1,(Hd b hb).2.resolve_left (by simp)⟩) (λb hb=>⟨(ab6 b hb).1,(ab6 b hb).2.1.resolve_left (by simp),(ab6 b hb).2.2⟩);exact tail _ g' nm hlv hold hk
   cases hk
  cases hk
 cases hk
theorem arg_val (hA:c'.A=c.A)(hw:c'.w=c.w){x:AV}(h:fR c v x fp)(hx:x.GY=true):fp=[]/\fR c' v x []:=by
 cases x with
 |uG _=>cases hx
 |val g cs=>
  obtain⟨vs,fi,h⟩:=h
  have key:∀(cs:aw AC)(vs:iu)(fp:fw),bB c vs cs fp->cs.all AC.GY=true->fp=[]/\bB c' vs cs []:=by
   intro cs
   induction cs with
   |nil=>intro vs fp h _;cases vs with
    |nil=>exact⟨h,rfl⟩
    |cons _ _=>exact h.elim
   |cons x cs ih=>
    intro vs fp h hx
    cases vs with
    |nil=>exact h.elim
    |cons v vs=>
     obtain⟨f1,f2,rfl,h1,h2⟩:=h
     simp only[cb,ae]at hx
     obtain⟨rfl,k2⟩:=ih vs f2 h2 hx.2
     have hx:=hx.1
     have one:f1=[]/\gC c' v x []:=by
      cases x with
      |sl fl e xs=>cases fl with|arg k=>exact⟨h1.1,rfl,by rw[hA,hw];exact h1.2⟩|own _=>cases hx|loc _ _=>cases hx|nest _ _ _ _ _ _=>cases hx|part _ _ _ _=>cases hx|fg _ _ _=>cases hx
      |int _ _=>exact qg h1 rfl
      |bool _=>exact qg h1 rfl
      |str _=>exact qg h1 rfl
      |fn _=>exact qg h1 rfl
      |jo=>cases hx
      |ptr _ _=>cases hx
      |zM _ _ _ _ _=>cases hx
      |un=>cases hx
      |bot=>cases hx
     obtain⟨rfl,k1⟩:=one
     exact⟨rfl,[],[],rfl,k1,k2⟩
  obtain⟨e,k⟩:=key cs vs fp h hx;exact⟨e,vs,fi,k⟩
theorem QG (h:dM C g st a w []):∀(xs:aw Operand),xs.all (λx=>(st.rd x).GY)=true->oT C.A w (xs.map a.eval) (xs.map st.rd)
 |[],_=>trivial
 |x::xs,hf=>by simp only[cb,ae]at hf;exact⟨(arg_val (c:=cH C g st w) (c':=fH C.A (λ_=>0) w) rfl rfl (h.rd x) hf.1).2,QG h xs hf.2⟩
theorem ahU (yQ:∀f,gE P f (Γ f)){o':Oper}(ho:o'.op=.call {callee:=.value f,args,argTypes:=ts})(hg:dM C g st a w []){k:Nat}(hf:st.rd f=.val false [.fn k])(YB:(Γ k).pr=true){K:AS->ax R}(hk:ZJ Γ o' k args.toList st K=some r)(next:Act->World->Prop)(Q:Exit->Act->World->Prop)(gy:∀bH a' w',nq C bH a' w'->K bH=some r->next a' w'):o'.wp P a w next Q:=by
 have Ik:=hg.rd f;rw[hf]at Ik;have Ik:=(ew Ik).1;unfold ZJ at hk;split at hk
 ·rename_i d hd;split at hk
  ·rename_i Fe;cases hc:args.toList.all (λx=>(st.rd x).GY)with
   |false=>rw[hc]at hk;cases hk
   |true=>
    rw[hc]at hk;simp only[ah]at hk;cases gz:(Γ k).fn (args.toList.map st.rd)with
    |none=>rw[gz]at hk;cases hk
    |some y=>
     rw[gz]at hk;simp only[aa]at hk;cases UY:((Γ k).back y).all AC.GY with
     |false=>rw[UY]at hk;cases hk
     |true=>
      rw[UY]at hk;simp only[ah]at hk;obtain⟨⟨fn,c,Ry,Ru,Am⟩,_,_,_,zO⟩:=yQ k _ y gz;have Ii:=zO YB C.A w (args.toList.map a.eval) (λq b o hq=>Nat.lt_of_lt_of_le (C.hA q b o hq).1 hg.frame.size) (QG hg _ hc);have fN:(args.toList.map a.eval).toArray=args.map a.eval:=by apply eQ;simp
      rw[fN]at Ii;have ee:(execOp a.eval o').run P w=.ok (.enter k (args.map a.eval)) w:=by simp[execOp,ho,resolve,Ik,Deferred.ofValue,invoke,callFunc,Ry,Ru];simpa using Am
      unfold Oper.wp;rw[ee,Oper.upon_enter];refine Ii.mono ?_;rintro e w' ⟨b,arr,T,fr,hw,rfl,hb,jN,qZ,eL,jh⟩;show next (a.put o'.dst (.pointer (some ⟨b,0,none⟩))) w'
      rw[dJ]at Fe;have DZ:=lB jN;have AY:∀b' x,g.ej b'=some x->b'≠b:=λb' x hx e=>by have:=(hg.fS b' x hx).1;omega
      have hr1:bB ⟨λb'=>if b'=b then 0 else g.hw b',λt=>if t=d then b else g.β t,C.A,g.hdr,md st,st.ep,iU st,w'⟩ arr.toList ((Γ k).back y) []:=by
       have hv:fR (fH C.A hw w') (.agg arr.toList.toArray) (.val true ((Γ k).back y)) []:=⟨arr.toList,rfl,eL⟩
       obtain⟨_,vs,fi,h⟩:=arg_val (c:=fH C.A hw w') (c':=⟨λb'=>if b'=b then 0 else g.hw b',λt=>if t=d then b else g.β t,C.A,g.hdr,md st,st.ep,iU st,w'⟩) rfl rfl hv UY;have:arr.toList=vs:=by have fi:Value.agg arr.toList.toArray=.agg vs.toArray:=fi;simp only[Value.agg.injEq]at fi;simpa using congrArg Array.toList fi
       rw[this];exact h
      obtain⟨g',Hf,h'⟩:=hg.TX d (cs:=(Γ k).back y) (arr:=arr) (T:=T) (fr:=fr) (fp:=[]) (w':=w') (bnew:=b) (hw':=λb'=>if b'=b then 0 else g.hw b') (.inr ⟨hb,Fe⟩) ⟨jh.os,jh.tape,jh.output,jh.size,λb' gO _=>jh.block b' gO (λm=>m)⟩ jN qZ DZ (by simp) (λb' x hx _ hn=>by simp[hn]) (λb' o u ho hu=>by have gO:b'<w.heap.size:=World.block_lt_of_cell? w _ hu;exact⟨by simp[show b'≠b by omega];exact ho,xW jh hu⟩) hr1 List.nodup_nil (by simp) (λb' gO=>by cases gO);have hdl:d<st.boxes.length:=(aF.1 Fe).1;have hq:=h'.quiet (some d) (v:=.pointer (some ⟨b,0,none⟩)) (av:=.one (.ptr d 0)) (lT ⟨by simp[cH,Hf],⟨(Γ k).back y,by rw[jL];simp[hdl]⟩,rfl⟩);rw[hd];exact gy _ _ _ ⟨g',hq⟩ hk
  cases hk
 cases hk
theorem aes (yQ:∀f,gE P f (Γ f)){o':Oper}(ho:o'.op=.call {callee:=.value f,args,argTypes:=ts})(h:nq C st a w){K:AS->ax R}(hk:BK Γ o' f args.toList st K=some r)(next:Act->World->Prop)(Q:Exit->Act->World->Prop)(gy:∀bH a' w',nq C bH a' w'->K bH=some r->next a' w'):o'.wp P a w next Q:=by
 obtain⟨g,hg⟩:=h;unfold BK at hk;split at hk
 ·rename_i k hf
  have Ik:=hg.rd f
  rw[hf]at Ik
  have Ik:=(ew Ik).1
  cases jw:(Γ k).bx with
  |true=>rw[jw]at hk;exact agH yQ ho hg hf jw hk next Q gy
  |false=>
  rw[jw]at hk
  simp only[af]at hk
  cases YB:(Γ k).pr with
  |true=>rw[YB]at hk;exact ahU yQ ho hg hf YB hk next Q gy
  |false=>
  rw[YB]at hk
  simp only[af]at hk
  cases Mk:(Γ k).io with
  |true=>rw[Mk]at hk;cases hk
  |false=>
  rw[Mk]at hk
  simp only[af]at hk
  cases gz:(Γ k).fn (args.toList.map λx=>((st.rd x).fresh st).asArg st.ep)with
  |none=>rw[gz]at hk;cases hk
  |some y0=>
   rw[gz]at hk
   simp only[aa]at hk
   obtain⟨⟨fn,c,Ry,Ru,Am⟩,zO,_⟩:=yQ k _ y0 gz
   have zO:=zO Mk jw
   have hk:K ((st.fz o'.dst).put o'.dst (((Γ k).res y0).BJ st.ep (st.gU o'.dst)))=some r:=by unfold jb.res;cases Mn:(Γ k).sel y0 with|true=>rw[Mn]at hk;exact hk|false=>rw[Mn]at hk;exact hk
   generalize hy0:(Γ k).res y0=y at hk zO
   have Ii:=zO (λ_ b o=>(cH C g st w).S b o/\b<w.heap.size) w (args.toList.map a.eval) (λ_ _ _ h=>h.2) (QH hg args.toList)
   have fN:(args.toList.map a.eval).toArray=args.map a.eval:=by apply eQ;simp
   rw[fN]at Ii
   have ee:(execOp a.eval o').run P w=.ok (.enter k (args.map a.eval)) w:=by simp[execOp,ho,resolve,Ik,Deferred.ofValue,invoke,callFunc,Ry,Ru];simpa using Am
   unfold Oper.wp
   rw[ee,Oper.upon_enter]
   refine Ii.mono ?_
   rintro e w' ⟨v,hw,fp,rfl,eL,Dr,BM,jh⟩
   show next (a.put o'.dst v) w'
   let hw':Nat->Nat:=λb=>if b∈fp then hw b else g.hw b
   have U2:∀b,b<w.heap.size->b∉fp:=λb hb hm=>by have:=(BM b hm).1;omega
   have hA':∀(hd:Nat->Value)(_:Bool)(b o:Nat),((cH C g st w).S b o/\b<w.heap.size)->(cH C {g with hw:=hw',hdr:=hd} (st.fz o'.dst) w').S b o:=by rintro hd _ b o ⟨hs,hb⟩;rcases hs with hs|hs;exact .inl hs;exact .inr (by simp only[cH,hw',aH (U2 b hb)];exact hs)
   have uL:∃hd,(∀t,md st t->hd t=g.hdr t)/\fR (cH C {g with hw:=hw',hdr:=hd} (st.fz o'.dst) w') v (y.BJ st.ep (st.gU o'.dst)) fp:=by
    have ab4:∀b∈fp,hw' b=hw b:=λb hb=>by simp[hw',hb]
    cases y with
    |val gg cs=>obtain⟨vs,fi,hr⟩:=eL;refine⟨pN g.hdr (st.gU o'.dst) vs,λt ht=>yt ht,vs,fi,?_⟩;have:=yU (c:=cH C {g with hw:=hw',hdr:=pN g.hdr (st.gU o'.dst) vs} (st.fz o'.dst) w') (mk:=st.gU o'.dst) (hA' _) 0 hr ab4 (λi u hu t ht=>by rw[ca]at ht;exact⟨(oK ht).2.1,yr hu ht⟩);have wN:(cH C {g with hw:=hw',hdr:=pN g.hdr (st.gU o'.dst) vs} (st.fz o'.dst) w').ep=st.ep:=yl;rw[wN]at this;exact this
    |uG ts=>obtain⟨ws,hv,hr⟩:=eL;obtain⟨all,EH⟩:=Hp hr;refine⟨pN g.hdr (st.gU o'.dst) all,λt ht=>yt ht,ws,hv,?_⟩;have:=KS (c:=cH C {g with hw:=hw',hdr:=pN g.hdr (st.gU o'.dst) all} (st.fz o'.dst) w') (mk:=st.gU o'.dst) (hA' _) EH 0 ab4 (λi u hu t ht=>by rw[ca]at ht;exact⟨(oK ht).2.1,yr hu ht⟩);have wN:(cH C {g with hw:=hw',hdr:=pN g.hdr (st.gU o'.dst) all} (st.fz o'.dst) w').ep=st.ep:=yl;rw[wN]at this;exact this
   obtain⟨hd,hhd,uL⟩:=uL
   obtain⟨g',nm⟩:=hg.Lk o'.dst (hw':=hw') (hdr':=hd) (fp:=fp) (st1:=st.fz o'.dst) F8 sZ yW yl (λt ht=>⟨Bj ht,hhd t ht⟩)
    ⟨jh.os,jh.tape,jh.output,jh.size,λb hb _=>jh.block b hb (λm=>m)⟩ (λb x hx _=>by simp[hw',U2 b (hg.fS b x hx).1])
    (λb o u ho hu=>by have hb:b<w.heap.size:=World.block_lt_of_cell? w _ hu;exact⟨by simp[hw',U2 b hb];exact ho,xW jh hu⟩) uL Dr (λb hb=>⟨(BM b hb).2,.inr (BM b hb).1⟩)
   exact gy _ _ _ ⟨g',nm⟩ hk
 cases hk
end Go.Dn
