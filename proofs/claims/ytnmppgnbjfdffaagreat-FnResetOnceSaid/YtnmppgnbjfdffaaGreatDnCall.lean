import Derived.Test.YtnmppgnbjfdffaaGreatDnOps8
/- A call by value: what a callee promises, and what the caller makes of it. -/
namespace Go.Dn
open Go.RowKit
variable {P:Program} {C:Ctx} {st:AS} {a:Act} {w:World} {R:Type} {r:R}
variable {x:AC} {args:Array Operand} {ts:Array TypeId} {Γ:xl} {g:Gh} {hw:Nat->Nat} {hdr:Nat->Value} {f:Operand} {c c':RC} {v:Value} {cs:aw AC} {d:ay Nat} {fp:ff} {all:ir}
def fD (A:Rg)(hw:Nat->Nat)(w:World):RC:=⟨hw,λ_=>0,A,λ_=>undef,λ_=>False,0,λ_=>False,w⟩
def ot (A:Rg)(w:World):ir->aw AV->Prop
 |[],[]=>True
 |v::vs,x::xs=>fP (fD A (λ_=>0) w) v x []/\ot A w vs xs
 |_,_=>False
def akZ (P:Program)(f:Nat)(F:iW)(y:F.R)(g:Bool)(cs:aw AC)(rest:aw AV):Prop:=
 ∀(A:Rg)(w:World)(v0:Value)(vs:ir)(hw:Nat->Nat)(fp:ff),(∀k b o,A k b o->b<w.heap.size/\b∉fp)->fP (fD A hw w) v0 (.val g cs) fp->fp.Nodup->(∀b∈fp,b<w.heap.size)->ot A w vs rest->
  Calls P f (v0::vs).toArray w λe w'=>∃v hw' fr jJ,e=.returned v/\fP (fD A hw' w') v (F.av y) fr/\fP (fD A hw' w') v0 (.val g (F.back y)) jJ/\jJ.Nodup/\
   (∀b∈jJ,b<w'.heap.size/\(b∈fp\/w.heap.size<=b))/\Fr (λb=>b∈fp) w w'
def agY (P:Program)(f:Nat)(F:iW)(y:F.R)(cs:aw AC)(rest:aw AV):Prop:=
 ∀(A:Rg)(w:World)(b:Nat)(vs:ir)(arr:Array Value)(T:TypeId)(fr:Nat×Nat)(hw:Nat->Nat)(fp:ff),(∀k b' o,A k b' o->b'<w.heap.size/\b'≠b/\b'∉fp)->
  w.heap[b]?=some (.cells arr T fr)->oo arr fr->bA (fD A hw w) arr.toList cs fp->fp.Nodup->b∉fp->(∀b'∈fp,b'<w.heap.size)->hw b=0->ot A w vs rest->
  Calls P f (.pointer (some ⟨b,0,none⟩)::vs).toArray w λe w'=>∃v hw' fv iI T' Ml jJ,e=.returned v/\fP (fD A hw' w') v (F.av y) fv/\w'.heap[b]?=some (.cells iI T' Ml)/\oo iI Ml/\
   bA (fD A hw' w') iI.toList (F.back y) jJ/\jJ.Nodup/\b∉jJ/\(∀b'∈jJ,b'<w'.heap.size/\(b'∈fp\/w.heap.size<=b'))/\fv.Nodup/\(∀b'∈fv,b'<w'.heap.size/\(b'∈fp\/w.heap.size<=b')/\b'∉jJ/\b'≠b)/\Fr (λb'=>b'=b\/b'∈fp) w w'
def ad6 (P:Program)(f:Nat)(F:iW)(y:F.R)(xs:aw AV):Prop:=
 ∀(A:Rg)(w:World)(vs:ir),(∀k b o,A k b o->b<w.heap.size)->ot A w vs xs->
  Calls P f vs.toArray w λe w'=>∃b arr T fr hw,e=.returned (.pointer (some ⟨b,0,none⟩))/\w.heap.size<=b/\w'.heap[b]?=some (.cells arr T fr)/\oo arr fr/\bA (fD A hw w') arr.toList (F.back y) []/\Fr (λ_=>False) w w'
def gA (P:Program)(f:Nat)(F:iW):Prop:=
 ∀(xs:aw AV)(y:F.R),F.fn xs=some y->
  (∃fn c,P.funcs[f]?=some fn/\fn.body=some c/\(fn.name== "runtime.NumGoroutine")=false)/\
  (F.io=false->F.bx=false->∀(A:Rg)(w:World)(vs:ir),(∀k b o,A k b o->b<w.heap.size)->ot A w vs xs->
    Calls P f vs.toArray w λe w'=>∃v hw fp,e=.returned v/\fP (fD A hw w') v (F.res y) fp/\fp.Nodup/\(∀b∈fp,w.heap.size<=b/\b<w'.heap.size)/\Fr (λ_=>False) w w')/\
  (F.io=true->∀g cs rest,xs=.val g cs::rest->akZ P f F y g cs rest)/\
  (F.bx=true->∀cs rest,xs=.val true cs::rest->agY P f F y cs rest)/\
  (F.pr=true->ad6 P f F y xs)
theorem pD (h:gy c v x fp)(hf:x.jd=true):fp=[]/\gy c' v x []:=by cases x with|int k n=>exact⟨h.2,h.1,rfl⟩|bool b=>exact⟨h.2,h.1,rfl⟩|str s=>exact⟨h.2,h.1,rfl⟩|fn f=>exact⟨h.2,h.1,rfl⟩|_=>cases hf
theorem DR {c':RC}:∀{vs:ir}{xs:aw AC}{fp:ff},bA c vs xs fp->xs.all AC.jd=true->fp=[]/\bA c' vs xs []
 |[],[],_,h,_=>⟨h,rfl⟩
 |_::_,_::_,_,h,hf=>by obtain⟨f1,f2,rfl,h1,h2⟩:=h;simp only[bV,ae]at hf;obtain⟨rfl,k1⟩:=pD (c':=c') h1 hf.1;obtain⟨rfl,k2⟩:=DR (c':=c') h2 hf.2;exact⟨rfl,[],[],rfl,k1,k2⟩
 |[],_::_,_,h,_=>h.elim
 |_::_,[],_,h,_=>h.elim
theorem P8:∀{ws:ir}{ts:aw (Bool×aw AC)}{fp:ff},fP.oQ c ws ts fp->(ts.all λx=>x.2.all AC.jd)=true->fP.oQ c' ws ts []
 |[],[],_,_,_=>rfl
 |_::_,_::_,_,h,hf=>by obtain⟨f1,f2,rfl,⟨vs,hv,h1⟩,h2⟩:=h;simp only[bV,ae]at hf;exact⟨[],[],rfl,⟨vs,hv,(DR h1 hf.1).2⟩,P8 h2 hf.2⟩
 |[],_::_,_,h,_=>h.elim
 |_::_,[],_,h,_=>h.elim
theorem Jr {x:AV}(h:fP c v x fp)(hf:x.jd=true):fP c' v x []:=by
 cases x with
 |val g cs=>obtain⟨vs,hv,h⟩:=h;exact⟨vs,hv,(DR h hf).2⟩
 |tS ts=>obtain⟨ws,hv,h⟩:=h;exact⟨ws,hv,P8 h hf⟩
theorem UP {A:Rg}:∀(os ss:aw AC){r:aw AC}{vs us:ir}{f:ff},mD os ss=some r->bA c vs os []->bA c us ss f->bA (fD A c.hw c.w) vs r f:=by
 intro os;induction os with
 |nil=>intro ss r vs us f h hv hu;cases ss with|cons _ _=>simp[mD]at h|nil=>simp[mD]at h;subst h;cases vs with|cons _ _=>exact hv.elim|nil=>cases us with|cons _ _=>exact hu.elim|nil=>exact hu
 |cons o os ih=>
  intro ss r vs us f h hv hu;cases vs with
  |nil=>exact hv.elim
  |cons v vs=>
   cases ss with
   |nil=>unfold mD at h;split at h<;>first|contradiction|cases h
   |cons s ss=>
    cases us with
    |nil=>exact hu.elim
    |cons u us=>
     obtain⟨g1,g2,hg,hv1,Oj⟩:=hv;have e1:g1=[]:=by have:=hg.symm;simp at this;exact this.1
     have e2:g2=[]:=by have:=hg.symm;simp at this;exact this.2
     subst e1;subst e2;obtain⟨f1,f2,rfl,hu1,hu2⟩:=hu;have fl:∀{x:AC}{r'},x.jd=true->s.jd=true->o=x->mD os ss=some r'->r=x::r'->bA (fD A c.hw c.w) (v::vs) r (f1++f2):=by rintro x r' hx hs rfl hr rfl;obtain⟨rfl,_⟩:=pD (c':=c) hu1 hs;exact⟨[],f2,rfl,(pD hv1 hx).2,ih ss hr Oj hu2⟩
     unfold mD at h;split at h;contradiction;rename_i ep rt t e0 xs0 os' t' e xs ss' h1 h2;injection h1 with h1 K9;subst h1;subst K9;injection h2 with h2 Pp;subst h2;subst Pp;cases ht:(t'==t)with
     |false=>rw[ht]at h;cases h
     |true=>
      have:t'=t:=by simpa using ht
      subst this;rw[ht]at h;simp only[ah]at h;obtain⟨r',hr,h⟩:=aM.1 h;cases h;have Zn:=(hv1.2.2.2.2 rt t' rfl).2;have Oi:=(hu1.2 t' rfl).2;have huv:u=v:=Oi.trans Zn.symm;subst huv;exact⟨f1,f2,rfl,⟨hu1.1,by simp⟩,ih _ hr Oj hu2⟩
     rename_i k n os' k' n' ss' h1 h2;injection h1 with h1 K9;subst K9;injection h2 with h2 Pp;subst h2;subst Pp;obtain⟨r',hr,h⟩:=aM.1 h;cases h;exact fl (x:=.int k n) rfl rfl h1 hr rfl;rename_i k os' k' ss' h1 h2;injection h1 with h1 K9;subst K9;injection h2 with h2 Pp;subst h2;subst Pp;obtain⟨r',hr,h⟩:=aM.1 h;cases h;exact fl (x:=.bool k) rfl rfl h1 hr rfl;rename_i k os' k' ss' h1 h2;injection h1 with h1 K9;subst K9;injection h2 with h2 Pp;subst h2;subst Pp;obtain⟨r',hr,h⟩:=aM.1 h;cases h;exact fl (x:=.str k) rfl rfl h1 hr rfl;cases h
theorem SN (h:gy c v x fp):gy (fD (λ_ b o=>c.S b o/\b<c.w.heap.size) (λ_=>0) c.w) v (x.asArg c.ep) []:=by
 have hS:∀{e:CT}{xs:aw e.D},iR c.w c.S (.sl e) [v] xs->iR c.w (λb o=>c.S b o/\b<c.w.heap.size) (.sl e) [v] xs:=λhr=>
  iR.mono (λb o u hs hu=>⟨⟨hs,World.block_lt_of_cell? c.w _ hu⟩,hu⟩) hr
 cases x with|int k n=>exact⟨h.1,rfl⟩|bool b=>exact⟨h.1,rfl⟩|str s=>exact⟨h.1,rfl⟩|jm=>exact⟨h.1,rfl⟩|fn f=>exact⟨h.1,rfl⟩|ptr s off=>exact rfl|un=>exact rfl|bot=>exact rfl|yP fl e y i off=>exact rfl|sl fl e xs=>cases fl with|nest _ _ _ _ _ _=>exact rfl|part _ _ _ _=>exact rfl|eX _ _ _=>exact rfl|own t=>exact⟨rfl,hS (eV.rep (λb o ho=> .inr ho) h.1)⟩|arg k=>exact⟨rfl,hS (iR.mono (λb o u hs hu=>⟨.inl ⟨k,hs⟩,hu⟩) h.2)⟩|loc ep pv=>simp only[AC.asArg];split;rename_i he;exact⟨rfl,hS (h.2.2.2.1 (by simpa using he))⟩;exact rfl
theorem Hi:∀{vs:ir}{xs:aw AC}{fp:ff},bA c vs xs fp->bA (fD (λ_ b o=>c.S b o/\b<c.w.heap.size) (λ_=>0) c.w) vs (xs.map (AC.asArg c.ep)) []
 |[],[],_,_=>rfl
 |_::_,_::_,_,h=>by obtain⟨f1,f2,rfl,h1,h2⟩:=h;exact⟨[],[],rfl,SN h1,Hi h2⟩
 |[],_::_,_,h=>h.elim
 |_::_,[],_,h=>h.elim
theorem WC {x:AV}(h:fP c v x fp):fP (fD (λ_ b o=>c.S b o/\b<c.w.heap.size) (λ_=>0) c.w) v (x.asArg c.ep) []:=by
 cases x with
 |val g cs=>obtain⟨vs,hv,h⟩:=h;exact⟨vs,hv,Hi h⟩
 |tS ts=>exact fP.bot _ _
theorem PE (h:dH C g st a w []):∀(args:aw Operand),
 ot (λ_ b o=>(cH C g st w).S b o/\b<w.heap.size) w (args.map a.eval) (args.map λx=>((st.rd x).fresh st).asArg st.ep)
 |[]=>trivial
 |x::xs=>⟨WC (c:=cH C g st w) (h.fresh (h.rd x)),PE h xs⟩
theorem SO {A':Rg}{tag:ay Nat}(h:gy (fD A' hw c.w) v x fp)(hA:∀k b o,A' k b o->c.S b o)(CH:∀b∈fp,c.hw b=hw b)(ht:∀t,tag=some t->c.iss t/\v=c.hdr t):gy c v (x.AN c.ep tag) fp:=by
 cases x with
 |int k n=>exact h
 |bool b=>exact h
 |str s=>exact h
 |jm=>exact h
 |fn f=>exact h
 |ptr s off=>exact h.2.2
 |un=>exact h
 |bot=>exact h
 |yP fl e y i off=>cases fl with|own t=>exact h.elim|nest _ _ _ _ _ _=>exact h.elim|part _ _ _ _=>exact h.elim|eX _ _ _=>exact h.elim|arg _=>exact h.1|loc ep pv=>exact h.1
 |sl fl e xs=>
  cases fl with
  |nest _ _ _ _ _ _=>exact h.1
  |part _ _ _ _=>exact h.1
  |eX _ _ _=>obtain⟨_,⟨k,hk,h3⟩,_⟩:=h;exact⟨λq hq=>(by cases hq),⟨k,hk,h3.mono (λb hb=>⟨rfl,CH b hb⟩)⟩,by simp⟩
  |own t=>exact⟨eV.mono h.1 (λb hb=>⟨rfl,CH b hb⟩),ht⟩
  |loc ep pv=>exact h.1
  |arg _=>have hr:iR c.w c.S (.sl e) [v] xs:=iR.mono (λb o u hs hu=>⟨hA _ b o hs,hu⟩) h.2;refine⟨h.1,aS _,?_,λ_=>hr,by simp⟩;obtain⟨u,hu,k⟩:=hr;simp at hu;subst hu;rcases k with⟨⟨ad,rfl⟩,rfl⟩|⟨b,o,cap,rfl,_⟩;exact⟨_,_,_,rfl,rfl⟩;exact⟨_,_,_,rfl,rfl⟩
theorem yh {A':Rg}{mk:Nat->ay Nat}(hA:∀k b o,A' k b o->c.S b o):∀{vs:ir}{xs:aw AC}{fp:ff}(j:Nat),bA (fD A' hw c.w) vs xs fp->(∀b∈fp,c.hw b=hw b)->
 (∀i v,vs[i]?=some v->∀t,mk (j+i)=some t->c.iss t/\v=c.hdr t)->bA c vs (FE c.ep mk j xs) fp
 |[],[],_,_,h,_,_=>h
 |v::_,_::_,_,j,h,hh,hm=>by obtain⟨f1,f2,rfl,h1,h2⟩:=h;exact⟨f1,f2,rfl,SO h1 hA (λb hb=>hh b (bn _ hb)) (λt ht=>hm 0 v rfl t ht),yh hA (j+1) h2 (λb hb=>hh b (ba _ hb)) (λi u hu t ht=>hm (i+1) u (by simpa using hu) t (by rwa[show j+(i+1)=j+1+i by omega]))⟩
 |[],_::_,_,_,h,_,_=>h.elim
 |_::_,[],_,_,h,_,_=>h.elim
inductive Leaves (A:Rg) (hw:Nat->Nat) (w:World):List Value->List (Bool×List AC)->List Nat->List Value->Prop
 |nil:Leaves A hw w [] [] [] []
 |cons {v:Value} {vs:List Value} {g:Bool} {cs:List AC} {ts:List (Bool×List AC)} {f1 f2:List Nat} {us all:List Value} (eY:Cut g v us) (hr:bA (fD A hw w) us cs f1) (h:Leaves A hw w vs ts f2 all):
  Leaves A hw w (v::vs) ((g,cs)::ts) (f1++f2) (us++all)
theorem Gy {A:Rg}{w:World}:∀{ws:ir}{ts:aw (Bool×aw AC)}{fp:ff},fP.oQ (fD A hw w) ws ts fp->∃all,Leaves A hw w ws ts fp all
 |[],[],_,h=>by cases h;exact⟨[],.nil⟩
 |_::_,(g,cs)::_,_,h=>by obtain⟨f1,f2,rfl,⟨us,eY,hr⟩,h2⟩:=h;obtain⟨all,DV⟩:=Gy h2;exact⟨us++all,.cons eY hr DV⟩
 |[],_::_,_,h=>h.elim
 |_::_,[],_,h=>h.elim
theorem J2 {A':Rg}{mk:Nat->ay Nat}(hA:∀k b o,A' k b o->c.S b o){ws:ir}{ts:aw (Bool×aw AC)}(h:Leaves A' hw c.w ws ts fp all): ∀j,(∀b∈fp,c.hw b=hw b)->(∀i v,all[i]?=some v->∀t,mk (j+i)=some t->c.iss t/\v=c.hdr t)->fP.oQ c ws (UM c.ep mk j ts) fp:=by induction h with|nil=>intro j _ _;exact rfl| @cons v vs g cs ts f1 f2 us all eY hr h ih=>intro j hh hm;have hl:=hr.length;refine⟨f1,f2,rfl,⟨us,eY,yh hA j hr (λb hb=>hh b (bn _ hb)) (λi u hu t ht=>?_)⟩,ih _ (λb hb=>hh b (ba _ hb)) (λi u hu t ht=>?_)⟩;exact hm i u (by rw[br (aE.1 hu).1];exact hu) t ht;have hl':us.length=cs.length:=hl;refine hm (us.length+i) u (by rw[bl (by omega)];simpa using hu) t ?_;rw[<-fu,hl'];exact ht
def oW (hdr:Nat->Value)(mk:Nat->ay Nat)(all:ir):Nat->Value:=λu=>if mk (u/3%4096)=some u then(all[u/3%4096]?).getD undef else hdr u
theorem xI {t:Nat}(h:lJ st t):oW hdr (st.gS d) all t=hdr t:=by unfold oW;rw[aG];intro e;exact(oc e).1 h
theorem xH {i t:Nat}(hv:all[i]?=some v)(h:st.gS d i=some t):v=oW hdr (st.gS d) all t:=by
 obtain⟨_,_,d',rfl,ht,hi⟩:=oc h;have ac4:t/3%4096=i:=by rw[ht,FR];omega
 unfold oW;rw[ac4,aF h,hv];rfl
theorem U1 {vs us:ir}{seg:aw AC}{f1 f2 f3:ff}{off n:Nat}(hus:us=(vs.drop off).take n)(hln:us.length=n)(r1:bA c' (vs.take off) (cs.take off) f1)(r2:bA c' us seg f2)(r3:bA c' (vs.drop (off+n)) (cs.drop (off+n)) f3): bA c' vs (dT cs off seg) (f1++f2++f3):=by
 have xo:=r2.length;have e:vs=vs.take off++us++vs.drop (off+n):=by rw[hus,aJ,<-eC,bU,bU]
 rw[e,dT,show seg.length=n by omega];exact bA.append (bA.append r1 r2) r3
theorem LH:∀(os ss:aw AC){r:aw AC},mD os ss=some r->ss.length=os.length:=by
 intro os
 induction os with
 |nil=>intro ss r h;cases ss with
  |nil=>rfl
  |cons _ _=>simp[mD]at h
 |cons o os ih=>
  intro ss r h
  cases ss with
  |nil=>unfold mD at h;split at h<;>first|contradiction|cases h
  |cons s ss=>
   unfold mD at h
   split at h
   ·contradiction
   ·rename_i h1 h2
    injection h1 with h1 K9;subst K9
    injection h2 with h2 Pp;subst Pp
    rw[Bool.cond_eq_ite]at h
    split at h
    ·obtain⟨r',hr,h⟩:=aM.1 h
     simp[ih _ hr]
    ·cases h
   all_goals first
    |cases h
    |(rename_i h1 h2
      injection h1 with h1 K9;subst K9
      injection h2 with h2 Pp;subst Pp
      obtain⟨r',hr,h⟩:=aM.1 h
      simp[ih _ hr])
theorem DJ {A':Rg}{mk:Nat->ay Nat}{k:Bool}(hA:A' true=c.A k):∀{vs:ir}{xs:aw AC}{fp:ff}(j:Nat),bA (fD A' hw c.w) vs xs fp->xs.all (AC.wo true)=true->
 (∀b∈fp,c.hw b=hw b)->(∀i v,vs[i]?=some v->∀t,mk (j+i)=some t->c.iss t/\v=c.hdr t)->bA c vs (nX k mk j xs) fp
 |[],[],_,_,h,_,_,_=>h
 |v::_,x::_,_,j,h,lI,hh,hm=>by
  obtain⟨f1,f2,rfl,h1,h2⟩:=h;simp only[bV,ae]at lI;refine⟨f1,f2,rfl,?_,DJ hA (j+1) h2 lI.2 (λb hb=>hh b (ba _ hb)) (λi u hu t ht=>hm (i+1) u (by simpa using hu) t (by rwa[show j+(i+1)=j+1+i by omega]))⟩;have CH:∀b∈f1,c.hw b=hw b:=λb hb=>hh b (bn _ hb);have ht:∀t,mk j=some t->c.iss t/\v=c.hdr t:=λt ht=>hm 0 v rfl t ht;have lI:=lI.1;cases x with
  |sl fl e xs=>
   cases fl with
   |own t=>exact⟨eV.mono h1.1 (λb hb=>⟨rfl,CH b hb⟩),ht⟩
   |arg k'=>
    have hk:k'=true:=by simpa[AC.wo]using lI
    subst hk;exact⟨h1.1,by rw[<-hA];exact h1.2⟩
   |loc _ _=>cases lI
   |nest _ _ _ _ _ _=>cases lI
   |part _ _ _ _=>cases lI
   |eX _ _ _=>cases lI
  |int _ _=>exact h1
  |bool _=>exact h1
  |str _=>exact h1
  |fn _=>exact h1
  |jm=>cases lI
  |ptr _ _=>cases lI
  |yP _ _ _ _ _=>cases lI
  |un=>cases lI
  |bot=>cases lI
 |[],_::_,_,_,h,_,_,_=>h.elim
 |_::_,[],_,_,h,_,_,_=>h.elim
theorem FV {A':Rg}{w:World}{k:Bool}:∀{cs:aw AC},cs.all (AC.wo k)=true->∀{c:RC}{vs:ir}{fp:ff},bA c vs cs fp->c.w=w->c.hw=hw->A' true=c.A k->bA (fD A' hw w) vs (cs.map AC.Pb) fp
 |[],_,c,vs,fp,h,_,_,_=>by cases vs with|nil=>exact h|cons _ _=>exact h.elim
 |x::cs,lI,c,vs,fp,h,Pq,C4,hA=>by
  cases vs with
  |nil=>exact h.elim
  |cons v vs=>
   obtain⟨f1,f2,rfl,h1,h2⟩:=h;simp only[bV,ae]at lI;refine⟨f1,f2,rfl,?_,FV lI.2 h2 Pq C4 hA⟩;have lI:=lI.1;cases x with
   |sl fl e xs=>
    cases fl with
    |own t=>exact⟨by have:=h1.1;rw[Pq,C4]at this;exact this,by simp⟩
    |arg k'=>
     have hk:k'=k:=by simpa[AC.wo]using lI
     subst hk;exact⟨h1.1,by have:=h1.2;rw[Pq,<-hA]at this;exact this⟩
    |loc _ _=>cases lI
    |nest _ _ _ _ _ _=>cases lI
    |part _ _ _ _=>cases lI
    |eX _ _ _=>cases lI
   |int _ _=>exact h1
   |bool _=>exact h1
   |str _=>exact h1
   |fn _=>exact h1
   |jm=>cases lI
   |ptr _ _=>cases lI
   |yP _ _ _ _ _=>cases lI
   |un=>cases lI
   |bot=>cases lI
theorem MI (h:dH C g st a w [])(s:Nat){A':Rg}(hA:∀b o,(cH C g st w).S b o/\b<w.heap.size/\g.dX b≠some (.box s)->A' false b o):∀(xs:aw Operand),xs.all (zC st)=true->
 ot A' w (xs.map a.eval) (xs.map (yx st))
 |[],_=>trivial
 |x::xs,hx=>by
  simp only[bV,ae]at hx;refine⟨?_,MI h s hA xs hx.2⟩;have hx:=hx.1;cases x with
  |const _=>exact Jr (h.rd _) hx
  |func _=>exact Jr (h.rd _) hx
  |global _=>exact Jr (h.rd _) hx
  |tmp t=>
   have gC:∀(t0:Nat){e:CT}{v:Value}{xs:aw e.D}{fp:ff},eV g.hw w (.sl e) [v] xs fp->(∀b∈fp,g.dX b=some (.slot t0))->iR w (A' false) (.sl e) [v] xs:=by
    intro t0 e v xs fp h1 hl;have h3:eV (λb=>if b∈fp then g.hw b else 0) w (.sl e) [v] xs fp:=eV.mono h1 (λb hb=>⟨rfl,by simp[hb]⟩)
    exact eV.rep (λb o ho=>by
     by_cases hb:b∈fp;have ho:o<g.hw b:=by simpa[hb]using ho
     have Mq:=hl b hb;exact hA b o ⟨.inr ho,(h.fQ b _ Mq).1,by rw[Mq];simp⟩;simp[hb]at ho) h3
   obtain⟨fp,hr,hn,hl⟩:=h.slot t;simp only[zC]at hx;show fP _ (a.tmps.getD t undef) (yx st (.tmp t)) _;simp only[yx];cases hv:st.get t with
   |tS _=>rw[hv]at hx;cases hx
   |val gg cs=>
    rw[hv]at hx hr;simp only at hx;obtain⟨vs,eY,hr⟩:=hr
    have key:∀(cs:aw AC)(vs:ir)(fp:ff),(cs.map st.Lx).all AC.Ga=true->(∀b∈fp,g.dX b=some (.slot t))->bA (cH C g st w) vs cs fp->
     bA (fD A' (λ_=>0) w) vs (cs.map st.Lx) []:=by
     intro cs
     induction cs with
     |nil=>intro vs fp _ _ h;cases vs with
      |nil=>rfl
      |cons _ _=>exact h.elim
     |cons c cs ih=>
      intro vs fp hc hl hr
      cases vs with
      |nil=>exact hr.elim
      |cons v vs=>
       obtain⟨f1,f2,rfl,h1,h2⟩:=hr
       simp only[cD,bV,ae]at hc
       refine⟨[],[],rfl,?_,ih vs f2 hc.2 (λb hb=>hl b (ba _ hb)) h2⟩
       have hc:=hc.1
       cases c with
       |sl fl e xs=>
        cases fl with
        |own tag=>exact⟨rfl,gC t h1.1 (λb hb=>hl b (bn _ hb))⟩
        |arg k=>exact⟨rfl,iR.mono (λb o u hs hu=>⟨hA b o ⟨.inl ⟨k,hs⟩,World.block_lt_of_cell? w _ hu,λhb=>h.J0 hb k o hs⟩,hu⟩) h1.2⟩
        |loc ep pv=>
         cases pv with
         |none=>cases hc
         |some q=>
          obtain⟨r,tg⟩:=q
          cases r with
          |box _ _=>cases hc
          |io _=>cases hc
          |slot b j=>
           have Oj:=(h1.2.2.2.2 (.slot b j) tg rfl).2
           simp only[AS.Lx]at hc⊢
           cases Sy:st.eJ (.slot b j)with
           |none=>rw[Sy]at hc;cases hc
           |some c0=>
            rw[Sy]at hc
            split at hc
            ·rename_i t' e' ys VO
             split at hc
             ·rename_i ht
              subst ht
              cases VO
              rw[aF rfl]
              obtain⟨fp2,Lr,_,xo⟩:=h.slot b
              simp only[AS.eJ]at Sy
              cases hgb:st.get b with
              |tS _=>rw[hgb]at Sy;cases Sy
              |val g2 Bf=>
               rw[hgb]at Sy Lr
               simp only at Sy
               obtain⟨vs2,_,Lr⟩:=Lr
               rw[dF]at Sy
               obtain⟨v2,f3,_,JK,oh⟩:=Lr.get j _ Sy
               have alS:v=v2:=by have:=(JK.2 t' rfl).2;rw[Oj,this]
               rw[alS]
               exact⟨rfl,gC b JK.1 (λb' gK=>xo b' (oh b' gK))⟩
             ·cases hc
            ·cases hc
        |nest _ _ _ _ _ _=>cases hc
        |part _ _ _ _=>cases hc
        |eX _ _ _=>cases hc
       |int _ _=>exact⟨h1.1,rfl⟩
       |bool _=>exact⟨h1.1,rfl⟩
       |str _=>exact⟨h1.1,rfl⟩
       |fn _=>exact⟨h1.1,rfl⟩
       |jm=>cases hc
       |ptr _ _=>cases hc
       |yP _ _ _ _ _=>cases hc
       |un=>cases hc
       |bot=>cases hc
    exact⟨vs,eY,key cs vs fp hx hl hr⟩
theorem dH.acL (h:dH C g st a w [])(s:Nat)(jt:st.boxes[s]?=some (some cs)): ∃arr T fr fp,w.heap[g.β s]?=some (.cells arr T fr)/\oo arr fr/\bA (cH C g st w) arr.toList cs fp/\fp.Nodup/\g.β s∉fp/\(∀b∈fp,b<w.heap.size)/\g.hw (g.β s)=0/\(∀b,b=g.β s\/b∈fp->g.dX b=some (.box s))/\ ∀(w':World)(hw':Nat->Nat)(iI:Array Value)(T':TypeId)(Ml:Nat×Nat)(oS:aw AC)(jJ fv:ff)(A':Rg)(k:Bool),Fr (λb=>b=g.β s\/b∈fp) w w'->w'.heap[g.β s]?=some (.cells iI T' Ml)->oo iI Ml-> A' true=C.A k->bA (fD A' hw' w') iI.toList oS jJ->oS.all (AC.wo true)=true->jJ.Nodup->g.β s∉jJ->(∀b∈jJ,b<w'.heap.size/\(b∈fp\/w.heap.size<=b))-> (∀b∈fv,b<w'.heap.size/\(b∈fp\/w.heap.size<=b)/\b∉jJ/\b≠g.β s)-> ∃g',dH C g' (Vr st s (nX k (st.gS (some s)) 0 oS)) a w' []/\(∀b∈fv,g'.dX b=some (.hand 0)/\g'.hw b=hw' b)/\∀b,b<w.heap.size->g.dX b≠some (.box s)->g'.hw b=g.hw b:=by
 obtain⟨arr,T,fr,fp,jK,qv,hr,hn,tZ,hl,Eo,Er⟩:=h.boxes s cs jt;have wF:s<st.boxes.length:=(aE.1 jt).1;have JD:∀b,b=g.β s\/b∈fp->g.dX b=some (.box s):=by rintro b (rfl|hb);exact Eo;exact hl b hb
 refine⟨arr,T,fr,fp,jK,qv,hr,hn,tZ,λb hb=>(h.fQ b _ (hl b hb)).1,Er,JD,?_⟩;intro w' hw' iI T' Ml oS jJ fv A' k je EU QC hA' ua afw AY EW Gm Hv;let WI:aw AC:=nX k (st.gS (some s)) 0 oS;let bI:AS:=Vr st s WI;let hw2:Nat->Nat:=λb=>if b∈jJ\/b∈fv then hw' b else if b=g.β s then 0 else g.hw b
 let aba:Nat->ay jy:=λb=>if b=g.β s\/b∈jJ then some (.box s) else if b∈fv then some (.hand 0) else g.dX b
 let g':Gh:=⟨hw2,g.β,aba,oW g.hdr (st.gS (some s)) iI.toList⟩
 have rO:bI.boxes=st.boxes.set s (some WI):=by show((st.eu s (some WI)).fg (some s)).boxes=_;rw[yj,jI]
 have JL:bI.slots=st.slots:=by show((st.eu s (some WI)).fg (some s)).slots=_;rw[sq];rfl
 have Lp:bI.io=st.io:=by show((st.eu s (some WI)).fg (some s)).io=_;rw[Fk];rfl
 have Ib:∀t,lJ st t->lJ bI t:=λt ht=>by have h1:lJ (st.eu s (some WI)) t:=ht;exact Ap (d:=some s) h1
 have Xd:∀t,iQ st t->iQ bI t:=by rintro t ⟨c0,VO⟩;by_cases rb:s=t;subst rb;exact⟨WI,by rw[rO];simp[wF]⟩;exact⟨c0,by rw[rO,aP rb];exact VO⟩
 have Qz:∀b,b<w.heap.size->g.dX b≠some (.box s)->b∉jJ/\b∉fv/\b≠g.β s:=by intro b hb Mq;refine⟨λhm=>?_,λhm=>?_,λhm=>Mq (JD b (.inl hm))⟩;rcases(Gm b hm).2 with h2|h2;exact Mq (JD b (.inr h2));omega;rcases(Hv b hm).2.1 with h2|h2;exact Mq (JD b (.inr h2));omega
 have qC:∀b x,x≠ .box s->g.dX b=some x->aba b=some x/\w'.heap[b]?=w.heap[b]?/\hw2 b=g.hw b:=by intro b x hx hb;have Dc:=(h.fQ b x hb).1;have hnm:¬(b=g.β s\/b∈fp):=λhm=>hx (by have:=JD b hm;rw[hb]at this;simpa using this);obtain⟨n1,n2,n3⟩:=Qz b Dc (by rw[hb];simpa using hx);refine⟨?_,je.block b Dc hnm,?_⟩;show(if b=g.β s\/b∈jJ then _ else if b∈fv then _ else _)=_;rw[aG (by rintro(h1|h1);exact n3 h1;exact n1 h1),aG n2];exact hb;show(if b∈jJ\/b∈fv then _ else if b=g.β s then _ else _)=_;rw[aG (by rintro(h1|h1);exact n1 h1;exact n2 h1),aG n3]
 have W4:∀k b o u,C.A k b o->w.cell? ⟨b,o,none⟩=some u->w'.cell? ⟨b,o,none⟩=some u:=by intro k b o u hA hu;have hb:b<w.heap.size:=World.block_lt_of_cell? w _ hu;rw[World.cell?_of_block (a:=⟨b,o,none⟩) (je.block b hb (λhm=>h.J0 (JD b hm) k o hA))];exact hu
 have hle:(cH C g st w).Le (cH C g' bI w'):=⟨rfl,λt ht=>⟨Ib t ht,xI ht⟩,W4,Nat.le_succ _,λt ht=>⟨Xd t ht,rfl⟩,λhe=>absurd he (Nat.succ_ne_self _)⟩
 refine⟨g',h.step (λx=>x≠ .box s) hle h.defers ?_ ?_ ?_ ?_ (λb x hk hb=>qC b x hk hb) ?_ ?_ (λk u bv hk=>by simp at hk) (.inl ⟨by simp,Lp⟩),λb hb=>?_,λb hb Mq=>?_⟩;rw[JL];exact h.size;rw[JL,rO,aB];exact h.bsize;refine h.frame.trans je (λb hb hm=>?_);rcases(h.fQ b _ (JD b hm)).2 with h2|h2;omega;exact h2;intro b x hx;have yT:(if b=g.β s\/b∈jJ then some (jy.box s) else if b∈fv then some (.hand 0) else g.dX b)=some x:=hx;have hz:=je.size;have hold:b∈fp\/w.heap.size<=b->C.w0.heap.size<=b\/C.M b:=by rintro(h2|h2);exact(h.fQ b _ (hl b h2)).2;exact .inl (bk h.frame.size h2)
 split at yT;rename_i hm;rcases hm with rfl|hm;have:=h.fQ _ _ Eo;exact⟨by omega,this.2⟩;exact⟨(Gm b hm).1,hold (Gm b hm).2⟩;split at yT;rename_i hm;exact⟨(Hv b hm).1,hold (Hv b hm).2.1⟩;have:=h.fQ b x yT;exact⟨by omega,this.2⟩;intro i av hi;rw[JL]at hi;exact .inl ⟨by simp,hi,rfl⟩;intro t Bf hb;rw[rO]at hb;by_cases rb:t=s;subst rb;rw[bm]at hb;simp only[bM,wF]at hb;simp at hb;subst hb;refine .inr ⟨iI,T',Ml,jJ,EU,QC,?_,AY,EW,λb hb=>?_,?_,?_⟩
 have:=DJ (c:=cH C g' bI w') (A':=A') (hw:=hw') (mk:=st.gS (some t)) (k:=k) hA' 0 (vs:=iI.toList) (xs:=oS) (fp:=jJ) ua afw
  (λb hb=>by show(if b∈jJ\/b∈fv then _ else _)=_;rw[aF (.inl hb)])
  (λi u hu q hq=>by
   rw[cl]at hq;have hm:=oc hq;have hm2:lJ bI q:=by have h1:st.gS (some t) i=some q:=hq;have h2:(st.eu t (some WI)).gS (some t) i=some q:=h1;exact(oc h2).2.1
   exact⟨hm2,xH hu hq⟩)
 exact this;show(if b=g.β t\/b∈jJ then _ else _)=_;rw[aF (.inr hb)];show(if g.β t=g.β t\/g.β t∈jJ then _ else _)=_;rw[aF (.inl rfl)];show(if g.β t∈jJ\/g.β t∈fv then _ else if g.β t=g.β t then _ else _)=_;rw[aG (by rintro(h1|h1);exact EW h1;exact(Hv _ h1).2.2.2 rfl),aF rfl];rw[aP (cL rb)]at hb;exact .inl ⟨by simpa using rb,hb,rfl⟩;obtain⟨_,_,h3,h4⟩:=Hv b hb;refine⟨?_,?_⟩;show(if b=g.β s\/b∈jJ then _ else if b∈fv then _ else _)=_;rw[aG (by rintro(h1|h1);exact h4 h1;exact h3 h1),aF hb];show(if b∈jJ\/b∈fv then _ else _)=_;rw[aF (.inr hb)];obtain⟨n1,n2,n3⟩:=Qz b hb Mq;show(if b∈jJ\/b∈fv then _ else if b=g.β s then _ else _)=_;rw[aG (by rintro(h1|h1);exact n1 h1;exact n2 h1),aG n3]
theorem Np:∀{vs:ir}{cs:aw AC}{fp:ff},bA c vs cs fp->cs.all AC.EB=true->fp=[]
 |[],[],_,h,_=>h
 |[],_::_,_,h,_=>h.elim
 |_::_,[],_,h,_=>h.elim
 |v::vs,x::cs,fp,h,hx=>by
  obtain⟨f1,f2,rfl,h1,h2⟩:=h;simp only[bV,ae]at hx;rw[Np h2 hx.2,bt];have hx:=hx.1;cases x with
  |sl fl e xs=>cases fl<;>first|exact h1.1|cases hx
  |int k n=>exact h1.2
  |bool b=>exact h1.2
  |str s=>exact h1.2
  |fn f=>exact h1.2
  |jm=>cases hx
  |ptr _ _=>cases hx
  |yP _ _ _ _ _=>cases hx
  |un=>cases hx
  |bot=>cases hx
theorem dH.ZH (h:dH C g st a w [])(s:Nat)(jt:st.boxes[s]?=some (some cs))(Gl:cs.all AC.EB=true): ∀(w':World)(hw':Nat->Nat)(iI:Array Value)(T':TypeId)(Ml:Nat×Nat)(oS:aw AC)(jJ fv:ff)(A':Rg)(k:Bool),Fr (λb=>b=g.β s) w w'->w'.heap[g.β s]?=some (.cells iI T' Ml)->oo iI Ml-> A' true=C.A k->bA (fD A' hw' w') iI.toList oS jJ->oS.all (AC.wo true)=true->jJ.Nodup->g.β s∉jJ->(∀b∈jJ,b<w'.heap.size/\w.heap.size<=b)-> (∀b∈fv,b<w'.heap.size/\w.heap.size<=b/\b∉jJ/\b≠g.β s)-> ∃g',dH C g' (st.eu s (some (nX k (λ_=>none) 0 oS))) a w' []/\(∀b∈fv,g'.dX b=some (.hand 0)/\g'.hw b=hw' b)/\∀b,b<w.heap.size->g.dX b≠some (.box s)->g'.hw b=g.hw b:=by
 obtain⟨arr,T,fr,fp,jK,qv,hr,hn,tZ,hl,Eo,Er⟩:=h.boxes s cs jt;have afh:fp=[]:=Np hr Gl;subst afh;have wF:s<st.boxes.length:=(aE.1 jt).1;intro w' hw' iI T' Ml oS jJ fv A' k je EU QC hA' ua afw AY EW Gm Hv;let WI:aw AC:=nX k (λ_=>none) 0 oS;let bI:AS:=st.eu s (some WI);let hw2:Nat->Nat:=λb=>if b∈jJ\/b∈fv then hw' b else if b=g.β s then 0 else g.hw b
 let aba:Nat->ay jy:=λb=>if b=g.β s\/b∈jJ then some (.box s) else if b∈fv then some (.hand 0) else g.dX b
 let g':Gh:=⟨hw2,g.β,aba,g.hdr⟩
 have rO:bI.boxes=st.boxes.set s (some WI):=by show(st.eu s (some WI)).boxes=_;rw[jI]
 have Xd:∀t,iQ st t->iQ bI t:=by rintro t ⟨c0,VO⟩;by_cases rb:s=t;subst rb;exact⟨WI,by rw[rO];simp[wF]⟩;exact⟨c0,by rw[rO,aP rb];exact VO⟩
 have hold:∀b,b<w.heap.size->b∉jJ/\b∉fv:=by intro b hb;refine⟨λhm=>?_,λhm=>?_⟩;have:=(Gm b hm).2;omega;have:=(Hv b hm).2.1;omega
 have CH:∀b,b<w.heap.size->b≠g.β s->hw2 b=g.hw b:=by intro b hb Ad;show(if b∈jJ\/b∈fv then _ else if b=g.β s then _ else _)=_;rw[aG (by rintro(h1|h1);exact(hold b hb).1 h1;exact(hold b hb).2 h1),aG Ad]
 have qC:∀b x,x≠ .box s->g.dX b=some x->aba b=some x/\w'.heap[b]?=w.heap[b]?/\hw2 b=g.hw b:=by intro b x hx hb;have Dc:=(h.fQ b x hb).1;have Ad:b≠g.β s:=λhm=>hx (by rw[hm,Eo]at hb;simpa using hb.symm);refine⟨?_,je.block b Dc Ad,CH b Dc Ad⟩;show(if b=g.β s\/b∈jJ then _ else if b∈fv then _ else _)=_;rw[aG (by rintro(h1|h1);exact Ad h1;exact(hold b Dc).1 h1),aG (hold b Dc).2];exact hb
 have W4:∀k b o u,C.A k b o->w.cell? ⟨b,o,none⟩=some u->w'.cell? ⟨b,o,none⟩=some u:=by intro k b o u hA hu;have hb:b<w.heap.size:=World.block_lt_of_cell? w _ hu;rw[World.cell?_of_block (a:=⟨b,o,none⟩) (je.block b hb (λhm=>h.J0 (by rw[hm];exact Eo) k o hA))];exact hu
 have hle:(cH C g st w).Le (cH C g' bI w'):=by
  refine⟨rfl,λt ht=>⟨ht,rfl⟩,W4,aS _,λt ht=>⟨Xd t ht,rfl⟩,λ_ b o u ho hu=>?_⟩;have hb:b<w.heap.size:=World.block_lt_of_cell? w _ hu;have Ie:o<g.hw b:=ho;have Ad:b≠g.β s:=λe=>by rw[e,Er]at Ie;omega
  refine⟨by show o<hw2 b;rw[CH b hb Ad];exact Ie,?_⟩;show w'.cell? ⟨b,o,none⟩=some u;rw[World.cell?_of_block (a:=⟨b,o,none⟩) (je.block b hb Ad)];exact hu
 refine⟨g',h.step (λx=>x≠ .box s) hle h.defers h.size ?_ ?_ ?_ (λb x hk hb=>qC b x hk hb) ?_ ?_ (λk u bv hk=>by simp at hk) (.inl ⟨by simp,rfl⟩),λb hb=>?_,λb hb Mq=>?_⟩;rw[rO,aB];exact h.bsize;refine h.frame.trans je (λb hb hm=>?_);have hm:b=g.β s:=hm;subst hm;rcases(h.fQ _ _ Eo).2 with h2|h2;omega;exact h2;intro b x hx;have yT:(if b=g.β s\/b∈jJ then some (jy.box s) else if b∈fv then some (.hand 0) else g.dX b)=some x:=hx;have hz:=je.size;split at yT;rename_i hm;rcases hm with rfl|hm;have:=h.fQ _ _ Eo;exact⟨by omega,this.2⟩;exact⟨(Gm b hm).1,.inl (bk h.frame.size (Gm b hm).2)⟩;split at yT;rename_i hm;exact⟨(Hv b hm).1,.inl (bk h.frame.size (Hv b hm).2.1)⟩;have:=h.fQ b x yT;exact⟨by omega,this.2⟩;intro i av hi;exact .inl ⟨by simp,hi,rfl⟩;intro t Bf hb;rw[rO]at hb;by_cases rb:t=s;subst rb;rw[bm]at hb;simp only[bM,wF]at hb;simp at hb;subst hb;refine .inr ⟨iI,T',Ml,jJ,EU,QC,?_,AY,EW,λb hb=>?_,?_,?_⟩;have:=DJ (c:=cH C g' bI w') (A':=A') (hw:=hw') (mk:=λ_=>none) (k:=k) hA' 0 (vs:=iI.toList) (xs:=oS) (fp:=jJ) ua afw (λb hb=>by show(if b∈jJ\/b∈fv then _ else _)=_;rw[aF (.inl hb)]) (λi u hu q hq=>by cases hq);exact this;show(if b=g.β t\/b∈jJ then _ else _)=_;rw[aF (.inr hb)];show(if g.β t=g.β t\/g.β t∈jJ then _ else _)=_;rw[aF (.inl rfl)];show(if g.β t∈jJ\/g.β t∈fv then _ else if g.β t=g.β t then _ else _)=_;rw[aG (by rintro(h1|h1);exact EW h1;exact(Hv _ h1).2.2.2 rfl),aF rfl];rw[aP (cL rb)]at hb;exact .inl ⟨by simpa using rb,hb,rfl⟩;obtain⟨_,_,h3,h4⟩:=Hv b hb;refine⟨?_,?_⟩;show(if b=g.β s\/b∈jJ then _ else if b∈fv then _ else _)=_;rw[aG (by rintro(h1|h1);exact h4 h1;exact h3 h1),aF hb];show(if b∈jJ\/b∈fv then _ else _)=_;rw[aF (.inr hb)];exact CH b hb (λe=>Mq (by rw[e];exact Eo))
theorem ae5 (yd:∀f,gA P f (Γ f)){o':Oper}(ho:o'.op=.call {callee:=.value f,args,argTypes:=ts})(hg:dH C g st a w []){k:Nat}(hf:st.rd f=.val false [.fn k])(jt:(Γ k).bx=true){K:AS->ay R}(hk:sE Γ o' k args.toList st K=some r)(next:Act->World->Prop)(Q:Exit->Act->World->Prop)(gv:∀bI a' w',mP C bI a' w'->K bI=some r->next a' w'):o'.wp P a w next Q:=by
 have Hv:=hg.rd f;rw[hf]at Hv;have Hv:=(ee Hv).1;unfold sE at hk;split at hk
 ·rename_i x0 xs fL;split at hk
  ·rename_i s hx0;split at hk
   ·rename_i cs Qp;have hb:st.boxes[s]?=some (some cs):=by rw[dF]at Qp;cases hq:st.boxes[s]? with|none=>rw[hq]at Qp;simp at Qp|some q=>rw[hq]at Qp;simp at Qp;rw[Qp]
    cases hc:(cs.all (AC.wo (AM cs))&&xs.all (zC st))with
    |false=>rw[hc]at hk;cases hk
    |true=>
     rw[hc]at hk;simp only[ah]at hk;simp only[ae]at hc;cases gw:(Γ k).fn (.val true (cs.map AC.Pb)::xs.map (yx st))with
     |none=>rw[gw]at hk;cases hk
     |some y=>
      rw[gw]at hk;simp only[aa]at hk;cases TH:(((Γ k).back y).all (AC.wo true)&&((Γ k).av y).X6)with
      |false=>rw[TH]at hk;cases hk
      |true=>
       rw[TH]at hk;simp only[ah]at hk;simp only[ae]at TH;obtain⟨⟨fn,c,Qt,Qq,zw⟩,_,_,yR,_⟩:=yd k _ y gw;have yR:=yR jt _ _ rfl;have JJ:=hg.rd x0;rw[hx0]at JJ;have sA:=yB JJ;obtain⟨arr,T,fr,fp,jK,qv,eI,hn,tZ,hG,Er,BL,oO⟩:=hg.acL s hb;let A':Rg:=λq b o=>bif q then C.A (AM cs) b o else((cH C g st w).S b o/\b<w.heap.size/\g.dX b≠some (.box s))
       have hA':∀q b' o,A' q b' o->b'<w.heap.size/\b'≠g.β s/\b'∉fp:=by
        intro q b' o hq;have key:b'<w.heap.size/\g.dX b'≠some (.box s):=by cases q with|true=>have hq:C.A (AM cs) b' o:=hq;exact⟨Nat.lt_of_lt_of_le (C.hA _ _ _ hq).1 hg.frame.size,λhb=>hg.J0 hb _ o hq⟩|false=>exact hq.2
        exact⟨key.1,λe=>key.2 (BL b' (.inl e)),λe=>key.2 (BL b' (.inr e))⟩
       have Ht:=yR A' w (g.β s) (xs.map a.eval) arr T fr g.hw fp hA' jK qv (FV (k:=AM cs) hc.1 eI rfl rfl rfl) hn tZ hG Er (MI hg s (λb o h=>h) xs hc.2);have alO:a.eval x0=.pointer (some ⟨g.β s,0,none⟩):=sA;have afc:(Value.pointer (some ⟨g.β s,0,none⟩)::xs.map a.eval).toArray=args.map a.eval:=by apply eO;simp[fL,alO]
       rw[afc]at Ht;have dV:(execOp a.eval o').run P w=.ok (.enter k (args.map a.eval)) w:=by simp[execOp,ho,resolve,Hv,Deferred.ofValue,invoke,callFunc,Qt,Qq];simpa using zw
       unfold Oper.wp;rw[dV,Oper.upon_enter];refine Ht.mono ?_;rintro e w' ⟨v,hw',fv,iI,T',Ml,jJ,rfl,Ms,EU,QC,ua,AY,EW,Gm,hnv,aaF,je⟩;show next (a.put o'.dst v) w'
       have tail:∀(st1:AS)(g':Gh),dH C g' st1 a w' []->(∀b∈fv,g'.dX b=some (.hand 0)/\g'.hw b=hw' b)->(∀b,b<w.heap.size->g.dX b≠some (.box s)->g'.hw b=g.hw b)->
        K ((st1.fg o'.dst).put o'.dst (((Γ k).av y).AN st1.ep (st1.gS o'.dst)))=some r->next (a.put o'.dst v) w':=by
        intro st1 g' mO hlv hold hk
        have hAS:∀(hd:Nat->Value)(q:Bool)(b o:Nat),A' q b o->(cH C {g' with hdr:=hd} (st1.fg o'.dst) w').S b o:=by intro hd q b o hq;cases q with|true=>exact .inl ⟨_,hq⟩|false=>rcases hq.1 with hs|hs;exact .inl hs;exact .inr (by show o<g'.hw b;rw[hold b hq.2.1 hq.2.2];exact hs)
        have aaD:∀b∈fv,g'.hw b=hw' b:=λb hb=>(hlv b hb).2
        have ua:∃hd,(∀t,lJ st1 t->hd t=g'.hdr t)/\fP (cH C {g' with hdr:=hd} (st1.fg o'.dst) w') v (((Γ k).av y).AN st1.ep (st1.gS o'.dst)) fv:=by
         generalize (Γ k).av y=y at Ms;cases y with
         |val gg cs=>obtain⟨vs,eY,hr⟩:=Ms;refine⟨oW g'.hdr (st1.gS o'.dst) vs,λt ht=>xI ht,vs,eY,?_⟩;have:=yh (c:=cH C {g' with hdr:=oW g'.hdr (st1.gS o'.dst) vs} (st1.fg o'.dst) w') (mk:=st1.gS o'.dst) (hAS _) 0 hr aaD (λi u hu t ht=>by rw[cl]at ht;exact⟨(oc ht).2.1,xH hu ht⟩);have vY:(cH C {g' with hdr:=oW g'.hdr (st1.gS o'.dst) vs} (st1.fg o'.dst) w').ep=st1.ep:=xB;rw[vY]at this;exact this
         |tS ts=>obtain⟨ws,hv,hr⟩:=Ms;obtain⟨all,DV⟩:=Gy hr;refine⟨oW g'.hdr (st1.gS o'.dst) all,λt ht=>xI ht,ws,hv,?_⟩;have:=J2 (c:=cH C {g' with hdr:=oW g'.hdr (st1.gS o'.dst) all} (st1.fg o'.dst) w') (mk:=st1.gS o'.dst) (hAS _) DV 0 aaD (λi u hu t ht=>by rw[cl]at ht;exact⟨(oc ht).2.1,xH hu ht⟩);have vY:(cH C {g' with hdr:=oW g'.hdr (st1.gS o'.dst) all} (st1.fg o'.dst) w').ep=st1.ep:=xB;rw[vY]at this;exact this
        obtain⟨hd,hhd,ua⟩:=ua
        obtain⟨g2,DW⟩:=mO.Kt o'.dst (hw':=g'.hw) (hdr':=hd) (fp:=fv) (st1:=st1.fg o'.dst) Fk sq yj xB (λt ht=>⟨Ap ht,hhd t ht⟩)
         (Fr.refl _ _) (λ_ _ _ _=>rfl) (λ_ _ _ ho hu=>⟨ho,hu⟩) ua hnv (λb hb=>⟨(aaF b hb).1,.inl (by rw[(hlv b hb).1];rfl)⟩)
        exact gv _ _ _ ⟨g2,DW⟩ hk
       cases hcur:((Γ k).cur&&cs.all AC.EB)with
       |false=>rw[hcur]at hk;obtain⟨g',mO,hlv,hold⟩:=oO w' hw' iI T' Ml ((Γ k).back y) jJ fv A' (AM cs) je EU QC rfl ua TH.1 AY EW Gm aaF;exact tail _ g' mO hlv hold hk
       |true=>rw[hcur]at hk;simp only[ae]at hcur;have afh:fp=[]:=Np eI hcur.2;subst afh;obtain⟨g',mO,hlv,hold⟩:=hg.ZH s hb hcur.2 w' hw' iI T' Ml ((Γ k).back y) jJ fv A' (AM cs) ⟨je.os,je.tape,je.output,je.size,λb hb hm=>je.block b hb (λhh=>hm (hh.resolve_right (by simp)))⟩ EU QC rfl ua TH.1 AY EW (λb hb=>⟨(Gm b hb).1,(Gm b hb).2.resolve_left (by simp)⟩) (λb hb=>⟨(aaF b hb).1,(aaF b hb).2.1.resolve_left (by simp),(aaF b hb).2.2⟩);exact tail _ g' mO hlv hold hk
   cases hk
  cases hk
 cases hk
theorem arg_val (hA:c'.A=c.A)(hw:c'.w=c.w){x:AV}(h:fP c v x fp)(hx:x.Ga=true):fp=[]/\fP c' v x []:=by
 cases x with
 |tS _=>cases hx
 |val g cs=>
  obtain⟨vs,eY,h⟩:=h
  have key:∀(cs:aw AC)(vs:ir)(fp:ff),bA c vs cs fp->cs.all AC.Ga=true->fp=[]/\bA c' vs cs []:=by
   intro cs
   induction cs with
   |nil=>intro vs fp h _;cases vs with
    |nil=>exact⟨h,rfl⟩
    |cons _ _=>exact h.elim
   |cons x cs ih=>
    intro vs fp h hx
    cases vs with
    |nil=>exact h.elim
    |cons v vs=>
     obtain⟨f1,f2,rfl,h1,h2⟩:=h
     simp only[bV,ae]at hx
     obtain⟨rfl,k2⟩:=ih vs f2 h2 hx.2
     have hx:=hx.1
     have one:f1=[]/\gy c' v x []:=by
      cases x with
      |sl fl e xs=>cases fl with|arg k=>exact⟨h1.1,rfl,by rw[hA,hw];exact h1.2⟩|own _=>cases hx|loc _ _=>cases hx|nest _ _ _ _ _ _=>cases hx|part _ _ _ _=>cases hx|eX _ _ _=>cases hx
      |int _ _=>exact pD h1 rfl
      |bool _=>exact pD h1 rfl
      |str _=>exact pD h1 rfl
      |fn _=>exact pD h1 rfl
      |jm=>cases hx
      |ptr _ _=>cases hx
      |yP _ _ _ _ _=>cases hx
      |un=>cases hx
      |bot=>cases hx
     obtain⟨rfl,k1⟩:=one
     exact⟨rfl,[],[],rfl,k1,k2⟩
  obtain⟨e,k⟩:=key cs vs fp h hx;exact⟨e,vs,eY,k⟩
theorem PC (h:dH C g st a w []):∀(xs:aw Operand),xs.all (λx=>(st.rd x).Ga)=true->ot C.A w (xs.map a.eval) (xs.map st.rd)
 |[],_=>trivial
 |x::xs,hf=>by simp only[bV,ae]at hf;exact⟨(arg_val (c:=cH C g st w) (c':=fD C.A (λ_=>0) w) rfl rfl (h.rd x) hf.1).2,PC h xs hf.2⟩
theorem agc (yd:∀f,gA P f (Γ f)){o':Oper}(ho:o'.op=.call {callee:=.value f,args,argTypes:=ts})(hg:dH C g st a w []){k:Nat}(hf:st.rd f=.val false [.fn k])(Xd:(Γ k).pr=true){K:AS->ay R}(hk:X7 Γ o' k args.toList st K=some r)(next:Act->World->Prop)(Q:Exit->Act->World->Prop)(gv:∀bI a' w',mP C bI a' w'->K bI=some r->next a' w'):o'.wp P a w next Q:=by
 have Hv:=hg.rd f;rw[hf]at Hv;have Hv:=(ee Hv).1;unfold X7 at hk;split at hk
 ·rename_i d hd;split at hk
  ·rename_i Ep;cases hc:args.toList.all (λx=>(st.rd x).Ga)with
   |false=>rw[hc]at hk;cases hk
   |true=>
    rw[hc]at hk;simp only[ah]at hk;cases gw:(Γ k).fn (args.toList.map st.rd)with
    |none=>rw[gw]at hk;cases hk
    |some y=>
     rw[gw]at hk;simp only[aa]at hk;cases TH:((Γ k).back y).all AC.Ga with
     |false=>rw[TH]at hk;cases hk
     |true=>
      rw[TH]at hk;simp only[ah]at hk;obtain⟨⟨fn,c,Qt,Qq,zw⟩,_,_,_,yR⟩:=yd k _ y gw;have Ht:=yR Xd C.A w (args.toList.map a.eval) (λq b o hq=>Nat.lt_of_lt_of_le (C.hA q b o hq).1 hg.frame.size) (PC hg _ hc);have fL:(args.toList.map a.eval).toArray=args.map a.eval:=by apply eO;simp
      rw[fL]at Ht;have dV:(execOp a.eval o').run P w=.ok (.enter k (args.map a.eval)) w:=by simp[execOp,ho,resolve,Hv,Deferred.ofValue,invoke,callFunc,Qt,Qq];simpa using zw
      unfold Oper.wp;rw[dV,Oper.upon_enter];refine Ht.mono ?_;rintro e w' ⟨b,arr,T,fr,hw,rfl,hb,jK,qv,eI,je⟩;show next (a.put o'.dst (.pointer (some ⟨b,0,none⟩))) w'
      rw[dF]at Ep;have Dc:=la jK;have Ad:∀b' x,g.dX b'=some x->b'≠b:=λb' x hx e=>by have:=(hg.fQ b' x hx).1;omega
      have hr1:bA ⟨λb'=>if b'=b then 0 else g.hw b',λt=>if t=d then b else g.β t,C.A,g.hdr,lJ st,st.ep,iQ st,w'⟩ arr.toList ((Γ k).back y) []:=by
       have hv:fP (fD C.A hw w') (.agg arr.toList.toArray) (.val true ((Γ k).back y)) []:=⟨arr.toList,rfl,eI⟩
       obtain⟨_,vs,eY,h⟩:=arg_val (c:=fD C.A hw w') (c':=⟨λb'=>if b'=b then 0 else g.hw b',λt=>if t=d then b else g.β t,C.A,g.hdr,lJ st,st.ep,iQ st,w'⟩) rfl rfl hv TH;have:arr.toList=vs:=by have eY:Value.agg arr.toList.toArray=.agg vs.toArray:=eY;simp only[Value.agg.injEq]at eY;simpa using congrArg Array.toList eY
       rw[this];exact h
      obtain⟨g',Gq,h'⟩:=hg.SS d (cs:=(Γ k).back y) (arr:=arr) (T:=T) (fr:=fr) (fp:=[]) (w':=w') (bnew:=b) (hw':=λb'=>if b'=b then 0 else g.hw b') (.inr ⟨hb,Ep⟩) ⟨je.os,je.tape,je.output,je.size,λb' gK _=>je.block b' gK (λm=>m)⟩ jK qv Dc (by simp) (λb' x hx _ hn=>by simp[hn]) (λb' o u ho hu=>by have gK:b'<w.heap.size:=World.block_lt_of_cell? w _ hu;exact⟨by simp[show b'≠b by omega];exact ho,xm je hu⟩) hr1 List.nodup_nil (by simp) (λb' gK=>by cases gK);have hdl:d<st.boxes.length:=(aE.1 Ep).1;have hq:=h'.quiet (some d) (v:=.pointer (some ⟨b,0,none⟩)) (av:=.one (.ptr d 0)) (ly ⟨by simp[cH,Gq],⟨(Γ k).back y,by rw[jI];simp[hdl]⟩,rfl⟩);rw[hd];exact gv _ _ _ ⟨g',hq⟩ hk
  cases hk
 cases hk
theorem acP (yd:∀f,gA P f (Γ f)){o':Oper}(ho:o'.op=.call {callee:=.value f,args,argTypes:=ts})(h:mP C st a w){K:AS->ay R}(hk:AP Γ o' f args.toList st K=some r)(next:Act->World->Prop)(Q:Exit->Act->World->Prop)(gv:∀bI a' w',mP C bI a' w'->K bI=some r->next a' w'):o'.wp P a w next Q:=by
 obtain⟨g,hg⟩:=h;unfold AP at hk;split at hk
 ·rename_i k hf
  have Hv:=hg.rd f
  rw[hf]at Hv
  have Hv:=(ee Hv).1
  cases jt:(Γ k).bx with
  |true=>rw[jt]at hk;exact ae5 yd ho hg hf jt hk next Q gv
  |false=>
  rw[jt]at hk
  simp only[af]at hk
  cases Xd:(Γ k).pr with
  |true=>rw[Xd]at hk;exact agc yd ho hg hf Xd hk next Q gv
  |false=>
  rw[Xd]at hk
  simp only[af]at hk
  cases Lp:(Γ k).io with
  |true=>rw[Lp]at hk;cases hk
  |false=>
  rw[Lp]at hk
  simp only[af]at hk
  cases gw:(Γ k).fn (args.toList.map λx=>((st.rd x).fresh st).asArg st.ep)with
  |none=>rw[gw]at hk;cases hk
  |some y0=>
   rw[gw]at hk
   simp only[aa]at hk
   obtain⟨⟨fn,c,Qt,Qq,zw⟩,yR,_⟩:=yd k _ y0 gw
   have yR:=yR Lp jt
   have hk:K ((st.fg o'.dst).put o'.dst (((Γ k).res y0).AN st.ep (st.gS o'.dst)))=some r:=by unfold iW.res;cases Ls:(Γ k).sel y0 with|true=>rw[Ls]at hk;exact hk|false=>rw[Ls]at hk;exact hk
   generalize hy0:(Γ k).res y0=y at hk yR
   have Ht:=yR (λ_ b o=>(cH C g st w).S b o/\b<w.heap.size) w (args.toList.map a.eval) (λ_ _ _ h=>h.2) (PE hg args.toList)
   have fL:(args.toList.map a.eval).toArray=args.map a.eval:=by apply eO;simp
   rw[fL]at Ht
   have dV:(execOp a.eval o').run P w=.ok (.enter k (args.map a.eval)) w:=by simp[execOp,ho,resolve,Hv,Deferred.ofValue,invoke,callFunc,Qt,Qq];simpa using zw
   unfold Oper.wp
   rw[dV,Oper.upon_enter]
   refine Ht.mono ?_
   rintro e w' ⟨v,hw,fp,rfl,eI,CI,AU,je⟩
   show next (a.put o'.dst v) w'
   let hw':Nat->Nat:=λb=>if b∈fp then hw b else g.hw b
   have TL:∀b,b<w.heap.size->b∉fp:=λb hb hm=>by have:=(AU b hm).1;omega
   have hA':∀(hd:Nat->Value)(_:Bool)(b o:Nat),((cH C g st w).S b o/\b<w.heap.size)->(cH C {g with hw:=hw',hdr:=hd} (st.fg o'.dst) w').S b o:=by rintro hd _ b o ⟨hs,hb⟩;rcases hs with hs|hs;exact .inl hs;exact .inr (by simp only[cH,hw',aG (TL b hb)];exact hs)
   have ua:∃hd,(∀t,lJ st t->hd t=g.hdr t)/\fP (cH C {g with hw:=hw',hdr:=hd} (st.fg o'.dst) w') v (y.AN st.ep (st.gS o'.dst)) fp:=by
    have aaD:∀b∈fp,hw' b=hw b:=λb hb=>by simp[hw',hb]
    cases y with
    |val gg cs=>obtain⟨vs,eY,hr⟩:=eI;refine⟨oW g.hdr (st.gS o'.dst) vs,λt ht=>xI ht,vs,eY,?_⟩;have:=yh (c:=cH C {g with hw:=hw',hdr:=oW g.hdr (st.gS o'.dst) vs} (st.fg o'.dst) w') (mk:=st.gS o'.dst) (hA' _) 0 hr aaD (λi u hu t ht=>by rw[cl]at ht;exact⟨(oc ht).2.1,xH hu ht⟩);have vY:(cH C {g with hw:=hw',hdr:=oW g.hdr (st.gS o'.dst) vs} (st.fg o'.dst) w').ep=st.ep:=xB;rw[vY]at this;exact this
    |tS ts=>obtain⟨ws,hv,hr⟩:=eI;obtain⟨all,DV⟩:=Gy hr;refine⟨oW g.hdr (st.gS o'.dst) all,λt ht=>xI ht,ws,hv,?_⟩;have:=J2 (c:=cH C {g with hw:=hw',hdr:=oW g.hdr (st.gS o'.dst) all} (st.fg o'.dst) w') (mk:=st.gS o'.dst) (hA' _) DV 0 aaD (λi u hu t ht=>by rw[cl]at ht;exact⟨(oc ht).2.1,xH hu ht⟩);have vY:(cH C {g with hw:=hw',hdr:=oW g.hdr (st.gS o'.dst) all} (st.fg o'.dst) w').ep=st.ep:=xB;rw[vY]at this;exact this
   obtain⟨hd,hhd,ua⟩:=ua
   obtain⟨g',mO⟩:=hg.Kt o'.dst (hw':=hw') (hdr':=hd) (fp:=fp) (st1:=st.fg o'.dst) Fk sq yj xB (λt ht=>⟨Ap ht,hhd t ht⟩)
    ⟨je.os,je.tape,je.output,je.size,λb hb _=>je.block b hb (λm=>m)⟩ (λb x hx _=>by simp[hw',TL b (hg.fQ b x hx).1])
    (λb o u ho hu=>by have hb:b<w.heap.size:=World.block_lt_of_cell? w _ hu;exact⟨by simp[hw',TL b hb];exact ho,xm je hu⟩) ua CI (λb hb=>⟨(AU b hb).2,.inr (AU b hb).1⟩)
   exact gv _ _ _ ⟨g',mO⟩ hk
 cases hk
end Go.Dn
