import Derived.Test.YtfbhfnniblfpbaaGreatDnOps8
/- A call by value: what a callee promises, and what the caller makes of it. -/
namespace Go.Dn
open Go.RowKit
variable {P:Program} {C:Ctx} {st:AS} {a:Act} {w:World} {R:Type} {r:R}
variable {x:AC} {args:Array Operand} {ts:Array TypeId} {Γ:zu} {g:Gh} {hw:Nat->Nat} {hdr:Nat->Value} {f:Operand} {c c':RC} {cs:ax AC} {d:aA Nat} {fp:fi}
def gh (A:Rg)(hw:Nat->Nat)(w:World):RC:=⟨hw,λ_=>0,A,λ_=>undef,λ_=>False,0,λ_=>False,w⟩
def qx (A:Rg)(w:World):jI->ax AV->Prop
 |[],[]=>True
 |v::vs,x::xs=>gV (gh A (λ_=>0) w) v x []/\qx A w vs xs
 |_,_=>False
def asl (P:Program)(f:Nat)(F:BC)(y:F.R)(g:Bool)(cs:ax AC)(rest:ax AV):Prop:=
 ∀(A:Rg)(w:World)(v0:Value)(vs:jI)(hw:Nat->Nat)(fp:fi),(∀k b o,A k b o->b<w.heap.size/\b∉fp)->gV (gh A hw w) v0 (.val g cs) fp->fp.Nodup->(∀b∈fp,b<w.heap.size)->qx A w vs rest->
  Calls P f (v0::vs).toArray w λe w'=>∃v hw' fr kZ,e=.returned v/\gV (gh A hw' w') v (F.av y) fr/\gV (gh A hw' w') v0 (.val g (F.back y)) kZ/\kZ.Nodup/\
   (∀b∈kZ,b<w'.heap.size/\(b∈fp\/w.heap.size<=b))/\Fr (λb=>b∈fp) w w'
def amq (P:Program)(f:Nat)(F:BC)(y:F.R)(cs:ax AC)(rest:ax AV):Prop:=
 ∀(A:Rg)(w:World)(b:Nat)(vs:jI)(arr:Array Value)(T:TypeId)(fr:Nat×Nat)(hw:Nat->Nat)(fp:fi),(∀k b' o,A k b' o->b'<w.heap.size/\b'≠b/\b'∉fp)->
  w.heap[b]?=some (.cells arr T fr)->sE arr fr->bW (gh A hw w) arr.toList cs fp->fp.Nodup->b∉fp->(∀b'∈fp,b'<w.heap.size)->hw b=0->qx A w vs rest->
  Calls P f (.pointer (some ⟨b,0,none⟩)::vs).toArray w λe w'=>∃v hw' fv kq T' NZ kZ,e=.returned v/\gV (gh A hw' w') v (F.av y) fv/\w'.heap[b]?=some (.cells kq T' NZ)/\sE kq NZ/\
   bW (gh A hw' w') kq.toList (F.back y) kZ/\kZ.Nodup/\b∉kZ/\(∀b'∈kZ,b'<w'.heap.size/\(b'∈fp\/w.heap.size<=b'))/\fv.Nodup/\(∀b'∈fv,b'<w'.heap.size/\(b'∈fp\/w.heap.size<=b')/\b'∉kZ/\b'≠b)/\Fr (λb'=>b'=b\/b'∈fp) w w'
def akK (P:Program)(f:Nat)(F:BC)(y:F.R)(xs:ax AV):Prop:=
 ∀(A:Rg)(w:World)(vs:jI),(∀k b o,A k b o->b<w.heap.size)->qx A w vs xs->
  Calls P f vs.toArray w λe w'=>∃b arr T fr hw,e=.returned (.pointer (some ⟨b,0,none⟩))/\w.heap.size<=b/\w'.heap[b]?=some (.cells arr T fr)/\sE arr fr/\bW (gh A hw w') arr.toList (F.back y) []/\Fr (λ_=>False) w w'
def nn (P:Program)(f:Nat)(F:BC):Prop:=
 ∀(xs:ax AV)(y:F.R),F.fn xs=some y->
  (∃fn c,P.funcs[f]?=some fn/\fn.body=some c/\(fn.name== "runtime.NumGoroutine")=false)/\
  (F.io=false->F.bx=false->∀(A:Rg)(w:World)(vs:jI),(∀k b o,A k b o->b<w.heap.size)->qx A w vs xs->
    Calls P f vs.toArray w λe w'=>∃v hw fp,e=.returned v/\gV (gh A hw w') v (F.res y) fp/\fp.Nodup/\(∀b∈fp,w.heap.size<=b/\b<w'.heap.size)/\Fr (λ_=>False) w w')/\
  (F.io=true->∀g cs rest,xs=.val g cs::rest->asl P f F y g cs rest)/\
  (F.bx=true->∀cs rest,xs=.val true cs::rest->amq P f F y cs rest)/\
  (F.pr=true->akK P f F y xs)
theorem rY {v:Value}(h:je c v x fp)(hf:x.kB=true):fp=[]/\je c' v x []:=by cases x with|int k n=>exact⟨h.2,h.1,rfl⟩|bool b=>exact⟨h.2,h.1,rfl⟩|str s=>exact⟨h.2,h.1,rfl⟩|fn f=>exact⟨h.2,h.1,rfl⟩|_=>cases hf
theorem J9 {c':RC}:∀{vs:jI}{xs:ax AC}{fp:fi},bW c vs xs fp->xs.all AC.kB=true->fp=[]/\bW c' vs xs []
 |[],[],_,h,_=>⟨h,rfl⟩
 |_::_,_::_,_,h,hf=>by obtain⟨f1,f2,rfl,h1,h2⟩:=h;simp only[cx,ah]at hf;obtain⟨rfl,k1⟩:=rY (c':=c') h1 hf.1;obtain⟨rfl,k2⟩:=J9 (c':=c') h2 hf.2;exact⟨rfl,[],[],rfl,k1,k2⟩
 |[],_::_,_,h,_=>h.elim
 |_::_,[],_,h,_=>h.elim
theorem XI:∀{ws:jI}{ts:ax (Bool×ax AC)}{fp:fi},gV.tw c ws ts fp->(ts.all λx=>x.2.all AC.kB)=true->gV.tw c' ws ts []
 |[],[],_,_,_=>rfl
 |_::_,_::_,_,h,hf=>by obtain⟨f1,f2,rfl,⟨vs,hv,h1⟩,h2⟩:=h;simp only[cx,ah]at hf;exact⟨[],[],rfl,⟨vs,hv,(J9 h1 hf.1).2⟩,XI h2 hf.2⟩
 |[],_::_,_,h,_=>h.elim
 |_::_,[],_,h,_=>h.elim
theorem QF {v:Value}{x:AV}(h:gV c v x fp)(hf:x.kB=true):gV c' v x []:=by
 cases x with
 |val g cs=>obtain⟨vs,hv,h⟩:=h;exact⟨vs,hv,(J9 h hf).2⟩
 |yY ts=>obtain⟨ws,hv,h⟩:=h;exact⟨ws,hv,XI h hf⟩
theorem abZ {A:Rg}:∀(os ss:ax AC){r:ax AC}{vs us:jI}{f:fi},pN os ss=some r->bW c vs os []->bW c us ss f->bW (gh A c.hw c.w) vs r f:=by
 intro os;induction os with
 |nil=>intro ss r vs us f h hv hu;cases ss with|cons _ _=>simp[pN]at h|nil=>simp[pN]at h;subst h;cases vs with|cons _ _=>exact hv.elim|nil=>cases us with|cons _ _=>exact hu.elim|nil=>exact hu
 |cons o os ih=>
  intro ss r vs us f h hv hu;cases vs with
  |nil=>exact hv.elim
  |cons v vs=>
   cases ss with
   |nil=>unfold pN at h;split at h<;>first|contradiction|cases h
   |cons s ss=>
    cases us with
    |nil=>exact hu.elim
    |cons u us=>
     obtain⟨g1,g2,hg,hv1,SY⟩:=hv;have e1:g1=[]:=by have:=hg.symm;simp at this;exact this.1
     have e2:g2=[]:=by have:=hg.symm;simp at this;exact this.2
     subst e1;subst e2;obtain⟨f1,f2,rfl,hu1,hu2⟩:=hu;have fl:∀{x:AC}{r'},x.kB=true->s.kB=true->o=x->pN os ss=some r'->r=x::r'->bW (gh A c.hw c.w) (v::vs) r (f1++f2):=by rintro x r' hx hs rfl hr rfl;obtain⟨rfl,_⟩:=rY (c':=c) hu1 hs;exact⟨[],f2,rfl,(rY hv1 hx).2,ih ss hr SY hu2⟩
     unfold pN at h;split at h;contradiction;rename_i ep rt t e0 xs0 os' t' e xs ss' h1 h2;injection h1 with h1 VS;subst h1;subst VS;injection h2 with h2 W4;subst h2;subst W4;cases ht:(t'==t)with
     |false=>rw[ht]at h;cases h
     |true=>
      have:t'=t:=by simpa using ht
      subst this;rw[ht]at h;simp only[af]at h;obtain⟨r',hr,h⟩:=aY.1 h;cases h;have Uc:=(hv1.2.2.2.2 rt t' rfl).2;have hu':=(hu1.2 t' rfl).2;have huv:u=v:=hu'.trans Uc.symm;subst huv;exact⟨f1,f2,rfl,⟨hu1.1,by simp⟩,ih _ hr SY hu2⟩
     rename_i k n os' k' n' ss' h1 h2;injection h1 with h1 VS;subst VS;injection h2 with h2 W4;subst h2;subst W4;obtain⟨r',hr,h⟩:=aY.1 h;cases h;exact fl (x:=.int k n) rfl rfl h1 hr rfl;rename_i k os' k' ss' h1 h2;injection h1 with h1 VS;subst VS;injection h2 with h2 W4;subst h2;subst W4;obtain⟨r',hr,h⟩:=aY.1 h;cases h;exact fl (x:=.bool k) rfl rfl h1 hr rfl;rename_i k os' k' ss' h1 h2;injection h1 with h1 VS;subst VS;injection h2 with h2 W4;subst h2;subst W4;obtain⟨r',hr,h⟩:=aY.1 h;cases h;exact fl (x:=.str k) rfl rfl h1 hr rfl;cases h
theorem aal {v:Value}(h:je c v x fp):je (gh (λ_ b o=>c.S b o/\b<c.w.heap.size) (λ_=>0) c.w) v (x.asArg c.ep) []:=by
 have hS:∀{e:CT}{xs:ax e.D},kE c.w c.S (.sl e) [v] xs->kE c.w (λb o=>c.S b o/\b<c.w.heap.size) (.sl e) [v] xs:=λhr=>
  kE.mono (λb o u hs hu=>⟨⟨hs,World.block_lt_of_cell? c.w _ hu⟩,hu⟩) hr
 cases x with|int k n=>exact⟨h.1,rfl⟩|bool b=>exact⟨h.1,rfl⟩|str s=>exact⟨h.1,rfl⟩|kS=>exact⟨h.1,rfl⟩|fn f=>exact⟨h.1,rfl⟩|ptr s off=>exact rfl|un=>exact rfl|bot=>exact rfl|Ef fl e y i off=>exact rfl|sl fl e xs=>cases fl with|nest _ _ _ _ _ _=>exact rfl|part _ _ _ _=>exact rfl|gr _ _ _=>exact rfl|own t=>exact⟨rfl,hS (fZ.rep (λb o ho=> .inr ho) h.1)⟩|arg k=>exact⟨rfl,hS (kE.mono (λb o u hs hu=>⟨.inl ⟨k,hs⟩,hu⟩) h.2)⟩|loc ep pv=>simp only[AC.asArg];split;rename_i he;exact⟨rfl,hS (h.2.2.2.1 (by simpa using he))⟩;exact rfl
theorem NS:∀{vs:jI}{xs:ax AC}{fp:fi},bW c vs xs fp->bW (gh (λ_ b o=>c.S b o/\b<c.w.heap.size) (λ_=>0) c.w) vs (xs.map (AC.asArg c.ep)) []
 |[],[],_,_=>rfl
 |_::_,_::_,_,h=>by obtain⟨f1,f2,rfl,h1,h2⟩:=h;exact⟨[],[],rfl,aal h1,NS h2⟩
 |[],_::_,_,h=>h.elim
 |_::_,[],_,h=>h.elim
theorem adR {v:Value}{x:AV}(h:gV c v x fp):gV (gh (λ_ b o=>c.S b o/\b<c.w.heap.size) (λ_=>0) c.w) v (x.asArg c.ep) []:=by
 cases x with
 |val g cs=>obtain⟨vs,hv,h⟩:=h;exact⟨vs,hv,NS h⟩
 |yY ts=>exact gV.bot _ _
theorem Xo (h:eZ C g st a w []):∀(args:ax Operand),
 qx (λ_ b o=>(dy C g st w).S b o/\b<w.heap.size) w (args.map a.eval) (args.map λx=>((st.rd x).fresh st).asArg st.ep)
 |[]=>trivial
 |x::xs=>⟨adR (c:=dy C g st w) (h.fresh (h.rd x)),Xo h xs⟩
theorem aam {A':Rg}{v:Value}{tag:aA Nat}(h:je (gh A' hw c.w) v x fp)(hA:∀k b o,A' k b o->c.S b o)(IT:∀b∈fp,c.hw b=hw b)(ht:∀t,tag=some t->c.iss t/\v=c.hdr t):je c v (x.G3 c.ep tag) fp:=by
 cases x with
 |int k n=>exact h
 |bool b=>exact h
 |str s=>exact h
 |kS=>exact h
 |fn f=>exact h
 |ptr s off=>exact h.2.2
 |un=>exact h
 |bot=>exact h
 |Ef fl e y i off=>cases fl with|own t=>exact h.elim|nest _ _ _ _ _ _=>exact h.elim|part _ _ _ _=>exact h.elim|gr _ _ _=>exact h.elim|arg _=>exact h.1|loc ep pv=>exact h.1
 |sl fl e xs=>
  cases fl with
  |nest _ _ _ _ _ _=>exact h.1
  |part _ _ _ _=>exact h.1
  |gr _ _ _=>obtain⟨_,⟨k,hk,h3⟩,_⟩:=h;exact⟨λq hq=>(by cases hq),⟨k,hk,h3.mono (λb hb=>⟨rfl,IT b hb⟩)⟩,by simp⟩
  |own t=>exact⟨fZ.mono h.1 (λb hb=>⟨rfl,IT b hb⟩),ht⟩
  |loc ep pv=>exact h.1
  |arg _=>have hr:kE c.w c.S (.sl e) [v] xs:=kE.mono (λb o u hs hu=>⟨hA _ b o hs,hu⟩) h.2;refine⟨h.1,bc _,?_,λ_=>hr,by simp⟩;obtain⟨u,hu,k⟩:=hr;simp at hu;subst hu;rcases k with⟨⟨ad,rfl⟩,rfl⟩|⟨b,o,cap,rfl,_⟩;exact⟨_,_,_,rfl,rfl⟩;exact⟨_,_,_,rfl,rfl⟩
theorem D8 {A':Rg}{mk:Nat->aA Nat}(hA:∀k b o,A' k b o->c.S b o):∀{vs:jI}{xs:ax AC}{fp:fi}(j:Nat),bW (gh A' hw c.w) vs xs fp->(∀b∈fp,c.hw b=hw b)->
 (∀i v,vs[i]?=some v->∀t,mk (j+i)=some t->c.iss t/\v=c.hdr t)->bW c vs (LW c.ep mk j xs) fp
 |[],[],_,_,h,_,_=>h
 |v::_,_::_,_,j,h,hh,hm=>by obtain⟨f1,f2,rfl,h1,h2⟩:=h;exact⟨f1,f2,rfl,aam h1 hA (λb hb=>hh b (aU _ hb)) (λt ht=>hm 0 v rfl t ht),D8 hA (j+1) h2 (λb hb=>hh b (bj _ hb)) (λi u hu t ht=>hm (i+1) u (by simpa using hu) t (by rwa[show j+(i+1)=j+1+i by omega]))⟩
 |[],_::_,_,_,h,_,_=>h.elim
 |_::_,[],_,_,h,_,_=>h.elim
inductive Leaves (A:Rg) (hw:Nat->Nat) (w:World):List Value->List (Bool×List AC)->List Nat->List Value->Prop
 |nil:Leaves A hw w [] [] [] []
 |cons {v:Value} {vs:List Value} {g:Bool} {cs:List AC} {ts:List (Bool×List AC)} {f1 f2:List Nat} {us all:List Value} (gb:Cut g v us) (hr:bW (gh A hw w) us cs f1) (h:Leaves A hw w vs ts f2 all):
  Leaves A hw w (v::vs) ((g,cs)::ts) (f1++f2) (us++all)
theorem Nd {A:Rg}{w:World}:∀{ws:jI}{ts:ax (Bool×ax AC)}{fp:fi},gV.tw (gh A hw w) ws ts fp->∃all,Leaves A hw w ws ts fp all
 |[],[],_,h=>by cases h;exact⟨[],.nil⟩
 |_::_,(g,cs)::_,_,h=>by obtain⟨f1,f2,rfl,⟨us,gb,hr⟩,h2⟩:=h;obtain⟨all,uh⟩:=Nd h2;exact⟨us++all,.cons gb hr uh⟩
 |[],_::_,_,h=>h.elim
 |_::_,[],_,h=>h.elim
theorem Ri {A':Rg}{mk:Nat->aA Nat}(hA:∀k b o,A' k b o->c.S b o){ws:jI}{ts:ax (Bool×ax AC)}{all:jI}(h:Leaves A' hw c.w ws ts fp all): ∀j,(∀b∈fp,c.hw b=hw b)->(∀i v,all[i]?=some v->∀t,mk (j+i)=some t->c.iss t/\v=c.hdr t)->gV.tw c ws (abX c.ep mk j ts) fp:=by induction h with|nil=>intro j _ _;exact rfl| @cons v vs g cs ts f1 f2 us all gb hr h ih=>intro j hh hm;have hl:=hr.length;refine⟨f1,f2,rfl,⟨us,gb,D8 hA j hr (λb hb=>hh b (aU _ hb)) (λi u hu t ht=>?_)⟩,ih _ (λb hb=>hh b (bj _ hb)) (λi u hu t ht=>?_)⟩;exact hm i u (by rw[bB (aD.1 hu).1];exact hu) t ht;have hl':us.length=cs.length:=hl;refine hm (us.length+i) u (by rw[bJ (by omega)];simpa using hu) t ?_;rw[<-gn,hl'];exact ht
def tE (hdr:Nat->Value)(mk:Nat->aA Nat)(all:jI):Nat->Value:=λu=>if mk (u/3%4096)=some u then(all[u/3%4096]?).getD undef else hdr u
theorem Dr {all:jI}{t:Nat}(h:oL st t):tE hdr (st.jz d) all t=hdr t:=by unfold tE;rw[aK];intro e;exact(sm e).1 h
theorem Dq {all:jI}{i t:Nat}{v:Value}(hv:all[i]?=some v)(h:st.jz d i=some t):v=tE hdr (st.jz d) all t:=by
 obtain⟨_,_,d',rfl,ht,hi⟩:=sm h;have ajH:t/3%4096=i:=by rw[ht,Mk];omega
 unfold tE;rw[ajH,aI h,hv];rfl
theorem acm {vs us:jI}{seg:ax AC}{f1 f2 f3:fi}{off n:Nat}(hus:us=(vs.drop off).take n)(hln:us.length=n)(r1:bW c' (vs.take off) (cs.take off) f1)(r2:bW c' us seg f2)(r3:bW c' (vs.drop (off+n)) (cs.drop (off+n)) f3): bW c' vs (fC cs off seg) (f1++f2++f3):=by
 have B4:=r2.length;have e:vs=vs.take off++us++vs.drop (off+n):=by rw[hus,aG,<-fa,cg,cg]
 rw[e,fC,show seg.length=n by omega];exact bW.append (bW.append r1 r2) r3
theorem Tg:∀(os ss:ax AC){r:ax AC},pN os ss=some r->ss.length=os.length:=by
 intro os
 induction os with
 |nil=>intro ss r h;cases ss with
  |nil=>rfl
  |cons _ _=>simp[pN]at h
 |cons o os ih=>
  intro ss r h
  cases ss with
  |nil=>unfold pN at h;split at h<;>first|contradiction|cases h
  |cons s ss=>
   unfold pN at h
   split at h
   ·contradiction
   ·rename_i h1 h2
    injection h1 with h1 VS;subst VS
    injection h2 with h2 W4;subst W4
    rw[Bool.cond_eq_ite]at h
    split at h
    ·obtain⟨r',hr,h⟩:=aY.1 h
     simp[ih _ hr]
    ·cases h
   all_goals first
    |cases h
    |(rename_i h1 h2
      injection h1 with h1 VS;subst VS
      injection h2 with h2 W4;subst W4
      obtain⟨r',hr,h⟩:=aY.1 h
      simp[ih _ hr])
theorem JY {A':Rg}{mk:Nat->aA Nat}{k:Bool}(hA:A' true=c.A k):∀{vs:jI}{xs:ax AC}{fp:fi}(j:Nat),bW (gh A' hw c.w) vs xs fp->xs.all (AC.BX true)=true->
 (∀b∈fp,c.hw b=hw b)->(∀i v,vs[i]?=some v->∀t,mk (j+i)=some t->c.iss t/\v=c.hdr t)->bW c vs (rV k mk j xs) fp
 |[],[],_,_,h,_,_,_=>h
 |v::_,x::_,_,j,h,lV,hh,hm=>by
  obtain⟨f1,f2,rfl,h1,h2⟩:=h;simp only[cx,ah]at lV;refine⟨f1,f2,rfl,?_,JY hA (j+1) h2 lV.2 (λb hb=>hh b (bj _ hb)) (λi u hu t ht=>hm (i+1) u (by simpa using hu) t (by rwa[show j+(i+1)=j+1+i by omega]))⟩;have IT:∀b∈f1,c.hw b=hw b:=λb hb=>hh b (aU _ hb);have ht:∀t,mk j=some t->c.iss t/\v=c.hdr t:=λt ht=>hm 0 v rfl t ht;have lV:=lV.1;cases x with
  |sl fl e xs=>
   cases fl with
   |own t=>exact⟨fZ.mono h1.1 (λb hb=>⟨rfl,IT b hb⟩),ht⟩
   |arg k'=>
    have hk:k'=true:=by simpa[AC.BX]using lV
    subst hk;exact⟨h1.1,by rw[<-hA];exact h1.2⟩
   |loc _ _=>cases lV
   |nest _ _ _ _ _ _=>cases lV
   |part _ _ _ _=>cases lV
   |gr _ _ _=>cases lV
  |int _ _=>exact h1
  |bool _=>exact h1
  |str _=>exact h1
  |fn _=>exact h1
  |kS=>cases lV
  |ptr _ _=>cases lV
  |Ef _ _ _ _ _=>cases lV
  |un=>cases lV
  |bot=>cases lV
 |[],_::_,_,_,h,_,_,_=>h.elim
 |_::_,[],_,_,h,_,_,_=>h.elim
theorem Mm {A':Rg}{w:World}{k:Bool}:∀{cs:ax AC},cs.all (AC.BX k)=true->∀{c:RC}{vs:jI}{fp:fi},bW c vs cs fp->c.w=w->c.hw=hw->A' true=c.A k->bW (gh A' hw w) vs (cs.map AC.WT) fp
 |[],_,c,vs,fp,h,_,_,_=>by cases vs with|nil=>exact h|cons _ _=>exact h.elim
 |x::cs,lV,c,vs,fp,h,T8,Hh,hA=>by
  cases vs with
  |nil=>exact h.elim
  |cons v vs=>
   obtain⟨f1,f2,rfl,h1,h2⟩:=h;simp only[cx,ah]at lV;refine⟨f1,f2,rfl,?_,Mm lV.2 h2 T8 Hh hA⟩;have lV:=lV.1;cases x with
   |sl fl e xs=>
    cases fl with
    |own t=>exact⟨by have:=h1.1;rw[T8,Hh]at this;exact this,by simp⟩
    |arg k'=>
     have hk:k'=k:=by simpa[AC.BX]using lV
     subst hk;exact⟨h1.1,by have:=h1.2;rw[T8,<-hA]at this;exact this⟩
    |loc _ _=>cases lV
    |nest _ _ _ _ _ _=>cases lV
    |part _ _ _ _=>cases lV
    |gr _ _ _=>cases lV
   |int _ _=>exact h1
   |bool _=>exact h1
   |str _=>exact h1
   |fn _=>exact h1
   |kS=>cases lV
   |ptr _ _=>cases lV
   |Ef _ _ _ _ _=>cases lV
   |un=>cases lV
   |bot=>cases lV
theorem Uu (h:eZ C g st a w [])(s:Nat){A':Rg}(hA:∀b o,(dy C g st w).S b o/\b<w.heap.size/\g.fK b≠some (.box s)->A' false b o):∀(xs:ax Operand),xs.all (FC st)=true->
 qx A' w (xs.map a.eval) (xs.map (Eu st))
 |[],_=>trivial
 |x::xs,hx=>by
  simp only[cx,ah]at hx;refine⟨?_,Uu h s hA xs hx.2⟩;have hx:=hx.1;cases x with
  |const _=>exact QF (h.rd _) hx
  |func _=>exact QF (h.rd _) hx
  |global _=>exact QF (h.rd _) hx
  |tmp t=>
   have ix:∀(t0:Nat){e:CT}{v:Value}{xs:ax e.D}{fp:fi},fZ g.hw w (.sl e) [v] xs fp->(∀b∈fp,g.fK b=some (.slot t0))->kE w (A' false) (.sl e) [v] xs:=by
    intro t0 e v xs fp h1 hl;have h3:fZ (λb=>if b∈fp then g.hw b else 0) w (.sl e) [v] xs fp:=fZ.mono h1 (λb hb=>⟨rfl,by simp[hb]⟩)
    exact fZ.rep (λb o ho=>by
     by_cases hb:b∈fp;have ho:o<g.hw b:=by simpa[hb]using ho
     have T9:=hl b hb;exact hA b o ⟨.inr ho,(h.ir b _ T9).1,by rw[T9];simp⟩;simp[hb]at ho) h3
   obtain⟨fp,hr,hn,hl⟩:=h.slot t;simp only[FC]at hx;show gV _ (a.tmps.getD t undef) (Eu st (.tmp t)) _;simp only[Eu];cases hv:st.get t with
   |yY _=>rw[hv]at hx;cases hx
   |val gg cs=>
    rw[hv]at hx hr;simp only at hx;obtain⟨vs,gb,hr⟩:=hr
    have key:∀(cs:ax AC)(vs:jI)(fp:fi),(cs.map st.S4).all AC.MM=true->(∀b∈fp,g.fK b=some (.slot t))->bW (dy C g st w) vs cs fp->
     bW (gh A' (λ_=>0) w) vs (cs.map st.S4) []:=by
     intro cs
     induction cs with
     |nil=>intro vs fp _ _ h;cases vs with
      |nil=>rfl
      |cons _ _=>exact h.elim
     |cons c cs ih=>
      intro vs fp hc hl hr
      cases vs with
      |nil=>exact hr.elim
      |cons v vs=>
       obtain⟨f1,f2,rfl,h1,h2⟩:=hr
       simp only[fb,cx,ah]at hc
       refine⟨[],[],rfl,?_,ih vs f2 hc.2 (λb hb=>hl b (bj _ hb)) h2⟩
       have hc:=hc.1
       cases c with
       |sl fl e xs=>
        cases fl with
        |own tag=>exact⟨rfl,ix t h1.1 (λb hb=>hl b (aU _ hb))⟩
        |arg k=>exact⟨rfl,kE.mono (λb o u hs hu=>⟨hA b o ⟨.inl ⟨k,hs⟩,World.block_lt_of_cell? w _ hu,λhb=>h.Rf hb k o hs⟩,hu⟩) h1.2⟩
        |loc ep pv=>
         cases pv with
         |none=>cases hc
         |some q=>
          obtain⟨r,tg⟩:=q
          cases r with
          |box _ _=>cases hc
          |io _=>cases hc
          |slot b j=>
           have SY:=(h1.2.2.2.2 (.slot b j) tg rfl).2
           simp only[AS.S4]at hc⊢
           cases Yd:st.fU (.slot b j)with
           |none=>rw[Yd]at hc;cases hc
           |some c0=>
            rw[Yd]at hc
            split at hc
            ·rename_i t' e' ys W6
             split at hc
             ·rename_i ht
              subst ht
              cases W6
              rw[aI rfl]
              obtain⟨fp2,SW,_,B4⟩:=h.slot b
              simp only[AS.fU]at Yd
              cases hgb:st.get b with
              |yY _=>rw[hgb]at Yd;cases Yd
              |val g2 Hm=>
               rw[hgb]at Yd SW
               simp only at Yd
               obtain⟨vs2,_,SW⟩:=SW
               rw[eV]at Yd
               obtain⟨v2,f3,_,QX,sB⟩:=SW.get j _ Yd
               have as0:v=v2:=by have:=(QX.2 t' rfl).2;rw[SY,this]
               rw[as0]
               exact⟨rfl,ix b QX.1 (λb' iq=>B4 b' (sB b' iq))⟩
             ·cases hc
            ·cases hc
        |nest _ _ _ _ _ _=>cases hc
        |part _ _ _ _=>cases hc
        |gr _ _ _=>cases hc
       |int _ _=>exact⟨h1.1,rfl⟩
       |bool _=>exact⟨h1.1,rfl⟩
       |str _=>exact⟨h1.1,rfl⟩
       |fn _=>exact⟨h1.1,rfl⟩
       |kS=>cases hc
       |ptr _ _=>cases hc
       |Ef _ _ _ _ _=>cases hc
       |un=>cases hc
       |bot=>cases hc
    exact⟨vs,gb,key cs vs fp hx hl hr⟩
theorem eZ.ajr (h:eZ C g st a w [])(s:Nat)(lB:st.boxes[s]?=some (some cs)): ∃arr T fr fp,w.heap[g.β s]?=some (.cells arr T fr)/\sE arr fr/\bW (dy C g st w) arr.toList cs fp/\fp.Nodup/\g.β s∉fp/\(∀b∈fp,b<w.heap.size)/\g.hw (g.β s)=0/\(∀b,b=g.β s\/b∈fp->g.fK b=some (.box s))/\ ∀(w':World)(hw':Nat->Nat)(kq:Array Value)(T':TypeId)(NZ:Nat×Nat)(tr:ax AC)(kZ fv:fi)(A':Rg)(k:Bool),Fr (λb=>b=g.β s\/b∈fp) w w'->w'.heap[g.β s]?=some (.cells kq T' NZ)->sE kq NZ-> A' true=C.A k->bW (gh A' hw' w') kq.toList tr kZ->tr.all (AC.BX true)=true->kZ.Nodup->g.β s∉kZ->(∀b∈kZ,b<w'.heap.size/\(b∈fp\/w.heap.size<=b))-> (∀b∈fv,b<w'.heap.size/\(b∈fp\/w.heap.size<=b)/\b∉kZ/\b≠g.β s)-> ∃g',eZ C g' (acL st s (rV k (st.jz (some s)) 0 tr)) a w' []/\(∀b∈fv,g'.fK b=some (.hand 0)/\g'.hw b=hw' b)/\∀b,b<w.heap.size->g.fK b≠some (.box s)->g'.hw b=g.hw b:=by
 obtain⟨arr,T,fr,fp,ma,vx,hr,hn,zb,hl,KI,KK⟩:=h.boxes s cs lB;have Cg:s<st.boxes.length:=(aD.1 lB).1;have QQ:∀b,b=g.β s\/b∈fp->g.fK b=some (.box s):=by rintro b (rfl|hb);exact KI;exact hl b hb
 refine⟨arr,T,fr,fp,ma,vx,hr,hn,zb,λb hb=>(h.ir b _ (hl b hb)).1,KK,QQ,?_⟩;intro w' hw' kq T' NZ tr kZ fv A' k km K5 Yg hA' xp alH D5 K7 MY N9;let bx':ax AC:=rV k (st.jz (some s)) 0 tr;let cp:AS:=acL st s bx';let hw2:Nat->Nat:=λb=>if b∈kZ\/b∈fv then hw' b else if b=g.β s then 0 else g.hw b
 let ahZ:Nat->aA kX:=λb=>if b=g.β s\/b∈kZ then some (.box s) else if b∈fv then some (.hand 0) else g.fK b
 let g':Gh:=⟨hw2,g.β,ahZ,tE g.hdr (st.jz (some s)) kq.toList⟩
 have xe:cp.boxes=st.boxes.set s (some bx'):=by show((st.fQ s (some bx')).gD (some s)).boxes=_;rw[Ea,lX]
 have QZ:cp.slots=st.slots:=by show((st.fQ s (some bx')).gD (some s)).slots=_;rw[xB];rfl
 have QP:cp.io=st.io:=by show((st.fQ s (some bx')).gD (some s)).io=_;rw[Lu];rfl
 have K6:∀t,oL st t->oL cp t:=λt ht=>by have h1:oL (st.fQ s (some bx')) t:=ht;exact Gq (d:=some s) h1
 have hpr:∀t,kD st t->kD cp t:=by rintro t ⟨c0,W6⟩;by_cases wx:s=t;subst wx;exact⟨bx',by rw[xe];simp[Cg]⟩;exact⟨c0,by rw[xe,aM wx];exact W6⟩
 have Ya:∀b,b<w.heap.size->g.fK b≠some (.box s)->b∉kZ/\b∉fv/\b≠g.β s:=by intro b hb T9;refine⟨λhm=>?_,λhm=>?_,λhm=>T9 (QQ b (.inl hm))⟩;rcases(MY b hm).2 with h2|h2;exact T9 (QQ b (.inr h2));omega;rcases(N9 b hm).2.1 with h2|h2;exact T9 (QQ b (.inr h2));omega
 have vE:∀b x,x≠ .box s->g.fK b=some x->ahZ b=some x/\w'.heap[b]?=w.heap[b]?/\hw2 b=g.hw b:=by intro b x hx hb;have Jw:=(h.ir b x hb).1;have hnm:¬(b=g.β s\/b∈fp):=λhm=>hx (by have:=QQ b hm;rw[hb]at this;simpa using this);obtain⟨n1,n2,n3⟩:=Ya b Jw (by rw[hb];simpa using hx);refine⟨?_,km.block b Jw hnm,?_⟩;show(if b=g.β s\/b∈kZ then _ else if b∈fv then _ else _)=_;rw[aK (by rintro(h1|h1);exact n3 h1;exact n1 h1),aK n2];exact hb;show(if b∈kZ\/b∈fv then _ else if b=g.β s then _ else _)=_;rw[aK (by rintro(h1|h1);exact n1 h1;exact n2 h1),aK n3]
 have hcA:∀k b o u,C.A k b o->w.cell? ⟨b,o,none⟩=some u->w'.cell? ⟨b,o,none⟩=some u:=by intro k b o u hA hu;have hb:b<w.heap.size:=World.block_lt_of_cell? w _ hu;rw[World.cell?_of_block (a:=⟨b,o,none⟩) (km.block b hb (λhm=>h.Rf (QQ b hm) k o hA))];exact hu
 have hle:(dy C g st w).Le (dy C g' cp w'):=⟨rfl,λt ht=>⟨K6 t ht,Dr ht⟩,hcA,Nat.le_succ _,λt ht=>⟨hpr t ht,rfl⟩,λhe=>absurd he (Nat.succ_ne_self _)⟩
 refine⟨g',h.step (λx=>x≠ .box s) hle h.defers ?_ ?_ ?_ ?_ (λb x hk hb=>vE b x hk hb) ?_ ?_ (λk u bv hk=>by simp at hk) (.inl ⟨by simp,QP⟩),λb hb=>?_,λb hb T9=>?_⟩;rw[QZ];exact h.size;rw[QZ,xe,aL];exact h.bsize;refine h.frame.trans km (λb hb hm=>?_);rcases(h.ir b _ (QQ b hm)).2 with h2|h2;omega;exact h2;intro b x hx;have Dv:(if b=g.β s\/b∈kZ then some (kX.box s) else if b∈fv then some (.hand 0) else g.fK b)=some x:=hx;have hz:=km.size;have hold:b∈fp\/w.heap.size<=b->C.w0.heap.size<=b\/C.M b:=by rintro(h2|h2);exact(h.ir b _ (hl b h2)).2;exact .inl (bF h.frame.size h2)
 split at Dv;rename_i hm;rcases hm with rfl|hm;have:=h.ir _ _ KI;exact⟨by omega,this.2⟩;exact⟨(MY b hm).1,hold (MY b hm).2⟩;split at Dv;rename_i hm;exact⟨(N9 b hm).1,hold (N9 b hm).2.1⟩;have:=h.ir b x Dv;exact⟨by omega,this.2⟩;intro i av hi;rw[QZ]at hi;exact .inl ⟨by simp,hi,rfl⟩;intro t Hm hb;rw[xe]at hb;by_cases wx:t=s;subst wx;rw[bO]at hb;simp only[cL,Cg]at hb;simp at hb;subst hb;refine .inr ⟨kq,T',NZ,kZ,K5,Yg,?_,D5,K7,λb hb=>?_,?_,?_⟩
 have:=JY (c:=dy C g' cp w') (A':=A') (hw:=hw') (mk:=st.jz (some t)) (k:=k) hA' 0 (vs:=kq.toList) (xs:=tr) (fp:=kZ) xp alH
  (λb hb=>by show(if b∈kZ\/b∈fv then _ else _)=_;rw[aI (.inl hb)])
  (λi u hu q hq=>by
   rw[cJ]at hq;have hm:=sm hq;have hm2:oL cp q:=by have h1:st.jz (some t) i=some q:=hq;have h2:(st.fQ t (some bx')).jz (some t) i=some q:=h1;exact(sm h2).2.1
   exact⟨hm2,Dq hu hq⟩)
 exact this;show(if b=g.β t\/b∈kZ then _ else _)=_;rw[aI (.inr hb)];show(if g.β t=g.β t\/g.β t∈kZ then _ else _)=_;rw[aI (.inl rfl)];show(if g.β t∈kZ\/g.β t∈fv then _ else if g.β t=g.β t then _ else _)=_;rw[aK (by rintro(h1|h1);exact K7 h1;exact(N9 _ h1).2.2.2 rfl),aI rfl];rw[aM (cE wx)]at hb;exact .inl ⟨by simpa using wx,hb,rfl⟩;obtain⟨_,_,h3,h4⟩:=N9 b hb;refine⟨?_,?_⟩;show(if b=g.β s\/b∈kZ then _ else if b∈fv then _ else _)=_;rw[aK (by rintro(h1|h1);exact h4 h1;exact h3 h1),aI hb];show(if b∈kZ\/b∈fv then _ else _)=_;rw[aI (.inr hb)];obtain⟨n1,n2,n3⟩:=Ya b hb T9;show(if b∈kZ\/b∈fv then _ else if b=g.β s then _ else _)=_;rw[aK (by rintro(h1|h1);exact n1 h1;exact n2 h1),aK n3]
theorem Vw:∀{vs:jI}{cs:ax AC}{fp:fi},bW c vs cs fp->cs.all AC.KN=true->fp=[]
 |[],[],_,h,_=>h
 |[],_::_,_,h,_=>h.elim
 |_::_,[],_,h,_=>h.elim
 |v::vs,x::cs,fp,h,hx=>by
  obtain⟨f1,f2,rfl,h1,h2⟩:=h;simp only[cx,ah]at hx;rw[Vw h2 hx.2,bg];have hx:=hx.1;cases x with
  |sl fl e xs=>cases fl<;>first|exact h1.1|cases hx
  |int k n=>exact h1.2
  |bool b=>exact h1.2
  |str s=>exact h1.2
  |fn f=>exact h1.2
  |kS=>cases hx
  |ptr _ _=>cases hx
  |Ef _ _ _ _ _=>cases hx
  |un=>cases hx
  |bot=>cases hx
theorem eZ.agP (h:eZ C g st a w [])(s:Nat)(lB:st.boxes[s]?=some (some cs))(MX:cs.all AC.KN=true): ∀(w':World)(hw':Nat->Nat)(kq:Array Value)(T':TypeId)(NZ:Nat×Nat)(tr:ax AC)(kZ fv:fi)(A':Rg)(k:Bool),Fr (λb=>b=g.β s) w w'->w'.heap[g.β s]?=some (.cells kq T' NZ)->sE kq NZ-> A' true=C.A k->bW (gh A' hw' w') kq.toList tr kZ->tr.all (AC.BX true)=true->kZ.Nodup->g.β s∉kZ->(∀b∈kZ,b<w'.heap.size/\w.heap.size<=b)-> (∀b∈fv,b<w'.heap.size/\w.heap.size<=b/\b∉kZ/\b≠g.β s)-> ∃g',eZ C g' (st.fQ s (some (rV k (λ_=>none) 0 tr))) a w' []/\(∀b∈fv,g'.fK b=some (.hand 0)/\g'.hw b=hw' b)/\∀b,b<w.heap.size->g.fK b≠some (.box s)->g'.hw b=g.hw b:=by
 obtain⟨arr,T,fr,fp,ma,vx,hr,hn,zb,hl,KI,KK⟩:=h.boxes s cs lB;have alu:fp=[]:=Vw hr MX;subst alu;have Cg:s<st.boxes.length:=(aD.1 lB).1;intro w' hw' kq T' NZ tr kZ fv A' k km K5 Yg hA' xp alH D5 K7 MY N9;let bx':ax AC:=rV k (λ_=>none) 0 tr;let cp:AS:=st.fQ s (some bx');let hw2:Nat->Nat:=λb=>if b∈kZ\/b∈fv then hw' b else if b=g.β s then 0 else g.hw b
 let ahZ:Nat->aA kX:=λb=>if b=g.β s\/b∈kZ then some (.box s) else if b∈fv then some (.hand 0) else g.fK b
 let g':Gh:=⟨hw2,g.β,ahZ,g.hdr⟩
 have xe:cp.boxes=st.boxes.set s (some bx'):=by show(st.fQ s (some bx')).boxes=_;rw[lX]
 have hpr:∀t,kD st t->kD cp t:=by rintro t ⟨c0,W6⟩;by_cases wx:s=t;subst wx;exact⟨bx',by rw[xe];simp[Cg]⟩;exact⟨c0,by rw[xe,aM wx];exact W6⟩
 have hold:∀b,b<w.heap.size->b∉kZ/\b∉fv:=by intro b hb;refine⟨λhm=>?_,λhm=>?_⟩;have:=(MY b hm).2;omega;have:=(N9 b hm).2.1;omega
 have IT:∀b,b<w.heap.size->b≠g.β s->hw2 b=g.hw b:=by intro b hb Fa;show(if b∈kZ\/b∈fv then _ else if b=g.β s then _ else _)=_;rw[aK (by rintro(h1|h1);exact(hold b hb).1 h1;exact(hold b hb).2 h1),aK Fa]
 have vE:∀b x,x≠ .box s->g.fK b=some x->ahZ b=some x/\w'.heap[b]?=w.heap[b]?/\hw2 b=g.hw b:=by intro b x hx hb;have Jw:=(h.ir b x hb).1;have Fa:b≠g.β s:=λhm=>hx (by rw[hm,KI]at hb;simpa using hb.symm);refine⟨?_,km.block b Jw Fa,IT b Jw Fa⟩;show(if b=g.β s\/b∈kZ then _ else if b∈fv then _ else _)=_;rw[aK (by rintro(h1|h1);exact Fa h1;exact(hold b Jw).1 h1),aK (hold b Jw).2];exact hb
 have hcA:∀k b o u,C.A k b o->w.cell? ⟨b,o,none⟩=some u->w'.cell? ⟨b,o,none⟩=some u:=by intro k b o u hA hu;have hb:b<w.heap.size:=World.block_lt_of_cell? w _ hu;rw[World.cell?_of_block (a:=⟨b,o,none⟩) (km.block b hb (λhm=>h.Rf (by rw[hm];exact KI) k o hA))];exact hu
 have hle:(dy C g st w).Le (dy C g' cp w'):=by
  refine⟨rfl,λt ht=>⟨ht,rfl⟩,hcA,bc _,λt ht=>⟨hpr t ht,rfl⟩,λ_ b o u ho hu=>?_⟩;have hb:b<w.heap.size:=World.block_lt_of_cell? w _ hu;have OX:o<g.hw b:=ho;have Fa:b≠g.β s:=λe=>by rw[e,KK]at OX;omega
  refine⟨by show o<hw2 b;rw[IT b hb Fa];exact OX,?_⟩;show w'.cell? ⟨b,o,none⟩=some u;rw[World.cell?_of_block (a:=⟨b,o,none⟩) (km.block b hb Fa)];exact hu
 refine⟨g',h.step (λx=>x≠ .box s) hle h.defers h.size ?_ ?_ ?_ (λb x hk hb=>vE b x hk hb) ?_ ?_ (λk u bv hk=>by simp at hk) (.inl ⟨by simp,rfl⟩),λb hb=>?_,λb hb T9=>?_⟩;rw[xe,aL];exact h.bsize;refine h.frame.trans km (λb hb hm=>?_);have hm:b=g.β s:=hm;subst hm;rcases(h.ir _ _ KI).2 with h2|h2;omega;exact h2;intro b x hx;have Dv:(if b=g.β s\/b∈kZ then some (kX.box s) else if b∈fv then some (.hand 0) else g.fK b)=some x:=hx;have hz:=km.size;split at Dv;rename_i hm;rcases hm with rfl|hm;have:=h.ir _ _ KI;exact⟨by omega,this.2⟩;exact⟨(MY b hm).1,.inl (bF h.frame.size (MY b hm).2)⟩;split at Dv;rename_i hm;exact⟨(N9 b hm).1,.inl (bF h.frame.size (N9 b hm).2.1)⟩;have:=h.ir b x Dv;exact⟨by omega,this.2⟩;intro i av hi;exact .inl ⟨by simp,hi,rfl⟩;intro t Hm hb;rw[xe]at hb;by_cases wx:t=s;subst wx;rw[bO]at hb;simp only[cL,Cg]at hb;simp at hb;subst hb;refine .inr ⟨kq,T',NZ,kZ,K5,Yg,?_,D5,K7,λb hb=>?_,?_,?_⟩;have:=JY (c:=dy C g' cp w') (A':=A') (hw:=hw') (mk:=λ_=>none) (k:=k) hA' 0 (vs:=kq.toList) (xs:=tr) (fp:=kZ) xp alH (λb hb=>by show(if b∈kZ\/b∈fv then _ else _)=_;rw[aI (.inl hb)]) (λi u hu q hq=>by cases hq);exact this;show(if b=g.β t\/b∈kZ then _ else _)=_;rw[aI (.inr hb)];show(if g.β t=g.β t\/g.β t∈kZ then _ else _)=_;rw[aI (.inl rfl)];show(if g.β t∈kZ\/g.β t∈fv then _ else if g.β t=g.β t then _ else _)=_;rw[aK (by rintro(h1|h1);exact K7 h1;exact(N9 _ h1).2.2.2 rfl),aI rfl];rw[aM (cE wx)]at hb;exact .inl ⟨by simpa using wx,hb,rfl⟩;obtain⟨_,_,h3,h4⟩:=N9 b hb;refine⟨?_,?_⟩;show(if b=g.β s\/b∈kZ then _ else if b∈fv then _ else _)=_;rw[aK (by rintro(h1|h1);exact h4 h1;exact h3 h1),aI hb];show(if b∈kZ\/b∈fv then _ else _)=_;rw[aI (.inr hb)];exact IT b hb (λe=>T9 (by rw[e];exact KI))
theorem ali (D6:∀f,nn P f (Γ f)){o':Oper}(ho:o'.op=.call {callee:=.value f,args,argTypes:=ts})(hg:eZ C g st a w []){k:Nat}(hf:st.rd f=.val false [.fn k])(lB:(Γ k).bx=true){K:AS->aA R}(hk:xL Γ o' k args.toList st K=some r)(next:Act->World->Prop)(Q:Exit->Act->World->Prop)(iX:∀cp a' w',qo C cp a' w'->K cp=some r->next a' w'):o'.wp P a w next Q:=by
 have N9:=hg.rd f;rw[hf]at N9;have N9:=(fN N9).1;unfold xL at hk;split at hk
 ·rename_i x0 xs gN;split at hk
  ·rename_i s hx0;split at hk
   ·rename_i cs W5;have hb:st.boxes[s]?=some (some cs):=by rw[eV]at W5;cases hq:st.boxes[s]? with|none=>rw[hq]at W5;simp at W5|some q=>rw[hq]at W5;simp at W5;rw[W5]
    cases hc:(cs.all (AC.BX (G2 cs))&&xs.all (FC st))with
    |false=>rw[hc]at hk;cases hk
    |true=>
     rw[hc]at hk;simp only[af]at hk;simp only[ah]at hc;cases gW:(Γ k).fn (.val true (cs.map AC.WT)::xs.map (Eu st))with
     |none=>rw[gW]at hk;cases hk
     |some y=>
      rw[gW]at hk;simp only[aa]at hk;cases hc2:(((Γ k).back y).all (AC.BX true)&&((Γ k).av y).afj)with
      |false=>rw[hc2]at hk;cases hk
      |true=>
       rw[hc2]at hk;simp only[af]at hk;simp only[ah]at hc2;obtain⟨⟨fn,c,X3,XY,Dt⟩,_,_,EV,_⟩:=D6 k _ y gW;have EV:=EV lB _ _ rfl;have QW:=hg.rd x0;rw[hx0]at QW;have xH:=Ey QW;obtain⟨arr,T,fr,fp,ma,vx,fE,hn,zb,iA,KK,Hj,tt⟩:=hg.ajr s hb;let A':Rg:=λq b o=>bif q then C.A (G2 cs) b o else((dy C g st w).S b o/\b<w.heap.size/\g.fK b≠some (.box s))
       have hA':∀q b' o,A' q b' o->b'<w.heap.size/\b'≠g.β s/\b'∉fp:=by
        intro q b' o hq;have key:b'<w.heap.size/\g.fK b'≠some (.box s):=by cases q with|true=>have hq:C.A (G2 cs) b' o:=hq;exact⟨Nat.lt_of_lt_of_le (C.hA _ _ _ hq).1 hg.frame.size,λhb=>hg.Rf hb _ o hq⟩|false=>exact hq.2
        exact⟨key.1,λe=>key.2 (Hj b' (.inl e)),λe=>key.2 (Hj b' (.inr e))⟩
       have N7:=EV A' w (g.β s) (xs.map a.eval) arr T fr g.hw fp hA' ma vx (Mm (k:=G2 cs) hc.1 fE rfl rfl rfl) hn zb iA KK (Uu hg s (λb o h=>h) xs hc.2);have asV:a.eval x0=.pointer (some ⟨g.β s,0,none⟩):=xH;have alp:(Value.pointer (some ⟨g.β s,0,none⟩)::xs.map a.eval).toArray=args.map a.eval:=by apply fY;simp[gN,asV]
       rw[alp]at N7;have fz:(execOp a.eval o').run P w=.ok (.enter k (args.map a.eval)) w:=by simp[execOp,ho,resolve,N9,Deferred.ofValue,invoke,callFunc,X3,XY];simpa using Dt
       unfold Oper.wp;rw[fz,Oper.upon_enter];refine N7.mono ?_;rintro e w' ⟨v,hw',fv,kq,T',NZ,kZ,rfl,Ub,K5,Yg,xp,D5,K7,MY,hnv,ahq,km⟩;show next (a.put o'.dst v) w'
       have tail:∀(st1:AS)(g':Gh),eZ C g' st1 a w' []->(∀b∈fv,g'.fK b=some (.hand 0)/\g'.hw b=hw' b)->(∀b,b<w.heap.size->g.fK b≠some (.box s)->g'.hw b=g.hw b)->
        K ((st1.gD o'.dst).put o'.dst (((Γ k).av y).G3 st1.ep (st1.jz o'.dst)))=some r->next (a.put o'.dst v) w':=by
        intro st1 g' qn hlv hold hk
        have hAS:∀(hd:Nat->Value)(q:Bool)(b o:Nat),A' q b o->(dy C {g' with hdr:=hd} (st1.gD o'.dst) w').S b o:=by intro hd q b o hq;cases q with|true=>exact .inl ⟨_,hq⟩|false=>rcases hq.1 with hs|hs;exact .inl hs;exact .inr (by show o<g'.hw b;rw[hold b hq.2.1 hq.2.2];exact hs)
        have aho:∀b∈fv,g'.hw b=hw' b:=λb hb=>(hlv b hb).2
        have xp:∃hd,(∀t,oL st1 t->hd t=g'.hdr t)/\gV (dy C {g' with hdr:=hd} (st1.gD o'.dst) w') v (((Γ k).av y).G3 st1.ep (st1.jz o'.dst)) fv:=by
         generalize (Γ k).av y=y at Ub;cases y with
         |val gg cs=>obtain⟨vs,gb,hr⟩:=Ub;refine⟨tE g'.hdr (st1.jz o'.dst) vs,λt ht=>Dr ht,vs,gb,?_⟩;have:=D8 (c:=dy C {g' with hdr:=tE g'.hdr (st1.jz o'.dst) vs} (st1.gD o'.dst) w') (mk:=st1.jz o'.dst) (hAS _) 0 hr aho (λi u hu t ht=>by rw[cJ]at ht;exact⟨(sm ht).2.1,Dq hu ht⟩);have BG:(dy C {g' with hdr:=tE g'.hdr (st1.jz o'.dst) vs} (st1.gD o'.dst) w').ep=st1.ep:=Dh;rw[BG]at this;exact this
         |yY ts=>obtain⟨ws,hv,hr⟩:=Ub;obtain⟨all,uh⟩:=Nd hr;refine⟨tE g'.hdr (st1.jz o'.dst) all,λt ht=>Dr ht,ws,hv,?_⟩;have:=Ri (c:=dy C {g' with hdr:=tE g'.hdr (st1.jz o'.dst) all} (st1.gD o'.dst) w') (mk:=st1.jz o'.dst) (hAS _) uh 0 aho (λi u hu t ht=>by rw[cJ]at ht;exact⟨(sm ht).2.1,Dq hu ht⟩);have BG:(dy C {g' with hdr:=tE g'.hdr (st1.jz o'.dst) all} (st1.gD o'.dst) w').ep=st1.ep:=Dh;rw[BG]at this;exact this
        obtain⟨hd,hhd,xp⟩:=xp
        obtain⟨g2,Kf⟩:=qn.RL o'.dst (hw':=g'.hw) (hdr':=hd) (fp:=fv) (st1:=st1.gD o'.dst) Lu xB Ea Dh (λt ht=>⟨Gq ht,hhd t ht⟩)
         (Fr.refl _ _) (λ_ _ _ _=>rfl) (λ_ _ _ ho hu=>⟨ho,hu⟩) xp hnv (λb hb=>⟨(ahq b hb).1,.inl (by rw[(hlv b hb).1];rfl)⟩)
        exact iX _ _ _ ⟨g2,Kf⟩ hk
       cases hcur:((Γ k).cur&&cs.all AC.KN)with
       |false=>rw[hcur]at hk;obtain⟨g',qn,hlv,hold⟩:=tt w' hw' kq T' NZ ((Γ k).back y) kZ fv A' (G2 cs) km K5 Yg rfl xp hc2.1 D5 K7 MY ahq;exact tail _ g' qn hlv hold hk
       |true=>rw[hcur]at hk;simp only[ah]at hcur;have alu:fp=[]:=Vw fE hcur.2;subst alu;obtain⟨g',qn,hlv,hold⟩:=hg.agP s hb hcur.2 w' hw' kq T' NZ ((Γ k).back y) kZ fv A' (G2 cs) ⟨km.os,km.tape,km.output,km.size,λb hb hm=>km.block b hb (λhh=>hm (hh.resolve_right (by simp)))⟩ K5 Yg rfl xp hc2.1 D5 K7 (λb hb=>⟨(MY b hb).1,(MY b hb).2.resolve_left (by simp)⟩) (λb hb=>⟨(ahq b hb).1,(ahq b hb).2.1.resolve_left (by simp),(ahq b hb).2.2⟩);exact tail _ g' qn hlv hold hk
   cases hk
  cases hk
 cases hk
theorem arg_val (hA:c'.A=c.A)(hw:c'.w=c.w){v:Value}{x:AV}(h:gV c v x fp)(hx:x.MM=true):fp=[]/\gV c' v x []:=by
 cases x with
 |yY _=>cases hx
 |val g cs=>
  obtain⟨vs,gb,h⟩:=h
  have key:∀(cs:ax AC)(vs:jI)(fp:fi),bW c vs cs fp->cs.all AC.MM=true->fp=[]/\bW c' vs cs []:=by
   intro cs
   induction cs with
   |nil=>intro vs fp h _;cases vs with
    |nil=>exact⟨h,rfl⟩
    |cons _ _=>exact h.elim
   |cons x cs ih=>
    intro vs fp h hx
    cases vs with
    |nil=>exact h.elim
    |cons v vs=>
     obtain⟨f1,f2,rfl,h1,h2⟩:=h
     simp only[cx,ah]at hx
     obtain⟨rfl,k2⟩:=ih vs f2 h2 hx.2
     have hx:=hx.1
     have one:f1=[]/\je c' v x []:=by
      cases x with
      |sl fl e xs=>cases fl with|arg k=>exact⟨h1.1,rfl,by rw[hA,hw];exact h1.2⟩|own _=>cases hx|loc _ _=>cases hx|nest _ _ _ _ _ _=>cases hx|part _ _ _ _=>cases hx|gr _ _ _=>cases hx
      |int _ _=>exact rY h1 rfl
      |bool _=>exact rY h1 rfl
      |str _=>exact rY h1 rfl
      |fn _=>exact rY h1 rfl
      |kS=>cases hx
      |ptr _ _=>cases hx
      |Ef _ _ _ _ _=>cases hx
      |un=>cases hx
      |bot=>cases hx
     obtain⟨rfl,k1⟩:=one
     exact⟨rfl,[],[],rfl,k1,k2⟩
  obtain⟨e,k⟩:=key cs vs fp h hx;exact⟨e,vs,gb,k⟩
theorem Xn (h:eZ C g st a w []):∀(xs:ax Operand),xs.all (λx=>(st.rd x).MM)=true->qx C.A w (xs.map a.eval) (xs.map st.rd)
 |[],_=>trivial
 |x::xs,hf=>by simp only[cx,ah]at hf;exact⟨(arg_val (c:=dy C g st w) (c':=gh C.A (λ_=>0) w) rfl rfl (h.rd x) hf.1).2,Xn h xs hf.2⟩
theorem alY (D6:∀f,nn P f (Γ f)){o':Oper}(ho:o'.op=.call {callee:=.value f,args,argTypes:=ts})(hg:eZ C g st a w []){k:Nat}(hf:st.rd f=.val false [.fn k])(hpr:(Γ k).pr=true){K:AS->aA R}(hk:afk Γ o' k args.toList st K=some r)(next:Act->World->Prop)(Q:Exit->Act->World->Prop)(iX:∀cp a' w',qo C cp a' w'->K cp=some r->next a' w'):o'.wp P a w next Q:=by
 have N9:=hg.rd f;rw[hf]at N9;have N9:=(fN N9).1;unfold afk at hk;split at hk
 ·rename_i d hd;split at hk
  ·rename_i KJ;cases hc:args.toList.all (λx=>(st.rd x).MM)with
   |false=>rw[hc]at hk;cases hk
   |true=>
    rw[hc]at hk;simp only[af]at hk;cases gW:(Γ k).fn (args.toList.map st.rd)with
    |none=>rw[gW]at hk;cases hk
    |some y=>
     rw[gW]at hk;simp only[aa]at hk;cases hc2:((Γ k).back y).all AC.MM with
     |false=>rw[hc2]at hk;cases hk
     |true=>
      rw[hc2]at hk;simp only[af]at hk;obtain⟨⟨fn,c,X3,XY,Dt⟩,_,_,_,EV⟩:=D6 k _ y gW;have N7:=EV hpr C.A w (args.toList.map a.eval) (λq b o hq=>Nat.lt_of_lt_of_le (C.hA q b o hq).1 hg.frame.size) (Xn hg _ hc);have gN:(args.toList.map a.eval).toArray=args.map a.eval:=by apply fY;simp
      rw[gN]at N7;have fz:(execOp a.eval o').run P w=.ok (.enter k (args.map a.eval)) w:=by simp[execOp,ho,resolve,N9,Deferred.ofValue,invoke,callFunc,X3,XY];simpa using Dt
      unfold Oper.wp;rw[fz,Oper.upon_enter];refine N7.mono ?_;rintro e w' ⟨b,arr,T,fr,hw,rfl,hb,ma,vx,fE,km⟩;show next (a.put o'.dst (.pointer (some ⟨b,0,none⟩))) w'
      rw[eV]at KJ;have Jw:=nR ma;have Fa:∀b' x,g.fK b'=some x->b'≠b:=λb' x hx e=>by have:=(hg.ir b' x hx).1;omega
      have hr1:bW ⟨λb'=>if b'=b then 0 else g.hw b',λt=>if t=d then b else g.β t,C.A,g.hdr,oL st,st.ep,kD st,w'⟩ arr.toList ((Γ k).back y) []:=by
       have hv:gV (gh C.A hw w') (.agg arr.toList.toArray) (.val true ((Γ k).back y)) []:=⟨arr.toList,rfl,fE⟩
       obtain⟨_,vs,gb,h⟩:=arg_val (c:=gh C.A hw w') (c':=⟨λb'=>if b'=b then 0 else g.hw b',λt=>if t=d then b else g.β t,C.A,g.hdr,oL st,st.ep,kD st,w'⟩) rfl rfl hv hc2;have:arr.toList=vs:=by have gb:Value.agg arr.toList.toArray=.agg vs.toArray:=gb;simp only[Value.agg.injEq]at gb;simpa using congrArg Array.toList gb
       rw[this];exact h
      obtain⟨g',M3,h'⟩:=hg.aap d (cs:=(Γ k).back y) (arr:=arr) (T:=T) (fr:=fr) (fp:=[]) (w':=w') (bnew:=b) (hw':=λb'=>if b'=b then 0 else g.hw b') (.inr ⟨hb,KJ⟩) ⟨km.os,km.tape,km.output,km.size,λb' iq _=>km.block b' iq (λm=>m)⟩ ma vx Jw (by simp) (λb' x hx _ hn=>by simp[hn]) (λb' o u ho hu=>by have iq:b'<w.heap.size:=World.block_lt_of_cell? w _ hu;exact⟨by simp[show b'≠b by omega];exact ho,CY km hu⟩) hr1 List.nodup_nil (by simp) (λb' iq=>by cases iq);have hdl:d<st.boxes.length:=(aD.1 KJ).1;have hq:=h'.quiet (some d) (v:=.pointer (some ⟨b,0,none⟩)) (av:=.one (.ptr d 0)) (oz ⟨by simp[dy,M3],⟨(Γ k).back y,by rw[lX];simp[hdl]⟩,rfl⟩);rw[hd];exact iX _ _ _ ⟨g',hq⟩ hk
  cases hk
 cases hk
theorem ajt (D6:∀f,nn P f (Γ f)){o':Oper}(ho:o'.op=.call {callee:=.value f,args,argTypes:=ts})(h:qo C st a w){K:AS->aA R}(hk:G4 Γ o' f args.toList st K=some r)(next:Act->World->Prop)(Q:Exit->Act->World->Prop)(iX:∀cp a' w',qo C cp a' w'->K cp=some r->next a' w'):o'.wp P a w next Q:=by
 obtain⟨g,hg⟩:=h;unfold G4 at hk;split at hk
 ·rename_i k hf
  have N9:=hg.rd f
  rw[hf]at N9
  have N9:=(fN N9).1
  cases lB:(Γ k).bx with
  |true=>rw[lB]at hk;exact ali D6 ho hg hf lB hk next Q iX
  |false=>
  rw[lB]at hk
  simp only[ae]at hk
  cases hpr:(Γ k).pr with
  |true=>rw[hpr]at hk;exact alY D6 ho hg hf hpr hk next Q iX
  |false=>
  rw[hpr]at hk
  simp only[ae]at hk
  cases QP:(Γ k).io with
  |true=>rw[QP]at hk;cases hk
  |false=>
  rw[QP]at hk
  simp only[ae]at hk
  cases gW:(Γ k).fn (args.toList.map λx=>((st.rd x).fresh st).asArg st.ep)with
  |none=>rw[gW]at hk;cases hk
  |some y0=>
   rw[gW]at hk
   simp only[aa]at hk
   obtain⟨⟨fn,c,X3,XY,Dt⟩,EV,_⟩:=D6 k _ y0 gW
   have EV:=EV QP lB
   have hk:K ((st.gD o'.dst).put o'.dst (((Γ k).res y0).G3 st.ep (st.jz o'.dst)))=some r:=by unfold BC.res;cases SX:(Γ k).sel y0 with|true=>rw[SX]at hk;exact hk|false=>rw[SX]at hk;exact hk
   generalize hy0:(Γ k).res y0=y at hk EV
   have N7:=EV (λ_ b o=>(dy C g st w).S b o/\b<w.heap.size) w (args.toList.map a.eval) (λ_ _ _ h=>h.2) (Xo hg args.toList)
   have gN:(args.toList.map a.eval).toArray=args.map a.eval:=by apply fY;simp
   rw[gN]at N7
   have fz:(execOp a.eval o').run P w=.ok (.enter k (args.map a.eval)) w:=by simp[execOp,ho,resolve,N9,Deferred.ofValue,invoke,callFunc,X3,XY];simpa using Dt
   unfold Oper.wp
   rw[fz,Oper.upon_enter]
   refine N7.mono ?_
   rintro e w' ⟨v,hw,fp,rfl,fE,HN,Ha,km⟩
   show next (a.put o'.dst v) w'
   let hw':Nat->Nat:=λb=>if b∈fp then hw b else g.hw b
   have aaW:∀b,b<w.heap.size->b∉fp:=λb hb hm=>by have:=(Ha b hm).1;omega
   have hA':∀(hd:Nat->Value)(_:Bool)(b o:Nat),((dy C g st w).S b o/\b<w.heap.size)->(dy C {g with hw:=hw',hdr:=hd} (st.gD o'.dst) w').S b o:=by rintro hd _ b o ⟨hs,hb⟩;rcases hs with hs|hs;exact .inl hs;exact .inr (by simp only[dy,hw',aK (aaW b hb)];exact hs)
   have xp:∃hd,(∀t,oL st t->hd t=g.hdr t)/\gV (dy C {g with hw:=hw',hdr:=hd} (st.gD o'.dst) w') v (y.G3 st.ep (st.jz o'.dst)) fp:=by
    have aho:∀b∈fp,hw' b=hw b:=λb hb=>by simp[hw',hb]
    cases y with
    |val gg cs=>obtain⟨vs,gb,hr⟩:=fE;refine⟨tE g.hdr (st.jz o'.dst) vs,λt ht=>Dr ht,vs,gb,?_⟩;have:=D8 (c:=dy C {g with hw:=hw',hdr:=tE g.hdr (st.jz o'.dst) vs} (st.gD o'.dst) w') (mk:=st.jz o'.dst) (hA' _) 0 hr aho (λi u hu t ht=>by rw[cJ]at ht;exact⟨(sm ht).2.1,Dq hu ht⟩);have BG:(dy C {g with hw:=hw',hdr:=tE g.hdr (st.jz o'.dst) vs} (st.gD o'.dst) w').ep=st.ep:=Dh;rw[BG]at this;exact this
    |yY ts=>obtain⟨ws,hv,hr⟩:=fE;obtain⟨all,uh⟩:=Nd hr;refine⟨tE g.hdr (st.jz o'.dst) all,λt ht=>Dr ht,ws,hv,?_⟩;have:=Ri (c:=dy C {g with hw:=hw',hdr:=tE g.hdr (st.jz o'.dst) all} (st.gD o'.dst) w') (mk:=st.jz o'.dst) (hA' _) uh 0 aho (λi u hu t ht=>by rw[cJ]at ht;exact⟨(sm ht).2.1,Dq hu ht⟩);have BG:(dy C {g with hw:=hw',hdr:=tE g.hdr (st.jz o'.dst) all} (st.gD o'.dst) w').ep=st.ep:=Dh;rw[BG]at this;exact this
   obtain⟨hd,hhd,xp⟩:=xp
   obtain⟨g',qn⟩:=hg.RL o'.dst (hw':=hw') (hdr':=hd) (fp:=fp) (st1:=st.gD o'.dst) Lu xB Ea Dh (λt ht=>⟨Gq ht,hhd t ht⟩)
    ⟨km.os,km.tape,km.output,km.size,λb hb _=>km.block b hb (λm=>m)⟩ (λb x hx _=>by simp[hw',aaW b (hg.ir b x hx).1])
    (λb o u ho hu=>by have hb:b<w.heap.size:=World.block_lt_of_cell? w _ hu;exact⟨by simp[hw',aaW b hb];exact ho,CY km hu⟩) xp HN (λb hb=>⟨(Ha b hb).2,.inr (Ha b hb).1⟩)
   exact iX _ _ _ ⟨g',qn⟩ hk
 cases hk
end Go.Dn
