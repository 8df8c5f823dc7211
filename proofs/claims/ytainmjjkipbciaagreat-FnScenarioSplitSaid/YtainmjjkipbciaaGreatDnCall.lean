import Derived.Test.YtainmjjkipbciaaGreatDnOps8
/- A call by value: what a callee promises, and what the caller makes of it. -/
namespace Go.Dn
open Go.RowKit
variable {P:Program} {C:Ctx} {st:AS} {a:Act} {w:World} {R:Type} {r:R}
variable {x:AC} {args:Array Operand} {ts:Array TypeId} {Γ:fy} {g:Gh} {hw:Nat->Nat} {hdr:Nat->Value} {f:Operand} {c c':RC} {v:Value} {cs:aw AC} {d:ax Nat} {fp:fg} {all:ir}
def fD (A:Rg)(hw:Nat->Nat)(w:World):RC:=⟨hw,λ_=>0,A,λ_=>undef,λ_=>False,0,λ_=>False,w⟩
def oH (A:Rg)(w:World):ir->aw AV->Prop
 |[],[]=>True
 |v::vs,x::xs=>fR (fD A (λ_=>0) w) v x []/\oH A w vs xs
 |_,_=>False
def apz (P:Program)(f:Nat)(F:bg)(y:F.R)(g:Bool)(cs:aw AC)(rest:aw AV):Prop:=
 ∀(A:Rg)(w:World)(v0:Value)(vs:ir)(hw:Nat->Nat)(fp:fg),(∀k b o,A k b o->b<w.heap.size/\b∉fp)->fR (fD A hw w) v0 (.val g cs) fp->fp.Nodup->(∀b∈fp,b<w.heap.size)->oH A w vs rest->
  Calls P f (v0::vs).toArray w λe w'=>∃v hw' fr jI,e=.returned v/\fR (fD A hw' w') v (F.av y) fr/\fR (fD A hw' w') v0 (.val g (F.back y)) jI/\jI.Nodup/\
   (∀b∈jI,b<w'.heap.size/\(b∈fp\/w.heap.size<=b))/\Fr (λb=>b∈fp) w w'
def akX (P:Program)(f:Nat)(F:bg)(y:F.R)(cs:aw AC)(rest:aw AV):Prop:=
 ∀(A:Rg)(w:World)(b:Nat)(vs:ir)(arr:Array Value)(T:TypeId)(fr:Nat×Nat)(hw:Nat->Nat)(fp:fg),(∀k b' o,A k b' o->b'<w.heap.size/\b'≠b/\b'∉fp)->
  w.heap[b]?=some (.cells arr T fr)->oF arr fr->bE (fD A hw w) arr.toList cs fp->fp.Nodup->b∉fp->(∀b'∈fp,b'<w.heap.size)->hw b=0->oH A w vs rest->
  Calls P f (.pointer (some ⟨b,0,none⟩)::vs).toArray w λe w'=>∃v hw' fv iJ T' MZ jI,e=.returned v/\fR (fD A hw' w') v (F.av y) fv/\w'.heap[b]?=some (.cells iJ T' MZ)/\oF iJ MZ/\
   bE (fD A hw' w') iJ.toList (F.back y) jI/\jI.Nodup/\b∉jI/\(∀b'∈jI,b'<w'.heap.size/\(b'∈fp\/w.heap.size<=b'))/\fv.Nodup/\(∀b'∈fv,b'<w'.heap.size/\(b'∈fp\/w.heap.size<=b')/\b'∉jI/\b'≠b)/\Fr (λb'=>b'=b\/b'∈fp) w w'
def af2 (P:Program)(f:Nat)(F:bg)(y:F.R)(xs:aw AV):Prop:=
 ∀(A:Rg)(w:World)(vs:ir),(∀k b o,A k b o->b<w.heap.size)->oH A w vs xs->
  Calls P f vs.toArray w λe w'=>∃b arr T fr hw,e=.returned (.pointer (some ⟨b,0,none⟩))/\w.heap.size<=b/\w'.heap[b]?=some (.cells arr T fr)/\oF arr fr/\bE (fD A hw w') arr.toList (F.back y) []/\Fr (λ_=>False) w w'
def gY (P:Program)(f:Nat)(F:bg):Prop:=
 ∀(xs:aw AV)(y:F.R),F.fn xs=some y->
  (∃fn c,P.funcs[f]?=some fn/\fn.body=some c/\(fn.name== "runtime.NumGoroutine")=false)/\
  (F.io=false->F.bx=false->∀(A:Rg)(w:World)(vs:ir),(∀k b o,A k b o->b<w.heap.size)->oH A w vs xs->
    Calls P f vs.toArray w λe w'=>∃v hw fp,e=.returned v/\fR (fD A hw w') v (F.res y) fp/\fp.Nodup/\(∀b∈fp,w.heap.size<=b/\b<w'.heap.size)/\Fr (λ_=>False) w w')/\
  (F.io=true->∀g cs rest,xs=.val g cs::rest->apz P f F y g cs rest)/\
  (F.bx=true->∀cs rest,xs=.val true cs::rest->akX P f F y cs rest)/\
  (F.pr=true->af2 P f F y xs)
theorem pU (h:gB c v x fp)(hf:x.je=true):fp=[]/\gB c' v x []:=by cases x with|int k n=>exact⟨h.2,h.1,rfl⟩|bool b=>exact⟨h.2,h.1,rfl⟩|str s=>exact⟨h.2,h.1,rfl⟩|fn f=>exact⟨h.2,h.1,rfl⟩|_=>cases hf
theorem Ef {c':RC}:∀{vs:ir}{xs:aw AC}{fp:fg},bE c vs xs fp->xs.all AC.je=true->fp=[]/\bE c' vs xs []
 |[],[],_,h,_=>⟨h,rfl⟩
 |_::_,_::_,_,h,hf=>by obtain⟨f1,f2,rfl,h1,h2⟩:=h;simp only[cc,ae]at hf;obtain⟨rfl,k1⟩:=pU (c':=c') h1 hf.1;obtain⟨rfl,k2⟩:=Ef (c':=c') h2 hf.2;exact⟨rfl,[],[],rfl,k1,k2⟩
 |[],_::_,_,h,_=>h.elim
 |_::_,[],_,h,_=>h.elim
theorem RD:∀{ws:ir}{ts:aw (Bool×aw AC)}{fp:fg},fR.pk c ws ts fp->(ts.all λx=>x.2.all AC.je)=true->fR.pk c' ws ts []
 |[],[],_,_,_=>rfl
 |_::_,_::_,_,h,hf=>by obtain⟨f1,f2,rfl,⟨vs,hv,h1⟩,h2⟩:=h;simp only[cc,ae]at hf;exact⟨[],[],rfl,⟨vs,hv,(Ef h1 hf.1).2⟩,RD h2 hf.2⟩
 |[],_::_,_,h,_=>h.elim
 |_::_,[],_,h,_=>h.elim
theorem J6 {x:AV}(h:fR c v x fp)(hf:x.je=true):fR c' v x []:=by
 cases x with
 |val g cs=>obtain⟨vs,hv,h⟩:=h;exact⟨vs,hv,(Ef h hf).2⟩
 |uw ts=>obtain⟨ws,hv,h⟩:=h;exact⟨ws,hv,RD h hf⟩
theorem V0 {A:Rg}:∀(os ss:aw AC){r:aw AC}{vs us:ir}{f:fg},mM os ss=some r->bE c vs os []->bE c us ss f->bE (fD A c.hw c.w) vs r f:=by
 intro os;induction os with
 |nil=>intro ss r vs us f h hv hu;cases ss with|cons _ _=>simp[mM]at h|nil=>simp[mM]at h;subst h;cases vs with|cons _ _=>exact hv.elim|nil=>cases us with|cons _ _=>exact hu.elim|nil=>exact hu
 |cons o os ih=>
  intro ss r vs us f h hv hu;cases vs with
  |nil=>exact hv.elim
  |cons v vs=>
   cases ss with
   |nil=>unfold mM at h;split at h<;>first|contradiction|cases h
   |cons s ss=>
    cases us with
    |nil=>exact hu.elim
    |cons u us=>
     obtain⟨g1,g2,hg,hv1,Px⟩:=hv;have e1:g1=[]:=by have:=hg.symm;simp at this;exact this.1
     have e2:g2=[]:=by have:=hg.symm;simp at this;exact this.2
     subst e1;subst e2;obtain⟨f1,f2,rfl,hu1,hu2⟩:=hu;have fl:∀{x:AC}{r'},x.je=true->s.je=true->o=x->mM os ss=some r'->r=x::r'->bE (fD A c.hw c.w) (v::vs) r (f1++f2):=by rintro x r' hx hs rfl hr rfl;obtain⟨rfl,_⟩:=pU (c':=c) hu1 hs;exact⟨[],f2,rfl,(pU hv1 hx).2,ih ss hr Px hu2⟩
     unfold mM at h;split at h;contradiction;rename_i ep rt t e0 xs0 os' t' e xs ss' h1 h2;injection h1 with h1 LR;subst h1;subst LR;injection h2 with h2 QB;subst h2;subst QB;cases ht:(t'==t)with
     |false=>rw[ht]at h;cases h
     |true=>
      have:t'=t:=by simpa using ht
      subst this;rw[ht]at h;simp only[ah]at h;obtain⟨r',hr,h⟩:=aM.1 h;cases h;have Pw:=(hv1.2.2.2.2 rt t' rfl).2;have Pv:=(hu1.2 t' rfl).2;have huv:u=v:=Pv.trans Pw.symm;subst huv;exact⟨f1,f2,rfl,⟨hu1.1,by simp⟩,ih _ hr Px hu2⟩
     rename_i k n os' k' n' ss' h1 h2;injection h1 with h1 LR;subst LR;injection h2 with h2 QB;subst h2;subst QB;obtain⟨r',hr,h⟩:=aM.1 h;cases h;exact fl (x:=.int k n) rfl rfl h1 hr rfl;rename_i k os' k' ss' h1 h2;injection h1 with h1 LR;subst LR;injection h2 with h2 QB;subst h2;subst QB;obtain⟨r',hr,h⟩:=aM.1 h;cases h;exact fl (x:=.bool k) rfl rfl h1 hr rfl;rename_i k os' k' ss' h1 h2;injection h1 with h1 LR;subst LR;injection h2 with h2 QB;subst h2;subst QB;obtain⟨r',hr,h⟩:=aM.1 h;cases h;exact fl (x:=.str k) rfl rfl h1 hr rfl;cases h
theorem Uf (h:gB c v x fp):gB (fD (λ_ b o=>c.S b o/\b<c.w.heap.size) (λ_=>0) c.w) v (x.asArg c.ep) []:=by
 have hS:∀{e:CT}{xs:aw e.D},iS c.w c.S (.sl e) [v] xs->iS c.w (λb o=>c.S b o/\b<c.w.heap.size) (.sl e) [v] xs:=λhr=>
  iS.mono (λb o u hs hu=>⟨⟨hs,World.block_lt_of_cell? c.w _ hu⟩,hu⟩) hr
 cases x with|int k n=>exact⟨h.1,rfl⟩|bool b=>exact⟨h.1,rfl⟩|str s=>exact⟨h.1,rfl⟩|jn=>exact⟨h.1,rfl⟩|fn f=>exact⟨h.1,rfl⟩|ptr s off=>exact rfl|un=>exact rfl|bot=>exact rfl|zk fl e y i off=>exact rfl|sl fl e xs=>cases fl with|nest _ _ _ _ _ _=>exact rfl|part _ _ _ _=>exact rfl|fa _ _ _=>exact rfl|own t=>exact⟨rfl,hS (eZ.rep (λb o ho=> .inr ho) h.1)⟩|arg k=>exact⟨rfl,hS (iS.mono (λb o u hs hu=>⟨.inl ⟨k,hs⟩,hu⟩) h.2)⟩|loc ep pv=>simp only[AC.asArg];split;rename_i he;exact⟨rfl,hS (h.2.2.2.1 (by simpa using he))⟩;exact rfl
theorem Hu:∀{vs:ir}{xs:aw AC}{fp:fg},bE c vs xs fp->bE (fD (λ_ b o=>c.S b o/\b<c.w.heap.size) (λ_=>0) c.w) vs (xs.map (AC.asArg c.ep)) []
 |[],[],_,_=>rfl
 |_::_,_::_,_,h=>by obtain⟨f1,f2,rfl,h1,h2⟩:=h;exact⟨[],[],rfl,Uf h1,Hu h2⟩
 |[],_::_,_,h=>h.elim
 |_::_,[],_,h=>h.elim
theorem X1 {x:AV}(h:fR c v x fp):fR (fD (λ_ b o=>c.S b o/\b<c.w.heap.size) (λ_=>0) c.w) v (x.asArg c.ep) []:=by
 cases x with
 |val g cs=>obtain⟨vs,hv,h⟩:=h;exact⟨vs,hv,Hu h⟩
 |uw ts=>exact fR.bot _ _
theorem QO (h:dP C g st a w []):∀(args:aw Operand),
 oH (λ_ b o=>(cG C g st w).S b o/\b<w.heap.size) w (args.map a.eval) (args.map λx=>((st.rd x).fresh st).asArg st.ep)
 |[]=>trivial
 |x::xs=>⟨X1 (c:=cG C g st w) (h.fresh (h.rd x)),QO h xs⟩
theorem Ug {A':Rg}{tag:ax Nat}(h:gB (fD A' hw c.w) v x fp)(hA:∀k b o,A' k b o->c.S b o)(C6:∀b∈fp,c.hw b=hw b)(ht:∀t,tag=some t->c.iss t/\v=c.hdr t):gB c v (x.Br c.ep tag) fp:=by
 cases x with
 |int k n=>exact h
 |bool b=>exact h
 |str s=>exact h
 |jn=>exact h
 |fn f=>exact h
 |ptr s off=>exact h.2.2
 |un=>exact h
 |bot=>exact h
 |zk fl e y i off=>cases fl with|own t=>exact h.elim|nest _ _ _ _ _ _=>exact h.elim|part _ _ _ _=>exact h.elim|fa _ _ _=>exact h.elim|arg _=>exact h.1|loc ep pv=>exact h.1
 |sl fl e xs=>
  cases fl with
  |nest _ _ _ _ _ _=>exact h.1
  |part _ _ _ _=>exact h.1
  |fa _ _ _=>obtain⟨_,⟨k,hk,h3⟩,_⟩:=h;exact⟨λq hq=>(by cases hq),⟨k,hk,h3.mono (λb hb=>⟨rfl,C6 b hb⟩)⟩,by simp⟩
  |own t=>exact⟨eZ.mono h.1 (λb hb=>⟨rfl,C6 b hb⟩),ht⟩
  |loc ep pv=>exact h.1
  |arg _=>have hr:iS c.w c.S (.sl e) [v] xs:=iS.mono (λb o u hs hu=>⟨hA _ b o hs,hu⟩) h.2;refine⟨h.1,aU _,?_,λ_=>hr,by simp⟩;obtain⟨u,hu,k⟩:=hr;simp at hu;subst hu;rcases k with⟨⟨ad,rfl⟩,rfl⟩|⟨b,o,cap,rfl,_⟩;exact⟨_,_,_,rfl,rfl⟩;exact⟨_,_,_,rfl,rfl⟩
theorem yz {A':Rg}{mk:Nat->ax Nat}(hA:∀k b o,A' k b o->c.S b o):∀{vs:ir}{xs:aw AC}{fp:fg}(j:Nat),bE (fD A' hw c.w) vs xs fp->(∀b∈fp,c.hw b=hw b)->
 (∀i v,vs[i]?=some v->∀t,mk (j+i)=some t->c.iss t/\v=c.hdr t)->bE c vs (FW c.ep mk j xs) fp
 |[],[],_,_,h,_,_=>h
 |v::_,_::_,_,j,h,hh,hm=>by obtain⟨f1,f2,rfl,h1,h2⟩:=h;exact⟨f1,f2,rfl,Ug h1 hA (λb hb=>hh b (bw _ hb)) (λt ht=>hm 0 v rfl t ht),yz hA (j+1) h2 (λb hb=>hh b (bj _ hb)) (λi u hu t ht=>hm (i+1) u (by simpa using hu) t (by rwa[show j+(i+1)=j+1+i by omega]))⟩
 |[],_::_,_,_,h,_,_=>h.elim
 |_::_,[],_,_,h,_,_=>h.elim
inductive Leaves (A:Rg) (hw:Nat->Nat) (w:World):List Value->List (Bool×List AC)->List Nat->List Value->Prop
 |nil:Leaves A hw w [] [] [] []
 |cons {v:Value} {vs:List Value} {g:Bool} {cs:List AC} {ts:List (Bool×List AC)} {f1 f2:List Nat} {us all:List Value} (fE:Cut g v us) (hr:bE (fD A hw w) us cs f1) (h:Leaves A hw w vs ts f2 all):
  Leaves A hw w (v::vs) ((g,cs)::ts) (f1++f2) (us++all)
theorem GQ {A:Rg}{w:World}:∀{ws:ir}{ts:aw (Bool×aw AC)}{fp:fg},fR.pk (fD A hw w) ws ts fp->∃all,Leaves A hw w ws ts fp all
 |[],[],_,h=>by cases h;exact⟨[],.nil⟩
 |_::_,(g,cs)::_,_,h=>by obtain⟨f1,f2,rfl,⟨us,fE,hr⟩,h2⟩:=h;obtain⟨all,Ej⟩:=GQ h2;exact⟨us++all,.cons fE hr Ej⟩
 |[],_::_,_,h=>h.elim
 |_::_,[],_,h=>h.elim
theorem KK {A':Rg}{mk:Nat->ax Nat}(hA:∀k b o,A' k b o->c.S b o){ws:ir}{ts:aw (Bool×aw AC)}(h:Leaves A' hw c.w ws ts fp all): ∀j,(∀b∈fp,c.hw b=hw b)->(∀i v,all[i]?=some v->∀t,mk (j+i)=some t->c.iss t/\v=c.hdr t)->fR.pk c ws (VV c.ep mk j ts) fp:=by induction h with|nil=>intro j _ _;exact rfl| @cons v vs g cs ts f1 f2 us all fE hr h ih=>intro j hh hm;have hl:=hr.length;refine⟨f1,f2,rfl,⟨us,fE,yz hA j hr (λb hb=>hh b (bw _ hb)) (λi u hu t ht=>?_)⟩,ih _ (λb hb=>hh b (bj _ hb)) (λi u hu t ht=>?_)⟩;exact hm i u (by rw[bD (aG.1 hu).1];exact hu) t ht;have hl':us.length=cs.length:=hl;refine hm (us.length+i) u (by rw[bq (by omega)];simpa using hu) t ?_;rw[<-ft,hl'];exact ht
def py (hdr:Nat->Value)(mk:Nat->ax Nat)(all:ir):Nat->Value:=λu=>if mk (u/3%4096)=some u then(all[u/3%4096]?).getD undef else hdr u
theorem xY {t:Nat}(h:lT st t):py hdr (st.gR d) all t=hdr t:=by unfold py;rw[aH];intro e;exact(oy e).1 h
theorem xX {i t:Nat}(hv:all[i]?=some v)(h:st.gR d i=some t):v=py hdr (st.gR d) all t:=by
 obtain⟨_,_,d',rfl,ht,hi⟩:=oy h;have aeQ:t/3%4096=i:=by rw[ht,F9];omega
 unfold py;rw[aeQ,aF h,hv];rfl
theorem Wd {vs us:ir}{seg:aw AC}{f1 f2 f3:fg}{off n:Nat}(hus:us=(vs.drop off).take n)(hln:us.length=n)(r1:bE c' (vs.take off) (cs.take off) f1)(r2:bE c' us seg f2)(r3:bE c' (vs.drop (off+n)) (cs.drop (off+n)) f3): bE c' vs (dZ cs off seg) (f1++f2++f3):=by
 have xE:=r2.length;have e:vs=vs.take off++us++vs.drop (off+n):=by rw[hus,aP,<-eF,cb,cb]
 rw[e,dZ,show seg.length=n by omega];exact bE.append (bE.append r1 r2) r3
theorem Mr:∀(os ss:aw AC){r:aw AC},mM os ss=some r->ss.length=os.length:=by
 intro os
 induction os with
 |nil=>intro ss r h;cases ss with
  |nil=>rfl
  |cons _ _=>simp[mM]at h
 |cons o os ih=>
  intro ss r h
  cases ss with
  |nil=>unfold mM at h;split at h<;>first|contradiction|cases h
  |cons s ss=>
   unfold mM at h
   split at h
   ·contradiction
   ·rename_i h1 h2
    injection h1 with h1 LR;subst LR
    injection h2 with h2 QB;subst QB
    rw[Bool.cond_eq_ite]at h
    split at h
    ·obtain⟨r',hr,h⟩:=aM.1 h
     simp[ih _ hr]
    ·cases h
   all_goals first
    |cases h
    |(rename_i h1 h2
      injection h1 with h1 LR;subst LR
      injection h2 with h2 QB;subst QB
      obtain⟨r',hr,h⟩:=aM.1 h
      simp[ih _ hr])
theorem D8 {A':Rg}{mk:Nat->ax Nat}{k:Bool}(hA:A' true=c.A k):∀{vs:ir}{xs:aw AC}{fp:fg}(j:Nat),bE (fD A' hw c.w) vs xs fp->xs.all (AC.wN true)=true->
 (∀b∈fp,c.hw b=hw b)->(∀i v,vs[i]?=some v->∀t,mk (j+i)=some t->c.iss t/\v=c.hdr t)->bE c vs (ou k mk j xs) fp
 |[],[],_,_,h,_,_,_=>h
 |v::_,x::_,_,j,h,mY,hh,hm=>by
  obtain⟨f1,f2,rfl,h1,h2⟩:=h;simp only[cc,ae]at mY;refine⟨f1,f2,rfl,?_,D8 hA (j+1) h2 mY.2 (λb hb=>hh b (bj _ hb)) (λi u hu t ht=>hm (i+1) u (by simpa using hu) t (by rwa[show j+(i+1)=j+1+i by omega]))⟩;have C6:∀b∈f1,c.hw b=hw b:=λb hb=>hh b (bw _ hb);have ht:∀t,mk j=some t->c.iss t/\v=c.hdr t:=λt ht=>hm 0 v rfl t ht;have mY:=mY.1;cases x with
  |sl fl e xs=>
   cases fl with
   |own t=>exact⟨eZ.mono h1.1 (λb hb=>⟨rfl,C6 b hb⟩),ht⟩
   |arg k'=>
    have hk:k'=true:=by simpa[AC.wN]using mY
    subst hk;exact⟨h1.1,by rw[<-hA];exact h1.2⟩
   |loc _ _=>cases mY
   |nest _ _ _ _ _ _=>cases mY
   |part _ _ _ _=>cases mY
   |fa _ _ _=>cases mY
  |int _ _=>exact h1
  |bool _=>exact h1
  |str _=>exact h1
  |fn _=>exact h1
  |jn=>cases mY
  |ptr _ _=>cases mY
  |zk _ _ _ _ _=>cases mY
  |un=>cases mY
  |bot=>cases mY
 |[],_::_,_,_,h,_,_,_=>h.elim
 |_::_,[],_,_,h,_,_,_=>h.elim
theorem Gb {A':Rg}{w:World}{k:Bool}:∀{cs:aw AC},cs.all (AC.wN k)=true->∀{c:RC}{vs:ir}{fp:fg},bE c vs cs fp->c.w=w->c.hw=hw->A' true=c.A k->bE (fD A' hw w) vs (cs.map AC.Qr) fp
 |[],_,c,vs,fp,h,_,_,_=>by cases vs with|nil=>exact h|cons _ _=>exact h.elim
 |x::cs,mY,c,vs,fp,h,QC,Ds,hA=>by
  cases vs with
  |nil=>exact h.elim
  |cons v vs=>
   obtain⟨f1,f2,rfl,h1,h2⟩:=h;simp only[cc,ae]at mY;refine⟨f1,f2,rfl,?_,Gb mY.2 h2 QC Ds hA⟩;have mY:=mY.1;cases x with
   |sl fl e xs=>
    cases fl with
    |own t=>exact⟨by have:=h1.1;rw[QC,Ds]at this;exact this,by simp⟩
    |arg k'=>
     have hk:k'=k:=by simpa[AC.wN]using mY
     subst hk;exact⟨h1.1,by have:=h1.2;rw[QC,<-hA]at this;exact this⟩
    |loc _ _=>cases mY
    |nest _ _ _ _ _ _=>cases mY
    |part _ _ _ _=>cases mY
    |fa _ _ _=>cases mY
   |int _ _=>exact h1
   |bool _=>exact h1
   |str _=>exact h1
   |fn _=>exact h1
   |jn=>cases mY
   |ptr _ _=>cases mY
   |zk _ _ _ _ _=>cases mY
   |un=>cases mY
   |bot=>cases mY
theorem Np (h:dP C g st a w [])(s:Nat){A':Rg}(hA:∀b o,(cG C g st w).S b o/\b<w.heap.size/\g.ef b≠some (.box s)->A' false b o):∀(xs:aw Operand),xs.all (zV st)=true->
 oH A' w (xs.map a.eval) (xs.map (yQ st))
 |[],_=>trivial
 |x::xs,hx=>by
  simp only[cc,ae]at hx;refine⟨?_,Np h s hA xs hx.2⟩;have hx:=hx.1;cases x with
  |const _=>exact J6 (h.rd _) hx
  |func _=>exact J6 (h.rd _) hx
  |global _=>exact J6 (h.rd _) hx
  |tmp t=>
   have gE:∀(t0:Nat){e:CT}{v:Value}{xs:aw e.D}{fp:fg},eZ g.hw w (.sl e) [v] xs fp->(∀b∈fp,g.ef b=some (.slot t0))->iS w (A' false) (.sl e) [v] xs:=by
    intro t0 e v xs fp h1 hl;have h3:eZ (λb=>if b∈fp then g.hw b else 0) w (.sl e) [v] xs fp:=eZ.mono h1 (λb hb=>⟨rfl,by simp[hb]⟩)
    exact eZ.rep (λb o ho=>by
     by_cases hb:b∈fp;have ho:o<g.hw b:=by simpa[hb]using ho
     have M5:=hl b hb;exact hA b o ⟨.inr ho,(h.fS b _ M5).1,by rw[M5];simp⟩;simp[hb]at ho) h3
   obtain⟨fp,hr,hn,hl⟩:=h.slot t;simp only[zV]at hx;show fR _ (a.tmps.getD t undef) (yQ st (.tmp t)) _;simp only[yQ];cases hv:st.get t with
   |uw _=>rw[hv]at hx;cases hx
   |val gg cs=>
    rw[hv]at hx hr;simp only at hx;obtain⟨vs,fE,hr⟩:=hr
    have key:∀(cs:aw AC)(vs:ir)(fp:fg),(cs.map st.Mg).all AC.Gt=true->(∀b∈fp,g.ef b=some (.slot t))->bE (cG C g st w) vs cs fp->
     bE (fD A' (λ_=>0) w) vs (cs.map st.Mg) []:=by
     intro cs
     induction cs with
     |nil=>intro vs fp _ _ h;cases vs with
      |nil=>rfl
      |cons _ _=>exact h.elim
     |cons c cs ih=>
      intro vs fp hc hl hr
      cases vs with
      |nil=>exact hr.elim
      |cons v vs=>
       obtain⟨f1,f2,rfl,h1,h2⟩:=hr
       simp only[cR,cc,ae]at hc
       refine⟨[],[],rfl,?_,ih vs f2 hc.2 (λb hb=>hl b (bj _ hb)) h2⟩
       have hc:=hc.1
       cases c with
       |sl fl e xs=>
        cases fl with
        |own tag=>exact⟨rfl,gE t h1.1 (λb hb=>hl b (bw _ hb))⟩
        |arg k=>exact⟨rfl,iS.mono (λb o u hs hu=>⟨hA b o ⟨.inl ⟨k,hs⟩,World.block_lt_of_cell? w _ hu,λhb=>h.KI hb k o hs⟩,hu⟩) h1.2⟩
        |loc ep pv=>
         cases pv with
         |none=>cases hc
         |some q=>
          obtain⟨r,tg⟩:=q
          cases r with
          |box _ _=>cases hc
          |io _=>cases hc
          |slot b j=>
           have Px:=(h1.2.2.2.2 (.slot b j) tg rfl).2
           simp only[AS.Mg]at hc⊢
           cases T4:st.eL (.slot b j)with
           |none=>rw[T4]at hc;cases hc
           |some c0=>
            rw[T4]at hc
            split at hc
            ·rename_i t' e' ys W7
             split at hc
             ·rename_i ht
              subst ht
              cases W7
              rw[aF rfl]
              obtain⟨fp2,L9,_,xE⟩:=h.slot b
              simp only[AS.eL]at T4
              cases hgb:st.get b with
              |uw _=>rw[hgb]at T4;cases T4
              |val g2 BK=>
               rw[hgb]at T4 L9
               simp only at T4
               obtain⟨vs2,_,L9⟩:=L9
               rw[dI]at T4
               obtain⟨v2,f3,_,Kq,oD⟩:=L9.get j _ T4
               have ar2:v=v2:=by have:=(Kq.2 t' rfl).2;rw[Px,this]
               rw[ar2]
               exact⟨rfl,gE b Kq.1 (λb' gM=>xE b' (oD b' gM))⟩
             ·cases hc
            ·cases hc
        |nest _ _ _ _ _ _=>cases hc
        |part _ _ _ _=>cases hc
        |fa _ _ _=>cases hc
       |int _ _=>exact⟨h1.1,rfl⟩
       |bool _=>exact⟨h1.1,rfl⟩
       |str _=>exact⟨h1.1,rfl⟩
       |fn _=>exact⟨h1.1,rfl⟩
       |jn=>cases hc
       |ptr _ _=>cases hc
       |zk _ _ _ _ _=>cases hc
       |un=>cases hc
       |bot=>cases hc
    exact⟨vs,fE,key cs vs fp hx hl hr⟩
theorem dP.aez (h:dP C g st a w [])(s:Nat)(jt:st.boxes[s]?=some (some cs)): ∃arr T fr fp,w.heap[g.β s]?=some (.cells arr T fr)/\oF arr fr/\bE (cG C g st w) arr.toList cs fp/\fp.Nodup/\g.β s∉fp/\(∀b∈fp,b<w.heap.size)/\g.hw (g.β s)=0/\(∀b,b=g.β s\/b∈fp->g.ef b=some (.box s))/\ ∀(w':World)(hw':Nat->Nat)(iJ:Array Value)(T':TypeId)(MZ:Nat×Nat)(po:aw AC)(jI fv:fg)(A':Rg)(k:Bool),Fr (λb=>b=g.β s\/b∈fp) w w'->w'.heap[g.β s]?=some (.cells iJ T' MZ)->oF iJ MZ-> A' true=C.A k->bE (fD A' hw' w') iJ.toList po jI->po.all (AC.wN true)=true->jI.Nodup->g.β s∉jI->(∀b∈jI,b<w'.heap.size/\(b∈fp\/w.heap.size<=b))-> (∀b∈fv,b<w'.heap.size/\(b∈fp\/w.heap.size<=b)/\b∉jI/\b≠g.β s)-> ∃g',dP C g' (WB st s (ou k (st.gR (some s)) 0 po)) a w' []/\(∀b∈fv,g'.ef b=some (.hand 0)/\g'.hw b=hw' b)/\∀b,b<w.heap.size->g.ef b≠some (.box s)->g'.hw b=g.hw b:=by
 obtain⟨arr,T,fr,fp,jJ,qM,hr,hn,uz,hl,EM,EO⟩:=h.boxes s cs jt;have wV:s<st.boxes.length:=(aG.1 jt).1;have Ki:∀b,b=g.β s\/b∈fp->g.ef b=some (.box s):=by rintro b (rfl|hb);exact EM;exact hl b hb
 refine⟨arr,T,fr,fp,jJ,qM,hr,hn,uz,λb hb=>(h.fS b _ (hl b hb)).1,EO,Ki,?_⟩;intro w' hw' iJ T' MZ po jI fv A' k jf Fb R8 hA' uA ah1 BB Fe GF HI;let X6:aw AC:=ou k (st.gR (some s)) 0 po;let bK:AS:=WB st s X6;let hw2:Nat->Nat:=λb=>if b∈jI\/b∈fv then hw' b else if b=g.β s then 0 else g.hw b
 let ab9:Nat->ax jx:=λb=>if b=g.β s\/b∈jI then some (.box s) else if b∈fv then some (.hand 0) else g.ef b
 let g':Gh:=⟨hw2,g.β,ab9,py g.hdr (st.gR (some s)) iJ.toList⟩
 have su:bK.boxes=st.boxes.set s (some X6):=by show((st.eD s (some X6)).fi (some s)).boxes=_;rw[yB,jH]
 have Kr:bK.slots=st.slots:=by show((st.eD s (some X6)).fi (some s)).slots=_;rw[sP];rfl
 have L7:bK.io=st.io:=by show((st.eD s (some X6)).fi (some s)).io=_;rw[FD];rfl
 have Is:∀t,lT st t->lT bK t:=λt ht=>by have h1:lT (st.eD s (some X6)) t:=ht;exact AN (d:=some s) h1
 have YD:∀t,iR st t->iR bK t:=by rintro t ⟨c0,W7⟩;by_cases rH:s=t;subst rH;exact⟨X6,by rw[su];simp[wV]⟩;exact⟨c0,by rw[su,aR rH];exact W7⟩
 have R5:∀b,b<w.heap.size->g.ef b≠some (.box s)->b∉jI/\b∉fv/\b≠g.β s:=by intro b hb M5;refine⟨λhm=>?_,λhm=>?_,λhm=>M5 (Ki b (.inl hm))⟩;rcases(GF b hm).2 with h2|h2;exact M5 (Ki b (.inr h2));omega;rcases(HI b hm).2.1 with h2|h2;exact M5 (Ki b (.inr h2));omega
 have qS:∀b x,x≠ .box s->g.ef b=some x->ab9 b=some x/\w'.heap[b]?=w.heap[b]?/\hw2 b=g.hw b:=by intro b x hx hb;have DD:=(h.fS b x hb).1;have hnm:¬(b=g.β s\/b∈fp):=λhm=>hx (by have:=Ki b hm;rw[hb]at this;simpa using this);obtain⟨n1,n2,n3⟩:=R5 b DD (by rw[hb];simpa using hx);refine⟨?_,jf.block b DD hnm,?_⟩;show(if b=g.β s\/b∈jI then _ else if b∈fv then _ else _)=_;rw[aH (by rintro(h1|h1);exact n3 h1;exact n1 h1),aH n2];exact hb;show(if b∈jI\/b∈fv then _ else if b=g.β s then _ else _)=_;rw[aH (by rintro(h1|h1);exact n1 h1;exact n2 h1),aH n3]
 have Yu:∀k b o u,C.A k b o->w.cell? ⟨b,o,none⟩=some u->w'.cell? ⟨b,o,none⟩=some u:=by intro k b o u hA hu;have hb:b<w.heap.size:=World.block_lt_of_cell? w _ hu;rw[World.cell?_of_block (a:=⟨b,o,none⟩) (jf.block b hb (λhm=>h.KI (Ki b hm) k o hA))];exact hu
 have hle:(cG C g st w).Le (cG C g' bK w'):=⟨rfl,λt ht=>⟨Is t ht,xY ht⟩,Yu,Nat.le_succ _,λt ht=>⟨YD t ht,rfl⟩,λhe=>absurd he (Nat.succ_ne_self _)⟩
 refine⟨g',h.step (λx=>x≠ .box s) hle h.defers ?_ ?_ ?_ ?_ (λb x hk hb=>qS b x hk hb) ?_ ?_ (λk u bv hk=>by simp at hk) (.inl ⟨by simp,L7⟩),λb hb=>?_,λb hb M5=>?_⟩;rw[Kr];exact h.size;rw[Kr,su,aC];exact h.bsize;refine h.frame.trans jf (λb hb hm=>?_);rcases(h.fS b _ (Ki b hm)).2 with h2|h2;omega;exact h2;intro b x hx;have zt:(if b=g.β s\/b∈jI then some (jx.box s) else if b∈fv then some (.hand 0) else g.ef b)=some x:=hx;have hz:=jf.size;have hold:b∈fp\/w.heap.size<=b->C.w0.heap.size<=b\/C.M b:=by rintro(h2|h2);exact(h.fS b _ (hl b h2)).2;exact .inl (bA h.frame.size h2)
 split at zt;rename_i hm;rcases hm with rfl|hm;have:=h.fS _ _ EM;exact⟨by omega,this.2⟩;exact⟨(GF b hm).1,hold (GF b hm).2⟩;split at zt;rename_i hm;exact⟨(HI b hm).1,hold (HI b hm).2.1⟩;have:=h.fS b x zt;exact⟨by omega,this.2⟩;intro i av hi;rw[Kr]at hi;exact .inl ⟨by simp,hi,rfl⟩;intro t BK hb;rw[su]at hb;by_cases rH:t=s;subst rH;rw[bu]at hb;simp only[bP,wV]at hb;simp at hb;subst hb;refine .inr ⟨iJ,T',MZ,jI,Fb,R8,?_,BB,Fe,λb hb=>?_,?_,?_⟩
 have:=D8 (c:=cG C g' bK w') (A':=A') (hw:=hw') (mk:=st.gR (some t)) (k:=k) hA' 0 (vs:=iJ.toList) (xs:=po) (fp:=jI) uA ah1
  (λb hb=>by show(if b∈jI\/b∈fv then _ else _)=_;rw[aF (.inl hb)])
  (λi u hu q hq=>by
   rw[cp]at hq;have hm:=oy hq;have hm2:lT bK q:=by have h1:st.gR (some t) i=some q:=hq;have h2:(st.eD t (some X6)).gR (some t) i=some q:=h1;exact(oy h2).2.1
   exact⟨hm2,xX hu hq⟩)
 exact this;show(if b=g.β t\/b∈jI then _ else _)=_;rw[aF (.inr hb)];show(if g.β t=g.β t\/g.β t∈jI then _ else _)=_;rw[aF (.inl rfl)];show(if g.β t∈jI\/g.β t∈fv then _ else if g.β t=g.β t then _ else _)=_;rw[aH (by rintro(h1|h1);exact Fe h1;exact(HI _ h1).2.2.2 rfl),aF rfl];rw[aR (cM rH)]at hb;exact .inl ⟨by simpa using rH,hb,rfl⟩;obtain⟨_,_,h3,h4⟩:=HI b hb;refine⟨?_,?_⟩;show(if b=g.β s\/b∈jI then _ else if b∈fv then _ else _)=_;rw[aH (by rintro(h1|h1);exact h4 h1;exact h3 h1),aF hb];show(if b∈jI\/b∈fv then _ else _)=_;rw[aF (.inr hb)];obtain⟨n1,n2,n3⟩:=R5 b hb M5;show(if b∈jI\/b∈fv then _ else if b=g.β s then _ else _)=_;rw[aH (by rintro(h1|h1);exact n1 h1;exact n2 h1),aH n3]
theorem N8:∀{vs:ir}{cs:aw AC}{fp:fg},bE c vs cs fp->cs.all AC.EV=true->fp=[]
 |[],[],_,h,_=>h
 |[],_::_,_,h,_=>h.elim
 |_::_,[],_,h,_=>h.elim
 |v::vs,x::cs,fp,h,hx=>by
  obtain⟨f1,f2,rfl,h1,h2⟩:=h;simp only[cc,ae]at hx;rw[N8 h2 hx.2,bR];have hx:=hx.1;cases x with
  |sl fl e xs=>cases fl<;>first|exact h1.1|cases hx
  |int k n=>exact h1.2
  |bool b=>exact h1.2
  |str s=>exact h1.2
  |fn f=>exact h1.2
  |jn=>cases hx
  |ptr _ _=>cases hx
  |zk _ _ _ _ _=>cases hx
  |un=>cases hx
  |bot=>cases hx
theorem dP.aa2 (h:dP C g st a w [])(s:Nat)(jt:st.boxes[s]?=some (some cs))(GD:cs.all AC.EV=true): ∀(w':World)(hw':Nat->Nat)(iJ:Array Value)(T':TypeId)(MZ:Nat×Nat)(po:aw AC)(jI fv:fg)(A':Rg)(k:Bool),Fr (λb=>b=g.β s) w w'->w'.heap[g.β s]?=some (.cells iJ T' MZ)->oF iJ MZ-> A' true=C.A k->bE (fD A' hw' w') iJ.toList po jI->po.all (AC.wN true)=true->jI.Nodup->g.β s∉jI->(∀b∈jI,b<w'.heap.size/\w.heap.size<=b)-> (∀b∈fv,b<w'.heap.size/\w.heap.size<=b/\b∉jI/\b≠g.β s)-> ∃g',dP C g' (st.eD s (some (ou k (λ_=>none) 0 po))) a w' []/\(∀b∈fv,g'.ef b=some (.hand 0)/\g'.hw b=hw' b)/\∀b,b<w.heap.size->g.ef b≠some (.box s)->g'.hw b=g.hw b:=by
 obtain⟨arr,T,fr,fp,jJ,qM,hr,hn,uz,hl,EM,EO⟩:=h.boxes s cs jt;have ahM:fp=[]:=N8 hr GD;subst ahM;have wV:s<st.boxes.length:=(aG.1 jt).1;intro w' hw' iJ T' MZ po jI fv A' k jf Fb R8 hA' uA ah1 BB Fe GF HI;let X6:aw AC:=ou k (λ_=>none) 0 po;let bK:AS:=st.eD s (some X6);let hw2:Nat->Nat:=λb=>if b∈jI\/b∈fv then hw' b else if b=g.β s then 0 else g.hw b
 let ab9:Nat->ax jx:=λb=>if b=g.β s\/b∈jI then some (.box s) else if b∈fv then some (.hand 0) else g.ef b
 let g':Gh:=⟨hw2,g.β,ab9,g.hdr⟩
 have su:bK.boxes=st.boxes.set s (some X6):=by show(st.eD s (some X6)).boxes=_;rw[jH]
 have YD:∀t,iR st t->iR bK t:=by rintro t ⟨c0,W7⟩;by_cases rH:s=t;subst rH;exact⟨X6,by rw[su];simp[wV]⟩;exact⟨c0,by rw[su,aR rH];exact W7⟩
 have hold:∀b,b<w.heap.size->b∉jI/\b∉fv:=by intro b hb;refine⟨λhm=>?_,λhm=>?_⟩;have:=(GF b hm).2;omega;have:=(HI b hm).2.1;omega
 have C6:∀b,b<w.heap.size->b≠g.β s->hw2 b=g.hw b:=by intro b hb Az;show(if b∈jI\/b∈fv then _ else if b=g.β s then _ else _)=_;rw[aH (by rintro(h1|h1);exact(hold b hb).1 h1;exact(hold b hb).2 h1),aH Az]
 have qS:∀b x,x≠ .box s->g.ef b=some x->ab9 b=some x/\w'.heap[b]?=w.heap[b]?/\hw2 b=g.hw b:=by intro b x hx hb;have DD:=(h.fS b x hb).1;have Az:b≠g.β s:=λhm=>hx (by rw[hm,EM]at hb;simpa using hb.symm);refine⟨?_,jf.block b DD Az,C6 b DD Az⟩;show(if b=g.β s\/b∈jI then _ else if b∈fv then _ else _)=_;rw[aH (by rintro(h1|h1);exact Az h1;exact(hold b DD).1 h1),aH (hold b DD).2];exact hb
 have Yu:∀k b o u,C.A k b o->w.cell? ⟨b,o,none⟩=some u->w'.cell? ⟨b,o,none⟩=some u:=by intro k b o u hA hu;have hb:b<w.heap.size:=World.block_lt_of_cell? w _ hu;rw[World.cell?_of_block (a:=⟨b,o,none⟩) (jf.block b hb (λhm=>h.KI (by rw[hm];exact EM) k o hA))];exact hu
 have hle:(cG C g st w).Le (cG C g' bK w'):=by
  refine⟨rfl,λt ht=>⟨ht,rfl⟩,Yu,aU _,λt ht=>⟨YD t ht,rfl⟩,λ_ b o u ho hu=>?_⟩;have hb:b<w.heap.size:=World.block_lt_of_cell? w _ hu;have Iu:o<g.hw b:=ho;have Az:b≠g.β s:=λe=>by rw[e,EO]at Iu;omega
  refine⟨by show o<hw2 b;rw[C6 b hb Az];exact Iu,?_⟩;show w'.cell? ⟨b,o,none⟩=some u;rw[World.cell?_of_block (a:=⟨b,o,none⟩) (jf.block b hb Az)];exact hu
 refine⟨g',h.step (λx=>x≠ .box s) hle h.defers h.size ?_ ?_ ?_ (λb x hk hb=>qS b x hk hb) ?_ ?_ (λk u bv hk=>by simp at hk) (.inl ⟨by simp,rfl⟩),λb hb=>?_,λb hb M5=>?_⟩;rw[su,aC];exact h.bsize;refine h.frame.trans jf (λb hb hm=>?_);have hm:b=g.β s:=hm;subst hm;rcases(h.fS _ _ EM).2 with h2|h2;omega;exact h2;intro b x hx;have zt:(if b=g.β s\/b∈jI then some (jx.box s) else if b∈fv then some (.hand 0) else g.ef b)=some x:=hx;have hz:=jf.size;split at zt;rename_i hm;rcases hm with rfl|hm;have:=h.fS _ _ EM;exact⟨by omega,this.2⟩;exact⟨(GF b hm).1,.inl (bA h.frame.size (GF b hm).2)⟩;split at zt;rename_i hm;exact⟨(HI b hm).1,.inl (bA h.frame.size (HI b hm).2.1)⟩;have:=h.fS b x zt;exact⟨by omega,this.2⟩;intro i av hi;exact .inl ⟨by simp,hi,rfl⟩;intro t BK hb;rw[su]at hb;by_cases rH:t=s;subst rH;rw[bu]at hb;simp only[bP,wV]at hb;simp at hb;subst hb;refine .inr ⟨iJ,T',MZ,jI,Fb,R8,?_,BB,Fe,λb hb=>?_,?_,?_⟩;have:=D8 (c:=cG C g' bK w') (A':=A') (hw:=hw') (mk:=λ_=>none) (k:=k) hA' 0 (vs:=iJ.toList) (xs:=po) (fp:=jI) uA ah1 (λb hb=>by show(if b∈jI\/b∈fv then _ else _)=_;rw[aF (.inl hb)]) (λi u hu q hq=>by cases hq);exact this;show(if b=g.β t\/b∈jI then _ else _)=_;rw[aF (.inr hb)];show(if g.β t=g.β t\/g.β t∈jI then _ else _)=_;rw[aF (.inl rfl)];show(if g.β t∈jI\/g.β t∈fv then _ else if g.β t=g.β t then _ else _)=_;rw[aH (by rintro(h1|h1);exact Fe h1;exact(HI _ h1).2.2.2 rfl),aF rfl];rw[aR (cM rH)]at hb;exact .inl ⟨by simpa using rH,hb,rfl⟩;obtain⟨_,_,h3,h4⟩:=HI b hb;refine⟨?_,?_⟩;show(if b=g.β s\/b∈jI then _ else if b∈fv then _ else _)=_;rw[aH (by rintro(h1|h1);exact h4 h1;exact h3 h1),aF hb];show(if b∈jI\/b∈fv then _ else _)=_;rw[aF (.inr hb)];exact C6 b hb (λe=>M5 (by rw[e];exact EM))
theorem ahk (yu:∀f,gY P f (Γ f)){o':Oper}(ho:o'.op=.call {callee:=.value f,args,argTypes:=ts})(hg:dP C g st a w []){k:Nat}(hf:st.rd f=.val false [.fn k])(jt:(Γ k).bx=true){K:AS->ax R}(hk:sY Γ o' k args.toList st K=some r)(next:Act->World->Prop)(Q:Exit->Act->World->Prop)(gy:∀bK a' w',mZ C bK a' w'->K bK=some r->next a' w'):o'.wp P a w next Q:=by
 have HI:=hg.rd f;rw[hf]at HI;have HI:=(ej HI).1;unfold sY at hk;split at hk
 ·rename_i x0 xs fM;split at hk
  ·rename_i s hx0;split at hk
   ·rename_i cs RT;have hb:st.boxes[s]?=some (some cs):=by rw[dI]at RT;cases hq:st.boxes[s]? with|none=>rw[hq]at RT;simp at RT|some q=>rw[hq]at RT;simp at RT;rw[RT]
    cases hc:(cs.all (AC.wN (Bq cs))&&xs.all (zV st))with
    |false=>rw[hc]at hk;cases hk
    |true=>
     rw[hc]at hk;simp only[ah]at hk;simp only[ae]at hc;cases gz:(Γ k).fn (.val true (cs.map AC.Qr)::xs.map (yQ st))with
     |none=>rw[gz]at hk;cases hk
     |some y=>
      rw[gz]at hk;simp only[aa]at hk;cases UP:(((Γ k).back y).all (AC.wN true)&&((Γ k).av y).ZK)with
      |false=>rw[UP]at hk;cases hk
      |true=>
       rw[UP]at hk;simp only[ah]at hk;simp only[ae]at UP;obtain⟨⟨fn,c,RY,RU,zP⟩,_,_,zl,_⟩:=yu k _ y gz;have zl:=zl jt _ _ rfl;have Ko:=hg.rd x0;rw[hx0]at Ko;have sU:=yT Ko;obtain⟨arr,T,fr,fp,jJ,qM,eK,hn,uz,gW,EO,Ch,ph⟩:=hg.aez s hb;let A':Rg:=λq b o=>bif q then C.A (Bq cs) b o else((cG C g st w).S b o/\b<w.heap.size/\g.ef b≠some (.box s))
       have hA':∀q b' o,A' q b' o->b'<w.heap.size/\b'≠g.β s/\b'∉fp:=by
        intro q b' o hq;have key:b'<w.heap.size/\g.ef b'≠some (.box s):=by cases q with|true=>have hq:C.A (Bq cs) b' o:=hq;exact⟨Nat.lt_of_lt_of_le (C.hA _ _ _ hq).1 hg.frame.size,λhb=>hg.KI hb _ o hq⟩|false=>exact hq.2
        exact⟨key.1,λe=>key.2 (Ch b' (.inl e)),λe=>key.2 (Ch b' (.inr e))⟩
       have HG:=zl A' w (g.β s) (xs.map a.eval) arr T fr g.hw fp hA' jJ qM (Gb (k:=Bq cs) hc.1 eK rfl rfl rfl) hn uz gW EO (Np hg s (λb o h=>h) xs hc.2);have arY:a.eval x0=.pointer (some ⟨g.β s,0,none⟩):=sU;have ahI:(Value.pointer (some ⟨g.β s,0,none⟩)::xs.map a.eval).toArray=args.map a.eval:=by apply eQ;simp[fM,arY]
       rw[ahI]at HG;have ec:(execOp a.eval o').run P w=.ok (.enter k (args.map a.eval)) w:=by simp[execOp,ho,resolve,HI,Deferred.ofValue,invoke,callFunc,RY,RU];simpa using zP
       unfold Oper.wp;rw[ec,Oper.upon_enter];refine HG.mono ?_;rintro e w' ⟨v,hw',fv,iJ,T',MZ,jI,rfl,M8,Fb,R8,uA,BB,Fe,GF,hnv,abA,jf⟩;show next (a.put o'.dst v) w'
       have tail:∀(st1:AS)(g':Gh),dP C g' st1 a w' []->(∀b∈fv,g'.ef b=some (.hand 0)/\g'.hw b=hw' b)->(∀b,b<w.heap.size->g.ef b≠some (.box s)->g'.hw b=g.hw b)->
        K ((st1.fi o'.dst).put o'.dst (((Γ k).av y).Br st1.ep (st1.gR o'.dst)))=some r->next (a.put o'.dst v) w':=by
        intro st1 g' mX hlv hold hk
        have hAS:∀(hd:Nat->Value)(q:Bool)(b o:Nat),A' q b o->(cG C {g' with hdr:=hd} (st1.fi o'.dst) w').S b o:=by intro hd q b o hq;cases q with|true=>exact .inl ⟨_,hq⟩|false=>rcases hq.1 with hs|hs;exact .inl hs;exact .inr (by show o<g'.hw b;rw[hold b hq.2.1 hq.2.2];exact hs)
        have aby:∀b∈fv,g'.hw b=hw' b:=λb hb=>(hlv b hb).2
        have uA:∃hd,(∀t,lT st1 t->hd t=g'.hdr t)/\fR (cG C {g' with hdr:=hd} (st1.fi o'.dst) w') v (((Γ k).av y).Br st1.ep (st1.gR o'.dst)) fv:=by
         generalize (Γ k).av y=y at M8;cases y with
         |val gg cs=>obtain⟨vs,fE,hr⟩:=M8;refine⟨py g'.hdr (st1.gR o'.dst) vs,λt ht=>xY ht,vs,fE,?_⟩;have:=yz (c:=cG C {g' with hdr:=py g'.hdr (st1.gR o'.dst) vs} (st1.fi o'.dst) w') (mk:=st1.gR o'.dst) (hAS _) 0 hr aby (λi u hu t ht=>by rw[cp]at ht;exact⟨(oy ht).2.1,xX hu ht⟩);have wB:(cG C {g' with hdr:=py g'.hdr (st1.gR o'.dst) vs} (st1.fi o'.dst) w').ep=st1.ep:=xQ;rw[wB]at this;exact this
         |uw ts=>obtain⟨ws,hv,hr⟩:=M8;obtain⟨all,Ej⟩:=GQ hr;refine⟨py g'.hdr (st1.gR o'.dst) all,λt ht=>xY ht,ws,hv,?_⟩;have:=KK (c:=cG C {g' with hdr:=py g'.hdr (st1.gR o'.dst) all} (st1.fi o'.dst) w') (mk:=st1.gR o'.dst) (hAS _) Ej 0 aby (λi u hu t ht=>by rw[cp]at ht;exact⟨(oy ht).2.1,xX hu ht⟩);have wB:(cG C {g' with hdr:=py g'.hdr (st1.gR o'.dst) all} (st1.fi o'.dst) w').ep=st1.ep:=xQ;rw[wB]at this;exact this
        obtain⟨hd,hhd,uA⟩:=uA
        obtain⟨g2,Ek⟩:=mX.K7 o'.dst (hw':=g'.hw) (hdr':=hd) (fp:=fv) (st1:=st1.fi o'.dst) FD sP yB xQ (λt ht=>⟨AN ht,hhd t ht⟩)
         (Fr.refl _ _) (λ_ _ _ _=>rfl) (λ_ _ _ ho hu=>⟨ho,hu⟩) uA hnv (λb hb=>⟨(abA b hb).1,.inl (by rw[(hlv b hb).1];rfl)⟩)
        exact gy _ _ _ ⟨g2,Ek⟩ hk
       cases hcur:((Γ k).cur&&cs.all AC.EV)with
       |false=>rw[hcur]at hk;obtain⟨g',mX,hlv,hold⟩:=ph w' hw' iJ T' MZ ((Γ k).back y) jI fv A' (Bq cs) jf Fb R8 rfl uA UP.1 BB Fe GF abA;exact tail _ g' mX hlv hold hk
       |true=>rw[hcur]at hk;simp only[ae]at hcur;have ahM:fp=[]:=N8 eK hcur.2;subst ahM;obtain⟨g',mX,hlv,hold⟩:=hg.aa2 s hb hcur.2 w' hw' iJ T' MZ ((Γ k).back y) jI fv A' (Bq cs) ⟨jf.os,jf.tape,jf.output,jf.size,λb hb hm=>jf.block b hb (λhh=>hm (hh.resolve_right (by simp)))⟩ Fb R8 rfl uA UP.1 BB Fe (λb hb=>⟨(GF b hb).1,(GF b hb).2.resolve_left (by simp)⟩) (λb hb=>⟨(abA b hb).1,(abA b hb).2.1.resolve_left (by simp),(abA b hb).2.2⟩);exact tail _ g' mX hlv hold hk
   cases hk
  cases hk
 cases hk
theorem arg_val (hA:c'.A=c.A)(hw:c'.w=c.w){x:AV}(h:fR c v x fp)(hx:x.Gt=true):fp=[]/\fR c' v x []:=by
 cases x with
 |uw _=>cases hx
 |val g cs=>
  obtain⟨vs,fE,h⟩:=h
  have key:∀(cs:aw AC)(vs:ir)(fp:fg),bE c vs cs fp->cs.all AC.Gt=true->fp=[]/\bE c' vs cs []:=by
   intro cs
   induction cs with
   |nil=>intro vs fp h _;cases vs with
    |nil=>exact⟨h,rfl⟩
    |cons _ _=>exact h.elim
   |cons x cs ih=>
    intro vs fp h hx
    cases vs with
    |nil=>exact h.elim
    |cons v vs=>
     obtain⟨f1,f2,rfl,h1,h2⟩:=h
     simp only[cc,ae]at hx
     obtain⟨rfl,k2⟩:=ih vs f2 h2 hx.2
     have hx:=hx.1
     have one:f1=[]/\gB c' v x []:=by
      cases x with
      |sl fl e xs=>cases fl with|arg k=>exact⟨h1.1,rfl,by rw[hA,hw];exact h1.2⟩|own _=>cases hx|loc _ _=>cases hx|nest _ _ _ _ _ _=>cases hx|part _ _ _ _=>cases hx|fa _ _ _=>cases hx
      |int _ _=>exact pU h1 rfl
      |bool _=>exact pU h1 rfl
      |str _=>exact pU h1 rfl
      |fn _=>exact pU h1 rfl
      |jn=>cases hx
      |ptr _ _=>cases hx
      |zk _ _ _ _ _=>cases hx
      |un=>cases hx
      |bot=>cases hx
     obtain⟨rfl,k1⟩:=one
     exact⟨rfl,[],[],rfl,k1,k2⟩
  obtain⟨e,k⟩:=key cs vs fp h hx;exact⟨e,vs,fE,k⟩
theorem QN (h:dP C g st a w []):∀(xs:aw Operand),xs.all (λx=>(st.rd x).Gt)=true->oH C.A w (xs.map a.eval) (xs.map st.rd)
 |[],_=>trivial
 |x::xs,hf=>by simp only[cc,ae]at hf;exact⟨(arg_val (c:=cG C g st w) (c':=fD C.A (λ_=>0) w) rfl rfl (h.rd x) hf.1).2,QN h xs hf.2⟩
theorem ajt (yu:∀f,gY P f (Γ f)){o':Oper}(ho:o'.op=.call {callee:=.value f,args,argTypes:=ts})(hg:dP C g st a w []){k:Nat}(hf:st.rd f=.val false [.fn k])(YD:(Γ k).pr=true){K:AS->ax R}(hk:ZL Γ o' k args.toList st K=some r)(next:Act->World->Prop)(Q:Exit->Act->World->Prop)(gy:∀bK a' w',mZ C bK a' w'->K bK=some r->next a' w'):o'.wp P a w next Q:=by
 have HI:=hg.rd f;rw[hf]at HI;have HI:=(ej HI).1;unfold ZL at hk;split at hk
 ·rename_i d hd;split at hk
  ·rename_i EN;cases hc:args.toList.all (λx=>(st.rd x).Gt)with
   |false=>rw[hc]at hk;cases hk
   |true=>
    rw[hc]at hk;simp only[ah]at hk;cases gz:(Γ k).fn (args.toList.map st.rd)with
    |none=>rw[gz]at hk;cases hk
    |some y=>
     rw[gz]at hk;simp only[aa]at hk;cases UP:((Γ k).back y).all AC.Gt with
     |false=>rw[UP]at hk;cases hk
     |true=>
      rw[UP]at hk;simp only[ah]at hk;obtain⟨⟨fn,c,RY,RU,zP⟩,_,_,_,zl⟩:=yu k _ y gz;have HG:=zl YD C.A w (args.toList.map a.eval) (λq b o hq=>Nat.lt_of_lt_of_le (C.hA q b o hq).1 hg.frame.size) (QN hg _ hc);have fM:(args.toList.map a.eval).toArray=args.map a.eval:=by apply eQ;simp
      rw[fM]at HG;have ec:(execOp a.eval o').run P w=.ok (.enter k (args.map a.eval)) w:=by simp[execOp,ho,resolve,HI,Deferred.ofValue,invoke,callFunc,RY,RU];simpa using zP
      unfold Oper.wp;rw[ec,Oper.upon_enter];refine HG.mono ?_;rintro e w' ⟨b,arr,T,fr,hw,rfl,hb,jJ,qM,eK,jf⟩;show next (a.put o'.dst (.pointer (some ⟨b,0,none⟩))) w'
      rw[dI]at EN;have DD:=lp jJ;have Az:∀b' x,g.ef b'=some x->b'≠b:=λb' x hx e=>by have:=(hg.fS b' x hx).1;omega
      have hr1:bE ⟨λb'=>if b'=b then 0 else g.hw b',λt=>if t=d then b else g.β t,C.A,g.hdr,lT st,st.ep,iR st,w'⟩ arr.toList ((Γ k).back y) []:=by
       have hv:fR (fD C.A hw w') (.agg arr.toList.toArray) (.val true ((Γ k).back y)) []:=⟨arr.toList,rfl,eK⟩
       obtain⟨_,vs,fE,h⟩:=arg_val (c:=fD C.A hw w') (c':=⟨λb'=>if b'=b then 0 else g.hw b',λt=>if t=d then b else g.β t,C.A,g.hdr,lT st,st.ep,iR st,w'⟩) rfl rfl hv UP;have:arr.toList=vs:=by have fE:Value.agg arr.toList.toArray=.agg vs.toArray:=fE;simp only[Value.agg.injEq]at fE;simpa using congrArg Array.toList fE
       rw[this];exact h
      obtain⟨g',GI,h'⟩:=hg.Uk d (cs:=(Γ k).back y) (arr:=arr) (T:=T) (fr:=fr) (fp:=[]) (w':=w') (bnew:=b) (hw':=λb'=>if b'=b then 0 else g.hw b') (.inr ⟨hb,EN⟩) ⟨jf.os,jf.tape,jf.output,jf.size,λb' gM _=>jf.block b' gM (λm=>m)⟩ jJ qM DD (by simp) (λb' x hx _ hn=>by simp[hn]) (λb' o u ho hu=>by have gM:b'<w.heap.size:=World.block_lt_of_cell? w _ hu;exact⟨by simp[show b'≠b by omega];exact ho,xC jf hu⟩) hr1 List.nodup_nil (by simp) (λb' gM=>by cases gM);have hdl:d<st.boxes.length:=(aG.1 EN).1;have hq:=h'.quiet (some d) (v:=.pointer (some ⟨b,0,none⟩)) (av:=.one (.ptr d 0)) (lK ⟨by simp[cG,GI],⟨(Γ k).back y,by rw[jH];simp[hdl]⟩,rfl⟩);rw[hd];exact gy _ _ _ ⟨g',hq⟩ hk
  cases hk
 cases hk
theorem aeC (yu:∀f,gY P f (Γ f)){o':Oper}(ho:o'.op=.call {callee:=.value f,args,argTypes:=ts})(h:mZ C st a w){K:AS->ax R}(hk:Bt Γ o' f args.toList st K=some r)(next:Act->World->Prop)(Q:Exit->Act->World->Prop)(gy:∀bK a' w',mZ C bK a' w'->K bK=some r->next a' w'):o'.wp P a w next Q:=by
 obtain⟨g,hg⟩:=h;unfold Bt at hk;split at hk
 ·rename_i k hf
  have HI:=hg.rd f
  rw[hf]at HI
  have HI:=(ej HI).1
  cases jt:(Γ k).bx with
  |true=>rw[jt]at hk;exact ahk yu ho hg hf jt hk next Q gy
  |false=>
  rw[jt]at hk
  simp only[af]at hk
  cases YD:(Γ k).pr with
  |true=>rw[YD]at hk;exact ajt yu ho hg hf YD hk next Q gy
  |false=>
  rw[YD]at hk
  simp only[af]at hk
  cases L7:(Γ k).io with
  |true=>rw[L7]at hk;cases hk
  |false=>
  rw[L7]at hk
  simp only[af]at hk
  cases gz:(Γ k).fn (args.toList.map λx=>((st.rd x).fresh st).asArg st.ep)with
  |none=>rw[gz]at hk;cases hk
  |some y0=>
   rw[gz]at hk
   simp only[aa]at hk
   obtain⟨⟨fn,c,RY,RU,zP⟩,zl,_⟩:=yu k _ y0 gz
   have zl:=zl L7 jt
   have hk:K ((st.fi o'.dst).put o'.dst (((Γ k).res y0).Br st.ep (st.gR o'.dst)))=some r:=by unfold bg.res;cases Ma:(Γ k).sel y0 with|true=>rw[Ma]at hk;exact hk|false=>rw[Ma]at hk;exact hk
   generalize hy0:(Γ k).res y0=y at hk zl
   have HG:=zl (λ_ b o=>(cG C g st w).S b o/\b<w.heap.size) w (args.toList.map a.eval) (λ_ _ _ h=>h.2) (QO hg args.toList)
   have fM:(args.toList.map a.eval).toArray=args.map a.eval:=by apply eQ;simp
   rw[fM]at HG
   have ec:(execOp a.eval o').run P w=.ok (.enter k (args.map a.eval)) w:=by simp[execOp,ho,resolve,HI,Deferred.ofValue,invoke,callFunc,RY,RU];simpa using zP
   unfold Oper.wp
   rw[ec,Oper.upon_enter]
   refine HG.mono ?_
   rintro e w' ⟨v,hw,fp,rfl,eK,C7,Bw,jf⟩
   show next (a.put o'.dst v) w'
   let hw':Nat->Nat:=λb=>if b∈fp then hw b else g.hw b
   have UT:∀b,b<w.heap.size->b∉fp:=λb hb hm=>by have:=(Bw b hm).1;omega
   have hA':∀(hd:Nat->Value)(_:Bool)(b o:Nat),((cG C g st w).S b o/\b<w.heap.size)->(cG C {g with hw:=hw',hdr:=hd} (st.fi o'.dst) w').S b o:=by rintro hd _ b o ⟨hs,hb⟩;rcases hs with hs|hs;exact .inl hs;exact .inr (by simp only[cG,hw',aH (UT b hb)];exact hs)
   have uA:∃hd,(∀t,lT st t->hd t=g.hdr t)/\fR (cG C {g with hw:=hw',hdr:=hd} (st.fi o'.dst) w') v (y.Br st.ep (st.gR o'.dst)) fp:=by
    have aby:∀b∈fp,hw' b=hw b:=λb hb=>by simp[hw',hb]
    cases y with
    |val gg cs=>obtain⟨vs,fE,hr⟩:=eK;refine⟨py g.hdr (st.gR o'.dst) vs,λt ht=>xY ht,vs,fE,?_⟩;have:=yz (c:=cG C {g with hw:=hw',hdr:=py g.hdr (st.gR o'.dst) vs} (st.fi o'.dst) w') (mk:=st.gR o'.dst) (hA' _) 0 hr aby (λi u hu t ht=>by rw[cp]at ht;exact⟨(oy ht).2.1,xX hu ht⟩);have wB:(cG C {g with hw:=hw',hdr:=py g.hdr (st.gR o'.dst) vs} (st.fi o'.dst) w').ep=st.ep:=xQ;rw[wB]at this;exact this
    |uw ts=>obtain⟨ws,hv,hr⟩:=eK;obtain⟨all,Ej⟩:=GQ hr;refine⟨py g.hdr (st.gR o'.dst) all,λt ht=>xY ht,ws,hv,?_⟩;have:=KK (c:=cG C {g with hw:=hw',hdr:=py g.hdr (st.gR o'.dst) all} (st.fi o'.dst) w') (mk:=st.gR o'.dst) (hA' _) Ej 0 aby (λi u hu t ht=>by rw[cp]at ht;exact⟨(oy ht).2.1,xX hu ht⟩);have wB:(cG C {g with hw:=hw',hdr:=py g.hdr (st.gR o'.dst) all} (st.fi o'.dst) w').ep=st.ep:=xQ;rw[wB]at this;exact this
   obtain⟨hd,hhd,uA⟩:=uA
   obtain⟨g',mX⟩:=hg.K7 o'.dst (hw':=hw') (hdr':=hd) (fp:=fp) (st1:=st.fi o'.dst) FD sP yB xQ (λt ht=>⟨AN ht,hhd t ht⟩)
    ⟨jf.os,jf.tape,jf.output,jf.size,λb hb _=>jf.block b hb (λm=>m)⟩ (λb x hx _=>by simp[hw',UT b (hg.fS b x hx).1])
    (λb o u ho hu=>by have hb:b<w.heap.size:=World.block_lt_of_cell? w _ hu;exact⟨by simp[hw',UT b hb];exact ho,xC jf hu⟩) uA C7 (λb hb=>⟨(Bw b hb).2,.inr (Bw b hb).1⟩)
   exact gy _ _ _ ⟨g',mX⟩ hk
 cases hk
end Go.Dn
