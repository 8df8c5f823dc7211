import Derived.Test.YtbebkmajekhclaaGreatDnOps8
/- A call by value: what a callee promises, and what the caller makes of it. -/
namespace Go.Dn
open Go.RowKit
variable {P:Program} {C:Ctx} {st:AS} {a:Act} {w:World} {R:Type} {r:R}
variable {x:AC} {args:Array Operand} {ts:Array TypeId} {Γ:Cn} {g:Gh} {hw:Nat->Nat} {hdr:Nat->Value} {f:Operand} {c c':RC} {v:Value} {cs:aw AC} {d:aB Nat} {fp:fM} {all:jJ}
def gU (A:Rg)(hw:Nat->Nat)(w:World):RC:=⟨hw,λ_=>0,A,λ_=>undef,λ_=>False,0,λ_=>False,w⟩
def rY (A:Rg)(w:World):jJ->aw AV->Prop
 |[],[]=>True
 |v::vs,x::xs=>il (gU A (λ_=>0) w) v x []/\rY A w vs xs
 |_,_=>False
def awQ (P:Program)(f:Nat)(F:lK)(y:F.R)(g:Bool)(cs:aw AC)(rest:aw AV):Prop:=
 ∀(A:Rg)(w:World)(v0:Value)(vs:jJ)(hw:Nat->Nat)(fp:fM),(∀k b o,A k b o->b<w.heap.size/\b∉fp)->il (gU A hw w) v0 (.val g cs) fp->fp.Nodup->(∀b∈fp,b<w.heap.size)->rY A w vs rest->
  Calls P f (v0::vs).toArray w λe w'=>∃v hw' fr lO,e=.returned v/\il (gU A hw' w') v (F.av y) fr/\il (gU A hw' w') v0 (.val g (F.back y)) lO/\lO.Nodup/\
   (∀b∈lO,b<w'.heap.size/\(b∈fp\/w.heap.size<=b))/\Fr (λb=>b∈fp) w w'
def ar1 (P:Program)(f:Nat)(F:lK)(y:F.R)(cs:aw AC)(rest:aw AV):Prop:=
 ∀(A:Rg)(w:World)(b:Nat)(vs:jJ)(arr:Array Value)(T:TypeId)(fr:Nat×Nat)(hw:Nat->Nat)(fp:fM),(∀k b' o,A k b' o->b'<w.heap.size/\b'≠b/\b'∉fp)->
  w.heap[b]?=some (.cells arr T fr)->rU arr fr->bV (gU A hw w) arr.toList cs fp->fp.Nodup->b∉fp->(∀b'∈fp,b'<w.heap.size)->hw b=0->rY A w vs rest->
  Calls P f (.pointer (some ⟨b,0,none⟩)::vs).toArray w λe w'=>∃v hw' fv jX T' Ny lO,e=.returned v/\il (gU A hw' w') v (F.av y) fv/\w'.heap[b]?=some (.cells jX T' Ny)/\rU jX Ny/\
   bV (gU A hw' w') jX.toList (F.back y) lO/\lO.Nodup/\b∉lO/\(∀b'∈lO,b'<w'.heap.size/\(b'∈fp\/w.heap.size<=b'))/\fv.Nodup/\(∀b'∈fv,b'<w'.heap.size/\(b'∈fp\/w.heap.size<=b')/\b'∉lO/\b'≠b)/\Fr (λb'=>b'=b\/b'∈fp) w w'
def aoF (P:Program)(f:Nat)(F:lK)(y:F.R)(xs:aw AV):Prop:=
 ∀(A:Rg)(w:World)(vs:jJ),(∀k b o,A k b o->b<w.heap.size)->rY A w vs xs->
  Calls P f vs.toArray w λe w'=>∃b arr T fr hw,e=.returned (.pointer (some ⟨b,0,none⟩))/\w.heap.size<=b/\w'.heap[b]?=some (.cells arr T fr)/\rU arr fr/\bV (gU A hw w') arr.toList (F.back y) []/\Fr (λ_=>False) w w'
def jl (P:Program)(f:Nat)(F:lK):Prop:=
 ∀(xs:aw AV)(y:F.R),F.fn xs=some y->
  (∃fn c,P.funcs[f]?=some fn/\fn.body=some c/\(fn.name== "runtime.NumGoroutine")=false)/\
  (F.io=false->F.bx=false->∀(A:Rg)(w:World)(vs:jJ),(∀k b o,A k b o->b<w.heap.size)->rY A w vs xs->
    Calls P f vs.toArray w λe w'=>∃v hw fp,e=.returned v/\il (gU A hw w') v (F.res y) fp/\fp.Nodup/\(∀b∈fp,w.heap.size<=b/\b<w'.heap.size)/\Fr (λ_=>False) w w')/\
  (F.io=true->∀g cs rest,xs=.val g cs::rest->awQ P f F y g cs rest)/\
  (F.bx=true->∀cs rest,xs=.val true cs::rest->ar1 P f F y cs rest)/\
  (F.pr=true->aoF P f F y xs)
theorem tS (h:iV c v x fp)(hf:x.kL=true):fp=[]/\iV c' v x []:=by cases x with|int k n=>exact⟨h.2,h.1,rfl⟩|bool b=>exact⟨h.2,h.1,rfl⟩|str s=>exact⟨h.2,h.1,rfl⟩|fn f=>exact⟨h.2,h.1,rfl⟩|_=>cases hf
theorem Js {c':RC}:∀{vs:jJ}{xs:aw AC}{fp:fM},bV c vs xs fp->xs.all AC.kL=true->fp=[]/\bV c' vs xs []
 |[],[],_,h,_=>⟨h,rfl⟩
 |_::_,_::_,_,h,hf=>by obtain⟨f1,f2,rfl,h1,h2⟩:=h;simp only[cz,ae]at hf;obtain⟨rfl,k1⟩:=tS (c':=c') h1 hf.1;obtain⟨rfl,k2⟩:=Js (c':=c') h2 hf.2;exact⟨rfl,[],[],rfl,k1,k2⟩
 |[],_::_,_,h,_=>h.elim
 |_::_,[],_,h,_=>h.elim
theorem YK:∀{ws:jJ}{ts:aw (Bool×aw AC)}{fp:fM},il.sQ c ws ts fp->(ts.all λx=>x.2.all AC.kL)=true->il.sQ c' ws ts []
 |[],[],_,_,_=>rfl
 |_::_,_::_,_,h,hf=>by obtain⟨f1,f2,rfl,⟨vs,hv,h1⟩,h2⟩:=h;simp only[cz,ae]at hf;exact⟨[],[],rfl,⟨vs,hv,(Js h1 hf.1).2⟩,YK h2 hf.2⟩
 |[],_::_,_,h,_=>h.elim
 |_::_,[],_,h,_=>h.elim
theorem Qp {x:AV}(h:il c v x fp)(hf:x.kL=true):il c' v x []:=by
 cases x with
 |val g cs=>obtain⟨vs,hv,h⟩:=h;exact⟨vs,hv,(Js h hf).2⟩
 |yE ts=>obtain⟨ws,hv,h⟩:=h;exact⟨ws,hv,YK h hf⟩
theorem aei {A:Rg}:∀(os ss:aw AC){r:aw AC}{vs us:jJ}{f:fM},pL os ss=some r->bV c vs os []->bV c us ss f->bV (gU A c.hw c.w) vs r f:=by
 intro os;induction os with
 |nil=>intro ss r vs us f h hv hu;cases ss with|cons _ _=>simp[pL]at h|nil=>simp[pL]at h;subst h;cases vs with|cons _ _=>exact hv.elim|nil=>cases us with|cons _ _=>exact hu.elim|nil=>exact hu
 |cons o os ih=>
  intro ss r vs us f h hv hu;cases vs with
  |nil=>exact hv.elim
  |cons v vs=>
   cases ss with
   |nil=>unfold pL at h;split at h<;>first|contradiction|cases h
   |cons s ss=>
    cases us with
    |nil=>exact hu.elim
    |cons u us=>
     obtain⟨g1,g2,hg,hv1,WR⟩:=hv;have e1:g1=[]:=by have:=hg.symm;simp at this;exact this.1
     have e2:g2=[]:=by have:=hg.symm;simp at this;exact this.2
     subst e1;subst e2;obtain⟨f1,f2,rfl,hu1,hu2⟩:=hu;have fl:∀{x:AC}{r'},x.kL=true->s.kL=true->o=x->pL os ss=some r'->r=x::r'->bV (gU A c.hw c.w) (v::vs) r (f1++f2):=by rintro x r' hx hs rfl hr rfl;obtain⟨rfl,_⟩:=tS (c':=c) hu1 hs;exact⟨[],f2,rfl,(tS hv1 hx).2,ih ss hr WR hu2⟩
     unfold pL at h;split at h;contradiction;rename_i ep rt t e0 xs0 os' t' e xs ss' h1 h2;injection h1 with h1 SH;subst h1;subst SH;injection h2 with h2 XU;subst h2;subst XU;cases ht:(t'==t)with
     |false=>rw[ht]at h;cases h
     |true=>
      have:t'=t:=by simpa using ht
      subst this;rw[ht]at h;simp only[ah]at h;obtain⟨r',hr,h⟩:=ba.1 h;cases h;have S9:=(hv1.2.2.2.2 rt t' rfl).2;have WQ:=(hu1.2 t' rfl).2;have huv:u=v:=WQ.trans S9.symm;subst huv;exact⟨f1,f2,rfl,⟨hu1.1,by simp⟩,ih _ hr WR hu2⟩
     rename_i k n os' k' n' ss' h1 h2;injection h1 with h1 SH;subst SH;injection h2 with h2 XU;subst h2;subst XU;obtain⟨r',hr,h⟩:=ba.1 h;cases h;exact fl (x:=.int k n) rfl rfl h1 hr rfl;rename_i k os' k' ss' h1 h2;injection h1 with h1 SH;subst SH;injection h2 with h2 XU;subst h2;subst XU;obtain⟨r',hr,h⟩:=ba.1 h;cases h;exact fl (x:=.bool k) rfl rfl h1 hr rfl;rename_i k os' k' ss' h1 h2;injection h1 with h1 SH;subst SH;injection h2 with h2 XU;subst h2;subst XU;obtain⟨r',hr,h⟩:=ba.1 h;cases h;exact fl (x:=.str k) rfl rfl h1 hr rfl;cases h
theorem abI (h:iV c v x fp):iV (gU (λ_ b o=>c.S b o/\b<c.w.heap.size) (λ_=>0) c.w) v (x.asArg c.ep) []:=by
 have hS:∀{e:CT}{xs:aw e.D},ky c.w c.S (.sl e) [v] xs->ky c.w (λb o=>c.S b o/\b<c.w.heap.size) (.sl e) [v] xs:=λhr=>
  ky.mono (λb o u hs hu=>⟨⟨hs,World.block_lt_of_cell? c.w _ hu⟩,hu⟩) hr
 cases x with|int k n=>exact⟨h.1,rfl⟩|bool b=>exact⟨h.1,rfl⟩|str s=>exact⟨h.1,rfl⟩|kY=>exact⟨h.1,rfl⟩|fn f=>exact⟨h.1,rfl⟩|ptr s off=>exact rfl|un=>exact rfl|bot=>exact rfl|D3 fl e y i off=>exact rfl|sl fl e xs=>cases fl with|nest _ _ _ _ _ _=>exact rfl|part _ _ _ _=>exact rfl|gB _ _ _=>exact rfl|own t=>exact⟨rfl,hS (gA.rep (λb o ho=> .inr ho) h.1)⟩|arg k=>exact⟨rfl,hS (ky.mono (λb o u hs hu=>⟨.inl ⟨k,hs⟩,hu⟩) h.2)⟩|loc ep pv=>simp only[AC.asArg];split;rename_i he;exact⟨rfl,hS (h.2.2.2.1 (by simpa using he))⟩;exact rfl
theorem Nl:∀{vs:jJ}{xs:aw AC}{fp:fM},bV c vs xs fp->bV (gU (λ_ b o=>c.S b o/\b<c.w.heap.size) (λ_=>0) c.w) vs (xs.map (AC.asArg c.ep)) []
 |[],[],_,_=>rfl
 |_::_,_::_,_,h=>by obtain⟨f1,f2,rfl,h1,h2⟩:=h;exact⟨[],[],rfl,abI h1,Nl h2⟩
 |[],_::_,_,h=>h.elim
 |_::_,[],_,h=>h.elim
theorem agp {x:AV}(h:il c v x fp):il (gU (λ_ b o=>c.S b o/\b<c.w.heap.size) (λ_=>0) c.w) v (x.asArg c.ep) []:=by
 cases x with
 |val g cs=>obtain⟨vs,hv,h⟩:=h;exact⟨vs,hv,Nl h⟩
 |yE ts=>exact il.bot _ _
theorem X8 (h:fb C g st a w []):∀(args:aw Operand),
 rY (λ_ b o=>(dz C g st w).S b o/\b<w.heap.size) w (args.map a.eval) (args.map λx=>((st.rd x).fresh st).asArg st.ep)
 |[]=>trivial
 |x::xs=>⟨agp (c:=dz C g st w) (h.fresh (h.rd x)),X8 h xs⟩
theorem abJ {A':Rg}{tag:aB Nat}(h:iV (gU A' hw c.w) v x fp)(hA:∀k b o,A' k b o->c.S b o)(HY:∀b∈fp,c.hw b=hw b)(ht:∀t,tag=some t->c.iss t/\v=c.hdr t):iV c v (x.FZ c.ep tag) fp:=by
 cases x with
 |int k n=>exact h
 |bool b=>exact h
 |str s=>exact h
 |kY=>exact h
 |fn f=>exact h
 |ptr s off=>exact h.2.2
 |un=>exact h
 |bot=>exact h
 |D3 fl e y i off=>cases fl with|own t=>exact h.elim|nest _ _ _ _ _ _=>exact h.elim|part _ _ _ _=>exact h.elim|gB _ _ _=>exact h.elim|arg _=>exact h.1|loc ep pv=>exact h.1
 |sl fl e xs=>
  cases fl with
  |nest _ _ _ _ _ _=>exact h.1
  |part _ _ _ _=>exact h.1
  |gB _ _ _=>obtain⟨_,⟨k,hk,h3⟩,_⟩:=h;exact⟨λq hq=>(by cases hq),⟨k,hk,h3.mono (λb hb=>⟨rfl,HY b hb⟩)⟩,by simp⟩
  |own t=>exact⟨gA.mono h.1 (λb hb=>⟨rfl,HY b hb⟩),ht⟩
  |loc ep pv=>exact h.1
  |arg _=>have hr:ky c.w c.S (.sl e) [v] xs:=ky.mono (λb o u hs hu=>⟨hA _ b o hs,hu⟩) h.2;refine⟨h.1,bc _,?_,λ_=>hr,by simp⟩;obtain⟨u,hu,k⟩:=hr;simp at hu;subst hu;rcases k with⟨⟨ad,rfl⟩,rfl⟩|⟨b,o,cap,rfl,_⟩;exact⟨_,_,_,rfl,rfl⟩;exact⟨_,_,_,rfl,rfl⟩
theorem Dl {A':Rg}{mk:Nat->aB Nat}(hA:∀k b o,A' k b o->c.S b o):∀{vs:jJ}{xs:aw AC}{fp:fM}(j:Nat),bV (gU A' hw c.w) vs xs fp->(∀b∈fp,c.hw b=hw b)->
 (∀i v,vs[i]?=some v->∀t,mk (j+i)=some t->c.iss t/\v=c.hdr t)->bV c vs (Lu c.ep mk j xs) fp
 |[],[],_,_,h,_,_=>h
 |v::_,_::_,_,j,h,hh,hm=>by obtain⟨f1,f2,rfl,h1,h2⟩:=h;exact⟨f1,f2,rfl,abJ h1 hA (λb hb=>hh b (bH _ hb)) (λt ht=>hm 0 v rfl t ht),Dl hA (j+1) h2 (λb hb=>hh b (bz _ hb)) (λi u hu t ht=>hm (i+1) u (by simpa using hu) t (by rwa[show j+(i+1)=j+1+i by omega]))⟩
 |[],_::_,_,_,h,_,_=>h.elim
 |_::_,[],_,_,h,_,_=>h.elim
inductive Leaves (A:Rg) (hw:Nat->Nat) (w:World):List Value->List (Bool×List AC)->List Nat->List Value->Prop
 |nil:Leaves A hw w [] [] [] []
 |cons {v:Value} {vs:List Value} {g:Bool} {cs:List AC} {ts:List (Bool×List AC)} {f1 f2:List Nat} {us all:List Value} (gD:Cut g v us) (hr:bV (gU A hw w) us cs f1) (h:Leaves A hw w vs ts f2 all):
  Leaves A hw w (v::vs) ((g,cs)::ts) (f1++f2) (us++all)
theorem MC {A:Rg}{w:World}:∀{ws:jJ}{ts:aw (Bool×aw AC)}{fp:fM},il.sQ (gU A hw w) ws ts fp->∃all,Leaves A hw w ws ts fp all
 |[],[],_,h=>by cases h;exact⟨[],.nil⟩
 |_::_,(g,cs)::_,_,h=>by obtain⟨f1,f2,rfl,⟨us,gD,hr⟩,h2⟩:=h;obtain⟨all,AX⟩:=MC h2;exact⟨us++all,.cons gD hr AX⟩
 |[],_::_,_,h=>h.elim
 |_::_,[],_,h=>h.elim
theorem Rh {A':Rg}{mk:Nat->aB Nat}(hA:∀k b o,A' k b o->c.S b o){ws:jJ}{ts:aw (Bool×aw AC)}(h:Leaves A' hw c.w ws ts fp all): ∀j,(∀b∈fp,c.hw b=hw b)->(∀i v,all[i]?=some v->∀t,mk (j+i)=some t->c.iss t/\v=c.hdr t)->il.sQ c ws (aee c.ep mk j ts) fp:=by induction h with|nil=>intro j _ _;exact rfl| @cons v vs g cs ts f1 f2 us all gD hr h ih=>intro j hh hm;have hl:=hr.length;refine⟨f1,f2,rfl,⟨us,gD,Dl hA j hr (λb hb=>hh b (bH _ hb)) (λi u hu t ht=>?_)⟩,ih _ (λb hb=>hh b (bz _ hb)) (λi u hu t ht=>?_)⟩;exact hm i u (by rw[bp (ay.1 hu).1];exact hu) t ht;have hl':us.length=cs.length:=hl;refine hm (us.length+i) u (by rw[bw (by omega)];simpa using hu) t ?_;rw[<-gv,hl'];exact ht
def sY (hdr:Nat->Value)(mk:Nat->aB Nat)(all:jJ):Nat->Value:=λu=>if mk (u/3%4096)=some u then(all[u/3%4096]?).getD undef else hdr u
theorem CC {t:Nat}(h:oA st t):sY hdr (st.jm d) all t=hdr t:=by unfold sY;rw[aG];intro e;exact(rH e).1 h
theorem CB {i t:Nat}(hv:all[i]?=some v)(h:st.jm d i=some t):v=sY hdr (st.jm d) all t:=by
 obtain⟨_,_,d',rfl,ht,hi⟩:=rH h;have anz:t/3%4096=i:=by rw[ht,LI];omega
 unfold sY;rw[anz,aH h,hv];rfl
theorem aes {vs us:jJ}{seg:aw AC}{f1 f2 f3:fM}{off n:Nat}(hus:us=(vs.drop off).take n)(hln:us.length=n)(r1:bV c' (vs.take off) (cs.take off) f1)(r2:bV c' us seg f2)(r3:bV c' (vs.drop (off+n)) (cs.drop (off+n)) f3): bV c' vs (fu cs off seg) (f1++f2++f3):=by
 have Cg:=r2.length;have e:vs=vs.take off++us++vs.drop (off+n):=by rw[hus,aR,<-fP,cR,cR]
 rw[e,fu,show seg.length=n by omega];exact bV.append (bV.append r1 r2) r3
theorem Ts:∀(os ss:aw AC){r:aw AC},pL os ss=some r->ss.length=os.length:=by
 intro os
 induction os with
 |nil=>intro ss r h;cases ss with
  |nil=>rfl
  |cons _ _=>simp[pL]at h
 |cons o os ih=>
  intro ss r h
  cases ss with
  |nil=>unfold pL at h;split at h<;>first|contradiction|cases h
  |cons s ss=>
   unfold pL at h
   split at h
   ·contradiction
   ·rename_i h1 h2
    injection h1 with h1 SH;subst SH
    injection h2 with h2 XU;subst XU
    rw[Bool.cond_eq_ite]at h
    split at h
    ·obtain⟨r',hr,h⟩:=ba.1 h
     simp[ih _ hr]
    ·cases h
   all_goals first
    |cases h
    |(rename_i h1 h2
      injection h1 with h1 SH;subst SH
      injection h2 with h2 XU;subst XU
      obtain⟨r',hr,h⟩:=ba.1 h
      simp[ih _ hr])
theorem Jk {A':Rg}{mk:Nat->aB Nat}{k:Bool}(hA:A' true=c.A k):∀{vs:jJ}{xs:aw AC}{fp:fM}(j:Nat),bV (gU A' hw c.w) vs xs fp->xs.all (AC.Bi true)=true->
 (∀b∈fp,c.hw b=hw b)->(∀i v,vs[i]?=some v->∀t,mk (j+i)=some t->c.iss t/\v=c.hdr t)->bV c vs (rC k mk j xs) fp
 |[],[],_,_,h,_,_,_=>h
 |v::_,x::_,_,j,h,oz,hh,hm=>by
  obtain⟨f1,f2,rfl,h1,h2⟩:=h;simp only[cz,ae]at oz;refine⟨f1,f2,rfl,?_,Jk hA (j+1) h2 oz.2 (λb hb=>hh b (bz _ hb)) (λi u hu t ht=>hm (i+1) u (by simpa using hu) t (by rwa[show j+(i+1)=j+1+i by omega]))⟩;have HY:∀b∈f1,c.hw b=hw b:=λb hb=>hh b (bH _ hb);have ht:∀t,mk j=some t->c.iss t/\v=c.hdr t:=λt ht=>hm 0 v rfl t ht;have oz:=oz.1;cases x with
  |sl fl e xs=>
   cases fl with
   |own t=>exact⟨gA.mono h1.1 (λb hb=>⟨rfl,HY b hb⟩),ht⟩
   |arg k'=>
    have hk:k'=true:=by simpa[AC.Bi]using oz
    subst hk;exact⟨h1.1,by rw[<-hA];exact h1.2⟩
   |loc _ _=>cases oz
   |nest _ _ _ _ _ _=>cases oz
   |part _ _ _ _=>cases oz
   |gB _ _ _=>cases oz
  |int _ _=>exact h1
  |bool _=>exact h1
  |str _=>exact h1
  |fn _=>exact h1
  |kY=>cases oz
  |ptr _ _=>cases oz
  |D3 _ _ _ _ _=>cases oz
  |un=>cases oz
  |bot=>cases oz
 |[],_::_,_,_,h,_,_,_=>h.elim
 |_::_,[],_,_,h,_,_,_=>h.elim
theorem LM {A':Rg}{w:World}{k:Bool}:∀{cs:aw AC},cs.all (AC.Bi k)=true->∀{c:RC}{vs:jJ}{fp:fM},bV c vs cs fp->c.w=w->c.hw=hw->A' true=c.A k->bV (gU A' hw w) vs (cs.map AC.XL) fp
 |[],_,c,vs,fp,h,_,_,_=>by cases vs with|nil=>exact h|cons _ _=>exact h.elim
 |x::cs,oz,c,vs,fp,h,XV,It,hA=>by
  cases vs with
  |nil=>exact h.elim
  |cons v vs=>
   obtain⟨f1,f2,rfl,h1,h2⟩:=h;simp only[cz,ae]at oz;refine⟨f1,f2,rfl,?_,LM oz.2 h2 XV It hA⟩;have oz:=oz.1;cases x with
   |sl fl e xs=>
    cases fl with
    |own t=>exact⟨by have:=h1.1;rw[XV,It]at this;exact this,by simp⟩
    |arg k'=>
     have hk:k'=k:=by simpa[AC.Bi]using oz
     subst hk;exact⟨h1.1,by have:=h1.2;rw[XV,<-hA]at this;exact this⟩
    |loc _ _=>cases oz
    |nest _ _ _ _ _ _=>cases oz
    |part _ _ _ _=>cases oz
    |gB _ _ _=>cases oz
   |int _ _=>exact h1
   |bool _=>exact h1
   |str _=>exact h1
   |fn _=>exact h1
   |kY=>cases oz
   |ptr _ _=>cases oz
   |D3 _ _ _ _ _=>cases oz
   |un=>cases oz
   |bot=>cases oz
theorem UG (h:fb C g st a w [])(s:Nat){A':Rg}(hA:∀b o,(dz C g st w).S b o/\b<w.heap.size/\g.fE b≠some (.box s)->A' false b o):∀(xs:aw Operand),xs.all (EI st)=true->
 rY A' w (xs.map a.eval) (xs.map (DH st))
 |[],_=>trivial
 |x::xs,hx=>by
  simp only[cz,ae]at hx;refine⟨?_,UG h s hA xs hx.2⟩;have hx:=hx.1;cases x with
  |const _=>exact Qp (h.rd _) hx
  |func _=>exact Qp (h.rd _) hx
  |global _=>exact Qp (h.rd _) hx
  |tmp t=>
   have ja:∀(t0:Nat){e:CT}{v:Value}{xs:aw e.D}{fp:fM},gA g.hw w (.sl e) [v] xs fp->(∀b∈fp,g.fE b=some (.slot t0))->ky w (A' false) (.sl e) [v] xs:=by
    intro t0 e v xs fp h1 hl;have h3:gA (λb=>if b∈fp then g.hw b else 0) w (.sl e) [v] xs fp:=gA.mono h1 (λb hb=>⟨rfl,by simp[hb]⟩)
    exact gA.rep (λb o ho=>by
     by_cases hb:b∈fp;have ho:o<g.hw b:=by simpa[hb]using ho
     have Uj:=hl b hb;exact hA b o ⟨.inr ho,(h.im b _ Uj).1,by rw[Uj];simp⟩;simp[hb]at ho) h3
   obtain⟨fp,hr,hn,hl⟩:=h.slot t;simp only[EI]at hx;show il _ (a.tmps.getD t undef) (DH st (.tmp t)) _;simp only[DH];cases hv:st.get t with
   |yE _=>rw[hv]at hx;cases hx
   |val gg cs=>
    rw[hv]at hx hr;simp only at hx;obtain⟨vs,gD,hr⟩:=hr
    have key:∀(cs:aw AC)(vs:jJ)(fp:fM),(cs.map st.Te).all AC.L6=true->(∀b∈fp,g.fE b=some (.slot t))->bV (dz C g st w) vs cs fp->
     bV (gU A' (λ_=>0) w) vs (cs.map st.Te) []:=by
     intro cs
     induction cs with
     |nil=>intro vs fp _ _ h;cases vs with
      |nil=>rfl
      |cons _ _=>exact h.elim
     |cons c cs ih=>
      intro vs fp hc hl hr
      cases vs with
      |nil=>exact hr.elim
      |cons v vs=>
       obtain⟨f1,f2,rfl,h1,h2⟩:=hr
       simp only[dm,cz,ae]at hc
       refine⟨[],[],rfl,?_,ih vs f2 hc.2 (λb hb=>hl b (bz _ hb)) h2⟩
       have hc:=hc.1
       cases c with
       |sl fl e xs=>
        cases fl with
        |own tag=>exact⟨rfl,ja t h1.1 (λb hb=>hl b (bH _ hb))⟩
        |arg k=>exact⟨rfl,ky.mono (λb o u hs hu=>⟨hA b o ⟨.inl ⟨k,hs⟩,World.block_lt_of_cell? w _ hu,λhb=>h.Re hb k o hs⟩,hu⟩) h1.2⟩
        |loc ep pv=>
         cases pv with
         |none=>cases hc
         |some q=>
          obtain⟨r,tg⟩:=q
          cases r with
          |box _ _=>cases hc
          |io _=>cases hc
          |slot b j=>
           have WR:=(h1.2.2.2.2 (.slot b j) tg rfl).2
           simp only[AS.Te]at hc⊢
           cases hrg:st.ga (.slot b j)with
           |none=>rw[hrg]at hc;cases hc
           |some c0=>
            rw[hrg]at hc
            split at hc
            ·rename_i t' e' ys hc0
             split at hc
             ·rename_i ht
              subst ht
              cases hc0
              rw[aH rfl]
              obtain⟨fp2,SK,_,Cg⟩:=h.slot b
              simp only[AS.ga]at hrg
              cases hgb:st.get b with
              |yE _=>rw[hgb]at hrg;cases hrg
              |val g2 Gk=>
               rw[hgb]at hrg SK
               simp only at hrg
               obtain⟨vs2,_,SK⟩:=SK
               rw[eU]at hrg
               obtain⟨v2,f3,_,QR,rP⟩:=SK.get j _ hrg
               have axF:v=v2:=by have:=(QR.2 t' rfl).2;rw[WR,this]
               rw[axF]
               exact⟨rfl,ja b QR.1 (λb' iy=>Cg b' (rP b' iy))⟩
             ·cases hc
            ·cases hc
        |nest _ _ _ _ _ _=>cases hc
        |part _ _ _ _=>cases hc
        |gB _ _ _=>cases hc
       |int _ _=>exact⟨h1.1,rfl⟩
       |bool _=>exact⟨h1.1,rfl⟩
       |str _=>exact⟨h1.1,rfl⟩
       |fn _=>exact⟨h1.1,rfl⟩
       |kY=>cases hc
       |ptr _ _=>cases hc
       |D3 _ _ _ _ _=>cases hc
       |un=>cases hc
       |bot=>cases hc
    exact⟨vs,gD,key cs vs fp hx hl hr⟩
theorem fb.anf (h:fb C g st a w [])(s:Nat)(lj:st.boxes[s]?=some (some cs)): ∃arr T fr fp,w.heap[g.β s]?=some (.cells arr T fr)/\rU arr fr/\bV (dz C g st w) arr.toList cs fp/\fp.Nodup/\g.β s∉fp/\(∀b∈fp,b<w.heap.size)/\g.hw (g.β s)=0/\(∀b,b=g.β s\/b∈fp->g.fE b=some (.box s))/\ ∀(w':World)(hw':Nat->Nat)(jX:Array Value)(T':TypeId)(Ny:Nat×Nat)(sU:aw AC)(lO fv:fM)(A':Rg)(k:Bool),Fr (λb=>b=g.β s\/b∈fp) w w'->w'.heap[g.β s]?=some (.cells jX T' Ny)->rU jX Ny-> A' true=C.A k->bV (gU A' hw' w') jX.toList sU lO->sU.all (AC.Bi true)=true->lO.Nodup->g.β s∉lO->(∀b∈lO,b<w'.heap.size/\(b∈fp\/w.heap.size<=b))-> (∀b∈fv,b<w'.heap.size/\(b∈fp\/w.heap.size<=b)/\b∉lO/\b≠g.β s)-> ∃g',fb C g' (aeP st s (rC k (st.jm (some s)) 0 sU)) a w' []/\(∀b∈fv,g'.fE b=some (.hand 0)/\g'.hw b=hw' b)/\∀b,b<w.heap.size->g.fE b≠some (.box s)->g'.hw b=g.hw b:=by
 obtain⟨arr,T,fr,fp,lQ,uR,hr,hn,yJ,hl,J2,J5⟩:=h.boxes s cs lj;have Bt:s<st.boxes.length:=(ay.1 lj).1;have QJ:∀b,b=g.β s\/b∈fp->g.fE b=some (.box s):=by rintro b (rfl|hb);exact J2;exact hl b hb
 refine⟨arr,T,fr,fp,lQ,uR,hr,hn,yJ,λb hb=>(h.im b _ (hl b hb)).1,J5,QJ,?_⟩;intro w' hw' jX T' Ny sU lO fv A' k jZ Kz Zq hA' yK aql En KC Mm NK;let bx':aw AC:=rC k (st.jm (some s)) 0 sU;let cj:AS:=aeP st s bx';let hw2:Nat->Nat:=λb=>if b∈lO\/b∈fv then hw' b else if b=g.β s then 0 else g.hw b
 let alf:Nat->aB lz:=λb=>if b=g.β s\/b∈lO then some (.box s) else if b∈fv then some (.hand 0) else g.fE b
 let g':Gh:=⟨hw2,g.β,alf,sY g.hdr (st.jm (some s)) jX.toList⟩
 have wH:cj.boxes=st.boxes.set s (some bx'):=by show((st.fO s (some bx')).gJ (some s)).boxes=_;rw[Dp,lM]
 have QS:cj.slots=st.slots:=by show((st.fO s (some bx')).gJ (some s)).slots=_;rw[xe];rfl
 have S3:cj.io=st.io:=by show((st.fO s (some bx')).gJ (some s)).io=_;rw[K4];rfl
 have OO:∀t,oA st t->oA cj t:=λt ht=>by have h1:oA (st.fO s (some bx')) t:=ht;exact Fs (d:=some s) h1
 have hpr:∀t,ku st t->ku cj t:=by rintro t ⟨c0,hc0⟩;by_cases vS:s=t;subst vS;exact⟨bx',by rw[wH];simp[Bt]⟩;exact⟨c0,by rw[wH,aE vS];exact hc0⟩
 have ag5:∀b,b<w.heap.size->g.fE b≠some (.box s)->b∉lO/\b∉fv/\b≠g.β s:=by intro b hb Uj;refine⟨λhm=>?_,λhm=>?_,λhm=>Uj (QJ b (.inl hm))⟩;rcases(Mm b hm).2 with h2|h2;exact Uj (QJ b (.inr h2));omega;rcases(NK b hm).2.1 with h2|h2;exact Uj (QJ b (.inr h2));omega
 have vj:∀b x,x≠ .box s->g.fE b=some x->alf b=some x/\w'.heap[b]?=w.heap[b]?/\hw2 b=g.hw b:=by intro b x hx hb;have HX:=(h.im b x hb).1;have hnm:¬(b=g.β s\/b∈fp):=λhm=>hx (by have:=QJ b hm;rw[hb]at this;simpa using this);obtain⟨n1,n2,n3⟩:=ag5 b HX (by rw[hb];simpa using hx);refine⟨?_,jZ.block b HX hnm,?_⟩;show(if b=g.β s\/b∈lO then _ else if b∈fv then _ else _)=_;rw[aG (by rintro(h1|h1);exact n3 h1;exact n1 h1),aG n2];exact hb;show(if b∈lO\/b∈fv then _ else if b=g.β s then _ else _)=_;rw[aG (by rintro(h1|h1);exact n1 h1;exact n2 h1),aG n3]
 have hcA:∀k b o u,C.A k b o->w.cell? ⟨b,o,none⟩=some u->w'.cell? ⟨b,o,none⟩=some u:=by intro k b o u hA hu;have hb:b<w.heap.size:=World.block_lt_of_cell? w _ hu;rw[World.cell?_of_block (a:=⟨b,o,none⟩) (jZ.block b hb (λhm=>h.Re (QJ b hm) k o hA))];exact hu
 have hle:(dz C g st w).Le (dz C g' cj w'):=⟨rfl,λt ht=>⟨OO t ht,CC ht⟩,hcA,Nat.le_succ _,λt ht=>⟨hpr t ht,rfl⟩,λhe=>absurd he (Nat.succ_ne_self _)⟩
 refine⟨g',h.step (λx=>x≠ .box s) hle h.defers ?_ ?_ ?_ ?_ (λb x hk hb=>vj b x hk hb) ?_ ?_ (λk u bv hk=>by simp at hk) (.inl ⟨by simp,S3⟩),λb hb=>?_,λb hb Uj=>?_⟩;rw[QS];exact h.size;rw[QS,wH,az];exact h.bsize;refine h.frame.trans jZ (λb hb hm=>?_);rcases(h.im b _ (QJ b hm)).2 with h2|h2;omega;exact h2;intro b x hx;have Dd:(if b=g.β s\/b∈lO then some (lz.box s) else if b∈fv then some (.hand 0) else g.fE b)=some x:=hx;have hz:=jZ.size;have hold:b∈fp\/w.heap.size<=b->C.w0.heap.size<=b\/C.M b:=by rintro(h2|h2);exact(h.im b _ (hl b h2)).2;exact .inl (bq h.frame.size h2)
 split at Dd;rename_i hm;rcases hm with rfl|hm;have:=h.im _ _ J2;exact⟨by omega,this.2⟩;exact⟨(Mm b hm).1,hold (Mm b hm).2⟩;split at Dd;rename_i hm;exact⟨(NK b hm).1,hold (NK b hm).2.1⟩;have:=h.im b x Dd;exact⟨by omega,this.2⟩;intro i av hi;rw[QS]at hi;exact .inl ⟨by simp,hi,rfl⟩;intro t Gk hb;rw[wH]at hb;by_cases vS:t=s;subst vS;rw[bJ]at hb;simp only[cw,Bt]at hb;simp at hb;subst hb;refine .inr ⟨jX,T',Ny,lO,Kz,Zq,?_,En,KC,λb hb=>?_,?_,?_⟩
 have:=Jk (c:=dz C g' cj w') (A':=A') (hw:=hw') (mk:=st.jm (some t)) (k:=k) hA' 0 (vs:=jX.toList) (xs:=sU) (fp:=lO) yK aql
  (λb hb=>by show(if b∈lO\/b∈fv then _ else _)=_;rw[aH (.inl hb)])
  (λi u hu q hq=>by
   rw[cE]at hq;have hm:=rH hq;have hm2:oA cj q:=by have h1:st.jm (some t) i=some q:=hq;have h2:(st.fO t (some bx')).jm (some t) i=some q:=h1;exact(rH h2).2.1
   exact⟨hm2,CB hu hq⟩)
 exact this;show(if b=g.β t\/b∈lO then _ else _)=_;rw[aH (.inr hb)];show(if g.β t=g.β t\/g.β t∈lO then _ else _)=_;rw[aH (.inl rfl)];show(if g.β t∈lO\/g.β t∈fv then _ else if g.β t=g.β t then _ else _)=_;rw[aG (by rintro(h1|h1);exact KC h1;exact(NK _ h1).2.2.2 rfl),aH rfl];rw[aE (cl vS)]at hb;exact .inl ⟨by simpa using vS,hb,rfl⟩;obtain⟨_,_,h3,h4⟩:=NK b hb;refine⟨?_,?_⟩;show(if b=g.β s\/b∈lO then _ else if b∈fv then _ else _)=_;rw[aG (by rintro(h1|h1);exact h4 h1;exact h3 h1),aH hb];show(if b∈lO\/b∈fv then _ else _)=_;rw[aH (.inr hb)];obtain⟨n1,n2,n3⟩:=ag5 b hb Uj;show(if b∈lO\/b∈fv then _ else if b=g.β s then _ else _)=_;rw[aG (by rintro(h1|h1);exact n1 h1;exact n2 h1),aG n3]
theorem VN:∀{vs:jJ}{cs:aw AC}{fp:fM},bV c vs cs fp->cs.all AC.Ka=true->fp=[]
 |[],[],_,h,_=>h
 |[],_::_,_,h,_=>h.elim
 |_::_,[],_,h,_=>h.elim
 |v::vs,x::cs,fp,h,hx=>by
  obtain⟨f1,f2,rfl,h1,h2⟩:=h;simp only[cz,ae]at hx;rw[VN h2 hx.2,bD];have hx:=hx.1;cases x with
  |sl fl e xs=>cases fl<;>first|exact h1.1|cases hx
  |int k n=>exact h1.2
  |bool b=>exact h1.2
  |str s=>exact h1.2
  |fn f=>exact h1.2
  |kY=>cases hx
  |ptr _ _=>cases hx
  |D3 _ _ _ _ _=>cases hx
  |un=>cases hx
  |bot=>cases hx
theorem fb.ajq (h:fb C g st a w [])(s:Nat)(lj:st.boxes[s]?=some (some cs))(Ml:cs.all AC.Ka=true): ∀(w':World)(hw':Nat->Nat)(jX:Array Value)(T':TypeId)(Ny:Nat×Nat)(sU:aw AC)(lO fv:fM)(A':Rg)(k:Bool),Fr (λb=>b=g.β s) w w'->w'.heap[g.β s]?=some (.cells jX T' Ny)->rU jX Ny-> A' true=C.A k->bV (gU A' hw' w') jX.toList sU lO->sU.all (AC.Bi true)=true->lO.Nodup->g.β s∉lO->(∀b∈lO,b<w'.heap.size/\w.heap.size<=b)-> (∀b∈fv,b<w'.heap.size/\w.heap.size<=b/\b∉lO/\b≠g.β s)-> ∃g',fb C g' (st.fO s (some (rC k (λ_=>none) 0 sU))) a w' []/\(∀b∈fv,g'.fE b=some (.hand 0)/\g'.hw b=hw' b)/\∀b,b<w.heap.size->g.fE b≠some (.box s)->g'.hw b=g.hw b:=by
 obtain⟨arr,T,fr,fp,lQ,uR,hr,hn,yJ,hl,J2,J5⟩:=h.boxes s cs lj;have ap7:fp=[]:=VN hr Ml;subst ap7;have Bt:s<st.boxes.length:=(ay.1 lj).1;intro w' hw' jX T' Ny sU lO fv A' k jZ Kz Zq hA' yK aql En KC Mm NK;let bx':aw AC:=rC k (λ_=>none) 0 sU;let cj:AS:=st.fO s (some bx');let hw2:Nat->Nat:=λb=>if b∈lO\/b∈fv then hw' b else if b=g.β s then 0 else g.hw b
 let alf:Nat->aB lz:=λb=>if b=g.β s\/b∈lO then some (.box s) else if b∈fv then some (.hand 0) else g.fE b
 let g':Gh:=⟨hw2,g.β,alf,g.hdr⟩
 have wH:cj.boxes=st.boxes.set s (some bx'):=by show(st.fO s (some bx')).boxes=_;rw[lM]
 have hpr:∀t,ku st t->ku cj t:=by rintro t ⟨c0,hc0⟩;by_cases vS:s=t;subst vS;exact⟨bx',by rw[wH];simp[Bt]⟩;exact⟨c0,by rw[wH,aE vS];exact hc0⟩
 have hold:∀b,b<w.heap.size->b∉lO/\b∉fv:=by intro b hb;refine⟨λhm=>?_,λhm=>?_⟩;have:=(Mm b hm).2;omega;have:=(NK b hm).2.1;omega
 have HY:∀b,b<w.heap.size->b≠g.β s->hw2 b=g.hw b:=by intro b hb Eo;show(if b∈lO\/b∈fv then _ else if b=g.β s then _ else _)=_;rw[aG (by rintro(h1|h1);exact(hold b hb).1 h1;exact(hold b hb).2 h1),aG Eo]
 have vj:∀b x,x≠ .box s->g.fE b=some x->alf b=some x/\w'.heap[b]?=w.heap[b]?/\hw2 b=g.hw b:=by intro b x hx hb;have HX:=(h.im b x hb).1;have Eo:b≠g.β s:=λhm=>hx (by rw[hm,J2]at hb;simpa using hb.symm);refine⟨?_,jZ.block b HX Eo,HY b HX Eo⟩;show(if b=g.β s\/b∈lO then _ else if b∈fv then _ else _)=_;rw[aG (by rintro(h1|h1);exact Eo h1;exact(hold b HX).1 h1),aG (hold b HX).2];exact hb
 have hcA:∀k b o u,C.A k b o->w.cell? ⟨b,o,none⟩=some u->w'.cell? ⟨b,o,none⟩=some u:=by intro k b o u hA hu;have hb:b<w.heap.size:=World.block_lt_of_cell? w _ hu;rw[World.cell?_of_block (a:=⟨b,o,none⟩) (jZ.block b hb (λhm=>h.Re (by rw[hm];exact J2) k o hA))];exact hu
 have hle:(dz C g st w).Le (dz C g' cj w'):=by
  refine⟨rfl,λt ht=>⟨ht,rfl⟩,hcA,bc _,λt ht=>⟨hpr t ht,rfl⟩,λ_ b o u ho hu=>?_⟩;have hb:b<w.heap.size:=World.block_lt_of_cell? w _ hu;have OQ:o<g.hw b:=ho;have Eo:b≠g.β s:=λe=>by rw[e,J5]at OQ;omega
  refine⟨by show o<hw2 b;rw[HY b hb Eo];exact OQ,?_⟩;show w'.cell? ⟨b,o,none⟩=some u;rw[World.cell?_of_block (a:=⟨b,o,none⟩) (jZ.block b hb Eo)];exact hu
 refine⟨g',h.step (λx=>x≠ .box s) hle h.defers h.size ?_ ?_ ?_ (λb x hk hb=>vj b x hk hb) ?_ ?_ (λk u bv hk=>by simp at hk) (.inl ⟨by simp,rfl⟩),λb hb=>?_,λb hb Uj=>?_⟩;rw[wH,az];exact h.bsize;refine h.frame.trans jZ (λb hb hm=>?_);have hm:b=g.β s:=hm;subst hm;rcases(h.im _ _ J2).2 with h2|h2;omega;exact h2;intro b x hx;have Dd:(if b=g.β s\/b∈lO then some (lz.box s) else if b∈fv then some (.hand 0) else g.fE b)=some x:=hx;have hz:=jZ.size;split at Dd;rename_i hm;rcases hm with rfl|hm;have:=h.im _ _ J2;exact⟨by omega,this.2⟩;exact⟨(Mm b hm).1,.inl (bq h.frame.size (Mm b hm).2)⟩;split at Dd;rename_i hm;exact⟨(NK b hm).1,.inl (bq h.frame.size (NK b hm).2.1)⟩;have:=h.im b x Dd;exact⟨by omega,this.2⟩;intro i av hi;exact .inl ⟨by simp,hi,rfl⟩;intro t Gk hb;rw[wH]at hb;by_cases vS:t=s;subst vS;rw[bJ]at hb;simp only[cw,Bt]at hb;simp at hb;subst hb;refine .inr ⟨jX,T',Ny,lO,Kz,Zq,?_,En,KC,λb hb=>?_,?_,?_⟩;have:=Jk (c:=dz C g' cj w') (A':=A') (hw:=hw') (mk:=λ_=>none) (k:=k) hA' 0 (vs:=jX.toList) (xs:=sU) (fp:=lO) yK aql (λb hb=>by show(if b∈lO\/b∈fv then _ else _)=_;rw[aH (.inl hb)]) (λi u hu q hq=>by cases hq);exact this;show(if b=g.β t\/b∈lO then _ else _)=_;rw[aH (.inr hb)];show(if g.β t=g.β t\/g.β t∈lO then _ else _)=_;rw[aH (.inl rfl)];show(if g.β t∈lO\/g.β t∈fv then _ else if g.β t=g.β t then _ else _)=_;rw[aG (by rintro(h1|h1);exact KC h1;exact(NK _ h1).2.2.2 rfl),aH rfl];rw[aE (cl vS)]at hb;exact .inl ⟨by simpa using vS,hb,rfl⟩;obtain⟨_,_,h3,h4⟩:=NK b hb;refine⟨?_,?_⟩;show(if b=g.β s\/b∈lO then _ else if b∈fv then _ else _)=_;rw[aG (by rintro(h1|h1);exact h4 h1;exact h3 h1),aH hb];show(if b∈lO\/b∈fv then _ else _)=_;rw[aH (.inr hb)];exact HY b hb (λe=>Uj (by rw[e];exact J2))
theorem apV (Db:∀f,jl P f (Γ f)){o':Oper}(ho:o'.op=.call {callee:=.value f,args,argTypes:=ts})(hg:fb C g st a w []){k:Nat}(hf:st.rd f=.val false [.fn k])(lj:(Γ k).bx=true){K:AS->aB R}(hk:xu Γ o' k args.toList st K=some r)(next:Act->World->Prop)(Q:Exit->Act->World->Prop)(iP:∀cj a' w',qe C cj a' w'->K cj=some r->next a' w'):o'.wp P a w next Q:=by
 have NK:=hg.rd f;rw[hf]at NK;have NK:=(fH NK).1;unfold xu at hk;split at hk
 ·rename_i x0 xs ib;split at hk
  ·rename_i s hx0;split at hk
   ·rename_i cs WE;have hb:st.boxes[s]?=some (some cs):=by rw[eU]at WE;cases hq:st.boxes[s]? with|none=>rw[hq]at WE;simp at WE|some q=>rw[hq]at WE;simp at WE;rw[WE]
    cases hc:(cs.all (AC.Bi (FY cs))&&xs.all (EI st))with
    |false=>rw[hc]at hk;cases hk
    |true=>
     rw[hc]at hk;simp only[ah]at hk;simp only[ae]at hc;cases iT:(Γ k).fn (.val true (cs.map AC.XL)::xs.map (DH st))with
     |none=>rw[iT]at hk;cases hk
     |some y=>
      rw[iT]at hk;simp only[aa]at hk;cases hc2:(((Γ k).back y).all (AC.Bi true)&&((Γ k).av y).ahZ)with
      |false=>rw[hc2]at hk;cases hk
      |true=>
       rw[hc2]at hk;simp only[ah]at hk;simp only[ae]at hc2;obtain⟨⟨fn,c,SI,Ze,EB⟩,_,_,D5,_⟩:=Db k _ y iT;have D5:=D5 lj _ _ rfl;have QQ:=hg.rd x0;rw[hx0]at QQ;have xm:=DM QQ;obtain⟨arr,T,fr,fp,lQ,uR,fZ,hn,yJ,hG,J5,GR,sM⟩:=hg.anf s hb;let A':Rg:=λq b o=>bif q then C.A (FY cs) b o else((dz C g st w).S b o/\b<w.heap.size/\g.fE b≠some (.box s))
       have hA':∀q b' o,A' q b' o->b'<w.heap.size/\b'≠g.β s/\b'∉fp:=by
        intro q b' o hq;have key:b'<w.heap.size/\g.fE b'≠some (.box s):=by cases q with|true=>have hq:C.A (FY cs) b' o:=hq;exact⟨Nat.lt_of_lt_of_le (C.hA _ _ _ hq).1 hg.frame.size,λhb=>hg.Re hb _ o hq⟩|false=>exact hq.2
        exact⟨key.1,λe=>key.2 (GR b' (.inl e)),λe=>key.2 (GR b' (.inr e))⟩
       have NI:=D5 A' w (g.β s) (xs.map a.eval) arr T fr g.hw fp hA' lQ uR (LM (k:=FY cs) hc.1 fZ rfl rfl rfl) hn yJ hG J5 (UG hg s (λb o h=>h) xs hc.2);have axB:a.eval x0=.pointer (some ⟨g.β s,0,none⟩):=xm;have ap2:(Value.pointer (some ⟨g.β s,0,none⟩)::xs.map a.eval).toArray=args.map a.eval:=by apply gj;simp[ib,axB]
       rw[ap2]at NI;have fD:(execOp a.eval o').run P w=.ok (.enter k (args.map a.eval)) w:=by simp[execOp,ho,resolve,NK,Deferred.ofValue,invoke,callFunc,SI,Ze];simpa using EB
       unfold Oper.wp;rw[fD,Oper.upon_enter];refine NI.mono ?_;rintro e w' ⟨v,hw',fv,jX,T',Ny,lO,rfl,Um,Kz,Zq,yK,En,KC,Mm,hnv,akH,jZ⟩;show next (a.put o'.dst v) w'
       have tail:∀(st1:AS)(g':Gh),fb C g' st1 a w' []->(∀b∈fv,g'.fE b=some (.hand 0)/\g'.hw b=hw' b)->(∀b,b<w.heap.size->g.fE b≠some (.box s)->g'.hw b=g.hw b)->
        K ((st1.gJ o'.dst).put o'.dst (((Γ k).av y).FZ st1.ep (st1.jm o'.dst)))=some r->next (a.put o'.dst v) w':=by
        intro st1 g' qb hlv hold hk
        have hAS:∀(hd:Nat->Value)(q:Bool)(b o:Nat),A' q b o->(dz C {g' with hdr:=hd} (st1.gJ o'.dst) w').S b o:=by intro hd q b o hq;cases q with|true=>exact .inl ⟨_,hq⟩|false=>rcases hq.1 with hs|hs;exact .inl hs;exact .inr (by show o<g'.hw b;rw[hold b hq.2.1 hq.2.2];exact hs)
        have akF:∀b∈fv,g'.hw b=hw' b:=λb hb=>(hlv b hb).2
        have yK:∃hd,(∀t,oA st1 t->hd t=g'.hdr t)/\il (dz C {g' with hdr:=hd} (st1.gJ o'.dst) w') v (((Γ k).av y).FZ st1.ep (st1.jm o'.dst)) fv:=by
         generalize (Γ k).av y=y at Um;cases y with
         |val gg cs=>obtain⟨vs,gD,hr⟩:=Um;refine⟨sY g'.hdr (st1.jm o'.dst) vs,λt ht=>CC ht,vs,gD,?_⟩;have:=Dl (c:=dz C {g' with hdr:=sY g'.hdr (st1.jm o'.dst) vs} (st1.gJ o'.dst) w') (mk:=st1.jm o'.dst) (hAS _) 0 hr akF (λi u hu t ht=>by rw[cE]at ht;exact⟨(rH ht).2.1,CB hu ht⟩);have AY:(dz C {g' with hdr:=sY g'.hdr (st1.jm o'.dst) vs} (st1.gJ o'.dst) w').ep=st1.ep:=Cv;rw[AY]at this;exact this
         |yE ts=>obtain⟨ws,hv,hr⟩:=Um;obtain⟨all,AX⟩:=MC hr;refine⟨sY g'.hdr (st1.jm o'.dst) all,λt ht=>CC ht,ws,hv,?_⟩;have:=Rh (c:=dz C {g' with hdr:=sY g'.hdr (st1.jm o'.dst) all} (st1.gJ o'.dst) w') (mk:=st1.jm o'.dst) (hAS _) AX 0 akF (λi u hu t ht=>by rw[cE]at ht;exact⟨(rH ht).2.1,CB hu ht⟩);have AY:(dz C {g' with hdr:=sY g'.hdr (st1.jm o'.dst) all} (st1.gJ o'.dst) w').ep=st1.ep:=Cv;rw[AY]at this;exact this
        obtain⟨hd,hhd,yK⟩:=yK
        obtain⟨g2,Jw⟩:=qb.RL o'.dst (hw':=g'.hw) (hdr':=hd) (fp:=fv) (st1:=st1.gJ o'.dst) K4 xe Dp Cv (λt ht=>⟨Fs ht,hhd t ht⟩)
         (Fr.refl _ _) (λ_ _ _ _=>rfl) (λ_ _ _ ho hu=>⟨ho,hu⟩) yK hnv (λb hb=>⟨(akH b hb).1,.inl (by rw[(hlv b hb).1];rfl)⟩)
        exact iP _ _ _ ⟨g2,Jw⟩ hk
       cases hcur:((Γ k).cur&&cs.all AC.Ka)with
       |false=>rw[hcur]at hk;obtain⟨g',qb,hlv,hold⟩:=sM w' hw' jX T' Ny ((Γ k).back y) lO fv A' (FY cs) jZ Kz Zq rfl yK hc2.1 En KC Mm akH;exact tail _ g' qb hlv hold hk
       |true=>rw[hcur]at hk;simp only[ae]at hcur;have ap7:fp=[]:=VN fZ hcur.2;subst ap7;obtain⟨g',qb,hlv,hold⟩:=hg.ajq s hb hcur.2 w' hw' jX T' Ny ((Γ k).back y) lO fv A' (FY cs) ⟨jZ.os,jZ.tape,jZ.output,jZ.size,λb hb hm=>jZ.block b hb (λhh=>hm (hh.resolve_right (by simp)))⟩ Kz Zq rfl yK hc2.1 En KC (λb hb=>⟨(Mm b hb).1,(Mm b hb).2.resolve_left (by simp)⟩) (λb hb=>⟨(akH b hb).1,(akH b hb).2.1.resolve_left (by simp),(akH b hb).2.2⟩);exact tail _ g' qb hlv hold hk
   cases hk
  cases hk
 cases hk
theorem arg_val (hA:c'.A=c.A)(hw:c'.w=c.w){x:AV}(h:il c v x fp)(hx:x.L6=true):fp=[]/\il c' v x []:=by
 cases x with
 |yE _=>cases hx
 |val g cs=>
  obtain⟨vs,gD,h⟩:=h
  have key:∀(cs:aw AC)(vs:jJ)(fp:fM),bV c vs cs fp->cs.all AC.L6=true->fp=[]/\bV c' vs cs []:=by
   intro cs
   induction cs with
   |nil=>intro vs fp h _;cases vs with
    |nil=>exact⟨h,rfl⟩
    |cons _ _=>exact h.elim
   |cons x cs ih=>
    intro vs fp h hx
    cases vs with
    |nil=>exact h.elim
    |cons v vs=>
     obtain⟨f1,f2,rfl,h1,h2⟩:=h
     simp only[cz,ae]at hx
     obtain⟨rfl,k2⟩:=ih vs f2 h2 hx.2
     have hx:=hx.1
     have one:f1=[]/\iV c' v x []:=by
      cases x with
      |sl fl e xs=>cases fl with|arg k=>exact⟨h1.1,rfl,by rw[hA,hw];exact h1.2⟩|own _=>cases hx|loc _ _=>cases hx|nest _ _ _ _ _ _=>cases hx|part _ _ _ _=>cases hx|gB _ _ _=>cases hx
      |int _ _=>exact tS h1 rfl
      |bool _=>exact tS h1 rfl
      |str _=>exact tS h1 rfl
      |fn _=>exact tS h1 rfl
      |kY=>cases hx
      |ptr _ _=>cases hx
      |D3 _ _ _ _ _=>cases hx
      |un=>cases hx
      |bot=>cases hx
     obtain⟨rfl,k1⟩:=one
     exact⟨rfl,[],[],rfl,k1,k2⟩
  obtain⟨e,k⟩:=key cs vs fp h hx;exact⟨e,vs,gD,k⟩
theorem X7 (h:fb C g st a w []):∀(xs:aw Operand),xs.all (λx=>(st.rd x).L6)=true->rY C.A w (xs.map a.eval) (xs.map st.rd)
 |[],_=>trivial
 |x::xs,hf=>by simp only[cz,ae]at hf;exact⟨(arg_val (c:=dz C g st w) (c':=gU C.A (λ_=>0) w) rfl rfl (h.rd x) hf.1).2,X7 h xs hf.2⟩
theorem arc (Db:∀f,jl P f (Γ f)){o':Oper}(ho:o'.op=.call {callee:=.value f,args,argTypes:=ts})(hg:fb C g st a w []){k:Nat}(hf:st.rd f=.val false [.fn k])(hpr:(Γ k).pr=true){K:AS->aB R}(hk:ah0 Γ o' k args.toList st K=some r)(next:Act->World->Prop)(Q:Exit->Act->World->Prop)(iP:∀cj a' w',qe C cj a' w'->K cj=some r->next a' w'):o'.wp P a w next Q:=by
 have NK:=hg.rd f;rw[hf]at NK;have NK:=(fH NK).1;unfold ah0 at hk;split at hk
 ·rename_i d hd;split at hk
  ·rename_i H0;cases hc:args.toList.all (λx=>(st.rd x).L6)with
   |false=>rw[hc]at hk;cases hk
   |true=>
    rw[hc]at hk;simp only[ah]at hk;cases iT:(Γ k).fn (args.toList.map st.rd)with
    |none=>rw[iT]at hk;cases hk
    |some y=>
     rw[iT]at hk;simp only[aa]at hk;cases hc2:((Γ k).back y).all AC.L6 with
     |false=>rw[hc2]at hk;cases hk
     |true=>
      rw[hc2]at hk;simp only[ah]at hk;obtain⟨⟨fn,c,SI,Ze,EB⟩,_,_,_,D5⟩:=Db k _ y iT;have NI:=D5 hpr C.A w (args.toList.map a.eval) (λq b o hq=>Nat.lt_of_lt_of_le (C.hA q b o hq).1 hg.frame.size) (X7 hg _ hc);have ib:(args.toList.map a.eval).toArray=args.map a.eval:=by apply gj;simp
      rw[ib]at NI;have fD:(execOp a.eval o').run P w=.ok (.enter k (args.map a.eval)) w:=by simp[execOp,ho,resolve,NK,Deferred.ofValue,invoke,callFunc,SI,Ze];simpa using EB
      unfold Oper.wp;rw[fD,Oper.upon_enter];refine NI.mono ?_;rintro e w' ⟨b,arr,T,fr,hw,rfl,hb,lQ,uR,fZ,jZ⟩;show next (a.put o'.dst (.pointer (some ⟨b,0,none⟩))) w'
      rw[eU]at H0;have HX:=nU lQ;have Eo:∀b' x,g.fE b'=some x->b'≠b:=λb' x hx e=>by have:=(hg.im b' x hx).1;omega
      have hr1:bV ⟨λb'=>if b'=b then 0 else g.hw b',λt=>if t=d then b else g.β t,C.A,g.hdr,oA st,st.ep,ku st,w'⟩ arr.toList ((Γ k).back y) []:=by
       have hv:il (gU C.A hw w') (.agg arr.toList.toArray) (.val true ((Γ k).back y)) []:=⟨arr.toList,rfl,fZ⟩
       obtain⟨_,vs,gD,h⟩:=arg_val (c:=gU C.A hw w') (c':=⟨λb'=>if b'=b then 0 else g.hw b',λt=>if t=d then b else g.β t,C.A,g.hdr,oA st,st.ep,ku st,w'⟩) rfl rfl hv hc2;have:arr.toList=vs:=by have gD:Value.agg arr.toList.toArray=.agg vs.toArray:=gD;simp only[Value.agg.injEq]at gD;simpa using congrArg Array.toList gD
       rw[this];exact h
      obtain⟨g',Mo,h'⟩:=hg.abN d (cs:=(Γ k).back y) (arr:=arr) (T:=T) (fr:=fr) (fp:=[]) (w':=w') (bnew:=b) (hw':=λb'=>if b'=b then 0 else g.hw b') (.inr ⟨hb,H0⟩) ⟨jZ.os,jZ.tape,jZ.output,jZ.size,λb' iy _=>jZ.block b' iy (λm=>m)⟩ lQ uR HX (by simp) (λb' x hx _ hn=>by simp[hn]) (λb' o u ho hu=>by have iy:b'<w.heap.size:=World.block_lt_of_cell? w _ hu;exact⟨by simp[show b'≠b by omega];exact ho,Cc jZ hu⟩) hr1 List.nodup_nil (by simp) (λb' iy=>by cases iy);have hdl:d<st.boxes.length:=(ay.1 H0).1;have hq:=h'.quiet (some d) (v:=.pointer (some ⟨b,0,none⟩)) (av:=.one (.ptr d 0)) (oo ⟨by simp[dz,Mo],⟨(Γ k).back y,by rw[lM];simp[hdl]⟩,rfl⟩);rw[hd];exact iP _ _ _ ⟨g',hq⟩ hk
  cases hk
 cases hk
theorem anj (Db:∀f,jl P f (Γ f)){o':Oper}(ho:o'.op=.call {callee:=.value f,args,argTypes:=ts})(h:qe C st a w){K:AS->aB R}(hk:F1 Γ o' f args.toList st K=some r)(next:Act->World->Prop)(Q:Exit->Act->World->Prop)(iP:∀cj a' w',qe C cj a' w'->K cj=some r->next a' w'):o'.wp P a w next Q:=by
 obtain⟨g,hg⟩:=h;unfold F1 at hk;split at hk
 ·rename_i k hf
  have NK:=hg.rd f
  rw[hf]at NK
  have NK:=(fH NK).1
  cases lj:(Γ k).bx with
  |true=>rw[lj]at hk;exact apV Db ho hg hf lj hk next Q iP
  |false=>
  rw[lj]at hk
  simp only[af]at hk
  cases hpr:(Γ k).pr with
  |true=>rw[hpr]at hk;exact arc Db ho hg hf hpr hk next Q iP
  |false=>
  rw[hpr]at hk
  simp only[af]at hk
  cases S3:(Γ k).io with
  |true=>rw[S3]at hk;cases hk
  |false=>
  rw[S3]at hk
  simp only[af]at hk
  cases iT:(Γ k).fn (args.toList.map λx=>((st.rd x).fresh st).asArg st.ep)with
  |none=>rw[iT]at hk;cases hk
  |some y0=>
   rw[iT]at hk
   simp only[aa]at hk
   obtain⟨⟨fn,c,SI,Ze,EB⟩,D5,_⟩:=Db k _ y0 iT
   have D5:=D5 S3 lj
   have hk:K ((st.gJ o'.dst).put o'.dst (((Γ k).res y0).FZ st.ep (st.jm o'.dst)))=some r:=by unfold lK.res;cases S8:(Γ k).sel y0 with|true=>rw[S8]at hk;exact hk|false=>rw[S8]at hk;exact hk
   generalize hy0:(Γ k).res y0=y at hk D5
   have NI:=D5 (λ_ b o=>(dz C g st w).S b o/\b<w.heap.size) w (args.toList.map a.eval) (λ_ _ _ h=>h.2) (X8 hg args.toList)
   have ib:(args.toList.map a.eval).toArray=args.map a.eval:=by apply gj;simp
   rw[ib]at NI
   have fD:(execOp a.eval o').run P w=.ok (.enter k (args.map a.eval)) w:=by simp[execOp,ho,resolve,NK,Deferred.ofValue,invoke,callFunc,SI,Ze];simpa using EB
   unfold Oper.wp
   rw[fD,Oper.upon_enter]
   refine NI.mono ?_
   rintro e w' ⟨v,hw,fp,rfl,fZ,HZ,F5,jZ⟩
   show next (a.put o'.dst v) w'
   let hw':Nat->Nat:=λb=>if b∈fp then hw b else g.hw b
   have ac3:∀b,b<w.heap.size->b∉fp:=λb hb hm=>by have:=(F5 b hm).1;omega
   have hA':∀(hd:Nat->Value)(_:Bool)(b o:Nat),((dz C g st w).S b o/\b<w.heap.size)->(dz C {g with hw:=hw',hdr:=hd} (st.gJ o'.dst) w').S b o:=by rintro hd _ b o ⟨hs,hb⟩;rcases hs with hs|hs;exact .inl hs;exact .inr (by simp only[dz,hw',aG (ac3 b hb)];exact hs)
   have yK:∃hd,(∀t,oA st t->hd t=g.hdr t)/\il (dz C {g with hw:=hw',hdr:=hd} (st.gJ o'.dst) w') v (y.FZ st.ep (st.jm o'.dst)) fp:=by
    have akF:∀b∈fp,hw' b=hw b:=λb hb=>by simp[hw',hb]
    cases y with
    |val gg cs=>obtain⟨vs,gD,hr⟩:=fZ;refine⟨sY g.hdr (st.jm o'.dst) vs,λt ht=>CC ht,vs,gD,?_⟩;have:=Dl (c:=dz C {g with hw:=hw',hdr:=sY g.hdr (st.jm o'.dst) vs} (st.gJ o'.dst) w') (mk:=st.jm o'.dst) (hA' _) 0 hr akF (λi u hu t ht=>by rw[cE]at ht;exact⟨(rH ht).2.1,CB hu ht⟩);have AY:(dz C {g with hw:=hw',hdr:=sY g.hdr (st.jm o'.dst) vs} (st.gJ o'.dst) w').ep=st.ep:=Cv;rw[AY]at this;exact this
    |yE ts=>obtain⟨ws,hv,hr⟩:=fZ;obtain⟨all,AX⟩:=MC hr;refine⟨sY g.hdr (st.jm o'.dst) all,λt ht=>CC ht,ws,hv,?_⟩;have:=Rh (c:=dz C {g with hw:=hw',hdr:=sY g.hdr (st.jm o'.dst) all} (st.gJ o'.dst) w') (mk:=st.jm o'.dst) (hA' _) AX 0 akF (λi u hu t ht=>by rw[cE]at ht;exact⟨(rH ht).2.1,CB hu ht⟩);have AY:(dz C {g with hw:=hw',hdr:=sY g.hdr (st.jm o'.dst) all} (st.gJ o'.dst) w').ep=st.ep:=Cv;rw[AY]at this;exact this
   obtain⟨hd,hhd,yK⟩:=yK
   obtain⟨g',qb⟩:=hg.RL o'.dst (hw':=hw') (hdr':=hd) (fp:=fp) (st1:=st.gJ o'.dst) K4 xe Dp Cv (λt ht=>⟨Fs ht,hhd t ht⟩)
    ⟨jZ.os,jZ.tape,jZ.output,jZ.size,λb hb _=>jZ.block b hb (λm=>m)⟩ (λb x hx _=>by simp[hw',ac3 b (hg.im b x hx).1])
    (λb o u ho hu=>by have hb:b<w.heap.size:=World.block_lt_of_cell? w _ hu;exact⟨by simp[hw',ac3 b hb];exact ho,Cc jZ hu⟩) yK HZ (λb hb=>⟨(F5 b hb).2,.inr (F5 b hb).1⟩)
   exact iP _ _ _ ⟨g',qb⟩ hk
 cases hk
end Go.Dn
