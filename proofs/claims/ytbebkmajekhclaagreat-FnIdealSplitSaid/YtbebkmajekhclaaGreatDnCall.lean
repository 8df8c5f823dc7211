import Derived.Test.YtbebkmajekhclaaGreatDnOps8
/- A call by value: what a callee promises, and what the caller makes of it. -/
namespace Go.Dn
open Go.RowKit
variable {P:Program} {C:Ctx} {st:AS} {a:Act} {w:World} {R:Type} {r:R}
variable {x:AC} {args:Array Operand} {ts:Array TypeId} {Γ:Dy} {g:Gh} {hw:Nat->Nat} {hdr:Nat->Value} {f:Operand} {c c':RC} {v:Value} {cs:aw AC} {d:az Nat} {fp:fA} {all:jf}
def gC (A:Rg)(hw:Nat->Nat)(w:World):RC:=⟨hw,λ_=>0,A,λ_=>undef,λ_=>False,0,λ_=>False,w⟩
def rq (A:Rg)(w:World):jf->aw AV->Prop
 |[],[]=>True
 |v::vs,x::xs=>gS (gC A (λ_=>0) w) v x []/\rq A w vs xs
 |_,_=>False
def axO (P:Program)(f:Nat)(F:lH)(y:F.R)(g:Bool)(cs:aw AC)(rest:aw AV):Prop:=
 ∀(A:Rg)(w:World)(v0:Value)(vs:jf)(hw:Nat->Nat)(fp:fA),(∀k b o,A k b o->b<w.heap.size/\b∉fp)->gS (gC A hw w) v0 (.val g cs) fp->fp.Nodup->(∀b∈fp,b<w.heap.size)->rq A w vs rest->
  Calls P f (v0::vs).toArray w λe w'=>∃v hw' fr ld,e=.returned v/\gS (gC A hw' w') v (F.av y) fr/\gS (gC A hw' w') v0 (.val g (F.back y)) ld/\ld.Nodup/\
   (∀b∈ld,b<w'.heap.size/\(b∈fp\/w.heap.size<=b))/\Fr (λb=>b∈fp) w w'
def ase (P:Program)(f:Nat)(F:lH)(y:F.R)(cs:aw AC)(rest:aw AV):Prop:=
 ∀(A:Rg)(w:World)(b:Nat)(vs:jf)(arr:Array Value)(T:TypeId)(fr:Nat×Nat)(hw:Nat->Nat)(fp:fA),(∀k b' o,A k b' o->b'<w.heap.size/\b'≠b/\b'∉fp)->
  w.heap[b]?=some (.cells arr T fr)->rm arr fr->ca (gC A hw w) arr.toList cs fp->fp.Nodup->b∉fp->(∀b'∈fp,b'<w.heap.size)->hw b=0->rq A w vs rest->
  Calls P f (.pointer (some ⟨b,0,none⟩)::vs).toArray w λe w'=>∃v hw' fv jv T' Uj ld,e=.returned v/\gS (gC A hw' w') v (F.av y) fv/\w'.heap[b]?=some (.cells jv T' Uj)/\rm jv Uj/\
   ca (gC A hw' w') jv.toList (F.back y) ld/\ld.Nodup/\b∉ld/\(∀b'∈ld,b'<w'.heap.size/\(b'∈fp\/w.heap.size<=b'))/\fv.Nodup/\(∀b'∈fv,b'<w'.heap.size/\(b'∈fp\/w.heap.size<=b')/\b'∉ld/\b'≠b)/\Fr (λb'=>b'=b\/b'∈fp) w w'
def aoT (P:Program)(f:Nat)(F:lH)(y:F.R)(xs:aw AV):Prop:=
 ∀(A:Rg)(w:World)(vs:jf),(∀k b o,A k b o->b<w.heap.size)->rq A w vs xs->
  Calls P f vs.toArray w λe w'=>∃b arr T fr hw,e=.returned (.pointer (some ⟨b,0,none⟩))/\w.heap.size<=b/\w'.heap[b]?=some (.cells arr T fr)/\rm arr fr/\ca (gC A hw w') arr.toList (F.back y) []/\Fr (λ_=>False) w w'
def jl (P:Program)(f:Nat)(F:lH):Prop:=
 ∀(xs:aw AV)(y:F.R),F.fn xs=some y->
  (∃fn c,P.funcs[f]?=some fn/\fn.body=some c/\(fn.name== "runtime.NumGoroutine")=false)/\
  (F.io=false->F.bx=false->∀(A:Rg)(w:World)(vs:jf),(∀k b o,A k b o->b<w.heap.size)->rq A w vs xs->
    Calls P f vs.toArray w λe w'=>∃v hw fp,e=.returned v/\gS (gC A hw w') v (F.res y) fp/\fp.Nodup/\(∀b∈fp,w.heap.size<=b/\b<w'.heap.size)/\Fr (λ_=>False) w w')/\
  (F.io=true->∀g cs rest,xs=.val g cs::rest->axO P f F y g cs rest)/\
  (F.bx=true->∀cs rest,xs=.val true cs::rest->ase P f F y cs rest)/\
  (F.pr=true->aoT P f F y xs)
theorem tA (h:iy c v x fp)(hf:x.kh=true):fp=[]/\iy c' v x []:=by cases x with|int k n=>exact⟨h.2,h.1,rfl⟩|bool b=>exact⟨h.2,h.1,rfl⟩|str s=>exact⟨h.2,h.1,rfl⟩|fn f=>exact⟨h.2,h.1,rfl⟩|_=>cases hf
theorem Kj {c':RC}:∀{vs:jf}{xs:aw AC}{fp:fA},ca c vs xs fp->xs.all AC.kh=true->fp=[]/\ca c' vs xs []
 |[],[],_,h,_=>⟨h,rfl⟩
 |_::_,_::_,_,h,hf=>by obtain⟨f1,f2,rfl,h1,h2⟩:=h;simp only[bX,af]at hf;obtain⟨rfl,k1⟩:=tA (c':=c') h1 hf.1;obtain⟨rfl,k2⟩:=Kj (c':=c') h2 hf.2;exact⟨rfl,[],[],rfl,k1,k2⟩
 |[],_::_,_,h,_=>h.elim
 |_::_,[],_,h,_=>h.elim
theorem YL:∀{ws:jf}{ts:aw (Bool×aw AC)}{fp:fA},gS.so c ws ts fp->(ts.all λx=>x.2.all AC.kh)=true->gS.so c' ws ts []
 |[],[],_,_,_=>rfl
 |_::_,_::_,_,h,hf=>by obtain⟨f1,f2,rfl,⟨vs,hv,h1⟩,h2⟩:=h;simp only[bX,af]at hf;exact⟨[],[],rfl,⟨vs,hv,(Kj h1 hf.1).2⟩,YL h2 hf.2⟩
 |[],_::_,_,h,_=>h.elim
 |_::_,[],_,h,_=>h.elim
theorem QN {x:AV}(h:gS c v x fp)(hf:x.kh=true):gS c' v x []:=by
 cases x with
 |val g cs=>obtain⟨vs,hv,h⟩:=h;exact⟨vs,hv,(Kj h hf).2⟩
 |yC ts=>obtain⟨ws,hv,h⟩:=h;exact⟨ws,hv,YL h hf⟩
theorem aej {A:Rg}:∀(os ss:aw AC){r:aw AC}{vs us:jf}{f:fA},oL os ss=some r->ca c vs os []->ca c us ss f->ca (gC A c.hw c.w) vs r f:=by
 intro os;induction os with
 |nil=>intro ss r vs us f h hv hu;cases ss with|cons _ _=>simp[oL]at h|nil=>simp[oL]at h;subst h;cases vs with|cons _ _=>exact hv.elim|nil=>cases us with|cons _ _=>exact hu.elim|nil=>exact hu
 |cons o os ih=>
  intro ss r vs us f h hv hu;cases vs with
  |nil=>exact hv.elim
  |cons v vs=>
   cases ss with
   |nil=>unfold oL at h;split at h<;>first|contradiction|cases h
   |cons s ss=>
    cases us with
    |nil=>exact hu.elim
    |cons u us=>
     obtain⟨g1,g2,hg,hv1,WS⟩:=hv;have e1:g1=[]:=by have:=hg.symm;simp at this;exact this.1
     have e2:g2=[]:=by have:=hg.symm;simp at this;exact this.2
     subst e1;subst e2;obtain⟨f1,f2,rfl,hu1,hu2⟩:=hu;have fl:∀{x:AC}{r'},x.kh=true->s.kh=true->o=x->oL os ss=some r'->r=x::r'->ca (gC A c.hw c.w) (v::vs) r (f1++f2):=by rintro x r' hx hs rfl hr rfl;obtain⟨rfl,_⟩:=tA (c':=c) hu1 hs;exact⟨[],f2,rfl,(tA hv1 hx).2,ih ss hr WS hu2⟩
     unfold oL at h;split at h;contradiction;rename_i ep rt t e0 xs0 os' t' e xs ss' h1 h2;injection h1 with h1 SP;subst h1;subst SP;injection h2 with h2 WC;subst h2;subst WC;cases ht:(t'==t)with
     |false=>rw[ht]at h;cases h
     |true=>
      have:t'=t:=by simpa using ht
      subst this;rw[ht]at h;simp only[ah]at h;obtain⟨r',hr,h⟩:=aY.1 h;cases h;have hv':=(hv1.2.2.2.2 rt t' rfl).2;have WR:=(hu1.2 t' rfl).2;have huv:u=v:=WR.trans hv'.symm;subst huv;exact⟨f1,f2,rfl,⟨hu1.1,by simp⟩,ih _ hr WS hu2⟩
     rename_i k n os' k' n' ss' h1 h2;injection h1 with h1 SP;subst SP;injection h2 with h2 WC;subst h2;subst WC;obtain⟨r',hr,h⟩:=aY.1 h;cases h;exact fl (x:=.int k n) rfl rfl h1 hr rfl;rename_i k os' k' ss' h1 h2;injection h1 with h1 SP;subst SP;injection h2 with h2 WC;subst h2;subst WC;obtain⟨r',hr,h⟩:=aY.1 h;cases h;exact fl (x:=.bool k) rfl rfl h1 hr rfl;rename_i k os' k' ss' h1 h2;injection h1 with h1 SP;subst SP;injection h2 with h2 WC;subst h2;subst WC;obtain⟨r',hr,h⟩:=aY.1 h;cases h;exact fl (x:=.str k) rfl rfl h1 hr rfl;cases h
theorem abP (h:iy c v x fp):iy (gC (λ_ b o=>c.S b o/\b<c.w.heap.size) (λ_=>0) c.w) v (x.asArg c.ep) []:=by
 have hS:∀{e:CT}{xs:aw e.D},jM c.w c.S (.sl e) [v] xs->jM c.w (λb o=>c.S b o/\b<c.w.heap.size) (.sl e) [v] xs:=λhr=>
  jM.mono (λb o u hs hu=>⟨⟨hs,World.block_lt_of_cell? c.w _ hu⟩,hu⟩) hr
 cases x with|int k n=>exact⟨h.1,rfl⟩|bool b=>exact⟨h.1,rfl⟩|str s=>exact⟨h.1,rfl⟩|kv=>exact⟨h.1,rfl⟩|fn f=>exact⟨h.1,rfl⟩|ptr s off=>exact rfl|un=>exact rfl|bot=>exact rfl|Ey fl e y i off=>exact rfl|sl fl e xs=>cases fl with|nest _ _ _ _ _ _=>exact rfl|part _ _ _ _=>exact rfl|fS _ _ _=>exact rfl|own t=>exact⟨rfl,hS (fR.rep (λb o ho=> .inr ho) h.1)⟩|arg k=>exact⟨rfl,hS (jM.mono (λb o u hs hu=>⟨.inl ⟨k,hs⟩,hu⟩) h.2)⟩|loc ep pv=>simp only[AC.asArg];split;rename_i he;exact⟨rfl,hS (h.2.2.2.1 (by simpa using he))⟩;exact rfl
theorem NH:∀{vs:jf}{xs:aw AC}{fp:fA},ca c vs xs fp->ca (gC (λ_ b o=>c.S b o/\b<c.w.heap.size) (λ_=>0) c.w) vs (xs.map (AC.asArg c.ep)) []
 |[],[],_,_=>rfl
 |_::_,_::_,_,h=>by obtain⟨f1,f2,rfl,h1,h2⟩:=h;exact⟨[],[],rfl,abP h1,NH h2⟩
 |[],_::_,_,h=>h.elim
 |_::_,[],_,h=>h.elim
theorem agB {x:AV}(h:gS c v x fp):gS (gC (λ_ b o=>c.S b o/\b<c.w.heap.size) (λ_=>0) c.w) v (x.asArg c.ep) []:=by
 cases x with
 |val g cs=>obtain⟨vs,hv,h⟩:=h;exact⟨vs,hv,NH h⟩
 |yC ts=>exact gS.bot _ _
theorem Yb (h:eE C g st a w []):∀(args:aw Operand),
 rq (λ_ b o=>(dq C g st w).S b o/\b<w.heap.size) w (args.map a.eval) (args.map λx=>((st.rd x).fresh st).asArg st.ep)
 |[]=>trivial
 |x::xs=>⟨agB (c:=dq C g st w) (h.fresh (h.rd x)),Yb h xs⟩
theorem abQ {A':Rg}{tag:az Nat}(h:iy (gC A' hw c.w) v x fp)(hA:∀k b o,A' k b o->c.S b o)(II:∀b∈fp,c.hw b=hw b)(ht:∀t,tag=some t->c.iss t/\v=c.hdr t):iy c v (x.GM c.ep tag) fp:=by
 cases x with
 |int k n=>exact h
 |bool b=>exact h
 |str s=>exact h
 |kv=>exact h
 |fn f=>exact h
 |ptr s off=>exact h.2.2
 |un=>exact h
 |bot=>exact h
 |Ey fl e y i off=>cases fl with|own t=>exact h.elim|nest _ _ _ _ _ _=>exact h.elim|part _ _ _ _=>exact h.elim|fS _ _ _=>exact h.elim|arg _=>exact h.1|loc ep pv=>exact h.1
 |sl fl e xs=>
  cases fl with
  |nest _ _ _ _ _ _=>exact h.1
  |part _ _ _ _=>exact h.1
  |fS _ _ _=>obtain⟨_,⟨k,hk,h3⟩,_⟩:=h;exact⟨λq hq=>(by cases hq),⟨k,hk,h3.mono (λb hb=>⟨rfl,II b hb⟩)⟩,by simp⟩
  |own t=>exact⟨fR.mono h.1 (λb hb=>⟨rfl,II b hb⟩),ht⟩
  |loc ep pv=>exact h.1
  |arg _=>have hr:jM c.w c.S (.sl e) [v] xs:=jM.mono (λb o u hs hu=>⟨hA _ b o hs,hu⟩) h.2;refine⟨h.1,bt _,?_,λ_=>hr,by simp⟩;obtain⟨u,hu,k⟩:=hr;simp at hu;subst hu;rcases k with⟨⟨ad,rfl⟩,rfl⟩|⟨b,o,cap,rfl,_⟩;exact⟨_,_,_,rfl,rfl⟩;exact⟨_,_,_,rfl,rfl⟩
theorem DJ {A':Rg}{mk:Nat->az Nat}(hA:∀k b o,A' k b o->c.S b o):∀{vs:jf}{xs:aw AC}{fp:fA}(j:Nat),ca (gC A' hw c.w) vs xs fp->(∀b∈fp,c.hw b=hw b)->
 (∀i v,vs[i]?=some v->∀t,mk (j+i)=some t->c.iss t/\v=c.hdr t)->ca c vs (LX c.ep mk j xs) fp
 |[],[],_,_,h,_,_=>h
 |v::_,_::_,_,j,h,hh,hm=>by obtain⟨f1,f2,rfl,h1,h2⟩:=h;exact⟨f1,f2,rfl,abQ h1 hA (λb hb=>hh b (bP _ hb)) (λt ht=>hm 0 v rfl t ht),DJ hA (j+1) h2 (λb hb=>hh b (bD _ hb)) (λi u hu t ht=>hm (i+1) u (by simpa using hu) t (by rwa[show j+(i+1)=j+1+i by omega]))⟩
 |[],_::_,_,_,h,_,_=>h.elim
 |_::_,[],_,_,h,_,_=>h.elim
inductive Leaves (A:Rg) (hw:Nat->Nat) (w:World):List Value->List (Bool×List AC)->List Nat->List Value->Prop
 |nil:Leaves A hw w [] [] [] []
 |cons {v:Value} {vs:List Value} {g:Bool} {cs:List AC} {ts:List (Bool×List AC)} {f1 f2:List Nat} {us all:List Value} (fU:Cut g v us) (hr:ca (gC A hw w) us cs f1) (h:Leaves A hw w vs ts f2 all):
  Leaves A hw w (v::vs) ((g,cs)::ts) (f1++f2) (us++all)
theorem M4 {A:Rg}{w:World}:∀{ws:jf}{ts:aw (Bool×aw AC)}{fp:fA},gS.so (gC A hw w) ws ts fp->∃all,Leaves A hw w ws ts fp all
 |[],[],_,h=>by cases h;exact⟨[],.nil⟩
 |_::_,(g,cs)::_,_,h=>by obtain⟨f1,f2,rfl,⟨us,fU,hr⟩,h2⟩:=h;obtain⟨all,Km⟩:=M4 h2;exact⟨us++all,.cons fU hr Km⟩
 |[],_::_,_,h=>h.elim
 |_::_,[],_,h=>h.elim
theorem Rs {A':Rg}{mk:Nat->az Nat}(hA:∀k b o,A' k b o->c.S b o){ws:jf}{ts:aw (Bool×aw AC)}(h:Leaves A' hw c.w ws ts fp all): ∀j,(∀b∈fp,c.hw b=hw b)->(∀i v,all[i]?=some v->∀t,mk (j+i)=some t->c.iss t/\v=c.hdr t)->gS.so c ws (aee c.ep mk j ts) fp:=by induction h with|nil=>intro j _ _;exact rfl| @cons v vs g cs ts f1 f2 us all fU hr h ih=>intro j hh hm;have hl:=hr.length;refine⟨f1,f2,rfl,⟨us,fU,DJ hA j hr (λb hb=>hh b (bP _ hb)) (λi u hu t ht=>?_)⟩,ih _ (λb hb=>hh b (bD _ hb)) (λi u hu t ht=>?_)⟩;exact hm i u (by rw[bK (aC.1 hu).1];exact hu) t ht;have hl':us.length=cs.length:=hl;refine hm (us.length+i) u (by rw[bA (by omega)];simpa using hu) t ?_;rw[<-gi,hl'];exact ht
def sJ (hdr:Nat->Value)(mk:Nat->az Nat)(all:jf):Nat->Value:=λu=>if mk (u/3%4096)=some u then(all[u/3%4096]?).getD undef else hdr u
theorem CS {t:Nat}(h:nH st t):sJ hdr (st.iU d) all t=hdr t:=by unfold sJ;rw[aK];intro e;exact(qX e).1 h
theorem CR {i t:Nat}(hv:all[i]?=some v)(h:st.iU d i=some t):v=sJ hdr (st.iU d) all t:=by
 obtain⟨_,_,d',rfl,ht,hi⟩:=qX h;have anI:t/3%4096=i:=by rw[ht,Mm];omega
 unfold sJ;rw[anI,aI h,hv];rfl
theorem aeG {vs us:jf}{seg:aw AC}{f1 f2 f3:fA}{off n:Nat}(hus:us=(vs.drop off).take n)(hln:us.length=n)(r1:ca c' (vs.take off) (cs.take off) f1)(r2:ca c' us seg f2)(r3:ca c' (vs.drop (off+n)) (cs.drop (off+n)) f3): ca c' vs (eX cs off seg) (f1++f2++f3):=by
 have Cz:=r2.length;have e:vs=vs.take off++us++vs.drop (off+n):=by rw[hus,bj,<-fE,cW,cW]
 rw[e,eX,show seg.length=n by omega];exact ca.append (ca.append r1 r2) r3
theorem Tz:∀(os ss:aw AC){r:aw AC},oL os ss=some r->ss.length=os.length:=by
 intro os
 induction os with
 |nil=>intro ss r h;cases ss with
  |nil=>rfl
  |cons _ _=>simp[oL]at h
 |cons o os ih=>
  intro ss r h
  cases ss with
  |nil=>unfold oL at h;split at h<;>first|contradiction|cases h
  |cons s ss=>
   unfold oL at h
   split at h
   ·contradiction
   ·rename_i h1 h2
    injection h1 with h1 SP;subst SP
    injection h2 with h2 WC;subst WC
    rw[Bool.cond_eq_ite]at h
    split at h
    ·obtain⟨r',hr,h⟩:=aY.1 h
     simp[ih _ hr]
    ·cases h
   all_goals first
    |cases h
    |(rename_i h1 h2
      injection h1 with h1 SP;subst SP
      injection h2 with h2 WC;subst WC
      obtain⟨r',hr,h⟩:=aY.1 h
      simp[ih _ hr])
theorem J7 {A':Rg}{mk:Nat->az Nat}{k:Bool}(hA:A' true=c.A k):∀{vs:jf}{xs:aw AC}{fp:fA}(j:Nat),ca (gC A' hw c.w) vs xs fp->xs.all (AC.BE true)=true->
 (∀b∈fp,c.hw b=hw b)->(∀i v,vs[i]?=some v->∀t,mk (j+i)=some t->c.iss t/\v=c.hdr t)->ca c vs (qQ k mk j xs) fp
 |[],[],_,_,h,_,_,_=>h
 |v::_,x::_,_,j,h,px,hh,hm=>by
  obtain⟨f1,f2,rfl,h1,h2⟩:=h;simp only[bX,af]at px;refine⟨f1,f2,rfl,?_,J7 hA (j+1) h2 px.2 (λb hb=>hh b (bD _ hb)) (λi u hu t ht=>hm (i+1) u (by simpa using hu) t (by rwa[show j+(i+1)=j+1+i by omega]))⟩;have II:∀b∈f1,c.hw b=hw b:=λb hb=>hh b (bP _ hb);have ht:∀t,mk j=some t->c.iss t/\v=c.hdr t:=λt ht=>hm 0 v rfl t ht;have px:=px.1;cases x with
  |sl fl e xs=>
   cases fl with
   |own t=>exact⟨fR.mono h1.1 (λb hb=>⟨rfl,II b hb⟩),ht⟩
   |arg k'=>
    have hk:k'=true:=by simpa[AC.BE]using px
    subst hk;exact⟨h1.1,by rw[<-hA];exact h1.2⟩
   |loc _ _=>cases px
   |nest _ _ _ _ _ _=>cases px
   |part _ _ _ _=>cases px
   |fS _ _ _=>cases px
  |int _ _=>exact h1
  |bool _=>exact h1
  |str _=>exact h1
  |fn _=>exact h1
  |kv=>cases px
  |ptr _ _=>cases px
  |Ey _ _ _ _ _=>cases px
  |un=>cases px
  |bot=>cases px
 |[],_::_,_,_,h,_,_,_=>h.elim
 |_::_,[],_,_,h,_,_,_=>h.elim
theorem Mn {A':Rg}{w:World}{k:Bool}:∀{cs:aw AC},cs.all (AC.BE k)=true->∀{c:RC}{vs:jf}{fp:fA},ca c vs cs fp->c.w=w->c.hw=hw->A' true=c.A k->ca (gC A' hw w) vs (cs.map AC.XP) fp
 |[],_,c,vs,fp,h,_,_,_=>by cases vs with|nil=>exact h|cons _ _=>exact h.elim
 |x::cs,px,c,vs,fp,h,XZ,Je,hA=>by
  cases vs with
  |nil=>exact h.elim
  |cons v vs=>
   obtain⟨f1,f2,rfl,h1,h2⟩:=h;simp only[bX,af]at px;refine⟨f1,f2,rfl,?_,Mn px.2 h2 XZ Je hA⟩;have px:=px.1;cases x with
   |sl fl e xs=>
    cases fl with
    |own t=>exact⟨by have:=h1.1;rw[XZ,Je]at this;exact this,by simp⟩
    |arg k'=>
     have hk:k'=k:=by simpa[AC.BE]using px
     subst hk;exact⟨h1.1,by have:=h1.2;rw[XZ,<-hA]at this;exact this⟩
    |loc _ _=>cases px
    |nest _ _ _ _ _ _=>cases px
    |part _ _ _ _=>cases px
    |fS _ _ _=>cases px
   |int _ _=>exact h1
   |bool _=>exact h1
   |str _=>exact h1
   |fn _=>exact h1
   |kv=>cases px
   |ptr _ _=>cases px
   |Ey _ _ _ _ _=>cases px
   |un=>cases px
   |bot=>cases px
theorem UQ (h:eE C g st a w [])(s:Nat){A':Rg}(hA:∀b o,(dq C g st w).S b o/\b<w.heap.size/\g.fj b≠some (.box s)->A' false b o):∀(xs:aw Operand),xs.all (Fj st)=true->
 rq A' w (xs.map a.eval) (xs.map (Ec st))
 |[],_=>trivial
 |x::xs,hx=>by
  simp only[bX,af]at hx;refine⟨?_,UQ h s hA xs hx.2⟩;have hx:=hx.1;cases x with
  |const _=>exact QN (h.rd _) hx
  |func _=>exact QN (h.rd _) hx
  |global _=>exact QN (h.rd _) hx
  |tmp t=>
   have iG:∀(t0:Nat){e:CT}{v:Value}{xs:aw e.D}{fp:fA},fR g.hw w (.sl e) [v] xs fp->(∀b∈fp,g.fj b=some (.slot t0))->jM w (A' false) (.sl e) [v] xs:=by
    intro t0 e v xs fp h1 hl;have h3:fR (λb=>if b∈fp then g.hw b else 0) w (.sl e) [v] xs fp:=fR.mono h1 (λb hb=>⟨rfl,by simp[hb]⟩)
    exact fR.rep (λb o ho=>by
     by_cases hb:b∈fp;have ho:o<g.hw b:=by simpa[hb]using ho
     have Uz:=hl b hb;exact hA b o ⟨.inr ho,(h.gN b _ Uz).1,by rw[Uz];simp⟩;simp[hb]at ho) h3
   obtain⟨fp,hr,hn,hl⟩:=h.slot t;simp only[Fj]at hx;show gS _ (a.tmps.getD t undef) (Ec st (.tmp t)) _;simp only[Ec];cases hv:st.get t with
   |yC _=>rw[hv]at hx;cases hx
   |val gg cs=>
    rw[hv]at hx hr;simp only at hx;obtain⟨vs,fU,hr⟩:=hr
    have key:∀(cs:aw AC)(vs:jf)(fp:fA),(cs.map st.Tn).all AC.MH=true->(∀b∈fp,g.fj b=some (.slot t))->ca (dq C g st w) vs cs fp->
     ca (gC A' (λ_=>0) w) vs (cs.map st.Tn) []:=by
     intro cs
     induction cs with
     |nil=>intro vs fp _ _ h;cases vs with
      |nil=>rfl
      |cons _ _=>exact h.elim
     |cons c cs ih=>
      intro vs fp hc hl hr
      cases vs with
      |nil=>exact hr.elim
      |cons v vs=>
       obtain⟨f1,f2,rfl,h1,h2⟩:=hr
       simp only[db,bX,af]at hc
       refine⟨[],[],rfl,?_,ih vs f2 hc.2 (λb hb=>hl b (bD _ hb)) h2⟩
       have hc:=hc.1
       cases c with
       |sl fl e xs=>
        cases fl with
        |own tag=>exact⟨rfl,iG t h1.1 (λb hb=>hl b (bP _ hb))⟩
        |arg k=>exact⟨rfl,jM.mono (λb o u hs hu=>⟨hA b o ⟨.inl ⟨k,hs⟩,World.block_lt_of_cell? w _ hu,λhb=>h.Rq hb k o hs⟩,hu⟩) h1.2⟩
        |loc ep pv=>
         cases pv with
         |none=>cases hc
         |some q=>
          obtain⟨r,tg⟩:=q
          cases r with
          |box _ _=>cases hc
          |io _=>cases hc
          |slot b j=>
           have WS:=(h1.2.2.2.2 (.slot b j) tg rfl).2
           simp only[AS.Tn]at hc⊢
           cases hrg:st.fL (.slot b j)with
           |none=>rw[hrg]at hc;cases hc
           |some c0=>
            rw[hrg]at hc
            split at hc
            ·rename_i t' e' ys hc0
             split at hc
             ·rename_i ht
              subst ht
              cases hc0
              rw[aI rfl]
              obtain⟨fp2,Th,_,Cz⟩:=h.slot b
              simp only[AS.fL]at hrg
              cases hgb:st.get b with
              |yC _=>rw[hgb]at hrg;cases hrg
              |val g2 Hd=>
               rw[hgb]at hrg Th
               simp only at hrg
               obtain⟨vs2,_,Th⟩:=Th
               rw[ez]at hrg
               obtain⟨v2,f3,_,Q9,sK⟩:=Th.get j _ hrg
               have ayE:v=v2:=by have:=(Q9.2 t' rfl).2;rw[WS,this]
               rw[ayE]
               exact⟨rfl,iG b Q9.1 (λb' iz=>Cz b' (sK b' iz))⟩
             ·cases hc
            ·cases hc
        |nest _ _ _ _ _ _=>cases hc
        |part _ _ _ _=>cases hc
        |fS _ _ _=>cases hc
       |int _ _=>exact⟨h1.1,rfl⟩
       |bool _=>exact⟨h1.1,rfl⟩
       |str _=>exact⟨h1.1,rfl⟩
       |fn _=>exact⟨h1.1,rfl⟩
       |kv=>cases hc
       |ptr _ _=>cases hc
       |Ey _ _ _ _ _=>cases hc
       |un=>cases hc
       |bot=>cases hc
    exact⟨vs,fU,key cs vs fp hx hl hr⟩
theorem eE.ank (h:eE C g st a w [])(s:Nat)(kD:st.boxes[s]?=some (some cs)): ∃arr T fr fp,w.heap[g.β s]?=some (.cells arr T fr)/\rm arr fr/\ca (dq C g st w) arr.toList cs fp/\fp.Nodup/\g.β s∉fp/\(∀b∈fp,b<w.heap.size)/\g.hw (g.β s)=0/\(∀b,b=g.β s\/b∈fp->g.fj b=some (.box s))/\ ∀(w':World)(hw':Nat->Nat)(jv:Array Value)(T':TypeId)(Uj:Nat×Nat)(sB:aw AC)(ld fv:fA)(A':Rg)(k:Bool),Fr (λb=>b=g.β s\/b∈fp) w w'->w'.heap[g.β s]?=some (.cells jv T' Uj)->rm jv Uj-> A' true=C.A k->ca (gC A' hw' w') jv.toList sB ld->sB.all (AC.BE true)=true->ld.Nodup->g.β s∉ld->(∀b∈ld,b<w'.heap.size/\(b∈fp\/w.heap.size<=b))-> (∀b∈fv,b<w'.heap.size/\(b∈fp\/w.heap.size<=b)/\b∉ld/\b≠g.β s)-> ∃g',eE C g' (ae2 st s (qQ k (st.iU (some s)) 0 sB)) a w' []/\(∀b∈fv,g'.fj b=some (.hand 0)/\g'.hw b=hw' b)/\∀b,b<w.heap.size->g.fj b≠some (.box s)->g'.hw b=g.hw b:=by
 obtain⟨arr,T,fr,fp,lf,uO,hr,hn,yL,hl,KO,KR⟩:=h.boxes s cs kD;have BO:s<st.boxes.length:=(aC.1 kD).1;have Q2:∀b,b=g.β s\/b∈fp->g.fj b=some (.box s):=by rintro b (rfl|hb);exact KO;exact hl b hb
 refine⟨arr,T,fr,fp,lf,uO,hr,hn,yL,λb hb=>(h.gN b _ (hl b hb)).1,KR,Q2,?_⟩;intro w' hw' jv T' Uj sB ld fv A' k jt Lo Zy hA' yM aqx Fb Lp MS N2;let bx':aw AC:=qQ k (st.iU (some s)) 0 sB;let cp:AS:=ae2 st s bx';let hw2:Nat->Nat:=λb=>if b∈ld\/b∈fv then hw' b else if b=g.β s then 0 else g.hw b
 let alm:Nat->az kK:=λb=>if b=g.β s\/b∈ld then some (.box s) else if b∈fv then some (.hand 0) else g.fj b
 let g':Gh:=⟨hw2,g.β,alm,sJ g.hdr (st.iU (some s)) jv.toList⟩
 have wJ:cp.boxes=st.boxes.set s (some bx'):=by show((st.fD s (some bx')).fW (some s)).boxes=_;rw[DL,kZ]
 have Ra:cp.slots=st.slots:=by show((st.fD s (some bx')).fW (some s)).slots=_;rw[xa];rfl
 have Tf:cp.io=st.io:=by show((st.fD s (some bx')).fW (some s)).io=_;rw[LB];rfl
 have O5:∀t,nH st t->nH cp t:=λt ht=>by have h1:nH (st.fD s (some bx')) t:=ht;exact Ga (d:=some s) h1
 have hpr:∀t,jL st t->jL cp t:=by rintro t ⟨c0,hc0⟩;by_cases vK:s=t;subst vK;exact⟨bx',by rw[wJ];simp[BO]⟩;exact⟨c0,by rw[wJ,aR vK];exact hc0⟩
 have ag7:∀b,b<w.heap.size->g.fj b≠some (.box s)->b∉ld/\b∉fv/\b≠g.β s:=by intro b hb Uz;refine⟨λhm=>?_,λhm=>?_,λhm=>Uz (Q2 b (.inl hm))⟩;rcases(MS b hm).2 with h2|h2;exact Uz (Q2 b (.inr h2));omega;rcases(N2 b hm).2.1 with h2|h2;exact Uz (Q2 b (.inr h2));omega
 have vc:∀b x,x≠ .box s->g.fj b=some x->alm b=some x/\w'.heap[b]?=w.heap[b]?/\hw2 b=g.hw b:=by intro b x hx hb;have IG:=(h.gN b x hb).1;have hnm:¬(b=g.β s\/b∈fp):=λhm=>hx (by have:=Q2 b hm;rw[hb]at this;simpa using this);obtain⟨n1,n2,n3⟩:=ag7 b IG (by rw[hb];simpa using hx);refine⟨?_,jt.block b IG hnm,?_⟩;show(if b=g.β s\/b∈ld then _ else if b∈fv then _ else _)=_;rw[aK (by rintro(h1|h1);exact n3 h1;exact n1 h1),aK n2];exact hb;show(if b∈ld\/b∈fv then _ else if b=g.β s then _ else _)=_;rw[aK (by rintro(h1|h1);exact n1 h1;exact n2 h1),aK n3]
 have hcA:∀k b o u,C.A k b o->w.cell? ⟨b,o,none⟩=some u->w'.cell? ⟨b,o,none⟩=some u:=by intro k b o u hA hu;have hb:b<w.heap.size:=World.block_lt_of_cell? w _ hu;rw[World.cell?_of_block (a:=⟨b,o,none⟩) (jt.block b hb (λhm=>h.Rq (Q2 b hm) k o hA))];exact hu
 have hle:(dq C g st w).Le (dq C g' cp w'):=⟨rfl,λt ht=>⟨O5 t ht,CS ht⟩,hcA,Nat.le_succ _,λt ht=>⟨hpr t ht,rfl⟩,λhe=>absurd he (Nat.succ_ne_self _)⟩
 refine⟨g',h.step (λx=>x≠ .box s) hle h.defers ?_ ?_ ?_ ?_ (λb x hk hb=>vc b x hk hb) ?_ ?_ (λk u bv hk=>by simp at hk) (.inl ⟨by simp,Tf⟩),λb hb=>?_,λb hb Uz=>?_⟩;rw[Ra];exact h.size;rw[Ra,wJ,ay];exact h.bsize;refine h.frame.trans jt (λb hb hm=>?_);rcases(h.gN b _ (Q2 b hm)).2 with h2|h2;omega;exact h2;intro b x hx;have D6:(if b=g.β s\/b∈ld then some (kK.box s) else if b∈fv then some (.hand 0) else g.fj b)=some x:=hx;have hz:=jt.size;have hold:b∈fp\/w.heap.size<=b->C.w0.heap.size<=b\/C.M b:=by rintro(h2|h2);exact(h.gN b _ (hl b h2)).2;exact .inl (bp h.frame.size h2)
 split at D6;rename_i hm;rcases hm with rfl|hm;have:=h.gN _ _ KO;exact⟨by omega,this.2⟩;exact⟨(MS b hm).1,hold (MS b hm).2⟩;split at D6;rename_i hm;exact⟨(N2 b hm).1,hold (N2 b hm).2.1⟩;have:=h.gN b x D6;exact⟨by omega,this.2⟩;intro i av hi;rw[Ra]at hi;exact .inl ⟨by simp,hi,rfl⟩;intro t Hd hb;rw[wJ]at hb;by_cases vK:t=s;subst vK;rw[bO]at hb;simp only[cz,BO]at hb;simp at hb;subst hb;refine .inr ⟨jv,T',Uj,ld,Lo,Zy,?_,Fb,Lp,λb hb=>?_,?_,?_⟩
 have:=J7 (c:=dq C g' cp w') (A':=A') (hw:=hw') (mk:=st.iU (some t)) (k:=k) hA' 0 (vs:=jv.toList) (xs:=sB) (fp:=ld) yM aqx
  (λb hb=>by show(if b∈ld\/b∈fv then _ else _)=_;rw[aI (.inl hb)])
  (λi u hu q hq=>by
   rw[cO]at hq;have hm:=qX hq;have hm2:nH cp q:=by have h1:st.iU (some t) i=some q:=hq;have h2:(st.fD t (some bx')).iU (some t) i=some q:=h1;exact(qX h2).2.1
   exact⟨hm2,CR hu hq⟩)
 exact this;show(if b=g.β t\/b∈ld then _ else _)=_;rw[aI (.inr hb)];show(if g.β t=g.β t\/g.β t∈ld then _ else _)=_;rw[aI (.inl rfl)];show(if g.β t∈ld\/g.β t∈fv then _ else if g.β t=g.β t then _ else _)=_;rw[aK (by rintro(h1|h1);exact Lp h1;exact(N2 _ h1).2.2.2 rfl),aI rfl];rw[aR (df vK)]at hb;exact .inl ⟨by simpa using vK,hb,rfl⟩;obtain⟨_,_,h3,h4⟩:=N2 b hb;refine⟨?_,?_⟩;show(if b=g.β s\/b∈ld then _ else if b∈fv then _ else _)=_;rw[aK (by rintro(h1|h1);exact h4 h1;exact h3 h1),aI hb];show(if b∈ld\/b∈fv then _ else _)=_;rw[aI (.inr hb)];obtain⟨n1,n2,n3⟩:=ag7 b hb Uz;show(if b∈ld\/b∈fv then _ else if b=g.β s then _ else _)=_;rw[aK (by rintro(h1|h1);exact n1 h1;exact n2 h1),aK n3]
theorem VS:∀{vs:jf}{cs:aw AC}{fp:fA},ca c vs cs fp->cs.all AC.KW=true->fp=[]
 |[],[],_,h,_=>h
 |[],_::_,_,h,_=>h.elim
 |_::_,[],_,h,_=>h.elim
 |v::vs,x::cs,fp,h,hx=>by
  obtain⟨f1,f2,rfl,h1,h2⟩:=h;simp only[bX,af]at hx;rw[VS h2 hx.2,bR];have hx:=hx.1;cases x with
  |sl fl e xs=>cases fl<;>first|exact h1.1|cases hx
  |int k n=>exact h1.2
  |bool b=>exact h1.2
  |str s=>exact h1.2
  |fn f=>exact h1.2
  |kv=>cases hx
  |ptr _ _=>cases hx
  |Ey _ _ _ _ _=>cases hx
  |un=>cases hx
  |bot=>cases hx
theorem eE.ajp (h:eE C g st a w [])(s:Nat)(kD:st.boxes[s]?=some (some cs))(MB:cs.all AC.KW=true): ∀(w':World)(hw':Nat->Nat)(jv:Array Value)(T':TypeId)(Uj:Nat×Nat)(sB:aw AC)(ld fv:fA)(A':Rg)(k:Bool),Fr (λb=>b=g.β s) w w'->w'.heap[g.β s]?=some (.cells jv T' Uj)->rm jv Uj-> A' true=C.A k->ca (gC A' hw' w') jv.toList sB ld->sB.all (AC.BE true)=true->ld.Nodup->g.β s∉ld->(∀b∈ld,b<w'.heap.size/\w.heap.size<=b)-> (∀b∈fv,b<w'.heap.size/\w.heap.size<=b/\b∉ld/\b≠g.β s)-> ∃g',eE C g' (st.fD s (some (qQ k (λ_=>none) 0 sB))) a w' []/\(∀b∈fv,g'.fj b=some (.hand 0)/\g'.hw b=hw' b)/\∀b,b<w.heap.size->g.fj b≠some (.box s)->g'.hw b=g.hw b:=by
 obtain⟨arr,T,fr,fp,lf,uO,hr,hn,yL,hl,KO,KR⟩:=h.boxes s cs kD;have aqi:fp=[]:=VS hr MB;subst aqi;have BO:s<st.boxes.length:=(aC.1 kD).1;intro w' hw' jv T' Uj sB ld fv A' k jt Lo Zy hA' yM aqx Fb Lp MS N2;let bx':aw AC:=qQ k (λ_=>none) 0 sB;let cp:AS:=st.fD s (some bx');let hw2:Nat->Nat:=λb=>if b∈ld\/b∈fv then hw' b else if b=g.β s then 0 else g.hw b
 let alm:Nat->az kK:=λb=>if b=g.β s\/b∈ld then some (.box s) else if b∈fv then some (.hand 0) else g.fj b
 let g':Gh:=⟨hw2,g.β,alm,g.hdr⟩
 have wJ:cp.boxes=st.boxes.set s (some bx'):=by show(st.fD s (some bx')).boxes=_;rw[kZ]
 have hpr:∀t,jL st t->jL cp t:=by rintro t ⟨c0,hc0⟩;by_cases vK:s=t;subst vK;exact⟨bx',by rw[wJ];simp[BO]⟩;exact⟨c0,by rw[wJ,aR vK];exact hc0⟩
 have hold:∀b,b<w.heap.size->b∉ld/\b∉fv:=by intro b hb;refine⟨λhm=>?_,λhm=>?_⟩;have:=(MS b hm).2;omega;have:=(N2 b hm).2.1;omega
 have II:∀b,b<w.heap.size->b≠g.β s->hw2 b=g.hw b:=by intro b hb Fe;show(if b∈ld\/b∈fv then _ else if b=g.β s then _ else _)=_;rw[aK (by rintro(h1|h1);exact(hold b hb).1 h1;exact(hold b hb).2 h1),aK Fe]
 have vc:∀b x,x≠ .box s->g.fj b=some x->alm b=some x/\w'.heap[b]?=w.heap[b]?/\hw2 b=g.hw b:=by intro b x hx hb;have IG:=(h.gN b x hb).1;have Fe:b≠g.β s:=λhm=>hx (by rw[hm,KO]at hb;simpa using hb.symm);refine⟨?_,jt.block b IG Fe,II b IG Fe⟩;show(if b=g.β s\/b∈ld then _ else if b∈fv then _ else _)=_;rw[aK (by rintro(h1|h1);exact Fe h1;exact(hold b IG).1 h1),aK (hold b IG).2];exact hb
 have hcA:∀k b o u,C.A k b o->w.cell? ⟨b,o,none⟩=some u->w'.cell? ⟨b,o,none⟩=some u:=by intro k b o u hA hu;have hb:b<w.heap.size:=World.block_lt_of_cell? w _ hu;rw[World.cell?_of_block (a:=⟨b,o,none⟩) (jt.block b hb (λhm=>h.Rq (by rw[hm];exact KO) k o hA))];exact hu
 have hle:(dq C g st w).Le (dq C g' cp w'):=by
  refine⟨rfl,λt ht=>⟨ht,rfl⟩,hcA,bt _,λt ht=>⟨hpr t ht,rfl⟩,λ_ b o u ho hu=>?_⟩;have hb:b<w.heap.size:=World.block_lt_of_cell? w _ hu;have O7:o<g.hw b:=ho;have Fe:b≠g.β s:=λe=>by rw[e,KR]at O7;omega
  refine⟨by show o<hw2 b;rw[II b hb Fe];exact O7,?_⟩;show w'.cell? ⟨b,o,none⟩=some u;rw[World.cell?_of_block (a:=⟨b,o,none⟩) (jt.block b hb Fe)];exact hu
 refine⟨g',h.step (λx=>x≠ .box s) hle h.defers h.size ?_ ?_ ?_ (λb x hk hb=>vc b x hk hb) ?_ ?_ (λk u bv hk=>by simp at hk) (.inl ⟨by simp,rfl⟩),λb hb=>?_,λb hb Uz=>?_⟩;rw[wJ,ay];exact h.bsize;refine h.frame.trans jt (λb hb hm=>?_);have hm:b=g.β s:=hm;subst hm;rcases(h.gN _ _ KO).2 with h2|h2;omega;exact h2;intro b x hx;have D6:(if b=g.β s\/b∈ld then some (kK.box s) else if b∈fv then some (.hand 0) else g.fj b)=some x:=hx;have hz:=jt.size;split at D6;rename_i hm;rcases hm with rfl|hm;have:=h.gN _ _ KO;exact⟨by omega,this.2⟩;exact⟨(MS b hm).1,.inl (bp h.frame.size (MS b hm).2)⟩;split at D6;rename_i hm;exact⟨(N2 b hm).1,.inl (bp h.frame.size (N2 b hm).2.1)⟩;have:=h.gN b x D6;exact⟨by omega,this.2⟩;intro i av hi;exact .inl ⟨by simp,hi,rfl⟩;intro t Hd hb;rw[wJ]at hb;by_cases vK:t=s;subst vK;rw[bO]at hb;simp only[cz,BO]at hb;simp at hb;subst hb;refine .inr ⟨jv,T',Uj,ld,Lo,Zy,?_,Fb,Lp,λb hb=>?_,?_,?_⟩;have:=J7 (c:=dq C g' cp w') (A':=A') (hw:=hw') (mk:=λ_=>none) (k:=k) hA' 0 (vs:=jv.toList) (xs:=sB) (fp:=ld) yM aqx (λb hb=>by show(if b∈ld\/b∈fv then _ else _)=_;rw[aI (.inl hb)]) (λi u hu q hq=>by cases hq);exact this;show(if b=g.β t\/b∈ld then _ else _)=_;rw[aI (.inr hb)];show(if g.β t=g.β t\/g.β t∈ld then _ else _)=_;rw[aI (.inl rfl)];show(if g.β t∈ld\/g.β t∈fv then _ else if g.β t=g.β t then _ else _)=_;rw[aK (by rintro(h1|h1);exact Lp h1;exact(N2 _ h1).2.2.2 rfl),aI rfl];rw[aR (df vK)]at hb;exact .inl ⟨by simpa using vK,hb,rfl⟩;obtain⟨_,_,h3,h4⟩:=N2 b hb;refine⟨?_,?_⟩;show(if b=g.β s\/b∈ld then _ else if b∈fv then _ else _)=_;rw[aK (by rintro(h1|h1);exact h4 h1;exact h3 h1),aI hb];show(if b∈ld\/b∈fv then _ else _)=_;rw[aI (.inr hb)];exact II b hb (λe=>Uz (by rw[e];exact KO))
theorem ap8 (DA:∀f,jl P f (Γ f)){o':Oper}(ho:o'.op=.call {callee:=.value f,args,argTypes:=ts})(hg:eE C g st a w []){k:Nat}(hf:st.rd f=.val false [.fn k])(kD:(Γ k).bx=true){K:AS->az R}(hk:xh Γ o' k args.toList st K=some r)(next:Act->World->Prop)(Q:Exit->Act->World->Prop)(il:∀cp a' w',py C cp a' w'->K cp=some r->next a' w'):o'.wp P a w next Q:=by
 have N2:=hg.rd f;rw[hf]at N2;have N2:=(fu N2).1;unfold xh at hk;split at hk
 ·rename_i x0 xs gP;split at hk
  ·rename_i s hx0;split at hk
   ·rename_i cs Uw;have hb:st.boxes[s]?=some (some cs):=by rw[ez]at Uw;cases hq:st.boxes[s]? with|none=>rw[hq]at Uw;simp at Uw|some q=>rw[hq]at Uw;simp at Uw;rw[Uw]
    cases hc:(cs.all (AC.BE (GL cs))&&xs.all (Fj st))with
    |false=>rw[hc]at hk;cases hk
    |true=>
     rw[hc]at hk;simp only[ah]at hk;simp only[af]at hc;cases jO:(Γ k).fn (.val true (cs.map AC.XP)::xs.map (Ec st))with
     |none=>rw[jO]at hk;cases hk
     |some y=>
      rw[jO]at hk;simp only[aa]at hk;cases Zm:(((Γ k).back y).all (AC.BE true)&&((Γ k).av y).ahS)with
      |false=>rw[Zm]at hk;cases hk
      |true=>
       rw[Zm]at hk;simp only[ah]at hk;simp only[af]at Zm;obtain⟨⟨fn,c,Td,Zl,HF⟩,_,_,Ez,_⟩:=DA k _ y jO;have Ez:=Ez kD _ _ rfl;have Q8:=hg.rd x0;rw[hx0]at Q8;have xd:=Eg Q8;obtain⟨arr,T,fr,fp,lf,uO,fO,hn,yL,gr,KR,Ko,pB⟩:=hg.ank s hb;let A':Rg:=λq b o=>bif q then C.A (GL cs) b o else((dq C g st w).S b o/\b<w.heap.size/\g.fj b≠some (.box s))
       have hA':∀q b' o,A' q b' o->b'<w.heap.size/\b'≠g.β s/\b'∉fp:=by
        intro q b' o hq;have key:b'<w.heap.size/\g.fj b'≠some (.box s):=by cases q with|true=>have hq:C.A (GL cs) b' o:=hq;exact⟨Nat.lt_of_lt_of_le (C.hA _ _ _ hq).1 hg.frame.size,λhb=>hg.Rq hb _ o hq⟩|false=>exact hq.2
        exact⟨key.1,λe=>key.2 (Ko b' (.inl e)),λe=>key.2 (Ko b' (.inr e))⟩
       have N0:=Ez A' w (g.β s) (xs.map a.eval) arr T fr g.hw fp hA' lf uO (Mn (k:=GL cs) hc.1 fO rfl rfl rfl) hn yL gr KR (UQ hg s (λb o h=>h) xs hc.2);have ayA:a.eval x0=.pointer (some ⟨g.β s,0,none⟩):=xd;have aqd:(Value.pointer (some ⟨g.β s,0,none⟩)::xs.map a.eval).toArray=args.map a.eval:=by apply fN;simp[gP,ayA]
       rw[aqd]at N0;have fg:(execOp a.eval o').run P w=.ok (.enter k (args.map a.eval)) w:=by simp[execOp,ho,resolve,N2,Deferred.ofValue,invoke,callFunc,Td,Zl];simpa using HF
       unfold Oper.wp;rw[fg,Oper.upon_enter];refine N0.mono ?_;rintro e w' ⟨v,hw',fv,jv,T',Uj,ld,rfl,UE,Lo,Zy,yM,Fb,Lp,MS,hnv,akR,jt⟩;show next (a.put o'.dst v) w'
       have tail:∀(st1:AS)(g':Gh),eE C g' st1 a w' []->(∀b∈fv,g'.fj b=some (.hand 0)/\g'.hw b=hw' b)->(∀b,b<w.heap.size->g.fj b≠some (.box s)->g'.hw b=g.hw b)->
        K ((st1.fW o'.dst).put o'.dst (((Γ k).av y).GM st1.ep (st1.iU o'.dst)))=some r->next (a.put o'.dst v) w':=by
        intro st1 g' pw hlv hold hk
        have hAS:∀(hd:Nat->Value)(q:Bool)(b o:Nat),A' q b o->(dq C {g' with hdr:=hd} (st1.fW o'.dst) w').S b o:=by intro hd q b o hq;cases q with|true=>exact .inl ⟨_,hq⟩|false=>rcases hq.1 with hs|hs;exact .inl hs;exact .inr (by show o<g'.hw b;rw[hold b hq.2.1 hq.2.2];exact hs)
        have akP:∀b∈fv,g'.hw b=hw' b:=λb hb=>(hlv b hb).2
        have yM:∃hd,(∀t,nH st1 t->hd t=g'.hdr t)/\gS (dq C {g' with hdr:=hd} (st1.fW o'.dst) w') v (((Γ k).av y).GM st1.ep (st1.iU o'.dst)) fv:=by
         generalize (Γ k).av y=y at UE;cases y with
         |val gg cs=>obtain⟨vs,fU,hr⟩:=UE;refine⟨sJ g'.hdr (st1.iU o'.dst) vs,λt ht=>CS ht,vs,fU,?_⟩;have:=DJ (c:=dq C {g' with hdr:=sJ g'.hdr (st1.iU o'.dst) vs} (st1.fW o'.dst) w') (mk:=st1.iU o'.dst) (hAS _) 0 hr akP (λi u hu t ht=>by rw[cO]at ht;exact⟨(qX ht).2.1,CR hu ht⟩);have Bs:(dq C {g' with hdr:=sJ g'.hdr (st1.iU o'.dst) vs} (st1.fW o'.dst) w').ep=st1.ep:=CN;rw[Bs]at this;exact this
         |yC ts=>obtain⟨ws,hv,hr⟩:=UE;obtain⟨all,Km⟩:=M4 hr;refine⟨sJ g'.hdr (st1.iU o'.dst) all,λt ht=>CS ht,ws,hv,?_⟩;have:=Rs (c:=dq C {g' with hdr:=sJ g'.hdr (st1.iU o'.dst) all} (st1.fW o'.dst) w') (mk:=st1.iU o'.dst) (hAS _) Km 0 akP (λi u hu t ht=>by rw[cO]at ht;exact⟨(qX ht).2.1,CR hu ht⟩);have Bs:(dq C {g' with hdr:=sJ g'.hdr (st1.iU o'.dst) all} (st1.fW o'.dst) w').ep=st1.ep:=CN;rw[Bs]at this;exact this
        obtain⟨hd,hhd,yM⟩:=yM
        obtain⟨g2,Kn⟩:=pw.RV o'.dst (hw':=g'.hw) (hdr':=hd) (fp:=fv) (st1:=st1.fW o'.dst) LB xa DL CN (λt ht=>⟨Ga ht,hhd t ht⟩)
         (Fr.refl _ _) (λ_ _ _ _=>rfl) (λ_ _ _ ho hu=>⟨ho,hu⟩) yM hnv (λb hb=>⟨(akR b hb).1,.inl (by rw[(hlv b hb).1];rfl)⟩)
        exact il _ _ _ ⟨g2,Kn⟩ hk
       cases hcur:((Γ k).cur&&cs.all AC.KW)with
       |false=>rw[hcur]at hk;obtain⟨g',pw,hlv,hold⟩:=pB w' hw' jv T' Uj ((Γ k).back y) ld fv A' (GL cs) jt Lo Zy rfl yM Zm.1 Fb Lp MS akR;exact tail _ g' pw hlv hold hk
       |true=>rw[hcur]at hk;simp only[af]at hcur;have aqi:fp=[]:=VS fO hcur.2;subst aqi;obtain⟨g',pw,hlv,hold⟩:=hg.ajp s hb hcur.2 w' hw' jv T' Uj ((Γ k).back y) ld fv A' (GL cs) ⟨jt.os,jt.tape,jt.output,jt.size,λb hb hm=>jt.block b hb (λhh=>hm (hh.resolve_right (by simp)))⟩ Lo Zy rfl yM Zm.1 Fb Lp (λb hb=>⟨(MS b hb).1,(MS b hb).2.resolve_left (by simp)⟩) (λb hb=>⟨(akR b hb).1,(akR b hb).2.1.resolve_left (by simp),(akR b hb).2.2⟩);exact tail _ g' pw hlv hold hk
   cases hk
  cases hk
 cases hk
theorem arg_val (hA:c'.A=c.A)(hw:c'.w=c.w){x:AV}(h:gS c v x fp)(hx:x.MH=true):fp=[]/\gS c' v x []:=by
 cases x with
 |yC _=>cases hx
 |val g cs=>
  obtain⟨vs,fU,h⟩:=h
  have key:∀(cs:aw AC)(vs:jf)(fp:fA),ca c vs cs fp->cs.all AC.MH=true->fp=[]/\ca c' vs cs []:=by
   intro cs
   induction cs with
   |nil=>intro vs fp h _;cases vs with
    |nil=>exact⟨h,rfl⟩
    |cons _ _=>exact h.elim
   |cons x cs ih=>
    intro vs fp h hx
    cases vs with
    |nil=>exact h.elim
    |cons v vs=>
     obtain⟨f1,f2,rfl,h1,h2⟩:=h
     simp only[bX,af]at hx
     obtain⟨rfl,k2⟩:=ih vs f2 h2 hx.2
     have hx:=hx.1
     have one:f1=[]/\iy c' v x []:=by
      cases x with
      |sl fl e xs=>cases fl with|arg k=>exact⟨h1.1,rfl,by rw[hA,hw];exact h1.2⟩|own _=>cases hx|loc _ _=>cases hx|nest _ _ _ _ _ _=>cases hx|part _ _ _ _=>cases hx|fS _ _ _=>cases hx
      |int _ _=>exact tA h1 rfl
      |bool _=>exact tA h1 rfl
      |str _=>exact tA h1 rfl
      |fn _=>exact tA h1 rfl
      |kv=>cases hx
      |ptr _ _=>cases hx
      |Ey _ _ _ _ _=>cases hx
      |un=>cases hx
      |bot=>cases hx
     obtain⟨rfl,k1⟩:=one
     exact⟨rfl,[],[],rfl,k1,k2⟩
  obtain⟨e,k⟩:=key cs vs fp h hx;exact⟨e,vs,fU,k⟩
theorem Ya (h:eE C g st a w []):∀(xs:aw Operand),xs.all (λx=>(st.rd x).MH)=true->rq C.A w (xs.map a.eval) (xs.map st.rd)
 |[],_=>trivial
 |x::xs,hf=>by simp only[bX,af]at hf;exact⟨(arg_val (c:=dq C g st w) (c':=gC C.A (λ_=>0) w) rfl rfl (h.rd x) hf.1).2,Ya h xs hf.2⟩
theorem aru (DA:∀f,jl P f (Γ f)){o':Oper}(ho:o'.op=.call {callee:=.value f,args,argTypes:=ts})(hg:eE C g st a w []){k:Nat}(hf:st.rd f=.val false [.fn k])(hpr:(Γ k).pr=true){K:AS->az R}(hk:ahT Γ o' k args.toList st K=some r)(next:Act->World->Prop)(Q:Exit->Act->World->Prop)(il:∀cp a' w',py C cp a' w'->K cp=some r->next a' w'):o'.wp P a w next Q:=by
 have N2:=hg.rd f;rw[hf]at N2;have N2:=(fu N2).1;unfold ahT at hk;split at hk
 ·rename_i d hd;split at hk
  ·rename_i Js;cases hc:args.toList.all (λx=>(st.rd x).MH)with
   |false=>rw[hc]at hk;cases hk
   |true=>
    rw[hc]at hk;simp only[ah]at hk;cases jO:(Γ k).fn (args.toList.map st.rd)with
    |none=>rw[jO]at hk;cases hk
    |some y=>
     rw[jO]at hk;simp only[aa]at hk;cases Zm:((Γ k).back y).all AC.MH with
     |false=>rw[Zm]at hk;cases hk
     |true=>
      rw[Zm]at hk;simp only[ah]at hk;obtain⟨⟨fn,c,Td,Zl,HF⟩,_,_,_,Ez⟩:=DA k _ y jO;have N0:=Ez hpr C.A w (args.toList.map a.eval) (λq b o hq=>Nat.lt_of_lt_of_le (C.hA q b o hq).1 hg.frame.size) (Ya hg _ hc);have gP:(args.toList.map a.eval).toArray=args.map a.eval:=by apply fN;simp
      rw[gP]at N0;have fg:(execOp a.eval o').run P w=.ok (.enter k (args.map a.eval)) w:=by simp[execOp,ho,resolve,N2,Deferred.ofValue,invoke,callFunc,Td,Zl];simpa using HF
      unfold Oper.wp;rw[fg,Oper.upon_enter];refine N0.mono ?_;rintro e w' ⟨b,arr,T,fr,hw,rfl,hb,lf,uO,fO,jt⟩;show next (a.put o'.dst (.pointer (some ⟨b,0,none⟩))) w'
      rw[ez]at Js;have IG:=mQ lf;have Fe:∀b' x,g.fj b'=some x->b'≠b:=λb' x hx e=>by have:=(hg.gN b' x hx).1;omega
      have hr1:ca ⟨λb'=>if b'=b then 0 else g.hw b',λt=>if t=d then b else g.β t,C.A,g.hdr,nH st,st.ep,jL st,w'⟩ arr.toList ((Γ k).back y) []:=by
       have hv:gS (gC C.A hw w') (.agg arr.toList.toArray) (.val true ((Γ k).back y)) []:=⟨arr.toList,rfl,fO⟩
       obtain⟨_,vs,fU,h⟩:=arg_val (c:=gC C.A hw w') (c':=⟨λb'=>if b'=b then 0 else g.hw b',λt=>if t=d then b else g.β t,C.A,g.hdr,nH st,st.ep,jL st,w'⟩) rfl rfl hv Zm;have:arr.toList=vs:=by have fU:Value.agg arr.toList.toArray=.agg vs.toArray:=fU;simp only[Value.agg.injEq]at fU;simpa using congrArg Array.toList fU
       rw[this];exact h
      obtain⟨g',MU,h'⟩:=hg.abT d (cs:=(Γ k).back y) (arr:=arr) (T:=T) (fr:=fr) (fp:=[]) (w':=w') (bnew:=b) (hw':=λb'=>if b'=b then 0 else g.hw b') (.inr ⟨hb,Js⟩) ⟨jt.os,jt.tape,jt.output,jt.size,λb' iz _=>jt.block b' iz (λm=>m)⟩ lf uO IG (by simp) (λb' x hx _ hn=>by simp[hn]) (λb' o u ho hu=>by have iz:b'<w.heap.size:=World.block_lt_of_cell? w _ hu;exact⟨by simp[show b'≠b by omega];exact ho,Ct jt hu⟩) hr1 List.nodup_nil (by simp) (λb' iz=>by cases iz);have hdl:d<st.boxes.length:=(aC.1 Js).1;have hq:=h'.quiet (some d) (v:=.pointer (some ⟨b,0,none⟩)) (av:=.one (.ptr d 0)) (nq ⟨by simp[dq,MU],⟨(Γ k).back y,by rw[kZ];simp[hdl]⟩,rfl⟩);rw[hd];exact il _ _ _ ⟨g',hq⟩ hk
  cases hk
 cases hk
theorem ano (DA:∀f,jl P f (Γ f)){o':Oper}(ho:o'.op=.call {callee:=.value f,args,argTypes:=ts})(h:py C st a w){K:AS->az R}(hk:GO Γ o' f args.toList st K=some r)(next:Act->World->Prop)(Q:Exit->Act->World->Prop)(il:∀cp a' w',py C cp a' w'->K cp=some r->next a' w'):o'.wp P a w next Q:=by
 obtain⟨g,hg⟩:=h;unfold GO at hk;split at hk
 ·rename_i k hf
  have N2:=hg.rd f
  rw[hf]at N2
  have N2:=(fu N2).1
  cases kD:(Γ k).bx with
  |true=>rw[kD]at hk;exact ap8 DA ho hg hf kD hk next Q il
  |false=>
  rw[kD]at hk
  simp only[ae]at hk
  cases hpr:(Γ k).pr with
  |true=>rw[hpr]at hk;exact aru DA ho hg hf hpr hk next Q il
  |false=>
  rw[hpr]at hk
  simp only[ae]at hk
  cases Tf:(Γ k).io with
  |true=>rw[Tf]at hk;cases hk
  |false=>
  rw[Tf]at hk
  simp only[ae]at hk
  cases jO:(Γ k).fn (args.toList.map λx=>((st.rd x).fresh st).asArg st.ep)with
  |none=>rw[jO]at hk;cases hk
  |some y0=>
   rw[jO]at hk
   simp only[aa]at hk
   obtain⟨⟨fn,c,Td,Zl,HF⟩,Ez,_⟩:=DA k _ y0 jO
   have Ez:=Ez Tf kD
   have hk:K ((st.fW o'.dst).put o'.dst (((Γ k).res y0).GM st.ep (st.iU o'.dst)))=some r:=by unfold lH.res;cases Ti:(Γ k).sel y0 with|true=>rw[Ti]at hk;exact hk|false=>rw[Ti]at hk;exact hk
   generalize hy0:(Γ k).res y0=y at hk Ez
   have N0:=Ez (λ_ b o=>(dq C g st w).S b o/\b<w.heap.size) w (args.toList.map a.eval) (λ_ _ _ h=>h.2) (Yb hg args.toList)
   have gP:(args.toList.map a.eval).toArray=args.map a.eval:=by apply fN;simp
   rw[gP]at N0
   have fg:(execOp a.eval o').run P w=.ok (.enter k (args.map a.eval)) w:=by simp[execOp,ho,resolve,N2,Deferred.ofValue,invoke,callFunc,Td,Zl];simpa using HF
   unfold Oper.wp
   rw[fg,Oper.upon_enter]
   refine N0.mono ?_
   rintro e w' ⟨v,hw,fp,rfl,fO,Jr,GR,jt⟩
   show next (a.put o'.dst v) w'
   let hw':Nat->Nat:=λb=>if b∈fp then hw b else g.hw b
   have adj:∀b,b<w.heap.size->b∉fp:=λb hb hm=>by have:=(GR b hm).1;omega
   have hA':∀(hd:Nat->Value)(_:Bool)(b o:Nat),((dq C g st w).S b o/\b<w.heap.size)->(dq C {g with hw:=hw',hdr:=hd} (st.fW o'.dst) w').S b o:=by rintro hd _ b o ⟨hs,hb⟩;rcases hs with hs|hs;exact .inl hs;exact .inr (by simp only[dq,hw',aK (adj b hb)];exact hs)
   have yM:∃hd,(∀t,nH st t->hd t=g.hdr t)/\gS (dq C {g with hw:=hw',hdr:=hd} (st.fW o'.dst) w') v (y.GM st.ep (st.iU o'.dst)) fp:=by
    have akP:∀b∈fp,hw' b=hw b:=λb hb=>by simp[hw',hb]
    cases y with
    |val gg cs=>obtain⟨vs,fU,hr⟩:=fO;refine⟨sJ g.hdr (st.iU o'.dst) vs,λt ht=>CS ht,vs,fU,?_⟩;have:=DJ (c:=dq C {g with hw:=hw',hdr:=sJ g.hdr (st.iU o'.dst) vs} (st.fW o'.dst) w') (mk:=st.iU o'.dst) (hA' _) 0 hr akP (λi u hu t ht=>by rw[cO]at ht;exact⟨(qX ht).2.1,CR hu ht⟩);have Bs:(dq C {g with hw:=hw',hdr:=sJ g.hdr (st.iU o'.dst) vs} (st.fW o'.dst) w').ep=st.ep:=CN;rw[Bs]at this;exact this
    |yC ts=>obtain⟨ws,hv,hr⟩:=fO;obtain⟨all,Km⟩:=M4 hr;refine⟨sJ g.hdr (st.iU o'.dst) all,λt ht=>CS ht,ws,hv,?_⟩;have:=Rs (c:=dq C {g with hw:=hw',hdr:=sJ g.hdr (st.iU o'.dst) all} (st.fW o'.dst) w') (mk:=st.iU o'.dst) (hA' _) Km 0 akP (λi u hu t ht=>by rw[cO]at ht;exact⟨(qX ht).2.1,CR hu ht⟩);have Bs:(dq C {g with hw:=hw',hdr:=sJ g.hdr (st.iU o'.dst) all} (st.fW o'.dst) w').ep=st.ep:=CN;rw[Bs]at this;exact this
   obtain⟨hd,hhd,yM⟩:=yM
   obtain⟨g',pw⟩:=hg.RV o'.dst (hw':=hw') (hdr':=hd) (fp:=fp) (st1:=st.fW o'.dst) LB xa DL CN (λt ht=>⟨Ga ht,hhd t ht⟩)
    ⟨jt.os,jt.tape,jt.output,jt.size,λb hb _=>jt.block b hb (λm=>m)⟩ (λb x hx _=>by simp[hw',adj b (hg.gN b x hx).1])
    (λb o u ho hu=>by have hb:b<w.heap.size:=World.block_lt_of_cell? w _ hu;exact⟨by simp[hw',adj b hb];exact ho,Ct jt hu⟩) yM Jr (λb hb=>⟨(GR b hb).2,.inr (GR b hb).1⟩)
   exact il _ _ _ ⟨g',pw⟩ hk
 cases hk
end Go.Dn
